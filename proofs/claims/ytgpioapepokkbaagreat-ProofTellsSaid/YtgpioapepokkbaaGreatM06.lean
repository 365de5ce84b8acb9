/- A part of the proof. -/
import Derived.Shelf.SortM.Plain
import Derived.Shelf.SortM.SortNone
import Derived.Test.YtgpioapepokkbaaGreatProg
import Derived.KernelRfl
import Derived.Test.YtgpioapepokkbaaGreatM05
set_option linter.unusedSimpArgs false
set_option linter.unusedVariables false
set_option maxRecDepth 100000
set_option maxHeartbeats 4000000
noncomputable section
open Bool renaming and_eq_true->eX,and_false->gQ,eq_iff_iff->q8,false_and->dm,false_or->lr,not_eq_true->V9,not_eq_true'->yz,not_false->cv,not_true->bX,or_eq_false_iff->MI,or_false->lY,true_and->eF
open Decidable renaming em->dG
open List renaming all_append->ae0,all_eq_false->ID,all_eq_true->h2,append_assoc->gZ,append_nil->gk,drop->lA,eq_nil_of_length_eq_zero->mL,ext_getElem?->pU,filter_append->ue,filter_cons_of_neg->yW,filter_cons_of_pos->yV,filter_nil->rz,flatten_append->MN,flatten_cons->j8,getD_eq_getElem?_getD->fP,getElem?_drop->ll,getElem?_eq_getElem->bL,getElem?_eq_some_iff->ef,getElem?_map->bb,getElem_take->Et,length->o,length_append->fE,length_map->af,length_take->gO,length_take_le'->We,map_append->mA,map_congr_left->oV,map_cons->e8,map_id->aey,map_map->lX,map_nil->cM,map_take->yu,mem_append->iK,mem_map->fZ,mem_map_of_mem->tW,mem_of_getElem?->eN,mem_singleton->tx,pairwise_iff_getElem->aeO,pairwise_singleton->aeQ,replicate->eL,replicate_succ->qF,set_cons_zero->aeT,take->lz,take_add_one->fQ,take_append_drop->xN,take_length->k4,take_of_length_le->du,take_zero->o2
open List.cons renaming injEq->bn
open Nat renaming add_assoc->nZ,eq_zero_or_pos->jo,exists_eq_add_of_le->afc,le_of_ble_eq_true->EC,le_refl->cA,mul_one->dU,one_mul->sV,reduceEqDiff->tI,sub_zero->Iz,zero_le->fY
open Option renaming bind_none->iy,bind_some->hE,map_eq_some_iff->dI,map_some->rV,toList_some->Eu
open Option.some renaming inj->ln,injEq->cz
open Prod renaming ext->dV
namespace Go.Mini
open Go
def er (ad aJ:List bd)(fl:List (List Int)):List Data:=[.X (ad.map aH),.X (aJ.map aH),.X (fl.map l8)]
theorem aew {ad lk aJ H8:List bd}{fl w9:List (List Int)}(h:er ad aJ fl=er lk H8 w9):ad=lk/\aJ=H8/\fl=w9:=by
 simp only[er,bn,Data.X.injEq,and_true] at h;exact⟨map_inj l4 _ _ h.1,map_inj l4 _ _ h.2.1,map_inj T2 _ _ h.2.2⟩
def En (H:List Int)(cs:List av)(ad aJ:List bd)(fl:List (List Int)):Bool:=decide ((o H:Int)>6)||(decide ((o cs:Int)>12)||(decide ((o ad:Int)>8)||(decide ((o aJ:Int)>14)||decide ((o fl:Int)>12))))
def uk (H:List Int)(cs:List av)(ad aJ:List bd)(fl:List (List Int)):Bool:=!En H cs ad aJ fl&&((ad.all λf=>nG f 8)&&((aJ.all λf=>nG f 8)&&fl.all λr => !decide ((o r:Int)>12)))
theorem Eo {α:Type}{p:α->Bool}{l:List α}{i:Nat}{x:α}(I:l[i]?=some x)(h:p x=false):l.all p=false:=by
 rw[ID];exact⟨x,eN I,by rw[h];decide⟩
abbrev y6:(List Int)×(List av)×(List bd)×(List bd)×(List (List Int))->List Data:=λ(H,cs,ad,aJ,fl)=>[.X (H.map Y),.X (cs.map bR),.agg (er ad aJ fl)]
def VP:=bU y6 λ(H,cs,ad,aJ,fl)=>some (.same (.bool (uk H cs ad aJ fl)))
theorem Ep:∀a b,y6 a=y6 b->a=b:=by
  rintro⟨sM,rr,kS,Mv,xd⟩ ⟨sN,mQ,lV,Mw,xe⟩ h;simp only[bn,Data.X.injEq,Data.agg.injEq,and_true] at h;obtain⟨D,G,ag⟩:=h;obtain⟨rfl,rfl,rfl⟩:=aew ag;rw[map_inj eR _ _ D,map_inj oC _ _ G]
@[go_sem] theorem asu (H:List Int)(cs:List av)(ad:List bd)(aJ:List bd)(fl:List (List Int)):VP [.X (H.map Y),.X (cs.map bR),.agg (er ad aJ fl)]=some (.same (.bool (uk H cs ad aJ fl))):=b3 Ep (H,cs,ad,aJ,fl)
theorem asv (T:br)(lP:T JN=aK Sq)(H:List Int)(cs:List av)(ad:List bd)(aJ:List bd)(fl:List (List Int)):WP T VB (.same (.bool (uk H cs ad aJ fl))) [.J (.X (H.map Y)),.J (.X (cs.map bR)),.J (.agg (er ad aJ fl))]:=by
 refine b4 ?_;simp only[VB];unfold uk;rcases fp:En H cs ad aJ fl
 case true =>
  unfold En at fp;rcases bm:decide ((o H:Int)>6)
  case true =>
         refine aQ ?_;repeat' (intro h<;>simp only[h,go_sem,go_sem_proc,lP,er,bm,af,bX,dm]<;>try refine al ?_ ?_)
  rw[bm,lr] at fp;rcases bN:decide ((o cs:Int)>12)
  case true =>
         refine aQ ?_;repeat' (intro h<;>simp only[h,go_sem,go_sem_proc,lP,er,bm,bN,af,bX,dm]<;>try refine al ?_ ?_)
  rw[bN,lr] at fp;rcases bO:decide ((o ad:Int)>8)
  case true =>
         refine aQ ?_;repeat' (intro h<;>simp only[h,go_sem,go_sem_proc,lP,er,bm,bN,bO,af,bX,dm]<;>try refine al ?_ ?_)
  rw[bO,lr] at fp;rcases cp:decide ((o aJ:Int)>14)
  case true =>
         refine aQ ?_;repeat' (intro h<;>simp only[h,go_sem,go_sem_proc,lP,er,bm,bN,bO,cp,af,bX,dm]<;>try refine al ?_ ?_)
  rw[cp,lr] at fp;refine aQ ?_;repeat' (intro h<;>simp only[h,go_sem,go_sem_proc,lP,er,bm,bN,bO,cp,fp,af,bX,dm]<;>try refine al ?_ ?_)
 unfold En at fp;simp only[MI] at fp;obtain⟨bm,bN,bO,cp,nP⟩:=fp;have ub:=of_decide_eq_false bO;have uc:=of_decide_eq_false cp;have n5:=of_decide_eq_false nP;simp only[go_sem,go_sem_proc,lP,er,bm,bN,bO,cp,nP,af,cv,eF];refine dw [5] [369005] (λ(i:Nat) tm m=>i<=o ad/\tm 7=.J (.int .i64 i)/\(ad.take i).all (λf=>nG f 8)=true) (λi=>o ad-i) 0 (by refine⟨by omega,rfl,rfl⟩) ?_;intro vs ms a7 aY;simp only[go_sem,go_sem_proc,lP,er,af] at a7 aY;subst a7 aY;rintro i tm m R hm ⟨Q,bQ,aM⟩;simp only[go_sem,go_sem_proc,lP,bn] at R hm;have b6:=R;rcases dG (i<o ad) with az|cb
 ·have d1:decide ((i:Int)<(o ad:Int))=true:=dn;have cn:=eY (i:=i) (by omega);obtain⟨⟨⟨f1,f2⟩,⟨f3,f4⟩⟩,I⟩:∃x,ad[i]?=some x:=⟨_,bL az⟩;rcases q:nG ((f1,f2),(f3,f4)) 8
  ·rw[Eo I q,dm];refine aQ ?_;repeat' (intro h<;>simp only[h,go_sem,go_sem_proc,lP,b6,bQ,hm,I,d1,q,aH,af,bb,cv]<;>try refine al ?_ ?_)
  ·refine aQ ?_;repeat' (intro h<;>simp only[h,go_sem,go_sem_proc,lP,b6,bQ,hm,I,d1,cn,q,aH,af,bb,bX]<;>try refine al ?_ ?_)
   exact⟨i+1,by omega,by omega,rfl,by rw[Dt I,aM,q];rfl⟩
 have d1:decide ((i:Int)<(o ad:Int))=false:=cY;rw[du (by omega)] at aM;rw[aM,eF];simp only[go_sem,go_sem_proc,lP,b6,bQ,hm,d1,af];refine dw [5] [369005] (λ(i:Nat) tm m=>i<=o aJ/\tm 8=.J (.int .i64 i)/\(aJ.take i).all (λf=>nG f 8)=true) (λi=>o aJ-i) 0 (by refine⟨by omega,rfl,rfl⟩) ?_;intro vs ms a7 aY;simp only[go_sem,go_sem_proc,lP,b6,bQ,hm,af] at a7 aY;subst a7 aY;clear b6 bQ hm R d1 aM;clear cb Q;rintro i tm m R hm ⟨Q,bQ,aM⟩;simp only[go_sem,go_sem_proc,lP,bn] at R hm;have b6:=R;rcases dG (i<o aJ) with az|cb
 ·have d1:decide ((i:Int)<(o aJ:Int))=true:=dn;have cn:=eY (i:=i) (by omega);obtain⟨⟨⟨f1,f2⟩,⟨f3,f4⟩⟩,I⟩:∃x,aJ[i]?=some x:=⟨_,bL az⟩;rcases q:nG ((f1,f2),(f3,f4)) 8
  ·rw[Eo I q,dm];refine aQ ?_;repeat' (intro h<;>simp only[h,go_sem,go_sem_proc,lP,b6,bQ,hm,I,d1,q,aH,af,bb,cv]<;>try refine al ?_ ?_)
  ·refine aQ ?_;repeat' (intro h<;>simp only[h,go_sem,go_sem_proc,lP,b6,bQ,hm,I,d1,cn,q,aH,af,bb,bX]<;>try refine al ?_ ?_)
   exact⟨i+1,by omega,by omega,rfl,by rw[Dt I,aM,q];rfl⟩
 have d1:decide ((i:Int)<(o aJ:Int))=false:=cY;rw[du (by omega)] at aM;rw[aM,eF];simp only[go_sem,go_sem_proc,lP,b6,bQ,hm,d1,af];refine dw [5] [369005] (λ(i:Nat) tm m=>i<=o fl/\tm 9=.J (.int .i64 i)/\(fl.take i).all (λr => !decide ((o r:Int)>12))=true) (λi=>o fl-i) 0 (by refine⟨by omega,rfl,rfl⟩) ?_;intro vs ms a7 aY;simp only[go_sem,go_sem_proc,lP,b6,bQ,hm,af] at a7 aY;subst a7 aY;clear b6 bQ hm R d1 aM;clear cb Q;rintro i tm m R hm ⟨Q,bQ,aM⟩;simp only[go_sem,go_sem_proc,lP,bn] at R hm;have b6:=R;rcases dG (i<o fl) with az|cb
 ·have d1:decide ((i:Int)<(o fl:Int))=true:=dn;have cn:=eY (i:=i) (by omega);obtain⟨r,I⟩:∃x,fl[i]?=some x:=⟨_,bL az⟩;rcases q:decide ((o r:Int)>12)
  ·refine aQ ?_;repeat' (intro h<;>simp only[h,go_sem,go_sem_proc,lP,b6,bQ,hm,I,d1,cn,q,l8,af,bb]<;>try refine al ?_ ?_)
   exact⟨i+1,by omega,by omega,rfl,by rw[Dt I,aM,q];rfl⟩
  ·rw[Eo I (by rw[q];rfl)];refine aQ ?_;repeat' (intro h<;>simp only[h,go_sem,go_sem_proc,lP,b6,bQ,hm,I,d1,q,l8,af,bb]<;>try refine al ?_ ?_)
 have d1:decide ((i:Int)<(o fl:Int))=false:=cY;rw[du (by omega)] at aM;rw[aM];refine aQ ?_;repeat' (intro h<;>simp only[h,go_sem,go_sem_proc,lP,b6,bQ,hm,d1,af]<;>try refine al ?_ ?_)
def MJ:=bU Mt λ(l,m)=>cq (o l<=1000000/\o m<=1000000) (.same (.bool (decide (l=m))))
@[go_sem] theorem aex (l:List Int)(m:List Int)(E:(o l)<=1000000/\o m<=1000000):MJ [.X (l.map Y),.X (m.map Y)]=some (.same (.bool (decide (l=m)))):=(b3 ad3 (l,m)).trans (cw E _)
theorem asw (T:br)  (l:List Int) (m:List Int) (E:(o l)<=1000000/\o m<=1000000):WP T VD (.same (.bool (decide (l=m)))) [.J (.X (l.map Y)),.J (.X (m.map Y))]:=by
 refine b4 ?_;simp only[VD];obtain⟨D,G⟩:=E;rcases q:((o l:Int)==(o m:Int))
 ·have bZ:decide (l=m)=false:=gr λe=>by rw[e,beq_self_eq_true] at q;cases q
  refine aQ ?_;repeat' (intro h<;>simp only[h,go_sem,go_sem_proc,q,bZ,af,bne,cv]<;>try refine al ?_ ?_)
 have ax:(o l)=o m:=by have:=eq_of_beq q;omega
 simp only[go_sem,go_sem_proc,q,af,bne,bX];refine dw [0,1] [] (λ(i:Nat) tm _=>i<=o l/\l.take i=m.take i/\tm 5=.J (.int .i64 i)) (λi=>o l-i) 0 (by refine⟨by omega,by simp,rfl⟩) ?_;intro vs ms a7 aY;simp only[go_sem,go_sem_proc,af] at a7 aY;subst a7 aY;rintro i tm mem R-⟨Q,bV,b6⟩;simp only[go_sem,go_sem_proc,bn] at R;obtain⟨b8,aw⟩:=R;rcases dG (i<o l) with az|cb
 ·have d3:decide ((i:Int)<(o l:Int))=true:=dn;have cn:=eY (i:=i) (by omega);obtain⟨x,I⟩:∃x,l[i]?=some x:=⟨_,bL az⟩;obtain⟨y,ak⟩:∃y,m[i]?=some y:=⟨_,bL (by omega)⟩;rcases c2:(x==y)
  ·have bZ:decide (l=m)=false:=gr λe=>by
    rw[e,ak] at I
    cases I;rw[beq_self_eq_true] at c2
    cases c2
   refine aQ ?_;repeat' (intro h<;>simp only[h,go_sem,go_sem_proc,b8,aw,b6,I,ak,d3,c2,bZ,Y,af,bb,bne,cv]<;>try refine al ?_ ?_)
  ·obtain rfl:x=y:=eq_of_beq c2;refine aQ ?_;repeat' (intro h<;>simp only[h,go_sem,go_sem_proc,b8,aw,b6,I,ak,d3,cn,c2,Y,af,bb,bne,bX]<;>try refine al ?_ ?_)
   refine⟨i+1,by omega,by omega,?_,rfl⟩
   rw[fQ,fQ,bV,I,ak]
 ·have d3:decide ((i:Int)<(o l:Int))=false:=cY
  have he:decide (l=m)=true:=hc (by
   rw[du (by omega),du (by omega)] at bV;exact bV)
  refine aQ ?_;repeat' (intro h<;>simp only[h,go_sem,go_sem_proc,b8,aw,b6,d3,he,af]<;>try refine al ?_ ?_)
def MK:=bU Iq λ(l,n)=>cq (o l<=1000000) (.same (.bool (decide (n∈l))))
@[go_sem] theorem VQ (l:List Int)(n:Int)(E:(o l)<=1000000):MK [.X (l.map Y),.int .i64 n]=some (.same (.bool (decide (n∈l)))):=(b3 UT (l,n)).trans (cw E _)
theorem asx (T:br)  (l:List Int) (n:Int) (E:(o l)<=1000000):WP T VF (.same (.bool (decide (n∈l)))) [.J (.X (l.map Y)),.J (.int .i64 n)]:=by
 refine b4 ?_;simp only[VF];simp only[go_sem,go_sem_proc,af];refine dw [0,1] [] (λ(i:Nat) tm _=>i<=o l/\n ∉ l.take i/\tm 5=.J (.int .i64 i)) (λi=>o l-i) 0 (by refine⟨by omega,by simp,rfl⟩) ?_;intro vs ms a7 aY;simp only[go_sem,go_sem_proc,af] at a7 aY;subst a7 aY;rintro i tm mem R-⟨Q,bV,b6⟩;simp only[go_sem,go_sem_proc,bn] at R;obtain⟨b8,aw⟩:=R;rcases dG (i<o l) with az|cb
 ·have d3:decide ((i:Int)<(o l:Int))=true:=dn;have cn:=eY (i:=i) (by omega);obtain⟨x,I⟩:∃x,l[i]?=some x:=⟨_,bL az⟩;rcases c2:(x==n)
  ·refine aQ ?_;repeat' (intro h<;>simp only[h,go_sem,go_sem_proc,b8,aw,b6,I,d3,cn,c2,Y,af,bb]<;>try refine al ?_ ?_)
   refine⟨i+1,by omega,by omega,λhm=>?_,rfl⟩
   rw[fQ,I] at hm;rcases iK.1 hm with hm|hm
   ·exact bV hm
   ·simp at hm;exact (beq_eq_false_iff_ne.1 c2) hm.symm
  ·obtain rfl:x=n:=eq_of_beq c2;rw[hc (eN I)];refine aQ ?_;repeat' (intro h<;>simp only[h,go_sem,go_sem_proc,b8,aw,b6,I,d3,c2,Y,af,bb]<;>try refine al ?_ ?_)
 ·have d3:decide ((i:Int)<(o l:Int))=false:=cY;rw[du (by omega)] at bV;rw[gr bV];refine aQ ?_;repeat' (intro h<;>simp only[h,go_sem,go_sem_proc,b8,aw,b6,d3,af]<;>try refine al ?_ ?_)
theorem j5 (l:List Rat):pz (l.map ai)=l:=by
 unfold pz;rw[lX];exact (oV λx _=>AL x).trans (aey _)
theorem y7 {ad:List bd}(h:ad.all jF=true):∃aF:List Rat,ad=aF.map ai/\∀x∈aF,0<=x/\dD x:=by
 rw[h2] at h
 have D:∀f∈ad,f=ai (ot f)/\dD (ot f)/\0<=ot f:=λf aN=>by
  have G:=h f aN;unfold jF at G;rw[eX] at G;obtain⟨ag,aR⟩:=G;have bs:=abQ ag;refine⟨bs.1,bs.2,?_⟩;have aR:=of_decide_eq_true aR;rw[bs.1] at aR;have k:¬ (ot f).num.sign<0:=by have:(ot f).num.sign>=0:=aR;omega
  have b1:decide ((ot f).num.sign<0)=decide (ot f<0):=HY;rw[gr k] at b1;have:=of_decide_eq_false b1.symm;grind
 refine⟨pz ad,?_,λx I=>?_⟩
 ·unfold pz;rw[lX];exact (aey ad).symm.trans (oV λf aN=>(D f aN).1)
 ·obtain⟨f,aN,rfl⟩:=fZ.1 I;exact⟨(D f aN).2.2,(D f aN).2.1⟩
theorem IE {H:List Int}{cs:List av}{ad aJ:List bd}(h:gD H cs ad aJ=true):ad.all jF=true/\aJ.all jF=true:=by
 unfold gD at h;simp only[eX] at h;exact h.2.2.2
structure rD (H:List Int) (cs:List av) (ad aJ:List bd):Prop where
 n:(o H)<=1000000
 c:(o cs)<=1000000
 h:ej ad
 p:ej aJ
 rC:gD H cs ad aJ=true->iB H cs (pz aJ)
def pE (H:List Int)(cs:List av)(ad aJ:List bd):List Int:=if gD H cs ad aJ=true then eH cs (pz aJ) (o H) else []
def Er:=bU y6 λ(H,cs,ad,aJ,fl)=>cq (rD H cs ad aJ) (.same (.X ((pE H cs ad aJ).map Y)))
@[go_sem] theorem aez (H:List Int)(cs:List av)(ad:List bd)(aJ:List bd)(fl:List (List Int))(E:rD H cs ad aJ):Er [.X (H.map Y),.X (cs.map bR),.agg (er ad aJ fl)]=some (.same (.X ((pE H cs ad aJ).map Y))):=(b3 Ep (H,cs,ad,aJ,fl)).trans (cw E _)
theorem asy (T:br)(m8:T Gc=aK MG)(iC:T Aa=aK It)(H:List Int)(cs:List av)(ad:List bd)(aJ:List bd)(fl:List (List Int))(E:rD H cs ad aJ):WP T Rt (.same (.X ((pE H cs ad aJ).map Y))) [.J (.X (H.map Y)),.J (.X (cs.map bR)),.J (.agg (er ad aJ fl))]:=by
 refine b4 ?_;simp only[Rt];have U:=aeo H cs ad aJ fl ⟨E.n,E.c,E.h,E.p⟩;have g4:=E.rC;clear E;unfold pE;rcases dk:gD H cs ad aJ
 ·rw[dk] at U;rw[aq (by decide)];simp only[ed] at U;refine aQ ?_;repeat' (intro h<;>simp only[h,go_sem,go_sem_proc,m8,iC,er,U,cv,cM]<;>try refine al ?_ ?_)
 obtain⟨ps,rfl,-⟩:=y7 (IE dk).2;rw[dk] at U;rw[aj rfl];rw[j5] at g4 ⊢;have aa:=U8 H cs ad ps fl (g4 dk);simp only[ed] at U aa;generalize ps.map ai=vy at *;generalize eH cs ps (o H)=S at *;refine aQ ?_;repeat' (intro h<;>simp only[h,go_sem,go_sem_proc,m8,iC,er,U,aa,bX]<;>try refine al ?_ ?_)
theorem asz (H:List Int)(cs:List av)(ad:List bd)(ps:List Rat)(fl:List (List Int))(D:(o H)<=1000000)(G:(o cs)<=1000000)(ag:ej ad)(aR:ej (ps.map ai))(bs:gD H cs ad (ps.map ai)=true->iB H cs ps):Er [.X (H.map Y),.X (cs.map bR),.agg (er ad (ps.map ai) fl)]=some (.same (.X ((if gD H cs ad (ps.map ai)=true then eH cs ps (o H) else []).map Y))):=by
 have h:=aez H cs ad (ps.map ai) fl ⟨D,G,ag,aR,by rw[j5];exact bs⟩
 unfold pE at h;rw[j5] at h;exact h
def VR:=bU Ah λ(a,b)=>cq (c8 a/\c8 b) (.same (.X ([ai (a:Rat),ai (b:Rat)].map aH)))
@[go_sem] theorem VS (a:Int)(b:Int)(E:c8 a/\c8 b):VR [.int .i64 a,.int .i64 b]=some (.same (.X ([ai (a:Rat),ai (b:Rat)].map aH))):=(b3 Gr (a,b)).trans (cw E _)
theorem asA (T:br)(h9:T xT=aK Dp)(a:Int)(b:Int)(E:c8 a/\c8 b):WP T VO (.same (.X ([ai (a:Rat),ai (b:Rat)].map aH))) [.J (.int .i64 a),.J (.int .i64 b)]:=by
 refine b4 ?_;simp only[VO];obtain⟨D,G⟩:=E;have lH:=Vz D;have kn:=Vz G;generalize ai (a:Rat)=A at *;generalize ai (b:Rat)=B at *;obtain⟨⟨c6,dv⟩,⟨a3,a4⟩⟩:=A;obtain⟨⟨c5,eg⟩,⟨j2,lf⟩⟩:=B;simp only[aH] at lH kn;refine aQ ?_;repeat' (intro h<;>simp only[h,go_sem,go_sem_proc,h9,lH,kn,aH,e8,cM]<;>try refine al ?_ ?_)
def j6:List av:=[(1,0,0,5),(0,1,0,5)]
theorem VT:fV [0,0] j6:=⟨by decide,by decide,by decide,by decide⟩
theorem asB {n:Int}(au:0<=n)(h:n<=9):(0:Rat)<=(n:Rat)/\eB 460 (n:Rat):=by
 refine⟨by exact_mod_cast au,(show eB 4 (n:Rat) from⟨?_,?_⟩).mono (by omega)⟩
 ·rw[Rat.num_intCast];omega
 ·rw[Rat.den_intCast];decide
def fe (l:List Int):List Rat:=l.map λn:Int=>(n:Rat)
theorem nine {l:List Int}(h:∀x∈l,0<=x/\x<=9):∀q∈fe l,0<=q/\eB 460 q:=λq aF=>by
 obtain⟨n,aL,rfl⟩:=fZ.1 aF;exact asB (h n aL).1 (h n aL).2
theorem IF {l:List Int}(h:∀x∈l,0<=x/\x<=9):∀q∈fe l,dD q:=λq aF=>oB (nine h q aF).2 (by omega)
theorem aeA {a b:List Int}(D:(o a)=2)(G:(o b)=2)(aM:∀x∈a,0<=x/\x<=9)(ah:∀x∈b,0<=x/\x<=9):gD [0,0] j6 ((fe a).map ai) ((fe b).map ai)=true :=
 ass VT.right (by unfold fe;rw[af,D];rfl) (by unfold fe;rw[af,G];rfl) (λx I=>⟨(nine aM x I).1,oB (nine aM x I).2 (by omega)⟩) λx I=>⟨(nine ah x I).1,IF ah x I⟩
theorem asC:eH j6 (fe [2,2]) 2=[0,1]:=by decide +kernel
theorem asD:eH j6 (fe [5,5]) 2=[]:=by decide +kernel
theorem asE:(eC j6 (fe [2,2]) (eH j6 (fe [2,2]) 2) 2).length=2:=by decide +kernel
theorem asF:(eC j6 (fe [5,5]) (eH j6 (fe [5,5]) 2) 2).length=0:=by decide +kernel
theorem asG:jG (hZ [0,0] j6 (fe [2,2]) (fe [2,2])) 2=0:=by decide +kernel
theorem asH:jG (hZ [0,0] j6 (fe [5,5]) (fe [5,5])) 2=0:=by decide +kernel
theorem aeB:jG (hZ [0,0] j6 (fe [5,4]) (fe [5,5])) 2=24:=by decide +kernel
theorem asI:Er [.X (([0,0]:List Int).map Y),.X (j6.map bR),.agg (er ((fe [2,2]).map ai) ((fe [2,2]).map ai) [[0,1]])]=some (.same (.X (([0,1]:List Int).map Y))):=by
 have ff:ej ((fe [2,2]).map ai):=⟨by decide,λf aN=>by obtain⟨x,I,rfl⟩:=fZ.1 aN;exact gW (IF (by decide) x I)⟩
 have h:=asz [0,0] j6 ((fe [2,2]).map ai) (fe [2,2]) [[0,1]] (by decide) (by decide) ff ff λ_=>⟨rfl,by decide,by decide,λi=>VT.own i,IF (by decide)⟩
 rw[aj (aeA rfl rfl (by decide) (by decide)),show ([0,0]:List Int).length=2 from rfl,asC] at h;exact h
theorem aeC {H:List Int}{cs:List av}{ad aJ:List bd}{fl:List (List Int)}(h:uk H cs ad aJ fl=true):(o H)<=6/\o cs<=12:=by
 unfold uk En at h;simp only[eX,yz,MI,decide_eq_false_iff_not] at h;omega
theorem asJ {H:List Int}{cs:List av}{ad aJ:List bd}{fl:List (List Int)}(h:uk H cs ad aJ fl=true):arf H cs:=by
 obtain⟨D,G⟩:=aeC h;exact⟨by omega,by omega,λU=>⟨U,D,G,λc E=>((m3.1 U).2.2.2 c E).2.2.2.2.2.2.2⟩⟩
section
variable {H:List Int} {cs:List av} (aa:fV H cs)
include aa
end
def xj (cs:List av)(n:Nat):List av:=(List.range n).flatMap λi:Nat=>cT cs (i:Int)
theorem asK (cs:List av)(n:Nat):xj cs (n+1)=xj cs n++cT cs (n:Int):=by
 unfold xj;rw[List.range_succ,List.flatMap_append];simp
theorem asL {cs:List av}{n:Nat}{c:av}(h:c∈xj cs n):c∈cs:=by
 unfold xj at h;obtain⟨i,-,E⟩:=List.mem_flatMap.1 h;exact (H3.1 E).1
theorem asM {H:List Int}{cs:List av}(aa:fV H cs)(a1:dL->Rat):cy ((xj cs (o H)).map dJ) a1=cy (cf H cs).dM a1:=by
 have D:∀n,cy ((xj cs n).map dJ) a1=cg n λi=>cy (cf H cs).dM λc=>if c.aC=i then a1 c else 0:=by
  intro n
  induction n with
  |zero=>rfl
  |succ n aA =>
   rw[asK,mA,LN,aA,arn aa];rfl
 rw[D,Ls (n:=o H) aa.ok.aC λ_ c=>a1 c]
theorem asN {H:List Int}{cs:List av}(aa:fV H cs)(x:Nat->Rat)(i:Nat):m6 H cs x i (xj cs (o H))=(cf H cs).qj x i:=by
 unfold m6;rw[asM aa];rfl
theorem y0.qj {H:List Int}{cs:List av}(aa:fV H cs){x:Nat->Rat}{s:Nat->Rat}(h:y0 H cs x (xj cs (o H)) s):∀i,i<(o H)->s i=(cf H cs).qj x i:=λi Q=>by
 rw[<-asN aa];exact aqO aa.right x i _ _ rfl (λc E=>asL E) _ (h.a i Q)
def VU:=bU Mo λ(l,ab)=>cq (ej l/\ej ab) (.same (.bool (wU l ab)))
@[go_sem] theorem asO (l:List bd)(ab:List bd)(E:ej l/\ej ab):VU [.X (l.map aH),.X (ab.map aH)]=some (.same (.bool (wU l ab))):=(b3 adU (l,ab)).trans (cw E _)
theorem asP (T:br)(gS:T FW=aK Hi)(l:List bd)(ab:List bd)(E:ej l/\ej ab):WP T To (.same (.bool (wU l ab))) [.J (.X (l.map aH)),.J (.X (ab.map aH))]:=by
 refine b4 ?_;simp only[To];obtain⟨⟨bk,Jm⟩,bp,Nu⟩:=E
 by_cases ax:(o l)=o ab
 ·have aw:(((o l:Nat):Int)==((o ab:Nat):Int))=true:=by simp;omega
  simp only[go_sem,go_sem_proc,gS,af,aw,bX,bne];refine dw [0,1] [] (λ(i:Nat) tm mem=>i<=o l/\l.take i=ab.take i/\tm 5=.J (.int .i64 i)) (λi=>o l-i) 0 (by refine⟨by omega,by simp,rfl⟩) ?_;intro vs ms a7 aY;simp only[go_sem,go_sem_proc,gS,af] at a7 aY;subst a7 aY;rintro i tm mem R hm ⟨Q,aN,bs⟩;simp only[go_sem,go_sem_proc,gS,bn] at R;obtain⟨au,D⟩:=R;rcases dG (i<o l) with az|cb
  ·obtain⟨⟨⟨a,b⟩,⟨c,e⟩⟩,I⟩:∃f,l[i]?=some f:=⟨_,bL az⟩;obtain⟨⟨⟨il,dO⟩,⟨c',e'⟩⟩,ak⟩:∃f,ab[i]?=some f:=⟨_,bL (by omega)⟩;obtain⟨lH,kn⟩:=Jm _ (eN I);obtain⟨sK,sL⟩:=Nu _ (eN ak);dsimp only at lH kn sK sL;have d1:decide ((i:Int)<(o l:Int))=true:=dn;have cn:=eY (i:=i) (by omega);rcases aa:AW ((a,b),(c,e)) ((il,dO),(c',e'))
   ·have U:wU l ab=false:=by
     refine gr λh=>of_decide_eq_false aa ?_;rw[h,ak] at I;exact (ln I).symm
    rw[U];simp only[go_sem,go_sem_proc,gS,au,D,bs,I,ak,d1,cn,lH,kn,sK,sL,aa,aH,af,bb];repeat' (first|refine al ?_ ?_|fail)<;>intro h<;>simp only[h,go_sem,go_sem_proc,gS,au,D,bs,I,ak,d1,cn,lH,kn,sK,sL,aa,aH,af,bb]
   ·simp only[go_sem,go_sem_proc,gS,au,D,bs,I,ak,d1,cn,lH,kn,sK,sL,aa,aH,af,bb];repeat' (first|refine al ?_ ?_|fail)<;>intro h<;>simp only[h,go_sem,go_sem_proc,gS,au,D,bs,I,ak,d1,cn,lH,kn,sK,sL,aa,aH,af,bb]
    exact⟨i+1,by omega,by omega,by rw[fQ,fQ,I,ak,aN,of_decide_eq_true aa],rfl⟩
  ·have d1:decide ((i:Int)<(o l:Int))=false:=cY
   have U:wU l ab=true:=by
    refine hc ?_;rw[du (by omega),du (by omega)] at aN;exact aN
   rw[U];simp only[go_sem,go_sem_proc,gS,au,D,bs,d1,af];repeat' (first|refine al ?_ ?_|fail)<;>intro h<;>simp only[h,go_sem,go_sem_proc,gS,au,D,bs,d1,af]
 ·have aw:(((o l:Nat):Int)==((o ab:Nat):Int))=false:=by simp;omega
  have U:wU l ab=false:=gr λh=>ax (by rw[h]);rw[U];simp only[go_sem,go_sem_proc,gS,af,aw,cv,bne];repeat' (first|refine al ?_ ?_|fail)<;>intro h<;>simp only[h,go_sem,go_sem_proc,gS,af,aw,cv,bne]
theorem asQ {x:Rat}(h:dD x)(aN:nG (ai x) 8=true):eB 460 x:=by
 have:=arh (d:=8) (A9 h) aN;rw[AL] at this;exact this.mono (by omega)
theorem asR {x:List Data}(h:Fits [.X (.st [.st [.int .i64,.X (.int .i64)],.st [.int .i64,.X (.int .i64)]]),.X (.st [.st [.int .i64,.X (.int .i64)],.st [.int .i64,.X (.int .i64)]]),.X (.X (.int .i64))] x):∃ad aJ fl,x=er ad aJ fl:=by
 simp only[Fits] at h;obtain⟨_,_,rfl,D,_,_,rfl,G,_,_,rfl,ag,rfl⟩:=h;unfold Fit at D G ag;obtain⟨aAw,rfl,-,dh⟩:=D;obtain⟨aaC,rfl,-,cR⟩:=G;obtain⟨aAx,rfl,-,lp⟩:=ag;obtain⟨ad,rfl⟩:=aaD dh;obtain⟨aJ,rfl⟩:=aaD cR
 obtain⟨fl,rfl,-⟩:=FP (e:=l8) (good:=λ_=>True) λx I=>by
  have:=lp x I;unfold Fit at this;obtain⟨es,rfl,-,g⟩:=this;obtain⟨l,rfl⟩:=KY g;exact⟨l,rfl,trivial⟩
 exact⟨ad,aJ,fl,rfl⟩
end Go.Mini
namespace Go.Mini
open Go
variable {P:Program} {ρ:Shelf.Ren} {A:Nat->Prop} {w:World} {B:Lay} {mem:Mem}
theorem asS (w:World)(n dc:Nat)(d:Array Int)(os:Array Obj){vs:Array Value}{T:TypeId}(h:w.heap[dc]?=some (.cells vs T (0,0))):
  (Sort.grow (Sort.putRow (Value.int .i64) (Sort.ahead w n) dc 0 d) os).heap[dc]?=some (.cells (Sort.putCells (Value.int .i64) 0 d vs) T (0,0)):=by
 have az:=(Array.getElem?_eq_some_iff.1 h).1;unfold Sort.grow Sort.putRow Sort.mapBlock Sort.ahead;dsimp only;rw[Array.getElem?_append_left (by rw[Array.size_modify];exact az),Array.getElem?_modify,aj rfl,h]
 rfl
theorem aeD (w:World)(n dc:Nat)(d:Array Int)(os:Array Obj){b:Nat}(ah:b<w.heap.size)(h:b≠dc):
  (Sort.grow (Sort.putRow (Value.int .i64) (Sort.ahead w n) dc 0 d) os).heap[b]?=w.heap[b]?:=by
 unfold Sort.grow Sort.putRow Sort.mapBlock Sort.ahead;dsimp only;rw[Array.getElem?_append_left (by rw[Array.size_modify];exact ah),Array.getElem?_modify,aq (λe=>h e.symm)]
theorem VV (w:World)(n dc:Nat)(d:Array Int)(os:Array Obj):w.heap.size<=(Sort.grow (Sort.putRow (Value.int .i64) (Sort.ahead w n) dc 0 d) os).heap.size:=by
 unfold Sort.grow Sort.putRow Sort.mapBlock Sort.ahead;dsimp only;rw[Array.size_append,Array.size_modify];omega
def Es (l:List Int):List Int:=l.mergeSort λx y=>decide (x<=y)
theorem asT (L:Proofs.SlLaysM.n5 P ρ){f:FuncId}(aN:ρ.f 5=f){k g:Nat}{l:List Int}(ax:(o l)<=1000000)(hm:mem k=some (g,l.map λx=>O.J (.int .i64 x))){vs:List Value}(bY:eK A w B mem)
  (ad:db w (ca A B) B [.ref k g 1 0 (o l)] vs):Jp P f vs A w B mem (.rel λm mem'=>m=.cQ []/\mem'=bI mem k g ((Es l).map λx=>O.J (.int .i64 x))):=by
 obtain⟨hlen,ad⟩:=ad
 obtain⟨v,rfl⟩:∃v,vs=[v]:=by
  cases vs with
  |nil=>cases hlen
  |cons v r =>
   cases r with
   |nil=>exact⟨v,rfl⟩
   |cons _ _=>simp at hlen
 have au:=ad 0 _ v rfl rfl
 cases au with
 | @ref _ _ _ _ _ e _ he bw n0 =>
 obtain⟨e',fy,BQ,-,iH⟩:=bY.dc k g _ hm;obtain rfl:e=e':=ln (he.symm.trans fy);obtain⟨a,cap,rfl,D,G,ag⟩:=n0;rcases ag with rfl|⟨b,rfl,aR⟩
 ·have:l=[]:=mL (by omega);subst this;show Calls P f _ w _;rw[<-aN];refine Calls.mono (Proofs.AnyM.slices_Sort_int_none L a 0 w) λaw w1 h=>?_;obtain⟨rfl,rfl⟩:=h;refine⟨_,.cQ [],mem,B,rfl,ea.still bY (Fr.refl _ _),.cQ (vs:=[]) rfl λi d v h=>(by cases h),rfl,?_⟩
  funext j
  by_cases ay:j=k
  ·subst ay;simp[bI,hm,Es]
  ·simp[bI,ay]
 obtain⟨bs,b1⟩:=aR BQ.symm;obtain⟨cs,T,a6,eu,hle,U⟩:=iH b bs;have zB:=(Array.getElem?_eq_some_iff.1 a6).1
 have g7:∀(i:Nat) (x:Int),l[i]?=some x->cs[i]?=some (.int .i64 x):=λi x I=>by
  obtain⟨u,hu,n0⟩:=U i (.J (.int .i64 x)) (by rw[bb,I];rfl)
  cases n0 with
  |J ae=>cases ae;exact hu
 have asU:Sort.Holds (Value.int .i64) w b 0 l.toArray:=λj ay=>by
  have ik:j<o l:=by simpa using ay
  refine⟨?_,frozen_of_row w b _ cs T a6⟩;rw[cell_of_row w b _ cs T (0,0) a6,Nat.zero_add,g7 j _ (bL ik)];simp[ik]
 show Calls P f _ w _;rw[<-aN];refine Calls.mono (Proofs.AnyM.slices_Sort_int L b 0 cap l w asU zB (by omega)) λaw w1 h=>?_;obtain⟨rfl,n,os,hw⟩:=h;have di:(Es l).length=o l:=List.length_mergeSort l;have hw:w1=Sort.grow (Sort.putRow (Value.int .i64) (Sort.ahead w n) b 0 (Es l).toArray) os:=hw;generalize Es l=s at *;subst hw;have VW:∀dO,e.dc=some dO->w.heap.size<=dO\/∃aB,B k=some aB/\aB.dc=some dO:=λdO g6 => .inr ⟨e,he,g6⟩
 have hold:∀dO,dO<w.heap.size->(∀aB,B k=some aB->aB.dc≠some dO)->(Sort.grow (Sort.putRow (Value.int .i64) (Sort.ahead w n) b 0 s.toArray) os).heap[dO]?=w.heap[dO]?:=λdO g6 bZ =>
  aeD w n b _ os g6 λI=>bZ e he (by rw[bs,I])
 have aeE:∀aB,B k=some aB->e=aB\/aB.g<e.g:=λaB h => .inl (ln (he.symm.trans h));refine⟨_,.cQ [],bI mem k e.g (s.map λx=>O.J (.int .i64 x)),fG B k e,rfl,⟨?_,Trans.change (VV w n b _ os) hold aeE VW,⟨rfl,rfl,rfl,VV w n b _ os,λdO g6 bM=>aeD w n b _ os g6 λI=>bM ⟨k,e,he,by rw[bs,I]⟩⟩,I7 VW⟩,.cQ (vs:=[]) rfl λi d v h=>(by cases h),rfl,by rw[BQ]⟩
 refine bY.Nd (e':=e) (VV w n b _ os) hold aeE VW (λh=>by rw[bs] at h;cases h) λdO g6=>?_;obtain rfl:b=dO:=ln (bs.symm.trans g6);have kP:(Sort.putCells (Value.int .i64) 0 s.toArray cs).size=cs.size:=by unfold Sort.putCells;simp
 refine⟨_,T,asS w n b _ os a6,by rw[kP];exact eu,by rw[kP,af,di];simpa using hle,λi m Q=>?_⟩
 rw[bb,dI] at Q;obtain⟨x,I,rfl⟩:=Q;have hy:i<o s:=(ef.1 I).1;refine⟨.int .i64 x,?_,.J .int⟩;unfold Sort.putCells;rw[Array.getElem?_mapIdx];have yX:i<cs.size:=by rw[af] at hle;omega
 rw[Array.getElem?_eq_getElem yX,rV,aj ⟨fY _,by simpa using hy⟩]
 have ak:=(ef.1 I).2;simp[hy,ak]
end Go.Mini
namespace Go.Mini
open Go
def Bu (a:y1)(mem:Mem):Prop:=mem 289040=some (a.g,a.l.map dK)/\o a.l<=1000
theorem aeF {a b:y1}{mem:Mem}(D:Bu a mem)(G:Bu b mem):a=b:=by
 have:=D.1.symm.trans G.1;simp only[cz,Prod.mk.injEq] at this;obtain⟨l,g⟩:=a;obtain⟨hB,c4⟩:=b;dsimp only at this;rw[this.1,LS this.2]
def IG:List O->Mem->Option (O->Mem->Prop):=ra (λ(a:y1) args mem=>args=[.ref 289040 a.g 1 0 (o a.l)]/\Bu a mem) ad6
theorem asV (a:y1)(mem:Mem)(h:Bu a mem):IG [.ref 289040 a.g 1 0 (o a.l)] mem=some (ad6 a mem):=by
 unfold IG;exact aa4 (a:=a) (λa b args mem D G=>aeF D.2 G.2) ⟨rfl,h⟩
theorem asW {P:Program}{ρ:Shelf.Ren}(L:Proofs.SlLaysM.n5 P ρ){f:FuncId}(aN:ρ.f 5=f)(U:Real P f):nI P f (wV IG):=by
 refine⟨U,λargs mem np gj A w B vs bY ad=>?_⟩;unfold wV at gj;rw[dI] at gj;obtain⟨cD,dk,rfl⟩:=gj;obtain⟨a,⟨rfl,hm,ax⟩,rfl⟩:=aa5 dk;have h:=asT L aN (by omega) hm bY ad;refine Calls.mono h λe aI he=>?_;obtain⟨v,r,mem',bB,D,G,ag,aR,bs⟩:=he;refine⟨v,r,mem',bB,D,G,ag,aR,Es a.l,List.mergeSort_perm _ _,?_,bs⟩;have:=List.pairwise_mergeSort (le:=λx y:Int=>decide (x<=y)) (λa b c D G=>by simp at D G ⊢;omega) (λa b=>by simp;omega) a.l;exact this.imp λh=>by simpa using h
def ML:List O->Mem->Option (Data×Key):=HT (λ(a:y1) args mem=>args=[.ref 289040 a.g 1 0 (o a.l)]/\Bu a mem) (λa=>(.X ((iX a.l).map Y),289040))
theorem asX (a:y1)(mem:Mem)(h:Bu a mem):ML [.ref 289040 a.g 1 0 (o a.l)] mem=some (.X ((iX a.l).map Y),289040):=by
 unfold ML;exact ao0 (a:=a) (λa b args mem D G=>by rw[aeF D.2 G.2]) ⟨rfl,h⟩
theorem asY (T:br)(a:y1)(mem:Mem)(aM:Bu a mem):
  wp T J1.body (yB J1.res λm mem'=>da 6 emp m=some (.X ((iX a.l).map Y))/\∀j,¬ False->mem' j=bI mem 289040 (b7 mem 289040) [] j) ⟨nd [.ref 289040 a.g 1 0 (o a.l)],mem⟩:=by
 obtain⟨lo,aL⟩:=aM;obtain⟨l,g⟩:=a;dsimp only at lo aL ⊢
 have aN:∀(K:bz->Prop) (st:bz),xM K st 2 289040 g 1 0 (o l) (some (g,l.map dK))=K ⟨hO st.tm 2 (.J (.X (l.map Y))),kill st.mem 289040⟩:=λK st=>by
  have:=ad9 (K:=K) (st:=st) 2 289040 g (o l) l [] rfl rfl;rwa [gk] at this
 refine B5 ?_;simp only[J1];rcases d0:decide ((o l:Int)<2)
 case true =>
  have E:iX l=l:=by
   have:=of_decide_eq_true d0
   match l,this with
   | [],_=>rfl
   | [x],_=>rfl
   |x::y::r,h=>simp at h;omega
  rw[E];simp only[go_sem,go_sem_proc,d0,lo,aN];repeat' (first|refine al ?_ ?_|fail)<;>intro h<;>simp only[h,go_sem,go_sem_proc,d0,lo,aN]
  refine⟨_,rfl,?_,λj _=>?_⟩<;>first|rfl|trivial
 have pS:2<=o l:=by have:=of_decide_eq_false d0;omega
 simp only[go_sem,go_sem_proc,d0]
 refine dw [0] [] (λ(k:Nat) tm m=>1<=k/\k<=o l/\tm 3=.J (.int .i64 k)/\m=mem/\iX (l.take k)=l.take k) (λk=>o l-k) 1 (by
  refine⟨by omega,by omega,rfl,rfl,?_⟩
  match l,pS with
  |x::r,_=>rfl) ?_
 intro vs ms a7 aY;simp only[go_sem,go_sem_proc] at a7 aY;subst a7 aY;rintro k tm m R-⟨hb,gi,cI,hm,E⟩;simp only[go_sem,go_sem_proc,bn] at R;have b8:=R;subst hm;rcases dG (k<o l) with az|cb
 ·have d1:decide ((k:Int)<(o l:Int))=true:=dn;have cn:=eY (i:=k) (by omega);have fc:IntKind.i64.wrap ((k:Int)-1)=((k-1:Nat):Int):=by rw[eQ _];omega
  obtain⟨x,I⟩:∃x,l[k]?=some x:=⟨_,bL az⟩;obtain⟨y,ak⟩:∃y,l[k-1]?=some y:=⟨_,bL (by omega)⟩;have t1:lz 1 (lA k (l.map dK))=[.J (.int .i64 x)]:=HV (f:=dK) I;have t2:lz 1 (lA (k-1) (l.map dK))=[.J (.int .i64 y)]:=HV (f:=dK) ak;have bk:(k+1<=o l)=True:=eq_true (by omega);have rW:(k-1+1<=o l)=True:=eq_true (by omega);have oO:(k<o l)=True:=eq_true az;have mN:(k-1<o l)=True:=eq_true (by omega);have oQ:(l.map dK).length=o l:=af _;rcases q:(x==y)
  ·have bZ:x≠y:=by simpa using q
   have jr:=arB (by omega) az ak I bZ E;generalize dk:l.map dK=cD at *;simp only[go_sem,go_sem_proc,b8,cI,lo,t1,t2,d1,cn,fc,bk,rW,oO,mN,oQ,q,dU];repeat' (first|refine al ?_ ?_|fail)<;>intro h<;>simp only[h,go_sem,go_sem_proc,b8,cI,lo,t1,t2,d1,cn,fc,bk,rW,oO,mN,oQ,q,dU]
   exact⟨k+1,by omega,by omega,by omega,rfl,jr⟩
  ·have gw:x=y:=by simpa using q
   have IH:iX (l.take (k+1))=l.take k:=by rw[UY (by omega) ak I,aj gw,gk,E]
   have g3:(k<=o l/\o l<=o l)=True:=eq_true ⟨by omega,cA _⟩
   simp only[go_sem,go_sem_proc,b8,cI,lo,t1,t2,d1,fc,bk,rW,oO,mN,oQ,g3,q,dU]
   refine dw [0,4] [] (λ((d,kk,row):Nat×Nat×List Int) tm m'=>1<=d/\k+d<=o l/\kk<k+d/\o row=o l/\row.take kk=iX (l.take (k+d))/\row.drop (k+d-1)=l.drop (k+d-1)/\tm 5=.J (.int .i64 d)/\tm 3=.J (.int .i64 kk)/\m'=bI m 289040 g (row.map dK)) (λ(d,_,_)=>o l-(k+d)) (1,k,l) (by
    refine⟨cA _,by omega,by omega,rfl,IH.symm,rfl,rfl,?_,?_⟩
    ·simp only[qA,tI,if_false];exact cI
    ·funext j
     by_cases ay:j=289040
     ·subst ay;rw[yY];exact lo
     ·rw[oE ay]) ?_
   intro vs ms a7 aY;simp only[go_sem,go_sem_proc,b8] at a7 aY;subst a7 aY;clear b8 cI;rintro⟨d,kk,row⟩ tm m' R-⟨jy,lB,Jb,cK,hl,oh,b6,cI,lq⟩;simp only[go_sem,go_sem_proc,bn] at R;obtain⟨b8,gJ⟩:=R;subst lq
   have g7:∀j,k+d-1<=j->row[j]?=l[j]?:=λj ay=>by
    have D:row[j]?=(row.drop (k+d-1))[j-(k+d-1)]?:=by rw[ll];congr 1;omega
    have G:l[j]?=(l.drop (k+d-1))[j-(k+d-1)]?:=by rw[ll];congr 1;omega
    rw[D,G,oh]
   rcases dG (k+d<o l) with hr|asZ
   ·have d2:decide ((d:Int)<((o l-k:Nat):Int))=true:=dn;have m5:=eY (i:=d) (by omega);have MM:IntKind.i64.wrap ((d:Int)-1)=((d-1:Nat):Int):=by rw[eQ _];omega
    have aeG:=eY (i:=kk) (by omega);obtain⟨a,hG⟩:∃x,l[k+d]?=some x:=⟨_,bL hr⟩;obtain⟨b,je⟩:∃y,l[k+d-1]?=some y:=⟨_,bL (by omega)⟩;have as0:=(g7 (k+d) (by omega)).trans hG;have as1:=(g7 (k+d-1) (cA _)).trans je;have s1:lz 1 (lA (k+d) (row.map dK))=[.J (.int .i64 a)]:=HV (f:=dK) as0
    have s2:lz 1 (lA (k+(d-1)) (row.map dK))=[.J (.int .i64 b)]:=by
     rw[show k+(d-1)=k+d-1 by omega];exact HV (f:=dK) as1
    have c1:=UY (by omega) je hG;have dh:(d<o l-k)=True:=eq_true (by omega);have cR:(d-1<o l-k)=True:=eq_true (by omega);have lp:(k+d+1<=o l)=True:=eq_true (by omega);have qp:(k+(d-1)+1<=o l)=True:=eq_true (by omega);have aeH:(kk<o l)=True:=eq_true (by omega);have aeI:(kk+1<=o l)=True:=eq_true (by omega);have m7:(row.map dK).length=o l:=by rw[af,cK]
    rcases c2:(a==b)
    ·have bZ:a≠b:=by simpa using c2
     rw[aq bZ,<-hl] at c1
     have sJ:lz kk (row.map dK)++[O.J (.int .i64 a)]++lA (kk+1) (row.map dK)=(row.set kk a).map dK:=by
      rw[List.set_eq_take_append_cons_drop,aj (by omega),mA,e8,yu,List.map_drop,gZ];rfl
     generalize Iy:row.map dK=Bq at *;simp only[go_sem,go_sem_proc,b8,cI,gJ,b6,s1,s2,d2,m5,MM,aeG,dh,cR,lp,qp,aeH,aeI,m7,sJ,c2,bne,cv,dU];repeat' (first|refine al ?_ ?_|fail)<;>intro h<;>simp only[h,go_sem,go_sem_proc,b8,cI,gJ,b6,s1,s2,d2,m5,MM,aeG,dh,cR,lp,qp,aeH,aeI,m7,sJ,c2,bne,cv,dU]
     refine⟨(d+1,kk+1,row.set kk a),by dsimp only;omega,by dsimp only;omega,by dsimp only;omega,by dsimp only;omega,by dsimp only;rw[List.length_set,cK],?_,?_,rfl,rfl,?_⟩
     ·dsimp only;rw[<-nZ,c1,fQ,List.take_set_of_le (cA _),List.getElem?_set_self (by omega)];rfl
     ·dsimp only;rw[List.drop_set_of_lt (by omega)];apply pU;intro j;rw[ll,ll];exact g7 _ (by omega)
     ·rw[UX]
    ·have he:a=b:=by simpa using c2
     rw[aj he,gk,<-hl] at c1;generalize Iy:row.map dK=Bq at *;simp only[go_sem,go_sem_proc,b8,cI,gJ,b6,s1,s2,d2,m5,MM,dh,cR,lp,qp,m7,c2,bne,bX,dU];repeat' (first|refine al ?_ ?_|fail)<;>intro h<;>simp only[h,go_sem,go_sem_proc,b8,cI,gJ,b6,s1,s2,d2,m5,MM,dh,cR,lp,qp,m7,c2,bne,bX,dU]
     refine⟨(d+1,kk,row),by dsimp only;omega,by dsimp only;omega,by dsimp only;omega,by dsimp only;omega,cK,?_,?_,rfl,rfl,by rw[Iy]⟩
     ·dsimp only;rw[<-nZ,c1]
     ·dsimp only;apply pU;intro j;rw[ll,ll];exact g7 _ (by omega)
   ·have d2:decide ((d:Int)<((o l-k:Nat):Int))=false:=cY;have as2:k+d=o l:=by omega
    rw[as2,k4] at hl;have l3:(kk<=o l/\o l<=o l)=True:=eq_true ⟨by omega,cA _⟩
    have DQ:(kk+(o l-kk)<=o l)=True:=eq_true (by omega);have aeJ:(kk<=o l)=True:=eq_true (by omega);have m7:(row.map dK).length=o l:=by rw[af,cK]
    have An:lz kk (row.map dK)=(iX l).map dK:=by rw[<-yu,hl]
    have eW:(iX l).length=kk:=by rw[<-hl,gO];omega
    have wM:lA (o l) (row.map dK)=[]:=List.drop_eq_nil_of_le (by rw[m7];exact cA _);generalize row.map dK=Bq at *;have aeK:(o l<=o l)=True:=eq_true (cA _)
    have tp:∀n:Nat,(eL n [O.J (.int .i64 0)]).flatten=eL n (O.J (.int .i64 0)):=λn=>by
     induction n with
     |zero=>rfl
     |succ n aA=>rw[qF,j8,aA,qF];rfl
    have rT:lz kk Bq++(eL (o l-kk) [O.J (.int .i64 0)]).flatten++lA (kk+(eL (o l-kk) [O.J (.int .i64 0)]).flatten.length) Bq=(iX l).map dK++(eL (o l-kk) [O.J (.int .i64 0)]).flatten:=by
     rw[tp,List.length_replicate,show kk+(o l-kk)=(o l) by omega,wM,An,gk]
    have aeL:=λ(K:bz->Prop) (st:bz)=>ad9 (K:=K) (st:=st) 2 289040 g kk (iX l) (eL (o l-kk) [O.J (.int .i64 0)]).flatten (by rw[tp];unfold nb;rw[h2];intro x I;rw[(List.mem_replicate.1 I).2];rfl) eW.symm;simp only[go_sem,go_sem_proc,b8,cI,gJ,b6,d2,DQ,aeJ,aeK,m7,rT,aeL,show (0<=kk)=True from eq_true (fY _),Iz,dU,sV];repeat' (first|refine al ?_ ?_|fail)<;>intro h<;>simp only[h,go_sem,go_sem_proc,b8,cI,gJ,b6,d2,DQ,aeJ,aeK,m7,rT,aeL,show (0<=kk)=True from eq_true (fY _),Iz,dU,sV]
    exact⟨_,rfl,rfl,λj _=>by by_cases h:j=289040<;>simp[h]⟩
 ·have d1:decide ((k:Int)<(o l:Int))=false:=cY;obtain rfl:k=o l:=by omega
  rw[k4] at E;rw[E];simp only[go_sem,go_sem_proc,b8,cI,lo,d1,aN];repeat' (first|refine al ?_ ?_|fail)<;>intro h<;>simp only[h,go_sem,go_sem_proc,b8,cI,lo,d1,aN]
  refine⟨_,rfl,?_,λj _=>?_⟩<;>first|rfl|trivial
def y8 (r:List Int):Bool:=decide (r≠[]/\r.Pairwise (·<·))
def jH (cs:List av)(ps:List Rat)(n:Nat)(fl:List (List Int)):Bool:=fl.all y8&&(fl.flatten.all (λx=>decide (x∈eH cs ps n))&&(eH cs ps n).all λx=>decide (x∈fl.flatten))
theorem aeM {cs:List av}{ps:List Rat}{n:Nat}{fl:List (List Int)}{i:Nat}{r:List Int}(h:fl[i]?=some r)(U:y8 r=false):jH cs ps n fl=false:=by
 unfold jH;rw[Eo h U,dm]
theorem aeN {r:List Int}{k:Nat}{x y:Int}(au:0<k)(I:r[k]?=some x)(ak:r[k-1]?=some y)(h:x<=y):y8 r=false:=by
 refine gr fun⟨_,aG⟩=>?_;obtain⟨D,rfl⟩:=ef.1 I;obtain⟨G,rfl⟩:=ef.1 ak;have:=aeO.1 aG (k-1) k G D (by omega);omega
theorem aeP {r:List Int}{k:Nat}{x y:Int}(au:0<k)(I:r[k]?=some x)(ak:r[k-1]?=some y)(h:y<x)(aG:(r.take k).Pairwise (·<·)):(r.take (k+1)).Pairwise (·<·):=by
 have vz:=(ef.1 I).1;rw[aeO] at aG ⊢;intro i j Q ay kW;rw[gO] at Q ay;rw[Et,Et]
 by_cases dT:j=k
 ·subst dT;obtain⟨_,rfl⟩:=ef.1 I;obtain⟨_,rfl⟩:=ef.1 ak
  by_cases as3:i=j-1
  ·subst as3;exact h
  ·have:=aG i (j-1) (by rw[gO];omega) (by rw[gO];omega) (by omega);rw[Et,Et] at this;omega
 ·have:=aG i j (by rw[gO];omega) (by rw[gO];omega) kW;rwa [Et,Et] at this
structure xk (fl:List (List Int)):Prop where
 len:(o fl)<=1000
 names:(o fl.flatten)<=1000
def VX:=bU Is λ(H,cs,ad,ps,fl)=>cq (iB H cs ps/\xk fl) (.same (.bool (jH cs ps (o H) fl)))
@[go_sem] theorem as4 (H:List Int)(cs:List av)(ad:List bd)(ps:List Rat)(fl:List (List Int))(E:iB H cs ps/\xk fl):VX [.agg (ed H cs ad (ps.map ai) fl)]=some (.same (.bool (jH cs ps (o H) fl))):=(b3 U7 (H,cs,ad,ps,fl)).trans (cw E _)
theorem as5 (T:br)(mF:T OO=wV IG)(mG:T OQ=HS ML)(iC:T Aa=aK It)(mH:T OP=aK UR)(H:List Int)(cs:List av)(ad:List bd)(ps:List Rat)(fl:List (List Int))(E:iB H cs ps/\xk fl):WP T Q8 (.same (.bool (jH cs ps (o H) fl))) [.J (.agg (ed H cs ad (ps.map ai) fl))]:=by
 refine b4 ?_;simp only[Q8];obtain⟨g4,xl⟩:=E;have aL:=g4.n;have iw:=U8 H cs ad ps fl g4;have vR:=Bp cs ps (o H);have fB:=λi r=>aeM (cs:=cs) (ps:=ps) (n:=o H) (fl:=fl) (i:=i) (r:=r);simp only[ed] at iw;generalize ps.map ai=PD at *;simp only[go_sem,go_sem_proc,mF,mG,iC,mH,ed,af];refine dw [1,10,11] [289001] (λ((i,g):Nat×Nat) tm m=>i<=o fl/\tm 12=.J (.int .i64 i)/\tm 3=.ref 289040 g 1 0 (fl.take i).flatten.length/\m 289040=some (g,bK Y (fl.take i).flatten)/\(fl.take i).all y8=true) (λ(i,_)=>o fl-i) (0,0) (by refine⟨by omega,rfl,rfl,rfl,rfl⟩) ?_;intro vs ms a7 aY;simp only[go_sem,go_sem_proc,mF,mG,iC,mH,ed,af] at a7 aY;subst a7 aY;rintro⟨i,g⟩ tm m R hm ⟨Q,gm,cI,oG,eE⟩;simp only[go_sem,go_sem_proc,mF,mG,iC,mH,bn] at R hm;obtain⟨aw,eA,fg⟩:=R;rcases dG (i<o fl) with az|cb
 ·have hlen:=xl.len;have d1:decide ((i:Int)<(o fl:Int))=true:=dn;have cn:=eY (i:=i) (by omega);obtain⟨r,I⟩:∃r,fl[i]?=some r:=⟨_,bL az⟩;have fB:=fB i r I;have hl:(fl.take (i+1)).flatten=(fl.take i).flatten++r:=by rw[fQ,I,Eu,MN];simp
  have VY:(fl.take i).flatten.length+o r<=1000:=by
   have D:fl.flatten=(fl.take (i+1)).flatten++(fl.drop (i+1)).flatten:=by rw[<-MN,xN]
   have G:=xl.names;rw[D,hl,fE,fE] at G;omega
  simp only[go_sem,go_sem_proc,mF,mG,iC,mH,aw,cI,eA,fg,gm,hm,I,d1,l8,af,bb];refine dw [1,3,5,10,11,12,16,17] [289001,289040] (λ(k:Nat) tm m=>k<=o r/\tm 18=.J (.int .i64 k)/\(r.take k).Pairwise (·<·)) (λk=>o r-k) 0 (by refine⟨by omega,rfl,List.Pairwise.nil⟩) ?_;intro vs ms a7 aY;simp only[go_sem,go_sem_proc,mF,mG,iC,mH,aw,cI,eA,fg,gm,hm,oG,af] at a7 aY;subst a7 aY;clear aw cI eA fg gm hm oG;rintro k tm m R hm ⟨Jb,lQ,Bv⟩;simp only[go_sem,go_sem_proc,mF,mG,iC,mH,bn] at R hm;obtain⟨aw,cI,b6,eA,fg,gm,qu,qt⟩:=R;obtain⟨cJ,oG⟩:=hm;rcases dG (k<o r) with II|as6
  ·have d2:decide ((k:Int)<(o r:Int))=true:=dn;have fc:=eY (i:=k) (by omega);obtain⟨x,iD⟩:∃x,r[k]?=some x:=⟨_,bL II⟩;rcases jo k with oZ|oZ
   ·have d3:decide ((k:Int)>0)=false:=cY;subst oZ;simp only[go_sem,go_sem_proc,mF,mG,iC,mH,aw,cI,b6,eA,fg,gm,qu,qt,lQ,cJ,oG,iD,d2,d3,fc,Y,af,bb];repeat' (first|refine al ?_ ?_|fail)<;>intro h<;>simp only[h,go_sem,go_sem_proc,mF,mG,iC,mH,aw,cI,b6,eA,fg,gm,qu,qt,lQ,cJ,oG,iD,d2,d3,fc,Y,af,bb]
    exact⟨1,by omega,by omega,rfl,by rw[fQ,iD,o2];exact aeQ _ _⟩
   ·have d3:decide ((k:Int)>0)=true:=dn;have m5:IntKind.i64.wrap ((k:Int)-1)=((k-1:Nat):Int):=by rw[eQ _];omega
    obtain⟨y,rE⟩:∃x,r[k-1]?=some x:=⟨_,bL (by omega)⟩;have hb:k-1<o r:=by omega
    rcases d4:decide (x<=y)
    ·have hr:y<x:=by have:=of_decide_eq_false d4;omega
     have VZ:=aeP oZ iD rE hr Bv;simp only[go_sem,go_sem_proc,mF,mG,iC,mH,aw,cI,b6,eA,fg,gm,qu,qt,lQ,cJ,oG,iD,rE,d2,d3,d4,fc,m5,hb,Y,af,bb];repeat' (first|refine al ?_ ?_|fail)<;>intro h<;>simp only[h,go_sem,go_sem_proc,mF,mG,iC,mH,aw,cI,b6,eA,fg,gm,qu,qt,lQ,cJ,oG,iD,rE,d2,d3,d4,fc,m5,hb,Y,af,bb]
     exact⟨k+1,by omega,by omega,rfl,VZ⟩
    ·rw[fB (aeN oZ iD rE (of_decide_eq_true d4))];simp only[go_sem,go_sem_proc,mF,mG,iC,mH,aw,cI,b6,eA,fg,gm,qu,qt,lQ,cJ,oG,iD,rE,d2,d3,d4,fc,m5,hb,Y,af,bb];repeat' (first|refine al ?_ ?_|fail)<;>intro h<;>simp only[h,go_sem,go_sem_proc,mF,mG,iC,mH,aw,cI,b6,eA,fg,gm,qu,qt,lQ,cJ,oG,iD,rE,d2,d3,d4,fc,m5,hb,Y,af,bb]
  ·have d2:decide ((k:Int)<(o r:Int))=false:=cY;rw[du (by omega)] at Bv;rcases d5:((o r:Int)==0)
   ·have bZ:r≠[]:=λh=>by rw[h] at d5;cases d5
    have as7:y8 r=true:=hc ⟨bZ,Bv⟩
    have ev:pO 289040 g 1 (fl.take i).flatten.length 8 (o r) (bK Y r) (some (g,bK Y (fl.take i).flatten))=some (.ref 289040 (g+1) 1 0 ((fl.take i).flatten.length+o r),some (289040,g+1,bK Y (fl.take (i+1)).flatten)):=by
     have:=FJ fR o5 289040 g 8 (fl.take i).flatten r (by omega) (by omega);rw[<-hl] at this;exact this
    have aeR:(r.map Y).flatten.map O.J=bK Y r:=rfl;simp only[go_sem,go_sem_proc,mF,mG,iC,mH,aw,cI,b6,eA,fg,gm,qu,qt,lQ,cJ,oG,d2,d5,cn,ev,aeR,Gs,af];repeat' (first|refine al ?_ ?_|fail)<;>intro h<;>simp only[h,go_sem,go_sem_proc,mF,mG,iC,mH,aw,cI,b6,eA,fg,gm,qu,qt,lQ,cJ,oG,d2,d5,cn,ev,aeR,Gs,af]
    exact⟨(i+1,g+1),by dsimp only;omega,by dsimp only;omega,rfl,by rw[hl,fE],rfl,by rw[Dt I,eE,as7];rfl⟩
   ·have he:r=[]:=mL (by have:=eq_of_beq d5;omega);rw[fB (gr λh=>h.1 he)];simp only[go_sem,go_sem_proc,mF,mG,iC,mH,aw,cI,b6,eA,fg,gm,qu,qt,lQ,cJ,oG,d2,d5,af];repeat' (first|refine al ?_ ?_|fail)<;>intro h<;>simp only[h,go_sem,go_sem_proc,mF,mG,iC,mH,aw,cI,b6,eA,fg,gm,qu,qt,lQ,cJ,oG,d2,d5,af]
 ·have d1:decide ((i:Int)<(o fl:Int))=false:=cY;obtain rfl:i=o fl:=by omega
  rw[k4] at cI oG eE;rw[<-Ie] at oG;have fr:=asV ⟨fl.flatten,g⟩ m ⟨oG,xl.names⟩;dsimp only at fr;simp only[go_sem,go_sem_proc,mF,mG,iC,mH,aw,cI,eA,fg,gm,hm,d1,fr];rintro AU m' dk;obtain⟨K2,s,aG,uj,lq⟩:=dk;dsimp only at aG lq;subst K2 lq;have V0:=aG.length_eq;have VY:=xl.names;have r4:=asX ⟨s,g⟩ (bI emp 289040 g (s.map dK)) ⟨yY,by rw[V0];exact VY⟩
  dsimp only at r4;rw[V0] at r4;have gU:=arA uj
  have heq:decide (iX s=eH cs ps (o H))=jH cs ps (o H) fl:=by
   unfold jH;rw[eE,eF,q8,decide_eq_true_iff,eX,h2,h2]
   constructor
   ·intro h;refine⟨λx I=>hc ?_,λx I=>hc ?_⟩
    ·rw[<-h,gU.2,aG.mem_iff];exact I
    ·rw[<-h,gU.2,aG.mem_iff] at I;exact I
   ·rintro⟨D,G⟩;refine aes gU.1 (asp cs ps (o H)).1 λx=>?_;rw[gU.2,aG.mem_iff];exact⟨λI=>of_decide_eq_true (D x I),λI=>of_decide_eq_true (G x I)⟩
  have eW:(iX s).length<=o s:=by
   have:∀(l:List Int) (z:Int),(lO z l).length<=o l:=by
    intro l
    induction l with
    |nil=>intro z;simp[lO]
    |cons a r aA =>
     intro z;have D:=aA z;have G:=aA a;rw[lO]
     split<;>simp<;>omega
   cases s with
   |nil=>simp[iX]
   |cons a r=>have:=this r a;simp[iX];omega
  have V1:=ars (iX s) (eH cs ps (o H)) ⟨by omega,by omega⟩
  rw[heq] at V1;have aeS:nb (s.map dK)=true:=by unfold nb;rw[h2];intro x I;obtain⟨y,-,rfl⟩:=fZ.1 I;rfl
  generalize jH cs ps (o H) fl=IJ at *;simp only[go_sem,go_sem_proc,mF,mG,iC,mH,aw,cI,eA,fg,hm,r4,iw,V1,aeS,aeT,rV,af];repeat' (first|refine al ?_ ?_|fail)<;>intro h<;>simp only[h,go_sem,go_sem_proc,mF,mG,iC,mH,aw,cI,eA,fg,hm,r4,iw,V1,aeS,aeT,rV,af]
  done
def pF (H:List Int)(cs:List av)(aF ps:List Rat)(fl:List (List Int)):Int :=
 if gD H cs (aF.map ai) (ps.map ai)=true then
  (if jG (hZ H cs aF ps) (o H)=0 then (if jH cs ps (o H) fl=true/\(eC cs ps (eH cs ps (o H)) (o H)).length=0 then 0 else 24) else jG (hZ H cs aF ps) (o H))
 else 1
structure aeU (H:List Int) (cs:List av) (aF ps:List Rat) (fl:List (List Int)):Prop where
 n:(o H)<=1000000
 c:(o cs)<=1000000
 h:ej (aF.map ai)
 p:ej (ps.map ai)
 sum:gD H cs (aF.map ai) (ps.map ai)=true->∀i,i<(o H)->IA H cs aF ps i
 rC:gD H cs (aF.map ai) (ps.map ai)=true->iB H cs ps
 f:xk fl
def vA (H:List Int)(cs:List av)(ad aJ:List bd)(fl:List (List Int)):Int:=if gD H cs ad aJ=true then pF H cs (pz ad) (pz aJ) fl else 1
structure Bw (H:List Int) (cs:List av) (ad aJ:List bd) (fl:List (List Int)):Prop where
 n:(o H)<=1000000
 c:(o cs)<=1000000
 h:ej ad
 p:ej aJ
 sum:gD H cs ad aJ=true->∀i,i<(o H)->IA H cs (pz ad) (pz aJ) i
 rC:gD H cs ad aJ=true->iB H cs (pz aJ)
 f:xk fl
abbrev V2:(List Int)×(List av)×(List bd)×(List bd)×(List (List Int))->List Data:=λ(H,cs,ad,aJ,fl)=>[.X (H.map Y),.X (cs.map bR),.agg [.X (ad.map aH),.X (aJ.map aH),.X (fl.map l8)]]
def vB:=bU V2 λ(H,cs,ad,aJ,fl)=>cq (Bw H cs ad aJ fl) (.same (.int .i64 (vA H cs ad aJ fl)))
theorem as8:∀a b,V2 a=V2 b->a=b:=by
  rintro⟨sM,rr,kS,Mv,xd⟩ ⟨sN,mQ,lV,Mw,xe⟩ h;simp only[bn,Data.agg.injEq,Data.X.injEq,and_true] at h;obtain⟨D,G,ag,aR,bs⟩:=h;rw[map_inj eR _ _ D,map_inj oC _ _ G,map_inj l4 _ _ ag,map_inj l4 _ _ aR,map_inj T2 _ _ bs]
@[go_sem] theorem aeV (H:List Int)(cs:List av)(ad:List bd)(aJ:List bd)(fl:List (List Int))(E:Bw H cs ad aJ fl):vB [.X (H.map Y),.X (cs.map bR),.agg [.X (ad.map aH),.X (aJ.map aH),.X (fl.map l8)]]=some (.same (.int .i64 (vA H cs ad aJ fl))):=(b3 as8 (H,cs,ad,aJ,fl)).trans (cw E _)
theorem as9 (T:br)(m8:T Gc=aK MG)(pG:T OI=aK Vm)(pH:T OJ=aK VX)(pI:T OK=aK Vc)(H:List Int)(cs:List av)(ad:List bd)(aJ:List bd)(fl:List (List Int))(E:Bw H cs ad aJ fl):WP T Q5 (.same (.int .i64 (vA H cs ad aJ fl))) [.J (.X (H.map Y)),.J (.X (cs.map bR)),.J (.agg [.X (ad.map aH),.X (aJ.map aH),.X (fl.map l8)])]:=by
 refine b4 ?_;simp only[Q5];have U:=aeo H cs ad aJ fl ⟨E.n,E.c,E.h,E.p⟩;have jX:=E.sum;have g4:=E.rC;have xl:=E.f;have aAy:=E.n;clear E;unfold vA;rcases dk:gD H cs ad aJ
 ·rw[dk] at U;rw[aq (by decide)];simp only[ed] at U;simp only[go_sem,go_sem_proc,m8,pG,pH,pI,U,cv];repeat' (first|refine al ?_ ?_|fail)<;>intro h<;>simp only[h,go_sem,go_sem_proc,m8,pG,pH,pI,U,cv]
 obtain⟨Ch,v8⟩:=IE dk;obtain⟨aF,rfl,-⟩:=y7 Ch;obtain⟨ps,rfl,-⟩:=y7 v8;rw[dk] at U;rw[aj rfl];rw[j5,j5] at jX;rw[j5] at g4;rw[j5,j5];unfold pF;rw[aj dk];have aa:=λi Q=>ash H cs aF ps fl i (jX dk i Q);have aN:=as4 H cs (aF.map ai) ps fl ⟨g4 dk,xl⟩;have g8:=ar1 H cs (aF.map ai) ps fl (g4 dk);clear jX g4;have c1:=λk D G ag=>Vy (f:=hZ H cs aF ps) (k:=k) D G (n:=o H) ag;have mD:∀k,jG (hZ H cs aF ps) (k+1)=if jG (hZ H cs aF ps) k=0 then hZ H cs aF ps k else jG (hZ H cs aF ps) k:=λk=>rfl;generalize (eC cs ps (eH cs ps (o H)) (o H)).length=ata at *;generalize jH cs ps (o H) fl=IJ at *;generalize hZ H cs aF ps=Ev at *;generalize aF.map ai=MH at *;generalize ps.map ai=vy at *;simp only[ed] at U aa aN g8;simp only[go_sem,go_sem_proc,m8,pG,pH,pI,U,bX,af];refine dw [7,18] [286007] (λ(k:Nat) tm m=>k<=o H/\tm 19=.J (.int .i64 k)/\jG Ev k=0) (λk=>o H-k) 0 (by refine⟨by omega,rfl,rfl⟩) ?_;intro vs ms a7 aY;simp only[go_sem,go_sem_proc,m8,pG,pH,pI,af] at a7 aY;subst a7 aY;rintro k tm m R hm ⟨oY,pA,a8⟩;simp only[go_sem,go_sem_proc,m8,pG,pH,pI,bn] at R hm;obtain⟨bQ,lQ⟩:=R;rcases dG (k<o H) with az|cb
 ·have d1:decide ((k:Int)<(o H:Int))=true:=dn;have cn:=eY (i:=k) (by omega);have aa:=aa k az;have aeW:=mD k;rw[aj a8] at aeW;rcases q:(Ev k==0)
  ·have bZ:Ev k≠0:=ne_of_beq_false q;have D:=c1 k a8 bZ az;rw[D,aq bZ];simp only[go_sem,go_sem_proc,m8,pG,pH,pI,bQ,lQ,pA,hm,aa,d1,q,bne,cv];repeat' (first|refine al ?_ ?_|fail)<;>intro h<;>simp only[h,go_sem,go_sem_proc,m8,pG,pH,pI,bQ,lQ,pA,hm,aa,d1,q,bne,cv]
  ·have he:Ev k=0:=eq_of_beq q;simp only[go_sem,go_sem_proc,m8,pG,pH,pI,bQ,lQ,pA,hm,aa,d1,cn,q,bne,bX];repeat' (first|refine al ?_ ?_|fail)<;>intro h<;>simp only[h,go_sem,go_sem_proc,m8,pG,pH,pI,bQ,lQ,pA,hm,aa,d1,cn,q,bne,bX]
   exact⟨k+1,by omega,by omega,rfl,by rw[aeW,he]⟩
 ·have d1:decide ((k:Int)<(o H:Int))=false:=cY;obtain rfl:k=o H:=by omega
  rw[aj a8];rcases IJ
  ·rw[aq (λh=>by have:=h.1;cases this)];simp only[go_sem,go_sem_proc,m8,pG,pH,pI,bQ,lQ,pA,hm,aN,g8,d1,cv];repeat' (first|refine al ?_ ?_|fail)<;>intro h<;>simp only[h,go_sem,go_sem_proc,m8,pG,pH,pI,bQ,lQ,pA,hm,aN,g8,d1,cv]
  rcases q:decide ((ata:Int)>0)
  ·rw[aj ⟨rfl,by have:=of_decide_eq_false q;omega⟩]
   simp only[go_sem,go_sem_proc,m8,pG,pH,pI,bQ,lQ,pA,hm,aN,g8,d1,q,bX];repeat' (first|refine al ?_ ?_|fail)<;>intro h<;>simp only[h,go_sem,go_sem_proc,m8,pG,pH,pI,bQ,lQ,pA,hm,aN,g8,d1,q,bX]
  ·rw[aq (λh=>by have:=of_decide_eq_true q;have:=h.2;omega)];simp only[go_sem,go_sem_proc,m8,pG,pH,pI,bQ,lQ,pA,hm,aN,g8,d1,q,bX];repeat' (first|refine al ?_ ?_|fail)<;>intro h<;>simp only[h,go_sem,go_sem_proc,m8,pG,pH,pI,bQ,lQ,pA,hm,aN,g8,d1,q,bX]
theorem aeX (H:List Int)(cs:List av)(aF ps:List Rat)(fl:List (List Int))(h:aeU H cs aF ps fl):vB [.X (H.map Y),.X (cs.map bR),.agg [.X ((aF.map ai).map aH),.X ((ps.map ai).map aH),.X (fl.map l8)]]=some (.same (.int .i64 (pF H cs aF ps fl))):=by
 have D:=aeV H cs (aF.map ai) (ps.map ai) fl ⟨h.n,h.c,h.h,h.p,by rw[j5,j5];exact h.sum,by rw[j5];exact h.rC,h.f⟩
 unfold vA at D;rw[j5,j5] at D
 by_cases dk:gD H cs (aF.map ai) (ps.map ai)=true
 ·rw[aj dk] at D;exact D
 ·rw[aq dk] at D;unfold pF;rw[aq dk];exact D
theorem atb {r:List Int}(D:r≠[])(G:r.Pairwise (·<·)):y8 r=true:=hc ⟨D,G⟩
section
variable {H:List Int} {cs:List av} (aa:fV H cs)
include aa
end
theorem V3 {H:List Int}{cs:List av}(aa:fV H cs){aF ps:List Rat}(fK:(o aF)=o H)(ab:(o ps)=o cs)(hC:∀x∈aF,eB 460 x)(atc:gD H cs (aF.map ai) (ps.map ai)=true->∀x∈aF,0<=x)(jb:∀x∈ps,dD x){fl:List (List Int)}(aN:xk fl):aeU H cs aF ps fl:=by
 have aL:=aa.n5;have mn:=aa.HE;have g4:iB H cs ps:=⟨ab,by omega,by omega,λi=>aa.own i,jb⟩
 refine⟨by omega,by omega,⟨by rw[af];omega,λf aN=>?_⟩,⟨by rw[af];omega,λf aN=>?_⟩,λU i Q=>⟨g4,Q,fK,λx I=>oB (hC x I) (by omega),?_,λx I he=>?_⟩,λ_=>g4,aN⟩
 ·obtain⟨x,I,rfl⟩:=fZ.1 aN;exact gW (oB (hC x I) (by omega))
 ·obtain⟨x,I,rfl⟩:=fZ.1 aN;exact gW (jb x I)
 ·have:=aa.H i
  constructor<;>omega
 ·have hm:aF.getD i 0∈aF:=by
   rw[fP,bL (by omega),Option.getD_some];exact List.getElem_mem _
  rw[he];exact⟨aa.own i,atc U _ hm,hC _ hm⟩
theorem atd {H:List Int}{cs:List av}{aF ps:List Rat}(h:gD H cs (aF.map ai) (ps.map ai)=true):hL H cs=true/\o aF=o H/\o ps=o cs/\(∀x∈aF,0<=x)/\∀x∈ps,0<=x:=by
 unfold gD at h;simp only[eX,yz,MI,decide_eq_false_iff_not,beq_iff_eq,af,Bool.not_eq_false'] at h;obtain⟨⟨D,G,ag,aR⟩,bs,b1,cd,de⟩:=h
 have IC:∀l:List Rat,(l.map ai).all jF=true->∀x∈l,0<=x:=λl ax x I=>by
  rw[h2] at ax;have:=ax (ai x) (tW I);unfold jF at this;rw[eX] at this;have k:=of_decide_eq_true this.2;have dN:¬ x.num.sign<0:=by have:x.num.sign>=0:=k;omega
  have jR:=HY (x:=x);rw[gr dN] at jR;have:=of_decide_eq_false jR.symm;grind
 refine⟨?_,by omega,by omega,IC aF cd,IC ps de⟩
 unfold hL;simp only[eX];exact⟨⟨⟨dn,dn⟩,bs⟩,b1⟩
theorem V4 {a b:List Int}(D:(o a)=2)(G:(o b)=2)(aM:∀x∈a,0<=x/\x<=9)(ah:∀x∈b,0<=x/\x<=9){fl:List (List Int)}(aN:xk fl):vB [.X (([0,0]:List Int).map Y),.X (j6.map bR),.agg (er ((fe a).map ai) ((fe b).map ai) fl)]=some (.same (.int .i64 (if jG (hZ [0,0] j6 (fe a) (fe b)) 2=0 then (if jH j6 (fe b) 2 fl=true/\(eC j6 (fe b) (eH j6 (fe b) 2) 2).length=0 then 0 else 24) else jG (hZ [0,0] j6 (fe a) (fe b)) 2))):=by
 have h:=aeX [0,0] j6 (fe a) (fe b) fl (V3 VT (by unfold fe;rw[af,D];rfl) (by unfold fe;rw[af,G];rfl) (λx I=>(nine aM x I).2) (λ_ x I=>(nine aM x I).1) (IF ah) aN);unfold pF at h;rw[aj (aeA D G aM ah)] at h;exact h
theorem ate:jH j6 (fe [5,5]) 2 []=true:=by
 unfold jH;rw[asD];rfl
theorem atf:vB [.X (([0,0]:List Int).map Y),.X (j6.map bR),.agg (er ((fe [5,5]).map ai) ((fe [5,5]).map ai) [])]=some (.same (.int .i64 0)):=by
 have h:=V4 (a:=[5,5]) (b:=[5,5]) rfl rfl (by decide) (by decide) (fl:=[]) ⟨by decide,by decide⟩
 rw[aj asH,aj ⟨ate,asF⟩] at h;exact h
theorem atg:vB [.X (([0,0]:List Int).map Y),.X (j6.map bR),.agg (er ((fe [2,2]).map ai) ((fe [2,2]).map ai) [[0,1]])]=some (.same (.int .i64 24)):=by
 have h:=V4 (a:=[2,2]) (b:=[2,2]) rfl rfl (by decide) (by decide) (fl:=[[0,1]]) ⟨by decide,by decide⟩
 rw[aj asG,aq (λa6=>by have:=a6.2;rw[asE] at this;cases this)] at h;exact h
theorem ath:vB [.X (([0,0]:List Int).map Y),.X (j6.map bR),.agg (er ((fe [5,4]).map ai) ((fe [5,5]).map ai) [])]=some (.same (.int .i64 24)):=by
 have h:=V4 (a:=[5,4]) (b:=[5,5]) rfl rfl (by decide) (by decide) (fl:=[]) ⟨by decide,by decide⟩
 rw[aq (by rw[aeB];decide),aeB] at h;exact h
theorem ati:vB [.X (([0,0]:List Int).map Y),.X [],.agg (er ((fe [5,5]).map ai) ((fe [5,5]).map ai) [])]=some (.same (.int .i64 1)):=by
 have fB:gD [0,0] [] ((fe [5,5]).map ai) ((fe [5,5]).map ai)=false:=rfl;have ff:ej ((fe [5,5]).map ai):=⟨by decide,λf aN=>by obtain⟨x,I,rfl⟩:=fZ.1 aN;exact gW (IF (by decide) x I)⟩
 have h:=aeX [0,0] [] (fe [5,5]) (fe [5,5]) [] ⟨by decide,by decide,ff,ff,λh=>absurd h (by rw[fB];decide),λh=>absurd h (by rw[fB];decide),⟨by decide,by decide⟩⟩
 unfold pF at h;rw[aq (by rw[fB];decide)] at h;exact h
abbrev V5:Unit->List Data:=λ(_:Unit)=>[]
def V6:=bU V5 λ(_:Unit)=>some (.same (.bool true))
theorem atj:∀a b,V5 a=V5 b->a=b:=by
  intro _ _ _;rfl
@[go_sem] theorem atk :V6 []=some (.same (.bool true)):=b3 atj ()
theorem atl (T:br)(atm:T xZ=aK VR)(Ew:T xX=aK vB)(Ex:T Gg=aK Er)(Ey:T Gf=aK MJ):WP T VN (.same (.bool true)) []:=by
 refine b4 ?_;simp only[VN];have i2:c8 2:=tY (by omega) (by omega);have i4:c8 4:=tY (by omega) (by omega);have i5:c8 5:=tY (by omega) (by omega);have kn:=VS 2 2 ⟨i2,i2⟩;have aeY:=VS 5 5 ⟨i5,i5⟩;have aeZ:=VS 5 4 ⟨i5,i4⟩;have aw:=atf;have aB:=atg;have cI:=ath;have gJ:=ati;have b6:=asI;have dB:=aex [0,1] [0,1] ⟨by decide,by decide⟩
 rw[hc rfl] at dB;simp only[er,j6,fe,e8,cM,Y,bR,l8] at kn aeY aeZ aw aB cI gJ b6 dB;generalize aH (ai ((5:Int):Rat))=E5 at *;generalize aH (ai ((2:Int):Rat))=E2 at *;generalize aH (ai ((4:Int):Rat))=E4 at *;refine aQ ?_;repeat' (intro h<;>simp only[h,go_sem,go_sem_proc,atm,Ew,Ex,Ey,kn,aeY,aeZ,aw,aB,cI,gJ,b6,dB,e8,cM,beq_self_eq_true]<;>try refine al ?_ ?_)
end Go.Mini
namespace Go.Mini
open Classical
section
variable {u s a x:Rat} (aa:0<=s) (aM:0<=a)
include aa aM
end
end Go.Mini
namespace Go.Mini
open Go
def IK:av:=(0,0,0,0)
def atn (vC bH:Int)(c:av):av:=(c.1,c.2.1,bH,c.2.2.2/1000*vC+c.2.2.2%1000*vC/1000)
structure Ez (H:List Int) (cs:List av) (is:List Int) (vC bH:Int):Prop where
 right:hL H cs=true
 ne:0<o is
 aAz:0<=vC/\vC<=10000
 jD:0<=bH/\bH<=9
 ct:∀k,k<(o is)->0<=is.getD k 0/\is.getD k 0<o cs
 ato:∀k,0<k->k<(o is)->is.getD (k-1) 0<is.getD k 0
 aC:∀k,k<(o is)->(cs.getD (is.getD k 0).toNat IK).1=(cs.getD (is.getD 0 0).toNat IK).1
 am:∀k,k<(o is)->(atn vC 0 (cs.getD (is.getD k 0).toNat IK)).2.2.2<=1000000000000000
section
variable {H:List Int} {cs:List av} {is:List Int} {vC bH:Int} (h:Ez H cs is vC bH)
include h
theorem Ez.lt {j k:Nat}(dT:j<k)(R:k<o is):is.getD j 0<is.getD k 0:=by
 induction k with
 |zero=>omega
 |succ k aA =>
  have D:=h.ato (k+1) (by omega) R;rw[Nat.add_sub_cancel] at D
  by_cases ay:j=k
  ·subst ay;exact D
  ·have:=aA (by omega) (by omega);omega
theorem Ez.inj {j k:Nat}(ay:j<o is)(R:k<o is)(he:is.getD j 0=is.getD k 0):j=k:=by
 rcases Nat.lt_trichotomy j k with D|D|D
 ·have:=h.lt D R;omega
 ·exact D
 ·have:=h.lt D ay;omega
theorem Ez.get {k:Nat}(R:k<o is):cs[(is.getD k 0).toNat]?=some (cs.getD (is.getD k 0).toNat IK):=by
 have:=h.ct k R;rw[fP (l:=cs),bL (by omega:(is.getD k 0).toNat<o cs)];rfl
theorem Ez.mem {k:Nat}(R:k<o is):cs.getD (is.getD k 0).toNat IK∈cs:=eN (h.get R)
end
section
variable {H:List Int} {cs:List av} {is:List Int} {vC bH:Int} (h:Ez H cs is vC bH) {k:Nat} (R:k<o is)
include h R
end



abbrev V7:(List Int)×(List av)->List Data:=λ(H,cs)=>[.X (H.map Y),.X (cs.map bR)]
def V8:=bU V7 λ(H,cs)=>cq (o H<=1000000/\o cs<=1000000) (.same (.bool (hL H cs)))
theorem atp:∀a b,V7 a=V7 b->a=b:=by
  rintro⟨sM,rr⟩ ⟨sN,mQ⟩ h;simp only[bn,Data.X.injEq,and_true] at h;exact dV (map_inj eR _ _ h.1) (map_inj oC _ _ h.2)
@[go_sem] theorem atq (H:List Int)(cs:List av)(E:(o H)<=1000000/\o cs<=1000000):V8 [.X (H.map Y),.X (cs.map bR)]=some (.same (.bool (hL H cs))):=(b3 atp (H,cs)).trans (cw E _)
theorem atr (T:br)  (H:List Int) (cs:List av) (E:(o H)<=1000000/\o cs<=1000000):WP T VA (.same (.bool (hL H cs))) [.J (.X (H.map Y)),.J (.X (cs.map bR))]:=by
 refine b4 ?_;simp only[VA];obtain⟨bk,bp⟩:=E;rw[aoI];rcases c7:decide ((o H:Int)>60)
 case true =>
  rw[show decide (o H<=60)=false from gr (by have:=of_decide_eq_true c7;omega)];simp only[go_sem,go_sem_proc,c7,af,dm];repeat' (first|refine al ?_ ?_|fail)<;>intro h<;>simp only[h,go_sem,go_sem_proc,c7,af,dm]
 rcases c2:decide ((o cs:Int)>2000)
 case true =>
  rw[show decide (o cs<=2000)=false from gr (by have:=of_decide_eq_true c2;omega)];simp only[go_sem,go_sem_proc,c7,c2,af,dm,gQ];repeat' (first|refine al ?_ ?_|fail)<;>intro h<;>simp only[h,go_sem,go_sem_proc,c7,c2,af,dm,gQ]
 rw[show decide (o H<=60)=true from hc (by have:=of_decide_eq_false c7;omega),show decide (o cs<=2000)=true from hc (by have:=of_decide_eq_false c2;omega),eF,eF];simp only[go_sem,go_sem_proc,c7,c2,af];refine dw [0,1] [358007] (λ(i:Nat) tm m=>i<=o H/\tm 5=.J (.int .i64 i)/\(H.take i).all e1=true) (λi=>o H-i) 0 (by refine⟨by omega,rfl,rfl⟩) ?_;intro vs ms a7 aY;simp only[go_sem,go_sem_proc,af] at a7 aY;subst a7 aY;rintro i tm m R hm ⟨Q,b6,eE⟩;simp only[go_sem,go_sem_proc,bn] at R hm;obtain⟨b8,aw⟩:=R;rcases dG (i<o H) with az|cb
 ·have d1:decide ((i:Int)<(o H:Int))=true:=dn;have cn:=eY (i:=i) (by omega);obtain⟨x,I⟩:∃c,H[i]?=some c:=⟨_,bL az⟩;have hl:(H.take (i+1)).all e1=e1 x:=by rw[fQ,I,Eu,ae0,eE];simp
  have fB:e1 x=false->H.all e1=false:=λh=>ID.2 ⟨x,eN I,by rw[h];decide⟩
  rcases bm:decide (x<0)
  ·rcases bN:decide (x>1000000000000000)
   ·have U:e1 x=true:=Bc.2 (by have:=of_decide_eq_false bm;have:=of_decide_eq_false bN;omega);simp only[go_sem,go_sem_proc,b8,aw,b6,hm,I,d1,cn,bm,bN,Y,af,bb];repeat' (first|refine al ?_ ?_|fail)<;>intro h<;>simp only[h,go_sem,go_sem_proc,b8,aw,b6,hm,I,d1,cn,bm,bN,Y,af,bb]
    exact⟨i+1,by omega,by omega,rfl,by rw[hl,U]⟩
   ·have U:e1 x=false:=by
     rw[<-V9,Bc];have:=of_decide_eq_true bN;omega
    rw[fB U];simp only[go_sem,go_sem_proc,b8,aw,b6,hm,I,d1,bm,bN,Y,af,bb,dm];repeat' (first|refine al ?_ ?_|fail)<;>intro h<;>simp only[h,go_sem,go_sem_proc,b8,aw,b6,hm,I,d1,bm,bN,Y,af,bb,dm]
  ·have U:e1 x=false:=by
    rw[<-V9,Bc];have:=of_decide_eq_true bm;omega
   rw[fB U];simp only[go_sem,go_sem_proc,b8,aw,b6,hm,I,d1,bm,Y,af,bb,dm];repeat' (first|refine al ?_ ?_|fail)<;>intro h<;>simp only[h,go_sem,go_sem_proc,b8,aw,b6,hm,I,d1,bm,Y,af,bb,dm]
 have d1:decide ((i:Int)<(o H:Int))=false:=cY;rw[du (by omega)] at eE;rw[eE,eF];simp only[go_sem,go_sem_proc,b8,aw,b6,d1,af];clear d1 eE;refine dw [0,1] [] (λ(i:Nat) tm m=>i<=o cs/\tm 6=.J (.int .i64 i)/\(cs.take i).all (fN (o H))=true) (λi=>o cs-i) 0 (by refine⟨by omega,rfl,rfl⟩) ?_;intro vs ms a7 aY;simp only[go_sem,go_sem_proc,b8,aw,af] at a7 aY;subst a7 aY;clear b8 aw hm;rintro i tm m R wD ⟨Q,dB,eE⟩;simp only[go_sem,go_sem_proc,bn] at R;obtain⟨b8,aw⟩:=R;rcases dG (i<o cs) with az|cb
 ·have d1:decide ((i:Int)<(o cs:Int))=true:=dn;have cn:=eY (i:=i) (by omega);obtain⟨⟨a,b,k,x⟩,I⟩:∃c,cs[i]?=some c:=⟨_,bL az⟩;have hl:(cs.take (i+1)).all (fN (o H))=fN (o H) (a,b,k,x):=by rw[fQ,I,Eu,ae0,eE];simp
  have fB:fN (o H) (a,b,k,x)=false->cs.all (fN (o H))=false:=λh=>ID.2 ⟨_,eN I,by rw[h];decide⟩
  by_cases U:fN (o H) (a,b,k,x)=true
  ·have xB:=Bb.1 U;dsimp only at xB;have bm:decide (a<0)=false:=cY;have bN:decide (a>=(o H:Int))=false:=cY;have bO:decide (b < -1)=false:=cY;have cp:decide (b>=(o H:Int))=false:=cY;have nP:decide (k<0)=false:=cY;have D2:decide (k>9)=false:=cY;have yU:decide (x<0)=false:=cY;have ae1:decide (x>1000000000000000)=false:=cY;simp only[go_sem,go_sem_proc,b8,aw,dB,I,d1,cn,bm,bN,bO,cp,nP,D2,yU,ae1,bR,af,bb];repeat' (first|refine al ?_ ?_|fail)<;>intro h<;>simp only[h,go_sem,go_sem_proc,b8,aw,dB,I,d1,cn,bm,bN,bO,cp,nP,D2,yU,ae1,bR,af,bb]
   exact⟨i+1,by omega,by omega,rfl,by rw[hl,U]⟩
  ·have aN:fN (o H) (a,b,k,x)=false:=by simpa using U
   rw[fB aN];rw[Bb] at U;dsimp only at U;simp only[go_sem,go_sem_proc,b8,aw,dB,I,d1,bR,af,bb];repeat' (first|refine al ?_ ?_|fail)<;>intro h<;>simp only[h,go_sem,go_sem_proc,b8,aw,dB,I,d1,bR,af,bb]
   all_goals (exfalso;simp only[decide_eq_false_iff_not] at *;omega)
 ·have d1:decide ((i:Int)<(o cs:Int))=false:=cY;rw[du (by omega)] at eE;rw[eE];simp only[go_sem,go_sem_proc,b8,aw,dB,d1,af];repeat' (first|refine al ?_ ?_|fail)<;>intro h<;>simp only[h,go_sem,go_sem_proc,b8,aw,dB,d1,af]
abbrev Wa:List bd->List Data:=λ(l:List bd)=>[.X (l.map aH)]
def Wb:=bU Wa λ(l:List bd)=>cq (ej l) (.same (.bool (l.all jF)))
theorem ats:∀a b,Wa a=Wa b->a=b:=by
  intro fK ab h;simp only[bn,Data.X.injEq,and_true] at h;exact map_inj l4 _ _ h
@[go_sem] theorem ae2 (l:List bd)(E:ej l):Wb [.X (l.map aH)]=some (.same (.bool (l.all jF))):=(b3 ats l).trans (cw E _)
theorem att (T:br)(dS:T kZ=aK tL)(l:List bd)(E:ej l):WP T VL (.same (.bool (l.all jF))) [.J (.X (l.map aH))]:=by
 refine b4 ?_;simp only[VL];obtain⟨ax,bM⟩:=E;simp only[go_sem,go_sem_proc,dS,af];refine dw [0] [] (λ(i:Nat) tm m=>i<=o l/\tm 3=.J (.int .i64 i)/\(l.take i).all jF=true) (λi=>o l-i) 0 (by refine⟨by omega,rfl,rfl⟩) ?_;intro vs ms a7 aY;simp only[go_sem,go_sem_proc,dS,af] at a7 aY;subst a7 aY;rintro i tm m R-⟨Q,cI,aM⟩;simp only[go_sem,go_sem_proc,dS,bn] at R;have b8:=R;rcases dG (i<o l) with az|cb
 ·have d1:decide ((i:Int)<(o l:Int))=true:=dn;have cn:=eY (i:=i) (by omega);obtain⟨⟨⟨f1,f2⟩,⟨f3,f4⟩⟩,I⟩:∃x,l[i]?=some x:=⟨_,bL az⟩;obtain⟨lH,kn⟩:=bM _ (eN I);dsimp only at lH kn;have Wc:jF ((f1,f2),(f3,f4))=(cU ((f1,f2),(f3,f4))&&decide (f1>=0)):=rfl;rcases q:cU ((f1,f2),(f3,f4))
  ·rw[Eo I (by rw[Wc,q];rfl)];refine aQ ?_;repeat' (intro h<;>simp only[h,go_sem,go_sem_proc,dS,b8,cI,I,d1,lH,kn,q,aH,af,bb,cv]<;>try refine al ?_ ?_)
  rcases c2:decide (f1<0)
  ·have iU:decide (f1>=0)=true:=hc (by have:=of_decide_eq_false c2;omega);refine aQ ?_;repeat' (intro h<;>simp only[h,go_sem,go_sem_proc,dS,b8,cI,I,d1,cn,lH,kn,q,c2,aH,af,bb,bX]<;>try refine al ?_ ?_)
   exact⟨i+1,by omega,by omega,rfl,by rw[Dt I,aM,Wc,q,iU];rfl⟩
  ·have iU:decide (f1>=0)=false:=gr (by have:=of_decide_eq_true c2;omega);rw[Eo I (by rw[Wc,q,iU];rfl)];refine aQ ?_;repeat' (intro h<;>simp only[h,go_sem,go_sem_proc,dS,b8,cI,I,d1,lH,kn,q,c2,aH,af,bb,bX]<;>try refine al ?_ ?_)
 have d1:decide ((i:Int)<(o l:Int))=false:=cY;rw[du (by omega)] at aM;rw[aM];refine aQ ?_;repeat' (intro h<;>simp only[h,go_sem,go_sem_proc,dS,b8,cI,d1,af]<;>try refine al ?_ ?_)
theorem atu {H:List Int}{cs:List av}{ad aJ:List bd}:gD H cs ad aJ=(hL H cs&&(((o ad:Int)==(o H:Int))&&(((o aJ:Int)==(o cs:Int))&&(ad.all jF&&aJ.all jF)))):=by
 have ag:hL H cs=(decide (o H<=60)&&(decide (o cs<=2000)&&(H.all e1&&cs.all (fN (o H))))):=by
  unfold hL;simp only[Bool.and_assoc]
  rfl
 have D:decide ((o H:Int)>60) = !decide (o H<=60):=by
  rw[q8,decide_eq_true_iff,yz,decide_eq_false_iff_not];omega
 have G:decide ((o cs:Int)>2000) = !decide (o cs<=2000):=by
  rw[q8,decide_eq_true_iff,yz,decide_eq_false_iff_not];omega
 unfold gD;rw[ag,D,G];generalize decide (o H<=60)=A;generalize decide (o cs<=2000)=B;generalize ((o ad:Int)==(o H:Int))=C;generalize ((o aJ:Int)==(o cs:Int))=cB;generalize H.all e1=gd;generalize cs.all (fN (o H))=a1
 cases A<;>cases B<;>cases C<;>cases cB<;>cases gd<;>cases a1<;>rfl
def MO:=bU y6 λ(H,cs,ad,aJ,fl)=>cq (o H<=1000000/\o cs<=1000000/\ej ad/\ej aJ) (.same (.bool (gD H cs ad aJ)))
@[go_sem] theorem ae3 (H:List Int)(cs:List av)(ad:List bd)(aJ:List bd)(fl:List (List Int))(E:(o H)<=1000000/\o cs<=1000000/\ej ad/\ej aJ):MO [.X (H.map Y),.X (cs.map bR),.agg (er ad aJ fl)]=some (.same (.bool (gD H cs ad aJ))):=(b3 Ep (H,cs,ad,aJ,fl)).trans (cw E _)
theorem atv (T:br)(IL:T OV=aK V8)(IM:T JX=aK Wb)(H:List Int)(cs:List av)(ad:List bd)(aJ:List bd)(fl:List (List Int))(E:(o H)<=1000000/\o cs<=1000000/\ej ad/\ej aJ):WP T VG (.same (.bool (gD H cs ad aJ))) [.J (.X (H.map Y)),.J (.X (cs.map bR)),.J (.agg (er ad aJ fl))]:=by
 refine b4 ?_;simp only[VG];obtain⟨D,G,ag,aR⟩:=E;have c6:=atq H cs ⟨D,G⟩;have a3:=ae2 ad ag;have a4:=ae2 aJ aR;rw[atu];generalize ad.all jF=A3 at *;generalize aJ.all jF=A4 at *;generalize hL H cs=Hx at *
 cases Hx
 ·refine aQ ?_;repeat' (intro h<;>simp only[h,go_sem,go_sem_proc,IL,IM,er,c6,dm]<;>try refine al ?_ ?_)
 rcases bO:((o ad:Int)==(o H:Int))
 ·refine aQ ?_;repeat' (intro h<;>simp only[h,go_sem,go_sem_proc,IL,IM,er,c6,bO,af,eF,dm]<;>try refine al ?_ ?_)
 rcases cp:((o aJ:Int)==(o cs:Int))
 ·refine aQ ?_;repeat' (intro h<;>simp only[h,go_sem,go_sem_proc,IL,IM,er,c6,bO,cp,af,eF,dm]<;>try refine al ?_ ?_)
 cases A3
 ·refine aQ ?_;repeat' (intro h<;>simp only[h,go_sem,go_sem_proc,IL,IM,er,c6,bO,cp,a3,af,eF,dm]<;>try refine al ?_ ?_)
 ·refine aQ ?_;repeat' (intro h<;>simp only[h,go_sem,go_sem_proc,IL,IM,er,c6,bO,cp,a3,a4,af,eF]<;>try refine al ?_ ?_)
abbrev Wd:(List av)×(List bd)×Int->List Data:=λ(cs,aJ,cP)=>[.X (cs.map bR),.X (aJ.map aH),.int .i64 cP]
def MP:=bU Wd λ(cs,aJ,cP)=>cq (o aJ=o cs/\o cs<=2000) (.same (.cQ [.X ((cT cs cP).map bR),.X ((ep cs aJ cP).map aH)]))
theorem atw:∀a b,Wd a=Wd b->a=b:=by
  rintro⟨rr,Mv,arD⟩ ⟨mQ,Mw,arE⟩ h;simp only[bn,Data.X.injEq,Data.int.injEq,and_true,true_and] at h;exact dV (map_inj oC _ _ h.1) (dV (map_inj l4 _ _ h.2.1) h.2.2)
@[go_sem] theorem ae4 (cs:List av)(aJ:List bd)(cP:Int)(E:(o aJ)=o cs/\o cs<=2000):MP [.X (cs.map bR),.X (aJ.map aH),.int .i64 cP]=some (.same (.cQ [.X ((cT cs cP).map bR),.X ((ep cs aJ cP).map aH)])):=(b3 atw (cs,aJ,cP)).trans (cw E _)
theorem atx (T:br)  (cs:List av) (aJ:List bd) (cP:Int) (E:(o aJ)=o cs/\o cs<=2000):WP T VH (.same (.cQ [.X ((cT cs cP).map bR),.X ((ep cs aJ cP).map aH)])) [.J (.X (cs.map bR)),.J (.X (aJ.map aH)),.J (.int .i64 cP)]:=by
 refine b4 ?_;simp only[VH];obtain⟨arG,hlen⟩:=E;simp only[go_sem,go_sem_proc,af];refine dw [0,1,2] [] (λ((i,g,cR):Nat×Nat×Nat) tm m=>i<=o cs/\tm 10=.J (.int .i64 i)/\tm 8=.ref 380030 g 4 0 (cT (cs.take i) cP).length/\tm 9=.ref 380037 cR 4 0 (ep (cs.take i) (aJ.take i) cP).length/\m 380030=some (g,bK bR (cT (cs.take i) cP))/\m 380037=some (cR,bK aH (ep (cs.take i) (aJ.take i) cP))) (λ(i,_,_)=>o cs-i) (0,0,0) (by refine⟨by omega,rfl,rfl,rfl,rfl,rfl⟩) ?_;intro vs ms a7 aY;simp only[go_sem,go_sem_proc,af] at a7 aY;subst a7 aY;rintro⟨i,g,cR⟩ tm m R-⟨Q,eA,cS,eh,qo,MQ⟩;simp only[go_sem,go_sem_proc,bn] at R;obtain⟨b8,aw,aB⟩:=R;rcases dG (i<o cs) with az|cb
 ·have d1:decide ((i:Int)<(o cs:Int))=true:=dn;have cn:=eY (i:=i) (by omega);obtain⟨⟨bm,bN,bO,cp⟩,I⟩:∃c,cs[i]?=some c:=⟨_,bL az⟩;obtain⟨⟨⟨hC,jb⟩,⟨rk,ug⟩⟩,ak⟩:∃c,aJ[i]?=some c:=⟨_,bL (by omega)⟩;have hl:cs.take (i+1)=cs.take i++[(bm,bN,bO,cp)]:=by rw[fQ,I];rfl
  have U0:aJ.take (i+1)=aJ.take i++[((hC,jb),(rk,ug))]:=by rw[fQ,ak];rfl
  have U1:(cs.take i).length=(aJ.take i).length:=by rw[gO,gO];omega
  have G:(cs.take i).length<=o cs:=We ..
  have zw:(cT (cs.take i) cP).length<=2000:=by
   have D:=adY (cs.take i) cP;omega
  have arH:(ep (cs.take i) (aJ.take i) cP).length<=2000:=by
   have D:=T4 (cs.take i) (aJ.take i) cP;omega
  have pB:=T3 (cs.take i) (aJ.take i) (bm,bN,bO,cp) ((hC,jb),(rk,ug)) cP U1;rw[<-hl,<-U0] at pB;have U2:i<o aJ:=by omega
  rcases c7:(bm==cP)
  ·have jq:cT (cs.take (i+1)) cP=cT (cs.take i) cP:=by
    unfold cT;rw[hl,ue,yW (by simpa using c7),rz,gk]
   rw[aq (by dsimp only;rw[c7];decide),gk] at pB;refine aQ ?_;repeat' (intro h<;>simp only[h,go_sem,go_sem_proc,b8,aw,aB,cS,eh,eA,I,ak,d1,cn,c7,bR,af,bb]<;>try refine al ?_ ?_)
   exact⟨(i+1,g,cR),by dsimp only;omega,by dsimp only;omega,rfl,by rw[jq],by rw[pB],by rw[jq];exact qo,by rw[pB];exact MQ⟩
  ·have jq:cT (cs.take (i+1)) cP=cT (cs.take i) cP++[(bm,bN,bO,cp)]:=by
    unfold cT;rw[hl,ue,yV (by simpa using c7),rz]
   rw[aj (by dsimp only;exact c7)] at pB;have ev:=o4 HF acr 380030 g 32 (cT (cs.take i) cP) (bm,bN,bO,cp) (cs:=[.J (.int .i64 bm),.J (.int .i64 bN),.J (.int .i64 bO),.J (.int .i64 cp)]) rfl (by omega) (by omega);rw[<-jq] at ev;have U3:=λlj kP=>o4 C9 aat 380037 cR 64 (ep (cs.take i) (aJ.take i) cP) ((hC,jb),(rk,ug)) (cs:=lj) kP (by omega) (by omega);have Bo:=U3 _ rfl;rw[<-pB] at Bo;have bk:(cT (cs.take (i+1)) cP).length=(cT (cs.take i) cP).length+1:=by rw[jq,fE];rfl
   have bp:(ep (cs.take (i+1)) (aJ.take (i+1)) cP).length=(ep (cs.take i) (aJ.take i) cP).length+1:=by rw[pB,fE];rfl
   simp only[aH,e8,cM] at Bo;refine aQ ?_;repeat' (intro h<;>simp only[h,go_sem,go_sem_proc,b8,aw,aB,cS,eh,eA,qo,MQ,I,ak,ev,Bo,d1,cn,c7,U2,bR,aH,af,bb]<;>try refine al ?_ ?_)
   exact⟨(i+1,g+1,cR+1),by dsimp only;omega,by dsimp only;omega,rfl,by rw[bk],by rw[bp],rfl,rfl⟩
 ·have d1:decide ((i:Int)<(o cs:Int))=false:=cY;obtain rfl:i=o cs:=by omega
  rw[k4,du (by omega)] at eh MQ;rw[k4] at cS qo;have aty:=λ(K:bz->Prop) (st:bz)=>ml (K:=K) (st:=st) HF 8 380030 g (cT cs cP);have y9:=λ(K:bz->Prop) (st:bz)=>ml (K:=K) (st:=st) C9 9 380037 cR (ep cs aJ cP);refine aQ ?_;repeat' (intro h<;>simp only[h,go_sem,go_sem_proc,b8,aw,aB,cS,eh,eA,qo,MQ,d1,aty,y9,af]<;>try refine al ?_ ?_)
theorem atz {x:Rat}(I:dD x):tL [.agg (aH (ai x))]=some (.same (.bool true)):=by
 obtain⟨D,G⟩:=gW I;have:=amp (ai x).1.1 (ai x).1.2 (ai x).2.1 (ai x).2.2 ⟨D,G⟩;rw[show ((((ai x).1.1,(ai x).1.2),((ai x).2.1,(ai x).2.2)):bd)=ai x from rfl,A9 I] at this;exact this
def Wf:=bU Mr λ(l,q)=>cq (vv l q) (.same (rq l q))
@[go_sem] theorem atA (l:List av)(q:List Rat)(E:vv l q):Wf [.X (l.map bR),.X ((q.map ai).map aH)]=some (.same (rq l q)):=(b3 ad2 (l,q)).trans (cw E _)
theorem atB (T:br)(iA:T Gb=aK LY)(dS:T kZ=aK tL)(hM:T uQ=aK HH)(hN:T Ga=aK HR)(l:List av)(q:List Rat)(E:vv l q):WP T Tp (.same (rq l q)) [.J (.X (l.map bR)),.J (.X ((q.map ai).map aH))]:=by
 refine b4 ?_;simp only[Tp];obtain⟨jq,hlen,nO⟩:=E;have mn:=jq.len;have HZ:=ao6 l jq;have CR:(q.map ai).length=o l:=by rw[af];exact hlen
 have atC:((((q.map ai).length:Nat):Int)==((o l:Nat):Int))=true:=by rw[CR];exact beq_self_eq_true _
 have Bm:∀k:Nat,(q.map ai)[k]?=(q[k]?).map ai:=λk=>bb;generalize aAA:q.map ai=ra at *;simp only[go_sem,go_sem_proc,iA,dS,hM,hN,HZ,atC,af,bne,bX];refine dw [0,1] [] (λ(i:Nat) tm m=>i<=o l/\tm 6=.J (.int .i64 i)) (λi=>o l-i) 0 (by refine⟨by omega,rfl⟩) ?_;intro vs ms a7 aY;simp only[go_sem,go_sem_proc,iA,dS,hM,hN,af] at a7 aY;subst a7 aY;rintro i tm m R-⟨Q,dB⟩;simp only[go_sem,go_sem_proc,iA,dS,hM,hN,bn] at R;obtain⟨b8,aw⟩:=R;rcases dG (i<o l) with az|cb
 ·have d1:decide ((i:Int)<(o ra:Int))=true:=dn;have cn:=eY (i:=i) (by omega);obtain⟨p,aG⟩:∃p,q[i]?=some p:=⟨_,bL (by omega)⟩;have mE:ra[i]?=some (ai p):=by rw[Bm,aG];rfl
  have hy:i<o ra:=by omega
  have U:=atz (nO p (eN aG));generalize ai p=P at *;obtain⟨⟨hC,jb⟩,⟨rk,ug⟩⟩:=P;simp only[aH] at U;simp only[go_sem,go_sem_proc,iA,dS,hM,hN,b8,aw,dB,mE,hy,d1,cn,U,aH,af,bb,bX];repeat' (first|refine al ?_ ?_|fail)<;>intro h<;>simp only[h,go_sem,go_sem_proc,iA,dS,hM,hN,b8,aw,dB,mE,hy,d1,cn,U,aH,af,bb,bX]
  exact⟨i+1,by omega,by omega,rfl⟩
 have d1:decide ((i:Int)<(o ra:Int))=false:=cY;simp only[go_sem,go_sem_proc,iA,dS,hM,hN,b8,aw,dB,d1,af]
 refine dw [0,1] [] (λ(k:Nat) tm m=>k<=10/\tm 7=.J (.int .i64 k)/\∀j c,l[j]?=some c->q.getD j 0<(c.2.2.2:Rat)->(k:Int)<=c.2.2.1) (λk=>10-k) 0 (by
  refine⟨by omega,rfl,λj c E _=>?_⟩
  have:=jq.c c (eN E);omega) ?_
 intro vs ms a7 aY;simp only[go_sem,go_sem_proc,iA,dS,hM,hN,b8,aw] at a7 aY;subst a7 aY;clear b8 aw dB d1 cb Q;rintro k tm m R-⟨oY,bQ,uE⟩;simp only[go_sem,go_sem_proc,iA,dS,hM,hN,bn] at R;obtain⟨b8,aw⟩:=R;rcases dG (k<10) with adH|adH
 ·have d1:decide ((k:Int)<10)=true:=dn;have cn:=eY (i:=k) (by omega);simp only[go_sem,go_sem_proc,iA,dS,hM,hN,b8,aw,bQ,d1];refine dw [0,1,7] [] (λ(i:Nat) tm m=>i<=o l/\tm 8=.J (.int .i64 i)/\∀j c,j<i->l[j]?=some c->q.getD j 0<(c.2.2.2:Rat)->(k:Int)<c.2.2.1) (λi=>o l-i) 0 (by refine⟨by omega,rfl,λj c ay=>by omega⟩) ?_;intro vs ms a7 aY;simp only[go_sem,go_sem_proc,iA,dS,hM,hN,b8,aw,bQ,af] at a7 aY;subst a7 aY;clear b8 aw bQ;rintro i tm m R-⟨Q,cS,js⟩;simp only[go_sem,go_sem_proc,iA,dS,hM,hN,bn] at R;obtain⟨b8,aw,bQ⟩:=R;rcases dG (i<o l) with az|cb
  ·have d2:decide ((i:Int)<(o l:Int))=true:=dn;have fc:=eY (i:=i) (by omega);obtain⟨⟨bm,bN,bO,cp⟩,I⟩:∃c,l[i]?=some c:=⟨_,bL az⟩;obtain⟨p,aG⟩:∃p,q[i]?=some p:=⟨_,bL (by omega)⟩;have mE:ra[i]?=some (ai p):=by rw[Bm,aG];rfl
   have g4:q.getD i 0=p:=by rw[fP,aG];rfl
   have hy:i<o ra:=by omega
   have q5:=jq.c _ (eN I);dsimp only at q5;have cL:c8 cp:=tY (by omega) (by omega);have IP:=HX cL;have fi:=acO (nO p (eN aG)) (rn cL);have yZ:decide (km p (cp:Rat)<0)=decide (p<(cp:Rat)):=LR;have IQ:=uE i _ I;rw[g4] at IQ;dsimp only at IQ;generalize ai p=P at *;generalize ai (cp:Rat)=A at *;obtain⟨⟨hC,jb⟩,⟨rk,ug⟩⟩:=P;obtain⟨⟨c6,dv⟩,⟨a3,a4⟩⟩:=A;simp only[aH] at IP fi;rcases c7:(bO==(k:Int))
   ·have bZ:bO≠(k:Int):=beq_eq_false_iff_ne.1 c7;simp only[go_sem,go_sem_proc,iA,dS,hM,hN,b8,aw,bQ,cS,I,d2,fc,c7,bR,af,bb];repeat' (first|refine al ?_ ?_|fail)<;>intro h<;>simp only[h,go_sem,go_sem_proc,iA,dS,hM,hN,b8,aw,bQ,cS,I,d2,fc,c7,bR,af,bb]
    exact⟨i+1,by omega,by omega,rfl,λj c ay E az=>by
     by_cases h:j=i
     ·subst h;rw[I,cz] at E;subst E;rw[g4] at az;have:=IQ az;dsimp only;omega
     ·exact js j c (by omega) E az⟩
   rcases c2:decide (p<(cp:Rat))
   ·rw[c2] at yZ;simp only[go_sem,go_sem_proc,iA,dS,hM,hN,b8,aw,bQ,cS,I,mE,hy,IP,fi,yZ,d2,fc,c7,bR,aH,af,bb];repeat' (first|refine al ?_ ?_|fail)<;>intro h<;>simp only[h,go_sem,go_sem_proc,iA,dS,hM,hN,b8,aw,bQ,cS,I,mE,hy,IP,fi,yZ,d2,fc,c7,bR,aH,af,bb]
    exact⟨i+1,by omega,by omega,rfl,λj c ay E az=>by
     by_cases h:j=i
     ·subst h;rw[I,cz] at E;subst E;rw[g4] at az;exact absurd az (of_decide_eq_false c2)
     ·exact js j c (by omega) E az⟩
   ·rw[c2] at yZ;have rY:bO=(k:Int):=eq_of_beq c7;have D:=asq (q:=λj=>q.getD j 0) az I (by dsimp only;rw[g4];exact of_decide_eq_true c2);dsimp only at D;have G:ho l (λj=>q.getD j 0) (o l)<10:=by omega
    obtain⟨j,ay,c,E,IH,sl⟩:=aet G;have ag:=uE j c E IH
    have ix:rq l q=.cQ [.int .i64 (k:Int),.bool true]:=by
     unfold rq;rw[aj G,show ho l (λj=>q.getD j 0) (o l)=(k:Int) by omega]
    rw[ix];simp only[go_sem,go_sem_proc,iA,dS,hM,hN,b8,aw,bQ,cS,I,mE,hy,IP,fi,yZ,d2,c7,bR,aH,af,bb];repeat' (first|refine al ?_ ?_|fail)<;>intro h<;>simp only[h,go_sem,go_sem_proc,iA,dS,hM,hN,b8,aw,bQ,cS,I,mE,hy,IP,fi,yZ,d2,c7,bR,aH,af,bb]
  ·have d2:decide ((i:Int)<(o l:Int))=false:=cY;simp only[go_sem,go_sem_proc,iA,dS,hM,hN,b8,aw,bQ,cS,d2,cn,af];repeat' (first|refine al ?_ ?_|fail)<;>intro h<;>simp only[h,go_sem,go_sem_proc,iA,dS,hM,hN,b8,aw,bQ,cS,d2,cn,af]
   exact⟨k+1,by omega,by omega,rfl,λj c E az=>by
    have ik:=(ef.1 E).1;have:=js j c (by omega) E az;omega⟩
 ·have d1:decide ((k:Int)<10)=false:=cY
  have ix:rq l q=.cQ [.int .i64 0,.bool false]:=by
   unfold rq;rw[aq];intro G;obtain⟨j,ay,c,E,IH,sl⟩:=aet G;have ag:=uE j c E IH;omega
  rw[ix];simp only[go_sem,go_sem_proc,iA,dS,hM,hN,b8,aw,bQ,d1];repeat' (first|refine al ?_ ?_|fail)<;>intro h<;>simp only[h,go_sem,go_sem_proc,iA,dS,hM,hN,b8,aw,bQ,d1]
def Bx (cs:List av)(ps:List Rat)(i:Int):Int:=if kM cs ps i<10 then kM cs ps i else -1
abbrev Wg:(List av)×(List Rat)×Int->List Data:=λ(cs,ps,i)=>[.X (cs.map bR),.X ((ps.map ai).map aH),.int .i64 i]
def MR:=bU Wg λ(cs,ps,i)=>cq (o ps=o cs/\o cs<=2000/\vv (cT cs i) (ep cs ps i)) (.same (.int .i64 (Bx cs ps i)))
theorem atD:∀a b,Wg a=Wg b->a=b:=by
  rintro⟨rr,D5,i1⟩ ⟨mQ,D6,i2⟩ h;simp only[bn,Data.X.injEq,Data.int.injEq,and_true,true_and] at h;exact dV (map_inj oC _ _ h.1) (dV (map_inj (λ_ _ a6=>p6 a6) _ _ (map_inj l4 _ _ h.2.1)) h.2.2)
@[go_sem] theorem ae5 (cs:List av)(ps:List Rat)(i:Int)(E:(o ps)=o cs/\o cs<=2000/\vv (cT cs i) (ep cs ps i)):MR [.X (cs.map bR),.X ((ps.map ai).map aH),.int .i64 i]=some (.same (.int .i64 (Bx cs ps i))):=(b3 atD (cs,ps,i)).trans (cw E _)
theorem atE (T:br)(iE:T Gi=aK MP)(ae6:T O2=aK Wf)(cs:List av)(ps:List Rat)(i:Int)(E:(o ps)=o cs/\o cs<=2000/\vv (cT cs i) (ep cs ps i)):WP T VK (.same (.int .i64 (Bx cs ps i))) [.J (.X (cs.map bR)),.J (.X ((ps.map ai).map aH)),.J (.int .i64 i)]:=by
 refine b4 ?_;simp only[VK];obtain⟨ax,Em,iw⟩:=E;have D:=ae4 cs (ps.map ai) i ⟨by rw[af];exact ax,Em⟩
 rw[H6] at D;have G:=atA (cT cs i) (ep cs ps i) iw;rw[adp] at G;unfold Bx nQ at *;generalize ((ep cs ps i).map ai).map aH=aT at *;generalize ps.map ai=PD at *;rcases q:decide (kM cs ps i<10)
 ·rw[aq (of_decide_eq_false q)] at G ⊢;rw[q] at G;refine aQ ?_;repeat' (intro h<;>simp only[h,go_sem,go_sem_proc,iE,ae6,D,G,cv]<;>try refine al ?_ ?_)
 ·rw[aj (of_decide_eq_true q)] at G ⊢;rw[q] at G;refine aQ ?_;repeat' (intro h<;>simp only[h,go_sem,go_sem_proc,iE,ae6,D,G,bX]<;>try refine al ?_ ?_)
def EA:=bU y6 λ(H,cs,ad,aJ,fl)=>cq (rD H cs ad aJ) (.same (.X ((pE H cs ad aJ).map Y)))
@[go_sem] theorem ae7 (H:List Int)(cs:List av)(ad:List bd)(aJ:List bd)(fl:List (List Int))(E:rD H cs ad aJ):EA [.X (H.map Y),.X (cs.map bR),.agg (er ad aJ fl)]=some (.same (.X ((pE H cs ad aJ).map Y))):=(b3 Ep (H,cs,ad,aJ,fl)).trans (cw E _)
theorem atF (T:br)(hp:T Gh=aK MO)(gK:T Gj=aK MR)(H:List Int)(cs:List av)(ad:List bd)(aJ:List bd)(fl:List (List Int))(E:rD H cs ad aJ):WP T VE (.same (.X ((pE H cs ad aJ).map Y))) [.J (.X (H.map Y)),.J (.X (cs.map bR)),.J (.agg (er ad aJ fl))]:=by
 refine b4 ?_;simp only[VE];have U:=ae3 H cs ad aJ fl ⟨E.n,E.c,E.h,E.p⟩;have g4:=E.rC;clear E;unfold pE;rcases dk:gD H cs ad aJ
 ·rw[dk] at U;rw[aq (by decide)];simp only[er] at U;refine aQ ?_;repeat' (intro h<;>simp only[h,go_sem,go_sem_proc,hp,gK,er,U,cv,cM]<;>try refine al ?_ ?_)
 obtain⟨ps,rfl,-⟩:=y7 (IE dk).2;rw[dk] at U;rw[aj rfl];rw[j5] at g4 ⊢;have nJ:=g4 dk;clear g4;have aL:=nJ.n;have sT:=λi=>ae5 cs ps i ⟨nJ.len,nJ.l,nJ.short i⟩;have mD:=Mz cs ps;have vR:=Bp cs ps;simp only[er] at U;generalize Vr:ps.map ai=vy at *;simp only[go_sem,go_sem_proc,hp,gK,er,U,af,bX];refine dw [0,1,5] [373005] (λ((i,g):Nat×Nat) tm m=>i<=o H/\tm 8=.J (.int .i64 i)/\tm 7=.ref 373030 g 1 0 (eH cs ps i).length/\m 373030=some (g,bK Y (eH cs ps i))) (λ(i,_)=>o H-i) (0,0) (by refine⟨by omega,rfl,rfl,rfl⟩) ?_;intro vs ms a7 aY;simp only[go_sem,go_sem_proc,hp,gK,af] at a7 aY;subst a7 aY;rintro⟨i,g⟩ tm m R hm ⟨Q,cS,bQ,qo⟩;simp only[go_sem,go_sem_proc,hp,gK,bn] at R hm;obtain⟨b8,aw,b6⟩:=R;rcases dG (i<o H) with az|cb
 ·have d1:decide ((i:Int)<(o H:Int))=true:=dn;have cn:=eY (i:=i) (by omega);have sT:=sT (i:Int);have mD:=mD i;have aAB:=vR i;unfold Bx at sT;have ah:=ado (l:=cT cs (i:Int)) (q:=λk=>(ep cs ps (i:Int)).getD k 0) (λc E=>by have:=(nJ.own i).c c E;omega) (cT cs (i:Int)).length;have x4:0<=kM cs ps (i:Int):=ah.1
  by_cases aa:kM cs ps (i:Int)<10
  ·rw[aj aa] at sT mD;have d2:decide (kM cs ps (i:Int)>=0)=true:=hc x4;have ev:=o4 fR o5 373030 g 8 (eH cs ps i) (i:Int) (cs:=[.J (.int .i64 (i:Int))]) rfl (by omega) (by omega);rw[<-mD] at ev;have bk:(eH cs ps (i+1)).length=(eH cs ps i).length+1:=by rw[mD,fE];rfl
   generalize kM cs ps (i:Int)=Z at *;refine aQ ?_;repeat' (intro h<;>simp only[h,go_sem,go_sem_proc,hp,gK,b8,aw,b6,bQ,cS,hm,qo,d1,d2,cn,sT,ev,Y,af]<;>try refine al ?_ ?_)
   exact⟨(i+1,g+1),by dsimp only;omega,by dsimp only;omega,rfl,by rw[bk],rfl⟩
  ·rw[aq aa] at sT mD;rw[gk] at mD;refine aQ ?_;repeat' (intro h<;>simp only[h,go_sem,go_sem_proc,hp,gK,b8,aw,b6,bQ,cS,hm,qo,d1,show decide ((-1:Int)>=0)=false from rfl,cn,sT,Y,af]<;>try refine al ?_ ?_)
   exact⟨(i+1,g),by dsimp only;omega,by dsimp only;omega,rfl,by rw[mD],by rw[mD]⟩
 ·have d1:decide ((i:Int)<(o H:Int))=false:=cY;obtain rfl:i=o H:=by omega
  have U4:=λ(K:bz->Prop) (st:bz)=>ml (K:=K) (st:=st) fR 7 373030 g (eH cs ps (o H));refine aQ ?_;repeat' (intro h<;>simp only[h,go_sem,go_sem_proc,hp,gK,b8,aw,b6,bQ,cS,hm,qo,d1,U4,af]<;>try refine al ?_ ?_)
theorem ae8 (H:List Int)(cs:List av)(ad:List bd)(ps:List Rat)(fl:List (List Int))(h:rD H cs ad (ps.map ai))(dk:gD H cs ad (ps.map ai)=true):iB H cs ps/\EA [.X (H.map Y),.X (cs.map bR),.agg (er ad (ps.map ai) fl)]=some (.same (.X ((eH cs ps (o H)).map Y))):=by
 have D:=ae7 H cs ad (ps.map ai) fl h;unfold pE at D;have G:=h.rC dk;rw[aj dk,j5] at D;rw[j5] at G;exact⟨G,D⟩
theorem atG {cs:List av}{ps:List Rat}{n:Nat}{fl:List (List Int)}{r:List Int}{x:Int}(h:r∈fl)(I:x∈r)(aL:x ∉ eH cs ps n):jH cs ps n fl=false:=by
 unfold jH
 have:fl.flatten.all (λx=>decide (x∈eH cs ps n))=false:=by
  rw[ID];exact⟨x,List.mem_flatten.2 ⟨r,h,I⟩,by rw[decide_eq_true_iff];exact aL⟩
 rw[this,dm,gQ]
theorem atH {cs:List av}{ps:List Rat}{n:Nat}{fl:List (List Int)}{x:Int}(I:x∈eH cs ps n)(aL:x ∉ fl.flatten):jH cs ps n fl=false:=by
 unfold jH
 have:(eH cs ps n).all (λx=>decide (x∈fl.flatten))=false:=by
  rw[ID];exact⟨x,I,by rw[decide_eq_true_iff];exact aL⟩
 rw[this,gQ,gQ]
structure Wh (H:List Int) (cs:List av) (ad:List bd) (ps:List Rat) (fl:List (List Int)):Prop where
 a:rD H cs ad (ps.map ai)
 r:gD H cs ad (ps.map ai)=true
 f:xk fl
abbrev MS:(List Int)×(List av)×(List bd)×(List Rat)×(List (List Int))->List Data:=λ(H,cs,ad,ps,fl)=>[.X (H.map Y),.X (cs.map bR),.agg (er ad (ps.map ai) fl)]
def Wi:=bU MS λ(H,cs,ad,ps,fl)=>cq (Wh H cs ad ps fl) (.same (.bool (jH cs ps (o H) fl)))
theorem ae9:∀a b,MS a=MS b->a=b:=by
  rintro⟨sM,rr,kS,D5,xd⟩ ⟨sN,mQ,lV,D6,xe⟩ h;simp only[bn,Data.X.injEq,Data.agg.injEq,and_true] at h;obtain⟨D,G,ag⟩:=h;obtain⟨rfl,aR,rfl⟩:=aew ag;rw[map_inj eR _ _ D,map_inj oC _ _ G,map_inj (λ_ _ a6=>p6 a6) _ _ aR]
@[go_sem] theorem atI (H:List Int)(cs:List av)(ad:List bd)(ps:List Rat)(fl:List (List Int))(E:Wh H cs ad ps fl):Wi [.X (H.map Y),.X (cs.map bR),.agg (er ad (ps.map ai) fl)]=some (.same (.bool (jH cs ps (o H) fl))):=(b3 ae9 (H,cs,ad,ps,fl)).trans (cw E _)
theorem atJ (T:br)(et:T Ae=aK EA)(eI:T Cw=aK MK)(H:List Int)(cs:List av)(ad:List bd)(ps:List Rat)(fl:List (List Int))(E:Wh H cs ad ps fl):WP T VI (.same (.bool (jH cs ps (o H) fl))) [.J (.X (H.map Y)),.J (.X (cs.map bR)),.J (.agg (er ad (ps.map ai) fl))]:=by
 refine b4 ?_;simp only[VI];obtain⟨sU,dk,xl⟩:=E;obtain⟨nJ,iw⟩:=ae8 H cs ad ps fl sU dk;have aL:=nJ.n;have vR:=Bp cs ps (o H);have fB:=λi r=>aeM (cs:=cs) (ps:=ps) (n:=o H) (fl:=fl) (i:=i) (r:=r);have Wj:=λr x=>atG (cs:=cs) (ps:=ps) (n:=o H) (fl:=fl) (r:=r) (x:=x);have IQ:=λx=>atH (cs:=cs) (ps:=ps) (n:=o H) (fl:=fl) (x:=x)
 have Wk:fl.all y8=true->(∀x∈fl.flatten,x∈eH cs ps (o H))->(∀x∈eH cs ps (o H),x∈fl.flatten)->jH cs ps (o H) fl=true:=λD G ag=>by
  unfold jH;rw[D,eF,eX,h2,h2];exact⟨λx I=>hc (G x I),λx I=>hc (ag x I)⟩
 clear sU nJ;simp only[er] at iw;generalize eH cs ps (o H)=mI at *;generalize jH cs ps (o H) fl=IJ at *;generalize ps.map ai=vy at *;have hlen:=xl.len;have atK:=xl.names;have lR:=λx=>VQ mI x (by omega);simp only[go_sem,go_sem_proc,et,eI,er,iw,af];refine dw [5,7] [381005] (λ((i,g):Nat×Nat) tm m=>i<=o fl/\tm 9=.J (.int .i64 i)/\tm 8=.ref 381068 g 1 0 (fl.take i).flatten.length/\m 381068=some (g,bK Y (fl.take i).flatten)/\(fl.take i).all y8=true/\∀x∈(fl.take i).flatten,x∈mI) (λ(i,_)=>o fl-i) (0,0) (by refine⟨by omega,rfl,rfl,rfl,rfl,λx I=>by simp at I⟩) ?_;intro vs ms a7 aY;simp only[go_sem,go_sem_proc,et,eI,af] at a7 aY;subst a7 aY;rintro⟨i,g⟩ tm m R hm ⟨Q,eh,cS,ma,eE,cL⟩;simp only[go_sem,go_sem_proc,et,eI,bn] at R hm;obtain⟨b6,bQ⟩:=R;rcases dG (i<o fl) with az|cb
 ·have d1:decide ((i:Int)<(o fl:Int))=true:=dn;have cn:=eY (i:=i) (by omega);obtain⟨r,I⟩:∃r,fl[i]?=some r:=⟨_,bL az⟩;have m7:=eN I;have fB:=fB i r I;have Wj:=λx sB aL=>Wj r x m7 sB aL;have hl:(fl.take (i+1)).flatten=(fl.take i).flatten++r:=by rw[fQ,I,Eu,MN];simp
  have VY:(fl.take i).flatten.length+o r<=1000:=by
   have D:fl.flatten=(fl.take (i+1)).flatten++(fl.drop (i+1)).flatten:=by rw[<-MN,xN]
   rw[D,hl,fE,fE] at atK;omega
  rcases d5:((o r:Int)==0)
  case true =>
   have he:r=[]:=mL (by have:=eq_of_beq d5;omega);rw[fB (gr λh=>h.1 he)];simp only[go_sem,go_sem_proc,et,eI,b6,bQ,cS,eh,hm,I,d1,d5,l8,af,bb];repeat' (first|refine al ?_ ?_|fail)<;>intro h<;>simp only[h,go_sem,go_sem_proc,et,eI,b6,bQ,cS,eh,hm,I,d1,d5,l8,af,bb]
  have bZ:r≠[]:=λh=>by rw[h] at d5;cases d5
  simp only[go_sem,go_sem_proc,et,eI,b6,bQ,cS,eh,hm,I,d1,d5,l8,af,bb]
  refine dw [5,7,9,10] [381005] (λ((k,g):Nat×Nat) tm m=>k<=o r/\tm 11=.J (.int .i64 k)/\tm 8=.ref 381068 g 1 0 ((fl.take i).flatten++r.take k).length/\m 381068=some (g,bK Y ((fl.take i).flatten++r.take k))/\(r.take k).Pairwise (·<·)/\∀x∈r.take k,x∈mI) (λ(k,_)=>o r-k) (0,g) (by
   refine⟨by omega,rfl,?_,?_,List.Pairwise.nil,λx I=>by simp at I⟩
   ·simp only[o2,gk,qA,tI,if_false];exact cS
   ·simp only[o2,gk];exact ma) ?_
  intro vs ms a7 aY;simp only[go_sem,go_sem_proc,et,eI,b6,bQ,cS,eh,hm,af] at a7 aY;subst a7 aY;clear b6 bQ cS eh hm ma;rintro⟨k,g⟩ tm m R hm ⟨Jb,fg,cS,ma,Bv,Wl⟩;simp only[go_sem,go_sem_proc,et,eI,bn] at R hm;obtain⟨b6,bQ,eh,eA⟩:=R;rcases dG (k<o r) with II|as6
  ·have d2:decide ((k:Int)<(o r:Int))=true:=dn;have fc:=eY (i:=k) (by omega);have m5:IntKind.i64.wrap ((k:Int)-1)=(k:Int)-1:=by rw[eQ _]
   obtain⟨x,iD⟩:∃x,r[k]?=some x:=⟨_,bL II⟩;have Uq:=eN iD;have lR:=lR x;rcases d6:decide (x∈mI)
   ·rw[d6] at lR;rw[Wj x Uq (of_decide_eq_false d6)];simp only[go_sem,go_sem_proc,et,eI,b6,bQ,cS,eh,eA,fg,hm,iD,lR,d2,Y,af,bb,cv];repeat' (first|refine al ?_ ?_|fail)<;>intro h<;>simp only[h,go_sem,go_sem_proc,et,eI,b6,bQ,cS,eh,eA,fg,hm,iD,lR,d2,Y,af,bb,cv]
   rw[d6] at lR;have aW:r.take (k+1)=r.take k++[x]:=by rw[fQ,iD];rfl
   have MF:((fl.take i).flatten++r.take k).length<=1000:=by
    have:(r.take k).length<=o r:=We ..;rw[fE];omega
   have ev:=o4 fR o5 381068 g 8 ((fl.take i).flatten++r.take k) x (cs:=[.J (.int .i64 x)]) rfl (by omega) (by omega);rw[gZ,<-aW] at ev;have bk:((fl.take i).flatten++r.take (k+1)).length=((fl.take i).flatten++r.take k).length+1:=by rw[aW,<-gZ,fE];rfl
   have afa:∀y∈r.take (k+1),y∈mI:=λy ak=>by
    rw[aW] at ak;rcases iK.1 ak with ak|ak
    ·exact Wl y ak
    ·rw[tx.1 ak];exact of_decide_eq_true d6
   rcases jo k with oZ|oZ
   ·subst oZ;have d3:decide (((0:Nat):Int)>0)=false:=rfl;simp only[o2,gk] at cS ma ev bk;simp only[go_sem,go_sem_proc,et,eI,b6,bQ,cS,eh,eA,fg,hm,ma,iD,lR,ev,d2,d3,fc,Y,af,bb,bX];repeat' (first|refine al ?_ ?_|fail)<;>intro h<;>simp only[h,go_sem,go_sem_proc,et,eI,b6,bQ,cS,eh,eA,fg,hm,ma,iD,lR,ev,d2,d3,fc,Y,af,bb,bX]
    exact⟨(1,g+1),by dsimp only;omega,by dsimp only;omega,rfl,by dsimp only;rw[bk],rfl,by rw[aW,o2];exact aeQ _ _,afa⟩
   ·have d3:decide ((k:Int)>0)=true:=dn;obtain⟨y,rE⟩:∃x,r[k-1]?=some x:=⟨_,bL (by omega)⟩;have hb:k-1<o r:=by omega
    have MT:(if (k:Int)-1<0 then (0:Int) else (k:Int)-1)=((k-1:Nat):Int):=by rw[aq (by omega)];omega
    rcases d4:decide (x<=y)
    ·have hr:y<x:=by have:=of_decide_eq_false d4;omega
     have VZ:=aeP oZ iD rE hr Bv;simp only[go_sem,go_sem_proc,et,eI,b6,bQ,cS,eh,eA,fg,hm,ma,iD,rE,lR,ev,d2,d3,d4,fc,m5,MT,hb,Y,af,bb,bX];repeat' (first|refine al ?_ ?_|fail)<;>intro h<;>simp only[h,go_sem,go_sem_proc,et,eI,b6,bQ,cS,eh,eA,fg,hm,ma,iD,rE,lR,ev,d2,d3,d4,fc,m5,MT,hb,Y,af,bb,bX]
     exact⟨(k+1,g+1),by dsimp only;omega,by dsimp only;omega,rfl,by dsimp only;rw[bk],rfl,VZ,afa⟩
    ·rw[fB (aeN oZ iD rE (of_decide_eq_true d4))];simp only[go_sem,go_sem_proc,et,eI,b6,bQ,cS,eh,eA,fg,hm,ma,iD,rE,lR,d2,d3,d4,fc,m5,MT,hb,Y,af,bb,bX];repeat' (first|refine al ?_ ?_|fail)<;>intro h<;>simp only[h,go_sem,go_sem_proc,et,eI,b6,bQ,cS,eh,eA,fg,hm,ma,iD,rE,lR,d2,d3,d4,fc,m5,MT,hb,Y,af,bb,bX]
  ·have d2:decide ((k:Int)<(o r:Int))=false:=cY;rw[show r.take k=r from du (by omega)] at cS ma Bv Wl;rw[<-hl] at cS ma;simp only[go_sem,go_sem_proc,et,eI,b6,bQ,cS,eh,eA,fg,hm,d2,cn,af];repeat' (first|refine al ?_ ?_|fail)<;>intro h<;>simp only[h,go_sem,go_sem_proc,et,eI,b6,bQ,cS,eh,eA,fg,hm,d2,cn,af]
   refine⟨(i+1,g),by dsimp only;omega,by dsimp only;omega,rfl,rfl,ma,by rw[Dt I,eE,atb bZ Bv];rfl,λx wG=>?_⟩
   rw[hl] at wG;rcases iK.1 wG with h|h
   ·exact cL x h
   ·exact Wl x h
 have d1:decide ((i:Int)<(o fl:Int))=false:=cY;rw[du (by omega)] at cS ma eE cL;have Wk:=Wk eE cL;have za:=λx=>VQ fl.flatten x (by omega);have cG:∀mem:Mem,mem 381068=some (g,bK Y fl.flatten)->da 6 mem (.ref 381068 g 1 0 (o fl.flatten))=some (.X (fl.flatten.map Y)):=λmem h=>xO fR h;have MU:da 6 emp (.ref 381068 g 1 0 (o fl.flatten))=none:=rfl;generalize fl.flatten=bU at *;simp only[go_sem,go_sem_proc,et,eI,b6,bQ,cS,eh,hm,d1,af];refine dw [7,8] [381005,381068] (λ(i:Nat) tm m=>i<=o mI/\tm 12=.J (.int .i64 i)/\∀j x,j<i->mI[j]?=some x->x∈bU) (λi=>o mI-i) 0 (by refine⟨by omega,rfl,λj x ay=>by omega⟩) ?_;intro vs ms a7 aY;simp only[go_sem,go_sem_proc,et,eI,b6,bQ,cS,eh,hm,ma,af] at a7 aY;subst a7 aY;clear b6 bQ cS eh hm ma d1;rintro j tm m R hm ⟨ay,gm,ir⟩;simp only[go_sem,go_sem_proc,et,eI,bn] at R hm;obtain⟨bQ,cS⟩:=R;obtain⟨yr,ma⟩:=hm;rcases dG (j<o mI) with az|asZ
 ·have d2:decide ((j:Int)<(o mI:Int))=true:=dn;have fc:=eY (i:=j) (by omega);obtain⟨x,iD⟩:∃x,mI[j]?=some x:=⟨_,bL az⟩;have za:=za x;have cG:=cG m ma;rcases d6:decide (x∈bU)
  ·rw[d6] at za;rw[IQ x (eN iD) (of_decide_eq_false d6)];simp only[go_sem,go_sem_proc,et,eI,bQ,cS,gm,iD,d2,cG,MU,za,o0,scalar,Y,af,bb,hE,iy,cv];repeat' (first|refine al ?_ ?_|fail)<;>intro h<;>simp only[h,go_sem,go_sem_proc,et,eI,bQ,cS,gm,iD,d2,cG,MU,za,o0,scalar,Y,af,bb,hE,iy,cv]
  ·rw[d6] at za;simp only[go_sem,go_sem_proc,et,eI,bQ,cS,gm,yr,ma,iD,d2,fc,cG,MU,za,o0,scalar,Y,af,bb,hE,iy,bX];repeat' (first|refine al ?_ ?_|fail)<;>intro h<;>simp only[h,go_sem,go_sem_proc,et,eI,bQ,cS,gm,yr,ma,iD,d2,fc,cG,MU,za,o0,scalar,Y,af,bb,hE,iy,bX]
   exact⟨j+1,by omega,by omega,rfl,λk y R ak=>by
    by_cases h:k=j
    ·subst h;rw[iD,cz] at ak;rw[<-ak];exact of_decide_eq_true d6
    ·exact ir k y (by omega) ak⟩
 ·have d2:decide ((j:Int)<(o mI:Int))=false:=cY
  have e3:=Wk λx I=>by
   obtain⟨k,R⟩:=List.mem_iff_getElem?.1 I;exact ir k x (by have:=(ef.1 R).1;omega) R
  rw[e3];simp only[go_sem,go_sem_proc,et,eI,bQ,cS,gm,d2,af];repeat' (first|refine al ?_ ?_|fail)<;>intro h<;>simp only[h,go_sem,go_sem_proc,et,eI,bQ,cS,gm,d2,af]
theorem afb {cs:List av}{ps:List Rat}:∀(n:Nat) (x:Int),x∈eH cs ps n->kM cs ps x<10
 |0,x,h=>by cases h
 |n+1,x,h=>by
  rw[Mz] at h;rcases iK.1 h with h|h
  ·exact afb n x h
  ·by_cases aF:kM cs ps (n:Int)<10
   ·rw[aj aF] at h;rw[tx.1 h];exact aF
   ·rw[aq aF] at h;cases h
theorem atL {cs:List av}{ps:List Rat}{s:List Int}{n k:Nat}(aa:(o s)<=n)(h:stay cs ps (eC cs ps s k) (eC cs ps s k)=eC cs ps s k):eC cs ps s n=eC cs ps s k:=by
 have c1:∀a,stay cs ps (eC cs ps s a) (eC cs ps s a)=eC cs ps s a->∀d,eC cs ps s (a+d)=eC cs ps s a:=λa aM d=>by
  induction d with
  |zero=>rfl
  |succ d aA =>
   show stay cs ps (eC cs ps s (a+d)) (eC cs ps s (a+d))=_;rw[aA];exact aM
 have aL:stay cs ps (eC cs ps s n) (eC cs ps s n)=eC cs ps s n:=by
  rcases aev cs ps s n with D|D
  ·exact D
  ·rw[mL (show (eC cs ps s n).length=0 by omega)];rfl
 rcases Nat.le_total k n with R|R
 ·obtain⟨d,rfl⟩:=afc R;exact c1 k h d
 ·obtain⟨d,rfl⟩:=afc R;exact (c1 n aL d).symm
theorem afd {α:Type}{p:α->Bool}{l:List α}{i:Nat}{x:α}(I:l[i]?=some x):(l.take (i+1)).any p=((l.take i).any p||p x):=by
 rw[fQ,I,Eu,List.any_append,List.any_cons,List.any_nil,lY]
theorem atM {cs:List av}{ps:List Rat}{set l:List Int}{i:Nat}{x:Int}(I:l[i]?=some x):stay cs ps set (l.take (i+1))=stay cs ps set (l.take i)++if jE cs ps set x=true then [] else [x]:=by
 unfold stay;rw[fQ,I,Eu,ue]
 by_cases h:jE cs ps set x=true
 ·rw[aj h,yW (by rw[h];decide),rz]
 ·rw[aq h,yV (by rw[V9] at h;rw[h];rfl),rz]
theorem atN {cs:List av}{ps:List Rat}{set l:List Int}(h:l.any (jE cs ps set)=false):stay cs ps set l=l:=by
 unfold stay;rw[List.filter_eq_self];intro a aM;rw[List.any_eq_false] at h;have:=h a aM
 simp_all
theorem atO {cs:List av}{ps:List Rat}{set l:List Int}(h:l.any (jE cs ps set)=true):(stay cs ps set l).length<o l:=by
 rw[List.any_eq_true] at h;obtain⟨x,I,ax⟩:=h;unfold stay;rcases Nat.lt_or_ge (l.filter λx => !jE cs ps set x).length (o l) with D|D
 ·exact D
 ·have G:=List.Sublist.eq_of_length_le (List.filter_sublist (p:=λx => !jE cs ps set x) (l:=l)) D;rw[<-G] at I;have:=(List.mem_filter.1 I).2;rw[ax] at this;cases this
def Bz (cs:List av)(ps:List Rat)(n:Nat):Bool:=decide (((eC cs ps (eH cs ps n) n).length:Int)>0)
def Wm:=bU MS λ(H,cs,ad,ps,fl)=>cq (rD H cs ad (ps.map ai)/\gD H cs ad (ps.map ai)=true) (.same (.bool (Bz cs ps (o H))))
@[go_sem] theorem atP (H:List Int)(cs:List av)(ad:List bd)(ps:List Rat)(fl:List (List Int))(E:rD H cs ad (ps.map ai)/\gD H cs ad (ps.map ai)=true):Wm [.X (H.map Y),.X (cs.map bR),.agg (er ad (ps.map ai) fl)]=some (.same (.bool (Bz cs ps (o H)))):=(b3 ae9 (H,cs,ad,ps,fl)).trans (cw E _)
theorem atQ (T:br)(et:T Ae=aK EA)(gK:T Gj=aK MR)(eI:T Cw=aK MK)(H:List Int)(cs:List av)(ad:List bd)(ps:List Rat)(fl:List (List Int))(E:rD H cs ad (ps.map ai)/\gD H cs ad (ps.map ai)=true):WP T VJ (.same (.bool (Bz cs ps (o H)))) [.J (.X (H.map Y)),.J (.X (cs.map bR)),.J (.agg (er ad (ps.map ai) fl))]:=by
 refine b4 ?_;simp only[VJ];obtain⟨sU,dk⟩:=E;obtain⟨nJ,iw⟩:=ae8 H cs ad ps fl sU dk;have aL:=nJ.n;have Em:=nJ.l;have sT:=λi=>ae5 cs ps i ⟨nJ.len,nJ.l,nJ.short i⟩;clear sU;have az:=afb (cs:=cs) (ps:=ps) (o H);have vR:=Bp cs ps (o H);have hn:=λk x=>aeu (cs:=cs) (ps:=ps) (s:=eH cs ps (o H)) (x:=x) k;have eW:=aej cs ps (eH cs ps (o H));have kj:=λk=>atL (cs:=cs) (ps:=ps) (s:=eH cs ps (o H)) (n:=o H) (k:=k) vR;have ky:∀k,eC cs ps (eH cs ps (o H)) (k+1)=stay cs ps (eC cs ps (eH cs ps (o H)) k) (eC cs ps (eH cs ps (o H)) k):=λ_=>rfl;have au:eC cs ps (eH cs ps (o H)) 0=eH cs ps (o H):=rfl;unfold Bz;simp only[er] at iw;generalize eH cs ps (o H)=mI at *;generalize Vr:ps.map ai=vy at *;simp only[go_sem,go_sem_proc,et,gK,eI,er,iw,af];refine dw [1,5] [382005] (λ((k,b):Nat×Bool) tm m=>tm 7=.J (.X ((eC cs ps mI k).map Y))/\tm 8=.J (.bool b)/\(b=false->stay cs ps (eC cs ps mI k) (eC cs ps mI k)=eC cs ps mI k)) (λ(k,b)=>if b then (eC cs ps mI k).length+1 else 0) (0,true) (by refine⟨by rw[au];rfl,rfl,λh=>by cases h⟩) ?_;intro vs ms a7 aY;simp only[go_sem,go_sem_proc,et,gK,eI,af] at a7 aY;subst a7 aY;rintro⟨k,b⟩ tm m R hm ⟨bQ,cS,c1⟩;simp only[go_sem,go_sem_proc,et,gK,eI,bn] at R hm;obtain⟨aw,b6⟩:=R;have ir:=λx I=>az x (hn k x I);have hlen:=eW k;have ky:=ky k;have kj:=kj k
 cases b
 case false =>
  rw[kj (c1 rfl)];simp only[go_sem,go_sem_proc,et,gK,eI,aw,b6,bQ,cS,hm,af];repeat' (first|refine al ?_ ?_|fail)<;>intro h<;>simp only[h,go_sem,go_sem_proc,et,gK,eI,aw,b6,bQ,cS,hm,af]
 clear c1 kj;generalize di:eC cs ps mI k=S at *;have lR:=λx=>VQ S x (by omega);simp only[go_sem,go_sem_proc,et,gK,eI,aw,b6,bQ,cS,hm,af];refine dw [1,5,7] [382005] (λ((i,g):Nat×Nat) tm m=>i<=o S/\tm 10=.J (.int .i64 i)/\tm 8=.J (.bool ((S.take i).any (jE cs ps S)))/\tm 9=.ref 382079 g 1 0 (stay cs ps S (S.take i)).length/\m 382079=some (g,bK Y (stay cs ps S (S.take i)))) (λ(i,_)=>o S-i) (0,b7 m 382079) (by refine⟨by omega,rfl,rfl,rfl,rfl⟩) ?_;intro vs ms a7 aY;simp only[go_sem,go_sem_proc,et,gK,eI,aw,b6,bQ,cS,hm,af] at a7 aY;subst a7 aY;clear aw b6 bQ cS hm;rintro⟨i,g⟩ tm m R hm ⟨Q,eA,cS,eh,zb⟩;simp only[go_sem,go_sem_proc,et,gK,eI,bn] at R hm;obtain⟨aw,b6,bQ⟩:=R;have V0:=Vb cs ps S (S.take i);have aAC:(S.take i).length<=o S:=We ..;rcases dG (i<o S) with atS|cb
 ·have d1:decide ((i:Int)<(o S:Int))=true:=dn;have cn:=eY (i:=i) (by omega);obtain⟨x,I⟩:∃x,S[i]?=some x:=⟨_,bL atS⟩;have eT:=atM (cs:=cs) (ps:=ps) (set:=S) I;have zH:=afd (p:=jE cs ps S) I;have pR:=ir x (eN I);have sT:=sT x
  have gj:Bx cs ps x=nQ cs ps x:=by
   unfold Bx nQ;rw[aj pR,aj pR]
  rw[gj] at sT;have atT:jE cs ps S x=cs.any (λc=>c.1==x&&(c.2.2.1==nQ cs ps x&&(decide (c.2.2.2>0) && !decide (c.2.1∈S)))):=rfl;generalize aAD:jE cs ps S x=LX at *;generalize nQ cs ps x=gd at *;simp only[go_sem,go_sem_proc,et,gK,eI,aw,b6,bQ,cS,eh,eA,hm,I,d1,sT,Y,af,bb];refine dw [1,5,7,8,9,10,12] [382005,382079] (λ(j:Nat) tm m=>j<=o cs/\tm 13=.J (.int .i64 j)/\tm 11=.J (.bool ((cs.take j).any (λc=>c.1==x&&(c.2.2.1==gd&&(decide (c.2.2.2>0) && !decide (c.2.1∈S))))))) (λj=>o cs-j) 0 (by refine⟨by omega,rfl,rfl⟩) ?_;intro vs ms a7 aY;simp only[go_sem,go_sem_proc,et,gK,eI,aw,b6,bQ,cS,eh,eA,hm,zb,af] at a7 aY;subst a7 aY;rintro j tm' m' Mf lq ⟨ay,kq,fg⟩;simp only[go_sem,go_sem_proc,et,gK,eI,bn] at Mf lq;obtain⟨f1,f5,f7,f8,f9,f10,f12⟩:=Mf;obtain⟨ic,oH⟩:=lq;rcases dG (j<o cs) with atU|aAE
  ·have d2:decide ((j:Int)<(o cs:Int))=true:=dn;have fc:=eY (i:=j) (by omega);obtain⟨⟨bm,bN,bO,cp⟩,E⟩:∃c,cs[j]?=some c:=⟨_,bL atU⟩;have rF:=afd (p:=λc:av=>c.1==x&&(c.2.2.1==gd&&(decide (c.2.2.2>0) && !decide (c.2.1∈S)))) E;dsimp only at rF;have lR:=lR bN;generalize ((cs.take j).any (λc:av=>c.1==x&&(c.2.2.1==gd&&(decide (c.2.2.2>0) && !decide (c.2.1∈S)))))=A at *;rcases A
   case true =>
    simp only[go_sem,go_sem_proc,et,gK,eI,f1,f5,f7,f8,f9,f10,f12,fg,kq,ic,oH,I,E,d2,fc,bR,Y,af,bb];repeat' (first|refine al ?_ ?_|fail)<;>intro h<;>simp only[h,go_sem,go_sem_proc,et,gK,eI,f1,f5,f7,f8,f9,f10,f12,fg,kq,ic,oH,I,E,d2,fc,bR,Y,af,bb]
    exact⟨j+1,by omega,by omega,rfl,by rw[rF];rfl⟩
   rcases c7:(bm==x)
   ·rw[c7] at rF;simp only[go_sem,go_sem_proc,et,gK,eI,f1,f5,f7,f8,f9,f10,f12,fg,kq,ic,oH,I,E,d2,fc,c7,bR,Y,af,bb];repeat' (first|refine al ?_ ?_|fail)<;>intro h<;>simp only[h,go_sem,go_sem_proc,et,gK,eI,f1,f5,f7,f8,f9,f10,f12,fg,kq,ic,oH,I,E,d2,fc,c7,bR,Y,af,bb]
    exact⟨j+1,by omega,by omega,rfl,by rw[rF];rfl⟩
   rcases c2:(bO==gd)
   ·rw[c7,c2] at rF;simp only[go_sem,go_sem_proc,et,gK,eI,f1,f5,f7,f8,f9,f10,f12,fg,kq,ic,oH,I,E,d2,fc,c7,c2,bR,Y,af,bb];repeat' (first|refine al ?_ ?_|fail)<;>intro h<;>simp only[h,go_sem,go_sem_proc,et,gK,eI,f1,f5,f7,f8,f9,f10,f12,fg,kq,ic,oH,I,E,d2,fc,c7,c2,bR,Y,af,bb]
    exact⟨j+1,by omega,by omega,rfl,by rw[rF];rfl⟩
   rcases iU:decide (cp>0)
   ·rw[c7,c2,iU] at rF;simp only[go_sem,go_sem_proc,et,gK,eI,f1,f5,f7,f8,f9,f10,f12,fg,kq,ic,oH,I,E,d2,fc,c7,c2,iU,bR,Y,af,bb];repeat' (first|refine al ?_ ?_|fail)<;>intro h<;>simp only[h,go_sem,go_sem_proc,et,gK,eI,f1,f5,f7,f8,f9,f10,f12,fg,kq,ic,oH,I,E,d2,fc,c7,c2,iU,bR,Y,af,bb]
    exact⟨j+1,by omega,by omega,rfl,by rw[rF];rfl⟩
   rw[c7,c2,iU] at rF;rcases DW:decide (bN∈S)
   ·rw[DW] at rF lR;simp only[go_sem,go_sem_proc,et,gK,eI,f1,f5,f7,f8,f9,f10,f12,fg,kq,ic,oH,I,E,lR,d2,fc,c7,c2,iU,bR,Y,af,bb,cv];repeat' (first|refine al ?_ ?_|fail)<;>intro h<;>simp only[h,go_sem,go_sem_proc,et,gK,eI,f1,f5,f7,f8,f9,f10,f12,fg,kq,ic,oH,I,E,lR,d2,fc,c7,c2,iU,bR,Y,af,bb,cv]
    exact⟨j+1,by omega,by omega,rfl,by rw[rF];rfl⟩
   ·rw[DW] at rF lR;simp only[go_sem,go_sem_proc,et,gK,eI,f1,f5,f7,f8,f9,f10,f12,fg,kq,ic,oH,I,E,lR,d2,fc,c7,c2,iU,bR,Y,af,bb,bX];repeat' (first|refine al ?_ ?_|fail)<;>intro h<;>simp only[h,go_sem,go_sem_proc,et,gK,eI,f1,f5,f7,f8,f9,f10,f12,fg,kq,ic,oH,I,E,lR,d2,fc,c7,c2,iU,bR,Y,af,bb,bX]
    exact⟨j+1,by omega,by omega,rfl,by rw[rF];rfl⟩
  have d2:decide ((j:Int)<(o cs:Int))=false:=cY;rw[du (by omega),<-atT] at fg
  cases LX
  ·rw[aq (by decide)] at eT;rw[lY] at zH;have ev:=o4 fR o5 382079 g 8 (stay cs ps S (S.take i)) x (cs:=[.J (.int .i64 x)]) rfl (by omega) (by omega);rw[<-eT] at ev;have bk:(stay cs ps S (S.take (i+1))).length=(stay cs ps S (S.take i)).length+1:=by rw[eT,fE];rfl
   simp only[go_sem,go_sem_proc,et,gK,eI,f1,f5,f7,f8,f9,f10,f12,fg,kq,ic,oH,I,ev,d2,cn,Y,af,bb];repeat' (first|refine al ?_ ?_|fail)<;>intro h<;>simp only[h,go_sem,go_sem_proc,et,gK,eI,f1,f5,f7,f8,f9,f10,f12,fg,kq,ic,oH,I,ev,d2,cn,Y,af,bb]
   exact⟨(i+1,g+1),by dsimp only;omega,by dsimp only;omega,rfl,by rw[zH],by rw[bk],rfl⟩
  ·rw[aj rfl,gk] at eT;rw[Bool.or_true] at zH;simp only[go_sem,go_sem_proc,et,gK,eI,f1,f5,f7,f8,f9,f10,f12,fg,kq,ic,oH,I,d2,cn,Y,af,bb];repeat' (first|refine al ?_ ?_|fail)<;>intro h<;>simp only[h,go_sem,go_sem_proc,et,gK,eI,f1,f5,f7,f8,f9,f10,f12,fg,kq,ic,oH,I,d2,cn,Y,af,bb]
   exact⟨(i+1,g),by dsimp only;omega,by dsimp only;omega,rfl,by rw[zH],by rw[eT],by rw[eT]⟩
 ·have d1:decide ((i:Int)<(o S:Int))=false:=cY;rw[du (by omega)] at cS eh zb;have y9:=λ(K:bz->Prop) (st:bz)=>ml (K:=K) (st:=st) fR 9 382079 g (stay cs ps S S);have fB:=atN (cs:=cs) (ps:=ps) (set:=S) (l:=S);have hr:=atO (cs:=cs) (ps:=ps) (set:=S) (l:=S);generalize S.any (jE cs ps S)=LK at *
  cases LK
  ·have fB:=fB rfl;rw[fB] at eh zb y9 ky;simp only[go_sem,go_sem_proc,et,gK,eI,aw,b6,bQ,cS,eh,eA,hm,zb,d1,y9,af];repeat' (first|refine al ?_ ?_|fail)<;>intro h<;>simp only[h,go_sem,go_sem_proc,et,gK,eI,aw,b6,bQ,cS,eh,eA,hm,zb,d1,y9,af]
   exact⟨(k+1,false),by dsimp only;rw[aq (by decide)];exact Nat.succ_pos _,by rw[ky],rfl,λ_=>by rw[ky];exact fB⟩
  ·have hr:=hr rfl;rw[<-ky] at eh zb y9 hr;simp only[go_sem,go_sem_proc,et,gK,eI,aw,b6,bQ,cS,eh,eA,hm,zb,d1,y9,af];repeat' (first|refine al ?_ ?_|fail)<;>intro h<;>simp only[h,go_sem,go_sem_proc,et,gK,eI,aw,b6,bQ,cS,eh,eA,hm,zb,d1,y9,af]
   exact⟨(k+1,true),by dsimp only;rw[di,aj rfl];omega,rfl,rfl,λh=>by cases h⟩
def Wn:=bU y6 λ(H,cs,ad,aJ,fl)=>cq (Bw H cs ad aJ fl) (.same (.int .i64 (vA H cs ad aJ fl)))
@[go_sem] theorem atV (H:List Int)(cs:List av)(ad:List bd)(aJ:List bd)(fl:List (List Int))(E:Bw H cs ad aJ fl):Wn [.X (H.map Y),.X (cs.map bR),.agg (er ad aJ fl)]=some (.same (.int .i64 (vA H cs ad aJ fl))):=(b3 Ep (H,cs,ad,aJ,fl)).trans (cw E _)
theorem atW (T:br)(hp:T Gh=aK MO)(h9:T xT=aK Dp)(jI:T Ov=aK Lh)(gS:T FW=aK Hi)(iE:T Gi=aK MP)(jJ:T OG=aK TK)(jK:T OZ=aK VU)(jL:T O0=aK Wi)(jM:T O1=aK Wm)(H:List Int)(cs:List av)(ad:List bd)(aJ:List bd)(fl:List (List Int))(E:Bw H cs ad aJ fl):WP T VC (.same (.int .i64 (vA H cs ad aJ fl))) [.J (.X (H.map Y)),.J (.X (cs.map bR)),.J (.agg (er ad aJ fl))]:=by
 refine b4 ?_;simp only[VC];have U:=ae3 H cs ad aJ fl ⟨E.n,E.c,E.h,E.p⟩;unfold vA;rcases dk:gD H cs ad aJ
 ·rw[dk] at U;rw[aq (by decide)];clear E;simp only[er] at U;simp only[go_sem,go_sem_proc,hp,h9,jI,gS,iE,jJ,jK,jL,jM,er,U,cv];repeat' (first|refine al ?_ ?_|fail)<;>intro h<;>simp only[h,go_sem,go_sem_proc,hp,h9,jI,gS,iE,jJ,jK,jL,jM,er,U,cv]
 obtain⟨Ch,v8⟩:=IE dk;obtain⟨aF,rfl,-⟩:=y7 Ch;obtain⟨ps,rfl,-⟩:=y7 v8;rw[dk] at U;rw[aj rfl];obtain⟨D,G,ag,aR,jX,g4,nj⟩:=E;replace jX:=jX dk;replace g4:=g4 dk;rw[j5] at g4;rw[j5,j5] at jX;rw[j5,j5];have sU:rD H cs (aF.map ai) (ps.map ai):=⟨D,G,ag,aR,λ_=>by rw[j5];exact g4⟩
 have aN:=atI H cs (aF.map ai) ps fl ⟨sU,dk,nj⟩;have g8:=atP H cs (aF.map ai) ps fl ⟨sU,dk⟩;clear sU Ch v8 nj;have hlen:=g4.len;have Em:=g4.l;have afe:=g4.lim
 have fB:∀i v,jG (hZ H cs aF ps) i=0->hZ H cs aF ps i=v->v≠0->i<(o H)->pF H cs aF ps fl=v:=λi v c6 dv a3 a4=>by
  unfold pF;have bs:=Vy (f:=hZ H cs aF ps) (k:=i) c6 (by rw[dv];exact a3) (n:=o H) a4;rw[aj dk,bs,dv,aq a3]
 have atX:jH cs ps (o H) fl=false->jG (hZ H cs aF ps) (o H)=0->pF H cs aF ps fl=24:=λc6 dv=>by
  unfold pF;rw[aj dk,aj dv,aq (λh=>by rw[c6] at h;have:=h.1;cases this)]
 have atY:Bz cs ps (o H)=true->jG (hZ H cs aF ps) (o H)=0->pF H cs aF ps fl=24:=λc6 dv=>by
  unfold pF;rw[aj dk,aj dv,aq (λh=>by have bs:=of_decide_eq_true c6;have:=h.2;omega)]
 have ff:jH cs ps (o H) fl=true->Bz cs ps (o H)=false->jG (hZ H cs aF ps) (o H)=0->pF H cs aF ps fl=0:=λa0 c6 dv=>by
  unfold pF;rw[aj dk,aj dv,aj ⟨a0,by have bs:=of_decide_eq_false c6;omega⟩]
 have mD:∀k,jG (hZ H cs aF ps) (k+1)=if jG (hZ H cs aF ps) k=0 then hZ H cs aF ps k else jG (hZ H cs aF ps) k:=λk=>rfl
 have gj:∀i z,H[i]?=some z->hZ H cs aF ps i=match qw z i (cs.zip ps) with
  |none=>6
  |some x=>if x=aF.getD i 0/\ep cs ps i=(cT cs i).map (λc=>fx (cT cs i) x c) then 0 else 24:=λi z a8=>by
  have ya:H.getD i 0=z:=by rw[fP,a8];rfl
  unfold hZ;rw[ya]
  cases qw z i (cs.zip ps)<;>rfl
 have atZ:jG (hZ H cs aF ps) 0=0:=rfl;have Vn:∀k c p,cs[k]?=some c->ps[k]?=some p->(cs.zip ps)[k]?=some (c,p):=λk c p D G=>List.getElem?_zip_eq_some.2 ⟨D,G⟩;have asj:(cs.zip ps).length=o cs:=by rw[List.length_zip];omega
 have qx:=λi:Int=>ae4 cs (ps.map ai) i ⟨by rw[af];exact hlen,Em⟩
 simp only[H6] at qx;clear dk g4;have Vq:∀k,(ps.map ai)[k]?=(ps[k]?).map ai:=λk=>bb;have Bm:∀k,(aF.map ai)[k]?=(aF[k]?).map ai:=λk=>bb;have asm:(ps.map ai).length=o cs:=by rw[af];exact hlen
 have aAF:(aF.map ai).length=o aF:=af _;generalize jH cs ps (o H) fl=IJ at *;generalize Bz cs ps (o H)=yK at *;generalize pF H cs aF ps fl=RES at *;generalize hZ H cs aF ps=Ev at *;generalize asn:aF.map ai=MH at *;generalize Vr:ps.map ai=vy at *;simp only[er] at U aN g8;simp only[go_sem,go_sem_proc,hp,h9,jI,gS,iE,jJ,jK,jL,jM,er,U,bX,af];refine dw [0,1,5] [370005] (λ(i:Nat) tm m=>i<=o H/\tm 7=.J (.int .i64 i)/\jG Ev i=0) (λi=>o H-i) 0 (by refine⟨by omega,rfl,atZ⟩) ?_;intro vs ms a7 aY;simp only[go_sem,go_sem_proc,hp,h9,jI,gS,iE,jJ,jK,jL,jM,af] at a7 aY;subst a7 aY;rintro i tm m R hm ⟨aAG,bQ,oR⟩;simp only[go_sem,go_sem_proc,hp,h9,jI,gS,iE,jJ,jK,jL,jM,bn] at R hm;obtain⟨b8,aw,b6⟩:=R;rcases dG (i<o H) with az|cb
 ·have d1:decide ((i:Int)<(o H:Int))=true:=dn;have cn:=eY (i:=i) (by omega);obtain⟨z,a8⟩:∃z,H[i]?=some z:=⟨_,bL az⟩;obtain⟨-,-,ax,nO,Br,gU⟩:=jX i az;clear jX;have ya:H.getD i 0=z:=by rw[fP,a8];rfl
  rw[ya] at Br gU;have gj:=gj i z a8;have fB:=λv a b=>fB i v oR a b az;have mD:=mD i;rw[aj oR] at mD;have qx:=qx i;have au:=Vz Br;have qH:=aer (i:=(i:Int)) Br;obtain⟨I,Bs⟩:∃x,aF[i]?=some x:=⟨_,bL (by omega)⟩;have Vo:aF.getD i 0=I:=by rw[fP,Bs];rfl
  have Vp:=nO I (eN Bs);have BA:MH[i]?=some (ai I):=by rw[Bm,Bs];rfl
  have hy:i<o MH:=by omega
  rw[Vo] at gU gj;have Vs:∃e,e=ai ((z:Int):Rat):=⟨_,rfl⟩;obtain⟨e,he⟩:=Vs;rw[<-he] at au;obtain⟨⟨mZ,pj⟩,⟨z3,z4⟩⟩:=e;simp only[aH] at au;simp only[go_sem,go_sem_proc,hp,h9,jI,gS,iE,jJ,jK,jL,jM,b8,aw,b6,bQ,hm,a8,d1,au,Y,af,bb]
  refine dw [0,1,5,7,8] [370005] (λ((k,x,f):Nat×Rat×bd) tm mem=>k<=o cs/\tm 10=.J (.int .i64 k)/\qw z i ((cs.zip ps).take k)=some x/\f=ai x/\mem 370008=some (uH (m 370008),(aH f).map .J)) (λ(k,_,_)=>o cs-k) (0,((z:Int):Rat),((mZ,pj),(z3,z4))) (by
   refine⟨by omega,rfl,rfl,he,rfl⟩) ?_
  intro vs ms a7 aY;simp only[go_sem,go_sem_proc,hp,h9,jI,gS,iE,jJ,jK,jL,jM,b8,aw,b6,bQ,hm,af] at a7 aY;subst a7 aY;clear b8 aw b6 bQ hm;rintro⟨k,x,⟨⟨aV,bG⟩,⟨cm,dj⟩⟩⟩ tm m' R hm ⟨oY,eA,jZ,mR,rG⟩;simp only[go_sem,go_sem_proc,hp,h9,jI,gS,iE,jJ,jK,jL,jM,bn] at R hm;obtain⟨b8,aw,b6,bQ,cS⟩:=R;generalize uH (m 370008)=cW at *;have pR:=qH ((cs.zip ps).take k) x jZ;simp only[aH,e8,cM] at rG;rcases dG (k<o cs) with II|aso
  ·have d2:decide ((k:Int)<(o cs:Int))=true:=dn;have fc:=eY (i:=k) (by omega);obtain⟨⟨bm,bN,bO,cp⟩,E⟩:∃c,cs[k]?=some c:=⟨_,bL II⟩;obtain⟨p,aG⟩:∃p,ps[k]?=some p:=⟨_,bL (by omega)⟩;have rU:=afe p (eN aG);have c1:=aep (z:=z) (i:=(i:Int)) (Vn k _ p E aG);rw[jZ] at c1;have mE:vy[k]?=some (ai p):=by rw[Vq,aG];rfl
   have vz:k<o vy:=by omega
   have eT:=aqU pR rU;rw[<-mR] at eT;obtain⟨e,Vt⟩:∃e,e=ai p:=⟨_,rfl⟩;rw[<-Vt] at eT mE;obtain⟨⟨hC,jb⟩,⟨rk,ug⟩⟩:=e;simp only[aH] at eT;rcases c7:(bN==(i:Int))
   ·have bZ:¬ bN=(i:Int):=ne_of_beq_false c7;unfold ui at c1;rw[aq bZ] at c1;simp only[go_sem,go_sem_proc,hp,h9,jI,gS,iE,jJ,jK,jL,jM,b8,aw,b6,bQ,cS,eA,hm,rG,E,d2,fc,c7,bR,af,bb,bne,cv];repeat' (first|refine al ?_ ?_|fail)<;>intro h<;>simp only[h,go_sem,go_sem_proc,hp,h9,jI,gS,iE,jJ,jK,jL,jM,b8,aw,b6,bQ,cS,eA,hm,rG,E,d2,fc,c7,bR,af,bb,bne,cv]
    exact⟨(k+1,x,((aV,bG),(cm,dj))),by dsimp only;omega,by dsimp only;omega,rfl,c1,mR,rfl⟩
   ·have heq:bN=(i:Int):=eq_of_beq c7;unfold ui at c1;rw[aj heq,hE] at c1;rcases gi:mx x p
    ·rw[gi] at eT c1;rw[aq (by decide)] at c1;have BU:=aeq c1;rw[BU] at gj;rw[fB 6 gj (by decide)];have Bt:ss false (x+p)=(ei,6):=rfl;simp only[Bt,ei] at eT;have b1:((6:Int)==0)=false:=rfl;simp only[go_sem,go_sem_proc,hp,h9,jI,gS,iE,jJ,jK,jL,jM,b8,aw,b6,bQ,cS,eA,hm,rG,E,mE,vz,eT,b1,d2,fc,c7,bR,aH,af,bb,bne,bX,cv];repeat' (first|refine al ?_ ?_|fail)<;>intro h<;>simp only[h,go_sem,go_sem_proc,hp,h9,jI,gS,iE,jJ,jK,jL,jM,b8,aw,b6,bQ,cS,eA,hm,rG,E,mE,vz,eT,b1,d2,fc,c7,bR,aH,af,bb,bne,bX,cv]
    ·rw[gi] at eT c1;rw[aj rfl] at c1;have Bt:ss true (x+p)=(ai (x+p),0):=rfl;simp only[Bt] at eT;obtain⟨e,lF⟩:∃e,e=ai (x+p):=⟨_,rfl⟩;rw[<-lF] at eT;obtain⟨⟨s1,s2⟩,⟨bD,bE⟩⟩:=e;simp only at eT;simp only[go_sem,go_sem_proc,hp,h9,jI,gS,iE,jJ,jK,jL,jM,b8,aw,b6,bQ,cS,eA,hm,rG,E,mE,vz,eT,d2,fc,c7,bR,aH,af,bb,bne,beq_self_eq_true,bX];repeat' (first|refine al ?_ ?_|fail)<;>intro h<;>simp only[h,go_sem,go_sem_proc,hp,h9,jI,gS,iE,jJ,jK,jL,jM,b8,aw,b6,bQ,cS,eA,hm,rG,E,mE,vz,eT,d2,fc,c7,bR,aH,af,bb,bne,beq_self_eq_true,bX]
     exact⟨(k+1,x+p,((s1,s2),(bD,bE))),by dsimp only;omega,by dsimp only;omega,rfl,c1,lF,rfl⟩
  ·have d2:decide ((k:Int)<(o cs:Int))=false:=cY;rw[du (by omega)] at jZ;rw[jZ] at gj;dsimp only at gj;have fi:=ast pR Vp;rw[<-mR] at fi;obtain⟨e,Vu⟩:∃e,e=ai I:=⟨_,rfl⟩;rw[<-Vu] at fi BA;obtain⟨⟨D,G⟩,⟨ag,aR⟩⟩:=e;simp only[aH] at fi;rcases c2:decide (x=I)
   ·have bZ:¬ x=I:=of_decide_eq_false c2;rw[c2] at fi;rw[aq (λh=>bZ h.1)] at gj;rw[fB 24 gj (by decide)];simp only[go_sem,go_sem_proc,hp,h9,jI,gS,iE,jJ,jK,jL,jM,b8,aw,b6,bQ,cS,eA,hm,rG,BA,hy,fi,d2,aH,af,bb,bne,cv];repeat' (first|refine al ?_ ?_|fail)<;>intro h<;>simp only[h,go_sem,go_sem_proc,hp,h9,jI,gS,iE,jJ,jK,jL,jM,b8,aw,b6,bQ,cS,eA,hm,rG,BA,hy,fi,d2,aH,af,bb,bne,cv]
   ·have heq:x=I:=of_decide_eq_true c2;rw[c2] at fi;have uj:=gU x jZ heq;have nf:=aph x (cT cs i) uj;rw[<-mR] at nf;have kV:(cT cs (i:Int)).map (λc=>ai (fx (cT cs i) x c))=((cT cs (i:Int)).map λc=>fx (cT cs i) x c).map ai:=by rw[lX];rfl
    rw[kV] at nf;have zw:=uj.own.len;have hG:∀y∈ep cs ps (i:Int),dD y:=λy ak=>afe y (H7 ak)
    have je:∀y∈(cT cs (i:Int)).map (λc=>fx (cT cs i) x c),dD y:=λy ak=>by
     obtain⟨c,E,rfl⟩:=fZ.1 ak;exact uj.own.Mq uj.sz E
    have eu:=L6 cs ps (i:Int) hlen;have EB:=asO (((cT cs (i:Int)).map λc=>fx (cT cs i) x c).map ai) ((ep cs ps (i:Int)).map ai) ⟨⟨by rw[af,af];omega,λf aN=>by obtain⟨y,ak,rfl⟩:=fZ.1 aN;exact gW (je y ak)⟩,⟨by rw[af];omega,λf aN=>by obtain⟨y,ak,rfl⟩:=fZ.1 aN;exact gW (hG y ak)⟩⟩
    have IB:wU (((cT cs (i:Int)).map λc=>fx (cT cs i) x c).map ai) ((ep cs ps (i:Int)).map ai)=true↔ep cs ps (i:Int)=(cT cs (i:Int)).map λc=>fx (cT cs i) x c:=by
     unfold wU;rw[decide_eq_true_iff];exact⟨λh=>(map_inj (λ_ _ a6=>p6 a6) _ _ h).symm,λh=>by rw[h]⟩
    generalize (ep cs ps (i:Int)).map ai=Vv at *;generalize (((cT cs (i:Int)).map λc=>fx (cT cs i) x c).map ai)=Vw at *;simp only[aH] at nf;rcases iU:wU Vw Vv
    ·rw[iU] at EB;rw[aq (λh=>by rw[IB.2 h.2] at iU;cases iU)] at gj;rw[fB 24 gj (by decide)];simp only[go_sem,go_sem_proc,hp,h9,jI,gS,iE,jJ,jK,jL,jM,b8,aw,b6,bQ,cS,eA,hm,rG,BA,hy,fi,qx,nf,EB,d2,aH,af,bb,bne,beq_self_eq_true,bX,cv];repeat' (first|refine al ?_ ?_|fail)<;>intro h<;>simp only[h,go_sem,go_sem_proc,hp,h9,jI,gS,iE,jJ,jK,jL,jM,b8,aw,b6,bQ,cS,eA,hm,rG,BA,hy,fi,qx,nf,EB,d2,aH,af,bb,bne,beq_self_eq_true,bX,cv]
    ·rw[iU] at EB;rw[aj ⟨heq,IB.1 iU⟩] at gj;rw[gj] at mD;simp only[go_sem,go_sem_proc,hp,h9,jI,gS,iE,jJ,jK,jL,jM,b8,aw,b6,bQ,cS,eA,hm,rG,BA,hy,fi,qx,nf,EB,d2,cn,aH,af,bb,bne,beq_self_eq_true,bX,cv];repeat' (first|refine al ?_ ?_|fail)<;>intro h<;>simp only[h,go_sem,go_sem_proc,hp,h9,jI,gS,iE,jJ,jK,jL,jM,b8,aw,b6,bQ,cS,eA,hm,rG,BA,hy,fi,qx,nf,EB,d2,cn,aH,af,bb,bne,beq_self_eq_true,bX,cv]
     exact⟨i+1,by omega,by omega,rfl,mD⟩
 ·have d1:decide ((i:Int)<(o H:Int))=false:=cY;obtain rfl:i=o H:=by omega
  cases IJ
  ·rw[atX rfl oR];simp only[go_sem,go_sem_proc,hp,h9,jI,gS,iE,jJ,jK,jL,jM,b8,aw,b6,bQ,hm,aN,d1,af,cv];repeat' (first|refine al ?_ ?_|fail)<;>intro h<;>simp only[h,go_sem,go_sem_proc,hp,h9,jI,gS,iE,jJ,jK,jL,jM,b8,aw,b6,bQ,hm,aN,d1,af,cv]
  cases yK
  ·rw[ff rfl rfl oR];simp only[go_sem,go_sem_proc,hp,h9,jI,gS,iE,jJ,jK,jL,jM,b8,aw,b6,bQ,hm,aN,g8,d1,af,bX];repeat' (first|refine al ?_ ?_|fail)<;>intro h<;>simp only[h,go_sem,go_sem_proc,hp,h9,jI,gS,iE,jJ,jK,jL,jM,b8,aw,b6,bQ,hm,aN,g8,d1,af,bX]
  ·rw[atY rfl oR];simp only[go_sem,go_sem_proc,hp,h9,jI,gS,iE,jJ,jK,jL,jM,b8,aw,b6,bQ,hm,aN,g8,d1,af,bX];repeat' (first|refine al ?_ ?_|fail)<;>intro h<;>simp only[h,go_sem,go_sem_proc,hp,h9,jI,gS,iE,jJ,jK,jL,jM,b8,aw,b6,bQ,hm,aN,g8,d1,af,bX]





theorem setRow {l:List qa}{k:Nat}(h:k<o l)(A:List bd)(a:Int)(b:List Int)(c:Int)(d:List Int):
  lz (k*5) (bK KU l)++[O.J (.X (A.map aH)),O.J (.int .i64 a),.J (.X (b.map Y)),.J (.int .i64 c),.J (.X (d.map Y))]++lA (k*5+5) (bK KU l)=bK KU (l.set k (A,((a,b),(c,d)))):=by
 rw[<-Yt alr h]
 rfl
section
variable {H:List Int} {cs:List av} (aa:fV H cs)
include aa
end
end Go.Mini
namespace Go.Mini
open Classical
end Go.Mini
namespace Go.Mini
open Go
section
variable {H:List Int} {cs:List av} (aa:fV H cs)
include aa
end
theorem at0 {H:List Int}{cs:List av}{ad aJ:List bd}{fl:List (List Int)}(h:uk H cs ad aJ fl=true):xk fl/\(∀f∈ad,nG f 8=true)/\(∀f∈aJ,nG f 8=true)/\o ad<=8/\o aJ<=14:=by
 unfold uk En at h;simp only[eX,yz,MI,decide_eq_false_iff_not,h2] at h;obtain⟨⟨-,-,ag,aR,bs⟩,b1,cd,de⟩:=h
 have nj:∀l:List (List Int),(∀r∈l,o r<=12)->(o l.flatten)<=12*o l:=λl ax=>by
  induction l with
  |nil=>simp
  |cons r l aA =>
   have D:=ax r List.mem_cons_self;have G:=aA λx I=>ax x (List.mem_cons_of_mem _ I);rw[j8,fE,List.length_cons];omega
 have jt:=nj fl λr U=>by have:=de r U;omega
 exact⟨⟨by omega,by omega⟩,b1,cd,by omega,by omega⟩
theorem aff {ad:List bd}(ax:(o ad)<=14)(h:∀f∈ad,nG f 8=true):ej ad:=⟨by omega,λf aN=>by
 have:=h f aN;unfold nG at this;simp only[eX,decide_eq_true_eq] at this;exact⟨by omega,by omega⟩⟩
theorem at1 {H:List Int}{cs:List av}{ad aJ:List bd}{fl:List (List Int)}(h:uk H cs ad aJ fl=true):Bw H cs ad aJ fl:=by
 obtain⟨D,G⟩:=aeC h;obtain⟨ag,aR,bs,b1,cd⟩:=at0 h
 have R:gD H cs ad aJ=true->fV H cs/\∃aF ps:List Rat,ad=aF.map ai/\aJ=ps.map ai/\o aF=o H/\o ps=o cs/\(∀x∈aF,0<=x/\eB 460 x)/\∀x∈ps,dD x:=λdk=>by
  obtain⟨c6,dv⟩:=IE dk;obtain⟨aF,rfl,c5⟩:=y7 c6;obtain⟨ps,rfl,eg⟩:=y7 dv;obtain⟨bm,bN,bO,-⟩:=atd dk;exact⟨(asJ h).Bl bm,aF,ps,rfl,rfl,bN,bO,λx I=>⟨(c5 x I).1,asQ (c5 x I).2 (aR _ (tW I))⟩,λx I=>(eg x I).2⟩
 refine⟨by omega,by omega,aff (by omega) aR,aff (by omega) bs,λdk=>?_,λdk=>?_,ag⟩
 ·obtain⟨aa,aF,ps,rfl,rfl,bN,bO,cp,nP⟩:=R dk;rw[j5,j5];exact (V3 aa bN bO (λx I=>(cp x I).2) (λ_ x I=>(cp x I).1) nP ag).sum dk
 ·obtain⟨aa,aF,ps,rfl,rfl,bN,bO,cp,nP⟩:=R dk;rw[j5];exact (V3 aa bN bO (λx I=>(cp x I).2) (λ_ x I=>(cp x I).1) nP ag).rC dk
def Wo:=bU y6 λ(H,cs,ad,aJ,fl)=>some (.same (.bool true))
@[go_sem] theorem at2 (H:List Int)(cs:List av)(ad:List bd)(aJ:List bd)(fl:List (List Int)):Wo [.X (H.map Y),.X (cs.map bR),.agg (er ad aJ fl)]=some (.same (.bool true)):=b3 Ep (H,cs,ad,aJ,fl)
theorem at3 (T:br)(MV:T OW=aK V6)(MW:T OX=aK VP)(Ew:T xX=aK vB)(MX:T OY=aK Wn)(Ex:T Gg=aK Er)(et:T Ae=aK EA)(Ey:T Gf=aK MJ)(H:List Int)(cs:List av)(ad:List bd)(aJ:List bd)(fl:List (List Int)):WP T VM (.same (.bool true)) [.J (.X (H.map Y)),.J (.X (cs.map bR)),.J (.agg (er ad aJ fl))]:=by
 refine b4 ?_;simp only[VM];have Bl:=atk;have dh:=asu H cs ad aJ fl;simp only[er] at dh;rcases aN:uk H cs ad aJ fl
 ·rw[aN] at dh;simp only[go_sem,go_sem_proc,MV,MW,Ew,MX,Ex,et,Ey,Bl,dh,er,cv];repeat' (first|refine al ?_ ?_|fail)<;>intro h<;>simp only[h,go_sem,go_sem_proc,MV,MW,Ew,MX,Ex,et,Ey,Bl,dh,er,cv]
 rw[aN] at dh;have rY:=at1 aN;have sU:rD H cs ad aJ:=⟨rY.n,rY.c,rY.h,rY.p,rY.rC⟩;have bm:=aeV H cs ad aJ fl rY;have bN:=atV H cs ad aJ fl rY;have bO:=aez H cs ad aJ fl sU;have cp:=ae7 H cs ad aJ fl sU
 have ax:(pE H cs ad aJ).length<=1000000:=by
  have D:=rY.n;have G:=Bp cs (pz aJ) (o H);unfold pE
  by_cases h:gD H cs ad aJ=true
  ·rw[aj h];omega
  ·rw[aq h];exact fY _
 have nP:=aex (pE H cs ad aJ) (pE H cs ad aJ) ⟨ax,ax⟩;rw[hc rfl] at nP;simp only[er] at bm bN bO cp;generalize pE H cs ad aJ=S at *;generalize vA H cs ad aJ fl=V at *;simp only[go_sem,go_sem_proc,MV,MW,Ew,MX,Ex,et,Ey,Bl,dh,bm,bN,bO,cp,nP,er,beq_self_eq_true,bX];repeat' (first|refine al ?_ ?_|fail)<;>intro h<;>simp only[h,go_sem,go_sem_proc,MV,MW,Ew,MX,Ex,et,Ey,Bl,dh,bm,bN,bO,cp,nP,er,beq_self_eq_true,bX]
end Go.Mini
namespace Go.Mini
open Go Go.Proofs
theorem afg {P : Program}{T : br}{kb : Nat}{own : List Nat}{α : Type}{args : α -> List Data}{res : α -> Option dF}(cG : oU P T)(hm : P.follows .mixedOrders = true){f : FuncId}{fn : Func}{mf : bP}(aN : P.funcs[f]? = some fn)(tf : (fn.name == "runtime.NumGoroutine") = false)(aW : qC P kb own fn = some { mf with body := erase mf.body })(h : ∀ a r, res a = some r -> (args a).length <= mf.n /\ wp T mf.body (uM mf.res r) ⟨nd ((args a).map .J), emp⟩): oa P f (bU args res) := Yi cG hm aN tf aW fun ds r U => by
 obtain⟨a,rfl,G⟩:=NW U;exact h a r G
theorem mixed:Tryz.prog.follows .mixedOrders=true:=by kernel_rfl
abbrev Wp:Option dF->(dF->Prop)->Prop
 |some r,aT=>aT r
 |none,_=>True
theorem cF {c:Prop}{r:dF}{aT:dF->Prop}(h:c->aT r):Wp (cq c r) aT:=by
 by_cases E:c
 ·rw[cw E];exact h E
 ·have:cq c r=none:=aq E;rw[this];trivial
abbrev b9:=oa Tryz.prog
theorem xm (mf : bP)(kb : Nat)(own : List Nat){α : Type}{args : α -> List Data}{res : α -> Option dF}{l : List (FuncId × (List Data -> Option dF))}{e : List (FuncId × (List O -> Mem -> Option gg))}(ax : ∀ p ∈ l, oa Tryz.prog p.1 p.2)(he : ∀ p ∈ e, nI Tryz.prog p.1 p.2){f : FuncId}{fn : Func}(aN : Tryz.prog.funcs[f]? = some fn)(h : ∀ a, Wp (res a) fun r => Nat.ble (args a).length mf.n = true /\ wp (tP (JK l) (Ln e)) mf.body (uM mf.res r) ⟨nd ((args a).map .J), emp⟩)(aL : (fn.name == "runtime.NumGoroutine", qC Tryz.prog kb own fn) = (false, some { mf with body := erase mf.body }) := by kernel_rfl): b9 f (bU args res) := Yi (AZ (zL ax) (A0 he)) mixed aN (congrArg Prod.fst aL) (congrArg Prod.snd aL) fun ds r U => by
 obtain⟨a,rfl,G⟩:=NW U;have ag:=h a;rw[G] at ag;exact⟨EC ag.1,ag.2⟩
theorem cr (mf : bP)(kb : Nat)(own : List Nat){α : Type}{args : α -> List Data}{res : α -> Option dF}{l : List (FuncId × (List Data -> Option dF))}(ax : ∀ p ∈ l, oa Tryz.prog p.1 p.2){f : FuncId}{fn : Func}(aN : Tryz.prog.funcs[f]? = some fn)(h : ∀ a, Wp (res a) fun r => Nat.ble (args a).length mf.n = true /\ wp (tP (JK l) (Ln [])) mf.body (uM mf.res r) ⟨nd ((args a).map .J), emp⟩)(aL : (fn.name == "runtime.NumGoroutine", qC Tryz.prog kb own fn) = (false, some { mf with body := erase mf.body }) := by kernel_rfl): b9 f (bU args res) := xm mf kb own ax pq aN h aL
theorem aU {kf:FuncId->Option (List Data->Option dF)}{qf:FuncId->Option (List O->Mem->Option gg)}{f:FuncId}{a1:List Data->Option dF}(D:qf f=none:=by rfl)(G:kf f=some a1:=by rfl):tP kf qf f=aK a1:=Du D G
theorem ED:b9 oe wm:=cr Af 177000 [] b2 Tryz.func190 λaP=>cF λE=>⟨rfl,ajf _  aP E⟩
theorem EE:nI Tryz.prog oe (xS sd):=FQ.aa3 (YF (mf:=Af) (kb:=177000) (own:=[]) (AZ (zL b2) (A0 pq)) mixed Tryz.func190 (by kernel_rfl) (by kernel_rfl) λargs mem x h=>by
 obtain⟨a,⟨rfl,hm,ax⟩,rfl⟩:=Oc h;exact⟨EC rfl,ajg _ a.l a.k a.g mem hm ax⟩)
theorem at4:b9 JT PB:=cr Pq 184000 [] b2 Tryz.func194 λaP=>⟨rfl,ajh _  aP⟩
theorem afh:b9 Cp J6:=cr Po 174000 [] (aO at4 b2) Tryz.func159 fun⟨aP,aV⟩=>⟨rfl,aji _ aU aP aV⟩
theorem at5:b9 Oq PC:=cr Pp 179000 [] b2 Tryz.func195 λaP=>cF λE=>⟨rfl,ajl _  aP E⟩
theorem IU:b9 sa x0:=cr Ps 156000 [5] b2 Tryz.func94 λaP=>cF λE=>⟨rfl,ajm _  aP E⟩
theorem xn:b9 jv ts:=cr O4 136000 [] b2 Tryz.func146 fun⟨aP,aV⟩=>cF λE=>⟨rfl,ajn _  aP aV E⟩
theorem EF:b9 mT x1:=xm Pf 158000 [] (aO ED b2) (vf EE pq) Tryz.func150 fun⟨aP,aV⟩=>cF λE=>⟨rfl,ajp _ (Dv rfl rfl) aP aV E⟩
theorem Wq:b9 z1 Gv:=cr Pm 175000 [] (aO afh b2) Tryz.func160 fun⟨aP,aV⟩=>cF λE=>⟨rfl,ajs _ aU aP aV E⟩
theorem afi:b9 F2 J9:=xm Pk 172000 [] (aO ED b2) (vf EE pq) Tryz.func157 fun⟨aP,aV⟩=>cF λE=>⟨rfl,ajt _ (Dv rfl rfl) aP aV E⟩
theorem afj:b9 Co Ka:=xm Pl 173000 [10] (aO IU (aO ED b2)) (vf EE pq) Tryz.func158 fun⟨aP,aV⟩=>cF λE=>⟨rfl,ajv _ aU (Dv rfl rfl) aP aV E⟩
theorem afk:b9 Cm Kb:=xm Pj 161000 [] (aO ED b2) (vf EE pq) Tryz.func151 fun⟨aP,aV⟩=>cF λE=>⟨rfl,ajy _ (Dv rfl rfl) aP aV E⟩
theorem at6:b9 JS PS:=xm Pn 176000 [] (aO ED b2) (vf EE pq) Tryz.func192 fun⟨aP,aV⟩=>cF λE=>⟨rfl,ajA _ (Dv rfl rfl) aP aV E⟩
theorem at7:nI Tryz.prog Oo (xS GD):=FQ.aa3 (YF (mf:=J0) (kb:=178000) (own:=[]) (AZ (zL b2) (A0 pq)) mixed Tryz.func193 (by kernel_rfl) (by kernel_rfl) λargs mem x h=>by
 obtain⟨a,⟨rfl,E⟩,rfl⟩:=Oc h;exact⟨EC rfl,ajI _ a mem E⟩)
theorem afl:b9 F0 Kg:=xm Pc 157000 [54] (aO Wq (aO IU (aO at6 (aO ED (aO afk b2))))) (vf EE (vf at7 pq)) Tryz.func156 fun⟨aP,aV⟩=>cF λE=>⟨rfl,ajT _ aU aU aU (Dv rfl rfl) aU (Lm rfl rfl) aP aV E⟩
theorem Wr:b9 r9 GK:=cr Pb 155000 [] b2 Tryz.func149 fun⟨aP,aV,bG⟩=>⟨rfl,aks _  aP aV bG⟩
theorem afm:b9 Cl Ky:=cr O8 152000 [] (aO xn (aO IU (aO EF b2))) Tryz.func91 fun⟨aP,aV⟩=>cF λE=>⟨rfl,akt _ aU aU aU aP aV E⟩
theorem MY:b9 r8 CW:=cr O6 140000 [] (aO xn (aO afk (aO EF (aO Wr b2)))) Tryz.func85 fun⟨aP,aV,bG,cm⟩=>cF λE=>⟨rfl,aku _ aU aU aU aU aP aV bG cm E⟩
theorem at8:b9 On Qm:=cr Ph 160000 [] (aO xn (aO at5 (aO afi (aO afj (aO Wq (aO EF (aO Wr b2))))))) Tryz.func161 fun⟨aP,aV,bG,cm⟩=>cF λE=>⟨rfl,akv _ aU aU aU aU aU aU aU aP aV bG cm E⟩
theorem at9:b9 Ol Qn:=cr Pa 154000 [] (aO xn (aO afh (aO Wq b2))) Tryz.func89 fun⟨aP,aV,bG,cm⟩=>cF λE=>⟨rfl,aky _ aU aU aU aP aV bG cm E⟩
theorem afn:b9 FX Kz:=cr O5 137000 [] (aO xn (aO IU (aO afl (aO EF (aO Wr b2))))) Tryz.func147 fun⟨aP,aV,bG,cm⟩=>cF λE=>⟨rfl,akz _ aU aU aU aU aU aP aV bG cm E⟩
theorem afo:b9 zY KF:=cr O9 153000 [] (aO xn (aO afl (aO afi (aO afj (aO EF b2))))) Tryz.func88 fun⟨aP,aV,bG,cm⟩=>cF λE=>⟨rfl,akA _ aU aU aU aU aU aP aV bG cm E⟩
theorem aua:b9 JQ Qx:=cr O7 150000 [] (aO EF b2) Tryz.func165 λaP=>cF λE=>⟨rfl,akG _ aU aP E⟩
theorem aub:b9 Om Qy:=cr Pg 159000 [] (aO xn b2) Tryz.func189 fun⟨aP,aV⟩=>cF λE=>⟨rfl,akJ _ aU aP aV E⟩
theorem auc:b9 Oh QL:=cr QG 138000 [] (aO aub b2) Tryz.func148 fun⟨aP,aV⟩=>cF λE=>⟨rfl,akO _ aU aP aV E⟩
theorem xo:b9 kh sn:=cr Qz 116000 [] (aO xn (aO afn (aO auc b2))) Tryz.func84 fun⟨aP,aV,bG,cm⟩=>cF λE=>⟨rfl,akQ _ aU aU aU aP aV bG cm E⟩
theorem afp:b9 FZ KP:=cr QJ 149000 [] (aO xn (aO afm (aO afn (aO afo b2)))) Tryz.func152 fun⟨aP,aV,bG,cm⟩=>cF λE=>⟨rfl,akS _ aU aU aU aU aP aV bG cm E⟩
theorem Ws:b9 zW C5:=cr QB 130000 [] (aO aua (aO afp b2)) Tryz.func96 fun⟨aP,aV⟩=>cF λE=>⟨rfl,akU _ aU aU aP aV E⟩
theorem aud:b9 Oi QQ:=cr QH 139000 [] (aO MY (aO at8 b2)) Tryz.func90 fun⟨aP,aV,bG,cm,dj,gB,h0,iV⟩=>cF λE=>⟨rfl,ak6 _ aU aU aP aV bG cm dj gB h0 iV E⟩
theorem Wt:b9 zX GV:=cr QI 141000 [] (aO afp b2) Tryz.func86 fun⟨aP,aV,bG,cm,dj,gB⟩=>cF λE=>⟨rfl,ak8 _ aU aP aV bG cm dj gB E⟩
theorem afq:b9 FV GX:=cr QA 119000 [] (aO xo (aO aud (aO MY (aO Wt b2)))) Tryz.func40 fun⟨aP,aV,bG,cm,dj,gB,h0,iV⟩=>cF λE=>⟨rfl,alb _ aU aU aU aU aP aV bG cm dj gB h0 iV E⟩
theorem aue:b9 Og KQ:=cr QC 132000 [] (aO xo (aO afm (aO afq b2))) Tryz.func43 fun⟨aP,aV,bG,cm,dj,gB,h0,iV⟩=>cF λE=>⟨rfl,ald _ aU aU aU aP aV bG cm dj gB h0 iV E⟩
theorem auf:b9 JO GY:=cr QD 134000 [] (aO xo (aO MY (aO Wt b2))) Tryz.func36 fun⟨aP,aV,bG,cm,dj,gB,h0,iV⟩=>cF λE=>⟨rfl,alf _ aU aU aU aP aV bG cm dj gB h0 iV E⟩
theorem aug:b9 JR GZ:=cr QK 169000 [] (aO xo (aO MY (aO Wt b2))) Tryz.func155 fun⟨aP,aV,bG,cm,dj,gB,h0,iV⟩=>cF λE=>⟨rfl,alh _ aU aU aU aP aV bG cm dj gB h0 iV E⟩
theorem IV:b9 r7 yq:=cr QF 135000 [] (aO xo (aO afo (aO at9 b2))) Tryz.func38 fun⟨aP,aV,bG,cm,dj,gB,h0,iV⟩=>cF λE=>⟨rfl,alk _ aU aU aU aP aV bG cm dj gB h0 iV E⟩
theorem auh:b9 zV Ru:=cr QZ 125000 [] (aO xo b2) Tryz.func233 fun⟨aP,aV,bG,cm⟩=>cF λE=>⟨rfl,alu _ aU aP aV bG cm E⟩
theorem aui:b9 tk Rv:=cr Re 294000 [] (aO xo b2) Tryz.func116 fun⟨aP,aV,bG,cm⟩=>cF λE=>⟨rfl,alw _ aU aP aV bG cm E⟩
theorem auj:b9 sc Rx:=cr Rp 309000 [] (aO aui b2) Tryz.func174 fun⟨aP,aV,bG,cm⟩=>cF λE=>⟨rfl,alz _ aU aP aV bG cm E⟩
theorem auk:b9 Oj RD:=cr Cy 146000 [] (aO auh (aO auj b2)) Tryz.func201 fun⟨aP,aV⟩=>cF λE=>⟨rfl,alC _ aU (λh=>absurd h (by decide)) (λ_=>aU) aP aV E⟩
theorem aul:b9 Of KX:=cr Pr 128000 [] (aO auk b2) Tryz.func173 fun⟨aP,aV⟩=>cF λE=>⟨rfl,alG _ aU aP aV E⟩
theorem IW:b9 qV yt:=cr RM 183000 [18] b2 Tryz.func188 λaP=>cF λE=>⟨rfl,alJ _  aP E⟩
theorem MZ:b9 qW Dd:=cr RP 187000 [] b2 Tryz.func200 fun⟨aP,aV⟩=>cF λE=>⟨rfl,alM _  aP aV E⟩
theorem Wu:b9 xV Dg:=cr RN 185000 [] (aO MZ b2) Tryz.func182 fun⟨aP,aV⟩=>cF λE=>⟨rfl,alN _ aU aP aV E⟩
theorem afr:b9 F4 KZ:=cr RK 181000 [] (aO MZ (aO IW b2)) Tryz.func181 fun⟨aP,aV⟩=>cF λE=>⟨rfl,alO _ aU aU aP aV E⟩
theorem Wv:b9 xU He:=cr RL 182000 [] (aO MZ (aO IW b2)) Tryz.func183 fun⟨aP,aV⟩=>cF λE=>⟨rfl,alP _ aU aU aP aV E⟩
theorem afs:b9 z2 Hf:=cr RO 186000 [] (aO MZ (aO IW b2)) Tryz.func170 fun⟨aP,aV⟩=>cF λE=>⟨rfl,alQ _ aU aU aP aV E⟩
theorem aft:b9 F3 K1:=cr Hc 180000 [26] (aO IW (aO afs (aO Wu (aO Wv b2)))) Tryz.func187 fun⟨aP,aV⟩=>cF λE=>⟨rfl,alY _ aU aU aU aU aP aV E⟩
theorem EG:b9 mU yy:=cr RJ 166000 [] (aO IW b2) Tryz.func145 fun⟨aP,aV⟩=>cF λE=>⟨rfl,al0 _ aU aP aV E⟩
theorem xp:b9 jw tJ:=cr RF 162000 [] b2 Tryz.func141 fun⟨aP,aV⟩=>cF λE=>⟨rfl,al1 _  aP aV E⟩
theorem afu:b9 Cn K5:=cr RG 163000 [] (aO xp (aO EG b2)) Tryz.func142 fun⟨aP,aV⟩=>cF λE=>⟨rfl,al2 _ aU aU aP aV E⟩
theorem afv:b9 Ck K6:=cr RE 144000 [] (aO EG b2) Tryz.func83 λaP=>cF λE=>⟨rfl,al3 _ aU aP E⟩
theorem aum:b9 Oy R7:=cr RV 210000 [] b2 Tryz.func199 fun⟨aP,aV,bG,cm⟩=>cF λE=>⟨rfl,al5 _  aP aV bG cm E⟩
theorem afw:b9 z6 K7:=cr RU 209000 [] b2 Tryz.func169 fun⟨aP,aV⟩=>⟨rfl,al6 _  aP aV⟩
theorem afx:b9 F5 K8:=cr RS 205000 [] (aO xp (aO aum (aO Wu b2))) Tryz.func168 fun⟨aP,aV,bG,cm⟩=>cF λE=>⟨rfl,al8 _ aU aU aU aP aV bG cm E⟩
theorem afy:b9 F1 La:=cr RH 164000 [] (aO xp (aO aft (aO EG b2))) Tryz.func143 fun⟨aP,aV,bG,cm⟩=>cF λE=>⟨rfl,al9 _ aU aU aU aP aV bG cm E⟩
theorem M0:b9 o7 Dn:=cr RQ 202000 [] (aO xp (aO afs (aO EG (aO afw b2)))) Tryz.func109 fun⟨aP,aV,bG,cm⟩=>cF λE=>⟨rfl,ama _ aU aU aU aU aP aV bG cm E⟩
theorem afz:b9 F6 Lb:=cr RT 206000 [] (aO xp (aO afr (aO Wu (aO Wv (aO EG (aO afw b2)))))) Tryz.func129 fun⟨aP,aV,bG,cm⟩=>cF λE=>⟨rfl,amb _ aU aU aU aU aU aU aP aV bG cm E⟩
theorem aun:b9 Ow R9:=cr RR 203000 [] (aO xp (aO afu (aO afz b2))) Tryz.func110 fun⟨aP,aV,bG,cm⟩=>cF λE=>⟨rfl,ame _ aU aU aU aP aV bG cm E⟩
theorem afA:b9 zZ Lc:=cr RI 165000 [] (aO xp (aO aft (aO afr (aO Wv (aO EG b2))))) Tryz.func144 fun⟨aP,aV,bG,cm⟩=>cF λE=>⟨rfl,amg _ aU aU aU aU aU aP aV bG cm E⟩
theorem afB:b9 FY Le:=cr Se 143000 [] (aO xp (aO afu (aO afy (aO afA b2)))) Tryz.func82 fun⟨aP,aV,bG,cm⟩=>cF λE=>⟨rfl,amh _ aU aU aU aU aP aV bG cm E⟩
theorem Ww:b9 xT Dp:=cr Sc 124000 [] (aO afv (aO afB b2)) Tryz.func35 fun⟨aP,aV⟩=>cF λE=>⟨rfl,amj _ aU aU aP aV E⟩
theorem auo:b9 JP Sn:=cr Sd 142000 [] b2 Tryz.func55 fun⟨aP,aV,bG,cm⟩=>cF λE=>⟨rfl,amk _  aP aV bG cm E⟩
theorem afC:b9 FW Hi:=cr Sb 120000 [] (aO auo b2) Tryz.func19 fun⟨aP,aV,bG,cm,dj,gB,h0,iV⟩=>cF λE=>⟨rfl,amm _ aU aP aV bG cm dj gB h0 iV E⟩
theorem aup:b9 JN Sq:=cr Sa 115000 [] b2 Tryz.func39 fun⟨aP,aV,bG,cm,dj⟩=>⟨rfl,amo _  aP aV bG cm dj⟩
theorem zc:b9 kZ tL:=cr Sg 196000 [] (aO xp (aO afy (aO afv (aO afx b2)))) Tryz.func108 fun⟨aP,aV,bG,cm⟩=>cF λE=>⟨rfl,amq _ aU aU aU aU aP aV bG cm E⟩
theorem M5:b9 wi Dq:=cr Sj 204000 [] (aO afB b2) Tryz.func111 fun⟨aP,aV,bG,cm,dj⟩=>cF λE=>⟨rfl,ams _ aU aP aV bG cm dj E⟩
theorem auq:b9 Ov Lh:=cr Si 198000 [] (aO zc (aO M0 (aO afz (aO M5 b2)))) Tryz.func68 fun⟨aP,aV,bG,cm,dj,gB,h0,iV⟩=>cF λE=>⟨rfl,amA _ aU aU aU aU aP aV bG cm dj gB h0 iV E⟩
theorem aur:b9 Ot Li:=cr Sf 195000 [] (aO zc (aO M0 (aO aun (aO M5 b2)))) Tryz.func60 fun⟨aP,aV,bG,cm,dj,gB,h0,iV⟩=>cF λE=>⟨rfl,amC _ aU aU aU aU aP aV bG cm dj gB h0 iV E⟩
theorem aus:b9 Ou Lj:=cr Sh 197000 [] (aO zc (aO M0 (aO M5 b2))) Tryz.func133 fun⟨aP,aV,bG,cm,dj,gB,h0,iV⟩=>cF λE=>⟨rfl,amE _ aU aU aU aP aV bG cm dj gB h0 iV E⟩
theorem aut:b9 Ox Lk:=cr Sk 207000 [] (aO zc (aO M0 (aO M5 b2))) Tryz.func134 fun⟨aP,aV,bG,cm,dj,gB,h0,iV⟩=>cF λE=>⟨rfl,amG _ aU aU aU aP aV bG cm dj gB h0 iV E⟩
theorem auu:b9 OA Tv:=cr Q0 230000 [] (aO Ws b2) Tryz.func78 λaP=>cF λE=>⟨rfl,aol _ aU aP E⟩
theorem afD:b9 sb DR:=cr Ts 241000 [] (aO Ws b2) Tryz.func153 λaP=>cF λE=>⟨rfl,aon _ aU aP E⟩
theorem afE:b9 uQ HH:=cr Tn 284000 [] (aO Ww b2) Tryz.func132 fun⟨aP,aV⟩=>cF λE=>⟨rfl,aop _ aU aP aV E⟩
theorem Wx:∀n,oa Tryz.prog Cu (HM n)
 |0=>afg (mf:=Ld) (kb:=278000) (own:=[]) (AZ (zL b2) (A0 pq)) mixed Tryz.func112 (by kernel_rfl) (by kernel_rfl) λa r U=>by obtain⟨E,rfl⟩:=NX U;exact absurd E.2 (Nat.not_lt_zero _)
 |n+1=>afg (mf:=Ld) (kb:=278000) (own:=[]) (AZ (zL (aO afA (aO afx (aO (Wx n) b2)))) (A0 pq)) mixed Tryz.func112 (by kernel_rfl) (by kernel_rfl) fun⟨p,q,r,s⟩ x U=>by obtain⟨E,rfl⟩:=NX U;exact⟨EC rfl,aoN _ (Du rfl rfl) (Du rfl rfl) n (Du rfl rfl) p q r s E⟩
theorem auv:oa Tryz.prog Cu HL:=⟨(Wx 0).real,λds r h A w vs az ae=>by
 obtain⟨n,aL⟩:=aoK h;exact (Wx n).run ds r aL A w vs az ae⟩
theorem afF:b9 Ga HR:=cr Sl 270000 [] (aO zc (aO auv b2)) Tryz.func61 fun⟨aP,aV,bG,cm,dj,gB,h0,iV⟩=>cF λE=>⟨rfl,aoQ _ aU aU aP aV bG cm dj gB h0 iV E⟩
theorem afG:b9 Gb LY:=cr Tl 282000 [] b2 Tryz.func130 λaP=>cF λE=>⟨rfl,ao7 _  aP E⟩
theorem auw:b9 OH TE:=cr Tm 283000 [] b2 Tryz.func131 fun⟨aP,aV⟩=>cF λE=>⟨rfl,apd _  aP aV E⟩
theorem auy:b9 OG TK:=cr Tk 279000 [] (aO zc (aO afG (aO auw (aO afE (aO aur (aO afF (aO aus (aO aut b2)))))))) Tryz.func70 fun⟨aP,aV⟩=>cF λE=>⟨rfl,api _ aU aU aU aU aU aU aU aU aP aV E⟩
theorem afH:b9 tj L4:=cr Q2 243000 [] b2 Tryz.func137 fun⟨aP,aV,bG⟩=>⟨rfl,apo _  aP aV bG⟩
theorem auz:b9 JU TV:=cr Q3 244000 [] (aO afH b2) Tryz.func138 λaP=>⟨rfl,aps _ aU aP⟩
theorem auA:b9 JV TY:=cr Q4 245000 [] (aO afH b2) Tryz.func139 fun⟨aP,aV,bG,cm,dj⟩=>cF λE=>⟨rfl,apv _ aU aP aV bG cm dj E⟩
theorem auB:b9 Cq T6:=cr Q1 232000 [] (aO auu (aO IV b2)) Tryz.func80 fun⟨aP,aV,bG⟩=>cF λE=>⟨rfl,apz _ aU aU aP aV bG E⟩
theorem afI:b9 F9 L7:=cr TS 251000 [] b2 Tryz.func163 λaP=>⟨rfl,apA _  aP⟩
theorem auC:b9 Cr T7:=cr TR 250000 [] (aO afI b2) Tryz.func162 λaP=>⟨rfl,apC _ aU aP⟩
theorem afJ:b9 Ad L8:=cr TZ 355000 [] b2 Tryz.func54 fun⟨aP,aV,bG⟩=>⟨rfl,apD _  aP aV bG⟩
theorem afK:b9 tn L9:=cr T0 361000 [] (aO afJ b2) Tryz.func104 λaP=>⟨rfl,apF _ aU aP⟩
theorem afL:b9 z8 Ma:=cr Rb 292000 [] b2 Tryz.func114 fun⟨aP,aV,bG⟩=>⟨rfl,apG _  aP aV bG⟩
theorem afM:b9 ly Mb:=cr Ra 291000 [] (aO afL b2) Tryz.func113 λaP=>⟨rfl,apH _ aU aP⟩
theorem auD:b9 xY Ub:=cr Rn 307000 [] (aO afM b2) Tryz.func171 λaP=>⟨rfl,apK _ aU aP⟩
theorem afN:b9 Gd Mu:=cr Ri 298000 [] b2 Tryz.func120 fun⟨aP,aV,bG,cm,dj,gB⟩=>cF λE=>⟨rfl,arF _  aP aV bG cm dj gB E⟩
theorem auE:b9 Ct Uz:=cr Tt 253000 [] b2 Tryz.func191 fun⟨aP,aV,bG⟩=>⟨rfl,aqy _  aP aV bG⟩
theorem afO:b9 F7 Mg:=cr Tr 240000 [] (aO auE b2) Tryz.func154 λaP=>cF λE=>⟨rfl,aqz _ aU aP E⟩
theorem auF:b9 Oz UQ:=cr Tq 225000 [] (aO afO (aO xo (aO afD (aO IV b2)))) Tryz.func184 fun⟨aP,aV⟩=>cF λE=>⟨rfl,arp _ aU aU aU aU aP aV E⟩
theorem afP:b9 Ge MA:=cr Rr 313000 [] (aO afN (aO auF b2)) Tryz.func135 fun⟨aP,aV,bG,cm,dj,gB⟩=>cF λE=>⟨rfl,arK _ aU aU aP aV bG cm dj gB E⟩
theorem auG:b9 Cs Uh:=cr TT 252000 [] (aO afI b2) Tryz.func164 fun⟨aP,aV,bG,cm,dj⟩=>cF λE=>⟨rfl,apX _ aU aP aV bG cm dj E⟩
theorem auH:b9 Cv Uj:=cr T1 362000 [] (aO afJ (aO afK b2)) Tryz.func105 fun⟨aP,aV,bG,cm,dj⟩=>cF λE=>⟨rfl,ap0 _ aU aU aP aV bG cm dj E⟩
theorem auI:b9 uR Ul:=cr Rc 293000 [] (aO afL (aO afM b2)) Tryz.func115 fun⟨aP,aV,bG,cm,dj⟩=>cF λE=>⟨rfl,ap2 _ aU aU aP aV bG cm dj E⟩
theorem auJ:b9 Ab Un:=cr Ro 308000 [] (aO auI b2) Tryz.func172 fun⟨aP,aV,bG,cm,dj⟩=>cF λE=>⟨rfl,ap5 _ aU aP aV bG cm dj E⟩
theorem auK:b9 OU US:=cr Px 327000 [] b2 Tryz.func213 fun⟨aP,aV⟩=>cF λE=>⟨rfl,arv _  aP aV E⟩
theorem auL:b9 OT UU:=cr Pw 315000 [] (aO auK b2) Tryz.func180 fun⟨aP,aV⟩=>cF λE=>⟨rfl,arx _ aU aP aV E⟩
theorem auM:b9 Ac Up:=cr Rs 314000 [] (aO auL b2) Tryz.func179 fun⟨aP,aV,bG,cm,dj,gB,h0⟩=>cF λE=>⟨rfl,arO _ aU aP aV bG cm dj gB h0 E⟩
theorem auN:b9 OE Ur:=cr Gp 254000 [] (aO auA (aO auG (aO auH (aO auJ (aO auM b2))))) Tryz.func167 fun⟨aP,aV⟩=>cF λE=>⟨rfl,aqa _ aU (λ_=>aU) (λ_=>aU) (λ_=>aU) (λ_=>aU) aP aV E⟩
theorem afQ:b9 F8 Me:=cr Pu 247000 [] (aO auN b2) Tryz.func107 fun⟨aP,aV⟩=>cF λE=>⟨rfl,aqg _ aU aP aV E⟩
theorem auO:b9 OS Va:=cr Rm 306000 [] (aO afP (aO afQ b2)) Tryz.func127 fun⟨aP,aV,bG,cm,dj,gB,h0⟩=>cF λE=>⟨rfl,arR _ aU aU aP aV bG cm dj gB h0 E⟩
theorem afR:b9 qX D4:=cr Rl 305000 [] (aO auO b2) Tryz.func126 fun⟨aP,aV,bG,cm,dj,gB,h0⟩=>cF λE=>⟨rfl,arS _ aU aP aV bG cm dj gB h0 E⟩
theorem afS:b9 z7 D9:=cr Gm 231000 [] (aO auz (aO auC (aO afK (aO auB (aO auD (aO afR b2)))))) Tryz.func79 fun⟨aP,aV⟩=>cF λE=>⟨rfl,apO _ aU (λ_=>aU) (λ_=>aU) (λ_=>aU) (λ_=>aU) (λ_=>aU) aP aV E⟩
theorem auP:b9 OC Uf:=cr Pt 246000 [] (aO afS b2) Tryz.func106 fun⟨aP,aV⟩=>cF λE=>⟨rfl,apU _ aU aP aV E⟩
theorem auQ:b9 OD UC:=cr Ba 249000 [] (aO xo (aO IV (aO afD (aO afO (aO auf (aO aug (aO aue b2))))))) Tryz.func87 fun⟨aP,aV⟩=>cF λE=>⟨rfl,aqM _ aU aU aU aU aU aU aU aP aV E⟩
theorem auR:b9 tl UI:=cr Rq 310000 [] (aO IV b2) Tryz.func176 fun⟨aP,aV,bG,cm,dj,gB,h0,iV⟩=>cF λE=>⟨rfl,aq1 _ aU aP aV bG cm dj gB h0 iV E⟩
theorem auS:b9 OB UK:=cr Gn 235000 [] (aO auR b2) Tryz.func175 fun⟨aP,aV,bG⟩=>cF λE=>⟨rfl,aq4 _ (λh=>absurd h (by decide)) (λ_=>aU) aP aV bG E⟩
theorem auT:b9 OP UR:=cr Pv 301000 [] b2 Tryz.func123 fun⟨aP,aV⟩=>cF λE=>⟨rfl,art _  aP aV E⟩
theorem auU:b9 OV V8:=cr VA 358000 [] b2 Tryz.func58 fun⟨aP,aV⟩=>cF λE=>⟨rfl,atr _  aP aV E⟩
theorem Wy:b9 Aa It:=cr Rk 303000 [] (aO afP b2) Tryz.func73 fun⟨aP,aV,bG,cm,dj⟩=>cF λE=>⟨rfl,arN _ aU aP aV bG cm dj E⟩
theorem auV:b9 ON UL:=cr Rj 299000 [] (aO auS b2) Tryz.func121 fun⟨aP,aV⟩=>cF λE=>⟨rfl,aq8 _ aU aP aV E⟩
theorem auW:nI Tryz.prog OR (wV Iw):=amH (mf:=J2) (kb:=304000) (own:=[]) (AZ (zL (aO afS (aO afR b2))) (A0 pq)) mixed Tryz.func125 (by kernel_rfl) (by kernel_rfl) λargs mem cD h=>by
 obtain⟨a,⟨rfl,aM⟩,rfl⟩:=aa5 h;exact⟨EC rfl,arZ _ (Du rfl rfl) (Du rfl rfl) a mem aM⟩
theorem auX:b9 OK Vc:=xm Q9 290000 [6] (aO Wy (aO IU b2)) (vf auW pq) Tryz.func66 fun⟨aP,aV,bG,cm,dj⟩=>cF λE=>⟨rfl,ar2 _ aU aU (Lm rfl rfl) aP aV bG cm dj E⟩
theorem auY:b9 OL Ve:=cr Rf 295000 [] (aO auP b2) Tryz.func117 λaP=>cF λE=>⟨rfl,ar7 _ aU aP E⟩
theorem auZ:b9 OM Vg:=cr Rg 296000 [] (aO afQ b2) Tryz.func118 fun⟨aP,aV⟩=>cF λE=>⟨rfl,asa _ aU aP aV E⟩
theorem au0:b9 JW Vi:=cr Rh 297000 [] (aO aul b2) Tryz.func119 λaP=>cF λE=>⟨rfl,asc _ aU aP E⟩
theorem afT:b9 Gc MG:=cr Q6 287000 [] (aO auY (aO auZ (aO au0 b2))) Tryz.func63 fun⟨aP,aV,bG,cm,dj⟩=>cF λE=>⟨rfl,ase _ aU aU aU aP aV bG cm dj E⟩
theorem au1:b9 OI Vm:=cr Q7 288000 [] (aO Ws (aO afq (aO IV (aO afN (aO auQ (aO auV b2)))))) Tryz.func64 fun⟨aP,aV,bG,cm,dj,gB⟩=>cF λE=>⟨rfl,asi _ aU aU aU aU aU aU aP aV bG cm dj gB E⟩
theorem au2:b9 OX VP:=cr VB 369000 [] (aO aup b2) Tryz.func27 fun⟨aP,aV,bG,cm,dj⟩=>⟨rfl,asv _ aU aP aV bG cm dj⟩
theorem afU:b9 Gf MJ:=cr VD 371000 [] b2 Tryz.func30 fun⟨aP,aV⟩=>cF λE=>⟨rfl,asw _  aP aV E⟩
theorem afV:b9 Cw MK:=cr VF 376000 [] b2 Tryz.func41 fun⟨aP,aV⟩=>cF λE=>⟨rfl,asx _  aP aV E⟩
theorem afW:b9 Gg Er:=cr Rt 372000 [] (aO afT (aO Wy b2)) Tryz.func31 fun⟨aP,aV,bG,cm,dj⟩=>cF λE=>⟨rfl,asy _ aU aU aP aV bG cm dj E⟩
theorem au3:b9 xZ VR:=cr VO 378000 [] (aO Ww b2) Tryz.func62 fun⟨aP,aV⟩=>cF λE=>⟨rfl,asA _ aU aP aV E⟩
theorem au4:b9 OZ VU:=cr To 374000 [] (aO afC b2) Tryz.func34 fun⟨aP,aV⟩=>cF λE=>⟨rfl,asP _ aU aP aV E⟩
def au5:Go.Shelf.Ren:=⟨fun|5=>122|8=>178|7=>177|19=>211|20=>212|10=>202|11=>203|12=>204|13=>205|14=>206|15=>207|16=>208|17=>209|18=>210|30=>218|31=>219|32=>220|33=>221|34=>222|35=>194|40=>230|n=>n,fun|23=>22|25=>3|3=>3|32=>166|22=>22|0=>0|44=>193|46=>175|4=>4|36=>186|35=>185|41=>149|5=>5|9=>9|53=>199|57=>203|63=>216|64=>146|n=>n,fun|n=>n⟩
theorem au6:Go.Proofs.SlLaysM.n5 Tryz.prog au5 where
 mixed:=by kernel_rfl
 f5 := ⟨"slices.Sort[[]int,int]", by decide, Tryz.func122.trans (congrArg some (by kernel_rfl))⟩
 f7 := ⟨"slices.pdqsortOrdered[int]", by decide, Tryz.func177.trans (congrArg some (by kernel_rfl))⟩
 f8:=Tryz.func178.trans (congrArg some (by kernel_rfl))
 f10 := ⟨"slices.insertionSortOrdered[int]", by decide, Tryz.func202.trans (congrArg some (by kernel_rfl))⟩
 f11 := ⟨"slices.heapSortOrdered[int]", by decide, Tryz.func203.trans (congrArg some (by kernel_rfl))⟩
 f12 := ⟨"slices.breakPatternsOrdered[int]", by decide, Tryz.func204.trans (congrArg some (by kernel_rfl))⟩
 f13 := ⟨"slices.choosePivotOrdered[int]", by decide, Tryz.func205.trans (congrArg some (by kernel_rfl))⟩
 f14 := ⟨"slices.reverseRangeOrdered[int]", by decide, Tryz.func206.trans (congrArg some (by kernel_rfl))⟩
 f15 := ⟨"slices.partialInsertionSortOrdered[int]", by decide, Tryz.func207.trans (congrArg some (by kernel_rfl))⟩
 f16 := ⟨"cmp.Less[int]", by decide, Tryz.func208.trans (congrArg some (by kernel_rfl))⟩
 f17 := ⟨"slices.partitionEqualOrdered[int]", by decide, Tryz.func209.trans (congrArg some (by kernel_rfl))⟩
 f18 := ⟨"slices.partitionOrdered[int]", by decide, Tryz.func210.trans (congrArg some (by kernel_rfl))⟩
 f19:=Tryz.func211.trans (congrArg some (by kernel_rfl))
 f20:=Tryz.func212.trans (congrArg some (by kernel_rfl))
 f30 := ⟨"slices.siftDownOrdered[int]", by decide, Tryz.func218.trans (congrArg some (by kernel_rfl))⟩
 f31:=Tryz.func219.trans (congrArg some (by kernel_rfl))
 f32:=Tryz.func220.trans (congrArg some (by kernel_rfl))
 f33 := ⟨"slices.medianAdjacentOrdered[int]", by decide, Tryz.func221.trans (congrArg some (by kernel_rfl))⟩
 f34 := ⟨"slices.medianOrdered[int]", by decide, Tryz.func222.trans (congrArg some (by kernel_rfl))⟩
 f35 := ⟨"cmp.isNaN[int]", by decide, Tryz.func194.trans (congrArg some (by kernel_rfl))⟩
 f40 := ⟨"slices.order2Ordered[int]", by decide, Tryz.func230.trans (congrArg some (by kernel_rfl))⟩
 t0:=Tryz.underlying0
 a0:=Tryz.isAgg0
 z0:=Tryz.sizeOf0
 v0:=Tryz.zeroValue0
 t3:=Tryz.underlying3
 a3:=Tryz.isAgg3
 z3:=Tryz.sizeOf3
 v3:=Tryz.zeroValue3
 t4:=Tryz.underlying4
 a4:=Tryz.isAgg4
 z4:=Tryz.sizeOf4
 v4:=Tryz.zeroValue4
 t5:=Tryz.underlying5
 a5:=Tryz.isAgg5
 z5:=Tryz.sizeOf5
 v5:=Tryz.zeroValue5
 t9:=Tryz.underlying9
 a9:=Tryz.isAgg9
 z9:=Tryz.sizeOf9
 v9:=Tryz.zeroValue9
 t22:=Tryz.underlying22
 a22:=Tryz.isAgg22
 z22:=Tryz.sizeOf22
 v22:=Tryz.zeroValue22
 t23:=Tryz.underlying22
 a23:=Tryz.isAgg22
 z23:=Tryz.sizeOf22
 v23:=Tryz.zeroValue22
 t25:=Tryz.underlying3
 a25:=Tryz.isAgg3
 z25:=Tryz.sizeOf3
 v25:=Tryz.zeroValue3
 t32:=Tryz.underlying166
 a32:=Tryz.isAgg166
 z32:=Tryz.sizeOf166
 v32:=Tryz.zeroValue166
 t35:=Tryz.underlying185
 a35:=Tryz.isAgg185
 z35:=Tryz.sizeOf185
 v35:=Tryz.zeroValue185
 t36:=Tryz.underlying186
 a36:=Tryz.isAgg186
 z36:=Tryz.sizeOf186
 v36:=Tryz.zeroValue186
 t41:=Tryz.underlying149
 a41:=Tryz.isAgg149
 z41:=Tryz.sizeOf149
 v41:=Tryz.zeroValue149
 t44:=Tryz.underlying193
 a44:=Tryz.isAgg193
 z44:=Tryz.sizeOf193
 v44:=Tryz.zeroValue193
 t46:=Tryz.underlying175
 a46:=Tryz.isAgg175
 z46:=Tryz.sizeOf175
 v46:=Tryz.zeroValue175
 t53:=Tryz.underlying199
 a53:=Tryz.isAgg199
 z53:=Tryz.sizeOf199
 v53:=Tryz.zeroValue199
 t57:=Tryz.underlying203
 a57:=Tryz.isAgg203
 z57:=Tryz.sizeOf203
 v57:=Tryz.zeroValue203
 t63:=Tryz.underlying216
 a63:=Tryz.isAgg216
 z63:=Tryz.sizeOf216
 v63:=Tryz.zeroValue216
 t64:=Tryz.underlying146
 a64:=Tryz.isAgg146
 z64:=Tryz.sizeOf146
 v64:=Tryz.zeroValue146
theorem au7:nI Tryz.prog OO (wV IG):=asW au6 rfl ⟨Tryz.f122,_,Tryz.func122,rfl,by kernel_rfl⟩
theorem au8:nI Tryz.prog OQ (HS ML):=aoZ (mf:=J1) (kb:=302000) (own:=[]) (AZ (zL b2) (A0 pq)) mixed Tryz.func124 (by kernel_rfl) (by kernel_rfl) (λ_=>False) λargs mem d k h=>by
 obtain⟨a,⟨rfl,aM⟩,a6⟩:=ao1 h
 cases a6;exact⟨EC rfl,λ_ h=>h.elim,λh=>h,asY _  a mem aM⟩
theorem au9:b9 OJ VX:=xm Q8 289000 [1000000000045] (aO Wy (aO auT b2)) (vf au7 (vf au8 pq)) Tryz.func65 fun⟨aP,aV,bG,cm,dj⟩=>cF λE=>⟨rfl,as5 _ (Lm rfl rfl) (Lm rfl rfl) aU aU aP aV bG cm dj E⟩
theorem afX:b9 xX vB:=cr Q5 286000 [] (aO afT (aO au1 (aO au9 (aO auX b2)))) Tryz.func28 fun⟨aP,aV,bG,cm,dj⟩=>cF λE=>⟨rfl,as9 _ aU aU aU aU aP aV bG cm dj E⟩
theorem ava:b9 OW V6:=cr VN 368000 [] (aO au3 (aO afX (aO afW (aO afU b2)))) Tryz.func26 λ_=>⟨rfl,atl _ aU aU aU aU⟩
theorem avb:b9 JX Wb:=cr VL 384000 [] (aO zc b2) Tryz.func128 λaP=>cF λE=>⟨rfl,att _ aU aP E⟩
theorem afY:b9 Gh MO:=cr VG 379000 [] (aO auU (aO avb b2)) Tryz.func67 fun⟨aP,aV,bG,cm,dj⟩=>cF λE=>⟨rfl,atv _ aU aU aP aV bG cm dj E⟩
theorem afZ:b9 Gi MP:=cr VH 380000 [] b2 Tryz.func69 fun⟨aP,aV,bG⟩=>cF λE=>⟨rfl,atx _  aP aV bG E⟩
theorem avc:b9 O2 Wf:=cr Tp 385000 [] (aO afG (aO zc (aO afE (aO afF b2)))) Tryz.func136 fun⟨aP,aV⟩=>cF λE=>⟨rfl,atB _ aU aU aU aU aP aV E⟩
theorem af0:b9 Gj MR:=cr VK 383000 [] (aO afZ (aO avc b2)) Tryz.func74 fun⟨aP,aV,bG⟩=>cF λE=>⟨rfl,atE _ aU aU aP aV bG E⟩
theorem Wz:b9 Ae EA:=cr VE 373000 [] (aO afY (aO af0 b2)) Tryz.func32 fun⟨aP,aV,bG,cm,dj⟩=>cF λE=>⟨rfl,atF _ aU aU aP aV bG cm dj E⟩
theorem avd:b9 O0 Wi:=cr VI 381000 [] (aO Wz (aO afV b2)) Tryz.func71 fun⟨aP,aV,bG,cm,dj⟩=>cF λE=>⟨rfl,atJ _ aU aU aP aV bG cm dj E⟩
theorem ave:b9 O1 Wm:=cr VJ 382000 [] (aO Wz (aO af0 (aO afV b2))) Tryz.func72 fun⟨aP,aV,bG,cm,dj⟩=>cF λE=>⟨rfl,atQ _ aU aU aU aP aV bG cm dj E⟩
theorem avf:b9 OY Wn:=cr VC 370000 [] (aO afY (aO Ww (aO auq (aO afC (aO afZ (aO auy (aO au4 (aO avd (aO ave b2))))))))) Tryz.func29 fun⟨aP,aV,bG,cm,dj⟩=>cF λE=>⟨rfl,atW _ aU aU aU aU aU aU aU aU aU aP aV bG cm dj E⟩
theorem avg:b9 ai9 Wo:=cr VM 363000 [] (aO ava (aO au2 (aO afX (aO avf (aO afW (aO Wz (aO afU b2))))))) Tryz.func4 fun⟨aP,aV,bG,cm,dj⟩=>⟨rfl,at3 _ aU aU aU aU aU aU aU aP aV bG cm dj⟩
end Go.Mini
