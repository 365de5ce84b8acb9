/- A part of the proof. -/
import Derived.Test.YtdbkjjoedjfmpaaGreatM04
set_option linter.unusedSimpArgs false
set_option linter.unusedVariables false
set_option maxRecDepth 100000
set_option maxHeartbeats 4000000
noncomputable section
open Bool renaming and_eq_true->fw,and_false->jB,false_and->eR,not_eq_true'->I0,not_false->db,not_true->cw,or_eq_true->yD,or_false->qc,true_and->fD
open Classical renaming byContradiction->nt,choose->yG,choose_spec->q3
open Decidable renaming em->dc
open Int renaming add_zero->ra,fmod_add_mul_fdiv->M9,fmod_lt_of_pos->Nb,fmod_nonneg_of_pos->Na,lt_or_gt_of_ne->alv,mul_le_mul_of_nonneg_left->vG,mul_le_mul_of_nonneg_right->lA,mul_ne_zero->y5,mul_nonneg->uq,mul_one->r3,natAbs_mul->tb,natAbs_natCast->k4,sign_eq_one_of_pos->g7,sign_mul->oz,sign_trichotomy->Ly,sub_zero->Cv,zero_mul->y1
open List renaming any_eq_false->wi,append_assoc->gT,append_nil->gS,append_of_mem->aj5,concat_eq_append->yO,cons_append->mj,count_append->akx,count_cons->akD,count_cons_self->aa2,count_eq_zero->akw,eq_nil_or_concat->yN,ext_getElem?->oR,filter_append->sw,filter_cons_of_neg->tC,filter_cons_of_pos->rB,filter_nil->qE,findIdx_getElem->akj,flatMap_append->xZ,flatMap_cons->qd,flatMap_def->x0,flatMap_eq_nil_iff->ak8,flatMap_nil->Bo,getD_eq_getElem?_getD->ep,getElem?_append_left->oe,getElem?_append_right->nc,getElem?_cons_zero->Cc,getElem?_eq_getElem->bq,getElem?_eq_none->ja,getElem?_eq_some_iff->ej,getElem?_map->bj,getElem?_range->tU,getElem?_set->lG,getElem_drop->C0,getElem_mem->lq,length->D,length_append->fX,length_cons->jO,length_drop->nE,length_eq_zero_iff->x3,length_filter_le->pc,length_map->aE,length_nil->nC,length_range->r1,length_set->jF,length_singleton->sg,map_append->js,map_congr_left->oi,map_cons->ey,map_map->oj,map_nil->cC,mem_append->jb,mem_cons->lS,mem_cons_of_mem->hO,mem_cons_self->g3,mem_filter->aaO,mem_map->fO,mem_map_of_mem->Bl,mem_of_getElem?->dn,mem_range->iM,nil_append->hX,range->eN,range_succ->pZ,sum_cons->akz,take_of_length_le->dp,zipWith->aaY,zipWith_cons_cons->akd,zip_cons_cons->akc
open List.cons renaming injEq->bk
open Nat renaming add_comm->zP,add_zero->lP,eq_zero_or_pos->ko,le_refl->cH,le_trans->e4,lt_of_le_of_lt->uo,lt_or_ge->g2,mul_assoc->aaV,mul_comm->sY,mul_le_mul->wx,mul_le_mul_right->og,mul_left_comm->aaW,mul_one->dY,mul_pos->abb,one_le_two_pow->I3,one_pos->akT,pow_add->su,pow_le_pow_right->nK,pow_lt_pow_right->akp,pow_succ->vB,sub_self->jy,succ_mul->py,zero_add->qW,zero_le->fm
open Option renaming getD_some->Ku,map_some->lu
open Option.some renaming inj->oh,injEq->cL
open Prod renaming ext->dN
open Prod.mk renaming injEq->fS
open Rat renaming add_zero->iX,divInt->lZ,divInt_eq_div->RH,div_def->IJ,intCast_add->Bj,intCast_eq_zero_iff->akn,intCast_mul->sq,intCast_natCast->nW,intCast_sub->RC,inv_pos->ajP,le_refl->gX,le_trans->xR,mul_add->akC,mul_comm->wB,mul_eq_zero->RJ,mul_nonneg->aax,mul_pos->Mw,mul_zero->sn,natCast_eq_zero_iff->akB,natCast_mul->RO,neg_num->akr,num_eq_zero->aka,one_mul->MC,sub_eq_add_neg->CM,zero_add->qD,zero_den->MO,zero_mul->Bh,zero_num->MP
namespace Go.Mini
open Classical
structure ef where
 aK:Nat
 to:Int
 bP:Nat
 am:Rat
theorem IG {a b:Rat}(h:a=b):a<=b:=by rw[h];exact gX
def b3:List ef->(ef->Rat)->Rat
 | [],_=>0
 |c::l,aR=>aR c+b3 l aR
theorem wu {l:List ef}{aR bE:ef->Rat}(h:∀c∈l,aR c=bE c):b3 l aR=b3 l bE:=by
 induction l with
 |nil=>rfl
 |cons c l aN=>rw[b3,b3,h c g3,aN λx M=>h x (hO _ M)]
theorem Rr (l:List ef)(aR bE:ef->Rat):b3 l (λc=>aR c+bE c)=b3 l aR+b3 l bE:=by
 induction l with
 |nil=>simp only[b3];grind
 |cons c l aN=>rw[b3,b3,b3,aN];grind
theorem Mt (l:List ef)(aR bE:ef->Rat):b3 l (λc=>aR c-bE c)=b3 l aR-b3 l bE:=by
 induction l with
 |nil=>simp only[b3];grind
 |cons c l aN=>rw[b3,b3,b3,aN];grind
theorem Rs (l:List ef)(a:Rat)(aR:ef->Rat):b3 l (λc=>a*aR c)=a*b3 l aR:=by
 induction l with
 |nil=>simp only[b3];grind
 |cons c l aN=>rw[b3,b3,aN];grind
theorem IH {l:List ef}{aR:ef->Rat}(h:∀c∈l,aR c=0):b3 l aR=0:=by
 induction l with
 |nil=>rfl
 |cons c l aN=>rw[b3,h c g3,aN λx M=>h x (hO _ M)];grind
theorem Fz {l:List ef}{aR bE:ef->Rat}(h:∀c∈l,aR c<=bE c):b3 l aR<=b3 l bE:=by
 induction l with
 |nil=>exact gX
 |cons c l aN =>
  have G:=h c g3;have J:=aN λx M=>h x (hO _ M);rw[b3,b3];grind
theorem zn {l:List ef}{aR:ef->Rat}(h:∀c∈l,0<=aR c):0<=b3 l aR:=by
 have:=Fz (l:=l) (aR:=λ_=>0) (bE:=aR) h;rwa [IH λ_ _=>rfl] at this
theorem aar {l:List ef}{aR:ef->Rat}(h:∀c∈l,0<=aR c)(U:b3 l aR<=0):∀c∈l,aR c=0:=by
 induction l with
 |nil=>intro c H;cases H
 |cons c l aN =>
  rw[b3] at U;have G:=h c g3;have J:=zn λx M=>h x (hO c M);intro x M;rcases lS.1 M with rfl|M
  ·grind
  ·exact aN (λy aj=>h y (hO _ aj)) (by grind) x M
theorem ax2 {l:List ef}{aR bE:ef->Rat}(h:∀c∈l,aR c<=bE c){h3:ef}(H:h3∈l)(az:aR h3<bE h3):b3 l aR<b3 l bE:=by
 by_cases U:b3 l aR<b3 l bE
 ·exact U
 ·have:=aar (l:=l) (aR:=λc=>bE c-aR c) (λc H=>by have:=h c H;grind) (by rw[Mt];grind) h3 H;grind
theorem aas {l:List ef}{aR:ef->Rat}(h:0<b3 l aR):∃c∈l,0<aR c:=by
 apply nt;intro aM
 have:=Fz (l:=l) (aR:=aR) (bE:=λ_=>0) λc H=>by
  apply nt;intro J;exact aM ⟨c,H,by grind⟩
 rw[IH (aR:=λ_=>(0:Rat)) λ_ _=>rfl] at this;grind
theorem Mu {n:Nat}{f g:Nat->Rat}(h:∀k,k<n->f k<=g k):cJ n f<=cJ n g:=by
 induction n with
 |zero=>exact gX
 |succ n aN =>
  have G:=h n (by omega);have J:=aN λk L=>h k (by omega);rw[cJ,cJ];grind
theorem ajO {n:Nat}{f:Nat->Rat}(h:∀k,k<n->0<=f k):0<=cJ n f:=by
 have:=Mu (n:=n) (f:=λ_=>0) (g:=f) h;rwa [Bf λ_ _=>rfl] at this
theorem Mv (n:Nat)(f g:Nat->Rat):cJ n (λk=>f k-g k)=cJ n f-cJ n g:=by
 induction n with
 |zero=>simp only[cJ];grind
 |succ n aN=>rw[cJ,cJ,cJ,aN];grind
theorem ax3 {n:Nat}{f:Nat->Rat}(h:∀k,k<n->0<=f k)(U:cJ n f<=0):∀k,k<n->f k=0:=by
 induction n with
 |zero=>intro k L;omega
 |succ n aN =>
  rw[cJ] at U;have G:=h n (by omega);have J:=ajO (n:=n) (f:=f) λk L=>h k (by omega);intro k L
  by_cases k9:k=n
  ·subst k9;grind
  ·exact aN (λk L=>h k (by omega)) (by grind) k (by omega)
def rv (C:Nat->Prop)(c:ef):Prop:=∃i:Nat,c.to=i/\C i
theorem aat {n:Nat}(C:Nat->Prop)(kH:∀i,C i->i<n)(l:List ef)(a:ef->Rat):cJ n (λi=>if C i then b3 l (λc=>if c.to=(i:Int) then a c else 0) else 0)=b3 l (λc=>if rv C c then a c else 0):=by
 induction l with
 |nil=>exact Bf λk _=>by split<;>rfl
 |cons c l aN =>
  rw[b3,<-aN]
  have e:(λi:Nat=>if C i then b3 (c::l) (λc=>if c.to=(i:Int) then a c else 0) else 0)=λi=>(if C i then (if c.to=(i:Int) then a c else 0) else 0)+(if C i then b3 l (λc=>if c.to=(i:Int) then a c else 0) else 0):=by
   funext i
   split
   ·rw[b3]
   ·grind
  rw[e,Fy]
  congr 1
  by_cases h:rv C c
  ·obtain⟨i,Q,aau⟩:=h
   rw[Bg (kH i aau) λk L rX=>by
    split
    ·rw[ag (by omega)]
    ·rfl]
   rw[ad aau,ad Q,ad ⟨i,Q,aau⟩]
  ·rw[ag h];refine Bf λk L=>?_
   split
   ·rw[ag λib=>h ⟨k,ib,by assumption⟩]
   ·rfl
theorem aav {n:Nat}{l:List ef}(aw:∀c∈l,c.aK<n)(b:Nat->ef->Rat):cJ n (λk=>b3 l (λc=>if c.aK=k then b k c else 0))=b3 l (λc=>b c.aK c):=by
 induction l with
 |nil=>exact Bf λk _=>rfl
 |cons c l aN =>
  rw[b3,<-aN λx M=>aw x (hO _ M)];have e:(λk:Nat=>b3 (c::l) (λc=>if c.aK=k then b k c else 0))=λk=>(if c.aK=k then b k c else 0)+b3 l (λc=>if c.aK=k then b k c else 0):=rfl;rw[e,Fy]
  congr 1
  rw[Bg (aw c g3) λk _ L=>ag (Ne.symm L),ad rfl]
structure Day where
 n:Nat
 E:Nat->Rat
 dI:List ef
structure Day.dO (d:Day):Prop where
 aK:∀c∈d.dI,c.aK<d.n
 to:∀c∈d.dI,c.to<d.n
 bP:∀c∈d.dI,c.bP<10
 am:∀c∈d.dI,0<=c.am
 E:∀i,i<d.n->0<=d.E i
def Day.bI (d:Day)(k r:Nat):Rat:=b3 d.dI λc=>if c.aK=k/\c.bP<r then c.am else 0
def Day.S (d:Day)(k r:Nat):Rat:=b3 d.dI λc=>if c.aK=k/\c.bP=r then c.am else 0
theorem Day.II (d:Day)(k:Nat):d.bI k 0=0:=IH λc _=>ag (by omega)
theorem Day.xO (d:Day)(k r:Nat):d.bI k (r+1)=d.bI k r+d.S k r:=by
 unfold Day.bI Day.S;rw[<-Rr];refine wu λc _=>?_
 by_cases G:c.aK=k/\c.bP<r
 ·rw[ad ⟨G.1,by omega⟩,ad G,ag (by omega)];grind
 ·rw[ag G]
  by_cases J:c.aK=k/\c.bP=r
  ·rw[ad ⟨J.1,by omega⟩,ad J];grind
  ·rw[ag (by omega),ag J];grind
theorem Day.dO.Rt {d:Day}(ab:d.dO)(k r:Nat):0<=d.S k r:=zn λc H=>by
 split
 ·exact ab.am c H
 ·exact gX
theorem Day.dO.xP {d:Day}(ab:d.dO)(k:Nat){r s:Nat}(h:r<=s):d.bI k r<=d.bI k s:=by
 induction s with
 |zero =>
      obtain rfl:r=0:=by omega
      exact gX
 |succ s aN =>
  by_cases Y:r=s+1
  ·rw[Y];exact gX
  ·have G:=aN (by omega);have J:=ab.Rt k s;rw[d.xO];grind
theorem Day.dO.ax4 {d:Day}(ab:d.dO)(k r:Nat):0<=d.bI k r:=by
 have:=ab.xP k (fm r);rwa [d.II] at this
theorem Day.dO.aaw {d:Day}(ab:d.dO){c:ef}(H:c∈d.dI):c.am<=d.S c.aK c.bP:=by
 have:∀l:List ef,(∀x∈l,0<=x.am)->c∈l->c.am<=b3 l λx=>if x.aK=c.aK/\x.bP=c.bP then x.am else 0:=by
  intro l
  induction l with
  |nil=>intro _ h;cases h
  |cons x l aN =>
   intro G J;rw[b3]
   have af:0<=b3 l λx=>if x.aK=c.aK/\x.bP=c.bP then x.am else 0:=zn λy aj=>by
    split
    ·exact G y (hO _ aj)
    ·exact gX
   rcases lS.1 J with rfl|J
   ·rw[ad ⟨rfl,rfl⟩];grind
   ·have aT:=aN (λy aj=>G y (hO _ aj)) J;have bx:=G x g3
    split<;>grind
 exact this d.dI ab.am H
def Day.w (d:Day)(c:ef):Rat:=c.am/d.S c.aK c.bP
theorem Day.dO.ry {d:Day}(ab:d.dO){c:ef}(H:c∈d.dI):0<=d.w c:=by
 unfold Day.w;have G:=ab.am c H;have J:=ab.Rt c.aK c.bP;rw[IJ]
 exact aax G (by
  rcases Rat.le_iff_lt_or_eq.1 J with h|h
  ·exact Rat.le_of_lt (ajP.2 h)
  ·rw[<-h];exact IG Rat.inv_zero.symm)
theorem Day.dO.aay {d:Day}(ab:d.dO){c:ef}(H:c∈d.dI)(h:0<c.am):0<d.w c:=by
 unfold Day.w;have J:=ab.aaw H;rw[IJ];exact Mw h (ajP.2 (by grind))
theorem Day.Fk {d:Day}{c:ef}(h:c.am=0):d.w c=0:=by
 unfold Day.w;rw[h,IJ,Bh]
theorem Day.IK {d:Day}{c:ef}(h:0<d.S c.aK c.bP):d.w c*d.S c.aK c.bP=c.am:=by
 unfold Day.w;grind
theorem Day.dO.Mx {d:Day}(ab:d.dO)(C:Nat->Prop)(f:Nat->Nat)(dh:∀k,C k->0<d.S k (f k))(x:Nat->Rat):b3 d.dI (λc=>if C c.aK/\c.bP=f c.aK then d.w c*x c.aK else 0)=cJ d.n (λk=>if C k then x k else 0):=by
 rw[<-aav ab.aK λk c=>if C k/\c.bP=f k then d.w c*x k else 0];refine nT λk L=>?_
 by_cases kH:C k
 ·rw[ad kH];have iF:=dh k kH
  have e:b3 d.dI (λc=>if c.aK=k then (if C k/\c.bP=f k then d.w c*x k else 0) else 0)=b3 d.dI λc=>(x k/d.S k (f k))*(if c.aK=k/\c.bP=f k then c.am else 0):=by
   refine wu λc _=>?_
   by_cases G:c.aK=k
   ·by_cases J:c.bP=f k
    ·rw[ad G,ad ⟨kH,J⟩,ad ⟨G,J⟩];unfold Day.w;rw[G,J];grind
    ·rw[ad G,ag (λh=>J h.2),ag (λh=>J h.2)];grind
   ·rw[ag G,ag (λh=>G h.1)];grind
  rw[e,Rs];show x k/d.S k (f k)*d.S k (f k)=x k;grind
 ·rw[ag kH]
  exact IH λc _=>by
   split
   ·rw[ag λh=>kH h.1]
   ·rfl
end Go.Mini
namespace Go.Mini
open Classical
def pos (x:Rat):Rat:=if x<=0 then 0 else x
theorem IL (x:Rat):0<=pos x:=by unfold pos;split<;>grind
theorem Ru (x:Rat):x<=pos x:=by unfold pos;split<;>grind
theorem ajQ {x y:Rat}(h:x<=y):pos x<=pos y:=by unfold pos;split<;>split<;>grind
theorem zo {x:Rat}(h:0<=x):pos x=x:=by unfold pos;split<;>grind
theorem wv {x:Rat}(h:x<=0):pos x=0:=ad h
theorem FA {a x y:Rat}(aW:0<=a)(h:x<=y):a*x<=a*y:=Rat.mul_le_mul_of_nonneg_left h aW
theorem uY {a x:Rat}(aW:0<=a)(h:0<=x):0<=a*x:=aax aW h
def Day.q (d:Day)(f:Nat->Nat)(h:Nat->Rat)(c:ef):Rat:=if c.bP<f c.aK then c.am else if c.bP=f c.aK then d.w c*pos (h c.aK-d.bI c.aK c.bP) else 0
def Day.l (d:Day)(f:Nat->Nat)(P:Nat->Prop)(h:Nat->Rat)(c:ef):Rat:=if c.bP<f c.aK then c.am else if c.bP=f c.aK/\P c.aK then d.w c*(h c.aK-d.bI c.aK c.bP) else 0
def Day.eZ (d:Day)(a:ef->Rat)(i:Nat):Rat:=d.E i+b3 d.dI λc=>if c.to=(i:Int) then a c else 0
theorem Day.FB {d:Day}{a b:ef->Rat}(h:∀c∈d.dI,a c<=b c)(i:Nat):d.eZ a i<=d.eZ b i:=by
 unfold Day.eZ
 have:=Fz (l:=d.dI) (aR:=λc=>if c.to=(i:Int) then a c else 0) (bE:=λc=>if c.to=(i:Int) then b c else 0) λc H=>by
  try dsimp only
  split
  ·exact h c H
  ·exact gX
 grind
theorem Day.ajR {d:Day}{a b:ef->Rat}(h:∀c∈d.dI,a c=b c)(i:Nat):d.eZ a i=d.eZ b i:=by
 unfold Day.eZ
 congr 1
 exact wu λc H=>by rw[h c H]
theorem Day.aaz (d:Day)(a b:ef->Rat)(i:Nat):d.eZ a i-d.eZ b i=b3 d.dI λc=>if c.to=(i:Int) then a c-b c else 0:=by
 unfold Day.eZ
 have:(λc:ef=>if c.to=(i:Int) then a c-b c else 0)=λc=>(if c.to=(i:Int) then a c else 0)-(if c.to=(i:Int) then b c else 0):=by
  funext c;split<;>grind
 rw[this,Mt];grind
def Day.ha (d:Day)(C:Nat->Prop)(x:Nat->Rat):Rat:=cJ d.n λi=>if C i then x i else 0
theorem Day.ax5 (d:Day)(C:Nat->Prop)(x y:Nat->Rat):d.ha C (λi=>x i-y i)=d.ha C x-d.ha C y:=by
 unfold Day.ha;rw[<-Mv];exact nT λk _=>by split<;>grind
theorem Day.ax6 (d:Day)(C:Nat->Prop)(x y:Nat->Rat):d.ha C (λi=>x i+y i)=d.ha C x+d.ha C y:=by
 unfold Day.ha;rw[<-Fy];exact nT λk _=>by split<;>grind
theorem Day.ajS {d:Day}{C:Nat->Prop}{x y:Nat->Rat}(h:∀i,i<d.n->C i->x i<=y i):d.ha C x<=d.ha C y:=by
 refine Mu λk L=>?_
 by_cases H:C k
 ·rw[ad H,ad H];exact h k L H
 ·rw[ag H,ag H];exact gX
theorem Day.My {d:Day}{C:Nat->Prop}{x y:Nat->Rat}(h:∀i,i<d.n->C i->x i=y i):d.ha C x=d.ha C y:=by
 refine nT λk L=>?_
 split
 ·exact h k L (by assumption)
 ·rfl
theorem Day.aaA {d:Day}{C:Nat->Prop}(kH:∀i,C i->i<d.n)(a:ef->Rat):d.ha C (d.eZ a)=d.ha C d.E+b3 d.dI λc=>if rv C c then a c else 0:=by
 rw[<-aat C kH];show cJ d.n _=cJ d.n _+_;rw[<-Fy];refine nT λk _=>?_;unfold Day.eZ
 split<;>grind
def Day.closed (d:Day)(f:Nat->Nat)(C:Nat->Prop):Prop:=∀c∈d.dI,C c.aK->c.bP=f c.aK->0<c.am->rv C c
def Day.cap (d:Day)(f:Nat->Nat)(g:Nat->Rat)(C:Nat->Prop)(k:Nat):Rat:=if C k then d.bI k (f k) else g k
section
variable {d:Day} {f:Nat->Nat} {P:Nat->Prop} {h g:Nat->Rat} {C:Nat->Prop} {c:ef}
theorem Day.ajT (G:c.bP<f c.aK):d.l f P h c=c.am:=by unfold Day.l;rw[ad G]
theorem Day.ajU (G:c.bP=f c.aK)(J:P c.aK):d.l f P h c=d.w c*(h c.aK-d.bI c.aK c.bP):=by
 unfold Day.l;rw[ag (by omega),ad ⟨G,J⟩]
theorem Day.aaB (G:¬ c.bP<f c.aK)(J:¬ (c.bP=f c.aK/\P c.aK)):d.l f P h c=0:=by
 unfold Day.l;rw[ag G,ag J]
theorem Day.ax7 (G:c.bP<f c.aK):d.q f h c=c.am:=by unfold Day.q;rw[ad G]
theorem Day.ax8 (G:c.bP=f c.aK):d.q f h c=d.w c*pos (h c.aK-d.bI c.aK c.bP):=by
 unfold Day.q;rw[ag (by omega),ad G]
theorem Day.ax9 (G:¬ c.bP<f c.aK)(J:¬ c.bP=f c.aK):d.q f h c=0:=by
 unfold Day.q;rw[ag G,ag J]
theorem Mz (h:¬ C c.aK):d.q f (d.cap f g C) c=d.q f g c:=by
 unfold Day.q Day.cap;rw[ag h]
theorem IM (h:C c.aK):d.q f (d.cap f g C) c=if c.bP<f c.aK then c.am else 0:=by
 by_cases G:c.bP<f c.aK
 ·rw[ad G,Day.ax7 G]
 ·rw[ag G]
  by_cases J:c.bP=f c.aK
  ·rw[Day.ax8 J];unfold Day.cap;rw[ad h,J,wv (by grind),sn]
  ·rw[Day.ax9 G J]
end
structure Inv (d:Day) (f:Nat->Nat) (g:Nat->Rat):Prop where
 le:∀i,f i<=10
 sup:∀i,i<d.n->d.eZ (d.q f g) i<=g i
 cY:∀i,i<d.n->f i<10->d.bI i (f i)<=g i
 Q:∀i,i<d.n->f i<10->g i<d.bI i (f i+1)
 dI:∀C:Nat->Prop,(∃i,C i)->(∀i,C i->i<d.n/\f i<10)->d.closed f C->d.ha C (d.eZ (d.q f (d.cap f g C)))<d.ha C λi=>d.bI i (f i)
theorem Inv.pW {d:Day}{f:Nat->Nat}{g:Nat->Rat}(h:Inv d f g){i:Nat}(Q:i<d.n)(aC:f i<10):0<d.S i (f i):=by
 have G:=h.cY i Q aC;have J:=h.Q i Q aC;rw[d.xO] at J;grind
theorem Inv.start {d:Day}(ab:d.dO):Inv d (λ_=>10) (d.eZ λc=>c.am) :=
 ⟨λ_=>cH _,λi _=>d.FB (λc H=>by
  unfold Day.q;rw[ad (ab.bP c H)];exact gX) i,λi _ h=>absurd h (by omega),λi _ h=>absurd h (by omega),λC ⟨i,Q⟩ h=>absurd (h i Q).2 (by omega)⟩
theorem Inv.ajV {d:Day}{f:Nat->Nat}{g:Nat->Rat}(Q:Inv d f g)(ab:d.dO){C:Nat->Prop}(G:∃i,C i)(J:∀i,C i->i<d.n/\f i<10)(af:d.closed f C)(c5:ef->Rat)(e:Nat->Rat)(he:∀k,k<d.n->C k->0<=e k)
  (fP:∀c∈d.dI,rv C c->c5 c<=d.q f (d.cap f g C) c+if C c.aK/\c.bP=f c.aK then d.w c*e c.aK else 0):d.ha C (d.eZ c5)<d.ha C λi=>d.bI i (f i)+e i:=by
 have cB:=Q.dI C G J af;have kH:∀i,C i->i<d.n:=λi h=>(J i h).1;have dA:=ab.Mx C f (λk L=>Q.pW (J k L).1 (J k L).2) e;rw[Day.aaA kH] at cB ⊢;rw[Day.ax6]
 have ek:b3 d.dI (λc=>if rv C c then c5 c else 0)<=b3 d.dI λc=>(if rv C c then d.q f (d.cap f g C) c else 0)+(if C c.aK/\c.bP=f c.aK then d.w c*e c.aK else 0):=by
  refine Fz λc H=>?_
  have ax:0<=if C c.aK/\c.bP=f c.aK then d.w c*e c.aK else 0:=by
   split
   ·exact uY (ab.ry H) (he _ (ab.aK c H) (by rename_i h;exact h.1))
   ·exact gX
  by_cases cI:rv C c
  ·rw[ad cI,ad cI];exact fP c H cI
  ·rw[ag cI,ag cI];grind
 rw[Rr,dA] at ek;have gQ:d.ha C e=cJ d.n λk=>if C k then e k else 0:=rfl;rw[<-gQ] at ek;grind
structure iA (d:Day) (f:Nat->Nat) (g:Nat->Rat) (P:Nat->Prop) (h:Nat->Rat):Prop where
 ez:∀i,P i->i<d.n/\f i<10
 aaC:∀C:Nat->Prop,(∃i,C i)->(∀i,C i->P i)->¬ d.closed f C
 sys:∀i,i<d.n->h i=d.eZ (d.l f P h) i
 le:∀i,i<d.n->h i<=g i
 ge:∀i,P i->d.bI i (f i)<h i
theorem GP {d:Day}{f:Nat->Nat}{g:Nat->Rat}(Q:Inv d f g)(ab:d.dO){P:Nat->Prop}(fi:∀i,P i->i<d.n/\f i<10)(bS:∀C:Nat->Prop,(∃i,C i)->(∀i,C i->P i)->¬ d.closed f C)(x:Nat->Rat)
  (M:∀i,i<d.n->(b3 d.dI λc=>if c.to=(i:Int) then (if c.bP=f c.aK/\P c.aK then d.w c*x c.aK else 0) else 0)<=x i):∀i,i<d.n->0<=x i:=by
 have key:∀i,P i->0<=x i:=by
  intro i0 s5;apply nt;intro mr;obtain⟨C,uZ⟩:∃C:Nat->Prop,∀i,C i↔P i/\x i<0:=⟨λi=>P i/\x i<0,λ_=>Iff.rfl⟩;have kH:∀i,C i->i<d.n:=λi h=>(fi i ((uZ i).1 h).1).1;refine bS C ⟨i0,(uZ i0).2 ⟨s5,by grind⟩⟩ (λi h=>((uZ i).1 h).1) ?_
  have av:=aat C kH d.dI λc=>if c.bP=f c.aK/\P c.aK then d.w c*x c.aK else 0;have aB:=ab.Mx C f (λk L=>Q.pW (fi k ((uZ k).1 L).1).1 (fi k ((uZ k).1 L).1).2) x
  have bp:cJ d.n (λi=>if C i then b3 d.dI (λc=>if c.to=(i:Int) then (if c.bP=f c.aK/\P c.aK then d.w c*x c.aK else 0) else 0) else 0)<=cJ d.n (λk=>if C k then x k else 0):=by
   refine Mu λk L=>?_
   by_cases H:C k
   ·rw[ad H,ad H];exact M k L
   ·rw[ag H,ag H];exact gX
  rw[av,<-aB] at bp;have bM:=aar (l:=d.dI) (aR:=λc=>(if rv C c then (if c.bP=f c.aK/\P c.aK then d.w c*x c.aK else 0) else 0)-(if C c.aK/\c.bP=f c.aK then d.w c*x c.aK else 0)) (λc H=>?_) (by rw[Mt];grind)
  ·intro c H gY kd xQ;apply nt;intro cI;have:=bM c H
   try dsimp only at this
   rw[ag cI,ad ⟨gY,kd⟩] at this;have G:=ab.aay H xQ;have J:=((uZ _).1 gY).2;have af:0<d.w c*(-x c.aK):=Mw G (by grind);grind
  ·try dsimp only
   have G:=ab.ry H
   have kp:((if C c.aK/\c.bP=f c.aK then d.w c*x c.aK else 0)=(if c.bP=f c.aK/\P c.aK then d.w c*x c.aK else 0)/\(if C c.aK/\c.bP=f c.aK then d.w c*x c.aK else 0)<=0)\/((if C c.aK/\c.bP=f c.aK then d.w c*x c.aK else 0)=0/\0<=(if c.bP=f c.aK/\P c.aK then d.w c*x c.aK else 0)):=by
    by_cases gY:C c.aK/\c.bP=f c.aK
    ·left
     have J:=(uZ _).1 gY.1;have af:0<=d.w c*(-x c.aK):=uY G (by have:=J.2;grind);have aT:c.bP=f c.aK/\P c.aK:=⟨gY.2,J.1⟩;rw[ad gY,ad aT];exact⟨rfl,by grind⟩
    ·right
     rw[ag gY];refine⟨rfl,?_⟩
     split
     ·rename_i J;refine uY G ?_;apply nt;intro h;exact gY ⟨(uZ _).2 ⟨J.2,by grind⟩,J.1⟩
     ·exact gX
   generalize (if C c.aK/\c.bP=f c.aK then d.w c*x c.aK else 0)=B at *;generalize (if c.bP=f c.aK/\P c.aK then d.w c*x c.aK else 0)=A at *;rcases kp with ⟨J,af⟩|⟨J,af⟩<;>split<;>grind
 intro i cI;refine xR ?_ (M i cI);refine zn λc H=>?_
 split
 ·split
  ·rename_i h;exact uY (ab.ry H) (key _ h.2)
  ·exact gX
 ·exact gX
theorem aya {d:Day}{f:Nat->Nat}{g:Nat->Rat}(Q:Inv d f g)(ab:d.dO){P:Nat->Prop}(fi:∀i,P i->i<d.n/\f i<10)(bS:∀C:Nat->Prop,(∃i,C i)->(∀i,C i->P i)->¬ d.closed f C)(x:Nat->Rat)
  (M:∀i,i<d.n->x i=b3 d.dI λc=>if c.to=(i:Int) then (if c.bP=f c.aK/\P c.aK then d.w c*x c.aK else 0) else 0):∀i,i<d.n->x i=0:=by
 intro i cI;have G:=GP Q ab fi bS x (λi cI=>IG (M i cI).symm) i cI;have J:=GP Q ab fi bS (λi => -x i) (λi cI=>?_) i cI
 ·grind
 ·rw[M i cI];refine IG ?_;have:∀aR:ef->Rat,-(b3 d.dI aR)=b3 d.dI λc=>(-1)*aR c:=λaR=>by rw[Rs];grind
  rw[this];refine wu λc H=>?_
  split
  ·split<;>grind
  ·grind
theorem Day.ayb {d:Day}(ab:d.dO){f:Nat->Nat}{P:Nat->Prop}{h g:Nat->Rat}(hle:∀i,i<d.n->h i<=g i){c:ef}(H:c∈d.dI):d.l f P h c<=d.q f g c:=by
 unfold Day.l Day.q
 by_cases G:c.bP<f c.aK
 ·rw[ad G,ad G];exact gX
 ·rw[ag G,ag G]
  by_cases J:c.bP=f c.aK
  ·rw[ad J];have hw:=ab.ry H
   by_cases af:P c.aK
   ·rw[ad ⟨J,af⟩];refine FA hw (xR ?_ (Ru _));have:=hle _ (ab.aK c H);grind
   ·rw[ag λh=>af h.2];exact uY hw (IL _)
  ·rw[ag λh=>J h.1,ag J];exact gX
theorem iA.start {d:Day}(ab:d.dO){f:Nat->Nat}{g:Nat->Rat}(Q:Inv d f g){h:Nat->Rat}(U:∀i,i<d.n->h i=d.eZ (d.l f (λ_=>False) h) i):iA d f g (λ_=>False) h :=
 ⟨λi h=>h.elim,λC ⟨i,h⟩ cW=>(cW i h).elim,U,λi cI=>by
  rw[U i cI];refine xR (d.FB (b:=d.q f g) (λc H=>?_) i) (Q.sup i cI);unfold Day.l Day.q
  by_cases G:c.bP<f c.aK
  ·rw[ad G,ad G];exact gX
  ·rw[ag G,ag G,ag λh=>h.2]
   split
   ·exact uY (ab.ry H) (IL _)
   ·exact gX,λi h=>h.elim⟩
def tz (d:Day)(f:Nat->Nat)(P:Nat->Prop)(h:Nat->Rat)(i:Nat):Prop:=P i\/(i<d.n/\f i<10/\d.bI i (f i)<h i)
theorem iA.IP {d:Day}{f:Nat->Nat}{g:Nat->Rat}{P:Nat->Prop}{h:Nat->Rat}(aF:iA d f g P h):∀i,tz d f P h i->i<d.n/\f i<10:=λi aM=>aM.elim (aF.ez i) λh=>⟨h.1,h.2.1⟩
theorem iA.aaD {d:Day}{f:Nat->Nat}{g:Nat->Rat}{P:Nat->Prop}{h:Nat->Rat}(aF:iA d f g P h):∀i,tz d f P h i->d.bI i (f i)<h i:=λi aM=>aM.elim (aF.ge i) λh=>h.2.2
theorem iA.ajW {d:Day}(ab:d.dO){f:Nat->Nat}{g:Nat->Rat}(Q:Inv d f g){P:Nat->Prop}{h:Nat->Rat}(aF:iA d f g P h):∀C:Nat->Prop,(∃i,C i)->(∀i,C i->tz d f P h i)->¬ d.closed f C:=by
 intro C G J af;have aC:∀i,C i->i<d.n/\f i<10:=λi H=>aF.IP i (J i H)
 have iI:=Q.ajV ab G aC af (d.l f P h) (λk=>if P k then h k-d.bI k (f k) else 0) (λk _ L=>by
  try dsimp only
  split
  ·have:=aF.ge k (by assumption);grind
  ·exact gX) λc H _=>by
   by_cases ek:C c.aK
   ·rw[IM ek]
    by_cases cB:c.bP<f c.aK
    ·rw[Day.ajT cB,ad cB,ag (λh=>by have:=h.2;omega)];grind
    ·rw[ag cB]
     by_cases dA:c.bP=f c.aK
     ·have h2:C c.aK/\c.bP=f c.aK:=⟨ek,dA⟩;rw[ad h2]
      by_cases gQ:P c.aK
      ·rw[Day.ajU dA gQ,ad gQ,dA];grind
      ·rw[Day.aaB cB (λh=>gQ h.2),ag gQ];grind
     ·rw[Day.aaB cB (λh=>dA h.1),ag λh=>dA h.2];grind
   ·rw[Mz ek,ag λh=>ek h.1];have:=Day.ayb ab (P:=P) (f:=f) aF.le H;grind
 have e:d.ha C (d.eZ (d.l f P h))=d.ha C h:=Day.My λi cI _=>(aF.sys i cI).symm;rw[e] at iI
 have:d.ha C (λi=>d.bI i (f i)+if P i then h i-d.bI i (f i) else 0)<=d.ha C h:=by
  refine Day.ajS λi cI H=>?_;have:=aF.aaD i (J i H)
  split<;>grind
 grind
theorem iA.next {d:Day}(ab:d.dO){f:Nat->Nat}{g:Nat->Rat}(Q:Inv d f g){P:Nat->Prop}{h cW:Nat->Rat}(aF:iA d f g P h)(U:∀i,i<d.n->cW i=d.eZ (d.l f (tz d f P h) cW) i):iA d f g (tz d f P h) cW:=by
 have bS:=aF.ajW ab Q
 have nL:∀i,i<d.n->0<=cW i-h i:=by
  refine GP Q ab aF.IP bS (λi=>cW i-h i) λi cI=>?_;rw[U i cI,aF.sys i cI,d.aaz];refine Fz λc H=>?_;have hw:=ab.ry H
  split
  ·unfold Day.l
   by_cases G:c.bP<f c.aK
   ·rw[ad G,ad G,ag (by omega)];grind
   ·rw[ag G,ag G]
    by_cases J:c.bP=f c.aK
    ·by_cases af:tz d f P h c.aK
     ·rw[ad ⟨J,af⟩,ad ⟨J,af⟩]
      by_cases aT:P c.aK
      ·rw[ad ⟨J,aT⟩];grind
      ·rw[ag λh=>aT h.2];have bx:=aF.aaD _ af;have:=uY hw (show 0<=h c.aK-d.bI c.aK c.bP by rw[J];grind);grind
     ·rw[ag λh=>af h.2,ag λh=>af h.2,ag λh=>af (.inl h.2)];grind
    ·rw[ag λh=>J h.1,ag λh=>J h.1,ag λh=>J h.1];grind
  ·exact gX
 have hle:∀i,i<d.n->0<=g i-cW i:=by
  refine GP Q ab aF.IP bS (λi=>g i-cW i) λi cI=>?_;refine xR ?_ (show d.eZ (d.q f g) i-cW i<=g i-cW i by have:=Q.sup i cI;grind);rw[U i cI,d.aaz];refine Fz λc H=>?_;have hw:=ab.ry H
  split
  ·unfold Day.l Day.q
   by_cases G:c.bP<f c.aK
   ·rw[ad G,ad G,ag (by omega)];grind
   ·rw[ag G,ag G]
    by_cases J:c.bP=f c.aK
    ·rw[ad J]
     by_cases af:tz d f P h c.aK
     ·rw[ad ⟨J,af⟩,ad ⟨J,af⟩];have:=FA hw (Ru (g c.aK-d.bI c.aK c.bP));grind
     ·rw[ag λh=>af h.2,ag λh=>af h.2];have:=uY hw (IL (g c.aK-d.bI c.aK c.bP));grind
    ·rw[ag λh=>J h.1,ag J,ag λh=>J h.1];grind
  ·exact gX
 exact⟨aF.IP,bS,U,λi cI=>by have:=hle i cI;grind,λi aM=>by
  have G:=aF.aaD i aM;have J:=nL i (aF.IP i aM).1;grind⟩
theorem iA.stop {d:Day}(ab:d.dO){f:Nat->Nat}{g:Nat->Rat}{P:Nat->Prop}{h:Nat->Rat}(aF:iA d f g P h)(Q:Inv d f g)(ayc:∀i,i<d.n->f i<10->d.bI i (f i)<h i->P i):∀i,i<d.n->h i=d.eZ (d.q f h) i:=by
 intro i cI;rw[aF.sys i cI];refine d.ajR (λc H=>?_) i;unfold Day.l Day.q
 by_cases G:c.bP<f c.aK
 ·rw[ad G,ad G]
 ·rw[ag G,ag G]
  by_cases J:c.bP=f c.aK
  ·rw[ad J]
   by_cases af:P c.aK
   ·rw[ad ⟨J,af⟩,zo];have:=aF.ge _ af;rw[J];grind
   ·rw[ag λh=>af h.2,wv]
    ·grind
    ·apply nt;intro aM;refine af (ayc _ (ab.aK c H) (by rw[<-J];exact ab.bP c H) ?_);rw[<-J];grind
  ·rw[ag λh=>J h.1,ag J]
end Go.Mini
namespace Go.Mini
open Classical
def Day.la (d:Day)(h:Nat->Rat)(c:ef):Rat:=if d.bI c.aK (c.bP+1)<=h c.aK then c.am else d.w c*pos (h c.aK-d.bI c.aK c.bP)
theorem Day.dO.Rv {d:Day}(ab:d.dO){c:ef}(H:c∈d.dI){x:Rat}(h:x<=d.S c.aK c.bP):d.w c*x<=c.am:=by
 have ax:=ab.am c H;have G:=ab.aaw H
 by_cases dh:0<d.S c.aK c.bP
 ·have:=FA (ab.ry H) h;rw[Day.IK dh] at this;exact this
 ·rw[Day.Fk (by grind),Bh];exact ax
theorem Day.dO.aaE {d:Day}(ab:d.dO)(h:Nat->Rat){c:ef}(H:c∈d.dI):d.la h c<=c.am:=by
 unfold Day.la
 split
 ·exact gX
 ·rename_i aM;refine ab.Rv H ?_;rw[d.xO] at aM;have:=ab.Rt c.aK c.bP;unfold pos
  split<;>grind
theorem Day.dO.ajX {d:Day}(ab:d.dO)(h:Nat->Rat){c:ef}(H:c∈d.dI):0<=d.la h c:=by
 unfold Day.la
 split
 ·exact ab.am c H
 ·exact uY (ab.ry H) (IL _)
theorem Day.dO.Rw {d:Day}(ab:d.dO)(f:Nat->Nat)(h:Nat->Rat){c:ef}(H:c∈d.dI):0<=d.q f h c:=by
 unfold Day.q
 split
 ·exact ab.am c H
 ·split
  ·exact uY (ab.ry H) (IL _)
  ·exact gX
theorem Day.dO.aaF {d:Day}(ab:d.dO){a:ef->Rat}(h:∀c∈d.dI,0<=a c){i:Nat}(Q:i<d.n):0<=d.eZ a i:=by
 unfold Day.eZ;have G:=ab.E i Q
 have:=zn (l:=d.dI) (aR:=λc=>if c.to=(i:Int) then a c else 0) λc H=>by
  try dsimp only
  split
  ·exact h c H
  ·exact gX
 grind
theorem Day.dO.ajY {d:Day}(ab:d.dO){f:Nat->Nat}{h g:Nat->Rat}{c:ef}(H:c∈d.dI)(hle:h c.aK<=g c.aK):d.q f h c<=d.q f g c:=by
 unfold Day.q
 split
 ·exact gX
 ·split
  ·exact FA (ab.ry H) (ajQ (by grind))
  ·exact gX
def aaG (d:Day)(f:Nat->Nat)(h:Nat->Rat)(hh:Nat->Nat):Prop:=(∀i,hh i<=10)/\(∀i,i<d.n->h i<d.bI i (f i)->hh i<f i/\d.bI i (hh i)<=h i/\h i<d.bI i (hh i+1))/\∀i,i<d.n->d.bI i (f i)<=h i->hh i=f i
theorem aaH {d:Day}(ab:d.dO){f hh:Nat->Nat}{h:Nat->Rat}(aC:aaG d f h hh){c:ef}(H:c∈d.dI):d.q hh h c<=d.q f h c:=by
 obtain⟨-,G,J⟩:=aC;have bD:=ab.aK c H
 by_cases dG:h c.aK<d.bI c.aK (f c.aK)
 ·obtain⟨cB,dA,ek⟩:=G _ bD dG;unfold Day.q
  by_cases eF:c.bP<hh c.aK
  ·rw[ad eF,ad (by omega)];exact gX
  ·rw[ag eF]
   by_cases eU:c.bP=hh c.aK
   ·rw[ad eU,ad (by omega)];rw[<-eU] at dA ek;rw[d.xO] at ek;exact ab.Rv H (by rw[zo (by grind)];grind)
   ·rw[ag eU];exact ab.Rw f h H
 ·have:=J _ bD (by grind);unfold Day.q;rw[this];exact gX
theorem Inv.aaI {d:Day}(ab:d.dO){f hh:Nat->Nat}{g h:Nat->Rat}(Q:Inv d f g)(Da:∀i,i<d.n->h i=d.eZ (d.q f h) i)(hle:∀i,i<d.n->h i<=g i)(aC:aaG d f h hh):Inv d hh h:=by
 have iu:∀i,i<d.n->hh i<10->d.bI i (hh i)<=h i:=by
  intro i cI zl
  by_cases dG:h i<d.bI i (f i)
  ·exact (aC.2.1 i cI dG).2.1
  ·rw[aC.2.2 i cI (by grind)];grind
 have jQ:∀i,i<d.n->hh i<10->h i<d.bI i (hh i+1):=by
  intro i cI zl
  by_cases dG:h i<d.bI i (f i)
  ·exact (aC.2.1 i cI dG).2.2
  ·have e:=aC.2.2 i cI (by grind);rw[e] at zl ⊢;have:=Q.Q i cI zl;have:=hle i cI;grind
 have dh:∀i,i<d.n->hh i<10->0<d.S i (hh i):=by
  intro i cI zl;have G:=iu i cI zl;have J:=jQ i cI zl;rw[d.xO] at J;grind
 refine⟨aC.1,λi cI=>?_,iu,jQ,λC G J af=>?_⟩
 ·exact xR (d.FB (λc H=>aaH ab aC H) i) (IG (Da i cI).symm)
 ·have kH:∀i,C i->i<d.n:=λi H=>(J i H).1
  by_cases hex:∃k,C k/\h k<d.bI k (f k)
  ·obtain⟨ev,rZ,dG⟩:=hex;have ajZ:=kH ev rZ;obtain⟨c0,ee,gz⟩:=aC.2.1 ev ajZ dG;have pM:=dh ev ajZ (J ev rZ).2;obtain⟨h3,ix,iQ⟩:=aas pM
   have ayd:h3.aK=ev/\h3.bP=hh ev/\0<h3.am:=by
    by_cases aY:h3.aK=ev/\h3.bP=hh ev
    ·rw[ad aY] at iQ;exact⟨aY.1,aY.2,iQ⟩
    ·rw[ag aY] at iQ;exact absurd iQ (by grind)
   obtain⟨cE,cO,ei⟩:=ayd;have av:=Day.aaA kH (d.q f h);have aB:=Day.aaA kH (d.q hh (d.cap hh h C));have bp:d.ha C (d.eZ (d.q f h))=d.ha C h:=Day.My λi cI _=>(Da i cI).symm;have bM:=ab.Mx C hh (λk L=>dh k (kH k L) (J k L).2) λk=>h k-d.bI k (hh k);have dw:d.ha C (λk=>h k-d.bI k (hh k))=cJ d.n λk=>if C k then h k-d.bI k (hh k) else 0:=rfl;rw[<-dw,d.ax5] at bM
   have bH:b3 d.dI (λc=>(if rv C c then d.q hh (d.cap hh h C) c else 0)+(if C c.aK/\c.bP=hh c.aK then d.w c*(h c.aK-d.bI c.aK (hh c.aK)) else 0))<b3 d.dI (λc=>if rv C c then d.q f h c else 0):=by
    refine ax2 (λc H=>?_) ix ?_
    ·have bD:=ab.aK c H
     by_cases cI:rv C c
     ·rw[ad cI,ad cI]
      by_cases gY:C c.aK
      ·rw[IM gY]
       by_cases eF:c.bP<hh c.aK
       ·rw[ad eF,ag (by omega)]
        have:c.bP<f c.aK:=by
         by_cases dG:h c.aK<d.bI c.aK (f c.aK)
         ·have:=(aC.2.1 _ bD dG).1;omega
         ·rw[<-aC.2.2 _ bD (by grind)];exact eF
        unfold Day.q;rw[ad this];grind
       ·rw[ag eF]
        by_cases eU:c.bP=hh c.aK
        ·rw[ad ⟨gY,eU⟩]
         by_cases dG:h c.aK<d.bI c.aK (f c.aK)
         ·obtain⟨cB,dA,ek⟩:=aC.2.1 _ bD dG;unfold Day.q;rw[ad (by omega)];rw[d.xO] at ek;have:=ab.Rv H (x:=h c.aK-d.bI c.aK (hh c.aK)) (by rw[eU];grind);grind
         ·have e:=aC.2.2 _ bD (by grind);rw[e] at eF eU ⊢;unfold Day.q;rw[ag eF,ad eU,<-eU];have:=FA (ab.ry H) (Ru (h c.aK-d.bI c.aK c.bP));grind
        ·rw[ag λh=>eU h.2];have:=ab.Rw f h H;grind
      ·rw[Mz gY,ag λh=>gY h.1];have:=aaH ab aC H;grind
     ·rw[ag cI,ag cI]
      by_cases gY:C c.aK/\c.bP=hh c.aK
      ·rw[ad gY]
       have:c.am=0:=by
        have ax:=ab.am c H
        by_cases aF:0<c.am
        ·exact absurd (af c H gY.1 gY.2 aF) cI
        ·grind
       rw[Day.Fk this];grind
      ·rw[ag gY];grind
    ·have gY:C h3.aK:=by rw[cE];exact rZ
     have kd:h3.bP=hh h3.aK:=by rw[cE];exact cO
     have cI:=af h3 ix gY kd ei;rw[ad cI,ad cI,IM gY,ag (by omega),ad ⟨gY,kd⟩];unfold Day.q;rw[ad (by rw[cE];omega)];have hw:=ab.aay ix ei;have WR:=d.IK (c:=h3) (by rw[cE,cO];exact pM);rw[d.xO] at gz;rw[<-cE,<-kd] at gz;rw[<-kd];have:0<d.w h3*(d.S h3.aK h3.bP-(h h3.aK-d.bI h3.aK h3.bP)):=Mw hw (by rw[cE] at gz ⊢;grind);grind
   rw[Rr,bM] at bH;grind
  ·have sO:∀k,C k->hh k=f k:=λk L=>aC.2.2 k (kH k L) (by
    apply nt;intro aM;exact hex ⟨k,L,by grind⟩)
   have cB:=Q.dI C G (λi H=>⟨kH i H,by rw[<-sO i H];exact (J i H).2⟩) (λc H gY kd xQ=>af c H gY (by rw[sO _ gY];exact kd) xQ);have dA:d.ha C (λi=>d.bI i (hh i))=d.ha C λi=>d.bI i (f i):=Day.My λi _ H=>by rw[sO i H]
   rw[dA]
   have ek:d.ha C (d.eZ (d.q hh (d.cap hh h C)))<=d.ha C (d.eZ (d.q f (d.cap f g C))):=by
    refine Day.ajS λi _ _=>d.FB (λc H=>?_) i
    by_cases gY:C c.aK
    ·rw[IM gY,IM gY,sO _ gY];exact gX
    ·rw[Mz gY,Mz gY];exact xR (aaH ab aC H) (ab.ajY H (hle _ (ab.aK c H)))
   grind
def Day.FC (d:Day)(h:Nat->Rat)(i:Nat):Rat:=d.eZ (d.la h) i
theorem aye {d:Day}(ab:d.dO){f:Nat->Nat}{g z:Nat->Rat}(Q:Inv d f g)(a3:∀i,i<d.n->z i<=g i){c:ef}(H:c∈d.dI):d.la z c<=d.q f z c:=by
 have bD:=ab.aK c H;have kd:=ab.bP c H;unfold Day.q
 by_cases eF:c.bP<f c.aK
 ·rw[ad eF];exact ab.aaE z H
 ·rw[ag eF];have dS:f c.aK<10:=by omega
  have G:=Q.Q _ bD dS;have J:=a3 _ bD
  by_cases eU:c.bP=f c.aK
  ·rw[ad eU];unfold Day.la;rw[ag (by rw[eU];grind)];exact gX
  ·rw[ag eU];have af:=ab.xP c.aK (r:=f c.aK+1) (s:=c.bP) (by omega);have aT:=ab.xP c.aK (r:=c.bP) (s:=c.bP+1) (by omega);unfold Day.la;rw[ag (by grind),wv (by grind),sn];exact gX
theorem Inv.aaJ {d:Day}(ab:d.dO){f:Nat->Nat}{g h z:Nat->Rat}(Q:Inv d f g)(Da:∀i,i<d.n->h i=d.eZ (d.q f h) i)(hle:∀i,i<d.n->h i<=g i)(a3:∀i,i<d.n->z i<=d.eZ (d.q f z) i):∀i,i<d.n->z i<=h i:=by
 intro i0 s5;apply nt;intro mr;obtain⟨C,uZ⟩:∃C:Nat->Prop,∀i,C i↔i<d.n/\h i<z i:=⟨λi=>i<d.n/\h i<z i,λ_=>Iff.rfl⟩;obtain⟨IQ,Bi⟩:∃ayf:Nat->Prop,∀i,ayf i↔C i/\f i<10:=⟨λi=>C i/\f i<10,λ_=>Iff.rfl⟩;have kH:∀i,C i->i<d.n:=λi h=>((uZ i).1 h).1;have IU:∀i,C i->h i<z i:=λi h=>((uZ i).1 h).2;have b6:∃i,C i:=⟨i0,(uZ i0).2 ⟨s5,by grind⟩⟩
 have av:=aat C kH d.dI λc=>d.q f z c-d.q f h c;have aB:=ab.Mx IQ f (λk L=>Q.pW (kH k ((Bi k).1 L).1) ((Bi k).1 L).2) λk=>z k-h k
 have bp:d.ha C (λi=>z i-h i)<=cJ d.n λi=>if C i then b3 d.dI (λc=>if c.to=(i:Int) then d.q f z c-d.q f h c else 0) else 0:=by
  refine Mu λk L=>?_
  by_cases H:C k
  ·rw[ad H,ad H,<-d.aaz,<-Da k L];have G:=a3 k L;grind
  ·rw[ag H,ag H];exact gX
 rw[av] at bp
 have bM:cJ d.n (λk=>if IQ k then z k-h k else 0)<=d.ha C (λi=>z i-h i):=by
  refine Mu λk L=>?_
  by_cases H:C k
  ·rw[ad H];have:=IU k H
   split<;>grind
  ·rw[ag H,ag λh=>H ((Bi k).1 h).1];exact gX
 have aj0:∀c∈d.dI,0<=(if IQ c.aK/\c.bP=f c.aK then d.w c*(z c.aK-h c.aK) else 0)-(if rv C c then d.q f z c-d.q f h c else 0):=by
  intro c H;have hw:=ab.ry H;have bD:=ab.aK c H;have kd:=ab.bP c H
  by_cases G:IQ c.aK/\c.bP=f c.aK
  ·rw[ad G];have J:0<=d.w c*(z c.aK-h c.aK):=uY hw (by have:=IU _ ((Bi _).1 G.1).1;grind)
   have af:d.q f z c-d.q f h c<=d.w c*(z c.aK-h c.aK):=by
    unfold Day.q;rw[ag (by omega),ad G.2,ag (by omega),ad G.2]
    have aT:pos (z c.aK-d.bI c.aK c.bP)-pos (h c.aK-d.bI c.aK c.bP)<=z c.aK-h c.aK:=by
     have:=IU _ ((Bi _).1 G.1).1;unfold pos
     split<;>split<;>grind
    have:=FA hw aT;grind
   split<;>grind
  ·rw[ag G]
   have af:d.q f z c-d.q f h c<=0:=by
    unfold Day.q
    by_cases eF:c.bP<f c.aK
    ·rw[ad eF,ad eF];grind
    ·rw[ag eF,ag eF]
     by_cases eU:c.bP=f c.aK
     ·rw[ad eU,ad eU]
      have aT:z c.aK<=h c.aK:=by
       apply nt;intro aM;exact G ⟨(Bi _).2 ⟨(uZ _).2 ⟨bD,by grind⟩,by omega⟩,eU⟩
      have:=FA hw (ajQ (show z c.aK-d.bI c.aK c.bP<=h c.aK-d.bI c.aK c.bP by grind));grind
     ·rw[ag eU,ag eU];grind
   split<;>grind
 have ayg:=aar aj0 (by rw[Mt,aB];grind)
 have aaK:∀k,C k->f k<10:=by
  have:cJ d.n (λk=>(if C k then z k-h k else 0)-(if IQ k then z k-h k else 0))<=0:=by
   rw[Mv];have:0<=b3 d.dI λc=>(if IQ c.aK/\c.bP=f c.aK then d.w c*(z c.aK-h c.aK) else 0)-(if rv C c then d.q f z c-d.q f h c else 0):=zn aj0;rw[Mt,aB] at this;have bx:d.ha C (λi=>z i-h i)=cJ d.n λk=>if C k then z k-h k else 0:=rfl;grind
  have aM:=ax3 (λk L=>by
   try dsimp only
   by_cases H:C k
   ·rw[ad H];have:=IU k H
    split<;>grind
   ·rw[ag H,ag λh=>H ((Bi k).1 h).1];grind) this
  intro k L;apply nt;intro dS;have:=aM k (kH k L)
  try dsimp only at this
  rw[ad L,ag λh=>dS ((Bi k).1 h).2] at this;have:=IU k L;grind
 have cI:∀c∈d.dI,C c.aK->c.bP=f c.aK->0<c.am->rv C c/\d.bI c.aK c.bP<=h c.aK:=by
  intro c H gY kd xQ;have ax:=ayg c H;have hw:=ab.aay H xQ;have az:=IU _ gY
  try dsimp only at ax
  rw[ad ⟨(Bi _).2 ⟨gY,aaK _ gY⟩,kd⟩] at ax
  by_cases cI:rv C c
  ·refine⟨cI,?_⟩;rw[ad cI] at ax;unfold Day.q at ax;rw[ag (by omega),ad kd,ag (by omega),ad kd] at ax;apply nt;intro aM;rw[wv (x:=h c.aK-d.bI c.aK c.bP) (by grind)] at ax
   have aT:0<z c.aK-h c.aK-pos (z c.aK-d.bI c.aK c.bP):=by
    unfold pos
    split<;>grind
   have:=Mw hw aT;grind
  ·rw[ag cI] at ax;have:0<d.w c*(z c.aK-h c.aK):=Mw hw (by grind);grind
 have ns:∀k,C k->d.bI k (f k)<=h k:=by
  intro k L;have U:=Q.pW (kH k L) (aaK k L);obtain⟨h3,ix,iQ⟩:=aas U
  by_cases aY:h3.aK=k/\h3.bP=f k
  ·rw[ad aY] at iQ;have:=(cI h3 ix (by rw[aY.1];exact L) (by rw[aY.1];exact aY.2) iQ).2;rwa [aY.1,aY.2] at this
  ·rw[ag aY] at iQ;exact absurd iQ (by grind)
 have iI:=Q.ajV ab b6 (λi H=>⟨kH i H,aaK i H⟩) (λc H gY kd xQ=>(cI c H gY kd xQ).1) (d.q f h) (λk=>h k-d.bI k (f k)) (λk _ L=>by have:=ns k L;grind) λc H _=>by
  by_cases gY:C c.aK
  ·rw[IM gY];unfold Day.q
   by_cases eF:c.bP<f c.aK
   ·rw[ad eF,ad eF,ag (by omega)];grind
   ·rw[ag eF,ag eF]
    by_cases eU:c.bP=f c.aK
    ·rw[ad eU,ad ⟨gY,eU⟩,eU,zo (by have:=ns _ gY;grind)];grind
    ·rw[ag eU,ag λh=>eU h.2];grind
  ·rw[Mz gY,ag λh=>gY h.1];have:=ab.ajY (f:=f) H (hle _ (ab.aK c H));grind
 have b0:d.ha C (d.eZ (d.q f h))=d.ha C h:=Day.My λi cI _=>(Da i cI).symm;have bV:d.ha C (λi=>d.bI i (f i)+(h i-d.bI i (f i)))=d.ha C h:=Day.My λi _ _=>by grind
 rw[b0,bV] at iI;exact absurd iI (by grind)
theorem Inv.final {d:Day}(ab:d.dO){f:Nat->Nat}{g h:Nat->Rat}(Q:Inv d f g)(Da:∀i,i<d.n->h i=d.eZ (d.q f h) i)(hle:∀i,i<d.n->h i<=g i)(gw:∀i,i<d.n->d.bI i (f i)<=h i):(∀i,i<d.n->h i=d.FC h i)/\∀i,i<d.n->(f i<10↔h i<d.bI i 10):=by
 constructor
 ·intro i cI;rw[Da i cI];unfold Day.FC;have:∀j,j<d.n->h j=d.eZ (d.q f h) j:=Da;refine d.ajR (λc H=>?_) i;have bD:=ab.aK c H;have kd:=ab.bP c H;have ax:=gw _ bD;unfold Day.q Day.la
  by_cases eF:c.bP<f c.aK
  ·have:=ab.xP c.aK (r:=c.bP+1) (s:=f c.aK) (by omega);rw[ad eF,ad (by grind)]
  ·rw[ag eF];have dS:f c.aK<10:=by omega
   have G:=Q.Q _ bD dS;have J:=hle _ bD
   by_cases eU:c.bP=f c.aK
   ·rw[ad eU,ag (by rw[eU];grind)]
   ·have af:=ab.xP c.aK (r:=f c.aK+1) (s:=c.bP) (by omega);have aT:=ab.xP c.aK (r:=c.bP) (s:=c.bP+1) (by omega);rw[ag eU,ag (by grind),wv (by grind),sn]
 ·intro i cI
  constructor
  ·intro dS;have G:=Q.Q _ cI dS;have J:=hle _ cI;have af:=ab.xP i (r:=f i+1) (s:=10) (by omega);grind
  ·intro G;apply nt;intro J;have af:=Q.le i;have aT:f i=10:=by omega
   have bx:=gw i cI;rw[aT] at bx;grind
end Go.Mini
namespace Go.Mini
open Classical
def nU (d:Day)(f:Nat->Nat)(h:Nat->Rat):Prop:=∃g,Inv d f g/\(∀i,i<d.n->h i=d.eZ (d.q f h) i)/\∀i,i<d.n->h i<=g i
theorem nU.unique {d:Day}(ab:d.dO){f:Nat->Nat}{h cW:Nat->Rat}(a:nU d f h)(b:nU d f cW):∀i,i<d.n->h i=cW i:=by
 obtain⟨g,G,J,af⟩:=a;obtain⟨eg,cB,dA,ek⟩:=b;intro i cI;have av:=G.aaJ ab J af (z:=cW) (λi Q=>IG (dA i Q)) i cI;have aB:=cB.aaJ ab dA ek (z:=h) (λi Q=>IG (J i Q)) i cI;grind
def Day.h4 (d:Day)(h:Nat->Rat)(i:Nat):Nat->Nat
 |0=>10
 |k+1=>if h i<d.bI i (10-(k+1)+1) then 10-(k+1) else Day.h4 d h i k
theorem aaL {d:Day}(ab:d.dO){h:Nat->Rat}{i:Nat}:∀k,k<=10->d.bI i (10-k)<=h i->(d.h4 h i k=10/\d.bI i 10<=h i)\/(10-k<=d.h4 h i k/\d.h4 h i k<10/\d.bI i (d.h4 h i k)<=h i/\h i<d.bI i (d.h4 h i k+1))
 |0,_,ax => .inl ⟨rfl,ax⟩
 |k+1,L,ax=>by
  unfold Day.h4
  by_cases G:h i<d.bI i (10-(k+1)+1)
  ·rw[ad G];exact .inr ⟨cH _,by omega,ax,G⟩
  ·rw[ag G];rcases aaL ab (h:=h) (i:=i) k (by omega) (by rw[show 10-k=10-(k+1)+1 by omega];grind) with e|⟨av,aB⟩
   ·exact .inl e
   ·exact .inr ⟨by omega,aB⟩
def Day.ez (d:Day)(f:Nat->Nat)(h:Nat->Rat)(i:Nat):Nat:=if i<d.n/\h i<d.bI i (f i) then d.h4 h i 10 else f i
theorem aaM {d:Day}(ab:d.dO){f:Nat->Nat}{h:Nat->Rat}(hle:∀i,f i<=10)(ax:∀i,i<d.n->0<=h i):aaG d f h (d.ez f h):=by
 have key:∀i,i<d.n->h i<d.bI i (f i)->d.h4 h i 10<f i/\d.bI i (d.h4 h i 10)<=h i/\h i<d.bI i (d.h4 h i 10+1):=by
  intro i cI dG;have hm:=ab.xP i (hle i);rcases aaL ab (h:=h) (i:=i) 10 (cH _) (by rw[jy,d.II];exact ax i cI) with ⟨-,e⟩|⟨-,av,aB,bp⟩
  ·grind
  ·refine⟨?_,aB,bp⟩;apply nt;intro aM;have:=ab.xP i (r:=f i) (s:=d.h4 h i 10) (by omega);grind
 refine⟨λi=>?_,λi cI dG=>?_,λi cI dG=>?_⟩
 ·unfold Day.ez
  split
  ·rename_i aY;have:=(key i aY.1 aY.2).1;have:=hle i;omega
  ·exact hle i
 ·unfold Day.ez;rw[ad ⟨cI,dG⟩];exact key i cI dG
 ·unfold Day.ez;rw[ag λaY=>by have:=aY.2;grind]
theorem nU.aaI {d:Day}(ab:d.dO){f:Nat->Nat}{h:Nat->Rat}(a:nU d f h):Inv d (d.ez f h) h:=by
 obtain⟨g,G,J,af⟩:=a;exact G.aaI ab J af (aaM ab G.le λi cI=>by rw[J i cI];exact ab.aaF (λc H=>ab.Rw f h H) cI)
theorem nU.Rx {d:Day}(ab:d.dO){f:Nat->Nat}{h:Nat->Rat}(a:nU d f h){i:Nat}(cI:i<d.n):0<=h i:=by
 obtain⟨g,G,J,af⟩:=a;rw[J i cI];exact ab.aaF (λc H=>ab.Rw f h H) cI
def Day.top (d:Day)(f:Nat->Nat):Nat->Rat:=if h:∃x,nU d f x then yG h else λ_=>0
def Day.eO (d:Day)(f:Nat->Nat):List Nat:=(eN d.n).filter λi=>decide (d.top f i<d.bI i (f i))
def Day.rounds (d:Day):Nat->(Nat->Nat)->List (List Nat)×(Nat->Nat)
 |0,f=>([],f)
 |k+1,f=>if d.eO f=[] then ([],f) else (d.eO f::(Day.rounds d k (d.ez f (d.top f))).1,(Day.rounds d k (d.ez f (d.top f))).2)
def Reach (d:Day)(f:Nat->Nat):Prop:=∃g,Inv d f g/\∀z,(∀i,i<d.n->z i<=d.FC z i)->∀i,i<d.n->z i<=g i
theorem Reach.start {d:Day}(ab:d.dO):Reach d λ_=>10:=⟨_,Inv.start ab,λz a3 i cI=>xR (a3 i cI) (d.FB (λ_ H=>ab.aaE z H) i)⟩
def jL:Nat->(Nat->Nat)->Nat
 |0,_=>0
 |n+1,f=>jL n f+f n
theorem ayh {n:Nat}{f g:Nat->Nat}(h:∀i,i<n->f i<=g i):jL n f<=jL n g:=by
 induction n with
 |zero=>exact cH _
 |succ n aN =>
  have:=aN λi Q=>h i (by omega);have:=h n (by omega);simp only[jL];omega
theorem aaN {n:Nat}{f g:Nat->Nat}(h:∀i,i<n->f i<=g i){j:Nat}(aA:j<n)(az:f j<g j):jL n f<jL n g:=by
 induction n with
 |zero=>omega
 |succ n aN =>
  have G:=h n (by omega);simp only[jL]
  by_cases ayi:j=n
  ·subst ayi;have:=ayh (n:=j) (f:=f) (g:=g) λi Q=>h i (by omega);omega
  ·have:=aN (λi Q=>h i (by omega)) (by omega);omega
theorem Day.zp {d:Day}{f:Nat->Nat}(h:∃x,nU d f x):nU d f (d.top f):=by
 unfold Day.top;rw[dif_pos h];exact q3 h
theorem Day.Db {d:Day}{f:Nat->Nat}{i:Nat}:i∈d.eO f↔i<d.n/\d.top f i<d.bI i (f i):=by
 unfold Day.eO;rw[aaO,iM,decide_eq_true_eq]
section
variable {d:Day} (ab:d.dO) (hex:∀f,Reach d f->∃h,nU d f h)
include ab hex
theorem ayj {f:Nat->Nat}(Y:Reach d f){z:Nat->Rat}(a3:∀i,i<d.n->z i<=d.FC z i):∀i,i<d.n->z i<=d.top f i:=by
 obtain⟨g,G,J,af⟩:=Day.zp (hex f Y);obtain⟨eg,cB,dA⟩:=Y;have ca:nU d f (d.top f):=⟨g,G,J,af⟩
 -- the end of the round below eg
 intro i cI;have Kj:=λk L=>xR (a3 k L) (d.FB (λ_ H=>aye ab cB (dA z a3) H) k);exact G.aaJ ab J af Kj i cI
theorem Reach.next {f:Nat->Nat}(Y:Reach d f):Reach d (d.ez f (d.top f)):=⟨d.top f,(Day.zp (hex f Y)).aaI ab,λz a3=>ayj ab hex Y a3⟩
theorem Ry {f:Nat->Nat}(Y:Reach d f)(b6:d.eO f≠[]):jL d.n (d.ez f (d.top f))<jL d.n f:=by
 obtain⟨i,Q⟩:=List.exists_mem_of_ne_nil _ b6;obtain⟨G,J⟩:=Day.Db.1 Q;have ca:=Day.zp (hex f Y);obtain⟨g,cB,-⟩:=ca;have aC:=aaM ab cB.le (h:=d.top f) λi cI=>(Day.zp (hex f Y)).Rx ab cI;refine aaN (λj aA=>?_) G (aC.2.1 i G J).1
 by_cases dG:d.top f j<d.bI j (f j)
 ·have:=(aC.2.1 j aA dG).1;omega
 ·rw[aC.2.2 j aA (by grind)];exact cH _
theorem aj1:∀k (f:Nat->Nat),Reach d f->jL d.n f<=k->Reach d (d.rounds k f).2/\d.eO (d.rounds k f).2=[]
 |0,f,Y,L=>by
  refine⟨Y,?_⟩;apply nt;intro b6;have:=Ry ab hex Y b6;omega
 |k+1,f,Y,L=>by
  unfold Day.rounds
  by_cases b6:d.eO f=[]
  ·rw[ad b6];exact⟨Y,b6⟩
  ·rw[ag b6];have:=Ry ab hex Y b6;exact aj1 k _ (Y.next ab hex) (by omega)
end
theorem Day.IV (d:Day){f:Nat->Nat}(h:d.eO f=[]):∀k,d.rounds k f=([],f)
 |0=>rfl
 |k+1=>by unfold Day.rounds;rw[ad h]
end Go.Mini
namespace Go.Mini
abbrev aG:=Int×Int×Int×Int
def l6 (n:Int)(c:aG):Bool:=decide (0<=c.1)&&decide (c.1<n)&&decide (-1<=c.2.1)&&decide (c.2.1<n)&&decide (0<=c.2.2.1)&&decide (c.2.2.1<10)&&decide (0<=c.2.2.2)&&decide (c.2.2.2<=1000000000000000)
def hk (E:List Int)(cs:List aG):Bool:=decide (D E<=60)&&decide (D cs<=2000)&&E.all (λx=>decide (0<=x)&&decide (x<=1000000000000000))&&cs.all (l6 (D E))
def cg (c:aG):ef:=⟨c.1.toNat,c.2.1,c.2.2.1.toNat,(c.2.2.2:Rat)⟩
def ao (E:List Int)(cs:List aG):Day:=⟨D E,λi=>((E.getD i 0:Int):Rat),cs.map cg⟩
theorem il {E:List Int}{cs:List aG}:hk E cs=true↔(D E)<=60/\D cs<=2000/\(∀x∈E,0<=x/\x<=1000000000000000)/\∀c∈cs,0<=c.1/\c.1<(D E) /\ -1<=c.2.1/\c.2.1<D E/\0<=c.2.2.1/\c.2.2.1<10/\0<=c.2.2.2/\c.2.2.2<=1000000000000000:=by
 unfold hk l6;simp only[fw,decide_eq_true_eq,List.all_eq_true,and_assoc]
theorem IW {E:List Int}{cs:List aG}(h:hk E cs=true):(ao E cs).dO:=by
 obtain⟨-,-,af,aT⟩:=il.1 h
 have H:∀x∈(ao E cs).dI,∃c∈cs,x=cg c:=λx M=>by
  obtain⟨c,H,rfl⟩:=fO.1 M;exact⟨c,H,rfl⟩
 refine⟨λx M=>?_,λx M=>?_,λx M=>?_,λx M=>?_,λi Q=>?_⟩
 ·obtain⟨c,H,rfl⟩:=H x M;have:=aT c H;show c.1.toNat<D E;omega
 ·obtain⟨c,H,rfl⟩:=H x M;have:=aT c H;show c.2.1<(D E:Int);omega
 ·obtain⟨c,H,rfl⟩:=H x M;have:=aT c H;show c.2.2.1.toNat<10;omega
 ·obtain⟨c,H,rfl⟩:=H x M;have:=(aT c H).2.2.2.2.2.2.1;show (0:Rat)<=(c.2.2.2:Rat);exact_mod_cast this
 ·show (0:Rat)<=((E.getD i 0:Int):Rat);have lR:i<D E:=Q
  have:0<=E.getD i 0:=by
   rw[ep,bq lR];exact (af _ (lq lR)).1
  exact_mod_cast this
def cF:List aG->(aG->Int)->Int
 | [],_=>0
 |c::l,aR=>aR c+cF l aR
def b4 (cs:List aG)(cr r:Int):Int:=cF cs λc=>if c.1=cr/\c.2.2.1<r then c.2.2.2 else 0
theorem Rz (cs:List aG)(aR:aG->Int)(bE:ef->Rat)(h:∀c∈cs,((aR c:Int):Rat)=bE (cg c)):((cF cs aR:Int):Rat)=b3 (cs.map cg) bE:=by
 induction cs with
 |nil=>rfl
 |cons c l aN=>rw[cF,ey,b3,Bj,h c g3,aN λx M=>h x (hO _ M)]
theorem FD {cs:List aG}{aR bE:aG->Int}(h:∀c∈cs,aR c=bE c):cF cs aR=cF cs bE:=by
 induction cs with
 |nil=>rfl
 |cons c l aN=>rw[cF,cF,h c g3,aN λx M=>h x (hO _ M)]
theorem RA {cs:List aG}{aR:aG->Int}{B:Int}(kp:0<=B)(h:∀c∈cs,0<=aR c/\aR c<=B):0<=cF cs aR/\cF cs aR<=D cs*B:=by
 induction cs with
 |nil=>simp[cF]
 |cons c l aN =>
  have G:=h c g3;have J:=aN λx M=>h x (hO _ M);simp only[cF,jO]
  have:((D l+1:Nat):Int)*B=D l*B+B:=by
   rw[Int.natCast_add,Int.add_mul];simp
  omega
theorem MA (a b:List aG)(aR:aG->Int):cF (a++b) aR=cF a aR+cF b aR:=by
 induction a with
 |nil=>simp[cF]
 |cons c l aN=>simp only[mj,cF,aN];omega
theorem pX {E:List Int}{cs:List aG}(h:hk E cs=true)(i r:Nat):((b4 cs i r:Int):Rat)=(ao E cs).bI i r:=by
 refine Rz cs _ (λc=>if c.aK=i/\c.bP<r then c.am else 0) λc H=>?_;have:=(il.1 h).2.2.2 c H;show ((if c.1=(i:Int)/\c.2.2.1<(r:Int) then c.2.2.2 else 0:Int):Rat)=if c.1.toNat=i/\c.2.2.1.toNat<r then (c.2.2.2:Rat) else 0
 by_cases G:c.1=(i:Int)/\c.2.2.1<(r:Int)
 ·rw[ad G,ad (by omega)]
 ·rw[ag G,ag (by omega)];rfl
theorem IX {E:List Int}{cs:List aG}(h:hk E cs=true)(i r:Nat):((b4 cs i (r+1:Nat)-b4 cs i r:Int):Rat)=(ao E cs).S i r:=by
 have G:=pX h i r;have J:=pX h i (r+1);rw[RC,G,J,Day.xO];grind
def lb (E:List Int)(cs:List aG)(f:Nat->Nat)(i:Nat):Int:=E.getD i 0+cF cs λc=>if c.2.1=(i:Int)/\c.2.2.1<(f c.1.toNat:Int) then c.2.2.2 else 0
def ext (N:Nat)(y:Nat->Rat)(z:Rat):Nat->Rat:=λk=>if k<N then y k else z
theorem MB (N:Nat)(a y:Nat->Rat)(z:Rat):m6 N a (ext N y z)=cJ N (λk=>a k*y k)+a N*z:=by
 unfold m6 ext;rw[cJ]
 congr 1
 ·exact nT λk L=>by rw[ad L]
 ·rw[ag (by omega)]
theorem aaP {N:Nat}{aZ:e9}{da:Nat->Nat}(h:ru N aZ N N da)(jt:∀j,j<N->da j=j){i:Nat}(Q:i<N)(y:Nat->Rat)(z:Rat):m6 N (aZ i) (ext N y z)=y i+aZ i N*z:=by
 rw[MB]
 congr 1
 have:∀k,k<N->aZ i k=if i=k then 1 else 0:=λk L=>by
  have:=h.unit k L i Q;rwa [jt k L] at this
 rw[Bg Q λk L rX=>by rw[this k L,ag (Ne.symm rX),Bh],this i Q,ad rfl,MC]
theorem aj2 {N:Nat}{aZ:e9}{da:Nat->Nat}(h:ru N aZ N N da)(jt:∀j,j<N->da j=j)(y:Nat->Rat):ik N aZ (ext N y (-1))↔∀i,i<N->y i=aZ i N:=by
 unfold ik
 constructor
 ·intro dV i Q;have:=dV i Q;rw[aaP h jt Q] at this;grind
 ·intro dV i Q;rw[aaP h jt Q,dV i Q];grind
theorem ayk {N:Nat}{aZ:e9}{da:Nat->Nat}(h:ru N aZ N N da)(jt:∀j,j<N->da j=j)(y:Nat->Rat)(dV:ik N aZ (ext N y 0)):∀i,i<N->y i=0:=by
 intro i Q;have:=dV i Q;rw[aaP h jt Q] at this;grind
def tA (aZ:e9)(c:Nat):Nat->Rat:=λk=>if k<c then 0-aZ k c else if k=c then 1 else 0
theorem aj3 {N c:Nat}{aZ:e9}{da:Nat->Nat}(h:ru N aZ c c da)(jt:∀j,j<c->da j=j)(H:c<N)(a3:∀i,c<=i->i<N->aZ i c=0):ik N aZ (ext N (tA aZ c) 0):=by
 intro i Q;rw[MB]
 have main:∀n,c<n->n<=N->cJ n (λk=>aZ i k*tA aZ c k)=cJ (c+1) (λk=>aZ i k*tA aZ c k):=by
  intro n
  induction n with
  |zero=>intro h;omega
  |succ n aN =>
   intro G J
   by_cases Ki:c=n
   ·rw[Ki]
   ·rw[cJ,aN (by omega) (by omega)];unfold tA;rw[ag (show ¬ n<c by omega),ag (show ¬ n=c by omega)];grind
 rw[main N H (cH _),cJ];have L:tA aZ c c=1:=by unfold tA;rw[ag (by omega),ad rfl]
 rw[L]
 have hu:∀k,k<c->aZ i k=if i=k then 1 else 0:=λk L=>by
  have:=h.unit k L i Q;rwa [jt k L] at this
 rcases g2 i c with az|b2
 ·rw[Bg az λk L rX=>by rw[hu k L,ag (Ne.symm rX),Bh],hu i az,ad rfl]
  unfold tA;rw[ad az];grind
 ·rw[Bf λk L=>by rw[hu k L,ag (by omega),Bh],a3 i b2 Q]
  grind
abbrev fL:=Nat->Rat
def jM (n:Nat)(f:List fL->Rat):List fL->List fL->Rat
 |_,[]=>0
 |pre,c::cs=>c n*f (pre++cs)-jM n f (pre++[c]) cs
def gI:Nat->List fL->Rat
 |0,[]=>1
 |0,_::_=>0
 |n+1,cs=>jM n (gI n) [] cs
def Dc (x y:fL)(a:Rat):fL:=λi=>x i+a*y i
def aaQ (f:List fL->Rat):Prop:=∀A B x y a,f (A++Dc x y a::B)=f (A++x::B)+a*f (A++y::B)
def aaR (f:List fL->Rat):Prop:=∀A B z,f (A++z::z::B)=0
theorem ayl {n:Nat}{f:List fL->Rat}(h:aaQ f)(x y:fL)(a:Rat)(A:List fL):∀cs nV,jM n f (A++Dc x y a::nV) cs=jM n f (A++x::nV) cs+a*jM n f (A++y::nV) cs:=by
 intro cs
 induction cs with
 |nil=>intro nV;simp only[jM];grind
 |cons c cs aN =>
  intro nV;have e:=aN (nV++[c]);simp only[jM,gT,mj] at e ⊢;rw[h A (nV++cs) x y a,e];grind
theorem aym {n:Nat}{f:List fL->Rat}(h:aaQ f)(x y:fL)(a:Rat)(B:List fL):∀A pre,jM n f pre (A++Dc x y a::B)=jM n f pre (A++x::B)+a*jM n f pre (A++y::B):=by
 intro A
 induction A with
 |nil =>
  intro pre;have e:=ayl (n:=n) h x y a pre B [];simp only[hX,jM];rw[e];simp only[Dc];grind
 |cons c A aN =>
  intro pre;have e:=aN (pre++[c]);have aB:=h (pre++A) B x y a;simp only[gT] at aB;simp only[mj,jM];rw[e,aB];grind
theorem FE:∀n,aaQ (gI n)
 |0=>by
  intro A B x y a
  cases A<;>simp only[hX,mj,gI]<;>grind
 |n+1=>λA B x y a=>aym (FE n) x y a B A []
theorem ayn {n:Nat}{f:List fL->Rat}(h:aaR f)(z:fL)(A:List fL):∀cs nV,jM n f (A++z::z::nV) cs=0:=by
 intro cs
 induction cs with
 |nil=>intro nV;rfl
 |cons c cs aN =>
  intro nV;have e:=aN (nV++[c]);have aB:=h A (nV++cs) z;simp only[jM,gT,mj] at e aB ⊢;rw[e,aB];grind
theorem ayo {n:Nat}{f:List fL->Rat}(h:aaR f)(z:fL)(B:List fL):∀A pre,jM n f pre (A++z::z::B)=0:=by
 intro A
 induction A with
 |nil =>
  intro pre;have e:=ayn (n:=n) h z pre B [];simp only[hX,jM,gT,mj] at e ⊢;rw[e];grind
 |cons c A aN =>
  intro pre;have e:=aN (pre++[c]);have aB:=h (pre++A) B z;simp only[gT] at aB;simp only[mj,jM];rw[e,aB];grind
theorem MD:∀n,aaR (gI n)
 |0=>by
  intro A B z
  cases A<;>rfl
 |n+1=>λA B z=>ayo (MD n) z B A []
theorem ayp (n:Nat)(A B:List fL)(x y:fL):gI n (A++x::y::B) = -gI n (A++y::x::B):=by
 have ax:=MD n A B (Dc x y 1);have G:=FE n A (Dc x y 1::B) x y 1;rw[ax] at G;have J:=FE n (A++[x]) B x y 1;have af:=FE n (A++[y]) B x y 1;simp only[gT,mj,hX] at J af;rw[J,af,MD n A B x,MD n A B y] at G;grind
theorem aj4 (n:Nat)(C:List fL)(z:fL):∀B A,gI n (A++z::(B++z::C))=0:=by
 intro B
 induction B with
 |nil=>intro A;exact MD n A C z
 |cons b B aN =>
  intro A;have:=aN (A++[b]);simp only[gT,mj,hX] at this ⊢;rw[ayp,this];grind
theorem aaS {n:Nat}{A B:List fL}{z:fL}(h:z∈A++B):gI n (A++z::B)=0:=by
 rcases jb.1 h with h|h
 ·obtain⟨ayq,ME,rfl⟩:=aj5 h;have:=aj4 n B z ME ayq
  simpa only [gT,mj] using this
 ·obtain⟨DM,DN,rfl⟩:=aj5 h;exact aj4 n DN z DM A
theorem ayr {n:Nat}{f:List fL->Rat}{z:fL}(a3:z n=0)(h:∀A B,f (A++z::B)=0):(∀cs A nV,jM n f (A++z::nV) cs=0)/\∀A B pre,jM n f pre (A++z::B)=0:=by
 have G:∀cs A nV,jM n f (A++z::nV) cs=0:=by
  intro cs
  induction cs with
  |nil=>intro A nV;rfl
  |cons c cs aN =>
   intro A nV;have e:=aN A (nV++[c]);have aB:=h A (nV++cs);simp only[jM,gT,mj] at e aB ⊢;rw[e,aB];grind
 refine⟨G,λA=>?_⟩
 induction A with
 |nil =>
  intro B pre;have e:=G B pre [];simp only[hX,jM];rw[e,a3];grind
 |cons c A aN =>
  intro B pre;have e:=aN B (pre++[c]);have aB:=h (pre++A) B;simp only[gT] at aB;simp only[mj,jM];rw[e,aB];grind
theorem aaT:∀n (z:fL),(∀i,i<n->z i=0)->∀A B,gI n (A++z::B)=0
 |0,z,_=>λA B=>by cases A<;>rfl
 |n+1,z,h=>λA B=>(ayr (h n (by omega)) (aaT n z λi Q=>h i (by omega))).2 A B []
theorem aj6 {n:Nat}{e:fL}(h:∀i,i<n->e i=0)(cs:List fL):gI (n+1) (e::cs)=e n*gI n cs:=by
 show e n*gI n ([]++cs)-jM n (gI n) ([]++[e]) cs=_
 have:∀cs pre,jM n (gI n) (e::pre) cs=0:=by
  intro cs
  induction cs with
  |nil=>intro pre;rfl
  |cons c cs aN =>
   intro pre;have av:=aN (pre++[c]);have aB:=aaT n e h [] (pre++cs);simp only[jM,mj,hX] at av aB ⊢;rw[av,aB];grind
 simp only[hX];rw[this cs []];grind
theorem ays {n:Nat}{f:List fL->Rat}{T:fL->fL}(dK:∀c,T c n=c n)(h:∀l,f (l.map T)=f l):∀cs pre,jM n f (pre.map T) (cs.map T)=jM n f pre cs:=by
 intro cs
 induction cs with
 |nil=>intro pre;rfl
 |cons c cs aN =>
  intro pre;have e:=aN (pre++[c]);have aB:=h (pre++cs);simp only[js,ey,cC] at e aB;simp only[ey,jM];rw[e,aB,dK]
theorem aaU:∀n (T:fL->fL),(∀c i,i<n->T c i=c i)->∀l,gI n (l.map T)=gI n l
 |0,T,_=>λl=>by cases l<;>rfl
 |n+1,T,h=>λl=>ays (λc=>h c n (by omega)) (aaU n T λc i Q=>h c i (by omega)) l []
theorem aj7 {n:Nat}{α:Type}(l:List α)(f g:α->fL)(h:∀a∈l,∀i,i<n->f a i=g a i):gI n (l.map f)=gI n (l.map g):=by
 rw[<-aaU n (λc i=>if i<n then c i else 0) (λc i Q=>ad Q),<-aaU n (λc i=>if i<n then c i else 0) (λc i Q=>ad Q) (l.map g)];rw[oj,oj]
 congr 1
 apply oi;intro a aW
 funext i
 simp only[Function.comp]
 split
 ·exact h a aW i (by assumption)
 ·rfl
theorem MF (n:Nat)(A B:List fL)(x:Nat->Rat)(C:Nat->fL):∀m,gI n (A++(λi=>cJ m λl=>x l*C l i)::B)=cJ m λl=>x l*gI n (A++C l::B)
 |0=>aaT n _ (λi _=>rfl) A B
 |m+1=>by
  have e:=FE n A B (λi=>cJ m λl=>x l*C l i) (C m) (x m);rw[MF n A B x C m] at e;exact e
def fF (B:Nat)(x:Rat):Prop:=∃z:Int,x=(z:Rat)/\z.natAbs<=B
theorem fF.mono {A B:Nat}{x:Rat}(h:fF A x)(aw:A<=B):fF B x:=by obtain⟨z,G,J⟩:=h;exact⟨z,G,by omega⟩
theorem fF.mul {A B:Nat}{x y:Rat}(M:fF A x)(aj:fF B y):fF (A*B) (x*y):=by
 obtain⟨z,rfl,J⟩:=M;obtain⟨w,rfl,dd⟩:=aj;exact⟨z*w,by rw[sq],by rw[tb];exact wx J dd⟩
theorem fF.sub {A B:Nat}{x y:Rat}(M:fF A x)(aj:fF B y):fF (A+B) (x-y):=by
 obtain⟨z,rfl,J⟩:=M;obtain⟨w,rfl,dd⟩:=aj;exact⟨z-w,by rw[RC],by omega⟩
theorem fF.add {A B:Nat}{x y:Rat}(M:fF A x)(aj:fF B y):fF (A+B) (x+y):=by
 obtain⟨z,rfl,J⟩:=M;obtain⟨w,rfl,dd⟩:=aj;exact⟨z+w,by rw[Bj],by omega⟩
theorem fF.zero {B:Nat}:fF B 0:=⟨0,by rfl,by simp⟩
theorem fF.sum {B:Nat}{f:Nat->Rat}:∀n,(∀k,k<n->fF B (f k))->fF (n*B) (cJ n f)
 |0,_=>fF.zero
 |n+1,h=>by
  have:=(fF.sum n λk L=>h k (by omega)).add (h n (by omega));exact this.mono (by rw[py];exact cH _)
def qA:List (fL×Nat)->Nat
 | []=>1
 |p::l=>p.2*qA l
theorem ayt (a b:List (fL×Nat)):qA (a++b)=qA a*qA b:=by
 induction a with
 |nil=>simp[qA]
 |cons p l aN=>simp only[mj,qA,aN,aaV]
theorem aj8 {n bn:Nat}{f:List fL->Rat}(h:∀l:List (fL×Nat),(∀p∈l,∀i,i<n+1->fF p.2 (p.1 i))->(D l)<=bn->fF (bn^n*qA l) (f (l.map (·.1)))):
  ∀cs pre:List (fL×Nat),(∀p∈pre++cs,∀i,i<n+1->fF p.2 (p.1 i))->(D pre)+D cs<=bn+1->fF (D cs*(bn^n*qA (pre++cs))) (jM n f (pre.map (·.1)) (cs.map (·.1)))
 | [],pre,_,_=>fF.zero
 |c::cs,pre,aF,aw=>by
  have e:=aj8 h cs (pre++[c]) (by simpa using aF) (by simp at aw ⊢;omega);have aB:=h (pre++cs) (λp hm=>aF p (by simp only[jb,lS] at hm ⊢;rcases hm with hm|hm<;>simp[hm])) (by simp at aw ⊢;omega)
  have bp:=(aF c (by simp) n (by omega)).mul aB;simp only[js,ey,cC] at e aB bp;simp only[ey,jM];refine (bp.sub e).mono ?_;simp only[ayt,qA,jO,gT,mj,hX,py]
  have:c.2*(bn^n*(qA pre*qA cs))=bn^n*(qA pre*(c.2*qA cs)):=by
   rw[aaW,aaW c.2]
  rw[this];omega
theorem aj9 (bn:Nat):∀n (l:List (fL×Nat)),(∀p∈l,∀i,i<n->fF p.2 (p.1 i))->(D l)<=bn->fF (bn^n*qA l) (gI n (l.map (·.1)))
 |0,[],_,_=>⟨1,by rfl,by simp[qA]⟩
 |0,p::l,_,_=>fF.zero
 |n+1,l,h,aw=>by
  have:=aj8 (bn:=bn) (f:=gI n) (λfI cW B1=>aj9 bn n fI (λp aF i Q=>cW p aF i (by omega)) B1) l [] (by simpa using h) (by simp;omega);refine fF.mono this ?_;rw[hX,vB,sY (bn^n) bn,aaV];exact og _ aw
open Go
def lI (N:Nat)(l:List a7)(q:Nat->Rat):Prop:=l=((eN (N+1)).map q).map al/\∀k,k<=N->dx (q k)
def xS (N:Nat)(rows:List dH)(aZ:e9):Prop:=D rows=N/\∀(i:Nat) x,rows[i]?=some x->lI N x.2.2 (aZ i)
theorem lI.get {N:Nat}{l:List a7}{q:Nat->Rat}(h:lI N l q){k:Nat}(L:k<=N):l[k]?=some (al (q k)):=by
 rw[h.1,bj,bj,tU (by omega)]
 rfl
theorem lI.len {N:Nat}{l:List a7}{q:Nat->Rat}(h:lI N l q):(D l)=N+1:=by rw[h.1];simp
theorem lI.aaX {N:Nat}{l:List a7}{q:Nat->Rat}(aw:(D l)=N+1)(h:∀k,k<=N->l[k]?=some (al (q k))/\dx (q k)):lI N l q:=by
 refine⟨?_,λk L=>(h k L).2⟩;apply oR;intro k;rcases g2 k (N+1) with L|L
 ·rw[(h k (by omega)).1,bj,bj,tU L];rfl
 ·rw[ja (by omega),ja (by simp;omega)]
theorem lI.congr {N:Nat}{l:List a7}{q uu:Nat->Rat}(h:lI N l q)(bF:∀k,k<=N->q k=uu k):lI N l uu :=
 lI.aaX h.len λk L=>by rw[<-bF k L];exact⟨h.get L,h.2 k L⟩
theorem lI.cell {N:Nat}{x:dH}{q:Nat->Rat}(h:lI N x.2.2 q){k:Nat}(L:k<=N):cellOf x k=al (q k):=Zf (h.get L)
theorem RD (q:Rat):gP (al q)=decide (q=0):=by
 unfold gP al bf;rw[Bool.eq_iff_iff,beq_iff_eq,decide_eq_true_eq,Int.sign_eq_zero_iff_zero,aka]
def sr (fA a b:Rat):Bool:=y4 fA b&&l0 a (-(fA*b))
theorem akb {fA a b:Rat}(aC:dx fA)(aW:dx a)(ah:dx b)(h:sr fA a b=true):
  hA (al fA) (al b)=(al (fA*b),0)/\jJ (al a) (al (fA*b))=(al (a-fA*b),0)/\dx (a-fA*b):=by
 unfold sr at h;rw[fw] at h;refine⟨?_,?_,ahR h.2⟩
 ·rw[Qf aC ah,h.1];rfl
 ·rw[LK aW (ahS h.1),h.2];rfl
theorem ayu {fA a b:Rat}(aC:dx fA)(aW:dx a)(ah:dx b)(h:sr fA a b=false):
  ((hA (al fA) (al b)).2 != 0||(jJ (al a) (hA (al fA) (al b)).1).2 != 0)=true:=by
 unfold sr at h;rw[Qf aC ah];rcases G:y4 fA b
 ·rfl
 ·rw[G,fD] at h;show ((jJ (al a) (al (fA*b))).2 != 0)=true;rw[LK aW (ahS G),h]
  rfl
theorem ayv {fA:Rat}(aC:dx fA):∀(xT pl:List Rat),D xT=(D pl)->(∀x∈xT,dx x)->(∀x∈pl,dx x) ->
  ((∀q∈xT.zip pl,sr fA q.1 q.2=true)->h0 (al fA) (xT.map al) (pl.map al) false=((aaY (λa b=>a-fA*b) xT pl).map al,false)/\∀x∈aaY (λa b=>a-fA*b) xT pl,dx x) /\
  ((h0 (al fA) (xT.map al) (pl.map al) false).2=false->∀q∈xT.zip pl,sr fA q.1 q.2=true):=by
 intro xT
 induction xT with
 |nil=>intro pl aw _ _;cases pl with
  |nil=>exact⟨λ_=>⟨rfl,by simp⟩,λ_=>by simp⟩
  |cons=>cases aw
 |cons a xT aN =>
  intro pl aw G J
  cases pl with
  |nil=>cases aw
  |cons b pl =>
   have aW:=G a g3;have ah:=J b g3;obtain⟨i1,i2⟩:=aN pl (by simpa using aw) (λx M=>G x (hO _ M)) (λx M=>J x (hO _ M))
   constructor
   ·intro dB;obtain⟨av,aB,bp⟩:=akb aC aW ah (dB (a,b) (by simp));obtain⟨i3,i4⟩:=i1 λq bF=>dB q (by simp only[akc,lS];exact .inr bF);refine⟨?_,λx M=>?_⟩
    ·simp only[ey,h0,av,aB,akd,bne_self_eq_false,qc,i3]
    ·rw[akd,lS] at M;rcases M with rfl|M
     ·exact bp
     ·exact i4 x M
   ·intro e5;simp only[ey,h0] at e5;rcases U:sr fA a b
    ·rw[ayu aC aW ah U,L4] at e5
     cases e5
    ·obtain⟨av,aB,bp⟩:=akb aC aW ah U;simp only[av,aB,bne_self_eq_false,qc] at e5;intro q bF;rw[akc,lS] at bF;rcases bF with rfl|bF
     ·exact U
     ·exact i2 e5 q bF
theorem ayw (n:Nat)(q p:Nat->Rat):((eN n).map q).zip ((eN n).map p)=(eN n).map λk=>(q k,p k):=by
 rw[List.zip_map',]
theorem ayx (n:Nat)(f:Rat->Rat->Rat)(q p:Nat->Rat):aaY f ((eN n).map q) ((eN n).map p)=(eN n).map λk=>f (q k) (p k):=by
 rw[List.zipWith_map,List.zipWith_self]
theorem ayy {N:Nat}{fA:Rat}{l aa:List a7}{q p:Nat->Rat}(aC:dx fA)(G:lI N l q)(J:lI N aa p):
  ((∀k,k<=N->sr fA (q k) (p k)=true)->(h0 (al fA) l aa false).2=false)/\((h0 (al fA) l aa false).2=false->lI N (h0 (al fA) l aa false).1 (λk=>q k-fA*p k)):=by
 obtain⟨av,aB⟩:=ayv aC ((eN (N+1)).map q) ((eN (N+1)).map p) (by simp) (by
  intro x M;obtain⟨k,L,rfl⟩:=fO.1 M;exact G.2 k (by have:=iM.1 L;omega)) (by
  intro x M;obtain⟨k,L,rfl⟩:=fO.1 M;exact J.2 k (by have:=iM.1 L;omega))
 rw[<-G.1,<-J.1] at av aB
 have a3:(∀k,k<=N->sr fA (q k) (p k)=true)↔∀x∈((eN (N+1)).map q).zip ((eN (N+1)).map p),sr fA x.1 x.2=true:=by
  rw[ayw];simp only[fO,iM]
  constructor
  ·rintro h x ⟨k,L,rfl⟩;exact h k (by omega)
  ·intro h k L;exact h (q k,p k) ⟨k,by omega,rfl⟩
 refine⟨λh=>by rw[(av (a3.1 h)).1],λh=>?_⟩
 obtain⟨bp,bM⟩:=av (aB h);rw[bp,ayx] at *;exact⟨rfl,λk L=>bM _ (fO.2 ⟨k,iM.2 (by omega),rfl⟩)⟩
theorem RE (fU:List a7)(r c:Nat):∀(i:Nat) (l:List dH),(ih fU r c i l true).2=true
 |_,[]=>rfl
 |i,x::xs=>by
  unfold ih
  split
  ·exact RE fU r c (i+1) xs
  ·rw[L4];exact RE fU r c (i+1) xs
theorem ake {N r c:Nat}{fU:List a7}{p:Nat->Rat}(aF:lI N fU p)(H:c<=N):∀(i:Nat) (l:List dH) (c9:e9),(∀(j:Nat) x,l[j]?=some x->lI N x.2.2 (c9 (i+j))) ->
  ((∀j,j<(D l)->i+j≠r->c9 (i+j) c≠0->∀k,k<=N->sr (c9 (i+j) c) (c9 (i+j) k) (p k)=true)->(ih fU r c i l false).2=false) /\
  ((ih fU r c i l false).2=false->∀(j:Nat) x,(ih fU r c i l false).1[j]?=some x->lI N x.2.2 (λk=>if i+j=r then c9 (i+j) k else c9 (i+j) k-c9 (i+j) c*p k))
 |i,[],c9,h=>⟨λ_=>rfl,λ_ j x M=>by simp[ih] at M⟩
 |i,x::xs,c9,h=>by
  have ax:=h 0 x rfl;rw[lP] at ax
  obtain⟨akf,RF⟩:=ake aF H (i+1) xs c9 λj y aj=>by
   have:=h (j+1) y aj;rwa [show i+(j+1)=i+1+j by omega] at this
  have nf:=ax.cell H
  have akg:(∀j,j<(x::xs).length->i+j≠r->c9 (i+j) c≠0->∀k,k<=N->sr (c9 (i+j) c) (c9 (i+j) k) (p k)=true)->∀j,j<(D xs)->i+1+j≠r->c9 (i+1+j) c≠0->∀k,k<=N->sr (c9 (i+1+j) c) (c9 (i+1+j) k) (p k)=true:=by
   intro aY j aA;have:=aY (j+1) (by simpa using aA);rwa [show i+(j+1)=i+1+j by omega] at this
  unfold ih;rw[nf,RD]
  by_cases a3:(i==r||decide (c9 i c=0))=true
  ·rw[ad a3];refine⟨λaY=>akf (akg aY),λah j y aj=>?_⟩
   cases j with
   |zero =>
    simp only[Cc,cL] at aj;subst aj;rw[lP];refine ax.congr λk L=>?_;simp only[yD,beq_iff_eq,decide_eq_true_eq] at a3
    split
    ·rfl
    ·rcases a3 with a3|a3
     ·contradiction
     ·rw[a3];grind
   |succ j =>
    have:=RF ah j y (by simpa using aj);rwa [show i+(j+1)=i+1+j by omega]
  ·rw[ag a3];simp only[yD,beq_iff_eq,decide_eq_true_eq,not_or] at a3;obtain⟨cQ,dd⟩:=ayy (ax.2 c H) ax aF
   constructor
   ·intro aY;have af:=cQ (aY 0 (by simp) (by simpa using a3.1) (by simpa using a3.2));dsimp only;rw[af];exact akf (akg aY)
   ·intro ah j y aj;dsimp only at ah aj;rcases q9:(h0 (al (c9 i c)) x.2.2 fU false).2
    ·rw[q9] at ah aj
     cases j with
     |zero =>
      simp only[Cc,cL] at aj;subst aj;rw[lP];exact (dd q9).congr λk L=>by rw[ag a3.1]
     |succ j =>
      have:=RF ah j y (by simpa using aj);rwa [show i+(j+1)=i+1+j by omega]
    ·rw[q9,RE] at ah
     cases ah
theorem ayz {N:Nat}{l:List a7}{q:Nat->Rat}{b:Rat}(h:lI N l q)(ah:dx b)(ax:b≠0):
  ((g9 (al b) l).2=false↔∀k,k<=N->vW (q k) b=true)/\((g9 (al b) l).2=false->lI N (g9 (al b) l).1 (λk=>q k/b)):=by
 have av:(g9 (al b) l).2=false↔∀k,k<=N->vW (q k) b=true:=by
  unfold g9;rw[h.1];simp only[wi,fO,iM]
  constructor
  ·intro aY k L;have:=aY (al (q k)) ⟨q k,⟨k,by omega,rfl⟩,rfl⟩
   rw[LL (h.2 k L) ah ax] at this;rcases ab:vW (q k) b
   ·rw[ab] at this;exact absurd rfl this
   ·rfl
  ·rintro aY _ ⟨_,⟨k,L,rfl⟩,rfl⟩;rw[LL (h.2 k (by omega)) ah ax,aY k (by omega)];simp[uG]
 refine⟨av,λaY=>?_⟩;have cM:=av.1 aY;refine lI.aaX (by unfold g9;rw[aE,h.len]) λk L=>⟨?_,auo (cM k L)⟩;unfold g9;rw[bj,h.get L,lu,LL (h.2 k L) ah ax,cM k L]
 rfl
theorem xS.row {N:Nat}{rows:List dH}{aZ:e9}(h:xS N rows aZ){i:Nat}(Q:i<N):∃x,rows[i]?=some x/\rowAt rows i=x/\lI N x.2.2 (aZ i):=by
 obtain⟨x,M⟩:∃x,rows[i]?=some x:=⟨_,bq (by have:=h.1;omega)⟩;exact⟨x,M,tq M,h.2 i x M⟩
theorem xS.swap {N:Nat}{rows:List dH}{aZ:e9}(h:xS N rows aZ){r s:Nat}(Y:r<N)(U:s<N):xS N (m1 rows r s) (hD aZ r s):=by
 obtain⟨x,M,ex,m7⟩:=h.row Y;obtain⟨y,aj,yy,ayA⟩:=h.row U;unfold m1;rw[ex,yy];refine⟨by rw[jF,jF];exact h.1,λi z a3=>?_⟩
 rw[lG,lG,jF] at a3;unfold hD
 by_cases G:s=i
 ·rw[ad G,ad (by have:=h.1;omega)] at a3
  cases a3;rw[ad G.symm];exact m7
 ·rw[ag G] at a3;rw[ag (Ne.symm G)]
  by_cases J:r=i
  ·rw[ad J,ad (by have:=h.1;omega)] at a3
   cases a3;rw[ad J.symm];exact ayA
  ·rw[ag J] at a3;rw[ag (Ne.symm J)];exact h.2 i z a3
def akh (N:Nat)(S:e9)(r c:Nat):Prop:=(∀k,k<=N->vW (S r k) (S r c)=true)/\∀i,i<N->i≠r->S i c≠0->∀k,k<=N->sr (S i c) (S i k) (S r k/S r c)=true
theorem aki {N:Nat}{rows:List dH}{aZ:e9}(h:xS N rows aZ){r c:Nat}(Y:r<N)(H:c<N):
  ((h1 rows r c).1=true/\(h1 rows r c).2.1=rows/\(h1 rows r c).2.2=false/\∀i,r<=i->i<N->aZ i c=0) \/
  ((h1 rows r c).1=false/\∃s,r<=s/\s<N/\aZ s c≠0/\((h1 rows r c).2.2=false->xS N (h1 rows r c).2.1 (pa aZ r c s))/\(akh N (hD aZ r s) r c->(h1 rows r c).2.2=false)):=by
 have aw:=h.1;have iI:=ai2 rows r c (by omega)
 have ke:∀i x,r<=i->i<findAt rows r c->rows[i]?=some x->gP (cellOf x c)=true:=by
  intro i x oc rP M;unfold findAt at rP;have az:i-r<(rows.drop r).findIdx λx => !gP (cellOf x c):=by omega
  have:=List.not_of_lt_findIdx az
  have bz:(rows.drop r)[i-r]'(Nat.lt_of_lt_of_le az List.findIdx_le_length)=x:=by
   rw[C0];have:=(ej.1 M)
   obtain⟨G,J⟩:=this;simp only[show r+(i-r)=i by omega]
   exact J
  rw[bz] at this
  simpa using this
 unfold h1
 by_cases aC:findAt rows r c=D rows
 ·left
  rw[ad aC];refine⟨rfl,rfl,rfl,λi oc rP=>?_⟩;obtain⟨x,M,-,m7⟩:=h.row rP;have:=ke i x oc (by omega) M;rw[m7.cell (by omega),RD] at this
  simpa using this
 ·right
  rw[ag aC];refine⟨rfl,findAt rows r c,iI.1,by omega,?_,?_⟩
  ·obtain⟨x,M,-,m7⟩:=h.row (i:=findAt rows r c) (by omega);have az:findAt rows r c-r<(rows.drop r).length:=by rw[nE];omega
   have J:(rows.drop r).findIdx (λx => !gP (cellOf x c))<(rows.drop r).length:=by
    unfold findAt at az;omega
   have af:=akj (w:=J)
   have bz:(rows.drop r)[(rows.drop r).findIdx λx => !gP (cellOf x c)]=x:=by
    rw[C0];exact (ej.1 M).2
   rw[bz,m7.cell (by omega),RD] at af
   simpa using af
  ·have U:findAt rows r c<N:=by omega
   have qx:=h.swap Y U
   have b6:hD aZ r (findAt rows r c) r c≠0:=by
    rw[Rp];obtain⟨x,M,-,m7⟩:=h.row U
    have J:(rows.drop r).findIdx (λx => !gP (cellOf x c))<(rows.drop r).length:=by
     rw[nE];unfold findAt at U;omega
    have af:=akj (w:=J)
    have bz:(rows.drop r)[(rows.drop r).findIdx λx => !gP (cellOf x c)]=x:=by
     rw[C0];exact (ej.1 M).2
    rw[bz,m7.cell (by omega),RD] at af
    simpa using af
   have CZ:pa aZ r c (findAt rows r c)=λi k=>if i=r then hD aZ r (findAt rows r c) r k/hD aZ r (findAt rows r c) r c else hD aZ r (findAt rows r c) i k-hD aZ r (findAt rows r c) i c*(hD aZ r (findAt rows r c) r k/hD aZ r (findAt rows r c) r c):=rfl;rw[CZ];generalize m1 rows r (findAt rows r c)=gp at *;generalize hD aZ r (findAt rows r c)=S at *;obtain⟨x,M,ex,m7⟩:=qx.row Y;rw[ex,m7.cell (by omega)];obtain⟨d1,d2⟩:=ayz m7 (m7.2 c (by omega)) b6
   have ow:A7 gp r c=gp.set r (x.1,x.2.1,(g9 (al (S r c)) x.2.2).1):=by
    unfold A7;rw[ex,m7.cell (by omega)]
   rw[ow]
   have aaZ:lI N (g9 (al (S r c)) x.2.2).1 (λk=>S r k/S r c)->∀(j:Nat) y,(gp.set r (x.1,x.2.1,(g9 (al (S r c)) x.2.2).1))[j]?=some y->lI N y.2.2 ((λi=>if i=r then λk=>S r k/S r c else S i) (0+j)):=by
    intro ab j y aj;rw[qW];rw[lG] at aj
    by_cases aA:r=j
    ·rw[ad aA,ad (by have:=qx.1;omega)] at aj
     cases aj;dsimp only;rw[ad aA.symm];exact ab
    ·rw[ag aA] at aj;dsimp only;rw[ag (Ne.symm aA)];exact qx.2 j y aj
   dsimp only;rcases s6:(g9 (al (S r c)) x.2.2).2
   ·have ab:=d2 s6;obtain⟨eF,eU⟩:=ake (r:=r) (c:=c) ab (by omega) 0 (gp.set r (x.1,x.2.1,(g9 (al (S r c)) x.2.2).1)) (λi=>if i=r then λk=>S r k/S r c else S i) (aaZ ab)
    constructor
    ·intro ah;refine⟨?_,λi z a3=>?_⟩
     ·have:=congrArg D (Q4 (g9 (al (S r c)) x.2.2).1 r c 0 (gp.set r (x.1,x.2.1,(g9 (al (S r c)) x.2.2).1)) false);rw[aE,aE,jF] at this;rw[this];exact qx.1
     ·have:=eU ah i z a3;rw[qW] at this;refine this.congr λk L=>?_
      by_cases pT:i=r
      ·simp only[ad pT]
      ·simp only[ag pT]
    ·intro cM;refine eF λj aA MG b6 k L=>?_;rw[qW] at *;simp only[ag MG] at b6 ⊢;rw[jF,qx.1] at aA;exact cM.2 j aA MG b6 k L
   ·constructor
    ·intro ah;rw[RE] at ah
     cases ah
    ·intro cM;rw[d1.2 cM.1] at s6
     cases s6
structure IY (N:Nat) (aZ wy:e9) (rows:List dH) (p c:Nat) (da:Nat->Nat):Prop where
 enc:xS N rows wy
 red:ru N wy p c da
 IZ:∀y,ik N wy y↔ik N aZ y
theorem ayB (stop:Bool)(N:Nat)(akk:e9):∀k c rows free aZ p da,c+k=N->IY N akk aZ rows p c da->p+D free=c->(stop=true->free=[]/\∀j,j<p->da j=j) ->
  ∀xU ss,kG stop k c rows free false=(xU,ss,false) ->
  ∃wy qa c' FF,IY N akk wy xU qa c' FF/\(stop=false->c'=N/\qa+D ss=N) /\
   (stop=true->(ss=[]/\c'=N/\qa=N/\∀j,j<N->FF j=j)\/(∃f,ss=[f]/\f<N/\qa=f/\c'=f/\(∀j,j<f->FF j=j)/\∀i,f<=i->i<N->wy i f=0)):=by
 intro k
 induction k with
 |zero =>
  intro c rows free aZ p da H he aF U xU ss M;simp only[kG,fS,and_true] at M;obtain⟨rfl,rfl⟩:=M;refine⟨aZ,p,c,da,he,λ_=>⟨by omega,by omega⟩,λh=>?_⟩
  obtain⟨G,J⟩:=U h;subst G;simp only[nC,lP] at aF;exact .inl ⟨rfl,by omega,by omega,λj aA=>J j (by omega)⟩
 |succ k aN =>
  intro c rows free aZ p da H he aF U xU ss M;have qk:c-D free=p:=by omega
  unfold kG at M;rw[qk] at M;rcases aki he.enc (r:=p) (c:=c) (by omega) (by omega) with ⟨G,J,af,aT⟩|⟨G,s,iS,nP,xV,aT,bx⟩
  ·rw[G,J,af,ad rfl] at M
   cases stop with
   |true =>
    rw[ad rfl] at M;simp only[fS,and_true] at M;obtain⟨rfl,rfl⟩:=M;obtain⟨cQ,dd⟩:=U rfl;subst cQ;simp only[nC,lP] at aF;subst aF;exact⟨aZ,p,p,da,he,by simp,λ_ => .inr ⟨p,rfl,by omega,rfl,rfl,dd,aT⟩⟩
   |false =>
    rw[ag (by simp)] at M;exact aN (c+1) rows (free++[c]) aZ p da (by omega) ⟨he.enc,he.red.free aT,he.IZ⟩ (by simp;omega) (by simp) xU ss M
  ·rw[G,ag (by simp)] at M;rcases ah:(h1 rows p c).2.2
   ·rw[ah] at M;have xW:=aT ah;refine aN (c+1) _ free (pa aZ p c s) (p+1) (λj=>if j=p then c else da j) (by omega) ⟨xW,he.red.Fs (by omega) iS nP xV,λy=>(aaq (by omega) nP xV).trans (he.IZ y)⟩ (by omega) (λh=>?_) xU ss M;obtain⟨cQ,dd⟩:=U h;refine⟨cQ,λj aA=>?_⟩;subst cQ;simp only[nC,lP] at aF;show (if j=p then c else da j)=j
    split
    ·omega
    ·exact dd j (by omega)
   ·rw[ah,Q3] at M
    cases M
def rz (rs:List b9):e9:=λi k=>if k<(D rs) then pK ((rs.getD i ([],dD)).1.getD k dD) else pK (rs.getD i ([],dD)).2
theorem RG {f:a7}(h:di f=true):f=al (pK f)/\dx (pK f):=by
 obtain⟨x,M,rfl⟩:=(AM _).1 h;rw[EX];exact⟨rfl,M⟩
theorem ayC {rs:List b9}{n:Int}(h:ig rs n=true):(D rs:Int)=n/\D rs<=40/\∀r∈rs,r.1.length=D rs/\di r.2=true/\∀f∈r.1,di f=true:=by
 unfold ig at h;simp only[fw,I0,decide_eq_false_iff_not,beq_iff_eq] at h;obtain⟨G,J,af,aT⟩:=h;refine⟨af,by omega,λr Y=>?_⟩
 rw[wi] at aT;have:=aT r Y;unfold kA y8 at this;simp only[I0,fw,beq_iff_eq,wi,Bool.not_eq_false] at this;obtain⟨fQ,hg,wz⟩:=this;exact⟨by omega,hg,λf aC=>by simpa using wz f aC⟩
theorem akl {rs:List b9}{i:Nat}{r:b9}(h:rs[i]?=some r):rs.getD i ([],dD)=r:=by
 rw[ep,h];rfl
theorem akm {rs:List b9}{n:Int}(h:ig rs n=true):xS (D rs) (hi rs) (rz rs):=by
 obtain⟨aM,aLl,aaZ⟩:=ayC h;refine⟨Fq rs,λi x M=>?_⟩
 have Q:i<D rs:=by
  have:=(ej.1 M).1;rwa [Fq] at this
 obtain⟨r,Y⟩:∃r,rs[i]?=some r:=⟨_,bq Q⟩;rw[aiV Y] at M
 cases M;obtain⟨av,aB,bp⟩:=aaZ r (dn Y);refine lI.aaX (by simp[av]) λk L=>?_;unfold rz;rw[akl Y]
 by_cases ib:k<D rs
 ·rw[ad ib];obtain⟨f,aC⟩:∃f,r.1[k]?=some f:=⟨_,bq (by omega)⟩;obtain⟨fQ,hg⟩:=RG (bp f (dn aC));rw[oe (by omega),aC,ep,aC];exact⟨congrArg some fQ,hg⟩
 ·rw[ag ib];obtain⟨fQ,hg⟩:=RG aB;rw[nc (by omega),av,show k-D rs=0 by omega]
  exact⟨congrArg some fQ,hg⟩
theorem ayD (stop:Bool){rs:List b9}{n:Int}(h:ig rs n=true){xU:List dH}{ss:List Nat}(M:oH stop rs=(xU,ss,false)):
  ∃wy qa c' FF,IY (D rs) (rz rs) wy xU qa c' FF/\(stop=false->c'=D rs/\qa+D ss=D rs) /\
   (stop=true->(ss=[]/\c'=D rs/\qa=D rs/\∀j,j<(D rs)->FF j=j)\/(∃f,ss=[f]/\f<D rs/\qa=f/\c'=f/\(∀j,j<f->FF j=j)/\∀i,f<=i->i<(D rs)->wy i f=0)) :=
 ayB stop (D rs) (rz rs) (D rs) 0 (hi rs) [] (rz rs) 0 (λj=>j) (by omega) ⟨akm h,Rq _ _ _,λ_=>Iff.rfl⟩ rfl (λ_=>⟨rfl,λj aA=>by omega⟩) xU ss M
def aLm (N:Nat)(q:Nat->Rat)(b:Nat):Prop:=∃(v:Nat->Int) (d:Int),d≠0/\d.natAbs<=2^b/\∀k,k<=N->q k*(d:Rat)=(v k:Rat)/\(v k).natAbs<=2^b
theorem ayE {q:Rat}{v d:Int}(ab:d≠0)(h:q*(d:Rat)=(v:Rat)):q.num*d=v*q.den:=by
 have p2:(d:Rat)≠0:=by rw[Ne,akn];exact ab
 have e:q=lZ v d:=by rw[RH];grind
 have aB:lZ q.num q.den=lZ v d:=by rw[Rat.num_divInt_den];exact e
 exact (Rat.divInt_eq_divInt_iff (xt q) ab).1 aB
theorem Dd {q:Rat}{v d:Int}(ab:d≠0)(h:q*(d:Rat)=(v:Rat)):q.num.natAbs<=v.natAbs/\q.den<=d.natAbs:=by
 have H:=ayE ab h
 have kV:q.num.natAbs*d.natAbs=v.natAbs*q.den:=by
  have:=congrArg Int.natAbs H;rwa [tb,tb,k4] at this
 have B2:q.den∣d.natAbs:=(Nat.Coprime.symm q.reduced).dvd_of_dvd_mul_left ⟨v.natAbs,by rw[kV,sY]⟩
 have WY:0<d.natAbs:=by omega
 have J:=Nat.le_of_dvd WY B2;refine⟨?_,J⟩;obtain⟨m,hm⟩:=B2;rw[hm] at kV;have W1:=q.den_pos
 have af:q.num.natAbs*m=v.natAbs:=by
  have:q.den*(q.num.natAbs*m)=q.den*v.natAbs:=by rw[sY q.den v.natAbs,<-kV];rw[aaW]
  exact Nat.eq_of_mul_eq_mul_left W1 this
 have p4:0<m:=by
  rcases ko m with ax|ax
  ·rw[ax,Nat.mul_zero] at hm;omega
  ·exact ax
 rw[<-af];exact Nat.le_mul_of_pos_right _ p4
def eA (b:Nat)(q:Rat):Prop:=q.num.natAbs<=2^b/\q.den<=2^b
theorem ayF (a b c:Nat)(h:a=2^b):a^c=2^(b*c):=by rw[h,<-Nat.pow_mul]
theorem ako:∃B:Nat,B=1200/\dQ=2^B:=⟨20*60,rfl,ayF 1048576 20 60 (by decide)⟩
theorem De {z:Int}{b:Nat}(h:z.natAbs<=2^b)(ah:b<1200):hr z=true:=by
 obtain⟨B,kp,fP⟩:=ako;unfold hr;rw[fP,decide_eq_true_eq];exact uo h (akp (by omega) (by omega))
theorem tB {x y:Int}{a b:Nat}(M:x.natAbs<=2^a)(aj:y.natAbs<=2^b):(x*y).natAbs<=2^(a+b):=by
 rw[tb,su];exact wx M aj
theorem akq {x y:Int}{a:Nat}(M:x.natAbs<=2^a)(aj:y.natAbs<=2^a):(x+y).natAbs<=2^(a+1):=by
 have:=Int.natAbs_add_le x y;rw[vB];omega
theorem eA.mono {a b:Nat}{q:Rat}(h:eA a q)(sf:a<=b):eA b q:=by
 have aF:2^a<=2^b:=nK (by omega) sf;exact⟨e4 h.1 aF,e4 h.2 aF⟩
theorem MH {x y:Rat}{a b:Nat}(M:eA a x)(aj:eA b y)(h:a+b<1200):y4 x y=true:=by
 unfold y4;rw[fw];exact⟨De (tB M.1 aj.1) h,De (tB (x:=(x.den:Int)) (y:=(y.den:Int)) (by simpa using M.2) (by simpa using aj.2)) h⟩
theorem aa0 {x y:Rat}{a b:Nat}(M:eA a x)(aj:eA b y)(h:a+b<1200):vW x y=true:=by
 unfold vW;rw[fw];exact⟨De (tB (y:=(y.den:Int)) M.1 (by simpa using aj.2)) h,De (tB (x:=(x.den:Int)) (by simpa using M.2) aj.1) h⟩
theorem zq {x y:Rat}{a b:Nat}(M:eA a x)(aj:eA b y)(h:a+b+1<1200):l0 x y=true:=by
 unfold l0;have G:=tB (y:=(y.den:Int)) M.1 (by simpa using aj.2);have J:=tB (y:=(x.den:Int)) aj.1 (by simpa using M.2);rw[zP b a] at J;simp only[fw];exact⟨De G (by omega),De J (by omega),De (akq G J) h,De (tB (x:=(x.den:Int)) (y:=(y.den:Int)) (by simpa using M.2) (by simpa using aj.2)) (by omega)⟩
theorem wA {b:Nat}{q:Rat}(h:eA b q):eA b (-q):=⟨by rw[akr,Int.natAbs_neg];exact h.1,h.2⟩
theorem aa1 {p q:Int}{b:Nat}(G:p.natAbs<=2^b)(J:q.natAbs<=2^b)(bF:q≠0):eA b (lZ p q):=by
 have aLn:(q:Rat)≠0:=by rw[Ne,akn];exact bF
 have:=Dd (q:=lZ p q) (v:=p) bF (by rw[RH];grind);exact⟨e4 this.1 G,e4 this.2 J⟩
theorem Bk {x y:Rat}{a b:Nat}(M:eA a x)(aj:eA b y):eA (a+b) (x*y):=by
 rw[<-XH];exact aa1 (tB M.1 aj.1) (tB (x:=(x.den:Int)) (y:=(y.den:Int)) (by simpa using M.2) (by simpa using aj.2)) (y5 (xt x) (xt y))
theorem MI {x y:Rat}{a b:Nat}(M:eA a x)(aj:eA b y):eA (a+b+1) (x+y):=by
 rw[<-XG];have G:=tB (y:=(y.den:Int)) M.1 (by simpa using aj.2);have J:=tB (y:=(x.den:Int)) aj.1 (by simpa using M.2);rw[zP b a] at J;have af:=tB (x:=(x.den:Int)) (y:=(y.den:Int)) (a:=a) (b:=b) (by simpa using M.2) (by simpa using aj.2);exact aa1 (akq G J) (e4 af (nK (by omega) (by omega))) (y5 (xt x) (xt y))
theorem ayG {x y:Rat}{a b:Nat}(M:eA a x)(aj:eA b y)(ax:y≠0):eA (a+b) (x/y):=by
 rw[<-XI];have aM:y.num≠0:=λh=>ax (aka.1 h);exact aa1 (tB (y:=(y.den:Int)) M.1 (by simpa using aj.2)) (tB (x:=(x.den:Int)) (by simpa using M.2) aj.1) (y5 (xt x) aM)
def qB (A:e9)(σ:Nat->Nat)(k:Nat):fL:=λi=>A (σ i) k
def lJ:Nat->List Nat
 |0=>[]
 |p+1=>p::lJ p
theorem zr {k:Nat}:∀{p:Nat},k∈lJ p↔k<p
 |0=>by simp[lJ]
 |p+1=>by
  simp only[lJ,lS,zr (p:=p)];omega
theorem MJ:∀p,(lJ p).length=p
 |0=>rfl
 |p+1=>by simp[lJ,MJ p]
theorem aks {l:Nat}:∀{p:Nat},l<p->∃bu g8,lJ p=bu++l::g8/\∀m,m∈bu++g8↔m<p/\m≠l
 |0,h=>by omega
 |p+1,h=>by
  by_cases aw:l=p
  ·subst aw;refine⟨[],lJ l,rfl,λm=>?_⟩;rw[hX,zr];omega
  ·obtain⟨bu,g8,G,J⟩:=aks (l:=l) (p:=p) (by omega);refine⟨p::bu,g8,by simp[lJ,G],λm=>?_⟩
   rw[mj,lS,J];omega
def qC (A:e9)(σ:Nat->Nat)(p:Nat):List fL:=(lJ p).map (qB A σ)
theorem RI {n:Nat}{c c':fL}(bu g8:List fL)(h:∀i,i<n->c i=c' i):gI n (bu++c::g8)=gI n (bu++c'::g8):=by
 have:=aj7 (n:=n) (bu.map (λx=>(x,x))++(c,c')::g8.map (λx=>(x,x))) Prod.fst Prod.snd (λa aW i Q=>by
  simp only[jb,lS,fO] at aW;rcases aW with ⟨x,_,rfl⟩|rfl|⟨x,_,rfl⟩
  ·rfl
  ·exact h i Q
  ·rfl)
 simpa [Function.comp_def] using this
theorem akt {A:e9}{σ τ:Nat->Nat}{p:Nat}(h:∀i,i<p->σ i=τ i):gI p (qC A σ p)=gI p (qC A τ p) :=
 aj7 _ _ _ λa _ i Q=>by unfold qB;rw[h i Q]
def I1 (N:Nat)(A aZ:e9)(σ:Nat->Nat)(p:Nat):Prop:=∀i,i<N->∀k,p<=k->k<=N->A (σ i) k=(if i<p then 0 else aZ i k)+cJ p λl=>A (σ i) l*aZ l k
def mD (N:Nat)(A aZ:e9)(p:Nat):Prop:=∃σ:Nat->Nat,(∀i,i<N->σ i<N)/\I1 N A aZ σ p/\gI p (qC A σ p)≠0
theorem mD.start (N:Nat)(A:e9):mD N A A 0:=by
 refine⟨λi=>i,λi h=>h,λi Q k _ L=>?_,?_⟩
 ·rw[ag (by omega)];show A i k=A i k+0;grind
 ·show (1:Rat)≠0;decide
theorem ayH {p:Nat}(a x y:Nat->Rat)(t:Rat):cJ p (λl=>a l*(x l-y l*t))=cJ p (λl=>a l*x l)-t*cJ p λl=>a l*y l:=by
 have:(λl=>a l*(x l-y l*t))=λl=>a l*x l+(-t)*(a l*y l):=by funext l;grind
 rw[this,Fy,IE];grind
theorem mD.step {N p s:Nat}{A aZ:e9}(h:mD N A aZ p)(aF:p<N)(U:p<=s)(wq:s<N)(b6:aZ s p≠0):mD N A (pa aZ p p s) (p+1):=by
 obtain⟨σ,hσ,Y,ab⟩:=h
 let π:Nat->Nat:=λi=>if i=s then p else if i=p then s else i
 have hπ:∀i,hD aZ p s i=aZ (π i):=by
  intro i;show (if i=s then aZ p else if i=p then aZ s else aZ i)=aZ (if i=s then p else if i=p then s else i)
  split
  ·rfl
  ·split<;>rfl
 have hπN:∀i,i<N->π i<N:=λi Q=>by show (if i=s then p else if i=p then s else i)<N;split<;>(try split)<;>omega
 have hπp:∀i,i<p->π i=i:=λi Q=>by show (if i=s then p else if i=p then s else i)=i;rw[ag (by omega),ag (by omega)]
 have hπq:∀i,p<=i->p<=π i:=λi Q=>by show p<=(if i=s then p else if i=p then s else i);split<;>(try split)<;>omega
 have dh:I1 N A (hD aZ p s) (λi=>σ (π i)) p:=by
  intro i Q k sv ib;have:=Y (π i) (hπN i Q) k sv ib;rw[this]
  congr 1
  ·by_cases pV:i<p
   ·rw[ad pV,ad (by rw[hπp i pV];exact pV)]
   ·rw[ag pV,ag (by have:=hπq i (by omega);omega),hπ]
  ·refine nT λl aw=>?_;rw[hπ l,hπp l aw]
 have ayI:hD aZ p s p p≠0:=by rw[Rp];exact b6
 generalize aku:hD aZ p s=S at *
 have bF:pa aZ p p s=λi k=>if i=p then S p k/S p p else S i k-S i p*(S p k/S p p):=by
  funext i k;unfold pa;rw[aku]
 rw[bF]
 have p2:gI p (qC A (λi=>σ (π i)) p)≠0:=by
  rw[akt (τ:=σ) λi Q=>by show σ (π i)=σ i;rw[hπp i Q]]
  exact ab
 generalize hτ:(λi=>σ (π i))=τ at *;refine⟨τ,λi Q=>by rw[<-hτ];exact hσ _ (hπN i Q),λi Q k sv ib=>?_,?_⟩
 ·have av:=dh i Q k (by omega) ib;have aB:=dh i Q p (by omega) (by omega);simp only[cJ,if_true];rw[nT (g:=λl=>A (τ i) l*(S l k-S l p*(S p k/S p p))) λl aw=>by rw[ag (by omega)],ayH]
  generalize cJ p (λl=>A (τ i) l*S l k)=bu at *;generalize cJ p (λl=>A (τ i) l*S l p)=g8 at *
  by_cases G:i<p
  ·rw[ad G] at av aB;rw[ad (by omega)];grind
  ·rw[ag G] at av aB
   by_cases J:i=p
   ·subst J;rw[ad (by omega)];grind
   ·rw[ag (by omega),ag J];grind
 ·have H:gI (p+1) (qC A τ (p+1))=S p p*gI p (qC A τ p):=by
   show gI (p+1) ([]++qB A τ p::qC A τ p)=_
   rw[RI (c':=Dc (λi=>if i<p then 0 else S i p) (λi=>cJ p λl=>S l p*qB A τ l i) 1) [] _ λi Q=>by
    have:=dh i (by omega) p (by omega) (by omega);show A (τ i) p=(if i<p then 0 else S i p)+1*cJ p λl=>S l p*A (τ i) l;rw[this,MC]
    congr 1
    exact nT λl _=>wB _ _]
   rw[FE,MF,Bf λl aw=>by
    rw[aaS (by rw[hX];exact Bl (zr.2 aw))];exact sn _]
   rw[hX,aj6 λi Q=>ad Q,ag (by omega)];grind
  rw[H];intro ax;rcases RJ.1 ax with ax|ax
  ·exact ayI ax
  ·exact p2 ax
theorem akv {N p l k:Nat}{A aZ:e9}{σ:Nat->Nat}(Y:I1 N A aZ σ p)(aF:p<=N)(aw:l<p)(sv:p<=k)(ib:k<=N):∃c5:List Nat,D c5=p/\(∀m∈c5,m<p\/m=k)/\c5.count k<=1/\aZ l k*gI p (qC A σ p)=gI p (c5.map (qB A σ)):=by
 obtain⟨bu,g8,ku,hm⟩:=aks aw;have hlen:=MJ p;rw[ku] at hlen;refine⟨bu++k::g8,by simp at hlen ⊢;omega,λm DZ=>?_,?_,?_⟩
 ·have:m=k\/m∈bu++g8:=by
   simp only[jb,lS] at DZ ⊢;rcases DZ with h|h|h<;>simp[h]
  rcases this with h|h
  ·exact .inr h
  ·exact .inl ((hm m).1 h).1
 ·have ax:∀rf:List Nat,(∀m∈rf,m∈bu++g8)->rf.count k=0:=λrf MK=>akw.2 λa3=>by have:=((hm k).1 (MK k a3)).1;omega
  rw[akx,aa2,ax bu (by simp +contextual),ax g8 (by simp +contextual)];omega
 ·rw[js,ey]
  rw[RI (c':=λi=>cJ p λm=>aZ m k*qB A σ m i) _ _ λi Q=>by
   have:=Y i (by omega) k sv ib;rw[ad Q] at this;show A (σ i) k=cJ p λm=>aZ m k*A (σ i) m;rw[this,qD];exact nT λl _=>wB _ _]
  rw[MF,Bg aw λm ayJ p3=>by
   rw[aaS (by rw[<-js];exact Bl ((hm m).2 ⟨ayJ,p3⟩))];exact sn _]
  unfold qC;rw[ku,js,ey]
theorem ayK {N p i k:Nat}{A aZ:e9}{σ:Nat->Nat}(Y:I1 N A aZ σ p)(oc:p<=i)(rP:i<N)(sv:p<=k)(ib:k<=N):aZ i k*gI p (qC A σ p)=gI (p+1) ((k::lJ p).map (qB A λj=>if j=p then σ i else σ j)):=by
 have hτ:∀j,j<p->(λj=>if j=p then σ i else σ j) j=σ j:=λj aA=>ag (by omega);have hτp:(λj=>if j=p then σ i else σ j) p=σ i:=ad rfl;generalize (λj=>if j=p then σ i else σ j)=τ at *;show _=gI (p+1) ([]++qB A τ k::qC A τ p)
 rw[RI (c':=Dc (λj=>if j<p then 0 else aZ i k) (λj=>cJ p λl=>aZ l k*qB A τ l j) 1) [] _ λj aA=>by
  show A (τ j) k=(if j<p then 0 else aZ i k)+1*cJ p λl=>aZ l k*A (τ j) l;rw[MC]
  by_cases IF:j<p
  ·have:=Y j (by omega) k sv ib;rw[ad IF] at this ⊢;rw[hτ j IF,this]
   congr 1
   exact nT λl _=>wB _ _
  ·obtain rfl:j=p:=by omega
   have:=Y i rP k sv ib;rw[ag (by omega)] at this;rw[ag IF,hτp,this]
   congr 1
   exact nT λl _=>wB _ _]
 rw[FE,MF,Bf λl aw=>by
  rw[aaS (by rw[hX];exact Bl (zr.2 aw))];exact sn _]
 rw[hX,aj6 λi Q=>ad Q,ag (by omega),akt λj aA=>(hτ j aA).symm];grind
theorem ayL (n:Nat)(bu g8:List fL)(x:fL)(a:Rat):gI n (bu++(λi=>a*x i)::g8)=a*gI n (bu++x::g8):=by
 have:=MF n bu g8 (λ_=>a) (λ_=>x) 1;simp only[cJ] at this;rw[qD] at this;rw[<-this];exact RI bu g8 λi _=>(qD _).symm
theorem aa3 (n:Nat)(c9:Nat->Rat)(C:Nat->fL):∀(c5:List Nat) (bu:List fL),∃a:Rat,((∀k∈c5,c9 k≠0)->a≠0)/\gI n (bu++c5.map λk=>λi=>c9 k*C k i)=a*gI n (bu++c5.map C)
 | [],bu=>⟨1,λ_=>by decide,by rw[MC];rfl⟩
 |k::c5,bu=>by
  obtain⟨a,G,J⟩:=aa3 n c9 C c5 (bu++[C k]);refine⟨c9 k*a,λh=>?_,?_⟩
  ·intro ax;rcases RJ.1 ax with ax|ax
   ·exact h k g3 ax
   ·exact G (λm hm=>h m (hO _ hm)) ax
  ·simp only[ey,gT,mj,hX] at J ⊢;rw[ayL,J,Rat.mul_assoc]
structure rA (N:Nat) (A:e9) (b v:Nat):Prop where
 ex:∃c9:Nat->Nat,(∀k,k<=N->0<c9 k/\c9 k<=2^(if k<N then b else v)/\∀i,i<N->fF (2^(if k<N then b else v)) (c9 k*A i k))
theorem aky {α:Type}(f:α->fL)(x:α->Nat):∀c5:List α,qA (c5.map λk=>(f k,2^x k))=2^(c5.map x).sum
 | []=>rfl
 |k::c5=>by simp only[ey,qA,aky f x c5,akz,su]
theorem akA (x:Nat->Nat)(k b:Nat):∀c5:List Nat,(∀m∈c5,m≠k->x m<=b)->(c5.map x).sum<=D c5*b+c5.count k*x k
 | [],_=>by simp
 |m::c5,h=>by
  have aN:=akA x k b c5 λn aM=>h n (hO _ aM);simp only[ey,akz,jO,py]
  by_cases hm:m=k
  ·subst hm;rw[aa2,py];omega
  ·rw[List.count_cons_of_ne hm];have:=h m g3 hm;omega
theorem ML {N n c b v:Nat}{A:e9}(e2:N^N<=2^c)(aM:n<=N)(dV:∀k,k<=N->∀i,i<N->fF (2^(if k<N then b else v)) (A i k)){σ:Nat->Nat}(hσ:∀i,i<n->σ i<N)(c5:List Nat)(fP:(D c5)<=N)(k:Nat)(L:k<=N)(hm:∀m∈c5,m≠k->m<N)(H:c5.count k<=1)(e:Nat)(he:c+N*b+(if k<N then b else v)<=e):
  fF (2^e) (gI n (c5.map (qB A σ))):=by
 let x:Nat->Nat:=λk=>if k<N then b else v
 have G:=aj9 N n (c5.map λk=>(qB A σ k,2^x k)) (λp aF i Q=>by
  obtain⟨m,DZ,rfl⟩:=fO.1 aF
  have ayM:m<=N:=by
   by_cases om:m=k
   ·omega
   ·have:=hm m DZ om;omega
  exact dV m ayM (σ i) (hσ i Q)) (by rw[aE];exact fP)
 rw[oj,aky] at G;have aC:((λp:fL×Nat=>p.1) ∘ λk=>(qB A σ k,2^x k))=qB A σ:=rfl;rw[aC] at G;refine G.mono ?_
 have J:=akA x k b c5 λm DZ om=>by
  show (if m<N then b else v)<=b;rw[ad (hm m DZ om)];exact cH _
 have af:N^n<=2^c:=by
  rcases ko N with ax|ax
  ·subst ax;obtain rfl:n=0:=by omega
   exact e2
  ·exact e4 (nK ax aM) e2
 have aT:(D c5)*b<=N*b:=og _ fP
 have bx:c5.count k*x k<=x k:=by
  have:c5.count k=0\/c5.count k=1:=by omega
  rcases this with h|h<;>rw[h]<;>omega
 have b0:x k=if k<N then b else v:=rfl;rw[<-b0] at he
 calc N^n*2^(c5.map x).sum<=2^c*2^(N*b+x k):=wx af (nK (by omega) (by omega))
  _=2^(c+(N*b+x k)):=by rw[<-su]
  _<=2^e:=nK (by omega) (by omega)
theorem mD.sz {N p c b v:Nat}{A aZ:e9}(e2:N^N<=2^c)(dV:rA N A b v)(h:mD N A aZ p)(aF:p<=N){i k:Nat}(Q:i<N)(sv:p<=k)(ib:k<=N):eA (c+(N+1)*b+(if k<N then b else v)) (aZ i k):=by
 obtain⟨σ,hσ,Y,ab⟩:=h;obtain⟨c9,gi⟩:=dV
 have FG:∀m,m<=N->((c9 m:Nat):Rat)≠0:=λm hm=>by
  have:=(gi m hm).1;rw[Ne,akB];omega
 -- the scaled matrix
 have a8:I1 N (λi k=>c9 k*A i k) (λl k=>if l<p then c9 k*aZ l k/c9 l else c9 k*aZ l k) σ p:=by
  intro i Q k sv ib;have:=Y i Q k sv ib;show (c9 k:Rat)*A (σ i) k=_;rw[this,akC,<-IE]
  congr 1
  ·split<;>grind
  ·refine nT λl aw=>?_;dsimp only;rw[ad aw];have:=FG l (by omega);grind
 have lX:gI p (qC (λi k=>c9 k*A i k) σ p)≠0:=by
  obtain⟨a,G,J⟩:=aa3 p (λk=>(c9 k:Rat)) (qB A σ) (lJ p) [];have FH:qC (λi k=>c9 k*A i k) σ p=(lJ p).map λk=>λi=>(c9 k:Rat)*qB A σ k i:=rfl;rw[hX,hX] at J;rw[FH,J];intro ax;rcases RJ.1 ax with ax|ax
  ·exact G (λm hm=>FG m (by have:=zr.1 hm;omega)) ax
  ·exact ab ax
 have rp:∀k,k<=N->∀i,i<N->fF (2^(if k<N then b else v)) ((λi k=>(c9 k:Rat)*A i k) i k):=λk L i Q=>(gi k L).2.2 i Q;generalize ayN:(λ(i k:Nat)=>(c9 k:Rat)*A i k)=ME at *
 have vx:fF (2^(c+N*b+b)) (gI p (qC ME σ p)):=by
  rcases ko N with ax|ax
  ·omega
  ·refine ML e2 aF rp (λi Q=>hσ i (by omega)) (lJ p) (by rw[MJ];exact aF) 0 (by omega) (λm hm _=>by have:=zr.1 hm;omega) ?_ _ (by rw[ad ax];exact cH _)
   have:∀p,(lJ p).count 0<=1:=by
    intro p
    induction p with
    |zero=>simp[lJ]
    |succ p aN =>
     simp only[lJ];rw[akD]
     by_cases iQ:p=0
     ·subst iQ;simp[lJ]
     ·rw[ag (by simpa using iQ)];exact aN
   exact this p
 obtain⟨d,xj,s6⟩:=vx
 have xi:d≠0:=by
  intro ax;rw[xj,ax] at lX;exact lX (by rfl)
 obtain⟨ayO,MM,-⟩:=gi k ib;have ta:(N+1)*b=N*b+b:=py N b
 by_cases pV:i<p
 ·obtain⟨c5,ayP,I2,FI,Df⟩:=akv a8 aF pV sv ib;obtain⟨m,MN,RK⟩:=ML e2 aF rp (λi Q=>hσ i (by omega)) c5 (by omega) k ib (λm hm om=>by rcases I2 m hm with h|h<;>omega) FI _ (cH _)
  rw[ad pV,MN,xj] at Df;have s5:=FG i (by omega)
  have he:aZ i k*(((c9 k:Int)*d:Int):Rat)=(((c9 i:Int)*m:Int):Rat):=by
   rw[sq,sq,<-Df,nW,nW];grind
  obtain⟨f1,f2⟩:=Dd (y5 (by omega) xi) he;obtain⟨-,akE,-⟩:=gi i (by omega);rw[ad Q] at akE;refine⟨e4 f1 ?_,e4 f2 ?_⟩
  ·rw[tb,k4];refine e4 (wx akE RK) ?_;rw[<-su];exact nK (by omega) (by omega)
  ·rw[tb,k4];refine e4 (wx MM s6) ?_;rw[<-su];exact nK (by omega) (by omega)
 ·have Df:=ayK a8 (by omega) Q sv ib
  have hτ:∀j,j<p+1->(λj=>if j=p then σ i else σ j) j<N:=λj aA=>by
   show (if j=p then σ i else σ j)<N
   split
   ·exact hσ i Q
   ·exact hσ j (by omega)
  obtain⟨m,MN,RK⟩:=ML (n:=p+1) e2 (by omega) rp hτ (k::lJ p) (by rw[jO,MJ];omega) k ib (λm hm om=>by
   rcases lS.1 hm with h|h
   ·exact absurd h om
   ·have:=zr.1 h;omega) (by rw[aa2,akw.2 λa3=>by have:=zr.1 a3;omega];omega) _ (cH _)
  rw[ag pV,MN,xj] at Df
  have he:aZ i k*(((c9 k:Int)*d:Int):Rat)=((m:Int):Rat):=by
   rw[sq,<-Df,nW];grind
  obtain⟨f1,f2⟩:=Dd (y5 (by omega) xi) he;refine⟨e4 f1 (e4 RK ?_),e4 f2 ?_⟩
  ·exact nK (by omega) (by omega)
  ·rw[tb,k4];refine e4 (wx MM s6) ?_;rw[<-su];exact nK (by omega) (by omega)
theorem mD.ayQ {N c b v:Nat}{A aZ:e9}(e2:N^N<=2^c)(dV:rA N A b v)(h:mD N A aZ N):∃bn:Nat,0<bn/\bn<=2^(c+(N+1)*b+v)/\∀i,i<N->∃z:Int,aZ i N*(bn:Rat)=(z:Rat):=by
 obtain⟨p,aag⟩:∃p,p=N:=⟨N,rfl⟩;have aF:p<=N:=by omega
 have h:mD N A aZ p:=by rw[aag];exact h
 obtain⟨σ,hσ,Y,ab⟩:=h;obtain⟨c9,gi⟩:=dV
 have FG:∀m,m<=N->((c9 m:Nat):Rat)≠0:=λm hm=>by
  have:=(gi m hm).1;rw[Ne,akB];omega
 -- the scaled matrix
 have a8:I1 N (λi k=>c9 k*A i k) (λl k=>if l<p then c9 k*aZ l k/c9 l else c9 k*aZ l k) σ p:=by
  intro i Q k sv ib;have:=Y i Q k sv ib;show (c9 k:Rat)*A (σ i) k=_;rw[this,akC,<-IE]
  congr 1
  ·split<;>grind
  ·refine nT λl aw=>?_;dsimp only;rw[ad aw];have:=FG l (by omega);grind
 have lX:gI p (qC (λi k=>c9 k*A i k) σ p)≠0:=by
  obtain⟨a,G,J⟩:=aa3 p (λk=>(c9 k:Rat)) (qB A σ) (lJ p) [];have FH:qC (λi k=>c9 k*A i k) σ p=(lJ p).map λk=>λi=>(c9 k:Rat)*qB A σ k i:=rfl;rw[hX,hX] at J;rw[FH,J];intro ax;rcases RJ.1 ax with ax|ax
  ·exact G (λm hm=>FG m (by have:=zr.1 hm;omega)) ax
  ·exact ab ax
 have rp:∀k,k<=N->∀i,i<N->fF (2^(if k<N then b else v)) ((λi k=>(c9 k:Rat)*A i k) i k):=λk L i Q=>(gi k L).2.2 i Q;generalize ayN:(λ(i k:Nat)=>(c9 k:Rat)*A i k)=ME at *
 have vx:fF (2^(c+N*b+b)) (gI p (qC ME σ p)):=by
  rcases ko N with ax|ax
  ·have iQ:p=0:=by omega
   subst iQ;exact⟨1,by rfl,I3⟩
  ·refine ML e2 aF rp (λi Q=>hσ i (by omega)) (lJ p) (by rw[MJ];exact aF) 0 (by omega) (λm hm _=>by have:=zr.1 hm;omega) ?_ _ (by rw[ad ax];exact cH _)
   have:∀p,(lJ p).count 0<=1:=by
    intro p
    induction p with
    |zero=>simp[lJ]
    |succ p aN =>
     simp only[lJ];rw[akD]
     by_cases iQ:p=0
     ·subst iQ;simp[lJ]
     ·rw[ag (by simpa using iQ)];exact aN
   exact this p
 obtain⟨d,xj,s6⟩:=vx
 have xi:d≠0:=by
  intro ax;rw[xj,ax] at lX;exact lX (by rfl)
 obtain⟨ayO,MM,-⟩:=gi N (cH _);have ta:(N+1)*b=N*b+b:=py N b;rw[ag (by omega)] at MM
 have zs:∃s:Int,(s=1\/s = -1)/\(((c9 N:Int)*d).natAbs:Int)=s*((c9 N:Int)*d):=by
  rcases Int.natAbs_eq ((c9 N:Int)*d) with e|e
  ·exact⟨1,.inl rfl,by omega⟩
  ·exact⟨-1,.inr rfl,by omega⟩
 obtain⟨s,-,U⟩:=zs;have ax:(c9 N:Int)*d≠0:=y5 (by omega) xi;refine⟨((c9 N:Int)*d).natAbs,Int.natAbs_pos.2 ax,?_,λi Q=>?_⟩
 ·rw[tb,k4];refine e4 (wx MM s6) ?_;rw[<-su];exact nK (by omega) (by omega)
 ·obtain⟨c5,ayP,I2,FI,Df⟩:=akv a8 aF (by omega:i<p) (by omega:p<=N) (cH N);obtain⟨m,MN,RK⟩:=ML e2 aF rp (λi Q=>hσ i (by omega)) c5 (by omega) N (cH _) (λm hm om=>by rcases I2 m hm with h|h<;>omega) FI _ (cH _)
  rw[ad (by omega),MN,xj] at Df;have s5:=FG i (by omega);refine⟨s*(c9 i*m),?_⟩;have e:((((c9 N:Int)*d).natAbs:Nat):Rat)=((((c9 N:Int)*d).natAbs:Int):Rat):=(nW _).symm;rw[e,U,sq,sq,sq,sq,<-Df,nW,nW];grind
def cK (N:Nat)(x:Nat->Rat):List a7:=((eN N).map x).map al
theorem nX (N:Nat)(x:Nat->Rat):(cK N x).length=N:=by simp[cK]
theorem pY {N k:Nat}(x:Nat->Rat)(h:k<N):(cK N x)[k]?=some (al (x k)):=by
 unfold cK;rw[bj,bj,tU h];rfl
theorem I4 {N:Nat}{l:List a7}{x:Nat->Rat}(aw:(D l)=N)(h:∀k,k<N->l[k]?=some (al (x k))):l=cK N x:=by
 apply oR;intro k;rcases g2 k N with L|L
 ·rw[h k L,pY x L]
 ·rw[ja (by omega),ja (by rw[nX];omega)]
theorem wC {N:Nat}{x y:Nat->Rat}(h:∀k,k<N->x k=y k):cK N x=cK N y :=
 I4 (nX N x) λk L=>by rw[pY x L,h k L]
theorem RL {N:Nat}{x:Nat->Rat}(fK:N<=40)(h:∀k,k<N->dx (x k)):hC (cK N x):=by
 refine⟨by rw[nX];omega,λf aC=>?_⟩
 obtain⟨k,L⟩:=List.mem_iff_getElem?.1 aC;have Zp:k<N:=by have:=(ej.1 L).1;rwa [nX] at this
 rw[pY x Zp] at L
 cases L;exact jY (h k Zp)
def akF (N:Nat)(bn:e9)(x:Nat->Rat):Prop:=(∀y,ik N bn (ext N y (-1))↔∀k,k<N->y k=x k)/\∀y,ik N bn (ext N y 0)->∀k,k<N->y k=0
def Dg (N:Nat)(bn:e9):Prop:=∃y,ik N bn (ext N y 0)/\∃k,k<N/\y k≠0
theorem ayR {N:Nat}{rows:List dH}{aZ:e9}(h:xS N rows aZ):rows.map (uV N)=cK N (λi=>aZ i N) :=
 I4 (by rw[aE];exact h.1) λk L=>by
  obtain⟨x,M,-,m7⟩:=h.row L;rw[bj,M,lu];unfold uV;rw[ep,m7.get (cH _)]
  rfl
theorem IY.akG {N:Nat}{aZ wy:e9}{rows:List dH}{p c:Nat}{da:Nat->Nat}(h:IY N aZ wy rows p c da){i k:Nat}(Q:i<N)(L:k<=N):dx (wy i k):=by
 obtain⟨x,-,-,m7⟩:=h.enc.row Q;exact m7.2 k L
theorem akH {q:Rat}(h:dx q):l0 0 (-q)=true:=by
 unfold l0;simp only[fw]
 have G:hr ((-q).num*((0:Rat).den:Int))=true:=by
  rw[akr,MO];unfold hr;rw[decide_eq_true_eq];have:=h.1;omega
 refine⟨?_,G,?_,?_⟩
 ·rw[MP,y1];decide +kernel
 ·rw[MP,y1,Int.zero_add];exact G
 ·rw[MO,Rat.neg_den];unfold hr;rw[decide_eq_true_eq];have:=h.2;omega
theorem akI:dx 0:=⟨by decide +kernel,by decide +kernel⟩
theorem ayS {N f:Nat}{rows:List dH}{aZ:e9}(h:xS N rows aZ)(aC:f<N):Mm rows f N f=cK N (tA aZ f) :=
 I4 (axb _ _ _ _) λk L=>by
  unfold Mm;rw[bj,tU L,lu];unfold tA
  by_cases G:k<f
  ·rw[ad G,ad G];obtain⟨x,-,ex,m7⟩:=h.row (i:=k) (by omega);rw[ex,m7.cell (by omega),<-ajf,LK akI (m7.2 f (by omega)),akH (m7.2 f (by omega))]
   rfl
  ·rw[ag G,ag G]
   by_cases J:k=f
   ·rw[ad J,ad J,axa]
   ·rw[ag J,ag J,ajf]
theorem aa4 {N:Nat}{bn aZ:e9}(h:∀y,ik N aZ y↔ik N bn y):∀y z,ik N aZ (ext N y z)↔ik N bn (ext N y z):=λ_ _=>h _
theorem ayT {rs:List b9}{n:Int}(h:ig rs n=true):
  (o8 rs n=([],6)) \/
  (∃x,o8 rs n=(cK (D rs) x,0)/\ZW rs n=([],false)/\(∀k,k<(D rs)->dx (x k))/\akF (D rs) (rz rs) x) \/
  (∃y,o8 rs n=([],17)/\ZW rs n=(cK (D rs) y,true)/\(∀k,k<(D rs)->dx (y k))/\ik (D rs) (rz rs) (ext (D rs) y 0)/\∃k,k<D rs/\y k=1):=by
 unfold o8 ZW;rw[ad h];rcases M:oH true rs with ⟨xU,ss,bad⟩
 cases bad
 ·right
  obtain⟨aZ,p,c,da,he,-,U⟩:=ayD true h M;rw[ad h];rcases U rfl with ⟨rfl,rfl,rfl,jt⟩|⟨f,rfl,aC,rfl,rfl,jt,a3⟩
  ·left
   refine⟨λi=>aZ i (D rs),?_,rfl,λk L=>he.akG L (cH _),λy=>?_,λy aj=>?_⟩
   ·rw[ag (by simp),ag (by simp),ayR he.enc]
   ·rw[<-aa4 he.IZ];exact aj2 he.red jt y
   ·exact ayk he.red jt y ((aa4 he.IZ y 0).2 aj)
  ·right
   refine⟨tA aZ c,?_,?_,λk L=>?_,?_,⟨c,aC,by unfold tA;simp⟩⟩
   ·rw[ag (by simp),ad (by simp)]
   ·rw[ag (by simp)];exact congrArg (λl=>(l,true)) (ayS he.enc aC)
   ·unfold tA
    split
    ·exact ahR (akH (he.akG L (by omega)))
    ·split
     ·exact⟨by decide +kernel,by decide +kernel⟩
     ·exact akI
   ·exact (aa4 he.IZ _ _).1 (aj3 he.red jt aC a3)
 ·left
  rw[ad rfl]
theorem akJ (aZ:e9){N p s:Nat}(aF:p<N)(U:p<=s)(wq:s<N){i:Nat}(Q:i<N):∃bm,bm<N/\hD aZ p s i=aZ bm:=by
 unfold hD
 by_cases G:i=s
 ·exact⟨p,aF,by rw[ad G]⟩
 ·by_cases J:i=p
  ·exact⟨s,wq,by rw[ag G,ad J]⟩
  ·exact⟨i,Q,by rw[ag G,ag J]⟩
theorem akK (b:Nat)(p:Prop)[Decidable p]:eA b (if p then 1 else 0):=by
 have ah:1<=2^b:=I3
 split
 ·exact⟨ah,ah⟩
 ·exact⟨fm _,ah⟩
theorem mD.all {N p c b v:Nat}{A aZ:e9}{da:Nat->Nat}(e2:N^N<=2^c)(dV:rA N A b v)(ah:b<=v)(h:mD N A aZ p)(Y:ru N aZ p p da)(jt:∀j,j<p->da j=j)(aF:p<=N){i k:Nat}(Q:i<N)(L:k<=N):eA (c+(N+1)*b+v) (aZ i k):=by
 by_cases akL:k<p
 ·have:=Y.unit k akL i Q;rw[jt k akL] at this;rw[this];exact akK _ _
 ·refine (h.sz e2 dV aF Q (by omega) L).mono ?_
  split<;>omega
theorem ayU {N p s c b v:Nat}{A aZ:e9}{da:Nat->Nat}(e2:N^N<=2^c)(dV:rA N A b v)(ah:b<=v)(h:mD N A aZ p)(Y:ru N aZ p p da)(jt:∀j,j<p->da j=j)(aF:p<N)(U:p<=s)(wq:s<N)(b6:aZ s p≠0)(hP:2*(c+(N+1)*b+v)+(c+(N+2)*b)+1<1200):akh N (hD aZ p s) p p:=by
 have J:=h.step aF U wq b6;have a8:=Y.Fs aF U wq b6
 have ayV:∀j,j<p+1->(if j=p then p else da j)=j:=λj aA=>by
  split
  ·omega
  ·exact jt j (by omega)
 have av:(N+2)*b=(N+1)*b+b:=py (N+1) b
 have dB:∀i,i<N->∀k,k<=N->eA (c+(N+1)*b+v) (hD aZ p s i k):=by
  intro i Q k L;obtain⟨bm,G,e⟩:=akJ aZ aF U wq Q;rw[e];exact h.all e2 dV ah Y jt (by omega) G L
 have FH:∀i,i<N->eA (c+(N+2)*b) (hD aZ p s i p):=by
  intro i Q;obtain⟨bm,G,e⟩:=akJ aZ aF U wq Q;rw[e];have:=h.sz e2 dV (by omega) G (cH p) (by omega);rw[ad aF] at this;exact this.mono (by omega)
 have akM:∀k,k<=N->eA (c+(N+1)*b+v) (hD aZ p s p k/hD aZ p s p p):=by
  intro k L;have:=J.all e2 dV ah a8 ayV (by omega) (i:=p) aF L;unfold pa at this;rwa [ad rfl] at this
 refine⟨λk L=>aa0 (dB p aF k L) (FH p aF) (by omega),λi Q _ _ k L=>?_⟩;unfold sr;rw[fw];exact⟨MH (FH i Q) (akM k L) (by omega),zq (dB i Q k L) (wA (Bk (FH i Q) (akM k L))) (by omega)⟩
theorem ayW {N c b v:Nat}{A:e9}(e2:N^N<=2^c)(dV:rA N A b v)(ah:b<=v)(hP:2*(c+(N+1)*b+v)+(c+(N+2)*b)+1<1200):
  ∀k p rows aZ da,p+k=N->IY N A aZ rows p p da->mD N A aZ p->(∀j,j<p->da j=j)->(kG true k p rows [] false).2.2=false:=by
 intro k
 induction k with
 |zero=>intro p rows aZ da _ _ _ _;rfl
 |succ k aN =>
  intro p rows aZ da aF he ab jt;unfold kG;rw[nC,Nat.sub_zero];rcases aki he.enc (r:=p) (c:=p) (by omega) (by omega) with ⟨G,J,af,aT⟩|⟨G,s,iS,nP,xV,aT,bx⟩
  ·rw[G,J,af,ad rfl,ad rfl]
  ·have cM:=ayU e2 dV ah ab he.red jt (by omega) iS nP xV hP;have ah:=bx cM;rw[G,ag (by simp),ah];refine aN (p+1) _ (pa aZ p p s) (λj=>if j=p then p else da j) (by omega) ⟨aT ah,he.red.Fs (by omega) iS nP xV,λy=>(aaq (by omega) nP xV).trans (he.IZ y)⟩ (ab.step (by omega) iS nP xV) λj aA=>?_;show (if j=p then p else da j)=j
   split
   ·omega
   ·exact jt j (by omega)
theorem ayX {rs:List b9}{n:Int}{c b v:Nat}(h:ig rs n=true)(e2:(D rs)^(D rs)<=2^c)(dV:rA (D rs) (rz rs) b v)(ah:b<=v)(hP:2*(c+(D rs+1)*b+v)+(c+(D rs+2)*b)+1<1200):o8 rs n≠([],6):=by
 have M:(oH true rs).2.2=false :=
  ayW e2 dV ah hP (D rs) 0 (hi rs) (rz rs) (λj=>j) (by omega) ⟨akm h,Rq _ _ _,λ_=>Iff.rfl⟩ (mD.start _ _) λj aA=>by omega
 unfold o8;rw[ad h,ag (by rw[M];simp)]
 split
 ·simp
 ·simp
theorem ayY {rs:List b9}{n:Int}{c b v:Nat}(h:ig rs n=true)(e2:(D rs)^(D rs)<=2^c)(dV:rA (D rs) (rz rs) b v)(ah:b<=v)(hP:2*(c+(D rs+1)*b+v)+(c+(D rs+2)*b)+1<1200)(U:¬ Dg (D rs) (rz rs)):
  ∃x,o8 rs n=(cK (D rs) x,0)/\(∀k,k<(D rs)->dx (x k))/\akF (D rs) (rz rs) x:=by
 rcases ayT h with e|⟨x,e,-,G,J⟩|⟨y,-,-,-,G,k,L,aj⟩
 ·exact absurd e (ayX h e2 dV ah hP)
 ·exact⟨x,e,G,J⟩
 ·exact absurd ⟨y,G,k,L,by rw[aj];decide⟩ U
theorem mD.full {N:Nat}{A:e9}(U:¬ Dg N A):∀k p aZ da,p+k=N->ru N aZ p p da->(∀y,ik N aZ y↔ik N A y)->mD N A aZ p->(∀j,j<p->da j=j)->∃aZ da,mD N A aZ N/\ru N aZ N N da/\(∀j,j<N->da j=j)/\∀y,ik N aZ y↔ik N A y
 |0,p,aZ,da,aF,Y,aW,ab,jt=>by
  obtain rfl:p=N:=by omega
  exact⟨aZ,da,ab,Y,jt,aW⟩
 |k+1,p,aZ,da,aF,Y,aW,ab,jt=>by
  by_cases a3:∀i,p<=i->i<N->aZ i p=0
  ·exfalso
   refine U ⟨tA aZ p,(aW _).1 (aj3 Y jt (by omega) a3),p,by omega,?_⟩
   unfold tA;rw[ag (by omega),ad rfl]
   decide
  ·have⟨s,iS,nP,xV⟩:∃s,p<=s/\s<N/\aZ s p≠0:=by
    apply nt;intro h;exact a3 λi G J=>nt λaf=>h ⟨i,G,J,af⟩
   refine mD.full U k (p+1) (pa aZ p p s) (λj=>if j=p then p else da j) (by omega) (Y.Fs (by omega) iS nP xV) (λy=>(aaq (by omega) nP xV).trans (aW y)) (ab.step (by omega) iS nP xV) λj aA=>?_;show (if j=p then p else da j)=j
   split
   ·omega
   ·exact jt j (by omega)
theorem akN {N c b v:Nat}{A:e9}(U:¬ Dg N A)(e2:N^N<=2^c)(dV:rA N A b v){x:Nat->Rat}(M:ik N A (ext N x (-1))):∃bn:Nat,0<bn/\bn<=2^(c+(N+1)*b+v)/\∀i,i<N->∃z:Int,x i*(bn:Rat)=(z:Rat):=by
 obtain⟨aZ,da,⟨σ,G,J,af⟩,-⟩:=mD.full U N 0 A (λj=>j) (by omega) (Rq _ _ _) (λ_=>Iff.rfl) (mD.start _ _) (λj aA=>by omega);refine mD.ayQ (aZ:=λi _=>x i) e2 dV ⟨σ,G,λi Q k sv ib=>?_,af⟩;obtain rfl:k=N:=by omega
 rw[ad Q];have:=M (σ i) (G i Q);rw[MB] at this;grind
theorem ayZ {N:Nat}{A:e9}(U:¬ Dg N A):∃x,ik N A (ext N x (-1)):=by
 obtain⟨aZ,da,-,G,J,af⟩:=mD.full U N 0 A (λj=>j) (by omega) (Rq _ _ _) (λ_=>Iff.rfl) (mD.start _ _) (λj aA=>by omega);exact⟨λi=>aZ i N,(af _).1 ((aj2 G J _).2 λ_ _=>rfl)⟩
end Go.Mini
namespace Go.Mini
open Classical
def Day.W (d:Day)(f:Nat->Nat)(k i:Nat):Rat:=b3 d.dI λc=>if c.to=(i:Int)/\c.aK=k/\c.bP=f k then d.w c else 0
def Day.st (d:Day)(f:Nat->Nat)(i:Nat):Rat:=d.E i+b3 d.dI λc=>if c.to=(i:Int)/\c.bP<f c.aK then c.am else 0
theorem Day.dO.aa5 {d:Day}(ab:d.dO)(f:Nat->Nat)(P:Nat->Prop)(x:Nat->Rat)(i:Nat):(b3 d.dI λc=>if c.to=(i:Int) then (if c.bP=f c.aK/\P c.aK then d.w c*x c.aK else 0) else 0)=cJ d.n λk=>if P k then d.W f k i*x k else 0:=by
 have e:=aav (n:=d.n) ab.aK λk c=>if c.to=(i:Int) then (if c.bP=f k/\P k then d.w c*x k else 0) else 0;rw[<-e];refine nT λk L=>?_
 by_cases fi:P k
 ·rw[ad fi,wB];unfold Day.W;rw[<-Rs];refine wu λc _=>?_
  by_cases G:c.aK=k
  ·by_cases J:c.to=(i:Int)
   ·by_cases af:c.bP=f k
    ·rw[ad G,ad J,ad ⟨af,fi⟩,ad ⟨J,G,af⟩,wB]
    ·rw[ad G,ad J,ag λh=>af h.1,ag λh=>af h.2.2,sn]
   ·rw[ad G,ag J,ag λh=>J h.1,sn]
  ·rw[ag G,ag λh=>G h.2.1,sn]
 ·rw[ag fi];refine IH λc _=>?_
  split
  ·split
   ·rw[ag λh=>fi h.2]
   ·rfl
  ·rfl
theorem Day.dO.RM {d:Day}(ab:d.dO)(f:Nat->Nat)(P:Nat->Prop)(h:Nat->Rat)(i:Nat):d.eZ (d.l f P h) i=d.st f i+cJ d.n λk=>if P k then d.W f k i*(h k-d.bI k (f k)) else 0:=by
 rw[<-ab.aa5 f P (λk=>h k-d.bI k (f k)) i];unfold Day.eZ Day.st;rw[Rat.add_assoc,<-Rr]
 congr 1
 refine wu λc _=>?_;unfold Day.l
 by_cases G:c.to=(i:Int)
 ·rw[ad G,ad G]
  by_cases J:c.bP<f c.aK
  ·have af:c.to=(i:Int)/\c.bP<f c.aK:=⟨G,J⟩;have aT:¬ (c.bP=f c.aK/\P c.aK):=λh=>by have:=h.1;omega
   rw[ad J,ad af,ag aT,iX]
  ·have af:¬ (c.to=(i:Int)/\c.bP<f c.aK):=λh=>J h.2;rw[ag J,ag af,qD]
   by_cases aT:c.bP=f c.aK/\P c.aK
   ·rw[ad aT,ad aT,aT.1]
   ·rw[ag aT,ag aT]
 ·have af:¬ (c.to=(i:Int)/\c.bP<f c.aK):=λh=>G h.1;rw[ag G,ag af,ag G,iX]
def Day.pb (d:Day)(f:Nat->Nat)(P:Nat->Prop):e9:=λi k=>if k<d.n then (if i=k then 1 else 0)-(if P k then d.W f k i else 0) else d.st f i-cJ d.n λk=>if P k then d.W f k i*d.bI k (f k) else 0
theorem aa6 {d:Day}(f:Nat->Nat)(P:Nat->Prop)(x:Nat->Rat)(z:Rat){i:Nat}(Q:i<d.n):m6 d.n (d.pb f P i) (ext d.n x z)=x i-(cJ d.n λk=>if P k then d.W f k i*x k else 0)+(d.st f i-cJ d.n λk=>if P k then d.W f k i*d.bI k (f k) else 0)*z:=by
 rw[MB]
 congr 1
 ·have e:=Bg (n:=d.n) (f:=λk=>if i=k then x k else 0) (j:=i) Q λk _ L=>ag (Ne.symm L);rw[ad rfl] at e;rw[<-e,<-Mv];refine nT λk L=>?_;unfold Day.pb;rw[ad L]
  split<;>split<;>grind
 ·unfold Day.pb;rw[ag (by omega)]
theorem aa7 {d:Day}(ab:d.dO)(f:Nat->Nat)(P:Nat->Prop)(h:Nat->Rat):ik d.n (d.pb f P) (ext d.n h (-1))↔∀i,i<d.n->h i=d.eZ (d.l f P h) i:=by
 have e:∀i,(cJ d.n λk=>if P k then d.W f k i*(h k-d.bI k (f k)) else 0)=(cJ d.n λk=>if P k then d.W f k i*h k else 0)-cJ d.n λk=>if P k then d.W f k i*d.bI k (f k) else 0:=λi=>by
  rw[<-Mv];refine nT λk _=>?_
  split<;>grind
 unfold ik
 constructor
 ·intro dV i Q;have:=dV i Q;rw[aa6 f P h _ Q] at this;rw[ab.RM,e];grind
 ·intro dV i Q;have:=dV i Q;rw[ab.RM,e] at this;rw[aa6 f P h _ Q];grind
structure Good (d:Day) (f:Nat->Nat) (P:Nat->Prop):Prop where
 ok:d.dO
 inv:∃g,Inv d f g
 ez:∀i,P i->i<d.n/\f i<10
 aaC:∀C:Nat->Prop,(∃i,C i)->(∀i,C i->P i)->¬ d.closed f C
theorem Good.akO {d:Day}{f:Nat->Nat}{P:Nat->Prop}(bz:Good d f P){x:Nat->Rat}(M:∀i,i<d.n->x i=cJ d.n λk=>if P k then d.W f k i*x k else 0):∀i,i<d.n->x i=0:=by
 obtain⟨g,Q⟩:=bz.inv;exact aya Q bz.ok bz.ez bz.aaC x λi cI=>by rw[bz.ok.aa5 f P x i];exact M i cI
theorem Good.aa8 {d:Day}{f:Nat->Nat}{P:Nat->Prop}(bz:Good d f P):¬ Dg d.n (d.pb f P):=by
 rintro⟨y,aj,k,L,b6⟩;refine b6 (bz.akO (x:=y) (λi Q=>?_) k L);have:=aj i Q;rw[aa6 f P y _ Q] at this;grind
theorem Good.ex {d:Day}{f:Nat->Nat}{P:Nat->Prop}(bz:Good d f P):∃h:Nat->Rat,∀i,i<d.n->h i=d.eZ (d.l f P h) i:=by
 obtain⟨x,M⟩:=ayZ bz.aa8;exact⟨x,(aa7 bz.ok f P x).1 M⟩
def Day.e0 (d:Day)(f:Nat->Nat)(P:Nat->Prop):Nat->Rat:=if h:∃x:Nat->Rat,∀i,i<d.n->x i=d.eZ (d.l f P x) i then yG h else λ_=>0
theorem Good.e0 {d:Day}{f:Nat->Nat}{P:Nat->Prop}(bz:Good d f P):∀i,i<d.n->d.e0 f P i=d.eZ (d.l f P (d.e0 f P)) i:=by
 have h:=bz.ex;unfold Day.e0;rw[dif_pos h];exact q3 h
theorem ay0 {l:List Nat}{a k:Nat}(h:k<D l):(l++[a]).getD k 0=l.getD k 0:=by
 rw[ep,ep,oe h]
theorem ay1 (l:List Nat)(a:Nat)(aR:Nat->Rat):cJ (l++[a]).length (λk=>aR ((l++[a]).getD k 0))=cJ (D l) (λk=>aR (l.getD k 0))+aR a:=by
 rw[fX,sg,cJ]
 congr 1
 ·refine nT λk L=>?_;rw[ay0 L]
 ·rw[ep,nc (cH _),jy];rfl
def dm (P:Nat->Prop)(n:Nat):List Nat:=(eN n).filter λi=>decide (P i)
theorem RN (P:Nat->Prop)(aR:Nat->Rat):∀n,cJ (dm P n).length (λk=>aR ((dm P n).getD k 0))=cJ n λk=>if P k then aR k else 0
 |0=>rfl
 |n+1=>by
  have aN:=RN P aR n;unfold dm at aN ⊢;rw[pZ,sw]
  by_cases fi:P n
  ·rw[rB (by simpa using fi),qE,ay1,aN,cJ,ad fi]
  ·rw[tC (by simpa using fi),qE,gS,aN,cJ,ag fi,iX]
theorem Dh {P:Nat->Prop}{n k:Nat}(h:k<(dm P n).length):(dm P n).getD k 0<n/\P ((dm P n).getD k 0):=by
 have hm:(dm P n).getD k 0∈dm P n:=by
  rw[ep,bq h];exact lq h
 unfold dm at hm ⊢;rw[aaO,iM,decide_eq_true_eq] at hm;exact hm
def Day.u0 (d:Day)(f:Nat->Nat)(p:List Nat):e9:=λi k=>if k<(D p) then (if i=k then 1 else 0)-d.W f (p.getD k 0) (p.getD i 0) else d.st f (p.getD i 0)-d.bI (p.getD i 0) (f (p.getD i 0))
theorem akP {d:Day}(f:Nat->Nat)(p:List Nat)(x:Nat->Rat)(z:Rat){i:Nat}(Q:i<D p):m6 (D p) (d.u0 f p i) (ext (D p) x z)=x i-(cJ (D p) λk=>d.W f (p.getD k 0) (p.getD i 0)*x k)+(d.st f (p.getD i 0)-d.bI (p.getD i 0) (f (p.getD i 0)))*z:=by
 rw[MB]
 congr 1
 ·have e:=Bg (n:=D p) (f:=λk=>if i=k then x k else 0) (j:=i) Q λk _ L=>ag (Ne.symm L);rw[ad rfl] at e;rw[<-e,<-Mv];refine nT λk L=>?_;unfold Day.u0;rw[ad L]
  split<;>grind
 ·unfold Day.u0;rw[ag (by omega)]
theorem Good.small {d:Day}{f:Nat->Nat}{P:Nat->Prop}(bz:Good d f P):¬ Dg (dm P d.n).length (d.u0 f (dm P d.n)):=by
 rintro⟨y,aj,k,L,b6⟩
 have G:∀r,r<(dm P d.n).length->y r=cJ (dm P d.n).length λk=>d.W f ((dm P d.n).getD k 0) ((dm P d.n).getD r 0)*y k:=λr Y=>by
  have:=aj r Y;rw[akP f _ y _ Y] at this;grind
 have J:=bz.akO (x:=λi=>cJ (dm P d.n).length λk=>d.W f ((dm P d.n).getD k 0) i*y k) (λi Q=>by
  rw[<-RN P (λk=>d.W f k i*cJ (dm P d.n).length λk'=>d.W f ((dm P d.n).getD k' 0) k*y k') d.n];exact nT λr Y=>by rw[G r Y]) ((dm P d.n).getD k 0) (Dh L).1
 refine b6 ?_;rw[G k L];exact J
theorem Good.akQ {d:Day}{f:Nat->Nat}{P:Nat->Prop}(bz:Good d f P):ik (dm P d.n).length (d.u0 f (dm P d.n)) (ext (dm P d.n).length (λk=>d.e0 f P ((dm P d.n).getD k 0)-d.bI ((dm P d.n).getD k 0) (f ((dm P d.n).getD k 0))) (-1)):=by
 intro r Y;rw[akP f _ _ _ Y,RN P (λk=>d.W f k ((dm P d.n).getD r 0)*(d.e0 f P k-d.bI k (f k))) d.n];have:=bz.e0 _ (Dh Y).1;rw[bz.ok.RM] at this;grind
theorem Good.akR {d:Day}{f:Nat->Nat}{P:Nat->Prop}(bz:Good d f P){i:Nat}(Q:i<d.n):d.e0 f P i=d.st f i+cJ (dm P d.n).length λk=>d.W f ((dm P d.n).getD k 0) i*(d.e0 f P ((dm P d.n).getD k 0)-d.bI ((dm P d.n).getD k 0) (f ((dm P d.n).getD k 0))):=by
 rw[RN P (λk=>d.W f k i*(d.e0 f P k-d.bI k (f k))) d.n,<-bz.ok.RM];exact bz.e0 i Q
theorem iA.good {d:Day}(ab:d.dO){f:Nat->Nat}{g:Nat->Rat}(Q:Inv d f g){P:Nat->Prop}{h:Nat->Rat}(aF:iA d f g P h):Good d f P:=⟨ab,⟨g,Q⟩,aF.ez,aF.aaC⟩
theorem Good.none {d:Day}(ab:d.dO){f:Nat->Nat}{g:Nat->Rat}(Q:Inv d f g):Good d f λ_=>False:=⟨ab,⟨g,Q⟩,λ_ h=>h.elim,λ_ ⟨i,h⟩ cW=>(cW i h).elim⟩
theorem iA.first {d:Day}(ab:d.dO){f:Nat->Nat}{g:Nat->Rat}(Q:Inv d f g):iA d f g (λ_=>False) (d.e0 f λ_=>False):=iA.start ab Q (Good.none ab Q).e0
theorem iA.succ {d:Day}(ab:d.dO){f:Nat->Nat}{g:Nat->Rat}(Q:Inv d f g){P:Nat->Prop}{h:Nat->Rat}(aF:iA d f g P h):iA d f g (tz d f P h) (d.e0 f (tz d f P h)):=aF.next ab Q (Good.e0 ⟨ab,⟨g,Q⟩,aF.IP,aF.ajW ab Q⟩)
def idle (d:Day)(P:Nat->Prop):Nat:=jL d.n λi=>if P i then 0 else 1
theorem akS {d:Day}{f:Nat->Nat}{P:Nat->Prop}{h:Nat->Rat}{i:Nat}(Q:i<d.n)(aC:f i<10)(ns:d.bI i (f i)<h i)(fi:¬ P i):idle d (tz d f P h)<idle d P:=by
 refine aaN (j:=i) (λj _=>?_) Q ?_
 ·by_cases aA:P j
  ·have G:tz d f P h j:=Or.inl aA;rw[ad G,ad aA];exact cH _
  ·rw[ag aA];split<;>omega
 ·have G:tz d f P h i:=Or.inr ⟨Q,aC,ns⟩;rw[ad G,ag fi];omega
theorem iA.top {d:Day}(ab:d.dO){f:Nat->Nat}{g:Nat->Rat}(Q:Inv d f g):∀m (P:Nat->Prop) (h:Nat->Rat),idle d P<=m->iA d f g P h->∃h,nU d f h
 |m,P,h,hm,aF=>by
  by_cases U:∀i,i<d.n->f i<10->d.bI i (f i)<h i->P i
  ·exact⟨h,g,Q,aF.stop ab Q U,aF.le⟩
  ·have⟨i,G,J,af,aT⟩:∃i,i<d.n/\f i<10/\d.bI i (f i)<h i/\¬ P i:=by
    apply nt;intro aM;exact U λi G J af=>nt λaT=>aM ⟨i,G,J,af,aT⟩
   have az:=akS (h:=h) G J af aT
   cases m with
   |zero=>omega
   |succ m=>exact iA.top ab Q m _ _ (by omega) (aF.succ ab Q)
theorem ay2 {d:Day}(ab:d.dO){f:Nat->Nat}(Y:Reach d f):∃h,nU d f h:=by
 obtain⟨g,Q,-⟩:=Y;exact iA.top ab Q _ _ _ (cH _) (iA.first ab Q)
theorem iA.aa9 {d:Day}(ab:d.dO){f:Nat->Nat}{g:Nat->Rat}(Q:Inv d f g){P:Nat->Prop}{h:Nat->Rat}(aF:iA d f g P h)(U:∀i,i<d.n->f i<10->d.bI i (f i)<h i->P i):∀i,i<d.n->h i=d.top f i :=
 have ca:nU d f h:=⟨g,Q,aF.stop ab Q U,aF.le⟩
 ca.unique ab (Day.zp ⟨h,ca⟩)
end Go.Mini
namespace Go.Mini
open Classical
def nY:Nat->(Nat->Nat)->Nat
 |0,_=>1
 |n+1,c9=>nY n c9*c9 n
theorem aba {n:Nat}{c9:Nat->Nat}(h:∀k,k<n->0<c9 k):0<nY n c9:=by
 induction n with
 |zero=>exact akT
 |succ n aN=>exact abb (aN λk L=>h k (by omega)) (h n (by omega))
theorem abc {n b:Nat}{c9:Nat->Nat}(h:∀k,k<n->c9 k<=2^b):nY n c9<=2^(n*b):=by
 induction n with
 |zero=>simp[nY]
 |succ n aN =>
  rw[py,su];exact wx (aN λk L=>h k (by omega)) (h n (by omega))
theorem abd {n:Nat}{c9:Nat->Nat}{k:Nat}(L:k<n):∃m,nY n c9=c9 k*m:=by
 induction n with
 |zero=>omega
 |succ n aN =>
  by_cases k9:k=n
  ·subst k9;exact⟨nY k c9,sY _ _⟩
  ·obtain⟨m,hm⟩:=aN (by omega);exact⟨m*c9 n,by rw[nY,hm,aaV]⟩
def ft (bn:Nat)(x:Rat):Prop:=∃z:Int,x*(bn:Rat)=(z:Rat)
theorem ft.add {bn:Nat}{x y:Rat}(M:ft bn x)(aj:ft bn y):ft bn (x+y):=by
 obtain⟨a,aW⟩:=M;obtain⟨b,ah⟩:=aj;exact⟨a+b,by rw[Bj,<-aW,<-ah];grind⟩
theorem ft.sub {bn:Nat}{x y:Rat}(M:ft bn x)(aj:ft bn y):ft bn (x-y):=by
 obtain⟨a,aW⟩:=M;obtain⟨b,ah⟩:=aj;exact⟨a-b,by rw[RC,<-aW,<-ah];grind⟩
theorem ft.mul {bn N:Nat}{x y:Rat}(M:ft bn x)(aj:ft N y):ft (bn*N) (x*y):=by
 obtain⟨a,aW⟩:=M;obtain⟨b,ah⟩:=aj;exact⟨a*b,by rw[sq,<-aW,<-ah,RO];grind⟩
theorem ft.int (bn:Nat)(z:Int):ft bn (z:Rat):=⟨z*bn,by rw[sq,nW]⟩
theorem ft.zero (bn:Nat):ft bn 0:=⟨0,by rw[Bh];rfl⟩
theorem ft.more {bn:Nat}{x:Rat}(h:ft bn x)(N:Nat):ft (bn*N) x:=by
 obtain⟨a,aW⟩:=h;exact⟨a*N,by rw[sq,<-aW,RO,nW];grind⟩
theorem ft.of_dvd {bn N:Nat}{x:Rat}(h:ft bn x)(ab:∃m,N=bn*m):ft N x:=by
 obtain⟨m,rfl⟩:=ab;exact h.more m
theorem ft.b3 {bn:Nat}{l:List ef}{aR:ef->Rat}(h:∀c∈l,ft bn (aR c)):ft bn (b3 l aR):=by
 induction l with
 |nil=>exact ft.zero bn
 |cons c l aN=>exact (h c g3).add (aN λx M=>h x (hO _ M))
theorem ft.cJ {bn n:Nat}{aR:Nat->Rat}(h:∀k,k<n->ft bn (aR k)):ft bn (cJ n aR):=by
 induction n with
 |zero=>exact ft.zero bn
 |succ n aN=>exact (aN λk L=>h k (by omega)).add (h n (by omega))
theorem ft.sz {bn a e:Nat}{x:Rat}(h:ft bn x)(e2:0<bn)(MQ:bn<=2^a)(ax:0<=x)(M:x<=((2^e:Nat):Rat)):eA (a+e) x:=by
 obtain⟨z,a3⟩:=h;have sS:(0:Rat)<=(z:Rat):=by rw[<-a3];exact aax ax (by exact_mod_cast fm bn)
 have ay3:(z:Rat)<=((2^e*bn:Nat):Rat):=by
  rw[<-a3,RO];exact Rat.mul_le_mul_of_nonneg_right M (by exact_mod_cast fm bn)
 have ev:0<=z:=by exact_mod_cast sS
 have cB:z<=((2^e*bn:Nat):Int):=by exact_mod_cast ay3
 obtain⟨f1,f2⟩:=Dd (q:=x) (v:=z) (d:=(bn:Int)) (by omega) (by rw[nW];exact a3);rw[k4] at f2;have dA:z.natAbs<=2^e*bn:=by omega
 refine⟨e4 f1 (e4 dA ?_),e4 f2 (e4 MQ (nK (by omega) (by omega)))⟩;rw[su,sY (2^a)];exact Nat.mul_le_mul_left _ MQ
structure fV (E:List Int) (cs:List aG):Prop where
 right:hk E cs=true
 hE:(D E)<=5
 qF:(D cs)<=12
 am:∀c∈cs,c.2.2.2<=33554432
theorem fV.ok {E:List Int}{cs:List aG}(h:fV E cs):(ao E cs).dO:=IW h.right
theorem fV.sum {E:List Int}{cs:List aG}(h:fV E cs)(p:aG->Prop)[DecidablePred p]:0<=cF cs (λc=>if p c then c.2.2.2 else 0)/\cF cs (λc=>if p c then c.2.2.2 else 0)<=536870912:=by
 have:=RA (cs:=cs) (aR:=λc=>if p c then c.2.2.2 else 0) (B:=33554432) (by omega) λc H=>by
  have G:=h.am c H;have J:=((il.1 h.right).2.2.2 c H).2.2.2.2.2.2.1
  try dsimp only
  split<;>omega
 have eP:=h.qF;omega
theorem fV.upto {E:List Int}{cs:List aG}(h:fV E cs)(i r:Int):0<=b4 cs i r/\b4 cs i r<=536870912:=h.sum λc=>c.1=i/\c.2.2.1<r
theorem ay4 {E:List Int}{cs:List aG}(h:hk E cs=true)(i:Int){r s:Int}(w6:r<=s):b4 cs i r<=b4 cs i s:=by
 have aT:=(il.1 h).2.2.2
 have:∀l:List aG,(∀c∈l,0<=c.2.2.2)->cF l (λc=>if c.1=i/\c.2.2.1<r then c.2.2.2 else 0)<=cF l (λc=>if c.1=i/\c.2.2.1<s then c.2.2.2 else 0):=by
  intro l
  induction l with
  |nil=>intro _;exact Int.le_refl _
  |cons c l aN =>
   intro aw;have G:=aN λx M=>aw x (hO _ M);have J:=aw c g3;simp only[cF]
   split<;>split<;>omega
 exact this cs λc H=>(aT c H).2.2.2.2.2.2.1
def kf (cs:List aG)(k r:Nat):Nat:=(b4 cs k (r+1:Nat)-b4 cs k r).toNat
theorem FJ {E:List Int}{cs:List aG}(h:hk E cs=true)(k r:Nat):((kf cs k r:Nat):Rat)=(ao E cs).S k r:=by
 have G:=IX h k r;have J:=ay4 h k (r:=r) (s:=(r+1:Nat)) (by omega);rw[<-G,<-nW];unfold kf;rw[Int.toNat_of_nonneg (by omega)]
theorem fV.Di {E:List Int}{cs:List aG}(h:fV E cs)(k r:Nat):kf cs k r<=2^29:=by
 have G:=h.upto k (r+1:Nat);have J:=h.upto k r;unfold kf;omega
def zt (cs:List aG)(f:Nat->Nat)(k i:Nat):Int:=cF cs λc=>if c.2.1=(i:Int)/\c.1=(k:Int)/\c.2.2.1=(f k:Int) then c.2.2.2 else 0
theorem ay5 {E:List Int}{cs:List aG}(h:hk E cs=true)(f:Nat->Nat){k:Nat}(i:Nat)(dh:0<(ao E cs).S k (f k)):(ao E cs).W f k i*(ao E cs).S k (f k)=((zt cs f k i:Int):Rat):=by
 unfold Day.W zt
 rw[Rz cs _ (λc=>if c.to=(i:Int)/\c.aK=k/\c.bP=f k then c.am else 0) λc H=>by
  have:=(il.1 h).2.2.2 c H;show ((if c.2.1=(i:Int)/\c.1=(k:Int)/\c.2.2.1=(f k:Int) then c.2.2.2 else 0:Int):Rat)=if c.2.1=(i:Int)/\c.1.toNat=k/\c.2.2.1.toNat=f k then (c.2.2.2:Rat) else 0
  by_cases G:c.2.1=(i:Int)/\c.1=(k:Int)/\c.2.2.1=(f k:Int)
  ·rw[ad G,ad (by omega)]
  ·rw[ag G,ag (by omega)];rfl]
 rw[wB,<-Rs];refine wu λc _=>?_
 split
 ·rename_i G;rw[wB];have av:=G.2.1;have aB:=G.2.2;subst av;rw[<-aB] at dh ⊢;exact Day.IK dh
 ·rw[sn]
theorem FK {E:List Int}{cs:List aG}(h:hk E cs=true)(f:Nat->Nat)(i:Nat):((lb E cs f i:Int):Rat)=(ao E cs).st f i:=by
 unfold lb Day.st;rw[Bj]
 congr 1
 refine Rz cs _ (λc=>if c.to=(i:Int)/\c.bP<f c.aK then c.am else 0) λc H=>?_;have:=(il.1 h).2.2.2 c H;show ((if c.2.1=(i:Int)/\c.2.2.1<(f c.1.toNat:Int) then c.2.2.2 else 0:Int):Rat)=if c.2.1=(i:Int)/\c.2.2.1.toNat<f c.1.toNat then (c.2.2.2:Rat) else 0
 by_cases G:c.2.1=(i:Int)/\c.2.2.1<(f c.1.toNat:Int)
 ·rw[ad G,ad (by omega)]
 ·rw[ag G,ag (by omega)];rfl
theorem fV.E {E:List Int}{cs:List aG}(h:fV E cs)(i:Nat):0<=E.getD i 0/\E.getD i 0<=1000000000000000:=by
 rw[ep]
 cases Q:E[i]? with
 |none=>simp
 |some x=>exact (il.1 h.right).2.2.1 x (dn Q)
theorem fV.steady {E:List Int}{cs:List aG}(h:fV E cs)(f:Nat->Nat)(i:Nat):0<=lb E cs f i/\lb E cs f i<=1000000536870912:=by
 have G:=h.E i;have J:=h.sum λc=>c.2.1=(i:Int)/\c.2.2.1<(f c.1.toNat:Int);unfold lb;omega
theorem fF.of {z:Int}{B:Nat}(h:z.natAbs<=B):fF B (z:Rat):=⟨z,rfl,h⟩
theorem fF.nat {z:Nat}{B:Nat}(h:z<=B):fF B (z:Rat):=⟨z,(nW _).symm,by omega⟩
theorem abe {N:Nat}(h:N<=5):N^N<=2^12:=by
 match N,h with
 |0,_|1,_|2,_|3,_|4,_|5,_=>decide
 |n+6,h=>omega
section
variable {E:List Int} {cs:List aG} (U:fV E cs) {f:Nat->Nat} {P:Nat->Prop} (dh:∀k,P k->0<(ao E cs).S k (f k))
include U dh
theorem RP {k:Nat}(L:P k):0<kf cs k (f k):=by
 have G:=dh k L;rw[<-FJ U.right] at G;exact_mod_cast G
theorem abf {k:Nat}(L:P k)(i:Nat):((kf cs k (f k):Nat):Rat)*(ao E cs).W f k i=((zt cs f k i:Int):Rat):=by
 rw[FJ U.right,wB];exact ay5 U.right f i (dh k L)
theorem akU {k:Nat}(L:P k)(i:Nat)(p:Prop)[Decidable p]:fF (2^30) (((kf cs k (f k):Nat):Rat)*((if p then 1 else 0)-(ao E cs).W f k i)):=by
 have e:((kf cs k (f k):Nat):Rat)*((if p then 1 else 0)-(ao E cs).W f k i)=((if p then kf cs k (f k) else 0:Nat):Rat)-((zt cs f k i:Int):Rat):=by
  rw[<-abf U dh L i]
  split<;>grind
 have G:=U.Di k (f k);have J:=U.sum λc=>c.2.1=(i:Int)/\c.1=(k:Int)/\c.2.2.1=(f k:Int)
 rw[e];refine ((fF.nat (B:=2^29) ?_).sub (fF.of (B:=2^29) ?_)).mono (by decide)
 ·split<;>omega
 ·unfold zt;omega
theorem abg:rA (D E) ((ao E cs).pb f P) 30 210:=by
 let c9:Nat->Nat:=λk=>if P k then kf cs k (f k) else 1
 have uU:∀k,0<c9 k:=λk=>by
  show 0<if P k then kf cs k (f k) else 1
  split
  ·exact RP U dh (by assumption)
  ·omega
 have rn:∀k,c9 k<=2^29:=λk=>by
  show (if P k then kf cs k (f k) else 1)<=2^29
  split
  ·exact U.Di k _
  ·decide
 have aM:=U.hE;have uX:nY (D E) c9<=2^145:=e4 (abc λk _=>rn k) (nK (by omega) (by omega));refine⟨λk=>if k<(D E) then c9 k else nY (D E) c9,λk L=>?_⟩;have j8:(ao E cs).n=D E:=rfl
 by_cases k9:k<D E
 ·dsimp only;rw[ad k9,ad k9];refine⟨uU k,e4 (rn k) (by decide),λi Q=>?_⟩;unfold Day.pb;rw[ad (by rw[j8];exact k9)]
  by_cases fi:P k
  ·have e:c9 k=kf cs k (f k):=ad fi;rw[e,ad fi];exact akU U dh fi i _
  ·have e:c9 k=1:=ag fi;rw[e,ag fi];have:(((1:Nat):Rat)*((if i=k then 1 else 0)-0))=((if i=k then 1 else 0:Nat):Rat):=by split<;>simp<;>grind
   rw[this];exact fF.nat (by split<;>decide)
 ·dsimp only;rw[ag k9,ag k9];refine⟨aba λk _=>uU k,e4 uX (nK (by omega) (by omega)),λi Q=>?_⟩;unfold Day.pb;rw[ag (by rw[j8];exact k9),j8]
  have e:((nY (D E) c9:Nat):Rat)*((ao E cs).st f i-cJ (D E) λk=>if P k then (ao E cs).W f k i*(ao E cs).bI k (f k) else 0)=((nY (D E) c9:Nat):Rat)*(ao E cs).st f i-cJ (D E) λk=>((nY (D E) c9:Nat):Rat)*(if P k then (ao E cs).W f k i*(ao E cs).bI k (f k) else 0):=by
   rw[IE];grind
  rw[e]
  have G:fF (2^196) (((nY (D E) c9:Nat):Rat)*(ao E cs).st f i):=by
   rw[<-FK U.right];have:=U.steady f i;refine ((fF.nat uX).mul (fF.of (B:=2^51) (by omega))).mono ?_;rw[<-su];exact cH _
  have J:∀k,k<(D E)->fF (2^203) (((nY (D E) c9:Nat):Rat)*(if P k then (ao E cs).W f k i*(ao E cs).bI k (f k) else 0)):=by
   intro k L
   by_cases fi:P k
   ·rw[ad fi];obtain⟨m,hm⟩:=abd (c9:=c9) L;have gi:c9 k=kf cs k (f k):=ad fi
    have o0:m<=2^145:=by
     refine e4 ?_ uX;rw[hm];exact Nat.le_mul_of_pos_left _ (uU k)
    have aB:((nY (D E) c9:Nat):Rat)*((ao E cs).W f k i*(ao E cs).bI k (f k))=((m:Nat):Rat)*((zt cs f k i:Int):Rat)*((b4 cs k (f k):Int):Rat):=by
     rw[hm,gi,<-abf U dh fi i,<-pX U.right k (f k),RO];grind
    rw[aB];have af:=U.upto k (f k);have aT:=U.sum λc=>c.2.1=(i:Int)/\c.1=(k:Int)/\c.2.2.1=(f k:Int)
    refine (((fF.nat o0).mul (fF.of (B:=2^29) (by unfold zt;omega))).mul (fF.of (B:=2^29) (by omega))).mono ?_;rw[<-su,<-su];exact cH _
   ·rw[ag fi,sn];exact fF.zero
  refine (G.sub (fF.sum (D E) J)).mono ?_;have bx:(D E)*2^203<=2^3*2^203:=og _ (by omega);rw[<-su] at bx;have b0:2^196<=2^206:=nK (by omega) (by omega);have bV:2^206+2^206=2^207:=by rw[<-Nat.two_mul,vB,sY]
  have cu:2^207<=2^210:=nK (by omega) (by omega);have eK:(3:Nat)+203=206:=rfl;rw[eK] at bx;exact e4 (Nat.add_le_add b0 bx) (by rw[bV];exact cu)
theorem abh (p:List Nat)(aF:∀k,k<(D p)->P (p.getD k 0)):rA (D p) ((ao E cs).u0 f p) 30 52:=by
 refine⟨λk=>if k<(D p) then kf cs (p.getD k 0) (f (p.getD k 0)) else 1,λk L=>?_⟩
 by_cases k9:k<D p
 ·dsimp only;rw[ad k9,ad k9];refine⟨RP U dh (aF k k9),e4 (U.Di _ _) (by decide),λi Q=>?_⟩;unfold Day.u0;rw[ad k9];exact akU U dh (aF k k9) _ _
 ·dsimp only;rw[ag k9,ag k9];refine⟨akT,I3,λi Q=>?_⟩;unfold Day.u0;rw[ag k9,<-FK U.right,<-pX U.right];have G:=U.steady f (p.getD i 0);have J:=U.upto (p.getD i 0:Nat) (f (p.getD i 0))
  have e:((1:Nat):Rat)*(((lb E cs f (p.getD i 0):Int):Rat)-((b4 cs (p.getD i 0:Nat) (f (p.getD i 0)):Int):Rat))=((lb E cs f (p.getD i 0)-b4 cs (p.getD i 0:Nat) (f (p.getD i 0)):Int):Rat):=by
   rw[RC];have:((1:Nat):Rat)=1:=rfl;rw[this,MC]
  rw[e];exact fF.of (by omega)
end
end Go.Mini
namespace Go.Mini
open Go Classical
theorem iY {b:Nat}{q:Rat}(h:eA b q)(ah:b<1200):dx q:=by
 obtain⟨B,kp,fP⟩:=ako;have:2^b<dQ:=by rw[fP];exact akp (by omega) (by omega)
 exact⟨uo h.1 this,uo h.2 this⟩
def rowsOf (N:Nat)(A:e9):List b9:=(eN N).map λi=>(cK N (A i),al (A i N))
theorem wD (N:Nat)(A:e9):(rowsOf N A).length=N:=by simp[rowsOf]
theorem abi {N i:Nat}(A:e9)(h:i<N):(rowsOf N A)[i]?=some (cK N (A i),al (A i N)):=by
 unfold rowsOf;rw[bj,tU h];rfl
theorem ay6 {N i k:Nat}(A:e9)(Q:i<N)(L:k<=N):rz (rowsOf N A) i k=A i k:=by
 unfold rz;rw[akl (abi A Q),wD]
 by_cases h:k<N
 ·rw[ad h,ep,pY _ h,Ku,EX]
 ·rw[ag h,EX,show k=N by omega]
theorem FL {x:Rat}(h:dx x):di (al x)=true:=(AM _).2 ⟨x,h,rfl⟩
theorem ay7 {N:Nat}{A:e9}(fK:N<=40)(aw:∀i,i<N->∀k,k<=N->dx (A i k)):ig (rowsOf N A) N=true:=by
 unfold ig
 have af:(rowsOf N A).any (kA N)=false:=by
  rw[wi];intro r Y;obtain⟨i,Q,rfl⟩:=fO.1 Y;have Q:=iM.1 Q;unfold kA y8;simp only[nX,beq_self_eq_true,fD,FL (aw i Q N (cH _))]
  have:(cK N (A i)).any (λf => !di f)=false:=by
   rw[wi];intro f aC;unfold cK at aC;obtain⟨x,M,rfl⟩:=fO.1 aC;obtain⟨k,L,rfl⟩:=fO.1 M;rw[FL (aw i Q k (by have:=iM.1 L;omega))]
   decide
  rw[this];decide
 rw[af,wD];simp only[fw,I0,decide_eq_false_iff_not,beq_self_eq_true,db,and_true];omega
theorem akV {N:Nat}{A:e9}(fK:N<=40)(aw:∀i,i<N->∀k,k<=N->dx (A i k)):kz (rowsOf N A):=by
 refine⟨by rw[wD];omega,λr Y=>?_⟩
 obtain⟨i,Q,rfl⟩:=fO.1 Y;have Q:=iM.1 Q;exact⟨RL fK λk L=>aw i Q k (by omega),jY (aw i Q N (cH _))⟩
theorem akW {N:Nat}{a b y:Nat->Rat}(h:∀k,k<=N->a k=b k):m6 N a y=m6 N b y:=nT λk L=>by rw[h k (by omega)]
theorem ik.congr {N:Nat}{A B:e9}(h:∀i,i<N->∀k,k<=N->A i k=B i k)(y:Nat->Rat):ik N A y↔ik N B y:=by
 unfold ik
 constructor
 ·intro dV i Q;rw[<-akW (h i Q)];exact dV i Q
 ·intro dV i Q;rw[akW (h i Q)];exact dV i Q
theorem rA.congr {N b v:Nat}{A B:e9}(h:∀i,i<N->∀k,k<=N->A i k=B i k)(U:rA N A b v):rA N B b v:=by
 obtain⟨c9,gi⟩:=U;exact⟨c9,λk L=>⟨(gi k L).1,(gi k L).2.1,λi Q=>by rw[<-h i Q k L];exact (gi k L).2.2 i Q⟩⟩
theorem rA.sz {N b v:Nat}{A:e9}(U:rA N A b v)(ah:b<=v){i k:Nat}(Q:i<N)(L:k<=N):eA v (A i k):=by
 obtain⟨c9,gi⟩:=U;obtain⟨G,J,af⟩:=gi k L;obtain⟨z,a3,RQ⟩:=af i Q;have hle:2^(if k<N then b else v)<=2^v:=nK (by omega) (by split<;>omega);obtain⟨f1,f2⟩:=Dd (q:=A i k) (v:=z) (d:=(c9 k:Int)) (by omega) (by rw[<-a3,nW,wB]);rw[k4] at f2;exact⟨e4 f1 (e4 RQ hle),e4 f2 (e4 J hle)⟩
theorem akX {N b v:Nat}{A:e9}(fK:N<=5)(U:rA N A b v)(ah:b<=30)(aD:v<=210)(akY:b<=v)(zm:¬ Dg N A){x:Nat->Rat}(M:ik N A (ext N x (-1))):
  o8 (rowsOf N A) N=(cK N x,0)/\ig (rowsOf N A) N=true/\∀k,k<N->dx (x k):=by
 have aw:∀i,i<N->∀k,k<=N->dx (A i k):=λi Q k L=>iY (U.sz akY Q L) (by omega);have Y:=ay7 (by omega) aw;have H:∀i,i<N->∀k,k<=N->A i k=rz (rowsOf N A) i k:=λi Q k L=>(ay6 A Q L).symm;have jS:=U.congr H
 have ay8:¬ Dg N (rz (rowsOf N A)):=by
  rintro⟨y,aj,h⟩;exact zm ⟨y,(ik.congr H _).2 aj,h⟩
 have G:(N+1)*b<=6*30:=wx (by omega) ah;have J:(N+2)*b<=7*30:=wx (by omega) ah;obtain⟨y,av,aB,bp⟩:=ayY (rs:=rowsOf N A) (n:=N) (c:=12) (b:=b) (v:=v) Y (by rw[wD];exact abe fK) (by rw[wD];exact jS) akY (by rw[wD];omega) (by rw[wD];exact ay8);rw[wD] at av aB bp;have g4:∀k,k<N->x k=y k:=(bp.1 x).1 ((ik.congr H _).1 M);exact⟨by rw[av,wC λk L=>(g4 k L).symm],Y,λk L=>by rw[g4 k L];exact aB k L⟩
structure rC (d:Day) (f:Nat->Nat) (P:Nat->Prop):Prop where
 ok:d.dO
 ex:∃g,Inv d f g/\iA d f g P (d.e0 f P)
theorem rC.good {d:Day}{f:Nat->Nat}{P:Nat->Prop}(h:rC d f P):Good d f P:=by
 obtain⟨G,g,J,af⟩:=h;exact af.good G J
theorem rC.pW {d:Day}{f:Nat->Nat}{P:Nat->Prop}(h:rC d f P):∀k,P k->0<d.S k (f k):=by
 obtain⟨G,g,J,af⟩:=h;exact λk L=>J.pW (af.ez k L).1 (af.ez k L).2
theorem rC.gt {d:Day}{f:Nat->Nat}{P:Nat->Prop}(h:rC d f P):∀k,P k->d.bI k (f k)<d.e0 f P k:=by
 obtain⟨G,g,J,af⟩:=h;exact af.ge
theorem iA.akZ {d:Day}(ab:d.dO){f:Nat->Nat}{g:Nat->Rat}{P:Nat->Prop}{h:Nat->Rat}(Q:Inv d f g)(aF:iA d f g P h){c:ef}(H:c∈d.dI):0<=d.l f P h c/\d.l f P h c<=c.am:=by
 have ax:=ab.am c H
 by_cases G:c.bP<f c.aK
 ·rw[Day.ajT G];exact⟨ax,gX⟩
 ·by_cases J:c.bP=f c.aK/\P c.aK
  ·rw[Day.ajU J.1 J.2];have av:=aF.ge _ J.2;have aB:=aF.le _ (ab.aK c H);have bp:=Q.Q _ (ab.aK c H) (aF.ez _ J.2).2;rw[d.xO] at bp;rw[J.1];exact⟨uY (ab.ry H) (by grind),ab.Rv H (by rw[J.1];grind)⟩
  ·rw[Day.aaB G J];exact⟨gX,ax⟩
theorem rC.range {d:Day}{f:Nat->Nat}{P:Nat->Prop}(h:rC d f P){i:Nat}(Q:i<d.n):0<=d.e0 f P i/\d.e0 f P i<=d.eZ (λc=>c.am) i:=by
 obtain⟨G,g,J,af⟩:=h;rw[af.sys i Q];exact⟨G.aaF (λc H=>(af.akZ G J H).1) Q,d.FB (λc H=>(af.akZ G J H).2) i⟩
theorem ay9 {E:List Int}{cs:List aG}(U:fV E cs)(i:Nat):(ao E cs).eZ (λc=>c.am) i<=((2^51:Nat):Rat):=by
 have e:(ao E cs).eZ (λc=>c.am) i=((E.getD i 0+cF cs (λc=>if c.2.1=(i:Int) then c.2.2.2 else 0):Int):Rat):=by
  unfold Day.eZ;rw[Bj]
  congr 1
  refine (Rz cs _ (λc=>if c.to=(i:Int) then c.am else 0) λc H=>?_).symm;show ((if c.2.1=(i:Int) then c.2.2.2 else 0:Int):Rat)=if c.2.1=(i:Int) then (c.2.2.2:Rat) else 0
  split<;>rfl
 rw[e];have G:=U.E i;have J:=U.sum λc=>c.2.1=(i:Int)
 have:E.getD i 0+cF cs (λc=>if c.2.1=(i:Int) then c.2.2.2 else 0)<=((2^51:Nat):Int):=by omega
 rw[<-nW];exact_mod_cast this
theorem Day.dO.aza {d:Day}(ab:d.dO)(f:Nat->Nat)(k i:Nat):0<=d.W f k i:=zn λc H=>by
 split
 ·exact ab.ry H
 ·exact gX
theorem azb {n t:Nat}{T:Nat->Rat}(h:∀k,k<n->0<=T k)(ca:t<=n):cJ t T<=cJ n T:=by
 induction n with
 |zero=>rw[show t=0 by omega];exact gX
 |succ n aN =>
  by_cases ak0:t=n+1
  ·rw[ak0];exact gX
  ·have G:=aN (λk L=>h k (by omega)) (by omega);have J:=h n (by omega);rw[cJ];grind
theorem azc {N t bn a e:Nat}{s:Rat}{T:Nat->Rat}(e2:0<bn)(MQ:bn<=2^a)(pM:0<=s)(Kp:ft bn s)(abj:∀k,k<N->0<=T k)(ak1:∀k,k<N->ft bn (T k))(M:s+cJ N T<=((2^e:Nat):Rat))(ca:t<=N):eA (a+e) (s+cJ t T)/\∀k,k<N->eA (a+e) (T k):=by
 have G:∀t,t<=N->0<=cJ t T/\cJ t T<=cJ N T:=λt ca=>⟨ajO λk L=>abj k (by omega),azb abj ca⟩;refine⟨(Kp.add (ft.cJ λk L=>ak1 k (by omega))).sz e2 MQ (by have:=(G t ca).1;grind) (by have:=(G t ca).2;grind),λk L=>(ak1 k L).sz e2 MQ (abj k L) ?_⟩;have J:=(G k (by omega)).1;have af:=(G (k+1) (by omega)).2;rw[cJ] at af;grind
section
variable {E:List Int} {cs:List aG} (U:fV E cs) {f:Nat->Nat} {P:Nat->Prop} (aF:rC (ao E cs) f P)
include U aF
theorem RR {i:Nat}(Q:i<D E):0<=(ao E cs).e0 f P i/\(ao E cs).e0 f P i<=((2^51:Nat):Rat):=by
 have h:=aF.range (d:=ao E cs) Q;exact⟨h.1,xR h.2 (ay9 U i)⟩
theorem ak2:∃bn:Nat,0<bn/\(∃a,a<=402/\bn<=2^a)/\∀i,i<(D E)->ft bn ((ao E cs).e0 f P i):=by
 obtain⟨bn,G,J,af⟩:=akN (N:=D E) aF.good.aa8 (abe U.hE) (abg U aF.pW) ((aa7 aF.ok f P _).2 aF.good.e0);have aM:=U.hE;have:(D E+1)*30<=6*30:=og _ (by omega);exact⟨bn,G,⟨_,by omega,J⟩,af⟩
theorem abk {i:Nat}(Q:i<D E):eA 453 ((ao E cs).e0 f P i):=by
 obtain⟨bn,G,⟨a,ax,J⟩,af⟩:=ak2 U aF;have aT:=RR U aF Q;exact ((af i Q).sz G J aT.1 aT.2).mono (by omega)
theorem azd:o8 (rowsOf (D E) ((ao E cs).pb f P)) (D E)=(cK (D E) ((ao E cs).e0 f P),0)/\ig (rowsOf (D E) ((ao E cs).pb f P)) (D E)=true:=by
 have:=akX U.hE (abg U aF.pW) (cH _) (cH _) (by omega) aF.good.aa8 ((aa7 aF.ok f P _).2 aF.good.e0);exact⟨this.1,this.2.1⟩
theorem aze:o8 (rowsOf (dm P (D E)).length ((ao E cs).u0 f (dm P (D E)))) (dm P (D E)).length=(cK (dm P (D E)).length (λk=>(ao E cs).e0 f P ((dm P (D E)).getD k 0)-(ao E cs).bI ((dm P (D E)).getD k 0) (f ((dm P (D E)).getD k 0))),0)/\ig (rowsOf (dm P (D E)).length ((ao E cs).u0 f (dm P (D E)))) (dm P (D E)).length=true:=by
 have hlen:(dm P (D E)).length<=5:=by
  have:=pc (λi=>decide (P i)) (eN (D E));rw[r1] at this;have:=U.hE;unfold dm;omega
 have:=akX hlen (abh U aF.pW _ λk L=>(Dh L).2) (cH _) (by omega) (by omega) aF.good.small aF.good.akQ;exact⟨this.1,this.2.1⟩
theorem azf:∃bn:Nat,0<bn/\(∃a,a<=244/\bn<=2^a)/\∀k,k<(dm P (D E)).length->ft bn ((ao E cs).e0 f P ((dm P (D E)).getD k 0)-(ao E cs).bI ((dm P (D E)).getD k 0) (f ((dm P (D E)).getD k 0))):=by
 have hlen:(dm P (D E)).length<=5:=by
  have:=pc (λi=>decide (P i)) (eN (D E));rw[r1] at this;have:=U.hE;unfold dm;omega
 have I5:dm P (ao E cs).n=dm P (D E):=rfl;have ak3:=aF.good.akQ;have pP:=aF.good.small;rw[I5] at ak3 pP;obtain⟨bn,G,J,af⟩:=akN pP (abe hlen) (abh U aF.pW _ λk L=>(Dh L).2) ak3;have:((dm P (D E)).length+1)*30<=6*30:=og _ (by omega);exact⟨bn,G,⟨_,by omega,J⟩,af⟩
theorem abl {k:Nat}(L:P k)(i:Nat):eA 30 ((ao E cs).W f k i)/\ft (kf cs k (f k)) ((ao E cs).W f k i):=by
 have e:=abf U aF.pW L i;have ax:=RP U aF.pW L;have G:=U.Di k (f k);have J:=U.sum λc=>c.2.1=(i:Int)/\c.1=(k:Int)/\c.2.2.1=(f k:Int)
 obtain⟨f1,f2⟩:=Dd (q:=(ao E cs).W f k i) (v:=zt cs f k i) (d:=(kf cs k (f k):Int)) (by omega) (by rw[<-e,nW,wB]);rw[k4] at f2;refine⟨⟨e4 f1 (by unfold zt;omega),e4 f2 (by omega)⟩,zt cs f k i,by rw[<-e,wB]⟩
theorem azg {i t:Nat}(Q:i<D E)(ca:t<=(dm P (D E)).length):
  eA 440 ((ao E cs).st f i+cJ t λk=>(ao E cs).W f ((dm P (D E)).getD k 0) i*((ao E cs).e0 f P ((dm P (D E)).getD k 0)-(ao E cs).bI ((dm P (D E)).getD k 0) (f ((dm P (D E)).getD k 0)))) /\
  (∀k,k<(dm P (D E)).length->eA 440 ((ao E cs).W f ((dm P (D E)).getD k 0) i*((ao E cs).e0 f P ((dm P (D E)).getD k 0)-(ao E cs).bI ((dm P (D E)).getD k 0) (f ((dm P (D E)).getD k 0))))) /\
  ∀k,k<(dm P (D E)).length->eA 295 ((ao E cs).e0 f P ((dm P (D E)).getD k 0)-(ao E cs).bI ((dm P (D E)).getD k 0) (f ((dm P (D E)).getD k 0))):=by
 have hlen:(dm P (D E)).length<=5:=by
  have:=pc (λi=>decide (P i)) (eN (D E));rw[r1] at this;have:=U.hE;unfold dm;omega
 obtain⟨bn,ea,⟨a,jl,b7⟩,gG⟩:=azf U aF;have hJ:∀k,k<(dm P (D E)).length->(dm P (D E)).getD k 0<D E/\P ((dm P (D E)).getD k 0):=λk L=>Dh L;have RS:=aF.good.akR (d:=ao E cs) Q;have I5:dm P (ao E cs).n=dm P (D E):=rfl;rw[I5] at RS;generalize aLo:dm P (D E)=p at *
 have ak4:∀k,k<(D p)->0<=(ao E cs).e0 f P (p.getD k 0)-(ao E cs).bI (p.getD k 0) (f (p.getD k 0)):=λk L=>by
  have:=aF.gt _ (hJ k L).2;grind
 have azh:∀k,k<(D p)->(ao E cs).e0 f P (p.getD k 0)-(ao E cs).bI (p.getD k 0) (f (p.getD k 0))<=((2^51:Nat):Rat):=λk L=>by
  have G:=(RR U aF (hJ k L).1).2;have J:=aF.ok.ax4 (p.getD k 0) (f (p.getD k 0));grind
 have azi:0<nY (D p) λk=>kf cs (p.getD k 0) (f (p.getD k 0)):=aba λk L=>RP U aF.pW (hJ k L).2;have ia:(nY (D p) λk=>kf cs (p.getD k 0) (f (p.getD k 0)))<=2^145:=e4 (abc λk _=>U.Di _ _) (nK (by omega) (by omega));have dF:=FK U.right f i;have RT:=U.steady f i;have abm:0<=(ao E cs).st f i:=by rw[<-dF];exact_mod_cast RT.1
 have Y:=(RR U aF Q).2;rw[RS] at Y
 have azj:(nY (D p) λk=>kf cs (p.getD k 0) (f (p.getD k 0)))*bn<=2^(145+a):=by
  rw[su];exact wx ia b7
 have ak5:=azc (T:=λk=>(ao E cs).W f (p.getD k 0) i*((ao E cs).e0 f P (p.getD k 0)-(ao E cs).bI (p.getD k 0) (f (p.getD k 0)))) (abb azi ea) azj abm (by rw[<-dF];exact ft.int _ _) (λk L=>uY (aF.ok.aza f _ _) (ak4 k L)) (λk L=>((abl U aF (hJ k L).2 i).2.of_dvd (abd (c9:=λk=>kf cs (p.getD k 0) (f (p.getD k 0))) L)).mul (gG k L)) Y ca;exact⟨ak5.1.mono (by omega),λk L=>(ak5.2 k L).mono (by omega),λk L=>((gG k L).sz ea b7 (ak4 k L) (azh k L)).mono (by omega)⟩
end
end Go.Mini
namespace Go.Mini
open Go
def abn:bZ:=cj 53 2 [.t 4] (O [cq 4 false] (.seq (O [F 7 0,cb 8 7,a6 9 .gtr 8 5,F 10 9,⟨some 11,some (10,false),.bT (.t 1)⟩,⟨some 12,some (10,false),.len (.t 11)⟩,⟨some 13,some (10,false),.bin .gtr (.t 12) (.c (Z 12))⟩,cR 14 10 13] (aS 14 (O [cq 4 false] .ret) .skip)) (.seq (O [bg 5 0] (.block 0 (.loop  (.seq (O [F 15 5,F 16 0,cb 17 16,bt 18 .lss 15 17] (aS 18 .skip (.exit 0))) (.seq (.block 1 (O [F 21 0,F 22 5,bB 23 1 21 22,aL 24 1 23,a6 25 .gtr 24 1000000,F 26 25,⟨some 27,some (26,true),.bT (.t 0)⟩,⟨some 28,some (26,true),.bT (.t 5)⟩,⟨some 29,some (26,true),.ht 1 (.t 27) (.t 28)⟩,⟨some 30,some (26,true),.load 1 false (.t 29)⟩,⟨some 31,some (26,true),.bin .leq (.t 30) (.c (Z 1000000000000000))⟩,gN 32 26 31] (aS 32 (O [cq 4 false] .ret) .skip))) (.ops [F 19 5,a6 20 .add 19 1,F 5 20])))))) (.seq (O [bg 6 0] (.block 2 (.loop  (.seq (O [F 33 6,F 34 1,cb 35 34,bt 36 .lss 33 35] (aS 36 .skip (.exit 2))) (.seq (.block 3 (O [F 39 1,F 40 6,bB 41 4 39 40,aO 42 3 41,aL 43 1 42,a6 44 .gtr 43 1000000,F 45 44,⟨some 46,some (45,true),.bT (.t 1)⟩,⟨some 47,some (45,true),.bT (.t 6)⟩,⟨some 48,some (45,true),.ht 4 (.t 46) (.t 47)⟩,⟨some 49,some (45,true),.dt 3 (.t 48)⟩,⟨some 50,some (45,true),.load 1 false (.t 49)⟩,⟨some 51,some (45,true),.bin .leq (.t 50) (.c (Z 1000000000000000))⟩,gN 52 45 51] (aS 52 (O [cq 4 false] .ret) .skip))) (.ops [F 37 6,a6 38 .add 37 1,F 6 38])))))) (O [cq 4 true] .ret)))))
def abo:bZ:=cj 53 2 [.t 4] (O [cq 4 false] (.seq (O [F 7 0,cb 8 7,F 9 1,cb 10 9,bt 11 .neq 8 10] (aS 11 (O [cq 4 false] .ret) .skip)) (.seq (O [bg 5 0] (.block 0 (.loop  (.seq (O [F 12 5,F 13 0,cb 14 13,bt 15 .lss 12 14] (aS 15 .skip (.exit 0))) (.seq (.block 1 (.seq (eG [F 18 0,F 19 5,bB 20 1 18 19,aL 21 1 20,cb 22 21,F 23 1,F 24 5,bB 25 1 23 24,aL 26 1 25,cb 27 26,bt 28 .neq 22 27] Ex (aS 28 (O [cq 4 false] .ret) .skip)) (O [bg 6 0] (.block 2 (.loop  (.seq (O [F 29 6,F 30 0,F 31 5,bB 32 1 30 31,aL 33 1 32,cb 34 33,bt 35 .lss 29 34] (aS 35 .skip (.exit 2))) (.seq (.block 3 (eG [F 38 0,F 39 5,bB 40 1 38 39,aL 41 1 40,F 42 6,bB 43 1 41 42,aL 44 1 43,F 45 1,F 46 5,bB 47 1 45 46,aL 48 1 47,F 49 6,bB 50 1 48 49,aL 51 1 50,bt 52 .neq 44 51] ase (aS 52 (O [cq 4 false] .ret) .skip))) (.ops [F 36 6,a6 37 .add 36 1,F 6 37])))))))) (.ops [F 16 5,a6 17 .add 16 1,F 5 17])))))) (O [cq 4 true] .ret))))
def u1:bZ:=cj 175 2 [.cell 4 3 true,.t 5] (O [(au 4 (.alloc 261004 [.nil,.nil,.nil])),bg 5 0] (O [(au 17 (.build [.nil,.nil,.nil] [])),(au 6 (.alloc 261006 [.nil,.nil,.nil])),aX 3 6 17] (.seq (O [F 18 0,F 19 1,(bW 20 La 18 19),ff 21 20] (aS 21 (O [aU 22 3 6,aX 3 4 22,bg 5 1] .ret) .skip)) (O [F 23 0,F 24 1,F 25 0,cb 26 25,(au 27 (.lg 261027 [(.I (.bool false))] 1 (.t 26) (.t 26))),(au 28 (.build [.nil,.nil,.nil,.nil,(.I (.bool false))] [(0,1,(.t 23)),(1,1,(.t 24)),(3,1,(.t 27))])),dq 29 261029 28,F 7 29] (.seq (.seq (.ghost (.BR (.t 7) 2 261042 1) (.ghost (.BR (.t 6) 2 261117 1) (.ops [bg 8 0]))) (.block 0 (.loop  (.seq (O [F 30 8,F 31 0,cb 32 31,bt 33 .lss 30 32] (aS 33 .skip (.exit 0))) (.seq (.block 1 (.ops [F 36 7,F 37 7,eY 38 37,aO 39 2 38,aL 40 1 39,(au 41 (.dU 261041 false [(Z 0)] 1 1 [(0,1,(.c (Z 10)))])),(au 42 (.app 261042 [(Z 0)] 8 (.t 40) (.t 41))),eY 43 36,aO 44 2 43,aX 1 44 42])) (.ops [F 34 8,a6 35 .add 34 1,F 8 35])))))) (.seq (.block 2 (.loop  (.block 3 (O [F 45 7,(dM 46 Py 45),aO 47 0 6,aX 1 47 46] (.seq (O [F 48 7,eY 49 48,aO 50 4 49,aL 51 1 50] (aS 51 (O [(au 52 (.build [.nil,.nil,.nil] [])),aX 3 4 52,bg 5 6] .ret) .skip)) (O [eu 9] (.seq (O [bg 10 0] (.block 4 (.ghost (.mM 9 261080 1) (.loop  (.seq (O [F 53 10,F 54 0,cb 55 54,bt 56 .lss 53 55] (aS 56 .skip (.exit 4))) (.seq (.block 5 (eG [aO 59 0 6,aL 60 1 59,F 61 10,bB 62 4 60 61,aU 63 4 62,F 64 1,F 65 10,F 66 7,eY 67 66,aO 68 2 67,aL 69 1 68,F 70 10,bB 71 1 69 70,aL 72 1 71,(qf 73 q7 64 65 72),(dM 74 oY 73),(bW 75 s4 63 74),a6 76 .lss 75 0] ags (aS 76 (.ops [F 77 9,F 78 10,(au 79 (.dU 261079 false [(Z 0)] 1 1 [(0,1,(.t 78))])),(au 80 (.app 261080 [(Z 0)] 8 (.t 77) (.t 79))),F 9 80]) .skip))) (.ops [F 57 10,a6 58 .add 57 1,F 10 58]))))))) (.seq (O [F 81 9,cb 82 81,a6 83 .eql 82 0] (aS 83 (.exit 2) .skip)) (.seq (O [bg 11 0] (.block 6 (.loop  (.seq (O [F 84 11,F 85 9,cb 86 85,bt 87 .lss 84 86] (aS 87 .skip (.exit 6))) (.seq (.block 7 (.mN [F 90 7,eY 91 90,aO 92 2 91,aL 93 1 92,F 94 9,F 95 11,bB 96 1 94 95,aL 97 1 96,F 98 1,F 99 9,F 100 11,bB 101 1 99 100,aL 102 1 101,aO 103 0 6,aL 104 1 103,F 105 9,F 106 11,bB 107 1 105 106,aL 108 1 107,bB 109 4 104 108,aU 110 4 109,(qf 111 Lb 98 102 110),bB 112 1 93 97,aX 1 112 111] asf)) (.ops [F 88 11,a6 89 .add 88 1,F 11 89])))))) (.ghost (.freeze 9) (.ops [aO 113 2 6,aL 114 1 113,F 115 9,(au 116 (.dU 261116 false [.nil] 1 1 [(0,1,(.t 115))])),(au 117 (.app 261117 [.nil] 24 (.t 114) (.t 116))),aO 118 2 6,aX 1 118 117]))))))))))) (.seq (.seq (.ghost (.BR (.t 6) 1 261172 4) (.ops [bg 12 0])) (.block 8 (.loop  (.seq (O [F 119 12,F 120 1,cb 121 120,bt 122 .lss 119 121] (aS 122 .skip (.exit 8))) (.seq (.block 9 (eG [F 126 1,F 127 1,F 128 12,bB 129 4 127 128,aO 130 0 129,aL 131 1 130,aO 132 0 6,aL 133 1 132,F 134 1,F 135 12,bB 136 4 134 135,aO 137 0 136,aL 138 1 137,bB 139 4 133 138,aU 140 4 139,(qf 141 Ew 126 131 140),F 125 141,ba 142 0 125,ba 143 1 125,F 13 142,F 14 143] VE (.seq (O [F 144 14,a6 145 .neq 144 0] (aS 145 (O [(au 146 (.build [.nil,.nil,.nil] [])),aX 3 4 146,bg 5 6] .ret) .skip)) (O [bg 15 0] (.seq (O [bg 16 0] (.block 10 (.loop  (.seq (O [F 147 16,F 148 12,bt 149 .lss 147 148] (aS 149 .skip (.exit 10))) (.seq (.block 11 (eG [F 152 1,F 153 16,bB 154 4 152 153,aO 155 0 154,aL 156 1 155,F 157 1,F 158 12,bB 159 4 157 158,aO 160 0 159,aL 161 1 160,bt 162 .eql 156 161] Ex (aS 162 (.ops [F 163 15,a6 164 .add 163 1,F 15 164]) .skip))) (.ops [F 150 16,a6 151 .add 150 1,F 16 151])))))) (.mN [aO 165 1 6,aL 166 1 165,F 167 13,F 168 15,bB 169 4 167 168,aU 170 4 169,(au 171 (.dU 261171 false [(Z 0),.nil,(Z 0),.nil] 4 1 [(0,4,(.t 170))])),(au 172 (.app 261172 [(Z 0),.nil,(Z 0),.nil] 64 (.t 166) (.t 171))),aO 173 1 6,aX 1 173 172] Lc)))))) (.ops [F 123 12,a6 124 .add 123 1,F 12 124])))))) (.seq (.ghost (.DP (.t 6) 1) (.ghost (.DP (.t 6) 2) (.ops [aU 174 3 6,aX 3 4 174,bg 5 0]))) .ret))))))))
def abp:bZ:=cj 24 2 [.t 4] (O [dq 2 262002 0,dq 3 262003 1,cq 4 false] (O [aO 5 0 2,aL 6 1 5,aO 7 0 3,aL 8 1 7,(bW 9 Pk 6 8),F 10 9,⟨some 11,some (10,true),.dt 1 (.t 2)⟩,⟨some 12,some (10,true),.load 1 false (.t 11)⟩,⟨some 13,some (10,true),.dt 1 (.t 3)⟩,⟨some 14,some (10,true),.load 1 false (.t 13)⟩,⟨some 15,some (10,true),.call Pk [(.t 12),(.t 14)]⟩,gN 16 10 15,F 17 16,⟨some 18,some (17,true),.dt 2 (.t 2)⟩,⟨some 19,some (17,true),.load 1 false (.t 18)⟩,⟨some 20,some (17,true),.dt 2 (.t 3)⟩,⟨some 21,some (17,true),.load 1 false (.t 20)⟩,⟨some 22,some (17,true),.call K6 [(.t 19),(.t 21)]⟩,gN 23 17 22,F 4 23] .ret))
def Bm:bZ:=cj 135 3 [.t 6] (O [cq 6 false] (.seq (O [F 19 0,F 20 1,(bW 21 La 19 20),ff 22 21,F 23 22,⟨some 24,some (23,false),.bT (.t 2)⟩,⟨some 25,some (23,false),.len (.t 24)⟩,⟨some 26,some (23,false),.bT (.t 0)⟩,⟨some 27,some (23,false),.len (.t 26)⟩,⟨some 28,some (23,false),.bin .neq (.t 25) (.t 27)⟩,cR 29 23 28] (aS 29 (O [cq 6 false] .ret) .skip)) (.seq (O [bg 7 0] (.block 0 (.loop  (.seq (O [F 30 7,F 31 2,cb 32 31,bt 33 .lss 30 32] (aS 33 .skip (.exit 0))) (.seq (.block 1 (O [F 36 2,F 37 7,bB 38 4 36 37,aU 39 4 38,(dM 40 mm 39),ff 41 40,F 42 41,⟨some 43,some (42,false),.bT (.t 2)⟩,⟨some 44,some (42,false),.bT (.t 7)⟩,⟨some 45,some (42,false),.ht 4 (.t 43) (.t 44)⟩,⟨some 46,some (42,false),.dt 0 (.t 45)⟩,⟨some 47,some (42,false),.dt 0 (.t 46)⟩,⟨some 48,some (42,false),.load 1 false (.t 47)⟩,⟨some 49,some (42,false),.bin .lss (.t 48) (.c (Z 0))⟩,cR 50 42 49] (aS 50 (O [cq 6 false] .ret) .skip))) (.ops [F 34 7,a6 35 .add 34 1,F 7 35])))))) (O [eu 8] (.seq (O [bg 9 0] (.block 2 (.ghost (.mM 8 263072 1) (.loop  (.seq (O [F 51 9,F 52 2,cb 53 52,bt 54 .lss 51 53] (aS 54 .skip (.exit 2))) (.seq (.block 3 (O [F 58 1,F 59 9,F 60 2,F 61 9,bB 62 4 60 61,aU 63 4 62,(qf 64 Ew 58 59 63),F 57 64,ba 65 0 57,ba 66 1 57,F 10 65,F 11 66] (.seq (O [F 67 11,a6 68 .neq 67 0] (aS 68 (O [cq 6 false] .ret) .skip)) (.ops [F 69 8,F 70 10,(au 71 (.dU 263071 false [.nil] 1 1 [(0,1,(.t 70))])),(au 72 (.app 263072 [.nil] 24 (.t 69) (.t 71))),F 8 72])))) (.ops [F 55 9,a6 56 .add 55 1,F 9 56]))))))) (.seq (O [bg 12 0] (.block 4 (.loop  (.seq (O [F 73 12,F 74 2,cb 75 74,bt 76 .lss 73 75] (aS 76 .skip (.exit 4))) (.seq (.block 5 (O [F 79 0,F 80 12,bB 81 1 79 80,aL 82 1 81,(dM 83 oY 82),(au 13 (.alloc 263013 [(Z 0),.nil,(Z 0),.nil])),aX 4 13 83] (O [F 84 0,cb 85 84,(au 86 (.lg 263086 [(Z 0)] 8 (.t 85) (.t 85))),F 14 86] (.seq (O [bg 15 0] (.block 6 (.loop  (.seq (O [F 87 15,F 88 1,cb 89 88,bt 90 .lss 87 89] (aS 90 .skip (.exit 6))) (.seq (.block 7 (O [F 93 1,F 94 15,bB 95 4 93 94,aU 96 4 95,(au 16 (.alloc 263016 [(Z 0),(Z 0),(Z 0),(Z 0)])),aX 4 16 96] (.seq (O [aO 97 1 16,aL 98 1 97,F 99 12,bt 100 .eql 98 99] (aS 100 (eG [aU 102 4 13,F 103 8,aO 104 0 16,aL 105 1 104,bB 106 1 103 105,aL 107 1 106,F 108 14,aO 109 0 16,aL 110 1 109,bB 111 1 108 110,aL 112 1 111,bB 113 4 107 112,aU 114 4 113,(bW 115 Pq 102 114),F 101 115,ba 116 0 101,ba 117 1 101,(au 17 (.alloc 263017 [(Z 0),.nil,(Z 0),.nil])),aX 4 17 116,F 18 117] [[],[],[],[],[],[],[],[],[],[],[],[],[],[],[],[],[],[0,3,5,8,10,12],[],[]] (.seq (O [F 118 18,a6 119 .neq 118 0] (aS 119 (O [cq 6 false] .ret) .skip)) (.ops [aU 120 4 17,aX 4 13 120]))) .skip)) (.ops [F 121 14,aO 122 0 16,aL 123 1 122,bB 124 1 121 123,aL 125 1 124,a6 126 .add 125 1,bB 127 1 121 123,aX 1 127 126])))) (.ops [F 91 15,a6 92 .add 91 1,F 15 92])))))) (eG [aU 128 4 13,F 129 2,F 130 12,bB 131 4 129 130,aU 132 4 131,(bW 133 s4 128 132),a6 134 .neq 133 0] PA (aS 134 (O [cq 6 false] .ret) .skip)))))) (.ops [F 77 12,a6 78 .add 77 1,F 12 78])))))) (O [cq 6 true] .ret)))))))
def abq:bZ:=cj 85 2 [.t 4] (O [cq 4 false] (O [F 9 0,cb 10 9,F 5 10] (.seq (O [F 11 5,a6 12 .gtr 11 60,F 13 12,⟨some 14,some (13,false),.bT (.t 1)⟩,⟨some 15,some (13,false),.len (.t 14)⟩,⟨some 16,some (13,false),.bin .gtr (.t 15) (.c (Z 2000))⟩,cR 17 13 16] (aS 17 (O [cq 4 false] .ret) .skip)) (.seq (O [bg 6 0] (.block 0 (.loop  (.seq (O [F 18 6,F 19 5,bt 20 .lss 18 19] (aS 20 .skip (.exit 0))) (.seq (.block 1 (O [F 23 0,F 24 6,bB 25 1 23 24,aL 26 1 25,a6 27 .lss 26 0,F 28 27,⟨some 29,some (28,false),.bT (.t 0)⟩,⟨some 30,some (28,false),.bT (.t 6)⟩,⟨some 31,some (28,false),.ht 1 (.t 29) (.t 30)⟩,⟨some 32,some (28,false),.load 1 false (.t 31)⟩,⟨some 33,some (28,false),.bin .gtr (.t 32) (.c (Z 1000000000000000))⟩,cR 34 28 33] (aS 34 (O [cq 4 false] .ret) .skip))) (.ops [F 21 6,a6 22 .add 21 1,F 6 22])))))) (.seq (O [bg 7 0] (.block 2 (.loop  (.seq (O [F 35 7,F 36 1,cb 37 36,bt 38 .lss 35 37] (aS 38 .skip (.exit 2))) (.seq (.block 3 (O [F 41 1,F 42 7,bB 43 4 41 42,aU 44 4 43,(au 8 (.alloc 268008 [(Z 0),(Z 0),(Z 0),(Z 0)])),aX 4 8 44] (O [aO 45 0 8,aL 46 1 45,a6 47 .lss 46 0,F 48 47,⟨some 49,some (48,false),.dt 0 (.t 8)⟩,⟨some 50,some (48,false),.load 1 false (.t 49)⟩,⟨some 51,some (48,false),.bT (.t 5)⟩,⟨some 52,some (48,false),.bin .geq (.t 50) (.t 51)⟩,cR 53 48 52,F 54 53,⟨some 55,some (54,false),.dt 1 (.t 8)⟩,⟨some 56,some (54,false),.load 1 false (.t 55)⟩,⟨some 57,some (54,false),.bin .lss (.t 56) (.c (.I (.int .i64 (-1))))⟩,cR 58 54 57,F 59 58,⟨some 60,some (59,false),.dt 1 (.t 8)⟩,⟨some 61,some (59,false),.load 1 false (.t 60)⟩,⟨some 62,some (59,false),.bT (.t 5)⟩,⟨some 63,some (59,false),.bin .geq (.t 61) (.t 62)⟩,cR 64 59 63,F 65 64,⟨some 66,some (65,false),.dt 2 (.t 8)⟩,⟨some 67,some (65,false),.load 1 false (.t 66)⟩,⟨some 68,some (65,false),.bin .lss (.t 67) (.c (Z 0))⟩,cR 69 65 68,F 70 69,⟨some 71,some (70,false),.dt 2 (.t 8)⟩,⟨some 72,some (70,false),.load 1 false (.t 71)⟩,⟨some 73,some (70,false),.bin .geq (.t 72) (.c (Z 10))⟩,cR 74 70 73,F 75 74,⟨some 76,some (75,false),.dt 3 (.t 8)⟩,⟨some 77,some (75,false),.load 1 false (.t 76)⟩,⟨some 78,some (75,false),.bin .lss (.t 77) (.c (Z 0))⟩,cR 79 75 78,F 80 79,⟨some 81,some (80,false),.dt 3 (.t 8)⟩,⟨some 82,some (80,false),.load 1 false (.t 81)⟩,⟨some 83,some (80,false),.bin .gtr (.t 82) (.c (Z 1000000000000000))⟩,cR 84 80 83] (aS 84 (O [cq 4 false] .ret) .skip)))) (.ops [F 39 7,a6 40 .add 39 1,F 7 40])))))) (O [cq 4 true] .ret))))))
def I6:bZ:=cj 92 1 [.t 2] (O [eu 2] (O [F 8 0,eY 9 8,aO 10 0 9,aL 11 1 10,cb 12 11,F 3 12] (.seq (O [bg 4 0] (.block 0 (.loop  (.seq (O [F 13 4,F 14 3,bt 15 .lss 13 14] (aS 15 .skip (.exit 0))) (.seq (.block 1 (.ops [F 18 0,eY 19 18,aO 20 3 19,aL 21 1 20,F 22 4,bB 23 1 21 22,⟨none,none,.store 1 (.t 23) (.c (.I (.bool false)))⟩])) (.ops [F 16 4,a6 17 .add 16 1,F 4 17])))))) (.seq (.block 2 (.loop  (.seq (O [F 24 0,eY 25 24,aO 26 4 25,aL 27 1 26,ff 28 27] (aS 28 .skip (.exit 2))) (.block 3 (O [F 29 0,(dM 30 Vy 29),F 5 30] (O [cq 6 false] (.seq (O [bg 7 0] (.block 4 (.loop  (.seq (O [F 31 7,F 32 3,bt 33 .lss 31 32,F 34 33,⟨some 35,some (34,true),.bT (.t 0)⟩,⟨some 36,some (34,true),.nv (.t 35)⟩,⟨some 37,some (34,true),.dt 4 (.t 36)⟩,⟨some 38,some (34,true),.load 1 false (.t 37)⟩,⟨some 39,some (34,true),.un .not (.t 38)⟩,gN 40 34 39] (aS 40 .skip (.exit 4))) (.seq (.block 5 (eG [F 43 0,eY 44 43,aO 45 2 44,aL 46 1 45,F 47 7,bB 48 1 46 47,aL 49 1 48,a6 50 .lss 49 10,F 51 50,⟨some 52,some (51,true),.bT (.t 0)⟩,⟨some 53,some (51,true),.nv (.t 52)⟩,⟨some 54,some (51,true),.dt 3 (.t 53)⟩,⟨some 55,some (51,true),.load 1 false (.t 54)⟩,⟨some 56,some (51,true),.bT (.t 7)⟩,⟨some 57,some (51,true),.ht 1 (.t 55) (.t 56)⟩,⟨some 58,some (51,true),.load 1 false (.t 57)⟩,⟨some 59,some (51,true),.un .not (.t 58)⟩,gN 60 51 59,F 61 60,⟨some 62,some (61,true),.bT (.t 5)⟩,⟨some 63,some (61,true),.bT (.t 7)⟩,⟨some 64,some (61,true),.ht 4 (.t 62) (.t 63)⟩,⟨some 65,some (61,true),.load 4 true (.t 64)⟩,⟨some 66,some (61,true),.bT (.t 0)⟩,⟨some 67,some (61,true),.nv (.t 66)⟩,⟨some 68,some (61,true),.dt 1 (.t 67)⟩,⟨some 69,some (61,true),.load 1 false (.t 68)⟩,⟨some 70,some (61,true),.bT (.t 7)⟩,⟨some 71,some (61,true),.bT (.t 0)⟩,⟨some 72,some (61,true),.nv (.t 71)⟩,⟨some 73,some (61,true),.dt 2 (.t 72)⟩,⟨some 74,some (61,true),.load 1 false (.t 73)⟩,⟨some 75,some (61,true),.bT (.t 7)⟩,⟨some 76,some (61,true),.ht 1 (.t 74) (.t 75)⟩,⟨some 77,some (61,true),.load 1 false (.t 76)⟩,⟨some 78,some (61,true),.call q7 [(.t 69),(.t 70),(.t 77)]⟩,⟨some 79,some (61,true),.call oY [(.t 78)]⟩,⟨some 80,some (61,true),.call s4 [(.t 65),(.t 79)]⟩,⟨some 81,some (61,true),.bin .gtr (.t 80) (.c (Z 0))⟩,gN 82 61 81] [[],[],[],[],[],[],[],[],[],[],[],[],[],[],[],[],[],[],[],[],[],[],[],[],[],[],[],[],[],[],[],[],[],[],[],[],[],[],[],[]] (aS 82 (O [F 83 0,eY 84 83,aO 85 3 84,aL 86 1 85,F 87 7,bB 88 1 86 87,⟨none,none,.store 1 (.t 88) (.c (.I (.bool true)))⟩] (.ops [cq 6 true])) .skip))) (.ops [F 41 7,a6 42 .add 41 1,F 7 42])))))) (O [F 89 6,ff 90 89] (aS 90 (O [F 91 5,F 2 91] .ret) .skip))))))))) (O [eu 2] .ret)))))
def abr:bZ:=cj 11 1 [.cell 2 4 true] (O [(au 2 (.alloc 271002 [(Z 0),.nil,(Z 0),.nil]))] (O [F 6 0,(au 7 (.call Ap [(.t 6),(.c (Z 1))])),F 5 7,ba 8 0 5,ba 9 1 5,(au 3 (.alloc 271003 [(Z 0),.nil,(Z 0),.nil])),aX 4 3 8,F 4 9] (O [aU 10 4 3,aX 4 2 10] .ret)))
def abt:bZ:=cj 39 3 [.t 6] (O [bg 6 0] (O [bg 7 0] (.seq (O [bg 8 0] (.block 0 (.loop  (.seq (O [F 9 8,F 10 0,cb 11 10,bt 12 .lss 9 11] (aS 12 .skip (.exit 0))) (.seq (.block 1 (O [F 15 0,F 16 8,bB 17 4 15 16,aO 18 0 17,aL 19 1 18,F 20 1,bt 21 .eql 19 20,F 22 21,⟨some 23,some (22,true),.bT (.t 0)⟩,⟨some 24,some (22,true),.bT (.t 8)⟩,⟨some 25,some (22,true),.ht 4 (.t 23) (.t 24)⟩,⟨some 26,some (22,true),.dt 2 (.t 25)⟩,⟨some 27,some (22,true),.load 1 false (.t 26)⟩,⟨some 28,some (22,true),.bT (.t 2)⟩,⟨some 29,some (22,true),.bin .lss (.t 27) (.t 28)⟩,gN 30 22 29] (aS 30 (.ops [F 31 7,F 32 0,F 33 8,bB 34 4 32 33,aO 35 3 34,aL 36 1 35,bt 37 .add 31 36,F 7 37]) .skip))) (.ops [F 13 8,a6 14 .add 13 1,F 8 14])))))) (O [F 38 7,F 6 38] .ret))))
def abu:bZ:=cj 24 3 [.t 6] (O [dq 5 273005 2,bg 6 0] (O [bg 7 0] (.seq (.block 0 (.loop  (.seq (eG [F 8 7,a6 9 .lss 8 10,F 10 9,⟨some 11,some (10,true),.load 4 true (.t 5)⟩,⟨some 12,some (10,true),.bT (.t 0)⟩,⟨some 13,some (10,true),.bT (.t 1)⟩,⟨some 14,some (10,true),.bT (.t 7)⟩,⟨some 15,some (10,true),.bin .add (.t 14) (.c (Z 1))⟩,⟨some 16,some (10,true),.call q7 [(.t 12),(.t 13),(.t 15)]⟩,⟨some 17,some (10,true),.call oY [(.t 16)]⟩,⟨some 18,some (10,true),.call s4 [(.t 11),(.t 17)]⟩,⟨some 19,some (10,true),.bin .geq (.t 18) (.c (Z 0))⟩,gN 20 10 19] Hs (aS 20 .skip (.exit 0))) (.block 1 (.ops [F 21 7,a6 22 .add 21 1,F 7 22]))))) (O [F 23 7,F 6 23] .ret))))
def abv:bZ:=cj 35 3 [.t 6,.t 7] (O [dq 5 274005 2,eu 6,bg 7 0] (O [eu 8] (.seq (O [bg 9 0] (.block 0 (.ghost (.mM 8 274029 4) (.loop  (.seq (O [F 10 9,F 11 0,cb 12 11,bt 13 .lss 10 12] (aS 13 .skip (.exit 0))) (.seq (.block 1 (O [F 16 0,F 17 9,bB 18 4 16 17,aO 19 0 18,aL 20 1 19,F 21 1,bt 22 .eql 20 21] (aS 22 (.ops [F 23 8,F 24 0,F 25 9,bB 26 4 24 25,aU 27 4 26,(au 28 (.dU 274028 false [(Z 0),(Z 0),(Z 0),(Z 0)] 4 1 [(0,4,(.t 27))])),(au 29 (.app 274029 [(Z 0),(Z 0),(Z 0),(Z 0)] 32 (.t 23) (.t 28))),F 8 29]) .skip))) (.ops [F 14 9,a6 15 .add 14 1,F 9 15]))))))) (.seq (.ghost (.freeze 8) (.ops [aU 30 4 5,F 31 8,(bW 32 Vz 30 31),ba 33 0 32,ba 34 1 32,F 6 33,F 7 34])) .ret))))
def Dj:bZ:=cj 188 1 [.t 2] (O [eu 2] (O [F 19 0,eY 20 19,aO 21 0 20,aL 22 1 21,cb 23 22,F 3 23] (O [eu 4] (.seq (O [bg 5 0] (.block 0 (.ghost (.mM 4 277165 5) (.loop  (.seq (O [F 24 5,F 25 3,bt 26 .lss 24 25] (aS 26 .skip (.exit 0))) (.seq (.block 1 (O [F 29 0,F 30 5,(bW 31 VA 29 30),(dM 32 oY 31),(au 33 (.build [.nil,(Z 0),.nil,(Z 0),.nil] [(1,4,(.t 32))])),(au 6 (.alloc 277006 [.nil,(Z 0),.nil,(Z 0),.nil])),aX 5 6 33] (.seq (.seq (.ghost (.BR (.t 6) 0 277043 4) (.ops [bg 7 0])) (.block 2 (.loop  (.seq (O [F 34 7,F 35 3,bt 36 .lss 34 35] (aS 36 .skip (.exit 2))) (.seq (.block 3 (.mN [aO 39 0 6,aL 40 1 39,(au 41 (.call oY [(.c (Z 0))])),(au 42 (.dU 277042 false [(Z 0),.nil,(Z 0),.nil] 4 1 [(0,4,(.t 41))])),(au 43 (.app 277043 [(Z 0),.nil,(Z 0),.nil] 64 (.t 40) (.t 42))),aO 44 0 6,aX 1 44 43] PA)) (.ops [F 37 7,a6 38 .add 37 1,F 7 38])))))) (eG [aO 45 0 6,aL 46 1 45,F 47 5,(au 48 (.call oY [(.c (Z 1))])),bB 49 4 46 47,aX 4 49 48] VD (.seq (O [bg 8 0] (.block 4 (.loop  (.seq (O [F 50 8,F 51 0,eY 52 51,aO 53 1 52,aL 54 1 53,cb 55 54,bt 56 .lss 50 55] (aS 56 .skip (.exit 4))) (.seq (.block 5 (O [F 59 0,eY 60 59,aO 61 1 60,aL 62 1 61,F 63 8,bB 64 4 62 63,aU 65 4 64,(au 9 (.alloc 277009 [(Z 0),(Z 0),(Z 0),(Z 0)])),aX 4 9 65] (.seq (eG [aO 66 1 9,aL 67 1 66,F 68 5,bt 69 .neq 67 68,F 70 69,⟨some 71,some (70,false),.bT (.t 0)⟩,⟨some 72,some (70,false),.nv (.t 71)⟩,⟨some 73,some (70,false),.dt 3 (.t 72)⟩,⟨some 74,some (70,false),.load 1 false (.t 73)⟩,⟨some 75,some (70,false),.dt 0 (.t 9)⟩,⟨some 76,some (70,false),.load 1 false (.t 75)⟩,⟨some 77,some (70,false),.ht 1 (.t 74) (.t 76)⟩,⟨some 78,some (70,false),.load 1 false (.t 77)⟩,⟨some 79,some (70,false),.un .not (.t 78)⟩,cR 80 70 79,F 81 80,⟨some 82,some (81,false),.dt 2 (.t 9)⟩,⟨some 83,some (81,false),.load 1 false (.t 82)⟩,⟨some 84,some (81,false),.bT (.t 0)⟩,⟨some 85,some (81,false),.nv (.t 84)⟩,⟨some 86,some (81,false),.dt 2 (.t 85)⟩,⟨some 87,some (81,false),.load 1 false (.t 86)⟩,⟨some 88,some (81,false),.dt 0 (.t 9)⟩,⟨some 89,some (81,false),.load 1 false (.t 88)⟩,⟨some 90,some (81,false),.ht 1 (.t 87) (.t 89)⟩,⟨some 91,some (81,false),.load 1 false (.t 90)⟩,⟨some 92,some (81,false),.bin .neq (.t 83) (.t 91)⟩,cR 93 81 92,F 94 93,⟨some 95,some (94,false),.dt 3 (.t 9)⟩,⟨some 96,some (94,false),.load 1 false (.t 95)⟩,⟨some 97,some (94,false),.bin .eql (.t 96) (.c (Z 0))⟩,cR 98 94 97] [[],[],[],[],[],[],[],[],[],[],[],[],[],[],[],[],[],[],[],[],[],[],[],[],[],[],[],[],[],[],[],[],[]] (aS 98 (.exit 5) .skip)) (O [F 99 0,aU 100 4 9,(bW 101 Pz 99 100),(au 10 (.alloc 277010 [(Z 0),.nil,(Z 0),.nil])),aX 4 10 101] (eG [aO 103 0 6,aL 104 1 103,aO 105 0 9,aL 106 1 105,bB 107 4 104 106,aU 108 4 107,aU 109 4 10,(bW 110 Aq 108 109),F 102 110,ba 111 0 102,ba 112 1 102,(au 11 (.alloc 277011 [(Z 0),.nil,(Z 0),.nil])),aX 4 11 111,F 12 112] [[],[],[],[],[],[],[],[],[],[],[],[1,3,5,6],[],[]] (eG [aU 114 4 10,F 115 0,eY 116 115,aO 117 1 116,aL 118 1 117,aO 119 0 9,aL 120 1 119,aO 121 2 9,aL 122 1 121,(qf 123 q7 118 120 122),(dM 124 oY 123),(bW 125 Cp 114 124),F 113 125,ba 126 0 113,ba 127 1 113,(au 13 (.alloc 277013 [(Z 0),.nil,(Z 0),.nil])),aX 4 13 126,F 14 127] [[],[],[],[],[],[],[],[],[],[],[],[],[],[],[],[0,4,6,8],[],[]] (O [aO 129 1 6,aU 130 4 129,aU 131 4 13,(bW 132 Aq 130 131),F 128 132,ba 133 0 128,ba 134 1 128,(au 15 (.alloc 277015 [(Z 0),.nil,(Z 0),.nil])),aX 4 15 133,F 16 134] (O [F 135 0,F 136 0,eY 137 136,aO 138 4 137,aL 139 1 138,F 140 139,⟨some 141,some (140,false),.bT (.t 12)⟩,⟨some 142,some (140,false),.bin .neq (.t 141) (.c (Z 0))⟩,cR 143 140 142,F 144 143,⟨some 145,some (144,false),.bT (.t 14)⟩,⟨some 146,some (144,false),.bin .neq (.t 145) (.c (Z 0))⟩,cR 147 144 146,F 148 147,⟨some 149,some (148,false),.bT (.t 16)⟩,⟨some 150,some (148,false),.bin .neq (.t 149) (.c (Z 0))⟩,cR 151 148 150,eY 152 135,aO 153 4 152,aX 1 153 151] (O [aO 154 0 6,aL 155 1 154,aO 156 0 9,aL 157 1 156,aU 158 4 11,bB 159 4 155 157,aX 4 159 158] (.ops [aU 160 4 15,aO 161 1 6,aX 4 161 160])))))))))) (.ops [F 57 8,a6 58 .add 57 1,F 8 58])))))) (.ghost (.DP (.t 6) 0) (.ops [F 162 4,aU 163 5 6,(au 164 (.dU 277164 false [.nil,(Z 0),.nil,(Z 0),.nil] 5 1 [(0,5,(.t 163))])),(au 165 (.app 277165 [.nil,(Z 0),.nil,(Z 0),.nil] 88 (.t 162) (.t 164))),F 4 165]))))))) (.ops [F 27 5,a6 28 .add 27 1,F 5 28]))))))) (.seq (O [F 166 0,eY 167 166,aO 168 4 167,aL 169 1 168] (aS 169 (O [eu 2] .ret) .skip)) (.seq (.ghost (.freeze 4) (.ops [F 171 4,F 172 3,(bW 173 Vd 171 172),F 170 173,ba 174 0 170,ba 175 1 170,F 17 174,F 18 175])) (O [F 176 0,F 177 0,eY 178 177,aO 179 4 178,aL 180 1 179,F 181 180,⟨some 182,some (181,false),.bT (.t 18)⟩,⟨some 183,some (181,false),.bin .neq (.t 182) (.c (Z 0))⟩,cR 184 181 183,eY 185 176,aO 186 4 185,aX 1 186 184] (O [F 187 17,F 2 187] .ret))))))))
def RU:bZ:=cj 53 2 [.t 4] (O [bg 4 0] (O [F 8 0,eY 9 8,aO 10 0 9,aL 11 1 10,F 12 1,bB 13 1 11 12,aL 14 1 13,F 5 14] (.seq (O [bg 6 0] (.block 0 (.loop  (.seq (O [F 15 6,F 16 0,eY 17 16,aO 18 1 17,aL 19 1 18,cb 20 19,bt 21 .lss 15 20] (aS 21 .skip (.exit 0))) (.seq (.block 1 (O [F 24 0,eY 25 24,aO 26 1 25,aL 27 1 26,F 28 6,bB 29 4 27 28,aU 30 4 29,(au 7 (.alloc 280007 [(Z 0),(Z 0),(Z 0),(Z 0)])),aX 4 7 30] (eG [aO 31 1 7,aL 32 1 31,F 33 1,bt 34 .eql 32 33,F 35 34,⟨some 36,some (35,true),.dt 2 (.t 7)⟩,⟨some 37,some (35,true),.load 1 false (.t 36)⟩,⟨some 38,some (35,true),.bT (.t 0)⟩,⟨some 39,some (35,true),.nv (.t 38)⟩,⟨some 40,some (35,true),.dt 2 (.t 39)⟩,⟨some 41,some (35,true),.load 1 false (.t 40)⟩,⟨some 42,some (35,true),.dt 0 (.t 7)⟩,⟨some 43,some (35,true),.load 1 false (.t 42)⟩,⟨some 44,some (35,true),.ht 1 (.t 41) (.t 43)⟩,⟨some 45,some (35,true),.load 1 false (.t 44)⟩,⟨some 46,some (35,true),.bin .lss (.t 37) (.t 45)⟩,gN 47 35 46] agr (aS 47 (.ops [F 48 5,aO 49 3 7,aL 50 1 49,bt 51 .add 48 50,F 5 51]) .skip)))) (.ops [F 22 6,a6 23 .add 22 1,F 6 23])))))) (O [F 52 5,F 4 52] .ret))))
def RV:bZ:=cj 45 2 [.cell 4 4 true] (O [dq 3 281003 1,(au 4 (.alloc 281004 [(Z 0),.nil,(Z 0),.nil]))] (eG [aO 8 3 3,aL 9 1 8,F 10 0,eY 11 10,aO 12 1 11,aL 13 1 12,aO 14 0 3,aL 15 1 14,aO 16 2 3,aL 17 1 16,a6 18 .add 17 1,(qf 19 q7 13 15 18),F 20 0,eY 21 20,aO 22 1 21,aL 23 1 22,aO 24 0 3,aL 25 1 24,aO 26 2 3,aL 27 1 26,(qf 28 q7 23 25 27),bt 29 .sub 19 28,(bW 30 Ap 9 29),F 7 30,ba 31 0 7,ba 32 1 7,(au 5 (.alloc 281005 [(Z 0),.nil,(Z 0),.nil])),aX 4 5 31,F 6 32] [[],[],[],[],[],[],[],[],[],[],[],[],[],[],[],[],[],[],[],[],[],[],[],[],[],[],[1,5,7,9,15,17,19],[],[]] (O [F 33 0,F 34 0,eY 35 34,aO 36 4 35,aL 37 1 36,F 38 37,⟨some 39,some (38,false),.bT (.t 6)⟩,⟨some 40,some (38,false),.bin .neq (.t 39) (.c (Z 0))⟩,cR 41 38 40,eY 42 33,aO 43 4 42,aX 1 43 41] (O [aU 44 4 5,aX 4 4 44] .ret))))
def abw:bZ:=cj 108 2 [.t 4,.t 5] (O [dq 2 279002 0,eu 4,bg 5 0] (.seq (O [aU 16 4 2,(dM 17 mm 16),ff 18 17,F 19 18,⟨some 20,some (19,false),.bT (.t 1)⟩,⟨some 21,some (19,false),.call VB [(.t 20)]⟩,⟨some 22,some (19,false),.un .not (.t 21)⟩,cR 23 19 22] (aS 23 (O [eu 4,bg 5 1] .ret) .skip)) (.seq (O [aO 24 0 2,aO 25 0 24,aL 26 1 25,a6 27 .lss 26 0] (aS 27 (O [eu 4,bg 5 1] .ret) .skip)) (O [F 28 1,cb 29 28,(au 30 (.lg 279030 [(Z 0),.nil,(Z 0),.nil] 64 (.t 29) (.t 29))),F 6 30] (.seq (O [bg 7 0] (.block 0 (.loop  (.seq (O [F 31 7,F 32 1,cb 33 32,bt 34 .lss 31 33] (aS 34 .skip (.exit 0))) (.seq (.block 1 (O [F 38 1,F 39 1,F 40 7,bB 41 4 39 40,aO 42 2 41,aL 43 1 42,(bW 44 VC 38 43),F 37 44,ba 45 0 37,ba 46 1 37,F 8 45,F 9 46] (eG [aU 48 4 2,F 49 8,(au 50 (.call Cq [(.t 49),(.c (Z 1))])),(bW 51 Aq 48 50),F 47 51,ba 52 0 47,ba 53 1 47,(au 10 (.alloc 279010 [(Z 0),.nil,(Z 0),.nil])),aX 4 10 52,F 11 53] [[],[],[],[],[],[],[],[0],[],[]] (.seq (O [F 54 11,a6 55 .neq 54 0] (aS 55 (O [F 56 11,eu 4,F 5 56] .ret) .skip)) (.seq (O [aO 57 0 10,aO 58 0 57,aL 59 1 58,a6 60 .leq 59 0] (aS 60 (O [F 61 6,F 62 7,(au 63 (.call Cq [(.c (Z 0)),(.c (Z 1))])),bB 64 4 61 62,aX 4 64 63] (.exit 1)) .skip)) (.seq (eG [aU 65 4 10,F 66 9,(au 67 (.call Cq [(.t 66),(.c (Z 1))])),(bW 68 s4 65 67),a6 69 .geq 68 0] agp (aS 69 (O [F 70 6,F 71 7,F 72 1,F 73 7,bB 74 4 72 73,aO 75 3 74,aL 76 1 75,(au 77 (.call Cq [(.t 76),(.c (Z 1))])),bB 78 4 70 71,aX 4 78 77] (.exit 1)) .skip)) (eG [F 80 1,F 81 7,bB 82 4 80 81,aO 83 3 82,aL 84 1 83,(au 85 (.call Cq [(.t 84),(.c (Z 1))])),aU 86 4 10,(bW 87 Cp 85 86),F 79 87,ba 88 0 79,ba 89 1 79,(au 12 (.alloc 279012 [(Z 0),.nil,(Z 0),.nil])),aX 4 12 88,F 13 89] [[],[],[],[],[],[],[],[],[],[],[],[4,6],[],[]] (.seq (O [F 90 13,a6 91 .neq 90 0] (aS 91 (O [F 92 13,eu 4,F 5 92] .ret) .skip)) (eG [aU 94 4 12,F 95 9,(au 96 (.call Cq [(.t 95),(.c (Z 1))])),(bW 97 Hn 94 96),F 93 97,ba 98 0 93,ba 99 1 93,(au 14 (.alloc 279014 [(Z 0),.nil,(Z 0),.nil])),aX 4 14 98,F 15 99] [[],[],[],[],[],[],[],[0],[],[]] (.seq (O [F 100 15,a6 101 .neq 100 0] (aS 101 (O [F 102 15,eu 4,F 5 102] .ret) .skip)) (.ops [F 103 6,F 104 7,aU 105 4 14,bB 106 4 103 104,aX 4 106 105]))))))))))) (.ops [F 35 7,a6 36 .add 35 1,F 7 36])))))) (.seq (.ghost (.freeze 6) (.ops [F 107 6,F 4 107,bg 5 0])) .ret))))))
def abx:bZ:=cj 63 1 [.t 2] (O [cq 2 false] (.seq (O [F 5 0,cb 6 5,a6 7 .gtr 6 2000] (aS 7 (O [cq 2 false] .ret) .skip)) (.seq (O [bg 3 0] (.block 0 (.loop  (.seq (O [F 8 3,F 9 0,cb 10 9,bt 11 .lss 8 10] (aS 11 .skip (.exit 0))) (.seq (.block 1 (O [F 14 0,F 15 3,bB 16 4 14 15,aU 17 4 16,(au 4 (.alloc 282004 [(Z 0),(Z 0),(Z 0),(Z 0)])),aX 4 4 17] (.seq (O [aO 18 0 4,aL 19 1 18,a6 20 .lss 19 0,F 21 20,⟨some 22,some (21,false),.dt 0 (.t 4)⟩,⟨some 23,some (21,false),.load 1 false (.t 22)⟩,⟨some 24,some (21,false),.bin .geq (.t 23) (.c (Z 60))⟩,cR 25 21 24,F 26 25,⟨some 27,some (26,false),.dt 1 (.t 4)⟩,⟨some 28,some (26,false),.load 1 false (.t 27)⟩,⟨some 29,some (26,false),.bin .lss (.t 28) (.c (.I (.int .i64 (-1))))⟩,cR 30 26 29,F 31 30,⟨some 32,some (31,false),.dt 1 (.t 4)⟩,⟨some 33,some (31,false),.load 1 false (.t 32)⟩,⟨some 34,some (31,false),.bin .geq (.t 33) (.c (Z 60))⟩,cR 35 31 34,F 36 35,⟨some 37,some (36,false),.dt 2 (.t 4)⟩,⟨some 38,some (36,false),.load 1 false (.t 37)⟩,⟨some 39,some (36,false),.bin .lss (.t 38) (.c (Z 0))⟩,cR 40 36 39,F 41 40,⟨some 42,some (41,false),.dt 2 (.t 4)⟩,⟨some 43,some (41,false),.load 1 false (.t 42)⟩,⟨some 44,some (41,false),.bin .geq (.t 43) (.c (Z 10))⟩,cR 45 41 44,F 46 45,⟨some 47,some (46,false),.dt 3 (.t 4)⟩,⟨some 48,some (46,false),.load 1 false (.t 47)⟩,⟨some 49,some (46,false),.bin .lss (.t 48) (.c (Z 0))⟩,cR 50 46 49,F 51 50,⟨some 52,some (51,false),.dt 3 (.t 4)⟩,⟨some 53,some (51,false),.load 1 false (.t 52)⟩,⟨some 54,some (51,false),.bin .gtr (.t 53) (.c (Z 1000000000000000))⟩,cR 55 51 54] (aS 55 (O [cq 2 false] .ret) .skip)) (eG [aO 56 0 4,aL 57 1 56,F 58 0,(au 59 (.ht 4 (.t 58) (.c (Z 0)))),aO 60 0 59,aL 61 1 60,bt 62 .neq 57 61] PA (aS 62 (O [cq 2 false] .ret) .skip))))) (.ops [F 12 3,a6 13 .add 12 1,F 3 13])))))) (O [cq 2 true] .ret))))
def aby:bZ:=cj 45 2 [.t 4,.t 5] (O [bg 4 0,bg 5 0] (O [bg 6 0] (O [bg 7 0] (.seq (O [bg 8 0] (.block 0 (.loop  (.seq (O [F 9 8,F 10 0,cb 11 10,bt 12 .lss 9 11] (aS 12 .skip (.exit 0))) (.seq (.block 1 (.seq (O [F 15 0,F 16 8,bB 17 4 15 16,aO 18 2 17,aL 19 1 18,F 20 1,bt 21 .lss 19 20] (aS 21 (.ops [F 22 6,F 23 0,F 24 8,bB 25 4 23 24,aO 26 3 25,aL 27 1 26,bt 28 .add 22 27,F 6 28]) .skip)) (O [F 29 0,F 30 8,bB 31 4 29 30,aO 32 2 31,aL 33 1 32,F 34 1,bt 35 .eql 33 34] (aS 35 (.ops [F 36 7,F 37 0,F 38 8,bB 39 4 37 38,aO 40 3 39,aL 41 1 40,bt 42 .add 36 41,F 7 42]) .skip)))) (.ops [F 13 8,a6 14 .add 13 1,F 8 14])))))) (O [F 43 6,F 44 7,F 4 43,F 5 44] .ret)))))
def abz:bZ:=cj 14 2 [.cell 4 4 true] (O [(au 4 (.alloc 284004 [(Z 0),.nil,(Z 0),.nil]))] (O [F 8 0,F 9 1,(bW 10 Ap 8 9),F 7 10,ba 11 0 7,ba 12 1 7,(au 5 (.alloc 284005 [(Z 0),.nil,(Z 0),.nil])),aX 4 5 11,F 6 12] (O [aU 13 4 5,aX 4 4 13] .ret)))
def abA:bZ:=cj 46 1 [.t 2] (O [cq 2 false] (.seq (O [F 5 0,cb 6 5,bg 7 0] (.block 0 (.loop  (O [bt 8 .lss 7 6] (.seq (aS 8 .skip (.exit 0)) (.seq (.block 1 (O [bB 9 4 5 7,aU 10 4 9,(au 4 (.alloc 240004 [(Z 0),(Z 0),(Z 0),(Z 0)])),aX 4 4 10] (eG [aO 11 0 4,aL 12 1 11,(au 13 (.call Hq [(.t 12),(.c (Z 0)),(.c (Z 59))])),ff 14 13,F 15 14,⟨some 16,some (15,false),.dt 1 (.t 4)⟩,⟨some 17,some (15,false),.load 1 false (.t 16)⟩,⟨some 18,some (15,false),.call Hq [(.t 17),(.c (.I (.int .i64 (-1)))),(.c (Z 59))]⟩,⟨some 19,some (15,false),.un .not (.t 18)⟩,cR 20 15 19,F 21 20,⟨some 22,some (21,false),.dt 2 (.t 4)⟩,⟨some 23,some (21,false),.load 1 false (.t 22)⟩,⟨some 24,some (21,false),.call Hq [(.t 23),(.c (Z 0)),(.c (Z 9))]⟩,⟨some 25,some (21,false),.un .not (.t 24)⟩,cR 26 21 25,F 27 26,⟨some 28,some (27,false),.dt 3 (.t 4)⟩,⟨some 29,some (27,false),.load 1 false (.t 28)⟩,⟨some 30,some (27,false),.call Hq [(.t 29),(.c (Z 0)),(.c (Z 1000000000000000))]⟩,⟨some 31,some (27,false),.un .not (.t 30)⟩,cR 32 27 31,F 33 32,⟨some 34,some (33,false),.dt 0 (.t 4)⟩,⟨some 35,some (33,false),.load 1 false (.t 34)⟩,⟨some 36,some (33,false),.bT (.t 0)⟩,⟨some 37,some (33,false),.ht 4 (.t 36) (.c (Z 0))⟩,⟨some 38,some (33,false),.dt 0 (.t 37)⟩,⟨some 39,some (33,false),.load 1 false (.t 38)⟩,⟨some 40,some (33,false),.bin .neq (.t 35) (.t 39)⟩,cR 41 33 40] [[],[],[],[],[],[],[],[],[],[],[],[],[],[],[],[],[],[],[],[],[],[],[],[],[],[],[],[],[],[],[]] (aS 41 (O [cq 2 false] .ret) .skip)))) (.ops [a6 42 .add 7 1,F 7 42]))))))) (O [F 43 0,cb 44 43,a6 45 .leq 44 2000,F 2 45] .ret)))
def abB:bZ:=cj 11 1 [.cell 2 4 true] (O [(au 2 (.alloc 241002 [(Z 0),.nil,(Z 0),.nil]))] (O [F 6 0,(au 7 (.call El [(.t 6),(.c (Z 1))])),F 5 7,ba 8 0 5,ba 9 1 5,(au 3 (.alloc 241003 [(Z 0),.nil,(Z 0),.nil])),aX 4 3 8,F 4 9] (O [aU 10 4 3,aX 4 2 10] .ret)))
def FM:bZ:=cj 118 2 [.t 4,.t 5] (O [dq 2 249002 0,eu 4,bg 5 0] (.seq (eG [aU 19 4 2,(dM 20 lT 19),ff 21 20,F 22 21,⟨some 23,some (22,false),.load 4 true (.t 2)⟩,⟨some 24,some (22,false),.call yS [(.c (Z 0))]⟩,⟨some 25,some (22,false),.call pF [(.t 23),(.t 24)]⟩,⟨some 26,some (22,false),.bin .lss (.t 25) (.c (Z 0))⟩,cR 27 22 26,F 28 27,⟨some 29,some (28,false),.bT (.t 1)⟩,⟨some 30,some (28,false),.call Vo [(.t 29)]⟩,⟨some 31,some (28,false),.un .not (.t 30)⟩,cR 32 28 31] Ld (aS 32 (O [eu 4,bg 5 1] .ret) .skip)) (O [F 33 1,cb 34 33,(au 35 (.lg 249035 [(Z 0),.nil,(Z 0),.nil] 64 (.t 34) (.t 34))),F 6 35] (O [aU 36 4 2,(au 7 (.alloc 249007 [(Z 0),.nil,(Z 0),.nil])),aX 4 7 36] (.seq (O [bg 37 0] (.block 0 (.loop  (O [a6 38 .lss 37 10] (.seq (aS 38 .skip (.exit 0)) (.seq (.block 1 (O [F 39 37,F 8 39] (O [bg 9 0] (.seq (O [F 40 1,cb 41 40,bg 42 0] (.block 2 (.loop  (O [bt 43 .lss 42 41] (.seq (aS 43 .skip (.exit 2)) (.seq (.block 3 (O [bB 44 4 40 42,aU 45 4 44,(au 11 (.alloc 249011 [(Z 0),(Z 0),(Z 0),(Z 0)])),aX 4 11 45] (O [aO 46 2 11,aL 47 1 46,F 48 8,bt 49 .eql 47 48] (aS 49 (.ops [F 50 9,aO 51 3 11,aL 52 1 51,bt 53 .add 50 52,F 9 53]) .skip)))) (.ops [a6 54 .add 42 1,F 42 54]))))))) (eG [aU 55 4 7,F 56 9,(dM 57 yS 56),(bW 58 pF 55 57),a6 59 .geq 58 0,F 12 59] VD (.seq (O [F 60 1,cb 61 60,bg 62 0] (.block 4 (.loop  (O [bt 63 .lss 62 61] (.seq (aS 63 .skip (.exit 4)) (.seq (.block 5 (O [F 64 62,bB 65 4 60 62,aU 66 4 65,(au 14 (.alloc 249014 [(Z 0),(Z 0),(Z 0),(Z 0)])),F 13 64,aX 4 14 66] (.seq (O [aO 67 2 14,aL 68 1 67,F 69 8,bt 70 .neq 68 69] (aS 70 (.exit 5) .skip)) (O [F 71 6,F 72 13,aO 73 3 14,aL 74 1 73,(dM 75 yS 74),bB 76 4 71 72,aX 4 76 75] (.seq (O [F 77 12] (aS 77 (.exit 5) .skip)) (eG [aO 79 3 14,aL 80 1 79,(dM 81 yS 80),aU 82 4 7,(bW 83 xa 81 82),F 78 83,ba 84 0 78,ba 85 1 78,(au 15 (.alloc 249015 [(Z 0),.nil,(Z 0),.nil])),aX 4 15 84,F 16 85] [[],[],[],[],[],[],[],[],[1,3],[],[]] (.seq (O [F 86 16,a6 87 .eql 86 0] (aS 87 (.mN [F 89 6,F 90 13,aU 91 4 15,F 92 9,(dM 93 yS 92),(bW 94 Ep 91 93),F 88 94,ba 95 0 88,ba 96 1 88,bB 97 4 89 90,aX 4 97 95,F 16 96] agq) .skip)) (O [F 98 16,a6 99 .neq 98 0] (aS 99 (O [F 100 16,eu 4,F 5 100] .ret) .skip))))))))) (.ops [a6 101 .add 62 1,F 62 101]))))))) (.seq (O [F 102 12,ff 103 102] (aS 103 (O [(au 104 (.call yS [(.c (Z 0))])),aX 4 7 104] (.exit 1)) .skip)) (eG [aU 106 4 7,F 107 9,(dM 108 yS 107),(bW 109 yQ 106 108),F 105 109,ba 110 0 105,ba 111 1 105,(au 17 (.alloc 249017 [(Z 0),.nil,(Z 0),.nil])),aX 4 17 110,F 18 111] [[],[],[],[],[],[],[],[0],[],[]] (.seq (O [F 112 18,a6 113 .neq 112 0] (aS 113 (O [F 114 18,eu 4,F 5 114] .ret) .skip)) (.ops [aU 115 4 17,aX 4 7 115])))))))))) (.ops [a6 116 .add 37 1,F 37 116]))))))) (.seq (.ghost (.freeze 6) (.ops [F 117 6,F 4 117,bg 5 0])) .ret))))))
def abC:bZ:=cj 15 3 [.t 6] (O [cq 6 false] (O [F 7 0,F 8 1,bt 9 .geq 7 8,F 10 9,⟨some 11,some (10,true),.bT (.t 0)⟩,⟨some 12,some (10,true),.bT (.t 2)⟩,⟨some 13,some (10,true),.bin .leq (.t 11) (.t 12)⟩,gN 14 10 13,F 6 14] .ret))
def abD:bZ:=cj 66 0 [.t 0] (O [cq 0 false] (O [(au 8 (.dU 215008 false [(Z 0),(Z 0)] 1 2 [(0,1,(.c (Z 5))),(1,1,(.c (Z 0)))])),(au 9 (.build [(Z 0),(Z 0),(Z 0),(Z 0)] [(0,1,(.c (Z 0))),(1,1,(.c (Z 1))),(3,1,(.c (Z 10)))])),(au 10 (.build [(Z 0),(Z 0),(Z 0),(Z 0)] [(0,1,(.c (Z 1))),(1,1,(.c (.I (.int .i64 (-1))))),(3,1,(.c (Z 4)))])),(au 11 (.dU 215011 false [(Z 0),(Z 0),(Z 0),(Z 0),(Z 0),(Z 0),(Z 0),(Z 0)] 4 2 [(0,4,(.t 9)),(4,4,(.t 10))])),(au 12 (.dU 215012 false [(Z 0),(Z 0)] 1 2 [(0,1,(.c (Z 5))),(1,1,(.c (Z 5)))])),(au 13 (.dU 215013 false [(Z 0),(Z 0)] 1 2 [(0,1,(.c (Z 5))),(1,1,(.c (Z 4)))])),(au 14 (.dU 215014 false [(Z 0)] 1 1 [(0,1,(.c (Z 0)))])),(au 15 (.dU 215015 false [.nil] 1 1 [(0,1,(.t 14))])),(au 16 (.call Ho [(.t 8),(.t 11),(.t 12),(.t 13),(.t 15)])),F 1 16] (O [(au 17 (.build [(Z 0),(Z 0),(Z 0),(Z 0)] [(0,1,(.c (Z 0))),(1,1,(.c (Z 1))),(2,1,(.c (Z 1))),(3,1,(.c (Z 10)))])),(au 18 (.build [(Z 0),(Z 0),(Z 0),(Z 0)] [(0,1,(.c (Z 1))),(1,1,(.c (Z 0))),(2,1,(.c (Z 1))),(3,1,(.c (Z 10)))])),(au 19 (.dU 215019 true [(Z 0),(Z 0),(Z 0),(Z 0),(Z 0),(Z 0),(Z 0),(Z 0)] 4 2 [(0,4,(.t 17)),(4,4,(.t 18))])),F 2 19] (O [(au 20 (.dU 215020 false [(Z 0),(Z 0)] 1 2 [(0,1,(.c (Z 0))),(1,1,(.c (Z 0)))])),F 21 2,(au 22 (.dU 215022 false [(Z 0),(Z 0)] 1 2 [(0,1,(.c (Z 10))),(1,1,(.c (Z 10)))])),(au 23 (.dU 215023 false [(Z 0),(Z 0)] 1 2 [(0,1,(.c (Z 10))),(1,1,(.c (Z 10)))])),(au 24 (.call Ho [(.t 20),(.t 21),(.t 22),(.t 23),(.c .nil)])),F 3 24] (O [(au 25 (.dU 215025 false [(Z 0),(Z 0)] 1 2 [(0,1,(.c (Z 0))),(1,1,(.c (Z 0)))])),F 26 2,(au 27 (.build [(Z 0),(Z 0),(Z 0),(Z 0)] [(0,1,(.c (Z 0))),(1,1,(.c (.I (.int .i64 (-1))))),(3,1,(.c (Z 5)))])),(au 28 (.dU 215028 false [(Z 0),(Z 0),(Z 0),(Z 0)] 4 1 [(0,4,(.t 27))])),(au 29 (.app 215029 [(Z 0),(Z 0),(Z 0),(Z 0)] 32 (.t 26) (.t 28))),(au 30 (.dU 215030 false [(Z 0),(Z 0)] 1 2 [(0,1,(.c (Z 0))),(1,1,(.c (Z 0)))])),(au 31 (.dU 215031 false [(Z 0),(Z 0),(Z 0)] 1 3 [(0,1,(.c (Z 0))),(1,1,(.c (Z 0))),(2,1,(.c (Z 0)))])),(au 32 (.dU 215032 false [(Z 0)] 1 1 [(0,1,(.c (Z 0)))])),(au 33 (.dU 215033 false [(Z 0)] 1 1 [(0,1,(.c (Z 1)))])),(au 34 (.dU 215034 false [(Z 0)] 1 1 [(0,1,(.c (Z 0)))])),(au 35 (.dU 215035 false [.nil,.nil,.nil] 1 3 [(0,1,(.t 32)),(1,1,(.t 33)),(2,1,(.t 34))])),(au 36 (.call Ho [(.t 25),(.t 29),(.t 30),(.t 31),(.t 35)])),F 4 36] (O [(au 37 (.dU 215037 false [(Z 0)] 1 1 [(0,1,(.c (Z 9)))])),(au 38 (.build [(Z 0),(Z 0),(Z 0),(Z 0)] [(1,1,(.c (.I (.int .i64 (-1))))),(3,1,(.c (Z 6)))])),(au 39 (.build [(Z 0),(Z 0),(Z 0),(Z 0)] [(1,1,(.c (.I (.int .i64 (-1))))),(2,1,(.c (Z 1))),(3,1,(.c (Z 2)))])),(au 40 (.build [(Z 0),(Z 0),(Z 0),(Z 0)] [(1,1,(.c (.I (.int .i64 (-1))))),(2,1,(.c (Z 1))),(3,1,(.c (Z 4)))])),(au 41 (.dU 215041 false [(Z 0),(Z 0),(Z 0),(Z 0),(Z 0),(Z 0),(Z 0),(Z 0),(Z 0),(Z 0),(Z 0),(Z 0)] 4 3 [(0,4,(.t 38)),(4,4,(.t 39)),(8,4,(.t 40))])),(au 42 (.dU 215042 false [(Z 0)] 1 1 [(0,1,(.c (Z 9)))])),(au 43 (.dU 215043 false [(Z 0),(Z 0),(Z 0)] 1 3 [(0,1,(.c (Z 6))),(1,1,(.c (Z 1))),(2,1,(.c (Z 2)))])),(au 44 (.dU 215044 false [(Z 0)] 1 1 [(0,1,(.c (Z 0)))])),(au 45 (.dU 215045 false [.nil] 1 1 [(0,1,(.t 44))])),(au 46 (.call Ho [(.t 37),(.t 41),(.t 42),(.t 43),(.t 45)])),F 5 46] (O [(au 48 (.dU 215048 false [(Z 0)] 1 1 [(0,1,(.c (.I (.int .i64 (-1)))))])),(au 49 (.call Eu [(.t 48),(.c .nil)])),F 47 49,ba 50 0 47,ba 51 1 47,(au 6 (.alloc 215006 [.nil,.nil,.nil])),aX 3 6 50,F 7 51] (O [F 52 1,F 53 52,⟨some 54,some (53,true),.bT (.t 3)⟩,gN 55 53 54,F 56 55,⟨some 57,some (56,true),.bT (.t 4)⟩,gN 58 56 57,F 59 58,⟨some 60,some (59,true),.bT (.t 5)⟩,gN 61 59 60,F 62 61,⟨some 63,some (62,true),.bT (.t 7)⟩,⟨some 64,some (62,true),.bin .eql (.t 63) (.c (Z 1))⟩,gN 65 62 64,F 0 65] .ret))))))))
def abE:bZ:=cj 11 1 [.cell 2 4 true] (O [(au 2 (.alloc 219002 [(Z 0),.nil,(Z 0),.nil]))] (O [F 6 0,(au 7 (.call Ap [(.t 6),(.c (Z 1))])),F 5 7,ba 8 0 5,ba 9 1 5,(au 3 (.alloc 219003 [(Z 0),.nil,(Z 0),.nil])),aX 4 3 8,F 4 9] (O [aU 10 4 3,aX 4 2 10] .ret)))
def abF:bZ:=cj 105 5 [.t 10] (O [cq 10 false] (O [F 16 0,F 17 1,(bW 18 Eu 16 17),F 15 18,ba 19 0 15,ba 20 1 15,(au 11 (.alloc 226011 [.nil,.nil,.nil])),aX 3 11 19,F 12 20] (.seq (O [F 21 12,a6 22 .neq 21 0,F 23 22,⟨some 24,some (23,false),.dt 0 (.t 11)⟩,⟨some 25,some (23,false),.load 1 false (.t 24)⟩,⟨some 26,some (23,false),.len (.t 25)⟩,⟨some 27,some (23,false),.bT (.t 2)⟩,⟨some 28,some (23,false),.len (.t 27)⟩,⟨some 29,some (23,false),.bin .neq (.t 26) (.t 28)⟩,cR 30 23 29,F 31 30,⟨some 32,some (31,false),.dt 1 (.t 11)⟩,⟨some 33,some (31,false),.load 1 false (.t 32)⟩,⟨some 34,some (31,false),.len (.t 33)⟩,⟨some 35,some (31,false),.bT (.t 3)⟩,⟨some 36,some (31,false),.len (.t 35)⟩,⟨some 37,some (31,false),.bin .neq (.t 34) (.t 36)⟩,cR 38 31 37,F 39 38,⟨some 40,some (39,false),.dt 2 (.t 11)⟩,⟨some 41,some (39,false),.load 1 false (.t 40)⟩,⟨some 42,some (39,false),.bT (.t 4)⟩,⟨some 43,some (39,false),.call K6 [(.t 41),(.t 42)]⟩,⟨some 44,some (39,false),.un .not (.t 43)⟩,cR 45 39 44] (aS 45 (O [cq 10 false] .ret) .skip)) (.seq (O [bg 13 0] (.block 0 (.loop  (.seq (O [F 46 13,F 47 2,cb 48 47,bt 49 .lss 46 48] (aS 49 .skip (.exit 0))) (.seq (.block 1 (eG [aO 52 0 11,aL 53 1 52,F 54 13,bB 55 4 53 54,aU 56 4 55,F 57 2,F 58 13,bB 59 1 57 58,aL 60 1 59,(dM 61 Pt 60),(bW 62 pF 56 61),a6 63 .neq 62 0,F 64 63,⟨some 65,some (64,false),.dt 0 (.t 11)⟩,⟨some 66,some (64,false),.load 1 false (.t 65)⟩,⟨some 67,some (64,false),.bT (.t 13)⟩,⟨some 68,some (64,false),.ht 4 (.t 66) (.t 67)⟩,⟨some 69,some (64,false),.load 4 true (.t 68)⟩,⟨some 70,some (64,false),.call lT [(.t 69)]⟩,⟨some 71,some (64,false),.un .not (.t 70)⟩,cR 72 64 71] VE (aS 72 (O [cq 10 false] .ret) .skip))) (.ops [F 50 13,a6 51 .add 50 1,F 13 51])))))) (.seq (O [bg 14 0] (.block 2 (.loop  (.seq (O [F 73 14,F 74 3,cb 75 74,bt 76 .lss 73 75] (aS 76 .skip (.exit 2))) (.seq (.block 3 (eG [aO 79 1 11,aL 80 1 79,F 81 14,bB 82 4 80 81,aU 83 4 82,F 84 3,F 85 14,bB 86 1 84 85,aL 87 1 86,(dM 88 Pt 87),(bW 89 pF 83 88),a6 90 .neq 89 0,F 91 90,⟨some 92,some (91,false),.dt 1 (.t 11)⟩,⟨some 93,some (91,false),.load 1 false (.t 92)⟩,⟨some 94,some (91,false),.bT (.t 14)⟩,⟨some 95,some (91,false),.ht 4 (.t 93) (.t 94)⟩,⟨some 96,some (91,false),.load 4 true (.t 95)⟩,⟨some 97,some (91,false),.call lT [(.t 96)]⟩,⟨some 98,some (91,false),.un .not (.t 97)⟩,cR 99 91 98] VE (aS 99 (O [cq 10 false] .ret) .skip))) (.ops [F 77 14,a6 78 .add 77 1,F 14 78])))))) (O [F 100 0,F 101 1,aO 102 0 11,aL 103 1 102,(qf 104 K2 100 101 103),F 10 104] .ret))))))
def abG:bZ:=cj 57 3 [.t 6] (O [cq 6 false] (O [(au 12 (.call Vk [])),F 7 12] (.seq (O [F 13 0,F 14 1,(bW 15 Vl 13 14),ff 16 15,F 17 16,⟨some 18,some (17,false),.bT (.t 2)⟩,⟨some 19,some (17,false),.call US [(.t 18),(.c (Z 6)),(.c (Z 2))]⟩,⟨some 20,some (17,false),.un .not (.t 19)⟩,cR 21 17 20] (aS 21 (O [F 22 7,F 6 22] .ret) .skip)) (O [F 24 0,F 25 1,(bW 26 Eu 24 25),F 23 26,ba 27 0 23,ba 28 1 23,(au 8 (.alloc 257008 [.nil,.nil,.nil])),aX 3 8 27,F 9 28] (O [F 30 0,F 31 1,(bW 32 Vv 30 31),F 29 32,ba 33 0 29,ba 34 1 29,(au 10 (.alloc 257010 [.nil,.nil,.nil])),aX 3 10 33,F 11 34] (O [F 35 7,F 36 35,⟨some 37,some (36,true),.bT (.t 9)⟩,⟨some 38,some (36,true),.bT (.t 11)⟩,⟨some 39,some (36,true),.bin .eql (.t 37) (.t 38)⟩,gN 40 36 39,F 41 40,⟨some 42,some (41,true),.load 3 true (.t 8)⟩,⟨some 43,some (41,true),.load 3 true (.t 10)⟩,⟨some 44,some (41,true),.call Vw [(.t 42),(.t 43)]⟩,gN 45 41 44,F 46 45,⟨some 47,some (46,true),.bT (.t 0)⟩,⟨some 48,some (46,true),.bT (.t 1)⟩,⟨some 49,some (46,true),.bT (.t 2)⟩,⟨some 50,some (46,true),.call K2 [(.t 47),(.t 48),(.t 49)]⟩,⟨some 51,some (46,true),.bT (.t 0)⟩,⟨some 52,some (46,true),.bT (.t 1)⟩,⟨some 53,some (46,true),.bT (.t 2)⟩,⟨some 54,some (46,true),.call Vx [(.t 51),(.t 52),(.t 53)]⟩,⟨some 55,some (46,true),.beq false (.t 50) (.t 54)⟩,gN 56 46 55,F 6 56] .ret))))))

def bR (c:aG):List Data:=[.int .i64 c.1,.int .i64 c.2.1,.int .i64 c.2.2.1,.int .i64 c.2.2.2]
theorem Dk (c:aG):(bR c).length=4:=rfl
theorem RW (c:aG):((bR c).map R.I).all R.one=true:=rfl
theorem sx:∀a b:aG,bR a=bR b->a=b:=by
 rintro⟨cE,cO,ei,eS⟩ ⟨c0,ee,gz,gW⟩ h;simp only[bR,bk,Data.int.injEq,true_and,and_true] at h;obtain⟨rfl,rfl,rfl,rfl⟩:=h
 rfl
theorem MR {cs:List aG}{i:Nat}{c:aG}(h:cs[i]?=some c)(aR:aG->Int):cF (cs.take (i+1)) aR=cF (cs.take i) aR+aR c:=by
 rw[List.take_add_one,h,MA];simp[cF]
def rD (cs:List aG):Prop:=D cs<=2000/\∀c∈cs,0<=c.2.2.2/\c.2.2.2<=1000000000000000
theorem rD.sum {cs:List aG}(h:rD cs)(p:aG->Prop)[DecidablePred p](i:Nat):0<=cF (cs.take i) (λc=>if p c then c.2.2.2 else 0)/\cF (cs.take i) (λc=>if p c then c.2.2.2 else 0)<=2000000000000000000:=by
 have G:=RA (cs:=cs.take i) (aR:=λc=>if p c then c.2.2.2 else 0) (B:=1000000000000000) (by omega) λc H=>by
  have:=h.2 c (List.mem_of_mem_take H)
  try dsimp only
  split<;>omega
 have J:=h.1;have af:(cs.take i).length<=D cs:=by rw[List.length_take];omega
 omega
theorem zu {E:List Int}{cs:List aG}(h:hk E cs=true):rD cs :=
 ⟨(il.1 h).2.1,λc H=>⟨((il.1 h).2.2.2 c H).2.2.2.2.2.2.1,((il.1 h).2.2.2 c H).2.2.2.2.2.2.2⟩⟩
theorem MS {n:Int}(h:dr n):gH (bf n) (bf 1)=(al (n:Rat),0):=by
 rw[AP (td h) (by decide +kernel) (by decide),RH,show ((1:Int):Rat)=1 from rfl,show (n:Rat)/1=n by grind]
def u2:=cn xb λ(n:Int)=>cN (dr n) (.same (.agg (ar (al (n:Rat)))))
@[go_sem] theorem Dl (n:Int)(H:dr n):u2 [.int .i64 n]=some (.same (.agg (ar (al (n:Rat))))):=(cz At n).trans (cX H _)
theorem azk (T:bl)(FN:T Ap=aQ Ib)(n:Int)(H:dr n):WP T abr (.same (.agg (ar (al (n:Rat))))) [.I (.int .i64 n)]:=by
 refine cD ?_;simp only[abr];have G:dr 1:=by unfold dr;omega
 have h:=MS H;generalize al (n:Rat)=aR at *;obtain⟨⟨a,b⟩,⟨c,d⟩⟩:=aR;refine ak ?_;repeat' (intro (ay:_=_)<;>simp only[ay,go_sem,go_sem_proc,FN,H,G,h,cG,ar]<;>try refine ai ?_ ?_)
def u3:=cn xb λ(n:Int)=>cN (dr n) (.same (.agg (ar (al (n:Rat)))))
@[go_sem] theorem Bn (n:Int)(H:dr n):u3 [.int .i64 n]=some (.same (.agg (ar (al (n:Rat))))):=(cz At n).trans (cX H _)
theorem azl (T:bl)(MT:T El=aQ LH)(n:Int)(H:dr n):WP T XR (.same (.agg (ar (al (n:Rat))))) [.I (.int .i64 n)]:=by
 refine cD ?_;simp only[XR];have G:dr 1:=by unfold dr;omega
 have h:=MS H;generalize al (n:Rat)=aR at *;obtain⟨⟨a,b⟩,⟨c,d⟩⟩:=aR;refine ak ?_;repeat' (intro (ay:_=_)<;>simp only[ay,go_sem,go_sem_proc,MT,H,G,h,cG,ar]<;>try refine ai ?_ ?_)
def MU:=cn xb λ(n:Int)=>cN (dr n) (.same (.agg (ar (al (n:Rat)))))
@[go_sem] theorem azm (n:Int)(H:dr n):MU [.int .i64 n]=some (.same (.agg (ar (al (n:Rat))))):=(cz At n).trans (cX H _)
theorem azn (T:bl)(MT:T El=aQ LH)(n:Int)(H:dr n):WP T abB (.same (.agg (ar (al (n:Rat))))) [.I (.int .i64 n)]:=by
 refine cD ?_;simp only[abB];have G:dr 1:=by unfold dr;omega
 have h:=MS H;generalize al (n:Rat)=aR at *;obtain⟨⟨a,b⟩,⟨c,d⟩⟩:=aR;refine ak ?_;repeat' (intro (ay:_=_)<;>simp only[ay,go_sem,go_sem_proc,MT,H,G,h,cG,ar]<;>try refine ai ?_ ?_)
def RX:=cn xb λ(n:Int)=>cN (dr n) (.same (.agg (ar (al (n:Rat)))))
@[go_sem] theorem azo (n:Int)(H:dr n):RX [.int .i64 n]=some (.same (.agg (ar (al (n:Rat))))):=(cz At n).trans (cX H _)
theorem azp (T:bl)(FN:T Ap=aQ Ib)(n:Int)(H:dr n):WP T abE (.same (.agg (ar (al (n:Rat))))) [.I (.int .i64 n)]:=by
 refine cD ?_;simp only[abE];have G:dr 1:=by unfold dr;omega
 have h:=MS H;generalize al (n:Rat)=aR at *;obtain⟨⟨a,b⟩,⟨c,d⟩⟩:=aR;refine ak ?_;repeat' (intro (ay:_=_)<;>simp only[ay,go_sem,go_sem_proc,FN,H,G,h,cG,ar]<;>try refine ai ?_ ?_)
def RY:=cn Hx λ(p,q)=>cN (dr p/\dr q) (.same (.agg (ar (gH (bf p) (bf q)).1)))
@[go_sem] theorem azq (p:Int)(q:Int)(H:dr p/\dr q):RY [.int .i64 p,.int .i64 q]=some (.same (.agg (ar (gH (bf p) (bf q)).1))):=(cz PH (p,q)).trans (cX H _)
theorem azr (T:bl)(FN:T Ap=aQ Ib)(p:Int)(q:Int)(H:dr p/\dr q):WP T abz (.same (.agg (ar (gH (bf p) (bf q)).1))) [.I (.int .i64 p),.I (.int .i64 q)]:=by
 refine cD ?_;simp only[abz];obtain⟨G,J⟩:=H;generalize dG:gH (bf p) (bf q)=aR at *;obtain⟨⟨⟨a,b⟩,⟨c,d⟩⟩,e⟩:=aR;refine ak ?_;repeat' (intro h<;>simp only[h,go_sem,go_sem_proc,FN,G,J,dG,cG,ar]<;>try refine ai ?_ ?_)
abbrev abH:(List aG)×Int×Int->List Data:=λ(cs,cr,r)=>[.X (cs.map bR),.int .i64 cr,.int .i64 r]
def xX:=cn abH λ(cs,cr,r)=>cN (rD cs) (.same (.int .i64 (b4 cs cr r)))
theorem azs:∀a b,abH a=abH b->a=b:=by
  rintro⟨FO,azt,eF⟩ ⟨vy,azu,eU⟩ h;simp only[bk,Data.int.injEq,Data.X.injEq] at h;exact dN (map_inj sx _ _ h.1) (dN h.2.1.2 h.2.2.1.2)
@[go_sem] theorem RZ (cs:List aG)(cr:Int)(r:Int)(H:rD cs):xX [.X (cs.map bR),.int .i64 cr,.int .i64 r]=some (.same (.int .i64 (b4 cs cr r))):=(cz azs (cs,cr,r)).trans (cX H _)
theorem azv (T:bl)  (cs:List aG) (cr:Int) (r:Int) (H:rD cs):WP T abt (.same (.int .i64 (b4 cs cr r))) [.I (.X (cs.map bR)),.I (.int .i64 cr),.I (.int .i64 r)]:=by
 refine cD ?_;simp only[abt];have aw:=H.1;simp only[go_sem,go_sem_proc];refine cU [0,1,2] [] (λ(i:Nat) tm mem=>i<=D cs/\tm 7=.I (.int .i64 (b4 (cs.take i) cr r))/\tm 8=.I (.int .i64 i)) (λi=>D cs-i) 0 (by refine⟨by omega,rfl,rfl⟩) ?_;intro vs ms aJ aH;simp only[go_sem,go_sem_proc] at aJ aH;subst aJ aH;rintro i tm mem L hm ⟨Q,bV,cu⟩;simp only[go_sem,go_sem_proc,bk] at L;obtain⟨ax,G,J⟩:=L;rcases dc (i<D cs) with az|b2
 ·obtain⟨⟨a,b,k,m⟩,M⟩:∃c,cs[i]?=some c:=⟨_,bq az⟩;have d1:decide ((i:Int)<(D cs:Int))=true:=cT;have bG:=ec (i:=i) (by omega);have U:=H.sum (λc=>c.1=cr/\c.2.2.1<r) i;have hm:=H.2 _ (dn M);have dF:=MR M λc=>if c.1=cr/\c.2.2.1<r then c.2.2.2 else 0;unfold b4 at bV ⊢;generalize cF (cs.take i) (λc=>if c.1=cr/\c.2.2.1<r then c.2.2.2 else 0)=s at *;dsimp only at dF hm;have m0:IntKind.i64.wrap (s+m)=s+m:=by rw[fh _]
  rcases av:(a==cr)
  ·have:¬ (a=cr/\k<r):=λh=>by rw[h.1] at av;simp at av
   rw[ag this] at dF;refine ak ?_;repeat' (intro (ay:_=_)<;>simp only[ay,go_sem,go_sem_proc,ax,G,J,bV,cu,M,d1,bG,m0,av,bR,aE,bj]<;>try refine ai ?_ ?_)
   exact⟨i+1,by omega,by omega,by rw[dF,ra],rfl⟩
  ·have E3:=beq_iff_eq.1 av;rcases aB:decide (k<r)
   ·have:¬ (a=cr/\k<r):=λh=>of_decide_eq_false aB h.2;rw[ag this] at dF;refine ak ?_;repeat' (intro (ay:_=_)<;>simp only[ay,go_sem,go_sem_proc,ax,G,J,bV,cu,M,d1,bG,m0,av,aB,bR,aE,bj]<;>try refine ai ?_ ?_)
    exact⟨i+1,by omega,by omega,by rw[dF,ra],rfl⟩
   ·rw[ad ⟨E3,of_decide_eq_true aB⟩] at dF;refine ak ?_;repeat' (intro (ay:_=_)<;>simp only[ay,go_sem,go_sem_proc,ax,G,J,bV,cu,M,d1,bG,m0,av,aB,bR,aE,bj]<;>try refine ai ?_ ?_)
    exact⟨i+1,by omega,by omega,by rw[dF],rfl⟩
 ·have d1:decide ((i:Int)<(D cs:Int))=false:=cl;rw[dp (by omega)] at bV;refine ak ?_;repeat' (intro (ay:_=_)<;>simp only[ay,go_sem,go_sem_proc,ax,G,J,bV,cu,d1,aE]<;>try refine ai ?_ ?_)
def nZ (m:Int):Bool:=!(decide (m>1000000)&&decide (m<=1000000000000000))
def xY (E:List Int)(cs:List aG):Bool:=!(decide ((D E:Int)>5))&&(!(decide ((D cs:Int)>12))&&(E.all nZ&&cs.all λc=>nZ c.2.2.2))
abbrev FP:(List Int)×(List aG)->List Data:=λ(E,cs)=>[.X (E.map ae),.X (cs.map bR)]
def abI:=cn FP λ(E,cs)=>some (.same (.bool (xY E cs)))
theorem MV:∀a b,FP a=FP b->a=b:=by
  rintro⟨abJ,FO⟩ ⟨abK,vy⟩ h;simp only[bk,Data.X.injEq] at h;exact dN (map_inj gx _ _ h.1) (map_inj sx _ _ h.2.1)
@[go_sem] theorem azw (E:List Int)(cs:List aG):abI [.X (E.map ae),.X (cs.map bR)]=some (.same (.bool (xY E cs))):=cz MV (E,cs)
theorem azx (T:bl)  (E:List Int) (cs:List aG):WP T abn (.same (.bool (xY E cs))) [.I (.X (E.map ae)),.I (.X (cs.map bR))]:=by
 refine cD ?_;simp only[abn];unfold xY;rcases av:decide ((D E:Int)>5)
 ·rcases aB:decide ((D cs:Int)>12)
  ·have ed:(D E)<=5:=by have:=of_decide_eq_false av;omega
   have aa:(D cs)<=12:=by have:=of_decide_eq_false aB;omega
   simp only[go_sem,go_sem_proc,av,aB,aE];refine cU [0,1] [] (λ(i:Nat) tm mem=>i<=D E/\(E.take i).all nZ=true/\tm 5=.I (.int .i64 i)) (λi=>D E-i) 0 (by refine⟨by omega,by simp,rfl⟩) ?_;intro vs ms aJ aH;simp only[go_sem,go_sem_proc] at aJ aH;subst aJ aH;rintro i tm mem L hm ⟨Q,aC,bx⟩;simp only[go_sem,go_sem_proc,bk] at L;obtain⟨ax,G⟩:=L;rcases dc (i<D E) with az|b2
   ·obtain⟨x,M⟩:∃c,E[i]?=some c:=⟨_,bq az⟩;have d1:decide ((i:Int)<(D E:Int))=true:=cT;have bG:=ec (i:=i) (by omega);rcases aq:decide (x>1000000)
    ·have H:nZ x=true:=by unfold nZ;rw[aq];rfl
     refine ak ?_;repeat' (intro h<;>simp only[h,go_sem,go_sem_proc,ax,G,bx,M,d1,bG,aq,ae,aE,bj]<;>try refine ai ?_ ?_)
     exact⟨i+1,by omega,by omega,by rw[Fi M,aC,H];rfl,rfl⟩
    ·rcases c2:decide (x<=1000000000000000)
     ·have H:nZ x=true:=by unfold nZ;rw[aq,c2];rfl
      refine ak ?_;repeat' (intro h<;>simp only[h,go_sem,go_sem_proc,ax,G,bx,M,d1,bG,aq,c2,ae,aE,bj]<;>try refine ai ?_ ?_)
      exact⟨i+1,by omega,by omega,by rw[Fi M,aC,H];rfl,rfl⟩
     ·have H:nZ x=false:=by unfold nZ;rw[aq,c2];rfl
      rw[L2 M H];refine ak ?_;repeat' (intro h<;>simp only[h,go_sem,go_sem_proc,ax,G,bx,M,d1,bG,aq,c2,ae,aE,bj,db,fD,eR]<;>try refine ai ?_ ?_)
   ·have d1:decide ((i:Int)<(D E:Int))=false:=cl;have FQ:E.all nZ=true:=by rw[dp (by omega)] at aC;exact aC
    rw[FQ];simp only[go_sem,go_sem_proc,ax,bx,d1,aE];refine cU [1] [] (λ(i:Nat) tm mem=>i<=D cs/\(cs.take i).all (λc=>nZ c.2.2.2)=true/\tm 6=.I (.int .i64 i)) (λi=>D cs-i) 0 (by refine⟨by omega,by simp,rfl⟩) ?_;intro vs ms aJ aH;simp only[go_sem,go_sem_proc,G] at aJ aH;subst aJ aH;clear ax G bx hm;rintro i tm mem L hm ⟨Q,aC,b0⟩;simp only[go_sem,go_sem_proc,bk] at L;have G:=L;rcases dc (i<D cs) with az|b2
    ·obtain⟨⟨a,b,k,x⟩,M⟩:∃c,cs[i]?=some c:=⟨_,bq az⟩;have d1:decide ((i:Int)<(D cs:Int))=true:=cT;have bG:=ec (i:=i) (by omega);rcases aq:decide (x>1000000)
     ·have H:nZ x=true:=by unfold nZ;rw[aq];rfl
      refine ak ?_;repeat' (intro h<;>simp only[h,go_sem,go_sem_proc,G,b0,M,d1,bG,aq,bR,aE,bj]<;>try refine ai ?_ ?_)
      exact⟨i+1,by omega,by omega,by rw[Fi M,aC];exact H,rfl⟩
     ·rcases c2:decide (x<=1000000000000000)
      ·have H:nZ x=true:=by unfold nZ;rw[aq,c2];rfl
       refine ak ?_;repeat' (intro h<;>simp only[h,go_sem,go_sem_proc,G,b0,M,d1,bG,aq,c2,bR,aE,bj]<;>try refine ai ?_ ?_)
       exact⟨i+1,by omega,by omega,by rw[Fi M,aC];exact H,rfl⟩
      ·have H:nZ x=false:=by unfold nZ;rw[aq,c2];rfl
       rw[L2 (p:=λc:aG=>nZ c.2.2.2) M H];refine ak ?_;repeat' (intro h<;>simp only[h,go_sem,go_sem_proc,G,b0,M,d1,bG,aq,c2,bR,aE,bj,db,fD]<;>try refine ai ?_ ?_)
    ·have d1:decide ((i:Int)<(D cs:Int))=false:=cl;have FQ:cs.all (λc=>nZ c.2.2.2)=true:=by rw[dp (by omega)] at aC;exact aC
     rw[FQ];refine ak ?_;repeat' (intro h<;>simp only[h,go_sem,go_sem_proc,G,b0,d1,aE,db,fD]<;>try refine ai ?_ ?_)
  ·refine ak ?_;repeat' (intro h<;>simp only[h,go_sem,go_sem_proc,av,aB,aE,cw,eR,jB]<;>try refine ai ?_ ?_)
 ·refine ak ?_;repeat' (intro h<;>simp only[h,go_sem,go_sem_proc,av,aE,cw,eR]<;>try refine ai ?_ ?_)
theorem azy {x:List Data}(h:Fits [.int .i64,.int .i64,.int .i64,.int .i64] x):∃c:aG,x=bR c:=by
 simp only[Fit,Fits] at h;obtain⟨_,_,rfl,⟨a,rfl,-⟩,_,_,rfl,⟨b,rfl,-⟩,_,_,rfl,⟨c,rfl,-⟩,_,_,rfl,⟨d,rfl,-⟩,rfl⟩:=h;exact⟨(a,b,c,d),rfl⟩
theorem azz {es:List (List Data)}(h:∀x∈es,Fit (.st [.int .i64,.int .i64,.int .i64,.int .i64]) x):∃l:List aG,es=l.map bR:=by
 obtain⟨l,e,-⟩:=Ph (e:=bR) (good:=λ_=>True) λx M=>by
  have:=h x M;unfold Fit at this;obtain⟨c,rfl⟩:=azy this;exact⟨c,rfl,trivial⟩
 exact⟨l,e⟩
end Go.Mini
namespace Go.Mini
open Classical
structure Alike (d e:Day):Prop where
 n:d.n=e.n
 E:d.E=e.E
 mem:∀c,c∈d.dI↔c∈e.dI
 sum:∀aR,b3 d.dI aR=b3 e.dI aR
theorem Alike.symm {d e:Day}(h:Alike d e):Alike e d:=⟨h.n.symm,h.E.symm,λc=>(h.mem c).symm,λaR=>(h.sum aR).symm⟩
section
variable {d e:Day} (h:Alike d e)
include h
theorem Alike.bI:d.bI=e.bI:=by funext k r;exact h.sum _
theorem Alike.S:d.S=e.S:=by funext k r;exact h.sum _
theorem Alike.w:d.w=e.w:=by funext c;unfold Day.w;rw[h.S]
theorem Alike.q:d.q=e.q:=by funext f x c;unfold Day.q;rw[h.bI,h.w]
theorem Alike.eZ:d.eZ=e.eZ:=by funext a i;unfold Day.eZ;rw[h.E,h.sum]
theorem Alike.ha:d.ha=e.ha:=by funext C x;unfold Day.ha;rw[h.n]
theorem Alike.cap:d.cap=e.cap:=by funext f g C k;unfold Day.cap;rw[h.bI]
theorem Alike.closed (f:Nat->Nat)(C:Nat->Prop):d.closed f C↔e.closed f C:=by
 unfold Day.closed;exact⟨λk c H=>k c ((h.mem c).2 H),λk c H=>k c ((h.mem c).1 H)⟩
theorem Alike.inv {f:Nat->Nat}{g:Nat->Rat}(a:Inv d f g):Inv e f g:=by
 obtain⟨G,J,af,aT,bx⟩:=a;refine⟨G,λi Q=>?_,λi Q aC=>?_,λi Q aC=>?_,λC kH azA azB=>?_⟩
 ·have:=J i (by rw[h.n];exact Q);rwa [h.eZ,h.q] at this
 ·have:=af i (by rw[h.n];exact Q) aC;rwa [h.bI] at this
 ·have:=aT i (by rw[h.n];exact Q) aC;rwa [h.bI] at this
 ·have:=bx C kH (λi Q=>by rw[h.n];exact azA i Q) ((h.closed f C).2 azB);rwa [h.ha,h.eZ,h.q,h.cap,h.bI] at this
theorem Alike.ak6 {f:Nat->Nat}{x:Nat->Rat}(a:nU d f x):nU e f x:=by
 obtain⟨g,G,J,af⟩:=a;refine⟨g,h.inv G,λi Q=>?_,λi Q=>af i (by rw[h.n];exact Q)⟩;have:=J i (by rw[h.n];exact Q);rwa [h.eZ,h.q] at this
theorem Alike.azC:nU d=nU e:=by
 funext f x
 exact propext ⟨h.ak6,h.symm.ak6⟩
theorem Alike.top:d.top=e.top:=by
 funext f
 unfold Day.top;rw[h.azC]
theorem Alike.eO:d.eO=e.eO:=by
 funext f
 unfold Day.eO;rw[h.top,h.bI,h.n]
theorem Alike.h4:d.h4=e.h4:=by
 funext x i k
 induction k with
 |zero=>rfl
 |succ k aN=>unfold Day.h4;rw[h.bI,aN]
theorem Alike.ez:d.ez=e.ez:=by
 funext f x i
 unfold Day.ez;rw[h.n,h.bI,h.h4]
theorem Alike.rounds:d.rounds=e.rounds:=by
 funext k
 induction k with
 |zero=>funext f;rfl
 |succ k aN =>
  funext f
  unfold Day.rounds;rw[h.eO,h.ez,h.top,aN]
end
def dE (cs:List aG)(i k:Nat):List aG:=cs.filter λc=>c.1==(i:Int)&&c.2.2.1==(k:Int)
theorem FR {cs:List aG}{i k:Nat}{c:aG}:c∈dE cs i k↔c∈cs/\c.1=(i:Int)/\c.2.2.1=(k:Int):=by
 unfold dE;rw[aaO,fw,beq_iff_eq,beq_iff_eq]
def dX (n:Nat)(cs:List aG):List aG:=(eN n).flatMap λi=>(eN 10).flatMap λk=>dE cs i k
theorem azD (cs:List aG)(i k j r:Nat):dE (dE cs i k) j r=if i=j/\k=r then dE cs i k else []:=by
 unfold dE;rw[List.filter_filter]
 by_cases h:i=j/\k=r
 ·obtain⟨rfl,rfl⟩:=h;rw[ad ⟨rfl,rfl⟩]
  congr 1
  funext c
  simp
 ·rw[ag h,List.filter_eq_nil_iff];intro c _;simp only[fw,beq_iff_eq];rintro⟨⟨G,J⟩,af,aT⟩;exact h ⟨by omega,by omega⟩
theorem ak7 {α:Type}{n i:Nat}(Q:i<n)(aR:Nat->List α)(h:∀k,k<n->k≠i->aR k=[]):(eN n).flatMap aR=aR i:=by
 induction n with
 |zero=>omega
 |succ n aN =>
  rw[pZ,xZ,qd,Bo,gS]
  by_cases aM:i=n
  ·subst aM
   have:(eN i).flatMap aR=[]:=by
    rw[ak8];intro k L;have:=iM.1 L;exact h k (by omega) (by omega)
   rw[this,hX]
  ·rw[aN (by omega) λk L=>h k (by omega),h n (by omega) (Ne.symm aM),gS]
theorem ak9 {α:Type}(l:List α)(aR:α->List aG)(i k:Nat):dE (l.flatMap aR) i k=l.flatMap λx=>dE (aR x) i k:=by
 unfold dE
 induction l with
 |nil=>rfl
 |cons a l aN=>rw[qd,qd,sw,aN]
theorem ala {n i k:Nat}(cs:List aG)(Q:i<n)(L:k<10):dE (dX n cs) i k=dE cs i k:=by
 unfold dX;rw[ak9];simp only[ak9,azD];rw[ak7 Q,ak7 L]
 ·rw[ad ⟨rfl,rfl⟩]
 ·intro r _ Y;rw[ag λh=>Y h.2]
 ·intro j _ aA;rw[ak8];intro r _;rw[ag λh=>aA h.1]
theorem alb {n:Nat}{a b:List aG}(h:∀i,i<n->∀k,k<10->dE a i k=dE b i k):dX n a=dX n b:=by
 unfold dX;rw[x0,x0]
 congr 1
 refine oi λi Q=>?_;rw[x0,x0]
 congr 1
 exact oi λk L=>h i (iM.1 Q) k (iM.1 L)
theorem azE (n:Nat)(cs:List aG):dX n (dX n cs)=dX n cs:=alb λ_ Q _ L=>ala cs Q L
theorem abL {n:Nat}{cs:List aG}(Y:∀c∈cs,0<=c.1/\c.1<n/\0<=c.2.2.1/\c.2.2.1<10){c:aG}:c∈dX n cs↔c∈cs:=by
 unfold dX;simp only[List.mem_flatMap,iM,FR]
 constructor
 ·rintro⟨i,-,k,-,h,-⟩;exact h
 ·intro H;have:=Y c H;exact⟨c.1.toNat,by omega,c.2.2.1.toNat,by omega,H,by omega,by omega⟩
theorem MW (a b:List ef)(aR:ef->Rat):b3 (a++b) aR=b3 a aR+b3 b aR:=by
 induction a with
 |nil=>simp only[hX,b3];grind
 |cons c l aN=>rw[mj,b3,b3,aN];grind
theorem alc (aR:Nat->List aG)(bE:ef->Rat)(n:Nat):b3 (((eN n).flatMap aR).map cg) bE=cJ n λi=>b3 ((aR i).map cg) bE:=by
 induction n with
 |zero=>rfl
 |succ n aN=>rw[pZ,xZ,js,MW,aN,cJ,qd,Bo,gS]
theorem azF {l:List ef}(aw:∀c∈l,c.bP<10)(b:Nat->ef->Rat):cJ 10 (λk=>b3 l (λc=>if c.bP=k then b k c else 0))=b3 l (λc=>b c.bP c):=by
 induction l with
 |nil=>exact Bf λk _=>rfl
 |cons c l aN =>
  rw[b3,<-aN λx M=>aw x (hO _ M)];have e:(λk:Nat=>b3 (c::l) (λc=>if c.bP=k then b k c else 0))=λk=>(if c.bP=k then b k c else 0)+b3 l (λc=>if c.bP=k then b k c else 0):=rfl;rw[e,Fy]
  congr 1
  rw[Bg (aw c g3) λk _ L=>ag (Ne.symm L),ad rfl]
theorem abM {cs:List aG}(Y:∀c∈cs,0<=c.1/\0<=c.2.2.1)(i k:Nat)(bE:ef->Rat):b3 ((dE cs i k).map cg) bE=b3 (cs.map cg) λc=>if c.aK=i/\c.bP=k then bE c else 0:=by
 induction cs with
 |nil=>rfl
 |cons c l aN =>
  have ax:=Y c g3;have aN:=aN λx M=>Y x (hO _ M);unfold dE at aN ⊢;rw[ey,b3,<-aN]
  by_cases h:(cg c).aK=i/\(cg c).bP=k
  ·obtain⟨G,J⟩:=h;have av:c.1=(i:Int):=by have:c.1.toNat=i:=G;omega
   have aB:c.2.2.1=(k:Int):=by have:c.2.2.1.toNat=k:=J;omega
   rw[rB (by simp[av,aB]),ey,b3,ad ⟨G,J⟩]
  ·rw[ag h,tC,qD];intro ah;rw[fw,beq_iff_eq,beq_iff_eq] at ah;refine h ⟨?_,?_⟩
   ·show c.1.toNat=i;omega
   ·show c.2.2.1.toNat=k;omega
theorem ald {n:Nat}{cs:List aG}(Y:∀c∈cs,0<=c.1/\c.1<n/\0<=c.2.2.1/\c.2.2.1<10)(bE:ef->Rat):b3 ((dX n cs).map cg) bE=b3 (cs.map cg) bE:=by
 unfold dX;rw[alc]
 have bD:∀c∈cs.map cg,c.aK<n:=λc H=>by
  obtain⟨x,M,rfl⟩:=fO.1 H;have:=Y x M;show x.1.toNat<n;omega
 have kd:∀c∈cs.map cg,c.bP<10:=λc H=>by
  obtain⟨x,M,rfl⟩:=fO.1 H;have:=Y x M;show x.2.2.1.toNat<10;omega
 have e:(λi=>b3 (((eN 10).flatMap λk=>dE cs i k).map cg) bE)=λi=>b3 (cs.map cg) λc=>if c.aK=i then bE c else 0:=by
  funext i
  rw[alc,<-azF kd λ_ c=>if c.aK=i then bE c else 0]
  congr 1
  funext k
  rw[abM λc H=>⟨(Y c H).1,(Y c H).2.2.1⟩];refine wu λc _=>?_
  by_cases G:c.bP=k
  ·rw[ad G]
   by_cases J:c.aK=i
   ·rw[ad ⟨J,G⟩,ad J]
   ·rw[ag λh=>J h.1,ag J]
  ·rw[ag G,ag λh=>G h.2]
 rw[e,aav bD λ_ c=>bE c]
theorem ale {E:List Int}{cs:List aG}(h:hk E cs=true):Alike (ao E cs) (ao E (dX (D E) cs)):=by
 have Y:∀c∈cs,0<=c.1/\c.1<D E/\0<=c.2.2.1/\c.2.2.1<10:=λc H=>by
  have:=(il.1 h).2.2.2 c H;exact⟨this.1,this.2.1,this.2.2.2.2.1,this.2.2.2.2.2.1⟩
 refine⟨rfl,rfl,λc=>?_,λaR=>(ald Y aR).symm⟩;show c∈cs.map cg↔c∈(dX (D E) cs).map cg;rw[fO,fO];simp only[abL Y]
theorem alf {n:Nat}{cs:List aG}(Y:∀c∈cs,0<=c.1/\c.1<n/\0<=c.2.2.1/\c.2.2.1<10):(dX n cs).length=D cs:=by
 have G:∀l:List aG,b3 (l.map cg) (λ_=>1)=(D l:Rat):=λl=>by
  induction l with
  |nil=>rfl
  |cons a l aN=>rw[ey,b3,aN,jO,Rat.natCast_add,Rat.add_comm];rfl
 have:=ald Y λ_=>1;rw[G,G] at this;exact_mod_cast this
theorem abN {E:List Int}{cs:List aG}(h:fV E cs):fV E (dX (D E) cs):=by
 have j7:=il.1 h.right
 have Y:∀c∈cs,0<=c.1/\c.1<D E/\0<=c.2.2.1/\c.2.2.1<10:=λc H=>by
  have:=j7.2.2.2 c H;exact⟨this.1,this.2.1,this.2.2.2.2.1,this.2.2.2.2.2.1⟩
 refine⟨il.2 ⟨j7.1,by rw[alf Y];exact j7.2.1,j7.2.2.1,λc H=>j7.2.2.2 c ((abL Y).1 H)⟩,h.hE,by rw[alf Y];exact h.qF,λc H=>h.am c ((abL Y).1 H)⟩
end Go.Mini
namespace Go.Mini
open Classical
def Day.mE (d:Day):Nat->Nat:=(d.rounds (10*d.n) λ_=>10).2
def Day.fM (d:Day):List (List Nat):=(d.rounds (10*d.n) λ_=>10).1
def Day.b1 (d:Day):Nat->Rat:=d.top d.mE
theorem abO (n k:Nat):jL n (λ_=>k)=k*n:=by
 induction n with
 |zero=>rfl
 |succ n aN=>rw[jL,aN,Nat.mul_succ]
section
variable {d:Day} (ab:d.dO)
include ab
theorem Day.dO.hex:∀f,Reach d f->∃h,nU d f h:=λ_ Y=>ay2 ab Y
theorem MX:Reach d d.mE/\d.eO d.mE=[]:=aj1 ab ab.hex (10*d.n) (λ_=>10) (Reach.start ab) (by rw[abO];exact cH _)
theorem R0:nU d d.mE d.b1:=Day.zp (ab.hex _ (MX ab).1)
theorem alg:∀i,i<d.n->d.bI i (d.mE i)<=d.b1 i:=by
 intro i Q;apply nt;intro aM;have:i∈d.eO d.mE:=Day.Db.2 ⟨Q,by unfold Day.b1 at aM;grind⟩
 rw[(MX ab).2] at this
 cases this
theorem R1:(∀i,i<d.n->d.b1 i=d.FC d.b1 i)/\∀i,i<d.n->(d.mE i<10↔d.b1 i<d.bI i 10):=by
 obtain⟨g,G,J,af⟩:=R0 ab;exact G.final ab J af (alg ab)
theorem abP {i:Nat}(Q:i<d.n):0<=d.b1 i:=(R0 ab).Rx ab Q
end
theorem Rt {d:Day}(ab:d.dO)(i k:Nat):0<=d.S i k:=zn λc H=>by
 try dsimp only
 split
 ·exact ab.am c H
 ·exact gX
end Go.Mini
namespace Go.Mini
open Classical
def Day.Bp (d:Day)(i r:Nat):Nat:=((eN r).filter λk=>decide (0<d.S i k)).length
theorem azG (d:Day)(i:Nat){r s:Nat}(h:r<=s):d.Bp i r<=d.Bp i s:=by
 induction s with
 |zero =>
      have:r=0:=by omega
      subst this;exact cH _
 |succ s aN =>
  by_cases Y:r=s+1
  ·rw[Y];exact cH _
  ·have:=aN (by omega);unfold Day.Bp at *;rw[pZ,sw,fX];omega
theorem azH (d:Day)(i:Nat){r s:Nat}(h:r<s)(dh:0<d.S i r):d.Bp i r+1<=d.Bp i s:=by
 have G:=azG d i (r:=r+1) (s:=s) (by omega);unfold Day.Bp at *;rw[pZ,sw,fX,rB (by simpa using dh)] at G;simp only[qE,jO,nC] at G;omega
theorem alh (d:Day)(f:Nat->Nat):(d.eO f).Pairwise (·<·):=List.Pairwise.filter _ List.pairwise_lt_range
theorem azI (d:Day)(f:Nat->Nat)(i:Nat):(d.eO f).count i=if i∈d.eO f then 1 else 0:=by
 have azJ:(d.eO f).Nodup:=(alh d f).imp λh=>by omega
 rw[azJ.count]
section
variable {d:Day} (ab:d.dO)
include ab
theorem azK {f:Nat->Nat}(Y:Reach d f){i:Nat}(Q:i<d.n):(i∈d.eO f->d.ez f (d.top f) i<f i/\0<d.S i (d.ez f (d.top f) i))/\(i ∉ d.eO f->d.ez f (d.top f) i=f i):=by
 have ca:=Day.zp (ab.hex f Y);have hle:∀i,f i<=10:=by obtain⟨g,cB,-⟩:=ca;exact cB.le
 have aC:=aaM ab hle (h:=d.top f) λi cI=>ca.Rx ab cI
 constructor
 ·intro hm;obtain⟨G,J⟩:=Day.Db.1 hm;have af:=aC.2.1 i G J;refine⟨af.1,?_⟩;have aT:=d.xO i (d.ez f (d.top f) i);grind
 ·intro hm;refine aC.2.2 i Q ?_;apply nt;intro aM;exact hm (Day.Db.2 ⟨Q,by grind⟩)
theorem ali:∀k (f:Nat->Nat),Reach d f->(∀l∈(d.rounds k f).1,l≠[]/\l.Pairwise (·<·)/\∀i∈l,i<d.n)/\∀i,i<d.n->(d.rounds k f).1.flatten.count i+d.Bp i ((d.rounds k f).2 i)<=d.Bp i (f i)/\((d.rounds k f).2 i<f i↔0<(d.rounds k f).1.flatten.count i)/\(d.rounds k f).2 i<=f i
 |0,f,Y=>⟨λl aw=>(by cases aw),λi Q=>by simp[Day.rounds]⟩
 |k+1,f,Y=>by
  unfold Day.rounds
  by_cases b6:d.eO f=[]
  ·rw[ad b6];exact⟨λl aw=>(by cases aw),λi Q=>by simp⟩
  ·rw[ag b6];obtain⟨G,J⟩:=ali k _ (Y.next ab ab.hex);refine⟨λl aw=>?_,λi Q=>?_⟩
   ·dsimp only at aw;rcases lS.1 aw with rfl|aw
    ·exact⟨b6,alh d f,λi Q=>(Day.Db.1 Q).1⟩
    ·exact G l aw
   ·obtain⟨af,aT,bx⟩:=J i Q;obtain⟨f1,f2⟩:=azK ab Y Q;dsimp only;rw[List.flatten_cons,akx,azI]
    by_cases hm:i∈d.eO f
    ·obtain⟨f3,f4⟩:=f1 hm;rw[ad hm];have:=azH d i f3 f4;refine⟨by omega,?_,by omega⟩
     constructor<;>intro _<;>omega
    ·have f3:=f2 hm;rw[f3] at af aT bx;rw[ag hm];refine⟨by omega,?_,by omega⟩
     rw[aT];omega
theorem azL:(∀l∈d.fM,l≠[]/\l.Pairwise (·<·)/\∀i∈l,i<d.n)/\∀i,i<d.n->d.fM.flatten.count i<=d.Bp i 10/\(d.b1 i<d.bI i 10↔0<d.fM.flatten.count i):=by
 obtain⟨G,J⟩:=ali ab (10*d.n) (λ_=>10) (Reach.start ab);refine⟨G,λi Q=>?_⟩;obtain⟨af,aT,bx⟩:=J i Q;unfold Day.fM;refine⟨by omega,?_⟩
 rw[<-aT,<-(R1 ab).2 i Q]
 rfl
end
end Go.Mini
namespace Go.Mini
open Classical
section
variable {d:Day} (ab:d.dO) {k:Rat} (L:0<k)
include L
end
section
variable {d:Day} (ab:d.dO) (cr:Nat)
include ab
end
end Go.Mini
namespace Go.Mini
open Classical
theorem alj {d:Day}(ab:d.dO){f:Nat->Nat}{g:Nat->Rat}(Q:Inv d f g):∀m (P:Nat->Prop),idle d P<=m->iA d f g P (d.e0 f P)->∃P,rC d f P/\∀i,i<d.n->d.e0 f P i=d.top f i
 |m,P,hm,aF=>by
  by_cases U:∀i,i<d.n->f i<10->d.bI i (f i)<d.e0 f P i->P i
  ·exact⟨P,⟨ab,g,Q,aF⟩,aF.aa9 ab Q U⟩
  ·have⟨i,G,J,af,aT⟩:∃i,i<d.n/\f i<10/\d.bI i (f i)<d.e0 f P i/\¬ P i:=by
    apply nt;intro aM;exact U λi G J af=>nt λaT=>aM ⟨i,G,J,af,aT⟩
   have az:=akS (h:=d.e0 f P) G J af aT
   cases m with
   |zero=>omega
   |succ m=>exact alj ab Q m _ (by omega) (aF.succ ab Q)
theorem abQ {d:Day}(ab:d.dO){f:Nat->Nat}(Y:Reach d f):∃P,rC d f P/\∀i,i<d.n->d.e0 f P i=d.top f i:=by
 obtain⟨g,Q,-⟩:=Y;exact alj ab Q _ _ (cH _) (iA.first ab Q)
section
variable {E:List Int} {cs:List aG} (U:fV E cs)
include U
theorem abR {f:Nat->Nat}(Y:Reach (ao E cs) f){i:Nat}(Q:i<D E):eA 453 ((ao E cs).top f i):=by
 obtain⟨P,aF,he⟩:=abQ U.ok Y;rw[<-he i Q];exact abk U aF Q
theorem MY {i:Nat}(Q:i<D E):eA 453 ((ao E cs).b1 i):=abR U (MX U.ok).1 Q
theorem azM {i:Nat}(Q:i<D E):(ao E cs).b1 i<=((2^51:Nat):Rat):=by
 obtain⟨P,aF,he⟩:=abQ U.ok (MX U.ok).1;have:=(RR U aF Q).2;rw[he i Q] at this;exact this
theorem alk:∃bn:Nat,0<bn/\(∃a,a<=402/\bn<=2^a)/\∀i,i<(D E)->ft bn ((ao E cs).b1 i):=by
 obtain⟨P,aF,he⟩:=abQ U.ok (MX U.ok).1;obtain⟨bn,G,J,af⟩:=ak2 U aF;refine⟨bn,G,J,λi Q=>?_⟩;have:=af i Q;rw[he i Q] at this;exact this
end
section
variable {d:Day} (ab:d.dO)
include ab
end
def wE (E:List Int)(cs:List aG)(k:Nat):Nat:=if (ao E cs).mE k<10 then kf cs k ((ao E cs).mE k) else 1
section
variable {E:List Int} {cs:List aG} (U:fV E cs)
include U
theorem alm {k:Nat}(L:k<D E):0<wE E cs k:=by
 unfold wE
 split
 ·rename_i h;obtain⟨g,G,-⟩:=R0 U.ok;have J:=G.pW (i:=k) L h;rw[<-FJ U.right] at J;exact_mod_cast J
 ·omega
theorem aln (k:Nat):wE E cs k<=2^29:=by
 unfold wE
 split
 ·exact U.Di _ _
 ·exact I3
theorem alo {bn:Nat}(e2:∀i,i<(D E)->ft bn ((ao E cs).b1 i)){c:aG}(H:c∈cs):ft (bn*wE E cs (cg c).aK) ((ao E cs).la (ao E cs).b1 (cg c)):=by
 have ab:=U.ok;have fs:cg c∈(ao E cs).dI:=Bl H;have L:(cg c).aK<D E:=ab.aK _ fs;have xQ:∀N,ft N (cg c).am:=λN=>ft.int N c.2.2.2;have a3:∀N,ft N (0:Rat):=ft.zero;have ns:=λr s=>@Day.dO.xP _ ab (cg c).aK r s;have kd:=ab.bP _ fs;have gw:=alg ab _ L;unfold Day.la
 by_cases G:(ao E cs).bI (cg c).aK ((cg c).bP+1)<=(ao E cs).b1 (cg c).aK
 ·rw[ad G];exact xQ _
 ·rw[ag G]
  have aC:(ao E cs).mE (cg c).aK<10:=by
   refine ((R1 ab).2 _ L).2 ?_;have:=ns ((cg c).bP+1) 10 (by omega);grind
  have az:(ao E cs).b1 (cg c).aK<(ao E cs).bI (cg c).aK ((ao E cs).mE (cg c).aK+1):=by
   obtain⟨g,cB,-,ek⟩:=R0 ab;have:=cB.Q _ L aC;have:=ek _ L;grind
  rcases Nat.lt_trichotomy (cg c).bP ((ao E cs).mE (cg c).aK) with J|J|J
  ·have:=ns ((cg c).bP+1) ((ao E cs).mE (cg c).aK) (by omega);exact absurd (xR this gw) G
  ·have hw:ft (wE E cs (cg c).aK) ((ao E cs).w (cg c)):=by
    unfold wE;rw[ad aC];refine⟨c.2.2.2,?_⟩;rw[FJ U.right,<-J]
    have:0<(ao E cs).S (cg c).aK (cg c).bP:=by
     have:=(ao E cs).xO (cg c).aK ((ao E cs).mE (cg c).aK);rw[J];grind
    exact Day.IK this
   have Fw:ft bn ((ao E cs).b1 (cg c).aK-(ao E cs).bI (cg c).aK (cg c).bP):=by
    refine (e2 _ L).sub ?_;rw[<-pX U.right];exact ft.int _ _
   rw[zo (by rw[J];grind),sY];exact hw.mul Fw
  ·have:=ns ((ao E cs).mE (cg c).aK+1) (cg c).bP (by omega);rw[wv (by grind),sn];exact a3 _
theorem alp {c:aG}(H:c∈cs):eA 482 ((ao E cs).la (ao E cs).b1 (cg c)):=by
 obtain⟨bn,G,⟨a,J,af⟩,aT⟩:=alk U;have fs:cg c∈(ao E cs).dI:=Bl H;have L:(cg c).aK<D E:=U.ok.aK _ fs;have bx:=alo U aT H;have b0:=alm U L;have bV:=aln U (cg c).aK;have cu:bn*wE E cs (cg c).aK<=2^(a+29):=by rw[su];exact wx af bV
 have eK:=U.ok.ajX (ao E cs).b1 fs
 have dS:(ao E cs).la (ao E cs).b1 (cg c)<=((2^25:Nat):Rat):=by
  refine xR (U.ok.aaE _ fs) ?_;have:=U.am c H;show ((c.2.2.2:Int):Rat)<=_;have:c.2.2.2<=((2^25:Nat):Int):=by omega
  rw[<-nW];exact Rat.intCast_le_intCast.2 this
 exact (bx.sz (abb G b0) cu eK dS).mono (by omega)
end
end Go.Mini
namespace Go.Mini
open Go
theorem MZ {n:Int}{c:aG}:l6 n c=true↔0<=c.1/\c.1<n /\ -1<=c.2.1/\c.2.1<n/\0<=c.2.2.1/\c.2.2.1<10/\0<=c.2.2.2/\c.2.2.2<=1000000000000000:=by
 unfold l6;simp only[fw,decide_eq_true_eq,and_assoc]
def kg (x:Int):Bool:=decide (0<=x)&&decide (x<=1000000000000000)
theorem R2 {x:Int}:kg x=true↔0<=x/\x<=1000000000000000:=by
 unfold kg;simp only[fw,decide_eq_true_eq]
theorem alq (E:List Int)(cs:List aG):hk E cs=(decide (D E<=60)&&decide (D cs<=2000)&&E.all kg&&cs.all (l6 (D E))):=rfl
def R3:=cn FP λ(E,cs)=>some (.same (.bool (hk E cs)))
@[go_sem] theorem azN (E:List Int)(cs:List aG):R3 [.X (E.map ae),.X (cs.map bR)]=some (.same (.bool (hk E cs))):=cz MV (E,cs)
theorem azO (T:bl)  (E:List Int) (cs:List aG):WP T abq (.same (.bool (hk E cs))) [.I (.X (E.map ae)),.I (.X (cs.map bR))]:=by
 refine cD ?_;simp only[abq];rw[alq]
 by_cases ed:(D E)<=60
 ·by_cases aa:(D cs)<=2000
  ·have av:decide ((D E:Int)>60)=false:=cl;have aB:decide ((D cs:Int)>2000)=false:=cl;rw[jw ed,jw aa,fD,fD];simp only[go_sem,go_sem_proc,av,aB,aE];refine cU [0,1,5] [268008] (λ(i:Nat) tm mem=>i<=D E/\(E.take i).all kg=true/\tm 6=.I (.int .i64 i)) (λi=>D E-i) 0 (by refine⟨by omega,by simp,rfl⟩) ?_;intro vs ms aJ aH;simp only[go_sem,go_sem_proc] at aJ aH;subst aJ aH;rintro i tm mem L hm ⟨Q,aC,b0⟩;simp only[go_sem,go_sem_proc,bk] at L hm;obtain⟨ax,G,bx⟩:=L;rcases dc (i<D E) with az|b2
   ·obtain⟨x,M⟩:∃c,E[i]?=some c:=⟨_,bq az⟩;have d1:decide ((i:Int)<(D E:Int))=true:=cT;have bG:=ec (i:=i) (by omega)
    by_cases H:kg x=true
    ·have kV:=R2.1 H;have aq:decide (x<0)=false:=cl;have c2:decide (x>1000000000000000)=false:=cl;refine ak ?_;repeat' (intro h<;>simp only[h,go_sem,go_sem_proc,ax,G,bx,b0,hm,M,d1,bG,aq,c2,ae,aE,bj]<;>try refine ai ?_ ?_)
     exact⟨i+1,by omega,by omega,by rw[Fi M,aC,H];rfl,rfl⟩
    ·have EG:kg x=false:=by simpa using H
     rw[L2 M EG,eR];rw[R2] at H;rcases aq:decide (x<0)
     ·have c2:decide (x>1000000000000000)=true:=jw (by have:=of_decide_eq_false aq;omega);refine ak ?_;repeat' (intro h<;>simp only[h,go_sem,go_sem_proc,ax,G,bx,b0,hm,M,d1,bG,aq,c2,ae,aE,bj]<;>try refine ai ?_ ?_)
     ·refine ak ?_;repeat' (intro h<;>simp only[h,go_sem,go_sem_proc,ax,G,bx,b0,hm,M,d1,bG,aq,ae,aE,bj]<;>try refine ai ?_ ?_)
   ·have d1:decide ((i:Int)<(D E:Int))=false:=cl;have FQ:E.all kg=true:=by rw[dp (by omega)] at aC;exact aC
    rw[FQ,fD];simp only[go_sem,go_sem_proc,bx,b0,d1];refine cU [1,5] [] (λ(i:Nat) tm mem=>i<=D cs/\(cs.take i).all (l6 (D E))=true/\tm 7=.I (.int .i64 i)) (λi=>D cs-i) 0 (by refine⟨by omega,by simp,rfl⟩) ?_;intro vs ms aJ aH;simp only[go_sem,go_sem_proc,G,bx] at aJ aH;subst aJ aH;clear ax G bx b0 hm;rintro i tm mem L hm ⟨Q,aC,bV⟩;simp only[go_sem,go_sem_proc,bk] at L;obtain⟨G,bx⟩:=L;rcases dc (i<D cs) with az|b2
    ·obtain⟨⟨a,b,k,x⟩,M⟩:∃c,cs[i]?=some c:=⟨_,bq az⟩;have d1:decide ((i:Int)<(D cs:Int))=true:=cT;have bG:=ec (i:=i) (by omega)
     by_cases H:l6 (D E) (a,b,k,x)=true
     ·have kV:=MZ.1 H;dsimp only at kV;have aq:decide (a<0)=false:=cl;have c2:decide (a>=(D E:Int))=false:=cl;have c3:decide (b < -1)=false:=cl;have c4:decide (b>=(D E:Int))=false:=cl;have M0:decide (k<0)=false:=cl;have M5:decide (k>=10)=false:=cl;have FT:decide (x<0)=false:=cl;have azP:decide (x>1000000000000000)=false:=cl;refine ak ?_;repeat' (intro h<;>simp only[h,go_sem,go_sem_proc,G,bx,bV,M,d1,bG,aq,c2,c3,c4,M0,M5,FT,azP,bR,aE,bj]<;>try refine ai ?_ ?_)
      exact⟨i+1,by omega,by omega,by rw[Fi M,aC,H];rfl,rfl⟩
     ·have EG:l6 (D E) (a,b,k,x)=false:=by simpa using H
      rw[L2 M EG];rw[MZ] at H;dsimp only at H;refine ak ?_;repeat' (intro h<;>simp only[h,go_sem,go_sem_proc,G,bx,bV,M,d1,bG,bR,aE,bj]<;>try refine ai ?_ ?_)
      all_goals (exfalso;simp only[decide_eq_false_iff_not] at *;omega)
    ·have d1:decide ((i:Int)<(D cs:Int))=false:=cl;have FQ:cs.all (l6 (D E))=true:=by rw[dp (by omega)] at aC;exact aC
     rw[FQ];refine ak ?_;repeat' (intro h<;>simp only[h,go_sem,go_sem_proc,G,bx,bV,d1,aE]<;>try refine ai ?_ ?_)
  ·have av:decide ((D E:Int)>60)=false:=cl;have aB:decide ((D cs:Int)>2000)=true:=cT;rw[h7 aa,jB,eR,eR];refine ak ?_;repeat' (intro h<;>simp only[h,go_sem,go_sem_proc,av,aB,aE]<;>try refine ai ?_ ?_)
 ·have av:decide ((D E:Int)>60)=true:=cT;rw[h7 ed,eR,eR,eR];refine ak ?_;repeat' (intro h<;>simp only[h,go_sem,go_sem_proc,av,aE]<;>try refine ai ?_ ?_)
def I7 (p q r s:Int):Prop:=p.natAbs<dQ/\q.natAbs<dQ/\r.natAbs<dQ/\s.natAbs<dQ/\0<q/\0<s
def M6 (a:Int×Int×Int×Int):List Data:=[.agg (ck (bf a.1)),.agg (ck (bf a.2.1)),.agg (ck (bf a.2.2.1)),.agg (ck (bf a.2.2.2))]
theorem R4 {a b:Raw}(h:ck a=ck b):a=b:=by
 obtain⟨s,l⟩:=a;obtain⟨t,m⟩:=b;simp only[ck,bk,Data.int.injEq,Data.X.injEq,true_and,and_true] at h;exact dN h.1 (map_inj gx _ _ h.2)
theorem alr:∀a b:Int×Int×Int×Int,M6 a=M6 b->a=b:=by
 rintro⟨cE,cO,ei,eS⟩ ⟨c0,ee,gz,gW⟩ h;simp only[M6,bk,Data.agg.injEq,and_true] at h;obtain⟨G,J,af,aT⟩:=h;rw[P9 (R4 G),P9 (R4 J),P9 (R4 af),P9 (R4 aT)]
def als (a:Int×Int×Int×Int):eL:=.same (.int .i64 (a.1*a.2.2.2-a.2.2.1*a.2.1).sign)
def M7:List Data->Option eL:=cn M6 λa=>cN (I7 a.1 a.2.1 a.2.2.1 a.2.2.2) (als a)
def M8 (n:Nat):List Data->Option eL:=cn M6 λa=>cN (I7 a.1 a.2.1 a.2.2.1 a.2.2.2/\a.2.1.toNat+a.2.2.2.toNat<n) (als a)
theorem alu {n:Nat}{p q r s:Int}(h:I7 p q r s/\q.toNat+s.toNat<n):M8 n [.agg (ck (bf p)),.agg (ck (bf q)),.agg (ck (bf r)),.agg (ck (bf s))]=some (.same (.int .i64 (p*s-r*q).sign)) :=
 (cz alr (p,q,r,s)).trans (cX h _)
theorem azQ {p q r s:Int}(h:I7 p q r s):M7 [.agg (ck (bf p)),.agg (ck (bf q)),.agg (ck (bf r)),.agg (ck (bf s))]=some (.same (.int .i64 (p*s-r*q).sign)) :=
 (cz alr (p,q,r,s)).trans (cX h _)
theorem azR {ds:List Data}{x:eL}(h:M7 ds=some x):∃n,M8 n ds=some x:=by
 obtain⟨⟨p,q,r,s⟩,rfl,J⟩:=Uz h;obtain⟨H,rfl⟩:=UA J;exact⟨_,alu ⟨H,Nat.lt_succ_self _⟩⟩
theorem azS {p q r s:Int}(bF:0<q)(U:0<s)(h:p.fdiv q≠r.fdiv s):(p*s-r*q).sign=gl (p.fdiv q) (r.fdiv s):=by
 have av:p.fmod q+q*p.fdiv q=p:=M9 p q;have aB:r.fmod s+s*r.fdiv s=r:=M9 r s;have k1:=Na p bF;have lQ:=Nb p bF;have v0:=Na r U;have v1:=Nb r U;generalize p.fdiv q=x at *;generalize r.fdiv s=y at *;generalize p.fmod q=u at *;generalize r.fmod s=v at *;have z6:0<q*s:=Int.mul_pos bF U;have cB:0<=u*s:=uq k1 (by omega);have dA:0<=v*q:=uq v0 (by omega)
 have ek:u*s<=q*s-s:=by
  have:=lA (show u<=q-1 by omega) (show 0<=s by omega);grind
 have gQ:v*q<=q*s-q:=by
  have:=lA (show v<=s-1 by omega) (show 0<=q by omega);grind
 have e:p*s-r*q=q*s*(x-y)+(u*s-v*q):=by rw[<-av,<-aB];grind
 rw[e];rcases alv h with az|hL
 ·have h2:q*s*(x-y)<=q*s*(-1):=vG (by omega) (by omega);rw[AG az];exact Int.sign_eq_neg_one_of_neg (by omega)
 ·have h2:q*s*1<=q*s*(x-y):=vG (by omega) (by omega)
  have:gl x y=1:=by
   unfold gl;rw[ag (by simp;omega),ad (by simp;omega)]
  rw[this];exact g7 (by omega)
theorem azT {p q r s:Int}(h:p.fdiv q=r.fdiv s):p*s-r*q=p.fmod q*s-r.fmod s*q:=by
 have av:p.fmod q+q*p.fdiv q=p:=M9 p q;have aB:r.fmod s+s*r.fdiv s=r:=M9 r s;rw[h] at av;generalize r.fdiv s=y at *;generalize p.fmod q=u at *;generalize r.fmod s=v at *;rw[<-av,<-aB];grind
theorem azU (T:bl)(zb:T Eo=aQ QE)(A3:T K0=aQ QB)(n:Nat)(Nc:T Hr=aQ (M8 n))(p q r s:Int)(H:I7 p q r s/\q.toNat+s.toNat<n+1):WP T QF (.same (.int .i64 (p*s-r*q).sign)) [.I (.agg (ck (bf p))),.I (.agg (ck (bf q))),.I (.agg (ck (bf r))),.I (.agg (ck (bf s)))]:=by
 refine cD ?_;simp only[QF];obtain⟨⟨ic,fQ,eF,s1,bF,U⟩,aM⟩:=H;have ed:=jI ic;have aa:=jI fQ;have bh:=jI eF;have br:=jI s1;have k1:=Na p bF;have lQ:=Nb p bF;have v0:=Na r U;have v1:=Nb r U;have alw:(p.fmod q).natAbs<dQ:=by omega
 have m7:(r.fmod s).natAbs<dQ:=by omega
 have Ed:∀{a b:Int},a.natAbs<dQ->0<b->(a.fdiv b).natAbs<dQ:=by
  intro a b aW ah;have av:a.fmod b+b*a.fdiv b=a:=M9 a b;have aB:=Na a ah;have bp:=Nb a ah
  have:(a.fdiv b).natAbs<=a.natAbs:=by
   rcases Int.lt_or_le (a.fdiv b) 0 with h|h
   ·have k:b*(a.fdiv b+1)<=1*(a.fdiv b+1):=Int.mul_le_mul_of_nonpos_right (by omega) (by omega);have:b*(a.fdiv b+1)=b*a.fdiv b+b:=by grind
    omega
   ·have k:1*a.fdiv b<=b*a.fdiv b:=lA (by omega) h;omega
  omega
 have a5:=Ed ic bF;have lz:=Ed eF U;have ea:=jI a5;have b7:=jI lz;have gG:=jI alw;have fx:=jI m7;have d1:=AH ic fQ (by omega);have d2:=AH eF s1 (by omega);have d3:=LB a5 lz;have b6:=azS (p:=p) (r:=r) bF U;have heq:=azT (p:=p) (q:=q) (r:=r) (s:=s);have yE:I7 s (r.fmod s) q (p.fmod q)->M8 n [.agg (ck (bf s)),.agg (ck (bf (r.fmod s))),.agg (ck (bf q)),.agg (ck (bf (p.fmod q)))]=some (.same (.int .i64 (s*p.fmod q-q*r.fmod s).sign)):=λh=>alu ⟨h,by omega⟩
 have k0:p.fdiv q=r.fdiv s->gl (p.fdiv q) (r.fdiv s)=0:=λh=>by unfold gl;rw[ag (by simp;omega),ag (by simp;omega)]
 have azV:p.fdiv q≠r.fdiv s->(gl (p.fdiv q) (r.fdiv s)==0)=false:=λh=>by
  rcases alv h with h|h
  ·rw[AG h];rfl
  ·unfold gl;rw[ag (by simp;omega),ad (by simp;omega)];rfl
 have es:∀z:Int,bf z=(z.sign,aP z.natAbs):=λz=>rfl;rw[es,es] at d1 d2 d3
 by_cases g4:p.fdiv q=r.fdiv s
 ·have ix:=k0 g4
  by_cases hu:p.fmod q=0
  ·have vZ:(p.fmod q).sign=0:=by rw[hu];rfl
   have ks:(p*s-r*q).sign=0-(r.fmod s).sign:=by
    rw[heq g4,hu,y1,Int.zero_sub,Int.sign_neg,oz,g7 bF,r3];omega
   rw[ks]
   have w:IntKind.i64.wrap (0-(r.fmod s).sign)=0-(r.fmod s).sign:=by
    have:=Ly (r.fmod s);rw[fh _]
   refine ak ?_;repeat' (intro (ay:_=_)<;>simp only[ay,go_sem,go_sem_proc,zb,A3,ck,jH,ed,aa,bh,br,ea,b7,d1,d2,d3,ix,vZ,w,es,aE,beq_self_eq_true,bne,cw]<;>try refine ai ?_ ?_)
  ·have vZ:((p.fmod q).sign==0)=false:=by
    rw[g7 (by omega)];rfl
   by_cases aD:r.fmod s=0
   ·have abS:(r.fmod s).sign=0:=by rw[aD];rfl
    have ks:(p*s-r*q).sign=(p.fmod q).sign-0:=by
     rw[heq g4,aD,y1,Cv,oz,g7 U,r3,Cv]
    rw[ks]
    have w:IntKind.i64.wrap ((p.fmod q).sign-0)=(p.fmod q).sign-0:=by
     have:=Ly (p.fmod q);rw[fh _]
    refine ak ?_;repeat' (intro (ay:_=_)<;>simp only[ay,go_sem,go_sem_proc,zb,A3,ck,jH,ed,aa,bh,br,ea,b7,d1,d2,d3,ix,vZ,abS,w,es,aE,beq_self_eq_true,bne,cw]<;>try refine ai ?_ ?_)
   ·have abS:((r.fmod s).sign==0)=false:=by
     rw[g7 (by omega)];rfl
    have Y:=yE ⟨s1,m7,fQ,alw,by omega,by omega⟩
    have ks:s*p.fmod q-q*r.fmod s=p*s-r*q:=by rw[heq g4];grind
    rw[ks] at Y;simp only[ck,es] at Y;refine ak ?_;repeat' (intro (ay:_=_)<;>simp only[ay,go_sem,go_sem_proc,zb,A3,Nc,ck,jH,ed,aa,bh,br,ea,b7,d1,d2,d3,ix,vZ,abS,Y,es,aE,beq_self_eq_true,bne,cw]<;>try refine ai ?_ ?_)
 ·have ix:=azV g4;rw[b6 g4];refine ak ?_;repeat' (intro (ay:_=_)<;>simp only[ay,go_sem,go_sem_proc,zb,A3,ck,jH,ed,aa,bh,br,ea,b7,d1,d2,d3,ix,es,aE,bne,db]<;>try refine ai ?_ ?_)
def x1:=cn tg λ(s,l,s2,aa,bK,bh,bL,br)=>cN (D l<=1000000/\D aa<=1000000/\D bh<=1000000/\D br<=1000000) (.same (.int .i64 (k7 ((s,l),(s2,aa)) ((bK,bh),(bL,br)))))
@[go_sem] theorem azW (s:Int)(l:List Int)(s2:Int)(aa:List Int)(bK:Int)(bh:List Int)(bL:Int)(br:List Int)(H:(D l)<=1000000/\D aa<=1000000/\D bh<=1000000/\D br<=1000000):x1 [.agg [.int .i64 s,.X (l.map ae),.int .i64 s2,.X (aa.map ae)],.agg [.int .i64 bK,.X (bh.map ae),.int .i64 bL,.X (br.map ae)]]=some (.same (.int .i64 (k7 ((s,l),(s2,aa)) ((bK,bh),(bL,br))))):=(cz vU (s,l,s2,aa,bK,bh,bL,br)).trans (cX H _)
theorem azX (T:bl)(fr:T mm=aQ v8)(Nc:T Hr=aQ M7)(s:Int)(l:List Int)(s2:Int)(aa:List Int)(bK:Int)(bh:List Int)(bL:Int)(br:List Int)(H:(D l)<=1000000/\D aa<=1000000/\D bh<=1000000/\D br<=1000000):WP T YQ (.same (.int .i64 (k7 ((s,l),(s2,aa)) ((bK,bh),(bL,br))))) [.I (.agg [.int .i64 s,.X (l.map ae),.int .i64 s2,.X (aa.map ae)]),.I (.agg [.int .i64 bK,.X (bh.map ae),.int .i64 bL,.X (br.map ae)])]:=by
 refine cD ?_;simp only[YQ];obtain⟨bJ,bO,eH,eV⟩:=H;unfold k7;rcases Y:di ((s,l),(s2,aa))
 ·refine ak ?_;repeat' (intro h<;>simp only[h,go_sem,go_sem_proc,fr,Nc,bJ,bO,Y]<;>try refine ai ?_ ?_)
 ·rcases a8:di ((bK,bh),(bL,br))
  ·refine ak ?_;repeat' (intro h<;>simp only[h,go_sem,go_sem_proc,fr,Nc,bJ,bO,eH,eV,Y,a8]<;>try refine ai ?_ ?_)
  ·obtain⟨x,M,ex⟩:=(AM _).1 Y;obtain⟨y,aj,yy⟩:=(AM _).1 a8;have ah:M7 [.agg (ck (bf x.num)),.agg (ck (bf x.den)),.agg (ck (bf y.num)),.agg (ck (bf y.den))]=some (.same (.int .i64 (x.num*y.den-y.num*x.den).sign)):=azQ ⟨M.1,pL M,aj.1,pL aj,den_pos x,den_pos y⟩;unfold al at ex yy;simp only[fS] at ex yy;obtain⟨av,aB⟩:=ex;obtain⟨bp,bM⟩:=yy;rw[<-av,<-aB,<-bp,<-bM] at ah
   have aD:(g6 (s,l)*g6 (bL,br)-g6 (bK,bh)*g6 (s2,aa))=x.num*y.den-y.num*x.den:=by
    rw[av,aB,bp,bM,e8,e8,e8,e8]
   simp only[ck] at ah;rw[ad rfl,ad rfl,aD];refine ak ?_;repeat' (intro h<;>simp only[h,go_sem,go_sem_proc,fr,Nc,bJ,bO,eH,eV,Y,a8,ah]<;>try refine ai ?_ ?_)
theorem abT {x y:Rat}(M:dx x)(aj:dx y)(h:l0 x (-y)=true):Fe [.agg (ar (al x)),.agg (ar (al y))]=some (.same (.c1 [.agg (ar (al (x-y))),.int .i64 0])):=by
 have G:=jY M;have J:=jY aj;have:=avB (al x).1.1 (al x).1.2 (al x).2.1 (al x).2.2 (al y).1.1 (al y).1.2 (al y).2.1 (al y).2.2 ⟨G.1,G.2,J.1,J.2⟩;have e:jJ (al x) (al y)=(al (x-y),0):=by rw[LK M aj,h];rfl
 exact this.trans (by show some (eL.same (cG (jJ (al x) (al y))))=_;rw[e];rfl)
theorem alx {x y:Rat}(M:dx x)(aj:dx y)(h:y4 x y=true):Fg [.agg (ar (al x)),.agg (ar (al y))]=some (.same (.c1 [.agg (ar (al (x*y))),.int .i64 0])):=by
 have G:=jY M;have J:=jY aj;have:=avD (al x).1.1 (al x).1.2 (al x).2.1 (al x).2.2 (al y).1.1 (al y).1.2 (al y).2.1 (al y).2.2 ⟨G.1,G.2,J.1,J.2⟩;have e:hA (al x) (al y)=(al (x*y),0):=by rw[Qf M aj,h];rfl
 exact this.trans (by show some (eL.same (cG (hA (al x) (al y))))=_;rw[e];rfl)
theorem aly {x y:Rat}(M:dx x)(aj:dx y)(h:l0 x y=true):AR [.agg (ar (al x)),.agg (ar (al y))]=some (.same (.c1 [.agg (ar (al (x+y))),.int .i64 0])):=by
 have G:=jY M;have J:=jY aj;have:=ahO (al x).1.1 (al x).1.2 (al x).2.1 (al x).2.2 (al y).1.1 (al y).1.2 (al y).2.1 (al y).2.2 ⟨G.1,G.2,J.1,J.2⟩;have e:oC (al x) (al y)=(al (x+y),0):=by rw[Qe M aj,h];rfl
 exact this.trans (by show some (eL.same (cG (oC (al x) (al y))))=_;rw[e];rfl)
theorem abU {x y:Rat}(M:dx x)(aj:dx y)(h:l0 x (-y)=true):AS [.agg (ar (al x)),.agg (ar (al y))]=some (.same (.c1 [.agg (ar (al (x-y))),.int .i64 0])):=by
 have G:=jY M;have J:=jY aj;have:=aug (al x).1.1 (al x).1.2 (al x).2.1 (al x).2.2 (al y).1.1 (al y).1.2 (al y).2.1 (al y).2.2 ⟨G.1,G.2,J.1,J.2⟩;have e:jJ (al x) (al y)=(al (x-y),0):=by rw[LK M aj,h];rfl
 exact this.trans (by show some (eL.same (cG (jJ (al x) (al y))))=_;rw[e];rfl)
theorem alz {x y:Rat}(M:dx x)(aj:dx y)(h:y4 x y=true):y3 [.agg (ar (al x)),.agg (ar (al y))]=some (.same (.c1 [.agg (ar (al (x*y))),.int .i64 0])):=by
 have G:=jY M;have J:=jY aj;have:=aui (al x).1.1 (al x).1.2 (al x).2.1 (al x).2.2 (al y).1.1 (al y).1.2 (al y).2.1 (al y).2.2 ⟨G.1,G.2,J.1,J.2⟩;have e:hA (al x) (al y)=(al (x*y),0):=by rw[Qf M aj,h];rfl
 exact this.trans (by show some (eL.same (cG (hA (al x) (al y))))=_;rw[e];rfl)
theorem azY {x y:Rat}(M:dx x)(aj:dx y)(ax:y≠0)(h:vW x y=true):L0 [.agg (ar (al x)),.agg (ar (al y))]=some (.same (.c1 [.agg (ar (al (x/y))),.int .i64 0])):=by
 have G:=jY M;have J:=jY aj;have:=avF (al x).1.1 (al x).1.2 (al x).2.1 (al x).2.2 (al y).1.1 (al y).1.2 (al y).2.1 (al y).2.2 ⟨G.1,G.2,J.1,J.2⟩;have e:fE (al x) (al y)=(al (x/y),0):=by rw[LL M aj ax,h];rfl
 exact this.trans (by show some (eL.same (cG (fE (al x) (al y))))=_;rw[e];rfl)
theorem azZ {x y:Rat}(M:dx x)(aj:dx y)(ax:y≠0)(h:vW x y=true):E1 [.agg (ar (al x)),.agg (ar (al y))]=some (.same (.c1 [.agg (ar (al (x/y))),.int .i64 0])):=by
 have G:=jY M;have J:=jY aj;have:=auk (al x).1.1 (al x).1.2 (al x).2.1 (al x).2.2 (al y).1.1 (al y).1.2 (al y).2.1 (al y).2.2 ⟨G.1,G.2,J.1,J.2⟩;have e:fE (al x) (al y)=(al (x/y),0):=by rw[LL M aj ax,h];rfl
 exact this.trans (by show some (eL.same (cG (fE (al x) (al y))))=_;rw[e];rfl)
theorem Nd {x y:Rat}(M:dx x)(aj:dx y):x1 [.agg (ar (al x)),.agg (ar (al y))]=some (.same (.int .i64 (jV x y))):=by
 have G:=jY M;have J:=jY aj;have:=azW (al x).1.1 (al x).1.2 (al x).2.1 (al x).2.2 (al y).1.1 (al y).1.2 (al y).2.1 (al y).2.2 ⟨G.1,G.2,J.1,J.2⟩;exact this.trans (by show some (eL.same (.int .i64 (k7 (al x) (al y))))=_;rw[LM M aj])
theorem I8 {x y:Rat}(M:dx x)(aj:dx y):vY [.agg (ar (al x)),.agg (ar (al y))]=some (.same (.int .i64 (jV x y))):=by
 have G:=jY M;have J:=jY aj;have:=ahY (al x).1.1 (al x).1.2 (al x).2.1 (al x).2.2 (al y).1.1 (al y).1.2 (al y).2.1 (al y).2.2 ⟨G.1,G.2,J.1,J.2⟩;exact this.trans (by show some (eL.same (.int .i64 (k7 (al x) (al y))))=_;rw[LM M aj])
theorem abV {x y:Rat}:decide (jV x y>0)=decide (y<x):=by
 have G:jV x y>0↔y<x:=by
  unfold jV;rw[gt_iff_lt,Int.sign_pos_iff,Rat.lt_iff];omega
 rw[decide_eq_decide];exact G
theorem R5 {x y:Rat}:decide (jV x y<0)=decide (x<y):=by
 have G:jV x y<0↔x<y:=by
  unfold jV;rw[Int.sign_neg_iff,Rat.lt_iff];omega
 rw[decide_eq_decide];exact G
theorem R6 {x y:Rat}:decide (jV x y>=0)=decide (y<=x):=by
 have G:jV x y>=0↔y<=x:=by
  unfold jV;rw[ge_iff_le,Int.sign_nonneg_iff,Rat.le_iff];omega
 rw[decide_eq_decide];exact G
end Go.Mini
namespace Go.Mini
open Go
variable {P:Program} {A:Nat->Prop} {w a1:World} {B bQ:fu} {mem mem':Mem}
def qG (N:List R->Mem->Option Data)(args:List R)(mem:Mem):Option h8:=(N args mem).map λd => .rel (Ai (.I d) mem)
@[go_sem] theorem aLp (N:List R->Mem->Option Data)(args:List R)(mem:Mem):qG N args mem=(N args mem).map λd => .rel (Ai (.I d) mem):=b8
theorem I9 {T : bl}{kb : Nat}{own : List Nat}(dK : q0 P T)(hm : P.follows .mixedOrders = true){f : FuncId}{fn : Func}{mf : bZ}(aC : P.funcs[f]? = some fn)(ud : (fn.name == "runtime.NumGoroutine") = false)(bc : sN P kb own fn = some { mf with body := erase mf.body })
  (dT:Key->Prop) {N:List R->Mem->Option Data}
  (h:∀args mem d,N args mem=some d->(D args)<=mf.n/\(∀j,dT j->mem j=none) /\
   wp T mf.body (pQ mf.res λm mem'=>dz 6 emp m=some d/\∀j,¬ dT j->mem' j=mem j) ⟨lk args,mem⟩):l2 P f (qG N):=by
 refine⟨Za aC ud bc,λargs mem p8 gF A w B vs ct aD=>?_⟩;unfold qG at gF;rw[Option.map_eq_some_iff] at gF;obtain⟨d,ns,rfl⟩:=gF;obtain⟨hlen,zd,Af⟩:=h args mem d ns;refine Calls.mono (KD (Post:=λm mem'=>dz 6 emp m=some d/\∀j,¬ dT j->mem' j=mem j) dK hm aC bc hlen (λe st L=>Y9 L) Af ct aD) λe a1 he=>?_;obtain⟨v,m,mem',bQ,rfl,U,sP,ab,hJ⟩:=he;exact⟨v,.I d,mem,uM dT bQ,rfl,U.drop ct zd zd (λj aA=>(hJ j aA).symm) (λk g cs L m hm => .inr ⟨k,g,cs,L,hm⟩),.I ((Ut 6 m v d ab sP).less λb ah=>ah.imp Ik id),rfl,rfl⟩
open Classical in
def zv {α:Type}(bn:α->List R->Mem->Prop)(res:α->Data):List R->Mem->Option Data:=λargs mem=>if h:∃a,bn a args mem then some (res (yG h)) else none
theorem Ja {α:Type}{bn:α->List R->Mem->Prop}{res:α->Data}(uniq:∀a b args mem,bn a args mem->bn b args mem->res a=res b){a:α}{args:List R}{mem:Mem}(h:bn a args mem):zv bn res args mem=some (res a):=by
 have M:∃b,bn b args mem:=⟨a,h⟩;unfold zv;rw[dif_pos M,uniq _ _ _ _ (q3 M) h]
theorem Jb {α:Type}{bn:α->List R->Mem->Prop}{res:α->Data}{args:List R}{mem:Mem}{d:Data}(h:zv bn res args mem=some d):∃a,bn a args mem/\d=res a:=by
 unfold zv at h
 split at h
 ·rename_i M;exact⟨_,q3 M,(oh h).symm⟩
 ·cases h
theorem abW {α:Type}{bn:α->List R->Mem->Prop}{bU:α->Mem->R->Mem->Prop}(uniq:∀a b args mem,bn a args mem->bn b args mem->bU a mem=bU b mem){a:α}{args:List R}{mem:Mem}(h:bn a args mem):ze bn bU args mem=some (bU a mem):=by
 have M:∃b,bn b args mem:=⟨a,h⟩;unfold ze;rw[dif_pos M,uniq _ _ _ _ (q3 M) h]
theorem Nf {K:bo->Prop}{st:bo}{x:cv}{i k sz kc g off:Nat}{cs:List R}(G:bC st.tm x=.ptr kc g off)(J:st.mem kc=some (g,cs))(af:cs[off+i]?=some .nil)(aT:k≠kc)
  (h:K ⟨st.tm,a9 (a9 st.mem k (cy st.mem k) []) kc g (cs.set (off+i) (.ref k (cy st.mem k) sz 0 0))⟩):kn K st (.BR x i k sz):=by
 simp only[kn,G,J,if_true,af];rw[ad aT];exact h
theorem R7 {K:bo->Prop}{st:bo}{x:cv}{i kc gc off k g sz o len:Nat}{cc cs:List R}{d:Data}(G:bC st.tm x=.ptr kc gc off)(J:st.mem kc=some (gc,cc))(af:cc[off+i]?=some (.ref k g sz o len))(aT:st.mem k=some (g,cs))(bx:yt cs=true)(b0:k≠kc)(bV:dz 1 st.mem (.ref k g sz o len)=some d)
  (h:K ⟨st.tm,a9 (kill st.mem k) kc gc (cc.set (off+i) (.I d))⟩):kn K st (.DP x i):=by
 simp only[kn,G,J,if_true,af,aT];rw[ad ⟨trivial,bx,b0⟩,bV];exact h
def dJ (n:Nat)(mem m:Mem):Prop:=∀k,k/1000≠n->m k=mem k
theorem dJ.refl (n:Nat)(mem:Mem):dJ n mem mem:=λ_ _=>rfl
theorem dJ.eb {n k g:Nat}{cs:List R}{mem m:Mem}(h:dJ n mem m)(L:k/1000=n):dJ n mem (a9 m k g cs):=λj aA=>by
 have:j≠k:=λe=>aA (by rw[e];exact L);simp only[a9,this,if_false];exact h j aA
theorem dJ.kill {n k:Nat}{mem m:Mem}(h:dJ n mem m)(L:k/1000=n):dJ n mem (kill m k):=h.eb L
theorem dJ.at {n:Nat}{mem m:Mem}(h:dJ n mem m)(k:Nat)(L:k/1000≠n):m k=mem k:=h k L
def ld (n:Nat)(mem:Mem):Prop:=∀k,k/1000=n->mem k=none
theorem ld.aK {n abX:Nat}{mem m:Mem}(h:ld n mem)(aC:dJ abX mem m)(aM:n≠abX):ld n m:=λk L=>by rw[aC k (by omega)];exact h k L
end Go.Mini
namespace Go.Mini
open Go
def dR (x:Int):R:=.I (.int .i64 x)
def h5 (b:Bool):R:=.I (.bool b)
theorem wF {α:Type}{f:α->R}{l:List α}{k:Nat}{y:α}(h:l[k]?=some y):List.take 1 (List.drop k (l.map f))=[f y]:=by
 obtain⟨aw,rfl⟩:=ej.1 h;rw[<-List.map_drop,List.drop_eq_getElem_cons aw,ey,List.take_succ_cons,List.take_zero]
structure tD (E:List Int) (cs:List aG) (aI:List Int) (P:List Bool) (g b1 eT:Nat) (mem:Mem):Prop where
 r:mem 261029=some (g,[.I (.X (E.map ae)),.I (.X (cs.map bR)),.ref 261042 b1 1 0 (D aI),.ref 261027 eT 1 0 (D P),.I (.bool false)])
 f:mem 261042=some (b1,aI.map dR)
 p:mem 261027=some (eT,P.map h5)
theorem tD.aK {E:List Int}{cs:List aG}{aI:List Int}{P:List Bool}{g b1 eT n:Nat}{mem m:Mem}(h:tD E cs aI P g b1 eT mem)(aC:dJ n mem m)(aM:n≠261):tD E cs aI P g b1 eT m :=
 ⟨(aC.at 261029 (by omega)).trans h.r,(aC.at 261042 (by omega)).trans h.f,(aC.at 261027 (by omega)).trans h.p⟩
theorem alA {a b:List Int}(h:a.map dR=b.map dR):a=b:=map_inj (λx y h=>by simpa [dR] using h) _ _ h
theorem az0 {a b:List Bool}(h:a.map h5=b.map h5):a=b:=map_inj (λx y h=>by simpa [h5] using h) _ _ h
theorem tD.uniq {E alB:List Int}{cs qV:List aG}{aI alC:List Int}{P x2:List Bool}{g b1 eT eg alD R8:Nat}{mem:Mem}(h:tD E cs aI P g b1 eT mem)(cW:tD alB qV alC x2 eg alD R8 mem):E=alB/\cs=qV/\aI=alC/\P=x2/\g=eg/\b1=alD/\eT=R8:=by
 have G:=h.r;rw[cW.r] at G;simp only[cL,fS,bk,R.I.injEq,Data.X.injEq,R.ref.injEq,true_and,and_true] at G;obtain⟨av,aB,bp,⟨bM,-⟩,bH,-⟩:=G;have J:=h.f;rw[cW.f] at J;simp only[cL,fS] at J;have af:=h.p;rw[cW.p] at af;simp only[cL,fS] at af;exact⟨(map_inj gx _ _ aB).symm,(map_inj sx _ _ bp).symm,(alA J.2).symm,(az0 af.2).symm,av.symm,bM.symm,bH.symm⟩
def FU (E:List Int)(cs:List aG)(aI:List Int)(cr:Nat):Int:=E.getD cr 0+cF cs λc=>if c.2.1=(cr:Int)/\c.2.2.1<aI.getD c.1.toNat 0 then c.2.2.2 else 0
structure nu where
 E:List Int
 cs:List aG
 aI:List Int
 P:List Bool
 g:Nat
 b1:Nat
 eT:Nat
def nu.e6 (a:nu)(mem:Mem):Prop:=tD a.E a.cs a.aI a.P a.g a.b1 a.eT mem
theorem nu.uniq {a b:nu}{mem:Mem}(h:a.e6 mem)(cW:b.e6 mem):a=b:=by
 obtain⟨cE,cO,ei,eS,wG,tE,alE⟩:=a;obtain⟨c0,ee,gz,gW,az1,alF,az2⟩:=b;have:=tD.uniq h cW;dsimp only at this;obtain⟨rfl,rfl,rfl,rfl,rfl,rfl,rfl⟩:=this
 rfl
def abY:List R->Mem->Option Data:=zv (λ(a:nu×Nat) args mem=>args=[.ptr 261029 a.1.g 0,.I (.int .i64 a.2)]/\a.1.e6 mem/\ld 280 mem/\hk a.1.E a.1.cs=true/\a.1.aI.length=a.1.E.length/\a.2<a.1.E.length) λa => .int .i64 (FU a.1.E a.1.cs a.1.aI a.2)
theorem az3 (a:nu)(cr:Nat)(mem:Mem)(G:a.e6 mem)(J:ld 280 mem)(af:hk a.E a.cs=true)(aT:(D a.aI)=D a.E)(bx:cr<D a.E):abY [.ptr 261029 a.g 0,.I (.int .i64 cr)] mem=some (.int .i64 (FU a.E a.cs a.aI cr)):=by
 refine Ja (a:=(a,cr)) ?_ ⟨rfl,G,J,af,aT,bx⟩;rintro⟨a,i⟩ ⟨b,j⟩ args mem ⟨av,aB,-⟩ ⟨bp,bM,-⟩;obtain rfl:=nu.uniq aB bM;rw[av] at bp;simp only[bk,R.I.injEq,Data.int.injEq,true_and,and_true] at bp;have:i=j:=by omega
 rw[this]
theorem az4 {E:List Int}{cs:List aG}(h:hk E cs=true)(aI:List Int)(cr i:Nat):0<=E.getD cr 0/\E.getD cr 0<=1000000000000000/\0<=cF (cs.take i) (λc=>if c.2.1=(cr:Int)/\c.2.2.1<aI.getD c.1.toNat 0 then c.2.2.2 else 0)/\cF (cs.take i) (λc=>if c.2.1=(cr:Int)/\c.2.2.1<aI.getD c.1.toNat 0 then c.2.2.2 else 0)<=2000000000000000000:=by
 have G:=(zu h).sum (λc=>c.2.1=(cr:Int)/\c.2.2.1<aI.getD c.1.toNat 0) i;refine⟨?_,?_,G.1,G.2⟩ <;>
 ·rw[ep]
  cases Q:E[cr]? with
  |none=>simp
  |some x=>have:=(il.1 h).2.2.1 x (dn Q);simp only[Ku];omega
theorem az5 (T:bl)(a:nu)(cr:Nat)(mem:Mem)(G:a.e6 mem)(J:ld 280 mem)(af:hk a.E a.cs=true)(aT:(D a.aI)=D a.E)(bx:cr<D a.E):
  wp T RU.body (pQ RU.res λm mem'=>dz 6 emp m=some (.int .i64 (FU a.E a.cs a.aI cr))/\dJ 280 mem mem') ⟨lk [.ptr 261029 a.g 0,.I (.int .i64 cr)],mem⟩:=by
 obtain⟨E,cs,aI,P,g,b1,eT⟩:=a;dsimp only at *;have Y:=G.r;have aC:=G.f;dsimp only at Y aC;refine sV ?_;simp only[RU];obtain⟨a4,qq⟩:∃x,E[cr]?=some x:=⟨_,bq bx⟩;have abZ:E.getD cr 0=a4:=by rw[ep,qq];rfl
 simp only[go_sem,go_sem_proc,Y,qq,ae,bj];refine cU [0,1] [] (λ(i:Nat) tm m=>i<=D cs/\tm 5=.I (.int .i64 (a4+cF (cs.take i) λc=>if c.2.1=(cr:Int)/\c.2.2.1<aI.getD c.1.toNat 0 then c.2.2.2 else 0))/\tm 6=.I (.int .i64 i)/\dJ 280 mem m) (λi=>D cs-i) 0 (by refine⟨by omega,?_,rfl,dJ.refl _ _⟩;simp[cF,go_sem]) ?_;intro vs ms aJ aH;simp only[go_sem,go_sem_proc] at aJ aH;subst aJ aH;rintro i tm m L hm ⟨Q,Ng,Dm,bD⟩;simp only[go_sem,go_sem_proc,bk] at L;obtain⟨ev,cB⟩:=L;have wU:=(bD.at 261029 (by omega)).trans Y;have z7:=(bD.at 261042 (by omega)).trans aC;have aw:=(zu af).1;rcases dc (i<D cs) with az|b2
 ·obtain⟨⟨aq,c2,c3,c4⟩,M⟩:∃c,cs[i]?=some c:=⟨_,bq az⟩;have d1:decide ((i:Int)<(D cs:Int))=true:=cT;have bG:=ec (i:=i) (by omega);have dF:=MR M λc=>if c.2.1=(cr:Int)/\c.2.2.1<aI.getD c.1.toNat 0 then c.2.2.2 else 0;have ah:=az4 af aI cr i;have H:=(il.1 af).2.2.2 _ (dn M);generalize cF (cs.take i) (λc=>if c.2.1=(cr:Int)/\c.2.2.1<aI.getD c.1.toNat 0 then c.2.2.2 else 0)=s at *;dsimp only at dF H;rw[abZ] at ah;obtain⟨aq,rfl⟩:∃k:Nat,aq=(k:Int):=⟨aq.toNat,by omega⟩
  rw[Int.toNat_natCast] at dF;have m0:IntKind.i64.wrap (a4+s+c4)=a4+s+c4:=by rw[fh _]
  obtain⟨y,aj⟩:∃y,aI[aq]?=some y:=⟨_,bq (by omega)⟩;have AV:aI.getD aq 0=y:=by rw[ep,aj];rfl
  have fv:aq+1<=D aI:=by omega
  have alG:aq<D aI:=by omega
  have alH:=wF (f:=dR) aj;rw[AV] at dF;rcases av:(c2==(cr:Int))
  ·have:¬ (c2=(cr:Int)/\c3<y):=λh=>by rw[h.1] at av;simp at av
   rw[ag this] at dF;refine ak ?_;repeat' (intro (ay:_=_)<;>simp only[ay,go_sem,go_sem_proc,ev,cB,Ng,Dm,wU,z7,M,d1,bG,m0,av,bR,aE,bj]<;>try refine ai ?_ ?_)
   exact⟨i+1,by omega,by omega,by rw[dF,ra],rfl,(bD.eb (by decide)).eb (by decide)⟩
  ·have E3:=beq_iff_eq.1 av;rcases aB:decide (c3<y)
   ·have:¬ (c2=(cr:Int)/\c3<y):=λh=>of_decide_eq_false aB h.2;rw[ag this] at dF;refine ak ?_;repeat' (intro (ay:_=_)<;>simp only[ay,go_sem,go_sem_proc,ev,cB,Ng,Dm,wU,z7,M,alH,fv,alG,d1,bG,m0,av,aB,bR,dY,aE,bj,show ∀x,dR x=.I (.int .i64 x) from λ_=>rfl]<;>try refine ai ?_ ?_)
    exact⟨i+1,by omega,by omega,by rw[dF,ra],rfl,(bD.eb (by decide)).eb (by decide)⟩
   ·rw[ad ⟨E3,of_decide_eq_true aB⟩] at dF;refine ak ?_;repeat' (intro (ay:_=_)<;>simp only[ay,go_sem,go_sem_proc,ev,cB,Ng,Dm,wU,z7,M,alH,fv,alG,d1,bG,m0,av,aB,bR,dY,aE,bj,show ∀x,dR x=.I (.int .i64 x) from λ_=>rfl]<;>try refine ai ?_ ?_)
    exact⟨i+1,by omega,by omega,by rw[dF,Int.add_assoc],rfl,(bD.eb (by decide)).eb (by decide)⟩
 ·have d1:decide ((i:Int)<(D cs:Int))=false:=cl;rw[dp (by omega)] at Ng;have ks:FU E cs aI cr=a4+cF cs (λc=>if c.2.1=(cr:Int)/\c.2.2.1<aI.getD c.1.toNat 0 then c.2.2.2 else 0):=by unfold FU;rw[abZ]
  rw[ks];refine ak ?_;repeat' (intro (ay:_=_)<;>simp only[ay,go_sem,go_sem_proc,ev,cB,Ng,Dm,wU,z7,d1,aE]<;>try refine ai ?_ ?_)
  exact⟨_,rfl,rfl,bD⟩
theorem dJ.same {n k g:Nat}{cs:List R}{mem m:Mem}(h:dJ n mem m)(hm:mem k=some (g,cs)):dJ n mem (a9 m k g cs):=λj aA=>by
 by_cases e:j=k
 ·subst e;simp only[a9,if_true];exact hm.symm
 ·simp only[a9,e,if_false];exact h j aA
theorem iB {z:Int}(G:-9000000000000000000<=z)(J:z<=9000000000000000000):dr z:=by unfold dr;omega
theorem rD.upto {cs:List aG}(h:rD cs)(i r:Int):0<=b4 cs i r/\b4 cs i r<=2000000000000000000:=by
 have:=h.sum (λc=>c.1=i/\c.2.2.1<r) (D cs);rw[List.take_length] at this;exact this
theorem alI {p q:Int}(aF:dr p)(bF:dr q)(ax:q≠0):gH (bf p) (bf q)=(al ((p:Rat)/(q:Rat)),0):=by
 rw[AP (td aF) (td bF) ax,RH]
def gJ (cs:List aG)(i r:Int):Int:=b4 cs i (r+1)-b4 cs i r
structure R9 where
 E:List Int
 cs:List aG
 bX:R
 cS:R
 g:Nat
 c:aG
def ab0 (a:R9)(mem:Mem):Prop:=mem 261029=some (a.g,[.I (.X (a.E.map ae)),.I (.X (a.cs.map bR)),a.bX,a.cS,.I (.bool false)])/\ld 281 mem/\rD a.cs/\0<=a.c.2.2.1/\a.c.2.2.1<10/\0<=a.c.2.2.2/\a.c.2.2.2<=1000000000000000/\0<gJ a.cs a.c.1 a.c.2.2.1
def Jc (cs:List aG)(c:aG):Rat:=(c.2.2.2:Rat)/((gJ cs c.1 c.2.2.1:Int):Rat)
def Nh:List R->Mem->Option Data:=zv (λ(a:R9) args mem=>args=[.ptr 261029 a.g 0,.agg ((bR a.c).map .I)]/\ab0 a mem) λa => .agg (ar (al (Jc a.cs a.c)))
theorem az6 (a:R9)(mem:Mem)(h:ab0 a mem):Nh [.ptr 261029 a.g 0,.agg ((bR a.c).map .I)] mem=some (.agg (ar (al (Jc a.cs a.c)))):=by
 refine Ja (a:=a) ?_ ⟨rfl,h⟩;rintro a b args mem ⟨av,aB,-⟩ ⟨bp,bM,-⟩;rw[av] at bp;simp only[bk,R.agg.injEq,and_true] at bp;have H:=sx _ _ (map_inj (λx y h=>R.I.inj h) _ _ bp.2);rw[bM] at aB;simp only[cL,fS,bk,R.I.injEq,Data.X.injEq] at aB;have U:=map_inj sx _ _ aB.2.2.1;rw[H,U]
theorem az7 (T:bl)(lK:T q7=aQ xX)(FN:T Ap=aQ Ib)(a:R9)(mem:Mem)(h:ab0 a mem):
  wp T RV.body (pQ RV.res λm mem'=>dz 6 emp m=some (.agg (ar (al (Jc a.cs a.c))))/\dJ 281 mem mem') ⟨lk [.ptr 261029 a.g 0,.agg ((bR a.c).map .I)],mem⟩:=by
 obtain⟨E,cs,bX,cS,g,⟨aq,c2,c3,c4⟩⟩:=a;obtain⟨Y,aM,cM,cB,dA,ek,gQ,dh⟩:=h;dsimp only at *;refine sV ?_;simp only[RV,bR,ey,cC];have bG:IntKind.i64.wrap (c3+1)=c3+1:=by rw[fh _]
 have lQ:=cM.upto aq (c3+1);have ho:=cM.upto aq c3;have aku:b4 cs aq (c3+1)-b4 cs aq c3=gJ cs aq c3:=rfl;have m0:IntKind.i64.wrap (b4 cs aq (c3+1)-b4 cs aq c3)=gJ cs aq c3:=by rw[fh _];rfl
 have i1:dr c4:=iB (by omega) (by omega);have i2:dr (gJ cs aq c3):=iB (by omega) (by omega);have hV:=alI i1 i2 (by omega);unfold Jc;dsimp only;generalize al ((c4:Rat)/((gJ cs aq c3:Int):Rat))=aR at *;obtain⟨⟨cE,cO⟩,⟨ei,eS⟩⟩:=aR;refine ak ?_;repeat' (intro (ay:_=_)<;>simp only[ay,go_sem,go_sem_proc,lK,FN,Y,cM,bG,m0,i1,i2,hV,cG,ar,bne,beq_self_eq_true,cw]<;>try refine ai ?_ ?_)
 refine⟨_,rfl,by simp[go_sem,dz],?_⟩
 refine dJ.eb ?_ (by decide);refine dJ.same ?_ Y;exact (((((dJ.refl 281 mem).eb (by decide)).eb (by decide)).eb (by decide)).eb (by decide))
end Go.Mini
namespace Go.Mini
open Go Classical
def bb (aI:List Int)(i:Nat):Nat:=(aI.getD i 10).toNat
def dL (P:List Bool)(i:Nat):Prop:=P.getD i false=true
def pd (f:Nat->Nat)(P:Nat->Prop)(i:Nat)(c:ef):Prop:=c.to=(i:Int)/\c.bP=f c.aK/\P c.aK
def mF (d:Day)(f:Nat->Nat)(P:Nat->Prop)(i:Nat)(l:List ef)(j:Nat):Rat:=(if i=j then 1 else 0)-b3 l λc=>if pd f P i c/\c.aK=j then d.w c else 0
def pe (d:Day)(f:Nat->Nat)(P:Nat->Prop)(i:Nat)(l:List ef):Rat:=d.st f i-b3 l λc=>if pd f P i c then d.w c*d.bI c.aK c.bP else 0
theorem Sa (a b:List ef)(aR:ef->Rat):b3 (a++b) aR=b3 a aR+b3 b aR:=by
 induction a with
 |nil=>simp only[hX,b3];grind
 |cons c l aN=>rw[mj,b3,b3,aN];grind
theorem az8 {d:Day}{f:Nat->Nat}{P:Nat->Prop}{i j:Nat}(Q:i<d.n)(aA:j<d.n):mF d f P i d.dI j=d.pb f P i j:=by
 unfold mF Day.pb;rw[ad aA]
 congr 1
 by_cases fi:P j
 ·rw[ad fi];unfold Day.W;refine wu λc _=>?_
  by_cases h:c.to=(i:Int)/\c.aK=j/\c.bP=f j
  ·have J:pd f P i c/\c.aK=j:=⟨⟨h.1,by rw[h.2.1];exact h.2.2,by rw[h.2.1];exact fi⟩,h.2.1⟩
   rw[ad h,ad J]
  ·have J:¬ (pd f P i c/\c.aK=j):=λaf=>h ⟨af.1.1,af.2,by rw[<-af.2];exact af.1.2.1⟩
   rw[ag h,ag J]
 ·rw[ag fi];exact IH λc _=>ag λh=>fi (by rw[<-h.2];exact h.1.2.2)
theorem az9 {d:Day}(ab:d.dO){f:Nat->Nat}{P:Nat->Prop}{i:Nat}:pe d f P i d.dI=d.pb f P i d.n:=by
 unfold pe Day.pb;rw[ag (by omega),<-ab.aa5 f P (λk=>d.bI k (f k)) i]
 congr 1
 refine wu λc _=>?_
 by_cases G:c.to=(i:Int)
 ·rw[ad G]
  by_cases J:c.bP=f c.aK/\P c.aK
  ·have af:pd f P i c:=⟨G,J⟩;rw[ad J,ad af,J.1]
  ·have af:¬ pd f P i c:=λh=>J h.2;rw[ag J,ag af]
 ·have af:¬ pd f P i c:=λh=>G h.1;rw[ag G,ag af]
theorem alJ (d:Day)(f:Nat->Nat)(P:Nat->Prop)(i j:Nat):mF d f P i [] j=if i=j then 1 else 0:=by unfold mF;simp only[b3];split<;>grind
theorem alK (d:Day)(f:Nat->Nat)(P:Nat->Prop)(i:Nat):pe d f P i []=d.st f i:=by unfold pe;simp only[b3];grind
theorem alL {d:Day}{f:Nat->Nat}{P:Nat->Prop}{i:Nat}{l:List ef}{c:ef}(h:pd f P i c)(j:Nat):mF d f P i (l++[c]) j=if j=c.aK then mF d f P i l j-d.w c else mF d f P i l j:=by
 unfold mF;rw[Sa];simp only[b3]
 by_cases aA:c.aK=j
 ·have J:pd f P i c/\c.aK=j:=⟨h,aA⟩;rw[ad J,ad aA.symm];grind
 ·have J:¬ (pd f P i c/\c.aK=j):=λaf=>aA af.2;rw[ag J,ag (Ne.symm aA)];grind
theorem alM {d:Day}{f:Nat->Nat}{P:Nat->Prop}{i:Nat}{l:List ef}{c:ef}(h:¬ pd f P i c\/c.am=0)(j:Nat):mF d f P i (l++[c]) j=mF d f P i l j:=by
 unfold mF;rw[Sa];simp only[b3];rcases h with h|h
 ·have J:¬ (pd f P i c/\c.aK=j):=λaf=>h af.1;rw[ag J];grind
 ·have J:=Day.Fk (d:=d) h;rw[J]
  split<;>grind
theorem alN {d:Day}{f:Nat->Nat}{P:Nat->Prop}{i:Nat}{l:List ef}{c:ef}(h:pd f P i c):pe d f P i (l++[c])=pe d f P i l-d.w c*d.bI c.aK c.bP:=by
 unfold pe;rw[Sa];simp only[b3];rw[ad h];grind
theorem alO {d:Day}{f:Nat->Nat}{P:Nat->Prop}{i:Nat}{l:List ef}{c:ef}(h:¬ pd f P i c\/c.am=0):pe d f P i (l++[c])=pe d f P i l:=by
 unfold pe;rw[Sa];simp only[b3];rcases h with h|h
 ·rw[ag h];grind
 ·rw[Day.Fk h]
  split<;>grind
theorem sy {z:Int}{b:Nat}(h:z.natAbs<=2^b):eA b (z:Rat):=⟨by rw[Rat.num_intCast];exact h,by rw[Rat.den_intCast];exact I3⟩
theorem Sb {E:List Int}{cs:List aG}(U:fV E cs){c:aG}(H:c∈cs):eA 29 ((ao E cs).w (cg c)):=by
 have Y:=(il.1 U.right).2.2.2 c H;have xQ:=U.am c H
 by_cases ax:c.2.2.2=0
 ·have:(cg c).am=0:=by show ((c.2.2.2:Int):Rat)=0;rw[ax];rfl
  rw[Day.Fk this];exact⟨fm _,I3⟩
 ·have dh:=FJ U.right (cg c).aK (cg c).bP;have hle:=(IW U.right).aaw (c:=cg c) (Bl H);rw[<-dh] at hle
  have G:c.2.2.2<=((kf cs (cg c).aK (cg c).bP:Nat):Int):=by
   have:((c.2.2.2:Int):Rat)<=(((kf cs (cg c).aK (cg c).bP:Nat):Int):Rat):=by rw[nW];exact hle
   exact_mod_cast this
  have J:=U.Di (cg c).aK (cg c).bP
  obtain⟨f1,f2⟩:=Dd (q:=(ao E cs).w (cg c)) (v:=c.2.2.2) (d:=((kf cs (cg c).aK (cg c).bP:Nat):Int)) (by omega) (by
   rw[nW,dh];refine Day.IK ?_;rw[<-dh];have:0<kf cs (cg c).aK (cg c).bP:=by omega
   exact_mod_cast this)
  rw[k4] at f2;exact⟨by omega,by omega⟩
section
variable {E:List Int} {cs:List aG} (U:fV E cs) (f:Nat->Nat) (P:Nat->Prop) (i:Nat)
include U
theorem aAa:∀(l:List aG),(∀c∈l,c∈cs)->∀j,eA (30*D l) (mF (ao E cs) f P i (l.map cg) j):=by
 have:∀n (l:List aG),D l=n->(∀c∈l,c∈cs)->∀j,eA (30*D l) (mF (ao E cs) f P i (l.map cg) j):=by
  intro n
  induction n with
  |zero =>
   intro l aw _ j;have:l=[]:=x3.1 aw;subst this;rw[cC,alJ];exact akK _ _
  |succ n aN =>
   intro l aw hm j;rcases yN l with ax|⟨fI,c,rfl⟩
   ·subst ax;cases aw
   ·rw[yO] at *;simp only[fX,sg] at aw;have G:=aN fI (by omega) (λx M=>hm x (by simp[M])) j;have J:=Sb U (hm c (by simp));rw[js,ey,cC,fX,sg]
    by_cases H:pd f P i (cg c)
    ·rw[alL H]
     split
     ·rw[CM];exact (MI G (wA J)).mono (by omega)
     ·exact G.mono (by omega)
    ·rw[alM (.inl H)];exact G.mono (by omega)
 intro l hm j;exact this _ l rfl hm j
theorem aAb:∀(l:List aG),(∀c∈l,c∈cs)->eA (50+60*D l) (pe (ao E cs) f P i (l.map cg)):=by
 have:∀n (l:List aG),D l=n->(∀c∈l,c∈cs)->eA (50+60*D l) (pe (ao E cs) f P i (l.map cg)):=by
  intro n
  induction n with
  |zero =>
   intro l aw _;have:l=[]:=x3.1 aw;subst this;rw[cC,alK,<-FK U.right];have:=U.steady f i;exact (sy (b:=50) (by omega)).mono (by omega)
  |succ n aN =>
   intro l aw hm;rcases yN l with ax|⟨fI,c,rfl⟩
   ·subst ax;cases aw
   ·rw[yO] at *;simp only[fX,sg] at aw;have G:=aN fI (by omega) (λx M=>hm x (by simp[M]));have J:=Sb U (hm c (by simp))
    have af:eA 29 ((ao E cs).bI (cg c).aK (cg c).bP):=by
     rw[<-pX U.right];have:=U.upto (cg c).aK (cg c).bP;exact sy (by omega)
    rw[js,ey,cC,fX,sg]
    by_cases H:pd f P i (cg c)
    ·rw[alN H,CM];exact (MI G (wA (Bk J af))).mono (by omega)
    ·rw[alO (.inl H)];exact G.mono (by omega)
 intro l hm;exact this _ l rfl hm
end
end Go.Mini
