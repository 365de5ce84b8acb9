/- A part of the proof. -/
import Derived.Test.YtgpioapepokkbaaGreatM05
set_option linter.unusedSimpArgs false
set_option linter.unusedVariables false
set_option maxRecDepth 100000
set_option maxHeartbeats 4000000
noncomputable section
open Bool renaming and_eq_true->e9,and_false->iZ,false_and->fB,false_or->pj,not_false->du,not_not->I6,not_true->cP,or_false->l3,true_and->g1,true_or->sl
open Decidable renaming em->dv
open Int renaming reduceLE->amo,reduceToNat->amp,toNat_natCast->lH
open List renaming all_eq_true->nq,any_eq_false->xj,append_assoc->gM,append_nil->fG,concat_eq_append->Bv,cons_append->j1,count_pos_iff->anj,drop->fX,drop_append->oN,drop_eq_nil_of_le->jV,drop_succ_cons->CN,drop_zero->l2,eq_nil_or_concat->Bu,ext_getElem?->pM,filter_append->rV,filter_cons_of_neg->xq,filter_cons_of_pos->v7,filter_eq_nil_iff->HZ,filter_eq_self->am6,filter_nil->qa,flatten_append->EG,flatten_cons->jP,foldl_append->Na,foldl_cons->Bb,getD_eq_getElem?_getD->dZ,getElem?_append_left->qq,getElem?_append_right->ri,getElem?_cons_succ->IB,getElem?_cons_zero->zu,getElem?_drop->lB,getElem?_eq_getElem->bu,getElem?_eq_some_iff->dP,getElem?_map->bh,getElem?_set_self->J6,getElem?_take->u9,length->D,length_append->fQ,length_cons->h8,length_eq_zero_iff->CT,length_filter_le->om,length_map->ai,length_nil->k9,length_range->sn,length_replicate->An,length_set->iY,length_singleton->Cg,length_take->gC,mapM_cons->lz,mapM_nil->Ga,map_append->kT,map_congr_left->m3,map_cons->eC,map_drop->Nh,map_map->m4,map_nil->cS,map_take->z9,mem_append->js,mem_cons->hP,mem_cons_of_mem->hf,mem_cons_self->gF,mem_filter->sY,mem_iff_getElem?->tI,mem_map->dV,mem_map_of_mem->p9,mem_of_getElem?->eg,mem_range->g2,mem_singleton->tU,pairwise_append->Ni,pairwise_cons->Fm,pairwise_singleton->amK,range->dU,range_succ->oo,replicate->dD,replicate_succ->qs,set_cons_zero->rN,set_eq_take_append_cons_drop->MN,take->fM,take_add_one->hk,take_append->Dj,take_append_drop->tG,take_length->lK,take_of_length_le->dx,take_set_of_le->amT,take_succ_cons->wH,take_zero->mH
open List.cons renaming injEq->a6
open Nat renaming add_assoc->qp,le_refl->bX,le_trans->eQ,mul_one->cD,one_mul->xM,reduceEqDiff->dW,sub_self->my,sub_zero->Ct,zero_add->kH,zero_le->fs,zero_mul->DA
open Option renaming bind_none->kQ,bind_some->la,map_some->mB,toList_some->abK
open Option.some renaming inj->pN,injEq->cm
open Prod renaming ext->dQ
open Prod.mk renaming injEq->fo
open Rat renaming add_zero->p5,div_def->HG,intCast_add->uz,intCast_mul->p7,intCast_natCast->oi,le_refl->gi,mul_zero->nF,sub_eq_add_neg->Lj,zero_mul->Cv
namespace Go.Mini
open Go
def q3 (l:List aw)(r:Int):Int:=cK l λc=>if c.2.2.1<r then c.2.2.2 else 0
def gV (l:List aw)(r:Int):Int:=cK l λc=>if c.2.2.1=r then c.2.2.2 else 0
theorem alJ (l:List aw)(r:Int):q3 l (r+1)=q3 l r+gV l r:=by
 unfold q3 gV;rw[<-aae];refine HM λc _=>?_
 by_cases E:c.2.2.1<r
 ·rw[ab E,ab (by omega),ag (by omega)];omega
 ·by_cases H:c.2.2.1=r
  ·rw[ab (by omega),ag E,ab H];omega
  ·rw[ag (by omega),ag E,ag H];rfl
def hg (l:List aw)(x:Rat)(k:Nat):Rat:=pos (x-((q3 l k:Int):Rat))
theorem ky.abg {l:List aw}(h:ky l)(r:Int):0<=gV l r/\gV l r<=12000000000000000:=h.bound λc=>c.2.2.1=r
theorem ky.aA1 {l:List aw}(h:ky l)(r:Int):0<=q3 l r/\q3 l r<=12000000000000000:=h.bound λc=>c.2.2.1<r
theorem aA2 (l:List aw)(x:Rat)(k:Nat):0<=hg l x k:=HH _
theorem aA3 {l:List aw}(h:ky l){x:Rat}(O:0<=x):hg l x 0=x:=by
 have:q3 l (0:Nat)=0:=by
  unfold q3
  have:(cK l λc=>if c.2.2.1<((0:Nat):Int) then c.2.2.2 else 0)=cK l λ_=>0:=HM λc G=>by
   have:=(h.c c G).2.2.2.2.1;rw[ag (by omega)]
  rw[this];clear h this
  induction l with
  |nil=>rfl
  |cons c l aA=>simp only[cK,aA];omega
 unfold hg;rw[this,sW]<;>grind
theorem aA4 {l:List aw}(h:ky l){x:Rat}{k:Nat}(he:((gV l k:Int):Rat)<=hg l x k):hg l x (k+1)=hg l x k-((gV l k:Int):Rat):=by
 have E:=alJ l k;have ao:=(h.abg k).1;have aMq:(0:Rat)<=((gV l k:Int):Rat):=by exact_mod_cast ao
 unfold hg at *;rw[show ((k+1:Nat):Int)=(k:Int)+1 by omega,E,uz]
 by_cases aF:x-((q3 l k:Int):Rat)<=0
 ·have ay:=vX aF;rw[ay] at he ⊢;rw[vX (by grind)];grind
 ·have ay:=sW (x:=x-((q3 l k:Int):Rat)) (by grind);rw[ay] at he ⊢;rw[sW (by grind)];grind
theorem aA5 {l:List aw}{x:Rat}{k:Nat}(he:¬ ((gV l k:Int):Rat)<=hg l x k):hg l x (k+1)=0:=by
 have E:=alJ l k;have H:=QL (x-((q3 l k:Int):Rat));unfold hg at *;rw[show ((k+1:Nat):Int)=(k:Int)+1 by omega,E,uz,vX (by grind)]
section
variable {l:List aw} (h:ky l) {x:Rat} {k:Nat} {c:aw} (G:c∈l) (M:c.2.2.1=k)
include h G M
theorem alK:cO l c.1 c.2.2.1=q3 l k/\kW l c.1 c.2.2.1=gV l k:=by
 rw[M];exact⟨(h.less G k).symm,(h.same G k).symm⟩
theorem aA6 (he:((gV l k:Int):Rat)<=hg l x k):eG l x c=(c.2.2.2:Rat):=by
 obtain⟨ay,aB⟩:=alK h G M;have aH:∀c∈l,0<=c.2.2.2:=λc G=>(h.c c G).2.2.2.2.2.2.1
 by_cases aF:x-((q3 l k:Int):Rat)<=0
 ·have ao:hg l x k=0:=vX aF;rw[ao] at he;have cJ:gV l k<=0:=by exact_mod_cast he
  have aM:=aj5 aH G;rw[aB] at aM;have aMr:=aH c G;rw[aj6 aH G (by rw[ay];exact aF),show c.2.2.2=0 by omega];rfl
 ·refine ayv ?_;rw[ay,aB];unfold hg at he;rwa [sW (by grind)] at he
theorem aA7 (he:¬ ((gV l k:Int):Rat)<=hg l x k):eG l x c=(c.2.2.2:Rat)*hg l x k/((gV l k:Int):Rat):=by
 obtain⟨ay,aB⟩:=alK h G M;have aH:∀c∈l,0<=c.2.2.2:=λc G=>(h.c c G).2.2.2.2.2.2.1
 by_cases aF:x-((q3 l k:Int):Rat)<=0
 ·have ao:hg l x k=0:=vX aF;rw[aj6 aH G (by rw[ay];exact aF),ao,nF,HG,Cv]
 ·have ao:hg l x k=x-((q3 l k:Int):Rat):=sW (by grind);rw[ayw (by rw[ay];grind) (by rw[ay,aB,<-ao];grind),ay,aB,ao]
end
theorem alL {l:List aw}{x:Rat}(h:H6 l x)(k:Nat):ec 515 (hg l x k):=by
 have gw:=h.own.aA1 k;unfold hg pos
 split
 ·exact (show ec 1 0 from⟨by decide,by decide⟩).mono (by omega)
 ·rw[Lj];exact (aiB h.sz (HS (Aw (z:=q3 l k) (b:=54) (by omega)))).mono (by omega)
def abh:=cj H8 λ(x,a,b)=>some (.same (.bool (decide (a<=x)&&decide (x<=b))))
@[go_sem] theorem aMs (x:Int)(a:Int)(b:Int):abh [.int .i64 x,.int .i64 a,.int .i64 b]=some (.same (.bool (decide (a<=x)&&decide (x<=b)))):=cu Rp (x,a,b)
theorem aA8 (T:bb)  (x:Int) (a:Int) (b:Int):WP T ZY (.same (.bool (decide (a<=x)&&decide (x<=b)))) [.I (.int .i64 x),.I (.int .i64 a),.I (.int .i64 b)]:=by
 refine cv ?_;simp only[ZY];rcases aI:decide (a<=x)
 ·have c2:decide (x>=a)=false:=aI;refine aY ?_;repeat' (intro h<;>simp only[h,go_sem,go_sem_proc,aI,c2,fB]<;>try refine ax ?_ ?_)
 ·have c2:decide (x>=a)=true:=aI;refine aY ?_;repeat' (intro h<;>simp only[h,go_sem,go_sem_proc,aI,c2,g1]<;>try refine ax ?_ ?_)
abbrev abi:List aw->List Data:=λ(l:List aw)=>[.X (l.map ca)]
def R7:=cj abi λ(l:List aw)=>cN (ky l) (.same (.bool true))
theorem aA9:∀a b,abi a=abi b->a=b:=by
  intro en al h;simp only[a6,Data.X.injEq,and_true] at h;exact map_inj rU _ _ h
@[go_sem] theorem aMt (l:List aw)(G:ky l):R7 [.X (l.map ca)]=some (.same (.bool true)):=(cu aA9 l).trans (cT G _)
theorem aBa (T:bb)(MZ:T Gp=aV abh)(l:List aw)(G:ky l):WP T ZW (.same (.bool true)) [.I (.X (l.map ca))]:=by
 refine cv ?_;simp only[ZW];have av:=G.len;simp only[go_sem,go_sem_proc,MZ,ai];refine dm [0,5,6] [] (λ(i:Nat) tm mem=>i<=D l/\tm 7=.I (.int .i64 i)) (λi=>D l-i) 0 (by refine⟨by omega,rfl⟩) ?_;intro vs ms aR aN;simp only[go_sem,go_sem_proc,MZ,ai] at aR aN;subst aR aN;rintro i tm mem M hm ⟨J,bM⟩;simp only[go_sem,go_sem_proc,MZ,a6] at M hm;obtain⟨ao,bt,bU⟩:=M;rcases dv (i<D l) with az|b2
 ·have d1:decide ((i:Int)<(D l:Int))=true:=dj;have bO:=eZ (i:=i) (by omega);obtain⟨⟨aI,c2,c3,c4⟩,O⟩:∃c,l[i]?=some c:=⟨_,bu az⟩;obtain⟨⟨cQ,de,ep,fe⟩,rI⟩:∃c,l[0]?=some c:=⟨_,bu (by omega)⟩;have hH:=G.c _ (eg O);have x0:=G.one _ (eg O) _ (eg rI);dsimp only at hH x0;subst x0;have hp:(decide (0<=aI)&&decide (aI<=59))=true:=by simp only[e9,decide_eq_true_eq];omega
  have fb:(decide (-1<=c2)&&decide (c2<=59))=true:=by simp only[e9,decide_eq_true_eq];omega
  have uC:(decide (0<=c3)&&decide (c3<=9))=true:=by simp only[e9,decide_eq_true_eq];omega
  have oh:(decide (0<=c4)&&decide (c4<=1000000000000000))=true:=by simp only[e9,decide_eq_true_eq];omega
  refine aY ?_;repeat' (intro h<;>simp only[h,go_sem,go_sem_proc,MZ,ao,bt,bU,bM,O,rI,d1,bO,hp,fb,uC,oh,ca,bne,beq_self_eq_true,cP,ai,bh]<;>try refine ax ?_ ?_)
  exact⟨i+1,by omega,by omega,rfl⟩
 ·have d1:decide ((i:Int)<(D l:Int))=false:=c5;have d2:decide ((D l:Int)<=2000)=true:=dj;refine aY ?_;repeat' (intro h<;>simp only[h,go_sem,go_sem_proc,MZ,ao,bt,bU,bM,d1,d2,ai]<;>try refine ax ?_ ?_)
theorem aBb (T:bb){K:eY->ba->Prop}{kk:List gD}(l:List aw)(av:ky l)(k:Nat)(v1 v6 r2:Q)(Fa:Q)(b3 pH alM:Option (Nat×List Q))(tm:Nat->Q)(m:Mem)
  (ay:tm 1=v1) (bK:tm 6=v6) (bH:tm 7=r2) (eb:tm 8=.I (.int .i64 k)) (dr:tm 9=.I (.int .i64 0)) (nN:tm 37=Fa) (IH:tm 40=.I (.X (l.map ca))) (II:tm 41=.I (.int .i64 (D l))) (IJ:tm 42=.I (.int .i64 0)) (cU:m 249002=b3) (ll:m 249007=pH) (oy:m 249035=alM)
  (dN:∀tm' m',tm' 1=v1->tm' 6=v6->tm' 7=r2->tm' 8=.I (.int .i64 k)->tm' 9=.I (.int .i64 (gV l k))->tm' 37=Fa->m' 249002=b3->m' 249007=pH->m' 249035=alM->cB T K kk (.exit 2) ⟨tm',m'⟩) :
  wp T (ES.body.sub [1,1,1,1,0,1,0,0,1,1,0,0,1,1,0,1,0]) (cB T K kk) ⟨tm,m⟩:=by
 simp only[ES,eA.sub];have ae:=λt=>av.cs.sum (λc=>c.2.2.1=(k:Int)) t;have hlen:=av.len;refine dm [1,6,7,8,37,40,41] [249002,249007,249035] (λ(t:Nat) tm m=>t<=D l/\tm 42=.I (.int .i64 t)/\tm 9=.I (.int .i64 (gV (l.take t) k))) (λt=>D l-t) 0 (by refine⟨by omega,IJ,dr⟩) ?_;intro vs ms aR aN;simp only[go_sem,go_sem_proc,ay,bK,bH,eb,nN,IH,II,cU,ll,oy] at aR aN;subst aR aN;clear ay bK bH eb dr nN IH II IJ cU ll oy tm m;rintro t tm m M hm ⟨bA,IJ,dr⟩;simp only[go_sem,go_sem_proc,a6] at M hm;obtain⟨ay,bK,bH,eb,nN,IH,II⟩:=M;obtain⟨cU,ll,oy⟩:=hm;rcases dv (t<D l) with az|b2
 ·have d1:decide ((t:Int)<(D l:Int))=true:=dj;have bO:=eZ (i:=t) (by omega);obtain⟨⟨aI,c2,c3,c4⟩,O⟩:∃c,l[t]?=some c:=⟨_,bu az⟩
  have dy:gV (l.take (t+1)) k=gV (l.take t) k+if c3=(k:Int) then c4 else 0:=by
   unfold gV;rw[axH O]
  have E:=ae t;have H:=ae (t+1);have afO:gV (l.take t) k=cK (l.take t) λc=>if c.2.2.1=(k:Int) then c.2.2.2 else 0:=rfl;have aBc:gV (l.take (t+1)) k=cK (l.take (t+1)) λc=>if c.2.2.1=(k:Int) then c.2.2.2 else 0:=rfl;rw[<-afO] at E;rw[<-aBc] at H;rcases q:(c3==(k:Int))
  ·rw[ag (by have:=ne_of_beq_false q;omega),Int.add_zero] at dy;refine aY ?_;repeat' (intro h<;>simp only[h,go_sem,go_sem_proc,ay,bK,bH,eb,dr,nN,IH,II,IJ,cU,ll,oy,O,d1,bO,q,ca,ai,bh]<;>try refine ax ?_ ?_)
   exact⟨t+1,by omega,by omega,rfl,by rw[dy]⟩
  ·rw[ab (by have:=eq_of_beq q;omega)] at dy;have MO:IntKind.i64.wrap (gV (l.take t) k+c4)=gV (l.take (t+1)) k:=by rw[dy,wrap64 _ (by omega) (by omega)]
   refine aY ?_;repeat' (intro h<;>simp only[h,go_sem,go_sem_proc,ay,bK,bH,eb,dr,nN,IH,II,IJ,cU,ll,oy,O,d1,bO,q,MO,ca,ai,bh]<;>try refine ax ?_ ?_)
   exact⟨t+1,by omega,by omega,rfl,rfl⟩
 ·have d1:decide ((t:Int)<(D l:Int))=false:=c5;rw[dx (by omega)] at dr;refine aY ?_;repeat' (intro h<;>simp only[h,go_sem,go_sem_proc,ay,bK,bH,eb,dr,nN,IH,II,IJ,d1]<;>try refine ax ?_ ?_)
  refine dN _ _ ?_ ?_ ?_ ?_ ?_ ?_ cU ll oy<;>simp only[e7,dW,if_false,ay,bK,bH,eb,dr,nN]
def lT (l:List aw)(x:Rat)(k t j:Nat):Option bg:=if (l.getD j jh).2.2.1<(k:Int)\/((l.getD j jh).2.2.1=(k:Int)/\j<t) then some (EX l x j) else none
theorem aBd (l:List aw)(h:ky l)(x:Rat):(bD (D l) λj=>lT l x 0 0 j)=bD (D l) λ_=>none:=kX λj ah=>by
 have:=(h.c _ (eg (bu ah))).2.2.2.2.1;have e:l.getD j jh=l[j]:=by rw[dZ,bu ah];rfl
 unfold lT;rw[e,ag (by omega)]
theorem aBe (l:List aw)(x:Rat)(k:Nat):(bD (D l) λj=>lT l x k (D l) j)=bD (D l) λj=>lT l x (k+1) 0 j:=kX λj ah=>by
 unfold lT
 by_cases h:(l.getD j jh).2.2.1<((k+1:Nat):Int)
 ·rw[ab (by omega),ab (.inl h)]
 ·rw[ag (by omega),ag (by omega)]
theorem aBf (l:List aw)(h:ky l)(x:Rat):(bD (D l) λj=>lT l x 10 0 j)=bD (D l) λj=>some (EX l x j):=kX λj ah=>by
 have:=(h.c _ (eg (bu ah))).2.2.2.2.2.1;have e:l.getD j jh=l[j]:=by rw[dZ,bu ah];rfl
 unfold lT;rw[e,ab (.inl (by omega))]
theorem M0 {n:Int}(h:dA n):HY [.int .i64 n]=some (.same (.agg (aG (aq (n:Rat))))):=axJ n h
theorem aBg (T:bb)(mY:T vt=aV HY)(mc:T wK=aV yw)(pA:T DJ=aV Ep){K:eY->ba->Prop}{kk:List gD}(l:List aw)(x:Rat)(jI:H6 l x)(k:Nat)(bN lu:Nat)(v1 Fa:Q)(b3:Option (Nat×List Q))(tm:Nat->Q)(m:Mem)
  (ay:tm 1=v1) (bK:tm 6=.ref 249035 bN 4 0 (D l)) (bH:tm 7=.ptr 249007 lu 0) (eb:tm 8=.I (.int .i64 k)) (dr:tm 9=.I (.int .i64 (gV l k))) (eh:tm 12=.I (.bool (decide (((gV l k:Int):Rat)<=hg l x k)))) (nN:tm 37=Fa) (kA:tm 60=.I (.X (l.map ca))) (tb:tm 61=.I (.int .i64 (D l))) (Fb:tm 62=.I (.int .i64 0)) (cU:m 249002=b3) (ll:m 249007=some (lu,(aG (aq (hg l x k))).map .I)) (oy:m 249035=some (bN,mi qZ (bD (D l) λj=>lT l x k 0 j)))
  (dN:∀tm' m',tm' 1=v1->tm' 6=.ref 249035 bN 4 0 (D l)->tm' 7=.ptr 249007 lu 0->tm' 9=.I (.int .i64 (gV l k))->tm' 12=.I (.bool (decide (((gV l k:Int):Rat)<=hg l x k)))->tm' 37=Fa->m' 249002=b3->m' 249007=some (lu,(aG (aq (hg l x k))).map .I)->m' 249035=some (bN,mi qZ (bD (D l) λj=>lT l x (k+1) 0 j))->cB T K kk (.exit 4) ⟨tm',m'⟩) :
  wp T (ES.body.sub [1,1,1,1,0,1,0,0,1,1,0,0,1,1,1,1,0,1,0]) (cB T K kk) ⟨tm,m⟩:=by
 simp only[ES,eA.sub];have how:=jI.own;have hlen:=how.len;refine dm [1,6,7,8,9,12,37,60,61] [249002,249007] (λ(t:Nat) tm m=>t<=D l/\tm 62=.I (.int .i64 t)/\m 249035=some (bN,mi qZ (bD (D l) λj=>lT l x k t j))) (λt=>D l-t) 0 (by refine⟨by omega,Fb,oy⟩) ?_;intro vs ms aR aN;simp only[go_sem,go_sem_proc,ay,bK,bH,eb,dr,eh,nN,kA,tb,cU,ll] at aR aN;subst aR aN;clear ay bK bH eb dr eh nN kA tb Fb cU ll oy tm m;rintro t tm m M hm ⟨bA,Fb,oy⟩;simp only[go_sem,go_sem_proc,a6] at M hm;obtain⟨ay,bK,bH,eb,dr,eh,nN,kA,tb⟩:=M;obtain⟨cU,ll⟩:=hm;rcases dv (t<D l) with az|b2
 ·have d1:decide ((t:Int)<(D l:Int))=true:=dj;have bO:=eZ (i:=t) (by omega);obtain⟨⟨aI,c2,c3,c4⟩,O⟩:∃c,l[t]?=some c:=⟨_,bu az⟩;have fx:=eg O;have lZ:=how.c _ fx;dsimp only at lZ;have wy:l.getD t jh=(aI,c2,c3,c4):=by rw[dZ,O];rfl
  have M3:=aac (q:=λj=>lT l x k t j) az;rcases q:(c3==(k:Int))
  ·have bI:c3≠(k:Int):=ne_of_beq_false q
   have hW:(bD (D l) λj=>lT l x k (t+1) j)=bD (D l) λj=>lT l x k t j:=kX λj _=>by
    unfold lT
    by_cases ah:j=t
    ·subst ah;rw[wy];dsimp only
     by_cases E:c3<(k:Int)
     ·rw[ab (.inl E),ab (.inl E)]
     ·rw[ag (by omega),ag (by omega)]
    ·by_cases E:(l.getD j jh).2.2.1<(k:Int)\/((l.getD j jh).2.2.1=(k:Int)/\j<t)
     ·rw[ab E,ab (by omega)]
     ·rw[ag E,ag (by omega)]
   refine aY ?_;repeat' (intro h<;>simp only[h,go_sem,go_sem_proc,ay,bK,bH,eb,dr,eh,nN,kA,tb,Fb,cU,ll,O,d1,bO,q,ca,bne,du,ai,bh]<;>try refine ax ?_ ?_)
   exact⟨t+1,by omega,by omega,rfl,by rw[hW];exact oy⟩
  ·have abj:c3=(k:Int):=eq_of_beq q;have mT:=λa b c d=>aad (q:=λj=>lT l x k t j) az a b c d
   have vf:∀aS:bg,aS=EX l x t->(bD (D l) λj=>if j=t then some aS else lT l x k t j)=bD (D l) λj=>lT l x k (t+1) j:=by
    intro aS fa;refine kX λj _=>?_
    by_cases ah:j=t
    ·subst ah;rw[ab rfl];unfold lT;rw[wy,ab (.inr ⟨abj,by omega⟩),fa]
    ·rw[ag ah];unfold lT
     by_cases E:(l.getD j jh).2.2.1<(k:Int)\/((l.getD j jh).2.2.1=(k:Int)/\j<t)
     ·rw[ab E,ab (by omega)]
     ·rw[ag E,ag (by omega)]
   have R8:EX l x t=aq (eG l x (aI,c2,c3,c4)):=by unfold EX;rw[wy]
   have alN:dA c4:=o3 (by omega) (by omega);have R9:=M0 alN;rcases dd:decide (((gV l k:Int):Rat)<=hg l x k)
   ·have aBh:=of_decide_eq_false dd;have aBi:=how.abg k;have IK:dA (gV l k):=o3 (by omega) (by omega);have Fc:=M0 IK;have CR:=alL jI k;have Fe:ec 54 ((c4:Int):Rat):=Aw (by omega);have IL:ec 54 ((gV l k:Int):Rat):=Aw (by omega);have aBj:((gV l k:Int):Rat)≠0:=by have:=aA2 l x k;grind
    have f1:=ajK (qb alN) (iU CR (by omega)) (ZF Fe CR (by omega));have f2:=ayb (iU (Mm Fe CR) (by omega)) (qb IK) aBj (aiz (Mm Fe CR) IL (by omega));have mW:=aA7 how fx abj aBh;dsimp only at mW;have aBk:=λa b c d=>aad (q:=λj=>if j=t then some ((a,b),(c,d)) else lT l x k t j) az;have aBl:=λa b c d=>aac (q:=λj=>if j=t then some ((a,b),(c,d)) else lT l x k t j) az;have aH:=vf (aq (((c4:Int):Rat)*hg l x k/((gV l k:Int):Rat))) (by rw[R8,mW])
    have aBm:∀aS alO:bg,(bD (D l) λj=>if j=t then some aS else if j=t then some alO else lT l x k t j)=bD (D l) λj=>if j=t then some aS else lT l x k t j:=λaS alO=>kX λj _=>by
     by_cases ah:j=t
     ·rw[ab ah,ab ah]
     ·rw[ag ah,ag ah,ag ah]
    clear CR Fe IL;generalize aq (((c4:Int):Rat)*hg l x k/((gV l k:Int):Rat))=G1 at *;generalize aq (((c4:Int):Rat)*hg l x k)=G2 at *;generalize aq ((gV l k:Int):Rat)=G3 at *;generalize abk:aq (hg l x k)=G4 at *;generalize aq ((c4:Int):Rat)=G5 at *;obtain⟨⟨cE,ck⟩,⟨hj,kg⟩⟩:=G1;obtain⟨⟨E,H⟩,⟨af,aP⟩⟩:=G2;obtain⟨⟨i1,i2⟩,⟨i3,i4⟩⟩:=G3;obtain⟨⟨CS,x6⟩,⟨aBn,Qp⟩⟩:=G4;obtain⟨⟨iw,jr⟩,⟨tc,sL⟩⟩:=G5;simp only[aG,eC,cS] at R9 Fc f1 f2 ll;have dy:=mT iw jr tc sL;have Rb:=aBk iw jr tc sL cE ck hj kg;have aBo:=aBl iw jr tc sL;rw[aBm,aH] at Rb;refine aY ?_;repeat' (intro h<;>simp only[h,go_sem,go_sem_proc,mY,mc,pA,ay,bK,bH,eb,dr,eh,nN,kA,tb,Fb,cU,ll,oy,O,d1,bO,az,q,dd,R9,Fc,f1,f2,M3,aBo,dy,Rb,ca,ai,bh,bne,beq_self_eq_true,cP,du]<;>try refine ax ?_ ?_)
    exact⟨t+1,by omega,rfl,by omega,rfl,rfl⟩
   ·have mW:=aA6 how fx abj (of_decide_eq_true dd);dsimp only at mW;have aH:=vf (aq ((c4:Int):Rat)) (by rw[R8,mW]);generalize aq ((c4:Int):Rat)=G5 at *;obtain⟨⟨iw,jr⟩,⟨tc,sL⟩⟩:=G5;simp only[aG] at R9;have dy:=mT iw jr tc sL;rw[aH] at dy;refine aY ?_;repeat' (intro h<;>simp only[h,go_sem,go_sem_proc,mY,ay,bK,bH,eb,dr,eh,nN,kA,tb,Fb,cU,ll,oy,O,d1,bO,az,q,dd,R9,M3,dy,ca,ai,bh,bne,beq_self_eq_true,cP,du]<;>try refine ax ?_ ?_)
    exact⟨t+1,by omega,by omega,rfl,rfl⟩
 ·have d1:decide ((t:Int)<(D l:Int))=false:=c5;obtain rfl:t=D l:=by omega
  rw[aBe] at oy;refine aY ?_;repeat' (intro h<;>simp only[h,go_sem,go_sem_proc,ay,bK,bH,eb,dr,eh,nN,kA,tb,Fb,d1]<;>try refine ax ?_ ?_)
  refine dN _ _ ?_ ?_ ?_ ?_ ?_ ?_ cU ll oy<;>simp only[e7,dW,if_false,ay,bK,bH,dr,eh,nN]
abbrev abl:Rat×(List aw)->List Data:=λ(x,l)=>[.agg (aG (aq x)),.X (l.map ca)]
def Sa:=cj abl λ(x,l)=>cN (H6 l x) (.same (.cH [.X ((l.map λc=>aq (eG l x c)).map aG),.int .i64 0]))
theorem aBp:∀a b,abl a=abl b->a=b:=by
  rintro⟨a7,en⟩ ⟨b3,al⟩ h;simp only[a6,Data.X.injEq,Data.agg.injEq,and_true] at h;exact dQ (ub (nb _ _ h.1)) (map_inj rU _ _ h.2)
@[go_sem] theorem alP (x:Rat)(l:List aw)(G:H6 l x):Sa [.agg (aG (aq x)),.X (l.map ca)]=some (.same (.cH [.X ((l.map λc=>aq (eG l x c)).map aG),.int .i64 0])):=(cu aBp (x,l)).trans (cT G _)
theorem aBq (T:bb)(fI:T l5=aV vK)(cW:T lF=aV sG)(mY:T vt=aV HY)(o7:T Kx=aV R7)(mc:T wK=aV yw)(pA:T DJ=aV Ep)(eW:T vm=aV w8)(x:Rat)(l:List aw)(G:H6 l x):WP T ES (.same (.cH [.X ((l.map λc=>aq (eG l x c)).map aG),.int .i64 0])) [.I (.agg (aG (aq x))),.I (.X (l.map ca))]:=by
 refine cv ?_;simp only[ES];have hH:=G;obtain⟨how,rI,Bo⟩:=G;have kV:=iU Bo (by omega);have hlen:=how.len;have aBr:=HW kV;have R6:=yR kV (qb EW);have aBs:decide (j9 x ((0:Int):Rat)<0)=false:=by rw[H4];exact mo (by have:((0:Int):Rat)=0:=rfl;grind)
 have bL:=kS kV;have jI:=ayx l x;have f0:=M0 EW;have pV:=aA3 how rI;have gH:=aBd l how x;have aW:=aj1 (D l);rw[<-gH] at aW;have x8:(64*D l<=140737488355328)=True:=eq_true (by omega);have Cs:(D l<=maxLen)=True:=eq_true (by unfold maxLen;omega);generalize fa:aq x=aS at *;generalize MJ:aq ((0:Int):Rat)=Z at *;obtain⟨⟨cQ,de⟩,⟨ep,fe⟩⟩:=aS;obtain⟨⟨jN,kO⟩,⟨uO,AG⟩⟩:=Z;simp only[aG] at f0 R6;simp only[go_sem,go_sem_proc,fI,cW,mY,o7,mc,pA,eW,aG,aBr,bL.1,bL.2,f0,R6,aBs,how,x8,Cs,aW,ai,cP,du];refine dm [1,6,7] [249002] (λ(k:Nat) tm m=>k<=10/\tm 37=.I (.int .i64 k)/\m 249007=some (0,(aG (aq (hg l x k))).map .I)/\m 249035=some (0,mi qZ (bD (D l) λj=>lT l x k 0 j))) (λk=>10-k) 0 (by refine⟨by omega,rfl,by rw[pV,fa];rfl,rfl⟩) ?_;intro vs ms aR aN;simp only[go_sem,go_sem_proc,fI,cW,mY,o7,mc,pA,eW,aG,ai] at aR aN;subst aR aN;rintro k tm m M hm ⟨aMu,nN,ll,oy⟩;simp only[go_sem,go_sem_proc,fI,cW,mY,o7,mc,pA,eW,a6] at M hm;obtain⟨ay,bK,bH⟩:=M;rcases dv (k<10) with az|b2
 ·have d1:decide ((k:Int)<10)=true:=dj;have bO:=eZ (i:=k) (by omega);simp only[go_sem,go_sem_proc,fI,cW,mY,o7,mc,pA,eW,ay,bK,bH,nN,hm,d1,ai];refine aBb T l how k (.I (.X (l.map ca))) (.ref 249035 0 4 0 (D l)) (.ptr 249007 0 0) (.I (.int .i64 k)) _ (some (0,(aG (aq (hg l x k))).map .I)) (some (0,mi qZ (bD (D l) λj=>lT l x k 0 j))) _ _ ?_ ?_ ?_ ?_ ?_ ?_ ?_ ?_ ?_ hm ll oy ?_
  all_goals first|(intro tm' m' b6 iF h2 h1 m9 alQ fb qe alR)|(simp only[e7,dW,if_false,if_true,ay,bK,bH,nN];done)
  have aBi:=how.abg k;have IK:dA (gV l k):=o3 (by omega) (by omega);have Fc:=M0 IK;have CR:=alL hH k;have Cb:=iU CR (by omega);have IL:ec 54 ((gV l k:Int):Rat):=Aw (by omega);have fu:=yR Cb (qb IK);have BS:decide (j9 (hg l x k) ((gV l k:Int):Rat)>=0)=decide (((gV l k:Int):Rat)<=hg l x k):=ajM;have j4:=Z5 Cb (qb IK) (EM CR (HS IL) (by omega));have alS:=λ(K:eY->ba->Prop) (kk:List gD) bN lu v1 Fa b3 tm m=>aBg T mY mc pA (K:=K) (kk:=kk) l x hH k bN lu v1 Fa b3 tm m;have ZE:((gV l k:Int):Rat)<=hg l x k->aq (hg l x (k+1))=aq (hg l x k-((gV l k:Int):Rat)):=λh=>by rw[aA4 how h]
  have gq:¬ ((gV l k:Int):Rat)<=hg l x k->aq (hg l x (k+1))=((jN,kO),(uO,AG)):=λh=>by rw[aA5 h,<-MJ];rfl
  generalize aq (hg l x k-((gV l k:Int):Rat))=G1 at *;generalize aMv:aq (hg l x k)=G2 at *;generalize aq ((gV l k:Int):Rat)=G3 at *;generalize abk:aq (hg l x (k+1))=G4 at *;obtain⟨⟨cE,ck⟩,⟨hj,kg⟩⟩:=G1;obtain⟨⟨E,H⟩,⟨af,aP⟩⟩:=G2;obtain⟨⟨i1,i2⟩,⟨i3,i4⟩⟩:=G3;simp only[aG,eC,cS] at Fc fu j4 qe;simp only[go_sem,go_sem_proc,fI,cW,mY,o7,mc,pA,eW,b6,iF,h2,h1,m9,alQ,fb,qe,alR,Fc,fu,BS,ai];refine alS _ _ 0 0 (.I (.X (l.map ca))) (.I (.int .i64 k)) _ _ _ ?_ ?_ ?_ ?_ ?_ ?_ ?_ ?_ ?_ ?_ fb ?_ alR ?_
  all_goals first|(intro MT cU CS Ci Sb Sc IM Sd et xB Se)|(simp only[e7,dW,if_false,if_true,b6,iF,h2,h1,m9,alQ];done)|(rw[qe];rfl)
  simp only[aG,eC,cS] at xB;clear alS;rcases q:decide (((gV l k:Int):Rat)<=hg l x k)
  ·have he:=gq (of_decide_eq_false q);rw[q] at IM;simp only[go_sem,go_sem_proc,fI,cW,mY,o7,mc,pA,eW,CS,Ci,Sb,Sc,IM,Sd,et,xB,Se,f0,bO,du,cP];repeat' (first|refine ax ?_ ?_|fail)<;>intro h<;>simp only[h,go_sem,go_sem_proc,fI,cW,mY,o7,mc,pA,eW,CS,Ci,Sb,Sc,IM,Sd,et,xB,Se,f0,bO,du,cP]
   exact⟨k+1,by omega,by omega,rfl,by rw[abk,he];rfl,rfl⟩
  ·have he:=ZE (of_decide_eq_true q);rw[q] at IM;simp only[go_sem,go_sem_proc,fI,cW,mY,o7,mc,pA,eW,CS,Ci,Sb,Sc,IM,Sd,et,xB,Se,Fc,j4,bO,bne,beq_self_eq_true,du,cP];repeat' (first|refine ax ?_ ?_|fail)<;>intro h<;>simp only[h,go_sem,go_sem_proc,fI,cW,mY,o7,mc,pA,eW,CS,Ci,Sb,Sc,IM,Sd,et,xB,Se,Fc,j4,bO,bne,beq_self_eq_true,du,cP]
   exact⟨k+1,by omega,by omega,rfl,by rw[abk,he];rfl,rfl⟩
 ·have d1:decide ((k:Int)<10)=false:=c5;obtain rfl:k=10:=by omega
  rw[aBf l how x,jI,aj3] at oy;have kl:=λ(K:ba->Prop) (st:ba)=>mJ (K:=K) (st:=st) nA 6 249035 0 (l.map λc=>aq (eG l x c));rw[ai] at kl;simp only[go_sem,go_sem_proc,fI,cW,mY,o7,mc,pA,eW,ay,bK,bH,nN,hm,d1,oy,kl,ai];repeat' (first|refine ax ?_ ?_|fail)<;>intro h<;>simp only[h,go_sem,go_sem_proc,fI,cW,mY,o7,mc,pA,eW,ay,bK,bH,nN,hm,d1,oy,kl,ai]
theorem Sf {fR g9 n:Nat}(key:Nat->Nat)(tS:Nat->Q)(Sg:∀i,i<n->key i≠fR)(Df:∀i j,i<n->j<n->key i=key j->i=j):∀r d (q:Nat->Q) (m:Mem),d+r=n->m fR=some (g9,bD n q)->(∀i,i<d->q i=tS i) ->
  (∀i,d<=i->i<n->q i=tS i\/∃g sz len cs x,q i=.ref (key i) g sz 0 len/\m (key i)=some (g,cs)/\(∀cU:Mem,cU (key i)=some (g,cs)->cy 1 cU (.ref (key i) g sz 0 len)=some x)/\tS i=.I x) ->
  ∃m',tj m m'/\m' fR=some (g9,bD n tS)/\∀k:Nat,k≠fR->(∀i,i<n->k≠key i)->m' k=m k
 |0,d,q,m,Y,E,H,_=>⟨m,.refl m,by rw[E,kX λi J=>H i (by omega)],λ_ _ _=>rfl⟩
 |r+1,d,q,m,Y,E,H,af=>by
  rcases af d (bX _) (by omega) with he|⟨g,sz,len,cs,x,ay,aB,bG,dp⟩
  ·obtain⟨m',b6,dd,ey⟩:=Sf key tS Sg Df r (d+1) q m (by omega) E (λi J=>by
    by_cases k2:i=d
    ·rw[k2];exact he
    ·exact H i (by omega)) λi J ct=>af i (by omega) ct
   exact⟨m',b6,dd,ey⟩
  ·have kv:d<n:=by omega
   have fO:(bD n q)[d]?=some (.ref (key d) g sz 0 len):=by rw[jg q kv,ay]
   have rl:=sd.NS fR g9 _ d (key d) g sz 0 len cs x E fO aB (Sg d kv) (bG m aB);have lC:a1 (kill m (key d)) fR g9 ((bD n q).set d (.I x)) fR=some (g9,bD n λj=>if j=d then .I x else q j):=by rw[iI,Ax]
   obtain⟨m',b6,dd,ey⟩:=Sf key tS Sg Df r (d+1) (λj=>if j=d then .I x else q j) _ (by omega) lC (λi J=>by
    by_cases k2:i=d
    ·rw[ab k2,k2,dp]
    ·rw[ag k2];exact H i (by omega)) λi J ct=>by
     rw[ag (by omega)];rcases af i (by omega) ct with he|⟨c0,ev,Tn,nm,jq,f1,f2,f3,f4⟩
     ·exact .inl he
     ·refine .inr ⟨c0,ev,Tn,nm,jq,f1,?_,f3,f4⟩;rw[dn (Sg i ct)];unfold kill;rw[dn λaT=>by have:=Df i d ct kv aT;omega]
      exact f2
   refine⟨m',.step rl b6,dd,λk M pg=>?_⟩;rw[ey k M pg,dn M];unfold kill;rw[dn (pg d kv)]
def gm (l:List aw)(i:Nat):List Nat:=(dU (D l)).filter λj=>(l.getD j jh).1==(i:Int)
theorem abm (l:List aw)(c:aw)(i:Nat):gm (l++[c]) i=if c.1=(i:Int) then gm l i++[D l] else gm l i:=by
 unfold gm;have ay:(l++[c]).getD (D l) jh=c:=by rw[dZ,ri (bX _),my];rfl
 have aB:(dU (D l)).filter (λj=>((l++[c]).getD j jh).1==(i:Int))=(dU (D l)).filter λj=>(l.getD j jh).1==(i:Int):=List.filter_congr λj ah=>by
  rw[dZ,qq (g2.1 ah),<-dZ]
 rw[fQ,Cg,oo,rV,aB]
 by_cases h:c.1=(i:Int)
 ·rw[ab h,v7 (by rw[ay];simpa using h),qa]
 ·rw[ag h,xq (by rw[ay];simpa using h),qa,fG]
theorem abn {l:List aw}{i j:Nat}:j∈gm l i↔j<D l/\(l.getD j jh).1=(i:Int):=by
 unfold gm;rw[sY,g2,beq_iff_eq]
theorem abo (l:List aw)(c:aw)(i:Nat):cG (l++[c]) i=if c.1=(i:Int) then cG l i++[c] else cG l i:=by
 unfold cG;rw[rV]
 by_cases h:c.1=(i:Int)
 ·rw[ab h,v7 (by simpa using h),qa]
 ·rw[ag h,xq (by simpa using h),qa,fG]
theorem alT (l:List aw)(i:Nat):cG l i=(gm l i).map λj=>l.getD j jh:=by
 have:∀n (l:List aw),D l=n->cG l i=(gm l i).map λj=>l.getD j jh:=by
  intro n
  induction n with
  |zero =>
   intro l av;have:l=[]:=CT.1 av;subst this;rfl
  |succ n aA =>
   intro l av;rcases Bu l with ao|⟨fS,c,rfl⟩
   ·subst ao;cases av
   ·rw[Bv] at *;simp only[fQ,Cg] at av;have ay:(fS++[c]).getD (D fS) jh=c:=by rw[dZ,ri (bX _),my];rfl
    have aB:(gm fS i).map (λj=>(fS++[c]).getD j jh)=(gm fS i).map λj=>fS.getD j jh:=m3 λj ah=>by
     rw[dZ,qq (abn.1 ah).1,<-dZ]
    rw[abo,abm]
    by_cases h:c.1=(i:Int)
    ·rw[ab h,ab h,kT,aB,aA fS (by omega)];show _=_++[(fS++[c]).getD (D fS) jh];rw[ay]
    ·rw[ag h,ag h,aB,aA fS (by omega)]
 exact this _ l rfl
theorem Sh (l:List aw)(i:Nat):(gm l i).length=(cG l i).length:=by rw[alT,ai]
theorem aBt (l:List aw)(i:Nat):(gm l i).length<=D l:=by
 unfold gm;exact eQ (om _ _) (by rw[sn];exact bX _)
def l0 (l:List aw)(gc:Nat->Nat)(i:Nat):Q:=if cG l i=[] then .nil else .ref (233600+i) (gc i) 4 0 (cG l i).length
def pp (l:List aw)(gS:Nat->Nat)(i:Nat):Q:=if cG l i=[] then .nil else .ref (233700+i) (gS i) 1 0 (cG l i).length
structure IP (n:Nat) (l:List aw) (gc gS:Nat->Nat) (m:Mem):Prop where
 e8:m 233019=some (0,bD n (l0 l gc))
 et:m 233022=some (0,bD n (pp l gS))
 b6:∀i,i<n->cG l i≠[]->m (233600+i)=some (gc i,a8 ca (cG l i))
 dd:∀i,i<n->cG l i≠[]->m (233700+i)=some (gS i,a8 iG (gm l i))
theorem IP.next {n:Nat}{l:List aw}{gc gS:Nat->Nat}{m m':Mem}(h:IP n l gc gS m)(aH:n<=6){aI:Nat}{c2 c3 c4:Int}(cE ck:Nat)
  (E:m' 233019=some (0,bD n λi=>if i=aI then .ref (233600+aI) cE 4 0 ((cG l aI).length+1) else l0 l gc i)) (H:m' 233022=some (0,bD n λi=>if i=aI then .ref (233700+aI) ck 1 0 ((cG l aI).length+1) else pp l gS i))
  (af:m' (233600+aI)=some (cE,a8 ca (cG l aI++[((aI:Int),c2,c3,c4)]))) (aP:m' (233700+aI)=some (ck,a8 iG (gm l aI++[D l])))
  (bL:∀i,i<n->i≠aI->m' (233600+i)=m (233600+i)/\m' (233700+i)=m (233700+i)):IP n (l++[((aI:Int),c2,c3,c4)]) (λi=>if i=aI then cE else gc i) (λi=>if i=aI then ck else gS i) m':=by
 have Si:∀i:Nat,i≠aI->cG (l++[((aI:Int),c2,c3,c4)]) i=cG l i:=λi J=>by rw[abo,ag (by show ¬ ((aI:Int)=(i:Int));omega)]
 have O9:∀i:Nat,i≠aI->gm (l++[((aI:Int),c2,c3,c4)]) i=gm l i:=λi J=>by rw[abm,ag (by show ¬ ((aI:Int)=(i:Int));omega)]
 have so:cG (l++[((aI:Int),c2,c3,c4)]) aI=cG l aI++[((aI:Int),c2,c3,c4)]:=by rw[abo,ab rfl]
 have sp:gm (l++[((aI:Int),c2,c3,c4)]) aI=gm l aI++[D l]:=by rw[abm,ab rfl]
 refine⟨?_,?_,λi J bI=>?_,λi J bI=>?_⟩
 ·rw[E]
  congr 2
  refine kX λi J=>?_;unfold l0
  by_cases G:i=aI
  ·subst G;rw[so,ab rfl,ag (by simp),fQ];dsimp only;rw[ab rfl];rfl
  ·rw[Si i G,ag G];dsimp only;rw[ag G]
 ·rw[H]
  congr 2
  refine kX λi J=>?_;unfold pp
  by_cases G:i=aI
  ·subst G;rw[so,ab rfl,ag (by simp),fQ];dsimp only;rw[ab rfl];rfl
  ·rw[Si i G,ag G];dsimp only;rw[ag G]
 ·by_cases G:i=aI
  ·subst G;rw[ab rfl,so];exact af
  ·rw[Si i G] at bI ⊢;rw[ag G,(bL i J G).1];exact h.b6 i J bI
 ·by_cases G:i=aI
  ·subst G;rw[ab rfl,sp];exact aP
  ·rw[Si i G] at bI;rw[O9 i G,ag G,(bL i J G).2];exact h.dd i J bI
structure CU (cs:List aw) (h:List Rat):Prop where
 len:(D cs)<=12
 n:(D h)<=6
 c:∀c∈cs,0<=c.1/\c.1<(D h) /\ -1<=c.2.1/\c.2.1<60/\0<=c.2.2.1/\c.2.2.1<10/\0<=c.2.2.2/\c.2.2.2<=1000000000000000
 x:∀x∈h,0<=x/\ec 460 x
theorem aBu {K:ba->Prop}{tm:Nat->Q}{mem JG mem':Mem}(h:sd mem JG)(H:sd JG mem')(dN:∀bd,bd=mem'->K ⟨tm,bd⟩):ly K ⟨tm,mem⟩ .many:=⟨mem',.step h (.step H (.refl _)),dN _ rfl⟩
theorem aBv (T:bb){K:eY->ba->Prop}{kk:List gD}(cs:List aw)(h:List Rat)(aF:CU cs h)(v1:Q)(tm:Nat->Q)(m:Mem)
  (bm:tm 0=.I (.X (cs.map ca))) (ay:tm 1=v1) (bK:tm 6=.ref 233019 0 1 0 (D h)) (bH:tm 7=.ref 233022 0 1 0 (D h)) (xC:tm 23=.I (.X (cs.map ca))) (xD:tm 24=.I (.int .i64 (D cs))) (hq:tm 25=.I (.int .i64 0)) (jk:m 233057=none) (gc gS:Nat->Nat) (cg:IP (D h) [] gc gS m)
  (dN:∀tm' m' JH Rg,tm' 0=.I (.X (cs.map ca))->tm' 1=v1->tm' 6=.ref 233019 0 1 0 (D h)->tm' 7=.ref 233022 0 1 0 (D h)->m' 233057=none->IP (D h) cs JH Rg m'->cB T K kk (.exit 0) ⟨tm',m'⟩) :
  wp T (Et.body.sub [1,1,1,0,1,0]) (cB T K kk) ⟨tm,m⟩:=by
 simp only[Et,eA.sub];have aH:=aF.n;have jb:=aF.len;refine dm [0,1,6,7,23,24] [233057] (λ((t,gc,gS):Nat×(Nat->Nat)×(Nat->Nat)) tm m=>t<=D cs/\tm 25=.I (.int .i64 t)/\IP (D h) (cs.take t) gc gS m) (λ(t,_)=>D cs-t) (0,gc,gS) (by refine⟨by omega,hq,by rw[mH];exact cg⟩) ?_;intro vs ms aR aN;simp only[go_sem,go_sem_proc,bm,ay,bK,bH,xC,xD,jk] at aR aN;subst aR aN;clear bm ay bK bH xC xD hq jk cg tm m;rintro⟨t,gc,gS⟩ tm m M jk ⟨bA,hq,cg⟩;simp only[go_sem,go_sem_proc,a6] at M jk;obtain⟨bm,ay,bK,bH,xC,xD⟩:=M;rcases dv (t<D cs) with az|b2
 ·have d1:decide ((t:Int)<(D cs:Int))=true:=dj;have bO:=eZ (i:=t) (by omega);obtain⟨⟨aI,c2,c3,c4⟩,O⟩:∃c,cs[t]?=some c:=⟨_,bu az⟩;have lY:=aF.c _ (eg O);dsimp only at lY;obtain⟨aI,rfl⟩:∃k:Nat,aI=(k:Int):=⟨aI.toNat,by omega⟩
  have gN:cs.take (t+1)=cs.take t++[((aI:Int),c2,c3,c4)]:=by rw[hk,O];rfl
  have sS:(cs.take t).length=t:=by rw[gC];omega
  generalize av:cs.take t=l at *;have g0:aI<D h:=by omega
  have e8:=cg.e8;have et:=cg.et;have cE:=wg (jg (l0 l gc) g0);have ck:=wg (jg (pp l gS) g0);have iw:(bD (D h) (l0 l gc)).length=D h:=gT _ _;have jr:(bD (D h) (pp l gS)).length=D h:=gT _ _;have s1:=λv=>(RY (l:=bD (D h) (l0 l gc)) (k:=aI) (v:=v) (by rw[gT];exact g0)).trans (Ax (l0 l gc) v);have s2:=λv=>(RY (l:=bD (D h) (pp l gS)) (k:=aI) (v:=v) (by rw[gT];exact g0)).trans (Ax (pp l gS) v);have en:aI+1<=D h:=by omega
  have mz:(1<=maxLen)=True:=eq_true (by decide);have FU:(cG l aI).length<=12:=eQ (om _ _) (by omega);have nW:=Sh l aI;have Sj:∀i,i<(D h)->233600+i≠233009/\233600+i≠233019/\233600+i≠233022/\233600+i≠233043/\233600+i≠233051/\233600+i≠233700+aI/\233600+i≠233057:=λi J=>by omega
  have M4:∀i,i<(D h)->233700+i≠233009/\233700+i≠233019/\233700+i≠233022/\233700+i≠233043/\233700+i≠233051/\233700+i≠233600+aI/\233700+i≠233057:=λi J=>by omega
  by_cases hR:cG l aI=[]
  ·have abp:l0 l gc aI=.nil:=by unfold l0;rw[ab hR]
   have abq:pp l gS aI=.nil:=by unfold pp;rw[ab hR]
   have AJ:gm l aI=[]:=CT.1 (by rw[nW,hR];rfl);rw[abp] at cE;rw[abq] at ck;simp only[go_sem,go_sem_proc,mz,bm,ay,bK,bH,xC,xD,hq,O,e8,et,cE,ck,iw,jr,s1,s2,d1,en,g0,ca,cD,ai,bh];obtain⟨f11,f12,f13,f14,f15,f16,f17⟩:=Sj aI g0;obtain⟨f21,f22,f23,f24,f25,f26,f27⟩:=M4 aI g0
   refine aBu (sd.NR 233019 0 _ aI 233043 (gE (m 233043)) 4 0 1 _ (233600+aI) ((dn (by decide)).trans iI) ((jg _ g0).trans (by rw[ab rfl])) ((dn (by decide)).trans ((dn (by decide)).trans ((dn (by decide)).trans iI))) (by decide) f14 f12)
    (sd.NR 233022 0 _ aI 233051 (gE (m 233051)) 1 0 1 _ (233700+aI) ((dn (by decide)).trans ((dn (Ne.symm f13)).trans ((dn (by decide)).trans iI))) ((jg _ g0).trans (by rw[ab rfl])) ((dn (by decide)).trans ((dn (Ne.symm f15)).trans ((dn (by decide)).trans ((dn (by decide)).trans ((dn (by decide)).trans iI))))) (by decide) f25 f23) ?_
   intro M2 hc
   have nM:∀k:Nat,k≠233009->k≠233019->k≠233022->k≠233043->k≠233051->k≠233600+aI->k≠233700+aI->M2 k=m k:=λk jt wV sx alU alV aBw aBx=>by
    rw[hc,dn sx,dn aBx,dn alV,dn wV,dn aBw,dn alU,dn sx,dn wV,dn alV,dn alU,dn jt,dn jt]
   obtain⟨Sk,xk,EN⟩:∃Sk,M2 233019=some (0,bD (D h) λi=>if i=aI then .ref (233600+aI) Sk 4 0 ((cG l aI).length+1) else l0 l gc i)/\M2 (233600+aI)=some (Sk,a8 ca (cG l aI++[((aI:Int),c2,c3,c4)])):=by
    rw[hR];apply Exists.intro;apply And.intro
    rotate_left
    ·rw[hc,dn f13,dn f16,dn f15,dn f12,iI];rfl
    ·rw[hc,dn (by decide),dn (Ne.symm f22),dn (by decide),iI,Ax]
     congr 2
     refine kX λi _=>?_
     by_cases J:i=aI
     ·rw[ab J,ab J];rfl
     ·rw[ag J,ag J,ag J]
   obtain⟨Sl,M5,E3⟩:∃Sl,M2 233022=some (0,bD (D h) λi=>if i=aI then .ref (233700+aI) Sl 1 0 ((cG l aI).length+1) else pp l gS i)/\M2 (233700+aI)=some (Sl,a8 iG (gm l aI++[D l])):=by
    rw[hR,AJ,sS];apply Exists.intro;apply And.intro
    rotate_left
    ·rw[hc,dn f23,iI];rfl
    ·rw[hc,iI,Ax]
     congr 2
     refine kX λi _=>?_
     by_cases J:i=aI
     ·rw[ab J,ab J];rfl
     ·rw[ag J,ag J,ag J]
   have iM:=cg.next (m':=M2) aH Sk Sl xk M5 EN E3 λi J bI=>⟨by
    obtain⟨cQ,de,ep,fe,o2,s6,-⟩:=Sj i J;exact nM _ cQ de ep fe o2 (by omega) s6,by
    obtain⟨cQ,de,ep,fe,o2,s6,-⟩:=M4 i J;exact nM _ cQ de ep fe o2 s6 (by omega)⟩
   have M6:M2 233057=none:=(nM 233057 (by decide) (by decide) (by decide) (by decide) (by decide) (Ne.symm f17) (Ne.symm f27)).trans jk;clear hc nM xk EN M5 E3;simp only[go_sem,go_sem_proc,bm,ay,bK,bH,xC,xD,hq,bO,M6];repeat' (first|refine ax ?_ ?_|fail)<;>intro h<;>simp only[h,go_sem,go_sem_proc,bm,ay,bK,bH,xC,xD,hq,bO,M6]
   exact⟨(t+1,_,_),by dsimp only;omega,by dsimp only;omega,rfl,by rw[gN];exact iM⟩
  ·have abp:l0 l gc aI=.ref (233600+aI) (gc aI) 4 0 (cG l aI).length:=by unfold l0;rw[ag hR]
   have abq:pp l gS aI=.ref (233700+aI) (gS aI) 1 0 (gm l aI).length:=by unfold pp;rw[ag hR,nW]
   rw[abp] at cE;rw[abq] at ck;have b6:=cg.b6 aI g0 hR;have dd:=cg.dd aI g0 hR;have T6:=mI ET ZZ (233600+aI) (gc aI) 32 (cG l aI) ((aI:Int),c2,c3,c4) (cs:=[.I (.int .i64 aI),.I (.int .i64 c2),.I (.int .i64 c3),.I (.int .i64 c4)]) rfl (by omega) (by omega);have Ge:=mI yJ ahw (233700+aI) (gS aI) 8 (gm l aI) (D l) (cs:=[.I (.int .i64 t)]) (by rw[sS];rfl) (by omega) (by omega);obtain⟨f11,f12,f13,f14,f15,f16,f17⟩:=Sj aI g0;obtain⟨f21,f22,f23,f24,f25,f26,f27⟩:=M4 aI g0;have aMw:(233600+aI)=233600+aI:=rfl;generalize dK:233600+aI=A at *;generalize fW:233700+aI=B at *;have M7:A≠B:=f16;have hp:(A==233009)=false:=beq_eq_false_iff_ne.2 f11;have aBy:(233009==A)=false:=beq_eq_false_iff_ne.2 (Ne.symm f11);have fb:(A==233019)=false:=beq_eq_false_iff_ne.2 f12;have aBz:(233019==A)=false:=beq_eq_false_iff_ne.2 (Ne.symm f12);have uC:(A==233022)=false:=beq_eq_false_iff_ne.2 f13;have aBA:(233022==A)=false:=beq_eq_false_iff_ne.2 (Ne.symm f13);have oh:(A==233043)=false:=beq_eq_false_iff_ne.2 f14;have aBB:(233043==A)=false:=beq_eq_false_iff_ne.2 (Ne.symm f14);have aBC:(A==233051)=false:=beq_eq_false_iff_ne.2 f15;have aBD:(233051==A)=false:=beq_eq_false_iff_ne.2 (Ne.symm f15);have Cl:(A==B)=false:=beq_eq_false_iff_ne.2 M7;have aBE:(B==A)=false:=beq_eq_false_iff_ne.2 (Ne.symm M7);have iL:(B==233009)=false:=beq_eq_false_iff_ne.2 f21;have aBF:(233009==B)=false:=beq_eq_false_iff_ne.2 (Ne.symm f21);have ju:(B==233019)=false:=beq_eq_false_iff_ne.2 f22;have aBG:(233019==B)=false:=beq_eq_false_iff_ne.2 (Ne.symm f22);have sR:(B==233022)=false:=beq_eq_false_iff_ne.2 f23;have aBH:(233022==B)=false:=beq_eq_false_iff_ne.2 (Ne.symm f23);have vQ:(B==233043)=false:=beq_eq_false_iff_ne.2 f24;have aBI:(233043==B)=false:=beq_eq_false_iff_ne.2 (Ne.symm f24);have aBJ:(B==233051)=false:=beq_eq_false_iff_ne.2 f25;have aBK:(233051==B)=false:=beq_eq_false_iff_ne.2 (Ne.symm f25);have a7:(A=233009)=False:=eq_false f11;have b3:(B=233009)=False:=eq_false f21;have cZ:(B=A)=False:=eq_false (Ne.symm M7);have eo:(233019=A)=False:=eq_false (Ne.symm f12);have ji:(233019=B)=False:=eq_false (Ne.symm f22);have nO:(233022=A)=False:=eq_false (Ne.symm f13);have pH:(233022=B)=False:=eq_false (Ne.symm f23);have aBL:(233009=A)=False:=eq_false (Ne.symm f11);have aBM:(233009=B)=False:=eq_false (Ne.symm f21);have aBN:(A=B)=False:=eq_false M7;simp only[go_sem,go_sem_proc,mz,bm,ay,bK,bH,xC,xD,hq,O,e8,et,cE,ck,iw,jr,s1,s2,d1,en,g0,b6,dd,T6,Ge,hp,aBy,fb,aBz,uC,aBA,oh,aBB,aBC,aBD,Cl,aBE,iL,aBF,ju,aBG,sR,aBH,vQ,aBI,aBJ,aBK,a7,b3,cZ,eo,ji,nO,pH,aBL,aBM,aBN,ca,cD,ai,bh];refine aba ?_;intro M2 hc
   have nM:∀k:Nat,k≠233009->k≠233019->k≠233022->k≠A->k≠B->M2 k=m k:=λk jt wV sx dK fW=>by
    rw[hc,dn sx,dn wV,dn fW,dn dK,dn jt,dn jt]
   have xk:M2 233019=some (0,bD (D h) λi=>if i=aI then .ref A (gc aI+1) 4 0 ((cG l aI).length+1) else l0 l gc i):=by
    rw[hc,dn (by decide),iI]
   have EN:M2 A=some (gc aI+1,a8 ca (cG l aI++[((aI:Int),c2,c3,c4)])):=by
    rw[hc,dn f13,dn f12,dn M7,iI]
   have M5:M2 233022=some (0,bD (D h) λi=>if i=aI then .ref B (gS aI+1) 1 0 ((cG l aI).length+1) else pp l gS i):=by
    rw[hc,iI,nW]
   have E3:M2 B=some (gS aI+1,a8 iG (gm l aI++[D l])):=by
    rw[hc,dn f23,dn f22,iI]
   have iM:=cg.next (m':=M2) aH (c2:=c2) (c3:=c3) (c4:=c4) (gc aI+1) (gS aI+1) (by rw[dK];exact xk) (by rw[fW];exact M5) (by rw[dK];exact EN) (by rw[fW];exact E3) λi J bI=>⟨by
    obtain⟨cQ,de,ep,fe,o2,s6,-⟩:=Sj i J;exact nM _ cQ de ep (by omega) s6,by
    obtain⟨cQ,de,ep,fe,o2,s6,-⟩:=M4 i J;exact nM _ cQ de ep s6 (by omega)⟩
   have M6:M2 233057=none:=(nM 233057 (by decide) (by decide) (by decide) (Ne.symm f17) (Ne.symm f27)).trans jk;clear hc nM xk EN M5 E3;simp only[go_sem,go_sem_proc,bm,ay,bK,bH,xC,xD,hq,bO,M6];repeat' (first|refine ax ?_ ?_|fail)<;>intro h<;>simp only[h,go_sem,go_sem_proc,bm,ay,bK,bH,xC,xD,hq,bO,M6]
   exact⟨(t+1,_,_),by dsimp only;omega,by dsimp only;omega,rfl,by rw[gN];exact iM⟩
 ·have d1:decide ((t:Int)<(D cs:Int))=false:=c5;rw[dx (by omega)] at cg;simp only[go_sem,go_sem_proc,bm,ay,bK,bH,xC,xD,hq,d1];repeat' (first|refine ax ?_ ?_|fail)<;>intro h<;>simp only[h,go_sem,go_sem_proc,bm,ay,bK,bH,xC,xD,hq,d1]
  refine dN _ _ gc gS ?_ ?_ ?_ ?_ jk cg<;>simp only[e7,dW,if_false,bm,ay,bK,bH]
def yZ (l:List Nat):Q:=if l=[] then .nil else .I (.X (l.map iG))
theorem aBO (l:List Nat):qi (yZ l)=some (D l):=by
 unfold yZ
 split
 ·rename_i h;rw[h];rfl
 ·simp[qi]
theorem aBP {l:List Nat}{n y:Nat}(h:l[n]?=some y):zd 1 n (yZ l)=some (.I (.ptr (iG y))):=by
 unfold yZ
 split
 ·rename_i av;rw[av] at h;cases h
 ·simp only[zd,bh,h,mB]
  rfl
theorem aBQ (l:List aw)(n:Nat)(m:Mem):cy n m (kn l)=some (.X (l.map ca)):=by
 unfold kn
 split
 ·rename_i h;rw[h];exact aqL n
 ·exact Ov n _
def IQ (cs:List aw)(h:List Rat)(j:Nat):bg:=aq (eG cs (h.getD (cs.getD j jh).1.toNat 0) (cs.getD j jh))
def qf (cs:List aw)(h:List Rat)(i t j:Nat):Option bg:=if (cs.getD j jh).1<(i:Int)\/((cs.getD j jh).1=(i:Int)/\j∈(gm cs i).take t) then some (IQ cs h j) else none
theorem aBR (cs:List aw)(h:List Rat)(i:Nat):(bD (D cs) λj=>qf cs h i (gm cs i).length j)=bD (D cs) λj=>qf cs h (i+1) 0 j:=kX λj ah=>by
 unfold qf;rw[lK,mH];have hm:=abn (l:=cs) (i:=i) (j:=j)
 by_cases E:(cs.getD j jh).1<(i:Int)
 ·rw[ab (.inl E),ab (.inl (by omega))]
 ·by_cases H:(cs.getD j jh).1=(i:Int)
  ·rw[ab (.inr ⟨H,hm.2 ⟨ah,H⟩⟩),ab (.inl (by omega))]
  ·rw[ag (λaT=>aT.elim E λx=>H x.1),ag (λaT=>aT.elim (by omega) λx=>by simpa using x.2)]
theorem aBS (cs:List aw)(h:List Rat)(aF:CU cs h):(bD (D cs) λj=>qf cs h 0 0 j)=bD (D cs) λ_=>none:=kX λj ah=>by
 have:=(aF.c _ (eg (bu ah))).1;have e:cs.getD j jh=cs[j]:=by rw[dZ,bu ah];rfl
 unfold qf;rw[e,mH,ag (λaT=>aT.elim (by omega) λx=>by simpa using x.2)]
theorem aBT (cs:List aw)(h:List Rat)(aF:CU cs h):(bD (D cs) λj=>qf cs h (D h) 0 j)=(cs.map λc=>aq (eG cs (h.getD c.1.toNat 0) c)).map some:=by
 refine (aab (by simp) λj ah=>?_).symm;have:=(aF.c _ (eg (bu ah))).2.1;have e:cs.getD j jh=cs[j]:=by rw[dZ,bu ah];rfl
 unfold qf;rw[bh,bh,bu ah,e,ab (.inl this)];unfold IQ;rw[e];rfl
theorem aBU (T:bb){K:eY->ba->Prop}{kk:List gD}(cs:List aw)(h:List Rat)(aF:CU cs h)(i:Nat)(J:i<D h)(v1 r2 alW alX alY:Q)(alZ al0:Option (Nat×List Q))(tm:Nat->Q)(m:Mem)
  (ay:tm 1=v1) (bH:tm 7=r2) (c8:tm 10=.ref 233057 0 4 0 (D cs)) (ie:tm 13=.I (.X (((cG cs i).map λc=>aq (eG cs (h.getD i 0) c)).map aG))) (uQ:tm 58=alW) (ov:tm 59=alX) (kA:tm 60=alY) (Ff:tm 79=yZ (gm cs i)) (Fg:tm 80=.I (.int .i64 (gm cs i).length)) (Fh:tm 81=.I (.int .i64 0)) (AO:m 233019=alZ) (AP:m 233022=al0) (jk:m 233057=some (0,mi qZ (bD (D cs) λj=>qf cs h i 0 j)))
  (dN:∀tm' m',tm' 1=v1->tm' 7=r2->tm' 10=.ref 233057 0 4 0 (D cs)->tm' 58=alW->tm' 59=alX->tm' 60=alY->m' 233019=alZ->m' 233022=al0->m' 233057=some (0,mi qZ (bD (D cs) λj=>qf cs h (i+1) 0 j))->cB T K kk (.exit 4) ⟨tm',m'⟩) :
  wp T (Et.body.sub [1,1,1,1,1,0,1,0,0,1,1,0,0,1,1,1,1,0]) (cB T K kk) ⟨tm,m⟩:=by
 simp only[Et,eA.sub];have jb:=aF.len;have nW:=aBt cs i;refine dm [1,7,10,13,58,59,60,79,80] [233019,233022] (λ(k:Nat) tm m=>k<=(gm cs i).length/\tm 81=.I (.int .i64 k)/\m 233057=some (0,mi qZ (bD (D cs) λj=>qf cs h i k j))) (λk=>(gm cs i).length-k) 0 (by refine⟨by omega,Fh,jk⟩) ?_;intro vs ms aR aN;simp only[go_sem,go_sem_proc,ay,bH,c8,ie,uQ,ov,kA,Ff,Fg,AO,AP] at aR aN;subst aR aN;clear ay bH c8 ie uQ ov kA Ff Fg Fh AO AP jk tm m;rintro k tm m M hm ⟨og,Fh,jk⟩;simp only[go_sem,go_sem_proc,a6] at M hm;obtain⟨ay,bH,c8,ie,uQ,ov,kA,Ff,Fg⟩:=M;obtain⟨AO,AP⟩:=hm;rcases dv (k<(gm cs i).length) with az|b2
 ·have d1:decide ((k:Int)<((gm cs i).length:Int))=true:=dj;have bO:=eZ (i:=k) (by omega);obtain⟨y,ar⟩:∃y,(gm cs i)[k]?=some y:=⟨_,bu az⟩;obtain⟨zk,al1⟩:=abn.1 (eg ar);have sM:=aBP ar;simp only[go_sem,go_sem_proc,cD] at sM
  have al2:((cG cs i).map λc=>aq (eG cs (h.getD i 0) c))[k]?=some (IQ cs h y):=by
   rw[alT,bh,bh,ar];unfold IQ;rw[al1,lH];rfl
  have M3:=aac (q:=λj=>qf cs h i k j) zk;have mT:=λa b c d=>aad (q:=λj=>qf cs h i k j) zk a b c d
  have hW:∀aS:bg,aS=IQ cs h y->(bD (D cs) λj=>if j=y then some aS else qf cs h i k j)=bD (D cs) λj=>qf cs h i (k+1) j:=λaS fa=>kX λj _=>by
   have gN:(gm cs i).take (k+1)=(gm cs i).take k++[y]:=by rw[hk,ar];rfl
   by_cases ah:j=y
   ·subst ah;rw[ab rfl];unfold qf;rw[gN,ab (.inr ⟨al1,by simp⟩),fa]
   ·rw[ag ah];unfold qf;rw[gN]
    by_cases E:(cs.getD j jh).1<(i:Int)\/((cs.getD j jh).1=(i:Int)/\j∈(gm cs i).take k)
    ·rw[ab E,ab (E.imp id λx=>⟨x.1,by simp[x.2]⟩)]
    ·rw[ag E,ag λaT=>E (aT.imp id λx=>⟨x.1,by simpa [ah] using x.2⟩)]
  have aH:=hW _ rfl;clear dN;generalize ((cG cs i).map λc=>aq (eG cs (h.getD i 0) c))=y0 at *;generalize IQ cs h y=aS at *;obtain⟨⟨cQ,de⟩,⟨ep,fe⟩⟩:=aS;have dy:=mT cQ de ep fe;rw[aH] at dy;simp only[go_sem,go_sem_proc,ay,bH,c8,ie,uQ,ov,kA,Ff,Fg,Fh,AO,AP,jk,d1,bO,sM,al2,M3,dy,zk,iG,aG,cD,ai,bh];repeat' (first|refine ax ?_ ?_|fail)<;>intro h<;>simp only[h,go_sem,go_sem_proc,ay,bH,c8,ie,uQ,ov,kA,Ff,Fg,Fh,AO,AP,jk,d1,bO,sM,al2,M3,dy,zk,iG,aG,cD,ai,bh]
  exact⟨k+1,by omega,by omega,rfl,rfl⟩
 ·have d1:decide ((k:Int)<((gm cs i).length:Int))=false:=c5;obtain rfl:k=(gm cs i).length:=by omega
  rw[aBR] at jk;simp only[go_sem,go_sem_proc,ay,bH,c8,ie,uQ,ov,kA,Ff,Fg,Fh,d1];repeat' (first|refine ax ?_ ?_|fail)<;>intro h<;>simp only[h,go_sem,go_sem_proc,ay,bH,c8,ie,uQ,ov,kA,Ff,Fg,Fh,d1]
  refine dN _ _ ?_ ?_ ?_ ?_ ?_ ?_ AO AP jk<;>simp only[e7,dW,if_false,ay,bH,c8,uQ,ov,kA]
theorem aBV (n:Nat):(dD n [Q.nil]).flatten=bD n λ_ => .nil:=by
 induction n with
 |zero=>rfl
 |succ n aA=>rw[List.replicate_succ',EG,aA,alF];rfl
theorem aBW {a b:List Rat}(h:(a.map aq).map aG=(b.map aq).map aG):a=b:=map_inj (λ_ _ h=>ub h) _ _ (map_inj nb _ _ h)
abbrev Sm:(List aw)×(List Rat)->List Data:=λ(cs,h)=>[.X (cs.map ca),.X ((h.map aq).map aG)]
def Sn:=cj Sm λ(cs,h)=>cN (CU cs h) (.same (.cH [.X ((cs.map λc=>aq (eG cs (h.getD c.1.toNat 0) c)).map aG),.bool true]))
theorem al3:∀a b,Sm a=Sm b->a=b:=by
  rintro⟨uK,E⟩ ⟨n1,H⟩ h;simp only[a6,Data.X.injEq,and_true] at h;exact dQ (map_inj rU _ _ h.1) (aBW h.2)
@[go_sem] theorem aBX (cs:List aw)(h:List Rat)(G:CU cs h):Sn [.X (cs.map ca),.X ((h.map aq).map aG)]=some (.same (.cH [.X ((cs.map λc=>aq (eG cs (h.getD c.1.toNat 0) c)).map aG),.bool true])):=(cu al3 (cs,h)).trans (cT G _)
theorem aBY (T:bb)(kC:T KB=aV Sa)(cs:List aw)(h:List Rat)(G:CU cs h):WP T Et (.same (.cH [.X ((cs.map λc=>aq (eG cs (h.getD c.1.toNat 0) c)).map aG),.bool true])) [.I (.X (cs.map ca)),.I (.X ((h.map aq).map aG))]:=by
 refine cv ?_;simp only[Et];have aH:=G.n;have jb:=G.len;have HC:(24*D h<=140737488355328)=True:=eq_true (by omega);have Cs:(D h<=maxLen)=True:=eq_true (by unfold maxLen;omega);have aBZ:(64*D cs<=140737488355328)=True:=eq_true (by omega);have aB0:(D cs<=maxLen)=True:=eq_true (by unfold maxLen;omega);have aW:=aBV (D h);have al4:=aj1 (D cs);rw[<-aBS cs h G] at al4;simp only[go_sem,go_sem_proc,kC,HC,Cs,aW,ai];refine aBv T cs h G (.I (.X ((h.map aq).map aG))) _ _ ?_ ?_ ?_ ?_ ?_ ?_ ?_ ?_ (λ_=>0) (λ_=>0) ⟨?_,?_,λi J bI=>absurd rfl bI,λi J bI=>absurd rfl bI⟩ ?_
 all_goals first|(intro tm m gc gS fP b6 iF h2 jk cg)|(simp only[e7,dW,if_false,if_true];done)|(simp only[e7,dW,if_false,if_true];rfl)|(simp only[a1,dW,if_false,if_true];rfl)|skip
 obtain⟨dJ,E,H,af⟩:=Sf (λi=>233600+i) (λi=>kn (cG cs i)) (λi J=>by omega) (λi j _ _ he=>by omega) (D h) 0 (l0 cs gc) m (by omega) cg.e8 (λi J=>by omega) λi _ J=>by
  by_cases hR:cG cs i=[]
  ·refine .inl ?_;unfold l0 kn;rw[ab hR,ab hR]
  ·refine .inr ⟨gc i,4,(cG cs i).length,a8 ca (cG cs i),.X ((cG cs i).map ca),?_,cg.b6 i J hR,λcU nx=>qz (n:=0) ET nx,?_⟩
   ·unfold l0;rw[ag hR]
   ·unfold kn;rw[ag hR]
 have sx:dJ 233022=some (0,bD (D h) (pp cs gS)):=(af 233022 (by decide) λi J=>by omega).trans cg.et;have al5:dJ 233057=none:=(af 233057 (by decide) λi J=>by omega).trans jk
 obtain⟨cU,cE,ck,hj⟩:=Sf (λi=>233700+i) (λi=>yZ (gm cs i)) (λi J=>by omega) (λi j _ _ he=>by omega) (D h) 0 (pp cs gS) dJ (by omega) sx (λi J=>by omega) λi _ J=>by
  by_cases hR:cG cs i=[]
  ·refine .inl ?_;have AJ:gm cs i=[]:=CT.1 (by rw[Sh,hR];rfl);unfold pp yZ;rw[ab hR,ab AJ]
  ·have AJ:gm cs i≠[]:=λaT=>hR (CT.1 (by rw[<-Sh,aT];rfl));refine .inr ⟨gS i,1,(cG cs i).length,a8 iG (gm cs i),.X ((gm cs i).map iG),?_,?_,λcU nx=>by rw[<-Sh];exact qz (n:=0) yJ nx,?_⟩
   ·unfold pp;rw[ag hR]
   ·exact (af (233700+i) (by omega) λj ah=>by omega).trans (cg.dd i J hR)
   ·unfold yZ;rw[ag AJ]
 have M8:cU 233019=some (0,bD (D h) λi=>kn (cG cs i)):=(hj 233019 (by decide) λi J=>by omega).trans H;have y1:cU 233057=none:=(hj 233057 (by decide) λi J=>by omega).trans al5;simp only[go_sem,go_sem_proc,kC];refine alE (E.trans cE) ?_;clear E H af cE hj sx al5 cg jk;simp only[go_sem,go_sem_proc,kC,fP,b6,iF,h2,aBZ,aB0,al4,y1,ai];refine dm [1,7,10,58,59] [233019,233022] (λ(i:Nat) tm m=>i<=D h/\tm 60=.I (.int .i64 i)/\m 233057=some (0,mi qZ (bD (D cs) λj=>qf cs h i 0 j))) (λi=>D h-i) 0 (by refine⟨by omega,rfl,by simp[a1]⟩) ?_;intro vs ms aR aN;simp only[go_sem,go_sem_proc,kC,b6,h2,M8,ck,ai] at aR aN;subst aR aN;clear fP b6 iF h2 M8 y1 ck tm m dJ cU;rintro i tm m M hm ⟨J,kA,jk⟩;simp only[go_sem,go_sem_proc,kC,a6] at M hm;obtain⟨ay,bH,c8,uQ,ov⟩:=M;obtain⟨AO,AP⟩:=hm;rcases dv (i<D h) with az|b2
 ·have d1:decide ((i:Int)<(D h:Int))=true:=dj;have bO:=eZ (i:=i) (by omega);obtain⟨x,O⟩:∃x,h[i]?=some x:=⟨_,bu az⟩;have GV:h.getD i 0=x:=by rw[dZ,O];rfl
  have rI:=G.x x (eg O)
  have pR:ky (cG cs i):=⟨eQ (om _ _) jb,λc fx=>by
   have E:=G.c c (ot.1 fx).1;omega,λc fx c' aB1=>by rw[(ot.1 fx).2,(ot.1 aB1).2]⟩
  have fa:=alP x (cG cs i) ⟨pR,rI.1,rI.2⟩;rw[ayz,<-GV] at fa;rw[<-GV] at O;have e8:=wg (jg (λi=>kn (cG cs i)) az);have et:=wg (jg (λi=>yZ (gm cs i)) az);have iw:(bD (D h) λi=>kn (cG cs i)).length=D h:=gT _ _;have jr:(bD (D h) λi=>yZ (gm cs i)).length=D h:=gT _ _;have en:i+1<=D h:=by omega
  have vD:=aBQ (cG cs i) 6;have al6:=aBO (gm cs i);simp only[go_sem,go_sem_proc,kC] at al6;generalize nw:aq (h.getD i 0)=df at *;obtain⟨⟨cQ,de⟩,⟨ep,fe⟩⟩:=df;simp only[aG] at fa;simp only[go_sem,go_sem_proc,kC,kC,ay,bH,c8,uQ,ov,kA,AO,AP,jk,d1,e8,et,iw,jr,en,az,O,nw,vD,fa,al6,aG,cD,ai,bh,bne,beq_self_eq_true,cP];refine aBU T cs h G i az (.I (.X ((h.map aq).map aG))) (.ref 233022 0 1 0 (D h)) (.ref 233019 0 1 0 (D h)) (.I (.int .i64 (D h))) (.I (.int .i64 i)) _ _ _ _ ?_ ?_ ?_ ?_ ?_ ?_ ?_ ?_ ?_ ?_ AO AP jk ?_
  all_goals first|(intro tm' m' b6 h2 n7 al7 al8 al9 M8 ama y1)|(simp only[e7,dW,if_false,if_true,ay,bH,c8,uQ,ov,kA];done)
  simp only[go_sem,go_sem_proc,kC,b6,h2,n7,al7,al8,al9,M8,ama,y1,bO];repeat' (first|refine ax ?_ ?_|fail)<;>intro h<;>simp only[h,go_sem,go_sem_proc,kC,b6,h2,n7,al7,al8,al9,M8,ama,y1,bO]
  exact⟨i+1,by omega,by omega,rfl,rfl⟩
 ·have d1:decide ((i:Int)<(D h:Int))=false:=c5;obtain rfl:i=D h:=by omega
  rw[aBT cs h G,aj3] at jk;have kl:=λ(K:ba->Prop) (st:ba)=>mJ (K:=K) (st:=st) nA 10 233057 0 (cs.map λc=>aq (eG cs (h.getD c.1.toNat 0) c));rw[ai] at kl;simp only[go_sem,go_sem_proc,kC,ay,bH,c8,uQ,ov,kA,d1,jk,kl,ai];repeat' (first|refine ax ?_ ?_|fail)<;>intro h<;>simp only[h,go_sem,go_sem_proc,kC,ay,bH,c8,uQ,ov,kA,d1,jk,kl,ai]
end Go.Mini
namespace Go.Mini
open Classical
def IU (cs:List aw)(x:Nat->Rat)(i:Nat)(acc:Option Rat)(c:aw):Option Rat :=
 if c.2.1=(i:Int) then acc.bind λs=>if lk s (eG cs (x c.1.toNat) c)=true then some (s+eG cs (x c.1.toNat) c) else none else acc
def xE (cash:List Int)(cs:List aw)(x:Nat->Rat)(i:Nat)(l:List aw):Option Rat:=l.foldl (IU cs x i) (some ((cash.getD i 0:Int):Rat))
theorem aB2 (cash:List Int)(cs:List aw)(x:Nat->Rat)(i:Nat):xE cash cs x i []=some ((cash.getD i 0:Int):Rat):=rfl
theorem M9 (cash:List Int)(cs:List aw)(x:Nat->Rat)(i:Nat)(l:List aw)(c:aw):xE cash cs x i (l++[c])=IU cs x i (xE cash cs x i l) c:=by
 unfold xE;rw[Na];rfl
def uR (cash:List Int)(cs:List aw)(x:Nat->Rat)(i:Nat)(l:List aw):Rat:=((cash.getD i 0:Int):Rat)+cF (l.map cA) λc=>if c.to=(i:Int) then (au cash cs).fv x c else 0
theorem aB3 {cash:List Int}{cs:List aw}(h:kx cash cs=true)(x:Nat->Rat)(i:Nat)(l:List aw){c:aw}(G:c∈cs):uR cash cs x i (l++[c])=uR cash cs x i l+if c.2.1=(i:Int) then eG cs (x c.1.toNat) c else 0:=by
 unfold uR;rw[kT,H0,<-yU h x G];show _+(_+((if (cA c).to=(i:Int) then (au cash cs).fv x (cA c) else 0)+0))=_;have e:(cA c).to=c.2.1:=rfl;rw[e,p5];grind
def abr (cash:List Int)(cs:List aw)(x:Nat->Rat):Prop:=∀i,i<(D cash)->xE cash cs x i cs=some (x i)
section
variable {cash:List Int} {cs:List aw} (U:fz cash cs)
include U
theorem aB4 {eT:Nat}(iz:eT=324):0<iT (D cash) (v8 cash cs)/\iT (D cash) (v8 cash cs)<=2^eT:=by
 have:=U.jB;exact⟨aia λk M=>ajF U M,ai6 (e:=eT) (λk _=>ajG U k) (by omega)⟩
theorem aB5:∃bd:Nat,0<bd/\(∃a,a<=654/\bd<=2^a)/\(∀i,i<(D cash)->fg bd ((au cash cs).bP i))/\∀c∈cs,fg bd ((au cash cs).fv (au cash cs).bP (cA c)):=by
 obtain⟨bd,E,⟨a,H,af⟩,aP⟩:=ajE U;obtain⟨eT,iz⟩:∃eT,eT=324:=⟨_,rfl⟩;obtain⟨iL,ju⟩:=aB4 U iz;refine⟨bd*iT (D cash) (v8 cash cs),Nat.mul_pos E iL,⟨a+eT,by omega,by rw[Nat.pow_add];exact Nat.mul_le_mul af ju⟩,λi J=>(aP i J).more _,λc G=>?_⟩
 have bt:=ajH U aP G;have M:(cA c).aE<D cash:=U.ok.aE _ (p9 G);refine bt.of_dvd ?_;obtain⟨m,hm⟩:=aib (b9:=v8 cash cs) M;exact⟨m,by rw[hm,Nat.mul_assoc]⟩
theorem aB6 {i:Nat}(J:i<D cash){l fS:List aw}(av:cs=l++fS):ec 708 (uR cash cs (au cash cs).bP i l):=by
 obtain⟨bd,E,⟨a,H,af⟩,-,aP⟩:=aB5 U
 have yN:∀m:List aw,(∀c∈m,c∈cs)->0<=cF (m.map cA) λc=>if c.to=(i:Int) then (au cash cs).fv (au cash cs).bP c else 0:=λm hm=>yL λy ar=>by
  obtain⟨c,G,rfl⟩:=dV.1 ar
  try dsimp only
  split
  ·exact U.ok.Zh _ (p9 (hm c G))
  ·exact gi
 have GJ:∀c∈l,c∈cs:=λc G=>by rw[av];simp[G]
 have nx:∀c∈fS,c∈cs:=λc G=>by rw[av];simp[G]
 have oU:(0:Rat)<=((cash.getD i 0:Int):Rat):=by have:=(U.cash i).1;exact_mod_cast this
 have Y:fg bd (uR cash cs (au cash cs).bP i l):=by
  unfold uR;refine (fg.int _ _).add (fg.cF λy ar=>?_);obtain⟨c,G,rfl⟩:=dV.1 ar
  split
  ·exact aP c (GJ c G)
  ·exact fg.zero _
 have ao:0<=uR cash cs (au cash cs).bP i l:=by
  have:=yN l GJ;unfold uR;grind
 have hle:uR cash cs (au cash cs).bP i l<=(au cash cs).bP i:=by
  rw[(CK U.ok).1 i J]
  have e:(au cash cs).uy (au cash cs).bP i=uR cash cs (au cash cs).bP i l+cF (fS.map cA) λc=>if c.to=(i:Int) then (au cash cs).fv (au cash cs).bP c else 0:=by
   have aB:(au cash cs).uy (au cash cs).bP i=((cash.getD i 0:Int):Rat)+cF (cs.map cA) λc=>if c.to=(i:Int) then (au cash cs).fv (au cash cs).bP c else 0:=rfl;rw[aB];unfold uR;have bG:cF (cs.map cA) (λc=>if c.to=(i:Int) then (au cash cs).fv (au cash cs).bP c else 0)=cF ((l++fS).map cA) λc=>if c.to=(i:Int) then (au cash cs).fv (au cash cs).bP c else 0:=by rw[<-av]
   rw[bG,kT,H0];grind
  have:=yN fS nx;grind
 exact (Y.sz E af ao (e:=54) (Rat.le_trans hle (ax9 U J))).mono (by omega)
theorem amb:abr cash cs (au cash cs).bP:=λi J=>by
 have key:∀n (l fS:List aw),D l=n->cs=l++fS->xE cash cs (au cash cs).bP i l=some (uR cash cs (au cash cs).bP i l):=by
  intro n
  induction n with
  |zero =>
   intro l fS av _;have:l=[]:=CT.1 av;subst this;rw[aB2];unfold uR;rw[cS,cF,p5]
  |succ n aA =>
   intro l fS av k1;rcases Bu l with ao|⟨m,c,rfl⟩
   ·subst ao;cases av
   ·rw[Bv] at *;simp only[fQ,Cg] at av;have G:c∈cs:=by rw[k1];simp
    have fx:cs=m++([c]++fS):=by rw[k1,gM]
    rw[M9,aB3 U.right _ i m G,aA m _ (by omega) fx];unfold IU
    by_cases yV:c.2.1=(i:Int)
    ·rw[ab yV,ab yV,la,ab];refine EM (aB6 U J fx) (b:=482) ?_ (by omega);rw[<-yU U.right _ G];exact Mu U G
    ·rw[ag yV,ag yV,p5]
 have E:=key _ cs [] rfl (by simp);rw[E,(CK U.ok).1 i J]
 rfl
end
end Go.Mini
namespace Go.Mini
open Go
theorem amc (x:Rat):x*(x.den:Rat)=(x.num:Rat):=by
 have h:(Rat.divInt x.num x.den)=x:=Rat.num_divInt_den x;rw[Rat.divInt_eq_div] at h;have ao:((x.den:Int):Rat)≠0:=by have:=x.den_nz;exact_mod_cast this
 have H:(x.num:Rat)/((x.den:Int):Rat)*((x.den:Int):Rat)=(x.num:Rat):=Rat.div_mul_cancel ao;rw[h,oi] at H;exact H
theorem So {x y:Rat}(h:lk x y=true):dg (x+y):=by
 unfold lk at h;simp only[e9] at h;obtain⟨-,-,af,aP⟩:=h
 have Y:((x.den:Int)*y.den)≠0:=by
  have E:=x.den_nz;have H:=y.den_nz;exact Int.mul_ne_zero (by omega) (by omega)
 have e:(x+y)*(((x.den:Int)*y.den:Int):Rat)=((x.num*y.den+y.num*x.den:Int):Rat):=by
  have ay:x*(x.den:Rat)=(x.num:Rat):=amc x;have aB:y*(y.den:Rat)=(y.num:Rat):=amc y;rw[uz,p7,p7,p7,oi,oi,<-ay,<-aB];grind
 obtain⟨f1,f2⟩:=CC Y e;have:=qQ af;have:=qQ aP;exact⟨by omega,by omega⟩
theorem amd {x y:Rat}(O:dg x)(ar:dg y):yv [.agg (aG (aq x)),.agg (aG (aq y))]=some (.same (.cH [.agg (aG (ud (lk x y) (x+y)).1),.int .i64 (ud (lk x y) (x+y)).2])):=by
 have E:=kS O;have H:=kS ar;have:=agj (aq x).1.1 (aq x).1.2 (aq x).2.1 (aq x).2.2 (aq y).1.1 (aq y).1.2 (aq y).2.1 (aq y).2.2 ⟨E.1,E.2,H.1,H.2⟩;exact this.trans (by show some (eJ.same (ez (vM (aq x) (aq y))))=_;rw[WZ O ar];rfl)
def ame:=cj z5 λ(s,l,s2,al,c7,b1,db,cr)=>cN (D l<=1000000/\D al<=1000000/\D b1<=1000000/\D cr<=1000000) (.same (.bool (lM ((s,l),(s2,al)) ((c7,b1),(db,cr))==0)))
@[go_sem] theorem aB7 (s:Int)(l:List Int)(s2:Int)(al:List Int)(c7:Int)(b1:List Int)(db:Int)(cr:List Int)(G:(D l)<=1000000/\D al<=1000000/\D b1<=1000000/\D cr<=1000000):ame [.agg [.int .i64 s,.X (l.map ad),.int .i64 s2,.X (al.map ad)],.agg [.int .i64 c7,.X (b1.map ad),.int .i64 db,.X (cr.map ad)]]=some (.same (.bool (lM ((s,l),(s2,al)) ((c7,b1),(db,cr))==0))):=(cu Eo (s,l,s2,al,c7,b1,db,cr)).trans (cT G _)
def kD:List bg->List bg->Bool
 | [],[]=>true
 |a::l,b::m=>(lM a b==0)&&kD l m
 |_,_=>false
theorem amf:∀(a b:List bg),(D a)≠(D b)->kD a b=false
 | [],[],h=>absurd rfl h
 | [],_::_,_=>rfl
 |_::_,[],_=>rfl
 |a::l,b::m,h=>by
  unfold kD;rw[amf l m (by simpa using h),iZ]
theorem aB8 {a b:List bg}{i:Nat}{x y:bg}(aM:a[i]?=some x)(ae:b[i]?=some y)(h:kD (a.take i) (b.take i)=true)(G:(lM x y==0)=false):kD a b=false:=by
 induction i generalizing a b with
 |zero =>
  cases a with
  |nil=>cases aM
  |cons a l =>
   cases b with
   |nil=>cases ae
   |cons b m =>
    simp only[zu,cm] at aM ae;subst aM ae;rw[kD,G,fB]
 |succ i aA =>
  cases a with
  |nil=>cases aM
  |cons a l =>
   cases b with
   |nil=>cases ae
   |cons b m =>
    simp only[IB] at aM ae;rw[wH,wH,kD,e9] at h;rw[kD,aA aM ae h.2,iZ]
theorem aB9 {a b:List bg}{i:Nat}{x y:bg}(aM:a[i]?=some x)(ae:b[i]?=some y)(h:kD (a.take i) (b.take i)=true)(G:(lM x y==0)=true):kD (a.take (i+1)) (b.take (i+1))=true:=by
 induction i generalizing a b with
 |zero =>
  cases a with
  |nil=>cases aM
  |cons a l =>
   cases b with
   |nil=>cases ae
   |cons b m =>
    simp only[zu,cm] at aM ae;subst aM ae;simp[kD,G]
 |succ i aA =>
  cases a with
  |nil=>cases aM
  |cons a l =>
   cases b with
   |nil=>cases ae
   |cons b m =>
    simp only[IB] at aM ae;rw[wH,wH,kD,e9] at h;rw[wH,wH,kD,h.1,aA aM ae h.2];rfl
theorem amg (T:bb)(f:FuncId)(aS:List Data->Option eJ)(cI:T f=aV aS)(a b:List bg)(aM:fY a)(ae:fY b)(fa:∀cQ de ep fe c1 ee jz lq,D de<=1000000->(D fe)<=1000000->(D ee)<=1000000->(D lq)<=1000000->aS [.agg [.int .i64 cQ,.X (de.map ad),.int .i64 ep,.X (fe.map ad)],.agg [.int .i64 c1,.X (ee.map ad),.int .i64 jz,.X (lq.map ad)]]=some (.same (.bool (lM ((cQ,de),(ep,fe)) ((c1,ee),(jz,lq))==0)))):WP T KL (.same (.bool (kD a b))) [.I (.X (a.map aG)),.I (.X (b.map aG)),.I (.fn f [])]:=by
 refine cv ?_;simp only[KL];obtain⟨aM,aCa⟩:=aM;obtain⟨ae,aCb⟩:=ae;rcases av:((D a:Int)==(D b:Int))
 ·rw[amf a b (by have:=ne_of_beq_false av;omega)];refine aY ?_;repeat' (intro h<;>simp only[h,go_sem,go_sem_proc,av,ai,bne,du]<;>try refine ax ?_ ?_)
 ·have hle:(D a)=D b:=by have:=eq_of_beq av;omega
  simp only[go_sem,go_sem_proc,av,ai,bne,cP];refine dm [1,2,15,16] [] (λ(i:Nat) tm mem=>i<=D a/\kD (a.take i) (b.take i)=true/\tm 17=.I (.int .i64 i)) (λi=>D a-i) 0 (by refine⟨fs _,by simp[kD],rfl⟩) ?_;intro vs ms aR aN;simp only[go_sem,go_sem_proc,ai] at aR aN;subst aR aN;rintro i tm mem M hm ⟨J,fh,nd⟩;simp only[go_sem,go_sem_proc,a6] at M hm;obtain⟨ay,aB,mX,yI⟩:=M;rcases dv (i<D a) with az|b2
  ·have d1:decide ((i:Int)<(D a:Int))=true:=dj;have bO:=eZ (i:=i) (by omega);obtain⟨x,O⟩:∃x,a[i]?=some x:=⟨_,bu az⟩;obtain⟨y,ar⟩:∃x,b[i]?=some x:=⟨_,bu (by omega)⟩;obtain⟨Az,wb⟩:=aCa x (eg O);obtain⟨Ia,Ib⟩:=aCb y (eg ar);have dy:=λG=>aB8 O ar fh G;have gN:=λG=>aB9 O ar fh G;obtain⟨⟨cQ,de⟩,⟨ep,fe⟩⟩:=x;obtain⟨⟨c1,ee⟩,⟨jz,lq⟩⟩:=y;dsimp only at Az wb Ia Ib;have mS:=fa cQ de ep fe c1 ee jz lq Az wb Ia Ib;rcases q:(lM ((cQ,de),(ep,fe)) ((c1,ee),(jz,lq))==0)
   ·rw[dy q];refine aY ?_;repeat' (intro h<;>simp only[h,go_sem,go_sem_proc,ay,aB,mX,yI,nd,O,ar,d1,bO,cI,mS,q,aG,ai,bh,du]<;>try refine ax ?_ ?_)
   ·refine aY ?_;repeat' (intro h<;>simp only[h,go_sem,go_sem_proc,ay,aB,mX,yI,nd,O,ar,d1,bO,cI,mS,q,aG,ai,bh,cP]<;>try refine ax ?_ ?_)
    exact⟨i+1,by omega,by omega,gN q,rfl⟩
  ·have d1:decide ((i:Int)<(D a:Int))=false:=c5;rw[dx (by omega),dx (by omega)] at fh;rw[fh];refine aY ?_;repeat' (intro h<;>simp only[h,go_sem,go_sem_proc,ay,aB,mX,yI,nd,d1,ai]<;>try refine ax ?_ ?_)
def abt:=cj z5 λ(s,l,s2,al,c7,b1,db,cr)=>cN (D l<=1000000/\D al<=1000000/\D b1<=1000000/\D cr<=1000000) (.same (.bool (lM ((s,l),(s2,al)) ((c7,b1),(db,cr))==0)))
@[go_sem] theorem aCc (s:Int)(l:List Int)(s2:Int)(al:List Int)(c7:Int)(b1:List Int)(db:Int)(cr:List Int)(G:(D l)<=1000000/\D al<=1000000/\D b1<=1000000/\D cr<=1000000):abt [.agg [.int .i64 s,.X (l.map ad),.int .i64 s2,.X (al.map ad)],.agg [.int .i64 c7,.X (b1.map ad),.int .i64 db,.X (cr.map ad)]]=some (.same (.bool (lM ((s,l),(s2,al)) ((c7,b1),(db,cr))==0))):=(cu Eo (s,l,s2,al,c7,b1,db,cr)).trans (cT G _)
theorem aCd (T:bb)(cW:T lF=aV sG)(s:Int)(l:List Int)(s2:Int)(al:List Int)(c7:Int)(b1:List Int)(db:Int)(cr:List Int)(G:(D l)<=1000000/\D al<=1000000/\D b1<=1000000/\D cr<=1000000):WP T XB (.same (.bool (lM ((s,l),(s2,al)) ((c7,b1),(db,cr))==0))) [.I (.agg [.int .i64 s,.X (l.map ad),.int .i64 s2,.X (al.map ad)]),.I (.agg [.int .i64 c7,.X (b1.map ad),.int .i64 db,.X (cr.map ad)])]:=by
 refine cv ?_;simp only[XB];obtain⟨Az,wb,Ia,Ib⟩:=G;refine aY ?_;repeat' (intro h<;>simp only[h,go_sem,go_sem_proc,cW,Az,wb,Ia,Ib]<;>try refine ax ?_ ?_)
abbrev abu:(List bg)×(List bg)×FuncId->List Data:=λ(a,b,f)=>[.X (a.map aG),.X (b.map aG),.fn f []]
def abv:=cj abu λ(a,b,f)=>cN (fY a/\fY b/\((f=BA/\BA<900000)\/(f=wN/\wN<900000))) (.same (.bool (kD a b)))
theorem aCe:∀a b,abu a=abu b->a=b:=by
  rintro⟨cQ,c1,f1⟩ ⟨de,ee,f2⟩ h;simp only[a6,Data.X.injEq,Data.fn.injEq,and_true] at h;exact dQ (map_inj nb _ _ h.1) (dQ (map_inj nb _ _ h.2.1) h.2.2)
@[go_sem] theorem aCf (a:List bg)(b:List bg)(f:FuncId)(G:fY a/\fY b/\((f=BA/\BA<900000)\/(f=wN/\wN<900000))):abv [.X (a.map aG),.X (b.map aG),.fn f []]=some (.same (.bool (kD a b))):=(cu aCe (a,b,f)).trans (cT G _)
theorem aCg (T:bb)(aCh:BA<900000->T BA=aV ame)(aCi:wN<900000->T wN=aV abt)(a:List bg)(b:List bg)(f:FuncId)(G:fY a/\fY b/\((f=BA/\BA<900000)\/(f=wN/\wN<900000))):WP T KL (.same (.bool (kD a b))) [.I (.X (a.map aG)),.I (.X (b.map aG)),.I (.fn f [])]:=by
 refine cv ?_;simp only[KL];obtain⟨aM,ae,aK⟩:=G;rcases aK with ⟨rfl,J⟩|⟨rfl,J⟩
 ·exact qR (amg T _ _ (aCh J) a b aM ae λcQ de ep fe c1 ee jz lq E H af aP=>aB7 cQ de ep fe c1 ee jz lq ⟨E,H,af,aP⟩)
 ·exact qR (amg T _ _ (aCi J) a b aM ae λcQ de ep fe c1 ee jz lq E H af aP=>aCc cQ de ep fe c1 ee jz lq ⟨E,H,af,aP⟩)
abbrev abw:(List bg)×(List bg)->List Data:=λ(a,b)=>[.X (a.map aG),.X (b.map aG)]
def abx:=cj abw λ(a,b)=>cN (fY a/\fY b) (.same (.bool (kD a b)))
theorem aCj:∀a b,abw a=abw b->a=b:=by
  rintro⟨cQ,c1⟩ ⟨de,ee⟩ h;simp only[a6,Data.X.injEq,and_true] at h;exact dQ (map_inj nb _ _ h.1) (map_inj nb _ _ h.2)
@[go_sem] theorem aCk (a:List bg)(b:List bg)(G:fY a/\fY b):abx [.X (a.map aG),.X (b.map aG)]=some (.same (.bool (kD a b))):=(cu aCj (a,b)).trans (cT G _)
theorem aCl (T:bb)(aCm:T UD=aV abv)(a:List bg)(b:List bg)(G:fY a/\fY b):WP T Xu (.same (.bool (kD a b))) [.I (.X (a.map aG)),.I (.X (b.map aG))]:=by
 refine cv ?_;simp only[Xu];have aO:=aCf a b wN ⟨G.1,G.2,.inr ⟨rfl,by decide⟩⟩
 refine aY ?_;repeat' (intro h<;>simp only[h,go_sem,go_sem_proc,aCm,aO]<;>try refine ax ?_ ?_)
theorem aCn {α:Type}(p:α->Bool)(l:List α)(k:Nat)(M:k<D l)(h:∀j (ah:j<k),p (l[j]'(by omega))=false)(H:p l[k]=true):kP p l=k :=
 Ls (λx O=>by
  obtain⟨j,ah⟩:=tI.1 O;rw[u9] at ah
  by_cases dX:j<k
  ·rw[ab dX,bu (by omega),cm] at ah;rw[<-ah];exact h j dX
  ·rw[ag dX] at ah;cases ah) (bu M) H
theorem amh {d:Day}{h:Nat->Rat}{i:Nat}:∀k,k<=10->d.jO h i k<10->(∀j,10-k<=j->j<d.jO h i k->d.bz i (j+1)<=h i)/\h i<d.bz i (d.jO h i k+1)/\10-k<=d.jO h i k
 |0,_,E=>by rw[Day.jO] at E;omega
 |k+1,M,E=>by
  rw[Day.jO] at E ⊢
  by_cases G:h i<d.bz i (10-(k+1)+1)
  ·rw[ab G] at E ⊢;exact⟨λj H af=>by omega,G,bX _⟩
  ·rw[ag G] at E ⊢;obtain⟨b6,dd,ey⟩:=amh k (by omega) E;refine⟨λj H af=>?_,dd,by omega⟩
   by_cases ah:j=10-(k+1)
   ·rw[ah];grind
   ·exact b6 j (by omega) af
theorem aCo {cash:List Int}{cs:List aw}(U:fz cash cs)(h:Nat->Rat)(n i:Nat)(J:i<n)(kV:dg (h i))(aK:(au cash cs).jO h i 10<10):kP (qd (.solve (dC n h) i)) (bD 10 λk=>cO cs i (k+1:Nat))=((au cash cs).jO h i 10:Int):=by
 obtain⟨E,H,af⟩:=amh 10 (bX _) aK;have oe:=λk:Nat=>U.upto i k
 have aF:∀k:Nat,qd (.solve (dC n h) i) (cO cs i (k+1:Nat))=decide (h i<(au cash cs).bz i (k+1)):=λk=>by
  have Y:(dC n h).getD i fj=aq (h i):=by rw[dZ,s4 h J];rfl
  have E7:dA (cO cs i (k+1:Nat)):=o3 (by have:=oe (k+1);omega) (by have:=oe (k+1);omega);simp only[qd];rw[Y,PW kV (qb E7),H4,uA U.right]
 refine aCn _ _ _ (by rw[gT];exact aK) (λj ah=>?_) ?_
 ·have e:=jg (λk=>cO cs i (k+1:Nat)) (show j<10 by omega);rw[bu (by rw[gT];omega),cm] at e;rw[e,aF];exact mo (by have:=E j (by omega) ah;grind)
 ·have e:=jg (λk=>cO cs i (k+1:Nat)) aK;rw[bu (by rw[gT];omega),cm] at e;rw[e,aF];exact lU H
def dc.wf (a:dc)(f:Nat->Nat):dc:={ a with aD:=bD (D a.cash) λi=>(f i:Int) }
theorem dc.aby (a:dc)(f:Nat->Nat){i:Nat}(J:i<D a.cash):(a.wf f).gJ i=(a.gJ i).xt (f i):=by
 have:(bD (D a.cash) λi=>(f i:Int)).getD i 10=(f i:Int):=AM _ _ J;unfold dc.gJ dc.wf ou.xt;dsimp only;rw[this]
theorem dc.eI.aCp {a:dc}{m:Mem}{f:Nat->Nat}(h:(a.wf f).eI m){i:Nat}(J:i<D a.cash)(r:Nat):(a.wf λj=>if j=i then r else f j).eI (a1 m (228500+i) (a.gs.getD i 0) (fE ((a.gJ i).xt r))):=by
 refine⟨h.can,gT _ _,h.pl,h.Rn,?_,λj ah=>?_⟩
 ·have:=h.row;simp only[a1];rw[ag (show ¬ ((228023:Nat)=228500+i) by omega)];exact this
 ·rw[dc.aby a _ ah];simp only[a1]
  by_cases ic:j=i
  ·subst ic;rw[ab rfl,ab rfl]
   rfl
  ·rw[ag (show ¬ ((228500+j:Nat)=228500+i) by omega),ag ic];have:=h.dz j ah;rw[dc.aby a _ ah] at this;exact this
theorem dc.Sp (a:dc){p q:Nat->Nat}(h:∀i,i<(D a.cash)->p i=q i):a.wf p=a.wf q:=by
 unfold dc.wf;rw[kX λi J=>by rw[h i J]]
theorem aCq {n i:Nat}(f:Nat->Nat)(h:i<n):bJ (bD n λi=>(f i:Int)) i=f i:=by
 unfold bJ;rw[AM _ _ h,lH]
theorem aCr {x:ou}(h:x.dk){k g:Nat}{m:Mem}(hm:m k=some (g,fE x))(n:Nat):cy (n+1) m (.ref k g 1 12 10)=some (.X (x.us.tail.map ad)):=by
 have e:cut (fE x) 12 10=some (x.us.tail.map bF):=by
  unfold cut;rw[ab (by rw[CM h];omega)]
  congr 1
  obtain⟨c,cX,us,f,p⟩:=x;obtain⟨E,H⟩:=h;dsimp only at E H
  cases us with
  |nil=>cases H
  |cons u us =>
   have av:(D us)=10:=by simpa using H
   unfold fE;dsimp only;rw[CN,oN,jV (by rw[ai];omega),ai,E,List.nil_append,eC];rw[show 11-10=1 from rfl,j1,CN,l2,List.take_append_of_le_length (by rw[ai];omega),dx (by rw[ai];omega)]
   rfl
 have aB:∀l:List Int,(l.map bF).mapM (cy n m)=some (l.map λz=>Data.int .i64 z):=by
  intro l
  induction l with
  |nil=>rfl
  |cons a l aA =>
   rw[eC,lz,aA];rw[show cy n m (bF a)=some (.int .i64 a) from Ov n _]
   rfl
 have bG:∀l:List Int,chunk 1 (D l) (l.map λz=>Data.int .i64 z)=l.map ad:=by
  intro l
  induction l with
  |nil=>rfl
  |cons a l aA=>simp only[h8,eC,chunk,wH,mH,CN,l2,aA];rfl
 have av:(D x.us.tail)=10:=by rw[List.length_tail,h.us]
 unfold cy;rw[hm];dsimp only;rw[ab rfl,cD,e];dsimp only;rw[aB];have:=bG x.us.tail;rw[av] at this;rw[mB,this]
theorem dc.eI.up {a:dc}{m:Mem}(h:a.eI m)(aH:(D a.cash)<=6){k g:Nat}{cs:List Q}(M:k/1000≠228):a.eI (a1 m k g cs) :=
 ⟨h.can,h.aD,h.pl,h.Rn,by rw[dn (by omega)];exact h.row,λi J=>by rw[dn (by omega)];exact h.dz i J⟩
theorem aCs {α:Type}(n:Nat)(q:Nat->α):(bD (n+1) q).tail=bD n λk=>q (k+1):=by
 unfold bD;rw[List.range_succ_eq_map,eC,List.tail_cons,m4]
 rfl
theorem ami {m:Mem}{k g:Nat}{d:Data}(hm:m k=some (g,[.I d]))(n:Nat):cy (n+1) m (.ptr k g 0)=some (.ptr [d]):=by
 unfold cy;rw[hm];dsimp only;rw[ab ⟨rfl,fs _⟩,l2,lz,Ov]
 rfl
theorem aCt (n k g sz o l:Nat):cy (n+1) emp (.ref k g sz o l)=none:=by
 unfold cy;rfl
def wm (d:Day)(f:Nat->Nat)(h:Nat->Rat)(i j:Nat):Nat:=if j<i then d.gI f h j else f j
theorem aCu (T:bb)(hM:T po=aV v5)(cW:T lF=aV sG)(nh:T wL=aV AE){K:eY->ba->Prop}{kk:List gD}(a:dc)(U:fz a.cash a.cs)(f:Nat->Nat)(aK:∀i,i<(D a.cash)->f i<=10)(h:Nat->Rat)(kV:∀i,i<(D a.cash)->dg (h i))(ao:∀i,i<(D a.cash)->0<=h i)(lE:Mem)(v1 v4 r2:Q)(Nb abz:Nat)(tm:Nat->Q)(m:Mem)
  (ay:tm 1=v1) (dp:tm 4=v4) (bK:tm 6=.ref 228023 a.g 1 0 (D a.cash)) (bH:tm 7=r2) (eb:tm 8=.ptr 217008 Nb 0) (c8:tm 10=.ref 217057 abz 1 0 0) (hT:tm 31=.ref 228023 a.g 1 0 (D a.cash)) (jj:tm 32=.I (.int .i64 (D a.cash))) (AQ:tm 33=.I (.int .i64 0))
  (cg:(a.wf f).eI m) (Er:lE 217008=some (Nb,[.I (.X ((dC (D a.cash) h).map aG))])) (jk:m 217057=some (abz,[])) (bW:∀k,k/1000≠228->k≠217011->k≠217057->m k=lE k)
  (dN:∀tm' m' c0,tm' 1=v1->tm' 4=v4->tm' 6=.ref 228023 a.g 1 0 (D a.cash)->tm' 7=r2->tm' 8=.ptr 217008 Nb 0->tm' 10=.ref 217057 c0 1 0 (uI (au a.cash a.cs) f h (D a.cash)).length->m' 217057=some (c0,a8 iG (uI (au a.cash a.cs) f h (D a.cash)))->(a.wf ((au a.cash a.cs).gI f h)).eI m'->(∀k,k/1000≠228->k≠217011->k≠217057->m' k=lE k)->cB T K kk (.exit 2) ⟨tm',m'⟩) :
  wp T (Es.body.sub [1,1,1,1,0,0,0,0,1,1,1,0,1,0,0]) (cB T K kk) ⟨tm,m⟩:=by
 simp only[Es,eA.sub];have aH:=U.jB;have Y:=U.ok
 refine dm [1,4,6,7,8,31,32] [] (λ((i,g):Nat×Nat) tm m=>i<=D a.cash/\tm 33=.I (.int .i64 i)/\tm 10=.ref 217057 g 1 0 (uI (au a.cash a.cs) f h i).length/\m 217057=some (g,a8 iG (uI (au a.cash a.cs) f h i))/\(a.wf (wm (au a.cash a.cs) f h i)).eI m/\∀k,k/1000≠228->k≠217011->k≠217057->m k=lE k) (λ(i,_)=>D a.cash-i) (0,abz) (by
  refine⟨by omega,AQ,c8,jk,?_,bW⟩
  rw[a.Sp (q:=f) λj _=>by unfold wm;rw[ag (by omega)]]
  exact cg) ?_
 intro vs ms aR aN;simp only[go_sem,go_sem_proc,ay,dp,bK,bH,eb,hT,jj] at aR aN;subst aR aN;clear ay dp bK bH eb c8 hT jj AQ cg jk bW tm m;rintro⟨i,g⟩ tm m M-⟨J,AQ,c8,jk,cg,bW⟩;simp only[go_sem,go_sem_proc,a6] at M;obtain⟨ay,dp,bK,bH,eb,hT,jj⟩:=M;rcases dv (i<D a.cash) with az|b2
 ·have d1:decide ((i:Int)<(D a.cash:Int))=true:=dj;have bO:=eZ (i:=i) (by omega);have we:=aK i az;have r0:wm (au a.cash a.cs) f h i i=f i:=by unfold wm;rw[ag (by omega)]
  have eS:m 228023=some (a.g,bD (D a.cash) λi => .ptr (228500+i) (a.gs.getD i 0) 0):=cg.row;have fl:m (228500+i)=some (a.gs.getD i 0,_):=cg.dz i az;rw[dc.aby a _ az,r0] at fl;have Fi:=(bW 217008 (by decide) (by decide) (by decide)).trans Er;have iy:=wg (jg (λi=>Q.ptr (228500+i) (a.gs.getD i 0) 0) az);have bZ:(bD (D a.cash) λi=>Q.ptr (228500+i) (a.gs.getD i 0) 0).length=D a.cash:=gT _ _;have cR:((a.gJ i).xt (f i)).dk:=⟨(a.xu i).cX,(a.xu i).us⟩;have hlen:=CM cR;have mj:fM 1 (fX 22 (fE ((a.gJ i).xt (f i))))=[bF (f i:Int)]:=Mz cR;have s8:=My cR (k:=f i) (z:=cO a.cs i (f i:Nat)) (jg _ (by omega));have eB:_=fE ((a.gJ i).xt ((au a.cash a.cs).jO h i 10)):=ayJ cR ((au a.cash a.cs).jO h i 10:Nat);have en:i+1<=D a.cash:=by omega
  have al:f i<11:=by omega
  have b1:(11+f i+1<=24)=True:=eq_true (by omega);have oe:=U.upto i (f i);have E7:dA (cO a.cs i (f i:Nat)):=o3 (by omega) (by omega);have hw:=CI _ E7;have pr:=yR (kV i az) (qb E7);have Iz:=uA U.right i (f i);have BS:decide (j9 (h i) ((cO a.cs i (f i:Nat):Int):Rat)>=0)=decide (((cO a.cs i (f i:Nat):Int):Rat)<=h i):=ajM;have Fj:=ayA (au a.cash a.cs) f h i;rw[<-Iz] at Fj;have AK:=s4 h az;have aCv:=ayB (au a.cash a.cs) f h i;have dG:=mI yJ aka 217057 g 8 (uI (au a.cash a.cs) f h i) i (cs:=[.I (.int .i64 i)]) rfl (by omega) (by omega);have abA:=λ(cU:Mem) (nx:cU (228500+i)=some (a.gs.getD i 0,fE ((a.gJ i).xt (f i)))) n=>aCr cR nx n;have aCw:((a.gJ i).xt (f i)).us.tail=bD 10 λk=>cO a.cs i (k+1:Nat):=aCs 10 _;simp only[aCw] at abA
  have aCx:¬ h i<((cO a.cs i (f i:Nat):Int):Rat)->a.wf (wm (au a.cash a.cs) f h (i+1))=a.wf (wm (au a.cash a.cs) f h i):=λaT=>a.Sp λj _=>by
   unfold wm
   by_cases ah:j=i
   ·subst ah;rw[ab (by omega),ag (by omega)];unfold Day.gI;rw[ag (by rw[<-Iz];exact λx=>aT x.2)]
   ·by_cases vg:j<i
    ·rw[ab vg,ab (by omega)]
    ·rw[ag vg,ag (by omega)]
  have aCy:h i<((cO a.cs i (f i:Nat):Int):Rat)->a.wf (wm (au a.cash a.cs) f h (i+1))=a.wf (λj=>if j=i then (au a.cash a.cs).jO h i 10 else wm (au a.cash a.cs) f h i j):=λaT=>a.Sp λj _=>by
   unfold wm
   by_cases ah:j=i
   ·subst ah;rw[ab (by omega),ab rfl];unfold Day.gI;rw[ab ⟨az,by rw[<-Iz];exact aT⟩]
   ·rw[ag ah]
    by_cases vg:j<i
    ·rw[ab vg,ab (by omega)]
    ·rw[ag vg,ag (by omega)]
  have mT:=λ(bd:Mem) (m8:(a.wf (wm (au a.cash a.cs) f h i)).eI bd)=>m8.aCp az ((au a.cash a.cs).jO h i 10)
  have uq:h i<((cO a.cs i (f i:Nat):Int):Rat)->(au a.cash a.cs).jO h i 10<10:=λaT=>by
   rw[Iz] at aT;have:=Y.sV i we;rcases Zn Y (h:=h) (i:=i) 10 (bX _) (by rw[my,Day.QI];exact ao i az) with ⟨-,e⟩|⟨-,e,-⟩
   ·grind
   ·exact e
  have aCz:=λaT=>aCo U h (D a.cash) i az (kV i az) (uq aT)
  have vU:=akq (bD 10 λk=>cO a.cs i (k+1:Nat)) (.solve (dC (D a.cash) h) i) ⟨by rw[gT];omega,by decide,by rw[pD];exact az,ZN (by omega) kV,λx O=>by
   obtain⟨k,-,rfl⟩:=dV.1 O;have:=U.upto i (k+1:Nat);exact o3 (by omega) (by omega)⟩
  simp only[rZ] at vU;generalize aMx:(bD 10 λk=>cO a.cs i (k+1:Nat))=SL at *;generalize Iw:(bD (D a.cash) λi=>Q.ptr (228500+i) (a.gs.getD i 0) 0)=xv at *;have aCA:(228500+i)/1000=228:=by omega
  generalize uN:228500+i=ed at *;generalize MP:fE ((a.gJ i).xt (f i))=DC at *;have Sq:(ed=217011)=False:=eq_false (by omega);have amj:(ed=217057)=False:=eq_false (by omega);have amk:(217057=ed)=False:=eq_false (by omega);have aMy:aq (h i)=aq (h i):=rfl;generalize aAD:aq (h i)=hI at *;generalize nw:aq ((cO a.cs i (f i:Nat):Int):Rat)=df at *;obtain⟨⟨c1,ee⟩,⟨jz,lq⟩⟩:=df;obtain⟨⟨cQ,de⟩,⟨ep,fe⟩⟩:=hI;simp only[aG] at hw pr;rcases hp:decide (((cO a.cs i (f i:Nat):Int):Rat)<=h i)
  ·have aT:h i<((cO a.cs i (f i:Nat):Int):Rat):=by have:=of_decide_eq_false hp;grind
   rw[ab aT] at Fj;rw[<-Fj] at dG;rw[aCz aT] at vU;simp only[<-aCy aT] at mT;have b5:(uI (au a.cash a.cs) f h (i+1)).length=(uI (au a.cash a.cs) f h i).length+1:=by rw[Fj,fQ];rfl
   have aml:∀cU:Mem,cU 217008=some (Nb,[.I (.X ((dC (D a.cash) h).map aG))])->cy 5 cU (.ptr 217008 Nb 0)=some (.ptr [.X ((dC (D a.cash) h).map aG)]):=λcU nx=>ami nx 4;have amm:∀(cU:Mem) (g:Nat),cU 217011=some (g,[.I (.int .i64 i)])->cy 5 cU (.ptr 217011 g 0)=some (.ptr [.int .i64 i]):=λcU g nx=>ami nx 4;have amn:=aCt 5 ed (a.gs.getD i 0) 1 12 10;simp only[go_sem,go_sem_proc,hM,cW,nh,ay,dp,bK,bH,eb,c8,hT,jj,AQ,eS,fl,Fi,jk,iy,bZ,hlen,mj,s8,eB,en,al,b1,az,hw,pr,BS,hp,AK,dG,abA,vU,aml,amm,amn,Sq,amj,amk,d1,bO,aG,bF,cD,ai,bh,kQ,scalar,nT,amo,amp];repeat' (first|refine ax ?_ ?_|fail)<;>intro h<;>simp only[h,go_sem,go_sem_proc,hM,cW,nh,ay,dp,bK,bH,eb,c8,hT,jj,AQ,eS,fl,Fi,jk,iy,bZ,hlen,mj,s8,eB,en,al,b1,az,hw,pr,BS,hp,AK,dG,abA,vU,aml,amm,amn,Sq,amj,amk,d1,bO,aG,bF,cD,ai,bh,kQ,scalar,nT,amo,amp]
   refine⟨(i+1,g+1),by dsimp only;omega,by dsimp only;omega,rfl,by rw[b5],rfl,mT _ (((cg.up aH (by decide)).up aH (by decide)).up aH (by decide)),λk E H af=>?_⟩
   rw[ag (show ¬ k=ed by intro M;rw[M] at E;exact E aCA),ag af,ag H,ag H];exact bW k E H af
  ·have aT:¬ h i<((cO a.cs i (f i:Nat):Int):Rat):=by have:=of_decide_eq_true hp;grind
   rw[ag aT] at Fj;simp only[go_sem,go_sem_proc,hM,cW,ay,dp,bK,bH,eb,c8,hT,jj,AQ,eS,fl,Fi,iy,bZ,hlen,mj,s8,en,al,b1,az,hw,pr,BS,hp,AK,Sq,d1,bO,aG,bF,cD,ai,bh];repeat' (first|refine ax ?_ ?_|fail)<;>intro h<;>simp only[h,go_sem,go_sem_proc,hM,cW,ay,dp,bK,bH,eb,c8,hT,jj,AQ,eS,fl,Fi,iy,bZ,hlen,mj,s8,en,al,b1,az,hw,pr,BS,hp,AK,Sq,d1,bO,aG,bF,cD,ai,bh]
   refine⟨(i+1,g),by dsimp only;omega,by dsimp only;omega,rfl,by rw[Fj],by rw[Fj];exact jk,?_,λk E H af=>?_⟩
   ·rw[aCx aT];exact (cg.up aH (by decide)).up aH (by decide)
   ·rw[ag H,ag H];exact bW k E H af
 ·have d1:decide ((i:Int)<(D a.cash:Int))=false:=c5;obtain rfl:i=D a.cash:=by omega
  rw[a.Sp (q:=(au a.cash a.cs).gI f h) λj ah=>by unfold wm;rw[ab ah]] at cg
  simp only[go_sem,go_sem_proc,ay,dp,bK,bH,eb,c8,hT,jj,AQ,d1];repeat' (first|refine ax ?_ ?_|fail)<;>intro h<;>simp only[h,go_sem,go_sem_proc,ay,dp,bK,bH,eb,c8,hT,jj,AQ,d1]
  refine dN _ _ g ?_ ?_ ?_ ?_ ?_ ?_ jk cg bW<;>simp only[e7,dW,if_false,ay,dp,bK,bH,eb,c8]
def abB (ak:List bg):List Rat:=ak.map B6
structure abC (cash:List Int) (cs:List aw) (ak:List bg):Prop where
 n:(D cash)<=1000000
 c:(D cs)<=1000000
 o:fY ak
 uM:kx cash cs=true->fz cash cs
 sz:kx cash cs=true->(D ak)=(D cash)->ak.any (pZ zI)=false->∀f∈ak,ec 460 (B6 f)
open Classical in
def abD (cash:List Int)(cs:List aw)(x:Nat->Rat):Bool:=decide (abr cash cs x)
open Classical in
theorem aCB {cash:List Int}{cs:List aw}{x:Nat->Rat}:abD cash cs x=true↔abr cash cs x:=by
 unfold abD;exact decide_eq_true_iff
def Sr (cash:List Int)(cs:List aw)(ak:List bg):Bool:=kx cash cs&&(decide (D ak=D cash)&&(!ak.any (pZ zI)&&abD cash cs λi=>(abB ak).getD i 0))
theorem amq:∀(a b:List Rat),(∀x∈a,dg x)->(∀x∈b,dg x)->(kD (a.map aq) (b.map aq)=true↔a=b)
 | [],[],_,_=>by simp[kD]
 | [],_::_,_,_=>by simp[kD]
 |_::_,[],_,_=>by simp[kD]
 |x::a,y::b,aM,ae=>by
  have aA:=amq a b (λz aW=>aM z (hf _ aW)) λz aW=>ae z (hf _ aW);rw[eC,eC,kD,e9,aA,a6,PW (aM x gF) (ae y gF)]
  have:(j9 x y==0)=true↔x=y:=by
   have E:=Z6 (x:=x) (y:=y);have H:=H4 (x:=x) (y:=y);rw[beq_iff_eq]
   constructor
   ·intro h;rw[h] at E H;have ay:¬ y<x:=of_decide_eq_false (E.symm.trans rfl);have aB:¬ x<y:=of_decide_eq_false (H.symm.trans rfl);grind
   ·intro h;have ay:¬ y<x:=by grind
    have aB:¬ x<y:=by grind
    rw[mo ay] at E;rw[mo aB] at H;have:=of_decide_eq_false E;have:=of_decide_eq_false H;omega
  rw[this]
structure IV (cash:List Int) (cs:List aw) (x:Nat->Rat) (l:List aw) (s:Nat->Rat):Prop where
 a:∀i,i<(D cash)->xE cash cs x i l=some (s i)
 l:∀i,i<(D cash)->dg (s i)
theorem IV.skip {cash:List Int}{cs:List aw}{x:Nat->Rat}{l:List aw}{s:Nat->Rat}(h:IV cash cs x l s){c:aw}(G:c.2.1<0):IV cash cs x (l++[c]) s:=by
 refine⟨λi J=>?_,h.l⟩;rw[M9,h.a i J];unfold IU;rw[ag (by omega)]
theorem IV.add {cash:List Int}{cs:List aw}{x:Nat->Rat}{l:List aw}{s:Nat->Rat}(h:IV cash cs x l s){c:aw}{t:Nat}(G:c.2.1=(t:Int))(M:lk (s t) (eG cs (x c.1.toNat) c)=true):IV cash cs x (l++[c]) λi=>if i=t then s t+eG cs (x c.1.toNat) c else s i:=by
 refine⟨λi J=>?_,λi J=>?_⟩
 ·rw[M9,h.a i J];unfold IU
  by_cases Nc:i=t
  ·subst Nc;rw[ab G,la,ab M,ab rfl]
  ·rw[ag (by omega),ag Nc]
 ·by_cases Nc:i=t
  ·rw[ab Nc];exact So M
  ·rw[ag Nc];exact h.l i J
theorem abE {cs:List aw}(cR:∀c∈cs,0<=c.2.2.2/\c.2.2.2<=1000000000000000)(jb:(D cs)<=12){x:Rat}(O:ec 460 x){c:aw}(G:c∈cs):dg (eG cs x c):=by
 have ae:∀(p:aw->Prop) [DecidablePred p],0<=cK cs (λc=>if p c then c.2.2.2 else 0)/\cK cs (λc=>if p c then c.2.2.2 else 0)<=12000000000000000:=λp _=>by
  have:=QU (cs:=cs) (aS:=λc=>if p c then c.2.2.2 else 0) (B:=1000000000000000) (by omega) λc G=>by
   have E:=cR c G
   try dsimp only
   split<;>omega
  omega
 have oe:=ae λc'=>c'.1=c.1/\c'.2.2.1<c.2.2.1;have cJ:=ae λc'=>c'.1=c.1/\c'.2.2.1=c.2.2.1;rw[<-aj4] at cJ;have aM:=cR c G;have Fe:ec 54 ((c.2.2.2:Int):Rat):=Aw (by omega);have IL:ec 54 ((kW cs c.1 c.2.2.1:Int):Rat):=Aw (by omega);have aCC:ec 54 ((cO cs c.1 c.2.2.1:Int):Rat):=Aw (by unfold cO;omega);unfold eG
 split
 ·exact iU Fe (by omega)
 ·have aCD:ec 515 (pos (x-((cO cs c.1 c.2.2.1:Int):Rat))):=by
   unfold pos
   split
   ·exact (show ec 1 0 from⟨by decide,by decide⟩).mono (by omega)
   ·rw[Lj];exact (aiB O (HS aCC)).mono (by omega)
  by_cases ao:((kW cs c.1 c.2.2.1:Int):Rat)=0
  ·rw[ao,HG,Rat.inv_zero,nF,Cv];exact iU (show ec 1 0 from⟨by decide,by decide⟩) (by omega)
  ·exact iU (Mm (awU Fe IL ao) aCD) (by omega)
abbrev abF:(List Int)×(List aw)×(List bg)->List Data:=λ(cash,cs,ak)=>[.X (cash.map ad),.X (cs.map ca),.X (ak.map aG)]
def amr:=cj abF λ(cash,cs,ak)=>cN (abC cash cs ak) (.same (.bool (Sr cash cs ak)))
theorem aCE:∀a b,abF a=abF b->a=b:=by
  rintro⟨uJ,uK,oH⟩ ⟨uL,n1,oI⟩ h;simp only[a6,Data.X.injEq,and_true] at h;exact dQ (map_inj fi _ _ h.1) (dQ (map_inj rU _ _ h.2.1) (map_inj nb _ _ h.2.2))
@[go_sem] theorem aCF (cash:List Int)(cs:List aw)(ak:List bg)(G:abC cash cs ak):amr [.X (cash.map ad),.X (cs.map ca),.X (ak.map aG)]=some (.same (.bool (Sr cash cs ak))):=(cu aCE (cash,cs,ak)).trans (cT G _)
theorem aCG {n:Nat}{f:Nat->Nat}(h:∀i,n<=i->f i=10):bJ (bD n λi=>(f i:Int))=f:=by
 funext i
 by_cases J:i<n
 ·exact aCq f J
 ·unfold bJ;rw[dZ,List.getElem?_eq_none (by rw[gT];omega),h i (by omega)];rfl
theorem aCH {d:Day}{f:Nat->Nat}{h:Nat->Rat}(gu:∀i,d.n<=i->f i=10):∀i,d.n<=i->d.gI f h i=10:=λi J=>by
 unfold Day.gI;rw[ag λx=>by omega,gu i J]
theorem abG (d:Day):∀k f,(d.rounds k f).1.length<=k
 |0,f=>bX _
 |k+1,f=>by
  rw[Day.rounds]
  split
  ·exact fs _
  ·have:=abG d k (d.gI f (d.top f));simp only[h8];omega
def r5 (l:List Nat):List Data:=[.X (l.map iG)]
theorem ams (l:List Nat):(r5 l).length=1:=rfl
theorem aCI (l:List Nat):((r5 l).map Q.I).all Q.one=true:=rfl
def y2 (done:List (List Nat))(g:Nat):Q:=if done=[] then .nil else .ref 217077 g 1 0 (D done)
structure amt (cash:List Int) (cs:List aw) (g:Nat) (gs:Nat->Nat) (f:Nat->Nat) (done:List (List Nat)) (nP:Nat) (m:Mem):Prop where
 at_:∃p,(((yY cash cs g gs).wf f).hN p).eI m
 out:∃lu,lu=0/\m 217007=some (lu,[.nil,.nil,y2 done nP])
 row:done≠[]->m 217077=some (nP,a8 r5 done)
 no:∀k:Nat,k/1000≠217->k/1000≠228->m k=none
 f10:∀i,D cash<=i->f i=10
 reach:Reach (au cash (dw (D cash) cs)) f
 jf:∃r,mV (D cash) f<=r/\(au cash (dw (D cash) cs)).jf=done++((au cash (dw (D cash) cs)).rounds r f).1/\(au cash (dw (D cash) cs)).hE=((au cash (dw (D cash) cs)).rounds r f).2
theorem aCJ (T:bb)(uS:T OL=py MS)(hM:T po=aV v5)(cW:T lF=aV sG)(nh:T wL=aV AE){K:eY->ba->Prop}{kk:List gD}(cash:List Int)(cs:List aw)(qO:fz cash cs)(g:Nat)(gs:Nat->Nat)(v1:Q)(tm:Nat->Q)(m:Mem)
  (ay:tm 1=v1) (dp:tm 4=.ptr 217004 0 0) (bK:tm 6=.ref 228023 g 1 0 (D cash)) (bH:tm 7=.ptr 217007 0 0) (qH:m 217004=some (0,[.nil,.nil,.nil])) (cg:amt cash cs g gs (λ_=>10) [] 0 m)
  (dN:∀tm' m' nP,tm' 1=v1->tm' 4=.ptr 217004 0 0->tm' 7=.ptr 217007 0 0->m' 217004=some (0,[.nil,.nil,.nil])->m' 217007=some (0,[.I (.X ((dC (D cash) (au cash (dw (D cash) cs)).bP).map aG)),.nil,y2 (au cash (dw (D cash) cs)).jf nP])->((au cash (dw (D cash) cs)).jf≠[]->m' 217077=some (nP,a8 r5 (au cash (dw (D cash) cs)).jf))->cB T K kk (.exit 0) ⟨tm',m'⟩) :
  wp T (Es.body.sub [1,1,1,1,0,0]) (cB T K kk) ⟨tm,m⟩:=by
 simp only[Es,eA.sub];have U:=Z2 qO;have aH:=U.jB;have Y:=U.ok;refine dm [1,4,6,7] [217004] (λ((f,done,nP):(Nat->Nat)×List (List Nat)×Nat) tm m=>amt cash cs g gs f done nP m) (λ(f,_)=>mV (D cash) f) (λ_=>10,[],0) (by exact cg) ?_;intro vs ms aR aN;simp only[go_sem,go_sem_proc,ay,dp,bK,bH,qH] at aR aN;subst aR aN;clear ay dp bK bH qH cg tm m;rintro⟨f,done,nP⟩ tm m M qH cg;simp only[go_sem,go_sem_proc,a6] at M qH;obtain⟨ay,dp,bK,bH⟩:=M;obtain⟨⟨p,cg⟩,⟨lu,rfl,amu⟩,eS,gq,we,amv,r,BJ,bC,yq⟩:=cg;dsimp only at *;have vb:=aCG we;have lY:=amv;obtain⟨amw,hinv,-⟩:=amv
 have e2:=aAE (((yY cash cs g gs).wf f).hN p) m ⟨cg,λk M=>gq k (by omega) (by omega),λk M=>gq k (by omega) (by omega),λk M=>gq k (by omega) (by omega),⟨U,λx O=>by
  obtain⟨i,-,rfl⟩:=dV.1 O;have:=hinv.le i;omega⟩,⟨amw,by show Inv (au cash (dw (D cash) cs)) (bJ (bD (D cash) λi=>(f i:Int))) amw;rw[vb];exact hinv⟩⟩
 have amx:MS [.ref 228023 g 1 0 (D cash)] m=some (RW (((yY cash cs g gs).wf f).hN p) m):=e2;simp only[go_sem,go_sem_proc,uS,ay,dp,bK,bH,amx];have bA:=Day.Cz (Y.hex f lY);have kV:∀i,i<(D cash)->dg ((au cash (dw (D cash) cs)).top f i):=λi J=>iU (ajD U lY J) (by omega);have ao:∀i,i<(D cash)->0<=(au cash (dw (D cash) cs)).top f i:=λi J=>bA.QS Y J;rintro amy mem' ⟨GW,oL,N5,amz⟩
 have aCK:amy=.cH [.I (.X ((dC (D cash) ((au cash (dw (D cash) cs)).top f)).map aG)),.I (.bool true)]:=by
  rw[GW];show Q.cH [.I (.X ((dC (D cash) ((au cash (dw (D cash) cs)).top (bJ (bD (D cash) λi=>(f i:Int))))).map aG)),.I (.bool true)]=_;rw[vb]
 clear GW e2 amx;subst aCK;have fJ:∀k:Nat,k/1000≠228->mem' k=m k:=λk M=>amz k λi J=>by have:i<D cash:=J;omega
 have oh:=(fJ 217004 (by decide)).trans qH;have qe:=(fJ 217007 (by decide)).trans amu;have ajI:(au cash (dw (D cash) cs)).ih f=uI (au cash (dw (D cash) cs)) f ((au cash (dw (D cash) cs)).top f) (D cash):=rfl
 have amA:(au cash (dw (D cash) cs)).ih f=[]->(au cash (dw (D cash) cs)).jf=done/\(au cash (dw (D cash) cs)).bP=(au cash (dw (D cash) cs)).top f:=λh=>by
  have:=(au cash (dw (D cash) cs)).awx h r;rw[this,fG] at bC;rw[this] at yq;exact⟨bC,by unfold Day.bP;rw[yq]⟩
 have vf:(au cash (dw (D cash) cs)).ih f≠[]->mV (D cash) ((au cash (dw (D cash) cs)).gI f ((au cash (dw (D cash) cs)).top f))<mV (D cash) f/\Reach (au cash (dw (D cash) cs)) ((au cash (dw (D cash) cs)).gI f ((au cash (dw (D cash) cs)).top f))/\(∀i,D cash<=i->(au cash (dw (D cash) cs)).gI f ((au cash (dw (D cash) cs)).top f) i=10)/\∃r,mV (D cash) ((au cash (dw (D cash) cs)).gI f ((au cash (dw (D cash) cs)).top f))<=r/\(au cash (dw (D cash) cs)).jf=(done++[(au cash (dw (D cash) cs)).ih f])++((au cash (dw (D cash) cs)).rounds r ((au cash (dw (D cash) cs)).gI f ((au cash (dw (D cash) cs)).top f))).1/\(au cash (dw (D cash) cs)).hE=((au cash (dw (D cash) cs)).rounds r ((au cash (dw (D cash) cs)).gI f ((au cash (dw (D cash) cs)).top f))).2:=λbI=>by
  have az:=Zq Y Y.hex lY bI;have hB:mV (D cash) ((au cash (dw (D cash) cs)).gI f ((au cash (dw (D cash) cs)).top f))<mV (D cash) f:=az;refine⟨hB,lY.next Y Y.hex,aCH (d:=au cash (dw (D cash) cs)) we,?_⟩
  cases r with
  |zero=>omega
  |succ r =>
   rw[Day.rounds,ag bI] at bC yq;exact⟨r,by omega,by rw[bC];simp,yq⟩
 generalize nn:au cash (dw (D cash) cs)=d at *;generalize rA:(dC (D cash) (d.top f)).map aG=V at *;simp only[go_sem,go_sem_proc,ay,dp,bK,bH,oh,qe,cP];subst nn;rw[<-rA];refine aCu T hM cW nh ((yY cash cs g gs).hN oL) U f (λi _=>hinv.le i) ((au cash (dw (D cash) cs)).top f) kV ao _ v1 (.ptr 217004 0 0) (.ptr 217007 0 0) (gE (mem' 217008)) (gE (mem' 217057)) _ _ ?_ ?_ ?_ ?_ ?_ ?_ ?_ ?_ ?_ (((show ((((yY cash cs g gs).hN oL).wf f)).eI mem' from N5).up aH (by decide)).up aH (by decide)|>.up aH (by decide)) ?_ ?_ (λ_ _ _ _=>rfl) ?_
 all_goals first|(intro MT cU ck b6 kj iF h2 h1 n7 y1 zp q1)|(simp only[e7,dW,if_false,if_true,ay,dp,bK,bH];done)|(simp only[e7,dW,if_false,if_true];rfl)|(simp only[e7,dW,if_false,if_true,ay,dp,bK,bH];rfl)|(simp only[a1,dW,if_false,if_true];done)|(simp only[a1,dW,if_false,if_true];rfl)|skip
 replace n7:MT 10=.ref 217057 ck 1 0 ((au cash (dw (D cash) cs)).ih f).length:=n7;replace y1:cU 217057=some (ck,a8 iG ((au cash (dw (D cash) cs)).ih f)):=y1;replace iF:MT 6=.ref 228023 g 1 0 (D cash):=iF;replace zp:(((yY cash cs g gs).hN oL).wf ((au cash (dw (D cash) cs)).gI f ((au cash (dw (D cash) cs)).top f))).eI cU:=zp;have IW:cU 217004=some (0,[.nil,.nil,.nil]):=(q1 217004 (by decide) (by decide) (by decide)).trans (by simp only[a1,dW,if_false];exact oh);have xB:cU 217007=some (0,[.nil,.nil,y2 done nP]):=(q1 217007 (by decide) (by decide) (by decide)).trans (by simp only[a1,dW,if_false];exact qe);have abH:cU 217008=some (gE (mem' 217008),[.I (.X V)]):=(q1 217008 (by decide) (by decide) (by decide)).trans (by simp only[a1,dW,if_false,if_true];rw[rA]);have amB:done≠[]->cU 217077=some (nP,a8 r5 done):=λh=>(q1 217077 (by decide) (by decide) (by decide)).trans (by simp only[a1,dW,if_false];exact (fJ 217077 (by decide)).trans (eS h));have xF:∀(k j:Nat),k/1000≠217->j/1000=217->k≠j:=λk j E H h=>E (h ▸ H)
 have aCL:∀k:Nat,k/1000≠217->k/1000≠228->cU k=none:=λk E H=>(q1 k H (xF k _ E (by decide)) (xF k _ E (by decide))).trans (by
  rw[dn (xF k _ E (by decide)),dn (xF k _ E (by decide)),dn (xF k _ E (by decide))];exact (fJ k H).trans (gq k E H))
 clear q1 fJ N5 amz oh qe amu eS gq qH ay dp bK bH bC yq
 by_cases bI:(au cash (dw (D cash) cs)).ih f=[]
 ·obtain⟨E,H⟩:=amA bI;rw[bI] at n7;rw[E,H] at dN;have nY:(((0:Nat):Int)==0)=true:=rfl;simp only[go_sem,go_sem_proc,b6,kj,iF,h2,h1,n7,IW,xB,abH,nY,k9,rN];refine dN _ _ nP ?_ ?_ ?_ ?_ ?_ λh=>?_
  ·simp only[e7,dW,if_false];exact b6
  ·simp only[e7,dW,if_false];exact kj
  ·simp only[e7,dW,if_false];exact h2
  ·simp only[a1,dW,if_false];exact IW
  ·simp only[a1,dW,if_true];rw[rA]
  ·simp only[a1,dW,if_false];exact amB h
 ·obtain⟨E,H,af,aP⟩:=vf bI;have aCv:((au cash (dw (D cash) cs)).ih f).length<=6:=eQ (om _ _) (by rw[sn];exact aH)
  have nY:((((au cash (dw (D cash) cs)).ih f).length:Int)==0)=false:=by
   have:((au cash (dw (D cash) cs)).ih f).length≠0:=λh=>bI (CT.1 h);rw[beq_eq_false_iff_ne];omega
  have kl:=λ(K:ba->Prop) (st:ba)=>mJ (K:=K) (st:=st) yJ 10 217057 ck ((au cash (dw (D cash) cs)).ih f);have mz:(1<=maxLen)=True:=eq_true (by decide);generalize Ty:(au cash (dw (D cash) cs)).ih f=aD at *;clear amA vf dN;have amC:∀(bd:Mem),(∀k:Nat,k/1000≠217->bd k=cU k)->∀k:Nat,k/1000≠217->k/1000≠228->bd k=none:=λbd m8 k E H=>(m8 k E).trans (aCL k E H)
  by_cases kv:done=[]
  ·subst kv;have Nd:y2 [] nP=.nil:=rfl;rw[Nd] at xB;simp only[go_sem,go_sem_proc,b6,kj,iF,h2,h1,n7,IW,xB,abH,y1,nY,kl,mz];refine⟨(_,[aD],gE (cU 217077)),E,⟨⟨oL,((zp.up aH (by decide)).up aH (by decide)).up aH (by decide)⟩,⟨0,rfl,?_⟩,λ_=>?_,?_,af,H,aP⟩⟩
   ·rw[iI];rfl
   ·rw[dn (by decide),iI];rfl
   ·exact amC _ λk M=>by rw[dn (xF k _ M (by decide)),dn (xF k _ M (by decide)),dn (xF k _ M (by decide))]
  ·have Nd:y2 done nP=.ref 217077 nP 1 0 (D done):=by unfold y2;rw[ag kv]
   rw[Nd] at xB;have Ss:=amB kv
   have TS:(D done)+1<=60:=by
    obtain⟨FH,-,bt,-⟩:=aP;have bU:=abG (au cash (dw (D cash) cs)) (10*(au cash (dw (D cash) cs)).n) λ_=>10;have bM:(au cash (dw (D cash) cs)).jf.length<=10*D cash:=bU;rw[bt] at bM;simp only[fQ,Cg] at bM;omega
   have dG:=mI ams aCI 217077 nP 24 done aD (cs:=[.I (.X (aD.map iG))]) rfl (by omega) (by omega);simp only[go_sem,go_sem_proc,b6,kj,iF,h2,h1,n7,IW,xB,abH,y1,Ss,nY,kl,dG];refine⟨(_,done++[aD],nP+1),E,⟨⟨oL,((zp.up aH (by decide)).up aH (by decide)).up aH (by decide)⟩,⟨0,rfl,?_⟩,λ_=>?_,?_,af,H,aP⟩⟩
   ·rw[iI];unfold y2;rw[ag (by simp),fQ];rfl
   ·rw[dn (by decide),iI]
   ·exact amC _ λk M=>by rw[dn (xF k _ M (by decide)),dn (xF k _ M (by decide)),dn (xF k _ M (by decide))]

theorem Alike.bP {d e:Day}(h:Alike d e):d.bP=e.bP:=by unfold Day.bP Day.hE;rw[h.top,h.rounds,h.n]
theorem Alike.jf {d e:Day}(h:Alike d e):d.jf=e.jf:=by unfold Day.jf;rw[h.rounds,h.n]
structure St (cash:List Int) (cs:List aw):Prop where
 n:(D cash)<=1000000
 c:(D cs)<=1000000
 uM:kx cash cs=true->fz cash cs
def nQ (cash:List Int)(cs:List aw):List bg:=cs.map λc=>aq (eG cs ((au cash cs).bP c.1.toNat) c)
def lv (cash:List Int)(cs:List aw):List bg:=dC (D cash) (au cash cs).bP
def Fk (cash:List Int)(cs:List aw):Data:=if kx cash cs=true then .cH [.agg [.X ((lv cash cs).map aG),.X ((nQ cash cs).map aG),.X ((au cash cs).jf.map r5)],.int .i64 0] else .cH [.agg [.X [],.X [],.X []],.int .i64 1]
theorem aCM {cash:List Int}{cs:List aw}(U:fz cash cs):CU cs ((dU (D cash)).map (au cash cs).bP):=by
 have aa:=(gQ.1 U.right).2.2.2;have aH:=U.jB;refine⟨U.qY,by simp;exact aH,λc G=>?_,λx O=>?_⟩
 ·have E:=aa c G;have H:=U.am c G;rw[ai,sn];omega
 ·obtain⟨i,J,rfl⟩:=dV.1 O;have ks:=g2.1 J;exact⟨Mt U.ok ks,(Au U ks).mono (by omega)⟩
theorem aCN {cash:List Int}{cs:List aw}(U:fz cash cs):(cs.map λc=>aq (eG cs (((dU (D cash)).map (au cash cs).bP).getD c.1.toNat 0) c))=nQ cash cs:=m3 λc G=>by
 have E:=(gQ.1 U.right).2.2.2 c G;have:((dU (D cash)).map (au cash cs).bP).getD c.1.toNat 0=(au cash cs).bP c.1.toNat:=AM (au cash cs).bP 0 (show c.1.toNat<(D cash) by omega);rw[this]
def Su:=cj RA λ(cash,cs)=>cN (St cash cs) (.same (Fk cash cs))
@[go_sem] theorem abI (cash:List Int)(cs:List aw)(G:St cash cs):Su [.X (cash.map ad),.X (cs.map ca)]=some (.same (Fk cash cs)):=(cu akt (cash,cs)).trans (cT G _)
theorem aCO (T:bb)(y3:T UA=aV aaT)(y4:T UB=py abf)(uS:T OL=py MS)(hM:T po=aV v5)(cW:T lF=aV sG)(nh:T wL=aV AE)(y5:T UC=aV Sn)(cash:List Int)(cs:List aw)(G:St cash cs):WP T Es (.same (Fk cash cs)) [.I (.X (cash.map ad)),.I (.X (cs.map ca))]:=by
 refine cv ?_;simp only[Es];obtain⟨jF,oU,xp⟩:=G;unfold Fk;rcases aa:kx cash cs
 ·rw[ag (by decide)];simp only[go_sem,go_sem_proc,y3,y4,uS,hM,cW,nh,y5,jF,oU,aa,du];repeat' (first|refine ax ?_ ?_|fail)<;>intro h<;>simp only[h,go_sem,go_sem_proc,y3,y4,uS,hM,cW,nh,y5,jF,oU,aa,du]
 ·rw[ab rfl];have U:=xp aa;have aH:=U.jB;have CV:=ajw aa
  have gq:rW 228 (a1 emp 217004 0 [Q.nil,Q.nil,Q.nil]):=λk M=>by
   rw[dn (by rintro rfl;omega)];rfl
  have e2:=aAX cash cs (a1 emp 217004 0 [Q.nil,Q.nil,Q.nil]) ⟨U,gq⟩;simp only[go_sem,go_sem_proc,y3,y4,uS,hM,cW,nh,y5,jF,oU,aa,e2,cP];rintro amy m ⟨g,gs,rfl,cg,bW⟩;dsimp only at cg;have qH:m 217004=some (0,[.nil,.nil,.nil]):=(bW 217004 (by decide)).trans iI;have ll:m 217007=none:=(bW 217007 (by decide)).trans (dn (by decide));simp only[go_sem,go_sem_proc,y3,y4,uS,hM,cW,nh,y5,ll];refine aCJ T uS hM cW nh cash cs U g gs (.I (.X (cs.map ca))) _ _ ?_ ?_ ?_ ?_ ?_ ⟨⟨λ_=>false,?_⟩,⟨0,rfl,?_⟩,λh=>absurd rfl h,?_,λ_ _=>rfl,Reach.start (Z2 U).ok,⟨10*D cash,?_,rfl,rfl⟩⟩ ?_
  all_goals first|(intro MT cU nP b6 kj h2 oh qe Ss)|(simp only[e7,dW,if_false,if_true];done)|(simp only[e7,dW,if_false,if_true];rfl)|(simp only[a1,dW,if_false,if_true];done)|(simp only[a1,dW,if_false,if_true];rfl)|(simp only[a1,dW,if_false,if_true];exact qH)|skip
  ·exact cg.up aH (by decide)
  ·intro k E H;rw[dn (by rintro rfl;exact E (by decide)),bW k H,dn (by rintro rfl;exact E (by decide))];rfl
  ·rw[ajy];exact bX _
  rw[<-CV.bP,<-CV.jf] at qe;rw[<-CV.jf] at Ss;have Fl:=aBX cs ((dU (D cash)).map (au cash cs).bP) (aCM U);rw[aCN U] at Fl;replace Fl:Sn [.X (cs.map ca),.X ((lv cash cs).map aG)]=some (.same (.cH [.X ((nQ cash cs).map aG),.bool true])):=Fl;replace qe:cU 217007=some (0,[.I (.X ((lv cash cs).map aG)),.nil,y2 (au cash cs).jf nP]):=qe;generalize lv cash cs=Nf at *;generalize nQ cash cs=y0 at *;generalize (au cash cs).jf=IX at *;clear CV e2 cg bW qH ll
  by_cases uu:IX=[]
  ·subst uu;replace qe:cU 217007=some (0,[.I (.X (Nf.map aG)),.nil,.nil]):=qe;simp only[go_sem,go_sem_proc,y3,y4,uS,hM,cW,nh,y5];refine aba ?_;rintro bd rfl;simp only[go_sem,go_sem_proc,y3,y4,uS,hM,cW,nh,y5,b6,kj,h2,oh,qe,Fl,cP,cS];repeat' (first|refine ax ?_ ?_|fail)<;>intro h<;>simp only[h,go_sem,go_sem_proc,y3,y4,uS,hM,cW,nh,y5,b6,kj,h2,oh,qe,Fl,cP,cS]
  ·have Fi:=Ss uu;have Nd:y2 IX nP=.ref 217077 nP 1 0 (D IX):=by unfold y2;rw[ag uu]
   rw[Nd] at qe;simp only[go_sem,go_sem_proc,y3,y4,uS,hM,cW,nh,y5];refine aa9 (sd.NS 217007 0 _ 2 217077 nP 1 0 (D IX) _ (.X (IX.map r5)) qe rfl Fi (by decide) (qz (n:=0) ams Fi)) ?_;intro bd m8;have amD:bd 217007=some (0,[.I (.X (Nf.map aG)),.nil,.I (.X (IX.map r5))]):=by rw[m8,iI];rfl
   have amE:bd 217004=some (0,[.nil,.nil,.nil]):=by
    rw[m8,dn (by decide)];unfold kill;rw[dn (by decide)];exact oh
   clear m8;simp only[go_sem,go_sem_proc,y3,y4,uS,hM,cW,nh,y5,b6,kj,h2,amE,amD,Fl,cP];repeat' (first|refine ax ?_ ?_|fail)<;>intro h<;>simp only[h,go_sem,go_sem_proc,y3,y4,uS,hM,cW,nh,y5,b6,kj,h2,amE,amD,Fl,cP]
theorem aCP (cs:List aw)(w:Int):(cG cs w).length<=D cs:=by unfold cG;exact om _ _
section
variable {cash:List Int} {cs:List aw} (U:fz cash cs)
include U
theorem abJ:fY (lv cash cs):=by
 have:=U.jB;exact ZN (by omega) λi J=>iU (Au U J) (by omega)
theorem aCQ:(lv cash cs).any (pZ zI)=false/\abB (lv cash cs)=(dU (D cash)).map (au cash cs).bP:=by
 refine⟨?_,?_⟩
 ·rw[xj];intro f aK;obtain⟨y,ar,rfl⟩:=dV.1 aK;obtain⟨i,J,rfl⟩:=dV.1 ar;have ks:i<D cash:=g2.1 J;have av:=iU (Au U ks) (by omega);have aH:=Mt U.ok ks;rw[agy];show ¬ (!ei (aq ((au cash cs).bP i))||decide ((aq ((au cash cs).bP i)).1.1<0))=true;rw[HW av];have:decide ((au cash cs).bP i<0)=false:=mo (by grind);rw[<-aj7] at this;have H:decide ((aq ((au cash cs).bP i)).1.1<0)=false:=this;rw[H];decide
 ·unfold abB lv dC;rw[m4];exact (m3 λx _=>Eg x).trans (List.map_id _)
theorem aCR:abC cash cs (lv cash cs)/\Sr cash cs (lv cash cs)=true:=by
 obtain⟨E,H⟩:=aCQ U;have aH:=U.jB;have jb:=U.qY;refine⟨⟨by omega,by omega,abJ U,λ_=>U,λ_ _ _ f aK=>?_⟩,?_⟩
 ·obtain⟨y,ar,rfl⟩:=dV.1 aK;obtain⟨i,J,rfl⟩:=dV.1 ar;rw[Eg];exact (Au U (g2.1 J)).mono (by omega)
 ·unfold Sr;have av:(lv cash cs).length=D cash:=pD _ _;rw[U.right,E,lU av,g1,g1,du,g1,aCB,H];intro i J;have O:=amb U i J
  have k1:xE cash cs (λi=>((dU (D cash)).map (au cash cs).bP).getD i 0) i cs=xE cash cs (au cash cs).bP i cs:=by
   have aa:=(gQ.1 U.right).2.2.2
   have key:∀n (l:List aw),D l=n->(∀c∈l,c∈cs)->xE cash cs (λi=>((dU (D cash)).map (au cash cs).bP).getD i 0) i l=xE cash cs (au cash cs).bP i l:=by
    intro n
    induction n with
    |zero=>intro l av _;rw[CT.1 av];rfl
    |succ n aA =>
     intro l av hm;rcases Bu l with ao|⟨m,c,rfl⟩
     ·subst ao;cases av
     ·rw[Bv] at *;simp only[fQ,Cg] at av;have G:=aa c (hm c (by simp));rw[M9,M9,aA m (by omega) λy ar=>hm y (by simp[ar])];unfold IU;have:((dU (D cash)).map (au cash cs).bP).getD c.1.toNat 0=(au cash cs).bP c.1.toNat:=AM (au cash cs).bP 0 (show c.1.toNat<(D cash) by omega);simp only[this]
   exact key _ cs rfl λc G=>G
  rw[k1,O];show _=some ((bD (D cash) (au cash cs).bP).getD i 0);rw[AM (au cash cs).bP 0 J]
end
theorem aCS (l:List (List Nat)):l.map r5=(l.map λr=>r.map λn=>((n:Nat):Int)).map o4:=by
 rw[m4];refine m3 λr _=>?_;simp only[r5,o4,Function.comp_apply,m4]
 rfl
theorem aCT {x:Rat}(O:dg x):vK [.agg (aG (aq x))]=some (.same (.bool true)):=by
 have E:=kS O;have:=ath (aq x).1.1 (aq x).1.2 (aq x).2.1 (aq x).2.2 ⟨E.1,E.2⟩;rw[show ei (((aq x).1.1,(aq x).1.2),((aq x).2.1,(aq x).2.2))=true from HW O] at this;exact this
theorem amF (x:Rat):j9 x x=0:=W1.2 rfl
structure IY (cash:List Int) (cs:List aw) (ak bE:List Int) (aD:List (List Int)):Prop where
 s:fz cash cs
 h:lv cash cs=ak.map λn:Int=>aq (n:Rat)
 p:nQ cash cs=bE.map λn:Int=>aq (n:Rat)
 f:((au cash cs).jf.map λr=>r.map λn=>((n:Nat):Int))=aD
 J:∀n∈ak,dA n
 pi:∀n∈bE,dA n
 o:ayR aD
theorem IY.solve {cash:List Int}{cs:List aw}{ak bE:List Int}{aD:List (List Int)}(h:IY cash cs ak bE aD):Su [.X (cash.map ad),.X (cs.map ca)]=some (.same (.cH [.agg [.X ((ak.map λn:Int=>aq (n:Rat)).map aG),.X ((bE.map λn:Int=>aq (n:Rat)).map aG),.X (aD.map o4)],.int .i64 0])):=by
 have aH:=h.s.jB;have jb:=h.s.qY;have y6:=abI cash cs ⟨by omega,by omega,λ_=>h.s⟩
 unfold Fk at y6;rw[ab h.s.right,h.h,h.p,aCS,h.f] at y6;exact y6
theorem IY.fits {cash:List Int}{cs:List aw}{ak bE:List Int}{aD:List (List Int)}(h:IY cash cs ak bE aD):amr [.X (cash.map ad),.X (cs.map ca),.X ((ak.map λn:Int=>aq (n:Rat)).map aG)]=some (.same (.bool true)):=by
 obtain⟨E,H⟩:=aCR h.s;have:=aCF cash cs (lv cash cs) E;rw[H,h.h] at this;exact this
theorem IY.small {cash:List Int}{cs:List aw}{ak bE:List Int}{aD:List (List Int)}(h:IY cash cs ak bE aD):(D ak)<=6/\D bE<=12:=by
 have E:=congrArg D h.h;have H:=congrArg D h.p;unfold lv at E;unfold nQ at H;rw[pD,ai] at E;rw[ai,ai] at H;have aH:=h.s.jB;have jb:=h.s.qY;omega
end Go.Mini
namespace Go.Mini
open Classical
def ay:Day:=au [5,0] [(0,1,0,10),(1,-1,0,4)]
def aB:Day:=au [0,0] [(0,1,1,10),(1,0,1,10)]
def dp:Day:=au [9] [(0,-1,0,6),(0,-1,1,2),(0,-1,1,4)]
def bG:Day:=au [0,0] [(0,1,1,10),(1,0,1,10),(0,-1,0,5)]
def cL:Day:=au [10,30] [(1,-1,0,25)]
def bK:Day:=au [10,0] [(0,1,0,30)]
def bH:Day:=au [30,0] [(0,1,0,30)]
end Go.Mini
namespace Go.Mini
open Go

end Go.Mini
namespace Go.Mini
open Classical
section
variable {cash:List Int} {cs:List aw} (U:fz cash cs)
include U
omit U in
theorem aCU {n:Nat}(aH:n<=D cash):bx n (au cash cs).cash=(((cash.take n).foldl (·+·) 0:Int):Rat):=by
 induction n with
 |zero=>rw[mH];rfl
 |succ n aA =>
  have O:cash[n]?=some cash[n]:=bu (by omega);rw[bx,aA (by omega),hk,O];rw[abK,Na,Bb,List.foldl_nil,uz]
  congr 1
  show ((cash.getD n 0:Int):Rat)=_;rw[dZ,O];rfl
end
end Go.Mini
namespace Go.Mini
open Go
def abL:=cj Sm λ(l,q)=>cN (Rr l q) (.same (H9 l q))
@[go_sem] theorem aCV (l:List aw)(q:List Rat)(G:Rr l q):abL [.X (l.map ca),.X ((q.map aq).map aG)]=some (.same (H9 l q)):=(cu al3 (l,q)).trans (cT G _)
theorem aCW (T:bb)(o7:T Kx=aV R7)(fI:T l5=aV vK)(mY:T vt=aV HY)(cW:T lF=aV sG)(l:List aw)(q:List Rat)(G:Rr l q):WP T ZV (.same (H9 l q)) [.I (.X (l.map ca)),.I (.X ((q.map aq).map aG))]:=by
 refine cv ?_;simp only[ZV];obtain⟨how,hlen,kV⟩:=G;have jb:=how.len;have h6:∀c∈l,0<=c.2.2.1/\c.2.2.1<10:=λc G=>by have:=how.c c G;omega
 have hle:((D q:Int)==(D l:Int))=true:=by rw[hlen];exact beq_self_eq_true _
 simp only[go_sem,go_sem_proc,o7,fI,mY,cW,how,hle,ai,bne,cP];refine dm [1,19,20] [] (λ(i:Nat) tm m=>i<=D l/\tm 21=.I (.int .i64 i)/\tm 6=.I (.int .i64 (ik l (λi=>q.getD i 0) i))) (λi=>D l-i) 0 (by refine⟨by omega,rfl,rfl⟩) ?_;intro vs ms aR aN;simp only[go_sem,go_sem_proc,o7,fI,mY,cW,ai] at aR aN;subst aR aN;rintro i tm m M-⟨J,pv,bK⟩;simp only[go_sem,go_sem_proc,o7,fI,mY,cW,a6] at M;obtain⟨ay,jE,ml⟩:=M;rcases dv (i<D l) with az|b2
 ·have d1:decide ((i:Int)<(D l:Int))=true:=dj;have bO:=eZ (i:=i) (by omega);obtain⟨⟨aI,c2,c3,c4⟩,O⟩:∃c,l[i]?=some c:=⟨_,bu az⟩;obtain⟨x,ar⟩:∃x,q[i]?=some x:=⟨_,bu (by omega)⟩;have G:=how.c _ (eg O);have av:=kV x (eg ar);dsimp only at G;have ct:dA c4:=o3 (by omega) (by omega);have cQ:=aCT av;have de:=M0 ct;have ep:=yR av (qb ct);have aH:decide (j9 x ((c4:Int):Rat)<0)=decide (x<((c4:Int):Rat)):=H4;have wy:q.getD i 0=x:=by rw[dZ,ar];rfl
  have rK:ik l (λi=>q.getD i 0) (i+1)=if x<((c4:Int):Rat) then min (ik l (λi=>q.getD i 0) i) c3 else ik l (λi=>q.getD i 0) i:=by
   rw[ik,O];dsimp only;rw[wy]
  have amG:(q.map aq)[i]?=some (aq x):=by rw[bh,ar];rfl
  generalize q.map aq=QE at *;generalize aq x=aS at *;generalize aq ((c4:Int):Rat)=bN at *;obtain⟨⟨f1,f2⟩,⟨f3,f4⟩⟩:=aS;obtain⟨⟨cE,ck⟩,⟨hj,kg⟩⟩:=bN;simp only[aG] at cQ de ep;rcases b6:decide (x<((c4:Int):Rat))
  ·rw[b6] at aH;rw[ag (of_decide_eq_false b6)] at rK;refine aY ?_;repeat' (intro h<;>simp only[h,go_sem,go_sem_proc,o7,fI,mY,cW,ay,bK,jE,ml,pv,O,amG,d1,bO,cQ,de,ep,aH,ca,aG,ai,bh,cP]<;>try refine ax ?_ ?_)
   exact⟨i+1,by omega,by omega,rfl,by rw[rK]⟩
  ·rw[b6] at aH;rw[ab (of_decide_eq_true b6)] at rK;have aCX:(if c3<ik l (λi=>q.getD i 0) i then c3 else ik l (λi=>q.getD i 0) i)=min (ik l (λi=>q.getD i 0) i) c3:=by rw[Int.min_def];split<;>split<;>omega
   refine aY ?_;repeat' (intro h<;>simp only[h,go_sem,go_sem_proc,o7,fI,mY,cW,ay,bK,jE,ml,pv,O,amG,d1,bO,cQ,de,ep,aH,ca,aG,ai,bh,cP]<;>try refine ax ?_ ?_)
   exact⟨i+1,by omega,by omega,rfl,by rw[rK,aCX]⟩
 ·have d1:decide ((i:Int)<(D l:Int))=false:=c5;obtain rfl:i=D l:=by omega
  have ae:=akl (q:=λi=>q.getD i 0) h6 (D l);unfold H9;generalize ik l (λi=>q.getD i 0) (D l)=s at *;rcases b6:(s==10)
  ·rw[ab (by have:=ne_of_beq_false b6;omega)];refine aY ?_;repeat' (intro h<;>simp only[h,go_sem,go_sem_proc,o7,fI,mY,cW,ay,bK,jE,ml,pv,d1,b6,ai]<;>try refine ax ?_ ?_)
  ·rw[ag (by have:=eq_of_beq b6;omega)];refine aY ?_;repeat' (intro h<;>simp only[h,go_sem,go_sem_proc,o7,fI,mY,cW,ay,bK,jE,ml,pv,d1,b6,ai]<;>try refine ax ?_ ?_)
def uT (cash:List Int)(cs:List aw)(i:Nat):List Rat:=(cG cs i).map λc=>eG cs ((au cash cs).bP i) c
section
variable {cash:List Int} {cs:List aw} (U:fz cash cs) {i:Nat}
include U
theorem Sv {c:aw}(G:c∈cG cs i):eG cs ((au cash cs).bP i) c=(au cash cs).fv (au cash cs).bP (cA c):=by
 obtain⟨E,H⟩:=ot.1 G;rw[yU U.right _ E,H,lH]
theorem aCY {x:Rat}(O:x∈uT cash cs i):ec 482 x:=by
 obtain⟨c,G,rfl⟩:=dV.1 O;rw[Sv U G];exact Mu U (ot.1 G).1
theorem aCZ (J:i<D cash):ik (cG cs i) (λk=>(uT cash cs i).getD k 0) (cG cs i).length<10↔(au cash cs).bP i<(au cash cs).bz i 10:=by
 have h6:∀c∈cG cs i,0<=c.2.2.1/\c.2.2.1<10:=λc G=>by have:=(U.own i).c c G;omega
 rw[ayT h6,<-ax8 U.ok (Mt U.ok J)]
 constructor
 ·rintro⟨k,M,c,G,az⟩;have hm:=eg G;have e:(uT cash cs i).getD k 0=eG cs ((au cash cs).bP i) c:=by unfold uT;rw[dZ,bh,G];rfl
  try dsimp only at az
  rw[e,Sv U hm] at az;have H:=(ot.1 hm).2;exact⟨cA c,p9 (ot.1 hm).1,by show c.1.toNat=i;omega,az⟩
 ·rintro⟨b,ae,bW,az⟩;obtain⟨c,G,rfl⟩:=dV.1 ae;have E:=((gQ.1 U.right).2.2.2 c G).1;have hm:c∈cG cs i:=ot.2 ⟨G,by have:c.1.toNat=i:=bW;omega⟩
  obtain⟨k,M,he⟩:=List.getElem_of_mem hm;have a9:(cG cs i)[k]?=some c:=by rw[bu M,he]
  have e:(uT cash cs i).getD k 0=eG cs ((au cash cs).bP i) c:=by unfold uT;rw[dZ,bh,a9];rfl
  refine⟨k,M,c,a9,?_⟩
  try dsimp only
  rw[e,Sv U hm];exact az
end
def td (cash:List Int)(i:Nat):Int:=(cash.take i).foldl (·+·) 0
theorem amH {cash:List Int}{i:Nat}{x:Int}(h:cash[i]?=some x):td cash (i+1)=td cash i+x:=by
 unfold td;rw[hk,h,abK,Na];rfl
theorem aC0 {cash:List Int}(h:∀x∈cash,0<=x/\x<=1000000000000000):∀i:Nat,i<=(D cash)->0<=td cash i/\td cash i<=i*1000000000000000:=by
 intro i
 induction i with
 |zero =>
  intro _;have ao:td cash 0=0:=by unfold td;rw[mH];rfl
  rw[ao];omega
 |succ i aA =>
  intro J;have O:cash[i]?=some cash[i]:=bu (by omega);have E:=h _ (eg O);have H:=aA (by omega);rw[amH O];omega
theorem aC1 {cash:List Int}{cs:List aw}(U:fz cash cs){n:Nat}(aH:n<=D cash):bx n (au cash cs).cash=((td cash n:Int):Rat):=aCU aH
def Sw:=cj DV λ(a,b)=>some (.same (.bool (decide (a<b))))
@[go_sem] theorem aC2 (a:Int)(b:Int):Sw [.int .i64 a,.int .i64 b]=some (.same (.bool (decide (a<b)))):=cu KO (a,b)
theorem aC3 (T:bb)(VE:T DL=aV O0)(a:Int)(b:Int):WP T Vo (.same (.bool (decide (a<b)))) [.I (.int .i64 a),.I (.int .i64 b)]:=by
 refine cv ?_;simp only[Vo];refine aY ?_;repeat' (intro h<;>simp only[h,go_sem,go_sem_proc,VE]<;>try refine ax ?_ ?_)
abbrev Sx:(List Int)×(List Int)->List Data:=λ(l,m)=>[.X (l.map ad),.X (m.map ad)]
def abM:=cj Sx λ(l,m)=>cN (D l<=1000000/\D m<=1000000) (.same (.bool (decide (l=m))))
theorem amI:∀a b,Sx a=Sx b->a=b:=by
  rintro⟨en,dJ⟩ ⟨al,cU⟩ h;simp only[a6,Data.X.injEq,and_true] at h;exact dQ (map_inj fi _ _ h.1) (map_inj fi _ _ h.2)
@[go_sem] theorem aC4 (l:List Int)(m:List Int)(G:(D l)<=1000000/\D m<=1000000):abM [.X (l.map ad),.X (m.map ad)]=some (.same (.bool (decide (l=m)))):=(cu amI (l,m)).trans (cT G _)
theorem aC5 (T:bb)  (l:List Int) (m:List Int) (G:(D l)<=1000000/\D m<=1000000):WP T Vx (.same (.bool (decide (l=m)))) [.I (.X (l.map ad)),.I (.X (m.map ad))]:=by
 refine cv ?_;simp only[Vx];obtain⟨E,H⟩:=G;rcases q:((D l:Int)==(D m:Int))
 ·have bI:decide (l=m)=false:=mo λe=>by rw[e,beq_self_eq_true] at q;cases q
  refine aY ?_;repeat' (intro h<;>simp only[h,go_sem,go_sem_proc,q,bI,ai,bne,du]<;>try refine ax ?_ ?_)
 have av:(D l)=D m:=by have:=eq_of_beq q;omega
 simp only[go_sem,go_sem_proc,q,ai,bne,cP];refine dm [0,1,12] [] (λ(i:Nat) tm _=>i<=D l/\l.take i=m.take i/\tm 13=.I (.int .i64 i)) (λi=>D l-i) 0 (by refine⟨by omega,by simp,rfl⟩) ?_;intro vs ms aR aN;simp only[go_sem,go_sem_proc,ai] at aR aN;subst aR aN;rintro i tm mem M-⟨J,bA,ie⟩;simp only[go_sem,go_sem_proc,a6] at M;obtain⟨bm,ay,eh⟩:=M;rcases dv (i<D l) with az|b2
 ·have d3:decide ((i:Int)<(D l:Int))=true:=dj;have bO:=eZ (i:=i) (by omega);obtain⟨x,O⟩:∃x,l[i]?=some x:=⟨_,bu az⟩;obtain⟨y,ar⟩:∃y,m[i]?=some y:=⟨_,bu (by omega)⟩;rcases fb:(x==y)
  ·have bI:decide (l=m)=false:=mo λe=>by
    rw[e,ar] at O
    cases O;rw[beq_self_eq_true] at fb
    cases fb
   refine aY ?_;repeat' (intro h<;>simp only[h,go_sem,go_sem_proc,bm,ay,eh,ie,O,ar,d3,fb,bI,ad,ai,bh,h8,k9,kH,bne,du]<;>try refine ax ?_ ?_)
  ·obtain rfl:x=y:=eq_of_beq fb;refine aY ?_;repeat' (intro h<;>simp only[h,go_sem,go_sem_proc,bm,ay,eh,ie,O,ar,d3,bO,fb,ad,ai,bh,h8,k9,kH,bne,cP]<;>try refine ax ?_ ?_)
   refine⟨i+1,by omega,by omega,?_,rfl⟩
   rw[hk,hk,bA,O,ar]
 ·have d3:decide ((i:Int)<(D l:Int))=false:=c5
  have he:decide (l=m)=true:=lU (by
   rw[dx (by omega),dx (by omega)] at bA;exact bA)
  refine aY ?_;repeat' (intro h<;>simp only[h,go_sem,go_sem_proc,bm,ay,eh,ie,d3,he,ai]<;>try refine ax ?_ ?_)
def uU (v:Int):List Int->Nat->Int
 | [],_ => -1
 |x::r,i=>if (v==x)=true then (i:Int) else uU v r (i+1)
theorem amJ (v:Int):∀(l:List Int) (i:Nat),decide (uU v l i>=0)=decide (v∈l)
 | [],i=>by simp[uU]
 |x::r,i=>by
  unfold uU;rcases q:(v==x)
  ·rw[ag (by decide),amJ v r (i+1)];have:v≠x:=beq_eq_false_iff_ne.1 q;rw[decide_eq_decide];simp[this]
  ·rw[ab rfl];obtain rfl:v=x:=eq_of_beq q;rw[decide_eq_decide];simp
abbrev Ng:(List Int)×Int->List Data:=λ(l,v)=>[.X (l.map ad),.int .i64 v]
def abN:=cj Ng λ(l,v)=>cN (D l<=1000000) (.same (.int .i64 (uU v l 0)))
theorem abO:∀a b,Ng a=Ng b->a=b:=by
  rintro⟨en,v1⟩ ⟨al,v2⟩ h;simp only[a6,Data.X.injEq,Data.int.injEq,and_true,true_and] at h;exact dQ (map_inj fi _ _ h.1) h.2
@[go_sem] theorem aC6 (l:List Int)(v:Int)(G:(D l)<=1000000):abN [.X (l.map ad),.int .i64 v]=some (.same (.int .i64 (uU v l 0))):=(cu abO (l,v)).trans (cT G _)
theorem aC7 (T:bb)  (l:List Int) (v:Int) (G:(D l)<=1000000):WP T Vz (.same (.int .i64 (uU v l 0))) [.I (.X (l.map ad)),.I (.int .i64 v)]:=by
 refine cv ?_;simp only[Vz];simp only[go_sem,go_sem_proc,ai];refine dm [0,1,7] [] (λ(i:Nat) tm _=>i<=D l/\uU v l 0=uU v (l.drop i) i/\tm 8=.I (.int .i64 i)) (λi=>D l-i) 0 (by refine⟨by omega,by simp,rfl⟩) ?_;intro vs ms aR aN;simp only[go_sem,go_sem_proc,ai] at aR aN;subst aR aN;rintro i tm mem M-⟨J,bA,eb⟩;simp only[go_sem,go_sem_proc,a6] at M;obtain⟨bm,ay,bH⟩:=M;rcases dv (i<D l) with az|b2
 ·have d3:decide ((i:Int)<(D l:Int))=true:=dj;have bO:=eZ (i:=i) (by omega);obtain⟨x,O⟩:∃x,l[i]?=some x:=⟨_,bu az⟩;rw[List.drop_eq_getElem_cons az,(dP.1 O).2] at bA;have dy:uU v (x::l.drop (i+1)) i=if (v==x)=true then (i:Int) else uU v (l.drop (i+1)) (i+1):=rfl;rw[dy] at bA;rcases fb:(v==x)
  ·rw[fb,ag (by decide)] at bA;refine aY ?_;repeat' (intro h<;>simp only[h,go_sem,go_sem_proc,bm,ay,bH,eb,O,d3,bO,fb,ad,ai,bh,h8,k9,kH]<;>try refine ax ?_ ?_)
   exact⟨i+1,by omega,by omega,bA,rfl⟩
  ·rw[fb,ab rfl] at bA;have aW:uU v l 0=(i:Int):=bA;refine aY ?_;repeat' (intro h<;>simp only[h,go_sem,go_sem_proc,bm,ay,bH,eb,O,d3,fb,aW,ad,ai,bh,h8,k9,kH]<;>try refine ax ?_ ?_)
 ·have d3:decide ((i:Int)<(D l:Int))=false:=c5;rw[jV (by omega)] at bA;have aW:uU v l 0 = -1:=bA;refine aY ?_;repeat' (intro h<;>simp only[h,go_sem,go_sem_proc,bm,ay,bH,eb,d3,aW,ai]<;>try refine ax ?_ ?_)
def abP:=cj Ng λ(l,v)=>cN (D l<=1000000) (.same (.bool (decide (v∈l))))
@[go_sem] theorem aC8 (l:List Int)(v:Int)(G:(D l)<=1000000):abP [.X (l.map ad),.int .i64 v]=some (.same (.bool (decide (v∈l)))):=(cu abO (l,v)).trans (cT G _)
theorem aC9 (T:bb)(aDa:T UX=aV abN)(l:List Int)(v:Int)(G:(D l)<=1000000):WP T Vy (.same (.bool (decide (v∈l)))) [.I (.X (l.map ad)),.I (.int .i64 v)]:=by
 refine cv ?_;simp only[Vy];have J:=aC6 l v G;have hm:=amJ v l 0;refine aY ?_;repeat' (intro h<;>simp only[h,go_sem,go_sem_proc,aDa,J,hm]<;>try refine ax ?_ ?_)
section
variable (A bV:List Int) (x y:Int)
theorem aDb:(A++y::x::bV)[D A+1]?=some x:=by simp
theorem aDc:(A++y::x::bV)[D A]?=some y:=by simp
theorem aDd:fM (D A+1) ((A++y::x::bV).map bF)++[bF y]++fX (D A+1+1) ((A++y::x::bV).map bF)=(A++y::y::bV).map bF:=by
 rw[<-z9,<-Nh]
 have E:fM (D A+1) (A++y::x::bV)=A++[y]:=by
  rw[Dj,dx (by omega),show (D A)+1-D A=1 by omega];rfl
 have H:fX (D A+1+1) (A++y::x::bV)=bV:=by
  rw[oN];have:(D A)+1+1-D A=2:=by omega
  rw[this,jV (by omega)]
  rfl
 rw[E,H];simp
theorem aDe:fM (D A) ((A++y::y::bV).map bF)++[bF x]++fX (D A+1) ((A++y::y::bV).map bF)=(A++x::y::bV).map bF:=by
 rw[<-z9,<-Nh];have E:fM (D A) (A++y::y::bV)=A:=List.take_left
 have H:fX (D A+1) (A++y::y::bV)=y::bV:=by
  rw[oN];have:(D A)+1-D A=1:=by omega
  rw[this,jV (by omega)]
  rfl
 rw[E,H];simp
end
structure CW (l:List Int) (i:Nat) (C A:List Int) (x:Int) (B:List Int):Prop where
 len:(D A)+D B=i
 abQ:(A++B).Pairwise (·<=·)
 up:∀b∈B,x<=b
 perm:(A++x::(B++C)).Perm l
theorem CW.step {l:List Int}{i:Nat}{C A B:List Int}{x y:Int}(h:CW l i C (A++[y]) x B)(nZ:x<y):CW l i C A x (y::B):=by
 refine⟨?_,?_,λb ae=>?_,?_⟩
 ·have:=h.len;simp at this ⊢;omega
 ·have:=h.abQ;rwa [gM] at this
 ·rcases hP.1 ae with rfl|ae
  ·omega
  ·exact h.up b ae
 ·refine List.Perm.trans ?_ h.perm;rw[gM];refine List.Perm.append_left A ?_;exact List.Perm.swap y x (B++C)
theorem CW.stop {l:List Int}{i:Nat}{C A B:List Int}{x:Int}(h:CW l i C A x B)(O:∀a∈A,a<=x):(A++x::B).Pairwise (·<=·):=by
 have U:=Ni.1 h.abQ;refine Ni.2 ⟨U.1,Fm.2 ⟨h.up,U.2.1⟩,λa aM b ae=>?_⟩;rcases hP.1 ae with rfl|ae
 ·exact O a aM
 ·exact U.2.2 a aM b ae
theorem CW.last {l:List Int}{i:Nat}{C A B:List Int}{x y:Int}(h:CW l i C (A++[y]) x B)(nZ:¬ x<y):∀a∈A++[y],a<=x:=by
 intro a aM;rcases js.1 aM with aM|aM
 ·have U:=(Ni.1 (Ni.1 h.abQ).1).2.2 a aM y (by simp);omega
 ·simp at aM;omega
theorem Nj {m:Mem}{k a b:Nat}{x y:List Q}:a1 (a1 m k a x) k b y=a1 m k b y:=by
 funext j
 by_cases h:j=k
 ·subst h;rw[iI,iI]
 ·rw[dn h,dn h,dn h]
structure r6 where
 l:List Int
 g:Nat
def te (a:r6)(mem:Mem):Prop:=mem 289040=some (a.g,a.l.map bF)/\D a.l<=12
def AR (a:r6)(mem:Mem):Q->Mem->Prop:=λm mem'=>m=.cH []/\∃s:List Int,s.Perm a.l/\s.Pairwise (·<=·)/\mem'=a1 mem 289040 a.g (s.map bF)
def Sy:List Q->Mem->Option (Q->Mem->Prop):=ui (λ(a:r6) args mem=>args=[.ref 289040 a.g 1 0 (D a.l),.I (.int .i64 0),.I (.int .i64 (D a.l))]/\te a mem) AR
theorem Sz {a b:r6}{mem:Mem}(E:te a mem)(H:te b mem):a=b:=by
 have:=E.1.symm.trans H.1;simp only[cm,fo] at this;obtain⟨l,g⟩:=a;obtain⟨fS,c0⟩:=b;dsimp only at this;rw[this.1,Rf this.2]
theorem aDf (a:r6)(mem:Mem)(h:te a mem):Sy [.ref 289040 a.g 1 0 (D a.l),.I (.int .i64 0),.I (.int .i64 (D a.l))] mem=some (AR a mem):=by
 unfold Sy;exact LF (a:=a) (λa b args mem E H=>Sz E.2 H.2) ⟨rfl,h⟩
theorem aDg (T:bb)(SA:T OO=aV Sw)(a:r6)(mem:Mem)(aM:te a mem):
  wp T OW.body (od OW.res (AR a mem)) ⟨kr [.ref 289040 a.g 1 0 (D a.l),.I (.int .i64 0),.I (.int .i64 (D a.l))],mem⟩:=by
 obtain⟨k8,aH⟩:=aM;obtain⟨l,g⟩:=a;dsimp only at k8 aH ⊢;refine qv ?_;simp only[OW];simp only[go_sem,go_sem_proc];have w1:IntKind.i64.wrap ((0:Int)+1)=1:=by rw[eM _];rfl
 simp only[go_sem,go_sem_proc,w1]
 refine dm [0,1,2] [] (λ((i,S,C):Nat×List Int×List Int) tm m=>tm 6=.I (.int .i64 ((i+1:Nat):Int))/\(S++C).Perm l/\S.Pairwise (·<=·)/\(D S=i+1\/l=[])/\m=a1 mem 289040 g ((S++C).map bF)) (λ(i,_,_)=>D l-i) (0,l.take 1,l.drop 1) (by
  refine⟨rfl,by rw[tG],?_,?_,?_⟩
  ·cases l with
   |nil=>exact List.Pairwise.nil
   |cons x r=>exact amK _ _
  ·cases l with
   |nil=>exact .inr rfl
   |cons x r=>exact .inl rfl
  ·rw[tG]
   funext k
   by_cases M:k=289040
   ·subst M;rw[iI];exact k8
   ·rw[dn M]) ?_
 intro vs ms aR aN;simp only[go_sem,go_sem_proc,w1] at aR aN;subst aR aN;rintro⟨i,S,C⟩ tm m M-⟨bK,aF,U,cJ,hm⟩;simp only[go_sem,go_sem_proc,a6] at M;obtain⟨bm,ay,aB⟩:=M;have hlen:=aF.length_eq;rw[fQ] at hlen;rcases dv (i+1<D l) with az|b2
 ·have d1:decide (((i+1:Nat):Int)<(D l:Int))=true:=dj
  have amL:(D S)=i+1:=by
   rcases cJ with h|h
   ·exact h
   ·rw[h] at az;simp at az
  have bO:IntKind.i64.wrap (((i+1:Nat):Int)+1)=((i+1+1:Nat):Int):=by rw[eM _];omega
  obtain⟨x,je,rfl⟩:∃x je,C=x::je:=by
   cases C with
   |nil=>simp at hlen;omega
   |cons x je=>exact⟨x,je,rfl⟩
  simp only[go_sem,go_sem_proc,bm,ay,aB,bK,d1]
  refine dm [0,1,2,6] [] (λ((A,B):List Int×List Int) tm m=>tm 7=.I (.int .i64 (D A:Int))/\CW l (i+1) je A x B/\m=a1 mem 289040 g ((A++x::(B++je)).map bF)) (λ(A,_)=>D A) (S,[]) (by
   exact⟨by rw[amL];rfl,⟨by simp;exact amL,by rw[fG];exact U,λb ae=>(by cases ae),aF⟩,hm⟩) ?_
  intro vs ms aR aN;simp only[go_sem,go_sem_proc,bm,ay,aB,bK] at aR aN;subst aR aN;clear bm ay aB bK;rintro⟨A,B⟩ tm m M-⟨bH,sk,hm⟩;simp only[go_sem,go_sem_proc,a6] at M;obtain⟨bm,ay,aB,bK⟩:=M;subst hm;have Cn:=sk.len;rcases Bu A with dK|⟨e3,y,dK⟩
  ·subst dK;have d2:decide (((0:Nat):Int)>0)=false:=rfl;have L9:=sk.stop λa aM=>by cases aM
   have mG:=sk.perm;rw[k9] at bH;simp only[go_sem,go_sem_proc,bm,ay,aB,bK,bH,d2,bO];repeat' (first|refine ax ?_ ?_|fail)<;>intro h<;>simp only[h,go_sem,go_sem_proc,bm,ay,aB,bK,bH,d2,bO]
   refine⟨(i+1,x::B,je),by dsimp only;omega,rfl,mG,L9,.inl ?_,rfl⟩
   simp at Cn ⊢;omega
  ·rw[Bv] at dK;subst dK;have eS:e3++[y]++x::(B++je)=e3++y::x::(B++je):=by simp
   have CV:(e3++[y]).length=D e3+1:=by simp
   rw[CV] at bH Cn;rw[eS];have d2:decide (((D e3+1:Nat):Int)>0)=true:=dj;have SB:IntKind.i64.wrap (((D e3+1:Nat):Int)-1)=(D e3:Int):=by rw[eM _];omega
   have b5:(D e3+1+1<=D l)=True:=eq_true (by simp at hlen;omega);have nY:(D e3+1<=D l)=True:=eq_true (by simp at hlen;omega);have qo:(D e3+1<D l)=True:=eq_true (by simp at hlen;omega);have jF:(D e3<D l)=True:=eq_true (by simp at hlen;omega);have t1:fM 1 (fX (D e3+1) ((e3++y::x::(B++je)).map bF))=[.I (.int .i64 x)]:=v9 (f:=bF) (aDb e3 (B++je) x y);have t2:fM 1 (fX (D e3) ((e3++y::x::(B++je)).map bF))=[.I (.int .i64 y)]:=v9 (f:=bF) (aDc e3 (B++je) x y);have iL:fM (D e3+1) ((e3++y::x::(B++je)).map bF)++[Q.I (.int .i64 y)]++fX (D e3+1+1) ((e3++y::x::(B++je)).map bF)=_:=aDd e3 (B++je) x y;have ju:fM (D e3) ((e3++y::y::(B++je)).map bF)++[Q.I (.int .i64 x)]++fX (D e3+1) ((e3++y::y::(B++je)).map bF)=_:=aDe e3 (B++je) x y;have b6:((e3++y::x::(B++je)).map bF).length=D l:=by have:=sk.perm.length_eq;rw[eS] at this;rw[ai,this]
   have dd:((e3++y::y::(B++je)).map bF).length=D l:=by rw[<-b6];simp
   have ey:((e3++x::y::(B++je)).map bF).length=D l:=by rw[<-b6];simp
   have IZ:Sw [.int .i64 x,.int .i64 y]=some (.same (.bool (decide (x<y)))):=aC2 x y;rcases q:decide (x<y)
   ·rw[q] at IZ;have L9:=sk.stop (sk.last (of_decide_eq_false q));have mG:=sk.perm;generalize amM:(e3++y::x::(B++je)).map bF=R1 at *;simp only[go_sem,go_sem_proc,SA,bm,ay,aB,bK,bH,d2,SB,bO,b5,nY,qo,jF,t1,t2,b6,IZ,cD];repeat' (first|refine ax ?_ ?_|fail)<;>intro h<;>simp only[h,go_sem,go_sem_proc,SA,bm,ay,aB,bK,bH,d2,SB,bO,b5,nY,qo,jF,t1,t2,b6,IZ,cD]
    refine⟨(i+1,e3++[y]++x::B,je),by dsimp only;omega,rfl,?_,L9,.inl ?_,?_⟩
    ·have:e3++[y]++x::B++je=e3++[y]++x::(B++je):=by simp
     show (e3++[y]++x::B++je).Perm l;rw[this];exact mG
    ·simp at Cn ⊢;omega
    ·rw[<-amM]
     congr 2
     simp
   ·rw[q] at IZ;have dy:=sk.step (of_decide_eq_true q);generalize amM:(e3++y::x::(B++je)).map bF=R1 at *;generalize ak7:(e3++y::y::(B++je)).map bF=qT at *;generalize aDh:(e3++x::y::(B++je)).map bF=R3 at *;simp only[go_sem,go_sem_proc,SA,bm,ay,aB,bK,bH,d2,SB,b5,nY,qo,jF,t1,t2,b6,dd,ey,iL,ju,IZ,cD];repeat' (first|refine ax ?_ ?_|fail)<;>intro h<;>simp only[h,go_sem,go_sem_proc,SA,bm,ay,aB,bK,bH,d2,SB,b5,nY,qo,jF,t1,t2,b6,dd,ey,iL,ju,IZ,cD]
    refine⟨(e3,y::B),by simp,rfl,dy,?_⟩
    rw[Nj,Nj,<-aDh]
    rfl
 ·have d1:decide (((i+1:Nat):Int)<(D l:Int))=false:=c5;simp only[go_sem,go_sem_proc,bm,ay,aB,bK,d1];repeat' (first|refine ax ?_ ?_|fail)<;>intro h<;>simp only[h,go_sem,go_sem_proc,bm,ay,aB,bK,d1]
  have gO:C=[]:=by
   rcases cJ with h|h
   ·exact CT.1 (by omega)
   ·rw[h] at hlen;simp at hlen;exact hlen.2
  subst gO;rw[fG] at aF hm;exact⟨_,rfl,rfl,S,aF,U,hm⟩
def AS (n:Nat):Int:=if n=0 then 0 else if n=1 then 1 else if n<=3 then 2 else if n<=7 then 3 else 4
abbrev SC:Nat->List Data:=λ(n:Nat)=>[.int .u64 (n:Int)]
def abR:=cj SC λ(n:Nat)=>cN (n<=12) (.same (.int .i64 (AS n)))
theorem amN:∀a b,SC a=SC b->a=b:=by
  intro iw jr h;simp only[a6,Data.int.injEq,Data.agg.injEq,Data.X.injEq,Data.bool.injEq,Data.str.injEq,Data.ptr.injEq,Data.cH.injEq,fo,true_and,and_true] at h ⊢
  first|exact h|simpa [Prod.ext_iff,and_assoc] using h|grind
@[go_sem] theorem aMz (n:Nat)(G:n<=12):abR [.int .u64 (n:Int)]=some (.same (.int .i64 (AS n))):=(cu amN n).trans (cT G _)
theorem aDi (T:bb)  (n:Nat) (G:n<=12):WP T YY (.same (.int .i64 (AS n))) [.I (.int .u64 (n:Int))]:=by
 refine cv ?_;simp only[YY];have d1:decide ((n:Int)>=4294967296)=false:=c5;have d2:decide ((n:Int)>=65536)=false:=c5;have d3:decide ((n:Int)>=256)=false:=c5;have ao:(0<=(n:Int))=True:=eq_true (by omega)
 have SD:IntKind.u8.wrap (n:Int)=(n:Int):=by
  match n,G with
  |0,_|1,_|2,_|3,_|4,_|5,_|6,_|7,_|8,_|9,_|10,_|11,_|12,_=>rfl
  |n+13,h=>omega
 simp only[go_sem,go_sem_proc,d1,d2,d3,SD,ao,lH];clear d1 d2 d3 ao SD
 match n,G with
 |0,_|1,_|2,_|3,_|4,_|5,_|6,_|7,_|8,_|9,_|10,_|11,_|12,_ =>
  simp only[go_sem,go_sem_proc,zu,IB,mB]
  rfl
 |n+13,h=>omega
def abS:=cj SC λ(n:Nat)=>cN (n<=12) (.same (.int .i64 (AS n)))
@[go_sem] theorem aDj (n:Nat)(G:n<=12):abS [.int .u64 (n:Int)]=some (.same (.int .i64 (AS n))):=(cu amN n).trans (cT G _)
theorem aDk (T:bb)(aDl:T UW=aV abR)(n:Nat)(G:n<=12):WP T YX (.same (.int .i64 (AS n))) [.I (.int .u64 (n:Int))]:=by
 refine cv ?_;simp only[YX];refine aY ?_;repeat' (intro h<;>simp only[h,go_sem,go_sem_proc,aDl,G]<;>try refine ax ?_ ?_)
def SE:List Q->Mem->Option (Q->Mem->Prop):=ui (λ(a:r6) args mem=>args=[.ref 289040 a.g 1 0 (D a.l),.I (.int .i64 0),.I (.int .i64 (D a.l)),.I (.int .i64 (AS (D a.l)))]/\te a mem) AR
theorem aDm (a:r6)(mem:Mem)(h:te a mem):SE [.ref 289040 a.g 1 0 (D a.l),.I (.int .i64 0),.I (.int .i64 (D a.l)),.I (.int .i64 (AS (D a.l)))] mem=some (AR a mem):=by
 unfold SE;exact LF (a:=a) (λa b args mem E H=>Sz E.2 H.2) ⟨rfl,h⟩
theorem aDn (T:bb)(aDo:T UU=py Sy)(a:r6)(mem:Mem)(aM:te a mem):
  wp T OV.body (od OV.res (AR a mem)) ⟨kr [.ref 289040 a.g 1 0 (D a.l),.I (.int .i64 0),.I (.int .i64 (D a.l)),.I (.int .i64 (AS (D a.l)))],mem⟩:=by
 have e2:=aDf a mem aM;have aH:=aM.2;refine qv ?_;simp only[OV];simp only[go_sem,go_sem_proc];refine dm [0,1,2] [] (λ(_:Unit) tm m=>m=mem) (λ_=>0) () rfl ?_;intro vs ms aR aN;simp only[go_sem,go_sem_proc] at aR aN;subst aR aN;rintro-tm m M-hm;simp only[go_sem,go_sem_proc,a6] at M;obtain⟨bm,ay,aB⟩:=M;subst hm;have w1:IntKind.i64.wrap ((D a.l:Int)-0)=(D a.l:Int):=by rw[eM _];omega
 have d1:decide ((D a.l:Int)<=12)=true:=dj;simp only[go_sem,go_sem_proc,aDo,bm,ay,aB,w1,d1,e2];rintro yB m' gf;obtain⟨xd,gf⟩:=gf;subst xd;exact⟨_,rfl,rfl,gf⟩
def SF:List Q->Mem->Option (Q->Mem->Prop):=ui (λ(a:r6) args mem=>args=[.ref 289040 a.g 1 0 (D a.l)]/\te a mem) AR
theorem aDp (a:r6)(mem:Mem)(h:te a mem):SF [.ref 289040 a.g 1 0 (D a.l)] mem=some (AR a mem):=by
 unfold SF;exact LF (a:=a) (λa b args mem E H=>Sz E.2 H.2) ⟨rfl,h⟩
theorem aDq (T:bb)(aDr:T US=aV abS)(aDs:T KF=py SE)(a:r6)(mem:Mem)(aM:te a mem):
  wp T OS.body (od OS.res (AR a mem)) ⟨kr [.ref 289040 a.g 1 0 (D a.l)],mem⟩:=by
 have e2:=aDm a mem aM;have aH:=aM.2;have ae:=aDj (D a.l) aH
 have SD:IntKind.u64.wrap (D a.l:Int)=(D a.l:Int):=by
  generalize (D a.l)=n at *
  match n,aH with
  |0,_|1,_|2,_|3,_|4,_|5,_|6,_|7,_|8,_|9,_|10,_|11,_|12,_=>rfl
  |n+13,h=>omega
 refine qv ?_;simp only[OS];simp only[go_sem,go_sem_proc,aDr,aDs,ae,SD,e2];rintro yB m' gf;obtain⟨xd,gf⟩:=gf;subst xd;exact⟨_,rfl,rfl,gf⟩
def pI:Int->List Int->List Int
 |_,[]=>[]
 |y,x::r=>if x=y then pI x r else x::pI x r
def mn:List Int->List Int
 | []=>[]
 |x::r=>x::pI x r
theorem amO (x:Int):∀(m:List Int) (z:Int),pI z (m++[x])=pI z m++if x=m.getLast?.getD z then [] else [x]
 | [],z=>by
  by_cases h:x=z
  ·simp[pI,h]
  ·simp[pI,h]
 |a::r,z=>by
  have e:(a::r).getLast?.getD z=r.getLast?.getD a:=by rw[List.getLast?_cons];rfl
  rw[e,j1,pI,pI,amO x r a]
  split
  ·rfl
  ·rfl
theorem aDt (m:List Int)(y x:Int):mn (m++[y]++[x])=mn (m++[y])++if x=y then [] else [x]:=by
 cases m with
 |nil =>
  by_cases h:x=y
  ·simp[mn,pI,h]
  ·simp[mn,pI,h]
 |cons a r =>
  have:pI a (r++[y]++[x])=pI a (r++[y])++if x=y then [] else [x]:=by
   rw[amO x (r++[y]) a];simp
  simp only[j1,mn,this]
theorem abT {l:List Int}{q:Nat}{y x:Int}(ao:0<q)(ar:l[q-1]?=some y)(O:l[q]?=some x):mn (l.take (q+1))=mn (l.take q)++if x=y then [] else [x]:=by
 have ay:l.take q=l.take (q-1)++[y]:=by
  have:q=q-1+1:=by omega
  conv=>lhs;rw[this,hk,ar]
  rfl
 have aB:l.take (q+1)=l.take q++[x]:=by rw[hk,O];rfl
 rw[aB,ay];exact aDt _ _ _
theorem amP:∀(l:List Int) (z:Int),(z::l).Pairwise (·<=·)->(pI z l).Pairwise (·<·)/\(∀x∈pI z l,z<x)/\∀x,x∈pI z l↔x∈l/\x≠z
 | [],z,_=>⟨List.Pairwise.nil,λx h=>(by cases h),λx=>(by simp[pI])⟩
 |a::r,z,h=>by
  have aW:=Fm.1 h;obtain⟨E,H,af⟩:=amP r a aW.2;have aM:=Fm.1 aW.2;have aMA:=aW.1 a (by simp);rw[pI]
  split
  ·rename_i e;subst e;refine⟨E,H,λx=>?_⟩;rw[af,hP]
   constructor
   ·rintro⟨b6,dd⟩;exact⟨.inr b6,dd⟩
   ·rintro⟨b6|b6,dd⟩
    ·exact absurd b6 dd
    ·exact⟨b6,dd⟩
  ·rename_i e;refine⟨Fm.2 ⟨H,E⟩,λx O=>?_,λx=>?_⟩
   ·rcases hP.1 O with rfl|O
    ·omega
    ·have:=H x O;omega
   ·rw[hP,af,hP]
    constructor
    ·rintro (rfl|⟨b6,dd⟩)
     ·exact⟨.inl rfl,e⟩
     ·refine⟨.inr b6,λaMB=>?_⟩;have:=aM.1 x b6;omega
    ·rintro⟨b6|b6,dd⟩
     ·exact .inl b6
     ·by_cases hxa:x=a
      ·exact .inl hxa
      ·exact .inr ⟨b6,hxa⟩
theorem aDu {l:List Int}(h:l.Pairwise (·<=·)):(mn l).Pairwise (·<·)/\∀x,x∈mn l↔x∈l:=by
 cases l with
 |nil=>exact⟨List.Pairwise.nil,λx=>Iff.rfl⟩
 |cons a r =>
  obtain⟨E,H,af⟩:=amP r a h;refine⟨Fm.2 ⟨H,E⟩,λx=>?_⟩;rw[mn,hP,hP,af]
  constructor
  ·rintro (h|⟨h,-⟩)
   ·exact .inl h
   ·exact .inr h
  ·rintro (h|h)
   ·exact .inl h
   ·by_cases O:x=a
    ·exact .inl O
    ·exact .inr ⟨h,O⟩
theorem amQ {K:ba->Prop}{st:ba}(s k g n:Nat)(P:List Int)(Z:List Q)(MJ:nU Z=true)(aH:n=D P):
  Bs K st s k g 1 0 n (some (g,P.map bF++Z))=K ⟨e6 st.tm s (.I (.X (P.map ad))),kill st.mem k⟩:=by
 subst aH;unfold Bs;dsimp only
 have aM:nU (P.map bF++Z)=true:=by
  unfold nU at MJ ⊢;rw[List.all_append,MJ,Bool.and_true,nq];intro x O;obtain⟨y,-,rfl⟩:=dV.1 O
  rfl
 rw[ab ⟨rfl,aM⟩];unfold cut;rw[kH,cD,fQ,ai,ab (by omega)];dsimp only;rw[l2,Dj,dx (by rw[ai];exact bX _),ai,my,mH,fG];have e:P.map bF=((P.map ad).flatten).map Q.I:=by rw[yW];rfl
 rw[e,tH _ λd=>rfl];dsimp only;have:=yb (sz:=1) (P.map ad) (λx O=>by obtain⟨y,-,rfl⟩:=dV.1 O;rfl);rw[ai] at this;rw[this]
def SG:List Q->Mem->Option (Data×Key):=Mx (λ(a:r6) args mem=>args=[.ref 289040 a.g 1 0 (D a.l)]/\te a mem) (λa=>(.X ((mn a.l).map ad),289040))
theorem aDv (a:r6)(mem:Mem)(h:te a mem):SG [.ref 289040 a.g 1 0 (D a.l)] mem=some (.X ((mn a.l).map ad),289040):=by
 unfold SG;exact ayd (a:=a) (λa b args mem E H=>by rw[Sz E.2 H.2]) ⟨rfl,h⟩
theorem aDw {l:List Int}{k:Nat}(M:0<k)(av:k<D l){y x:Int}(ar:l[k-1]?=some y)(O:l[k]?=some x)(bI:x≠y)(h:mn (l.take k)=l.take k):mn (l.take (k+1))=l.take (k+1):=by
 rw[abT M ar O,ag bI,h,hk,O];rfl
theorem aDx (T:bb)(a:r6)(mem:Mem)(aM:te a mem):
  wp T OT.body (od OT.res λm mem'=>cy 6 emp m=some (.X ((mn a.l).map ad))/\∀j,¬ False->mem' j=a1 mem 289040 (bY mem 289040) [] j) ⟨kr [.ref 289040 a.g 1 0 (D a.l)],mem⟩:=by
 obtain⟨k8,aH⟩:=aM;obtain⟨l,g⟩:=a;dsimp only at k8 aH ⊢
 have aK:∀(K:ba->Prop) (st:ba),Bs K st 2 289040 g 1 0 (D l) (some (g,l.map bF))=K ⟨e6 st.tm 2 (.I (.X (l.map ad))),kill st.mem 289040⟩:=λK st=>by
  have:=amQ (K:=K) (st:=st) 2 289040 g (D l) l [] rfl rfl;rwa [fG] at this
 refine qv ?_;simp only[OT];rcases d0:decide ((D l:Int)<2)
 case true =>
  have G:mn l=l:=by
   have:=of_decide_eq_true d0
   match l,this with
   | [],_=>rfl
   | [x],_=>rfl
   |x::y::r,h=>simp at h;omega
  rw[G];simp only[go_sem,go_sem_proc,d0,k8,aK];repeat' (first|refine ax ?_ ?_|fail)<;>intro h<;>simp only[h,go_sem,go_sem_proc,d0,k8,aK]
  refine⟨_,rfl,?_,λj _=>?_⟩<;>first|rfl|trivial
 have xX:2<=D l:=by have:=of_decide_eq_false d0;omega
 simp only[go_sem,go_sem_proc,d0]
 refine dm [0] [] (λ(k:Nat) tm m=>1<=k/\k<=D l/\tm 3=.I (.int .i64 k)/\m=mem/\mn (l.take k)=l.take k) (λk=>D l-k) 1 (by
  refine⟨by omega,by omega,rfl,rfl,?_⟩
  match l,xX with
  |x::r,_=>rfl) ?_
 intro vs ms aR aN;simp only[go_sem,go_sem_proc] at aR aN;subst aR aN;rintro k tm m M-⟨kU,fF,bG,hm,G⟩;simp only[go_sem,go_sem_proc,a6] at M;have bm:=M;subst hm;rcases dv (k<D l) with az|b2
 ·have d1:decide ((k:Int)<(D l:Int))=true:=dj;have bO:=eZ (i:=k) (by omega);have ue:IntKind.i64.wrap ((k:Int)-1)=((k-1:Nat):Int):=by rw[eM _];omega
  obtain⟨x,O⟩:∃x,l[k]?=some x:=⟨_,bu az⟩;obtain⟨y,ar⟩:∃y,l[k-1]?=some y:=⟨_,bu (by omega)⟩;have t1:fM 1 (fX k (l.map bF))=[.I (.int .i64 x)]:=v9 (f:=bF) O;have t2:fM 1 (fX (k-1) (l.map bF))=[.I (.int .i64 y)]:=v9 (f:=bF) ar;have b5:(k+1<=D l)=True:=eq_true (by omega);have nY:(k-1+1<=D l)=True:=eq_true (by omega);have qo:(k<D l)=True:=eq_true az;have jF:(k-1<D l)=True:=eq_true (by omega);have mz:(l.map bF).length=D l:=ai _;rcases q:(x==y)
  ·have bI:x≠y:=by simpa using q
   have lZ:=aDw (by omega) az ar O bI G;generalize gf:l.map bF=bV at *;simp only[go_sem,go_sem_proc,bm,bG,k8,t1,t2,d1,bO,ue,b5,nY,qo,jF,mz,q,cD];repeat' (first|refine ax ?_ ?_|fail)<;>intro h<;>simp only[h,go_sem,go_sem_proc,bm,bG,k8,t1,t2,d1,bO,ue,b5,nY,qo,jF,mz,q,cD]
   exact⟨k+1,by omega,by omega,by omega,rfl,lZ⟩
  ·have nZ:x=y:=by simpa using q
   have aDy:mn (l.take (k+1))=l.take k:=by rw[abT (by omega) ar O,ab nZ,fG,G]
   have hJ:(k<=D l/\D l<=D l)=True:=eq_true ⟨by omega,bX _⟩
   simp only[go_sem,go_sem_proc,bm,bG,k8,t1,t2,d1,ue,b5,nY,qo,jF,mz,hJ,q,cD]
   refine dm [0,4] [] (λ((d,kk,row):Nat×Nat×List Int) tm m'=>1<=d/\k+d<=D l/\kk<k+d/\D row=D l/\row.take kk=mn (l.take (k+d))/\row.drop (k+d-1)=l.drop (k+d-1)/\tm 5=.I (.int .i64 d)/\tm 3=.I (.int .i64 kk)/\m'=a1 m 289040 g (row.map bF)) (λ(d,_,_)=>D l-(k+d)) (1,k,l) (by
    refine⟨bX _,by omega,by omega,rfl,aDy.symm,rfl,rfl,?_,?_⟩
    ·simp only[e7,dW,if_false];exact bG
    ·funext j
     by_cases ah:j=289040
     ·subst ah;rw[iI];exact k8
     ·rw[dn ah]) ?_
   intro vs ms aR aN;simp only[go_sem,go_sem_proc,bm] at aR aN;subst aR aN;clear bm bG;rintro⟨d,kk,row⟩ tm m' M-⟨j3,mL,Df,bZ,gN,qG,cL,bG,n2⟩;simp only[go_sem,go_sem_proc,a6] at M;obtain⟨bm,dp⟩:=M;subst n2
   have cg:∀j,k+d-1<=j->row[j]?=l[j]?:=λj ah=>by
    have E:row[j]?=(row.drop (k+d-1))[j-(k+d-1)]?:=by rw[lB];congr 1;omega
    have H:l[j]?=(l.drop (k+d-1))[j-(k+d-1)]?:=by rw[lB];congr 1;omega
    rw[E,H,qG]
   rcases dv (k+d<D l) with k7|aMC
   ·have d2:decide ((d:Int)<((D l-k:Nat):Int))=true:=dj;have I0:=eZ (i:=d) (by omega);have SH:IntKind.i64.wrap ((d:Int)-1)=((d-1:Nat):Int):=by rw[eM _];omega
    have amR:=eZ (i:=kk) (by omega);obtain⟨a,ja⟩:∃x,l[k+d]?=some x:=⟨_,bu k7⟩;obtain⟨b,kL⟩:∃y,l[k+d-1]?=some y:=⟨_,bu (by omega)⟩;have RI:=(cg (k+d) (by omega)).trans ja;have aDz:=(cg (k+d-1) (bX _)).trans kL;have s1:fM 1 (fX (k+d) (row.map bF))=[.I (.int .i64 a)]:=v9 (f:=bF) RI
    have s2:fM 1 (fX (k+(d-1)) (row.map bF))=[.I (.int .i64 b)]:=by
     rw[show k+(d-1)=k+d-1 by omega];exact v9 (f:=bF) aDz
    have dy:=abT (by omega) kL ja;have cE:(d<D l-k)=True:=eq_true (by omega);have ck:(d-1<D l-k)=True:=eq_true (by omega);have hj:(k+d+1<=D l)=True:=eq_true (by omega);have kg:(k+(d-1)+1<=D l)=True:=eq_true (by omega);have amS:(kk<D l)=True:=eq_true (by omega);have pF:(kk+1<=D l)=True:=eq_true (by omega);have q4:(row.map bF).length=D l:=by rw[ai,bZ]
    rcases fb:(a==b)
    ·have bI:a≠b:=by simpa using fb
     rw[ag bI,<-gN] at dy
     have mT:fM kk (row.map bF)++[Q.I (.int .i64 a)]++fX (kk+1) (row.map bF)=(row.set kk a).map bF:=by
      rw[MN,ab (by omega),kT,eC,z9,Nh,gM];rfl
     generalize Nk:row.map bF=Fo at *;simp only[go_sem,go_sem_proc,bm,bG,dp,cL,s1,s2,d2,I0,SH,amR,cE,ck,hj,kg,amS,pF,q4,mT,fb,bne,du,cD];repeat' (first|refine ax ?_ ?_|fail)<;>intro h<;>simp only[h,go_sem,go_sem_proc,bm,bG,dp,cL,s1,s2,d2,I0,SH,amR,cE,ck,hj,kg,amS,pF,q4,mT,fb,bne,du,cD]
     refine⟨(d+1,kk+1,row.set kk a),by dsimp only;omega,by dsimp only;omega,by dsimp only;omega,by dsimp only;omega,by dsimp only;rw[iY,bZ],?_,?_,rfl,rfl,?_⟩
     ·dsimp only;rw[<-qp,dy,hk,amT (bX _),J6 (by omega)];rfl
     ·dsimp only;rw[List.drop_set_of_lt (by omega)];apply pM;intro j;rw[lB,lB];exact cg _ (by omega)
     ·rw[Nj]
    ·have he:a=b:=by simpa using fb
     rw[ab he,fG,<-gN] at dy;generalize Nk:row.map bF=Fo at *;simp only[go_sem,go_sem_proc,bm,bG,dp,cL,s1,s2,d2,I0,SH,cE,ck,hj,kg,q4,fb,bne,cP,cD];repeat' (first|refine ax ?_ ?_|fail)<;>intro h<;>simp only[h,go_sem,go_sem_proc,bm,bG,dp,cL,s1,s2,d2,I0,SH,cE,ck,hj,kg,q4,fb,bne,cP,cD]
     refine⟨(d+1,kk,row),by dsimp only;omega,by dsimp only;omega,by dsimp only;omega,by dsimp only;omega,bZ,?_,?_,rfl,rfl,by rw[Nk]⟩
     ·dsimp only;rw[<-qp,dy]
     ·dsimp only;apply pM;intro j;rw[lB,lB];exact cg _ (by omega)
   ·have d2:decide ((d:Int)<((D l-k:Nat):Int))=false:=c5;have aDA:k+d=D l:=by omega
    rw[aDA,lK] at gN;have iE:(kk<=D l/\D l<=D l)=True:=eq_true ⟨by omega,bX _⟩
    have s0:(kk+(D l-kk)<=D l)=True:=eq_true (by omega);have amU:(kk<=D l)=True:=eq_true (by omega);have q4:(row.map bF).length=D l:=by rw[ai,bZ]
    have D0:fM kk (row.map bF)=(mn l).map bF:=by rw[<-z9,gN]
    have dM:(mn l).length=kk:=by rw[<-gN,gC];omega
    have z2:fX (D l) (row.map bF)=[]:=jV (by rw[q4];exact bX _);generalize row.map bF=Fo at *;have amV:(D l<=D l)=True:=eq_true (bX _)
    have qD:∀n:Nat,(dD n [Q.I (.int .i64 0)]).flatten=dD n (Q.I (.int .i64 0)):=λn=>by
     induction n with
     |zero=>rfl
     |succ n aA=>rw[qs,jP,aA,qs];rfl
    have pd:fM kk Fo++(dD (D l-kk) [Q.I (.int .i64 0)]).flatten++fX (kk+(dD (D l-kk) [Q.I (.int .i64 0)]).flatten.length) Fo=(mn l).map bF++(dD (D l-kk) [Q.I (.int .i64 0)]).flatten:=by
     rw[qD,An,show kk+(D l-kk)=(D l) by omega,z2,D0,fG]
    have amW:=λ(K:ba->Prop) (st:ba)=>amQ (K:=K) (st:=st) 2 289040 g kk (mn l) (dD (D l-kk) [Q.I (.int .i64 0)]).flatten (by rw[qD];unfold nU;rw[nq];intro x O;rw[(List.mem_replicate.1 O).2];rfl) dM.symm;simp only[go_sem,go_sem_proc,bm,bG,dp,cL,d2,s0,amU,amV,q4,pd,amW,show (0<=kk)=True from eq_true (fs _),Ct,cD,xM];repeat' (first|refine ax ?_ ?_|fail)<;>intro h<;>simp only[h,go_sem,go_sem_proc,bm,bG,dp,cL,d2,s0,amU,amV,q4,pd,amW,show (0<=kk)=True from eq_true (fs _),Ct,cD,xM]
    exact⟨_,rfl,rfl,λj _=>by by_cases h:j=289040<;>simp[h]⟩
 ·have d1:decide ((k:Int)<(D l:Int))=false:=c5;obtain rfl:k=D l:=by omega
  rw[lK] at G;rw[G];simp only[go_sem,go_sem_proc,bm,bG,k8,d1,aK];repeat' (first|refine ax ?_ ?_|fail)<;>intro h<;>simp only[h,go_sem,go_sem_proc,bm,bG,k8,d1,aK]
  refine⟨_,rfl,?_,λj _=>?_⟩<;>first|rfl|trivial
abbrev abU:(List Int)×(List aw)×(List bg)×(List bg)×(List (List Int))×Int->List Data:=λ(cash,cs,ak,bE,aD,dh)=>[.agg (eL cash cs ak bE aD),.int .i64 dh]
def SI:=cj abU λ(cash,cs,ak,bE,aD,dh)=>cN (D bE=D cs/\D cs<=2000) (.same (.cH [.X ((cG cs dh).map ca),.X ((gy cs bE dh).map aG)]))
theorem aDB:∀a b,abU a=abU b->a=b:=by
  rintro⟨uJ,uK,oH,amX,AA,aMD⟩ ⟨uL,n1,oI,amY,AB,aME⟩ h;simp only[a6,Data.agg.injEq,Data.int.injEq,and_true,true_and] at h;obtain⟨cE,ck⟩:=h;obtain⟨rfl,rfl,rfl,rfl,rfl⟩:=Ay cE;rw[ck]
@[go_sem] theorem amZ (cash:List Int)(cs:List aw)(ak:List bg)(bE:List bg)(aD:List (List Int))(dh:Int)(G:(D bE)=D cs/\D cs<=2000):SI [.agg (eL cash cs ak bE aD),.int .i64 dh]=some (.same (.cH [.X ((cG cs dh).map ca),.X ((gy cs bE dh).map aG)])):=(cu aDB (cash,cs,ak,bE,aD,dh)).trans (cT G _)
theorem aDC (T:bb)  (cash:List Int) (cs:List aw) (ak:List bg) (bE:List bg) (aD:List (List Int)) (dh:Int) (G:(D bE)=D cs/\D cs<=2000):WP T Xt (.same (.cH [.X ((cG cs dh).map ca),.X ((gy cs bE dh).map aG)])) [.I (.agg (eL cash cs ak bE aD)),.I (.int .i64 dh)]:=by
 refine cv ?_;simp only[Xt];obtain⟨E6,hlen⟩:=G;simp only[go_sem,go_sem_proc,eL,ai];refine dm [1,2,11,12] [298002] (λ((i,g,ck):Nat×Nat×Nat) tm m=>i<=D cs/\tm 13=.I (.int .i64 i)/\tm 6=.ref 298025 g 4 0 (cG (cs.take i) dh).length/\tm 7=.ref 298034 ck 4 0 (gy (cs.take i) (bE.take i) dh).length/\m 298025=some (g,a8 ca (cG (cs.take i) dh))/\m 298034=some (ck,a8 aG (gy (cs.take i) (bE.take i) dh))) (λ(i,_,_)=>D cs-i) (0,0,0) (by refine⟨by omega,rfl,rfl,rfl,rfl,rfl⟩) ?_;intro vs ms aR aN;simp only[go_sem,go_sem_proc,eL,ai] at aR aN;subst aR aN;rintro⟨i,g,ck⟩ tm m M hm ⟨J,ie,bK,bH,SJ,SK⟩;simp only[go_sem,go_sem_proc,a6] at M hm;obtain⟨ay,aB,jD,eh⟩:=M;rcases dv (i<D cs) with az|b2
 ·have d1:decide ((i:Int)<(D cs:Int))=true:=dj;have bO:=eZ (i:=i) (by omega);obtain⟨⟨aI,c2,c3,c4⟩,O⟩:∃c,cs[i]?=some c:=⟨_,bu az⟩;obtain⟨⟨⟨iL,ju⟩,⟨sR,vQ⟩⟩,ar⟩:∃c,bE[i]?=some c:=⟨_,bu (by omega)⟩;have gN:cs.take (i+1)=cs.take i++[(aI,c2,c3,c4)]:=by rw[hk,O];rfl
  have aDD:bE.take (i+1)=bE.take i++[((iL,ju),(sR,vQ))]:=by rw[hk,ar];rfl
  have sS:(cs.take i).length=(bE.take i).length:=by rw[gC,gC];omega
  have FU:(cG (cs.take i) dh).length<=2000:=by
   have E:=aCP (cs.take i) dh;have H:(cs.take i).length<=D cs:=by rw[gC];omega
   omega
  have aMF:(gy (cs.take i) (bE.take i) dh).length<=2000:=by
   have E:=akk (cs.take i) (bE.take i) dh;have H:(cs.take i).length<=D cs:=by rw[gC];omega
   omega
  have AU:=akj (cs.take i) (bE.take i) (aI,c2,c3,c4) ((iL,ju),(sR,vQ)) dh sS;rw[<-gN,<-aDD] at AU;have aa5:i<D bE:=by omega
  rcases hp:(aI==dh)
  ·have pR:cG (cs.take (i+1)) dh=cG (cs.take i) dh:=by
    unfold cG;rw[gN,rV,xq (by simpa using hp),qa,fG]
   rw[ag (by dsimp only;rw[hp];decide),fG] at AU;refine aY ?_;repeat' (intro h<;>simp only[h,go_sem,go_sem_proc,ay,aB,jD,eh,ie,bK,bH,hm,O,ar,d1,bO,hp,ca,ai,bh]<;>try refine ax ?_ ?_)
   exact⟨(i+1,g,ck),by dsimp only;omega,by dsimp only;omega,rfl,by rw[pR],by rw[AU],by rw[pR];exact SJ,by rw[AU];exact SK⟩
  ·have pR:cG (cs.take (i+1)) dh=cG (cs.take i) dh++[(aI,c2,c3,c4)]:=by
    unfold cG;rw[gN,rV,v7 (by simpa using hp),qa]
   rw[ab (by dsimp only;exact hp)] at AU;have dG:=mI ET ZZ 298025 g 32 (cG (cs.take i) dh) (aI,c2,c3,c4) (cs:=[.I (.int .i64 aI),.I (.int .i64 c2),.I (.int .i64 c3),.I (.int .i64 c4)]) rfl (by omega) (by omega);rw[<-pR] at dG;have aDE:=λnm k1=>mI nA G0 298034 ck 64 (gy (cs.take i) (bE.take i) dh) ((iL,ju),(sR,vQ)) (cs:=nm) k1 (by omega) (by omega);have abV:=aDE _ rfl;rw[<-AU] at abV;have b5:(cG (cs.take (i+1)) dh).length=(cG (cs.take i) dh).length+1:=by rw[pR,fQ];rfl
   have cw:(gy (cs.take (i+1)) (bE.take (i+1)) dh).length=(gy (cs.take i) (bE.take i) dh).length+1:=by rw[AU,fQ];rfl
   simp only[aG,eC,cS] at abV;refine aY ?_;repeat' (intro h<;>simp only[h,go_sem,go_sem_proc,ay,aB,jD,eh,ie,bK,bH,hm,SJ,SK,O,ar,dG,abV,d1,bO,hp,aa5,ca,aG,ai,bh]<;>try refine ax ?_ ?_)
   exact⟨(i+1,g+1,ck+1),by dsimp only;omega,by dsimp only;omega,rfl,by rw[b5],by rw[cw],rfl,rfl⟩
 ·have d1:decide ((i:Int)<(D cs:Int))=false:=c5;obtain rfl:i=D cs:=by omega
  rw[lK,dx (by omega)] at bH SK;rw[lK] at bK SJ;have RS:=λ(K:ba->Prop) (st:ba)=>mJ (K:=K) (st:=st) ET 6 298025 g (cG cs dh);have RT:=λ(K:ba->Prop) (st:ba)=>mJ (K:=K) (st:=st) nA 7 298034 ck (gy cs bE dh);refine aY ?_;repeat' (intro h<;>simp only[h,go_sem,go_sem_proc,ay,aB,jD,eh,ie,bK,bH,SJ,SK,d1,RS,RT,ai]<;>try refine ax ?_ ?_)
def I1 (cs:List aw)(ps:List Rat)(n:Nat):List Nat:=(dU n).filter λi=>decide (qc cs ps (i:Int)<10)
def gW (cs:List aw)(ps:List Rat)(n:Nat):List Int:=(I1 cs ps n).map λi:Nat=>(i:Int)
theorem am0 (cs:List aw)(ps:List Rat)(n:Nat):gW cs ps (n+1)=gW cs ps n++if qc cs ps (n:Int)<10 then [(n:Int)] else []:=by
 unfold gW I1;rw[oo,rV,kT]
 by_cases h:qc cs ps (n:Int)<10
 ·simp[h]
 ·simp[h]
theorem Nl (cs:List aw)(ps:List Rat)(n:Nat):(gW cs ps n).length<=n:=by
 unfold gW I1;rw[ai];have:=om (λi:Nat=>decide (qc cs ps (i:Int)<10)) (dU n);rwa [sn] at this
abbrev abW:(List Int)×(List aw)×(List bg)×(List Rat)×(List (List Int))×Int->List Data:=λ(cash,cs,ak,ps,aD,i)=>[.agg (eL cash cs ak (ps.map aq) aD),.int .i64 i]
def SM:=cj abW λ(cash,cs,ak,ps,aD,i)=>cN (lS cash cs ps) (.same (.cH [.int .i64 (rX cs ps i),.bool (decide (qc cs ps i<10))]))
theorem aDF:∀a b,abW a=abW b->a=b:=by
  rintro⟨uJ,uK,oH,Ie,AA,i1⟩ ⟨uL,n1,oI,Ig,AB,i2⟩ h;simp only[a6,Data.agg.injEq,Data.int.injEq,and_true,true_and] at h;obtain⟨cE,ck⟩:=h;obtain⟨rfl,rfl,rfl,hj,rfl⟩:=Ay cE;rw[ck,map_inj (λ_ _ aT=>ub aT) _ _ hj]
@[go_sem] theorem am1 (cash:List Int)(cs:List aw)(ak:List bg)(ps:List Rat)(aD:List (List Int))(i:Int)(G:lS cash cs ps):SM [.agg (eL cash cs ak (ps.map aq) aD),.int .i64 i]=some (.same (.cH [.int .i64 (rX cs ps i),.bool (decide (qc cs ps i<10))])):=(cu aDF (cash,cs,ak,ps,aD,i)).trans (cT G _)
theorem aDG (T:bb)(qg:T KE=aV SI)(aDH:T Uz=aV abL)(cash:List Int)(cs:List aw)(ak:List bg)(ps:List Rat)(aD:List (List Int))(i:Int)(G:lS cash cs ps):WP T XC (.same (.cH [.int .i64 (rX cs ps i),.bool (decide (qc cs ps i<10))])) [.I (.agg (eL cash cs ak (ps.map aq) aD)),.I (.int .i64 i)]:=by
 refine cv ?_;simp only[XC];have E:=amZ cash cs ak (ps.map aq) aD i ⟨by rw[ai];exact G.len,G.l⟩
 rw[aau] at E;have H:=aCV (cG cs i) (gy cs ps i) (G.short i);rw[ayU] at H;simp only[eL] at E;generalize ((gy cs ps i).map aq).map aG=aL at *;generalize ps.map aq=y0 at *;generalize rX cs ps i=eT at *;generalize decide (qc cs ps i<10)=B at *;refine aY ?_;repeat' (intro h<;>simp only[h,go_sem,go_sem_proc,qg,aDH,eL,E,H]<;>try refine ax ?_ ?_)
theorem aDI {m:Mem}{k g:Nat}{l:List Int}(h:m k=some (g,a8 ad l)):ru 1 m (.ref k g 1 0 (D l))=some (l.map ad):=by
 have hlen:(a8 ad l).length=D l:=by rw[oM hl];omega
 unfold ru;simp only[h,hlen];rw[ab ⟨trivial,trivial⟩,ab ⟨trivial,by omega⟩,dx (by omega)]
 unfold a8;rw[tH _ λd=>rfl,mB];have:=yb (sz:=1) (l.map ad) (λe he=>by obtain⟨c,-,rfl⟩:=dV.1 he;rfl);rw[ai] at this;rw[this]
abbrev Nm:(List Int)×(List aw)×(List bg)×(List Rat)×(List (List Int))->List Data:=λ(cash,cs,ak,ps,aD)=>[.agg (eL cash cs ak (ps.map aq) aD)]
def Nn:=cj Nm λ(cash,cs,ak,ps,aD)=>cN (lS cash cs ps) (.own 1 ((gW cs ps (D cash)).map ad))
theorem abX:∀a b,Nm a=Nm b->a=b:=by
  rintro⟨uJ,uK,oH,Ie,AA⟩ ⟨uL,n1,oI,Ig,AB⟩ h;simp only[a6,Data.agg.injEq,and_true] at h;obtain⟨rfl,rfl,rfl,hj,rfl⟩:=Ay h;rw[map_inj (λ_ _ aT=>ub aT) _ _ hj]
@[go_sem] theorem abY (cash:List Int)(cs:List aw)(ak:List bg)(ps:List Rat)(aD:List (List Int))(G:lS cash cs ps):Nn [.agg (eL cash cs ak (ps.map aq) aD)]=some (.own 1 ((gW cs ps (D cash)).map ad)):=(cu abX (cash,cs,ak,ps,aD)).trans (cT G _)
theorem aDJ (T:bb)(CX:T KG=aV SM)(cash:List Int)(cs:List aw)(ak:List bg)(ps:List Rat)(aD:List (List Int))(G:lS cash cs ps):WP T Xv (.own 1 ((gW cs ps (D cash)).map ad)) [.I (.agg (eL cash cs ak (ps.map aq) aD))]:=by
 refine cv ?_;simp only[Xv];have aH:=G.n;have he:=λi=>am1 cash cs ak ps aD i G;simp only[eL] at he;generalize ps.map aq=y0 at *;simp only[go_sem,go_sem_proc,CX,eL,ai];refine dm [1,9] [303001] (λ((i,g):Nat×Nat) tm m=>i<=D cash/\tm 10=.I (.int .i64 i)/\tm 3=.ref 303023 g 1 0 (gW cs ps i).length/\m 303023=some (g,a8 ad (gW cs ps i))) (λ(i,_)=>D cash-i) (0,0) (by refine⟨by omega,rfl,rfl,rfl⟩) ?_;intro vs ms aR aN;simp only[go_sem,go_sem_proc,CX,eL,ai] at aR aN;subst aR aN;rintro⟨i,g⟩ tm m M hm ⟨J,c8,bG,SN⟩;simp only[go_sem,go_sem_proc,CX,a6] at M hm;obtain⟨ay,dr⟩:=M;have FR:=Nl cs ps i;rcases dv (i<D cash) with az|b2
 ·have d1:decide ((i:Int)<(D cash:Int))=true:=dj;have bO:=eZ (i:=i) (by omega);have he:=he i;have I2:=am0 cs ps i;rcases q:decide (qc cs ps (i:Int)<10)
  ·rw[q] at he;rw[ag (of_decide_eq_false q),fG] at I2;generalize rX cs ps i=eT at *;refine aY ?_;repeat' (intro h<;>simp only[h,go_sem,go_sem_proc,CX,ay,bG,dr,c8,hm,SN,he,d1,bO,ai]<;>try refine ax ?_ ?_)
   exact⟨(i+1,g),by dsimp only;omega,by dsimp only;omega,rfl,by rw[I2],by rw[I2]⟩
  ·rw[q] at he;rw[ab (of_decide_eq_true q)] at I2;have dG:=mI hl tK 303023 g 8 (gW cs ps i) (i:Int) (cs:=[.I (.int .i64 (i:Int))]) rfl (by omega) (by omega);rw[<-I2] at dG;have av:(gW cs ps (i+1)).length=(gW cs ps i).length+1:=by rw[I2,fQ];rfl
   generalize rX cs ps i=eT at *;refine aY ?_;repeat' (intro h<;>simp only[h,go_sem,go_sem_proc,CX,ay,bG,dr,c8,hm,SN,he,dG,d1,bO,ai]<;>try refine ax ?_ ?_)
   exact⟨(i+1,g+1),by dsimp only;omega,by dsimp only;omega,rfl,by rw[av],rfl⟩
 ·have d1:decide ((i:Int)<(D cash:Int))=false:=c5;obtain rfl:i=D cash:=by omega
  refine aY ?_;repeat' (intro h<;>simp only[h,go_sem,go_sem_proc,CX,ay,bG,dr,c8,hm,SN,d1,ai]<;>try refine ax ?_ ?_)
  exact aDI SN
theorem aDK (T:bb)(SO:T UT=aV abP)(a:Int)(b:Int)(k:Int)(x:Int)(i:Int)(e:Int)(set:List Int)(G:(D set)<=1000000):WP T XD (.same (.bool (a==i&&(k==e&&(decide (x>0) && !decide (b∈set)))))) [.I (.agg [.int .i64 a,.int .i64 b,.int .i64 k,.int .i64 x]),.I (.ptr [.int .i64 i]),.I (.ptr [.int .i64 e]),.I (.ptr [.X (set.map ad)])]:=by
 refine cv ?_;simp only[XD];have gO:=aC8 set b G;rcases aI:(a==i)
 ·refine aY ?_;repeat' (intro h<;>simp only[h,go_sem,go_sem_proc,SO,aI,fB]<;>try refine ax ?_ ?_)
 rcases c2:(k==e)
 ·refine aY ?_;repeat' (intro h<;>simp only[h,go_sem,go_sem_proc,SO,aI,c2,fB,iZ]<;>try refine ax ?_ ?_)
 rcases c3:decide (x>0)
 ·refine aY ?_;repeat' (intro h<;>simp only[h,go_sem,go_sem_proc,SO,aI,c2,c3,fB,iZ]<;>try refine ax ?_ ?_)
 ·refine aY ?_;repeat' (intro h<;>simp only[h,go_sem,go_sem_proc,SO,aI,c2,c3,gO,g1]<;>try refine ax ?_ ?_)
abbrev abZ:(List Int)×(List aw)×(List bg)×(List Rat)×(List (List Int))×Int×(List Int)->List Data:=λ(cash,cs,ak,ps,aD,i,set)=>[.agg (eL cash cs ak (ps.map aq) aD),.int .i64 i,.X (set.map ad)]
def ab0:=cj abZ λ(cash,cs,ak,ps,aD,i,set)=>cN (lS cash cs ps/\D set<=1000000) (.same (.bool (q0 cs ps set i)))
theorem aDL:∀a b,abZ a=abZ b->a=b:=by
  rintro⟨uJ,uK,oH,Ie,AA,i1,akm⟩ ⟨uL,n1,oI,Ig,AB,i2,akn⟩ h;simp only[a6,Data.agg.injEq,Data.int.injEq,Data.X.injEq,and_true,true_and] at h;obtain⟨cE,ck,kg⟩:=h;obtain⟨rfl,rfl,rfl,hj,rfl⟩:=Ay cE;rw[ck,map_inj (λ_ _ aT=>ub aT) _ _ hj,map_inj fi _ _ kg]
@[go_sem] theorem aDM (cash:List Int)(cs:List aw)(ak:List bg)(ps:List Rat)(aD:List (List Int))(i:Int)(set:List Int)(G:lS cash cs ps/\D set<=1000000):ab0 [.agg (eL cash cs ak (ps.map aq) aD),.int .i64 i,.X (set.map ad)]=some (.same (.bool (q0 cs ps set i))):=(cu aDL (cash,cs,ak,ps,aD,i,set)).trans (cT G _)
theorem aDN (T:bb)(CX:T KG=aV SM)(Ik:T DN=aV MF)(cash:List Int)(cs:List aw)(ak:List bg)(ps:List Rat)(aD:List (List Int))(i:Int)(set:List Int)(G:lS cash cs ps/\D set<=1000000):WP T Xx (.same (.bool (q0 cs ps set i))) [.I (.agg (eL cash cs ak (ps.map aq) aD)),.I (.int .i64 i),.I (.X (set.map ad))]:=by
 refine cv ?_;simp only[Xx];have E:=am1 cash cs ak ps aD i G.1;have H:=aaS cs (.E0 i (rX cs ps i) set) ⟨by have:=G.1.l;omega,by decide,G.2⟩
 have e:cs.any (s7 (.E0 i (rX cs ps i) set))=q0 cs ps set i:=rfl;rw[e] at H;simp only[wc] at H;simp only[eL] at E;generalize ps.map aq=y0 at *;generalize rX cs ps i=eT at *;generalize q0 cs ps set i=B at *;refine aY ?_;repeat' (intro h<;>simp only[h,go_sem,go_sem_proc,CX,Ik,eL,E,H,cy,nT,kQ,scalar]<;>try refine ax ?_ ?_)
theorem aDO (T:bb)(am2:T UR=aV ab0)(x:Int)(cash:List Int)(cs:List aw)(ak:List bg)(ps:List Rat)(aD:List (List Int))(set:List Int)(G:lS cash cs ps/\D set<=1000000):WP T Xw (.same (.bool (q0 cs ps set x))) [.I (.int .i64 x),.I (.ptr (eL cash cs ak (ps.map aq) aD)),.I (.ptr [.X (set.map ad)])]:=by
 refine cv ?_;simp only[Xw];have h:=aDM cash cs ak ps aD x set G;simp only[eL] at h;generalize q0 cs ps set x=B at *;generalize ps.map aq=y0 at *;simp only[go_sem,go_sem_proc,am2,eL,h];repeat' (first|refine ax ?_ ?_|fail)<;>intro h<;>simp only[h,go_sem,go_sem_proc,am2,eL,h]
structure tf where
 g:Nat
 cE:Nat
 ck:Nat
 L:List Int
 Z:List Int
 cash:List Int
 cs:List aw
 ak:List bg
 ps:List Rat
 aD:List (List Int)
 set:List Int
structure tf.eI (a:tf) (mem:Mem):Prop where
 row:mem 290006=some (a.g,(a.L++a.Z).map bF)
 day:mem 290001=some (a.cE,(eL a.cash a.cs a.ak (a.ps.map aq) a.aD).map .I)
 st:mem 290004=some (a.ck,[Data.X (a.set.map ad)].map .I)
 AV:lS a.cash a.cs a.ps
 X:(D a.set)<=60
 am3:(D a.L)+D a.Z<=60
def tf.args (a:tf):List Q:=[.ref 290006 a.g 1 0 (D a.L),.fA tN [.ptr 290001 a.cE 0,.ptr 290004 a.ck 0]]
def stay (cs:List aw)(ps:List Rat)(set L:List Int):List Int:=L.filter λx => !q0 cs ps set x
def Np (a:tf)(mem:Mem):Q->Mem->Prop:=λm mem'=>∃Nq:List Int,D Nq+(stay a.cs a.ps a.set a.L).length=D a.L+D a.Z/\m=.ref 290006 a.g 1 0 (stay a.cs a.ps a.set a.L).length/\mem'=a1 mem 290006 a.g ((stay a.cs a.ps a.set a.L++Nq).map bF)
def Nr:List Q->Mem->Option (Q->Mem->Prop):=ui (λ(a:tf) args mem=>args=a.args/\a.eI mem) Np
theorem aDP:∀a b:Data,Q.I a=Q.I b->a=b:=λa b h=>by cases h;rfl
theorem aDQ {a b:tf}{mem:Mem}(h:a.args=b.args)(E:a.eI mem)(H:b.eI mem):a=b:=by
 obtain⟨g,cE,ck,L,Z,cash,cs,ak,ps,aD,set⟩:=a;obtain⟨c0,aMG,aMH,aMI,Nq,H5,nm,lA,aMJ,Av,aMK⟩:=b;have ay:=E.row.symm.trans H.row;have aB:=E.day.symm.trans H.day;have bG:=E.st.symm.trans H.st;simp only[tf.args,a6,Q.ref.injEq,and_true,true_and] at h;simp only[cm,fo] at ay aB bG;obtain⟨rfl,ay⟩:=ay;obtain⟨rfl,aB⟩:=aB;obtain⟨rfl,bG⟩:=bG;obtain⟨rfl,rfl,rfl,kj,rfl⟩:=Ay (map_inj aDP _ _ aB);obtain rfl:=map_inj (λ_ _ aT=>ub aT) _ _ kj;simp only[eC,cS,a6,Q.I.injEq,Data.X.injEq,and_true] at bG;obtain rfl:=map_inj fi _ _ bG;obtain⟨rfl,rfl⟩:=List.append_inj (Rf ay) h.1.2
 rfl
theorem aDR (a:tf)(mem:Mem)(h:a.eI mem):Nr a.args mem=some (Np a mem):=by
 unfold Nr;exact LF (a:=a) (λa b args mem E H=>aDQ (E.1.symm.trans H.1) E.2 H.2) ⟨rfl,h⟩
theorem SP {n k g:Nat}{mem:Mem}{ds:List Data}(h:mem k=some (g,ds.map .I)):cy (n+1) mem (.ptr k g 0)=some (.ptr ds):=by
 unfold cy;rw[h];simp only;rw[ab ⟨trivial,fs _⟩,l2,tH _ λd=>by cases n<;>rfl]
 rfl
theorem am4 {n k g:Nat}{mem:Mem}{L Z:List Int}(h:mem k=some (g,(L++Z).map bF)):cy (n+1) mem (.ref k g 1 0 (D L))=some (.X (L.map ad)):=by
 unfold cy;rw[h];simp only[if_true];unfold cut;rw[kH,cD,ab (by simp),l2,kT,Dj,ai,my,mH,fG,dx (by rw[ai];exact bX _)];have e:L.map bF=((L.map ad).flatten).map Q.I:=by rw[yW];rfl
 rw[e];simp only;rw[tH _ λd=>by cases n<;>rfl]
 have:=yb (sz:=1) (L.map ad) (λx O=>by obtain⟨y,-,rfl⟩:=dV.1 O;rfl);rw[ai] at this;simp[this]
theorem aDS {T:bb}(MC:T tN=aV Ic){a:tf}{mem m:Mem}(aM:a.eI mem)(E:m 290001=mem 290001)(aP:m 290004=mem 290004)(x:Int):
  T tN [.I (.int .i64 x),.ptr 290001 a.cE 0,.ptr 290004 a.ck 0] m=some (.same (.bool (q0 a.cs a.ps a.set x))):=by
 have t1:cy 6 m (.ptr 290001 a.cE 0)=some (.ptr (eL a.cash a.cs a.ak (a.ps.map aq) a.aD)):=SP (E.trans aM.day);have t2:cy 6 m (.ptr 290004 a.ck 0)=some (.ptr [.X (a.set.map ad)]):=SP (aP.trans aM.st);have t3:cy 6 m (.I (.int .i64 x))=some (.int .i64 x):=rfl;have fa:=ako x a.cash a.cs a.ak a.ps a.aD a.set ⟨aM.AV,by have:=aM.X;omega⟩
 have ay:[Q.I (.int .i64 x),.ptr 290001 a.cE 0,.ptr 290004 a.ck 0].mapM (cy 6 m)=some [.int .i64 x,.ptr (eL a.cash a.cs a.ak (a.ps.map aq) a.aD),.ptr [.X (a.set.map ad)]]:=by
  simp only[lz,Ga,t1,t2,t3];rfl
 have bm:[Q.I (.int .i64 x),.ptr 290001 a.cE 0,.ptr 290004 a.ck 0].mapM (cy 6 emp)=none:=rfl;rw[MC];unfold aV;rw[bm,ay];show (Ic _).bind wG=_;rw[fa];simp[wG,scalar]
theorem aDT {T:bb}(nh:T wL=aV AE){a:tf}{mem:Mem}(aM:a.eI mem):
  T wL a.args mem=some (.same (.int .i64 (kP (λx=>q0 a.cs a.ps a.set x) a.L))):=by
 have t1:cy 5 mem (.ptr 290001 a.cE 0)=some (.ptr (eL a.cash a.cs a.ak (a.ps.map aq) a.aD)):=SP aM.day;have t2:cy 5 mem (.ptr 290004 a.ck 0)=some (.ptr [.X (a.set.map ad)]):=SP aM.st;have t3:cy 6 mem (.ref 290006 a.g 1 0 (D a.L))=some (.X (a.L.map ad)):=am4 aM.row
 have t4:cy 6 mem (.fA tN [.ptr 290001 a.cE 0,.ptr 290004 a.ck 0])=some (rZ (.CO a.cash a.cs a.ak a.ps a.aD a.set)):=by
  rw[aqM];simp only[lz,Ga,t1,t2];rfl
 have av:=aM.am3;have fa:=akq a.L (.CO a.cash a.cs a.ak a.ps a.aD a.set) ⟨by omega,by decide,aM.AV,by have:=aM.X;omega⟩
 have ay:a.args.mapM (cy 6 mem)=some [.X (a.L.map ad),rZ (.CO a.cash a.cs a.ak a.ps a.aD a.set)]:=by
  unfold tf.args;simp only[lz,Ga,t3,t4];rfl
 have bm:a.args.mapM (cy 6 emp)=none:=rfl;rw[nh];unfold aV;rw[bm,ay];show (AE _).bind wG=_;rw[fa];simp only[la,wG,scalar,if_true]
 rfl
theorem am5 {p:Int->Bool}{L:List Int}{j:Nat}{x:Int}(h:L[j]?=some x):(L.take (j+1)).filter p=(L.take j).filter p++if p x=true then [x] else []:=by
 rw[hk,h,rV]
 cases aF:p x<;>simp[aF]
theorem aDU (n:Nat):(dD n [Q.I (.int .i64 0)]).flatten=(dD n (0:Int)).map bF:=by
 induction n with
 |zero=>rfl
 |succ n aA=>rw[qs,jP,aA,qs];rfl
theorem aDV (T:bb)(nh:T wL=aV AE)(MC:T tN=aV Ic)(a:tf)(mem:Mem)(aM:a.eI mem):
  wp T OU.body (od OU.res (Np a mem)) ⟨kr a.args,mem⟩:=by
 have vU:=aDT nh aM;have hH:=λ(m:Mem) (E:m 290001=mem 290001) (aP:m 290004=mem 290004) (x:Int)=>aDS MC aM E aP x;have eS:=aM.row;have MV:=aM.am3;obtain⟨g,cE,ck,L,Z,cash,cs,ak,ps,aD,set⟩:=a;clear aM;unfold Np;simp only[tf.args,stay] at vU hH eS MV ⊢;generalize aF:q0 cs ps set=p at *;refine qv ?_;simp only[OU];rcases aO:(kP (λx=>p x) L == -1)
 case true =>
  have aK:L.filter (λx => !p x)=L:=by
   rw[am6];intro x O;have:=Lt (λx=>p x) L;rw[eq_of_beq aO] at this;have H:=xj.1 this.symm x O
   simpa using H
  rw[aK];simp only[go_sem,go_sem_proc,vU,aO];repeat' (first|refine ax ?_ ?_|fail)<;>intro h<;>simp only[h,go_sem,go_sem_proc,vU,aO]
  exact⟨_,rfl,Z,by omega,rfl,by
   funext k
   by_cases M:k=290006
   ·subst M;rw[iI,eS]
   ·rw[dn M]⟩
 obtain⟨i0,sw,aML,cg,BT⟩:∃i0:Nat,kP (λx=>p x) L=(i0:Int)/\i0<D L/\(∃x,L[i0]?=some x/\p x=true)/\∀x∈L.take i0,p x=false:=by
  unfold kP at aO ⊢
  cases h:L.findIdx? (λx=>p x) with
  |none=>rw[h] at aO;cases aO
  |some i =>
   obtain⟨E,H,af⟩:=List.findIdx?_eq_some_iff_getElem.1 h;refine⟨i,rfl,E,⟨_,bu E,H⟩,λx O=>?_⟩;obtain⟨j,ah⟩:=tI.1 O;rw[u9] at ah
   split at ah
   ·rename_i ic;obtain⟨jm,rfl⟩:=dP.1 ah;have:=af j ic
    simpa using this
   ·cases ah
 rw[sw] at vU aO;have ew:=eZ (i:=i0) (by omega);simp only[go_sem,go_sem_proc,vU,aO,ew]
 refine dm [0,1] [] (λ((j,row):Nat×List Int) tm m=>j<=D L/\tm 6=.I (.int .i64 (j:Int))/\tm 5=.I (.int .i64 (((L.take j).filter λx => !p x).length:Int))/\D row=D L+D Z/\row.take ((L.take j).filter λx => !p x).length=(L.take j).filter (λx => !p x)/\row.drop j=(L++Z).drop j/\m=a1 mem 290006 g (row.map bF)) (λ(j,_)=>D L-j) (i0+1,L++Z) (by
  obtain⟨x,O,I3⟩:=cg
  have e:(L.take (i0+1)).filter (λx => !p x)=L.take i0:=by
   rw[am5 O,ag (by rw[I3];decide),fG,am6];intro y ar;rw[BT y ar];rfl
  have aB:(L.take i0).length=i0:=by rw[gC];omega
  refine⟨by omega,rfl,?_,by rw[fQ],?_,rfl,?_⟩
  ·rw[e,aB];rfl
  ·rw[e,aB,Dj,show i0-D L=0 by omega,mH,fG]
  ·funext k
   by_cases M:k=290006
   ·subst M;rw[iI];exact eS
   ·rw[dn M]) ?_
 intro vs ms aR aN;simp only[go_sem,go_sem_proc] at aR aN;subst aR aN;rintro⟨j,row⟩ tm m M-⟨ah,bK,cL,bZ,gN,qG,hm⟩;simp only[go_sem,go_sem_proc,a6] at M;obtain⟨bm,ay⟩:=M;subst hm;have dM:=λ(x:Int)=>hH (a1 mem 290006 g (row.map bF)) rfl rfl x
 have lD:((L.take j).filter λx => !p x).length<=j:=by
  have E:=om (λx => !p x) (L.take j);have H:(L.take j).length<=j:=List.length_take_le _ _;omega
 rcases dv (j<D L) with az|b2
 ·have d1:decide ((j:Int)<(D L:Int))=true:=dj;obtain⟨x,O⟩:∃x,L[j]?=some x:=⟨_,bu az⟩
  have aDW:row[j]?=some x:=by
   have E:row[j]?=(row.drop j)[0]?:=by rw[lB];rfl
   rw[E,qG,lB,Nat.add_zero,qq az,O]
  have I4:=am5 (p:=λx => !p x) O;have dM:=dM x;have w1:=eZ (i:=j) (by omega);have s1:fM 1 (fX j (row.map bF))=[.I (.int .i64 x)]:=v9 (f:=bF) aDW;have c1:(j<D L)=True:=eq_true az;have ee:(j+1<=D L+D Z)=True:=eq_true (by omega);have q4:(row.map bF).length=D L+D Z:=by rw[ai,bZ]
  have kv:∀y:List Int,D y=(D row)->(∀k,j+1<=k->y[k]?=row[k]?)->y.drop (j+1)=(L++Z).drop (j+1):=λy zk ar=>by
   apply pM;intro k;rw[lB,lB,ar _ (by omega)];have E:row[j+1+k]?=(row.drop j)[1+k]?:=by rw[lB];congr 1;omega
   have H:(L++Z)[j+1+k]?=((L++Z).drop j)[1+k]?:=by rw[lB];congr 1;omega
   rw[E,H,qG]
  rcases I3:p x
  ·rw[I3] at dM;rw[ab (by rw[I3];rfl)] at I4;have gG:((L.take (j+1)).filter λx => !p x).length=((L.take j).filter λx => !p x).length+1:=by rw[I4,fQ];rfl
   generalize aH:((L.take j).filter λx => !p x).length=n at *;have ni:=eZ (i:=n) (by omega);have jz:(n<D L)=True:=eq_true (by omega);have lq:(n+1<=D L+D Z)=True:=eq_true (by omega)
   have mT:fM n (row.map bF)++[Q.I (.int .i64 x)]++fX (n+1) (row.map bF)=(row.set n x).map bF:=by
    rw[MN,ab (by omega),kT,eC,z9,Nh,gM];rfl
   generalize Nk:row.map bF=Fo at *;simp only[go_sem,go_sem_proc,bm,ay,cL,bK,s1,d1,w1,ni,c1,ee,jz,lq,q4,mT,dM,du,cD];repeat' (first|refine ax ?_ ?_|fail)<;>intro h<;>simp only[h,go_sem,go_sem_proc,bm,ay,cL,bK,s1,d1,w1,ni,c1,ee,jz,lq,q4,mT,dM,du,cD]
   refine⟨(j+1,row.set n x),by dsimp only;omega,by dsimp only;omega,rfl,?_,?_,?_,?_,?_⟩
   ·rw[gG]
   ·dsimp only;rw[iY,bZ]
   ·dsimp only;rw[gG,I4,hk,amT (bX _),gN,J6 (by omega)];rfl
   ·exact kv _ (iY ..) λk M=>by rw[List.getElem?_set_ne (by omega)]
   ·rw[Nj]
  ·rw[I3] at dM;rw[ag (by rw[I3];decide),fG] at I4;generalize Nk:row.map bF=Fo at *;simp only[go_sem,go_sem_proc,bm,ay,cL,bK,s1,d1,w1,c1,ee,q4,dM,cP,cD];repeat' (first|refine ax ?_ ?_|fail)<;>intro h<;>simp only[h,go_sem,go_sem_proc,bm,ay,cL,bK,s1,d1,w1,c1,ee,q4,dM,cP,cD]
   exact⟨(j+1,row),by dsimp only;omega,by dsimp only;omega,rfl,by rw[I4],bZ,by rw[I4];exact gN,kv _ rfl λk M=>rfl,by rw[Nk]⟩
 ·have d1:decide ((j:Int)<(D L:Int))=false:=c5;obtain rfl:j=D L:=by omega
  rw[lK] at cL gN lD;have hlen:((L.filter λx => !p x).length)<=D L:=lD;generalize fa:L.filter (λx => !p x)=aS at *;have aI:(D aS<=D L)=True:=eq_true hlen;have c2:(D aS+(D L-D aS)<=D L+D Z)=True:=eq_true (by omega);have c3:(D L<=D L)=True:=eq_true (bX _);have q4:(row.map bF).length=D L+D Z:=by rw[ai,bZ]
  have D0:fM (D aS) (row.map bF)=aS.map bF:=by rw[<-z9,gN]
  have z2:fX (D L) (row.map bF)=Z.map bF:=by rw[<-Nh,qG,List.drop_left]
  have pd:fM (D aS) (row.map bF)++(dD (D L-D aS) [Q.I (.int .i64 0)]).flatten++fX (D aS+(dD (D L-D aS) [Q.I (.int .i64 0)]).flatten.length) (row.map bF)=(aS++(dD (D L-D aS) 0++Z)).map bF:=by
   rw[aDU,ai,An,show (D aS)+(D L-D aS)=(D L) by omega,z2,D0,kT,kT,gM]
  generalize row.map bF=Fo at *;simp only[go_sem,go_sem_proc,bm,ay,cL,bK,d1,aI,c2,c3,q4,pd,Ct,cD,xM,DA,kH];repeat' (first|refine ax ?_ ?_|fail)<;>intro h<;>simp only[h,go_sem,go_sem_proc,bm,ay,cL,bK,d1,aI,c2,c3,q4,pd,Ct,cD,xM,DA,kH]
  exact⟨_,rfl,dD (D L-D aS) 0++Z,by rw[fQ,An];omega,rfl,by rw[Nj];rfl⟩
def h7 (cs:List aw)(ps:List Rat)(s:List Int):Nat->List Int
 |0=>s
 |k+1=>stay cs ps (h7 cs ps s k) (h7 cs ps s k)
theorem am7 (cs:List aw)(ps:List Rat)(set L:List Int):(stay cs ps set L).length<=D L:=om _ _
theorem aDX (cs:List aw)(ps:List Rat)(s:List Int)(k:Nat):(h7 cs ps s k).length<=D s:=by
 induction k with
 |zero=>exact bX _
 |succ k aA=>exact eQ (am7 ..) aA
def ab1:=cj Nm λ(cash,cs,ak,ps,aD)=>cN (lS cash cs ps) (.same (.bool (decide (((h7 cs ps (gW cs ps (D cash)) (D cash)).length:Int)>0))))
@[go_sem] theorem aDY (cash:List Int)(cs:List aw)(ak:List bg)(ps:List Rat)(aD:List (List Int))(G:lS cash cs ps):ab1 [.agg (eL cash cs ak (ps.map aq) aD)]=some (.same (.bool (decide (((h7 cs ps (gW cs ps (D cash)) (D cash)).length:Int)>0)))):=(cu abX (cash,cs,ak,ps,aD)).trans (cT G _)
theorem aDZ (T:bb)(nR:T DP=aV Nn)(fN:T vp=aV BE)(I5:T UQ=py Nr)(cash:List Int)(cs:List aw)(ak:List bg)(ps:List Rat)(aD:List (List Int))(G:lS cash cs ps):WP T Xl (.same (.bool (decide (((h7 cs ps (gW cs ps (D cash)) (D cash)).length:Int)>0)))) [.I (.agg (eL cash cs ak (ps.map aq) aD))]:=by
 refine cv ?_;simp only[Xl];have aH:=G.n;have j0:=abY cash cs ak ps aD G;have FR:=Nl cs ps (D cash);have dM:=aDX cs ps (gW cs ps (D cash));have eS:∀l:List Int,a8 ad l=l.map bF:=λl=>(yW l).symm;generalize cJ:gW cs ps (D cash)=xG at *
 have e2:∀(m:Mem) (g cE ck:Nat) (L Z:List Int),m 290006=some (g,(L++Z).map bF)->(D L)+D Z<=60->m 290001=some (cE,[.I (.X (cash.map ad)),.I (.X (cs.map ca)),.I (.X (ak.map aG)),.I (.X ((ps.map aq).map aG)),.I (.X (aD.map o4))])->Nr [.ref 290006 g 1 0 (D L),.fA tN [.ptr 290001 cE 0,.ptr 290004 ck 0]] (a1 (a1 m 290004 ck [.nil]) 290004 ck [.I (.X (L.map ad))])=some (Np ⟨g,cE,ck,L,Z,cash,cs,ak,ps,aD,L⟩ (a1 (a1 m 290004 ck [.nil]) 290004 ck [.I (.X (L.map ad))])):=λm g cE ck L Z E H af =>
  aDR ⟨g,cE,ck,L,Z,cash,cs,ak,ps,aD,L⟩ _ ⟨E,af,iI,G,by dsimp only;omega,H⟩
 simp only[eL] at j0;generalize aMM:ps.map aq=y0 at *;simp only[go_sem,go_sem_proc,nR,fN,I5,eL,j0,ai]
 refine dm [1,9] [290001] (λ((k,g,Z):Nat×Nat×List Int) tm m=>k<=D cash/\tm 10=.I (.int .i64 k)/\tm 3=.ref 290006 g 1 0 (h7 cs ps xG k).length/\m 290006=some (g,(h7 cs ps xG k++Z).map bF)/\(h7 cs ps xG k).length+D Z<=60) (λ(k,_,_)=>D cash-k) (0,0,[]) (by
  refine⟨by omega,rfl,?_,?_,?_⟩
  ·show _=Q.ref 290006 0 1 0 (D xG);simp[e7]
  ·show _=some (0,(xG++[]).map bF);rw[fG,yW]
   rfl
  ·show (D xG)+0<=60;omega) ?_
 intro vs ms aR aN;simp only[go_sem,go_sem_proc,nR,fN,I5,eL,ai] at aR aN;subst aR aN;rintro⟨k,g,Z⟩ tm m M hm ⟨pg,c8,bG,am8,MV⟩;simp only[go_sem,go_sem_proc,nR,fN,I5,a6] at M hm;obtain⟨ay,dr⟩:=M;rcases dv (k<D cash) with az|b2
 ·have d1:decide ((k:Int)<(D cash:Int))=true:=dj;have bO:=eZ (i:=k) (by omega);have hW:h7 cs ps xG (k+1)=stay cs ps (h7 cs ps xG k) (h7 cs ps xG k):=rfl;generalize h7 cs ps xG k=S at *;have bA:cy 6 m (.ref 290006 g 1 0 (D S))=some (.X (S.map ad)):=am4 am8;have aD0:cy 6 emp (.ref 290006 g 1 0 (D S))=none:=rfl;have gO:=ae6 S (by omega)
  have ML:((S.map ad).all λe=>e.all scalar)=true:=by
   rw[nq];intro x O;obtain⟨y,-,rfl⟩:=dV.1 O;simp[ad,scalar]
  have aO:=e2 m g 0 (gE (m 290004)) S Z am8 MV hm;simp only[go_sem,go_sem_proc,nR,fN,I5,ay,bG,dr,c8,hm,d1,bA,aD0,gO,aO,wG,ML,kQ,la];rintro r m' ⟨Nq,aW,aa,n2⟩;dsimp only at aW aa n2;rw[<-hW] at aW aa n2;subst aa n2;refine aY ?_;repeat' (intro h<;>simp only[h,go_sem,go_sem_proc,nR,fN,I5,ay,dr,c8,hm,bO]<;>try refine ax ?_ ?_)
  exact⟨(k+1,g,Nq),by dsimp only;omega,by dsimp only;omega,rfl,rfl,rfl,by dsimp only;omega⟩
 ·have d1:decide ((k:Int)<(D cash:Int))=false:=c5;obtain rfl:k=D cash:=by omega
  generalize h7 cs ps xG (D cash)=S at *;refine aY ?_;repeat' (intro h<;>simp only[h,go_sem,go_sem_proc,nR,fN,I5,ay,bG,dr,c8,hm,d1]<;>try refine ax ?_ ?_)
def y7 (l:List aw)(k:Nat):Bool:=l.any λc=>(c.2.2.1==(k:Int))&&decide (c.2.2.2>0)
def SQ (l:List aw)(k:Nat):Nat:=((dU k).filter (y7 l)).length
theorem aD1 {cash:List Int}{cs:List aw}(U:fz cash cs)(i k:Nat):SQ (cG cs i) k=(au cash cs).xr i k:=by
 unfold SQ Day.xr
 congr 2
 funext r
 have h:=ajB U.ok i r;have aa:=(gQ.1 U.right).2.2.2;rw[Bool.eq_iff_iff,decide_eq_true_eq,h];unfold y7;rw[List.any_eq_true]
 constructor
 ·rintro⟨c,G,E⟩;simp only[e9,beq_iff_eq,decide_eq_true_eq] at E;obtain⟨H,af⟩:=ot.1 G;refine⟨cA c,p9 H,by show c.1.toNat=i;omega,by show c.2.2.1.toNat=r;omega,?_⟩
  show (0:Rat)<((c.2.2.2:Int):Rat);exact_mod_cast E.2
 ·rintro⟨b,ae,E,H,af⟩;obtain⟨c,G,rfl⟩:=dV.1 ae;have aP:=aa c G;have x9:c.1.toNat=i:=E;have sj:c.2.2.1.toNat=r:=H;refine⟨c,ot.2 ⟨G,by omega⟩,?_⟩
  have aD2:(0:Rat)<((c.2.2.2:Int):Rat):=af;have bt:0<c.2.2.2:=by exact_mod_cast aD2
  simp only[e9,beq_iff_eq,decide_eq_true_eq];omega


theorem aD3 {n:Int}(h:dA n):Em [.int .i64 n,.int .i64 1]=some (.same (.cH [.agg (aG (aq (n:Rat))),.int .i64 0])):=by
 have:=agh n 1 ⟨h,Ri⟩;rw[Rc h] at this;exact this
abbrev ab2:List Int->List Data:=λ(l:List Int)=>[.X (l.map ad),.fn nu []]
def ab3:=cj ab2 λ(l:List Int)=>cN (D l<=1000000) (.same (.bool (l.all gl)))
theorem aD4:∀a b,ab2 a=ab2 b->a=b:=by
  intro en al h;simp only[a6,Data.X.injEq,and_true] at h;exact map_inj fi _ _ h
@[go_sem] theorem aD5 (l:List Int)(G:(D l)<=1000000):ab3 [.X (l.map ad),.fn nu []]=some (.same (.bool (l.all gl))):=(cu aD4 l).trans (cT G _)
theorem aD6 (T:bb)(RB:T KA=aV Ry)(l:List Int)(G:(D l)<=1000000):WP T Xq (.same (.bool (l.all gl))) [.I (.X (l.map ad)),.I (.fn nu [])]:=by
 refine cv ?_;simp only[Xq];have h:=akr l .rY ⟨G,by show BC<900000;decide⟩
 have e:l.any (qd .rY) = !l.all gl:=MG l gl;rw[e] at h;simp only[rZ] at h;simp only[go_sem,go_sem_proc,RB,h,cy,nT,kQ,scalar,I6];repeat' (first|refine ax ?_ ?_|fail)<;>intro h<;>simp only[h,go_sem,go_sem_proc,RB,h,cy,nT,kQ,scalar,I6]
abbrev ab4:(List aw)×Int->List Data:=λ(l,n)=>[.X (l.map ca),.fn yd [.ptr [.int .i64 n],.ptr [.fn nu []]]]
def ab5:=cj ab4 λ(l,n)=>cN (D l<=1000000/\0<=n/\n<=1000000) (.same (.bool (l.all (hS n))))
theorem aD7:∀a b,ab4 a=ab4 b->a=b:=by
  rintro⟨en,iw⟩ ⟨al,jr⟩ h;simp only[a6,Data.X.injEq,Data.fn.injEq,Data.ptr.injEq,Data.int.injEq,and_true,true_and] at h;exact dQ (map_inj rU _ _ h.1) h.2
@[go_sem] theorem aD8 (l:List aw)(n:Int)(G:(D l)<=1000000/\0<=n/\n<=1000000):ab5 [.X (l.map ca),.fn yd [.ptr [.int .i64 n],.ptr [.fn nu []]]]=some (.same (.bool (l.all (hS n)))):=(cu aD7 (l,n)).trans (cT G _)
theorem aD9 (T:bb)(Ik:T DN=aV MF)(l:List aw)(n:Int)(G:(D l)<=1000000/\0<=n/\n<=1000000):WP T Xr (.same (.bool (l.all (hS n)))) [.I (.X (l.map ca)),.I (.fn yd [.ptr [.int .i64 n],.ptr [.fn nu []]])]:=by
 refine cv ?_;simp only[Xr];have h:=aaS l (.rY n) ⟨G.1,by decide,G.2⟩
 have e:l.any (s7 (.rY n)) = !l.all (hS n):=MG l _;rw[e] at h;simp only[wc] at h;simp only[go_sem,go_sem_proc,Ik,h,cy,nT,kQ,scalar,I6];repeat' (first|refine ax ?_ ?_|fail)<;>intro h<;>simp only[h,go_sem,go_sem_proc,Ik,h,cy,nT,kQ,scalar,I6]
def xH (f:bg):Bool:=ei f&&decide (f.1.1>=0)
abbrev ab6:List bg->List Data:=λ(l:List bg)=>[.X (l.map aG),.fn wM []]
def ab7:=cj ab6 λ(l:List bg)=>cN (fY l) (.same (.bool (l.all xH)))
theorem aEa:∀a b,ab6 a=ab6 b->a=b:=by
  intro en al h;simp only[a6,Data.X.injEq,and_true] at h;exact map_inj nb _ _ h
@[go_sem] theorem am9 (l:List bg)(G:fY l):ab7 [.X (l.map aG),.fn wM []]=some (.same (.bool (l.all xH))):=(cu aEa l).trans (cT G _)
theorem aEb (T:bb)(G9:T Ko=aV Lv)(l:List bg)(G:fY l):WP T Xs (.same (.bool (l.all xH))) [.I (.X (l.map aG)),.I (.fn wM [])]:=by
 refine cv ?_;simp only[Xs];have h:=agB l vv ⟨G,.inr (.inr ⟨rfl,by decide⟩)⟩;have e:l.any (pZ vv) = !l.all xH:=by rw[agz];exact MG l xH
 have W3:G7 vv=[.ptr [.fn wM []]]:=ab rfl;rw[e,W3] at h;simp only[go_sem,go_sem_proc,G9,h,cy,nT,kQ,scalar,I6];repeat' (first|refine ax ?_ ?_|fail)<;>intro h<;>simp only[h,go_sem,go_sem_proc,G9,h,cy,nT,kQ,scalar,I6]
def q5 (cash:List Int)(cs:List aw)(ak bE:List bg):Bool:=!(decide ((D cash:Int)>60)||(decide ((D cs:Int)>2000)||(!((D ak:Int)==(D cash:Int)) || !((D bE:Int)==(D cs:Int)))))&&(cash.all gl&&(cs.all (hS (D cash))&&(ak.all xH&&bE.all xH)))
abbrev ab8:(List Int)×(List aw)×(List bg)×(List bg)×(List (List Int))->List Data:=λ(cash,cs,ak,bE,aD)=>[.agg (eL cash cs ak bE aD)]
def SR:=cj ab8 λ(cash,cs,ak,bE,aD)=>cN (D cash<=1000000/\D cs<=1000000/\fY ak/\fY bE) (.same (.bool (q5 cash cs ak bE)))
theorem aEc:∀a b,ab8 a=ab8 b->a=b:=by
  rintro⟨uJ,uK,oH,amX,AA⟩ ⟨uL,n1,oI,amY,AB⟩ h;simp only[a6,Data.agg.injEq,and_true] at h;obtain⟨rfl,rfl,rfl,rfl,rfl⟩:=Ay h;rfl
@[go_sem] theorem ana (cash:List Int)(cs:List aw)(ak:List bg)(bE:List bg)(aD:List (List Int))(G:(D cash)<=1000000/\D cs<=1000000/\fY ak/\fY bE):SR [.agg (eL cash cs ak bE aD)]=some (.same (.bool (q5 cash cs ak bE))):=(cu aEc (cash,cs,ak,bE,aD)).trans (cT G _)
theorem aEd (T:bb)(CY:T UK=aV ab3)(CZ:T UL=aV ab5)(C0:T ON=aV ab7)(cash:List Int)(cs:List aw)(ak:List bg)(bE:List bg)(aD:List (List Int))(G:(D cash)<=1000000/\D cs<=1000000/\fY ak/\fY bE):WP T Xi (.same (.bool (q5 cash cs ak bE))) [.I (.agg (eL cash cs ak bE aD))]:=by
 refine cv ?_;simp only[Xi];obtain⟨E,H,af,aP⟩:=G;have cQ:=aD5 cash E;have de:=aD8 cs (D cash) ⟨H,by omega,by omega⟩
 have ep:=am9 ak af;have fe:=am9 bE aP;unfold q5;generalize ak.all xH=A3 at *;generalize bE.all xH=A4 at *;generalize cash.all gl=Zv at *;generalize cs.all (hS (D cash))=HN at *;rcases aI:decide ((D cash:Int)>60)
 case true =>
        refine aY ?_;repeat' (intro h<;>simp only[h,go_sem,go_sem_proc,CY,CZ,C0,eL,aI,ai,sl,cP,fB]<;>try refine ax ?_ ?_)
 rcases c2:decide ((D cs:Int)>2000)
 case true =>
        refine aY ?_;repeat' (intro h<;>simp only[h,go_sem,go_sem_proc,CY,CZ,C0,eL,aI,c2,ai,sl,pj,cP,fB]<;>try refine ax ?_ ?_)
 rcases c3:((D ak:Int)==(D cash:Int))
 case false =>
        refine aY ?_;repeat' (intro h<;>simp only[h,go_sem,go_sem_proc,CY,CZ,C0,eL,aI,c2,c3,ai,bne,sl,pj,cP,du,fB]<;>try refine ax ?_ ?_)
 rcases c4:((D bE:Int)==(D cs:Int))
 case false =>
        refine aY ?_;repeat' (intro h<;>simp only[h,go_sem,go_sem_proc,CY,CZ,C0,eL,aI,c2,c3,c4,ai,bne,sl,Bool.or_true,pj,cP,du,fB]<;>try refine ax ?_ ?_)
 cases Zv
 ·refine aY ?_;repeat' (intro h<;>simp only[h,go_sem,go_sem_proc,CY,CZ,C0,eL,aI,c2,c3,c4,cQ,ai,bne,cy,nT,kQ,scalar,l3,cP,du,fB,iZ]<;>try refine ax ?_ ?_)
 cases HN
 ·refine aY ?_;repeat' (intro h<;>simp only[h,go_sem,go_sem_proc,CY,CZ,C0,eL,aI,c2,c3,c4,cQ,de,ai,bne,cy,nT,kQ,scalar,l3,cP,du,g1,fB,iZ]<;>try refine ax ?_ ?_)
 cases A3
 ·refine aY ?_;repeat' (intro h<;>simp only[h,go_sem,go_sem_proc,CY,CZ,C0,eL,aI,c2,c3,c4,cQ,de,ep,ai,bne,cy,nT,kQ,scalar,l3,cP,du,g1,fB,iZ]<;>try refine ax ?_ ?_)
 ·refine aY ?_;repeat' (intro h<;>simp only[h,go_sem,go_sem_proc,CY,CZ,C0,eL,aI,c2,c3,c4,cQ,de,ep,fe,ai,bne,cy,nT,kQ,scalar,l3,cP,du,g1,fB,iZ]<;>try refine ax ?_ ?_)
def y8 (i:Int)(acc:Option Rat)(ab9:aw×Rat):Option Rat:=if ab9.1.2.1=i then acc.bind λs=>if lk s ab9.2=true then some (s+ab9.2) else none else acc
def uV (z:Int)(i:Int)(l:List (aw×Rat)):Option Rat:=l.foldl (y8 i) (some (z:Rat))
theorem aEe {z i:Int}{l:List (aw×Rat)}{k:Nat}{c:aw×Rat}(h:l[k]?=some c):uV z i (l.take (k+1))=y8 i (uV z i (l.take k)) c:=by
 unfold uV;rw[hk,h,Na];rfl
theorem aEf (i:Int)(l:List (aw×Rat)):l.foldl (y8 i) none=none:=by
 induction l with
 |nil=>rfl
 |cons c l aA =>
  have:y8 i none c=none:=by unfold y8;split<;>rfl
  rw[Bb,this,aA]
theorem aEg {z i:Int}{l:List (aw×Rat)}{k:Nat}(h:uV z i (l.take k)=none):uV z i l=none:=by
 have:l=l.take k++l.drop k:=(tG k l).symm;rw[this];unfold uV at *;rw[Na,h,aEf]
theorem aEh {z i:Int}(aW:dA z)(l:List (aw×Rat)):∀x,uV z i l=some x->dg x:=by
 unfold uV
 have:∀(l:List (aw×Rat)) (a:Option Rat),(∀x,a=some x->dg x)->∀x,l.foldl (y8 i) a=some x->dg x:=by
  intro l
  induction l with
  |nil=>intro a h;exact h
  |cons c l aA =>
   intro a h;refine aA _ λx O=>?_;unfold y8 at O
   split at O
   ·cases a with
    |none=>cases O
    |some s =>
     rw[la] at O
     split at O
     ·rename_i M;rw[<-pN O];exact So M
     ·cases O
   ·exact h x O
 exact this l _ λx O=>by rw[<-pN O];exact qb aW
def oz (cash:List Int)(cs:List aw)(aO ps:List Rat)(i:Nat):Int:=match uV (cash.getD i 0) i (cs.zip ps) with
 |none=>6
 |some x=>if x=aO.getD i 0/\gy cs ps i=(cG cs i).map (λc=>eG (cG cs i) x c) then 0 else 24
structure Ns (cash:List Int) (cs:List aw) (aO ps:List Rat) (i:Nat):Prop where
 AV:lS cash cs ps
 J:i<D cash
 av:(D aO)=D cash
 kV:∀x∈aO,dg x
 aMN:dA (cash.getD i 0)
 split:∀x,uV (cash.getD i 0) i (cs.zip ps)=some x->x=aO.getD i 0->H6 (cG cs i) x
theorem ky.abE {l:List aw}(h:ky l){x:Rat}(O:ec 460 x){c:aw}(G:c∈l):dg (eG l x c):=Mini.abE (λc G=>by have:=h.c c G;omega) h.len O G
abbrev aca:(List Int)×(List aw)×(List Rat)×(List Rat)×(List (List Int))×Nat->List Data:=λ(cash,cs,aO,ps,aD,i)=>[.agg (eL cash cs (aO.map aq) (ps.map aq) aD),.int .i64 (i:Int)]
def acb:=cj aca λ(cash,cs,aO,ps,aD,i)=>cN (Ns cash cs aO ps i) (.same (.int .i64 (oz cash cs aO ps i)))
theorem aEi:∀a b,aca a=aca b->a=b:=by
  rintro⟨uJ,uK,qI,Ie,AA,i1⟩ ⟨uL,n1,BR,Ig,AB,i2⟩ h;simp only[a6,Data.agg.injEq,Data.int.injEq,and_true,true_and] at h;obtain⟨h,kg⟩:=h;obtain⟨rfl,rfl,ck,hj,rfl⟩:=Ay h;rw[map_inj (λ_ _ aT=>ub aT) _ _ hj,map_inj (λ_ _ aT=>ub aT) _ _ ck,Int.ofNat.inj kg]
@[go_sem] theorem aEj (cash:List Int)(cs:List aw)(aO:List Rat)(ps:List Rat)(aD:List (List Int))(i:Nat)(G:Ns cash cs aO ps i):acb [.agg (eL cash cs (aO.map aq) (ps.map aq) aD),.int .i64 (i:Int)]=some (.same (.int .i64 (oz cash cs aO ps i))):=(cu aEi (cash,cs,aO,ps,aD,i)).trans (cT G _)
theorem aEk (T:bb)(mh:T zH=aV Em)(eE:T vl=aV yv)(cW:T lF=aV sG)(qg:T KE=aV SI)(kC:T KB=aV Sa)(r7:T UM=aV abx)(cash:List Int)(cs:List aw)(aO:List Rat)(ps:List Rat)(aD:List (List Int))(i:Nat)(G:Ns cash cs aO ps i):WP T Xj (.same (.int .i64 (oz cash cs aO ps i))) [.I (.agg (eL cash cs (aO.map aq) (ps.map aq) aD)),.I (.int .i64 (i:Int))]:=by
 refine cv ?_;simp only[Xj];obtain⟨yO,J,av,kV,acd,jI⟩:=G;have hlen:=yO.len;have aEl:=yO.l;obtain⟨z,aW⟩:∃z,cash[i]?=some z:=⟨_,bu J⟩;have Pb:cash.getD i 0=z:=by rw[dZ,aW];rfl
 rw[Pb] at acd jI;unfold oz;rw[Pb];have ao:=aD3 acd;have wA:=aEh (i:=(i:Int)) acd;have aEm:∀k c p,cs[k]?=some c->ps[k]?=some p->(cs.zip ps)[k]?=some (c,p):=λk c p E H=>List.getElem?_zip_eq_some.2 ⟨E,H⟩;have aMO:(cs.zip ps).length=D cs:=by rw[List.length_zip];omega
 have I7:=amZ cash cs (aO.map aq) (ps.map aq) aD i ⟨by rw[ai];exact hlen,aEl⟩
 rw[aau] at I7;simp only[eL] at I7;have aEn:∃x,aO[i]?=some x:=⟨_,bu (by omega)⟩;obtain⟨O,ace⟩:=aEn;have aEo:aO.getD i 0=O:=by rw[dZ,ace];rfl
 have aEp:=kV O (eg ace);have b2:(aO.map aq)[i]?=some (aq O):=by rw[bh,ace];rfl
 have aEq:∀k,(ps.map aq)[k]?=(ps[k]?).map aq:=λk=>bh;have iP:i<(aO.map aq).length:=by rw[ai];omega
 have aMP:(ps.map aq).length=D cs:=by rw[ai];exact hlen
 rw[aEo] at jI ⊢;generalize aMQ:aO.map aq=HQ at *;generalize aMR:ps.map aq=I8 at *;have aEr:∃e,e=aq ((z:Int):Rat):=⟨_,rfl⟩;obtain⟨e,he⟩:=aEr;rw[<-he] at ao;obtain⟨⟨jN,kO⟩,⟨uO,AG⟩⟩:=e;simp only[aG] at ao;simp only[go_sem,go_sem_proc,mh,eE,cW,qg,kC,r7,eL,aW,J,ao,ad,h8,k9,kH,ai,bh]
 refine dm [1,2,5,25,26] [288002] (λ((k,x,f):Nat×Rat×bg) tm m=>k<=D cs/\tm 27=.I (.int .i64 k)/\uV z i ((cs.zip ps).take k)=some x/\f=aq x/\m 288005=some (0,(aG f).map .I)) (λ(k,_,_)=>D cs-k) (0,((z:Int):Rat),((jN,kO),(uO,AG))) (by
  refine⟨by omega,rfl,rfl,he,rfl⟩) ?_
 intro vs ms aR aN;simp only[go_sem,go_sem_proc,mh,eE,cW,qg,kC,r7,eL,ai] at aR aN;subst aR aN;rintro⟨k,x,⟨⟨a7,b3⟩,⟨cZ,eo⟩⟩⟩ tm m M hm ⟨pg,im,pt,tA,uW⟩;simp only[go_sem,go_sem_proc,mh,eE,cW,qg,kC,r7,a6] at M hm;obtain⟨ay,aB,cL,hq,il⟩:=M;have tl:=wA ((cs.zip ps).take k) x pt;simp only[aG,eC,cS] at uW;rcases dv (k<D cs) with az|aMS
 ·have d1:decide ((k:Int)<(D cs:Int))=true:=dj;have bO:=eZ (i:=k) (by omega);obtain⟨⟨aI,c2,c3,c4⟩,G⟩:∃c,cs[k]?=some c:=⟨_,bu az⟩;obtain⟨p,aF⟩:∃p,ps[k]?=some p:=⟨_,bu (by omega)⟩;have nW:=yO.CG p (eg aF);have dy:=aEe (z:=z) (i:=(i:Int)) (aEm k _ p G aF);rw[pt] at dy;have nc:I8[k]?=some (aq p):=by rw[aEq,aF];rfl
  have og:k<D I8:=by omega
  have iO:=amd tl nW;rw[<-tA] at iO;obtain⟨e,AJ⟩:∃e,e=aq p:=⟨_,rfl⟩;rw[<-AJ] at iO nc;obtain⟨⟨iL,ju⟩,⟨sR,vQ⟩⟩:=e;simp only[aG] at iO;rcases hp:(c2==(i:Int))
  ·have bI:¬ c2=(i:Int):=ne_of_beq_false hp;unfold y8 at dy;rw[ag bI] at dy;simp only[go_sem,go_sem_proc,mh,eE,cW,qg,kC,r7,ay,aB,cL,hq,il,im,hm,uW,G,d1,bO,hp,ca,ai,bh,bne,du];repeat' (first|refine ax ?_ ?_|fail)<;>intro h<;>simp only[h,go_sem,go_sem_proc,mh,eE,cW,qg,kC,r7,ay,aB,cL,hq,il,im,hm,uW,G,d1,bO,hp,ca,ai,bh,bne,du]
   exact⟨(k+1,x,((a7,b3),(cZ,eo))),by dsimp only;omega,by dsimp only;omega,rfl,dy,tA,rfl⟩
  ·have heq:c2=(i:Int):=eq_of_beq hp;unfold y8 at dy;rw[ab heq,la] at dy;rcases fF:lk x p
   ·rw[fF] at iO dy;rw[ag (by decide)] at dy;have gq:=aEg dy;rw[gq];have acf:ud false (x+p)=(fj,6):=rfl;simp only[acf,fj] at iO;have bU:((6:Int)==0)=false:=rfl;simp only[go_sem,go_sem_proc,mh,eE,cW,qg,kC,r7,ay,aB,cL,hq,il,im,hm,uW,G,nc,og,iO,bU,d1,bO,hp,ca,aG,ai,bh,bne,cP,du];repeat' (first|refine ax ?_ ?_|fail)<;>intro h<;>simp only[h,go_sem,go_sem_proc,mh,eE,cW,qg,kC,r7,ay,aB,cL,hq,il,im,hm,uW,G,nc,og,iO,bU,d1,bO,hp,ca,aG,ai,bh,bne,cP,du]
   ·rw[fF] at iO dy;rw[ab rfl] at dy;have acf:ud true (x+p)=(aq (x+p),0):=rfl;simp only[acf] at iO;obtain⟨e,B4⟩:∃e,e=aq (x+p):=⟨_,rfl⟩;rw[<-B4] at iO;obtain⟨⟨s1,s2⟩,⟨c7,db⟩⟩:=e;simp only at iO;simp only[go_sem,go_sem_proc,mh,eE,cW,qg,kC,r7,ay,aB,cL,hq,il,im,hm,uW,G,nc,og,iO,d1,bO,hp,ca,aG,ai,bh,bne,beq_self_eq_true,cP];repeat' (first|refine ax ?_ ?_|fail)<;>intro h<;>simp only[h,go_sem,go_sem_proc,mh,eE,cW,qg,kC,r7,ay,aB,cL,hq,il,im,hm,uW,G,nc,og,iO,d1,bO,hp,ca,aG,ai,bh,bne,beq_self_eq_true,cP]
    exact⟨(k+1,x+p,((s1,s2),(c7,db))),by dsimp only;omega,by dsimp only;omega,rfl,dy,B4,rfl⟩
 ·have d1:decide ((k:Int)<(D cs:Int))=false:=c5;rw[dx (by omega)] at pt;rw[pt];have fu:=yR tl aEp;rw[<-tA] at fu;obtain⟨e,aEs⟩:∃e,e=aq O:=⟨_,rfl⟩;rw[<-aEs] at fu b2;obtain⟨⟨E,H⟩,⟨af,aP⟩⟩:=e;simp only[aG] at fu;dsimp only;rcases fb:(j9 x O==0)
  ·have bI:¬ x=O:=λh=>by rw[W1.2 h] at fb;cases fb
   rw[ag (λh=>bI h.1)];simp only[go_sem,go_sem_proc,mh,eE,cW,qg,kC,r7,ay,aB,cL,hq,il,im,hm,uW,b2,iP,fu,d1,fb,aG,ai,bh,bne,du];repeat' (first|refine ax ?_ ?_|fail)<;>intro h<;>simp only[h,go_sem,go_sem_proc,mh,eE,cW,qg,kC,r7,ay,aB,cL,hq,il,im,hm,uW,b2,iP,fu,d1,fb,aG,ai,bh,bne,du]
  ·have heq:x=O:=W1.1 (eq_of_beq fb);have yE:=jI x pt heq;have zl:=alP x (cG cs i) yE;rw[<-tA] at zl;have fW:(cG cs (i:Int)).map (λc=>aq (eG (cG cs i) x c))=((cG cs (i:Int)).map λc=>eG (cG cs i) x c).map aq:=by rw[m4];rfl
   rw[fW] at zl;have FU:=yE.own.len;have ja:∀y∈gy cs ps (i:Int),dg y:=λy ar=>yO.CG y (Rq ar)
   have kL:∀y∈(cG cs (i:Int)).map (λc=>eG (cG cs i) x c),dg y:=λy ar=>by
    obtain⟨c,G,rfl⟩:=dV.1 ar;exact yE.own.abE yE.sz G
   have e4:=aav cs ps (i:Int) hlen;have xp:=aCk ((gy cs ps (i:Int)).map aq) (((cG cs (i:Int)).map λc=>eG (cG cs i) x c).map aq) ⟨⟨by rw[ai];omega,λf aK=>by obtain⟨y,ar,rfl⟩:=dV.1 aK;exact kS (ja y ar)⟩,⟨by rw[ai,ai];omega,λf aK=>by obtain⟨y,ar,rfl⟩:=dV.1 aK;exact kS (kL y ar)⟩⟩
   have anb:=amq _ _ ja kL;generalize (gy cs ps (i:Int)).map aq=aEt at *;generalize (((cG cs (i:Int)).map λc=>eG (cG cs i) x c).map aq)=aEu at *;simp only[aG] at zl;rcases uC:kD aEt aEu
   ·rw[uC] at xp;rw[ag (λh=>by rw[anb.2 h.2] at uC;cases uC)];simp only[go_sem,go_sem_proc,mh,eE,cW,qg,kC,r7,ay,aB,cL,hq,il,im,hm,uW,b2,iP,fu,I7,zl,xp,d1,fb,aG,ai,bh,bne,beq_self_eq_true,cP,du];repeat' (first|refine ax ?_ ?_|fail)<;>intro h<;>simp only[h,go_sem,go_sem_proc,mh,eE,cW,qg,kC,r7,ay,aB,cL,hq,il,im,hm,uW,b2,iP,fu,I7,zl,xp,d1,fb,aG,ai,bh,bne,beq_self_eq_true,cP,du]
   ·rw[uC] at xp;rw[ab ⟨heq,anb.1 uC⟩];simp only[go_sem,go_sem_proc,mh,eE,cW,qg,kC,r7,ay,aB,cL,hq,il,im,hm,uW,b2,iP,fu,I7,zl,xp,d1,fb,aG,ai,bh,bne,beq_self_eq_true,cP,du];repeat' (first|refine ax ?_ ?_|fail)<;>intro h<;>simp only[h,go_sem,go_sem_proc,mh,eE,cW,qg,kC,r7,ay,aB,cL,hq,il,im,hm,uW,b2,iP,fu,I7,zl,xp,d1,fb,aG,ai,bh,bne,beq_self_eq_true,cP,du]
theorem anc:∀{a b:List Int},a.Pairwise (·<·)->b.Pairwise (·<·)->(∀x,x∈a↔x∈b)->a=b
 | [],[],_,_,_=>rfl
 | [],y::b,_,_,h=>by have:=(h y).2 (by simp);cases this
 |x::a,[],_,_,h=>by have:=(h x).1 (by simp);cases this
 |x::a,y::b,aM,ae,h=>by
  have RQ:=Fm.1 aM;have kG:=Fm.1 ae
  have nZ:x=y:=by
   have E:=(h x).1 (by simp);have H:=(h y).2 (by simp);rcases hP.1 E with E|E
   ·exact E
   ·rcases hP.1 H with H|H
    ·exact H.symm
    ·have:=RQ.1 y H;have:=kG.1 x E;omega
  subst nZ;rw[anc RQ.2 kG.2 λz=>?_]
  constructor
  ·intro aW;have:=(h z).1 (hf _ aW);rcases hP.1 this with E|E
   ·have:=RQ.1 z aW;omega
   ·exact E
  ·intro aW;have:=(h z).2 (hf _ aW);rcases hP.1 this with E|E
   ·have:=kG.1 z aW;omega
   ·exact E
theorem aEv (cs:List aw)(ps:List Rat)(n:Nat):(gW cs ps n).Pairwise (·<·)/\∀x,x∈gW cs ps n->∃i:Nat,x=(i:Int)/\i<n:=by
 induction n with
 |zero=>exact⟨List.Pairwise.nil,λx h=>by cases h⟩
 |succ n aA =>
  obtain⟨E,H⟩:=aA;rw[am0]
  by_cases aO:qc cs ps (n:Int)<10
  ·rw[ab aO];refine⟨Ni.2 ⟨E,amK _ _,λa aM b ae=>?_⟩,λx O=>?_⟩
   ·obtain⟨i,rfl,J⟩:=H a aM;rw[tU.1 ae];omega
   ·rcases js.1 O with O|O
    ·obtain⟨i,e,J⟩:=H x O;exact⟨i,e,by omega⟩
    ·exact⟨n,tU.1 O,by omega⟩
  ·rw[ag aO,fG];exact⟨E,λx O=>by obtain⟨i,e,J⟩:=H x O;exact⟨i,e,by omega⟩⟩
structure I9 (cash:List Int) (cs:List aw) (ps:List Rat) (aD:List (List Int)):Prop where
 AV:lS cash cs ps
 len:(D aD)<=1000
 ne:∀r∈aD,r≠[]/\r.Pairwise (·<·)
 names:(D aD.flatten)<=12
 mem:∀x,x∈aD.flatten↔x∈gW cs ps (D cash)
def acg:=cj Nm λ(cash,cs,ak,ps,aD)=>cN (I9 cash cs ps aD) (.same (.bool true))
@[go_sem] theorem aEw (cash:List Int)(cs:List aw)(ak:List bg)(ps:List Rat)(aD:List (List Int))(G:I9 cash cs ps aD):acg [.agg (eL cash cs ak (ps.map aq) aD)]=some (.same (.bool true)):=(cu abX (cash,cs,ak,ps,aD)).trans (cT G _)
theorem aEx (T:bb)(xI:T UN=py SF)(xJ:T UP=Mw SG)(nR:T DP=aV Nn)(xK:T UO=aV abM)(cash:List Int)(cs:List aw)(ak:List bg)(ps:List Rat)(aD:List (List Int))(G:I9 cash cs ps aD):WP T Xk (.same (.bool true)) [.I (.agg (eL cash cs ak (ps.map aq) aD))]:=by
 refine cv ?_;simp only[Xk];have aH:=G.AV.n;have j0:=abY cash cs ak ps aD G.AV;have FR:=Nl cs ps (D cash);simp only[eL] at j0;generalize ps.map aq=y0 at *;simp only[go_sem,go_sem_proc,xI,xJ,nR,xK,eL,ai];refine dm [1,10,11] [289001] (λ((i,g):Nat×Nat) tm m=>i<=D aD/\tm 12=.I (.int .i64 i)/\tm 3=.ref 289040 g 1 0 (aD.take i).flatten.length/\m 289040=some (g,a8 ad (aD.take i).flatten)) (λ(i,_)=>D aD-i) (0,0) (by refine⟨by omega,rfl,rfl,rfl⟩) ?_;intro vs ms aR aN;simp only[go_sem,go_sem_proc,xI,xJ,nR,xK,eL,ai] at aR aN;subst aR aN;rintro⟨i,g⟩ tm m M hm ⟨J,eh,bG,AW⟩;simp only[go_sem,go_sem_proc,xI,xJ,nR,xK,a6] at M hm;obtain⟨ay,c8,jD⟩:=M;rcases dv (i<D aD) with az|b2
 ·have hlen:=G.len;have d1:decide ((i:Int)<(D aD:Int))=true:=dj;have bO:=eZ (i:=i) (by omega);obtain⟨r,O⟩:∃r,aD[i]?=some r:=⟨_,bu az⟩;obtain⟨BJ,bC⟩:=G.ne r (eg O);have gN:(aD.take (i+1)).flatten=(aD.take i).flatten++r:=by rw[hk,O,abK,EG];simp
  have aMT:(aD.take i).flatten.length+D r<=12:=by
   have E:aD.flatten=(aD.take (i+1)).flatten++(aD.drop (i+1)).flatten:=by rw[<-EG,tG]
   have H:=G.names;rw[E,gN,fQ,fQ] at H;omega
  have bZ:0<D r:=List.length_pos_iff.2 BJ;simp only[go_sem,go_sem_proc,xI,xJ,nR,xK,ay,bG,c8,jD,eh,hm,O,d1,o4,ai,bh];refine dm [1,3,5,10,11,12,16,17] [289001,289040] (λ(k:Nat) tm m=>k<=D r/\tm 18=.I (.int .i64 k)) (λk=>D r-k) 0 (by refine⟨by omega,rfl⟩) ?_;intro vs ms aR aN;simp only[go_sem,go_sem_proc,xI,xJ,nR,xK,ay,bG,c8,jD,eh,hm,AW,ai] at aR aN;subst aR aN;clear ay bG c8 jD eh hm AW;rintro k tm m M hm ⟨Df,hC⟩;simp only[go_sem,go_sem_proc,xI,xJ,nR,xK,a6] at M hm;obtain⟨ay,bG,cL,c8,jD,eh,yI,nd⟩:=M;obtain⟨dJ,AW⟩:=hm;rcases dv (k<D r) with Qt|avf
  ·have d2:decide ((k:Int)<(D r:Int))=true:=dj;have ue:=eZ (i:=k) (by omega);obtain⟨x,ach⟩:∃x,r[k]?=some x:=⟨_,bu Qt⟩;rcases Nat.eq_zero_or_pos k with Dw|Dw
   ·have d3:decide ((k:Int)>0)=false:=c5;refine aY ?_;repeat' (intro h<;>simp only[h,go_sem,go_sem_proc,xI,xJ,nR,xK,ay,bG,cL,c8,jD,eh,yI,nd,hC,dJ,AW,ach,d2,d3,ue,ad,ai,bh]<;>try refine ax ?_ ?_)
    exact⟨k+1,by omega,by omega,rfl⟩
   ·have d3:decide ((k:Int)>0)=true:=dj;have I0:IntKind.i64.wrap ((k:Int)-1)=((k-1:Nat):Int):=by rw[eM _];omega
    obtain⟨y,ane⟩:∃x,r[k-1]?=some x:=⟨_,bu (by omega)⟩
    have k7:y<x:=by
     obtain⟨_,rfl⟩:=dP.1 ach;obtain⟨_,rfl⟩:=dP.1 ane;exact List.pairwise_iff_getElem.1 bC (k-1) k (by omega) Qt (by omega)
    have d4:decide (x<=y)=false:=c5;have kU:k-1<D r:=by omega
    refine aY ?_;repeat' (intro h<;>simp only[h,go_sem,go_sem_proc,xI,xJ,nR,xK,ay,bG,cL,c8,jD,eh,yI,nd,hC,dJ,AW,ach,ane,d2,d3,d4,ue,I0,kU,ad,ai,bh]<;>try refine ax ?_ ?_)
    exact⟨k+1,by omega,by omega,rfl⟩
  ·have d2:decide ((k:Int)<(D r:Int))=false:=c5;have d5:((D r:Int)==0)=false:=by rw[beq_eq_false_iff_ne];omega
   have dG:mw 289040 g 1 (aD.take i).flatten.length 8 (D r) (a8 ad r) (some (g,a8 ad (aD.take i).flatten))=some (.ref 289040 (g+1) 1 0 ((aD.take i).flatten.length+D r),some (289040,g+1,a8 ad (aD.take (i+1)).flatten)):=by
    have:=Dy hl tK 289040 g 8 (aD.take i).flatten r (by omega) (by omega);rw[<-gN] at this;exact this
   have aci:(r.map ad).flatten.map Q.I=a8 ad r:=rfl;refine aY ?_;repeat' (intro h<;>simp only[h,go_sem,go_sem_proc,xI,xJ,nR,xK,ay,bG,cL,c8,jD,eh,yI,nd,hC,dJ,AW,d2,d5,bO,dG,aci,KP,ai]<;>try refine ax ?_ ?_)
   exact⟨(i+1,g+1),by dsimp only;omega,by dsimp only;omega,rfl,by rw[gN,fQ],rfl⟩
 ·have d1:decide ((i:Int)<(D aD:Int))=false:=c5;obtain rfl:i=D aD:=by omega
  rw[lK] at bG AW;rw[<-yW] at AW;have e2:=aDp ⟨aD.flatten,g⟩ m ⟨AW,G.names⟩;dsimp only at e2;simp only[go_sem,go_sem_proc,xI,xJ,nR,xK,ay,bG,c8,jD,eh,hm,d1,e2];rintro yB m' gf;obtain⟨xd,s,aF,yE,n2⟩:=gf;dsimp only at aF n2;subst xd n2;have anf:=aF.length_eq;have su:=aDv ⟨s,g⟩ (a1 emp 289040 g (s.map bF)) ⟨iI,by rw[anf];exact G.names⟩
  dsimp only at su;have jI:=aDu yE;have heq:mn s=gW cs ps (D cash):=anc jI.1 (aEv cs ps (D cash)).1 λx=>by rw[jI.2,aF.mem_iff];exact G.mem x
  rw[heq,anf] at su;have ang:=aC4 (gW cs ps (D cash)) (gW cs ps (D cash)) ⟨by omega,by omega⟩
  rw[lU rfl] at ang;have CV:nU (s.map bF)=true:=by unfold nU;rw[nq];intro x O;obtain⟨y,-,rfl⟩:=dV.1 O;rfl
  refine aY ?_;repeat' (intro h<;>simp only[h,go_sem,go_sem_proc,xI,xJ,nR,xK,ay,bG,c8,jD,hm,su,j0,ang,CV,rN,mB,ai]<;>try refine ax ?_ ?_)
  done
theorem aEy {α:Type}(l:List α)(p q:α->Bool):(l.filter λx=>p x||q x).length<=(l.filter p).length+(l.filter q).length:=by
 induction l with
 |nil=>simp
 |cons a l aA =>
  simp only[List.filter_cons]
  cases p a<;>cases q a<;>simp<;>omega
theorem aEz (n:Nat)(z:Int)(b:Bool):((dU n).filter λk:Nat=>(z==(k:Int))&&b).length<=1:=by
 induction n with
 |zero=>simp
 |succ n aA =>
  rw[oo,rV,fQ]
  by_cases h:((z==(n:Int))&&b)=true
  ·have ao:(dU n).filter (λk:Nat=>(z==(k:Int))&&b)=[]:=by
    rw[HZ];intro k M H;simp only[e9,beq_iff_eq] at h H;have:=g2.1 M;omega
   have af:=om (λk:Nat=>(z==(k:Int))&&b) [n];rw[ao]
   simpa using af
  ·have af:[n].filter (λk:Nat=>(z==(k:Int))&&b)=[]:=by
    rw[HZ];intro k M;rw[tU.1 M];exact h
   rw[af]
   simpa using aA
theorem aEA (l:List aw):SQ l 10<=D l:=by
 unfold SQ
 induction l with
 |nil =>
  have:(dU 10).filter (y7 [])=[]:=by rw[HZ];intro k _;simp[y7]
  rw[this];exact bX _
 |cons c l aA =>
  have e:(λk=>y7 (c::l) k)=λk:Nat=>((c.2.2.1==(k:Int))&&decide (c.2.2.2>0))||y7 l k:=by
   funext k
   unfold y7;rw[List.any_cons]
  have E:=aEy (dU 10) (λk:Nat=>(c.2.2.1==(k:Int))&&decide (c.2.2.2>0)) (y7 l);have H:=aEz 10 c.2.2.1 (decide (c.2.2.2>0));have aB:(dU 10).filter (y7 (c::l))=(dU 10).filter λk:Nat=>((c.2.2.1==(k:Int))&&decide (c.2.2.2>0))||y7 l k:=by rw[<-e]
  rw[aB,h8];omega
theorem aEB (cs:List aw)(n:Nat):fk n (λi=>(cG cs i).length)<=D cs:=by
 induction cs with
 |nil=>exact Nat.le_of_eq (Q5 λi _=>rfl)
 |cons c cs aA =>
  have e:fk n (λi=>(cG (c::cs) i).length)=fk n (λi=>if c.1=(i:Int) then 1 else 0)+fk n λi=>(cG cs i).length:=by
   rw[<-Q4];refine Mh λi _=>?_;unfold cG
   by_cases h:c.1=(i:Int)
   ·rw[v7 (by simpa using h),ab h,h8];omega
   ·rw[xq (by simpa using h),ag h];omega
  have E:fk n (λi=>if c.1=(i:Int) then 1 else 0)<=1:=Q6 λi j J ah=>by omega
  rw[e,h8];omega
theorem aEC {n:Nat}{l:List Nat}(h:∀x∈l,x<n):(D l)<=fk n λi=>l.count i:=by
 induction l with
 |nil=>exact fs _
 |cons a l aA =>
  have aA:=aA λx O=>h x (hf _ O);have aM:=h a gF
  have e:fk n (λi=>(a::l).count i)=fk n (λi=>l.count i)+fk n λi=>if i=a then 1 else 0:=by
   rw[<-Q4];refine Mh λi _=>?_;rw[List.count_cons]
   by_cases J:i=a
   ·subst J;rw[ab rfl,ab (by simp)]
   ·rw[ag J,ag (by simpa using λh=>J h.symm)]
  have E:1<=fk n λi=>if i=a then 1 else 0:=by
   have:=ah9 (N:=n) (λi=>if i=a then 1 else 0) aM;rw[ab rfl] at this;omega
  rw[e,h8];omega
def AX (cash:List Int)(cs:List aw):List (List Int):=(au cash cs).jf.map λr=>r.map λi:Nat=>(i:Int)
theorem anh (cash:List Int)(cs:List aw):(AX cash cs).flatten=(au cash cs).jf.flatten.map λi:Nat=>(i:Int):=by
 unfold AX;rw[List.map_flatten]
def hV (cash:List Int)(cs:List aw):List Rat:=cs.map λc=>eG cs ((au cash cs).bP c.1.toNat) c
theorem ani (cash:List Int)(cs:List aw):(hV cash cs).map aq=nQ cash cs:=by
 unfold hV nQ;rw[m4];rfl
theorem acj {cash:List Int}{cs:List aw}{i:Nat}:gy cs (hV cash cs) i=uT cash cs i:=by
 unfold hV uT;rw[ayS];refine m3 λc G=>?_;rw[(ot.1 G).2,lH]
theorem SS {cash:List Int}{cs:List aw}(U:fz cash cs):lS cash cs (hV cash cs):=by
 have bt:=U.jB;have jb:=U.qY;refine⟨by unfold hV;rw[ai],by omega,by omega,λi=>U.own i,λx O=>?_⟩
 obtain⟨c,G,rfl⟩:=dV.1 O;have E:=((gQ.1 U.right).2.2.2 c G)
 refine iU (aCY (i:=c.1.toNat) U (dV.2 ⟨c,ot.2 ⟨G,by omega⟩,rfl⟩)) (by omega)
theorem Ja {cash:List Int}{cs:List aw}(U:fz cash cs){i:Nat}(J:i<D cash):qc cs (hV cash cs) i<10↔(au cash cs).bP i<(au cash cs).bz i 10:=by
 unfold qc;rw[acj];exact aCZ U J
theorem aED {cash:List Int}{cs:List aw}(U:fz cash cs):I9 cash cs (hV cash cs) (AX cash cs):=by
 obtain⟨bI,Hg⟩:=ax6 U.ok;have kv:(au cash cs).n=D cash:=rfl;have aH:=U.jB
 have az:∀x∈(au cash cs).jf.flatten,x<D cash:=λx O=>by
  obtain⟨l,av,tl⟩:=List.mem_flatten.1 O;exact (bI l av).2.2 x tl
 have E:=aEC az
 have H:fk (D cash) (λi=>(au cash cs).jf.flatten.count i)<=fk (D cash) λi=>(cG cs i).length:=awG λi J=>by
  have b6:=(Hg i J).1;have dd:=aD1 U i 10;have ey:=aEA (cG cs i);omega
 have af:=aEB cs (D cash);have aP:=U.qY
 have lD:(au cash cs).jf.length<=60:=by
  have:=abG (au cash cs) (10*(au cash cs).n) λ_=>10;unfold Day.jf;omega
 refine⟨SS U,by unfold AX;rw[ai];omega,λr aa=>?_,?_,λx=>?_⟩
 ·obtain⟨l,av,rfl⟩:=dV.1 aa;obtain⟨b6,dd,-⟩:=bI l av;exact⟨by simpa using b6,List.pairwise_map.2 (dd.imp λh=>by omega)⟩
 ·rw[anh,ai];omega
 ·rw[anh];unfold gW I1;rw[dV,dV]
  constructor
  ·rintro⟨i,J,rfl⟩;refine⟨i,sY.2 ⟨g2.2 (az i J),lU ?_⟩,rfl⟩;exact (Ja U (az i J)).2 (((Hg i (az i J)).2).2 (anj.2 J))
  ·rintro⟨i,J,rfl⟩;obtain⟨b6,dd⟩:=sY.1 J;have b6:=g2.1 b6;exact⟨i,anj.1 (((Hg i b6).2).1 ((Ja U b6).1 (of_decide_eq_true dd))),rfl⟩
theorem ank (cash:List Int)(cs:List aw):(AX cash cs).map o4=(au cash cs).jf.map r5:=by
 unfold AX;rw[m4];refine m3 λr _=>?_;unfold r5;show o4 (r.map λi:Nat=>(i:Int))=_;unfold o4;rw[m4]
 rfl
end Go.Mini
namespace Go.Mini
open Classical
theorem aEE {d:Day}(Y:d.dk){C:Nat->Prop}(E:∃i,C i)(H:∀i,C i->i<d.n/\d.bP i<d.bz i 10):¬ d.closed d.hE C:=by
 intro af;obtain⟨g,J,yM,hle⟩:=H3 Y;have sj:∀i,C i->i<d.n/\d.hE i<10:=λi h=>⟨(H i h).1,((CK Y).2 i (H i h).1).2 (H i h).2⟩;have gq:=Rd Y
 have k:=J.Zf Y E sj af (d.q d.hE d.bP) (λk=>d.bP k-d.bz k (d.hE k)) (λk M _=>by have:=gq k M;grind) λc G _=>by
  have bW:=Y.aE c G;have hw:=Y.pB G;have aH:=gq c.aE bW;unfold Day.q
  by_cases e8:c.bp<d.hE c.aE
  ·rw[ab e8,ab e8,ag (λh=>by have:=h.2;omega)];grind
  ·rw[ag e8,ag e8]
   by_cases et:c.bp=d.hE c.aE
   ·rw[ab et,ab et]
    by_cases gO:C c.aE
    ·rw[ab ⟨gO,et⟩];unfold Day.cap;rw[ab gO,et,sW (by grind)];have e:d.bz c.aE (d.hE c.aE)-d.bz c.aE (d.hE c.aE)=0:=by grind
     rw[e,sW gi,nF,Rat.zero_add];exact gi
    ·rw[ag (λh=>gO h.1),p5];unfold Day.cap;rw[ag gO];exact Aq hw (QM (by have:=hle c.aE bW;grind))
   ·rw[ag et,ag et,ag (λh=>et h.2)];grind
 have ay:d.gb C (d.eX (d.q d.hE d.bP))=d.gb C d.bP:=Day.Cy λi J _=>(yM i J).symm;have aB:(d.gb C λi=>d.bz i (d.hE i)+(d.bP i-d.bz i (d.hE i)))=d.gb C d.bP:=Day.Cy λi _ _=>by grind
 rw[ay,aB] at k;grind
end Go.Mini
namespace Go.Mini
open Go
def o8 (f:Nat->Int):Nat->Int
 |0=>0
 |k+1=>if o8 f k=0 then f k else o8 f k
theorem anl {f:Nat->Int}{k:Nat}(h:o8 f k=0)(M:f k≠0):∀{n:Nat},k<n->o8 f n=f k
 |0,h=>by omega
 |n+1,aH=>by
  by_cases e:k=n
  ·subst e;rw[o8,ab h]
  ·have:=anl h M (n:=n) (by omega);rw[o8,this,ag M]
theorem aEF {f:Nat->Int}{n:Nat}(h:o8 f n=0):∀i,i<n->f i=0:=by
 induction n with
 |zero=>intro i J;omega
 |succ n aA =>
  rw[o8] at h
  split at h
  ·rename_i ao;intro i J
   by_cases e:i=n
   ·subst e;exact h
   ·exact aA ao i (by omega)
  ·rename_i ao;exact absurd h ao
theorem aEG {f:Nat->Int}{n:Nat}(h:∀i,i<n->f i=0):o8 f n=0:=by
 induction n with
 |zero=>rfl
 |succ n aA=>rw[o8,ab (aA λi J=>h i (by omega))];exact h n (by omega)
def y9 (cash:List Int)(cs:List aw)(aO ps:List Rat):Int :=
 if q5 cash cs (aO.map aq) (ps.map aq)=true then
  (if o8 (oz cash cs aO ps) (D cash)=0 then (if (h7 cs ps (gW cs ps (D cash)) (D cash)).length=0 then 0 else 24) else o8 (oz cash cs aO ps) (D cash))
 else 1
structure Nt (cash:List Int) (cs:List aw) (aO ps:List Rat) (aD:List (List Int)):Prop where
 n:(D cash)<=1000000
 c:(D cs)<=1000000
 h:fY (aO.map aq)
 p:fY (ps.map aq)
 sum:q5 cash cs (aO.map aq) (ps.map aq)=true->∀i,i<(D cash)->Ns cash cs aO ps i
 Mb:q5 cash cs (aO.map aq) (ps.map aq)=true->(∀i,i<(D cash)->oz cash cs aO ps i=0)->I9 cash cs ps aD
abbrev ack:(List Int)×(List aw)×(List Rat)×(List Rat)×(List (List Int))->List Data:=λ(cash,cs,aO,ps,aD)=>[.X (cash.map ad),.X (cs.map ca),.agg [.X ((aO.map aq).map aG),.X ((ps.map aq).map aG),.X (aD.map o4)]]
def AY:=cj ack λ(cash,cs,aO,ps,aD)=>cN (Nt cash cs aO ps aD) (.same (.int .i64 (y9 cash cs aO ps)))
theorem aEH:∀a b,ack a=ack b->a=b:=by
  rintro⟨uJ,uK,qI,Ie,AA⟩ ⟨uL,n1,BR,Ig,AB⟩ h;simp only[a6,Data.agg.injEq,Data.X.injEq,and_true] at h;obtain⟨E,H,af,aP,bt⟩:=h;rw[map_inj fi _ _ E,map_inj rU _ _ H,map_inj (λ_ _ aT=>ub aT) _ _ (map_inj nb _ _ af),map_inj (λ_ _ aT=>ub aT) _ _ (map_inj nb _ _ aP),map_inj aas _ _ bt]
@[go_sem] theorem Nu (cash:List Int)(cs:List aw)(aO:List Rat)(ps:List Rat)(aD:List (List Int))(G:Nt cash cs aO ps aD):AY [.X (cash.map ad),.X (cs.map ca),.agg [.X ((aO.map aq).map aG),.X ((ps.map aq).map aG),.X (aD.map o4)]]=some (.same (.int .i64 (y9 cash cs aO ps))):=(cu aEH (cash,cs,aO,ps,aD)).trans (cT G _)
theorem aEI (T:bb)(q6:T KD=aV SR)(uX:T UH=aV acb)(uY:T UI=aV acg)(uZ:T UJ=aV ab1)(cash:List Int)(cs:List aw)(aO:List Rat)(ps:List Rat)(aD:List (List Int))(G:Nt cash cs aO ps aD):WP T Xh (.same (.int .i64 (y9 cash cs aO ps))) [.I (.X (cash.map ad)),.I (.X (cs.map ca)),.I (.agg [.X ((aO.map aq).map aG),.X ((ps.map aq).map aG),.X (aD.map o4)])]:=by
 refine cv ?_;simp only[Xh];have aa:=ana cash cs (aO.map aq) (ps.map aq) aD ⟨G.n,G.c,G.h,G.p⟩;have pt:=G.sum;have acm:=G.Mb;have aMU:=G.n;clear G;unfold y9;rcases gf:q5 cash cs (aO.map aq) (ps.map aq)
 ·rw[gf] at aa;rw[ag (by decide)];simp only[eL] at aa;generalize aO.map aq=HQ at *;generalize ps.map aq=I8 at *;simp only[go_sem,go_sem_proc,q6,uX,uY,uZ,aa,du];repeat' (first|refine ax ?_ ?_|fail)<;>intro h<;>simp only[h,go_sem,go_sem_proc,q6,uX,uY,uZ,aa,du]
 rw[gf] at aa;rw[ab rfl];have U:=λi J=>aEj cash cs aO ps aD i (pt gf i J);have aK:=λh=>aEw cash cs (aO.map aq) ps aD (acm gf h);have jY:=λh=>aDY cash cs (aO.map aq) ps aD (acm gf h).AV;clear pt acm;have dy:=λk E H af=>anl (f:=oz cash cs aO ps) (k:=k) E H (n:=D cash) af;have kl:=aEF (f:=oz cash cs aO ps) (n:=D cash);have ML:∀k,o8 (oz cash cs aO ps) (k+1)=if o8 (oz cash cs aO ps) k=0 then oz cash cs aO ps k else o8 (oz cash cs aO ps) k:=λk=>rfl;generalize (h7 cs ps (gW cs ps (D cash)) (D cash)).length=aEJ at *;generalize oz cash cs aO ps=SU at *;generalize aO.map aq=HQ at *;generalize ps.map aq=I8 at *;simp only[eL] at aa U aK jY;simp only[go_sem,go_sem_proc,q6,uX,uY,uZ,aa,cP,ai];refine dm [7,18] [286007] (λ(k:Nat) tm m=>k<=D cash/\tm 19=.I (.int .i64 k)/\o8 SU k=0) (λk=>D cash-k) 0 (by refine⟨by omega,rfl,rfl⟩) ?_;intro vs ms aR aN;simp only[go_sem,go_sem_proc,q6,uX,uY,uZ,ai] at aR aN;subst aR aN;rintro k tm m M hm ⟨pg,jE,aW⟩;simp only[go_sem,go_sem_proc,q6,uX,uY,uZ,a6] at M hm;obtain⟨bH,hC⟩:=M;rcases dv (k<D cash) with az|b2
 ·have d1:decide ((k:Int)<(D cash:Int))=true:=dj;have bO:=eZ (i:=k) (by omega);have U:=U k az;have anm:=ML k;rw[ab aW] at anm;rcases q:(SU k==0)
  ·have bI:SU k≠0:=ne_of_beq_false q;have E:=dy k aW bI az;rw[E,ag bI];simp only[go_sem,go_sem_proc,q6,uX,uY,uZ,bH,hC,jE,hm,U,d1,q,bne,du];repeat' (first|refine ax ?_ ?_|fail)<;>intro h<;>simp only[h,go_sem,go_sem_proc,q6,uX,uY,uZ,bH,hC,jE,hm,U,d1,q,bne,du]
  ·have he:SU k=0:=eq_of_beq q;simp only[go_sem,go_sem_proc,q6,uX,uY,uZ,bH,hC,jE,hm,U,d1,bO,q,bne,cP];repeat' (first|refine ax ?_ ?_|fail)<;>intro h<;>simp only[h,go_sem,go_sem_proc,q6,uX,uY,uZ,bH,hC,jE,hm,U,d1,bO,q,bne,cP]
   exact⟨k+1,by omega,by omega,rfl,by rw[anm,he]⟩
 ·have d1:decide ((k:Int)<(D cash:Int))=false:=c5;obtain rfl:k=D cash:=by omega
  have aK:=aK (kl aW);have jY:=jY (kl aW);rw[ab aW];rcases q:decide ((aEJ:Int)>0)
  ·rw[ab (by have:=of_decide_eq_false q;omega)];simp only[go_sem,go_sem_proc,q6,uX,uY,uZ,bH,hC,jE,hm,aK,jY,d1,q,cP];repeat' (first|refine ax ?_ ?_|fail)<;>intro h<;>simp only[h,go_sem,go_sem_proc,q6,uX,uY,uZ,bH,hC,jE,hm,aK,jY,d1,q,cP]
  ·rw[ag (by have:=of_decide_eq_true q;omega)];simp only[go_sem,go_sem_proc,q6,uX,uY,uZ,bH,hC,jE,hm,aK,jY,d1,q,cP];repeat' (first|refine ax ?_ ?_|fail)<;>intro h<;>simp only[h,go_sem,go_sem_proc,q6,uX,uY,uZ,bH,hC,jE,hm,aK,jY,d1,q,cP]
end Go.Mini
