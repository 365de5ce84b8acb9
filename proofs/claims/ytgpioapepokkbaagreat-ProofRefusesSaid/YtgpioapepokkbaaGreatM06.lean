/- A part of the proof. -/
import Derived.Test.YtgpioapepokkbaaGreatM05
set_option linter.unusedSimpArgs false
set_option linter.unusedVariables false
set_option maxRecDepth 100000
set_option maxHeartbeats 4000000
noncomputable section
open Bool renaming and_eq_true->eM,and_false->hP,false_and->fu,false_or->pW,not_eq_true'->rO,not_false->dH,not_not->Jk,not_true->c5,or_false->lW,true_and->g3,true_or->sA
open Decidable renaming em->dF
open Int renaming reduceLE->amd,reduceToNat->ame,toNat_natCast->l1
open List renaming all_eq_true->jh,any_eq_false->vX,append_assoc->gW,append_nil->fE,concat_eq_append->BM,cons_append->jT,count_pos_iff->amX,drop->gL,drop_eq_nil_of_le->kY,drop_succ_cons->CX,drop_zero->lV,eq_nil_or_concat->BL,filter_append->pG,filter_cons_of_neg->wi,filter_cons_of_pos->uL,filter_eq_nil_iff->Ik,filter_eq_self->amM,filter_nil->qg,foldl_append->abo,foldl_cons->Ga,getD_eq_getElem?_getD->ep,getElem?_append_left->qv,getElem?_append_right->rm,getElem?_cons_succ->zc,getElem?_cons_zero->vl,getElem?_drop->k3,getElem?_eq_getElem->bz,getElem?_eq_some_iff->dD,getElem?_map->bn,getElem?_take->vc,getElem_of_mem->Kb,length->D,length_append->fr,length_cons->h0,length_eq_zero_iff->C3,length_filter_le->mY,length_map->aj,length_nil->jy,length_range->sC,length_replicate->CF,length_set->hn,length_singleton->vQ,length_take->fI,mapM_cons->ju,mapM_nil->wU,map_append->jD,map_congr_left->mI,map_cons->eA,map_drop->amN,map_map->m6,map_nil->cY,map_take->Cr,mem_append->jk,mem_cons->hH,mem_cons_of_mem->gZ,mem_cons_self->gq,mem_filter->xD,mem_iff_getElem?->tL,mem_map->dT,mem_map_of_mem->ta,mem_of_getElem?->ei,mem_range->gX,mem_singleton->ub,pairwise_append->abL,pairwise_cons->Fv,range->dW,range_succ->ow,replicate->dG,replicate_succ->pO,take->gu,take_add_one->hc,take_append->F7,take_length->kN,take_of_length_le->dB,take_succ_cons->wT,take_zero->nu
open List.cons renaming injEq->bf
open Nat renaming le_refl->b1,le_trans->eU,mul_one->cI,one_mul->wF,reduceEqDiff->ed,sub_self->mC,sub_zero->AL,zero_add->jv,zero_le->fk,zero_mul->DJ
open Option renaming bind_none->iz,bind_some->ir,map_some->k5
open Option.some renaming inj->nt,injEq->ca
open Prod renaming ext->dR
open Rat renaming add_zero->o3,div_def->HZ,intCast_add->wb,intCast_mul->qc,intCast_natCast->ou,le_refl->gf,mul_zero->nH,sub_eq_add_neg->Ly,zero_add->wg,zero_mul->CH
namespace Go.Mini
open Go
def q6 (l:List au)(r:Int):Int:=cR l λc=>if c.2.2.1<r then c.2.2.2 else 0
def gS (l:List au)(r:Int):Int:=cR l λc=>if c.2.2.1=r then c.2.2.2 else 0
theorem alw (l:List au)(r:Int):q6 l (r+1)=q6 l r+gS l r:=by
 unfold q6 gS;rw[<-aad];refine H6 λc _=>?_
 by_cases F:c.2.2.1<r
 ·rw[ad F,ad (by omega),ah (by omega)];omega
 ·by_cases I:c.2.2.1=r
  ·rw[ad (by omega),ah F,ad I];omega
  ·rw[ah (by omega),ah F,ah I];rfl
def g8 (l:List au)(x:Rat)(k:Nat):Rat:=pos (x-((q6 l k:Int):Rat))
theorem kt.abc {l:List au}(h:kt l)(r:Int):0<=gS l r/\gS l r<=12000000000000000:=h.bound λc=>c.2.2.1=r
theorem kt.aAH {l:List au}(h:kt l)(r:Int):0<=q6 l r/\q6 l r<=12000000000000000:=h.bound λc=>c.2.2.1<r
theorem aAI (l:List au)(x:Rat)(k:Nat):0<=g8 l x k:=H0 _
theorem aAJ {l:List au}(h:kt l){x:Rat}(O:0<=x):g8 l x 0=x:=by
 have:q6 l (0:Nat)=0:=by
  unfold q6
  have:(cR l λc=>if c.2.2.1<((0:Nat):Int) then c.2.2.2 else 0)=cR l λ_=>0:=H6 λc H=>by
   have:=(h.c c H).2.2.2.2.1;rw[ah (by omega)]
  rw[this];clear h this
  induction l with
  |nil=>rfl
  |cons c l ay=>simp only[cR,ay];omega
 unfold g8;rw[this,s4]<;>grind
theorem aAK {l:List au}(h:kt l){x:Rat}{k:Nat}(he:((gS l k:Int):Rat)<=g8 l x k):g8 l x (k+1)=g8 l x k-((gS l k:Int):Rat):=by
 have F:=alw l k;have ao:=(h.abc k).1;have aLO:(0:Rat)<=((gS l k:Int):Rat):=by exact_mod_cast ao
 unfold g8 at *;rw[show ((k+1:Nat):Int)=(k:Int)+1 by omega,F,wb]
 by_cases aG:x-((q6 l k:Int):Rat)<=0
 ·have az:=v8 aG;rw[az] at he ⊢;rw[v8 (by grind)];grind
 ·have az:=s4 (x:=x-((q6 l k:Int):Rat)) (by grind);rw[az] at he ⊢;rw[s4 (by grind)];grind
theorem aAL {l:List au}{x:Rat}{k:Nat}(he:¬ ((gS l k:Int):Rat)<=g8 l x k):g8 l x (k+1)=0:=by
 have F:=alw l k;have I:=Q0 (x-((q6 l k:Int):Rat));unfold g8 at *;rw[show ((k+1:Nat):Int)=(k:Int)+1 by omega,F,wb,v8 (by grind)]
section
variable {l:List au} (h:kt l) {x:Rat} {k:Nat} {c:au} (H:c∈l) (Q:c.2.2.1=k)
include h H Q
theorem alx:cT l c.1 c.2.2.1=q6 l k/\kR l c.1 c.2.2.1=gS l k:=by
 rw[Q];exact⟨(h.less H k).symm,(h.same H k).symm⟩
theorem aAM (he:((gS l k:Int):Rat)<=g8 l x k):e1 l x c=(c.2.2.2:Rat):=by
 obtain⟨az,aD⟩:=alx h H Q;have aK:∀c∈l,0<=c.2.2.2:=λc H=>(h.c c H).2.2.2.2.2.2.1
 by_cases aG:x-((q6 l k:Int):Rat)<=0
 ·have ao:g8 l x k=0:=v8 aG;rw[ao] at he;have cQ:gS l k<=0:=by exact_mod_cast he
  have aN:=aj0 aK H;rw[aD] at aN;have aLP:=aK c H;rw[aj1 aK H (by rw[az];exact aG),show c.2.2.2=0 by omega];rfl
 ·refine ayd ?_;rw[az,aD];unfold g8 at he;rwa [s4 (by grind)] at he
theorem aAN (he:¬ ((gS l k:Int):Rat)<=g8 l x k):e1 l x c=(c.2.2.2:Rat)*g8 l x k/((gS l k:Int):Rat):=by
 obtain⟨az,aD⟩:=alx h H Q;have aK:∀c∈l,0<=c.2.2.2:=λc H=>(h.c c H).2.2.2.2.2.2.1
 by_cases aG:x-((q6 l k:Int):Rat)<=0
 ·have ao:g8 l x k=0:=v8 aG;rw[aj1 aK H (by rw[az];exact aG),ao,nH,HZ,CH]
 ·have ao:g8 l x k=x-((q6 l k:Int):Rat):=s4 (by grind);rw[aye (by rw[az];grind) (by rw[az,aD,<-ao];grind),az,aD,ao]
end
theorem aly {l:List au}{x:Rat}(h:Ir l x)(k:Nat):dU 515 (g8 l x k):=by
 have gw:=h.own.aAH k;unfold g8 pos
 split
 ·exact (show dU 1 0 from⟨by decide,by decide⟩).mono (by omega)
 ·rw[Ly];exact (Mw h.sz (Ib (xK (z:=q6 l k) (b:=54) (by omega)))).mono (by omega)
def abd:=cu It λ(x,a,b)=>some (.same (.bool (decide (a<=x)&&decide (x<=b))))
@[go_sem] theorem aLQ (x:Int)(a:Int)(b:Int):abd [.int .i64 x,.int .i64 a,.int .i64 b]=some (.same (.bool (decide (a<=x)&&decide (x<=b)))):=cD RF (x,a,b)
theorem aAO (T:bl)  (x:Int) (a:Int) (b:Int):WP T ZY (.same (.bool (decide (a<=x)&&decide (x<=b)))) [.J (.int .i64 x),.J (.int .i64 a),.J (.int .i64 b)]:=by
 refine cE ?_;simp only[ZY];rcases aI:decide (a<=x)
 ·have c2:decide (x>=a)=false:=aI;refine aZ ?_;repeat' (intro h<;>simp only[h,go_sem,go_sem_proc,aI,c2,fu]<;>try refine ax ?_ ?_)
 ·have c2:decide (x>=a)=true:=aI;refine aZ ?_;repeat' (intro h<;>simp only[h,go_sem,go_sem_proc,aI,c2,g3]<;>try refine ax ?_ ?_)
abbrev abe:List au->List Data:=λ(l:List au)=>[.Y (l.map ck)]
def Sn:=cu abe λ(l:List au)=>cU (kt l) (.same (.bool true))
theorem aAP:∀a b,abe a=abe b->a=b:=by
  intro eh aq h;simp only[bf,Data.Y.injEq,and_true] at h;exact map_inj r0 _ _ h
@[go_sem] theorem aLR (l:List au)(H:kt l):Sn [.Y (l.map ck)]=some (.same (.bool true)):=(cD aAP l).trans (cZ H _)
theorem aAQ (T:bl)(Nd:T GG=aW abd)(l:List au)(H:kt l):WP T ZW (.same (.bool true)) [.J (.Y (l.map ck))]:=by
 refine cE ?_;simp only[ZW];have ar:=H.len;simp only[go_sem,go_sem_proc,Nd,aj];refine dw [0,5,6] [] (λ(i:Nat) tm mem=>i<=D l/\tm 7=.J (.int .i64 i)) (λi=>D l-i) 0 (by refine⟨by omega,rfl⟩) ?_;intro vs ms aT aS;simp only[go_sem,go_sem_proc,Nd,aj] at aT aS;subst aT aS;rintro i tm mem Q hm ⟨M,bN⟩;simp only[go_sem,go_sem_proc,Nd,bf] at Q hm;obtain⟨ao,br,bR⟩:=Q;rcases dF (i<D l) with aA|b7
 ·have d1:decide ((i:Int)<(D l:Int))=true:=dp;have b5:=e9 (i:=i) (by omega);obtain⟨⟨aI,c2,c3,c4⟩,O⟩:∃c,l[i]?=some c:=⟨_,bz aA⟩;obtain⟨⟨c0,dj,a3,a4⟩,rM⟩:∃c,l[0]?=some c:=⟨_,bz (by omega)⟩;have hy:=H.c _ (ei O);have yf:=H.one _ (ei O) _ (ei rM);dsimp only at hy yf;subst yf;have gF:(decide (0<=aI)&&decide (aI<=59))=true:=by simp only[eM,decide_eq_true_eq];omega
  have eV:(decide (-1<=c2)&&decide (c2<=59))=true:=by simp only[eM,decide_eq_true_eq];omega
  have qd:(decide (0<=c3)&&decide (c3<=9))=true:=by simp only[eM,decide_eq_true_eq];omega
  have l8:(decide (0<=c4)&&decide (c4<=1000000000000000))=true:=by simp only[eM,decide_eq_true_eq];omega
  refine aZ ?_;repeat' (intro h<;>simp only[h,go_sem,go_sem_proc,Nd,ao,br,bR,bN,O,rM,d1,b5,gF,eV,qd,l8,ck,bne,beq_self_eq_true,c5,aj,bn]<;>try refine ax ?_ ?_)
  exact⟨i+1,by omega,by omega,rfl⟩
 ·have d1:decide ((i:Int)<(D l:Int))=false:=dn;have d2:decide ((D l:Int)<=2000)=true:=dp;refine aZ ?_;repeat' (intro h<;>simp only[h,go_sem,go_sem_proc,Nd,ao,br,bR,bN,d1,d2,aj]<;>try refine ax ?_ ?_)
theorem aAR (T:bl){K:e3->bd->Prop}{kk:List gA}(l:List au)(ar:kt l)(k:Nat)(v1 v6 r7:R)(Fh:R)(bS pI alz:Option (Nat×List R))(tm:Nat->R)(m:Mem)
  (az:tm 1=v1) (bP:tm 6=v6) (bL:tm 7=r7) (dN:tm 8=.J (.int .i64 k)) (ej:tm 9=.J (.int .i64 0)) (nR:tm 37=Fh) (I3:tm 40=.J (.Y (l.map ck))) (I4:tm 41=.J (.int .i64 (D l))) (I5:tm 42=.J (.int .i64 0)) (cX:m 249002=bS) (lg:m 249007=pI) (oD:m 249035=alz)
  (dQ:∀tm' m',tm' 1=v1->tm' 6=v6->tm' 7=r7->tm' 8=.J (.int .i64 k)->tm' 9=.J (.int .i64 (gS l k))->tm' 37=Fh->m' 249002=bS->m' 249007=pI->m' 249035=alz->cK T K kk (.exit 2) ⟨tm',m'⟩) :
  wp T (EY.body.sub [1,1,1,1,0,1,0,0,1,1,0,0,1,1,0,1,0]) (cK T K kk) ⟨tm,m⟩:=by
 simp only[EY,eC.sub];have ag:=λt=>ar.cs.sum (λc=>c.2.2.1=(k:Int)) t;have hlen:=ar.len;refine dw [1,6,7,8,37,40,41] [249002,249007,249035] (λ(t:Nat) tm m=>t<=D l/\tm 42=.J (.int .i64 t)/\tm 9=.J (.int .i64 (gS (l.take t) k))) (λt=>D l-t) 0 (by refine⟨by omega,I5,ej⟩) ?_;intro vs ms aT aS;simp only[go_sem,go_sem_proc,az,bP,bL,dN,nR,I3,I4,cX,lg,oD] at aT aS;subst aT aS;clear az bP bL dN ej nR I3 I4 I5 cX lg oD tm m;rintro t tm m Q hm ⟨bD,I5,ej⟩;simp only[go_sem,go_sem_proc,bf] at Q hm;obtain⟨az,bP,bL,dN,nR,I3,I4⟩:=Q;obtain⟨cX,lg,oD⟩:=hm;rcases dF (t<D l) with aA|b7
 ·have d1:decide ((t:Int)<(D l:Int))=true:=dp;have b5:=e9 (i:=t) (by omega);obtain⟨⟨aI,c2,c3,c4⟩,O⟩:∃c,l[t]?=some c:=⟨_,bz aA⟩
  have dE:gS (l.take (t+1)) k=gS (l.take t) k+if c3=(k:Int) then c4 else 0:=by
   unfold gS;rw[axy O]
  have F:=ag t;have I:=ag (t+1);have afJ:gS (l.take t) k=cR (l.take t) λc=>if c.2.2.1=(k:Int) then c.2.2.2 else 0:=rfl;have aAS:gS (l.take (t+1)) k=cR (l.take (t+1)) λc=>if c.2.2.1=(k:Int) then c.2.2.2 else 0:=rfl;rw[<-afJ] at F;rw[<-aAS] at I;rcases q:(c3==(k:Int))
  ·rw[ah (by have:=ne_of_beq_false q;omega),Int.add_zero] at dE;refine aZ ?_;repeat' (intro h<;>simp only[h,go_sem,go_sem_proc,az,bP,bL,dN,ej,nR,I3,I4,I5,cX,lg,oD,O,d1,b5,q,ck,aj,bn]<;>try refine ax ?_ ?_)
   exact⟨t+1,by omega,by omega,rfl,by rw[dE]⟩
  ·rw[ad (by have:=eq_of_beq q;omega)] at dE;have M0:IntKind.i64.wrap (gS (l.take t) k+c4)=gS (l.take (t+1)) k:=by rw[dE,wrap64 _ (by omega) (by omega)]
   refine aZ ?_;repeat' (intro h<;>simp only[h,go_sem,go_sem_proc,az,bP,bL,dN,ej,nR,I3,I4,I5,cX,lg,oD,O,d1,b5,q,M0,ck,aj,bn]<;>try refine ax ?_ ?_)
   exact⟨t+1,by omega,by omega,rfl,rfl⟩
 ·have d1:decide ((t:Int)<(D l:Int))=false:=dn;rw[dB (by omega)] at ej;refine aZ ?_;repeat' (intro h<;>simp only[h,go_sem,go_sem_proc,az,bP,bL,dN,ej,nR,I3,I4,I5,d1]<;>try refine ax ?_ ?_)
  refine dQ _ _ ?_ ?_ ?_ ?_ ?_ ?_ cX lg oD<;>simp only[e7,ed,if_false,az,bP,bL,dN,ej,nR]
def lM (l:List au)(x:Rat)(k t j:Nat):Option bg:=if (l.getD j ja).2.2.1<(k:Int)\/((l.getD j ja).2.2.1=(k:Int)/\j<t) then some (E2 l x j) else none
theorem aAT (l:List au)(h:kt l)(x:Rat):(bF (D l) λj=>lM l x 0 0 j)=bF (D l) λ_=>none:=kS λj ai=>by
 have:=(h.c _ (ei (bz ai))).2.2.2.2.1;have e:l.getD j ja=l[j]:=by rw[ep,bz ai];rfl
 unfold lM;rw[e,ah (by omega)]
theorem aAU (l:List au)(x:Rat)(k:Nat):(bF (D l) λj=>lM l x k (D l) j)=bF (D l) λj=>lM l x (k+1) 0 j:=kS λj ai=>by
 unfold lM
 by_cases h:(l.getD j ja).2.2.1<((k+1:Nat):Int)
 ·rw[ad (by omega),ad (.inl h)]
 ·rw[ah (by omega),ah (by omega)]
theorem aAV (l:List au)(h:kt l)(x:Rat):(bF (D l) λj=>lM l x 10 0 j)=bF (D l) λj=>some (E2 l x j):=kS λj ai=>by
 have:=(h.c _ (ei (bz ai))).2.2.2.2.2.1;have e:l.getD j ja=l[j]:=by rw[ep,bz ai];rfl
 unfold lM;rw[e,ad (.inl (by omega))]
theorem Nf {n:Int}(h:dC n):Ij [.int .i64 n]=some (.same (.agg (aE (av (n:Rat))))):=axA n h
theorem aAW (T:bl)(m0:T vw=aW Ij)(l6:T wX=aW yO)(pD:T DR=aW Ex){K:e3->bd->Prop}{kk:List gA}(l:List au)(x:Rat)(iT:Ir l x)(k:Nat)(bQ lo:Nat)(v1 Fh:R)(bS:Option (Nat×List R))(tm:Nat->R)(m:Mem)
  (az:tm 1=v1) (bP:tm 6=.ref 249035 bQ 4 0 (D l)) (bL:tm 7=.ptr 249007 lo 0) (dN:tm 8=.J (.int .i64 k)) (ej:tm 9=.J (.int .i64 (gS l k))) (er:tm 12=.J (.bool (decide (((gS l k:Int):Rat)<=g8 l x k)))) (nR:tm 37=Fh) (kx:tm 60=.J (.Y (l.map ck))) (th:tm 61=.J (.int .i64 (D l))) (Fi:tm 62=.J (.int .i64 0)) (cX:m 249002=bS) (lg:m 249007=some (lo,(aE (av (g8 l x k))).map .J)) (oD:m 249035=some (bQ,mg q1 (bF (D l) λj=>lM l x k 0 j)))
  (dQ:∀tm' m',tm' 1=v1->tm' 6=.ref 249035 bQ 4 0 (D l)->tm' 7=.ptr 249007 lo 0->tm' 9=.J (.int .i64 (gS l k))->tm' 12=.J (.bool (decide (((gS l k:Int):Rat)<=g8 l x k)))->tm' 37=Fh->m' 249002=bS->m' 249007=some (lo,(aE (av (g8 l x k))).map .J)->m' 249035=some (bQ,mg q1 (bF (D l) λj=>lM l x (k+1) 0 j))->cK T K kk (.exit 4) ⟨tm',m'⟩) :
  wp T (EY.body.sub [1,1,1,1,0,1,0,0,1,1,0,0,1,1,1,1,0,1,0]) (cK T K kk) ⟨tm,m⟩:=by
 simp only[EY,eC.sub];have how:=iT.own;have hlen:=how.len;refine dw [1,6,7,8,9,12,37,60,61] [249002,249007] (λ(t:Nat) tm m=>t<=D l/\tm 62=.J (.int .i64 t)/\m 249035=some (bQ,mg q1 (bF (D l) λj=>lM l x k t j))) (λt=>D l-t) 0 (by refine⟨by omega,Fi,oD⟩) ?_;intro vs ms aT aS;simp only[go_sem,go_sem_proc,az,bP,bL,dN,ej,er,nR,kx,th,cX,lg] at aT aS;subst aT aS;clear az bP bL dN ej er nR kx th Fi cX lg oD tm m;rintro t tm m Q hm ⟨bD,Fi,oD⟩;simp only[go_sem,go_sem_proc,bf] at Q hm;obtain⟨az,bP,bL,dN,ej,er,nR,kx,th⟩:=Q;obtain⟨cX,lg⟩:=hm;rcases dF (t<D l) with aA|b7
 ·have d1:decide ((t:Int)<(D l:Int))=true:=dp;have b5:=e9 (i:=t) (by omega);obtain⟨⟨aI,c2,c3,c4⟩,O⟩:∃c,l[t]?=some c:=⟨_,bz aA⟩;have gV:=ei O;have lS:=how.c _ gV;dsimp only at lS;have wL:l.getD t ja=(aI,c2,c3,c4):=by rw[ep,O];rfl
  have Ng:=aab (q:=λj=>lM l x k t j) aA;rcases q:(c3==(k:Int))
  ·have bE:c3≠(k:Int):=ne_of_beq_false q
   have hN:(bF (D l) λj=>lM l x k (t+1) j)=bF (D l) λj=>lM l x k t j:=kS λj _=>by
    unfold lM
    by_cases ai:j=t
    ·subst ai;rw[wL];dsimp only
     by_cases F:c3<(k:Int)
     ·rw[ad (.inl F),ad (.inl F)]
     ·rw[ah (by omega),ah (by omega)]
    ·by_cases F:(l.getD j ja).2.2.1<(k:Int)\/((l.getD j ja).2.2.1=(k:Int)/\j<t)
     ·rw[ad F,ad (by omega)]
     ·rw[ah F,ah (by omega)]
   refine aZ ?_;repeat' (intro h<;>simp only[h,go_sem,go_sem_proc,az,bP,bL,dN,ej,er,nR,kx,th,Fi,cX,lg,O,d1,b5,q,ck,bne,dH,aj,bn]<;>try refine ax ?_ ?_)
   exact⟨t+1,by omega,by omega,rfl,by rw[hN];exact oD⟩
  ·have abf:c3=(k:Int):=eq_of_beq q;have mU:=λa b c d=>aac (q:=λj=>lM l x k t j) aA a b c d
   have vi:∀aP:bg,aP=E2 l x t->(bF (D l) λj=>if j=t then some aP else lM l x k t j)=bF (D l) λj=>lM l x k (t+1) j:=by
    intro aP e8;refine kS λj _=>?_
    by_cases ai:j=t
    ·subst ai;rw[ad rfl];unfold lM;rw[wL,ad (.inr ⟨abf,by omega⟩),e8]
    ·rw[ah ai];unfold lM
     by_cases F:(l.getD j ja).2.2.1<(k:Int)\/((l.getD j ja).2.2.1=(k:Int)/\j<t)
     ·rw[ad F,ad (by omega)]
     ·rw[ah F,ah (by omega)]
   have alA:E2 l x t=av (e1 l x (aI,c2,c3,c4)):=by unfold E2;rw[wL]
   have alB:dC c4:=o6 (by omega) (by omega);have Sp:=Nf alB;rcases cS:decide (((gS l k:Int):Rat)<=g8 l x k)
   ·have abg:=of_decide_eq_false cS;have aAX:=how.abc k;have I6:dC (gS l k):=o6 (by omega) (by omega);have Fj:=Nf I6;have C1:=aly iT k;have Fk:dU 54 ((c4:Int):Rat):=xK (by omega);have I7:dU 54 ((gS l k:Int):Rat):=xK (by omega);have aAY:((gS l k:Int):Rat)≠0:=by have:=aAI l x k;grind
    have f1:=ajD (uM alB) (hL C1 (by omega)) (ZF Fk C1 (by omega));have f2:=axU (hL (Mv Fk C1) (by omega)) (uM I6) aAY (ait (Mv Fk C1) I7 (by omega));have mZ:=aAN how gV abf abg;dsimp only at mZ;have aAZ:=λa b c d=>aac (q:=λj=>if j=t then some ((a,b),(c,d)) else lM l x k t j) aA;have aA0:=λa b c d=>aab (q:=λj=>if j=t then some ((a,b),(c,d)) else lM l x k t j) aA;have aK:=vi (av (((c4:Int):Rat)*g8 l x k/((gS l k:Int):Rat))) (by rw[alA,mZ])
    have aA1:∀aP alC:bg,(bF (D l) λj=>if j=t then some aP else if j=t then some alC else lM l x k t j)=bF (D l) λj=>if j=t then some aP else lM l x k t j:=λaP alC=>kS λj _=>by
     by_cases ai:j=t
     ·rw[ad ai,ad ai]
     ·rw[ah ai,ah ai,ah ai]
    clear C1 Fk I7;generalize av (((c4:Int):Rat)*g8 l x k/((gS l k:Int):Rat))=G1 at *;generalize av (((c4:Int):Rat)*g8 l x k)=G2 at *;generalize av ((gS l k:Int):Rat)=G3 at *;generalize abh:av (g8 l x k)=G4 at *;generalize av ((c4:Int):Rat)=G5 at *;obtain⟨⟨cF,cp⟩,⟨hb,j5⟩⟩:=G1;obtain⟨⟨F,I⟩,⟨af,aO⟩⟩:=G2;obtain⟨⟨i1,i2⟩,⟨i3,i4⟩⟩:=G3;obtain⟨⟨C2,yl⟩,⟨aA2,QC⟩⟩:=G4;obtain⟨⟨iR,jR⟩,⟨wy,vU⟩⟩:=G5;simp only[aE,eA,cY] at Sp Fj f1 f2 lg;have dE:=mU iR jR wy vU;have Rq:=aAZ iR jR wy vU cF cp hb j5;have aA3:=aA0 iR jR wy vU;rw[aA1,aK] at Rq;refine aZ ?_;repeat' (intro h<;>simp only[h,go_sem,go_sem_proc,m0,l6,pD,az,bP,bL,dN,ej,er,nR,kx,th,Fi,cX,lg,oD,O,d1,b5,aA,q,cS,Sp,Fj,f1,f2,Ng,aA3,dE,Rq,ck,aj,bn,bne,beq_self_eq_true,c5,dH]<;>try refine ax ?_ ?_)
    exact⟨t+1,by omega,rfl,by omega,rfl,rfl⟩
   ·have mZ:=aAM how gV abf (of_decide_eq_true cS);dsimp only at mZ;have aK:=vi (av ((c4:Int):Rat)) (by rw[alA,mZ]);generalize av ((c4:Int):Rat)=G5 at *;obtain⟨⟨iR,jR⟩,⟨wy,vU⟩⟩:=G5;simp only[aE] at Sp;have dE:=mU iR jR wy vU;rw[aK] at dE;refine aZ ?_;repeat' (intro h<;>simp only[h,go_sem,go_sem_proc,m0,az,bP,bL,dN,ej,er,nR,kx,th,Fi,cX,lg,oD,O,d1,b5,aA,q,cS,Sp,Ng,dE,ck,aj,bn,bne,beq_self_eq_true,c5,dH]<;>try refine ax ?_ ?_)
    exact⟨t+1,by omega,by omega,rfl,rfl⟩
 ·have d1:decide ((t:Int)<(D l:Int))=false:=dn;obtain rfl:t=D l:=by omega
  rw[aAU] at oD;refine aZ ?_;repeat' (intro h<;>simp only[h,go_sem,go_sem_proc,az,bP,bL,dN,ej,er,nR,kx,th,Fi,d1]<;>try refine ax ?_ ?_)
  refine dQ _ _ ?_ ?_ ?_ ?_ ?_ ?_ cX lg oD<;>simp only[e7,ed,if_false,az,bP,bL,ej,er,nR]
abbrev abi:Rat×(List au)->List Data:=λ(x,l)=>[.agg (aE (av x)),.Y (l.map ck)]
def Sq:=cu abi λ(x,l)=>cU (Ir l x) (.same (.cM [.Y ((l.map λc=>av (e1 l x c)).map aE),.int .i64 0]))
theorem aA4:∀a b,abi a=abi b->a=b:=by
  rintro⟨a2,eh⟩ ⟨bS,aq⟩ h;simp only[bf,Data.Y.injEq,Data.agg.injEq,and_true] at h;exact dR (ui (nd _ _ h.1)) (map_inj r0 _ _ h.2)
@[go_sem] theorem alD (x:Rat)(l:List au)(H:Ir l x):Sq [.agg (aE (av x)),.Y (l.map ck)]=some (.same (.cM [.Y ((l.map λc=>av (e1 l x c)).map aE),.int .i64 0])):=(cD aA4 (x,l)).trans (cZ H _)
theorem aA5 (T:bl)(fF:T lZ=aW vL)(eP:T oU=aW uk)(m0:T vw=aW Ij)(o8:T KO=aW Sn)(l6:T wX=aW yO)(pD:T DR=aW Ex)(ng:T yv=aW An)(x:Rat)(l:List au)(H:Ir l x):WP T EY (.same (.cM [.Y ((l.map λc=>av (e1 l x c)).map aE),.int .i64 0])) [.J (.agg (aE (av x))),.J (.Y (l.map ck))]:=by
 refine cE ?_;simp only[EY];have hy:=H;obtain⟨how,rM,BD⟩:=H;have kQ:=hL BD (by omega);have hlen:=how.len;have aA6:=Ih kQ;have Sm:=Ip kQ (uM MJ);have aA7:decide (mS x ((0:Int):Rat)<0)=false:=by rw[Rv];exact mw (by have:((0:Int):Rat)=0:=rfl;grind)
 have bM:=lH kQ;have iT:=ayf l x;have f0:=Nf MJ;have pY:=aAJ how rM;have gE:=aAT l how x;have aV:=ajW (D l);rw[<-gE] at aV;have yn:(64*D l<=140737488355328)=True:=eq_true (by omega);have CE:(D l<=maxLen)=True:=eq_true (by unfold maxLen;omega);generalize e8:av x=aP at *;generalize MW:av ((0:Int):Rat)=Z at *;obtain⟨⟨c0,dj⟩,⟨a3,a4⟩⟩:=aP;obtain⟨⟨j0,lf⟩,⟨z3,z4⟩⟩:=Z;simp only[aE] at f0 Sm;simp only[go_sem,go_sem_proc,fF,eP,m0,o8,l6,pD,ng,aE,aA6,bM.1,bM.2,f0,Sm,aA7,how,yn,CE,aV,aj,c5,dH];refine dw [1,6,7] [249002] (λ(k:Nat) tm m=>k<=10/\tm 37=.J (.int .i64 k)/\m 249007=some (0,(aE (av (g8 l x k))).map .J)/\m 249035=some (0,mg q1 (bF (D l) λj=>lM l x k 0 j))) (λk=>10-k) 0 (by refine⟨by omega,rfl,by rw[pY,e8];rfl,rfl⟩) ?_;intro vs ms aT aS;simp only[go_sem,go_sem_proc,fF,eP,m0,o8,l6,pD,ng,aE,aj] at aT aS;subst aT aS;rintro k tm m Q hm ⟨aLS,nR,lg,oD⟩;simp only[go_sem,go_sem_proc,fF,eP,m0,o8,l6,pD,ng,bf] at Q hm;obtain⟨az,bP,bL⟩:=Q;rcases dF (k<10) with aA|b7
 ·have d1:decide ((k:Int)<10)=true:=dp;have b5:=e9 (i:=k) (by omega);simp only[go_sem,go_sem_proc,fF,eP,m0,o8,l6,pD,ng,az,bP,bL,nR,hm,d1,aj];refine aAR T l how k (.J (.Y (l.map ck))) (.ref 249035 0 4 0 (D l)) (.ptr 249007 0 0) (.J (.int .i64 k)) _ (some (0,(aE (av (g8 l x k))).map .J)) (some (0,mg q1 (bF (D l) λj=>lM l x k 0 j))) _ _ ?_ ?_ ?_ ?_ ?_ ?_ ?_ ?_ ?_ hm lg oD ?_
  all_goals first|(intro tm' m' cv iA hV hT nb alE eV qk alF)|(simp only[e7,ed,if_false,if_true,az,bP,bL,nR];done)
  have aAX:=how.abc k;have I6:dC (gS l k):=o6 (by omega) (by omega);have Fj:=Nf I6;have C1:=aly hy k;have Co:=hL C1 (by omega);have I7:dU 54 ((gS l k:Int):Rat):=xK (by omega);have iH:=Ip Co (uM I6);have B6:decide (mS (g8 l x k) ((gS l k:Int):Rat)>=0)=decide (((gS l k:Int):Rat)<=g8 l x k):=ajG;have jW:=Z5 Co (uM I6) (y4 C1 (Ib I7) (by omega));have alG:=λ(K:e3->bd->Prop) (kk:List gA) bQ lo v1 Fh bS tm m=>aAW T m0 l6 pD (K:=K) (kk:=kk) l x hy k bQ lo v1 Fh bS tm m;have ZE:((gS l k:Int):Rat)<=g8 l x k->av (g8 l x (k+1))=av (g8 l x k-((gS l k:Int):Rat)):=λh=>by rw[aAK how h]
  have gC:¬ ((gS l k:Int):Rat)<=g8 l x k->av (g8 l x (k+1))=((j0,lf),(z3,z4)):=λh=>by rw[aAL h,<-MW];rfl
  generalize av (g8 l x k-((gS l k:Int):Rat))=G1 at *;generalize aLT:av (g8 l x k)=G2 at *;generalize av ((gS l k:Int):Rat)=G3 at *;generalize abh:av (g8 l x (k+1))=G4 at *;obtain⟨⟨cF,cp⟩,⟨hb,j5⟩⟩:=G1;obtain⟨⟨F,I⟩,⟨af,aO⟩⟩:=G2;obtain⟨⟨i1,i2⟩,⟨i3,i4⟩⟩:=G3;simp only[aE,eA,cY] at Fj iH jW qk;simp only[go_sem,go_sem_proc,fF,eP,m0,o8,l6,pD,ng,cv,iA,hV,hT,nb,alE,eV,qk,alF,Fj,iH,B6,aj];refine alG _ _ 0 0 (.J (.Y (l.map ck))) (.J (.int .i64 k)) _ _ _ ?_ ?_ ?_ ?_ ?_ ?_ ?_ ?_ ?_ ?_ eV ?_ alF ?_
  all_goals first|(intro M7 cX C2 Cw Sr Ss I8 St eg xT Su)|(simp only[e7,ed,if_false,if_true,cv,iA,hV,hT,nb,alE];done)|(rw[qk];rfl)
  simp only[aE,eA,cY] at xT;clear alG;rcases q:decide (((gS l k:Int):Rat)<=g8 l x k)
  ·have he:=gC (of_decide_eq_false q);rw[q] at I8;simp only[go_sem,go_sem_proc,fF,eP,m0,o8,l6,pD,ng,C2,Cw,Sr,Ss,I8,St,eg,xT,Su,f0,b5,dH,c5];repeat' (first|refine ax ?_ ?_|fail)<;>intro h<;>simp only[h,go_sem,go_sem_proc,fF,eP,m0,o8,l6,pD,ng,C2,Cw,Sr,Ss,I8,St,eg,xT,Su,f0,b5,dH,c5]
   exact⟨k+1,by omega,by omega,rfl,by rw[abh,he];rfl,rfl⟩
  ·have he:=ZE (of_decide_eq_true q);rw[q] at I8;simp only[go_sem,go_sem_proc,fF,eP,m0,o8,l6,pD,ng,C2,Cw,Sr,Ss,I8,St,eg,xT,Su,Fj,jW,b5,bne,beq_self_eq_true,dH,c5];repeat' (first|refine ax ?_ ?_|fail)<;>intro h<;>simp only[h,go_sem,go_sem_proc,fF,eP,m0,o8,l6,pD,ng,C2,Cw,Sr,Ss,I8,St,eg,xT,Su,Fj,jW,b5,bne,beq_self_eq_true,dH,c5]
   exact⟨k+1,by omega,by omega,rfl,by rw[abh,he];rfl,rfl⟩
 ·have d1:decide ((k:Int)<10)=false:=dn;obtain rfl:k=10:=by omega
  rw[aAV l how x,iT,ajY] at oD;have mX:=λ(K:bd->Prop) (st:bd)=>lX (K:=K) (st:=st) kO 6 249035 0 (l.map λc=>av (e1 l x c));rw[aj] at mX;simp only[go_sem,go_sem_proc,fF,eP,m0,o8,l6,pD,ng,az,bP,bL,nR,hm,d1,oD,mX,aj];repeat' (first|refine ax ?_ ?_|fail)<;>intro h<;>simp only[h,go_sem,go_sem_proc,fF,eP,m0,o8,l6,pD,ng,az,bP,bL,nR,hm,d1,oD,mX,aj]
theorem Sv {fQ g1 n:Nat}(key:Nat->Nat)(tZ:Nat->R)(Sw:∀i,i<n->key i≠fQ)(Dq:∀i j,i<n->j<n->key i=key j->i=j):∀r d (q:Nat->R) (m:Mem),d+r=n->m fQ=some (g1,bF n q)->(∀i,i<d->q i=tZ i) ->
  (∀i,d<=i->i<n->q i=tZ i\/∃g sz len cs x,q i=.ref (key i) g sz 0 len/\m (key i)=some (g,cs)/\(∀cX:Mem,cX (key i)=some (g,cs)->cl 1 cX (.ref (key i) g sz 0 len)=some x)/\tZ i=.J x) ->
  ∃m',tn m m'/\m' fQ=some (g1,bF n tZ)/\∀k:Nat,k≠fQ->(∀i,i<n->k≠key i)->m' k=m k
 |0,d,q,m,aa,F,I,_=>⟨m,.refl m,by rw[F,kS λi M=>I i (by omega)],λ_ _ _=>rfl⟩
 |r+1,d,q,m,aa,F,I,af=>by
  rcases af d (b1 _) (by omega) with he|⟨g,sz,len,cs,x,az,aD,bZ,dr⟩
  ·obtain⟨m',cv,cS,eF⟩:=Sv key tZ Sw Dq r (d+1) q m (by omega) F (λi M=>by
    by_cases kZ:i=d
    ·rw[kZ];exact he
    ·exact I i (by omega)) λi M cH=>af i (by omega) cH
   exact⟨m',cv,cS,eF⟩
  ·have jB:d<n:=by omega
   have iG:(bF n q)[d]?=some (.ref (key d) g sz 0 len):=by rw[iZ q jB,az]
   have rq:=ss.N7 fQ g1 _ d (key d) g sz 0 len cs x F iG aD (Sw d jB) (bZ m aD);have ly:a1 (kill m (key d)) fQ g1 ((bF n q).set d (.J x)) fQ=some (g1,bF n λj=>if j=d then .J x else q j):=by rw[iN,AU]
   obtain⟨m',cv,cS,eF⟩:=Sv key tZ Sw Dq r (d+1) (λj=>if j=d then .J x else q j) _ (by omega) ly (λi M=>by
    by_cases kZ:i=d
    ·rw[ad kZ,kZ,dr]
    ·rw[ah kZ];exact I i (by omega)) λi M cH=>by
     rw[ah (by omega)];rcases af i (by omega) cH with he|⟨c8,ev,Tq,nr,jj,f1,f2,f3,f4⟩
     ·exact .inl he
     ·refine .inr ⟨c8,ev,Tq,nr,jj,f1,?_,f3,f4⟩;rw[du (Sw i cH)];unfold kill;rw[du λaR=>by have:=Dq i d cH jB aR;omega]
      exact f2
   refine⟨m',.step rq cv,cS,λk Q pT=>?_⟩;rw[eF k Q pT,du Q];unfold kill;rw[du (pT d jB)]
def gl (l:List au)(i:Nat):List Nat:=(dW (D l)).filter λj=>(l.getD j ja).1==(i:Int)
theorem abj (l:List au)(c:au)(i:Nat):gl (l++[c]) i=if c.1=(i:Int) then gl l i++[D l] else gl l i:=by
 unfold gl;have az:(l++[c]).getD (D l) ja=c:=by rw[ep,rm (b1 _),mC];rfl
 have aD:(dW (D l)).filter (λj=>((l++[c]).getD j ja).1==(i:Int))=(dW (D l)).filter λj=>(l.getD j ja).1==(i:Int):=List.filter_congr λj ai=>by
  rw[ep,qv (gX.1 ai),<-ep]
 rw[fr,vQ,ow,pG,aD]
 by_cases h:c.1=(i:Int)
 ·rw[ad h,uL (by rw[az];simpa using h),qg]
 ·rw[ah h,wi (by rw[az];simpa using h),qg,fE]
theorem abk {l:List au}{i j:Nat}:j∈gl l i↔j<D l/\(l.getD j ja).1=(i:Int):=by
 unfold gl;rw[xD,gX,beq_iff_eq]
theorem abl (l:List au)(c:au)(i:Nat):cB (l++[c]) i=if c.1=(i:Int) then cB l i++[c] else cB l i:=by
 unfold cB;rw[pG]
 by_cases h:c.1=(i:Int)
 ·rw[ad h,uL (by simpa using h),qg]
 ·rw[ah h,wi (by simpa using h),qg,fE]
theorem alH (l:List au)(i:Nat):cB l i=(gl l i).map λj=>l.getD j ja:=by
 have:∀n (l:List au),D l=n->cB l i=(gl l i).map λj=>l.getD j ja:=by
  intro n
  induction n with
  |zero =>
   intro l ar;have:l=[]:=C3.1 ar;subst this;rfl
  |succ n ay =>
   intro l ar;rcases BL l with ao|⟨ft,c,rfl⟩
   ·subst ao;cases ar
   ·rw[BM] at *;simp only[fr,vQ] at ar;have az:(ft++[c]).getD (D ft) ja=c:=by rw[ep,rm (b1 _),mC];rfl
    have aD:(gl ft i).map (λj=>(ft++[c]).getD j ja)=(gl ft i).map λj=>ft.getD j ja:=mI λj ai=>by
     rw[ep,qv (abk.1 ai).1,<-ep]
    rw[abl,abj]
    by_cases h:c.1=(i:Int)
    ·rw[ad h,ad h,jD,aD,ay ft (by omega)];show _=_++[(ft++[c]).getD (D ft) ja];rw[az]
    ·rw[ah h,ah h,aD,ay ft (by omega)]
 exact this _ l rfl
theorem Sx (l:List au)(i:Nat):(gl l i).length=(cB l i).length:=by rw[alH,aj]
theorem aA8 (l:List au)(i:Nat):(gl l i).length<=D l:=by
 unfold gl;exact eU (mY _ _) (by rw[sC];exact b1 _)
def lT (l:List au)(gc:Nat->Nat)(i:Nat):R:=if cB l i=[] then .nil else .ref (233600+i) (gc i) 4 0 (cB l i).length
def pp (l:List au)(gP:Nat->Nat)(i:Nat):R:=if cB l i=[] then .nil else .ref (233700+i) (gP i) 1 0 (cB l i).length
structure I9 (n:Nat) (l:List au) (gc gP:Nat->Nat) (m:Mem):Prop where
 eX:m 233019=some (0,bF n (lT l gc))
 eg:m 233022=some (0,bF n (pp l gP))
 cv:∀i,i<n->cB l i≠[]->m (233600+i)=some (gc i,a7 ck (cB l i))
 cS:∀i,i<n->cB l i≠[]->m (233700+i)=some (gP i,a7 iC (gl l i))
theorem I9.next {n:Nat}{l:List au}{gc gP:Nat->Nat}{m m':Mem}(h:I9 n l gc gP m)(aK:n<=6){aI:Nat}{c2 c3 c4:Int}(cF cp:Nat)
  (F:m' 233019=some (0,bF n λi=>if i=aI then .ref (233600+aI) cF 4 0 ((cB l aI).length+1) else lT l gc i)) (I:m' 233022=some (0,bF n λi=>if i=aI then .ref (233700+aI) cp 1 0 ((cB l aI).length+1) else pp l gP i))
  (af:m' (233600+aI)=some (cF,a7 ck (cB l aI++[((aI:Int),c2,c3,c4)]))) (aO:m' (233700+aI)=some (cp,a7 iC (gl l aI++[D l])))
  (bM:∀i,i<n->i≠aI->m' (233600+i)=m (233600+i)/\m' (233700+i)=m (233700+i)):I9 n (l++[((aI:Int),c2,c3,c4)]) (λi=>if i=aI then cF else gc i) (λi=>if i=aI then cp else gP i) m':=by
 have Sy:∀i:Nat,i≠aI->cB (l++[((aI:Int),c2,c3,c4)]) i=cB l i:=λi M=>by rw[abl,ah (by show ¬ ((aI:Int)=(i:Int));omega)]
 have Po:∀i:Nat,i≠aI->gl (l++[((aI:Int),c2,c3,c4)]) i=gl l i:=λi M=>by rw[abj,ah (by show ¬ ((aI:Int)=(i:Int));omega)]
 have so:cB (l++[((aI:Int),c2,c3,c4)]) aI=cB l aI++[((aI:Int),c2,c3,c4)]:=by rw[abl,ad rfl]
 have sp:gl (l++[((aI:Int),c2,c3,c4)]) aI=gl l aI++[D l]:=by rw[abj,ad rfl]
 refine⟨?_,?_,λi M bE=>?_,λi M bE=>?_⟩
 ·rw[F]
  congr 2
  refine kS λi M=>?_;unfold lT
  by_cases H:i=aI
  ·subst H;rw[so,ad rfl,ah (by simp),fr];dsimp only;rw[ad rfl];rfl
  ·rw[Sy i H,ah H];dsimp only;rw[ah H]
 ·rw[I]
  congr 2
  refine kS λi M=>?_;unfold pp
  by_cases H:i=aI
  ·subst H;rw[so,ad rfl,ah (by simp),fr];dsimp only;rw[ad rfl];rfl
  ·rw[Sy i H,ah H];dsimp only;rw[ah H]
 ·by_cases H:i=aI
  ·subst H;rw[ad rfl,so];exact af
  ·rw[Sy i H] at bE ⊢;rw[ah H,(bM i M H).1];exact h.cv i M bE
 ·by_cases H:i=aI
  ·subst H;rw[ad rfl,sp];exact aO
  ·rw[Sy i H] at bE;rw[Po i H,ah H,(bM i M H).2];exact h.cS i M bE
structure C4 (cs:List au) (h:List Rat):Prop where
 len:(D cs)<=12
 n:(D h)<=6
 c:∀c∈cs,0<=c.1/\c.1<(D h) /\ -1<=c.2.1/\c.2.1<60/\0<=c.2.2.1/\c.2.2.1<10/\0<=c.2.2.2/\c.2.2.2<=1000000000000000
 x:∀x∈h,0<=x/\dU 460 x
theorem aA9 {K:bd->Prop}{tm:Nat->R}{mem J0 mem':Mem}(h:ss mem J0)(I:ss J0 mem')(dQ:∀bk,bk=mem'->K ⟨tm,bk⟩):kD K ⟨tm,mem⟩ .many:=⟨mem',.step h (.step I (.refl _)),dQ _ rfl⟩
theorem aBa (T:bl){K:e3->bd->Prop}{kk:List gA}(cs:List au)(h:List Rat)(aG:C4 cs h)(v1:R)(tm:Nat->R)(m:Mem)
  (bC:tm 0=.J (.Y (cs.map ck))) (az:tm 1=v1) (bP:tm 6=.ref 233019 0 1 0 (D h)) (bL:tm 7=.ref 233022 0 1 0 (D h)) (xU:tm 23=.J (.Y (cs.map ck))) (xV:tm 24=.J (.int .i64 (D cs))) (hi:tm 25=.J (.int .i64 0)) (je:m 233057=none) (gc gP:Nat->Nat) (cj:I9 (D h) [] gc gP m)
  (dQ:∀tm' m' J1 Rx,tm' 0=.J (.Y (cs.map ck))->tm' 1=v1->tm' 6=.ref 233019 0 1 0 (D h)->tm' 7=.ref 233022 0 1 0 (D h)->m' 233057=none->I9 (D h) cs J1 Rx m'->cK T K kk (.exit 0) ⟨tm',m'⟩) :
  wp T (EA.body.sub [1,1,1,0,1,0]) (cK T K kk) ⟨tm,m⟩:=by
 simp only[EA,eC.sub];have aK:=aG.n;have iV:=aG.len;refine dw [0,1,6,7,23,24] [233057] (λ((t,gc,gP):Nat×(Nat->Nat)×(Nat->Nat)) tm m=>t<=D cs/\tm 25=.J (.int .i64 t)/\I9 (D h) (cs.take t) gc gP m) (λ(t,_)=>D cs-t) (0,gc,gP) (by refine⟨by omega,hi,by rw[nu];exact cj⟩) ?_;intro vs ms aT aS;simp only[go_sem,go_sem_proc,bC,az,bP,bL,xU,xV,je] at aT aS;subst aT aS;clear bC az bP bL xU xV hi je cj tm m;rintro⟨t,gc,gP⟩ tm m Q je ⟨bD,hi,cj⟩;simp only[go_sem,go_sem_proc,bf] at Q je;obtain⟨bC,az,bP,bL,xU,xV⟩:=Q;rcases dF (t<D cs) with aA|b7
 ·have d1:decide ((t:Int)<(D cs:Int))=true:=dp;have b5:=e9 (i:=t) (by omega);obtain⟨⟨aI,c2,c3,c4⟩,O⟩:∃c,cs[t]?=some c:=⟨_,bz aA⟩;have lR:=aG.c _ (ei O);dsimp only at lR;obtain⟨aI,rfl⟩:∃k:Nat,aI=(k:Int):=⟨aI.toNat,by omega⟩
  have gM:cs.take (t+1)=cs.take t++[((aI:Int),c2,c3,c4)]:=by rw[hc,O];rfl
  have sZ:(cs.take t).length=t:=by rw[fI];omega
  generalize ar:cs.take t=l at *;have fH:aI<D h:=by omega
  have eX:=cj.eX;have eg:=cj.eg;have cF:=wv (iZ (lT l gc) fH);have cp:=wv (iZ (pp l gP) fH);have iR:(bF (D h) (lT l gc)).length=D h:=gQ _ _;have jR:(bF (D h) (pp l gP)).length=D h:=gQ _ _;have s1:=λv=>(Sg (l:=bF (D h) (lT l gc)) (k:=aI) (v:=v) (by rw[gQ];exact fH)).trans (AU (lT l gc) v);have s2:=λv=>(Sg (l:=bF (D h) (pp l gP)) (k:=aI) (v:=v) (by rw[gQ];exact fH)).trans (AU (pp l gP) v);have eh:aI+1<=D h:=by omega
  have mD:(1<=maxLen)=True:=eq_true (by decide);have ye:(cB l aI).length<=12:=eU (mY _ _) (by omega);have pj:=Sx l aI;have Sz:∀i,i<(D h)->233600+i≠233009/\233600+i≠233019/\233600+i≠233022/\233600+i≠233043/\233600+i≠233051/\233600+i≠233700+aI/\233600+i≠233057:=λi M=>by omega
  have Nh:∀i,i<(D h)->233700+i≠233009/\233700+i≠233019/\233700+i≠233022/\233700+i≠233043/\233700+i≠233051/\233700+i≠233600+aI/\233700+i≠233057:=λi M=>by omega
  by_cases hJ:cB l aI=[]
  ·have abm:lT l gc aI=.nil:=by unfold lT;rw[ad hJ]
   have abn:pp l gP aI=.nil:=by unfold pp;rw[ad hJ]
   have A1:gl l aI=[]:=C3.1 (by rw[pj,hJ];rfl);rw[abm] at cF;rw[abn] at cp;simp only[go_sem,go_sem_proc,mD,bC,az,bP,bL,xU,xV,hi,O,eX,eg,cF,cp,iR,jR,s1,s2,d1,eh,fH,ck,cI,aj,bn];obtain⟨f11,f12,f13,f14,f15,f16,f17⟩:=Sz aI fH;obtain⟨f21,f22,f23,f24,f25,f26,f27⟩:=Nh aI fH
   refine aA9 (ss.N6 233019 0 _ aI 233043 (gB (m 233043)) 4 0 1 _ (233600+aI) ((du (by decide)).trans iN) ((iZ _ fH).trans (by rw[ad rfl])) ((du (by decide)).trans ((du (by decide)).trans ((du (by decide)).trans iN))) (by decide) f14 f12)
    (ss.N6 233022 0 _ aI 233051 (gB (m 233051)) 1 0 1 _ (233700+aI) ((du (by decide)).trans ((du (Ne.symm f13)).trans ((du (by decide)).trans iN))) ((iZ _ fH).trans (by rw[ad rfl])) ((du (by decide)).trans ((du (Ne.symm f15)).trans ((du (by decide)).trans ((du (by decide)).trans ((du (by decide)).trans iN))))) (by decide) f25 f23) ?_
   intro M2 g5
   have nQ:∀k:Nat,k≠233009->k≠233019->k≠233022->k≠233043->k≠233051->k≠233600+aI->k≠233700+aI->M2 k=m k:=λk jl xa sI alI alJ aBb aBc=>by
    rw[g5,du sI,du aBc,du alJ,du xa,du aBb,du alI,du sI,du xa,du alJ,du alI,du jl,du jl]
   obtain⟨SA,xB,EU⟩:∃SA,M2 233019=some (0,bF (D h) λi=>if i=aI then .ref (233600+aI) SA 4 0 ((cB l aI).length+1) else lT l gc i)/\M2 (233600+aI)=some (SA,a7 ck (cB l aI++[((aI:Int),c2,c3,c4)])):=by
    rw[hJ];apply Exists.intro;apply And.intro
    rotate_left
    ·rw[g5,du f13,du f16,du f15,du f12,iN];rfl
    ·rw[g5,du (by decide),du (Ne.symm f22),du (by decide),iN,AU]
     congr 2
     refine kS λi _=>?_
     by_cases M:i=aI
     ·rw[ad M,ad M];rfl
     ·rw[ah M,ah M,ah M]
   obtain⟨SB,Ni,Fa⟩:∃SB,M2 233022=some (0,bF (D h) λi=>if i=aI then .ref (233700+aI) SB 1 0 ((cB l aI).length+1) else pp l gP i)/\M2 (233700+aI)=some (SB,a7 iC (gl l aI++[D l])):=by
    rw[hJ,A1,sZ];apply Exists.intro;apply And.intro
    rotate_left
    ·rw[g5,du f23,iN];rfl
    ·rw[g5,iN,AU]
     congr 2
     refine kS λi _=>?_
     by_cases M:i=aI
     ·rw[ad M,ad M];rfl
     ·rw[ah M,ah M,ah M]
   have iE:=cj.next (m':=M2) aK SA SB xB Ni EU Fa λi M bE=>⟨by
    obtain⟨c0,dj,a3,a4,a5,tc,-⟩:=Sz i M;exact nQ _ c0 dj a3 a4 a5 (by omega) tc,by
    obtain⟨c0,dj,a3,a4,a5,tc,-⟩:=Nh i M;exact nQ _ c0 dj a3 a4 a5 tc (by omega)⟩
   have Nj:M2 233057=none:=(nQ 233057 (by decide) (by decide) (by decide) (by decide) (by decide) (Ne.symm f17) (Ne.symm f27)).trans je;clear g5 nQ xB EU Ni Fa;simp only[go_sem,go_sem_proc,bC,az,bP,bL,xU,xV,hi,b5,Nj];repeat' (first|refine ax ?_ ?_|fail)<;>intro h<;>simp only[h,go_sem,go_sem_proc,bC,az,bP,bL,xU,xV,hi,b5,Nj]
   exact⟨(t+1,_,_),by dsimp only;omega,by dsimp only;omega,rfl,by rw[gM];exact iE⟩
  ·have abm:lT l gc aI=.ref (233600+aI) (gc aI) 4 0 (cB l aI).length:=by unfold lT;rw[ah hJ]
   have abn:pp l gP aI=.ref (233700+aI) (gP aI) 1 0 (gl l aI).length:=by unfold pp;rw[ah hJ,pj]
   rw[abm] at cF;rw[abn] at cp;have cv:=cj.cv aI fH hJ;have cS:=cj.cS aI fH hJ;have T9:=k6 EZ ZZ (233600+aI) (gc aI) 32 (cB l aI) ((aI:Int),c2,c3,c4) (cs:=[.J (.int .i64 aI),.J (.int .i64 c2),.J (.int .i64 c3),.J (.int .i64 c4)]) rfl (by omega) (by omega);have Gt:=k6 y0 ahs (233700+aI) (gP aI) 8 (gl l aI) (D l) (cs:=[.J (.int .i64 t)]) (by rw[sZ];rfl) (by omega) (by omega);obtain⟨f11,f12,f13,f14,f15,f16,f17⟩:=Sz aI fH;obtain⟨f21,f22,f23,f24,f25,f26,f27⟩:=Nh aI fH;have aLU:(233600+aI)=233600+aI:=rfl;generalize ec:233600+aI=A at *;generalize fW:233700+aI=B at *;have Nk:A≠B:=f16;have gF:(A==233009)=false:=beq_eq_false_iff_ne.2 f11;have aBd:(233009==A)=false:=beq_eq_false_iff_ne.2 (Ne.symm f11);have eV:(A==233019)=false:=beq_eq_false_iff_ne.2 f12;have aBe:(233019==A)=false:=beq_eq_false_iff_ne.2 (Ne.symm f12);have qd:(A==233022)=false:=beq_eq_false_iff_ne.2 f13;have aBf:(233022==A)=false:=beq_eq_false_iff_ne.2 (Ne.symm f13);have l8:(A==233043)=false:=beq_eq_false_iff_ne.2 f14;have aBg:(233043==A)=false:=beq_eq_false_iff_ne.2 (Ne.symm f14);have aBh:(A==233051)=false:=beq_eq_false_iff_ne.2 f15;have aBi:(233051==A)=false:=beq_eq_false_iff_ne.2 (Ne.symm f15);have Cz:(A==B)=false:=beq_eq_false_iff_ne.2 Nk;have aBj:(B==A)=false:=beq_eq_false_iff_ne.2 (Ne.symm Nk);have km:(B==233009)=false:=beq_eq_false_iff_ne.2 f21;have aBk:(233009==B)=false:=beq_eq_false_iff_ne.2 (Ne.symm f21);have kI:(B==233019)=false:=beq_eq_false_iff_ne.2 f22;have aBl:(233019==B)=false:=beq_eq_false_iff_ne.2 (Ne.symm f22);have uw:(B==233022)=false:=beq_eq_false_iff_ne.2 f23;have aBm:(233022==B)=false:=beq_eq_false_iff_ne.2 (Ne.symm f23);have xA:(B==233043)=false:=beq_eq_false_iff_ne.2 f24;have aBn:(233043==B)=false:=beq_eq_false_iff_ne.2 (Ne.symm f24);have aBo:(B==233051)=false:=beq_eq_false_iff_ne.2 f25;have aBp:(233051==B)=false:=beq_eq_false_iff_ne.2 (Ne.symm f25);have a2:(A=233009)=False:=eq_false f11;have bS:(B=233009)=False:=eq_false f21;have cP:(B=A)=False:=eq_false (Ne.symm Nk);have dJ:(233019=A)=False:=eq_false (Ne.symm f12);have jb:(233019=B)=False:=eq_false (Ne.symm f22);have nS:(233022=A)=False:=eq_false (Ne.symm f13);have pI:(233022=B)=False:=eq_false (Ne.symm f23);have aBq:(233009=A)=False:=eq_false (Ne.symm f11);have aBr:(233009=B)=False:=eq_false (Ne.symm f21);have aBs:(A=B)=False:=eq_false Nk;simp only[go_sem,go_sem_proc,mD,bC,az,bP,bL,xU,xV,hi,O,eX,eg,cF,cp,iR,jR,s1,s2,d1,eh,fH,cv,cS,T9,Gt,gF,aBd,eV,aBe,qd,aBf,l8,aBg,aBh,aBi,Cz,aBj,km,aBk,kI,aBl,uw,aBm,xA,aBn,aBo,aBp,a2,bS,cP,dJ,jb,nS,pI,aBq,aBr,aBs,ck,cI,aj,bn];refine aa6 ?_;intro M2 g5
   have nQ:∀k:Nat,k≠233009->k≠233019->k≠233022->k≠A->k≠B->M2 k=m k:=λk jl xa sI ec fW=>by
    rw[g5,du sI,du xa,du fW,du ec,du jl,du jl]
   have xB:M2 233019=some (0,bF (D h) λi=>if i=aI then .ref A (gc aI+1) 4 0 ((cB l aI).length+1) else lT l gc i):=by
    rw[g5,du (by decide),iN]
   have EU:M2 A=some (gc aI+1,a7 ck (cB l aI++[((aI:Int),c2,c3,c4)])):=by
    rw[g5,du f13,du f12,du Nk,iN]
   have Ni:M2 233022=some (0,bF (D h) λi=>if i=aI then .ref B (gP aI+1) 1 0 ((cB l aI).length+1) else pp l gP i):=by
    rw[g5,iN,pj]
   have Fa:M2 B=some (gP aI+1,a7 iC (gl l aI++[D l])):=by
    rw[g5,du f23,du f22,iN]
   have iE:=cj.next (m':=M2) aK (c2:=c2) (c3:=c3) (c4:=c4) (gc aI+1) (gP aI+1) (by rw[ec];exact xB) (by rw[fW];exact Ni) (by rw[ec];exact EU) (by rw[fW];exact Fa) λi M bE=>⟨by
    obtain⟨c0,dj,a3,a4,a5,tc,-⟩:=Sz i M;exact nQ _ c0 dj a3 (by omega) tc,by
    obtain⟨c0,dj,a3,a4,a5,tc,-⟩:=Nh i M;exact nQ _ c0 dj a3 tc (by omega)⟩
   have Nj:M2 233057=none:=(nQ 233057 (by decide) (by decide) (by decide) (Ne.symm f17) (Ne.symm f27)).trans je;clear g5 nQ xB EU Ni Fa;simp only[go_sem,go_sem_proc,bC,az,bP,bL,xU,xV,hi,b5,Nj];repeat' (first|refine ax ?_ ?_|fail)<;>intro h<;>simp only[h,go_sem,go_sem_proc,bC,az,bP,bL,xU,xV,hi,b5,Nj]
   exact⟨(t+1,_,_),by dsimp only;omega,by dsimp only;omega,rfl,by rw[gM];exact iE⟩
 ·have d1:decide ((t:Int)<(D cs:Int))=false:=dn;rw[dB (by omega)] at cj;simp only[go_sem,go_sem_proc,bC,az,bP,bL,xU,xV,hi,d1];repeat' (first|refine ax ?_ ?_|fail)<;>intro h<;>simp only[h,go_sem,go_sem_proc,bC,az,bP,bL,xU,xV,hi,d1]
  refine dQ _ _ gc gP ?_ ?_ ?_ ?_ je cj<;>simp only[e7,ed,if_false,bC,az,bP,bL]
def zf (l:List Nat):R:=if l=[] then .nil else .J (.Y (l.map iC))
theorem aBt (l:List Nat):qo (zf l)=some (D l):=by
 unfold zf
 split
 ·rename_i h;rw[h];rfl
 ·simp[qo]
theorem aBu {l:List Nat}{n y:Nat}(h:l[n]?=some y):zr 1 n (zf l)=some (.J (.ptr (iC y))):=by
 unfold zf
 split
 ·rename_i ar;rw[ar] at h;cases h
 ·simp only[zr,bn,h,k5]
  rfl
theorem aBv (l:List au)(n:Nat)(m:Mem):cl n m (j9 l)=some (.Y (l.map ck)):=by
 unfold j9
 split
 ·rename_i h;rw[h];exact aqG n
 ·exact BH n _
def Ja (cs:List au)(h:List Rat)(j:Nat):bg:=av (e1 cs (h.getD (cs.getD j ja).1.toNat 0) (cs.getD j ja))
def ql (cs:List au)(h:List Rat)(i t j:Nat):Option bg:=if (cs.getD j ja).1<(i:Int)\/((cs.getD j ja).1=(i:Int)/\j∈(gl cs i).take t) then some (Ja cs h j) else none
theorem aBw (cs:List au)(h:List Rat)(i:Nat):(bF (D cs) λj=>ql cs h i (gl cs i).length j)=bF (D cs) λj=>ql cs h (i+1) 0 j:=kS λj ai=>by
 unfold ql;rw[kN,nu];have hm:=abk (l:=cs) (i:=i) (j:=j)
 by_cases F:(cs.getD j ja).1<(i:Int)
 ·rw[ad (.inl F),ad (.inl (by omega))]
 ·by_cases I:(cs.getD j ja).1=(i:Int)
  ·rw[ad (.inr ⟨I,hm.2 ⟨ai,I⟩⟩),ad (.inl (by omega))]
  ·rw[ah (λaR=>aR.elim F λx=>I x.1),ah (λaR=>aR.elim (by omega) λx=>by simpa using x.2)]
theorem aBx (cs:List au)(h:List Rat)(aG:C4 cs h):(bF (D cs) λj=>ql cs h 0 0 j)=bF (D cs) λ_=>none:=kS λj ai=>by
 have:=(aG.c _ (ei (bz ai))).1;have e:cs.getD j ja=cs[j]:=by rw[ep,bz ai];rfl
 unfold ql;rw[e,nu,ah (λaR=>aR.elim (by omega) λx=>by simpa using x.2)]
theorem aBy (cs:List au)(h:List Rat)(aG:C4 cs h):(bF (D cs) λj=>ql cs h (D h) 0 j)=(cs.map λc=>av (e1 cs (h.getD c.1.toNat 0) c)).map some:=by
 refine (aaa (by simp) λj ai=>?_).symm;have:=(aG.c _ (ei (bz ai))).2.1;have e:cs.getD j ja=cs[j]:=by rw[ep,bz ai];rfl
 unfold ql;rw[bn,bn,bz ai,e,ad (.inl this)];unfold Ja;rw[e];rfl
theorem aBz (T:bl){K:e3->bd->Prop}{kk:List gA}(cs:List au)(h:List Rat)(aG:C4 cs h)(i:Nat)(M:i<D h)(v1 r7 alK alL alM:R)(alN alO:Option (Nat×List R))(tm:Nat->R)(m:Mem)
  (az:tm 1=v1) (bL:tm 7=r7) (dx:tm 10=.ref 233057 0 4 0 (D cs)) (h6:tm 13=.J (.Y (((cB cs i).map λc=>av (e1 cs (h.getD i 0) c)).map aE))) (uU:tm 58=alK) (oA:tm 59=alL) (kx:tm 60=alM) (Fl:tm 79=zf (gl cs i)) (Fm:tm 80=.J (.int .i64 (gl cs i).length)) (Fo:tm 81=.J (.int .i64 0)) (A7:m 233019=alN) (A8:m 233022=alO) (je:m 233057=some (0,mg q1 (bF (D cs) λj=>ql cs h i 0 j)))
  (dQ:∀tm' m',tm' 1=v1->tm' 7=r7->tm' 10=.ref 233057 0 4 0 (D cs)->tm' 58=alK->tm' 59=alL->tm' 60=alM->m' 233019=alN->m' 233022=alO->m' 233057=some (0,mg q1 (bF (D cs) λj=>ql cs h (i+1) 0 j))->cK T K kk (.exit 4) ⟨tm',m'⟩) :
  wp T (EA.body.sub [1,1,1,1,1,0,1,0,0,1,1,0,0,1,1,1,1,0]) (cK T K kk) ⟨tm,m⟩:=by
 simp only[EA,eC.sub];have iV:=aG.len;have pj:=aA8 cs i;refine dw [1,7,10,13,58,59,60,79,80] [233019,233022] (λ(k:Nat) tm m=>k<=(gl cs i).length/\tm 81=.J (.int .i64 k)/\m 233057=some (0,mg q1 (bF (D cs) λj=>ql cs h i k j))) (λk=>(gl cs i).length-k) 0 (by refine⟨by omega,Fo,je⟩) ?_;intro vs ms aT aS;simp only[go_sem,go_sem_proc,az,bL,dx,h6,uU,oA,kx,Fl,Fm,A7,A8] at aT aS;subst aT aS;clear az bL dx h6 uU oA kx Fl Fm Fo A7 A8 je tm m;rintro k tm m Q hm ⟨l7,Fo,je⟩;simp only[go_sem,go_sem_proc,bf] at Q hm;obtain⟨az,bL,dx,h6,uU,oA,kx,Fl,Fm⟩:=Q;obtain⟨A7,A8⟩:=hm;rcases dF (k<(gl cs i).length) with aA|b7
 ·have d1:decide ((k:Int)<((gl cs i).length:Int))=true:=dp;have b5:=e9 (i:=k) (by omega);obtain⟨y,aw⟩:∃y,(gl cs i)[k]?=some y:=⟨_,bz aA⟩;obtain⟨zy,alP⟩:=abk.1 (ei aw);have sT:=aBu aw;simp only[go_sem,go_sem_proc,cI] at sT
  have alQ:((cB cs i).map λc=>av (e1 cs (h.getD i 0) c))[k]?=some (Ja cs h y):=by
   rw[alH,bn,bn,aw];unfold Ja;rw[alP,l1];rfl
  have Ng:=aab (q:=λj=>ql cs h i k j) zy;have mU:=λa b c d=>aac (q:=λj=>ql cs h i k j) zy a b c d
  have hN:∀aP:bg,aP=Ja cs h y->(bF (D cs) λj=>if j=y then some aP else ql cs h i k j)=bF (D cs) λj=>ql cs h i (k+1) j:=λaP e8=>kS λj _=>by
   have gM:(gl cs i).take (k+1)=(gl cs i).take k++[y]:=by rw[hc,aw];rfl
   by_cases ai:j=y
   ·subst ai;rw[ad rfl];unfold ql;rw[gM,ad (.inr ⟨alP,by simp⟩),e8]
   ·rw[ah ai];unfold ql;rw[gM]
    by_cases F:(cs.getD j ja).1<(i:Int)\/((cs.getD j ja).1=(i:Int)/\j∈(gl cs i).take k)
    ·rw[ad F,ad (F.imp id λx=>⟨x.1,by simp[x.2]⟩)]
    ·rw[ah F,ah λaR=>F (aR.imp id λx=>⟨x.1,by simpa [ai] using x.2⟩)]
  have aK:=hN _ rfl;clear dQ;generalize ((cB cs i).map λc=>av (e1 cs (h.getD i 0) c))=ie at *;generalize Ja cs h y=aP at *;obtain⟨⟨c0,dj⟩,⟨a3,a4⟩⟩:=aP;have dE:=mU c0 dj a3 a4;rw[aK] at dE;simp only[go_sem,go_sem_proc,az,bL,dx,h6,uU,oA,kx,Fl,Fm,Fo,A7,A8,je,d1,b5,sT,alQ,Ng,dE,zy,iC,aE,cI,aj,bn];repeat' (first|refine ax ?_ ?_|fail)<;>intro h<;>simp only[h,go_sem,go_sem_proc,az,bL,dx,h6,uU,oA,kx,Fl,Fm,Fo,A7,A8,je,d1,b5,sT,alQ,Ng,dE,zy,iC,aE,cI,aj,bn]
  exact⟨k+1,by omega,by omega,rfl,rfl⟩
 ·have d1:decide ((k:Int)<((gl cs i).length:Int))=false:=dn;obtain rfl:k=(gl cs i).length:=by omega
  rw[aBw] at je;simp only[go_sem,go_sem_proc,az,bL,dx,h6,uU,oA,kx,Fl,Fm,Fo,d1];repeat' (first|refine ax ?_ ?_|fail)<;>intro h<;>simp only[h,go_sem,go_sem_proc,az,bL,dx,h6,uU,oA,kx,Fl,Fm,Fo,d1]
  refine dQ _ _ ?_ ?_ ?_ ?_ ?_ ?_ A7 A8 je<;>simp only[e7,ed,if_false,az,bL,dx,uU,oA,kx]
theorem aBA (n:Nat):(dG n [R.nil]).flatten=bF n λ_ => .nil:=by
 induction n with
 |zero=>rfl
 |succ n ay=>rw[List.replicate_succ',List.flatten_append,ay,alr];rfl
theorem aBB {a b:List Rat}(h:(a.map av).map aE=(b.map av).map aE):a=b:=map_inj (λ_ _ h=>ui h) _ _ (map_inj nd _ _ h)
abbrev SC:(List au)×(List Rat)->List Data:=λ(cs,h)=>[.Y (cs.map ck),.Y ((h.map av).map aE)]
def SD:=cu SC λ(cs,h)=>cU (C4 cs h) (.same (.cM [.Y ((cs.map λc=>av (e1 cs (h.getD c.1.toNat 0) c)).map aE),.bool true]))
theorem alR:∀a b,SC a=SC b->a=b:=by
  rintro⟨uP,F⟩ ⟨n3,I⟩ h;simp only[bf,Data.Y.injEq,and_true] at h;exact dR (map_inj r0 _ _ h.1) (aBB h.2)
@[go_sem] theorem aBC (cs:List au)(h:List Rat)(H:C4 cs h):SD [.Y (cs.map ck),.Y ((h.map av).map aE)]=some (.same (.cM [.Y ((cs.map λc=>av (e1 cs (h.getD c.1.toNat 0) c)).map aE),.bool true])):=(cD alR (cs,h)).trans (cZ H _)
theorem aBD (T:bl)(kz:T KS=aW Sq)(cs:List au)(h:List Rat)(H:C4 cs h):WP T EA (.same (.cM [.Y ((cs.map λc=>av (e1 cs (h.getD c.1.toNat 0) c)).map aE),.bool true])) [.J (.Y (cs.map ck)),.J (.Y ((h.map av).map aE))]:=by
 refine cE ?_;simp only[EA];have aK:=H.n;have iV:=H.len;have HV:(24*D h<=140737488355328)=True:=eq_true (by omega);have CE:(D h<=maxLen)=True:=eq_true (by unfold maxLen;omega);have aBE:(64*D cs<=140737488355328)=True:=eq_true (by omega);have aBF:(D cs<=maxLen)=True:=eq_true (by unfold maxLen;omega);have aV:=aBA (D h);have alS:=ajW (D cs);rw[<-aBx cs h H] at alS;simp only[go_sem,go_sem_proc,kz,HV,CE,aV,aj];refine aBa T cs h H (.J (.Y ((h.map av).map aE))) _ _ ?_ ?_ ?_ ?_ ?_ ?_ ?_ ?_ (λ_=>0) (λ_=>0) ⟨?_,?_,λi M bE=>absurd rfl bE,λi M bE=>absurd rfl bE⟩ ?_
 all_goals first|(intro tm m gc gP fO cv iA hV je cj)|(simp only[e7,ed,if_false,if_true];done)|(simp only[e7,ed,if_false,if_true];rfl)|(simp only[a1,ed,if_false,if_true];rfl)|skip
 obtain⟨dA,F,I,af⟩:=Sv (λi=>233600+i) (λi=>j9 (cB cs i)) (λi M=>by omega) (λi j _ _ he=>by omega) (D h) 0 (lT cs gc) m (by omega) cj.eX (λi M=>by omega) λi _ M=>by
  by_cases hJ:cB cs i=[]
  ·refine .inl ?_;unfold lT j9;rw[ad hJ,ad hJ]
  ·refine .inr ⟨gc i,4,(cB cs i).length,a7 ck (cB cs i),.Y ((cB cs i).map ck),?_,cj.cv i M hJ,λcX nB=>oa (n:=0) EZ nB,?_⟩
   ·unfold lT;rw[ah hJ]
   ·unfold j9;rw[ah hJ]
 have sI:dA 233022=some (0,bF (D h) (pp cs gP)):=(af 233022 (by decide) λi M=>by omega).trans cj.eg;have alT:dA 233057=none:=(af 233057 (by decide) λi M=>by omega).trans je
 obtain⟨cX,cF,cp,hb⟩:=Sv (λi=>233700+i) (λi=>zf (gl cs i)) (λi M=>by omega) (λi j _ _ he=>by omega) (D h) 0 (pp cs gP) dA (by omega) sI (λi M=>by omega) λi _ M=>by
  by_cases hJ:cB cs i=[]
  ·refine .inl ?_;have A1:gl cs i=[]:=C3.1 (by rw[Sx,hJ];rfl);unfold pp zf;rw[ad hJ,ad A1]
  ·have A1:gl cs i≠[]:=λaR=>hJ (C3.1 (by rw[<-Sx,aR];rfl));refine .inr ⟨gP i,1,(cB cs i).length,a7 iC (gl cs i),.Y ((gl cs i).map iC),?_,?_,λcX nB=>by rw[<-Sx];exact oa (n:=0) y0 nB,?_⟩
   ·unfold pp;rw[ah hJ]
   ·exact (af (233700+i) (by omega) λj ai=>by omega).trans (cj.cS i M hJ)
   ·unfold zf;rw[ah A1]
 have Nl:cX 233019=some (0,bF (D h) λi=>j9 (cB cs i)):=(hb 233019 (by decide) λi M=>by omega).trans I;have zg:cX 233057=none:=(hb 233057 (by decide) λi M=>by omega).trans alT;simp only[go_sem,go_sem_proc,kz];refine alq (F.trans cF) ?_;clear F I af cF hb sI alT cj je;simp only[go_sem,go_sem_proc,kz,fO,cv,iA,hV,aBE,aBF,alS,zg,aj];refine dw [1,7,10,58,59] [233019,233022] (λ(i:Nat) tm m=>i<=D h/\tm 60=.J (.int .i64 i)/\m 233057=some (0,mg q1 (bF (D cs) λj=>ql cs h i 0 j))) (λi=>D h-i) 0 (by refine⟨by omega,rfl,by simp[a1]⟩) ?_;intro vs ms aT aS;simp only[go_sem,go_sem_proc,kz,cv,hV,Nl,cp,aj] at aT aS;subst aT aS;clear fO cv iA hV Nl zg cp tm m dA cX;rintro i tm m Q hm ⟨M,kx,je⟩;simp only[go_sem,go_sem_proc,kz,bf] at Q hm;obtain⟨az,bL,dx,uU,oA⟩:=Q;obtain⟨A7,A8⟩:=hm;rcases dF (i<D h) with aA|b7
 ·have d1:decide ((i:Int)<(D h:Int))=true:=dp;have b5:=e9 (i:=i) (by omega);obtain⟨x,O⟩:∃x,h[i]?=some x:=⟨_,bz aA⟩;have Hi:h.getD i 0=x:=by rw[ep,O];rfl
  have rM:=H.x x (ei O)
  have pS:kt (cB cs i):=⟨eU (mY _ _) iV,λc gV=>by
   have F:=H.c c (nL.1 gV).1;omega,λc gV c' aBG=>by rw[(nL.1 gV).2,(nL.1 aBG).2]⟩
  have e8:=alD x (cB cs i) ⟨pS,rM.1,rM.2⟩;rw[ayh,<-Hi] at e8;rw[<-Hi] at O;have eX:=wv (iZ (λi=>j9 (cB cs i)) aA);have eg:=wv (iZ (λi=>zf (gl cs i)) aA);have iR:(bF (D h) λi=>j9 (cB cs i)).length=D h:=gQ _ _;have jR:(bF (D h) λi=>zf (gl cs i)).length=D h:=gQ _ _;have eh:i+1<=D h:=by omega
  have vF:=aBv (cB cs i) 6;have alU:=aBt (gl cs i);simp only[go_sem,go_sem_proc,kz] at alU;generalize nA:av (h.getD i 0)=c6 at *;obtain⟨⟨c0,dj⟩,⟨a3,a4⟩⟩:=c6;simp only[aE] at e8;simp only[go_sem,go_sem_proc,kz,kz,az,bL,dx,uU,oA,kx,A7,A8,je,d1,eX,eg,iR,jR,eh,aA,O,nA,vF,e8,alU,aE,cI,aj,bn,bne,beq_self_eq_true,c5];refine aBz T cs h H i aA (.J (.Y ((h.map av).map aE))) (.ref 233022 0 1 0 (D h)) (.ref 233019 0 1 0 (D h)) (.J (.int .i64 (D h))) (.J (.int .i64 i)) _ _ _ _ ?_ ?_ ?_ ?_ ?_ ?_ ?_ ?_ ?_ ?_ A7 A8 je ?_
  all_goals first|(intro tm' m' cv hV og alV alW alX Nl alY zg)|(simp only[e7,ed,if_false,if_true,az,bL,dx,uU,oA,kx];done)
  simp only[go_sem,go_sem_proc,kz,cv,hV,og,alV,alW,alX,Nl,alY,zg,b5];repeat' (first|refine ax ?_ ?_|fail)<;>intro h<;>simp only[h,go_sem,go_sem_proc,kz,cv,hV,og,alV,alW,alX,Nl,alY,zg,b5]
  exact⟨i+1,by omega,by omega,rfl,rfl⟩
 ·have d1:decide ((i:Int)<(D h:Int))=false:=dn;obtain rfl:i=D h:=by omega
  rw[aBy cs h H,ajY] at je;have mX:=λ(K:bd->Prop) (st:bd)=>lX (K:=K) (st:=st) kO 10 233057 0 (cs.map λc=>av (e1 cs (h.getD c.1.toNat 0) c));rw[aj] at mX;simp only[go_sem,go_sem_proc,kz,az,bL,dx,uU,oA,kx,d1,je,mX,aj];repeat' (first|refine ax ?_ ?_|fail)<;>intro h<;>simp only[h,go_sem,go_sem_proc,kz,az,bL,dx,uU,oA,kx,d1,je,mX,aj]
end Go.Mini
namespace Go.Mini
open Classical
def Fp (cs:List au)(x:Nat->Rat)(i:Nat)(acc:Option Rat)(c:au):Option Rat :=
 if c.2.1=(i:Int) then acc.bind λs=>if mR s (e1 cs (x c.1.toNat) c)=true then some (s+e1 cs (x c.1.toNat) c) else none else acc
def uV (E:List Int)(cs:List au)(x:Nat->Rat)(i:Nat)(l:List au):Option Rat:=l.foldl (Fp cs x i) (some ((E.getD i 0:Int):Rat))
theorem alZ (E:List Int)(cs:List au)(x:Nat->Rat)(i:Nat):uV E cs x i []=some ((E.getD i 0:Int):Rat):=rfl
theorem Jb (E:List Int)(cs:List au)(x:Nat->Rat)(i:Nat)(l:List au)(c:au):uV E cs x i (l++[c])=Fp cs x i (uV E cs x i l) c:=by
 unfold uV;rw[abo];rfl
def pJ (E:List Int)(cs:List au)(x:Nat->Rat)(i:Nat)(l:List au):Rat:=((E.getD i 0:Int):Rat)+cx (l.map cJ) λc=>if c.to=(i:Int) then (aB E cs).hh x c else 0
theorem al0 {E:List Int}{cs:List au}(h:jr E cs=true)(x:Nat->Rat)(i:Nat)(l:List au){c:au}(H:c∈cs):pJ E cs x i (l++[c])=pJ E cs x i l+if c.2.1=(i:Int) then e1 cs (x c.1.toNat) c else 0:=by
 unfold pJ;rw[jD,Il,<-MK h x H];show _+(_+((if (cJ c).to=(i:Int) then (aB E cs).hh x (cJ c) else 0)+0))=_;have e:(cJ c).to=c.2.1:=rfl;rw[e,o3];grind
theorem aBH {E:List Int}{cs:List au}(h:jr E cs=true)(x:Nat->Rat)(i:Nat):∀n (l:List au),D l=n->(∀c∈l,c∈cs)->∀s,uV E cs x i l=some s->s=pJ E cs x i l:=by
 intro n
 induction n with
 |zero =>
  intro l ar _ s U;have:l=[]:=C3.1 ar;subst this;rw[alZ,ca] at U;rw[<-U];unfold pJ;rw[cY,cx,o3]
 |succ n ay =>
  intro l ar hm s U;rcases BL l with ao|⟨ft,c,rfl⟩
  ·subst ao;cases ar
  ·rw[BM] at *;simp only[fr,vQ] at ar;have H:=hm c (by simp);rw[Jb] at U;rw[al0 h x i ft H];have ay:=ay ft (by omega) (λy aw=>hm y (by simp[aw]));unfold Fp at U
   by_cases r8:c.2.1=(i:Int)
   ·rw[ad r8] at U
    cases aN:uV E cs x i ft with
    |none=>rw[aN] at U;cases U
    |some t =>
     rw[aN,ir] at U;rw[ay t aN] at U
     by_cases Q:mR (pJ E cs x i ft) (e1 cs (x c.1.toNat) c)=true
     ·rw[ad Q,ca] at U;rw[ad r8,U]
     ·rw[ah Q] at U;cases U
   ·rw[ah r8] at U;rw[ah r8,o3];exact ay s U
def abp (E:List Int)(cs:List au)(x:Nat->Rat):Prop:=∀i,i<(D E)->uV E cs x i cs=some (x i)
section
variable {E:List Int} {cs:List au} (U:fo E cs)
include U
theorem aBI {eW:Nat}(hz:eW=324):0<iM (D E) (wj E cs)/\iM (D E) (wj E cs)<=2^eW:=by
 have:=U.n5;exact⟨ah4 λk Q=>ajz U Q,ai0 (e:=eW) (λk _=>ajA U k) (by omega)⟩
theorem aBJ:∃bk:Nat,0<bk/\(∃a,a<=654/\bk<=2^a)/\(∀i,i<(D E)->fg bk ((aB E cs).cL i))/\∀c∈cs,fg bk ((aB E cs).hh (aB E cs).cL (cJ c)):=by
 obtain⟨bk,F,⟨a,I,af⟩,aO⟩:=ajy U;obtain⟨eW,hz⟩:∃eW,eW=324:=⟨_,rfl⟩;obtain⟨km,kI⟩:=aBI U hz;refine⟨bk*iM (D E) (wj E cs),Nat.mul_pos F km,⟨a+eW,by omega,by rw[Nat.pow_add];exact Nat.mul_le_mul af kI⟩,λi M=>(aO i M).more _,λc H=>?_⟩
 have br:=ajB U aO H;have Q:(cJ c).aF<D E:=U.ok.aF _ (ta H);refine br.of_dvd ?_;obtain⟨m,hm⟩:=ah5 (b8:=wj E cs) Q;exact⟨m,by rw[hm,Nat.mul_assoc]⟩
theorem aBK {i:Nat}(M:i<D E){l ft:List au}(ar:cs=l++ft):dU 708 (pJ E cs (aB E cs).cL i l):=by
 obtain⟨bk,F,⟨a,I,af⟩,-,aO⟩:=aBJ U
 have CQ:∀m:List au,(∀c∈m,c∈cs)->0<=cx (m.map cJ) λc=>if c.to=(i:Int) then (aB E cs).hh (aB E cs).cL c else 0:=λm hm=>y2 λy aw=>by
  obtain⟨c,H,rfl⟩:=dT.1 aw
  try dsimp only
  split
  ·exact U.ok.Zh _ (ta (hm c H))
  ·exact gf
 have G7:∀c∈l,c∈cs:=λc H=>by rw[ar];simp[H]
 have nB:∀c∈ft,c∈cs:=λc H=>by rw[ar];simp[H]
 have oW:(0:Rat)<=((E.getD i 0:Int):Rat):=by have:=(U.E i).1;exact_mod_cast this
 have aa:fg bk (pJ E cs (aB E cs).cL i l):=by
  unfold pJ;refine (fg.int _ _).add (fg.cx λy aw=>?_);obtain⟨c,H,rfl⟩:=dT.1 aw
  split
  ·exact aO c (G7 c H)
  ·exact fg.zero _
 have ao:0<=pJ E cs (aB E cs).cL i l:=by
  have:=CQ l G7;unfold pJ;grind
 have hle:pJ E cs (aB E cs).cL i l<=(aB E cs).cL i:=by
  rw[(Io U.ok).1 i M]
  have e:(aB E cs).s6 (aB E cs).cL i=pJ E cs (aB E cs).cL i l+cx (ft.map cJ) λc=>if c.to=(i:Int) then (aB E cs).hh (aB E cs).cL c else 0:=by
   have aD:(aB E cs).s6 (aB E cs).cL i=((E.getD i 0:Int):Rat)+cx (cs.map cJ) λc=>if c.to=(i:Int) then (aB E cs).hh (aB E cs).cL c else 0:=rfl;rw[aD];unfold pJ;have bZ:cx (cs.map cJ) (λc=>if c.to=(i:Int) then (aB E cs).hh (aB E cs).cL c else 0)=cx ((l++ft).map cJ) λc=>if c.to=(i:Int) then (aB E cs).hh (aB E cs).cL c else 0:=by rw[<-ar]
   rw[bZ,jD,Il];grind
  have:=CQ ft nB;grind
 exact (aa.sz F af ao (e:=54) (Rat.le_trans hle (axS U M))).mono (by omega)
theorem al1:abp E cs (aB E cs).cL:=λi M=>by
 have key:∀n (l ft:List au),D l=n->cs=l++ft->uV E cs (aB E cs).cL i l=some (pJ E cs (aB E cs).cL i l):=by
  intro n
  induction n with
  |zero =>
   intro l ft ar _;have:l=[]:=C3.1 ar;subst this;rw[alZ];unfold pJ;rw[cY,cx,o3]
  |succ n ay =>
   intro l ft ar jM;rcases BL l with ao|⟨m,c,rfl⟩
   ·subst ao;cases ar
   ·rw[BM] at *;simp only[fr,vQ] at ar;have H:c∈cs:=by rw[jM];simp
    have gV:cs=m++([c]++ft):=by rw[jM,gW]
    rw[Jb,al0 U.right _ i m H,ay m _ (by omega) gV];unfold Fp
    by_cases r8:c.2.1=(i:Int)
    ·rw[ad r8,ad r8,ir,ad];refine y4 (aBK U M gV) (b:=482) ?_ (by omega);rw[<-MK U.right _ H];exact Rt U H
    ·rw[ah r8,ah r8,o3]
 have F:=key _ cs [] rfl (by simp);rw[F,(Io U.ok).1 i M]
 rfl
end
end Go.Mini
namespace Go.Mini
open Go
theorem al2 (x:Rat):x*(x.den:Rat)=(x.num:Rat):=by
 have h:(Rat.divInt x.num x.den)=x:=Rat.num_divInt_den x;rw[Rat.divInt_eq_div] at h;have ao:((x.den:Int):Rat)≠0:=by have:=x.den_nz;exact_mod_cast this
 have I:(x.num:Rat)/((x.den:Int):Rat)*((x.den:Int):Rat)=(x.num:Rat):=Rat.div_mul_cancel ao;rw[h,ou] at I;exact I
theorem al3 {x y:Rat}(h:mR x y=true):dv (x+y):=by
 unfold mR at h;simp only[eM] at h;obtain⟨-,-,af,aO⟩:=h
 have aa:((x.den:Int)*y.den)≠0:=by
  have F:=x.den_nz;have I:=y.den_nz;exact Int.mul_ne_zero (by omega) (by omega)
 have e:(x+y)*(((x.den:Int)*y.den:Int):Rat)=((x.num*y.den+y.num*x.den:Int):Rat):=by
  have az:x*(x.den:Rat)=(x.num:Rat):=al2 x;have aD:y*(y.den:Rat)=(y.num:Rat):=al2 y;rw[wb,qc,qc,qc,ou,ou,<-az,<-aD];grind
 obtain⟨f1,f2⟩:=CN aa e;have:=qS af;have:=qS aO;exact⟨by omega,by omega⟩
theorem aBL {x y:Rat}(O:dv x)(aw:dv y):yN [.agg (aE (av x)),.agg (aE (av y))]=some (.same (.cM [.agg (aE (Ao (mR x y) (x+y)).1),.int .i64 (Ao (mR x y) (x+y)).2])):=by
 have F:=lH O;have I:=lH aw;have:=agd (av x).1.1 (av x).1.2 (av x).2.1 (av x).2.2 (av y).1.1 (av y).1.2 (av y).2.1 (av y).2.2 ⟨F.1,F.2,I.1,I.2⟩;exact this.trans (by show some (eR.same (eH (vN (av x) (av y))))=_;rw[W0 O aw];rfl)
def al4:=cu Am λ(s,l,s2,aq,da,b3,dd,cw)=>cU (D l<=1000000/\D aq<=1000000/\D b3<=1000000/\D cw<=1000000) (.same (.bool (lG ((s,l),(s2,aq)) ((da,b3),(dd,cw))==0)))
@[go_sem] theorem aBM (s:Int)(l:List Int)(s2:Int)(aq:List Int)(da:Int)(b3:List Int)(dd:Int)(cw:List Int)(H:(D l)<=1000000/\D aq<=1000000/\D b3<=1000000/\D cw<=1000000):al4 [.agg [.int .i64 s,.Y (l.map ae),.int .i64 s2,.Y (aq.map ae)],.agg [.int .i64 da,.Y (b3.map ae),.int .i64 dd,.Y (cw.map ae)]]=some (.same (.bool (lG ((s,l),(s2,aq)) ((da,b3),(dd,cw))==0))):=(cD Ew (s,l,s2,aq,da,b3,dd,cw)).trans (cZ H _)
def kA:List bg->List bg->Bool
 | [],[]=>true
 |a::l,b::m=>(lG a b==0)&&kA l m
 |_,_=>false
theorem al5:∀(a b:List bg),(D a)≠(D b)->kA a b=false
 | [],[],h=>absurd rfl h
 | [],_::_,_=>rfl
 |_::_,[],_=>rfl
 |a::l,b::m,h=>by
  unfold kA;rw[al5 l m (by simpa using h),hP]
theorem aBN {a b:List bg}{i:Nat}{x y:bg}(aN:a[i]?=some x)(ag:b[i]?=some y)(h:kA (a.take i) (b.take i)=true)(H:(lG x y==0)=false):kA a b=false:=by
 induction i generalizing a b with
 |zero =>
  cases a with
  |nil=>cases aN
  |cons a l =>
   cases b with
   |nil=>cases ag
   |cons b m =>
    simp only[vl,ca] at aN ag;subst aN ag;rw[kA,H,fu]
 |succ i ay =>
  cases a with
  |nil=>cases aN
  |cons a l =>
   cases b with
   |nil=>cases ag
   |cons b m =>
    simp only[zc] at aN ag;rw[wT,wT,kA,eM] at h;rw[kA,ay aN ag h.2,hP]
theorem aBO {a b:List bg}{i:Nat}{x y:bg}(aN:a[i]?=some x)(ag:b[i]?=some y)(h:kA (a.take i) (b.take i)=true)(H:(lG x y==0)=true):kA (a.take (i+1)) (b.take (i+1))=true:=by
 induction i generalizing a b with
 |zero =>
  cases a with
  |nil=>cases aN
  |cons a l =>
   cases b with
   |nil=>cases ag
   |cons b m =>
    simp only[vl,ca] at aN ag;subst aN ag;simp[kA,H]
 |succ i ay =>
  cases a with
  |nil=>cases aN
  |cons a l =>
   cases b with
   |nil=>cases ag
   |cons b m =>
    simp only[zc] at aN ag;rw[wT,wT,kA,eM] at h;rw[wT,wT,kA,h.1,ay aN ag h.2];rfl
theorem al6 (T:bl)(f:FuncId)(aP:List Data->Option eR)(cC:T f=aW aP)(a b:List bg)(aN:fN a)(ag:fN b)(e8:∀c0 dj a3 a4 di eK j7 mc,D dj<=1000000->(D a4)<=1000000->(D eK)<=1000000->(D mc)<=1000000->aP [.agg [.int .i64 c0,.Y (dj.map ae),.int .i64 a3,.Y (a4.map ae)],.agg [.int .i64 di,.Y (eK.map ae),.int .i64 j7,.Y (mc.map ae)]]=some (.same (.bool (lG ((c0,dj),(a3,a4)) ((di,eK),(j7,mc))==0)))):WP T K2 (.same (.bool (kA a b))) [.J (.Y (a.map aE)),.J (.Y (b.map aE)),.J (.fn f [])]:=by
 refine cE ?_;simp only[K2];obtain⟨aN,aBP⟩:=aN;obtain⟨ag,aBQ⟩:=ag;rcases ar:((D a:Int)==(D b:Int))
 ·rw[al5 a b (by have:=ne_of_beq_false ar;omega)];refine aZ ?_;repeat' (intro h<;>simp only[h,go_sem,go_sem_proc,ar,aj,bne,dH]<;>try refine ax ?_ ?_)
 ·have hle:(D a)=D b:=by have:=eq_of_beq ar;omega
  simp only[go_sem,go_sem_proc,ar,aj,bne,c5];refine dw [1,2,15,16] [] (λ(i:Nat) tm mem=>i<=D a/\kA (a.take i) (b.take i)=true/\tm 17=.J (.int .i64 i)) (λi=>D a-i) 0 (by refine⟨fk _,by simp[kA],rfl⟩) ?_;intro vs ms aT aS;simp only[go_sem,go_sem_proc,aj] at aT aS;subst aT aS;rintro i tm mem Q hm ⟨M,e4,iB⟩;simp only[go_sem,go_sem_proc,bf] at Q hm;obtain⟨az,aD,sb,p9⟩:=Q;rcases dF (i<D a) with aA|b7
  ·have d1:decide ((i:Int)<(D a:Int))=true:=dp;have b5:=e9 (i:=i) (by omega);obtain⟨x,O⟩:∃x,a[i]?=some x:=⟨_,bz aA⟩;obtain⟨y,aw⟩:∃x,b[i]?=some x:=⟨_,bz (by omega)⟩;obtain⟨AW,wo⟩:=aBP x (ei O);obtain⟨Iv,Iw⟩:=aBQ y (ei aw);have dE:=λH=>aBN O aw e4 H;have gM:=λH=>aBO O aw e4 H;obtain⟨⟨c0,dj⟩,⟨a3,a4⟩⟩:=x;obtain⟨⟨di,eK⟩,⟨j7,mc⟩⟩:=y;dsimp only at AW wo Iv Iw;have mT:=e8 c0 dj a3 a4 di eK j7 mc AW wo Iv Iw;rcases q:(lG ((c0,dj),(a3,a4)) ((di,eK),(j7,mc))==0)
   ·rw[dE q];refine aZ ?_;repeat' (intro h<;>simp only[h,go_sem,go_sem_proc,az,aD,sb,p9,iB,O,aw,d1,b5,cC,mT,q,aE,aj,bn,dH]<;>try refine ax ?_ ?_)
   ·refine aZ ?_;repeat' (intro h<;>simp only[h,go_sem,go_sem_proc,az,aD,sb,p9,iB,O,aw,d1,b5,cC,mT,q,aE,aj,bn,c5]<;>try refine ax ?_ ?_)
    exact⟨i+1,by omega,by omega,gM q,rfl⟩
  ·have d1:decide ((i:Int)<(D a:Int))=false:=dn;rw[dB (by omega),dB (by omega)] at e4;rw[e4];refine aZ ?_;repeat' (intro h<;>simp only[h,go_sem,go_sem_proc,az,aD,sb,p9,iB,d1,aj]<;>try refine ax ?_ ?_)
def abq:=cu Am λ(s,l,s2,aq,da,b3,dd,cw)=>cU (D l<=1000000/\D aq<=1000000/\D b3<=1000000/\D cw<=1000000) (.same (.bool (lG ((s,l),(s2,aq)) ((da,b3),(dd,cw))==0)))
@[go_sem] theorem aBR (s:Int)(l:List Int)(s2:Int)(aq:List Int)(da:Int)(b3:List Int)(dd:Int)(cw:List Int)(H:(D l)<=1000000/\D aq<=1000000/\D b3<=1000000/\D cw<=1000000):abq [.agg [.int .i64 s,.Y (l.map ae),.int .i64 s2,.Y (aq.map ae)],.agg [.int .i64 da,.Y (b3.map ae),.int .i64 dd,.Y (cw.map ae)]]=some (.same (.bool (lG ((s,l),(s2,aq)) ((da,b3),(dd,cw))==0))):=(cD Ew (s,l,s2,aq,da,b3,dd,cw)).trans (cZ H _)
theorem aBS (T:bl)(eP:T oU=aW uk)(s:Int)(l:List Int)(s2:Int)(aq:List Int)(da:Int)(b3:List Int)(dd:Int)(cw:List Int)(H:(D l)<=1000000/\D aq<=1000000/\D b3<=1000000/\D cw<=1000000):WP T XB (.same (.bool (lG ((s,l),(s2,aq)) ((da,b3),(dd,cw))==0))) [.J (.agg [.int .i64 s,.Y (l.map ae),.int .i64 s2,.Y (aq.map ae)]),.J (.agg [.int .i64 da,.Y (b3.map ae),.int .i64 dd,.Y (cw.map ae)])]:=by
 refine cE ?_;simp only[XB];obtain⟨AW,wo,Iv,Iw⟩:=H;refine aZ ?_;repeat' (intro h<;>simp only[h,go_sem,go_sem_proc,eP,AW,wo,Iv,Iw]<;>try refine ax ?_ ?_)
abbrev abr:(List bg)×(List bg)×FuncId->List Data:=λ(a,b,f)=>[.Y (a.map aE),.Y (b.map aE),.fn f []]
def abt:=cu abr λ(a,b,f)=>cU (fN a/\fN b/\((f=BP/\BP<900000)\/(f=w2/\w2<900000))) (.same (.bool (kA a b)))
theorem aBT:∀a b,abr a=abr b->a=b:=by
  rintro⟨c0,di,f1⟩ ⟨dj,eK,f2⟩ h;simp only[bf,Data.Y.injEq,Data.fn.injEq,and_true] at h;exact dR (map_inj nd _ _ h.1) (dR (map_inj nd _ _ h.2.1) h.2.2)
@[go_sem] theorem aBU (a:List bg)(b:List bg)(f:FuncId)(H:fN a/\fN b/\((f=BP/\BP<900000)\/(f=w2/\w2<900000))):abt [.Y (a.map aE),.Y (b.map aE),.fn f []]=some (.same (.bool (kA a b))):=(cD aBT (a,b,f)).trans (cZ H _)
theorem aBV (T:bl)(aBW:BP<900000->T BP=aW al4)(aBX:w2<900000->T w2=aW abq)(a:List bg)(b:List bg)(f:FuncId)(H:fN a/\fN b/\((f=BP/\BP<900000)\/(f=w2/\w2<900000))):WP T K2 (.same (.bool (kA a b))) [.J (.Y (a.map aE)),.J (.Y (b.map aE)),.J (.fn f [])]:=by
 refine cE ?_;simp only[K2];obtain⟨aN,ag,aH⟩:=H;rcases aH with ⟨rfl,M⟩|⟨rfl,M⟩
 ·exact qT (al6 T _ _ (aBW M) a b aN ag λc0 dj a3 a4 di eK j7 mc F I af aO=>aBM c0 dj a3 a4 di eK j7 mc ⟨F,I,af,aO⟩)
 ·exact qT (al6 T _ _ (aBX M) a b aN ag λc0 dj a3 a4 di eK j7 mc F I af aO=>aBR c0 dj a3 a4 di eK j7 mc ⟨F,I,af,aO⟩)
abbrev abu:(List bg)×(List bg)->List Data:=λ(a,b)=>[.Y (a.map aE),.Y (b.map aE)]
def abv:=cu abu λ(a,b)=>cU (fN a/\fN b) (.same (.bool (kA a b)))
theorem aBY:∀a b,abu a=abu b->a=b:=by
  rintro⟨c0,di⟩ ⟨dj,eK⟩ h;simp only[bf,Data.Y.injEq,and_true] at h;exact dR (map_inj nd _ _ h.1) (map_inj nd _ _ h.2)
@[go_sem] theorem aBZ (a:List bg)(b:List bg)(H:fN a/\fN b):abv [.Y (a.map aE),.Y (b.map aE)]=some (.same (.bool (kA a b))):=(cD aBY (a,b)).trans (cZ H _)
theorem aB0 (T:bl)(aB1:T UH=aW abt)(a:List bg)(b:List bg)(H:fN a/\fN b):WP T Xu (.same (.bool (kA a b))) [.J (.Y (a.map aE)),.J (.Y (b.map aE))]:=by
 refine cE ?_;simp only[Xu];have aL:=aBU a b w2 ⟨H.1,H.2,.inr ⟨rfl,by decide⟩⟩
 refine aZ ?_;repeat' (intro h<;>simp only[h,go_sem,go_sem_proc,aB1,aL]<;>try refine ax ?_ ?_)
theorem aB2 {α:Type}(p:α->Bool)(l:List α)(k:Nat)(Q:k<D l)(h:∀j (ai:j<k),p (l[j]'(by omega))=false)(I:p l[k]=true):kP p l=k :=
 LH (λx O=>by
  obtain⟨j,ai⟩:=tL.1 O;rw[vc] at ai
  by_cases ea:j<k
  ·rw[ad ea,bz (by omega),ca] at ai;rw[<-ai];exact h j ea
  ·rw[ah ea] at ai;cases ai) (bz Q) I
theorem al7 {d:Day}{h:Nat->Rat}{i:Nat}:∀k,k<=10->d.jF h i k<10->(∀j,10-k<=j->j<d.jF h i k->d.bG i (j+1)<=h i)/\h i<d.bG i (d.jF h i k+1)/\10-k<=d.jF h i k
 |0,_,F=>by rw[Day.jF] at F;omega
 |k+1,Q,F=>by
  rw[Day.jF] at F ⊢
  by_cases H:h i<d.bG i (10-(k+1)+1)
  ·rw[ad H] at F ⊢;exact⟨λj I af=>by omega,H,b1 _⟩
  ·rw[ah H] at F ⊢;obtain⟨cv,cS,eF⟩:=al7 k (by omega) F;refine⟨λj I af=>?_,cS,by omega⟩
   by_cases ai:j=10-(k+1)
   ·rw[ai];grind
   ·exact cv j (by omega) af
theorem aB3 {E:List Int}{cs:List au}(U:fo E cs)(h:Nat->Rat)(n i:Nat)(M:i<n)(kQ:dv (h i))(aH:(aB E cs).jF h i 10<10):kP (qj (.solve (dK n h) i)) (bF 10 λk=>cT cs i (k+1:Nat))=((aB E cs).jF h i 10:Int):=by
 obtain⟨F,I,af⟩:=al7 10 (b1 _) aH;have ot:=λk:Nat=>U.upto i k
 have aG:∀k:Nat,qj (.solve (dK n h) i) (cT cs i (k+1:Nat))=decide (h i<(aB E cs).bG i (k+1)):=λk=>by
  have aa:(dK n h).getD i fv=av (h i):=by rw[ep,uJ h M];rfl
  have Fe:dC (cT cs i (k+1:Nat)):=o6 (by have:=ot (k+1);omega) (by have:=ot (k+1);omega);simp only[qj];rw[aa,P8 kQ (uM Fe),Rv,uD U.right]
 refine aB2 _ _ _ (by rw[gQ];exact aH) (λj ai=>?_) ?_
 ·have e:=iZ (λk=>cT cs i (k+1:Nat)) (show j<10 by omega);rw[bz (by rw[gQ];omega),ca] at e;rw[e,aG];exact mw (by have:=F j (by omega) ai;grind)
 ·have e:=iZ (λk=>cT cs i (k+1:Nat)) aH;rw[bz (by rw[gQ];omega),ca] at e;rw[e,aG];exact kf I
def de.wf (a:de)(f:Nat->Nat):de:={ a with fl:=bF (D a.E) λi=>(f i:Int) }
theorem de.abw (a:de)(f:Nat->Nat){i:Nat}(M:i<D a.E):(a.wf f).gH i=(a.gH i).xL (f i):=by
 have:(bF (D a.E) λi=>(f i:Int)).getD i 10=(f i:Int):=A6 _ _ M;unfold de.gH de.wf oy.xL;dsimp only;rw[this]
theorem de.At.aB4 {a:de}{m:Mem}{f:Nat->Nat}(h:(a.wf f).At m){i:Nat}(M:i<D a.E)(r:Nat):(a.wf λj=>if j=i then r else f j).At (a1 m (228500+i) (a.gs.getD i 0) (fC ((a.gH i).xL r))):=by
 refine⟨h.can,gQ _ _,h.pl,h.wm,?_,λj ai=>?_⟩
 ·have:=h.row;simp only[a1];rw[ah (show ¬ ((228023:Nat)=228500+i) by omega)];exact this
 ·rw[de.abw a _ ai];simp only[a1]
  by_cases h5:j=i
  ·subst h5;rw[ad rfl,ad rfl]
   rfl
  ·rw[ah (show ¬ ((228500+j:Nat)=228500+i) by omega),ah h5];have:=h.df j ai;rw[de.abw a _ ai] at this;exact this
theorem de.SE (a:de){p q:Nat->Nat}(h:∀i,i<(D a.E)->p i=q i):a.wf p=a.wf q:=by
 unfold de.wf;rw[kS λi M=>by rw[h i M]]
theorem aB5 {n i:Nat}(f:Nat->Nat)(h:i<n):bO (bF n λi=>(f i:Int)) i=f i:=by
 unfold bO;rw[A6 _ _ h,l1]
theorem aB6 {x:oy}(h:x.dt){k g:Nat}{m:Mem}(hm:m k=some (g,fC x))(n:Nat):cl (n+1) m (.ref k g 1 12 10)=some (.Y (x.us.tail.map ae)):=by
 have e:cut (fC x) 12 10=some (x.us.tail.map b9):=by
  unfold cut;rw[ad (by rw[CW h];omega)]
  congr 1
  obtain⟨c,dk,us,f,p⟩:=x;obtain⟨F,I⟩:=h;dsimp only at F I
  cases us with
  |nil=>cases I
  |cons u us =>
   have ar:(D us)=10:=by simpa using I
   unfold fC;dsimp only;rw[CX,List.drop_append,kY (by rw[aj];omega),aj,F,List.nil_append,eA];rw[show 11-10=1 from rfl,jT,CX,lV,List.take_append_of_le_length (by rw[aj];omega),dB (by rw[aj];omega)]
   rfl
 have aD:∀l:List Int,(l.map b9).mapM (cl n m)=some (l.map λz=>Data.int .i64 z):=by
  intro l
  induction l with
  |nil=>rfl
  |cons a l ay =>
   rw[eA,ju,ay];rw[show cl n m (b9 a)=some (.int .i64 a) from BH n _]
   rfl
 have bZ:∀l:List Int,chunk 1 (D l) (l.map λz=>Data.int .i64 z)=l.map ae:=by
  intro l
  induction l with
  |nil=>rfl
  |cons a l ay=>simp only[h0,eA,chunk,wT,nu,CX,lV,ay];rfl
 have ar:(D x.us.tail)=10:=by rw[List.length_tail,h.us]
 unfold cl;rw[hm];dsimp only;rw[ad rfl,cI,e];dsimp only;rw[aD];have:=bZ x.us.tail;rw[ar] at this;rw[k5,this]
theorem de.At.up {a:de}{m:Mem}(h:a.At m)(aK:(D a.E)<=6){k g:Nat}{cs:List R}(Q:k/1000≠228):a.At (a1 m k g cs) :=
 ⟨h.can,h.fl,h.pl,h.wm,by rw[du (by omega)];exact h.row,λi M=>by rw[du (by omega)];exact h.df i M⟩
theorem aB7 {α:Type}(n:Nat)(q:Nat->α):(bF (n+1) q).tail=bF n λk=>q (k+1):=by
 unfold bF;rw[List.range_succ_eq_map,eA,List.tail_cons,m6]
 rfl
theorem al8 {m:Mem}{k g:Nat}{d:Data}(hm:m k=some (g,[.J d]))(n:Nat):cl (n+1) m (.ptr k g 0)=some (.ptr [d]):=by
 unfold cl;rw[hm];dsimp only;rw[ad ⟨rfl,fk _⟩,lV,ju,BH]
 rfl
theorem aB8 (n k g sz o l:Nat):cl (n+1) emp (.ref k g sz o l)=none:=by
 unfold cl;rfl
def wB (d:Day)(f:Nat->Nat)(h:Nat->Rat)(i j:Nat):Nat:=if j<i then d.gG f h j else f j
theorem aB9 (T:bl)(hE:T pt=aW wh)(eP:T oU=aW uk)(nj:T wY=aW AY){K:e3->bd->Prop}{kk:List gA}(a:de)(U:fo a.E a.cs)(f:Nat->Nat)(aH:∀i,i<(D a.E)->f i<=10)(h:Nat->Rat)(kQ:∀i,i<(D a.E)->dv (h i))(ao:∀i,i<(D a.E)->0<=h i)(lB:Mem)(v1 v4 r7:R)(Nm abx:Nat)(tm:Nat->R)(m:Mem)
  (az:tm 1=v1) (dr:tm 4=v4) (bP:tm 6=.ref 228023 a.g 1 0 (D a.E)) (bL:tm 7=r7) (dN:tm 8=.ptr 217008 Nm 0) (dx:tm 10=.ref 217057 abx 1 0 0) (jc:tm 31=.ref 228023 a.g 1 0 (D a.E)) (jd:tm 32=.J (.int .i64 (D a.E))) (A9:tm 33=.J (.int .i64 0))
  (cj:(a.wf f).At m) (Ey:lB 217008=some (Nm,[.J (.Y ((dK (D a.E) h).map aE))])) (je:m 217057=some (abx,[])) (bV:∀k,k/1000≠228->k≠217011->k≠217057->m k=lB k)
  (dQ:∀tm' m' c8,tm' 1=v1->tm' 4=v4->tm' 6=.ref 228023 a.g 1 0 (D a.E)->tm' 7=r7->tm' 8=.ptr 217008 Nm 0->tm' 10=.ref 217057 c8 1 0 (uN (aB a.E a.cs) f h (D a.E)).length->m' 217057=some (c8,a7 iC (uN (aB a.E a.cs) f h (D a.E)))->(a.wf ((aB a.E a.cs).gG f h)).At m'->(∀k,k/1000≠228->k≠217011->k≠217057->m' k=lB k)->cK T K kk (.exit 2) ⟨tm',m'⟩) :
  wp T (Ez.body.sub [1,1,1,1,0,0,0,0,1,1,1,0,1,0,0]) (cK T K kk) ⟨tm,m⟩:=by
 simp only[Ez,eC.sub];have aK:=U.n5;have aa:=U.ok
 refine dw [1,4,6,7,8,31,32] [] (λ((i,g):Nat×Nat) tm m=>i<=D a.E/\tm 33=.J (.int .i64 i)/\tm 10=.ref 217057 g 1 0 (uN (aB a.E a.cs) f h i).length/\m 217057=some (g,a7 iC (uN (aB a.E a.cs) f h i))/\(a.wf (wB (aB a.E a.cs) f h i)).At m/\∀k,k/1000≠228->k≠217011->k≠217057->m k=lB k) (λ(i,_)=>D a.E-i) (0,abx) (by
  refine⟨by omega,A9,dx,je,?_,bV⟩
  rw[a.SE (q:=f) λj _=>by unfold wB;rw[ah (by omega)]]
  exact cj) ?_
 intro vs ms aT aS;simp only[go_sem,go_sem_proc,az,dr,bP,bL,dN,jc,jd] at aT aS;subst aT aS;clear az dr bP bL dN dx jc jd A9 cj je bV tm m;rintro⟨i,g⟩ tm m Q-⟨M,A9,dx,je,cj,bV⟩;simp only[go_sem,go_sem_proc,bf] at Q;obtain⟨az,dr,bP,bL,dN,jc,jd⟩:=Q;rcases dF (i<D a.E) with aA|b7
 ·have d1:decide ((i:Int)<(D a.E:Int))=true:=dp;have b5:=e9 (i:=i) (by omega);have wu:=aH i aA;have r5:wB (aB a.E a.cs) f h i i=f i:=by unfold wB;rw[ah (by omega)]
  have fb:m 228023=some (a.g,bF (D a.E) λi => .ptr (228500+i) (a.gs.getD i 0) 0):=cj.row;have fa:m (228500+i)=some (a.gs.getD i 0,_):=cj.df i aA;rw[de.abw a _ aA,r5] at fa;have Fq:=(bV 217008 (by decide) (by decide) (by decide)).trans Ey;have iq:=wv (iZ (λi=>R.ptr (228500+i) (a.gs.getD i 0) 0) aA);have b2:(bF (D a.E) λi=>R.ptr (228500+i) (a.gs.getD i 0) 0).length=D a.E:=gQ _ _;have cW:((a.gH i).xL (f i)).dt:=⟨(a.xM i).dk,(a.xM i).us⟩;have hlen:=CW cW;have mh:gu 1 (gL 22 (fC ((a.gH i).xL (f i))))=[b9 (f i:Int)]:=MM cW;have te:=ML cW (k:=f i) (z:=cT a.cs i (f i:Nat)) (iZ _ (by omega));have eE:_=fC ((a.gH i).xL ((aB a.E a.cs).jF h i 10)):=ayr cW ((aB a.E a.cs).jF h i 10:Nat);have eh:i+1<=D a.E:=by omega
  have aq:f i<11:=by omega
  have b3:(11+f i+1<=24)=True:=eq_true (by omega);have ot:=U.upto i (f i);have Fe:dC (cT a.cs i (f i:Nat)):=o6 (by omega) (by omega);have hw:=CT _ Fe;have pw:=Ip (kQ i aA) (uM Fe);have IW:=uD U.right i (f i);have B6:decide (mS (h i) ((cT a.cs i (f i:Nat):Int):Rat)>=0)=decide (((cT a.cs i (f i:Nat):Int):Rat)<=h i):=ajG;have Fs:=ayi (aB a.E a.cs) f h i;rw[<-IW] at Fs;have A2:=uJ h aA;have aCa:=ayj (aB a.E a.cs) f h i;have dg:=k6 y0 aj4 217057 g 8 (uN (aB a.E a.cs) f h i) i (cs:=[.J (.int .i64 i)]) rfl (by omega) (by omega);have aby:=λ(cX:Mem) (nB:cX (228500+i)=some (a.gs.getD i 0,fC ((a.gH i).xL (f i)))) n=>aB6 cW nB n;have aCb:((a.gH i).xL (f i)).us.tail=bF 10 λk=>cT a.cs i (k+1:Nat):=aB7 10 _;simp only[aCb] at aby
  have aCc:¬ h i<((cT a.cs i (f i:Nat):Int):Rat)->a.wf (wB (aB a.E a.cs) f h (i+1))=a.wf (wB (aB a.E a.cs) f h i):=λaR=>a.SE λj _=>by
   unfold wB
   by_cases ai:j=i
   ·subst ai;rw[ad (by omega),ah (by omega)];unfold Day.gG;rw[ah (by rw[<-IW];exact λx=>aR x.2)]
   ·by_cases vj:j<i
    ·rw[ad vj,ad (by omega)]
    ·rw[ah vj,ah (by omega)]
  have aCd:h i<((cT a.cs i (f i:Nat):Int):Rat)->a.wf (wB (aB a.E a.cs) f h (i+1))=a.wf (λj=>if j=i then (aB a.E a.cs).jF h i 10 else wB (aB a.E a.cs) f h i j):=λaR=>a.SE λj _=>by
   unfold wB
   by_cases ai:j=i
   ·subst ai;rw[ad (by omega),ad rfl];unfold Day.gG;rw[ad ⟨aA,by rw[<-IW];exact aR⟩]
   ·rw[ah ai]
    by_cases vj:j<i
    ·rw[ad vj,ad (by omega)]
    ·rw[ah vj,ah (by omega)]
  have mU:=λ(bk:Mem) (na:(a.wf (wB (aB a.E a.cs) f h i)).At bk)=>na.aB4 aA ((aB a.E a.cs).jF h i 10)
  have uv:h i<((cT a.cs i (f i:Nat):Int):Rat)->(aB a.E a.cs).jF h i 10<10:=λaR=>by
   rw[IW] at aR;have:=aa.uz i wu;rcases Zn aa (h:=h) (i:=i) 10 (b1 _) (by rw[mC,Day.QX];exact ao i aA) with ⟨-,e⟩|⟨-,e,-⟩
   ·grind
   ·exact e
  have aCe:=λaR=>aB3 U h (D a.E) i aA (kQ i aA) (uv aR)
  have vZ:=akk (bF 10 λk=>cT a.cs i (k+1:Nat)) (.solve (dK (D a.E) h) i) ⟨by rw[gQ];omega,by decide,by rw[qf];exact aA,ZN (by omega) kQ,λx O=>by
   obtain⟨k,-,rfl⟩:=dT.1 O;have:=U.upto i (k+1:Nat);exact o6 (by omega) (by omega)⟩
  simp only[r4] at vZ;generalize aLV:(bF 10 λk=>cT a.cs i (k+1:Nat))=SL at *;generalize IP:(bF (D a.E) λi=>R.ptr (228500+i) (a.gs.getD i 0) 0)=xN at *;have aCf:(228500+i)/1000=228:=by omega
  generalize uR:228500+i=ef at *;generalize M3:fC ((a.gH i).xL (f i))=DC at *;have n11:(ef=217011)=False:=eq_false (by omega);have al9:(ef=217057)=False:=eq_false (by omega);have ama:(217057=ef)=False:=eq_false (by omega);have aLW:av (h i)=av (h i):=rfl;generalize aa1:av (h i)=hO at *;generalize nA:av ((cT a.cs i (f i:Nat):Int):Rat)=c6 at *;obtain⟨⟨di,eK⟩,⟨j7,mc⟩⟩:=c6;obtain⟨⟨c0,dj⟩,⟨a3,a4⟩⟩:=hO;simp only[aE] at hw pw;rcases gF:decide (((cT a.cs i (f i:Nat):Int):Rat)<=h i)
  ·have aR:h i<((cT a.cs i (f i:Nat):Int):Rat):=by have:=of_decide_eq_false gF;grind
   rw[ad aR] at Fs;rw[<-Fs] at dg;rw[aCe aR] at vZ;simp only[<-aCd aR] at mU;have cr:(uN (aB a.E a.cs) f h (i+1)).length=(uN (aB a.E a.cs) f h i).length+1:=by rw[Fs,fr];rfl
   have Nn:∀cX:Mem,cX 217008=some (Nm,[.J (.Y ((dK (D a.E) h).map aE))])->cl 5 cX (.ptr 217008 Nm 0)=some (.ptr [.Y ((dK (D a.E) h).map aE)]):=λcX nB=>al8 nB 4;have amb:∀(cX:Mem) (g:Nat),cX 217011=some (g,[.J (.int .i64 i)])->cl 5 cX (.ptr 217011 g 0)=some (.ptr [.int .i64 i]):=λcX g nB=>al8 nB 4;have amc:=aB8 5 ef (a.gs.getD i 0) 1 12 10;simp only[go_sem,go_sem_proc,hE,eP,nj,az,dr,bP,bL,dN,dx,jc,jd,A9,fb,fa,Fq,je,iq,b2,hlen,mh,te,eE,eh,aq,b3,aA,hw,pw,B6,gF,A2,dg,aby,vZ,Nn,amb,amc,n11,al9,ama,d1,b5,aE,b9,cI,aj,bn,iz,scalar,nY,amd,ame];repeat' (first|refine ax ?_ ?_|fail)<;>intro h<;>simp only[h,go_sem,go_sem_proc,hE,eP,nj,az,dr,bP,bL,dN,dx,jc,jd,A9,fb,fa,Fq,je,iq,b2,hlen,mh,te,eE,eh,aq,b3,aA,hw,pw,B6,gF,A2,dg,aby,vZ,Nn,amb,amc,n11,al9,ama,d1,b5,aE,b9,cI,aj,bn,iz,scalar,nY,amd,ame]
   refine⟨(i+1,g+1),by dsimp only;omega,by dsimp only;omega,rfl,by rw[cr],rfl,mU _ (((cj.up aK (by decide)).up aK (by decide)).up aK (by decide)),λk F I af=>?_⟩
   rw[ah (show ¬ k=ef by intro Q;rw[Q] at F;exact F aCf),ah af,ah I,ah I];exact bV k F I af
  ·have aR:¬ h i<((cT a.cs i (f i:Nat):Int):Rat):=by have:=of_decide_eq_true gF;grind
   rw[ah aR] at Fs;simp only[go_sem,go_sem_proc,hE,eP,az,dr,bP,bL,dN,dx,jc,jd,A9,fb,fa,Fq,iq,b2,hlen,mh,te,eh,aq,b3,aA,hw,pw,B6,gF,A2,n11,d1,b5,aE,b9,cI,aj,bn];repeat' (first|refine ax ?_ ?_|fail)<;>intro h<;>simp only[h,go_sem,go_sem_proc,hE,eP,az,dr,bP,bL,dN,dx,jc,jd,A9,fb,fa,Fq,iq,b2,hlen,mh,te,eh,aq,b3,aA,hw,pw,B6,gF,A2,n11,d1,b5,aE,b9,cI,aj,bn]
   refine⟨(i+1,g),by dsimp only;omega,by dsimp only;omega,rfl,by rw[Fs],by rw[Fs];exact je,?_,λk F I af=>?_⟩
   ·rw[aCc aR];exact (cj.up aK (by decide)).up aK (by decide)
   ·rw[ah I,ah I];exact bV k F I af
 ·have d1:decide ((i:Int)<(D a.E:Int))=false:=dn;obtain rfl:i=D a.E:=by omega
  rw[a.SE (q:=(aB a.E a.cs).gG f h) λj ai=>by unfold wB;rw[ad ai]] at cj
  simp only[go_sem,go_sem_proc,az,dr,bP,bL,dN,dx,jc,jd,A9,d1];repeat' (first|refine ax ?_ ?_|fail)<;>intro h<;>simp only[h,go_sem,go_sem_proc,az,dr,bP,bL,dN,dx,jc,jd,A9,d1]
  refine dQ _ _ g ?_ ?_ ?_ ?_ ?_ ?_ je cj bV<;>simp only[e7,ed,if_false,az,dr,bP,bL,dN,dx]
def abz (ak:List bg):List Rat:=ak.map Cj
structure abA (E:List Int) (cs:List au) (ak:List bg):Prop where
 n:(D E)<=1000000
 c:(D cs)<=1000000
 o:fN ak
 q3:jr E cs=true->fo E cs
 sz:jr E cs=true->(D ak)=(D E)->ak.any (p2 zV)=false->∀f∈ak,dU 460 (Cj f)
open Classical in
def abB (E:List Int)(cs:List au)(x:Nat->Rat):Bool:=decide (abp E cs x)
open Classical in
theorem aCg {E:List Int}{cs:List au}{x:Nat->Rat}:abB E cs x=true↔abp E cs x:=by
 unfold abB;exact decide_eq_true_iff
def SF (E:List Int)(cs:List au)(ak:List bg):Bool:=jr E cs&&(decide (D ak=D E)&&(!ak.any (p2 zV)&&abB E cs λi=>(abz ak).getD i 0))
theorem amf:∀(a b:List Rat),(∀x∈a,dv x)->(∀x∈b,dv x)->(kA (a.map av) (b.map av)=true↔a=b)
 | [],[],_,_=>by simp[kA]
 | [],_::_,_,_=>by simp[kA]
 |_::_,[],_,_=>by simp[kA]
 |x::a,y::b,aN,ag=>by
  have ay:=amf a b (λz aV=>aN z (gZ _ aV)) λz aV=>ag z (gZ _ aV);rw[eA,eA,kA,eM,ay,bf,P8 (aN x gq) (ag y gq)]
  have:(mS x y==0)=true↔x=y:=by
   have F:=ajE (x:=x) (y:=y);have I:=Rv (x:=x) (y:=y);rw[beq_iff_eq]
   constructor
   ·intro h;rw[h] at F I;have az:¬ y<x:=of_decide_eq_false (F.symm.trans rfl);have aD:¬ x<y:=of_decide_eq_false (I.symm.trans rfl);grind
   ·intro h;have az:¬ y<x:=by grind
    have aD:¬ x<y:=by grind
    rw[mw az] at F;rw[mw aD] at I;have:=of_decide_eq_false F;have:=of_decide_eq_false I;omega
  rw[this]
structure C5 (E:List Int) (cs:List au) (x:Nat->Rat) (l:List au) (s:Nat->Rat):Prop where
 a:∀i,i<(D E)->uV E cs x i l=some (s i)
 l:∀i,i<(D E)->dv (s i)
theorem C5.skip {E:List Int}{cs:List au}{x:Nat->Rat}{l:List au}{s:Nat->Rat}(h:C5 E cs x l s){c:au}(H:c.2.1<0):C5 E cs x (l++[c]) s:=by
 refine⟨λi M=>?_,h.l⟩;rw[Jb,h.a i M];unfold Fp;rw[ah (by omega)]
theorem C5.add {E:List Int}{cs:List au}{x:Nat->Rat}{l:List au}{s:Nat->Rat}(h:C5 E cs x l s){c:au}{t:Nat}(H:c.2.1=(t:Int))(Q:mR (s t) (e1 cs (x c.1.toNat) c)=true):C5 E cs x (l++[c]) λi=>if i=t then s t+e1 cs (x c.1.toNat) c else s i:=by
 refine⟨λi M=>?_,λi M=>?_⟩
 ·rw[Jb,h.a i M];unfold Fp
  by_cases Np:i=t
  ·subst Np;rw[ad H,ir,ad Q,ad rfl]
  ·rw[ah (by omega),ah Np]
 ·by_cases Np:i=t
  ·rw[ad Np];exact al3 Q
  ·rw[ah Np];exact h.l i M
theorem abC {cs:List au}(cW:∀c∈cs,0<=c.2.2.2/\c.2.2.2<=1000000000000000)(iV:(D cs)<=12){x:Rat}(O:dU 460 x){c:au}(H:c∈cs):dv (e1 cs x c):=by
 have ag:∀(p:au->Prop) [DecidablePred p],0<=cR cs (λc=>if p c then c.2.2.2 else 0)/\cR cs (λc=>if p c then c.2.2.2 else 0)<=12000000000000000:=λp _=>by
  have:=Q8 (cs:=cs) (aP:=λc=>if p c then c.2.2.2 else 0) (B:=1000000000000000) (by omega) λc H=>by
   have F:=cW c H
   try dsimp only
   split<;>omega
  omega
 have ot:=ag λc'=>c'.1=c.1/\c'.2.2.1<c.2.2.1;have cQ:=ag λc'=>c'.1=c.1/\c'.2.2.1=c.2.2.1;rw[<-ajZ] at cQ;have aN:=cW c H;have Fk:dU 54 ((c.2.2.2:Int):Rat):=xK (by omega);have I7:dU 54 ((kR cs c.1 c.2.2.1:Int):Rat):=xK (by omega);have aCh:dU 54 ((cT cs c.1 c.2.2.1:Int):Rat):=xK (by unfold cT;omega);unfold e1
 split
 ·exact hL Fk (by omega)
 ·have aCi:dU 515 (pos (x-((cT cs c.1 c.2.2.1:Int):Rat))):=by
   unfold pos
   split
   ·exact (show dU 1 0 from⟨by decide,by decide⟩).mono (by omega)
   ·rw[Ly];exact (Mw O (Ib aCh)).mono (by omega)
  by_cases ao:((kR cs c.1 c.2.2.1:Int):Rat)=0
  ·rw[ao,HZ,Rat.inv_zero,nH,CH];exact hL (show dU 1 0 from⟨by decide,by decide⟩) (by omega)
  ·exact hL (Mv (aiv Fk I7 ao) aCi) (by omega)
abbrev abD:(List Int)×(List au)×(List bg)->List Data:=λ(E,cs,ak)=>[.Y (E.map ae),.Y (cs.map ck),.Y (ak.map aE)]
def amg:=cu abD λ(E,cs,ak)=>cU (abA E cs ak) (.same (.bool (SF E cs ak)))
theorem aCj:∀a b,abD a=abD b->a=b:=by
  rintro⟨uO,uP,ki⟩ ⟨uQ,n3,oJ⟩ h;simp only[bf,Data.Y.injEq,and_true] at h;exact dR (map_inj fh _ _ h.1) (dR (map_inj r0 _ _ h.2.1) (map_inj nd _ _ h.2.2))
@[go_sem] theorem aCk (E:List Int)(cs:List au)(ak:List bg)(H:abA E cs ak):amg [.Y (E.map ae),.Y (cs.map ck),.Y (ak.map aE)]=some (.same (.bool (SF E cs ak))):=(cD aCj (E,cs,ak)).trans (cZ H _)
theorem aCl {n:Nat}{f:Nat->Nat}(h:∀i,n<=i->f i=10):bO (bF n λi=>(f i:Int))=f:=by
 funext i
 by_cases M:i<n
 ·exact aB5 f M
 ·unfold bO;rw[ep,List.getElem?_eq_none (by rw[gQ];omega),h i (by omega)];rfl
theorem aCm {d:Day}{f:Nat->Nat}{h:Nat->Rat}(gr:∀i,d.n<=i->f i=10):∀i,d.n<=i->d.gG f h i=10:=λi M=>by
 unfold Day.gG;rw[ah λx=>by omega,gr i M]
theorem Nq (d:Day):∀k f,(d.rounds k f).1.length<=k
 |0,f=>b1 _
 |k+1,f=>by
  rw[Day.rounds]
  split
  ·exact fk _
  ·have:=Nq d k (d.gG f (d.top f));simp only[h0];omega
def uW (l:List Nat):List Data:=[.Y (l.map iC)]
theorem amh (l:List Nat):(uW l).length=1:=rfl
theorem aCn (l:List Nat):((uW l).map R.J).all R.one=true:=rfl
def zh (done:List (List Nat))(g:Nat):R:=if done=[] then .nil else .ref 217077 g 1 0 (D done)
structure ami (E:List Int) (cs:List au) (g:Nat) (gs:Nat->Nat) (f:Nat->Nat) (done:List (List Nat)) (nT:Nat) (m:Mem):Prop where
 at_:∃p,(((ze E cs g gs).wf f).hF p).At m
 out:∃lo,lo=0/\m 217007=some (lo,[.nil,.nil,zh done nT])
 row:done≠[]->m 217077=some (nT,a7 uW done)
 no:∀k:Nat,k/1000≠217->k/1000≠228->m k=none
 f10:∀i,D E<=i->f i=10
 reach:Reach (aB E (dz (D E) cs)) f
 iY:∃r,mW (D E) f<=r/\(aB E (dz (D E) cs)).iY=done++((aB E (dz (D E) cs)).rounds r f).1/\(aB E (dz (D E) cs)).hr=((aB E (dz (D E) cs)).rounds r f).2
theorem aCo (T:bl)(uX:T O3=qU M6)(hE:T pt=aW wh)(eP:T oU=aW uk)(nj:T wY=aW AY){K:e3->bd->Prop}{kk:List gA}(E:List Int)(cs:List au)(qQ:fo E cs)(g:Nat)(gs:Nat->Nat)(v1:R)(tm:Nat->R)(m:Mem)
  (az:tm 1=v1) (dr:tm 4=.ptr 217004 0 0) (bP:tm 6=.ref 228023 g 1 0 (D E)) (bL:tm 7=.ptr 217007 0 0) (qK:m 217004=some (0,[.nil,.nil,.nil])) (cj:ami E cs g gs (λ_=>10) [] 0 m)
  (dQ:∀tm' m' nT,tm' 1=v1->tm' 4=.ptr 217004 0 0->tm' 7=.ptr 217007 0 0->m' 217004=some (0,[.nil,.nil,.nil])->m' 217007=some (0,[.J (.Y ((dK (D E) (aB E (dz (D E) cs)).cL).map aE)),.nil,zh (aB E (dz (D E) cs)).iY nT])->((aB E (dz (D E) cs)).iY≠[]->m' 217077=some (nT,a7 uW (aB E (dz (D E) cs)).iY))->cK T K kk (.exit 0) ⟨tm',m'⟩) :
  wp T (Ez.body.sub [1,1,1,1,0,0]) (cK T K kk) ⟨tm,m⟩:=by
 simp only[Ez,eC.sub];have U:=Z2 qQ;have aK:=U.n5;have aa:=U.ok;refine dw [1,4,6,7] [217004] (λ((f,done,nT):(Nat->Nat)×List (List Nat)×Nat) tm m=>ami E cs g gs f done nT m) (λ(f,_)=>mW (D E) f) (λ_=>10,[],0) (by exact cj) ?_;intro vs ms aT aS;simp only[go_sem,go_sem_proc,az,dr,bP,bL,qK] at aT aS;subst aT aS;clear az dr bP bL qK cj tm m;rintro⟨f,done,nT⟩ tm m Q qK cj;simp only[go_sem,go_sem_proc,bf] at Q qK;obtain⟨az,dr,bP,bL⟩:=Q;obtain⟨⟨p,cj⟩,⟨lo,rfl,amj⟩,fb,gC,wu,amk,r,GW,bH,yJ⟩:=cj;dsimp only at *;have ve:=aCl wu;have lR:=amk;obtain⟨aml,hinv,-⟩:=amk
 have fm:=aAk (((ze E cs g gs).wf f).hF p) m ⟨cj,λk Q=>gC k (by omega) (by omega),λk Q=>gC k (by omega) (by omega),λk Q=>gC k (by omega) (by omega),⟨U,λx O=>by
  obtain⟨i,-,rfl⟩:=dT.1 O;have:=hinv.le i;omega⟩,⟨aml,by show Inv (aB E (dz (D E) cs)) (bO (bF (D E) λi=>(f i:Int))) aml;rw[ve];exact hinv⟩⟩
 have amm:M6 [.ref 228023 g 1 0 (D E)] m=some (Se (((ze E cs g gs).wf f).hF p) m):=fm;simp only[go_sem,go_sem_proc,uX,az,dr,bP,bL,amm];have bD:=Day.CK (aa.hex f lR);have kQ:∀i,i<(D E)->dv ((aB E (dz (D E) cs)).top f i):=λi M=>hL (ajx U lR M) (by omega);have ao:∀i,i<(D E)->0<=(aB E (dz (D E) cs)).top f i:=λi M=>bD.Q6 aa M;rintro amn mem' ⟨Hj,pn,Om,amo⟩
 have aCp:amn=.cM [.J (.Y ((dK (D E) ((aB E (dz (D E) cs)).top f)).map aE)),.J (.bool true)]:=by
  rw[Hj];show R.cM [.J (.Y ((dK (D E) ((aB E (dz (D E) cs)).top (bO (bF (D E) λi=>(f i:Int))))).map aE)),.J (.bool true)]=_;rw[ve]
 clear Hj fm amm;subst aCp;have fG:∀k:Nat,k/1000≠228->mem' k=m k:=λk Q=>amo k λi M=>by have:i<D E:=M;omega
 have l8:=(fG 217004 (by decide)).trans qK;have qk:=(fG 217007 (by decide)).trans amj;have ajC:(aB E (dz (D E) cs)).h8 f=uN (aB E (dz (D E) cs)) f ((aB E (dz (D E) cs)).top f) (D E):=rfl
 have amp:(aB E (dz (D E) cs)).h8 f=[]->(aB E (dz (D E) cs)).iY=done/\(aB E (dz (D E) cs)).cL=(aB E (dz (D E) cs)).top f:=λh=>by
  have:=(aB E (dz (D E) cs)).awp h r;rw[this,fE] at bH;rw[this] at yJ;exact⟨bH,by unfold Day.cL;rw[yJ]⟩
 have vi:(aB E (dz (D E) cs)).h8 f≠[]->mW (D E) ((aB E (dz (D E) cs)).gG f ((aB E (dz (D E) cs)).top f))<mW (D E) f/\Reach (aB E (dz (D E) cs)) ((aB E (dz (D E) cs)).gG f ((aB E (dz (D E) cs)).top f))/\(∀i,D E<=i->(aB E (dz (D E) cs)).gG f ((aB E (dz (D E) cs)).top f) i=10)/\∃r,mW (D E) ((aB E (dz (D E) cs)).gG f ((aB E (dz (D E) cs)).top f))<=r/\(aB E (dz (D E) cs)).iY=(done++[(aB E (dz (D E) cs)).h8 f])++((aB E (dz (D E) cs)).rounds r ((aB E (dz (D E) cs)).gG f ((aB E (dz (D E) cs)).top f))).1/\(aB E (dz (D E) cs)).hr=((aB E (dz (D E) cs)).rounds r ((aB E (dz (D E) cs)).gG f ((aB E (dz (D E) cs)).top f))).2:=λbE=>by
  have aA:=Zq aa aa.hex lR bE;have hp:mW (D E) ((aB E (dz (D E) cs)).gG f ((aB E (dz (D E) cs)).top f))<mW (D E) f:=aA;refine⟨hp,lR.next aa aa.hex,aCm (d:=aB E (dz (D E) cs)) wu,?_⟩
  cases r with
  |zero=>omega
  |succ r =>
   rw[Day.rounds,ah bE] at bH yJ;exact⟨r,by omega,by rw[bH];simp,yJ⟩
 generalize ns:aB E (dz (D E) cs)=d at *;generalize rE:(dK (D E) (d.top f)).map aE=V at *;simp only[go_sem,go_sem_proc,az,dr,bP,bL,l8,qk,c5];subst ns;rw[<-rE];refine aB9 T hE eP nj ((ze E cs g gs).hF pn) U f (λi _=>hinv.le i) ((aB E (dz (D E) cs)).top f) kQ ao _ v1 (.ptr 217004 0 0) (.ptr 217007 0 0) (gB (mem' 217008)) (gB (mem' 217057)) _ _ ?_ ?_ ?_ ?_ ?_ ?_ ?_ ?_ ?_ (((show ((((ze E cs g gs).hF pn).wf f)).At mem' from Om).up aK (by decide)).up aK (by decide)|>.up aK (by decide)) ?_ ?_ (λ_ _ _ _=>rfl) ?_
 all_goals first|(intro M7 cX cp cv ks iA hV hT og zg zD q4)|(simp only[e7,ed,if_false,if_true,az,dr,bP,bL];done)|(simp only[e7,ed,if_false,if_true];rfl)|(simp only[e7,ed,if_false,if_true,az,dr,bP,bL];rfl)|(simp only[a1,ed,if_false,if_true];done)|(simp only[a1,ed,if_false,if_true];rfl)|skip
 replace og:M7 10=.ref 217057 cp 1 0 ((aB E (dz (D E) cs)).h8 f).length:=og;replace zg:cX 217057=some (cp,a7 iC ((aB E (dz (D E) cs)).h8 f)):=zg;replace iA:M7 6=.ref 228023 g 1 0 (D E):=iA;replace zD:(((ze E cs g gs).hF pn).wf ((aB E (dz (D E) cs)).gG f ((aB E (dz (D E) cs)).top f))).At cX:=zD;have C6:cX 217004=some (0,[.nil,.nil,.nil]):=(q4 217004 (by decide) (by decide) (by decide)).trans (by simp only[a1,ed,if_false];exact l8);have xT:cX 217007=some (0,[.nil,.nil,zh done nT]):=(q4 217007 (by decide) (by decide) (by decide)).trans (by simp only[a1,ed,if_false];exact qk);have abE:cX 217008=some (gB (mem' 217008),[.J (.Y V)]):=(q4 217008 (by decide) (by decide) (by decide)).trans (by simp only[a1,ed,if_false,if_true];rw[rE]);have amq:done≠[]->cX 217077=some (nT,a7 uW done):=λh=>(q4 217077 (by decide) (by decide) (by decide)).trans (by simp only[a1,ed,if_false];exact (fG 217077 (by decide)).trans (fb h));have xW:∀(k j:Nat),k/1000≠217->j/1000=217->k≠j:=λk j F I h=>F (h ▸ I)
 have aCq:∀k:Nat,k/1000≠217->k/1000≠228->cX k=none:=λk F I=>(q4 k I (xW k _ F (by decide)) (xW k _ F (by decide))).trans (by
  rw[du (xW k _ F (by decide)),du (xW k _ F (by decide)),du (xW k _ F (by decide))];exact (fG k I).trans (gC k F I))
 clear q4 fG Om amo l8 qk amj fb gC qK az dr bP bL bH yJ
 by_cases bE:(aB E (dz (D E) cs)).h8 f=[]
 ·obtain⟨F,I⟩:=amp bE;rw[bE] at og;rw[F,I] at dQ;have rp:(((0:Nat):Int)==0)=true:=rfl;simp only[go_sem,go_sem_proc,cv,ks,iA,hV,hT,og,C6,xT,abE,rp,jy,List.set_cons_zero];refine dQ _ _ nT ?_ ?_ ?_ ?_ ?_ λh=>?_
  ·simp only[e7,ed,if_false];exact cv
  ·simp only[e7,ed,if_false];exact ks
  ·simp only[e7,ed,if_false];exact hV
  ·simp only[a1,ed,if_false];exact C6
  ·simp only[a1,ed,if_true];rw[rE]
  ·simp only[a1,ed,if_false];exact amq h
 ·obtain⟨F,I,af,aO⟩:=vi bE;have aCa:((aB E (dz (D E) cs)).h8 f).length<=6:=eU (mY _ _) (by rw[sC];exact aK)
  have rp:((((aB E (dz (D E) cs)).h8 f).length:Int)==0)=false:=by
   have:((aB E (dz (D E) cs)).h8 f).length≠0:=λh=>bE (C3.1 h);rw[beq_eq_false_iff_ne];omega
  have mX:=λ(K:bd->Prop) (st:bd)=>lX (K:=K) (st:=st) y0 10 217057 cp ((aB E (dz (D E) cs)).h8 f);have mD:(1<=maxLen)=True:=eq_true (by decide);generalize TB:(aB E (dz (D E) cs)).h8 f=fl at *;clear amp vi dQ;have amr:∀(bk:Mem),(∀k:Nat,k/1000≠217->bk k=cX k)->∀k:Nat,k/1000≠217->k/1000≠228->bk k=none:=λbk na k F I=>(na k F).trans (aCq k F I)
  by_cases jB:done=[]
  ·subst jB;have Nr:zh [] nT=.nil:=rfl;rw[Nr] at xT;simp only[go_sem,go_sem_proc,cv,ks,iA,hV,hT,og,C6,xT,abE,zg,rp,mX,mD];refine⟨(_,[fl],gB (cX 217077)),F,⟨⟨pn,((zD.up aK (by decide)).up aK (by decide)).up aK (by decide)⟩,⟨0,rfl,?_⟩,λ_=>?_,?_,af,I,aO⟩⟩
   ·rw[iN];rfl
   ·rw[du (by decide),iN];rfl
   ·exact amr _ λk Q=>by rw[du (xW k _ Q (by decide)),du (xW k _ Q (by decide)),du (xW k _ Q (by decide))]
  ·have Nr:zh done nT=.ref 217077 nT 1 0 (D done):=by unfold zh;rw[ah jB]
   rw[Nr] at xT;have SG:=amq jB
   have TU:(D done)+1<=60:=by
    obtain⟨FV,-,br,-⟩:=aO;have bR:=Nq (aB E (dz (D E) cs)) (10*(aB E (dz (D E) cs)).n) λ_=>10;have bN:(aB E (dz (D E) cs)).iY.length<=10*D E:=bR;rw[br] at bN;simp only[fr,vQ] at bN;omega
   have dg:=k6 amh aCn 217077 nT 24 done fl (cs:=[.J (.Y (fl.map iC))]) rfl (by omega) (by omega);simp only[go_sem,go_sem_proc,cv,ks,iA,hV,hT,og,C6,xT,abE,zg,SG,rp,mX,dg];refine⟨(_,done++[fl],nT+1),F,⟨⟨pn,((zD.up aK (by decide)).up aK (by decide)).up aK (by decide)⟩,⟨0,rfl,?_⟩,λ_=>?_,?_,af,I,aO⟩⟩
   ·rw[iN];unfold zh;rw[ah (by simp),fr];rfl
   ·rw[du (by decide),iN]
   ·exact amr _ λk Q=>by rw[du (xW k _ Q (by decide)),du (xW k _ Q (by decide)),du (xW k _ Q (by decide))]

theorem Alike.cL {d e:Day}(h:Alike d e):d.cL=e.cL:=by unfold Day.cL Day.hr;rw[h.top,h.rounds,h.n]
theorem Alike.iY {d e:Day}(h:Alike d e):d.iY=e.iY:=by unfold Day.iY;rw[h.rounds,h.n]
structure SH (E:List Int) (cs:List au):Prop where
 n:(D E)<=1000000
 c:(D cs)<=1000000
 q3:jr E cs=true->fo E cs
def oE (E:List Int)(cs:List au):List bg:=cs.map λc=>av (e1 cs ((aB E cs).cL c.1.toNat) c)
def lp (E:List Int)(cs:List au):List bg:=dK (D E) (aB E cs).cL
def Jc (E:List Int)(cs:List au):Data:=if jr E cs=true then .cM [.agg [.Y ((lp E cs).map aE),.Y ((oE E cs).map aE),.Y ((aB E cs).iY.map uW)],.int .i64 0] else .cM [.agg [.Y [],.Y [],.Y []],.int .i64 1]
theorem aCr {E:List Int}{cs:List au}(U:fo E cs):C4 cs ((dW (D E)).map (aB E cs).cL):=by
 have ab:=(hD.1 U.right).2.2.2;have aK:=U.n5;refine⟨U.rZ,by simp;exact aK,λc H=>?_,λx O=>?_⟩
 ·have F:=ab c H;have I:=U.am c H;rw[aj,sC];omega
 ·obtain⟨i,M,rfl⟩:=dT.1 O;have kj:=gX.1 M;exact⟨ME U.ok kj,(y7 U kj).mono (by omega)⟩
theorem aCs {E:List Int}{cs:List au}(U:fo E cs):(cs.map λc=>av (e1 cs (((dW (D E)).map (aB E cs).cL).getD c.1.toNat 0) c))=oE E cs:=mI λc H=>by
 have F:=(hD.1 U.right).2.2.2 c H;have:((dW (D E)).map (aB E cs).cL).getD c.1.toNat 0=(aB E cs).cL c.1.toNat:=A6 (aB E cs).cL 0 (show c.1.toNat<(D E) by omega);rw[this]
def SI:=cu RR λ(E,cs)=>cU (SH E cs) (.same (Jc E cs))
@[go_sem] theorem ams (E:List Int)(cs:List au)(H:SH E cs):SI [.Y (E.map ae),.Y (cs.map ck)]=some (.same (Jc E cs)):=(cD akn (E,cs)).trans (cZ H _)
theorem aCt (T:bl)(zi:T UE=aW aaR)(zj:T UF=qU abb)(uX:T O3=qU M6)(hE:T pt=aW wh)(eP:T oU=aW uk)(nj:T wY=aW AY)(zk:T UG=aW SD)(E:List Int)(cs:List au)(H:SH E cs):WP T Ez (.same (Jc E cs)) [.J (.Y (E.map ae)),.J (.Y (cs.map ck))]:=by
 refine cE ?_;simp only[Ez];obtain⟨lz,oW,xI⟩:=H;unfold Jc;rcases ab:jr E cs
 ·rw[ah (by decide)];simp only[go_sem,go_sem_proc,zi,zj,uX,hE,eP,nj,zk,lz,oW,ab,dH];repeat' (first|refine ax ?_ ?_|fail)<;>intro h<;>simp only[h,go_sem,go_sem_proc,zi,zj,uX,hE,eP,nj,zk,lz,oW,ab,dH]
 ·rw[ad rfl];have U:=xI ab;have aK:=U.n5;have Ft:=ajq ab
  have gC:r1 228 (a1 emp 217004 0 [R.nil,R.nil,R.nil]):=λk Q=>by
   rw[du (by rintro rfl;omega)];rfl
  have fm:=aAD E cs (a1 emp 217004 0 [R.nil,R.nil,R.nil]) ⟨U,gC⟩;simp only[go_sem,go_sem_proc,zi,zj,uX,hE,eP,nj,zk,lz,oW,ab,fm,c5];rintro amn m ⟨g,gs,rfl,cj,bV⟩;dsimp only at cj;have qK:m 217004=some (0,[.nil,.nil,.nil]):=(bV 217004 (by decide)).trans iN;have lg:m 217007=none:=(bV 217007 (by decide)).trans (du (by decide));simp only[go_sem,go_sem_proc,zi,zj,uX,hE,eP,nj,zk,lg];refine aCo T uX hE eP nj E cs U g gs (.J (.Y (cs.map ck))) _ _ ?_ ?_ ?_ ?_ ?_ ⟨⟨λ_=>false,?_⟩,⟨0,rfl,?_⟩,λh=>absurd rfl h,?_,λ_ _=>rfl,Reach.start (Z2 U).ok,⟨10*D E,?_,rfl,rfl⟩⟩ ?_
  all_goals first|(intro M7 cX nT cv ks hV l8 qk SG)|(simp only[e7,ed,if_false,if_true];done)|(simp only[e7,ed,if_false,if_true];rfl)|(simp only[a1,ed,if_false,if_true];done)|(simp only[a1,ed,if_false,if_true];rfl)|(simp only[a1,ed,if_false,if_true];exact qK)|skip
  ·exact cj.up aK (by decide)
  ·intro k F I;rw[du (by rintro rfl;exact F (by decide)),bV k I,du (by rintro rfl;exact F (by decide))];rfl
  ·rw[ajs];exact b1 _
  rw[<-Ft.cL,<-Ft.iY] at qk;rw[<-Ft.iY] at SG;have Fu:=aBC cs ((dW (D E)).map (aB E cs).cL) (aCr U);rw[aCs U] at Fu;replace Fu:SD [.Y (cs.map ck),.Y ((lp E cs).map aE)]=some (.same (.cM [.Y ((oE E cs).map aE),.bool true])):=Fu;replace qk:cX 217007=some (0,[.J (.Y ((lp E cs).map aE)),.nil,zh (aB E cs).iY nT]):=qk;generalize lp E cs=ml at *;generalize oE E cs=ie at *;generalize (aB E cs).iY=Jd at *;clear Ft fm cj bV qK lg
  by_cases uy:Jd=[]
  ·subst uy;replace qk:cX 217007=some (0,[.J (.Y (ml.map aE)),.nil,.nil]):=qk;simp only[go_sem,go_sem_proc,zi,zj,uX,hE,eP,nj,zk];refine aa6 ?_;rintro bk rfl;simp only[go_sem,go_sem_proc,zi,zj,uX,hE,eP,nj,zk,cv,ks,hV,l8,qk,Fu,c5,cY];repeat' (first|refine ax ?_ ?_|fail)<;>intro h<;>simp only[h,go_sem,go_sem_proc,zi,zj,uX,hE,eP,nj,zk,cv,ks,hV,l8,qk,Fu,c5,cY]
  ·have Fq:=SG uy;have Nr:zh Jd nT=.ref 217077 nT 1 0 (D Jd):=by unfold zh;rw[ah uy]
   rw[Nr] at qk;simp only[go_sem,go_sem_proc,zi,zj,uX,hE,eP,nj,zk];refine aa5 (ss.N7 217007 0 _ 2 217077 nT 1 0 (D Jd) _ (.Y (Jd.map uW)) qk rfl Fq (by decide) (oa (n:=0) amh Fq)) ?_;intro bk na;have amt:bk 217007=some (0,[.J (.Y (ml.map aE)),.nil,.J (.Y (Jd.map uW))]):=by rw[na,iN];rfl
   have amu:bk 217004=some (0,[.nil,.nil,.nil]):=by
    rw[na,du (by decide)];unfold kill;rw[du (by decide)];exact l8
   clear na;simp only[go_sem,go_sem_proc,zi,zj,uX,hE,eP,nj,zk,cv,ks,hV,amu,amt,Fu,c5];repeat' (first|refine ax ?_ ?_|fail)<;>intro h<;>simp only[h,go_sem,go_sem_proc,zi,zj,uX,hE,eP,nj,zk,cv,ks,hV,amu,amt,Fu,c5]
theorem aCu (cs:List au)(w:Int):(cB cs w).length<=D cs:=by unfold cB;exact mY _ _
section
variable {E:List Int} {cs:List au} (U:fo E cs)
include U
theorem abF:fN (lp E cs):=by
 have:=U.n5;exact ZN (by omega) λi M=>hL (y7 U M) (by omega)
theorem aCv:(lp E cs).any (p2 zV)=false/\abz (lp E cs)=(dW (D E)).map (aB E cs).cL:=by
 refine⟨?_,?_⟩
 ·rw[vX];intro f aH;obtain⟨y,aw,rfl⟩:=dT.1 aH;obtain⟨i,M,rfl⟩:=dT.1 aw;have kj:i<D E:=gX.1 M;have ar:=hL (y7 U kj) (by omega);have aK:=ME U.ok kj;rw[ags];show ¬ (!ek (av ((aB E cs).cL i))||decide ((av ((aB E cs).cL i)).1.1<0))=true;rw[Ih ar];have:decide ((aB E cs).cL i<0)=false:=mw (by grind);rw[<-aaf] at this;have I:decide ((av ((aB E cs).cL i)).1.1<0)=false:=this;rw[I];decide
 ·unfold abz lp dK;rw[m6];exact (mI λx _=>En x).trans (List.map_id _)
theorem aCw:abA E cs (lp E cs)/\SF E cs (lp E cs)=true:=by
 obtain⟨F,I⟩:=aCv U;have aK:=U.n5;have iV:=U.rZ;refine⟨⟨by omega,by omega,abF U,λ_=>U,λ_ _ _ f aH=>?_⟩,?_⟩
 ·obtain⟨y,aw,rfl⟩:=dT.1 aH;obtain⟨i,M,rfl⟩:=dT.1 aw;rw[En];exact (y7 U (gX.1 M)).mono (by omega)
 ·unfold SF;have ar:(lp E cs).length=D E:=qf _ _;rw[U.right,F,kf ar,g3,g3,dH,g3,aCg,I];intro i M;have O:=al1 U i M
  have jM:uV E cs (λi=>((dW (D E)).map (aB E cs).cL).getD i 0) i cs=uV E cs (aB E cs).cL i cs:=by
   have ab:=(hD.1 U.right).2.2.2
   have key:∀n (l:List au),D l=n->(∀c∈l,c∈cs)->uV E cs (λi=>((dW (D E)).map (aB E cs).cL).getD i 0) i l=uV E cs (aB E cs).cL i l:=by
    intro n
    induction n with
    |zero=>intro l ar _;rw[C3.1 ar];rfl
    |succ n ay =>
     intro l ar hm;rcases BL l with ao|⟨m,c,rfl⟩
     ·subst ao;cases ar
     ·rw[BM] at *;simp only[fr,vQ] at ar;have H:=ab c (hm c (by simp));rw[Jb,Jb,ay m (by omega) λy aw=>hm y (by simp[aw])];unfold Fp;have:((dW (D E)).map (aB E cs).cL).getD c.1.toNat 0=(aB E cs).cL c.1.toNat:=A6 (aB E cs).cL 0 (show c.1.toNat<(D E) by omega);simp only[this]
   exact key _ cs rfl λc H=>H
  rw[jM,O];show _=some ((bF (D E) (aB E cs).cL).getD i 0);rw[A6 (aB E cs).cL 0 M]
end
theorem aCx (l:List (List Nat)):l.map uW=(l.map λr=>r.map λn=>((n:Nat):Int)).map fj:=by
 rw[m6];refine mI λr _=>?_;simp only[uW,fj,Function.comp_apply,m6]
 rfl
theorem aCy {x:Rat}(O:dv x):vL [.agg (aE (av x))]=some (.same (.bool true)):=by
 have F:=lH O;have:=as8 (av x).1.1 (av x).1.2 (av x).2.1 (av x).2.2 ⟨F.1,F.2⟩;rw[show ek (((av x).1.1,(av x).1.2),((av x).2.1,(av x).2.2))=true from Ih O] at this;exact this
structure Je (E:List Int) (cs:List au) (ak bI:List Int) (fl:List (List Int)):Prop where
 s:fo E cs
 h:lp E cs=ak.map λn:Int=>av (n:Rat)
 p:oE E cs=bI.map λn:Int=>av (n:Rat)
 f:((aB E cs).iY.map λr=>r.map λn=>((n:Nat):Int))=fl
 M:∀n∈ak,dC n
 pi:∀n∈bI,dC n
 o:ayz fl
theorem Je.solve {E:List Int}{cs:List au}{ak bI:List Int}{fl:List (List Int)}(h:Je E cs ak bI fl):SI [.Y (E.map ae),.Y (cs.map ck)]=some (.same (.cM [.agg [.Y ((ak.map λn:Int=>av (n:Rat)).map aE),.Y ((bI.map λn:Int=>av (n:Rat)).map aE),.Y (fl.map fj)],.int .i64 0])):=by
 have aK:=h.s.n5;have iV:=h.s.rZ;have uY:=ams E cs ⟨by omega,by omega,λ_=>h.s⟩
 unfold Jc at uY;rw[ad h.s.right,h.h,h.p,aCx,h.f] at uY;exact uY
theorem Je.fits {E:List Int}{cs:List au}{ak bI:List Int}{fl:List (List Int)}(h:Je E cs ak bI fl):amg [.Y (E.map ae),.Y (cs.map ck),.Y ((ak.map λn:Int=>av (n:Rat)).map aE)]=some (.same (.bool true)):=by
 obtain⟨F,I⟩:=aCw h.s;have:=aCk E cs (lp E cs) F;rw[I,h.h] at this;exact this
theorem Je.small {E:List Int}{cs:List au}{ak bI:List Int}{fl:List (List Int)}(h:Je E cs ak bI fl):(D ak)<=6/\D bI<=12:=by
 have F:=congrArg D h.h;have I:=congrArg D h.p;unfold lp at F;unfold oE at I;rw[qf,aj] at F;rw[aj,aj] at I;have aK:=h.s.n5;have iV:=h.s.rZ;omega
end Go.Mini
namespace Go.Mini
open Classical
def az:Day:=aB [5,0] [(0,1,0,10),(1,-1,0,4)]
def aD:Day:=aB [0,0] [(0,1,1,10),(1,0,1,10)]
def dr:Day:=aB [9] [(0,-1,0,6),(0,-1,1,2),(0,-1,1,4)]
def bZ:Day:=aB [0,0] [(0,1,1,10),(1,0,1,10),(0,-1,0,5)]
def cm:Day:=aB [10,30] [(1,-1,0,25)]
def bP:Day:=aB [10,0] [(0,1,0,30)]
def bL:Day:=aB [30,0] [(0,1,0,30)]
end Go.Mini
namespace Go.Mini
open Go

end Go.Mini
namespace Go.Mini
open Classical
section
variable {E:List Int} {cs:List au} (U:fo E cs)
include U
theorem aCz (i:Nat)(aP:en->Rat):cx ((cB cs i).map cJ) aP=cx (aB E cs).dk λc=>if c.aF=i then aP c else 0:=by
 have ab:=(hD.1 U.right).2.2.2
 have e:∀l:List au,(∀c∈l,c∈cs)->cx ((cB l i).map cJ) aP=cx (l.map cJ) λc=>if c.aF=i then aP c else 0:=by
  intro l
  induction l with
  |nil=>intro _;rfl
  |cons c l ay =>
   intro hm;have ao:=(ab c (hm c gq)).1;have ay:=ay λy aw=>hm y (gZ _ aw);unfold cB at *
   by_cases H:c.1=(i:Int)
   ·rw[uL (by simpa using H),eA,eA,cx,cx,ay,ad (by show c.1.toNat=i;omega)]
   ·rw[wi (by simpa using H),eA,cx,ay,ah (by show ¬ c.1.toNat=i;omega),wg]
 exact e cs λc H=>H
end
end Go.Mini
namespace Go.Mini
open Go
def abG:=cu SC λ(l,q)=>cU (RI l q) (.same (Iu l q))
@[go_sem] theorem aCA (l:List au)(q:List Rat)(H:RI l q):abG [.Y (l.map ck),.Y ((q.map av).map aE)]=some (.same (Iu l q)):=(cD alR (l,q)).trans (cZ H _)
theorem aCB (T:bl)(o8:T KO=aW Sn)(fF:T lZ=aW vL)(m0:T vw=aW Ij)(eP:T oU=aW uk)(l:List au)(q:List Rat)(H:RI l q):WP T ZV (.same (Iu l q)) [.J (.Y (l.map ck)),.J (.Y ((q.map av).map aE))]:=by
 refine cE ?_;simp only[ZV];obtain⟨how,hlen,kQ⟩:=H;have iV:=how.len;have hY:∀c∈l,0<=c.2.2.1/\c.2.2.1<10:=λc H=>by have:=how.c c H;omega
 have hle:((D q:Int)==(D l:Int))=true:=by rw[hlen];exact beq_self_eq_true _
 simp only[go_sem,go_sem_proc,o8,fF,m0,eP,how,hle,aj,bne,c5];refine dw [1,19,20] [] (λ(i:Nat) tm m=>i<=D l/\tm 21=.J (.int .i64 i)/\tm 6=.J (.int .i64 (ia l (λi=>q.getD i 0) i))) (λi=>D l-i) 0 (by refine⟨by omega,rfl,rfl⟩) ?_;intro vs ms aT aS;simp only[go_sem,go_sem_proc,o8,fF,m0,eP,aj] at aT aS;subst aT aS;rintro i tm m Q-⟨M,py,bP⟩;simp only[go_sem,go_sem_proc,o8,fF,m0,eP,bf] at Q;obtain⟨az,sc,mi⟩:=Q;rcases dF (i<D l) with aA|b7
 ·have d1:decide ((i:Int)<(D l:Int))=true:=dp;have b5:=e9 (i:=i) (by omega);obtain⟨⟨aI,c2,c3,c4⟩,O⟩:∃c,l[i]?=some c:=⟨_,bz aA⟩;obtain⟨x,aw⟩:∃x,q[i]?=some x:=⟨_,bz (by omega)⟩;have H:=how.c _ (ei O);have ar:=kQ x (ei aw);dsimp only at H;have cH:dC c4:=o6 (by omega) (by omega);have c0:=aCy ar;have dj:=Nf cH;have a3:=Ip ar (uM cH);have aK:decide (mS x ((c4:Int):Rat)<0)=decide (x<((c4:Int):Rat)):=Rv;have wL:q.getD i 0=x:=by rw[ep,aw];rfl
  have rP:ia l (λi=>q.getD i 0) (i+1)=if x<((c4:Int):Rat) then min (ia l (λi=>q.getD i 0) i) c3 else ia l (λi=>q.getD i 0) i:=by
   rw[ia,O];dsimp only;rw[wL]
  have amv:(q.map av)[i]?=some (av x):=by rw[bn,aw];rfl
  generalize q.map av=QE at *;generalize av x=aP at *;generalize av ((c4:Int):Rat)=bQ at *;obtain⟨⟨f1,f2⟩,⟨f3,f4⟩⟩:=aP;obtain⟨⟨cF,cp⟩,⟨hb,j5⟩⟩:=bQ;simp only[aE] at c0 dj a3;rcases cv:decide (x<((c4:Int):Rat))
  ·rw[cv] at aK;rw[ah (of_decide_eq_false cv)] at rP;refine aZ ?_;repeat' (intro h<;>simp only[h,go_sem,go_sem_proc,o8,fF,m0,eP,az,bP,sc,mi,py,O,amv,d1,b5,c0,dj,a3,aK,ck,aE,aj,bn,c5]<;>try refine ax ?_ ?_)
   exact⟨i+1,by omega,by omega,rfl,by rw[rP]⟩
  ·rw[cv] at aK;rw[ad (of_decide_eq_true cv)] at rP;have aCC:(if c3<ia l (λi=>q.getD i 0) i then c3 else ia l (λi=>q.getD i 0) i)=min (ia l (λi=>q.getD i 0) i) c3:=by rw[Int.min_def];split<;>split<;>omega
   refine aZ ?_;repeat' (intro h<;>simp only[h,go_sem,go_sem_proc,o8,fF,m0,eP,az,bP,sc,mi,py,O,amv,d1,b5,c0,dj,a3,aK,ck,aE,aj,bn,c5]<;>try refine ax ?_ ?_)
   exact⟨i+1,by omega,by omega,rfl,by rw[rP,aCC]⟩
 ·have d1:decide ((i:Int)<(D l:Int))=false:=dn;obtain rfl:i=D l:=by omega
  have ag:=akf (q:=λi=>q.getD i 0) hY (D l);unfold Iu;generalize ia l (λi=>q.getD i 0) (D l)=s at *;rcases cv:(s==10)
  ·rw[ad (by have:=ne_of_beq_false cv;omega)];refine aZ ?_;repeat' (intro h<;>simp only[h,go_sem,go_sem_proc,o8,fF,m0,eP,az,bP,sc,mi,py,d1,cv,aj]<;>try refine ax ?_ ?_)
  ·rw[ah (by have:=eq_of_beq cv;omega)];refine aZ ?_;repeat' (intro h<;>simp only[h,go_sem,go_sem_proc,o8,fF,m0,eP,az,bP,sc,mi,py,d1,cv,aj]<;>try refine ax ?_ ?_)
def uZ (E:List Int)(cs:List au)(i:Nat):List Rat:=(cB cs i).map λc=>e1 cs ((aB E cs).cL i) c
section
variable {E:List Int} {cs:List au} (U:fo E cs) {i:Nat}
include U
theorem SJ {c:au}(H:c∈cB cs i):e1 cs ((aB E cs).cL i) c=(aB E cs).hh (aB E cs).cL (cJ c):=by
 obtain⟨F,I⟩:=nL.1 H;rw[MK U.right _ F,I,l1]
theorem aCD {x:Rat}(O:x∈uZ E cs i):dU 482 x:=by
 obtain⟨c,H,rfl⟩:=dT.1 O;rw[SJ U H];exact Rt U (nL.1 H).1
theorem aCE (M:i<D E):ia (cB cs i) (λk=>(uZ E cs i).getD k 0) (cB cs i).length<10↔(aB E cs).cL i<(aB E cs).bG i 10:=by
 have hY:∀c∈cB cs i,0<=c.2.2.1/\c.2.2.1<10:=λc H=>by have:=(U.own i).c c H;omega
 rw[ayB hY,<-axR U.ok (ME U.ok M)]
 constructor
 ·rintro⟨k,Q,c,H,aA⟩;have hm:=ei H;have e:(uZ E cs i).getD k 0=e1 cs ((aB E cs).cL i) c:=by unfold uZ;rw[ep,bn,H];rfl
  try dsimp only at aA
  rw[e,SJ U hm] at aA;have I:=(nL.1 hm).2;exact⟨cJ c,ta (nL.1 hm).1,by show c.1.toNat=i;omega,aA⟩
 ·rintro⟨b,ag,bV,aA⟩;obtain⟨c,H,rfl⟩:=dT.1 ag;have F:=((hD.1 U.right).2.2.2 c H).1;have hm:c∈cB cs i:=nL.2 ⟨H,by have:c.1.toNat=i:=bV;omega⟩
  obtain⟨k,Q,he⟩:=Kb hm;have bc:(cB cs i)[k]?=some c:=by rw[bz Q,he]
  have e:(uZ E cs i).getD k 0=e1 cs ((aB E cs).cL i) c:=by unfold uZ;rw[ep,bn,bc];rfl
  refine⟨k,Q,c,bc,?_⟩
  try dsimp only
  rw[e,SJ U hm];exact aA
end

abbrev SK:(List Int)×(List Int)->List Data:=λ(l,m)=>[.Y (l.map ae),.Y (m.map ae)]
def abH:=cu SK λ(l,m)=>cU (D l<=1000000/\D m<=1000000) (.same (.bool (decide (l=m))))
theorem amw:∀a b,SK a=SK b->a=b:=by
  rintro⟨eh,dA⟩ ⟨aq,cX⟩ h;simp only[bf,Data.Y.injEq,and_true] at h;exact dR (map_inj fh _ _ h.1) (map_inj fh _ _ h.2)
@[go_sem] theorem aCF (l:List Int)(m:List Int)(H:(D l)<=1000000/\D m<=1000000):abH [.Y (l.map ae),.Y (m.map ae)]=some (.same (.bool (decide (l=m)))):=(cD amw (l,m)).trans (cZ H _)
theorem aCG (T:bl)  (l:List Int) (m:List Int) (H:(D l)<=1000000/\D m<=1000000):WP T Vy (.same (.bool (decide (l=m)))) [.J (.Y (l.map ae)),.J (.Y (m.map ae))]:=by
 refine cE ?_;simp only[Vy];obtain⟨F,I⟩:=H;rcases q:((D l:Int)==(D m:Int))
 ·have bE:decide (l=m)=false:=mw λe=>by rw[e,beq_self_eq_true] at q;cases q
  refine aZ ?_;repeat' (intro h<;>simp only[h,go_sem,go_sem_proc,q,bE,aj,bne,dH]<;>try refine ax ?_ ?_)
 have ar:(D l)=D m:=by have:=eq_of_beq q;omega
 simp only[go_sem,go_sem_proc,q,aj,bne,c5];refine dw [0,1,12] [] (λ(i:Nat) tm _=>i<=D l/\l.take i=m.take i/\tm 13=.J (.int .i64 i)) (λi=>D l-i) 0 (by refine⟨by omega,by simp,rfl⟩) ?_;intro vs ms aT aS;simp only[go_sem,go_sem_proc,aj] at aT aS;subst aT aS;rintro i tm mem Q-⟨M,bD,h6⟩;simp only[go_sem,go_sem_proc,bf] at Q;obtain⟨bC,az,er⟩:=Q;rcases dF (i<D l) with aA|b7
 ·have d3:decide ((i:Int)<(D l:Int))=true:=dp;have b5:=e9 (i:=i) (by omega);obtain⟨x,O⟩:∃x,l[i]?=some x:=⟨_,bz aA⟩;obtain⟨y,aw⟩:∃y,m[i]?=some y:=⟨_,bz (by omega)⟩;rcases eV:(x==y)
  ·have bE:decide (l=m)=false:=mw λe=>by
    rw[e,aw] at O
    cases O;rw[beq_self_eq_true] at eV
    cases eV
   refine aZ ?_;repeat' (intro h<;>simp only[h,go_sem,go_sem_proc,bC,az,er,h6,O,aw,d3,eV,bE,ae,aj,bn,h0,jy,jv,bne,dH]<;>try refine ax ?_ ?_)
  ·obtain rfl:x=y:=eq_of_beq eV;refine aZ ?_;repeat' (intro h<;>simp only[h,go_sem,go_sem_proc,bC,az,er,h6,O,aw,d3,b5,eV,ae,aj,bn,h0,jy,jv,bne,c5]<;>try refine ax ?_ ?_)
   refine⟨i+1,by omega,by omega,?_,rfl⟩
   rw[hc,hc,bD,O,aw]
 ·have d3:decide ((i:Int)<(D l:Int))=false:=dn
  have he:decide (l=m)=true:=kf (by
   rw[dB (by omega),dB (by omega)] at bD;exact bD)
  refine aZ ?_;repeat' (intro h<;>simp only[h,go_sem,go_sem_proc,bC,az,er,h6,d3,he,aj]<;>try refine ax ?_ ?_)
def u0 (v:Int):List Int->Nat->Int
 | [],_ => -1
 |x::r,i=>if (v==x)=true then (i:Int) else u0 v r (i+1)
theorem amx (v:Int):∀(l:List Int) (i:Nat),decide (u0 v l i>=0)=decide (v∈l)
 | [],i=>by simp[u0]
 |x::r,i=>by
  unfold u0;rcases q:(v==x)
  ·rw[ah (by decide),amx v r (i+1)];have:v≠x:=beq_eq_false_iff_ne.1 q;rw[decide_eq_decide];simp[this]
  ·rw[ad rfl];obtain rfl:v=x:=eq_of_beq q;rw[decide_eq_decide];simp
abbrev Ns:(List Int)×Int->List Data:=λ(l,v)=>[.Y (l.map ae),.int .i64 v]
def abI:=cu Ns λ(l,v)=>cU (D l<=1000000) (.same (.int .i64 (u0 v l 0)))
theorem abJ:∀a b,Ns a=Ns b->a=b:=by
  rintro⟨eh,v1⟩ ⟨aq,v2⟩ h;simp only[bf,Data.Y.injEq,Data.int.injEq,and_true,true_and] at h;exact dR (map_inj fh _ _ h.1) h.2
@[go_sem] theorem aCH (l:List Int)(v:Int)(H:(D l)<=1000000):abI [.Y (l.map ae),.int .i64 v]=some (.same (.int .i64 (u0 v l 0))):=(cD abJ (l,v)).trans (cZ H _)
theorem aCI (T:bl)  (l:List Int) (v:Int) (H:(D l)<=1000000):WP T VA (.same (.int .i64 (u0 v l 0))) [.J (.Y (l.map ae)),.J (.int .i64 v)]:=by
 refine cE ?_;simp only[VA];simp only[go_sem,go_sem_proc,aj];refine dw [0,1,7] [] (λ(i:Nat) tm _=>i<=D l/\u0 v l 0=u0 v (l.drop i) i/\tm 8=.J (.int .i64 i)) (λi=>D l-i) 0 (by refine⟨by omega,by simp,rfl⟩) ?_;intro vs ms aT aS;simp only[go_sem,go_sem_proc,aj] at aT aS;subst aT aS;rintro i tm mem Q-⟨M,bD,dN⟩;simp only[go_sem,go_sem_proc,bf] at Q;obtain⟨bC,az,bL⟩:=Q;rcases dF (i<D l) with aA|b7
 ·have d3:decide ((i:Int)<(D l:Int))=true:=dp;have b5:=e9 (i:=i) (by omega);obtain⟨x,O⟩:∃x,l[i]?=some x:=⟨_,bz aA⟩;rw[List.drop_eq_getElem_cons aA,(dD.1 O).2] at bD;have dE:u0 v (x::l.drop (i+1)) i=if (v==x)=true then (i:Int) else u0 v (l.drop (i+1)) (i+1):=rfl;rw[dE] at bD;rcases eV:(v==x)
  ·rw[eV,ah (by decide)] at bD;refine aZ ?_;repeat' (intro h<;>simp only[h,go_sem,go_sem_proc,bC,az,bL,dN,O,d3,b5,eV,ae,aj,bn,h0,jy,jv]<;>try refine ax ?_ ?_)
   exact⟨i+1,by omega,by omega,bD,rfl⟩
  ·rw[eV,ad rfl] at bD;have aV:u0 v l 0=(i:Int):=bD;refine aZ ?_;repeat' (intro h<;>simp only[h,go_sem,go_sem_proc,bC,az,bL,dN,O,d3,eV,aV,ae,aj,bn,h0,jy,jv]<;>try refine ax ?_ ?_)
 ·have d3:decide ((i:Int)<(D l:Int))=false:=dn;rw[kY (by omega)] at bD;have aV:u0 v l 0 = -1:=bD;refine aZ ?_;repeat' (intro h<;>simp only[h,go_sem,go_sem_proc,bC,az,bL,dN,d3,aV,aj]<;>try refine ax ?_ ?_)
def abK:=cu Ns λ(l,v)=>cU (D l<=1000000) (.same (.bool (decide (v∈l))))
@[go_sem] theorem aCJ (l:List Int)(v:Int)(H:(D l)<=1000000):abK [.Y (l.map ae),.int .i64 v]=some (.same (.bool (decide (v∈l)))):=(cD abJ (l,v)).trans (cZ H _)
theorem aCK (T:bl)(aCL:T UY=aW abI)(l:List Int)(v:Int)(H:(D l)<=1000000):WP T Vz (.same (.bool (decide (v∈l)))) [.J (.Y (l.map ae)),.J (.int .i64 v)]:=by
 refine cE ?_;simp only[Vz];have M:=aCH l v H;have hm:=amx v l 0;refine aZ ?_;repeat' (intro h<;>simp only[h,go_sem,go_sem_proc,aCL,M,hm]<;>try refine ax ?_ ?_)
section
variable (A cg:List Int) (x y:Int)
end
structure Nt (l:List Int) (i:Nat) (C A:List Int) (x:Int) (B:List Int):Prop where
 len:(D A)+D B=i
 amy:(A++B).Pairwise (·<=·)
 up:∀b∈B,x<=b
 perm:(A++x::(B++C)).Perm l
theorem Nt.step {l:List Int}{i:Nat}{C A B:List Int}{x y:Int}(h:Nt l i C (A++[y]) x B)(oN:x<y):Nt l i C A x (y::B):=by
 refine⟨?_,?_,λb ag=>?_,?_⟩
 ·have:=h.len;simp at this ⊢;omega
 ·have:=h.amy;rwa [gW] at this
 ·rcases hH.1 ag with rfl|ag
  ·omega
  ·exact h.up b ag
 ·refine List.Perm.trans ?_ h.perm;rw[gW];refine List.Perm.append_left A ?_;exact List.Perm.swap y x (B++C)
theorem Nt.stop {l:List Int}{i:Nat}{C A B:List Int}{x:Int}(h:Nt l i C A x B)(O:∀a∈A,a<=x):(A++x::B).Pairwise (·<=·):=by
 have U:=abL.1 h.amy;refine abL.2 ⟨U.1,Fv.2 ⟨h.up,U.2.1⟩,λa aN b ag=>?_⟩;rcases hH.1 ag with rfl|ag
 ·exact O a aN
 ·exact U.2.2 a aN b ag
theorem abM {m:Mem}{k a b:Nat}{x y:List R}:a1 (a1 m k a x) k b y=a1 m k b y:=by
 funext j
 by_cases h:j=k
 ·subst h;rw[iN,iN]
 ·rw[du h,du h,du h]
structure C7 where
 l:List Int
 g:Nat
def amz (a:C7)(mem:Mem):R->Mem->Prop:=λm mem'=>m=.cM []/\∃s:List Int,s.Perm a.l/\s.Pairwise (·<=·)/\mem'=a1 mem 289040 a.g (s.map b9)

def nU:Int->List Int->List Int
 |_,[]=>[]
 |y,x::r=>if x=y then nU x r else x::nU x r
def kB:List Int->List Int
 | []=>[]
 |x::r=>x::nU x r
theorem amA (x:Int):∀(m:List Int) (z:Int),nU z (m++[x])=nU z m++if x=m.getLast?.getD z then [] else [x]
 | [],z=>by
  by_cases h:x=z
  ·simp[nU,h]
  ·simp[nU,h]
 |a::r,z=>by
  have e:(a::r).getLast?.getD z=r.getLast?.getD a:=by rw[List.getLast?_cons];rfl
  rw[e,jT,nU,nU,amA x r a]
  split
  ·rfl
  ·rfl
theorem aCM (m:List Int)(y x:Int):kB (m++[y]++[x])=kB (m++[y])++if x=y then [] else [x]:=by
 cases m with
 |nil =>
  by_cases h:x=y
  ·simp[kB,nU,h]
  ·simp[kB,nU,h]
 |cons a r =>
  have:nU a (r++[y]++[x])=nU a (r++[y])++if x=y then [] else [x]:=by
   rw[amA x (r++[y]) a];simp
  simp only[jT,kB,this]
theorem abN {l:List Int}{q:Nat}{y x:Int}(ao:0<q)(aw:l[q-1]?=some y)(O:l[q]?=some x):kB (l.take (q+1))=kB (l.take q)++if x=y then [] else [x]:=by
 have az:l.take q=l.take (q-1)++[y]:=by
  have:q=q-1+1:=by omega
  conv=>lhs;rw[this,hc,aw]
  rfl
 have aD:l.take (q+1)=l.take q++[x]:=by rw[hc,O];rfl
 rw[aD,az];exact aCM _ _ _
theorem amB:∀(l:List Int) (z:Int),(z::l).Pairwise (·<=·)->(nU z l).Pairwise (·<·)/\(∀x∈nU z l,z<x)/\∀x,x∈nU z l↔x∈l/\x≠z
 | [],z,_=>⟨List.Pairwise.nil,λx h=>(by cases h),λx=>(by simp[nU])⟩
 |a::r,z,h=>by
  have aV:=Fv.1 h;obtain⟨F,I,af⟩:=amB r a aV.2;have aN:=Fv.1 aV.2;have aLX:=aV.1 a (by simp);rw[nU]
  split
  ·rename_i e;subst e;refine⟨F,I,λx=>?_⟩;rw[af,hH]
   constructor
   ·rintro⟨cv,cS⟩;exact⟨.inr cv,cS⟩
   ·rintro⟨cv|cv,cS⟩
    ·exact absurd cv cS
    ·exact⟨cv,cS⟩
  ·rename_i e;refine⟨Fv.2 ⟨I,F⟩,λx O=>?_,λx=>?_⟩
   ·rcases hH.1 O with rfl|O
    ·omega
    ·have:=I x O;omega
   ·rw[hH,af,hH]
    constructor
    ·rintro (rfl|⟨cv,cS⟩)
     ·exact⟨.inl rfl,e⟩
     ·refine⟨.inr cv,λaLY=>?_⟩;have:=aN.1 x cv;omega
    ·rintro⟨cv|cv,cS⟩
     ·exact .inl cv
     ·by_cases hxa:x=a
      ·exact .inl hxa
      ·exact .inr ⟨cv,hxa⟩
theorem aCN {l:List Int}(h:l.Pairwise (·<=·)):(kB l).Pairwise (·<·)/\∀x,x∈kB l↔x∈l:=by
 cases l with
 |nil=>exact⟨List.Pairwise.nil,λx=>Iff.rfl⟩
 |cons a r =>
  obtain⟨F,I,af⟩:=amB r a h;refine⟨Fv.2 ⟨I,F⟩,λx=>?_⟩;rw[kB,hH,hH,af]
  constructor
  ·rintro (h|⟨h,-⟩)
   ·exact .inl h
   ·exact .inr h
  ·rintro (h|h)
   ·exact .inl h
   ·by_cases O:x=a
    ·exact .inl O
    ·exact .inr ⟨h,O⟩
theorem amC {K:bd->Prop}{st:bd}(s k g n:Nat)(P:List Int)(Z:List R)(MW:nZ Z=true)(aK:n=D P):
  BI K st s k g 1 0 n (some (g,P.map b9++Z))=K ⟨e6 st.tm s (.J (.Y (P.map ae))),kill st.mem k⟩:=by
 subst aK;unfold BI;dsimp only
 have aN:nZ (P.map b9++Z)=true:=by
  unfold nZ at MW ⊢;rw[List.all_append,MW,Bool.and_true,jh];intro x O;obtain⟨y,-,rfl⟩:=dT.1 O
  rfl
 rw[ad ⟨rfl,aN⟩];unfold cut;rw[jv,cI,fr,aj,ad (by omega)];dsimp only;rw[lV,F7,dB (by rw[aj];exact b1 _),aj,mC,nu,fE];have e:P.map b9=((P.map ae).flatten).map R.J:=by rw[IV];rfl
 rw[e,tK _ λd=>rfl];dsimp only;have:=yt (sz:=1) (P.map ae) (λx O=>by obtain⟨y,-,rfl⟩:=dT.1 O;rfl);rw[aj] at this;rw[this]
theorem aCO {l:List Int}{k:Nat}(Q:0<k)(ar:k<D l){y x:Int}(aw:l[k-1]?=some y)(O:l[k]?=some x)(bE:x≠y)(h:kB (l.take k)=l.take k):kB (l.take (k+1))=l.take (k+1):=by
 rw[abN Q aw O,ah bE,h,hc,O];rfl
abbrev abO:(List Int)×(List au)×(List bg)×(List bg)×(List (List Int))×Int->List Data:=λ(E,cs,ak,bI,fl,dm)=>[.agg (eO E cs ak bI fl),.int .i64 dm]
def SM:=cu abO λ(E,cs,ak,bI,fl,dm)=>cU (D bI=D cs/\D cs<=2000) (.same (.cM [.Y ((cB cs dm).map ck),.Y ((fT cs bI dm).map aE)]))
theorem aCP:∀a b,abO a=abO b->a=b:=by
  rintro⟨uO,uP,ki,amD,za,aLZ⟩ ⟨uQ,n3,oJ,amE,zb,aL0⟩ h;simp only[bf,Data.agg.injEq,Data.int.injEq,and_true,true_and] at h;obtain⟨cF,cp⟩:=h;obtain⟨rfl,rfl,rfl,rfl,rfl⟩:=AV cF;rw[cp]
@[go_sem] theorem amF (E:List Int)(cs:List au)(ak:List bg)(bI:List bg)(fl:List (List Int))(dm:Int)(H:(D bI)=D cs/\D cs<=2000):SM [.agg (eO E cs ak bI fl),.int .i64 dm]=some (.same (.cM [.Y ((cB cs dm).map ck),.Y ((fT cs bI dm).map aE)])):=(cD aCP (E,cs,ak,bI,fl,dm)).trans (cZ H _)
theorem aCQ (T:bl)  (E:List Int) (cs:List au) (ak:List bg) (bI:List bg) (fl:List (List Int)) (dm:Int) (H:(D bI)=D cs/\D cs<=2000):WP T Xt (.same (.cM [.Y ((cB cs dm).map ck),.Y ((fT cs bI dm).map aE)])) [.J (.agg (eO E cs ak bI fl)),.J (.int .i64 dm)]:=by
 refine cE ?_;simp only[Xt];obtain⟨Sb,hlen⟩:=H;simp only[go_sem,go_sem_proc,eO,aj];refine dw [1,2,11,12] [298002] (λ((i,g,cp):Nat×Nat×Nat) tm m=>i<=D cs/\tm 13=.J (.int .i64 i)/\tm 6=.ref 298025 g 4 0 (cB (cs.take i) dm).length/\tm 7=.ref 298034 cp 4 0 (fT (cs.take i) (bI.take i) dm).length/\m 298025=some (g,a7 ck (cB (cs.take i) dm))/\m 298034=some (cp,a7 aE (fT (cs.take i) (bI.take i) dm))) (λ(i,_,_)=>D cs-i) (0,0,0) (by refine⟨by omega,rfl,rfl,rfl,rfl,rfl⟩) ?_;intro vs ms aT aS;simp only[go_sem,go_sem_proc,eO,aj] at aT aS;subst aT aS;rintro⟨i,g,cp⟩ tm m Q hm ⟨M,h6,bP,bL,SN,SO⟩;simp only[go_sem,go_sem_proc,bf] at Q hm;obtain⟨az,aD,hs,er⟩:=Q;rcases dF (i<D cs) with aA|b7
 ·have d1:decide ((i:Int)<(D cs:Int))=true:=dp;have b5:=e9 (i:=i) (by omega);obtain⟨⟨aI,c2,c3,c4⟩,O⟩:∃c,cs[i]?=some c:=⟨_,bz aA⟩;obtain⟨⟨⟨km,kI⟩,⟨uw,xA⟩⟩,aw⟩:∃c,bI[i]?=some c:=⟨_,bz (by omega)⟩;have gM:cs.take (i+1)=cs.take i++[(aI,c2,c3,c4)]:=by rw[hc,O];rfl
  have aCR:bI.take (i+1)=bI.take i++[((km,kI),(uw,xA))]:=by rw[hc,aw];rfl
  have sZ:(cs.take i).length=(bI.take i).length:=by rw[fI,fI];omega
  have ye:(cB (cs.take i) dm).length<=2000:=by
   have F:=aCu (cs.take i) dm;have I:(cs.take i).length<=D cs:=by rw[fI];omega
   omega
  have aL1:(fT (cs.take i) (bI.take i) dm).length<=2000:=by
   have F:=ake (cs.take i) (bI.take i) dm;have I:(cs.take i).length<=D cs:=by rw[fI];omega
   omega
  have Fw:=akd (cs.take i) (bI.take i) (aI,c2,c3,c4) ((km,kI),(uw,xA)) dm sZ;rw[<-gM,<-aCR] at Fw;have aa0:i<D bI:=by omega
  rcases gF:(aI==dm)
  ·have pS:cB (cs.take (i+1)) dm=cB (cs.take i) dm:=by
    unfold cB;rw[gM,pG,wi (by simpa using gF),qg,fE]
   rw[ah (by dsimp only;rw[gF];decide),fE] at Fw;refine aZ ?_;repeat' (intro h<;>simp only[h,go_sem,go_sem_proc,az,aD,hs,er,h6,bP,bL,hm,O,aw,d1,b5,gF,ck,aj,bn]<;>try refine ax ?_ ?_)
   exact⟨(i+1,g,cp),by dsimp only;omega,by dsimp only;omega,rfl,by rw[pS],by rw[Fw],by rw[pS];exact SN,by rw[Fw];exact SO⟩
  ·have pS:cB (cs.take (i+1)) dm=cB (cs.take i) dm++[(aI,c2,c3,c4)]:=by
    unfold cB;rw[gM,pG,uL (by simpa using gF),qg]
   rw[ad (by dsimp only;exact gF)] at Fw;have dg:=k6 EZ ZZ 298025 g 32 (cB (cs.take i) dm) (aI,c2,c3,c4) (cs:=[.J (.int .i64 aI),.J (.int .i64 c2),.J (.int .i64 c3),.J (.int .i64 c4)]) rfl (by omega) (by omega);rw[<-pS] at dg;have SP:=λnr jM=>k6 kO As 298034 cp 64 (fT (cs.take i) (bI.take i) dm) ((km,kI),(uw,xA)) (cs:=nr) jM (by omega) (by omega);have abP:=SP _ rfl;rw[<-Fw] at abP;have cr:(cB (cs.take (i+1)) dm).length=(cB (cs.take i) dm).length+1:=by rw[pS,fr];rfl
   have cf:(fT (cs.take (i+1)) (bI.take (i+1)) dm).length=(fT (cs.take i) (bI.take i) dm).length+1:=by rw[Fw,fr];rfl
   simp only[aE,eA,cY] at abP;refine aZ ?_;repeat' (intro h<;>simp only[h,go_sem,go_sem_proc,az,aD,hs,er,h6,bP,bL,hm,SN,SO,O,aw,dg,abP,d1,b5,gF,aa0,ck,aE,aj,bn]<;>try refine ax ?_ ?_)
   exact⟨(i+1,g+1,cp+1),by dsimp only;omega,by dsimp only;omega,rfl,by rw[cr],by rw[cf],rfl,rfl⟩
 ·have d1:decide ((i:Int)<(D cs:Int))=false:=dn;obtain rfl:i=D cs:=by omega
  rw[kN,dB (by omega)] at bL SO;rw[kN] at bP SN;have Sa:=λ(K:bd->Prop) (st:bd)=>lX (K:=K) (st:=st) EZ 6 298025 g (cB cs dm);have Fc:=λ(K:bd->Prop) (st:bd)=>lX (K:=K) (st:=st) kO 7 298034 cp (fT cs bI dm);refine aZ ?_;repeat' (intro h<;>simp only[h,go_sem,go_sem_proc,az,aD,hs,er,h6,bP,bL,SN,SO,d1,Sa,Fc,aj]<;>try refine ax ?_ ?_)
def Nu (cs:List au)(ps:List Rat)(n:Nat):List Nat:=(dW n).filter λi=>decide (qi cs ps (i:Int)<10)
def ga (cs:List au)(ps:List Rat)(n:Nat):List Int:=(Nu cs ps n).map λi:Nat=>(i:Int)
theorem amG (cs:List au)(ps:List Rat)(n:Nat):ga cs ps (n+1)=ga cs ps n++if qi cs ps (n:Int)<10 then [(n:Int)] else []:=by
 unfold ga Nu;rw[ow,pG,jD]
 by_cases h:qi cs ps (n:Int)<10
 ·simp[h]
 ·simp[h]
theorem Nv (cs:List au)(ps:List Rat)(n:Nat):(ga cs ps n).length<=n:=by
 unfold ga Nu;rw[aj];have:=mY (λi:Nat=>decide (qi cs ps (i:Int)<10)) (dW n);rwa [sC] at this
abbrev abQ:(List Int)×(List au)×(List bg)×(List Rat)×(List (List Int))×Int->List Data:=λ(E,cs,ak,ps,fl,i)=>[.agg (eO E cs ak (ps.map av) fl),.int .i64 i]
def SQ:=cu abQ λ(E,cs,ak,ps,fl,i)=>cU (ku E cs ps) (.same (.cM [.int .i64 (r2 cs ps i),.bool (decide (qi cs ps i<10))]))
theorem aCS:∀a b,abQ a=abQ b->a=b:=by
  rintro⟨uO,uP,ki,Iy,za,i1⟩ ⟨uQ,n3,oJ,Iz,zb,i2⟩ h;simp only[bf,Data.agg.injEq,Data.int.injEq,and_true,true_and] at h;obtain⟨cF,cp⟩:=h;obtain⟨rfl,rfl,rfl,hb,rfl⟩:=AV cF;rw[cp,map_inj (λ_ _ aR=>ui aR) _ _ hb]
@[go_sem] theorem amH (E:List Int)(cs:List au)(ak:List bg)(ps:List Rat)(fl:List (List Int))(i:Int)(H:ku E cs ps):SQ [.agg (eO E cs ak (ps.map av) fl),.int .i64 i]=some (.same (.cM [.int .i64 (r2 cs ps i),.bool (decide (qi cs ps i<10))])):=(cD aCS (E,cs,ak,ps,fl,i)).trans (cZ H _)
theorem aCT (T:bl)(qm:T KV=aW SM)(aCU:T UD=aW abG)(E:List Int)(cs:List au)(ak:List bg)(ps:List Rat)(fl:List (List Int))(i:Int)(H:ku E cs ps):WP T XC (.same (.cM [.int .i64 (r2 cs ps i),.bool (decide (qi cs ps i<10))])) [.J (.agg (eO E cs ak (ps.map av) fl)),.J (.int .i64 i)]:=by
 refine cE ?_;simp only[XC];have F:=amF E cs ak (ps.map av) fl i ⟨by rw[aj];exact H.len,H.l⟩
 rw[aat] at F;have I:=aCA (cB cs i) (fT cs ps i) (H.short i);rw[ayC] at I;simp only[eO] at F;generalize ((fT cs ps i).map av).map aE=aM at *;generalize ps.map av=ie at *;generalize r2 cs ps i=eW at *;generalize decide (qi cs ps i<10)=B at *;refine aZ ?_;repeat' (intro h<;>simp only[h,go_sem,go_sem_proc,qm,aCU,eO,F,I]<;>try refine ax ?_ ?_)
theorem aCV {m:Mem}{k g:Nat}{l:List Int}(h:m k=some (g,a7 ae l)):rz 1 m (.ref k g 1 0 (D l))=some (l.map ae):=by
 have hlen:(a7 ae l).length=D l:=by rw[oQ hd];omega
 unfold rz;simp only[h,hlen];rw[ad ⟨trivial,trivial⟩,ad ⟨trivial,by omega⟩,dB (by omega)]
 unfold a7;rw[tK _ λd=>rfl,k5];have:=yt (sz:=1) (l.map ae) (λe he=>by obtain⟨c,-,rfl⟩:=dT.1 he;rfl);rw[aj] at this;rw[this]
abbrev Nw:(List Int)×(List au)×(List bg)×(List Rat)×(List (List Int))->List Data:=λ(E,cs,ak,ps,fl)=>[.agg (eO E cs ak (ps.map av) fl)]
def Nx:=cu Nw λ(E,cs,ak,ps,fl)=>cU (ku E cs ps) (.own 1 ((ga cs ps (D E)).map ae))
theorem abR:∀a b,Nw a=Nw b->a=b:=by
  rintro⟨uO,uP,ki,Iy,za⟩ ⟨uQ,n3,oJ,Iz,zb⟩ h;simp only[bf,Data.agg.injEq,and_true] at h;obtain⟨rfl,rfl,rfl,hb,rfl⟩:=AV h;rw[map_inj (λ_ _ aR=>ui aR) _ _ hb]
@[go_sem] theorem abS (E:List Int)(cs:List au)(ak:List bg)(ps:List Rat)(fl:List (List Int))(H:ku E cs ps):Nx [.agg (eO E cs ak (ps.map av) fl)]=some (.own 1 ((ga cs ps (D E)).map ae)):=(cD abR (E,cs,ak,ps,fl)).trans (cZ H _)
theorem aCW (T:bl)(C8:T KW=aW SQ)(E:List Int)(cs:List au)(ak:List bg)(ps:List Rat)(fl:List (List Int))(H:ku E cs ps):WP T Xv (.own 1 ((ga cs ps (D E)).map ae)) [.J (.agg (eO E cs ak (ps.map av) fl))]:=by
 refine cE ?_;simp only[Xv];have aK:=H.n;have he:=λi=>amH E cs ak ps fl i H;simp only[eO] at he;generalize ps.map av=ie at *;simp only[go_sem,go_sem_proc,C8,eO,aj];refine dw [1,9] [303001] (λ((i,g):Nat×Nat) tm m=>i<=D E/\tm 10=.J (.int .i64 i)/\tm 3=.ref 303023 g 1 0 (ga cs ps i).length/\m 303023=some (g,a7 ae (ga cs ps i))) (λ(i,_)=>D E-i) (0,0) (by refine⟨by omega,rfl,rfl,rfl⟩) ?_;intro vs ms aT aS;simp only[go_sem,go_sem_proc,C8,eO,aj] at aT aS;subst aT aS;rintro⟨i,g⟩ tm m Q hm ⟨M,dx,bZ,SR⟩;simp only[go_sem,go_sem_proc,C8,bf] at Q hm;obtain⟨az,ej⟩:=Q;have Gd:=Nv cs ps i;rcases dF (i<D E) with aA|b7
 ·have d1:decide ((i:Int)<(D E:Int))=true:=dp;have b5:=e9 (i:=i) (by omega);have he:=he i;have Jf:=amG cs ps i;rcases q:decide (qi cs ps (i:Int)<10)
  ·rw[q] at he;rw[ah (of_decide_eq_false q),fE] at Jf;generalize r2 cs ps i=eW at *;refine aZ ?_;repeat' (intro h<;>simp only[h,go_sem,go_sem_proc,C8,az,bZ,ej,dx,hm,SR,he,d1,b5,aj]<;>try refine ax ?_ ?_)
   exact⟨(i+1,g),by dsimp only;omega,by dsimp only;omega,rfl,by rw[Jf],by rw[Jf]⟩
  ·rw[q] at he;rw[ad (of_decide_eq_true q)] at Jf;have dg:=k6 hd tN 303023 g 8 (ga cs ps i) (i:Int) (cs:=[.J (.int .i64 (i:Int))]) rfl (by omega) (by omega);rw[<-Jf] at dg;have ar:(ga cs ps (i+1)).length=(ga cs ps i).length+1:=by rw[Jf,fr];rfl
   generalize r2 cs ps i=eW at *;refine aZ ?_;repeat' (intro h<;>simp only[h,go_sem,go_sem_proc,C8,az,bZ,ej,dx,hm,SR,he,dg,d1,b5,aj]<;>try refine ax ?_ ?_)
   exact⟨(i+1,g+1),by dsimp only;omega,by dsimp only;omega,rfl,by rw[ar],rfl⟩
 ·have d1:decide ((i:Int)<(D E:Int))=false:=dn;obtain rfl:i=D E:=by omega
  refine aZ ?_;repeat' (intro h<;>simp only[h,go_sem,go_sem_proc,C8,az,bZ,ej,dx,hm,SR,d1,aj]<;>try refine ax ?_ ?_)
  exact aCV SR
theorem aCX (T:bl)(SS:T UX=aW abK)(a:Int)(b:Int)(k:Int)(x:Int)(i:Int)(e:Int)(set:List Int)(H:(D set)<=1000000):WP T XD (.same (.bool (a==i&&(k==e&&(decide (x>0) && !decide (b∈set)))))) [.J (.agg [.int .i64 a,.int .i64 b,.int .i64 k,.int .i64 x]),.J (.ptr [.int .i64 i]),.J (.ptr [.int .i64 e]),.J (.ptr [.Y (set.map ae)])]:=by
 refine cE ?_;simp only[XD];have g7:=aCJ set b H;rcases aI:(a==i)
 ·refine aZ ?_;repeat' (intro h<;>simp only[h,go_sem,go_sem_proc,SS,aI,fu]<;>try refine ax ?_ ?_)
 rcases c2:(k==e)
 ·refine aZ ?_;repeat' (intro h<;>simp only[h,go_sem,go_sem_proc,SS,aI,c2,fu,hP]<;>try refine ax ?_ ?_)
 rcases c3:decide (x>0)
 ·refine aZ ?_;repeat' (intro h<;>simp only[h,go_sem,go_sem_proc,SS,aI,c2,c3,fu,hP]<;>try refine ax ?_ ?_)
 ·refine aZ ?_;repeat' (intro h<;>simp only[h,go_sem,go_sem_proc,SS,aI,c2,c3,g7,g3]<;>try refine ax ?_ ?_)
abbrev abT:(List Int)×(List au)×(List bg)×(List Rat)×(List (List Int))×Int×(List Int)->List Data:=λ(E,cs,ak,ps,fl,i,set)=>[.agg (eO E cs ak (ps.map av) fl),.int .i64 i,.Y (set.map ae)]
def abU:=cu abT λ(E,cs,ak,ps,fl,i,set)=>cU (ku E cs ps/\D set<=1000000) (.same (.bool (q2 cs ps set i)))
theorem aCY:∀a b,abT a=abT b->a=b:=by
  rintro⟨uO,uP,ki,Iy,za,i1,akg⟩ ⟨uQ,n3,oJ,Iz,zb,i2,akh⟩ h;simp only[bf,Data.agg.injEq,Data.int.injEq,Data.Y.injEq,and_true,true_and] at h;obtain⟨cF,cp,j5⟩:=h;obtain⟨rfl,rfl,rfl,hb,rfl⟩:=AV cF;rw[cp,map_inj (λ_ _ aR=>ui aR) _ _ hb,map_inj fh _ _ j5]
@[go_sem] theorem aCZ (E:List Int)(cs:List au)(ak:List bg)(ps:List Rat)(fl:List (List Int))(i:Int)(set:List Int)(H:ku E cs ps/\D set<=1000000):abU [.agg (eO E cs ak (ps.map av) fl),.int .i64 i,.Y (set.map ae)]=some (.same (.bool (q2 cs ps set i))):=(cD aCY (E,cs,ak,ps,fl,i,set)).trans (cZ H _)
theorem aC0 (T:bl)(C8:T KW=aW SQ)(ID:T DU=aW MT)(E:List Int)(cs:List au)(ak:List bg)(ps:List Rat)(fl:List (List Int))(i:Int)(set:List Int)(H:ku E cs ps/\D set<=1000000):WP T Xx (.same (.bool (q2 cs ps set i))) [.J (.agg (eO E cs ak (ps.map av) fl)),.J (.int .i64 i),.J (.Y (set.map ae))]:=by
 refine cE ?_;simp only[Xx];have F:=amH E cs ak ps fl i H.1;have I:=aaQ cs (.E7 i (r2 cs ps i) set) ⟨by have:=H.1.l;omega,by decide,H.2⟩
 have e:cs.any (td (.E7 i (r2 cs ps i) set))=q2 cs ps set i:=rfl;rw[e] at I;simp only[wq] at I;simp only[eO] at F;generalize ps.map av=ie at *;generalize r2 cs ps i=eW at *;generalize q2 cs ps set i=B at *;refine aZ ?_;repeat' (intro h<;>simp only[h,go_sem,go_sem_proc,C8,ID,eO,F,I,cl,nY,iz,scalar]<;>try refine ax ?_ ?_)
theorem aC1 (T:bl)(amI:T UW=aW abU)(x:Int)(E:List Int)(cs:List au)(ak:List bg)(ps:List Rat)(fl:List (List Int))(set:List Int)(H:ku E cs ps/\D set<=1000000):WP T Xw (.same (.bool (q2 cs ps set x))) [.J (.int .i64 x),.J (.ptr (eO E cs ak (ps.map av) fl)),.J (.ptr [.Y (set.map ae)])]:=by
 refine cE ?_;simp only[Xw];have h:=aCZ E cs ak ps fl x set H;simp only[eO] at h;generalize q2 cs ps set x=B at *;generalize ps.map av=ie at *;simp only[go_sem,go_sem_proc,amI,eO,h];repeat' (first|refine ax ?_ ?_|fail)<;>intro h<;>simp only[h,go_sem,go_sem_proc,amI,eO,h]
structure ti where
 g:Nat
 cF:Nat
 cp:Nat
 L:List Int
 Z:List Int
 E:List Int
 cs:List au
 ak:List bg
 ps:List Rat
 fl:List (List Int)
 set:List Int
structure ti.At (a:ti) (mem:Mem):Prop where
 row:mem 290006=some (a.g,(a.L++a.Z).map b9)
 day:mem 290001=some (a.cF,(eO a.E a.cs a.ak (a.ps.map av) a.fl).map .J)
 st:mem 290004=some (a.cp,[Data.Y (a.set.map ae)].map .J)
 C9:ku a.E a.cs a.ps
 Y:(D a.set)<=60
 amJ:(D a.L)+D a.Z<=60
def ti.args (a:ti):List R:=[.ref 290006 a.g 1 0 (D a.L),.fz tR [.ptr 290001 a.cF 0,.ptr 290004 a.cp 0]]
def stay (cs:List au)(ps:List Rat)(set L:List Int):List Int:=L.filter λx => !q2 cs ps set x
def Ny (a:ti)(mem:Mem):R->Mem->Prop:=λm mem'=>∃Nz:List Int,D Nz+(stay a.cs a.ps a.set a.L).length=D a.L+D a.Z/\m=.ref 290006 a.g 1 0 (stay a.cs a.ps a.set a.L).length/\mem'=a1 mem 290006 a.g ((stay a.cs a.ps a.set a.L++Nz).map b9)
def NA:List R->Mem->Option (R->Mem->Prop):=xv (λ(a:ti) args mem=>args=a.args/\a.At mem) Ny
theorem aC2:∀a b:Data,R.J a=R.J b->a=b:=λa b h=>by cases h;rfl
theorem aC3 {a b:ti}{mem:Mem}(h:a.args=b.args)(F:a.At mem)(I:b.At mem):a=b:=by
 obtain⟨g,cF,cp,L,Z,E,cs,ak,ps,fl,set⟩:=a;obtain⟨c8,aL2,aL3,aL4,Nz,Iq,nr,lx,Jg,AS,aL5⟩:=b;have az:=F.row.symm.trans I.row;have aD:=F.day.symm.trans I.day;have bZ:=F.st.symm.trans I.st;simp only[ti.args,bf,R.ref.injEq,and_true,true_and] at h;simp only[ca,Prod.mk.injEq] at az aD bZ;obtain⟨rfl,az⟩:=az;obtain⟨rfl,aD⟩:=aD;obtain⟨rfl,bZ⟩:=bZ;obtain⟨rfl,rfl,rfl,ks,rfl⟩:=AV (map_inj aC2 _ _ aD);obtain rfl:=map_inj (λ_ _ aR=>ui aR) _ _ ks;simp only[eA,cY,bf,R.J.injEq,Data.Y.injEq,and_true] at bZ;obtain rfl:=map_inj fh _ _ bZ;obtain⟨rfl,rfl⟩:=List.append_inj (Rw az) h.1.2
 rfl
theorem aC4 (a:ti)(mem:Mem)(h:a.At mem):NA a.args mem=some (Ny a mem):=by
 unfold NA;exact Yr (a:=a) (λa b args mem F I=>aC3 (F.1.symm.trans I.1) F.2 I.2) ⟨rfl,h⟩
theorem SU {n k g:Nat}{mem:Mem}{ds:List Data}(h:mem k=some (g,ds.map .J)):cl (n+1) mem (.ptr k g 0)=some (.ptr ds):=by
 unfold cl;rw[h];simp only;rw[ad ⟨trivial,fk _⟩,lV,tK _ λd=>by cases n<;>rfl]
 rfl
theorem amK {n k g:Nat}{mem:Mem}{L Z:List Int}(h:mem k=some (g,(L++Z).map b9)):cl (n+1) mem (.ref k g 1 0 (D L))=some (.Y (L.map ae)):=by
 unfold cl;rw[h];simp only[if_true];unfold cut;rw[jv,cI,ad (by simp),lV,jD,F7,aj,mC,nu,fE,dB (by rw[aj];exact b1 _)];have e:L.map b9=((L.map ae).flatten).map R.J:=by rw[IV];rfl
 rw[e];simp only;rw[tK _ λd=>by cases n<;>rfl]
 have:=yt (sz:=1) (L.map ae) (λx O=>by obtain⟨y,-,rfl⟩:=dT.1 O;rfl);rw[aj] at this;simp[this]
theorem aC5 {T:bl}(MQ:T tR=aW Ix){a:ti}{mem m:Mem}(aN:a.At mem)(F:m 290001=mem 290001)(aO:m 290004=mem 290004)(x:Int):
  T tR [.J (.int .i64 x),.ptr 290001 a.cF 0,.ptr 290004 a.cp 0] m=some (.same (.bool (q2 a.cs a.ps a.set x))):=by
 have t1:cl 6 m (.ptr 290001 a.cF 0)=some (.ptr (eO a.E a.cs a.ak (a.ps.map av) a.fl)):=SU (F.trans aN.day);have t2:cl 6 m (.ptr 290004 a.cp 0)=some (.ptr [.Y (a.set.map ae)]):=SU (aO.trans aN.st);have t3:cl 6 m (.J (.int .i64 x))=some (.int .i64 x):=rfl;have e8:=aki x a.E a.cs a.ak a.ps a.fl a.set ⟨aN.C9,by have:=aN.Y;omega⟩
 have az:[R.J (.int .i64 x),.ptr 290001 a.cF 0,.ptr 290004 a.cp 0].mapM (cl 6 m)=some [.int .i64 x,.ptr (eO a.E a.cs a.ak (a.ps.map av) a.fl),.ptr [.Y (a.set.map ae)]]:=by
  simp only[ju,wU,t1,t2,t3];rfl
 have bC:[R.J (.int .i64 x),.ptr 290001 a.cF 0,.ptr 290004 a.cp 0].mapM (cl 6 emp)=none:=rfl;rw[MQ];unfold aW;rw[bC,az];show (Ix _).bind pV=_;rw[e8];simp[pV,scalar]
theorem aC6 {T:bl}(nj:T wY=aW AY){a:ti}{mem:Mem}(aN:a.At mem):
  T wY a.args mem=some (.same (.int .i64 (kP (λx=>q2 a.cs a.ps a.set x) a.L))):=by
 have t1:cl 5 mem (.ptr 290001 a.cF 0)=some (.ptr (eO a.E a.cs a.ak (a.ps.map av) a.fl)):=SU aN.day;have t2:cl 5 mem (.ptr 290004 a.cp 0)=some (.ptr [.Y (a.set.map ae)]):=SU aN.st;have t3:cl 6 mem (.ref 290006 a.g 1 0 (D a.L))=some (.Y (a.L.map ae)):=amK aN.row
 have t4:cl 6 mem (.fz tR [.ptr 290001 a.cF 0,.ptr 290004 a.cp 0])=some (r4 (.CY a.E a.cs a.ak a.ps a.fl a.set)):=by
  rw[aqH];simp only[ju,wU,t1,t2];rfl
 have ar:=aN.amJ;have e8:=akk a.L (.CY a.E a.cs a.ak a.ps a.fl a.set) ⟨by omega,by decide,aN.C9,by have:=aN.Y;omega⟩
 have az:a.args.mapM (cl 6 mem)=some [.Y (a.L.map ae),r4 (.CY a.E a.cs a.ak a.ps a.fl a.set)]:=by
  unfold ti.args;simp only[ju,wU,t3,t4];rfl
 have bC:a.args.mapM (cl 6 emp)=none:=rfl;rw[nj];unfold aW;rw[bC,az];show (AY _).bind pV=_;rw[e8];simp only[ir,pV,scalar,if_true]
 rfl
theorem amL {p:Int->Bool}{L:List Int}{j:Nat}{x:Int}(h:L[j]?=some x):(L.take (j+1)).filter p=(L.take j).filter p++if p x=true then [x] else []:=by
 rw[hc,h,pG]
 cases aG:p x<;>simp[aG]
theorem aC7 (n:Nat):(dG n [R.J (.int .i64 0)]).flatten=(dG n (0:Int)).map b9:=by
 induction n with
 |zero=>rfl
 |succ n ay=>rw[pO,List.flatten_cons,ay,pO];rfl
theorem aC8 (T:bl)(nj:T wY=aW AY)(MQ:T tR=aW Ix)(a:ti)(mem:Mem)(aN:a.At mem):
  wp T O9.body (p4 O9.res (Ny a mem)) ⟨lv a.args,mem⟩:=by
 have vZ:=aC6 nj aN;have hy:=λ(m:Mem) (F:m 290001=mem 290001) (aO:m 290004=mem 290004) (x:Int)=>aC5 MQ aN F aO x;have fb:=aN.row;have M9:=aN.amJ;obtain⟨g,cF,cp,L,Z,E,cs,ak,ps,fl,set⟩:=a;clear aN;unfold Ny;simp only[ti.args,stay] at vZ hy fb M9 ⊢;generalize aG:q2 cs ps set=p at *;refine tw ?_;simp only[O9];rcases aL:(kP (λx=>p x) L == -1)
 case true =>
  have aH:L.filter (λx => !p x)=L:=by
   rw[amM];intro x O;have:=LI (λx=>p x) L;rw[eq_of_beq aL] at this;have I:=vX.1 this.symm x O
   simpa using I
  rw[aH];simp only[go_sem,go_sem_proc,vZ,aL];repeat' (first|refine ax ?_ ?_|fail)<;>intro h<;>simp only[h,go_sem,go_sem_proc,vZ,aL]
  exact⟨_,rfl,Z,by omega,rfl,by
   funext k
   by_cases Q:k=290006
   ·subst Q;rw[iN,fb]
   ·rw[du Q]⟩
 obtain⟨i0,sH,aL6,cj,B7⟩:∃i0:Nat,kP (λx=>p x) L=(i0:Int)/\i0<D L/\(∃x,L[i0]?=some x/\p x=true)/\∀x∈L.take i0,p x=false:=by
  unfold kP at aL ⊢
  cases h:L.findIdx? (λx=>p x) with
  |none=>rw[h] at aL;cases aL
  |some i =>
   obtain⟨F,I,af⟩:=List.findIdx?_eq_some_iff_getElem.1 h;refine⟨i,rfl,F,⟨_,bz F,I⟩,λx O=>?_⟩;obtain⟨j,ai⟩:=tL.1 O;rw[vc] at ai
   split at ai
   ·rename_i h5;obtain⟨ik,rfl⟩:=dD.1 ai;have:=af j h5
    simpa using this
   ·cases ai
 rw[sH] at vZ aL;have ez:=e9 (i:=i0) (by omega);simp only[go_sem,go_sem_proc,vZ,aL,ez]
 refine dw [0,1] [] (λ((j,row):Nat×List Int) tm m=>j<=D L/\tm 6=.J (.int .i64 (j:Int))/\tm 5=.J (.int .i64 (((L.take j).filter λx => !p x).length:Int))/\D row=D L+D Z/\row.take ((L.take j).filter λx => !p x).length=(L.take j).filter (λx => !p x)/\row.drop j=(L++Z).drop j/\m=a1 mem 290006 g (row.map b9)) (λ(j,_)=>D L-j) (i0+1,L++Z) (by
  obtain⟨x,O,Jh⟩:=cj
  have e:(L.take (i0+1)).filter (λx => !p x)=L.take i0:=by
   rw[amL O,ah (by rw[Jh];decide),fE,amM];intro y aw;rw[B7 y aw];rfl
  have aD:(L.take i0).length=i0:=by rw[fI];omega
  refine⟨by omega,rfl,?_,by rw[fr],?_,rfl,?_⟩
  ·rw[e,aD];rfl
  ·rw[e,aD,F7,show i0-D L=0 by omega,nu,fE]
  ·funext k
   by_cases Q:k=290006
   ·subst Q;rw[iN];exact fb
   ·rw[du Q]) ?_
 intro vs ms aT aS;simp only[go_sem,go_sem_proc] at aT aS;subst aT aS;rintro⟨j,row⟩ tm m Q-⟨ai,bP,cm,b2,gM,qJ,hm⟩;simp only[go_sem,go_sem_proc,bf] at Q;obtain⟨bC,az⟩:=Q;subst hm;have eL:=λ(x:Int)=>hy (a1 mem 290006 g (row.map b9)) rfl rfl x
 have jQ:((L.take j).filter λx => !p x).length<=j:=by
  have F:=mY (λx => !p x) (L.take j);have I:(L.take j).length<=j:=List.length_take_le _ _;omega
 rcases dF (j<D L) with aA|b7
 ·have d1:decide ((j:Int)<(D L:Int))=true:=dp;obtain⟨x,O⟩:∃x,L[j]?=some x:=⟨_,bz aA⟩
  have aC9:row[j]?=some x:=by
   have F:row[j]?=(row.drop j)[0]?:=by rw[k3];rfl
   rw[F,qJ,k3,Nat.add_zero,qv aA,O]
  have Ji:=amL (p:=λx => !p x) O;have eL:=eL x;have w1:=e9 (i:=j) (by omega);have s1:gu 1 (gL j (row.map b9))=[.J (.int .i64 x)]:=AR (f:=b9) aC9;have di:(j<D L)=True:=eq_true aA;have eK:(j+1<=D L+D Z)=True:=eq_true (by omega);have q7:(row.map b9).length=D L+D Z:=by rw[aj,b2]
  have jB:∀y:List Int,D y=(D row)->(∀k,j+1<=k->y[k]?=row[k]?)->y.drop (j+1)=(L++Z).drop (j+1):=λy zy aw=>by
   apply List.ext_getElem?;intro k;rw[k3,k3,aw _ (by omega)];have F:row[j+1+k]?=(row.drop j)[1+k]?:=by rw[k3];congr 1;omega
   have I:(L++Z)[j+1+k]?=((L++Z).drop j)[1+k]?:=by rw[k3];congr 1;omega
   rw[F,I,qJ]
  rcases Jh:p x
  ·rw[Jh] at eL;rw[ad (by rw[Jh];rfl)] at Ji;have gD:((L.take (j+1)).filter λx => !p x).length=((L.take j).filter λx => !p x).length+1:=by rw[Ji,fr];rfl
   generalize aK:((L.take j).filter λx => !p x).length=n at *;have nm:=e9 (i:=n) (by omega);have j7:(n<D L)=True:=eq_true (by omega);have mc:(n+1<=D L+D Z)=True:=eq_true (by omega)
   have mU:gu n (row.map b9)++[R.J (.int .i64 x)]++gL (n+1) (row.map b9)=(row.set n x).map b9:=by
    rw[List.set_eq_take_append_cons_drop,ad (by omega),jD,eA,Cr,amN,gW];rfl
   generalize NB:row.map b9=Fx at *;simp only[go_sem,go_sem_proc,bC,az,cm,bP,s1,d1,w1,nm,di,eK,j7,mc,q7,mU,eL,dH,cI];repeat' (first|refine ax ?_ ?_|fail)<;>intro h<;>simp only[h,go_sem,go_sem_proc,bC,az,cm,bP,s1,d1,w1,nm,di,eK,j7,mc,q7,mU,eL,dH,cI]
   refine⟨(j+1,row.set n x),by dsimp only;omega,by dsimp only;omega,rfl,?_,?_,?_,?_,?_⟩
   ·rw[gD]
   ·dsimp only;rw[hn,b2]
   ·dsimp only;rw[gD,Ji,hc,List.take_set_of_le (b1 _),gM,List.getElem?_set_self (by omega)];rfl
   ·exact jB _ (hn ..) λk Q=>by rw[List.getElem?_set_ne (by omega)]
   ·rw[abM]
  ·rw[Jh] at eL;rw[ah (by rw[Jh];decide),fE] at Ji;generalize NB:row.map b9=Fx at *;simp only[go_sem,go_sem_proc,bC,az,cm,bP,s1,d1,w1,di,eK,q7,eL,c5,cI];repeat' (first|refine ax ?_ ?_|fail)<;>intro h<;>simp only[h,go_sem,go_sem_proc,bC,az,cm,bP,s1,d1,w1,di,eK,q7,eL,c5,cI]
   exact⟨(j+1,row),by dsimp only;omega,by dsimp only;omega,rfl,by rw[Ji],b2,by rw[Ji];exact gM,jB _ rfl λk Q=>rfl,by rw[NB]⟩
 ·have d1:decide ((j:Int)<(D L:Int))=false:=dn;obtain rfl:j=D L:=by omega
  rw[kN] at cm gM jQ;have hlen:((L.filter λx => !p x).length)<=D L:=jQ;generalize e8:L.filter (λx => !p x)=aP at *;have aI:(D aP<=D L)=True:=eq_true hlen;have c2:(D aP+(D L-D aP)<=D L+D Z)=True:=eq_true (by omega);have c3:(D L<=D L)=True:=eq_true (b1 _);have q7:(row.map b9).length=D L+D Z:=by rw[aj,b2]
  have D9:gu (D aP) (row.map b9)=aP.map b9:=by rw[<-Cr,gM]
  have Aj:gL (D L) (row.map b9)=Z.map b9:=by rw[<-amN,qJ,List.drop_left]
  have pg:gu (D aP) (row.map b9)++(dG (D L-D aP) [R.J (.int .i64 0)]).flatten++gL (D aP+(dG (D L-D aP) [R.J (.int .i64 0)]).flatten.length) (row.map b9)=(aP++(dG (D L-D aP) 0++Z)).map b9:=by
   rw[aC7,aj,CF,show (D aP)+(D L-D aP)=(D L) by omega,Aj,D9,jD,jD,gW]
  generalize row.map b9=Fx at *;simp only[go_sem,go_sem_proc,bC,az,cm,bP,d1,aI,c2,c3,q7,pg,AL,cI,wF,DJ,jv];repeat' (first|refine ax ?_ ?_|fail)<;>intro h<;>simp only[h,go_sem,go_sem_proc,bC,az,cm,bP,d1,aI,c2,c3,q7,pg,AL,cI,wF,DJ,jv]
  exact⟨_,rfl,dG (D L-D aP) 0++Z,by rw[fr,CF];omega,rfl,by rw[abM];rfl⟩
def ht (cs:List au)(ps:List Rat)(s:List Int):Nat->List Int
 |0=>s
 |k+1=>stay cs ps (ht cs ps s k) (ht cs ps s k)
theorem amO (cs:List au)(ps:List Rat)(set L:List Int):(stay cs ps set L).length<=D L:=mY _ _
theorem aDa (cs:List au)(ps:List Rat)(s:List Int)(k:Nat):(ht cs ps s k).length<=D s:=by
 induction k with
 |zero=>exact b1 _
 |succ k ay=>exact eU (amO ..) ay
def abV:=cu Nw λ(E,cs,ak,ps,fl)=>cU (ku E cs ps) (.same (.bool (decide (((ht cs ps (ga cs ps (D E)) (D E)).length:Int)>0))))
@[go_sem] theorem aDb (E:List Int)(cs:List au)(ak:List bg)(ps:List Rat)(fl:List (List Int))(H:ku E cs ps):abV [.agg (eO E cs ak (ps.map av) fl)]=some (.same (.bool (decide (((ht cs ps (ga cs ps (D E)) (D E)).length:Int)>0)))):=(cD abR (E,cs,ak,ps,fl)).trans (cZ H _)
theorem aDc (T:bl)(kd:T DW=aW Nx)(fL:T vt=aW BS)(Jj:T UU=qU NA)(E:List Int)(cs:List au)(ak:List bg)(ps:List Rat)(fl:List (List Int))(H:ku E cs ps):WP T Xl (.same (.bool (decide (((ht cs ps (ga cs ps (D E)) (D E)).length:Int)>0)))) [.J (.agg (eO E cs ak (ps.map av) fl))]:=by
 refine cE ?_;simp only[Xl];have aK:=H.n;have jx:=abS E cs ak ps fl H;have Gd:=Nv cs ps (D E);have eL:=aDa cs ps (ga cs ps (D E));have fb:∀l:List Int,a7 ae l=l.map b9:=λl=>(IV l).symm;generalize cQ:ga cs ps (D E)=xX at *
 have fm:∀(m:Mem) (g cF cp:Nat) (L Z:List Int),m 290006=some (g,(L++Z).map b9)->(D L)+D Z<=60->m 290001=some (cF,[.J (.Y (E.map ae)),.J (.Y (cs.map ck)),.J (.Y (ak.map aE)),.J (.Y ((ps.map av).map aE)),.J (.Y (fl.map fj))])->NA [.ref 290006 g 1 0 (D L),.fz tR [.ptr 290001 cF 0,.ptr 290004 cp 0]] (a1 (a1 m 290004 cp [.nil]) 290004 cp [.J (.Y (L.map ae))])=some (Ny ⟨g,cF,cp,L,Z,E,cs,ak,ps,fl,L⟩ (a1 (a1 m 290004 cp [.nil]) 290004 cp [.J (.Y (L.map ae))])):=λm g cF cp L Z F I af =>
  aC4 ⟨g,cF,cp,L,Z,E,cs,ak,ps,fl,L⟩ _ ⟨F,af,iN,H,by dsimp only;omega,I⟩
 simp only[eO] at jx;generalize amP:ps.map av=ie at *;simp only[go_sem,go_sem_proc,kd,fL,Jj,eO,jx,aj]
 refine dw [1,9] [290001] (λ((k,g,Z):Nat×Nat×List Int) tm m=>k<=D E/\tm 10=.J (.int .i64 k)/\tm 3=.ref 290006 g 1 0 (ht cs ps xX k).length/\m 290006=some (g,(ht cs ps xX k++Z).map b9)/\(ht cs ps xX k).length+D Z<=60) (λ(k,_,_)=>D E-k) (0,0,[]) (by
  refine⟨by omega,rfl,?_,?_,?_⟩
  ·show _=R.ref 290006 0 1 0 (D xX);simp[e7]
  ·show _=some (0,(xX++[]).map b9);rw[fE,IV]
   rfl
  ·show (D xX)+0<=60;omega) ?_
 intro vs ms aT aS;simp only[go_sem,go_sem_proc,kd,fL,Jj,eO,aj] at aT aS;subst aT aS;rintro⟨k,g,Z⟩ tm m Q hm ⟨pT,dx,bZ,amQ,M9⟩;simp only[go_sem,go_sem_proc,kd,fL,Jj,bf] at Q hm;obtain⟨az,ej⟩:=Q;rcases dF (k<D E) with aA|b7
 ·have d1:decide ((k:Int)<(D E:Int))=true:=dp;have b5:=e9 (i:=k) (by omega);have hN:ht cs ps xX (k+1)=stay cs ps (ht cs ps xX k) (ht cs ps xX k):=rfl;generalize ht cs ps xX k=S at *;have bD:cl 6 m (.ref 290006 g 1 0 (D S))=some (.Y (S.map ae)):=amK amQ;have aDd:cl 6 emp (.ref 290006 g 1 0 (D S))=none:=rfl;have g7:=ae1 S (by omega)
  have MY:((S.map ae).all λe=>e.all scalar)=true:=by
   rw[jh];intro x O;obtain⟨y,-,rfl⟩:=dT.1 O;simp[ae,scalar]
  have aL:=fm m g 0 (gB (m 290004)) S Z amQ M9 hm;simp only[go_sem,go_sem_proc,kd,fL,Jj,az,bZ,ej,dx,hm,d1,bD,aDd,g7,aL,pV,MY,iz,ir];rintro r m' ⟨Nz,aV,ab,n4⟩;dsimp only at aV ab n4;rw[<-hN] at aV ab n4;subst ab n4;refine aZ ?_;repeat' (intro h<;>simp only[h,go_sem,go_sem_proc,kd,fL,Jj,az,ej,dx,hm,b5]<;>try refine ax ?_ ?_)
  exact⟨(k+1,g,Nz),by dsimp only;omega,by dsimp only;omega,rfl,rfl,rfl,by dsimp only;omega⟩
 ·have d1:decide ((k:Int)<(D E:Int))=false:=dn;obtain rfl:k=D E:=by omega
  generalize ht cs ps xX (D E)=S at *;refine aZ ?_;repeat' (intro h<;>simp only[h,go_sem,go_sem_proc,kd,fL,Jj,az,bZ,ej,dx,hm,d1]<;>try refine ax ?_ ?_)
def zl (l:List au)(k:Nat):Bool:=l.any λc=>(c.2.2.1==(k:Int))&&decide (c.2.2.2>0)
def SV (l:List au)(k:Nat):Nat:=((dW k).filter (zl l)).length
theorem aDe {E:List Int}{cs:List au}(U:fo E cs)(i k:Nat):SV (cB cs i) k=(aB E cs).xJ i k:=by
 unfold SV Day.xJ
 congr 2
 funext r
 have h:=ajv U.ok i r;have ab:=(hD.1 U.right).2.2.2;rw[Bool.eq_iff_iff,decide_eq_true_eq,h];unfold zl;rw[List.any_eq_true]
 constructor
 ·rintro⟨c,H,F⟩;simp only[eM,beq_iff_eq,decide_eq_true_eq] at F;obtain⟨I,af⟩:=nL.1 H;refine⟨cJ c,ta I,by show c.1.toNat=i;omega,by show c.2.2.1.toNat=r;omega,?_⟩
  show (0:Rat)<((c.2.2.2:Int):Rat);exact_mod_cast F.2
 ·rintro⟨b,ag,F,I,af⟩;obtain⟨c,H,rfl⟩:=dT.1 ag;have aO:=ab c H;have yo:c.1.toNat=i:=F;have sy:c.2.2.1.toNat=r:=I;refine⟨c,nL.2 ⟨H,by omega⟩,?_⟩
  have aDf:(0:Rat)<((c.2.2.2:Int):Rat):=af;have br:0<c.2.2.2:=by exact_mod_cast aDf
  simp only[eM,beq_iff_eq,decide_eq_true_eq];omega


theorem aDg {n:Int}(h:dC n):Eu [.int .i64 n,.int .i64 1]=some (.same (.cM [.agg (aE (av (n:Rat))),.int .i64 0])):=by
 have:=agb n 1 ⟨h,Rz⟩;rw[Rr h] at this;exact this
abbrev abW:List Int->List Data:=λ(l:List Int)=>[.Y (l.map ae),.fn ny []]
def abX:=cu abW λ(l:List Int)=>cU (D l<=1000000) (.same (.bool (l.all gk)))
theorem aDh:∀a b,abW a=abW b->a=b:=by
  intro eh aq h;simp only[bf,Data.Y.injEq,and_true] at h;exact map_inj fh _ _ h
@[go_sem] theorem aDi (l:List Int)(H:(D l)<=1000000):abX [.Y (l.map ae),.fn ny []]=some (.same (.bool (l.all gk))):=(cD aDh l).trans (cZ H _)
theorem aDj (T:bl)(RS:T KR=aW RP)(l:List Int)(H:(D l)<=1000000):WP T Xq (.same (.bool (l.all gk))) [.J (.Y (l.map ae)),.J (.fn ny [])]:=by
 refine cE ?_;simp only[Xq];have h:=akl l .r3 ⟨H,by show BQ<900000;decide⟩
 have e:l.any (qj .r3) = !l.all gk:=MU l gk;rw[e] at h;simp only[r4] at h;simp only[go_sem,go_sem_proc,RS,h,cl,nY,iz,scalar,Jk];repeat' (first|refine ax ?_ ?_|fail)<;>intro h<;>simp only[h,go_sem,go_sem_proc,RS,h,cl,nY,iz,scalar,Jk]
abbrev abY:(List au)×Int->List Data:=λ(l,n)=>[.Y (l.map ck),.fn yw [.ptr [.int .i64 n],.ptr [.fn ny []]]]
def abZ:=cu abY λ(l,n)=>cU (D l<=1000000/\0<=n/\n<=1000000) (.same (.bool (l.all (hK n))))
theorem aDk:∀a b,abY a=abY b->a=b:=by
  rintro⟨eh,iR⟩ ⟨aq,jR⟩ h;simp only[bf,Data.Y.injEq,Data.fn.injEq,Data.ptr.injEq,Data.int.injEq,and_true,true_and] at h;exact dR (map_inj r0 _ _ h.1) h.2
@[go_sem] theorem aDl (l:List au)(n:Int)(H:(D l)<=1000000/\0<=n/\n<=1000000):abZ [.Y (l.map ck),.fn yw [.ptr [.int .i64 n],.ptr [.fn ny []]]]=some (.same (.bool (l.all (hK n)))):=(cD aDk (l,n)).trans (cZ H _)
theorem aDm (T:bl)(ID:T DU=aW MT)(l:List au)(n:Int)(H:(D l)<=1000000/\0<=n/\n<=1000000):WP T Xr (.same (.bool (l.all (hK n)))) [.J (.Y (l.map ck)),.J (.fn yw [.ptr [.int .i64 n],.ptr [.fn ny []]])]:=by
 refine cE ?_;simp only[Xr];have h:=aaQ l (.r3 n) ⟨H.1,by decide,H.2⟩
 have e:l.any (td (.r3 n)) = !l.all (hK n):=MU l _;rw[e] at h;simp only[wq] at h;simp only[go_sem,go_sem_proc,ID,h,cl,nY,iz,scalar,Jk];repeat' (first|refine ax ?_ ?_|fail)<;>intro h<;>simp only[h,go_sem,go_sem_proc,ID,h,cl,nY,iz,scalar,Jk]
def u1 (f:bg):Bool:=ek f&&decide (f.1.1>=0)
abbrev ab0:List bg->List Data:=λ(l:List bg)=>[.Y (l.map aE),.fn w0 []]
def ab1:=cu ab0 λ(l:List bg)=>cU (fN l) (.same (.bool (l.all u1)))
theorem aDn:∀a b,ab0 a=ab0 b->a=b:=by
  intro eh aq h;simp only[bf,Data.Y.injEq,and_true] at h;exact map_inj nd _ _ h
@[go_sem] theorem amR (l:List bg)(H:fN l):ab1 [.Y (l.map aE),.fn w0 []]=some (.same (.bool (l.all u1))):=(cD aDn l).trans (cZ H _)
theorem aDo (T:bl)(Hq:T KF=aW LK)(l:List bg)(H:fN l):WP T Xs (.same (.bool (l.all u1))) [.J (.Y (l.map aE)),.J (.fn w0 [])]:=by
 refine cE ?_;simp only[Xs];have h:=agv l vy ⟨H,.inr (.inr ⟨rfl,by decide⟩)⟩;have e:l.any (p2 vy) = !l.all u1:=by rw[agt];exact MU l u1
 have W3:Ho vy=[.ptr [.fn w0 []]]:=ad rfl;rw[e,W3] at h;simp only[go_sem,go_sem_proc,Hq,h,cl,nY,iz,scalar,Jk];repeat' (first|refine ax ?_ ?_|fail)<;>intro h<;>simp only[h,go_sem,go_sem_proc,Hq,h,cl,nY,iz,scalar,Jk]
def m1 (E:List Int)(cs:List au)(ak bI:List bg):Bool:=!(decide ((D E:Int)>60)||(decide ((D cs:Int)>2000)||(!((D ak:Int)==(D E:Int)) || !((D bI:Int)==(D cs:Int)))))&&(E.all gk&&(cs.all (hK (D E))&&(ak.all u1&&bI.all u1)))
abbrev ab2:(List Int)×(List au)×(List bg)×(List bg)×(List (List Int))->List Data:=λ(E,cs,ak,bI,fl)=>[.agg (eO E cs ak bI fl)]
def SW:=cu ab2 λ(E,cs,ak,bI,fl)=>cU (D E<=1000000/\D cs<=1000000/\fN ak/\fN bI) (.same (.bool (m1 E cs ak bI)))
theorem aDp:∀a b,ab2 a=ab2 b->a=b:=by
  rintro⟨uO,uP,ki,amD,za⟩ ⟨uQ,n3,oJ,amE,zb⟩ h;simp only[bf,Data.agg.injEq,and_true] at h;obtain⟨rfl,rfl,rfl,rfl,rfl⟩:=AV h;rfl
@[go_sem] theorem amS (E:List Int)(cs:List au)(ak:List bg)(bI:List bg)(fl:List (List Int))(H:(D E)<=1000000/\D cs<=1000000/\fN ak/\fN bI):SW [.agg (eO E cs ak bI fl)]=some (.same (.bool (m1 E cs ak bI))):=(cD aDp (E,cs,ak,bI,fl)).trans (cZ H _)
theorem aDq (T:bl)(Da:T UO=aW abX)(Db:T UP=aW abZ)(Dc:T O5=aW ab1)(E:List Int)(cs:List au)(ak:List bg)(bI:List bg)(fl:List (List Int))(H:(D E)<=1000000/\D cs<=1000000/\fN ak/\fN bI):WP T Xi (.same (.bool (m1 E cs ak bI))) [.J (.agg (eO E cs ak bI fl))]:=by
 refine cE ?_;simp only[Xi];obtain⟨F,I,af,aO⟩:=H;have c0:=aDi E F;have dj:=aDl cs (D E) ⟨I,by omega,by omega⟩
 have a3:=amR ak af;have a4:=amR bI aO;unfold m1;generalize ak.all u1=A3 at *;generalize bI.all u1=A4 at *;generalize E.all gk=Zv at *;generalize cs.all (hK (D E))=H7 at *;rcases aI:decide ((D E:Int)>60)
 case true =>
        refine aZ ?_;repeat' (intro h<;>simp only[h,go_sem,go_sem_proc,Da,Db,Dc,eO,aI,aj,sA,c5,fu]<;>try refine ax ?_ ?_)
 rcases c2:decide ((D cs:Int)>2000)
 case true =>
        refine aZ ?_;repeat' (intro h<;>simp only[h,go_sem,go_sem_proc,Da,Db,Dc,eO,aI,c2,aj,sA,pW,c5,fu]<;>try refine ax ?_ ?_)
 rcases c3:((D ak:Int)==(D E:Int))
 case false =>
        refine aZ ?_;repeat' (intro h<;>simp only[h,go_sem,go_sem_proc,Da,Db,Dc,eO,aI,c2,c3,aj,bne,sA,pW,c5,dH,fu]<;>try refine ax ?_ ?_)
 rcases c4:((D bI:Int)==(D cs:Int))
 case false =>
        refine aZ ?_;repeat' (intro h<;>simp only[h,go_sem,go_sem_proc,Da,Db,Dc,eO,aI,c2,c3,c4,aj,bne,sA,Bool.or_true,pW,c5,dH,fu]<;>try refine ax ?_ ?_)
 cases Zv
 ·refine aZ ?_;repeat' (intro h<;>simp only[h,go_sem,go_sem_proc,Da,Db,Dc,eO,aI,c2,c3,c4,c0,aj,bne,cl,nY,iz,scalar,lW,c5,dH,fu,hP]<;>try refine ax ?_ ?_)
 cases H7
 ·refine aZ ?_;repeat' (intro h<;>simp only[h,go_sem,go_sem_proc,Da,Db,Dc,eO,aI,c2,c3,c4,c0,dj,aj,bne,cl,nY,iz,scalar,lW,c5,dH,g3,fu,hP]<;>try refine ax ?_ ?_)
 cases A3
 ·refine aZ ?_;repeat' (intro h<;>simp only[h,go_sem,go_sem_proc,Da,Db,Dc,eO,aI,c2,c3,c4,c0,dj,a3,aj,bne,cl,nY,iz,scalar,lW,c5,dH,g3,fu,hP]<;>try refine ax ?_ ?_)
 ·refine aZ ?_;repeat' (intro h<;>simp only[h,go_sem,go_sem_proc,Da,Db,Dc,eO,aI,c2,c3,c4,c0,dj,a3,a4,aj,bne,cl,nY,iz,scalar,lW,c5,dH,g3,fu,hP]<;>try refine ax ?_ ?_)
def zm (i:Int)(acc:Option Rat)(ab3:au×Rat):Option Rat:=if ab3.1.2.1=i then acc.bind λs=>if mR s ab3.2=true then some (s+ab3.2) else none else acc
def sd (z:Int)(i:Int)(l:List (au×Rat)):Option Rat:=l.foldl (zm i) (some (z:Rat))
theorem aDr {z i:Int}{l:List (au×Rat)}{k:Nat}{c:au×Rat}(h:l[k]?=some c):sd z i (l.take (k+1))=zm i (sd z i (l.take k)) c:=by
 unfold sd;rw[hc,h,abo];rfl
theorem aDs (i:Int)(l:List (au×Rat)):l.foldl (zm i) none=none:=by
 induction l with
 |nil=>rfl
 |cons c l ay =>
  have:zm i none c=none:=by unfold zm;split<;>rfl
  rw[Ga,this,ay]
theorem aDt {z i:Int}{l:List (au×Rat)}{k:Nat}(h:sd z i (l.take k)=none):sd z i l=none:=by
 have:l=l.take k++l.drop k:=(List.take_append_drop k l).symm;rw[this];unfold sd at *;rw[abo,h,aDs]
theorem aDu {z i:Int}(aV:dC z)(l:List (au×Rat)):∀x,sd z i l=some x->dv x:=by
 unfold sd
 have:∀(l:List (au×Rat)) (a:Option Rat),(∀x,a=some x->dv x)->∀x,l.foldl (zm i) a=some x->dv x:=by
  intro l
  induction l with
  |nil=>intro a h;exact h
  |cons c l ay =>
   intro a h;refine ay _ λx O=>?_;unfold zm at O
   split at O
   ·cases a with
    |none=>cases O
    |some s =>
     rw[ir] at O
     split at O
     ·rename_i Q;rw[<-nt O];exact al3 Q
     ·cases O
   ·exact h x O
 exact this l _ λx O=>by rw[<-nt O];exact uM aV
def mm (E:List Int)(cs:List au)(aL ps:List Rat)(i:Nat):Int:=match sd (E.getD i 0) i (cs.zip ps) with
 |none=>6
 |some x=>if x=aL.getD i 0/\fT cs ps i=(cB cs i).map (λc=>e1 (cB cs i) x c) then 0 else 24
structure Jl (E:List Int) (cs:List au) (aL ps:List Rat) (i:Nat):Prop where
 C9:ku E cs ps
 M:i<D E
 ar:(D aL)=D E
 kQ:∀x∈aL,dv x
 aL7:dC (E.getD i 0)
 split:∀x,sd (E.getD i 0) i (cs.zip ps)=some x->x=aL.getD i 0->Ir (cB cs i) x
theorem kt.abC {l:List au}(h:kt l){x:Rat}(O:dU 460 x){c:au}(H:c∈l):dv (e1 l x c):=Mini.abC (λc H=>by have:=h.c c H;omega) h.len O H
abbrev ab4:(List Int)×(List au)×(List Rat)×(List Rat)×(List (List Int))×Nat->List Data:=λ(E,cs,aL,ps,fl,i)=>[.agg (eO E cs (aL.map av) (ps.map av) fl),.int .i64 (i:Int)]
def ab5:=cu ab4 λ(E,cs,aL,ps,fl,i)=>cU (Jl E cs aL ps i) (.same (.int .i64 (mm E cs aL ps i)))
theorem aDv:∀a b,ab4 a=ab4 b->a=b:=by
  rintro⟨uO,uP,qL,Iy,za,i1⟩ ⟨uQ,n3,B5,Iz,zb,i2⟩ h;simp only[bf,Data.agg.injEq,Data.int.injEq,and_true,true_and] at h;obtain⟨h,j5⟩:=h;obtain⟨rfl,rfl,cp,hb,rfl⟩:=AV h;rw[map_inj (λ_ _ aR=>ui aR) _ _ hb,map_inj (λ_ _ aR=>ui aR) _ _ cp,Int.ofNat.inj j5]
@[go_sem] theorem aDw (E:List Int)(cs:List au)(aL:List Rat)(ps:List Rat)(fl:List (List Int))(i:Nat)(H:Jl E cs aL ps i):ab5 [.agg (eO E cs (aL.map av) (ps.map av) fl),.int .i64 (i:Int)]=some (.same (.int .i64 (mm E cs aL ps i))):=(cD aDv (E,cs,aL,ps,fl,i)).trans (cZ H _)
theorem aDx (T:bl)(me:T zU=aW Eu)(fM:T tO=aW yN)(eP:T oU=aW uk)(qm:T KV=aW SM)(kz:T KS=aW Sq)(se:T UQ=aW abv)(E:List Int)(cs:List au)(aL:List Rat)(ps:List Rat)(fl:List (List Int))(i:Nat)(H:Jl E cs aL ps i):WP T Xj (.same (.int .i64 (mm E cs aL ps i))) [.J (.agg (eO E cs (aL.map av) (ps.map av) fl)),.J (.int .i64 (i:Int))]:=by
 refine cE ?_;simp only[Xj];obtain⟨qh,M,ar,kQ,ab6,iT⟩:=H;have hlen:=qh.len;have aDy:=qh.l;obtain⟨z,aV⟩:∃z,E[i]?=some z:=⟨_,bz M⟩;have Pq:E.getD i 0=z:=by rw[ep,aV];rfl
 rw[Pq] at ab6 iT;unfold mm;rw[Pq];have ao:=aDg ab6;have wN:=aDu (i:=(i:Int)) ab6;have aDz:∀k c p,cs[k]?=some c->ps[k]?=some p->(cs.zip ps)[k]?=some (c,p):=λk c p F I=>List.getElem?_zip_eq_some.2 ⟨F,I⟩;have aL8:(cs.zip ps).length=D cs:=by rw[List.length_zip];omega
 have Jm:=amF E cs (aL.map av) (ps.map av) fl i ⟨by rw[aj];exact hlen,aDy⟩
 rw[aat] at Jm;simp only[eO] at Jm;have aDA:∃x,aL[i]?=some x:=⟨_,bz (by omega)⟩;obtain⟨O,ab7⟩:=aDA;have aDB:aL.getD i 0=O:=by rw[ep,ab7];rfl
 have aDC:=kQ O (ei ab7);have b7:(aL.map av)[i]?=some (av O):=by rw[bn,ab7];rfl
 have aDD:∀k,(ps.map av)[k]?=(ps[k]?).map av:=λk=>bn;have hU:i<(aL.map av).length:=by rw[aj];omega
 have aL9:(ps.map av).length=D cs:=by rw[aj];exact hlen
 rw[aDB] at iT ⊢;generalize aMa:aL.map av=HQ at *;generalize aMb:ps.map av=Jn at *;have aDE:∃e,e=av ((z:Int):Rat):=⟨_,rfl⟩;obtain⟨e,he⟩:=aDE;rw[<-he] at ao;obtain⟨⟨j0,lf⟩,⟨z3,z4⟩⟩:=e;simp only[aE] at ao;simp only[go_sem,go_sem_proc,me,fM,eP,qm,kz,se,eO,aV,M,ao,ae,h0,jy,jv,aj,bn]
 refine dw [1,2,5,25,26] [288002] (λ((k,x,f):Nat×Rat×bg) tm m=>k<=D cs/\tm 27=.J (.int .i64 k)/\sd z i ((cs.zip ps).take k)=some x/\f=av x/\m 288005=some (0,(aE f).map .J)) (λ(k,_,_)=>D cs-k) (0,((z:Int):Rat),((j0,lf),(z3,z4))) (by
  refine⟨by omega,rfl,rfl,he,rfl⟩) ?_
 intro vs ms aT aS;simp only[go_sem,go_sem_proc,me,fM,eP,qm,kz,se,eO,aj] at aT aS;subst aT aS;rintro⟨k,x,⟨⟨a2,bS⟩,⟨cP,dJ⟩⟩⟩ tm m Q hm ⟨pT,ic,px,tD,u2⟩;simp only[go_sem,go_sem_proc,me,fM,eP,qm,kz,se,bf] at Q hm;obtain⟨az,aD,cm,hi,ib⟩:=Q;have tq:=wN ((cs.zip ps).take k) x px;simp only[aE,eA,cY] at u2;rcases dF (k<D cs) with aA|aMc
 ·have d1:decide ((k:Int)<(D cs:Int))=true:=dp;have b5:=e9 (i:=k) (by omega);obtain⟨⟨aI,c2,c3,c4⟩,H⟩:∃c,cs[k]?=some c:=⟨_,bz aA⟩;obtain⟨p,aG⟩:∃p,ps[k]?=some p:=⟨_,bz (by omega)⟩;have pj:=qh.lim p (ei aG);have dE:=aDr (z:=z) (i:=(i:Int)) (aDz k _ p H aG);rw[px] at dE;have sY:Jn[k]?=some (av p):=by rw[aDD,aG];rfl
  have l7:k<D Jn:=by omega
  have iI:=aBL tq pj;rw[<-tD] at iI;obtain⟨e,A1⟩:∃e,e=av p:=⟨_,rfl⟩;rw[<-A1] at iI sY;obtain⟨⟨km,kI⟩,⟨uw,xA⟩⟩:=e;simp only[aE] at iI;rcases gF:(c2==(i:Int))
  ·have bE:¬ c2=(i:Int):=ne_of_beq_false gF;unfold zm at dE;rw[ah bE] at dE;simp only[go_sem,go_sem_proc,me,fM,eP,qm,kz,se,az,aD,cm,hi,ib,ic,hm,u2,H,d1,b5,gF,ck,aj,bn,bne,dH];repeat' (first|refine ax ?_ ?_|fail)<;>intro h<;>simp only[h,go_sem,go_sem_proc,me,fM,eP,qm,kz,se,az,aD,cm,hi,ib,ic,hm,u2,H,d1,b5,gF,ck,aj,bn,bne,dH]
   exact⟨(k+1,x,((a2,bS),(cP,dJ))),by dsimp only;omega,by dsimp only;omega,rfl,dE,tD,rfl⟩
  ·have heq:c2=(i:Int):=eq_of_beq gF;unfold zm at dE;rw[ad heq,ir] at dE;rcases gz:mR x p
   ·rw[gz] at iI dE;rw[ah (by decide)] at dE;have gC:=aDt dE;rw[gC];have ab8:Ao false (x+p)=(fv,6):=rfl;simp only[ab8,fv] at iI;have bR:((6:Int)==0)=false:=rfl;simp only[go_sem,go_sem_proc,me,fM,eP,qm,kz,se,az,aD,cm,hi,ib,ic,hm,u2,H,sY,l7,iI,bR,d1,b5,gF,ck,aE,aj,bn,bne,c5,dH];repeat' (first|refine ax ?_ ?_|fail)<;>intro h<;>simp only[h,go_sem,go_sem_proc,me,fM,eP,qm,kz,se,az,aD,cm,hi,ib,ic,hm,u2,H,sY,l7,iI,bR,d1,b5,gF,ck,aE,aj,bn,bne,c5,dH]
   ·rw[gz] at iI dE;rw[ad rfl] at dE;have ab8:Ao true (x+p)=(av (x+p),0):=rfl;simp only[ab8] at iI;obtain⟨e,Ch⟩:∃e,e=av (x+p):=⟨_,rfl⟩;rw[<-Ch] at iI;obtain⟨⟨s1,s2⟩,⟨da,dd⟩⟩:=e;simp only at iI;simp only[go_sem,go_sem_proc,me,fM,eP,qm,kz,se,az,aD,cm,hi,ib,ic,hm,u2,H,sY,l7,iI,d1,b5,gF,ck,aE,aj,bn,bne,beq_self_eq_true,c5];repeat' (first|refine ax ?_ ?_|fail)<;>intro h<;>simp only[h,go_sem,go_sem_proc,me,fM,eP,qm,kz,se,az,aD,cm,hi,ib,ic,hm,u2,H,sY,l7,iI,d1,b5,gF,ck,aE,aj,bn,bne,beq_self_eq_true,c5]
    exact⟨(k+1,x+p,((s1,s2),(da,dd))),by dsimp only;omega,by dsimp only;omega,rfl,dE,Ch,rfl⟩
 ·have d1:decide ((k:Int)<(D cs:Int))=false:=dn;rw[dB (by omega)] at px;rw[px];have iH:=Ip tq aDC;rw[<-tD] at iH;obtain⟨e,aDF⟩:∃e,e=av O:=⟨_,rfl⟩;rw[<-aDF] at iH b7;obtain⟨⟨F,I⟩,⟨af,aO⟩⟩:=e;simp only[aE] at iH;dsimp only;rcases eV:(mS x O==0)
  ·have bE:¬ x=O:=λh=>by rw[agi.2 h] at eV;cases eV
   rw[ah (λh=>bE h.1)];simp only[go_sem,go_sem_proc,me,fM,eP,qm,kz,se,az,aD,cm,hi,ib,ic,hm,u2,b7,hU,iH,d1,eV,aE,aj,bn,bne,dH];repeat' (first|refine ax ?_ ?_|fail)<;>intro h<;>simp only[h,go_sem,go_sem_proc,me,fM,eP,qm,kz,se,az,aD,cm,hi,ib,ic,hm,u2,b7,hU,iH,d1,eV,aE,aj,bn,bne,dH]
  ·have heq:x=O:=agi.1 (eq_of_beq eV);have yW:=iT x px heq;have zz:=alD x (cB cs i) yW;rw[<-tD] at zz;have fW:(cB cs (i:Int)).map (λc=>av (e1 (cB cs i) x c))=((cB cs (i:Int)).map λc=>e1 (cB cs i) x c).map av:=by rw[m6];rfl
   rw[fW] at zz;have ye:=yW.own.len;have iU:∀y∈fT cs ps (i:Int),dv y:=λy aw=>qh.lim y (RH aw)
   have kK:∀y∈(cB cs (i:Int)).map (λc=>e1 (cB cs i) x c),dv y:=λy aw=>by
    obtain⟨c,H,rfl⟩:=dT.1 aw;exact yW.own.abC yW.sz H
   have e2:=aau cs ps (i:Int) hlen;have xI:=aBZ ((fT cs ps (i:Int)).map av) (((cB cs (i:Int)).map λc=>e1 (cB cs i) x c).map av) ⟨⟨by rw[aj];omega,λf aH=>by obtain⟨y,aw,rfl⟩:=dT.1 aH;exact lH (iU y aw)⟩,⟨by rw[aj,aj];omega,λf aH=>by obtain⟨y,aw,rfl⟩:=dT.1 aH;exact lH (kK y aw)⟩⟩
   have amT:=amf _ _ iU kK;generalize (fT cs ps (i:Int)).map av=aDG at *;generalize (((cB cs (i:Int)).map λc=>e1 (cB cs i) x c).map av)=aDH at *;simp only[aE] at zz;rcases qd:kA aDG aDH
   ·rw[qd] at xI;rw[ah (λh=>by rw[amT.2 h.2] at qd;cases qd)];simp only[go_sem,go_sem_proc,me,fM,eP,qm,kz,se,az,aD,cm,hi,ib,ic,hm,u2,b7,hU,iH,Jm,zz,xI,d1,eV,aE,aj,bn,bne,beq_self_eq_true,c5,dH];repeat' (first|refine ax ?_ ?_|fail)<;>intro h<;>simp only[h,go_sem,go_sem_proc,me,fM,eP,qm,kz,se,az,aD,cm,hi,ib,ic,hm,u2,b7,hU,iH,Jm,zz,xI,d1,eV,aE,aj,bn,bne,beq_self_eq_true,c5,dH]
   ·rw[qd] at xI;rw[ad ⟨heq,amT.1 qd⟩];simp only[go_sem,go_sem_proc,me,fM,eP,qm,kz,se,az,aD,cm,hi,ib,ic,hm,u2,b7,hU,iH,Jm,zz,xI,d1,eV,aE,aj,bn,bne,beq_self_eq_true,c5,dH];repeat' (first|refine ax ?_ ?_|fail)<;>intro h<;>simp only[h,go_sem,go_sem_proc,me,fM,eP,qm,kz,se,az,aD,cm,hi,ib,ic,hm,u2,b7,hU,iH,Jm,zz,xI,d1,eV,aE,aj,bn,bne,beq_self_eq_true,c5,dH]
theorem amU:∀{a b:List Int},a.Pairwise (·<·)->b.Pairwise (·<·)->(∀x,x∈a↔x∈b)->a=b
 | [],[],_,_,_=>rfl
 | [],y::b,_,_,h=>by have:=(h y).2 (by simp);cases this
 |x::a,[],_,_,h=>by have:=(h x).1 (by simp);cases this
 |x::a,y::b,aN,ag,h=>by
  have R8:=Fv.1 aN;have h2:=Fv.1 ag
  have oN:x=y:=by
   have F:=(h x).1 (by simp);have I:=(h y).2 (by simp);rcases hH.1 F with F|F
   ·exact F
   ·rcases hH.1 I with I|I
    ·exact I.symm
    ·have:=R8.1 y I;have:=h2.1 x F;omega
  subst oN;rw[amU R8.2 h2.2 λz=>?_]
  constructor
  ·intro aV;have:=(h z).1 (gZ _ aV);rcases hH.1 this with F|F
   ·have:=R8.1 z aV;omega
   ·exact F
  ·intro aV;have:=(h z).2 (gZ _ aV);rcases hH.1 this with F|F
   ·have:=h2.1 z aV;omega
   ·exact F
theorem aDI (cs:List au)(ps:List Rat)(n:Nat):(ga cs ps n).Pairwise (·<·)/\∀x,x∈ga cs ps n->∃i:Nat,x=(i:Int)/\i<n:=by
 induction n with
 |zero=>exact⟨List.Pairwise.nil,λx h=>by cases h⟩
 |succ n ay =>
  obtain⟨F,I⟩:=ay;rw[amG]
  by_cases aL:qi cs ps (n:Int)<10
  ·rw[ad aL];refine⟨abL.2 ⟨F,List.pairwise_singleton _ _,λa aN b ag=>?_⟩,λx O=>?_⟩
   ·obtain⟨i,rfl,M⟩:=I a aN;rw[ub.1 ag];omega
   ·rcases jk.1 O with O|O
    ·obtain⟨i,e,M⟩:=I x O;exact⟨i,e,by omega⟩
    ·exact⟨n,ub.1 O,by omega⟩
  ·rw[ah aL,fE];exact⟨F,λx O=>by obtain⟨i,e,M⟩:=I x O;exact⟨i,e,by omega⟩⟩
structure amV (E:List Int) (cs:List au) (ps:List Rat) (fl:List (List Int)):Prop where
 C9:ku E cs ps
 len:(D fl)<=1000
 ne:∀r∈fl,r≠[]/\r.Pairwise (·<·)
 names:(D fl.flatten)<=12
 mem:∀x,x∈fl.flatten↔x∈ga cs ps (D E)
theorem aDJ {α:Type}(l:List α)(p q:α->Bool):(l.filter λx=>p x||q x).length<=(l.filter p).length+(l.filter q).length:=by
 induction l with
 |nil=>simp
 |cons a l ay =>
  simp only[List.filter_cons]
  cases p a<;>cases q a<;>simp<;>omega
theorem aDK (n:Nat)(z:Int)(b:Bool):((dW n).filter λk:Nat=>(z==(k:Int))&&b).length<=1:=by
 induction n with
 |zero=>simp
 |succ n ay =>
  rw[ow,pG,fr]
  by_cases h:((z==(n:Int))&&b)=true
  ·have ao:(dW n).filter (λk:Nat=>(z==(k:Int))&&b)=[]:=by
    rw[Ik];intro k Q I;simp only[eM,beq_iff_eq] at h I;have:=gX.1 Q;omega
   have af:=mY (λk:Nat=>(z==(k:Int))&&b) [n];rw[ao]
   simpa using af
  ·have af:[n].filter (λk:Nat=>(z==(k:Int))&&b)=[]:=by
    rw[Ik];intro k Q;rw[ub.1 Q];exact h
   rw[af]
   simpa using ay
theorem aDL (l:List au):SV l 10<=D l:=by
 unfold SV
 induction l with
 |nil =>
  have:(dW 10).filter (zl [])=[]:=by rw[Ik];intro k _;simp[zl]
  rw[this];exact b1 _
 |cons c l ay =>
  have e:(λk=>zl (c::l) k)=λk:Nat=>((c.2.2.1==(k:Int))&&decide (c.2.2.2>0))||zl l k:=by
   funext k
   unfold zl;rw[List.any_cons]
  have F:=aDJ (dW 10) (λk:Nat=>(c.2.2.1==(k:Int))&&decide (c.2.2.2>0)) (zl l);have I:=aDK 10 c.2.2.1 (decide (c.2.2.2>0));have aD:(dW 10).filter (zl (c::l))=(dW 10).filter λk:Nat=>((c.2.2.1==(k:Int))&&decide (c.2.2.2>0))||zl l k:=by rw[<-e]
  rw[aD,h0];omega
theorem aDM (cs:List au)(n:Nat):fi n (λi=>(cB cs i).length)<=D cs:=by
 induction cs with
 |nil=>exact Nat.le_of_eq (Rk λi _=>rfl)
 |cons c cs ay =>
  have e:fi n (λi=>(cB (c::cs) i).length)=fi n (λi=>if c.1=(i:Int) then 1 else 0)+fi n λi=>(cB cs i).length:=by
   rw[<-Rj];refine Mq λi _=>?_;unfold cB
   by_cases h:c.1=(i:Int)
   ·rw[uL (by simpa using h),ad h,h0];omega
   ·rw[wi (by simpa using h),ah h];omega
  have F:fi n (λi=>if c.1=(i:Int) then 1 else 0)<=1:=Rl λi j M ai=>by omega
  rw[e,h0];omega
theorem aDN {n:Nat}{l:List Nat}(h:∀x∈l,x<n):(D l)<=fi n λi=>l.count i:=by
 induction l with
 |nil=>exact fk _
 |cons a l ay =>
  have ay:=ay λx O=>h x (gZ _ O);have aN:=h a gq
  have e:fi n (λi=>(a::l).count i)=fi n (λi=>l.count i)+fi n λi=>if i=a then 1 else 0:=by
   rw[<-Rj];refine Mq λi _=>?_;rw[List.count_cons]
   by_cases M:i=a
   ·subst M;rw[ad rfl,ad (by simp)]
   ·rw[ah M,ah (by simpa using λh=>M h.symm)]
  have F:1<=fi n λi=>if i=a then 1 else 0:=by
   have:=ah3 (N:=n) (λi=>if i=a then 1 else 0) aN;rw[ad rfl] at this;omega
  rw[e,h0];omega
def ke (E:List Int)(cs:List au):List (List Int):=(aB E cs).iY.map λr=>r.map λi:Nat=>(i:Int)
theorem amW (E:List Int)(cs:List au):(ke E cs).flatten=(aB E cs).iY.flatten.map λi:Nat=>(i:Int):=by
 unfold ke;rw[List.map_flatten]
def fU (E:List Int)(cs:List au):List Rat:=cs.map λc=>e1 cs ((aB E cs).cL c.1.toNat) c
theorem NC (E:List Int)(cs:List au):(fU E cs).map av=oE E cs:=by
 unfold fU oE;rw[m6];rfl
theorem ab9 {E:List Int}{cs:List au}{i:Nat}:fT cs (fU E cs) i=uZ E cs i:=by
 unfold fU uZ;rw[ayA];refine mI λc H=>?_;rw[(nL.1 H).2,l1]
theorem Fy {E:List Int}{cs:List au}(U:fo E cs):ku E cs (fU E cs):=by
 have br:=U.n5;have iV:=U.rZ;refine⟨by unfold fU;rw[aj],by omega,by omega,λi=>U.own i,λx O=>?_⟩
 obtain⟨c,H,rfl⟩:=dT.1 O;have F:=((hD.1 U.right).2.2.2 c H)
 refine hL (aCD (i:=c.1.toNat) U (dT.2 ⟨c,nL.2 ⟨H,by omega⟩,rfl⟩)) (by omega)
theorem SX {E:List Int}{cs:List au}(U:fo E cs){i:Nat}(M:i<D E):qi cs (fU E cs) i<10↔(aB E cs).cL i<(aB E cs).bG i 10:=by
 unfold qi;rw[ab9];exact aCE U M
theorem ND {E:List Int}{cs:List au}(U:fo E cs):amV E cs (fU E cs) (ke E cs):=by
 obtain⟨bE,Hx⟩:=axP U.ok;have jB:(aB E cs).n=D E:=rfl;have aK:=U.n5
 have aA:∀x∈(aB E cs).iY.flatten,x<D E:=λx O=>by
  obtain⟨l,ar,tq⟩:=List.mem_flatten.1 O;exact (bE l ar).2.2 x tq
 have F:=aDN aA
 have I:fi (D E) (λi=>(aB E cs).iY.flatten.count i)<=fi (D E) λi=>(cB cs i).length:=awy λi M=>by
  have cv:=(Hx i M).1;have cS:=aDe U i 10;have eF:=aDL (cB cs i);omega
 have af:=aDM cs (D E);have aO:=U.rZ
 have jQ:(aB E cs).iY.length<=60:=by
  have:=Nq (aB E cs) (10*(aB E cs).n) λ_=>10;unfold Day.iY;omega
 refine⟨Fy U,by unfold ke;rw[aj];omega,λr ab=>?_,?_,λx=>?_⟩
 ·obtain⟨l,ar,rfl⟩:=dT.1 ab;obtain⟨cv,cS,-⟩:=bE l ar;exact⟨by simpa using cv,List.pairwise_map.2 (cS.imp λh=>by omega)⟩
 ·rw[amW,aj];omega
 ·rw[amW];unfold ga Nu;rw[dT,dT]
  constructor
  ·rintro⟨i,M,rfl⟩;refine⟨i,xD.2 ⟨gX.2 (aA i M),kf ?_⟩,rfl⟩;exact (SX U (aA i M)).2 (((Hx i (aA i M)).2).2 (amX.2 M))
  ·rintro⟨i,M,rfl⟩;obtain⟨cv,cS⟩:=xD.1 M;have cv:=gX.1 cv;exact⟨i,amX.1 (((Hx i cv).2).1 ((SX U cv).1 (of_decide_eq_true cS))),rfl⟩
theorem amY (E:List Int)(cs:List au):(ke E cs).map fj=(aB E cs).iY.map uW:=by
 unfold ke;rw[m6];refine mI λr _=>?_;unfold uW;show fj (r.map λi:Nat=>(i:Int))=_;unfold fj;rw[m6]
 rfl
end Go.Mini
namespace Go.Mini
open Classical
theorem aDO {d:Day}(aa:d.dt){C:Nat->Prop}(F:∃i,C i)(I:∀i,C i->i<d.n/\d.cL i<d.bG i 10):¬ d.closed d.hr C:=by
 intro af;obtain⟨g,M,y3,hle⟩:=Im aa;have sy:∀i,C i->i<d.n/\d.hr i<10:=λi h=>⟨(I i h).1,((Io aa).2 i (I i h).1).2 (I i h).2⟩;have gC:=Rs aa
 have k:=M.Ze aa F sy af (d.q d.hr d.cL) (λk=>d.cL k-d.bG k (d.hr k)) (λk Q _=>by have:=gC k Q;grind) λc H _=>by
  have bV:=aa.aF c H;have hw:=aa.qb H;have aK:=gC c.aF bV;unfold Day.q
  by_cases eX:c.bw<d.hr c.aF
  ·rw[ad eX,ad eX,ah (λh=>by have:=h.2;omega)];grind
  ·rw[ah eX,ah eX]
   by_cases eg:c.bw=d.hr c.aF
   ·rw[ad eg,ad eg]
    by_cases g7:C c.aF
    ·rw[ad ⟨g7,eg⟩];unfold Day.cap;rw[ad g7,eg,s4 (by grind)];have e:d.bG c.aF (d.hr c.aF)-d.bG c.aF (d.hr c.aF)=0:=by grind
     rw[e,s4 gf,nH,wg];exact gf
    ·rw[ah (λh=>g7 h.1),o3];unfold Day.cap;rw[ah g7];exact CJ hw (Zb (by have:=hle c.aF bV;grind))
   ·rw[ah eg,ah eg,ah (λh=>eg h.2)];grind
 have az:d.gj C (d.fe (d.q d.hr d.cL))=d.gj C d.cL:=Day.ER λi M _=>(y3 i M).symm;have aD:(d.gj C λi=>d.bG i (d.hr i)+(d.cL i-d.bG i (d.hr i)))=d.gj C d.cL:=Day.ER λi _ _=>by grind
 rw[az,aD] at k;grind
end Go.Mini
namespace Go.Mini
open Go
def nk (f:Nat->Int):Nat->Int
 |0=>0
 |k+1=>if nk f k=0 then f k else nk f k
theorem amZ {f:Nat->Int}{k:Nat}(h:nk f k=0)(Q:f k≠0):∀{n:Nat},k<n->nk f n=f k
 |0,h=>by omega
 |n+1,aK=>by
  by_cases e:k=n
  ·subst e;rw[nk,ad h]
  ·have:=amZ h Q (n:=n) (by omega);rw[nk,this,ah Q]
theorem aDP {f:Nat->Int}{n:Nat}(h:nk f n=0):∀i,i<n->f i=0:=by
 induction n with
 |zero=>intro i M;omega
 |succ n ay =>
  rw[nk] at h
  split at h
  ·rename_i ao;intro i M
   by_cases e:i=n
   ·subst e;exact h
   ·exact ay ao i (by omega)
  ·rename_i ao;exact absurd h ao
theorem aDQ {f:Nat->Int}{n:Nat}(h:∀i,i<n->f i=0):nk f n=0:=by
 induction n with
 |zero=>rfl
 |succ n ay=>rw[nk,ad (ay λi M=>h i (by omega))];exact h n (by omega)
structure aDR (E:List Int) (cs:List au) (aL ps:List Rat) (fl:List (List Int)):Prop where
 n:(D E)<=1000000
 c:(D cs)<=1000000
 h:fN (aL.map av)
 p:fN (ps.map av)
 sum:m1 E cs (aL.map av) (ps.map av)=true->∀i,i<(D E)->Jl E cs aL ps i
 Q5:m1 E cs (aL.map av) (ps.map av)=true->(∀i,i<(D E)->mm E cs aL ps i=0)->amV E cs ps fl
theorem aDS {l:List au}{q:Nat->Rat}{k i:Nat}{c:au}(M:i<k)(H:l[i]?=some c)(aL:q i<(c.2.2.2:Rat)):ia l q k<=c.2.2.1:=by
 induction k with
 |zero=>omega
 |succ k ay =>
  have e:ia l q (k+1)=match l[k]? with|some c=>if q k<(c.2.2.2:Rat) then min (ia l q k) c.2.2.1 else ia l q k|none=>ia l q k:=rfl
  rw[e]
  by_cases he:i=k
  ·subst he;rw[H];dsimp only;rw[ad aL];exact Int.min_le_right ..
  ·have ay:=ay (by omega)
   split
   ·split
    ·exact Int.le_trans (Int.min_le_left ..) ay
    ·exact ay
   ·exact ay
theorem aDT {l:List au}{q:Nat->Rat}{k:Nat}(h:ia l q k<10):∃i,i<k/\∃c,l[i]?=some c/\q i<(c.2.2.2:Rat)/\ia l q k=c.2.2.1:=by
 induction k with
 |zero=>exact absurd h (show ¬ (10:Int)<10 by decide)
 |succ k ay =>
  have e:ia l q (k+1)=match l[k]? with|some c=>if q k<(c.2.2.2:Rat) then min (ia l q k) c.2.2.1 else ia l q k|none=>ia l q k:=rfl
  rw[e] at h ⊢
  cases Q:l[k]? with
  |none =>
   rw[Q] at h;obtain⟨i,F,I⟩:=ay h;exact⟨i,by omega,I⟩
  |some c =>
   rw[Q] at h;dsimp only at h ⊢
   by_cases aL:q k<(c.2.2.2:Rat)
   ·rw[ad aL] at h ⊢
    by_cases hm:ia l q k<c.2.2.1
    ·have aD:min (ia l q k) c.2.2.1=ia l q k:=Int.min_eq_left (by omega);rw[aD] at h ⊢;obtain⟨i,F,I⟩:=ay h;exact⟨i,by omega,I⟩
    ·exact⟨k,by omega,c,Q,aL,Int.min_eq_right (by omega)⟩
   ·rw[ah aL] at h ⊢;obtain⟨i,F,I⟩:=ay h;exact⟨i,by omega,I⟩
theorem aDU {E:List Int}{cs:List au}(U:fo E cs){i:Nat}(M:i<D E)(h:(aB E cs).cL i<(aB E cs).bG i 10):r2 cs (fU E cs) i=((aB E cs).hr i:Int):=by
 have jx:=(SX U M).2 h;unfold r2;rw[ad jx];have aa:=U.ok;obtain⟨g,hinv,-,hle⟩:=Im aa;have aH:=((Io aa).2 i M).2 h;have fV:=Rs aa i M
 have ud:(aB E cs).cL i<(aB E cs).bG i ((aB E cs).hr i+1):=by
  have F:=hinv.M i M aH;have I:=hle i M;grind
 unfold qi at jx ⊢;rw[ab9] at jx ⊢
 have iG:∀(k:Nat) (c:au),(cB cs i)[k]?=some c->(uZ E cs i).getD k 0=(aB E cs).hh (aB E cs).cL (cJ c):=λk c H=>by
  have hm:=ei H;rw[<-SJ U hm];unfold uZ;rw[ep,bn,H];rfl
 obtain⟨k,Q,c,H,aL,he⟩:=aDT jx;have hm:=nL.1 (ei H);have lR:=(hD.1 U.right).2.2.2 c hm.1;have bV:(cJ c).aF=i:=by show c.1.toNat=i;omega
 rw[iG k c H] at aL
 have F:¬ (cJ c).bw<(aB E cs).hr i:=λaA=>by
  have mZ:(aB E cs).hh (aB E cs).cL (cJ c)=(cJ c).am:=by
   unfold Day.hh;rw[ad];rw[bV];have:=aa.uz i (show (cJ c).bw+1<=(aB E cs).hr i from aA);grind
  rw[mZ] at aL;exact absurd aL Rat.lt_irrefl
 have cQ:0<(aB E cs).S i ((aB E cs).hr i):=by
  rw[(aB E cs).s3] at ud;grind
 obtain⟨b,ag,di,eK,j7⟩:=(ajv aa i _).1 cQ;obtain⟨c',lS,rfl⟩:=dT.1 ag;have aMd:=(hD.1 U.right).2.2.2 c' lS;have aMe:c'.1.toNat=i:=di;have n4:c'∈cB cs i:=nL.2 ⟨lS,by omega⟩
 obtain⟨k',L3,Bn⟩:=Kb n4;have NF:(cB cs i)[k']?=some c':=by rw[bz L3,Bn]
 have aA:(uZ E cs i).getD k' 0<(c'.2.2.2:Rat):=by
  rw[iG k' c' NF];show (aB E cs).hh (aB E cs).cL (cJ c')<(cJ c').am;unfold Day.hh;rw[di,eK,ah (by grind)];have hw:=aa.Mh ag j7
  have aMf:(aB E cs).w (cJ c')*(aB E cs).S i ((aB E cs).hr i)=(cJ c').am:=by
   have h:=Day.CI (d:=aB E cs) (c:=cJ c') (by rw[di,eK];exact cQ);rw[di,eK] at h;exact h
  have bR:=Rat.mul_lt_mul_of_pos_left (show (aB E cs).cL i-(aB E cs).bG i ((aB E cs).hr i)<(aB E cs).S i ((aB E cs).hr i) by rw[(aB E cs).s3] at ud;grind) hw;rw[s4 (by grind)];grind
 have I:=aDS (q:=λk=>(uZ E cs i).getD k 0) L3 NF aA;have aMg:c'.2.2.1.toNat=(aB E cs).hr i:=eK;have az:(cJ c).bw=c.2.2.1.toNat:=rfl;omega
theorem am0 {cs:List au}{ps:List Rat}{set L:List Int}{x:Int}:x∈stay cs ps set L↔x∈L/\q2 cs ps set x=false:=by
 unfold stay;rw[xD,rO]
theorem am1 {cs:List au}{ps:List Rat}{s:List Int}{x:Int}:∀k,x∈ht cs ps s k->x∈s
 |0,h=>h
 |k+1,h=>am1 k (am0.1 h).1
theorem am2 (cs:List au)(ps:List Rat)(s:List Int):∀k,stay cs ps (ht cs ps s k) (ht cs ps s k)=ht cs ps s k\/(ht cs ps s k).length+k<=D s
 |0 => .inr (b1 _)
 |k+1=>by
  have e:ht cs ps s (k+1)=stay cs ps (ht cs ps s k) (ht cs ps s k):=rfl;rcases dF (stay cs ps (ht cs ps s k) (ht cs ps s k)=ht cs ps s k) with h|h
  ·left;rw[e,h];exact h
  ·rcases am2 cs ps s k with F|F
   ·exact absurd F h
   ·right
    have I:=amO cs ps (ht cs ps s k) (ht cs ps s k);have af:(stay cs ps (ht cs ps s k) (ht cs ps s k)).length≠(ht cs ps s k).length:=λaf=>h (List.Sublist.eq_of_length List.filter_sublist af);rw[e];omega
section
variable {E:List Int} {cs:List au} (U:fo E cs)
include U
theorem aDV:(ht cs (fU E cs) (ga cs (fU E cs) (D E)) (D E)).length=0:=by
 have gp:∀x,x∈ga cs (fU E cs) (D E)->∃i:Nat,x=(i:Int)/\i<D E/\(aB E cs).cL i<(aB E cs).bG i 10:=λx O=>by
  unfold ga Nu at O;obtain⟨i,M,rfl⟩:=dT.1 O;obtain⟨cv,cS⟩:=xD.1 M;have cv:=gX.1 cv;exact⟨i,rfl,cv,(SX U cv).1 (of_decide_eq_true cS)⟩
 have Gd:=Nv cs (fU E cs) (D E);have jW:=λx=>am1 (cs:=cs) (ps:=fU E cs) (s:=ga cs (fU E cs) (D E)) (x:=x) (D E);rcases am2 cs (fU E cs) (ga cs (fU E cs) (D E)) (D E) with h|h
 ·generalize ht cs (fU E cs) (ga cs (fU E cs) (D E)) (D E)=C at *;rcases C with _|⟨y,C⟩
  ·rfl
  refine absurd ?_ (aDO U.ok (C:=λi=>(i:Int)∈y::C) ?_ ?_)
  ·intro b ag g7 hY uC;obtain⟨c,H,rfl⟩:=dT.1 ag;have lR:=(hD.1 U.right).2.2.2 c H;have bV:(((cJ c).aF:Nat):Int)=c.1:=by show ((c.1.toNat:Nat):Int)=c.1;omega
   rw[bV] at g7;have Q:c.1∈stay cs (fU E cs) (y::C) (y::C):=by rw[h];exact g7
   have ar:=(am0.1 Q).2;obtain⟨i,az,aD,bZ⟩:=gp c.1 (jW _ g7);have he:=aDU U aD bZ;have M:(cJ c).aF=i:=by omega
   rw[M] at hY;unfold q2 at ar;rw[vX] at ar;have ar:=ar c H;have aDW:(0:Rat)<(c.2.2.2:Rat):=uC;have aDX:0<c.2.2.2:=by exact_mod_cast aDW
   have aMh:c.2.2.1.toNat=(aB E cs).hr i:=hY;have aV:c.2.2.1=r2 cs (fU E cs) c.1:=by rw[az,he];omega
   have r8:c.2.1∈y::C:=Decidable.byContradiction λgC=>ar (by
    simp only[beq_self_eq_true,g3,eM,beq_iff_eq,decide_eq_true_eq,rO,decide_eq_false_iff_not];exact⟨aV,aDX,gC⟩)
   obtain⟨j,C2,yl,aA2⟩:=gp c.2.1 (jW _ r8);exact⟨j,C2,by show (j:Int)∈y::C;rw[<-C2];exact r8⟩
  ·obtain⟨i,az,aD,bZ⟩:=gp y (jW y (by simp));exact⟨i,by show (i:Int)∈y::C;rw[<-az];simp⟩
  ·intro i M;obtain⟨j,az,aD,bZ⟩:=gp i (jW i M);obtain rfl:i=j:=by omega
   exact⟨aD,bZ⟩
 ·omega
def q8 (E:List Int)(cs:List au):List Rat:=(dW (D E)).map (aB E cs).cL
omit U in
theorem NG:(q8 E cs).map av=lp E cs:=rfl
omit U in
theorem am3 {i:Nat}(M:i<D E):(q8 E cs).getD i 0=(aB E cs).cL i:=A6 (aB E cs).cL 0 M
omit U in
theorem aDY (z:Int)(i:Int)(aP:au->Rat)(l:List au)(a:Option Rat):(l.zip (l.map aP)).foldl (zm i) a=l.foldl (λa c=>if c.2.1=i then a.bind λs=>if mR s (aP c)=true then some (s+aP c) else none else a) a:=by
 induction l generalizing a with
 |nil=>rfl
 |cons c l ay=>rw[eA,List.zip_cons_cons,Ga,Ga,ay];rfl
theorem am4 {i:Nat}(M:i<D E):sd (E.getD i 0) i (cs.zip (fU E cs))=some ((aB E cs).cL i):=by
 have h:=al1 U i M;unfold sd fU;rw[aDY (E.getD i 0)];exact h
omit U in
theorem am5 {aL ps:List Rat}(ab:jr E cs=true)(eh:(D aL)=D E)(aq:(D ps)=D cs)(km:∀x∈aL,0<=x/\dv x)(kI:∀x∈ps,0<=x/\dv x):m1 E cs (aL.map av) (ps.map av)=true:=by
 obtain⟨F,I,af,aO⟩:=hD.1 ab;unfold jr at ab;simp only[eM] at ab;obtain⟨⟨-,aca⟩,C6⟩:=ab
 have r9:∀l:List Rat,(∀x∈l,0<=x/\dv x)->(l.map av).all u1=true:=λl ar=>by
  rw[jh];intro f aH;obtain⟨x,O,rfl⟩:=dT.1 aH;obtain⟨cv,cS⟩:=ar x O;unfold u1;rw[Ih cS,g3];have:decide (x<0)=false:=mw (by grind);rw[<-aaf] at this;have eF:=of_decide_eq_false this;exact kf (show x.num.sign>=0 by omega)
 unfold m1;have a3:E.all gk=true:=aca;have di:decide ((D E:Int)>60)=false:=dn;have eK:decide ((D cs:Int)>2000)=false:=dn;rw[aj,aj,eh,aq,a3,C6,r9 aL km,r9 ps kI,di,eK];simp
theorem am6:m1 E cs ((q8 E cs).map av) ((fU E cs).map av)=true:=by
 refine am5 U.right (by unfold q8;simp) (by unfold fU;simp) (λx O=>?_) λx O=>?_
 ·obtain⟨i,M,rfl⟩:=dT.1 O;have kj:=gX.1 M;exact⟨ME U.ok kj,hL (y7 U kj) (by omega)⟩
 ·obtain⟨c,H,rfl⟩:=dT.1 O;rw[<-MK U.right _ H];exact⟨U.ok.Zh _ (ta H),hL (Rt U H) (by omega)⟩
theorem aDZ {i:Nat}(M:i<D E):Jl E cs (q8 E cs) (fU E cs) i:=by
 refine⟨Fy U,M,by unfold q8;simp,λx O=>?_,?_,λx O he=>?_⟩
 ·obtain⟨j,ai,rfl⟩:=dT.1 O;exact hL (y7 U (gX.1 ai)) (by omega)
 ·have:=U.E i
  constructor<;>omega
 ·rw[he,am3 M];exact⟨U.own i,ME U.ok M,(y7 U M).mono (by omega)⟩
theorem am7 {i:Nat}(M:i<D E):mm E cs (q8 E cs) (fU E cs) i=0:=by
 unfold mm;rw[am4 U M];dsimp only;rw[ad];refine⟨(am3 M).symm,?_⟩;rw[ab9];unfold uZ;exact mI λc H=>(aj3 (nL.1 H).2).symm
theorem am8:aDR E cs (q8 E cs) (fU E cs) (ke E cs):=by
 have aK:=U.n5;have iV:=U.rZ
 have I:fN ((fU E cs).map av):=by
  refine⟨by unfold fU;simp;omega,λf aH=>?_⟩
  obtain⟨x,O,rfl⟩:=dT.1 aH;exact lH ((Fy U).lim x O)
 exact⟨by omega,by omega,abF U,I,λ_ i M=>aDZ U M,λ_ _=>ND U⟩
end







theorem am9 {n:Int}(h:dC n):HB [.int .i64 n,.int .i64 1]=some (.same (.cM [.agg (aE (av (n:Rat))),.int .i64 0])):=by
 have:=agS n 1 ⟨h,Rz⟩;rw[Rr h] at this;exact this
def acb:bY:=cq 78 3 [.t 6] (X [dX 5 369005 2,cO 6 false] (.seq (X [G 10 0,cd 11 10,bm 12 .gtr 11 6,G 13 12,⟨some 14,some (13,false),.cN (.t 1)⟩,⟨some 15,some (13,false),.len (.t 14)⟩,⟨some 16,some (13,false),.bin .gtr (.t 15) (.c (al 12))⟩,ey 17 13 16,G 18 17,⟨some 19,some (18,false),.eu 0 (.t 5)⟩,⟨some 20,some (18,false),.load 1 false (.t 19)⟩,⟨some 21,some (18,false),.len (.t 20)⟩,⟨some 22,some (18,false),.bin .gtr (.t 21) (.c (al 8))⟩,ey 23 18 22,G 24 23,⟨some 25,some (24,false),.eu 1 (.t 5)⟩,⟨some 26,some (24,false),.load 1 false (.t 25)⟩,⟨some 27,some (24,false),.len (.t 26)⟩,⟨some 28,some (24,false),.bin .gtr (.t 27) (.c (al 14))⟩,ey 29 24 28,G 30 29,⟨some 31,some (30,false),.eu 2 (.t 5)⟩,⟨some 32,some (30,false),.load 1 false (.t 31)⟩,⟨some 33,some (30,false),.len (.t 32)⟩,⟨some 34,some (30,false),.bin .gtr (.t 33) (.c (al 12))⟩,ey 35 30 34] (a6 35 (X [cO 6 false] .ret) .skip)) (.seq (X [bA 7 0] (.block 0 (.loop  (.seq (X [G 36 7,bj 37 0 5,aU 38 1 37,cd 39 38,bB 40 .lss 36 39] (a6 40 .skip (.exit 0))) (.seq (.block 1 (X [bj 43 0 5,aU 44 1 43,G 45 7,b0 46 4 44 45,bs 47 4 46,(aC 48 (.call OU [(.t 47),(.c (al 8))])),fx 49 48] (a6 49 (X [cO 6 false] .ret) .skip))) (.ops [G 41 7,bm 42 .add 41 1,G 7 42])))))) (.seq (X [bA 8 0] (.block 2 (.loop  (.seq (X [G 50 8,bj 51 1 5,aU 52 1 51,cd 53 52,bB 54 .lss 50 53] (a6 54 .skip (.exit 2))) (.seq (.block 3 (X [bj 57 1 5,aU 58 1 57,G 59 8,b0 60 4 58 59,bs 61 4 60,(aC 62 (.call OU [(.t 61),(.c (al 8))])),fx 63 62] (a6 63 (X [cO 6 false] .ret) .skip))) (.ops [G 55 8,bm 56 .add 55 1,G 8 56])))))) (.seq (X [bA 9 0] (.block 4 (.loop  (.seq (X [G 64 9,bj 65 2 5,aU 66 1 65,cd 67 66,bB 68 .lss 64 67] (a6 68 .skip (.exit 4))) (.seq (.block 5 (X [bj 71 2 5,aU 72 1 71,G 73 9,b0 74 1 72 73,aU 75 1 74,cd 76 75,bm 77 .gtr 76 12] (a6 77 (X [cO 6 false] .ret) .skip))) (.ops [G 69 9,bm 70 .add 69 1,G 9 70])))))) (X [cO 6 true] .ret))))))
def acd:bY:=cq 26 2 [.t 4] (X [cO 4 false] (.seq (X [G 6 0,cd 7 6,G 8 1,cd 9 8,bB 10 .neq 7 9] (a6 10 (X [cO 4 false] .ret) .skip)) (.seq (X [bA 5 0] (.block 0 (.loop  (.seq (X [G 11 5,G 12 0,cd 13 12,bB 14 .lss 11 13] (a6 14 .skip (.exit 0))) (.seq (.block 1 (gb [G 17 0,G 18 5,b0 19 1 17 18,aU 20 1 19,G 21 1,G 22 5,b0 23 1 21 22,aU 24 1 23,bB 25 .neq 20 24] D3 (a6 25 (X [cO 4 false] .ret) .skip))) (.ops [G 15 5,bm 16 .add 15 1,G 5 16])))))) (X [cO 4 true] .ret))))
def ace:bY:=cq 18 2 [.t 4] (X [cO 4 false] (.seq (X [bA 5 0] (.block 0 (.loop  (.seq (X [G 6 5,G 7 0,cd 8 7,bB 9 .lss 6 8] (a6 9 .skip (.exit 0))) (.seq (.block 1 (X [G 12 0,G 13 5,b0 14 1 12 13,aU 15 1 14,G 16 1,bB 17 .eql 15 16] (a6 17 (X [cO 4 true] .ret) .skip))) (.ops [G 10 5,bm 11 .add 10 1,G 5 11])))))) (X [cO 4 false] .ret)))
def acf:bY:=cq 174 4 [.t 8] (X [cO 8 false] (X [(aC 23 (.call UZ [])),G 9 23] (.seq (X [G 24 0,G 25 1,(aC 26 (.build [.nil,.nil,.nil] [])),(D0 27 U0 24 25 26),fx 28 27,G 29 28,⟨some 30,some (29,false),.cN (.t 3)⟩,⟨some 31,some (29,false),.bin .eql (.t 30) (.c (.J (.int .i8 0)))⟩,ey 32 29 31] (a6 32 (X [G 33 9,G 8 33] .ret) .skip)) (X [G 35 0,G 36 1,(cA 37 UC 35 36),G 34 37,bK 38 0 34,bK 39 1 34,(aC 10 (.alloc 366010 [.nil,.nil,.nil])),bq 3 10 38,G 11 39] (.seq (X [G 40 11,bm 41 .neq 40 0] (a6 41 (X [G 42 9,G 8 42] .ret) .skip)) (.seq (X [bj 43 0 10,aU 44 1 43,cd 45 44,G 46 0,cd 47 46,bB 48 .neq 45 47,G 49 48,⟨some 50,some (49,false),.eu 1 (.t 10)⟩,⟨some 51,some (49,false),.load 1 false (.t 50)⟩,⟨some 52,some (49,false),.len (.t 51)⟩,⟨some 53,some (49,false),.cN (.t 1)⟩,⟨some 54,some (49,false),.len (.t 53)⟩,⟨some 55,some (49,false),.bin .neq (.t 52) (.t 54)⟩,ey 56 49 55,G 57 56,⟨some 58,some (57,false),.cN (.t 0)⟩,⟨some 59,some (57,false),.cN (.t 1)⟩,⟨some 60,some (57,false),.load 3 true (.t 10)⟩,⟨some 61,some (57,false),.call wZ [(.t 58),(.t 59),(.t 60)]⟩,⟨some 62,some (57,false),.bin .neq (.t 61) (.c (al 0))⟩,ey 63 57 62] (a6 63 (X [cO 8 false] .ret) .skip)) (X [G 65 3,(aC 66 (.conv .i64 (.t 65))),(aC 67 (.call Gx [(.t 66),(.c (al 3))])),G 64 67,bK 68 0 64,bK 69 1 64,(aC 12 (.alloc 366012 [(al 0),.nil,(al 0),.nil])),bq 4 12 68,G 13 69] (.seq (X [G 70 0,cd 71 70,bm 72 .gtr 71 0] (a6 72 (X [G 73 2,(aC 74 (.conv .i64 (.t 73))),G 75 0,cd 76 75,bB 77 .rem 74 76,G 14 77] (gb [bj 79 0 10,aU 80 1 79,G 81 14,b0 82 4 80 81,bs 83 4 82,bs 84 4 12,(cA 85 tO 83 84),G 78 85,bK 86 0 78,bK 87 1 78,(aC 15 (.alloc 366015 [(al 0),.nil,(al 0),.nil])),bq 4 15 86,G 16 87] [[],[],[],[],[],[],[],[],[],[],[1,4,5],[],[]] (X [bs 88 3 10,(aC 17 (.alloc 366017 [.nil,.nil,.nil])),bq 3 17 88] (X [(aC 89 (.eQ 366089 true [] 4 0 [])),bj 90 0 10,aU 91 1 90,(aC 92 (.app 366092 [(al 0),.nil,(al 0),.nil] 64 (.t 89) (.t 91))),bj 93 0 17,bq 1 93 92] (X [bj 94 0 17,aU 95 1 94,G 96 14,bs 97 4 15,b0 98 4 95 96,bq 4 98 97] (.seq (X [G 99 16,bm 100 .eql 99 0,G 101 100,⟨some 102,some (101,true),.cN (.t 0)⟩,⟨some 103,some (101,true),.cN (.t 1)⟩,⟨some 104,some (101,true),.load 3 true (.t 17)⟩,⟨some 105,some (101,true),.call wZ [(.t 102),(.t 103),(.t 104)]⟩,⟨some 106,some (101,true),.bin .eql (.t 105) (.c (al 0))⟩,gK 107 101 106] (a6 107 (X [cO 8 false] .ret) .skip)) (.seq (.ghost (.move) (.ops [G 108 0,G 109 1,bs 110 3 10,(D0 111 KX 108 109 110),G 18 111])) (X [bs 112 3 10,bq 3 17 112] (.seq (X [G 113 18,G 114 14,(cA 115 U2 113 114)] (a6 115 (.ops [bj 116 2 10,aU 117 1 116,G 118 14,(cA 119 U3 117 118),bj 120 2 17,bq 1 120 119]) (.ops [(aC 121 (.eQ 366121 true [] 1 0 [])),bj 122 2 10,aU 123 1 122,(aC 124 (.app 366124 [.nil] 24 (.t 121) (.t 123))),G 125 14,(aC 126 (.eQ 366126 false [(al 0)] 1 1 [(0,1,(.t 125))])),(aC 127 (.eQ 366127 false [.nil] 1 1 [(0,1,(.t 126))])),(aC 128 (.app 366128 [.nil] 24 (.t 124) (.t 127))),bj 129 2 17,bq 1 129 128]))) (X [G 130 0,G 131 1,bs 132 3 17,(D0 133 wZ 130 131 132),bm 134 .neq 133 24] (a6 134 (X [cO 8 false] .ret) .skip))))))))))) .skip)) (.seq (.seq (.ghost (.move) (.ops [G 135 1,cd 136 135,bm 137 .gtr 136 0])) (a6 137 (X [G 138 2,(aC 139 (.conv .i64 (.t 138))),G 140 1,cd 141 140,bB 142 .rem 139 141,G 19 142] (gb [bj 144 1 10,aU 145 1 144,G 146 19,b0 147 4 145 146,bs 148 4 147,bs 149 4 12,(cA 150 tO 148 149),G 143 150,bK 151 0 143,bK 152 1 143,(aC 20 (.alloc 366020 [(al 0),.nil,(al 0),.nil])),bq 4 20 151,G 21 152] [[],[],[],[],[],[],[],[],[],[],[1,4,5],[],[]] (X [bs 153 3 10,(aC 22 (.alloc 366022 [.nil,.nil,.nil])),bq 3 22 153] (X [(aC 154 (.eQ 366154 true [] 4 0 [])),bj 155 1 10,aU 156 1 155,(aC 157 (.app 366157 [(al 0),.nil,(al 0),.nil] 64 (.t 154) (.t 156))),bj 158 1 22,bq 1 158 157] (X [bj 159 1 22,aU 160 1 159,G 161 19,bs 162 4 20,b0 163 4 160 161,bq 4 163 162] (X [G 164 21,bm 165 .eql 164 0,G 166 165,⟨some 167,some (166,true),.cN (.t 0)⟩,⟨some 168,some (166,true),.cN (.t 1)⟩,⟨some 169,some (166,true),.load 3 true (.t 22)⟩,⟨some 170,some (166,true),.call wZ [(.t 167),(.t 168),(.t 169)]⟩,⟨some 171,some (166,true),.bin .eql (.t 170) (.c (al 0))⟩,gK 172 166 171] (a6 172 (X [cO 8 false] .ret) .skip))))))) .skip)) (X [G 173 9,G 8 173] .ret))))))))))
def acg:bY:=cq 54 0 [.t 0] (X [cO 0 false] (X [(aC 6 (.eQ 368006 false [(al 0),(al 0)] 1 2 [(0,1,(.c (al 0))),(1,1,(.c (al 0)))])),G 1 6] (X [(aC 7 (.build [(al 0),(al 0),(al 0),(al 0)] [(0,1,(.c (al 1))),(1,1,(.c (al 0))),(3,1,(.c (al 5)))])),(aC 8 (.build [(al 0),(al 0),(al 0),(al 0)] [(0,1,(.c (al 0))),(1,1,(.c (al 1))),(3,1,(.c (al 5)))])),(aC 9 (.eQ 368009 false [(al 0),(al 0),(al 0),(al 0),(al 0),(al 0),(al 0),(al 0)] 4 2 [(0,4,(.t 7)),(4,4,(.t 8))])),G 2 9] (X [(aC 10 (.call BR [(.c (al 5)),(.c (al 5))])),(aC 11 (.call BR [(.c (al 5)),(.c (al 5))])),(aC 12 (.build [.nil,.nil,.nil] [(0,1,(.t 10)),(1,1,(.t 11))])),(aC 3 (.alloc 368003 [.nil,.nil,.nil])),bq 3 3 12] (X [(aC 13 (.call BR [(.c (al 2)),(.c (al 2))])),(aC 14 (.call BR [(.c (al 2)),(.c (al 2))])),(aC 15 (.eQ 368015 false [(al 0),(al 0)] 1 2 [(0,1,(.c (al 0))),(1,1,(.c (al 1)))])),(aC 16 (.eQ 368016 false [.nil] 1 1 [(0,1,(.t 15))])),(aC 17 (.build [.nil,.nil,.nil] [(0,1,(.t 13)),(1,1,(.t 14)),(2,1,(.t 16))])),(aC 4 (.alloc 368004 [.nil,.nil,.nil])),bq 3 4 17] (X [(aC 18 (.call BR [(.c (al 5)),(.c (al 4))])),(aC 19 (.call BR [(.c (al 5)),(.c (al 5))])),(aC 20 (.build [.nil,.nil,.nil] [(0,1,(.t 18)),(1,1,(.t 19))])),(aC 5 (.alloc 368005 [.nil,.nil,.nil])),bq 3 5 20] (X [G 21 1,G 22 2,bs 23 3 3,(D0 24 wZ 21 22 23),bm 25 .eql 24 0,G 26 25,⟨some 27,some (26,true),.cN (.t 1)⟩,⟨some 28,some (26,true),.cN (.t 2)⟩,⟨some 29,some (26,true),.load 3 true (.t 4)⟩,⟨some 30,some (26,true),.call wZ [(.t 27),(.t 28),(.t 29)]⟩,⟨some 31,some (26,true),.bin .eql (.t 30) (.c (al 24))⟩,gK 32 26 31,G 33 32,⟨some 34,some (33,true),.cN (.t 1)⟩,⟨some 35,some (33,true),.cN (.t 2)⟩,⟨some 36,some (33,true),.load 3 true (.t 5)⟩,⟨some 37,some (33,true),.call wZ [(.t 34),(.t 35),(.t 36)]⟩,⟨some 38,some (33,true),.bin .eql (.t 37) (.c (al 24))⟩,gK 39 33 38,G 40 39,⟨some 41,some (40,true),.cN (.t 1)⟩,⟨some 42,some (40,true),.cN (.t 2)⟩,⟨some 43,some (40,true),.load 3 true (.t 4)⟩,⟨some 44,some (40,true),.call KX [(.t 41),(.t 42),(.t 43)]⟩,⟨some 45,some (40,true),.eQ 368045 false [(al 0),(al 0)] 1 2 [(0,1,(.c (al 0))),(1,1,(.c (al 1)))]⟩,⟨some 46,some (40,true),.call U1 [(.t 44),(.t 45)]⟩,gK 47 40 46,G 48 47,⟨some 49,some (48,true),.cN (.t 1)⟩,⟨some 50,some (48,true),.load 3 true (.t 3)⟩,⟨some 51,some (48,true),.call wZ [(.t 49),(.c .nil),(.t 50)]⟩,⟨some 52,some (48,true),.bin .eql (.t 51) (.c (al 1))⟩,gK 53 48 52,G 0 53] .ret)))))))
def ach:bY:=cq 48 2 [.t 4] (X [eB 4] (X [eB 5] (.seq (X [bA 6 0] (.block 0 (.ghost (.np 5 377046 1) (.loop  (.seq (X [G 9 6,G 10 0,cd 11 10,bB 12 .lss 9 11] (a6 12 .skip (.exit 0))) (.seq (.block 1 (X [eB 7] (.seq (X [bA 8 0] (.block 2 (.ghost (.np 7 377042 1) (.loop  (.seq (X [G 15 8,G 16 0,G 17 6,b0 18 1 16 17,aU 19 1 18,cd 20 19,bB 21 .lss 15 20] (a6 21 .skip (.exit 2))) (.seq (.block 3 (X [G 24 0,G 25 6,b0 26 1 24 25,aU 27 1 26,G 28 8,b0 29 1 27 28,aU 30 1 29,G 31 1,bB 32 .neq 30 31] (a6 32 (.ops [G 33 7,G 34 0,G 35 6,b0 36 1 34 35,aU 37 1 36,G 38 8,b0 39 1 37 38,aU 40 1 39,(aC 41 (.eQ 377041 false [(al 0)] 1 1 [(0,1,(.t 40))])),(aC 42 (.app 377042 [(al 0)] 8 (.t 33) (.t 41))),G 7 42]) .skip))) (.ops [G 22 8,bm 23 .add 22 1,G 8 23]))))))) (.ghost (.freeze 7) (.ops [G 43 5,G 44 7,(aC 45 (.eQ 377045 false [.nil] 1 1 [(0,1,(.t 44))])),(aC 46 (.app 377046 [.nil] 24 (.t 43) (.t 45))),G 5 46]))))) (.ops [G 13 6,bm 14 .add 13 1,G 6 14]))))))) (.seq (.ghost (.freeze 5) (.ops [G 47 5,G 4 47])) .ret))))
def aci:bY:=cq 22 2 [.t 4] (X [eB 4] (X [G 10 0,(aC 11 (.call Gx [(.t 10),(.c (al 1))])),G 9 11,bK 12 0 9,bK 13 1 9,(aC 5 (.alloc 378005 [(al 0),.nil,(al 0),.nil])),bq 4 5 12,G 6 13] (X [G 15 1,(aC 16 (.call Gx [(.t 15),(.c (al 1))])),G 14 16,bK 17 0 14,bK 18 1 14,(aC 7 (.alloc 378007 [(al 0),.nil,(al 0),.nil])),bq 4 7 17,G 8 18] (X [bs 19 4 5,bs 20 4 7,(aC 21 (.eQ 378021 false [(al 0),.nil,(al 0),.nil,(al 0),.nil,(al 0),.nil] 4 2 [(0,4,(.t 19)),(4,4,(.t 20))])),G 4 21] .ret))))
def kT (ak bI:List bg)(fl:List (List Int)):List Data:=[.Y (ak.map aE),.Y (bI.map aE),.Y (fl.map fj)]
theorem ana {ak lx bI uE:List bg}{fl AS:List (List Int)}(h:kT ak bI fl=kT lx uE AS):ak=lx/\bI=uE/\fl=AS:=by
 simp only[kT,bf,Data.Y.injEq,and_true] at h;exact⟨map_inj nd _ _ h.1,map_inj nd _ _ h.2.1,map_inj RG _ _ h.2.2⟩
def NH (E:List Int)(cs:List au)(ak bI:List bg)(fl:List (List Int)):Bool:=decide ((D E:Int)>6)||(decide ((D cs:Int)>12)||(decide ((D ak:Int)>8)||(decide ((D bI:Int)>14)||decide ((D fl:Int)>12))))
def Dd (E:List Int)(cs:List au)(ak bI:List bg)(fl:List (List Int)):Bool:=!NH E cs ak bI fl&&((ak.all λf=>yT f 8)&&((bI.all λf=>yT f 8)&&fl.all λr => !decide ((D r:Int)>12)))
theorem SY {α:Type}{p:α->Bool}{l:List α}{i:Nat}{x:α}(O:l[i]?=some x)(h:p x=false):l.all p=false:=by
 rw[List.all_eq_false];exact⟨x,ei O,by rw[h];decide⟩
abbrev acj:(List Int)×(List au)×(List bg)×(List bg)×(List (List Int))->List Data:=λ(E,cs,ak,bI,fl)=>[.Y (E.map ae),.Y (cs.map ck),.agg (kT ak bI fl)]
def ack:=cu acj λ(E,cs,ak,bI,fl)=>some (.same (.bool (Dd E cs ak bI fl)))
theorem aD0:∀a b,acj a=acj b->a=b:=by
  rintro⟨uO,uP,ki,amD,za⟩ ⟨uQ,n3,oJ,amE,zb⟩ h;simp only[bf,Data.Y.injEq,Data.agg.injEq,and_true] at h;obtain⟨F,I,af⟩:=h;obtain⟨rfl,rfl,rfl⟩:=ana af;rw[map_inj fh _ _ F,map_inj r0 _ _ I]
@[go_sem] theorem aD1 (E:List Int)(cs:List au)(ak:List bg)(bI:List bg)(fl:List (List Int)):ack [.Y (E.map ae),.Y (cs.map ck),.agg (kT ak bI fl)]=some (.same (.bool (Dd E cs ak bI fl))):=cD aD0 (E,cs,ak,bI,fl)
theorem aD2 (T:bl)(nV:T OU=aW Yo)(E:List Int)(cs:List au)(ak:List bg)(bI:List bg)(fl:List (List Int)):WP T acb (.same (.bool (Dd E cs ak bI fl))) [.J (.Y (E.map ae)),.J (.Y (cs.map ck)),.J (.agg (kT ak bI fl))]:=by
 refine cE ?_;simp only[acb];unfold Dd;rcases fV:NH E cs ak bI fl
 case true =>
  unfold NH at fV;rcases aI:decide ((D E:Int)>6)
  case true =>
         refine aZ ?_;repeat' (intro h<;>simp only[h,go_sem,go_sem_proc,nV,kT,aI,aj,c5,fu]<;>try refine ax ?_ ?_)
  rw[aI,pW] at fV;rcases c2:decide ((D cs:Int)>12)
  case true =>
         refine aZ ?_;repeat' (intro h<;>simp only[h,go_sem,go_sem_proc,nV,kT,aI,c2,aj,c5,fu]<;>try refine ax ?_ ?_)
  rw[c2,pW] at fV;rcases c3:decide ((D ak:Int)>8)
  case true =>
         refine aZ ?_;repeat' (intro h<;>simp only[h,go_sem,go_sem_proc,nV,kT,aI,c2,c3,aj,c5,fu]<;>try refine ax ?_ ?_)
  rw[c3,pW] at fV;rcases c4:decide ((D bI:Int)>14)
  case true =>
         refine aZ ?_;repeat' (intro h<;>simp only[h,go_sem,go_sem_proc,nV,kT,aI,c2,c3,c4,aj,c5,fu]<;>try refine ax ?_ ?_)
  rw[c4,pW] at fV;refine aZ ?_;repeat' (intro h<;>simp only[h,go_sem,go_sem_proc,nV,kT,aI,c2,c3,c4,fV,aj,c5,fu]<;>try refine ax ?_ ?_)
 unfold NH at fV;simp only[Bool.or_eq_false_iff] at fV;obtain⟨aI,c2,c3,c4,Is⟩:=fV;have wy:=of_decide_eq_false c3;have vU:=of_decide_eq_false c4;have n5:=of_decide_eq_false Is;simp only[go_sem,go_sem_proc,nV,kT,aI,c2,c3,c4,Is,aj,dH,g3];refine dw [5] [369005] (λ(i:Nat) tm m=>i<=D ak/\tm 7=.J (.int .i64 i)/\(ak.take i).all (λf=>yT f 8)=true) (λi=>D ak-i) 0 (by refine⟨by omega,rfl,rfl⟩) ?_;intro vs ms aT aS;simp only[go_sem,go_sem_proc,nV,kT,aj] at aT aS;subst aT aS;rintro i tm m Q hm ⟨M,bL,aN⟩;simp only[go_sem,go_sem_proc,nV,bf] at Q hm;have cm:=Q;rcases dF (i<D ak) with aA|b7
 ·have d1:decide ((i:Int)<(D ak:Int))=true:=dp;have b5:=e9 (i:=i) (by omega);obtain⟨⟨⟨f1,f2⟩,⟨f3,f4⟩⟩,O⟩:∃x,ak[i]?=some x:=⟨_,bz aA⟩;rcases q:yT ((f1,f2),(f3,f4)) 8
  ·rw[SY O q,fu];refine aZ ?_;repeat' (intro h<;>simp only[h,go_sem,go_sem_proc,nV,cm,bL,hm,O,d1,q,aE,aj,bn,dH]<;>try refine ax ?_ ?_)
  ·refine aZ ?_;repeat' (intro h<;>simp only[h,go_sem,go_sem_proc,nV,cm,bL,hm,O,d1,b5,q,aE,aj,bn,c5]<;>try refine ax ?_ ?_)
   exact⟨i+1,by omega,by omega,rfl,by rw[Qq O,aN,q];rfl⟩
 have d1:decide ((i:Int)<(D ak:Int))=false:=dn;rw[dB (by omega)] at aN;rw[aN,g3];simp only[go_sem,go_sem_proc,nV,cm,bL,hm,d1,aj];refine dw [5] [369005] (λ(i:Nat) tm m=>i<=D bI/\tm 8=.J (.int .i64 i)/\(bI.take i).all (λf=>yT f 8)=true) (λi=>D bI-i) 0 (by refine⟨by omega,rfl,rfl⟩) ?_;intro vs ms aT aS;simp only[go_sem,go_sem_proc,nV,cm,bL,hm,aj] at aT aS;subst aT aS;clear cm bL hm Q d1 aN;clear b7 M;rintro i tm m Q hm ⟨M,bL,aN⟩;simp only[go_sem,go_sem_proc,nV,bf] at Q hm;have cm:=Q;rcases dF (i<D bI) with aA|b7
 ·have d1:decide ((i:Int)<(D bI:Int))=true:=dp;have b5:=e9 (i:=i) (by omega);obtain⟨⟨⟨f1,f2⟩,⟨f3,f4⟩⟩,O⟩:∃x,bI[i]?=some x:=⟨_,bz aA⟩;rcases q:yT ((f1,f2),(f3,f4)) 8
  ·rw[SY O q,fu];refine aZ ?_;repeat' (intro h<;>simp only[h,go_sem,go_sem_proc,nV,cm,bL,hm,O,d1,q,aE,aj,bn,dH]<;>try refine ax ?_ ?_)
  ·refine aZ ?_;repeat' (intro h<;>simp only[h,go_sem,go_sem_proc,nV,cm,bL,hm,O,d1,b5,q,aE,aj,bn,c5]<;>try refine ax ?_ ?_)
   exact⟨i+1,by omega,by omega,rfl,by rw[Qq O,aN,q];rfl⟩
 have d1:decide ((i:Int)<(D bI:Int))=false:=dn;rw[dB (by omega)] at aN;rw[aN,g3];simp only[go_sem,go_sem_proc,nV,cm,bL,hm,d1,aj];refine dw [5] [369005] (λ(i:Nat) tm m=>i<=D fl/\tm 9=.J (.int .i64 i)/\(fl.take i).all (λr => !decide ((D r:Int)>12))=true) (λi=>D fl-i) 0 (by refine⟨by omega,rfl,rfl⟩) ?_;intro vs ms aT aS;simp only[go_sem,go_sem_proc,nV,cm,bL,hm,aj] at aT aS;subst aT aS;clear cm bL hm Q d1 aN;clear b7 M;rintro i tm m Q hm ⟨M,bL,aN⟩;simp only[go_sem,go_sem_proc,nV,bf] at Q hm;have cm:=Q;rcases dF (i<D fl) with aA|b7
 ·have d1:decide ((i:Int)<(D fl:Int))=true:=dp;have b5:=e9 (i:=i) (by omega);obtain⟨r,O⟩:∃x,fl[i]?=some x:=⟨_,bz aA⟩;rcases q:decide ((D r:Int)>12)
  ·refine aZ ?_;repeat' (intro h<;>simp only[h,go_sem,go_sem_proc,nV,cm,bL,hm,O,d1,b5,q,fj,aj,bn]<;>try refine ax ?_ ?_)
   exact⟨i+1,by omega,by omega,rfl,by rw[Qq O,aN,q];rfl⟩
  ·rw[SY O (by rw[q];rfl)];refine aZ ?_;repeat' (intro h<;>simp only[h,go_sem,go_sem_proc,nV,cm,bL,hm,O,d1,q,fj,aj,bn]<;>try refine ax ?_ ?_)
 have d1:decide ((i:Int)<(D fl:Int))=false:=dn;rw[dB (by omega)] at aN;rw[aN];refine aZ ?_;repeat' (intro h<;>simp only[h,go_sem,go_sem_proc,nV,cm,bL,hm,d1,aj]<;>try refine ax ?_ ?_)
def acm:=cu SK λ(l,m)=>cU (D l<=1000000/\D m<=1000000) (.same (.bool (decide (l=m))))
@[go_sem] theorem aD3 (l:List Int)(m:List Int)(H:(D l)<=1000000/\D m<=1000000):acm [.Y (l.map ae),.Y (m.map ae)]=some (.same (.bool (decide (l=m)))):=(cD amw (l,m)).trans (cZ H _)
theorem aD4 (T:bl)  (l:List Int) (m:List Int) (H:(D l)<=1000000/\D m<=1000000):WP T acd (.same (.bool (decide (l=m)))) [.J (.Y (l.map ae)),.J (.Y (m.map ae))]:=by
 refine cE ?_;simp only[acd];obtain⟨F,I⟩:=H;rcases q:((D l:Int)==(D m:Int))
 ·have bE:decide (l=m)=false:=mw λe=>by rw[e,beq_self_eq_true] at q;cases q
  refine aZ ?_;repeat' (intro h<;>simp only[h,go_sem,go_sem_proc,q,bE,aj,bne,dH]<;>try refine ax ?_ ?_)
 have ar:(D l)=D m:=by have:=eq_of_beq q;omega
 simp only[go_sem,go_sem_proc,q,aj,bne,c5];refine dw [0,1] [] (λ(i:Nat) tm _=>i<=D l/\l.take i=m.take i/\tm 5=.J (.int .i64 i)) (λi=>D l-i) 0 (by refine⟨by omega,by simp,rfl⟩) ?_;intro vs ms aT aS;simp only[go_sem,go_sem_proc,aj] at aT aS;subst aT aS;rintro i tm mem Q-⟨M,bD,cm⟩;simp only[go_sem,go_sem_proc,bf] at Q;obtain⟨bC,az⟩:=Q;rcases dF (i<D l) with aA|b7
 ·have d3:decide ((i:Int)<(D l:Int))=true:=dp;have b5:=e9 (i:=i) (by omega);obtain⟨x,O⟩:∃x,l[i]?=some x:=⟨_,bz aA⟩;obtain⟨y,aw⟩:∃y,m[i]?=some y:=⟨_,bz (by omega)⟩;rcases eV:(x==y)
  ·have bE:decide (l=m)=false:=mw λe=>by
    rw[e,aw] at O
    cases O;rw[beq_self_eq_true] at eV
    cases eV
   refine aZ ?_;repeat' (intro h<;>simp only[h,go_sem,go_sem_proc,bC,az,cm,O,aw,d3,eV,bE,ae,aj,bn,bne,dH]<;>try refine ax ?_ ?_)
  ·obtain rfl:x=y:=eq_of_beq eV;refine aZ ?_;repeat' (intro h<;>simp only[h,go_sem,go_sem_proc,bC,az,cm,O,aw,d3,b5,eV,ae,aj,bn,bne,c5]<;>try refine ax ?_ ?_)
   refine⟨i+1,by omega,by omega,?_,rfl⟩
   rw[hc,hc,bD,O,aw]
 ·have d3:decide ((i:Int)<(D l:Int))=false:=dn
  have he:decide (l=m)=true:=kf (by
   rw[dB (by omega),dB (by omega)] at bD;exact bD)
  refine aZ ?_;repeat' (intro h<;>simp only[h,go_sem,go_sem_proc,bC,az,cm,d3,he,aj]<;>try refine ax ?_ ?_)
def acn:=cu Ns λ(l,n)=>cU (D l<=1000000) (.same (.bool (decide (n∈l))))
@[go_sem] theorem aD5 (l:List Int)(n:Int)(H:(D l)<=1000000):acn [.Y (l.map ae),.int .i64 n]=some (.same (.bool (decide (n∈l)))):=(cD abJ (l,n)).trans (cZ H _)
theorem aD6 (T:bl)  (l:List Int) (n:Int) (H:(D l)<=1000000):WP T ace (.same (.bool (decide (n∈l)))) [.J (.Y (l.map ae)),.J (.int .i64 n)]:=by
 refine cE ?_;simp only[ace];simp only[go_sem,go_sem_proc,aj];refine dw [0,1] [] (λ(i:Nat) tm _=>i<=D l/\n ∉ l.take i/\tm 5=.J (.int .i64 i)) (λi=>D l-i) 0 (by refine⟨by omega,by simp,rfl⟩) ?_;intro vs ms aT aS;simp only[go_sem,go_sem_proc,aj] at aT aS;subst aT aS;rintro i tm mem Q-⟨M,bD,cm⟩;simp only[go_sem,go_sem_proc,bf] at Q;obtain⟨bC,az⟩:=Q;rcases dF (i<D l) with aA|b7
 ·have d3:decide ((i:Int)<(D l:Int))=true:=dp;have b5:=e9 (i:=i) (by omega);obtain⟨x,O⟩:∃x,l[i]?=some x:=⟨_,bz aA⟩;rcases eV:(x==n)
  ·refine aZ ?_;repeat' (intro h<;>simp only[h,go_sem,go_sem_proc,bC,az,cm,O,d3,b5,eV,ae,aj,bn]<;>try refine ax ?_ ?_)
   refine⟨i+1,by omega,by omega,λhm=>?_,rfl⟩
   rw[hc,O] at hm;rcases jk.1 hm with hm|hm
   ·exact bD hm
   ·simp at hm;exact (beq_eq_false_iff_ne.1 eV) hm.symm
  ·obtain rfl:x=n:=eq_of_beq eV;rw[kf (ei O)];refine aZ ?_;repeat' (intro h<;>simp only[h,go_sem,go_sem_proc,bC,az,cm,O,d3,eV,ae,aj,bn]<;>try refine ax ?_ ?_)
 ·have d3:decide ((i:Int)<(D l:Int))=false:=dn;rw[dB (by omega)] at bD;rw[mw bD];refine aZ ?_;repeat' (intro h<;>simp only[h,go_sem,go_sem_proc,bC,az,cm,d3,aj]<;>try refine ax ?_ ?_)
structure aco (E:List Int) (cs:List au) (ak:List bg) (ps:List Rat):Prop where
 n:(D E)<=1000000
 c:(D cs)<=1000000
 h:fN ak
 p:fN (ps.map av)
 C9:m1 E cs ak (ps.map av)=true->ku E cs ps
def Jo (E:List Int)(cs:List au)(ak:List bg)(ps:List Rat):List Int:=if m1 E cs ak (ps.map av)=true then ga cs ps (D E) else []
abbrev acp:(List Int)×(List au)×(List bg)×(List Rat)×(List (List Int))->List Data:=λ(E,cs,ak,ps,fl)=>[.Y (E.map ae),.Y (cs.map ck),.agg (kT ak (ps.map av) fl)]
def NI:=cu acp λ(E,cs,ak,ps,fl)=>cU (aco E cs ak ps) (.same (.Y ((Jo E cs ak ps).map ae)))
theorem aD7:∀a b,acp a=acp b->a=b:=by
  rintro⟨uO,uP,ki,Iy,za⟩ ⟨uQ,n3,oJ,Iz,zb⟩ h;simp only[bf,Data.Y.injEq,Data.agg.injEq,and_true] at h;obtain⟨F,I,af⟩:=h;obtain⟨rfl,aO,rfl⟩:=ana af;rw[map_inj fh _ _ F,map_inj r0 _ _ I,map_inj (λ_ _ aR=>ui aR) _ _ aO]
@[go_sem] theorem anb (E:List Int)(cs:List au)(ak:List bg)(ps:List Rat)(fl:List (List Int))(H:aco E cs ak ps):NI [.Y (E.map ae),.Y (cs.map ck),.agg (kT ak (ps.map av) fl)]=some (.same (.Y ((Jo E cs ak ps).map ae))):=(cD aD7 (E,cs,ak,ps,fl)).trans (cZ H _)
theorem aD8 (T:bl)(pK:T KU=aW SW)(kd:T DW=aW Nx)(E:List Int)(cs:List au)(ak:List bg)(ps:List Rat)(fl:List (List Int))(H:aco E cs ak ps):WP T XE (.same (.Y ((Jo E cs ak ps).map ae))) [.J (.Y (E.map ae)),.J (.Y (cs.map ck)),.J (.agg (kT ak (ps.map av) fl))]:=by
 refine cE ?_;simp only[XE];have ab:=amS E cs ak (ps.map av) fl ⟨H.n,H.c,H.h,H.p⟩;have qh:=H.C9;clear H;unfold Jo;rcases gU:m1 E cs ak (ps.map av)
 ·rw[gU] at ab;rw[ah (by decide)];simp only[eO] at ab;generalize ps.map av=Jn at *;refine aZ ?_;repeat' (intro h<;>simp only[h,go_sem,go_sem_proc,pK,kd,kT,ab,dH,cY]<;>try refine ax ?_ ?_)
 rw[gU] at ab;rw[ad rfl];have U:=abS E cs ak ps fl (qh gU);simp only[eO] at ab U;generalize ps.map av=Jn at *;generalize ga cs ps (D E)=S at *;refine aZ ?_;repeat' (intro h<;>simp only[h,go_sem,go_sem_proc,pK,kd,kT,ab,U,c5]<;>try refine ax ?_ ?_)
def acq:=cu GM λ(a,b)=>cU (dC a/\dC b) (.same (.Y ([av (a:Rat),av (b:Rat)].map aE)))
@[go_sem] theorem acr (a:Int)(b:Int)(H:dC a/\dC b):acq [.int .i64 a,.int .i64 b]=some (.same (.Y ([av (a:Rat),av (b:Rat)].map aE))):=(cD Pg (a,b)).trans (cZ H _)
theorem aD9 (T:bl)(lq:T Gx=aW HB)(a:Int)(b:Int)(H:dC a/\dC b):WP T aci (.same (.Y ([av (a:Rat),av (b:Rat)].map aE))) [.J (.int .i64 a),.J (.int .i64 b)]:=by
 refine cE ?_;simp only[aci];obtain⟨F,I⟩:=H;have AW:=am9 F;have wo:=am9 I;generalize av (a:Rat)=A at *;generalize av (b:Rat)=B at *;obtain⟨⟨c0,dj⟩,⟨a3,a4⟩⟩:=A;obtain⟨⟨di,eK⟩,⟨j7,mc⟩⟩:=B;simp only[aE] at AW wo;refine aZ ?_;repeat' (intro h<;>simp only[h,go_sem,go_sem_proc,lq,AW,wo,aE,eA,cY]<;>try refine ax ?_ ?_)
end Go.Mini
