/- A part of the proof. -/
import Derived.LoopN
import Derived.Laws.BitsLemmas
import Derived.ChangeSame
import Derived.Handed
import Derived.JoinedOf
import Derived.JoinedCond
import Derived.OpenShut
import Derived.ProofKit
import Derived.Test.YtgpioapepokkbaaGreatM01
set_option linter.unusedSimpArgs false
set_option linter.unusedVariables false
set_option maxRecDepth 100000
set_option maxHeartbeats 4000000
noncomputable section
open Bool renaming and_eq_true->eM,and_false->hP,and_true->zN,false_and->fu,false_eq_true->kX,false_or->pW,not_false->dH,not_true->c5,or_false->lW,or_true->vn,true_and->g3,true_or->sA
open Classical renaming choose->tJ,choose_spec->po
open Decidable renaming em->dF
open Int renaming add_comm->yB,add_mul->tY,add_mul_ediv_left->afm,add_mul_emod_self_left->afo,add_zero->xd,bmod_def->aeS,cast_ofNat_Int->l0,ediv_eq_zero_of_lt->VU,ediv_lt_of_lt_mul->afp,ediv_nonneg->VW,emod_add_mul_ediv->BV,emod_emod_of_dvd->aeT,emod_eq_of_lt->VV,emod_lt_of_pos->VY,emod_nonneg->VX,lt_trichotomy->yD,mul_add->iu,mul_assoc->iv,mul_comm->nx,mul_le_mul->VP,mul_le_mul_of_nonneg_left->z2,mul_le_mul_of_nonneg_right->m9,mul_left_comm->VZ,mul_nonneg->yA,mul_one->vA,mul_right_comm->B4,mul_sub->GS,mul_zero->ua,natAbs_mul->qM,natCast_ediv->afl,natCast_emod->afn,natCast_mul->afI,natCast_pow->Ea,natCast_zero->lC,one_mul->oe,pow_add->afj,pow_pos->G8,pow_succ->nw,sign_eq_neg_one_of_neg->rJ,sign_eq_one_of_pos->jY,sign_mul_natAbs->Wl,sign_neg->Ef,sign_trichotomy->afT,sub_mul->afA,sub_zero->La,tdiv_eq_ediv_of_nonneg->GX,tmod_eq_emod_of_nonneg->Lb,toNat->DO,toNat_natCast->l1,zero_add->D8
open List renaming all_cons->Gq,all_eq_true->jh,append_assoc->gW,append_inj->GL,append_nil->fE,concat_eq_append->BM,cons_append->jT,drop->gL,drop_append->rA,drop_drop->Gk,drop_eq_getElem_cons->ij,drop_eq_nil_of_le->kY,drop_left->T4,drop_length->T7,drop_set_of_lt->tB,drop_zero->lV,eq_nil_of_length_eq_zero->oM,eq_nil_or_concat->BL,flatMap_cons->qE,flatten_cons->jt,getElem?_append->FW,getElem?_drop->k3,getElem?_eq_getElem->bz,getElem?_eq_some_iff->dD,getElem?_map->bn,getElem?_take_of_lt->pU,getElem_set_self->z6,length->D,length_append->fr,length_cons->h0,length_drop->rB,length_eq_one_iff->aep,length_map->aj,length_nil->jy,length_range->sC,length_set->hn,length_take->fI,mapM_cons->ju,mapM_nil->wU,map_cons->eA,map_nil->cY,mem_append->jk,mem_attach->aeu,mem_cons->hH,mem_flatMap->yi,mem_iff_getElem?->tL,mem_map->dT,mem_of_getElem?->ei,mem_of_mem_drop->Lh,mem_of_mem_take->F8,mem_range->gX,mem_replicate->GU,mem_singleton->ub,nil_append->jm,range->dW,replicate->dG,replicate_succ->pO,take->gu,take_add_one->hc,take_append_drop->BJ,take_left->T3,take_of_length_le->dB,take_succ_cons->wT,take_zero->nu
open List.cons renaming inj->w9,injEq->bf
open Nat renaming add_assoc->qu,add_mul->qn,add_sub_cancel_left->Gu,add_zero->n1,and_two_pow_sub_one_eq_mod->aeU,div_eq_of_lt->T6,div_lt_iff_lt_mul->aeR,eq_zero_or_pos->k4,le_refl->b1,le_trans->eU,lt_of_le_of_lt->vD,lt_or_ge->ih,min_eq_left->oL,mod_eq_of_lt->KA,mul_comm->rC,mul_le_mul_left->afK,mul_one->cI,pow_le_pow_right->xe,pow_succ->wW,strongRecOn->TV,zero_add->jv,zero_le->fk,zero_mul->DJ
open Option renaming bind_eq_bind->hk,bind_eq_some_iff->eo,bind_some->ir,map_eq_some_iff->dV,map_some->k5,pure_def->ha
open Option.some renaming inj->nt,injEq->ca
open Prod renaming ext->dR,ext_iff->yx
open Prod.mk renaming injEq->fD
namespace Go.Mini
open Go
variable {P:Program} {T:bl} {A:Nat->Prop} {ez w:World} {hl B:Lay} {mem:Mem} {n kb:Nat} {own:List Nat} {aM:Exit->Act->World->Prop}
theorem aej {k:Key}{aX mx:Nat->Prop}{bu:Lay}{v:Value}{sz:Nat}{e:my}(he:B k=some e)(ak:bt w aX bu .nil v):bt w mx B (.ref k e.g sz 0 0) v:=by
 cases ak;exact .ref he (b1 _) ⟨_,0,rfl,b1 _,fk _,.inl rfl⟩
theorem DG {k:Key}{g i:Nat}{cs:List R}{m m':R}{w1:World}(bW:fp A w B mem)(Q:mem k=some (g,cs))(M:cs[i]?=some m)
  (ak:∀e b v,B k=some e->e.df=some b->w.cell? ⟨b,i,none⟩=some v->bt w (b6 A B) B m' v):∃bu,eD A w B w bu (a1 mem k g (cs.set i m')):=by
 obtain⟨e,he,b7,aK,ag⟩:=bW.at_ Q
 have ok:=eD.change (k:=k) (e':=e) (cs:=cs.set i m') bW (Fr.refl _ w) (λaD fs => .inl (by rw[he] at fs;cases fs;rfl)) (λb eJ => .inr ⟨e,he,eJ⟩) (λh=>by
  have:=aK h;subst this
  rfl) (λb eJ=>by
  obtain⟨vs,T,aR,aV,hle,b2⟩:=ag b eJ;refine⟨vs,T,aR,aV,by simpa using hle,λj x O=>?_⟩
  by_cases lA:i=j
  ·subst lA;have aA:i<D cs:=(dD.1 M).1;rw[List.getElem?_set_self aA] at O
   cases O;have oJ:i<vs.size:=by omega
   exact⟨vs[i],Array.getElem?_eq_getElem oJ,ak e b _ he eJ (by rw[cell_of_row w b i vs T (0,0) aR];exact Array.getElem?_eq_getElem oJ)⟩
  ·rw[List.getElem?_set_ne lA] at O;obtain⟨v,Ks,ab⟩:=b2.get O;refine⟨v,?_,ab⟩;have aA:j<D cs:=(dD.1 O).1;rw[pU aA,Array.getElem?_toList] at Ks;exact Ks)
 rw[b7] at ok;exact⟨_,ok⟩
theorem eD.move {k k':Key}{g:Nat}{cs:List R}{e:my}(h:fp A w B mem)(Q:mem k=some (g,cs))(he:B k=some e)(bE:k'≠k):
  eD A w B w (gn (gn B k ⟨bX mem k,none,0⟩) k' ⟨bX mem k',e.df,e.size⟩) (a1 (a1 mem k (bX mem k) []) k' (bX mem k') cs):=by
 have pS:∀b,sl (gn (gn B k ⟨bX mem k,none,0⟩) k' ⟨bX mem k',e.df,e.size⟩) b->sl B b:=by
  rintro b ⟨j,aD,ai,ag⟩
  by_cases F:j=k'
  ·subst F;rw[hj] at ai
   cases ai;exact⟨k,e,he,ag⟩
  ·rw[g9 _ _ F] at ai
   by_cases I:j=k
   ·subst I;rw[hj] at ai
    cases ai
    cases ag
   ·rw[g9 _ _ I] at ai;exact⟨j,aD,ai,ag⟩
 have m2:Trans A w B w (gn (gn B k ⟨bX mem k,none,0⟩) k' ⟨bX mem k',e.df,e.size⟩):=by
  refine⟨b1 _,λb _ ag=>⟨rfl,λbM=>ag (.inl (pS b bM))⟩,λj aD ai=>?_⟩
  by_cases F:j=k'
  ·subst F;exact⟨_,hj _ _ _,.inr (Dm h j aD ai)⟩
  ·rw[g9 _ _ F]
   by_cases I:j=k
   ·subst I;exact⟨_,hj _ _ _,.inr (Dm h j aD ai)⟩
   ·rw[g9 _ _ I];exact⟨aD,ai,.inl rfl⟩
 refine⟨⟨λj ai=>?_,λj lP az aD b F I kl eJ=>?_,λb aN bM=>h.sep b aN (pS b bM),h.lt,λj cp n3 ai=>?_⟩,m2,Fr.refl _ _,λb ag => .inl (pS b ag)⟩
 ·simp only[a1] at ai
  by_cases F:j=k'
  ·simp[F] at ai
  ·by_cases I:j=k
   ·rw[ah F,ad I] at ai
    cases ai
   ·simp only[F,I,if_false] at ai;rw[g9 _ _ F,g9 _ _ I];exact h.Bi j ai
 ·have main:∀(j:Key) (az:my),gn (gn B k ⟨bX mem k,none,0⟩) k' ⟨bX mem k',e.df,e.size⟩ j=some az->az.df=some b->(j=k'/\e.df=some b)\/(j≠k'/\j≠k/\B j=some az):=by
   intro j az ai ag
   by_cases F:j=k'
   ·subst F;rw[hj] at ai
    cases ai;exact .inl ⟨rfl,ag⟩
   ·rw[g9 _ _ F] at ai
    by_cases I:j=k
    ·subst I;rw[hj] at ai
     cases ai
     cases ag
    ·rw[g9 _ _ I] at ai;exact .inr ⟨F,I,ai⟩
  rcases main j az F kl with ⟨eX,km⟩|⟨eX,s1,km⟩<;>rcases main lP aD I eJ with ⟨eg,kI⟩|⟨eg,s2,kI⟩
  ·rw[eX,eg]
  ·exact absurd (h.inj k lP e aD b he kI km eJ).symm s2
  ·exact absurd (h.inj k j e az b he km kI kl).symm s1
  ·exact h.inj j lP az aD b km kI kl eJ
 ·simp only[a1] at ai
  by_cases F:j=k'
  ·subst F;simp only[if_true,ca,fD] at ai;obtain⟨rfl,rfl⟩:=ai;obtain⟨bC,Kt,bc,aK,ag⟩:=h.df k g cs Q;rw[he] at Kt
   cases Kt;refine⟨_,hj _ _ _,rfl,aK,λb jL=>?_⟩;obtain⟨vs,T,af,aO,br,bR⟩:=ag b jL;exact⟨vs,T,af,aO,br,λi m M=>let ⟨v,ak,ab⟩:=bR i m M;⟨v,ak,ab.rb m2⟩⟩
  ·simp only[F,if_false] at ai;rw[g9 _ _ F]
   by_cases I:j=k
   ·subst I;simp only[if_true,ca,fD] at ai;obtain⟨rfl,rfl⟩:=ai;exact⟨_,hj _ _ _,rfl,λ_=>rfl,λb ag=>by cases ag⟩
   ·simp only[I,if_false] at ai;rw[g9 _ _ I];obtain⟨bC,Kt,bc,aK,ag⟩:=h.df j cp n3 ai;refine⟨bC,Kt,bc,aK,λb jL=>?_⟩;obtain⟨vs,T,af,aO,br,bR⟩:=ag b jL;exact⟨vs,T,af,aO,br,λi m M=>let ⟨v,ak,ab⟩:=bR i m M;⟨v,ak,ab.rb m2⟩⟩
theorem hG.ghost {a:Act}{st:bd}{bu:Lay}{mem':Mem}{tm':Nat->R}(h:hG n A ez hl a st w B)(U:eD A w B w bu mem')(bD:∀s,tm' s=st.tm s\/bt w (b6 A bu) bu (tm' s) (a.eval (.tmp s))):
  hG n A ez hl a ⟨tm',mem'⟩ w bu:=by
 refine⟨h.ok.trans U,λs=>?_,h.sz,h.Kh⟩;rcases bD s with F|F
 ·simp only[F];exact (h.tm s).rb U.m2
 ·exact F
theorem aqt {K:bd->Prop}{a:Act}{st:bd}{g:NX}(h:hG n A ez hl a st w B)(Q:kD K st g):∃dS bu,K dS/\hG n A ez hl a dS w bu:=by
 have tv:∀x:bU,∃v,bt w (b6 A B) B (ba st.tm x) v\/∃m,x=.c m:=λx=>by
  cases x with
  |t s=>exact⟨_,.inl (h.tm s)⟩
  |c m=>exact⟨undef,.inr ⟨m,rfl⟩⟩
 cases g with
 |np s k sz =>
  simp only[kD] at Q
  split at Q
  ·rename_i U;have ok:=eD.x9 h.ok.dZ k;refine⟨_,_,Q,h.ghost ok λt=>?_⟩
   by_cases tE:t=s
   ·subst tE;have:=h.tm t;rw[U] at this;simp only[e6,if_true];exact .inr (aej (e:=⟨bX st.mem k,none,0⟩) (hj _ _ _) this)
   ·exact .inl (by simp[e6,tE])
  ·cases Q
 |freeze s =>
  simp only[kD] at Q
  split at Q
  ·rename_i k g sz off len U
   split at Q
   ·rename_i c8 cs gp
    split at Q
    ·rename_i bc;obtain⟨rfl,_⟩:=bc
     split at Q
     ·rename_i d aa;have ok:=eD.x9 h.ok.dZ k;refine⟨_,_,Q,h.ghost ok λt=>?_⟩
      by_cases tE:t=s
      ·subst tE;have ak:=h.tm t;rw[U] at ak aa;simp only[e6,if_true];exact .inr (.J (Kp h.ok.dZ gp aa ak))
      ·exact .inl (by simp[e6,tE])
     ·cases Q
    ·cases Q
   ·cases Q
  ·cases Q
 |NY x i k sz =>
  simp only[kD] at Q
  split at Q
  ·rename_i kc g off O
   split at Q
   ·rename_i c8 cs gp
    split at Q
    ·rename_i bc;subst bc
     split at Q
     ·rename_i H
      split at Q
      ·rename_i bE;have ok:=eD.x9 h.ok.dZ k;have tF:a1 st.mem k (bX st.mem k) [] kc=some (c8,cs):=by simp[a1,Ne.symm bE,gp]
       obtain⟨e,he,b7,aK,ag⟩:=h.ok.dZ.at_ gp
       obtain⟨bu,tG⟩:=DG (w1:=w) (m':=.ref k (bX st.mem k) sz 0 0) ok.dZ tF H (λaD b v fs eJ ak=>by
        rw[g9 B _ (Ne.symm bE)] at fs;rw[he] at fs
        cases fs;obtain⟨vs,T,aR,aV,hle,b2⟩:=ag b eJ;have aA:off+i<D cs:=(dD.1 H).1;rw[cell_of_row w b (off+i) vs T (0,0) aR] at ak;have ab:=b2.2 (off+i) _ v H (by rw[pU aA,Array.getElem?_toList];exact ak);exact aej (e:=⟨bX st.mem k,none,0⟩) (hj _ _ _) ab)
       exact⟨_,bu,Q,h.ghost (ok.trans tG) λt => .inl rfl⟩
      ·cases Q
     ·cases Q
    ·cases Q
   ·cases Q
  ·cases Q
 |NZ x i =>
  simp only[kD] at Q
  split at Q
  ·rename_i kc gc off O
   split at Q
   ·rename_i J1 cc aek
    split at Q
    ·rename_i bc;subst bc
     split at Q
     ·rename_i k g sz o len H
      split at Q
      ·rename_i c8 cs gp
       split at Q
       ·rename_i bc;obtain⟨rfl,_,bE⟩:=bc
        split at Q
        ·rename_i d aa;have ok:=eD.x9 h.ok.dZ k;have tF:a1 st.mem k (bX st.mem k) [] kc=some (J1,cc):=by simp[a1,Ne.symm bE,aek]
         obtain⟨e,he,b7,aK,ag⟩:=h.ok.dZ.at_ aek
         obtain⟨bu,tG⟩:=DG (w1:=w) (m':=.J d) ok.dZ tF H (λaD b v fs eJ ak=>by
          rw[g9 B _ (Ne.symm bE)] at fs;rw[he] at fs
          cases fs;obtain⟨vs,T,aR,aV,hle,b2⟩:=ag b eJ;have aA:off+i<D cc:=(dD.1 H).1;rw[cell_of_row w b (off+i) vs T (0,0) aR] at ak;have ab:=b2.2 (off+i) _ v H (by rw[pU aA,Array.getElem?_toList];exact ak);exact .J (Kp h.ok.dZ gp aa ab))
         exact⟨_,bu,Q,h.ghost (ok.trans tG) λt => .inl rfl⟩
        ·cases Q
       ·cases Q
      ·cases Q
     ·cases Q
    ·cases Q
   ·cases Q
  ·cases Q
 |move =>
  rcases Q with Q|⟨fQ,g1,gI,i,k,g,sz,off,len,cs,k',h3,H,yn,F,I,af,Q⟩|⟨fQ,g1,gI,i,k,g,sz,off,len,cs,d,h3,H,gp,-,bE,aa,Q⟩
  ·exact⟨st,B,Q,h⟩
  ·obtain⟨e,he,b7,aK,ag⟩:=h.ok.dZ.at_ yn;have ok:=eD.move h.ok.dZ yn he I;have tF:a1 (a1 st.mem k (bX st.mem k) []) k' (bX st.mem k') cs fQ=some (g1,gI):=by simp[a1,Ne.symm F,Ne.symm af,h3]
   obtain⟨ex,hex,ael,hN,Ku⟩:=h.ok.dZ.at_ h3
   obtain⟨bu,tG⟩:=DG (w1:=w) (m':=.ref k' (bX st.mem k') sz off len) ok.dZ tF H (λaD b v fs eJ ak=>by
    rw[g9 _ _ (Ne.symm af),g9 _ _ (Ne.symm F)] at fs;rw[hex] at fs
    cases fs;obtain⟨vs,T,aR,aV,hle,b2⟩:=Ku b eJ;have aA:i<D gI:=(dD.1 H).1;rw[cell_of_row w b i vs T (0,0) aR] at ak;have ab:=b2.2 i _ v H (by rw[pU aA,Array.getElem?_toList];exact ak)
    cases ab with
    |ref fs hgle ab =>
     rw[he] at fs
     cases fs;obtain⟨a,cap,rfl,aO,br,bR⟩:=ab;refine .ref (hj _ _ _) (b1 _) ⟨a,cap,rfl,aO,br,bR.imp id ?_⟩;rintro⟨ew,rfl,bN⟩;exact⟨ew,rfl,λ_=>bN b7.symm⟩)
   exact⟨_,bu,Q,h.ghost (ok.trans tG) λt => .inl rfl⟩
  ·have ok:=eD.x9 h.ok.dZ k;have tF:a1 st.mem k (bX st.mem k) [] fQ=some (g1,gI):=by simp[a1,Ne.symm bE,h3]
   obtain⟨e,he,b7,aK,ag⟩:=h.ok.dZ.at_ h3
   obtain⟨bu,tG⟩:=DG (w1:=w) (m':=.J d) ok.dZ tF H (λaD b v fs eJ ak=>by
    rw[g9 B _ (Ne.symm bE)] at fs;rw[he] at fs
    cases fs;obtain⟨vs,T,aR,aV,hle,b2⟩:=ag b eJ;have aA:i<D gI:=(dD.1 H).1;rw[cell_of_row w b i vs T (0,0) aR] at ak;have ab:=b2.2 i _ v H (by rw[pU aA,Array.getElem?_toList];exact ak);exact .J (Kp h.ok.dZ gp aa ab))
   exact⟨_,bu,Q,h.ghost (ok.trans tG) λt => .inl rfl⟩
 |many =>
  obtain⟨mem',TS,Q⟩:=Q
  have main:∀{lB dA:Mem},tn lB dA->∀B,hG n A ez hl a ⟨st.tm,lB⟩ w B->∃bu,hG n A ez hl a ⟨st.tm,dA⟩ w bu:=by
   intro lB dA TS
   induction TS with
   |refl mem=>exact λB h=>⟨B,h⟩
   | @step lB dA cX U _ ay =>
    intro B h
    have one:∃bu,hG n A ez hl a ⟨st.tm,dA⟩ w bu:=by
     cases U with
     |N6 fQ g1 gI i k g sz off len cs k' h3 H yn F I af =>
      obtain⟨e,he,b7,aK,ag⟩:=h.ok.dZ.at_ yn;have ok:=eD.move h.ok.dZ yn he I;have tF:a1 (a1 lB k (bX lB k) []) k' (bX lB k') cs fQ=some (g1,gI):=by simp[a1,Ne.symm F,Ne.symm af,h3]
      obtain⟨ex,hex,ael,hN,Ku⟩:=h.ok.dZ.at_ h3
      obtain⟨bu,tG⟩:=DG (w1:=w) (m':=.ref k' (bX lB k') sz off len) ok.dZ tF H (λaD b v fs eJ ak=>by
       rw[g9 _ _ (Ne.symm af),g9 _ _ (Ne.symm F)] at fs;rw[hex] at fs
       cases fs;obtain⟨vs,T,aR,aV,hle,b2⟩:=Ku b eJ;have aA:i<D gI:=(dD.1 H).1;rw[cell_of_row w b i vs T (0,0) aR] at ak;have ab:=b2.2 i _ v H (by rw[pU aA,Array.getElem?_toList];exact ak)
       cases ab with
       |ref fs hgle ab =>
        rw[he] at fs
        cases fs;obtain⟨a,cap,rfl,aO,br,bR⟩:=ab;refine .ref (hj _ _ _) (b1 _) ⟨a,cap,rfl,aO,br,bR.imp id ?_⟩;rintro⟨ew,rfl,bN⟩;exact⟨ew,rfl,λ_=>bN b7.symm⟩)
      exact⟨bu,h.ghost (ok.trans tG) λt => .inl rfl⟩
     |acX fQ g1 gI i k g off cs k' h3 H yn F I af =>
      obtain⟨e,he,b7,aK,ag⟩:=h.ok.dZ.at_ yn;have ok:=eD.move h.ok.dZ yn he I;have tF:a1 (a1 lB k (bX lB k) []) k' (bX lB k') cs fQ=some (g1,gI):=by simp[a1,Ne.symm F,Ne.symm af,h3]
      obtain⟨ex,hex,ael,hN,Ku⟩:=h.ok.dZ.at_ h3
      obtain⟨bu,tG⟩:=DG (w1:=w) (m':=.ptr k' (bX lB k') off) ok.dZ tF H (λaD b v fs eJ ak=>by
       rw[g9 _ _ (Ne.symm af),g9 _ _ (Ne.symm F)] at fs;rw[hex] at fs
       cases fs;obtain⟨vs,T,aR,aV,hle,b2⟩:=Ku b eJ;have aA:i<D gI:=(dD.1 H).1;rw[cell_of_row w b i vs T (0,0) aR] at ak;have ab:=b2.2 i _ v H (by rw[pU aA,Array.getElem?_toList];exact ak)
       cases ab with
       |ptr fs hgle ab =>
        rw[he] at fs
        cases fs;obtain⟨ew,rfl,bN⟩:=ab;exact .ptr (hj _ _ _) (b1 _) ⟨ew,rfl,λ_=>bN b7.symm⟩)
      exact⟨bu,h.ghost (ok.trans tG) λt => .inl rfl⟩
     |N7 fQ g1 gI i k g sz off len cs d h3 H gp bE aa =>
      have ok:=eD.x9 h.ok.dZ k;have tF:a1 lB k (bX lB k) [] fQ=some (g1,gI):=by simp[a1,Ne.symm bE,h3]
      obtain⟨e,he,b7,aK,ag⟩:=h.ok.dZ.at_ h3
      obtain⟨bu,tG⟩:=DG (w1:=w) (m':=.J d) ok.dZ tF H (λaD b v fs eJ ak=>by
       rw[g9 B _ (Ne.symm bE)] at fs;rw[he] at fs
       cases fs;obtain⟨vs,T,aR,aV,hle,b2⟩:=ag b eJ;have aA:i<D gI:=(dD.1 H).1;rw[cell_of_row w b i vs T (0,0) aR] at ak;have ab:=b2.2 i _ v H (by rw[pU aA,Array.getElem?_toList];exact ak);exact .J (Kp h.ok.dZ gp aa ab))
      exact⟨bu,h.ghost (ok.trans tG) λt => .inl rfl⟩
    obtain⟨bu,cy⟩:=one;exact ay bu cy
  obtain⟨bu,cy⟩:=main TS B h;exact⟨_,bu,Q,cy⟩
def erase:eC->eC
 |.skip => .skip
 |.ops l => .ops l
 |.nX l c => .nX l c
 |.seq a b => .seq (erase a) (erase b)
 |.cond c a b => .cond c (erase a) (erase b)
 |.block id c => .block id (erase c)
 |.loop c => .loop (erase c)
 |.exit id => .exit id
 |.ret => .ret
 |.ghost _ c=>erase c
def aem:e3->Exit
 |.normal => .normal
 |.exit id => .exit id
 |.ret => .ret
def aqu (P:Program)(n kb:Nat)(own:List Nat)(c:Code):eC->Prop
 |.skip=>c=.skip
 |.ops l=>∃id ops,c=.region id ops false/\ops.toList.mapM (Bm P n kb own ops)=some l
 |.nX l ch=>∃id ops,c=.region id ops true/\ops.toList.mapM (Bm P n kb own ops)=some l/\FT ops l=true/\ch=zw [] l (qs ops.toList [])
 |.seq x y=>∃a b,c=.seq a b/\qt P n kb own a=some x/\qt P n kb own b=some y
 |.cond x y z=>∃jj a b,c=.cond jj a b/\dO jj=some x/\qt P n kb own a=some y/\qt P n kb own b=some z
 |.block id x=>∃a,c=.block id a/\qt P n kb own a=some x
 |.loop x=>∃a,c=.loop a/\qt P n kb own a=some x
 |.exit id=>c=.exit id
 |.ret=>c=.ret
 |.ghost ..=>False
theorem zJ {c:Code}{m:eC}(h:qt P n kb own c=some m):aqu P n kb own c m:=by
 cases c<;>simp only[qt,ca,reduceCtorEq,dV] at h
 case skip=>subst h;rfl
 case region id ops draw =>
  split at h
  ·rename_i l ar
   split at h
   ·rename_i aa;subst aa
    split at h
    ·rename_i cW
     cases h;exact⟨id,ops,rfl,ar,cW,rfl⟩
    ·cases h
   ·rename_i aa
    cases h;exact⟨id,ops,by rw[Bool.not_eq_true] at aa;rw[aa],ar⟩
  ·cases h
 case seq a b =>
  split at h
  ·rename_i x y O aw
   cases h;exact⟨a,b,rfl,O,aw⟩
  ·cases h
 case cond x a b =>
  split at h
  ·rename_i jj y z O aw aV
   cases h;exact⟨x,a,b,rfl,O,aw,aV⟩
  ·cases h
 case block id a =>
  obtain⟨x,O,rfl⟩:=h;exact⟨a,rfl,O⟩
 case loop a =>
  obtain⟨x,O,rfl⟩:=h;exact⟨a,rfl,O⟩
 case exit id=>subst h;rfl
 case ret=>subst h;rfl
theorem BC (cC:qB P T)(hm:P.follows .mixedOrders=true):∀(OI:eC) (c:Code) (K:e3->bd->Prop) (aM:Exit->Act->World->Prop) (st:bd) (a:Act) (w:World) (B:Lay),
  qt P n kb own c=some (erase OI)->hG n A ez hl a st w B->wp T OI K st->(∀e st a w B,K e st->hG n A ez hl a st w B->aM (aem e) a w)->c.wp P aM a w
 |.ghost g OI,c,K,aM,st,a,w,B,aY,U,h,fm=>by
  obtain⟨dS,bu,Q,iQ⟩:=aqt U h;exact BC cC hm OI c K aM dS a w bu aY iQ Q fm
 |.skip,c,K,aM,st,a,w,B,aY,U,h,fm=>by
  obtain rfl:=zJ aY;exact Go.wp_skip (fm .normal st a w B h U)
 |.exit id,c,K,aM,st,a,w,B,aY,U,h,fm=>by
  obtain rfl:=zJ aY;exact Go.wp_exit (fm (.exit id) st a w B h U)
 |.ret,c,K,aM,st,a,w,B,aY,U,h,fm=>by
  obtain rfl:=zJ aY;exact Go.wp_ret (fm .ret st a w B h U)
 |.ops l,c,K,aM,st,a,w,B,aY,U,h,fm=>by
  obtain⟨id,ops,rfl,ar⟩:=zJ aY;have:=TR (aM:=aM) (K:=K .normal) cC ar (λst a w B Q U=>fm .normal st a w B Q U) l 0 st a w B rfl U h;refine Go.wp_region ?_;rw[(oI ar).1,Array.length_toList] at this;rw[List.range_eq_range'];exact this
 |.nX l ch,c,K,aM,st,a,w,B,aY,U,h,fm=>by
  obtain⟨id,ops,rfl,ar,aa,rfl⟩:=zJ aY;exact aqr cC hm ar aa U h λst a w B Q U=>fm .normal st a w B Q U
 |.seq x y,c,K,aM,st,a,w,B,aY,U,h,fm=>by
  obtain⟨jj,y',rfl,O,aw⟩:=zJ aY;refine Go.wp_seq (BC cC hm x jj _ _ st a w B O U h λe dS kE aQ bu Q iQ=>?_)
  cases e with
  |normal=>exact BC cC hm y y' _ _ dS kE aQ bu aw iQ Q fm
  |exit id=>exact fm (.exit id) dS kE aQ bu Q iQ
  |ret=>exact fm .ret dS kE aQ bu Q iQ
 |.cond x y z,c,K,aM,st,a,w,B,aY,U,h,fm=>by
  obtain⟨jj,y',aqv,rfl,O,aw,aV⟩:=zJ aY;have ak:=U.tz jj x O;simp only[wp] at h
  split at h
  ·rename_i t bD;rw[bD] at ak;refine Go.wp_cond ak.Dn ?_
   cases t with
   |true=>exact BC cC hm y y' _ _ st a w B aw U h fm
   |false=>exact BC cC hm z aqv _ _ st a w B aV U h fm
  ·cases h
 |.block id x,c,K,aM,st,a,w,B,aY,U,h,fm=>by
  obtain⟨jj,rfl,O⟩:=zJ aY;refine Go.wp_block (BC cC hm x jj _ _ st a w B O U h λe dS kE aQ bu Q iQ=>?_)
  cases e with
  |normal=>exact fm .normal dS kE aQ bu Q iQ
  |exit j =>
   simp only[aem,Exit.inBlock];simp only at Q
   split
   ·rename_i ai;rw[ad ai] at Q;exact fm .normal dS kE aQ bu Q iQ
   ·rename_i ai;rw[ah ai] at Q;exact fm (.exit j) dS kE aQ bu Q iQ
  |ret=>exact fm .ret dS kE aQ bu Q iQ
 |.loop x,c,K,aM,st,a,w,B,aY,U,h,fm=>by
  obtain⟨jj,rfl,O⟩:=zJ aY;obtain⟨Dl,μ,Kv,OJ⟩:=h
  have key:∀m (st:bd) (a:Act) (w:World) (B:Lay),μ st<m->Dl st->hG n A ez hl a st w B->Code.rounds P jj aM m a w:=by
   intro m
   induction m with
   |zero=>intro st a w B n4;omega
   |succ m ay =>
    intro st a w B n4 Kv U;refine BC cC hm x jj _ _ st a w B O U (OJ st Kv) λe dS kE aQ bu Q iQ=>?_
    cases e with
    |normal=>exact ay dS kE aQ bu (by have:=Q.2;omega) Q.1 iQ
    |exit id=>exact fm (.exit id) dS kE aQ bu Q iQ
    |ret=>exact fm .ret dS kE aQ bu Q iQ
  exact wp_loop_rounds (μ st+1) (key _ st a w B (Nat.lt_succ_self _) Kv U)
end Go.Mini
namespace Go.Mini
open Go
variable {P:Program} {T:bl} {A:Nat->Prop} {ez w:World} {hl B:Lay} {mem:Mem} {n kb:Nat} {own:List Nat}
theorem aqw {a:Act}{st:bd}{r:ResultVar}{dZ:oH}{m:R}(U:hG n A ez hl a st w B)(aY:FU P r=some dZ)(h:FN st dZ=some m):
  ∃v,((match r with
   |.tmp t=>pure (a.tmps.getD t undef)
   |.cell b t=>do loadVar t (<-asAddr (a.tmps.getD b undef)):Sem Value)).run P w=.ok v w/\bt w (b6 A B) B m v:=by
 cases r with
 |tmp t =>
  simp only[FU,ca] at aY;subst aY;simp only[FN,ca] at h;subst h;exact⟨_,rfl,U.tm t⟩
 |cell b t =>
  simp only[FU] at aY
  split at aY
  ·rename_i s g e2 zB;simp only[ca] at aY;subst aY;obtain⟨df,off,ms,vs,ak,ar,b2,cj,ab⟩:=ac4 U.ok.dZ (U.tm b) h;obtain⟨u,F,I⟩:=ac3 (P:=P) e2 zB ar b2 cj ab;refine⟨u,?_,I⟩;have:a.tmps.getD b undef=.pointer (some ⟨df,off,none⟩):=ak;simp only[this,asAddr,Sem.run_bind,Sem.run_pure,Result.andThen_ok];exact F
  ·cases aY
theorem aen {a:Act}{st:bd}(U:hG n A ez hl a st w B):∀{l:List ResultVar} {rs:List oH} {ms:List R},l.mapM (FU P)=some rs->rs.mapM (FN st)=some ms ->
  ∃vs:List Value,(l.mapM λr=>((match r with
   |.tmp t=>pure (a.tmps.getD t undef)
   |.cell b t=>do loadVar t (<-asAddr (a.tmps.getD b undef)):Sem Value))).run P w=.ok vs w/\dq w (b6 A B) B ms vs
 | [],rs,ms,F,I=>by
  simp at F;subst F;simp at I;subst I;exact⟨[],rfl,dq.nil⟩
 |r::l,rs,ms,F,I=>by
  simp only[ju,ha,hk,eo,ca] at F;obtain⟨x,O,xs,BD,rfl⟩:=F;simp only[ju,ha,hk,eo,ca] at I;obtain⟨m,hm,aIV,aS,rfl⟩:=I;obtain⟨v,ak,ab⟩:=aqw U O hm;obtain⟨vs,aT,b2⟩:=aen U BD aS;refine⟨v::vs,?_,dq.cons ab b2⟩;simp only[ju,Sem.run_bind,ak,Result.andThen_ok,aT,Sem.run_pure]
theorem aeo {a:Act}{st:bd}{fn:Func}{rs:List oH}{m:R}(U:hG n A ez hl a st w B)(aY:fn.results.toList.mapM (FU P)=some rs)(h:pM st rs=some m):
  ∃v,(results fn a.tmps).run P w=.ok v w/\bt w (b6 A B) B m v:=by
 unfold pM at h
 have main:∀ms,rs.mapM (FN st)=some ms->∃vs:List Value,(results fn a.tmps).run P w=.ok (if h:vs.toArray.size=1 then vs.toArray[0] else .tuple vs.toArray) w/\dq w (b6 A B) B ms vs:=by
  intro ms aS;obtain⟨vs,F,I⟩:=aen U aY aS;refine⟨vs,?_,I⟩;unfold results;rw[Array.mapM_eq_mapM_toList,map_eq_pure_bind];simp only[Sem.run_bind,Sem.run_pure];have yo:=F;generalize aL:(List.mapM _ fn.results.toList:Sem (List Value))=q;have:q.run P w=.ok vs w:=by rw[<-aL];exact yo
  rw[this]
  rfl
 split at h
 ·rename_i x aS;simp only[ca] at h;subst h;obtain⟨vs,F,I⟩:=main _ aS;have ar:=I.1;simp at ar;obtain⟨v,rfl⟩:=aep.1 ar;exact⟨v,F,I.2 0 _ v rfl rfl⟩
 ·rename_i ms bE aS;simp only[ca] at h;subst h;obtain⟨vs,F,I⟩:=main _ aS;have ar:=I.1;refine⟨_,F,?_⟩
  have:¬ (vs.toArray.size=1):=λh=>by
   have cy:(D ms)=1:=by rw[<-ar];simpa using h
   obtain⟨x,rfl⟩:=aep.1 cy;exact bE x rfl
  rw[dif_neg this];exact .cM ar I.2
 ·cases h
def TT (mf:bY)(Post:R->Mem->Prop):e3->bd->Prop
 |.exit _,_=>False
 |_,st=>∃m,pM st mf.res=some m/\Post m st.mem
theorem Gm (cC:qB P T)(hm:P.follows .mixedOrders=true){f:FuncId}{fn:Func}{mf:bY}(aH:P.funcs[f]?=some fn)(aY:sw P kb own fn=some { mf with body:=erase mf.body }){args:List R}(n2:(D args)<=mf.n)
  {Post:R->Mem->Prop} {K:e3->bd->Prop} (dQ:∀e st,K e st->TT mf Post e st) (h:wp T mf.body K ⟨lv args,mem⟩) {A:Nat->Prop} {w:World} {B:Lay} {vs:List Value} (bW:fp A w B mem) (ak:dq w (b6 A B) B args vs) :
  Calls P f vs.toArray w λe aQ=>∃v m mem' bu,e=.returned v/\eD A w B aQ bu mem'/\bt aQ (b6 A bu) bu m v/\Post m mem':=by
 unfold sw at aY
 split at aY
 ·cases aY
 ·rename_i c ag
  split at aY
  ·rename_i b rs H BE;simp only[ca,bY.mk.injEq] at aY;obtain⟨aK,aIW,vm,aqx⟩:=aY;have e2:(D vs)=D args:=ak.1;refine calls_of_wp aH ag ?_;rw[aqx] at H;refine BC cC hm mf.body c K _ ⟨lv args,mem⟩ _ w B H ⟨.refl bW,λs=>?_,?_,rfl⟩ h λe st a aQ bu yp U=>?_
   ·simp only[lv,Act.eval,Array.getD_eq_getD_getElem?];rcases ih s (D vs) with aA|b7
    ·have F:args[s]?=some args[s]:=bz (by omega)
     have I:(vs.toArray++Array.replicate (fn.ntmps-vs.toArray.size) undef)[s]?=some vs[s]:=by
      rw[Array.getElem?_append_left (by simpa using aA)];simp[aA]
     rw[F,I];exact ak.2 s _ _ F (bz aA)
    ·rw[List.getElem?_eq_none (by omega),Array.getElem?_append_right (by simpa using b7)]
     have:((Array.replicate (fn.ntmps-vs.toArray.size) undef)[s-vs.toArray.size]?).getD undef=undef:=by
      cases aL:(Array.replicate (fn.ntmps-vs.toArray.size) undef)[s-vs.toArray.size]? with
      |none=>rfl
      |some u =>
       have:=Array.mem_of_getElem? aL;simp at this;simp[this.2]
     rw[this];exact .no
   ·simp;omega
   ·have Q:=dQ e st yp
    cases e with
    |exit id=>cases Q
    |normal =>
     obtain⟨m,n4,aG⟩:=Q;obtain⟨v,m5,qw⟩:=aeo U BE (by rw[vm];exact n4);exact⟨U.Kh,v,m5,v,m,_,bu,rfl,U.ok,qw,aG⟩
    |ret =>
     obtain⟨m,n4,aG⟩:=Q;obtain⟨v,m5,qw⟩:=aeo U BE (by rw[vm];exact n4);exact⟨U.Kh,v,m5,v,m,_,bu,rfl,U.ok,qw,aG⟩
  ·cases aY
inductive eR where
 |same (r:Data)
 |own (sz:Nat) (es:List (List Data))
def zK (w:World)(aX:Nat->Prop)(ds:List Data)(vs:List Value):Prop:=D vs=D ds/\∀(i:Nat) (d:Data) (v:Value),ds[i]?=some d->vs[i]?=some v->Den w aX d v
def aqy (w aQ:World)(aX:Nat->Prop):eR->Value->Prop
 |.same r,v=>Den aQ aX r v
 |.own sz es,v=>Bv w aQ aX sz es v
structure tH (P:Program) (f:FuncId) (aP:List Data->Option eR):Prop where
 real:Real P f
 run:∀ds r,aP ds=some r->∀(A:Nat->Prop) (w:World) (vs:List Value),(∀b,A b->b<w.heap.size)->zK w A ds vs ->
  Calls P f vs.toArray w λe aQ=>∃v,e=.returned v/\Fr (λ_=>False) w aQ/\aqy w aQ A r v
def aeq:eR->R->Mem->Prop
 |.same r,m,mem=>∃d,cl d mem m=some r
 |.own sz es,m,mem=>(m=.nil/\es=[])\/∃k g len cs ds d,m=.ref k g sz 0 len/\mem k=some (g,cs)/\len*sz<=D cs/\(cs.take (len*sz)).mapM (cl d (kill mem k))=some ds/\es=chunk sz len ds
def rz (sz:Nat)(mem:Mem):R->Option (List (List Data))
 |.nil=>some []
 |.ref k g ev off len=>if ev=sz/\off=0 then (match mem k with
  |some (c8,cs)=>if c8=g/\len*sz<=(D cs) then ((cs.take (len*sz)).mapM (cl 6 (kill mem k))).map (chunk sz len) else none
  |none=>none) else none
 |_=>none
def zL (res:List oH):eR->bd->Prop
 |.same r,st=>(pM st res).bind (cl 6 st.mem)=some r
 |.own sz es,st=>(pM st res).bind (rz sz st.mem)=some es
def zM (res:List oH)(r:eR):e3->bd->Prop
 |.exit _,_=>False
 |.normal,st=>zL res r st
 |.ret,st=>zL res r st
theorem aer {mf:bY}{r:eR}{st:bd}(h:zL mf.res r st):∃m,pM st mf.res=some m/\aeq r m st.mem:=by
 cases r with
 |same r =>
  simp only[zL,eo] at h;obtain⟨m,F,I⟩:=h;exact⟨m,F,6,I⟩
 |own sz es =>
  simp only[zL,eo] at h;obtain⟨m,F,I⟩:=h;refine⟨m,F,?_⟩
  cases m<;>simp only[rz,ca,reduceCtorEq] at I
  ·exact .inl ⟨rfl,I.symm⟩
  ·split at I
   ·rename_i H;obtain⟨rfl,rfl⟩:=H
    split at I
    ·rename_i c8 cs Q
     split at I
     ·rename_i bc;obtain⟨rfl,hle⟩:=bc;simp only[dV] at I;obtain⟨ds,g2,rfl⟩:=I;exact .inr ⟨_,_,_,cs,ds,6,rfl,Q,hle,g2,rfl⟩
     ·cases I
    ·cases I
   ·cases I
theorem aqz {mf:bY}{r:eR}{e:e3}{st:bd}(h:zM mf.res r e st):TT mf (aeq r) e st:=by
 cases e with
 |exit id=>exact h
 |normal=>exact aer h
 |ret=>exact aer h
theorem OK (b:Nat):¬ sl (λ_=>none) b:=fun⟨_,_,h,_⟩=>by cases h
theorem aqA (cC : qB P T)(hm : P.follows .mixedOrders = true){f : FuncId}{fn : Func}{mf : bY}(aH : P.funcs[f]? = some fn)(tI : (fn.name == "runtime.NumGoroutine") = false)(aY : sw P kb own fn = some { mf with body := erase mf.body })
  {aP:List Data->Option eR} (h:∀ds r,aP ds=some r->(D ds)<=mf.n/\wp T mf.body (zM mf.res r) ⟨lv (ds.map .J),emp⟩):tH P f aP:=by
 refine⟨?_,λds r e8 A w vs aA tx=>?_⟩
 ·cases ag:fn.body with
  |none=>simp[sw,ag] at aY
  |some c=>exact⟨fn,c,aH,ag,tI⟩
 ·obtain⟨hlen,wS⟩:=h ds r e8;have bW:fp A w (λ_=>none) emp:=⟨λ_ _=>rfl,λ_ _ _ _ _ h=>(by cases h),λb _ bM=>OK b bM,aA,λ_ _ _ h=>(by cases h)⟩;have fG:∀b,b6 A (λ_=>none) b->A b:=λb h=>h.elim (λh=>(OK b h).elim) id;have b2:dq w (b6 A λ_=>none) (λ_=>none) (ds.map .J) vs:=dq.J tx.1 λi d v F I=>(tx.2 i d v F I).less fG;refine Calls.mono (Gm cC hm aH aY (by simpa using hlen) (λe st=>aqz) wS bW b2) λe aQ he=>?_;obtain⟨v,m,mem',bu,rfl,U,ak,aG⟩:=he;refine⟨v,rfl,⟨U.aF.os,U.aF.tape,U.aF.output,U.aF.size,λg bc _=>U.aF.block g bc (OK g)⟩,?_⟩
  cases r with
  |same r =>
   obtain⟨d,aa⟩:=aG;exact snap U.dZ (λb ag=>ag) d m v r aa ak
  |own sz es =>
   rcases aG with ⟨rfl,rfl⟩|⟨k,g,len,cs,DF,d,rfl,Q,hle,g2,rfl⟩
   ·cases ak;exact⟨by simp,_,0,rfl,b1 _,fk _,.inl rfl⟩
   ·obtain⟨F,I⟩:=oI g2;have TU:(D DF)=len*sz:=by rw[F,fI];omega
    refine⟨Oi sz len DF TU,?_⟩;rw[Oh,Oj sz len DF TU]
    cases ak with
    |ref he hgle ab =>
     obtain⟨e,gg,b7,aK,ag⟩:=U.dZ.at_ Q;rw[gg] at he;obtain rfl:=nt he;obtain⟨a,cap,rfl,af,aO,br⟩:=ab;refine⟨a,cap,rfl,af,aO,br.imp id ?_⟩;rintro⟨b,rfl,bR⟩;obtain⟨bN,cb⟩:=bR b7.symm;obtain⟨oK,aqB,aR,aV,Kf,zE⟩:=ag b bN;obtain⟨aqC,jx⟩:=kill_shut U.dZ Q gg bN;refine⟨b,oK,aqB,rfl,?_,aR,by simpa [aV] using cb,λi x O=>?_⟩
     ·rcases U.fresh b ⟨k,_,gg,bN⟩ with h|h
      ·exact (OK b h).elim
      ·exact h
     ·have aes:i<D DF:=(dD.1 O).1;have kG:i<D cs:=by omega
      have jP:(cs.take (len*sz))[i]?=some cs[i]:=by
       rw[pU (by omega)];exact bz kG
      have Kr:i<oK.size:=by omega
      refine⟨oK[i],Array.getElem?_eq_getElem Kr,snap aqC (λb ag=>ag) d _ _ x (I i _ x jP O) (jx _ _ (zE.2 i _ _ (bz kG) ?_))⟩;rw[pU kG,Array.getElem?_toList];exact Array.getElem?_eq_getElem Kr
def scalar:Data->Bool
 |.int _ _=>true
 |.bool _=>true
 |.str _=>true
 |.u3=>true
 |.u4=>true
 |.Y []=>true
 |.cM ds=>ds.attach.all fun⟨d,_⟩=>scalar d
 |.agg ds=>ds.attach.all fun⟨d,_⟩=>scalar d
 |_=>false
theorem aet {aX mx:Nat->Prop}{d:Data}{v:Value}(h:scalar d=true)(aa:Den w aX d v):Den w mx d v:=by
 induction aa with
 |int=>exact .int
 |bool=>exact .bool
 |str=>exact .str
 |u3=>exact .u3
 |u4=>exact .u4
 |lO=>exact .lO
 | @Y es b off c sz val ar hm ag fG e2 H aa ay =>
  cases es with
  |nil=>exact .lO
  |cons=>simp[scalar] at h
 |ptr=>simp[scalar] at h
 |fn=>simp[scalar] at h
 | @agg cs vs ar aa ay =>
  simp only[scalar,jh,aeu,true_imp_iff,Subtype.forall] at h;exact .agg ar λi d v F I=>ay i d v F I (h d (ei F))
 | @cM cs vs ar aa ay =>
  simp only[scalar,jh,aeu,true_imp_iff,Subtype.forall] at h;exact .cM ar λi d v F I=>ay i d v F I (h d (ei F))
theorem OL {aX:Nat->Prop}:∀(d:Nat) (m:R) (v:Value) (r:Data),cl d emp m=some r->bt w aX B m v->Den w aX r v:=by
 intro d
 induction d with
 |zero =>
  intro m v r h ak
  cases m<;>simp only[cl,ca,reduceCtorEq] at h
  ·subst h;cases ak with|J h=>exact h
  ·subst h;cases ak;exact .lO
 |succ d ay =>
  intro m v r h ak
  have lists:∀(cs:List R) (vs:List Value) (ds:List Data),cs.mapM (cl d emp)=some ds->(D vs)=(D cs)->(∀(i:Nat) (x:R) (u:Value),cs[i]?=some x->vs[i]?=some u->bt w aX B x u) ->
    (D vs)=D ds/\∀(i:Nat) (x:Data) (u:Value),ds[i]?=some x->vs[i]?=some u->Den w aX x u:=by
   intro cs vs ds g2 ar ab;obtain⟨F,I⟩:=oI g2;refine⟨by omega,λi x u O hu=>?_⟩
   have aA:i<D cs:=by have:=(dD.1 O).1;omega
   have jP:=bz aA;exact ay _ u x (I i _ x jP O) (ab i _ u jP hu)
  cases m<;>simp only[cl,emp,ca,dV,reduceCtorEq] at h
  case J=>subst h;cases ak with|J h=>exact h
  case nil=>subst h;cases ak;exact .lO
  case fz f cs =>
   obtain⟨ds,g2,rfl⟩:=h
   cases ak with
   |fz ar aa=>obtain⟨F,I⟩:=lists _ _ _ g2 ar aa;exact .fn F I
  case agg cs =>
   obtain⟨ds,g2,rfl⟩:=h
   cases ak with
   |agg ar aa=>obtain⟨F,I⟩:=lists _ _ _ g2 ar aa;exact .agg F I
  case cM cs =>
   obtain⟨ds,g2,rfl⟩:=h
   cases ak with
   |cM ar aa=>obtain⟨F,I⟩:=lists _ _ _ g2 ar aa;exact .cM F I
def OM:eR->g0
 |.same r => .same r
 |.own sz es => .own sz es
def pV:eR->Option g0
 |.same r=>if scalar r=true then some (.same r) else none
 |.own sz es=>if (es.all λe=>e.all scalar)=true then some (.own sz es) else none
def ON (aP:List Data->Option eR):Option (List Data)->Option g0
 |some ds=>(aP ds).bind pV
 |none=>none
def Gn (aP:List Data->Option eR):Option (List Data)->Option (List Data)->Option g0
 |some ds,_=>(aP ds).map OM
 |none,x=>ON aP x
def aW (aP:List Data->Option eR)(args:List R)(mem:Mem):Option g0:=Gn aP (args.mapM (cl 6 emp)) (args.mapM (cl 6 mem))
def BF (lU:FuncId->Option (List Data->Option eR)):bl:=λf args mem=>match lU f with
 |some aP=>aW aP args mem
 |none=>none
theorem aev {aX:Nat->Prop}{g:R->Option Data}{args:List R}{ds:List Data}{vs:List Value}(h:args.mapM g=some ds)(ak:dq w aX B args vs){mx:Nat->Prop}(aa:∀m v r,g m=some r->bt w aX B m v->Den w mx r v):zK w mx ds vs:=by
 obtain⟨F,I⟩:=oI h;refine⟨by rw[ak.1,F],λi d v ns lx=>?_⟩
 have aA:i<D args:=by have:=(dD.1 ns).1;omega
 have BG:=bz aA;exact aa _ v d (I i _ d BG ns) (ak.2 i _ v BG lx)
theorem aew {lU:FuncId->Option (List Data->Option eR)}(h:∀f aP,lU f=some aP->tH P f aP):qB P (BF lU):=by
 intro f args mem oO im;unfold BF at im
 split at im
 ·rename_i aP e8;have jw:=h f aP e8;refine⟨jw.real,λA w B vs bW ak=>?_⟩;unfold aW at im
  cases g2:args.mapM (cl 6 emp) with
  |some ds =>
   rw[g2] at im;simp only[Gn,dV] at im;obtain⟨r,ab,rfl⟩:=im;have H:=jw.run ds r ab (b6 A B) w vs (λb ag=>ag.elim (λh=>bW.x1 h) (bW.lt b)) (aev g2 ak λm v r=>OL 6 m v r)
   cases r with
   |same r=>exact H
   |own sz es=>exact H
  |none =>
   rw[g2] at im;simp only[Gn] at im
   cases g2:args.mapM (cl 6 mem) with
   |none=>rw[g2] at im;cases im
   |some ds =>
    rw[g2] at im;simp only[ON,eo] at im;obtain⟨r,ab,ar⟩:=im;have H:=jw.run ds r ab (λ_=>False) w vs (λb ag=>ag.elim) (aev g2 ak λm v r h ak=>snap bW (λb ag=>ag.elim) 6 m v r h ak)
    cases r with
    |same r =>
     simp only[pV] at ar
     split at ar
     ·rename_i U
      cases ar;exact Calls.mono H λe aQ ⟨v,he,bV,aa⟩=>⟨v,he,bV,aet U aa⟩
     ·cases ar
    |own sz es =>
     simp only[pV] at ar
     split at ar
     ·rename_i U
      cases ar;refine Calls.mono H λe aQ ⟨v,he,bV,aa⟩=>⟨v,he,bV,?_⟩;obtain⟨F,a,cap,I,af,aO,br⟩:=aa;refine⟨F,a,cap,I,af,aO,br.imp id ?_⟩;rintro⟨b,vs,T,bR,bN,cb,jl,gr⟩;refine⟨b,vs,T,bR,bN,cb,jl,λi d aa=>?_⟩;obtain⟨u,hu,tx⟩:=gr i d aa;refine⟨u,hu,aet ?_ tx⟩;have hm:=ei aa;rw[List.mem_flatten] at hm;obtain⟨e,he,aqD⟩:=hm;rw[jh] at U;have:=U e he;rw[jh] at this;exact this d aqD
     ·cases ar
 ·cases im
end Go.Mini
namespace Go.Mini
open Go
def Gp {ι:Type}(T:bl)(db:ι->bd->Prop)(m:ι->Nat)(i:ι)(K:e3->bd->Prop)(k:List gA):e3->bd->Prop
 |.normal,st=>∃bp,m bp<m i/\db bp st
 |.exit id,st=>cK T K k (.exit id) st
 |.ret,st=>cK T K k .ret st
@[go_sem] theorem aIX {ι:Type}(T:bl)(db:ι->bd->Prop)(m:ι->Nat)(i:ι)(K:e3->bd->Prop)(k:List gA)(id:Nat)(st:bd):Gp T db m i K k (.exit id) st=cK T K k (.exit id) st:=bx
@[go_sem] theorem aIY {ι:Type}(T:bl)(db:ι->bd->Prop)(m:ι->Nat)(i:ι)(K:e3->bd->Prop)(k:List gA)(st:bd):Gp T db m i K k .ret st=cK T K k .ret st:=bx
@[go_sem] theorem aqE {ι:Type}(T:bl)(db:ι->bd->Prop)(m:ι->Nat)(i:ι)(K:e3->bd->Prop)(k:List gA)(st:bd):Gp T db m i K k .normal st=∃bp,m bp<m i/\db bp st:=bx
open Classical in
theorem aqF {ι:Type}{T:bl}{K:e3->bd->Prop}{k:List gA}{st:bd}{c:eC}(db:ι->bd->Prop)(m:ι->Nat)(i0:ι)(ao:db i0 st)(h:∀i st,db i st->wp T c (cK T (Gp T db m i K k) []) st):
  wp T (.loop c) (cK T K k) st:=by
 have least:∀st,(∃i,db i st)->∃i,db i st/\∀j,db j st->m i<=m j:=by
  intro st ⟨i,M⟩
  have:∀n i,m i=n->db i st->∃i,db i st/\∀j,db j st->m i<=m j:=by
   intro n
   induction n using TV with
   |_ n ay =>
    intro i aK M
    by_cases O:∃j,db j st/\m j<m i
    ·obtain⟨j,ai,aA⟩:=O;exact ay (m j) (by omega) j rfl ai
    ·refine⟨i,M,λj ai=>?_⟩;rcases ih (m j) (m i) with cy|cy
     ·exact absurd ⟨j,ai,cy⟩ O
     ·exact cy
  exact this _ i rfl M
 refine⟨λst=>∃i,db i st,λst=>if O:∃i,db i st then m (tJ (least st O)) else 0,⟨i0,ao⟩,λst dE=>?_⟩;have iT:=po (least st dE);have:=h _ st iT.1
 have Q:cK T (Gp T db m (tJ (least st dE)) K k) []=λe dS=>match e with
   |.normal=>(∃i,db i dS)/\(if O:∃i,db i dS then m (tJ (least dS O)) else 0)<(if O:∃i,db i st then m (tJ (least st O)) else 0)
   |e=>cK T K k e dS:=by
  funext e dS
  cases e with
  |normal =>
   simp only[apu,aqE];apply propext
   constructor
   ·rintro⟨bp,aA,ai⟩;have hex:∃i,db i dS:=⟨bp,ai⟩;refine⟨hex,?_⟩;rw[dif_pos hex,dif_pos dE];have:=(po (least dS hex)).2 bp ai;omega
   ·rintro⟨hex,aA⟩;rw[dif_pos hex,dif_pos dE] at aA;exact⟨_,aA,(po (least dS hex)).1⟩
  |exit id=>rfl
  |ret=>rfl
 rw[Q] at this;exact this
section
variable {aP:List Data->Option eR} {mem:Mem} {st:bd} {res:List oH}
@[go_sem] theorem aIZ (ds:List Data)(x:Option (List Data)):Gn aP (some ds) x=(aP ds).map OM:=bx
@[go_sem] theorem aI0 (x:Option (List Data)):Gn aP none x=ON aP x:=bx
@[go_sem] theorem aI1 (ds:List Data):ON aP (some ds)=(aP ds).bind pV:=bx
@[go_sem] theorem aI2 (r:Data):OM (.same r)=.same r:=bx
@[go_sem] theorem aI3 (sz:Nat)(es:List (List Data)):OM (.own sz es)=.own sz es:=bx
@[go_sem] theorem aI4 (r:Data):pV (.same r)=if scalar r=true then some (.same r) else none:=bx
@[go_sem] theorem BH (n:Nat)(d:Data):cl n mem (.J d)=some d:=by cases n<;>rfl
@[go_sem] theorem aqG (n:Nat):cl n mem .nil=some (.Y []):=by cases n<;>rfl
@[go_sem] theorem OO (n:Nat)(cs:List R):cl (n+1) mem (.agg cs)=(cs.mapM (cl n mem)).map .agg:=bx
@[go_sem] theorem aI5 (n:Nat)(cs:List R):cl (n+1) mem (.cM cs)=(cs.mapM (cl n mem)).map .cM:=bx
@[go_sem] theorem aqH (n:Nat)(f:FuncId)(cs:List R):cl (n+1) mem (.fz f cs)=(cs.mapM (cl n mem)).map (.fn f):=bx
@[go_sem] theorem aI6 (r:eR)(id:Nat):zM res r (.exit id) st=False:=bx
@[go_sem] theorem aI7 (r:eR):zM res r .ret st=zL res r st:=bx
@[go_sem] theorem aI8 (r:eR):zM res r .normal st=zL res r st:=bx
@[go_sem] theorem aI9 (r:Data):zL res (.same r) st=((pM st res).bind (cl 6 st.mem)=some r):=bx
@[go_sem] theorem aJa (sz:Nat)(es:List (List Data)):zL res (.own sz es) st=((pM st res).bind (rz sz st.mem)=some es):=bx
end
@[go_sem] theorem aJb (x:Bool):On (.J (.bool x)) true=some x:=by cases x<;>rfl
@[go_sem] theorem aJc (x:Bool):On (.J (.bool x)) false=some (!x):=by cases x<;>rfl
attribute [go_sem] eA cY List.getElem?_cons_zero List.getElem?_cons_succ h0 jy lV wT nu ir k5 Option.map_none jv
 ju wU ha hk jm jT List.drop_succ_cons List.drop_nil List.take_nil c5 dH vn sA lW pW zN g3 hP fu Gq List.all_nil true_and and_true kX bne
section
variable {T:bl} {K:e3->bd->Prop} {k:List gA} {st:bd}
theorem aqI {x:Bool}{i:c9}{r:List c9}(F:x=false->rr T K k (some true) i r st)(I:x=true->rr T K k (some false) i r st):rr T K k (some (!x)) i r st:=by
 cases x
 ·exact F rfl
 ·exact I rfl
theorem aqJ {x:Bool}{i:c9}{r:List c9}(F:x=true->rr T K k (some true) i r st)(I:x=false->rr T K k (some false) i r st):rr T K k (some x) i r st:=by
 cases x
 ·exact I rfl
 ·exact F rfl
theorem aqK {x:Bool}{n:Nat}{i:c9}{r:List c9}{c:List (List Nat)}{rec:Rec}(F:x=false->ru T K k n (some true) i r c rec st)(I:x=true->ru T K k n (some false) i r c rec st):ru T K k n (some (!x)) i r c rec st:=by
 cases x
 ·exact F rfl
 ·exact I rfl
theorem aqL {x:Bool}{n:Nat}{i:c9}{r:List c9}{c:List (List Nat)}{rec:Rec}(F:x=true->ru T K k n (some true) i r c rec st)(I:x=false->ru T K k n (some false) i r c rec st):ru T K k n (some x) i r c rec st:=by
 cases x
 ·exact I rfl
 ·exact F rfl
theorem aqM {x:Bool}{a b:eC}(F:x=false->qA T K k (.J (.bool true)) a b st)(I:x=true->qA T K k (.J (.bool false)) a b st):qA T K k (.J (.bool (!x))) a b st:=by
 cases x
 ·exact F rfl
 ·exact I rfl
theorem aqN {x:Bool}{a b:eC}(F:x=true->qA T K k (.J (.bool true)) a b st)(I:x=false->qA T K k (.J (.bool false)) a b st):qA T K k (.J (.bool x)) a b st:=by
 cases x
 ·exact I rfl
 ·exact F rfl
end
class DH (bQ:Prop) (A B:outParam Prop):Prop where
 go:A->B->bQ
theorem ax {bQ A B:Prop}[s:DH bQ A B](a:A)(b:B):bQ:=s.go a b
theorem aZ {bQ:Prop}(h:true=true->bQ):bQ:=h rfl
instance {T K k i r st} {x:Bool}:DH (rr T K k (some x) i r st) (x=true->rr T K k (some true) i r st) (x=false->rr T K k (some false) i r st):=⟨aqJ⟩
instance {T K k i r st} {x:Bool}:DH (rr T K k (some (!x)) i r st) (x=false->rr T K k (some true) i r st) (x=true->rr T K k (some false) i r st):=⟨aqI⟩
instance {T K k st a b} {x:Bool}:DH (qA T K k (.J (.bool x)) a b st) (x=true->qA T K k (.J (.bool true)) a b st) (x=false->qA T K k (.J (.bool false)) a b st):=⟨aqN⟩
instance {T K k st a b} {x:Bool}:DH (qA T K k (.J (.bool (!x))) a b st) (x=false->qA T K k (.J (.bool true)) a b st) (x=true->qA T K k (.J (.bool false)) a b st):=⟨aqM⟩
instance {T K k n i r c rec st} {x:Bool}:DH (ru T K k n (some x) i r c rec st) (x=true->ru T K k n (some true) i r c rec st) (x=false->ru T K k n (some false) i r c rec st):=⟨aqL⟩
instance {T K k n i r c rec st} {x:Bool}:DH (ru T K k n (some (!x)) i r c rec st) (x=false->ru T K k n (some true) i r c rec st) (x=true->ru T K k n (some false) i r c rec st):=⟨aqK⟩
attribute [go_sem] reduceIte Nat.reduceEqDiff Nat.reduceAdd Nat.reduceSub Nat.reduceMul Nat.reduceLeDiff reduceCtorEq Nat.reduceLT Nat.reduceBEq Int.reduceEq
attribute [go_sem] kX
def Kw {ι:Type}(T:bl)(gT:List Nat)(qC:List Key)(vs:List R)(ms:List (Option (Nat×List R)))(db:ι->(Nat->R)->Mem->Prop)(m:ι->Nat)(i:ι)(K:e3->bd->Prop)(k:List gA):e3->bd->Prop
 |.normal,st=>∃bp,m bp<m i/\gT.map st.tm=vs/\qC.map st.mem=ms/\db bp st.tm st.mem
 |.exit id,st=>cK T K k (.exit id) st
 |.ret,st=>cK T K k .ret st
section
variable {ι:Type} (T:bl) (gT:List Nat) (qC:List Key) (vs:List R) (ms:List (Option (Nat×List R))) (db:ι->(Nat->R)->Mem->Prop) (m:ι->Nat) (i:ι) (K:e3->bd->Prop) (k:List gA)
@[go_sem] theorem aJd (id:Nat)(st:bd):Kw T gT qC vs ms db m i K k (.exit id) st=cK T K k (.exit id) st:=bx
@[go_sem] theorem aJe (st:bd):Kw T gT qC vs ms db m i K k .ret st=cK T K k .ret st:=bx
@[go_sem] theorem aJf (st:bd):Kw T gT qC vs ms db m i K k .normal st=∃bp,m bp<m i/\gT.map st.tm=vs/\qC.map st.mem=ms/\db bp st.tm st.mem:=bx
end
theorem dw {ι:Type}{T:bl}{K:e3->bd->Prop}{k:List gA}{Gr:Nat->R}{eG:Mem}{c:eC}(gT:List Nat)(qC:List Key)(db:ι->(Nat->R)->Mem->Prop)(m:ι->Nat)(i0:ι)(ao:db i0 Gr eG)
  (h:∀vs ms,gT.map Gr=vs->qC.map eG=ms->∀i tm mem,gT.map tm=vs->qC.map mem=ms->db i tm mem->wp T c (cK T (Kw T gT qC vs ms db m i K k) []) ⟨tm,mem⟩) :
  wp T (.loop c) (cK T K k) ⟨Gr,eG⟩:=by
 refine aqF (λi st=>gT.map st.tm=gT.map Gr/\qC.map st.mem=qC.map eG/\db i st.tm st.mem) m i0 ⟨rfl,rfl,ao⟩ ?_;rintro i ⟨tm,mem⟩ ⟨F,I,af⟩;have:=h _ _ rfl rfl i tm mem F I af
 have Q:cK T (Kw T gT qC (gT.map Gr) (qC.map eG) db m i K k) []=cK T (Gp T (λi (st:bd)=>gT.map st.tm=gT.map Gr/\qC.map st.mem=qC.map eG/\db i st.tm st.mem) m i K k) []:=by
  funext e dS
  cases e<;>rfl
 rw[Q] at this;exact this
theorem wp_mono {T:bl}:∀(c:eC) (K jn:e3->bd->Prop),(∀e st,K e st->jn e st)->∀st,wp T c K st->wp T c jn st:=by
 intro c
 induction c with
 |skip=>exact λK jn h st=>h _ _
 |ops l =>
  intro K jn h st hw
  have:∀(l:List c9) (K jn:bd->Prop),(∀st,K st->jn st)->∀st,x4 T K l st->x4 T jn l st:=by
   intro l
   induction l with
   |nil=>exact λK jn h st=>h st
   |cons i r ay =>
    intro K jn h st hw;unfold x4 at hw ⊢
    split
    ·rename_i bc;rw[bc] at hw;exact hw
    ·rename_i g bc;rw[bc] at hw;simp only at hw ⊢
     split
     ·rename_i iS;rw[ad iS] at hw
      have rq:∀(K jn:bd->Prop),(∀st,K st->jn st)->gy T K i st->gy T jn i st:=by
       intro K jn h hw
       have H:∀d f args,u7 T K st d f args->u7 T jn st d f args:=by
        intro d f args hw;unfold u7 at hw ⊢
        split
        ·rename_i aR;rw[aR] at hw;exact h _ hw
        ·rename_i aR;rw[aR] at hw;exact h _ hw
        ·rename_i aR;rw[aR] at hw;exact λr mem' ab=>h _ (hw r mem' ab)
        ·rename_i aR;rw[aR] at hw;exact h _ hw
        ·rename_i aR;rw[aR] at hw;exact h _ hw
        ·rename_i aR;rw[aR] at hw;exact hw
       unfold gy at hw ⊢
       split
       ·rename_i aR;rw[aR] at hw;exact H _ _ _ hw
       ·rename_i aR;rw[aR] at hw
        simp only at hw
        split
        ·rename_i pd;rw[pd] at hw
         simp only at hw
         split
         ·rename_i U;rw[ad U] at hw;exact h _ hw
         ·rename_i U;rw[ah U] at hw;exact hw
        ·rename_i pd
         split at hw
         ·rename_i ev es TW;exact (pd ev es TW).elim
         ·exact hw
       ·rename_i aR;rw[aR] at hw
        simp only at hw
        split
        ·rename_i pd;rw[pd] at hw;exact H _ _ _ hw
        ·rename_i pd;rw[pd] at hw;exact H _ _ _ hw
        ·rename_i pd TW
         split at hw
         ·rename_i TX;exact (pd _ _ TX).elim
         ·rename_i TX;exact (TW _ _ TX).elim
         ·exact hw
       ·rename_i aR;rw[aR] at hw
        simp only at hw
        split
        ·rename_i pd;rw[pd] at hw;exact λb ag=>h _ (hw b ag)
        ·rename_i pd;rw[pd] at hw;exact hw
       ·rename_i F I af aO
        split at hw
        ·rename_i aR;exact (F _ _ aR).elim
        ·rename_i aR;exact (I _ _ _ _ aR).elim
        ·rename_i aR;exact (af _ _ aR).elim
        ·rename_i aR;exact (aO _ _ aR).elim
        ·split
         ·rename_i aR;rw[aR] at hw;exact h _ hw
         ·rename_i aR;rw[aR] at hw;exact hw
      exact rq _ _ (ay _ _ h) hw
     ·rename_i iS;rw[ah iS] at hw;exact ay _ _ h _ hw
  exact this l _ _ (λst=>h .normal st) st hw
 |nX l c =>
  intro K jn h st hw
  have:∀(l:List c9) (n:Nat) (cs:List (List Nat)) (rec:Rec) (K jn:bd->Prop),(∀st,K st->jn st)->∀st,wI T K n l cs rec st->wI T jn n l cs rec st:=by
   intro l
   induction l with
   |nil=>exact λn cs rec K jn h st=>h st
   |cons i r ay =>
    intro n cs rec K jn h st hw;unfold wI at hw ⊢
    split
    ·rename_i bc;rw[bc] at hw;exact hw
    ·rename_i g bc;rw[bc] at hw;simp only at hw ⊢
     split
     ·rename_i iS;rw[ad iS] at hw
      split
      ·rename_i m e U;rw[U] at hw;exact⟨hw.1,ay _ _ _ _ _ h _ hw.2⟩
      ·rename_i U;rw[U] at hw;exact hw
     ·rename_i iS;rw[ah iS] at hw;exact ay _ _ _ _ _ h _ hw
  exact this l 0 c _ _ _ (λst=>h .normal st) st hw
 |seq a b iha ihb =>
  intro K jn h st hw;refine iha _ _ (λe dS aR=>?_) st hw
  cases e with
  |normal=>exact ihb _ _ h _ aR
  |exit id=>exact h _ _ aR
  |ret=>exact h _ _ aR
 |cond c a b iha ihb =>
  intro K jn h st hw;unfold wp at hw ⊢
  split
  ·rename_i t H;rw[H] at hw;simp only at hw
   split
   ·rename_i bD;rw[ad bD] at hw;exact iha _ _ h _ hw
   ·rename_i bD;rw[ah bD] at hw;exact ihb _ _ h _ hw
  ·rename_i O
   split at hw
   ·rename_i H;exact (O _ H).elim
   ·exact hw
 |block id c ay =>
  intro K jn h st hw;refine ay _ _ (λe dS aR=>?_) st hw
  cases e with
  |normal=>exact h _ _ aR
  |exit j =>
   simp only at aR ⊢
   split
   ·rename_i ai;rw[ad ai] at aR;exact h _ _ aR
   ·rename_i ai;rw[ah ai] at aR;exact h _ _ aR
  |ret=>exact h _ _ aR
 |loop c ay =>
  intro K jn h st hw;obtain⟨Dl,μ,ao,Kv⟩:=hw;refine⟨Dl,μ,ao,λst dE=>ay _ _ (λe dS aR=>?_) _ (Kv st dE)⟩
  cases e with
  |normal=>exact aR
  |exit id=>exact h _ _ aR
  |ret=>exact h _ _ aR
 |exit id=>exact λK jn h st=>h _ _
 |ret=>exact λK jn h st=>h _ _
 |ghost g c ay =>
  intro K jn h st hw
  have:∀(K jn:bd->Prop),(∀st,K st->jn st)->kD K st g->kD jn st g:=by
   intro K jn h hw;unfold kD at hw
   repeat' split at hw
   all_goals first
    |exact hw.elim
    |exact⟨hw.choose,hw.choose_spec.1,h _ hw.choose_spec.2⟩
    |(
      rcases hw with hw|⟨fQ,g1,gI,i,k,g,sz,off,len,cs,k',F,I,af,aO,br,bR,hw⟩|⟨fQ,g1,gI,i,k,g,sz,off,len,cs,d,F,I,af,aO,br,bR,hw⟩
      ·exact .inl (h _ hw)
      ·exact .inr (.inl ⟨fQ,g1,gI,i,k,g,sz,off,len,cs,k',F,I,af,aO,br,bR,h _ hw⟩)
      ·exact .inr (.inr ⟨fQ,g1,gI,i,k,g,sz,off,len,cs,d,F,I,af,aO,br,bR,h _ hw⟩))
    |(
      have cy:=h _ hw;clear hw h;unfold kD
      simp_all)
  exact this _ _ (ay _ _ h) hw
def Gs (T:bl)(K:e3->bd->Prop)(k:List gA)(aM:bd->Prop):e3->bd->Prop
 |.normal,st=>aM st
 |.exit id,st=>cK T K k (.exit id) st
 |.ret,st=>cK T K k .ret st
@[go_sem] theorem aJg {T:bl}{K:e3->bd->Prop}{k:List gA}{aM:bd->Prop}(st:bd):Gs T K k aM .normal st=aM st:=bx
@[go_sem] theorem aJh {T:bl}{K:e3->bd->Prop}{k:List gA}{aM:bd->Prop}(id:Nat)(st:bd):Gs T K k aM (.exit id) st=cK T K k (.exit id) st:=bx
@[go_sem] theorem aJi {T:bl}{K:e3->bd->Prop}{k:List gA}{aM:bd->Prop}(st:bd):Gs T K k aM .ret st=cK T K k .ret st:=bx
theorem aex {T:bl}{K:e3->bd->Prop}{k:List gA}{c a:eC}{st:bd}(aM:bd->Prop)(aN:wp T a (cK T (Gs T K k aM) []) st)(H:∀dS,aM dS->wp T c (cK T K k) dS):wp T a (cK T K (.code c::k)) st:=by
 refine wp_mono a _ _ (λe dS aR=>?_) st aN
 cases e with
 |normal=>exact H dS aR
 |exit id=>exact aR
 |ret=>exact aR
theorem aqO {T:bl}{K:e3->bd->Prop}{k:List gA}{x:Bool}{c a b:eC}{st:bd}(aM:bd->Prop)(aN:x=true->wp T a (cK T (Gs T K k aM) []) st)(ag:x=false->wp T b (cK T (Gs T K k aM) []) st)
  (H:∀dS,aM dS->wp T c (cK T K k) dS):qA T K (.code c::k) (.J (.bool x)) a b st:=by
 cases x
 ·rw[apw];exact aex aM (ag rfl) H
 ·rw[apv];exact aex aM (aN rfl) H
attribute [go_sem] beq_true beq_false Bool.true_beq Bool.false_beq jt List.flatten_nil fE List.headD_cons List.headD_nil List.tail_cons List.tail_nil List.contains_nil List.contains_cons Bool.not_eq_true'
section
variable {T:bl} {K:e3->bd->Prop} {k:List gA} {st:bd}
@[go_sem] theorem aJj (g:NX)(c:eC):wp T (.ghost g c) (cK T K k) st=kD (wp T c (cK T K k)) st g:=bx
def TY (K:bd->Prop)(st:bd)(s k sz:Nat):R->Prop
 |.nil=>K ⟨e6 st.tm s (.ref k (bX st.mem k) sz 0 0),a1 st.mem k (bX st.mem k) []⟩
 |_=>False
@[go_sem] theorem aJk (K:bd->Prop)(s k sz:Nat):kD K st (.np s k sz)=TY K st s k sz (st.tm s):=by
 unfold kD TY;rfl
@[go_sem] theorem aJl (K:bd->Prop)(s k sz:Nat):TY K st s k sz .nil=K ⟨e6 st.tm s (.ref k (bX st.mem k) sz 0 0),a1 st.mem k (bX st.mem k) []⟩:=bx
end
section
variable {K:bd->Prop} {st:bd}
theorem aqP (h:K st):kD K st .move:=.inl h
theorem aqQ (fQ i k k':Nat){g1:Nat}{gI:List R}{g sz off len:Nat}{cs:List R}(F:st.mem fQ=some (g1,gI))(I:gI[i]?=some (.ref k g sz off len))(af:st.mem k=some (g,cs))(aO:k≠fQ)(br:k'≠k)(bR:k'≠fQ)
  (h:K ⟨st.tm,a1 (a1 (a1 st.mem k (bX st.mem k) []) k' (bX st.mem k') cs) fQ g1 (gI.set i (.ref k' (bX st.mem k') sz off len))⟩):kD K st .move :=
 .inr (.inl ⟨fQ,g1,gI,i,k,g,sz,off,len,cs,k',F,I,af,aO,br,bR,h⟩)
def BI (K:bd->Prop)(st:bd)(s k g sz off len:Nat):Option (Nat×List R)->Prop
 |some (c8,cs)=>if c8=g/\nZ cs=true then (match cut cs off (len*sz) with
  |some part=>(match part.mapM (cl 0 st.mem) with
   |some ds=>K ⟨e6 st.tm s (.J (.Y (chunk sz len ds))),kill st.mem k⟩
   |none=>False)
  |none=>False) else False
 |none=>False
def TZ (K:bd->Prop)(st:bd)(s:Nat):R->Prop
 |.ref k g sz off len=>BI K st s k g sz off len (st.mem k)
 |_=>False
@[go_sem] theorem aJm (s:Nat):kD K st (.freeze s)=TZ K st s (st.tm s):=by
 unfold kD TZ;dsimp only
 cases hm:st.tm s with
 |ref k g sz off len=>?_
 |_=>rfl
 dsimp only;unfold BI
 cases Q:st.mem k with
 |none=>rfl
 |some x =>
  obtain⟨c8,cs⟩:=x;simp only
  by_cases H:c8=g/\nZ cs=true
  ·rw[ad H,ad H];unfold cl;rw[Q];simp only[H.1,if_true]
   cases yc:cut cs off (len*sz) with
   |none=>rfl
   |some part =>
    simp only
    cases aG:part.mapM (cl 0 st.mem)<;>rfl
  ·rw[ah H,ah H]
@[go_sem] theorem aJn (s k g sz off len:Nat):TZ K st s (.ref k g sz off len)=BI K st s k g sz off len (st.mem k):=bx
@[go_sem] theorem aJo (mem:Mem)(k:Key):kill mem k=a1 mem k (bX mem k) []:=bx
end
open Classical in
def cu {α:Type}(wV:α->List Data)(f:α->Option eR):List Data->Option eR:=λds=>if h:∃a,wV a=ds then f (tJ h) else none
theorem cD {α:Type}{wV:α->List Data}{f:α->Option eR}(inj:∀a b,wV a=wV b->a=b)(a:α):cu wV f (wV a)=f a:=by
 have h:∃b,wV b=wV a:=⟨a,rfl⟩;unfold cu;rw[dif_pos h,inj _ _ (po h)]
theorem aqR {α:Type}{wV:α->List Data}{f:α->Option eR}{ds:List Data}{r:eR}(h:cu wV f ds=some r):∃a,ds=wV a/\f a=some r:=by
 unfold cu at h
 split at h
 ·rename_i O;exact⟨_,(po O).symm,h⟩
 ·cases h
open Classical in
def cU (c:Prop)(r:eR):Option eR:=if c then some r else none
theorem cZ {c:Prop}(h:c)(r:eR):cU c r=some r:=by unfold cU;rw[ad h]
@[go_sem] theorem aJp (aP:List Data->Option eR)(args:List R)(mem:Mem):aW aP args mem=Gn aP (args.mapM (cl 6 emp)) (args.mapM (cl 6 mem)):=bx
theorem map_inj {α β:Type}{f:α->β}(h:∀a b,f a=f b->a=b):∀(l ft:List α),l.map f=ft.map f->l=ft:=by
 intro l
 induction l with
 |nil=>intro ft e;cases ft<;>simp_all
 |cons a r ay =>
  intro ft e
  cases ft with
  |nil=>simp at e
  |cons b FV =>
   simp only[eA,bf] at e;rw[h _ _ e.1,ay _ e.2]
def OP (l:List (FuncId×(List Data->Option eR))):FuncId->Option (List Data->Option eR):=λf=>(l.find? λp=>p.1==f).map (·.2)
theorem vo {P:Program}{l:List (FuncId×(List Data->Option eR))}(h:∀p∈l,tH P p.1 p.2):∀f aP,OP l f=some aP->tH P f aP:=by
 intro f aP aH;unfold OP at aH;rw[dV] at aH;obtain⟨p,aG,rfl⟩:=aH;have F:=List.mem_of_find?_eq_some aG;have I:=List.find?_some aG;have af:p.1=f:=by simpa using I
 exact af ▸ h p F
theorem cn {P:Program}:∀p∈([]:List (FuncId×(List Data->Option eR))),tH P p.1 p.2:=by simp
theorem bb {P:Program}{f:FuncId}{aP:List Data->Option eR}{l:List (FuncId×(List Data->Option eR))}(h:tH P f aP)(ar:∀p∈l,tH P p.1 p.2):∀p∈(f,aP)::l,tH P p.1 p.2:=by
 intro p aG;rcases hH.1 aG with rfl|aG
 ·exact h
 ·exact ar p aG
theorem aey {lU:FuncId->Option (List Data->Option eR)}{f:FuncId}{aP:List Data->Option eR}(h:lU f=some aP):BF lU f=aW aP:=by
 funext args mem
 unfold BF;rw[h]
@[go_sem] theorem aJq (mem:Mem)(k:Key)(z:List R)(b m:Nat)(new:List R):rh mem k z b .nil (some (m,new)) =
  if m*b<=140737488355328/\m<=maxLen/\new.all R.one=true then some (.ref k (bX mem k) (D z) 0 m,some (k,bX mem k,new)) else none:=bx
@[go_sem] theorem aJr (mem:Mem)(k k':Key)(z:List R)(g sz b len m:Nat)(new:List R):rh mem k z b (.ref k' g sz 0 len) (some (m,new)) =
  if sz=(D z) then kW k' g sz len b m new (mem k') else none:=by
 unfold rh;simp
def a7 {α:Type}(enc:α->List Data)(l:List α):List R:=(l.map enc).flatten.map .J
section
variable {α:Type} {enc:α->List Data} {sz:Nat}
theorem aqS:a7 enc []=[]:=rfl
theorem yq (a:α)(l:List α):a7 enc (a::l)=(enc a).map .J++a7 enc l:=by simp[a7]
theorem T0 (a b:List α):a7 enc (a++b)=a7 enc a++a7 enc b:=by simp[a7]
theorem oQ (h:∀a,(enc a).length=sz)(l:List α):(a7 enc l).length=D l*sz:=by
 induction l with
 |nil=>simp[a7]
 |cons a r ay=>rw[yq,fr,ay,aj,h,h0,qn,Nat.one_mul,Nat.add_comm]
theorem aez (h:∀a,(enc a).length=sz){l:List α}{i:Nat}{a:α}(M:l[i]?=some a):∃p q,a7 enc l=p++((enc a).map .J++q)/\D p=i*sz/\∀b,a7 enc (l.set i b)=p++((enc b).map .J++q):=by
 have aA:=(dD.1 M).1;have iU:l[i]=a:=(dD.1 M).2
 have e:l=l.take i++a::l.drop (i+1):=by
  rw[<-iU,<-ij aA,BJ]
 refine⟨a7 enc (l.take i),a7 enc (l.drop (i+1)),?_,?_,λb=>?_⟩
 ·conv=>lhs;rw[e]
  rw[T0,yq]
 ·rw[oQ h,fI];congr 1;omega
 ·rw[List.set_eq_take_append_cons_drop,ad aA,T0,yq]
theorem T1 (h:∀a,(enc a).length=sz){l:List α}{i:Nat}{a:α}(M:l[i]?=some a){f n:Nat}(aH:f+n<=sz):cut (a7 enc l) (i*sz+f) n=some ((((enc a).map .J).drop f).take n):=by
 obtain⟨p,q,e,aG,-⟩:=aez h M;have aN:=h a;unfold cut;rw[e,ad (by simp only[fr,aj];omega),<-aG];rw[rA,kY (by omega)];rw[show (D p)+f-D p=f by omega,jm,rA,List.take_append]
 have:n-(((enc a).map R.J).drop f).length=0:=by simp only[rB,aj];omega
 rw[this,nu,fE]
theorem T2 (h:∀a,(enc a).length=sz){l:List α}{i:Nat}(M:i<D l)(b:α):kU (a7 enc l) (i*sz) ((enc b).map .J)=a7 enc (l.set i b):=by
 obtain⟨p,q,e,aG,U⟩:=aez h (bz M);rw[U b,e];have aN:=h l[i];have ag:=h b;unfold kU;rw[<-aG,T3,gW]
 congr 2
 rw[rA,kY (by omega),jm,aj,show (D p)+(enc b).length-D p=(enc b).length by omega,ag,<-aN,<-aj (f:=R.J),T4]
theorem aqT (bM:∀a,((enc a).map R.J).all R.one=true)(l:List α):(a7 enc l).all R.one=true:=by
 induction l with
 |nil=>rfl
 |cons a r ay=>rw[yq,List.all_append,bM,ay];rfl
theorem yr (h:∀a,(enc a).length=sz)(bM:∀a,((enc a).map R.J).all R.one=true)(k g b:Nat)(l new:List α)(ag:(D l+D new)*b<=140737488355328)(hm:(D l)+D new<=1000000000):
  kW k g sz (D l) b (D new) (a7 enc new) (some (g,a7 enc l))=some (.ref k (g+1) sz 0 (D l+D new),some (k,g+1,a7 enc (l++new))):=by
 unfold kW;have n4:(D l)+D new<=maxLen:=eU hm (by decide);dsimp only;rw[ad ⟨rfl,by rw[oQ h];exact b1 _,ag,n4,aqT bM new⟩,T0,dB (by rw[oQ h];exact b1 _)]
theorem k6 (h:∀a,(enc a).length=sz)(bM:∀a,((enc a).map R.J).all R.one=true)(k g b:Nat)(l:List α)(a:α){cs:List R}(H:cs=(enc a).map .J)(ag:(D l+1)*b<=140737488355328)(hm:(D l)+1<=1000000000):
  kW k g sz (D l) b 1 cs (some (g,a7 enc l))=some (.ref k (g+1) sz 0 (D l+1),some (k,g+1,a7 enc (l++[a]))):=by
 have:=yr h bM k g b l [a] ag hm;rw[H];rw[yq,aqS,fE] at this;exact this
theorem tK (f:R->Option Data)(aH:∀d,f (.J d)=some d)(l:List Data):(l.map R.J).mapM f=some l:=by
 induction l with
 |nil=>rfl
 |cons a r ay=>simp[aH,ay]
theorem yt:∀(l:List (List Data)),(∀e∈l,D e=sz)->chunk sz (D l) l.flatten=l:=by
 intro l
 induction l with
 |nil=>intro _;rfl
 |cons e r ay =>
  intro h;have he:=h e (by simp);rw[h0,jt,chunk];rw[<-he,T3,T4,he,ay λx O=>h x (by simp[O])]
theorem oa (h:∀a,(enc a).length=sz){n k g:Nat}{mem:Mem}{l:List α}(hm:mem k=some (g,a7 enc l)):cl (n+1) mem (.ref k g sz 0 (D l))=some (.Y (l.map enc)):=by
 unfold cl;rw[hm];simp only[if_true];unfold cut;rw[jv,oQ h,ad (b1 _)];simp only[lV];rw[dB (by rw[oQ h];exact b1 _)];unfold a7;rw[tK _ λd=>by cases n<;>rfl]
 have:=yt (sz:=sz) (l.map enc) (by simpa using λa _=>h a);rw[aj] at this;simp[this]
end
theorem aeA {α:Type}(enc:α->List Data)(l:List α):nZ (a7 enc l)=true:=by
 unfold nZ a7;rw[jh];intro m hm;rw[dT] at hm;obtain⟨d,_,rfl⟩:=hm
 rfl
theorem lX {α:Type}{enc:α->List Data}{sz:Nat}(h:∀a,(enc a).length=sz){K:bd->Prop}{st:bd}(s k g:Nat)(l:List α):
  BI K st s k g sz 0 (D l) (some (g,a7 enc l))=K ⟨e6 st.tm s (.J (.Y (l.map enc))),kill st.mem k⟩:=by
 have ab:=oa (n:=0) h (mem:=a1 st.mem k g (a7 enc l)) (k:=k) (g:=g) (l:=l) (by simp[a1]);unfold BI;dsimp only;rw[ad ⟨rfl,aeA enc l⟩];unfold cut;rw[jv,oQ h,ad (b1 _)];dsimp only;rw[lV,dB (by rw[oQ h];exact b1 _)];unfold a7;rw[tK _ λd=>rfl];dsimp only;have:=yt (sz:=sz) (l.map enc) (by simpa using λa _=>h a);rw[aj] at this;rw[this]
theorem wrap64 (x:Int)(F:-9223372036854775808<=x)(I:x<=9223372036854775807):IntKind.i64.wrap x=x:=by
 rw[IntKind.wrap_i64];omega
theorem aeB {α:Type}(l:List α)(i:Int)(ao:0<=i)(h:i<D l):∃x,l[i.toNat]?=some x/\l.drop i.toNat=x::l.drop (i+1).toNat/\l.take (i+1).toNat=l.take i.toNat++[x]:=by
 have aA:i.toNat<D l:=by omega
 have e:(i+1).toNat=i.toNat+1:=by omega
 refine⟨l[i.toNat],bz aA,?_,?_⟩
 ·rw[e];exact ij aA
 ·rw[e];rw[hc,bz aA];rfl
abbrev WP (T:bl)(mf:bY)(r:eR)(l:List R):Prop:=wp T mf.body (zM mf.res r) ⟨lv l,emp⟩
theorem cE {T:bl}{c:eC}{K:e3->bd->Prop}{st:bd}(h:wp T c (cK T K []) st):wp T c K st:=tw h
theorem fc (x:Int)(F:-9223372036854775808<=x:=by omega)(I:x<=9223372036854775807:=by omega):IntKind.i64.wrap x=x:=wrap64 x F I
theorem e9 {i:Nat}(h:i<1000000000000):IntKind.i64.wrap ((i:Int)+1)=((i+1:Nat):Int):=by rw[wrap64 _ (by omega) (by omega)];omega
end Go.Mini
namespace Go.Mini
open Go Go.ChangeShapes Go.WideShapes
inductive qD where
 |int (k:IntKind)
 |bool
 |str
 |Y (e:qD)
 |st (l:List qD)
mutual
def Fit:qD->List Data->Prop
 |.int k,ds=>∃n,ds=[.int k n]/\(Lit.int k n).wf=true
 |.bool,ds=>∃b,ds=[.bool b]
 |.str,ds=>∃s,ds=[.str s]/\D s<=maxLen
 |.Y e,ds=>∃es,ds=[.Y es]/\D es<=maxLen/\∀x∈es,Fit e x
 |.st l,ds=>Fits l ds
def Fits:List qD->List Data->Prop
 | [],ds=>ds=[]
 |s::r,ds=>∃a b,ds=a++b/\Fit s a/\Fits r b
end
def Kx (P:Program):Nat->List Field->Nat->Bool
 |off,[],tot=>off==tot
 |off,f::r,tot=>f.offset==off&&Kx P (off+P.cellsOf f.type) r tot
def Ky (g:TypeId->Option qD):List Field->Option (List qD)
 | []=>some []
 |f::r=>match g f.type,Ky g r with
  |some s,some l=>some (s::l)
  |_,_=>none
def sB (P:Program):Nat->TypeId->Option qD
 |0,_=>none
 |n+1,t=>match P.underlying t with
  |some .bool=>some .bool
  |some (.int k)=>some (.int k)
  |some .string=>some .str
  |some (.slice e)=>if 0<P.cellsOf e then (sB P n e).map .Y else none
  |some (.struct dP)=>if Kx P 0 dP.toList (P.cellsOf t)=true then (Ky (sB P n) dP.toList).map .st else none
  |_=>none
section
variable {hO:Type} {enc:TypeId×Value->hO} {P:Program} {w:World} {base:Nat}
def Rd (enc:TypeId×Value->hO)(P:Program)(w:World)(base:Nat)(S:qD)(fuel:Nat)(t:TypeId)(cs:List Value)(x:DataW hO×List MemPlace):Prop :=
 (∃ds,Fit S ds/\zK w (λ_=>False) ds cs)/\(∀p∈x.2,p.block<w.heap.size) /\
 ∀(aQ:World) (sp:Nat->Bool),(∀p∈x.2,sp p.block=true)->(∀b,b<w.heap.size->aQ.heap[b]?=w.heap[b]?)->DataW.trod enc P aQ base sp true fuel t cs=some x
theorem Kz {aX:Nat->Prop}{d:Data}{v:Value}(h:Den w aX d v):zK w aX [d] [v]:=by
 refine⟨rfl,λi yh Dr F I=>?_⟩
 cases i with
 |zero=>cases F;cases I;exact h
 |succ i=>simp at F
theorem aeC (a:Addr)(i:Nat):(a.add i).block=a.block:=by
 unfold Addr.add
 split<;>rfl
theorem add_plain (b off i:Nat):(Addr.add ⟨b,off,none⟩ i)=⟨b,off+i,none⟩:=by
 unfold Addr.add
 split
 ·rename_i h;subst h;rfl
 ·rfl
theorem aeD {aQ:World}{a:Addr}{n:Nat}{cs:List Value}(h:w.cells? base a n=some cs)(Q:∀b,b<w.heap.size->aQ.heap[b]?=w.heap[b]?):aQ.cells? base a n=some cs:=by
 unfold World.cells? at h ⊢
 split at h
 ·rename_i ag;rw[ad ag,<-h]
  by_cases aA:a.block<w.heap.size
  ·have he:(λi=>aQ.cell? (a.add i))=λi=>w.cell? (a.add i):=by
    funext i
    exact World.cell?_of_block (a:=a.add i) (Q _ (by rw[aeC];exact aA))
   rw[he]
  ·cases n with
   |zero=>rfl
   |succ n =>
    exfalso
    have:w.cell? (a.add 0)=none:=by
     unfold World.cell?;have:w.heap[(a.add 0).block]?=none:=Array.getElem?_eq_none (by rw[aeC];omega);rw[this]
    rw[List.range_succ_eq_map,ju,this] at h
    cases h
 ·cases h
theorem T5 {a:Addr}{n:Nat}{cs:List Value}(h:w.cells? base a n=some cs):(D cs)=n/\∀i,i<n->∃v,cs[i]?=some v/\w.cell? (a.add i)=some v:=by
 unfold World.cells? at h
 split at h
 ·obtain⟨F,I⟩:=oI h;rw[sC] at F;refine⟨F,λi M=>?_⟩;have H:=bz (l:=cs) (i:=i) (by omega);exact⟨_,H,I i i _ (by simp[M]) H⟩
 ·cases h
theorem aqU {a:Addr}{v:Value}(h:w.cell? a=some v):a.block<w.heap.size/\a.spot=none:=by
 unfold World.cell? at h
 split at h
 ·rename_i ag;refine⟨(Array.getElem?_eq_some_iff.1 ag).1,?_⟩
  cases U:a.spot with
  |none=>rfl
  |some x=>rw[U] at h;simp at h
 ·cases h
theorem mapM_congr {α β:Type}{f g:α->Option β}:∀{l:List α},(∀x∈l,f x=g x)->l.mapM f=l.mapM g:=by
 intro l
 induction l with
 |nil=>intro _;rfl
 |cons a r ay =>
  intro h;rw[ju,ju,h a (by simp),ay λx O=>h x (by simp[O])]
theorem aqV {β:Type}(len:Nat)(aM:Nat->β->Prop)(h:∀i,i<len->∃y,aM i y):∃l:List β,D l=len/\∀i y,l[i]?=some y->aM i y:=by
 induction len with
 |zero=>exact⟨[],rfl,λi y h=>by simp at h⟩
 |succ n ay =>
  obtain⟨l,F,I⟩:=ay λi M=>h i (by omega);obtain⟨y,aw⟩:=h n (by omega);refine⟨l++[y],by simp[F],λi z aV=>?_⟩
  rw[FW] at aV
  split at aV
  ·exact I i z aV
  ·rename_i aA
   have:i-D l=0:=by
    have:=(dD.1 aV).1;simp at this;omega
   rw[this] at aV
   cases aV;have:i=n:=by omega
   subst this;exact aw
theorem aqW {β:Type}{sz:Nat}:∀(es:List (List β)),(∀e∈es,D e=sz)->0<sz->∀(i:Nat) (d:β),es.flatten[i]?=some d->∃e,es[i/sz]?=some e/\e[i%sz]?=some d:=by
 intro es
 induction es with
 |nil=>intro _ _ i d h;simp at h
 |cons e r ay =>
  intro h aV i d aa;have he:=h e (by simp);rw[jt,FW] at aa
  split at aa
  ·rename_i aA;rw[he] at aA;refine⟨e,by rw[T6 aA];rfl,by rw[KA aA];exact aa⟩
  ·rename_i b7;rw[he] at aa b7;obtain⟨x,F,I⟩:=ay (λy aw=>h y (by simp[aw])) aV _ d aa;have M:i=(i-sz)+sz:=by omega
   refine⟨x,?_,?_⟩
   ·rw[M,Nat.add_div_right _ aV]
    simpa using F
   ·rw[M,Nat.add_mod_right];exact I
theorem aqX {n fuel:Nat}(ay:∀t S,sB P n t=some S->∀(cs:List Value) (x:DataW hO×List MemPlace),DataW.trod enc P w base (λ_=>true) true fuel t cs=some x->Rd enc P w base S fuel t cs x)(cs:List Value):
  ∀(dP:List Field) (off:Nat) (l:List qD) (xs:List (DataW hO×List MemPlace)),Ky (sB P n) dP=some l->Kx P off dP (D cs)=true ->
   dP.mapM (λf=>DataW.trod enc P w base (λ_=>true) true fuel f.type ((cs.drop f.offset).take (P.cellsOf f.type)))=some xs ->
   (∃ds,Fits l ds/\zK w (λ_=>False) ds (cs.drop off))/\(∀p∈xs.flatMap (·.2),p.block<w.heap.size) /\
   ∀(aQ:World) (sp:Nat->Bool),(∀p∈xs.flatMap (·.2),sp p.block=true)->(∀b,b<w.heap.size->aQ.heap[b]?=w.heap[b]?) ->
    dP.mapM (λf=>DataW.trod enc P aQ base sp true fuel f.type ((cs.drop f.offset).take (P.cellsOf f.type)))=some xs:=by
 intro dP
 induction dP with
 |nil =>
  intro off l xs ar bD O;simp only[Ky,ca] at ar;subst ar;simp only[Kx,beq_iff_eq] at bD;simp only[wU,ha,ca] at O;subst O;refine⟨⟨[],rfl,?_⟩,by simp,λ_ _ _ _=>rfl⟩
  rw[bD,T7];exact⟨rfl,λi d v h=>by simp at h⟩
 |cons f r ihf =>
  intro off l xs ar bD O;unfold Ky at ar
  split at ar
  ·rename_i s ft U Oa
   cases ar;simp only[Kx,eM,beq_iff_eq] at bD;obtain⟨Tu,bD⟩:=bD;rw[ju] at O;simp only[ha,hk,eo,ca] at O;obtain⟨x,oR,ys,aqY,rfl⟩:=O;obtain⟨⟨T8,T9,Gt⟩,aqZ,aq0⟩:=ay _ _ U _ _ oR;obtain⟨⟨DI,kl,eJ⟩,aq1,aq2⟩:=ihf _ _ _ Oa bD aqY;refine⟨⟨T8++DI,⟨T8,DI,rfl,T9,kl⟩,?_⟩,?_,?_⟩
   ·have adq:cs.drop off=(cs.drop off).take (P.cellsOf f.type)++cs.drop (off+P.cellsOf f.type):=by
     rw[<-Gk,BJ]
    rw[Tu] at Gt;rw[adq];refine⟨by rw[fr,fr,Gt.1,eJ.1],λi d v F I=>?_⟩
    rw[FW] at F I;have hlen:=Gt.1
    by_cases aA:i<D T8
    ·rw[ad aA] at F;rw[ad (by omega)] at I;exact Gt.2 i d v F I
    ·rw[ah aA] at F;rw[ah (by omega),hlen] at I;exact eJ.2 _ d v F I
   ·intro p aG;rw[qE,jk] at aG;exact aG.elim (aqZ p) (aq1 p)
   ·intro aQ sp iT Q;rw[ju,aq0 aQ sp (λp aG=>iT p (by rw[qE,jk];exact .inl aG)) Q];have:=aq2 aQ sp (λp aG=>iT p (by rw[qE,jk];exact .inr aG)) Q;simp only[ha,hk,ir];rw[this]
    rfl
  ·cases ar
theorem aq3:∀(n:Nat) (t:TypeId) (S:qD),sB P n t=some S->∀(fuel:Nat) (cs:List Value) (x:DataW hO×List MemPlace),DataW.trod enc P w base (λ_=>true) true fuel t cs=some x->Rd enc P w base S fuel t cs x:=by
 intro n
 induction n with
 |zero=>intro t S h;simp[sB] at h
 |succ n ay =>
  intro t S cQ fuel cs x O
  cases fuel with
  |zero=>cases O
  |succ fuel =>
   unfold sB at cQ
   split at cQ
   ·-- bool
    rename_i hu
    cases cQ
    have key:∀(aQ:World) (sp:Nat->Bool) (cs:List Value),DataW.trod enc P aQ base sp true (fuel+1) t cs=match cs with|[.bool b]=>some (.lit (.bool b),[])|_=>none:=by
     intro aQ sp cs;unfold DataW.trod;rw[hu];clear O
     split<;>simp_all
    rw[key] at O
    split at O
    ·cases O;exact⟨⟨_,⟨_,rfl⟩,Kz .bool⟩,by simp,λaQ sp _ _=>by rw[key]⟩
    ·cases O
   ·-- int
    rename_i k hu
    cases cQ
    have key:∀(aQ:World) (sp:Nat->Bool) (cs:List Value),DataW.trod enc P aQ base sp true (fuel+1) t cs=match cs with|[.int k' n]=>if k'=k/\(Lit.int k n).wf=true then some (.lit (.int k n),[]) else none|_=>none:=by
     intro aQ sp cs;unfold DataW.trod;rw[hu];clear O
     split<;>simp_all
    rw[key] at O
    split at O
    ·split at O
     ·rename_i H
      cases O;obtain⟨rfl,aeE⟩:=H;exact⟨⟨_,⟨_,rfl,aeE⟩,Kz .int⟩,by simp,λaQ sp _ _=>by rw[key];simp[aeE]⟩
     ·cases O
    ·cases O
   ·-- string
    rename_i hu
    cases cQ
    have key:∀(aQ:World) (sp:Nat->Bool) (cs:List Value),DataW.trod enc P aQ base sp true (fuel+1) t cs=match cs with|[.string s]=>if s.size<=maxLen then some (.lit (.string s.data.toList),[]) else none|_=>none:=by
     intro aQ sp cs;unfold DataW.trod;rw[hu];clear O
     split<;>simp_all
    rw[key] at O
    split at O
    ·rename_i s
     split at O
     ·rename_i H
      cases O;refine⟨⟨[.str s.data.toList],⟨_,rfl,?_⟩,Kz ?_⟩,by simp,λaQ sp _ _=>by rw[key];simp[H]⟩
      ·rw[Array.length_toList];exact H
      ·have:Den w (λ_=>False) (.str s.data.toList) (.string ⟨s.data.toList.toArray⟩):=.str
       simpa using this
     ·cases O
    ·cases O
   ·-- slice
    rename_i e hu
    split at cQ
    ·rename_i H;rw[dV] at cQ;obtain⟨S,cQ,rfl⟩:=cQ
     have key:∀(aQ:World) (sp:Nat->Bool) (cs:List Value),DataW.trod enc P aQ base sp true (fuel+1) t cs=match cs with
      | [.slice none 0 0]=>some (.nil,[])
      | [.slice (some a) len cap] =>
       if base<=a.block/\len<=cap/\cap<=maxLen then
        ((
         dW len).mapM λi=>(aQ.cells? base (a.add (i*P.cellsOf e)) (P.cellsOf e)).bind (DataW.trod enc P aQ base sp true fuel e)).bind λelems =>
         (if sp a.block then (dW (cap-len)).mapM λj=>(aQ.cells? base (a.add ((len+j)*P.cellsOf e)) (P.cellsOf e)).bind (DataW.trod enc P aQ base sp true fuel e) else some []).map λrest =>
          (.slice (elems.map (·.1)) (rest.map (·.1)),MemPlace.row a ((D elems+D rest)*P.cellsOf e)++(elems++rest).flatMap (·.2))
       else none
      |_=>none:=by
      intro aQ sp cs
      conv=>lhs;unfold DataW.trod
      rw[hu];clear O
      split<;>simp_all
     rw[key] at O
     split at O
     ·cases O;exact⟨⟨[.Y []],⟨_,rfl,fk _,by simp⟩,Kz .lO⟩,by simp,λaQ sp _ _=>by rw[key];rfl⟩
     ·rename_i a len cap
      split at O
      ·rename_i ag;rw[eo] at O;obtain⟨elems,he,O⟩:=O;rw[dV] at O;obtain⟨rest,ab,rfl⟩:=O;rw[ad rfl] at ab;obtain⟨k0,aq4⟩:=oI he;obtain⟨b2,OQ⟩:=oI ab;rw[sC] at k0 b2
       -- each place
       have cj:∀i y,(i<len->elems[i]?=some y)->(¬ i<len->i<cap/\rest[i-len]?=some y)->∃ci,w.cells? base (a.add (i*P.cellsOf e)) (P.cellsOf e)=some ci/\DataW.trod enc P w base (λ_=>true) true fuel e ci=some y:=by
        intro i y F I
        by_cases M:i<len
        ·have:=aq4 i i y (by simp[M]) (F M);rwa [eo] at this
        ·obtain⟨af,aO⟩:=I M;have:=OQ (i-len) (i-len) y (List.getElem?_range (by omega)) aO;rw[show len+(i-len)=i by omega,eo] at this
         exact this
       have fa:0<D elems+(D rest)->a.block<w.heap.size/\a.spot=none:=by
        intro aG;have ao:0<cap:=by omega
        have:∃y,(0<len->elems[0]?=some y)/\(¬ 0<len->0<cap/\rest[0-len]?=some y):=by
         by_cases ar:0<len
         ·exact⟨elems[0],λ_=>bz _,λh=>absurd ar h⟩
         ·exact⟨rest[0],λh=>absurd h ar,λ_=>⟨ao,by rw[Nat.zero_sub];exact bz _⟩⟩
        obtain⟨y,F,I⟩:=this;obtain⟨ci,jP,-⟩:=cj 0 y F I;obtain⟨v,-,ak⟩:=(T5 jP).2 0 H;have:=aqU ak;rw[DJ] at this;have bC:(a.add 0).add 0=a:=by unfold Addr.add;simp
        rw[bC] at this;exact this
       have aeF:∀i y,(i<len->elems[i]?=some y)->(¬ i<len->i<cap/\rest[i-len]?=some y)->∃ci,w.cells? base (a.add (i*P.cellsOf e)) (P.cellsOf e)=some ci/\Rd enc P w base S fuel e ci y:=by
        intro i y F I;obtain⟨ci,af,aO⟩:=cj i y F I;exact⟨ci,af,ay e S cQ fuel ci y aO⟩
       have Ua:∀(i:Nat) y,elems[i]?=some y->∃ci,w.cells? base (a.add (i*P.cellsOf e)) (P.cellsOf e)=some ci/\Rd enc P w base S fuel e ci y :=
        λi y aw=>aeF i y (λ_=>aw) (λh=>absurd (by have:=(dD.1 aw).1;omega) h)
       have aeG:∀(j:Nat) y,rest[j]?=some y->∃ci,w.cells? base (a.add ((len+j)*P.cellsOf e)) (P.cellsOf e)=some ci/\Rd enc P w base S fuel e ci y :=
        λj y aw=>aeF (len+j) y (λh=>by omega) (λ_=>⟨by have:=(dD.1 aw).1;omega,by rwa [Gu]⟩)
       refine⟨?_,?_,?_⟩
       ·obtain⟨es,Ub,heq⟩:=aqV len (λi (ds:List Data)=>∃ci,w.cells? base (a.add (i*P.cellsOf e)) (P.cellsOf e)=some ci/\Fit S ds/\zK w (λ_=>False) ds ci) λi M=>by
         obtain⟨ci,F,⟨ds,I,af⟩,-,-⟩:=Ua i _ (bz (by omega));exact⟨ds,ci,F,I,af⟩
        refine⟨[.Y es],⟨es,rfl,by omega,λy aw=>?_⟩,Kz ?_⟩
        ·obtain⟨i,M⟩:=tL.1 aw;obtain⟨ci,-,h,-⟩:=heq i y M;exact h
        ·by_cases ar:len=0
         ·rw[ar] at Ub ⊢;rw[oM Ub];exact .lO
         ·obtain⟨kl,eJ⟩:=fa (by omega);obtain⟨b,off,spot⟩:=a;simp only at kl eJ;subst eJ
          have e2:∀y∈es,D y=P.cellsOf e:=by
           intro y aw;obtain⟨i,M⟩:=tL.1 aw;obtain⟨ci,F,-,I⟩:=heq i y M;rw[<-I.1,(T5 F).1]
          have hQ:∀(i:Nat) (d:Data),es.flatten[i]?=some d->∃v,w.cell? ⟨b,off+i,none⟩=some v/\Den w (λ_=>False) d v:=by
           intro i d aa;obtain⟨y,F,I⟩:=aqW es e2 H i d aa;obtain⟨ci,af,-,aO⟩:=heq _ y F;have hm:i%P.cellsOf e<P.cellsOf e:=Nat.mod_lt _ H;obtain⟨v,br,bR⟩:=(T5 af).2 _ hm;rw[add_plain,add_plain,qu,rC,Nat.div_add_mod] at bR;exact⟨v,bR,aO.2 _ d v I br⟩
          rw[<-Ub];refine .Y (sz:=P.cellsOf e) (λi=>(w.cell? ⟨b,off+i,none⟩).getD undef) (by omega) (by omega) kl (λh=>h) e2 (λi M=>?_) λi d aa=>?_
          ·have aA:i<D es.flatten:=by rw[NV e2];exact M
           obtain⟨v,ak,-⟩:=hQ i _ (bz aA);rw[ak]
           rfl
          ·obtain⟨v,ak,ns⟩:=hQ i d aa;rw[ak];exact ns
       ·intro p aG;simp only[jk] at aG;rcases aG with aG|aG
        ·unfold MemPlace.row at aG;rw[dT] at aG;obtain⟨i,M,rfl⟩:=aG;rw[gX] at M
         have:0<D elems+D rest:=by
          rcases k4 (D elems+D rest) with h|h
          ·rw[h,DJ] at M;omega
          ·exact h
         exact (fa this).1
        ·rw[yi] at aG;obtain⟨y,aw,aG⟩:=aG;rw[jk] at aw;rcases aw with aw|aw
         ·obtain⟨i,M⟩:=tL.1 aw;obtain⟨ci,-,h⟩:=Ua i y M;exact h.2.1 p aG
         ·obtain⟨i,M⟩:=tL.1 aw;obtain⟨ci,-,h⟩:=aeG i y M;exact h.2.1 p aG
       ·intro aQ sp iT Q;rw[key];simp only;rw[ad ag]
        have fb:0<D elems+(D rest)->sp a.block=true:=by
         intro aG
         have:=iT (.cell a.block (a.off+0)) (by
          rw[jk]
          left
          unfold MemPlace.row;rw[dT];exact⟨0,by rw[gX];exact Nat.mul_pos aG H,rfl⟩)
         exact this
        have aq5:(dW len).mapM (λi=>(aQ.cells? base (a.add (i*P.cellsOf e)) (P.cellsOf e)).bind (DataW.trod enc P aQ base sp true fuel e))=some elems:=by
         rw[<-he];refine mapM_congr λi M=>?_;rw[gX] at M;have aw:=bz (l:=elems) (i:=i) (by omega);obtain⟨ci,F,I⟩:=Ua i _ aw;rw[aeD F Q,F];simp only[ir];obtain⟨aq6,af,aO⟩:=cj i _ (λ_=>aw) (λh=>absurd M h);rw[F] at af
         cases af;rw[aO]
         exact I.2.2 aQ sp (λp aG=>iT p (by
          rw[jk];right
          rw[yi];exact⟨_,jk.2 (.inl (ei aw)),aG⟩)) Q
        have aq7:(dW (cap-len)).mapM (λj=>(aQ.cells? base (a.add ((len+j)*P.cellsOf e)) (P.cellsOf e)).bind (DataW.trod enc P aQ base sp true fuel e))=some rest:=by
         rw[<-ab];refine mapM_congr λj ai=>?_;rw[gX] at ai;have aw:=bz (l:=rest) (i:=j) (by omega);obtain⟨ci,F,I⟩:=aeG j _ aw;rw[aeD F Q,F];simp only[ir];obtain⟨aq6,af,aO⟩:=cj (len+j) rest[j] (λh=>by omega) (λ_=>⟨by omega,by rw[Gu];exact aw⟩);rw[F] at af
         cases af;rw[aO]
         exact I.2.2 aQ sp (λp aG=>iT p (by
          rw[jk];right
          rw[yi];exact⟨_,jk.2 (.inr (ei aw)),aG⟩)) Q
        rw[aq5];simp only[ir]
        cases U:sp a.block with
        |true=>simp only[if_true];rw[aq7];rfl
        |false =>
         have aV:¬ 0<D elems+D rest:=λh=>by rw[fb h] at U;cases U
         have:rest=[]:=oM (by omega);subst this
         rfl
      ·cases O
     ·cases O
    ·cases cQ
   ·-- struct
    rename_i dP hu
    split at cQ
    ·rename_i bD;rw[dV] at cQ;obtain⟨l,ar,rfl⟩:=cQ
     have key:∀(aQ:World) (sp:Nat->Bool),DataW.trod enc P aQ base sp true (fuel+1) t cs =
       if (D cs)=P.cellsOf t then (dP.toList.mapM λf=>DataW.trod enc P aQ base sp true fuel f.type ((cs.drop f.offset).take (P.cellsOf f.type))).map λxs=>(.agg (xs.map (·.1)),xs.flatMap (·.2)) else none:=by
      intro aQ sp
      conv=>lhs;unfold DataW.trod
      rw[hu]
     rw[key] at O
     split at O
     ·rename_i hlen;rw[dV] at O;obtain⟨xs,BD,rfl⟩:=O;rw[<-hlen] at bD;obtain⟨F,I,af⟩:=aqX (λt S h cs x O=>ay t S h fuel cs x O) cs dP.toList 0 l xs ar bD BD;refine⟨?_,I,λaQ sp iT Q=>?_⟩
      ·obtain⟨ds,aH,aa⟩:=F;exact⟨ds,aH,by simpa using aa⟩
      ·rw[key,ad hlen,af aQ sp iT Q]
       rfl
     ·cases O
    ·cases cQ
   ·cases cQ
end
end Go.Mini
namespace Go.Mini
open Go Go.ChangeShapes Go.WideShapes Go.RowKit
def aeH:qD->Data->Prop
 |.st l,d=>∃cs,d=.agg cs/\Fits l cs
 |s,d=>Fit s [d]
def OR:List qD->List Data->Prop
 | [],ds=>ds=[]
 |s::r,ds=>∃d t,ds=d::t/\aeH s d/\OR r t
section
variable {hO:Type} {enc:TypeId×Value->hO} {P:Program} {w:World}
theorem aq8 {aX:Nat->Prop}{d:Data}{v:Value}{ds:List Data}{vs:List Value}(h:Den w aX d v)(U:zK w aX ds vs):zK w aX (d::ds) (v::vs):=by
 refine⟨by simp[U.1],λi yh Dr F I=>?_⟩
 cases i with
 |zero=>cases F;cases I;exact h
 |succ i=>exact U.2 i yh Dr (by simpa using F) (by simpa using I)
theorem aq9 {n:Nat}{t:TypeId}{S:qD}{v:Value}{d:DataW hO}{ps:List MemPlace}{sD:Nat}(cQ:sB P n t=some S)(hQ:Value.okWide P w .any sD t v)(h:DataW.Trod enc P w 0 (λ_=>true) true t v d ps):
  (∃b8,aeH S b8/\Den w (λ_=>False) b8 v)/\(∀p∈ps,p.block<w.heap.size) /\
  ∀(aQ:World) (sp:Nat->Bool),(∀p∈ps,sp p.block=true)->(∀b,b<w.heap.size->aQ.heap[b]?=w.heap[b]?)->DataW.Trod enc P aQ 0 sp true t v d ps:=by
 obtain⟨fuel,O⟩:=h;obtain⟨⟨ds,aH,aa⟩,I,af⟩:=aq3 n t S cQ fuel _ _ O;refine⟨?_,I,λaQ sp iT Q=>⟨fuel,af aQ sp iT Q⟩⟩
 have one:(∀cs,v ≠ .agg cs)->∀d,ds=[d]->Den w (λ_=>False) d v:=by
  intro ak d e;subst e;have:v.cells=#[v]:=by unfold Value.cells;split<;>simp_all
  rw[this] at aa;exact aa.2 0 d v rfl rfl
 cases n with
 |zero=>simp[sB] at cQ
 |succ n =>
  unfold sB at cQ;unfold Value.okWide at hQ
  split at cQ
  ·rename_i hu
   cases cQ;rw[hu] at hQ;obtain⟨b,rfl⟩:=aH;refine⟨_,⟨b,rfl⟩,one ?_ _ rfl⟩;rintro cs rfl;simp[Cell.okWide,Cell.ok,hu] at hQ
  ·rename_i k hu
   cases cQ;rw[hu] at hQ;obtain⟨b,rfl,ag⟩:=aH;refine⟨_,⟨b,rfl,ag⟩,one ?_ _ rfl⟩;rintro cs rfl;simp[Cell.okWide,Cell.ok,hu] at hQ
  ·rename_i hu
   cases cQ;rw[hu] at hQ;obtain⟨b,rfl,ag⟩:=aH;refine⟨_,⟨b,rfl,ag⟩,one ?_ _ rfl⟩;rintro cs rfl;simp[Cell.okWide,Cell.ok,hu] at hQ
  ·rename_i e hu
   split at cQ
   ·rw[dV] at cQ;obtain⟨S,cQ,rfl⟩:=cQ;rw[hu] at hQ;obtain⟨b,rfl,ag⟩:=aH;refine⟨_,⟨b,rfl,ag⟩,one ?_ _ rfl⟩;rintro cs rfl;simp[Cell.okWide,Cell.ok,hu] at hQ
   ·cases cQ
  ·rename_i dP hu
   split at cQ
   ·rw[dV] at cQ;obtain⟨l,ar,rfl⟩:=cQ;rw[hu] at hQ;obtain⟨cs,rfl,-,-⟩:=hQ;refine⟨.agg ds,⟨ds,rfl,aH⟩,?_⟩;have:Den w (λ_=>False) (.agg ds) (.agg cs.toList.toArray):=.agg aa.1 aa.2
    simpa using this
   ·cases cQ
  ·cases cQ
theorem Uc {n sD:Nat}:∀{tt:List TypeId} {schs:List qD} {vs:List Value} {ds:List (DataW hO)} {ps:List MemPlace},tt.mapM (sB P n)=some schs->(∀(j:Nat) t v,tt[j]?=some t->vs[j]?=some v->Value.okWide P w .any sD t v) ->
  DataW.TrodAll enc P w 0 (λ_=>true) true tt vs ds ps ->
  (∃sE,OR schs sE/\zK w (λ_=>False) sE vs)/\(∀p∈ps,p.block<w.heap.size) /\
  ∀(aQ:World) (sp:Nat->Bool),(∀p∈ps,sp p.block=true)->(∀b,b<w.heap.size->aQ.heap[b]?=w.heap[b]?)->DataW.TrodAll enc P aQ 0 sp true tt vs ds ps
 | [],schs,vs,ds,ps,cQ,hQ,h=>by
  obtain⟨rfl,rfl,rfl⟩:=trodAll_nil h;simp at cQ;subst cQ;exact⟨⟨[],rfl,rfl,λi d v h=>by simp at h⟩,by simp,λ_ _ _ _=>rfl⟩
 |t::tt,schs,vs,ds,ps,cQ,hQ,h=>by
  obtain⟨v,ara,d,arb,a,b,rfl,rfl,rfl,F,I⟩:=trodAll_cons h;rw[ju] at cQ;simp only[ha,hk,eo,ca] at cQ;obtain⟨S,arc,l,ar,rfl⟩:=cQ;obtain⟨⟨b8,kJ,ard⟩,km,cv⟩:=aq9 arc (hQ 0 t v rfl rfl) F;obtain⟨⟨sE,arf,arh⟩,kI,cS⟩:=Uc ar (λj ari Dr bD ak=>hQ (j+1) ari Dr (by simpa using bD) (by simpa using ak)) I;refine⟨⟨b8::sE,⟨b8,sE,rfl,kJ,arf⟩,aq8 ard arh⟩,λp aG=>?_,λaQ sp iT Q=>?_⟩
  ·rw[jk] at aG;exact aG.elim (km p) (kI p)
  ·exact trodAll_cons_mk (cv aQ sp (λp aG=>iT p (jk.2 (.inl aG))) Q) (cS aQ sp (λp aG=>iT p (jk.2 (.inr aG))) Q)
theorem arj {W sF:World}(h:Fr (λ_=>False) W sF)(may:MemPlace->Prop):W.keptBut sF may:=by
 refine⟨h.os,h.output,λi M=>?_⟩;rw[h.block i M id]
 cases ag:W.heap[i]? with
 |none=>trivial
 |some o =>
  cases o with
  |cells c t aF=>exact⟨rfl,rfl,rfl,λ_ _=>rfl⟩
  |map es clock=>exact .inr ⟨rfl,rfl⟩
  |_=>rfl
theorem ark {f:Func}{s:ChangeSpec}{apart fresh handsOn again:Bool}{W sF:World}{args:Array Value}{ds gs:List (DataW hO)}{before:List MemPlace}{n sD:Nat}{schs:List qD}{KB:TypeId}
  (rD:DataW.Whole enc P f.params.toList s.vars apart W args.toList ds gs before) (ak:s.vars=[]) (cQ:f.params.toList.mapM (sB P n)=some schs)
  (hQ:∀(j:Nat) t v,f.params[j]?=some t->args[j]?=some v->Value.okWide P W .any sD t v)
  (ab:f.resultTypes=#[KB]) (ag:P.underlying KB=some .bool) (jw:s.fn hO ds={ results:=[.lit (.bool true)],args:=ds }) (aH:Fr (λ_=>False) W sF) :
  s.post enc P f apart fresh handsOn again W args (.bool true) sF:=by
 have Ud:=rD;obtain⟨p,q,ec,rE,rfl,aV,aK⟩:=rD;rw[ak] at rE;obtain⟨rfl,rfl⟩:=trodVars_none rE;obtain⟨-,aA,Q⟩:=Uc cQ (λj t v bD ak=>hQ j t v (by simpa using bD) (by simpa using ak)) ec;have aeI:∀b,b<W.heap.size->sF.heap[b]?=W.heap[b]?:=λb ag=>aH.block b ag id
 have vm:∀(b:Nat) (sp:Nat->Bool) (aa:Bool),DataW.TrodAll enc P sF b sp aa f.resultTypes.toList ((Value.bool true).resultList f.resultTypes.size) (s.fn hO (ds++[])).results []:=by
  intro b sp aa;rw[fE,jw,ab];exact trodAll_cons_mk (shut_bool ag true) trodAll_mk0
 have n2:∀sp:Nat->Bool,(∀x∈p,sp x.block=true)->DataW.TrodAll enc P sF 0 sp true f.params.toList args.toList (s.fn hO (ds++[])).args p:=by
  intro sp iT;rw[fE,jw];exact Q sF sp iT aeI
 have aeJ:∀sp:Nat->Bool,DataW.TrodVars enc P sF sp s.vars (s.fn hO (ds++[])).vars []:=by
  intro sp;rw[ak,fE,jw]
  rfl
 refine⟨ds,[],p++[],[],p,[],Ud,vm _ _ _,n2 _ (λx O=>by simpa using aA x O),aeJ _,arj aH _,λ_=>⟨?_,_,_,([]++p)++[],⟨[]++p,[],trodAll_append (n2 _ (λ_ _=>rfl)) (vm _ _ _),aeJ _,rfl,?_,?_⟩,?_⟩⟩
 ·intro j t r F I;rw[ab] at F I
  cases j with
  |zero =>
   simp[Value.resultList] at F I;subst F I;exact okWide_bool_mk ag true
  |succ j=>simp at F
 ·intro b off aG;have aeK:MemPlace.cell b off∈p:=by simpa using aG
  have ag:=aA _ aeK;have ao:=aV b off (by simpa using aeK);unfold World.frozen? at ao ⊢;rw[aeI b ag];exact ao
 ·intro aN;have:=aK aN
  simpa using this
 ·intro x O _
  simpa using O
theorem arl {f:FuncId}{fn:Func}{s:ChangeSpec}{apart fresh handsOn again:Bool}{aP:List Data->Option eR}{n:Nat}{schs:List qD}{KB:TypeId}(aG:tH P f aP)(ak:s.vars=[])(cQ:fn.params.toList.mapM (sB P n)=some schs)
  (ab:fn.resultTypes=#[KB]) (ag:P.underlying KB=some .bool) (jw:∀ds:List (DataW hO),D ds=(D fn.params.toList)->s.fn hO ds={ results:=[.lit (.bool true)],args:=ds })
  {W:World} {base:Nat} {args:Array Value} {ds gs:List (DataW hO)} {before:List MemPlace}
  (e8:∀sE,OR schs sE->aP sE=some (.same (.bool true)))
  (hQ:∀(j:Nat) t v,fn.params[j]?=some t->args[j]?=some v->Value.okWide P W .any base t v)
  (rD:DataW.Whole enc P fn.params.toList s.vars apart W args.toList ds gs before) :
  Calls P f args W λe sF=>∃v,e=.returned v/\s.post enc P fn apart fresh handsOn again W args v sF:=by
 have Ud:=rD;obtain⟨p,q,ec,rE,rfl,aV,aK⟩:=rD;obtain⟨⟨sE,F,I⟩,-,-⟩:=Uc cQ (λj t v bD ak=>hQ j t v (by simpa using bD) (by simpa using ak)) ec
 have hlen:(D ds)=D fn.params.toList:=by
  have:∀(tt:List TypeId) (vs:List Value) (ds:List (DataW hO)) (ps:List MemPlace),DataW.TrodAll enc P W 0 (λ_=>true) true tt vs ds ps->(D ds)=D tt:=by
   intro tt
   induction tt with
   |nil=>intro vs ds ps h;obtain⟨rfl,rfl,rfl⟩:=trodAll_nil h;rfl
   |cons t r ay=>intro vs ds ps h;obtain⟨v,ara,d,arb,a,b,rfl,rfl,rfl,-,I⟩:=trodAll_cons h;simp[ay _ _ _ I]
  exact this _ _ _ _ ec
 have H:=aG.run sE _ (e8 sE F) (λ_=>False) W args.toList (λb ag=>ag.elim) I;have aN:args.toList.toArray=args:=by simp
 rw[aN] at H;refine H.mono λe sF ⟨v,he,bV,aa⟩=>⟨v,he,?_⟩
 have:v=.bool true:=by
  have ns:Den sF (λ_=>False) (.bool true) v:=aa
  cases ns
  rfl
 subst this;exact ark Ud ak cQ hQ ab ag (jw ds hlen) bV
theorem OS {α:Type}{l:List α}{n:Nat}(h:(D l)=n+1):∃d t,l=d::t/\D t=n:=by
 cases l with
 |nil=>simp at h
 |cons d t=>exact⟨d,t,rfl,by simpa using h⟩
theorem Ue {α:Type}{e:α->List Data}{good:α->Prop}:∀{es:List (List Data)},(∀x∈es,∃a,x=e a/\good a)->∃l:List α,es=l.map e/\∀a∈l,good a
 | [],_=>⟨[],rfl,by simp⟩
 |x::r,h=>by
  obtain⟨a,rfl,aN⟩:=h x (by simp);obtain⟨l,rfl,ar⟩:=Ue (es:=r) λy aw=>h y (by simp[aw]);exact⟨a::l,rfl,λb ag=>(hH.1 ag).elim (λe=>e ▸ aN) (ar b)⟩
end
end Go.Mini
namespace Go.Mini
open Go
def zO (x:R)(m:Mem):R->Mem->Prop:=λr mem'=>r=x/\mem'=m
@[go_sem high] theorem aJs {K:bd->Prop}(x:R)(m:Mem)(d:Option Nat)(st:bd):wP K (some (.rel (zO x m))) d st=K ⟨put st.tm d x,m⟩:=by
 rw[apx];apply propext;exact⟨λh=>h x m ⟨rfl,rfl⟩,λh r mem' ⟨az,aD⟩=>by rw[az,aD];exact h⟩
def BK (bQ:List R->Mem->Option (R×Mem))(args:List R)(mem:Mem):Option g0:=(bQ args mem).map λx => .rel (zO x.1 x.2)
@[go_sem] theorem aJt (bQ:List R->Mem->Option (R×Mem))(args:List R)(mem:Mem):BK bQ args mem=(bQ args mem).map λx => .rel (zO x.1 x.2):=bx
structure KC (P:Program) (f:FuncId) (bQ:List R->Mem->Option (R×Mem)):Prop where
 real:Real P f
 run:∀args mem x,bQ args mem=some x->∀A w B vs,fp A w B mem->dq w (b6 A B) B args vs->Oq P f vs A w B mem (.rel (zO x.1 x.2))
def Gv (res:List oH)(x:R)(m:Mem):e3->bd->Prop
 |.exit _,_=>False
 |.normal,st=>pM st res=some x/\st.mem=m
 |.ret,st=>pM st res=some x/\st.mem=m
@[go_sem] theorem aJu {res:List oH}{st:bd}(x:R)(m:Mem)(id:Nat):Gv res x m (.exit id) st=False:=bx
@[go_sem] theorem aJv {res:List oH}{st:bd}(x:R)(m:Mem):Gv res x m .normal st=(pM st res=some x/\st.mem=m):=bx
@[go_sem] theorem aJw {res:List oH}{st:bd}(x:R)(m:Mem):Gv res x m .ret st=(pM st res=some x/\st.mem=m):=bx
theorem aeL {P : Program}{T : bl}{kb : Nat}{own : List Nat}(cC : qB P T)(hm : P.follows .mixedOrders = true){f : FuncId}{fn : Func}{mf : bY}(aH : P.funcs[f]? = some fn)(tI : (fn.name == "runtime.NumGoroutine") = false)(aY : sw P kb own fn = some { mf with body := erase mf.body })
  {bQ:List R->Mem->Option (R×Mem)} (h:∀args mem x,bQ args mem=some x->(D args)<=mf.n/\wp T mf.body (Gv mf.res x.1 x.2) ⟨lv args,mem⟩):KC P f bQ:=by
 refine⟨?_,λargs mem x nv A w B vs bW ak=>?_⟩
 ·cases ag:fn.body with
  |none=>simp[sw,ag] at aY
  |some c=>exact⟨fn,c,aH,ag,tI⟩
 ·obtain⟨hlen,wS⟩:=h args mem x nv;refine Calls.mono (Gm (Post:=zO x.1 x.2) cC hm aH aY hlen (λe st Q=>?_) wS bW ak) λe aQ he=>?_
  ·cases e with
   |exit id=>exact Q
   |normal=>exact⟨_,Q.1,rfl,Q.2⟩
   |ret=>exact⟨_,Q.1,rfl,Q.2⟩
  ·obtain⟨v,m,mem',bu,rfl,U,lx,aG⟩:=he;exact⟨v,m,mem',bu,rfl,U,lx,aG⟩
def OT:Option (R×Mem)->Option g0->Option g0
 |some x,_=>some (.rel (zO x.1 x.2))
 |none,e=>e
@[go_sem] theorem aJx (x:R×Mem)(e:Option g0):OT (some x) e=some (.rel (zO x.1 x.2)):=bx
@[go_sem] theorem aJy (e:Option g0):OT none e=e:=bx
def zP (aP:List Data->Option eR)(bQ:List R->Mem->Option (R×Mem))(args:List R)(mem:Mem):Option g0:=OT (bQ args mem) (aW aP args mem)
@[go_sem] theorem aJz (aP:List Data->Option eR)(bQ:List R->Mem->Option (R×Mem))(args:List R)(mem:Mem):zP aP bQ args mem=OT (bQ args mem) (aW aP args mem):=bx
open Classical in
def Gw {α:Type}(bk:α->List R->Mem->Prop)(res:α->Mem->R×Mem):List R->Mem->Option (R×Mem):=λargs mem=>if h:∃a,bk a args mem then some (res (tJ h) mem) else none
theorem aeM {α:Type}{bk:α->List R->Mem->Prop}{res:α->Mem->R×Mem}(uniq:∀a b args mem,bk a args mem->bk b args mem->res a mem=res b mem){a:α}{args:List R}{mem:Mem}(h:bk a args mem):Gw bk res args mem=some (res a mem):=by
 have O:∃b,bk b args mem:=⟨a,h⟩;unfold Gw;rw[dif_pos O,uniq _ _ _ _ (po O) h]
theorem Uf {α:Type}{bk:α->List R->Mem->Prop}{res:α->Mem->R×Mem}{args:List R}{mem:Mem}{x:R×Mem}(h:Gw bk res args mem=some x):∃a,bk a args mem/\x=res a mem:=by
 unfold Gw at h
 split at h
 ·rename_i O;exact⟨_,po O,(nt h).symm⟩
 ·cases h
def yu:Nat->Nat->List Int
 |0,_=>[]
 |f+1,n=>if n=0 then [] else ((n%1048576:Nat):Int)::yu f (n/1048576)
def aJ (n:Nat):List Int:=yu n n
def bh:List Int->Int
 | []=>0
 |d::r=>d+1048576*bh r
theorem tM (d:Int)(r:List Int):bh (d::r)=d+1048576*bh r:=rfl
def eZ (l:List Int):Prop:=∀d∈l,0<=d/\d<1048576
def fK:List Int->List Int
 | []=>[]
 |d::r=>if fK r=[] then (if d=0 then [] else [d]) else d::fK r
def ae (n:Int):List Data:=[.int .i64 n]
theorem hd (b:Int):(ae b).length=1:=rfl
theorem tN (b:Int):((ae b).map R.J).all R.one=true:=rfl
theorem fh:∀a b:Int,ae a=ae b->a=b:=by intro a b h;simpa [ae] using h
theorem arn:∀(f g n:Nat),n<=f->n<=g->yu f n=yu g n:=by
 intro f
 induction f with
 |zero =>
      intro g n h _;obtain rfl:n=0:=by omega
      cases g<;>simp[yu]
 |succ f ay =>
  intro g n F I
  cases g with
  |zero =>
       obtain rfl:n=0:=by omega
       simp[yu]
  |succ g =>
   unfold yu
   by_cases aK:n=0
   ·rw[ad aK,ad aK]
   ·rw[ah aK,ah aK,ay g (n/1048576) (by omega) (by omega)]
theorem sG:aJ 0=[]:=rfl
theorem vp {n:Nat}(h:0<n):aJ n=((n%1048576:Nat):Int)::aJ (n/1048576):=by
 unfold aJ;obtain⟨k,rfl⟩:∃k,n=k+1:=⟨n-1,by omega⟩
 conv=>lhs;unfold yu
 rw[ah (by omega),arn k ((k+1)/1048576) _ (by omega) (by omega)]
theorem lY (n:Nat):bh (aJ n)=n:=by
 induction n using TV with
 |_ n ay =>
  rcases k4 n with rfl|h
  ·rfl
  ·rw[vp h];unfold bh;rw[ay _ (by omega)];omega
theorem KD {a b:Nat}(h:aJ a=aJ b):a=b:=by
 have:=congrArg bh h;rw[lY,lY] at this;omega
theorem m7 (n:Nat):eZ (aJ n):=by
 induction n using TV with
 |_ n ay =>
  rcases k4 n with rfl|h
  ·intro d aa;cases aa
  ·rw[vp h];intro d aa;rcases hH.1 aa with rfl|aa
   ·omega
   ·exact ay _ (by omega) d aa
theorem zQ {n:Nat}:aJ n=[]↔n=0:=by
 constructor
 ·intro h;exact KD (b:=0) h
 ·rintro rfl;rfl
theorem pq {l:List Int}(h:eZ l):0<=bh l:=by
 induction l with
 |nil=>exact Int.le_refl _
 |cons d r ay =>
  have F:=h d (by simp);have I:=ay λx O=>h x (by simp[O]);unfold bh;omega
theorem DK {d:Int}{r:List Int}:eZ (d::r)↔(0<=d/\d<1048576)/\eZ r :=
 ⟨λh=>⟨h d (by simp),λx O=>h x (by simp[O])⟩,λh x O=>(hH.1 O).elim (λe=>e ▸ h.1) (h.2 x)⟩
theorem DL {a b:List Int}:eZ (a++b)↔eZ a/\eZ b :=
 ⟨λh=>⟨λx O=>h x (by simp[O]),λx O=>h x (by simp[O])⟩,λh x O=>(jk.1 O).elim (h.1 x) (h.2 x)⟩
theorem DM (a b:List Int):bh (a++b)=bh a+1048576^(D a)*bh b:=by
 induction a with
 |nil=>simp[bh]
 |cons d r ay =>
  simp only[jT,bh,ay,h0,nw];rw[iu]
  have:(1048576:Int)*(1048576^(D r)*bh b)=1048576^(D r)*1048576*bh b:=by
   rw[nx (1048576^(D r)) 1048576,iv]
  omega
theorem zR {l:List Int}(h:eZ l):bh l<1048576^(D l):=by
 induction l with
 |nil=>simp[bh]
 |cons d r ay =>
  rw[DK] at h;have I:=ay h.2;simp only[bh,h0,nw];omega
theorem aeN (l:List Int):fK (l++[0])=fK l:=by
 induction l with
 |nil=>simp[fK]
 |cons d r ay=>simp only[jT,fK,ay]
theorem aeO (l:List Int){d:Int}(h:d≠0):fK (l++[d])=l++[d]:=by
 induction l with
 |nil=>simp[fK,h]
 |cons x r ay=>simp only[jT,fK,ay];simp
theorem zS {l:List Int}(h:eZ l):fK l=aJ (bh l).toNat:=by
 induction l with
 |nil=>rfl
 |cons d r ay =>
  rw[DK] at h;have ab:=ay h.2;have ak:=pq h.2;unfold fK;rw[ab,tM]
  by_cases aV:bh r=0
  ·rw[aV]
   by_cases aa:d=0
   ·simp[aa,sG]
   ·rw[ad (by rfl),ah aa];rw[vp (by omega)];rw[show (d+1048576*0).toNat/1048576=0 by omega,sG]
    congr 1
    omega
  ·rw[ah (by rw[zQ];omega)];rw[vp (n:=(d+1048576*bh r).toNat) (by omega)]
   congr 1
   ·omega
   ·congr 1;omega
theorem aeP (n:Nat):fK (aJ n)=aJ n:=by
 rw[zS (m7 n),lY];simp
theorem canon {l:List Int}(h:eZ l)(ar:l.getLast?≠some 0):l=aJ (bh l).toNat:=by
 rw[<-zS h];rcases BL l with rfl|⟨r,d,rfl⟩
 ·rfl
 ·rw[BM] at ar ⊢;rw[aeO];rintro rfl;simp at ar
theorem aeQ (n:Nat):(aJ n).getLast?≠some 0:=by
 intro h
 obtain⟨r,ab⟩:∃r,aJ n=r++[0]:=by
  rcases BL (aJ n) with e|⟨r,d,e⟩
  ·rw[e] at h;cases h
  ·rw[BM] at e;rw[e] at h;simp at h;subst h;exact⟨r,e⟩
 have F:=aeP n;rw[ab,aeN] at F
 have I:(fK r).length<=D r:=by
  clear F ab h
  induction r with
  |nil=>simp[fK]
  |cons d r ay=>unfold fK;split<;>(try split)<;>simp<;>omega
 rw[F] at I;simp at I;omega
theorem g4 {n k:Nat}:(aJ n).length<=k↔n<1048576^k:=by
 induction k generalizing n with
 |zero =>
      rw[Nat.pow_zero];constructor
      ·intro h;have:=oM (Nat.le_zero.1 h);rw[zQ] at this;omega
      ·intro h;obtain rfl:n=0:=by omega
       simp[sG]
 |succ k ay =>
  rcases k4 n with rfl|h
  ·simp[sG];exact Nat.pos_of_ne_zero (by simp)
  ·rw[vp h,h0,wW];have:=ay (n:=n/1048576);rw[Nat.add_le_add_iff_right,this];rw[aeR (by omega)]
theorem DN {n:Nat}(h:0<n)(F:n<1048576):aJ n=[(n:Int)]:=by
 rw[vp h,T6 F,KA F];rfl
theorem KE (l:List Int)(i:Nat):bh l=bh (l.take i)+1048576^(min i (D l))*bh (l.drop i):=by
 conv=>lhs;rw[<-BJ i l]
 rw[DM,fI]
theorem zT (n:Int)(h:0<=n/\n<18446744073709551616):IntKind.u64.wrap n=n:=by
 simp[IntKind.wrap,IntKind.bits,IntKind.signed];omega
theorem rF (n:Int):bits .and .i64 n 1048575=n%1048576:=by
 have I:(1048575:Int)=((2^20-1:Nat):Int):=by decide
 have F:n%18446744073709551616%1048576=n%1048576:=by omega
 obtain⟨a,aN⟩:∃a:Nat,(a:Int)=n%18446744073709551616:=⟨(n%18446744073709551616).toNat,by omega⟩
 have e:BitVec.ofInt 64 n=BitVec.ofNat 64 a:=by
  apply BitVec.eq_of_toInt_eq;rw[BitVec.toInt_ofInt,BitVec.toInt_ofNat',aN];simp[aeS,aeT]
 have aD:bits .and .i64 n 1048575=bits .and .i64 (a:Int) 1048575:=by
  simp only[bits];rw[show IntKind.i64.bits=64 from rfl,e,BitVec.ofInt_natCast]
 rw[aD,<-F,<-aN,I];have Ug:a<2^64:=by omega
 simp only[bits,BitVec.ofInt_natCast,BitVec.toNat_and,BitVec.toNat_ofNat,show IntKind.i64.bits=64 from rfl,KA Ug];rw[show (2^20-1:Nat)%2^64=2^20-1 by decide,aeU,wrap64 _ (by omega) (by omega)]
 omega
theorem aeV (n:Int)(h:0<=n/\n<18446744073709551616):bits .and .u64 n 1048575=n%1048576:=by
 have:=bits_mask .u64 64 (by decide) (λn F I=>zT n ⟨F,by omega⟩) 20 (by decide) n h.1 (by omega)
 simpa using this
theorem Uh (x y:Int)(O:0<=x)(oR:x<8796093022208)(aw:0<=y/\y<1048576):bits .or .i64 (x*1048576) y=x*1048576+y:=by
 refine bits_join .i64 63 (by decide) (λn F I=>wrap64 n (by omega) (by omega)) 20 _ _ (by omega) (by omega) (by omega) aw.1 (by omega) (by omega)
theorem aro (n:Int):n.fdiv (2^20)=n/1048576:=by
 rw[Int.fdiv_eq_ediv_of_nonneg _ (by decide)];rfl
theorem oS (n:Int):n.fdiv (2^min (DO 20) 64)=n/1048576:=aro n
def Ui:FuncId:=224
def Uj:FuncId:=215
def OU:FuncId:=39
def lZ:FuncId:=84
def tO:FuncId:=40
def Gx:FuncId:=35
def oT:FuncId:=233
def Uk:FuncId:=234
def BN:FuncId:=235
def KF:FuncId:=173
def Ul:FuncId:=225
def zU:FuncId:=96
def Um:FuncId:=214
def yv:FuncId:=43
def wX:FuncId:=36
def oU:FuncId:=38
def k7:FuncId:=146
def KG:FuncId:=147
def Un:FuncId:=148
def Uo:FuncId:=90
def vq:FuncId:=85
def DP:FuncId:=86
def Up:FuncId:=82
def OV:FuncId:=83
def Uq:FuncId:=239
def Ur:FuncId:=201
def OW:FuncId:=236
def Us:FuncId:=237
def KH:FuncId:=152
def OX:FuncId:=165
def Ut:FuncId:=223
def Gy:FuncId:=91
def DQ:FuncId:=88
def Uu:FuncId:=89
def vr:FuncId:=149
def vt:FuncId:=94
def KI:FuncId:=156
def pr:FuncId:=150
def Uv:FuncId:=189
def Uw:FuncId:=161
def Gz:FuncId:=151
def vu:FuncId:=141
def OY:FuncId:=142
def Ux:FuncId:=143
def OZ:FuncId:=144
def vv:FuncId:=145
def KJ:FuncId:=240
def BO:FuncId:=241
def DR:FuncId:=155
def arp:FuncId:=231
def Uy:FuncId:=232
def KK:FuncId:=157
def GA:FuncId:=158
def GC:FuncId:=159
def DS:FuncId:=160
def O0:FuncId:=192
def qF:FuncId:=190
def Uz:FuncId:=193
def UA:FuncId:=195
def KL:FuncId:=187
def UB:FuncId:=181
def KM:FuncId:=183
def tP:FuncId:=188
def O1:FuncId:=194
def O2:FuncId:=182
def KN:FuncId:=170
def tQ:FuncId:=200
def UC:FuncId:=33
def UD:FuncId:=184
def UE:FuncId:=75
def UF:FuncId:=76
def O3:FuncId:=77
def pt:FuncId:=78
def wY:FuncId:=79
def DT:FuncId:=80
def UG:FuncId:=81
def zV:FuncId:=900234
def UH:FuncId:=175
def BP:FuncId:=900236
def KO:FuncId:=154
def vw:FuncId:=153
def vx:FuncId:=137
def KP:FuncId:=138
def KQ:FuncId:=139
def KR:FuncId:=106
def DU:FuncId:=107
def UI:FuncId:=140
def KS:FuncId:=87
def GD:FuncId:=162
def KT:FuncId:=163
def GF:FuncId:=164
def GG:FuncId:=191
def UJ:FuncId:=167
def O4:FuncId:=185
def UK:FuncId:=186
def wZ:FuncId:=28
def KU:FuncId:=63
def UL:FuncId:=64
def UM:FuncId:=65
def UN:FuncId:=66
def ny:FuncId:=113
def DV:FuncId:=114
def yw:FuncId:=115
def w0:FuncId:=116
def UO:FuncId:=117
def UP:FuncId:=118
def O5:FuncId:=119
def KV:FuncId:=120
def UQ:FuncId:=121
def UR:FuncId:=122
def US:FuncId:=123
def UT:FuncId:=124
def DW:FuncId:=73
def UU:FuncId:=125
def tR:FuncId:=126
def UW:FuncId:=127
def BQ:FuncId:=171
def DX:FuncId:=172
def vy:FuncId:=174
def w2:FuncId:=176
def KW:FuncId:=135
def DY:FuncId:=179
def UX:FuncId:=180
def UY:FuncId:=213
def DZ:FuncId:=54
def w3:FuncId:=104
def GH:FuncId:=105
def arq:FuncId:=7
def UZ:FuncId:=26
def U0:FuncId:=27
def U1:FuncId:=30
def KX:FuncId:=31
def U2:FuncId:=41
def U3:FuncId:=42
def BR:FuncId:=62
abbrev G (a b:Nat):c9:=⟨some a,none,.cN (.t b)⟩
abbrev aU (a n b:Nat):c9:=⟨some a,none,.load n false (.t b)⟩
abbrev bs (a n b:Nat):c9:=⟨some a,none,.load n true (.t b)⟩
abbrev bj (a n b:Nat):c9:=⟨some a,none,.eu n (.t b)⟩
abbrev bq (n a b:Nat):c9:=⟨none,none,.store n (.t a) (.t b)⟩
abbrev bA (a:Nat)(n:Int):c9:=⟨some a,none,.cN (.c (.J (.int .i64 n)))⟩
abbrev bK (a n b:Nat):c9:=⟨some a,none,.ext n (.t b)⟩
abbrev b0 (a n b c:Nat):c9:=⟨some a,none,.nn n (.t b) (.t c)⟩
abbrev cd (a b:Nat):c9:=⟨some a,none,.len (.t b)⟩
abbrev cO (a:Nat)(b:Bool):c9:=⟨some a,none,.cN (.c (.J (.bool b)))⟩
abbrev eB (a:Nat):c9:=⟨some a,none,.cN (.c .nil)⟩
abbrev bB (a:Nat)(o:BinOp)(b c:Nat):c9:=⟨some a,none,.bin o (.t b) (.t c)⟩
abbrev bm (a:Nat)(o:BinOp)(b:Nat)(n:Int):c9:=⟨some a,none,.bin o (.t b) (.c (.J (.int .i64 n)))⟩
abbrev ey (a b c:Nat):c9:=⟨some a,none,.pick (.t b) (.c (.J (.bool true))) (.t c)⟩
abbrev gK (a b c:Nat):c9:=⟨some a,none,.pick (.t b) (.t c) (.c (.J (.bool false)))⟩
abbrev dX (a k b:Nat):c9:=⟨some a,none,.box k (.t b)⟩
abbrev hf (a b:Nat):c9:=⟨some a,none,.sm (.t b)⟩
abbrev fx (a b:Nat):c9:=⟨some a,none,.un .not (.t b)⟩
abbrev al (n:Int):R:=.J (.int .i64 n)
abbrev eb (a:Nat)(f:FuncId)(x:Nat):c9:=⟨some a,none,.call f [.t x]⟩
abbrev cA (a:Nat)(f:FuncId)(x y:Nat):c9:=⟨some a,none,.call f [.t x,.t y]⟩
abbrev D0 (a:Nat)(f:FuncId)(x y z:Nat):c9:=⟨some a,none,.call f [.t x,.t y,.t z]⟩
abbrev KY (a:Nat)(f:FuncId)(x y z u:Nat):c9:=⟨some a,none,.call f [.t x,.t y,.t z,.t u]⟩
abbrev aC (a:Nat)(o:kg):c9:=⟨some a,none,o⟩
abbrev cq (n m:Nat)(r:List oH)(b:eC):bY:=⟨n,m,r,b⟩
abbrev a6 (n:Nat)(a b:eC):eC:=.cond (.t n) a b
abbrev X (l:List c9)(c:eC):eC:=.seq (.ops l) c
abbrev gb (l:List c9)(x:List (List Nat))(c:eC):eC:=.seq (.nX l x) c
abbrev aeW:List (List Nat):=[[],[],[],[],[],[]]
abbrev ars:List (List Nat):=[[],[],[],[],[],[],[]]
abbrev art:List (List Nat):=[[],[],[],[],[],[],[],[]]
abbrev D3:List (List Nat):=[[],[],[],[],[],[],[],[],[]]
abbrev KZ:List (List Nat):=[[],[],[],[],[],[],[],[],[],[]]
abbrev U4:List (List Nat):=[[],[],[],[],[],[],[],[],[],[],[]]
abbrev aeX:List (List Nat):=[[],[],[],[],[],[],[],[],[],[],[],[]]
abbrev U5:List (List Nat):=[[],[],[],[],[],[],[],[],[],[],[],[],[]]
abbrev K0:List (List Nat):=[[],[],[],[],[],[],[],[],[],[],[],[],[],[]]
abbrev O6:List (List Nat):=[[],[],[],[],[],[],[],[],[],[],[],[],[],[],[],[]]
abbrev aru:List (List Nat):=[[],[],[],[],[],[],[],[],[],[],[],[],[],[],[],[],[]]
abbrev arv:List (List Nat):=[[],[],[],[],[],[],[],[],[],[],[],[],[],[],[],[],[],[]]
abbrev arw:List (List Nat):=[[],[],[],[],[],[],[],[],[],[],[],[],[],[],[],[],[],[],[],[],[],[],[],[],[],[]]
abbrev arx:List (List Nat):=[[],[],[],[],[],[],[],[],[],[],[],[],[],[],[],[],[],[],[],[],[],[],[],[],[],[],[],[]]
abbrev ary:List (List Nat):=[[],[],[],[],[],[],[],[],[],[],[],[],[],[],[],[],[],[],[],[],[],[],[],[],[],[],[],[],[],[]]
def U6:bY:=cq 49 1 [.t 2] (X [dX 1 136001 0,cO 2 false] (X [bj 6 1 1,aU 7 1 6,cd 8 7,G 3 8] (.seq (X [bj 9 1 1,aU 10 1 9,cd 11 10,bA 12 0] (.block 0 (.loop  (X [bB 13 .lss 12 11] (.seq (a6 13 .skip (.exit 0)) (.seq (.block 1 (X [b0 14 1 10 12,aU 15 1 14,G 5 15] (X [G 16 5,bm 17 .lss 16 0,G 18 17,⟨some 19,some (18,false),.cN (.t 5)⟩,⟨some 20,some (18,false),.bin .gtr (.t 19) (.c (al 1048575))⟩,ey 21 18 20] (a6 21 (X [cO 2 false] .ret) .skip)))) (.ops [bm 22 .add 12 1,G 12 22]))))))) (.seq (X [G 23 3,bm 24 .eql 23 0] (a6 24 (X [bj 25 0 1,aU 26 1 25,bm 27 .eql 26 0,G 2 27] .ret) .skip)) (X [bj 28 0 1,aU 29 1 28,bm 30 .eql 29 1,G 31 30,⟨some 32,some (31,false),.eu 0 (.t 1)⟩,⟨some 33,some (31,false),.load 1 false (.t 32)⟩,⟨some 34,some (31,false),.bin .eql (.t 33) (.c (.J (.int .i64 (-1))))⟩,ey 35 31 34,G 36 35,⟨some 37,some (36,true),.cN (.t 3)⟩,⟨some 38,some (36,true),.bin .leq (.t 37) (.c (al 60))⟩,gK 39 36 38,G 40 39,⟨some 41,some (40,true),.eu 1 (.t 1)⟩,⟨some 42,some (40,true),.load 1 false (.t 41)⟩,⟨some 43,some (40,true),.cN (.t 3)⟩,⟨some 44,some (40,true),.bin .sub (.t 43) (.c (al 1))⟩,⟨some 45,some (40,true),.nn 1 (.t 42) (.t 44)⟩,⟨some 46,some (40,true),.load 1 false (.t 45)⟩,⟨some 47,some (40,true),.bin .neq (.t 46) (.c (al 0))⟩,gK 48 40 47,G 2 48] .ret)))))
def U7:bY:=cq 44 2 [.cell 4 2 true,.t 5] (X [dX 2 137002 0,dX 3 137003 1,(aC 4 (.alloc 137004 [(al 0),.nil])),bA 5 0] (.seq (X [bs 10 2 2,(eb 11 k7 10),fx 12 11,G 13 12,⟨some 14,some (13,false),.load 2 true (.t 3)⟩,⟨some 15,some (13,false),.call k7 [(.t 14)]⟩,⟨some 16,some (13,false),.un .not (.t 15)⟩,ey 17 13 16] (a6 17 (X [(aC 18 (.build [(al 0),.nil] [])),(aC 19 (.call vr [(.c (.J (.bool false))),(.t 18)])),bK 20 0 19,bK 21 1 19,bq 2 4 20,G 5 21] .ret) .skip)) (gb [bj 22 1 2,aU 23 1 22,(eb 24 vt 23),bj 25 1 3,aU 26 1 25,G 6 24,G 7 26] ars (.seq (.block 0 (.loop  (.seq (X [G 27 7,cd 28 27,bm 29 .gtr 28 0] (a6 29 .skip (.exit 0))) (.block 1 (X [G 31 6,G 32 7,(cA 33 KI 31 32),G 30 33,bK 34 0 30,bK 35 1 30,G 8 34,G 9 35] (.ops [G 36 7,G 37 9,G 6 36,G 7 37])))))) (X [G 38 6,(eb 39 vt 38),(aC 40 (.call pr [(.c (al 1)),(.t 39)])),(aC 41 (.call vr [(.c (.J (.bool true))),(.t 40)])),bK 42 0 41,bK 43 1 41,bq 2 4 42,G 5 43] .ret)))))
def U8:bY:=cq 32 2 [.cell 4 2 true,.t 5] (X [dX 2 140002 0,dX 3 140003 1,(aC 4 (.alloc 140004 [(al 0),.nil])),bA 5 0] (.seq (X [bs 6 2 2,(eb 7 k7 6),fx 8 7,G 9 8,⟨some 10,some (9,false),.load 2 true (.t 3)⟩,⟨some 11,some (9,false),.call k7 [(.t 10)]⟩,⟨some 12,some (9,false),.un .not (.t 11)⟩,ey 13 9 12] (a6 13 (X [(aC 14 (.build [(al 0),.nil] [])),(aC 15 (.call vr [(.c (.J (.bool false))),(.t 14)])),bK 16 0 15,bK 17 1 15,bq 2 4 16,G 5 17] .ret) .skip)) (gb [bj 18 0 2,aU 19 1 18,bj 20 0 3,aU 21 1 20,bB 22 .mul 19 21,bj 23 1 2,aU 24 1 23,bj 25 1 3,aU 26 1 25,(cA 27 Gz 24 26),(cA 28 pr 22 27),(aC 29 (.call vr [(.c (.J (.bool true))),(.t 28)])),bK 30 0 29,bK 31 1 29,bq 2 4 30,G 5 31] O6 .ret)))
def U9:bY:=cq 25 1 [.cell 2 2 true] (X [(aC 2 (.alloc 150002 [(al 0),.nil]))] (X [G 6 0,(aC 7 (.conv .u64 (.t 6))),bA 3 1,G 4 7] (.seq (X [G 8 0,bm 9 .lss 8 0] (a6 9 (.ops [G 10 4,(aC 11 (.un .neg (.t 10))),(aC 3 (.cN (.c (.J (.int .i64 (-1)))))),G 4 11]) .skip)) (X [eB 5] (.seq (.block 0 (.ghost (.np 5 150021 1) (.loop  (.seq (X [G 12 4,(aC 13 (.bin .gtr (.t 12) (.c (.J (.int .u64 0)))))] (a6 13 .skip (.exit 0))) (.seq (.block 1 (.ops [G 16 5,G 17 4,(aC 18 (.bin .and (.t 17) (.c (.J (.int .u64 1048575))))),(aC 19 (.conv .i64 (.t 18))),(aC 20 (.eQ 150020 false [(al 0)] 1 1 [(0,1,(.t 19))])),(aC 21 (.app 150021 [(al 0)] 8 (.t 16) (.t 20))),G 5 21])) (.ops [G 14 4,(aC 15 (.bin .shr (.t 14) (.c (.J (.int .u64 20))))),G 4 15])))))) (.seq (.ghost (.freeze 5) (.ops [G 22 3,G 23 5,(cA 24 pr 22 23),bq 2 2 24])) .ret))))))
def Va:bY:=cq 14 1 [.cell 2 2 true] (X [dX 1 152001 0,(aC 2 (.alloc 152002 [(al 0),.nil]))] (.seq (X [bs 3 2 1,(eb 4 k7 3),fx 5 4] (a6 5 (X [(aC 6 (.build [(al 0),.nil] [])),bq 2 2 6] .ret) .skip)) (gb [bj 7 0 1,aU 8 1 7,(aC 9 (.un .neg (.t 8))),bj 10 1 1,aU 11 1 10,(eb 12 vt 11),(cA 13 pr 9 12),bq 2 2 13] art .ret)))
def Vb:bY:=cq 67 2 [.cell 4 2 true,.cell 5 2 true,.t 6] (X [dX 2 153002 0,dX 3 153003 1,(aC 4 (.alloc 153004 [(al 0),.nil])),(aC 5 (.alloc 153005 [(al 0),.nil])),bA 6 0] (.seq (.block 0 (X [bs 10 2 2,(eb 11 k7 10),fx 12 11,G 13 12,⟨some 14,some (13,false),.load 2 true (.t 3)⟩,⟨some 15,some (13,false),.call k7 [(.t 14)]⟩,⟨some 16,some (13,false),.un .not (.t 15)⟩,ey 17 13 16,G 9 17] (a6 9 (X [(aC 18 (.build [(al 0),.nil] [])),(aC 19 (.build [(al 0),.nil] [])),bq 2 4 18,bq 2 5 19,bA 6 1] .ret) (X [bj 21 0 3,aU 22 1 21,bm 23 .eql 22 0,G 20 23] (a6 20 (X [(aC 24 (.build [(al 0),.nil] [])),(aC 25 (.build [(al 0),.nil] [])),bq 2 4 24,bq 2 5 25,bA 6 15] .ret) .skip))))) (X [bj 27 1 2,aU 28 1 27,bj 29 1 3,aU 30 1 29,(cA 31 KI 28 30),G 26 31,bK 32 0 26,bK 33 1 26,G 7 32,G 8 33] (.seq (X [bj 34 0 2,aU 35 1 34,bj 36 0 3,aU 37 1 36,bB 38 .mul 35 37,bm 39 .lss 38 0,G 40 39,⟨some 41,some (40,true),.cN (.t 8)⟩,⟨some 42,some (40,true),.len (.t 41)⟩,⟨some 43,some (40,true),.bin .gtr (.t 42) (.c (al 0))⟩,gK 44 40 43] (a6 44 (gb [G 45 7,(aC 46 (.eQ 153046 false [(al 0)] 1 1 [(0,1,(.c (al 1)))])),(cA 47 KK 45 46),(aC 48 (.call pr [(.c (.J (.int .i64 (-1)))),(.t 47)])),bj 49 0 3,aU 50 1 49,bj 51 1 3,aU 52 1 51,G 53 8,(cA 54 GA 52 53),(cA 55 pr 50 54),bq 2 4 48,bq 2 5 55,bA 6 0] K0 .ret) .skip)) (gb [bj 56 0 2,aU 57 1 56,bj 58 0 3,aU 59 1 58,bB 60 .mul 57 59,G 61 7,(cA 62 pr 60 61),bj 63 0 2,aU 64 1 63,G 65 8,(cA 66 pr 64 65),bq 2 4 62,bq 2 5 66,bA 6 0] K0 .ret)))))
def Vc:bY:=cq 31 2 [.t 4] (X [dX 2 154002 0,dX 3 154003 1,bA 4 0] (.seq (X [bs 5 2 2,(eb 6 k7 5),fx 7 6,G 8 7,⟨some 9,some (8,false),.load 2 true (.t 3)⟩,⟨some 10,some (8,false),.call k7 [(.t 9)]⟩,⟨some 11,some (8,false),.un .not (.t 10)⟩,ey 12 8 11] (a6 12 (X [bA 4 0] .ret) .skip)) (.seq (X [bj 13 0 2,aU 14 1 13,bj 15 0 3,aU 16 1 15,bB 17 .neq 14 16] (a6 17 (X [bj 18 0 2,aU 19 1 18,bj 20 0 3,aU 21 1 20,(cA 22 GC 19 21),G 4 22] .ret) .skip)) (gb [bj 23 0 2,aU 24 1 23,bj 25 1 2,aU 26 1 25,bj 27 1 3,aU 28 1 27,(cA 29 DS 26 28),bB 30 .mul 24 29,G 4 30] D3 .ret))))
def Vd:bY:=cq 17 2 [.cell 4 2 true,.t 5] (X [dX 3 155003 1,(aC 4 (.alloc 155004 [(al 0),.nil])),bA 5 0] (.seq (.block 0 (X [G 7 0,fx 8 7,G 6 8] (a6 6 (X [(aC 9 (.build [(al 0),.nil] [])),bq 2 4 9,bA 5 1] .ret) (X [bj 11 1 3,aU 12 1 11,cd 13 12,bm 14 .gtr 13 60,G 10 14] (a6 10 (X [(aC 15 (.build [(al 0),.nil] [])),bq 2 4 15,bA 5 6] .ret) .skip))))) (X [bs 16 2 3,bq 2 4 16,bA 5 0] .ret)))
def Ve:bY:=cq 170 2 [.t 4,.t 5] (X [eB 4,eB 5] (.seq (X [G 19 0,G 20 1,(cA 21 DS 19 20),bm 22 .lss 21 0] (a6 22 (X [G 23 0,(eb 24 vt 23),eB 4,G 5 24] .ret) .skip)) (.seq (X [G 25 1,cd 26 25,bm 27 .eql 26 1] (a6 27 (X [G 29 0,G 30 1,(aC 31 (.nn 1 (.t 30) (.c (al 0)))),aU 32 1 31,(cA 33 O0 29 32),G 28 33,bK 34 0 28,bK 35 1 28,G 6 34,G 7 35] (X [G 36 6,G 37 7,(aC 38 (.eQ 157038 false [(al 0)] 1 1 [(0,1,(.t 37))])),(eb 39 qF 38),G 4 36,G 5 39] .ret)) .skip)) (X [bA 8 1] (.seq (.block 0 (.loop  (.seq (X [G 40 1,G 41 1,cd 42 41,bm 43 .sub 42 1,b0 44 1 40 43,aU 45 1 44,G 46 8,bB 47 .mul 45 46,bm 48 .lss 47 524288] (a6 48 .skip (.exit 0))) (.block 1 (.ops [G 49 8,bm 50 .mul 49 2,G 8 50]))))) (X [G 51 0,G 52 8,(aC 53 (.eQ 157053 false [(al 0)] 1 1 [(0,1,(.t 52))])),(aC 54 (.oG 157054 1 Gz [(.t 51),(.t 53)])),(aC 55 (.eQ 157055 false [(al 0)] 1 1 [(0,1,(.c (al 0)))])),(aC 56 (.app 157056 [(al 0)] 8 (.t 54) (.t 55))),G 57 1,G 58 8,(aC 59 (.eQ 157059 false [(al 0)] 1 1 [(0,1,(.t 58))])),(cA 60 Gz 57 59),G 9 56,G 10 60] (.seq (X [G 61 9,cd 62 61,G 63 0,cd 64 63,bB 65 .eql 62 64] (a6 65 (.ops [G 66 9,(aC 67 (.eQ 157067 false [(al 0)] 1 1 [(0,1,(.c (al 0)))])),(aC 68 (.app 157068 [(al 0)] 8 (.t 66) (.t 67))),G 9 68]) .skip)) (X [G 69 10,cd 70 69,G 11 70] (X [G 71 9,cd 72 71,G 73 11,bB 74 .sub 72 73,(aC 75 (.mz 157075 [(al 0)] 8 (.t 74) (.t 74))),G 12 75] (.seq (X [G 76 12,cd 77 76,bm 78 .sub 77 1,G 13 78] (.block 2 (.loop  (.seq (X [G 79 13,bm 80 .geq 79 0] (a6 80 .skip (.exit 2))) (.seq (.block 3 (gb [G 83 9,G 84 13,G 85 11,bB 86 .add 84 85,b0 87 1 83 86,aU 88 1 87,(aC 89 (.bin .shl (.t 88) (.c (.J (.int .u64 20))))),G 90 9,G 91 13,G 92 11,bB 93 .add 91 92,bm 94 .sub 93 1,b0 95 1 90 94,aU 96 1 95,bB 97 .or 89 96,G 14 97] O6 (gb [G 98 14,G 99 10,G 100 11,bm 101 .sub 100 1,b0 102 1 99 101,aU 103 1 102,bB 104 .quo 98 103,G 105 14,G 106 10,G 107 11,bm 108 .sub 107 1,b0 109 1 106 108,aU 110 1 109,bB 111 .rem 105 110,G 15 104,G 16 111] O6 (.seq (.block 4 (.loop  (.seq (gb [G 112 15,bm 113 .geq 112 1048576,G 114 113,⟨some 115,some (114,false),.cN (.t 16)⟩,⟨some 116,some (114,false),.bin .lss (.t 115) (.c (al 1048576))⟩,⟨some 117,some (114,false),.cN (.t 116)⟩,⟨some 118,some (117,true),.cN (.t 15)⟩,⟨some 119,some (117,true),.cN (.t 10)⟩,⟨some 120,some (117,true),.cN (.t 11)⟩,⟨some 121,some (117,true),.bin .sub (.t 120) (.c (al 2))⟩,⟨some 122,some (117,true),.nn 1 (.t 119) (.t 121)⟩,⟨some 123,some (117,true),.load 1 false (.t 122)⟩,⟨some 124,some (117,true),.bin .mul (.t 118) (.t 123)⟩,⟨some 125,some (117,true),.cN (.t 16)⟩,⟨some 126,some (117,true),.bin .shl (.t 125) (.c (.J (.int .u64 20)))⟩,⟨some 127,some (117,true),.cN (.t 9)⟩,⟨some 128,some (117,true),.cN (.t 13)⟩,⟨some 129,some (117,true),.cN (.t 11)⟩,⟨some 130,some (117,true),.bin .add (.t 128) (.t 129)⟩,⟨some 131,some (117,true),.bin .sub (.t 130) (.c (al 2))⟩,⟨some 132,some (117,true),.nn 1 (.t 127) (.t 131)⟩,⟨some 133,some (117,true),.load 1 false (.t 132)⟩,⟨some 134,some (117,true),.bin .or (.t 126) (.t 133)⟩,⟨some 135,some (117,true),.bin .gtr (.t 124) (.t 134)⟩,⟨some 136,some (114,false),.pick (.t 117) (.t 135) (.c (.J (.bool false)))⟩,ey 137 114 136] arw (a6 137 .skip (.exit 4))) (.block 5 (X [G 138 15,bm 139 .sub 138 1,G 15 139] (.ops [G 140 16,G 141 10,G 142 11,bm 143 .sub 142 1,b0 144 1 141 143,aU 145 1 144,bB 146 .add 140 145,G 16 146])))))) (.ops [G 147 12,G 148 13,G 149 9,G 150 13,G 151 13,G 152 11,bB 153 .add 151 152,bm 154 .add 153 1,(aC 155 (.oF 1 (.t 149) (some (.t 150)) (some (.t 154)) none)),G 156 10,G 157 15,(D0 158 Uz 155 156 157),b0 159 1 147 148,bq 1 159 158]))))) (.ops [G 81 13,bm 82 .sub 81 1,G 13 82])))))) (.seq (.ghost (.freeze 9) (.ops [G 161 9,(eb 162 qF 161),G 163 8,(cA 164 O0 162 163),G 160 164,bK 165 0 160,bK 166 1 160,G 17 165,G 18 166])) (.seq (.ghost (.freeze 12) (.ops [G 167 12,(eb 168 qF 167),G 169 17,G 4 168,G 5 169])) .ret))))))))))))
def Vf:bY:=cq 14 2 [.cell 4 2 true] (X [(aC 4 (.alloc 158004 [(al 0),.nil]))] (X [G 5 1,(eb 6 qF 5),G 1 6] (.seq (X [G 7 1,cd 8 7,bm 9 .eql 8 0] (a6 9 (X [(aC 10 (.build [(al 0),.nil] [])),bq 2 4 10] .ret) .skip)) (X [G 11 0,G 12 1,(aC 13 (.build [(al 0),.nil] [(0,1,(.t 11)),(1,1,(.t 12))])),bq 2 4 13] .ret))))
def Vg:bY:=cq 59 1 [.t 2,.t 3] (X [dX 1 159001 0,bA 2 0,cO 3 false] (.seq (X [bs 7 2 1,(eb 8 k7 7),fx 9 8,G 10 9,⟨some 11,some (10,false),.eu 1 (.t 1)⟩,⟨some 12,some (10,false),.load 1 false (.t 11)⟩,⟨some 13,some (10,false),.len (.t 12)⟩,⟨some 14,some (10,false),.bin .gtr (.t 13) (.c (al 4))⟩,ey 15 10 14] (a6 15 (X [bA 2 0,cO 3 false] .ret) .skip)) (X [(aC 4 (.cN (.c (.J (.int .u64 0)))))] (.seq (X [bj 16 1 1,aU 17 1 16,cd 18 17,bA 19 0] (.block 0 (.loop  (X [bB 20 .lss 19 18] (.seq (a6 20 .skip (.exit 0)) (.seq (.block 1 (X [G 21 19,b0 22 1 17 19,aU 23 1 22,G 5 21,G 6 23] (.seq (X [G 24 5,bm 25 .eql 24 3,G 26 25,⟨some 27,some (26,true),.cN (.t 6)⟩,⟨some 28,some (26,true),.bin .gtr (.t 27) (.c (al 8))⟩,gK 29 26 28] (a6 29 (X [bA 2 0,cO 3 false] .ret) .skip)) (.ops [G 30 4,G 31 6,(aC 32 (.conv .u64 (.t 31))),G 33 5,(aC 34 (.bin .mul (.c (al 20)) (.t 33))),bB 35 .shl 32 34,bB 36 .or 30 35,G 4 36])))) (.ops [bm 37 .add 19 1,G 19 37]))))))) (.seq (.block 2 (X [bj 39 0 1,aU 40 1 39,bm 41 .lss 40 0,G 42 41,⟨some 43,some (42,true),.cN (.t 4)⟩,⟨some 44,some (42,true),.bin .leq (.t 43) (.c (.J (.int .u64 9223372036854775808)))⟩,gK 45 42 44,G 38 45] (a6 38 (X [G 46 4,(aC 47 (.un .neg (.t 46))),(aC 48 (.conv .i64 (.t 47))),G 2 48,cO 3 true] .ret) (X [bj 50 0 1,aU 51 1 50,bm 52 .geq 51 0,G 53 52,⟨some 54,some (53,true),.cN (.t 4)⟩,⟨some 55,some (53,true),.bin .lss (.t 54) (.c (.J (.int .u64 9223372036854775808)))⟩,gK 56 53 55,G 49 56] (a6 49 (X [G 57 4,(aC 58 (.conv .i64 (.t 57))),G 2 58,cO 3 true] .ret) .skip))))) (X [bA 2 0,cO 3 false] .ret))))))
def Vh:bY:=cq 69 2 [.cell 4 2 true,.t 5] (X [dX 2 160002 0,dX 3 160003 1,(aC 4 (.alloc 160004 [(al 0),.nil])),bA 5 0] (.seq (X [bs 6 2 2,(eb 7 k7 6),fx 8 7,G 9 8,⟨some 10,some (9,false),.load 2 true (.t 3)⟩,⟨some 11,some (9,false),.call k7 [(.t 10)]⟩,⟨some 12,some (9,false),.un .not (.t 11)⟩,ey 13 9 12] (a6 13 (X [(aC 14 (.build [(al 0),.nil] [])),(aC 15 (.call vr [(.c (.J (.bool false))),(.t 14)])),bK 16 0 15,bK 17 1 15,bq 2 4 16,G 5 17] .ret) .skip)) (.seq (.block 0 (X [bj 19 0 2,aU 20 1 19,bj 21 0 3,aU 22 1 21,bB 23 .mul 20 22,bm 24 .geq 23 0,G 18 24] (a6 18 (gb [bj 25 0 2,aU 26 1 25,bj 27 0 3,aU 28 1 27,(aC 29 (.eQ 160029 false [(al 0),(al 0)] 1 2 [(0,1,(.t 26)),(1,1,(.t 28))])),(eb 30 UA 29),bj 31 1 2,aU 32 1 31,bj 33 1 3,aU 34 1 33,(cA 35 KK 32 34),(cA 36 pr 30 35),(aC 37 (.call vr [(.c (.J (.bool true))),(.t 36)])),bK 38 0 37,bK 39 1 37,bq 2 4 38,G 5 39] aru .ret) (X [bj 41 1 2,aU 42 1 41,bj 43 1 3,aU 44 1 43,(cA 45 DS 42 44),bm 46 .lss 45 0,G 40 46] (a6 40 (gb [bj 47 0 3,aU 48 1 47,bj 49 1 3,aU 50 1 49,bj 51 1 2,aU 52 1 51,(cA 53 GA 50 52),(cA 54 pr 48 53),(aC 55 (.call vr [(.c (.J (.bool true))),(.t 54)])),bK 56 0 55,bK 57 1 55,bq 2 4 56,G 5 57] U5 .ret) .skip))))) (gb [bj 58 0 2,aU 59 1 58,bj 60 1 2,aU 61 1 60,bj 62 1 3,aU 63 1 62,(cA 64 GA 61 63),(cA 65 pr 59 64),(aC 66 (.call vr [(.c (.J (.bool true))),(.t 65)])),bK 67 0 66,bK 68 1 66,bq 2 4 67,G 5 68] U5 .ret))))
def Vi:bY:=cq 67 2 [.t 4] (X [eB 4] (X [G 12 0,cd 13 12,G 14 1,cd 15 14,bB 16 .add 13 15,(aC 17 (.mz 161017 [(al 0)] 8 (.t 16) (.t 16))),G 5 17] (.seq (X [G 18 0,cd 19 18,bA 20 0] (.block 0 (.loop  (X [bB 21 .lss 20 19] (.seq (a6 21 .skip (.exit 0)) (.seq (.block 1 (X [G 22 20,b0 23 1 18 20,aU 24 1 23,G 6 22,G 7 24] (X [bA 8 0] (.seq (X [G 25 1,cd 26 25,bA 27 0] (.block 2 (.loop  (X [bB 28 .lss 27 26] (.seq (a6 28 .skip (.exit 2)) (.seq (.block 3 (X [G 29 27,b0 30 1 25 27,aU 31 1 30,G 9 29,G 10 31] (X [G 32 5,G 33 6,G 34 9,bB 35 .add 33 34,b0 36 1 32 35,aU 37 1 36,G 38 7,G 39 10,bB 40 .mul 38 39,bB 41 .add 37 40,G 42 8,bB 43 .add 41 42,G 11 43] (.ops [G 44 5,G 45 6,G 46 9,bB 47 .add 45 46,G 48 11,bm 49 .and 48 1048575,G 50 11,(aC 51 (.bin .shr (.t 50) (.c (.J (.int .u64 20))))),b0 52 1 44 47,bq 1 52 49,G 8 51])))) (.ops [bm 53 .add 27 1,G 27 53]))))))) (.ops [G 54 5,G 55 6,G 56 1,cd 57 56,bB 58 .add 55 57,b0 59 1 54 58,aU 60 1 59,G 61 8,bB 62 .add 60 61,b0 63 1 54 58,bq 1 63 62]))))) (.ops [bm 64 .add 20 1,G 20 64]))))))) (X [G 65 5,(eb 66 qF 65),G 4 66] .ret))))
def Vj:bY:=cq 55 2 [.t 4] (X [eB 4] (.seq (X [G 9 0,cd 10 9,G 11 1,cd 12 11,bB 13 .lss 10 12] (a6 13 (.ops [G 14 1,G 15 0,G 0 14,G 1 15]) .skip)) (X [G 16 0,cd 17 16,bm 18 .add 17 1,(aC 19 (.mz 172019 [(al 0)] 8 (.t 18) (.t 18))),G 5 19] (X [bA 6 0] (.seq (X [G 20 0,cd 21 20,bA 22 0] (.block 0 (.loop  (X [bB 23 .lss 22 21] (.seq (a6 23 .skip (.exit 0)) (.seq (.block 1 (X [G 24 22,b0 25 1 20 22,aU 26 1 25,G 7 24,G 8 26] (X [G 27 6,G 28 8,bB 29 .add 27 28,G 6 29] (.seq (X [G 30 7,G 31 1,cd 32 31,bB 33 .lss 30 32] (a6 33 (.ops [G 34 6,G 35 1,G 36 7,b0 37 1 35 36,aU 38 1 37,bB 39 .add 34 38,G 6 39]) .skip)) (X [G 40 5,G 41 7,G 42 6,bm 43 .and 42 1048575,b0 44 1 40 41,bq 1 44 43] (.ops [G 45 6,(aC 46 (.bin .shr (.t 45) (.c (.J (.int .u64 20))))),G 6 46])))))) (.ops [bm 47 .add 22 1,G 22 47]))))))) (X [G 48 5,G 49 0,cd 50 49,G 51 6,b0 52 1 48 50,bq 1 52 51] (X [G 53 5,(eb 54 qF 53),G 4 54] .ret)))))))
def Vk:bY:=cq 43 2 [.t 4] (X [eB 4] (X [G 9 0,(aC 10 (.oG 173010 1 vt [(.t 9)])),G 5 10] (X [bA 6 0] (.seq (X [G 11 5,cd 12 11,bA 13 0] (.block 0 (.loop  (X [bB 14 .lss 13 12] (.seq (a6 14 .skip (.exit 0)) (.seq (.block 1 (X [G 15 13,G 7 15] (X [G 16 5,G 17 7,b0 18 1 16 17,aU 19 1 18,G 20 6,bB 21 .sub 19 20,G 8 21] (.seq (X [G 22 7,G 23 1,cd 24 23,bB 25 .lss 22 24] (a6 25 (.ops [G 26 8,G 27 1,G 28 7,b0 29 1 27 28,aU 30 1 29,bB 31 .sub 26 30,G 8 31]) .skip)) (X [G 32 8,(aC 33 (.bin .shr (.t 32) (.c (.J (.int .u64 20))))),bm 34 .and 33 1,G 6 34] (.ops [G 35 5,G 36 7,G 37 8,bm 38 .and 37 1048575,b0 39 1 35 36,bq 1 39 38])))))) (.ops [bm 40 .add 13 1,G 13 40]))))))) (X [G 41 5,(eb 42 qF 41),G 4 42] .ret)))))
def Vl:bY:=cq 41 2 [.t 4] (X [bA 4 0] (.seq (X [G 6 0,cd 7 6,G 8 1,cd 9 8,bB 10 .neq 7 9] (a6 10 (X [G 11 0,cd 12 11,G 13 1,cd 14 13,(cA 15 GC 12 14),G 4 15] .ret) .skip)) (.seq (X [G 16 0,cd 17 16,bm 18 .sub 17 1,G 5 18] (.block 0 (.loop  (.seq (X [G 19 5,bm 20 .geq 19 0] (a6 20 .skip (.exit 0))) (.seq (.block 1 (gb [G 23 0,G 24 5,b0 25 1 23 24,aU 26 1 25,G 27 1,G 28 5,b0 29 1 27 28,aU 30 1 29,bB 31 .neq 26 30] D3 (a6 31 (gb [G 32 0,G 33 5,b0 34 1 32 33,aU 35 1 34,G 36 1,G 37 5,b0 38 1 36 37,aU 39 1 38,(cA 40 GC 35 39),G 4 40] KZ .ret) .skip))) (.ops [G 21 5,bm 22 .sub 21 1,G 5 22])))))) (X [bA 4 0] .ret))))
def Vm:bY:=cq 38 2 [.t 4,.t 5] (X [eB 4,bA 5 0] (X [G 9 0,cd 10 9,(aC 11 (.mz 176011 [(al 0)] 8 (.t 10) (.t 10))),G 6 11] (X [bA 7 0] (.seq (X [G 12 0,cd 13 12,bm 14 .sub 13 1,G 8 14] (.block 0 (.loop  (.seq (X [G 15 8,bm 16 .geq 15 0] (a6 16 .skip (.exit 0))) (.seq (.block 1 (X [G 19 7,(aC 20 (.bin .shl (.t 19) (.c (.J (.int .u64 20))))),G 21 0,G 22 8,b0 23 1 21 22,aU 24 1 23,bB 25 .or 20 24,G 7 25] (X [G 26 6,G 27 8,G 28 7,G 29 1,bB 30 .quo 28 29,b0 31 1 26 27,bq 1 31 30] (.ops [G 32 7,G 33 1,bB 34 .rem 32 33,G 7 34])))) (.ops [G 17 8,bm 18 .sub 17 1,G 8 18])))))) (.seq (.ghost (.freeze 6) (.ops [G 35 6,(eb 36 qF 35),G 37 7,G 4 36,G 5 37])) .ret)))))
def D4:bY:=cq 21 1 [.t 2] (X [eB 2] (X [G 4 0,cd 5 4,G 3 5] (.seq (.block 0 (.loop  (.seq (X [G 6 3,bm 7 .gtr 6 0,G 8 7,⟨some 9,some (8,true),.cN (.t 0)⟩,⟨some 10,some (8,true),.cN (.t 3)⟩,⟨some 11,some (8,true),.bin .sub (.t 10) (.c (al 1))⟩,⟨some 12,some (8,true),.nn 1 (.t 9) (.t 11)⟩,⟨some 13,some (8,true),.load 1 false (.t 12)⟩,⟨some 14,some (8,true),.bin .eql (.t 13) (.c (al 0))⟩,gK 15 8 14] (a6 15 .skip (.exit 0))) (.block 1 (.ops [G 16 3,bm 17 .sub 16 1,G 3 17]))))) (X [G 18 0,G 19 3,(aC 20 (.oF 1 (.t 18) none (some (.t 19)) none)),G 2 20] .ret))))
def O7:bY:=cq 78 3 [.t 6] (X [bA 6 0] (X [bA 7 0] (.seq (X [G 12 0,cd 13 12,bA 14 0] (.block 0 (.loop  (X [bB 15 .lss 14 13] (.seq (a6 15 .skip (.exit 0)) (.seq (.block 1 (X [G 16 14,G 8 16] (X [G 17 0,G 18 8,b0 19 1 17 18,aU 20 1 19,G 21 7,bB 22 .sub 20 21,G 9 22] (.seq (X [G 23 8,G 24 1,cd 25 24,bB 26 .lss 23 25] (a6 26 (.ops [G 27 9,G 28 2,G 29 1,G 30 8,b0 31 1 29 30,aU 32 1 31,bB 33 .mul 28 32,bB 34 .sub 27 33,G 9 34]) .skip)) (X [G 35 0,G 36 8,G 37 9,bm 38 .and 37 1048575,b0 39 1 35 36,bq 1 39 38] (.ops [G 40 9,(aC 41 (.bin .shr (.t 40) (.c (.J (.int .u64 20))))),(aC 42 (.un .neg (.t 41))),G 7 42])))))) (.ops [bm 43 .add 14 1,G 14 43]))))))) (.seq (X [G 44 7,bm 45 .eql 44 0] (a6 45 (X [G 46 2,G 6 46] .ret) .skip)) (X [bA 10 0] (.seq (X [G 47 0,cd 48 47,bA 49 0] (.block 2 (.loop  (X [bB 50 .lss 49 48] (.seq (a6 50 .skip (.exit 2)) (.seq (.block 3 (X [G 51 49,G 11 51] (X [G 52 10,G 53 0,G 54 11,b0 55 1 53 54,aU 56 1 55,bB 57 .add 52 56,G 10 57] (.seq (X [G 58 11,G 59 1,cd 60 59,bB 61 .lss 58 60] (a6 61 (.ops [G 62 10,G 63 1,G 64 11,b0 65 1 63 64,aU 66 1 65,bB 67 .add 62 66,G 10 67]) .skip)) (X [G 68 0,G 69 11,G 70 10,bm 71 .and 70 1048575,b0 72 1 68 69,bq 1 72 71] (.ops [G 73 10,(aC 74 (.bin .shr (.t 73) (.c (.J (.int .u64 20))))),G 10 74])))))) (.ops [bm 75 .add 49 1,G 49 75]))))))) (X [G 76 2,bm 77 .sub 76 1,G 6 77] .ret)))))))
def Vn:bY:=cq 20 2 [.t 4] (X [bA 4 0] (X [G 7 0,(eb 8 O1 7),G 5 8] (X [G 9 1,(eb 10 O1 9),G 6 10] (.seq (X [G 11 5] (a6 11 (.seq (X [G 12 6] (a6 12 (X [bA 4 0] .ret) .skip)) (X [(aC 4 (.cN (.c (.J (.int .i64 (-1))))))] .ret)) .skip)) (.seq (X [G 13 6] (a6 13 (X [bA 4 1] .ret) .skip)) (.seq (X [G 14 0,G 15 1,bB 16 .lss 14 15] (a6 16 (X [(aC 4 (.cN (.c (.J (.int .i64 (-1))))))] .ret) .skip)) (.seq (X [G 17 0,G 18 1,bB 19 .gtr 17 18] (a6 19 (X [bA 4 1] .ret) .skip)) (X [bA 4 0] .ret))))))))
def Vo:bY:=cq 18 1 [.t 2] (X [bA 2 0] (X [bA 3 0] (.seq (X [G 6 0,cd 7 6,bA 8 0] (.block 0 (.loop  (X [bB 9 .lss 8 7] (.seq (a6 9 .skip (.exit 0)) (.seq (.block 1 (X [b0 10 1 6 8,aU 11 1 10,G 5 11] (X [G 12 5,G 13 3,bB 14 .neq 12 13] (a6 14 (X [G 15 5,G 2 15] .ret) .skip)))) (.ops [bm 16 .add 8 1,G 8 16]))))))) (X [G 17 3,G 2 17] .ret))))
def Vp:bY:=cq 6 1 [.t 2] (X [cO 2 false] (X [G 3 0,G 4 0,bB 5 .neq 3 4,G 2 5] .ret))
def Vq:bY:=cq 9 2 [.t 4] (X [cO 4 false] (X [G 5 0,G 6 1,(cA 7 Uq 5 6),bm 8 .geq 7 0,G 4 8] .ret))
def Vr:bY:=cq 9 2 [.t 4] (X [cO 4 false] (X [G 5 0,G 6 1,(cA 7 Ur 5 6),bm 8 .geq 7 0,G 4 8] .ret))
def Vs:bY:=cq 48 2 [.t 4] (X [eB 4] (.seq (X [G 9 1,bm 10 .lss 9 0] (a6 10 (.ops [(aC 11 (.bad)),⟨none,none,.bad⟩]) .skip)) (X [G 13 0,cd 14 13,(aC 15 (.conv .u64 (.t 14))),G 16 1,(aC 17 (.conv .u64 (.t 16))),(cA 18 Ut 15 17),G 12 18,bK 19 0 12,bK 20 1 12,G 5 19,G 6 20] (.seq (X [G 21 5,(aC 22 (.bin .gtr (.t 21) (.c (.J (.int .u64 0))))),G 23 22,⟨some 24,some (23,false),.cN (.t 6)⟩,⟨some 25,some (23,false),.bin .gtr (.t 24) (.c (.J (.int .u64 9223372036854775807)))⟩,ey 26 23 25] (a6 26 (.ops [(aC 27 (.bad)),⟨none,none,.bad⟩]) .skip)) (X [G 28 6,(aC 29 (.conv .i64 (.t 28))),(aC 30 (.mz 131030 [(al 0),.nil,(al 0),.nil] 64 (.t 29) (.t 29))),G 7 30] (X [G 31 7,G 32 0,(aC 33 (.sn 4 (.t 31) (.t 32))),G 8 33] (.seq (.block 0 (.loop  (.seq (X [G 34 8,G 35 7,cd 36 35,bB 37 .lss 34 36] (a6 37 .skip (.exit 0))) (.block 1 (.nX [G 38 8,G 39 7,G 40 8,(aC 41 (.oF 4 (.t 39) (some (.t 40)) none none)),G 42 7,G 43 8,(aC 44 (.oF 4 (.t 42) none (some (.t 43)) none)),(aC 45 (.sn 4 (.t 41) (.t 44))),bB 46 .add 38 45,G 8 46] KZ))))) (X [G 47 7,G 4 47] .ret))))))))
def Vt:bY:=cq 19 2 [.t 4] (X [bA 4 0] (.seq (X [G 6 0,cd 7 6,bA 8 0] (.block 0 (.loop  (X [bB 9 .lss 8 7] (.seq (a6 9 .skip (.exit 0)) (.seq (.block 1 (X [G 10 8,G 5 10] (X [G 11 1,G 12 0,G 13 5,b0 14 5 12 13,bs 15 5 14,(aC 16 (.jH (.t 11) [(.t 15)]))] (a6 16 (X [G 17 5,G 4 17] .ret) .skip)))) (.ops [bm 18 .add 8 1,G 8 18]))))))) (X [(aC 4 (.cN (.c (.J (.int .i64 (-1))))))] .ret)))
def GI:bY:=cq 19 2 [.t 4] (X [bA 4 0] (.seq (X [G 6 0,cd 7 6,bA 8 0] (.block 0 (.loop  (X [bB 9 .lss 8 7] (.seq (a6 9 .skip (.exit 0)) (.seq (.block 1 (X [G 10 8,G 5 10] (X [G 11 1,G 12 0,G 13 5,b0 14 4 12 13,bs 15 4 14,(aC 16 (.jH (.t 11) [(.t 15)]))] (a6 16 (X [G 17 5,G 4 17] .ret) .skip)))) (.ops [bm 18 .add 8 1,G 8 18]))))))) (X [(aC 4 (.cN (.c (.J (.int .i64 (-1))))))] .ret)))
def Vu:bY:=cq 8 1 [.t 2] (X [eB 2] (.seq (X [G 3 0,(aC 4 (.re false (.t 3)))] (a6 4 (X [eB 2] .ret) .skip)) (X [(aC 5 (.eQ 147005 true [] 4 0 [])),G 6 0,(aC 7 (.app 147007 [(al 0),.nil,(al 0),.nil] 64 (.t 5) (.t 6))),G 2 7] .ret)))
def Vv:bY:=cq 8 1 [.t 2] (X [eB 2] (.seq (X [G 3 0,(aC 4 (.re false (.t 3)))] (a6 4 (X [eB 2] .ret) .skip)) (X [(aC 5 (.eQ 156005 true [] 1 0 [])),G 6 0,(aC 7 (.app 156007 [(al 0)] 8 (.t 5) (.t 6))),G 2 7] .ret)))
def K1:bY:=cq 19 2 [.t 4] (X [bA 4 0] (.seq (X [G 6 0,cd 7 6,bA 8 0] (.block 0 (.loop  (X [bB 9 .lss 8 7] (.seq (a6 9 .skip (.exit 0)) (.seq (.block 1 (X [G 10 8,G 5 10] (X [G 11 1,G 12 0,G 13 5,b0 14 1 12 13,aU 15 1 14,(aC 16 (.jH (.t 11) [(.t 15)]))] (a6 16 (X [G 17 5,G 4 17] .ret) .skip)))) (.ops [bm 18 .add 8 1,G 8 18]))))))) (X [(aC 4 (.cN (.c (.J (.int .i64 (-1))))))] .ret)))
def K2:bY:=cq 32 3 [.t 6] (X [cO 6 false] (.seq (X [G 10 0,cd 11 10,G 12 1,cd 13 12,bB 14 .neq 11 13] (a6 14 (X [cO 6 false] .ret) .skip)) (.seq (X [G 15 0,cd 16 15,bA 17 0] (.block 0 (.loop  (X [bB 18 .lss 17 16] (.seq (a6 18 .skip (.exit 0)) (.seq (.block 1 (X [G 19 17,b0 20 4 15 17,bs 21 4 20,(aC 8 (.alloc 235008 [(al 0),.nil,(al 0),.nil])),G 7 19,bq 4 8 21] (X [G 22 1,G 23 7,b0 24 4 22 23,bs 25 4 24,(aC 9 (.alloc 235009 [(al 0),.nil,(al 0),.nil])),bq 4 9 25] (X [G 26 2,bs 27 4 8,bs 28 4 9,(aC 29 (.jH (.t 26) [(.t 27),(.t 28)])),fx 30 29] (a6 30 (X [cO 6 false] .ret) .skip))))) (.ops [bm 31 .add 17 1,G 17 31]))))))) (X [cO 6 true] .ret))))
def Vw:bY:=cq 9 2 [.t 4] (X [cO 4 false] (X [G 5 0,G 6 1,(cA 7 wY 5 6),bm 8 .geq 7 0,G 4 8] .ret))
def Vx:bY:=cq 9 2 [.t 4] (X [cO 4 false] (X [G 5 0,G 6 1,(cA 7 UJ 5 6),bm 8 .geq 7 0,G 4 8] .ret))
def K3:bY:=cq 19 2 [.t 4] (X [bA 4 0] (.seq (X [G 6 0,cd 7 6,bA 8 0] (.block 0 (.loop  (X [bB 9 .lss 8 7] (.seq (a6 9 .skip (.exit 0)) (.seq (.block 1 (X [G 10 8,G 5 10] (X [G 11 1,G 12 0,G 13 5,b0 14 4 12 13,bs 15 4 14,(aC 16 (.jH (.t 11) [(.t 15)]))] (a6 16 (X [G 17 5,G 4 17] .ret) .skip)))) (.ops [bm 18 .add 8 1,G 8 18]))))))) (X [(aC 4 (.cN (.c (.J (.int .i64 (-1))))))] .ret)))
def Vy:bY:=cq 26 2 [.t 4] (X [cO 4 false] (.seq (X [G 6 0,cd 7 6,G 8 1,cd 9 8,bB 10 .neq 7 9] (a6 10 (X [cO 4 false] .ret) .skip)) (.seq (X [G 11 0,cd 12 11,bA 13 0] (.block 0 (.loop  (X [bB 14 .lss 13 12] (.seq (a6 14 .skip (.exit 0)) (.seq (.block 1 (X [G 15 13,G 5 15] (gb [G 16 0,G 17 5,b0 18 1 16 17,aU 19 1 18,G 20 1,G 21 5,b0 22 1 20 21,aU 23 1 22,bB 24 .neq 19 23] D3 (a6 24 (X [cO 4 false] .ret) .skip)))) (.ops [bm 25 .add 13 1,G 13 25]))))))) (X [cO 4 true] .ret))))
def O8:bY:=cq 61 1 [.t 2] (X [eB 2] (.seq (X [G 6 0,cd 7 6,bm 8 .lss 7 2] (a6 8 (X [G 9 0,G 2 9] (.ghost (.freeze 2) .ret)) .skip)) (.seq (X [bA 3 1] (.block 0 (.loop  (.seq (X [G 10 3,G 11 0,cd 12 11,bB 13 .lss 10 12] (a6 13 .skip (.exit 0))) (.seq (.block 1 (gb [G 16 0,G 17 3,b0 18 1 16 17,aU 19 1 18,G 20 0,G 21 3,bm 22 .sub 21 1,b0 23 1 20 22,aU 24 1 23,bB 25 .eql 19 24] KZ (a6 25 (X [G 26 0,G 27 3,(aC 28 (.oF 1 (.t 26) (some (.t 27)) none none)),G 4 28] (.seq (X [bA 5 1] (.block 2 (.loop  (.seq (X [G 29 5,G 30 4,cd 31 30,bB 32 .lss 29 31] (a6 32 .skip (.exit 2))) (.seq (.block 3 (gb [G 35 4,G 36 5,b0 37 1 35 36,aU 38 1 37,G 39 4,G 40 5,bm 41 .sub 40 1,b0 42 1 39 41,aU 43 1 42,bB 44 .neq 38 43] KZ (a6 44 (X [G 45 0,G 46 3,G 47 4,G 48 5,b0 49 1 47 48,aU 50 1 49,b0 51 1 45 46,bq 1 51 50] (.ops [G 52 3,bm 53 .add 52 1,G 3 53])) .skip))) (.ops [G 33 5,bm 34 .add 33 1,G 5 34])))))) (X [G 54 0,G 55 3,(aC 56 (.oF 1 (.t 54) (some (.t 55)) none none)),⟨none,none,.sr [(al 0)] (.t 56)⟩] (X [G 57 0,G 58 3,(aC 59 (.oF 1 (.t 57) none (some (.t 58)) none)),G 2 59] (.ghost (.freeze 2) .ret))))) .skip))) (.ops [G 14 3,bm 15 .add 14 1,G 3 15])))))) (X [G 60 0,G 2 60] (.ghost (.freeze 2) .ret)))))
def O9:bY:=cq 42 2 [.t 4] (X [eB 4] (X [G 8 0,G 9 1,(cA 10 wY 8 9),G 5 10] (.seq (X [G 11 5,(aC 12 (.bin .eql (.t 11) (.c (.J (.int .i64 (-1))))))] (a6 12 (X [G 13 0,G 4 13] .ret) .skip)) (.seq (X [G 14 5,bm 15 .add 14 1,G 6 15] (.block 0 (.loop  (.seq (X [G 16 6,G 17 0,cd 18 17,bB 19 .lss 16 18] (a6 19 .skip (.exit 0))) (.seq (.block 1 (X [G 22 0,G 23 6,b0 24 1 22 23,aU 25 1 24,G 7 25] (X [G 26 1,G 27 7,(aC 28 (.jH (.t 26) [(.t 27)])),fx 29 28] (a6 29 (X [G 30 0,G 31 5,G 32 7,b0 33 1 30 31,bq 1 33 32] (.ops [G 34 5,bm 35 .add 34 1,G 5 35])) .skip)))) (.ops [G 20 6,bm 21 .add 20 1,G 6 21])))))) (X [G 36 0,G 37 5,(aC 38 (.oF 1 (.t 36) (some (.t 37)) none none)),⟨none,none,.sr [(al 0)] (.t 38)⟩] (X [G 39 0,G 40 5,(aC 41 (.oF 1 (.t 39) none (some (.t 40)) none)),G 4 41] .ret))))))
def Vz:bY:=cq 9 2 [.t 4] (X [cO 4 false] (X [G 5 0,G 6 1,(cA 7 UY 5 6),bm 8 .geq 7 0,G 4 8] .ret))
def VA:bY:=cq 19 2 [.t 4] (X [bA 4 0] (.seq (X [G 6 0,cd 7 6,bA 8 0] (.block 0 (.loop  (X [bB 9 .lss 8 7] (.seq (a6 9 .skip (.exit 0)) (.seq (.block 1 (X [G 10 8,G 5 10] (X [G 11 1,G 12 0,G 13 5,b0 14 1 12 13,aU 15 1 14,bB 16 .eql 11 15] (a6 16 (X [G 17 5,G 4 17] .ret) .skip)))) (.ops [bm 18 .add 8 1,G 8 18]))))))) (X [(aC 4 (.cN (.c (.J (.int .i64 (-1))))))] .ret)))
theorem VB (l:List Int)(n:Nat)(aK:n<D l)(h:l[n]=0):fK (l.take (n+1))=fK (l.take n):=by
 rw[hc,bz aK,h];exact aeN _
theorem VC (l:List Int)(n:Nat)(aK:n<D l)(h:l[n]≠0):fK (l.take (n+1))=l.take (n+1):=by
 rw[hc,bz aK];exact aeO _ h
abbrev GJ:List Int->List Data:=λ(l:List Int)=>[.Y (l.map ae)]
def zW:=cu GJ λ(l:List Int)=>cU (D l<=1000000) (.same (.Y ((fK l).map ae)))
theorem Pa:∀a b,GJ a=GJ b->a=b:=by
  intro eh aq h;exact map_inj fh _ _ (by simpa using h)
@[go_sem] theorem Pb (l:List Int)(H:(D l)<=1000000):zW [.Y (l.map ae)]=some (.same (.Y ((fK l).map ae))):=(cD Pa l).trans (cZ H _)
theorem arz (T:bl)  (l:List Int) (H:(D l)<=1000000):WP T D4 (.same (.Y ((fK l).map ae))) [.J (.Y (l.map ae))]:=by
 refine cE ?_;simp only[D4];have tv:((l.map ae).all λe=>D e==1)=true:=by simp[ae]
 refine aZ ?_;repeat' (intro h<;>simp only[h,go_sem,go_sem_proc,aj]<;>try refine ax ?_ ?_)
 refine dw [0] [] (λ(n:Nat) tm mem=>n<=D l/\fK l=fK (l.take n)/\tm 3=.J (.int .i64 n)) (λn=>n) (D l) (by refine⟨b1 _,by simp,by simp[go_sem]⟩) ?_;intro vs ms aT aS;simp only[go_sem,go_sem_proc,aj] at aT aS;subst aT aS;rintro n tm mem Q-⟨aK,bD,af⟩;simp only[go_sem,go_sem_proc,bf] at Q;have ao:=Q;rcases n with _|n
 ·refine aZ ?_;repeat' (intro h<;>simp only[h,go_sem,go_sem_proc,ao,af,tv,lC,l0,show ¬ ((0:Int)>0) by omega,decide_false,aj,show (0:Int).toNat=0 from rfl,show (0:Int)<=0 by omega,fk,nu,cY]<;>try refine ax ?_ ?_)
  rw[bD];simp[fK]
 ·have hw:IntKind.i64.wrap (((n+1:Nat):Int)-1)=(n:Int):=by rw[fc _];omega
  have O:l[n]?=some l[n]:=bz (by omega);have h4:((n+1:Nat):Int)>0:=by omega
  have hle:n+1<=D l:=aK
  by_cases aV:l[n]=0
  ·refine aZ ?_;repeat' (intro h<;>simp only[h,go_sem,go_sem_proc,ao,af,hw,O,aV,h4,aj,bn,decide_true,ae,beq_self_eq_true,bf]<;>try refine ax ?_ ?_)
   exact⟨n,by omega,by omega,by rw[bD,VB l n (by omega) aV],rfl⟩
  ·have qG:(l[n]==0)=false:=by simpa using aV
   refine aZ ?_;repeat' (intro h<;>simp only[h,go_sem,go_sem_proc,ao,af,hw,O,qG,h4,tv,hle,ae,aj,bn,decide_true,bf,show (0:Int)<=((n+1:Nat):Int) by omega,l1,fk]<;>try refine ax ?_ ?_)
   rw[bD,VC l n (by omega) aV,List.map_take]
structure aeY where
 l:List Int
 k:Key
 g:Nat
def vz:List R->Mem->Option (R×Mem):=Gw (λ(a:aeY) args mem=>args=[.ref a.k a.g 1 0 (D a.l)]/\mem a.k=some (a.g,a7 ae a.l)/\D a.l<=1000000) (λa mem=>(.ref a.k a.g 1 0 (fK a.l).length,mem))
theorem VD {α:Type}{enc:α->List Data}{sz:Nat}(h:∀a,(enc a).length=sz)(M:∀a b,enc a=enc b->a=b):∀(l ft:List α),a7 enc l=a7 enc ft->0<sz->l=ft:=by
 intro l
 induction l with
 |nil =>
  intro ft e aV
  cases ft with
  |nil=>rfl
  |cons b r =>
   have:=congrArg D e;rw[oQ h,oQ h] at this;simp only[jy,h0,DJ,qn] at this;omega
 |cons a r ay =>
  intro ft e aV
  cases ft with
  |nil =>
   have:=congrArg D e;rw[oQ h,oQ h] at this;simp only[jy,h0,DJ,qn] at this;omega
  |cons b FV =>
   rw[yq,yq] at e;have ar:((enc a).map R.J).length=((enc b).map R.J).length:=by simp[h]
   obtain⟨az,aD⟩:=GL e ar;have bZ:=map_inj (λx y (e:R.J x=R.J y)=>by cases e;rfl) _ _ az;rw[M _ _ bZ,ay FV aD aV]
theorem VE (l:List Int)(k g:Nat)(mem:Mem)(h:mem k=some (g,a7 ae l))(ar:(D l)<=1000000):vz [.ref k g 1 0 (D l)] mem=some (.ref k g 1 0 (fK l).length,mem):=by
 unfold vz;refine aeM (a:=(⟨l,k,g⟩:aeY)) ?_ ⟨rfl,h,ar⟩;rintro a b args mem ⟨F,I,_⟩ ⟨af,aO,_⟩;rw[F] at af;simp only[bf,R.ref.injEq,true_and,and_true] at af;obtain⟨K4,Pc,_⟩:=af;rw[K4,aO] at I;simp only[ca,fD] at I;have:=VD hd fh _ _ I.2 (by omega);rw[K4,Pc,this]
@[go_sem] theorem aJA (d:Data)(mem:Mem):vz [.J d] mem=none:=by
 cases O:vz [.J d] mem with
 |none=>rfl
 |some x =>
  unfold vz at O;obtain⟨a,⟨h,_⟩,_⟩:=Uf O
  cases h
theorem arA (T:bl)(l:List Int)(k g:Nat)(mem:Mem)(hm:mem k=some (g,a7 ae l))(H:(D l)<=1000000):
  wp T D4.body (Gv D4.res (.ref k g 1 0 (fK l).length) mem) ⟨lv [.ref k g 1 0 (D l)],mem⟩:=by
 refine tw ?_;simp only[D4];refine aZ ?_;repeat' (intro h<;>simp only[h,go_sem,go_sem_proc,hm]<;>try refine ax ?_ ?_)
 refine dw [0] [] (λ(n:Nat) tm mem'=>n<=D l/\fK l=fK (l.take n)/\tm 3=.J (.int .i64 n)/\mem'=mem) (λn=>n) (D l) (by refine⟨b1 _,by simp,by simp[go_sem],rfl⟩) ?_;intro vs ms aT aS;simp only[go_sem,go_sem_proc] at aT aS;subst aT aS;rintro n tm _ Q-⟨aK,bD,af,rfl⟩;simp only[go_sem,go_sem_proc,bf] at Q;have ao:=Q;rcases n with _|n
 ·refine aZ ?_;repeat' (intro h<;>simp only[h,go_sem,go_sem_proc,ao,af,hm,lC,l0,show ¬ ((0:Int)>0) by omega,decide_false,show (0:Int).toNat=0 from rfl,show (0:Int)<=0 by omega,fk]<;>try refine ax ?_ ?_)
  rw[bD];simp[fK]
 ·have hw:IntKind.i64.wrap (((n+1:Nat):Int)-1)=(n:Int):=by rw[fc _];omega
  have O:l[n]?=some l[n]:=bz (by omega);have h4:((n+1:Nat):Int)>0:=by omega
  have hle:n+1<=D l:=aK;have aA:n<D l:=aK;have yc:=T1 hd O (f:=0) (n:=1) (by omega);have eL:=oQ hd l;rw[cI] at eL;have aeZ:n+1<=(a7 ae l).length:=by omega
  have ae0:gu 1 (gL n (a7 ae l))=[.J (.int .i64 l[n])]:=by
   unfold cut at yc;rw[cI,n1,ad (by omega)] at yc
   simpa [ae] using yc
  by_cases aV:l[n]=0
  ·refine aZ ?_;repeat' (intro h<;>simp only[h,go_sem,go_sem_proc,ao,af,hm,hw,aA,aeZ,ae0,aV,h4,decide_true,cI,beq_self_eq_true]<;>try refine ax ?_ ?_)
   exact⟨n,by omega,by omega,by rw[bD,VB l n (by omega) aV],rfl⟩
  ·have qG:(l[n]==0)=false:=by simpa using aV
   refine aZ ?_;repeat' (intro h<;>simp only[h,go_sem,go_sem_proc,ao,af,hm,hw,aA,aeZ,ae0,qG,h4,hle,decide_true,cI,show (0:Int)<=((n+1:Nat):Int) by omega,l1,fk,Nat.sub_zero]<;>try refine ax ?_ ?_)
   rw[bD,VC l n (by omega) aV];simp;omega
abbrev w4:Int->List Data:=λ(n:Int)=>[.int .i64 n]
def VF:=cu w4 λ(n:Int)=>some (.same (.bool false))
theorem zX:∀a b,w4 a=w4 b->a=b:=by
  intro iR jR h;simp only[bf,Data.int.injEq,Data.agg.injEq,Data.Y.injEq,Data.bool.injEq,Data.str.injEq,Data.ptr.injEq,Data.cM.injEq,fD,true_and,and_true] at h ⊢
  first|exact h|simpa [yx,and_assoc] using h|grind
@[go_sem] theorem aJB (n:Int):VF [.int .i64 n]=some (.same (.bool false)):=cD zX n
theorem arB (T:bl)  (n:Int):WP T Vp (.same (.bool false)) [.J (.int .i64 n)]:=by
 refine cE ?_;simp only[Vp];refine aZ ?_;repeat' (intro h<;>simp only[h,go_sem,go_sem_proc,beq_self_eq_true]<;>try refine ax ?_ ?_)
def hI (a b:Int):Int:=if decide (a<b)=true then -1 else if decide (a>b)=true then 1 else 0
abbrev GM:Int×Int->List Data:=λ(a,b)=>[.int .i64 a,.int .i64 b]
def Pf:=cu GM λ(a,b)=>some (.same (.int .i64 (hI a b)))
theorem Pg:∀a b,GM a=GM b->a=b:=by
  rintro⟨c0,di⟩ ⟨dj,eK⟩ h;simp only[bf,Data.int.injEq,Data.agg.injEq,Data.Y.injEq,Data.bool.injEq,Data.str.injEq,Data.ptr.injEq,Data.cM.injEq,fD,true_and,and_true] at h ⊢
  first|exact h|simpa [yx,and_assoc] using h|grind
@[go_sem] theorem aJC (a:Int)(b:Int):Pf [.int .i64 a,.int .i64 b]=some (.same (.int .i64 (hI a b))):=cD Pg (a,b)
theorem arC (T:bl)(arD:T O1=aW VF)(a:Int)(b:Int):WP T Vn (.same (.int .i64 (hI a b))) [.J (.int .i64 a),.J (.int .i64 b)]:=by
 refine cE ?_;simp only[Vn];refine aZ ?_;repeat' (intro h<;>simp only[h,go_sem,go_sem_proc,arD]<;>try refine ax ?_ ?_)
 all_goals simp only[hI, *,reduceIte,c5,dH,vn,sA,lW,pW,zN,g3,hP,fu,kX,beq_self_eq_true,bne]
def zY:List Int->Int
 | []=>0
 |d::r=>if (d==0)=true then zY r else d
def VG:=cu GJ λ(l:List Int)=>cU (D l<=1000000) (.same (.int .i64 (zY l)))
@[go_sem] theorem arE (l:List Int)(H:(D l)<=1000000):VG [.Y (l.map ae)]=some (.same (.int .i64 (zY l))):=(cD Pa l).trans (cZ H _)
theorem arF (T:bl)  (l:List Int) (H:(D l)<=1000000):WP T Vo (.same (.int .i64 (zY l))) [.J (.Y (l.map ae))]:=by
 refine cE ?_;simp only[Vo];simp only[go_sem,go_sem_proc,aj];repeat' (first|refine ax ?_ ?_|fail)<;>intro h<;>simp only[h,go_sem,go_sem_proc,aj]
 refine dw [3,6,7] [] (λi tm mem=>0<=i/\i<=(D l:Int)/\zY l=zY (l.drop i.toNat)/\tm 8=.J (.int .i64 i)) (λi=>(D l-i).toNat) 0 (by refine⟨by omega,by omega,by simp,by simp[go_sem]⟩) ?_;intro vs ms aT aS;simp only[go_sem,go_sem_proc] at aT aS;subst aT aS;rintro i tm mem Q-⟨sH,M,aH,cb⟩;simp only[go_sem,go_sem_proc,bf] at Q;obtain⟨af,bR,bN⟩:=Q;rcases dF (i<D l) with aA|b7
 ·obtain⟨x,O,aa,-⟩:=aeB l i sH aA;simp only[go_sem,go_sem_proc,af,bR,bN,cb,O,aA,sH,ae,aj,bn,decide_true,bf];repeat' (first|refine ax ?_ ?_|fail)<;>intro h<;>simp only[h,go_sem,go_sem_proc,af,bR,bN,cb,O,aA,sH,ae,aj,bn,decide_true,bf]
  ·rw[aH,aa];simp[zY,h]
  ·exact⟨i+1,by omega,by omega,by omega,by rw[aH,aa];simp only[zY, *,reduceIte,c5,dH,vn,sA,lW,pW,zN,g3,hP,fu,kX,beq_self_eq_true,bne],by rw[fc _]⟩
 ·have he:l.drop i.toNat=[]:=kY (by omega);simp only[go_sem,go_sem_proc,af,bR,bN,cb,b7,decide_false];repeat' (first|refine ax ?_ ?_|fail)<;>intro h<;>simp only[h,go_sem,go_sem_proc,af,bR,bN,cb,b7,decide_false]
  rw[aH,he];rfl
theorem K5 (l:List Int):((l.map ae).all λe=>D e==1)=true:=by simp[ae]
def BS:=cu GJ λ(l:List Int)=>cU (D l<=1000000) (.own 1 (l.map ae))
@[go_sem] theorem ae1 (l:List Int)(H:(D l)<=1000000):BS [.Y (l.map ae)]=some (.own 1 (l.map ae)):=(cD Pa l).trans (cZ H _)
theorem arG (T:bl)  (l:List Int) (H:(D l)<=1000000):WP T Vv (.own 1 (l.map ae)) [.J (.Y (l.map ae))]:=by
 refine cE ?_;simp only[Vv]
 have dg:kW 156005 0 1 0 8 (D l) ((l.map ae).flatten.map .J) (some (0,[]))=some (.ref 156005 1 1 0 (D l),some (156005,1,a7 ae l)):=by
  have:=yr hd tN 156005 0 8 [] l (by simp;omega) (by simp;omega)
  simpa [a7] using this
 have hlen:(a7 ae l).length=D l:=by rw[oQ hd];omega
 refine aZ ?_;repeat' (intro h<;>simp only[h,go_sem,go_sem_proc,K5,dg,aj]<;>try refine ax ?_ ?_)
 rintro b ag
 cases b
 ·refine aZ ?_;repeat' (intro h<;>simp only[h,go_sem,go_sem_proc,K5,dg,aj,rz,cI,hlen]<;>try refine ax ?_ ?_)
  rw[ad (by omega),dB (by omega)];unfold a7;rw[tK _ λd=>rfl];have:=yt (sz:=1) (l.map ae) (by simp[ae]);rw[aj] at this;simp[this]
 ·cases l with
  |nil =>
       refine aZ ?_;repeat' (intro h<;>simp only[h,go_sem,go_sem_proc,rz,cY]<;>try refine ax ?_ ?_)
  |cons x r=>simp at ag
abbrev Raw:=Int×List Int
def dc (a:Raw):List Data:=[.int .i64 a.1,.Y (a.2.map ae)]
def ob (d:Int):Bool:=!decide (d<0) && !decide (d>1048575)
def dI (a:Raw):Bool:=a.2.all ob&&(if (a.2.length==0)=true then a.1==0 else ((a.1==1||a.1 == -1)&&decide (a.2.length<=60)&&(a.2.getLast? != some 0)))
abbrev BT:Int×(List Int)->List Data:=λ(s,l)=>[.agg [.int .i64 s,.Y (l.map ae)]]
def w5:=cu BT λ(s,l)=>cU (D l<=1000000) (.same (.bool (dI (s,l))))
theorem GN:∀a b,BT a=BT b->a=b:=by
  rintro⟨s1,eh⟩ ⟨s2,aq⟩ h;simp only[bf,Data.agg.injEq,Data.int.injEq,Data.Y.injEq] at h;exact dR h.1.1.2 (map_inj fh _ _ h.1.2.1)
@[go_sem] theorem aJD (s:Int)(l:List Int)(H:(D l)<=1000000):w5 [.agg [.int .i64 s,.Y (l.map ae)]]=some (.same (.bool (dI (s,l)))):=(cD GN (s,l)).trans (cZ H _)
theorem arH (T:bl)  (s:Int) (l:List Int) (H:(D l)<=1000000):WP T U6 (.same (.bool (dI (s,l)))) [.J (.agg [.int .i64 s,.Y (l.map ae)])]:=by
 refine cE ?_;simp only[U6];refine aZ ?_;repeat' (intro h<;>simp only[h,go_sem,go_sem_proc,aj]<;>try refine ax ?_ ?_)
 refine dw [1,3,10,11] [136001] (λi tm mem=>0<=i/\i<=(D l:Int)/\l.all ob=(l.drop i.toNat).all ob/\tm 12=.J (.int .i64 i)) (λi=>(D l-i).toNat) 0 (by refine⟨by omega,by omega,by simp,by simp[go_sem]⟩) ?_;intro vs ms aT aS;simp only[go_sem,go_sem_proc,aj] at aT aS;subst aT aS;rintro i tm mem Q hm ⟨sH,M,aH,iV⟩;simp only[go_sem,go_sem_proc,bf] at Q hm;obtain⟨F,af,gr,zZ⟩:=Q;rcases dF (i<D l) with aA|b7
 ·obtain⟨x,O,aa,-⟩:=aeB l i sH aA
  have iE:∀b,ob x=true->b=(l.drop (i+1).toNat).all ob->l.all ob=b:=by
   intro b F I;rw[aH,aa,Gq,F,I,g3]
  have K6:ob x=false->dI (s,l)=false:=by
   intro F;unfold dI;rw[aH,aa,Gq,F]
   rfl
  refine aZ ?_;repeat' (intro h<;>simp only[h,go_sem,go_sem_proc,F,af,gr,zZ,iV,hm,O,aA,sH,ae,aj,bn,decide_true,bf]<;>try refine ax ?_ ?_)
  ·rw[K6 (by simp only[ob, *,reduceIte,c5,dH,vn,sA,lW,pW,zN,g3,hP,fu,kX,beq_self_eq_true,bne])]
  ·exact⟨i+1,by omega,by omega,by omega,by refine iE _ ?_ rfl;simp only[ob, *,reduceIte,c5,dH,vn,sA,lW,pW,zN,g3,hP,fu,kX,beq_self_eq_true,bne],by rw[fc _]⟩
  ·rw[K6 (by simp only[ob, *,reduceIte,c5,dH,vn,sA,lW,pW,zN,g3,hP,fu,kX,beq_self_eq_true,bne])]
 ·have he:l.drop i.toNat=[]:=kY (by omega);rw[he] at aH;have e4:l.all ob=true:=by rw[aH];rfl
  rcases BL l with rfl|⟨r,x,rfl⟩
  ·have arI:¬ i<(0:Int):=by simpa using b7
   refine aZ ?_;repeat' (intro h<;>simp only[h,go_sem,go_sem_proc,F,af,gr,zZ,iV,hm,arI,decide_false,jy,lC,l0,beq_self_eq_true]<;>try refine ax ?_ ?_)
   simp[dI]
  ·rw[BM] at *;have bE:(((r++[x]).length:Int)==0)=false:=by simp;omega
   have hw:IntKind.i64.wrap (((r++[x]).length:Int)-1)=(D r:Int):=by
    have cf:(r++[x]).length=D r+1:=by simp
    rw[fc _];omega
   have bc:((r++[x]).map ae)[D r]?=some [.int .i64 x]:=by simp[ae]
   have ab:dI (s,r++[x])=((s==1||s == -1)&&decide (((r++[x]).length:Int)<=60)&&(x != 0)):=by
    unfold dI;rw[e4];simp only[List.getLast?_append,List.getLast?_singleton];simp;have az:decide (D r<=59)=decide ((D r:Int)+1<=60):=decide_eq_decide.2 (by omega);have aD:(some x != some (0:Int))=(x != 0):=by simp[bne]
    rw[az,aD]
   rw[ab];refine aZ ?_;repeat' (intro h<;>simp only[h,go_sem,go_sem_proc,F,af,gr,zZ,iV,hm,b7,bE,hw,bc,decide_false,aj]<;>try refine ax ?_ ?_)
   all_goals simp only[*,reduceIte,c5,dH,vn,sA,lW,pW,zN,g3,hP,fu,kX,beq_self_eq_true,bne]
def kn (s:Int)(l:List Int):Raw:=if (((fK l).length:Int)==0)=true then (0,[]) else (s,fK l)
abbrev Ph:Int×(List Int)->List Data:=λ(s,l)=>[.int .i64 s,.Y (l.map ae)]
def BU:=cu Ph λ(s,l)=>cU (D l<=1000000) (.same (.agg (dc (kn s l))))
theorem ae2:∀a b,Ph a=Ph b->a=b:=by
  rintro⟨s1,eh⟩ ⟨s2,aq⟩ h;simp only[bf,Data.int.injEq,Data.Y.injEq] at h;exact dR h.1.2 (map_inj fh _ _ h.2.1)
@[go_sem] theorem aJE (s:Int)(l:List Int)(H:(D l)<=1000000):BU [.int .i64 s,.Y (l.map ae)]=some (.same (.agg (dc (kn s l)))):=(cD ae2 (s,l)).trans (cZ H _)
theorem arJ (T:bl)(eN:T qF=zP zW vz)(s:Int)(l:List Int)(H:(D l)<=1000000):WP T Vf (.same (.agg (dc (kn s l)))) [.J (.int .i64 s),.J (.Y (l.map ae))]:=by
 refine cE ?_;simp only[Vf];refine aZ ?_;repeat' (intro h<;>simp only[h,go_sem,go_sem_proc,eN,H,aj]<;>try refine ax ?_ ?_)
 all_goals simp only[kn,dc,cY, *,reduceIte,c5,dH,vn,sA,lW,pW,zN,g3,hP,fu,kX,beq_self_eq_true,bne]
theorem lD (l:List Int)(i:Nat)(h:i<D l):bh (l.take (i+1))=bh (l.take i)+1048576^i*l[i]:=by
 rw[hc,bz h,DM,fI,oL (by omega)];simp[bh]
theorem z1 {l:List Int}(h:eZ l)(i:Nat):eZ (l.take i):=λd aa=>h d (F8 aa)
theorem ae3 {l:List Int}(i:Nat)(M:i<D l):eZ (l.take (i+1))↔eZ (l.take i)/\(0<=l[i]/\l[i]<1048576):=by
 rw[hc,bz M,DL];simp[DK,eZ]
theorem lE {l:List Int}(h:eZ l)(i:Nat)(M:i<D l):0<=l[i]/\l[i]<1048576:=h _ (List.getElem_mem M)
theorem D5 (o:List Int)(i:Nat)(d:Int):(o.set i d).take i=o.take i:=by
 rw[List.take_set,List.set_eq_of_length_le];rw[fI];omega
theorem qH (o:List Int):(a7 ae o).length=D o:=by rw[oQ hd];omega
theorem K7 (o:List Int)(i:Nat)(h:i<D o):gu 1 (gL i (a7 ae o))=[.J (.int .i64 o[i])]:=by
 have yc:=T1 hd (bz h) (f:=0) (n:=1) (by omega);unfold cut at yc;have:=qH o;rw[cI,n1,ad (by omega)] at yc
 simpa [ae] using yc
theorem yy (o:List Int)(i:Nat)(d:Int)(h:i<D o):gu i (a7 ae o)++[.J (.int .i64 d)]++gL (i+1) (a7 ae o)=a7 ae (o.set i d):=by
 have:=T2 hd h d;unfold kU at this
 simpa [ae] using this
theorem GO (n:Nat):(dG n [R.J (.int .i64 0)]).flatten=a7 ae (dG n 0):=by
 induction n with
 |zero=>rfl
 |succ n ay=>rw[pO,pO,jt,yq,ay];rfl
theorem GQ (n:Nat)(h:n<=1000000000):n<=maxLen:=eU h (by decide)
theorem ae4 (l:List Int):(fK l).length<=D l:=by
 induction l with
 |nil=>simp[fK]
 |cons d r ay=>unfold fK;split<;>(try split)<;>simp<;>omega
theorem arK (l:List Int):l.take (fK l).length=fK l:=by
 induction l with
 |nil=>simp[fK]
 |cons d r ay =>
  unfold fK
  split
  ·split<;>simp
  ·simp[ay]
theorem arL (l:List Int):∀n:Nat,(a7 ae l).take n=a7 ae (l.take n):=by
 induction l with
 |nil=>intro n;simp[a7]
 |cons d r ay=>intro n;cases n with
  |zero=>simp[a7]
  |succ n=>rw[yq,wT,yq,<-ay];rfl
theorem ae5 {mem:Mem}{k g n:Nat}{o:List Int}(hm:mem k=some (g,a7 ae o))(aK:n<=D o):rz 1 mem (.ref k g 1 0 n)=some ((o.take n).map ae):=by
 unfold rz;dsimp only;rw[hm];simp only[and_self,if_true,cI];rw[qH,ad ⟨trivial,aK⟩,arL];unfold a7;rw[tK _ λd=>rfl];have:=yt (sz:=1) ((o.take n).map ae) (by intro e he;rw[dT] at he;obtain⟨x,-,rfl⟩:=he;rfl);rw[aj,fI,oL aK] at this;simp only[k5,this]
theorem VH {mem:Mem}{k g:Nat}{o:List Int}{n:Nat}(hm:mem k=some (g,a7 ae o))(aa:eZ o)(ak:bh o=n):rz 1 mem (.ref k g 1 0 (fK o).length)=some ((aJ n).map ae):=by
 rw[ae5 hm (ae4 o),arK,zS aa,ak]
 rfl
def b4 (n:Nat):Data:=.Y ((aJ n).map ae)
theorem ae6 {x y:Nat}(h:(aJ x).length<(aJ y).length):x<y:=by
 have F:=(g4 (n:=x) (k:=(aJ x).length)).1 (b1 _);have I:=mt (g4 (n:=y) (k:=(aJ x).length)).2 (by omega);omega
theorem ae7 {a b:List Int}(aN:eZ a)(ag:eZ b)(ar:(D a)=D b)(i:Nat)(M:i<D a)(aa:a.drop (i+1)=b.drop (i+1))(h:a[i]<b[i]):bh a<bh b:=by
 rw[KE a (i+1),KE b (i+1),aa,ar,lD a i M,lD b i (by omega)];have F:=zR (z1 aN i);have I:=pq (z1 ag i);rw[fI,oL (by omega)] at F;generalize (1048576:Int)^i=p at *
 have af:p*a[i]+p<=p*b[i]:=by
  have:p*(a[i]+1)<=p*b[i]:=z2 (by omega) (by have:=pq (z1 aN i);omega);rw[iu,vA] at this;exact this
 omega
abbrev vB:Nat×Nat->List Data:=λ(x,y)=>[b4 x,b4 y]
def K8:=cu vB λ(x,y)=>cU ((aJ x).length<=1000000/\(aJ y).length<=1000000) (.same (.int .i64 (hI x y)))
theorem yz:∀a b,vB a=vB b->a=b:=by
  rintro⟨a2,tS⟩ ⟨bS,tT⟩ h;simp only[bf,b4,Data.Y.injEq] at h;exact dR (KD (map_inj fh _ _ h.1)) (KD (map_inj fh _ _ h.2.1))
@[go_sem] theorem VI (x:Nat)(y:Nat)(H:(aJ x).length<=1000000/\(aJ y).length<=1000000):K8 [b4 x,b4 y]=some (.same (.int .i64 (hI x y))):=(cD yz (x,y)).trans (cZ H _)
theorem arM (T:bl)(oc:T GC=aW Pf)(x:Nat)(y:Nat)(H:(aJ x).length<=1000000/\(aJ y).length<=1000000):WP T Vl (.same (.int .i64 (hI x y))) [.J (b4 x),.J (b4 y)]:=by
 refine cE ?_;simp only[Vl];obtain⟨O,aw⟩:=H;have tU:=m7 x;have rG:=m7 y;have w6:=lY x;have D6:=lY y;have aes:=@ae6 x y;have kG:=@ae6 y x
 by_cases ar:(aJ x).length=(aJ y).length
 ·generalize aN:aJ x=a at *;generalize ag:aJ y=b at *;have Pj:((D a:Int)==(D b:Int))=true:=by simp[ar]
  simp only[go_sem,go_sem_proc,oc,b4,aN,ag,Pj,aj];refine dw [0,1] [] (λ(n:Nat) tm mem=>n<=D a/\a.drop n=b.drop n/\tm 5=.J (.int .i64 ((n:Int)-1))) (λn=>n) (D a) (by refine⟨b1 _,by rw[T7,ar,T7],?_⟩;simp only[e7,reduceIte];rw[fc _]) ?_;intro vs ms aT aS;simp only[go_sem,go_sem_proc,oc,b4,aN,ag] at aT aS;subst aT aS;rintro n tm mem Q-⟨aK,aa,br⟩;simp only[go_sem,go_sem_proc,oc,bf] at Q;obtain⟨ao,F⟩:=Q;rcases n with _|n
  ·have e:a=b:=by simpa using aa
   have oN:(x:Int)=y:=by rw[<-w6,<-D6,e]
   simp only[go_sem,go_sem_proc,oc,ao,F,br,lC,l0,show ¬ ((0:Int)-1>=0) by omega,decide_false]
   repeat' (first|refine ax ?_ ?_|fail)<;>intro h<;>simp only[h,go_sem,go_sem_proc,oc,ao,F,br,lC,l0,show ¬ ((0:Int)-1>=0) by omega,decide_false]
   rw[oN];simp[hI]
  ·have hw:((n+1:Nat):Int)-1=(n:Int):=by omega
   have m8:a[n]?=some a[n]:=bz (by omega);have nz:b[n]?=some b[n]:=bz (by omega)
   have ab:hI a[n] b[n]=hI x y\/a[n]=b[n]:=by
    by_cases F:a[n]<b[n]
    ·left
     have:=ae7 tU rG ar n aK aa F;simp only[hI];rw[ad (by simpa using F),ad (by simp;omega)]
    ·by_cases I:b[n]<a[n]
     ·left
      have:=ae7 rG tU ar.symm n (by omega) aa.symm I;simp only[hI];rw[ah (by simp;omega),ad (by simp;omega),ah (by simp;omega),ad (by simp;omega)]
     ·right;omega
   by_cases aV:a[n]=b[n]
   ·simp only[go_sem,go_sem_proc,oc,ao,F,br,hw,m8,nz,aV,ae,show (n:Int)>=0 by omega,decide_true,bn,beq_self_eq_true,bf]
    repeat' (first|refine ax ?_ ?_|fail)<;>intro h<;>simp only[h,go_sem,go_sem_proc,oc,ao,F,br,hw,m8,nz,aV,ae,show (n:Int)>=0 by omega,decide_true,bn,beq_self_eq_true,bf]
    exact⟨n,by omega,by omega,by rw[ij (by omega:n<D a),ij (by omega:n<D b),aV,aa],by rw[fc _]⟩
   ·have qG:(a[n]==b[n])=false:=by simpa using aV
    simp only[go_sem,go_sem_proc,oc,ao,F,br,hw,m8,nz,qG,ae,show (n:Int)>=0 by omega,decide_true,bn,bf]
    repeat' (first|refine ax ?_ ?_|fail)<;>intro h<;>simp only[h,go_sem,go_sem_proc,oc,ao,F,br,hw,m8,nz,qG,ae,show (n:Int)>=0 by omega,decide_true,bn,bf]
    rw[ab.resolve_right aV]
 ·have Pj:(((aJ x).length:Int)==((aJ y).length:Int))=false:=by simp;omega
  have ab:hI (aJ x).length (aJ y).length=hI x y:=by
   simp only[hI];rcases ih (aJ x).length (aJ y).length with h|h
   ·have:=aes h;rw[ad (by simp;omega),ad (by simp;omega)]
   ·have:=kG (by omega);rw[ah (by simp;omega),ad (by simp;omega),ah (by simp;omega),ad (by simp;omega)]
  simp only[go_sem,go_sem_proc,oc,b4,Pj,ab,aj];repeat' (first|refine ax ?_ ?_|fail)<;>intro h<;>simp only[h,go_sem,go_sem_proc,oc,b4,Pj,ab,aj]
theorem ae8 (p w7 vf sx c a b:Int)(h:w7+p*c=vf+sx):w7+p*((c+a+b)%1048576)+p*1048576*((c+a+b)/1048576)=vf+p*a+(sx+p*b):=by
 have F:=BV (c+a+b) 1048576
 have I:p*((c+a+b)%1048576)+p*1048576*((c+a+b)/1048576)=p*(c+a+b):=by
  rw[iv,<-iu,F]
 have af:p*(c+a+b)=p*c+p*a+p*b:=by rw[iu,iu]
 omega
def Pk:=cu vB λ(x,y)=>cU ((aJ x).length<=100000/\(aJ y).length<=100000) (.own 1 ((aJ (x+y)).map ae))
@[go_sem] theorem ae9 (x:Nat)(y:Nat)(H:(aJ x).length<=100000/\(aJ y).length<=100000):Pk [b4 x,b4 y]=some (.own 1 ((aJ (x+y)).map ae)):=(cD yz (x,y)).trans (cZ H _)
theorem arN (T:bl)(eN:T qF=zP zW vz)(x:Nat)(y:Nat)(H:(aJ x).length<=100000/\(aJ y).length<=100000):WP T Vj (.own 1 ((aJ (x+y)).map ae)) [.J (b4 x),.J (b4 y)]:=by
 refine cE ?_;simp only[Vj];obtain⟨O,aw⟩:=H;simp only[go_sem,go_sem_proc,eN,b4,aj];refine aqO (λst=>∃a b:List Int,eZ a/\eZ b/\D a<=100000/\D b<=D a/\bh a+bh b=x+y/\st.tm 0=.J (.Y (a.map ae))/\st.tm 1=.J (.Y (b.map ae))/\st.mem 172019=none) (λh=>?_) (λh=>?_) ?_
 ·simp only[go_sem,go_sem_proc,eN,b4];repeat' (first|refine ax ?_ ?_|fail)<;>intro h<;>simp only[h,go_sem,go_sem_proc,eN,b4]
  refine⟨aJ y,aJ x,m7 y,m7 x,aw,?_,by rw[lY,lY];omega,rfl,rfl⟩
  simp at h;omega
 ·simp only[go_sem,go_sem_proc,eN,b4];repeat' (first|refine ax ?_ ?_|fail)<;>intro h<;>simp only[h,go_sem,go_sem_proc,eN,b4]
  refine⟨aJ x,aJ y,m7 x,m7 y,O,?_,by rw[lY,lY],rfl,rfl⟩
  simp at h;omega
 rintro⟨tm,mem⟩ ⟨a,b,VJ,w8,iU,kK,ak,ao,F,hm⟩;dsimp only at ao F hm;have oV:IntKind.i64.wrap ((D a:Int)+1)=((D a+1:Nat):Int):=by rw[fc _];rfl
 have kl:8*(D a+1)<=140737488355328:=by omega
 have eJ:(D a)+1<=maxLen:=GQ _ (by omega);simp only[go_sem,go_sem_proc,eN,ao,F,hm,oV,kl,eJ,GO,aj]
 refine dw [0,1,5,20,21] [] (λ(i,c,o) tm mem=>i<=D a/\(o:List Int).length=D a+1/\eZ (o.take i)/\0<=c/\c<=1/\bh (o.take i)+1048576^i*c=bh (a.take i)+bh (b.take i)/\tm 22=.J (.int .i64 (i:Nat))/\tm 6=.J (.int .i64 c)/\mem 172019=some (0,a7 ae o))
  (λ(i,_)=>D a-i) (0,0,dG (D a+1) 0) (by refine⟨fk _,by simp,by simp[eZ],by omega,by omega,by simp[bh],?_,?_,?_⟩<;>rfl) ?_
 intro vs ms aT aS;simp only[go_sem,go_sem_proc,eN,ao,F,aj] at aT aS;subst aT aS;rintro⟨i,c,o⟩ tm mem Q-⟨M,bM,iF,oW,fH,jO,sI,bR,hm⟩;simp only[go_sem,go_sem_proc,eN,bf] at Q;obtain⟨ao,F,br,tV,GR⟩:=Q;rcases dF (i<D a) with aA|b7
 ·have m8:a[i]?=some a[i]:=bz aA;have BG:=lE VJ i aA;have fy:IntKind.i64.wrap ((i:Int)+1)=((i+1:Nat):Int):=by rw[fc _];rfl
  have tW:i<D o:=by omega
  have hR:i+1<=(a7 ae o).length:=by rw[qH];omega
  have jz:IntKind.i64.wrap (c+a[i])=c+a[i]:=wrap64 _ (by omega) (by omega);have gJ:=λd=>yy o i d tW
  have fin:∀bi:Int,0<=bi->bi<1048576->bh (b.take (i+1))=bh (b.take i)+1048576^i*bi ->
    ∃bp:Nat×Int×List Int,D a-bp.1<D a-i/\bp.1<=D a/\bp.2.2.length=D a+1/\eZ (bp.2.2.take bp.1)/\0<=bp.2.1/\bp.2.1<=1/\bh (bp.2.2.take bp.1)+1048576^bp.1*bp.2.1=bh (a.take bp.1)+bh (b.take bp.1) /\
     R.J (Data.int .i64 ((i+1:Nat):Int))=R.J (Data.int .i64 (bp.1:Int))/\R.J (Data.int .i64 ((c+a[i]+bi)/1048576))=R.J (Data.int .i64 bp.2.1)/\some (0,a7 ae (o.set i ((c+a[i]+bi)%1048576)))=some (0,a7 ae bp.2.2):=by
   intro bi qI kl D7;refine⟨(i+1,(c+a[i]+bi)/1048576,o.set i ((c+a[i]+bi)%1048576)),by dsimp only;omega,by dsimp only;omega,by simp[bM],?_,by dsimp only;omega,by dsimp only;omega,?_,rfl,rfl,rfl⟩
   ·dsimp only;rw[ae3 _ (by simpa using tW),D5];refine⟨iF,?_⟩;simp only[z6];omega
   ·dsimp only;rw[lD _ _ (by simpa using tW),D5,lD a i aA,D7,nw];simp only[z6];exact ae8 _ _ _ _ _ _ _ jO
  rcases dF (i<D b) with rH|VK
  ·have nz:b[i]?=some b[i]:=bz rH;have vC:=lE w8 i rH;have k8:IntKind.i64.wrap (c+a[i]+b[i])=c+a[i]+b[i]:=wrap64 _ (by omega) (by omega);have iw:decide ((i:Int)<(D b:Int))=true:=dp;have jA:decide ((i:Int)<(D a:Int))=true:=dp;simp only[go_sem,go_sem_proc,eN,ao,F,br,tV,GR,sI,bR,hm,m8,nz,fy,jz,k8,iw,jA,aA,hR,gJ,rF,oS,ae,cI,aj,bn,bf,show i<D a+1 by omega,show ¬ ((20:Int)<0) by omega]
   repeat' (first|refine ax ?_ ?_|fail)<;>intro h<;>simp only[h,go_sem,go_sem_proc,eN,ao,F,br,tV,GR,sI,bR,hm,m8,nz,fy,jz,k8,iw,jA,aA,hR,gJ,rF,oS,ae,cI,aj,bn,bf,show i<D a+1 by omega,show ¬ ((20:Int)<0) by omega]
   exact fin b[i] vC.1 vC.2 (lD b i rH)
  ·have iw:decide ((i:Int)<(D b:Int))=false:=dn;have jA:decide ((i:Int)<(D a:Int))=true:=dp;simp only[go_sem,go_sem_proc,eN,ao,F,br,tV,GR,sI,bR,hm,m8,fy,jz,iw,jA,aA,hR,gJ,rF,oS,ae,cI,aj,bn,bf,show i<D a+1 by omega,show ¬ ((20:Int)<0) by omega]
   repeat' (first|refine ax ?_ ?_|fail)<;>intro h<;>simp only[h,go_sem,go_sem_proc,eN,ao,F,br,tV,GR,sI,bR,hm,m8,fy,jz,iw,jA,aA,hR,gJ,rF,oS,ae,cI,aj,bn,bf,show i<D a+1 by omega,show ¬ ((20:Int)<0) by omega]
   have:=fin 0 (by omega) (by omega) (by rw[dB (by omega),dB (by omega)];simp)
   simpa using this
 ·obtain rfl:i=D a:=by omega
  have jA:decide ((D a:Int)<(D a:Int))=false:=dn;have tW:(D a)<D o:=by omega
  have hR:(D a)+1<=(a7 ae o).length:=by rw[qH];omega
  have gJ:=λd=>yy o (D a) d tW
  have VL:eZ (o.set (D a) c):=by
   have:o.set (D a) c=(o.set (D a) c).take (D a+1):=by rw[dB (by simp[bM])]
   rw[this,ae3 _ (by simpa using tW),D5];refine⟨iF,?_⟩;simp only[z6];omega
  have VM:bh (o.set (D a) c)=x+y:=by
   have:o.set (D a) c=(o.set (D a) c).take (D a+1):=by rw[dB (by simp[bM])]
   rw[this,lD _ _ (by simpa using tW),D5];simp only[z6];rw[jO,dB (b1 _),dB kK,ak]
  have nv:=VE (o.set (D a) c) 172019 0 (a1 mem 172019 0 (a7 ae (o.set (D a) c))) (by simp[a1]) (by simp[bM];omega);rw[hn,bM] at nv;have fG:=VH (mem:=a1 mem 172019 0 (a7 ae (o.set (D a) c))) (k:=172019) (g:=0) (n:=x+y) (by simp[a1]) VL (by rw[VM];rfl);simp only[go_sem,go_sem_proc,eN,ao,F,br,tV,GR,sI,bR,hm,jA,hR,gJ,nv,fG,cI,aj,show (D a)<D a+1 by omega]
  repeat' (first|refine ax ?_ ?_|fail)<;>intro h<;>simp only[h,go_sem,go_sem_proc,eN,ao,F,br,tV,GR,sI,bR,hm,jA,hR,gJ,nv,fG,cI,aj,show (D a)<D a+1 by omega]
theorem afa (n:Int):bits .and .i64 (n/1048576) 1=n/1048576%2:=by
 generalize n/1048576=m;have I:(1:Int)=((2^1-1:Nat):Int):=by decide
 have F:m%18446744073709551616%2=m%2:=by omega
 obtain⟨a,aN⟩:∃a:Nat,(a:Int)=m%18446744073709551616:=⟨(m%18446744073709551616).toNat,by omega⟩
 have e:BitVec.ofInt 64 m=BitVec.ofNat 64 a:=by
  apply BitVec.eq_of_toInt_eq;rw[BitVec.toInt_ofInt,BitVec.toInt_ofNat',aN];simp[aeS,aeT]
 have aD:bits .and .i64 m 1=bits .and .i64 (a:Int) 1:=by
  simp only[bits];rw[show IntKind.i64.bits=64 from rfl,e,BitVec.ofInt_natCast]
 rw[aD,<-F,<-aN];have Ug:a<2^64:=by omega
 conv=>lhs;rw[I]
 simp only[bits,BitVec.ofInt_natCast,BitVec.toNat_and,BitVec.toNat_ofNat,show IntKind.i64.bits=64 from rfl,KA Ug];rw[show (2^1-1:Nat)%2^64=2^1-1 by decide,aeU,wrap64 _ (by omega) (by omega)]
 omega
theorem VN (o:List Int)(j:Nat)(d:Int)(h:j<D o):bh (o.set j d)=bh o+1048576^j*(d-o[j]):=by
 induction o generalizing j with
 |nil=>simp at h
 |cons x r ay =>
  cases j with
  |zero=>simp[bh];omega
  |succ j =>
   simp only[List.set_cons_succ,tM,List.getElem_cons_succ,nw];rw[ay j (by simpa using h),iu,<-iv,nx 1048576 (1048576^j)];omega
theorem z7 {o:List Int}(h:eZ o)(j:Nat){d:Int}(aa:0<=d/\d<1048576):eZ (o.set j d):=by
 intro x O;rcases List.mem_or_eq_of_mem_set O with F|F
 ·exact h x F
 ·rw[F];exact aa
theorem arO (p w7 vf sx c a b:Int)(h:w7=vf-sx+p*c):w7+p*((a-c-b)%1048576)=vf+p*a-(sx+p*b)-p*1048576*((a-c-b)/1048576):=by
 have F:=BV (a-c-b) 1048576
 have I:p*((a-c-b)%1048576)+p*1048576*((a-c-b)/1048576)=p*(a-c-b):=by
  rw[iv,<-iu,F]
 have af:p*(a-c-b)=p*a-p*c-p*b:=by rw[GS,GS]
 omega
def Pl:=cu vB λ(x,y)=>cU ((aJ x).length<=100000/\y<=x) (.own 1 ((aJ (x-y)).map ae))
@[go_sem] theorem VO (x:Nat)(y:Nat)(H:(aJ x).length<=100000/\y<=x):Pl [b4 x,b4 y]=some (.own 1 ((aJ (x-y)).map ae)):=(cD yz (x,y)).trans (cZ H _)
theorem arP (T:bl)(fL:T vt=aW BS)(eN:T qF=zP zW vz)(x:Nat)(y:Nat)(H:(aJ x).length<=100000/\y<=x):WP T Vk (.own 1 ((aJ (x-y)).map ae)) [.J (b4 x),.J (b4 y)]:=by
 refine cE ?_;simp only[Vk];obtain⟨O,afb⟩:=H;have tU:=m7 x;have rG:=m7 y;have w6:=lY x;have D6:=lY y
 have k9:(aJ y).length<=(aJ x).length:=by
  rw[g4];exact vD afb (g4.1 (b1 _))
 generalize aN:aJ x=a at *;generalize ag:aJ y=b at *;have iU:(D a)<=1000000:=by omega
 simp only[go_sem,go_sem_proc,fL,eN,b4,aN,ag,iU,aj]
 refine dw [1,5,12] [] (λ(i,c,o) tm mem=>i<=D a/\(o:List Int).length=D a/\eZ o/\o.drop i=a.drop i/\(c=0\/c=1)/\bh (o.take i)=bh (a.take i)-bh (b.take i)+1048576^i*c/\tm 13=.J (.int .i64 (i:Nat))/\tm 6=.J (.int .i64 c)/\mem 173010=some (0,a7 ae o))
  (λ(i,_)=>D a-i) (0,0,a) (by refine⟨fk _,rfl,tU,rfl,.inl rfl,by simp[bh],?_,?_,?_⟩<;>rfl) ?_
 intro vs ms aT aS;simp only[go_sem,go_sem_proc,fL,eN,b4,aN,ag,aj] at aT aS;subst aT aS;rintro⟨i,c,o⟩ tm mem Q-⟨M,bM,iF,qJ,arQ,jO,od,bR,hm⟩;simp only[go_sem,go_sem_proc,fL,eN,bf] at Q;obtain⟨F,br,iV⟩:=Q;rcases dF (i<D a) with aA|b7
 ·have tW:i<D o:=by omega
  have arR:o[i]=a[i]:=by
   have F:=ij tW;have I:=ij aA;rw[qJ,I] at F;exact (w9 F).1.symm
  have BG:=lE tU i aA;have fy:IntKind.i64.wrap ((i:Int)+1)=((i+1:Nat):Int):=by rw[fc _];rfl
  have hR:i+1<=(a7 ae o).length:=by rw[qH];omega
  have iG:=K7 o i tW;rw[arR] at iG;have jz:IntKind.i64.wrap (a[i]-c)=a[i]-c:=wrap64 _ (by omega) (by omega);have gJ:=λd=>yy o i d tW
  have fin:∀bi:Int,0<=bi->bi<1048576->bh (b.take (i+1))=bh (b.take i)+1048576^i*bi ->
    ∃bp:Nat×Int×List Int,D a-bp.1<D a-i/\bp.1<=D a/\bp.2.2.length=D a/\eZ bp.2.2/\bp.2.2.drop bp.1=a.drop bp.1/\(bp.2.1=0\/bp.2.1=1)/\bh (bp.2.2.take bp.1)=bh (a.take bp.1)-bh (b.take bp.1)+1048576^bp.1*bp.2.1 /\
     R.J (Data.int .i64 ((i+1:Nat):Int))=R.J (Data.int .i64 (bp.1:Int))/\R.J (Data.int .i64 ((a[i]-c-bi)/1048576%2))=R.J (Data.int .i64 bp.2.1)/\some (0,a7 ae (o.set i ((a[i]-c-bi)%1048576)))=some (0,a7 ae bp.2.2):=by
   intro bi qI kl D7;have aL:(a[i]-c-bi)/1048576=0\/(a[i]-c-bi)/1048576 = -1:=by omega
   refine⟨(i+1,(a[i]-c-bi)/1048576%2,o.set i ((a[i]-c-bi)%1048576)),by dsimp only;omega,by dsimp only;omega,by simp[bM],z7 iF i (by omega),?_,by dsimp only;omega,?_,rfl,rfl,rfl⟩
   ·dsimp only;rw[tB (by omega)];have F:=ij tW;have I:=ij aA;rw[qJ,I] at F;exact (w9 F).2.symm
   ·dsimp only;rw[lD _ _ (by simpa using tW),D5,lD a i aA,D7,nw];simp only[z6];rw[arO _ _ _ _ _ _ _ jO];rcases aL with e|e<;>rw[e]<;>simp
  have jA:decide ((i:Int)<(D a:Int))=true:=dp;rcases dF (i<D b) with rH|VK
  ·have nz:b[i]?=some b[i]:=bz rH;have vC:=lE rG i rH;have k8:IntKind.i64.wrap (a[i]-c-b[i])=a[i]-c-b[i]:=wrap64 _ (by omega) (by omega);have iw:decide ((i:Int)<(D b:Int))=true:=dp;refine aZ ?_;repeat' (intro h<;>simp only[h,go_sem,go_sem_proc,fL,eN,F,br,iV,od,bR,hm,nz,fy,jz,k8,iw,jA,aA,hR,iG,gJ,rF,afa,oS,ae,cI,aj,bn,bf,show ¬ ((20:Int)<0) by omega]<;>try refine ax ?_ ?_)
   exact fin b[i] vC.1 vC.2 (lD b i rH)
  ·have iw:decide ((i:Int)<(D b:Int))=false:=dn;refine aZ ?_;repeat' (intro h<;>simp only[h,go_sem,go_sem_proc,fL,eN,F,br,iV,od,bR,hm,fy,jz,iw,jA,aA,hR,iG,gJ,rF,afa,oS,ae,cI,aj,bn,bf,show ¬ ((20:Int)<0) by omega]<;>try refine ax ?_ ?_)
   have:=fin 0 (by omega) (by omega) (by rw[dB (by omega),dB (by omega)];simp)
   simpa using this
 ·obtain rfl:i=D a:=by omega
  have jA:decide ((D a:Int)<(D a:Int))=false:=dn;rw[dB (by omega),dB (by omega),dB (by omega),w6,D6] at jO
  have VM:bh o=((x-y:Nat):Int):=by
   have F:=zR iF;rw[bM] at F;rcases arQ with rfl|rfl
   ·rw[jO];omega
   ·omega
  have nv:=VE o 173010 0 mem hm (by omega);rw[bM] at nv;have fG:=VH hm iF VM;refine aZ ?_;repeat' (intro h<;>simp only[h,go_sem,go_sem_proc,fL,eN,F,br,iV,od,bR,hm,jA,nv,fG,aj]<;>try refine ax ?_ ?_)
theorem afc (p w7 V c x y z8:Int)(h:w7+p*c=V):w7+p*((z8+x*y+c)%1048576-z8)+p*1048576*((z8+x*y+c)/1048576)=V+p*(x*y):=by
 have F:=BV (z8+x*y+c) 1048576
 have I:p*((z8+x*y+c)%1048576)+p*1048576*((z8+x*y+c)/1048576)=p*(z8+x*y+c):=by
  rw[iv,<-iu,F]
 have af:p*(z8+x*y+c)=p*z8+p*(x*y)+p*c:=by rw[iu,iu]
 rw[GS];omega
theorem afd {o x y c:Int}(bM:0<=o/\o<1048576)(O:0<=x/\x<1048576)(aw:0<=y/\y<1048576)(H:0<=c/\c<1048576):
  0<=x*y/\x*y<=1099509530625/\0<=(o+x*y+c)/1048576/\(o+x*y+c)/1048576<1048576:=by
 have F:0<=x*y:=yA O.1 aw.1;have I:x*y<=1048575*1048575:=VP (by omega) (by omega) aw.1 (by omega);omega
theorem afe {o:List Int}{n j:Nat}(h:o.drop n=dG (D o-n) 0)(ai:n<=j)(aA:j<D o):o[j]=0:=by
 have F:(o.drop n)[j-n]?=some o[j]:=by rw[k3,show n+(j-n)=j by omega,bz aA]
 rw[h,List.getElem?_replicate] at F
 split at F
 ·exact (nt F).symm
 ·cases F
theorem aff {o:List Int}{n:Nat}{d:Int}(h:o.drop n=dG (D o-n) 0)(aA:n<D o):(o.set n d).drop (n+1)=dG ((o.set n d).length-(n+1)) 0:=by
 rw[tB (by omega),hn];have F:=ij aA;rw[h,show (D o)-n=(D o-(n+1))+1 by omega,pO] at F
 exact (w9 F).2.symm
def Pm:=cu vB λ(x,y)=>cU ((aJ x).length<=10000/\(aJ y).length<=10000) (.own 1 ((aJ (x*y)).map ae))
@[go_sem] theorem VQ (x:Nat)(y:Nat)(H:(aJ x).length<=10000/\(aJ y).length<=10000):Pm [b4 x,b4 y]=some (.own 1 ((aJ (x*y)).map ae)):=(cD yz (x,y)).trans (cZ H _)
theorem arS (T:bl)(eN:T qF=zP zW vz)(x:Nat)(y:Nat)(H:(aJ x).length<=10000/\(aJ y).length<=10000):WP T Vi (.own 1 ((aJ (x*y)).map ae)) [.J (b4 x),.J (b4 y)]:=by
 refine cE ?_;simp only[Vi];obtain⟨O,aw⟩:=H;have tU:=m7 x;have rG:=m7 y;have w6:=lY x;have D6:=lY y;generalize aN:aJ x=a at *;generalize ag:aJ y=b at *;have oV:IntKind.i64.wrap ((D a:Int)+(D b:Int))=((D a+D b:Nat):Int):=by rw[fc _];rfl
 have kl:8*(D a+D b)<=140737488355328:=by omega
 have eJ:(D a)+D b<=maxLen:=GQ _ (by omega);simp only[go_sem,go_sem_proc,eN,b4,aN,ag,oV,kl,eJ,GO,aj]
 refine dw [1,5,18,19] [] (λ(i,o) tm mem=>i<=D a/\(o:List Int).length=D a+D b/\eZ o/\o.drop (i+D b)=dG (D o-(i+D b)) 0/\bh o=bh (a.take i)*y/\tm 20=.J (.int .i64 (i:Nat))/\mem 161017=some (0,a7 ae o))
  (λ(i,_)=>D a-i) (0,dG (D a+D b) 0) (by
   have aV:∀n,bh (dG n 0)=0:=by
    intro n
    induction n with
    |zero=>rfl
    |succ n ay=>rw[pO,tM,ay];rfl
   refine⟨fk _,by simp,λd aa=>by rw[GU] at aa;omega,by simp,by rw[aV];simp[bh],?_,?_⟩<;>rfl) ?_
 intro vs ms aT aS;simp only[go_sem,go_sem_proc,eN,b4,aN,ag,oV,aj] at aT aS;subst aT aS;rintro⟨i,o⟩ tm mem Q-⟨M,bM,iF,sJ,jO,tV,hm⟩;simp only[go_sem,go_sem_proc,eN,bf] at Q;obtain⟨F,br,jU,xa⟩:=Q;rcases dF (i<D a) with aA|b7
 ·have m8:a[i]?=some a[i]:=bz aA;have BG:=lE tU i aA;have tE:=lD a i aA;generalize a[i]=hS at *;have iw:decide ((i:Int)<(D a:Int))=true:=dp;simp only[go_sem,go_sem_proc,eN,F,br,jU,xa,tV,m8,iw,ae,aj,bn,bf]
  refine dw [1,5,6,7,18,19,20,25,26] [] (λ((k,c,o):Nat×Int×List Int) tm mem=>k<=D b/\D o=D a+D b/\eZ o/\o.drop (i+D b)=dG (D o-(i+D b)) 0/\0<=c/\c<1048576/\bh o+1048576^(i+k)*c=bh (a.take i)*y+1048576^i*(hS*bh (b.take k)) /\
    tm 27=.J (.int .i64 (k:Nat))/\tm 8=.J (.int .i64 c)/\mem 161017=some (0,a7 ae o))
   (λ(k,_)=>D b-k) (0,0,o) (by refine⟨fk _,bM,iF,sJ,by omega,by omega,by simp[bh,jO],?_,?_,hm⟩<;>rfl) ?_
  intro vs ms aT aS;simp only[go_sem,go_sem_proc,eN,F,br,jU,xa,tV,ae,aj] at aT aS;subst aT aS;rintro⟨k,c,o⟩ tm mem Q-⟨pT,bM,iF,sJ,oW,fH,jO,afg,cb,hm⟩;simp only[go_sem,go_sem_proc,eN,bf] at Q;obtain⟨F,br,bR,bN,jU,xa,tV,afh,afi⟩:=Q;rcases dF (k<D b) with K9|K9
  ·have nz:b[k]?=some b[k]:=bz K9;have GV:=lE rG k K9;have pX:i+k<D o:=by omega
   have VR:=lE iF (i+k) pX;obtain⟨dA,cX,tX,qK⟩:=afd VR BG GV ⟨oW,fH⟩;have iw:decide ((k:Int)<(D b:Int))=true:=dp;have fy:IntKind.i64.wrap ((k:Int)+1)=((k+1:Nat):Int):=by rw[fc _];rfl
   have jz:IntKind.i64.wrap ((i:Int)+(k:Int))=((i+k:Nat):Int):=by rw[fc _];rfl
   have k8:IntKind.i64.wrap (hS*b[k])=hS*b[k]:=wrap64 _ (by omega) (by omega);have Aa:IntKind.i64.wrap (o[i+k]+hS*b[k])=o[i+k]+hS*b[k]:=wrap64 _ (by omega) (by omega);have vE:IntKind.i64.wrap (o[i+k]+hS*b[k]+c)=o[i+k]+hS*b[k]+c:=wrap64 _ (by omega) (by omega);have hR:i+k+1<=(a7 ae o).length:=by rw[qH];omega
   have iG:=K7 o (i+k) pX;have gJ:=λd=>yy o (i+k) d pX;have ik:i+k<D a+D b:=by omega
   refine aZ ?_;repeat' (intro h<;>simp only[h,go_sem,go_sem_proc,eN,F,br,bR,bN,jU,xa,tV,afh,afi,afg,cb,hm,nz,iw,fy,jz,k8,Aa,vE,ik,hR,iG,gJ,rF,oS,ae,cI,aj,bn,bf,show ¬ ((20:Int)<0) by omega]<;>try refine ax ?_ ?_)
   refine⟨(k+1,(o[i+k]+hS*b[k]+c)/1048576,o.set (i+k) ((o[i+k]+hS*b[k]+c)%1048576)),by dsimp only;omega,by dsimp only;omega,by simp[bM],z7 iF _ (by omega),?_,tX,qK,?_,rfl,rfl,rfl⟩
   ·dsimp only;rw[tB (by omega),hn,sJ]
   ·dsimp only;rw[VN _ _ _ pX,lD b k K9,<-qu,nw,afc _ _ _ _ _ _ _ jO];rw[iu (hS),iu (1048576^i),afj]
    have:(1048576:Int)^i*(hS*(1048576^k*b[k]))=1048576^i*1048576^k*(hS*b[k]):=by
     rw[<-iv (hS),nx (hS) (1048576^k),iv (1048576^k),<-iv]
    omega
  ·obtain rfl:k=D b:=by omega
   have iw:decide ((D b:Int)<(D b:Int))=false:=dn;have pX:i+D b<D o:=by omega
   have aV:=afe sJ (b1 _) pX;have fy:IntKind.i64.wrap ((i:Int)+1)=((i+1:Nat):Int):=by rw[fc _];rfl
   have jz:IntKind.i64.wrap ((i:Int)+(D b:Int))=((i+D b:Nat):Int):=by rw[fc _];rfl
   have k8:IntKind.i64.wrap (0+c)=c:=by rw[D8];exact wrap64 _ (by omega) (by omega)
   have hR:i+D b+1<=(a7 ae o).length:=by rw[qH];omega
   have iG:=K7 o (i+D b) pX;rw[aV] at iG;have gJ:=λd=>yy o (i+D b) d pX;have ik:i+D b<D a+D b:=by omega
   refine aZ ?_;repeat' (intro h<;>simp only[h,go_sem,go_sem_proc,eN,F,br,bR,bN,jU,xa,tV,afh,afi,afg,cb,hm,iw,fy,jz,k8,ik,hR,iG,gJ,ae,cI,aj]<;>try refine ax ?_ ?_)
   refine⟨(i+1,o.set (i+D b) c),by dsimp only;omega,by dsimp only;omega,by simp[bM],z7 iF _ ⟨oW,fH⟩,?_,?_,rfl,rfl⟩
   ·dsimp only;have:=aff (d:=c) sJ pX;rwa [show i+D b+1=i+1+(D b) by omega] at this
   ·dsimp only;rw[VN _ _ _ pX,aV,tE];rw[dB (b1 _),D6] at jO;rw[La,jO,tY,iv]
 ·obtain rfl:i=D a:=by omega
  have iw:decide ((D a:Int)<(D a:Int))=false:=dn;rw[dB (b1 _),w6] at jO;have nv:=VE o 161017 0 mem hm (by omega);rw[bM] at nv;have fG:=VH hm iF (n:=x*y) (by rw[jO];rfl);refine aZ ?_;repeat' (intro h<;>simp only[h,go_sem,go_sem_proc,eN,F,br,jU,xa,tV,hm,iw,nv,fG,aj]<;>try refine ax ?_ ?_)
abbrev VS:Nat×Int->List Data:=λ(x,d)=>[b4 x,.int .i64 d]
def VT:=cu VS λ(x,d)=>cU ((aJ x).length<=100000/\0<d/\d<1048576) (.same (.cM [b4 (x/d.toNat),.int .i64 (x%d.toNat:Nat)]))
theorem arT:∀a b,VS a=VS b->a=b:=by
  rintro⟨a2,d1⟩ ⟨bS,d2⟩ h;simp only[bf,b4,Data.Y.injEq,Data.int.injEq] at h;exact dR (KD (map_inj fh _ _ h.1)) h.2.1.2
@[go_sem] theorem afk (x:Nat)(d:Int)(H:(aJ x).length<=100000/\0<d/\d<1048576):VT [b4 x,.int .i64 d]=some (.same (.cM [b4 (x/d.toNat),.int .i64 (x%d.toNat:Nat)])):=(cD arT (x,d)).trans (cZ H _)
theorem arU (T:bl)(eN:T qF=zP zW vz)(x:Nat)(d:Int)(H:(aJ x).length<=100000/\0<d/\d<1048576):WP T Vm (.same (.cM [b4 (x/d.toNat),.int .i64 (x%d.toNat:Nat)])) [.J (b4 x),.J (.int .i64 d)]:=by
 refine cE ?_;simp only[Vm];obtain⟨O,BW,jV⟩:=H;have tU:=m7 x;have w6:=lY x;generalize aN:aJ x=a at *;have kl:8*D a<=140737488355328:=by omega
 have eJ:(D a)<=maxLen:=GQ _ (by omega);have jB:(d=0)=False:=by simp;omega
 simp only[go_sem,go_sem_proc,eN,b4,aN,kl,eJ,GO,aj]
 refine dw [0,1,6] [] (λ((n,r,o):Nat×Int×List Int) tm mem=>n<=D a/\D o=D a/\eZ o/\0<=r/\r<d/\bh (a.drop n)=d*bh (o.drop n)+r/\tm 8=.J (.int .i64 ((n:Nat)-1))/\tm 7=.J (.int .i64 r)/\mem 176011=some (0,a7 ae o))
  (λ(n,_)=>n) (D a,0,dG (D a) 0) (by
   refine⟨b1 _,by simp,λd aa=>by rw[GU] at aa;omega,by omega,by omega,by simp[bh],?_,?_,?_⟩
   ·simp only[e7,reduceIte];rw[fc _]
   ·rfl
   ·rfl) ?_
 intro vs ms aT aS;simp only[go_sem,go_sem_proc,eN,b4,aN,aj] at aT aS;subst aT aS;rintro⟨n,r,o⟩ tm mem Q-⟨aK,bM,iF,pY,GW,ak,cb,bN,hm⟩;simp only[go_sem,go_sem_proc,eN,bf] at Q;obtain⟨ao,F,bR⟩:=Q;rcases n with _|n
 ·have aL:bh o=(x/d.toNat:Nat)/\r=(x%d.toNat:Nat):=by
   rw[lV,lV,w6] at ak;have e:(d.toNat:Int)=d:=by omega
   constructor
   ·rw[afl,e,ak,yB,afm _ _ (by omega),VU pY GW];omega
   ·rw[afn,e,ak,yB,afo,VV pY GW]
  have hz:=Pb o (by omega);rw[zS iF,aL.1] at hz;have fV:R.ref 176011 0 1 0 (D a)=R.ref 176011 0 1 0 (D o):=by rw[bM]
  rw[fV] at bR;refine aZ ?_;repeat' (intro h<;>simp only[h,go_sem,go_sem_proc,eN,ao,F,bR,bN,cb,hm,hz,lX hd,lC,l0,show ¬ ((0:Int)-1>=0) by omega,decide_false,l1]<;>try refine ax ?_ ?_)
  all_goals rw[aL.2]
 ·have m8:a[n]?=some a[n]:=bz (by omega);have Pn:=lE tU n (by omega);have hw:((n+1:Nat):Int)-1=(n:Int):=by omega
  have gC:n<D o:=by omega
  have fy:IntKind.i64.wrap (r*2^min (DO 20) 64)=r*1048576:=by
   rw[show min (DO 20) 64=20 by decide]
   exact wrap64 _ (by omega) (by omega)
  have xb:bits .or .i64 (r*1048576) a[n]=r*1048576+a[n]:=Uh r a[n] pY (by omega) Pn;have mJ:0<=(r*1048576+a[n])/d:=VW (by omega) (by omega)
  have qL:(r*1048576+a[n])/d<1048576:=afp BW (by
   have:(r+1)*1048576<=d*1048576:=m9 (by omega) (by omega);rw[nx 1048576 d];omega)
  have vF:(r*1048576+a[n]).tdiv d=(r*1048576+a[n])/d:=GX (by omega);have D9:(r*1048576+a[n]).tmod d=(r*1048576+a[n])%d:=Lb (by omega);have jz:IntKind.i64.wrap ((r*1048576+a[n])/d)=(r*1048576+a[n])/d:=wrap64 _ (by omega) (by omega);have hR:n+1<=(a7 ae o).length:=by rw[qH];omega
  have gJ:=λd=>yy o n d gC;have pQ:n<D a:=by omega
  have k8:IntKind.i64.wrap ((n:Int)-1)=(n:Int)-1:=wrap64 _ (by omega) (by omega);refine aZ ?_;repeat' (intro h<;>simp only[h,go_sem,go_sem_proc,eN,ao,F,bR,bN,cb,hm,hw,m8,fy,xb,vF,D9,jz,k8,jB,pQ,hR,gJ,show (n:Int)>=0 by omega,decide_true,ae,cI,aj,bn,bf,show ¬ ((20:Int)<0) by omega]<;>try refine ax ?_ ?_)
  refine⟨(n,(r*1048576+a[n])%d,o.set n ((r*1048576+a[n])/d)),by dsimp only;omega,by dsimp only;omega,by simp[bM],z7 iF n ⟨mJ,qL⟩,VX _ (by omega),VY _ BW,?_,rfl,rfl,rfl⟩
  dsimp only;rw[ij (by omega:n<D a),ij (by simpa using gC:n<(o.set n ((r*1048576+a[n])/d)).length),tM,tM]
  simp only[z6];rw[tB (by omega),ak];have:=BV (r*1048576+a[n]) d;rw[iu,iu,VZ d 1048576];omega
def pad:Nat->Nat->List Int
 |0,_=>[]
 |n+1,x=>((x%1048576:Nat):Int)::pad n (x/1048576)
theorem arV (n x:Nat):(pad n x).length=n:=by
 induction n generalizing x with
 |zero=>rfl
 |succ n ay=>simp[pad,ay]
theorem arW (n x:Nat):eZ (pad n x):=by
 induction n generalizing x with
 |zero=>intro d aa;cases aa
 |succ n ay =>
  unfold pad;rw[DK];exact⟨by omega,ay _⟩
theorem afq {l:List Int}(h:eZ l):l=pad (D l) (bh l).toNat:=by
 induction l with
 |nil=>rfl
 |cons d r ay =>
  rw[DK] at h;have F:=pq h.2;have I:=ay h.2;simp only[h0,pad,tM]
  congr 1
  ·omega
  ·rw[show (d+1048576*bh r).toNat/1048576=(bh r).toNat by omega]
   exact I
theorem arX {n x:Nat}(h:x<1048576^n):bh (pad n x)=x:=by
 induction n generalizing x with
 |zero=>simp at h;subst h;rfl
 |succ n ay =>
  unfold pad;rw[tM,ay (by rw[aeR (by omega)];rwa [wW] at h)];omega
theorem Lc {pre u post:List Int}{i:Nat}(h:i<D u):gu 1 (gL (D pre+i) (a7 ae (pre++u++post)))=[.J (.int .i64 u[i])]:=by
 rw[K7 _ _ (by simp;omega)]
 congr 3
 simp[List.getElem_append,h]
theorem afr {pre u post:List Int}{i:Nat}(h:i<D u)(d:Int):gu (D pre+i) (a7 ae (pre++u++post))++[.J (.int .i64 d)]++gL (D pre+i+1) (a7 ae (pre++u++post))=a7 ae (pre++u.set i d++post):=by
 rw[yy _ _ _ (by simp;omega)]
 congr 1
 rw[gW,List.set_append_right _ _ (by omega),Gu,List.set_append_left _ _ h,gW]
theorem BX (mem:Mem)(k g c8:Nat)(a b:List R):a1 (a1 mem k g a) k c8 b=a1 mem k c8 b:=by
 funext j
 unfold a1
 split<;>rfl
theorem arY {mem:Mem}{k g:Nat}{a:List R}(h:mem k=some (g,a)):a1 mem k g a=mem:=by
 funext j
 unfold a1
 split
 ·rename_i e;rw[e,h]
 ·rfl
structure Ld where
 pre:List Int
 u:List Int
 post:List Int
 V:Nat
 q:Int
 k:Key
 g:Nat
def leftOf (u:List Int)(V:Nat)(q:Int):Int:=if bh u-q*V<0 then bh u-q*V+V else bh u-q*V
def BZ (u:List Int)(V:Nat)(q:Int):Int:=if bh u-q*V<0 then q-1 else q
def B0 (a:Ld):List R:=a7 ae (a.pre++pad (D a.u) (leftOf a.u a.V a.q).toNat++a.post)
def V0 (a:Ld)(mem:Mem):Prop:=mem a.k=some (a.g,a7 ae (a.pre++a.u++a.post))/\eZ a.u/\(aJ a.V).length<=D a.u/\0<=a.q/\a.q<1048576/\0<=bh a.u-a.q*a.V+a.V/\D a.pre+D a.u<=100000
def Le:List R->Mem->Option (R×Mem):=Gw (λ(a:Ld) args mem=>args=[.ref a.k a.g 1 (D a.pre) (D a.u),.J (b4 a.V),.J (.int .i64 a.q)]/\V0 a mem)
 (λa mem=>(.J (.int .i64 (BZ a.u a.V a.q)),a1 mem a.k a.g (B0 a)))
theorem arZ {a b:Nat}(h:b4 a=b4 b):a=b:=KD (map_inj fh _ _ (by simpa [b4] using h))
theorem ar0 (a:Ld)(mem:Mem)(h:V0 a mem):Le [.ref a.k a.g 1 (D a.pre) (D a.u),.J (b4 a.V),.J (.int .i64 a.q)] mem=some (.J (.int .i64 (BZ a.u a.V a.q)),a1 mem a.k a.g (B0 a)):=by
 unfold Le;refine aeM (a:=a) ?_ ⟨rfl,h⟩;rintro a b args mem ⟨F,I,_⟩ ⟨af,aO,_⟩;rw[F] at af;simp only[bf,R.ref.injEq,R.J.injEq,Data.int.injEq,true_and,and_true] at af;obtain⟨⟨K4,Pc,Po,afs⟩,aft,eq⟩:=af;have afu:=arZ aft;clear aft;obtain⟨pre,u,post,V,q,k,g⟩:=a;obtain⟨aJF,aJG,aJH,aJI,tZ,k',c8⟩:=b;simp only at K4 Pc Po afs afu eq I aO;subst K4 Pc afu eq;rw[aO] at I;simp only[ca,fD,true_and] at I;have e:=VD hd fh _ _ I (by omega);rw[gW,gW] at e;obtain⟨az,aD⟩:=GL e Po.symm;obtain⟨bZ,dr⟩:=GL aD afs.symm;subst az bZ dr
 rfl
theorem ar1 (p w7 vf sx c a b q:Int)(h:w7=vf-q*sx+p*c):w7+p*((a-c-q*b)%1048576)=vf+p*a-q*(sx+p*b)+p*1048576*(-((a-c-q*b)/1048576)):=by
 have F:=BV (a-c-q*b) 1048576
 have I:p*((a-c-q*b)%1048576)+p*1048576*((a-c-q*b)/1048576)=p*(a-c-q*b):=by
  rw[iv,<-iu,F]
 have af:p*(a-c-q*b)=p*a-p*c-p*(q*b):=by rw[GS,GS]
 have aO:q*(sx+p*b)=q*sx+p*(q*b):=by rw[iu,VZ]
 rw[Int.mul_neg];omega
theorem afv {a c q b:Int}(aN:0<=a/\a<1048576)(H:0<=c/\c<=1048576)(aL:0<=q/\q<1048576)(ag:0<=b/\b<1048576):
  0<=q*b/\q*b<=1099509530625/\0 <= -((a-c-q*b)/1048576) /\ -((a-c-q*b)/1048576)<=1048576:=by
 have F:0<=q*b:=yA aL.1 ag.1;have I:q*b<=1048575*1048575:=VP (by omega) (by omega) ag.1 (by omega);omega
theorem ar2 (T:bl)(a:Ld)(eG:Mem)(H:V0 a eG):
  wp T O7.body (Gv O7.res (.J (.int .i64 (BZ a.u a.V a.q))) (a1 eG a.k a.g (B0 a))) ⟨lv [.ref a.k a.g 1 (D a.pre) (D a.u),.J (b4 a.V),.J (.int .i64 a.q)],eG⟩:=by
 obtain⟨pre,u,post,V,q,k,g⟩:=a;obtain⟨kH,vG,Tv,mJ,qL,nA,hlen⟩:=H;simp only at kH vG Tv mJ qL nA hlen ⊢;have Ab:=m7 V;have Ks:=lY V;have V1:=g4.1 Tv;refine tw ?_;simp only[O7];simp only[go_sem,go_sem_proc,b4];generalize ag:aJ V=v at *
 refine dw [0,1,2,13] [] (λ((i,c,w):Nat×Int×List Int) tm mem=>i<=D u/\D w=D u/\eZ w/\w.drop i=u.drop i/\(0<=c/\c<=1048576)/\bh (w.take i)=bh (u.take i)-q*bh (v.take i)+1048576^i*c/\tm 14=.J (.int .i64 (i:Nat))/\tm 7=.J (.int .i64 c)/\mem=a1 eG k g (a7 ae (pre++w++post)))
  (λ(i,_)=>D u-i) (0,0,u) (by refine⟨fk _,rfl,vG,rfl,by omega,by simp[bh],rfl,rfl,(arY kH).symm⟩) ?_
 intro vs ms aT aS;simp only[go_sem,go_sem_proc] at aT aS;subst aT aS;rintro⟨i,c,w⟩ tm _ Q-⟨M,hw,rI,qJ,H,jO,xc,bN,rfl⟩;simp only[go_sem,go_sem_proc,bf] at Q;obtain⟨ao,F,I,od⟩:=Q;rcases dF (i<D u) with aA|b7
 ·have yC:i<D w:=by omega
  have ar3:w[i]=u[i]:=by
   have F:=ij yC;rw[qJ,ij aA] at F;exact (w9 F).1.symm
  have B1:w.drop (i+1)=u.drop (i+1):=by
   have F:=ij yC;rw[qJ,ij aA] at F;exact (w9 F).2.symm
  have iG:=Lc (pre:=pre) (post:=post) yC;rw[ar3] at iG;have afw:=lE vG i aA;have tE:=lD u i aA;generalize u[i]=vH at *;have fy:IntKind.i64.wrap ((i:Int)+1)=((i+1:Nat):Int):=by rw[fc _];rfl
  have jz:IntKind.i64.wrap (vH-c)=vH-c:=wrap64 _ (by omega) (by omega);have hR:(D pre)+i+1<=(a7 ae (pre++w++post)).length:=by rw[qH];simp;omega
  have gJ:=λd=>afr (pre:=pre) (post:=post) yC d;have jA:decide ((i:Int)<(D u:Int))=true:=dp
  have fin:∀bi:Int,0<=bi->bi<1048576->bh (v.take (i+1))=bh (v.take i)+1048576^i*bi ->
    ∃bp:Nat×Int×List Int,D u-bp.1<D u-i/\bp.1<=D u/\bp.2.2.length=D u/\eZ bp.2.2/\bp.2.2.drop bp.1=u.drop bp.1/\(0<=bp.2.1/\bp.2.1<=1048576)/\bh (bp.2.2.take bp.1)=bh (u.take bp.1)-q*bh (v.take bp.1)+1048576^bp.1*bp.2.1 /\
     R.J (Data.int .i64 ((i+1:Nat):Int))=R.J (Data.int .i64 (bp.1:Int))/\R.J (Data.int .i64 (-((vH-c-q*bi)/1048576)))=R.J (Data.int .i64 bp.2.1)/\a1 eG k g (a7 ae (pre++w.set i ((vH-c-q*bi)%1048576)++post))=a1 eG k g (a7 ae (pre++bp.2.2++post)):=by
   intro bi qI kl D7;obtain⟨dA,cX,tX,qK⟩:=afv afw H ⟨mJ,qL⟩ ⟨qI,kl⟩;refine⟨(i+1,-((vH-c-q*bi)/1048576),w.set i ((vH-c-q*bi)%1048576)),by dsimp only;omega,by dsimp only;omega,by simp[hw],z7 rI i (by omega),?_,⟨tX,qK⟩,?_,rfl,rfl,rfl⟩
   ·dsimp only;rw[tB (by omega),B1]
   ·dsimp only;rw[lD _ _ (by simpa using yC),D5,tE,D7,nw];simp only[z6];exact ar1 _ _ _ _ _ _ _ _ jO
  rcases dF (i<D v) with rH|VK
  ·have nz:v[i]?=some v[i]:=bz rH;have vC:=lE Ab i rH;have V3:=lD v i rH;generalize v[i]=bi at *;obtain⟨dA,cX,tX,qK⟩:=afv afw H ⟨mJ,qL⟩ vC;have k8:IntKind.i64.wrap (q*bi)=q*bi:=wrap64 _ (by omega) (by omega);have Aa:IntKind.i64.wrap (vH-c-q*bi)=vH-c-q*bi:=wrap64 _ (by omega) (by omega);have vE:IntKind.i64.wrap (0-(vH-c-q*bi)/1048576) = -((vH-c-q*bi)/1048576):=by rw[fc _];omega
   have iw:decide ((i:Int)<(D v:Int))=true:=dp;simp only[go_sem,go_sem_proc,ao,F,I,od,xc,bN,nz,fy,jz,k8,Aa,vE,iw,jA,aA,hR,iG,gJ,BX,rF,oS,ae,cI,aj,bn,bf,show ¬ ((20:Int)<0) by omega]
   repeat' (first|refine ax ?_ ?_|fail)<;>intro h<;>simp only[h,go_sem,go_sem_proc,ao,F,I,od,xc,bN,nz,fy,jz,k8,Aa,vE,iw,jA,aA,hR,iG,gJ,BX,rF,oS,ae,cI,aj,bn,bf,show ¬ ((20:Int)<0) by omega]
   exact fin bi vC.1 vC.2 V3
  ·have iw:decide ((i:Int)<(D v:Int))=false:=dn;have vE:IntKind.i64.wrap (0-(vH-c)/1048576) = -((vH-c)/1048576):=by rw[fc _];omega
   simp only[go_sem,go_sem_proc,ao,F,I,od,xc,bN,fy,jz,vE,iw,jA,aA,hR,iG,gJ,BX,rF,oS,ae,cI,aj,bn,bf,show ¬ ((20:Int)<0) by omega]
   repeat' (first|refine ax ?_ ?_|fail)<;>intro h<;>simp only[h,go_sem,go_sem_proc,ao,F,I,od,xc,bN,fy,jz,vE,iw,jA,aA,hR,iG,gJ,BX,rF,oS,ae,cI,aj,bn,bf,show ¬ ((20:Int)<0) by omega]
   have:=fin 0 (by omega) (by omega) (by rw[dB (by omega),dB (by omega)];simp);simp only[ua,La] at this;exact this
 ·obtain rfl:i=D u:=by omega
  have jA:decide ((D u:Int)<(D u:Int))=false:=dn;rw[dB (by omega),dB (by omega),dB (by omega),Ks] at jO;have ar4:=zR rI;have aJJ:=pq rI;rw[hw] at ar4
  have aJK:(V:Int)<1048576^(D u):=by
   have h:=Int.ofNat_lt.2 V1;rw[Ea] at h;exact h
  by_cases oW:c=0
  ·subst oW;have V4:bh u-q*V=bh w:=by omega
   have az:BZ u V q=q:=by unfold BZ;rw[ah (by omega)]
   have aD:B0 ⟨pre,u,post,V,q,k,g⟩=a7 ae (pre++w++post):=by
    unfold B0 leftOf;simp only;rw[ah (by omega),V4,<-hw,<-afq rI]
   simp only[go_sem,go_sem_proc,ao,F,I,od,xc,bN,jA,az,aD,beq_self_eq_true];repeat' (first|refine ax ?_ ?_|fail)<;>intro h<;>simp only[h,go_sem,go_sem_proc,ao,F,I,od,xc,bN,jA,az,aD,beq_self_eq_true]
  ·have V5:(c==0)=false:=by simpa using oW
   have iH:(1048576:Int)^(D u)<=1048576^(D u)*c:=by
    have:(1048576:Int)^(D u)*1<=1048576^(D u)*c:=z2 (by omega) (by omega);omega
   have kL:bh u-q*V<0:=by omega
   have Pp:IntKind.i64.wrap (q-1)=q-1:=wrap64 _ (by omega) (by omega);simp only[go_sem,go_sem_proc,ao,F,I,od,xc,bN,jA,V5]
   refine dw [0,1,2,48] [] (λ((i,d,z):Nat×Int×List Int) tm mem=>i<=D u/\D z=D u/\eZ z/\z.drop i=w.drop i/\(0<=d/\d<=1)/\bh (z.take i)+1048576^i*d=bh (w.take i)+bh (v.take i)/\tm 49=.J (.int .i64 (i:Nat))/\tm 10=.J (.int .i64 d)/\mem=a1 eG k g (a7 ae (pre++z++post)))
    (λ(i,_)=>D u-i) (0,0,w) (by refine⟨fk _,hw,rI,rfl,by omega,by simp[bh],rfl,rfl,rfl⟩) ?_
   intro vs ms aT aS;simp only[go_sem,go_sem_proc,ao,F,I] at aT aS;subst aT aS;rintro⟨i,d,z⟩ tm _ Q-⟨M,aV,Ac,qJ,aa,afx,GY,gr,rfl⟩;simp only[go_sem,go_sem_proc,bf] at Q;obtain⟨ao,F,I,GZ⟩:=Q;rcases dF (i<D u) with aA|b7
   ·have Lf:i<D z:=by omega
    have yC:i<D w:=by omega
    have ar5:z[i]=w[i]:=by
     have F:=ij Lf;rw[qJ,ij yC] at F;exact (w9 F).1.symm
    have Pq:z.drop (i+1)=w.drop (i+1):=by
     have F:=ij Lf;rw[qJ,ij yC] at F;exact (w9 F).2.symm
    have iG:=Lc (pre:=pre) (post:=post) Lf;rw[ar5] at iG;have B2:=lE rI i yC;have tE:=lD w i yC;generalize w[i]=B3 at *;have fy:IntKind.i64.wrap ((i:Int)+1)=((i+1:Nat):Int):=by rw[fc _];rfl
    have jz:IntKind.i64.wrap (d+B3)=d+B3:=wrap64 _ (by omega) (by omega);have hR:(D pre)+i+1<=(a7 ae (pre++z++post)).length:=by rw[qH];simp;omega
    have gJ:=λd=>afr (pre:=pre) (post:=post) Lf d;have jA:decide ((i:Int)<(D u:Int))=true:=dp
    have fin:∀bi:Int,0<=bi->bi<1048576->bh (v.take (i+1))=bh (v.take i)+1048576^i*bi ->
      ∃bp:Nat×Int×List Int,D u-bp.1<D u-i/\bp.1<=D u/\bp.2.2.length=D u/\eZ bp.2.2/\bp.2.2.drop bp.1=w.drop bp.1/\(0<=bp.2.1/\bp.2.1<=1)/\bh (bp.2.2.take bp.1)+1048576^bp.1*bp.2.1=bh (w.take bp.1)+bh (v.take bp.1) /\
       R.J (Data.int .i64 ((i+1:Nat):Int))=R.J (Data.int .i64 (bp.1:Int))/\R.J (Data.int .i64 ((d+B3+bi)/1048576))=R.J (Data.int .i64 bp.2.1)/\a1 eG k g (a7 ae (pre++z.set i ((d+B3+bi)%1048576)++post))=a1 eG k g (a7 ae (pre++bp.2.2++post)):=by
     intro bi qI kl D7;refine⟨(i+1,(d+B3+bi)/1048576,z.set i ((d+B3+bi)%1048576)),by dsimp only;omega,by dsimp only;omega,by simp[aV],z7 Ac i (by omega),?_,by dsimp only;omega,?_,rfl,rfl,rfl⟩
     ·dsimp only;rw[tB (by omega),Pq]
     ·dsimp only;rw[lD _ _ (by simpa using Lf),D5,tE,D7,nw];simp only[z6];exact ae8 _ _ _ _ _ _ _ afx
    rcases dF (i<D v) with rH|VK
    ·have nz:v[i]?=some v[i]:=bz rH;have vC:=lE Ab i rH;have V3:=lD v i rH;generalize v[i]=bi at *;have k8:IntKind.i64.wrap (d+B3+bi)=d+B3+bi:=wrap64 _ (by omega) (by omega);have iw:decide ((i:Int)<(D v:Int))=true:=dp;simp only[go_sem,go_sem_proc,ao,F,I,GZ,GY,gr,nz,fy,jz,k8,iw,jA,aA,hR,iG,gJ,BX,rF,oS,ae,cI,aj,bn,bf,show ¬ ((20:Int)<0) by omega]
     repeat' (first|refine ax ?_ ?_|fail)<;>intro h<;>simp only[h,go_sem,go_sem_proc,ao,F,I,GZ,GY,gr,nz,fy,jz,k8,iw,jA,aA,hR,iG,gJ,BX,rF,oS,ae,cI,aj,bn,bf,show ¬ ((20:Int)<0) by omega]
     exact fin bi vC.1 vC.2 V3
    ·have iw:decide ((i:Int)<(D v:Int))=false:=dn;simp only[go_sem,go_sem_proc,ao,F,I,GZ,GY,gr,fy,jz,iw,jA,aA,hR,iG,gJ,BX,rF,oS,ae,cI,aj,bn,bf,show ¬ ((20:Int)<0) by omega]
     repeat' (first|refine ax ?_ ?_|fail)<;>intro h<;>simp only[h,go_sem,go_sem_proc,ao,F,I,GZ,GY,gr,fy,jz,iw,jA,aA,hR,iG,gJ,BX,rF,oS,ae,cI,aj,bn,bf,show ¬ ((20:Int)<0) by omega]
     have:=fin 0 (by omega) (by omega) (by rw[dB (by omega),dB (by omega)];simp);simp only[xd] at this;exact this
   ·obtain rfl:i=D u:=by omega
    have jA:decide ((D u:Int)<(D u:Int))=false:=dn;rw[dB (by omega),dB (by omega),dB (by omega),Ks] at afx;have ar6:=zR Ac;have aJL:=pq Ac;rw[aV] at ar6
    have V4:bh u-q*V+V=bh z:=by
     have e:bh u-q*V+V-bh z=1048576^(D u)*(d-c):=by rw[GS];omega
     generalize (1048576:Int)^(D u)=p at *;rcases yD (d-c) 0 with h|h|h
     ·have:p*(d-c)<=p*(-1):=z2 (by omega) (by omega);omega
     ·rw[h,ua] at e;omega
     ·have:p*1<=p*(d-c):=z2 (by omega) (by omega);omega
    have az:BZ u V q=q-1:=by unfold BZ;rw[ad kL]
    have aD:B0 ⟨pre,u,post,V,q,k,g⟩=a7 ae (pre++z++post):=by
     unfold B0 leftOf;simp only;rw[ad kL,V4,<-aV,<-afq Ac]
    simp only[go_sem,go_sem_proc,ao,F,I,GZ,GY,gr,jA,az,aD,Pp];repeat' (first|refine ax ?_ ?_|fail)<;>intro h<;>simp only[h,go_sem,go_sem_proc,ao,F,I,GZ,GY,gr,jA,az,aD,Pp]
theorem ar7 {T V P yE G0 v1 v2 top kF q r:Int}(rE:V=(v1*1048576+v2)*P+yE)(cC:T=(top*1048576+kF)*P+G0)(gv:0<P)(afy:0<=yE)(Pr:G0<P)(mJ:0<=q)(ar8:0<=V)
  (V6:T<1048576*V) (Eb:q*v1+r=top) (H:q>=1048576\/q*v2>r*1048576+kF):T<q*V:=by
 rcases H with h|h
 ·have:=m9 h ar8;omega
 ·have F:(top*1048576+kF+1)*P<=(q*(v1*1048576+v2))*P:=by
   refine m9 ?_ (by omega);rw[iu,<-iv];have:q*v1*1048576=(top-r)*1048576:=by rw[<-Eb];congr 1;omega
   omega
  have I:q*V=(q*(v1*1048576+v2))*P+q*yE:=by rw[rE,iu,<-iv]
  have af:0<=q*yE:=yA mJ afy;rw[tY _ 1,oe] at F;omega
theorem afz {T V P yE G0 v1 v2 top kF q r:Int}(rE:V=(v1*1048576+v2)*P+yE)(cC:T=(top*1048576+kF)*P+G0)(gv:0<P)(afy:0<=yE/\yE<P)(Pr:0<=G0)(mJ:0<=q)(qL:q<1048576)(ki:524288<=v1)(oJ:0<=v2/\v2<1048576)(adA:0<=kF)
  (Eb:q*v1+r=top) (H:r>=1048576\/q*v2<=r*1048576+kF):0<=T-q*V+V:=by
 have I:q*V=(q*(v1*1048576+v2))*P+q*yE:=by rw[rE,iu,<-iv]
 have af:q*yE<=q*P:=z2 (by omega) mJ;have aO:q*P<=1048576*P:=m9 (by omega) (by omega);have br:1048576*P<=(v1*1048576+v2)*P:=m9 (by omega) (by omega);have e:q*v1*1048576=(top-r)*1048576:=by rw[<-Eb];congr 1;omega
 rcases H with h|h
 ·have bR:q*v2+q<=1048576*1048576:=by
   have bN:q*(v2+1)<=1048576*1048576:=VP (by omega) (by omega) (by omega) (by omega);rw[iu,vA] at bN;exact bN
  have cb:(q*(v1*1048576+v2)+q)*P<=(top*1048576+kF)*P:=by
   refine m9 ?_ (by omega);rw[iu,<-iv];omega
  rw[tY _ q] at cb;omega
 ·have cb:(q*(v1*1048576+v2))*P<=(top*1048576+kF)*P:=by
   refine m9 ?_ (by omega);rw[iu,<-iv];omega
  omega
theorem ar9 {T V q:Int}(rE:0<V)(F:T<(q+1)*V)(I:0<=T-q*V+V):(if T-q*V<0 then q-1 else q)=T/V/\(if T-q*V<0 then T-q*V+V else T-q*V)=T%V:=by
 have af:(q+1)*V=q*V+V:=by rw[tY,oe]
 have aO:(q-1)*V=q*V-V:=by rw[afA,oe]
 have key:∀d r:Int,T=d*V+r->0<=r->r<V->d=T/V/\r=T%V:=by
  intro d r h ao br
  constructor
  ·rw[h,yB,Int.add_mul_ediv_right _ _ (by omega),VU ao br];omega
  ·rw[h,yB,Int.add_mul_emod_self_right,VV ao br]
 split
 ·exact key (q-1) _ (by omega) (by omega) (by omega)
 ·exact key q _ (by omega) (by omega) (by omega)
theorem afB {v:List Int}{N:Nat}(h:(D v)=N+2):bh v=(v[N+1]*1048576+v[N])*1048576^N+bh (v.take N):=by
 have e:v=v.take (N+1+1):=by rw[dB (by omega)]
 conv=>lhs;rw[e]
 rw[lD v (N+1) (by omega),lD v N (by omega),nw,tY,nx (v[N]),B4 (v[N+1]),nx (v[N+1])];have:(1048576:Int)^N*1048576*v[N+1]=1048576^N*v[N+1]*1048576:=by rw[B4]
 omega
theorem asa {v:List Int}{N:Nat}(h:(D v)=N+3):bh v=((v[N+2]*1048576+v[N+1])*1048576+v[N])*1048576^N+bh (v.take N):=by
 have e:v=v.take (N+1+1+1):=by rw[dB (by omega)]
 conv=>lhs;rw[e]
 rw[lD v (N+1+1) (by omega),lD v (N+1) (by omega),lD v N (by omega)];simp only[nw];generalize (1048576:Int)^N=p;rw[tY,tY,tY,B4 (v[N+2]*1048576),B4 (v[N+2]),nx (v[N+2]),B4 (v[N+1]),nx (v[N+1]),nx (v[N])];have F:p*1048576*v[N+1]=p*v[N+1]*1048576:=by rw[B4]
 have I:p*1048576*1048576*v[N+1+1]=p*v[N+2]*1048576*1048576:=by rw[B4,B4 p]
 omega
theorem asb {u:List Int}{i n:Nat}{V:Int}(aa:eZ u)(ar:i+n+1<=D u)(gU:bh (u.drop (i+1))<V)(rE:V<1048576^n):
  ∃pre gd post,u=pre++gd++post/\D pre=i/\D gd=n+1/\eZ pre/\eZ gd/\eZ post/\bh post=0/\∃ez,gd[0]?=some ez/\u.take (i+1)=pre++[ez]/\bh gd=ez+1048576*bh (u.drop (i+1))/\0<=bh (u.drop (i+1))/\0<=ez/\ez<1048576:=by
 have e:u=u.take i++(u.drop i).take (n+1)++u.drop (i+n+1):=by
  rw[gW,qu,<-Gk,BJ,BJ]
 have afC:=e ▸ aa;rw[DL,DL] at afC;obtain⟨⟨d1,d2⟩,d3⟩:=afC;have aA:i<D u:=by omega
 have qJ:=ij aA;have Lg:((u.drop i).take (n+1)).length=n+1:=by simp;omega
 have afD:bh (u.drop (i+1))=bh ((u.drop (i+1)).take n)+1048576^n*bh (u.drop (i+n+1)):=by
  have:=KE (u.drop (i+1)) n;rw[rB,oL (by omega),Gk] at this;rw[this]
  congr 3
  rw[show i+1+n=i+n+1 by omega]
 have aG:=pq d3;have bD:0<=bh ((u.drop (i+1)).take n):=pq (λx O=>aa x (Lh (F8 O)))
 have pv:bh (u.drop (i+n+1))=0:=by
  rcases dF (0<bh (u.drop (i+n+1))) with h|h
  ·have:(1048576:Int)^n*1<=1048576^n*bh (u.drop (i+n+1)):=z2 (by omega) (Int.pow_nonneg (by omega));omega
  ·omega
 refine⟨_,_,_,e,by simp;omega,Lg,d1,d2,d3,pv,u[i],?_,?_,?_,?_,(lE aa i aA).1,(lE aa i aA).2⟩
 ·rw[pU (by omega),k3];simp[aA]
 ·rw[hc,bz aA];rfl
 ·rw[qJ,wT,tM,afD,pv];simp
 ·rw[afD,pv];simpa using bD
theorem asc (l:List Int)(h:(D l)<=1000000):kW 157054 0 1 (D l) 8 1 [.J (.int .i64 0)] (some (0,((l.map ae).flatten.map R.J)))=some (.ref 157054 1 1 0 (D l+1),some (157054,1,a7 ae (l++[0]))) :=
 k6 hd tN 157054 0 8 l 0 rfl (by omega) (by omega)
def Ps:=cu vB λ(x,y)=>cU ((aJ x).length<=1000/\(aJ y).length<=1000/\0<y) (.same (.cM [b4 (x/y),b4 (x%y)]))
@[go_sem] theorem afE (x:Nat)(y:Nat)(H:(aJ x).length<=1000/\(aJ y).length<=1000/\0<y):Ps [b4 x,b4 y]=some (.same (.cM [b4 (x/y),b4 (x%y)])):=(cD yz (x,y)).trans (cZ H _)
theorem asd (T:bl)(gh:T DS=aW K8)(fL:T vt=aW BS)(la:T O0=aW VT)(eN:T qF=zP zW vz)(jC:T Gz=aW Pm)(lb:T Uz=BK Le)(x:Nat)(y:Nat)(H:(aJ x).length<=1000/\(aJ y).length<=1000/\0<y):WP T Ve (.same (.cM [b4 (x/y),b4 (x%y)])) [.J (b4 x),.J (b4 y)]:=by
 refine cE ?_;simp only[Ve];obtain⟨O,aw,iW⟩:=H;have hy:(aJ x).length<=1000000/\(aJ y).length<=1000000:=by omega
 have hJ:=VI x y hy;have tq:(aJ x).length<=1000000:=by omega
 by_cases oN:x<y
 ·have pw:hI x y = -1:=by unfold hI;rw[ad (by simpa using oN)]
  have eL:=ae1 (aJ x) tq;rw[pw] at hJ
  change BS [b4 x]=_ at eL
  simp only[go_sem,go_sem_proc,gh,fL,la,eN,jC,lb,hJ,eL,show ((-1:Int)<0) by omega,decide_true]
  repeat' (first|refine ax ?_ ?_|fail)<;>intro h<;>simp only[h,go_sem,go_sem_proc,gh,fL,la,eN,jC,lb,hJ,eL,show ((-1:Int)<0) by omega,decide_true]
  rw[T6 oN,KA oN]
  try rfl
 ·have pw:decide (hI x y<0)=false:=by
   unfold hI;rw[ah (by simp;omega)]
   split<;>rfl
  have aJM:aJ y≠[]:=by rw[Ne,zQ];omega
  by_cases F:y<1048576
  ·have rG:=DN iW F;have jx:=afk x y ⟨by omega,by omega,by omega⟩
   have aY:=Pb [((x%y:Nat):Int)] (by simp);have aA:x%y<y:=Nat.mod_lt _ iW;rw[l1] at jx
   have vF:fK [((x%y:Nat):Int)]=aJ (x%y):=by
    generalize x%y=r at aA ⊢;rw[zS (by intro d aa;rw[ub] at aa;omega)];simp only[bh]
    congr 1
   rw[vF] at aY;have G6:b4 y=.Y [[.int .i64 y]]:=by unfold b4;rw[rG];rfl
   change zW [.Y [[.int .i64 _]]]=_ at aY
   rw[G6] at hJ;simp only[go_sem,go_sem_proc,gh,fL,la,eN,jC,lb,G6,hJ,pw,jx,aY,show (((1:Nat):Int)==1)=true from rfl];repeat' (first|refine ax ?_ ?_|fail)<;>intro h<;>simp only[h,go_sem,go_sem_proc,gh,fL,la,eN,jC,lb,G6,hJ,pw,jx,aY,show (((1:Nat):Int)==1)=true from rfl]
   try rfl
  ·obtain⟨N,gD⟩:∃N,(aJ y).length=N+2:=by
    have:=mt (g4 (n:=y) (k:=1)).1 (by simpa using F);exact⟨(aJ y).length-2,by omega⟩
   have rG:=m7 y;have k9:(((aJ y).length:Int)==1)=false:=by simp;omega
   have Lg:IntKind.i64.wrap (((aJ y).length:Int)-1)=((N+1:Nat):Int):=by rw[fc _];omega
   have iS:(aJ y)[N+1]?=some (aJ y)[N+1]:=bz (by omega);have afF:=lE rG (N+1) (by omega)
   have aJN:(aJ y)[N+1]≠0:=by
    intro h;have:=aeQ y;rw[List.getLast?_eq_getElem?,gD] at this;exact this (by rw[show N+2-1=N+1 by omega,iS,h])
   have V7:=afB gD;rw[lY] at V7;have ase:=zR (z1 rG N);have aJO:=pq (z1 rG N);have aJP:=lE rG N (by omega);rw[fI,oL (by omega)] at ase;generalize (aJ y)[N+1]=di at *;generalize (aJ y)[N]=sD at *;generalize bh ((aJ y).take N)=V8 at *;have V9:((aJ y).map ae)[N+1]?=some [.int .i64 di]:=by rw[bn,iS];rfl
   simp only[go_sem,go_sem_proc,gh,fL,la,eN,jC,lb,b4,hJ,pw,k9,aj];have afG:=hJ;unfold b4 at afG;simp only[go_sem,go_sem_proc,gh,fL,la,eN,jC,lb,afG,pw,k9,aj];refine dw [0,1] [157054,157075] (λ(κ:Nat) tm mem=>di*2^κ<1048576/\tm 8=.J (.int .i64 (2^κ))) (λκ=>20-κ) 0 (by refine⟨by omega,rfl⟩) ?_;intro vs ms aT aS;simp only[go_sem,go_sem_proc,gh,fL,la,eN,jC,lb,aj] at aT aS;subst aT aS;rintro κ tm mem Q hm ⟨aJQ,cb⟩;simp only[go_sem,go_sem_proc,gh,fL,la,eN,jC,lb,bf] at Q hm;obtain⟨ao,yo⟩:=Q;obtain⟨G7,nB⟩:=hm;have aJR:(0:Int)<2^κ:=G8 (by omega)
   have aJS:(2:Int)^κ<=di*2^κ:=by
    have:1*(2:Int)^κ<=di*2^κ:=m9 (by omega) (by omega);omega
   have hκ:κ<20:=by
    rcases ih κ 20 with h|h
    ·exact h
    ·have:(2:Int)^20<=2^κ:=by
      have:=xe (n:=2) (by omega) h;have cy:=Int.ofNat_le.2 this;rwa [Ea,Ea] at cy
     omega
   have Pt:IntKind.i64.wrap (di*2^κ)=di*2^κ:=wrap64 _ (by omega) (by omega);have afH:IntKind.i64.wrap (2^κ*2)=2^κ*2:=wrap64 _ (by omega) (by omega);rcases dF (di*2^κ<524288) with aA|b7
   ·simp only[go_sem,go_sem_proc,gh,fL,la,eN,jC,lb,ao,yo,cb,Lg,V9,Pt,afH,aA,G7,nB,decide_true,cI,aj];repeat' (first|refine ax ?_ ?_|fail)<;>intro h<;>simp only[h,go_sem,go_sem_proc,gh,fL,la,eN,jC,lb,ao,yo,cb,Lg,V9,Pt,afH,aA,G7,nB,decide_true,cI,aj]
    exact⟨κ+1,by omega,by rw[nw,<-iv];omega,by rw[nw]⟩
   ·-- the numbers, shifted
    have asf:(di+1)*2^κ<=1048576:=by
     have e:(1048576:Int)=2^(20-κ)*2^κ:=by rw[<-afj,show 20-κ+κ=20 by omega];rfl
     have F:di<2^(20-κ):=by
      rcases dF (di<2^(20-κ)) with h|h
      ·exact h
      ·have:(2:Int)^(20-κ)*2^κ<=di*2^κ:=m9 (by omega) (by omega);omega
     rw[e];exact m9 (by omega) (by omega)
    generalize (2:Int)^κ=s at *;obtain⟨S,rfl⟩:∃S:Nat,s=S:=⟨s.toNat,by omega⟩
    have gv:(0:Int)<1048576^N:=G8 (by omega);have Ec:0<S:=by omega
    have V1:y*S<1048576^(N+2):=by
     have F:((y*S:Nat):Int)<1048576^(N+2):=by
      rw[afI,V7,nw,nw];generalize (1048576:Int)^N=p at *
      have az:((di*1048576+sD)*p+V8)*S<=((di+1)*1048576*p)*S:=by
       refine m9 ?_ (by omega);have:(di*1048576+sD+1)*p<=((di+1)*1048576)*p:=m9 (by omega) (by omega);rw[tY _ 1] at this;omega
      have afJ:((di*1048576+sD)*p+V8)*S<((di+1)*1048576*p)*S:=by
       refine Int.mul_lt_mul_of_pos_right ?_ (by omega);have:(di*1048576+sD+1)*p<=((di+1)*1048576)*p:=m9 (by omega) (by omega);rw[tY _ 1] at this;omega
      have aD:((di+1)*1048576*p)*S=((di+1)*S)*(p*1048576):=by
       rw[iv (di+1),iv,nx (1048576*p),<-iv,nx 1048576 p]
      have bZ:((di+1)*S)*(p*1048576)<=1048576*(p*1048576):=m9 asf (by omega);omega
     have I:((1048576^(N+2):Nat):Int)=1048576^(N+2):=by rw[Ea];rfl
     omega
    have aJT:524288*(1048576^N*1048576)<=((y*S:Nat):Int):=by
     rw[afI,V7];generalize (1048576:Int)^N=p at *
     have az:(di*1048576)*p*S<=((di*1048576+sD)*p+V8)*S:=by
      refine m9 ?_ (by omega);have:(di*1048576)*p<=(di*1048576+sD)*p:=m9 (by omega) (by omega);omega
     have aD:(di*1048576)*p*S=(di*S)*(p*1048576):=by
      rw[iv di,iv,nx (1048576*p),<-iv,nx 1048576 p]
     have bZ:524288*(p*1048576)<=(di*S)*(p*1048576):=m9 (by omega) (by omega);omega
    have Ed:(aJ (y*S)).length=N+2:=by
     have F:=g4.2 V1
     have I:=mt (g4 (n:=y*S) (k:=N+1)).1 (by
      have I:((1048576^(N+1):Nat):Int)=1048576^N*1048576:=by rw[Ea,nw];rfl
      omega)
     omega
    have aJU:1*x<=x*S:=by rw[rC];exact afK x Ec
    have aJV:(aJ x).length<=(aJ (x*S)).length:=by
     rw[g4];have:=g4.1 (b1 (aJ (x*S)).length);omega
    have aJW:y*S<=x*S:=Nat.mul_le_mul_right S (by omega)
    have aJX:N+2<=(aJ (x*S)).length:=by
     rw[<-Ed,g4];have:=g4.1 (b1 (aJ (x*S)).length);omega
    have aJY:(aJ (x*S)).length<=1001:=by
     have:∀k,(aJ x).length<=k->(aJ (x*S)).length<=k+1:=by
      intro k Q;rw[g4];have F:=g4.1 Q;rw[wW];exact Nat.lt_of_lt_of_le (Nat.mul_lt_mul_of_pos_right F Ec) (afK _ (by omega))
     exact this 1000 O
    have h3:=VQ x S ⟨by omega,by rw[DN Ec (by omega)];simp⟩
    have Wa:=VQ y S ⟨by omega,by rw[DN Ec (by omega)];simp⟩
    have asg:b4 S=.Y [[.int .i64 (S:Int)]]:=by unfold b4;rw[DN Ec (by omega)];rfl
    rw[asg] at h3 Wa;simp only[b4] at h3 Wa;have dg:=asc (aJ (x*S)) (by omega);have ash:((((aJ (x*S)).length+1:Nat):Int)==((aJ x).length:Int))=false:=by simp;omega
    have asi:=lY (y*S);have Pu:=m7 (y*S);have asj:=lY (x*S);have afL:=m7 (x*S);have asl:b4 (y*S)=.Y ((aJ (y*S)).map ae):=rfl;generalize asm:aJ (y*S)=v at *;generalize aJZ:aJ (x*S)=l2 at *;have Pp:IntKind.i64.wrap (((D l2+1:Nat):Int)-(D v:Int))=((D l2-N-1:Nat):Int):=by rw[fc _];omega
    have qL:8*(D l2-N-1)<=140737488355328:=by omega
    have B5:(D l2)-N-1<=maxLen:=GQ _ (by omega);have B6:decide (di*(S:Int)<524288)=false:=mw b7;simp only[go_sem,go_sem_proc,gh,fL,la,eN,jC,lb,ao,yo,cb,G7,nB,Lg,V9,Pt,B6,h3,Wa,dg,ash,Pp,qL,B5,GO,cI,aj];have na:(D l2)-N-1+(N+2)=D l2+1:=by omega
    generalize aJ0:(D l2)-N-1=bk at *;have gw:(D l2)=bk+N+1:=by omega
    have vI:=afB Ed;rw[asi] at vI;have Wb:=zR (z1 Pu N);have Wc:=pq (z1 Pu N);rw[fI,oL (by omega)] at Wb;have asn:v[N+1]?=some v[N+1]:=bz (by omega);have Pv:v[N]?=some v[N]:=bz (by omega);have GW:=lE Pu (N+1) (by omega);have pY:=lE Pu N (by omega);generalize v[N+1]=v1 at *;generalize v[N]=v0 at *;generalize bh (v.take N)=vlow at *
    have ki:524288<=v1:=by
     generalize (1048576:Int)^N=p at *;rcases dF (524288<=v1) with h|h
     ·exact h
     ·have I:(v1*1048576+v0+1)*p<=(524288*1048576)*p:=m9 (by omega) (by omega);rw[tY _ 1,oe] at I;omega
    have aso:((y*S:Nat):Int)<1048576^(N+2):=by
     have I:((1048576^(N+2):Nat):Int)=1048576^(N+2):=by rw[Ea];rfl
     omega
    have Wd:0<((y*S:Nat):Int):=by
     have:0<1048576^N*(1048576:Int):=Int.mul_pos gv (by omega);omega
    have asp:bh ((l2++[0]).drop bk)<((y*S:Nat):Int):=by
     have e:(l2++[0]).drop bk=l2.drop bk++[0]:=by rw[List.drop_append_of_le_length (by omega)]
     rw[e,DM];have F:=zR (λd aa=>afL d (Lh aa):eZ (l2.drop bk));rw[rB,show (D l2)-bk=N+1 by omega,nw] at F
     simp only[bh];omega
    have asq:((x*S:Nat):Int)=bh ((l2++[0]).take bk)+1048576^bk*bh ((l2++[0]).drop bk):=by
     have:=KE (l2++[0]) bk;rw[DM,asj,oL (by simp;omega)] at this
     simpa [bh] using this
    generalize afM:y*S=hg at *;generalize afN:x*S=G9 at *
    refine dw [8,9,10,11,12] [] (λ((j,u,eE):Nat×List Int×List Int) tm mem=>j<=bk/\D u=D l2+1/\eZ u/\D eE=bk/\eZ eE/\bh (u.drop j)<hg/\(G9:Int)=bh (u.take j)+1048576^j*(hg*bh (eE.drop j)+bh (u.drop j)) /\
      tm 13=.J (.int .i64 ((j:Nat)-1))/\mem 157054=some (1,a7 ae u)/\mem 157075=some (0,a7 ae eE)) (λ(j,_)=>j) (bk,l2++[0],dG bk 0)
     (by
      refine⟨b1 _,by simp,DL.2 ⟨afL,by intro d aa;rw[ub] at aa;omega⟩,by simp,λd aa=>by rw[GU] at aa;omega,asp,?_,?_,rfl,rfl⟩
      ·rw[List.drop_of_length_le (by simp)];simp only[bh,ua,D8];exact asq
      ·simp only[e7,reduceIte];rw[fc _]) ?_
    intro vs ms aT aS;simp only[go_sem,go_sem_proc,gh,fL,la,eN,jC,lb,ao,yo,cb] at aT aS;subst aT aS;rintro⟨j,u,eE⟩ tm mem Q-⟨ai,Ad,vG,Pw,We,gU,px,od,Ha,Px⟩;simp only[go_sem,go_sem_proc,gh,fL,la,eN,jC,lb,bf] at Q;obtain⟨cb,jl,gr,zZ,iV⟩:=Q;rcases j with _|j
    ·rw[lV,lV] at px;rw[lV] at gU;simp only[nu,bh,Int.pow_zero,oe,D8] at px;have aJ1:=pq We;have yF:=pq vG
     have Wf:bh eE=((x/y:Nat):Int)/\bh u=((x%y*S:Nat):Int):=by
      have F:G9/hg=x/y:=by rw[<-afN,<-afM];exact Nat.mul_div_mul_right x y Ec
      have I:G9%hg=x%y*S:=by rw[<-afN,<-afM];exact Nat.mul_mod_mul_right S x y
      have af:((G9/hg:Nat):Int)=bh eE:=by rw[afl,px,yB,afm _ _ (by omega),VU yF gU];omega
      have aO:((G9%hg:Nat):Int)=bh u:=by rw[afn,px,yB,afo,VV yF gU]
      rw[F] at af;rw[I] at aO;exact⟨af.symm,aO.symm⟩
     have Wg:=Pb u (by omega);rw[zS vG,Wf.2,l1] at Wg;have Wh:=Pb eE (by omega);rw[zS We,Wf.1,l1] at Wh
     have hlen:(aJ (x%y*S)).length<=100000:=by
      have:(aJ (x%y*S)).length<=D u:=by
       have:=ae4 u;rw[zS vG,Wf.2,l1] at this;exact this
      omega
     have jx:=afk (x%y*S) S ⟨hlen,by omega,by omega⟩
     rw[l1,Nat.mul_div_cancel _ Ec] at jx;simp only[b4] at jx;have ej:R.ref 157054 1 1 0 (D l2+1)=R.ref 157054 1 1 0 (D u):=by rw[Ad]
     have er:R.ref 157075 0 1 0 bk=R.ref 157075 0 1 0 (D eE):=by rw[Pw]
     rw[ej] at jl;rw[er] at iV;simp only[go_sem,go_sem_proc,gh,fL,la,eN,jC,lb,cb,jl,gr,zZ,iV,od,Ha,Px,Wg,Wh,jx,lX hd,b4,lC,l0,show ¬ ((0:Int)-1>=0) by omega,decide_false]
     repeat' (first|refine ax ?_ ?_|fail)<;>intro h<;>simp only[h,go_sem,go_sem_proc,gh,fL,la,eN,jC,lb,cb,jl,gr,zZ,iV,od,Ha,Px,Wg,Wh,jx,lX hd,b4,lC,l0,show ¬ ((0:Int)-1>=0) by omega,decide_false]
    ·obtain⟨pre,gd,post,e,B7,afO,Wi,rI,asr,ass,ez,B8,gM,aJ2,ast,aJ3,aJ4⟩:=asb (i:=j) (n:=N+2) vG (by omega) gU aso;have uc:j<bk:=by omega
     rw[gM,DM,B7] at px;subst e;subst B7;rw[Ed] at zZ;have afP:((D pre+1:Nat):Int)-1=(D pre:Int):=by omega
     have oR:IntKind.i64.wrap ((D pre:Int)+((N+2:Nat):Int))=((D pre+(N+2):Nat):Int):=by rw[fc _];omega
     have asu:IntKind.i64.wrap (((D pre+(N+2):Nat):Int)-1)=((D pre+(N+1):Nat):Int):=by rw[fc _];omega
     have Ee:IntKind.i64.wrap (((N+2:Nat):Int)-1)=((N+1:Nat):Int):=by rw[fc _];omega
     have Py:IntKind.i64.wrap (((N+2:Nat):Int)-2)=(N:Int):=by rw[fc _];omega
     have Pz:IntKind.i64.wrap (((D pre+(N+2):Nat):Int)-2)=((D pre+N:Nat):Int):=by rw[fc _];omega
     have cr:(D pre)+(N+2)<D l2+1:=by omega
     have cf:(D pre)+(N+1)<D l2+1:=by omega
     have ix:(D pre)+N<D l2+1:=by omega
     have asv:(D pre)+(N+2)+1<=(a7 ae (pre++gd++post)).length:=by rw[qH,Ad];omega
     have asw:(D pre)+(N+1)+1<=(a7 ae (pre++gd++post)).length:=by rw[qH,Ad];omega
     have PA:(D pre)+N+1<=(a7 ae (pre++gd++post)).length:=by rw[qH,Ad];omega
     have asx:=Lc (pre:=pre) (post:=post) (show N+2<(D gd) by omega);have PB:=Lc (pre:=pre) (post:=post) (show N+1<(D gd) by omega);have pv:=Lc (pre:=pre) (post:=post) (show N<(D gd) by omega);have cC:=asa (N:=N) (by omega:(D gd)=N+3);have Pr:=zR (z1 rI N);have afQ:=pq (z1 rI N);rw[fI,oL (by omega)] at Pr;have mK:=lE rI (N+2) (by omega);have jV:=lE rI (N+1) (by omega);have BW:=lE rI N (by omega);generalize gd[N+2]=t2 at *;generalize gd[N+1]=t1 at *;generalize gd[N]=t0 at *;generalize bh (gd.take N)=G0 at *;have asy:IntKind.i64.wrap (t2*2^min (DO 20) 64)=t2*1048576:=by rw[show min (DO 20) 64=20 by decide];exact wrap64 _ (by omega) (by omega)
     have asz:bits .or .i64 (t2*1048576) t1=t2*1048576+t1:=Uh t2 t1 mK.1 (by omega) jV;have asA:(v1=0)=False:=by simp;omega
     generalize aJ5:t2*1048576+t1=top at *;have aJ6:0<=top/\top<1099511627776:=by omega
     have vF:top.tdiv v1=top/v1:=GX (by omega);have D9:top.tmod v1=top%v1:=Lb (by omega);have mJ:0<=top/v1:=VW (by omega) (by omega);have qL:top/v1<=top:=Int.ediv_le_self _ (by omega);have asB:IntKind.i64.wrap (top/v1)=top/v1:=wrap64 _ (by omega) (by omega);have Li:(v.map ae)[N+1]?=some [.int .i64 v1]:=by rw[bn,asn];rfl
     have PC:(v.map ae)[N]?=some [.int .i64 v0]:=by rw[bn,Pv];rfl
     have V6:bh gd<1048576*hg:=by omega
     have asC:bh gd<(top/v1+1)*hg:=by
      have az:top+1<=(top/v1+1)*v1:=by
       have F:=BV top v1;have I:=VY top (show 0<v1 by omega);rw[tY,oe,nx (top/v1)];omega
      have aD:(top+1)*1048576*1048576^N<=(top/v1+1)*v1*1048576*1048576^N:=m9 (m9 az (by omega)) (by omega)
      have bZ:(top/v1+1)*v1*1048576*1048576^N<=(top/v1+1)*hg:=by
       rw[iv,iv];refine z2 ?_ (by omega);rw[vI,<-iv];have:v1*1048576*1048576^N<=(v1*1048576+v0)*1048576^N:=m9 (by omega) (by omega);omega
      have dr:(top*1048576+t0+1)*1048576^N<=(top+1)*1048576*1048576^N:=m9 (by omega) (by omega);rw[tY _ 1,oe] at dr;omega
     simp only[go_sem,go_sem_proc,gh,fL,la,eN,jC,lb,cb,jl,gr,zZ,iV,od,Ha,Px,afP,oR,asu,Ee,cr,cf,asv,asw,asx,PB,asy,asz,asA,vF,D9,asB,Li,show (D pre:Int)>=0 by omega,decide_true,cI,aj,show ¬ ((20:Int)<0) by omega]
     have Wj:∀(mem:Mem),mem 157054=some (1,a7 ae (pre++gd++post))->∀q:Int,0<=q->q<1048576->bh gd<(q+1)*hg->0<=bh gd-q*hg+hg ->
       Le [.ref 157054 1 1 (D pre) (N+3),.J (.Y (v.map ae)),.J (.int .i64 q)] mem=some (.J (.int .i64 (bh gd/hg)),a1 mem 157054 1 (a7 ae (pre++pad (N+3) (bh gd%hg).toNat++post))):=by
      intro mem Ha q mJ asD ud jB;have G6:=ar9 Wd ud jB;have nv:=ar0 ⟨pre,gd,post,hg,q,157054,1⟩ mem ⟨Ha,rI,by show (aJ hg).length<=D gd;rw[asm];omega,mJ,asD,jB,by show (D pre)+D gd<=100000;omega⟩
      simp only[BZ,B0,leftOf] at nv;rw[G6.1,G6.2,afO,asl] at nv;exact nv
     have asE:0<=bh gd/hg:=VW (pq rI) (by omega);have asF:bh gd/hg<1048576:=afp Wd V6;have aJ7:=VX (bh gd) (show (hg:Int)≠0 by omega);have asG:=VY (bh gd) Wd
     have asH:bh (pad (N+3) (bh gd%hg).toNat)=bh gd%hg:=by
      rw[arX]
      ·omega
      ·have I:((1048576^(N+2):Nat):Int)=1048576^(N+2):=by rw[Ea];rfl
       have af:1048576^(N+2)<=1048576^(N+3):=xe (by omega) (by omega);omega
     have iE:∃bp:Nat×List Int×List Int,bp.1<D pre+1/\bp.1<=bk/\bp.2.1.length=D l2+1/\eZ bp.2.1/\bp.2.2.length=bk/\eZ bp.2.2/\bh (bp.2.1.drop bp.1)<hg/\(G9:Int)=bh (bp.2.1.take bp.1)+1048576^bp.1*(hg*bh (bp.2.2.drop bp.1)+bh (bp.2.1.drop bp.1)) /\
       R.J (Data.int .i64 ((D pre:Int)-1))=R.J (Data.int .i64 ((bp.1:Int)-1))/\some (1,a7 ae (pre++pad (N+3) (bh gd%hg).toNat++post))=some (1,a7 ae bp.2.1)/\some (0,a7 ae (eE.set (D pre) (bh gd/hg)))=some (0,a7 ae bp.2.2):=by
      have asI:(D eE)=bk:=Pw;have Pw:(D pre)<D eE:=by omega
      have Hb:(pre++pad (N+3) (bh gd%hg).toNat++post).drop (D pre)=pad (N+3) (bh gd%hg).toNat++post:=by rw[gW,T4]
      have asJ:(pre++pad (N+3) (bh gd%hg).toNat++post).take (D pre)=pre:=by rw[gW,T3]
      have afR:bh (pad (N+3) (bh gd%hg).toNat++post)=bh gd%hg:=by rw[DM,ass,asH];omega
      refine⟨(D pre,pre++pad (N+3) (bh gd%hg).toNat++post,eE.set (D pre) (bh gd/hg)),by dsimp only;omega,by dsimp only;omega,?_,DL.2 ⟨DL.2 ⟨Wi,arW _ _⟩,asr⟩,by rw[hn];exact asI,z7 We _ ⟨asE,asF⟩,?_,?_,rfl,rfl,rfl⟩
      ·rw[<-Ad];simp[arV,afO]
      ·dsimp only;rw[Hb,afR];exact asG
      ·dsimp only;rw[Hb,afR,asJ,ij (by simpa using Pw),tM];simp only[z6];rw[tB (by omega)];have F:=BV (bh gd) hg;have I:(hg:Int)*(bh gd/hg+1048576*bh (eE.drop (D pre+1)))=hg*(bh gd/hg)+1048576*(hg*bh (eE.drop (D pre+1))):=by rw[iu,VZ]
       rw[I,px,nw,iv];simp only[bh,ua,xd];rw[Int.add_assoc,<-iu]
       congr 2
       rw[iu];omega
     have jW:(D pre)+(N+2)+1-D pre=N+3:=by omega
     have ue:IntKind.i64.wrap (((D pre+(N+2):Nat):Int)+1)=((D pre+(N+2)+1:Nat):Int):=by rw[fc _];rfl
     have PD:(D pre)<=D pre+(N+2)+1/\D pre+(N+2)+1<=D l2+1:=by omega
     have PE:(D pre)<bk:=uc;have PF:=λd=>yy eE (D pre) d (by omega);have PG:(D pre)+1<=(a7 ae eE).length:=by rw[qH];omega
     have B2:IntKind.i64.wrap ((D pre:Int)-1)=(D pre:Int)-1:=wrap64 _ (by omega) (by omega)
     refine dw [8,9,10,11,12,13] [157054,157075] (λ((q,r):Int×Int) tm mem=>0<=q/\0<=r/\q*v1+r=top/\bh gd<(q+1)*hg/\tm 15=.J (.int .i64 q)/\tm 16=.J (.int .i64 r)) (λ(q,_)=>q.toNat) (top/v1,top%v1)
      (by
       refine⟨mJ,VX _ (by omega),?_,asC,rfl,rfl⟩;have:=BV top v1;rw[nx (top/v1)];omega) ?_
     intro vs ms aT aS;simp only[go_sem,go_sem_proc,gh,fL,la,eN,jC,lb,cb,jl,gr,zZ,iV,od,Ha,Px,afP] at aT aS;subst aT aS;rintro⟨q,r⟩ tm mem' Q hm ⟨Ae,asK,Eb,ud,vJ,sK⟩;simp only[go_sem,go_sem_proc,gh,fL,la,eN,jC,lb,bf] at Q hm;obtain⟨hT,nb,og,mL,mM,xf⟩:=Q;obtain⟨yG,B9⟩:=hm;have aJ8:0<=q*v1:=yA Ae (by omega);have aJ9:q*524288<=q*v1:=z2 ki Ae;have aKa:0<=q*v0:=yA Ae pY.1;have aKb:q*v0<=q*1048576:=z2 (by omega) Ae;have yH:IntKind.i64.wrap (q*v0)=q*v0:=wrap64 _ (by omega) (by omega);have PH:IntKind.i64.wrap (q-1)=q-1:=wrap64 _ (by omega) (by omega);have PI:IntKind.i64.wrap (r+v1)=r+v1:=wrap64 _ (by omega) (by omega);have PJ:IntKind.i64.wrap (r*2^min (DO 20) 64)=r*1048576:=by rw[show min (DO 20) 64=20 by decide];exact wrap64 _ (by omega) (by omega)
     have PK:bits .or .i64 (r*1048576) t0=r*1048576+t0:=Uh r t0 asK (by omega) BW
     have OJ:(q>=1048576\/q*v0>r*1048576+t0)->∃bp:Int×Int,bp.1.toNat<q.toNat/\0<=bp.1/\0<=bp.2/\bp.1*v1+bp.2=top/\bh gd<(bp.1+1)*hg/\R.J (Data.int .i64 (q-1))=R.J (Data.int .i64 bp.1)/\R.J (Data.int .i64 (r+v1))=R.J (Data.int .i64 bp.2):=by
      intro H;have F:=ar7 vI cC gv Wc Pr Ae (by omega) V6 Eb H
      have Wk:0<q:=by
       rcases dF (0<q) with h|h
       ·exact h
       ·obtain rfl:q=0:=by omega
        have:=pq rI;omega
      exact⟨(q-1,r+v1),by dsimp only;omega,by dsimp only;omega,by dsimp only;omega,by dsimp only;rw[afA];omega,by dsimp only;rw[Int.sub_add_cancel];exact F,rfl,rfl⟩
     by_cases fH:q>=1048576
     ·simp only[go_sem,go_sem_proc,gh,fL,la,eN,jC,lb,hT,nb,og,mL,mM,xf,yG,B9,vJ,sK,fH,PH,PI,Ee,Li,decide_true,cI,aj];repeat' (first|refine ax ?_ ?_|fail)<;>intro h<;>simp only[h,go_sem,go_sem_proc,gh,fL,la,eN,jC,lb,hT,nb,og,mL,mM,xf,yG,B9,vJ,sK,fH,PH,PI,Ee,Li,decide_true,cI,aj]
      exact OJ (.inl fH)
     ·by_cases vb:r<1048576
      ·by_cases pZ:q*v0>r*1048576+t0
       ·simp only[go_sem,go_sem_proc,gh,fL,la,eN,jC,lb,hT,nb,og,mL,mM,xf,yG,B9,vJ,sK,fH,vb,pZ,yH,PH,PI,PJ,PK,oR,Ee,Py,Pz,ix,PA,pv,Li,PC,decide_true,decide_false,cI,aj,show ¬ ((20:Int)<0) by omega]
        repeat' (first|refine ax ?_ ?_|fail)<;>intro h<;>simp only[h,go_sem,go_sem_proc,gh,fL,la,eN,jC,lb,hT,nb,og,mL,mM,xf,yG,B9,vJ,sK,fH,vb,pZ,yH,PH,PI,PJ,PK,oR,Ee,Py,Pz,ix,PA,pv,Li,PC,decide_true,decide_false,cI,aj,show ¬ ((20:Int)<0) by omega]
        exact OJ (.inr pZ)
       ·have nv:=Wj mem' yG q Ae (by omega) ud (afz vI cC gv ⟨Wc,Wb⟩ afQ Ae (by omega) ki pY BW.1 Eb (.inr (by omega)));simp only[go_sem,go_sem_proc,gh,fL,la,eN,jC,lb,hT,nb,og,mL,mM,xf,yG,B9,vJ,sK,fH,vb,pZ,yH,PJ,PK,oR,ue,Ee,Py,Pz,ix,PA,pv,PC,jW,PD,nv,PE,PG,PF,B2,Ed,decide_true,decide_false,cI,aj,show ¬ ((20:Int)<0) by omega]
        repeat' (first|refine ax ?_ ?_|fail)<;>intro h<;>simp only[h,go_sem,go_sem_proc,gh,fL,la,eN,jC,lb,hT,nb,og,mL,mM,xf,yG,B9,vJ,sK,fH,vb,pZ,yH,PJ,PK,oR,ue,Ee,Py,Pz,ix,PA,pv,PC,jW,PD,nv,PE,PG,PF,B2,Ed,decide_true,decide_false,cI,aj,show ¬ ((20:Int)<0) by omega]
        exact iE
      ·have nv:=Wj mem' yG q Ae (by omega) ud (afz vI cC gv ⟨Wc,Wb⟩ afQ Ae (by omega) ki pY BW.1 Eb (.inl (by omega)));simp only[go_sem,go_sem_proc,gh,fL,la,eN,jC,lb,hT,nb,og,mL,mM,xf,yG,B9,vJ,sK,fH,vb,oR,ue,jW,PD,nv,PE,PG,PF,B2,Ed,decide_true,decide_false,cI,aj];repeat' (first|refine ax ?_ ?_|fail)<;>intro h<;>simp only[h,go_sem,go_sem_proc,gh,fL,la,eN,jC,lb,hT,nb,og,mL,mM,xf,yG,B9,vJ,sK,fH,vb,oR,ue,jW,PD,nv,PE,PG,PF,B2,Ed,decide_true,decide_false,cI,aj]
       exact iE
def ee:Nat:=1048576^60
def bT (z:Int):Raw:=(z.sign,aJ z.natAbs)
def iy (a:Raw):Int:=a.1*bh a.2
theorem fR (z:Int):iy (bT z)=z:=by
 unfold iy bT;rw[lY];exact Wl z
theorem Lj (d:Int):ob d=true↔0<=d/\d<1048576:=by
 unfold ob;simp;omega
theorem jX (a:Raw):dI a=true↔∃z:Int,z.natAbs<ee/\a=bT z:=by
 obtain⟨s,l⟩:=a;unfold dI ee;rw[eM,jh]
 constructor
 ·rintro⟨F,I⟩;have aa:eZ l:=λd aa=>(Lj d).1 (F d aa)
  split at I
  ·rename_i h;have ar:l=[]:=oM (by simpa using h);subst ar;have U:s=0:=by simpa using I
   subst U;exact⟨0,by simp,rfl⟩
  ·rename_i h;simp at I;obtain⟨⟨U,hlen⟩,Wm⟩:=I;have H:=canon aa (by simpa using Wm);have ak:=pq aa
   have aKc:bh l≠0:=by
    intro ao;rw[ao] at H;rw[H] at h;simp[sG] at h
   refine⟨s*bh l,?_,?_⟩
   ·have:(s*bh l).natAbs=(bh l).toNat:=by rw[qM];rcases U with rfl|rfl<;>simp<;>omega
    rw[this,<-g4,<-H];exact hlen
   ·unfold bT;have:(s*bh l).natAbs=(bh l).toNat:=by rw[qM];rcases U with rfl|rfl<;>simp<;>omega
    rw[this,<-H]
    congr 1
    rcases U with rfl|rfl
    ·rw[oe,jY (by omega)]
    ·rw[Int.neg_mul,oe,Ef,jY (by omega)]
 ·rintro⟨z,aV,h⟩
  cases h;refine⟨λd aa=>(Lj d).2 (m7 _ d aa),?_⟩
  by_cases ao:z=0
  ·subst ao;rfl
  ·have aK:aJ z.natAbs≠[]:=by rw[Ne,zQ];omega
   rw[ah (by simp;exact aK)];have ar:=g4.2 aV;have iU:=aeQ z.natAbs;simp only[eM,Bool.or_eq_true,beq_iff_eq,decide_eq_true_eq,bne_iff_ne,ne_eq];refine⟨⟨?_,ar⟩,iU⟩;rcases yD z 0 with h|h|h
   ·exact .inr (rJ h)
   ·exact absurd h ao
   ·exact .inl (jY h)
theorem ld {z:Int}(h:z.natAbs<ee):dI (bT z)=true:=(jX _).2 ⟨z,h,rfl⟩
def Hc (c:Raw):Raw×Int:=if decide ((c.2.length:Int)>60)=true then ((0,[]),6) else (c,0)
def sL (z:Int):Raw×Int:=if z.natAbs<ee then (bT z,0) else ((0,[]),6)
def fS (x:Raw×Int):Data:=.cM [.agg (dc x.1),.int .i64 x.2]
theorem asL (s:Int)(n:Nat):kn s (aJ n)=if n=0 then (0,[]) else (s,aJ n):=by
 unfold kn;rw[aeP]
 by_cases h:n=0
 ·subst h;rfl
 ·have:aJ n≠[]:=by rw[Ne,zQ];exact h
  rw[ah h,ah (by simp;exact this)]
theorem p0 {s:Int}{n:Nat}{z:Int}(h:z.natAbs=n)(U:n≠0->s=z.sign):kn s (aJ n)=bT z:=by
 rw[asL];subst h
 by_cases ao:z.natAbs=0
 ·obtain rfl:z=0:=by omega
  rfl
 ·rw[ah ao,U ao]
  rfl
theorem Ca (z:Int):Hc (bT z)=sL z:=by
 unfold Hc sL bT ee;have:=g4 (n:=z.natAbs) (k:=60)
 by_cases h:z.natAbs<1048576^60
 ·have:=this.2 h;rw[ah (by simp;omega),ad h]
 ·have:=mt this.1 h;rw[ad (by simp;omega),ah h]
abbrev Wn:Bool×Int×(List Int)->List Data:=λ(r,s,l)=>[.bool r,.agg [.int .i64 s,.Y (l.map ae)]]
def Lk:=cu Wn λ(r,s,l)=>some (.same (fS (if r=true then Hc (s,l) else ((0,[]),1))))
theorem asM:∀a b,Wn a=Wn b->a=b:=by
  rintro⟨eX,s1,eh⟩ ⟨eg,s2,aq⟩ h;simp only[bf,Data.bool.injEq,Data.agg.injEq,Data.int.injEq,Data.Y.injEq] at h;exact dR h.1 (dR h.2.1.1.2 (map_inj fh _ _ h.2.1.2.1))
@[go_sem] theorem Hd (r:Bool)(s:Int)(l:List Int):Lk [.bool r,.agg [.int .i64 s,.Y (l.map ae)]]=some (.same (fS (if r=true then Hc (s,l) else ((0,[]),1)))):=cD asM (r,s,l)
theorem asN (T:bl)  (r:Bool) (s:Int) (l:List Int):WP T Vd (.same (fS (if r=true then Hc (s,l) else ((0,[]),1)))) [.J (.bool r),.J (.agg [.int .i64 s,.Y (l.map ae)])]:=by
 refine cE ?_;simp only[Vd]
 cases r
 ·refine aZ ?_;repeat' (intro h<;>simp only[h,go_sem,go_sem_proc,aj]<;>try refine ax ?_ ?_)
  rfl
 ·refine aZ ?_;repeat' (intro h<;>simp only[h,go_sem,go_sem_proc,aj]<;>try refine ax ?_ ?_)
  all_goals (simp only[fS,dc,Hc];simp only[cY, *,reduceIte,c5,dH,vn,sA,lW,pW,zN,g3,hP,fu,kX,beq_self_eq_true,bne])
def jZ (a:Raw):Raw:=if dI a=true then bT (-iy a) else (0,[])
theorem afS (z:Int):kn (-z.sign) (aJ z.natAbs)=bT (-z):=p0 (by omega) λ_=>by rw[Ef]
def PL:=cu BT λ(s,l)=>cU (D l<=1000000) (.same (.agg (dc (jZ (s,l)))))
@[go_sem] theorem aKd (s:Int)(l:List Int)(H:(D l)<=1000000):PL [.agg [.int .i64 s,.Y (l.map ae)]]=some (.same (.agg (dc (jZ (s,l))))):=(cD GN (s,l)).trans (cZ H _)
theorem asO (T:bl)(dM:T k7=aW w5)(fL:T vt=aW BS)(fA:T pr=aW BU)(s:Int)(l:List Int)(H:(D l)<=1000000):WP T Va (.same (.agg (dc (jZ (s,l))))) [.J (.agg [.int .i64 s,.Y (l.map ae)])]:=by
 refine cE ?_;simp only[Va]
 by_cases ab:dI (s,l)=true
 ·obtain⟨z,aV,e⟩:=(jX _).1 ab;have az:jZ (s,l)=bT (-z):=by unfold jZ;rw[ad ab,e,fR]
  cases e
  have hw:IntKind.i64.wrap (0-z.sign) = -z.sign:=by
   have:=afT z;rw[fc _];omega
  rw[az];refine aZ ?_;repeat' (intro h<;>simp only[h,go_sem,go_sem_proc,dM,fL,fA,ab,H,hw,afS,dc]<;>try refine ax ?_ ?_)
 ·have ab:dI (s,l)=false:=by simpa using ab
  have az:jZ (s,l)=(0,[]):=by unfold jZ;rw[ab];rfl
  rw[az];refine aZ ?_;repeat' (intro h<;>simp only[h,go_sem,go_sem_proc,dM,fL,fA,ab,H,dc,cY]<;>try refine ax ?_ ?_)
theorem nC (a:Raw):(a.1,a.2)=a:=rfl
def mulR (a b:Raw):Raw×Int:=if (dI a&&dI b)=true then sL (iy a*iy b) else ((0,[]),1)
theorem Cb {x y:Int}(O:x.natAbs<ee)(aw:y.natAbs<ee):mulR (bT x) (bT y)=sL (x*y):=by
 unfold mulR;rw[ld O,ld aw,fR,fR]
 rfl
theorem rK {z:Int}(h:z.natAbs<ee):(aJ z.natAbs).length<=60:=g4.2 h
theorem rL (z:Int):-1<=z.sign/\z.sign<=1:=by
 have:=afT z;omega
abbrev xg:Int×(List Int)×Int×(List Int)->List Data:=λ(s,l,s2,aq)=>[.agg [.int .i64 s,.Y (l.map ae)],.agg [.int .i64 s2,.Y (aq.map ae)]]
def He:=cu xg λ(s,l,s2,aq)=>cU (D l<=1000000/\D aq<=1000000) (.same (fS (mulR (s,l) (s2,aq))))
theorem Af:∀a b,xg a=xg b->a=b:=by
  rintro⟨s1,eh,Cc,Cd⟩ ⟨s2,aq,Ce,Cf⟩ h;simp only[bf,Data.agg.injEq,Data.int.injEq,Data.Y.injEq] at h;exact dR h.1.1.2 (dR (map_inj fh _ _ h.1.2.1) (dR h.2.1.1.2 (map_inj fh _ _ h.2.1.2.1)))
@[go_sem] theorem aKe (s:Int)(l:List Int)(s2:Int)(aq:List Int)(H:(D l)<=1000000/\D aq<=1000000):He [.agg [.int .i64 s,.Y (l.map ae)],.agg [.int .i64 s2,.Y (aq.map ae)]]=some (.same (fS (mulR (s,l) (s2,aq)))):=(cD Af (s,l,s2,aq)).trans (cZ H _)
theorem asP (T:bl)(dM:T k7=aW w5)(jC:T Gz=aW Pm)(fA:T pr=aW BU)(nc:T vr=aW Lk)(s:Int)(l:List Int)(s2:Int)(aq:List Int)(H:(D l)<=1000000/\D aq<=1000000):WP T U8 (.same (fS (mulR (s,l) (s2,aq)))) [.J (.agg [.int .i64 s,.Y (l.map ae)]),.J (.agg [.int .i64 s2,.Y (aq.map ae)])]:=by
 refine cE ?_;simp only[U8];obtain⟨cr,cf⟩:=H
 by_cases ab:dI (s,l)=true
 ·by_cases bH:dI (s2,aq)=true
  ·obtain⟨x,O,e⟩:=(jX _).1 ab;obtain⟨y,aw,aD⟩:=(jX _).1 bH;have hm:mulR (s,l) (s2,aq)=sL (x*y):=by rw[e,aD];exact Cb O aw
   rw[hm];clear hm
   cases e
   cases aD;have F:=rL x;have I:=rL y;have aG:x.sign*y.sign=(x*y).sign:=(Int.sign_mul x y).symm;have af:=rL (x*y);have hw:IntKind.i64.wrap (x.sign*y.sign)=(x*y).sign:=by rw[aG];exact wrap64 _ (by omega) (by omega)
   have hmul:=VQ x.natAbs y.natAbs ⟨eU (rK O) (by omega),eU (rK aw) (by omega)⟩;simp only[b4] at hmul
   have hlen:(aJ (x.natAbs*y.natAbs)).length<=1000000:=by
    refine eU ((g4 (k:=120)).2 ?_) (by omega);have:(1048576^120:Nat)=ee*ee:=by unfold ee;rw[<-Nat.pow_add]
    rw[this];exact Nat.mul_lt_mul'' O aw
   have U:kn (x*y).sign (aJ (x.natAbs*y.natAbs))=bT (x*y):=p0 (qM x y) λ_=>rfl;refine aZ ?_;repeat' (intro h<;>simp only[h,go_sem,go_sem_proc,dM,jC,fA,nc,ab,bH,cr,cf,hw,hmul,hlen,U,Ca,dc,fS,nC]<;>try refine ax ?_ ?_)
  ·have bH:dI (s2,aq)=false:=by simpa using bH
   have hm:mulR (s,l) (s2,aq)=((0,[]),1):=by unfold mulR;rw[bH,hP];rfl
   rw[hm];have oX:=Hd false 0 [];simp only[cY] at oX;refine aZ ?_;repeat' (intro h<;>simp only[h,go_sem,go_sem_proc,dM,jC,fA,nc,ab,bH,cr,cf,oX,dc,fS,cY]<;>try refine ax ?_ ?_)
 ·have ab:dI (s,l)=false:=by simpa using ab
  have hm:mulR (s,l) (s2,aq)=((0,[]),1):=by unfold mulR;rw[ab,fu];rfl
  rw[hm];have oX:=Hd false 0 [];simp only[cY] at oX;refine aZ ?_;repeat' (intro h<;>simp only[h,go_sem,go_sem_proc,dM,jC,fA,nc,ab,cr,cf,oX,dc,fS,cY]<;>try refine ax ?_ ?_)
def sM (a b:Raw):Raw×Int:=if (dI a&&dI b)=true then sL (iy a+iy b) else ((0,[]),1)
theorem afU {x y:Int}(O:x.natAbs<ee)(aw:y.natAbs<ee):sM (bT x) (bT y)=sL (x+y):=by
 unfold sM;rw[ld O,ld aw,fR,fR]
 rfl
theorem PM (a b:Nat):(aJ (a-b)).length<=(aJ a).length:=by
 rw[g4];exact vD (Nat.sub_le a b) (g4.1 (b1 _))
def Wo:=cu xg λ(s,l,s2,aq)=>cU (D l<=1000000/\D aq<=1000000) (.same (fS (sM (s,l) (s2,aq))))
@[go_sem] theorem aKf (s:Int)(l:List Int)(s2:Int)(aq:List Int)(H:(D l)<=1000000/\D aq<=1000000):Wo [.agg [.int .i64 s,.Y (l.map ae)],.agg [.int .i64 s2,.Y (aq.map ae)]]=some (.same (fS (sM (s,l) (s2,aq)))):=(cD Af (s,l,s2,aq)).trans (cZ H _)
theorem asQ (T:bl)(dM:T k7=aW w5)(yI:T UA=aW VG)(mN:T KK=aW Pk)(mO:T GA=aW Pl)(gh:T DS=aW K8)(fA:T pr=aW BU)(nc:T vr=aW Lk)(s:Int)(l:List Int)(s2:Int)(aq:List Int)(H:(D l)<=1000000/\D aq<=1000000):WP T Vh (.same (fS (sM (s,l) (s2,aq)))) [.J (.agg [.int .i64 s,.Y (l.map ae)]),.J (.agg [.int .i64 s2,.Y (aq.map ae)])]:=by
 refine cE ?_;simp only[Vh];obtain⟨cr,cf⟩:=H
 by_cases ab:dI (s,l)=true
 ·by_cases bH:dI (s2,aq)=true
  ·obtain⟨x,O,e⟩:=(jX _).1 ab;obtain⟨y,aw,aD⟩:=(jX _).1 bH;have hm:sM (s,l) (s2,aq)=sL (x+y):=by rw[e,aD];exact afU O aw
   rw[hm];clear hm
   cases e
   cases aD;have F:=rL x;have I:=rL y;have oh:=rK O;have k9:=rK aw;have aKg:=Wl x;have aKh:=Wl y
   have Cg:(x.sign=1/\0<x)\/(x.sign=0/\x=0)\/(x.sign = -1/\x<0):=by
    rcases yD x 0 with h|h|h
    ·exact .inr (.inr ⟨rJ h,h⟩)
    ·exact .inr (.inl ⟨by rw[h];rfl,h⟩)
    ·exact .inl ⟨jY h,h⟩
   have ty:(y.sign=1/\0<y)\/(y.sign=0/\y=0)\/(y.sign = -1/\y<0):=by
    rcases yD y 0 with h|h|h
    ·exact .inr (.inr ⟨rJ h,h⟩)
    ·exact .inr (.inl ⟨by rw[h];rfl,h⟩)
    ·exact .inl ⟨jY h,h⟩
   have iI:=ae9 x.natAbs y.natAbs ⟨by omega,by omega⟩
   simp only[b4] at iI
   have hlen:(aJ (x.natAbs+y.natAbs)).length<=1000000:=by
    refine eU ((g4 (k:=61)).2 ?_) (by omega);have:(1048576^61:Nat)=ee*1048576:=by unfold ee;rw[<-wW]
    omega
   have xb:=arE [x.sign,y.sign] (by simp);simp only[eA,cY,ae] at xb;have gV:=VI x.natAbs y.natAbs ⟨by omega,by omega⟩
   simp only[b4] at gV
   by_cases aG:x.sign*y.sign>=0
   ·have hw:IntKind.i64.wrap (x.sign*y.sign)=x.sign*y.sign:=by
     rcases Cg with ⟨e,_⟩|⟨e,_⟩|⟨e,_⟩<;>rw[e]<;>exact wrap64 _ (by omega) (by omega)
    have U:kn (zY [x.sign,y.sign]) (aJ (x.natAbs+y.natAbs))=bT (x+y):=by
     refine p0 ?_ ?_
     ·rcases Cg with ⟨e,_⟩|⟨e,_⟩|⟨e,_⟩<;>rcases ty with ⟨e',_⟩|⟨e',_⟩|⟨e',_⟩<;>rw[e,e'] at aG<;>omega
     ·intro aK;rcases Cg with ⟨e,_⟩|⟨e,_⟩|⟨e,_⟩<;>rcases ty with ⟨e',_⟩|⟨e',_⟩|⟨e',_⟩<;>rw[e,e'] at aG ⊢
      ·exact (jY (by omega)).symm
      ·exact (jY (by omega)).symm
      ·omega
      ·exact (jY (by omega)).symm
      ·omega
      ·exact (rJ (by omega)).symm
      ·omega
      ·exact (rJ (by omega)).symm
      ·exact (rJ (by omega)).symm
    simp only[go_sem,go_sem_proc,dM,yI,mN,mO,gh,fA,nc,ab,bH,cr,cf,hw,aG,decide_true,xb,iI,hlen,U,Ca,dc,fS,nC];repeat' (first|refine ax ?_ ?_|fail)<;>intro h<;>simp only[h,go_sem,go_sem_proc,dM,yI,mN,mO,gh,fA,nc,ab,bH,cr,cf,hw,aG,decide_true,xb,iI,hlen,U,Ca,dc,fS,nC]
   ·have hw:IntKind.i64.wrap (x.sign*y.sign)=x.sign*y.sign:=by
     rcases Cg with ⟨e,_⟩|⟨e,_⟩|⟨e,_⟩<;>rw[e]<;>exact wrap64 _ (by omega) (by omega)
    by_cases aA:x.natAbs<y.natAbs
    ·have xh:decide (hI x.natAbs y.natAbs<0)=true:=by unfold hI;rw[ad (by simp;omega)];rfl
     have jW:=VO y.natAbs x.natAbs ⟨by omega,by omega⟩
     simp only[b4] at jW;have Ll:(aJ (y.natAbs-x.natAbs)).length<=1000000:=eU (PM _ _) (by omega)
     have U:kn y.sign (aJ (y.natAbs-x.natAbs))=bT (x+y):=by
      refine p0 ?_ ?_
      ·rcases Cg with ⟨e,_⟩|⟨e,_⟩|⟨e,_⟩<;>rcases ty with ⟨e',_⟩|⟨e',_⟩|⟨e',_⟩<;>rw[e,e'] at aG<;>omega
      ·intro aK;rcases Cg with ⟨e,_⟩|⟨e,_⟩|⟨e,_⟩<;>rcases ty with ⟨e',_⟩|⟨e',_⟩|⟨e',_⟩<;>rw[e,e'] at aG<;>rw[e']<;>first|omega|exact (jY (by omega)).symm|exact (rJ (by omega)).symm
     simp only[go_sem,go_sem_proc,dM,yI,mN,mO,gh,fA,nc,ab,bH,cr,cf,hw,aG,decide_false,gV,xh,jW,Ll,U,Ca,dc,fS,nC];repeat' (first|refine ax ?_ ?_|fail)<;>intro h<;>simp only[h,go_sem,go_sem_proc,dM,yI,mN,mO,gh,fA,nc,ab,bH,cr,cf,hw,aG,decide_false,gV,xh,jW,Ll,U,Ca,dc,fS,nC]
    ·have xh:decide (hI x.natAbs y.natAbs<0)=false:=by unfold hI;rw[ah (by simp;omega)];split<;>rfl
     have jW:=VO x.natAbs y.natAbs ⟨by omega,by omega⟩
     simp only[b4] at jW;have Ll:(aJ (x.natAbs-y.natAbs)).length<=1000000:=eU (PM _ _) (by omega)
     have U:kn x.sign (aJ (x.natAbs-y.natAbs))=bT (x+y):=by
      refine p0 ?_ ?_
      ·rcases Cg with ⟨e,_⟩|⟨e,_⟩|⟨e,_⟩<;>rcases ty with ⟨e',_⟩|⟨e',_⟩|⟨e',_⟩<;>rw[e,e'] at aG<;>omega
      ·intro aK;rcases Cg with ⟨e,_⟩|⟨e,_⟩|⟨e,_⟩<;>rcases ty with ⟨e',_⟩|⟨e',_⟩|⟨e',_⟩<;>rw[e,e'] at aG<;>rw[e]<;>first|omega|exact (jY (by omega)).symm|exact (rJ (by omega)).symm
     simp only[go_sem,go_sem_proc,dM,yI,mN,mO,gh,fA,nc,ab,bH,cr,cf,hw,aG,decide_false,gV,xh,jW,Ll,U,Ca,dc,fS,nC];repeat' (first|refine ax ?_ ?_|fail)<;>intro h<;>simp only[h,go_sem,go_sem_proc,dM,yI,mN,mO,gh,fA,nc,ab,bH,cr,cf,hw,aG,decide_false,gV,xh,jW,Ll,U,Ca,dc,fS,nC]
  ·have bH:dI (s2,aq)=false:=by simpa using bH
   have hm:sM (s,l) (s2,aq)=((0,[]),1):=by unfold sM;rw[bH,hP];rfl
   rw[hm];have oX:=Hd false 0 [];simp only[cY] at oX;simp only[go_sem,go_sem_proc,dM,yI,mN,mO,gh,fA,nc,ab,bH,cr,cf,oX,dc,fS,cY];repeat' (first|refine ax ?_ ?_|fail)<;>intro h<;>simp only[h,go_sem,go_sem_proc,dM,yI,mN,mO,gh,fA,nc,ab,bH,cr,cf,oX,dc,fS,cY]
 ·have ab:dI (s,l)=false:=by simpa using ab
  have hm:sM (s,l) (s2,aq)=((0,[]),1):=by unfold sM;rw[ab,fu];rfl
  rw[hm];have oX:=Hd false 0 [];simp only[cY] at oX;simp only[go_sem,go_sem_proc,dM,yI,mN,mO,gh,fA,nc,ab,cr,cf,oX,dc,fS,cY];repeat' (first|refine ax ?_ ?_|fail)<;>intro h<;>simp only[h,go_sem,go_sem_proc,dM,yI,mN,mO,gh,fA,nc,ab,cr,cf,oX,dc,fS,cY]
end Go.Mini
