/- A part of the proof. -/
import Derived.LoopN
import Derived.Laws.BitsLemmas
import Derived.ChangeSame
import Derived.Handed
import Derived.JoinedOf
import Derived.JoinedCond
import Derived.OpenShut
import Derived.ProofKit
import Derived.Test.YtgpioapepokkbaaGreatM01
set_option linter.unusedSimpArgs false
set_option linter.unusedVariables false
set_option maxRecDepth 100000
set_option maxHeartbeats 4000000
noncomputable section
open Bool renaming and_eq_true->eW,and_false->iT,and_true->zO,false_and->fx,false_eq_true->kR,false_or->po,not_false->dD,not_true->cP,or_false->l1,or_true->vm,true_and->gQ,true_or->sy
open Classical renaming choose->tN,choose_spec->pn
open Decidable renaming em->dn
open Int renaming add_comm->yB,add_mul->ub,add_mul_ediv_left->afA,add_mul_emod_self_left->afC,add_zero->w5,bmod_def->ae4,cast_ofNat_Int->l4,ediv_eq_zero_of_lt->V1,ediv_lt_of_lt_mul->afD,ediv_nonneg->V4,emod_add_mul_ediv->BT,emod_emod_of_dvd->ae5,emod_eq_of_lt->V3,emod_lt_of_pos->V6,emod_nonneg->V5,lt_trichotomy->yD,mul_add->iw,mul_assoc->ix,mul_comm->nv,mul_le_mul->VW,mul_le_mul_of_nonneg_left->z5,mul_le_mul_of_nonneg_right->m9,mul_left_comm->V7,mul_nonneg->yA,mul_one->vA,mul_right_comm->B3,mul_sub->GQ,mul_zero->ud,natAbs_mul->qL,natCast_ediv->afz,natCast_emod->afB,natCast_mul->afW,natCast_pow->Ej,natCast_zero->ly,one_mul->n8,pow_add->afx,pow_pos->G0,pow_succ->nu,sign_eq_neg_one_of_neg->rO,sign_eq_one_of_pos->jW,sign_mul_natAbs->Ws,sign_neg->Eo,sign_trichotomy->af7,sub_mul->afO,sub_zero->KZ,tdiv_eq_ediv_of_nonneg->GU,tmod_eq_emod_of_nonneg->K0,toNat->DV,toNat_natCast->lz,zero_add->Eh
open List renaming all_cons->Gr,all_eq_true->lU,append_assoc->gb,append_inj->GL,append_nil->fv,concat_eq_append->zV,cons_append->jR,drop->fT,drop_append->oQ,drop_drop->Gl,drop_eq_getElem_cons->ir,drop_eq_nil_of_le->jJ,drop_left->T8,drop_length->Ub,drop_set_of_lt->tG,drop_zero->l0,eq_nil_of_length_eq_zero->tC,eq_nil_or_concat->zU,flatMap_cons->qF,flatten_cons->jD,getElem?_append->F6,getElem?_drop->lo,getElem?_eq_getElem->bs,getElem?_eq_some_iff->dU,getElem?_map->bj,getElem?_take_of_lt->pV,getElem_set_self->z6,length->D,length_append->fG,length_cons->h4,length_drop->rG,length_eq_one_iff->aeA,length_map->ak,length_nil->kZ,length_range->pW,length_set->iQ,length_take->gF,mapM_cons->ll,mapM_nil->Gq,map_cons->ev,map_nil->cZ,mem_append->jj,mem_attach->aeF,mem_cons->hK,mem_flatMap->yk,mem_iff_getElem?->tQ,mem_map->dR,mem_of_getElem?->ee,mem_of_mem_drop->K6,mem_of_mem_take->Gb,mem_range->gR,mem_replicate->GR,mem_singleton->ue,nil_append->jk,range->dF,replicate->dH,replicate_succ->qw,take->fJ,take_add_one->g4,take_append_drop->tO,take_left->T7,take_of_length_le->dr,take_succ_cons->wO,take_zero->ns
open List.cons renaming inj->w0,injEq->a3
open Nat renaming add_assoc->qu,add_mul->qm,add_sub_cancel_left->Gv,add_zero->nZ,and_two_pow_sub_one_eq_mod->ae6,div_eq_of_lt->Ua,div_lt_iff_lt_mul->ae3,eq_zero_or_pos->kW,le_refl->b0,le_trans->eQ,lt_of_le_of_lt->vD,lt_or_ge->iq,min_eq_left->oO,mod_eq_of_lt->Kr,mul_comm->rH,mul_le_mul_left->afY,mul_one->cI,pow_le_pow_right->w6,pow_succ->wQ,strongRecOn->T0,zero_add->kv,zero_le->ft,zero_mul->DQ
open Option renaming bind_eq_bind->ho,bind_eq_some_iff->ek,bind_some->ky,map_eq_some_iff->ea,map_some->mw,pure_def->hg
open Option.some renaming inj->n0,injEq->cl
open Prod renaming ext->dS,ext_iff->yx
open Prod.mk renaming injEq->e6
namespace Go.Mini
open Go
variable {P:Program} {T:bb} {A:Nat->Prop} {et w:World} {hp B:e4} {mem:Mem} {n kb:Nat} {own:List Nat} {aM:Exit->Act->World->Prop}
theorem aeu {k:Key}{aZ ml:Nat->Prop}{bu:e4}{v:Value}{sz:Nat}{e:mm}(he:B k=some e)(aq:bt w aZ bu .nil v):bt w ml B (.ref k e.g sz 0 0) v:=by
 cases aq;exact .ref he (b0 _) ⟨_,0,rfl,b0 _,ft _,.inl rfl⟩
theorem DL {k:Key}{g i:Nat}{cs:List R}{m m':R}{w1:World}(b1:fs A w B mem)(O:mem k=some (g,cs))(M:cs[i]?=some m)
  (aq:∀e b v,B k=some e->e.dA=some b->w.cell? ⟨b,i,none⟩=some v->bt w (cd A B) B m' v):∃bu,eF A w B w bu (a2 mem k g (cs.set i m')):=by
 obtain⟨e,he,b4,aK,ag⟩:=b1.at_ O
 have ok:=eF.change (k:=k) (e':=e) (cs:=cs.set i m') b1 (Fr.refl _ w) (λaC fr => .inl (by rw[he] at fr;cases fr;rfl)) (λb eR => .inr ⟨e,he,eR⟩) (λh=>by
  have:=aK h;subst this
  rfl) (λb eR=>by
  obtain⟨vs,T,aT,aW,hle,bW⟩:=ag b eR;refine⟨vs,T,aT,aW,by simpa using hle,λj x Q=>?_⟩
  by_cases mB:i=j
  ·subst mB;have az:i<D cs:=(dU.1 M).1;rw[List.getElem?_set_self az] at Q
   cases Q;have oM:i<vs.size:=by omega
   exact⟨vs[i],Array.getElem?_eq_getElem oM,aq e b _ he eR (by rw[cell_of_row w b i vs T (0,0) aT];exact Array.getElem?_eq_getElem oM)⟩
  ·rw[List.getElem?_set_ne mB] at Q;obtain⟨v,Kj,ab⟩:=bW.get Q;refine⟨v,?_,ab⟩;have az:j<D cs:=(dU.1 Q).1;rw[pV az,Array.getElem?_toList] at Kj;exact Kj)
 rw[b4] at ok;exact⟨_,ok⟩
theorem eF.move {k k':Key}{g:Nat}{cs:List R}{e:mm}(h:fs A w B mem)(O:mem k=some (g,cs))(he:B k=some e)(bG:k'≠k):
  eF A w B w (gE (gE B k ⟨bZ mem k,none,0⟩) k' ⟨bZ mem k',e.dA,e.size⟩) (a2 (a2 mem k (bZ mem k) []) k' (bZ mem k') cs):=by
 have my:∀b,sg (gE (gE B k ⟨bZ mem k,none,0⟩) k' ⟨bZ mem k',e.dA,e.size⟩) b->sg B b:=by
  rintro b ⟨j,aC,aj,ag⟩
  by_cases G:j=k'
  ·subst G;rw[hn] at aj
   cases aj;exact⟨k,e,he,ag⟩
  ·rw[hf _ _ G] at aj
   by_cases I:j=k
   ·subst I;rw[hn] at aj
    cases aj
    cases ag
   ·rw[hf _ _ I] at aj;exact⟨j,aC,aj,ag⟩
 have mZ:Trans A w B w (gE (gE B k ⟨bZ mem k,none,0⟩) k' ⟨bZ mem k',e.dA,e.size⟩):=by
  refine⟨b0 _,λb _ ag=>⟨rfl,λbO=>ag (.inl (my b bO))⟩,λj aC aj=>?_⟩
  by_cases G:j=k'
  ·subst G;exact⟨_,hn _ _ _,.inr (Dp h j aC aj)⟩
  ·rw[hf _ _ G]
   by_cases I:j=k
   ·subst I;exact⟨_,hn _ _ _,.inr (Dp h j aC aj)⟩
   ·rw[hf _ _ I];exact⟨aC,aj,.inl rfl⟩
 refine⟨⟨λj aj=>?_,λj lS ay aC b G I kY eR=>?_,λb aN bO=>h.sep b aN (my b bO),h.lt,λj cf nr aj=>?_⟩,mZ,Fr.refl _ _,λb ag => .inl (my b ag)⟩
 ·simp only[a2] at aj
  by_cases G:j=k'
  ·simp[G] at aj
  ·by_cases I:j=k
   ·rw[ah G,ad I] at aj
    cases aj
   ·simp only[G,I,if_false] at aj;rw[hf _ _ G,hf _ _ I];exact h.Bh j aj
 ·have main:∀(j:Key) (ay:mm),gE (gE B k ⟨bZ mem k,none,0⟩) k' ⟨bZ mem k',e.dA,e.size⟩ j=some ay->ay.dA=some b->(j=k'/\e.dA=some b)\/(j≠k'/\j≠k/\B j=some ay):=by
   intro j ay aj ag
   by_cases G:j=k'
   ·subst G;rw[hn] at aj
    cases aj;exact .inl ⟨rfl,ag⟩
   ·rw[hf _ _ G] at aj
    by_cases I:j=k
    ·subst I;rw[hn] at aj
     cases aj
     cases ag
    ·rw[hf _ _ I] at aj;exact .inr ⟨G,I,aj⟩
  rcases main j ay G kY with ⟨e7,ia⟩|⟨e7,s1,ia⟩<;>rcases main lS aC I eR with ⟨en,iF⟩|⟨en,s2,iF⟩
  ·rw[e7,en]
  ·exact absurd (h.inj k lS e aC b he iF ia eR).symm s2
  ·exact absurd (h.inj k j e ay b he ia iF kY).symm s1
  ·exact h.inj j lS ay aC b ia iF kY eR
 ·simp only[a2] at aj
  by_cases G:j=k'
  ·subst G;simp only[if_true,cl,e6] at aj;obtain⟨rfl,rfl⟩:=aj;obtain⟨bl,Kk,ba,aK,ag⟩:=h.dA k g cs O;rw[he] at Kk
   cases Kk;refine⟨_,hn _ _ _,rfl,aK,λb jI=>?_⟩;obtain⟨vs,T,af,aS,bm,bV⟩:=ag b jI;exact⟨vs,T,af,aS,bm,λi m M=>let ⟨v,aq,ab⟩:=bV i m M;⟨v,aq,ab.rj mZ⟩⟩
  ·simp only[G,if_false] at aj;rw[hf _ _ G]
   by_cases I:j=k
   ·subst I;simp only[if_true,cl,e6] at aj;obtain⟨rfl,rfl⟩:=aj;exact⟨_,hn _ _ _,rfl,λ_=>rfl,λb ag=>by cases ag⟩
   ·simp only[I,if_false] at aj;rw[hf _ _ I];obtain⟨bl,Kk,ba,aK,ag⟩:=h.dA j cf nr aj;refine⟨bl,Kk,ba,aK,λb jI=>?_⟩;obtain⟨vs,T,af,aS,bm,bV⟩:=ag b jI;exact⟨vs,T,af,aS,bm,λi m M=>let ⟨v,aq,ab⟩:=bV i m M;⟨v,aq,ab.rj mZ⟩⟩
theorem hJ.ghost {a:Act}{st:a8}{bu:e4}{mem':Mem}{tm':Nat->R}(h:hJ n A et hp a st w B)(X:eF A w B w bu mem')(bz:∀s,tm' s=st.tm s\/bt w (cd A bu) bu (tm' s) (a.eval (.tmp s))):
  hJ n A et hp a ⟨tm',mem'⟩ w bu:=by
 refine⟨h.ok.trans X,λs=>?_,h.sz,h.J8⟩;rcases bz s with G|G
 ·simp only[G];exact (h.tm s).rj X.mZ
 ·exact G
theorem aqE {K:a8->Prop}{a:Act}{st:a8}{g:NJ}(h:hJ n A et hp a st w B)(O:lk K st g):∃dT bu,K dT/\hJ n A et hp a dT w bu:=by
 have ry:∀x:bU,∃v,bt w (cd A B) B (a7 st.tm x) v\/∃m,x=.c m:=λx=>by
  cases x with
  |t s=>exact⟨_,.inl (h.tm s)⟩
  |c m=>exact⟨undef,.inr ⟨m,rfl⟩⟩
 cases g with
 |nj s k sz =>
  simp only[lk] at O
  split at O
  ·rename_i X;have ok:=eF.yb h.ok.dW k;refine⟨_,_,O,h.ghost ok λt=>?_⟩
   by_cases tJ:t=s
   ·subst tJ;have:=h.tm t;rw[X] at this;simp only[e5,if_true];exact .inr (aeu (e:=⟨bZ st.mem k,none,0⟩) (hn _ _ _) this)
   ·exact .inl (by simp[e5,tJ])
  ·cases O
 |freeze s =>
  simp only[lk] at O
  split at O
  ·rename_i k g sz off len X
   split at O
   ·rename_i c7 cs gr
    split at O
    ·rename_i ba;obtain⟨rfl,_⟩:=ba
     split at O
     ·rename_i d aa;have ok:=eF.yb h.ok.dW k;refine⟨_,_,O,h.ghost ok λt=>?_⟩
      by_cases tJ:t=s
      ·subst tJ;have aq:=h.tm t;rw[X] at aq aa;simp only[e5,if_true];exact .inr (.J (Kf h.ok.dW gr aa aq))
      ·exact .inl (by simp[e5,tJ])
     ·cases O
    ·cases O
   ·cases O
  ·cases O
 |NK x i k sz =>
  simp only[lk] at O
  split at O
  ·rename_i kc g off Q
   split at O
   ·rename_i c7 cs gr
    split at O
    ·rename_i ba;subst ba
     split at O
     ·rename_i H
      split at O
      ·rename_i bG;have ok:=eF.yb h.ok.dW k;have tK:a2 st.mem k (bZ st.mem k) [] kc=some (c7,cs):=by simp[a2,Ne.symm bG,gr]
       obtain⟨e,he,b4,aK,ag⟩:=h.ok.dW.at_ gr
       obtain⟨bu,rD⟩:=DL (w1:=w) (m':=.ref k (bZ st.mem k) sz 0 0) ok.dW tK H (λaC b v fr eR aq=>by
        rw[hf B _ (Ne.symm bG)] at fr;rw[he] at fr
        cases fr;obtain⟨vs,T,aT,aW,hle,bW⟩:=ag b eR;have az:off+i<D cs:=(dU.1 H).1;rw[cell_of_row w b (off+i) vs T (0,0) aT] at aq;have ab:=bW.2 (off+i) _ v H (by rw[pV az,Array.getElem?_toList];exact aq);exact aeu (e:=⟨bZ st.mem k,none,0⟩) (hn _ _ _) ab)
       exact⟨_,bu,O,h.ghost (ok.trans rD) λt => .inl rfl⟩
      ·cases O
     ·cases O
    ·cases O
   ·cases O
  ·cases O
 |NL x i =>
  simp only[lk] at O
  split at O
  ·rename_i kc gc off Q
   split at O
   ·rename_i JR cc aev
    split at O
    ·rename_i ba;subst ba
     split at O
     ·rename_i k g sz o len H
      split at O
      ·rename_i c7 cs gr
       split at O
       ·rename_i ba;obtain⟨rfl,_,bG⟩:=ba
        split at O
        ·rename_i d aa;have ok:=eF.yb h.ok.dW k;have tK:a2 st.mem k (bZ st.mem k) [] kc=some (JR,cc):=by simp[a2,Ne.symm bG,aev]
         obtain⟨e,he,b4,aK,ag⟩:=h.ok.dW.at_ aev
         obtain⟨bu,rD⟩:=DL (w1:=w) (m':=.J d) ok.dW tK H (λaC b v fr eR aq=>by
          rw[hf B _ (Ne.symm bG)] at fr;rw[he] at fr
          cases fr;obtain⟨vs,T,aT,aW,hle,bW⟩:=ag b eR;have az:off+i<D cc:=(dU.1 H).1;rw[cell_of_row w b (off+i) vs T (0,0) aT] at aq;have ab:=bW.2 (off+i) _ v H (by rw[pV az,Array.getElem?_toList];exact aq);exact .J (Kf h.ok.dW gr aa ab))
         exact⟨_,bu,O,h.ghost (ok.trans rD) λt => .inl rfl⟩
        ·cases O
       ·cases O
      ·cases O
     ·cases O
    ·cases O
   ·cases O
  ·cases O
 |move =>
  rcases O with O|⟨fM,g8,gO,i,k,g,sz,off,len,cs,k',h6,H,yp,G,I,af,O⟩|⟨fM,g8,gO,i,k,g,sz,off,len,cs,d,h6,H,gr,-,bG,aa,O⟩
  ·exact⟨st,B,O,h⟩
  ·obtain⟨e,he,b4,aK,ag⟩:=h.ok.dW.at_ yp;have ok:=eF.move h.ok.dW yp he I;have tK:a2 (a2 st.mem k (bZ st.mem k) []) k' (bZ st.mem k') cs fM=some (g8,gO):=by simp[a2,Ne.symm G,Ne.symm af,h6]
   obtain⟨ex,hex,aew,hR,Kl⟩:=h.ok.dW.at_ h6
   obtain⟨bu,rD⟩:=DL (w1:=w) (m':=.ref k' (bZ st.mem k') sz off len) ok.dW tK H (λaC b v fr eR aq=>by
    rw[hf _ _ (Ne.symm af),hf _ _ (Ne.symm G)] at fr;rw[hex] at fr
    cases fr;obtain⟨vs,T,aT,aW,hle,bW⟩:=Kl b eR;have az:i<D gO:=(dU.1 H).1;rw[cell_of_row w b i vs T (0,0) aT] at aq;have ab:=bW.2 i _ v H (by rw[pV az,Array.getElem?_toList];exact aq)
    cases ab with
    |ref fr hgle ab =>
     rw[he] at fr
     cases fr;obtain⟨a,cap,rfl,aS,bm,bV⟩:=ab;refine .ref (hn _ _ _) (b0 _) ⟨a,cap,rfl,aS,bm,bV.imp id ?_⟩;rintro⟨fl,rfl,bQ⟩;exact⟨fl,rfl,λ_=>bQ b4.symm⟩)
   exact⟨_,bu,O,h.ghost (ok.trans rD) λt => .inl rfl⟩
  ·have ok:=eF.yb h.ok.dW k;have tK:a2 st.mem k (bZ st.mem k) [] fM=some (g8,gO):=by simp[a2,Ne.symm bG,h6]
   obtain⟨e,he,b4,aK,ag⟩:=h.ok.dW.at_ h6
   obtain⟨bu,rD⟩:=DL (w1:=w) (m':=.J d) ok.dW tK H (λaC b v fr eR aq=>by
    rw[hf B _ (Ne.symm bG)] at fr;rw[he] at fr
    cases fr;obtain⟨vs,T,aT,aW,hle,bW⟩:=ag b eR;have az:i<D gO:=(dU.1 H).1;rw[cell_of_row w b i vs T (0,0) aT] at aq;have ab:=bW.2 i _ v H (by rw[pV az,Array.getElem?_toList];exact aq);exact .J (Kf h.ok.dW gr aa ab))
   exact⟨_,bu,O,h.ghost (ok.trans rD) λt => .inl rfl⟩
 |many =>
  obtain⟨mem',TX,O⟩:=O
  have main:∀{lu dO:Mem},tu lu dO->∀B,hJ n A et hp a ⟨st.tm,lu⟩ w B->∃bu,hJ n A et hp a ⟨st.tm,dO⟩ w bu:=by
   intro lu dO TX
   induction TX with
   |refl mem=>exact λB h=>⟨B,h⟩
   | @step lu dO cJ X _ aA =>
    intro B h
    have one:∃bu,hJ n A et hp a ⟨st.tm,dO⟩ w bu:=by
     cases X with
     |NS fM g8 gO i k g sz off len cs k' h6 H yp G I af =>
      obtain⟨e,he,b4,aK,ag⟩:=h.ok.dW.at_ yp;have ok:=eF.move h.ok.dW yp he I;have tK:a2 (a2 lu k (bZ lu k) []) k' (bZ lu k') cs fM=some (g8,gO):=by simp[a2,Ne.symm G,Ne.symm af,h6]
      obtain⟨ex,hex,aew,hR,Kl⟩:=h.ok.dW.at_ h6
      obtain⟨bu,rD⟩:=DL (w1:=w) (m':=.ref k' (bZ lu k') sz off len) ok.dW tK H (λaC b v fr eR aq=>by
       rw[hf _ _ (Ne.symm af),hf _ _ (Ne.symm G)] at fr;rw[hex] at fr
       cases fr;obtain⟨vs,T,aT,aW,hle,bW⟩:=Kl b eR;have az:i<D gO:=(dU.1 H).1;rw[cell_of_row w b i vs T (0,0) aT] at aq;have ab:=bW.2 i _ v H (by rw[pV az,Array.getElem?_toList];exact aq)
       cases ab with
       |ref fr hgle ab =>
        rw[he] at fr
        cases fr;obtain⟨a,cap,rfl,aS,bm,bV⟩:=ab;refine .ref (hn _ _ _) (b0 _) ⟨a,cap,rfl,aS,bm,bV.imp id ?_⟩;rintro⟨fl,rfl,bQ⟩;exact⟨fl,rfl,λ_=>bQ b4.symm⟩)
      exact⟨bu,h.ghost (ok.trans rD) λt => .inl rfl⟩
     |ac8 fM g8 gO i k g off cs k' h6 H yp G I af =>
      obtain⟨e,he,b4,aK,ag⟩:=h.ok.dW.at_ yp;have ok:=eF.move h.ok.dW yp he I;have tK:a2 (a2 lu k (bZ lu k) []) k' (bZ lu k') cs fM=some (g8,gO):=by simp[a2,Ne.symm G,Ne.symm af,h6]
      obtain⟨ex,hex,aew,hR,Kl⟩:=h.ok.dW.at_ h6
      obtain⟨bu,rD⟩:=DL (w1:=w) (m':=.ptr k' (bZ lu k') off) ok.dW tK H (λaC b v fr eR aq=>by
       rw[hf _ _ (Ne.symm af),hf _ _ (Ne.symm G)] at fr;rw[hex] at fr
       cases fr;obtain⟨vs,T,aT,aW,hle,bW⟩:=Kl b eR;have az:i<D gO:=(dU.1 H).1;rw[cell_of_row w b i vs T (0,0) aT] at aq;have ab:=bW.2 i _ v H (by rw[pV az,Array.getElem?_toList];exact aq)
       cases ab with
       |ptr fr hgle ab =>
        rw[he] at fr
        cases fr;obtain⟨fl,rfl,bQ⟩:=ab;exact .ptr (hn _ _ _) (b0 _) ⟨fl,rfl,λ_=>bQ b4.symm⟩)
      exact⟨bu,h.ghost (ok.trans rD) λt => .inl rfl⟩
     |NT fM g8 gO i k g sz off len cs d h6 H gr bG aa =>
      have ok:=eF.yb h.ok.dW k;have tK:a2 lu k (bZ lu k) [] fM=some (g8,gO):=by simp[a2,Ne.symm bG,h6]
      obtain⟨e,he,b4,aK,ag⟩:=h.ok.dW.at_ h6
      obtain⟨bu,rD⟩:=DL (w1:=w) (m':=.J d) ok.dW tK H (λaC b v fr eR aq=>by
       rw[hf B _ (Ne.symm bG)] at fr;rw[he] at fr
       cases fr;obtain⟨vs,T,aT,aW,hle,bW⟩:=ag b eR;have az:i<D gO:=(dU.1 H).1;rw[cell_of_row w b i vs T (0,0) aT] at aq;have ab:=bW.2 i _ v H (by rw[pV az,Array.getElem?_toList];exact aq);exact .J (Kf h.ok.dW gr aa ab))
      exact⟨bu,h.ghost (ok.trans rD) λt => .inl rfl⟩
    obtain⟨bu,cx⟩:=one;exact aA bu cx
  obtain⟨bu,cx⟩:=main TX B h;exact⟨_,bu,O,cx⟩
def erase:eu->eu
 |.skip => .skip
 |.ops l => .ops l
 |.mY l c => .mY l c
 |.seq a b => .seq (erase a) (erase b)
 |.cond c a b => .cond c (erase a) (erase b)
 |.block id c => .block id (erase c)
 |.loop c => .loop (erase c)
 |.exit id => .exit id
 |.ret => .ret
 |.ghost _ c=>erase c
def aex:eT->Exit
 |.normal => .normal
 |.exit id => .exit id
 |.ret => .ret
def aqF (P:Program)(n kb:Nat)(own:List Nat)(c:Code):eu->Prop
 |.skip=>c=.skip
 |.ops l=>∃id ops,c=.region id ops false/\ops.toList.mapM (Bl P n kb own ops)=some l
 |.mY l ch=>∃id ops,c=.region id ops true/\ops.toList.mapM (Bl P n kb own ops)=some l/\FX ops l=true/\ch=zw [] l (qs ops.toList [])
 |.seq x y=>∃a b,c=.seq a b/\qt P n kb own a=some x/\qt P n kb own b=some y
 |.cond x y z=>∃ji a b,c=.cond ji a b/\dM ji=some x/\qt P n kb own a=some y/\qt P n kb own b=some z
 |.block id x=>∃a,c=.block id a/\qt P n kb own a=some x
 |.loop x=>∃a,c=.loop a/\qt P n kb own a=some x
 |.exit id=>c=.exit id
 |.ret=>c=.ret
 |.ghost ..=>False
theorem zK {c:Code}{m:eu}(h:qt P n kb own c=some m):aqF P n kb own c m:=by
 cases c<;>simp only[qt,cl,reduceCtorEq,ea] at h
 case skip=>subst h;rfl
 case region id ops draw =>
  split at h
  ·rename_i l aw
   split at h
   ·rename_i aa;subst aa
    split at h
    ·rename_i cU
     cases h;exact⟨id,ops,rfl,aw,cU,rfl⟩
    ·cases h
   ·rename_i aa
    cases h;exact⟨id,ops,by rw[Bool.not_eq_true] at aa;rw[aa],aw⟩
  ·cases h
 case seq a b =>
  split at h
  ·rename_i x y Q av
   cases h;exact⟨a,b,rfl,Q,av⟩
  ·cases h
 case cond x a b =>
  split at h
  ·rename_i ji y z Q av aW
   cases h;exact⟨x,a,b,rfl,Q,av,aW⟩
  ·cases h
 case block id a =>
  obtain⟨x,Q,rfl⟩:=h;exact⟨a,rfl,Q⟩
 case loop a =>
  obtain⟨x,Q,rfl⟩:=h;exact⟨a,rfl,Q⟩
 case exit id=>subst h;rfl
 case ret=>subst h;rfl
theorem BB (cL:qB P T)(hm:P.follows .mixedOrders=true):∀(Oq:eu) (c:Code) (K:eT->a8->Prop) (aM:Exit->Act->World->Prop) (st:a8) (a:Act) (w:World) (B:e4),
  qt P n kb own c=some (erase Oq)->hJ n A et hp a st w B->wp T Oq K st->(∀e st a w B,K e st->hJ n A et hp a st w B->aM (aex e) a w)->c.wp P aM a w
 |.ghost g Oq,c,K,aM,st,a,w,B,a0,X,h,e1=>by
  obtain⟨dT,bu,O,iO⟩:=aqE X h;exact BB cL hm Oq c K aM dT a w bu a0 iO O e1
 |.skip,c,K,aM,st,a,w,B,a0,X,h,e1=>by
  obtain rfl:=zK a0;exact Go.wp_skip (e1 .normal st a w B h X)
 |.exit id,c,K,aM,st,a,w,B,a0,X,h,e1=>by
  obtain rfl:=zK a0;exact Go.wp_exit (e1 (.exit id) st a w B h X)
 |.ret,c,K,aM,st,a,w,B,a0,X,h,e1=>by
  obtain rfl:=zK a0;exact Go.wp_ret (e1 .ret st a w B h X)
 |.ops l,c,K,aM,st,a,w,B,a0,X,h,e1=>by
  obtain⟨id,ops,rfl,aw⟩:=zK a0;have:=TW (aM:=aM) (K:=K .normal) cL aw (λst a w B O X=>e1 .normal st a w B O X) l 0 st a w B rfl X h;refine Go.wp_region ?_;rw[(oK aw).1,Array.length_toList] at this;rw[List.range_eq_range'];exact this
 |.mY l ch,c,K,aM,st,a,w,B,a0,X,h,e1=>by
  obtain⟨id,ops,rfl,aw,aa,rfl⟩:=zK a0;exact aqC cL hm aw aa X h λst a w B O X=>e1 .normal st a w B O X
 |.seq x y,c,K,aM,st,a,w,B,a0,X,h,e1=>by
  obtain⟨ji,y',rfl,Q,av⟩:=zK a0;refine Go.wp_seq (BB cL hm x ji _ _ st a w B Q X h λe dT jK aR bu O iO=>?_)
  cases e with
  |normal=>exact BB cL hm y y' _ _ dT jK aR bu av iO O e1
  |exit id=>exact e1 (.exit id) dT jK aR bu O iO
  |ret=>exact e1 .ret dT jK aR bu O iO
 |.cond x y z,c,K,aM,st,a,w,B,a0,X,h,e1=>by
  obtain⟨ji,y',aqG,rfl,Q,av,aW⟩:=zK a0;have aq:=X.tE ji x Q;simp only[wp] at h
  split at h
  ·rename_i t bz;rw[bz] at aq;refine Go.wp_cond aq.Dq ?_
   cases t with
   |true=>exact BB cL hm y y' _ _ st a w B av X h e1
   |false=>exact BB cL hm z aqG _ _ st a w B aW X h e1
  ·cases h
 |.block id x,c,K,aM,st,a,w,B,a0,X,h,e1=>by
  obtain⟨ji,rfl,Q⟩:=zK a0;refine Go.wp_block (BB cL hm x ji _ _ st a w B Q X h λe dT jK aR bu O iO=>?_)
  cases e with
  |normal=>exact e1 .normal dT jK aR bu O iO
  |exit j =>
   simp only[aex,Exit.inBlock];simp only at O
   split
   ·rename_i aj;rw[ad aj] at O;exact e1 .normal dT jK aR bu O iO
   ·rename_i aj;rw[ah aj] at O;exact e1 (.exit j) dT jK aR bu O iO
  |ret=>exact e1 .ret dT jK aR bu O iO
 |.loop x,c,K,aM,st,a,w,B,a0,X,h,e1=>by
  obtain⟨ji,rfl,Q⟩:=zK a0;obtain⟨Dn,μ,sx,Ot⟩:=h
  have key:∀m (st:a8) (a:Act) (w:World) (B:e4),μ st<m->Dn st->hJ n A et hp a st w B->Code.rounds P ji aM m a w:=by
   intro m
   induction m with
   |zero=>intro st a w B n3;omega
   |succ m aA =>
    intro st a w B n3 sx X;refine BB cL hm x ji _ _ st a w B Q X (Ot st sx) λe dT jK aR bu O iO=>?_
    cases e with
    |normal=>exact aA dT jK aR bu (by have:=O.2;omega) O.1 iO
    |exit id=>exact e1 (.exit id) dT jK aR bu O iO
    |ret=>exact e1 .ret dT jK aR bu O iO
  exact wp_loop_rounds (μ st+1) (key _ st a w B (Nat.lt_succ_self _) sx X)
end Go.Mini
namespace Go.Mini
open Go
variable {P:Program} {T:bb} {A:Nat->Prop} {et w:World} {hp B:e4} {mem:Mem} {n kb:Nat} {own:List Nat}
theorem aqH {a:Act}{st:a8}{r:ResultVar}{dW:oJ}{m:R}(X:hJ n A et hp a st w B)(a0:FY P r=some dW)(h:FR st dW=some m):
  ∃v,((match r with
   |.tmp t=>pure (a.tmps.getD t undef)
   |.cell b t=>do loadVar t (<-asAddr (a.tmps.getD b undef)):Sem Value)).run P w=.ok v w/\bt w (cd A B) B m v:=by
 cases r with
 |tmp t =>
  simp only[FY,cl] at a0;subst a0;simp only[FR,cl] at h;subst h;exact⟨_,rfl,X.tm t⟩
 |cell b t =>
  simp only[FY] at a0
  split at a0
  ·rename_i s g ew zB;simp only[cl] at a0;subst a0;obtain⟨dA,off,ms,vs,aq,aw,bW,cn,ab⟩:=adi X.ok.dW (X.tm b) h;obtain⟨u,G,I⟩:=adh (P:=P) ew zB aw bW cn ab;refine⟨u,?_,I⟩;have:a.tmps.getD b undef=.pointer (some ⟨dA,off,none⟩):=aq;simp only[this,asAddr,Sem.run_bind,Sem.run_pure,Result.andThen_ok];exact G
  ·cases a0
theorem aey {a:Act}{st:a8}(X:hJ n A et hp a st w B):∀{l:List ResultVar} {rs:List oJ} {ms:List R},l.mapM (FY P)=some rs->rs.mapM (FR st)=some ms ->
  ∃vs:List Value,(l.mapM λr=>((match r with
   |.tmp t=>pure (a.tmps.getD t undef)
   |.cell b t=>do loadVar t (<-asAddr (a.tmps.getD b undef)):Sem Value))).run P w=.ok vs w/\du w (cd A B) B ms vs
 | [],rs,ms,G,I=>by
  simp at G;subst G;simp at I;subst I;exact⟨[],rfl,du.nil⟩
 |r::l,rs,ms,G,I=>by
  simp only[ll,hg,ho,ek,cl] at G;obtain⟨x,Q,xs,BC,rfl⟩:=G;simp only[ll,hg,ho,ek,cl] at I;obtain⟨m,hm,aJK,aO,rfl⟩:=I;obtain⟨v,aq,ab⟩:=aqH X Q hm;obtain⟨vs,aP,bW⟩:=aey X BC aO;refine⟨v::vs,?_,du.cons ab bW⟩;simp only[ll,Sem.run_bind,aq,Result.andThen_ok,aP,Sem.run_pure]
theorem aez {a:Act}{st:a8}{fn:Func}{rs:List oJ}{m:R}(X:hJ n A et hp a st w B)(a0:fn.results.toList.mapM (FY P)=some rs)(h:pO st rs=some m):
  ∃v,(results fn a.tmps).run P w=.ok v w/\bt w (cd A B) B m v:=by
 unfold pO at h
 have main:∀ms,rs.mapM (FR st)=some ms->∃vs:List Value,(results fn a.tmps).run P w=.ok (if h:vs.toArray.size=1 then vs.toArray[0] else .tuple vs.toArray) w/\du w (cd A B) B ms vs:=by
  intro ms aO;obtain⟨vs,G,I⟩:=aey X a0 aO;refine⟨vs,?_,I⟩;unfold results;rw[Array.mapM_eq_mapM_toList,map_eq_pure_bind];simp only[Sem.run_bind,Sem.run_pure];have yq:=G;generalize hq:(List.mapM _ fn.results.toList:Sem (List Value))=q;have:q.run P w=.ok vs w:=by rw[<-hq];exact yq
  rw[this]
  rfl
 split at h
 ·rename_i x aO;simp only[cl] at h;subst h;obtain⟨vs,G,I⟩:=main _ aO;have aw:=I.1;simp at aw;obtain⟨v,rfl⟩:=aeA.1 aw;exact⟨v,G,I.2 0 _ v rfl rfl⟩
 ·rename_i ms bG aO;simp only[cl] at h;subst h;obtain⟨vs,G,I⟩:=main _ aO;have aw:=I.1;refine⟨_,G,?_⟩
  have:¬ (vs.toArray.size=1):=λh=>by
   have cx:(D ms)=1:=by rw[<-aw];simpa using h
   obtain⟨x,rfl⟩:=aeA.1 cx;exact bG x rfl
  rw[dif_neg this];exact .cH aw I.2
 ·cases h
def TY (mf:bP)(Post:R->Mem->Prop):eT->a8->Prop
 |.exit _,_=>False
 |_,st=>∃m,pO st mf.res=some m/\Post m st.mem
theorem Gm (cL:qB P T)(hm:P.follows .mixedOrders=true){f:FuncId}{fn:Func}{mf:bP}(aJ:P.funcs[f]?=some fn)(a0:sr P kb own fn=some { mf with body:=erase mf.body }){args:List R}(n2:(D args)<=mf.n)
  {Post:R->Mem->Prop} {K:eT->a8->Prop} (dK:∀e st,K e st->TY mf Post e st) (h:wp T mf.body K ⟨ka args,mem⟩) {A:Nat->Prop} {w:World} {B:e4} {vs:List Value} (b1:fs A w B mem) (aq:du w (cd A B) B args vs) :
  Calls P f vs.toArray w λe aR=>∃v m mem' bu,e=.returned v/\eF A w B aR bu mem'/\bt aR (cd A bu) bu m v/\Post m mem':=by
 unfold sr at a0
 split at a0
 ·cases a0
 ·rename_i c ag
  split at a0
  ·rename_i b rs H BD;simp only[cl,bP.mk.injEq] at a0;obtain⟨aK,aJL,vl,aqI⟩:=a0;have ew:(D vs)=D args:=aq.1;refine calls_of_wp aJ ag ?_;rw[aqI] at H;refine BB cL hm mf.body c K _ ⟨ka args,mem⟩ _ w B H ⟨.refl b1,λs=>?_,?_,rfl⟩ h λe st a aR bu DM X=>?_
   ·simp only[ka,Act.eval,Array.getD_eq_getD_getElem?];rcases iq s (D vs) with az|b4
    ·have G:args[s]?=some args[s]:=bs (by omega)
     have I:(vs.toArray++Array.replicate (fn.ntmps-vs.toArray.size) undef)[s]?=some vs[s]:=by
      rw[Array.getElem?_append_left (by simpa using az)];simp[az]
     rw[G,I];exact aq.2 s _ _ G (bs az)
    ·rw[List.getElem?_eq_none (by omega),Array.getElem?_append_right (by simpa using b4)]
     have:((Array.replicate (fn.ntmps-vs.toArray.size) undef)[s-vs.toArray.size]?).getD undef=undef:=by
      cases hq:(Array.replicate (fn.ntmps-vs.toArray.size) undef)[s-vs.toArray.size]? with
      |none=>rfl
      |some u =>
       have:=Array.mem_of_getElem? hq;simp at this;simp[this.2]
     rw[this];exact .no
   ·simp;omega
   ·have O:=dK e st DM
    cases e with
    |exit id=>cases O
    |normal =>
     obtain⟨m,n3,aE⟩:=O;obtain⟨v,m3,vi⟩:=aez X BD (by rw[vl];exact n3);exact⟨X.J8,v,m3,v,m,_,bu,rfl,X.ok,vi,aE⟩
    |ret =>
     obtain⟨m,n3,aE⟩:=O;obtain⟨v,m3,vi⟩:=aez X BD (by rw[vl];exact n3);exact⟨X.J8,v,m3,v,m,_,bu,rfl,X.ok,vi,aE⟩
  ·cases a0
inductive eN where
 |same (r:Data)
 |own (sz:Nat) (es:List (List Data))
def zL (w:World)(aZ:Nat->Prop)(ds:List Data)(vs:List Value):Prop:=D vs=D ds/\∀(i:Nat) (d:Data) (v:Value),ds[i]?=some d->vs[i]?=some v->Den w aZ d v
def aqJ (w aR:World)(aZ:Nat->Prop):eN->Value->Prop
 |.same r,v=>Den aR aZ r v
 |.own sz es,v=>Bv w aR aZ sz es v
structure tL (P:Program) (f:FuncId) (aQ:List Data->Option eN):Prop where
 real:Real P f
 run:∀ds r,aQ ds=some r->∀(A:Nat->Prop) (w:World) (vs:List Value),(∀b,A b->b<w.heap.size)->zL w A ds vs ->
  Calls P f vs.toArray w λe aR=>∃v,e=.returned v/\Fr (λ_=>False) w aR/\aqJ w aR A r v
def aeB:eN->R->Mem->Prop
 |.same r,m,mem=>∃d,cC d mem m=some r
 |.own sz es,m,mem=>(m=.nil/\es=[])\/∃k g len cs ds d,m=.ref k g sz 0 len/\mem k=some (g,cs)/\len*sz<=D cs/\(cs.take (len*sz)).mapM (cC d (kill mem k))=some ds/\es=chunk sz len ds
def rE (sz:Nat)(mem:Mem):R->Option (List (List Data))
 |.nil=>some []
 |.ref k g er off len=>if er=sz/\off=0 then (match mem k with
  |some (c7,cs)=>if c7=g/\len*sz<=(D cs) then ((cs.take (len*sz)).mapM (cC 6 (kill mem k))).map (chunk sz len) else none
  |none=>none) else none
 |_=>none
def zM (res:List oJ):eN->a8->Prop
 |.same r,st=>(pO st res).bind (cC 6 st.mem)=some r
 |.own sz es,st=>(pO st res).bind (rE sz st.mem)=some es
def zN (res:List oJ)(r:eN):eT->a8->Prop
 |.exit _,_=>False
 |.normal,st=>zM res r st
 |.ret,st=>zM res r st
theorem aeC {mf:bP}{r:eN}{st:a8}(h:zM mf.res r st):∃m,pO st mf.res=some m/\aeB r m st.mem:=by
 cases r with
 |same r =>
  simp only[zM,ek] at h;obtain⟨m,G,I⟩:=h;exact⟨m,G,6,I⟩
 |own sz es =>
  simp only[zM,ek] at h;obtain⟨m,G,I⟩:=h;refine⟨m,G,?_⟩
  cases m<;>simp only[rE,cl,reduceCtorEq] at I
  ·exact .inl ⟨rfl,I.symm⟩
  ·split at I
   ·rename_i H;obtain⟨rfl,rfl⟩:=H
    split at I
    ·rename_i c7 cs O
     split at I
     ·rename_i ba;obtain⟨rfl,hle⟩:=ba;simp only[ea] at I;obtain⟨ds,g9,rfl⟩:=I;exact .inr ⟨_,_,_,cs,ds,6,rfl,O,hle,g9,rfl⟩
     ·cases I
    ·cases I
   ·cases I
theorem aqK {mf:bP}{r:eN}{e:eT}{st:a8}(h:zN mf.res r e st):TY mf (aeB r) e st:=by
 cases e with
 |exit id=>exact h
 |normal=>exact aeC h
 |ret=>exact aeC h
theorem Ou (b:Nat):¬ sg (λ_=>none) b:=fun⟨_,_,h,_⟩=>by cases h
theorem aqL (cL : qB P T)(hm : P.follows .mixedOrders = true){f : FuncId}{fn : Func}{mf : bP}(aJ : P.funcs[f]? = some fn)(tM : (fn.name == "runtime.NumGoroutine") = false)(a0 : sr P kb own fn = some { mf with body := erase mf.body })
  {aQ:List Data->Option eN} (h:∀ds r,aQ ds=some r->(D ds)<=mf.n/\wp T mf.body (zN mf.res r) ⟨ka (ds.map .J),emp⟩):tL P f aQ:=by
 refine⟨?_,λds r e8 A w vs az tD=>?_⟩
 ·cases ag:fn.body with
  |none=>simp[sr,ag] at a0
  |some c=>exact⟨fn,c,aJ,ag,tM⟩
 ·obtain⟨hlen,wM⟩:=h ds r e8;have b1:fs A w (λ_=>none) emp:=⟨λ_ _=>rfl,λ_ _ _ _ _ h=>(by cases h),λb _ bO=>Ou b bO,az,λ_ _ _ h=>(by cases h)⟩;have fF:∀b,cd A (λ_=>none) b->A b:=λb h=>h.elim (λh=>(Ou b h).elim) id;have bW:du w (cd A λ_=>none) (λ_=>none) (ds.map .J) vs:=du.J tD.1 λi d v G I=>(tD.2 i d v G I).less fF;refine Calls.mono (Gm cL hm aJ a0 (by simpa using hlen) (λe st=>aqK) wM b1 bW) λe aR he=>?_;obtain⟨v,m,mem',bu,rfl,X,aq,aE⟩:=he;refine⟨v,rfl,⟨X.aG.os,X.aG.tape,X.aG.output,X.aG.size,λg ba _=>X.aG.block g ba (Ou g)⟩,?_⟩
  cases r with
  |same r =>
   obtain⟨d,aa⟩:=aE;exact snap X.dW (λb ag=>ag) d m v r aa aq
  |own sz es =>
   rcases aE with ⟨rfl,rfl⟩|⟨k,g,len,cs,DK,d,rfl,O,hle,g9,rfl⟩
   ·cases aq;exact⟨by simp,_,0,rfl,b0 _,ft _,.inl rfl⟩
   ·obtain⟨G,I⟩:=oK g9;have TZ:(D DK)=len*sz:=by rw[G,gF];omega
    refine⟨N4 sz len DK TZ,?_⟩;rw[N3,N5 sz len DK TZ]
    cases aq with
    |ref he hgle ab =>
     obtain⟨e,gC,b4,aK,ag⟩:=X.dW.at_ O;rw[gC] at he;obtain rfl:=n0 he;obtain⟨a,cap,rfl,af,aS,bm⟩:=ab;refine⟨a,cap,rfl,af,aS,bm.imp id ?_⟩;rintro⟨b,rfl,bV⟩;obtain⟨bQ,ca⟩:=bV b4.symm;obtain⟨oN,aqM,aT,aW,J5,zE⟩:=ag b bQ;obtain⟨aqN,jQ⟩:=kill_shut X.dW O gC bQ;refine⟨b,oN,aqM,rfl,?_,aT,by simpa [aW] using ca,λi x Q=>?_⟩
     ·rcases X.fresh b ⟨k,_,gC,bQ⟩ with h|h
      ·exact (Ou b h).elim
      ·exact h
     ·have aeD:i<D DK:=(dU.1 Q).1;have kX:i<D cs:=by omega
      have jN:(cs.take (len*sz))[i]?=some cs[i]:=by
       rw[pV (by omega)];exact bs kX
      have Ki:i<oN.size:=by omega
      refine⟨oN[i],Array.getElem?_eq_getElem Ki,snap aqN (λb ag=>ag) d _ _ x (I i _ x jN Q) (jQ _ _ (zE.2 i _ _ (bs kX) ?_))⟩;rw[pV kX,Array.getElem?_toList];exact Array.getElem?_eq_getElem Ki
def scalar:Data->Bool
 |.int _ _=>true
 |.bool _=>true
 |.str _=>true
 |.u2=>true
 |.u3=>true
 |.Y []=>true
 |.cH ds=>ds.attach.all fun⟨d,_⟩=>scalar d
 |.agg ds=>ds.attach.all fun⟨d,_⟩=>scalar d
 |_=>false
theorem aeE {aZ ml:Nat->Prop}{d:Data}{v:Value}(h:scalar d=true)(aa:Den w aZ d v):Den w ml d v:=by
 induction aa with
 |int=>exact .int
 |bool=>exact .bool
 |str=>exact .str
 |u2=>exact .u2
 |u3=>exact .u3
 |lR=>exact .lR
 | @Y es b off c sz val aw hm ag fF ew H aa aA =>
  cases es with
  |nil=>exact .lR
  |cons=>simp[scalar] at h
 |ptr=>simp[scalar] at h
 |fn=>simp[scalar] at h
 | @agg cs vs aw aa aA =>
  simp only[scalar,lU,aeF,true_imp_iff,Subtype.forall] at h;exact .agg aw λi d v G I=>aA i d v G I (h d (ee G))
 | @cH cs vs aw aa aA =>
  simp only[scalar,lU,aeF,true_imp_iff,Subtype.forall] at h;exact .cH aw λi d v G I=>aA i d v G I (h d (ee G))
theorem Ov {aZ:Nat->Prop}:∀(d:Nat) (m:R) (v:Value) (r:Data),cC d emp m=some r->bt w aZ B m v->Den w aZ r v:=by
 intro d
 induction d with
 |zero =>
  intro m v r h aq
  cases m<;>simp only[cC,cl,reduceCtorEq] at h
  ·subst h;cases aq with|J h=>exact h
  ·subst h;cases aq;exact .lR
 |succ d aA =>
  intro m v r h aq
  have lists:∀(cs:List R) (vs:List Value) (ds:List Data),cs.mapM (cC d emp)=some ds->(D vs)=(D cs)->(∀(i:Nat) (x:R) (u:Value),cs[i]?=some x->vs[i]?=some u->bt w aZ B x u) ->
    (D vs)=D ds/\∀(i:Nat) (x:Data) (u:Value),ds[i]?=some x->vs[i]?=some u->Den w aZ x u:=by
   intro cs vs ds g9 aw ab;obtain⟨G,I⟩:=oK g9;refine⟨by omega,λi x u Q hu=>?_⟩
   have az:i<D cs:=by have:=(dU.1 Q).1;omega
   have jN:=bs az;exact aA _ u x (I i _ x jN Q) (ab i _ u jN hu)
  cases m<;>simp only[cC,emp,cl,ea,reduceCtorEq] at h
  case J=>subst h;cases aq with|J h=>exact h
  case nil=>subst h;cases aq;exact .lR
  case fz f cs =>
   obtain⟨ds,g9,rfl⟩:=h
   cases aq with
   |fz aw aa=>obtain⟨G,I⟩:=lists _ _ _ g9 aw aa;exact .fn G I
  case agg cs =>
   obtain⟨ds,g9,rfl⟩:=h
   cases aq with
   |agg aw aa=>obtain⟨G,I⟩:=lists _ _ _ g9 aw aa;exact .agg G I
  case cH cs =>
   obtain⟨ds,g9,rfl⟩:=h
   cases aq with
   |cH aw aa=>obtain⟨G,I⟩:=lists _ _ _ g9 aw aa;exact .cH G I
def Ow:eN->g7
 |.same r => .same r
 |.own sz es => .own sz es
def wN:eN->Option g7
 |.same r=>if scalar r=true then some (.same r) else none
 |.own sz es=>if (es.all λe=>e.all scalar)=true then some (.own sz es) else none
def Ox (aQ:List Data->Option eN):Option (List Data)->Option g7
 |some ds=>(aQ ds).bind wN
 |none=>none
def Gn (aQ:List Data->Option eN):Option (List Data)->Option (List Data)->Option g7
 |some ds,_=>(aQ ds).map Ow
 |none,x=>Ox aQ x
def aU (aQ:List Data->Option eN)(args:List R)(mem:Mem):Option g7:=Gn aQ (args.mapM (cC 6 emp)) (args.mapM (cC 6 mem))
def BE (lZ:FuncId->Option (List Data->Option eN)):bb:=λf args mem=>match lZ f with
 |some aQ=>aU aQ args mem
 |none=>none
theorem aeG {aZ:Nat->Prop}{g:R->Option Data}{args:List R}{ds:List Data}{vs:List Value}(h:args.mapM g=some ds)(aq:du w aZ B args vs){ml:Nat->Prop}(aa:∀m v r,g m=some r->bt w aZ B m v->Den w ml r v):zL w ml ds vs:=by
 obtain⟨G,I⟩:=oK h;refine⟨by rw[aq.1,G],λi d v nn ln=>?_⟩
 have az:i<D args:=by have:=(dU.1 nn).1;omega
 have BF:=bs az;exact aa _ v d (I i _ d BF nn) (aq.2 i _ v BF ln)
theorem aeH {lZ:FuncId->Option (List Data->Option eN)}(h:∀f aQ,lZ f=some aQ->tL P f aQ):qB P (BE lZ):=by
 intro f args mem pj iv;unfold BE at iv
 split at iv
 ·rename_i aQ e8;have ju:=h f aQ e8;refine⟨ju.real,λA w B vs b1 aq=>?_⟩;unfold aU at iv
  cases g9:args.mapM (cC 6 emp) with
  |some ds =>
   rw[g9] at iv;simp only[Gn,ea] at iv;obtain⟨r,ab,rfl⟩:=iv;have H:=ju.run ds r ab (cd A B) w vs (λb ag=>ag.elim (λh=>b1.x3 h) (b1.lt b)) (aeG g9 aq λm v r=>Ov 6 m v r)
   cases r with
   |same r=>exact H
   |own sz es=>exact H
  |none =>
   rw[g9] at iv;simp only[Gn] at iv
   cases g9:args.mapM (cC 6 mem) with
   |none=>rw[g9] at iv;cases iv
   |some ds =>
    rw[g9] at iv;simp only[Ox,ek] at iv;obtain⟨r,ab,aw⟩:=iv;have H:=ju.run ds r ab (λ_=>False) w vs (λb ag=>ag.elim) (aeG g9 aq λm v r h aq=>snap b1 (λb ag=>ag.elim) 6 m v r h aq)
    cases r with
    |same r =>
     simp only[wN] at aw
     split at aw
     ·rename_i X
      cases aw
      exact Calls.mono H λe aR ⟨v,he,bX,aa⟩=>⟨v,he,bX,aeE X aa⟩
     ·cases aw
    |own sz es =>
     simp only[wN] at aw
     split at aw
     ·rename_i X
      cases aw
      refine Calls.mono H λe aR ⟨v,he,bX,aa⟩=>⟨v,he,bX,?_⟩;obtain⟨G,a,cap,I,af,aS,bm⟩:=aa;refine⟨G,a,cap,I,af,aS,bm.imp id ?_⟩;rintro⟨b,vs,T,bV,bQ,ca,iS,gw⟩;refine⟨b,vs,T,bV,bQ,ca,iS,λi d aa=>?_⟩;obtain⟨u,hu,tD⟩:=gw i d aa;refine⟨u,hu,aeE ?_ tD⟩;have hm:=ee aa;rw[List.mem_flatten] at hm;obtain⟨e,he,aqO⟩:=hm;rw[lU] at X;have:=X e he;rw[lU] at this;exact this d aqO
     ·cases aw
 ·cases iv
end Go.Mini
namespace Go.Mini
open Go
def Gp {ι:Type}(T:bb)(c9:ι->a8->Prop)(m:ι->Nat)(i:ι)(K:eT->a8->Prop)(k:List gu):eT->a8->Prop
 |.normal,st=>∃bk,m bk<m i/\c9 bk st
 |.exit id,st=>cD T K k (.exit id) st
 |.ret,st=>cD T K k .ret st
@[go_sem] theorem aJM {ι:Type}(T:bb)(c9:ι->a8->Prop)(m:ι->Nat)(i:ι)(K:eT->a8->Prop)(k:List gu)(id:Nat)(st:a8):Gp T c9 m i K k (.exit id) st=cD T K k (.exit id) st:=bx
@[go_sem] theorem aJN {ι:Type}(T:bb)(c9:ι->a8->Prop)(m:ι->Nat)(i:ι)(K:eT->a8->Prop)(k:List gu)(st:a8):Gp T c9 m i K k .ret st=cD T K k .ret st:=bx
@[go_sem] theorem aqP {ι:Type}(T:bb)(c9:ι->a8->Prop)(m:ι->Nat)(i:ι)(K:eT->a8->Prop)(k:List gu)(st:a8):Gp T c9 m i K k .normal st=∃bk,m bk<m i/\c9 bk st:=bx
open Classical in
theorem aqQ {ι:Type}{T:bb}{K:eT->a8->Prop}{k:List gu}{st:a8}{c:eu}(c9:ι->a8->Prop)(m:ι->Nat)(i0:ι)(ar:c9 i0 st)(h:∀i st,c9 i st->wp T c (cD T (Gp T c9 m i K k) []) st):
  wp T (.loop c) (cD T K k) st:=by
 have least:∀st,(∃i,c9 i st)->∃i,c9 i st/\∀j,c9 j st->m i<=m j:=by
  intro st ⟨i,M⟩
  have:∀n i,m i=n->c9 i st->∃i,c9 i st/\∀j,c9 j st->m i<=m j:=by
   intro n
   induction n using T0 with
   |_ n aA =>
    intro i aK M
    by_cases Q:∃j,c9 j st/\m j<m i
    ·obtain⟨j,aj,az⟩:=Q;exact aA (m j) (by omega) j rfl aj
    ·refine⟨i,M,λj aj=>?_⟩;rcases iq (m j) (m i) with cx|cx
     ·exact absurd ⟨j,aj,cx⟩ Q
     ·exact cx
  exact this _ i rfl M
 refine⟨λst=>∃i,c9 i st,λst=>if Q:∃i,c9 i st then m (tN (least st Q)) else 0,⟨i0,ar⟩,λst dv=>?_⟩;have jv:=pn (least st dv);have:=h _ st jv.1
 have O:cD T (Gp T c9 m (tN (least st dv)) K k) []=λe dT=>match e with
   |.normal=>(∃i,c9 i dT)/\(if Q:∃i,c9 i dT then m (tN (least dT Q)) else 0)<(if Q:∃i,c9 i st then m (tN (least st Q)) else 0)
   |e=>cD T K k e dT:=by
  funext e dT
  cases e with
  |normal =>
   simp only[apF,aqP];apply propext
   constructor
   ·rintro⟨bk,az,aj⟩;have hex:∃i,c9 i dT:=⟨bk,aj⟩;refine⟨hex,?_⟩;rw[dif_pos hex,dif_pos dv];have:=(pn (least dT hex)).2 bk aj;omega
   ·rintro⟨hex,az⟩;rw[dif_pos hex,dif_pos dv] at az;exact⟨_,az,(pn (least dT hex)).1⟩
  |exit id=>rfl
  |ret=>rfl
 rw[O] at this;exact this
section
variable {aQ:List Data->Option eN} {mem:Mem} {st:a8} {res:List oJ}
@[go_sem] theorem aJO (ds:List Data)(x:Option (List Data)):Gn aQ (some ds) x=(aQ ds).map Ow:=bx
@[go_sem] theorem aJP (x:Option (List Data)):Gn aQ none x=Ox aQ x:=bx
@[go_sem] theorem aJQ (ds:List Data):Ox aQ (some ds)=(aQ ds).bind wN:=bx
@[go_sem] theorem aJR (r:Data):Ow (.same r)=.same r:=bx
@[go_sem] theorem aJS (sz:Nat)(es:List (List Data)):Ow (.own sz es)=.own sz es:=bx
@[go_sem] theorem aJT (r:Data):wN (.same r)=if scalar r=true then some (.same r) else none:=bx
@[go_sem] theorem Oy (n:Nat)(d:Data):cC n mem (.J d)=some d:=by cases n<;>rfl
@[go_sem] theorem aqR (n:Nat):cC n mem .nil=some (.Y []):=by cases n<;>rfl
@[go_sem] theorem aJU (n:Nat)(cs:List R):cC (n+1) mem (.agg cs)=(cs.mapM (cC n mem)).map .agg:=bx
@[go_sem] theorem aJV (n:Nat)(cs:List R):cC (n+1) mem (.cH cs)=(cs.mapM (cC n mem)).map .cH:=bx
@[go_sem] theorem aqS (n:Nat)(f:FuncId)(cs:List R):cC (n+1) mem (.fz f cs)=(cs.mapM (cC n mem)).map (.fn f):=bx
@[go_sem] theorem aJW (r:eN)(id:Nat):zN res r (.exit id) st=False:=bx
@[go_sem] theorem aJX (r:eN):zN res r .ret st=zM res r st:=bx
@[go_sem] theorem aJY (r:eN):zN res r .normal st=zM res r st:=bx
@[go_sem] theorem aJZ (r:Data):zM res (.same r) st=((pO st res).bind (cC 6 st.mem)=some r):=bx
@[go_sem] theorem aJ0 (sz:Nat)(es:List (List Data)):zM res (.own sz es) st=((pO st res).bind (rE sz st.mem)=some es):=bx
end
@[go_sem] theorem aJ1 (x:Bool):N9 (.J (.bool x)) true=some x:=by cases x<;>rfl
@[go_sem] theorem aJ2 (x:Bool):N9 (.J (.bool x)) false=some (!x):=by cases x<;>rfl
attribute [go_sem] ev cZ List.getElem?_cons_zero List.getElem?_cons_succ h4 kZ l0 wO ns ky mw Option.map_none kv
 ll Gq hg ho jk jR List.drop_succ_cons List.drop_nil List.take_nil cP dD vm sy l1 po zO gQ iT fx Gr List.all_nil true_and and_true kR bne
section
variable {T:bb} {K:eT->a8->Prop} {k:List gu} {st:a8}
theorem aqT {x:Bool}{i:c8}{r:List c8}(G:x=false->rz T K k (some true) i r st)(I:x=true->rz T K k (some false) i r st):rz T K k (some (!x)) i r st:=by
 cases x
 ·exact G rfl
 ·exact I rfl
theorem aqU {x:Bool}{i:c8}{r:List c8}(G:x=true->rz T K k (some true) i r st)(I:x=false->rz T K k (some false) i r st):rz T K k (some x) i r st:=by
 cases x
 ·exact I rfl
 ·exact G rfl
theorem aqV {x:Bool}{n:Nat}{i:c8}{r:List c8}{c:List (List Nat)}{rec:Rec}(G:x=false->rA T K k n (some true) i r c rec st)(I:x=true->rA T K k n (some false) i r c rec st):rA T K k n (some (!x)) i r c rec st:=by
 cases x
 ·exact G rfl
 ·exact I rfl
theorem aqW {x:Bool}{n:Nat}{i:c8}{r:List c8}{c:List (List Nat)}{rec:Rec}(G:x=true->rA T K k n (some true) i r c rec st)(I:x=false->rA T K k n (some false) i r c rec st):rA T K k n (some x) i r c rec st:=by
 cases x
 ·exact I rfl
 ·exact G rfl
theorem aqX {x:Bool}{a b:eu}(G:x=false->qA T K k (.J (.bool true)) a b st)(I:x=true->qA T K k (.J (.bool false)) a b st):qA T K k (.J (.bool (!x))) a b st:=by
 cases x
 ·exact G rfl
 ·exact I rfl
theorem aqY {x:Bool}{a b:eu}(G:x=true->qA T K k (.J (.bool true)) a b st)(I:x=false->qA T K k (.J (.bool false)) a b st):qA T K k (.J (.bool x)) a b st:=by
 cases x
 ·exact I rfl
 ·exact G rfl
end
class DN (bR:Prop) (A B:outParam Prop):Prop where
 go:A->B->bR
theorem ax {bR A B:Prop}[s:DN bR A B](a:A)(b:B):bR:=s.go a b
theorem aX {bR:Prop}(h:true=true->bR):bR:=h rfl
instance {T K k i r st} {x:Bool}:DN (rz T K k (some x) i r st) (x=true->rz T K k (some true) i r st) (x=false->rz T K k (some false) i r st):=⟨aqU⟩
instance {T K k i r st} {x:Bool}:DN (rz T K k (some (!x)) i r st) (x=false->rz T K k (some true) i r st) (x=true->rz T K k (some false) i r st):=⟨aqT⟩
instance {T K k st a b} {x:Bool}:DN (qA T K k (.J (.bool x)) a b st) (x=true->qA T K k (.J (.bool true)) a b st) (x=false->qA T K k (.J (.bool false)) a b st):=⟨aqY⟩
instance {T K k st a b} {x:Bool}:DN (qA T K k (.J (.bool (!x))) a b st) (x=false->qA T K k (.J (.bool true)) a b st) (x=true->qA T K k (.J (.bool false)) a b st):=⟨aqX⟩
instance {T K k n i r c rec st} {x:Bool}:DN (rA T K k n (some x) i r c rec st) (x=true->rA T K k n (some true) i r c rec st) (x=false->rA T K k n (some false) i r c rec st):=⟨aqW⟩
instance {T K k n i r c rec st} {x:Bool}:DN (rA T K k n (some (!x)) i r c rec st) (x=false->rA T K k n (some true) i r c rec st) (x=true->rA T K k n (some false) i r c rec st):=⟨aqV⟩
attribute [go_sem] reduceIte Nat.reduceEqDiff Nat.reduceAdd Nat.reduceSub Nat.reduceMul Nat.reduceLeDiff reduceCtorEq Nat.reduceLT Nat.reduceBEq Int.reduceEq
attribute [go_sem] kR
def Km {ι:Type}(T:bb)(g1:List Nat)(qC:List Key)(vs:List R)(ms:List (Option (Nat×List R)))(c9:ι->(Nat->R)->Mem->Prop)(m:ι->Nat)(i:ι)(K:eT->a8->Prop)(k:List gu):eT->a8->Prop
 |.normal,st=>∃bk,m bk<m i/\g1.map st.tm=vs/\qC.map st.mem=ms/\c9 bk st.tm st.mem
 |.exit id,st=>cD T K k (.exit id) st
 |.ret,st=>cD T K k .ret st
section
variable {ι:Type} (T:bb) (g1:List Nat) (qC:List Key) (vs:List R) (ms:List (Option (Nat×List R))) (c9:ι->(Nat->R)->Mem->Prop) (m:ι->Nat) (i:ι) (K:eT->a8->Prop) (k:List gu)
@[go_sem] theorem aJ3 (id:Nat)(st:a8):Km T g1 qC vs ms c9 m i K k (.exit id) st=cD T K k (.exit id) st:=bx
@[go_sem] theorem aJ4 (st:a8):Km T g1 qC vs ms c9 m i K k .ret st=cD T K k .ret st:=bx
@[go_sem] theorem aJ5 (st:a8):Km T g1 qC vs ms c9 m i K k .normal st=∃bk,m bk<m i/\g1.map st.tm=vs/\qC.map st.mem=ms/\c9 bk st.tm st.mem:=bx
end
theorem dd {ι:Type}{T:bb}{K:eT->a8->Prop}{k:List gu}{Gs:Nat->R}{ez:Mem}{c:eu}(g1:List Nat)(qC:List Key)(c9:ι->(Nat->R)->Mem->Prop)(m:ι->Nat)(i0:ι)(ar:c9 i0 Gs ez)
  (h:∀vs ms,g1.map Gs=vs->qC.map ez=ms->∀i tm mem,g1.map tm=vs->qC.map mem=ms->c9 i tm mem->wp T c (cD T (Km T g1 qC vs ms c9 m i K k) []) ⟨tm,mem⟩) :
  wp T (.loop c) (cD T K k) ⟨Gs,ez⟩:=by
 refine aqQ (λi st=>g1.map st.tm=g1.map Gs/\qC.map st.mem=qC.map ez/\c9 i st.tm st.mem) m i0 ⟨rfl,rfl,ar⟩ ?_;rintro i ⟨tm,mem⟩ ⟨G,I,af⟩;have:=h _ _ rfl rfl i tm mem G I af
 have O:cD T (Km T g1 qC (g1.map Gs) (qC.map ez) c9 m i K k) []=cD T (Gp T (λi (st:a8)=>g1.map st.tm=g1.map Gs/\qC.map st.mem=qC.map ez/\c9 i st.tm st.mem) m i K k) []:=by
  funext e dT
  cases e<;>rfl
 rw[O] at this;exact this
theorem wp_mono {T:bb}:∀(c:eu) (K jl:eT->a8->Prop),(∀e st,K e st->jl e st)->∀st,wp T c K st->wp T c jl st:=by
 intro c
 induction c with
 |skip=>exact λK jl h st=>h _ _
 |ops l =>
  intro K jl h st hw
  have:∀(l:List c8) (K jl:a8->Prop),(∀st,K st->jl st)->∀st,x6 T K l st->x6 T jl l st:=by
   intro l
   induction l with
   |nil=>exact λK jl h st=>h st
   |cons i r aA =>
    intro K jl h st hw;unfold x6 at hw ⊢
    split
    ·rename_i ba;rw[ba] at hw;exact hw
    ·rename_i g ba;rw[ba] at hw;simp only at hw ⊢
     split
     ·rename_i iR;rw[ad iR] at hw
      have pT:∀(K jl:a8->Prop),(∀st,K st->jl st)->gD T K i st->gD T jl i st:=by
       intro K jl h hw
       have H:∀d f args,u6 T K st d f args->u6 T jl st d f args:=by
        intro d f args hw;unfold u6 at hw ⊢
        split
        ·rename_i aT;rw[aT] at hw;exact h _ hw
        ·rename_i aT;rw[aT] at hw;exact h _ hw
        ·rename_i aT;rw[aT] at hw;exact λr mem' ab=>h _ (hw r mem' ab)
        ·rename_i aT;rw[aT] at hw;exact h _ hw
        ·rename_i aT;rw[aT] at hw;exact h _ hw
        ·rename_i aT;rw[aT] at hw;exact hw
       unfold gD at hw ⊢
       split
       ·rename_i aT;rw[aT] at hw;exact H _ _ _ hw
       ·rename_i aT;rw[aT] at hw
        simp only at hw
        split
        ·rename_i pc;rw[pc] at hw
         simp only at hw
         split
         ·rename_i X;rw[ad X] at hw;exact h _ hw
         ·rename_i X;rw[ah X] at hw;exact hw
        ·rename_i pc
         split at hw
         ·rename_i er es T1;exact (pc er es T1).elim
         ·exact hw
       ·rename_i aT;rw[aT] at hw
        simp only at hw
        split
        ·rename_i pc;rw[pc] at hw;exact H _ _ _ hw
        ·rename_i pc;rw[pc] at hw;exact H _ _ _ hw
        ·rename_i pc T1
         split at hw
         ·rename_i T2;exact (pc _ _ T2).elim
         ·rename_i T2;exact (T1 _ _ T2).elim
         ·exact hw
       ·rename_i aT;rw[aT] at hw
        simp only at hw
        split
        ·rename_i pc;rw[pc] at hw;exact λb ag=>h _ (hw b ag)
        ·rename_i pc;rw[pc] at hw;exact hw
       ·rename_i G I af aS
        split at hw
        ·rename_i aT;exact (G _ _ aT).elim
        ·rename_i aT;exact (I _ _ _ _ aT).elim
        ·rename_i aT;exact (af _ _ aT).elim
        ·rename_i aT;exact (aS _ _ aT).elim
        ·split
         ·rename_i aT;rw[aT] at hw;exact h _ hw
         ·rename_i aT;rw[aT] at hw;exact hw
      exact pT _ _ (aA _ _ h) hw
     ·rename_i iR;rw[ah iR] at hw;exact aA _ _ h _ hw
  exact this l _ _ (λst=>h .normal st) st hw
 |mY l c =>
  intro K jl h st hw
  have:∀(l:List c8) (n:Nat) (cs:List (List Nat)) (rec:Rec) (K jl:a8->Prop),(∀st,K st->jl st)->∀st,wD T K n l cs rec st->wD T jl n l cs rec st:=by
   intro l
   induction l with
   |nil=>exact λn cs rec K jl h st=>h st
   |cons i r aA =>
    intro n cs rec K jl h st hw;unfold wD at hw ⊢
    split
    ·rename_i ba;rw[ba] at hw;exact hw
    ·rename_i g ba;rw[ba] at hw;simp only at hw ⊢
     split
     ·rename_i iR;rw[ad iR] at hw
      split
      ·rename_i m e X;rw[X] at hw;exact⟨hw.1,aA _ _ _ _ _ h _ hw.2⟩
      ·rename_i X;rw[X] at hw;exact hw
     ·rename_i iR;rw[ah iR] at hw;exact aA _ _ _ _ _ h _ hw
  exact this l 0 c _ _ _ (λst=>h .normal st) st hw
 |seq a b iha ihb =>
  intro K jl h st hw;refine iha _ _ (λe dT aT=>?_) st hw
  cases e with
  |normal=>exact ihb _ _ h _ aT
  |exit id=>exact h _ _ aT
  |ret=>exact h _ _ aT
 |cond c a b iha ihb =>
  intro K jl h st hw;unfold wp at hw ⊢
  split
  ·rename_i t H;rw[H] at hw;simp only at hw
   split
   ·rename_i bz;rw[ad bz] at hw;exact iha _ _ h _ hw
   ·rename_i bz;rw[ah bz] at hw;exact ihb _ _ h _ hw
  ·rename_i Q
   split at hw
   ·rename_i H;exact (Q _ H).elim
   ·exact hw
 |block id c aA =>
  intro K jl h st hw;refine aA _ _ (λe dT aT=>?_) st hw
  cases e with
  |normal=>exact h _ _ aT
  |exit j =>
   simp only at aT ⊢
   split
   ·rename_i aj;rw[ad aj] at aT;exact h _ _ aT
   ·rename_i aj;rw[ah aj] at aT;exact h _ _ aT
  |ret=>exact h _ _ aT
 |loop c aA =>
  intro K jl h st hw;obtain⟨Dn,μ,ar,sx⟩:=hw;refine⟨Dn,μ,ar,λst dv=>aA _ _ (λe dT aT=>?_) _ (sx st dv)⟩
  cases e with
  |normal=>exact aT
  |exit id=>exact h _ _ aT
  |ret=>exact h _ _ aT
 |exit id=>exact λK jl h st=>h _ _
 |ret=>exact λK jl h st=>h _ _
 |ghost g c aA =>
  intro K jl h st hw
  have:∀(K jl:a8->Prop),(∀st,K st->jl st)->lk K st g->lk jl st g:=by
   intro K jl h hw;unfold lk at hw
   repeat' split at hw
   all_goals first
    |exact hw.elim
    |exact⟨hw.choose,hw.choose_spec.1,h _ hw.choose_spec.2⟩
    |(
      rcases hw with hw|⟨fM,g8,gO,i,k,g,sz,off,len,cs,k',G,I,af,aS,bm,bV,hw⟩|⟨fM,g8,gO,i,k,g,sz,off,len,cs,d,G,I,af,aS,bm,bV,hw⟩
      ·exact .inl (h _ hw)
      ·exact .inr (.inl ⟨fM,g8,gO,i,k,g,sz,off,len,cs,k',G,I,af,aS,bm,bV,h _ hw⟩)
      ·exact .inr (.inr ⟨fM,g8,gO,i,k,g,sz,off,len,cs,d,G,I,af,aS,bm,bV,h _ hw⟩))
    |(
      have cx:=h _ hw;clear hw h;unfold lk
      simp_all)
  exact this _ _ (aA _ _ h) hw
def Gt (T:bb)(K:eT->a8->Prop)(k:List gu)(aM:a8->Prop):eT->a8->Prop
 |.normal,st=>aM st
 |.exit id,st=>cD T K k (.exit id) st
 |.ret,st=>cD T K k .ret st
@[go_sem] theorem aJ6 {T:bb}{K:eT->a8->Prop}{k:List gu}{aM:a8->Prop}(st:a8):Gt T K k aM .normal st=aM st:=bx
@[go_sem] theorem aJ7 {T:bb}{K:eT->a8->Prop}{k:List gu}{aM:a8->Prop}(id:Nat)(st:a8):Gt T K k aM (.exit id) st=cD T K k (.exit id) st:=bx
@[go_sem] theorem aJ8 {T:bb}{K:eT->a8->Prop}{k:List gu}{aM:a8->Prop}(st:a8):Gt T K k aM .ret st=cD T K k .ret st:=bx
theorem aeI {T:bb}{K:eT->a8->Prop}{k:List gu}{c a:eu}{st:a8}(aM:a8->Prop)(aN:wp T a (cD T (Gt T K k aM) []) st)(H:∀dT,aM dT->wp T c (cD T K k) dT):wp T a (cD T K (.code c::k)) st:=by
 refine wp_mono a _ _ (λe dT aT=>?_) st aN
 cases e with
 |normal=>exact H dT aT
 |exit id=>exact aT
 |ret=>exact aT
theorem aqZ {T:bb}{K:eT->a8->Prop}{k:List gu}{x:Bool}{c a b:eu}{st:a8}(aM:a8->Prop)(aN:x=true->wp T a (cD T (Gt T K k aM) []) st)(ag:x=false->wp T b (cD T (Gt T K k aM) []) st)
  (H:∀dT,aM dT->wp T c (cD T K k) dT):qA T K (.code c::k) (.J (.bool x)) a b st:=by
 cases x
 ·rw[apH];exact aeI aM (ag rfl) H
 ·rw[apG];exact aeI aM (aN rfl) H
attribute [go_sem] beq_true beq_false Bool.true_beq Bool.false_beq jD List.flatten_nil fv List.headD_cons List.headD_nil List.tail_cons List.tail_nil List.contains_nil List.contains_cons Bool.not_eq_true'
section
variable {T:bb} {K:eT->a8->Prop} {k:List gu} {st:a8}
@[go_sem] theorem aJ9 (g:NJ)(c:eu):wp T (.ghost g c) (cD T K k) st=lk (wp T c (cD T K k)) st g:=bx
def T3 (K:a8->Prop)(st:a8)(s k sz:Nat):R->Prop
 |.nil=>K ⟨e5 st.tm s (.ref k (bZ st.mem k) sz 0 0),a2 st.mem k (bZ st.mem k) []⟩
 |_=>False
@[go_sem] theorem aKa (K:a8->Prop)(s k sz:Nat):lk K st (.nj s k sz)=T3 K st s k sz (st.tm s):=by
 unfold lk T3;rfl
@[go_sem] theorem aKb (K:a8->Prop)(s k sz:Nat):T3 K st s k sz .nil=K ⟨e5 st.tm s (.ref k (bZ st.mem k) sz 0 0),a2 st.mem k (bZ st.mem k) []⟩:=bx
end
section
variable {K:a8->Prop} {st:a8}
theorem aq0 (fM i k k':Nat){g8:Nat}{gO:List R}{g sz off len:Nat}{cs:List R}(G:st.mem fM=some (g8,gO))(I:gO[i]?=some (.ref k g sz off len))(af:st.mem k=some (g,cs))(aS:k≠fM)(bm:k'≠k)(bV:k'≠fM)
  (h:K ⟨st.tm,a2 (a2 (a2 st.mem k (bZ st.mem k) []) k' (bZ st.mem k') cs) fM g8 (gO.set i (.ref k' (bZ st.mem k') sz off len))⟩):lk K st .move :=
 .inr (.inl ⟨fM,g8,gO,i,k,g,sz,off,len,cs,k',G,I,af,aS,bm,bV,h⟩)
def BG (K:a8->Prop)(st:a8)(s k g sz off len:Nat):Option (Nat×List R)->Prop
 |some (c7,cs)=>if c7=g/\nX cs=true then (match cut cs off (len*sz) with
  |some part=>(match part.mapM (cC 0 st.mem) with
   |some ds=>K ⟨e5 st.tm s (.J (.Y (chunk sz len ds))),kill st.mem k⟩
   |none=>False)
  |none=>False) else False
 |none=>False
def T4 (K:a8->Prop)(st:a8)(s:Nat):R->Prop
 |.ref k g sz off len=>BG K st s k g sz off len (st.mem k)
 |_=>False
@[go_sem] theorem aKc (s:Nat):lk K st (.freeze s)=T4 K st s (st.tm s):=by
 unfold lk T4;dsimp only
 cases hm:st.tm s with
 |ref k g sz off len=>?_
 |_=>rfl
 dsimp only;unfold BG
 cases O:st.mem k with
 |none=>rfl
 |some x =>
  obtain⟨c7,cs⟩:=x;simp only
  by_cases H:c7=g/\nX cs=true
  ·rw[ad H,ad H];unfold cC;rw[O];simp only[H.1,if_true]
   cases yf:cut cs off (len*sz) with
   |none=>rfl
   |some part =>
    simp only
    cases aE:part.mapM (cC 0 st.mem)<;>rfl
  ·rw[ah H,ah H]
@[go_sem] theorem aKd (s k g sz off len:Nat):T4 K st s (.ref k g sz off len)=BG K st s k g sz off len (st.mem k):=bx
@[go_sem] theorem aKe (mem:Mem)(k:Key):kill mem k=a2 mem k (bZ mem k) []:=bx
end
open Classical in
def cj {α:Type}(wP:α->List Data)(f:α->Option eN):List Data->Option eN:=λds=>if h:∃a,wP a=ds then f (tN h) else none
theorem ct {α:Type}{wP:α->List Data}{f:α->Option eN}(inj:∀a b,wP a=wP b->a=b)(a:α):cj wP f (wP a)=f a:=by
 have h:∃b,wP b=wP a:=⟨a,rfl⟩;unfold cj;rw[dif_pos h,inj _ _ (pn h)]
theorem aq1 {α:Type}{wP:α->List Data}{f:α->Option eN}{ds:List Data}{r:eN}(h:cj wP f ds=some r):∃a,ds=wP a/\f a=some r:=by
 unfold cj at h
 split at h
 ·rename_i Q;exact⟨_,(pn Q).symm,h⟩
 ·cases h
open Classical in
def cM (c:Prop)(r:eN):Option eN:=if c then some r else none
theorem cR {c:Prop}(h:c)(r:eN):cM c r=some r:=by unfold cM;rw[ad h]
@[go_sem] theorem aKf (aQ:List Data->Option eN)(args:List R)(mem:Mem):aU aQ args mem=Gn aQ (args.mapM (cC 6 emp)) (args.mapM (cC 6 mem)):=bx
theorem map_inj {α β:Type}{f:α->β}(h:∀a b,f a=f b->a=b):∀(l fu:List α),l.map f=fu.map f->l=fu:=by
 intro l
 induction l with
 |nil=>intro fu e;cases fu<;>simp_all
 |cons a r aA =>
  intro fu e
  cases fu with
  |nil=>simp at e
  |cons b FZ =>
   simp only[ev,a3] at e;rw[h _ _ e.1,aA _ e.2]
def Oz (l:List (FuncId×(List Data->Option eN))):FuncId->Option (List Data->Option eN):=λf=>(l.find? λp=>p.1==f).map (·.2)
theorem rF {P:Program}{l:List (FuncId×(List Data->Option eN))}(h:∀p∈l,tL P p.1 p.2):∀f aQ,Oz l f=some aQ->tL P f aQ:=by
 intro f aQ aJ;unfold Oz at aJ;rw[ea] at aJ;obtain⟨p,aE,rfl⟩:=aJ;have G:=List.mem_of_find?_eq_some aE;have I:=List.find?_some aE;have af:p.1=f:=by simpa using I
 exact af ▸ h p G
theorem b7 {P:Program}:∀p∈([]:List (FuncId×(List Data->Option eN))),tL P p.1 p.2:=by simp
theorem a4 {P:Program}{f:FuncId}{aQ:List Data->Option eN}{l:List (FuncId×(List Data->Option eN))}(h:tL P f aQ)(aw:∀p∈l,tL P p.1 p.2):∀p∈(f,aQ)::l,tL P p.1 p.2:=by
 intro p aE;rcases hK.1 aE with rfl|aE
 ·exact h
 ·exact aw p aE
theorem aeJ {lZ:FuncId->Option (List Data->Option eN)}{f:FuncId}{aQ:List Data->Option eN}(h:lZ f=some aQ):BE lZ f=aU aQ:=by
 funext args mem
 unfold BE;rw[h]
@[go_sem] theorem aKg (mem:Mem)(k:Key)(z:List R)(b m:Nat)(new:List R):rm mem k z b .nil (some (m,new)) =
  if m*b<=140737488355328/\m<=maxLen/\new.all R.one=true then some (.ref k (bZ mem k) (D z) 0 m,some (k,bZ mem k,new)) else none:=bx
@[go_sem] theorem aKh (mem:Mem)(k k':Key)(z:List R)(g sz b len m:Nat)(new:List R):rm mem k z b (.ref k' g sz 0 len) (some (m,new)) =
  if sz=(D z) then mq k' g sz len b m new (mem k') else none:=by
 unfold rm;simp
def a9 {α:Type}(enc:α->List Data)(l:List α):List R:=(l.map enc).flatten.map .J
section
variable {α:Type} {enc:α->List Data} {sz:Nat}
theorem aq2:a9 enc []=[]:=rfl
theorem yr (a:α)(l:List α):a9 enc (a::l)=(enc a).map .J++a9 enc l:=by simp[a9]
theorem T5 (a b:List α):a9 enc (a++b)=a9 enc a++a9 enc b:=by simp[a9]
theorem oP (h:∀a,(enc a).length=sz)(l:List α):(a9 enc l).length=D l*sz:=by
 induction l with
 |nil=>simp[a9]
 |cons a r aA=>rw[yr,fG,aA,ak,h,h4,qm,Nat.one_mul,Nat.add_comm]
theorem aeK (h:∀a,(enc a).length=sz){l:List α}{i:Nat}{a:α}(M:l[i]?=some a):∃p q,a9 enc l=p++((enc a).map .J++q)/\D p=i*sz/\∀b,a9 enc (l.set i b)=p++((enc b).map .J++q):=by
 have az:=(dU.1 M).1;have iU:l[i]=a:=(dU.1 M).2
 have e:l=l.take i++a::l.drop (i+1):=by
  rw[<-iU,<-ir az,tO]
 refine⟨a9 enc (l.take i),a9 enc (l.drop (i+1)),?_,?_,λb=>?_⟩
 ·conv=>lhs;rw[e]
  rw[T5,yr]
 ·rw[oP h,gF];congr 1;omega
 ·rw[List.set_eq_take_append_cons_drop,ad az,T5,yr]
theorem T6 (h:∀a,(enc a).length=sz){l:List α}{i:Nat}{a:α}(M:l[i]?=some a){f n:Nat}(aJ:f+n<=sz):cut (a9 enc l) (i*sz+f) n=some ((((enc a).map .J).drop f).take n):=by
 obtain⟨p,q,e,aE,-⟩:=aeK h M;have aN:=h a;unfold cut;rw[e,ad (by simp only[fG,ak];omega),<-aE];rw[oQ,jJ (by omega)];rw[show (D p)+f-D p=f by omega,jk,oQ,List.take_append]
 have:n-(((enc a).map R.J).drop f).length=0:=by simp only[rG,ak];omega
 rw[this,ns,fv]
theorem aeL (h:∀a,(enc a).length=sz){l:List α}{i:Nat}(M:i<D l)(b:α):kP (a9 enc l) (i*sz) ((enc b).map .J)=a9 enc (l.set i b):=by
 obtain⟨p,q,e,aE,X⟩:=aeK h (bs M);rw[X b,e];have aN:=h l[i];have ag:=h b;unfold kP;rw[<-aE,T7,gb]
 congr 2
 rw[oQ,jJ (by omega),jk,ak,show (D p)+(enc b).length-D p=(enc b).length by omega,ag,<-aN,<-ak (f:=R.J),T8]
theorem aq3 (bO:∀a,((enc a).map R.J).all R.one=true)(l:List α):(a9 enc l).all R.one=true:=by
 induction l with
 |nil=>rfl
 |cons a r aA=>rw[yr,List.all_append,bO,aA];rfl
theorem DO (h:∀a,(enc a).length=sz)(bO:∀a,((enc a).map R.J).all R.one=true)(k g b:Nat)(l new:List α)(ag:(D l+D new)*b<=140737488355328)(hm:(D l)+D new<=1000000000):
  mq k g sz (D l) b (D new) (a9 enc new) (some (g,a9 enc l))=some (.ref k (g+1) sz 0 (D l+D new),some (k,g+1,a9 enc (l++new))):=by
 unfold mq;have n3:(D l)+D new<=maxLen:=eQ hm (by decide);dsimp only;rw[ad ⟨rfl,by rw[oP h];exact b0 _,ag,n3,aq3 bO new⟩,T5,dr (by rw[oP h];exact b0 _)]
theorem lv (h:∀a,(enc a).length=sz)(bO:∀a,((enc a).map R.J).all R.one=true)(k g b:Nat)(l:List α)(a:α){cs:List R}(H:cs=(enc a).map .J)(ag:(D l+1)*b<=140737488355328)(hm:(D l)+1<=1000000000):
  mq k g sz (D l) b 1 cs (some (g,a9 enc l))=some (.ref k (g+1) sz 0 (D l+1),some (k,g+1,a9 enc (l++[a]))):=by
 have:=DO h bO k g b l [a] ag hm;rw[H];rw[yr,aq2,fv] at this;exact this
theorem tP (f:R->Option Data)(aJ:∀d,f (.J d)=some d)(l:List Data):(l.map R.J).mapM f=some l:=by
 induction l with
 |nil=>rfl
 |cons a r aA=>simp[aJ,aA]
theorem yt:∀(l:List (List Data)),(∀e∈l,D e=sz)->chunk sz (D l) l.flatten=l:=by
 intro l
 induction l with
 |nil=>intro _;rfl
 |cons e r aA =>
  intro h;have he:=h e (by simp);rw[h4,jD,chunk];rw[<-he,T7,T8,he,aA λx Q=>h x (by simp[Q])]
theorem qD (h:∀a,(enc a).length=sz){n k g:Nat}{mem:Mem}{l:List α}(hm:mem k=some (g,a9 enc l)):cC (n+1) mem (.ref k g sz 0 (D l))=some (.Y (l.map enc)):=by
 unfold cC;rw[hm];simp only[if_true];unfold cut;rw[kv,oP h,ad (b0 _)];simp only[l0];rw[dr (by rw[oP h];exact b0 _)];unfold a9;rw[tP _ λd=>by cases n<;>rfl]
 have:=yt (sz:=sz) (l.map enc) (by simpa using λa _=>h a);rw[ak] at this;simp[this]
end
theorem aeM {α:Type}(enc:α->List Data)(l:List α):nX (a9 enc l)=true:=by
 unfold nX a9;rw[lU];intro m hm;rw[dR] at hm;obtain⟨d,_,rfl⟩:=hm
 rfl
theorem lx {α:Type}{enc:α->List Data}{sz:Nat}(h:∀a,(enc a).length=sz){K:a8->Prop}{st:a8}(s k g:Nat)(l:List α):
  BG K st s k g sz 0 (D l) (some (g,a9 enc l))=K ⟨e5 st.tm s (.J (.Y (l.map enc))),kill st.mem k⟩:=by
 have ab:=qD (n:=0) h (mem:=a2 st.mem k g (a9 enc l)) (k:=k) (g:=g) (l:=l) (by simp[a2]);unfold BG;dsimp only;rw[ad ⟨rfl,aeM enc l⟩];unfold cut;rw[kv,oP h,ad (b0 _)];dsimp only;rw[l0,dr (by rw[oP h];exact b0 _)];unfold a9;rw[tP _ λd=>rfl];dsimp only;have:=yt (sz:=sz) (l.map enc) (by simpa using λa _=>h a);rw[ak] at this;rw[this]
theorem wrap64 (x:Int)(G:-9223372036854775808<=x)(I:x<=9223372036854775807):IntKind.i64.wrap x=x:=by
 rw[IntKind.wrap_i64];omega
theorem aeN {α:Type}(l:List α)(i:Int)(ar:0<=i)(h:i<D l):∃x,l[i.toNat]?=some x/\l.drop i.toNat=x::l.drop (i+1).toNat/\l.take (i+1).toNat=l.take i.toNat++[x]:=by
 have az:i.toNat<D l:=by omega
 have e:(i+1).toNat=i.toNat+1:=by omega
 refine⟨l[i.toNat],bs az,?_,?_⟩
 ·rw[e];exact ir az
 ·rw[e];rw[g4,bs az];rfl
abbrev WP (T:bb)(mf:bP)(r:eN)(l:List R):Prop:=wp T mf.body (zN mf.res r) ⟨ka l,emp⟩
theorem cu {T:bb}{c:eu}{K:eT->a8->Prop}{st:a8}(h:wp T c (cD T K []) st):wp T c K st:=qz h
theorem e2 (x:Int)(G:-9223372036854775808<=x:=by omega)(I:x<=9223372036854775807:=by omega):IntKind.i64.wrap x=x:=wrap64 x G I
theorem eA {i:Nat}(h:i<1000000000000):IntKind.i64.wrap ((i:Int)+1)=((i+1:Nat):Int):=by rw[wrap64 _ (by omega) (by omega)];omega
end Go.Mini
namespace Go.Mini
open Go Go.ChangeShapes Go.WideShapes
inductive qE where
 |int (k:IntKind)
 |bool
 |str
 |Y (e:qE)
 |st (l:List qE)
mutual
def Fit:qE->List Data->Prop
 |.int k,ds=>∃n,ds=[.int k n]/\(Lit.int k n).wf=true
 |.bool,ds=>∃b,ds=[.bool b]
 |.str,ds=>∃s,ds=[.str s]/\D s<=maxLen
 |.Y e,ds=>∃es,ds=[.Y es]/\D es<=maxLen/\∀x∈es,Fit e x
 |.st l,ds=>Fits l ds
def Fits:List qE->List Data->Prop
 | [],ds=>ds=[]
 |s::r,ds=>∃a b,ds=a++b/\Fit s a/\Fits r b
end
def Kn (P:Program):Nat->List Field->Nat->Bool
 |off,[],tot=>off==tot
 |off,f::r,tot=>f.offset==off&&Kn P (off+P.cellsOf f.type) r tot
def Ko (g:TypeId->Option qE):List Field->Option (List qE)
 | []=>some []
 |f::r=>match g f.type,Ko g r with
  |some s,some l=>some (s::l)
  |_,_=>none
def sA (P:Program):Nat->TypeId->Option qE
 |0,_=>none
 |n+1,t=>match P.underlying t with
  |some .bool=>some .bool
  |some (.int k)=>some (.int k)
  |some .string=>some .str
  |some (.slice e)=>if 0<P.cellsOf e then (sA P n e).map .Y else none
  |some (.struct dN)=>if Kn P 0 dN.toList (P.cellsOf t)=true then (Ko (sA P n) dN.toList).map .st else none
  |_=>none
section
variable {hS:Type} {enc:TypeId×Value->hS} {P:Program} {w:World} {base:Nat}
def Kp (enc:TypeId×Value->hS)(P:Program)(w:World)(base:Nat)(S:qE)(fuel:Nat)(t:TypeId)(cs:List Value)(x:DataW hS×List MemPlace):Prop :=
 (∃ds,Fit S ds/\zL w (λ_=>False) ds cs)/\(∀p∈x.2,p.block<w.heap.size) /\
 ∀(aR:World) (sp:Nat->Bool),(∀p∈x.2,sp p.block=true)->(∀b,b<w.heap.size->aR.heap[b]?=w.heap[b]?)->DataW.trod enc P aR base sp true fuel t cs=some x
theorem Kq {aZ:Nat->Prop}{d:Data}{v:Value}(h:Den w aZ d v):zL w aZ [d] [v]:=by
 refine⟨rfl,λi yj Dt G I=>?_⟩
 cases i with
 |zero=>cases G;cases I;exact h
 |succ i=>simp at G
theorem aeO (a:Addr)(i:Nat):(a.add i).block=a.block:=by
 unfold Addr.add
 split<;>rfl
theorem add_plain (b off i:Nat):(Addr.add ⟨b,off,none⟩ i)=⟨b,off+i,none⟩:=by
 unfold Addr.add
 split
 ·rename_i h;subst h;rfl
 ·rfl
theorem aeP {aR:World}{a:Addr}{n:Nat}{cs:List Value}(h:w.cells? base a n=some cs)(O:∀b,b<w.heap.size->aR.heap[b]?=w.heap[b]?):aR.cells? base a n=some cs:=by
 unfold World.cells? at h ⊢
 split at h
 ·rename_i ag;rw[ad ag,<-h]
  by_cases az:a.block<w.heap.size
  ·have he:(λi=>aR.cell? (a.add i))=λi=>w.cell? (a.add i):=by
    funext i
    exact World.cell?_of_block (a:=a.add i) (O _ (by rw[aeO];exact az))
   rw[he]
  ·cases n with
   |zero=>rfl
   |succ n =>
    exfalso
    have:w.cell? (a.add 0)=none:=by
     unfold World.cell?;have:w.heap[(a.add 0).block]?=none:=Array.getElem?_eq_none (by rw[aeO];omega);rw[this]
    rw[List.range_succ_eq_map,ll,this] at h
    cases h
 ·cases h
theorem T9 {a:Addr}{n:Nat}{cs:List Value}(h:w.cells? base a n=some cs):(D cs)=n/\∀i,i<n->∃v,cs[i]?=some v/\w.cell? (a.add i)=some v:=by
 unfold World.cells? at h
 split at h
 ·obtain⟨G,I⟩:=oK h;rw[pW] at G;refine⟨G,λi M=>?_⟩;have H:=bs (l:=cs) (i:=i) (by omega);exact⟨_,H,I i i _ (by simp[M]) H⟩
 ·cases h
theorem aq4 {a:Addr}{v:Value}(h:w.cell? a=some v):a.block<w.heap.size/\a.spot=none:=by
 unfold World.cell? at h
 split at h
 ·rename_i ag;refine⟨(Array.getElem?_eq_some_iff.1 ag).1,?_⟩
  cases X:a.spot with
  |none=>rfl
  |some x=>rw[X] at h;simp at h
 ·cases h
theorem mapM_congr {α β:Type}{f g:α->Option β}:∀{l:List α},(∀x∈l,f x=g x)->l.mapM f=l.mapM g:=by
 intro l
 induction l with
 |nil=>intro _;rfl
 |cons a r aA =>
  intro h;rw[ll,ll,h a (by simp),aA λx Q=>h x (by simp[Q])]
theorem aq5 {β:Type}(len:Nat)(aM:Nat->β->Prop)(h:∀i,i<len->∃y,aM i y):∃l:List β,D l=len/\∀i y,l[i]?=some y->aM i y:=by
 induction len with
 |zero=>exact⟨[],rfl,λi y h=>by simp at h⟩
 |succ n aA =>
  obtain⟨l,G,I⟩:=aA λi M=>h i (by omega);obtain⟨y,av⟩:=h n (by omega);refine⟨l++[y],by simp[G],λi z aW=>?_⟩
  rw[F6] at aW
  split at aW
  ·exact I i z aW
  ·rename_i az
   have:i-D l=0:=by
    have:=(dU.1 aW).1;simp at this;omega
   rw[this] at aW
   cases aW;have:i=n:=by omega
   subst this;exact av
theorem aq6 {β:Type}{sz:Nat}:∀(es:List (List β)),(∀e∈es,D e=sz)->0<sz->∀(i:Nat) (d:β),es.flatten[i]?=some d->∃e,es[i/sz]?=some e/\e[i%sz]?=some d:=by
 intro es
 induction es with
 |nil=>intro _ _ i d h;simp at h
 |cons e r aA =>
  intro h aW i d aa;have he:=h e (by simp);rw[jD,F6] at aa
  split at aa
  ·rename_i az;rw[he] at az;refine⟨e,by rw[Ua az];rfl,by rw[Kr az];exact aa⟩
  ·rename_i b4;rw[he] at aa b4;obtain⟨x,G,I⟩:=aA (λy av=>h y (by simp[av])) aW _ d aa;have M:i=(i-sz)+sz:=by omega
   refine⟨x,?_,?_⟩
   ·rw[M,Nat.add_div_right _ aW]
    simpa using G
   ·rw[M,Nat.add_mod_right];exact I
theorem aq7 {n fuel:Nat}(aA:∀t S,sA P n t=some S->∀(cs:List Value) (x:DataW hS×List MemPlace),DataW.trod enc P w base (λ_=>true) true fuel t cs=some x->Kp enc P w base S fuel t cs x)(cs:List Value):
  ∀(dN:List Field) (off:Nat) (l:List qE) (xs:List (DataW hS×List MemPlace)),Ko (sA P n) dN=some l->Kn P off dN (D cs)=true ->
   dN.mapM (λf=>DataW.trod enc P w base (λ_=>true) true fuel f.type ((cs.drop f.offset).take (P.cellsOf f.type)))=some xs ->
   (∃ds,Fits l ds/\zL w (λ_=>False) ds (cs.drop off))/\(∀p∈xs.flatMap (·.2),p.block<w.heap.size) /\
   ∀(aR:World) (sp:Nat->Bool),(∀p∈xs.flatMap (·.2),sp p.block=true)->(∀b,b<w.heap.size->aR.heap[b]?=w.heap[b]?) ->
    dN.mapM (λf=>DataW.trod enc P aR base sp true fuel f.type ((cs.drop f.offset).take (P.cellsOf f.type)))=some xs:=by
 intro dN
 induction dN with
 |nil =>
  intro off l xs aw bz Q;simp only[Ko,cl] at aw;subst aw;simp only[Kn,beq_iff_eq] at bz;simp only[Gq,hg,cl] at Q;subst Q;refine⟨⟨[],rfl,?_⟩,by simp,λ_ _ _ _=>rfl⟩
  rw[bz,Ub];exact⟨rfl,λi d v h=>by simp at h⟩
 |cons f r ihf =>
  intro off l xs aw bz Q;unfold Ko at aw
  split at aw
  ·rename_i s fu X NV
   cases aw
   simp only[Kn,eW,beq_iff_eq] at bz;obtain⟨Ty,bz⟩:=bz;rw[ll] at Q;simp only[hg,ho,ek,cl] at Q;obtain⟨x,oR,ys,aq8,rfl⟩:=Q;obtain⟨⟨Uc,Ud,Gu⟩,aq9,ara⟩:=aA _ _ X _ _ oR;obtain⟨⟨DP,kY,eR⟩,arb,arc⟩:=ihf _ _ _ NV bz aq8;refine⟨⟨Uc++DP,⟨Uc,DP,rfl,Ud,kY⟩,?_⟩,?_,?_⟩
   ·have adB:cs.drop off=(cs.drop off).take (P.cellsOf f.type)++cs.drop (off+P.cellsOf f.type):=by
     rw[<-Gl,tO]
    rw[Ty] at Gu;rw[adB];refine⟨by rw[fG,fG,Gu.1,eR.1],λi d v G I=>?_⟩
    rw[F6] at G I;have hlen:=Gu.1
    by_cases az:i<D Uc
    ·rw[ad az] at G;rw[ad (by omega)] at I;exact Gu.2 i d v G I
    ·rw[ah az] at G;rw[ah (by omega),hlen] at I;exact eR.2 _ d v G I
   ·intro p aE;rw[qF,jj] at aE;exact aE.elim (aq9 p) (arb p)
   ·intro aR sp jv O;rw[ll,ara aR sp (λp aE=>jv p (by rw[qF,jj];exact .inl aE)) O];have:=arc aR sp (λp aE=>jv p (by rw[qF,jj];exact .inr aE)) O;simp only[hg,ho,ky];rw[this]
    rfl
  ·cases aw
theorem ard:∀(n:Nat) (t:TypeId) (S:qE),sA P n t=some S->∀(fuel:Nat) (cs:List Value) (x:DataW hS×List MemPlace),DataW.trod enc P w base (λ_=>true) true fuel t cs=some x->Kp enc P w base S fuel t cs x:=by
 intro n
 induction n with
 |zero=>intro t S h;simp[sA] at h
 |succ n aA =>
  intro t S cN fuel cs x Q
  cases fuel with
  |zero=>cases Q
  |succ fuel =>
   unfold sA at cN
   split at cN
   ·-- bool
    rename_i hu
    cases cN
    have key:∀(aR:World) (sp:Nat->Bool) (cs:List Value),DataW.trod enc P aR base sp true (fuel+1) t cs=match cs with|[.bool b]=>some (.lit (.bool b),[])|_=>none:=by
     intro aR sp cs;unfold DataW.trod;rw[hu];clear Q
     split<;>simp_all
    rw[key] at Q
    split at Q
    ·cases Q;exact⟨⟨_,⟨_,rfl⟩,Kq .bool⟩,by simp,λaR sp _ _=>by rw[key]⟩
    ·cases Q
   ·-- int
    rename_i k hu
    cases cN
    have key:∀(aR:World) (sp:Nat->Bool) (cs:List Value),DataW.trod enc P aR base sp true (fuel+1) t cs=match cs with|[.int k' n]=>if k'=k/\(Lit.int k n).wf=true then some (.lit (.int k n),[]) else none|_=>none:=by
     intro aR sp cs;unfold DataW.trod;rw[hu];clear Q
     split<;>simp_all
    rw[key] at Q
    split at Q
    ·split at Q
     ·rename_i H
      cases Q;obtain⟨rfl,aeQ⟩:=H;exact⟨⟨_,⟨_,rfl,aeQ⟩,Kq .int⟩,by simp,λaR sp _ _=>by rw[key];simp[aeQ]⟩
     ·cases Q
    ·cases Q
   ·-- string
    rename_i hu
    cases cN
    have key:∀(aR:World) (sp:Nat->Bool) (cs:List Value),DataW.trod enc P aR base sp true (fuel+1) t cs=match cs with|[.string s]=>if s.size<=maxLen then some (.lit (.string s.data.toList),[]) else none|_=>none:=by
     intro aR sp cs;unfold DataW.trod;rw[hu];clear Q
     split<;>simp_all
    rw[key] at Q
    split at Q
    ·rename_i s
     split at Q
     ·rename_i H
      cases Q;refine⟨⟨[.str s.data.toList],⟨_,rfl,?_⟩,Kq ?_⟩,by simp,λaR sp _ _=>by rw[key];simp[H]⟩
      ·rw[Array.length_toList];exact H
      ·have:Den w (λ_=>False) (.str s.data.toList) (.string ⟨s.data.toList.toArray⟩):=.str
       simpa using this
     ·cases Q
    ·cases Q
   ·-- slice
    rename_i e hu
    split at cN
    ·rename_i H;rw[ea] at cN;obtain⟨S,cN,rfl⟩:=cN
     have key:∀(aR:World) (sp:Nat->Bool) (cs:List Value),DataW.trod enc P aR base sp true (fuel+1) t cs=match cs with
      | [.slice none 0 0]=>some (.nil,[])
      | [.slice (some a) len cap] =>
       if base<=a.block/\len<=cap/\cap<=maxLen then
        ((
         dF len).mapM λi=>(aR.cells? base (a.add (i*P.cellsOf e)) (P.cellsOf e)).bind (DataW.trod enc P aR base sp true fuel e)).bind λelems =>
         (if sp a.block then (dF (cap-len)).mapM λj=>(aR.cells? base (a.add ((len+j)*P.cellsOf e)) (P.cellsOf e)).bind (DataW.trod enc P aR base sp true fuel e) else some []).map λrest =>
          (.slice (elems.map (·.1)) (rest.map (·.1)),MemPlace.row a ((D elems+D rest)*P.cellsOf e)++(elems++rest).flatMap (·.2))
       else none
      |_=>none:=by
      intro aR sp cs
      conv=>lhs;unfold DataW.trod
      rw[hu];clear Q
      split<;>simp_all
     rw[key] at Q
     split at Q
     ·cases Q;exact⟨⟨[.Y []],⟨_,rfl,ft _,by simp⟩,Kq .lR⟩,by simp,λaR sp _ _=>by rw[key];rfl⟩
     ·rename_i a len cap
      split at Q
      ·rename_i ag;rw[ek] at Q;obtain⟨elems,he,Q⟩:=Q;rw[ea] at Q;obtain⟨rest,ab,rfl⟩:=Q;rw[ad rfl] at ab;obtain⟨kT,arf⟩:=oK he;obtain⟨bW,arh⟩:=oK ab;rw[pW] at kT bW
       -- each place
       have cn:∀i y,(i<len->elems[i]?=some y)->(¬ i<len->i<cap/\rest[i-len]?=some y)->∃ci,w.cells? base (a.add (i*P.cellsOf e)) (P.cellsOf e)=some ci/\DataW.trod enc P w base (λ_=>true) true fuel e ci=some y:=by
        intro i y G I
        by_cases M:i<len
        ·have:=arf i i y (by simp[M]) (G M);rwa [ek] at this
        ·obtain⟨af,aS⟩:=I M;have:=arh (i-len) (i-len) y (List.getElem?_range (by omega)) aS;rw[show len+(i-len)=i by omega,ek] at this
         exact this
       have fk:0<D elems+(D rest)->a.block<w.heap.size/\a.spot=none:=by
        intro aE;have ar:0<cap:=by omega
        have:∃y,(0<len->elems[0]?=some y)/\(¬ 0<len->0<cap/\rest[0-len]?=some y):=by
         by_cases aw:0<len
         ·exact⟨elems[0],λ_=>bs _,λh=>absurd aw h⟩
         ·exact⟨rest[0],λh=>absurd h aw,λ_=>⟨ar,by rw[Nat.zero_sub];exact bs _⟩⟩
        obtain⟨y,G,I⟩:=this;obtain⟨ci,jN,-⟩:=cn 0 y G I;obtain⟨v,-,aq⟩:=(T9 jN).2 0 H;have:=aq4 aq;rw[DQ] at this;have bl:(a.add 0).add 0=a:=by unfold Addr.add;simp
        rw[bl] at this;exact this
       have aeR:∀i y,(i<len->elems[i]?=some y)->(¬ i<len->i<cap/\rest[i-len]?=some y)->∃ci,w.cells? base (a.add (i*P.cellsOf e)) (P.cellsOf e)=some ci/\Kp enc P w base S fuel e ci y:=by
        intro i y G I;obtain⟨ci,af,aS⟩:=cn i y G I;exact⟨ci,af,aA e S cN fuel ci y aS⟩
       have Ue:∀(i:Nat) y,elems[i]?=some y->∃ci,w.cells? base (a.add (i*P.cellsOf e)) (P.cellsOf e)=some ci/\Kp enc P w base S fuel e ci y :=
        λi y av=>aeR i y (λ_=>av) (λh=>absurd (by have:=(dU.1 av).1;omega) h)
       have aeS:∀(j:Nat) y,rest[j]?=some y->∃ci,w.cells? base (a.add ((len+j)*P.cellsOf e)) (P.cellsOf e)=some ci/\Kp enc P w base S fuel e ci y :=
        λj y av=>aeR (len+j) y (λh=>by omega) (λ_=>⟨by have:=(dU.1 av).1;omega,by rwa [Gv]⟩)
       refine⟨?_,?_,?_⟩
       ·obtain⟨es,Uf,heq⟩:=aq5 len (λi (ds:List Data)=>∃ci,w.cells? base (a.add (i*P.cellsOf e)) (P.cellsOf e)=some ci/\Fit S ds/\zL w (λ_=>False) ds ci) λi M=>by
         obtain⟨ci,G,⟨ds,I,af⟩,-,-⟩:=Ue i _ (bs (by omega));exact⟨ds,ci,G,I,af⟩
        refine⟨[.Y es],⟨es,rfl,by omega,λy av=>?_⟩,Kq ?_⟩
        ·obtain⟨i,M⟩:=tQ.1 av;obtain⟨ci,-,h,-⟩:=heq i y M;exact h
        ·by_cases aw:len=0
         ·rw[aw] at Uf ⊢;rw[tC Uf];exact .lR
         ·obtain⟨kY,eR⟩:=fk (by omega);obtain⟨b,off,spot⟩:=a;simp only at kY eR;subst eR
          have ew:∀y∈es,D y=P.cellsOf e:=by
           intro y av;obtain⟨i,M⟩:=tQ.1 av;obtain⟨ci,G,-,I⟩:=heq i y M;rw[<-I.1,(T9 G).1]
          have hU:∀(i:Nat) (d:Data),es.flatten[i]?=some d->∃v,w.cell? ⟨b,off+i,none⟩=some v/\Den w (λ_=>False) d v:=by
           intro i d aa;obtain⟨y,G,I⟩:=aq6 es ew H i d aa;obtain⟨ci,af,-,aS⟩:=heq _ y G;have hm:i%P.cellsOf e<P.cellsOf e:=Nat.mod_lt _ H;obtain⟨v,bm,bV⟩:=(T9 af).2 _ hm;rw[add_plain,add_plain,qu,rH,Nat.div_add_mod] at bV;exact⟨v,bV,aS.2 _ d v I bm⟩
          rw[<-Uf];refine .Y (sz:=P.cellsOf e) (λi=>(w.cell? ⟨b,off+i,none⟩).getD undef) (by omega) (by omega) kY (λh=>h) ew (λi M=>?_) λi d aa=>?_
          ·have az:i<D es.flatten:=by rw[NH ew];exact M
           obtain⟨v,aq,-⟩:=hU i _ (bs az);rw[aq]
           rfl
          ·obtain⟨v,aq,nn⟩:=hU i d aa;rw[aq];exact nn
       ·intro p aE;simp only[jj] at aE;rcases aE with aE|aE
        ·unfold MemPlace.row at aE;rw[dR] at aE;obtain⟨i,M,rfl⟩:=aE;rw[gR] at M
         have:0<D elems+D rest:=by
          rcases kW (D elems+D rest) with h|h
          ·rw[h,DQ] at M;omega
          ·exact h
         exact (fk this).1
        ·rw[yk] at aE;obtain⟨y,av,aE⟩:=aE;rw[jj] at av;rcases av with av|av
         ·obtain⟨i,M⟩:=tQ.1 av;obtain⟨ci,-,h⟩:=Ue i y M;exact h.2.1 p aE
         ·obtain⟨i,M⟩:=tQ.1 av;obtain⟨ci,-,h⟩:=aeS i y M;exact h.2.1 p aE
       ·intro aR sp jv O;rw[key];simp only;rw[ad ag]
        have eS:0<D elems+(D rest)->sp a.block=true:=by
         intro aE
         have:=jv (.cell a.block (a.off+0)) (by
          rw[jj]
          left
          unfold MemPlace.row;rw[dR];exact⟨0,by rw[gR];exact Nat.mul_pos aE H,rfl⟩)
         exact this
        have ari:(dF len).mapM (λi=>(aR.cells? base (a.add (i*P.cellsOf e)) (P.cellsOf e)).bind (DataW.trod enc P aR base sp true fuel e))=some elems:=by
         rw[<-he];refine mapM_congr λi M=>?_;rw[gR] at M;have av:=bs (l:=elems) (i:=i) (by omega);obtain⟨ci,G,I⟩:=Ue i _ av;rw[aeP G O,G];simp only[ky];obtain⟨arj,af,aS⟩:=cn i _ (λ_=>av) (λh=>absurd M h);rw[G] at af
         cases af;rw[aS]
         exact I.2.2 aR sp (λp aE=>jv p (by
          rw[jj];right
          rw[yk];exact⟨_,jj.2 (.inl (ee av)),aE⟩)) O
        have ark:(dF (cap-len)).mapM (λj=>(aR.cells? base (a.add ((len+j)*P.cellsOf e)) (P.cellsOf e)).bind (DataW.trod enc P aR base sp true fuel e))=some rest:=by
         rw[<-ab];refine mapM_congr λj aj=>?_;rw[gR] at aj;have av:=bs (l:=rest) (i:=j) (by omega);obtain⟨ci,G,I⟩:=aeS j _ av;rw[aeP G O,G];simp only[ky];obtain⟨arj,af,aS⟩:=cn (len+j) rest[j] (λh=>by omega) (λ_=>⟨by omega,by rw[Gv];exact av⟩);rw[G] at af
         cases af;rw[aS]
         exact I.2.2 aR sp (λp aE=>jv p (by
          rw[jj];right
          rw[yk];exact⟨_,jj.2 (.inr (ee av)),aE⟩)) O
        rw[ari];simp only[ky]
        cases X:sp a.block with
        |true=>simp only[if_true];rw[ark];rfl
        |false =>
         have aW:¬ 0<D elems+D rest:=λh=>by rw[eS h] at X;cases X
         have:rest=[]:=tC (by omega);subst this
         rfl
      ·cases Q
     ·cases Q
    ·cases cN
   ·-- struct
    rename_i dN hu
    split at cN
    ·rename_i bz;rw[ea] at cN;obtain⟨l,aw,rfl⟩:=cN
     have key:∀(aR:World) (sp:Nat->Bool),DataW.trod enc P aR base sp true (fuel+1) t cs =
       if (D cs)=P.cellsOf t then (dN.toList.mapM λf=>DataW.trod enc P aR base sp true fuel f.type ((cs.drop f.offset).take (P.cellsOf f.type))).map λxs=>(.agg (xs.map (·.1)),xs.flatMap (·.2)) else none:=by
      intro aR sp
      conv=>lhs;unfold DataW.trod
      rw[hu]
     rw[key] at Q
     split at Q
     ·rename_i hlen;rw[ea] at Q;obtain⟨xs,BC,rfl⟩:=Q;rw[<-hlen] at bz;obtain⟨G,I,af⟩:=aq7 (λt S h cs x Q=>aA t S h fuel cs x Q) cs dN.toList 0 l xs aw bz BC;refine⟨?_,I,λaR sp jv O=>?_⟩
      ·obtain⟨ds,aJ,aa⟩:=G;exact⟨ds,aJ,by simpa using aa⟩
      ·rw[key,ad hlen,af aR sp jv O]
       rfl
     ·cases Q
    ·cases cN
   ·cases cN
end
end Go.Mini
namespace Go.Mini
open Go Go.ChangeShapes Go.WideShapes Go.RowKit
def aeT:qE->Data->Prop
 |.st l,d=>∃cs,d=.agg cs/\Fits l cs
 |s,d=>Fit s [d]
def OA:List qE->List Data->Prop
 | [],ds=>ds=[]
 |s::r,ds=>∃d t,ds=d::t/\aeT s d/\OA r t
section
variable {hS:Type} {enc:TypeId×Value->hS} {P:Program} {w:World}
theorem arl {aZ:Nat->Prop}{d:Data}{v:Value}{ds:List Data}{vs:List Value}(h:Den w aZ d v)(X:zL w aZ ds vs):zL w aZ (d::ds) (v::vs):=by
 refine⟨by simp[X.1],λi yj Dt G I=>?_⟩
 cases i with
 |zero=>cases G;cases I;exact h
 |succ i=>exact X.2 i yj Dt (by simpa using G) (by simpa using I)
theorem arn {n:Nat}{t:TypeId}{S:qE}{v:Value}{d:DataW hS}{ps:List MemPlace}{sB:Nat}(cN:sA P n t=some S)(hU:Value.okWide P w .any sB t v)(h:DataW.Trod enc P w 0 (λ_=>true) true t v d ps):
  (∃cb,aeT S cb/\Den w (λ_=>False) cb v)/\(∀p∈ps,p.block<w.heap.size) /\
  ∀(aR:World) (sp:Nat->Bool),(∀p∈ps,sp p.block=true)->(∀b,b<w.heap.size->aR.heap[b]?=w.heap[b]?)->DataW.Trod enc P aR 0 sp true t v d ps:=by
 obtain⟨fuel,Q⟩:=h;obtain⟨⟨ds,aJ,aa⟩,I,af⟩:=ard n t S cN fuel _ _ Q;refine⟨?_,I,λaR sp jv O=>⟨fuel,af aR sp jv O⟩⟩
 have one:(∀cs,v ≠ .agg cs)->∀d,ds=[d]->Den w (λ_=>False) d v:=by
  intro aq d e;subst e;have:v.cells=#[v]:=by unfold Value.cells;split<;>simp_all
  rw[this] at aa;exact aa.2 0 d v rfl rfl
 cases n with
 |zero=>simp[sA] at cN
 |succ n =>
  unfold sA at cN;unfold Value.okWide at hU
  split at cN
  ·rename_i hu
   cases cN;rw[hu] at hU;obtain⟨b,rfl⟩:=aJ;refine⟨_,⟨b,rfl⟩,one ?_ _ rfl⟩;rintro cs rfl;simp[Cell.okWide,Cell.ok,hu] at hU
  ·rename_i k hu
   cases cN;rw[hu] at hU;obtain⟨b,rfl,ag⟩:=aJ;refine⟨_,⟨b,rfl,ag⟩,one ?_ _ rfl⟩;rintro cs rfl;simp[Cell.okWide,Cell.ok,hu] at hU
  ·rename_i hu
   cases cN;rw[hu] at hU;obtain⟨b,rfl,ag⟩:=aJ;refine⟨_,⟨b,rfl,ag⟩,one ?_ _ rfl⟩;rintro cs rfl;simp[Cell.okWide,Cell.ok,hu] at hU
  ·rename_i e hu
   split at cN
   ·rw[ea] at cN;obtain⟨S,cN,rfl⟩:=cN;rw[hu] at hU;obtain⟨b,rfl,ag⟩:=aJ;refine⟨_,⟨b,rfl,ag⟩,one ?_ _ rfl⟩;rintro cs rfl;simp[Cell.okWide,Cell.ok,hu] at hU
   ·cases cN
  ·rename_i dN hu
   split at cN
   ·rw[ea] at cN;obtain⟨l,aw,rfl⟩:=cN;rw[hu] at hU;obtain⟨cs,rfl,-,-⟩:=hU;refine⟨.agg ds,⟨ds,rfl,aJ⟩,?_⟩;have:Den w (λ_=>False) (.agg ds) (.agg cs.toList.toArray):=.agg aa.1 aa.2
    simpa using this
   ·cases cN
  ·cases cN
theorem Ug {n sB:Nat}:∀{tA:List TypeId} {schs:List qE} {vs:List Value} {ds:List (DataW hS)} {ps:List MemPlace},tA.mapM (sA P n)=some schs->(∀(j:Nat) t v,tA[j]?=some t->vs[j]?=some v->Value.okWide P w .any sB t v) ->
  DataW.TrodAll enc P w 0 (λ_=>true) true tA vs ds ps ->
  (∃sC,OA schs sC/\zL w (λ_=>False) sC vs)/\(∀p∈ps,p.block<w.heap.size) /\
  ∀(aR:World) (sp:Nat->Bool),(∀p∈ps,sp p.block=true)->(∀b,b<w.heap.size->aR.heap[b]?=w.heap[b]?)->DataW.TrodAll enc P aR 0 sp true tA vs ds ps
 | [],schs,vs,ds,ps,cN,hU,h=>by
  obtain⟨rfl,rfl,rfl⟩:=trodAll_nil h;simp at cN;subst cN;exact⟨⟨[],rfl,rfl,λi d v h=>by simp at h⟩,by simp,λ_ _ _ _=>rfl⟩
 |t::tA,schs,vs,ds,ps,cN,hU,h=>by
  obtain⟨v,aro,d,arp,a,b,rfl,rfl,rfl,G,I⟩:=trodAll_cons h;rw[ll] at cN;simp only[hg,ho,ek,cl] at cN;obtain⟨S,arq,l,aw,rfl⟩:=cN;obtain⟨⟨cb,kz,ars⟩,ia,b9⟩:=arn arq (hU 0 t v rfl rfl) G;obtain⟨⟨sC,art,aru⟩,iF,dc⟩:=Ug aw (λj arv Dt bz aq=>hU (j+1) arv Dt (by simpa using bz) (by simpa using aq)) I;refine⟨⟨cb::sC,⟨cb,sC,rfl,kz,art⟩,arl ars aru⟩,λp aE=>?_,λaR sp jv O=>?_⟩
  ·rw[jj] at aE;exact aE.elim (ia p) (iF p)
  ·exact trodAll_cons_mk (b9 aR sp (λp aE=>jv p (jj.2 (.inl aE))) O) (dc aR sp (λp aE=>jv p (jj.2 (.inr aE))) O)
theorem arw {W sD:World}(h:Fr (λ_=>False) W sD)(may:MemPlace->Prop):W.keptBut sD may:=by
 refine⟨h.os,h.output,λi M=>?_⟩;rw[h.block i M id]
 cases ag:W.heap[i]? with
 |none=>trivial
 |some o =>
  cases o with
  |cells c t aG=>exact⟨rfl,rfl,rfl,λ_ _=>rfl⟩
  |map es clock=>exact .inr ⟨rfl,rfl⟩
  |_=>rfl
theorem arx {f:Func}{s:ChangeSpec}{apart fresh handsOn again:Bool}{W sD:World}{args:Array Value}{ds gs:List (DataW hS)}{before:List MemPlace}{n sB:Nat}{schs:List qE}{Ks:TypeId}
  (sE:DataW.Whole enc P f.params.toList s.vars apart W args.toList ds gs before) (aq:s.vars=[]) (cN:f.params.toList.mapM (sA P n)=some schs)
  (hU:∀(j:Nat) t v,f.params[j]?=some t->args[j]?=some v->Value.okWide P W .any sB t v)
  (ab:f.resultTypes=#[Ks]) (ag:P.underlying Ks=some .bool) (ju:s.fn hS ds={ results:=[.lit (.bool true)],args:=ds }) (aJ:Fr (λ_=>False) W sD) :
  s.post enc P f apart fresh handsOn again W args (.bool true) sD:=by
 have Uh:=sE;obtain⟨p,q,dP,rI,rfl,aW,aK⟩:=sE;rw[aq] at rI;obtain⟨rfl,rfl⟩:=trodVars_none rI;obtain⟨-,az,O⟩:=Ug cN (λj t v bz aq=>hU j t v (by simpa using bz) (by simpa using aq)) dP;have aeU:∀b,b<W.heap.size->sD.heap[b]?=W.heap[b]?:=λb ag=>aJ.block b ag id
 have vl:∀(b:Nat) (sp:Nat->Bool) (aa:Bool),DataW.TrodAll enc P sD b sp aa f.resultTypes.toList ((Value.bool true).resultList f.resultTypes.size) (s.fn hS (ds++[])).results []:=by
  intro b sp aa;rw[fv,ju,ab];exact trodAll_cons_mk (shut_bool ag true) trodAll_mk0
 have n2:∀sp:Nat->Bool,(∀x∈p,sp x.block=true)->DataW.TrodAll enc P sD 0 sp true f.params.toList args.toList (s.fn hS (ds++[])).args p:=by
  intro sp jv;rw[fv,ju];exact O sD sp jv aeU
 have aeV:∀sp:Nat->Bool,DataW.TrodVars enc P sD sp s.vars (s.fn hS (ds++[])).vars []:=by
  intro sp;rw[aq,fv,ju]
  rfl
 refine⟨ds,[],p++[],[],p,[],Uh,vl _ _ _,n2 _ (λx Q=>by simpa using az x Q),aeV _,arw aJ _,λ_=>⟨?_,_,_,([]++p)++[],⟨[]++p,[],trodAll_append (n2 _ (λ_ _=>rfl)) (vl _ _ _),aeV _,rfl,?_,?_⟩,?_⟩⟩
 ·intro j t r G I;rw[ab] at G I
  cases j with
  |zero =>
   simp[Value.resultList] at G I;subst G I;exact okWide_bool_mk ag true
  |succ j=>simp at G
 ·intro b off aE;have aeW:MemPlace.cell b off∈p:=by simpa using aE
  have ag:=az _ aeW;have ar:=aW b off (by simpa using aeW);unfold World.frozen? at ar ⊢;rw[aeU b ag];exact ar
 ·intro aN;have:=aK aN
  simpa using this
 ·intro x Q _
  simpa using Q
theorem ary {f:FuncId}{fn:Func}{s:ChangeSpec}{apart fresh handsOn again:Bool}{aQ:List Data->Option eN}{n:Nat}{schs:List qE}{Ks:TypeId}(aE:tL P f aQ)(aq:s.vars=[])(cN:fn.params.toList.mapM (sA P n)=some schs)
  (ab:fn.resultTypes=#[Ks]) (ag:P.underlying Ks=some .bool) (ju:∀ds:List (DataW hS),D ds=(D fn.params.toList)->s.fn hS ds={ results:=[.lit (.bool true)],args:=ds })
  {W:World} {base:Nat} {args:Array Value} {ds gs:List (DataW hS)} {before:List MemPlace}
  (e8:∀sC,OA schs sC->aQ sC=some (.same (.bool true)))
  (hU:∀(j:Nat) t v,fn.params[j]?=some t->args[j]?=some v->Value.okWide P W .any base t v)
  (sE:DataW.Whole enc P fn.params.toList s.vars apart W args.toList ds gs before) :
  Calls P f args W λe sD=>∃v,e=.returned v/\s.post enc P fn apart fresh handsOn again W args v sD:=by
 have Uh:=sE;obtain⟨p,q,dP,rI,rfl,aW,aK⟩:=sE;obtain⟨⟨sC,G,I⟩,-,-⟩:=Ug cN (λj t v bz aq=>hU j t v (by simpa using bz) (by simpa using aq)) dP
 have hlen:(D ds)=D fn.params.toList:=by
  have:∀(tA:List TypeId) (vs:List Value) (ds:List (DataW hS)) (ps:List MemPlace),DataW.TrodAll enc P W 0 (λ_=>true) true tA vs ds ps->(D ds)=D tA:=by
   intro tA
   induction tA with
   |nil=>intro vs ds ps h;obtain⟨rfl,rfl,rfl⟩:=trodAll_nil h;rfl
   |cons t r aA=>intro vs ds ps h;obtain⟨v,aro,d,arp,a,b,rfl,rfl,rfl,-,I⟩:=trodAll_cons h;simp[aA _ _ _ I]
  exact this _ _ _ _ dP
 have H:=aE.run sC _ (e8 sC G) (λ_=>False) W args.toList (λb ag=>ag.elim) I;have aN:args.toList.toArray=args:=by simp
 rw[aN] at H;refine H.mono λe sD ⟨v,he,bX,aa⟩=>⟨v,he,?_⟩
 have:v=.bool true:=by
  have nn:Den sD (λ_=>False) (.bool true) v:=aa
  cases nn
  rfl
 subst this;exact arx Uh aq cN hU ab ag (ju ds hlen) bX
theorem Ui {α:Type}{l:List α}{n:Nat}(h:(D l)=n+1):∃d t,l=d::t/\D t=n:=by
 cases l with
 |nil=>simp at h
 |cons d t=>exact⟨d,t,rfl,by simpa using h⟩
theorem OB {α:Type}{e:α->List Data}{good:α->Prop}:∀{es:List (List Data)},(∀x∈es,∃a,x=e a/\good a)->∃l:List α,es=l.map e/\∀a∈l,good a
 | [],_=>⟨[],rfl,by simp⟩
 |x::r,h=>by
  obtain⟨a,rfl,aN⟩:=h x (by simp);obtain⟨l,rfl,aw⟩:=OB (es:=r) λy av=>h y (by simp[av]);exact⟨a::l,rfl,λb ag=>(hK.1 ag).elim (λe=>e ▸ aN) (aw b)⟩
end
end Go.Mini
namespace Go.Mini
open Go
def zP (x:R)(m:Mem):R->Mem->Prop:=λr mem'=>r=x/\mem'=m
@[go_sem high] theorem aKi {K:a8->Prop}(x:R)(m:Mem)(d:Option Nat)(st:a8):wJ K (some (.rel (zP x m))) d st=K ⟨put st.tm d x,m⟩:=by
 rw[apI];apply propext;exact⟨λh=>h x m ⟨rfl,rfl⟩,λh r mem' ⟨ay,aC⟩=>by rw[ay,aC];exact h⟩
def BH (bR:List R->Mem->Option (R×Mem))(args:List R)(mem:Mem):Option g7:=(bR args mem).map λx => .rel (zP x.1 x.2)
@[go_sem] theorem aKj (bR:List R->Mem->Option (R×Mem))(args:List R)(mem:Mem):BH bR args mem=(bR args mem).map λx => .rel (zP x.1 x.2):=bx
structure Kt (P:Program) (f:FuncId) (bR:List R->Mem->Option (R×Mem)):Prop where
 real:Real P f
 run:∀args mem x,bR args mem=some x->∀A w B vs,fs A w B mem->du w (cd A B) B args vs->TI P f vs A w B mem (.rel (zP x.1 x.2))
def Gw (res:List oJ)(x:R)(m:Mem):eT->a8->Prop
 |.exit _,_=>False
 |.normal,st=>pO st res=some x/\st.mem=m
 |.ret,st=>pO st res=some x/\st.mem=m
@[go_sem] theorem aKk {res:List oJ}{st:a8}(x:R)(m:Mem)(id:Nat):Gw res x m (.exit id) st=False:=bx
@[go_sem] theorem aKl {res:List oJ}{st:a8}(x:R)(m:Mem):Gw res x m .normal st=(pO st res=some x/\st.mem=m):=bx
@[go_sem] theorem aKm {res:List oJ}{st:a8}(x:R)(m:Mem):Gw res x m .ret st=(pO st res=some x/\st.mem=m):=bx
theorem aeX {P : Program}{T : bb}{kb : Nat}{own : List Nat}(cL : qB P T)(hm : P.follows .mixedOrders = true){f : FuncId}{fn : Func}{mf : bP}(aJ : P.funcs[f]? = some fn)(tM : (fn.name == "runtime.NumGoroutine") = false)(a0 : sr P kb own fn = some { mf with body := erase mf.body })
  {bR:List R->Mem->Option (R×Mem)} (h:∀args mem x,bR args mem=some x->(D args)<=mf.n/\wp T mf.body (Gw mf.res x.1 x.2) ⟨ka args,mem⟩):Kt P f bR:=by
 refine⟨?_,λargs mem x nt A w B vs b1 aq=>?_⟩
 ·cases ag:fn.body with
  |none=>simp[sr,ag] at a0
  |some c=>exact⟨fn,c,aJ,ag,tM⟩
 ·obtain⟨hlen,wM⟩:=h args mem x nt;refine Calls.mono (Gm (Post:=zP x.1 x.2) cL hm aJ a0 hlen (λe st O=>?_) wM b1 aq) λe aR he=>?_
  ·cases e with
   |exit id=>exact O
   |normal=>exact⟨_,O.1,rfl,O.2⟩
   |ret=>exact⟨_,O.1,rfl,O.2⟩
  ·obtain⟨v,m,mem',bu,rfl,X,ln,aE⟩:=he;exact⟨v,m,mem',bu,rfl,X,ln,aE⟩
def OC:Option (R×Mem)->Option g7->Option g7
 |some x,_=>some (.rel (zP x.1 x.2))
 |none,e=>e
@[go_sem] theorem aKn (x:R×Mem)(e:Option g7):OC (some x) e=some (.rel (zP x.1 x.2)):=bx
@[go_sem] theorem aKo (e:Option g7):OC none e=e:=bx
def zQ (aQ:List Data->Option eN)(bR:List R->Mem->Option (R×Mem))(args:List R)(mem:Mem):Option g7:=OC (bR args mem) (aU aQ args mem)
@[go_sem] theorem aKp (aQ:List Data->Option eN)(bR:List R->Mem->Option (R×Mem))(args:List R)(mem:Mem):zQ aQ bR args mem=OC (bR args mem) (aU aQ args mem):=bx
open Classical in
def Gx {α:Type}(bg:α->List R->Mem->Prop)(res:α->Mem->R×Mem):List R->Mem->Option (R×Mem):=λargs mem=>if h:∃a,bg a args mem then some (res (tN h) mem) else none
theorem aeY {α:Type}{bg:α->List R->Mem->Prop}{res:α->Mem->R×Mem}(uniq:∀a b args mem,bg a args mem->bg b args mem->res a mem=res b mem){a:α}{args:List R}{mem:Mem}(h:bg a args mem):Gx bg res args mem=some (res a mem):=by
 have Q:∃b,bg b args mem:=⟨a,h⟩;unfold Gx;rw[dif_pos Q,uniq _ _ _ _ (pn Q) h]
theorem Uj {α:Type}{bg:α->List R->Mem->Prop}{res:α->Mem->R×Mem}{args:List R}{mem:Mem}{x:R×Mem}(h:Gx bg res args mem=some x):∃a,bg a args mem/\x=res a mem:=by
 unfold Gx at h
 split at h
 ·rename_i Q;exact⟨_,pn Q,(n0 h).symm⟩
 ·cases h
def yu:Nat->Nat->List Int
 |0,_=>[]
 |f+1,n=>if n=0 then [] else ((n%1048576:Nat):Int)::yu f (n/1048576)
def aL (n:Nat):List Int:=yu n n
def bd:List Int->Int
 | []=>0
 |d::r=>d+1048576*bd r
theorem tR (d:Int)(r:List Int):bd (d::r)=d+1048576*bd r:=rfl
def eV (l:List Int):Prop:=∀d∈l,0<=d/\d<1048576
def fI:List Int->List Int
 | []=>[]
 |d::r=>if fI r=[] then (if d=0 then [] else [d]) else d::fI r
def ae (n:Int):List Data:=[.int .i64 n]
theorem hB (b:Int):(ae b).length=1:=rfl
theorem vn (b:Int):((ae b).map R.J).all R.one=true:=rfl
theorem e9:∀a b:Int,ae a=ae b->a=b:=by intro a b h;simpa [ae] using h
theorem arz:∀(f g n:Nat),n<=f->n<=g->yu f n=yu g n:=by
 intro f
 induction f with
 |zero =>
      intro g n h _;obtain rfl:n=0:=by omega
      cases g<;>simp[yu]
 |succ f aA =>
  intro g n G I
  cases g with
  |zero =>
       obtain rfl:n=0:=by omega
       simp[yu]
  |succ g =>
   unfold yu
   by_cases aK:n=0
   ·rw[ad aK,ad aK]
   ·rw[ah aK,ah aK,aA g (n/1048576) (by omega) (by omega)]
theorem sF:aL 0=[]:=rfl
theorem vo {n:Nat}(h:0<n):aL n=((n%1048576:Nat):Int)::aL (n/1048576):=by
 unfold aL;obtain⟨k,rfl⟩:∃k,n=k+1:=⟨n-1,by omega⟩
 conv=>lhs;unfold yu
 rw[ah (by omega),arz k ((k+1)/1048576) _ (by omega) (by omega)]
theorem l2 (n:Nat):bd (aL n)=n:=by
 induction n using T0 with
 |_ n aA =>
  rcases kW n with rfl|h
  ·rfl
  ·rw[vo h];unfold bd;rw[aA _ (by omega)];omega
theorem Ku {a b:Nat}(h:aL a=aL b):a=b:=by
 have:=congrArg bd h;rw[l2,l2] at this;omega
theorem m6 (n:Nat):eV (aL n):=by
 induction n using T0 with
 |_ n aA =>
  rcases kW n with rfl|h
  ·intro d aa;cases aa
  ·rw[vo h];intro d aa;rcases hK.1 aa with rfl|aa
   ·omega
   ·exact aA _ (by omega) d aa
theorem zR {n:Nat}:aL n=[]↔n=0:=by
 constructor
 ·intro h;exact Ku (b:=0) h
 ·rintro rfl;rfl
theorem pq {l:List Int}(h:eV l):0<=bd l:=by
 induction l with
 |nil=>exact Int.le_refl _
 |cons d r aA =>
  have G:=h d (by simp);have I:=aA λx Q=>h x (by simp[Q]);unfold bd;omega
theorem DR {d:Int}{r:List Int}:eV (d::r)↔(0<=d/\d<1048576)/\eV r :=
 ⟨λh=>⟨h d (by simp),λx Q=>h x (by simp[Q])⟩,λh x Q=>(hK.1 Q).elim (λe=>e ▸ h.1) (h.2 x)⟩
theorem DS {a b:List Int}:eV (a++b)↔eV a/\eV b :=
 ⟨λh=>⟨λx Q=>h x (by simp[Q]),λx Q=>h x (by simp[Q])⟩,λh x Q=>(jj.1 Q).elim (h.1 x) (h.2 x)⟩
theorem DT (a b:List Int):bd (a++b)=bd a+1048576^(D a)*bd b:=by
 induction a with
 |nil=>simp[bd]
 |cons d r aA =>
  simp only[jR,bd,aA,h4,nu];rw[iw]
  have:(1048576:Int)*(1048576^(D r)*bd b)=1048576^(D r)*1048576*bd b:=by
   rw[nv (1048576^(D r)) 1048576,ix]
  omega
theorem zS {l:List Int}(h:eV l):bd l<1048576^(D l):=by
 induction l with
 |nil=>simp[bd]
 |cons d r aA =>
  rw[DR] at h;have I:=aA h.2;simp only[bd,h4,nu];omega
theorem aeZ (l:List Int):fI (l++[0])=fI l:=by
 induction l with
 |nil=>simp[fI]
 |cons d r aA=>simp only[jR,fI,aA]
theorem ae0 (l:List Int){d:Int}(h:d≠0):fI (l++[d])=l++[d]:=by
 induction l with
 |nil=>simp[fI,h]
 |cons x r aA=>simp only[jR,fI,aA];simp
theorem zT {l:List Int}(h:eV l):fI l=aL (bd l).toNat:=by
 induction l with
 |nil=>rfl
 |cons d r aA =>
  rw[DR] at h;have ab:=aA h.2;have aq:=pq h.2;unfold fI;rw[ab,tR]
  by_cases aW:bd r=0
  ·rw[aW]
   by_cases aa:d=0
   ·simp[aa,sF]
   ·rw[ad (by rfl),ah aa];rw[vo (by omega)];rw[show (d+1048576*0).toNat/1048576=0 by omega,sF]
    congr 1
    omega
  ·rw[ah (by rw[zR];omega)];rw[vo (n:=(d+1048576*bd r).toNat) (by omega)]
   congr 1
   ·omega
   ·congr 1;omega
theorem ae1 (n:Nat):fI (aL n)=aL n:=by
 rw[zT (m6 n),l2];simp
theorem canon {l:List Int}(h:eV l)(aw:l.getLast?≠some 0):l=aL (bd l).toNat:=by
 rw[<-zT h];rcases zU l with rfl|⟨r,d,rfl⟩
 ·rfl
 ·rw[zV] at aw ⊢;rw[ae0];rintro rfl;simp at aw
theorem ae2 (n:Nat):(aL n).getLast?≠some 0:=by
 intro h
 obtain⟨r,ab⟩:∃r,aL n=r++[0]:=by
  rcases zU (aL n) with e|⟨r,d,e⟩
  ·rw[e] at h;cases h
  ·rw[zV] at e;rw[e] at h;simp at h;subst h;exact⟨r,e⟩
 have G:=ae1 n;rw[ab,aeZ] at G
 have I:(fI r).length<=D r:=by
  clear G ab h
  induction r with
  |nil=>simp[fI]
  |cons d r aA=>unfold fI;split<;>(try split)<;>simp<;>omega
 rw[G] at I;simp at I;omega
theorem gS {n k:Nat}:(aL n).length<=k↔n<1048576^k:=by
 induction k generalizing n with
 |zero =>
      rw[Nat.pow_zero];constructor
      ·intro h;have:=tC (Nat.le_zero.1 h);rw[zR] at this;omega
      ·intro h;obtain rfl:n=0:=by omega
       simp[sF]
 |succ k aA =>
  rcases kW n with rfl|h
  ·simp[sF];exact Nat.pos_of_ne_zero (by simp)
  ·rw[vo h,h4,wQ];have:=aA (n:=n/1048576);rw[Nat.add_le_add_iff_right,this];rw[ae3 (by omega)]
theorem DU {n:Nat}(h:0<n)(G:n<1048576):aL n=[(n:Int)]:=by
 rw[vo h,Ua G,Kr G];rfl
theorem Kv (l:List Int)(i:Nat):bd l=bd (l.take i)+1048576^(min i (D l))*bd (l.drop i):=by
 conv=>lhs;rw[<-tO i l]
 rw[DT,gF]
theorem zW (n:Int)(h:0<=n/\n<18446744073709551616):IntKind.u64.wrap n=n:=by
 simp[IntKind.wrap,IntKind.bits,IntKind.signed];omega
theorem rJ (n:Int):bits .and .i64 n 1048575=n%1048576:=by
 have I:(1048575:Int)=((2^20-1:Nat):Int):=by decide
 have G:n%18446744073709551616%1048576=n%1048576:=by omega
 obtain⟨a,aN⟩:∃a:Nat,(a:Int)=n%18446744073709551616:=⟨(n%18446744073709551616).toNat,by omega⟩
 have e:BitVec.ofInt 64 n=BitVec.ofNat 64 a:=by
  apply BitVec.eq_of_toInt_eq;rw[BitVec.toInt_ofInt,BitVec.toInt_ofNat',aN];simp[ae4,ae5]
 have aC:bits .and .i64 n 1048575=bits .and .i64 (a:Int) 1048575:=by
  simp only[bits];rw[show IntKind.i64.bits=64 from rfl,e,BitVec.ofInt_natCast]
 rw[aC,<-G,<-aN,I];have Uk:a<2^64:=by omega
 simp only[bits,BitVec.ofInt_natCast,BitVec.toNat_and,BitVec.toNat_ofNat,show IntKind.i64.bits=64 from rfl,Kr Uk];rw[show (2^20-1:Nat)%2^64=2^20-1 by decide,ae6,wrap64 _ (by omega) (by omega)]
 omega
theorem ae7 (n:Int)(h:0<=n/\n<18446744073709551616):bits .and .u64 n 1048575=n%1048576:=by
 have:=bits_mask .u64 64 (by decide) (λn G I=>zW n ⟨G,by omega⟩) 20 (by decide) n h.1 (by omega)
 simpa using this
theorem Ul (x y:Int)(Q:0<=x)(oR:x<8796093022208)(av:0<=y/\y<1048576):bits .or .i64 (x*1048576) y=x*1048576+y:=by
 refine bits_join .i64 63 (by decide) (λn G I=>wrap64 n (by omega) (by omega)) 20 _ _ (by omega) (by omega) (by omega) av.1 (by omega) (by omega)
theorem arA (n:Int):n.fdiv (2^20)=n/1048576:=by
 rw[Int.fdiv_eq_ediv_of_nonneg _ (by decide)];rfl
theorem oS (n:Int):n.fdiv (2^min (DV 20) 64)=n/1048576:=arA n
def Um:FuncId:=224
def Un:FuncId:=215
def DW:FuncId:=39
def l3:FuncId:=84
def vp:FuncId:=40
def Uo:FuncId:=19
def BI:FuncId:=35
def oT:FuncId:=233
def Up:FuncId:=234
def BJ:FuncId:=235
def Kw:FuncId:=173
def Uq:FuncId:=225
def zX:FuncId:=96
def Ur:FuncId:=214
def yv:FuncId:=43
def tS:FuncId:=36
def m7:FuncId:=38
def k0:FuncId:=146
def Kx:FuncId:=147
def Us:FuncId:=148
def Ut:FuncId:=90
def vq:FuncId:=85
def DX:FuncId:=86
def OD:FuncId:=55
def Uu:FuncId:=82
def OE:FuncId:=83
def Uv:FuncId:=239
def Uw:FuncId:=201
def OG:FuncId:=236
def Ux:FuncId:=237
def Ky:FuncId:=152
def OH:FuncId:=165
def Uy:FuncId:=223
def Gy:FuncId:=91
def DY:FuncId:=88
def Uz:FuncId:=89
def vr:FuncId:=149
def vt:FuncId:=94
def Kz:FuncId:=156
def pr:FuncId:=150
def UA:FuncId:=189
def UB:FuncId:=161
def Gz:FuncId:=151
def vu:FuncId:=141
def OI:FuncId:=142
def UC:FuncId:=143
def OJ:FuncId:=144
def vv:FuncId:=145
def KA:FuncId:=240
def BK:FuncId:=241
def DZ:FuncId:=155
def arB:FuncId:=231
def UD:FuncId:=232
def KB:FuncId:=157
def GA:FuncId:=158
def GC:FuncId:=159
def D0:FuncId:=160
def OK:FuncId:=192
def qG:FuncId:=190
def UE:FuncId:=193
def UF:FuncId:=195
def KC:FuncId:=187
def UG:FuncId:=181
def KD:FuncId:=183
def tT:FuncId:=188
def D3:FuncId:=194
def OL:FuncId:=182
def KE:FuncId:=170
def tU:FuncId:=200
def UH:FuncId:=33
def UI:FuncId:=184
def UJ:FuncId:=75
def UK:FuncId:=76
def OM:FuncId:=77
def pt:FuncId:=78
def wR:FuncId:=79
def D4:FuncId:=80
def UL:FuncId:=81
def zY:FuncId:=900234
def UM:FuncId:=175
def BL:FuncId:=900236
def KF:FuncId:=154
def vw:FuncId:=153
def vx:FuncId:=137
def KG:FuncId:=138
def KH:FuncId:=139
def KI:FuncId:=106
def D5:FuncId:=107
def UN:FuncId:=140
def D6:FuncId:=87
def GD:FuncId:=162
def KJ:FuncId:=163
def GF:FuncId:=164
def GG:FuncId:=191
def UO:FuncId:=167
def ON:FuncId:=185
def UP:FuncId:=186
def BM:FuncId:=28
def KK:FuncId:=63
def UQ:FuncId:=64
def UR:FuncId:=65
def US:FuncId:=66
def nw:FuncId:=113
def D7:FuncId:=114
def yw:FuncId:=115
def wS:FuncId:=116
def UT:FuncId:=117
def UU:FuncId:=118
def OO:FuncId:=119
def KL:FuncId:=120
def UW:FuncId:=121
def UX:FuncId:=122
def UY:FuncId:=123
def UZ:FuncId:=124
def D8:FuncId:=73
def U0:FuncId:=125
def tV:FuncId:=126
def U1:FuncId:=127
def BN:FuncId:=171
def D9:FuncId:=172
def vy:FuncId:=174
def wT:FuncId:=176
def KM:FuncId:=177
def U2:FuncId:=178
def KN:FuncId:=135
def Ea:FuncId:=179
def U3:FuncId:=180
def U4:FuncId:=202
def arC:FuncId:=203
def arD:FuncId:=204
def arE:FuncId:=205
def arF:FuncId:=206
def arG:FuncId:=207
def OP:FuncId:=208
def arH:FuncId:=209
def arI:FuncId:=210
def arJ:FuncId:=211
def U5:FuncId:=212
def U6:FuncId:=213
def Eb:FuncId:=54
def wU:FuncId:=104
def GH:FuncId:=105
def arK:FuncId:=6
def U7:FuncId:=26
def U8:FuncId:=27
def U9:FuncId:=30
def Va:FuncId:=31
def OQ:FuncId:=34
def OR:FuncId:=37
def BO:FuncId:=62
abbrev F (a b:Nat):c8:=⟨some a,none,.cm (.t b)⟩
abbrev aV (a n b:Nat):c8:=⟨some a,none,.load n false (.t b)⟩
abbrev bn (a n b:Nat):c8:=⟨some a,none,.load n true (.t b)⟩
abbrev bf (a n b:Nat):c8:=⟨some a,none,.dY n (.t b)⟩
abbrev bp (n a b:Nat):c8:=⟨none,none,.store n (.t a) (.t b)⟩
abbrev br (a:Nat)(n:Int):c8:=⟨some a,none,.cm (.c (.J (.int .i64 n)))⟩
abbrev bA (a n b:Nat):c8:=⟨some a,none,.ext n (.t b)⟩
abbrev bH (a n b c:Nat):c8:=⟨some a,none,.kO n (.t b) (.t c)⟩
abbrev b6 (a b:Nat):c8:=⟨some a,none,.len (.t b)⟩
abbrev cA (a:Nat)(b:Bool):c8:=⟨some a,none,.cm (.c (.J (.bool b)))⟩
abbrev eo (a:Nat):c8:=⟨some a,none,.cm (.c .nil)⟩
abbrev bo (a:Nat)(o:BinOp)(b c:Nat):c8:=⟨some a,none,.bin o (.t b) (.t c)⟩
abbrev a5 (a:Nat)(o:BinOp)(b:Nat)(n:Int):c8:=⟨some a,none,.bin o (.t b) (.c (.J (.int .i64 n)))⟩
abbrev eh (a b c:Nat):c8:=⟨some a,none,.pick (.t b) (.c (.J (.bool true))) (.t c)⟩
abbrev fN (a b c:Nat):c8:=⟨some a,none,.pick (.t b) (.t c) (.c (.J (.bool false)))⟩
abbrev dL (a k b:Nat):c8:=⟨some a,none,.box k (.t b)⟩
abbrev hh (a b:Nat):c8:=⟨some a,none,.si (.t b)⟩
abbrev fh (a b:Nat):c8:=⟨some a,none,.un .not (.t b)⟩
abbrev al (n:Int):R:=.J (.int .i64 n)
abbrev dQ (a:Nat)(f:FuncId)(x:Nat):c8:=⟨some a,none,.call f [.t x]⟩
abbrev cv (a:Nat)(f:FuncId)(x y:Nat):c8:=⟨some a,none,.call f [.t x,.t y]⟩
abbrev tW (a:Nat)(f:FuncId)(x y z:Nat):c8:=⟨some a,none,.call f [.t x,.t y,.t z]⟩
abbrev zZ (a:Nat)(f:FuncId)(x y z u:Nat):c8:=⟨some a,none,.call f [.t x,.t y,.t z,.t u]⟩
abbrev aD (a:Nat)(o:j8):c8:=⟨some a,none,o⟩
abbrev b8 (n m:Nat)(r:List oJ)(b:eu):bP:=⟨n,m,r,b⟩
abbrev aY (n:Nat)(a b:eu):eu:=.cond (.t n) a b
abbrev U (l:List c8)(c:eu):eu:=.seq (.ops l) c
abbrev fD (l:List c8)(x:List (List Nat))(c:eu):eu:=.seq (.mY l x) c
abbrev ae8:List (List Nat):=[[],[],[],[],[],[]]
abbrev arL:List (List Nat):=[[],[],[],[],[],[],[]]
abbrev arM:List (List Nat):=[[],[],[],[],[],[],[],[]]
abbrev BP:List (List Nat):=[[],[],[],[],[],[],[],[],[]]
abbrev GI:List (List Nat):=[[],[],[],[],[],[],[],[],[],[]]
abbrev KO:List (List Nat):=[[],[],[],[],[],[],[],[],[],[],[]]
abbrev ae9:List (List Nat):=[[],[],[],[],[],[],[],[],[],[],[],[]]
abbrev Vb:List (List Nat):=[[],[],[],[],[],[],[],[],[],[],[],[],[]]
abbrev KP:List (List Nat):=[[],[],[],[],[],[],[],[],[],[],[],[],[],[]]
abbrev afa:List (List Nat):=[[],[],[],[],[],[],[],[],[],[],[],[],[],[],[]]
abbrev OS:List (List Nat):=[[],[],[],[],[],[],[],[],[],[],[],[],[],[],[],[]]
abbrev arN:List (List Nat):=[[],[],[],[],[],[],[],[],[],[],[],[],[],[],[],[],[]]
abbrev afb:List (List Nat):=[[],[],[],[],[],[],[],[],[],[],[],[],[],[],[],[],[],[]]
abbrev arO:List (List Nat):=[[],[],[],[],[],[],[],[],[],[],[],[],[],[],[],[],[],[],[],[],[],[],[],[],[],[]]
abbrev arP:List (List Nat):=[[],[],[],[],[],[],[],[],[],[],[],[],[],[],[],[],[],[],[],[],[],[],[],[],[],[],[],[]]
abbrev arQ:List (List Nat):=[[],[],[],[],[],[],[],[],[],[],[],[],[],[],[],[],[],[],[],[],[],[],[],[],[],[],[],[],[],[]]
def Vc:bP:=b8 49 1 [.t 2] (U [dL 1 136001 0,cA 2 false] (U [bf 6 1 1,aV 7 1 6,b6 8 7,F 3 8] (.seq (U [bf 9 1 1,aV 10 1 9,b6 11 10,br 12 0] (.block 0 (.loop  (U [bo 13 .lss 12 11] (.seq (aY 13 .skip (.exit 0)) (.seq (.block 1 (U [bH 14 1 10 12,aV 15 1 14,F 5 15] (U [F 16 5,a5 17 .lss 16 0,F 18 17,⟨some 19,some (18,false),.cm (.t 5)⟩,⟨some 20,some (18,false),.bin .gtr (.t 19) (.c (al 1048575))⟩,eh 21 18 20] (aY 21 (U [cA 2 false] .ret) .skip)))) (.ops [a5 22 .add 12 1,F 12 22]))))))) (.seq (U [F 23 3,a5 24 .eql 23 0] (aY 24 (U [bf 25 0 1,aV 26 1 25,a5 27 .eql 26 0,F 2 27] .ret) .skip)) (U [bf 28 0 1,aV 29 1 28,a5 30 .eql 29 1,F 31 30,⟨some 32,some (31,false),.dY 0 (.t 1)⟩,⟨some 33,some (31,false),.load 1 false (.t 32)⟩,⟨some 34,some (31,false),.bin .eql (.t 33) (.c (.J (.int .i64 (-1))))⟩,eh 35 31 34,F 36 35,⟨some 37,some (36,true),.cm (.t 3)⟩,⟨some 38,some (36,true),.bin .leq (.t 37) (.c (al 60))⟩,fN 39 36 38,F 40 39,⟨some 41,some (40,true),.dY 1 (.t 1)⟩,⟨some 42,some (40,true),.load 1 false (.t 41)⟩,⟨some 43,some (40,true),.cm (.t 3)⟩,⟨some 44,some (40,true),.bin .sub (.t 43) (.c (al 1))⟩,⟨some 45,some (40,true),.kO 1 (.t 42) (.t 44)⟩,⟨some 46,some (40,true),.load 1 false (.t 45)⟩,⟨some 47,some (40,true),.bin .neq (.t 46) (.c (al 0))⟩,fN 48 40 47,F 2 48] .ret)))))
def Vd:bP:=b8 44 2 [.cell 4 2 true,.t 5] (U [dL 2 137002 0,dL 3 137003 1,(aD 4 (.alloc 137004 [(al 0),.nil])),br 5 0] (.seq (U [bn 10 2 2,(dQ 11 k0 10),fh 12 11,F 13 12,⟨some 14,some (13,false),.load 2 true (.t 3)⟩,⟨some 15,some (13,false),.call k0 [(.t 14)]⟩,⟨some 16,some (13,false),.un .not (.t 15)⟩,eh 17 13 16] (aY 17 (U [(aD 18 (.build [(al 0),.nil] [])),(aD 19 (.call vr [(.c (.J (.bool false))),(.t 18)])),bA 20 0 19,bA 21 1 19,bp 2 4 20,F 5 21] .ret) .skip)) (fD [bf 22 1 2,aV 23 1 22,(dQ 24 vt 23),bf 25 1 3,aV 26 1 25,F 6 24,F 7 26] arL (.seq (.block 0 (.loop  (.seq (U [F 27 7,b6 28 27,a5 29 .gtr 28 0] (aY 29 .skip (.exit 0))) (.block 1 (U [F 31 6,F 32 7,(cv 33 Kz 31 32),F 30 33,bA 34 0 30,bA 35 1 30,F 8 34,F 9 35] (.ops [F 36 7,F 37 9,F 6 36,F 7 37])))))) (U [F 38 6,(dQ 39 vt 38),(aD 40 (.call pr [(.c (al 1)),(.t 39)])),(aD 41 (.call vr [(.c (.J (.bool true))),(.t 40)])),bA 42 0 41,bA 43 1 41,bp 2 4 42,F 5 43] .ret)))))
def Ve:bP:=b8 32 2 [.cell 4 2 true,.t 5] (U [dL 2 140002 0,dL 3 140003 1,(aD 4 (.alloc 140004 [(al 0),.nil])),br 5 0] (.seq (U [bn 6 2 2,(dQ 7 k0 6),fh 8 7,F 9 8,⟨some 10,some (9,false),.load 2 true (.t 3)⟩,⟨some 11,some (9,false),.call k0 [(.t 10)]⟩,⟨some 12,some (9,false),.un .not (.t 11)⟩,eh 13 9 12] (aY 13 (U [(aD 14 (.build [(al 0),.nil] [])),(aD 15 (.call vr [(.c (.J (.bool false))),(.t 14)])),bA 16 0 15,bA 17 1 15,bp 2 4 16,F 5 17] .ret) .skip)) (fD [bf 18 0 2,aV 19 1 18,bf 20 0 3,aV 21 1 20,bo 22 .mul 19 21,bf 23 1 2,aV 24 1 23,bf 25 1 3,aV 26 1 25,(cv 27 Gz 24 26),(cv 28 pr 22 27),(aD 29 (.call vr [(.c (.J (.bool true))),(.t 28)])),bA 30 0 29,bA 31 1 29,bp 2 4 30,F 5 31] OS .ret)))
def Vf:bP:=b8 25 1 [.cell 2 2 true] (U [(aD 2 (.alloc 150002 [(al 0),.nil]))] (U [F 6 0,(aD 7 (.conv .u64 (.t 6))),br 3 1,F 4 7] (.seq (U [F 8 0,a5 9 .lss 8 0] (aY 9 (.ops [F 10 4,(aD 11 (.un .neg (.t 10))),(aD 3 (.cm (.c (.J (.int .i64 (-1)))))),F 4 11]) .skip)) (U [eo 5] (.seq (.block 0 (.ghost (.nj 5 150021 1) (.loop  (.seq (U [F 12 4,(aD 13 (.bin .gtr (.t 12) (.c (.J (.int .u64 0)))))] (aY 13 .skip (.exit 0))) (.seq (.block 1 (.ops [F 16 5,F 17 4,(aD 18 (.bin .and (.t 17) (.c (.J (.int .u64 1048575))))),(aD 19 (.conv .i64 (.t 18))),(aD 20 (.e0 150020 false [(al 0)] 1 1 [(0,1,(.t 19))])),(aD 21 (.app 150021 [(al 0)] 8 (.t 16) (.t 20))),F 5 21])) (.ops [F 14 4,(aD 15 (.bin .shr (.t 14) (.c (.J (.int .u64 20))))),F 4 15])))))) (.seq (.ghost (.freeze 5) (.ops [F 22 3,F 23 5,(cv 24 pr 22 23),bp 2 2 24])) .ret))))))
def Vg:bP:=b8 14 1 [.cell 2 2 true] (U [dL 1 152001 0,(aD 2 (.alloc 152002 [(al 0),.nil]))] (.seq (U [bn 3 2 1,(dQ 4 k0 3),fh 5 4] (aY 5 (U [(aD 6 (.build [(al 0),.nil] [])),bp 2 2 6] .ret) .skip)) (fD [bf 7 0 1,aV 8 1 7,(aD 9 (.un .neg (.t 8))),bf 10 1 1,aV 11 1 10,(dQ 12 vt 11),(cv 13 pr 9 12),bp 2 2 13] arM .ret)))
def Vh:bP:=b8 67 2 [.cell 4 2 true,.cell 5 2 true,.t 6] (U [dL 2 153002 0,dL 3 153003 1,(aD 4 (.alloc 153004 [(al 0),.nil])),(aD 5 (.alloc 153005 [(al 0),.nil])),br 6 0] (.seq (.block 0 (U [bn 10 2 2,(dQ 11 k0 10),fh 12 11,F 13 12,⟨some 14,some (13,false),.load 2 true (.t 3)⟩,⟨some 15,some (13,false),.call k0 [(.t 14)]⟩,⟨some 16,some (13,false),.un .not (.t 15)⟩,eh 17 13 16,F 9 17] (aY 9 (U [(aD 18 (.build [(al 0),.nil] [])),(aD 19 (.build [(al 0),.nil] [])),bp 2 4 18,bp 2 5 19,br 6 1] .ret) (U [bf 21 0 3,aV 22 1 21,a5 23 .eql 22 0,F 20 23] (aY 20 (U [(aD 24 (.build [(al 0),.nil] [])),(aD 25 (.build [(al 0),.nil] [])),bp 2 4 24,bp 2 5 25,br 6 15] .ret) .skip))))) (U [bf 27 1 2,aV 28 1 27,bf 29 1 3,aV 30 1 29,(cv 31 Kz 28 30),F 26 31,bA 32 0 26,bA 33 1 26,F 7 32,F 8 33] (.seq (U [bf 34 0 2,aV 35 1 34,bf 36 0 3,aV 37 1 36,bo 38 .mul 35 37,a5 39 .lss 38 0,F 40 39,⟨some 41,some (40,true),.cm (.t 8)⟩,⟨some 42,some (40,true),.len (.t 41)⟩,⟨some 43,some (40,true),.bin .gtr (.t 42) (.c (al 0))⟩,fN 44 40 43] (aY 44 (fD [F 45 7,(aD 46 (.e0 153046 false [(al 0)] 1 1 [(0,1,(.c (al 1)))])),(cv 47 KB 45 46),(aD 48 (.call pr [(.c (.J (.int .i64 (-1)))),(.t 47)])),bf 49 0 3,aV 50 1 49,bf 51 1 3,aV 52 1 51,F 53 8,(cv 54 GA 52 53),(cv 55 pr 50 54),bp 2 4 48,bp 2 5 55,br 6 0] KP .ret) .skip)) (fD [bf 56 0 2,aV 57 1 56,bf 58 0 3,aV 59 1 58,bo 60 .mul 57 59,F 61 7,(cv 62 pr 60 61),bf 63 0 2,aV 64 1 63,F 65 8,(cv 66 pr 64 65),bp 2 4 62,bp 2 5 66,br 6 0] KP .ret)))))
def Vi:bP:=b8 31 2 [.t 4] (U [dL 2 154002 0,dL 3 154003 1,br 4 0] (.seq (U [bn 5 2 2,(dQ 6 k0 5),fh 7 6,F 8 7,⟨some 9,some (8,false),.load 2 true (.t 3)⟩,⟨some 10,some (8,false),.call k0 [(.t 9)]⟩,⟨some 11,some (8,false),.un .not (.t 10)⟩,eh 12 8 11] (aY 12 (U [br 4 0] .ret) .skip)) (.seq (U [bf 13 0 2,aV 14 1 13,bf 15 0 3,aV 16 1 15,bo 17 .neq 14 16] (aY 17 (U [bf 18 0 2,aV 19 1 18,bf 20 0 3,aV 21 1 20,(cv 22 GC 19 21),F 4 22] .ret) .skip)) (fD [bf 23 0 2,aV 24 1 23,bf 25 1 2,aV 26 1 25,bf 27 1 3,aV 28 1 27,(cv 29 D0 26 28),bo 30 .mul 24 29,F 4 30] BP .ret))))
def Vj:bP:=b8 17 2 [.cell 4 2 true,.t 5] (U [dL 3 155003 1,(aD 4 (.alloc 155004 [(al 0),.nil])),br 5 0] (.seq (.block 0 (U [F 7 0,fh 8 7,F 6 8] (aY 6 (U [(aD 9 (.build [(al 0),.nil] [])),bp 2 4 9,br 5 1] .ret) (U [bf 11 1 3,aV 12 1 11,b6 13 12,a5 14 .gtr 13 60,F 10 14] (aY 10 (U [(aD 15 (.build [(al 0),.nil] [])),bp 2 4 15,br 5 6] .ret) .skip))))) (U [bn 16 2 3,bp 2 4 16,br 5 0] .ret)))
def Vk:bP:=b8 170 2 [.t 4,.t 5] (U [eo 4,eo 5] (.seq (U [F 19 0,F 20 1,(cv 21 D0 19 20),a5 22 .lss 21 0] (aY 22 (U [F 23 0,(dQ 24 vt 23),eo 4,F 5 24] .ret) .skip)) (.seq (U [F 25 1,b6 26 25,a5 27 .eql 26 1] (aY 27 (U [F 29 0,F 30 1,(aD 31 (.kO 1 (.t 30) (.c (al 0)))),aV 32 1 31,(cv 33 OK 29 32),F 28 33,bA 34 0 28,bA 35 1 28,F 6 34,F 7 35] (U [F 36 6,F 37 7,(aD 38 (.e0 157038 false [(al 0)] 1 1 [(0,1,(.t 37))])),(dQ 39 qG 38),F 4 36,F 5 39] .ret)) .skip)) (U [br 8 1] (.seq (.block 0 (.loop  (.seq (U [F 40 1,F 41 1,b6 42 41,a5 43 .sub 42 1,bH 44 1 40 43,aV 45 1 44,F 46 8,bo 47 .mul 45 46,a5 48 .lss 47 524288] (aY 48 .skip (.exit 0))) (.block 1 (.ops [F 49 8,a5 50 .mul 49 2,F 8 50]))))) (U [F 51 0,F 52 8,(aD 53 (.e0 157053 false [(al 0)] 1 1 [(0,1,(.t 52))])),(aD 54 (.oI 157054 1 Gz [(.t 51),(.t 53)])),(aD 55 (.e0 157055 false [(al 0)] 1 1 [(0,1,(.c (al 0)))])),(aD 56 (.app 157056 [(al 0)] 8 (.t 54) (.t 55))),F 57 1,F 58 8,(aD 59 (.e0 157059 false [(al 0)] 1 1 [(0,1,(.t 58))])),(cv 60 Gz 57 59),F 9 56,F 10 60] (.seq (U [F 61 9,b6 62 61,F 63 0,b6 64 63,bo 65 .eql 62 64] (aY 65 (.ops [F 66 9,(aD 67 (.e0 157067 false [(al 0)] 1 1 [(0,1,(.c (al 0)))])),(aD 68 (.app 157068 [(al 0)] 8 (.t 66) (.t 67))),F 9 68]) .skip)) (U [F 69 10,b6 70 69,F 11 70] (U [F 71 9,b6 72 71,F 73 11,bo 74 .sub 72 73,(aD 75 (.mn 157075 [(al 0)] 8 (.t 74) (.t 74))),F 12 75] (.seq (U [F 76 12,b6 77 76,a5 78 .sub 77 1,F 13 78] (.block 2 (.loop  (.seq (U [F 79 13,a5 80 .geq 79 0] (aY 80 .skip (.exit 2))) (.seq (.block 3 (fD [F 83 9,F 84 13,F 85 11,bo 86 .add 84 85,bH 87 1 83 86,aV 88 1 87,(aD 89 (.bin .shl (.t 88) (.c (.J (.int .u64 20))))),F 90 9,F 91 13,F 92 11,bo 93 .add 91 92,a5 94 .sub 93 1,bH 95 1 90 94,aV 96 1 95,bo 97 .or 89 96,F 14 97] OS (fD [F 98 14,F 99 10,F 100 11,a5 101 .sub 100 1,bH 102 1 99 101,aV 103 1 102,bo 104 .quo 98 103,F 105 14,F 106 10,F 107 11,a5 108 .sub 107 1,bH 109 1 106 108,aV 110 1 109,bo 111 .rem 105 110,F 15 104,F 16 111] OS (.seq (.block 4 (.loop  (.seq (fD [F 112 15,a5 113 .geq 112 1048576,F 114 113,⟨some 115,some (114,false),.cm (.t 16)⟩,⟨some 116,some (114,false),.bin .lss (.t 115) (.c (al 1048576))⟩,⟨some 117,some (114,false),.cm (.t 116)⟩,⟨some 118,some (117,true),.cm (.t 15)⟩,⟨some 119,some (117,true),.cm (.t 10)⟩,⟨some 120,some (117,true),.cm (.t 11)⟩,⟨some 121,some (117,true),.bin .sub (.t 120) (.c (al 2))⟩,⟨some 122,some (117,true),.kO 1 (.t 119) (.t 121)⟩,⟨some 123,some (117,true),.load 1 false (.t 122)⟩,⟨some 124,some (117,true),.bin .mul (.t 118) (.t 123)⟩,⟨some 125,some (117,true),.cm (.t 16)⟩,⟨some 126,some (117,true),.bin .shl (.t 125) (.c (.J (.int .u64 20)))⟩,⟨some 127,some (117,true),.cm (.t 9)⟩,⟨some 128,some (117,true),.cm (.t 13)⟩,⟨some 129,some (117,true),.cm (.t 11)⟩,⟨some 130,some (117,true),.bin .add (.t 128) (.t 129)⟩,⟨some 131,some (117,true),.bin .sub (.t 130) (.c (al 2))⟩,⟨some 132,some (117,true),.kO 1 (.t 127) (.t 131)⟩,⟨some 133,some (117,true),.load 1 false (.t 132)⟩,⟨some 134,some (117,true),.bin .or (.t 126) (.t 133)⟩,⟨some 135,some (117,true),.bin .gtr (.t 124) (.t 134)⟩,⟨some 136,some (114,false),.pick (.t 117) (.t 135) (.c (.J (.bool false)))⟩,eh 137 114 136] arO (aY 137 .skip (.exit 4))) (.block 5 (U [F 138 15,a5 139 .sub 138 1,F 15 139] (.ops [F 140 16,F 141 10,F 142 11,a5 143 .sub 142 1,bH 144 1 141 143,aV 145 1 144,bo 146 .add 140 145,F 16 146])))))) (.ops [F 147 12,F 148 13,F 149 9,F 150 13,F 151 13,F 152 11,bo 153 .add 151 152,a5 154 .add 153 1,(aD 155 (.oH 1 (.t 149) (some (.t 150)) (some (.t 154)) none)),F 156 10,F 157 15,(tW 158 UE 155 156 157),bH 159 1 147 148,bp 1 159 158]))))) (.ops [F 81 13,a5 82 .sub 81 1,F 13 82])))))) (.seq (.ghost (.freeze 9) (.ops [F 161 9,(dQ 162 qG 161),F 163 8,(cv 164 OK 162 163),F 160 164,bA 165 0 160,bA 166 1 160,F 17 165,F 18 166])) (.seq (.ghost (.freeze 12) (.ops [F 167 12,(dQ 168 qG 167),F 169 17,F 4 168,F 5 169])) .ret))))))))))))
def Vl:bP:=b8 14 2 [.cell 4 2 true] (U [(aD 4 (.alloc 158004 [(al 0),.nil]))] (U [F 5 1,(dQ 6 qG 5),F 1 6] (.seq (U [F 7 1,b6 8 7,a5 9 .eql 8 0] (aY 9 (U [(aD 10 (.build [(al 0),.nil] [])),bp 2 4 10] .ret) .skip)) (U [F 11 0,F 12 1,(aD 13 (.build [(al 0),.nil] [(0,1,(.t 11)),(1,1,(.t 12))])),bp 2 4 13] .ret))))
def Vm:bP:=b8 59 1 [.t 2,.t 3] (U [dL 1 159001 0,br 2 0,cA 3 false] (.seq (U [bn 7 2 1,(dQ 8 k0 7),fh 9 8,F 10 9,⟨some 11,some (10,false),.dY 1 (.t 1)⟩,⟨some 12,some (10,false),.load 1 false (.t 11)⟩,⟨some 13,some (10,false),.len (.t 12)⟩,⟨some 14,some (10,false),.bin .gtr (.t 13) (.c (al 4))⟩,eh 15 10 14] (aY 15 (U [br 2 0,cA 3 false] .ret) .skip)) (U [(aD 4 (.cm (.c (.J (.int .u64 0)))))] (.seq (U [bf 16 1 1,aV 17 1 16,b6 18 17,br 19 0] (.block 0 (.loop  (U [bo 20 .lss 19 18] (.seq (aY 20 .skip (.exit 0)) (.seq (.block 1 (U [F 21 19,bH 22 1 17 19,aV 23 1 22,F 5 21,F 6 23] (.seq (U [F 24 5,a5 25 .eql 24 3,F 26 25,⟨some 27,some (26,true),.cm (.t 6)⟩,⟨some 28,some (26,true),.bin .gtr (.t 27) (.c (al 8))⟩,fN 29 26 28] (aY 29 (U [br 2 0,cA 3 false] .ret) .skip)) (.ops [F 30 4,F 31 6,(aD 32 (.conv .u64 (.t 31))),F 33 5,(aD 34 (.bin .mul (.c (al 20)) (.t 33))),bo 35 .shl 32 34,bo 36 .or 30 35,F 4 36])))) (.ops [a5 37 .add 19 1,F 19 37]))))))) (.seq (.block 2 (U [bf 39 0 1,aV 40 1 39,a5 41 .lss 40 0,F 42 41,⟨some 43,some (42,true),.cm (.t 4)⟩,⟨some 44,some (42,true),.bin .leq (.t 43) (.c (.J (.int .u64 9223372036854775808)))⟩,fN 45 42 44,F 38 45] (aY 38 (U [F 46 4,(aD 47 (.un .neg (.t 46))),(aD 48 (.conv .i64 (.t 47))),F 2 48,cA 3 true] .ret) (U [bf 50 0 1,aV 51 1 50,a5 52 .geq 51 0,F 53 52,⟨some 54,some (53,true),.cm (.t 4)⟩,⟨some 55,some (53,true),.bin .lss (.t 54) (.c (.J (.int .u64 9223372036854775808)))⟩,fN 56 53 55,F 49 56] (aY 49 (U [F 57 4,(aD 58 (.conv .i64 (.t 57))),F 2 58,cA 3 true] .ret) .skip))))) (U [br 2 0,cA 3 false] .ret))))))
def Vn:bP:=b8 69 2 [.cell 4 2 true,.t 5] (U [dL 2 160002 0,dL 3 160003 1,(aD 4 (.alloc 160004 [(al 0),.nil])),br 5 0] (.seq (U [bn 6 2 2,(dQ 7 k0 6),fh 8 7,F 9 8,⟨some 10,some (9,false),.load 2 true (.t 3)⟩,⟨some 11,some (9,false),.call k0 [(.t 10)]⟩,⟨some 12,some (9,false),.un .not (.t 11)⟩,eh 13 9 12] (aY 13 (U [(aD 14 (.build [(al 0),.nil] [])),(aD 15 (.call vr [(.c (.J (.bool false))),(.t 14)])),bA 16 0 15,bA 17 1 15,bp 2 4 16,F 5 17] .ret) .skip)) (.seq (.block 0 (U [bf 19 0 2,aV 20 1 19,bf 21 0 3,aV 22 1 21,bo 23 .mul 20 22,a5 24 .geq 23 0,F 18 24] (aY 18 (fD [bf 25 0 2,aV 26 1 25,bf 27 0 3,aV 28 1 27,(aD 29 (.e0 160029 false [(al 0),(al 0)] 1 2 [(0,1,(.t 26)),(1,1,(.t 28))])),(dQ 30 UF 29),bf 31 1 2,aV 32 1 31,bf 33 1 3,aV 34 1 33,(cv 35 KB 32 34),(cv 36 pr 30 35),(aD 37 (.call vr [(.c (.J (.bool true))),(.t 36)])),bA 38 0 37,bA 39 1 37,bp 2 4 38,F 5 39] arN .ret) (U [bf 41 1 2,aV 42 1 41,bf 43 1 3,aV 44 1 43,(cv 45 D0 42 44),a5 46 .lss 45 0,F 40 46] (aY 40 (fD [bf 47 0 3,aV 48 1 47,bf 49 1 3,aV 50 1 49,bf 51 1 2,aV 52 1 51,(cv 53 GA 50 52),(cv 54 pr 48 53),(aD 55 (.call vr [(.c (.J (.bool true))),(.t 54)])),bA 56 0 55,bA 57 1 55,bp 2 4 56,F 5 57] Vb .ret) .skip))))) (fD [bf 58 0 2,aV 59 1 58,bf 60 1 2,aV 61 1 60,bf 62 1 3,aV 63 1 62,(cv 64 GA 61 63),(cv 65 pr 59 64),(aD 66 (.call vr [(.c (.J (.bool true))),(.t 65)])),bA 67 0 66,bA 68 1 66,bp 2 4 67,F 5 68] Vb .ret))))
def Vo:bP:=b8 67 2 [.t 4] (U [eo 4] (U [F 12 0,b6 13 12,F 14 1,b6 15 14,bo 16 .add 13 15,(aD 17 (.mn 161017 [(al 0)] 8 (.t 16) (.t 16))),F 5 17] (.seq (U [F 18 0,b6 19 18,br 20 0] (.block 0 (.loop  (U [bo 21 .lss 20 19] (.seq (aY 21 .skip (.exit 0)) (.seq (.block 1 (U [F 22 20,bH 23 1 18 20,aV 24 1 23,F 6 22,F 7 24] (U [br 8 0] (.seq (U [F 25 1,b6 26 25,br 27 0] (.block 2 (.loop  (U [bo 28 .lss 27 26] (.seq (aY 28 .skip (.exit 2)) (.seq (.block 3 (U [F 29 27,bH 30 1 25 27,aV 31 1 30,F 9 29,F 10 31] (U [F 32 5,F 33 6,F 34 9,bo 35 .add 33 34,bH 36 1 32 35,aV 37 1 36,F 38 7,F 39 10,bo 40 .mul 38 39,bo 41 .add 37 40,F 42 8,bo 43 .add 41 42,F 11 43] (.ops [F 44 5,F 45 6,F 46 9,bo 47 .add 45 46,F 48 11,a5 49 .and 48 1048575,F 50 11,(aD 51 (.bin .shr (.t 50) (.c (.J (.int .u64 20))))),bH 52 1 44 47,bp 1 52 49,F 8 51])))) (.ops [a5 53 .add 27 1,F 27 53]))))))) (.ops [F 54 5,F 55 6,F 56 1,b6 57 56,bo 58 .add 55 57,bH 59 1 54 58,aV 60 1 59,F 61 8,bo 62 .add 60 61,bH 63 1 54 58,bp 1 63 62]))))) (.ops [a5 64 .add 20 1,F 20 64]))))))) (U [F 65 5,(dQ 66 qG 65),F 4 66] .ret))))
def Vp:bP:=b8 55 2 [.t 4] (U [eo 4] (.seq (U [F 9 0,b6 10 9,F 11 1,b6 12 11,bo 13 .lss 10 12] (aY 13 (.ops [F 14 1,F 15 0,F 0 14,F 1 15]) .skip)) (U [F 16 0,b6 17 16,a5 18 .add 17 1,(aD 19 (.mn 172019 [(al 0)] 8 (.t 18) (.t 18))),F 5 19] (U [br 6 0] (.seq (U [F 20 0,b6 21 20,br 22 0] (.block 0 (.loop  (U [bo 23 .lss 22 21] (.seq (aY 23 .skip (.exit 0)) (.seq (.block 1 (U [F 24 22,bH 25 1 20 22,aV 26 1 25,F 7 24,F 8 26] (U [F 27 6,F 28 8,bo 29 .add 27 28,F 6 29] (.seq (U [F 30 7,F 31 1,b6 32 31,bo 33 .lss 30 32] (aY 33 (.ops [F 34 6,F 35 1,F 36 7,bH 37 1 35 36,aV 38 1 37,bo 39 .add 34 38,F 6 39]) .skip)) (U [F 40 5,F 41 7,F 42 6,a5 43 .and 42 1048575,bH 44 1 40 41,bp 1 44 43] (.ops [F 45 6,(aD 46 (.bin .shr (.t 45) (.c (.J (.int .u64 20))))),F 6 46])))))) (.ops [a5 47 .add 22 1,F 22 47]))))))) (U [F 48 5,F 49 0,b6 50 49,F 51 6,bH 52 1 48 50,bp 1 52 51] (U [F 53 5,(dQ 54 qG 53),F 4 54] .ret)))))))
def Vq:bP:=b8 43 2 [.t 4] (U [eo 4] (U [F 9 0,(aD 10 (.oI 173010 1 vt [(.t 9)])),F 5 10] (U [br 6 0] (.seq (U [F 11 5,b6 12 11,br 13 0] (.block 0 (.loop  (U [bo 14 .lss 13 12] (.seq (aY 14 .skip (.exit 0)) (.seq (.block 1 (U [F 15 13,F 7 15] (U [F 16 5,F 17 7,bH 18 1 16 17,aV 19 1 18,F 20 6,bo 21 .sub 19 20,F 8 21] (.seq (U [F 22 7,F 23 1,b6 24 23,bo 25 .lss 22 24] (aY 25 (.ops [F 26 8,F 27 1,F 28 7,bH 29 1 27 28,aV 30 1 29,bo 31 .sub 26 30,F 8 31]) .skip)) (U [F 32 8,(aD 33 (.bin .shr (.t 32) (.c (.J (.int .u64 20))))),a5 34 .and 33 1,F 6 34] (.ops [F 35 5,F 36 7,F 37 8,a5 38 .and 37 1048575,bH 39 1 35 36,bp 1 39 38])))))) (.ops [a5 40 .add 13 1,F 13 40]))))))) (U [F 41 5,(dQ 42 qG 41),F 4 42] .ret)))))
def Vr:bP:=b8 41 2 [.t 4] (U [br 4 0] (.seq (U [F 6 0,b6 7 6,F 8 1,b6 9 8,bo 10 .neq 7 9] (aY 10 (U [F 11 0,b6 12 11,F 13 1,b6 14 13,(cv 15 GC 12 14),F 4 15] .ret) .skip)) (.seq (U [F 16 0,b6 17 16,a5 18 .sub 17 1,F 5 18] (.block 0 (.loop  (.seq (U [F 19 5,a5 20 .geq 19 0] (aY 20 .skip (.exit 0))) (.seq (.block 1 (fD [F 23 0,F 24 5,bH 25 1 23 24,aV 26 1 25,F 27 1,F 28 5,bH 29 1 27 28,aV 30 1 29,bo 31 .neq 26 30] BP (aY 31 (fD [F 32 0,F 33 5,bH 34 1 32 33,aV 35 1 34,F 36 1,F 37 5,bH 38 1 36 37,aV 39 1 38,(cv 40 GC 35 39),F 4 40] GI .ret) .skip))) (.ops [F 21 5,a5 22 .sub 21 1,F 5 22])))))) (U [br 4 0] .ret))))
def Vs:bP:=b8 38 2 [.t 4,.t 5] (U [eo 4,br 5 0] (U [F 9 0,b6 10 9,(aD 11 (.mn 176011 [(al 0)] 8 (.t 10) (.t 10))),F 6 11] (U [br 7 0] (.seq (U [F 12 0,b6 13 12,a5 14 .sub 13 1,F 8 14] (.block 0 (.loop  (.seq (U [F 15 8,a5 16 .geq 15 0] (aY 16 .skip (.exit 0))) (.seq (.block 1 (U [F 19 7,(aD 20 (.bin .shl (.t 19) (.c (.J (.int .u64 20))))),F 21 0,F 22 8,bH 23 1 21 22,aV 24 1 23,bo 25 .or 20 24,F 7 25] (U [F 26 6,F 27 8,F 28 7,F 29 1,bo 30 .quo 28 29,bH 31 1 26 27,bp 1 31 30] (.ops [F 32 7,F 33 1,bo 34 .rem 32 33,F 7 34])))) (.ops [F 17 8,a5 18 .sub 17 1,F 8 18])))))) (.seq (.ghost (.freeze 6) (.ops [F 35 6,(dQ 36 qG 35),F 37 7,F 4 36,F 5 37])) .ret)))))
def Ec:bP:=b8 21 1 [.t 2] (U [eo 2] (U [F 4 0,b6 5 4,F 3 5] (.seq (.block 0 (.loop  (.seq (U [F 6 3,a5 7 .gtr 6 0,F 8 7,⟨some 9,some (8,true),.cm (.t 0)⟩,⟨some 10,some (8,true),.cm (.t 3)⟩,⟨some 11,some (8,true),.bin .sub (.t 10) (.c (al 1))⟩,⟨some 12,some (8,true),.kO 1 (.t 9) (.t 11)⟩,⟨some 13,some (8,true),.load 1 false (.t 12)⟩,⟨some 14,some (8,true),.bin .eql (.t 13) (.c (al 0))⟩,fN 15 8 14] (aY 15 .skip (.exit 0))) (.block 1 (.ops [F 16 3,a5 17 .sub 16 1,F 3 17]))))) (U [F 18 0,F 19 3,(aD 20 (.oH 1 (.t 18) none (some (.t 19)) none)),F 2 20] .ret))))
def OT:bP:=b8 78 3 [.t 6] (U [br 6 0] (U [br 7 0] (.seq (U [F 12 0,b6 13 12,br 14 0] (.block 0 (.loop  (U [bo 15 .lss 14 13] (.seq (aY 15 .skip (.exit 0)) (.seq (.block 1 (U [F 16 14,F 8 16] (U [F 17 0,F 18 8,bH 19 1 17 18,aV 20 1 19,F 21 7,bo 22 .sub 20 21,F 9 22] (.seq (U [F 23 8,F 24 1,b6 25 24,bo 26 .lss 23 25] (aY 26 (.ops [F 27 9,F 28 2,F 29 1,F 30 8,bH 31 1 29 30,aV 32 1 31,bo 33 .mul 28 32,bo 34 .sub 27 33,F 9 34]) .skip)) (U [F 35 0,F 36 8,F 37 9,a5 38 .and 37 1048575,bH 39 1 35 36,bp 1 39 38] (.ops [F 40 9,(aD 41 (.bin .shr (.t 40) (.c (.J (.int .u64 20))))),(aD 42 (.un .neg (.t 41))),F 7 42])))))) (.ops [a5 43 .add 14 1,F 14 43]))))))) (.seq (U [F 44 7,a5 45 .eql 44 0] (aY 45 (U [F 46 2,F 6 46] .ret) .skip)) (U [br 10 0] (.seq (U [F 47 0,b6 48 47,br 49 0] (.block 2 (.loop  (U [bo 50 .lss 49 48] (.seq (aY 50 .skip (.exit 2)) (.seq (.block 3 (U [F 51 49,F 11 51] (U [F 52 10,F 53 0,F 54 11,bH 55 1 53 54,aV 56 1 55,bo 57 .add 52 56,F 10 57] (.seq (U [F 58 11,F 59 1,b6 60 59,bo 61 .lss 58 60] (aY 61 (.ops [F 62 10,F 63 1,F 64 11,bH 65 1 63 64,aV 66 1 65,bo 67 .add 62 66,F 10 67]) .skip)) (U [F 68 0,F 69 11,F 70 10,a5 71 .and 70 1048575,bH 72 1 68 69,bp 1 72 71] (.ops [F 73 10,(aD 74 (.bin .shr (.t 73) (.c (.J (.int .u64 20))))),F 10 74])))))) (.ops [a5 75 .add 49 1,F 49 75]))))))) (U [F 76 2,a5 77 .sub 76 1,F 6 77] .ret)))))))
def Vt:bP:=b8 20 2 [.t 4] (U [br 4 0] (U [F 7 0,(dQ 8 D3 7),F 5 8] (U [F 9 1,(dQ 10 D3 9),F 6 10] (.seq (U [F 11 5] (aY 11 (.seq (U [F 12 6] (aY 12 (U [br 4 0] .ret) .skip)) (U [(aD 4 (.cm (.c (.J (.int .i64 (-1))))))] .ret)) .skip)) (.seq (U [F 13 6] (aY 13 (U [br 4 1] .ret) .skip)) (.seq (U [F 14 0,F 15 1,bo 16 .lss 14 15] (aY 16 (U [(aD 4 (.cm (.c (.J (.int .i64 (-1))))))] .ret) .skip)) (.seq (U [F 17 0,F 18 1,bo 19 .gtr 17 18] (aY 19 (U [br 4 1] .ret) .skip)) (U [br 4 0] .ret))))))))
def Vu:bP:=b8 18 1 [.t 2] (U [br 2 0] (U [br 3 0] (.seq (U [F 6 0,b6 7 6,br 8 0] (.block 0 (.loop  (U [bo 9 .lss 8 7] (.seq (aY 9 .skip (.exit 0)) (.seq (.block 1 (U [bH 10 1 6 8,aV 11 1 10,F 5 11] (U [F 12 5,F 13 3,bo 14 .neq 12 13] (aY 14 (U [F 15 5,F 2 15] .ret) .skip)))) (.ops [a5 16 .add 8 1,F 8 16]))))))) (U [F 17 3,F 2 17] .ret))))
def Vv:bP:=b8 6 1 [.t 2] (U [cA 2 false] (U [F 3 0,F 4 0,bo 5 .neq 3 4,F 2 5] .ret))
def Vw:bP:=b8 17 2 [.t 4] (U [cA 4 false] (U [F 5 0,(dQ 6 D3 5),F 7 6,⟨some 8,some (7,true),.cm (.t 1)⟩,⟨some 9,some (7,true),.call D3 [(.t 8)]⟩,⟨some 10,some (7,true),.un .not (.t 9)⟩,fN 11 7 10,F 12 11,⟨some 13,some (12,false),.cm (.t 0)⟩,⟨some 14,some (12,false),.cm (.t 1)⟩,⟨some 15,some (12,false),.bin .lss (.t 13) (.t 14)⟩,eh 16 12 15,F 4 16] .ret))
def Vx:bP:=b8 9 2 [.t 4] (U [cA 4 false] (U [F 5 0,F 6 1,(cv 7 Uv 5 6),a5 8 .geq 7 0,F 4 8] .ret))
def Vy:bP:=b8 9 2 [.t 4] (U [cA 4 false] (U [F 5 0,F 6 1,(cv 7 Uw 5 6),a5 8 .geq 7 0,F 4 8] .ret))
def Vz:bP:=b8 48 2 [.t 4] (U [eo 4] (.seq (U [F 9 1,a5 10 .lss 9 0] (aY 10 (.ops [(aD 11 (.bad)),⟨none,none,.bad⟩]) .skip)) (U [F 13 0,b6 14 13,(aD 15 (.conv .u64 (.t 14))),F 16 1,(aD 17 (.conv .u64 (.t 16))),(cv 18 Uy 15 17),F 12 18,bA 19 0 12,bA 20 1 12,F 5 19,F 6 20] (.seq (U [F 21 5,(aD 22 (.bin .gtr (.t 21) (.c (.J (.int .u64 0))))),F 23 22,⟨some 24,some (23,false),.cm (.t 6)⟩,⟨some 25,some (23,false),.bin .gtr (.t 24) (.c (.J (.int .u64 9223372036854775807)))⟩,eh 26 23 25] (aY 26 (.ops [(aD 27 (.bad)),⟨none,none,.bad⟩]) .skip)) (U [F 28 6,(aD 29 (.conv .i64 (.t 28))),(aD 30 (.mn 131030 [(al 0),.nil,(al 0),.nil] 64 (.t 29) (.t 29))),F 7 30] (U [F 31 7,F 32 0,(aD 33 (.sj 4 (.t 31) (.t 32))),F 8 33] (.seq (.block 0 (.loop  (.seq (U [F 34 8,F 35 7,b6 36 35,bo 37 .lss 34 36] (aY 37 .skip (.exit 0))) (.block 1 (.mY [F 38 8,F 39 7,F 40 8,(aD 41 (.oH 4 (.t 39) (some (.t 40)) none none)),F 42 7,F 43 8,(aD 44 (.oH 4 (.t 42) none (some (.t 43)) none)),(aD 45 (.sj 4 (.t 41) (.t 44))),bo 46 .add 38 45,F 8 46] GI))))) (U [F 47 7,F 4 47] .ret))))))))
def VA:bP:=b8 19 2 [.t 4] (U [br 4 0] (.seq (U [F 6 0,b6 7 6,br 8 0] (.block 0 (.loop  (U [bo 9 .lss 8 7] (.seq (aY 9 .skip (.exit 0)) (.seq (.block 1 (U [F 10 8,F 5 10] (U [F 11 1,F 12 0,F 13 5,bH 14 5 12 13,bn 15 5 14,(aD 16 (.jE (.t 11) [(.t 15)]))] (aY 16 (U [F 17 5,F 4 17] .ret) .skip)))) (.ops [a5 18 .add 8 1,F 8 18]))))))) (U [(aD 4 (.cm (.c (.J (.int .i64 (-1))))))] .ret)))
def GJ:bP:=b8 19 2 [.t 4] (U [br 4 0] (.seq (U [F 6 0,b6 7 6,br 8 0] (.block 0 (.loop  (U [bo 9 .lss 8 7] (.seq (aY 9 .skip (.exit 0)) (.seq (.block 1 (U [F 10 8,F 5 10] (U [F 11 1,F 12 0,F 13 5,bH 14 4 12 13,bn 15 4 14,(aD 16 (.jE (.t 11) [(.t 15)]))] (aY 16 (U [F 17 5,F 4 17] .ret) .skip)))) (.ops [a5 18 .add 8 1,F 8 18]))))))) (U [(aD 4 (.cm (.c (.J (.int .i64 (-1))))))] .ret)))
def VB:bP:=b8 8 1 [.t 2] (U [eo 2] (.seq (U [F 3 0,(aD 4 (.rk false (.t 3)))] (aY 4 (U [eo 2] .ret) .skip)) (U [(aD 5 (.e0 147005 true [] 4 0 [])),F 6 0,(aD 7 (.app 147007 [(al 0),.nil,(al 0),.nil] 64 (.t 5) (.t 6))),F 2 7] .ret)))
def VC:bP:=b8 8 1 [.t 2] (U [eo 2] (.seq (U [F 3 0,(aD 4 (.rk false (.t 3)))] (aY 4 (U [eo 2] .ret) .skip)) (U [(aD 5 (.e0 156005 true [] 1 0 [])),F 6 0,(aD 7 (.app 156007 [(al 0)] 8 (.t 5) (.t 6))),F 2 7] .ret)))
def KQ:bP:=b8 19 2 [.t 4] (U [br 4 0] (.seq (U [F 6 0,b6 7 6,br 8 0] (.block 0 (.loop  (U [bo 9 .lss 8 7] (.seq (aY 9 .skip (.exit 0)) (.seq (.block 1 (U [F 10 8,F 5 10] (U [F 11 1,F 12 0,F 13 5,bH 14 1 12 13,aV 15 1 14,(aD 16 (.jE (.t 11) [(.t 15)]))] (aY 16 (U [F 17 5,F 4 17] .ret) .skip)))) (.ops [a5 18 .add 8 1,F 8 18]))))))) (U [(aD 4 (.cm (.c (.J (.int .i64 (-1))))))] .ret)))
def KR:bP:=b8 32 3 [.t 6] (U [cA 6 false] (.seq (U [F 10 0,b6 11 10,F 12 1,b6 13 12,bo 14 .neq 11 13] (aY 14 (U [cA 6 false] .ret) .skip)) (.seq (U [F 15 0,b6 16 15,br 17 0] (.block 0 (.loop  (U [bo 18 .lss 17 16] (.seq (aY 18 .skip (.exit 0)) (.seq (.block 1 (U [F 19 17,bH 20 4 15 17,bn 21 4 20,(aD 8 (.alloc 235008 [(al 0),.nil,(al 0),.nil])),F 7 19,bp 4 8 21] (U [F 22 1,F 23 7,bH 24 4 22 23,bn 25 4 24,(aD 9 (.alloc 235009 [(al 0),.nil,(al 0),.nil])),bp 4 9 25] (U [F 26 2,bn 27 4 8,bn 28 4 9,(aD 29 (.jE (.t 26) [(.t 27),(.t 28)])),fh 30 29] (aY 30 (U [cA 6 false] .ret) .skip))))) (.ops [a5 31 .add 17 1,F 17 31]))))))) (U [cA 6 true] .ret))))
def VD:bP:=b8 9 2 [.t 4] (U [cA 4 false] (U [F 5 0,F 6 1,(cv 7 wR 5 6),a5 8 .geq 7 0,F 4 8] .ret))
def VE:bP:=b8 9 2 [.t 4] (U [cA 4 false] (U [F 5 0,F 6 1,(cv 7 UO 5 6),a5 8 .geq 7 0,F 4 8] .ret))
def KS:bP:=b8 19 2 [.t 4] (U [br 4 0] (.seq (U [F 6 0,b6 7 6,br 8 0] (.block 0 (.loop  (U [bo 9 .lss 8 7] (.seq (aY 9 .skip (.exit 0)) (.seq (.block 1 (U [F 10 8,F 5 10] (U [F 11 1,F 12 0,F 13 5,bH 14 4 12 13,bn 15 4 14,(aD 16 (.jE (.t 11) [(.t 15)]))] (aY 16 (U [F 17 5,F 4 17] .ret) .skip)))) (.ops [a5 18 .add 8 1,F 8 18]))))))) (U [(aD 4 (.cm (.c (.J (.int .i64 (-1))))))] .ret)))
def OU:bP:=b8 11 1 [] (U [F 3 0,b6 4 3,F 2 4] (.ops [F 5 0,F 6 2,F 7 2,(aD 8 (.conv .u64 (.t 7))),(dQ 9 U2 8),(aD 10 (.call KM [(.t 5),(.c (al 0)),(.t 6),(.t 9)]))]))
def VF:bP:=b8 26 2 [.t 4] (U [cA 4 false] (.seq (U [F 6 0,b6 7 6,F 8 1,b6 9 8,bo 10 .neq 7 9] (aY 10 (U [cA 4 false] .ret) .skip)) (.seq (U [F 11 0,b6 12 11,br 13 0] (.block 0 (.loop  (U [bo 14 .lss 13 12] (.seq (aY 14 .skip (.exit 0)) (.seq (.block 1 (U [F 15 13,F 5 15] (fD [F 16 0,F 17 5,bH 18 1 16 17,aV 19 1 18,F 20 1,F 21 5,bH 22 1 20 21,aV 23 1 22,bo 24 .neq 19 23] BP (aY 24 (U [cA 4 false] .ret) .skip)))) (.ops [a5 25 .add 13 1,F 13 25]))))))) (U [cA 4 true] .ret))))
def OV:bP:=b8 61 1 [.t 2] (U [eo 2] (.seq (U [F 6 0,b6 7 6,a5 8 .lss 7 2] (aY 8 (U [F 9 0,F 2 9] (.ghost (.freeze 2) .ret)) .skip)) (.seq (U [br 3 1] (.block 0 (.loop  (.seq (U [F 10 3,F 11 0,b6 12 11,bo 13 .lss 10 12] (aY 13 .skip (.exit 0))) (.seq (.block 1 (fD [F 16 0,F 17 3,bH 18 1 16 17,aV 19 1 18,F 20 0,F 21 3,a5 22 .sub 21 1,bH 23 1 20 22,aV 24 1 23,bo 25 .eql 19 24] GI (aY 25 (U [F 26 0,F 27 3,(aD 28 (.oH 1 (.t 26) (some (.t 27)) none none)),F 4 28] (.seq (U [br 5 1] (.block 2 (.loop  (.seq (U [F 29 5,F 30 4,b6 31 30,bo 32 .lss 29 31] (aY 32 .skip (.exit 2))) (.seq (.block 3 (fD [F 35 4,F 36 5,bH 37 1 35 36,aV 38 1 37,F 39 4,F 40 5,a5 41 .sub 40 1,bH 42 1 39 41,aV 43 1 42,bo 44 .neq 38 43] GI (aY 44 (U [F 45 0,F 46 3,F 47 4,F 48 5,bH 49 1 47 48,aV 50 1 49,bH 51 1 45 46,bp 1 51 50] (.ops [F 52 3,a5 53 .add 52 1,F 3 53])) .skip))) (.ops [F 33 5,a5 34 .add 33 1,F 5 34])))))) (U [F 54 0,F 55 3,(aD 56 (.oH 1 (.t 54) (some (.t 55)) none none)),⟨none,none,.sl [(al 0)] (.t 56)⟩] (U [F 57 0,F 58 3,(aD 59 (.oH 1 (.t 57) none (some (.t 58)) none)),F 2 59] (.ghost (.freeze 2) .ret))))) .skip))) (.ops [F 14 3,a5 15 .add 14 1,F 3 15])))))) (U [F 60 0,F 2 60] (.ghost (.freeze 2) .ret)))))
def OW:bP:=b8 42 2 [.t 4] (U [eo 4] (U [F 8 0,F 9 1,(cv 10 wR 8 9),F 5 10] (.seq (U [F 11 5,(aD 12 (.bin .eql (.t 11) (.c (.J (.int .i64 (-1))))))] (aY 12 (U [F 13 0,F 4 13] .ret) .skip)) (.seq (U [F 14 5,a5 15 .add 14 1,F 6 15] (.block 0 (.loop  (.seq (U [F 16 6,F 17 0,b6 18 17,bo 19 .lss 16 18] (aY 19 .skip (.exit 0))) (.seq (.block 1 (U [F 22 0,F 23 6,bH 24 1 22 23,aV 25 1 24,F 7 25] (U [F 26 1,F 27 7,(aD 28 (.jE (.t 26) [(.t 27)])),fh 29 28] (aY 29 (U [F 30 0,F 31 5,F 32 7,bH 33 1 30 31,bp 1 33 32] (.ops [F 34 5,a5 35 .add 34 1,F 5 35])) .skip)))) (.ops [F 20 6,a5 21 .add 20 1,F 6 21])))))) (U [F 36 0,F 37 5,(aD 38 (.oH 1 (.t 36) (some (.t 37)) none none)),⟨none,none,.sl [(al 0)] (.t 38)⟩] (U [F 39 0,F 40 5,(aD 41 (.oH 1 (.t 39) none (some (.t 40)) none)),F 4 41] .ret))))))
def OX:bP:=b8 134 4 [] (U [cA 8 true] (U [cA 9 true] (.block 0 (.loop  (.block 1 (U [F 19 2,F 20 1,bo 21 .sub 19 20,F 10 21] (.seq (U [F 22 10,a5 23 .leq 22 12] (aY 23 (U [F 24 0,F 25 1,F 26 2,(tW 27 U4 24 25 26)] .ret) .skip)) (.seq (U [F 28 3,a5 29 .eql 28 0] (aY 29 (U [F 30 0,F 31 1,F 32 2,(tW 33 arC 30 31 32)] .ret) .skip)) (.seq (U [F 34 8,fh 35 34] (aY 35 (U [F 36 0,F 37 1,F 38 2,(tW 39 arD 36 37 38)] (.ops [F 40 3,a5 41 .sub 40 1,F 3 41])) .skip)) (U [F 43 0,F 44 1,F 45 2,(tW 46 arE 43 44 45),F 42 46,bA 47 0 42,bA 48 1 42,F 11 47,F 12 48] (.seq (U [F 49 12,a5 50 .eql 49 2] (aY 50 (U [F 51 0,F 52 1,F 53 2,(tW 54 arF 51 52 53)] (U [F 55 2,a5 56 .sub 55 1,F 57 11,F 58 1,bo 59 .sub 57 58,bo 60 .sub 56 59,F 11 60] (.ops [br 12 1]))) .skip)) (.seq (U [F 61 8,F 62 61,⟨some 63,some (62,true),.cm (.t 9)⟩,fN 64 62 63,F 65 64,⟨some 66,some (65,true),.cm (.t 12)⟩,⟨some 67,some (65,true),.bin .eql (.t 66) (.c (al 1))⟩,fN 68 65 67] (aY 68 (U [F 69 0,F 70 1,F 71 2,(tW 72 arG 69 70 71)] (aY 72 .ret .skip)) .skip)) (.seq (fD [F 73 1,a5 74 .gtr 73 0,F 75 74,⟨some 76,some (75,true),.cm (.t 0)⟩,⟨some 77,some (75,true),.cm (.t 1)⟩,⟨some 78,some (75,true),.bin .sub (.t 77) (.c (al 1))⟩,⟨some 79,some (75,true),.kO 1 (.t 76) (.t 78)⟩,⟨some 80,some (75,true),.load 1 false (.t 79)⟩,⟨some 81,some (75,true),.cm (.t 0)⟩,⟨some 82,some (75,true),.cm (.t 11)⟩,⟨some 83,some (75,true),.kO 1 (.t 81) (.t 82)⟩,⟨some 84,some (75,true),.load 1 false (.t 83)⟩,⟨some 85,some (75,true),.call OP [(.t 80),(.t 84)]⟩,⟨some 86,some (75,true),.un .not (.t 85)⟩,fN 87 75 86] afa (aY 87 (U [F 88 0,F 89 1,F 90 2,F 91 11,(zZ 92 arH 88 89 90 91),F 13 92] (U [F 93 13,F 1 93] (.exit 1))) .skip)) (U [F 95 0,F 96 1,F 97 2,F 98 11,(zZ 99 arI 95 96 97 98),F 94 99,bA 100 0 94,bA 101 1 94,F 14 100,F 15 101] (U [F 102 15,F 9 102] (U [F 103 14,F 104 1,bo 105 .sub 103 104,F 106 2,F 107 14,bo 108 .sub 106 107,F 16 105,F 17 108] (U [F 109 10,a5 110 .quo 109 8,F 18 110] (U [F 111 16,F 112 17,bo 113 .lss 111 112] (aY 113 (U [F 114 16,F 115 18,bo 116 .geq 114 115,F 8 116] (U [F 117 0,F 118 1,F 119 14,F 120 3,(zZ 121 KM 117 118 119 120)] (.ops [F 122 14,a5 123 .add 122 1,F 1 123]))) (U [F 124 17,F 125 18,bo 126 .geq 124 125,F 8 126] (U [F 127 0,F 128 14,a5 129 .add 128 1,F 130 2,F 131 3,(zZ 132 KM 127 129 130 131)] (.ops [F 133 14,F 2 133]))))))))))))))))))))))
def VG:bP:=b8 9 2 [.t 4] (U [cA 4 false] (U [F 5 0,F 6 1,(cv 7 U6 5 6),a5 8 .geq 7 0,F 4 8] .ret))
def OY:bP:=b8 49 3 [] (U [F 8 1,a5 9 .add 8 1,F 6 9] (.block 0 (.loop  (.seq (U [F 10 6,F 11 2,bo 12 .lss 10 11] (aY 12 .skip (.exit 0))) (.seq (.block 1 (U [F 15 6,F 7 15] (.block 2 (.loop  (.seq (fD [F 16 7,F 17 1,bo 18 .gtr 16 17,F 19 18,⟨some 20,some (19,true),.cm (.t 0)⟩,⟨some 21,some (19,true),.cm (.t 7)⟩,⟨some 22,some (19,true),.kO 1 (.t 20) (.t 21)⟩,⟨some 23,some (19,true),.load 1 false (.t 22)⟩,⟨some 24,some (19,true),.cm (.t 0)⟩,⟨some 25,some (19,true),.cm (.t 7)⟩,⟨some 26,some (19,true),.bin .sub (.t 25) (.c (al 1))⟩,⟨some 27,some (19,true),.kO 1 (.t 24) (.t 26)⟩,⟨some 28,some (19,true),.load 1 false (.t 27)⟩,⟨some 29,some (19,true),.call OP [(.t 23),(.t 28)]⟩,fN 30 19 29] afa (aY 30 .skip (.exit 2))) (.seq (.block 3 (.mY [F 33 0,F 34 7,F 35 0,F 36 7,a5 37 .sub 36 1,F 38 0,F 39 7,a5 40 .sub 39 1,bH 41 1 38 40,aV 42 1 41,F 43 0,F 44 7,bH 45 1 43 44,aV 46 1 45,bH 47 1 33 34,bp 1 47 42,bH 48 1 35 37,bp 1 48 46] afb)) (.ops [F 31 7,a5 32 .sub 31 1,F 7 32]))))))) (.ops [F 13 6,a5 14 .add 13 1,F 6 14]))))))
def VH:bP:=b8 19 2 [.t 4] (U [br 4 0] (.seq (U [F 6 0,b6 7 6,br 8 0] (.block 0 (.loop  (U [bo 9 .lss 8 7] (.seq (aY 9 .skip (.exit 0)) (.seq (.block 1 (U [F 10 8,F 5 10] (U [F 11 1,F 12 0,F 13 5,bH 14 1 12 13,aV 15 1 14,bo 16 .eql 11 15] (aY 16 (U [F 17 5,F 4 17] .ret) .skip)))) (.ops [a5 18 .add 8 1,F 8 18]))))))) (U [(aD 4 (.cm (.c (.J (.int .i64 (-1))))))] .ret)))
theorem VI (l:List Int)(n:Nat)(aK:n<D l)(h:l[n]=0):fI (l.take (n+1))=fI (l.take n):=by
 rw[g4,bs aK,h];exact aeZ _
theorem VJ (l:List Int)(n:Nat)(aK:n<D l)(h:l[n]≠0):fI (l.take (n+1))=l.take (n+1):=by
 rw[g4,bs aK];exact ae0 _ h
abbrev GK:List Int->List Data:=λ(l:List Int)=>[.Y (l.map ae)]
def z0:=cj GK λ(l:List Int)=>cM (D l<=1000000) (.same (.Y ((fI l).map ae)))
theorem OZ:∀a b,GK a=GK b->a=b:=by
  intro ei ai h;exact map_inj e9 _ _ (by simpa using h)
@[go_sem] theorem O0 (l:List Int)(H:(D l)<=1000000):z0 [.Y (l.map ae)]=some (.same (.Y ((fI l).map ae))):=(ct OZ l).trans (cR H _)
theorem arR (T:bb)  (l:List Int) (H:(D l)<=1000000):WP T Ec (.same (.Y ((fI l).map ae))) [.J (.Y (l.map ae))]:=by
 refine cu ?_;simp only[Ec];have ry:((l.map ae).all λe=>D e==1)=true:=by simp[ae]
 refine aX ?_;repeat' (intro h<;>simp only[h,go_sem,go_sem_proc,ak]<;>try refine ax ?_ ?_)
 refine dd [0] [] (λ(n:Nat) tm mem=>n<=D l/\fI l=fI (l.take n)/\tm 3=.J (.int .i64 n)) (λn=>n) (D l) (by refine⟨b0 _,by simp,by simp[go_sem]⟩) ?_;intro vs ms aP aO;simp only[go_sem,go_sem_proc,ak] at aP aO;subst aP aO;rintro n tm mem O-⟨aK,bz,af⟩;simp only[go_sem,go_sem_proc,a3] at O;have ar:=O;rcases n with _|n
 ·refine aX ?_;repeat' (intro h<;>simp only[h,go_sem,go_sem_proc,ar,af,ry,ly,l4,show ¬ ((0:Int)>0) by omega,decide_false,ak,show (0:Int).toNat=0 from rfl,show (0:Int)<=0 by omega,ft,ns,cZ]<;>try refine ax ?_ ?_)
  rw[bz];simp[fI]
 ·have hw:IntKind.i64.wrap (((n+1:Nat):Int)-1)=(n:Int):=by rw[e2 _];omega
  have Q:l[n]?=some l[n]:=bs (by omega);have h7:((n+1:Nat):Int)>0:=by omega
  have hle:n+1<=D l:=aK
  by_cases aW:l[n]=0
  ·refine aX ?_;repeat' (intro h<;>simp only[h,go_sem,go_sem_proc,ar,af,hw,Q,aW,h7,ak,bj,decide_true,ae,beq_self_eq_true,a3]<;>try refine ax ?_ ?_)
   exact⟨n,by omega,by omega,by rw[bz,VI l n (by omega) aW],rfl⟩
  ·have qH:(l[n]==0)=false:=by simpa using aW
   refine aX ?_;repeat' (intro h<;>simp only[h,go_sem,go_sem_proc,ar,af,hw,Q,qH,h7,ry,hle,ae,ak,bj,decide_true,a3,show (0:Int)<=((n+1:Nat):Int) by omega,lz,ft]<;>try refine ax ?_ ?_)
   rw[bz,VJ l n (by omega) aW,List.map_take]
structure afc where
 l:List Int
 k:Key
 g:Nat
def vz:List R->Mem->Option (R×Mem):=Gx (λ(a:afc) args mem=>args=[.ref a.k a.g 1 0 (D a.l)]/\mem a.k=some (a.g,a9 ae a.l)/\D a.l<=1000000) (λa mem=>(.ref a.k a.g 1 0 (fI a.l).length,mem))
theorem VK {α:Type}{enc:α->List Data}{sz:Nat}(h:∀a,(enc a).length=sz)(M:∀a b,enc a=enc b->a=b):∀(l fu:List α),a9 enc l=a9 enc fu->0<sz->l=fu:=by
 intro l
 induction l with
 |nil =>
  intro fu e aW
  cases fu with
  |nil=>rfl
  |cons b r =>
   have:=congrArg D e;rw[oP h,oP h] at this;simp only[kZ,h4,DQ,qm] at this;omega
 |cons a r aA =>
  intro fu e aW
  cases fu with
  |nil =>
   have:=congrArg D e;rw[oP h,oP h] at this;simp only[kZ,h4,DQ,qm] at this;omega
  |cons b FZ =>
   rw[yr,yr] at e;have aw:((enc a).map R.J).length=((enc b).map R.J).length:=by simp[h]
   obtain⟨ay,aC⟩:=GL e aw;have cg:=map_inj (λx y (e:R.J x=R.J y)=>by cases e;rfl) _ _ ay;rw[M _ _ cg,aA FZ aC aW]
theorem VL (l:List Int)(k g:Nat)(mem:Mem)(h:mem k=some (g,a9 ae l))(aw:(D l)<=1000000):vz [.ref k g 1 0 (D l)] mem=some (.ref k g 1 0 (fI l).length,mem):=by
 unfold vz;refine aeY (a:=(⟨l,k,g⟩:afc)) ?_ ⟨rfl,h,aw⟩;rintro a b args mem ⟨G,I,_⟩ ⟨af,aS,_⟩;rw[G] at af;simp only[a3,R.ref.injEq,true_and,and_true] at af;obtain⟨KT,O1,_⟩:=af;rw[KT,aS] at I;simp only[cl,e6] at I;have:=VK hB e9 _ _ I.2 (by omega);rw[KT,O1,this]
@[go_sem] theorem aKq (d:Data)(mem:Mem):vz [.J d] mem=none:=by
 cases Q:vz [.J d] mem with
 |none=>rfl
 |some x =>
  unfold vz at Q;obtain⟨a,⟨h,_⟩,_⟩:=Uj Q
  cases h
theorem arS (T:bb)(l:List Int)(k g:Nat)(mem:Mem)(hm:mem k=some (g,a9 ae l))(H:(D l)<=1000000):
  wp T Ec.body (Gw Ec.res (.ref k g 1 0 (fI l).length) mem) ⟨ka [.ref k g 1 0 (D l)],mem⟩:=by
 refine qz ?_;simp only[Ec];refine aX ?_;repeat' (intro h<;>simp only[h,go_sem,go_sem_proc,hm]<;>try refine ax ?_ ?_)
 refine dd [0] [] (λ(n:Nat) tm mem'=>n<=D l/\fI l=fI (l.take n)/\tm 3=.J (.int .i64 n)/\mem'=mem) (λn=>n) (D l) (by refine⟨b0 _,by simp,by simp[go_sem],rfl⟩) ?_;intro vs ms aP aO;simp only[go_sem,go_sem_proc] at aP aO;subst aP aO;rintro n tm _ O-⟨aK,bz,af,rfl⟩;simp only[go_sem,go_sem_proc,a3] at O;have ar:=O;rcases n with _|n
 ·refine aX ?_;repeat' (intro h<;>simp only[h,go_sem,go_sem_proc,ar,af,hm,ly,l4,show ¬ ((0:Int)>0) by omega,decide_false,show (0:Int).toNat=0 from rfl,show (0:Int)<=0 by omega,ft]<;>try refine ax ?_ ?_)
  rw[bz];simp[fI]
 ·have hw:IntKind.i64.wrap (((n+1:Nat):Int)-1)=(n:Int):=by rw[e2 _];omega
  have Q:l[n]?=some l[n]:=bs (by omega);have h7:((n+1:Nat):Int)>0:=by omega
  have hle:n+1<=D l:=aK;have az:n<D l:=aK;have yf:=T6 hB Q (f:=0) (n:=1) (by omega);have eM:=oP hB l;rw[cI] at eM;have afd:n+1<=(a9 ae l).length:=by omega
  have afe:fJ 1 (fT n (a9 ae l))=[.J (.int .i64 l[n])]:=by
   unfold cut at yf;rw[cI,nZ,ad (by omega)] at yf
   simpa [ae] using yf
  by_cases aW:l[n]=0
  ·refine aX ?_;repeat' (intro h<;>simp only[h,go_sem,go_sem_proc,ar,af,hm,hw,az,afd,afe,aW,h7,decide_true,cI,beq_self_eq_true]<;>try refine ax ?_ ?_)
   exact⟨n,by omega,by omega,by rw[bz,VI l n (by omega) aW],rfl⟩
  ·have qH:(l[n]==0)=false:=by simpa using aW
   refine aX ?_;repeat' (intro h<;>simp only[h,go_sem,go_sem_proc,ar,af,hm,hw,az,afd,afe,qH,h7,hle,decide_true,cI,show (0:Int)<=((n+1:Nat):Int) by omega,lz,ft,Nat.sub_zero]<;>try refine ax ?_ ?_)
   rw[bz,VJ l n (by omega) aW];simp;omega
abbrev wV:Int->List Data:=λ(n:Int)=>[.int .i64 n]
def O2:=cj wV λ(n:Int)=>some (.same (.bool false))
theorem z1:∀a b,wV a=wV b->a=b:=by
  intro iP jO h;simp only[a3,Data.int.injEq,Data.agg.injEq,Data.Y.injEq,Data.bool.injEq,Data.str.injEq,Data.ptr.injEq,Data.cH.injEq,e6,true_and,and_true] at h ⊢
  first|exact h|simpa [yx,and_assoc] using h|grind
@[go_sem] theorem aKr (n:Int):O2 [.int .i64 n]=some (.same (.bool false)):=ct z1 n
theorem arT (T:bb)  (n:Int):WP T Vv (.same (.bool false)) [.J (.int .i64 n)]:=by
 refine cu ?_;simp only[Vv];refine aX ?_;repeat' (intro h<;>simp only[h,go_sem,go_sem_proc,beq_self_eq_true]<;>try refine ax ?_ ?_)
def hL (a b:Int):Int:=if decide (a<b)=true then -1 else if decide (a>b)=true then 1 else 0
abbrev Ed:Int×Int->List Data:=λ(a,b)=>[.int .i64 a,.int .i64 b]
def O3:=cj Ed λ(a,b)=>some (.same (.int .i64 (hL a b)))
theorem KU:∀a b,Ed a=Ed b->a=b:=by
  rintro⟨cW,dh⟩ ⟨de,eH⟩ h;simp only[a3,Data.int.injEq,Data.agg.injEq,Data.Y.injEq,Data.bool.injEq,Data.str.injEq,Data.ptr.injEq,Data.cH.injEq,e6,true_and,and_true] at h ⊢
  first|exact h|simpa [yx,and_assoc] using h|grind
@[go_sem] theorem aKs (a:Int)(b:Int):O3 [.int .i64 a,.int .i64 b]=some (.same (.int .i64 (hL a b))):=ct KU (a,b)
theorem arU (T:bb)(VM:T D3=aU O2)(a:Int)(b:Int):WP T Vt (.same (.int .i64 (hL a b))) [.J (.int .i64 a),.J (.int .i64 b)]:=by
 refine cu ?_;simp only[Vt];refine aX ?_;repeat' (intro h<;>simp only[h,go_sem,go_sem_proc,VM]<;>try refine ax ?_ ?_)
 all_goals simp only[hL, *,reduceIte,cP,dD,vm,sy,l1,po,zO,gQ,iT,fx,kR,beq_self_eq_true,bne]
def z2:List Int->Int
 | []=>0
 |d::r=>if (d==0)=true then z2 r else d
def VN:=cj GK λ(l:List Int)=>cM (D l<=1000000) (.same (.int .i64 (z2 l)))
@[go_sem] theorem arV (l:List Int)(H:(D l)<=1000000):VN [.Y (l.map ae)]=some (.same (.int .i64 (z2 l))):=(ct OZ l).trans (cR H _)
theorem arW (T:bb)  (l:List Int) (H:(D l)<=1000000):WP T Vu (.same (.int .i64 (z2 l))) [.J (.Y (l.map ae))]:=by
 refine cu ?_;simp only[Vu];simp only[go_sem,go_sem_proc,ak];repeat' (first|refine ax ?_ ?_|fail)<;>intro h<;>simp only[h,go_sem,go_sem_proc,ak]
 refine dd [3,6,7] [] (λi tm mem=>0<=i/\i<=(D l:Int)/\z2 l=z2 (l.drop i.toNat)/\tm 8=.J (.int .i64 i)) (λi=>(D l-i).toNat) 0 (by refine⟨by omega,by omega,by simp,by simp[go_sem]⟩) ?_;intro vs ms aP aO;simp only[go_sem,go_sem_proc] at aP aO;subst aP aO;rintro i tm mem O-⟨sG,M,aJ,ca⟩;simp only[go_sem,go_sem_proc,a3] at O;obtain⟨af,bV,bQ⟩:=O;rcases dn (i<D l) with az|b4
 ·obtain⟨x,Q,aa,-⟩:=aeN l i sG az;simp only[go_sem,go_sem_proc,af,bV,bQ,ca,Q,az,sG,ae,ak,bj,decide_true,a3];repeat' (first|refine ax ?_ ?_|fail)<;>intro h<;>simp only[h,go_sem,go_sem_proc,af,bV,bQ,ca,Q,az,sG,ae,ak,bj,decide_true,a3]
  ·rw[aJ,aa];simp[z2,h]
  ·exact⟨i+1,by omega,by omega,by omega,by rw[aJ,aa];simp only[z2, *,reduceIte,cP,dD,vm,sy,l1,po,zO,gQ,iT,fx,kR,beq_self_eq_true,bne],by rw[e2 _]⟩
 ·have he:l.drop i.toNat=[]:=jJ (by omega);simp only[go_sem,go_sem_proc,af,bV,bQ,ca,b4,decide_false];repeat' (first|refine ax ?_ ?_|fail)<;>intro h<;>simp only[h,go_sem,go_sem_proc,af,bV,bQ,ca,b4,decide_false]
  rw[aJ,he];rfl
theorem O4 (l:List Int):((l.map ae).all λe=>D e==1)=true:=by simp[ae]
def BQ:=cj GK λ(l:List Int)=>cM (D l<=1000000) (.own 1 (l.map ae))
@[go_sem] theorem aff (l:List Int)(H:(D l)<=1000000):BQ [.Y (l.map ae)]=some (.own 1 (l.map ae)):=(ct OZ l).trans (cR H _)
theorem arX (T:bb)  (l:List Int) (H:(D l)<=1000000):WP T VC (.own 1 (l.map ae)) [.J (.Y (l.map ae))]:=by
 refine cu ?_;simp only[VC]
 have dz:mq 156005 0 1 0 8 (D l) ((l.map ae).flatten.map .J) (some (0,[]))=some (.ref 156005 1 1 0 (D l),some (156005,1,a9 ae l)):=by
  have:=DO hB vn 156005 0 8 [] l (by simp;omega) (by simp;omega)
  simpa [a9] using this
 have hlen:(a9 ae l).length=D l:=by rw[oP hB];omega
 refine aX ?_;repeat' (intro h<;>simp only[h,go_sem,go_sem_proc,O4,dz,ak]<;>try refine ax ?_ ?_)
 rintro b ag
 cases b
 ·refine aX ?_;repeat' (intro h<;>simp only[h,go_sem,go_sem_proc,O4,dz,ak,rE,cI,hlen]<;>try refine ax ?_ ?_)
  rw[ad (by omega),dr (by omega)];unfold a9;rw[tP _ λd=>rfl];have:=yt (sz:=1) (l.map ae) (by simp[ae]);rw[ak] at this;simp[this]
 ·cases l with
  |nil =>
       refine aX ?_;repeat' (intro h<;>simp only[h,go_sem,go_sem_proc,rE,cZ]<;>try refine ax ?_ ?_)
  |cons x r=>simp at ag
abbrev Raw:=Int×List Int
def da (a:Raw):List Data:=[.int .i64 a.1,.Y (a.2.map ae)]
def n4 (d:Int):Bool:=!decide (d<0) && !decide (d>1048575)
def dG (a:Raw):Bool:=a.2.all n4&&(if (a.2.length==0)=true then a.1==0 else ((a.1==1||a.1 == -1)&&decide (a.2.length<=60)&&(a.2.getLast? != some 0)))
abbrev BR:Int×(List Int)->List Data:=λ(s,l)=>[.agg [.int .i64 s,.Y (l.map ae)]]
def wW:=cj BR λ(s,l)=>cM (D l<=1000000) (.same (.bool (dG (s,l))))
theorem GM:∀a b,BR a=BR b->a=b:=by
  rintro⟨s1,ei⟩ ⟨s2,ai⟩ h;simp only[a3,Data.agg.injEq,Data.int.injEq,Data.Y.injEq] at h;exact dS h.1.1.2 (map_inj e9 _ _ h.1.2.1)
@[go_sem] theorem aKt (s:Int)(l:List Int)(H:(D l)<=1000000):wW [.agg [.int .i64 s,.Y (l.map ae)]]=some (.same (.bool (dG (s,l)))):=(ct GM (s,l)).trans (cR H _)
theorem arY (T:bb)  (s:Int) (l:List Int) (H:(D l)<=1000000):WP T Vc (.same (.bool (dG (s,l)))) [.J (.agg [.int .i64 s,.Y (l.map ae)])]:=by
 refine cu ?_;simp only[Vc];refine aX ?_;repeat' (intro h<;>simp only[h,go_sem,go_sem_proc,ak]<;>try refine ax ?_ ?_)
 refine dd [1,3,10,11] [136001] (λi tm mem=>0<=i/\i<=(D l:Int)/\l.all n4=(l.drop i.toNat).all n4/\tm 12=.J (.int .i64 i)) (λi=>(D l-i).toNat) 0 (by refine⟨by omega,by omega,by simp,by simp[go_sem]⟩) ?_;intro vs ms aP aO;simp only[go_sem,go_sem_proc,ak] at aP aO;subst aP aO;rintro i tm mem O hm ⟨sG,M,aJ,iy⟩;simp only[go_sem,go_sem_proc,a3] at O hm;obtain⟨G,af,gw,z3⟩:=O;rcases dn (i<D l) with az|b4
 ·obtain⟨x,Q,aa,-⟩:=aeN l i sG az
  have iG:∀b,n4 x=true->b=(l.drop (i+1).toNat).all n4->l.all n4=b:=by
   intro b G I;rw[aJ,aa,Gr,G,I,gQ]
  have KV:n4 x=false->dG (s,l)=false:=by
   intro G;unfold dG;rw[aJ,aa,Gr,G]
   rfl
  refine aX ?_;repeat' (intro h<;>simp only[h,go_sem,go_sem_proc,G,af,gw,z3,iy,hm,Q,az,sG,ae,ak,bj,decide_true,a3]<;>try refine ax ?_ ?_)
  ·rw[KV (by simp only[n4, *,reduceIte,cP,dD,vm,sy,l1,po,zO,gQ,iT,fx,kR,beq_self_eq_true,bne])]
  ·exact⟨i+1,by omega,by omega,by omega,by refine iG _ ?_ rfl;simp only[n4, *,reduceIte,cP,dD,vm,sy,l1,po,zO,gQ,iT,fx,kR,beq_self_eq_true,bne],by rw[e2 _]⟩
  ·rw[KV (by simp only[n4, *,reduceIte,cP,dD,vm,sy,l1,po,zO,gQ,iT,fx,kR,beq_self_eq_true,bne])]
 ·have he:l.drop i.toNat=[]:=jJ (by omega);rw[he] at aJ;have fg:l.all n4=true:=by rw[aJ];rfl
  rcases zU l with rfl|⟨r,x,rfl⟩
  ·have arZ:¬ i<(0:Int):=by simpa using b4
   refine aX ?_;repeat' (intro h<;>simp only[h,go_sem,go_sem_proc,G,af,gw,z3,iy,hm,arZ,decide_false,kZ,ly,l4,beq_self_eq_true]<;>try refine ax ?_ ?_)
   simp[dG]
  ·rw[zV] at *;have bG:(((r++[x]).length:Int)==0)=false:=by simp;omega
   have hw:IntKind.i64.wrap (((r++[x]).length:Int)-1)=(D r:Int):=by
    have cp:(r++[x]).length=D r+1:=by simp
    rw[e2 _];omega
   have ba:((r++[x]).map ae)[D r]?=some [.int .i64 x]:=by simp[ae]
   have ab:dG (s,r++[x])=((s==1||s == -1)&&decide (((r++[x]).length:Int)<=60)&&(x != 0)):=by
    unfold dG;rw[fg];simp only[List.getLast?_append,List.getLast?_singleton];simp;have ay:decide (D r<=59)=decide ((D r:Int)+1<=60):=decide_eq_decide.2 (by omega);have aC:(some x != some (0:Int))=(x != 0):=by simp[bne]
    rw[ay,aC]
   rw[ab];refine aX ?_;repeat' (intro h<;>simp only[h,go_sem,go_sem_proc,G,af,gw,z3,iy,hm,b4,bG,hw,ba,decide_false,ak]<;>try refine ax ?_ ?_)
   all_goals simp only[*,reduceIte,cP,dD,vm,sy,l1,po,zO,gQ,iT,fx,kR,beq_self_eq_true,bne]
def kh (s:Int)(l:List Int):Raw:=if (((fI l).length:Int)==0)=true then (0,[]) else (s,fI l)
abbrev O5:Int×(List Int)->List Data:=λ(s,l)=>[.int .i64 s,.Y (l.map ae)]
def BS:=cj O5 λ(s,l)=>cM (D l<=1000000) (.same (.agg (da (kh s l))))
theorem afg:∀a b,O5 a=O5 b->a=b:=by
  rintro⟨s1,ei⟩ ⟨s2,ai⟩ h;simp only[a3,Data.int.injEq,Data.Y.injEq] at h;exact dS h.1.2 (map_inj e9 _ _ h.2.1)
@[go_sem] theorem aKu (s:Int)(l:List Int)(H:(D l)<=1000000):BS [.int .i64 s,.Y (l.map ae)]=some (.same (.agg (da (kh s l)))):=(ct afg (s,l)).trans (cR H _)
theorem ar0 (T:bb)(eJ:T qG=zQ z0 vz)(s:Int)(l:List Int)(H:(D l)<=1000000):WP T Vl (.same (.agg (da (kh s l)))) [.J (.int .i64 s),.J (.Y (l.map ae))]:=by
 refine cu ?_;simp only[Vl];refine aX ?_;repeat' (intro h<;>simp only[h,go_sem,go_sem_proc,eJ,H,ak]<;>try refine ax ?_ ?_)
 all_goals simp only[kh,da,cZ, *,reduceIte,cP,dD,vm,sy,l1,po,zO,gQ,iT,fx,kR,beq_self_eq_true,bne]
theorem lA (l:List Int)(i:Nat)(h:i<D l):bd (l.take (i+1))=bd (l.take i)+1048576^i*l[i]:=by
 rw[g4,bs h,DT,gF,oO (by omega)];simp[bd]
theorem z4 {l:List Int}(h:eV l)(i:Nat):eV (l.take i):=λd aa=>h d (Gb aa)
theorem afh {l:List Int}(i:Nat)(M:i<D l):eV (l.take (i+1))↔eV (l.take i)/\(0<=l[i]/\l[i]<1048576):=by
 rw[g4,bs M,DS];simp[DR,eV]
theorem lB {l:List Int}(h:eV l)(i:Nat)(M:i<D l):0<=l[i]/\l[i]<1048576:=h _ (List.getElem_mem M)
theorem Ee (o:List Int)(i:Nat)(d:Int):(o.set i d).take i=o.take i:=by
 rw[List.take_set,List.set_eq_of_length_le];rw[gF];omega
theorem qI (o:List Int):(a9 ae o).length=D o:=by rw[oP hB];omega
theorem KW (o:List Int)(i:Nat)(h:i<D o):fJ 1 (fT i (a9 ae o))=[.J (.int .i64 o[i])]:=by
 have yf:=T6 hB (bs h) (f:=0) (n:=1) (by omega);unfold cut at yf;have:=qI o;rw[cI,nZ,ad (by omega)] at yf
 simpa [ae] using yf
theorem yy (o:List Int)(i:Nat)(d:Int)(h:i<D o):fJ i (a9 ae o)++[.J (.int .i64 d)]++fT (i+1) (a9 ae o)=a9 ae (o.set i d):=by
 have:=aeL hB h d;unfold kP at this
 simpa [ae] using this
theorem GN (n:Nat):(dH n [R.J (.int .i64 0)]).flatten=a9 ae (dH n 0):=by
 induction n with
 |zero=>rfl
 |succ n aA=>rw[qw,qw,jD,yr,aA];rfl
theorem GO (n:Nat)(h:n<=1000000000):n<=maxLen:=eQ h (by decide)
theorem afi (l:List Int):(fI l).length<=D l:=by
 induction l with
 |nil=>simp[fI]
 |cons d r aA=>unfold fI;split<;>(try split)<;>simp<;>omega
theorem ar1 (l:List Int):l.take (fI l).length=fI l:=by
 induction l with
 |nil=>simp[fI]
 |cons d r aA =>
  unfold fI
  split
  ·split<;>simp
  ·simp[aA]
theorem ar2 (l:List Int):∀n:Nat,(a9 ae l).take n=a9 ae (l.take n):=by
 induction l with
 |nil=>intro n;simp[a9]
 |cons d r aA=>intro n;cases n with
  |zero=>simp[a9]
  |succ n=>rw[yr,wO,yr,<-aA];rfl
theorem afj {mem:Mem}{k g n:Nat}{o:List Int}(hm:mem k=some (g,a9 ae o))(aK:n<=D o):rE 1 mem (.ref k g 1 0 n)=some ((o.take n).map ae):=by
 unfold rE;dsimp only;rw[hm];simp only[and_self,if_true,cI];rw[qI,ad ⟨trivial,aK⟩,ar2];unfold a9;rw[tP _ λd=>rfl];have:=yt (sz:=1) ((o.take n).map ae) (by intro e he;rw[dR] at he;obtain⟨x,-,rfl⟩:=he;rfl);rw[ak,gF,oO aK] at this;simp only[mw,this]
theorem VO {mem:Mem}{k g:Nat}{o:List Int}{n:Nat}(hm:mem k=some (g,a9 ae o))(aa:eV o)(aq:bd o=n):rE 1 mem (.ref k g 1 0 (fI o).length)=some ((aL n).map ae):=by
 rw[afj hm (afi o),ar1,zT aa,aq]
 rfl
def b3 (n:Nat):Data:=.Y ((aL n).map ae)
theorem afk {x y:Nat}(h:(aL x).length<(aL y).length):x<y:=by
 have G:=(gS (n:=x) (k:=(aL x).length)).1 (b0 _);have I:=mt (gS (n:=y) (k:=(aL x).length)).2 (by omega);omega
theorem afl {a b:List Int}(aN:eV a)(ag:eV b)(aw:(D a)=D b)(i:Nat)(M:i<D a)(aa:a.drop (i+1)=b.drop (i+1))(h:a[i]<b[i]):bd a<bd b:=by
 rw[Kv a (i+1),Kv b (i+1),aa,aw,lA a i M,lA b i (by omega)];have G:=zS (z4 aN i);have I:=pq (z4 ag i);rw[gF,oO (by omega)] at G;generalize (1048576:Int)^i=p at *
 have af:p*a[i]+p<=p*b[i]:=by
  have:p*(a[i]+1)<=p*b[i]:=z5 (by omega) (by have:=pq (z4 aN i);omega);rw[iw,vA] at this;exact this
 omega
abbrev vB:Nat×Nat->List Data:=λ(x,y)=>[b3 x,b3 y]
def KX:=cj vB λ(x,y)=>cM ((aL x).length<=1000000/\(aL y).length<=1000000) (.same (.int .i64 (hL x y)))
theorem yz:∀a b,vB a=vB b->a=b:=by
  rintro⟨a6,tX⟩ ⟨bY,tY⟩ h;simp only[a3,b3,Data.Y.injEq] at h;exact dS (Ku (map_inj e9 _ _ h.1)) (Ku (map_inj e9 _ _ h.2.1))
@[go_sem] theorem VP (x:Nat)(y:Nat)(H:(aL x).length<=1000000/\(aL y).length<=1000000):KX [b3 x,b3 y]=some (.same (.int .i64 (hL x y))):=(ct yz (x,y)).trans (cR H _)
theorem ar3 (T:bb)(n5:T GC=aU O3)(x:Nat)(y:Nat)(H:(aL x).length<=1000000/\(aL y).length<=1000000):WP T Vr (.same (.int .i64 (hL x y))) [.J (b3 x),.J (b3 y)]:=by
 refine cu ?_;simp only[Vr];obtain⟨Q,av⟩:=H;have tZ:=m6 x;have rK:=m6 y;have wX:=l2 x;have Ef:=l2 y;have aeD:=@afk x y;have kX:=@afk y x
 by_cases aw:(aL x).length=(aL y).length
 ·generalize aN:aL x=a at *;generalize ag:aL y=b at *;have O6:((D a:Int)==(D b:Int))=true:=by simp[aw]
  simp only[go_sem,go_sem_proc,n5,b3,aN,ag,O6,ak];refine dd [0,1] [] (λ(n:Nat) tm mem=>n<=D a/\a.drop n=b.drop n/\tm 5=.J (.int .i64 ((n:Int)-1))) (λn=>n) (D a) (by refine⟨b0 _,by rw[Ub,aw,Ub],?_⟩;simp only[eE,reduceIte];rw[e2 _]) ?_;intro vs ms aP aO;simp only[go_sem,go_sem_proc,n5,b3,aN,ag] at aP aO;subst aP aO;rintro n tm mem O-⟨aK,aa,bm⟩;simp only[go_sem,go_sem_proc,n5,a3] at O;obtain⟨ar,G⟩:=O;rcases n with _|n
  ·have e:a=b:=by simpa using aa
   have lW:(x:Int)=y:=by rw[<-wX,<-Ef,e]
   simp only[go_sem,go_sem_proc,n5,ar,G,bm,ly,l4,show ¬ ((0:Int)-1>=0) by omega,decide_false]
   repeat' (first|refine ax ?_ ?_|fail)<;>intro h<;>simp only[h,go_sem,go_sem_proc,n5,ar,G,bm,ly,l4,show ¬ ((0:Int)-1>=0) by omega,decide_false]
   rw[lW];simp[hL]
  ·have hw:((n+1:Nat):Int)-1=(n:Int):=by omega
   have m8:a[n]?=some a[n]:=bs (by omega);have nx:b[n]?=some b[n]:=bs (by omega)
   have ab:hL a[n] b[n]=hL x y\/a[n]=b[n]:=by
    by_cases G:a[n]<b[n]
    ·left
     have:=afl tZ rK aw n aK aa G;simp only[hL];rw[ad (by simpa using G),ad (by simp;omega)]
    ·by_cases I:b[n]<a[n]
     ·left
      have:=afl rK tZ aw.symm n (by omega) aa.symm I;simp only[hL];rw[ah (by simp;omega),ad (by simp;omega),ah (by simp;omega),ad (by simp;omega)]
     ·right;omega
   by_cases aW:a[n]=b[n]
   ·simp only[go_sem,go_sem_proc,n5,ar,G,bm,hw,m8,nx,aW,ae,show (n:Int)>=0 by omega,decide_true,bj,beq_self_eq_true,a3]
    repeat' (first|refine ax ?_ ?_|fail)<;>intro h<;>simp only[h,go_sem,go_sem_proc,n5,ar,G,bm,hw,m8,nx,aW,ae,show (n:Int)>=0 by omega,decide_true,bj,beq_self_eq_true,a3]
    exact⟨n,by omega,by omega,by rw[ir (by omega:n<D a),ir (by omega:n<D b),aW,aa],by rw[e2 _]⟩
   ·have qH:(a[n]==b[n])=false:=by simpa using aW
    simp only[go_sem,go_sem_proc,n5,ar,G,bm,hw,m8,nx,qH,ae,show (n:Int)>=0 by omega,decide_true,bj,a3]
    repeat' (first|refine ax ?_ ?_|fail)<;>intro h<;>simp only[h,go_sem,go_sem_proc,n5,ar,G,bm,hw,m8,nx,qH,ae,show (n:Int)>=0 by omega,decide_true,bj,a3]
    rw[ab.resolve_right aW]
 ·have O6:(((aL x).length:Int)==((aL y).length:Int))=false:=by simp;omega
  have ab:hL (aL x).length (aL y).length=hL x y:=by
   simp only[hL];rcases iq (aL x).length (aL y).length with h|h
   ·have:=aeD h;rw[ad (by simp;omega),ad (by simp;omega)]
   ·have:=kX (by omega);rw[ah (by simp;omega),ad (by simp;omega),ah (by simp;omega),ad (by simp;omega)]
  simp only[go_sem,go_sem_proc,n5,b3,O6,ab,ak];repeat' (first|refine ax ?_ ?_|fail)<;>intro h<;>simp only[h,go_sem,go_sem_proc,n5,b3,O6,ab,ak]
theorem afm (p wY vg ss c a b:Int)(h:wY+p*c=vg+ss):wY+p*((c+a+b)%1048576)+p*1048576*((c+a+b)/1048576)=vg+p*a+(ss+p*b):=by
 have G:=BT (c+a+b) 1048576
 have I:p*((c+a+b)%1048576)+p*1048576*((c+a+b)/1048576)=p*(c+a+b):=by
  rw[ix,<-iw,G]
 have af:p*(c+a+b)=p*c+p*a+p*b:=by rw[iw,iw]
 omega
def O7:=cj vB λ(x,y)=>cM ((aL x).length<=100000/\(aL y).length<=100000) (.own 1 ((aL (x+y)).map ae))
@[go_sem] theorem afn (x:Nat)(y:Nat)(H:(aL x).length<=100000/\(aL y).length<=100000):O7 [b3 x,b3 y]=some (.own 1 ((aL (x+y)).map ae)):=(ct yz (x,y)).trans (cR H _)
theorem ar4 (T:bb)(eJ:T qG=zQ z0 vz)(x:Nat)(y:Nat)(H:(aL x).length<=100000/\(aL y).length<=100000):WP T Vp (.own 1 ((aL (x+y)).map ae)) [.J (b3 x),.J (b3 y)]:=by
 refine cu ?_;simp only[Vp];obtain⟨Q,av⟩:=H;simp only[go_sem,go_sem_proc,eJ,b3,ak];refine aqZ (λst=>∃a b:List Int,eV a/\eV b/\D a<=100000/\D b<=D a/\bd a+bd b=x+y/\st.tm 0=.J (.Y (a.map ae))/\st.tm 1=.J (.Y (b.map ae))/\st.mem 172019=none) (λh=>?_) (λh=>?_) ?_
 ·simp only[go_sem,go_sem_proc,eJ,b3];repeat' (first|refine ax ?_ ?_|fail)<;>intro h<;>simp only[h,go_sem,go_sem_proc,eJ,b3]
  refine⟨aL y,aL x,m6 y,m6 x,av,?_,by rw[l2,l2];omega,rfl,rfl⟩
  simp at h;omega
 ·simp only[go_sem,go_sem_proc,eJ,b3];repeat' (first|refine ax ?_ ?_|fail)<;>intro h<;>simp only[h,go_sem,go_sem_proc,eJ,b3]
  refine⟨aL x,aL y,m6 x,m6 y,Q,?_,by rw[l2,l2],rfl,rfl⟩
  simp at h;omega
 rintro⟨tm,mem⟩ ⟨a,b,VQ,wZ,iU,kA,aq,ar,G,hm⟩;dsimp only at ar G hm;have oU:IntKind.i64.wrap ((D a:Int)+1)=((D a+1:Nat):Int):=by rw[e2 _];rfl
 have kY:8*(D a+1)<=140737488355328:=by omega
 have eR:(D a)+1<=maxLen:=GO _ (by omega);simp only[go_sem,go_sem_proc,eJ,ar,G,hm,oU,kY,eR,GN,ak]
 refine dd [0,1,5,20,21] [] (λ(i,c,o) tm mem=>i<=D a/\(o:List Int).length=D a+1/\eV (o.take i)/\0<=c/\c<=1/\bd (o.take i)+1048576^i*c=bd (a.take i)+bd (b.take i)/\tm 22=.J (.int .i64 (i:Nat))/\tm 6=.J (.int .i64 c)/\mem 172019=some (0,a9 ae o))
  (λ(i,_)=>D a-i) (0,0,dH (D a+1) 0) (by refine⟨ft _,by simp,by simp[eV],by omega,by omega,by simp[bd],?_,?_,?_⟩<;>rfl) ?_
 intro vs ms aP aO;simp only[go_sem,go_sem_proc,eJ,ar,G,ak] at aP aO;subst aP aO;rintro⟨i,c,o⟩ tm mem O-⟨M,bO,iH,oV,g2,jM,sH,bV,hm⟩;simp only[go_sem,go_sem_proc,eJ,a3] at O;obtain⟨ar,G,bm,rL,GP⟩:=O;rcases dn (i<D a) with az|b4
 ·have m8:a[i]?=some a[i]:=bs az;have BF:=lB VQ i az;have fy:IntKind.i64.wrap ((i:Int)+1)=((i+1:Nat):Int):=by rw[e2 _];rfl
  have ua:i<D o:=by omega
  have hV:i+1<=(a9 ae o).length:=by rw[qI];omega
  have jw:IntKind.i64.wrap (c+a[i])=c+a[i]:=wrap64 _ (by omega) (by omega);have gP:=λd=>yy o i d ua
  have fin:∀bi:Int,0<=bi->bi<1048576->bd (b.take (i+1))=bd (b.take i)+1048576^i*bi ->
    ∃bk:Nat×Int×List Int,D a-bk.1<D a-i/\bk.1<=D a/\bk.2.2.length=D a+1/\eV (bk.2.2.take bk.1)/\0<=bk.2.1/\bk.2.1<=1/\bd (bk.2.2.take bk.1)+1048576^bk.1*bk.2.1=bd (a.take bk.1)+bd (b.take bk.1) /\
     R.J (Data.int .i64 ((i+1:Nat):Int))=R.J (Data.int .i64 (bk.1:Int))/\R.J (Data.int .i64 ((c+a[i]+bi)/1048576))=R.J (Data.int .i64 bk.2.1)/\some (0,a9 ae (o.set i ((c+a[i]+bi)%1048576)))=some (0,a9 ae bk.2.2):=by
   intro bi sI kY Eg;refine⟨(i+1,(c+a[i]+bi)/1048576,o.set i ((c+a[i]+bi)%1048576)),by dsimp only;omega,by dsimp only;omega,by simp[bO],?_,by dsimp only;omega,by dsimp only;omega,?_,rfl,rfl,rfl⟩
   ·dsimp only;rw[afh _ (by simpa using ua),Ee];refine⟨iH,?_⟩;simp only[z6];omega
   ·dsimp only;rw[lA _ _ (by simpa using ua),Ee,lA a i az,Eg,nu];simp only[z6];exact afm _ _ _ _ _ _ _ jM
  rcases dn (i<D b) with rM|VR
  ·have nx:b[i]?=some b[i]:=bs rM;have vC:=lB wZ i rM;have k1:IntKind.i64.wrap (c+a[i]+b[i])=c+a[i]+b[i]:=wrap64 _ (by omega) (by omega);have iz:decide ((i:Int)<(D b:Int))=true:=c6;have jx:decide ((i:Int)<(D a:Int))=true:=c6;simp only[go_sem,go_sem_proc,eJ,ar,G,bm,rL,GP,sH,bV,hm,m8,nx,fy,jw,k1,iz,jx,az,hV,gP,rJ,oS,ae,cI,ak,bj,a3,show i<D a+1 by omega,show ¬ ((20:Int)<0) by omega]
   repeat' (first|refine ax ?_ ?_|fail)<;>intro h<;>simp only[h,go_sem,go_sem_proc,eJ,ar,G,bm,rL,GP,sH,bV,hm,m8,nx,fy,jw,k1,iz,jx,az,hV,gP,rJ,oS,ae,cI,ak,bj,a3,show i<D a+1 by omega,show ¬ ((20:Int)<0) by omega]
   exact fin b[i] vC.1 vC.2 (lA b i rM)
  ·have iz:decide ((i:Int)<(D b:Int))=false:=cY;have jx:decide ((i:Int)<(D a:Int))=true:=c6;simp only[go_sem,go_sem_proc,eJ,ar,G,bm,rL,GP,sH,bV,hm,m8,fy,jw,iz,jx,az,hV,gP,rJ,oS,ae,cI,ak,bj,a3,show i<D a+1 by omega,show ¬ ((20:Int)<0) by omega]
   repeat' (first|refine ax ?_ ?_|fail)<;>intro h<;>simp only[h,go_sem,go_sem_proc,eJ,ar,G,bm,rL,GP,sH,bV,hm,m8,fy,jw,iz,jx,az,hV,gP,rJ,oS,ae,cI,ak,bj,a3,show i<D a+1 by omega,show ¬ ((20:Int)<0) by omega]
   have:=fin 0 (by omega) (by omega) (by rw[dr (by omega),dr (by omega)];simp)
   simpa using this
 ·obtain rfl:i=D a:=by omega
  have jx:decide ((D a:Int)<(D a:Int))=false:=cY;have ua:(D a)<D o:=by omega
  have hV:(D a)+1<=(a9 ae o).length:=by rw[qI];omega
  have gP:=λd=>yy o (D a) d ua
  have VS:eV (o.set (D a) c):=by
   have:o.set (D a) c=(o.set (D a) c).take (D a+1):=by rw[dr (by simp[bO])]
   rw[this,afh _ (by simpa using ua),Ee];refine⟨iH,?_⟩;simp only[z6];omega
  have VT:bd (o.set (D a) c)=x+y:=by
   have:o.set (D a) c=(o.set (D a) c).take (D a+1):=by rw[dr (by simp[bO])]
   rw[this,lA _ _ (by simpa using ua),Ee];simp only[z6];rw[jM,dr (b0 _),dr kA,aq]
  have nt:=VL (o.set (D a) c) 172019 0 (a2 mem 172019 0 (a9 ae (o.set (D a) c))) (by simp[a2]) (by simp[bO];omega);rw[iQ,bO] at nt;have fF:=VO (mem:=a2 mem 172019 0 (a9 ae (o.set (D a) c))) (k:=172019) (g:=0) (n:=x+y) (by simp[a2]) VS (by rw[VT];rfl);simp only[go_sem,go_sem_proc,eJ,ar,G,bm,rL,GP,sH,bV,hm,jx,hV,gP,nt,fF,cI,ak,show (D a)<D a+1 by omega]
  repeat' (first|refine ax ?_ ?_|fail)<;>intro h<;>simp only[h,go_sem,go_sem_proc,eJ,ar,G,bm,rL,GP,sH,bV,hm,jx,hV,gP,nt,fF,cI,ak,show (D a)<D a+1 by omega]
theorem afo (n:Int):bits .and .i64 (n/1048576) 1=n/1048576%2:=by
 generalize n/1048576=m;have I:(1:Int)=((2^1-1:Nat):Int):=by decide
 have G:m%18446744073709551616%2=m%2:=by omega
 obtain⟨a,aN⟩:∃a:Nat,(a:Int)=m%18446744073709551616:=⟨(m%18446744073709551616).toNat,by omega⟩
 have e:BitVec.ofInt 64 m=BitVec.ofNat 64 a:=by
  apply BitVec.eq_of_toInt_eq;rw[BitVec.toInt_ofInt,BitVec.toInt_ofNat',aN];simp[ae4,ae5]
 have aC:bits .and .i64 m 1=bits .and .i64 (a:Int) 1:=by
  simp only[bits];rw[show IntKind.i64.bits=64 from rfl,e,BitVec.ofInt_natCast]
 rw[aC,<-G,<-aN];have Uk:a<2^64:=by omega
 conv=>lhs;rw[I]
 simp only[bits,BitVec.ofInt_natCast,BitVec.toNat_and,BitVec.toNat_ofNat,show IntKind.i64.bits=64 from rfl,Kr Uk];rw[show (2^1-1:Nat)%2^64=2^1-1 by decide,ae6,wrap64 _ (by omega) (by omega)]
 omega
theorem VU (o:List Int)(j:Nat)(d:Int)(h:j<D o):bd (o.set j d)=bd o+1048576^j*(d-o[j]):=by
 induction o generalizing j with
 |nil=>simp at h
 |cons x r aA =>
  cases j with
  |zero=>simp[bd];omega
  |succ j =>
   simp only[List.set_cons_succ,tR,List.getElem_cons_succ,nu];rw[aA j (by simpa using h),iw,<-ix,nv 1048576 (1048576^j)];omega
theorem z7 {o:List Int}(h:eV o)(j:Nat){d:Int}(aa:0<=d/\d<1048576):eV (o.set j d):=by
 intro x Q;rcases List.mem_or_eq_of_mem_set Q with G|G
 ·exact h x G
 ·rw[G];exact aa
theorem ar5 (p wY vg ss c a b:Int)(h:wY=vg-ss+p*c):wY+p*((a-c-b)%1048576)=vg+p*a-(ss+p*b)-p*1048576*((a-c-b)/1048576):=by
 have G:=BT (a-c-b) 1048576
 have I:p*((a-c-b)%1048576)+p*1048576*((a-c-b)/1048576)=p*(a-c-b):=by
  rw[ix,<-iw,G]
 have af:p*(a-c-b)=p*a-p*c-p*b:=by rw[GQ,GQ]
 omega
def O8:=cj vB λ(x,y)=>cM ((aL x).length<=100000/\y<=x) (.own 1 ((aL (x-y)).map ae))
@[go_sem] theorem VV (x:Nat)(y:Nat)(H:(aL x).length<=100000/\y<=x):O8 [b3 x,b3 y]=some (.own 1 ((aL (x-y)).map ae)):=(ct yz (x,y)).trans (cR H _)
theorem ar6 (T:bb)(fK:T vt=aU BQ)(eJ:T qG=zQ z0 vz)(x:Nat)(y:Nat)(H:(aL x).length<=100000/\y<=x):WP T Vq (.own 1 ((aL (x-y)).map ae)) [.J (b3 x),.J (b3 y)]:=by
 refine cu ?_;simp only[Vq];obtain⟨Q,afp⟩:=H;have tZ:=m6 x;have rK:=m6 y;have wX:=l2 x;have Ef:=l2 y
 have k2:(aL y).length<=(aL x).length:=by
  rw[gS];exact vD afp (gS.1 (b0 _))
 generalize aN:aL x=a at *;generalize ag:aL y=b at *;have iU:(D a)<=1000000:=by omega
 simp only[go_sem,go_sem_proc,fK,eJ,b3,aN,ag,iU,ak]
 refine dd [1,5,12] [] (λ(i,c,o) tm mem=>i<=D a/\(o:List Int).length=D a/\eV o/\o.drop i=a.drop i/\(c=0\/c=1)/\bd (o.take i)=bd (a.take i)-bd (b.take i)+1048576^i*c/\tm 13=.J (.int .i64 (i:Nat))/\tm 6=.J (.int .i64 c)/\mem 173010=some (0,a9 ae o))
  (λ(i,_)=>D a-i) (0,0,a) (by refine⟨ft _,rfl,tZ,rfl,.inl rfl,by simp[bd],?_,?_,?_⟩<;>rfl) ?_
 intro vs ms aP aO;simp only[go_sem,go_sem_proc,fK,eJ,b3,aN,ag,ak] at aP aO;subst aP aO;rintro⟨i,c,o⟩ tm mem O-⟨M,bO,iH,qJ,ar7,jM,n6,bV,hm⟩;simp only[go_sem,go_sem_proc,fK,eJ,a3] at O;obtain⟨G,bm,iy⟩:=O;rcases dn (i<D a) with az|b4
 ·have ua:i<D o:=by omega
  have ar8:o[i]=a[i]:=by
   have G:=ir ua;have I:=ir az;rw[qJ,I] at G;exact (w0 G).1.symm
  have BF:=lB tZ i az;have fy:IntKind.i64.wrap ((i:Int)+1)=((i+1:Nat):Int):=by rw[e2 _];rfl
  have hV:i+1<=(a9 ae o).length:=by rw[qI];omega
  have iI:=KW o i ua;rw[ar8] at iI;have jw:IntKind.i64.wrap (a[i]-c)=a[i]-c:=wrap64 _ (by omega) (by omega);have gP:=λd=>yy o i d ua
  have fin:∀bi:Int,0<=bi->bi<1048576->bd (b.take (i+1))=bd (b.take i)+1048576^i*bi ->
    ∃bk:Nat×Int×List Int,D a-bk.1<D a-i/\bk.1<=D a/\bk.2.2.length=D a/\eV bk.2.2/\bk.2.2.drop bk.1=a.drop bk.1/\(bk.2.1=0\/bk.2.1=1)/\bd (bk.2.2.take bk.1)=bd (a.take bk.1)-bd (b.take bk.1)+1048576^bk.1*bk.2.1 /\
     R.J (Data.int .i64 ((i+1:Nat):Int))=R.J (Data.int .i64 (bk.1:Int))/\R.J (Data.int .i64 ((a[i]-c-bi)/1048576%2))=R.J (Data.int .i64 bk.2.1)/\some (0,a9 ae (o.set i ((a[i]-c-bi)%1048576)))=some (0,a9 ae bk.2.2):=by
   intro bi sI kY Eg;have hq:(a[i]-c-bi)/1048576=0\/(a[i]-c-bi)/1048576 = -1:=by omega
   refine⟨(i+1,(a[i]-c-bi)/1048576%2,o.set i ((a[i]-c-bi)%1048576)),by dsimp only;omega,by dsimp only;omega,by simp[bO],z7 iH i (by omega),?_,by dsimp only;omega,?_,rfl,rfl,rfl⟩
   ·dsimp only;rw[tG (by omega)];have G:=ir ua;have I:=ir az;rw[qJ,I] at G;exact (w0 G).2.symm
   ·dsimp only;rw[lA _ _ (by simpa using ua),Ee,lA a i az,Eg,nu];simp only[z6];rw[ar5 _ _ _ _ _ _ _ jM];rcases hq with e|e<;>rw[e]<;>simp
  have jx:decide ((i:Int)<(D a:Int))=true:=c6;rcases dn (i<D b) with rM|VR
  ·have nx:b[i]?=some b[i]:=bs rM;have vC:=lB rK i rM;have k1:IntKind.i64.wrap (a[i]-c-b[i])=a[i]-c-b[i]:=wrap64 _ (by omega) (by omega);have iz:decide ((i:Int)<(D b:Int))=true:=c6;refine aX ?_;repeat' (intro h<;>simp only[h,go_sem,go_sem_proc,fK,eJ,G,bm,iy,n6,bV,hm,nx,fy,jw,k1,iz,jx,az,hV,iI,gP,rJ,afo,oS,ae,cI,ak,bj,a3,show ¬ ((20:Int)<0) by omega]<;>try refine ax ?_ ?_)
   exact fin b[i] vC.1 vC.2 (lA b i rM)
  ·have iz:decide ((i:Int)<(D b:Int))=false:=cY;refine aX ?_;repeat' (intro h<;>simp only[h,go_sem,go_sem_proc,fK,eJ,G,bm,iy,n6,bV,hm,fy,jw,iz,jx,az,hV,iI,gP,rJ,afo,oS,ae,cI,ak,bj,a3,show ¬ ((20:Int)<0) by omega]<;>try refine ax ?_ ?_)
   have:=fin 0 (by omega) (by omega) (by rw[dr (by omega),dr (by omega)];simp)
   simpa using this
 ·obtain rfl:i=D a:=by omega
  have jx:decide ((D a:Int)<(D a:Int))=false:=cY;rw[dr (by omega),dr (by omega),dr (by omega),wX,Ef] at jM
  have VT:bd o=((x-y:Nat):Int):=by
   have G:=zS iH;rw[bO] at G;rcases ar7 with rfl|rfl
   ·rw[jM];omega
   ·omega
  have nt:=VL o 173010 0 mem hm (by omega);rw[bO] at nt;have fF:=VO hm iH VT;refine aX ?_;repeat' (intro h<;>simp only[h,go_sem,go_sem_proc,fK,eJ,G,bm,iy,n6,bV,hm,jx,nt,fF,ak]<;>try refine ax ?_ ?_)
theorem afq (p wY V c x y z8:Int)(h:wY+p*c=V):wY+p*((z8+x*y+c)%1048576-z8)+p*1048576*((z8+x*y+c)/1048576)=V+p*(x*y):=by
 have G:=BT (z8+x*y+c) 1048576
 have I:p*((z8+x*y+c)%1048576)+p*1048576*((z8+x*y+c)/1048576)=p*(z8+x*y+c):=by
  rw[ix,<-iw,G]
 have af:p*(z8+x*y+c)=p*z8+p*(x*y)+p*c:=by rw[iw,iw]
 rw[GQ];omega
theorem afr {o x y c:Int}(bO:0<=o/\o<1048576)(Q:0<=x/\x<1048576)(av:0<=y/\y<1048576)(H:0<=c/\c<1048576):
  0<=x*y/\x*y<=1099509530625/\0<=(o+x*y+c)/1048576/\(o+x*y+c)/1048576<1048576:=by
 have G:0<=x*y:=yA Q.1 av.1;have I:x*y<=1048575*1048575:=VW (by omega) (by omega) av.1 (by omega);omega
theorem afs {o:List Int}{n j:Nat}(h:o.drop n=dH (D o-n) 0)(aj:n<=j)(az:j<D o):o[j]=0:=by
 have G:(o.drop n)[j-n]?=some o[j]:=by rw[lo,show n+(j-n)=j by omega,bs az]
 rw[h,List.getElem?_replicate] at G
 split at G
 ·exact (n0 G).symm
 ·cases G
theorem aft {o:List Int}{n:Nat}{d:Int}(h:o.drop n=dH (D o-n) 0)(az:n<D o):(o.set n d).drop (n+1)=dH ((o.set n d).length-(n+1)) 0:=by
 rw[tG (by omega),iQ];have G:=ir az;rw[h,show (D o)-n=(D o-(n+1))+1 by omega,qw] at G
 exact (w0 G).2.symm
def O9:=cj vB λ(x,y)=>cM ((aL x).length<=10000/\(aL y).length<=10000) (.own 1 ((aL (x*y)).map ae))
@[go_sem] theorem VX (x:Nat)(y:Nat)(H:(aL x).length<=10000/\(aL y).length<=10000):O9 [b3 x,b3 y]=some (.own 1 ((aL (x*y)).map ae)):=(ct yz (x,y)).trans (cR H _)
theorem ar9 (T:bb)(eJ:T qG=zQ z0 vz)(x:Nat)(y:Nat)(H:(aL x).length<=10000/\(aL y).length<=10000):WP T Vo (.own 1 ((aL (x*y)).map ae)) [.J (b3 x),.J (b3 y)]:=by
 refine cu ?_;simp only[Vo];obtain⟨Q,av⟩:=H;have tZ:=m6 x;have rK:=m6 y;have wX:=l2 x;have Ef:=l2 y;generalize aN:aL x=a at *;generalize ag:aL y=b at *;have oU:IntKind.i64.wrap ((D a:Int)+(D b:Int))=((D a+D b:Nat):Int):=by rw[e2 _];rfl
 have kY:8*(D a+D b)<=140737488355328:=by omega
 have eR:(D a)+D b<=maxLen:=GO _ (by omega);simp only[go_sem,go_sem_proc,eJ,b3,aN,ag,oU,kY,eR,GN,ak]
 refine dd [1,5,18,19] [] (λ(i,o) tm mem=>i<=D a/\(o:List Int).length=D a+D b/\eV o/\o.drop (i+D b)=dH (D o-(i+D b)) 0/\bd o=bd (a.take i)*y/\tm 20=.J (.int .i64 (i:Nat))/\mem 161017=some (0,a9 ae o))
  (λ(i,_)=>D a-i) (0,dH (D a+D b) 0) (by
   have aW:∀n,bd (dH n 0)=0:=by
    intro n
    induction n with
    |zero=>rfl
    |succ n aA=>rw[qw,tR,aA];rfl
   refine⟨ft _,by simp,λd aa=>by rw[GR] at aa;omega,by simp,by rw[aW];simp[bd],?_,?_⟩<;>rfl) ?_
 intro vs ms aP aO;simp only[go_sem,go_sem_proc,eJ,b3,aN,ag,oU,ak] at aP aO;subst aP aO;rintro⟨i,o⟩ tm mem O-⟨M,bO,iH,sJ,jM,rL,hm⟩;simp only[go_sem,go_sem_proc,eJ,a3] at O;obtain⟨G,bm,jS,w2⟩:=O;rcases dn (i<D a) with az|b4
 ·have m8:a[i]?=some a[i]:=bs az;have BF:=lB tZ i az;have tJ:=lA a i az;generalize a[i]=hW at *;have iz:decide ((i:Int)<(D a:Int))=true:=c6;simp only[go_sem,go_sem_proc,eJ,G,bm,jS,w2,rL,m8,iz,ae,ak,bj,a3]
  refine dd [1,5,6,7,18,19,20,25,26] [] (λ((k,c,o):Nat×Int×List Int) tm mem=>k<=D b/\D o=D a+D b/\eV o/\o.drop (i+D b)=dH (D o-(i+D b)) 0/\0<=c/\c<1048576/\bd o+1048576^(i+k)*c=bd (a.take i)*y+1048576^i*(hW*bd (b.take k)) /\
    tm 27=.J (.int .i64 (k:Nat))/\tm 8=.J (.int .i64 c)/\mem 161017=some (0,a9 ae o))
   (λ(k,_)=>D b-k) (0,0,o) (by refine⟨ft _,bO,iH,sJ,by omega,by omega,by simp[bd,jM],?_,?_,hm⟩<;>rfl) ?_
  intro vs ms aP aO;simp only[go_sem,go_sem_proc,eJ,G,bm,jS,w2,rL,ae,ak] at aP aO;subst aP aO;rintro⟨k,c,o⟩ tm mem O-⟨pk,bO,iH,sJ,oV,g2,jM,afu,ca,hm⟩;simp only[go_sem,go_sem_proc,eJ,a3] at O;obtain⟨G,bm,bV,bQ,jS,w2,rL,afv,afw⟩:=O;rcases dn (k<D b) with KY|KY
  ·have nx:b[k]?=some b[k]:=bs KY;have GS:=lB rK k KY;have pX:i+k<D o:=by omega
   have VY:=lB iH (i+k) pX;obtain⟨dO,cJ,n7,qK⟩:=afr VY BF GS ⟨oV,g2⟩;have iz:decide ((k:Int)<(D b:Int))=true:=c6;have fy:IntKind.i64.wrap ((k:Int)+1)=((k+1:Nat):Int):=by rw[e2 _];rfl
   have jw:IntKind.i64.wrap ((i:Int)+(k:Int))=((i+k:Nat):Int):=by rw[e2 _];rfl
   have k1:IntKind.i64.wrap (hW*b[k])=hW*b[k]:=wrap64 _ (by omega) (by omega);have z9:IntKind.i64.wrap (o[i+k]+hW*b[k])=o[i+k]+hW*b[k]:=wrap64 _ (by omega) (by omega);have vE:IntKind.i64.wrap (o[i+k]+hW*b[k]+c)=o[i+k]+hW*b[k]+c:=wrap64 _ (by omega) (by omega);have hV:i+k+1<=(a9 ae o).length:=by rw[qI];omega
   have iI:=KW o (i+k) pX;have gP:=λd=>yy o (i+k) d pX;have jf:i+k<D a+D b:=by omega
   refine aX ?_;repeat' (intro h<;>simp only[h,go_sem,go_sem_proc,eJ,G,bm,bV,bQ,jS,w2,rL,afv,afw,afu,ca,hm,nx,iz,fy,jw,k1,z9,vE,jf,hV,iI,gP,rJ,oS,ae,cI,ak,bj,a3,show ¬ ((20:Int)<0) by omega]<;>try refine ax ?_ ?_)
   refine⟨(k+1,(o[i+k]+hW*b[k]+c)/1048576,o.set (i+k) ((o[i+k]+hW*b[k]+c)%1048576)),by dsimp only;omega,by dsimp only;omega,by simp[bO],z7 iH _ (by omega),?_,n7,qK,?_,rfl,rfl,rfl⟩
   ·dsimp only;rw[tG (by omega),iQ,sJ]
   ·dsimp only;rw[VU _ _ _ pX,lA b k KY,<-qu,nu,afq _ _ _ _ _ _ _ jM];rw[iw (hW),iw (1048576^i),afx]
    have:(1048576:Int)^i*(hW*(1048576^k*b[k]))=1048576^i*1048576^k*(hW*b[k]):=by
     rw[<-ix (hW),nv (hW) (1048576^k),ix (1048576^k),<-ix]
    omega
  ·obtain rfl:k=D b:=by omega
   have iz:decide ((D b:Int)<(D b:Int))=false:=cY;have pX:i+D b<D o:=by omega
   have aW:=afs sJ (b0 _) pX;have fy:IntKind.i64.wrap ((i:Int)+1)=((i+1:Nat):Int):=by rw[e2 _];rfl
   have jw:IntKind.i64.wrap ((i:Int)+(D b:Int))=((i+D b:Nat):Int):=by rw[e2 _];rfl
   have k1:IntKind.i64.wrap (0+c)=c:=by rw[Eh];exact wrap64 _ (by omega) (by omega)
   have hV:i+D b+1<=(a9 ae o).length:=by rw[qI];omega
   have iI:=KW o (i+D b) pX;rw[aW] at iI;have gP:=λd=>yy o (i+D b) d pX;have jf:i+D b<D a+D b:=by omega
   refine aX ?_;repeat' (intro h<;>simp only[h,go_sem,go_sem_proc,eJ,G,bm,bV,bQ,jS,w2,rL,afv,afw,afu,ca,hm,iz,fy,jw,k1,jf,hV,iI,gP,ae,cI,ak]<;>try refine ax ?_ ?_)
   refine⟨(i+1,o.set (i+D b) c),by dsimp only;omega,by dsimp only;omega,by simp[bO],z7 iH _ ⟨oV,g2⟩,?_,?_,rfl,rfl⟩
   ·dsimp only;have:=aft (d:=c) sJ pX;rwa [show i+D b+1=i+1+(D b) by omega] at this
   ·dsimp only;rw[VU _ _ _ pX,aW,tJ];rw[dr (b0 _),Ef] at jM;rw[KZ,jM,ub,ix]
 ·obtain rfl:i=D a:=by omega
  have iz:decide ((D a:Int)<(D a:Int))=false:=cY;rw[dr (b0 _),wX] at jM;have nt:=VL o 161017 0 mem hm (by omega);rw[bO] at nt;have fF:=VO hm iH (n:=x*y) (by rw[jM];rfl);refine aX ?_;repeat' (intro h<;>simp only[h,go_sem,go_sem_proc,eJ,G,bm,jS,w2,rL,hm,iz,nt,fF,ak]<;>try refine ax ?_ ?_)
abbrev VZ:Nat×Int->List Data:=λ(x,d)=>[b3 x,.int .i64 d]
def V0:=cj VZ λ(x,d)=>cM ((aL x).length<=100000/\0<d/\d<1048576) (.same (.cH [b3 (x/d.toNat),.int .i64 (x%d.toNat:Nat)]))
theorem asa:∀a b,VZ a=VZ b->a=b:=by
  rintro⟨a6,d1⟩ ⟨bY,d2⟩ h;simp only[a3,b3,Data.Y.injEq,Data.int.injEq] at h;exact dS (Ku (map_inj e9 _ _ h.1)) h.2.1.2
@[go_sem] theorem afy (x:Nat)(d:Int)(H:(aL x).length<=100000/\0<d/\d<1048576):V0 [b3 x,.int .i64 d]=some (.same (.cH [b3 (x/d.toNat),.int .i64 (x%d.toNat:Nat)])):=(ct asa (x,d)).trans (cR H _)
theorem asb (T:bb)(eJ:T qG=zQ z0 vz)(x:Nat)(d:Int)(H:(aL x).length<=100000/\0<d/\d<1048576):WP T Vs (.same (.cH [b3 (x/d.toNat),.int .i64 (x%d.toNat:Nat)])) [.J (b3 x),.J (.int .i64 d)]:=by
 refine cu ?_;simp only[Vs];obtain⟨Q,BU,jT⟩:=H;have tZ:=m6 x;have wX:=l2 x;generalize aN:aL x=a at *;have kY:8*D a<=140737488355328:=by omega
 have eR:(D a)<=maxLen:=GO _ (by omega);have ki:(d=0)=False:=by simp;omega
 simp only[go_sem,go_sem_proc,eJ,b3,aN,kY,eR,GN,ak]
 refine dd [0,1,6] [] (λ((n,r,o):Nat×Int×List Int) tm mem=>n<=D a/\D o=D a/\eV o/\0<=r/\r<d/\bd (a.drop n)=d*bd (o.drop n)+r/\tm 8=.J (.int .i64 ((n:Nat)-1))/\tm 7=.J (.int .i64 r)/\mem 176011=some (0,a9 ae o))
  (λ(n,_)=>n) (D a,0,dH (D a) 0) (by
   refine⟨b0 _,by simp,λd aa=>by rw[GR] at aa;omega,by omega,by omega,by simp[bd],?_,?_,?_⟩
   ·simp only[eE,reduceIte];rw[e2 _]
   ·rfl
   ·rfl) ?_
 intro vs ms aP aO;simp only[go_sem,go_sem_proc,eJ,b3,aN,ak] at aP aO;subst aP aO;rintro⟨n,r,o⟩ tm mem O-⟨aK,bO,iH,pY,BV,aq,ca,bQ,hm⟩;simp only[go_sem,go_sem_proc,eJ,a3] at O;obtain⟨ar,G,bV⟩:=O;rcases n with _|n
 ·have hq:bd o=(x/d.toNat:Nat)/\r=(x%d.toNat:Nat):=by
   rw[l0,l0,wX] at aq;have e:(d.toNat:Int)=d:=by omega
   constructor
   ·rw[afz,e,aq,yB,afA _ _ (by omega),V1 pY BV];omega
   ·rw[afB,e,aq,yB,afC,V3 pY BV]
  have hT:=O0 o (by omega);rw[zT iH,hq.1] at hT;have fQ:R.ref 176011 0 1 0 (D a)=R.ref 176011 0 1 0 (D o):=by rw[bO]
  rw[fQ] at bV;refine aX ?_;repeat' (intro h<;>simp only[h,go_sem,go_sem_proc,eJ,ar,G,bV,bQ,ca,hm,hT,lx hB,ly,l4,show ¬ ((0:Int)-1>=0) by omega,decide_false,lz]<;>try refine ax ?_ ?_)
  all_goals rw[hq.2]
 ·have m8:a[n]?=some a[n]:=bs (by omega);have Pa:=lB tZ n (by omega);have hw:((n+1:Nat):Int)-1=(n:Int):=by omega
  have gH:n<D o:=by omega
  have fy:IntKind.i64.wrap (r*2^min (DV 20) 64)=r*1048576:=by
   rw[show min (DV 20) 64=20 by decide]
   exact wrap64 _ (by omega) (by omega)
  have w3:bits .or .i64 (r*1048576) a[n]=r*1048576+a[n]:=Ul r a[n] pY (by omega) Pa;have mD:0<=(r*1048576+a[n])/d:=V4 (by omega) (by omega)
  have pZ:(r*1048576+a[n])/d<1048576:=afD BU (by
   have:(r+1)*1048576<=d*1048576:=m9 (by omega) (by omega);rw[nv 1048576 d];omega)
  have vF:(r*1048576+a[n]).tdiv d=(r*1048576+a[n])/d:=GU (by omega);have Ei:(r*1048576+a[n]).tmod d=(r*1048576+a[n])%d:=K0 (by omega);have jw:IntKind.i64.wrap ((r*1048576+a[n])/d)=(r*1048576+a[n])/d:=wrap64 _ (by omega) (by omega);have hV:n+1<=(a9 ae o).length:=by rw[qI];omega
  have gP:=λd=>yy o n d gH;have pR:n<D a:=by omega
  have k1:IntKind.i64.wrap ((n:Int)-1)=(n:Int)-1:=wrap64 _ (by omega) (by omega);refine aX ?_;repeat' (intro h<;>simp only[h,go_sem,go_sem_proc,eJ,ar,G,bV,bQ,ca,hm,hw,m8,fy,w3,vF,Ei,jw,k1,ki,pR,hV,gP,show (n:Int)>=0 by omega,decide_true,ae,cI,ak,bj,a3,show ¬ ((20:Int)<0) by omega]<;>try refine ax ?_ ?_)
  refine⟨(n,(r*1048576+a[n])%d,o.set n ((r*1048576+a[n])/d)),by dsimp only;omega,by dsimp only;omega,by simp[bO],z7 iH n ⟨mD,pZ⟩,V5 _ (by omega),V6 _ BU,?_,rfl,rfl,rfl⟩
  dsimp only;rw[ir (by omega:n<D a),ir (by simpa using gH:n<(o.set n ((r*1048576+a[n])/d)).length),tR,tR]
  simp only[z6];rw[tG (by omega),aq];have:=BT (r*1048576+a[n]) d;rw[iw,iw,V7 d 1048576];omega
def pad:Nat->Nat->List Int
 |0,_=>[]
 |n+1,x=>((x%1048576:Nat):Int)::pad n (x/1048576)
theorem asc (n x:Nat):(pad n x).length=n:=by
 induction n generalizing x with
 |zero=>rfl
 |succ n aA=>simp[pad,aA]
theorem asd (n x:Nat):eV (pad n x):=by
 induction n generalizing x with
 |zero=>intro d aa;cases aa
 |succ n aA =>
  unfold pad;rw[DR];exact⟨by omega,aA _⟩
theorem afE {l:List Int}(h:eV l):l=pad (D l) (bd l).toNat:=by
 induction l with
 |nil=>rfl
 |cons d r aA =>
  rw[DR] at h;have G:=pq h.2;have I:=aA h.2;simp only[h4,pad,tR]
  congr 1
  ·omega
  ·rw[show (d+1048576*bd r).toNat/1048576=(bd r).toNat by omega]
   exact I
theorem ase {n x:Nat}(h:x<1048576^n):bd (pad n x)=x:=by
 induction n generalizing x with
 |zero=>simp at h;subst h;rfl
 |succ n aA =>
  unfold pad;rw[tR,aA (by rw[ae3 (by omega)];rwa [wQ] at h)];omega
theorem K1 {pre u post:List Int}{i:Nat}(h:i<D u):fJ 1 (fT (D pre+i) (a9 ae (pre++u++post)))=[.J (.int .i64 u[i])]:=by
 rw[KW _ _ (by simp;omega)]
 congr 3
 simp[List.getElem_append,h]
theorem afF {pre u post:List Int}{i:Nat}(h:i<D u)(d:Int):fJ (D pre+i) (a9 ae (pre++u++post))++[.J (.int .i64 d)]++fT (D pre+i+1) (a9 ae (pre++u++post))=a9 ae (pre++u.set i d++post):=by
 rw[yy _ _ _ (by simp;omega)]
 congr 1
 rw[gb,List.set_append_right _ _ (by omega),Gv,List.set_append_left _ _ h,gb]
theorem BW (mem:Mem)(k g c7:Nat)(a b:List R):a2 (a2 mem k g a) k c7 b=a2 mem k c7 b:=by
 funext j
 unfold a2
 split<;>rfl
theorem asf {mem:Mem}{k g:Nat}{a:List R}(h:mem k=some (g,a)):a2 mem k g a=mem:=by
 funext j
 unfold a2
 split
 ·rename_i e;rw[e,h]
 ·rfl
structure K2 where
 pre:List Int
 u:List Int
 post:List Int
 V:Nat
 q:Int
 k:Key
 g:Nat
def Pb (u:List Int)(V:Nat)(q:Int):Int:=if bd u-q*V<0 then bd u-q*V+V else bd u-q*V
def BX (u:List Int)(V:Nat)(q:Int):Int:=if bd u-q*V<0 then q-1 else q
def BZ (a:K2):List R:=a9 ae (a.pre++pad (D a.u) (Pb a.u a.V a.q).toNat++a.post)
def V8 (a:K2)(mem:Mem):Prop:=mem a.k=some (a.g,a9 ae (a.pre++a.u++a.post))/\eV a.u/\(aL a.V).length<=D a.u/\0<=a.q/\a.q<1048576/\0<=bd a.u-a.q*a.V+a.V/\D a.pre+D a.u<=100000
def K3:List R->Mem->Option (R×Mem):=Gx (λ(a:K2) args mem=>args=[.ref a.k a.g 1 (D a.pre) (D a.u),.J (b3 a.V),.J (.int .i64 a.q)]/\V8 a mem)
 (λa mem=>(.J (.int .i64 (BX a.u a.V a.q)),a2 mem a.k a.g (BZ a)))
theorem asg {a b:Nat}(h:b3 a=b3 b):a=b:=Ku (map_inj e9 _ _ (by simpa [b3] using h))
theorem ash (a:K2)(mem:Mem)(h:V8 a mem):K3 [.ref a.k a.g 1 (D a.pre) (D a.u),.J (b3 a.V),.J (.int .i64 a.q)] mem=some (.J (.int .i64 (BX a.u a.V a.q)),a2 mem a.k a.g (BZ a)):=by
 unfold K3;refine aeY (a:=a) ?_ ⟨rfl,h⟩;rintro a b args mem ⟨G,I,_⟩ ⟨af,aS,_⟩;rw[G] at af;simp only[a3,R.ref.injEq,R.J.injEq,Data.int.injEq,true_and,and_true] at af;obtain⟨⟨KT,O1,Pc,afG⟩,afH,eq⟩:=af;have afI:=asg afH;clear afH;obtain⟨pre,u,post,V,q,k,g⟩:=a;obtain⟨aKv,aKw,aKx,aKy,uc,k',c7⟩:=b;simp only at KT O1 Pc afG afI eq I aS;subst KT O1 afI eq;rw[aS] at I;simp only[cl,e6,true_and] at I;have e:=VK hB e9 _ _ I (by omega);rw[gb,gb] at e;obtain⟨ay,aC⟩:=GL e Pc.symm;obtain⟨cg,dw⟩:=GL aC afG.symm;subst ay cg dw
 rfl
theorem asi (p wY vg ss c a b q:Int)(h:wY=vg-q*ss+p*c):wY+p*((a-c-q*b)%1048576)=vg+p*a-q*(ss+p*b)+p*1048576*(-((a-c-q*b)/1048576)):=by
 have G:=BT (a-c-q*b) 1048576
 have I:p*((a-c-q*b)%1048576)+p*1048576*((a-c-q*b)/1048576)=p*(a-c-q*b):=by
  rw[ix,<-iw,G]
 have af:p*(a-c-q*b)=p*a-p*c-p*(q*b):=by rw[GQ,GQ]
 have aS:q*(ss+p*b)=q*ss+p*(q*b):=by rw[iw,V7]
 rw[Int.mul_neg];omega
theorem afJ {a c q b:Int}(aN:0<=a/\a<1048576)(H:0<=c/\c<=1048576)(hq:0<=q/\q<1048576)(ag:0<=b/\b<1048576):
  0<=q*b/\q*b<=1099509530625/\0 <= -((a-c-q*b)/1048576) /\ -((a-c-q*b)/1048576)<=1048576:=by
 have G:0<=q*b:=yA hq.1 ag.1;have I:q*b<=1048575*1048575:=VW (by omega) (by omega) ag.1 (by omega);omega
theorem asj (T:bb)(a:K2)(ez:Mem)(H:V8 a ez):
  wp T OT.body (Gw OT.res (.J (.int .i64 (BX a.u a.V a.q))) (a2 ez a.k a.g (BZ a))) ⟨ka [.ref a.k a.g 1 (D a.pre) (D a.u),.J (b3 a.V),.J (.int .i64 a.q)],ez⟩:=by
 obtain⟨pre,u,post,V,q,k,g⟩:=a;obtain⟨kf,vG,Tz,mD,pZ,ny,hlen⟩:=H;simp only at kf vG Tz mD pZ ny hlen ⊢;have Aa:=m6 V;have Kj:=l2 V;have V9:=gS.1 Tz;refine qz ?_;simp only[OT];simp only[go_sem,go_sem_proc,b3];generalize ag:aL V=v at *
 refine dd [0,1,2,13] [] (λ((i,c,w):Nat×Int×List Int) tm mem=>i<=D u/\D w=D u/\eV w/\w.drop i=u.drop i/\(0<=c/\c<=1048576)/\bd (w.take i)=bd (u.take i)-q*bd (v.take i)+1048576^i*c/\tm 14=.J (.int .i64 (i:Nat))/\tm 7=.J (.int .i64 c)/\mem=a2 ez k g (a9 ae (pre++w++post)))
  (λ(i,_)=>D u-i) (0,0,u) (by refine⟨ft _,rfl,vG,rfl,by omega,by simp[bd],rfl,rfl,(asf kf).symm⟩) ?_
 intro vs ms aP aO;simp only[go_sem,go_sem_proc] at aP aO;subst aP aO;rintro⟨i,c,w⟩ tm _ O-⟨M,hw,rN,qJ,H,jM,w4,bQ,rfl⟩;simp only[go_sem,go_sem_proc,a3] at O;obtain⟨ar,G,I,n6⟩:=O;rcases dn (i<D u) with az|b4
 ·have yC:i<D w:=by omega
  have asl:w[i]=u[i]:=by
   have G:=ir yC;rw[qJ,ir az] at G;exact (w0 G).1.symm
  have B0:w.drop (i+1)=u.drop (i+1):=by
   have G:=ir yC;rw[qJ,ir az] at G;exact (w0 G).2.symm
  have iI:=K1 (pre:=pre) (post:=post) yC;rw[asl] at iI;have afK:=lB vG i az;have tJ:=lA u i az;generalize u[i]=vH at *;have fy:IntKind.i64.wrap ((i:Int)+1)=((i+1:Nat):Int):=by rw[e2 _];rfl
  have jw:IntKind.i64.wrap (vH-c)=vH-c:=wrap64 _ (by omega) (by omega);have hV:(D pre)+i+1<=(a9 ae (pre++w++post)).length:=by rw[qI];simp;omega
  have gP:=λd=>afF (pre:=pre) (post:=post) yC d;have jx:decide ((i:Int)<(D u:Int))=true:=c6
  have fin:∀bi:Int,0<=bi->bi<1048576->bd (v.take (i+1))=bd (v.take i)+1048576^i*bi ->
    ∃bk:Nat×Int×List Int,D u-bk.1<D u-i/\bk.1<=D u/\bk.2.2.length=D u/\eV bk.2.2/\bk.2.2.drop bk.1=u.drop bk.1/\(0<=bk.2.1/\bk.2.1<=1048576)/\bd (bk.2.2.take bk.1)=bd (u.take bk.1)-q*bd (v.take bk.1)+1048576^bk.1*bk.2.1 /\
     R.J (Data.int .i64 ((i+1:Nat):Int))=R.J (Data.int .i64 (bk.1:Int))/\R.J (Data.int .i64 (-((vH-c-q*bi)/1048576)))=R.J (Data.int .i64 bk.2.1)/\a2 ez k g (a9 ae (pre++w.set i ((vH-c-q*bi)%1048576)++post))=a2 ez k g (a9 ae (pre++bk.2.2++post)):=by
   intro bi sI kY Eg;obtain⟨dO,cJ,n7,qK⟩:=afJ afK H ⟨mD,pZ⟩ ⟨sI,kY⟩;refine⟨(i+1,-((vH-c-q*bi)/1048576),w.set i ((vH-c-q*bi)%1048576)),by dsimp only;omega,by dsimp only;omega,by simp[hw],z7 rN i (by omega),?_,⟨n7,qK⟩,?_,rfl,rfl,rfl⟩
   ·dsimp only;rw[tG (by omega),B0]
   ·dsimp only;rw[lA _ _ (by simpa using yC),Ee,tJ,Eg,nu];simp only[z6];exact asi _ _ _ _ _ _ _ _ jM
  rcases dn (i<D v) with rM|VR
  ·have nx:v[i]?=some v[i]:=bs rM;have vC:=lB Aa i rM;have Wa:=lA v i rM;generalize v[i]=bi at *;obtain⟨dO,cJ,n7,qK⟩:=afJ afK H ⟨mD,pZ⟩ vC;have k1:IntKind.i64.wrap (q*bi)=q*bi:=wrap64 _ (by omega) (by omega);have z9:IntKind.i64.wrap (vH-c-q*bi)=vH-c-q*bi:=wrap64 _ (by omega) (by omega);have vE:IntKind.i64.wrap (0-(vH-c-q*bi)/1048576) = -((vH-c-q*bi)/1048576):=by rw[e2 _];omega
   have iz:decide ((i:Int)<(D v:Int))=true:=c6;simp only[go_sem,go_sem_proc,ar,G,I,n6,w4,bQ,nx,fy,jw,k1,z9,vE,iz,jx,az,hV,iI,gP,BW,rJ,oS,ae,cI,ak,bj,a3,show ¬ ((20:Int)<0) by omega]
   repeat' (first|refine ax ?_ ?_|fail)<;>intro h<;>simp only[h,go_sem,go_sem_proc,ar,G,I,n6,w4,bQ,nx,fy,jw,k1,z9,vE,iz,jx,az,hV,iI,gP,BW,rJ,oS,ae,cI,ak,bj,a3,show ¬ ((20:Int)<0) by omega]
   exact fin bi vC.1 vC.2 Wa
  ·have iz:decide ((i:Int)<(D v:Int))=false:=cY;have vE:IntKind.i64.wrap (0-(vH-c)/1048576) = -((vH-c)/1048576):=by rw[e2 _];omega
   simp only[go_sem,go_sem_proc,ar,G,I,n6,w4,bQ,fy,jw,vE,iz,jx,az,hV,iI,gP,BW,rJ,oS,ae,cI,ak,bj,a3,show ¬ ((20:Int)<0) by omega]
   repeat' (first|refine ax ?_ ?_|fail)<;>intro h<;>simp only[h,go_sem,go_sem_proc,ar,G,I,n6,w4,bQ,fy,jw,vE,iz,jx,az,hV,iI,gP,BW,rJ,oS,ae,cI,ak,bj,a3,show ¬ ((20:Int)<0) by omega]
   have:=fin 0 (by omega) (by omega) (by rw[dr (by omega),dr (by omega)];simp);simp only[ud,KZ] at this;exact this
 ·obtain rfl:i=D u:=by omega
  have jx:decide ((D u:Int)<(D u:Int))=false:=cY;rw[dr (by omega),dr (by omega),dr (by omega),Kj] at jM;have asm:=zS rN;have aKz:=pq rN;rw[hw] at asm
  have aKA:(V:Int)<1048576^(D u):=by
   have h:=Int.ofNat_lt.2 V9;rw[Ej] at h;exact h
  by_cases oV:c=0
  ·subst oV;have Wb:bd u-q*V=bd w:=by omega
   have ay:BX u V q=q:=by unfold BX;rw[ah (by omega)]
   have aC:BZ ⟨pre,u,post,V,q,k,g⟩=a9 ae (pre++w++post):=by
    unfold BZ Pb;simp only;rw[ah (by omega),Wb,<-hw,<-afE rN]
   simp only[go_sem,go_sem_proc,ar,G,I,n6,w4,bQ,jx,ay,aC,beq_self_eq_true];repeat' (first|refine ax ?_ ?_|fail)<;>intro h<;>simp only[h,go_sem,go_sem_proc,ar,G,I,n6,w4,bQ,jx,ay,aC,beq_self_eq_true]
  ·have Wc:(c==0)=false:=by simpa using oV
   have hM:(1048576:Int)^(D u)<=1048576^(D u)*c:=by
    have:(1048576:Int)^(D u)*1<=1048576^(D u)*c:=z5 (by omega) (by omega);omega
   have kB:bd u-q*V<0:=by omega
   have Pf:IntKind.i64.wrap (q-1)=q-1:=wrap64 _ (by omega) (by omega);simp only[go_sem,go_sem_proc,ar,G,I,n6,w4,bQ,jx,Wc]
   refine dd [0,1,2,48] [] (λ((i,d,z):Nat×Int×List Int) tm mem=>i<=D u/\D z=D u/\eV z/\z.drop i=w.drop i/\(0<=d/\d<=1)/\bd (z.take i)+1048576^i*d=bd (w.take i)+bd (v.take i)/\tm 49=.J (.int .i64 (i:Nat))/\tm 10=.J (.int .i64 d)/\mem=a2 ez k g (a9 ae (pre++z++post)))
    (λ(i,_)=>D u-i) (0,0,w) (by refine⟨ft _,hw,rN,rfl,by omega,by simp[bd],rfl,rfl,rfl⟩) ?_
   intro vs ms aP aO;simp only[go_sem,go_sem_proc,ar,G,I] at aP aO;subst aP aO;rintro⟨i,d,z⟩ tm _ O-⟨M,aW,Ab,qJ,aa,afL,GV,gw,rfl⟩;simp only[go_sem,go_sem_proc,a3] at O;obtain⟨ar,G,I,GW⟩:=O;rcases dn (i<D u) with az|b4
   ·have K4:i<D z:=by omega
    have yC:i<D w:=by omega
    have asn:z[i]=w[i]:=by
     have G:=ir K4;rw[qJ,ir yC] at G;exact (w0 G).1.symm
    have Pg:z.drop (i+1)=w.drop (i+1):=by
     have G:=ir K4;rw[qJ,ir yC] at G;exact (w0 G).2.symm
    have iI:=K1 (pre:=pre) (post:=post) K4;rw[asn] at iI;have B1:=lB rN i yC;have tJ:=lA w i yC;generalize w[i]=B2 at *;have fy:IntKind.i64.wrap ((i:Int)+1)=((i+1:Nat):Int):=by rw[e2 _];rfl
    have jw:IntKind.i64.wrap (d+B2)=d+B2:=wrap64 _ (by omega) (by omega);have hV:(D pre)+i+1<=(a9 ae (pre++z++post)).length:=by rw[qI];simp;omega
    have gP:=λd=>afF (pre:=pre) (post:=post) K4 d;have jx:decide ((i:Int)<(D u:Int))=true:=c6
    have fin:∀bi:Int,0<=bi->bi<1048576->bd (v.take (i+1))=bd (v.take i)+1048576^i*bi ->
      ∃bk:Nat×Int×List Int,D u-bk.1<D u-i/\bk.1<=D u/\bk.2.2.length=D u/\eV bk.2.2/\bk.2.2.drop bk.1=w.drop bk.1/\(0<=bk.2.1/\bk.2.1<=1)/\bd (bk.2.2.take bk.1)+1048576^bk.1*bk.2.1=bd (w.take bk.1)+bd (v.take bk.1) /\
       R.J (Data.int .i64 ((i+1:Nat):Int))=R.J (Data.int .i64 (bk.1:Int))/\R.J (Data.int .i64 ((d+B2+bi)/1048576))=R.J (Data.int .i64 bk.2.1)/\a2 ez k g (a9 ae (pre++z.set i ((d+B2+bi)%1048576)++post))=a2 ez k g (a9 ae (pre++bk.2.2++post)):=by
     intro bi sI kY Eg;refine⟨(i+1,(d+B2+bi)/1048576,z.set i ((d+B2+bi)%1048576)),by dsimp only;omega,by dsimp only;omega,by simp[aW],z7 Ab i (by omega),?_,by dsimp only;omega,?_,rfl,rfl,rfl⟩
     ·dsimp only;rw[tG (by omega),Pg]
     ·dsimp only;rw[lA _ _ (by simpa using K4),Ee,tJ,Eg,nu];simp only[z6];exact afm _ _ _ _ _ _ _ afL
    rcases dn (i<D v) with rM|VR
    ·have nx:v[i]?=some v[i]:=bs rM;have vC:=lB Aa i rM;have Wa:=lA v i rM;generalize v[i]=bi at *;have k1:IntKind.i64.wrap (d+B2+bi)=d+B2+bi:=wrap64 _ (by omega) (by omega);have iz:decide ((i:Int)<(D v:Int))=true:=c6;simp only[go_sem,go_sem_proc,ar,G,I,GW,GV,gw,nx,fy,jw,k1,iz,jx,az,hV,iI,gP,BW,rJ,oS,ae,cI,ak,bj,a3,show ¬ ((20:Int)<0) by omega]
     repeat' (first|refine ax ?_ ?_|fail)<;>intro h<;>simp only[h,go_sem,go_sem_proc,ar,G,I,GW,GV,gw,nx,fy,jw,k1,iz,jx,az,hV,iI,gP,BW,rJ,oS,ae,cI,ak,bj,a3,show ¬ ((20:Int)<0) by omega]
     exact fin bi vC.1 vC.2 Wa
    ·have iz:decide ((i:Int)<(D v:Int))=false:=cY;simp only[go_sem,go_sem_proc,ar,G,I,GW,GV,gw,fy,jw,iz,jx,az,hV,iI,gP,BW,rJ,oS,ae,cI,ak,bj,a3,show ¬ ((20:Int)<0) by omega]
     repeat' (first|refine ax ?_ ?_|fail)<;>intro h<;>simp only[h,go_sem,go_sem_proc,ar,G,I,GW,GV,gw,fy,jw,iz,jx,az,hV,iI,gP,BW,rJ,oS,ae,cI,ak,bj,a3,show ¬ ((20:Int)<0) by omega]
     have:=fin 0 (by omega) (by omega) (by rw[dr (by omega),dr (by omega)];simp);simp only[w5] at this;exact this
   ·obtain rfl:i=D u:=by omega
    have jx:decide ((D u:Int)<(D u:Int))=false:=cY;rw[dr (by omega),dr (by omega),dr (by omega),Kj] at afL;have aso:=zS Ab;have aKB:=pq Ab;rw[aW] at aso
    have Wb:bd u-q*V+V=bd z:=by
     have e:bd u-q*V+V-bd z=1048576^(D u)*(d-c):=by rw[GQ];omega
     generalize (1048576:Int)^(D u)=p at *;rcases yD (d-c) 0 with h|h|h
     ·have:p*(d-c)<=p*(-1):=z5 (by omega) (by omega);omega
     ·rw[h,ud] at e;omega
     ·have:p*1<=p*(d-c):=z5 (by omega) (by omega);omega
    have ay:BX u V q=q-1:=by unfold BX;rw[ad kB]
    have aC:BZ ⟨pre,u,post,V,q,k,g⟩=a9 ae (pre++z++post):=by
     unfold BZ Pb;simp only;rw[ad kB,Wb,<-aW,<-afE Ab]
    simp only[go_sem,go_sem_proc,ar,G,I,GW,GV,gw,jx,ay,aC,Pf];repeat' (first|refine ax ?_ ?_|fail)<;>intro h<;>simp only[h,go_sem,go_sem_proc,ar,G,I,GW,GV,gw,jx,ay,aC,Pf]
theorem asp {T V P yE GX v1 v2 top kx q r:Int}(rI:V=(v1*1048576+v2)*P+yE)(cL:T=(top*1048576+kx)*P+GX)(gx:0<P)(afM:0<=yE)(Ph:GX<P)(mD:0<=q)(asq:0<=V)
  (Wd:T<1048576*V) (Ek:q*v1+r=top) (H:q>=1048576\/q*v2>r*1048576+kx):T<q*V:=by
 rcases H with h|h
 ·have:=m9 h asq;omega
 ·have G:(top*1048576+kx+1)*P<=(q*(v1*1048576+v2))*P:=by
   refine m9 ?_ (by omega);rw[iw,<-ix];have:q*v1*1048576=(top-r)*1048576:=by rw[<-Ek];congr 1;omega
   omega
  have I:q*V=(q*(v1*1048576+v2))*P+q*yE:=by rw[rI,iw,<-ix]
  have af:0<=q*yE:=yA mD afM;rw[ub _ 1,n8] at G;omega
theorem afN {T V P yE GX v1 v2 top kx q r:Int}(rI:V=(v1*1048576+v2)*P+yE)(cL:T=(top*1048576+kx)*P+GX)(gx:0<P)(afM:0<=yE/\yE<P)(Ph:0<=GX)(mD:0<=q)(pZ:q<1048576)(oL:524288<=v1)(oM:0<=v2/\v2<1048576)(adK:0<=kx)
  (Ek:q*v1+r=top) (H:r>=1048576\/q*v2<=r*1048576+kx):0<=T-q*V+V:=by
 have I:q*V=(q*(v1*1048576+v2))*P+q*yE:=by rw[rI,iw,<-ix]
 have af:q*yE<=q*P:=z5 (by omega) mD;have aS:q*P<=1048576*P:=m9 (by omega) (by omega);have bm:1048576*P<=(v1*1048576+v2)*P:=m9 (by omega) (by omega);have e:q*v1*1048576=(top-r)*1048576:=by rw[<-Ek];congr 1;omega
 rcases H with h|h
 ·have bV:q*v2+q<=1048576*1048576:=by
   have bQ:q*(v2+1)<=1048576*1048576:=VW (by omega) (by omega) (by omega) (by omega);rw[iw,vA] at bQ;exact bQ
  have ca:(q*(v1*1048576+v2)+q)*P<=(top*1048576+kx)*P:=by
   refine m9 ?_ (by omega);rw[iw,<-ix];omega
  rw[ub _ q] at ca;omega
 ·have ca:(q*(v1*1048576+v2))*P<=(top*1048576+kx)*P:=by
   refine m9 ?_ (by omega);rw[iw,<-ix];omega
  omega
theorem asr {T V q:Int}(rI:0<V)(G:T<(q+1)*V)(I:0<=T-q*V+V):(if T-q*V<0 then q-1 else q)=T/V/\(if T-q*V<0 then T-q*V+V else T-q*V)=T%V:=by
 have af:(q+1)*V=q*V+V:=by rw[ub,n8]
 have aS:(q-1)*V=q*V-V:=by rw[afO,n8]
 have key:∀d r:Int,T=d*V+r->0<=r->r<V->d=T/V/\r=T%V:=by
  intro d r h ar bm
  constructor
  ·rw[h,yB,Int.add_mul_ediv_right _ _ (by omega),V1 ar bm];omega
  ·rw[h,yB,Int.add_mul_emod_self_right,V3 ar bm]
 split
 ·exact key (q-1) _ (by omega) (by omega) (by omega)
 ·exact key q _ (by omega) (by omega) (by omega)
theorem afP {v:List Int}{N:Nat}(h:(D v)=N+2):bd v=(v[N+1]*1048576+v[N])*1048576^N+bd (v.take N):=by
 have e:v=v.take (N+1+1):=by rw[dr (by omega)]
 conv=>lhs;rw[e]
 rw[lA v (N+1) (by omega),lA v N (by omega),nu,ub,nv (v[N]),B3 (v[N+1]),nv (v[N+1])];have:(1048576:Int)^N*1048576*v[N+1]=1048576^N*v[N+1]*1048576:=by rw[B3]
 omega
theorem ass {v:List Int}{N:Nat}(h:(D v)=N+3):bd v=((v[N+2]*1048576+v[N+1])*1048576+v[N])*1048576^N+bd (v.take N):=by
 have e:v=v.take (N+1+1+1):=by rw[dr (by omega)]
 conv=>lhs;rw[e]
 rw[lA v (N+1+1) (by omega),lA v (N+1) (by omega),lA v N (by omega)];simp only[nu];generalize (1048576:Int)^N=p;rw[ub,ub,ub,B3 (v[N+2]*1048576),B3 (v[N+2]),nv (v[N+2]),B3 (v[N+1]),nv (v[N+1]),nv (v[N])];have G:p*1048576*v[N+1]=p*v[N+1]*1048576:=by rw[B3]
 have I:p*1048576*1048576*v[N+1+1]=p*v[N+2]*1048576*1048576:=by rw[B3,B3 p]
 omega
theorem ast {u:List Int}{i n:Nat}{V:Int}(aa:eV u)(aw:i+n+1<=D u)(fZ:bd (u.drop (i+1))<V)(rI:V<1048576^n):
  ∃pre gd post,u=pre++gd++post/\D pre=i/\D gd=n+1/\eV pre/\eV gd/\eV post/\bd post=0/\∃et,gd[0]?=some et/\u.take (i+1)=pre++[et]/\bd gd=et+1048576*bd (u.drop (i+1))/\0<=bd (u.drop (i+1))/\0<=et/\et<1048576:=by
 have e:u=u.take i++(u.drop i).take (n+1)++u.drop (i+n+1):=by
  rw[gb,qu,<-Gl,tO,tO]
 have afQ:=e ▸ aa;rw[DS,DS] at afQ;obtain⟨⟨d1,d2⟩,d3⟩:=afQ;have az:i<D u:=by omega
 have qJ:=ir az;have K5:((u.drop i).take (n+1)).length=n+1:=by simp;omega
 have afR:bd (u.drop (i+1))=bd ((u.drop (i+1)).take n)+1048576^n*bd (u.drop (i+n+1)):=by
  have:=Kv (u.drop (i+1)) n;rw[rG,oO (by omega),Gl] at this;rw[this]
  congr 3
  rw[show i+1+n=i+n+1 by omega]
 have aE:=pq d3;have bz:0<=bd ((u.drop (i+1)).take n):=pq (λx Q=>aa x (K6 (Gb Q)))
 have n9:bd (u.drop (i+n+1))=0:=by
  rcases dn (0<bd (u.drop (i+n+1))) with h|h
  ·have:(1048576:Int)^n*1<=1048576^n*bd (u.drop (i+n+1)):=z5 (by omega) (Int.pow_nonneg (by omega));omega
  ·omega
 refine⟨_,_,_,e,by simp;omega,K5,d1,d2,d3,n9,u[i],?_,?_,?_,?_,(lB aa i az).1,(lB aa i az).2⟩
 ·rw[pV (by omega),lo];simp[az]
 ·rw[g4,bs az];rfl
 ·rw[qJ,wO,tR,afR,n9];simp
 ·rw[afR,n9];simpa using bz
theorem asu (l:List Int)(h:(D l)<=1000000):mq 157054 0 1 (D l) 8 1 [.J (.int .i64 0)] (some (0,((l.map ae).flatten.map R.J)))=some (.ref 157054 1 1 0 (D l+1),some (157054,1,a9 ae (l++[0]))) :=
 lv hB vn 157054 0 8 l 0 rfl (by omega) (by omega)
def Pj:=cj vB λ(x,y)=>cM ((aL x).length<=1000/\(aL y).length<=1000/\0<y) (.same (.cH [b3 (x/y),b3 (x%y)]))
@[go_sem] theorem afS (x:Nat)(y:Nat)(H:(aL x).length<=1000/\(aL y).length<=1000/\0<y):Pj [b3 x,b3 y]=some (.same (.cH [b3 (x/y),b3 (x%y)])):=(ct yz (x,y)).trans (cR H _)
theorem asv (T:bb)(gi:T D0=aU KX)(fK:T vt=aU BQ)(k3:T OK=aU V0)(eJ:T qG=zQ z0 vz)(jy:T Gz=aU O9)(k4:T UE=BH K3)(x:Nat)(y:Nat)(H:(aL x).length<=1000/\(aL y).length<=1000/\0<y):WP T Vk (.same (.cH [b3 (x/y),b3 (x%y)])) [.J (b3 x),.J (b3 y)]:=by
 refine cu ?_;simp only[Vk];obtain⟨Q,av,iV⟩:=H;have hA:(aL x).length<=1000000/\(aL y).length<=1000000:=by omega
 have hN:=VP x y hA;have tw:(aL x).length<=1000000:=by omega
 by_cases lW:x<y
 ·have pv:hL x y = -1:=by unfold hL;rw[ad (by simpa using lW)]
  have eM:=aff (aL x) tw;rw[pv] at hN
  change BQ [b3 x]=_ at eM
  simp only[go_sem,go_sem_proc,gi,fK,k3,eJ,jy,k4,hN,eM,show ((-1:Int)<0) by omega,decide_true]
  repeat' (first|refine ax ?_ ?_|fail)<;>intro h<;>simp only[h,go_sem,go_sem_proc,gi,fK,k3,eJ,jy,k4,hN,eM,show ((-1:Int)<0) by omega,decide_true]
  rw[Ua lW,Kr lW]
  try rfl
 ·have pv:decide (hL x y<0)=false:=by
   unfold hL;rw[ah (by simp;omega)]
   split<;>rfl
  have aKC:aL y≠[]:=by rw[Ne,zR];omega
  by_cases G:y<1048576
  ·have rK:=DU iV G;have jQ:=afy x y ⟨by omega,by omega,by omega⟩
   have a0:=O0 [((x%y:Nat):Int)] (by simp);have az:x%y<y:=Nat.mod_lt _ iV;rw[lz] at jQ
   have vF:fI [((x%y:Nat):Int)]=aL (x%y):=by
    generalize x%y=r at az ⊢;rw[zT (by intro d aa;rw[ue] at aa;omega)];simp only[bd]
    congr 1
   rw[vF] at a0;have GY:b3 y=.Y [[.int .i64 y]]:=by unfold b3;rw[rK];rfl
   change z0 [.Y [[.int .i64 _]]]=_ at a0
   rw[GY] at hN;simp only[go_sem,go_sem_proc,gi,fK,k3,eJ,jy,k4,GY,hN,pv,jQ,a0,show (((1:Nat):Int)==1)=true from rfl];repeat' (first|refine ax ?_ ?_|fail)<;>intro h<;>simp only[h,go_sem,go_sem_proc,gi,fK,k3,eJ,jy,k4,GY,hN,pv,jQ,a0,show (((1:Nat):Int)==1)=true from rfl]
   try rfl
  ·obtain⟨N,gI⟩:∃N,(aL y).length=N+2:=by
    have:=mt (gS (n:=y) (k:=1)).1 (by simpa using G);exact⟨(aL y).length-2,by omega⟩
   have rK:=m6 y;have k2:(((aL y).length:Int)==1)=false:=by simp;omega
   have K5:IntKind.i64.wrap (((aL y).length:Int)-1)=((N+1:Nat):Int):=by rw[e2 _];omega
   have iR:(aL y)[N+1]?=some (aL y)[N+1]:=bs (by omega);have afT:=lB rK (N+1) (by omega)
   have aKD:(aL y)[N+1]≠0:=by
    intro h;have:=ae2 y;rw[List.getLast?_eq_getElem?,gI] at this;exact this (by rw[show N+2-1=N+1 by omega,iR,h])
   have We:=afP gI;rw[l2] at We;have asw:=zS (z4 rK N);have aKE:=pq (z4 rK N);have aKF:=lB rK N (by omega);rw[gF,oO (by omega)] at asw;generalize (aL y)[N+1]=dh at *;generalize (aL y)[N]=sB at *;generalize bd ((aL y).take N)=Wf at *;have Wg:((aL y).map ae)[N+1]?=some [.int .i64 dh]:=by rw[bj,iR];rfl
   simp only[go_sem,go_sem_proc,gi,fK,k3,eJ,jy,k4,b3,hN,pv,k2,ak];have afU:=hN;unfold b3 at afU;simp only[go_sem,go_sem_proc,gi,fK,k3,eJ,jy,k4,afU,pv,k2,ak];refine dd [0,1] [157054,157075] (λ(κ:Nat) tm mem=>dh*2^κ<1048576/\tm 8=.J (.int .i64 (2^κ))) (λκ=>20-κ) 0 (by refine⟨by omega,rfl⟩) ?_;intro vs ms aP aO;simp only[go_sem,go_sem_proc,gi,fK,k3,eJ,jy,k4,ak] at aP aO;subst aP aO;rintro κ tm mem O hm ⟨aKG,ca⟩;simp only[go_sem,go_sem_proc,gi,fK,k3,eJ,jy,k4,a3] at O hm;obtain⟨ar,yq⟩:=O;obtain⟨GZ,nz⟩:=hm;have aKH:(0:Int)<2^κ:=G0 (by omega)
   have aKI:(2:Int)^κ<=dh*2^κ:=by
    have:1*(2:Int)^κ<=dh*2^κ:=m9 (by omega) (by omega);omega
   have hκ:κ<20:=by
    rcases iq κ 20 with h|h
    ·exact h
    ·have:(2:Int)^20<=2^κ:=by
      have:=w6 (n:=2) (by omega) h;have cx:=Int.ofNat_le.2 this;rwa [Ej,Ej] at cx
     omega
   have Pk:IntKind.i64.wrap (dh*2^κ)=dh*2^κ:=wrap64 _ (by omega) (by omega);have afV:IntKind.i64.wrap (2^κ*2)=2^κ*2:=wrap64 _ (by omega) (by omega);rcases dn (dh*2^κ<524288) with az|b4
   ·simp only[go_sem,go_sem_proc,gi,fK,k3,eJ,jy,k4,ar,yq,ca,K5,Wg,Pk,afV,az,GZ,nz,decide_true,cI,ak];repeat' (first|refine ax ?_ ?_|fail)<;>intro h<;>simp only[h,go_sem,go_sem_proc,gi,fK,k3,eJ,jy,k4,ar,yq,ca,K5,Wg,Pk,afV,az,GZ,nz,decide_true,cI,ak]
    exact⟨κ+1,by omega,by rw[nu,<-ix];omega,by rw[nu]⟩
   ·-- the numbers, shifted
    have asx:(dh+1)*2^κ<=1048576:=by
     have e:(1048576:Int)=2^(20-κ)*2^κ:=by rw[<-afx,show 20-κ+κ=20 by omega];rfl
     have G:dh<2^(20-κ):=by
      rcases dn (dh<2^(20-κ)) with h|h
      ·exact h
      ·have:(2:Int)^(20-κ)*2^κ<=dh*2^κ:=m9 (by omega) (by omega);omega
     rw[e];exact m9 (by omega) (by omega)
    generalize (2:Int)^κ=s at *;obtain⟨S,rfl⟩:∃S:Nat,s=S:=⟨s.toNat,by omega⟩
    have gx:(0:Int)<1048576^N:=G0 (by omega);have El:0<S:=by omega
    have V9:y*S<1048576^(N+2):=by
     have G:((y*S:Nat):Int)<1048576^(N+2):=by
      rw[afW,We,nu,nu];generalize (1048576:Int)^N=p at *
      have ay:((dh*1048576+sB)*p+Wf)*S<=((dh+1)*1048576*p)*S:=by
       refine m9 ?_ (by omega);have:(dh*1048576+sB+1)*p<=((dh+1)*1048576)*p:=m9 (by omega) (by omega);rw[ub _ 1] at this;omega
      have afX:((dh*1048576+sB)*p+Wf)*S<((dh+1)*1048576*p)*S:=by
       refine Int.mul_lt_mul_of_pos_right ?_ (by omega);have:(dh*1048576+sB+1)*p<=((dh+1)*1048576)*p:=m9 (by omega) (by omega);rw[ub _ 1] at this;omega
      have aC:((dh+1)*1048576*p)*S=((dh+1)*S)*(p*1048576):=by
       rw[ix (dh+1),ix,nv (1048576*p),<-ix,nv 1048576 p]
      have cg:((dh+1)*S)*(p*1048576)<=1048576*(p*1048576):=m9 asx (by omega);omega
     have I:((1048576^(N+2):Nat):Int)=1048576^(N+2):=by rw[Ej];rfl
     omega
    have aKJ:524288*(1048576^N*1048576)<=((y*S:Nat):Int):=by
     rw[afW,We];generalize (1048576:Int)^N=p at *
     have ay:(dh*1048576)*p*S<=((dh*1048576+sB)*p+Wf)*S:=by
      refine m9 ?_ (by omega);have:(dh*1048576)*p<=(dh*1048576+sB)*p:=m9 (by omega) (by omega);omega
     have aC:(dh*1048576)*p*S=(dh*S)*(p*1048576):=by
      rw[ix dh,ix,nv (1048576*p),<-ix,nv 1048576 p]
     have cg:524288*(p*1048576)<=(dh*S)*(p*1048576):=m9 (by omega) (by omega);omega
    have Em:(aL (y*S)).length=N+2:=by
     have G:=gS.2 V9
     have I:=mt (gS (n:=y*S) (k:=N+1)).1 (by
      have I:((1048576^(N+1):Nat):Int)=1048576^N*1048576:=by rw[Ej,nu];rfl
      omega)
     omega
    have aKK:1*x<=x*S:=by rw[rH];exact afY x El
    have aKL:(aL x).length<=(aL (x*S)).length:=by
     rw[gS];have:=gS.1 (b0 (aL (x*S)).length);omega
    have aKM:y*S<=x*S:=Nat.mul_le_mul_right S (by omega)
    have aKN:N+2<=(aL (x*S)).length:=by
     rw[<-Em,gS];have:=gS.1 (b0 (aL (x*S)).length);omega
    have aKO:(aL (x*S)).length<=1001:=by
     have:∀k,(aL x).length<=k->(aL (x*S)).length<=k+1:=by
      intro k O;rw[gS];have G:=gS.1 O;rw[wQ];exact Nat.lt_of_lt_of_le (Nat.mul_lt_mul_of_pos_right G El) (afY _ (by omega))
     exact this 1000 Q
    have h6:=VX x S ⟨by omega,by rw[DU El (by omega)];simp⟩
    have Wh:=VX y S ⟨by omega,by rw[DU El (by omega)];simp⟩
    have asy:b3 S=.Y [[.int .i64 (S:Int)]]:=by unfold b3;rw[DU El (by omega)];rfl
    rw[asy] at h6 Wh;simp only[b3] at h6 Wh;have dz:=asu (aL (x*S)) (by omega);have asz:((((aL (x*S)).length+1:Nat):Int)==((aL x).length:Int))=false:=by simp;omega
    have asA:=l2 (y*S);have Pl:=m6 (y*S);have asB:=l2 (x*S);have afZ:=m6 (x*S);have asC:b3 (y*S)=.Y ((aL (y*S)).map ae):=rfl;generalize asD:aL (y*S)=v at *;generalize aKP:aL (x*S)=l5 at *;have Pf:IntKind.i64.wrap (((D l5+1:Nat):Int)-(D v:Int))=((D l5-N-1:Nat):Int):=by rw[e2 _];omega
    have pZ:8*(D l5-N-1)<=140737488355328:=by omega
    have Ac:(D l5)-N-1<=maxLen:=GO _ (by omega);have B4:decide (dh*(S:Int)<524288)=false:=lj b4;simp only[go_sem,go_sem_proc,gi,fK,k3,eJ,jy,k4,ar,yq,ca,GZ,nz,K5,Wg,Pk,B4,h6,Wh,dz,asz,Pf,pZ,Ac,GN,cI,ak];have na:(D l5)-N-1+(N+2)=D l5+1:=by omega
    generalize aKQ:(D l5)-N-1=bg at *;have gy:(D l5)=bg+N+1:=by omega
    have vI:=afP Em;rw[asA] at vI;have Wi:=zS (z4 Pl N);have Wj:=pq (z4 Pl N);rw[gF,oO (by omega)] at Wi;have asE:v[N+1]?=some v[N+1]:=bs (by omega);have G6:v[N]?=some v[N]:=bs (by omega);have BV:=lB Pl (N+1) (by omega);have pY:=lB Pl N (by omega);generalize v[N+1]=v1 at *;generalize v[N]=v0 at *;generalize bd (v.take N)=vlow at *
    have oL:524288<=v1:=by
     generalize (1048576:Int)^N=p at *;rcases dn (524288<=v1) with h|h
     ·exact h
     ·have I:(v1*1048576+v0+1)*p<=(524288*1048576)*p:=m9 (by omega) (by omega);rw[ub _ 1,n8] at I;omega
    have asF:((y*S:Nat):Int)<1048576^(N+2):=by
     have I:((1048576^(N+2):Nat):Int)=1048576^(N+2):=by rw[Ej];rfl
     omega
    have Wk:0<((y*S:Nat):Int):=by
     have:0<1048576^N*(1048576:Int):=Int.mul_pos gx (by omega);omega
    have asG:bd ((l5++[0]).drop bg)<((y*S:Nat):Int):=by
     have e:(l5++[0]).drop bg=l5.drop bg++[0]:=by rw[List.drop_append_of_le_length (by omega)]
     rw[e,DT];have G:=zS (λd aa=>afZ d (K6 aa):eV (l5.drop bg));rw[rG,show (D l5)-bg=N+1 by omega,nu] at G
     simp only[bd];omega
    have asH:((x*S:Nat):Int)=bd ((l5++[0]).take bg)+1048576^bg*bd ((l5++[0]).drop bg):=by
     have:=Kv (l5++[0]) bg;rw[DT,asB,oO (by simp;omega)] at this
     simpa [bd] using this
    generalize af0:y*S=hi at *;generalize af1:x*S=G7 at *
    refine dd [8,9,10,11,12] [] (λ((j,u,ey):Nat×List Int×List Int) tm mem=>j<=bg/\D u=D l5+1/\eV u/\D ey=bg/\eV ey/\bd (u.drop j)<hi/\(G7:Int)=bd (u.take j)+1048576^j*(hi*bd (ey.drop j)+bd (u.drop j)) /\
      tm 13=.J (.int .i64 ((j:Nat)-1))/\mem 157054=some (1,a9 ae u)/\mem 157075=some (0,a9 ae ey)) (λ(j,_)=>j) (bg,l5++[0],dH bg 0)
     (by
      refine⟨b0 _,by simp,DS.2 ⟨afZ,by intro d aa;rw[ue] at aa;omega⟩,by simp,λd aa=>by rw[GR] at aa;omega,asG,?_,?_,rfl,rfl⟩
      ·rw[List.drop_of_length_le (by simp)];simp only[bd,ud,Eh];exact asH
      ·simp only[eE,reduceIte];rw[e2 _]) ?_
    intro vs ms aP aO;simp only[go_sem,go_sem_proc,gi,fK,k3,eJ,jy,k4,ar,yq,ca] at aP aO;subst aP aO;rintro⟨j,u,ey⟩ tm mem O-⟨aj,Ad,vG,vJ,Wl,fZ,pw,n6,yF,Pm⟩;simp only[go_sem,go_sem_proc,gi,fK,k3,eJ,jy,k4,a3] at O;obtain⟨ca,iS,gw,z3,iy⟩:=O;rcases j with _|j
    ·rw[l0,l0] at pw;rw[l0] at fZ;simp only[ns,bd,Int.pow_zero,n8,Eh] at pw;have aKR:=pq Wl;have yG:=pq vG
     have Wm:bd ey=((x/y:Nat):Int)/\bd u=((x%y*S:Nat):Int):=by
      have G:G7/hi=x/y:=by rw[<-af1,<-af0];exact Nat.mul_div_mul_right x y El
      have I:G7%hi=x%y*S:=by rw[<-af1,<-af0];exact Nat.mul_mod_mul_right S x y
      have af:((G7/hi:Nat):Int)=bd ey:=by rw[afz,pw,yB,afA _ _ (by omega),V1 yG fZ];omega
      have aS:((G7%hi:Nat):Int)=bd u:=by rw[afB,pw,yB,afC,V3 yG fZ]
      rw[G] at af;rw[I] at aS;exact⟨af.symm,aS.symm⟩
     have Wn:=O0 u (by omega);rw[zT vG,Wm.2,lz] at Wn;have Wo:=O0 ey (by omega);rw[zT Wl,Wm.1,lz] at Wo
     have hlen:(aL (x%y*S)).length<=100000:=by
      have:(aL (x%y*S)).length<=D u:=by
       have:=afi u;rw[zT vG,Wm.2,lz] at this;exact this
      omega
     have jQ:=afy (x%y*S) S ⟨hlen,by omega,by omega⟩
     rw[lz,Nat.mul_div_cancel _ El] at jQ;simp only[b3] at jQ;have fp:R.ref 157054 1 1 0 (D l5+1)=R.ref 157054 1 1 0 (D u):=by rw[Ad]
     have eX:R.ref 157075 0 1 0 bg=R.ref 157075 0 1 0 (D ey):=by rw[vJ]
     rw[fp] at iS;rw[eX] at iy;simp only[go_sem,go_sem_proc,gi,fK,k3,eJ,jy,k4,ca,iS,gw,z3,iy,n6,yF,Pm,Wn,Wo,jQ,lx hB,b3,ly,l4,show ¬ ((0:Int)-1>=0) by omega,decide_false]
     repeat' (first|refine ax ?_ ?_|fail)<;>intro h<;>simp only[h,go_sem,go_sem_proc,gi,fK,k3,eJ,jy,k4,ca,iS,gw,z3,iy,n6,yF,Pm,Wn,Wo,jQ,lx hB,b3,ly,l4,show ¬ ((0:Int)-1>=0) by omega,decide_false]
    ·obtain⟨pre,gd,post,e,B5,af2,Wp,rN,asI,asJ,et,B6,ga,aKS,asK,aKT,aKU⟩:=ast (i:=j) (n:=N+2) vG (by omega) fZ asF;have uf:j<bg:=by omega
     rw[ga,DT,B5] at pw;subst e;subst B5;rw[Em] at z3;have af3:((D pre+1:Nat):Int)-1=(D pre:Int):=by omega
     have oR:IntKind.i64.wrap ((D pre:Int)+((N+2:Nat):Int))=((D pre+(N+2):Nat):Int):=by rw[e2 _];omega
     have asL:IntKind.i64.wrap (((D pre+(N+2):Nat):Int)-1)=((D pre+(N+1):Nat):Int):=by rw[e2 _];omega
     have En:IntKind.i64.wrap (((N+2:Nat):Int)-1)=((N+1:Nat):Int):=by rw[e2 _];omega
     have Pn:IntKind.i64.wrap (((N+2:Nat):Int)-2)=(N:Int):=by rw[e2 _];omega
     have Po:IntKind.i64.wrap (((D pre+(N+2):Nat):Int)-2)=((D pre+N:Nat):Int):=by rw[e2 _];omega
     have b2:(D pre)+(N+2)<D l5+1:=by omega
     have cp:(D pre)+(N+1)<D l5+1:=by omega
     have hO:(D pre)+N<D l5+1:=by omega
     have asM:(D pre)+(N+2)+1<=(a9 ae (pre++gd++post)).length:=by rw[qI,Ad];omega
     have asN:(D pre)+(N+1)+1<=(a9 ae (pre++gd++post)).length:=by rw[qI,Ad];omega
     have Pp:(D pre)+N+1<=(a9 ae (pre++gd++post)).length:=by rw[qI,Ad];omega
     have asO:=K1 (pre:=pre) (post:=post) (show N+2<(D gd) by omega);have Pq:=K1 (pre:=pre) (post:=post) (show N+1<(D gd) by omega);have n9:=K1 (pre:=pre) (post:=post) (show N<(D gd) by omega);have cL:=ass (N:=N) (by omega:(D gd)=N+3);have Ph:=zS (z4 rN N);have af4:=pq (z4 rN N);rw[gF,oO (by omega)] at Ph;have mE:=lB rN (N+2) (by omega);have jT:=lB rN (N+1) (by omega);have BU:=lB rN N (by omega);generalize gd[N+2]=t2 at *;generalize gd[N+1]=t1 at *;generalize gd[N]=t0 at *;generalize bd (gd.take N)=GX at *;have asP:IntKind.i64.wrap (t2*2^min (DV 20) 64)=t2*1048576:=by rw[show min (DV 20) 64=20 by decide];exact wrap64 _ (by omega) (by omega)
     have asQ:bits .or .i64 (t2*1048576) t1=t2*1048576+t1:=Ul t2 t1 mE.1 (by omega) jT;have asR:(v1=0)=False:=by simp;omega
     generalize aKV:t2*1048576+t1=top at *;have aKW:0<=top/\top<1099511627776:=by omega
     have vF:top.tdiv v1=top/v1:=GU (by omega);have Ei:top.tmod v1=top%v1:=K0 (by omega);have mD:0<=top/v1:=V4 (by omega) (by omega);have pZ:top/v1<=top:=Int.ediv_le_self _ (by omega);have asS:IntKind.i64.wrap (top/v1)=top/v1:=wrap64 _ (by omega) (by omega);have K7:(v.map ae)[N+1]?=some [.int .i64 v1]:=by rw[bj,asE];rfl
     have Pr:(v.map ae)[N]?=some [.int .i64 v0]:=by rw[bj,G6];rfl
     have Wd:bd gd<1048576*hi:=by omega
     have asT:bd gd<(top/v1+1)*hi:=by
      have ay:top+1<=(top/v1+1)*v1:=by
       have G:=BT top v1;have I:=V6 top (show 0<v1 by omega);rw[ub,n8,nv (top/v1)];omega
      have aC:(top+1)*1048576*1048576^N<=(top/v1+1)*v1*1048576*1048576^N:=m9 (m9 ay (by omega)) (by omega)
      have cg:(top/v1+1)*v1*1048576*1048576^N<=(top/v1+1)*hi:=by
       rw[ix,ix];refine z5 ?_ (by omega);rw[vI,<-ix];have:v1*1048576*1048576^N<=(v1*1048576+v0)*1048576^N:=m9 (by omega) (by omega);omega
      have dw:(top*1048576+t0+1)*1048576^N<=(top+1)*1048576*1048576^N:=m9 (by omega) (by omega);rw[ub _ 1,n8] at dw;omega
     simp only[go_sem,go_sem_proc,gi,fK,k3,eJ,jy,k4,ca,iS,gw,z3,iy,n6,yF,Pm,af3,oR,asL,En,b2,cp,asM,asN,asO,Pq,asP,asQ,asR,vF,Ei,asS,K7,show (D pre:Int)>=0 by omega,decide_true,cI,ak,show ¬ ((20:Int)<0) by omega]
     have Wq:∀(mem:Mem),mem 157054=some (1,a9 ae (pre++gd++post))->∀q:Int,0<=q->q<1048576->bd gd<(q+1)*hi->0<=bd gd-q*hi+hi ->
       K3 [.ref 157054 1 1 (D pre) (N+3),.J (.Y (v.map ae)),.J (.int .i64 q)] mem=some (.J (.int .i64 (bd gd/hi)),a2 mem 157054 1 (a9 ae (pre++pad (N+3) (bd gd%hi).toNat++post))):=by
      intro mem yF q mD asU ug ki;have GY:=asr Wk ug ki;have nt:=ash ⟨pre,gd,post,hi,q,157054,1⟩ mem ⟨yF,rN,by show (aL hi).length<=D gd;rw[asD];omega,mD,asU,ki,by show (D pre)+D gd<=100000;omega⟩
      simp only[BX,BZ,Pb] at nt;rw[GY.1,GY.2,af2,asC] at nt;exact nt
     have asV:0<=bd gd/hi:=V4 (pq rN) (by omega);have asW:bd gd/hi<1048576:=afD Wk Wd;have aKX:=V5 (bd gd) (show (hi:Int)≠0 by omega);have asX:=V6 (bd gd) Wk
     have asY:bd (pad (N+3) (bd gd%hi).toNat)=bd gd%hi:=by
      rw[ase]
      ·omega
      ·have I:((1048576^(N+2):Nat):Int)=1048576^(N+2):=by rw[Ej];rfl
       have af:1048576^(N+2)<=1048576^(N+3):=w6 (by omega) (by omega);omega
     have iG:∃bk:Nat×List Int×List Int,bk.1<D pre+1/\bk.1<=bg/\bk.2.1.length=D l5+1/\eV bk.2.1/\bk.2.2.length=bg/\eV bk.2.2/\bd (bk.2.1.drop bk.1)<hi/\(G7:Int)=bd (bk.2.1.take bk.1)+1048576^bk.1*(hi*bd (bk.2.2.drop bk.1)+bd (bk.2.1.drop bk.1)) /\
       R.J (Data.int .i64 ((D pre:Int)-1))=R.J (Data.int .i64 ((bk.1:Int)-1))/\some (1,a9 ae (pre++pad (N+3) (bd gd%hi).toNat++post))=some (1,a9 ae bk.2.1)/\some (0,a9 ae (ey.set (D pre) (bd gd/hi)))=some (0,a9 ae bk.2.2):=by
      have asZ:(D ey)=bg:=vJ;have vJ:(D pre)<D ey:=by omega
      have G8:(pre++pad (N+3) (bd gd%hi).toNat++post).drop (D pre)=pad (N+3) (bd gd%hi).toNat++post:=by rw[gb,T8]
      have as0:(pre++pad (N+3) (bd gd%hi).toNat++post).take (D pre)=pre:=by rw[gb,T7]
      have af5:bd (pad (N+3) (bd gd%hi).toNat++post)=bd gd%hi:=by rw[DT,asJ,asY];omega
      refine⟨(D pre,pre++pad (N+3) (bd gd%hi).toNat++post,ey.set (D pre) (bd gd/hi)),by dsimp only;omega,by dsimp only;omega,?_,DS.2 ⟨DS.2 ⟨Wp,asd _ _⟩,asI⟩,by rw[iQ];exact asZ,z7 Wl _ ⟨asV,asW⟩,?_,?_,rfl,rfl,rfl⟩
      ·rw[<-Ad];simp[asc,af2]
      ·dsimp only;rw[G8,af5];exact asX
      ·dsimp only;rw[G8,af5,as0,ir (by simpa using vJ),tR];simp only[z6];rw[tG (by omega)];have G:=BT (bd gd) hi;have I:(hi:Int)*(bd gd/hi+1048576*bd (ey.drop (D pre+1)))=hi*(bd gd/hi)+1048576*(hi*bd (ey.drop (D pre+1))):=by rw[iw,V7]
       rw[I,pw,nu,ix];simp only[bd,ud,w5];rw[Int.add_assoc,<-iw]
       congr 2
       rw[iw];omega
     have jU:(D pre)+(N+2)+1-D pre=N+3:=by omega
     have uh:IntKind.i64.wrap (((D pre+(N+2):Nat):Int)+1)=((D pre+(N+2)+1:Nat):Int):=by rw[e2 _];rfl
     have Ps:(D pre)<=D pre+(N+2)+1/\D pre+(N+2)+1<=D l5+1:=by omega
     have Pt:(D pre)<bg:=uf;have Pu:=λd=>yy ey (D pre) d (by omega);have Pv:(D pre)+1<=(a9 ae ey).length:=by rw[qI];omega
     have B1:IntKind.i64.wrap ((D pre:Int)-1)=(D pre:Int)-1:=wrap64 _ (by omega) (by omega)
     refine dd [8,9,10,11,12,13] [157054,157075] (λ((q,r):Int×Int) tm mem=>0<=q/\0<=r/\q*v1+r=top/\bd gd<(q+1)*hi/\tm 15=.J (.int .i64 q)/\tm 16=.J (.int .i64 r)) (λ(q,_)=>q.toNat) (top/v1,top%v1)
      (by
       refine⟨mD,V5 _ (by omega),?_,asT,rfl,rfl⟩;have:=BT top v1;rw[nv (top/v1)];omega) ?_
     intro vs ms aP aO;simp only[go_sem,go_sem_proc,gi,fK,k3,eJ,jy,k4,ca,iS,gw,z3,iy,n6,yF,Pm,af3] at aP aO;subst aP aO;rintro⟨q,r⟩ tm mem' O hm ⟨Ae,as1,Ek,ug,vK,sK⟩;simp only[go_sem,go_sem_proc,gi,fK,k3,eJ,jy,k4,a3] at O hm;obtain⟨hX,nb,oa,mF,mG,w7⟩:=O;obtain⟨yH,B7⟩:=hm;have aKY:0<=q*v1:=yA Ae (by omega);have aKZ:q*524288<=q*v1:=z5 oL Ae;have aK0:0<=q*v0:=yA Ae pY.1;have aK1:q*v0<=q*1048576:=z5 (by omega) Ae;have yI:IntKind.i64.wrap (q*v0)=q*v0:=wrap64 _ (by omega) (by omega);have Pw:IntKind.i64.wrap (q-1)=q-1:=wrap64 _ (by omega) (by omega);have Px:IntKind.i64.wrap (r+v1)=r+v1:=wrap64 _ (by omega) (by omega);have Py:IntKind.i64.wrap (r*2^min (DV 20) 64)=r*1048576:=by rw[show min (DV 20) 64=20 by decide];exact wrap64 _ (by omega) (by omega)
     have Pz:bits .or .i64 (r*1048576) t0=r*1048576+t0:=Ul r t0 as1 (by omega) BU
     have Ot:(q>=1048576\/q*v0>r*1048576+t0)->∃bk:Int×Int,bk.1.toNat<q.toNat/\0<=bk.1/\0<=bk.2/\bk.1*v1+bk.2=top/\bd gd<(bk.1+1)*hi/\R.J (Data.int .i64 (q-1))=R.J (Data.int .i64 bk.1)/\R.J (Data.int .i64 (r+v1))=R.J (Data.int .i64 bk.2):=by
      intro H;have G:=asp vI cL gx Wj Ph Ae (by omega) Wd Ek H
      have Wr:0<q:=by
       rcases dn (0<q) with h|h
       ·exact h
       ·obtain rfl:q=0:=by omega
        have:=pq rN;omega
      exact⟨(q-1,r+v1),by dsimp only;omega,by dsimp only;omega,by dsimp only;omega,by dsimp only;rw[afO];omega,by dsimp only;rw[Int.sub_add_cancel];exact G,rfl,rfl⟩
     by_cases g2:q>=1048576
     ·simp only[go_sem,go_sem_proc,gi,fK,k3,eJ,jy,k4,hX,nb,oa,mF,mG,w7,yH,B7,vK,sK,g2,Pw,Px,En,K7,decide_true,cI,ak];repeat' (first|refine ax ?_ ?_|fail)<;>intro h<;>simp only[h,go_sem,go_sem_proc,gi,fK,k3,eJ,jy,k4,hX,nb,oa,mF,mG,w7,yH,B7,vK,sK,g2,Pw,Px,En,K7,decide_true,cI,ak]
      exact Ot (.inl g2)
     ·by_cases vb:r<1048576
      ·by_cases p0:q*v0>r*1048576+t0
       ·simp only[go_sem,go_sem_proc,gi,fK,k3,eJ,jy,k4,hX,nb,oa,mF,mG,w7,yH,B7,vK,sK,g2,vb,p0,yI,Pw,Px,Py,Pz,oR,En,Pn,Po,hO,Pp,n9,K7,Pr,decide_true,decide_false,cI,ak,show ¬ ((20:Int)<0) by omega]
        repeat' (first|refine ax ?_ ?_|fail)<;>intro h<;>simp only[h,go_sem,go_sem_proc,gi,fK,k3,eJ,jy,k4,hX,nb,oa,mF,mG,w7,yH,B7,vK,sK,g2,vb,p0,yI,Pw,Px,Py,Pz,oR,En,Pn,Po,hO,Pp,n9,K7,Pr,decide_true,decide_false,cI,ak,show ¬ ((20:Int)<0) by omega]
        exact Ot (.inr p0)
       ·have nt:=Wq mem' yH q Ae (by omega) ug (afN vI cL gx ⟨Wj,Wi⟩ af4 Ae (by omega) oL pY BU.1 Ek (.inr (by omega)));simp only[go_sem,go_sem_proc,gi,fK,k3,eJ,jy,k4,hX,nb,oa,mF,mG,w7,yH,B7,vK,sK,g2,vb,p0,yI,Py,Pz,oR,uh,En,Pn,Po,hO,Pp,n9,Pr,jU,Ps,nt,Pt,Pv,Pu,B1,Em,decide_true,decide_false,cI,ak,show ¬ ((20:Int)<0) by omega]
        repeat' (first|refine ax ?_ ?_|fail)<;>intro h<;>simp only[h,go_sem,go_sem_proc,gi,fK,k3,eJ,jy,k4,hX,nb,oa,mF,mG,w7,yH,B7,vK,sK,g2,vb,p0,yI,Py,Pz,oR,uh,En,Pn,Po,hO,Pp,n9,Pr,jU,Ps,nt,Pt,Pv,Pu,B1,Em,decide_true,decide_false,cI,ak,show ¬ ((20:Int)<0) by omega]
        exact iG
      ·have nt:=Wq mem' yH q Ae (by omega) ug (afN vI cL gx ⟨Wj,Wi⟩ af4 Ae (by omega) oL pY BU.1 Ek (.inl (by omega)));simp only[go_sem,go_sem_proc,gi,fK,k3,eJ,jy,k4,hX,nb,oa,mF,mG,w7,yH,B7,vK,sK,g2,vb,oR,uh,jU,Ps,nt,Pt,Pv,Pu,B1,Em,decide_true,decide_false,cI,ak];repeat' (first|refine ax ?_ ?_|fail)<;>intro h<;>simp only[h,go_sem,go_sem_proc,gi,fK,k3,eJ,jy,k4,hX,nb,oa,mF,mG,w7,yH,B7,vK,sK,g2,vb,oR,uh,jU,Ps,nt,Pt,Pv,Pu,B1,Em,decide_true,decide_false,cI,ak]
       exact iG
def eb:Nat:=1048576^60
def bS (z:Int):Raw:=(z.sign,aL z.natAbs)
def iA (a:Raw):Int:=a.1*bd a.2
theorem fO (z:Int):iA (bS z)=z:=by
 unfold iA bS;rw[l2];exact Ws z
theorem K8 (d:Int):n4 d=true↔0<=d/\d<1048576:=by
 unfold n4;simp;omega
theorem jV (a:Raw):dG a=true↔∃z:Int,z.natAbs<eb/\a=bS z:=by
 obtain⟨s,l⟩:=a;unfold dG eb;rw[eW,lU]
 constructor
 ·rintro⟨G,I⟩;have aa:eV l:=λd aa=>(K8 d).1 (G d aa)
  split at I
  ·rename_i h;have aw:l=[]:=tC (by simpa using h);subst aw;have X:s=0:=by simpa using I
   subst X;exact⟨0,by simp,rfl⟩
  ·rename_i h;simp at I;obtain⟨⟨X,hlen⟩,Wt⟩:=I;have H:=canon aa (by simpa using Wt);have aq:=pq aa
   have aK2:bd l≠0:=by
    intro ar;rw[ar] at H;rw[H] at h;simp[sF] at h
   refine⟨s*bd l,?_,?_⟩
   ·have:(s*bd l).natAbs=(bd l).toNat:=by rw[qL];rcases X with rfl|rfl<;>simp<;>omega
    rw[this,<-gS,<-H];exact hlen
   ·unfold bS;have:(s*bd l).natAbs=(bd l).toNat:=by rw[qL];rcases X with rfl|rfl<;>simp<;>omega
    rw[this,<-H]
    congr 1
    rcases X with rfl|rfl
    ·rw[n8,jW (by omega)]
    ·rw[Int.neg_mul,n8,Eo,jW (by omega)]
 ·rintro⟨z,aW,h⟩
  cases h;refine⟨λd aa=>(K8 d).2 (m6 _ d aa),?_⟩
  by_cases ar:z=0
  ·subst ar;rfl
  ·have aK:aL z.natAbs≠[]:=by rw[Ne,zR];omega
   rw[ah (by simp;exact aK)];have aw:=gS.2 aW;have iU:=ae2 z.natAbs;simp only[eW,Bool.or_eq_true,beq_iff_eq,decide_eq_true_eq,bne_iff_ne,ne_eq];refine⟨⟨?_,aw⟩,iU⟩;rcases yD z 0 with h|h|h
   ·exact .inr (rO h)
   ·exact absurd h ar
   ·exact .inl (jW h)
theorem k5 {z:Int}(h:z.natAbs<eb):dG (bS z)=true:=(jV _).2 ⟨z,h,rfl⟩
def G9 (c:Raw):Raw×Int:=if decide ((c.2.length:Int)>60)=true then ((0,[]),6) else (c,0)
def sL (z:Int):Raw×Int:=if z.natAbs<eb then (bS z,0) else ((0,[]),6)
def fP (x:Raw×Int):Data:=.cH [.agg (da x.1),.int .i64 x.2]
theorem as2 (s:Int)(n:Nat):kh s (aL n)=if n=0 then (0,[]) else (s,aL n):=by
 unfold kh;rw[ae1]
 by_cases h:n=0
 ·subst h;rfl
 ·have:aL n≠[]:=by rw[Ne,zR];exact h
  rw[ah h,ah (by simp;exact this)]
theorem p1 {s:Int}{n:Nat}{z:Int}(h:z.natAbs=n)(X:n≠0->s=z.sign):kh s (aL n)=bS z:=by
 rw[as2];subst h
 by_cases ar:z.natAbs=0
 ·obtain rfl:z=0:=by omega
  rfl
 ·rw[ah ar,X ar]
  rfl
theorem B8 (z:Int):G9 (bS z)=sL z:=by
 unfold G9 sL bS eb;have:=gS (n:=z.natAbs) (k:=60)
 by_cases h:z.natAbs<1048576^60
 ·have:=this.2 h;rw[ah (by simp;omega),ad h]
 ·have:=mt this.1 h;rw[ad (by simp;omega),ah h]
abbrev Wu:Bool×Int×(List Int)->List Data:=λ(r,s,l)=>[.bool r,.agg [.int .i64 s,.Y (l.map ae)]]
def K9:=cj Wu λ(r,s,l)=>some (.same (fP (if r=true then G9 (s,l) else ((0,[]),1))))
theorem as3:∀a b,Wu a=Wu b->a=b:=by
  rintro⟨e7,s1,ei⟩ ⟨en,s2,ai⟩ h;simp only[a3,Data.bool.injEq,Data.agg.injEq,Data.int.injEq,Data.Y.injEq] at h;exact dS h.1 (dS h.2.1.1.2 (map_inj e9 _ _ h.2.1.2.1))
@[go_sem] theorem Ha (r:Bool)(s:Int)(l:List Int):K9 [.bool r,.agg [.int .i64 s,.Y (l.map ae)]]=some (.same (fP (if r=true then G9 (s,l) else ((0,[]),1)))):=ct as3 (r,s,l)
theorem as4 (T:bb)  (r:Bool) (s:Int) (l:List Int):WP T Vj (.same (fP (if r=true then G9 (s,l) else ((0,[]),1)))) [.J (.bool r),.J (.agg [.int .i64 s,.Y (l.map ae)])]:=by
 refine cu ?_;simp only[Vj]
 cases r
 ·refine aX ?_;repeat' (intro h<;>simp only[h,go_sem,go_sem_proc,ak]<;>try refine ax ?_ ?_)
  rfl
 ·refine aX ?_;repeat' (intro h<;>simp only[h,go_sem,go_sem_proc,ak]<;>try refine ax ?_ ?_)
  all_goals (simp only[fP,da,G9];simp only[cZ, *,reduceIte,cP,dD,vm,sy,l1,po,zO,gQ,iT,fx,kR,beq_self_eq_true,bne])
def jX (a:Raw):Raw:=if dG a=true then bS (-iA a) else (0,[])
theorem af6 (z:Int):kh (-z.sign) (aL z.natAbs)=bS (-z):=p1 (by omega) λ_=>by rw[Eo]
def PA:=cj BR λ(s,l)=>cM (D l<=1000000) (.same (.agg (da (jX (s,l)))))
@[go_sem] theorem aK3 (s:Int)(l:List Int)(H:(D l)<=1000000):PA [.agg [.int .i64 s,.Y (l.map ae)]]=some (.same (.agg (da (jX (s,l))))):=(ct GM (s,l)).trans (cR H _)
theorem as5 (T:bb)(dJ:T k0=aU wW)(fK:T vt=aU BQ)(fA:T pr=aU BS)(s:Int)(l:List Int)(H:(D l)<=1000000):WP T Vg (.same (.agg (da (jX (s,l))))) [.J (.agg [.int .i64 s,.Y (l.map ae)])]:=by
 refine cu ?_;simp only[Vg]
 by_cases ab:dG (s,l)=true
 ·obtain⟨z,aW,e⟩:=(jV _).1 ab;have ay:jX (s,l)=bS (-z):=by unfold jX;rw[ad ab,e,fO]
  cases e
  have hw:IntKind.i64.wrap (0-z.sign) = -z.sign:=by
   have:=af7 z;rw[e2 _];omega
  rw[ay];refine aX ?_;repeat' (intro h<;>simp only[h,go_sem,go_sem_proc,dJ,fK,fA,ab,H,hw,af6,da]<;>try refine ax ?_ ?_)
 ·have ab:dG (s,l)=false:=by simpa using ab
  have ay:jX (s,l)=(0,[]):=by unfold jX;rw[ab];rfl
  rw[ay];refine aX ?_;repeat' (intro h<;>simp only[h,go_sem,go_sem_proc,dJ,fK,fA,ab,H,da,cZ]<;>try refine ax ?_ ?_)
theorem nA (a:Raw):(a.1,a.2)=a:=rfl
def mulR (a b:Raw):Raw×Int:=if (dG a&&dG b)=true then sL (iA a*iA b) else ((0,[]),1)
theorem B9 {x y:Int}(Q:x.natAbs<eb)(av:y.natAbs<eb):mulR (bS x) (bS y)=sL (x*y):=by
 unfold mulR;rw[k5 Q,k5 av,fO,fO]
 rfl
theorem rP {z:Int}(h:z.natAbs<eb):(aL z.natAbs).length<=60:=gS.2 h
theorem rQ (z:Int):-1<=z.sign/\z.sign<=1:=by
 have:=af7 z;omega
abbrev vL:Int×(List Int)×Int×(List Int)->List Data:=λ(s,l,s2,ai)=>[.agg [.int .i64 s,.Y (l.map ae)],.agg [.int .i64 s2,.Y (ai.map ae)]]
def Hb:=cj vL λ(s,l,s2,ai)=>cM (D l<=1000000/\D ai<=1000000) (.same (fP (mulR (s,l) (s2,ai))))
theorem yJ:∀a b,vL a=vL b->a=b:=by
  rintro⟨s1,ei,Ca,Cb⟩ ⟨s2,ai,Cc,Cd⟩ h;simp only[a3,Data.agg.injEq,Data.int.injEq,Data.Y.injEq] at h;exact dS h.1.1.2 (dS (map_inj e9 _ _ h.1.2.1) (dS h.2.1.1.2 (map_inj e9 _ _ h.2.1.2.1)))
@[go_sem] theorem aK4 (s:Int)(l:List Int)(s2:Int)(ai:List Int)(H:(D l)<=1000000/\D ai<=1000000):Hb [.agg [.int .i64 s,.Y (l.map ae)],.agg [.int .i64 s2,.Y (ai.map ae)]]=some (.same (fP (mulR (s,l) (s2,ai)))):=(ct yJ (s,l,s2,ai)).trans (cR H _)
theorem as6 (T:bb)(dJ:T k0=aU wW)(jy:T Gz=aU O9)(fA:T pr=aU BS)(nc:T vr=aU K9)(s:Int)(l:List Int)(s2:Int)(ai:List Int)(H:(D l)<=1000000/\D ai<=1000000):WP T Ve (.same (fP (mulR (s,l) (s2,ai)))) [.J (.agg [.int .i64 s,.Y (l.map ae)]),.J (.agg [.int .i64 s2,.Y (ai.map ae)])]:=by
 refine cu ?_;simp only[Ve];obtain⟨b2,cp⟩:=H
 by_cases ab:dG (s,l)=true
 ·by_cases bB:dG (s2,ai)=true
  ·obtain⟨x,Q,e⟩:=(jV _).1 ab;obtain⟨y,av,aC⟩:=(jV _).1 bB;have hm:mulR (s,l) (s2,ai)=sL (x*y):=by rw[e,aC];exact B9 Q av
   rw[hm];clear hm
   cases e
   cases aC;have G:=rQ x;have I:=rQ y;have aE:x.sign*y.sign=(x*y).sign:=(Int.sign_mul x y).symm;have af:=rQ (x*y);have hw:IntKind.i64.wrap (x.sign*y.sign)=(x*y).sign:=by rw[aE];exact wrap64 _ (by omega) (by omega)
   have hmul:=VX x.natAbs y.natAbs ⟨eQ (rP Q) (by omega),eQ (rP av) (by omega)⟩;simp only[b3] at hmul
   have hlen:(aL (x.natAbs*y.natAbs)).length<=1000000:=by
    refine eQ ((gS (k:=120)).2 ?_) (by omega);have:(1048576^120:Nat)=eb*eb:=by unfold eb;rw[<-Nat.pow_add]
    rw[this];exact Nat.mul_lt_mul'' Q av
   have X:kh (x*y).sign (aL (x.natAbs*y.natAbs))=bS (x*y):=p1 (qL x y) λ_=>rfl;refine aX ?_;repeat' (intro h<;>simp only[h,go_sem,go_sem_proc,dJ,jy,fA,nc,ab,bB,b2,cp,hw,hmul,hlen,X,B8,da,fP,nA]<;>try refine ax ?_ ?_)
  ·have bB:dG (s2,ai)=false:=by simpa using bB
   have hm:mulR (s,l) (s2,ai)=((0,[]),1):=by unfold mulR;rw[bB,iT];rfl
   rw[hm];have oW:=Ha false 0 [];simp only[cZ] at oW;refine aX ?_;repeat' (intro h<;>simp only[h,go_sem,go_sem_proc,dJ,jy,fA,nc,ab,bB,b2,cp,oW,da,fP,cZ]<;>try refine ax ?_ ?_)
 ·have ab:dG (s,l)=false:=by simpa using ab
  have hm:mulR (s,l) (s2,ai)=((0,[]),1):=by unfold mulR;rw[ab,fx];rfl
  rw[hm];have oW:=Ha false 0 [];simp only[cZ] at oW;refine aX ?_;repeat' (intro h<;>simp only[h,go_sem,go_sem_proc,dJ,jy,fA,nc,ab,b2,cp,oW,da,fP,cZ]<;>try refine ax ?_ ?_)
def sM (a b:Raw):Raw×Int:=if (dG a&&dG b)=true then sL (iA a+iA b) else ((0,[]),1)
theorem af8 {x y:Int}(Q:x.natAbs<eb)(av:y.natAbs<eb):sM (bS x) (bS y)=sL (x+y):=by
 unfold sM;rw[k5 Q,k5 av,fO,fO]
 rfl
theorem PB (a b:Nat):(aL (a-b)).length<=(aL a).length:=by
 rw[gS];exact vD (Nat.sub_le a b) (gS.1 (b0 _))
def Wv:=cj vL λ(s,l,s2,ai)=>cM (D l<=1000000/\D ai<=1000000) (.same (fP (sM (s,l) (s2,ai))))
@[go_sem] theorem aK5 (s:Int)(l:List Int)(s2:Int)(ai:List Int)(H:(D l)<=1000000/\D ai<=1000000):Wv [.agg [.int .i64 s,.Y (l.map ae)],.agg [.int .i64 s2,.Y (ai.map ae)]]=some (.same (fP (sM (s,l) (s2,ai)))):=(ct yJ (s,l,s2,ai)).trans (cR H _)
theorem as7 (T:bb)(dJ:T k0=aU wW)(yK:T UF=aU VN)(mH:T KB=aU O7)(mI:T GA=aU O8)(gi:T D0=aU KX)(fA:T pr=aU BS)(nc:T vr=aU K9)(s:Int)(l:List Int)(s2:Int)(ai:List Int)(H:(D l)<=1000000/\D ai<=1000000):WP T Vn (.same (fP (sM (s,l) (s2,ai)))) [.J (.agg [.int .i64 s,.Y (l.map ae)]),.J (.agg [.int .i64 s2,.Y (ai.map ae)])]:=by
 refine cu ?_;simp only[Vn];obtain⟨b2,cp⟩:=H
 by_cases ab:dG (s,l)=true
 ·by_cases bB:dG (s2,ai)=true
  ·obtain⟨x,Q,e⟩:=(jV _).1 ab;obtain⟨y,av,aC⟩:=(jV _).1 bB;have hm:sM (s,l) (s2,ai)=sL (x+y):=by rw[e,aC];exact af8 Q av
   rw[hm];clear hm
   cases e
   cases aC;have G:=rQ x;have I:=rQ y;have ob:=rP Q;have k2:=rP av;have aK6:=Ws x;have aK7:=Ws y
   have Ce:(x.sign=1/\0<x)\/(x.sign=0/\x=0)\/(x.sign = -1/\x<0):=by
    rcases yD x 0 with h|h|h
    ·exact .inr (.inr ⟨rO h,h⟩)
    ·exact .inr (.inl ⟨by rw[h];rfl,h⟩)
    ·exact .inl ⟨jW h,h⟩
   have ty:(y.sign=1/\0<y)\/(y.sign=0/\y=0)\/(y.sign = -1/\y<0):=by
    rcases yD y 0 with h|h|h
    ·exact .inr (.inr ⟨rO h,h⟩)
    ·exact .inr (.inl ⟨by rw[h];rfl,h⟩)
    ·exact .inl ⟨jW h,h⟩
   have hj:=afn x.natAbs y.natAbs ⟨by omega,by omega⟩
   simp only[b3] at hj
   have hlen:(aL (x.natAbs+y.natAbs)).length<=1000000:=by
    refine eQ ((gS (k:=61)).2 ?_) (by omega);have:(1048576^61:Nat)=eb*1048576:=by unfold eb;rw[<-wQ]
    omega
   have w3:=arV [x.sign,y.sign] (by simp);simp only[ev,cZ,ae] at w3;have gh:=VP x.natAbs y.natAbs ⟨by omega,by omega⟩
   simp only[b3] at gh
   by_cases aE:x.sign*y.sign>=0
   ·have hw:IntKind.i64.wrap (x.sign*y.sign)=x.sign*y.sign:=by
     rcases Ce with ⟨e,_⟩|⟨e,_⟩|⟨e,_⟩<;>rw[e]<;>exact wrap64 _ (by omega) (by omega)
    have X:kh (z2 [x.sign,y.sign]) (aL (x.natAbs+y.natAbs))=bS (x+y):=by
     refine p1 ?_ ?_
     ·rcases Ce with ⟨e,_⟩|⟨e,_⟩|⟨e,_⟩<;>rcases ty with ⟨e',_⟩|⟨e',_⟩|⟨e',_⟩<;>rw[e,e'] at aE<;>omega
     ·intro aK;rcases Ce with ⟨e,_⟩|⟨e,_⟩|⟨e,_⟩<;>rcases ty with ⟨e',_⟩|⟨e',_⟩|⟨e',_⟩<;>rw[e,e'] at aE ⊢
      ·exact (jW (by omega)).symm
      ·exact (jW (by omega)).symm
      ·omega
      ·exact (jW (by omega)).symm
      ·omega
      ·exact (rO (by omega)).symm
      ·omega
      ·exact (rO (by omega)).symm
      ·exact (rO (by omega)).symm
    simp only[go_sem,go_sem_proc,dJ,yK,mH,mI,gi,fA,nc,ab,bB,b2,cp,hw,aE,decide_true,w3,hj,hlen,X,B8,da,fP,nA];repeat' (first|refine ax ?_ ?_|fail)<;>intro h<;>simp only[h,go_sem,go_sem_proc,dJ,yK,mH,mI,gi,fA,nc,ab,bB,b2,cp,hw,aE,decide_true,w3,hj,hlen,X,B8,da,fP,nA]
   ·have hw:IntKind.i64.wrap (x.sign*y.sign)=x.sign*y.sign:=by
     rcases Ce with ⟨e,_⟩|⟨e,_⟩|⟨e,_⟩<;>rw[e]<;>exact wrap64 _ (by omega) (by omega)
    by_cases az:x.natAbs<y.natAbs
    ·have w8:decide (hL x.natAbs y.natAbs<0)=true:=by unfold hL;rw[ad (by simp;omega)];rfl
     have jU:=VV y.natAbs x.natAbs ⟨by omega,by omega⟩
     simp only[b3] at jU;have La:(aL (y.natAbs-x.natAbs)).length<=1000000:=eQ (PB _ _) (by omega)
     have X:kh y.sign (aL (y.natAbs-x.natAbs))=bS (x+y):=by
      refine p1 ?_ ?_
      ·rcases Ce with ⟨e,_⟩|⟨e,_⟩|⟨e,_⟩<;>rcases ty with ⟨e',_⟩|⟨e',_⟩|⟨e',_⟩<;>rw[e,e'] at aE<;>omega
      ·intro aK;rcases Ce with ⟨e,_⟩|⟨e,_⟩|⟨e,_⟩<;>rcases ty with ⟨e',_⟩|⟨e',_⟩|⟨e',_⟩<;>rw[e,e'] at aE<;>rw[e']<;>first|omega|exact (jW (by omega)).symm|exact (rO (by omega)).symm
     simp only[go_sem,go_sem_proc,dJ,yK,mH,mI,gi,fA,nc,ab,bB,b2,cp,hw,aE,decide_false,gh,w8,jU,La,X,B8,da,fP,nA];repeat' (first|refine ax ?_ ?_|fail)<;>intro h<;>simp only[h,go_sem,go_sem_proc,dJ,yK,mH,mI,gi,fA,nc,ab,bB,b2,cp,hw,aE,decide_false,gh,w8,jU,La,X,B8,da,fP,nA]
    ·have w8:decide (hL x.natAbs y.natAbs<0)=false:=by unfold hL;rw[ah (by simp;omega)];split<;>rfl
     have jU:=VV x.natAbs y.natAbs ⟨by omega,by omega⟩
     simp only[b3] at jU;have La:(aL (x.natAbs-y.natAbs)).length<=1000000:=eQ (PB _ _) (by omega)
     have X:kh x.sign (aL (x.natAbs-y.natAbs))=bS (x+y):=by
      refine p1 ?_ ?_
      ·rcases Ce with ⟨e,_⟩|⟨e,_⟩|⟨e,_⟩<;>rcases ty with ⟨e',_⟩|⟨e',_⟩|⟨e',_⟩<;>rw[e,e'] at aE<;>omega
      ·intro aK;rcases Ce with ⟨e,_⟩|⟨e,_⟩|⟨e,_⟩<;>rcases ty with ⟨e',_⟩|⟨e',_⟩|⟨e',_⟩<;>rw[e,e'] at aE<;>rw[e]<;>first|omega|exact (jW (by omega)).symm|exact (rO (by omega)).symm
     simp only[go_sem,go_sem_proc,dJ,yK,mH,mI,gi,fA,nc,ab,bB,b2,cp,hw,aE,decide_false,gh,w8,jU,La,X,B8,da,fP,nA];repeat' (first|refine ax ?_ ?_|fail)<;>intro h<;>simp only[h,go_sem,go_sem_proc,dJ,yK,mH,mI,gi,fA,nc,ab,bB,b2,cp,hw,aE,decide_false,gh,w8,jU,La,X,B8,da,fP,nA]
  ·have bB:dG (s2,ai)=false:=by simpa using bB
   have hm:sM (s,l) (s2,ai)=((0,[]),1):=by unfold sM;rw[bB,iT];rfl
   rw[hm];have oW:=Ha false 0 [];simp only[cZ] at oW;simp only[go_sem,go_sem_proc,dJ,yK,mH,mI,gi,fA,nc,ab,bB,b2,cp,oW,da,fP,cZ];repeat' (first|refine ax ?_ ?_|fail)<;>intro h<;>simp only[h,go_sem,go_sem_proc,dJ,yK,mH,mI,gi,fA,nc,ab,bB,b2,cp,oW,da,fP,cZ]
 ·have ab:dG (s,l)=false:=by simpa using ab
  have hm:sM (s,l) (s2,ai)=((0,[]),1):=by unfold sM;rw[ab,fx];rfl
  rw[hm];have oW:=Ha false 0 [];simp only[cZ] at oW;simp only[go_sem,go_sem_proc,dJ,yK,mH,mI,gi,fA,nc,ab,b2,cp,oW,da,fP,cZ];repeat' (first|refine ax ?_ ?_|fail)<;>intro h<;>simp only[h,go_sem,go_sem_proc,dJ,yK,mH,mI,gi,fA,nc,ab,b2,cp,oW,da,fP,cZ]
end Go.Mini
