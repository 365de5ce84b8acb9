/- A part of the proof. -/
import Derived.LoopN
import Derived.Laws.BitsLemmas
import Derived.ChangeSame
import Derived.Handed
import Derived.JoinedOf
import Derived.JoinedCond
import Derived.OpenShut
import Derived.ProofKit
import Derived.Test.YtgpioapepokkbaaGreatM01
set_option linter.unusedSimpArgs false
set_option linter.unusedVariables false
set_option maxRecDepth 100000
set_option maxHeartbeats 4000000
noncomputable section
open Bool renaming and_eq_true->e9,and_false->iZ,and_true->zA,false_and->fB,false_eq_true->k0,false_or->pj,not_false->du,not_true->cP,or_false->l3,or_true->vj,true_and->g1,true_or->sl
open Classical renaming choose->tF,choose_spec->ph
open Decidable renaming em->dv
open Int renaming add_comm->yi,add_mul->tR,add_mul_ediv_left->afr,add_mul_emod_self_left->aft,add_zero->wY,bmod_def->aeV,cast_ofNat_Int->l6,ediv_eq_zero_of_lt->VT,ediv_lt_of_lt_mul->afu,ediv_nonneg->VV,emod_add_mul_ediv->BH,emod_emod_of_dvd->aeW,emod_eq_of_lt->VU,emod_lt_of_pos->VX,emod_nonneg->VW,lt_trichotomy->yk,mul_add->iA,mul_assoc->iB,mul_comm->nt,mul_le_mul->VO,mul_le_mul_of_nonneg_left->zP,mul_le_mul_of_nonneg_right->m7,mul_left_comm->VY,mul_nonneg->yh,mul_one->vy,mul_right_comm->BQ,mul_sub->Gy,mul_zero->tT,natAbs_mul->qJ,natCast_ediv->afq,natCast_emod->afs,natCast_mul->afN,natCast_pow->D3,natCast_zero->lG,one_mul->n6,pow_add->afo,pow_pos->GK,pow_succ->ns,sign_eq_neg_one_of_neg->rF,sign_eq_one_of_pos->j6,sign_mul_natAbs->Wk,sign_neg->D8,sign_trichotomy->afY,sub_mul->afF,sub_zero->KU,tdiv_eq_ediv_of_nonneg->GD,tmod_eq_emod_of_nonneg->KV,toNat->DG,toNat_natCast->lH,zero_add->DZ
open List renaming all_cons->Gb,all_eq_true->nq,append_assoc->gM,append_inj->Gt,append_nil->fG,concat_eq_append->Bv,cons_append->j1,drop->fX,drop_append->oN,drop_drop->F6,drop_eq_getElem_cons->iu,drop_eq_nil_of_le->jV,drop_left->T1,drop_length->T4,drop_set_of_lt->tx,drop_zero->l2,eq_nil_of_length_eq_zero->tt,eq_nil_or_concat->Bu,flatMap_cons->qB,flatten_cons->jP,getElem?_append->FI,getElem?_drop->lB,getElem?_eq_getElem->bu,getElem?_eq_some_iff->dP,getElem?_map->bh,getElem?_take_of_lt->pT,getElem_set_self->zQ,length->D,length_append->fQ,length_cons->h8,length_drop->ry,length_eq_one_iff->aer,length_map->ai,length_nil->k9,length_range->sn,length_set->iY,length_take->gC,mapM_cons->lz,mapM_nil->Ga,map_cons->eC,map_nil->cS,mem_append->js,mem_attach->aew,mem_cons->hP,mem_flatMap->x3,mem_iff_getElem?->tI,mem_map->dV,mem_of_getElem?->eg,mem_of_mem_drop->K1,mem_of_mem_take->FN,mem_range->g2,mem_replicate->Gz,mem_singleton->tU,nil_append->jv,range->dU,replicate->dD,replicate_succ->qs,take->fM,take_add_one->hk,take_append_drop->tG,take_left->T0,take_of_length_le->dx,take_succ_cons->wH,take_zero->mH
open List.cons renaming inj->wU,injEq->a6
open Nat renaming add_assoc->qp,add_mul->qh,add_sub_cancel_left->Gf,add_zero->nX,and_two_pow_sub_one_eq_mod->aeX,div_eq_of_lt->T3,div_lt_iff_lt_mul->aeU,eq_zero_or_pos->k6,le_refl->bX,le_trans->eQ,lt_of_le_of_lt->vB,lt_or_ge->ir,min_eq_left->oK,mod_eq_of_lt->Kh,mul_comm->rz,mul_le_mul_left->afP,mul_one->cD,pow_le_pow_right->wZ,pow_succ->wJ,strongRecOn->TT,zero_add->kH,zero_le->fs,zero_mul->DA
open Option renaming bind_eq_bind->hy,bind_eq_some_iff->er,bind_some->la,map_eq_some_iff->dY,map_some->mB,pure_def->hi
open Option.some renaming inj->pN,injEq->cm
open Prod renaming ext->dQ,ext_iff->ye
open Prod.mk renaming injEq->fo
namespace Go.Mini
open Go
variable {P:Program} {T:bb} {A:Nat->Prop} {ew w:World} {hz B:e5} {mem:Mem} {n kb:Nat} {own:List Nat} {aL:Exit->Act->World->Prop}
theorem ael {k:Key}{aX mq:Nat->Prop}{bs:e5}{v:Value}{sz:Nat}{e:mr}(he:B k=some e)(ak:bq w aX bs .nil v):bq w mq B (.ref k e.g sz 0 0) v:=by
 cases ak;exact .ref he (bX _) ⟨_,0,rfl,bX _,fs _,.inl rfl⟩
theorem Dv {k:Key}{g i:Nat}{cs:List Q}{m m':Q}{w1:World}(b0:fr A w B mem)(M:mem k=some (g,cs))(J:cs[i]?=some m)
  (ak:∀e b v,B k=some e->e.dz=some b->w.cell? ⟨b,i,none⟩=some v->bq w (cb A B) B m' v):∃bs,eH A w B w bs (a1 mem k g (cs.set i m')):=by
 obtain⟨e,he,b2,aH,ae⟩:=b0.at_ M
 have ok:=eH.change (k:=k) (e':=e) (cs:=cs.set i m') b0 (Fr.refl _ w) (λaB fq => .inl (by rw[he] at fq;cases fq;rfl)) (λb eR => .inr ⟨e,he,eR⟩) (λh=>by
  have:=aH h;subst this
  rfl) (λb eR=>by
  obtain⟨vs,T,aT,aW,hle,bZ⟩:=ae b eR;refine⟨vs,T,aT,aW,by simpa using hle,λj x O=>?_⟩
  by_cases mF:i=j
  ·subst mF;have az:i<D cs:=(dP.1 J).1;rw[List.getElem?_set_self az] at O
   cases O;have oI:i<vs.size:=by omega
   exact⟨vs[i],Array.getElem?_eq_getElem oI,ak e b _ he eR (by rw[cell_of_row w b i vs T (0,0) aT];exact Array.getElem?_eq_getElem oI)⟩
  ·rw[List.getElem?_set_ne mF] at O;obtain⟨v,J9,aa⟩:=bZ.get O;refine⟨v,?_,aa⟩;have az:j<D cs:=(dP.1 O).1;rw[pT az,Array.getElem?_toList] at J9;exact J9)
 rw[b2] at ok;exact⟨_,ok⟩
theorem eH.move {k k':Key}{g:Nat}{cs:List Q}{e:mr}(h:fr A w B mem)(M:mem k=some (g,cs))(he:B k=some e)(bI:k'≠k):
  eH A w B w (gB (gB B k ⟨bY mem k,none,0⟩) k' ⟨bY mem k',e.dz,e.size⟩) (a1 (a1 mem k (bY mem k) []) k' (bY mem k') cs):=by
 have pR:∀b,r8 (gB (gB B k ⟨bY mem k,none,0⟩) k' ⟨bY mem k',e.dz,e.size⟩) b->r8 B b:=by
  rintro b ⟨j,aB,ah,ae⟩
  by_cases E:j=k'
  ·subst E;rw[hx] at ah
   cases ah;exact⟨k,e,he,ae⟩
  ·rw[hh _ _ E] at ah
   by_cases H:j=k
   ·subst H;rw[hx] at ah
    cases ah
    cases ae
   ·rw[hh _ _ H] at ah;exact⟨j,aB,ah,ae⟩
 have mZ:Trans A w B w (gB (gB B k ⟨bY mem k,none,0⟩) k' ⟨bY mem k',e.dz,e.size⟩):=by
  refine⟨bX _,λb _ ae=>⟨rfl,λbL=>ae (.inl (pR b bL))⟩,λj aB ah=>?_⟩
  by_cases E:j=k'
  ·subst E;exact⟨_,hx _ _ _,.inr (Dc h j aB ah)⟩
  ·rw[hh _ _ E]
   by_cases H:j=k
   ·subst H;exact⟨_,hx _ _ _,.inr (Dc h j aB ah)⟩
   ·rw[hh _ _ H];exact⟨aB,ah,.inl rfl⟩
 refine⟨⟨λj ah=>?_,λj lW ay aB b E H kt eR=>?_,λb aM bL=>h.sep b aM (pR b bL),h.lt,λj ck n1 ah=>?_⟩,mZ,Fr.refl _ _,λb ae => .inl (pR b ae)⟩
 ·simp only[a1] at ah
  by_cases E:j=k'
  ·simp[E] at ah
  ·by_cases H:j=k
   ·rw[ag E,ab H] at ah
    cases ah
   ·simp only[E,H,if_false] at ah;rw[hh _ _ E,hh _ _ H];exact h.A2 j ah
 ·have main:∀(j:Key) (ay:mr),gB (gB B k ⟨bY mem k,none,0⟩) k' ⟨bY mem k',e.dz,e.size⟩ j=some ay->ay.dz=some b->(j=k'/\e.dz=some b)\/(j≠k'/\j≠k/\B j=some ay):=by
   intro j ay ah ae
   by_cases E:j=k'
   ·subst E;rw[hx] at ah
    cases ah;exact .inl ⟨rfl,ae⟩
   ·rw[hh _ _ E] at ah
    by_cases H:j=k
    ·subst H;rw[hx] at ah
     cases ah
     cases ae
    ·rw[hh _ _ H] at ah;exact .inr ⟨E,H,ah⟩
  rcases main j ay E kt with ⟨e8,iL⟩|⟨e8,s1,iL⟩<;>rcases main lW aB H eR with ⟨et,ju⟩|⟨et,s2,ju⟩
  ·rw[e8,et]
  ·exact absurd (h.inj k lW e aB b he ju iL eR).symm s2
  ·exact absurd (h.inj k j e ay b he iL ju kt).symm s1
  ·exact h.inj j lW ay aB b iL ju kt eR
 ·simp only[a1] at ah
  by_cases E:j=k'
  ·subst E;simp only[if_true,cm,fo] at ah;obtain⟨rfl,rfl⟩:=ah;obtain⟨bm,Ka,a9,aH,ae⟩:=h.dz k g cs M;rw[he] at Ka
   cases Ka;refine⟨_,hx _ _ _,rfl,aH,λb jU=>?_⟩;obtain⟨vs,T,af,aP,bt,bU⟩:=ae b jU;exact⟨vs,T,af,aP,bt,λi m J=>let ⟨v,ak,aa⟩:=bU i m J;⟨v,ak,aa.q7 mZ⟩⟩
  ·simp only[E,if_false] at ah;rw[hh _ _ E]
   by_cases H:j=k
   ·subst H;simp only[if_true,cm,fo] at ah;obtain⟨rfl,rfl⟩:=ah;exact⟨_,hx _ _ _,rfl,λ_=>rfl,λb ae=>by cases ae⟩
   ·simp only[H,if_false] at ah;rw[hh _ _ H];obtain⟨bm,Ka,a9,aH,ae⟩:=h.dz j ck n1 ah;refine⟨bm,Ka,a9,aH,λb jU=>?_⟩;obtain⟨vs,T,af,aP,bt,bU⟩:=ae b jU;exact⟨vs,T,af,aP,bt,λi m J=>let ⟨v,ak,aa⟩:=bU i m J;⟨v,ak,aa.q7 mZ⟩⟩
theorem hO.ghost {a:Act}{st:ba}{bs:e5}{mem':Mem}{tm':Nat->Q}(h:hO n A ew hz a st w B)(U:eH A w B w bs mem')(bA:∀s,tm' s=st.tm s\/bq w (cb A bs) bs (tm' s) (a.eval (.tmp s))):
  hO n A ew hz a ⟨tm',mem'⟩ w bs:=by
 refine⟨h.ok.trans U,λs=>?_,h.sz,h.JY⟩;rcases bA s with E|E
 ·simp only[E];exact (h.tm s).q7 U.mZ
 ·exact E
theorem aqy {K:ba->Prop}{a:Act}{st:ba}{g:NI}(h:hO n A ew hz a st w B)(M:ly K st g):∃dO bs,K dO/\hO n A ew hz a dO w bs:=by
 have ts:∀x:bS,∃v,bq w (cb A B) B (a3 st.tm x) v\/∃m,x=.c m:=λx=>by
  cases x with
  |t s=>exact⟨_,.inl (h.tm s)⟩
  |c m=>exact⟨undef,.inr ⟨m,rfl⟩⟩
 cases g with
 |oE s k sz =>
  simp only[ly] at M
  split at M
  ·rename_i U;have ok:=eH.xV h.ok.dT k;refine⟨_,_,M,h.ghost ok λt=>?_⟩
   by_cases rr:t=s
   ·subst rr;have:=h.tm t;rw[U] at this;simp only[e6,if_true];exact .inr (ael (e:=⟨bY st.mem k,none,0⟩) (hx _ _ _) this)
   ·exact .inl (by simp[e6,rr])
  ·cases M
 |freeze s =>
  simp only[ly] at M
  split at M
  ·rename_i k g sz off len U
   split at M
   ·rename_i c0 cs gp
    split at M
    ·rename_i a9;obtain⟨rfl,_⟩:=a9
     split at M
     ·rename_i d Y;have ok:=eH.xV h.ok.dT k;refine⟨_,_,M,h.ghost ok λt=>?_⟩
      by_cases rr:t=s
      ·subst rr;have ak:=h.tm t;rw[U] at ak Y;simp only[e6,if_true];exact .inr (.I (J5 h.ok.dT gp Y ak))
      ·exact .inl (by simp[e6,rr])
     ·cases M
    ·cases M
   ·cases M
  ·cases M
 |NJ x i k sz =>
  simp only[ly] at M
  split at M
  ·rename_i kc g off O
   split at M
   ·rename_i c0 cs gp
    split at M
    ·rename_i a9;subst a9
     split at M
     ·rename_i G
      split at M
      ·rename_i bI;have ok:=eH.xV h.ok.dT k;have tB:a1 st.mem k (bY st.mem k) [] kc=some (c0,cs):=by simp[a1,Ne.symm bI,gp]
       obtain⟨e,he,b2,aH,ae⟩:=h.ok.dT.at_ gp
       obtain⟨bs,tC⟩:=Dv (w1:=w) (m':=.ref k (bY st.mem k) sz 0 0) ok.dT tB G (λaB b v fq eR ak=>by
        rw[hh B _ (Ne.symm bI)] at fq;rw[he] at fq
        cases fq;obtain⟨vs,T,aT,aW,hle,bZ⟩:=ae b eR;have az:off+i<D cs:=(dP.1 G).1;rw[cell_of_row w b (off+i) vs T (0,0) aT] at ak;have aa:=bZ.2 (off+i) _ v G (by rw[pT az,Array.getElem?_toList];exact ak);exact ael (e:=⟨bY st.mem k,none,0⟩) (hx _ _ _) aa)
       exact⟨_,bs,M,h.ghost (ok.trans tC) λt => .inl rfl⟩
      ·cases M
     ·cases M
    ·cases M
   ·cases M
  ·cases M
 |NK x i =>
  simp only[ly] at M
  split at M
  ·rename_i kc gc off O
   split at M
   ·rename_i JH cc aem
    split at M
    ·rename_i a9;subst a9
     split at M
     ·rename_i k g sz o len G
      split at M
      ·rename_i c0 cs gp
       split at M
       ·rename_i a9;obtain⟨rfl,_,bI⟩:=a9
        split at M
        ·rename_i d Y;have ok:=eH.xV h.ok.dT k;have tB:a1 st.mem k (bY st.mem k) [] kc=some (JH,cc):=by simp[a1,Ne.symm bI,aem]
         obtain⟨e,he,b2,aH,ae⟩:=h.ok.dT.at_ aem
         obtain⟨bs,tC⟩:=Dv (w1:=w) (m':=.I d) ok.dT tB G (λaB b v fq eR ak=>by
          rw[hh B _ (Ne.symm bI)] at fq;rw[he] at fq
          cases fq;obtain⟨vs,T,aT,aW,hle,bZ⟩:=ae b eR;have az:off+i<D cc:=(dP.1 G).1;rw[cell_of_row w b (off+i) vs T (0,0) aT] at ak;have aa:=bZ.2 (off+i) _ v G (by rw[pT az,Array.getElem?_toList];exact ak);exact .I (J5 h.ok.dT gp Y aa))
         exact⟨_,bs,M,h.ghost (ok.trans tC) λt => .inl rfl⟩
        ·cases M
       ·cases M
      ·cases M
     ·cases M
    ·cases M
   ·cases M
  ·cases M
 |move =>
  rcases M with M|⟨fR,g9,gK,i,k,g,sz,off,len,cs,k',ia,G,x8,E,H,af,M⟩|⟨fR,g9,gK,i,k,g,sz,off,len,cs,d,ia,G,gp,-,bI,Y,M⟩
  ·exact⟨st,B,M,h⟩
  ·obtain⟨e,he,b2,aH,ae⟩:=h.ok.dT.at_ x8;have ok:=eH.move h.ok.dT x8 he H;have tB:a1 (a1 st.mem k (bY st.mem k) []) k' (bY st.mem k') cs fR=some (g9,gK):=by simp[a1,Ne.symm E,Ne.symm af,ia]
   obtain⟨ex,hex,aen,hW,Kb⟩:=h.ok.dT.at_ ia
   obtain⟨bs,tC⟩:=Dv (w1:=w) (m':=.ref k' (bY st.mem k') sz off len) ok.dT tB G (λaB b v fq eR ak=>by
    rw[hh _ _ (Ne.symm af),hh _ _ (Ne.symm E)] at fq;rw[hex] at fq
    cases fq;obtain⟨vs,T,aT,aW,hle,bZ⟩:=Kb b eR;have az:i<D gK:=(dP.1 G).1;rw[cell_of_row w b i vs T (0,0) aT] at ak;have aa:=bZ.2 i _ v G (by rw[pT az,Array.getElem?_toList];exact ak)
    cases aa with
    |ref fq hgle aa =>
     rw[he] at fq
     cases fq;obtain⟨a,cap,rfl,aP,bt,bU⟩:=aa;refine .ref (hx _ _ _) (bX _) ⟨a,cap,rfl,aP,bt,bU.imp id ?_⟩;rintro⟨ft,rfl,bM⟩;exact⟨ft,rfl,λ_=>bM b2.symm⟩)
   exact⟨_,bs,M,h.ghost (ok.trans tC) λt => .inl rfl⟩
  ·have ok:=eH.xV h.ok.dT k;have tB:a1 st.mem k (bY st.mem k) [] fR=some (g9,gK):=by simp[a1,Ne.symm bI,ia]
   obtain⟨e,he,b2,aH,ae⟩:=h.ok.dT.at_ ia
   obtain⟨bs,tC⟩:=Dv (w1:=w) (m':=.I d) ok.dT tB G (λaB b v fq eR ak=>by
    rw[hh B _ (Ne.symm bI)] at fq;rw[he] at fq
    cases fq;obtain⟨vs,T,aT,aW,hle,bZ⟩:=ae b eR;have az:i<D gK:=(dP.1 G).1;rw[cell_of_row w b i vs T (0,0) aT] at ak;have aa:=bZ.2 i _ v G (by rw[pT az,Array.getElem?_toList];exact ak);exact .I (J5 h.ok.dT gp Y aa))
   exact⟨_,bs,M,h.ghost (ok.trans tC) λt => .inl rfl⟩
 |many =>
  obtain⟨mem',TQ,M⟩:=M
  have main:∀{lE dJ:Mem},tj lE dJ->∀B,hO n A ew hz a ⟨st.tm,lE⟩ w B->∃bs,hO n A ew hz a ⟨st.tm,dJ⟩ w bs:=by
   intro lE dJ TQ
   induction TQ with
   |refl mem=>exact λB h=>⟨B,h⟩
   | @step lE dJ cU U _ aA =>
    intro B h
    have one:∃bs,hO n A ew hz a ⟨st.tm,dJ⟩ w bs:=by
     cases U with
     |NR fR g9 gK i k g sz off len cs k' ia G x8 E H af =>
      obtain⟨e,he,b2,aH,ae⟩:=h.ok.dT.at_ x8;have ok:=eH.move h.ok.dT x8 he H;have tB:a1 (a1 lE k (bY lE k) []) k' (bY lE k') cs fR=some (g9,gK):=by simp[a1,Ne.symm E,Ne.symm af,ia]
      obtain⟨ex,hex,aen,hW,Kb⟩:=h.ok.dT.at_ ia
      obtain⟨bs,tC⟩:=Dv (w1:=w) (m':=.ref k' (bY lE k') sz off len) ok.dT tB G (λaB b v fq eR ak=>by
       rw[hh _ _ (Ne.symm af),hh _ _ (Ne.symm E)] at fq;rw[hex] at fq
       cases fq;obtain⟨vs,T,aT,aW,hle,bZ⟩:=Kb b eR;have az:i<D gK:=(dP.1 G).1;rw[cell_of_row w b i vs T (0,0) aT] at ak;have aa:=bZ.2 i _ v G (by rw[pT az,Array.getElem?_toList];exact ak)
       cases aa with
       |ref fq hgle aa =>
        rw[he] at fq
        cases fq;obtain⟨a,cap,rfl,aP,bt,bU⟩:=aa;refine .ref (hx _ _ _) (bX _) ⟨a,cap,rfl,aP,bt,bU.imp id ?_⟩;rintro⟨ft,rfl,bM⟩;exact⟨ft,rfl,λ_=>bM b2.symm⟩)
      exact⟨bs,h.ghost (ok.trans tC) λt => .inl rfl⟩
     |acV fR g9 gK i k g off cs k' ia G x8 E H af =>
      obtain⟨e,he,b2,aH,ae⟩:=h.ok.dT.at_ x8;have ok:=eH.move h.ok.dT x8 he H;have tB:a1 (a1 lE k (bY lE k) []) k' (bY lE k') cs fR=some (g9,gK):=by simp[a1,Ne.symm E,Ne.symm af,ia]
      obtain⟨ex,hex,aen,hW,Kb⟩:=h.ok.dT.at_ ia
      obtain⟨bs,tC⟩:=Dv (w1:=w) (m':=.ptr k' (bY lE k') off) ok.dT tB G (λaB b v fq eR ak=>by
       rw[hh _ _ (Ne.symm af),hh _ _ (Ne.symm E)] at fq;rw[hex] at fq
       cases fq;obtain⟨vs,T,aT,aW,hle,bZ⟩:=Kb b eR;have az:i<D gK:=(dP.1 G).1;rw[cell_of_row w b i vs T (0,0) aT] at ak;have aa:=bZ.2 i _ v G (by rw[pT az,Array.getElem?_toList];exact ak)
       cases aa with
       |ptr fq hgle aa =>
        rw[he] at fq
        cases fq;obtain⟨ft,rfl,bM⟩:=aa;exact .ptr (hx _ _ _) (bX _) ⟨ft,rfl,λ_=>bM b2.symm⟩)
      exact⟨bs,h.ghost (ok.trans tC) λt => .inl rfl⟩
     |NS fR g9 gK i k g sz off len cs d ia G gp bI Y =>
      have ok:=eH.xV h.ok.dT k;have tB:a1 lE k (bY lE k) [] fR=some (g9,gK):=by simp[a1,Ne.symm bI,ia]
      obtain⟨e,he,b2,aH,ae⟩:=h.ok.dT.at_ ia
      obtain⟨bs,tC⟩:=Dv (w1:=w) (m':=.I d) ok.dT tB G (λaB b v fq eR ak=>by
       rw[hh B _ (Ne.symm bI)] at fq;rw[he] at fq
       cases fq;obtain⟨vs,T,aT,aW,hle,bZ⟩:=ae b eR;have az:i<D gK:=(dP.1 G).1;rw[cell_of_row w b i vs T (0,0) aT] at ak;have aa:=bZ.2 i _ v G (by rw[pT az,Array.getElem?_toList];exact ak);exact .I (J5 h.ok.dT gp Y aa))
      exact⟨bs,h.ghost (ok.trans tC) λt => .inl rfl⟩
    obtain⟨bs,cn⟩:=one;exact aA bs cn
  obtain⟨bs,cn⟩:=main TQ B h;exact⟨_,bs,M,cn⟩
def erase:eA->eA
 |.skip => .skip
 |.ops l => .ops l
 |.nj l c => .nj l c
 |.seq a b => .seq (erase a) (erase b)
 |.cond c a b => .cond c (erase a) (erase b)
 |.block id c => .block id (erase c)
 |.loop c => .loop (erase c)
 |.exit id => .exit id
 |.ret => .ret
 |.ghost _ c=>erase c
def aeo:eY->Exit
 |.normal => .normal
 |.exit id => .exit id
 |.ret => .ret
def aqz (P:Program)(n kb:Nat)(own:List Nat)(c:Code):eA->Prop
 |.skip=>c=.skip
 |.ops l=>∃id ops,c=.region id ops false/\ops.toList.mapM (A8 P n kb own ops)=some l
 |.nj l ch=>∃id ops,c=.region id ops true/\ops.toList.mapM (A8 P n kb own ops)=some l/\FF ops l=true/\ch=zi [] l (qm ops.toList [])
 |.seq x y=>∃a b,c=.seq a b/\qn P n kb own a=some x/\qn P n kb own b=some y
 |.cond x y z=>∃jq a b,c=.cond jq a b/\dH jq=some x/\qn P n kb own a=some y/\qn P n kb own b=some z
 |.block id x=>∃a,c=.block id a/\qn P n kb own a=some x
 |.loop x=>∃a,c=.loop a/\qn P n kb own a=some x
 |.exit id=>c=.exit id
 |.ret=>c=.ret
 |.ghost ..=>False
theorem zw {c:Code}{m:eA}(h:qn P n kb own c=some m):aqz P n kb own c m:=by
 cases c<;>simp only[qn,cm,reduceCtorEq,dY] at h
 case skip=>subst h;rfl
 case region id ops draw =>
  split at h
  ·rename_i l av
   split at h
   ·rename_i Y;subst Y
    split at h
    ·rename_i cR
     cases h;exact⟨id,ops,rfl,av,cR,rfl⟩
    ·cases h
   ·rename_i Y
    cases h;exact⟨id,ops,by rw[Bool.not_eq_true] at Y;rw[Y],av⟩
  ·cases h
 case seq a b =>
  split at h
  ·rename_i x y O ar
   cases h;exact⟨a,b,rfl,O,ar⟩
  ·cases h
 case cond x a b =>
  split at h
  ·rename_i jq y z O ar aW
   cases h;exact⟨x,a,b,rfl,O,ar,aW⟩
  ·cases h
 case block id a =>
  obtain⟨x,O,rfl⟩:=h;exact⟨a,rfl,O⟩
 case loop a =>
  obtain⟨x,O,rfl⟩:=h;exact⟨a,rfl,O⟩
 case exit id=>subst h;rfl
 case ret=>subst h;rfl
theorem Bn (cI:qx P T)(hm:P.follows .mixedOrders=true):∀(Om:eA) (c:Code) (K:eY->ba->Prop) (aL:Exit->Act->World->Prop) (st:ba) (a:Act) (w:World) (B:e5),
  qn P n kb own c=some (erase Om)->hO n A ew hz a st w B->wp T Om K st->(∀e st a w B,K e st->hO n A ew hz a st w B->aL (aeo e) a w)->c.wp P aL a w
 |.ghost g Om,c,K,aL,st,a,w,B,a0,U,h,e2=>by
  obtain⟨dO,bs,M,iX⟩:=aqy U h;exact Bn cI hm Om c K aL dO a w bs a0 iX M e2
 |.skip,c,K,aL,st,a,w,B,a0,U,h,e2=>by
  obtain rfl:=zw a0;exact Go.wp_skip (e2 .normal st a w B h U)
 |.exit id,c,K,aL,st,a,w,B,a0,U,h,e2=>by
  obtain rfl:=zw a0;exact Go.wp_exit (e2 (.exit id) st a w B h U)
 |.ret,c,K,aL,st,a,w,B,a0,U,h,e2=>by
  obtain rfl:=zw a0;exact Go.wp_ret (e2 .ret st a w B h U)
 |.ops l,c,K,aL,st,a,w,B,a0,U,h,e2=>by
  obtain⟨id,ops,rfl,av⟩:=zw a0;have:=TP (aL:=aL) (K:=K .normal) cI av (λst a w B M U=>e2 .normal st a w B M U) l 0 st a w B rfl U h;refine Go.wp_region ?_;rw[(oG av).1,Array.length_toList] at this;rw[List.range_eq_range'];exact this
 |.nj l ch,c,K,aL,st,a,w,B,a0,U,h,e2=>by
  obtain⟨id,ops,rfl,av,Y,rfl⟩:=zw a0;exact aqw cI hm av Y U h λst a w B M U=>e2 .normal st a w B M U
 |.seq x y,c,K,aL,st,a,w,B,a0,U,h,e2=>by
  obtain⟨jq,y',rfl,O,ar⟩:=zw a0;refine Go.wp_seq (Bn cI hm x jq _ _ st a w B O U h λe dO kI aQ bs M iX=>?_)
  cases e with
  |normal=>exact Bn cI hm y y' _ _ dO kI aQ bs ar iX M e2
  |exit id=>exact e2 (.exit id) dO kI aQ bs M iX
  |ret=>exact e2 .ret dO kI aQ bs M iX
 |.cond x y z,c,K,aL,st,a,w,B,a0,U,h,e2=>by
  obtain⟨jq,y',aqA,rfl,O,ar,aW⟩:=zw a0;have ak:=U.tv jq x O;simp only[wp] at h
  split at h
  ·rename_i t bA;rw[bA] at ak;refine Go.wp_cond ak.Dd ?_
   cases t with
   |true=>exact Bn cI hm y y' _ _ st a w B ar U h e2
   |false=>exact Bn cI hm z aqA _ _ st a w B aW U h e2
  ·cases h
 |.block id x,c,K,aL,st,a,w,B,a0,U,h,e2=>by
  obtain⟨jq,rfl,O⟩:=zw a0;refine Go.wp_block (Bn cI hm x jq _ _ st a w B O U h λe dO kI aQ bs M iX=>?_)
  cases e with
  |normal=>exact e2 .normal dO kI aQ bs M iX
  |exit j =>
   simp only[aeo,Exit.inBlock];simp only at M
   split
   ·rename_i ah;rw[ab ah] at M;exact e2 .normal dO kI aQ bs M iX
   ·rename_i ah;rw[ag ah] at M;exact e2 (.exit j) dO kI aQ bs M iX
  |ret=>exact e2 .ret dO kI aQ bs M iX
 |.loop x,c,K,aL,st,a,w,B,a0,U,h,e2=>by
  obtain⟨jq,rfl,O⟩:=zw a0;obtain⟨Db,μ,sk,On⟩:=h
  have key:∀m (st:ba) (a:Act) (w:World) (B:e5),μ st<m->Db st->hO n A ew hz a st w B->Code.rounds P jq aL m a w:=by
   intro m
   induction m with
   |zero=>intro st a w B n2;omega
   |succ m aA =>
    intro st a w B n2 sk U;refine Bn cI hm x jq _ _ st a w B O U (On st sk) λe dO kI aQ bs M iX=>?_
    cases e with
    |normal=>exact aA dO kI aQ bs (by have:=M.2;omega) M.1 iX
    |exit id=>exact e2 (.exit id) dO kI aQ bs M iX
    |ret=>exact e2 .ret dO kI aQ bs M iX
  exact wp_loop_rounds (μ st+1) (key _ st a w B (Nat.lt_succ_self _) sk U)
end Go.Mini
namespace Go.Mini
open Go
variable {P:Program} {T:bb} {A:Nat->Prop} {ew w:World} {hz B:e5} {mem:Mem} {n kb:Nat} {own:List Nat}
theorem aqB {a:Act}{st:ba}{r:ResultVar}{dT:oF}{m:Q}(U:hO n A ew hz a st w B)(a0:FG P r=some dT)(h:Fz st dT=some m):
  ∃v,((match r with
   |.tmp t=>pure (a.tmps.getD t undef)
   |.cell b t=>do loadVar t (<-asAddr (a.tmps.getD b undef)):Sem Value)).run P w=.ok v w/\bq w (cb A B) B m v:=by
 cases r with
 |tmp t =>
  simp only[FG,cm] at a0;subst a0;simp only[Fz,cm] at h;subst h;exact⟨_,rfl,U.tm t⟩
 |cell b t =>
  simp only[FG] at a0
  split at a0
  ·rename_i s g e4 zn;simp only[cm] at a0;subst a0;obtain⟨dz,off,ms,vs,ak,av,bZ,cg,aa⟩:=ac3 U.ok.dT (U.tm b) h;obtain⟨u,E,H⟩:=ac2 (P:=P) e4 zn av bZ cg aa;refine⟨u,?_,H⟩;have:a.tmps.getD b undef=.pointer (some ⟨dz,off,none⟩):=ak;simp only[this,asAddr,Sem.run_bind,Sem.run_pure,Result.andThen_ok];exact E
  ·cases a0
theorem aep {a:Act}{st:ba}(U:hO n A ew hz a st w B):∀{l:List ResultVar} {rs:List oF} {ms:List Q},l.mapM (FG P)=some rs->rs.mapM (Fz st)=some ms ->
  ∃vs:List Value,(l.mapM λr=>((match r with
   |.tmp t=>pure (a.tmps.getD t undef)
   |.cell b t=>do loadVar t (<-asAddr (a.tmps.getD b undef)):Sem Value))).run P w=.ok vs w/\dq w (cb A B) B ms vs
 | [],rs,ms,E,H=>by
  simp at E;subst E;simp at H;subst H;exact⟨[],rfl,dq.nil⟩
 |r::l,rs,ms,E,H=>by
  simp only[lz,hi,hy,er,cm] at E;obtain⟨x,O,xs,Bo,rfl⟩:=E;simp only[lz,hi,hy,er,cm] at H;obtain⟨m,hm,aJv,aN,rfl⟩:=H;obtain⟨v,ak,aa⟩:=aqB U O hm;obtain⟨vs,aR,bZ⟩:=aep U Bo aN;refine⟨v::vs,?_,dq.cons aa bZ⟩;simp only[lz,Sem.run_bind,ak,Result.andThen_ok,aR,Sem.run_pure]
theorem aeq {a:Act}{st:ba}{fn:Func}{rs:List oF}{m:Q}(U:hO n A ew hz a st w B)(a0:fn.results.toList.mapM (FG P)=some rs)(h:pK st rs=some m):
  ∃v,(results fn a.tmps).run P w=.ok v w/\bq w (cb A B) B m v:=by
 unfold pK at h
 have main:∀ms,rs.mapM (Fz st)=some ms->∃vs:List Value,(results fn a.tmps).run P w=.ok (if h:vs.toArray.size=1 then vs.toArray[0] else .tuple vs.toArray) w/\dq w (cb A B) B ms vs:=by
  intro ms aN;obtain⟨vs,E,H⟩:=aep U a0 aN;refine⟨vs,?_,H⟩;unfold results;rw[Array.mapM_eq_mapM_toList,map_eq_pure_bind];simp only[Sem.run_bind,Sem.run_pure];have x9:=E;generalize aO:(List.mapM _ fn.results.toList:Sem (List Value))=q;have:q.run P w=.ok vs w:=by rw[<-aO];exact x9
  rw[this]
  rfl
 split at h
 ·rename_i x aN;simp only[cm] at h;subst h;obtain⟨vs,E,H⟩:=main _ aN;have av:=H.1;simp at av;obtain⟨v,rfl⟩:=aer.1 av;exact⟨v,E,H.2 0 _ v rfl rfl⟩
 ·rename_i ms bI aN;simp only[cm] at h;subst h;obtain⟨vs,E,H⟩:=main _ aN;have av:=H.1;refine⟨_,E,?_⟩
  have:¬ (vs.toArray.size=1):=λh=>by
   have cn:(D ms)=1:=by rw[<-av];simpa using h
   obtain⟨x,rfl⟩:=aer.1 cn;exact bI x rfl
  rw[dif_neg this];exact .cH av H.2
 ·cases h
def TR (mf:bT)(Post:Q->Mem->Prop):eY->ba->Prop
 |.exit _,_=>False
 |_,st=>∃m,pK st mf.res=some m/\Post m st.mem
theorem F7 (cI:qx P T)(hm:P.follows .mixedOrders=true){f:FuncId}{fn:Func}{mf:bT}(aK:P.funcs[f]?=some fn)(a0:sg P kb own fn=some { mf with body:=erase mf.body }){args:List Q}(n0:(D args)<=mf.n)
  {Post:Q->Mem->Prop} {K:eY->ba->Prop} (dN:∀e st,K e st->TR mf Post e st) (h:wp T mf.body K ⟨kr args,mem⟩) {A:Nat->Prop} {w:World} {B:e5} {vs:List Value} (b0:fr A w B mem) (ak:dq w (cb A B) B args vs) :
  Calls P f vs.toArray w λe aQ=>∃v m mem' bs,e=.returned v/\eH A w B aQ bs mem'/\bq aQ (cb A bs) bs m v/\Post m mem':=by
 unfold sg at a0
 split at a0
 ·cases a0
 ·rename_i c ae
  split at a0
  ·rename_i b rs G Bp;simp only[cm,bT.mk.injEq] at a0;obtain⟨aH,aJw,vi,aqC⟩:=a0;have e4:(D vs)=D args:=ak.1;refine calls_of_wp aK ae ?_;rw[aqC] at G;refine Bn cI hm mf.body c K _ ⟨kr args,mem⟩ _ w B G ⟨.refl b0,λs=>?_,?_,rfl⟩ h λe st a aQ bs Dw U=>?_
   ·simp only[kr,Act.eval,Array.getD_eq_getD_getElem?];rcases ir s (D vs) with az|b2
    ·have E:args[s]?=some args[s]:=bu (by omega)
     have H:(vs.toArray++Array.replicate (fn.ntmps-vs.toArray.size) undef)[s]?=some vs[s]:=by
      rw[Array.getElem?_append_left (by simpa using az)];simp[az]
     rw[E,H];exact ak.2 s _ _ E (bu az)
    ·rw[List.getElem?_eq_none (by omega),Array.getElem?_append_right (by simpa using b2)]
     have:((Array.replicate (fn.ntmps-vs.toArray.size) undef)[s-vs.toArray.size]?).getD undef=undef:=by
      cases aO:(Array.replicate (fn.ntmps-vs.toArray.size) undef)[s-vs.toArray.size]? with
      |none=>rfl
      |some u =>
       have:=Array.mem_of_getElem? aO;simp at this;simp[this.2]
     rw[this];exact .no
   ·simp;omega
   ·have M:=dN e st Dw
    cases e with
    |exit id=>cases M
    |normal =>
     obtain⟨m,n2,aF⟩:=M;obtain⟨v,m2,ve⟩:=aeq U Bp (by rw[vi];exact n2);exact⟨U.JY,v,m2,v,m,_,bs,rfl,U.ok,ve,aF⟩
    |ret =>
     obtain⟨m,n2,aF⟩:=M;obtain⟨v,m2,ve⟩:=aeq U Bp (by rw[vi];exact n2);exact⟨U.JY,v,m2,v,m,_,bs,rfl,U.ok,ve,aF⟩
  ·cases a0
inductive eJ where
 |same (r:Data)
 |own (sz:Nat) (es:List (List Data))
def zx (w:World)(aX:Nat->Prop)(ds:List Data)(vs:List Value):Prop:=D vs=D ds/\∀(i:Nat) (d:Data) (v:Value),ds[i]?=some d->vs[i]?=some v->Den w aX d v
def aqD (w aQ:World)(aX:Nat->Prop):eJ->Value->Prop
 |.same r,v=>Den aQ aX r v
 |.own sz es,v=>Bi w aQ aX sz es v
structure tD (P:Program) (f:FuncId) (aS:List Data->Option eJ):Prop where
 real:Real P f
 run:∀ds r,aS ds=some r->∀(A:Nat->Prop) (w:World) (vs:List Value),(∀b,A b->b<w.heap.size)->zx w A ds vs ->
  Calls P f vs.toArray w λe aQ=>∃v,e=.returned v/\Fr (λ_=>False) w aQ/\aqD w aQ A r v
def aes:eJ->Q->Mem->Prop
 |.same r,m,mem=>∃d,cy d mem m=some r
 |.own sz es,m,mem=>(m=.nil/\es=[])\/∃k g len cs ds d,m=.ref k g sz 0 len/\mem k=some (g,cs)/\len*sz<=D cs/\(cs.take (len*sz)).mapM (cy d (kill mem k))=some ds/\es=chunk sz len ds
def ru (sz:Nat)(mem:Mem):Q->Option (List (List Data))
 |.nil=>some []
 |.ref k g ev off len=>if ev=sz/\off=0 then (match mem k with
  |some (c0,cs)=>if c0=g/\len*sz<=(D cs) then ((cs.take (len*sz)).mapM (cy 6 (kill mem k))).map (chunk sz len) else none
  |none=>none) else none
 |_=>none
def zy (res:List oF):eJ->ba->Prop
 |.same r,st=>(pK st res).bind (cy 6 st.mem)=some r
 |.own sz es,st=>(pK st res).bind (ru sz st.mem)=some es
def zz (res:List oF)(r:eJ):eY->ba->Prop
 |.exit _,_=>False
 |.normal,st=>zy res r st
 |.ret,st=>zy res r st
theorem aet {mf:bT}{r:eJ}{st:ba}(h:zy mf.res r st):∃m,pK st mf.res=some m/\aes r m st.mem:=by
 cases r with
 |same r =>
  simp only[zy,er] at h;obtain⟨m,E,H⟩:=h;exact⟨m,E,6,H⟩
 |own sz es =>
  simp only[zy,er] at h;obtain⟨m,E,H⟩:=h;refine⟨m,E,?_⟩
  cases m<;>simp only[ru,cm,reduceCtorEq] at H
  ·exact .inl ⟨rfl,H.symm⟩
  ·split at H
   ·rename_i G;obtain⟨rfl,rfl⟩:=G
    split at H
    ·rename_i c0 cs M
     split at H
     ·rename_i a9;obtain⟨rfl,hle⟩:=a9;simp only[dY] at H;obtain⟨ds,ha,rfl⟩:=H;exact .inr ⟨_,_,_,cs,ds,6,rfl,M,hle,ha,rfl⟩
     ·cases H
    ·cases H
   ·cases H
theorem aqE {mf:bT}{r:eJ}{e:eY}{st:ba}(h:zz mf.res r e st):TR mf (aes r) e st:=by
 cases e with
 |exit id=>exact h
 |normal=>exact aet h
 |ret=>exact aet h
theorem Oo (b:Nat):¬ r8 (λ_=>none) b:=fun⟨_,_,h,_⟩=>by cases h
theorem aqF (cI : qx P T)(hm : P.follows .mixedOrders = true){f : FuncId}{fn : Func}{mf : bT}(aK : P.funcs[f]? = some fn)(tE : (fn.name == "runtime.NumGoroutine") = false)(a0 : sg P kb own fn = some { mf with body := erase mf.body })
  {aS:List Data->Option eJ} (h:∀ds r,aS ds=some r->(D ds)<=mf.n/\wp T mf.body (zz mf.res r) ⟨kr (ds.map .I),emp⟩):tD P f aS:=by
 refine⟨?_,λds r fa A w vs az tu=>?_⟩
 ·cases ae:fn.body with
  |none=>simp[sg,ae] at a0
  |some c=>exact⟨fn,c,aK,ae,tE⟩
 ·obtain⟨hlen,wF⟩:=h ds r fa;have b0:fr A w (λ_=>none) emp:=⟨λ_ _=>rfl,λ_ _ _ _ _ h=>(by cases h),λb _ bL=>Oo b bL,az,λ_ _ _ h=>(by cases h)⟩;have fJ:∀b,cb A (λ_=>none) b->A b:=λb h=>h.elim (λh=>(Oo b h).elim) id;have bZ:dq w (cb A λ_=>none) (λ_=>none) (ds.map .I) vs:=dq.I tu.1 λi d v E H=>(tu.2 i d v E H).less fJ;refine Calls.mono (F7 cI hm aK a0 (by simpa using hlen) (λe st=>aqE) wF b0 bZ) λe aQ he=>?_;obtain⟨v,m,mem',bs,rfl,U,ak,aF⟩:=he;refine⟨v,rfl,⟨U.aE.os,U.aE.tape,U.aE.output,U.aE.size,λg a9 _=>U.aE.block g a9 (Oo g)⟩,?_⟩
  cases r with
  |same r =>
   obtain⟨d,Y⟩:=aF;exact snap U.dT (λb ae=>ae) d m v r Y ak
  |own sz es =>
   rcases aF with ⟨rfl,rfl⟩|⟨k,g,len,cs,Du,d,rfl,M,hle,ha,rfl⟩
   ·cases ak;exact⟨by simp,_,0,rfl,bX _,fs _,.inl rfl⟩
   ·obtain⟨E,H⟩:=oG ha;have TS:(D Du)=len*sz:=by rw[E,gC];omega
    refine⟨N2 sz len Du TS,?_⟩;rw[N1,N3 sz len Du TS]
    cases ak with
    |ref he hgle aa =>
     obtain⟨e,gz,b2,aH,ae⟩:=U.dT.at_ M;rw[gz] at he;obtain rfl:=pN he;obtain⟨a,cap,rfl,af,aP,bt⟩:=aa;refine⟨a,cap,rfl,af,aP,bt.imp id ?_⟩;rintro⟨b,rfl,bU⟩;obtain⟨bM,cf⟩:=bU b2.symm;obtain⟨oJ,aqG,aT,aW,JV,zq⟩:=ae b bM;obtain⟨aqH,j0⟩:=kill_shut U.dT M gz bM;refine⟨b,oJ,aqG,rfl,?_,aT,by simpa [aW] using cf,λi x O=>?_⟩
     ·rcases U.fresh b ⟨k,_,gz,bM⟩ with h|h
      ·exact (Oo b h).elim
      ·exact h
     ·have aeu:i<D Du:=(dP.1 O).1;have k7:i<D cs:=by omega
      have jY:(cs.take (len*sz))[i]?=some cs[i]:=by
       rw[pT (by omega)];exact bu k7
      have J8:i<oJ.size:=by omega
      refine⟨oJ[i],Array.getElem?_eq_getElem J8,snap aqH (λb ae=>ae) d _ _ x (H i _ x jY O) (j0 _ _ (zq.2 i _ _ (bu k7) ?_))⟩;rw[pT k7,Array.getElem?_toList];exact Array.getElem?_eq_getElem J8
def scalar:Data->Bool
 |.int _ _=>true
 |.bool _=>true
 |.str _=>true
 |.u0=>true
 |.u1=>true
 |.X []=>true
 |.cH ds=>ds.attach.all fun⟨d,_⟩=>scalar d
 |.agg ds=>ds.attach.all fun⟨d,_⟩=>scalar d
 |_=>false
theorem aev {aX mq:Nat->Prop}{d:Data}{v:Value}(h:scalar d=true)(Y:Den w aX d v):Den w mq d v:=by
 induction Y with
 |int=>exact .int
 |bool=>exact .bool
 |str=>exact .str
 |u0=>exact .u0
 |u1=>exact .u1
 |lV=>exact .lV
 | @X es b off c sz val av hm ae fJ e4 G Y aA =>
  cases es with
  |nil=>exact .lV
  |cons=>simp[scalar] at h
 |ptr=>simp[scalar] at h
 |fn=>simp[scalar] at h
 | @agg cs vs av Y aA =>
  simp only[scalar,nq,aew,true_imp_iff,Subtype.forall] at h;exact .agg av λi d v E H=>aA i d v E H (h d (eg E))
 | @cH cs vs av Y aA =>
  simp only[scalar,nq,aew,true_imp_iff,Subtype.forall] at h;exact .cH av λi d v E H=>aA i d v E H (h d (eg E))
theorem Oq {aX:Nat->Prop}:∀(d:Nat) (m:Q) (v:Value) (r:Data),cy d emp m=some r->bq w aX B m v->Den w aX r v:=by
 intro d
 induction d with
 |zero =>
  intro m v r h ak
  cases m<;>simp only[cy,cm,reduceCtorEq] at h
  ·subst h;cases ak with|I h=>exact h
  ·subst h;cases ak;exact .lV
 |succ d aA =>
  intro m v r h ak
  have lists:∀(cs:List Q) (vs:List Value) (ds:List Data),cs.mapM (cy d emp)=some ds->(D vs)=(D cs)->(∀(i:Nat) (x:Q) (u:Value),cs[i]?=some x->vs[i]?=some u->bq w aX B x u) ->
    (D vs)=D ds/\∀(i:Nat) (x:Data) (u:Value),ds[i]?=some x->vs[i]?=some u->Den w aX x u:=by
   intro cs vs ds ha av aa;obtain⟨E,H⟩:=oG ha;refine⟨by omega,λi x u O hu=>?_⟩
   have az:i<D cs:=by have:=(dP.1 O).1;omega
   have jY:=bu az;exact aA _ u x (H i _ x jY O) (aa i _ u jY hu)
  cases m<;>simp only[cy,emp,cm,dY,reduceCtorEq] at h
  case I=>subst h;cases ak with|I h=>exact h
  case nil=>subst h;cases ak;exact .lV
  case fA f cs =>
   obtain⟨ds,ha,rfl⟩:=h
   cases ak with
   |fA av Y=>obtain⟨E,H⟩:=lists _ _ _ ha av Y;exact .fn E H
  case agg cs =>
   obtain⟨ds,ha,rfl⟩:=h
   cases ak with
   |agg av Y=>obtain⟨E,H⟩:=lists _ _ _ ha av Y;exact .agg E H
  case cH cs =>
   obtain⟨ds,ha,rfl⟩:=h
   cases ak with
   |cH av Y=>obtain⟨E,H⟩:=lists _ _ _ ha av Y;exact .cH E H
def Ot:eJ->g8
 |.same r => .same r
 |.own sz es => .own sz es
def wG:eJ->Option g8
 |.same r=>if scalar r=true then some (.same r) else none
 |.own sz es=>if (es.all λe=>e.all scalar)=true then some (.own sz es) else none
def Ou (aS:List Data->Option eJ):Option (List Data)->Option g8
 |some ds=>(aS ds).bind wG
 |none=>none
def F8 (aS:List Data->Option eJ):Option (List Data)->Option (List Data)->Option g8
 |some ds,_=>(aS ds).map Ot
 |none,x=>Ou aS x
def aV (aS:List Data->Option eJ)(args:List Q)(mem:Mem):Option g8:=F8 aS (args.mapM (cy 6 emp)) (args.mapM (cy 6 mem))
def Bq (l1:FuncId->Option (List Data->Option eJ)):bb:=λf args mem=>match l1 f with
 |some aS=>aV aS args mem
 |none=>none
theorem aex {aX:Nat->Prop}{g:Q->Option Data}{args:List Q}{ds:List Data}{vs:List Value}(h:args.mapM g=some ds)(ak:dq w aX B args vs){mq:Nat->Prop}(Y:∀m v r,g m=some r->bq w aX B m v->Den w mq r v):zx w mq ds vs:=by
 obtain⟨E,H⟩:=oG h;refine⟨by rw[ak.1,E],λi d v nn lA=>?_⟩
 have az:i<D args:=by have:=(dP.1 nn).1;omega
 have Br:=bu az;exact Y _ v d (H i _ d Br nn) (ak.2 i _ v Br lA)
theorem aey {l1:FuncId->Option (List Data->Option eJ)}(h:∀f aS,l1 f=some aS->tD P f aS):qx P (Bq l1):=by
 intro f args mem pf ix;unfold Bq at ix
 split at ix
 ·rename_i aS fa;have jH:=h f aS fa;refine⟨jH.real,λA w B vs b0 ak=>?_⟩;unfold aV at ix
  cases ha:args.mapM (cy 6 emp) with
  |some ds =>
   rw[ha] at ix;simp only[F8,dY] at ix;obtain⟨r,aa,rfl⟩:=ix;have G:=jH.run ds r aa (cb A B) w vs (λb ae=>ae.elim (λh=>b0.xN h) (b0.lt b)) (aex ha ak λm v r=>Oq 6 m v r)
   cases r with
   |same r=>exact G
   |own sz es=>exact G
  |none =>
   rw[ha] at ix;simp only[F8] at ix
   cases ha:args.mapM (cy 6 mem) with
   |none=>rw[ha] at ix;cases ix
   |some ds =>
    rw[ha] at ix;simp only[Ou,er] at ix;obtain⟨r,aa,av⟩:=ix;have G:=jH.run ds r aa (λ_=>False) w vs (λb ae=>ae.elim) (aex ha ak λm v r h ak=>snap b0 (λb ae=>ae.elim) 6 m v r h ak)
    cases r with
    |same r =>
     simp only[wG] at av
     split at av
     ·rename_i U
      cases av;exact Calls.mono G λe aQ ⟨v,he,bW,Y⟩=>⟨v,he,bW,aev U Y⟩
     ·cases av
    |own sz es =>
     simp only[wG] at av
     split at av
     ·rename_i U
      cases av;refine Calls.mono G λe aQ ⟨v,he,bW,Y⟩=>⟨v,he,bW,?_⟩;obtain⟨E,a,cap,H,af,aP,bt⟩:=Y;refine⟨E,a,cap,H,af,aP,bt.imp id ?_⟩;rintro⟨b,vs,T,bU,bM,cf,jt,gu⟩;refine⟨b,vs,T,bU,bM,cf,jt,λi d Y=>?_⟩;obtain⟨u,hu,tu⟩:=gu i d Y;refine⟨u,hu,aev ?_ tu⟩;have hm:=eg Y;rw[List.mem_flatten] at hm;obtain⟨e,he,aqI⟩:=hm;rw[nq] at U;have:=U e he;rw[nq] at this;exact this d aqI
     ·cases av
 ·cases ix
end Go.Mini
namespace Go.Mini
open Go
def F9 {ι:Type}(T:bb)(c9:ι->ba->Prop)(m:ι->Nat)(i:ι)(K:eY->ba->Prop)(k:List gD):eY->ba->Prop
 |.normal,st=>∃bk,m bk<m i/\c9 bk st
 |.exit id,st=>cB T K k (.exit id) st
 |.ret,st=>cB T K k .ret st
@[go_sem] theorem aJx {ι:Type}(T:bb)(c9:ι->ba->Prop)(m:ι->Nat)(i:ι)(K:eY->ba->Prop)(k:List gD)(id:Nat)(st:ba):F9 T c9 m i K k (.exit id) st=cB T K k (.exit id) st:=bw
@[go_sem] theorem aJy {ι:Type}(T:bb)(c9:ι->ba->Prop)(m:ι->Nat)(i:ι)(K:eY->ba->Prop)(k:List gD)(st:ba):F9 T c9 m i K k .ret st=cB T K k .ret st:=bw
@[go_sem] theorem aqJ {ι:Type}(T:bb)(c9:ι->ba->Prop)(m:ι->Nat)(i:ι)(K:eY->ba->Prop)(k:List gD)(st:ba):F9 T c9 m i K k .normal st=∃bk,m bk<m i/\c9 bk st:=bw
open Classical in
theorem aqK {ι:Type}{T:bb}{K:eY->ba->Prop}{k:List gD}{st:ba}{c:eA}(c9:ι->ba->Prop)(m:ι->Nat)(i0:ι)(ao:c9 i0 st)(h:∀i st,c9 i st->wp T c (cB T (F9 T c9 m i K k) []) st):
  wp T (.loop c) (cB T K k) st:=by
 have least:∀st,(∃i,c9 i st)->∃i,c9 i st/\∀j,c9 j st->m i<=m j:=by
  intro st ⟨i,J⟩
  have:∀n i,m i=n->c9 i st->∃i,c9 i st/\∀j,c9 j st->m i<=m j:=by
   intro n
   induction n using TT with
   |_ n aA =>
    intro i aH J
    by_cases O:∃j,c9 j st/\m j<m i
    ·obtain⟨j,ah,az⟩:=O;exact aA (m j) (by omega) j rfl ah
    ·refine⟨i,J,λj ah=>?_⟩;rcases ir (m j) (m i) with cn|cn
     ·exact absurd ⟨j,ah,cn⟩ O
     ·exact cn
  exact this _ i rfl J
 refine⟨λst=>∃i,c9 i st,λst=>if O:∃i,c9 i st then m (tF (least st O)) else 0,⟨i0,ao⟩,λst dy=>?_⟩;have jI:=ph (least st dy);have:=h _ st jI.1
 have M:cB T (F9 T c9 m (tF (least st dy)) K k) []=λe dO=>match e with
   |.normal=>(∃i,c9 i dO)/\(if O:∃i,c9 i dO then m (tF (least dO O)) else 0)<(if O:∃i,c9 i st then m (tF (least st O)) else 0)
   |e=>cB T K k e dO:=by
  funext e dO
  cases e with
  |normal =>
   simp only[apz,aqJ];apply propext
   constructor
   ·rintro⟨bk,az,ah⟩;have hex:∃i,c9 i dO:=⟨bk,ah⟩;refine⟨hex,?_⟩;rw[dif_pos hex,dif_pos dy];have:=(ph (least dO hex)).2 bk ah;omega
   ·rintro⟨hex,az⟩;rw[dif_pos hex,dif_pos dy] at az;exact⟨_,az,(ph (least dO hex)).1⟩
  |exit id=>rfl
  |ret=>rfl
 rw[M] at this;exact this
section
variable {aS:List Data->Option eJ} {mem:Mem} {st:ba} {res:List oF}
@[go_sem] theorem aJz (ds:List Data)(x:Option (List Data)):F8 aS (some ds) x=(aS ds).map Ot:=bw
@[go_sem] theorem aJA (x:Option (List Data)):F8 aS none x=Ou aS x:=bw
@[go_sem] theorem aJB (ds:List Data):Ou aS (some ds)=(aS ds).bind wG:=bw
@[go_sem] theorem aJC (r:Data):Ot (.same r)=.same r:=bw
@[go_sem] theorem aJD (sz:Nat)(es:List (List Data)):Ot (.own sz es)=.own sz es:=bw
@[go_sem] theorem aJE (r:Data):wG (.same r)=if scalar r=true then some (.same r) else none:=bw
@[go_sem] theorem Ov (n:Nat)(d:Data):cy n mem (.I d)=some d:=by cases n<;>rfl
@[go_sem] theorem aqL (n:Nat):cy n mem .nil=some (.X []):=by cases n<;>rfl
@[go_sem] theorem aJF (n:Nat)(cs:List Q):cy (n+1) mem (.agg cs)=(cs.mapM (cy n mem)).map .agg:=bw
@[go_sem] theorem aJG (n:Nat)(cs:List Q):cy (n+1) mem (.cH cs)=(cs.mapM (cy n mem)).map .cH:=bw
@[go_sem] theorem aqM (n:Nat)(f:FuncId)(cs:List Q):cy (n+1) mem (.fA f cs)=(cs.mapM (cy n mem)).map (.fn f):=bw
@[go_sem] theorem aJH (r:eJ)(id:Nat):zz res r (.exit id) st=False:=bw
@[go_sem] theorem aJI (r:eJ):zz res r .ret st=zy res r st:=bw
@[go_sem] theorem aJJ (r:eJ):zz res r .normal st=zy res r st:=bw
@[go_sem] theorem aJK (r:Data):zy res (.same r) st=((pK st res).bind (cy 6 st.mem)=some r):=bw
@[go_sem] theorem aJL (sz:Nat)(es:List (List Data)):zy res (.own sz es) st=((pK st res).bind (ru sz st.mem)=some es):=bw
end
@[go_sem] theorem aJM (x:Bool):N6 (.I (.bool x)) true=some x:=by cases x<;>rfl
@[go_sem] theorem aJN (x:Bool):N6 (.I (.bool x)) false=some (!x):=by cases x<;>rfl
attribute [go_sem] eC cS List.getElem?_cons_zero List.getElem?_cons_succ h8 k9 l2 wH mH la mB Option.map_none kH
 lz Ga hi hy jv j1 List.drop_succ_cons List.drop_nil List.take_nil cP du vj sl l3 pj zA g1 iZ fB Gb List.all_nil true_and and_true k0 bne
section
variable {T:bb} {K:eY->ba->Prop} {k:List gD} {st:ba}
theorem aqN {x:Bool}{i:c6}{r:List c6}(E:x=false->rm T K k (some true) i r st)(H:x=true->rm T K k (some false) i r st):rm T K k (some (!x)) i r st:=by
 cases x
 ·exact E rfl
 ·exact H rfl
theorem aqO {x:Bool}{i:c6}{r:List c6}(E:x=true->rm T K k (some true) i r st)(H:x=false->rm T K k (some false) i r st):rm T K k (some x) i r st:=by
 cases x
 ·exact H rfl
 ·exact E rfl
theorem aqP {x:Bool}{n:Nat}{i:c6}{r:List c6}{c:List (List Nat)}{rec:Rec}(E:x=false->rn T K k n (some true) i r c rec st)(H:x=true->rn T K k n (some false) i r c rec st):rn T K k n (some (!x)) i r c rec st:=by
 cases x
 ·exact E rfl
 ·exact H rfl
theorem aqQ {x:Bool}{n:Nat}{i:c6}{r:List c6}{c:List (List Nat)}{rec:Rec}(E:x=true->rn T K k n (some true) i r c rec st)(H:x=false->rn T K k n (some false) i r c rec st):rn T K k n (some x) i r c rec st:=by
 cases x
 ·exact H rfl
 ·exact E rfl
theorem aqR {x:Bool}{a b:eA}(E:x=false->qw T K k (.I (.bool true)) a b st)(H:x=true->qw T K k (.I (.bool false)) a b st):qw T K k (.I (.bool (!x))) a b st:=by
 cases x
 ·exact E rfl
 ·exact H rfl
theorem aqS {x:Bool}{a b:eA}(E:x=true->qw T K k (.I (.bool true)) a b st)(H:x=false->qw T K k (.I (.bool false)) a b st):qw T K k (.I (.bool x)) a b st:=by
 cases x
 ·exact H rfl
 ·exact E rfl
end
class Dx (bN:Prop) (A B:outParam Prop):Prop where
 go:A->B->bN
theorem ax {bN A B:Prop}[s:Dx bN A B](a:A)(b:B):bN:=s.go a b
theorem aY {bN:Prop}(h:true=true->bN):bN:=h rfl
instance {T K k i r st} {x:Bool}:Dx (rm T K k (some x) i r st) (x=true->rm T K k (some true) i r st) (x=false->rm T K k (some false) i r st):=⟨aqO⟩
instance {T K k i r st} {x:Bool}:Dx (rm T K k (some (!x)) i r st) (x=false->rm T K k (some true) i r st) (x=true->rm T K k (some false) i r st):=⟨aqN⟩
instance {T K k st a b} {x:Bool}:Dx (qw T K k (.I (.bool x)) a b st) (x=true->qw T K k (.I (.bool true)) a b st) (x=false->qw T K k (.I (.bool false)) a b st):=⟨aqS⟩
instance {T K k st a b} {x:Bool}:Dx (qw T K k (.I (.bool (!x))) a b st) (x=false->qw T K k (.I (.bool true)) a b st) (x=true->qw T K k (.I (.bool false)) a b st):=⟨aqR⟩
instance {T K k n i r c rec st} {x:Bool}:Dx (rn T K k n (some x) i r c rec st) (x=true->rn T K k n (some true) i r c rec st) (x=false->rn T K k n (some false) i r c rec st):=⟨aqQ⟩
instance {T K k n i r c rec st} {x:Bool}:Dx (rn T K k n (some (!x)) i r c rec st) (x=false->rn T K k n (some true) i r c rec st) (x=true->rn T K k n (some false) i r c rec st):=⟨aqP⟩
attribute [go_sem] reduceIte Nat.reduceEqDiff Nat.reduceAdd Nat.reduceSub Nat.reduceMul Nat.reduceLeDiff reduceCtorEq Nat.reduceLT Nat.reduceBEq Int.reduceEq
attribute [go_sem] k0
def Kc {ι:Type}(T:bb)(gZ:List Nat)(qy:List Key)(vs:List Q)(ms:List (Option (Nat×List Q)))(c9:ι->(Nat->Q)->Mem->Prop)(m:ι->Nat)(i:ι)(K:eY->ba->Prop)(k:List gD):eY->ba->Prop
 |.normal,st=>∃bk,m bk<m i/\gZ.map st.tm=vs/\qy.map st.mem=ms/\c9 bk st.tm st.mem
 |.exit id,st=>cB T K k (.exit id) st
 |.ret,st=>cB T K k .ret st
section
variable {ι:Type} (T:bb) (gZ:List Nat) (qy:List Key) (vs:List Q) (ms:List (Option (Nat×List Q))) (c9:ι->(Nat->Q)->Mem->Prop) (m:ι->Nat) (i:ι) (K:eY->ba->Prop) (k:List gD)
@[go_sem] theorem aJO (id:Nat)(st:ba):Kc T gZ qy vs ms c9 m i K k (.exit id) st=cB T K k (.exit id) st:=bw
@[go_sem] theorem aJP (st:ba):Kc T gZ qy vs ms c9 m i K k .ret st=cB T K k .ret st:=bw
@[go_sem] theorem aJQ (st:ba):Kc T gZ qy vs ms c9 m i K k .normal st=∃bk,m bk<m i/\gZ.map st.tm=vs/\qy.map st.mem=ms/\c9 bk st.tm st.mem:=bw
end
theorem dm {ι:Type}{T:bb}{K:eY->ba->Prop}{k:List gD}{Gc:Nat->Q}{eD:Mem}{c:eA}(gZ:List Nat)(qy:List Key)(c9:ι->(Nat->Q)->Mem->Prop)(m:ι->Nat)(i0:ι)(ao:c9 i0 Gc eD)
  (h:∀vs ms,gZ.map Gc=vs->qy.map eD=ms->∀i tm mem,gZ.map tm=vs->qy.map mem=ms->c9 i tm mem->wp T c (cB T (Kc T gZ qy vs ms c9 m i K k) []) ⟨tm,mem⟩) :
  wp T (.loop c) (cB T K k) ⟨Gc,eD⟩:=by
 refine aqK (λi st=>gZ.map st.tm=gZ.map Gc/\qy.map st.mem=qy.map eD/\c9 i st.tm st.mem) m i0 ⟨rfl,rfl,ao⟩ ?_;rintro i ⟨tm,mem⟩ ⟨E,H,af⟩;have:=h _ _ rfl rfl i tm mem E H af
 have M:cB T (Kc T gZ qy (gZ.map Gc) (qy.map eD) c9 m i K k) []=cB T (F9 T (λi (st:ba)=>gZ.map st.tm=gZ.map Gc/\qy.map st.mem=qy.map eD/\c9 i st.tm st.mem) m i K k) []:=by
  funext e dO
  cases e<;>rfl
 rw[M] at this;exact this
theorem wp_mono {T:bb}:∀(c:eA) (K jw:eY->ba->Prop),(∀e st,K e st->jw e st)->∀st,wp T c K st->wp T c jw st:=by
 intro c
 induction c with
 |skip=>exact λK jw h st=>h _ _
 |ops l =>
  intro K jw h st hw
  have:∀(l:List c6) (K jw:ba->Prop),(∀st,K st->jw st)->∀st,xQ T K l st->xQ T jw l st:=by
   intro l
   induction l with
   |nil=>exact λK jw h st=>h st
   |cons i r aA =>
    intro K jw h st hw;unfold xQ at hw ⊢
    split
    ·rename_i a9;rw[a9] at hw;exact hw
    ·rename_i g a9;rw[a9] at hw;simp only at hw ⊢
     split
     ·rename_i gr;rw[ab gr] at hw
      have rl:∀(K jw:ba->Prop),(∀st,K st->jw st)->gA T K i st->gA T jw i st:=by
       intro K jw h hw
       have G:∀d f args,u4 T K st d f args->u4 T jw st d f args:=by
        intro d f args hw;unfold u4 at hw ⊢
        split
        ·rename_i aT;rw[aT] at hw;exact h _ hw
        ·rename_i aT;rw[aT] at hw;exact h _ hw
        ·rename_i aT;rw[aT] at hw;exact λr mem' aa=>h _ (hw r mem' aa)
        ·rename_i aT;rw[aT] at hw;exact h _ hw
        ·rename_i aT;rw[aT] at hw;exact h _ hw
        ·rename_i aT;rw[aT] at hw;exact hw
       unfold gA at hw ⊢
       split
       ·rename_i aT;rw[aT] at hw;exact G _ _ _ hw
       ·rename_i aT;rw[aT] at hw
        simp only at hw
        split
        ·rename_i pa;rw[pa] at hw
         simp only at hw
         split
         ·rename_i U;rw[ab U] at hw;exact h _ hw
         ·rename_i U;rw[ag U] at hw;exact hw
        ·rename_i pa
         split at hw
         ·rename_i ev es TU;exact (pa ev es TU).elim
         ·exact hw
       ·rename_i aT;rw[aT] at hw
        simp only at hw
        split
        ·rename_i pa;rw[pa] at hw;exact G _ _ _ hw
        ·rename_i pa;rw[pa] at hw;exact G _ _ _ hw
        ·rename_i pa TU
         split at hw
         ·rename_i TV;exact (pa _ _ TV).elim
         ·rename_i TV;exact (TU _ _ TV).elim
         ·exact hw
       ·rename_i aT;rw[aT] at hw
        simp only at hw
        split
        ·rename_i pa;rw[pa] at hw;exact λb ae=>h _ (hw b ae)
        ·rename_i pa;rw[pa] at hw;exact hw
       ·rename_i E H af aP
        split at hw
        ·rename_i aT;exact (E _ _ aT).elim
        ·rename_i aT;exact (H _ _ _ _ aT).elim
        ·rename_i aT;exact (af _ _ aT).elim
        ·rename_i aT;exact (aP _ _ aT).elim
        ·split
         ·rename_i aT;rw[aT] at hw;exact h _ hw
         ·rename_i aT;rw[aT] at hw;exact hw
      exact rl _ _ (aA _ _ h) hw
     ·rename_i gr;rw[ag gr] at hw;exact aA _ _ h _ hw
  exact this l _ _ (λst=>h .normal st) st hw
 |nj l c =>
  intro K jw h st hw
  have:∀(l:List c6) (n:Nat) (cs:List (List Nat)) (rec:Rec) (K jw:ba->Prop),(∀st,K st->jw st)->∀st,wv T K n l cs rec st->wv T jw n l cs rec st:=by
   intro l
   induction l with
   |nil=>exact λn cs rec K jw h st=>h st
   |cons i r aA =>
    intro n cs rec K jw h st hw;unfold wv at hw ⊢
    split
    ·rename_i a9;rw[a9] at hw;exact hw
    ·rename_i g a9;rw[a9] at hw;simp only at hw ⊢
     split
     ·rename_i gr;rw[ab gr] at hw
      split
      ·rename_i m e U;rw[U] at hw;exact⟨hw.1,aA _ _ _ _ _ h _ hw.2⟩
      ·rename_i U;rw[U] at hw;exact hw
     ·rename_i gr;rw[ag gr] at hw;exact aA _ _ _ _ _ h _ hw
  exact this l 0 c _ _ _ (λst=>h .normal st) st hw
 |seq a b iha ihb =>
  intro K jw h st hw;refine iha _ _ (λe dO aT=>?_) st hw
  cases e with
  |normal=>exact ihb _ _ h _ aT
  |exit id=>exact h _ _ aT
  |ret=>exact h _ _ aT
 |cond c a b iha ihb =>
  intro K jw h st hw;unfold wp at hw ⊢
  split
  ·rename_i t G;rw[G] at hw;simp only at hw
   split
   ·rename_i bA;rw[ab bA] at hw;exact iha _ _ h _ hw
   ·rename_i bA;rw[ag bA] at hw;exact ihb _ _ h _ hw
  ·rename_i O
   split at hw
   ·rename_i G;exact (O _ G).elim
   ·exact hw
 |block id c aA =>
  intro K jw h st hw;refine aA _ _ (λe dO aT=>?_) st hw
  cases e with
  |normal=>exact h _ _ aT
  |exit j =>
   simp only at aT ⊢
   split
   ·rename_i ah;rw[ab ah] at aT;exact h _ _ aT
   ·rename_i ah;rw[ag ah] at aT;exact h _ _ aT
  |ret=>exact h _ _ aT
 |loop c aA =>
  intro K jw h st hw;obtain⟨Db,μ,ao,sk⟩:=hw;refine⟨Db,μ,ao,λst dy=>aA _ _ (λe dO aT=>?_) _ (sk st dy)⟩
  cases e with
  |normal=>exact aT
  |exit id=>exact h _ _ aT
  |ret=>exact h _ _ aT
 |exit id=>exact λK jw h st=>h _ _
 |ret=>exact λK jw h st=>h _ _
 |ghost g c aA =>
  intro K jw h st hw
  have:∀(K jw:ba->Prop),(∀st,K st->jw st)->ly K st g->ly jw st g:=by
   intro K jw h hw;unfold ly at hw
   repeat' split at hw
   all_goals first
    |exact hw.elim
    |exact⟨hw.choose,hw.choose_spec.1,h _ hw.choose_spec.2⟩
    |(
      rcases hw with hw|⟨fR,g9,gK,i,k,g,sz,off,len,cs,k',E,H,af,aP,bt,bU,hw⟩|⟨fR,g9,gK,i,k,g,sz,off,len,cs,d,E,H,af,aP,bt,bU,hw⟩
      ·exact .inl (h _ hw)
      ·exact .inr (.inl ⟨fR,g9,gK,i,k,g,sz,off,len,cs,k',E,H,af,aP,bt,bU,h _ hw⟩)
      ·exact .inr (.inr ⟨fR,g9,gK,i,k,g,sz,off,len,cs,d,E,H,af,aP,bt,bU,h _ hw⟩))
    |(
      have cn:=h _ hw;clear hw h;unfold ly
      simp_all)
  exact this _ _ (aA _ _ h) hw
def Gd (T:bb)(K:eY->ba->Prop)(k:List gD)(aL:ba->Prop):eY->ba->Prop
 |.normal,st=>aL st
 |.exit id,st=>cB T K k (.exit id) st
 |.ret,st=>cB T K k .ret st
@[go_sem] theorem aJR {T:bb}{K:eY->ba->Prop}{k:List gD}{aL:ba->Prop}(st:ba):Gd T K k aL .normal st=aL st:=bw
@[go_sem] theorem aJS {T:bb}{K:eY->ba->Prop}{k:List gD}{aL:ba->Prop}(id:Nat)(st:ba):Gd T K k aL (.exit id) st=cB T K k (.exit id) st:=bw
@[go_sem] theorem aJT {T:bb}{K:eY->ba->Prop}{k:List gD}{aL:ba->Prop}(st:ba):Gd T K k aL .ret st=cB T K k .ret st:=bw
theorem aez {T:bb}{K:eY->ba->Prop}{k:List gD}{c a:eA}{st:ba}(aL:ba->Prop)(aM:wp T a (cB T (Gd T K k aL) []) st)(G:∀dO,aL dO->wp T c (cB T K k) dO):wp T a (cB T K (.code c::k)) st:=by
 refine wp_mono a _ _ (λe dO aT=>?_) st aM
 cases e with
 |normal=>exact G dO aT
 |exit id=>exact aT
 |ret=>exact aT
theorem aqT {T:bb}{K:eY->ba->Prop}{k:List gD}{x:Bool}{c a b:eA}{st:ba}(aL:ba->Prop)(aM:x=true->wp T a (cB T (Gd T K k aL) []) st)(ae:x=false->wp T b (cB T (Gd T K k aL) []) st)
  (G:∀dO,aL dO->wp T c (cB T K k) dO):qw T K (.code c::k) (.I (.bool x)) a b st:=by
 cases x
 ·rw[apB];exact aez aL (ae rfl) G
 ·rw[apA];exact aez aL (aM rfl) G
attribute [go_sem] beq_true beq_false Bool.true_beq Bool.false_beq jP List.flatten_nil fG List.headD_cons List.headD_nil List.tail_cons List.tail_nil List.contains_nil List.contains_cons Bool.not_eq_true'
section
variable {T:bb} {K:eY->ba->Prop} {k:List gD} {st:ba}
@[go_sem] theorem aJU (g:NI)(c:eA):wp T (.ghost g c) (cB T K k) st=ly (wp T c (cB T K k)) st g:=bw
def TW (K:ba->Prop)(st:ba)(s k sz:Nat):Q->Prop
 |.nil=>K ⟨e6 st.tm s (.ref k (bY st.mem k) sz 0 0),a1 st.mem k (bY st.mem k) []⟩
 |_=>False
@[go_sem] theorem aJV (K:ba->Prop)(s k sz:Nat):ly K st (.oE s k sz)=TW K st s k sz (st.tm s):=by
 unfold ly TW;rfl
@[go_sem] theorem aJW (K:ba->Prop)(s k sz:Nat):TW K st s k sz .nil=K ⟨e6 st.tm s (.ref k (bY st.mem k) sz 0 0),a1 st.mem k (bY st.mem k) []⟩:=bw
end
section
variable {K:ba->Prop} {st:ba}
theorem aqU (fR i k k':Nat){g9:Nat}{gK:List Q}{g sz off len:Nat}{cs:List Q}(E:st.mem fR=some (g9,gK))(H:gK[i]?=some (.ref k g sz off len))(af:st.mem k=some (g,cs))(aP:k≠fR)(bt:k'≠k)(bU:k'≠fR)
  (h:K ⟨st.tm,a1 (a1 (a1 st.mem k (bY st.mem k) []) k' (bY st.mem k') cs) fR g9 (gK.set i (.ref k' (bY st.mem k') sz off len))⟩):ly K st .move :=
 .inr (.inl ⟨fR,g9,gK,i,k,g,sz,off,len,cs,k',E,H,af,aP,bt,bU,h⟩)
def Bs (K:ba->Prop)(st:ba)(s k g sz off len:Nat):Option (Nat×List Q)->Prop
 |some (c0,cs)=>if c0=g/\nU cs=true then (match cut cs off (len*sz) with
  |some part=>(match part.mapM (cy 0 st.mem) with
   |some ds=>K ⟨e6 st.tm s (.I (.X (chunk sz len ds))),kill st.mem k⟩
   |none=>False)
  |none=>False) else False
 |none=>False
def TX (K:ba->Prop)(st:ba)(s:Nat):Q->Prop
 |.ref k g sz off len=>Bs K st s k g sz off len (st.mem k)
 |_=>False
@[go_sem] theorem aJX (s:Nat):ly K st (.freeze s)=TX K st s (st.tm s):=by
 unfold ly TX;dsimp only
 cases hm:st.tm s with
 |ref k g sz off len=>?_
 |_=>rfl
 dsimp only;unfold Bs
 cases M:st.mem k with
 |none=>rfl
 |some x =>
  obtain⟨c0,cs⟩:=x;simp only
  by_cases G:c0=g/\nU cs=true
  ·rw[ab G,ab G];unfold cy;rw[M];simp only[G.1,if_true]
   cases xY:cut cs off (len*sz) with
   |none=>rfl
   |some part =>
    simp only
    cases aF:part.mapM (cy 0 st.mem)<;>rfl
  ·rw[ag G,ag G]
@[go_sem] theorem aJY (s k g sz off len:Nat):TX K st s (.ref k g sz off len)=Bs K st s k g sz off len (st.mem k):=bw
@[go_sem] theorem aJZ (mem:Mem)(k:Key):kill mem k=a1 mem k (bY mem k) []:=bw
end
open Classical in
def cj {α:Type}(wI:α->List Data)(f:α->Option eJ):List Data->Option eJ:=λds=>if h:∃a,wI a=ds then f (tF h) else none
theorem cu {α:Type}{wI:α->List Data}{f:α->Option eJ}(inj:∀a b,wI a=wI b->a=b)(a:α):cj wI f (wI a)=f a:=by
 have h:∃b,wI b=wI a:=⟨a,rfl⟩;unfold cj;rw[dif_pos h,inj _ _ (ph h)]
theorem aqV {α:Type}{wI:α->List Data}{f:α->Option eJ}{ds:List Data}{r:eJ}(h:cj wI f ds=some r):∃a,ds=wI a/\f a=some r:=by
 unfold cj at h
 split at h
 ·rename_i O;exact⟨_,(ph O).symm,h⟩
 ·cases h
open Classical in
def cN (c:Prop)(r:eJ):Option eJ:=if c then some r else none
theorem cT {c:Prop}(h:c)(r:eJ):cN c r=some r:=by unfold cN;rw[ab h]
@[go_sem] theorem aJ0 (aS:List Data->Option eJ)(args:List Q)(mem:Mem):aV aS args mem=F8 aS (args.mapM (cy 6 emp)) (args.mapM (cy 6 mem)):=bw
theorem map_inj {α β:Type}{f:α->β}(h:∀a b,f a=f b->a=b):∀(l fS:List α),l.map f=fS.map f->l=fS:=by
 intro l
 induction l with
 |nil=>intro fS e;cases fS<;>simp_all
 |cons a r aA =>
  intro fS e
  cases fS with
  |nil=>simp at e
  |cons b FH =>
   simp only[eC,a6] at e;rw[h _ _ e.1,aA _ e.2]
def Ow (l:List (FuncId×(List Data->Option eJ))):FuncId->Option (List Data->Option eJ):=λf=>(l.find? λp=>p.1==f).map (·.2)
theorem rv {P:Program}{l:List (FuncId×(List Data->Option eJ))}(h:∀p∈l,tD P p.1 p.2):∀f aS,Ow l f=some aS->tD P f aS:=by
 intro f aS aK;unfold Ow at aK;rw[dY] at aK;obtain⟨p,aF,rfl⟩:=aK;have E:=List.mem_of_find?_eq_some aF;have H:=List.find?_some aF;have af:p.1=f:=by simpa using H
 exact af ▸ h p E
theorem b8 {P:Program}:∀p∈([]:List (FuncId×(List Data->Option eJ))),tD P p.1 p.2:=by simp
theorem a4 {P:Program}{f:FuncId}{aS:List Data->Option eJ}{l:List (FuncId×(List Data->Option eJ))}(h:tD P f aS)(av:∀p∈l,tD P p.1 p.2):∀p∈(f,aS)::l,tD P p.1 p.2:=by
 intro p aF;rcases hP.1 aF with rfl|aF
 ·exact h
 ·exact av p aF
theorem aeA {l1:FuncId->Option (List Data->Option eJ)}{f:FuncId}{aS:List Data->Option eJ}(h:l1 f=some aS):Bq l1 f=aV aS:=by
 funext args mem
 unfold Bq;rw[h]
@[go_sem] theorem aJ1 (mem:Mem)(k:Key)(z:List Q)(b m:Nat)(new:List Q):ra mem k z b .nil (some (m,new)) =
  if m*b<=140737488355328/\m<=maxLen/\new.all Q.one=true then some (.ref k (bY mem k) (D z) 0 m,some (k,bY mem k,new)) else none:=bw
@[go_sem] theorem aJ2 (mem:Mem)(k k':Key)(z:List Q)(g sz b len m:Nat)(new:List Q):ra mem k z b (.ref k' g sz 0 len) (some (m,new)) =
  if sz=(D z) then mw k' g sz len b m new (mem k') else none:=by
 unfold ra;simp
def a8 {α:Type}(enc:α->List Data)(l:List α):List Q:=(l.map enc).flatten.map .I
section
variable {α:Type} {enc:α->List Data} {sz:Nat}
theorem aqW:a8 enc []=[]:=rfl
theorem ya (a:α)(l:List α):a8 enc (a::l)=(enc a).map .I++a8 enc l:=by simp[a8]
theorem TY (a b:List α):a8 enc (a++b)=a8 enc a++a8 enc b:=by simp[a8]
theorem oM (h:∀a,(enc a).length=sz)(l:List α):(a8 enc l).length=D l*sz:=by
 induction l with
 |nil=>simp[a8]
 |cons a r aA=>rw[ya,fQ,aA,ai,h,h8,qh,Nat.one_mul,Nat.add_comm]
theorem aeB (h:∀a,(enc a).length=sz){l:List α}{i:Nat}{a:α}(J:l[i]?=some a):∃p q,a8 enc l=p++((enc a).map .I++q)/\D p=i*sz/\∀b,a8 enc (l.set i b)=p++((enc b).map .I++q):=by
 have az:=(dP.1 J).1;have ja:l[i]=a:=(dP.1 J).2
 have e:l=l.take i++a::l.drop (i+1):=by
  rw[<-ja,<-iu az,tG]
 refine⟨a8 enc (l.take i),a8 enc (l.drop (i+1)),?_,?_,λb=>?_⟩
 ·conv=>lhs;rw[e]
  rw[TY,ya]
 ·rw[oM h,gC];congr 1;omega
 ·rw[List.set_eq_take_append_cons_drop,ab az,TY,ya]
theorem TZ (h:∀a,(enc a).length=sz){l:List α}{i:Nat}{a:α}(J:l[i]?=some a){f n:Nat}(aK:f+n<=sz):cut (a8 enc l) (i*sz+f) n=some ((((enc a).map .I).drop f).take n):=by
 obtain⟨p,q,e,aF,-⟩:=aeB h J;have aM:=h a;unfold cut;rw[e,ab (by simp only[fQ,ai];omega),<-aF];rw[oN,jV (by omega)];rw[show (D p)+f-D p=f by omega,jv,oN,List.take_append]
 have:n-(((enc a).map Q.I).drop f).length=0:=by simp only[ry,ai];omega
 rw[this,mH,fG]
theorem aeC (h:∀a,(enc a).length=sz){l:List α}{i:Nat}(J:i<D l)(b:α):kY (a8 enc l) (i*sz) ((enc b).map .I)=a8 enc (l.set i b):=by
 obtain⟨p,q,e,aF,U⟩:=aeB h (bu J);rw[U b,e];have aM:=h l[i];have ae:=h b;unfold kY;rw[<-aF,T0,gM]
 congr 2
 rw[oN,jV (by omega),jv,ai,show (D p)+(enc b).length-D p=(enc b).length by omega,ae,<-aM,<-ai (f:=Q.I),T1]
theorem aqX (bL:∀a,((enc a).map Q.I).all Q.one=true)(l:List α):(a8 enc l).all Q.one=true:=by
 induction l with
 |nil=>rfl
 |cons a r aA=>rw[ya,List.all_append,bL,aA];rfl
theorem Dy (h:∀a,(enc a).length=sz)(bL:∀a,((enc a).map Q.I).all Q.one=true)(k g b:Nat)(l new:List α)(ae:(D l+D new)*b<=140737488355328)(hm:(D l)+D new<=1000000000):
  mw k g sz (D l) b (D new) (a8 enc new) (some (g,a8 enc l))=some (.ref k (g+1) sz 0 (D l+D new),some (k,g+1,a8 enc (l++new))):=by
 unfold mw;have n2:(D l)+D new<=maxLen:=eQ hm (by decide);dsimp only;rw[ab ⟨rfl,by rw[oM h];exact bX _,ae,n2,aqX bL new⟩,TY,dx (by rw[oM h];exact bX _)]
theorem mI (h:∀a,(enc a).length=sz)(bL:∀a,((enc a).map Q.I).all Q.one=true)(k g b:Nat)(l:List α)(a:α){cs:List Q}(G:cs=(enc a).map .I)(ae:(D l+1)*b<=140737488355328)(hm:(D l)+1<=1000000000):
  mw k g sz (D l) b 1 cs (some (g,a8 enc l))=some (.ref k (g+1) sz 0 (D l+1),some (k,g+1,a8 enc (l++[a]))):=by
 have:=Dy h bL k g b l [a] ae hm;rw[G];rw[ya,aqW,fG] at this;exact this
theorem tH (f:Q->Option Data)(aK:∀d,f (.I d)=some d)(l:List Data):(l.map Q.I).mapM f=some l:=by
 induction l with
 |nil=>rfl
 |cons a r aA=>simp[aK,aA]
theorem yb:∀(l:List (List Data)),(∀e∈l,D e=sz)->chunk sz (D l) l.flatten=l:=by
 intro l
 induction l with
 |nil=>intro _;rfl
 |cons e r aA =>
  intro h;have he:=h e (by simp);rw[h8,jP,chunk];rw[<-he,T0,T1,he,aA λx O=>h x (by simp[O])]
theorem qz (h:∀a,(enc a).length=sz){n k g:Nat}{mem:Mem}{l:List α}(hm:mem k=some (g,a8 enc l)):cy (n+1) mem (.ref k g sz 0 (D l))=some (.X (l.map enc)):=by
 unfold cy;rw[hm];simp only[if_true];unfold cut;rw[kH,oM h,ab (bX _)];simp only[l2];rw[dx (by rw[oM h];exact bX _)];unfold a8;rw[tH _ λd=>by cases n<;>rfl]
 have:=yb (sz:=sz) (l.map enc) (by simpa using λa _=>h a);rw[ai] at this;simp[this]
end
theorem aeD {α:Type}(enc:α->List Data)(l:List α):nU (a8 enc l)=true:=by
 unfold nU a8;rw[nq];intro m hm;rw[dV] at hm;obtain⟨d,_,rfl⟩:=hm
 rfl
theorem mJ {α:Type}{enc:α->List Data}{sz:Nat}(h:∀a,(enc a).length=sz){K:ba->Prop}{st:ba}(s k g:Nat)(l:List α):
  Bs K st s k g sz 0 (D l) (some (g,a8 enc l))=K ⟨e6 st.tm s (.I (.X (l.map enc))),kill st.mem k⟩:=by
 have aa:=qz (n:=0) h (mem:=a1 st.mem k g (a8 enc l)) (k:=k) (g:=g) (l:=l) (by simp[a1]);unfold Bs;dsimp only;rw[ab ⟨rfl,aeD enc l⟩];unfold cut;rw[kH,oM h,ab (bX _)];dsimp only;rw[l2,dx (by rw[oM h];exact bX _)];unfold a8;rw[tH _ λd=>rfl];dsimp only;have:=yb (sz:=sz) (l.map enc) (by simpa using λa _=>h a);rw[ai] at this;rw[this]
theorem wrap64 (x:Int)(E:-9223372036854775808<=x)(H:x<=9223372036854775807):IntKind.i64.wrap x=x:=by
 rw[IntKind.wrap_i64];omega
theorem aeE {α:Type}(l:List α)(i:Int)(ao:0<=i)(h:i<D l):∃x,l[i.toNat]?=some x/\l.drop i.toNat=x::l.drop (i+1).toNat/\l.take (i+1).toNat=l.take i.toNat++[x]:=by
 have az:i.toNat<D l:=by omega
 have e:(i+1).toNat=i.toNat+1:=by omega
 refine⟨l[i.toNat],bu az,?_,?_⟩
 ·rw[e];exact iu az
 ·rw[e];rw[hk,bu az];rfl
abbrev WP (T:bb)(mf:bT)(r:eJ)(l:List Q):Prop:=wp T mf.body (zz mf.res r) ⟨kr l,emp⟩
theorem cv {T:bb}{c:eA}{K:eY->ba->Prop}{st:ba}(h:wp T c (cB T K []) st):wp T c K st:=qv h
theorem eM (x:Int)(E:-9223372036854775808<=x:=by omega)(H:x<=9223372036854775807:=by omega):IntKind.i64.wrap x=x:=wrap64 x E H
theorem eZ {i:Nat}(h:i<1000000000000):IntKind.i64.wrap ((i:Int)+1)=((i+1:Nat):Int):=by rw[wrap64 _ (by omega) (by omega)];omega
end Go.Mini
namespace Go.Mini
open Go Go.ChangeShapes Go.WideShapes
inductive qA where
 |int (k:IntKind)
 |bool
 |str
 |X (e:qA)
 |st (l:List qA)
mutual
def Fit:qA->List Data->Prop
 |.int k,ds=>∃n,ds=[.int k n]/\(Lit.int k n).wf=true
 |.bool,ds=>∃b,ds=[.bool b]
 |.str,ds=>∃s,ds=[.str s]/\D s<=maxLen
 |.X e,ds=>∃es,ds=[.X es]/\D es<=maxLen/\∀x∈es,Fit e x
 |.st l,ds=>Fits l ds
def Fits:List qA->List Data->Prop
 | [],ds=>ds=[]
 |s::r,ds=>∃a b,ds=a++b/\Fit s a/\Fits r b
end
def Kd (P:Program):Nat->List Field->Nat->Bool
 |off,[],tot=>off==tot
 |off,f::r,tot=>f.offset==off&&Kd P (off+P.cellsOf f.type) r tot
def Ke (g:TypeId->Option qA):List Field->Option (List qA)
 | []=>some []
 |f::r=>match g f.type,Ke g r with
  |some s,some l=>some (s::l)
  |_,_=>none
def sm (P:Program):Nat->TypeId->Option qA
 |0,_=>none
 |n+1,t=>match P.underlying t with
  |some .bool=>some .bool
  |some (.int k)=>some (.int k)
  |some .string=>some .str
  |some (.slice e)=>if 0<P.cellsOf e then (sm P n e).map .X else none
  |some (.struct dI)=>if Kd P 0 dI.toList (P.cellsOf t)=true then (Ke (sm P n) dI.toList).map .st else none
  |_=>none
section
variable {hI:Type} {enc:TypeId×Value->hI} {P:Program} {w:World} {base:Nat}
def Kf (enc:TypeId×Value->hI)(P:Program)(w:World)(base:Nat)(S:qA)(fuel:Nat)(t:TypeId)(cs:List Value)(x:DataW hI×List MemPlace):Prop :=
 (∃ds,Fit S ds/\zx w (λ_=>False) ds cs)/\(∀p∈x.2,p.block<w.heap.size) /\
 ∀(aQ:World) (sp:Nat->Bool),(∀p∈x.2,sp p.block=true)->(∀b,b<w.heap.size->aQ.heap[b]?=w.heap[b]?)->DataW.trod enc P aQ base sp true fuel t cs=some x
theorem Kg {aX:Nat->Prop}{d:Data}{v:Value}(h:Den w aX d v):zx w aX [d] [v]:=by
 refine⟨rfl,λi x2 Dg E H=>?_⟩
 cases i with
 |zero=>cases E;cases H;exact h
 |succ i=>simp at E
theorem aeF (a:Addr)(i:Nat):(a.add i).block=a.block:=by
 unfold Addr.add
 split<;>rfl
theorem add_plain (b off i:Nat):(Addr.add ⟨b,off,none⟩ i)=⟨b,off+i,none⟩:=by
 unfold Addr.add
 split
 ·rename_i h;subst h;rfl
 ·rfl
theorem aeG {aQ:World}{a:Addr}{n:Nat}{cs:List Value}(h:w.cells? base a n=some cs)(M:∀b,b<w.heap.size->aQ.heap[b]?=w.heap[b]?):aQ.cells? base a n=some cs:=by
 unfold World.cells? at h ⊢
 split at h
 ·rename_i ae;rw[ab ae,<-h]
  by_cases az:a.block<w.heap.size
  ·have he:(λi=>aQ.cell? (a.add i))=λi=>w.cell? (a.add i):=by
    funext i
    exact World.cell?_of_block (a:=a.add i) (M _ (by rw[aeF];exact az))
   rw[he]
  ·cases n with
   |zero=>rfl
   |succ n =>
    exfalso
    have:w.cell? (a.add 0)=none:=by
     unfold World.cell?;have:w.heap[(a.add 0).block]?=none:=Array.getElem?_eq_none (by rw[aeF];omega);rw[this]
    rw[List.range_succ_eq_map,lz,this] at h
    cases h
 ·cases h
theorem T2 {a:Addr}{n:Nat}{cs:List Value}(h:w.cells? base a n=some cs):(D cs)=n/\∀i,i<n->∃v,cs[i]?=some v/\w.cell? (a.add i)=some v:=by
 unfold World.cells? at h
 split at h
 ·obtain⟨E,H⟩:=oG h;rw[sn] at E;refine⟨E,λi J=>?_⟩;have G:=bu (l:=cs) (i:=i) (by omega);exact⟨_,G,H i i _ (by simp[J]) G⟩
 ·cases h
theorem aqY {a:Addr}{v:Value}(h:w.cell? a=some v):a.block<w.heap.size/\a.spot=none:=by
 unfold World.cell? at h
 split at h
 ·rename_i ae;refine⟨(Array.getElem?_eq_some_iff.1 ae).1,?_⟩
  cases U:a.spot with
  |none=>rfl
  |some x=>rw[U] at h;simp at h
 ·cases h
theorem mapM_congr {α β:Type}{f g:α->Option β}:∀{l:List α},(∀x∈l,f x=g x)->l.mapM f=l.mapM g:=by
 intro l
 induction l with
 |nil=>intro _;rfl
 |cons a r aA =>
  intro h;rw[lz,lz,h a (by simp),aA λx O=>h x (by simp[O])]
theorem aqZ {β:Type}(len:Nat)(aL:Nat->β->Prop)(h:∀i,i<len->∃y,aL i y):∃l:List β,D l=len/\∀i y,l[i]?=some y->aL i y:=by
 induction len with
 |zero=>exact⟨[],rfl,λi y h=>by simp at h⟩
 |succ n aA =>
  obtain⟨l,E,H⟩:=aA λi J=>h i (by omega);obtain⟨y,ar⟩:=h n (by omega);refine⟨l++[y],by simp[E],λi z aW=>?_⟩
  rw[FI] at aW
  split at aW
  ·exact H i z aW
  ·rename_i az
   have:i-D l=0:=by
    have:=(dP.1 aW).1;simp at this;omega
   rw[this] at aW
   cases aW;have:i=n:=by omega
   subst this;exact ar
theorem aq0 {β:Type}{sz:Nat}:∀(es:List (List β)),(∀e∈es,D e=sz)->0<sz->∀(i:Nat) (d:β),es.flatten[i]?=some d->∃e,es[i/sz]?=some e/\e[i%sz]?=some d:=by
 intro es
 induction es with
 |nil=>intro _ _ i d h;simp at h
 |cons e r aA =>
  intro h aW i d Y;have he:=h e (by simp);rw[jP,FI] at Y
  split at Y
  ·rename_i az;rw[he] at az;refine⟨e,by rw[T3 az];rfl,by rw[Kh az];exact Y⟩
  ·rename_i b2;rw[he] at Y b2;obtain⟨x,E,H⟩:=aA (λy ar=>h y (by simp[ar])) aW _ d Y;have J:i=(i-sz)+sz:=by omega
   refine⟨x,?_,?_⟩
   ·rw[J,Nat.add_div_right _ aW]
    simpa using E
   ·rw[J,Nat.add_mod_right];exact H
theorem aq1 {n fuel:Nat}(aA:∀t S,sm P n t=some S->∀(cs:List Value) (x:DataW hI×List MemPlace),DataW.trod enc P w base (λ_=>true) true fuel t cs=some x->Kf enc P w base S fuel t cs x)(cs:List Value):
  ∀(dI:List Field) (off:Nat) (l:List qA) (xs:List (DataW hI×List MemPlace)),Ke (sm P n) dI=some l->Kd P off dI (D cs)=true ->
   dI.mapM (λf=>DataW.trod enc P w base (λ_=>true) true fuel f.type ((cs.drop f.offset).take (P.cellsOf f.type)))=some xs ->
   (∃ds,Fits l ds/\zx w (λ_=>False) ds (cs.drop off))/\(∀p∈xs.flatMap (·.2),p.block<w.heap.size) /\
   ∀(aQ:World) (sp:Nat->Bool),(∀p∈xs.flatMap (·.2),sp p.block=true)->(∀b,b<w.heap.size->aQ.heap[b]?=w.heap[b]?) ->
    dI.mapM (λf=>DataW.trod enc P aQ base sp true fuel f.type ((cs.drop f.offset).take (P.cellsOf f.type)))=some xs:=by
 intro dI
 induction dI with
 |nil =>
  intro off l xs av bA O;simp only[Ke,cm] at av;subst av;simp only[Kd,beq_iff_eq] at bA;simp only[Ga,hi,cm] at O;subst O;refine⟨⟨[],rfl,?_⟩,by simp,λ_ _ _ _=>rfl⟩
  rw[bA,T4];exact⟨rfl,λi d v h=>by simp at h⟩
 |cons f r ihf =>
  intro off l xs av bA O;unfold Ke at av
  split at av
  ·rename_i s fS U NU
   cases av;simp only[Kd,e9,beq_iff_eq] at bA;obtain⟨Tr,bA⟩:=bA;rw[lz] at O;simp only[hi,hy,er,cm] at O;obtain⟨x,oO,ys,aq2,rfl⟩:=O;obtain⟨⟨T5,T6,Ge⟩,aq3,aq4⟩:=aA _ _ U _ _ oO;obtain⟨⟨Dz,kt,eR⟩,aq5,aq6⟩:=ihf _ _ _ NU bA aq2;refine⟨⟨T5++Dz,⟨T5,Dz,rfl,T6,kt⟩,?_⟩,?_,?_⟩
   ·have adq:cs.drop off=(cs.drop off).take (P.cellsOf f.type)++cs.drop (off+P.cellsOf f.type):=by
     rw[<-F6,tG]
    rw[Tr] at Ge;rw[adq];refine⟨by rw[fQ,fQ,Ge.1,eR.1],λi d v E H=>?_⟩
    rw[FI] at E H;have hlen:=Ge.1
    by_cases az:i<D T5
    ·rw[ab az] at E;rw[ab (by omega)] at H;exact Ge.2 i d v E H
    ·rw[ag az] at E;rw[ag (by omega),hlen] at H;exact eR.2 _ d v E H
   ·intro p aF;rw[qB,js] at aF;exact aF.elim (aq3 p) (aq5 p)
   ·intro aQ sp jI M;rw[lz,aq4 aQ sp (λp aF=>jI p (by rw[qB,js];exact .inl aF)) M];have:=aq6 aQ sp (λp aF=>jI p (by rw[qB,js];exact .inr aF)) M;simp only[hi,hy,la];rw[this]
    rfl
  ·cases av
theorem aq7:∀(n:Nat) (t:TypeId) (S:qA),sm P n t=some S->∀(fuel:Nat) (cs:List Value) (x:DataW hI×List MemPlace),DataW.trod enc P w base (λ_=>true) true fuel t cs=some x->Kf enc P w base S fuel t cs x:=by
 intro n
 induction n with
 |zero=>intro t S h;simp[sm] at h
 |succ n aA =>
  intro t S cJ fuel cs x O
  cases fuel with
  |zero=>cases O
  |succ fuel =>
   unfold sm at cJ
   split at cJ
   ·-- bool
    rename_i hu
    cases cJ
    have key:∀(aQ:World) (sp:Nat->Bool) (cs:List Value),DataW.trod enc P aQ base sp true (fuel+1) t cs=match cs with|[.bool b]=>some (.lit (.bool b),[])|_=>none:=by
     intro aQ sp cs;unfold DataW.trod;rw[hu];clear O
     split<;>simp_all
    rw[key] at O
    split at O
    ·cases O;exact⟨⟨_,⟨_,rfl⟩,Kg .bool⟩,by simp,λaQ sp _ _=>by rw[key]⟩
    ·cases O
   ·-- int
    rename_i k hu
    cases cJ
    have key:∀(aQ:World) (sp:Nat->Bool) (cs:List Value),DataW.trod enc P aQ base sp true (fuel+1) t cs=match cs with|[.int k' n]=>if k'=k/\(Lit.int k n).wf=true then some (.lit (.int k n),[]) else none|_=>none:=by
     intro aQ sp cs;unfold DataW.trod;rw[hu];clear O
     split<;>simp_all
    rw[key] at O
    split at O
    ·split at O
     ·rename_i G
      cases O;obtain⟨rfl,aeH⟩:=G;exact⟨⟨_,⟨_,rfl,aeH⟩,Kg .int⟩,by simp,λaQ sp _ _=>by rw[key];simp[aeH]⟩
     ·cases O
    ·cases O
   ·-- string
    rename_i hu
    cases cJ
    have key:∀(aQ:World) (sp:Nat->Bool) (cs:List Value),DataW.trod enc P aQ base sp true (fuel+1) t cs=match cs with|[.string s]=>if s.size<=maxLen then some (.lit (.string s.data.toList),[]) else none|_=>none:=by
     intro aQ sp cs;unfold DataW.trod;rw[hu];clear O
     split<;>simp_all
    rw[key] at O
    split at O
    ·rename_i s
     split at O
     ·rename_i G
      cases O;refine⟨⟨[.str s.data.toList],⟨_,rfl,?_⟩,Kg ?_⟩,by simp,λaQ sp _ _=>by rw[key];simp[G]⟩
      ·rw[Array.length_toList];exact G
      ·have:Den w (λ_=>False) (.str s.data.toList) (.string ⟨s.data.toList.toArray⟩):=.str
       simpa using this
     ·cases O
    ·cases O
   ·-- slice
    rename_i e hu
    split at cJ
    ·rename_i G;rw[dY] at cJ;obtain⟨S,cJ,rfl⟩:=cJ
     have key:∀(aQ:World) (sp:Nat->Bool) (cs:List Value),DataW.trod enc P aQ base sp true (fuel+1) t cs=match cs with
      | [.slice none 0 0]=>some (.nil,[])
      | [.slice (some a) len cap] =>
       if base<=a.block/\len<=cap/\cap<=maxLen then
        ((
         dU len).mapM λi=>(aQ.cells? base (a.add (i*P.cellsOf e)) (P.cellsOf e)).bind (DataW.trod enc P aQ base sp true fuel e)).bind λelems =>
         (if sp a.block then (dU (cap-len)).mapM λj=>(aQ.cells? base (a.add ((len+j)*P.cellsOf e)) (P.cellsOf e)).bind (DataW.trod enc P aQ base sp true fuel e) else some []).map λrest =>
          (.slice (elems.map (·.1)) (rest.map (·.1)),MemPlace.row a ((D elems+D rest)*P.cellsOf e)++(elems++rest).flatMap (·.2))
       else none
      |_=>none:=by
      intro aQ sp cs
      conv=>lhs;unfold DataW.trod
      rw[hu];clear O
      split<;>simp_all
     rw[key] at O
     split at O
     ·cases O;exact⟨⟨[.X []],⟨_,rfl,fs _,by simp⟩,Kg .lV⟩,by simp,λaQ sp _ _=>by rw[key];rfl⟩
     ·rename_i a len cap
      split at O
      ·rename_i ae;rw[er] at O;obtain⟨elems,he,O⟩:=O;rw[dY] at O;obtain⟨rest,aa,rfl⟩:=O;rw[ab rfl] at aa;obtain⟨k3,aq8⟩:=oG he;obtain⟨bZ,Ox⟩:=oG aa;rw[sn] at k3 bZ
       -- each place
       have cg:∀i y,(i<len->elems[i]?=some y)->(¬ i<len->i<cap/\rest[i-len]?=some y)->∃ci,w.cells? base (a.add (i*P.cellsOf e)) (P.cellsOf e)=some ci/\DataW.trod enc P w base (λ_=>true) true fuel e ci=some y:=by
        intro i y E H
        by_cases J:i<len
        ·have:=aq8 i i y (by simp[J]) (E J);rwa [er] at this
        ·obtain⟨af,aP⟩:=H J;have:=Ox (i-len) (i-len) y (List.getElem?_range (by omega)) aP;rw[show len+(i-len)=i by omega,er] at this
         exact this
       have fl:0<D elems+(D rest)->a.block<w.heap.size/\a.spot=none:=by
        intro aF;have ao:0<cap:=by omega
        have:∃y,(0<len->elems[0]?=some y)/\(¬ 0<len->0<cap/\rest[0-len]?=some y):=by
         by_cases av:0<len
         ·exact⟨elems[0],λ_=>bu _,λh=>absurd av h⟩
         ·exact⟨rest[0],λh=>absurd h av,λ_=>⟨ao,by rw[Nat.zero_sub];exact bu _⟩⟩
        obtain⟨y,E,H⟩:=this;obtain⟨ci,jY,-⟩:=cg 0 y E H;obtain⟨v,-,ak⟩:=(T2 jY).2 0 G;have:=aqY ak;rw[DA] at this;have bm:(a.add 0).add 0=a:=by unfold Addr.add;simp
        rw[bm] at this;exact this
       have aeI:∀i y,(i<len->elems[i]?=some y)->(¬ i<len->i<cap/\rest[i-len]?=some y)->∃ci,w.cells? base (a.add (i*P.cellsOf e)) (P.cellsOf e)=some ci/\Kf enc P w base S fuel e ci y:=by
        intro i y E H;obtain⟨ci,af,aP⟩:=cg i y E H;exact⟨ci,af,aA e S cJ fuel ci y aP⟩
       have T7:∀(i:Nat) y,elems[i]?=some y->∃ci,w.cells? base (a.add (i*P.cellsOf e)) (P.cellsOf e)=some ci/\Kf enc P w base S fuel e ci y :=
        λi y ar=>aeI i y (λ_=>ar) (λh=>absurd (by have:=(dP.1 ar).1;omega) h)
       have aeJ:∀(j:Nat) y,rest[j]?=some y->∃ci,w.cells? base (a.add ((len+j)*P.cellsOf e)) (P.cellsOf e)=some ci/\Kf enc P w base S fuel e ci y :=
        λj y ar=>aeI (len+j) y (λh=>by omega) (λ_=>⟨by have:=(dP.1 ar).1;omega,by rwa [Gf]⟩)
       refine⟨?_,?_,?_⟩
       ·obtain⟨es,T8,heq⟩:=aqZ len (λi (ds:List Data)=>∃ci,w.cells? base (a.add (i*P.cellsOf e)) (P.cellsOf e)=some ci/\Fit S ds/\zx w (λ_=>False) ds ci) λi J=>by
         obtain⟨ci,E,⟨ds,H,af⟩,-,-⟩:=T7 i _ (bu (by omega));exact⟨ds,ci,E,H,af⟩
        refine⟨[.X es],⟨es,rfl,by omega,λy ar=>?_⟩,Kg ?_⟩
        ·obtain⟨i,J⟩:=tI.1 ar;obtain⟨ci,-,h,-⟩:=heq i y J;exact h
        ·by_cases av:len=0
         ·rw[av] at T8 ⊢;rw[tt T8];exact .lV
         ·obtain⟨kt,eR⟩:=fl (by omega);obtain⟨b,off,spot⟩:=a;simp only at kt eR;subst eR
          have e4:∀y∈es,D y=P.cellsOf e:=by
           intro y ar;obtain⟨i,J⟩:=tI.1 ar;obtain⟨ci,E,-,H⟩:=heq i y J;rw[<-H.1,(T2 E).1]
          have hX:∀(i:Nat) (d:Data),es.flatten[i]?=some d->∃v,w.cell? ⟨b,off+i,none⟩=some v/\Den w (λ_=>False) d v:=by
           intro i d Y;obtain⟨y,E,H⟩:=aq0 es e4 G i d Y;obtain⟨ci,af,-,aP⟩:=heq _ y E;have hm:i%P.cellsOf e<P.cellsOf e:=Nat.mod_lt _ G;obtain⟨v,bt,bU⟩:=(T2 af).2 _ hm;rw[add_plain,add_plain,qp,rz,Nat.div_add_mod] at bU;exact⟨v,bU,aP.2 _ d v H bt⟩
          rw[<-T8];refine .X (sz:=P.cellsOf e) (λi=>(w.cell? ⟨b,off+i,none⟩).getD undef) (by omega) (by omega) kt (λh=>h) e4 (λi J=>?_) λi d Y=>?_
          ·have az:i<D es.flatten:=by rw[NG e4];exact J
           obtain⟨v,ak,-⟩:=hX i _ (bu az);rw[ak]
           rfl
          ·obtain⟨v,ak,nn⟩:=hX i d Y;rw[ak];exact nn
       ·intro p aF;simp only[js] at aF;rcases aF with aF|aF
        ·unfold MemPlace.row at aF;rw[dV] at aF;obtain⟨i,J,rfl⟩:=aF;rw[g2] at J
         have:0<D elems+D rest:=by
          rcases k6 (D elems+D rest) with h|h
          ·rw[h,DA] at J;omega
          ·exact h
         exact (fl this).1
        ·rw[x3] at aF;obtain⟨y,ar,aF⟩:=aF;rw[js] at ar;rcases ar with ar|ar
         ·obtain⟨i,J⟩:=tI.1 ar;obtain⟨ci,-,h⟩:=T7 i y J;exact h.2.1 p aF
         ·obtain⟨i,J⟩:=tI.1 ar;obtain⟨ci,-,h⟩:=aeJ i y J;exact h.2.1 p aF
       ·intro aQ sp jI M;rw[key];simp only;rw[ab ae]
        have eS:0<D elems+(D rest)->sp a.block=true:=by
         intro aF
         have:=jI (.cell a.block (a.off+0)) (by
          rw[js]
          left
          unfold MemPlace.row;rw[dV];exact⟨0,by rw[g2];exact Nat.mul_pos aF G,rfl⟩)
         exact this
        have aq9:(dU len).mapM (λi=>(aQ.cells? base (a.add (i*P.cellsOf e)) (P.cellsOf e)).bind (DataW.trod enc P aQ base sp true fuel e))=some elems:=by
         rw[<-he];refine mapM_congr λi J=>?_;rw[g2] at J;have ar:=bu (l:=elems) (i:=i) (by omega);obtain⟨ci,E,H⟩:=T7 i _ ar;rw[aeG E M,E];simp only[la];obtain⟨ara,af,aP⟩:=cg i _ (λ_=>ar) (λh=>absurd J h);rw[E] at af
         cases af;rw[aP]
         exact H.2.2 aQ sp (λp aF=>jI p (by
          rw[js];right
          rw[x3];exact⟨_,js.2 (.inl (eg ar)),aF⟩)) M
        have arb:(dU (cap-len)).mapM (λj=>(aQ.cells? base (a.add ((len+j)*P.cellsOf e)) (P.cellsOf e)).bind (DataW.trod enc P aQ base sp true fuel e))=some rest:=by
         rw[<-aa];refine mapM_congr λj ah=>?_;rw[g2] at ah;have ar:=bu (l:=rest) (i:=j) (by omega);obtain⟨ci,E,H⟩:=aeJ j _ ar;rw[aeG E M,E];simp only[la];obtain⟨ara,af,aP⟩:=cg (len+j) rest[j] (λh=>by omega) (λ_=>⟨by omega,by rw[Gf];exact ar⟩);rw[E] at af
         cases af;rw[aP]
         exact H.2.2 aQ sp (λp aF=>jI p (by
          rw[js];right
          rw[x3];exact⟨_,js.2 (.inr (eg ar)),aF⟩)) M
        rw[aq9];simp only[la]
        cases U:sp a.block with
        |true=>simp only[if_true];rw[arb];rfl
        |false =>
         have aW:¬ 0<D elems+D rest:=λh=>by rw[eS h] at U;cases U
         have:rest=[]:=tt (by omega);subst this
         rfl
      ·cases O
     ·cases O
    ·cases cJ
   ·-- struct
    rename_i dI hu
    split at cJ
    ·rename_i bA;rw[dY] at cJ;obtain⟨l,av,rfl⟩:=cJ
     have key:∀(aQ:World) (sp:Nat->Bool),DataW.trod enc P aQ base sp true (fuel+1) t cs =
       if (D cs)=P.cellsOf t then (dI.toList.mapM λf=>DataW.trod enc P aQ base sp true fuel f.type ((cs.drop f.offset).take (P.cellsOf f.type))).map λxs=>(.agg (xs.map (·.1)),xs.flatMap (·.2)) else none:=by
      intro aQ sp
      conv=>lhs;unfold DataW.trod
      rw[hu]
     rw[key] at O
     split at O
     ·rename_i hlen;rw[dY] at O;obtain⟨xs,Bo,rfl⟩:=O;rw[<-hlen] at bA;obtain⟨E,H,af⟩:=aq1 (λt S h cs x O=>aA t S h fuel cs x O) cs dI.toList 0 l xs av bA Bo;refine⟨?_,H,λaQ sp jI M=>?_⟩
      ·obtain⟨ds,aK,Y⟩:=E;exact⟨ds,aK,by simpa using Y⟩
      ·rw[key,ab hlen,af aQ sp jI M]
       rfl
     ·cases O
    ·cases cJ
   ·cases cJ
end
end Go.Mini
namespace Go.Mini
open Go Go.ChangeShapes Go.WideShapes Go.RowKit
def aeK:qA->Data->Prop
 |.st l,d=>∃cs,d=.agg cs/\Fits l cs
 |s,d=>Fit s [d]
def Oy:List qA->List Data->Prop
 | [],ds=>ds=[]
 |s::r,ds=>∃d t,ds=d::t/\aeK s d/\Oy r t
section
variable {hI:Type} {enc:TypeId×Value->hI} {P:Program} {w:World}
theorem arc {aX:Nat->Prop}{d:Data}{v:Value}{ds:List Data}{vs:List Value}(h:Den w aX d v)(U:zx w aX ds vs):zx w aX (d::ds) (v::vs):=by
 refine⟨by simp[U.1],λi x2 Dg E H=>?_⟩
 cases i with
 |zero=>cases E;cases H;exact h
 |succ i=>exact U.2 i x2 Dg (by simpa using E) (by simpa using H)
theorem ard {n:Nat}{t:TypeId}{S:qA}{v:Value}{d:DataW hI}{ps:List MemPlace}{sq:Nat}(cJ:sm P n t=some S)(hX:Value.okWide P w .any sq t v)(h:DataW.Trod enc P w 0 (λ_=>true) true t v d ps):
  (∃b9,aeK S b9/\Den w (λ_=>False) b9 v)/\(∀p∈ps,p.block<w.heap.size) /\
  ∀(aQ:World) (sp:Nat->Bool),(∀p∈ps,sp p.block=true)->(∀b,b<w.heap.size->aQ.heap[b]?=w.heap[b]?)->DataW.Trod enc P aQ 0 sp true t v d ps:=by
 obtain⟨fuel,O⟩:=h;obtain⟨⟨ds,aK,Y⟩,H,af⟩:=aq7 n t S cJ fuel _ _ O;refine⟨?_,H,λaQ sp jI M=>⟨fuel,af aQ sp jI M⟩⟩
 have one:(∀cs,v ≠ .agg cs)->∀d,ds=[d]->Den w (λ_=>False) d v:=by
  intro ak d e;subst e;have:v.cells=#[v]:=by unfold Value.cells;split<;>simp_all
  rw[this] at Y;exact Y.2 0 d v rfl rfl
 cases n with
 |zero=>simp[sm] at cJ
 |succ n =>
  unfold sm at cJ;unfold Value.okWide at hX
  split at cJ
  ·rename_i hu
   cases cJ;rw[hu] at hX;obtain⟨b,rfl⟩:=aK;refine⟨_,⟨b,rfl⟩,one ?_ _ rfl⟩;rintro cs rfl;simp[Cell.okWide,Cell.ok,hu] at hX
  ·rename_i k hu
   cases cJ;rw[hu] at hX;obtain⟨b,rfl,ae⟩:=aK;refine⟨_,⟨b,rfl,ae⟩,one ?_ _ rfl⟩;rintro cs rfl;simp[Cell.okWide,Cell.ok,hu] at hX
  ·rename_i hu
   cases cJ;rw[hu] at hX;obtain⟨b,rfl,ae⟩:=aK;refine⟨_,⟨b,rfl,ae⟩,one ?_ _ rfl⟩;rintro cs rfl;simp[Cell.okWide,Cell.ok,hu] at hX
  ·rename_i e hu
   split at cJ
   ·rw[dY] at cJ;obtain⟨S,cJ,rfl⟩:=cJ;rw[hu] at hX;obtain⟨b,rfl,ae⟩:=aK;refine⟨_,⟨b,rfl,ae⟩,one ?_ _ rfl⟩;rintro cs rfl;simp[Cell.okWide,Cell.ok,hu] at hX
   ·cases cJ
  ·rename_i dI hu
   split at cJ
   ·rw[dY] at cJ;obtain⟨l,av,rfl⟩:=cJ;rw[hu] at hX;obtain⟨cs,rfl,-,-⟩:=hX;refine⟨.agg ds,⟨ds,rfl,aK⟩,?_⟩;have:Den w (λ_=>False) (.agg ds) (.agg cs.toList.toArray):=.agg Y.1 Y.2
    simpa using this
   ·cases cJ
  ·cases cJ
theorem T9 {n sq:Nat}:∀{tq:List TypeId} {schs:List qA} {vs:List Value} {ds:List (DataW hI)} {ps:List MemPlace},tq.mapM (sm P n)=some schs->(∀(j:Nat) t v,tq[j]?=some t->vs[j]?=some v->Value.okWide P w .any sq t v) ->
  DataW.TrodAll enc P w 0 (λ_=>true) true tq vs ds ps ->
  (∃sr,Oy schs sr/\zx w (λ_=>False) sr vs)/\(∀p∈ps,p.block<w.heap.size) /\
  ∀(aQ:World) (sp:Nat->Bool),(∀p∈ps,sp p.block=true)->(∀b,b<w.heap.size->aQ.heap[b]?=w.heap[b]?)->DataW.TrodAll enc P aQ 0 sp true tq vs ds ps
 | [],schs,vs,ds,ps,cJ,hX,h=>by
  obtain⟨rfl,rfl,rfl⟩:=trodAll_nil h;simp at cJ;subst cJ;exact⟨⟨[],rfl,rfl,λi d v h=>by simp at h⟩,by simp,λ_ _ _ _=>rfl⟩
 |t::tq,schs,vs,ds,ps,cJ,hX,h=>by
  obtain⟨v,arf,d,arh,a,b,rfl,rfl,rfl,E,H⟩:=trodAll_cons h;rw[lz] at cJ;simp only[hi,hy,er,cm] at cJ;obtain⟨S,ari,l,av,rfl⟩:=cJ;obtain⟨⟨b9,kK,arj⟩,iL,b6⟩:=ard ari (hX 0 t v rfl rfl) E;obtain⟨⟨sr,ark,arl⟩,ju,dd⟩:=T9 av (λj arn Dg bA ak=>hX (j+1) arn Dg (by simpa using bA) (by simpa using ak)) H;refine⟨⟨b9::sr,⟨b9,sr,rfl,kK,ark⟩,arc arj arl⟩,λp aF=>?_,λaQ sp jI M=>?_⟩
  ·rw[js] at aF;exact aF.elim (iL p) (ju p)
  ·exact trodAll_cons_mk (b6 aQ sp (λp aF=>jI p (js.2 (.inl aF))) M) (dd aQ sp (λp aF=>jI p (js.2 (.inr aF))) M)
theorem aro {W ss:World}(h:Fr (λ_=>False) W ss)(may:MemPlace->Prop):W.keptBut ss may:=by
 refine⟨h.os,h.output,λi J=>?_⟩;rw[h.block i J id]
 cases ae:W.heap[i]? with
 |none=>trivial
 |some o =>
  cases o with
  |cells c t aE=>exact⟨rfl,rfl,rfl,λ_ _=>rfl⟩
  |map es clock=>exact .inr ⟨rfl,rfl⟩
  |_=>rfl
theorem arp {f:Func}{s:ChangeSpec}{apart fresh handsOn again:Bool}{W ss:World}{args:Array Value}{ds gs:List (DataW hI)}{before:List MemPlace}{n sq:Nat}{schs:List qA}{Kj:TypeId}
  (su:DataW.Whole enc P f.params.toList s.vars apart W args.toList ds gs before) (ak:s.vars=[]) (cJ:f.params.toList.mapM (sm P n)=some schs)
  (hX:∀(j:Nat) t v,f.params[j]?=some t->args[j]?=some v->Value.okWide P W .any sq t v)
  (aa:f.resultTypes=#[Kj]) (ae:P.underlying Kj=some .bool) (jH:s.fn hI ds={ results:=[.lit (.bool true)],args:=ds }) (aK:Fr (λ_=>False) W ss) :
  s.post enc P f apart fresh handsOn again W args (.bool true) ss:=by
 have Ua:=su;obtain⟨p,q,dK,rA,rfl,aW,aH⟩:=su;rw[ak] at rA;obtain⟨rfl,rfl⟩:=trodVars_none rA;obtain⟨-,az,M⟩:=T9 cJ (λj t v bA ak=>hX j t v (by simpa using bA) (by simpa using ak)) dK;have aeL:∀b,b<W.heap.size->ss.heap[b]?=W.heap[b]?:=λb ae=>aK.block b ae id
 have vi:∀(b:Nat) (sp:Nat->Bool) (Y:Bool),DataW.TrodAll enc P ss b sp Y f.resultTypes.toList ((Value.bool true).resultList f.resultTypes.size) (s.fn hI (ds++[])).results []:=by
  intro b sp Y;rw[fG,jH,aa];exact trodAll_cons_mk (shut_bool ae true) trodAll_mk0
 have n0:∀sp:Nat->Bool,(∀x∈p,sp x.block=true)->DataW.TrodAll enc P ss 0 sp true f.params.toList args.toList (s.fn hI (ds++[])).args p:=by
  intro sp jI;rw[fG,jH];exact M ss sp jI aeL
 have aeM:∀sp:Nat->Bool,DataW.TrodVars enc P ss sp s.vars (s.fn hI (ds++[])).vars []:=by
  intro sp;rw[ak,fG,jH]
  rfl
 refine⟨ds,[],p++[],[],p,[],Ua,vi _ _ _,n0 _ (λx O=>by simpa using az x O),aeM _,aro aK _,λ_=>⟨?_,_,_,([]++p)++[],⟨[]++p,[],trodAll_append (n0 _ (λ_ _=>rfl)) (vi _ _ _),aeM _,rfl,?_,?_⟩,?_⟩⟩
 ·intro j t r E H;rw[aa] at E H
  cases j with
  |zero =>
   simp[Value.resultList] at E H;subst E H;exact okWide_bool_mk ae true
  |succ j=>simp at E
 ·intro b off aF;have aeN:MemPlace.cell b off∈p:=by simpa using aF
  have ae:=az _ aeN;have ao:=aW b off (by simpa using aeN);unfold World.frozen? at ao ⊢;rw[aeL b ae];exact ao
 ·intro aM;have:=aH aM
  simpa using this
 ·intro x O _
  simpa using O
theorem arq {f:FuncId}{fn:Func}{s:ChangeSpec}{apart fresh handsOn again:Bool}{aS:List Data->Option eJ}{n:Nat}{schs:List qA}{Kj:TypeId}(aF:tD P f aS)(ak:s.vars=[])(cJ:fn.params.toList.mapM (sm P n)=some schs)
  (aa:fn.resultTypes=#[Kj]) (ae:P.underlying Kj=some .bool) (jH:∀ds:List (DataW hI),D ds=(D fn.params.toList)->s.fn hI ds={ results:=[.lit (.bool true)],args:=ds })
  {W:World} {base:Nat} {args:Array Value} {ds gs:List (DataW hI)} {before:List MemPlace}
  (fa:∀sr,Oy schs sr->aS sr=some (.same (.bool true)))
  (hX:∀(j:Nat) t v,fn.params[j]?=some t->args[j]?=some v->Value.okWide P W .any base t v)
  (su:DataW.Whole enc P fn.params.toList s.vars apart W args.toList ds gs before) :
  Calls P f args W λe ss=>∃v,e=.returned v/\s.post enc P fn apart fresh handsOn again W args v ss:=by
 have Ua:=su;obtain⟨p,q,dK,rA,rfl,aW,aH⟩:=su;obtain⟨⟨sr,E,H⟩,-,-⟩:=T9 cJ (λj t v bA ak=>hX j t v (by simpa using bA) (by simpa using ak)) dK
 have hlen:(D ds)=D fn.params.toList:=by
  have:∀(tq:List TypeId) (vs:List Value) (ds:List (DataW hI)) (ps:List MemPlace),DataW.TrodAll enc P W 0 (λ_=>true) true tq vs ds ps->(D ds)=D tq:=by
   intro tq
   induction tq with
   |nil=>intro vs ds ps h;obtain⟨rfl,rfl,rfl⟩:=trodAll_nil h;rfl
   |cons t r aA=>intro vs ds ps h;obtain⟨v,arf,d,arh,a,b,rfl,rfl,rfl,-,H⟩:=trodAll_cons h;simp[aA _ _ _ H]
  exact this _ _ _ _ dK
 have G:=aF.run sr _ (fa sr E) (λ_=>False) W args.toList (λb ae=>ae.elim) H;have aM:args.toList.toArray=args:=by simp
 rw[aM] at G;refine G.mono λe ss ⟨v,he,bW,Y⟩=>⟨v,he,?_⟩
 have:v=.bool true:=by
  have nn:Den ss (λ_=>False) (.bool true) v:=Y
  cases nn
  rfl
 subst this;exact arp Ua ak cJ hX aa ae (jH ds hlen) bW
theorem Oz {α:Type}{l:List α}{n:Nat}(h:(D l)=n+1):∃d t,l=d::t/\D t=n:=by
 cases l with
 |nil=>simp at h
 |cons d t=>exact⟨d,t,rfl,by simpa using h⟩
theorem Ub {α:Type}{e:α->List Data}{good:α->Prop}:∀{es:List (List Data)},(∀x∈es,∃a,x=e a/\good a)->∃l:List α,es=l.map e/\∀a∈l,good a
 | [],_=>⟨[],rfl,by simp⟩
 |x::r,h=>by
  obtain⟨a,rfl,aM⟩:=h x (by simp);obtain⟨l,rfl,av⟩:=Ub (es:=r) λy ar=>h y (by simp[ar]);exact⟨a::l,rfl,λb ae=>(hP.1 ae).elim (λe=>e ▸ aM) (av b)⟩
end
end Go.Mini
namespace Go.Mini
open Go
def zB (x:Q)(m:Mem):Q->Mem->Prop:=λr mem'=>r=x/\mem'=m
@[go_sem high] theorem aJ3 {K:ba->Prop}(x:Q)(m:Mem)(d:Option Nat)(st:ba):wC K (some (.rel (zB x m))) d st=K ⟨put st.tm d x,m⟩:=by
 rw[apC];apply propext;exact⟨λh=>h x m ⟨rfl,rfl⟩,λh r mem' ⟨ay,aB⟩=>by rw[ay,aB];exact h⟩
def Bt (bN:List Q->Mem->Option (Q×Mem))(args:List Q)(mem:Mem):Option g8:=(bN args mem).map λx => .rel (zB x.1 x.2)
@[go_sem] theorem aJ4 (bN:List Q->Mem->Option (Q×Mem))(args:List Q)(mem:Mem):Bt bN args mem=(bN args mem).map λx => .rel (zB x.1 x.2):=bw
structure Kk (P:Program) (f:FuncId) (bN:List Q->Mem->Option (Q×Mem)):Prop where
 real:Real P f
 run:∀args mem x,bN args mem=some x->∀A w B vs,fr A w B mem->dq w (cb A B) B args vs->TB P f vs A w B mem (.rel (zB x.1 x.2))
def Gg (res:List oF)(x:Q)(m:Mem):eY->ba->Prop
 |.exit _,_=>False
 |.normal,st=>pK st res=some x/\st.mem=m
 |.ret,st=>pK st res=some x/\st.mem=m
@[go_sem] theorem aJ5 {res:List oF}{st:ba}(x:Q)(m:Mem)(id:Nat):Gg res x m (.exit id) st=False:=bw
@[go_sem] theorem aJ6 {res:List oF}{st:ba}(x:Q)(m:Mem):Gg res x m .normal st=(pK st res=some x/\st.mem=m):=bw
@[go_sem] theorem aJ7 {res:List oF}{st:ba}(x:Q)(m:Mem):Gg res x m .ret st=(pK st res=some x/\st.mem=m):=bw
theorem aeO {P : Program}{T : bb}{kb : Nat}{own : List Nat}(cI : qx P T)(hm : P.follows .mixedOrders = true){f : FuncId}{fn : Func}{mf : bT}(aK : P.funcs[f]? = some fn)(tE : (fn.name == "runtime.NumGoroutine") = false)(a0 : sg P kb own fn = some { mf with body := erase mf.body })
  {bN:List Q->Mem->Option (Q×Mem)} (h:∀args mem x,bN args mem=some x->(D args)<=mf.n/\wp T mf.body (Gg mf.res x.1 x.2) ⟨kr args,mem⟩):Kk P f bN:=by
 refine⟨?_,λargs mem x nr A w B vs b0 ak=>?_⟩
 ·cases ae:fn.body with
  |none=>simp[sg,ae] at a0
  |some c=>exact⟨fn,c,aK,ae,tE⟩
 ·obtain⟨hlen,wF⟩:=h args mem x nr;refine Calls.mono (F7 (Post:=zB x.1 x.2) cI hm aK a0 hlen (λe st M=>?_) wF b0 ak) λe aQ he=>?_
  ·cases e with
   |exit id=>exact M
   |normal=>exact⟨_,M.1,rfl,M.2⟩
   |ret=>exact⟨_,M.1,rfl,M.2⟩
  ·obtain⟨v,m,mem',bs,rfl,U,lA,aF⟩:=he;exact⟨v,m,mem',bs,rfl,U,lA,aF⟩
def OA:Option (Q×Mem)->Option g8->Option g8
 |some x,_=>some (.rel (zB x.1 x.2))
 |none,e=>e
@[go_sem] theorem aJ8 (x:Q×Mem)(e:Option g8):OA (some x) e=some (.rel (zB x.1 x.2)):=bw
@[go_sem] theorem aJ9 (e:Option g8):OA none e=e:=bw
def zC (aS:List Data->Option eJ)(bN:List Q->Mem->Option (Q×Mem))(args:List Q)(mem:Mem):Option g8:=OA (bN args mem) (aV aS args mem)
@[go_sem] theorem aKa (aS:List Data->Option eJ)(bN:List Q->Mem->Option (Q×Mem))(args:List Q)(mem:Mem):zC aS bN args mem=OA (bN args mem) (aV aS args mem):=bw
open Classical in
def Gh {α:Type}(bd:α->List Q->Mem->Prop)(res:α->Mem->Q×Mem):List Q->Mem->Option (Q×Mem):=λargs mem=>if h:∃a,bd a args mem then some (res (tF h) mem) else none
theorem aeP {α:Type}{bd:α->List Q->Mem->Prop}{res:α->Mem->Q×Mem}(uniq:∀a b args mem,bd a args mem->bd b args mem->res a mem=res b mem){a:α}{args:List Q}{mem:Mem}(h:bd a args mem):Gh bd res args mem=some (res a mem):=by
 have O:∃b,bd b args mem:=⟨a,h⟩;unfold Gh;rw[dif_pos O,uniq _ _ _ _ (ph O) h]
theorem Uc {α:Type}{bd:α->List Q->Mem->Prop}{res:α->Mem->Q×Mem}{args:List Q}{mem:Mem}{x:Q×Mem}(h:Gh bd res args mem=some x):∃a,bd a args mem/\x=res a mem:=by
 unfold Gh at h
 split at h
 ·rename_i O;exact⟨_,ph O,(pN h).symm⟩
 ·cases h
def yc:Nat->Nat->List Int
 |0,_=>[]
 |f+1,n=>if n=0 then [] else ((n%1048576:Nat):Int)::yc f (n/1048576)
def aJ (n:Nat):List Int:=yc n n
def bc:List Int->Int
 | []=>0
 |d::r=>d+1048576*bc r
theorem tJ (d:Int)(r:List Int):bc (d::r)=d+1048576*bc r:=rfl
def eV (l:List Int):Prop:=∀d∈l,0<=d/\d<1048576
def fL:List Int->List Int
 | []=>[]
 |d::r=>if fL r=[] then (if d=0 then [] else [d]) else d::fL r
def ad (n:Int):List Data:=[.int .i64 n]
theorem hl (b:Int):(ad b).length=1:=rfl
theorem tK (b:Int):((ad b).map Q.I).all Q.one=true:=rfl
theorem fi:∀a b:Int,ad a=ad b->a=b:=by intro a b h;simpa [ad] using h
theorem ars:∀(f g n:Nat),n<=f->n<=g->yc f n=yc g n:=by
 intro f
 induction f with
 |zero =>
      intro g n h _;obtain rfl:n=0:=by omega
      cases g<;>simp[yc]
 |succ f aA =>
  intro g n E H
  cases g with
  |zero =>
       obtain rfl:n=0:=by omega
       simp[yc]
  |succ g =>
   unfold yc
   by_cases aH:n=0
   ·rw[ab aH,ab aH]
   ·rw[ag aH,ag aH,aA g (n/1048576) (by omega) (by omega)]
theorem sv:aJ 0=[]:=rfl
theorem vk {n:Nat}(h:0<n):aJ n=((n%1048576:Nat):Int)::aJ (n/1048576):=by
 unfold aJ;obtain⟨k,rfl⟩:∃k,n=k+1:=⟨n-1,by omega⟩
 conv=>lhs;unfold yc
 rw[ag (by omega),ars k ((k+1)/1048576) _ (by omega) (by omega)]
theorem l4 (n:Nat):bc (aJ n)=n:=by
 induction n using TT with
 |_ n aA =>
  rcases k6 n with rfl|h
  ·rfl
  ·rw[vk h];unfold bc;rw[aA _ (by omega)];omega
theorem Kl {a b:Nat}(h:aJ a=aJ b):a=b:=by
 have:=congrArg bc h;rw[l4,l4] at this;omega
theorem m5 (n:Nat):eV (aJ n):=by
 induction n using TT with
 |_ n aA =>
  rcases k6 n with rfl|h
  ·intro d Y;cases Y
  ·rw[vk h];intro d Y;rcases hP.1 Y with rfl|Y
   ·omega
   ·exact aA _ (by omega) d Y
theorem zD {n:Nat}:aJ n=[]↔n=0:=by
 constructor
 ·intro h;exact Kl (b:=0) h
 ·rintro rfl;rfl
theorem pk {l:List Int}(h:eV l):0<=bc l:=by
 induction l with
 |nil=>exact Int.le_refl _
 |cons d r aA =>
  have E:=h d (by simp);have H:=aA λx O=>h x (by simp[O]);unfold bc;omega
theorem DB {d:Int}{r:List Int}:eV (d::r)↔(0<=d/\d<1048576)/\eV r :=
 ⟨λh=>⟨h d (by simp),λx O=>h x (by simp[O])⟩,λh x O=>(hP.1 O).elim (λe=>e ▸ h.1) (h.2 x)⟩
theorem DD {a b:List Int}:eV (a++b)↔eV a/\eV b :=
 ⟨λh=>⟨λx O=>h x (by simp[O]),λx O=>h x (by simp[O])⟩,λh x O=>(js.1 O).elim (h.1 x) (h.2 x)⟩
theorem DE (a b:List Int):bc (a++b)=bc a+1048576^(D a)*bc b:=by
 induction a with
 |nil=>simp[bc]
 |cons d r aA =>
  simp only[j1,bc,aA,h8,ns];rw[iA]
  have:(1048576:Int)*(1048576^(D r)*bc b)=1048576^(D r)*1048576*bc b:=by
   rw[nt (1048576^(D r)) 1048576,iB]
  omega
theorem zE {l:List Int}(h:eV l):bc l<1048576^(D l):=by
 induction l with
 |nil=>simp[bc]
 |cons d r aA =>
  rw[DB] at h;have H:=aA h.2;simp only[bc,h8,ns];omega
theorem aeQ (l:List Int):fL (l++[0])=fL l:=by
 induction l with
 |nil=>simp[fL]
 |cons d r aA=>simp only[j1,fL,aA]
theorem aeR (l:List Int){d:Int}(h:d≠0):fL (l++[d])=l++[d]:=by
 induction l with
 |nil=>simp[fL,h]
 |cons x r aA=>simp only[j1,fL,aA];simp
theorem zF {l:List Int}(h:eV l):fL l=aJ (bc l).toNat:=by
 induction l with
 |nil=>rfl
 |cons d r aA =>
  rw[DB] at h;have aa:=aA h.2;have ak:=pk h.2;unfold fL;rw[aa,tJ]
  by_cases aW:bc r=0
  ·rw[aW]
   by_cases Y:d=0
   ·simp[Y,sv]
   ·rw[ab (by rfl),ag Y];rw[vk (by omega)];rw[show (d+1048576*0).toNat/1048576=0 by omega,sv]
    congr 1
    omega
  ·rw[ag (by rw[zD];omega)];rw[vk (n:=(d+1048576*bc r).toNat) (by omega)]
   congr 1
   ·omega
   ·congr 1;omega
theorem aeS (n:Nat):fL (aJ n)=aJ n:=by
 rw[zF (m5 n),l4];simp
theorem canon {l:List Int}(h:eV l)(av:l.getLast?≠some 0):l=aJ (bc l).toNat:=by
 rw[<-zF h];rcases Bu l with rfl|⟨r,d,rfl⟩
 ·rfl
 ·rw[Bv] at av ⊢;rw[aeR];rintro rfl;simp at av
theorem aeT (n:Nat):(aJ n).getLast?≠some 0:=by
 intro h
 obtain⟨r,aa⟩:∃r,aJ n=r++[0]:=by
  rcases Bu (aJ n) with e|⟨r,d,e⟩
  ·rw[e] at h;cases h
  ·rw[Bv] at e;rw[e] at h;simp at h;subst h;exact⟨r,e⟩
 have E:=aeS n;rw[aa,aeQ] at E
 have H:(fL r).length<=D r:=by
  clear E aa h
  induction r with
  |nil=>simp[fL]
  |cons d r aA=>unfold fL;split<;>(try split)<;>simp<;>omega
 rw[E] at H;simp at H;omega
theorem hb {n k:Nat}:(aJ n).length<=k↔n<1048576^k:=by
 induction k generalizing n with
 |zero =>
      rw[Nat.pow_zero];constructor
      ·intro h;have:=tt (Nat.le_zero.1 h);rw[zD] at this;omega
      ·intro h;obtain rfl:n=0:=by omega
       simp[sv]
 |succ k aA =>
  rcases k6 n with rfl|h
  ·simp[sv];exact Nat.pos_of_ne_zero (by simp)
  ·rw[vk h,h8,wJ];have:=aA (n:=n/1048576);rw[Nat.add_le_add_iff_right,this];rw[aeU (by omega)]
theorem DF {n:Nat}(h:0<n)(E:n<1048576):aJ n=[(n:Int)]:=by
 rw[vk h,T3 E,Kh E];rfl
theorem Km (l:List Int)(i:Nat):bc l=bc (l.take i)+1048576^(min i (D l))*bc (l.drop i):=by
 conv=>lhs;rw[<-tG i l]
 rw[DE,gC]
theorem zG (n:Int)(h:0<=n/\n<18446744073709551616):IntKind.u64.wrap n=n:=by
 simp[IntKind.wrap,IntKind.bits,IntKind.signed];omega
theorem rB (n:Int):bits .and .i64 n 1048575=n%1048576:=by
 have H:(1048575:Int)=((2^20-1:Nat):Int):=by decide
 have E:n%18446744073709551616%1048576=n%1048576:=by omega
 obtain⟨a,aM⟩:∃a:Nat,(a:Int)=n%18446744073709551616:=⟨(n%18446744073709551616).toNat,by omega⟩
 have e:BitVec.ofInt 64 n=BitVec.ofNat 64 a:=by
  apply BitVec.eq_of_toInt_eq;rw[BitVec.toInt_ofInt,BitVec.toInt_ofNat',aM];simp[aeV,aeW]
 have aB:bits .and .i64 n 1048575=bits .and .i64 (a:Int) 1048575:=by
  simp only[bits];rw[show IntKind.i64.bits=64 from rfl,e,BitVec.ofInt_natCast]
 rw[aB,<-E,<-aM,H];have Ud:a<2^64:=by omega
 simp only[bits,BitVec.ofInt_natCast,BitVec.toNat_and,BitVec.toNat_ofNat,show IntKind.i64.bits=64 from rfl,Kh Ud];rw[show (2^20-1:Nat)%2^64=2^20-1 by decide,aeX,wrap64 _ (by omega) (by omega)]
 omega
theorem aeY (n:Int)(h:0<=n/\n<18446744073709551616):bits .and .u64 n 1048575=n%1048576:=by
 have:=bits_mask .u64 64 (by decide) (λn E H=>zG n ⟨E,by omega⟩) 20 (by decide) n h.1 (by omega)
 simpa using this
theorem Ue (x y:Int)(O:0<=x)(oO:x<8796093022208)(ar:0<=y/\y<1048576):bits .or .i64 (x*1048576) y=x*1048576+y:=by
 refine bits_join .i64 63 (by decide) (λn E H=>wrap64 n (by omega) (by omega)) 20 _ _ (by omega) (by omega) (by omega) ar.1 (by omega) (by omega)
theorem art (n:Int):n.fdiv (2^20)=n/1048576:=by
 rw[Int.fdiv_eq_ediv_of_nonneg _ (by decide)];rfl
theorem oP (n:Int):n.fdiv (2^min (DG 20) 64)=n/1048576:=art n
def Uf:FuncId:=224
def Ug:FuncId:=215
def OB:FuncId:=39
def l5:FuncId:=84
def vl:FuncId:=40
def Bw:FuncId:=35
def oQ:FuncId:=233
def Uh:FuncId:=234
def Bx:FuncId:=235
def Ko:FuncId:=173
def Ui:FuncId:=225
def zH:FuncId:=96
def Uj:FuncId:=214
def vm:FuncId:=43
def wK:FuncId:=36
def lF:FuncId:=38
def lb:FuncId:=146
def Kp:FuncId:=147
def Uk:FuncId:=148
def Ul:FuncId:=90
def vn:FuncId:=85
def DH:FuncId:=86
def Um:FuncId:=82
def OC:FuncId:=83
def Un:FuncId:=239
def Uo:FuncId:=201
def OD:FuncId:=236
def Up:FuncId:=237
def Kq:FuncId:=152
def OE:FuncId:=165
def Uq:FuncId:=223
def Gi:FuncId:=91
def DI:FuncId:=88
def Ur:FuncId:=89
def vo:FuncId:=149
def vp:FuncId:=94
def Kr:FuncId:=156
def pn:FuncId:=150
def Us:FuncId:=189
def Ut:FuncId:=161
def Gj:FuncId:=151
def vq:FuncId:=141
def OG:FuncId:=142
def Uu:FuncId:=143
def OH:FuncId:=144
def vr:FuncId:=145
def Ks:FuncId:=240
def Bz:FuncId:=241
def DJ:FuncId:=155
def aru:FuncId:=231
def Uv:FuncId:=232
def Kt:FuncId:=157
def Gk:FuncId:=158
def Gl:FuncId:=159
def DK:FuncId:=160
def OI:FuncId:=192
def qC:FuncId:=190
def Uw:FuncId:=193
def Ux:FuncId:=195
def Ku:FuncId:=187
def Uy:FuncId:=181
def Kv:FuncId:=183
def tL:FuncId:=188
def DL:FuncId:=194
def OJ:FuncId:=182
def Kw:FuncId:=170
def tM:FuncId:=200
def OK:FuncId:=33
def Uz:FuncId:=184
def UA:FuncId:=75
def UB:FuncId:=76
def OL:FuncId:=77
def po:FuncId:=78
def wL:FuncId:=79
def DM:FuncId:=80
def UC:FuncId:=81
def zI:FuncId:=900234
def UD:FuncId:=175
def BA:FuncId:=900236
def Kx:FuncId:=154
def vt:FuncId:=153
def vu:FuncId:=137
def Ky:FuncId:=138
def Kz:FuncId:=139
def KA:FuncId:=106
def DN:FuncId:=107
def UE:FuncId:=140
def KB:FuncId:=87
def Gm:FuncId:=162
def KC:FuncId:=163
def Gn:FuncId:=164
def Gp:FuncId:=191
def UF:FuncId:=167
def OM:FuncId:=185
def UG:FuncId:=186
def BB:FuncId:=28
def KD:FuncId:=63
def UH:FuncId:=64
def UI:FuncId:=65
def UJ:FuncId:=66
def nu:FuncId:=113
def DO:FuncId:=114
def yd:FuncId:=115
def wM:FuncId:=116
def UK:FuncId:=117
def UL:FuncId:=118
def ON:FuncId:=119
def KE:FuncId:=120
def UM:FuncId:=121
def UN:FuncId:=122
def UO:FuncId:=123
def UP:FuncId:=124
def DP:FuncId:=73
def UQ:FuncId:=125
def tN:FuncId:=126
def UR:FuncId:=127
def BC:FuncId:=171
def DQ:FuncId:=172
def vv:FuncId:=174
def wN:FuncId:=176
def KF:FuncId:=177
def US:FuncId:=178
def KG:FuncId:=135
def DR:FuncId:=179
def UT:FuncId:=180
def UU:FuncId:=202
def arv:FuncId:=203
def arw:FuncId:=204
def arx:FuncId:=205
def ary:FuncId:=206
def arz:FuncId:=207
def OO:FuncId:=208
def arA:FuncId:=209
def arB:FuncId:=210
def arC:FuncId:=211
def UW:FuncId:=212
def UX:FuncId:=213
def DS:FuncId:=54
def wO:FuncId:=104
def Gq:FuncId:=105
def arD:FuncId:=8
def UY:FuncId:=26
def UZ:FuncId:=27
def U0:FuncId:=30
def KH:FuncId:=31
def U1:FuncId:=41
def BD:FuncId:=62
abbrev F (a b:Nat):c6:=⟨some a,none,.cp (.t b)⟩
abbrev aU (a n b:Nat):c6:=⟨some a,none,.load n false (.t b)⟩
abbrev bo (a n b:Nat):c6:=⟨some a,none,.load n true (.t b)⟩
abbrev bf (a n b:Nat):c6:=⟨some a,none,.ef n (.t b)⟩
abbrev bl (n a b:Nat):c6:=⟨none,none,.store n (.t a) (.t b)⟩
abbrev br (a:Nat)(n:Int):c6:=⟨some a,none,.cp (.c (.I (.int .i64 n)))⟩
abbrev bB (a n b:Nat):c6:=⟨some a,none,.ext n (.t b)⟩
abbrev bR (a n b c:Nat):c6:=⟨some a,none,.kE n (.t b) (.t c)⟩
abbrev b7 (a b:Nat):c6:=⟨some a,none,.len (.t b)⟩
abbrev cC (a:Nat)(b:Bool):c6:=⟨some a,none,.cp (.c (.I (.bool b)))⟩
abbrev eN (a:Nat):c6:=⟨some a,none,.cp (.c .nil)⟩
abbrev bn (a:Nat)(o:BinOp)(b c:Nat):c6:=⟨some a,none,.bin o (.t b) (.t c)⟩
abbrev a5 (a:Nat)(o:BinOp)(b:Nat)(n:Int):c6:=⟨some a,none,.bin o (.t b) (.c (.I (.int .i64 n)))⟩
abbrev ek (a b c:Nat):c6:=⟨some a,none,.pick (.t b) (.c (.I (.bool true))) (.t c)⟩
abbrev gg (a b c:Nat):c6:=⟨some a,none,.pick (.t b) (.t c) (.c (.I (.bool false)))⟩
abbrev dR (a k b:Nat):c6:=⟨some a,none,.box k (.t b)⟩
abbrev hn (a b:Nat):c6:=⟨some a,none,.r9 (.t b)⟩
abbrev fp (a b:Nat):c6:=⟨some a,none,.un .not (.t b)⟩
abbrev aj (n:Int):Q:=.I (.int .i64 n)
abbrev dL (a:Nat)(f:FuncId)(x:Nat):c6:=⟨some a,none,.call f [.t x]⟩
abbrev cq (a:Nat)(f:FuncId)(x y:Nat):c6:=⟨some a,none,.call f [.t x,.t y]⟩
abbrev vw (a:Nat)(f:FuncId)(x y z:Nat):c6:=⟨some a,none,.call f [.t x,.t y,.t z]⟩
abbrev zJ (a:Nat)(f:FuncId)(x y z u:Nat):c6:=⟨some a,none,.call f [.t x,.t y,.t z,.t u]⟩
abbrev aC (a:Nat)(o:kp):c6:=⟨some a,none,o⟩
abbrev cd (n m:Nat)(r:List oF)(b:eA):bT:=⟨n,m,r,b⟩
abbrev aZ (n:Nat)(a b:eA):eA:=.cond (.t n) a b
abbrev R (l:List c6)(c:eA):eA:=.seq (.ops l) c
abbrev fH (l:List c6)(x:List (List Nat))(c:eA):eA:=.seq (.nj l x) c
abbrev aeZ:List (List Nat):=[[],[],[],[],[],[]]
abbrev arE:List (List Nat):=[[],[],[],[],[],[],[]]
abbrev arF:List (List Nat):=[[],[],[],[],[],[],[],[]]
abbrev DT:List (List Nat):=[[],[],[],[],[],[],[],[],[]]
abbrev KI:List (List Nat):=[[],[],[],[],[],[],[],[],[],[]]
abbrev U2:List (List Nat):=[[],[],[],[],[],[],[],[],[],[],[]]
abbrev OP:List (List Nat):=[[],[],[],[],[],[],[],[],[],[],[],[]]
abbrev U3:List (List Nat):=[[],[],[],[],[],[],[],[],[],[],[],[],[]]
abbrev KJ:List (List Nat):=[[],[],[],[],[],[],[],[],[],[],[],[],[],[]]
abbrev ae0:List (List Nat):=[[],[],[],[],[],[],[],[],[],[],[],[],[],[],[]]
abbrev OQ:List (List Nat):=[[],[],[],[],[],[],[],[],[],[],[],[],[],[],[],[]]
abbrev arG:List (List Nat):=[[],[],[],[],[],[],[],[],[],[],[],[],[],[],[],[],[]]
abbrev ae1:List (List Nat):=[[],[],[],[],[],[],[],[],[],[],[],[],[],[],[],[],[],[]]
abbrev arH:List (List Nat):=[[],[],[],[],[],[],[],[],[],[],[],[],[],[],[],[],[],[],[],[],[],[],[],[],[],[]]
abbrev ae2:List (List Nat):=[[],[],[],[],[],[],[],[],[],[],[],[],[],[],[],[],[],[],[],[],[],[],[],[],[],[],[],[]]
abbrev arI:List (List Nat):=[[],[],[],[],[],[],[],[],[],[],[],[],[],[],[],[],[],[],[],[],[],[],[],[],[],[],[],[],[],[]]
def U4:bT:=cd 49 1 [.t 2] (R [dR 1 136001 0,cC 2 false] (R [bf 6 1 1,aU 7 1 6,b7 8 7,F 3 8] (.seq (R [bf 9 1 1,aU 10 1 9,b7 11 10,br 12 0] (.block 0 (.loop  (R [bn 13 .lss 12 11] (.seq (aZ 13 .skip (.exit 0)) (.seq (.block 1 (R [bR 14 1 10 12,aU 15 1 14,F 5 15] (R [F 16 5,a5 17 .lss 16 0,F 18 17,⟨some 19,some (18,false),.cp (.t 5)⟩,⟨some 20,some (18,false),.bin .gtr (.t 19) (.c (aj 1048575))⟩,ek 21 18 20] (aZ 21 (R [cC 2 false] .ret) .skip)))) (.ops [a5 22 .add 12 1,F 12 22]))))))) (.seq (R [F 23 3,a5 24 .eql 23 0] (aZ 24 (R [bf 25 0 1,aU 26 1 25,a5 27 .eql 26 0,F 2 27] .ret) .skip)) (R [bf 28 0 1,aU 29 1 28,a5 30 .eql 29 1,F 31 30,⟨some 32,some (31,false),.ef 0 (.t 1)⟩,⟨some 33,some (31,false),.load 1 false (.t 32)⟩,⟨some 34,some (31,false),.bin .eql (.t 33) (.c (.I (.int .i64 (-1))))⟩,ek 35 31 34,F 36 35,⟨some 37,some (36,true),.cp (.t 3)⟩,⟨some 38,some (36,true),.bin .leq (.t 37) (.c (aj 60))⟩,gg 39 36 38,F 40 39,⟨some 41,some (40,true),.ef 1 (.t 1)⟩,⟨some 42,some (40,true),.load 1 false (.t 41)⟩,⟨some 43,some (40,true),.cp (.t 3)⟩,⟨some 44,some (40,true),.bin .sub (.t 43) (.c (aj 1))⟩,⟨some 45,some (40,true),.kE 1 (.t 42) (.t 44)⟩,⟨some 46,some (40,true),.load 1 false (.t 45)⟩,⟨some 47,some (40,true),.bin .neq (.t 46) (.c (aj 0))⟩,gg 48 40 47,F 2 48] .ret)))))
def U5:bT:=cd 44 2 [.cell 4 2 true,.t 5] (R [dR 2 137002 0,dR 3 137003 1,(aC 4 (.alloc 137004 [(aj 0),.nil])),br 5 0] (.seq (R [bo 10 2 2,(dL 11 lb 10),fp 12 11,F 13 12,⟨some 14,some (13,false),.load 2 true (.t 3)⟩,⟨some 15,some (13,false),.call lb [(.t 14)]⟩,⟨some 16,some (13,false),.un .not (.t 15)⟩,ek 17 13 16] (aZ 17 (R [(aC 18 (.build [(aj 0),.nil] [])),(aC 19 (.call vo [(.c (.I (.bool false))),(.t 18)])),bB 20 0 19,bB 21 1 19,bl 2 4 20,F 5 21] .ret) .skip)) (fH [bf 22 1 2,aU 23 1 22,(dL 24 vp 23),bf 25 1 3,aU 26 1 25,F 6 24,F 7 26] arE (.seq (.block 0 (.loop  (.seq (R [F 27 7,b7 28 27,a5 29 .gtr 28 0] (aZ 29 .skip (.exit 0))) (.block 1 (R [F 31 6,F 32 7,(cq 33 Kr 31 32),F 30 33,bB 34 0 30,bB 35 1 30,F 8 34,F 9 35] (.ops [F 36 7,F 37 9,F 6 36,F 7 37])))))) (R [F 38 6,(dL 39 vp 38),(aC 40 (.call pn [(.c (aj 1)),(.t 39)])),(aC 41 (.call vo [(.c (.I (.bool true))),(.t 40)])),bB 42 0 41,bB 43 1 41,bl 2 4 42,F 5 43] .ret)))))
def U6:bT:=cd 32 2 [.cell 4 2 true,.t 5] (R [dR 2 140002 0,dR 3 140003 1,(aC 4 (.alloc 140004 [(aj 0),.nil])),br 5 0] (.seq (R [bo 6 2 2,(dL 7 lb 6),fp 8 7,F 9 8,⟨some 10,some (9,false),.load 2 true (.t 3)⟩,⟨some 11,some (9,false),.call lb [(.t 10)]⟩,⟨some 12,some (9,false),.un .not (.t 11)⟩,ek 13 9 12] (aZ 13 (R [(aC 14 (.build [(aj 0),.nil] [])),(aC 15 (.call vo [(.c (.I (.bool false))),(.t 14)])),bB 16 0 15,bB 17 1 15,bl 2 4 16,F 5 17] .ret) .skip)) (fH [bf 18 0 2,aU 19 1 18,bf 20 0 3,aU 21 1 20,bn 22 .mul 19 21,bf 23 1 2,aU 24 1 23,bf 25 1 3,aU 26 1 25,(cq 27 Gj 24 26),(cq 28 pn 22 27),(aC 29 (.call vo [(.c (.I (.bool true))),(.t 28)])),bB 30 0 29,bB 31 1 29,bl 2 4 30,F 5 31] OQ .ret)))
def U7:bT:=cd 25 1 [.cell 2 2 true] (R [(aC 2 (.alloc 150002 [(aj 0),.nil]))] (R [F 6 0,(aC 7 (.conv .u64 (.t 6))),br 3 1,F 4 7] (.seq (R [F 8 0,a5 9 .lss 8 0] (aZ 9 (.ops [F 10 4,(aC 11 (.un .neg (.t 10))),(aC 3 (.cp (.c (.I (.int .i64 (-1)))))),F 4 11]) .skip)) (R [eN 5] (.seq (.block 0 (.ghost (.oE 5 150021 1) (.loop  (.seq (R [F 12 4,(aC 13 (.bin .gtr (.t 12) (.c (.I (.int .u64 0)))))] (aZ 13 .skip (.exit 0))) (.seq (.block 1 (.ops [F 16 5,F 17 4,(aC 18 (.bin .and (.t 17) (.c (.I (.int .u64 1048575))))),(aC 19 (.conv .i64 (.t 18))),(aC 20 (.fc 150020 false [(aj 0)] 1 1 [(0,1,(.t 19))])),(aC 21 (.app 150021 [(aj 0)] 8 (.t 16) (.t 20))),F 5 21])) (.ops [F 14 4,(aC 15 (.bin .shr (.t 14) (.c (.I (.int .u64 20))))),F 4 15])))))) (.seq (.ghost (.freeze 5) (.ops [F 22 3,F 23 5,(cq 24 pn 22 23),bl 2 2 24])) .ret))))))
def U8:bT:=cd 14 1 [.cell 2 2 true] (R [dR 1 152001 0,(aC 2 (.alloc 152002 [(aj 0),.nil]))] (.seq (R [bo 3 2 1,(dL 4 lb 3),fp 5 4] (aZ 5 (R [(aC 6 (.build [(aj 0),.nil] [])),bl 2 2 6] .ret) .skip)) (fH [bf 7 0 1,aU 8 1 7,(aC 9 (.un .neg (.t 8))),bf 10 1 1,aU 11 1 10,(dL 12 vp 11),(cq 13 pn 9 12),bl 2 2 13] arF .ret)))
def U9:bT:=cd 67 2 [.cell 4 2 true,.cell 5 2 true,.t 6] (R [dR 2 153002 0,dR 3 153003 1,(aC 4 (.alloc 153004 [(aj 0),.nil])),(aC 5 (.alloc 153005 [(aj 0),.nil])),br 6 0] (.seq (.block 0 (R [bo 10 2 2,(dL 11 lb 10),fp 12 11,F 13 12,⟨some 14,some (13,false),.load 2 true (.t 3)⟩,⟨some 15,some (13,false),.call lb [(.t 14)]⟩,⟨some 16,some (13,false),.un .not (.t 15)⟩,ek 17 13 16,F 9 17] (aZ 9 (R [(aC 18 (.build [(aj 0),.nil] [])),(aC 19 (.build [(aj 0),.nil] [])),bl 2 4 18,bl 2 5 19,br 6 1] .ret) (R [bf 21 0 3,aU 22 1 21,a5 23 .eql 22 0,F 20 23] (aZ 20 (R [(aC 24 (.build [(aj 0),.nil] [])),(aC 25 (.build [(aj 0),.nil] [])),bl 2 4 24,bl 2 5 25,br 6 15] .ret) .skip))))) (R [bf 27 1 2,aU 28 1 27,bf 29 1 3,aU 30 1 29,(cq 31 Kr 28 30),F 26 31,bB 32 0 26,bB 33 1 26,F 7 32,F 8 33] (.seq (R [bf 34 0 2,aU 35 1 34,bf 36 0 3,aU 37 1 36,bn 38 .mul 35 37,a5 39 .lss 38 0,F 40 39,⟨some 41,some (40,true),.cp (.t 8)⟩,⟨some 42,some (40,true),.len (.t 41)⟩,⟨some 43,some (40,true),.bin .gtr (.t 42) (.c (aj 0))⟩,gg 44 40 43] (aZ 44 (fH [F 45 7,(aC 46 (.fc 153046 false [(aj 0)] 1 1 [(0,1,(.c (aj 1)))])),(cq 47 Kt 45 46),(aC 48 (.call pn [(.c (.I (.int .i64 (-1)))),(.t 47)])),bf 49 0 3,aU 50 1 49,bf 51 1 3,aU 52 1 51,F 53 8,(cq 54 Gk 52 53),(cq 55 pn 50 54),bl 2 4 48,bl 2 5 55,br 6 0] KJ .ret) .skip)) (fH [bf 56 0 2,aU 57 1 56,bf 58 0 3,aU 59 1 58,bn 60 .mul 57 59,F 61 7,(cq 62 pn 60 61),bf 63 0 2,aU 64 1 63,F 65 8,(cq 66 pn 64 65),bl 2 4 62,bl 2 5 66,br 6 0] KJ .ret)))))
def Va:bT:=cd 31 2 [.t 4] (R [dR 2 154002 0,dR 3 154003 1,br 4 0] (.seq (R [bo 5 2 2,(dL 6 lb 5),fp 7 6,F 8 7,⟨some 9,some (8,false),.load 2 true (.t 3)⟩,⟨some 10,some (8,false),.call lb [(.t 9)]⟩,⟨some 11,some (8,false),.un .not (.t 10)⟩,ek 12 8 11] (aZ 12 (R [br 4 0] .ret) .skip)) (.seq (R [bf 13 0 2,aU 14 1 13,bf 15 0 3,aU 16 1 15,bn 17 .neq 14 16] (aZ 17 (R [bf 18 0 2,aU 19 1 18,bf 20 0 3,aU 21 1 20,(cq 22 Gl 19 21),F 4 22] .ret) .skip)) (fH [bf 23 0 2,aU 24 1 23,bf 25 1 2,aU 26 1 25,bf 27 1 3,aU 28 1 27,(cq 29 DK 26 28),bn 30 .mul 24 29,F 4 30] DT .ret))))
def Vb:bT:=cd 17 2 [.cell 4 2 true,.t 5] (R [dR 3 155003 1,(aC 4 (.alloc 155004 [(aj 0),.nil])),br 5 0] (.seq (.block 0 (R [F 7 0,fp 8 7,F 6 8] (aZ 6 (R [(aC 9 (.build [(aj 0),.nil] [])),bl 2 4 9,br 5 1] .ret) (R [bf 11 1 3,aU 12 1 11,b7 13 12,a5 14 .gtr 13 60,F 10 14] (aZ 10 (R [(aC 15 (.build [(aj 0),.nil] [])),bl 2 4 15,br 5 6] .ret) .skip))))) (R [bo 16 2 3,bl 2 4 16,br 5 0] .ret)))
def Vc:bT:=cd 170 2 [.t 4,.t 5] (R [eN 4,eN 5] (.seq (R [F 19 0,F 20 1,(cq 21 DK 19 20),a5 22 .lss 21 0] (aZ 22 (R [F 23 0,(dL 24 vp 23),eN 4,F 5 24] .ret) .skip)) (.seq (R [F 25 1,b7 26 25,a5 27 .eql 26 1] (aZ 27 (R [F 29 0,F 30 1,(aC 31 (.kE 1 (.t 30) (.c (aj 0)))),aU 32 1 31,(cq 33 OI 29 32),F 28 33,bB 34 0 28,bB 35 1 28,F 6 34,F 7 35] (R [F 36 6,F 37 7,(aC 38 (.fc 157038 false [(aj 0)] 1 1 [(0,1,(.t 37))])),(dL 39 qC 38),F 4 36,F 5 39] .ret)) .skip)) (R [br 8 1] (.seq (.block 0 (.loop  (.seq (R [F 40 1,F 41 1,b7 42 41,a5 43 .sub 42 1,bR 44 1 40 43,aU 45 1 44,F 46 8,bn 47 .mul 45 46,a5 48 .lss 47 524288] (aZ 48 .skip (.exit 0))) (.block 1 (.ops [F 49 8,a5 50 .mul 49 2,F 8 50]))))) (R [F 51 0,F 52 8,(aC 53 (.fc 157053 false [(aj 0)] 1 1 [(0,1,(.t 52))])),(aC 54 (.oD 157054 1 Gj [(.t 51),(.t 53)])),(aC 55 (.fc 157055 false [(aj 0)] 1 1 [(0,1,(.c (aj 0)))])),(aC 56 (.app 157056 [(aj 0)] 8 (.t 54) (.t 55))),F 57 1,F 58 8,(aC 59 (.fc 157059 false [(aj 0)] 1 1 [(0,1,(.t 58))])),(cq 60 Gj 57 59),F 9 56,F 10 60] (.seq (R [F 61 9,b7 62 61,F 63 0,b7 64 63,bn 65 .eql 62 64] (aZ 65 (.ops [F 66 9,(aC 67 (.fc 157067 false [(aj 0)] 1 1 [(0,1,(.c (aj 0)))])),(aC 68 (.app 157068 [(aj 0)] 8 (.t 66) (.t 67))),F 9 68]) .skip)) (R [F 69 10,b7 70 69,F 11 70] (R [F 71 9,b7 72 71,F 73 11,bn 74 .sub 72 73,(aC 75 (.mu 157075 [(aj 0)] 8 (.t 74) (.t 74))),F 12 75] (.seq (R [F 76 12,b7 77 76,a5 78 .sub 77 1,F 13 78] (.block 2 (.loop  (.seq (R [F 79 13,a5 80 .geq 79 0] (aZ 80 .skip (.exit 2))) (.seq (.block 3 (fH [F 83 9,F 84 13,F 85 11,bn 86 .add 84 85,bR 87 1 83 86,aU 88 1 87,(aC 89 (.bin .shl (.t 88) (.c (.I (.int .u64 20))))),F 90 9,F 91 13,F 92 11,bn 93 .add 91 92,a5 94 .sub 93 1,bR 95 1 90 94,aU 96 1 95,bn 97 .or 89 96,F 14 97] OQ (fH [F 98 14,F 99 10,F 100 11,a5 101 .sub 100 1,bR 102 1 99 101,aU 103 1 102,bn 104 .quo 98 103,F 105 14,F 106 10,F 107 11,a5 108 .sub 107 1,bR 109 1 106 108,aU 110 1 109,bn 111 .rem 105 110,F 15 104,F 16 111] OQ (.seq (.block 4 (.loop  (.seq (fH [F 112 15,a5 113 .geq 112 1048576,F 114 113,⟨some 115,some (114,false),.cp (.t 16)⟩,⟨some 116,some (114,false),.bin .lss (.t 115) (.c (aj 1048576))⟩,⟨some 117,some (114,false),.cp (.t 116)⟩,⟨some 118,some (117,true),.cp (.t 15)⟩,⟨some 119,some (117,true),.cp (.t 10)⟩,⟨some 120,some (117,true),.cp (.t 11)⟩,⟨some 121,some (117,true),.bin .sub (.t 120) (.c (aj 2))⟩,⟨some 122,some (117,true),.kE 1 (.t 119) (.t 121)⟩,⟨some 123,some (117,true),.load 1 false (.t 122)⟩,⟨some 124,some (117,true),.bin .mul (.t 118) (.t 123)⟩,⟨some 125,some (117,true),.cp (.t 16)⟩,⟨some 126,some (117,true),.bin .shl (.t 125) (.c (.I (.int .u64 20)))⟩,⟨some 127,some (117,true),.cp (.t 9)⟩,⟨some 128,some (117,true),.cp (.t 13)⟩,⟨some 129,some (117,true),.cp (.t 11)⟩,⟨some 130,some (117,true),.bin .add (.t 128) (.t 129)⟩,⟨some 131,some (117,true),.bin .sub (.t 130) (.c (aj 2))⟩,⟨some 132,some (117,true),.kE 1 (.t 127) (.t 131)⟩,⟨some 133,some (117,true),.load 1 false (.t 132)⟩,⟨some 134,some (117,true),.bin .or (.t 126) (.t 133)⟩,⟨some 135,some (117,true),.bin .gtr (.t 124) (.t 134)⟩,⟨some 136,some (114,false),.pick (.t 117) (.t 135) (.c (.I (.bool false)))⟩,ek 137 114 136] arH (aZ 137 .skip (.exit 4))) (.block 5 (R [F 138 15,a5 139 .sub 138 1,F 15 139] (.ops [F 140 16,F 141 10,F 142 11,a5 143 .sub 142 1,bR 144 1 141 143,aU 145 1 144,bn 146 .add 140 145,F 16 146])))))) (.ops [F 147 12,F 148 13,F 149 9,F 150 13,F 151 13,F 152 11,bn 153 .add 151 152,a5 154 .add 153 1,(aC 155 (.oC 1 (.t 149) (some (.t 150)) (some (.t 154)) none)),F 156 10,F 157 15,(vw 158 Uw 155 156 157),bR 159 1 147 148,bl 1 159 158]))))) (.ops [F 81 13,a5 82 .sub 81 1,F 13 82])))))) (.seq (.ghost (.freeze 9) (.ops [F 161 9,(dL 162 qC 161),F 163 8,(cq 164 OI 162 163),F 160 164,bB 165 0 160,bB 166 1 160,F 17 165,F 18 166])) (.seq (.ghost (.freeze 12) (.ops [F 167 12,(dL 168 qC 167),F 169 17,F 4 168,F 5 169])) .ret))))))))))))
def Vd:bT:=cd 14 2 [.cell 4 2 true] (R [(aC 4 (.alloc 158004 [(aj 0),.nil]))] (R [F 5 1,(dL 6 qC 5),F 1 6] (.seq (R [F 7 1,b7 8 7,a5 9 .eql 8 0] (aZ 9 (R [(aC 10 (.build [(aj 0),.nil] [])),bl 2 4 10] .ret) .skip)) (R [F 11 0,F 12 1,(aC 13 (.build [(aj 0),.nil] [(0,1,(.t 11)),(1,1,(.t 12))])),bl 2 4 13] .ret))))
def Ve:bT:=cd 59 1 [.t 2,.t 3] (R [dR 1 159001 0,br 2 0,cC 3 false] (.seq (R [bo 7 2 1,(dL 8 lb 7),fp 9 8,F 10 9,⟨some 11,some (10,false),.ef 1 (.t 1)⟩,⟨some 12,some (10,false),.load 1 false (.t 11)⟩,⟨some 13,some (10,false),.len (.t 12)⟩,⟨some 14,some (10,false),.bin .gtr (.t 13) (.c (aj 4))⟩,ek 15 10 14] (aZ 15 (R [br 2 0,cC 3 false] .ret) .skip)) (R [(aC 4 (.cp (.c (.I (.int .u64 0)))))] (.seq (R [bf 16 1 1,aU 17 1 16,b7 18 17,br 19 0] (.block 0 (.loop  (R [bn 20 .lss 19 18] (.seq (aZ 20 .skip (.exit 0)) (.seq (.block 1 (R [F 21 19,bR 22 1 17 19,aU 23 1 22,F 5 21,F 6 23] (.seq (R [F 24 5,a5 25 .eql 24 3,F 26 25,⟨some 27,some (26,true),.cp (.t 6)⟩,⟨some 28,some (26,true),.bin .gtr (.t 27) (.c (aj 8))⟩,gg 29 26 28] (aZ 29 (R [br 2 0,cC 3 false] .ret) .skip)) (.ops [F 30 4,F 31 6,(aC 32 (.conv .u64 (.t 31))),F 33 5,(aC 34 (.bin .mul (.c (aj 20)) (.t 33))),bn 35 .shl 32 34,bn 36 .or 30 35,F 4 36])))) (.ops [a5 37 .add 19 1,F 19 37]))))))) (.seq (.block 2 (R [bf 39 0 1,aU 40 1 39,a5 41 .lss 40 0,F 42 41,⟨some 43,some (42,true),.cp (.t 4)⟩,⟨some 44,some (42,true),.bin .leq (.t 43) (.c (.I (.int .u64 9223372036854775808)))⟩,gg 45 42 44,F 38 45] (aZ 38 (R [F 46 4,(aC 47 (.un .neg (.t 46))),(aC 48 (.conv .i64 (.t 47))),F 2 48,cC 3 true] .ret) (R [bf 50 0 1,aU 51 1 50,a5 52 .geq 51 0,F 53 52,⟨some 54,some (53,true),.cp (.t 4)⟩,⟨some 55,some (53,true),.bin .lss (.t 54) (.c (.I (.int .u64 9223372036854775808)))⟩,gg 56 53 55,F 49 56] (aZ 49 (R [F 57 4,(aC 58 (.conv .i64 (.t 57))),F 2 58,cC 3 true] .ret) .skip))))) (R [br 2 0,cC 3 false] .ret))))))
def Vf:bT:=cd 69 2 [.cell 4 2 true,.t 5] (R [dR 2 160002 0,dR 3 160003 1,(aC 4 (.alloc 160004 [(aj 0),.nil])),br 5 0] (.seq (R [bo 6 2 2,(dL 7 lb 6),fp 8 7,F 9 8,⟨some 10,some (9,false),.load 2 true (.t 3)⟩,⟨some 11,some (9,false),.call lb [(.t 10)]⟩,⟨some 12,some (9,false),.un .not (.t 11)⟩,ek 13 9 12] (aZ 13 (R [(aC 14 (.build [(aj 0),.nil] [])),(aC 15 (.call vo [(.c (.I (.bool false))),(.t 14)])),bB 16 0 15,bB 17 1 15,bl 2 4 16,F 5 17] .ret) .skip)) (.seq (.block 0 (R [bf 19 0 2,aU 20 1 19,bf 21 0 3,aU 22 1 21,bn 23 .mul 20 22,a5 24 .geq 23 0,F 18 24] (aZ 18 (fH [bf 25 0 2,aU 26 1 25,bf 27 0 3,aU 28 1 27,(aC 29 (.fc 160029 false [(aj 0),(aj 0)] 1 2 [(0,1,(.t 26)),(1,1,(.t 28))])),(dL 30 Ux 29),bf 31 1 2,aU 32 1 31,bf 33 1 3,aU 34 1 33,(cq 35 Kt 32 34),(cq 36 pn 30 35),(aC 37 (.call vo [(.c (.I (.bool true))),(.t 36)])),bB 38 0 37,bB 39 1 37,bl 2 4 38,F 5 39] arG .ret) (R [bf 41 1 2,aU 42 1 41,bf 43 1 3,aU 44 1 43,(cq 45 DK 42 44),a5 46 .lss 45 0,F 40 46] (aZ 40 (fH [bf 47 0 3,aU 48 1 47,bf 49 1 3,aU 50 1 49,bf 51 1 2,aU 52 1 51,(cq 53 Gk 50 52),(cq 54 pn 48 53),(aC 55 (.call vo [(.c (.I (.bool true))),(.t 54)])),bB 56 0 55,bB 57 1 55,bl 2 4 56,F 5 57] U3 .ret) .skip))))) (fH [bf 58 0 2,aU 59 1 58,bf 60 1 2,aU 61 1 60,bf 62 1 3,aU 63 1 62,(cq 64 Gk 61 63),(cq 65 pn 59 64),(aC 66 (.call vo [(.c (.I (.bool true))),(.t 65)])),bB 67 0 66,bB 68 1 66,bl 2 4 67,F 5 68] U3 .ret))))
def Vg:bT:=cd 67 2 [.t 4] (R [eN 4] (R [F 12 0,b7 13 12,F 14 1,b7 15 14,bn 16 .add 13 15,(aC 17 (.mu 161017 [(aj 0)] 8 (.t 16) (.t 16))),F 5 17] (.seq (R [F 18 0,b7 19 18,br 20 0] (.block 0 (.loop  (R [bn 21 .lss 20 19] (.seq (aZ 21 .skip (.exit 0)) (.seq (.block 1 (R [F 22 20,bR 23 1 18 20,aU 24 1 23,F 6 22,F 7 24] (R [br 8 0] (.seq (R [F 25 1,b7 26 25,br 27 0] (.block 2 (.loop  (R [bn 28 .lss 27 26] (.seq (aZ 28 .skip (.exit 2)) (.seq (.block 3 (R [F 29 27,bR 30 1 25 27,aU 31 1 30,F 9 29,F 10 31] (R [F 32 5,F 33 6,F 34 9,bn 35 .add 33 34,bR 36 1 32 35,aU 37 1 36,F 38 7,F 39 10,bn 40 .mul 38 39,bn 41 .add 37 40,F 42 8,bn 43 .add 41 42,F 11 43] (.ops [F 44 5,F 45 6,F 46 9,bn 47 .add 45 46,F 48 11,a5 49 .and 48 1048575,F 50 11,(aC 51 (.bin .shr (.t 50) (.c (.I (.int .u64 20))))),bR 52 1 44 47,bl 1 52 49,F 8 51])))) (.ops [a5 53 .add 27 1,F 27 53]))))))) (.ops [F 54 5,F 55 6,F 56 1,b7 57 56,bn 58 .add 55 57,bR 59 1 54 58,aU 60 1 59,F 61 8,bn 62 .add 60 61,bR 63 1 54 58,bl 1 63 62]))))) (.ops [a5 64 .add 20 1,F 20 64]))))))) (R [F 65 5,(dL 66 qC 65),F 4 66] .ret))))
def Vh:bT:=cd 55 2 [.t 4] (R [eN 4] (.seq (R [F 9 0,b7 10 9,F 11 1,b7 12 11,bn 13 .lss 10 12] (aZ 13 (.ops [F 14 1,F 15 0,F 0 14,F 1 15]) .skip)) (R [F 16 0,b7 17 16,a5 18 .add 17 1,(aC 19 (.mu 172019 [(aj 0)] 8 (.t 18) (.t 18))),F 5 19] (R [br 6 0] (.seq (R [F 20 0,b7 21 20,br 22 0] (.block 0 (.loop  (R [bn 23 .lss 22 21] (.seq (aZ 23 .skip (.exit 0)) (.seq (.block 1 (R [F 24 22,bR 25 1 20 22,aU 26 1 25,F 7 24,F 8 26] (R [F 27 6,F 28 8,bn 29 .add 27 28,F 6 29] (.seq (R [F 30 7,F 31 1,b7 32 31,bn 33 .lss 30 32] (aZ 33 (.ops [F 34 6,F 35 1,F 36 7,bR 37 1 35 36,aU 38 1 37,bn 39 .add 34 38,F 6 39]) .skip)) (R [F 40 5,F 41 7,F 42 6,a5 43 .and 42 1048575,bR 44 1 40 41,bl 1 44 43] (.ops [F 45 6,(aC 46 (.bin .shr (.t 45) (.c (.I (.int .u64 20))))),F 6 46])))))) (.ops [a5 47 .add 22 1,F 22 47]))))))) (R [F 48 5,F 49 0,b7 50 49,F 51 6,bR 52 1 48 50,bl 1 52 51] (R [F 53 5,(dL 54 qC 53),F 4 54] .ret)))))))
def Vi:bT:=cd 43 2 [.t 4] (R [eN 4] (R [F 9 0,(aC 10 (.oD 173010 1 vp [(.t 9)])),F 5 10] (R [br 6 0] (.seq (R [F 11 5,b7 12 11,br 13 0] (.block 0 (.loop  (R [bn 14 .lss 13 12] (.seq (aZ 14 .skip (.exit 0)) (.seq (.block 1 (R [F 15 13,F 7 15] (R [F 16 5,F 17 7,bR 18 1 16 17,aU 19 1 18,F 20 6,bn 21 .sub 19 20,F 8 21] (.seq (R [F 22 7,F 23 1,b7 24 23,bn 25 .lss 22 24] (aZ 25 (.ops [F 26 8,F 27 1,F 28 7,bR 29 1 27 28,aU 30 1 29,bn 31 .sub 26 30,F 8 31]) .skip)) (R [F 32 8,(aC 33 (.bin .shr (.t 32) (.c (.I (.int .u64 20))))),a5 34 .and 33 1,F 6 34] (.ops [F 35 5,F 36 7,F 37 8,a5 38 .and 37 1048575,bR 39 1 35 36,bl 1 39 38])))))) (.ops [a5 40 .add 13 1,F 13 40]))))))) (R [F 41 5,(dL 42 qC 41),F 4 42] .ret)))))
def Vj:bT:=cd 41 2 [.t 4] (R [br 4 0] (.seq (R [F 6 0,b7 7 6,F 8 1,b7 9 8,bn 10 .neq 7 9] (aZ 10 (R [F 11 0,b7 12 11,F 13 1,b7 14 13,(cq 15 Gl 12 14),F 4 15] .ret) .skip)) (.seq (R [F 16 0,b7 17 16,a5 18 .sub 17 1,F 5 18] (.block 0 (.loop  (.seq (R [F 19 5,a5 20 .geq 19 0] (aZ 20 .skip (.exit 0))) (.seq (.block 1 (fH [F 23 0,F 24 5,bR 25 1 23 24,aU 26 1 25,F 27 1,F 28 5,bR 29 1 27 28,aU 30 1 29,bn 31 .neq 26 30] DT (aZ 31 (fH [F 32 0,F 33 5,bR 34 1 32 33,aU 35 1 34,F 36 1,F 37 5,bR 38 1 36 37,aU 39 1 38,(cq 40 Gl 35 39),F 4 40] KI .ret) .skip))) (.ops [F 21 5,a5 22 .sub 21 1,F 5 22])))))) (R [br 4 0] .ret))))
def Vk:bT:=cd 38 2 [.t 4,.t 5] (R [eN 4,br 5 0] (R [F 9 0,b7 10 9,(aC 11 (.mu 176011 [(aj 0)] 8 (.t 10) (.t 10))),F 6 11] (R [br 7 0] (.seq (R [F 12 0,b7 13 12,a5 14 .sub 13 1,F 8 14] (.block 0 (.loop  (.seq (R [F 15 8,a5 16 .geq 15 0] (aZ 16 .skip (.exit 0))) (.seq (.block 1 (R [F 19 7,(aC 20 (.bin .shl (.t 19) (.c (.I (.int .u64 20))))),F 21 0,F 22 8,bR 23 1 21 22,aU 24 1 23,bn 25 .or 20 24,F 7 25] (R [F 26 6,F 27 8,F 28 7,F 29 1,bn 30 .quo 28 29,bR 31 1 26 27,bl 1 31 30] (.ops [F 32 7,F 33 1,bn 34 .rem 32 33,F 7 34])))) (.ops [F 17 8,a5 18 .sub 17 1,F 8 18])))))) (.seq (.ghost (.freeze 6) (.ops [F 35 6,(dL 36 qC 35),F 37 7,F 4 36,F 5 37])) .ret)))))
def DU:bT:=cd 21 1 [.t 2] (R [eN 2] (R [F 4 0,b7 5 4,F 3 5] (.seq (.block 0 (.loop  (.seq (R [F 6 3,a5 7 .gtr 6 0,F 8 7,⟨some 9,some (8,true),.cp (.t 0)⟩,⟨some 10,some (8,true),.cp (.t 3)⟩,⟨some 11,some (8,true),.bin .sub (.t 10) (.c (aj 1))⟩,⟨some 12,some (8,true),.kE 1 (.t 9) (.t 11)⟩,⟨some 13,some (8,true),.load 1 false (.t 12)⟩,⟨some 14,some (8,true),.bin .eql (.t 13) (.c (aj 0))⟩,gg 15 8 14] (aZ 15 .skip (.exit 0))) (.block 1 (.ops [F 16 3,a5 17 .sub 16 1,F 3 17]))))) (R [F 18 0,F 19 3,(aC 20 (.oC 1 (.t 18) none (some (.t 19)) none)),F 2 20] .ret))))
def OR:bT:=cd 78 3 [.t 6] (R [br 6 0] (R [br 7 0] (.seq (R [F 12 0,b7 13 12,br 14 0] (.block 0 (.loop  (R [bn 15 .lss 14 13] (.seq (aZ 15 .skip (.exit 0)) (.seq (.block 1 (R [F 16 14,F 8 16] (R [F 17 0,F 18 8,bR 19 1 17 18,aU 20 1 19,F 21 7,bn 22 .sub 20 21,F 9 22] (.seq (R [F 23 8,F 24 1,b7 25 24,bn 26 .lss 23 25] (aZ 26 (.ops [F 27 9,F 28 2,F 29 1,F 30 8,bR 31 1 29 30,aU 32 1 31,bn 33 .mul 28 32,bn 34 .sub 27 33,F 9 34]) .skip)) (R [F 35 0,F 36 8,F 37 9,a5 38 .and 37 1048575,bR 39 1 35 36,bl 1 39 38] (.ops [F 40 9,(aC 41 (.bin .shr (.t 40) (.c (.I (.int .u64 20))))),(aC 42 (.un .neg (.t 41))),F 7 42])))))) (.ops [a5 43 .add 14 1,F 14 43]))))))) (.seq (R [F 44 7,a5 45 .eql 44 0] (aZ 45 (R [F 46 2,F 6 46] .ret) .skip)) (R [br 10 0] (.seq (R [F 47 0,b7 48 47,br 49 0] (.block 2 (.loop  (R [bn 50 .lss 49 48] (.seq (aZ 50 .skip (.exit 2)) (.seq (.block 3 (R [F 51 49,F 11 51] (R [F 52 10,F 53 0,F 54 11,bR 55 1 53 54,aU 56 1 55,bn 57 .add 52 56,F 10 57] (.seq (R [F 58 11,F 59 1,b7 60 59,bn 61 .lss 58 60] (aZ 61 (.ops [F 62 10,F 63 1,F 64 11,bR 65 1 63 64,aU 66 1 65,bn 67 .add 62 66,F 10 67]) .skip)) (R [F 68 0,F 69 11,F 70 10,a5 71 .and 70 1048575,bR 72 1 68 69,bl 1 72 71] (.ops [F 73 10,(aC 74 (.bin .shr (.t 73) (.c (.I (.int .u64 20))))),F 10 74])))))) (.ops [a5 75 .add 49 1,F 49 75]))))))) (R [F 76 2,a5 77 .sub 76 1,F 6 77] .ret)))))))
def Vl:bT:=cd 20 2 [.t 4] (R [br 4 0] (R [F 7 0,(dL 8 DL 7),F 5 8] (R [F 9 1,(dL 10 DL 9),F 6 10] (.seq (R [F 11 5] (aZ 11 (.seq (R [F 12 6] (aZ 12 (R [br 4 0] .ret) .skip)) (R [(aC 4 (.cp (.c (.I (.int .i64 (-1))))))] .ret)) .skip)) (.seq (R [F 13 6] (aZ 13 (R [br 4 1] .ret) .skip)) (.seq (R [F 14 0,F 15 1,bn 16 .lss 14 15] (aZ 16 (R [(aC 4 (.cp (.c (.I (.int .i64 (-1))))))] .ret) .skip)) (.seq (R [F 17 0,F 18 1,bn 19 .gtr 17 18] (aZ 19 (R [br 4 1] .ret) .skip)) (R [br 4 0] .ret))))))))
def Vm:bT:=cd 18 1 [.t 2] (R [br 2 0] (R [br 3 0] (.seq (R [F 6 0,b7 7 6,br 8 0] (.block 0 (.loop  (R [bn 9 .lss 8 7] (.seq (aZ 9 .skip (.exit 0)) (.seq (.block 1 (R [bR 10 1 6 8,aU 11 1 10,F 5 11] (R [F 12 5,F 13 3,bn 14 .neq 12 13] (aZ 14 (R [F 15 5,F 2 15] .ret) .skip)))) (.ops [a5 16 .add 8 1,F 8 16]))))))) (R [F 17 3,F 2 17] .ret))))
def Vn:bT:=cd 6 1 [.t 2] (R [cC 2 false] (R [F 3 0,F 4 0,bn 5 .neq 3 4,F 2 5] .ret))
def Vo:bT:=cd 17 2 [.t 4] (R [cC 4 false] (R [F 5 0,(dL 6 DL 5),F 7 6,⟨some 8,some (7,true),.cp (.t 1)⟩,⟨some 9,some (7,true),.call DL [(.t 8)]⟩,⟨some 10,some (7,true),.un .not (.t 9)⟩,gg 11 7 10,F 12 11,⟨some 13,some (12,false),.cp (.t 0)⟩,⟨some 14,some (12,false),.cp (.t 1)⟩,⟨some 15,some (12,false),.bin .lss (.t 13) (.t 14)⟩,ek 16 12 15,F 4 16] .ret))
def Vp:bT:=cd 9 2 [.t 4] (R [cC 4 false] (R [F 5 0,F 6 1,(cq 7 Un 5 6),a5 8 .geq 7 0,F 4 8] .ret))
def Vq:bT:=cd 9 2 [.t 4] (R [cC 4 false] (R [F 5 0,F 6 1,(cq 7 Uo 5 6),a5 8 .geq 7 0,F 4 8] .ret))
def Vr:bT:=cd 48 2 [.t 4] (R [eN 4] (.seq (R [F 9 1,a5 10 .lss 9 0] (aZ 10 (.ops [(aC 11 (.bad)),⟨none,none,.bad⟩]) .skip)) (R [F 13 0,b7 14 13,(aC 15 (.conv .u64 (.t 14))),F 16 1,(aC 17 (.conv .u64 (.t 16))),(cq 18 Uq 15 17),F 12 18,bB 19 0 12,bB 20 1 12,F 5 19,F 6 20] (.seq (R [F 21 5,(aC 22 (.bin .gtr (.t 21) (.c (.I (.int .u64 0))))),F 23 22,⟨some 24,some (23,false),.cp (.t 6)⟩,⟨some 25,some (23,false),.bin .gtr (.t 24) (.c (.I (.int .u64 9223372036854775807)))⟩,ek 26 23 25] (aZ 26 (.ops [(aC 27 (.bad)),⟨none,none,.bad⟩]) .skip)) (R [F 28 6,(aC 29 (.conv .i64 (.t 28))),(aC 30 (.mu 131030 [(aj 0),.nil,(aj 0),.nil] 64 (.t 29) (.t 29))),F 7 30] (R [F 31 7,F 32 0,(aC 33 (.sa 4 (.t 31) (.t 32))),F 8 33] (.seq (.block 0 (.loop  (.seq (R [F 34 8,F 35 7,b7 36 35,bn 37 .lss 34 36] (aZ 37 .skip (.exit 0))) (.block 1 (.nj [F 38 8,F 39 7,F 40 8,(aC 41 (.oC 4 (.t 39) (some (.t 40)) none none)),F 42 7,F 43 8,(aC 44 (.oC 4 (.t 42) none (some (.t 43)) none)),(aC 45 (.sa 4 (.t 41) (.t 44))),bn 46 .add 38 45,F 8 46] KI))))) (R [F 47 7,F 4 47] .ret))))))))
def Vs:bT:=cd 19 2 [.t 4] (R [br 4 0] (.seq (R [F 6 0,b7 7 6,br 8 0] (.block 0 (.loop  (R [bn 9 .lss 8 7] (.seq (aZ 9 .skip (.exit 0)) (.seq (.block 1 (R [F 10 8,F 5 10] (R [F 11 1,F 12 0,F 13 5,bR 14 5 12 13,bo 15 5 14,(aC 16 (.jQ (.t 11) [(.t 15)]))] (aZ 16 (R [F 17 5,F 4 17] .ret) .skip)))) (.ops [a5 18 .add 8 1,F 8 18]))))))) (R [(aC 4 (.cp (.c (.I (.int .i64 (-1))))))] .ret)))
def Gr:bT:=cd 19 2 [.t 4] (R [br 4 0] (.seq (R [F 6 0,b7 7 6,br 8 0] (.block 0 (.loop  (R [bn 9 .lss 8 7] (.seq (aZ 9 .skip (.exit 0)) (.seq (.block 1 (R [F 10 8,F 5 10] (R [F 11 1,F 12 0,F 13 5,bR 14 4 12 13,bo 15 4 14,(aC 16 (.jQ (.t 11) [(.t 15)]))] (aZ 16 (R [F 17 5,F 4 17] .ret) .skip)))) (.ops [a5 18 .add 8 1,F 8 18]))))))) (R [(aC 4 (.cp (.c (.I (.int .i64 (-1))))))] .ret)))
def Vt:bT:=cd 8 1 [.t 2] (R [eN 2] (.seq (R [F 3 0,(aC 4 (.q8 false (.t 3)))] (aZ 4 (R [eN 2] .ret) .skip)) (R [(aC 5 (.fc 147005 true [] 4 0 [])),F 6 0,(aC 7 (.app 147007 [(aj 0),.nil,(aj 0),.nil] 64 (.t 5) (.t 6))),F 2 7] .ret)))
def Vu:bT:=cd 8 1 [.t 2] (R [eN 2] (.seq (R [F 3 0,(aC 4 (.q8 false (.t 3)))] (aZ 4 (R [eN 2] .ret) .skip)) (R [(aC 5 (.fc 156005 true [] 1 0 [])),F 6 0,(aC 7 (.app 156007 [(aj 0)] 8 (.t 5) (.t 6))),F 2 7] .ret)))
def KK:bT:=cd 19 2 [.t 4] (R [br 4 0] (.seq (R [F 6 0,b7 7 6,br 8 0] (.block 0 (.loop  (R [bn 9 .lss 8 7] (.seq (aZ 9 .skip (.exit 0)) (.seq (.block 1 (R [F 10 8,F 5 10] (R [F 11 1,F 12 0,F 13 5,bR 14 1 12 13,aU 15 1 14,(aC 16 (.jQ (.t 11) [(.t 15)]))] (aZ 16 (R [F 17 5,F 4 17] .ret) .skip)))) (.ops [a5 18 .add 8 1,F 8 18]))))))) (R [(aC 4 (.cp (.c (.I (.int .i64 (-1))))))] .ret)))
def KL:bT:=cd 32 3 [.t 6] (R [cC 6 false] (.seq (R [F 10 0,b7 11 10,F 12 1,b7 13 12,bn 14 .neq 11 13] (aZ 14 (R [cC 6 false] .ret) .skip)) (.seq (R [F 15 0,b7 16 15,br 17 0] (.block 0 (.loop  (R [bn 18 .lss 17 16] (.seq (aZ 18 .skip (.exit 0)) (.seq (.block 1 (R [F 19 17,bR 20 4 15 17,bo 21 4 20,(aC 8 (.alloc 235008 [(aj 0),.nil,(aj 0),.nil])),F 7 19,bl 4 8 21] (R [F 22 1,F 23 7,bR 24 4 22 23,bo 25 4 24,(aC 9 (.alloc 235009 [(aj 0),.nil,(aj 0),.nil])),bl 4 9 25] (R [F 26 2,bo 27 4 8,bo 28 4 9,(aC 29 (.jQ (.t 26) [(.t 27),(.t 28)])),fp 30 29] (aZ 30 (R [cC 6 false] .ret) .skip))))) (.ops [a5 31 .add 17 1,F 17 31]))))))) (R [cC 6 true] .ret))))
def Vv:bT:=cd 9 2 [.t 4] (R [cC 4 false] (R [F 5 0,F 6 1,(cq 7 wL 5 6),a5 8 .geq 7 0,F 4 8] .ret))
def Vw:bT:=cd 9 2 [.t 4] (R [cC 4 false] (R [F 5 0,F 6 1,(cq 7 UF 5 6),a5 8 .geq 7 0,F 4 8] .ret))
def KM:bT:=cd 19 2 [.t 4] (R [br 4 0] (.seq (R [F 6 0,b7 7 6,br 8 0] (.block 0 (.loop  (R [bn 9 .lss 8 7] (.seq (aZ 9 .skip (.exit 0)) (.seq (.block 1 (R [F 10 8,F 5 10] (R [F 11 1,F 12 0,F 13 5,bR 14 4 12 13,bo 15 4 14,(aC 16 (.jQ (.t 11) [(.t 15)]))] (aZ 16 (R [F 17 5,F 4 17] .ret) .skip)))) (.ops [a5 18 .add 8 1,F 8 18]))))))) (R [(aC 4 (.cp (.c (.I (.int .i64 (-1))))))] .ret)))
def OS:bT:=cd 11 1 [] (R [F 3 0,b7 4 3,F 2 4] (.ops [F 5 0,F 6 2,F 7 2,(aC 8 (.conv .u64 (.t 7))),(dL 9 US 8),(aC 10 (.call KF [(.t 5),(.c (aj 0)),(.t 6),(.t 9)]))]))
def Vx:bT:=cd 26 2 [.t 4] (R [cC 4 false] (.seq (R [F 6 0,b7 7 6,F 8 1,b7 9 8,bn 10 .neq 7 9] (aZ 10 (R [cC 4 false] .ret) .skip)) (.seq (R [F 11 0,b7 12 11,br 13 0] (.block 0 (.loop  (R [bn 14 .lss 13 12] (.seq (aZ 14 .skip (.exit 0)) (.seq (.block 1 (R [F 15 13,F 5 15] (fH [F 16 0,F 17 5,bR 18 1 16 17,aU 19 1 18,F 20 1,F 21 5,bR 22 1 20 21,aU 23 1 22,bn 24 .neq 19 23] DT (aZ 24 (R [cC 4 false] .ret) .skip)))) (.ops [a5 25 .add 13 1,F 13 25]))))))) (R [cC 4 true] .ret))))
def OT:bT:=cd 61 1 [.t 2] (R [eN 2] (.seq (R [F 6 0,b7 7 6,a5 8 .lss 7 2] (aZ 8 (R [F 9 0,F 2 9] (.ghost (.freeze 2) .ret)) .skip)) (.seq (R [br 3 1] (.block 0 (.loop  (.seq (R [F 10 3,F 11 0,b7 12 11,bn 13 .lss 10 12] (aZ 13 .skip (.exit 0))) (.seq (.block 1 (fH [F 16 0,F 17 3,bR 18 1 16 17,aU 19 1 18,F 20 0,F 21 3,a5 22 .sub 21 1,bR 23 1 20 22,aU 24 1 23,bn 25 .eql 19 24] KI (aZ 25 (R [F 26 0,F 27 3,(aC 28 (.oC 1 (.t 26) (some (.t 27)) none none)),F 4 28] (.seq (R [br 5 1] (.block 2 (.loop  (.seq (R [F 29 5,F 30 4,b7 31 30,bn 32 .lss 29 31] (aZ 32 .skip (.exit 2))) (.seq (.block 3 (fH [F 35 4,F 36 5,bR 37 1 35 36,aU 38 1 37,F 39 4,F 40 5,a5 41 .sub 40 1,bR 42 1 39 41,aU 43 1 42,bn 44 .neq 38 43] KI (aZ 44 (R [F 45 0,F 46 3,F 47 4,F 48 5,bR 49 1 47 48,aU 50 1 49,bR 51 1 45 46,bl 1 51 50] (.ops [F 52 3,a5 53 .add 52 1,F 3 53])) .skip))) (.ops [F 33 5,a5 34 .add 33 1,F 5 34])))))) (R [F 54 0,F 55 3,(aC 56 (.oC 1 (.t 54) (some (.t 55)) none none)),⟨none,none,.sc [(aj 0)] (.t 56)⟩] (R [F 57 0,F 58 3,(aC 59 (.oC 1 (.t 57) none (some (.t 58)) none)),F 2 59] (.ghost (.freeze 2) .ret))))) .skip))) (.ops [F 14 3,a5 15 .add 14 1,F 3 15])))))) (R [F 60 0,F 2 60] (.ghost (.freeze 2) .ret)))))
def OU:bT:=cd 42 2 [.t 4] (R [eN 4] (R [F 8 0,F 9 1,(cq 10 wL 8 9),F 5 10] (.seq (R [F 11 5,(aC 12 (.bin .eql (.t 11) (.c (.I (.int .i64 (-1))))))] (aZ 12 (R [F 13 0,F 4 13] .ret) .skip)) (.seq (R [F 14 5,a5 15 .add 14 1,F 6 15] (.block 0 (.loop  (.seq (R [F 16 6,F 17 0,b7 18 17,bn 19 .lss 16 18] (aZ 19 .skip (.exit 0))) (.seq (.block 1 (R [F 22 0,F 23 6,bR 24 1 22 23,aU 25 1 24,F 7 25] (R [F 26 1,F 27 7,(aC 28 (.jQ (.t 26) [(.t 27)])),fp 29 28] (aZ 29 (R [F 30 0,F 31 5,F 32 7,bR 33 1 30 31,bl 1 33 32] (.ops [F 34 5,a5 35 .add 34 1,F 5 35])) .skip)))) (.ops [F 20 6,a5 21 .add 20 1,F 6 21])))))) (R [F 36 0,F 37 5,(aC 38 (.oC 1 (.t 36) (some (.t 37)) none none)),⟨none,none,.sc [(aj 0)] (.t 38)⟩] (R [F 39 0,F 40 5,(aC 41 (.oC 1 (.t 39) none (some (.t 40)) none)),F 4 41] .ret))))))
def OV:bT:=cd 134 4 [] (R [cC 8 true] (R [cC 9 true] (.block 0 (.loop  (.block 1 (R [F 19 2,F 20 1,bn 21 .sub 19 20,F 10 21] (.seq (R [F 22 10,a5 23 .leq 22 12] (aZ 23 (R [F 24 0,F 25 1,F 26 2,(vw 27 UU 24 25 26)] .ret) .skip)) (.seq (R [F 28 3,a5 29 .eql 28 0] (aZ 29 (R [F 30 0,F 31 1,F 32 2,(vw 33 arv 30 31 32)] .ret) .skip)) (.seq (R [F 34 8,fp 35 34] (aZ 35 (R [F 36 0,F 37 1,F 38 2,(vw 39 arw 36 37 38)] (.ops [F 40 3,a5 41 .sub 40 1,F 3 41])) .skip)) (R [F 43 0,F 44 1,F 45 2,(vw 46 arx 43 44 45),F 42 46,bB 47 0 42,bB 48 1 42,F 11 47,F 12 48] (.seq (R [F 49 12,a5 50 .eql 49 2] (aZ 50 (R [F 51 0,F 52 1,F 53 2,(vw 54 ary 51 52 53)] (R [F 55 2,a5 56 .sub 55 1,F 57 11,F 58 1,bn 59 .sub 57 58,bn 60 .sub 56 59,F 11 60] (.ops [br 12 1]))) .skip)) (.seq (R [F 61 8,F 62 61,⟨some 63,some (62,true),.cp (.t 9)⟩,gg 64 62 63,F 65 64,⟨some 66,some (65,true),.cp (.t 12)⟩,⟨some 67,some (65,true),.bin .eql (.t 66) (.c (aj 1))⟩,gg 68 65 67] (aZ 68 (R [F 69 0,F 70 1,F 71 2,(vw 72 arz 69 70 71)] (aZ 72 .ret .skip)) .skip)) (.seq (fH [F 73 1,a5 74 .gtr 73 0,F 75 74,⟨some 76,some (75,true),.cp (.t 0)⟩,⟨some 77,some (75,true),.cp (.t 1)⟩,⟨some 78,some (75,true),.bin .sub (.t 77) (.c (aj 1))⟩,⟨some 79,some (75,true),.kE 1 (.t 76) (.t 78)⟩,⟨some 80,some (75,true),.load 1 false (.t 79)⟩,⟨some 81,some (75,true),.cp (.t 0)⟩,⟨some 82,some (75,true),.cp (.t 11)⟩,⟨some 83,some (75,true),.kE 1 (.t 81) (.t 82)⟩,⟨some 84,some (75,true),.load 1 false (.t 83)⟩,⟨some 85,some (75,true),.call OO [(.t 80),(.t 84)]⟩,⟨some 86,some (75,true),.un .not (.t 85)⟩,gg 87 75 86] ae0 (aZ 87 (R [F 88 0,F 89 1,F 90 2,F 91 11,(zJ 92 arA 88 89 90 91),F 13 92] (R [F 93 13,F 1 93] (.exit 1))) .skip)) (R [F 95 0,F 96 1,F 97 2,F 98 11,(zJ 99 arB 95 96 97 98),F 94 99,bB 100 0 94,bB 101 1 94,F 14 100,F 15 101] (R [F 102 15,F 9 102] (R [F 103 14,F 104 1,bn 105 .sub 103 104,F 106 2,F 107 14,bn 108 .sub 106 107,F 16 105,F 17 108] (R [F 109 10,a5 110 .quo 109 8,F 18 110] (R [F 111 16,F 112 17,bn 113 .lss 111 112] (aZ 113 (R [F 114 16,F 115 18,bn 116 .geq 114 115,F 8 116] (R [F 117 0,F 118 1,F 119 14,F 120 3,(zJ 121 KF 117 118 119 120)] (.ops [F 122 14,a5 123 .add 122 1,F 1 123]))) (R [F 124 17,F 125 18,bn 126 .geq 124 125,F 8 126] (R [F 127 0,F 128 14,a5 129 .add 128 1,F 130 2,F 131 3,(zJ 132 KF 127 129 130 131)] (.ops [F 133 14,F 2 133]))))))))))))))))))))))
def Vy:bT:=cd 9 2 [.t 4] (R [cC 4 false] (R [F 5 0,F 6 1,(cq 7 UX 5 6),a5 8 .geq 7 0,F 4 8] .ret))
def OW:bT:=cd 49 3 [] (R [F 8 1,a5 9 .add 8 1,F 6 9] (.block 0 (.loop  (.seq (R [F 10 6,F 11 2,bn 12 .lss 10 11] (aZ 12 .skip (.exit 0))) (.seq (.block 1 (R [F 15 6,F 7 15] (.block 2 (.loop  (.seq (fH [F 16 7,F 17 1,bn 18 .gtr 16 17,F 19 18,⟨some 20,some (19,true),.cp (.t 0)⟩,⟨some 21,some (19,true),.cp (.t 7)⟩,⟨some 22,some (19,true),.kE 1 (.t 20) (.t 21)⟩,⟨some 23,some (19,true),.load 1 false (.t 22)⟩,⟨some 24,some (19,true),.cp (.t 0)⟩,⟨some 25,some (19,true),.cp (.t 7)⟩,⟨some 26,some (19,true),.bin .sub (.t 25) (.c (aj 1))⟩,⟨some 27,some (19,true),.kE 1 (.t 24) (.t 26)⟩,⟨some 28,some (19,true),.load 1 false (.t 27)⟩,⟨some 29,some (19,true),.call OO [(.t 23),(.t 28)]⟩,gg 30 19 29] ae0 (aZ 30 .skip (.exit 2))) (.seq (.block 3 (.nj [F 33 0,F 34 7,F 35 0,F 36 7,a5 37 .sub 36 1,F 38 0,F 39 7,a5 40 .sub 39 1,bR 41 1 38 40,aU 42 1 41,F 43 0,F 44 7,bR 45 1 43 44,aU 46 1 45,bR 47 1 33 34,bl 1 47 42,bR 48 1 35 37,bl 1 48 46] ae1)) (.ops [F 31 7,a5 32 .sub 31 1,F 7 32]))))))) (.ops [F 13 6,a5 14 .add 13 1,F 6 14]))))))
def Vz:bT:=cd 19 2 [.t 4] (R [br 4 0] (.seq (R [F 6 0,b7 7 6,br 8 0] (.block 0 (.loop  (R [bn 9 .lss 8 7] (.seq (aZ 9 .skip (.exit 0)) (.seq (.block 1 (R [F 10 8,F 5 10] (R [F 11 1,F 12 0,F 13 5,bR 14 1 12 13,aU 15 1 14,bn 16 .eql 11 15] (aZ 16 (R [F 17 5,F 4 17] .ret) .skip)))) (.ops [a5 18 .add 8 1,F 8 18]))))))) (R [(aC 4 (.cp (.c (.I (.int .i64 (-1))))))] .ret)))
theorem VA (l:List Int)(n:Nat)(aH:n<D l)(h:l[n]=0):fL (l.take (n+1))=fL (l.take n):=by
 rw[hk,bu aH,h];exact aeQ _
theorem VB (l:List Int)(n:Nat)(aH:n<D l)(h:l[n]≠0):fL (l.take (n+1))=l.take (n+1):=by
 rw[hk,bu aH];exact aeR _ h
abbrev Gs:List Int->List Data:=λ(l:List Int)=>[.X (l.map ad)]
def zK:=cj Gs λ(l:List Int)=>cN (D l<=1000000) (.same (.X ((fL l).map ad)))
theorem OX:∀a b,Gs a=Gs b->a=b:=by
  intro en al h;exact map_inj fi _ _ (by simpa using h)
@[go_sem] theorem OY (l:List Int)(G:(D l)<=1000000):zK [.X (l.map ad)]=some (.same (.X ((fL l).map ad))):=(cu OX l).trans (cT G _)
theorem arJ (T:bb)  (l:List Int) (G:(D l)<=1000000):WP T DU (.same (.X ((fL l).map ad))) [.I (.X (l.map ad))]:=by
 refine cv ?_;simp only[DU];have ts:((l.map ad).all λe=>D e==1)=true:=by simp[ad]
 refine aY ?_;repeat' (intro h<;>simp only[h,go_sem,go_sem_proc,ai]<;>try refine ax ?_ ?_)
 refine dm [0] [] (λ(n:Nat) tm mem=>n<=D l/\fL l=fL (l.take n)/\tm 3=.I (.int .i64 n)) (λn=>n) (D l) (by refine⟨bX _,by simp,by simp[go_sem]⟩) ?_;intro vs ms aR aN;simp only[go_sem,go_sem_proc,ai] at aR aN;subst aR aN;rintro n tm mem M-⟨aH,bA,af⟩;simp only[go_sem,go_sem_proc,a6] at M;have ao:=M;rcases n with _|n
 ·refine aY ?_;repeat' (intro h<;>simp only[h,go_sem,go_sem_proc,ao,af,ts,lG,l6,show ¬ ((0:Int)>0) by omega,decide_false,ai,show (0:Int).toNat=0 from rfl,show (0:Int)<=0 by omega,fs,mH,cS]<;>try refine ax ?_ ?_)
  rw[bA];simp[fL]
 ·have hw:IntKind.i64.wrap (((n+1:Nat):Int)-1)=(n:Int):=by rw[eM _];omega
  have O:l[n]?=some l[n]:=bu (by omega);have ib:((n+1:Nat):Int)>0:=by omega
  have hle:n+1<=D l:=aH
  by_cases aW:l[n]=0
  ·refine aY ?_;repeat' (intro h<;>simp only[h,go_sem,go_sem_proc,ao,af,hw,O,aW,ib,ai,bh,decide_true,ad,beq_self_eq_true,a6]<;>try refine ax ?_ ?_)
   exact⟨n,by omega,by omega,by rw[bA,VA l n (by omega) aW],rfl⟩
  ·have qD:(l[n]==0)=false:=by simpa using aW
   refine aY ?_;repeat' (intro h<;>simp only[h,go_sem,go_sem_proc,ao,af,hw,O,qD,ib,ts,hle,ad,ai,bh,decide_true,a6,show (0:Int)<=((n+1:Nat):Int) by omega,lH,fs]<;>try refine ax ?_ ?_)
   rw[bA,VB l n (by omega) aW,List.map_take]
structure ae3 where
 l:List Int
 k:Key
 g:Nat
def vx:List Q->Mem->Option (Q×Mem):=Gh (λ(a:ae3) args mem=>args=[.ref a.k a.g 1 0 (D a.l)]/\mem a.k=some (a.g,a8 ad a.l)/\D a.l<=1000000) (λa mem=>(.ref a.k a.g 1 0 (fL a.l).length,mem))
theorem VC {α:Type}{enc:α->List Data}{sz:Nat}(h:∀a,(enc a).length=sz)(J:∀a b,enc a=enc b->a=b):∀(l fS:List α),a8 enc l=a8 enc fS->0<sz->l=fS:=by
 intro l
 induction l with
 |nil =>
  intro fS e aW
  cases fS with
  |nil=>rfl
  |cons b r =>
   have:=congrArg D e;rw[oM h,oM h] at this;simp only[k9,h8,DA,qh] at this;omega
 |cons a r aA =>
  intro fS e aW
  cases fS with
  |nil =>
   have:=congrArg D e;rw[oM h,oM h] at this;simp only[k9,h8,DA,qh] at this;omega
  |cons b FH =>
   rw[ya,ya] at e;have av:((enc a).map Q.I).length=((enc b).map Q.I).length:=by simp[h]
   obtain⟨ay,aB⟩:=Gt e av;have bG:=map_inj (λx y (e:Q.I x=Q.I y)=>by cases e;rfl) _ _ ay;rw[J _ _ bG,aA FH aB aW]
theorem VD (l:List Int)(k g:Nat)(mem:Mem)(h:mem k=some (g,a8 ad l))(av:(D l)<=1000000):vx [.ref k g 1 0 (D l)] mem=some (.ref k g 1 0 (fL l).length,mem):=by
 unfold vx;refine aeP (a:=(⟨l,k,g⟩:ae3)) ?_ ⟨rfl,h,av⟩;rintro a b args mem ⟨E,H,_⟩ ⟨af,aP,_⟩;rw[E] at af;simp only[a6,Q.ref.injEq,true_and,and_true] at af;obtain⟨KN,OZ,_⟩:=af;rw[KN,aP] at H;simp only[cm,fo] at H;have:=VC hl fi _ _ H.2 (by omega);rw[KN,OZ,this]
@[go_sem] theorem aKb (d:Data)(mem:Mem):vx [.I d] mem=none:=by
 cases O:vx [.I d] mem with
 |none=>rfl
 |some x =>
  unfold vx at O;obtain⟨a,⟨h,_⟩,_⟩:=Uc O
  cases h
theorem arK (T:bb)(l:List Int)(k g:Nat)(mem:Mem)(hm:mem k=some (g,a8 ad l))(G:(D l)<=1000000):
  wp T DU.body (Gg DU.res (.ref k g 1 0 (fL l).length) mem) ⟨kr [.ref k g 1 0 (D l)],mem⟩:=by
 refine qv ?_;simp only[DU];refine aY ?_;repeat' (intro h<;>simp only[h,go_sem,go_sem_proc,hm]<;>try refine ax ?_ ?_)
 refine dm [0] [] (λ(n:Nat) tm mem'=>n<=D l/\fL l=fL (l.take n)/\tm 3=.I (.int .i64 n)/\mem'=mem) (λn=>n) (D l) (by refine⟨bX _,by simp,by simp[go_sem],rfl⟩) ?_;intro vs ms aR aN;simp only[go_sem,go_sem_proc] at aR aN;subst aR aN;rintro n tm _ M-⟨aH,bA,af,rfl⟩;simp only[go_sem,go_sem_proc,a6] at M;have ao:=M;rcases n with _|n
 ·refine aY ?_;repeat' (intro h<;>simp only[h,go_sem,go_sem_proc,ao,af,hm,lG,l6,show ¬ ((0:Int)>0) by omega,decide_false,show (0:Int).toNat=0 from rfl,show (0:Int)<=0 by omega,fs]<;>try refine ax ?_ ?_)
  rw[bA];simp[fL]
 ·have hw:IntKind.i64.wrap (((n+1:Nat):Int)-1)=(n:Int):=by rw[eM _];omega
  have O:l[n]?=some l[n]:=bu (by omega);have ib:((n+1:Nat):Int)>0:=by omega
  have hle:n+1<=D l:=aH;have az:n<D l:=aH;have xY:=TZ hl O (f:=0) (n:=1) (by omega);have dM:=oM hl l;rw[cD] at dM;have ae4:n+1<=(a8 ad l).length:=by omega
  have ae5:fM 1 (fX n (a8 ad l))=[.I (.int .i64 l[n])]:=by
   unfold cut at xY;rw[cD,nX,ab (by omega)] at xY
   simpa [ad] using xY
  by_cases aW:l[n]=0
  ·refine aY ?_;repeat' (intro h<;>simp only[h,go_sem,go_sem_proc,ao,af,hm,hw,az,ae4,ae5,aW,ib,decide_true,cD,beq_self_eq_true]<;>try refine ax ?_ ?_)
   exact⟨n,by omega,by omega,by rw[bA,VA l n (by omega) aW],rfl⟩
  ·have qD:(l[n]==0)=false:=by simpa using aW
   refine aY ?_;repeat' (intro h<;>simp only[h,go_sem,go_sem_proc,ao,af,hm,hw,az,ae4,ae5,qD,ib,hle,decide_true,cD,show (0:Int)<=((n+1:Nat):Int) by omega,lH,fs,Nat.sub_zero]<;>try refine ax ?_ ?_)
   rw[bA,VB l n (by omega) aW];simp;omega
abbrev wP:Int->List Data:=λ(n:Int)=>[.int .i64 n]
def O0:=cj wP λ(n:Int)=>some (.same (.bool false))
theorem zL:∀a b,wP a=wP b->a=b:=by
  intro iw jr h;simp only[a6,Data.int.injEq,Data.agg.injEq,Data.X.injEq,Data.bool.injEq,Data.str.injEq,Data.ptr.injEq,Data.cH.injEq,fo,true_and,and_true] at h ⊢
  first|exact h|simpa [ye,and_assoc] using h|grind
@[go_sem] theorem aKc (n:Int):O0 [.int .i64 n]=some (.same (.bool false)):=cu zL n
theorem arL (T:bb)  (n:Int):WP T Vn (.same (.bool false)) [.I (.int .i64 n)]:=by
 refine cv ?_;simp only[Vn];refine aY ?_;repeat' (intro h<;>simp only[h,go_sem,go_sem_proc,beq_self_eq_true]<;>try refine ax ?_ ?_)
def hQ (a b:Int):Int:=if decide (a<b)=true then -1 else if decide (a>b)=true then 1 else 0
abbrev DV:Int×Int->List Data:=λ(a,b)=>[.int .i64 a,.int .i64 b]
def O1:=cj DV λ(a,b)=>some (.same (.int .i64 (hQ a b)))
theorem KO:∀a b,DV a=DV b->a=b:=by
  rintro⟨cQ,c1⟩ ⟨de,ee⟩ h;simp only[a6,Data.int.injEq,Data.agg.injEq,Data.X.injEq,Data.bool.injEq,Data.str.injEq,Data.ptr.injEq,Data.cH.injEq,fo,true_and,and_true] at h ⊢
  first|exact h|simpa [ye,and_assoc] using h|grind
@[go_sem] theorem aKd (a:Int)(b:Int):O1 [.int .i64 a,.int .i64 b]=some (.same (.int .i64 (hQ a b))):=cu KO (a,b)
theorem arM (T:bb)(VE:T DL=aV O0)(a:Int)(b:Int):WP T Vl (.same (.int .i64 (hQ a b))) [.I (.int .i64 a),.I (.int .i64 b)]:=by
 refine cv ?_;simp only[Vl];refine aY ?_;repeat' (intro h<;>simp only[h,go_sem,go_sem_proc,VE]<;>try refine ax ?_ ?_)
 all_goals simp only[hQ, *,reduceIte,cP,du,vj,sl,l3,pj,zA,g1,iZ,fB,k0,beq_self_eq_true,bne]
def zM:List Int->Int
 | []=>0
 |d::r=>if (d==0)=true then zM r else d
def VF:=cj Gs λ(l:List Int)=>cN (D l<=1000000) (.same (.int .i64 (zM l)))
@[go_sem] theorem arN (l:List Int)(G:(D l)<=1000000):VF [.X (l.map ad)]=some (.same (.int .i64 (zM l))):=(cu OX l).trans (cT G _)
theorem arO (T:bb)  (l:List Int) (G:(D l)<=1000000):WP T Vm (.same (.int .i64 (zM l))) [.I (.X (l.map ad))]:=by
 refine cv ?_;simp only[Vm];simp only[go_sem,go_sem_proc,ai];repeat' (first|refine ax ?_ ?_|fail)<;>intro h<;>simp only[h,go_sem,go_sem_proc,ai]
 refine dm [3,6,7] [] (λi tm mem=>0<=i/\i<=(D l:Int)/\zM l=zM (l.drop i.toNat)/\tm 8=.I (.int .i64 i)) (λi=>(D l-i).toNat) 0 (by refine⟨by omega,by omega,by simp,by simp[go_sem]⟩) ?_;intro vs ms aR aN;simp only[go_sem,go_sem_proc] at aR aN;subst aR aN;rintro i tm mem M-⟨sw,J,aK,cf⟩;simp only[go_sem,go_sem_proc,a6] at M;obtain⟨af,bU,bM⟩:=M;rcases dv (i<D l) with az|b2
 ·obtain⟨x,O,Y,-⟩:=aeE l i sw az;simp only[go_sem,go_sem_proc,af,bU,bM,cf,O,az,sw,ad,ai,bh,decide_true,a6];repeat' (first|refine ax ?_ ?_|fail)<;>intro h<;>simp only[h,go_sem,go_sem_proc,af,bU,bM,cf,O,az,sw,ad,ai,bh,decide_true,a6]
  ·rw[aK,Y];simp[zM,h]
  ·exact⟨i+1,by omega,by omega,by omega,by rw[aK,Y];simp only[zM, *,reduceIte,cP,du,vj,sl,l3,pj,zA,g1,iZ,fB,k0,beq_self_eq_true,bne],by rw[eM _]⟩
 ·have he:l.drop i.toNat=[]:=jV (by omega);simp only[go_sem,go_sem_proc,af,bU,bM,cf,b2,decide_false];repeat' (first|refine ax ?_ ?_|fail)<;>intro h<;>simp only[h,go_sem,go_sem_proc,af,bU,bM,cf,b2,decide_false]
  rw[aK,he];rfl
theorem KP (l:List Int):((l.map ad).all λe=>D e==1)=true:=by simp[ad]
def BE:=cj Gs λ(l:List Int)=>cN (D l<=1000000) (.own 1 (l.map ad))
@[go_sem] theorem ae6 (l:List Int)(G:(D l)<=1000000):BE [.X (l.map ad)]=some (.own 1 (l.map ad)):=(cu OX l).trans (cT G _)
theorem arP (T:bb)  (l:List Int) (G:(D l)<=1000000):WP T Vu (.own 1 (l.map ad)) [.I (.X (l.map ad))]:=by
 refine cv ?_;simp only[Vu]
 have dG:mw 156005 0 1 0 8 (D l) ((l.map ad).flatten.map .I) (some (0,[]))=some (.ref 156005 1 1 0 (D l),some (156005,1,a8 ad l)):=by
  have:=Dy hl tK 156005 0 8 [] l (by simp;omega) (by simp;omega)
  simpa [a8] using this
 have hlen:(a8 ad l).length=D l:=by rw[oM hl];omega
 refine aY ?_;repeat' (intro h<;>simp only[h,go_sem,go_sem_proc,KP,dG,ai]<;>try refine ax ?_ ?_)
 rintro b ae
 cases b
 ·refine aY ?_;repeat' (intro h<;>simp only[h,go_sem,go_sem_proc,KP,dG,ai,ru,cD,hlen]<;>try refine ax ?_ ?_)
  rw[ab (by omega),dx (by omega)];unfold a8;rw[tH _ λd=>rfl];have:=yb (sz:=1) (l.map ad) (by simp[ad]);rw[ai] at this;simp[this]
 ·cases l with
  |nil =>
       refine aY ?_;repeat' (intro h<;>simp only[h,go_sem,go_sem_proc,ru,cS]<;>try refine ax ?_ ?_)
  |cons x r=>simp at ae
abbrev Raw:=Int×List Int
def da (a:Raw):List Data:=[.int .i64 a.1,.X (a.2.map ad)]
def n3 (d:Int):Bool:=!decide (d<0) && !decide (d>1048575)
def dB (a:Raw):Bool:=a.2.all n3&&(if (a.2.length==0)=true then a.1==0 else ((a.1==1||a.1 == -1)&&decide (a.2.length<=60)&&(a.2.getLast? != some 0)))
abbrev BF:Int×(List Int)->List Data:=λ(s,l)=>[.agg [.int .i64 s,.X (l.map ad)]]
def wQ:=cj BF λ(s,l)=>cN (D l<=1000000) (.same (.bool (dB (s,l))))
theorem Gu:∀a b,BF a=BF b->a=b:=by
  rintro⟨s1,en⟩ ⟨s2,al⟩ h;simp only[a6,Data.agg.injEq,Data.int.injEq,Data.X.injEq] at h;exact dQ h.1.1.2 (map_inj fi _ _ h.1.2.1)
@[go_sem] theorem aKe (s:Int)(l:List Int)(G:(D l)<=1000000):wQ [.agg [.int .i64 s,.X (l.map ad)]]=some (.same (.bool (dB (s,l)))):=(cu Gu (s,l)).trans (cT G _)
theorem arQ (T:bb)  (s:Int) (l:List Int) (G:(D l)<=1000000):WP T U4 (.same (.bool (dB (s,l)))) [.I (.agg [.int .i64 s,.X (l.map ad)])]:=by
 refine cv ?_;simp only[U4];refine aY ?_;repeat' (intro h<;>simp only[h,go_sem,go_sem_proc,ai]<;>try refine ax ?_ ?_)
 refine dm [1,3,10,11] [136001] (λi tm mem=>0<=i/\i<=(D l:Int)/\l.all n3=(l.drop i.toNat).all n3/\tm 12=.I (.int .i64 i)) (λi=>(D l-i).toNat) 0 (by refine⟨by omega,by omega,by simp,by simp[go_sem]⟩) ?_;intro vs ms aR aN;simp only[go_sem,go_sem_proc,ai] at aR aN;subst aR aN;rintro i tm mem M hm ⟨sw,J,aK,jb⟩;simp only[go_sem,go_sem_proc,a6] at M hm;obtain⟨E,af,gu,zN⟩:=M;rcases dv (i<D l) with az|b2
 ·obtain⟨x,O,Y,-⟩:=aeE l i sw az
  have iM:∀b,n3 x=true->b=(l.drop (i+1).toNat).all n3->l.all n3=b:=by
   intro b E H;rw[aK,Y,Gb,E,H,g1]
  have KQ:n3 x=false->dB (s,l)=false:=by
   intro E;unfold dB;rw[aK,Y,Gb,E]
   rfl
  refine aY ?_;repeat' (intro h<;>simp only[h,go_sem,go_sem_proc,E,af,gu,zN,jb,hm,O,az,sw,ad,ai,bh,decide_true,a6]<;>try refine ax ?_ ?_)
  ·rw[KQ (by simp only[n3, *,reduceIte,cP,du,vj,sl,l3,pj,zA,g1,iZ,fB,k0,beq_self_eq_true,bne])]
  ·exact⟨i+1,by omega,by omega,by omega,by refine iM _ ?_ rfl;simp only[n3, *,reduceIte,cP,du,vj,sl,l3,pj,zA,g1,iZ,fB,k0,beq_self_eq_true,bne],by rw[eM _]⟩
  ·rw[KQ (by simp only[n3, *,reduceIte,cP,du,vj,sl,l3,pj,zA,g1,iZ,fB,k0,beq_self_eq_true,bne])]
 ·have he:l.drop i.toNat=[]:=jV (by omega);rw[he] at aK;have fh:l.all n3=true:=by rw[aK];rfl
  rcases Bu l with rfl|⟨r,x,rfl⟩
  ·have arR:¬ i<(0:Int):=by simpa using b2
   refine aY ?_;repeat' (intro h<;>simp only[h,go_sem,go_sem_proc,E,af,gu,zN,jb,hm,arR,decide_false,k9,lG,l6,beq_self_eq_true]<;>try refine ax ?_ ?_)
   simp[dB]
  ·rw[Bv] at *;have bI:(((r++[x]).length:Int)==0)=false:=by simp;omega
   have hw:IntKind.i64.wrap (((r++[x]).length:Int)-1)=(D r:Int):=by
    have cw:(r++[x]).length=D r+1:=by simp
    rw[eM _];omega
   have a9:((r++[x]).map ad)[D r]?=some [.int .i64 x]:=by simp[ad]
   have aa:dB (s,r++[x])=((s==1||s == -1)&&decide (((r++[x]).length:Int)<=60)&&(x != 0)):=by
    unfold dB;rw[fh];simp only[List.getLast?_append,List.getLast?_singleton];simp;have ay:decide (D r<=59)=decide ((D r:Int)+1<=60):=decide_eq_decide.2 (by omega);have aB:(some x != some (0:Int))=(x != 0):=by simp[bne]
    rw[ay,aB]
   rw[aa];refine aY ?_;repeat' (intro h<;>simp only[h,go_sem,go_sem_proc,E,af,gu,zN,jb,hm,b2,bI,hw,a9,decide_false,ai]<;>try refine ax ?_ ?_)
   all_goals simp only[*,reduceIte,cP,du,vj,sl,l3,pj,zA,g1,iZ,fB,k0,beq_self_eq_true,bne]
def ku (s:Int)(l:List Int):Raw:=if (((fL l).length:Int)==0)=true then (0,[]) else (s,fL l)
abbrev O2:Int×(List Int)->List Data:=λ(s,l)=>[.int .i64 s,.X (l.map ad)]
def BG:=cj O2 λ(s,l)=>cN (D l<=1000000) (.same (.agg (da (ku s l))))
theorem ae7:∀a b,O2 a=O2 b->a=b:=by
  rintro⟨s1,en⟩ ⟨s2,al⟩ h;simp only[a6,Data.int.injEq,Data.X.injEq] at h;exact dQ h.1.2 (map_inj fi _ _ h.2.1)
@[go_sem] theorem aKf (s:Int)(l:List Int)(G:(D l)<=1000000):BG [.int .i64 s,.X (l.map ad)]=some (.same (.agg (da (ku s l)))):=(cu ae7 (s,l)).trans (cT G _)
theorem arS (T:bb)(eK:T qC=zC zK vx)(s:Int)(l:List Int)(G:(D l)<=1000000):WP T Vd (.same (.agg (da (ku s l)))) [.I (.int .i64 s),.I (.X (l.map ad))]:=by
 refine cv ?_;simp only[Vd];refine aY ?_;repeat' (intro h<;>simp only[h,go_sem,go_sem_proc,eK,G,ai]<;>try refine ax ?_ ?_)
 all_goals simp only[ku,da,cS, *,reduceIte,cP,du,vj,sl,l3,pj,zA,g1,iZ,fB,k0,beq_self_eq_true,bne]
theorem lI (l:List Int)(i:Nat)(h:i<D l):bc (l.take (i+1))=bc (l.take i)+1048576^i*l[i]:=by
 rw[hk,bu h,DE,gC,oK (by omega)];simp[bc]
theorem zO {l:List Int}(h:eV l)(i:Nat):eV (l.take i):=λd Y=>h d (FN Y)
theorem ae8 {l:List Int}(i:Nat)(J:i<D l):eV (l.take (i+1))↔eV (l.take i)/\(0<=l[i]/\l[i]<1048576):=by
 rw[hk,bu J,DD];simp[DB,eV]
theorem lJ {l:List Int}(h:eV l)(i:Nat)(J:i<D l):0<=l[i]/\l[i]<1048576:=h _ (List.getElem_mem J)
theorem DW (o:List Int)(i:Nat)(d:Int):(o.set i d).take i=o.take i:=by
 rw[List.take_set,List.set_eq_of_length_le];rw[gC];omega
theorem qE (o:List Int):(a8 ad o).length=D o:=by rw[oM hl];omega
theorem KR (o:List Int)(i:Nat)(h:i<D o):fM 1 (fX i (a8 ad o))=[.I (.int .i64 o[i])]:=by
 have xY:=TZ hl (bu h) (f:=0) (n:=1) (by omega);unfold cut at xY;have:=qE o;rw[cD,nX,ab (by omega)] at xY
 simpa [ad] using xY
theorem yf (o:List Int)(i:Nat)(d:Int)(h:i<D o):fM i (a8 ad o)++[.I (.int .i64 d)]++fX (i+1) (a8 ad o)=a8 ad (o.set i d):=by
 have:=aeC hl h d;unfold kY at this
 simpa [ad] using this
theorem Gv (n:Nat):(dD n [Q.I (.int .i64 0)]).flatten=a8 ad (dD n 0):=by
 induction n with
 |zero=>rfl
 |succ n aA=>rw[qs,qs,jP,ya,aA];rfl
theorem Gw (n:Nat)(h:n<=1000000000):n<=maxLen:=eQ h (by decide)
theorem ae9 (l:List Int):(fL l).length<=D l:=by
 induction l with
 |nil=>simp[fL]
 |cons d r aA=>unfold fL;split<;>(try split)<;>simp<;>omega
theorem arT (l:List Int):l.take (fL l).length=fL l:=by
 induction l with
 |nil=>simp[fL]
 |cons d r aA =>
  unfold fL
  split
  ·split<;>simp
  ·simp[aA]
theorem arU (l:List Int):∀n:Nat,(a8 ad l).take n=a8 ad (l.take n):=by
 induction l with
 |nil=>intro n;simp[a8]
 |cons d r aA=>intro n;cases n with
  |zero=>simp[a8]
  |succ n=>rw[ya,wH,ya,<-aA];rfl
theorem afa {mem:Mem}{k g n:Nat}{o:List Int}(hm:mem k=some (g,a8 ad o))(aH:n<=D o):ru 1 mem (.ref k g 1 0 n)=some ((o.take n).map ad):=by
 unfold ru;dsimp only;rw[hm];simp only[and_self,if_true,cD];rw[qE,ab ⟨trivial,aH⟩,arU];unfold a8;rw[tH _ λd=>rfl];have:=yb (sz:=1) ((o.take n).map ad) (by intro e he;rw[dV] at he;obtain⟨x,-,rfl⟩:=he;rfl);rw[ai,gC,oK aH] at this;simp only[mB,this]
theorem VG {mem:Mem}{k g:Nat}{o:List Int}{n:Nat}(hm:mem k=some (g,a8 ad o))(Y:eV o)(ak:bc o=n):ru 1 mem (.ref k g 1 0 (fL o).length)=some ((aJ n).map ad):=by
 rw[afa hm (ae9 o),arT,zF Y,ak]
 rfl
def b4 (n:Nat):Data:=.X ((aJ n).map ad)
theorem afb {x y:Nat}(h:(aJ x).length<(aJ y).length):x<y:=by
 have E:=(hb (n:=x) (k:=(aJ x).length)).1 (bX _);have H:=mt (hb (n:=y) (k:=(aJ x).length)).2 (by omega);omega
theorem afc {a b:List Int}(aM:eV a)(ae:eV b)(av:(D a)=D b)(i:Nat)(J:i<D a)(Y:a.drop (i+1)=b.drop (i+1))(h:a[i]<b[i]):bc a<bc b:=by
 rw[Km a (i+1),Km b (i+1),Y,av,lI a i J,lI b i (by omega)];have E:=zE (zO aM i);have H:=pk (zO ae i);rw[gC,oK (by omega)] at E;generalize (1048576:Int)^i=p at *
 have af:p*a[i]+p<=p*b[i]:=by
  have:p*(a[i]+1)<=p*b[i]:=zP (by omega) (by have:=pk (zO aM i);omega);rw[iA,vy] at this;exact this
 omega
abbrev vz:Nat×Nat->List Data:=λ(x,y)=>[b4 x,b4 y]
def KS:=cj vz λ(x,y)=>cN ((aJ x).length<=1000000/\(aJ y).length<=1000000) (.same (.int .i64 (hQ x y)))
theorem yg:∀a b,vz a=vz b->a=b:=by
  rintro⟨a7,oR⟩ ⟨b3,oS⟩ h;simp only[a6,b4,Data.X.injEq] at h;exact dQ (Kl (map_inj fi _ _ h.1)) (Kl (map_inj fi _ _ h.2.1))
@[go_sem] theorem VH (x:Nat)(y:Nat)(G:(aJ x).length<=1000000/\(aJ y).length<=1000000):KS [b4 x,b4 y]=some (.same (.int .i64 (hQ x y))):=(cu yg (x,y)).trans (cT G _)
theorem arV (T:bb)(n4:T Gl=aV O1)(x:Nat)(y:Nat)(G:(aJ x).length<=1000000/\(aJ y).length<=1000000):WP T Vj (.same (.int .i64 (hQ x y))) [.I (b4 x),.I (b4 y)]:=by
 refine cv ?_;simp only[Vj];obtain⟨O,ar⟩:=G;have tO:=m5 x;have rC:=m5 y;have wR:=l4 x;have DX:=l4 y;have aeu:=@afb x y;have k7:=@afb y x
 by_cases av:(aJ x).length=(aJ y).length
 ·generalize aM:aJ x=a at *;generalize ae:aJ y=b at *;have O3:((D a:Int)==(D b:Int))=true:=by simp[av]
  simp only[go_sem,go_sem_proc,n4,b4,aM,ae,O3,ai];refine dm [0,1] [] (λ(n:Nat) tm mem=>n<=D a/\a.drop n=b.drop n/\tm 5=.I (.int .i64 ((n:Int)-1))) (λn=>n) (D a) (by refine⟨bX _,by rw[T4,av,T4],?_⟩;simp only[e7,reduceIte];rw[eM _]) ?_;intro vs ms aR aN;simp only[go_sem,go_sem_proc,n4,b4,aM,ae] at aR aN;subst aR aN;rintro n tm mem M-⟨aH,Y,bt⟩;simp only[go_sem,go_sem_proc,n4,a6] at M;obtain⟨ao,E⟩:=M;rcases n with _|n
  ·have e:a=b:=by simpa using Y
   have nZ:(x:Int)=y:=by rw[<-wR,<-DX,e]
   simp only[go_sem,go_sem_proc,n4,ao,E,bt,lG,l6,show ¬ ((0:Int)-1>=0) by omega,decide_false]
   repeat' (first|refine ax ?_ ?_|fail)<;>intro h<;>simp only[h,go_sem,go_sem_proc,n4,ao,E,bt,lG,l6,show ¬ ((0:Int)-1>=0) by omega,decide_false]
   rw[nZ];simp[hQ]
  ·have hw:((n+1:Nat):Int)-1=(n:Int):=by omega
   have m6:a[n]?=some a[n]:=bu (by omega);have nv:b[n]?=some b[n]:=bu (by omega)
   have aa:hQ a[n] b[n]=hQ x y\/a[n]=b[n]:=by
    by_cases E:a[n]<b[n]
    ·left
     have:=afc tO rC av n aH Y E;simp only[hQ];rw[ab (by simpa using E),ab (by simp;omega)]
    ·by_cases H:b[n]<a[n]
     ·left
      have:=afc rC tO av.symm n (by omega) Y.symm H;simp only[hQ];rw[ag (by simp;omega),ab (by simp;omega),ag (by simp;omega),ab (by simp;omega)]
     ·right;omega
   by_cases aW:a[n]=b[n]
   ·simp only[go_sem,go_sem_proc,n4,ao,E,bt,hw,m6,nv,aW,ad,show (n:Int)>=0 by omega,decide_true,bh,beq_self_eq_true,a6]
    repeat' (first|refine ax ?_ ?_|fail)<;>intro h<;>simp only[h,go_sem,go_sem_proc,n4,ao,E,bt,hw,m6,nv,aW,ad,show (n:Int)>=0 by omega,decide_true,bh,beq_self_eq_true,a6]
    exact⟨n,by omega,by omega,by rw[iu (by omega:n<D a),iu (by omega:n<D b),aW,Y],by rw[eM _]⟩
   ·have qD:(a[n]==b[n])=false:=by simpa using aW
    simp only[go_sem,go_sem_proc,n4,ao,E,bt,hw,m6,nv,qD,ad,show (n:Int)>=0 by omega,decide_true,bh,a6]
    repeat' (first|refine ax ?_ ?_|fail)<;>intro h<;>simp only[h,go_sem,go_sem_proc,n4,ao,E,bt,hw,m6,nv,qD,ad,show (n:Int)>=0 by omega,decide_true,bh,a6]
    rw[aa.resolve_right aW]
 ·have O3:(((aJ x).length:Int)==((aJ y).length:Int))=false:=by simp;omega
  have aa:hQ (aJ x).length (aJ y).length=hQ x y:=by
   simp only[hQ];rcases ir (aJ x).length (aJ y).length with h|h
   ·have:=aeu h;rw[ab (by simp;omega),ab (by simp;omega)]
   ·have:=k7 (by omega);rw[ag (by simp;omega),ab (by simp;omega),ag (by simp;omega),ab (by simp;omega)]
  simp only[go_sem,go_sem_proc,n4,b4,O3,aa,ai];repeat' (first|refine ax ?_ ?_|fail)<;>intro h<;>simp only[h,go_sem,go_sem_proc,n4,b4,O3,aa,ai]
theorem afd (p wS vc si c a b:Int)(h:wS+p*c=vc+si):wS+p*((c+a+b)%1048576)+p*1048576*((c+a+b)/1048576)=vc+p*a+(si+p*b):=by
 have E:=BH (c+a+b) 1048576
 have H:p*((c+a+b)%1048576)+p*1048576*((c+a+b)/1048576)=p*(c+a+b):=by
  rw[iB,<-iA,E]
 have af:p*(c+a+b)=p*c+p*a+p*b:=by rw[iA,iA]
 omega
def O4:=cj vz λ(x,y)=>cN ((aJ x).length<=100000/\(aJ y).length<=100000) (.own 1 ((aJ (x+y)).map ad))
@[go_sem] theorem afe (x:Nat)(y:Nat)(G:(aJ x).length<=100000/\(aJ y).length<=100000):O4 [b4 x,b4 y]=some (.own 1 ((aJ (x+y)).map ad)):=(cu yg (x,y)).trans (cT G _)
theorem arW (T:bb)(eK:T qC=zC zK vx)(x:Nat)(y:Nat)(G:(aJ x).length<=100000/\(aJ y).length<=100000):WP T Vh (.own 1 ((aJ (x+y)).map ad)) [.I (b4 x),.I (b4 y)]:=by
 refine cv ?_;simp only[Vh];obtain⟨O,ar⟩:=G;simp only[go_sem,go_sem_proc,eK,b4,ai];refine aqT (λst=>∃a b:List Int,eV a/\eV b/\D a<=100000/\D b<=D a/\bc a+bc b=x+y/\st.tm 0=.I (.X (a.map ad))/\st.tm 1=.I (.X (b.map ad))/\st.mem 172019=none) (λh=>?_) (λh=>?_) ?_
 ·simp only[go_sem,go_sem_proc,eK,b4];repeat' (first|refine ax ?_ ?_|fail)<;>intro h<;>simp only[h,go_sem,go_sem_proc,eK,b4]
  refine⟨aJ y,aJ x,m5 y,m5 x,ar,?_,by rw[l4,l4];omega,rfl,rfl⟩
  simp at h;omega
 ·simp only[go_sem,go_sem_proc,eK,b4];repeat' (first|refine ax ?_ ?_|fail)<;>intro h<;>simp only[h,go_sem,go_sem_proc,eK,b4]
  refine⟨aJ x,aJ y,m5 x,m5 y,O,?_,by rw[l4,l4],rfl,rfl⟩
  simp at h;omega
 rintro⟨tm,mem⟩ ⟨a,b,VI,wT,ja,kL,ak,ao,E,hm⟩;dsimp only at ao E hm;have oT:IntKind.i64.wrap ((D a:Int)+1)=((D a+1:Nat):Int):=by rw[eM _];rfl
 have kt:8*(D a+1)<=140737488355328:=by omega
 have eR:(D a)+1<=maxLen:=Gw _ (by omega);simp only[go_sem,go_sem_proc,eK,ao,E,hm,oT,kt,eR,Gv,ai]
 refine dm [0,1,5,20,21] [] (λ(i,c,o) tm mem=>i<=D a/\(o:List Int).length=D a+1/\eV (o.take i)/\0<=c/\c<=1/\bc (o.take i)+1048576^i*c=bc (a.take i)+bc (b.take i)/\tm 22=.I (.int .i64 (i:Nat))/\tm 6=.I (.int .i64 c)/\mem 172019=some (0,a8 ad o))
  (λ(i,_)=>D a-i) (0,0,dD (D a+1) 0) (by refine⟨fs _,by simp,by simp[eV],by omega,by omega,by simp[bc],?_,?_,?_⟩<;>rfl) ?_
 intro vs ms aR aN;simp only[go_sem,go_sem_proc,eK,ao,E,ai] at aR aN;subst aR aN;rintro⟨i,c,o⟩ tm mem M-⟨J,bL,iN,oU,g0,jX,sx,bU,hm⟩;simp only[go_sem,go_sem_proc,eK,a6] at M;obtain⟨ao,E,bt,tP,Gx⟩:=M;rcases dv (i<D a) with az|b2
 ·have m6:a[i]?=some a[i]:=bu az;have Br:=lJ VI i az;have fy:IntKind.i64.wrap ((i:Int)+1)=((i+1:Nat):Int):=by rw[eM _];rfl
  have qF:i<D o:=by omega
  have hY:i+1<=(a8 ad o).length:=by rw[qE];omega
  have jJ:IntKind.i64.wrap (c+a[i])=c+a[i]:=wrap64 _ (by omega) (by omega);have gL:=λd=>yf o i d qF
  have fin:∀bi:Int,0<=bi->bi<1048576->bc (b.take (i+1))=bc (b.take i)+1048576^i*bi ->
    ∃bk:Nat×Int×List Int,D a-bk.1<D a-i/\bk.1<=D a/\bk.2.2.length=D a+1/\eV (bk.2.2.take bk.1)/\0<=bk.2.1/\bk.2.1<=1/\bc (bk.2.2.take bk.1)+1048576^bk.1*bk.2.1=bc (a.take bk.1)+bc (b.take bk.1) /\
     Q.I (Data.int .i64 ((i+1:Nat):Int))=Q.I (Data.int .i64 (bk.1:Int))/\Q.I (Data.int .i64 ((c+a[i]+bi)/1048576))=Q.I (Data.int .i64 bk.2.1)/\some (0,a8 ad (o.set i ((c+a[i]+bi)%1048576)))=some (0,a8 ad bk.2.2):=by
   intro bi sy kt DY;refine⟨(i+1,(c+a[i]+bi)/1048576,o.set i ((c+a[i]+bi)%1048576)),by dsimp only;omega,by dsimp only;omega,by simp[bL],?_,by dsimp only;omega,by dsimp only;omega,?_,rfl,rfl,rfl⟩
   ·dsimp only;rw[ae8 _ (by simpa using qF),DW];refine⟨iN,?_⟩;simp only[zQ];omega
   ·dsimp only;rw[lI _ _ (by simpa using qF),DW,lI a i az,DY,ns];simp only[zQ];exact afd _ _ _ _ _ _ _ jX
  rcases dv (i<D b) with rD|VJ
  ·have nv:b[i]?=some b[i]:=bu rD;have vA:=lJ wT i rD;have ld:IntKind.i64.wrap (c+a[i]+b[i])=c+a[i]+b[i]:=wrap64 _ (by omega) (by omega);have iC:decide ((i:Int)<(D b:Int))=true:=dj;have jK:decide ((i:Int)<(D a:Int))=true:=dj;simp only[go_sem,go_sem_proc,eK,ao,E,bt,tP,Gx,sx,bU,hm,m6,nv,fy,jJ,ld,iC,jK,az,hY,gL,rB,oP,ad,cD,ai,bh,a6,show i<D a+1 by omega,show ¬ ((20:Int)<0) by omega]
   repeat' (first|refine ax ?_ ?_|fail)<;>intro h<;>simp only[h,go_sem,go_sem_proc,eK,ao,E,bt,tP,Gx,sx,bU,hm,m6,nv,fy,jJ,ld,iC,jK,az,hY,gL,rB,oP,ad,cD,ai,bh,a6,show i<D a+1 by omega,show ¬ ((20:Int)<0) by omega]
   exact fin b[i] vA.1 vA.2 (lI b i rD)
  ·have iC:decide ((i:Int)<(D b:Int))=false:=c5;have jK:decide ((i:Int)<(D a:Int))=true:=dj;simp only[go_sem,go_sem_proc,eK,ao,E,bt,tP,Gx,sx,bU,hm,m6,fy,jJ,iC,jK,az,hY,gL,rB,oP,ad,cD,ai,bh,a6,show i<D a+1 by omega,show ¬ ((20:Int)<0) by omega]
   repeat' (first|refine ax ?_ ?_|fail)<;>intro h<;>simp only[h,go_sem,go_sem_proc,eK,ao,E,bt,tP,Gx,sx,bU,hm,m6,fy,jJ,iC,jK,az,hY,gL,rB,oP,ad,cD,ai,bh,a6,show i<D a+1 by omega,show ¬ ((20:Int)<0) by omega]
   have:=fin 0 (by omega) (by omega) (by rw[dx (by omega),dx (by omega)];simp)
   simpa using this
 ·obtain rfl:i=D a:=by omega
  have jK:decide ((D a:Int)<(D a:Int))=false:=c5;have qF:(D a)<D o:=by omega
  have hY:(D a)+1<=(a8 ad o).length:=by rw[qE];omega
  have gL:=λd=>yf o (D a) d qF
  have VK:eV (o.set (D a) c):=by
   have:o.set (D a) c=(o.set (D a) c).take (D a+1):=by rw[dx (by simp[bL])]
   rw[this,ae8 _ (by simpa using qF),DW];refine⟨iN,?_⟩;simp only[zQ];omega
  have VL:bc (o.set (D a) c)=x+y:=by
   have:o.set (D a) c=(o.set (D a) c).take (D a+1):=by rw[dx (by simp[bL])]
   rw[this,lI _ _ (by simpa using qF),DW];simp only[zQ];rw[jX,dx (bX _),dx kL,ak]
  have nr:=VD (o.set (D a) c) 172019 0 (a1 mem 172019 0 (a8 ad (o.set (D a) c))) (by simp[a1]) (by simp[bL];omega);rw[iY,bL] at nr;have fJ:=VG (mem:=a1 mem 172019 0 (a8 ad (o.set (D a) c))) (k:=172019) (g:=0) (n:=x+y) (by simp[a1]) VK (by rw[VL];rfl);simp only[go_sem,go_sem_proc,eK,ao,E,bt,tP,Gx,sx,bU,hm,jK,hY,gL,nr,fJ,cD,ai,show (D a)<D a+1 by omega]
  repeat' (first|refine ax ?_ ?_|fail)<;>intro h<;>simp only[h,go_sem,go_sem_proc,eK,ao,E,bt,tP,Gx,sx,bU,hm,jK,hY,gL,nr,fJ,cD,ai,show (D a)<D a+1 by omega]
theorem aff (n:Int):bits .and .i64 (n/1048576) 1=n/1048576%2:=by
 generalize n/1048576=m;have H:(1:Int)=((2^1-1:Nat):Int):=by decide
 have E:m%18446744073709551616%2=m%2:=by omega
 obtain⟨a,aM⟩:∃a:Nat,(a:Int)=m%18446744073709551616:=⟨(m%18446744073709551616).toNat,by omega⟩
 have e:BitVec.ofInt 64 m=BitVec.ofNat 64 a:=by
  apply BitVec.eq_of_toInt_eq;rw[BitVec.toInt_ofInt,BitVec.toInt_ofNat',aM];simp[aeV,aeW]
 have aB:bits .and .i64 m 1=bits .and .i64 (a:Int) 1:=by
  simp only[bits];rw[show IntKind.i64.bits=64 from rfl,e,BitVec.ofInt_natCast]
 rw[aB,<-E,<-aM];have Ud:a<2^64:=by omega
 conv=>lhs;rw[H]
 simp only[bits,BitVec.ofInt_natCast,BitVec.toNat_and,BitVec.toNat_ofNat,show IntKind.i64.bits=64 from rfl,Kh Ud];rw[show (2^1-1:Nat)%2^64=2^1-1 by decide,aeX,wrap64 _ (by omega) (by omega)]
 omega
theorem VM (o:List Int)(j:Nat)(d:Int)(h:j<D o):bc (o.set j d)=bc o+1048576^j*(d-o[j]):=by
 induction o generalizing j with
 |nil=>simp at h
 |cons x r aA =>
  cases j with
  |zero=>simp[bc];omega
  |succ j =>
   simp only[List.set_cons_succ,tJ,List.getElem_cons_succ,ns];rw[aA j (by simpa using h),iA,<-iB,nt 1048576 (1048576^j)];omega
theorem zR {o:List Int}(h:eV o)(j:Nat){d:Int}(Y:0<=d/\d<1048576):eV (o.set j d):=by
 intro x O;rcases List.mem_or_eq_of_mem_set O with E|E
 ·exact h x E
 ·rw[E];exact Y
theorem arX (p wS vc si c a b:Int)(h:wS=vc-si+p*c):wS+p*((a-c-b)%1048576)=vc+p*a-(si+p*b)-p*1048576*((a-c-b)/1048576):=by
 have E:=BH (a-c-b) 1048576
 have H:p*((a-c-b)%1048576)+p*1048576*((a-c-b)/1048576)=p*(a-c-b):=by
  rw[iB,<-iA,E]
 have af:p*(a-c-b)=p*a-p*c-p*b:=by rw[Gy,Gy]
 omega
def O5:=cj vz λ(x,y)=>cN ((aJ x).length<=100000/\y<=x) (.own 1 ((aJ (x-y)).map ad))
@[go_sem] theorem VN (x:Nat)(y:Nat)(G:(aJ x).length<=100000/\y<=x):O5 [b4 x,b4 y]=some (.own 1 ((aJ (x-y)).map ad)):=(cu yg (x,y)).trans (cT G _)
theorem arY (T:bb)(fN:T vp=aV BE)(eK:T qC=zC zK vx)(x:Nat)(y:Nat)(G:(aJ x).length<=100000/\y<=x):WP T Vi (.own 1 ((aJ (x-y)).map ad)) [.I (b4 x),.I (b4 y)]:=by
 refine cv ?_;simp only[Vi];obtain⟨O,afg⟩:=G;have tO:=m5 x;have rC:=m5 y;have wR:=l4 x;have DX:=l4 y
 have lf:(aJ y).length<=(aJ x).length:=by
  rw[hb];exact vB afg (hb.1 (bX _))
 generalize aM:aJ x=a at *;generalize ae:aJ y=b at *;have ja:(D a)<=1000000:=by omega
 simp only[go_sem,go_sem_proc,fN,eK,b4,aM,ae,ja,ai]
 refine dm [1,5,12] [] (λ(i,c,o) tm mem=>i<=D a/\(o:List Int).length=D a/\eV o/\o.drop i=a.drop i/\(c=0\/c=1)/\bc (o.take i)=bc (a.take i)-bc (b.take i)+1048576^i*c/\tm 13=.I (.int .i64 (i:Nat))/\tm 6=.I (.int .i64 c)/\mem 173010=some (0,a8 ad o))
  (λ(i,_)=>D a-i) (0,0,a) (by refine⟨fs _,rfl,tO,rfl,.inl rfl,by simp[bc],?_,?_,?_⟩<;>rfl) ?_
 intro vs ms aR aN;simp only[go_sem,go_sem_proc,fN,eK,b4,aM,ae,ai] at aR aN;subst aR aN;rintro⟨i,c,o⟩ tm mem M-⟨J,bL,iN,qG,arZ,jX,n5,bU,hm⟩;simp only[go_sem,go_sem_proc,fN,eK,a6] at M;obtain⟨E,bt,jb⟩:=M;rcases dv (i<D a) with az|b2
 ·have qF:i<D o:=by omega
  have ar0:o[i]=a[i]:=by
   have E:=iu qF;have H:=iu az;rw[qG,H] at E;exact (wU E).1.symm
  have Br:=lJ tO i az;have fy:IntKind.i64.wrap ((i:Int)+1)=((i+1:Nat):Int):=by rw[eM _];rfl
  have hY:i+1<=(a8 ad o).length:=by rw[qE];omega
  have fO:=KR o i qF;rw[ar0] at fO;have jJ:IntKind.i64.wrap (a[i]-c)=a[i]-c:=wrap64 _ (by omega) (by omega);have gL:=λd=>yf o i d qF
  have fin:∀bi:Int,0<=bi->bi<1048576->bc (b.take (i+1))=bc (b.take i)+1048576^i*bi ->
    ∃bk:Nat×Int×List Int,D a-bk.1<D a-i/\bk.1<=D a/\bk.2.2.length=D a/\eV bk.2.2/\bk.2.2.drop bk.1=a.drop bk.1/\(bk.2.1=0\/bk.2.1=1)/\bc (bk.2.2.take bk.1)=bc (a.take bk.1)-bc (b.take bk.1)+1048576^bk.1*bk.2.1 /\
     Q.I (Data.int .i64 ((i+1:Nat):Int))=Q.I (Data.int .i64 (bk.1:Int))/\Q.I (Data.int .i64 ((a[i]-c-bi)/1048576%2))=Q.I (Data.int .i64 bk.2.1)/\some (0,a8 ad (o.set i ((a[i]-c-bi)%1048576)))=some (0,a8 ad bk.2.2):=by
   intro bi sy kt DY;have aO:(a[i]-c-bi)/1048576=0\/(a[i]-c-bi)/1048576 = -1:=by omega
   refine⟨(i+1,(a[i]-c-bi)/1048576%2,o.set i ((a[i]-c-bi)%1048576)),by dsimp only;omega,by dsimp only;omega,by simp[bL],zR iN i (by omega),?_,by dsimp only;omega,?_,rfl,rfl,rfl⟩
   ·dsimp only;rw[tx (by omega)];have E:=iu qF;have H:=iu az;rw[qG,H] at E;exact (wU E).2.symm
   ·dsimp only;rw[lI _ _ (by simpa using qF),DW,lI a i az,DY,ns];simp only[zQ];rw[arX _ _ _ _ _ _ _ jX];rcases aO with e|e<;>rw[e]<;>simp
  have jK:decide ((i:Int)<(D a:Int))=true:=dj;rcases dv (i<D b) with rD|VJ
  ·have nv:b[i]?=some b[i]:=bu rD;have vA:=lJ rC i rD;have ld:IntKind.i64.wrap (a[i]-c-b[i])=a[i]-c-b[i]:=wrap64 _ (by omega) (by omega);have iC:decide ((i:Int)<(D b:Int))=true:=dj;refine aY ?_;repeat' (intro h<;>simp only[h,go_sem,go_sem_proc,fN,eK,E,bt,jb,n5,bU,hm,nv,fy,jJ,ld,iC,jK,az,hY,fO,gL,rB,aff,oP,ad,cD,ai,bh,a6,show ¬ ((20:Int)<0) by omega]<;>try refine ax ?_ ?_)
   exact fin b[i] vA.1 vA.2 (lI b i rD)
  ·have iC:decide ((i:Int)<(D b:Int))=false:=c5;refine aY ?_;repeat' (intro h<;>simp only[h,go_sem,go_sem_proc,fN,eK,E,bt,jb,n5,bU,hm,fy,jJ,iC,jK,az,hY,fO,gL,rB,aff,oP,ad,cD,ai,bh,a6,show ¬ ((20:Int)<0) by omega]<;>try refine ax ?_ ?_)
   have:=fin 0 (by omega) (by omega) (by rw[dx (by omega),dx (by omega)];simp)
   simpa using this
 ·obtain rfl:i=D a:=by omega
  have jK:decide ((D a:Int)<(D a:Int))=false:=c5;rw[dx (by omega),dx (by omega),dx (by omega),wR,DX] at jX
  have VL:bc o=((x-y:Nat):Int):=by
   have E:=zE iN;rw[bL] at E;rcases arZ with rfl|rfl
   ·rw[jX];omega
   ·omega
  have nr:=VD o 173010 0 mem hm (by omega);rw[bL] at nr;have fJ:=VG hm iN VL;refine aY ?_;repeat' (intro h<;>simp only[h,go_sem,go_sem_proc,fN,eK,E,bt,jb,n5,bU,hm,jK,nr,fJ,ai]<;>try refine ax ?_ ?_)
theorem afh (p wS V c x y zS:Int)(h:wS+p*c=V):wS+p*((zS+x*y+c)%1048576-zS)+p*1048576*((zS+x*y+c)/1048576)=V+p*(x*y):=by
 have E:=BH (zS+x*y+c) 1048576
 have H:p*((zS+x*y+c)%1048576)+p*1048576*((zS+x*y+c)/1048576)=p*(zS+x*y+c):=by
  rw[iB,<-iA,E]
 have af:p*(zS+x*y+c)=p*zS+p*(x*y)+p*c:=by rw[iA,iA]
 rw[Gy];omega
theorem afi {o x y c:Int}(bL:0<=o/\o<1048576)(O:0<=x/\x<1048576)(ar:0<=y/\y<1048576)(G:0<=c/\c<1048576):
  0<=x*y/\x*y<=1099509530625/\0<=(o+x*y+c)/1048576/\(o+x*y+c)/1048576<1048576:=by
 have E:0<=x*y:=yh O.1 ar.1;have H:x*y<=1048575*1048575:=VO (by omega) (by omega) ar.1 (by omega);omega
theorem afj {o:List Int}{n j:Nat}(h:o.drop n=dD (D o-n) 0)(ah:n<=j)(az:j<D o):o[j]=0:=by
 have E:(o.drop n)[j-n]?=some o[j]:=by rw[lB,show n+(j-n)=j by omega,bu az]
 rw[h,List.getElem?_replicate] at E
 split at E
 ·exact (pN E).symm
 ·cases E
theorem afk {o:List Int}{n:Nat}{d:Int}(h:o.drop n=dD (D o-n) 0)(az:n<D o):(o.set n d).drop (n+1)=dD ((o.set n d).length-(n+1)) 0:=by
 rw[tx (by omega),iY];have E:=iu az;rw[h,show (D o)-n=(D o-(n+1))+1 by omega,qs] at E
 exact (wU E).2.symm
def O6:=cj vz λ(x,y)=>cN ((aJ x).length<=10000/\(aJ y).length<=10000) (.own 1 ((aJ (x*y)).map ad))
@[go_sem] theorem VP (x:Nat)(y:Nat)(G:(aJ x).length<=10000/\(aJ y).length<=10000):O6 [b4 x,b4 y]=some (.own 1 ((aJ (x*y)).map ad)):=(cu yg (x,y)).trans (cT G _)
theorem ar1 (T:bb)(eK:T qC=zC zK vx)(x:Nat)(y:Nat)(G:(aJ x).length<=10000/\(aJ y).length<=10000):WP T Vg (.own 1 ((aJ (x*y)).map ad)) [.I (b4 x),.I (b4 y)]:=by
 refine cv ?_;simp only[Vg];obtain⟨O,ar⟩:=G;have tO:=m5 x;have rC:=m5 y;have wR:=l4 x;have DX:=l4 y;generalize aM:aJ x=a at *;generalize ae:aJ y=b at *;have oT:IntKind.i64.wrap ((D a:Int)+(D b:Int))=((D a+D b:Nat):Int):=by rw[eM _];rfl
 have kt:8*(D a+D b)<=140737488355328:=by omega
 have eR:(D a)+D b<=maxLen:=Gw _ (by omega);simp only[go_sem,go_sem_proc,eK,b4,aM,ae,oT,kt,eR,Gv,ai]
 refine dm [1,5,18,19] [] (λ(i,o) tm mem=>i<=D a/\(o:List Int).length=D a+D b/\eV o/\o.drop (i+D b)=dD (D o-(i+D b)) 0/\bc o=bc (a.take i)*y/\tm 20=.I (.int .i64 (i:Nat))/\mem 161017=some (0,a8 ad o))
  (λ(i,_)=>D a-i) (0,dD (D a+D b) 0) (by
   have aW:∀n,bc (dD n 0)=0:=by
    intro n
    induction n with
    |zero=>rfl
    |succ n aA=>rw[qs,tJ,aA];rfl
   refine⟨fs _,by simp,λd Y=>by rw[Gz] at Y;omega,by simp,by rw[aW];simp[bc],?_,?_⟩<;>rfl) ?_
 intro vs ms aR aN;simp only[go_sem,go_sem_proc,eK,b4,aM,ae,oT,ai] at aR aN;subst aR aN;rintro⟨i,o⟩ tm mem M-⟨J,bL,iN,sA,jX,tP,hm⟩;simp only[go_sem,go_sem_proc,eK,a6] at M;obtain⟨E,bt,j2,wV⟩:=M;rcases dv (i<D a) with az|b2
 ·have m6:a[i]?=some a[i]:=bu az;have Br:=lJ tO i az;have rr:=lI a i az;generalize a[i]=hZ at *;have iC:decide ((i:Int)<(D a:Int))=true:=dj;simp only[go_sem,go_sem_proc,eK,E,bt,j2,wV,tP,m6,iC,ad,ai,bh,a6]
  refine dm [1,5,6,7,18,19,20,25,26] [] (λ((k,c,o):Nat×Int×List Int) tm mem=>k<=D b/\D o=D a+D b/\eV o/\o.drop (i+D b)=dD (D o-(i+D b)) 0/\0<=c/\c<1048576/\bc o+1048576^(i+k)*c=bc (a.take i)*y+1048576^i*(hZ*bc (b.take k)) /\
    tm 27=.I (.int .i64 (k:Nat))/\tm 8=.I (.int .i64 c)/\mem 161017=some (0,a8 ad o))
   (λ(k,_)=>D b-k) (0,0,o) (by refine⟨fs _,bL,iN,sA,by omega,by omega,by simp[bc,jX],?_,?_,hm⟩<;>rfl) ?_
  intro vs ms aR aN;simp only[go_sem,go_sem_proc,eK,E,bt,j2,wV,tP,ad,ai] at aR aN;subst aR aN;rintro⟨k,c,o⟩ tm mem M-⟨pg,bL,iN,sA,oU,g0,jX,afl,cf,hm⟩;simp only[go_sem,go_sem_proc,eK,a6] at M;obtain⟨E,bt,bU,bM,j2,wV,tP,afm,afn⟩:=M;rcases dv (k<D b) with KT|KT
  ·have nv:b[k]?=some b[k]:=bu KT;have GA:=lJ rC k KT;have pU:i+k<D o:=by omega
   have VQ:=lJ iN (i+k) pU;obtain⟨dJ,cU,tQ,qH⟩:=afi VQ Br GA ⟨oU,g0⟩;have iC:decide ((k:Int)<(D b:Int))=true:=dj;have fy:IntKind.i64.wrap ((k:Int)+1)=((k+1:Nat):Int):=by rw[eM _];rfl
   have jJ:IntKind.i64.wrap ((i:Int)+(k:Int))=((i+k:Nat):Int):=by rw[eM _];rfl
   have ld:IntKind.i64.wrap (hZ*b[k])=hZ*b[k]:=wrap64 _ (by omega) (by omega);have zT:IntKind.i64.wrap (o[i+k]+hZ*b[k])=o[i+k]+hZ*b[k]:=wrap64 _ (by omega) (by omega);have vC:IntKind.i64.wrap (o[i+k]+hZ*b[k]+c)=o[i+k]+hZ*b[k]+c:=wrap64 _ (by omega) (by omega);have hY:i+k+1<=(a8 ad o).length:=by rw[qE];omega
   have fO:=KR o (i+k) pU;have gL:=λd=>yf o (i+k) d pU;have jm:i+k<D a+D b:=by omega
   refine aY ?_;repeat' (intro h<;>simp only[h,go_sem,go_sem_proc,eK,E,bt,bU,bM,j2,wV,tP,afm,afn,afl,cf,hm,nv,iC,fy,jJ,ld,zT,vC,jm,hY,fO,gL,rB,oP,ad,cD,ai,bh,a6,show ¬ ((20:Int)<0) by omega]<;>try refine ax ?_ ?_)
   refine⟨(k+1,(o[i+k]+hZ*b[k]+c)/1048576,o.set (i+k) ((o[i+k]+hZ*b[k]+c)%1048576)),by dsimp only;omega,by dsimp only;omega,by simp[bL],zR iN _ (by omega),?_,tQ,qH,?_,rfl,rfl,rfl⟩
   ·dsimp only;rw[tx (by omega),iY,sA]
   ·dsimp only;rw[VM _ _ _ pU,lI b k KT,<-qp,ns,afh _ _ _ _ _ _ _ jX];rw[iA (hZ),iA (1048576^i),afo]
    have:(1048576:Int)^i*(hZ*(1048576^k*b[k]))=1048576^i*1048576^k*(hZ*b[k]):=by
     rw[<-iB (hZ),nt (hZ) (1048576^k),iB (1048576^k),<-iB]
    omega
  ·obtain rfl:k=D b:=by omega
   have iC:decide ((D b:Int)<(D b:Int))=false:=c5;have pU:i+D b<D o:=by omega
   have aW:=afj sA (bX _) pU;have fy:IntKind.i64.wrap ((i:Int)+1)=((i+1:Nat):Int):=by rw[eM _];rfl
   have jJ:IntKind.i64.wrap ((i:Int)+(D b:Int))=((i+D b:Nat):Int):=by rw[eM _];rfl
   have ld:IntKind.i64.wrap (0+c)=c:=by rw[DZ];exact wrap64 _ (by omega) (by omega)
   have hY:i+D b+1<=(a8 ad o).length:=by rw[qE];omega
   have fO:=KR o (i+D b) pU;rw[aW] at fO;have gL:=λd=>yf o (i+D b) d pU;have jm:i+D b<D a+D b:=by omega
   refine aY ?_;repeat' (intro h<;>simp only[h,go_sem,go_sem_proc,eK,E,bt,bU,bM,j2,wV,tP,afm,afn,afl,cf,hm,iC,fy,jJ,ld,jm,hY,fO,gL,ad,cD,ai]<;>try refine ax ?_ ?_)
   refine⟨(i+1,o.set (i+D b) c),by dsimp only;omega,by dsimp only;omega,by simp[bL],zR iN _ ⟨oU,g0⟩,?_,?_,rfl,rfl⟩
   ·dsimp only;have:=afk (d:=c) sA pU;rwa [show i+D b+1=i+1+(D b) by omega] at this
   ·dsimp only;rw[VM _ _ _ pU,aW,rr];rw[dx (bX _),DX] at jX;rw[KU,jX,tR,iB]
 ·obtain rfl:i=D a:=by omega
  have iC:decide ((D a:Int)<(D a:Int))=false:=c5;rw[dx (bX _),wR] at jX;have nr:=VD o 161017 0 mem hm (by omega);rw[bL] at nr;have fJ:=VG hm iN (n:=x*y) (by rw[jX];rfl);refine aY ?_;repeat' (intro h<;>simp only[h,go_sem,go_sem_proc,eK,E,bt,j2,wV,tP,hm,iC,nr,fJ,ai]<;>try refine ax ?_ ?_)
abbrev VR:Nat×Int->List Data:=λ(x,d)=>[b4 x,.int .i64 d]
def VS:=cj VR λ(x,d)=>cN ((aJ x).length<=100000/\0<d/\d<1048576) (.same (.cH [b4 (x/d.toNat),.int .i64 (x%d.toNat:Nat)]))
theorem ar2:∀a b,VR a=VR b->a=b:=by
  rintro⟨a7,d1⟩ ⟨b3,d2⟩ h;simp only[a6,b4,Data.X.injEq,Data.int.injEq] at h;exact dQ (Kl (map_inj fi _ _ h.1)) h.2.1.2
@[go_sem] theorem afp (x:Nat)(d:Int)(G:(aJ x).length<=100000/\0<d/\d<1048576):VS [b4 x,.int .i64 d]=some (.same (.cH [b4 (x/d.toNat),.int .i64 (x%d.toNat:Nat)])):=(cu ar2 (x,d)).trans (cT G _)
theorem ar3 (T:bb)(eK:T qC=zC zK vx)(x:Nat)(d:Int)(G:(aJ x).length<=100000/\0<d/\d<1048576):WP T Vk (.same (.cH [b4 (x/d.toNat),.int .i64 (x%d.toNat:Nat)])) [.I (b4 x),.I (.int .i64 d)]:=by
 refine cv ?_;simp only[Vk];obtain⟨O,BI,j3⟩:=G;have tO:=m5 x;have wR:=l4 x;generalize aM:aJ x=a at *;have kt:8*D a<=140737488355328:=by omega
 have eR:(D a)<=maxLen:=Gw _ (by omega);have kv:(d=0)=False:=by simp;omega
 simp only[go_sem,go_sem_proc,eK,b4,aM,kt,eR,Gv,ai]
 refine dm [0,1,6] [] (λ((n,r,o):Nat×Int×List Int) tm mem=>n<=D a/\D o=D a/\eV o/\0<=r/\r<d/\bc (a.drop n)=d*bc (o.drop n)+r/\tm 8=.I (.int .i64 ((n:Nat)-1))/\tm 7=.I (.int .i64 r)/\mem 176011=some (0,a8 ad o))
  (λ(n,_)=>n) (D a,0,dD (D a) 0) (by
   refine⟨bX _,by simp,λd Y=>by rw[Gz] at Y;omega,by omega,by omega,by simp[bc],?_,?_,?_⟩
   ·simp only[e7,reduceIte];rw[eM _]
   ·rfl
   ·rfl) ?_
 intro vs ms aR aN;simp only[go_sem,go_sem_proc,eK,b4,aM,ai] at aR aN;subst aR aN;rintro⟨n,r,o⟩ tm mem M-⟨aH,bL,iN,pV,BJ,ak,cf,bM,hm⟩;simp only[go_sem,go_sem_proc,eK,a6] at M;obtain⟨ao,E,bU⟩:=M;rcases n with _|n
 ·have aO:bc o=(x/d.toNat:Nat)/\r=(x%d.toNat:Nat):=by
   rw[l2,l2,wR] at ak;have e:(d.toNat:Int)=d:=by omega
   constructor
   ·rw[afq,e,ak,yi,afr _ _ (by omega),VT pV BJ];omega
   ·rw[afs,e,ak,yi,aft,VU pV BJ]
  have iz:=OY o (by omega);rw[zF iN,aO.1] at iz;have fV:Q.ref 176011 0 1 0 (D a)=Q.ref 176011 0 1 0 (D o):=by rw[bL]
  rw[fV] at bU;refine aY ?_;repeat' (intro h<;>simp only[h,go_sem,go_sem_proc,eK,ao,E,bU,bM,cf,hm,iz,mJ hl,lG,l6,show ¬ ((0:Int)-1>=0) by omega,decide_false,lH]<;>try refine ax ?_ ?_)
  all_goals rw[aO.2]
 ·have m6:a[n]?=some a[n]:=bu (by omega);have O7:=lJ tO n (by omega);have hw:((n+1:Nat):Int)-1=(n:Int):=by omega
  have gq:n<D o:=by omega
  have fy:IntKind.i64.wrap (r*2^min (DG 20) 64)=r*1048576:=by
   rw[show min (DG 20) 64=20 by decide]
   exact wrap64 _ (by omega) (by omega)
  have wW:bits .or .i64 (r*1048576) a[n]=r*1048576+a[n]:=Ue r a[n] pV (by omega) O7;have mK:0<=(r*1048576+a[n])/d:=VV (by omega) (by omega)
  have qI:(r*1048576+a[n])/d<1048576:=afu BI (by
   have:(r+1)*1048576<=d*1048576:=m7 (by omega) (by omega);rw[nt 1048576 d];omega)
  have vD:(r*1048576+a[n]).tdiv d=(r*1048576+a[n])/d:=GD (by omega);have D0:(r*1048576+a[n]).tmod d=(r*1048576+a[n])%d:=KV (by omega);have jJ:IntKind.i64.wrap ((r*1048576+a[n])/d)=(r*1048576+a[n])/d:=wrap64 _ (by omega) (by omega);have hY:n+1<=(a8 ad o).length:=by rw[qE];omega
  have gL:=λd=>yf o n d gq;have pP:n<D a:=by omega
  have ld:IntKind.i64.wrap ((n:Int)-1)=(n:Int)-1:=wrap64 _ (by omega) (by omega);refine aY ?_;repeat' (intro h<;>simp only[h,go_sem,go_sem_proc,eK,ao,E,bU,bM,cf,hm,hw,m6,fy,wW,vD,D0,jJ,ld,kv,pP,hY,gL,show (n:Int)>=0 by omega,decide_true,ad,cD,ai,bh,a6,show ¬ ((20:Int)<0) by omega]<;>try refine ax ?_ ?_)
  refine⟨(n,(r*1048576+a[n])%d,o.set n ((r*1048576+a[n])/d)),by dsimp only;omega,by dsimp only;omega,by simp[bL],zR iN n ⟨mK,qI⟩,VW _ (by omega),VX _ BI,?_,rfl,rfl,rfl⟩
  dsimp only;rw[iu (by omega:n<D a),iu (by simpa using gq:n<(o.set n ((r*1048576+a[n])/d)).length),tJ,tJ]
  simp only[zQ];rw[tx (by omega),ak];have:=BH (r*1048576+a[n]) d;rw[iA,iA,VY d 1048576];omega
def pad:Nat->Nat->List Int
 |0,_=>[]
 |n+1,x=>((x%1048576:Nat):Int)::pad n (x/1048576)
theorem ar4 (n x:Nat):(pad n x).length=n:=by
 induction n generalizing x with
 |zero=>rfl
 |succ n aA=>simp[pad,aA]
theorem ar5 (n x:Nat):eV (pad n x):=by
 induction n generalizing x with
 |zero=>intro d Y;cases Y
 |succ n aA =>
  unfold pad;rw[DB];exact⟨by omega,aA _⟩
theorem afv {l:List Int}(h:eV l):l=pad (D l) (bc l).toNat:=by
 induction l with
 |nil=>rfl
 |cons d r aA =>
  rw[DB] at h;have E:=pk h.2;have H:=aA h.2;simp only[h8,pad,tJ]
  congr 1
  ·omega
  ·rw[show (d+1048576*bc r).toNat/1048576=(bc r).toNat by omega]
   exact H
theorem ar6 {n x:Nat}(h:x<1048576^n):bc (pad n x)=x:=by
 induction n generalizing x with
 |zero=>simp at h;subst h;rfl
 |succ n aA =>
  unfold pad;rw[tJ,aA (by rw[aeU (by omega)];rwa [wJ] at h)];omega
theorem KW {pre u post:List Int}{i:Nat}(h:i<D u):fM 1 (fX (D pre+i) (a8 ad (pre++u++post)))=[.I (.int .i64 u[i])]:=by
 rw[KR _ _ (by simp;omega)]
 congr 3
 simp[List.getElem_append,h]
theorem afw {pre u post:List Int}{i:Nat}(h:i<D u)(d:Int):fM (D pre+i) (a8 ad (pre++u++post))++[.I (.int .i64 d)]++fX (D pre+i+1) (a8 ad (pre++u++post))=a8 ad (pre++u.set i d++post):=by
 rw[yf _ _ _ (by simp;omega)]
 congr 1
 rw[gM,List.set_append_right _ _ (by omega),Gf,List.set_append_left _ _ h,gM]
theorem BK (mem:Mem)(k g c0:Nat)(a b:List Q):a1 (a1 mem k g a) k c0 b=a1 mem k c0 b:=by
 funext j
 unfold a1
 split<;>rfl
theorem ar7 {mem:Mem}{k g:Nat}{a:List Q}(h:mem k=some (g,a)):a1 mem k g a=mem:=by
 funext j
 unfold a1
 split
 ·rename_i e;rw[e,h]
 ·rfl
structure KX where
 pre:List Int
 u:List Int
 post:List Int
 V:Nat
 q:Int
 k:Key
 g:Nat
def O8 (u:List Int)(V:Nat)(q:Int):Int:=if bc u-q*V<0 then bc u-q*V+V else bc u-q*V
def BL (u:List Int)(V:Nat)(q:Int):Int:=if bc u-q*V<0 then q-1 else q
def BM (a:KX):List Q:=a8 ad (a.pre++pad (D a.u) (O8 a.u a.V a.q).toNat++a.post)
def VZ (a:KX)(mem:Mem):Prop:=mem a.k=some (a.g,a8 ad (a.pre++a.u++a.post))/\eV a.u/\(aJ a.V).length<=D a.u/\0<=a.q/\a.q<1048576/\0<=bc a.u-a.q*a.V+a.V/\D a.pre+D a.u<=100000
def KY:List Q->Mem->Option (Q×Mem):=Gh (λ(a:KX) args mem=>args=[.ref a.k a.g 1 (D a.pre) (D a.u),.I (b4 a.V),.I (.int .i64 a.q)]/\VZ a mem)
 (λa mem=>(.I (.int .i64 (BL a.u a.V a.q)),a1 mem a.k a.g (BM a)))
theorem ar8 {a b:Nat}(h:b4 a=b4 b):a=b:=Kl (map_inj fi _ _ (by simpa [b4] using h))
theorem ar9 (a:KX)(mem:Mem)(h:VZ a mem):KY [.ref a.k a.g 1 (D a.pre) (D a.u),.I (b4 a.V),.I (.int .i64 a.q)] mem=some (.I (.int .i64 (BL a.u a.V a.q)),a1 mem a.k a.g (BM a)):=by
 unfold KY;refine aeP (a:=a) ?_ ⟨rfl,h⟩;rintro a b args mem ⟨E,H,_⟩ ⟨af,aP,_⟩;rw[E] at af;simp only[a6,Q.ref.injEq,Q.I.injEq,Data.int.injEq,true_and,and_true] at af;obtain⟨⟨KN,OZ,O9,afx⟩,afy,eq⟩:=af;have afz:=ar8 afy;clear afy;obtain⟨pre,u,post,V,q,k,g⟩:=a;obtain⟨aKg,aKh,aKi,aKj,tS,k',c0⟩:=b;simp only at KN OZ O9 afx afz eq H aP;subst KN OZ afz eq;rw[aP] at H;simp only[cm,fo,true_and] at H;have e:=VC hl fi _ _ H (by omega);rw[gM,gM] at e;obtain⟨ay,aB⟩:=Gt e O9.symm;obtain⟨bG,dp⟩:=Gt aB afx.symm;subst ay bG dp
 rfl
theorem asa (p wS vc si c a b q:Int)(h:wS=vc-q*si+p*c):wS+p*((a-c-q*b)%1048576)=vc+p*a-q*(si+p*b)+p*1048576*(-((a-c-q*b)/1048576)):=by
 have E:=BH (a-c-q*b) 1048576
 have H:p*((a-c-q*b)%1048576)+p*1048576*((a-c-q*b)/1048576)=p*(a-c-q*b):=by
  rw[iB,<-iA,E]
 have af:p*(a-c-q*b)=p*a-p*c-p*(q*b):=by rw[Gy,Gy]
 have aP:q*(si+p*b)=q*si+p*(q*b):=by rw[iA,VY]
 rw[Int.mul_neg];omega
theorem afA {a c q b:Int}(aM:0<=a/\a<1048576)(G:0<=c/\c<=1048576)(aO:0<=q/\q<1048576)(ae:0<=b/\b<1048576):
  0<=q*b/\q*b<=1099509530625/\0 <= -((a-c-q*b)/1048576) /\ -((a-c-q*b)/1048576)<=1048576:=by
 have E:0<=q*b:=yh aO.1 ae.1;have H:q*b<=1048575*1048575:=VO (by omega) (by omega) ae.1 (by omega);omega
theorem asb (T:bb)(a:KX)(eD:Mem)(G:VZ a eD):
  wp T OR.body (Gg OR.res (.I (.int .i64 (BL a.u a.V a.q))) (a1 eD a.k a.g (BM a))) ⟨kr [.ref a.k a.g 1 (D a.pre) (D a.u),.I (b4 a.V),.I (.int .i64 a.q)],eD⟩:=by
 obtain⟨pre,u,post,V,q,k,g⟩:=a;obtain⟨k8,vE,Ts,mK,qI,nw,hlen⟩:=G;simp only at k8 vE Ts mK qI nw hlen ⊢;have zU:=m5 V;have J9:=l4 V;have V0:=hb.1 Ts;refine qv ?_;simp only[OR];simp only[go_sem,go_sem_proc,b4];generalize ae:aJ V=v at *
 refine dm [0,1,2,13] [] (λ((i,c,w):Nat×Int×List Int) tm mem=>i<=D u/\D w=D u/\eV w/\w.drop i=u.drop i/\(0<=c/\c<=1048576)/\bc (w.take i)=bc (u.take i)-q*bc (v.take i)+1048576^i*c/\tm 14=.I (.int .i64 (i:Nat))/\tm 7=.I (.int .i64 c)/\mem=a1 eD k g (a8 ad (pre++w++post)))
  (λ(i,_)=>D u-i) (0,0,u) (by refine⟨fs _,rfl,vE,rfl,by omega,by simp[bc],rfl,rfl,(ar7 k8).symm⟩) ?_
 intro vs ms aR aN;simp only[go_sem,go_sem_proc] at aR aN;subst aR aN;rintro⟨i,c,w⟩ tm _ M-⟨J,hw,rE,qG,G,jX,wX,bM,rfl⟩;simp only[go_sem,go_sem_proc,a6] at M;obtain⟨ao,E,H,n5⟩:=M;rcases dv (i<D u) with az|b2
 ·have yj:i<D w:=by omega
  have asc:w[i]=u[i]:=by
   have E:=iu yj;rw[qG,iu az] at E;exact (wU E).1.symm
  have BN:w.drop (i+1)=u.drop (i+1):=by
   have E:=iu yj;rw[qG,iu az] at E;exact (wU E).2.symm
  have fO:=KW (pre:=pre) (post:=post) yj;rw[asc] at fO;have afB:=lJ vE i az;have rr:=lI u i az;generalize u[i]=vF at *;have fy:IntKind.i64.wrap ((i:Int)+1)=((i+1:Nat):Int):=by rw[eM _];rfl
  have jJ:IntKind.i64.wrap (vF-c)=vF-c:=wrap64 _ (by omega) (by omega);have hY:(D pre)+i+1<=(a8 ad (pre++w++post)).length:=by rw[qE];simp;omega
  have gL:=λd=>afw (pre:=pre) (post:=post) yj d;have jK:decide ((i:Int)<(D u:Int))=true:=dj
  have fin:∀bi:Int,0<=bi->bi<1048576->bc (v.take (i+1))=bc (v.take i)+1048576^i*bi ->
    ∃bk:Nat×Int×List Int,D u-bk.1<D u-i/\bk.1<=D u/\bk.2.2.length=D u/\eV bk.2.2/\bk.2.2.drop bk.1=u.drop bk.1/\(0<=bk.2.1/\bk.2.1<=1048576)/\bc (bk.2.2.take bk.1)=bc (u.take bk.1)-q*bc (v.take bk.1)+1048576^bk.1*bk.2.1 /\
     Q.I (Data.int .i64 ((i+1:Nat):Int))=Q.I (Data.int .i64 (bk.1:Int))/\Q.I (Data.int .i64 (-((vF-c-q*bi)/1048576)))=Q.I (Data.int .i64 bk.2.1)/\a1 eD k g (a8 ad (pre++w.set i ((vF-c-q*bi)%1048576)++post))=a1 eD k g (a8 ad (pre++bk.2.2++post)):=by
   intro bi sy kt DY;obtain⟨dJ,cU,tQ,qH⟩:=afA afB G ⟨mK,qI⟩ ⟨sy,kt⟩;refine⟨(i+1,-((vF-c-q*bi)/1048576),w.set i ((vF-c-q*bi)%1048576)),by dsimp only;omega,by dsimp only;omega,by simp[hw],zR rE i (by omega),?_,⟨tQ,qH⟩,?_,rfl,rfl,rfl⟩
   ·dsimp only;rw[tx (by omega),BN]
   ·dsimp only;rw[lI _ _ (by simpa using yj),DW,rr,DY,ns];simp only[zQ];exact asa _ _ _ _ _ _ _ _ jX
  rcases dv (i<D v) with rD|VJ
  ·have nv:v[i]?=some v[i]:=bu rD;have vA:=lJ zU i rD;have V1:=lI v i rD;generalize v[i]=bi at *;obtain⟨dJ,cU,tQ,qH⟩:=afA afB G ⟨mK,qI⟩ vA;have ld:IntKind.i64.wrap (q*bi)=q*bi:=wrap64 _ (by omega) (by omega);have zT:IntKind.i64.wrap (vF-c-q*bi)=vF-c-q*bi:=wrap64 _ (by omega) (by omega);have vC:IntKind.i64.wrap (0-(vF-c-q*bi)/1048576) = -((vF-c-q*bi)/1048576):=by rw[eM _];omega
   have iC:decide ((i:Int)<(D v:Int))=true:=dj;simp only[go_sem,go_sem_proc,ao,E,H,n5,wX,bM,nv,fy,jJ,ld,zT,vC,iC,jK,az,hY,fO,gL,BK,rB,oP,ad,cD,ai,bh,a6,show ¬ ((20:Int)<0) by omega]
   repeat' (first|refine ax ?_ ?_|fail)<;>intro h<;>simp only[h,go_sem,go_sem_proc,ao,E,H,n5,wX,bM,nv,fy,jJ,ld,zT,vC,iC,jK,az,hY,fO,gL,BK,rB,oP,ad,cD,ai,bh,a6,show ¬ ((20:Int)<0) by omega]
   exact fin bi vA.1 vA.2 V1
  ·have iC:decide ((i:Int)<(D v:Int))=false:=c5;have vC:IntKind.i64.wrap (0-(vF-c)/1048576) = -((vF-c)/1048576):=by rw[eM _];omega
   simp only[go_sem,go_sem_proc,ao,E,H,n5,wX,bM,fy,jJ,vC,iC,jK,az,hY,fO,gL,BK,rB,oP,ad,cD,ai,bh,a6,show ¬ ((20:Int)<0) by omega]
   repeat' (first|refine ax ?_ ?_|fail)<;>intro h<;>simp only[h,go_sem,go_sem_proc,ao,E,H,n5,wX,bM,fy,jJ,vC,iC,jK,az,hY,fO,gL,BK,rB,oP,ad,cD,ai,bh,a6,show ¬ ((20:Int)<0) by omega]
   have:=fin 0 (by omega) (by omega) (by rw[dx (by omega),dx (by omega)];simp);simp only[tT,KU] at this;exact this
 ·obtain rfl:i=D u:=by omega
  have jK:decide ((D u:Int)<(D u:Int))=false:=c5;rw[dx (by omega),dx (by omega),dx (by omega),J9] at jX;have asd:=zE rE;have aKk:=pk rE;rw[hw] at asd
  have aKl:(V:Int)<1048576^(D u):=by
   have h:=Int.ofNat_lt.2 V0;rw[D3] at h;exact h
  by_cases oU:c=0
  ·subst oU;have V3:bc u-q*V=bc w:=by omega
   have ay:BL u V q=q:=by unfold BL;rw[ag (by omega)]
   have aB:BM ⟨pre,u,post,V,q,k,g⟩=a8 ad (pre++w++post):=by
    unfold BM O8;simp only;rw[ag (by omega),V3,<-hw,<-afv rE]
   simp only[go_sem,go_sem_proc,ao,E,H,n5,wX,bM,jK,ay,aB,beq_self_eq_true];repeat' (first|refine ax ?_ ?_|fail)<;>intro h<;>simp only[h,go_sem,go_sem_proc,ao,E,H,n5,wX,bM,jK,ay,aB,beq_self_eq_true]
  ·have V4:(c==0)=false:=by simpa using oU
   have fu:(1048576:Int)^(D u)<=1048576^(D u)*c:=by
    have:(1048576:Int)^(D u)*1<=1048576^(D u)*c:=zP (by omega) (by omega);omega
   have kM:bc u-q*V<0:=by omega
   have Pa:IntKind.i64.wrap (q-1)=q-1:=wrap64 _ (by omega) (by omega);simp only[go_sem,go_sem_proc,ao,E,H,n5,wX,bM,jK,V4]
   refine dm [0,1,2,48] [] (λ((i,d,z):Nat×Int×List Int) tm mem=>i<=D u/\D z=D u/\eV z/\z.drop i=w.drop i/\(0<=d/\d<=1)/\bc (z.take i)+1048576^i*d=bc (w.take i)+bc (v.take i)/\tm 49=.I (.int .i64 (i:Nat))/\tm 10=.I (.int .i64 d)/\mem=a1 eD k g (a8 ad (pre++z++post)))
    (λ(i,_)=>D u-i) (0,0,w) (by refine⟨fs _,hw,rE,rfl,by omega,by simp[bc],rfl,rfl,rfl⟩) ?_
   intro vs ms aR aN;simp only[go_sem,go_sem_proc,ao,E,H] at aR aN;subst aR aN;rintro⟨i,d,z⟩ tm _ M-⟨J,aW,zV,qG,Y,afC,GF,gu,rfl⟩;simp only[go_sem,go_sem_proc,a6] at M;obtain⟨ao,E,H,GG⟩:=M;rcases dv (i<D u) with az|b2
   ·have KZ:i<D z:=by omega
    have yj:i<D w:=by omega
    have ase:z[i]=w[i]:=by
     have E:=iu KZ;rw[qG,iu yj] at E;exact (wU E).1.symm
    have Pb:z.drop (i+1)=w.drop (i+1):=by
     have E:=iu KZ;rw[qG,iu yj] at E;exact (wU E).2.symm
    have fO:=KW (pre:=pre) (post:=post) KZ;rw[ase] at fO;have BO:=lJ rE i yj;have rr:=lI w i yj;generalize w[i]=BP at *;have fy:IntKind.i64.wrap ((i:Int)+1)=((i+1:Nat):Int):=by rw[eM _];rfl
    have jJ:IntKind.i64.wrap (d+BP)=d+BP:=wrap64 _ (by omega) (by omega);have hY:(D pre)+i+1<=(a8 ad (pre++z++post)).length:=by rw[qE];simp;omega
    have gL:=λd=>afw (pre:=pre) (post:=post) KZ d;have jK:decide ((i:Int)<(D u:Int))=true:=dj
    have fin:∀bi:Int,0<=bi->bi<1048576->bc (v.take (i+1))=bc (v.take i)+1048576^i*bi ->
      ∃bk:Nat×Int×List Int,D u-bk.1<D u-i/\bk.1<=D u/\bk.2.2.length=D u/\eV bk.2.2/\bk.2.2.drop bk.1=w.drop bk.1/\(0<=bk.2.1/\bk.2.1<=1)/\bc (bk.2.2.take bk.1)+1048576^bk.1*bk.2.1=bc (w.take bk.1)+bc (v.take bk.1) /\
       Q.I (Data.int .i64 ((i+1:Nat):Int))=Q.I (Data.int .i64 (bk.1:Int))/\Q.I (Data.int .i64 ((d+BP+bi)/1048576))=Q.I (Data.int .i64 bk.2.1)/\a1 eD k g (a8 ad (pre++z.set i ((d+BP+bi)%1048576)++post))=a1 eD k g (a8 ad (pre++bk.2.2++post)):=by
     intro bi sy kt DY;refine⟨(i+1,(d+BP+bi)/1048576,z.set i ((d+BP+bi)%1048576)),by dsimp only;omega,by dsimp only;omega,by simp[aW],zR zV i (by omega),?_,by dsimp only;omega,?_,rfl,rfl,rfl⟩
     ·dsimp only;rw[tx (by omega),Pb]
     ·dsimp only;rw[lI _ _ (by simpa using KZ),DW,rr,DY,ns];simp only[zQ];exact afd _ _ _ _ _ _ _ afC
    rcases dv (i<D v) with rD|VJ
    ·have nv:v[i]?=some v[i]:=bu rD;have vA:=lJ zU i rD;have V1:=lI v i rD;generalize v[i]=bi at *;have ld:IntKind.i64.wrap (d+BP+bi)=d+BP+bi:=wrap64 _ (by omega) (by omega);have iC:decide ((i:Int)<(D v:Int))=true:=dj;simp only[go_sem,go_sem_proc,ao,E,H,GG,GF,gu,nv,fy,jJ,ld,iC,jK,az,hY,fO,gL,BK,rB,oP,ad,cD,ai,bh,a6,show ¬ ((20:Int)<0) by omega]
     repeat' (first|refine ax ?_ ?_|fail)<;>intro h<;>simp only[h,go_sem,go_sem_proc,ao,E,H,GG,GF,gu,nv,fy,jJ,ld,iC,jK,az,hY,fO,gL,BK,rB,oP,ad,cD,ai,bh,a6,show ¬ ((20:Int)<0) by omega]
     exact fin bi vA.1 vA.2 V1
    ·have iC:decide ((i:Int)<(D v:Int))=false:=c5;simp only[go_sem,go_sem_proc,ao,E,H,GG,GF,gu,fy,jJ,iC,jK,az,hY,fO,gL,BK,rB,oP,ad,cD,ai,bh,a6,show ¬ ((20:Int)<0) by omega]
     repeat' (first|refine ax ?_ ?_|fail)<;>intro h<;>simp only[h,go_sem,go_sem_proc,ao,E,H,GG,GF,gu,fy,jJ,iC,jK,az,hY,fO,gL,BK,rB,oP,ad,cD,ai,bh,a6,show ¬ ((20:Int)<0) by omega]
     have:=fin 0 (by omega) (by omega) (by rw[dx (by omega),dx (by omega)];simp);simp only[wY] at this;exact this
   ·obtain rfl:i=D u:=by omega
    have jK:decide ((D u:Int)<(D u:Int))=false:=c5;rw[dx (by omega),dx (by omega),dx (by omega),J9] at afC;have asf:=zE zV;have aKm:=pk zV;rw[aW] at asf
    have V3:bc u-q*V+V=bc z:=by
     have e:bc u-q*V+V-bc z=1048576^(D u)*(d-c):=by rw[Gy];omega
     generalize (1048576:Int)^(D u)=p at *;rcases yk (d-c) 0 with h|h|h
     ·have:p*(d-c)<=p*(-1):=zP (by omega) (by omega);omega
     ·rw[h,tT] at e;omega
     ·have:p*1<=p*(d-c):=zP (by omega) (by omega);omega
    have ay:BL u V q=q-1:=by unfold BL;rw[ab kM]
    have aB:BM ⟨pre,u,post,V,q,k,g⟩=a8 ad (pre++z++post):=by
     unfold BM O8;simp only;rw[ab kM,V3,<-aW,<-afv zV]
    simp only[go_sem,go_sem_proc,ao,E,H,GG,GF,gu,jK,ay,aB,Pa];repeat' (first|refine ax ?_ ?_|fail)<;>intro h<;>simp only[h,go_sem,go_sem_proc,ao,E,H,GG,GF,gu,jK,ay,aB,Pa]
theorem asg {T V P yl GH v1 v2 top kJ q r:Int}(rA:V=(v1*1048576+v2)*P+yl)(cI:T=(top*1048576+kJ)*P+GH)(gv:0<P)(afD:0<=yl)(Pc:GH<P)(mK:0<=q)(ash:0<=V)
  (V5:T<1048576*V) (D4:q*v1+r=top) (G:q>=1048576\/q*v2>r*1048576+kJ):T<q*V:=by
 rcases G with h|h
 ·have:=m7 h ash;omega
 ·have E:(top*1048576+kJ+1)*P<=(q*(v1*1048576+v2))*P:=by
   refine m7 ?_ (by omega);rw[iA,<-iB];have:q*v1*1048576=(top-r)*1048576:=by rw[<-D4];congr 1;omega
   omega
  have H:q*V=(q*(v1*1048576+v2))*P+q*yl:=by rw[rA,iA,<-iB]
  have af:0<=q*yl:=yh mK afD;rw[tR _ 1,n6] at E;omega
theorem afE {T V P yl GH v1 v2 top kJ q r:Int}(rA:V=(v1*1048576+v2)*P+yl)(cI:T=(top*1048576+kJ)*P+GH)(gv:0<P)(afD:0<=yl/\yl<P)(Pc:0<=GH)(mK:0<=q)(qI:q<1048576)(oH:524288<=v1)(oI:0<=v2/\v2<1048576)(adA:0<=kJ)
  (D4:q*v1+r=top) (G:r>=1048576\/q*v2<=r*1048576+kJ):0<=T-q*V+V:=by
 have H:q*V=(q*(v1*1048576+v2))*P+q*yl:=by rw[rA,iA,<-iB]
 have af:q*yl<=q*P:=zP (by omega) mK;have aP:q*P<=1048576*P:=m7 (by omega) (by omega);have bt:1048576*P<=(v1*1048576+v2)*P:=m7 (by omega) (by omega);have e:q*v1*1048576=(top-r)*1048576:=by rw[<-D4];congr 1;omega
 rcases G with h|h
 ·have bU:q*v2+q<=1048576*1048576:=by
   have bM:q*(v2+1)<=1048576*1048576:=VO (by omega) (by omega) (by omega) (by omega);rw[iA,vy] at bM;exact bM
  have cf:(q*(v1*1048576+v2)+q)*P<=(top*1048576+kJ)*P:=by
   refine m7 ?_ (by omega);rw[iA,<-iB];omega
  rw[tR _ q] at cf;omega
 ·have cf:(q*(v1*1048576+v2))*P<=(top*1048576+kJ)*P:=by
   refine m7 ?_ (by omega);rw[iA,<-iB];omega
  omega
theorem asi {T V q:Int}(rA:0<V)(E:T<(q+1)*V)(H:0<=T-q*V+V):(if T-q*V<0 then q-1 else q)=T/V/\(if T-q*V<0 then T-q*V+V else T-q*V)=T%V:=by
 have af:(q+1)*V=q*V+V:=by rw[tR,n6]
 have aP:(q-1)*V=q*V-V:=by rw[afF,n6]
 have key:∀d r:Int,T=d*V+r->0<=r->r<V->d=T/V/\r=T%V:=by
  intro d r h ao bt
  constructor
  ·rw[h,yi,Int.add_mul_ediv_right _ _ (by omega),VT ao bt];omega
  ·rw[h,yi,Int.add_mul_emod_self_right,VU ao bt]
 split
 ·exact key (q-1) _ (by omega) (by omega) (by omega)
 ·exact key q _ (by omega) (by omega) (by omega)
theorem afG {v:List Int}{N:Nat}(h:(D v)=N+2):bc v=(v[N+1]*1048576+v[N])*1048576^N+bc (v.take N):=by
 have e:v=v.take (N+1+1):=by rw[dx (by omega)]
 conv=>lhs;rw[e]
 rw[lI v (N+1) (by omega),lI v N (by omega),ns,tR,nt (v[N]),BQ (v[N+1]),nt (v[N+1])];have:(1048576:Int)^N*1048576*v[N+1]=1048576^N*v[N+1]*1048576:=by rw[BQ]
 omega
theorem asj {v:List Int}{N:Nat}(h:(D v)=N+3):bc v=((v[N+2]*1048576+v[N+1])*1048576+v[N])*1048576^N+bc (v.take N):=by
 have e:v=v.take (N+1+1+1):=by rw[dx (by omega)]
 conv=>lhs;rw[e]
 rw[lI v (N+1+1) (by omega),lI v (N+1) (by omega),lI v N (by omega)];simp only[ns];generalize (1048576:Int)^N=p;rw[tR,tR,tR,BQ (v[N+2]*1048576),BQ (v[N+2]),nt (v[N+2]),BQ (v[N+1]),nt (v[N+1]),nt (v[N])];have E:p*1048576*v[N+1]=p*v[N+1]*1048576:=by rw[BQ]
 have H:p*1048576*1048576*v[N+1+1]=p*v[N+2]*1048576*1048576:=by rw[BQ,BQ p]
 omega
theorem asl {u:List Int}{i n:Nat}{V:Int}(Y:eV u)(av:i+n+1<=D u)(gf:bc (u.drop (i+1))<V)(rA:V<1048576^n):
  ∃pre gh post,u=pre++gh++post/\D pre=i/\D gh=n+1/\eV pre/\eV gh/\eV post/\bc post=0/\∃ew,gh[0]?=some ew/\u.take (i+1)=pre++[ew]/\bc gh=ew+1048576*bc (u.drop (i+1))/\0<=bc (u.drop (i+1))/\0<=ew/\ew<1048576:=by
 have e:u=u.take i++(u.drop i).take (n+1)++u.drop (i+n+1):=by
  rw[gM,qp,<-F6,tG,tG]
 have afH:=e ▸ Y;rw[DD,DD] at afH;obtain⟨⟨d1,d2⟩,d3⟩:=afH;have az:i<D u:=by omega
 have qG:=iu az;have K0:((u.drop i).take (n+1)).length=n+1:=by simp;omega
 have afI:bc (u.drop (i+1))=bc ((u.drop (i+1)).take n)+1048576^n*bc (u.drop (i+n+1)):=by
  have:=Km (u.drop (i+1)) n;rw[ry,oK (by omega),F6] at this;rw[this]
  congr 3
  rw[show i+1+n=i+n+1 by omega]
 have aF:=pk d3;have bA:0<=bc ((u.drop (i+1)).take n):=pk (λx O=>Y x (K1 (FN O)))
 have pq:bc (u.drop (i+n+1))=0:=by
  rcases dv (0<bc (u.drop (i+n+1))) with h|h
  ·have:(1048576:Int)^n*1<=1048576^n*bc (u.drop (i+n+1)):=zP (by omega) (Int.pow_nonneg (by omega));omega
  ·omega
 refine⟨_,_,_,e,by simp;omega,K0,d1,d2,d3,pq,u[i],?_,?_,?_,?_,(lJ Y i az).1,(lJ Y i az).2⟩
 ·rw[pT (by omega),lB];simp[az]
 ·rw[hk,bu az];rfl
 ·rw[qG,wH,tJ,afI,pq];simp
 ·rw[afI,pq];simpa using bA
theorem asm (l:List Int)(h:(D l)<=1000000):mw 157054 0 1 (D l) 8 1 [.I (.int .i64 0)] (some (0,((l.map ad).flatten.map Q.I)))=some (.ref 157054 1 1 0 (D l+1),some (157054,1,a8 ad (l++[0]))) :=
 mI hl tK 157054 0 8 l 0 rfl (by omega) (by omega)
def Pf:=cj vz λ(x,y)=>cN ((aJ x).length<=1000/\(aJ y).length<=1000/\0<y) (.same (.cH [b4 (x/y),b4 (x%y)]))
@[go_sem] theorem afJ (x:Nat)(y:Nat)(G:(aJ x).length<=1000/\(aJ y).length<=1000/\0<y):Pf [b4 x,b4 y]=some (.same (.cH [b4 (x/y),b4 (x%y)])):=(cu yg (x,y)).trans (cT G _)
theorem asn (T:bb)(gj:T DK=aV KS)(fN:T vp=aV BE)(lg:T OI=aV VS)(eK:T qC=zC zK vx)(jL:T Gj=aV O6)(lh:T Uw=Bt KY)(x:Nat)(y:Nat)(G:(aJ x).length<=1000/\(aJ y).length<=1000/\0<y):WP T Vc (.same (.cH [b4 (x/y),b4 (x%y)])) [.I (b4 x),.I (b4 y)]:=by
 refine cv ?_;simp only[Vc];obtain⟨O,ar,jc⟩:=G;have hH:(aJ x).length<=1000000/\(aJ y).length<=1000000:=by omega
 have hR:=VH x y hH;have tl:(aJ x).length<=1000000:=by omega
 by_cases nZ:x<y
 ·have pr:hQ x y = -1:=by unfold hQ;rw[ab (by simpa using nZ)]
  have dM:=ae6 (aJ x) tl;rw[pr] at hR
  change BE [b4 x]=_ at dM
  simp only[go_sem,go_sem_proc,gj,fN,lg,eK,jL,lh,hR,dM,show ((-1:Int)<0) by omega,decide_true]
  repeat' (first|refine ax ?_ ?_|fail)<;>intro h<;>simp only[h,go_sem,go_sem_proc,gj,fN,lg,eK,jL,lh,hR,dM,show ((-1:Int)<0) by omega,decide_true]
  rw[T3 nZ,Kh nZ]
  try rfl
 ·have pr:decide (hQ x y<0)=false:=by
   unfold hQ;rw[ag (by simp;omega)]
   split<;>rfl
  have aKn:aJ y≠[]:=by rw[Ne,zD];omega
  by_cases E:y<1048576
  ·have rC:=DF jc E;have j0:=afp x y ⟨by omega,by omega,by omega⟩
   have a0:=OY [((x%y:Nat):Int)] (by simp);have az:x%y<y:=Nat.mod_lt _ jc;rw[lH] at j0
   have vD:fL [((x%y:Nat):Int)]=aJ (x%y):=by
    generalize x%y=r at az ⊢;rw[zF (by intro d Y;rw[tU] at Y;omega)];simp only[bc]
    congr 1
   rw[vD] at a0;have GI:b4 y=.X [[.int .i64 y]]:=by unfold b4;rw[rC];rfl
   change zK [.X [[.int .i64 _]]]=_ at a0
   rw[GI] at hR;simp only[go_sem,go_sem_proc,gj,fN,lg,eK,jL,lh,GI,hR,pr,j0,a0,show (((1:Nat):Int)==1)=true from rfl];repeat' (first|refine ax ?_ ?_|fail)<;>intro h<;>simp only[h,go_sem,go_sem_proc,gj,fN,lg,eK,jL,lh,GI,hR,pr,j0,a0,show (((1:Nat):Int)==1)=true from rfl]
   try rfl
  ·obtain⟨N,gG⟩:∃N,(aJ y).length=N+2:=by
    have:=mt (hb (n:=y) (k:=1)).1 (by simpa using E);exact⟨(aJ y).length-2,by omega⟩
   have rC:=m5 y;have lf:(((aJ y).length:Int)==1)=false:=by simp;omega
   have K0:IntKind.i64.wrap (((aJ y).length:Int)-1)=((N+1:Nat):Int):=by rw[eM _];omega
   have gr:(aJ y)[N+1]?=some (aJ y)[N+1]:=bu (by omega);have afK:=lJ rC (N+1) (by omega)
   have aKo:(aJ y)[N+1]≠0:=by
    intro h;have:=aeT y;rw[List.getLast?_eq_getElem?,gG] at this;exact this (by rw[show N+2-1=N+1 by omega,gr,h])
   have V6:=afG gG;rw[l4] at V6;have aso:=zE (zO rC N);have aKp:=pk (zO rC N);have aKq:=lJ rC N (by omega);rw[gC,oK (by omega)] at aso;generalize (aJ y)[N+1]=c1 at *;generalize (aJ y)[N]=sq at *;generalize bc ((aJ y).take N)=V7 at *;have V8:((aJ y).map ad)[N+1]?=some [.int .i64 c1]:=by rw[bh,gr];rfl
   simp only[go_sem,go_sem_proc,gj,fN,lg,eK,jL,lh,b4,hR,pr,lf,ai];have afL:=hR;unfold b4 at afL;simp only[go_sem,go_sem_proc,gj,fN,lg,eK,jL,lh,afL,pr,lf,ai];refine dm [0,1] [157054,157075] (λ(κ:Nat) tm mem=>c1*2^κ<1048576/\tm 8=.I (.int .i64 (2^κ))) (λκ=>20-κ) 0 (by refine⟨by omega,rfl⟩) ?_;intro vs ms aR aN;simp only[go_sem,go_sem_proc,gj,fN,lg,eK,jL,lh,ai] at aR aN;subst aR aN;rintro κ tm mem M hm ⟨aKr,cf⟩;simp only[go_sem,go_sem_proc,gj,fN,lg,eK,jL,lh,a6] at M hm;obtain⟨ao,x9⟩:=M;obtain⟨GJ,nx⟩:=hm;have aKs:(0:Int)<2^κ:=GK (by omega)
   have aKt:(2:Int)^κ<=c1*2^κ:=by
    have:1*(2:Int)^κ<=c1*2^κ:=m7 (by omega) (by omega);omega
   have hκ:κ<20:=by
    rcases ir κ 20 with h|h
    ·exact h
    ·have:(2:Int)^20<=2^κ:=by
      have:=wZ (n:=2) (by omega) h;have cn:=Int.ofNat_le.2 this;rwa [D3,D3] at cn
     omega
   have Pg:IntKind.i64.wrap (c1*2^κ)=c1*2^κ:=wrap64 _ (by omega) (by omega);have afM:IntKind.i64.wrap (2^κ*2)=2^κ*2:=wrap64 _ (by omega) (by omega);rcases dv (c1*2^κ<524288) with az|b2
   ·simp only[go_sem,go_sem_proc,gj,fN,lg,eK,jL,lh,ao,x9,cf,K0,V8,Pg,afM,az,GJ,nx,decide_true,cD,ai];repeat' (first|refine ax ?_ ?_|fail)<;>intro h<;>simp only[h,go_sem,go_sem_proc,gj,fN,lg,eK,jL,lh,ao,x9,cf,K0,V8,Pg,afM,az,GJ,nx,decide_true,cD,ai]
    exact⟨κ+1,by omega,by rw[ns,<-iB];omega,by rw[ns]⟩
   ·-- the numbers, shifted
    have asp:(c1+1)*2^κ<=1048576:=by
     have e:(1048576:Int)=2^(20-κ)*2^κ:=by rw[<-afo,show 20-κ+κ=20 by omega];rfl
     have E:c1<2^(20-κ):=by
      rcases dv (c1<2^(20-κ)) with h|h
      ·exact h
      ·have:(2:Int)^(20-κ)*2^κ<=c1*2^κ:=m7 (by omega) (by omega);omega
     rw[e];exact m7 (by omega) (by omega)
    generalize (2:Int)^κ=s at *;obtain⟨S,rfl⟩:∃S:Nat,s=S:=⟨s.toNat,by omega⟩
    have gv:(0:Int)<1048576^N:=GK (by omega);have D5:0<S:=by omega
    have V0:y*S<1048576^(N+2):=by
     have E:((y*S:Nat):Int)<1048576^(N+2):=by
      rw[afN,V6,ns,ns];generalize (1048576:Int)^N=p at *
      have ay:((c1*1048576+sq)*p+V7)*S<=((c1+1)*1048576*p)*S:=by
       refine m7 ?_ (by omega);have:(c1*1048576+sq+1)*p<=((c1+1)*1048576)*p:=m7 (by omega) (by omega);rw[tR _ 1] at this;omega
      have afO:((c1*1048576+sq)*p+V7)*S<((c1+1)*1048576*p)*S:=by
       refine Int.mul_lt_mul_of_pos_right ?_ (by omega);have:(c1*1048576+sq+1)*p<=((c1+1)*1048576)*p:=m7 (by omega) (by omega);rw[tR _ 1] at this;omega
      have aB:((c1+1)*1048576*p)*S=((c1+1)*S)*(p*1048576):=by
       rw[iB (c1+1),iB,nt (1048576*p),<-iB,nt 1048576 p]
      have bG:((c1+1)*S)*(p*1048576)<=1048576*(p*1048576):=m7 asp (by omega);omega
     have H:((1048576^(N+2):Nat):Int)=1048576^(N+2):=by rw[D3];rfl
     omega
    have aKu:524288*(1048576^N*1048576)<=((y*S:Nat):Int):=by
     rw[afN,V6];generalize (1048576:Int)^N=p at *
     have ay:(c1*1048576)*p*S<=((c1*1048576+sq)*p+V7)*S:=by
      refine m7 ?_ (by omega);have:(c1*1048576)*p<=(c1*1048576+sq)*p:=m7 (by omega) (by omega);omega
     have aB:(c1*1048576)*p*S=(c1*S)*(p*1048576):=by
      rw[iB c1,iB,nt (1048576*p),<-iB,nt 1048576 p]
     have bG:524288*(p*1048576)<=(c1*S)*(p*1048576):=m7 (by omega) (by omega);omega
    have D6:(aJ (y*S)).length=N+2:=by
     have E:=hb.2 V0
     have H:=mt (hb (n:=y*S) (k:=N+1)).1 (by
      have H:((1048576^(N+1):Nat):Int)=1048576^N*1048576:=by rw[D3,ns];rfl
      omega)
     omega
    have aKv:1*x<=x*S:=by rw[rz];exact afP x D5
    have aKw:(aJ x).length<=(aJ (x*S)).length:=by
     rw[hb];have:=hb.1 (bX (aJ (x*S)).length);omega
    have aKx:y*S<=x*S:=Nat.mul_le_mul_right S (by omega)
    have aKy:N+2<=(aJ (x*S)).length:=by
     rw[<-D6,hb];have:=hb.1 (bX (aJ (x*S)).length);omega
    have aKz:(aJ (x*S)).length<=1001:=by
     have:∀k,(aJ x).length<=k->(aJ (x*S)).length<=k+1:=by
      intro k M;rw[hb];have E:=hb.1 M;rw[wJ];exact Nat.lt_of_lt_of_le (Nat.mul_lt_mul_of_pos_right E D5) (afP _ (by omega))
     exact this 1000 O
    have ia:=VP x S ⟨by omega,by rw[DF D5 (by omega)];simp⟩
    have V9:=VP y S ⟨by omega,by rw[DF D5 (by omega)];simp⟩
    have asq:b4 S=.X [[.int .i64 (S:Int)]]:=by unfold b4;rw[DF D5 (by omega)];rfl
    rw[asq] at ia V9;simp only[b4] at ia V9;have dG:=asm (aJ (x*S)) (by omega);have asr:((((aJ (x*S)).length+1:Nat):Int)==((aJ x).length:Int))=false:=by simp;omega
    have ass:=l4 (y*S);have Ph:=m5 (y*S);have ast:=l4 (x*S);have afQ:=m5 (x*S);have asu:b4 (y*S)=.X ((aJ (y*S)).map ad):=rfl;generalize asv:aJ (y*S)=v at *;generalize aKA:aJ (x*S)=l7 at *;have Pa:IntKind.i64.wrap (((D l7+1:Nat):Int)-(D v:Int))=((D l7-N-1:Nat):Int):=by rw[eM _];omega
    have qI:8*(D l7-N-1)<=140737488355328:=by omega
    have BR:(D l7)-N-1<=maxLen:=Gw _ (by omega);have BS:decide (c1*(S:Int)<524288)=false:=mo b2;simp only[go_sem,go_sem_proc,gj,fN,lg,eK,jL,lh,ao,x9,cf,GJ,nx,K0,V8,Pg,BS,ia,V9,dG,asr,Pa,qI,BR,Gv,cD,ai];have m8:(D l7)-N-1+(N+2)=D l7+1:=by omega
    generalize aKB:(D l7)-N-1=bd at *;have gw:(D l7)=bd+N+1:=by omega
    have vG:=afG D6;rw[ass] at vG;have Wa:=zE (zO Ph N);have Wb:=pk (zO Ph N);rw[gC,oK (by omega)] at Wa;have asw:v[N+1]?=some v[N+1]:=bu (by omega);have Pj:v[N]?=some v[N]:=bu (by omega);have BJ:=lJ Ph (N+1) (by omega);have pV:=lJ Ph N (by omega);generalize v[N+1]=v1 at *;generalize v[N]=v0 at *;generalize bc (v.take N)=vlow at *
    have oH:524288<=v1:=by
     generalize (1048576:Int)^N=p at *;rcases dv (524288<=v1) with h|h
     ·exact h
     ·have H:(v1*1048576+v0+1)*p<=(524288*1048576)*p:=m7 (by omega) (by omega);rw[tR _ 1,n6] at H;omega
    have asx:((y*S:Nat):Int)<1048576^(N+2):=by
     have H:((1048576^(N+2):Nat):Int)=1048576^(N+2):=by rw[D3];rfl
     omega
    have Wc:0<((y*S:Nat):Int):=by
     have:0<1048576^N*(1048576:Int):=Int.mul_pos gv (by omega);omega
    have asy:bc ((l7++[0]).drop bd)<((y*S:Nat):Int):=by
     have e:(l7++[0]).drop bd=l7.drop bd++[0]:=by rw[List.drop_append_of_le_length (by omega)]
     rw[e,DE];have E:=zE (λd Y=>afQ d (K1 Y):eV (l7.drop bd));rw[ry,show (D l7)-bd=N+1 by omega,ns] at E
     simp only[bc];omega
    have asz:((x*S:Nat):Int)=bc ((l7++[0]).take bd)+1048576^bd*bc ((l7++[0]).drop bd):=by
     have:=Km (l7++[0]) bd;rw[DE,ast,oK (by simp;omega)] at this
     simpa [bc] using this
    generalize afR:y*S=ho at *;generalize afS:x*S=GL at *
    refine dm [8,9,10,11,12] [] (λ((j,u,eB):Nat×List Int×List Int) tm mem=>j<=bd/\D u=D l7+1/\eV u/\D eB=bd/\eV eB/\bc (u.drop j)<ho/\(GL:Int)=bc (u.take j)+1048576^j*(ho*bc (eB.drop j)+bc (u.drop j)) /\
      tm 13=.I (.int .i64 ((j:Nat)-1))/\mem 157054=some (1,a8 ad u)/\mem 157075=some (0,a8 ad eB)) (λ(j,_)=>j) (bd,l7++[0],dD bd 0)
     (by
      refine⟨bX _,by simp,DD.2 ⟨afQ,by intro d Y;rw[tU] at Y;omega⟩,by simp,λd Y=>by rw[Gz] at Y;omega,asy,?_,?_,rfl,rfl⟩
      ·rw[List.drop_of_length_le (by simp)];simp only[bc,tT,DZ];exact asz
      ·simp only[e7,reduceIte];rw[eM _]) ?_
    intro vs ms aR aN;simp only[go_sem,go_sem_proc,gj,fN,lg,eK,jL,lh,ao,x9,cf] at aR aN;subst aR aN;rintro⟨j,u,eB⟩ tm mem M-⟨ah,zW,vE,Pk,Wd,gf,pt,n5,GM,Pl⟩;simp only[go_sem,go_sem_proc,gj,fN,lg,eK,jL,lh,a6] at M;obtain⟨cf,jt,gu,zN,jb⟩:=M;rcases j with _|j
    ·rw[l2,l2] at pt;rw[l2] at gf;simp only[mH,bc,Int.pow_zero,n6,DZ] at pt;have aKC:=pk Wd;have ym:=pk vE
     have We:bc eB=((x/y:Nat):Int)/\bc u=((x%y*S:Nat):Int):=by
      have E:GL/ho=x/y:=by rw[<-afS,<-afR];exact Nat.mul_div_mul_right x y D5
      have H:GL%ho=x%y*S:=by rw[<-afS,<-afR];exact Nat.mul_mod_mul_right S x y
      have af:((GL/ho:Nat):Int)=bc eB:=by rw[afq,pt,yi,afr _ _ (by omega),VT ym gf];omega
      have aP:((GL%ho:Nat):Int)=bc u:=by rw[afs,pt,yi,aft,VU ym gf]
      rw[E] at af;rw[H] at aP;exact⟨af.symm,aP.symm⟩
     have Wf:=OY u (by omega);rw[zF vE,We.2,lH] at Wf;have Wg:=OY eB (by omega);rw[zF Wd,We.1,lH] at Wg
     have hlen:(aJ (x%y*S)).length<=100000:=by
      have:(aJ (x%y*S)).length<=D u:=by
       have:=ae9 u;rw[zF vE,We.2,lH] at this;exact this
      omega
     have j0:=afp (x%y*S) S ⟨hlen,by omega,by omega⟩
     rw[lH,Nat.mul_div_cancel _ D5] at j0;simp only[b4] at j0;have dr:Q.ref 157054 1 1 0 (D l7+1)=Q.ref 157054 1 1 0 (D u):=by rw[zW]
     have eh:Q.ref 157075 0 1 0 bd=Q.ref 157075 0 1 0 (D eB):=by rw[Pk]
     rw[dr] at jt;rw[eh] at jb;simp only[go_sem,go_sem_proc,gj,fN,lg,eK,jL,lh,cf,jt,gu,zN,jb,n5,GM,Pl,Wf,Wg,j0,mJ hl,b4,lG,l6,show ¬ ((0:Int)-1>=0) by omega,decide_false]
     repeat' (first|refine ax ?_ ?_|fail)<;>intro h<;>simp only[h,go_sem,go_sem_proc,gj,fN,lg,eK,jL,lh,cf,jt,gu,zN,jb,n5,GM,Pl,Wf,Wg,j0,mJ hl,b4,lG,l6,show ¬ ((0:Int)-1>=0) by omega,decide_false]
    ·obtain⟨pre,gh,post,e,BT,afT,Wh,rE,asA,asB,ew,BU,gN,aKD,asC,aKE,aKF⟩:=asl (i:=j) (n:=N+2) vE (by omega) gf asx;have tV:j<bd:=by omega
     rw[gN,DE,BT] at pt;subst e;subst BT;rw[D6] at zN;have afU:((D pre+1:Nat):Int)-1=(D pre:Int):=by omega
     have oO:IntKind.i64.wrap ((D pre:Int)+((N+2:Nat):Int))=((D pre+(N+2):Nat):Int):=by rw[eM _];omega
     have asD:IntKind.i64.wrap (((D pre+(N+2):Nat):Int)-1)=((D pre+(N+1):Nat):Int):=by rw[eM _];omega
     have D7:IntKind.i64.wrap (((N+2:Nat):Int)-1)=((N+1:Nat):Int):=by rw[eM _];omega
     have Pm:IntKind.i64.wrap (((N+2:Nat):Int)-2)=(N:Int):=by rw[eM _];omega
     have Pn:IntKind.i64.wrap (((D pre+(N+2):Nat):Int)-2)=((D pre+N:Nat):Int):=by rw[eM _];omega
     have b5:(D pre)+(N+2)<D l7+1:=by omega
     have cw:(D pre)+(N+1)<D l7+1:=by omega
     have h0:(D pre)+N<D l7+1:=by omega
     have asE:(D pre)+(N+2)+1<=(a8 ad (pre++gh++post)).length:=by rw[qE,zW];omega
     have asF:(D pre)+(N+1)+1<=(a8 ad (pre++gh++post)).length:=by rw[qE,zW];omega
     have Po:(D pre)+N+1<=(a8 ad (pre++gh++post)).length:=by rw[qE,zW];omega
     have asG:=KW (pre:=pre) (post:=post) (show N+2<(D gh) by omega);have Pp:=KW (pre:=pre) (post:=post) (show N+1<(D gh) by omega);have pq:=KW (pre:=pre) (post:=post) (show N<(D gh) by omega);have cI:=asj (N:=N) (by omega:(D gh)=N+3);have Pc:=zE (zO rE N);have afV:=pk (zO rE N);rw[gC,oK (by omega)] at Pc;have mL:=lJ rE (N+2) (by omega);have j3:=lJ rE (N+1) (by omega);have BI:=lJ rE N (by omega);generalize gh[N+2]=t2 at *;generalize gh[N+1]=t1 at *;generalize gh[N]=t0 at *;generalize bc (gh.take N)=GH at *;have asH:IntKind.i64.wrap (t2*2^min (DG 20) 64)=t2*1048576:=by rw[show min (DG 20) 64=20 by decide];exact wrap64 _ (by omega) (by omega)
     have asI:bits .or .i64 (t2*1048576) t1=t2*1048576+t1:=Ue t2 t1 mL.1 (by omega) j3;have asJ:(v1=0)=False:=by simp;omega
     generalize aKG:t2*1048576+t1=top at *;have aKH:0<=top/\top<1099511627776:=by omega
     have vD:top.tdiv v1=top/v1:=GD (by omega);have D0:top.tmod v1=top%v1:=KV (by omega);have mK:0<=top/v1:=VV (by omega) (by omega);have qI:top/v1<=top:=Int.ediv_le_self _ (by omega);have asK:IntKind.i64.wrap (top/v1)=top/v1:=wrap64 _ (by omega) (by omega);have K2:(v.map ad)[N+1]?=some [.int .i64 v1]:=by rw[bh,asw];rfl
     have Pq:(v.map ad)[N]?=some [.int .i64 v0]:=by rw[bh,Pj];rfl
     have V5:bc gh<1048576*ho:=by omega
     have asL:bc gh<(top/v1+1)*ho:=by
      have ay:top+1<=(top/v1+1)*v1:=by
       have E:=BH top v1;have H:=VX top (show 0<v1 by omega);rw[tR,n6,nt (top/v1)];omega
      have aB:(top+1)*1048576*1048576^N<=(top/v1+1)*v1*1048576*1048576^N:=m7 (m7 ay (by omega)) (by omega)
      have bG:(top/v1+1)*v1*1048576*1048576^N<=(top/v1+1)*ho:=by
       rw[iB,iB];refine zP ?_ (by omega);rw[vG,<-iB];have:v1*1048576*1048576^N<=(v1*1048576+v0)*1048576^N:=m7 (by omega) (by omega);omega
      have dp:(top*1048576+t0+1)*1048576^N<=(top+1)*1048576*1048576^N:=m7 (by omega) (by omega);rw[tR _ 1,n6] at dp;omega
     simp only[go_sem,go_sem_proc,gj,fN,lg,eK,jL,lh,cf,jt,gu,zN,jb,n5,GM,Pl,afU,oO,asD,D7,b5,cw,asE,asF,asG,Pp,asH,asI,asJ,vD,D0,asK,K2,show (D pre:Int)>=0 by omega,decide_true,cD,ai,show ¬ ((20:Int)<0) by omega]
     have Wi:∀(mem:Mem),mem 157054=some (1,a8 ad (pre++gh++post))->∀q:Int,0<=q->q<1048576->bc gh<(q+1)*ho->0<=bc gh-q*ho+ho ->
       KY [.ref 157054 1 1 (D pre) (N+3),.I (.X (v.map ad)),.I (.int .i64 q)] mem=some (.I (.int .i64 (bc gh/ho)),a1 mem 157054 1 (a8 ad (pre++pad (N+3) (bc gh%ho).toNat++post))):=by
      intro mem GM q mK asM tW kv;have GI:=asi Wc tW kv;have nr:=ar9 ⟨pre,gh,post,ho,q,157054,1⟩ mem ⟨GM,rE,by show (aJ ho).length<=D gh;rw[asv];omega,mK,asM,kv,by show (D pre)+D gh<=100000;omega⟩
      simp only[BL,BM,O8] at nr;rw[GI.1,GI.2,afT,asu] at nr;exact nr
     have asN:0<=bc gh/ho:=VV (pk rE) (by omega);have asO:bc gh/ho<1048576:=afu Wc V5;have aKI:=VW (bc gh) (show (ho:Int)≠0 by omega);have asP:=VX (bc gh) Wc
     have asQ:bc (pad (N+3) (bc gh%ho).toNat)=bc gh%ho:=by
      rw[ar6]
      ·omega
      ·have H:((1048576^(N+2):Nat):Int)=1048576^(N+2):=by rw[D3];rfl
       have af:1048576^(N+2)<=1048576^(N+3):=wZ (by omega) (by omega);omega
     have iM:∃bk:Nat×List Int×List Int,bk.1<D pre+1/\bk.1<=bd/\bk.2.1.length=D l7+1/\eV bk.2.1/\bk.2.2.length=bd/\eV bk.2.2/\bc (bk.2.1.drop bk.1)<ho/\(GL:Int)=bc (bk.2.1.take bk.1)+1048576^bk.1*(ho*bc (bk.2.2.drop bk.1)+bc (bk.2.1.drop bk.1)) /\
       Q.I (Data.int .i64 ((D pre:Int)-1))=Q.I (Data.int .i64 ((bk.1:Int)-1))/\some (1,a8 ad (pre++pad (N+3) (bc gh%ho).toNat++post))=some (1,a8 ad bk.2.1)/\some (0,a8 ad (eB.set (D pre) (bc gh/ho)))=some (0,a8 ad bk.2.2):=by
      have asR:(D eB)=bd:=Pk;have Pk:(D pre)<D eB:=by omega
      have GN:(pre++pad (N+3) (bc gh%ho).toNat++post).drop (D pre)=pad (N+3) (bc gh%ho).toNat++post:=by rw[gM,T1]
      have asS:(pre++pad (N+3) (bc gh%ho).toNat++post).take (D pre)=pre:=by rw[gM,T0]
      have afW:bc (pad (N+3) (bc gh%ho).toNat++post)=bc gh%ho:=by rw[DE,asB,asQ];omega
      refine⟨(D pre,pre++pad (N+3) (bc gh%ho).toNat++post,eB.set (D pre) (bc gh/ho)),by dsimp only;omega,by dsimp only;omega,?_,DD.2 ⟨DD.2 ⟨Wh,ar5 _ _⟩,asA⟩,by rw[iY];exact asR,zR Wd _ ⟨asN,asO⟩,?_,?_,rfl,rfl,rfl⟩
      ·rw[<-zW];simp[ar4,afT]
      ·dsimp only;rw[GN,afW];exact asP
      ·dsimp only;rw[GN,afW,asS,iu (by simpa using Pk),tJ];simp only[zQ];rw[tx (by omega)];have E:=BH (bc gh) ho;have H:(ho:Int)*(bc gh/ho+1048576*bc (eB.drop (D pre+1)))=ho*(bc gh/ho)+1048576*(ho*bc (eB.drop (D pre+1))):=by rw[iA,VY]
       rw[H,pt,ns,iB];simp only[bc,tT,wY];rw[Int.add_assoc,<-iA]
       congr 2
       rw[iA];omega
     have j4:(D pre)+(N+2)+1-D pre=N+3:=by omega
     have tX:IntKind.i64.wrap (((D pre+(N+2):Nat):Int)+1)=((D pre+(N+2)+1:Nat):Int):=by rw[eM _];rfl
     have Pr:(D pre)<=D pre+(N+2)+1/\D pre+(N+2)+1<=D l7+1:=by omega
     have Ps:(D pre)<bd:=tV;have Pt:=λd=>yf eB (D pre) d (by omega);have Pu:(D pre)+1<=(a8 ad eB).length:=by rw[qE];omega
     have BO:IntKind.i64.wrap ((D pre:Int)-1)=(D pre:Int)-1:=wrap64 _ (by omega) (by omega)
     refine dm [8,9,10,11,12,13] [157054,157075] (λ((q,r):Int×Int) tm mem=>0<=q/\0<=r/\q*v1+r=top/\bc gh<(q+1)*ho/\tm 15=.I (.int .i64 q)/\tm 16=.I (.int .i64 r)) (λ(q,_)=>q.toNat) (top/v1,top%v1)
      (by
       refine⟨mK,VW _ (by omega),?_,asL,rfl,rfl⟩;have:=BH top v1;rw[nt (top/v1)];omega) ?_
     intro vs ms aR aN;simp only[go_sem,go_sem_proc,gj,fN,lg,eK,jL,lh,cf,jt,gu,zN,jb,n5,GM,Pl,afU] at aR aN;subst aR aN;rintro⟨q,r⟩ tm mem' M hm ⟨zX,asT,D4,tW,vH,sB⟩;simp only[go_sem,go_sem_proc,gj,fN,lg,eK,jL,lh,a6] at M hm;obtain⟨h1,m9,n7,mM,mN,w0⟩:=M;obtain⟨yn,BV⟩:=hm;have aKJ:0<=q*v1:=yh zX (by omega);have aKK:q*524288<=q*v1:=zP oH zX;have aKL:0<=q*v0:=yh zX pV.1;have aKM:q*v0<=q*1048576:=zP (by omega) zX;have yo:IntKind.i64.wrap (q*v0)=q*v0:=wrap64 _ (by omega) (by omega);have Pv:IntKind.i64.wrap (q-1)=q-1:=wrap64 _ (by omega) (by omega);have Pw:IntKind.i64.wrap (r+v1)=r+v1:=wrap64 _ (by omega) (by omega);have Px:IntKind.i64.wrap (r*2^min (DG 20) 64)=r*1048576:=by rw[show min (DG 20) 64=20 by decide];exact wrap64 _ (by omega) (by omega)
     have Py:bits .or .i64 (r*1048576) t0=r*1048576+t0:=Ue r t0 asT (by omega) BI
     have On:(q>=1048576\/q*v0>r*1048576+t0)->∃bk:Int×Int,bk.1.toNat<q.toNat/\0<=bk.1/\0<=bk.2/\bk.1*v1+bk.2=top/\bc gh<(bk.1+1)*ho/\Q.I (Data.int .i64 (q-1))=Q.I (Data.int .i64 bk.1)/\Q.I (Data.int .i64 (r+v1))=Q.I (Data.int .i64 bk.2):=by
      intro G;have E:=asg vG cI gv Wb Pc zX (by omega) V5 D4 G
      have Wj:0<q:=by
       rcases dv (0<q) with h|h
       ·exact h
       ·obtain rfl:q=0:=by omega
        have:=pk rE;omega
      exact⟨(q-1,r+v1),by dsimp only;omega,by dsimp only;omega,by dsimp only;omega,by dsimp only;rw[afF];omega,by dsimp only;rw[Int.sub_add_cancel];exact E,rfl,rfl⟩
     by_cases g0:q>=1048576
     ·simp only[go_sem,go_sem_proc,gj,fN,lg,eK,jL,lh,h1,m9,n7,mM,mN,w0,yn,BV,vH,sB,g0,Pv,Pw,D7,K2,decide_true,cD,ai];repeat' (first|refine ax ?_ ?_|fail)<;>intro h<;>simp only[h,go_sem,go_sem_proc,gj,fN,lg,eK,jL,lh,h1,m9,n7,mM,mN,w0,yn,BV,vH,sB,g0,Pv,Pw,D7,K2,decide_true,cD,ai]
      exact On (.inl g0)
     ·by_cases u7:r<1048576
      ·by_cases pW:q*v0>r*1048576+t0
       ·simp only[go_sem,go_sem_proc,gj,fN,lg,eK,jL,lh,h1,m9,n7,mM,mN,w0,yn,BV,vH,sB,g0,u7,pW,yo,Pv,Pw,Px,Py,oO,D7,Pm,Pn,h0,Po,pq,K2,Pq,decide_true,decide_false,cD,ai,show ¬ ((20:Int)<0) by omega]
        repeat' (first|refine ax ?_ ?_|fail)<;>intro h<;>simp only[h,go_sem,go_sem_proc,gj,fN,lg,eK,jL,lh,h1,m9,n7,mM,mN,w0,yn,BV,vH,sB,g0,u7,pW,yo,Pv,Pw,Px,Py,oO,D7,Pm,Pn,h0,Po,pq,K2,Pq,decide_true,decide_false,cD,ai,show ¬ ((20:Int)<0) by omega]
        exact On (.inr pW)
       ·have nr:=Wi mem' yn q zX (by omega) tW (afE vG cI gv ⟨Wb,Wa⟩ afV zX (by omega) oH pV BI.1 D4 (.inr (by omega)));simp only[go_sem,go_sem_proc,gj,fN,lg,eK,jL,lh,h1,m9,n7,mM,mN,w0,yn,BV,vH,sB,g0,u7,pW,yo,Px,Py,oO,tX,D7,Pm,Pn,h0,Po,pq,Pq,j4,Pr,nr,Ps,Pu,Pt,BO,D6,decide_true,decide_false,cD,ai,show ¬ ((20:Int)<0) by omega]
        repeat' (first|refine ax ?_ ?_|fail)<;>intro h<;>simp only[h,go_sem,go_sem_proc,gj,fN,lg,eK,jL,lh,h1,m9,n7,mM,mN,w0,yn,BV,vH,sB,g0,u7,pW,yo,Px,Py,oO,tX,D7,Pm,Pn,h0,Po,pq,Pq,j4,Pr,nr,Ps,Pu,Pt,BO,D6,decide_true,decide_false,cD,ai,show ¬ ((20:Int)<0) by omega]
        exact iM
      ·have nr:=Wi mem' yn q zX (by omega) tW (afE vG cI gv ⟨Wb,Wa⟩ afV zX (by omega) oH pV BI.1 D4 (.inl (by omega)));simp only[go_sem,go_sem_proc,gj,fN,lg,eK,jL,lh,h1,m9,n7,mM,mN,w0,yn,BV,vH,sB,g0,u7,oO,tX,j4,Pr,nr,Ps,Pu,Pt,BO,D6,decide_true,decide_false,cD,ai];repeat' (first|refine ax ?_ ?_|fail)<;>intro h<;>simp only[h,go_sem,go_sem_proc,gj,fN,lg,eK,jL,lh,h1,m9,n7,mM,mN,w0,yn,BV,vH,sB,g0,u7,oO,tX,j4,Pr,nr,Ps,Pu,Pt,BO,D6,decide_true,decide_false,cD,ai]
       exact iM
def ea:Nat:=1048576^60
def bQ (z:Int):Raw:=(z.sign,aJ z.natAbs)
def iD (a:Raw):Int:=a.1*bc a.2
theorem fT (z:Int):iD (bQ z)=z:=by
 unfold iD bQ;rw[l4];exact Wk z
theorem K3 (d:Int):n3 d=true↔0<=d/\d<1048576:=by
 unfold n3;simp;omega
theorem j5 (a:Raw):dB a=true↔∃z:Int,z.natAbs<ea/\a=bQ z:=by
 obtain⟨s,l⟩:=a;unfold dB ea;rw[e9,nq]
 constructor
 ·rintro⟨E,H⟩;have Y:eV l:=λd Y=>(K3 d).1 (E d Y)
  split at H
  ·rename_i h;have av:l=[]:=tt (by simpa using h);subst av;have U:s=0:=by simpa using H
   subst U;exact⟨0,by simp,rfl⟩
  ·rename_i h;simp at H;obtain⟨⟨U,hlen⟩,Wl⟩:=H;have G:=canon Y (by simpa using Wl);have ak:=pk Y
   have aKN:bc l≠0:=by
    intro ao;rw[ao] at G;rw[G] at h;simp[sv] at h
   refine⟨s*bc l,?_,?_⟩
   ·have:(s*bc l).natAbs=(bc l).toNat:=by rw[qJ];rcases U with rfl|rfl<;>simp<;>omega
    rw[this,<-hb,<-G];exact hlen
   ·unfold bQ;have:(s*bc l).natAbs=(bc l).toNat:=by rw[qJ];rcases U with rfl|rfl<;>simp<;>omega
    rw[this,<-G]
    congr 1
    rcases U with rfl|rfl
    ·rw[n6,j6 (by omega)]
    ·rw[Int.neg_mul,n6,D8,j6 (by omega)]
 ·rintro⟨z,aW,h⟩
  cases h;refine⟨λd Y=>(K3 d).2 (m5 _ d Y),?_⟩
  by_cases ao:z=0
  ·subst ao;rfl
  ·have aH:aJ z.natAbs≠[]:=by rw[Ne,zD];omega
   rw[ag (by simp;exact aH)];have av:=hb.2 aW;have ja:=aeT z.natAbs;simp only[e9,Bool.or_eq_true,beq_iff_eq,decide_eq_true_eq,bne_iff_ne,ne_eq];refine⟨⟨?_,av⟩,ja⟩;rcases yk z 0 with h|h|h
   ·exact .inr (rF h)
   ·exact absurd h ao
   ·exact .inl (j6 h)
theorem lj {z:Int}(h:z.natAbs<ea):dB (bQ z)=true:=(j5 _).2 ⟨z,h,rfl⟩
def GO (c:Raw):Raw×Int:=if decide ((c.2.length:Int)>60)=true then ((0,[]),6) else (c,0)
def sC (z:Int):Raw×Int:=if z.natAbs<ea then (bQ z,0) else ((0,[]),6)
def fU (x:Raw×Int):Data:=.cH [.agg (da x.1),.int .i64 x.2]
theorem asU (s:Int)(n:Nat):ku s (aJ n)=if n=0 then (0,[]) else (s,aJ n):=by
 unfold ku;rw[aeS]
 by_cases h:n=0
 ·subst h;rfl
 ·have:aJ n≠[]:=by rw[Ne,zD];exact h
  rw[ag h,ag (by simp;exact this)]
theorem pX {s:Int}{n:Nat}{z:Int}(h:z.natAbs=n)(U:n≠0->s=z.sign):ku s (aJ n)=bQ z:=by
 rw[asU];subst h
 by_cases ao:z.natAbs=0
 ·obtain rfl:z=0:=by omega
  rfl
 ·rw[ag ao,U ao]
  rfl
theorem BW (z:Int):GO (bQ z)=sC z:=by
 unfold GO sC bQ ea;have:=hb (n:=z.natAbs) (k:=60)
 by_cases h:z.natAbs<1048576^60
 ·have:=this.2 h;rw[ag (by simp;omega),ab h]
 ·have:=mt this.1 h;rw[ab (by simp;omega),ag h]
abbrev Wm:Bool×Int×(List Int)->List Data:=λ(r,s,l)=>[.bool r,.agg [.int .i64 s,.X (l.map ad)]]
def K4:=cj Wm λ(r,s,l)=>some (.same (fU (if r=true then GO (s,l) else ((0,[]),1))))
theorem asV:∀a b,Wm a=Wm b->a=b:=by
  rintro⟨e8,s1,en⟩ ⟨et,s2,al⟩ h;simp only[a6,Data.bool.injEq,Data.agg.injEq,Data.int.injEq,Data.X.injEq] at h;exact dQ h.1 (dQ h.2.1.1.2 (map_inj fi _ _ h.2.1.2.1))
@[go_sem] theorem GP (r:Bool)(s:Int)(l:List Int):K4 [.bool r,.agg [.int .i64 s,.X (l.map ad)]]=some (.same (fU (if r=true then GO (s,l) else ((0,[]),1)))):=cu asV (r,s,l)
theorem asW (T:bb)  (r:Bool) (s:Int) (l:List Int):WP T Vb (.same (fU (if r=true then GO (s,l) else ((0,[]),1)))) [.I (.bool r),.I (.agg [.int .i64 s,.X (l.map ad)])]:=by
 refine cv ?_;simp only[Vb]
 cases r
 ·refine aY ?_;repeat' (intro h<;>simp only[h,go_sem,go_sem_proc,ai]<;>try refine ax ?_ ?_)
  rfl
 ·refine aY ?_;repeat' (intro h<;>simp only[h,go_sem,go_sem_proc,ai]<;>try refine ax ?_ ?_)
  all_goals (simp only[fU,da,GO];simp only[cS, *,reduceIte,cP,du,vj,sl,l3,pj,zA,g1,iZ,fB,k0,beq_self_eq_true,bne])
def j7 (a:Raw):Raw:=if dB a=true then bQ (-iD a) else (0,[])
theorem afX (z:Int):ku (-z.sign) (aJ z.natAbs)=bQ (-z):=pX (by omega) λ_=>by rw[D8]
def Pz:=cj BF λ(s,l)=>cN (D l<=1000000) (.same (.agg (da (j7 (s,l)))))
@[go_sem] theorem aKO (s:Int)(l:List Int)(G:(D l)<=1000000):Pz [.agg [.int .i64 s,.X (l.map ad)]]=some (.same (.agg (da (j7 (s,l))))):=(cu Gu (s,l)).trans (cT G _)
theorem asX (T:bb)(dF:T lb=aV wQ)(fN:T vp=aV BE)(fC:T pn=aV BG)(s:Int)(l:List Int)(G:(D l)<=1000000):WP T U8 (.same (.agg (da (j7 (s,l))))) [.I (.agg [.int .i64 s,.X (l.map ad)])]:=by
 refine cv ?_;simp only[U8]
 by_cases aa:dB (s,l)=true
 ·obtain⟨z,aW,e⟩:=(j5 _).1 aa;have ay:j7 (s,l)=bQ (-z):=by unfold j7;rw[ab aa,e,fT]
  cases e
  have hw:IntKind.i64.wrap (0-z.sign) = -z.sign:=by
   have:=afY z;rw[eM _];omega
  rw[ay];refine aY ?_;repeat' (intro h<;>simp only[h,go_sem,go_sem_proc,dF,fN,fC,aa,G,hw,afX,da]<;>try refine ax ?_ ?_)
 ·have aa:dB (s,l)=false:=by simpa using aa
  have ay:j7 (s,l)=(0,[]):=by unfold j7;rw[aa];rfl
  rw[ay];refine aY ?_;repeat' (intro h<;>simp only[h,go_sem,go_sem_proc,dF,fN,fC,aa,G,da,cS]<;>try refine ax ?_ ?_)
theorem ny (a:Raw):(a.1,a.2)=a:=rfl
def mulR (a b:Raw):Raw×Int:=if (dB a&&dB b)=true then sC (iD a*iD b) else ((0,[]),1)
theorem BX {x y:Int}(O:x.natAbs<ea)(ar:y.natAbs<ea):mulR (bQ x) (bQ y)=sC (x*y):=by
 unfold mulR;rw[lj O,lj ar,fT,fT]
 rfl
theorem rG {z:Int}(h:z.natAbs<ea):(aJ z.natAbs).length<=60:=hb.2 h
theorem rH (z:Int):-1<=z.sign/\z.sign<=1:=by
 have:=afY z;omega
abbrev w2:Int×(List Int)×Int×(List Int)->List Data:=λ(s,l,s2,al)=>[.agg [.int .i64 s,.X (l.map ad)],.agg [.int .i64 s2,.X (al.map ad)]]
def GQ:=cj w2 λ(s,l,s2,al)=>cN (D l<=1000000/\D al<=1000000) (.same (fU (mulR (s,l) (s2,al))))
theorem zY:∀a b,w2 a=w2 b->a=b:=by
  rintro⟨s1,en,BZ,B0⟩ ⟨s2,al,B1,B2⟩ h;simp only[a6,Data.agg.injEq,Data.int.injEq,Data.X.injEq] at h;exact dQ h.1.1.2 (dQ (map_inj fi _ _ h.1.2.1) (dQ h.2.1.1.2 (map_inj fi _ _ h.2.1.2.1)))
@[go_sem] theorem aKP (s:Int)(l:List Int)(s2:Int)(al:List Int)(G:(D l)<=1000000/\D al<=1000000):GQ [.agg [.int .i64 s,.X (l.map ad)],.agg [.int .i64 s2,.X (al.map ad)]]=some (.same (fU (mulR (s,l) (s2,al)))):=(cu zY (s,l,s2,al)).trans (cT G _)
theorem asY (T:bb)(dF:T lb=aV wQ)(jL:T Gj=aV O6)(fC:T pn=aV BG)(na:T vo=aV K4)(s:Int)(l:List Int)(s2:Int)(al:List Int)(G:(D l)<=1000000/\D al<=1000000):WP T U6 (.same (fU (mulR (s,l) (s2,al)))) [.I (.agg [.int .i64 s,.X (l.map ad)]),.I (.agg [.int .i64 s2,.X (al.map ad)])]:=by
 refine cv ?_;simp only[U6];obtain⟨b5,cw⟩:=G
 by_cases aa:dB (s,l)=true
 ·by_cases bC:dB (s2,al)=true
  ·obtain⟨x,O,e⟩:=(j5 _).1 aa;obtain⟨y,ar,aB⟩:=(j5 _).1 bC;have hm:mulR (s,l) (s2,al)=sC (x*y):=by rw[e,aB];exact BX O ar
   rw[hm];clear hm
   cases e
   cases aB;have E:=rH x;have H:=rH y;have aF:x.sign*y.sign=(x*y).sign:=(Int.sign_mul x y).symm;have af:=rH (x*y);have hw:IntKind.i64.wrap (x.sign*y.sign)=(x*y).sign:=by rw[aF];exact wrap64 _ (by omega) (by omega)
   have hmul:=VP x.natAbs y.natAbs ⟨eQ (rG O) (by omega),eQ (rG ar) (by omega)⟩;simp only[b4] at hmul
   have hlen:(aJ (x.natAbs*y.natAbs)).length<=1000000:=by
    refine eQ ((hb (k:=120)).2 ?_) (by omega);have:(1048576^120:Nat)=ea*ea:=by unfold ea;rw[<-Nat.pow_add]
    rw[this];exact Nat.mul_lt_mul'' O ar
   have U:ku (x*y).sign (aJ (x.natAbs*y.natAbs))=bQ (x*y):=pX (qJ x y) λ_=>rfl;refine aY ?_;repeat' (intro h<;>simp only[h,go_sem,go_sem_proc,dF,jL,fC,na,aa,bC,b5,cw,hw,hmul,hlen,U,BW,da,fU,ny]<;>try refine ax ?_ ?_)
  ·have bC:dB (s2,al)=false:=by simpa using bC
   have hm:mulR (s,l) (s2,al)=((0,[]),1):=by unfold mulR;rw[bC,iZ];rfl
   rw[hm];have oV:=GP false 0 [];simp only[cS] at oV;refine aY ?_;repeat' (intro h<;>simp only[h,go_sem,go_sem_proc,dF,jL,fC,na,aa,bC,b5,cw,oV,da,fU,cS]<;>try refine ax ?_ ?_)
 ·have aa:dB (s,l)=false:=by simpa using aa
  have hm:mulR (s,l) (s2,al)=((0,[]),1):=by unfold mulR;rw[aa,fB];rfl
  rw[hm];have oV:=GP false 0 [];simp only[cS] at oV;refine aY ?_;repeat' (intro h<;>simp only[h,go_sem,go_sem_proc,dF,jL,fC,na,aa,b5,cw,oV,da,fU,cS]<;>try refine ax ?_ ?_)
def sD (a b:Raw):Raw×Int:=if (dB a&&dB b)=true then sC (iD a+iD b) else ((0,[]),1)
theorem afZ {x y:Int}(O:x.natAbs<ea)(ar:y.natAbs<ea):sD (bQ x) (bQ y)=sC (x+y):=by
 unfold sD;rw[lj O,lj ar,fT,fT]
 rfl
theorem PA (a b:Nat):(aJ (a-b)).length<=(aJ a).length:=by
 rw[hb];exact vB (Nat.sub_le a b) (hb.1 (bX _))
def Wn:=cj w2 λ(s,l,s2,al)=>cN (D l<=1000000/\D al<=1000000) (.same (fU (sD (s,l) (s2,al))))
@[go_sem] theorem aKQ (s:Int)(l:List Int)(s2:Int)(al:List Int)(G:(D l)<=1000000/\D al<=1000000):Wn [.agg [.int .i64 s,.X (l.map ad)],.agg [.int .i64 s2,.X (al.map ad)]]=some (.same (fU (sD (s,l) (s2,al)))):=(cu zY (s,l,s2,al)).trans (cT G _)
theorem asZ (T:bb)(dF:T lb=aV wQ)(yp:T Ux=aV VF)(mO:T Kt=aV O4)(mP:T Gk=aV O5)(gj:T DK=aV KS)(fC:T pn=aV BG)(na:T vo=aV K4)(s:Int)(l:List Int)(s2:Int)(al:List Int)(G:(D l)<=1000000/\D al<=1000000):WP T Vf (.same (fU (sD (s,l) (s2,al)))) [.I (.agg [.int .i64 s,.X (l.map ad)]),.I (.agg [.int .i64 s2,.X (al.map ad)])]:=by
 refine cv ?_;simp only[Vf];obtain⟨b5,cw⟩:=G
 by_cases aa:dB (s,l)=true
 ·by_cases bC:dB (s2,al)=true
  ·obtain⟨x,O,e⟩:=(j5 _).1 aa;obtain⟨y,ar,aB⟩:=(j5 _).1 bC;have hm:sD (s,l) (s2,al)=sC (x+y):=by rw[e,aB];exact afZ O ar
   rw[hm];clear hm
   cases e
   cases aB;have E:=rH x;have H:=rH y;have n8:=rG O;have lf:=rG ar;have aKR:=Wk x;have aKS:=Wk y
   have B3:(x.sign=1/\0<x)\/(x.sign=0/\x=0)\/(x.sign = -1/\x<0):=by
    rcases yk x 0 with h|h|h
    ·exact .inr (.inr ⟨rF h,h⟩)
    ·exact .inr (.inl ⟨by rw[h];rfl,h⟩)
    ·exact .inl ⟨j6 h,h⟩
   have ty:(y.sign=1/\0<y)\/(y.sign=0/\y=0)\/(y.sign = -1/\y<0):=by
    rcases yk y 0 with h|h|h
    ·exact .inr (.inr ⟨rF h,h⟩)
    ·exact .inr (.inl ⟨by rw[h];rfl,h⟩)
    ·exact .inl ⟨j6 h,h⟩
   have iO:=afe x.natAbs y.natAbs ⟨by omega,by omega⟩
   simp only[b4] at iO
   have hlen:(aJ (x.natAbs+y.natAbs)).length<=1000000:=by
    refine eQ ((hb (k:=61)).2 ?_) (by omega);have:(1048576^61:Nat)=ea*1048576:=by unfold ea;rw[<-wJ]
    omega
   have wW:=arN [x.sign,y.sign] (by simp);simp only[eC,cS,ad] at wW;have fx:=VH x.natAbs y.natAbs ⟨by omega,by omega⟩
   simp only[b4] at fx
   by_cases aF:x.sign*y.sign>=0
   ·have hw:IntKind.i64.wrap (x.sign*y.sign)=x.sign*y.sign:=by
     rcases B3 with ⟨e,_⟩|⟨e,_⟩|⟨e,_⟩<;>rw[e]<;>exact wrap64 _ (by omega) (by omega)
    have U:ku (zM [x.sign,y.sign]) (aJ (x.natAbs+y.natAbs))=bQ (x+y):=by
     refine pX ?_ ?_
     ·rcases B3 with ⟨e,_⟩|⟨e,_⟩|⟨e,_⟩<;>rcases ty with ⟨e',_⟩|⟨e',_⟩|⟨e',_⟩<;>rw[e,e'] at aF<;>omega
     ·intro aH;rcases B3 with ⟨e,_⟩|⟨e,_⟩|⟨e,_⟩<;>rcases ty with ⟨e',_⟩|⟨e',_⟩|⟨e',_⟩<;>rw[e,e'] at aF ⊢
      ·exact (j6 (by omega)).symm
      ·exact (j6 (by omega)).symm
      ·omega
      ·exact (j6 (by omega)).symm
      ·omega
      ·exact (rF (by omega)).symm
      ·omega
      ·exact (rF (by omega)).symm
      ·exact (rF (by omega)).symm
    simp only[go_sem,go_sem_proc,dF,yp,mO,mP,gj,fC,na,aa,bC,b5,cw,hw,aF,decide_true,wW,iO,hlen,U,BW,da,fU,ny];repeat' (first|refine ax ?_ ?_|fail)<;>intro h<;>simp only[h,go_sem,go_sem_proc,dF,yp,mO,mP,gj,fC,na,aa,bC,b5,cw,hw,aF,decide_true,wW,iO,hlen,U,BW,da,fU,ny]
   ·have hw:IntKind.i64.wrap (x.sign*y.sign)=x.sign*y.sign:=by
     rcases B3 with ⟨e,_⟩|⟨e,_⟩|⟨e,_⟩<;>rw[e]<;>exact wrap64 _ (by omega) (by omega)
    by_cases az:x.natAbs<y.natAbs
    ·have vI:decide (hQ x.natAbs y.natAbs<0)=true:=by unfold hQ;rw[ab (by simp;omega)];rfl
     have j4:=VN y.natAbs x.natAbs ⟨by omega,by omega⟩
     simp only[b4] at j4;have K5:(aJ (y.natAbs-x.natAbs)).length<=1000000:=eQ (PA _ _) (by omega)
     have U:ku y.sign (aJ (y.natAbs-x.natAbs))=bQ (x+y):=by
      refine pX ?_ ?_
      ·rcases B3 with ⟨e,_⟩|⟨e,_⟩|⟨e,_⟩<;>rcases ty with ⟨e',_⟩|⟨e',_⟩|⟨e',_⟩<;>rw[e,e'] at aF<;>omega
      ·intro aH;rcases B3 with ⟨e,_⟩|⟨e,_⟩|⟨e,_⟩<;>rcases ty with ⟨e',_⟩|⟨e',_⟩|⟨e',_⟩<;>rw[e,e'] at aF<;>rw[e']<;>first|omega|exact (j6 (by omega)).symm|exact (rF (by omega)).symm
     simp only[go_sem,go_sem_proc,dF,yp,mO,mP,gj,fC,na,aa,bC,b5,cw,hw,aF,decide_false,fx,vI,j4,K5,U,BW,da,fU,ny];repeat' (first|refine ax ?_ ?_|fail)<;>intro h<;>simp only[h,go_sem,go_sem_proc,dF,yp,mO,mP,gj,fC,na,aa,bC,b5,cw,hw,aF,decide_false,fx,vI,j4,K5,U,BW,da,fU,ny]
    ·have vI:decide (hQ x.natAbs y.natAbs<0)=false:=by unfold hQ;rw[ag (by simp;omega)];split<;>rfl
     have j4:=VN x.natAbs y.natAbs ⟨by omega,by omega⟩
     simp only[b4] at j4;have K5:(aJ (x.natAbs-y.natAbs)).length<=1000000:=eQ (PA _ _) (by omega)
     have U:ku x.sign (aJ (x.natAbs-y.natAbs))=bQ (x+y):=by
      refine pX ?_ ?_
      ·rcases B3 with ⟨e,_⟩|⟨e,_⟩|⟨e,_⟩<;>rcases ty with ⟨e',_⟩|⟨e',_⟩|⟨e',_⟩<;>rw[e,e'] at aF<;>omega
      ·intro aH;rcases B3 with ⟨e,_⟩|⟨e,_⟩|⟨e,_⟩<;>rcases ty with ⟨e',_⟩|⟨e',_⟩|⟨e',_⟩<;>rw[e,e'] at aF<;>rw[e]<;>first|omega|exact (j6 (by omega)).symm|exact (rF (by omega)).symm
     simp only[go_sem,go_sem_proc,dF,yp,mO,mP,gj,fC,na,aa,bC,b5,cw,hw,aF,decide_false,fx,vI,j4,K5,U,BW,da,fU,ny];repeat' (first|refine ax ?_ ?_|fail)<;>intro h<;>simp only[h,go_sem,go_sem_proc,dF,yp,mO,mP,gj,fC,na,aa,bC,b5,cw,hw,aF,decide_false,fx,vI,j4,K5,U,BW,da,fU,ny]
  ·have bC:dB (s2,al)=false:=by simpa using bC
   have hm:sD (s,l) (s2,al)=((0,[]),1):=by unfold sD;rw[bC,iZ];rfl
   rw[hm];have oV:=GP false 0 [];simp only[cS] at oV;simp only[go_sem,go_sem_proc,dF,yp,mO,mP,gj,fC,na,aa,bC,b5,cw,oV,da,fU,cS];repeat' (first|refine ax ?_ ?_|fail)<;>intro h<;>simp only[h,go_sem,go_sem_proc,dF,yp,mO,mP,gj,fC,na,aa,bC,b5,cw,oV,da,fU,cS]
 ·have aa:dB (s,l)=false:=by simpa using aa
  have hm:sD (s,l) (s2,al)=((0,[]),1):=by unfold sD;rw[aa,fB];rfl
  rw[hm];have oV:=GP false 0 [];simp only[cS] at oV;simp only[go_sem,go_sem_proc,dF,yp,mO,mP,gj,fC,na,aa,b5,cw,oV,da,fU,cS];repeat' (first|refine ax ?_ ?_|fail)<;>intro h<;>simp only[h,go_sem,go_sem_proc,dF,yp,mO,mP,gj,fC,na,aa,b5,cw,oV,da,fU,cS]
end Go.Mini
