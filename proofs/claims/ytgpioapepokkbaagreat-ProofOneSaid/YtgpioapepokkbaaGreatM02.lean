/- A part of the proof. -/
import Derived.LoopN
import Derived.Laws.BitsLemmas
import Derived.ChangeSame
import Derived.Handed
import Derived.JoinedOf
import Derived.JoinedCond
import Derived.OpenShut
import Derived.ProofKit
import Derived.Test.YtgpioapepokkbaaGreatM01
set_option linter.unusedSimpArgs false
set_option linter.unusedVariables false
set_option maxRecDepth 100000
set_option maxHeartbeats 4000000
noncomputable section
open Bool renaming and_eq_true->ec,and_false->iQ,and_true->zu,false_and->fz,false_eq_true->kO,false_or->pL,not_false->dD,not_true->c8,or_false->lR,or_true->u3,true_and->gT,true_or->sq
open Classical renaming choose->tB,choose_spec->o7
open Decidable renaming em->dA
open Int renaming add_comm->yi,add_mul->tM,add_mul_ediv_left->aeY,add_mul_emod_self_left->ae0,add_zero->wS,bmod_def->aeu,cast_ofNat_Int->lU,ediv_eq_zero_of_lt->Vt,ediv_lt_of_lt_mul->ae1,ediv_nonneg->Vv,emod_add_mul_ediv->BG,emod_emod_of_dvd->aev,emod_eq_of_lt->Vu,emod_lt_of_pos->Vx,emod_nonneg->Vw,lt_trichotomy->yk,mul_add->ij,mul_assoc->ik,mul_comm->nh,mul_le_mul->Vo,mul_le_mul_of_nonneg_left->zJ,mul_le_mul_of_nonneg_right->mV,mul_left_comm->Vy,mul_nonneg->yh,mul_one->vh,mul_right_comm->BO,mul_sub->Gt,mul_zero->tO,natAbs_mul->qG,natCast_ediv->aeX,natCast_emod->aeZ,natCast_mul->afk,natCast_pow->DP,natCast_zero->lr,one_mul->nY,pow_add->aeV,pow_pos->GF,pow_succ->ng,sign_eq_neg_one_of_neg->rD,sign_eq_one_of_pos->jS,sign_mul_natAbs->VT,sign_neg->DV,sign_trichotomy->afv,sub_mul->afc,sub_zero->KJ,tdiv_eq_ediv_of_nonneg->Gx,tmod_eq_emod_of_nonneg->KK,toNat->Dv,toNat_natCast->lu,zero_add->DN
open List renaming all_cons->FX,all_eq_true->jc,append_assoc->gU,append_inj->Gm,append_nil->fJ,concat_eq_append->Bw,cons_append->jO,drop->gI,drop_append->rn,drop_drop->FR,drop_eq_getElem_cons->ia,drop_eq_nil_of_le->kP,drop_left->TF,drop_length->TI,drop_set_of_lt->ts,drop_zero->lQ,eq_nil_of_length_eq_zero->qs,eq_nil_or_concat->Bv,flatMap_cons->qA,flatten_cons->jC,getElem?_append->Fx,getElem?_drop->kU,getElem?_eq_getElem->bx,getElem?_eq_some_iff->dz,getElem?_map->bq,getElem?_take_of_lt->pK,getElem_set_self->zK,length->D,length_append->fE,length_cons->hV,length_drop->rp,length_eq_one_iff->ad1,length_map->ak,length_nil->lq,length_range->ss,length_set->jf,length_take->fR,mapM_cons->lg,mapM_nil->FW,map_cons->eE,map_nil->c1,mem_append->kg,mem_attach->ad6,mem_cons->hE,mem_flatMap->x1,mem_iff_getElem?->tD,mem_map->dS,mem_of_getElem?->ep,mem_of_mem_drop->KQ,mem_of_mem_take->FE,mem_range->gV,mem_replicate->Gu,mem_singleton->tP,nil_append->jg,range->dP,replicate->dC,replicate_succ->pG,take->gq,take_add_one->g1,take_append_drop->Bs,take_left->TE,take_of_length_le->dt,take_succ_cons->wB,take_zero->nd
open List.cons renaming inj->wO,injEq->bb
open Nat renaming add_assoc->qn,add_mul->qh,add_sub_cancel_left->F7,add_zero->nQ,and_two_pow_sub_one_eq_mod->aew,div_eq_of_lt->TH,div_lt_iff_lt_mul->aet,eq_zero_or_pos->kV,le_refl->bW,le_trans->eP,lt_of_le_of_lt->vk,lt_or_ge->h9,min_eq_left->oA,mod_eq_of_lt->J9,mul_comm->rq,mul_le_mul_left->afm,mul_one->cK,pow_le_pow_right->wT,pow_succ->wD,strongRecOn->Tw,zero_add->kx,zero_le->fg,zero_mul->Dq
open Option renaming bind_eq_bind->hf,bind_eq_some_iff->eo,bind_some->kB,map_eq_some_iff->dR,map_some->ll,pure_def->g7
open Option.some renaming inj->mj,injEq->cj
open Prod renaming ext->ed,ext_iff->ye
open Prod.mk renaming injEq->fp
namespace Go.Mini
open Go
variable {P:Program} {T:bh} {A:Nat->Prop} {ev w:World} {hg B:Lay} {mem:Mem} {n kb:Nat} {own:List Nat} {aL:Exit->Act->World->Prop}
theorem adV {k:Key}{aW ma:Nat->Prop}{bt:Lay}{v:Value}{sz:Nat}{e:mb}(he:B k=some e)(hv:bs w aW bt .nil v):bs w ma B (.ref k e.g sz 0 0) v:=by
 cases hv;exact .ref he (bW _) ⟨_,0,rfl,bW _,fg _,.inl rfl⟩
theorem Dm {k:Key}{g i:Nat}{cs:List R}{m m':R}{w1:World}(bS:fm A w B mem)(Q:mem k=some (g,cs))(M:cs[i]?=some m)
  (hv:∀e b v,B k=some e->e.dd=some b->w.cell? ⟨b,i,none⟩=some v->bs w (b7 A B) B m' v):∃bt,eB A w B w bt (aZ mem k g (cs.set i m')):=by
 obtain⟨e,he,b9,aK,ah⟩:=bS.at_ Q
 have ok:=eB.change (k:=k) (e':=e) (cs:=cs.set i m') bS (Fr.refl _ w) (λaC fq => .inl (by rw[he] at fq;cases fq;rfl)) (λb eQ => .inr ⟨e,he,eQ⟩) (λh=>by
  have:=aK h;subst this
  rfl) (λb eQ=>by
  obtain⟨vs,T,aQ,aS,hle,bX⟩:=ah b eQ;refine⟨vs,T,aQ,aS,by simpa using hle,λj x O=>?_⟩
  by_cases ln:i=j
  ·subst ln;have ay:i<D cs:=(dz.1 M).1;rw[List.getElem?_set_self ay] at O
   cases O;have nP:i<vs.size:=by omega
   exact⟨vs[i],Array.getElem?_eq_getElem nP,hv e b _ he eQ (by rw[cell_of_row w b i vs T (0,0) aQ];exact Array.getElem?_eq_getElem nP)⟩
  ·rw[List.getElem?_set_ne ln] at O;obtain⟨v,J1,ab⟩:=bX.get O;refine⟨v,?_,ab⟩;have ay:j<D cs:=(dz.1 O).1;rw[pK ay,Array.getElem?_toList] at J1;exact J1)
 rw[b9] at ok;exact⟨_,ok⟩
theorem eB.move {k k':Key}{g:Nat}{cs:List R}{e:mb}(h:fm A w B mem)(Q:mem k=some (g,cs))(he:B k=some e)(bC:k'≠k):
  eB A w B w (gm (gm B k ⟨bU mem k,none,0⟩) k' ⟨bU mem k',e.dd,e.size⟩) (aZ (aZ mem k (bU mem k) []) k' (bU mem k') cs):=by
 have nR:∀b,sc (gm (gm B k ⟨bU mem k,none,0⟩) k' ⟨bU mem k',e.dd,e.size⟩) b->sc B b:=by
  rintro b ⟨j,aC,aj,ah⟩
  by_cases F:j=k'
  ·subst F;rw[hd] at aj
   cases aj;exact⟨k,e,he,ah⟩
  ·rw[g6 _ _ F] at aj
   by_cases I:j=k
   ·subst I;rw[hd] at aj
    cases aj
    cases ah
   ·rw[g6 _ _ I] at aj;exact⟨j,aC,aj,ah⟩
 have mO:Trans A w B w (gm (gm B k ⟨bU mem k,none,0⟩) k' ⟨bU mem k',e.dd,e.size⟩):=by
  refine⟨bW _,λb _ ah=>⟨rfl,λbJ=>ah (.inl (nR b bJ))⟩,λj aC aj=>?_⟩
  by_cases F:j=k'
  ·subst F;exact⟨_,hd _ _ _,.inr (C3 h j aC aj)⟩
  ·rw[g6 _ _ F]
   by_cases I:j=k
   ·subst I;exact⟨_,hd _ _ _,.inr (C3 h j aC aj)⟩
   ·rw[g6 _ _ I];exact⟨aC,aj,.inl rfl⟩
 refine⟨⟨λj aj=>?_,λj lL aA aC b F I kW eQ=>?_,λb aN bJ=>h.sep b aN (nR b bJ),h.lt,λj cf oC aj=>?_⟩,mO,Fr.refl _ _,λb ah => .inl (nR b ah)⟩
 ·simp only[aZ] at aj
  by_cases F:j=k'
  ·simp[F] at aj
  ·by_cases I:j=k
   ·rw[ae F,ad I] at aj
    cases aj
   ·simp only[F,I,if_false] at aj;rw[g6 _ _ F,g6 _ _ I];exact h.A2 j aj
 ·have main:∀(j:Key) (aA:mb),gm (gm B k ⟨bU mem k,none,0⟩) k' ⟨bU mem k',e.dd,e.size⟩ j=some aA->aA.dd=some b->(j=k'/\e.dd=some b)\/(j≠k'/\j≠k/\B j=some aA):=by
   intro j aA aj ah
   by_cases F:j=k'
   ·subst F;rw[hd] at aj
    cases aj;exact .inl ⟨rfl,ah⟩
   ·rw[g6 _ _ F] at aj
    by_cases I:j=k
    ·subst I;rw[hd] at aj
     cases aj
     cases ah
    ·rw[g6 _ _ I] at aj;exact .inr ⟨F,I,aj⟩
  rcases main j aA F kW with ⟨eY,iO⟩|⟨eY,s1,iO⟩<;>rcases main lL aC I eQ with ⟨eh,ju⟩|⟨eh,s2,ju⟩
  ·rw[eY,eh]
  ·exact absurd (h.inj k lL e aC b he ju iO eQ).symm s2
  ·exact absurd (h.inj k j e aA b he iO ju kW).symm s1
  ·exact h.inj j lL aA aC b iO ju kW eQ
 ·simp only[aZ] at aj
  by_cases F:j=k'
  ·subst F;simp only[if_true,cj,fp] at aj;obtain⟨rfl,rfl⟩:=aj;obtain⟨b0,J2,bc,aK,ah⟩:=h.dd k g cs Q;rw[he] at J2
   cases J2;refine⟨_,hd _ _ _,rfl,aK,λb jH=>?_⟩;obtain⟨vs,T,af,aM,bk,bI⟩:=ah b jH;exact⟨vs,T,af,aM,bk,λi m M=>let ⟨v,hv,ab⟩:=bI i m M;⟨v,hv,ab.q3 mO⟩⟩
  ·simp only[F,if_false] at aj;rw[g6 _ _ F]
   by_cases I:j=k
   ·subst I;simp only[if_true,cj,fp] at aj;obtain⟨rfl,rfl⟩:=aj;exact⟨_,hd _ _ _,rfl,λ_=>rfl,λb ah=>by cases ah⟩
   ·simp only[I,if_false] at aj;rw[g6 _ _ I];obtain⟨b0,J2,bc,aK,ah⟩:=h.dd j cf oC aj;refine⟨b0,J2,bc,aK,λb jH=>?_⟩;obtain⟨vs,T,af,aM,bk,bI⟩:=ah b jH;exact⟨vs,T,af,aM,bk,λi m M=>let ⟨v,hv,ab⟩:=bI i m M;⟨v,hv,ab.q3 mO⟩⟩
theorem hD.ghost {a:Act}{st:bd}{bt:Lay}{mem':Mem}{tm':Nat->R}(h:hD n A ev hg a st w B)(U:eB A w B w bt mem')(bD:∀s,tm' s=st.tm s\/bs w (b7 A bt) bt (tm' s) (a.eval (.tmp s))):
  hD n A ev hg a ⟨tm',mem'⟩ w bt:=by
 refine⟨h.ok.trans U,λs=>?_,h.sz,h.JR⟩;rcases bD s with F|F
 ·simp only[F];exact (h.tm s).q3 U.mO
 ·exact F
theorem apZ {K:bd->Prop}{a:Act}{st:bd}{g:Ng}(h:hD n A ev hg a st w B)(Q:ld K st g):∃dO bt,K dO/\hD n A ev hg a dO w bt:=by
 have tl:∀x:bP,∃v,bs w (b7 A B) B (a6 st.tm x) v\/∃m,x=.c m:=λx=>by
  cases x with
  |t s=>exact⟨_,.inl (h.tm s)⟩
  |c m=>exact⟨undef,.inr ⟨m,rfl⟩⟩
 cases g with
 |ow s k sz =>
  simp only[ld] at Q
  split at Q
  ·rename_i U;have ok:=eB.xU h.ok.dV k;refine⟨_,_,Q,h.ghost ok λt=>?_⟩
   by_cases tv:t=s
   ·subst tv;have:=h.tm t;rw[U] at this;simp only[e3,if_true];exact .inr (adV (e:=⟨bU st.mem k,none,0⟩) (hd _ _ _) this)
   ·exact .inl (by simp[e3,tv])
  ·cases Q
 |freeze s =>
  simp only[ld] at Q
  split at Q
  ·rename_i k g sz off len U
   split at Q
   ·rename_i c6 cs fZ
    split at Q
    ·rename_i bc;obtain⟨rfl,_⟩:=bc
     split at Q
     ·rename_i d aa;have ok:=eB.xU h.ok.dV k;refine⟨_,_,Q,h.ghost ok λt=>?_⟩
      by_cases tv:t=s
      ·subst tv;have hv:=h.tm t;rw[U] at hv aa;simp only[e3,if_true];exact .inr (.J (JY h.ok.dV fZ aa hv))
      ·exact .inl (by simp[e3,tv])
     ·cases Q
    ·cases Q
   ·cases Q
  ·cases Q
 |Nh x i k sz =>
  simp only[ld] at Q
  split at Q
  ·rename_i kc g off O
   split at Q
   ·rename_i c6 cs fZ
    split at Q
    ·rename_i bc;subst bc
     split at Q
     ·rename_i G
      split at Q
      ·rename_i bC;have ok:=eB.xU h.ok.dV k;have tw:aZ st.mem k (bU st.mem k) [] kc=some (c6,cs):=by simp[aZ,Ne.symm bC,fZ]
       obtain⟨e,he,b9,aK,ah⟩:=h.ok.dV.at_ fZ
       obtain⟨bt,tx⟩:=Dm (w1:=w) (m':=.ref k (bU st.mem k) sz 0 0) ok.dV tw G (λaC b v fq eQ hv=>by
        rw[g6 B _ (Ne.symm bC)] at fq;rw[he] at fq
        cases fq;obtain⟨vs,T,aQ,aS,hle,bX⟩:=ah b eQ;have ay:off+i<D cs:=(dz.1 G).1;rw[cell_of_row w b (off+i) vs T (0,0) aQ] at hv;have ab:=bX.2 (off+i) _ v G (by rw[pK ay,Array.getElem?_toList];exact hv);exact adV (e:=⟨bU st.mem k,none,0⟩) (hd _ _ _) ab)
       exact⟨_,bt,Q,h.ghost (ok.trans tx) λt => .inl rfl⟩
      ·cases Q
     ·cases Q
    ·cases Q
   ·cases Q
  ·cases Q
 |Ni x i =>
  simp only[ld] at Q
  split at Q
  ·rename_i kc gc off O
   split at Q
   ·rename_i JB cc adW
    split at Q
    ·rename_i bc;subst bc
     split at Q
     ·rename_i k g sz o len G
      split at Q
      ·rename_i c6 cs fZ
       split at Q
       ·rename_i bc;obtain⟨rfl,_,bC⟩:=bc
        split at Q
        ·rename_i d aa;have ok:=eB.xU h.ok.dV k;have tw:aZ st.mem k (bU st.mem k) [] kc=some (JB,cc):=by simp[aZ,Ne.symm bC,adW]
         obtain⟨e,he,b9,aK,ah⟩:=h.ok.dV.at_ adW
         obtain⟨bt,tx⟩:=Dm (w1:=w) (m':=.J d) ok.dV tw G (λaC b v fq eQ hv=>by
          rw[g6 B _ (Ne.symm bC)] at fq;rw[he] at fq
          cases fq;obtain⟨vs,T,aQ,aS,hle,bX⟩:=ah b eQ;have ay:off+i<D cc:=(dz.1 G).1;rw[cell_of_row w b (off+i) vs T (0,0) aQ] at hv;have ab:=bX.2 (off+i) _ v G (by rw[pK ay,Array.getElem?_toList];exact hv);exact .J (JY h.ok.dV fZ aa ab))
         exact⟨_,bt,Q,h.ghost (ok.trans tx) λt => .inl rfl⟩
        ·cases Q
       ·cases Q
      ·cases Q
     ·cases Q
    ·cases Q
   ·cases Q
  ·cases Q
 |move =>
  rcases Q with Q|⟨fP,gZ,gE,i,k,g,sz,off,len,cs,k',hY,G,x5,F,I,af,Q⟩|⟨fP,gZ,gE,i,k,g,sz,off,len,cs,d,hY,G,fZ,-,bC,aa,Q⟩
  ·exact⟨st,B,Q,h⟩
  ·obtain⟨e,he,b9,aK,ah⟩:=h.ok.dV.at_ x5;have ok:=eB.move h.ok.dV x5 he I;have tw:aZ (aZ st.mem k (bU st.mem k) []) k' (bU st.mem k') cs fP=some (gZ,gE):=by simp[aZ,Ne.symm F,Ne.symm af,hY]
   obtain⟨ex,hex,adX,hK,J3⟩:=h.ok.dV.at_ hY
   obtain⟨bt,tx⟩:=Dm (w1:=w) (m':=.ref k' (bU st.mem k') sz off len) ok.dV tw G (λaC b v fq eQ hv=>by
    rw[g6 _ _ (Ne.symm af),g6 _ _ (Ne.symm F)] at fq;rw[hex] at fq
    cases fq;obtain⟨vs,T,aQ,aS,hle,bX⟩:=J3 b eQ;have ay:i<D gE:=(dz.1 G).1;rw[cell_of_row w b i vs T (0,0) aQ] at hv;have ab:=bX.2 i _ v G (by rw[pK ay,Array.getElem?_toList];exact hv)
    cases ab with
    |ref fq hgle ab =>
     rw[he] at fq
     cases fq;obtain⟨a,cap,rfl,aM,bk,bI⟩:=ab;refine .ref (hd _ _ _) (bW _) ⟨a,cap,rfl,aM,bk,bI.imp id ?_⟩;rintro⟨ek,rfl,bH⟩;exact⟨ek,rfl,λ_=>bH b9.symm⟩)
   exact⟨_,bt,Q,h.ghost (ok.trans tx) λt => .inl rfl⟩
  ·have ok:=eB.xU h.ok.dV k;have tw:aZ st.mem k (bU st.mem k) [] fP=some (gZ,gE):=by simp[aZ,Ne.symm bC,hY]
   obtain⟨e,he,b9,aK,ah⟩:=h.ok.dV.at_ hY
   obtain⟨bt,tx⟩:=Dm (w1:=w) (m':=.J d) ok.dV tw G (λaC b v fq eQ hv=>by
    rw[g6 B _ (Ne.symm bC)] at fq;rw[he] at fq
    cases fq;obtain⟨vs,T,aQ,aS,hle,bX⟩:=ah b eQ;have ay:i<D gE:=(dz.1 G).1;rw[cell_of_row w b i vs T (0,0) aQ] at hv;have ab:=bX.2 i _ v G (by rw[pK ay,Array.getElem?_toList];exact hv);exact .J (JY h.ok.dV fZ aa ab))
   exact⟨_,bt,Q,h.ghost (ok.trans tx) λt => .inl rfl⟩
 |many =>
  obtain⟨mem',Tt,Q⟩:=Q
  have main:∀{lp dx:Mem},td lp dx->∀B,hD n A ev hg a ⟨st.tm,lp⟩ w B->∃bt,hD n A ev hg a ⟨st.tm,dx⟩ w bt:=by
   intro lp dx Tt
   induction Tt with
   |refl mem=>exact λB h=>⟨B,h⟩
   | @step lp dx cM U _ ax =>
    intro B h
    have one:∃bt,hD n A ev hg a ⟨st.tm,dx⟩ w bt:=by
     cases U with
     |Nq fP gZ gE i k g sz off len cs k' hY G x5 F I af =>
      obtain⟨e,he,b9,aK,ah⟩:=h.ok.dV.at_ x5;have ok:=eB.move h.ok.dV x5 he I;have tw:aZ (aZ lp k (bU lp k) []) k' (bU lp k') cs fP=some (gZ,gE):=by simp[aZ,Ne.symm F,Ne.symm af,hY]
      obtain⟨ex,hex,adX,hK,J3⟩:=h.ok.dV.at_ hY
      obtain⟨bt,tx⟩:=Dm (w1:=w) (m':=.ref k' (bU lp k') sz off len) ok.dV tw G (λaC b v fq eQ hv=>by
       rw[g6 _ _ (Ne.symm af),g6 _ _ (Ne.symm F)] at fq;rw[hex] at fq
       cases fq;obtain⟨vs,T,aQ,aS,hle,bX⟩:=J3 b eQ;have ay:i<D gE:=(dz.1 G).1;rw[cell_of_row w b i vs T (0,0) aQ] at hv;have ab:=bX.2 i _ v G (by rw[pK ay,Array.getElem?_toList];exact hv)
       cases ab with
       |ref fq hgle ab =>
        rw[he] at fq
        cases fq;obtain⟨a,cap,rfl,aM,bk,bI⟩:=ab;refine .ref (hd _ _ _) (bW _) ⟨a,cap,rfl,aM,bk,bI.imp id ?_⟩;rintro⟨ek,rfl,bH⟩;exact⟨ek,rfl,λ_=>bH b9.symm⟩)
      exact⟨bt,h.ghost (ok.trans tx) λt => .inl rfl⟩
     |acy fP gZ gE i k g off cs k' hY G x5 F I af =>
      obtain⟨e,he,b9,aK,ah⟩:=h.ok.dV.at_ x5;have ok:=eB.move h.ok.dV x5 he I;have tw:aZ (aZ lp k (bU lp k) []) k' (bU lp k') cs fP=some (gZ,gE):=by simp[aZ,Ne.symm F,Ne.symm af,hY]
      obtain⟨ex,hex,adX,hK,J3⟩:=h.ok.dV.at_ hY
      obtain⟨bt,tx⟩:=Dm (w1:=w) (m':=.ptr k' (bU lp k') off) ok.dV tw G (λaC b v fq eQ hv=>by
       rw[g6 _ _ (Ne.symm af),g6 _ _ (Ne.symm F)] at fq;rw[hex] at fq
       cases fq;obtain⟨vs,T,aQ,aS,hle,bX⟩:=J3 b eQ;have ay:i<D gE:=(dz.1 G).1;rw[cell_of_row w b i vs T (0,0) aQ] at hv;have ab:=bX.2 i _ v G (by rw[pK ay,Array.getElem?_toList];exact hv)
       cases ab with
       |ptr fq hgle ab =>
        rw[he] at fq
        cases fq;obtain⟨ek,rfl,bH⟩:=ab;exact .ptr (hd _ _ _) (bW _) ⟨ek,rfl,λ_=>bH b9.symm⟩)
      exact⟨bt,h.ghost (ok.trans tx) λt => .inl rfl⟩
     |Nr fP gZ gE i k g sz off len cs d hY G fZ bC aa =>
      have ok:=eB.xU h.ok.dV k;have tw:aZ lp k (bU lp k) [] fP=some (gZ,gE):=by simp[aZ,Ne.symm bC,hY]
      obtain⟨e,he,b9,aK,ah⟩:=h.ok.dV.at_ hY
      obtain⟨bt,tx⟩:=Dm (w1:=w) (m':=.J d) ok.dV tw G (λaC b v fq eQ hv=>by
       rw[g6 B _ (Ne.symm bC)] at fq;rw[he] at fq
       cases fq;obtain⟨vs,T,aQ,aS,hle,bX⟩:=ah b eQ;have ay:i<D gE:=(dz.1 G).1;rw[cell_of_row w b i vs T (0,0) aQ] at hv;have ab:=bX.2 i _ v G (by rw[pK ay,Array.getElem?_toList];exact hv);exact .J (JY h.ok.dV fZ aa ab))
      exact⟨bt,h.ghost (ok.trans tx) λt => .inl rfl⟩
    obtain⟨bt,ct⟩:=one;exact ax bt ct
  obtain⟨bt,ct⟩:=main Tt B h;exact⟨_,bt,Q,ct⟩
def erase:eA->eA
 |.skip => .skip
 |.ops l => .ops l
 |.nK l c => .nK l c
 |.seq a b => .seq (erase a) (erase b)
 |.cond c a b => .cond c (erase a) (erase b)
 |.block id c => .block id (erase c)
 |.loop c => .loop (erase c)
 |.exit id => .exit id
 |.ret => .ret
 |.ghost _ c=>erase c
def adY:eX->Exit
 |.normal => .normal
 |.exit id => .exit id
 |.ret => .ret
def ap0 (P:Program)(n kb:Nat)(own:List Nat)(c:Code):eA->Prop
 |.skip=>c=.skip
 |.ops l=>∃id ops,c=.region id ops false/\ops.toList.mapM (A8 P n kb own ops)=some l
 |.nK l ch=>∃id ops,c=.region id ops true/\ops.toList.mapM (A8 P n kb own ops)=some l/\Fu ops l=true/\ch=zd [] l (ql ops.toList [])
 |.seq x y=>∃a b,c=.seq a b/\qm P n kb own a=some x/\qm P n kb own b=some y
 |.cond x y z=>∃je a b,c=.cond je a b/\dJ je=some x/\qm P n kb own a=some y/\qm P n kb own b=some z
 |.block id x=>∃a,c=.block id a/\qm P n kb own a=some x
 |.loop x=>∃a,c=.loop a/\qm P n kb own a=some x
 |.exit id=>c=.exit id
 |.ret=>c=.ret
 |.ghost ..=>False
theorem zq {c:Code}{m:eA}(h:qm P n kb own c=some m):ap0 P n kb own c m:=by
 cases c<;>simp only[qm,cj,reduceCtorEq,dR] at h
 case skip=>subst h;rfl
 case region id ops draw =>
  split at h
  ·rename_i l aq
   split at h
   ·rename_i aa;subst aa
    split at h
    ·rename_i cX
     cases h;exact⟨id,ops,rfl,aq,cX,rfl⟩
    ·cases h
   ·rename_i aa
    cases h;exact⟨id,ops,by rw[Bool.not_eq_true] at aa;rw[aa],aq⟩
  ·cases h
 case seq a b =>
  split at h
  ·rename_i x y O ar
   cases h;exact⟨a,b,rfl,O,ar⟩
  ·cases h
 case cond x a b =>
  split at h
  ·rename_i je y z O ar aS
   cases h;exact⟨x,a,b,rfl,O,ar,aS⟩
  ·cases h
 case block id a =>
  obtain⟨x,O,rfl⟩:=h;exact⟨a,rfl,O⟩
 case loop a =>
  obtain⟨x,O,rfl⟩:=h;exact⟨a,rfl,O⟩
 case exit id=>subst h;rfl
 case ret=>subst h;rfl
theorem Bm (cN:qv P T)(hm:P.follows .mixedOrders=true):∀(N0:eA) (c:Code) (K:eX->bd->Prop) (aL:Exit->Act->World->Prop) (st:bd) (a:Act) (w:World) (B:Lay),
  qm P n kb own c=some (erase N0)->hD n A ev hg a st w B->wp T N0 K st->(∀e st a w B,K e st->hD n A ev hg a st w B->aL (adY e) a w)->c.wp P aL a w
 |.ghost g N0,c,K,aL,st,a,w,B,aY,U,h,fh=>by
  obtain⟨dO,bt,Q,iL⟩:=apZ U h;exact Bm cN hm N0 c K aL dO a w bt aY iL Q fh
 |.skip,c,K,aL,st,a,w,B,aY,U,h,fh=>by
  obtain rfl:=zq aY;exact Go.wp_skip (fh .normal st a w B h U)
 |.exit id,c,K,aL,st,a,w,B,aY,U,h,fh=>by
  obtain rfl:=zq aY;exact Go.wp_exit (fh (.exit id) st a w B h U)
 |.ret,c,K,aL,st,a,w,B,aY,U,h,fh=>by
  obtain rfl:=zq aY;exact Go.wp_ret (fh .ret st a w B h U)
 |.ops l,c,K,aL,st,a,w,B,aY,U,h,fh=>by
  obtain⟨id,ops,rfl,aq⟩:=zq aY;have:=Ts (aL:=aL) (K:=K .normal) cN aq (λst a w B Q U=>fh .normal st a w B Q U) l 0 st a w B rfl U h;refine Go.wp_region ?_;rw[(oy aq).1,Array.length_toList] at this;rw[List.range_eq_range'];exact this
 |.nK l ch,c,K,aL,st,a,w,B,aY,U,h,fh=>by
  obtain⟨id,ops,rfl,aq,aa,rfl⟩:=zq aY;exact apX cN hm aq aa U h λst a w B Q U=>fh .normal st a w B Q U
 |.seq x y,c,K,aL,st,a,w,B,aY,U,h,fh=>by
  obtain⟨je,y',rfl,O,ar⟩:=zq aY;refine Go.wp_seq (Bm cN hm x je _ _ st a w B O U h λe dO jJ aP bt Q iL=>?_)
  cases e with
  |normal=>exact Bm cN hm y y' _ _ dO jJ aP bt ar iL Q fh
  |exit id=>exact fh (.exit id) dO jJ aP bt Q iL
  |ret=>exact fh .ret dO jJ aP bt Q iL
 |.cond x y z,c,K,aL,st,a,w,B,aY,U,h,fh=>by
  obtain⟨je,y',ap1,rfl,O,ar,aS⟩:=zq aY;have hv:=U.tq je x O;simp only[wp] at h
  split at h
  ·rename_i t bD;rw[bD] at hv;refine Go.wp_cond hv.C4 ?_
   cases t with
   |true=>exact Bm cN hm y y' _ _ st a w B ar U h fh
   |false=>exact Bm cN hm z ap1 _ _ st a w B aS U h fh
  ·cases h
 |.block id x,c,K,aL,st,a,w,B,aY,U,h,fh=>by
  obtain⟨je,rfl,O⟩:=zq aY;refine Go.wp_block (Bm cN hm x je _ _ st a w B O U h λe dO jJ aP bt Q iL=>?_)
  cases e with
  |normal=>exact fh .normal dO jJ aP bt Q iL
  |exit j =>
   simp only[adY,Exit.inBlock];simp only at Q
   split
   ·rename_i aj;rw[ad aj] at Q;exact fh .normal dO jJ aP bt Q iL
   ·rename_i aj;rw[ae aj] at Q;exact fh (.exit j) dO jJ aP bt Q iL
  |ret=>exact fh .ret dO jJ aP bt Q iL
 |.loop x,c,K,aL,st,a,w,B,aY,U,h,fh=>by
  obtain⟨je,rfl,O⟩:=zq aY;obtain⟨C2,μ,J4,N1⟩:=h
  have key:∀m (st:bd) (a:Act) (w:World) (B:Lay),μ st<m->C2 st->hD n A ev hg a st w B->Code.rounds P je aL m a w:=by
   intro m
   induction m with
   |zero=>intro st a w B nT;omega
   |succ m ax =>
    intro st a w B nT J4 U;refine Bm cN hm x je _ _ st a w B O U (N1 st J4) λe dO jJ aP bt Q iL=>?_
    cases e with
    |normal=>exact ax dO jJ aP bt (by have:=Q.2;omega) Q.1 iL
    |exit id=>exact fh (.exit id) dO jJ aP bt Q iL
    |ret=>exact fh .ret dO jJ aP bt Q iL
  exact wp_loop_rounds (μ st+1) (key _ st a w B (Nat.lt_succ_self _) J4 U)
end Go.Mini
namespace Go.Mini
open Go
variable {P:Program} {T:bh} {A:Nat->Prop} {ev w:World} {hg B:Lay} {mem:Mem} {n kb:Nat} {own:List Nat}
theorem ap2 {a:Act}{st:bd}{r:ResultVar}{dV:ox}{m:R}(U:hD n A ev hg a st w B)(aY:Fv P r=some dV)(h:Fo st dV=some m):
  ∃v,((match r with
   |.tmp t=>pure (a.tmps.getD t undef)
   |.cell b t=>do loadVar t (<-asAddr (a.tmps.getD b undef)):Sem Value)).run P w=.ok v w/\bs w (b7 A B) B m v:=by
 cases r with
 |tmp t =>
  simp only[Fv,cj] at aY;subst aY;simp only[Fo,cj] at h;subst h;exact⟨_,rfl,U.tm t⟩
 |cell b t =>
  simp only[Fv] at aY
  split at aY
  ·rename_i s g eW zi;simp only[cj] at aY;subst aY;obtain⟨dd,off,ms,vs,hv,aq,bX,b8,ab⟩:=acF U.ok.dV (U.tm b) h;obtain⟨u,F,I⟩:=acE (P:=P) eW zi aq bX b8 ab;refine⟨u,?_,I⟩;have:a.tmps.getD b undef=.pointer (some ⟨dd,off,none⟩):=hv;simp only[this,asAddr,Sem.run_bind,Sem.run_pure,Result.andThen_ok];exact F
  ·cases aY
theorem adZ {a:Act}{st:bd}(U:hD n A ev hg a st w B):∀{l:List ResultVar} {rs:List ox} {ms:List R},l.mapM (Fv P)=some rs->rs.mapM (Fo st)=some ms ->
  ∃vs:List Value,(l.mapM λr=>((match r with
   |.tmp t=>pure (a.tmps.getD t undef)
   |.cell b t=>do loadVar t (<-asAddr (a.tmps.getD b undef)):Sem Value))).run P w=.ok vs w/\dp w (b7 A B) B ms vs
 | [],rs,ms,F,I=>by
  simp at F;subst F;simp at I;subst I;exact⟨[],rfl,dp.nil⟩
 |r::l,rs,ms,F,I=>by
  simp only[lg,g7,hf,eo,cj] at F;obtain⟨x,O,xs,Bn,rfl⟩:=F;simp only[lg,g7,hf,eo,cj] at I;obtain⟨m,hm,aIA,aR,rfl⟩:=I;obtain⟨v,hv,ab⟩:=ap2 U O hm;obtain⟨vs,aT,bX⟩:=adZ U Bn aR;refine⟨v::vs,?_,dp.cons ab bX⟩;simp only[lg,Sem.run_bind,hv,Result.andThen_ok,aT,Sem.run_pure]
theorem ad0 {a:Act}{st:bd}{fn:Func}{rs:List ox}{m:R}(U:hD n A ev hg a st w B)(aY:fn.results.toList.mapM (Fv P)=some rs)(h:pE st rs=some m):
  ∃v,(results fn a.tmps).run P w=.ok v w/\bs w (b7 A B) B m v:=by
 unfold pE at h
 have main:∀ms,rs.mapM (Fo st)=some ms->∃vs:List Value,(results fn a.tmps).run P w=.ok (if h:vs.toArray.size=1 then vs.toArray[0] else .tuple vs.toArray) w/\dp w (b7 A B) B ms vs:=by
  intro ms aR;obtain⟨vs,F,I⟩:=adZ U aY aR;refine⟨vs,?_,I⟩;unfold results;rw[Array.mapM_eq_mapM_toList,map_eq_pure_bind];simp only[Sem.run_bind,Sem.run_pure];have x6:=F;generalize aG:(List.mapM _ fn.results.toList:Sem (List Value))=q;have:q.run P w=.ok vs w:=by rw[<-aG];exact x6
  rw[this]
  rfl
 split at h
 ·rename_i x aR;simp only[cj] at h;subst h;obtain⟨vs,F,I⟩:=main _ aR;have aq:=I.1;simp at aq;obtain⟨v,rfl⟩:=ad1.1 aq;exact⟨v,F,I.2 0 _ v rfl rfl⟩
 ·rename_i ms bC aR;simp only[cj] at h;subst h;obtain⟨vs,F,I⟩:=main _ aR;have aq:=I.1;refine⟨_,F,?_⟩
  have:¬ (vs.toArray.size=1):=λh=>by
   have ct:(D ms)=1:=by rw[<-aq];simpa using h
   obtain⟨x,rfl⟩:=ad1.1 ct;exact bC x rfl
  rw[dif_neg this];exact .cI aq I.2
 ·cases h
def Tu (mf:bT)(Post:R->Mem->Prop):eX->bd->Prop
 |.exit _,_=>False
 |_,st=>∃m,pE st mf.res=some m/\Post m st.mem
theorem FT (cN:qv P T)(hm:P.follows .mixedOrders=true){f:FuncId}{fn:Func}{mf:bT}(aF:P.funcs[f]?=some fn)(aY:sl P kb own fn=some { mf with body:=erase mf.body }){args:List R}(nS:(D args)<=mf.n)
  {Post:R->Mem->Prop} {K:eX->bd->Prop} (dN:∀e st,K e st->Tu mf Post e st) (h:wp T mf.body K ⟨lf args,mem⟩) {A:Nat->Prop} {w:World} {B:Lay} {vs:List Value} (bS:fm A w B mem) (hv:dp w (b7 A B) B args vs) :
  Calls P f vs.toArray w λe aP=>∃v m mem' bt,e=.returned v/\eB A w B aP bt mem'/\bs aP (b7 A bt) bt m v/\Post m mem':=by
 unfold sl at aY
 split at aY
 ·cases aY
 ·rename_i c ah
  split at aY
  ·rename_i b rs G Bo;simp only[cj,bT.mk.injEq] at aY;obtain⟨aK,aIB,u2,ap3⟩:=aY;have eW:(D vs)=D args:=hv.1;refine calls_of_wp aF ah ?_;rw[ap3] at G;refine Bm cN hm mf.body c K _ ⟨lf args,mem⟩ _ w B G ⟨.refl bS,λs=>?_,?_,rfl⟩ h λe st a aP bt x7 U=>?_
   ·simp only[lf,Act.eval,Array.getD_eq_getD_getElem?];rcases h9 s (D vs) with ay|b9
    ·have F:args[s]?=some args[s]:=bx (by omega)
     have I:(vs.toArray++Array.replicate (fn.ntmps-vs.toArray.size) undef)[s]?=some vs[s]:=by
      rw[Array.getElem?_append_left (by simpa using ay)];simp[ay]
     rw[F,I];exact hv.2 s _ _ F (bx ay)
    ·rw[List.getElem?_eq_none (by omega),Array.getElem?_append_right (by simpa using b9)]
     have:((Array.replicate (fn.ntmps-vs.toArray.size) undef)[s-vs.toArray.size]?).getD undef=undef:=by
      cases aG:(Array.replicate (fn.ntmps-vs.toArray.size) undef)[s-vs.toArray.size]? with
      |none=>rfl
      |some u =>
       have:=Array.mem_of_getElem? aG;simp at this;simp[this.2]
     rw[this];exact .no
   ·simp;omega
   ·have Q:=dN e st x7
    cases e with
    |exit id=>cases Q
    |normal =>
     obtain⟨m,nT,aE⟩:=Q;obtain⟨v,mR,qp⟩:=ad0 U Bo (by rw[u2];exact nT);exact⟨U.JR,v,mR,v,m,_,bt,rfl,U.ok,qp,aE⟩
    |ret =>
     obtain⟨m,nT,aE⟩:=Q;obtain⟨v,mR,qp⟩:=ad0 U Bo (by rw[u2];exact nT);exact⟨U.JR,v,mR,v,m,_,bt,rfl,U.ok,qp,aE⟩
  ·cases aY
inductive eL where
 |same (r:Data)
 |own (sz:Nat) (es:List (List Data))
def zr (w:World)(aW:Nat->Prop)(ds:List Data)(vs:List Value):Prop:=D vs=D ds/\∀(i:Nat) (d:Data) (v:Value),ds[i]?=some d->vs[i]?=some v->Den w aW d v
def ap4 (w aP:World)(aW:Nat->Prop):eL->Value->Prop
 |.same r,v=>Den aP aW r v
 |.own sz es,v=>Bh w aP aW sz es v
structure tz (P:Program) (f:FuncId) (aO:List Data->Option eL):Prop where
 real:Real P f
 run:∀ds r,aO ds=some r->∀(A:Nat->Prop) (w:World) (vs:List Value),(∀b,A b->b<w.heap.size)->zr w A ds vs ->
  Calls P f vs.toArray w λe aP=>∃v,e=.returned v/\Fr (λ_=>False) w aP/\ap4 w aP A r v
def ad2:eL->R->Mem->Prop
 |.same r,m,mem=>∃d,cz d mem m=some r
 |.own sz es,m,mem=>(m=.nil/\es=[])\/∃k g len cs ds d,m=.ref k g sz 0 len/\mem k=some (g,cs)/\len*sz<=D cs/\(cs.take (len*sz)).mapM (cz d (kill mem k))=some ds/\es=chunk sz len ds
def rm (sz:Nat)(mem:Mem):R->Option (List (List Data))
 |.nil=>some []
 |.ref k g et off len=>if et=sz/\off=0 then (match mem k with
  |some (c6,cs)=>if c6=g/\len*sz<=(D cs) then ((cs.take (len*sz)).mapM (cz 6 (kill mem k))).map (chunk sz len) else none
  |none=>none) else none
 |_=>none
def zs (res:List ox):eL->bd->Prop
 |.same r,st=>(pE st res).bind (cz 6 st.mem)=some r
 |.own sz es,st=>(pE st res).bind (rm sz st.mem)=some es
def zt (res:List ox)(r:eL):eX->bd->Prop
 |.exit _,_=>False
 |.normal,st=>zs res r st
 |.ret,st=>zs res r st
theorem ad3 {mf:bT}{r:eL}{st:bd}(h:zs mf.res r st):∃m,pE st mf.res=some m/\ad2 r m st.mem:=by
 cases r with
 |same r =>
  simp only[zs,eo] at h;obtain⟨m,F,I⟩:=h;exact⟨m,F,6,I⟩
 |own sz es =>
  simp only[zs,eo] at h;obtain⟨m,F,I⟩:=h;refine⟨m,F,?_⟩
  cases m<;>simp only[rm,cj,reduceCtorEq] at I
  ·exact .inl ⟨rfl,I.symm⟩
  ·split at I
   ·rename_i G;obtain⟨rfl,rfl⟩:=G
    split at I
    ·rename_i c6 cs Q
     split at I
     ·rename_i bc;obtain⟨rfl,hle⟩:=bc;simp only[dR] at I;obtain⟨ds,g0,rfl⟩:=I;exact .inr ⟨_,_,_,cs,ds,6,rfl,Q,hle,g0,rfl⟩
     ·cases I
    ·cases I
   ·cases I
theorem ap5 {mf:bT}{r:eL}{e:eX}{st:bd}(h:zt mf.res r e st):Tu mf (ad2 r) e st:=by
 cases e with
 |exit id=>exact h
 |normal=>exact ad3 h
 |ret=>exact ad3 h
theorem N2 (b:Nat):¬ sc (λ_=>none) b:=fun⟨_,_,h,_⟩=>by cases h
theorem ap6 (cN : qv P T)(hm : P.follows .mixedOrders = true){f : FuncId}{fn : Func}{mf : bT}(aF : P.funcs[f]? = some fn)(tA : (fn.name == "runtime.NumGoroutine") = false)(aY : sl P kb own fn = some { mf with body := erase mf.body })
  {aO:List Data->Option eL} (h:∀ds r,aO ds=some r->(D ds)<=mf.n/\wp T mf.body (zt mf.res r) ⟨lf (ds.map .J),emp⟩):tz P f aO:=by
 refine⟨?_,λds r e5 A w vs ay tp=>?_⟩
 ·cases ah:fn.body with
  |none=>simp[sl,ah] at aY
  |some c=>exact⟨fn,c,aF,ah,tA⟩
 ·obtain⟨hlen,wz⟩:=h ds r e5;have bS:fm A w (λ_=>none) emp:=⟨λ_ _=>rfl,λ_ _ _ _ _ h=>(by cases h),λb _ bJ=>N2 b bJ,ay,λ_ _ _ h=>(by cases h)⟩;have fH:∀b,b7 A (λ_=>none) b->A b:=λb h=>h.elim (λh=>(N2 b h).elim) id;have bX:dp w (b7 A λ_=>none) (λ_=>none) (ds.map .J) vs:=dp.J tp.1 λi d v F I=>(tp.2 i d v F I).less fH;refine Calls.mono (FT cN hm aF aY (by simpa using hlen) (λe st=>ap5) wz bS bX) λe aP he=>?_;obtain⟨v,m,mem',bt,rfl,U,hv,aE⟩:=he;refine⟨v,rfl,⟨U.az.os,U.az.tape,U.az.output,U.az.size,λg bc _=>U.az.block g bc (N2 g)⟩,?_⟩
  cases r with
  |same r =>
   obtain⟨d,aa⟩:=aE;exact snap U.dV (λb ah=>ah) d m v r aa hv
  |own sz es =>
   rcases aE with ⟨rfl,rfl⟩|⟨k,g,len,cs,Dl,d,rfl,Q,hle,g0,rfl⟩
   ·cases hv;exact⟨by simp,_,0,rfl,bW _,fg _,.inl rfl⟩
   ·obtain⟨F,I⟩:=oy g0;have Tv:(D Dl)=len*sz:=by rw[F,fR];omega
    refine⟨NC sz len Dl Tv,?_⟩;rw[NB,ND sz len Dl Tv]
    cases hv with
    |ref he hgle ab =>
     obtain⟨e,gf,b9,aK,ah⟩:=U.dV.at_ Q;rw[gf] at he;obtain rfl:=mj he;obtain⟨a,cap,rfl,af,aM,bk⟩:=ab;refine⟨a,cap,rfl,af,aM,bk.imp id ?_⟩;rintro⟨b,rfl,bI⟩;obtain⟨bH,b6⟩:=bI b9.symm;obtain⟨oz,ap7,aQ,aS,JP,zl⟩:=ah b bH;obtain⟨ap8,jv⟩:=kill_shut U.dV Q gf bH;refine⟨b,oz,ap7,rfl,?_,aQ,by simpa [aS] using b6,λi x O=>?_⟩
     ·rcases U.fresh b ⟨k,_,gf,bH⟩ with h|h
      ·exact (N2 b h).elim
      ·exact h
     ·have ad4:i<D Dl:=(dz.1 O).1;have kz:i<D cs:=by omega
      have js:(cs.take (len*sz))[i]?=some cs[i]:=by
       rw[pK (by omega)];exact bx kz
      have J0:i<oz.size:=by omega
      refine⟨oz[i],Array.getElem?_eq_getElem J0,snap ap8 (λb ah=>ah) d _ _ x (I i _ x js O) (jv _ _ (zl.2 i _ _ (bx kz) ?_))⟩;rw[pK kz,Array.getElem?_toList];exact Array.getElem?_eq_getElem J0
def scalar:Data->Bool
 |.int _ _=>true
 |.bool _=>true
 |.str _=>true
 |.uI=>true
 |.uJ=>true
 |.Y []=>true
 |.cI ds=>ds.attach.all fun⟨d,_⟩=>scalar d
 |.agg ds=>ds.attach.all fun⟨d,_⟩=>scalar d
 |_=>false
theorem ad5 {aW ma:Nat->Prop}{d:Data}{v:Value}(h:scalar d=true)(aa:Den w aW d v):Den w ma d v:=by
 induction aa with
 |int=>exact .int
 |bool=>exact .bool
 |str=>exact .str
 |uI=>exact .uI
 |uJ=>exact .uJ
 |lK=>exact .lK
 | @Y es b off c sz val aq hm ah fH eW G aa ax =>
  cases es with
  |nil=>exact .lK
  |cons=>simp[scalar] at h
 |ptr=>simp[scalar] at h
 |fn=>simp[scalar] at h
 | @agg cs vs aq aa ax =>
  simp only[scalar,jc,ad6,true_imp_iff,Subtype.forall] at h;exact .agg aq λi d v F I=>ax i d v F I (h d (ep F))
 | @cI cs vs aq aa ax =>
  simp only[scalar,jc,ad6,true_imp_iff,Subtype.forall] at h;exact .cI aq λi d v F I=>ax i d v F I (h d (ep F))
theorem N3 {aW:Nat->Prop}:∀(d:Nat) (m:R) (v:Value) (r:Data),cz d emp m=some r->bs w aW B m v->Den w aW r v:=by
 intro d
 induction d with
 |zero =>
  intro m v r h hv
  cases m<;>simp only[cz,cj,reduceCtorEq] at h
  ·subst h;cases hv with|J h=>exact h
  ·subst h;cases hv;exact .lK
 |succ d ax =>
  intro m v r h hv
  have lists:∀(cs:List R) (vs:List Value) (ds:List Data),cs.mapM (cz d emp)=some ds->(D vs)=(D cs)->(∀(i:Nat) (x:R) (u:Value),cs[i]?=some x->vs[i]?=some u->bs w aW B x u) ->
    (D vs)=D ds/\∀(i:Nat) (x:Data) (u:Value),ds[i]?=some x->vs[i]?=some u->Den w aW x u:=by
   intro cs vs ds g0 aq ab;obtain⟨F,I⟩:=oy g0;refine⟨by omega,λi x u O hu=>?_⟩
   have ay:i<D cs:=by have:=(dz.1 O).1;omega
   have js:=bx ay;exact ax _ u x (I i _ x js O) (ab i _ u js hu)
  cases m<;>simp only[cz,emp,cj,dR,reduceCtorEq] at h
  case J=>subst h;cases hv with|J h=>exact h
  case nil=>subst h;cases hv;exact .lK
  case fy f cs =>
   obtain⟨ds,g0,rfl⟩:=h
   cases hv with
   |fy aq aa=>obtain⟨F,I⟩:=lists _ _ _ g0 aq aa;exact .fn F I
  case agg cs =>
   obtain⟨ds,g0,rfl⟩:=h
   cases hv with
   |agg aq aa=>obtain⟨F,I⟩:=lists _ _ _ g0 aq aa;exact .agg F I
  case cI cs =>
   obtain⟨ds,g0,rfl⟩:=h
   cases hv with
   |cI aq aa=>obtain⟨F,I⟩:=lists _ _ _ g0 aq aa;exact .cI F I
def N4:eL->gY
 |.same r => .same r
 |.own sz es => .own sz es
def wA:eL->Option gY
 |.same r=>if scalar r=true then some (.same r) else none
 |.own sz es=>if (es.all λe=>e.all scalar)=true then some (.own sz es) else none
def N5 (aO:List Data->Option eL):Option (List Data)->Option gY
 |some ds=>(aO ds).bind wA
 |none=>none
def FU (aO:List Data->Option eL):Option (List Data)->Option (List Data)->Option gY
 |some ds,_=>(aO ds).map N4
 |none,x=>N5 aO x
def aV (aO:List Data->Option eL)(args:List R)(mem:Mem):Option gY:=FU aO (args.mapM (cz 6 emp)) (args.mapM (cz 6 mem))
def Bp (lP:FuncId->Option (List Data->Option eL)):bh:=λf args mem=>match lP f with
 |some aO=>aV aO args mem
 |none=>none
theorem ad7 {aW:Nat->Prop}{g:R->Option Data}{args:List R}{ds:List Data}{vs:List Value}(h:args.mapM g=some ds)(hv:dp w aW B args vs){ma:Nat->Prop}(aa:∀m v r,g m=some r->bs w aW B m v->Den w ma r v):zr w ma ds vs:=by
 obtain⟨F,I⟩:=oy h;refine⟨by rw[hv.1,F],λi d v nb lh=>?_⟩
 have ay:i<D args:=by have:=(dz.1 nb).1;omega
 have Bq:=bx ay;exact aa _ v d (I i _ d Bq nb) (hv.2 i _ v Bq lh)
theorem ad8 {lP:FuncId->Option (List Data->Option eL)}(h:∀f aO,lP f=some aO->tz P f aO):qv P (Bp lP):=by
 intro f args mem oB ig;unfold Bp at ig
 split at ig
 ·rename_i aO e5;have jt:=h f aO e5;refine⟨jt.real,λA w B vs bS hv=>?_⟩;unfold aV at ig
  cases g0:args.mapM (cz 6 emp) with
  |some ds =>
   rw[g0] at ig;simp only[FU,dR] at ig;obtain⟨r,ab,rfl⟩:=ig;have G:=jt.run ds r ab (b7 A B) w vs (λb ah=>ah.elim (λh=>bS.xM h) (bS.lt b)) (ad7 g0 hv λm v r=>N3 6 m v r)
   cases r with
   |same r=>exact G
   |own sz es=>exact G
  |none =>
   rw[g0] at ig;simp only[FU] at ig
   cases g0:args.mapM (cz 6 mem) with
   |none=>rw[g0] at ig;cases ig
   |some ds =>
    rw[g0] at ig;simp only[N5,eo] at ig;obtain⟨r,ab,aq⟩:=ig;have G:=jt.run ds r ab (λ_=>False) w vs (λb ah=>ah.elim) (ad7 g0 hv λm v r h hv=>snap bS (λb ah=>ah.elim) 6 m v r h hv)
    cases r with
    |same r =>
     simp only[wA] at aq
     split at aq
     ·rename_i U
      cases aq;exact Calls.mono G λe aP ⟨v,he,bQ,aa⟩=>⟨v,he,bQ,ad5 U aa⟩
     ·cases aq
    |own sz es =>
     simp only[wA] at aq
     split at aq
     ·rename_i U
      cases aq;refine Calls.mono G λe aP ⟨v,he,bQ,aa⟩=>⟨v,he,bQ,?_⟩;obtain⟨F,a,cap,I,af,aM,bk⟩:=aa;refine⟨F,a,cap,I,af,aM,bk.imp id ?_⟩;rintro⟨b,vs,T,bI,bH,b6,iN,gp⟩;refine⟨b,vs,T,bI,bH,b6,iN,λi d aa=>?_⟩;obtain⟨u,hu,tp⟩:=gp i d aa;refine⟨u,hu,ad5 ?_ tp⟩;have hm:=ep aa;rw[List.mem_flatten] at hm;obtain⟨e,he,ap9⟩:=hm;rw[jc] at U;have:=U e he;rw[jc] at this;exact this d ap9
     ·cases aq
 ·cases ig
end Go.Mini
namespace Go.Mini
open Go
def FV {ι:Type}(T:bh)(da:ι->bd->Prop)(m:ι->Nat)(i:ι)(K:eX->bd->Prop)(k:List gz):eX->bd->Prop
 |.normal,st=>∃bo,m bo<m i/\da bo st
 |.exit id,st=>cG T K k (.exit id) st
 |.ret,st=>cG T K k .ret st
@[go_sem] theorem aIC {ι:Type}(T:bh)(da:ι->bd->Prop)(m:ι->Nat)(i:ι)(K:eX->bd->Prop)(k:List gz)(id:Nat)(st:bd):FV T da m i K k (.exit id) st=cG T K k (.exit id) st:=bz
@[go_sem] theorem aID {ι:Type}(T:bh)(da:ι->bd->Prop)(m:ι->Nat)(i:ι)(K:eX->bd->Prop)(k:List gz)(st:bd):FV T da m i K k .ret st=cG T K k .ret st:=bz
@[go_sem] theorem aqa {ι:Type}(T:bh)(da:ι->bd->Prop)(m:ι->Nat)(i:ι)(K:eX->bd->Prop)(k:List gz)(st:bd):FV T da m i K k .normal st=∃bo,m bo<m i/\da bo st:=bz
open Classical in
theorem aqb {ι:Type}{T:bh}{K:eX->bd->Prop}{k:List gz}{st:bd}{c:eA}(da:ι->bd->Prop)(m:ι->Nat)(i0:ι)(al:da i0 st)(h:∀i st,da i st->wp T c (cG T (FV T da m i K k) []) st):
  wp T (.loop c) (cG T K k) st:=by
 have least:∀st,(∃i,da i st)->∃i,da i st/\∀j,da j st->m i<=m j:=by
  intro st ⟨i,M⟩
  have:∀n i,m i=n->da i st->∃i,da i st/\∀j,da j st->m i<=m j:=by
   intro n
   induction n using Tw with
   |_ n ax =>
    intro i aK M
    by_cases O:∃j,da j st/\m j<m i
    ·obtain⟨j,aj,ay⟩:=O;exact ax (m j) (by omega) j rfl aj
    ·refine⟨i,M,λj aj=>?_⟩;rcases h9 (m j) (m i) with ct|ct
     ·exact absurd ⟨j,aj,ct⟩ O
     ·exact ct
  exact this _ i rfl M
 refine⟨λst=>∃i,da i st,λst=>if O:∃i,da i st then m (tB (least st O)) else 0,⟨i0,al⟩,λst dy=>?_⟩;have iP:=o7 (least st dy);have:=h _ st iP.1
 have Q:cG T (FV T da m (tB (least st dy)) K k) []=λe dO=>match e with
   |.normal=>(∃i,da i dO)/\(if O:∃i,da i dO then m (tB (least dO O)) else 0)<(if O:∃i,da i st then m (tB (least st O)) else 0)
   |e=>cG T K k e dO:=by
  funext e dO
  cases e with
  |normal =>
   simp only[ao0,aqa];apply propext
   constructor
   ·rintro⟨bo,ay,aj⟩;have hex:∃i,da i dO:=⟨bo,aj⟩;refine⟨hex,?_⟩;rw[dif_pos hex,dif_pos dy];have:=(o7 (least dO hex)).2 bo aj;omega
   ·rintro⟨hex,ay⟩;rw[dif_pos hex,dif_pos dy] at ay;exact⟨_,ay,(o7 (least dO hex)).1⟩
  |exit id=>rfl
  |ret=>rfl
 rw[Q] at this;exact this
section
variable {aO:List Data->Option eL} {mem:Mem} {st:bd} {res:List ox}
@[go_sem] theorem aIE (ds:List Data)(x:Option (List Data)):FU aO (some ds) x=(aO ds).map N4:=bz
@[go_sem] theorem aIF (x:Option (List Data)):FU aO none x=N5 aO x:=bz
@[go_sem] theorem aIG (ds:List Data):N5 aO (some ds)=(aO ds).bind wA:=bz
@[go_sem] theorem aIH (r:Data):N4 (.same r)=.same r:=bz
@[go_sem] theorem aII (sz:Nat)(es:List (List Data)):N4 (.own sz es)=.own sz es:=bz
@[go_sem] theorem aIJ (r:Data):wA (.same r)=if scalar r=true then some (.same r) else none:=bz
@[go_sem] theorem N6 (n:Nat)(d:Data):cz n mem (.J d)=some d:=by cases n<;>rfl
@[go_sem] theorem aqc (n:Nat):cz n mem .nil=some (.Y []):=by cases n<;>rfl
@[go_sem] theorem aIK (n:Nat)(cs:List R):cz (n+1) mem (.agg cs)=(cs.mapM (cz n mem)).map .agg:=bz
@[go_sem] theorem aIL (n:Nat)(cs:List R):cz (n+1) mem (.cI cs)=(cs.mapM (cz n mem)).map .cI:=bz
@[go_sem] theorem aqd (n:Nat)(f:FuncId)(cs:List R):cz (n+1) mem (.fy f cs)=(cs.mapM (cz n mem)).map (.fn f):=bz
@[go_sem] theorem aIM (r:eL)(id:Nat):zt res r (.exit id) st=False:=bz
@[go_sem] theorem aIN (r:eL):zt res r .ret st=zs res r st:=bz
@[go_sem] theorem aIO (r:eL):zt res r .normal st=zs res r st:=bz
@[go_sem] theorem aIP (r:Data):zs res (.same r) st=((pE st res).bind (cz 6 st.mem)=some r):=bz
@[go_sem] theorem aIQ (sz:Nat)(es:List (List Data)):zs res (.own sz es) st=((pE st res).bind (rm sz st.mem)=some es):=bz
end
@[go_sem] theorem aIR (x:Bool):NJ (.J (.bool x)) true=some x:=by cases x<;>rfl
@[go_sem] theorem aIS (x:Bool):NJ (.J (.bool x)) false=some (!x):=by cases x<;>rfl
attribute [go_sem] eE c1 List.getElem?_cons_zero List.getElem?_cons_succ hV lq lQ wB nd kB ll Option.map_none kx
 lg FW g7 hf jg jO List.drop_succ_cons List.drop_nil List.take_nil c8 dD u3 sq lR pL zu gT iQ fz FX List.all_nil true_and and_true kO bne
section
variable {T:bh} {K:eX->bd->Prop} {k:List gz} {st:bd}
theorem aqe {x:Bool}{i:c9}{r:List c9}(F:x=false->ri T K k (some true) i r st)(I:x=true->ri T K k (some false) i r st):ri T K k (some (!x)) i r st:=by
 cases x
 ·exact F rfl
 ·exact I rfl
theorem aqf {x:Bool}{i:c9}{r:List c9}(F:x=true->ri T K k (some true) i r st)(I:x=false->ri T K k (some false) i r st):ri T K k (some x) i r st:=by
 cases x
 ·exact I rfl
 ·exact F rfl
theorem aqg {x:Bool}{n:Nat}{i:c9}{r:List c9}{c:List (List Nat)}{rec:Rec}(F:x=false->rj T K k n (some true) i r c rec st)(I:x=true->rj T K k n (some false) i r c rec st):rj T K k n (some (!x)) i r c rec st:=by
 cases x
 ·exact F rfl
 ·exact I rfl
theorem aqh {x:Bool}{n:Nat}{i:c9}{r:List c9}{c:List (List Nat)}{rec:Rec}(F:x=true->rj T K k n (some true) i r c rec st)(I:x=false->rj T K k n (some false) i r c rec st):rj T K k n (some x) i r c rec st:=by
 cases x
 ·exact I rfl
 ·exact F rfl
theorem aqi {x:Bool}{a b:eA}(F:x=false->qu T K k (.J (.bool true)) a b st)(I:x=true->qu T K k (.J (.bool false)) a b st):qu T K k (.J (.bool (!x))) a b st:=by
 cases x
 ·exact F rfl
 ·exact I rfl
theorem aqj {x:Bool}{a b:eA}(F:x=true->qu T K k (.J (.bool true)) a b st)(I:x=false->qu T K k (.J (.bool false)) a b st):qu T K k (.J (.bool x)) a b st:=by
 cases x
 ·exact I rfl
 ·exact F rfl
end
class Dn (bM:Prop) (A B:outParam Prop):Prop where
 go:A->B->bM
theorem aw {bM A B:Prop}[s:Dn bM A B](a:A)(b:B):bM:=s.go a b
theorem aX {bM:Prop}(h:true=true->bM):bM:=h rfl
instance {T K k i r st} {x:Bool}:Dn (ri T K k (some x) i r st) (x=true->ri T K k (some true) i r st) (x=false->ri T K k (some false) i r st):=⟨aqf⟩
instance {T K k i r st} {x:Bool}:Dn (ri T K k (some (!x)) i r st) (x=false->ri T K k (some true) i r st) (x=true->ri T K k (some false) i r st):=⟨aqe⟩
instance {T K k st a b} {x:Bool}:Dn (qu T K k (.J (.bool x)) a b st) (x=true->qu T K k (.J (.bool true)) a b st) (x=false->qu T K k (.J (.bool false)) a b st):=⟨aqj⟩
instance {T K k st a b} {x:Bool}:Dn (qu T K k (.J (.bool (!x))) a b st) (x=false->qu T K k (.J (.bool true)) a b st) (x=true->qu T K k (.J (.bool false)) a b st):=⟨aqi⟩
instance {T K k n i r c rec st} {x:Bool}:Dn (rj T K k n (some x) i r c rec st) (x=true->rj T K k n (some true) i r c rec st) (x=false->rj T K k n (some false) i r c rec st):=⟨aqh⟩
instance {T K k n i r c rec st} {x:Bool}:Dn (rj T K k n (some (!x)) i r c rec st) (x=false->rj T K k n (some true) i r c rec st) (x=true->rj T K k n (some false) i r c rec st):=⟨aqg⟩
attribute [go_sem] reduceIte Nat.reduceEqDiff Nat.reduceAdd Nat.reduceSub Nat.reduceMul Nat.reduceLeDiff reduceCtorEq Nat.reduceLT Nat.reduceBEq Int.reduceEq
attribute [go_sem] kO
def J5 {ι:Type}(T:bh)(gP:List Nat)(qx:List Key)(vs:List R)(ms:List (Option (Nat×List R)))(da:ι->(Nat->R)->Mem->Prop)(m:ι->Nat)(i:ι)(K:eX->bd->Prop)(k:List gz):eX->bd->Prop
 |.normal,st=>∃bo,m bo<m i/\gP.map st.tm=vs/\qx.map st.mem=ms/\da bo st.tm st.mem
 |.exit id,st=>cG T K k (.exit id) st
 |.ret,st=>cG T K k .ret st
section
variable {ι:Type} (T:bh) (gP:List Nat) (qx:List Key) (vs:List R) (ms:List (Option (Nat×List R))) (da:ι->(Nat->R)->Mem->Prop) (m:ι->Nat) (i:ι) (K:eX->bd->Prop) (k:List gz)
@[go_sem] theorem aIT (id:Nat)(st:bd):J5 T gP qx vs ms da m i K k (.exit id) st=cG T K k (.exit id) st:=bz
@[go_sem] theorem aIU (st:bd):J5 T gP qx vs ms da m i K k .ret st=cG T K k .ret st:=bz
@[go_sem] theorem aIV (st:bd):J5 T gP qx vs ms da m i K k .normal st=∃bo,m bo<m i/\gP.map st.tm=vs/\qx.map st.mem=ms/\da bo st.tm st.mem:=bz
end
theorem dv {ι:Type}{T:bh}{K:eX->bd->Prop}{k:List gz}{FY:Nat->R}{eF:Mem}{c:eA}(gP:List Nat)(qx:List Key)(da:ι->(Nat->R)->Mem->Prop)(m:ι->Nat)(i0:ι)(al:da i0 FY eF)
  (h:∀vs ms,gP.map FY=vs->qx.map eF=ms->∀i tm mem,gP.map tm=vs->qx.map mem=ms->da i tm mem->wp T c (cG T (J5 T gP qx vs ms da m i K k) []) ⟨tm,mem⟩) :
  wp T (.loop c) (cG T K k) ⟨FY,eF⟩:=by
 refine aqb (λi st=>gP.map st.tm=gP.map FY/\qx.map st.mem=qx.map eF/\da i st.tm st.mem) m i0 ⟨rfl,rfl,al⟩ ?_;rintro i ⟨tm,mem⟩ ⟨F,I,af⟩;have:=h _ _ rfl rfl i tm mem F I af
 have Q:cG T (J5 T gP qx (gP.map FY) (qx.map eF) da m i K k) []=cG T (FV T (λi (st:bd)=>gP.map st.tm=gP.map FY/\qx.map st.mem=qx.map eF/\da i st.tm st.mem) m i K k) []:=by
  funext e dO
  cases e<;>rfl
 rw[Q] at this;exact this
theorem wp_mono {T:bh}:∀(c:eA) (K jh:eX->bd->Prop),(∀e st,K e st->jh e st)->∀st,wp T c K st->wp T c jh st:=by
 intro c
 induction c with
 |skip=>exact λK jh h st=>h _ _
 |ops l =>
  intro K jh h st hw
  have:∀(l:List c9) (K jh:bd->Prop),(∀st,K st->jh st)->∀st,xP T K l st->xP T jh l st:=by
   intro l
   induction l with
   |nil=>exact λK jh h st=>h st
   |cons i r ax =>
    intro K jh h st hw;unfold xP at hw ⊢
    split
    ·rename_i bc;rw[bc] at hw;exact hw
    ·rename_i g bc;rw[bc] at hw;simp only at hw ⊢
     split
     ·rename_i iM;rw[ad iM] at hw
      have rh:∀(K jh:bd->Prop),(∀st,K st->jh st)->gx T K i st->gx T jh i st:=by
       intro K jh h hw
       have G:∀d f args,uM T K st d f args->uM T jh st d f args:=by
        intro d f args hw;unfold uM at hw ⊢
        split
        ·rename_i aQ;rw[aQ] at hw;exact h _ hw
        ·rename_i aQ;rw[aQ] at hw;exact h _ hw
        ·rename_i aQ;rw[aQ] at hw;exact λr mem' ab=>h _ (hw r mem' ab)
        ·rename_i aQ;rw[aQ] at hw;exact h _ hw
        ·rename_i aQ;rw[aQ] at hw;exact h _ hw
        ·rename_i aQ;rw[aQ] at hw;exact hw
       unfold gx at hw ⊢
       split
       ·rename_i aQ;rw[aQ] at hw;exact G _ _ _ hw
       ·rename_i aQ;rw[aQ] at hw
        simp only at hw
        split
        ·rename_i oZ;rw[oZ] at hw
         simp only at hw
         split
         ·rename_i U;rw[ad U] at hw;exact h _ hw
         ·rename_i U;rw[ae U] at hw;exact hw
        ·rename_i oZ
         split at hw
         ·rename_i et es Tx;exact (oZ et es Tx).elim
         ·exact hw
       ·rename_i aQ;rw[aQ] at hw
        simp only at hw
        split
        ·rename_i oZ;rw[oZ] at hw;exact G _ _ _ hw
        ·rename_i oZ;rw[oZ] at hw;exact G _ _ _ hw
        ·rename_i oZ Tx
         split at hw
         ·rename_i Ty;exact (oZ _ _ Ty).elim
         ·rename_i Ty;exact (Tx _ _ Ty).elim
         ·exact hw
       ·rename_i aQ;rw[aQ] at hw
        simp only at hw
        split
        ·rename_i oZ;rw[oZ] at hw;exact λb ah=>h _ (hw b ah)
        ·rename_i oZ;rw[oZ] at hw;exact hw
       ·rename_i F I af aM
        split at hw
        ·rename_i aQ;exact (F _ _ aQ).elim
        ·rename_i aQ;exact (I _ _ _ _ aQ).elim
        ·rename_i aQ;exact (af _ _ aQ).elim
        ·rename_i aQ;exact (aM _ _ aQ).elim
        ·split
         ·rename_i aQ;rw[aQ] at hw;exact h _ hw
         ·rename_i aQ;rw[aQ] at hw;exact hw
      exact rh _ _ (ax _ _ h) hw
     ·rename_i iM;rw[ae iM] at hw;exact ax _ _ h _ hw
  exact this l _ _ (λst=>h .normal st) st hw
 |nK l c =>
  intro K jh h st hw
  have:∀(l:List c9) (n:Nat) (cs:List (List Nat)) (rec:Rec) (K jh:bd->Prop),(∀st,K st->jh st)->∀st,wj T K n l cs rec st->wj T jh n l cs rec st:=by
   intro l
   induction l with
   |nil=>exact λn cs rec K jh h st=>h st
   |cons i r ax =>
    intro n cs rec K jh h st hw;unfold wj at hw ⊢
    split
    ·rename_i bc;rw[bc] at hw;exact hw
    ·rename_i g bc;rw[bc] at hw;simp only at hw ⊢
     split
     ·rename_i iM;rw[ad iM] at hw
      split
      ·rename_i m e U;rw[U] at hw;exact⟨hw.1,ax _ _ _ _ _ h _ hw.2⟩
      ·rename_i U;rw[U] at hw;exact hw
     ·rename_i iM;rw[ae iM] at hw;exact ax _ _ _ _ _ h _ hw
  exact this l 0 c _ _ _ (λst=>h .normal st) st hw
 |seq a b iha ihb =>
  intro K jh h st hw;refine iha _ _ (λe dO aQ=>?_) st hw
  cases e with
  |normal=>exact ihb _ _ h _ aQ
  |exit id=>exact h _ _ aQ
  |ret=>exact h _ _ aQ
 |cond c a b iha ihb =>
  intro K jh h st hw;unfold wp at hw ⊢
  split
  ·rename_i t G;rw[G] at hw;simp only at hw
   split
   ·rename_i bD;rw[ad bD] at hw;exact iha _ _ h _ hw
   ·rename_i bD;rw[ae bD] at hw;exact ihb _ _ h _ hw
  ·rename_i O
   split at hw
   ·rename_i G;exact (O _ G).elim
   ·exact hw
 |block id c ax =>
  intro K jh h st hw;refine ax _ _ (λe dO aQ=>?_) st hw
  cases e with
  |normal=>exact h _ _ aQ
  |exit j =>
   simp only at aQ ⊢
   split
   ·rename_i aj;rw[ad aj] at aQ;exact h _ _ aQ
   ·rename_i aj;rw[ae aj] at aQ;exact h _ _ aQ
  |ret=>exact h _ _ aQ
 |loop c ax =>
  intro K jh h st hw;obtain⟨C2,μ,al,J4⟩:=hw;refine⟨C2,μ,al,λst dy=>ax _ _ (λe dO aQ=>?_) _ (J4 st dy)⟩
  cases e with
  |normal=>exact aQ
  |exit id=>exact h _ _ aQ
  |ret=>exact h _ _ aQ
 |exit id=>exact λK jh h st=>h _ _
 |ret=>exact λK jh h st=>h _ _
 |ghost g c ax =>
  intro K jh h st hw
  have:∀(K jh:bd->Prop),(∀st,K st->jh st)->ld K st g->ld jh st g:=by
   intro K jh h hw;unfold ld at hw
   repeat' split at hw
   all_goals first
    |exact hw.elim
    |exact⟨hw.choose,hw.choose_spec.1,h _ hw.choose_spec.2⟩
    |(
      rcases hw with hw|⟨fP,gZ,gE,i,k,g,sz,off,len,cs,k',F,I,af,aM,bk,bI,hw⟩|⟨fP,gZ,gE,i,k,g,sz,off,len,cs,d,F,I,af,aM,bk,bI,hw⟩
      ·exact .inl (h _ hw)
      ·exact .inr (.inl ⟨fP,gZ,gE,i,k,g,sz,off,len,cs,k',F,I,af,aM,bk,bI,h _ hw⟩)
      ·exact .inr (.inr ⟨fP,gZ,gE,i,k,g,sz,off,len,cs,d,F,I,af,aM,bk,bI,h _ hw⟩))
    |(
      have ct:=h _ hw;clear hw h;unfold ld
      simp_all)
  exact this _ _ (ax _ _ h) hw
def FZ (T:bh)(K:eX->bd->Prop)(k:List gz)(aL:bd->Prop):eX->bd->Prop
 |.normal,st=>aL st
 |.exit id,st=>cG T K k (.exit id) st
 |.ret,st=>cG T K k .ret st
@[go_sem] theorem aIW {T:bh}{K:eX->bd->Prop}{k:List gz}{aL:bd->Prop}(st:bd):FZ T K k aL .normal st=aL st:=bz
@[go_sem] theorem aIX {T:bh}{K:eX->bd->Prop}{k:List gz}{aL:bd->Prop}(id:Nat)(st:bd):FZ T K k aL (.exit id) st=cG T K k (.exit id) st:=bz
@[go_sem] theorem aIY {T:bh}{K:eX->bd->Prop}{k:List gz}{aL:bd->Prop}(st:bd):FZ T K k aL .ret st=cG T K k .ret st:=bz
theorem ad9 {T:bh}{K:eX->bd->Prop}{k:List gz}{c a:eA}{st:bd}(aL:bd->Prop)(aN:wp T a (cG T (FZ T K k aL) []) st)(G:∀dO,aL dO->wp T c (cG T K k) dO):wp T a (cG T K (.code c::k)) st:=by
 refine wp_mono a _ _ (λe dO aQ=>?_) st aN
 cases e with
 |normal=>exact G dO aQ
 |exit id=>exact aQ
 |ret=>exact aQ
theorem aqk {T:bh}{K:eX->bd->Prop}{k:List gz}{x:Bool}{c a b:eA}{st:bd}(aL:bd->Prop)(aN:x=true->wp T a (cG T (FZ T K k aL) []) st)(ah:x=false->wp T b (cG T (FZ T K k aL) []) st)
  (G:∀dO,aL dO->wp T c (cG T K k) dO):qu T K (.code c::k) (.J (.bool x)) a b st:=by
 cases x
 ·rw[ao2];exact ad9 aL (ah rfl) G
 ·rw[ao1];exact ad9 aL (aN rfl) G
attribute [go_sem] beq_true beq_false Bool.true_beq Bool.false_beq jC List.flatten_nil fJ List.headD_cons List.headD_nil List.tail_cons List.tail_nil List.contains_nil List.contains_cons Bool.not_eq_true'
section
variable {T:bh} {K:eX->bd->Prop} {k:List gz} {st:bd}
@[go_sem] theorem aIZ (g:Ng)(c:eA):wp T (.ghost g c) (cG T K k) st=ld (wp T c (cG T K k)) st g:=bz
def Tz (K:bd->Prop)(st:bd)(s k sz:Nat):R->Prop
 |.nil=>K ⟨e3 st.tm s (.ref k (bU st.mem k) sz 0 0),aZ st.mem k (bU st.mem k) []⟩
 |_=>False
@[go_sem] theorem aI0 (K:bd->Prop)(s k sz:Nat):ld K st (.ow s k sz)=Tz K st s k sz (st.tm s):=by
 unfold ld Tz;rfl
@[go_sem] theorem aI1 (K:bd->Prop)(s k sz:Nat):Tz K st s k sz .nil=K ⟨e3 st.tm s (.ref k (bU st.mem k) sz 0 0),aZ st.mem k (bU st.mem k) []⟩:=bz
end
section
variable {K:bd->Prop} {st:bd}
theorem aql (fP i k k':Nat){gZ:Nat}{gE:List R}{g sz off len:Nat}{cs:List R}(F:st.mem fP=some (gZ,gE))(I:gE[i]?=some (.ref k g sz off len))(af:st.mem k=some (g,cs))(aM:k≠fP)(bk:k'≠k)(bI:k'≠fP)
  (h:K ⟨st.tm,aZ (aZ (aZ st.mem k (bU st.mem k) []) k' (bU st.mem k') cs) fP gZ (gE.set i (.ref k' (bU st.mem k') sz off len))⟩):ld K st .move :=
 .inr (.inl ⟨fP,gZ,gE,i,k,g,sz,off,len,cs,k',F,I,af,aM,bk,bI,h⟩)
def Br (K:bd->Prop)(st:bd)(s k g sz off len:Nat):Option (Nat×List R)->Prop
 |some (c6,cs)=>if c6=g/\nM cs=true then (match cut cs off (len*sz) with
  |some part=>(match part.mapM (cz 0 st.mem) with
   |some ds=>K ⟨e3 st.tm s (.J (.Y (chunk sz len ds))),kill st.mem k⟩
   |none=>False)
  |none=>False) else False
 |none=>False
def TA (K:bd->Prop)(st:bd)(s:Nat):R->Prop
 |.ref k g sz off len=>Br K st s k g sz off len (st.mem k)
 |_=>False
@[go_sem] theorem aI2 (s:Nat):ld K st (.freeze s)=TA K st s (st.tm s):=by
 unfold ld TA;dsimp only
 cases hm:st.tm s with
 |ref k g sz off len=>?_
 |_=>rfl
 dsimp only;unfold Br
 cases Q:st.mem k with
 |none=>rfl
 |some x =>
  obtain⟨c6,cs⟩:=x;simp only
  by_cases G:c6=g/\nM cs=true
  ·rw[ad G,ad G];unfold cz;rw[Q];simp only[G.1,if_true]
   cases xW:cut cs off (len*sz) with
   |none=>rfl
   |some part =>
    simp only
    cases aE:part.mapM (cz 0 st.mem)<;>rfl
  ·rw[ae G,ae G]
@[go_sem] theorem aI3 (s k g sz off len:Nat):TA K st s (.ref k g sz off len)=Br K st s k g sz off len (st.mem k):=bz
@[go_sem] theorem aI4 (mem:Mem)(k:Key):kill mem k=aZ mem k (bU mem k) []:=bz
end
open Classical in
def cp {α:Type}(wC:α->List Data)(f:α->Option eL):List Data->Option eL:=λds=>if h:∃a,wC a=ds then f (tB h) else none
theorem cA {α:Type}{wC:α->List Data}{f:α->Option eL}(inj:∀a b,wC a=wC b->a=b)(a:α):cp wC f (wC a)=f a:=by
 have h:∃b,wC b=wC a:=⟨a,rfl⟩;unfold cp;rw[dif_pos h,inj _ _ (o7 h)]
theorem aqm {α:Type}{wC:α->List Data}{f:α->Option eL}{ds:List Data}{r:eL}(h:cp wC f ds=some r):∃a,ds=wC a/\f a=some r:=by
 unfold cp at h
 split at h
 ·rename_i O;exact⟨_,(o7 O).symm,h⟩
 ·cases h
open Classical in
def cV (c:Prop)(r:eL):Option eL:=if c then some r else none
theorem cY {c:Prop}(h:c)(r:eL):cV c r=some r:=by unfold cV;rw[ad h]
@[go_sem] theorem aI5 (aO:List Data->Option eL)(args:List R)(mem:Mem):aV aO args mem=FU aO (args.mapM (cz 6 emp)) (args.mapM (cz 6 mem)):=bz
theorem map_inj {α β:Type}{f:α->β}(h:∀a b,f a=f b->a=b):∀(l fr:List α),l.map f=fr.map f->l=fr:=by
 intro l
 induction l with
 |nil=>intro fr e;cases fr<;>simp_all
 |cons a r ax =>
  intro fr e
  cases fr with
  |nil=>simp at e
  |cons b Fw =>
   simp only[eE,bb] at e;rw[h _ _ e.1,ax _ e.2]
def N7 (l:List (FuncId×(List Data->Option eL))):FuncId->Option (List Data->Option eL):=λf=>(l.find? λp=>p.1==f).map (·.2)
theorem u4 {P:Program}{l:List (FuncId×(List Data->Option eL))}(h:∀p∈l,tz P p.1 p.2):∀f aO,N7 l f=some aO->tz P f aO:=by
 intro f aO aF;unfold N7 at aF;rw[dR] at aF;obtain⟨p,aE,rfl⟩:=aF;have F:=List.mem_of_find?_eq_some aE;have I:=List.find?_some aE;have af:p.1=f:=by simpa using I
 exact af ▸ h p F
theorem cl {P:Program}:∀p∈([]:List (FuncId×(List Data->Option eL))),tz P p.1 p.2:=by simp
theorem ba {P:Program}{f:FuncId}{aO:List Data->Option eL}{l:List (FuncId×(List Data->Option eL))}(h:tz P f aO)(aq:∀p∈l,tz P p.1 p.2):∀p∈(f,aO)::l,tz P p.1 p.2:=by
 intro p aE;rcases hE.1 aE with rfl|aE
 ·exact h
 ·exact aq p aE
theorem aea {lP:FuncId->Option (List Data->Option eL)}{f:FuncId}{aO:List Data->Option eL}(h:lP f=some aO):Bp lP f=aV aO:=by
 funext args mem
 unfold Bp;rw[h]
@[go_sem] theorem aI6 (mem:Mem)(k:Key)(z:List R)(b m:Nat)(new:List R):q6 mem k z b .nil (some (m,new)) =
  if m*b<=140737488355328/\m<=maxLen/\new.all R.one=true then some (.ref k (bU mem k) (D z) 0 m,some (k,bU mem k,new)) else none:=bz
@[go_sem] theorem aI7 (mem:Mem)(k k':Key)(z:List R)(g sz b len m:Nat)(new:List R):q6 mem k z b (.ref k' g sz 0 len) (some (m,new)) =
  if sz=(D z) then mN k' g sz len b m new (mem k') else none:=by
 unfold q6;simp
def bf {α:Type}(enc:α->List Data)(l:List α):List R:=(l.map enc).flatten.map .J
section
variable {α:Type} {enc:α->List Data} {sz:Nat}
theorem aqn:bf enc []=[]:=rfl
theorem x8 (a:α)(l:List α):bf enc (a::l)=(enc a).map .J++bf enc l:=by simp[bf]
theorem TB (a b:List α):bf enc (a++b)=bf enc a++bf enc b:=by simp[bf]
theorem oE (h:∀a,(enc a).length=sz)(l:List α):(bf enc l).length=D l*sz:=by
 induction l with
 |nil=>simp[bf]
 |cons a r ax=>rw[x8,fE,ax,ak,h,hV,qh,Nat.one_mul,Nat.add_comm]
theorem aeb (h:∀a,(enc a).length=sz){l:List α}{i:Nat}{a:α}(M:l[i]?=some a):∃p q,bf enc l=p++((enc a).map .J++q)/\D p=i*sz/\∀b,bf enc (l.set i b)=p++((enc b).map .J++q):=by
 have ay:=(dz.1 M).1;have iR:l[i]=a:=(dz.1 M).2
 have e:l=l.take i++a::l.drop (i+1):=by
  rw[<-iR,<-ia ay,Bs]
 refine⟨bf enc (l.take i),bf enc (l.drop (i+1)),?_,?_,λb=>?_⟩
 ·conv=>lhs;rw[e]
  rw[TB,x8]
 ·rw[oE h,fR];congr 1;omega
 ·rw[List.set_eq_take_append_cons_drop,ad ay,TB,x8]
theorem TC (h:∀a,(enc a).length=sz){l:List α}{i:Nat}{a:α}(M:l[i]?=some a){f n:Nat}(aF:f+n<=sz):cut (bf enc l) (i*sz+f) n=some ((((enc a).map .J).drop f).take n):=by
 obtain⟨p,q,e,aE,-⟩:=aeb h M;have aN:=h a;unfold cut;rw[e,ad (by simp only[fE,ak];omega),<-aE];rw[rn,kP (by omega)];rw[show (D p)+f-D p=f by omega,jg,rn,List.take_append]
 have:n-(((enc a).map R.J).drop f).length=0:=by simp only[rp,ak];omega
 rw[this,nd,fJ]
theorem TD (h:∀a,(enc a).length=sz){l:List α}{i:Nat}(M:i<D l)(b:α):kM (bf enc l) (i*sz) ((enc b).map .J)=bf enc (l.set i b):=by
 obtain⟨p,q,e,aE,U⟩:=aeb h (bx M);rw[U b,e];have aN:=h l[i];have ah:=h b;unfold kM;rw[<-aE,TE,gU]
 congr 2
 rw[rn,kP (by omega),jg,ak,show (D p)+(enc b).length-D p=(enc b).length by omega,ah,<-aN,<-ak (f:=R.J),TF]
theorem aqo (bJ:∀a,((enc a).map R.J).all R.one=true)(l:List α):(bf enc l).all R.one=true:=by
 induction l with
 |nil=>rfl
 |cons a r ax=>rw[x8,List.all_append,bJ,ax];rfl
theorem F6 (h:∀a,(enc a).length=sz)(bJ:∀a,((enc a).map R.J).all R.one=true)(k g b:Nat)(l new:List α)(ah:(D l+D new)*b<=140737488355328)(hm:(D l)+D new<=1000000000):
  mN k g sz (D l) b (D new) (bf enc new) (some (g,bf enc l))=some (.ref k (g+1) sz 0 (D l+D new),some (k,g+1,bf enc (l++new))):=by
 unfold mN;have nT:(D l)+D new<=maxLen:=eP hm (by decide);dsimp only;rw[ad ⟨rfl,by rw[oE h];exact bW _,ah,nT,aqo bJ new⟩,TB,dt (by rw[oE h];exact bW _)]
theorem mu (h:∀a,(enc a).length=sz)(bJ:∀a,((enc a).map R.J).all R.one=true)(k g b:Nat)(l:List α)(a:α){cs:List R}(G:cs=(enc a).map .J)(ah:(D l+1)*b<=140737488355328)(hm:(D l)+1<=1000000000):
  mN k g sz (D l) b 1 cs (some (g,bf enc l))=some (.ref k (g+1) sz 0 (D l+1),some (k,g+1,bf enc (l++[a]))):=by
 have:=F6 h bJ k g b l [a] ah hm;rw[G];rw[x8,aqn,fJ] at this;exact this
theorem tC (f:R->Option Data)(aF:∀d,f (.J d)=some d)(l:List Data):(l.map R.J).mapM f=some l:=by
 induction l with
 |nil=>rfl
 |cons a r ax=>simp[aF,ax]
theorem x9:∀(l:List (List Data)),(∀e∈l,D e=sz)->chunk sz (D l) l.flatten=l:=by
 intro l
 induction l with
 |nil=>intro _;rfl
 |cons e r ax =>
  intro h;have he:=h e (by simp);rw[hV,jC,chunk];rw[<-he,TE,TF,he,ax λx O=>h x (by simp[O])]
theorem qy (h:∀a,(enc a).length=sz){n k g:Nat}{mem:Mem}{l:List α}(hm:mem k=some (g,bf enc l)):cz (n+1) mem (.ref k g sz 0 (D l))=some (.Y (l.map enc)):=by
 unfold cz;rw[hm];simp only[if_true];unfold cut;rw[kx,oE h,ad (bW _)];simp only[lQ];rw[dt (by rw[oE h];exact bW _)];unfold bf;rw[tC _ λd=>by cases n<;>rfl]
 have:=x9 (sz:=sz) (l.map enc) (by simpa using λa _=>h a);rw[ak] at this;simp[this]
end
theorem aec {α:Type}(enc:α->List Data)(l:List α):nM (bf enc l)=true:=by
 unfold nM bf;rw[jc];intro m hm;rw[dS] at hm;obtain⟨d,_,rfl⟩:=hm
 rfl
theorem mS {α:Type}{enc:α->List Data}{sz:Nat}(h:∀a,(enc a).length=sz){K:bd->Prop}{st:bd}(s k g:Nat)(l:List α):
  Br K st s k g sz 0 (D l) (some (g,bf enc l))=K ⟨e3 st.tm s (.J (.Y (l.map enc))),kill st.mem k⟩:=by
 have ab:=qy (n:=0) h (mem:=aZ st.mem k g (bf enc l)) (k:=k) (g:=g) (l:=l) (by simp[aZ]);unfold Br;dsimp only;rw[ad ⟨rfl,aec enc l⟩];unfold cut;rw[kx,oE h,ad (bW _)];dsimp only;rw[lQ,dt (by rw[oE h];exact bW _)];unfold bf;rw[tC _ λd=>rfl];dsimp only;have:=x9 (sz:=sz) (l.map enc) (by simpa using λa _=>h a);rw[ak] at this;rw[this]
theorem wrap64 (x:Int)(F:-9223372036854775808<=x)(I:x<=9223372036854775807):IntKind.i64.wrap x=x:=by
 rw[IntKind.wrap_i64];omega
theorem aed {α:Type}(l:List α)(i:Int)(al:0<=i)(h:i<D l):∃x,l[i.toNat]?=some x/\l.drop i.toNat=x::l.drop (i+1).toNat/\l.take (i+1).toNat=l.take i.toNat++[x]:=by
 have ay:i.toNat<D l:=by omega
 have e:(i+1).toNat=i.toNat+1:=by omega
 refine⟨l[i.toNat],bx ay,?_,?_⟩
 ·rw[e];exact ia ay
 ·rw[e];rw[g1,bx ay];rfl
abbrev WP (T:bh)(mf:bT)(r:eL)(l:List R):Prop:=wp T mf.body (zt mf.res r) ⟨lf l,emp⟩
theorem cB {T:bh}{c:eA}{K:eX->bd->Prop}{st:bd}(h:wp T c (cG T K []) st):wp T c K st:=tn h
theorem fi (x:Int)(F:-9223372036854775808<=x:=by omega)(I:x<=9223372036854775807:=by omega):IntKind.i64.wrap x=x:=wrap64 x F I
theorem e9 {i:Nat}(h:i<1000000000000):IntKind.i64.wrap ((i:Int)+1)=((i+1:Nat):Int):=by rw[wrap64 _ (by omega) (by omega)];omega
end Go.Mini
namespace Go.Mini
open Go Go.ChangeShapes Go.WideShapes
inductive qz where
 |int (k:IntKind)
 |bool
 |str
 |Y (e:qz)
 |st (l:List qz)
mutual
def Fit:qz->List Data->Prop
 |.int k,ds=>∃n,ds=[.int k n]/\(Lit.int k n).wf=true
 |.bool,ds=>∃b,ds=[.bool b]
 |.str,ds=>∃s,ds=[.str s]/\D s<=maxLen
 |.Y e,ds=>∃es,ds=[.Y es]/\D es<=maxLen/\∀x∈es,Fit e x
 |.st l,ds=>Fits l ds
def Fits:List qz->List Data->Prop
 | [],ds=>ds=[]
 |s::r,ds=>∃a b,ds=a++b/\Fit s a/\Fits r b
end
def J6 (P:Program):Nat->List Field->Nat->Bool
 |off,[],tot=>off==tot
 |off,f::r,tot=>f.offset==off&&J6 P (off+P.cellsOf f.type) r tot
def J7 (g:TypeId->Option qz):List Field->Option (List qz)
 | []=>some []
 |f::r=>match g f.type,J7 g r with
  |some s,some l=>some (s::l)
  |_,_=>none
def sr (P:Program):Nat->TypeId->Option qz
 |0,_=>none
 |n+1,t=>match P.underlying t with
  |some .bool=>some .bool
  |some (.int k)=>some (.int k)
  |some .string=>some .str
  |some (.slice e)=>if 0<P.cellsOf e then (sr P n e).map .Y else none
  |some (.struct dK)=>if J6 P 0 dK.toList (P.cellsOf t)=true then (J7 (sr P n) dK.toList).map .st else none
  |_=>none
section
variable {hL:Type} {enc:TypeId×Value->hL} {P:Program} {w:World} {base:Nat}
def Rd (enc:TypeId×Value->hL)(P:Program)(w:World)(base:Nat)(S:qz)(fuel:Nat)(t:TypeId)(cs:List Value)(x:DataW hL×List MemPlace):Prop :=
 (∃ds,Fit S ds/\zr w (λ_=>False) ds cs)/\(∀p∈x.2,p.block<w.heap.size) /\
 ∀(aP:World) (sp:Nat->Bool),(∀p∈x.2,sp p.block=true)->(∀b,b<w.heap.size->aP.heap[b]?=w.heap[b]?)->DataW.trod enc P aP base sp true fuel t cs=some x
theorem J8 {aW:Nat->Prop}{d:Data}{v:Value}(h:Den w aW d v):zr w aW [d] [v]:=by
 refine⟨rfl,λi x0 C7 F I=>?_⟩
 cases i with
 |zero=>cases F;cases I;exact h
 |succ i=>simp at F
theorem aee (a:Addr)(i:Nat):(a.add i).block=a.block:=by
 unfold Addr.add
 split<;>rfl
theorem add_plain (b off i:Nat):(Addr.add ⟨b,off,none⟩ i)=⟨b,off+i,none⟩:=by
 unfold Addr.add
 split
 ·rename_i h;subst h;rfl
 ·rfl
theorem aef {aP:World}{a:Addr}{n:Nat}{cs:List Value}(h:w.cells? base a n=some cs)(Q:∀b,b<w.heap.size->aP.heap[b]?=w.heap[b]?):aP.cells? base a n=some cs:=by
 unfold World.cells? at h ⊢
 split at h
 ·rename_i ah;rw[ad ah,<-h]
  by_cases ay:a.block<w.heap.size
  ·have he:(λi=>aP.cell? (a.add i))=λi=>w.cell? (a.add i):=by
    funext i
    exact World.cell?_of_block (a:=a.add i) (Q _ (by rw[aee];exact ay))
   rw[he]
  ·cases n with
   |zero=>rfl
   |succ n =>
    exfalso
    have:w.cell? (a.add 0)=none:=by
     unfold World.cell?;have:w.heap[(a.add 0).block]?=none:=Array.getElem?_eq_none (by rw[aee];omega);rw[this]
    rw[List.range_succ_eq_map,lg,this] at h
    cases h
 ·cases h
theorem TG {a:Addr}{n:Nat}{cs:List Value}(h:w.cells? base a n=some cs):(D cs)=n/\∀i,i<n->∃v,cs[i]?=some v/\w.cell? (a.add i)=some v:=by
 unfold World.cells? at h
 split at h
 ·obtain⟨F,I⟩:=oy h;rw[ss] at F;refine⟨F,λi M=>?_⟩;have G:=bx (l:=cs) (i:=i) (by omega);exact⟨_,G,I i i _ (by simp[M]) G⟩
 ·cases h
theorem aqp {a:Addr}{v:Value}(h:w.cell? a=some v):a.block<w.heap.size/\a.spot=none:=by
 unfold World.cell? at h
 split at h
 ·rename_i ah;refine⟨(Array.getElem?_eq_some_iff.1 ah).1,?_⟩
  cases U:a.spot with
  |none=>rfl
  |some x=>rw[U] at h;simp at h
 ·cases h
theorem mapM_congr {α β:Type}{f g:α->Option β}:∀{l:List α},(∀x∈l,f x=g x)->l.mapM f=l.mapM g:=by
 intro l
 induction l with
 |nil=>intro _;rfl
 |cons a r ax =>
  intro h;rw[lg,lg,h a (by simp),ax λx O=>h x (by simp[O])]
theorem aqq {β:Type}(len:Nat)(aL:Nat->β->Prop)(h:∀i,i<len->∃y,aL i y):∃l:List β,D l=len/\∀i y,l[i]?=some y->aL i y:=by
 induction len with
 |zero=>exact⟨[],rfl,λi y h=>by simp at h⟩
 |succ n ax =>
  obtain⟨l,F,I⟩:=ax λi M=>h i (by omega);obtain⟨y,ar⟩:=h n (by omega);refine⟨l++[y],by simp[F],λi z aS=>?_⟩
  rw[Fx] at aS
  split at aS
  ·exact I i z aS
  ·rename_i ay
   have:i-D l=0:=by
    have:=(dz.1 aS).1;simp at this;omega
   rw[this] at aS
   cases aS;have:i=n:=by omega
   subst this;exact ar
theorem aqr {β:Type}{sz:Nat}:∀(es:List (List β)),(∀e∈es,D e=sz)->0<sz->∀(i:Nat) (d:β),es.flatten[i]?=some d->∃e,es[i/sz]?=some e/\e[i%sz]?=some d:=by
 intro es
 induction es with
 |nil=>intro _ _ i d h;simp at h
 |cons e r ax =>
  intro h aS i d aa;have he:=h e (by simp);rw[jC,Fx] at aa
  split at aa
  ·rename_i ay;rw[he] at ay;refine⟨e,by rw[TH ay];rfl,by rw[J9 ay];exact aa⟩
  ·rename_i b9;rw[he] at aa b9;obtain⟨x,F,I⟩:=ax (λy ar=>h y (by simp[ar])) aS _ d aa;have M:i=(i-sz)+sz:=by omega
   refine⟨x,?_,?_⟩
   ·rw[M,Nat.add_div_right _ aS]
    simpa using F
   ·rw[M,Nat.add_mod_right];exact I
theorem aqs {n fuel:Nat}(ax:∀t S,sr P n t=some S->∀(cs:List Value) (x:DataW hL×List MemPlace),DataW.trod enc P w base (λ_=>true) true fuel t cs=some x->Rd enc P w base S fuel t cs x)(cs:List Value):
  ∀(dK:List Field) (off:Nat) (l:List qz) (xs:List (DataW hL×List MemPlace)),J7 (sr P n) dK=some l->J6 P off dK (D cs)=true ->
   dK.mapM (λf=>DataW.trod enc P w base (λ_=>true) true fuel f.type ((cs.drop f.offset).take (P.cellsOf f.type)))=some xs ->
   (∃ds,Fits l ds/\zr w (λ_=>False) ds (cs.drop off))/\(∀p∈xs.flatMap (·.2),p.block<w.heap.size) /\
   ∀(aP:World) (sp:Nat->Bool),(∀p∈xs.flatMap (·.2),sp p.block=true)->(∀b,b<w.heap.size->aP.heap[b]?=w.heap[b]?) ->
    dK.mapM (λf=>DataW.trod enc P aP base sp true fuel f.type ((cs.drop f.offset).take (P.cellsOf f.type)))=some xs:=by
 intro dK
 induction dK with
 |nil =>
  intro off l xs aq bD O;simp only[J7,cj] at aq;subst aq;simp only[J6,beq_iff_eq] at bD;simp only[FW,g7,cj] at O;subst O;refine⟨⟨[],rfl,?_⟩,by simp,λ_ _ _ _=>rfl⟩
  rw[bD,TI];exact⟨rfl,λi d v h=>by simp at h⟩
 |cons f r ihf =>
  intro off l xs aq bD O;unfold J7 at aq
  split at aq
  ·rename_i s fr U Nu
   cases aq;simp only[J6,ec,beq_iff_eq] at bD;obtain⟨S4,bD⟩:=bD;rw[lg] at O;simp only[g7,hf,eo,cj] at O;obtain⟨x,oF,ys,aqt,rfl⟩:=O;obtain⟨⟨TJ,Ka,Bt⟩,aqu,aqv⟩:=ax _ _ U _ _ oF;obtain⟨⟨Dp,kW,eQ⟩,aqw,aqx⟩:=ihf _ _ _ Nu bD aqt;refine⟨⟨TJ++Dp,⟨TJ,Dp,rfl,Ka,kW⟩,?_⟩,?_,?_⟩
   ·have acY:cs.drop off=(cs.drop off).take (P.cellsOf f.type)++cs.drop (off+P.cellsOf f.type):=by
     rw[<-FR,Bs]
    rw[S4] at Bt;rw[acY];refine⟨by rw[fE,fE,Bt.1,eQ.1],λi d v F I=>?_⟩
    rw[Fx] at F I;have hlen:=Bt.1
    by_cases ay:i<D TJ
    ·rw[ad ay] at F;rw[ad (by omega)] at I;exact Bt.2 i d v F I
    ·rw[ae ay] at F;rw[ae (by omega),hlen] at I;exact eQ.2 _ d v F I
   ·intro p aE;rw[qA,kg] at aE;exact aE.elim (aqu p) (aqw p)
   ·intro aP sp iP Q;rw[lg,aqv aP sp (λp aE=>iP p (by rw[qA,kg];exact .inl aE)) Q];have:=aqx aP sp (λp aE=>iP p (by rw[qA,kg];exact .inr aE)) Q;simp only[g7,hf,kB];rw[this]
    rfl
  ·cases aq
theorem aqy:∀(n:Nat) (t:TypeId) (S:qz),sr P n t=some S->∀(fuel:Nat) (cs:List Value) (x:DataW hL×List MemPlace),DataW.trod enc P w base (λ_=>true) true fuel t cs=some x->Rd enc P w base S fuel t cs x:=by
 intro n
 induction n with
 |zero=>intro t S h;simp[sr] at h
 |succ n ax =>
  intro t S cJ fuel cs x O
  cases fuel with
  |zero=>cases O
  |succ fuel =>
   unfold sr at cJ
   split at cJ
   ·-- bool
    rename_i hu
    cases cJ
    have key:∀(aP:World) (sp:Nat->Bool) (cs:List Value),DataW.trod enc P aP base sp true (fuel+1) t cs=match cs with|[.bool b]=>some (.lit (.bool b),[])|_=>none:=by
     intro aP sp cs;unfold DataW.trod;rw[hu];clear O
     split<;>simp_all
    rw[key] at O
    split at O
    ·cases O;exact⟨⟨_,⟨_,rfl⟩,J8 .bool⟩,by simp,λaP sp _ _=>by rw[key]⟩
    ·cases O
   ·-- int
    rename_i k hu
    cases cJ
    have key:∀(aP:World) (sp:Nat->Bool) (cs:List Value),DataW.trod enc P aP base sp true (fuel+1) t cs=match cs with|[.int k' n]=>if k'=k/\(Lit.int k n).wf=true then some (.lit (.int k n),[]) else none|_=>none:=by
     intro aP sp cs;unfold DataW.trod;rw[hu];clear O
     split<;>simp_all
    rw[key] at O
    split at O
    ·split at O
     ·rename_i G
      cases O;obtain⟨rfl,aeg⟩:=G;exact⟨⟨_,⟨_,rfl,aeg⟩,J8 .int⟩,by simp,λaP sp _ _=>by rw[key];simp[aeg]⟩
     ·cases O
    ·cases O
   ·-- string
    rename_i hu
    cases cJ
    have key:∀(aP:World) (sp:Nat->Bool) (cs:List Value),DataW.trod enc P aP base sp true (fuel+1) t cs=match cs with|[.string s]=>if s.size<=maxLen then some (.lit (.string s.data.toList),[]) else none|_=>none:=by
     intro aP sp cs;unfold DataW.trod;rw[hu];clear O
     split<;>simp_all
    rw[key] at O
    split at O
    ·rename_i s
     split at O
     ·rename_i G
      cases O;refine⟨⟨[.str s.data.toList],⟨_,rfl,?_⟩,J8 ?_⟩,by simp,λaP sp _ _=>by rw[key];simp[G]⟩
      ·rw[Array.length_toList];exact G
      ·have:Den w (λ_=>False) (.str s.data.toList) (.string ⟨s.data.toList.toArray⟩):=.str
       simpa using this
     ·cases O
    ·cases O
   ·-- slice
    rename_i e hu
    split at cJ
    ·rename_i G;rw[dR] at cJ;obtain⟨S,cJ,rfl⟩:=cJ
     have key:∀(aP:World) (sp:Nat->Bool) (cs:List Value),DataW.trod enc P aP base sp true (fuel+1) t cs=match cs with
      | [.slice none 0 0]=>some (.nil,[])
      | [.slice (some a) len cap] =>
       if base<=a.block/\len<=cap/\cap<=maxLen then
        ((
         dP len).mapM λi=>(aP.cells? base (a.add (i*P.cellsOf e)) (P.cellsOf e)).bind (DataW.trod enc P aP base sp true fuel e)).bind λelems =>
         (if sp a.block then (dP (cap-len)).mapM λj=>(aP.cells? base (a.add ((len+j)*P.cellsOf e)) (P.cellsOf e)).bind (DataW.trod enc P aP base sp true fuel e) else some []).map λrest =>
          (.slice (elems.map (·.1)) (rest.map (·.1)),MemPlace.row a ((D elems+D rest)*P.cellsOf e)++(elems++rest).flatMap (·.2))
       else none
      |_=>none:=by
      intro aP sp cs
      conv=>lhs;unfold DataW.trod
      rw[hu];clear O
      split<;>simp_all
     rw[key] at O
     split at O
     ·cases O;exact⟨⟨[.Y []],⟨_,rfl,fg _,by simp⟩,J8 .lK⟩,by simp,λaP sp _ _=>by rw[key];rfl⟩
     ·rename_i a len cap
      split at O
      ·rename_i ah;rw[eo] at O;obtain⟨elems,he,O⟩:=O;rw[dR] at O;obtain⟨rest,ab,rfl⟩:=O;rw[ad rfl] at ab;obtain⟨kR,aqz⟩:=oy he;obtain⟨bX,aqA⟩:=oy ab;rw[ss] at kR bX
       -- each place
       have b8:∀i y,(i<len->elems[i]?=some y)->(¬ i<len->i<cap/\rest[i-len]?=some y)->∃ci,w.cells? base (a.add (i*P.cellsOf e)) (P.cellsOf e)=some ci/\DataW.trod enc P w base (λ_=>true) true fuel e ci=some y:=by
        intro i y F I
        by_cases M:i<len
        ·have:=aqz i i y (by simp[M]) (F M);rwa [eo] at this
        ·obtain⟨af,aM⟩:=I M;have:=aqA (i-len) (i-len) y (List.getElem?_range (by omega)) aM;rw[show len+(i-len)=i by omega,eo] at this
         exact this
       have e7:0<D elems+(D rest)->a.block<w.heap.size/\a.spot=none:=by
        intro aE;have al:0<cap:=by omega
        have:∃y,(0<len->elems[0]?=some y)/\(¬ 0<len->0<cap/\rest[0-len]?=some y):=by
         by_cases aq:0<len
         ·exact⟨elems[0],λ_=>bx _,λh=>absurd aq h⟩
         ·exact⟨rest[0],λh=>absurd h aq,λ_=>⟨al,by rw[Nat.zero_sub];exact bx _⟩⟩
        obtain⟨y,F,I⟩:=this;obtain⟨ci,js,-⟩:=b8 0 y F I;obtain⟨v,-,hv⟩:=(TG js).2 0 G;have:=aqp hv;rw[Dq] at this;have b0:(a.add 0).add 0=a:=by unfold Addr.add;simp
        rw[b0] at this;exact this
       have aeh:∀i y,(i<len->elems[i]?=some y)->(¬ i<len->i<cap/\rest[i-len]?=some y)->∃ci,w.cells? base (a.add (i*P.cellsOf e)) (P.cellsOf e)=some ci/\Rd enc P w base S fuel e ci y:=by
        intro i y F I;obtain⟨ci,af,aM⟩:=b8 i y F I;exact⟨ci,af,ax e S cJ fuel ci y aM⟩
       have TK:∀(i:Nat) y,elems[i]?=some y->∃ci,w.cells? base (a.add (i*P.cellsOf e)) (P.cellsOf e)=some ci/\Rd enc P w base S fuel e ci y :=
        λi y ar=>aeh i y (λ_=>ar) (λh=>absurd (by have:=(dz.1 ar).1;omega) h)
       have aei:∀(j:Nat) y,rest[j]?=some y->∃ci,w.cells? base (a.add ((len+j)*P.cellsOf e)) (P.cellsOf e)=some ci/\Rd enc P w base S fuel e ci y :=
        λj y ar=>aeh (len+j) y (λh=>by omega) (λ_=>⟨by have:=(dz.1 ar).1;omega,by rwa [F7]⟩)
       refine⟨?_,?_,?_⟩
       ·obtain⟨es,TL,heq⟩:=aqq len (λi (ds:List Data)=>∃ci,w.cells? base (a.add (i*P.cellsOf e)) (P.cellsOf e)=some ci/\Fit S ds/\zr w (λ_=>False) ds ci) λi M=>by
         obtain⟨ci,F,⟨ds,I,af⟩,-,-⟩:=TK i _ (bx (by omega));exact⟨ds,ci,F,I,af⟩
        refine⟨[.Y es],⟨es,rfl,by omega,λy ar=>?_⟩,J8 ?_⟩
        ·obtain⟨i,M⟩:=tD.1 ar;obtain⟨ci,-,h,-⟩:=heq i y M;exact h
        ·by_cases aq:len=0
         ·rw[aq] at TL ⊢;rw[qs TL];exact .lK
         ·obtain⟨kW,eQ⟩:=e7 (by omega);obtain⟨b,off,spot⟩:=a;simp only at kW eQ;subst eQ
          have eW:∀y∈es,D y=P.cellsOf e:=by
           intro y ar;obtain⟨i,M⟩:=tD.1 ar;obtain⟨ci,F,-,I⟩:=heq i y M;rw[<-I.1,(TG F).1]
          have hM:∀(i:Nat) (d:Data),es.flatten[i]?=some d->∃v,w.cell? ⟨b,off+i,none⟩=some v/\Den w (λ_=>False) d v:=by
           intro i d aa;obtain⟨y,F,I⟩:=aqr es eW G i d aa;obtain⟨ci,af,-,aM⟩:=heq _ y F;have hm:i%P.cellsOf e<P.cellsOf e:=Nat.mod_lt _ G;obtain⟨v,bk,bI⟩:=(TG af).2 _ hm;rw[add_plain,add_plain,qn,rq,Nat.div_add_mod] at bI;exact⟨v,bI,aM.2 _ d v I bk⟩
          rw[<-TL];refine .Y (sz:=P.cellsOf e) (λi=>(w.cell? ⟨b,off+i,none⟩).getD undef) (by omega) (by omega) kW (λh=>h) eW (λi M=>?_) λi d aa=>?_
          ·have ay:i<D es.flatten:=by rw[Nd eW];exact M
           obtain⟨v,hv,-⟩:=hM i _ (bx ay);rw[hv]
           rfl
          ·obtain⟨v,hv,nb⟩:=hM i d aa;rw[hv];exact nb
       ·intro p aE;simp only[kg] at aE;rcases aE with aE|aE
        ·unfold MemPlace.row at aE;rw[dS] at aE;obtain⟨i,M,rfl⟩:=aE;rw[gV] at M
         have:0<D elems+D rest:=by
          rcases kV (D elems+D rest) with h|h
          ·rw[h,Dq] at M;omega
          ·exact h
         exact (e7 this).1
        ·rw[x1] at aE;obtain⟨y,ar,aE⟩:=aE;rw[kg] at ar;rcases ar with ar|ar
         ·obtain⟨i,M⟩:=tD.1 ar;obtain⟨ci,-,h⟩:=TK i y M;exact h.2.1 p aE
         ·obtain⟨i,M⟩:=tD.1 ar;obtain⟨ci,-,h⟩:=aei i y M;exact h.2.1 p aE
       ·intro aP sp iP Q;rw[key];simp only;rw[ad ah]
        have e8:0<D elems+(D rest)->sp a.block=true:=by
         intro aE
         have:=iP (.cell a.block (a.off+0)) (by
          rw[kg]
          left
          unfold MemPlace.row;rw[dS];exact⟨0,by rw[gV];exact Nat.mul_pos aE G,rfl⟩)
         exact this
        have aqB:(dP len).mapM (λi=>(aP.cells? base (a.add (i*P.cellsOf e)) (P.cellsOf e)).bind (DataW.trod enc P aP base sp true fuel e))=some elems:=by
         rw[<-he];refine mapM_congr λi M=>?_;rw[gV] at M;have ar:=bx (l:=elems) (i:=i) (by omega);obtain⟨ci,F,I⟩:=TK i _ ar;rw[aef F Q,F];simp only[kB];obtain⟨aqC,af,aM⟩:=b8 i _ (λ_=>ar) (λh=>absurd M h);rw[F] at af
         cases af;rw[aM]
         exact I.2.2 aP sp (λp aE=>iP p (by
          rw[kg];right
          rw[x1];exact⟨_,kg.2 (.inl (ep ar)),aE⟩)) Q
        have aqD:(dP (cap-len)).mapM (λj=>(aP.cells? base (a.add ((len+j)*P.cellsOf e)) (P.cellsOf e)).bind (DataW.trod enc P aP base sp true fuel e))=some rest:=by
         rw[<-ab];refine mapM_congr λj aj=>?_;rw[gV] at aj;have ar:=bx (l:=rest) (i:=j) (by omega);obtain⟨ci,F,I⟩:=aei j _ ar;rw[aef F Q,F];simp only[kB];obtain⟨aqC,af,aM⟩:=b8 (len+j) rest[j] (λh=>by omega) (λ_=>⟨by omega,by rw[F7];exact ar⟩);rw[F] at af
         cases af;rw[aM]
         exact I.2.2 aP sp (λp aE=>iP p (by
          rw[kg];right
          rw[x1];exact⟨_,kg.2 (.inr (ep ar)),aE⟩)) Q
        rw[aqB];simp only[kB]
        cases U:sp a.block with
        |true=>simp only[if_true];rw[aqD];rfl
        |false =>
         have aS:¬ 0<D elems+D rest:=λh=>by rw[e8 h] at U;cases U
         have:rest=[]:=qs (by omega);subst this
         rfl
      ·cases O
     ·cases O
    ·cases cJ
   ·-- struct
    rename_i dK hu
    split at cJ
    ·rename_i bD;rw[dR] at cJ;obtain⟨l,aq,rfl⟩:=cJ
     have key:∀(aP:World) (sp:Nat->Bool),DataW.trod enc P aP base sp true (fuel+1) t cs =
       if (D cs)=P.cellsOf t then (dK.toList.mapM λf=>DataW.trod enc P aP base sp true fuel f.type ((cs.drop f.offset).take (P.cellsOf f.type))).map λxs=>(.agg (xs.map (·.1)),xs.flatMap (·.2)) else none:=by
      intro aP sp
      conv=>lhs;unfold DataW.trod
      rw[hu]
     rw[key] at O
     split at O
     ·rename_i hlen;rw[dR] at O;obtain⟨xs,Bn,rfl⟩:=O;rw[<-hlen] at bD;obtain⟨F,I,af⟩:=aqs (λt S h cs x O=>ax t S h fuel cs x O) cs dK.toList 0 l xs aq bD Bn;refine⟨?_,I,λaP sp iP Q=>?_⟩
      ·obtain⟨ds,aF,aa⟩:=F;exact⟨ds,aF,by simpa using aa⟩
      ·rw[key,ad hlen,af aP sp iP Q]
       rfl
     ·cases O
    ·cases cJ
   ·cases cJ
end
end Go.Mini
namespace Go.Mini
open Go Go.ChangeShapes Go.WideShapes Go.RowKit
def aej:qz->Data->Prop
 |.st l,d=>∃cs,d=.agg cs/\Fits l cs
 |s,d=>Fit s [d]
def N8:List qz->List Data->Prop
 | [],ds=>ds=[]
 |s::r,ds=>∃d t,ds=d::t/\aej s d/\N8 r t
section
variable {hL:Type} {enc:TypeId×Value->hL} {P:Program} {w:World}
theorem aqE {aW:Nat->Prop}{d:Data}{v:Value}{ds:List Data}{vs:List Value}(h:Den w aW d v)(U:zr w aW ds vs):zr w aW (d::ds) (v::vs):=by
 refine⟨by simp[U.1],λi x0 C7 F I=>?_⟩
 cases i with
 |zero=>cases F;cases I;exact h
 |succ i=>exact U.2 i x0 C7 (by simpa using F) (by simpa using I)
theorem aqF {n:Nat}{t:TypeId}{S:qz}{v:Value}{d:DataW hL}{ps:List MemPlace}{su:Nat}(cJ:sr P n t=some S)(hM:Value.okWide P w .any su t v)(h:DataW.Trod enc P w 0 (λ_=>true) true t v d ps):
  (∃cb,aej S cb/\Den w (λ_=>False) cb v)/\(∀p∈ps,p.block<w.heap.size) /\
  ∀(aP:World) (sp:Nat->Bool),(∀p∈ps,sp p.block=true)->(∀b,b<w.heap.size->aP.heap[b]?=w.heap[b]?)->DataW.Trod enc P aP 0 sp true t v d ps:=by
 obtain⟨fuel,O⟩:=h;obtain⟨⟨ds,aF,aa⟩,I,af⟩:=aqy n t S cJ fuel _ _ O;refine⟨?_,I,λaP sp iP Q=>⟨fuel,af aP sp iP Q⟩⟩
 have one:(∀cs,v ≠ .agg cs)->∀d,ds=[d]->Den w (λ_=>False) d v:=by
  intro hv d e;subst e;have:v.cells=#[v]:=by unfold Value.cells;split<;>simp_all
  rw[this] at aa;exact aa.2 0 d v rfl rfl
 cases n with
 |zero=>simp[sr] at cJ
 |succ n =>
  unfold sr at cJ;unfold Value.okWide at hM
  split at cJ
  ·rename_i hu
   cases cJ;rw[hu] at hM;obtain⟨b,rfl⟩:=aF;refine⟨_,⟨b,rfl⟩,one ?_ _ rfl⟩;rintro cs rfl;simp[Cell.okWide,Cell.ok,hu] at hM
  ·rename_i k hu
   cases cJ;rw[hu] at hM;obtain⟨b,rfl,ah⟩:=aF;refine⟨_,⟨b,rfl,ah⟩,one ?_ _ rfl⟩;rintro cs rfl;simp[Cell.okWide,Cell.ok,hu] at hM
  ·rename_i hu
   cases cJ;rw[hu] at hM;obtain⟨b,rfl,ah⟩:=aF;refine⟨_,⟨b,rfl,ah⟩,one ?_ _ rfl⟩;rintro cs rfl;simp[Cell.okWide,Cell.ok,hu] at hM
  ·rename_i e hu
   split at cJ
   ·rw[dR] at cJ;obtain⟨S,cJ,rfl⟩:=cJ;rw[hu] at hM;obtain⟨b,rfl,ah⟩:=aF;refine⟨_,⟨b,rfl,ah⟩,one ?_ _ rfl⟩;rintro cs rfl;simp[Cell.okWide,Cell.ok,hu] at hM
   ·cases cJ
  ·rename_i dK hu
   split at cJ
   ·rw[dR] at cJ;obtain⟨l,aq,rfl⟩:=cJ;rw[hu] at hM;obtain⟨cs,rfl,-,-⟩:=hM;refine⟨.agg ds,⟨ds,rfl,aF⟩,?_⟩;have:Den w (λ_=>False) (.agg ds) (.agg cs.toList.toArray):=.agg aa.1 aa.2
    simpa using this
   ·cases cJ
  ·cases cJ
theorem TM {n su:Nat}:∀{tj:List TypeId} {schs:List qz} {vs:List Value} {ds:List (DataW hL)} {ps:List MemPlace},tj.mapM (sr P n)=some schs->(∀(j:Nat) t v,tj[j]?=some t->vs[j]?=some v->Value.okWide P w .any su t v) ->
  DataW.TrodAll enc P w 0 (λ_=>true) true tj vs ds ps ->
  (∃sv,N8 schs sv/\zr w (λ_=>False) sv vs)/\(∀p∈ps,p.block<w.heap.size) /\
  ∀(aP:World) (sp:Nat->Bool),(∀p∈ps,sp p.block=true)->(∀b,b<w.heap.size->aP.heap[b]?=w.heap[b]?)->DataW.TrodAll enc P aP 0 sp true tj vs ds ps
 | [],schs,vs,ds,ps,cJ,hM,h=>by
  obtain⟨rfl,rfl,rfl⟩:=trodAll_nil h;simp at cJ;subst cJ;exact⟨⟨[],rfl,rfl,λi d v h=>by simp at h⟩,by simp,λ_ _ _ _=>rfl⟩
 |t::tj,schs,vs,ds,ps,cJ,hM,h=>by
  obtain⟨v,aqG,d,aqH,a,b,rfl,rfl,rfl,F,I⟩:=trodAll_cons h;rw[lg] at cJ;simp only[g7,hf,eo,cj] at cJ;obtain⟨S,aqI,l,aq,rfl⟩:=cJ;obtain⟨⟨cb,kC,aqJ⟩,iO,ca⟩:=aqF aqI (hM 0 t v rfl rfl) F;obtain⟨⟨sv,aqK,aqL⟩,ju,c7⟩:=TM aq (λj aqM C7 bD hv=>hM (j+1) aqM C7 (by simpa using bD) (by simpa using hv)) I;refine⟨⟨cb::sv,⟨cb,sv,rfl,kC,aqK⟩,aqE aqJ aqL⟩,λp aE=>?_,λaP sp iP Q=>?_⟩
  ·rw[kg] at aE;exact aE.elim (iO p) (ju p)
  ·exact trodAll_cons_mk (ca aP sp (λp aE=>iP p (kg.2 (.inl aE))) Q) (c7 aP sp (λp aE=>iP p (kg.2 (.inr aE))) Q)
theorem aqN {W sw:World}(h:Fr (λ_=>False) W sw)(may:MemPlace->Prop):W.keptBut sw may:=by
 refine⟨h.os,h.output,λi M=>?_⟩;rw[h.block i M id]
 cases ah:W.heap[i]? with
 |none=>trivial
 |some o =>
  cases o with
  |cells c t az=>exact⟨rfl,rfl,rfl,λ_ _=>rfl⟩
  |map es clock=>exact .inr ⟨rfl,rfl⟩
  |_=>rfl
theorem aqO {f:Func}{s:ChangeSpec}{apart fresh handsOn again:Bool}{W sw:World}{args:Array Value}{ds gs:List (DataW hL)}{before:List MemPlace}{n su:Nat}{schs:List qz}{Kb:TypeId}
  (rr:DataW.Whole enc P f.params.toList s.vars apart W args.toList ds gs before) (hv:s.vars=[]) (cJ:f.params.toList.mapM (sr P n)=some schs)
  (hM:∀(j:Nat) t v,f.params[j]?=some t->args[j]?=some v->Value.okWide P W .any su t v)
  (ab:f.resultTypes=#[Kb]) (ah:P.underlying Kb=some .bool) (jt:s.fn hL ds={ results:=[.lit (.bool true)],args:=ds }) (aF:Fr (λ_=>False) W sw) :
  s.post enc P f apart fresh handsOn again W args (.bool true) sw:=by
 have TN:=rr;obtain⟨p,q,dZ,ru,rfl,aS,aK⟩:=rr;rw[hv] at ru;obtain⟨rfl,rfl⟩:=trodVars_none ru;obtain⟨-,ay,Q⟩:=TM cJ (λj t v bD hv=>hM j t v (by simpa using bD) (by simpa using hv)) dZ;have aek:∀b,b<W.heap.size->sw.heap[b]?=W.heap[b]?:=λb ah=>aF.block b ah id
 have u2:∀(b:Nat) (sp:Nat->Bool) (aa:Bool),DataW.TrodAll enc P sw b sp aa f.resultTypes.toList ((Value.bool true).resultList f.resultTypes.size) (s.fn hL (ds++[])).results []:=by
  intro b sp aa;rw[fJ,jt,ab];exact trodAll_cons_mk (shut_bool ah true) trodAll_mk0
 have nS:∀sp:Nat->Bool,(∀x∈p,sp x.block=true)->DataW.TrodAll enc P sw 0 sp true f.params.toList args.toList (s.fn hL (ds++[])).args p:=by
  intro sp iP;rw[fJ,jt];exact Q sw sp iP aek
 have ael:∀sp:Nat->Bool,DataW.TrodVars enc P sw sp s.vars (s.fn hL (ds++[])).vars []:=by
  intro sp;rw[hv,fJ,jt]
  rfl
 refine⟨ds,[],p++[],[],p,[],TN,u2 _ _ _,nS _ (λx O=>by simpa using ay x O),ael _,aqN aF _,λ_=>⟨?_,_,_,([]++p)++[],⟨[]++p,[],trodAll_append (nS _ (λ_ _=>rfl)) (u2 _ _ _),ael _,rfl,?_,?_⟩,?_⟩⟩
 ·intro j t r F I;rw[ab] at F I
  cases j with
  |zero =>
   simp[Value.resultList] at F I;subst F I;exact okWide_bool_mk ah true
  |succ j=>simp at F
 ·intro b off aE;have aem:MemPlace.cell b off∈p:=by simpa using aE
  have ah:=ay _ aem;have al:=aS b off (by simpa using aem);unfold World.frozen? at al ⊢;rw[aek b ah];exact al
 ·intro aN;have:=aK aN
  simpa using this
 ·intro x O _
  simpa using O
theorem aqP {f:FuncId}{fn:Func}{s:ChangeSpec}{apart fresh handsOn again:Bool}{aO:List Data->Option eL}{n:Nat}{schs:List qz}{Kb:TypeId}(aE:tz P f aO)(hv:s.vars=[])(cJ:fn.params.toList.mapM (sr P n)=some schs)
  (ab:fn.resultTypes=#[Kb]) (ah:P.underlying Kb=some .bool) (jt:∀ds:List (DataW hL),D ds=(D fn.params.toList)->s.fn hL ds={ results:=[.lit (.bool true)],args:=ds })
  {W:World} {base:Nat} {args:Array Value} {ds gs:List (DataW hL)} {before:List MemPlace}
  (e5:∀sv,N8 schs sv->aO sv=some (.same (.bool true)))
  (hM:∀(j:Nat) t v,fn.params[j]?=some t->args[j]?=some v->Value.okWide P W .any base t v)
  (rr:DataW.Whole enc P fn.params.toList s.vars apart W args.toList ds gs before) :
  Calls P f args W λe sw=>∃v,e=.returned v/\s.post enc P fn apart fresh handsOn again W args v sw:=by
 have TN:=rr;obtain⟨p,q,dZ,ru,rfl,aS,aK⟩:=rr;obtain⟨⟨sv,F,I⟩,-,-⟩:=TM cJ (λj t v bD hv=>hM j t v (by simpa using bD) (by simpa using hv)) dZ
 have hlen:(D ds)=D fn.params.toList:=by
  have:∀(tj:List TypeId) (vs:List Value) (ds:List (DataW hL)) (ps:List MemPlace),DataW.TrodAll enc P W 0 (λ_=>true) true tj vs ds ps->(D ds)=D tj:=by
   intro tj
   induction tj with
   |nil=>intro vs ds ps h;obtain⟨rfl,rfl,rfl⟩:=trodAll_nil h;rfl
   |cons t r ax=>intro vs ds ps h;obtain⟨v,aqG,d,aqH,a,b,rfl,rfl,rfl,-,I⟩:=trodAll_cons h;simp[ax _ _ _ I]
  exact this _ _ _ _ dZ
 have G:=aE.run sv _ (e5 sv F) (λ_=>False) W args.toList (λb ah=>ah.elim) I;have aN:args.toList.toArray=args:=by simp
 rw[aN] at G;refine G.mono λe sw ⟨v,he,bQ,aa⟩=>⟨v,he,?_⟩
 have:v=.bool true:=by
  have nb:Den sw (λ_=>False) (.bool true) v:=aa
  cases nb
  rfl
 subst this;exact aqO TN hv cJ hM ab ah (jt ds hlen) bQ
theorem TO {α:Type}{l:List α}{n:Nat}(h:(D l)=n+1):∃d t,l=d::t/\D t=n:=by
 cases l with
 |nil=>simp at h
 |cons d t=>exact⟨d,t,rfl,by simpa using h⟩
theorem Kc {α:Type}{e:α->List Data}{good:α->Prop}:∀{es:List (List Data)},(∀x∈es,∃a,x=e a/\good a)->∃l:List α,es=l.map e/\∀a∈l,good a
 | [],_=>⟨[],rfl,by simp⟩
 |x::r,h=>by
  obtain⟨a,rfl,aN⟩:=h x (by simp);obtain⟨l,rfl,aq⟩:=Kc (es:=r) λy ar=>h y (by simp[ar]);exact⟨a::l,rfl,λb ah=>(hE.1 ah).elim (λe=>e ▸ aN) (aq b)⟩
end
end Go.Mini
namespace Go.Mini
open Go
def zv (x:R)(m:Mem):R->Mem->Prop:=λr mem'=>r=x/\mem'=m
@[go_sem high] theorem aI8 {K:bd->Prop}(x:R)(m:Mem)(d:Option Nat)(st:bd):wv K (some (.rel (zv x m))) d st=K ⟨put st.tm d x,m⟩:=by
 rw[ao3];apply propext;exact⟨λh=>h x m ⟨rfl,rfl⟩,λh r mem' ⟨aA,aC⟩=>by rw[aA,aC];exact h⟩
def Bu (bM:List R->Mem->Option (R×Mem))(args:List R)(mem:Mem):Option gY:=(bM args mem).map λx => .rel (zv x.1 x.2)
@[go_sem] theorem aI9 (bM:List R->Mem->Option (R×Mem))(args:List R)(mem:Mem):Bu bM args mem=(bM args mem).map λx => .rel (zv x.1 x.2):=bz
structure Kd (P:Program) (f:FuncId) (bM:List R->Mem->Option (R×Mem)):Prop where
 real:Real P f
 run:∀args mem x,bM args mem=some x->∀A w B vs,fm A w B mem->dp w (b7 A B) B args vs->NL P f vs A w B mem (.rel (zv x.1 x.2))
def F8 (res:List ox)(x:R)(m:Mem):eX->bd->Prop
 |.exit _,_=>False
 |.normal,st=>pE st res=some x/\st.mem=m
 |.ret,st=>pE st res=some x/\st.mem=m
@[go_sem] theorem aJa {res:List ox}{st:bd}(x:R)(m:Mem)(id:Nat):F8 res x m (.exit id) st=False:=bz
@[go_sem] theorem aJb {res:List ox}{st:bd}(x:R)(m:Mem):F8 res x m .normal st=(pE st res=some x/\st.mem=m):=bz
@[go_sem] theorem aJc {res:List ox}{st:bd}(x:R)(m:Mem):F8 res x m .ret st=(pE st res=some x/\st.mem=m):=bz
theorem aen {P : Program}{T : bh}{kb : Nat}{own : List Nat}(cN : qv P T)(hm : P.follows .mixedOrders = true){f : FuncId}{fn : Func}{mf : bT}(aF : P.funcs[f]? = some fn)(tA : (fn.name == "runtime.NumGoroutine") = false)(aY : sl P kb own fn = some { mf with body := erase mf.body })
  {bM:List R->Mem->Option (R×Mem)} (h:∀args mem x,bM args mem=some x->(D args)<=mf.n/\wp T mf.body (F8 mf.res x.1 x.2) ⟨lf args,mem⟩):Kd P f bM:=by
 refine⟨?_,λargs mem x nf A w B vs bS hv=>?_⟩
 ·cases ah:fn.body with
  |none=>simp[sl,ah] at aY
  |some c=>exact⟨fn,c,aF,ah,tA⟩
 ·obtain⟨hlen,wz⟩:=h args mem x nf;refine Calls.mono (FT (Post:=zv x.1 x.2) cN hm aF aY hlen (λe st Q=>?_) wz bS hv) λe aP he=>?_
  ·cases e with
   |exit id=>exact Q
   |normal=>exact⟨_,Q.1,rfl,Q.2⟩
   |ret=>exact⟨_,Q.1,rfl,Q.2⟩
  ·obtain⟨v,m,mem',bt,rfl,U,lh,aE⟩:=he;exact⟨v,m,mem',bt,rfl,U,lh,aE⟩
def N9:Option (R×Mem)->Option gY->Option gY
 |some x,_=>some (.rel (zv x.1 x.2))
 |none,e=>e
@[go_sem] theorem aJd (x:R×Mem)(e:Option gY):N9 (some x) e=some (.rel (zv x.1 x.2)):=bz
@[go_sem] theorem aJe (e:Option gY):N9 none e=e:=bz
def zw (aO:List Data->Option eL)(bM:List R->Mem->Option (R×Mem))(args:List R)(mem:Mem):Option gY:=N9 (bM args mem) (aV aO args mem)
@[go_sem] theorem aJf (aO:List Data->Option eL)(bM:List R->Mem->Option (R×Mem))(args:List R)(mem:Mem):zw aO bM args mem=N9 (bM args mem) (aV aO args mem):=bz
open Classical in
def F9 {α:Type}(bj:α->List R->Mem->Prop)(res:α->Mem->R×Mem):List R->Mem->Option (R×Mem):=λargs mem=>if h:∃a,bj a args mem then some (res (tB h) mem) else none
theorem aeo {α:Type}{bj:α->List R->Mem->Prop}{res:α->Mem->R×Mem}(uniq:∀a b args mem,bj a args mem->bj b args mem->res a mem=res b mem){a:α}{args:List R}{mem:Mem}(h:bj a args mem):F9 bj res args mem=some (res a mem):=by
 have O:∃b,bj b args mem:=⟨a,h⟩;unfold F9;rw[dif_pos O,uniq _ _ _ _ (o7 O) h]
theorem TP {α:Type}{bj:α->List R->Mem->Prop}{res:α->Mem->R×Mem}{args:List R}{mem:Mem}{x:R×Mem}(h:F9 bj res args mem=some x):∃a,bj a args mem/\x=res a mem:=by
 unfold F9 at h
 split at h
 ·rename_i O;exact⟨_,o7 O,(mj h).symm⟩
 ·cases h
def ya:Nat->Nat->List Int
 |0,_=>[]
 |f+1,n=>if n=0 then [] else ((n%1048576:Nat):Int)::ya f (n/1048576)
def aJ (n:Nat):List Int:=ya n n
def bg:List Int->Int
 | []=>0
 |d::r=>d+1048576*bg r
theorem tE (d:Int)(r:List Int):bg (d::r)=d+1048576*bg r:=rfl
def eU (l:List Int):Prop:=∀d∈l,0<=d/\d<1048576
def fK:List Int->List Int
 | []=>[]
 |d::r=>if fK r=[] then (if d=0 then [] else [d]) else d::fK r
def ag (n:Int):List Data:=[.int .i64 n]
theorem hr (b:Int):(ag b).length=1:=rfl
theorem u5 (b:Int):((ag b).map R.J).all R.one=true:=rfl
theorem fj:∀a b:Int,ag a=ag b->a=b:=by intro a b h;simpa [ag] using h
theorem aqQ:∀(f g n:Nat),n<=f->n<=g->ya f n=ya g n:=by
 intro f
 induction f with
 |zero =>
      intro g n h _;obtain rfl:n=0:=by omega
      cases g<;>simp[ya]
 |succ f ax =>
  intro g n F I
  cases g with
  |zero =>
       obtain rfl:n=0:=by omega
       simp[ya]
  |succ g =>
   unfold ya
   by_cases aK:n=0
   ·rw[ad aK,ad aK]
   ·rw[ae aK,ae aK,ax g (n/1048576) (by omega) (by omega)]
theorem sx:aJ 0=[]:=rfl
theorem u6 {n:Nat}(h:0<n):aJ n=((n%1048576:Nat):Int)::aJ (n/1048576):=by
 unfold aJ;obtain⟨k,rfl⟩:∃k,n=k+1:=⟨n-1,by omega⟩
 conv=>lhs;unfold ya
 rw[ae (by omega),aqQ k ((k+1)/1048576) _ (by omega) (by omega)]
theorem lS (n:Nat):bg (aJ n)=n:=by
 induction n using Tw with
 |_ n ax =>
  rcases kV n with rfl|h
  ·rfl
  ·rw[u6 h];unfold bg;rw[ax _ (by omega)];omega
theorem Ke {a b:Nat}(h:aJ a=aJ b):a=b:=by
 have:=congrArg bg h;rw[lS,lS] at this;omega
theorem mT (n:Nat):eU (aJ n):=by
 induction n using Tw with
 |_ n ax =>
  rcases kV n with rfl|h
  ·intro d aa;cases aa
  ·rw[u6 h];intro d aa;rcases hE.1 aa with rfl|aa
   ·omega
   ·exact ax _ (by omega) d aa
theorem zx {n:Nat}:aJ n=[]↔n=0:=by
 constructor
 ·intro h;exact Ke (b:=0) h
 ·rintro rfl;rfl
theorem o8 {l:List Int}(h:eU l):0<=bg l:=by
 induction l with
 |nil=>exact Int.le_refl _
 |cons d r ax =>
  have F:=h d (by simp);have I:=ax λx O=>h x (by simp[O]);unfold bg;omega
theorem Dr {d:Int}{r:List Int}:eU (d::r)↔(0<=d/\d<1048576)/\eU r :=
 ⟨λh=>⟨h d (by simp),λx O=>h x (by simp[O])⟩,λh x O=>(hE.1 O).elim (λe=>e ▸ h.1) (h.2 x)⟩
theorem Ds {a b:List Int}:eU (a++b)↔eU a/\eU b :=
 ⟨λh=>⟨λx O=>h x (by simp[O]),λx O=>h x (by simp[O])⟩,λh x O=>(kg.1 O).elim (h.1 x) (h.2 x)⟩
theorem Dt (a b:List Int):bg (a++b)=bg a+1048576^(D a)*bg b:=by
 induction a with
 |nil=>simp[bg]
 |cons d r ax =>
  simp only[jO,bg,ax,hV,ng];rw[ij]
  have:(1048576:Int)*(1048576^(D r)*bg b)=1048576^(D r)*1048576*bg b:=by
   rw[nh (1048576^(D r)) 1048576,ik]
  omega
theorem zy {l:List Int}(h:eU l):bg l<1048576^(D l):=by
 induction l with
 |nil=>simp[bg]
 |cons d r ax =>
  rw[Dr] at h;have I:=ax h.2;simp only[bg,hV,ng];omega
theorem aep (l:List Int):fK (l++[0])=fK l:=by
 induction l with
 |nil=>simp[fK]
 |cons d r ax=>simp only[jO,fK,ax]
theorem aeq (l:List Int){d:Int}(h:d≠0):fK (l++[d])=l++[d]:=by
 induction l with
 |nil=>simp[fK,h]
 |cons x r ax=>simp only[jO,fK,ax];simp
theorem zz {l:List Int}(h:eU l):fK l=aJ (bg l).toNat:=by
 induction l with
 |nil=>rfl
 |cons d r ax =>
  rw[Dr] at h;have ab:=ax h.2;have hv:=o8 h.2;unfold fK;rw[ab,tE]
  by_cases aS:bg r=0
  ·rw[aS]
   by_cases aa:d=0
   ·simp[aa,sx]
   ·rw[ad (by rfl),ae aa];rw[u6 (by omega)];rw[show (d+1048576*0).toNat/1048576=0 by omega,sx]
    congr 1
    omega
  ·rw[ae (by rw[zx];omega)];rw[u6 (n:=(d+1048576*bg r).toNat) (by omega)]
   congr 1
   ·omega
   ·congr 1;omega
theorem aer (n:Nat):fK (aJ n)=aJ n:=by
 rw[zz (mT n),lS];simp
theorem canon {l:List Int}(h:eU l)(aq:l.getLast?≠some 0):l=aJ (bg l).toNat:=by
 rw[<-zz h];rcases Bv l with rfl|⟨r,d,rfl⟩
 ·rfl
 ·rw[Bw] at aq ⊢;rw[aeq];rintro rfl;simp at aq
theorem aes (n:Nat):(aJ n).getLast?≠some 0:=by
 intro h
 obtain⟨r,ab⟩:∃r,aJ n=r++[0]:=by
  rcases Bv (aJ n) with e|⟨r,d,e⟩
  ·rw[e] at h;cases h
  ·rw[Bw] at e;rw[e] at h;simp at h;subst h;exact⟨r,e⟩
 have F:=aer n;rw[ab,aep] at F
 have I:(fK r).length<=D r:=by
  clear F ab h
  induction r with
  |nil=>simp[fK]
  |cons d r ax=>unfold fK;split<;>(try split)<;>simp<;>omega
 rw[F] at I;simp at I;omega
theorem gG {n k:Nat}:(aJ n).length<=k↔n<1048576^k:=by
 induction k generalizing n with
 |zero =>
      rw[Nat.pow_zero];constructor
      ·intro h;have:=qs (Nat.le_zero.1 h);rw[zx] at this;omega
      ·intro h;obtain rfl:n=0:=by omega
       simp[sx]
 |succ k ax =>
  rcases kV n with rfl|h
  ·simp[sx];exact Nat.pos_of_ne_zero (by simp)
  ·rw[u6 h,hV,wD];have:=ax (n:=n/1048576);rw[Nat.add_le_add_iff_right,this];rw[aet (by omega)]
theorem Du {n:Nat}(h:0<n)(F:n<1048576):aJ n=[(n:Int)]:=by
 rw[u6 h,TH F,J9 F];rfl
theorem Kf (l:List Int)(i:Nat):bg l=bg (l.take i)+1048576^(min i (D l))*bg (l.drop i):=by
 conv=>lhs;rw[<-Bs i l]
 rw[Dt,fR]
theorem zA (n:Int)(h:0<=n/\n<18446744073709551616):IntKind.u64.wrap n=n:=by
 simp[IntKind.wrap,IntKind.bits,IntKind.signed];omega
theorem rv (n:Int):bits .and .i64 n 1048575=n%1048576:=by
 have I:(1048575:Int)=((2^20-1:Nat):Int):=by decide
 have F:n%18446744073709551616%1048576=n%1048576:=by omega
 obtain⟨a,aN⟩:∃a:Nat,(a:Int)=n%18446744073709551616:=⟨(n%18446744073709551616).toNat,by omega⟩
 have e:BitVec.ofInt 64 n=BitVec.ofNat 64 a:=by
  apply BitVec.eq_of_toInt_eq;rw[BitVec.toInt_ofInt,BitVec.toInt_ofNat',aN];simp[aeu,aev]
 have aC:bits .and .i64 n 1048575=bits .and .i64 (a:Int) 1048575:=by
  simp only[bits];rw[show IntKind.i64.bits=64 from rfl,e,BitVec.ofInt_natCast]
 rw[aC,<-F,<-aN,I];have TQ:a<2^64:=by omega
 simp only[bits,BitVec.ofInt_natCast,BitVec.toNat_and,BitVec.toNat_ofNat,show IntKind.i64.bits=64 from rfl,J9 TQ];rw[show (2^20-1:Nat)%2^64=2^20-1 by decide,aew,wrap64 _ (by omega) (by omega)]
 omega
theorem aex (n:Int)(h:0<=n/\n<18446744073709551616):bits .and .u64 n 1048575=n%1048576:=by
 have:=bits_mask .u64 64 (by decide) (λn F I=>zA n ⟨F,by omega⟩) 20 (by decide) n h.1 (by omega)
 simpa using this
theorem TR (x y:Int)(O:0<=x)(oF:x<8796093022208)(ar:0<=y/\y<1048576):bits .or .i64 (x*1048576) y=x*1048576+y:=by
 refine bits_join .i64 63 (by decide) (λn F I=>wrap64 n (by omega) (by omega)) 20 _ _ (by omega) (by omega) (by omega) ar.1 (by omega) (by omega)
theorem aqR (n:Int):n.fdiv (2^20)=n/1048576:=by
 rw[Int.fdiv_eq_ediv_of_nonneg _ (by decide)];rfl
theorem oG (n:Int):n.fdiv (2^min (Dv 20) 64)=n/1048576:=aqR n
def TS:FuncId:=224
def TT:FuncId:=215
def Oa:FuncId:=39
def lT:FuncId:=84
def yb:FuncId:=40
def TU:FuncId:=19
def Ob:FuncId:=35
def oH:FuncId:=233
def TV:FuncId:=234
def Bx:FuncId:=235
def Kg:FuncId:=173
def TW:FuncId:=225
def zB:FuncId:=96
def TX:FuncId:=214
def yc:FuncId:=43
def wE:FuncId:=36
def oI:FuncId:=38
def kX:FuncId:=146
def Kh:FuncId:=147
def TY:FuncId:=148
def TZ:FuncId:=90
def u7:FuncId:=85
def Dw:FuncId:=86
def Oc:FuncId:=55
def T0:FuncId:=82
def Od:FuncId:=83
def T1:FuncId:=239
def T2:FuncId:=201
def Oe:FuncId:=236
def T3:FuncId:=237
def Ki:FuncId:=152
def Of:FuncId:=165
def T4:FuncId:=223
def Ga:FuncId:=91
def Dx:FuncId:=88
def T5:FuncId:=89
def u9:FuncId:=149
def va:FuncId:=94
def Kj:FuncId:=156
def o9:FuncId:=150
def T6:FuncId:=189
def T7:FuncId:=161
def Gb:FuncId:=151
def vb:FuncId:=141
def Og:FuncId:=142
def T8:FuncId:=143
def Oh:FuncId:=144
def vc:FuncId:=145
def Kk:FuncId:=240
def Bz:FuncId:=241
def Dy:FuncId:=155
def aqS:FuncId:=231
def T9:FuncId:=232
def Kl:FuncId:=157
def Gc:FuncId:=158
def Gd:FuncId:=159
def Dz:FuncId:=160
def Oi:FuncId:=192
def qB:FuncId:=190
def Ua:FuncId:=193
def Ub:FuncId:=195
def Km:FuncId:=187
def Uc:FuncId:=181
def Kn:FuncId:=183
def tF:FuncId:=188
def Oj:FuncId:=194
def Ol:FuncId:=182
def Ko:FuncId:=170
def tG:FuncId:=200
def Ud:FuncId:=33
def Ue:FuncId:=184
def Uf:FuncId:=75
def Ug:FuncId:=76
def Om:FuncId:=77
def pa:FuncId:=78
def wF:FuncId:=79
def DA:FuncId:=80
def Uh:FuncId:=81
def zC:FuncId:=900234
def Ui:FuncId:=175
def BA:FuncId:=900236
def Kp:FuncId:=154
def vd:FuncId:=153
def ve:FuncId:=137
def Kq:FuncId:=138
def Kr:FuncId:=139
def Ks:FuncId:=106
def DB:FuncId:=107
def Uj:FuncId:=140
def Kt:FuncId:=87
def Ge:FuncId:=162
def Ku:FuncId:=163
def Gf:FuncId:=164
def Gg:FuncId:=191
def Uk:FuncId:=167
def On:FuncId:=185
def Ul:FuncId:=186
def zD:FuncId:=28
def Kv:FuncId:=63
def Um:FuncId:=64
def Un:FuncId:=65
def Uo:FuncId:=66
def ni:FuncId:=113
def DD:FuncId:=114
def yd:FuncId:=115
def wG:FuncId:=116
def Up:FuncId:=117
def Uq:FuncId:=118
def Oo:FuncId:=119
def Kw:FuncId:=120
def Ur:FuncId:=121
def Us:FuncId:=122
def Ut:FuncId:=123
def Uu:FuncId:=124
def DE:FuncId:=73
def Uv:FuncId:=125
def tH:FuncId:=126
def Uw:FuncId:=127
def BB:FuncId:=171
def DF:FuncId:=172
def vf:FuncId:=174
def wH:FuncId:=176
def Kx:FuncId:=135
def DG:FuncId:=179
def Ux:FuncId:=180
def Uy:FuncId:=213
def DH:FuncId:=54
def wI:FuncId:=104
def Gh:FuncId:=105
def aqT:FuncId:=5
def Uz:FuncId:=26
def UA:FuncId:=27
def UB:FuncId:=30
def UC:FuncId:=31
def Oq:FuncId:=34
def BC:FuncId:=62
abbrev H (a b:Nat):c9:=⟨some a,none,.cQ (.t b)⟩
abbrev aU (a n b:Nat):c9:=⟨some a,none,.load n false (.t b)⟩
abbrev bw (a n b:Nat):c9:=⟨some a,none,.load n true (.t b)⟩
abbrev bl (a n b:Nat):c9:=⟨some a,none,.dQ n (.t b)⟩
abbrev bu (n a b:Nat):c9:=⟨none,none,.store n (.t a) (.t b)⟩
abbrev bA (a:Nat)(n:Int):c9:=⟨some a,none,.cQ (.c (.J (.int .i64 n)))⟩
abbrev bN (a n b:Nat):c9:=⟨some a,none,.ext n (.t b)⟩
abbrev b2 (a n b c:Nat):c9:=⟨some a,none,.m8 n (.t b) (.t c)⟩
abbrev cm (a b:Nat):c9:=⟨some a,none,.len (.t b)⟩
abbrev cH (a:Nat)(b:Bool):c9:=⟨some a,none,.cQ (.c (.J (.bool b)))⟩
abbrev eM (a:Nat):c9:=⟨some a,none,.cQ (.c .nil)⟩
abbrev bB (a:Nat)(o:BinOp)(b c:Nat):c9:=⟨some a,none,.bin o (.t b) (.t c)⟩
abbrev bn (a:Nat)(o:BinOp)(b:Nat)(n:Int):c9:=⟨some a,none,.bin o (.t b) (.c (.J (.int .i64 n)))⟩
abbrev eu (a b c:Nat):c9:=⟨some a,none,.pick (.t b) (.c (.J (.bool true))) (.t c)⟩
abbrev gH (a b c:Nat):c9:=⟨some a,none,.pick (.t b) (.t c) (.c (.J (.bool false)))⟩
abbrev dH (a k b:Nat):c9:=⟨some a,none,.box k (.t b)⟩
abbrev g8 (a b:Nat):c9:=⟨some a,none,.sd (.t b)⟩
abbrev fs (a b:Nat):c9:=⟨some a,none,.un .not (.t b)⟩
abbrev au (n:Int):R:=.J (.int .i64 n)
abbrev dX (a:Nat)(f:FuncId)(x:Nat):c9:=⟨some a,none,.call f [.t x]⟩
abbrev cE (a:Nat)(f:FuncId)(x y:Nat):c9:=⟨some a,none,.call f [.t x,.t y]⟩
abbrev Gi (a:Nat)(f:FuncId)(x y z:Nat):c9:=⟨some a,none,.call f [.t x,.t y,.t z]⟩
abbrev Ky (a:Nat)(f:FuncId)(x y z u:Nat):c9:=⟨some a,none,.call f [.t x,.t y,.t z,.t u]⟩
abbrev aD (a:Nat)(o:ka):c9:=⟨some a,none,o⟩
abbrev cn (n m:Nat)(r:List ox)(b:eA):bT:=⟨n,m,r,b⟩
abbrev a7 (n:Nat)(a b:eA):eA:=.cond (.t n) a b
abbrev X (l:List c9)(c:eA):eA:=.seq (.ops l) c
abbrev ga (l:List c9)(x:List (List Nat))(c:eA):eA:=.seq (.nK l x) c
abbrev aey:List (List Nat):=[[],[],[],[],[],[]]
abbrev aqU:List (List Nat):=[[],[],[],[],[],[],[]]
abbrev aqV:List (List Nat):=[[],[],[],[],[],[],[],[]]
abbrev DI:List (List Nat):=[[],[],[],[],[],[],[],[],[]]
abbrev Gj:List (List Nat):=[[],[],[],[],[],[],[],[],[],[]]
abbrev Ot:List (List Nat):=[[],[],[],[],[],[],[],[],[],[],[]]
abbrev aez:List (List Nat):=[[],[],[],[],[],[],[],[],[],[],[],[]]
abbrev UD:List (List Nat):=[[],[],[],[],[],[],[],[],[],[],[],[],[]]
abbrev Kz:List (List Nat):=[[],[],[],[],[],[],[],[],[],[],[],[],[],[]]
abbrev Ou:List (List Nat):=[[],[],[],[],[],[],[],[],[],[],[],[],[],[],[],[]]
abbrev aqW:List (List Nat):=[[],[],[],[],[],[],[],[],[],[],[],[],[],[],[],[],[]]
abbrev aqX:List (List Nat):=[[],[],[],[],[],[],[],[],[],[],[],[],[],[],[],[],[],[]]
abbrev aqY:List (List Nat):=[[],[],[],[],[],[],[],[],[],[],[],[],[],[],[],[],[],[],[],[],[],[],[],[],[],[]]
abbrev aqZ:List (List Nat):=[[],[],[],[],[],[],[],[],[],[],[],[],[],[],[],[],[],[],[],[],[],[],[],[],[],[],[],[]]
abbrev aq0:List (List Nat):=[[],[],[],[],[],[],[],[],[],[],[],[],[],[],[],[],[],[],[],[],[],[],[],[],[],[],[],[],[],[]]
def UE:bT:=cn 49 1 [.t 2] (X [dH 1 136001 0,cH 2 false] (X [bl 6 1 1,aU 7 1 6,cm 8 7,H 3 8] (.seq (X [bl 9 1 1,aU 10 1 9,cm 11 10,bA 12 0] (.block 0 (.loop  (X [bB 13 .lss 12 11] (.seq (a7 13 .skip (.exit 0)) (.seq (.block 1 (X [b2 14 1 10 12,aU 15 1 14,H 5 15] (X [H 16 5,bn 17 .lss 16 0,H 18 17,⟨some 19,some (18,false),.cQ (.t 5)⟩,⟨some 20,some (18,false),.bin .gtr (.t 19) (.c (au 1048575))⟩,eu 21 18 20] (a7 21 (X [cH 2 false] .ret) .skip)))) (.ops [bn 22 .add 12 1,H 12 22]))))))) (.seq (X [H 23 3,bn 24 .eql 23 0] (a7 24 (X [bl 25 0 1,aU 26 1 25,bn 27 .eql 26 0,H 2 27] .ret) .skip)) (X [bl 28 0 1,aU 29 1 28,bn 30 .eql 29 1,H 31 30,⟨some 32,some (31,false),.dQ 0 (.t 1)⟩,⟨some 33,some (31,false),.load 1 false (.t 32)⟩,⟨some 34,some (31,false),.bin .eql (.t 33) (.c (.J (.int .i64 (-1))))⟩,eu 35 31 34,H 36 35,⟨some 37,some (36,true),.cQ (.t 3)⟩,⟨some 38,some (36,true),.bin .leq (.t 37) (.c (au 60))⟩,gH 39 36 38,H 40 39,⟨some 41,some (40,true),.dQ 1 (.t 1)⟩,⟨some 42,some (40,true),.load 1 false (.t 41)⟩,⟨some 43,some (40,true),.cQ (.t 3)⟩,⟨some 44,some (40,true),.bin .sub (.t 43) (.c (au 1))⟩,⟨some 45,some (40,true),.m8 1 (.t 42) (.t 44)⟩,⟨some 46,some (40,true),.load 1 false (.t 45)⟩,⟨some 47,some (40,true),.bin .neq (.t 46) (.c (au 0))⟩,gH 48 40 47,H 2 48] .ret)))))
def UF:bT:=cn 44 2 [.cell 4 2 true,.t 5] (X [dH 2 137002 0,dH 3 137003 1,(aD 4 (.alloc 137004 [(au 0),.nil])),bA 5 0] (.seq (X [bw 10 2 2,(dX 11 kX 10),fs 12 11,H 13 12,⟨some 14,some (13,false),.load 2 true (.t 3)⟩,⟨some 15,some (13,false),.call kX [(.t 14)]⟩,⟨some 16,some (13,false),.un .not (.t 15)⟩,eu 17 13 16] (a7 17 (X [(aD 18 (.build [(au 0),.nil] [])),(aD 19 (.call u9 [(.c (.J (.bool false))),(.t 18)])),bN 20 0 19,bN 21 1 19,bu 2 4 20,H 5 21] .ret) .skip)) (ga [bl 22 1 2,aU 23 1 22,(dX 24 va 23),bl 25 1 3,aU 26 1 25,H 6 24,H 7 26] aqU (.seq (.block 0 (.loop  (.seq (X [H 27 7,cm 28 27,bn 29 .gtr 28 0] (a7 29 .skip (.exit 0))) (.block 1 (X [H 31 6,H 32 7,(cE 33 Kj 31 32),H 30 33,bN 34 0 30,bN 35 1 30,H 8 34,H 9 35] (.ops [H 36 7,H 37 9,H 6 36,H 7 37])))))) (X [H 38 6,(dX 39 va 38),(aD 40 (.call o9 [(.c (au 1)),(.t 39)])),(aD 41 (.call u9 [(.c (.J (.bool true))),(.t 40)])),bN 42 0 41,bN 43 1 41,bu 2 4 42,H 5 43] .ret)))))
def UG:bT:=cn 32 2 [.cell 4 2 true,.t 5] (X [dH 2 140002 0,dH 3 140003 1,(aD 4 (.alloc 140004 [(au 0),.nil])),bA 5 0] (.seq (X [bw 6 2 2,(dX 7 kX 6),fs 8 7,H 9 8,⟨some 10,some (9,false),.load 2 true (.t 3)⟩,⟨some 11,some (9,false),.call kX [(.t 10)]⟩,⟨some 12,some (9,false),.un .not (.t 11)⟩,eu 13 9 12] (a7 13 (X [(aD 14 (.build [(au 0),.nil] [])),(aD 15 (.call u9 [(.c (.J (.bool false))),(.t 14)])),bN 16 0 15,bN 17 1 15,bu 2 4 16,H 5 17] .ret) .skip)) (ga [bl 18 0 2,aU 19 1 18,bl 20 0 3,aU 21 1 20,bB 22 .mul 19 21,bl 23 1 2,aU 24 1 23,bl 25 1 3,aU 26 1 25,(cE 27 Gb 24 26),(cE 28 o9 22 27),(aD 29 (.call u9 [(.c (.J (.bool true))),(.t 28)])),bN 30 0 29,bN 31 1 29,bu 2 4 30,H 5 31] Ou .ret)))
def UH:bT:=cn 25 1 [.cell 2 2 true] (X [(aD 2 (.alloc 150002 [(au 0),.nil]))] (X [H 6 0,(aD 7 (.conv .u64 (.t 6))),bA 3 1,H 4 7] (.seq (X [H 8 0,bn 9 .lss 8 0] (a7 9 (.ops [H 10 4,(aD 11 (.un .neg (.t 10))),(aD 3 (.cQ (.c (.J (.int .i64 (-1)))))),H 4 11]) .skip)) (X [eM 5] (.seq (.block 0 (.ghost (.ow 5 150021 1) (.loop  (.seq (X [H 12 4,(aD 13 (.bin .gtr (.t 12) (.c (.J (.int .u64 0)))))] (a7 13 .skip (.exit 0))) (.seq (.block 1 (.ops [H 16 5,H 17 4,(aD 18 (.bin .and (.t 17) (.c (.J (.int .u64 1048575))))),(aD 19 (.conv .i64 (.t 18))),(aD 20 (.fc 150020 false [(au 0)] 1 1 [(0,1,(.t 19))])),(aD 21 (.app 150021 [(au 0)] 8 (.t 16) (.t 20))),H 5 21])) (.ops [H 14 4,(aD 15 (.bin .shr (.t 14) (.c (.J (.int .u64 20))))),H 4 15])))))) (.seq (.ghost (.freeze 5) (.ops [H 22 3,H 23 5,(cE 24 o9 22 23),bu 2 2 24])) .ret))))))
def UI:bT:=cn 14 1 [.cell 2 2 true] (X [dH 1 152001 0,(aD 2 (.alloc 152002 [(au 0),.nil]))] (.seq (X [bw 3 2 1,(dX 4 kX 3),fs 5 4] (a7 5 (X [(aD 6 (.build [(au 0),.nil] [])),bu 2 2 6] .ret) .skip)) (ga [bl 7 0 1,aU 8 1 7,(aD 9 (.un .neg (.t 8))),bl 10 1 1,aU 11 1 10,(dX 12 va 11),(cE 13 o9 9 12),bu 2 2 13] aqV .ret)))
def UJ:bT:=cn 67 2 [.cell 4 2 true,.cell 5 2 true,.t 6] (X [dH 2 153002 0,dH 3 153003 1,(aD 4 (.alloc 153004 [(au 0),.nil])),(aD 5 (.alloc 153005 [(au 0),.nil])),bA 6 0] (.seq (.block 0 (X [bw 10 2 2,(dX 11 kX 10),fs 12 11,H 13 12,⟨some 14,some (13,false),.load 2 true (.t 3)⟩,⟨some 15,some (13,false),.call kX [(.t 14)]⟩,⟨some 16,some (13,false),.un .not (.t 15)⟩,eu 17 13 16,H 9 17] (a7 9 (X [(aD 18 (.build [(au 0),.nil] [])),(aD 19 (.build [(au 0),.nil] [])),bu 2 4 18,bu 2 5 19,bA 6 1] .ret) (X [bl 21 0 3,aU 22 1 21,bn 23 .eql 22 0,H 20 23] (a7 20 (X [(aD 24 (.build [(au 0),.nil] [])),(aD 25 (.build [(au 0),.nil] [])),bu 2 4 24,bu 2 5 25,bA 6 15] .ret) .skip))))) (X [bl 27 1 2,aU 28 1 27,bl 29 1 3,aU 30 1 29,(cE 31 Kj 28 30),H 26 31,bN 32 0 26,bN 33 1 26,H 7 32,H 8 33] (.seq (X [bl 34 0 2,aU 35 1 34,bl 36 0 3,aU 37 1 36,bB 38 .mul 35 37,bn 39 .lss 38 0,H 40 39,⟨some 41,some (40,true),.cQ (.t 8)⟩,⟨some 42,some (40,true),.len (.t 41)⟩,⟨some 43,some (40,true),.bin .gtr (.t 42) (.c (au 0))⟩,gH 44 40 43] (a7 44 (ga [H 45 7,(aD 46 (.fc 153046 false [(au 0)] 1 1 [(0,1,(.c (au 1)))])),(cE 47 Kl 45 46),(aD 48 (.call o9 [(.c (.J (.int .i64 (-1)))),(.t 47)])),bl 49 0 3,aU 50 1 49,bl 51 1 3,aU 52 1 51,H 53 8,(cE 54 Gc 52 53),(cE 55 o9 50 54),bu 2 4 48,bu 2 5 55,bA 6 0] Kz .ret) .skip)) (ga [bl 56 0 2,aU 57 1 56,bl 58 0 3,aU 59 1 58,bB 60 .mul 57 59,H 61 7,(cE 62 o9 60 61),bl 63 0 2,aU 64 1 63,H 65 8,(cE 66 o9 64 65),bu 2 4 62,bu 2 5 66,bA 6 0] Kz .ret)))))
def UK:bT:=cn 31 2 [.t 4] (X [dH 2 154002 0,dH 3 154003 1,bA 4 0] (.seq (X [bw 5 2 2,(dX 6 kX 5),fs 7 6,H 8 7,⟨some 9,some (8,false),.load 2 true (.t 3)⟩,⟨some 10,some (8,false),.call kX [(.t 9)]⟩,⟨some 11,some (8,false),.un .not (.t 10)⟩,eu 12 8 11] (a7 12 (X [bA 4 0] .ret) .skip)) (.seq (X [bl 13 0 2,aU 14 1 13,bl 15 0 3,aU 16 1 15,bB 17 .neq 14 16] (a7 17 (X [bl 18 0 2,aU 19 1 18,bl 20 0 3,aU 21 1 20,(cE 22 Gd 19 21),H 4 22] .ret) .skip)) (ga [bl 23 0 2,aU 24 1 23,bl 25 1 2,aU 26 1 25,bl 27 1 3,aU 28 1 27,(cE 29 Dz 26 28),bB 30 .mul 24 29,H 4 30] DI .ret))))
def UL:bT:=cn 17 2 [.cell 4 2 true,.t 5] (X [dH 3 155003 1,(aD 4 (.alloc 155004 [(au 0),.nil])),bA 5 0] (.seq (.block 0 (X [H 7 0,fs 8 7,H 6 8] (a7 6 (X [(aD 9 (.build [(au 0),.nil] [])),bu 2 4 9,bA 5 1] .ret) (X [bl 11 1 3,aU 12 1 11,cm 13 12,bn 14 .gtr 13 60,H 10 14] (a7 10 (X [(aD 15 (.build [(au 0),.nil] [])),bu 2 4 15,bA 5 6] .ret) .skip))))) (X [bw 16 2 3,bu 2 4 16,bA 5 0] .ret)))
def UM:bT:=cn 170 2 [.t 4,.t 5] (X [eM 4,eM 5] (.seq (X [H 19 0,H 20 1,(cE 21 Dz 19 20),bn 22 .lss 21 0] (a7 22 (X [H 23 0,(dX 24 va 23),eM 4,H 5 24] .ret) .skip)) (.seq (X [H 25 1,cm 26 25,bn 27 .eql 26 1] (a7 27 (X [H 29 0,H 30 1,(aD 31 (.m8 1 (.t 30) (.c (au 0)))),aU 32 1 31,(cE 33 Oi 29 32),H 28 33,bN 34 0 28,bN 35 1 28,H 6 34,H 7 35] (X [H 36 6,H 37 7,(aD 38 (.fc 157038 false [(au 0)] 1 1 [(0,1,(.t 37))])),(dX 39 qB 38),H 4 36,H 5 39] .ret)) .skip)) (X [bA 8 1] (.seq (.block 0 (.loop  (.seq (X [H 40 1,H 41 1,cm 42 41,bn 43 .sub 42 1,b2 44 1 40 43,aU 45 1 44,H 46 8,bB 47 .mul 45 46,bn 48 .lss 47 524288] (a7 48 .skip (.exit 0))) (.block 1 (.ops [H 49 8,bn 50 .mul 49 2,H 8 50]))))) (X [H 51 0,H 52 8,(aD 53 (.fc 157053 false [(au 0)] 1 1 [(0,1,(.t 52))])),(aD 54 (.ov 157054 1 Gb [(.t 51),(.t 53)])),(aD 55 (.fc 157055 false [(au 0)] 1 1 [(0,1,(.c (au 0)))])),(aD 56 (.app 157056 [(au 0)] 8 (.t 54) (.t 55))),H 57 1,H 58 8,(aD 59 (.fc 157059 false [(au 0)] 1 1 [(0,1,(.t 58))])),(cE 60 Gb 57 59),H 9 56,H 10 60] (.seq (X [H 61 9,cm 62 61,H 63 0,cm 64 63,bB 65 .eql 62 64] (a7 65 (.ops [H 66 9,(aD 67 (.fc 157067 false [(au 0)] 1 1 [(0,1,(.c (au 0)))])),(aD 68 (.app 157068 [(au 0)] 8 (.t 66) (.t 67))),H 9 68]) .skip)) (X [H 69 10,cm 70 69,H 11 70] (X [H 71 9,cm 72 71,H 73 11,bB 74 .sub 72 73,(aD 75 (.mc 157075 [(au 0)] 8 (.t 74) (.t 74))),H 12 75] (.seq (X [H 76 12,cm 77 76,bn 78 .sub 77 1,H 13 78] (.block 2 (.loop  (.seq (X [H 79 13,bn 80 .geq 79 0] (a7 80 .skip (.exit 2))) (.seq (.block 3 (ga [H 83 9,H 84 13,H 85 11,bB 86 .add 84 85,b2 87 1 83 86,aU 88 1 87,(aD 89 (.bin .shl (.t 88) (.c (.J (.int .u64 20))))),H 90 9,H 91 13,H 92 11,bB 93 .add 91 92,bn 94 .sub 93 1,b2 95 1 90 94,aU 96 1 95,bB 97 .or 89 96,H 14 97] Ou (ga [H 98 14,H 99 10,H 100 11,bn 101 .sub 100 1,b2 102 1 99 101,aU 103 1 102,bB 104 .quo 98 103,H 105 14,H 106 10,H 107 11,bn 108 .sub 107 1,b2 109 1 106 108,aU 110 1 109,bB 111 .rem 105 110,H 15 104,H 16 111] Ou (.seq (.block 4 (.loop  (.seq (ga [H 112 15,bn 113 .geq 112 1048576,H 114 113,⟨some 115,some (114,false),.cQ (.t 16)⟩,⟨some 116,some (114,false),.bin .lss (.t 115) (.c (au 1048576))⟩,⟨some 117,some (114,false),.cQ (.t 116)⟩,⟨some 118,some (117,true),.cQ (.t 15)⟩,⟨some 119,some (117,true),.cQ (.t 10)⟩,⟨some 120,some (117,true),.cQ (.t 11)⟩,⟨some 121,some (117,true),.bin .sub (.t 120) (.c (au 2))⟩,⟨some 122,some (117,true),.m8 1 (.t 119) (.t 121)⟩,⟨some 123,some (117,true),.load 1 false (.t 122)⟩,⟨some 124,some (117,true),.bin .mul (.t 118) (.t 123)⟩,⟨some 125,some (117,true),.cQ (.t 16)⟩,⟨some 126,some (117,true),.bin .shl (.t 125) (.c (.J (.int .u64 20)))⟩,⟨some 127,some (117,true),.cQ (.t 9)⟩,⟨some 128,some (117,true),.cQ (.t 13)⟩,⟨some 129,some (117,true),.cQ (.t 11)⟩,⟨some 130,some (117,true),.bin .add (.t 128) (.t 129)⟩,⟨some 131,some (117,true),.bin .sub (.t 130) (.c (au 2))⟩,⟨some 132,some (117,true),.m8 1 (.t 127) (.t 131)⟩,⟨some 133,some (117,true),.load 1 false (.t 132)⟩,⟨some 134,some (117,true),.bin .or (.t 126) (.t 133)⟩,⟨some 135,some (117,true),.bin .gtr (.t 124) (.t 134)⟩,⟨some 136,some (114,false),.pick (.t 117) (.t 135) (.c (.J (.bool false)))⟩,eu 137 114 136] aqY (a7 137 .skip (.exit 4))) (.block 5 (X [H 138 15,bn 139 .sub 138 1,H 15 139] (.ops [H 140 16,H 141 10,H 142 11,bn 143 .sub 142 1,b2 144 1 141 143,aU 145 1 144,bB 146 .add 140 145,H 16 146])))))) (.ops [H 147 12,H 148 13,H 149 9,H 150 13,H 151 13,H 152 11,bB 153 .add 151 152,bn 154 .add 153 1,(aD 155 (.ou 1 (.t 149) (some (.t 150)) (some (.t 154)) none)),H 156 10,H 157 15,(Gi 158 Ua 155 156 157),b2 159 1 147 148,bu 1 159 158]))))) (.ops [H 81 13,bn 82 .sub 81 1,H 13 82])))))) (.seq (.ghost (.freeze 9) (.ops [H 161 9,(dX 162 qB 161),H 163 8,(cE 164 Oi 162 163),H 160 164,bN 165 0 160,bN 166 1 160,H 17 165,H 18 166])) (.seq (.ghost (.freeze 12) (.ops [H 167 12,(dX 168 qB 167),H 169 17,H 4 168,H 5 169])) .ret))))))))))))
def UN:bT:=cn 14 2 [.cell 4 2 true] (X [(aD 4 (.alloc 158004 [(au 0),.nil]))] (X [H 5 1,(dX 6 qB 5),H 1 6] (.seq (X [H 7 1,cm 8 7,bn 9 .eql 8 0] (a7 9 (X [(aD 10 (.build [(au 0),.nil] [])),bu 2 4 10] .ret) .skip)) (X [H 11 0,H 12 1,(aD 13 (.build [(au 0),.nil] [(0,1,(.t 11)),(1,1,(.t 12))])),bu 2 4 13] .ret))))
def UO:bT:=cn 59 1 [.t 2,.t 3] (X [dH 1 159001 0,bA 2 0,cH 3 false] (.seq (X [bw 7 2 1,(dX 8 kX 7),fs 9 8,H 10 9,⟨some 11,some (10,false),.dQ 1 (.t 1)⟩,⟨some 12,some (10,false),.load 1 false (.t 11)⟩,⟨some 13,some (10,false),.len (.t 12)⟩,⟨some 14,some (10,false),.bin .gtr (.t 13) (.c (au 4))⟩,eu 15 10 14] (a7 15 (X [bA 2 0,cH 3 false] .ret) .skip)) (X [(aD 4 (.cQ (.c (.J (.int .u64 0)))))] (.seq (X [bl 16 1 1,aU 17 1 16,cm 18 17,bA 19 0] (.block 0 (.loop  (X [bB 20 .lss 19 18] (.seq (a7 20 .skip (.exit 0)) (.seq (.block 1 (X [H 21 19,b2 22 1 17 19,aU 23 1 22,H 5 21,H 6 23] (.seq (X [H 24 5,bn 25 .eql 24 3,H 26 25,⟨some 27,some (26,true),.cQ (.t 6)⟩,⟨some 28,some (26,true),.bin .gtr (.t 27) (.c (au 8))⟩,gH 29 26 28] (a7 29 (X [bA 2 0,cH 3 false] .ret) .skip)) (.ops [H 30 4,H 31 6,(aD 32 (.conv .u64 (.t 31))),H 33 5,(aD 34 (.bin .mul (.c (au 20)) (.t 33))),bB 35 .shl 32 34,bB 36 .or 30 35,H 4 36])))) (.ops [bn 37 .add 19 1,H 19 37]))))))) (.seq (.block 2 (X [bl 39 0 1,aU 40 1 39,bn 41 .lss 40 0,H 42 41,⟨some 43,some (42,true),.cQ (.t 4)⟩,⟨some 44,some (42,true),.bin .leq (.t 43) (.c (.J (.int .u64 9223372036854775808)))⟩,gH 45 42 44,H 38 45] (a7 38 (X [H 46 4,(aD 47 (.un .neg (.t 46))),(aD 48 (.conv .i64 (.t 47))),H 2 48,cH 3 true] .ret) (X [bl 50 0 1,aU 51 1 50,bn 52 .geq 51 0,H 53 52,⟨some 54,some (53,true),.cQ (.t 4)⟩,⟨some 55,some (53,true),.bin .lss (.t 54) (.c (.J (.int .u64 9223372036854775808)))⟩,gH 56 53 55,H 49 56] (a7 49 (X [H 57 4,(aD 58 (.conv .i64 (.t 57))),H 2 58,cH 3 true] .ret) .skip))))) (X [bA 2 0,cH 3 false] .ret))))))
def UP:bT:=cn 69 2 [.cell 4 2 true,.t 5] (X [dH 2 160002 0,dH 3 160003 1,(aD 4 (.alloc 160004 [(au 0),.nil])),bA 5 0] (.seq (X [bw 6 2 2,(dX 7 kX 6),fs 8 7,H 9 8,⟨some 10,some (9,false),.load 2 true (.t 3)⟩,⟨some 11,some (9,false),.call kX [(.t 10)]⟩,⟨some 12,some (9,false),.un .not (.t 11)⟩,eu 13 9 12] (a7 13 (X [(aD 14 (.build [(au 0),.nil] [])),(aD 15 (.call u9 [(.c (.J (.bool false))),(.t 14)])),bN 16 0 15,bN 17 1 15,bu 2 4 16,H 5 17] .ret) .skip)) (.seq (.block 0 (X [bl 19 0 2,aU 20 1 19,bl 21 0 3,aU 22 1 21,bB 23 .mul 20 22,bn 24 .geq 23 0,H 18 24] (a7 18 (ga [bl 25 0 2,aU 26 1 25,bl 27 0 3,aU 28 1 27,(aD 29 (.fc 160029 false [(au 0),(au 0)] 1 2 [(0,1,(.t 26)),(1,1,(.t 28))])),(dX 30 Ub 29),bl 31 1 2,aU 32 1 31,bl 33 1 3,aU 34 1 33,(cE 35 Kl 32 34),(cE 36 o9 30 35),(aD 37 (.call u9 [(.c (.J (.bool true))),(.t 36)])),bN 38 0 37,bN 39 1 37,bu 2 4 38,H 5 39] aqW .ret) (X [bl 41 1 2,aU 42 1 41,bl 43 1 3,aU 44 1 43,(cE 45 Dz 42 44),bn 46 .lss 45 0,H 40 46] (a7 40 (ga [bl 47 0 3,aU 48 1 47,bl 49 1 3,aU 50 1 49,bl 51 1 2,aU 52 1 51,(cE 53 Gc 50 52),(cE 54 o9 48 53),(aD 55 (.call u9 [(.c (.J (.bool true))),(.t 54)])),bN 56 0 55,bN 57 1 55,bu 2 4 56,H 5 57] UD .ret) .skip))))) (ga [bl 58 0 2,aU 59 1 58,bl 60 1 2,aU 61 1 60,bl 62 1 3,aU 63 1 62,(cE 64 Gc 61 63),(cE 65 o9 59 64),(aD 66 (.call u9 [(.c (.J (.bool true))),(.t 65)])),bN 67 0 66,bN 68 1 66,bu 2 4 67,H 5 68] UD .ret))))
def UQ:bT:=cn 67 2 [.t 4] (X [eM 4] (X [H 12 0,cm 13 12,H 14 1,cm 15 14,bB 16 .add 13 15,(aD 17 (.mc 161017 [(au 0)] 8 (.t 16) (.t 16))),H 5 17] (.seq (X [H 18 0,cm 19 18,bA 20 0] (.block 0 (.loop  (X [bB 21 .lss 20 19] (.seq (a7 21 .skip (.exit 0)) (.seq (.block 1 (X [H 22 20,b2 23 1 18 20,aU 24 1 23,H 6 22,H 7 24] (X [bA 8 0] (.seq (X [H 25 1,cm 26 25,bA 27 0] (.block 2 (.loop  (X [bB 28 .lss 27 26] (.seq (a7 28 .skip (.exit 2)) (.seq (.block 3 (X [H 29 27,b2 30 1 25 27,aU 31 1 30,H 9 29,H 10 31] (X [H 32 5,H 33 6,H 34 9,bB 35 .add 33 34,b2 36 1 32 35,aU 37 1 36,H 38 7,H 39 10,bB 40 .mul 38 39,bB 41 .add 37 40,H 42 8,bB 43 .add 41 42,H 11 43] (.ops [H 44 5,H 45 6,H 46 9,bB 47 .add 45 46,H 48 11,bn 49 .and 48 1048575,H 50 11,(aD 51 (.bin .shr (.t 50) (.c (.J (.int .u64 20))))),b2 52 1 44 47,bu 1 52 49,H 8 51])))) (.ops [bn 53 .add 27 1,H 27 53]))))))) (.ops [H 54 5,H 55 6,H 56 1,cm 57 56,bB 58 .add 55 57,b2 59 1 54 58,aU 60 1 59,H 61 8,bB 62 .add 60 61,b2 63 1 54 58,bu 1 63 62]))))) (.ops [bn 64 .add 20 1,H 20 64]))))))) (X [H 65 5,(dX 66 qB 65),H 4 66] .ret))))
def UR:bT:=cn 55 2 [.t 4] (X [eM 4] (.seq (X [H 9 0,cm 10 9,H 11 1,cm 12 11,bB 13 .lss 10 12] (a7 13 (.ops [H 14 1,H 15 0,H 0 14,H 1 15]) .skip)) (X [H 16 0,cm 17 16,bn 18 .add 17 1,(aD 19 (.mc 172019 [(au 0)] 8 (.t 18) (.t 18))),H 5 19] (X [bA 6 0] (.seq (X [H 20 0,cm 21 20,bA 22 0] (.block 0 (.loop  (X [bB 23 .lss 22 21] (.seq (a7 23 .skip (.exit 0)) (.seq (.block 1 (X [H 24 22,b2 25 1 20 22,aU 26 1 25,H 7 24,H 8 26] (X [H 27 6,H 28 8,bB 29 .add 27 28,H 6 29] (.seq (X [H 30 7,H 31 1,cm 32 31,bB 33 .lss 30 32] (a7 33 (.ops [H 34 6,H 35 1,H 36 7,b2 37 1 35 36,aU 38 1 37,bB 39 .add 34 38,H 6 39]) .skip)) (X [H 40 5,H 41 7,H 42 6,bn 43 .and 42 1048575,b2 44 1 40 41,bu 1 44 43] (.ops [H 45 6,(aD 46 (.bin .shr (.t 45) (.c (.J (.int .u64 20))))),H 6 46])))))) (.ops [bn 47 .add 22 1,H 22 47]))))))) (X [H 48 5,H 49 0,cm 50 49,H 51 6,b2 52 1 48 50,bu 1 52 51] (X [H 53 5,(dX 54 qB 53),H 4 54] .ret)))))))
def US:bT:=cn 43 2 [.t 4] (X [eM 4] (X [H 9 0,(aD 10 (.ov 173010 1 va [(.t 9)])),H 5 10] (X [bA 6 0] (.seq (X [H 11 5,cm 12 11,bA 13 0] (.block 0 (.loop  (X [bB 14 .lss 13 12] (.seq (a7 14 .skip (.exit 0)) (.seq (.block 1 (X [H 15 13,H 7 15] (X [H 16 5,H 17 7,b2 18 1 16 17,aU 19 1 18,H 20 6,bB 21 .sub 19 20,H 8 21] (.seq (X [H 22 7,H 23 1,cm 24 23,bB 25 .lss 22 24] (a7 25 (.ops [H 26 8,H 27 1,H 28 7,b2 29 1 27 28,aU 30 1 29,bB 31 .sub 26 30,H 8 31]) .skip)) (X [H 32 8,(aD 33 (.bin .shr (.t 32) (.c (.J (.int .u64 20))))),bn 34 .and 33 1,H 6 34] (.ops [H 35 5,H 36 7,H 37 8,bn 38 .and 37 1048575,b2 39 1 35 36,bu 1 39 38])))))) (.ops [bn 40 .add 13 1,H 13 40]))))))) (X [H 41 5,(dX 42 qB 41),H 4 42] .ret)))))
def UT:bT:=cn 41 2 [.t 4] (X [bA 4 0] (.seq (X [H 6 0,cm 7 6,H 8 1,cm 9 8,bB 10 .neq 7 9] (a7 10 (X [H 11 0,cm 12 11,H 13 1,cm 14 13,(cE 15 Gd 12 14),H 4 15] .ret) .skip)) (.seq (X [H 16 0,cm 17 16,bn 18 .sub 17 1,H 5 18] (.block 0 (.loop  (.seq (X [H 19 5,bn 20 .geq 19 0] (a7 20 .skip (.exit 0))) (.seq (.block 1 (ga [H 23 0,H 24 5,b2 25 1 23 24,aU 26 1 25,H 27 1,H 28 5,b2 29 1 27 28,aU 30 1 29,bB 31 .neq 26 30] DI (a7 31 (ga [H 32 0,H 33 5,b2 34 1 32 33,aU 35 1 34,H 36 1,H 37 5,b2 38 1 36 37,aU 39 1 38,(cE 40 Gd 35 39),H 4 40] Gj .ret) .skip))) (.ops [H 21 5,bn 22 .sub 21 1,H 5 22])))))) (X [bA 4 0] .ret))))
def UU:bT:=cn 38 2 [.t 4,.t 5] (X [eM 4,bA 5 0] (X [H 9 0,cm 10 9,(aD 11 (.mc 176011 [(au 0)] 8 (.t 10) (.t 10))),H 6 11] (X [bA 7 0] (.seq (X [H 12 0,cm 13 12,bn 14 .sub 13 1,H 8 14] (.block 0 (.loop  (.seq (X [H 15 8,bn 16 .geq 15 0] (a7 16 .skip (.exit 0))) (.seq (.block 1 (X [H 19 7,(aD 20 (.bin .shl (.t 19) (.c (.J (.int .u64 20))))),H 21 0,H 22 8,b2 23 1 21 22,aU 24 1 23,bB 25 .or 20 24,H 7 25] (X [H 26 6,H 27 8,H 28 7,H 29 1,bB 30 .quo 28 29,b2 31 1 26 27,bu 1 31 30] (.ops [H 32 7,H 33 1,bB 34 .rem 32 33,H 7 34])))) (.ops [H 17 8,bn 18 .sub 17 1,H 8 18])))))) (.seq (.ghost (.freeze 6) (.ops [H 35 6,(dX 36 qB 35),H 37 7,H 4 36,H 5 37])) .ret)))))
def DJ:bT:=cn 21 1 [.t 2] (X [eM 2] (X [H 4 0,cm 5 4,H 3 5] (.seq (.block 0 (.loop  (.seq (X [H 6 3,bn 7 .gtr 6 0,H 8 7,⟨some 9,some (8,true),.cQ (.t 0)⟩,⟨some 10,some (8,true),.cQ (.t 3)⟩,⟨some 11,some (8,true),.bin .sub (.t 10) (.c (au 1))⟩,⟨some 12,some (8,true),.m8 1 (.t 9) (.t 11)⟩,⟨some 13,some (8,true),.load 1 false (.t 12)⟩,⟨some 14,some (8,true),.bin .eql (.t 13) (.c (au 0))⟩,gH 15 8 14] (a7 15 .skip (.exit 0))) (.block 1 (.ops [H 16 3,bn 17 .sub 16 1,H 3 17]))))) (X [H 18 0,H 19 3,(aD 20 (.ou 1 (.t 18) none (some (.t 19)) none)),H 2 20] .ret))))
def Ov:bT:=cn 78 3 [.t 6] (X [bA 6 0] (X [bA 7 0] (.seq (X [H 12 0,cm 13 12,bA 14 0] (.block 0 (.loop  (X [bB 15 .lss 14 13] (.seq (a7 15 .skip (.exit 0)) (.seq (.block 1 (X [H 16 14,H 8 16] (X [H 17 0,H 18 8,b2 19 1 17 18,aU 20 1 19,H 21 7,bB 22 .sub 20 21,H 9 22] (.seq (X [H 23 8,H 24 1,cm 25 24,bB 26 .lss 23 25] (a7 26 (.ops [H 27 9,H 28 2,H 29 1,H 30 8,b2 31 1 29 30,aU 32 1 31,bB 33 .mul 28 32,bB 34 .sub 27 33,H 9 34]) .skip)) (X [H 35 0,H 36 8,H 37 9,bn 38 .and 37 1048575,b2 39 1 35 36,bu 1 39 38] (.ops [H 40 9,(aD 41 (.bin .shr (.t 40) (.c (.J (.int .u64 20))))),(aD 42 (.un .neg (.t 41))),H 7 42])))))) (.ops [bn 43 .add 14 1,H 14 43]))))))) (.seq (X [H 44 7,bn 45 .eql 44 0] (a7 45 (X [H 46 2,H 6 46] .ret) .skip)) (X [bA 10 0] (.seq (X [H 47 0,cm 48 47,bA 49 0] (.block 2 (.loop  (X [bB 50 .lss 49 48] (.seq (a7 50 .skip (.exit 2)) (.seq (.block 3 (X [H 51 49,H 11 51] (X [H 52 10,H 53 0,H 54 11,b2 55 1 53 54,aU 56 1 55,bB 57 .add 52 56,H 10 57] (.seq (X [H 58 11,H 59 1,cm 60 59,bB 61 .lss 58 60] (a7 61 (.ops [H 62 10,H 63 1,H 64 11,b2 65 1 63 64,aU 66 1 65,bB 67 .add 62 66,H 10 67]) .skip)) (X [H 68 0,H 69 11,H 70 10,bn 71 .and 70 1048575,b2 72 1 68 69,bu 1 72 71] (.ops [H 73 10,(aD 74 (.bin .shr (.t 73) (.c (.J (.int .u64 20))))),H 10 74])))))) (.ops [bn 75 .add 49 1,H 49 75]))))))) (X [H 76 2,bn 77 .sub 76 1,H 6 77] .ret)))))))
def UW:bT:=cn 20 2 [.t 4] (X [bA 4 0] (X [H 7 0,(dX 8 Oj 7),H 5 8] (X [H 9 1,(dX 10 Oj 9),H 6 10] (.seq (X [H 11 5] (a7 11 (.seq (X [H 12 6] (a7 12 (X [bA 4 0] .ret) .skip)) (X [(aD 4 (.cQ (.c (.J (.int .i64 (-1))))))] .ret)) .skip)) (.seq (X [H 13 6] (a7 13 (X [bA 4 1] .ret) .skip)) (.seq (X [H 14 0,H 15 1,bB 16 .lss 14 15] (a7 16 (X [(aD 4 (.cQ (.c (.J (.int .i64 (-1))))))] .ret) .skip)) (.seq (X [H 17 0,H 18 1,bB 19 .gtr 17 18] (a7 19 (X [bA 4 1] .ret) .skip)) (X [bA 4 0] .ret))))))))
def UX:bT:=cn 18 1 [.t 2] (X [bA 2 0] (X [bA 3 0] (.seq (X [H 6 0,cm 7 6,bA 8 0] (.block 0 (.loop  (X [bB 9 .lss 8 7] (.seq (a7 9 .skip (.exit 0)) (.seq (.block 1 (X [b2 10 1 6 8,aU 11 1 10,H 5 11] (X [H 12 5,H 13 3,bB 14 .neq 12 13] (a7 14 (X [H 15 5,H 2 15] .ret) .skip)))) (.ops [bn 16 .add 8 1,H 8 16]))))))) (X [H 17 3,H 2 17] .ret))))
def UY:bT:=cn 6 1 [.t 2] (X [cH 2 false] (X [H 3 0,H 4 0,bB 5 .neq 3 4,H 2 5] .ret))
def UZ:bT:=cn 9 2 [.t 4] (X [cH 4 false] (X [H 5 0,H 6 1,(cE 7 T1 5 6),bn 8 .geq 7 0,H 4 8] .ret))
def U0:bT:=cn 9 2 [.t 4] (X [cH 4 false] (X [H 5 0,H 6 1,(cE 7 T2 5 6),bn 8 .geq 7 0,H 4 8] .ret))
def U1:bT:=cn 48 2 [.t 4] (X [eM 4] (.seq (X [H 9 1,bn 10 .lss 9 0] (a7 10 (.ops [(aD 11 (.bad)),⟨none,none,.bad⟩]) .skip)) (X [H 13 0,cm 14 13,(aD 15 (.conv .u64 (.t 14))),H 16 1,(aD 17 (.conv .u64 (.t 16))),(cE 18 T4 15 17),H 12 18,bN 19 0 12,bN 20 1 12,H 5 19,H 6 20] (.seq (X [H 21 5,(aD 22 (.bin .gtr (.t 21) (.c (.J (.int .u64 0))))),H 23 22,⟨some 24,some (23,false),.cQ (.t 6)⟩,⟨some 25,some (23,false),.bin .gtr (.t 24) (.c (.J (.int .u64 9223372036854775807)))⟩,eu 26 23 25] (a7 26 (.ops [(aD 27 (.bad)),⟨none,none,.bad⟩]) .skip)) (X [H 28 6,(aD 29 (.conv .i64 (.t 28))),(aD 30 (.mc 131030 [(au 0),.nil,(au 0),.nil] 64 (.t 29) (.t 29))),H 7 30] (X [H 31 7,H 32 0,(aD 33 (.se 4 (.t 31) (.t 32))),H 8 33] (.seq (.block 0 (.loop  (.seq (X [H 34 8,H 35 7,cm 36 35,bB 37 .lss 34 36] (a7 37 .skip (.exit 0))) (.block 1 (.nK [H 38 8,H 39 7,H 40 8,(aD 41 (.ou 4 (.t 39) (some (.t 40)) none none)),H 42 7,H 43 8,(aD 44 (.ou 4 (.t 42) none (some (.t 43)) none)),(aD 45 (.se 4 (.t 41) (.t 44))),bB 46 .add 38 45,H 8 46] Gj))))) (X [H 47 7,H 4 47] .ret))))))))
def U2:bT:=cn 19 2 [.t 4] (X [bA 4 0] (.seq (X [H 6 0,cm 7 6,bA 8 0] (.block 0 (.loop  (X [bB 9 .lss 8 7] (.seq (a7 9 .skip (.exit 0)) (.seq (.block 1 (X [H 10 8,H 5 10] (X [H 11 1,H 12 0,H 13 5,b2 14 5 12 13,bw 15 5 14,(aD 16 (.jD (.t 11) [(.t 15)]))] (a7 16 (X [H 17 5,H 4 17] .ret) .skip)))) (.ops [bn 18 .add 8 1,H 8 18]))))))) (X [(aD 4 (.cQ (.c (.J (.int .i64 (-1))))))] .ret)))
def Gk:bT:=cn 19 2 [.t 4] (X [bA 4 0] (.seq (X [H 6 0,cm 7 6,bA 8 0] (.block 0 (.loop  (X [bB 9 .lss 8 7] (.seq (a7 9 .skip (.exit 0)) (.seq (.block 1 (X [H 10 8,H 5 10] (X [H 11 1,H 12 0,H 13 5,b2 14 4 12 13,bw 15 4 14,(aD 16 (.jD (.t 11) [(.t 15)]))] (a7 16 (X [H 17 5,H 4 17] .ret) .skip)))) (.ops [bn 18 .add 8 1,H 8 18]))))))) (X [(aD 4 (.cQ (.c (.J (.int .i64 (-1))))))] .ret)))
def U3:bT:=cn 8 1 [.t 2] (X [eM 2] (.seq (X [H 3 0,(aD 4 (.q4 false (.t 3)))] (a7 4 (X [eM 2] .ret) .skip)) (X [(aD 5 (.fc 147005 true [] 4 0 [])),H 6 0,(aD 7 (.app 147007 [(au 0),.nil,(au 0),.nil] 64 (.t 5) (.t 6))),H 2 7] .ret)))
def U4:bT:=cn 8 1 [.t 2] (X [eM 2] (.seq (X [H 3 0,(aD 4 (.q4 false (.t 3)))] (a7 4 (X [eM 2] .ret) .skip)) (X [(aD 5 (.fc 156005 true [] 1 0 [])),H 6 0,(aD 7 (.app 156007 [(au 0)] 8 (.t 5) (.t 6))),H 2 7] .ret)))
def KA:bT:=cn 19 2 [.t 4] (X [bA 4 0] (.seq (X [H 6 0,cm 7 6,bA 8 0] (.block 0 (.loop  (X [bB 9 .lss 8 7] (.seq (a7 9 .skip (.exit 0)) (.seq (.block 1 (X [H 10 8,H 5 10] (X [H 11 1,H 12 0,H 13 5,b2 14 1 12 13,aU 15 1 14,(aD 16 (.jD (.t 11) [(.t 15)]))] (a7 16 (X [H 17 5,H 4 17] .ret) .skip)))) (.ops [bn 18 .add 8 1,H 8 18]))))))) (X [(aD 4 (.cQ (.c (.J (.int .i64 (-1))))))] .ret)))
def KB:bT:=cn 32 3 [.t 6] (X [cH 6 false] (.seq (X [H 10 0,cm 11 10,H 12 1,cm 13 12,bB 14 .neq 11 13] (a7 14 (X [cH 6 false] .ret) .skip)) (.seq (X [H 15 0,cm 16 15,bA 17 0] (.block 0 (.loop  (X [bB 18 .lss 17 16] (.seq (a7 18 .skip (.exit 0)) (.seq (.block 1 (X [H 19 17,b2 20 4 15 17,bw 21 4 20,(aD 8 (.alloc 235008 [(au 0),.nil,(au 0),.nil])),H 7 19,bu 4 8 21] (X [H 22 1,H 23 7,b2 24 4 22 23,bw 25 4 24,(aD 9 (.alloc 235009 [(au 0),.nil,(au 0),.nil])),bu 4 9 25] (X [H 26 2,bw 27 4 8,bw 28 4 9,(aD 29 (.jD (.t 26) [(.t 27),(.t 28)])),fs 30 29] (a7 30 (X [cH 6 false] .ret) .skip))))) (.ops [bn 31 .add 17 1,H 17 31]))))))) (X [cH 6 true] .ret))))
def U5:bT:=cn 9 2 [.t 4] (X [cH 4 false] (X [H 5 0,H 6 1,(cE 7 wF 5 6),bn 8 .geq 7 0,H 4 8] .ret))
def U6:bT:=cn 9 2 [.t 4] (X [cH 4 false] (X [H 5 0,H 6 1,(cE 7 Uk 5 6),bn 8 .geq 7 0,H 4 8] .ret))
def KC:bT:=cn 19 2 [.t 4] (X [bA 4 0] (.seq (X [H 6 0,cm 7 6,bA 8 0] (.block 0 (.loop  (X [bB 9 .lss 8 7] (.seq (a7 9 .skip (.exit 0)) (.seq (.block 1 (X [H 10 8,H 5 10] (X [H 11 1,H 12 0,H 13 5,b2 14 4 12 13,bw 15 4 14,(aD 16 (.jD (.t 11) [(.t 15)]))] (a7 16 (X [H 17 5,H 4 17] .ret) .skip)))) (.ops [bn 18 .add 8 1,H 8 18]))))))) (X [(aD 4 (.cQ (.c (.J (.int .i64 (-1))))))] .ret)))
def U7:bT:=cn 26 2 [.t 4] (X [cH 4 false] (.seq (X [H 6 0,cm 7 6,H 8 1,cm 9 8,bB 10 .neq 7 9] (a7 10 (X [cH 4 false] .ret) .skip)) (.seq (X [H 11 0,cm 12 11,bA 13 0] (.block 0 (.loop  (X [bB 14 .lss 13 12] (.seq (a7 14 .skip (.exit 0)) (.seq (.block 1 (X [H 15 13,H 5 15] (ga [H 16 0,H 17 5,b2 18 1 16 17,aU 19 1 18,H 20 1,H 21 5,b2 22 1 20 21,aU 23 1 22,bB 24 .neq 19 23] DI (a7 24 (X [cH 4 false] .ret) .skip)))) (.ops [bn 25 .add 13 1,H 13 25]))))))) (X [cH 4 true] .ret))))
def Ow:bT:=cn 61 1 [.t 2] (X [eM 2] (.seq (X [H 6 0,cm 7 6,bn 8 .lss 7 2] (a7 8 (X [H 9 0,H 2 9] (.ghost (.freeze 2) .ret)) .skip)) (.seq (X [bA 3 1] (.block 0 (.loop  (.seq (X [H 10 3,H 11 0,cm 12 11,bB 13 .lss 10 12] (a7 13 .skip (.exit 0))) (.seq (.block 1 (ga [H 16 0,H 17 3,b2 18 1 16 17,aU 19 1 18,H 20 0,H 21 3,bn 22 .sub 21 1,b2 23 1 20 22,aU 24 1 23,bB 25 .eql 19 24] Gj (a7 25 (X [H 26 0,H 27 3,(aD 28 (.ou 1 (.t 26) (some (.t 27)) none none)),H 4 28] (.seq (X [bA 5 1] (.block 2 (.loop  (.seq (X [H 29 5,H 30 4,cm 31 30,bB 32 .lss 29 31] (a7 32 .skip (.exit 2))) (.seq (.block 3 (ga [H 35 4,H 36 5,b2 37 1 35 36,aU 38 1 37,H 39 4,H 40 5,bn 41 .sub 40 1,b2 42 1 39 41,aU 43 1 42,bB 44 .neq 38 43] Gj (a7 44 (X [H 45 0,H 46 3,H 47 4,H 48 5,b2 49 1 47 48,aU 50 1 49,b2 51 1 45 46,bu 1 51 50] (.ops [H 52 3,bn 53 .add 52 1,H 3 53])) .skip))) (.ops [H 33 5,bn 34 .add 33 1,H 5 34])))))) (X [H 54 0,H 55 3,(aD 56 (.ou 1 (.t 54) (some (.t 55)) none none)),⟨none,none,.sg [(au 0)] (.t 56)⟩] (X [H 57 0,H 58 3,(aD 59 (.ou 1 (.t 57) none (some (.t 58)) none)),H 2 59] (.ghost (.freeze 2) .ret))))) .skip))) (.ops [H 14 3,bn 15 .add 14 1,H 3 15])))))) (X [H 60 0,H 2 60] (.ghost (.freeze 2) .ret)))))
def Ox:bT:=cn 42 2 [.t 4] (X [eM 4] (X [H 8 0,H 9 1,(cE 10 wF 8 9),H 5 10] (.seq (X [H 11 5,(aD 12 (.bin .eql (.t 11) (.c (.J (.int .i64 (-1))))))] (a7 12 (X [H 13 0,H 4 13] .ret) .skip)) (.seq (X [H 14 5,bn 15 .add 14 1,H 6 15] (.block 0 (.loop  (.seq (X [H 16 6,H 17 0,cm 18 17,bB 19 .lss 16 18] (a7 19 .skip (.exit 0))) (.seq (.block 1 (X [H 22 0,H 23 6,b2 24 1 22 23,aU 25 1 24,H 7 25] (X [H 26 1,H 27 7,(aD 28 (.jD (.t 26) [(.t 27)])),fs 29 28] (a7 29 (X [H 30 0,H 31 5,H 32 7,b2 33 1 30 31,bu 1 33 32] (.ops [H 34 5,bn 35 .add 34 1,H 5 35])) .skip)))) (.ops [H 20 6,bn 21 .add 20 1,H 6 21])))))) (X [H 36 0,H 37 5,(aD 38 (.ou 1 (.t 36) (some (.t 37)) none none)),⟨none,none,.sg [(au 0)] (.t 38)⟩] (X [H 39 0,H 40 5,(aD 41 (.ou 1 (.t 39) none (some (.t 40)) none)),H 4 41] .ret))))))
def U8:bT:=cn 9 2 [.t 4] (X [cH 4 false] (X [H 5 0,H 6 1,(cE 7 Uy 5 6),bn 8 .geq 7 0,H 4 8] .ret))
def U9:bT:=cn 19 2 [.t 4] (X [bA 4 0] (.seq (X [H 6 0,cm 7 6,bA 8 0] (.block 0 (.loop  (X [bB 9 .lss 8 7] (.seq (a7 9 .skip (.exit 0)) (.seq (.block 1 (X [H 10 8,H 5 10] (X [H 11 1,H 12 0,H 13 5,b2 14 1 12 13,aU 15 1 14,bB 16 .eql 11 15] (a7 16 (X [H 17 5,H 4 17] .ret) .skip)))) (.ops [bn 18 .add 8 1,H 8 18]))))))) (X [(aD 4 (.cQ (.c (.J (.int .i64 (-1))))))] .ret)))
theorem Va (l:List Int)(n:Nat)(aK:n<D l)(h:l[n]=0):fK (l.take (n+1))=fK (l.take n):=by
 rw[g1,bx aK,h];exact aep _
theorem Vb (l:List Int)(n:Nat)(aK:n<D l)(h:l[n]≠0):fK (l.take (n+1))=l.take (n+1):=by
 rw[g1,bx aK];exact aeq _ h
abbrev Gl:List Int->List Data:=λ(l:List Int)=>[.Y (l.map ag)]
def zE:=cp Gl λ(l:List Int)=>cV (D l<=1000000) (.same (.Y ((fK l).map ag)))
theorem Oy:∀a b,Gl a=Gl b->a=b:=by
  intro dY ai h;exact map_inj fj _ _ (by simpa using h)
@[go_sem] theorem Oz (l:List Int)(G:(D l)<=1000000):zE [.Y (l.map ag)]=some (.same (.Y ((fK l).map ag))):=(cA Oy l).trans (cY G _)
theorem aq1 (T:bh)  (l:List Int) (G:(D l)<=1000000):WP T DJ (.same (.Y ((fK l).map ag))) [.J (.Y (l.map ag))]:=by
 refine cB ?_;simp only[DJ];have tl:((l.map ag).all λe=>D e==1)=true:=by simp[ag]
 refine aX ?_;repeat' (intro h<;>simp only[h,go_sem,go_sem_proc,ak]<;>try refine aw ?_ ?_)
 refine dv [0] [] (λ(n:Nat) tm mem=>n<=D l/\fK l=fK (l.take n)/\tm 3=.J (.int .i64 n)) (λn=>n) (D l) (by refine⟨bW _,by simp,by simp[go_sem]⟩) ?_;intro vs ms aT aR;simp only[go_sem,go_sem_proc,ak] at aT aR;subst aT aR;rintro n tm mem Q-⟨aK,bD,af⟩;simp only[go_sem,go_sem_proc,bb] at Q;have al:=Q;rcases n with _|n
 ·refine aX ?_;repeat' (intro h<;>simp only[h,go_sem,go_sem_proc,al,af,tl,lr,lU,show ¬ ((0:Int)>0) by omega,decide_false,ak,show (0:Int).toNat=0 from rfl,show (0:Int)<=0 by omega,fg,nd,c1]<;>try refine aw ?_ ?_)
  rw[bD];simp[fK]
 ·have hw:IntKind.i64.wrap (((n+1:Nat):Int)-1)=(n:Int):=by rw[fi _];omega
  have O:l[n]?=some l[n]:=bx (by omega);have hZ:((n+1:Nat):Int)>0:=by omega
  have hle:n+1<=D l:=aK
  by_cases aS:l[n]=0
  ·refine aX ?_;repeat' (intro h<;>simp only[h,go_sem,go_sem_proc,al,af,hw,O,aS,hZ,ak,bq,decide_true,ag,beq_self_eq_true,bb]<;>try refine aw ?_ ?_)
   exact⟨n,by omega,by omega,by rw[bD,Va l n (by omega) aS],rfl⟩
  ·have qC:(l[n]==0)=false:=by simpa using aS
   refine aX ?_;repeat' (intro h<;>simp only[h,go_sem,go_sem_proc,al,af,hw,O,qC,hZ,tl,hle,ag,ak,bq,decide_true,bb,show (0:Int)<=((n+1:Nat):Int) by omega,lu,fg]<;>try refine aw ?_ ?_)
   rw[bD,Vb l n (by omega) aS,List.map_take]
structure aeA where
 l:List Int
 k:Key
 g:Nat
def vg:List R->Mem->Option (R×Mem):=F9 (λ(a:aeA) args mem=>args=[.ref a.k a.g 1 0 (D a.l)]/\mem a.k=some (a.g,bf ag a.l)/\D a.l<=1000000) (λa mem=>(.ref a.k a.g 1 0 (fK a.l).length,mem))
theorem Vc {α:Type}{enc:α->List Data}{sz:Nat}(h:∀a,(enc a).length=sz)(M:∀a b,enc a=enc b->a=b):∀(l fr:List α),bf enc l=bf enc fr->0<sz->l=fr:=by
 intro l
 induction l with
 |nil =>
  intro fr e aS
  cases fr with
  |nil=>rfl
  |cons b r =>
   have:=congrArg D e;rw[oE h,oE h] at this;simp only[lq,hV,Dq,qh] at this;omega
 |cons a r ax =>
  intro fr e aS
  cases fr with
  |nil =>
   have:=congrArg D e;rw[oE h,oE h] at this;simp only[lq,hV,Dq,qh] at this;omega
  |cons b Fw =>
   rw[x8,x8] at e;have aq:((enc a).map R.J).length=((enc b).map R.J).length:=by simp[h]
   obtain⟨aA,aC⟩:=Gm e aq;have bZ:=map_inj (λx y (e:R.J x=R.J y)=>by cases e;rfl) _ _ aA;rw[M _ _ bZ,ax Fw aC aS]
theorem Vd (l:List Int)(k g:Nat)(mem:Mem)(h:mem k=some (g,bf ag l))(aq:(D l)<=1000000):vg [.ref k g 1 0 (D l)] mem=some (.ref k g 1 0 (fK l).length,mem):=by
 unfold vg;refine aeo (a:=(⟨l,k,g⟩:aeA)) ?_ ⟨rfl,h,aq⟩;rintro a b args mem ⟨F,I,_⟩ ⟨af,aM,_⟩;rw[F] at af;simp only[bb,R.ref.injEq,true_and,and_true] at af;obtain⟨KD,OA,_⟩:=af;rw[KD,aM] at I;simp only[cj,fp] at I;have:=Vc hr fj _ _ I.2 (by omega);rw[KD,OA,this]
@[go_sem] theorem aJg (d:Data)(mem:Mem):vg [.J d] mem=none:=by
 cases O:vg [.J d] mem with
 |none=>rfl
 |some x =>
  unfold vg at O;obtain⟨a,⟨h,_⟩,_⟩:=TP O
  cases h
theorem aq2 (T:bh)(l:List Int)(k g:Nat)(mem:Mem)(hm:mem k=some (g,bf ag l))(G:(D l)<=1000000):
  wp T DJ.body (F8 DJ.res (.ref k g 1 0 (fK l).length) mem) ⟨lf [.ref k g 1 0 (D l)],mem⟩:=by
 refine tn ?_;simp only[DJ];refine aX ?_;repeat' (intro h<;>simp only[h,go_sem,go_sem_proc,hm]<;>try refine aw ?_ ?_)
 refine dv [0] [] (λ(n:Nat) tm mem'=>n<=D l/\fK l=fK (l.take n)/\tm 3=.J (.int .i64 n)/\mem'=mem) (λn=>n) (D l) (by refine⟨bW _,by simp,by simp[go_sem],rfl⟩) ?_;intro vs ms aT aR;simp only[go_sem,go_sem_proc] at aT aR;subst aT aR;rintro n tm _ Q-⟨aK,bD,af,rfl⟩;simp only[go_sem,go_sem_proc,bb] at Q;have al:=Q;rcases n with _|n
 ·refine aX ?_;repeat' (intro h<;>simp only[h,go_sem,go_sem_proc,al,af,hm,lr,lU,show ¬ ((0:Int)>0) by omega,decide_false,show (0:Int).toNat=0 from rfl,show (0:Int)<=0 by omega,fg]<;>try refine aw ?_ ?_)
  rw[bD];simp[fK]
 ·have hw:IntKind.i64.wrap (((n+1:Nat):Int)-1)=(n:Int):=by rw[fi _];omega
  have O:l[n]?=some l[n]:=bx (by omega);have hZ:((n+1:Nat):Int)>0:=by omega
  have hle:n+1<=D l:=aK;have ay:n<D l:=aK;have xW:=TC hr O (f:=0) (n:=1) (by omega);have ew:=oE hr l;rw[cK] at ew;have aeB:n+1<=(bf ag l).length:=by omega
  have aeC:gq 1 (gI n (bf ag l))=[.J (.int .i64 l[n])]:=by
   unfold cut at xW;rw[cK,nQ,ad (by omega)] at xW
   simpa [ag] using xW
  by_cases aS:l[n]=0
  ·refine aX ?_;repeat' (intro h<;>simp only[h,go_sem,go_sem_proc,al,af,hm,hw,ay,aeB,aeC,aS,hZ,decide_true,cK,beq_self_eq_true]<;>try refine aw ?_ ?_)
   exact⟨n,by omega,by omega,by rw[bD,Va l n (by omega) aS],rfl⟩
  ·have qC:(l[n]==0)=false:=by simpa using aS
   refine aX ?_;repeat' (intro h<;>simp only[h,go_sem,go_sem_proc,al,af,hm,hw,ay,aeB,aeC,qC,hZ,hle,decide_true,cK,show (0:Int)<=((n+1:Nat):Int) by omega,lu,fg,Nat.sub_zero]<;>try refine aw ?_ ?_)
   rw[bD,Vb l n (by omega) aS];simp;omega
abbrev wJ:Int->List Data:=λ(n:Int)=>[.int .i64 n]
def Ve:=cp wJ λ(n:Int)=>some (.same (.bool false))
theorem zF:∀a b,wJ a=wJ b->a=b:=by
  intro hC ie h;simp only[bb,Data.int.injEq,Data.agg.injEq,Data.Y.injEq,Data.bool.injEq,Data.str.injEq,Data.ptr.injEq,Data.cI.injEq,fp,true_and,and_true] at h ⊢
  first|exact h|simpa [ye,and_assoc] using h|grind
@[go_sem] theorem aJh (n:Int):Ve [.int .i64 n]=some (.same (.bool false)):=cA zF n
theorem aq3 (T:bh)  (n:Int):WP T UY (.same (.bool false)) [.J (.int .i64 n)]:=by
 refine cB ?_;simp only[UY];refine aX ?_;repeat' (intro h<;>simp only[h,go_sem,go_sem_proc,beq_self_eq_true]<;>try refine aw ?_ ?_)
def hF (a b:Int):Int:=if decide (a<b)=true then -1 else if decide (a>b)=true then 1 else 0
abbrev Gn:Int×Int->List Data:=λ(a,b)=>[.int .i64 a,.int .i64 b]
def OB:=cp Gn λ(a,b)=>some (.same (.int .i64 (hF a b)))
theorem OC:∀a b,Gn a=Gn b->a=b:=by
  rintro⟨cU,df⟩ ⟨de,eD⟩ h;simp only[bb,Data.int.injEq,Data.agg.injEq,Data.Y.injEq,Data.bool.injEq,Data.str.injEq,Data.ptr.injEq,Data.cI.injEq,fp,true_and,and_true] at h ⊢
  first|exact h|simpa [ye,and_assoc] using h|grind
@[go_sem] theorem aJi (a:Int)(b:Int):OB [.int .i64 a,.int .i64 b]=some (.same (.int .i64 (hF a b))):=cA OC (a,b)
theorem aq4 (T:bh)(aq5:T Oj=aV Ve)(a:Int)(b:Int):WP T UW (.same (.int .i64 (hF a b))) [.J (.int .i64 a),.J (.int .i64 b)]:=by
 refine cB ?_;simp only[UW];refine aX ?_;repeat' (intro h<;>simp only[h,go_sem,go_sem_proc,aq5]<;>try refine aw ?_ ?_)
 all_goals simp only[hF, *,reduceIte,c8,dD,u3,sq,lR,pL,zu,gT,iQ,fz,kO,beq_self_eq_true,bne]
def zG:List Int->Int
 | []=>0
 |d::r=>if (d==0)=true then zG r else d
def Vf:=cp Gl λ(l:List Int)=>cV (D l<=1000000) (.same (.int .i64 (zG l)))
@[go_sem] theorem aq6 (l:List Int)(G:(D l)<=1000000):Vf [.Y (l.map ag)]=some (.same (.int .i64 (zG l))):=(cA Oy l).trans (cY G _)
theorem aq7 (T:bh)  (l:List Int) (G:(D l)<=1000000):WP T UX (.same (.int .i64 (zG l))) [.J (.Y (l.map ag))]:=by
 refine cB ?_;simp only[UX];simp only[go_sem,go_sem_proc,ak];repeat' (first|refine aw ?_ ?_|fail)<;>intro h<;>simp only[h,go_sem,go_sem_proc,ak]
 refine dv [3,6,7] [] (λi tm mem=>0<=i/\i<=(D l:Int)/\zG l=zG (l.drop i.toNat)/\tm 8=.J (.int .i64 i)) (λi=>(D l-i).toNat) 0 (by refine⟨by omega,by omega,by simp,by simp[go_sem]⟩) ?_;intro vs ms aT aR;simp only[go_sem,go_sem_proc] at aT aR;subst aT aR;rintro i tm mem Q-⟨pM,M,aF,b6⟩;simp only[go_sem,go_sem_proc,bb] at Q;obtain⟨af,bI,bH⟩:=Q;rcases dA (i<D l) with ay|b9
 ·obtain⟨x,O,aa,-⟩:=aed l i pM ay;simp only[go_sem,go_sem_proc,af,bI,bH,b6,O,ay,pM,ag,ak,bq,decide_true,bb];repeat' (first|refine aw ?_ ?_|fail)<;>intro h<;>simp only[h,go_sem,go_sem_proc,af,bI,bH,b6,O,ay,pM,ag,ak,bq,decide_true,bb]
  ·rw[aF,aa];simp[zG,h]
  ·exact⟨i+1,by omega,by omega,by omega,by rw[aF,aa];simp only[zG, *,reduceIte,c8,dD,u3,sq,lR,pL,zu,gT,iQ,fz,kO,beq_self_eq_true,bne],by rw[fi _]⟩
 ·have he:l.drop i.toNat=[]:=kP (by omega);simp only[go_sem,go_sem_proc,af,bI,bH,b6,b9,decide_false];repeat' (first|refine aw ?_ ?_|fail)<;>intro h<;>simp only[h,go_sem,go_sem_proc,af,bI,bH,b6,b9,decide_false]
  rw[aF,he];rfl
theorem KE (l:List Int):((l.map ag).all λe=>D e==1)=true:=by simp[ag]
def BD:=cp Gl λ(l:List Int)=>cV (D l<=1000000) (.own 1 (l.map ag))
@[go_sem] theorem aeD (l:List Int)(G:(D l)<=1000000):BD [.Y (l.map ag)]=some (.own 1 (l.map ag)):=(cA Oy l).trans (cY G _)
theorem aq8 (T:bh)  (l:List Int) (G:(D l)<=1000000):WP T U4 (.own 1 (l.map ag)) [.J (.Y (l.map ag))]:=by
 refine cB ?_;simp only[U4]
 have dL:mN 156005 0 1 0 8 (D l) ((l.map ag).flatten.map .J) (some (0,[]))=some (.ref 156005 1 1 0 (D l),some (156005,1,bf ag l)):=by
  have:=F6 hr u5 156005 0 8 [] l (by simp;omega) (by simp;omega)
  simpa [bf] using this
 have hlen:(bf ag l).length=D l:=by rw[oE hr];omega
 refine aX ?_;repeat' (intro h<;>simp only[h,go_sem,go_sem_proc,KE,dL,ak]<;>try refine aw ?_ ?_)
 rintro b ah
 cases b
 ·refine aX ?_;repeat' (intro h<;>simp only[h,go_sem,go_sem_proc,KE,dL,ak,rm,cK,hlen]<;>try refine aw ?_ ?_)
  rw[ad (by omega),dt (by omega)];unfold bf;rw[tC _ λd=>rfl];have:=x9 (sz:=1) (l.map ag) (by simp[ag]);rw[ak] at this;simp[this]
 ·cases l with
  |nil =>
       refine aX ?_;repeat' (intro h<;>simp only[h,go_sem,go_sem_proc,rm,c1]<;>try refine aw ?_ ?_)
  |cons x r=>simp at ah
abbrev Raw:=Int×List Int
def db (a:Raw):List Data:=[.int .i64 a.1,.Y (a.2.map ag)]
def nU (d:Int):Bool:=!decide (d<0) && !decide (d>1048575)
def dE (a:Raw):Bool:=a.2.all nU&&(if (a.2.length==0)=true then a.1==0 else ((a.1==1||a.1 == -1)&&decide (a.2.length<=60)&&(a.2.getLast? != some 0)))
abbrev BE:Int×(List Int)->List Data:=λ(s,l)=>[.agg [.int .i64 s,.Y (l.map ag)]]
def wK:=cp BE λ(s,l)=>cV (D l<=1000000) (.same (.bool (dE (s,l))))
theorem Gp:∀a b,BE a=BE b->a=b:=by
  rintro⟨s1,dY⟩ ⟨s2,ai⟩ h;simp only[bb,Data.agg.injEq,Data.int.injEq,Data.Y.injEq] at h;exact ed h.1.1.2 (map_inj fj _ _ h.1.2.1)
@[go_sem] theorem aJj (s:Int)(l:List Int)(G:(D l)<=1000000):wK [.agg [.int .i64 s,.Y (l.map ag)]]=some (.same (.bool (dE (s,l)))):=(cA Gp (s,l)).trans (cY G _)
theorem aq9 (T:bh)  (s:Int) (l:List Int) (G:(D l)<=1000000):WP T UE (.same (.bool (dE (s,l)))) [.J (.agg [.int .i64 s,.Y (l.map ag)])]:=by
 refine cB ?_;simp only[UE];refine aX ?_;repeat' (intro h<;>simp only[h,go_sem,go_sem_proc,ak]<;>try refine aw ?_ ?_)
 refine dv [1,3,10,11] [136001] (λi tm mem=>0<=i/\i<=(D l:Int)/\l.all nU=(l.drop i.toNat).all nU/\tm 12=.J (.int .i64 i)) (λi=>(D l-i).toNat) 0 (by refine⟨by omega,by omega,by simp,by simp[go_sem]⟩) ?_;intro vs ms aT aR;simp only[go_sem,go_sem_proc,ak] at aT aR;subst aT aR;rintro i tm mem Q hm ⟨pM,M,aF,ji⟩;simp only[go_sem,go_sem_proc,bb] at Q hm;obtain⟨F,af,gp,zH⟩:=Q;rcases dA (i<D l) with ay|b9
 ·obtain⟨x,O,aa,-⟩:=aed l i pM ay
  have ix:∀b,nU x=true->b=(l.drop (i+1).toNat).all nU->l.all nU=b:=by
   intro b F I;rw[aF,aa,FX,F,I,gT]
  have KF:nU x=false->dE (s,l)=false:=by
   intro F;unfold dE;rw[aF,aa,FX,F]
   rfl
  refine aX ?_;repeat' (intro h<;>simp only[h,go_sem,go_sem_proc,F,af,gp,zH,ji,hm,O,ay,pM,ag,ak,bq,decide_true,bb]<;>try refine aw ?_ ?_)
  ·rw[KF (by simp only[nU, *,reduceIte,c8,dD,u3,sq,lR,pL,zu,gT,iQ,fz,kO,beq_self_eq_true,bne])]
  ·exact⟨i+1,by omega,by omega,by omega,by refine ix _ ?_ rfl;simp only[nU, *,reduceIte,c8,dD,u3,sq,lR,pL,zu,gT,iQ,fz,kO,beq_self_eq_true,bne],by rw[fi _]⟩
  ·rw[KF (by simp only[nU, *,reduceIte,c8,dD,u3,sq,lR,pL,zu,gT,iQ,fz,kO,beq_self_eq_true,bne])]
 ·have he:l.drop i.toNat=[]:=kP (by omega);rw[he] at aF;have eZ:l.all nU=true:=by rw[aF];rfl
  rcases Bv l with rfl|⟨r,x,rfl⟩
  ·have ara:¬ i<(0:Int):=by simpa using b9
   refine aX ?_;repeat' (intro h<;>simp only[h,go_sem,go_sem_proc,F,af,gp,zH,ji,hm,ara,decide_false,lq,lr,lU,beq_self_eq_true]<;>try refine aw ?_ ?_)
   simp[dE]
  ·rw[Bw] at *;have bC:(((r++[x]).length:Int)==0)=false:=by simp;omega
   have hw:IntKind.i64.wrap (((r++[x]).length:Int)-1)=(D r:Int):=by
    have cq:(r++[x]).length=D r+1:=by simp
    rw[fi _];omega
   have bc:((r++[x]).map ag)[D r]?=some [.int .i64 x]:=by simp[ag]
   have ab:dE (s,r++[x])=((s==1||s == -1)&&decide (((r++[x]).length:Int)<=60)&&(x != 0)):=by
    unfold dE;rw[eZ];simp only[List.getLast?_append,List.getLast?_singleton];simp;have aA:decide (D r<=59)=decide ((D r:Int)+1<=60):=decide_eq_decide.2 (by omega);have aC:(some x != some (0:Int))=(x != 0):=by simp[bne]
    rw[aA,aC]
   rw[ab];refine aX ?_;repeat' (intro h<;>simp only[h,go_sem,go_sem_proc,F,af,gp,zH,ji,hm,b9,bC,hw,bc,decide_false,ak]<;>try refine aw ?_ ?_)
   all_goals simp only[*,reduceIte,c8,dD,u3,sq,lR,pL,zu,gT,iQ,fz,kO,beq_self_eq_true,bne]
def kh (s:Int)(l:List Int):Raw:=if (((fK l).length:Int)==0)=true then (0,[]) else (s,fK l)
abbrev OD:Int×(List Int)->List Data:=λ(s,l)=>[.int .i64 s,.Y (l.map ag)]
def BF:=cp OD λ(s,l)=>cV (D l<=1000000) (.same (.agg (db (kh s l))))
theorem aeE:∀a b,OD a=OD b->a=b:=by
  rintro⟨s1,dY⟩ ⟨s2,ai⟩ h;simp only[bb,Data.int.injEq,Data.Y.injEq] at h;exact ed h.1.2 (map_inj fj _ _ h.2.1)
@[go_sem] theorem aJk (s:Int)(l:List Int)(G:(D l)<=1000000):BF [.int .i64 s,.Y (l.map ag)]=some (.same (.agg (db (kh s l)))):=(cA aeE (s,l)).trans (cY G _)
theorem arb (T:bh)(eI:T qB=zw zE vg)(s:Int)(l:List Int)(G:(D l)<=1000000):WP T UN (.same (.agg (db (kh s l)))) [.J (.int .i64 s),.J (.Y (l.map ag))]:=by
 refine cB ?_;simp only[UN];refine aX ?_;repeat' (intro h<;>simp only[h,go_sem,go_sem_proc,eI,G,ak]<;>try refine aw ?_ ?_)
 all_goals simp only[kh,db,c1, *,reduceIte,c8,dD,u3,sq,lR,pL,zu,gT,iQ,fz,kO,beq_self_eq_true,bne]
theorem lv (l:List Int)(i:Nat)(h:i<D l):bg (l.take (i+1))=bg (l.take i)+1048576^i*l[i]:=by
 rw[g1,bx h,Dt,fR,oA (by omega)];simp[bg]
theorem zI {l:List Int}(h:eU l)(i:Nat):eU (l.take i):=λd aa=>h d (FE aa)
theorem aeF {l:List Int}(i:Nat)(M:i<D l):eU (l.take (i+1))↔eU (l.take i)/\(0<=l[i]/\l[i]<1048576):=by
 rw[g1,bx M,Ds];simp[Dr,eU]
theorem lx {l:List Int}(h:eU l)(i:Nat)(M:i<D l):0<=l[i]/\l[i]<1048576:=h _ (List.getElem_mem M)
theorem DK (o:List Int)(i:Nat)(d:Int):(o.set i d).take i=o.take i:=by
 rw[List.take_set,List.set_eq_of_length_le];rw[fR];omega
theorem qD (o:List Int):(bf ag o).length=D o:=by rw[oE hr];omega
theorem KG (o:List Int)(i:Nat)(h:i<D o):gq 1 (gI i (bf ag o))=[.J (.int .i64 o[i])]:=by
 have xW:=TC hr (bx h) (f:=0) (n:=1) (by omega);unfold cut at xW;have:=qD o;rw[cK,nQ,ad (by omega)] at xW
 simpa [ag] using xW
theorem yf (o:List Int)(i:Nat)(d:Int)(h:i<D o):gq i (bf ag o)++[.J (.int .i64 d)]++gI (i+1) (bf ag o)=bf ag (o.set i d):=by
 have:=TD hr h d;unfold kM at this
 simpa [ag] using this
theorem Gq (n:Nat):(dC n [R.J (.int .i64 0)]).flatten=bf ag (dC n 0):=by
 induction n with
 |zero=>rfl
 |succ n ax=>rw[pG,pG,jC,x8,ax];rfl
theorem Gr (n:Nat)(h:n<=1000000000):n<=maxLen:=eP h (by decide)
theorem aeG (l:List Int):(fK l).length<=D l:=by
 induction l with
 |nil=>simp[fK]
 |cons d r ax=>unfold fK;split<;>(try split)<;>simp<;>omega
theorem arc (l:List Int):l.take (fK l).length=fK l:=by
 induction l with
 |nil=>simp[fK]
 |cons d r ax =>
  unfold fK
  split
  ·split<;>simp
  ·simp[ax]
theorem ard (l:List Int):∀n:Nat,(bf ag l).take n=bf ag (l.take n):=by
 induction l with
 |nil=>intro n;simp[bf]
 |cons d r ax=>intro n;cases n with
  |zero=>simp[bf]
  |succ n=>rw[x8,wB,x8,<-ax];rfl
theorem aeH {mem:Mem}{k g n:Nat}{o:List Int}(hm:mem k=some (g,bf ag o))(aK:n<=D o):rm 1 mem (.ref k g 1 0 n)=some ((o.take n).map ag):=by
 unfold rm;dsimp only;rw[hm];simp only[and_self,if_true,cK];rw[qD,ad ⟨trivial,aK⟩,ard];unfold bf;rw[tC _ λd=>rfl];have:=x9 (sz:=1) ((o.take n).map ag) (by intro e he;rw[dS] at he;obtain⟨x,-,rfl⟩:=he;rfl);rw[ak,fR,oA aK] at this;simp only[ll,this]
theorem Vg {mem:Mem}{k g:Nat}{o:List Int}{n:Nat}(hm:mem k=some (g,bf ag o))(aa:eU o)(hv:bg o=n):rm 1 mem (.ref k g 1 0 (fK o).length)=some ((aJ n).map ag):=by
 rw[aeH hm (aeG o),arc,zz aa,hv]
 rfl
def b1 (n:Nat):Data:=.Y ((aJ n).map ag)
theorem aeI {x y:Nat}(h:(aJ x).length<(aJ y).length):x<y:=by
 have F:=(gG (n:=x) (k:=(aJ x).length)).1 (bW _);have I:=mt (gG (n:=y) (k:=(aJ x).length)).2 (by omega);omega
theorem aeJ {a b:List Int}(aN:eU a)(ah:eU b)(aq:(D a)=D b)(i:Nat)(M:i<D a)(aa:a.drop (i+1)=b.drop (i+1))(h:a[i]<b[i]):bg a<bg b:=by
 rw[Kf a (i+1),Kf b (i+1),aa,aq,lv a i M,lv b i (by omega)];have F:=zy (zI aN i);have I:=o8 (zI ah i);rw[fR,oA (by omega)] at F;generalize (1048576:Int)^i=p at *
 have af:p*a[i]+p<=p*b[i]:=by
  have:p*(a[i]+1)<=p*b[i]:=zJ (by omega) (by have:=o8 (zI aN i);omega);rw[ij,vh] at this;exact this
 omega
abbrev vi:Nat×Nat->List Data:=λ(x,y)=>[b1 x,b1 y]
def KH:=cp vi λ(x,y)=>cV ((aJ x).length<=1000000/\(aJ y).length<=1000000) (.same (.int .i64 (hF x y)))
theorem yg:∀a b,vi a=vi b->a=b:=by
  rintro⟨a8,tI⟩ ⟨bV,tJ⟩ h;simp only[bb,b1,Data.Y.injEq] at h;exact ed (Ke (map_inj fj _ _ h.1)) (Ke (map_inj fj _ _ h.2.1))
@[go_sem] theorem Vh (x:Nat)(y:Nat)(G:(aJ x).length<=1000000/\(aJ y).length<=1000000):KH [b1 x,b1 y]=some (.same (.int .i64 (hF x y))):=(cA yg (x,y)).trans (cY G _)
theorem arf (T:bh)(nV:T Gd=aV OB)(x:Nat)(y:Nat)(G:(aJ x).length<=1000000/\(aJ y).length<=1000000):WP T UT (.same (.int .i64 (hF x y))) [.J (b1 x),.J (b1 y)]:=by
 refine cB ?_;simp only[UT];obtain⟨O,ar⟩:=G;have tK:=mT x;have ry:=mT y;have wL:=lS x;have DL:=lS y;have ad4:=@aeI x y;have kz:=@aeI y x
 by_cases aq:(aJ x).length=(aJ y).length
 ·generalize aN:aJ x=a at *;generalize ah:aJ y=b at *;have OE:((D a:Int)==(D b:Int))=true:=by simp[aq]
  simp only[go_sem,go_sem_proc,nV,b1,aN,ah,OE,ak];refine dv [0,1] [] (λ(n:Nat) tm mem=>n<=D a/\a.drop n=b.drop n/\tm 5=.J (.int .i64 ((n:Int)-1))) (λn=>n) (D a) (by refine⟨bW _,by rw[TI,aq,TI],?_⟩;simp only[e4,reduceIte];rw[fi _]) ?_;intro vs ms aT aR;simp only[go_sem,go_sem_proc,nV,b1,aN,ah] at aT aR;subst aT aR;rintro n tm mem Q-⟨aK,aa,bk⟩;simp only[go_sem,go_sem_proc,nV,bb] at Q;obtain⟨al,F⟩:=Q;rcases n with _|n
  ·have e:a=b:=by simpa using aa
   have mn:(x:Int)=y:=by rw[<-wL,<-DL,e]
   simp only[go_sem,go_sem_proc,nV,al,F,bk,lr,lU,show ¬ ((0:Int)-1>=0) by omega,decide_false]
   repeat' (first|refine aw ?_ ?_|fail)<;>intro h<;>simp only[h,go_sem,go_sem_proc,nV,al,F,bk,lr,lU,show ¬ ((0:Int)-1>=0) by omega,decide_false]
   rw[mn];simp[hF]
  ·have hw:((n+1:Nat):Int)-1=(n:Int):=by omega
   have mU:a[n]?=some a[n]:=bx (by omega);have nj:b[n]?=some b[n]:=bx (by omega)
   have ab:hF a[n] b[n]=hF x y\/a[n]=b[n]:=by
    by_cases F:a[n]<b[n]
    ·left
     have:=aeJ tK ry aq n aK aa F;simp only[hF];rw[ad (by simpa using F),ad (by simp;omega)]
    ·by_cases I:b[n]<a[n]
     ·left
      have:=aeJ ry tK aq.symm n (by omega) aa.symm I;simp only[hF];rw[ae (by simp;omega),ad (by simp;omega),ae (by simp;omega),ad (by simp;omega)]
     ·right;omega
   by_cases aS:a[n]=b[n]
   ·simp only[go_sem,go_sem_proc,nV,al,F,bk,hw,mU,nj,aS,ag,show (n:Int)>=0 by omega,decide_true,bq,beq_self_eq_true,bb]
    repeat' (first|refine aw ?_ ?_|fail)<;>intro h<;>simp only[h,go_sem,go_sem_proc,nV,al,F,bk,hw,mU,nj,aS,ag,show (n:Int)>=0 by omega,decide_true,bq,beq_self_eq_true,bb]
    exact⟨n,by omega,by omega,by rw[ia (by omega:n<D a),ia (by omega:n<D b),aS,aa],by rw[fi _]⟩
   ·have qC:(a[n]==b[n])=false:=by simpa using aS
    simp only[go_sem,go_sem_proc,nV,al,F,bk,hw,mU,nj,qC,ag,show (n:Int)>=0 by omega,decide_true,bq,bb]
    repeat' (first|refine aw ?_ ?_|fail)<;>intro h<;>simp only[h,go_sem,go_sem_proc,nV,al,F,bk,hw,mU,nj,qC,ag,show (n:Int)>=0 by omega,decide_true,bq,bb]
    rw[ab.resolve_right aS]
 ·have OE:(((aJ x).length:Int)==((aJ y).length:Int))=false:=by simp;omega
  have ab:hF (aJ x).length (aJ y).length=hF x y:=by
   simp only[hF];rcases h9 (aJ x).length (aJ y).length with h|h
   ·have:=ad4 h;rw[ad (by simp;omega),ad (by simp;omega)]
   ·have:=kz (by omega);rw[ae (by simp;omega),ad (by simp;omega),ae (by simp;omega),ad (by simp;omega)]
  simp only[go_sem,go_sem_proc,nV,b1,OE,ab,ak];repeat' (first|refine aw ?_ ?_|fail)<;>intro h<;>simp only[h,go_sem,go_sem_proc,nV,b1,OE,ab,ak]
theorem aeK (p wM uU sm c a b:Int)(h:wM+p*c=uU+sm):wM+p*((c+a+b)%1048576)+p*1048576*((c+a+b)/1048576)=uU+p*a+(sm+p*b):=by
 have F:=BG (c+a+b) 1048576
 have I:p*((c+a+b)%1048576)+p*1048576*((c+a+b)/1048576)=p*(c+a+b):=by
  rw[ik,<-ij,F]
 have af:p*(c+a+b)=p*c+p*a+p*b:=by rw[ij,ij]
 omega
def OG:=cp vi λ(x,y)=>cV ((aJ x).length<=100000/\(aJ y).length<=100000) (.own 1 ((aJ (x+y)).map ag))
@[go_sem] theorem aeL (x:Nat)(y:Nat)(G:(aJ x).length<=100000/\(aJ y).length<=100000):OG [b1 x,b1 y]=some (.own 1 ((aJ (x+y)).map ag)):=(cA yg (x,y)).trans (cY G _)
theorem arh (T:bh)(eI:T qB=zw zE vg)(x:Nat)(y:Nat)(G:(aJ x).length<=100000/\(aJ y).length<=100000):WP T UR (.own 1 ((aJ (x+y)).map ag)) [.J (b1 x),.J (b1 y)]:=by
 refine cB ?_;simp only[UR];obtain⟨O,ar⟩:=G;simp only[go_sem,go_sem_proc,eI,b1,ak];refine aqk (λst=>∃a b:List Int,eU a/\eU b/\D a<=100000/\D b<=D a/\bg a+bg b=x+y/\st.tm 0=.J (.Y (a.map ag))/\st.tm 1=.J (.Y (b.map ag))/\st.mem 172019=none) (λh=>?_) (λh=>?_) ?_
 ·simp only[go_sem,go_sem_proc,eI,b1];repeat' (first|refine aw ?_ ?_|fail)<;>intro h<;>simp only[h,go_sem,go_sem_proc,eI,b1]
  refine⟨aJ y,aJ x,mT y,mT x,ar,?_,by rw[lS,lS];omega,rfl,rfl⟩
  simp at h;omega
 ·simp only[go_sem,go_sem_proc,eI,b1];repeat' (first|refine aw ?_ ?_|fail)<;>intro h<;>simp only[h,go_sem,go_sem_proc,eI,b1]
  refine⟨aJ x,aJ y,mT x,mT y,O,?_,by rw[lS,lS],rfl,rfl⟩
  simp at h;omega
 rintro⟨tm,mem⟩ ⟨a,b,Vi,wN,iR,kD,hv,al,F,hm⟩;dsimp only at al F hm;have oJ:IntKind.i64.wrap ((D a:Int)+1)=((D a+1:Nat):Int):=by rw[fi _];rfl
 have kW:8*(D a+1)<=140737488355328:=by omega
 have eQ:(D a)+1<=maxLen:=Gr _ (by omega);simp only[go_sem,go_sem_proc,eI,al,F,hm,oJ,kW,eQ,Gq,ak]
 refine dv [0,1,5,20,21] [] (λ(i,c,o) tm mem=>i<=D a/\(o:List Int).length=D a+1/\eU (o.take i)/\0<=c/\c<=1/\bg (o.take i)+1048576^i*c=bg (a.take i)+bg (b.take i)/\tm 22=.J (.int .i64 (i:Nat))/\tm 6=.J (.int .i64 c)/\mem 172019=some (0,bf ag o))
  (λ(i,_)=>D a-i) (0,0,dC (D a+1) 0) (by refine⟨fg _,by simp,by simp[eU],by omega,by omega,by simp[bg],?_,?_,?_⟩<;>rfl) ?_
 intro vs ms aT aR;simp only[go_sem,go_sem_proc,eI,al,F,ak] at aT aR;subst aT aR;rintro⟨i,c,o⟩ tm mem Q-⟨M,bJ,iy,oK,gQ,jL,sy,bI,hm⟩;simp only[go_sem,go_sem_proc,eI,bb] at Q;obtain⟨al,F,bk,rz,Gs⟩:=Q;rcases dA (i<D a) with ay|b9
 ·have mU:a[i]?=some a[i]:=bx ay;have Bq:=lx Vi i ay;have fw:IntKind.i64.wrap ((i:Int)+1)=((i+1:Nat):Int):=by rw[fi _];rfl
  have tL:i<D o:=by omega
  have hN:i+1<=(bf ag o).length:=by rw[qD];omega
  have jw:IntKind.i64.wrap (c+a[i])=c+a[i]:=wrap64 _ (by omega) (by omega);have gF:=λd=>yf o i d tL
  have fin:∀bi:Int,0<=bi->bi<1048576->bg (b.take (i+1))=bg (b.take i)+1048576^i*bi ->
    ∃bo:Nat×Int×List Int,D a-bo.1<D a-i/\bo.1<=D a/\bo.2.2.length=D a+1/\eU (bo.2.2.take bo.1)/\0<=bo.2.1/\bo.2.1<=1/\bg (bo.2.2.take bo.1)+1048576^bo.1*bo.2.1=bg (a.take bo.1)+bg (b.take bo.1) /\
     R.J (Data.int .i64 ((i+1:Nat):Int))=R.J (Data.int .i64 (bo.1:Int))/\R.J (Data.int .i64 ((c+a[i]+bi)/1048576))=R.J (Data.int .i64 bo.2.1)/\some (0,bf ag (o.set i ((c+a[i]+bi)%1048576)))=some (0,bf ag bo.2.2):=by
   intro bi sA kW DM;refine⟨(i+1,(c+a[i]+bi)/1048576,o.set i ((c+a[i]+bi)%1048576)),by dsimp only;omega,by dsimp only;omega,by simp[bJ],?_,by dsimp only;omega,by dsimp only;omega,?_,rfl,rfl,rfl⟩
   ·dsimp only;rw[aeF _ (by simpa using tL),DK];refine⟨iy,?_⟩;simp only[zK];omega
   ·dsimp only;rw[lv _ _ (by simpa using tL),DK,lv a i ay,DM,ng];simp only[zK];exact aeK _ _ _ _ _ _ _ jL
  rcases dA (i<D b) with rA|Vj
  ·have nj:b[i]?=some b[i]:=bx rA;have vj:=lx wN i rA;have kY:IntKind.i64.wrap (c+a[i]+b[i])=c+a[i]+b[i]:=wrap64 _ (by omega) (by omega);have il:decide ((i:Int)<(D b:Int))=true:=dn;have jx:decide ((i:Int)<(D a:Int))=true:=dn;simp only[go_sem,go_sem_proc,eI,al,F,bk,rz,Gs,sy,bI,hm,mU,nj,fw,jw,kY,il,jx,ay,hN,gF,rv,oG,ag,cK,ak,bq,bb,show i<D a+1 by omega,show ¬ ((20:Int)<0) by omega]
   repeat' (first|refine aw ?_ ?_|fail)<;>intro h<;>simp only[h,go_sem,go_sem_proc,eI,al,F,bk,rz,Gs,sy,bI,hm,mU,nj,fw,jw,kY,il,jx,ay,hN,gF,rv,oG,ag,cK,ak,bq,bb,show i<D a+1 by omega,show ¬ ((20:Int)<0) by omega]
   exact fin b[i] vj.1 vj.2 (lv b i rA)
  ·have il:decide ((i:Int)<(D b:Int))=false:=dk;have jx:decide ((i:Int)<(D a:Int))=true:=dn;simp only[go_sem,go_sem_proc,eI,al,F,bk,rz,Gs,sy,bI,hm,mU,fw,jw,il,jx,ay,hN,gF,rv,oG,ag,cK,ak,bq,bb,show i<D a+1 by omega,show ¬ ((20:Int)<0) by omega]
   repeat' (first|refine aw ?_ ?_|fail)<;>intro h<;>simp only[h,go_sem,go_sem_proc,eI,al,F,bk,rz,Gs,sy,bI,hm,mU,fw,jw,il,jx,ay,hN,gF,rv,oG,ag,cK,ak,bq,bb,show i<D a+1 by omega,show ¬ ((20:Int)<0) by omega]
   have:=fin 0 (by omega) (by omega) (by rw[dt (by omega),dt (by omega)];simp)
   simpa using this
 ·obtain rfl:i=D a:=by omega
  have jx:decide ((D a:Int)<(D a:Int))=false:=dk;have tL:(D a)<D o:=by omega
  have hN:(D a)+1<=(bf ag o).length:=by rw[qD];omega
  have gF:=λd=>yf o (D a) d tL
  have Vk:eU (o.set (D a) c):=by
   have:o.set (D a) c=(o.set (D a) c).take (D a+1):=by rw[dt (by simp[bJ])]
   rw[this,aeF _ (by simpa using tL),DK];refine⟨iy,?_⟩;simp only[zK];omega
  have Vl:bg (o.set (D a) c)=x+y:=by
   have:o.set (D a) c=(o.set (D a) c).take (D a+1):=by rw[dt (by simp[bJ])]
   rw[this,lv _ _ (by simpa using tL),DK];simp only[zK];rw[jL,dt (bW _),dt kD,hv]
  have nf:=Vd (o.set (D a) c) 172019 0 (aZ mem 172019 0 (bf ag (o.set (D a) c))) (by simp[aZ]) (by simp[bJ];omega);rw[jf,bJ] at nf;have fH:=Vg (mem:=aZ mem 172019 0 (bf ag (o.set (D a) c))) (k:=172019) (g:=0) (n:=x+y) (by simp[aZ]) Vk (by rw[Vl];rfl);simp only[go_sem,go_sem_proc,eI,al,F,bk,rz,Gs,sy,bI,hm,jx,hN,gF,nf,fH,cK,ak,show (D a)<D a+1 by omega]
  repeat' (first|refine aw ?_ ?_|fail)<;>intro h<;>simp only[h,go_sem,go_sem_proc,eI,al,F,bk,rz,Gs,sy,bI,hm,jx,hN,gF,nf,fH,cK,ak,show (D a)<D a+1 by omega]
theorem aeM (n:Int):bits .and .i64 (n/1048576) 1=n/1048576%2:=by
 generalize n/1048576=m;have I:(1:Int)=((2^1-1:Nat):Int):=by decide
 have F:m%18446744073709551616%2=m%2:=by omega
 obtain⟨a,aN⟩:∃a:Nat,(a:Int)=m%18446744073709551616:=⟨(m%18446744073709551616).toNat,by omega⟩
 have e:BitVec.ofInt 64 m=BitVec.ofNat 64 a:=by
  apply BitVec.eq_of_toInt_eq;rw[BitVec.toInt_ofInt,BitVec.toInt_ofNat',aN];simp[aeu,aev]
 have aC:bits .and .i64 m 1=bits .and .i64 (a:Int) 1:=by
  simp only[bits];rw[show IntKind.i64.bits=64 from rfl,e,BitVec.ofInt_natCast]
 rw[aC,<-F,<-aN];have TQ:a<2^64:=by omega
 conv=>lhs;rw[I]
 simp only[bits,BitVec.ofInt_natCast,BitVec.toNat_and,BitVec.toNat_ofNat,show IntKind.i64.bits=64 from rfl,J9 TQ];rw[show (2^1-1:Nat)%2^64=2^1-1 by decide,aew,wrap64 _ (by omega) (by omega)]
 omega
theorem Vm (o:List Int)(j:Nat)(d:Int)(h:j<D o):bg (o.set j d)=bg o+1048576^j*(d-o[j]):=by
 induction o generalizing j with
 |nil=>simp at h
 |cons x r ax =>
  cases j with
  |zero=>simp[bg];omega
  |succ j =>
   simp only[List.set_cons_succ,tE,List.getElem_cons_succ,ng];rw[ax j (by simpa using h),ij,<-ik,nh 1048576 (1048576^j)];omega
theorem zL {o:List Int}(h:eU o)(j:Nat){d:Int}(aa:0<=d/\d<1048576):eU (o.set j d):=by
 intro x O;rcases List.mem_or_eq_of_mem_set O with F|F
 ·exact h x F
 ·rw[F];exact aa
theorem ari (p wM uU sm c a b:Int)(h:wM=uU-sm+p*c):wM+p*((a-c-b)%1048576)=uU+p*a-(sm+p*b)-p*1048576*((a-c-b)/1048576):=by
 have F:=BG (a-c-b) 1048576
 have I:p*((a-c-b)%1048576)+p*1048576*((a-c-b)/1048576)=p*(a-c-b):=by
  rw[ik,<-ij,F]
 have af:p*(a-c-b)=p*a-p*c-p*b:=by rw[Gt,Gt]
 omega
def OH:=cp vi λ(x,y)=>cV ((aJ x).length<=100000/\y<=x) (.own 1 ((aJ (x-y)).map ag))
@[go_sem] theorem Vn (x:Nat)(y:Nat)(G:(aJ x).length<=100000/\y<=x):OH [b1 x,b1 y]=some (.own 1 ((aJ (x-y)).map ag)):=(cA yg (x,y)).trans (cY G _)
theorem arj (T:bh)(fL:T va=aV BD)(eI:T qB=zw zE vg)(x:Nat)(y:Nat)(G:(aJ x).length<=100000/\y<=x):WP T US (.own 1 ((aJ (x-y)).map ag)) [.J (b1 x),.J (b1 y)]:=by
 refine cB ?_;simp only[US];obtain⟨O,aeN⟩:=G;have tK:=mT x;have ry:=mT y;have wL:=lS x;have DL:=lS y
 have kZ:(aJ y).length<=(aJ x).length:=by
  rw[gG];exact vk aeN (gG.1 (bW _))
 generalize aN:aJ x=a at *;generalize ah:aJ y=b at *;have iR:(D a)<=1000000:=by omega
 simp only[go_sem,go_sem_proc,fL,eI,b1,aN,ah,iR,ak]
 refine dv [1,5,12] [] (λ(i,c,o) tm mem=>i<=D a/\(o:List Int).length=D a/\eU o/\o.drop i=a.drop i/\(c=0\/c=1)/\bg (o.take i)=bg (a.take i)-bg (b.take i)+1048576^i*c/\tm 13=.J (.int .i64 (i:Nat))/\tm 6=.J (.int .i64 c)/\mem 173010=some (0,bf ag o))
  (λ(i,_)=>D a-i) (0,0,a) (by refine⟨fg _,rfl,tK,rfl,.inl rfl,by simp[bg],?_,?_,?_⟩<;>rfl) ?_
 intro vs ms aT aR;simp only[go_sem,go_sem_proc,fL,eI,b1,aN,ah,ak] at aT aR;subst aT aR;rintro⟨i,c,o⟩ tm mem Q-⟨M,bJ,iy,qE,ark,jL,nW,bI,hm⟩;simp only[go_sem,go_sem_proc,fL,eI,bb] at Q;obtain⟨F,bk,ji⟩:=Q;rcases dA (i<D a) with ay|b9
 ·have tL:i<D o:=by omega
  have arl:o[i]=a[i]:=by
   have F:=ia tL;have I:=ia ay;rw[qE,I] at F;exact (wO F).1.symm
  have Bq:=lx tK i ay;have fw:IntKind.i64.wrap ((i:Int)+1)=((i+1:Nat):Int):=by rw[fi _];rfl
  have hN:i+1<=(bf ag o).length:=by rw[qD];omega
  have iz:=KG o i tL;rw[arl] at iz;have jw:IntKind.i64.wrap (a[i]-c)=a[i]-c:=wrap64 _ (by omega) (by omega);have gF:=λd=>yf o i d tL
  have fin:∀bi:Int,0<=bi->bi<1048576->bg (b.take (i+1))=bg (b.take i)+1048576^i*bi ->
    ∃bo:Nat×Int×List Int,D a-bo.1<D a-i/\bo.1<=D a/\bo.2.2.length=D a/\eU bo.2.2/\bo.2.2.drop bo.1=a.drop bo.1/\(bo.2.1=0\/bo.2.1=1)/\bg (bo.2.2.take bo.1)=bg (a.take bo.1)-bg (b.take bo.1)+1048576^bo.1*bo.2.1 /\
     R.J (Data.int .i64 ((i+1:Nat):Int))=R.J (Data.int .i64 (bo.1:Int))/\R.J (Data.int .i64 ((a[i]-c-bi)/1048576%2))=R.J (Data.int .i64 bo.2.1)/\some (0,bf ag (o.set i ((a[i]-c-bi)%1048576)))=some (0,bf ag bo.2.2):=by
   intro bi sA kW DM;have aG:(a[i]-c-bi)/1048576=0\/(a[i]-c-bi)/1048576 = -1:=by omega
   refine⟨(i+1,(a[i]-c-bi)/1048576%2,o.set i ((a[i]-c-bi)%1048576)),by dsimp only;omega,by dsimp only;omega,by simp[bJ],zL iy i (by omega),?_,by dsimp only;omega,?_,rfl,rfl,rfl⟩
   ·dsimp only;rw[ts (by omega)];have F:=ia tL;have I:=ia ay;rw[qE,I] at F;exact (wO F).2.symm
   ·dsimp only;rw[lv _ _ (by simpa using tL),DK,lv a i ay,DM,ng];simp only[zK];rw[ari _ _ _ _ _ _ _ jL];rcases aG with e|e<;>rw[e]<;>simp
  have jx:decide ((i:Int)<(D a:Int))=true:=dn;rcases dA (i<D b) with rA|Vj
  ·have nj:b[i]?=some b[i]:=bx rA;have vj:=lx ry i rA;have kY:IntKind.i64.wrap (a[i]-c-b[i])=a[i]-c-b[i]:=wrap64 _ (by omega) (by omega);have il:decide ((i:Int)<(D b:Int))=true:=dn;refine aX ?_;repeat' (intro h<;>simp only[h,go_sem,go_sem_proc,fL,eI,F,bk,ji,nW,bI,hm,nj,fw,jw,kY,il,jx,ay,hN,iz,gF,rv,aeM,oG,ag,cK,ak,bq,bb,show ¬ ((20:Int)<0) by omega]<;>try refine aw ?_ ?_)
   exact fin b[i] vj.1 vj.2 (lv b i rA)
  ·have il:decide ((i:Int)<(D b:Int))=false:=dk;refine aX ?_;repeat' (intro h<;>simp only[h,go_sem,go_sem_proc,fL,eI,F,bk,ji,nW,bI,hm,fw,jw,il,jx,ay,hN,iz,gF,rv,aeM,oG,ag,cK,ak,bq,bb,show ¬ ((20:Int)<0) by omega]<;>try refine aw ?_ ?_)
   have:=fin 0 (by omega) (by omega) (by rw[dt (by omega),dt (by omega)];simp)
   simpa using this
 ·obtain rfl:i=D a:=by omega
  have jx:decide ((D a:Int)<(D a:Int))=false:=dk;rw[dt (by omega),dt (by omega),dt (by omega),wL,DL] at jL
  have Vl:bg o=((x-y:Nat):Int):=by
   have F:=zy iy;rw[bJ] at F;rcases ark with rfl|rfl
   ·rw[jL];omega
   ·omega
  have nf:=Vd o 173010 0 mem hm (by omega);rw[bJ] at nf;have fH:=Vg hm iy Vl;refine aX ?_;repeat' (intro h<;>simp only[h,go_sem,go_sem_proc,fL,eI,F,bk,ji,nW,bI,hm,jx,nf,fH,ak]<;>try refine aw ?_ ?_)
theorem aeO (p wM V c x y zM:Int)(h:wM+p*c=V):wM+p*((zM+x*y+c)%1048576-zM)+p*1048576*((zM+x*y+c)/1048576)=V+p*(x*y):=by
 have F:=BG (zM+x*y+c) 1048576
 have I:p*((zM+x*y+c)%1048576)+p*1048576*((zM+x*y+c)/1048576)=p*(zM+x*y+c):=by
  rw[ik,<-ij,F]
 have af:p*(zM+x*y+c)=p*zM+p*(x*y)+p*c:=by rw[ij,ij]
 rw[Gt];omega
theorem aeP {o x y c:Int}(bJ:0<=o/\o<1048576)(O:0<=x/\x<1048576)(ar:0<=y/\y<1048576)(G:0<=c/\c<1048576):
  0<=x*y/\x*y<=1099509530625/\0<=(o+x*y+c)/1048576/\(o+x*y+c)/1048576<1048576:=by
 have F:0<=x*y:=yh O.1 ar.1;have I:x*y<=1048575*1048575:=Vo (by omega) (by omega) ar.1 (by omega);omega
theorem aeQ {o:List Int}{n j:Nat}(h:o.drop n=dC (D o-n) 0)(aj:n<=j)(ay:j<D o):o[j]=0:=by
 have F:(o.drop n)[j-n]?=some o[j]:=by rw[kU,show n+(j-n)=j by omega,bx ay]
 rw[h,List.getElem?_replicate] at F
 split at F
 ·exact (mj F).symm
 ·cases F
theorem aeR {o:List Int}{n:Nat}{d:Int}(h:o.drop n=dC (D o-n) 0)(ay:n<D o):(o.set n d).drop (n+1)=dC ((o.set n d).length-(n+1)) 0:=by
 rw[ts (by omega),jf];have F:=ia ay;rw[h,show (D o)-n=(D o-(n+1))+1 by omega,pG] at F
 exact (wO F).2.symm
def OI:=cp vi λ(x,y)=>cV ((aJ x).length<=10000/\(aJ y).length<=10000) (.own 1 ((aJ (x*y)).map ag))
@[go_sem] theorem Vp (x:Nat)(y:Nat)(G:(aJ x).length<=10000/\(aJ y).length<=10000):OI [b1 x,b1 y]=some (.own 1 ((aJ (x*y)).map ag)):=(cA yg (x,y)).trans (cY G _)
theorem arn (T:bh)(eI:T qB=zw zE vg)(x:Nat)(y:Nat)(G:(aJ x).length<=10000/\(aJ y).length<=10000):WP T UQ (.own 1 ((aJ (x*y)).map ag)) [.J (b1 x),.J (b1 y)]:=by
 refine cB ?_;simp only[UQ];obtain⟨O,ar⟩:=G;have tK:=mT x;have ry:=mT y;have wL:=lS x;have DL:=lS y;generalize aN:aJ x=a at *;generalize ah:aJ y=b at *;have oJ:IntKind.i64.wrap ((D a:Int)+(D b:Int))=((D a+D b:Nat):Int):=by rw[fi _];rfl
 have kW:8*(D a+D b)<=140737488355328:=by omega
 have eQ:(D a)+D b<=maxLen:=Gr _ (by omega);simp only[go_sem,go_sem_proc,eI,b1,aN,ah,oJ,kW,eQ,Gq,ak]
 refine dv [1,5,18,19] [] (λ(i,o) tm mem=>i<=D a/\(o:List Int).length=D a+D b/\eU o/\o.drop (i+D b)=dC (D o-(i+D b)) 0/\bg o=bg (a.take i)*y/\tm 20=.J (.int .i64 (i:Nat))/\mem 161017=some (0,bf ag o))
  (λ(i,_)=>D a-i) (0,dC (D a+D b) 0) (by
   have aS:∀n,bg (dC n 0)=0:=by
    intro n
    induction n with
    |zero=>rfl
    |succ n ax=>rw[pG,tE,ax];rfl
   refine⟨fg _,by simp,λd aa=>by rw[Gu] at aa;omega,by simp,by rw[aS];simp[bg],?_,?_⟩<;>rfl) ?_
 intro vs ms aT aR;simp only[go_sem,go_sem_proc,eI,b1,aN,ah,oJ,ak] at aT aR;subst aT aR;rintro⟨i,o⟩ tm mem Q-⟨M,bJ,iy,sB,jL,rz,hm⟩;simp only[go_sem,go_sem_proc,eI,bb] at Q;obtain⟨F,bk,jP,wP⟩:=Q;rcases dA (i<D a) with ay|b9
 ·have mU:a[i]?=some a[i]:=bx ay;have Bq:=lx tK i ay;have tv:=lv a i ay;generalize a[i]=hO at *;have il:decide ((i:Int)<(D a:Int))=true:=dn;simp only[go_sem,go_sem_proc,eI,F,bk,jP,wP,rz,mU,il,ag,ak,bq,bb]
  refine dv [1,5,6,7,18,19,20,25,26] [] (λ((k,c,o):Nat×Int×List Int) tm mem=>k<=D b/\D o=D a+D b/\eU o/\o.drop (i+D b)=dC (D o-(i+D b)) 0/\0<=c/\c<1048576/\bg o+1048576^(i+k)*c=bg (a.take i)*y+1048576^i*(hO*bg (b.take k)) /\
    tm 27=.J (.int .i64 (k:Nat))/\tm 8=.J (.int .i64 c)/\mem 161017=some (0,bf ag o))
   (λ(k,_)=>D b-k) (0,0,o) (by refine⟨fg _,bJ,iy,sB,by omega,by omega,by simp[bg,jL],?_,?_,hm⟩<;>rfl) ?_
  intro vs ms aT aR;simp only[go_sem,go_sem_proc,eI,F,bk,jP,wP,rz,ag,ak] at aT aR;subst aT aR;rintro⟨k,c,o⟩ tm mem Q-⟨qw,bJ,iy,sB,oK,gQ,jL,aeS,b6,hm⟩;simp only[go_sem,go_sem_proc,eI,bb] at Q;obtain⟨F,bk,bI,bH,jP,wP,rz,aeT,aeU⟩:=Q;rcases dA (k<D b) with KI|KI
  ·have nj:b[k]?=some b[k]:=bx KI;have Gv:=lx ry k KI;have pN:i+k<D o:=by omega
   have Vq:=lx iy (i+k) pN;obtain⟨dx,cM,nX,qF⟩:=aeP Vq Bq Gv ⟨oK,gQ⟩;have il:decide ((k:Int)<(D b:Int))=true:=dn;have fw:IntKind.i64.wrap ((k:Int)+1)=((k+1:Nat):Int):=by rw[fi _];rfl
   have jw:IntKind.i64.wrap ((i:Int)+(k:Int))=((i+k:Nat):Int):=by rw[fi _];rfl
   have kY:IntKind.i64.wrap (hO*b[k])=hO*b[k]:=wrap64 _ (by omega) (by omega);have zN:IntKind.i64.wrap (o[i+k]+hO*b[k])=o[i+k]+hO*b[k]:=wrap64 _ (by omega) (by omega);have vl:IntKind.i64.wrap (o[i+k]+hO*b[k]+c)=o[i+k]+hO*b[k]+c:=wrap64 _ (by omega) (by omega);have hN:i+k+1<=(bf ag o).length:=by rw[qD];omega
   have iz:=KG o (i+k) pN;have gF:=λd=>yf o (i+k) d pN;have ib:i+k<D a+D b:=by omega
   refine aX ?_;repeat' (intro h<;>simp only[h,go_sem,go_sem_proc,eI,F,bk,bI,bH,jP,wP,rz,aeT,aeU,aeS,b6,hm,nj,il,fw,jw,kY,zN,vl,ib,hN,iz,gF,rv,oG,ag,cK,ak,bq,bb,show ¬ ((20:Int)<0) by omega]<;>try refine aw ?_ ?_)
   refine⟨(k+1,(o[i+k]+hO*b[k]+c)/1048576,o.set (i+k) ((o[i+k]+hO*b[k]+c)%1048576)),by dsimp only;omega,by dsimp only;omega,by simp[bJ],zL iy _ (by omega),?_,nX,qF,?_,rfl,rfl,rfl⟩
   ·dsimp only;rw[ts (by omega),jf,sB]
   ·dsimp only;rw[Vm _ _ _ pN,lv b k KI,<-qn,ng,aeO _ _ _ _ _ _ _ jL];rw[ij (hO),ij (1048576^i),aeV]
    have:(1048576:Int)^i*(hO*(1048576^k*b[k]))=1048576^i*1048576^k*(hO*b[k]):=by
     rw[<-ik (hO),nh (hO) (1048576^k),ik (1048576^k),<-ik]
    omega
  ·obtain rfl:k=D b:=by omega
   have il:decide ((D b:Int)<(D b:Int))=false:=dk;have pN:i+D b<D o:=by omega
   have aS:=aeQ sB (bW _) pN;have fw:IntKind.i64.wrap ((i:Int)+1)=((i+1:Nat):Int):=by rw[fi _];rfl
   have jw:IntKind.i64.wrap ((i:Int)+(D b:Int))=((i+D b:Nat):Int):=by rw[fi _];rfl
   have kY:IntKind.i64.wrap (0+c)=c:=by rw[DN];exact wrap64 _ (by omega) (by omega)
   have hN:i+D b+1<=(bf ag o).length:=by rw[qD];omega
   have iz:=KG o (i+D b) pN;rw[aS] at iz;have gF:=λd=>yf o (i+D b) d pN;have ib:i+D b<D a+D b:=by omega
   refine aX ?_;repeat' (intro h<;>simp only[h,go_sem,go_sem_proc,eI,F,bk,bI,bH,jP,wP,rz,aeT,aeU,aeS,b6,hm,il,fw,jw,kY,ib,hN,iz,gF,ag,cK,ak]<;>try refine aw ?_ ?_)
   refine⟨(i+1,o.set (i+D b) c),by dsimp only;omega,by dsimp only;omega,by simp[bJ],zL iy _ ⟨oK,gQ⟩,?_,?_,rfl,rfl⟩
   ·dsimp only;have:=aeR (d:=c) sB pN;rwa [show i+D b+1=i+1+(D b) by omega] at this
   ·dsimp only;rw[Vm _ _ _ pN,aS,tv];rw[dt (bW _),DL] at jL;rw[KJ,jL,tM,ik]
 ·obtain rfl:i=D a:=by omega
  have il:decide ((D a:Int)<(D a:Int))=false:=dk;rw[dt (bW _),wL] at jL;have nf:=Vd o 161017 0 mem hm (by omega);rw[bJ] at nf;have fH:=Vg hm iy (n:=x*y) (by rw[jL];rfl);refine aX ?_;repeat' (intro h<;>simp only[h,go_sem,go_sem_proc,eI,F,bk,jP,wP,rz,hm,il,nf,fH,ak]<;>try refine aw ?_ ?_)
abbrev Vr:Nat×Int->List Data:=λ(x,d)=>[b1 x,.int .i64 d]
def Vs:=cp Vr λ(x,d)=>cV ((aJ x).length<=100000/\0<d/\d<1048576) (.same (.cI [b1 (x/d.toNat),.int .i64 (x%d.toNat:Nat)]))
theorem aro:∀a b,Vr a=Vr b->a=b:=by
  rintro⟨a8,d1⟩ ⟨bV,d2⟩ h;simp only[bb,b1,Data.Y.injEq,Data.int.injEq] at h;exact ed (Ke (map_inj fj _ _ h.1)) h.2.1.2
@[go_sem] theorem aeW (x:Nat)(d:Int)(G:(aJ x).length<=100000/\0<d/\d<1048576):Vs [b1 x,.int .i64 d]=some (.same (.cI [b1 (x/d.toNat),.int .i64 (x%d.toNat:Nat)])):=(cA aro (x,d)).trans (cY G _)
theorem arp (T:bh)(eI:T qB=zw zE vg)(x:Nat)(d:Int)(G:(aJ x).length<=100000/\0<d/\d<1048576):WP T UU (.same (.cI [b1 (x/d.toNat),.int .i64 (x%d.toNat:Nat)])) [.J (b1 x),.J (.int .i64 d)]:=by
 refine cB ?_;simp only[UU];obtain⟨O,BH,jQ⟩:=G;have tK:=mT x;have wL:=lS x;generalize aN:aJ x=a at *;have kW:8*D a<=140737488355328:=by omega
 have eQ:(D a)<=maxLen:=Gr _ (by omega);have ki:(d=0)=False:=by simp;omega
 simp only[go_sem,go_sem_proc,eI,b1,aN,kW,eQ,Gq,ak]
 refine dv [0,1,6] [] (λ((n,r,o):Nat×Int×List Int) tm mem=>n<=D a/\D o=D a/\eU o/\0<=r/\r<d/\bg (a.drop n)=d*bg (o.drop n)+r/\tm 8=.J (.int .i64 ((n:Nat)-1))/\tm 7=.J (.int .i64 r)/\mem 176011=some (0,bf ag o))
  (λ(n,_)=>n) (D a,0,dC (D a) 0) (by
   refine⟨bW _,by simp,λd aa=>by rw[Gu] at aa;omega,by omega,by omega,by simp[bg],?_,?_,?_⟩
   ·simp only[e4,reduceIte];rw[fi _]
   ·rfl
   ·rfl) ?_
 intro vs ms aT aR;simp only[go_sem,go_sem_proc,eI,b1,aN,ak] at aT aR;subst aT aR;rintro⟨n,r,o⟩ tm mem Q-⟨aK,bJ,iy,pO,Gw,hv,b6,bH,hm⟩;simp only[go_sem,go_sem_proc,eI,bb] at Q;obtain⟨al,F,bI⟩:=Q;rcases n with _|n
 ·have aG:bg o=(x/d.toNat:Nat)/\r=(x%d.toNat:Nat):=by
   rw[lQ,lQ,wL] at hv;have e:(d.toNat:Int)=d:=by omega
   constructor
   ·rw[aeX,e,hv,yi,aeY _ _ (by omega),Vt pO Gw];omega
   ·rw[aeZ,e,hv,yi,ae0,Vu pO Gw]
  have hq:=Oz o (by omega);rw[zz iy,aG.1] at hq;have fQ:R.ref 176011 0 1 0 (D a)=R.ref 176011 0 1 0 (D o):=by rw[bJ]
  rw[fQ] at bI;refine aX ?_;repeat' (intro h<;>simp only[h,go_sem,go_sem_proc,eI,al,F,bI,bH,b6,hm,hq,mS hr,lr,lU,show ¬ ((0:Int)-1>=0) by omega,decide_false,lu]<;>try refine aw ?_ ?_)
  all_goals rw[aG.2]
 ·have mU:a[n]?=some a[n]:=bx (by omega);have OJ:=lx tK n (by omega);have hw:((n+1:Nat):Int)-1=(n:Int):=by omega
  have gg:n<D o:=by omega
  have fw:IntKind.i64.wrap (r*2^min (Dv 20) 64)=r*1048576:=by
   rw[show min (Dv 20) 64=20 by decide]
   exact wrap64 _ (by omega) (by omega)
  have wQ:bits .or .i64 (r*1048576) a[n]=r*1048576+a[n]:=TR r a[n] pO (by omega) OJ;have mv:0<=(r*1048576+a[n])/d:=Vv (by omega) (by omega)
  have rB:(r*1048576+a[n])/d<1048576:=ae1 BH (by
   have:(r+1)*1048576<=d*1048576:=mV (by omega) (by omega);rw[nh 1048576 d];omega)
  have vm:(r*1048576+a[n]).tdiv d=(r*1048576+a[n])/d:=Gx (by omega);have DO:(r*1048576+a[n]).tmod d=(r*1048576+a[n])%d:=KK (by omega);have jw:IntKind.i64.wrap ((r*1048576+a[n])/d)=(r*1048576+a[n])/d:=wrap64 _ (by omega) (by omega);have hN:n+1<=(bf ag o).length:=by rw[qD];omega
  have gF:=λd=>yf o n d gg;have pI:n<D a:=by omega
  have kY:IntKind.i64.wrap ((n:Int)-1)=(n:Int)-1:=wrap64 _ (by omega) (by omega);refine aX ?_;repeat' (intro h<;>simp only[h,go_sem,go_sem_proc,eI,al,F,bI,bH,b6,hm,hw,mU,fw,wQ,vm,DO,jw,kY,ki,pI,hN,gF,show (n:Int)>=0 by omega,decide_true,ag,cK,ak,bq,bb,show ¬ ((20:Int)<0) by omega]<;>try refine aw ?_ ?_)
  refine⟨(n,(r*1048576+a[n])%d,o.set n ((r*1048576+a[n])/d)),by dsimp only;omega,by dsimp only;omega,by simp[bJ],zL iy n ⟨mv,rB⟩,Vw _ (by omega),Vx _ BH,?_,rfl,rfl,rfl⟩
  dsimp only;rw[ia (by omega:n<D a),ia (by simpa using gg:n<(o.set n ((r*1048576+a[n])/d)).length),tE,tE]
  simp only[zK];rw[ts (by omega),hv];have:=BG (r*1048576+a[n]) d;rw[ij,ij,Vy d 1048576];omega
def pad:Nat->Nat->List Int
 |0,_=>[]
 |n+1,x=>((x%1048576:Nat):Int)::pad n (x/1048576)
theorem arq (n x:Nat):(pad n x).length=n:=by
 induction n generalizing x with
 |zero=>rfl
 |succ n ax=>simp[pad,ax]
theorem ars (n x:Nat):eU (pad n x):=by
 induction n generalizing x with
 |zero=>intro d aa;cases aa
 |succ n ax =>
  unfold pad;rw[Dr];exact⟨by omega,ax _⟩
theorem ae2 {l:List Int}(h:eU l):l=pad (D l) (bg l).toNat:=by
 induction l with
 |nil=>rfl
 |cons d r ax =>
  rw[Dr] at h;have F:=o8 h.2;have I:=ax h.2;simp only[hV,pad,tE]
  congr 1
  ·omega
  ·rw[show (d+1048576*bg r).toNat/1048576=(bg r).toNat by omega]
   exact I
theorem art {n x:Nat}(h:x<1048576^n):bg (pad n x)=x:=by
 induction n generalizing x with
 |zero=>simp at h;subst h;rfl
 |succ n ax =>
  unfold pad;rw[tE,ax (by rw[aet (by omega)];rwa [wD] at h)];omega
theorem KL {pre u post:List Int}{i:Nat}(h:i<D u):gq 1 (gI (D pre+i) (bf ag (pre++u++post)))=[.J (.int .i64 u[i])]:=by
 rw[KG _ _ (by simp;omega)]
 congr 3
 simp[List.getElem_append,h]
theorem ae3 {pre u post:List Int}{i:Nat}(h:i<D u)(d:Int):gq (D pre+i) (bf ag (pre++u++post))++[.J (.int .i64 d)]++gI (D pre+i+1) (bf ag (pre++u++post))=bf ag (pre++u.set i d++post):=by
 rw[yf _ _ _ (by simp;omega)]
 congr 1
 rw[gU,List.set_append_right _ _ (by omega),F7,List.set_append_left _ _ h,gU]
theorem BI (mem:Mem)(k g c6:Nat)(a b:List R):aZ (aZ mem k g a) k c6 b=aZ mem k c6 b:=by
 funext j
 unfold aZ
 split<;>rfl
theorem aru {mem:Mem}{k g:Nat}{a:List R}(h:mem k=some (g,a)):aZ mem k g a=mem:=by
 funext j
 unfold aZ
 split
 ·rename_i e;rw[e,h]
 ·rfl
structure KM where
 pre:List Int
 u:List Int
 post:List Int
 V:Nat
 q:Int
 k:Key
 g:Nat
def leftOf (u:List Int)(V:Nat)(q:Int):Int:=if bg u-q*V<0 then bg u-q*V+V else bg u-q*V
def BJ (u:List Int)(V:Nat)(q:Int):Int:=if bg u-q*V<0 then q-1 else q
def BK (a:KM):List R:=bf ag (a.pre++pad (D a.u) (leftOf a.u a.V a.q).toNat++a.post)
def Vz (a:KM)(mem:Mem):Prop:=mem a.k=some (a.g,bf ag (a.pre++a.u++a.post))/\eU a.u/\(aJ a.V).length<=D a.u/\0<=a.q/\a.q<1048576/\0<=bg a.u-a.q*a.V+a.V/\D a.pre+D a.u<=100000
def KN:List R->Mem->Option (R×Mem):=F9 (λ(a:KM) args mem=>args=[.ref a.k a.g 1 (D a.pre) (D a.u),.J (b1 a.V),.J (.int .i64 a.q)]/\Vz a mem)
 (λa mem=>(.J (.int .i64 (BJ a.u a.V a.q)),aZ mem a.k a.g (BK a)))
theorem arv {a b:Nat}(h:b1 a=b1 b):a=b:=Ke (map_inj fj _ _ (by simpa [b1] using h))
theorem arw (a:KM)(mem:Mem)(h:Vz a mem):KN [.ref a.k a.g 1 (D a.pre) (D a.u),.J (b1 a.V),.J (.int .i64 a.q)] mem=some (.J (.int .i64 (BJ a.u a.V a.q)),aZ mem a.k a.g (BK a)):=by
 unfold KN;refine aeo (a:=a) ?_ ⟨rfl,h⟩;rintro a b args mem ⟨F,I,_⟩ ⟨af,aM,_⟩;rw[F] at af;simp only[bb,R.ref.injEq,R.J.injEq,Data.int.injEq,true_and,and_true] at af;obtain⟨⟨KD,OA,OK,ae4⟩,ae5,eq⟩:=af;have ae6:=arv ae5;clear ae5;obtain⟨pre,u,post,V,q,k,g⟩:=a;obtain⟨aJl,aJm,aJn,aJo,tN,k',c6⟩:=b;simp only at KD OA OK ae4 ae6 eq I aM;subst KD OA ae6 eq;rw[aM] at I;simp only[cj,fp,true_and] at I;have e:=Vc hr fj _ _ I (by omega);rw[gU,gU] at e;obtain⟨aA,aC⟩:=Gm e OK.symm;obtain⟨bZ,dq⟩:=Gm aC ae4.symm;subst aA bZ dq
 rfl
theorem arx (p wM uU sm c a b q:Int)(h:wM=uU-q*sm+p*c):wM+p*((a-c-q*b)%1048576)=uU+p*a-q*(sm+p*b)+p*1048576*(-((a-c-q*b)/1048576)):=by
 have F:=BG (a-c-q*b) 1048576
 have I:p*((a-c-q*b)%1048576)+p*1048576*((a-c-q*b)/1048576)=p*(a-c-q*b):=by
  rw[ik,<-ij,F]
 have af:p*(a-c-q*b)=p*a-p*c-p*(q*b):=by rw[Gt,Gt]
 have aM:q*(sm+p*b)=q*sm+p*(q*b):=by rw[ij,Vy]
 rw[Int.mul_neg];omega
theorem ae7 {a c q b:Int}(aN:0<=a/\a<1048576)(G:0<=c/\c<=1048576)(aG:0<=q/\q<1048576)(ah:0<=b/\b<1048576):
  0<=q*b/\q*b<=1099509530625/\0 <= -((a-c-q*b)/1048576) /\ -((a-c-q*b)/1048576)<=1048576:=by
 have F:0<=q*b:=yh aG.1 ah.1;have I:q*b<=1048575*1048575:=Vo (by omega) (by omega) ah.1 (by omega);omega
theorem ary (T:bh)(a:KM)(eF:Mem)(G:Vz a eF):
  wp T Ov.body (F8 Ov.res (.J (.int .i64 (BJ a.u a.V a.q))) (aZ eF a.k a.g (BK a))) ⟨lf [.ref a.k a.g 1 (D a.pre) (D a.u),.J (b1 a.V),.J (.int .i64 a.q)],eF⟩:=by
 obtain⟨pre,u,post,V,q,k,g⟩:=a;obtain⟨ml,vn,S5,mv,rB,nk,hlen⟩:=G;simp only at ml vn S5 mv rB nk hlen ⊢;have zO:=mT V;have J1:=lS V;have VA:=gG.1 S5;refine tn ?_;simp only[Ov];simp only[go_sem,go_sem_proc,b1];generalize ah:aJ V=v at *
 refine dv [0,1,2,13] [] (λ((i,c,w):Nat×Int×List Int) tm mem=>i<=D u/\D w=D u/\eU w/\w.drop i=u.drop i/\(0<=c/\c<=1048576)/\bg (w.take i)=bg (u.take i)-q*bg (v.take i)+1048576^i*c/\tm 14=.J (.int .i64 (i:Nat))/\tm 7=.J (.int .i64 c)/\mem=aZ eF k g (bf ag (pre++w++post)))
  (λ(i,_)=>D u-i) (0,0,u) (by refine⟨fg _,rfl,vn,rfl,by omega,by simp[bg],rfl,rfl,(aru ml).symm⟩) ?_
 intro vs ms aT aR;simp only[go_sem,go_sem_proc] at aT aR;subst aT aR;rintro⟨i,c,w⟩ tm _ Q-⟨M,hw,rC,qE,G,jL,wR,bH,rfl⟩;simp only[go_sem,go_sem_proc,bb] at Q;obtain⟨al,F,I,nW⟩:=Q;rcases dA (i<D u) with ay|b9
 ·have yj:i<D w:=by omega
  have arz:w[i]=u[i]:=by
   have F:=ia yj;rw[qE,ia ay] at F;exact (wO F).1.symm
  have BL:w.drop (i+1)=u.drop (i+1):=by
   have F:=ia yj;rw[qE,ia ay] at F;exact (wO F).2.symm
  have iz:=KL (pre:=pre) (post:=post) yj;rw[arz] at iz;have ae8:=lx vn i ay;have tv:=lv u i ay;generalize u[i]=vo at *;have fw:IntKind.i64.wrap ((i:Int)+1)=((i+1:Nat):Int):=by rw[fi _];rfl
  have jw:IntKind.i64.wrap (vo-c)=vo-c:=wrap64 _ (by omega) (by omega);have hN:(D pre)+i+1<=(bf ag (pre++w++post)).length:=by rw[qD];simp;omega
  have gF:=λd=>ae3 (pre:=pre) (post:=post) yj d;have jx:decide ((i:Int)<(D u:Int))=true:=dn
  have fin:∀bi:Int,0<=bi->bi<1048576->bg (v.take (i+1))=bg (v.take i)+1048576^i*bi ->
    ∃bo:Nat×Int×List Int,D u-bo.1<D u-i/\bo.1<=D u/\bo.2.2.length=D u/\eU bo.2.2/\bo.2.2.drop bo.1=u.drop bo.1/\(0<=bo.2.1/\bo.2.1<=1048576)/\bg (bo.2.2.take bo.1)=bg (u.take bo.1)-q*bg (v.take bo.1)+1048576^bo.1*bo.2.1 /\
     R.J (Data.int .i64 ((i+1:Nat):Int))=R.J (Data.int .i64 (bo.1:Int))/\R.J (Data.int .i64 (-((vo-c-q*bi)/1048576)))=R.J (Data.int .i64 bo.2.1)/\aZ eF k g (bf ag (pre++w.set i ((vo-c-q*bi)%1048576)++post))=aZ eF k g (bf ag (pre++bo.2.2++post)):=by
   intro bi sA kW DM;obtain⟨dx,cM,nX,qF⟩:=ae7 ae8 G ⟨mv,rB⟩ ⟨sA,kW⟩;refine⟨(i+1,-((vo-c-q*bi)/1048576),w.set i ((vo-c-q*bi)%1048576)),by dsimp only;omega,by dsimp only;omega,by simp[hw],zL rC i (by omega),?_,⟨nX,qF⟩,?_,rfl,rfl,rfl⟩
   ·dsimp only;rw[ts (by omega),BL]
   ·dsimp only;rw[lv _ _ (by simpa using yj),DK,tv,DM,ng];simp only[zK];exact arx _ _ _ _ _ _ _ _ jL
  rcases dA (i<D v) with rA|Vj
  ·have nj:v[i]?=some v[i]:=bx rA;have vj:=lx zO i rA;have VB:=lv v i rA;generalize v[i]=bi at *;obtain⟨dx,cM,nX,qF⟩:=ae7 ae8 G ⟨mv,rB⟩ vj;have kY:IntKind.i64.wrap (q*bi)=q*bi:=wrap64 _ (by omega) (by omega);have zN:IntKind.i64.wrap (vo-c-q*bi)=vo-c-q*bi:=wrap64 _ (by omega) (by omega);have vl:IntKind.i64.wrap (0-(vo-c-q*bi)/1048576) = -((vo-c-q*bi)/1048576):=by rw[fi _];omega
   have il:decide ((i:Int)<(D v:Int))=true:=dn;simp only[go_sem,go_sem_proc,al,F,I,nW,wR,bH,nj,fw,jw,kY,zN,vl,il,jx,ay,hN,iz,gF,BI,rv,oG,ag,cK,ak,bq,bb,show ¬ ((20:Int)<0) by omega]
   repeat' (first|refine aw ?_ ?_|fail)<;>intro h<;>simp only[h,go_sem,go_sem_proc,al,F,I,nW,wR,bH,nj,fw,jw,kY,zN,vl,il,jx,ay,hN,iz,gF,BI,rv,oG,ag,cK,ak,bq,bb,show ¬ ((20:Int)<0) by omega]
   exact fin bi vj.1 vj.2 VB
  ·have il:decide ((i:Int)<(D v:Int))=false:=dk;have vl:IntKind.i64.wrap (0-(vo-c)/1048576) = -((vo-c)/1048576):=by rw[fi _];omega
   simp only[go_sem,go_sem_proc,al,F,I,nW,wR,bH,fw,jw,vl,il,jx,ay,hN,iz,gF,BI,rv,oG,ag,cK,ak,bq,bb,show ¬ ((20:Int)<0) by omega]
   repeat' (first|refine aw ?_ ?_|fail)<;>intro h<;>simp only[h,go_sem,go_sem_proc,al,F,I,nW,wR,bH,fw,jw,vl,il,jx,ay,hN,iz,gF,BI,rv,oG,ag,cK,ak,bq,bb,show ¬ ((20:Int)<0) by omega]
   have:=fin 0 (by omega) (by omega) (by rw[dt (by omega),dt (by omega)];simp);simp only[tO,KJ] at this;exact this
 ·obtain rfl:i=D u:=by omega
  have jx:decide ((D u:Int)<(D u:Int))=false:=dk;rw[dt (by omega),dt (by omega),dt (by omega),J1] at jL;have arA:=zy rC;have aJp:=o8 rC;rw[hw] at arA
  have aJq:(V:Int)<1048576^(D u):=by
   have h:=Int.ofNat_lt.2 VA;rw[DP] at h;exact h
  by_cases oK:c=0
  ·subst oK;have VC:bg u-q*V=bg w:=by omega
   have aA:BJ u V q=q:=by unfold BJ;rw[ae (by omega)]
   have aC:BK ⟨pre,u,post,V,q,k,g⟩=bf ag (pre++w++post):=by
    unfold BK leftOf;simp only;rw[ae (by omega),VC,<-hw,<-ae2 rC]
   simp only[go_sem,go_sem_proc,al,F,I,nW,wR,bH,jx,aA,aC,beq_self_eq_true];repeat' (first|refine aw ?_ ?_|fail)<;>intro h<;>simp only[h,go_sem,go_sem_proc,al,F,I,nW,wR,bH,jx,aA,aC,beq_self_eq_true]
  ·have VD:(c==0)=false:=by simpa using oK
   have iA:(1048576:Int)^(D u)<=1048576^(D u)*c:=by
    have:(1048576:Int)^(D u)*1<=1048576^(D u)*c:=zJ (by omega) (by omega);omega
   have kE:bg u-q*V<0:=by omega
   have OL:IntKind.i64.wrap (q-1)=q-1:=wrap64 _ (by omega) (by omega);simp only[go_sem,go_sem_proc,al,F,I,nW,wR,bH,jx,VD]
   refine dv [0,1,2,48] [] (λ((i,d,z):Nat×Int×List Int) tm mem=>i<=D u/\D z=D u/\eU z/\z.drop i=w.drop i/\(0<=d/\d<=1)/\bg (z.take i)+1048576^i*d=bg (w.take i)+bg (v.take i)/\tm 49=.J (.int .i64 (i:Nat))/\tm 10=.J (.int .i64 d)/\mem=aZ eF k g (bf ag (pre++z++post)))
    (λ(i,_)=>D u-i) (0,0,w) (by refine⟨fg _,hw,rC,rfl,by omega,by simp[bg],rfl,rfl,rfl⟩) ?_
   intro vs ms aT aR;simp only[go_sem,go_sem_proc,al,F,I] at aT aR;subst aT aR;rintro⟨i,d,z⟩ tm _ Q-⟨M,aS,zP,qE,aa,ae9,Gy,gp,rfl⟩;simp only[go_sem,go_sem_proc,bb] at Q;obtain⟨al,F,I,Gz⟩:=Q;rcases dA (i<D u) with ay|b9
   ·have KO:i<D z:=by omega
    have yj:i<D w:=by omega
    have arB:z[i]=w[i]:=by
     have F:=ia KO;rw[qE,ia yj] at F;exact (wO F).1.symm
    have OM:z.drop (i+1)=w.drop (i+1):=by
     have F:=ia KO;rw[qE,ia yj] at F;exact (wO F).2.symm
    have iz:=KL (pre:=pre) (post:=post) KO;rw[arB] at iz;have BM:=lx rC i yj;have tv:=lv w i yj;generalize w[i]=BN at *;have fw:IntKind.i64.wrap ((i:Int)+1)=((i+1:Nat):Int):=by rw[fi _];rfl
    have jw:IntKind.i64.wrap (d+BN)=d+BN:=wrap64 _ (by omega) (by omega);have hN:(D pre)+i+1<=(bf ag (pre++z++post)).length:=by rw[qD];simp;omega
    have gF:=λd=>ae3 (pre:=pre) (post:=post) KO d;have jx:decide ((i:Int)<(D u:Int))=true:=dn
    have fin:∀bi:Int,0<=bi->bi<1048576->bg (v.take (i+1))=bg (v.take i)+1048576^i*bi ->
      ∃bo:Nat×Int×List Int,D u-bo.1<D u-i/\bo.1<=D u/\bo.2.2.length=D u/\eU bo.2.2/\bo.2.2.drop bo.1=w.drop bo.1/\(0<=bo.2.1/\bo.2.1<=1)/\bg (bo.2.2.take bo.1)+1048576^bo.1*bo.2.1=bg (w.take bo.1)+bg (v.take bo.1) /\
       R.J (Data.int .i64 ((i+1:Nat):Int))=R.J (Data.int .i64 (bo.1:Int))/\R.J (Data.int .i64 ((d+BN+bi)/1048576))=R.J (Data.int .i64 bo.2.1)/\aZ eF k g (bf ag (pre++z.set i ((d+BN+bi)%1048576)++post))=aZ eF k g (bf ag (pre++bo.2.2++post)):=by
     intro bi sA kW DM;refine⟨(i+1,(d+BN+bi)/1048576,z.set i ((d+BN+bi)%1048576)),by dsimp only;omega,by dsimp only;omega,by simp[aS],zL zP i (by omega),?_,by dsimp only;omega,?_,rfl,rfl,rfl⟩
     ·dsimp only;rw[ts (by omega),OM]
     ·dsimp only;rw[lv _ _ (by simpa using KO),DK,tv,DM,ng];simp only[zK];exact aeK _ _ _ _ _ _ _ ae9
    rcases dA (i<D v) with rA|Vj
    ·have nj:v[i]?=some v[i]:=bx rA;have vj:=lx zO i rA;have VB:=lv v i rA;generalize v[i]=bi at *;have kY:IntKind.i64.wrap (d+BN+bi)=d+BN+bi:=wrap64 _ (by omega) (by omega);have il:decide ((i:Int)<(D v:Int))=true:=dn;simp only[go_sem,go_sem_proc,al,F,I,Gz,Gy,gp,nj,fw,jw,kY,il,jx,ay,hN,iz,gF,BI,rv,oG,ag,cK,ak,bq,bb,show ¬ ((20:Int)<0) by omega]
     repeat' (first|refine aw ?_ ?_|fail)<;>intro h<;>simp only[h,go_sem,go_sem_proc,al,F,I,Gz,Gy,gp,nj,fw,jw,kY,il,jx,ay,hN,iz,gF,BI,rv,oG,ag,cK,ak,bq,bb,show ¬ ((20:Int)<0) by omega]
     exact fin bi vj.1 vj.2 VB
    ·have il:decide ((i:Int)<(D v:Int))=false:=dk;simp only[go_sem,go_sem_proc,al,F,I,Gz,Gy,gp,fw,jw,il,jx,ay,hN,iz,gF,BI,rv,oG,ag,cK,ak,bq,bb,show ¬ ((20:Int)<0) by omega]
     repeat' (first|refine aw ?_ ?_|fail)<;>intro h<;>simp only[h,go_sem,go_sem_proc,al,F,I,Gz,Gy,gp,fw,jw,il,jx,ay,hN,iz,gF,BI,rv,oG,ag,cK,ak,bq,bb,show ¬ ((20:Int)<0) by omega]
     have:=fin 0 (by omega) (by omega) (by rw[dt (by omega),dt (by omega)];simp);simp only[wS] at this;exact this
   ·obtain rfl:i=D u:=by omega
    have jx:decide ((D u:Int)<(D u:Int))=false:=dk;rw[dt (by omega),dt (by omega),dt (by omega),J1] at ae9;have arC:=zy zP;have aJr:=o8 zP;rw[aS] at arC
    have VC:bg u-q*V+V=bg z:=by
     have e:bg u-q*V+V-bg z=1048576^(D u)*(d-c):=by rw[Gt];omega
     generalize (1048576:Int)^(D u)=p at *;rcases yk (d-c) 0 with h|h|h
     ·have:p*(d-c)<=p*(-1):=zJ (by omega) (by omega);omega
     ·rw[h,tO] at e;omega
     ·have:p*1<=p*(d-c):=zJ (by omega) (by omega);omega
    have aA:BJ u V q=q-1:=by unfold BJ;rw[ad kE]
    have aC:BK ⟨pre,u,post,V,q,k,g⟩=bf ag (pre++z++post):=by
     unfold BK leftOf;simp only;rw[ad kE,VC,<-aS,<-ae2 zP]
    simp only[go_sem,go_sem_proc,al,F,I,Gz,Gy,gp,jx,aA,aC,OL];repeat' (first|refine aw ?_ ?_|fail)<;>intro h<;>simp only[h,go_sem,go_sem_proc,al,F,I,Gz,Gy,gp,jx,aA,aC,OL]
theorem arD {T V P yl GA v1 v2 top ky q r:Int}(ru:V=(v1*1048576+v2)*P+yl)(cN:T=(top*1048576+ky)*P+GA)(gr:0<P)(afa:0<=yl)(ON:GA<P)(mv:0<=q)(arE:0<=V)
  (VE:T<1048576*V) (DQ:q*v1+r=top) (G:q>=1048576\/q*v2>r*1048576+ky):T<q*V:=by
 rcases G with h|h
 ·have:=mV h arE;omega
 ·have F:(top*1048576+ky+1)*P<=(q*(v1*1048576+v2))*P:=by
   refine mV ?_ (by omega);rw[ij,<-ik];have:q*v1*1048576=(top-r)*1048576:=by rw[<-DQ];congr 1;omega
   omega
  have I:q*V=(q*(v1*1048576+v2))*P+q*yl:=by rw[ru,ij,<-ik]
  have af:0<=q*yl:=yh mv afa;rw[tM _ 1,nY] at F;omega
theorem afb {T V P yl GA v1 v2 top ky q r:Int}(ru:V=(v1*1048576+v2)*P+yl)(cN:T=(top*1048576+ky)*P+GA)(gr:0<P)(afa:0<=yl/\yl<P)(ON:0<=GA)(mv:0<=q)(rB:q<1048576)(nO:524288<=v1)(nP:0<=v2/\v2<1048576)(ac8:0<=ky)
  (DQ:q*v1+r=top) (G:r>=1048576\/q*v2<=r*1048576+ky):0<=T-q*V+V:=by
 have I:q*V=(q*(v1*1048576+v2))*P+q*yl:=by rw[ru,ij,<-ik]
 have af:q*yl<=q*P:=zJ (by omega) mv;have aM:q*P<=1048576*P:=mV (by omega) (by omega);have bk:1048576*P<=(v1*1048576+v2)*P:=mV (by omega) (by omega);have e:q*v1*1048576=(top-r)*1048576:=by rw[<-DQ];congr 1;omega
 rcases G with h|h
 ·have bI:q*v2+q<=1048576*1048576:=by
   have bH:q*(v2+1)<=1048576*1048576:=Vo (by omega) (by omega) (by omega) (by omega);rw[ij,vh] at bH;exact bH
  have b6:(q*(v1*1048576+v2)+q)*P<=(top*1048576+ky)*P:=by
   refine mV ?_ (by omega);rw[ij,<-ik];omega
  rw[tM _ q] at b6;omega
 ·have b6:(q*(v1*1048576+v2))*P<=(top*1048576+ky)*P:=by
   refine mV ?_ (by omega);rw[ij,<-ik];omega
  omega
theorem arF {T V q:Int}(ru:0<V)(F:T<(q+1)*V)(I:0<=T-q*V+V):(if T-q*V<0 then q-1 else q)=T/V/\(if T-q*V<0 then T-q*V+V else T-q*V)=T%V:=by
 have af:(q+1)*V=q*V+V:=by rw[tM,nY]
 have aM:(q-1)*V=q*V-V:=by rw[afc,nY]
 have key:∀d r:Int,T=d*V+r->0<=r->r<V->d=T/V/\r=T%V:=by
  intro d r h al bk
  constructor
  ·rw[h,yi,Int.add_mul_ediv_right _ _ (by omega),Vt al bk];omega
  ·rw[h,yi,Int.add_mul_emod_self_right,Vu al bk]
 split
 ·exact key (q-1) _ (by omega) (by omega) (by omega)
 ·exact key q _ (by omega) (by omega) (by omega)
theorem afd {v:List Int}{N:Nat}(h:(D v)=N+2):bg v=(v[N+1]*1048576+v[N])*1048576^N+bg (v.take N):=by
 have e:v=v.take (N+1+1):=by rw[dt (by omega)]
 conv=>lhs;rw[e]
 rw[lv v (N+1) (by omega),lv v N (by omega),ng,tM,nh (v[N]),BO (v[N+1]),nh (v[N+1])];have:(1048576:Int)^N*1048576*v[N+1]=1048576^N*v[N+1]*1048576:=by rw[BO]
 omega
theorem arG {v:List Int}{N:Nat}(h:(D v)=N+3):bg v=((v[N+2]*1048576+v[N+1])*1048576+v[N])*1048576^N+bg (v.take N):=by
 have e:v=v.take (N+1+1+1):=by rw[dt (by omega)]
 conv=>lhs;rw[e]
 rw[lv v (N+1+1) (by omega),lv v (N+1) (by omega),lv v N (by omega)];simp only[ng];generalize (1048576:Int)^N=p;rw[tM,tM,tM,BO (v[N+2]*1048576),BO (v[N+2]),nh (v[N+2]),BO (v[N+1]),nh (v[N+1]),nh (v[N])];have F:p*1048576*v[N+1]=p*v[N+1]*1048576:=by rw[BO]
 have I:p*1048576*1048576*v[N+1+1]=p*v[N+2]*1048576*1048576:=by rw[BO,BO p]
 omega
theorem arH {u:List Int}{i n:Nat}{V:Int}(aa:eU u)(aq:i+n+1<=D u)(eS:bg (u.drop (i+1))<V)(ru:V<1048576^n):
  ∃pre gb post,u=pre++gb++post/\D pre=i/\D gb=n+1/\eU pre/\eU gb/\eU post/\bg post=0/\∃ev,gb[0]?=some ev/\u.take (i+1)=pre++[ev]/\bg gb=ev+1048576*bg (u.drop (i+1))/\0<=bg (u.drop (i+1))/\0<=ev/\ev<1048576:=by
 have e:u=u.take i++(u.drop i).take (n+1)++u.drop (i+n+1):=by
  rw[gU,qn,<-FR,Bs,Bs]
 have afe:=e ▸ aa;rw[Ds,Ds] at afe;obtain⟨⟨d1,d2⟩,d3⟩:=afe;have ay:i<D u:=by omega
 have qE:=ia ay;have KP:((u.drop i).take (n+1)).length=n+1:=by simp;omega
 have aff:bg (u.drop (i+1))=bg ((u.drop (i+1)).take n)+1048576^n*bg (u.drop (i+n+1)):=by
  have:=Kf (u.drop (i+1)) n;rw[rp,oA (by omega),FR] at this;rw[this]
  congr 3
  rw[show i+1+n=i+n+1 by omega]
 have aE:=o8 d3;have bD:0<=bg ((u.drop (i+1)).take n):=o8 (λx O=>aa x (KQ (FE O)))
 have pb:bg (u.drop (i+n+1))=0:=by
  rcases dA (0<bg (u.drop (i+n+1))) with h|h
  ·have:(1048576:Int)^n*1<=1048576^n*bg (u.drop (i+n+1)):=zJ (by omega) (Int.pow_nonneg (by omega));omega
  ·omega
 refine⟨_,_,_,e,by simp;omega,KP,d1,d2,d3,pb,u[i],?_,?_,?_,?_,(lx aa i ay).1,(lx aa i ay).2⟩
 ·rw[pK (by omega),kU];simp[ay]
 ·rw[g1,bx ay];rfl
 ·rw[qE,wB,tE,aff,pb];simp
 ·rw[aff,pb];simpa using bD
theorem arI (l:List Int)(h:(D l)<=1000000):mN 157054 0 1 (D l) 8 1 [.J (.int .i64 0)] (some (0,((l.map ag).flatten.map R.J)))=some (.ref 157054 1 1 0 (D l+1),some (157054,1,bf ag (l++[0]))) :=
 mu hr u5 157054 0 8 l 0 rfl (by omega) (by omega)
def OO:=cp vi λ(x,y)=>cV ((aJ x).length<=1000/\(aJ y).length<=1000/\0<y) (.same (.cI [b1 (x/y),b1 (x%y)]))
@[go_sem] theorem afg (x:Nat)(y:Nat)(G:(aJ x).length<=1000/\(aJ y).length<=1000/\0<y):OO [b1 x,b1 y]=some (.same (.cI [b1 (x/y),b1 (x%y)])):=(cA yg (x,y)).trans (cY G _)
theorem arJ (T:bh)(gh:T Dz=aV KH)(fL:T va=aV BD)(k0:T Oi=aV Vs)(eI:T qB=zw zE vg)(jy:T Gb=aV OI)(k1:T Ua=Bu KN)(x:Nat)(y:Nat)(G:(aJ x).length<=1000/\(aJ y).length<=1000/\0<y):WP T UM (.same (.cI [b1 (x/y),b1 (x%y)])) [.J (b1 x),.J (b1 y)]:=by
 refine cB ?_;simp only[UM];obtain⟨O,ar,iS⟩:=G;have hp:(aJ x).length<=1000000/\(aJ y).length<=1000000:=by omega
 have hG:=Vh x y hp;have tf:(aJ x).length<=1000000:=by omega
 by_cases mn:x<y
 ·have pc:hF x y = -1:=by unfold hF;rw[ad (by simpa using mn)]
  have ew:=aeD (aJ x) tf;rw[pc] at hG
  change BD [b1 x]=_ at ew
  simp only[go_sem,go_sem_proc,gh,fL,k0,eI,jy,k1,hG,ew,show ((-1:Int)<0) by omega,decide_true]
  repeat' (first|refine aw ?_ ?_|fail)<;>intro h<;>simp only[h,go_sem,go_sem_proc,gh,fL,k0,eI,jy,k1,hG,ew,show ((-1:Int)<0) by omega,decide_true]
  rw[TH mn,J9 mn]
  try rfl
 ·have pc:decide (hF x y<0)=false:=by
   unfold hF;rw[ae (by simp;omega)]
   split<;>rfl
  have aJs:aJ y≠[]:=by rw[Ne,zx];omega
  by_cases F:y<1048576
  ·have ry:=Du iS F;have jv:=aeW x y ⟨by omega,by omega,by omega⟩
   have aY:=Oz [((x%y:Nat):Int)] (by simp);have ay:x%y<y:=Nat.mod_lt _ iS;rw[lu] at jv
   have vm:fK [((x%y:Nat):Int)]=aJ (x%y):=by
    generalize x%y=r at ay ⊢;rw[zz (by intro d aa;rw[tP] at aa;omega)];simp only[bg]
    congr 1
   rw[vm] at aY;have GC:b1 y=.Y [[.int .i64 y]]:=by unfold b1;rw[ry];rfl
   change zE [.Y [[.int .i64 _]]]=_ at aY
   rw[GC] at hG;simp only[go_sem,go_sem_proc,gh,fL,k0,eI,jy,k1,GC,hG,pc,jv,aY,show (((1:Nat):Int)==1)=true from rfl];repeat' (first|refine aw ?_ ?_|fail)<;>intro h<;>simp only[h,go_sem,go_sem_proc,gh,fL,k0,eI,jy,k1,GC,hG,pc,jv,aY,show (((1:Nat):Int)==1)=true from rfl]
   try rfl
  ·obtain⟨N,gB⟩:∃N,(aJ y).length=N+2:=by
    have:=mt (gG (n:=y) (k:=1)).1 (by simpa using F);exact⟨(aJ y).length-2,by omega⟩
   have ry:=mT y;have kZ:(((aJ y).length:Int)==1)=false:=by simp;omega
   have KP:IntKind.i64.wrap (((aJ y).length:Int)-1)=((N+1:Nat):Int):=by rw[fi _];omega
   have iM:(aJ y)[N+1]?=some (aJ y)[N+1]:=bx (by omega);have afh:=lx ry (N+1) (by omega)
   have aJt:(aJ y)[N+1]≠0:=by
    intro h;have:=aes y;rw[List.getLast?_eq_getElem?,gB] at this;exact this (by rw[show N+2-1=N+1 by omega,iM,h])
   have VF:=afd gB;rw[lS] at VF;have arK:=zy (zI ry N);have aJu:=o8 (zI ry N);have aJv:=lx ry N (by omega);rw[fR,oA (by omega)] at arK;generalize (aJ y)[N+1]=df at *;generalize (aJ y)[N]=su at *;generalize bg ((aJ y).take N)=VG at *;have VH:((aJ y).map ag)[N+1]?=some [.int .i64 df]:=by rw[bq,iM];rfl
   simp only[go_sem,go_sem_proc,gh,fL,k0,eI,jy,k1,b1,hG,pc,kZ,ak];have afi:=hG;unfold b1 at afi;simp only[go_sem,go_sem_proc,gh,fL,k0,eI,jy,k1,afi,pc,kZ,ak];refine dv [0,1] [157054,157075] (λ(κ:Nat) tm mem=>df*2^κ<1048576/\tm 8=.J (.int .i64 (2^κ))) (λκ=>20-κ) 0 (by refine⟨by omega,rfl⟩) ?_;intro vs ms aT aR;simp only[go_sem,go_sem_proc,gh,fL,k0,eI,jy,k1,ak] at aT aR;subst aT aR;rintro κ tm mem Q hm ⟨aJw,b6⟩;simp only[go_sem,go_sem_proc,gh,fL,k0,eI,jy,k1,bb] at Q hm;obtain⟨al,x6⟩:=Q;obtain⟨GD,nm⟩:=hm;have aJx:(0:Int)<2^κ:=GF (by omega)
   have aJy:(2:Int)^κ<=df*2^κ:=by
    have:1*(2:Int)^κ<=df*2^κ:=mV (by omega) (by omega);omega
   have hκ:κ<20:=by
    rcases h9 κ 20 with h|h
    ·exact h
    ·have:(2:Int)^20<=2^κ:=by
      have:=wT (n:=2) (by omega) h;have ct:=Int.ofNat_le.2 this;rwa [DP,DP] at ct
     omega
   have OP:IntKind.i64.wrap (df*2^κ)=df*2^κ:=wrap64 _ (by omega) (by omega);have afj:IntKind.i64.wrap (2^κ*2)=2^κ*2:=wrap64 _ (by omega) (by omega);rcases dA (df*2^κ<524288) with ay|b9
   ·simp only[go_sem,go_sem_proc,gh,fL,k0,eI,jy,k1,al,x6,b6,KP,VH,OP,afj,ay,GD,nm,decide_true,cK,ak];repeat' (first|refine aw ?_ ?_|fail)<;>intro h<;>simp only[h,go_sem,go_sem_proc,gh,fL,k0,eI,jy,k1,al,x6,b6,KP,VH,OP,afj,ay,GD,nm,decide_true,cK,ak]
    exact⟨κ+1,by omega,by rw[ng,<-ik];omega,by rw[ng]⟩
   ·-- the numbers, shifted
    have arL:(df+1)*2^κ<=1048576:=by
     have e:(1048576:Int)=2^(20-κ)*2^κ:=by rw[<-aeV,show 20-κ+κ=20 by omega];rfl
     have F:df<2^(20-κ):=by
      rcases dA (df<2^(20-κ)) with h|h
      ·exact h
      ·have:(2:Int)^(20-κ)*2^κ<=df*2^κ:=mV (by omega) (by omega);omega
     rw[e];exact mV (by omega) (by omega)
    generalize (2:Int)^κ=s at *;obtain⟨S,rfl⟩:∃S:Nat,s=S:=⟨s.toNat,by omega⟩
    have gr:(0:Int)<1048576^N:=GF (by omega);have DR:0<S:=by omega
    have VA:y*S<1048576^(N+2):=by
     have F:((y*S:Nat):Int)<1048576^(N+2):=by
      rw[afk,VF,ng,ng];generalize (1048576:Int)^N=p at *
      have aA:((df*1048576+su)*p+VG)*S<=((df+1)*1048576*p)*S:=by
       refine mV ?_ (by omega);have:(df*1048576+su+1)*p<=((df+1)*1048576)*p:=mV (by omega) (by omega);rw[tM _ 1] at this;omega
      have afl:((df*1048576+su)*p+VG)*S<((df+1)*1048576*p)*S:=by
       refine Int.mul_lt_mul_of_pos_right ?_ (by omega);have:(df*1048576+su+1)*p<=((df+1)*1048576)*p:=mV (by omega) (by omega);rw[tM _ 1] at this;omega
      have aC:((df+1)*1048576*p)*S=((df+1)*S)*(p*1048576):=by
       rw[ik (df+1),ik,nh (1048576*p),<-ik,nh 1048576 p]
      have bZ:((df+1)*S)*(p*1048576)<=1048576*(p*1048576):=mV arL (by omega);omega
     have I:((1048576^(N+2):Nat):Int)=1048576^(N+2):=by rw[DP];rfl
     omega
    have aJz:524288*(1048576^N*1048576)<=((y*S:Nat):Int):=by
     rw[afk,VF];generalize (1048576:Int)^N=p at *
     have aA:(df*1048576)*p*S<=((df*1048576+su)*p+VG)*S:=by
      refine mV ?_ (by omega);have:(df*1048576)*p<=(df*1048576+su)*p:=mV (by omega) (by omega);omega
     have aC:(df*1048576)*p*S=(df*S)*(p*1048576):=by
      rw[ik df,ik,nh (1048576*p),<-ik,nh 1048576 p]
     have bZ:524288*(p*1048576)<=(df*S)*(p*1048576):=mV (by omega) (by omega);omega
    have DS:(aJ (y*S)).length=N+2:=by
     have F:=gG.2 VA
     have I:=mt (gG (n:=y*S) (k:=N+1)).1 (by
      have I:((1048576^(N+1):Nat):Int)=1048576^N*1048576:=by rw[DP,ng];rfl
      omega)
     omega
    have aJA:1*x<=x*S:=by rw[rq];exact afm x DR
    have aJB:(aJ x).length<=(aJ (x*S)).length:=by
     rw[gG];have:=gG.1 (bW (aJ (x*S)).length);omega
    have aJC:y*S<=x*S:=Nat.mul_le_mul_right S (by omega)
    have aJD:N+2<=(aJ (x*S)).length:=by
     rw[<-DS,gG];have:=gG.1 (bW (aJ (x*S)).length);omega
    have aJE:(aJ (x*S)).length<=1001:=by
     have:∀k,(aJ x).length<=k->(aJ (x*S)).length<=k+1:=by
      intro k Q;rw[gG];have F:=gG.1 Q;rw[wD];exact Nat.lt_of_lt_of_le (Nat.mul_lt_mul_of_pos_right F DR) (afm _ (by omega))
     exact this 1000 O
    have hY:=Vp x S ⟨by omega,by rw[Du DR (by omega)];simp⟩
    have VI:=Vp y S ⟨by omega,by rw[Du DR (by omega)];simp⟩
    have arM:b1 S=.Y [[.int .i64 (S:Int)]]:=by unfold b1;rw[Du DR (by omega)];rfl
    rw[arM] at hY VI;simp only[b1] at hY VI;have dL:=arI (aJ (x*S)) (by omega);have arN:((((aJ (x*S)).length+1:Nat):Int)==((aJ x).length:Int))=false:=by simp;omega
    have arO:=lS (y*S);have OQ:=mT (y*S);have arP:=lS (x*S);have afn:=mT (x*S);have arQ:b1 (y*S)=.Y ((aJ (y*S)).map ag):=rfl;generalize arR:aJ (y*S)=v at *;generalize aJF:aJ (x*S)=lV at *;have OL:IntKind.i64.wrap (((D lV+1:Nat):Int)-(D v:Int))=((D lV-N-1:Nat):Int):=by rw[fi _];omega
    have rB:8*(D lV-N-1)<=140737488355328:=by omega
    have DT:(D lV)-N-1<=maxLen:=Gr _ (by omega);have BP:decide (df*(S:Int)<524288)=false:=j9 b9;simp only[go_sem,go_sem_proc,gh,fL,k0,eI,jy,k1,al,x6,b6,GD,nm,KP,VH,OP,BP,hY,VI,dL,arN,OL,rB,DT,Gq,cK,ak];have mW:(D lV)-N-1+(N+2)=D lV+1:=by omega
    generalize aJG:(D lV)-N-1=bj at *;have gu:(D lV)=bj+N+1:=by omega
    have vp:=afd DS;rw[arO] at vp;have VJ:=zy (zI OQ N);have VK:=o8 (zI OQ N);rw[fR,oA (by omega)] at VJ;have arS:v[N+1]?=some v[N+1]:=bx (by omega);have GG:v[N]?=some v[N]:=bx (by omega);have Gw:=lx OQ (N+1) (by omega);have pO:=lx OQ N (by omega);generalize v[N+1]=v1 at *;generalize v[N]=v0 at *;generalize bg (v.take N)=vlow at *
    have nO:524288<=v1:=by
     generalize (1048576:Int)^N=p at *;rcases dA (524288<=v1) with h|h
     ·exact h
     ·have I:(v1*1048576+v0+1)*p<=(524288*1048576)*p:=mV (by omega) (by omega);rw[tM _ 1,nY] at I;omega
    have arT:((y*S:Nat):Int)<1048576^(N+2):=by
     have I:((1048576^(N+2):Nat):Int)=1048576^(N+2):=by rw[DP];rfl
     omega
    have VL:0<((y*S:Nat):Int):=by
     have:0<1048576^N*(1048576:Int):=Int.mul_pos gr (by omega);omega
    have arU:bg ((lV++[0]).drop bj)<((y*S:Nat):Int):=by
     have e:(lV++[0]).drop bj=lV.drop bj++[0]:=by rw[List.drop_append_of_le_length (by omega)]
     rw[e,Dt];have F:=zy (λd aa=>afn d (KQ aa):eU (lV.drop bj));rw[rp,show (D lV)-bj=N+1 by omega,ng] at F
     simp only[bg];omega
    have arV:((x*S:Nat):Int)=bg ((lV++[0]).take bj)+1048576^bj*bg ((lV++[0]).drop bj):=by
     have:=Kf (lV++[0]) bj;rw[Dt,arP,oA (by simp;omega)] at this
     simpa [bg] using this
    generalize afo:y*S=g9 at *;generalize afp:x*S=GH at *
    refine dv [8,9,10,11,12] [] (λ((j,u,eC):Nat×List Int×List Int) tm mem=>j<=bj/\D u=D lV+1/\eU u/\D eC=bj/\eU eC/\bg (u.drop j)<g9/\(GH:Int)=bg (u.take j)+1048576^j*(g9*bg (eC.drop j)+bg (u.drop j)) /\
      tm 13=.J (.int .i64 ((j:Nat)-1))/\mem 157054=some (1,bf ag u)/\mem 157075=some (0,bf ag eC)) (λ(j,_)=>j) (bj,lV++[0],dC bj 0)
     (by
      refine⟨bW _,by simp,Ds.2 ⟨afn,by intro d aa;rw[tP] at aa;omega⟩,by simp,λd aa=>by rw[Gu] at aa;omega,arU,?_,?_,rfl,rfl⟩
      ·rw[List.drop_of_length_le (by simp)];simp only[bg,tO,DN];exact arV
      ·simp only[e4,reduceIte];rw[fi _]) ?_
    intro vs ms aT aR;simp only[go_sem,go_sem_proc,gh,fL,k0,eI,jy,k1,al,x6,b6] at aT aR;subst aT aR;rintro⟨j,u,eC⟩ tm mem Q-⟨aj,zQ,vn,OR,VM,eS,mX,nW,GI,OS⟩;simp only[go_sem,go_sem_proc,gh,fL,k0,eI,jy,k1,bb] at Q;obtain⟨b6,iN,gp,zH,ji⟩:=Q;rcases j with _|j
    ·rw[lQ,lQ] at mX;rw[lQ] at eS;simp only[nd,bg,Int.pow_zero,nY,DN] at mX;have aJH:=o8 VM;have ym:=o8 vn
     have VN:bg eC=((x/y:Nat):Int)/\bg u=((x%y*S:Nat):Int):=by
      have F:GH/g9=x/y:=by rw[<-afp,<-afo];exact Nat.mul_div_mul_right x y DR
      have I:GH%g9=x%y*S:=by rw[<-afp,<-afo];exact Nat.mul_mod_mul_right S x y
      have af:((GH/g9:Nat):Int)=bg eC:=by rw[aeX,mX,yi,aeY _ _ (by omega),Vt ym eS];omega
      have aM:((GH%g9:Nat):Int)=bg u:=by rw[aeZ,mX,yi,ae0,Vu ym eS]
      rw[F] at af;rw[I] at aM;exact⟨af.symm,aM.symm⟩
     have VO:=Oz u (by omega);rw[zz vn,VN.2,lu] at VO;have VP:=Oz eC (by omega);rw[zz VM,VN.1,lu] at VP
     have hlen:(aJ (x%y*S)).length<=100000:=by
      have:(aJ (x%y*S)).length<=D u:=by
       have:=aeG u;rw[zz vn,VN.2,lu] at this;exact this
      omega
     have jv:=aeW (x%y*S) S ⟨hlen,by omega,by omega⟩
     rw[lu,Nat.mul_div_cancel _ DR] at jv;simp only[b1] at jv;have fF:R.ref 157054 1 1 0 (D lV+1)=R.ref 157054 1 1 0 (D u):=by rw[zQ]
     have fA:R.ref 157075 0 1 0 bj=R.ref 157075 0 1 0 (D eC):=by rw[OR]
     rw[fF] at iN;rw[fA] at ji;simp only[go_sem,go_sem_proc,gh,fL,k0,eI,jy,k1,b6,iN,gp,zH,ji,nW,GI,OS,VO,VP,jv,mS hr,b1,lr,lU,show ¬ ((0:Int)-1>=0) by omega,decide_false]
     repeat' (first|refine aw ?_ ?_|fail)<;>intro h<;>simp only[h,go_sem,go_sem_proc,gh,fL,k0,eI,jy,k1,b6,iN,gp,zH,ji,nW,GI,OS,VO,VP,jv,mS hr,b1,lr,lU,show ¬ ((0:Int)-1>=0) by omega,decide_false]
    ·obtain⟨pre,gb,post,e,BQ,afq,VQ,rC,arW,arX,ev,BR,g2,aJI,arY,aJJ,aJK⟩:=arH (i:=j) (n:=N+2) vn (by omega) eS arT;have tQ:j<bj:=by omega
     rw[g2,Dt,BQ] at mX;subst e;subst BQ;rw[DS] at zH;have afr:((D pre+1:Nat):Int)-1=(D pre:Int):=by omega
     have oF:IntKind.i64.wrap ((D pre:Int)+((N+2:Nat):Int))=((D pre+(N+2):Nat):Int):=by rw[fi _];omega
     have arZ:IntKind.i64.wrap (((D pre+(N+2):Nat):Int)-1)=((D pre+(N+1):Nat):Int):=by rw[fi _];omega
     have DU:IntKind.i64.wrap (((N+2:Nat):Int)-1)=((N+1:Nat):Int):=by rw[fi _];omega
     have OT:IntKind.i64.wrap (((N+2:Nat):Int)-2)=(N:Int):=by rw[fi _];omega
     have OU:IntKind.i64.wrap (((D pre+(N+2):Nat):Int)-2)=((D pre+N:Nat):Int):=by rw[fi _];omega
     have ck:(D pre)+(N+2)<D lV+1:=by omega
     have cq:(D pre)+(N+1)<D lV+1:=by omega
     have hH:(D pre)+N<D lV+1:=by omega
     have ar0:(D pre)+(N+2)+1<=(bf ag (pre++gb++post)).length:=by rw[qD,zQ];omega
     have ar1:(D pre)+(N+1)+1<=(bf ag (pre++gb++post)).length:=by rw[qD,zQ];omega
     have OV:(D pre)+N+1<=(bf ag (pre++gb++post)).length:=by rw[qD,zQ];omega
     have ar2:=KL (pre:=pre) (post:=post) (show N+2<(D gb) by omega);have OW:=KL (pre:=pre) (post:=post) (show N+1<(D gb) by omega);have pb:=KL (pre:=pre) (post:=post) (show N<(D gb) by omega);have cN:=arG (N:=N) (by omega:(D gb)=N+3);have ON:=zy (zI rC N);have afs:=o8 (zI rC N);rw[fR,oA (by omega)] at ON;have mw:=lx rC (N+2) (by omega);have jQ:=lx rC (N+1) (by omega);have BH:=lx rC N (by omega);generalize gb[N+2]=t2 at *;generalize gb[N+1]=t1 at *;generalize gb[N]=t0 at *;generalize bg (gb.take N)=GA at *;have ar3:IntKind.i64.wrap (t2*2^min (Dv 20) 64)=t2*1048576:=by rw[show min (Dv 20) 64=20 by decide];exact wrap64 _ (by omega) (by omega)
     have ar4:bits .or .i64 (t2*1048576) t1=t2*1048576+t1:=TR t2 t1 mw.1 (by omega) jQ;have ar5:(v1=0)=False:=by simp;omega
     generalize aJL:t2*1048576+t1=top at *;have aJM:0<=top/\top<1099511627776:=by omega
     have vm:top.tdiv v1=top/v1:=Gx (by omega);have DO:top.tmod v1=top%v1:=KK (by omega);have mv:0<=top/v1:=Vv (by omega) (by omega);have rB:top/v1<=top:=Int.ediv_le_self _ (by omega);have ar6:IntKind.i64.wrap (top/v1)=top/v1:=wrap64 _ (by omega) (by omega);have KR:(v.map ag)[N+1]?=some [.int .i64 v1]:=by rw[bq,arS];rfl
     have OX:(v.map ag)[N]?=some [.int .i64 v0]:=by rw[bq,GG];rfl
     have VE:bg gb<1048576*g9:=by omega
     have ar7:bg gb<(top/v1+1)*g9:=by
      have aA:top+1<=(top/v1+1)*v1:=by
       have F:=BG top v1;have I:=Vx top (show 0<v1 by omega);rw[tM,nY,nh (top/v1)];omega
      have aC:(top+1)*1048576*1048576^N<=(top/v1+1)*v1*1048576*1048576^N:=mV (mV aA (by omega)) (by omega)
      have bZ:(top/v1+1)*v1*1048576*1048576^N<=(top/v1+1)*g9:=by
       rw[ik,ik];refine zJ ?_ (by omega);rw[vp,<-ik];have:v1*1048576*1048576^N<=(v1*1048576+v0)*1048576^N:=mV (by omega) (by omega);omega
      have dq:(top*1048576+t0+1)*1048576^N<=(top+1)*1048576*1048576^N:=mV (by omega) (by omega);rw[tM _ 1,nY] at dq;omega
     simp only[go_sem,go_sem_proc,gh,fL,k0,eI,jy,k1,b6,iN,gp,zH,ji,nW,GI,OS,afr,oF,arZ,DU,ck,cq,ar0,ar1,ar2,OW,ar3,ar4,ar5,vm,DO,ar6,KR,show (D pre:Int)>=0 by omega,decide_true,cK,ak,show ¬ ((20:Int)<0) by omega]
     have VR:∀(mem:Mem),mem 157054=some (1,bf ag (pre++gb++post))->∀q:Int,0<=q->q<1048576->bg gb<(q+1)*g9->0<=bg gb-q*g9+g9 ->
       KN [.ref 157054 1 1 (D pre) (N+3),.J (.Y (v.map ag)),.J (.int .i64 q)] mem=some (.J (.int .i64 (bg gb/g9)),aZ mem 157054 1 (bf ag (pre++pad (N+3) (bg gb%g9).toNat++post))):=by
      intro mem GI q mv ar8 sC ki;have GC:=arF VL sC ki;have nf:=arw ⟨pre,gb,post,g9,q,157054,1⟩ mem ⟨GI,rC,by show (aJ g9).length<=D gb;rw[arR];omega,mv,ar8,ki,by show (D pre)+D gb<=100000;omega⟩
      simp only[BJ,BK,leftOf] at nf;rw[GC.1,GC.2,afq,arQ] at nf;exact nf
     have ar9:0<=bg gb/g9:=Vv (o8 rC) (by omega);have asa:bg gb/g9<1048576:=ae1 VL VE;have aJN:=Vw (bg gb) (show (g9:Int)≠0 by omega);have asb:=Vx (bg gb) VL
     have asc:bg (pad (N+3) (bg gb%g9).toNat)=bg gb%g9:=by
      rw[art]
      ·omega
      ·have I:((1048576^(N+2):Nat):Int)=1048576^(N+2):=by rw[DP];rfl
       have af:1048576^(N+2)<=1048576^(N+3):=wT (by omega) (by omega);omega
     have ix:∃bo:Nat×List Int×List Int,bo.1<D pre+1/\bo.1<=bj/\bo.2.1.length=D lV+1/\eU bo.2.1/\bo.2.2.length=bj/\eU bo.2.2/\bg (bo.2.1.drop bo.1)<g9/\(GH:Int)=bg (bo.2.1.take bo.1)+1048576^bo.1*(g9*bg (bo.2.2.drop bo.1)+bg (bo.2.1.drop bo.1)) /\
       R.J (Data.int .i64 ((D pre:Int)-1))=R.J (Data.int .i64 ((bo.1:Int)-1))/\some (1,bf ag (pre++pad (N+3) (bg gb%g9).toNat++post))=some (1,bf ag bo.2.1)/\some (0,bf ag (eC.set (D pre) (bg gb/g9)))=some (0,bf ag bo.2.2):=by
      have asd:(D eC)=bj:=OR;have OR:(D pre)<D eC:=by omega
      have GJ:(pre++pad (N+3) (bg gb%g9).toNat++post).drop (D pre)=pad (N+3) (bg gb%g9).toNat++post:=by rw[gU,TF]
      have ase:(pre++pad (N+3) (bg gb%g9).toNat++post).take (D pre)=pre:=by rw[gU,TE]
      have aft:bg (pad (N+3) (bg gb%g9).toNat++post)=bg gb%g9:=by rw[Dt,arX,asc];omega
      refine⟨(D pre,pre++pad (N+3) (bg gb%g9).toNat++post,eC.set (D pre) (bg gb/g9)),by dsimp only;omega,by dsimp only;omega,?_,Ds.2 ⟨Ds.2 ⟨VQ,ars _ _⟩,arW⟩,by rw[jf];exact asd,zL VM _ ⟨ar9,asa⟩,?_,?_,rfl,rfl,rfl⟩
      ·rw[<-zQ];simp[arq,afq]
      ·dsimp only;rw[GJ,aft];exact asb
      ·dsimp only;rw[GJ,aft,ase,ia (by simpa using OR),tE];simp only[zK];rw[ts (by omega)];have F:=BG (bg gb) g9;have I:(g9:Int)*(bg gb/g9+1048576*bg (eC.drop (D pre+1)))=g9*(bg gb/g9)+1048576*(g9*bg (eC.drop (D pre+1))):=by rw[ij,Vy]
       rw[I,mX,ng,ik];simp only[bg,tO,wS];rw[Int.add_assoc,<-ij]
       congr 2
       rw[ij];omega
     have jj:(D pre)+(N+2)+1-D pre=N+3:=by omega
     have tR:IntKind.i64.wrap (((D pre+(N+2):Nat):Int)+1)=((D pre+(N+2)+1:Nat):Int):=by rw[fi _];rfl
     have OY:(D pre)<=D pre+(N+2)+1/\D pre+(N+2)+1<=D lV+1:=by omega
     have OZ:(D pre)<bj:=tQ;have O0:=λd=>yf eC (D pre) d (by omega);have O1:(D pre)+1<=(bf ag eC).length:=by rw[qD];omega
     have BM:IntKind.i64.wrap ((D pre:Int)-1)=(D pre:Int)-1:=wrap64 _ (by omega) (by omega)
     refine dv [8,9,10,11,12,13] [157054,157075] (λ((q,r):Int×Int) tm mem=>0<=q/\0<=r/\q*v1+r=top/\bg gb<(q+1)*g9/\tm 15=.J (.int .i64 q)/\tm 16=.J (.int .i64 r)) (λ(q,_)=>q.toNat) (top/v1,top%v1)
      (by
       refine⟨mv,Vw _ (by omega),?_,ar7,rfl,rfl⟩;have:=BG top v1;rw[nh (top/v1)];omega) ?_
     intro vs ms aT aR;simp only[go_sem,go_sem_proc,gh,fL,k0,eI,jy,k1,b6,iN,gp,zH,ji,nW,GI,OS,afr] at aT aR;subst aT aR;rintro⟨q,r⟩ tm mem' Q hm ⟨zR,asf,DQ,sC,vq,sD⟩;simp only[go_sem,go_sem_proc,gh,fL,k0,eI,jy,k1,bb] at Q hm;obtain⟨hP,mY,nZ,mx,my,wU⟩:=Q;obtain⟨yn,BS⟩:=hm;have aJO:0<=q*v1:=yh zR (by omega);have aJP:q*524288<=q*v1:=zJ nO zR;have aJQ:0<=q*v0:=yh zR pO.1;have aJR:q*v0<=q*1048576:=zJ (by omega) zR;have yo:IntKind.i64.wrap (q*v0)=q*v0:=wrap64 _ (by omega) (by omega);have O2:IntKind.i64.wrap (q-1)=q-1:=wrap64 _ (by omega) (by omega);have O3:IntKind.i64.wrap (r+v1)=r+v1:=wrap64 _ (by omega) (by omega);have O4:IntKind.i64.wrap (r*2^min (Dv 20) 64)=r*1048576:=by rw[show min (Dv 20) 64=20 by decide];exact wrap64 _ (by omega) (by omega)
     have O5:bits .or .i64 (r*1048576) t0=r*1048576+t0:=TR r t0 asf (by omega) BH
     have N1:(q>=1048576\/q*v0>r*1048576+t0)->∃bo:Int×Int,bo.1.toNat<q.toNat/\0<=bo.1/\0<=bo.2/\bo.1*v1+bo.2=top/\bg gb<(bo.1+1)*g9/\R.J (Data.int .i64 (q-1))=R.J (Data.int .i64 bo.1)/\R.J (Data.int .i64 (r+v1))=R.J (Data.int .i64 bo.2):=by
      intro G;have F:=arD vp cN gr VK ON zR (by omega) VE DQ G
      have VS:0<q:=by
       rcases dA (0<q) with h|h
       ·exact h
       ·obtain rfl:q=0:=by omega
        have:=o8 rC;omega
      exact⟨(q-1,r+v1),by dsimp only;omega,by dsimp only;omega,by dsimp only;omega,by dsimp only;rw[afc];omega,by dsimp only;rw[Int.sub_add_cancel];exact F,rfl,rfl⟩
     by_cases gQ:q>=1048576
     ·simp only[go_sem,go_sem_proc,gh,fL,k0,eI,jy,k1,hP,mY,nZ,mx,my,wU,yn,BS,vq,sD,gQ,O2,O3,DU,KR,decide_true,cK,ak];repeat' (first|refine aw ?_ ?_|fail)<;>intro h<;>simp only[h,go_sem,go_sem_proc,gh,fL,k0,eI,jy,k1,hP,mY,nZ,mx,my,wU,yn,BS,vq,sD,gQ,O2,O3,DU,KR,decide_true,cK,ak]
      exact N1 (.inl gQ)
     ·by_cases uQ:r<1048576
      ·by_cases pP:q*v0>r*1048576+t0
       ·simp only[go_sem,go_sem_proc,gh,fL,k0,eI,jy,k1,hP,mY,nZ,mx,my,wU,yn,BS,vq,sD,gQ,uQ,pP,yo,O2,O3,O4,O5,oF,DU,OT,OU,hH,OV,pb,KR,OX,decide_true,decide_false,cK,ak,show ¬ ((20:Int)<0) by omega]
        repeat' (first|refine aw ?_ ?_|fail)<;>intro h<;>simp only[h,go_sem,go_sem_proc,gh,fL,k0,eI,jy,k1,hP,mY,nZ,mx,my,wU,yn,BS,vq,sD,gQ,uQ,pP,yo,O2,O3,O4,O5,oF,DU,OT,OU,hH,OV,pb,KR,OX,decide_true,decide_false,cK,ak,show ¬ ((20:Int)<0) by omega]
        exact N1 (.inr pP)
       ·have nf:=VR mem' yn q zR (by omega) sC (afb vp cN gr ⟨VK,VJ⟩ afs zR (by omega) nO pO BH.1 DQ (.inr (by omega)));simp only[go_sem,go_sem_proc,gh,fL,k0,eI,jy,k1,hP,mY,nZ,mx,my,wU,yn,BS,vq,sD,gQ,uQ,pP,yo,O4,O5,oF,tR,DU,OT,OU,hH,OV,pb,OX,jj,OY,nf,OZ,O1,O0,BM,DS,decide_true,decide_false,cK,ak,show ¬ ((20:Int)<0) by omega]
        repeat' (first|refine aw ?_ ?_|fail)<;>intro h<;>simp only[h,go_sem,go_sem_proc,gh,fL,k0,eI,jy,k1,hP,mY,nZ,mx,my,wU,yn,BS,vq,sD,gQ,uQ,pP,yo,O4,O5,oF,tR,DU,OT,OU,hH,OV,pb,OX,jj,OY,nf,OZ,O1,O0,BM,DS,decide_true,decide_false,cK,ak,show ¬ ((20:Int)<0) by omega]
        exact ix
      ·have nf:=VR mem' yn q zR (by omega) sC (afb vp cN gr ⟨VK,VJ⟩ afs zR (by omega) nO pO BH.1 DQ (.inl (by omega)));simp only[go_sem,go_sem_proc,gh,fL,k0,eI,jy,k1,hP,mY,nZ,mx,my,wU,yn,BS,vq,sD,gQ,uQ,oF,tR,jj,OY,nf,OZ,O1,O0,BM,DS,decide_true,decide_false,cK,ak];repeat' (first|refine aw ?_ ?_|fail)<;>intro h<;>simp only[h,go_sem,go_sem_proc,gh,fL,k0,eI,jy,k1,hP,mY,nZ,mx,my,wU,yn,BS,vq,sD,gQ,uQ,oF,tR,jj,OY,nf,OZ,O1,O0,BM,DS,decide_true,decide_false,cK,ak]
       exact ix
def ee:Nat:=1048576^60
def bO (z:Int):Raw:=(z.sign,aJ z.natAbs)
def im (a:Raw):Int:=a.1*bg a.2
theorem fS (z:Int):im (bO z)=z:=by
 unfold im bO;rw[lS];exact VT z
theorem KS (d:Int):nU d=true↔0<=d/\d<1048576:=by
 unfold nU;simp;omega
theorem jR (a:Raw):dE a=true↔∃z:Int,z.natAbs<ee/\a=bO z:=by
 obtain⟨s,l⟩:=a;unfold dE ee;rw[ec,jc]
 constructor
 ·rintro⟨F,I⟩;have aa:eU l:=λd aa=>(KS d).1 (F d aa)
  split at I
  ·rename_i h;have aq:l=[]:=qs (by simpa using h);subst aq;have U:s=0:=by simpa using I
   subst U;exact⟨0,by simp,rfl⟩
  ·rename_i h;simp at I;obtain⟨⟨U,hlen⟩,VU⟩:=I;have G:=canon aa (by simpa using VU);have hv:=o8 aa
   have aJS:bg l≠0:=by
    intro al;rw[al] at G;rw[G] at h;simp[sx] at h
   refine⟨s*bg l,?_,?_⟩
   ·have:(s*bg l).natAbs=(bg l).toNat:=by rw[qG];rcases U with rfl|rfl<;>simp<;>omega
    rw[this,<-gG,<-G];exact hlen
   ·unfold bO;have:(s*bg l).natAbs=(bg l).toNat:=by rw[qG];rcases U with rfl|rfl<;>simp<;>omega
    rw[this,<-G]
    congr 1
    rcases U with rfl|rfl
    ·rw[nY,jS (by omega)]
    ·rw[Int.neg_mul,nY,DV,jS (by omega)]
 ·rintro⟨z,aS,h⟩
  cases h;refine⟨λd aa=>(KS d).2 (mT _ d aa),?_⟩
  by_cases al:z=0
  ·subst al;rfl
  ·have aK:aJ z.natAbs≠[]:=by rw[Ne,zx];omega
   rw[ae (by simp;exact aK)];have aq:=gG.2 aS;have iR:=aes z.natAbs;simp only[ec,Bool.or_eq_true,beq_iff_eq,decide_eq_true_eq,bne_iff_ne,ne_eq];refine⟨⟨?_,aq⟩,iR⟩;rcases yk z 0 with h|h|h
   ·exact .inr (rD h)
   ·exact absurd h al
   ·exact .inl (jS h)
theorem k2 {z:Int}(h:z.natAbs<ee):dE (bO z)=true:=(jR _).2 ⟨z,h,rfl⟩
def GK (c:Raw):Raw×Int:=if decide ((c.2.length:Int)>60)=true then ((0,[]),6) else (c,0)
def sE (z:Int):Raw×Int:=if z.natAbs<ee then (bO z,0) else ((0,[]),6)
def fT (x:Raw×Int):Data:=.cI [.agg (db x.1),.int .i64 x.2]
theorem asg (s:Int)(n:Nat):kh s (aJ n)=if n=0 then (0,[]) else (s,aJ n):=by
 unfold kh;rw[aer]
 by_cases h:n=0
 ·subst h;rfl
 ·have:aJ n≠[]:=by rw[Ne,zx];exact h
  rw[ae h,ae (by simp;exact this)]
theorem pQ {s:Int}{n:Nat}{z:Int}(h:z.natAbs=n)(U:n≠0->s=z.sign):kh s (aJ n)=bO z:=by
 rw[asg];subst h
 by_cases al:z.natAbs=0
 ·obtain rfl:z=0:=by omega
  rfl
 ·rw[ae al,U al]
  rfl
theorem BT (z:Int):GK (bO z)=sE z:=by
 unfold GK sE bO ee;have:=gG (n:=z.natAbs) (k:=60)
 by_cases h:z.natAbs<1048576^60
 ·have:=this.2 h;rw[ae (by simp;omega),ad h]
 ·have:=mt this.1 h;rw[ad (by simp;omega),ae h]
abbrev VV:Bool×Int×(List Int)->List Data:=λ(r,s,l)=>[.bool r,.agg [.int .i64 s,.Y (l.map ag)]]
def KT:=cp VV λ(r,s,l)=>some (.same (fT (if r=true then GK (s,l) else ((0,[]),1))))
theorem ash:∀a b,VV a=VV b->a=b:=by
  rintro⟨eY,s1,dY⟩ ⟨eh,s2,ai⟩ h;simp only[bb,Data.bool.injEq,Data.agg.injEq,Data.int.injEq,Data.Y.injEq] at h;exact ed h.1 (ed h.2.1.1.2 (map_inj fj _ _ h.2.1.2.1))
@[go_sem] theorem GL (r:Bool)(s:Int)(l:List Int):KT [.bool r,.agg [.int .i64 s,.Y (l.map ag)]]=some (.same (fT (if r=true then GK (s,l) else ((0,[]),1)))):=cA ash (r,s,l)
theorem asi (T:bh)  (r:Bool) (s:Int) (l:List Int):WP T UL (.same (fT (if r=true then GK (s,l) else ((0,[]),1)))) [.J (.bool r),.J (.agg [.int .i64 s,.Y (l.map ag)])]:=by
 refine cB ?_;simp only[UL]
 cases r
 ·refine aX ?_;repeat' (intro h<;>simp only[h,go_sem,go_sem_proc,ak]<;>try refine aw ?_ ?_)
  rfl
 ·refine aX ?_;repeat' (intro h<;>simp only[h,go_sem,go_sem_proc,ak]<;>try refine aw ?_ ?_)
  all_goals (simp only[fT,db,GK];simp only[c1, *,reduceIte,c8,dD,u3,sq,lR,pL,zu,gT,iQ,fz,kO,beq_self_eq_true,bne])
def jT (a:Raw):Raw:=if dE a=true then bO (-im a) else (0,[])
theorem afu (z:Int):kh (-z.sign) (aJ z.natAbs)=bO (-z):=pQ (by omega) λ_=>by rw[DV]
def O6:=cp BE λ(s,l)=>cV (D l<=1000000) (.same (.agg (db (jT (s,l)))))
@[go_sem] theorem aJT (s:Int)(l:List Int)(G:(D l)<=1000000):O6 [.agg [.int .i64 s,.Y (l.map ag)]]=some (.same (.agg (db (jT (s,l))))):=(cA Gp (s,l)).trans (cY G _)
theorem asj (T:bh)(dI:T kX=aV wK)(fL:T va=aV BD)(fB:T o9=aV BF)(s:Int)(l:List Int)(G:(D l)<=1000000):WP T UI (.same (.agg (db (jT (s,l))))) [.J (.agg [.int .i64 s,.Y (l.map ag)])]:=by
 refine cB ?_;simp only[UI]
 by_cases ab:dE (s,l)=true
 ·obtain⟨z,aS,e⟩:=(jR _).1 ab;have aA:jT (s,l)=bO (-z):=by unfold jT;rw[ad ab,e,fS]
  cases e
  have hw:IntKind.i64.wrap (0-z.sign) = -z.sign:=by
   have:=afv z;rw[fi _];omega
  rw[aA];refine aX ?_;repeat' (intro h<;>simp only[h,go_sem,go_sem_proc,dI,fL,fB,ab,G,hw,afu,db]<;>try refine aw ?_ ?_)
 ·have ab:dE (s,l)=false:=by simpa using ab
  have aA:jT (s,l)=(0,[]):=by unfold jT;rw[ab];rfl
  rw[aA];refine aX ?_;repeat' (intro h<;>simp only[h,go_sem,go_sem_proc,dI,fL,fB,ab,G,db,c1]<;>try refine aw ?_ ?_)
theorem nn (a:Raw):(a.1,a.2)=a:=rfl
def mulR (a b:Raw):Raw×Int:=if (dE a&&dE b)=true then sE (im a*im b) else ((0,[]),1)
theorem BU {x y:Int}(O:x.natAbs<ee)(ar:y.natAbs<ee):mulR (bO x) (bO y)=sE (x*y):=by
 unfold mulR;rw[k2 O,k2 ar,fS,fS]
 rfl
theorem rE {z:Int}(h:z.natAbs<ee):(aJ z.natAbs).length<=60:=gG.2 h
theorem rF (z:Int):-1<=z.sign/\z.sign<=1:=by
 have:=afv z;omega
abbrev vr:Int×(List Int)×Int×(List Int)->List Data:=λ(s,l,s2,ai)=>[.agg [.int .i64 s,.Y (l.map ag)],.agg [.int .i64 s2,.Y (ai.map ag)]]
def GM:=cp vr λ(s,l,s2,ai)=>cV (D l<=1000000/\D ai<=1000000) (.same (fT (mulR (s,l) (s2,ai))))
theorem yp:∀a b,vr a=vr b->a=b:=by
  rintro⟨s1,dY,BV,BW⟩ ⟨s2,ai,BX,BZ⟩ h;simp only[bb,Data.agg.injEq,Data.int.injEq,Data.Y.injEq] at h;exact ed h.1.1.2 (ed (map_inj fj _ _ h.1.2.1) (ed h.2.1.1.2 (map_inj fj _ _ h.2.1.2.1)))
@[go_sem] theorem aJU (s:Int)(l:List Int)(s2:Int)(ai:List Int)(G:(D l)<=1000000/\D ai<=1000000):GM [.agg [.int .i64 s,.Y (l.map ag)],.agg [.int .i64 s2,.Y (ai.map ag)]]=some (.same (fT (mulR (s,l) (s2,ai)))):=(cA yp (s,l,s2,ai)).trans (cY G _)
theorem asl (T:bh)(dI:T kX=aV wK)(jy:T Gb=aV OI)(fB:T o9=aV BF)(mZ:T u9=aV KT)(s:Int)(l:List Int)(s2:Int)(ai:List Int)(G:(D l)<=1000000/\D ai<=1000000):WP T UG (.same (fT (mulR (s,l) (s2,ai)))) [.J (.agg [.int .i64 s,.Y (l.map ag)]),.J (.agg [.int .i64 s2,.Y (ai.map ag)])]:=by
 refine cB ?_;simp only[UG];obtain⟨ck,cq⟩:=G
 by_cases ab:dE (s,l)=true
 ·by_cases bG:dE (s2,ai)=true
  ·obtain⟨x,O,e⟩:=(jR _).1 ab;obtain⟨y,ar,aC⟩:=(jR _).1 bG;have hm:mulR (s,l) (s2,ai)=sE (x*y):=by rw[e,aC];exact BU O ar
   rw[hm];clear hm
   cases e
   cases aC;have F:=rF x;have I:=rF y;have aE:x.sign*y.sign=(x*y).sign:=(Int.sign_mul x y).symm;have af:=rF (x*y);have hw:IntKind.i64.wrap (x.sign*y.sign)=(x*y).sign:=by rw[aE];exact wrap64 _ (by omega) (by omega)
   have hmul:=Vp x.natAbs y.natAbs ⟨eP (rE O) (by omega),eP (rE ar) (by omega)⟩;simp only[b1] at hmul
   have hlen:(aJ (x.natAbs*y.natAbs)).length<=1000000:=by
    refine eP ((gG (k:=120)).2 ?_) (by omega);have:(1048576^120:Nat)=ee*ee:=by unfold ee;rw[<-Nat.pow_add]
    rw[this];exact Nat.mul_lt_mul'' O ar
   have U:kh (x*y).sign (aJ (x.natAbs*y.natAbs))=bO (x*y):=pQ (qG x y) λ_=>rfl;refine aX ?_;repeat' (intro h<;>simp only[h,go_sem,go_sem_proc,dI,jy,fB,mZ,ab,bG,ck,cq,hw,hmul,hlen,U,BT,db,fT,nn]<;>try refine aw ?_ ?_)
  ·have bG:dE (s2,ai)=false:=by simpa using bG
   have hm:mulR (s,l) (s2,ai)=((0,[]),1):=by unfold mulR;rw[bG,iQ];rfl
   rw[hm];have oL:=GL false 0 [];simp only[c1] at oL;refine aX ?_;repeat' (intro h<;>simp only[h,go_sem,go_sem_proc,dI,jy,fB,mZ,ab,bG,ck,cq,oL,db,fT,c1]<;>try refine aw ?_ ?_)
 ·have ab:dE (s,l)=false:=by simpa using ab
  have hm:mulR (s,l) (s2,ai)=((0,[]),1):=by unfold mulR;rw[ab,fz];rfl
  rw[hm];have oL:=GL false 0 [];simp only[c1] at oL;refine aX ?_;repeat' (intro h<;>simp only[h,go_sem,go_sem_proc,dI,jy,fB,mZ,ab,ck,cq,oL,db,fT,c1]<;>try refine aw ?_ ?_)
def sF (a b:Raw):Raw×Int:=if (dE a&&dE b)=true then sE (im a+im b) else ((0,[]),1)
theorem afw {x y:Int}(O:x.natAbs<ee)(ar:y.natAbs<ee):sF (bO x) (bO y)=sE (x+y):=by
 unfold sF;rw[k2 O,k2 ar,fS,fS]
 rfl
theorem O7 (a b:Nat):(aJ (a-b)).length<=(aJ a).length:=by
 rw[gG];exact vk (Nat.sub_le a b) (gG.1 (bW _))
def VW:=cp vr λ(s,l,s2,ai)=>cV (D l<=1000000/\D ai<=1000000) (.same (fT (sF (s,l) (s2,ai))))
@[go_sem] theorem aJV (s:Int)(l:List Int)(s2:Int)(ai:List Int)(G:(D l)<=1000000/\D ai<=1000000):VW [.agg [.int .i64 s,.Y (l.map ag)],.agg [.int .i64 s2,.Y (ai.map ag)]]=some (.same (fT (sF (s,l) (s2,ai)))):=(cA yp (s,l,s2,ai)).trans (cY G _)
theorem asm (T:bh)(dI:T kX=aV wK)(yq:T Ub=aV Vf)(mz:T Kl=aV OG)(mA:T Gc=aV OH)(gh:T Dz=aV KH)(fB:T o9=aV BF)(mZ:T u9=aV KT)(s:Int)(l:List Int)(s2:Int)(ai:List Int)(G:(D l)<=1000000/\D ai<=1000000):WP T UP (.same (fT (sF (s,l) (s2,ai)))) [.J (.agg [.int .i64 s,.Y (l.map ag)]),.J (.agg [.int .i64 s2,.Y (ai.map ag)])]:=by
 refine cB ?_;simp only[UP];obtain⟨ck,cq⟩:=G
 by_cases ab:dE (s,l)=true
 ·by_cases bG:dE (s2,ai)=true
  ·obtain⟨x,O,e⟩:=(jR _).1 ab;obtain⟨y,ar,aC⟩:=(jR _).1 bG;have hm:sF (s,l) (s2,ai)=sE (x+y):=by rw[e,aC];exact afw O ar
   rw[hm];clear hm
   cases e
   cases aC;have F:=rF x;have I:=rF y;have n0:=rE O;have kZ:=rE ar;have aJW:=VT x;have aJX:=VT y
   have B0:(x.sign=1/\0<x)\/(x.sign=0/\x=0)\/(x.sign = -1/\x<0):=by
    rcases yk x 0 with h|h|h
    ·exact .inr (.inr ⟨rD h,h⟩)
    ·exact .inr (.inl ⟨by rw[h];rfl,h⟩)
    ·exact .inl ⟨jS h,h⟩
   have ty:(y.sign=1/\0<y)\/(y.sign=0/\y=0)\/(y.sign = -1/\y<0):=by
    rcases yk y 0 with h|h|h
    ·exact .inr (.inr ⟨rD h,h⟩)
    ·exact .inr (.inl ⟨by rw[h];rfl,h⟩)
    ·exact .inl ⟨jS h,h⟩
   have iB:=aeL x.natAbs y.natAbs ⟨by omega,by omega⟩
   simp only[b1] at iB
   have hlen:(aJ (x.natAbs+y.natAbs)).length<=1000000:=by
    refine eP ((gG (k:=61)).2 ?_) (by omega);have:(1048576^61:Nat)=ee*1048576:=by unfold ee;rw[<-wD]
    omega
   have wQ:=aq6 [x.sign,y.sign] (by simp);simp only[eE,c1,ag] at wQ;have gR:=Vh x.natAbs y.natAbs ⟨by omega,by omega⟩
   simp only[b1] at gR
   by_cases aE:x.sign*y.sign>=0
   ·have hw:IntKind.i64.wrap (x.sign*y.sign)=x.sign*y.sign:=by
     rcases B0 with ⟨e,_⟩|⟨e,_⟩|⟨e,_⟩<;>rw[e]<;>exact wrap64 _ (by omega) (by omega)
    have U:kh (zG [x.sign,y.sign]) (aJ (x.natAbs+y.natAbs))=bO (x+y):=by
     refine pQ ?_ ?_
     ·rcases B0 with ⟨e,_⟩|⟨e,_⟩|⟨e,_⟩<;>rcases ty with ⟨e',_⟩|⟨e',_⟩|⟨e',_⟩<;>rw[e,e'] at aE<;>omega
     ·intro aK;rcases B0 with ⟨e,_⟩|⟨e,_⟩|⟨e,_⟩<;>rcases ty with ⟨e',_⟩|⟨e',_⟩|⟨e',_⟩<;>rw[e,e'] at aE ⊢
      ·exact (jS (by omega)).symm
      ·exact (jS (by omega)).symm
      ·omega
      ·exact (jS (by omega)).symm
      ·omega
      ·exact (rD (by omega)).symm
      ·omega
      ·exact (rD (by omega)).symm
      ·exact (rD (by omega)).symm
    simp only[go_sem,go_sem_proc,dI,yq,mz,mA,gh,fB,mZ,ab,bG,ck,cq,hw,aE,decide_true,wQ,iB,hlen,U,BT,db,fT,nn];repeat' (first|refine aw ?_ ?_|fail)<;>intro h<;>simp only[h,go_sem,go_sem_proc,dI,yq,mz,mA,gh,fB,mZ,ab,bG,ck,cq,hw,aE,decide_true,wQ,iB,hlen,U,BT,db,fT,nn]
   ·have hw:IntKind.i64.wrap (x.sign*y.sign)=x.sign*y.sign:=by
     rcases B0 with ⟨e,_⟩|⟨e,_⟩|⟨e,_⟩<;>rw[e]<;>exact wrap64 _ (by omega) (by omega)
    by_cases ay:x.natAbs<y.natAbs
    ·have wV:decide (hF x.natAbs y.natAbs<0)=true:=by unfold hF;rw[ad (by simp;omega)];rfl
     have jj:=Vn y.natAbs x.natAbs ⟨by omega,by omega⟩
     simp only[b1] at jj;have KU:(aJ (y.natAbs-x.natAbs)).length<=1000000:=eP (O7 _ _) (by omega)
     have U:kh y.sign (aJ (y.natAbs-x.natAbs))=bO (x+y):=by
      refine pQ ?_ ?_
      ·rcases B0 with ⟨e,_⟩|⟨e,_⟩|⟨e,_⟩<;>rcases ty with ⟨e',_⟩|⟨e',_⟩|⟨e',_⟩<;>rw[e,e'] at aE<;>omega
      ·intro aK;rcases B0 with ⟨e,_⟩|⟨e,_⟩|⟨e,_⟩<;>rcases ty with ⟨e',_⟩|⟨e',_⟩|⟨e',_⟩<;>rw[e,e'] at aE<;>rw[e']<;>first|omega|exact (jS (by omega)).symm|exact (rD (by omega)).symm
     simp only[go_sem,go_sem_proc,dI,yq,mz,mA,gh,fB,mZ,ab,bG,ck,cq,hw,aE,decide_false,gR,wV,jj,KU,U,BT,db,fT,nn];repeat' (first|refine aw ?_ ?_|fail)<;>intro h<;>simp only[h,go_sem,go_sem_proc,dI,yq,mz,mA,gh,fB,mZ,ab,bG,ck,cq,hw,aE,decide_false,gR,wV,jj,KU,U,BT,db,fT,nn]
    ·have wV:decide (hF x.natAbs y.natAbs<0)=false:=by unfold hF;rw[ae (by simp;omega)];split<;>rfl
     have jj:=Vn x.natAbs y.natAbs ⟨by omega,by omega⟩
     simp only[b1] at jj;have KU:(aJ (x.natAbs-y.natAbs)).length<=1000000:=eP (O7 _ _) (by omega)
     have U:kh x.sign (aJ (x.natAbs-y.natAbs))=bO (x+y):=by
      refine pQ ?_ ?_
      ·rcases B0 with ⟨e,_⟩|⟨e,_⟩|⟨e,_⟩<;>rcases ty with ⟨e',_⟩|⟨e',_⟩|⟨e',_⟩<;>rw[e,e'] at aE<;>omega
      ·intro aK;rcases B0 with ⟨e,_⟩|⟨e,_⟩|⟨e,_⟩<;>rcases ty with ⟨e',_⟩|⟨e',_⟩|⟨e',_⟩<;>rw[e,e'] at aE<;>rw[e]<;>first|omega|exact (jS (by omega)).symm|exact (rD (by omega)).symm
     simp only[go_sem,go_sem_proc,dI,yq,mz,mA,gh,fB,mZ,ab,bG,ck,cq,hw,aE,decide_false,gR,wV,jj,KU,U,BT,db,fT,nn];repeat' (first|refine aw ?_ ?_|fail)<;>intro h<;>simp only[h,go_sem,go_sem_proc,dI,yq,mz,mA,gh,fB,mZ,ab,bG,ck,cq,hw,aE,decide_false,gR,wV,jj,KU,U,BT,db,fT,nn]
  ·have bG:dE (s2,ai)=false:=by simpa using bG
   have hm:sF (s,l) (s2,ai)=((0,[]),1):=by unfold sF;rw[bG,iQ];rfl
   rw[hm];have oL:=GL false 0 [];simp only[c1] at oL;simp only[go_sem,go_sem_proc,dI,yq,mz,mA,gh,fB,mZ,ab,bG,ck,cq,oL,db,fT,c1];repeat' (first|refine aw ?_ ?_|fail)<;>intro h<;>simp only[h,go_sem,go_sem_proc,dI,yq,mz,mA,gh,fB,mZ,ab,bG,ck,cq,oL,db,fT,c1]
 ·have ab:dE (s,l)=false:=by simpa using ab
  have hm:sF (s,l) (s2,ai)=((0,[]),1):=by unfold sF;rw[ab,fz];rfl
  rw[hm];have oL:=GL false 0 [];simp only[c1] at oL;simp only[go_sem,go_sem_proc,dI,yq,mz,mA,gh,fB,mZ,ab,ck,cq,oL,db,fT,c1];repeat' (first|refine aw ?_ ?_|fail)<;>intro h<;>simp only[h,go_sem,go_sem_proc,dI,yq,mz,mA,gh,fB,mZ,ab,ck,cq,oL,db,fT,c1]
end Go.Mini
