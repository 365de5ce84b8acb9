/- A part of the proof. -/
import Derived.LoopN
import Derived.Laws.BitsLemmas
import Derived.ChangeSame
import Derived.Handed
import Derived.JoinedOf
import Derived.JoinedCond
import Derived.OpenShut
import Derived.ProofKit
import Derived.Test.YtgpioapepokkbaaGreatM01
set_option linter.unusedSimpArgs false
set_option linter.unusedVariables false
set_option maxRecDepth 100000
set_option maxHeartbeats 4000000
noncomputable section
open Bool renaming and_eq_true->e4,and_false->h6,and_true->vu,false_and->fS,false_eq_true->kX,false_or->ru,not_false->dt,not_true->cK,or_false->l2,or_true->vt,true_and->gW,true_or->sw
open Classical renaming choose->tO,choose_spec->o7
open Decidable renaming em->dA
open Int renaming add_comm->yw,add_mul->tZ,add_mul_ediv_left->afR,add_mul_emod_self_left->afT,add_zero->sL,bmod_def->afk,cast_ofNat_Int->l6,ediv_eq_zero_of_lt->We,ediv_lt_of_lt_mul->afU,ediv_nonneg->Wg,emod_add_mul_ediv->BF,emod_emod_of_dvd->afl,emod_eq_of_lt->Wf,emod_lt_of_pos->Wi,emod_nonneg->Wh,lt_trichotomy->yy,mul_add->ix,mul_assoc->iy,mul_comm->nt,mul_le_mul->V9,mul_le_mul_of_nonneg_left->zW,mul_le_mul_of_nonneg_right->m3,mul_left_comm->Wj,mul_nonneg->yv,mul_one->vI,mul_right_comm->BO,mul_sub->GQ,mul_zero->ub,natAbs_mul->qH,natCast_ediv->afQ,natCast_emod->afS,natCast_mul->agd,natCast_pow->DZ,natCast_zero->lF,one_mul->n8,pow_add->afO,pow_pos->G0,pow_succ->ns,sign_eq_neg_one_of_neg->rF,sign_eq_one_of_pos->j3,sign_mul_natAbs->WE,sign_neg->D6,sign_trichotomy->agp,sub_mul->af5,sub_zero->Ld,tdiv_eq_ediv_of_nonneg->GU,tmod_eq_emod_of_nonneg->Le,toNat->DF,toNat_natCast->jX,zero_add->DY
open List renaming all_cons->Gq,all_eq_true->kG,append_assoc->gM,append_inj->GK,append_nil->fC,concat_eq_append->Bv,cons_append->jW,drop->fT,drop_append->oG,drop_drop->Gk,drop_eq_getElem_cons->im,drop_eq_nil_of_le->jQ,drop_left->Ue,drop_length->Uh,drop_set_of_lt->tG,drop_zero->l1,eq_nil_of_length_eq_zero->tC,eq_nil_or_concat->Bu,flatMap_cons->qy,flatten_cons->jL,getElem?_append->FW,getElem?_drop->lv,getElem?_eq_getElem->bx,getElem?_eq_some_iff->dP,getElem?_map->bl,getElem?_take_of_lt->pL,getElem_set_self->zX,length->D,length_append->fH,length_cons->hN,length_drop->ry,length_eq_one_iff->aeQ,length_map->al,length_nil->lD,length_range->sA,length_set->hP,length_take->gf,mapM_cons->lu,mapM_nil->Gp,map_cons->eG,map_nil->cV,mem_append->ko,mem_attach->aeV,mem_cons->hj,mem_flatMap->yd,mem_iff_getElem?->qz,mem_map->ek,mem_of_getElem?->ec,mem_of_mem_drop->Lk,mem_of_mem_take->F7,mem_range->ha,mem_replicate->GR,mem_singleton->uc,nil_append->jo,range->dS,replicate->dG,replicate_succ->qo,take->fN,take_add_one->hv,take_append_drop->sx,take_left->Ud,take_of_length_le->dy,take_succ_cons->wP,take_zero->m0
open List.cons renaming inj->w2,injEq->ba
open Nat renaming add_assoc->qn,add_mul->qg,add_sub_cancel_left->Gu,add_zero->nZ,and_two_pow_sub_one_eq_mod->afm,div_eq_of_lt->Ug,div_lt_iff_lt_mul->afj,eq_zero_or_pos->k4,le_refl->bZ,le_trans->eQ,lt_of_le_of_lt->vL,lt_or_ge->il,min_eq_left->oE,mod_eq_of_lt->KE,mul_comm->rz,mul_le_mul_left->agf,mul_one->cL,pow_le_pow_right->w7,pow_succ->wR,strongRecOn->T6,zero_add->kY,zero_le->fv,zero_mul->Dz
open Option renaming bind_eq_bind->hg,bind_eq_some_iff->eo,bind_some->kK,map_eq_some_iff->eb,map_some->lB,pure_def->g9
open Option.some renaming inj->o3,injEq->cn
open Prod renaming ext->dT,ext_iff->yr
open Prod.mk renaming injEq->fb
namespace Go.Mini
open Go
variable {P:Program} {T:bd} {A:Nat->Prop} {en w:World} {hi B:e9} {mem:Mem} {n kb:Nat} {own:List Nat} {aN:Exit->Act->World->Prop}
theorem aeK {k:Key}{aZ mr:Nat->Prop}{bu:e9}{v:Value}{sz:Nat}{e:mu}(he:B k=some e)(aA:bs w aZ bu .nil v):bs w mr B (.ref k e.g sz 0 0) v:=by
 cases aA;exact .ref he (bZ _) ⟨_,0,rfl,bZ _,fv _,.inl rfl⟩
theorem Du {k:Key}{g i:Nat}{cs:List R}{m m':R}{w1:World}(b2:fr A w B mem)(O:mem k=some (g,cs))(M:cs[i]?=some m)
  (aA:∀e b v,B k=some e->e.dx=some b->w.cell? ⟨b,i,none⟩=some v->bs w (cg A B) B m' v):∃bu,eE A w B w bu (a4 mem k g (cs.set i m')):=by
 obtain⟨e,he,cj,aL,ah⟩:=b2.at_ O
 have ok:=eE.change (k:=k) (e':=e) (cs:=cs.set i m') b2 (Fr.refl _ w) (λaD fq => .inl (by rw[he] at fq;cases fq;rfl)) (λb eJ => .inr ⟨e,he,eJ⟩) (λh=>by
  have:=aL h;subst this
  rfl) (λb eJ=>by
  obtain⟨vs,T,aU,aX,hle,b0⟩:=ah b eJ;refine⟨vs,T,aU,aX,by simpa using hle,λj x Q=>?_⟩
  by_cases mC:i=j
  ·subst mC;have ay:i<D cs:=(dP.1 M).1;rw[List.getElem?_set_self ay] at Q
   cases Q;have nX:i<vs.size:=by omega
   exact⟨vs[i],Array.getElem?_eq_getElem nX,aA e b _ he eJ (by rw[cell_of_row w b i vs T (0,0) aU];exact Array.getElem?_eq_getElem nX)⟩
  ·rw[List.getElem?_set_ne mC] at Q;obtain⟨v,Kw,ab⟩:=b0.get Q;refine⟨v,?_,ab⟩;have ay:j<D cs:=(dP.1 Q).1;rw[pL ay,Array.getElem?_toList] at Kw;exact Kw)
 rw[cj] at ok;exact⟨_,ok⟩
theorem eE.move {k k':Key}{g:Nat}{cs:List R}{e:mu}(h:fr A w B mem)(O:mem k=some (g,cs))(he:B k=some e)(bG:k'≠k):
  eE A w B w (gB (gB B k ⟨bV mem k,none,0⟩) k' ⟨bV mem k',e.dx,e.size⟩) (a4 (a4 mem k (bV mem k) []) k' (bV mem k') cs):=by
 have lW:∀b,sf (gB (gB B k ⟨bV mem k,none,0⟩) k' ⟨bV mem k',e.dx,e.size⟩) b->sf B b:=by
  rintro b ⟨j,aD,ai,ah⟩
  by_cases F:j=k'
  ·subst F;rw[hf] at ai
   cases ai;exact⟨k,e,he,ah⟩
  ·rw[g8 _ _ F] at ai
   by_cases I:j=k
   ·subst I;rw[hf] at ai
    cases ai
    cases ah
   ·rw[g8 _ _ I] at ai;exact⟨j,aD,ai,ah⟩
 have mV:Trans A w B w (gB (gB B k ⟨bV mem k,none,0⟩) k' ⟨bV mem k',e.dx,e.size⟩):=by
  refine⟨bZ _,λb _ ah=>⟨rfl,λbO=>ah (.inl (lW b bO))⟩,λj aD ai=>?_⟩
  by_cases F:j=k'
  ·subst F;exact⟨_,hf _ _ _,.inr (Db h j aD ai)⟩
  ·rw[g8 _ _ F]
   by_cases I:j=k
   ·subst I;exact⟨_,hf _ _ _,.inr (Db h j aD ai)⟩
   ·rw[g8 _ _ I];exact⟨aD,ai,.inl rfl⟩
 refine⟨⟨λj ai=>?_,λj lT aC aD b F I kJ eJ=>?_,λb aP bO=>h.sep b aP (lW b bO),h.lt,λj cr n1 ai=>?_⟩,mV,Fr.refl _ _,λb ah => .inl (lW b ah)⟩
 ·simp only[a4] at ai
  by_cases F:j=k'
  ·simp[F] at ai
  ·by_cases I:j=k
   ·rw[ag F,ad I] at ai
    cases ai
   ·simp only[F,I,if_false] at ai;rw[g8 _ _ F,g8 _ _ I];exact h.A5 j ai
 ·have main:∀(j:Key) (aC:mu),gB (gB B k ⟨bV mem k,none,0⟩) k' ⟨bV mem k',e.dx,e.size⟩ j=some aC->aC.dx=some b->(j=k'/\e.dx=some b)\/(j≠k'/\j≠k/\B j=some aC):=by
   intro j aC ai ah
   by_cases F:j=k'
   ·subst F;rw[hf] at ai
    cases ai;exact .inl ⟨rfl,ah⟩
   ·rw[g8 _ _ F] at ai
    by_cases I:j=k
    ·subst I;rw[hf] at ai
     cases ai
     cases ah
    ·rw[g8 _ _ I] at ai;exact .inr ⟨F,I,ai⟩
  rcases main j aC F kJ with ⟨fc,jB⟩|⟨fc,s1,jB⟩<;>rcases main lT aD I eJ with ⟨ep,jC⟩|⟨ep,s2,jC⟩
  ·rw[fc,ep]
  ·exact absurd (h.inj k lT e aD b he jC jB eJ).symm s2
  ·exact absurd (h.inj k j e aC b he jB jC kJ).symm s1
  ·exact h.inj j lT aC aD b jB jC kJ eJ
 ·simp only[a4] at ai
  by_cases F:j=k'
  ·subst F;simp only[if_true,cn,fb] at ai;obtain⟨rfl,rfl⟩:=ai;obtain⟨bI,Kx,a7,aL,ah⟩:=h.dx k g cs O;rw[he] at Kx
   cases Kx;refine⟨_,hf _ _ _,rfl,aL,λb iS=>?_⟩;obtain⟨vs,T,af,aO,bm,bK⟩:=ah b iS;exact⟨vs,T,af,aO,bm,λi m M=>let ⟨v,aA,ab⟩:=bK i m M;⟨v,aA,ab.q8 mV⟩⟩
  ·simp only[F,if_false] at ai;rw[g8 _ _ F]
   by_cases I:j=k
   ·subst I;simp only[if_true,cn,fb] at ai;obtain⟨rfl,rfl⟩:=ai;exact⟨_,hf _ _ _,rfl,λ_=>rfl,λb ah=>by cases ah⟩
   ·simp only[I,if_false] at ai;rw[g8 _ _ I];obtain⟨bI,Kx,a7,aL,ah⟩:=h.dx j cr n1 ai;refine⟨bI,Kx,a7,aL,λb iS=>?_⟩;obtain⟨vs,T,af,aO,bm,bK⟩:=ah b iS;exact⟨vs,T,af,aO,bm,λi m M=>let ⟨v,aA,ab⟩:=bK i m M;⟨v,aA,ab.q8 mV⟩⟩
theorem hG.ghost {a:Act}{st:bb}{bu:e9}{mem':Mem}{tm':Nat->R}(h:hG n A en hi a st w B)(X:eE A w B w bu mem')(bF:∀s,tm' s=st.tm s\/bs w (cg A bu) bu (tm' s) (a.eval (.tmp s))):
  hG n A en hi a ⟨tm',mem'⟩ w bu:=by
 refine⟨h.ok.trans X,λs=>?_,h.sz,h.Kl⟩;rcases bF s with F|F
 ·simp only[F];exact (h.tm s).q8 X.mV
 ·exact F
theorem aqI {K:bb->Prop}{a:Act}{st:bb}{g:NR}(h:hG n A en hi a st w B)(O:lr K st g):∃dR bu,K dR/\hG n A en hi a dR w bu:=by
 have tB:∀x:bS,∃v,bs w (cg A B) B (a6 st.tm x) v\/∃m,x=.c m:=λx=>by
  cases x with
  |t s=>exact⟨_,.inl (h.tm s)⟩
  |c m=>exact⟨undef,.inr ⟨m,rfl⟩⟩
 cases g with
 |nU s k sz =>
  simp only[lr] at O
  split at O
  ·rename_i X;have ok:=eE.x6 h.ok.dV k;refine⟨_,_,O,h.ghost ok λt=>?_⟩
   by_cases tJ:t=s
   ·subst tJ;have:=h.tm t;rw[X] at this;simp only[fa,if_true];exact .inr (aeK (e:=⟨bV st.mem k,none,0⟩) (hf _ _ _) this)
   ·exact .inl (by simp[fa,tJ])
  ·cases O
 |freeze s =>
  simp only[lr] at O
  split at O
  ·rename_i k g sz off len X
   split at O
   ·rename_i c6 cs gm
    split at O
    ·rename_i a7;obtain⟨rfl,_⟩:=a7
     split at O
     ·rename_i d aa;have ok:=eE.x6 h.ok.dV k;refine⟨_,_,O,h.ghost ok λt=>?_⟩
      by_cases tJ:t=s
      ·subst tJ;have aA:=h.tm t;rw[X] at aA aa;simp only[fa,if_true];exact .inr (.J (Ks h.ok.dV gm aa aA))
      ·exact .inl (by simp[fa,tJ])
     ·cases O
    ·cases O
   ·cases O
  ·cases O
 |NS x i k sz =>
  simp only[lr] at O
  split at O
  ·rename_i kc g off Q
   split at O
   ·rename_i c6 cs gm
    split at O
    ·rename_i a7;subst a7
     split at O
     ·rename_i H
      split at O
      ·rename_i bG;have ok:=eE.x6 h.ok.dV k;have tK:a4 st.mem k (bV st.mem k) [] kc=some (c6,cs):=by simp[a4,Ne.symm bG,gm]
       obtain⟨e,he,cj,aL,ah⟩:=h.ok.dV.at_ gm
       obtain⟨bu,tL⟩:=Du (w1:=w) (m':=.ref k (bV st.mem k) sz 0 0) ok.dV tK H (λaD b v fq eJ aA=>by
        rw[g8 B _ (Ne.symm bG)] at fq;rw[he] at fq
        cases fq;obtain⟨vs,T,aU,aX,hle,b0⟩:=ah b eJ;have ay:off+i<D cs:=(dP.1 H).1;rw[cell_of_row w b (off+i) vs T (0,0) aU] at aA;have ab:=b0.2 (off+i) _ v H (by rw[pL ay,Array.getElem?_toList];exact aA);exact aeK (e:=⟨bV st.mem k,none,0⟩) (hf _ _ _) ab)
       exact⟨_,bu,O,h.ghost (ok.trans tL) λt => .inl rfl⟩
      ·cases O
     ·cases O
    ·cases O
   ·cases O
  ·cases O
 |NT x i =>
  simp only[lr] at O
  split at O
  ·rename_i kc gc off Q
   split at O
   ·rename_i J4 cc aeL
    split at O
    ·rename_i a7;subst a7
     split at O
     ·rename_i k g sz o len H
      split at O
      ·rename_i c6 cs gm
       split at O
       ·rename_i a7;obtain⟨rfl,_,bG⟩:=a7
        split at O
        ·rename_i d aa;have ok:=eE.x6 h.ok.dV k;have tK:a4 st.mem k (bV st.mem k) [] kc=some (J4,cc):=by simp[a4,Ne.symm bG,aeL]
         obtain⟨e,he,cj,aL,ah⟩:=h.ok.dV.at_ aeL
         obtain⟨bu,tL⟩:=Du (w1:=w) (m':=.J d) ok.dV tK H (λaD b v fq eJ aA=>by
          rw[g8 B _ (Ne.symm bG)] at fq;rw[he] at fq
          cases fq;obtain⟨vs,T,aU,aX,hle,b0⟩:=ah b eJ;have ay:off+i<D cc:=(dP.1 H).1;rw[cell_of_row w b (off+i) vs T (0,0) aU] at aA;have ab:=b0.2 (off+i) _ v H (by rw[pL ay,Array.getElem?_toList];exact aA);exact .J (Ks h.ok.dV gm aa ab))
         exact⟨_,bu,O,h.ghost (ok.trans tL) λt => .inl rfl⟩
        ·cases O
       ·cases O
      ·cases O
     ·cases O
    ·cases O
   ·cases O
  ·cases O
 |move =>
  rcases O with O|⟨fO,g0,gK,i,k,g,sz,off,len,cs,k',gV,H,yj,F,I,af,O⟩|⟨fO,g0,gK,i,k,g,sz,off,len,cs,d,gV,H,gm,-,bG,aa,O⟩
  ·exact⟨st,B,O,h⟩
  ·obtain⟨e,he,cj,aL,ah⟩:=h.ok.dV.at_ yj;have ok:=eE.move h.ok.dV yj he I;have tK:a4 (a4 st.mem k (bV st.mem k) []) k' (bV st.mem k') cs fO=some (g0,gK):=by simp[a4,Ne.symm F,Ne.symm af,gV]
   obtain⟨ex,hex,aeM,hO,Ky⟩:=h.ok.dV.at_ gV
   obtain⟨bu,tL⟩:=Du (w1:=w) (m':=.ref k' (bV st.mem k') sz off len) ok.dV tK H (λaD b v fq eJ aA=>by
    rw[g8 _ _ (Ne.symm af),g8 _ _ (Ne.symm F)] at fq;rw[hex] at fq
    cases fq;obtain⟨vs,T,aU,aX,hle,b0⟩:=Ky b eJ;have ay:i<D gK:=(dP.1 H).1;rw[cell_of_row w b i vs T (0,0) aU] at aA;have ab:=b0.2 i _ v H (by rw[pL ay,Array.getElem?_toList];exact aA)
    cases ab with
    |ref fq hgle ab =>
     rw[he] at fq
     cases fq;obtain⟨a,cap,rfl,aO,bm,bK⟩:=ab;refine .ref (hf _ _ _) (bZ _) ⟨a,cap,rfl,aO,bm,bK.imp id ?_⟩;rintro⟨fs,rfl,bP⟩;exact⟨fs,rfl,λ_=>bP cj.symm⟩)
   exact⟨_,bu,O,h.ghost (ok.trans tL) λt => .inl rfl⟩
  ·have ok:=eE.x6 h.ok.dV k;have tK:a4 st.mem k (bV st.mem k) [] fO=some (g0,gK):=by simp[a4,Ne.symm bG,gV]
   obtain⟨e,he,cj,aL,ah⟩:=h.ok.dV.at_ gV
   obtain⟨bu,tL⟩:=Du (w1:=w) (m':=.J d) ok.dV tK H (λaD b v fq eJ aA=>by
    rw[g8 B _ (Ne.symm bG)] at fq;rw[he] at fq
    cases fq;obtain⟨vs,T,aU,aX,hle,b0⟩:=ah b eJ;have ay:i<D gK:=(dP.1 H).1;rw[cell_of_row w b i vs T (0,0) aU] at aA;have ab:=b0.2 i _ v H (by rw[pL ay,Array.getElem?_toList];exact aA);exact .J (Ks h.ok.dV gm aa ab))
   exact⟨_,bu,O,h.ghost (ok.trans tL) λt => .inl rfl⟩
 |many =>
  obtain⟨mem',T3,O⟩:=O
  have main:∀{lC dN:Mem},ts lC dN->∀B,hG n A en hi a ⟨st.tm,lC⟩ w B->∃bu,hG n A en hi a ⟨st.tm,dN⟩ w bu:=by
   intro lC dN T3
   induction T3 with
   |refl mem=>exact λB h=>⟨B,h⟩
   | @step lC dN cO X _ az =>
    intro B h
    have one:∃bu,hG n A en hi a ⟨st.tm,dN⟩ w bu:=by
     cases X with
     |N0 fO g0 gK i k g sz off len cs k' gV H yj F I af =>
      obtain⟨e,he,cj,aL,ah⟩:=h.ok.dV.at_ yj;have ok:=eE.move h.ok.dV yj he I;have tK:a4 (a4 lC k (bV lC k) []) k' (bV lC k') cs fO=some (g0,gK):=by simp[a4,Ne.symm F,Ne.symm af,gV]
      obtain⟨ex,hex,aeM,hO,Ky⟩:=h.ok.dV.at_ gV
      obtain⟨bu,tL⟩:=Du (w1:=w) (m':=.ref k' (bV lC k') sz off len) ok.dV tK H (λaD b v fq eJ aA=>by
       rw[g8 _ _ (Ne.symm af),g8 _ _ (Ne.symm F)] at fq;rw[hex] at fq
       cases fq;obtain⟨vs,T,aU,aX,hle,b0⟩:=Ky b eJ;have ay:i<D gK:=(dP.1 H).1;rw[cell_of_row w b i vs T (0,0) aU] at aA;have ab:=b0.2 i _ v H (by rw[pL ay,Array.getElem?_toList];exact aA)
       cases ab with
       |ref fq hgle ab =>
        rw[he] at fq
        cases fq;obtain⟨a,cap,rfl,aO,bm,bK⟩:=ab;refine .ref (hf _ _ _) (bZ _) ⟨a,cap,rfl,aO,bm,bK.imp id ?_⟩;rintro⟨fs,rfl,bP⟩;exact⟨fs,rfl,λ_=>bP cj.symm⟩)
      exact⟨bu,h.ghost (ok.trans tL) λt => .inl rfl⟩
     |adm fO g0 gK i k g off cs k' gV H yj F I af =>
      obtain⟨e,he,cj,aL,ah⟩:=h.ok.dV.at_ yj;have ok:=eE.move h.ok.dV yj he I;have tK:a4 (a4 lC k (bV lC k) []) k' (bV lC k') cs fO=some (g0,gK):=by simp[a4,Ne.symm F,Ne.symm af,gV]
      obtain⟨ex,hex,aeM,hO,Ky⟩:=h.ok.dV.at_ gV
      obtain⟨bu,tL⟩:=Du (w1:=w) (m':=.ptr k' (bV lC k') off) ok.dV tK H (λaD b v fq eJ aA=>by
       rw[g8 _ _ (Ne.symm af),g8 _ _ (Ne.symm F)] at fq;rw[hex] at fq
       cases fq;obtain⟨vs,T,aU,aX,hle,b0⟩:=Ky b eJ;have ay:i<D gK:=(dP.1 H).1;rw[cell_of_row w b i vs T (0,0) aU] at aA;have ab:=b0.2 i _ v H (by rw[pL ay,Array.getElem?_toList];exact aA)
       cases ab with
       |ptr fq hgle ab =>
        rw[he] at fq
        cases fq;obtain⟨fs,rfl,bP⟩:=ab;exact .ptr (hf _ _ _) (bZ _) ⟨fs,rfl,λ_=>bP cj.symm⟩)
      exact⟨bu,h.ghost (ok.trans tL) λt => .inl rfl⟩
     |N1 fO g0 gK i k g sz off len cs d gV H gm bG aa =>
      have ok:=eE.x6 h.ok.dV k;have tK:a4 lC k (bV lC k) [] fO=some (g0,gK):=by simp[a4,Ne.symm bG,gV]
      obtain⟨e,he,cj,aL,ah⟩:=h.ok.dV.at_ gV
      obtain⟨bu,tL⟩:=Du (w1:=w) (m':=.J d) ok.dV tK H (λaD b v fq eJ aA=>by
       rw[g8 B _ (Ne.symm bG)] at fq;rw[he] at fq
       cases fq;obtain⟨vs,T,aU,aX,hle,b0⟩:=ah b eJ;have ay:i<D gK:=(dP.1 H).1;rw[cell_of_row w b i vs T (0,0) aU] at aA;have ab:=b0.2 i _ v H (by rw[pL ay,Array.getElem?_toList];exact aA);exact .J (Ks h.ok.dV gm aa ab))
      exact⟨bu,h.ghost (ok.trans tL) λt => .inl rfl⟩
    obtain⟨bu,cG⟩:=one;exact az bu cG
  obtain⟨bu,cG⟩:=main T3 B h;exact⟨_,bu,O,cG⟩
def erase:ez->ez
 |.skip => .skip
 |.ops l => .ops l
 |.mU l c => .mU l c
 |.seq a b => .seq (erase a) (erase b)
 |.cond c a b => .cond c (erase a) (erase b)
 |.block id c => .block id (erase c)
 |.loop c => .loop (erase c)
 |.exit id => .exit id
 |.ret => .ret
 |.ghost _ c=>erase c
def aeN:eW->Exit
 |.normal => .normal
 |.exit id => .exit id
 |.ret => .ret
def aqJ (P:Program)(n kb:Nat)(own:List Nat)(c:Code):ez->Prop
 |.skip=>c=.skip
 |.ops l=>∃id ops,c=.region id ops false/\ops.toList.mapM (A9 P n kb own ops)=some l
 |.mU l ch=>∃id ops,c=.region id ops true/\ops.toList.mapM (A9 P n kb own ops)=some l/\FT ops l=true/\ch=zp [] l (ql ops.toList [])
 |.seq x y=>∃a b,c=.seq a b/\qm P n kb own a=some x/\qm P n kb own b=some y
 |.cond x y z=>∃jm a b,c=.cond jm a b/\dL jm=some x/\qm P n kb own a=some y/\qm P n kb own b=some z
 |.block id x=>∃a,c=.block id a/\qm P n kb own a=some x
 |.loop x=>∃a,c=.loop a/\qm P n kb own a=some x
 |.exit id=>c=.exit id
 |.ret=>c=.ret
 |.ghost ..=>False
theorem zD {c:Code}{m:ez}(h:qm P n kb own c=some m):aqJ P n kb own c m:=by
 cases c<;>simp only[qm,cn,reduceCtorEq,eb] at h
 case skip=>subst h;rfl
 case region id ops draw =>
  split at h
  ·rename_i l ar
   split at h
   ·rename_i aa;subst aa
    split at h
    ·rename_i c1
     cases h;exact⟨id,ops,rfl,ar,c1,rfl⟩
    ·cases h
   ·rename_i aa
    cases h;exact⟨id,ops,by rw[Bool.not_eq_true] at aa;rw[aa],ar⟩
  ·cases h
 case seq a b =>
  split at h
  ·rename_i x y Q av
   cases h;exact⟨a,b,rfl,Q,av⟩
  ·cases h
 case cond x a b =>
  split at h
  ·rename_i jm y z Q av aX
   cases h;exact⟨x,a,b,rfl,Q,av,aX⟩
  ·cases h
 case block id a =>
  obtain⟨x,Q,rfl⟩:=h;exact⟨a,rfl,Q⟩
 case loop a =>
  obtain⟨x,Q,rfl⟩:=h;exact⟨a,rfl,Q⟩
 case exit id=>subst h;rfl
 case ret=>subst h;rfl
theorem Bn (cQ:qu P T)(hm:P.follows .mixedOrders=true):∀(Oy:ez) (c:Code) (K:eW->bb->Prop) (aN:Exit->Act->World->Prop) (st:bb) (a:Act) (w:World) (B:e9),
  qm P n kb own c=some (erase Oy)->hG n A en hi a st w B->wp T Oy K st->(∀e st a w B,K e st->hG n A en hi a st w B->aN (aeN e) a w)->c.wp P aN a w
 |.ghost g Oy,c,K,aN,st,a,w,B,a1,X,h,e5=>by
  obtain⟨dR,bu,O,iV⟩:=aqI X h;exact Bn cQ hm Oy c K aN dR a w bu a1 iV O e5
 |.skip,c,K,aN,st,a,w,B,a1,X,h,e5=>by
  obtain rfl:=zD a1;exact Go.wp_skip (e5 .normal st a w B h X)
 |.exit id,c,K,aN,st,a,w,B,a1,X,h,e5=>by
  obtain rfl:=zD a1;exact Go.wp_exit (e5 (.exit id) st a w B h X)
 |.ret,c,K,aN,st,a,w,B,a1,X,h,e5=>by
  obtain rfl:=zD a1;exact Go.wp_ret (e5 .ret st a w B h X)
 |.ops l,c,K,aN,st,a,w,B,a1,X,h,e5=>by
  obtain⟨id,ops,rfl,ar⟩:=zD a1;have:=T2 (aN:=aN) (K:=K .normal) cQ ar (λst a w B O X=>e5 .normal st a w B O X) l 0 st a w B rfl X h;refine Go.wp_region ?_;rw[(oB ar).1,Array.length_toList] at this;rw[List.range_eq_range'];exact this
 |.mU l ch,c,K,aN,st,a,w,B,a1,X,h,e5=>by
  obtain⟨id,ops,rfl,ar,aa,rfl⟩:=zD a1;exact aqG cQ hm ar aa X h λst a w B O X=>e5 .normal st a w B O X
 |.seq x y,c,K,aN,st,a,w,B,a1,X,h,e5=>by
  obtain⟨jm,y',rfl,Q,av⟩:=zD a1;refine Go.wp_seq (Bn cQ hm x jm _ _ st a w B Q X h λe dR kH aR bu O iV=>?_)
  cases e with
  |normal=>exact Bn cQ hm y y' _ _ dR kH aR bu av iV O e5
  |exit id=>exact e5 (.exit id) dR kH aR bu O iV
  |ret=>exact e5 .ret dR kH aR bu O iV
 |.cond x y z,c,K,aN,st,a,w,B,a1,X,h,e5=>by
  obtain⟨jm,y',aqK,rfl,Q,av,aX⟩:=zD a1;have aA:=X.tE jm x Q;simp only[wp] at h
  split at h
  ·rename_i t bF;rw[bF] at aA;refine Go.wp_cond aA.Dc ?_
   cases t with
   |true=>exact Bn cQ hm y y' _ _ st a w B av X h e5
   |false=>exact Bn cQ hm z aqK _ _ st a w B aX X h e5
  ·cases h
 |.block id x,c,K,aN,st,a,w,B,a1,X,h,e5=>by
  obtain⟨jm,rfl,Q⟩:=zD a1;refine Go.wp_block (Bn cQ hm x jm _ _ st a w B Q X h λe dR kH aR bu O iV=>?_)
  cases e with
  |normal=>exact e5 .normal dR kH aR bu O iV
  |exit j =>
   simp only[aeN,Exit.inBlock];simp only at O
   split
   ·rename_i ai;rw[ad ai] at O;exact e5 .normal dR kH aR bu O iV
   ·rename_i ai;rw[ag ai] at O;exact e5 (.exit j) dR kH aR bu O iV
  |ret=>exact e5 .ret dR kH aR bu O iV
 |.loop x,c,K,aN,st,a,w,B,a1,X,h,e5=>by
  obtain⟨jm,rfl,Q⟩:=zD a1;obtain⟨Da,μ,sv,Oz⟩:=h
  have key:∀m (st:bb) (a:Act) (w:World) (B:e9),μ st<m->Da st->hG n A en hi a st w B->Code.rounds P jm aN m a w:=by
   intro m
   induction m with
   |zero=>intro st a w B n2;omega
   |succ m az =>
    intro st a w B n2 sv X;refine Bn cQ hm x jm _ _ st a w B Q X (Oz st sv) λe dR kH aR bu O iV=>?_
    cases e with
    |normal=>exact az dR kH aR bu (by have:=O.2;omega) O.1 iV
    |exit id=>exact e5 (.exit id) dR kH aR bu O iV
    |ret=>exact e5 .ret dR kH aR bu O iV
  exact wp_loop_rounds (μ st+1) (key _ st a w B (Nat.lt_succ_self _) sv X)
end Go.Mini
namespace Go.Mini
open Go
variable {P:Program} {T:bd} {A:Nat->Prop} {en w:World} {hi B:e9} {mem:Mem} {n kb:Nat} {own:List Nat}
theorem aqL {a:Act}{st:bb}{r:ResultVar}{dV:oA}{m:R}(X:hG n A en hi a st w B)(a1:FU P r=some dV)(h:FN st dV=some m):
  ∃v,((match r with
   |.tmp t=>pure (a.tmps.getD t undef)
   |.cell b t=>do loadVar t (<-asAddr (a.tmps.getD b undef)):Sem Value)).run P w=.ok v w/\bs w (cg A B) B m v:=by
 cases r with
 |tmp t =>
  simp only[FU,cn] at a1;subst a1;simp only[FN,cn] at h;subst h;exact⟨_,rfl,X.tm t⟩
 |cell b t =>
  simp only[FU] at a1
  split at a1
  ·rename_i s g e8 zu;simp only[cn] at a1;subst a1;obtain⟨dx,off,ms,vs,aA,ar,b0,cp,ab⟩:=adu X.ok.dV (X.tm b) h;obtain⟨u,F,I⟩:=adt (P:=P) e8 zu ar b0 cp ab;refine⟨u,?_,I⟩;have:a.tmps.getD b undef=.pointer (some ⟨dx,off,none⟩):=aA;simp only[this,asAddr,Sem.run_bind,Sem.run_pure,Result.andThen_ok];exact F
  ·cases a1
theorem aeO {a:Act}{st:bb}(X:hG n A en hi a st w B):∀{l:List ResultVar} {rs:List oA} {ms:List R},l.mapM (FU P)=some rs->rs.mapM (FN st)=some ms ->
  ∃vs:List Value,(l.mapM λr=>((match r with
   |.tmp t=>pure (a.tmps.getD t undef)
   |.cell b t=>do loadVar t (<-asAddr (a.tmps.getD b undef)):Sem Value))).run P w=.ok vs w/\dp w (cg A B) B ms vs
 | [],rs,ms,F,I=>by
  simp at F;subst F;simp at I;subst I;exact⟨[],rfl,dp.nil⟩
 |r::l,rs,ms,F,I=>by
  simp only[lu,g9,hg,eo,cn] at F;obtain⟨x,Q,xs,Bo,rfl⟩:=F;simp only[lu,g9,hg,eo,cn] at I;obtain⟨m,hm,aJA,aS,rfl⟩:=I;obtain⟨v,aA,ab⟩:=aqL X Q hm;obtain⟨vs,aV,b0⟩:=aeO X Bo aS;refine⟨v::vs,?_,dp.cons ab b0⟩;simp only[lu,Sem.run_bind,aA,Result.andThen_ok,aV,Sem.run_pure]
theorem aeP {a:Act}{st:bb}{fn:Func}{rs:List oA}{m:R}(X:hG n A en hi a st w B)(a1:fn.results.toList.mapM (FU P)=some rs)(h:pF st rs=some m):
  ∃v,(results fn a.tmps).run P w=.ok v w/\bs w (cg A B) B m v:=by
 unfold pF at h
 have main:∀ms,rs.mapM (FN st)=some ms->∃vs:List Value,(results fn a.tmps).run P w=.ok (if h:vs.toArray.size=1 then vs.toArray[0] else .tuple vs.toArray) w/\dp w (cg A B) B ms vs:=by
  intro ms aS;obtain⟨vs,F,I⟩:=aeO X a1 aS;refine⟨vs,?_,I⟩;unfold results;rw[Array.mapM_eq_mapM_toList,map_eq_pure_bind];simp only[Sem.run_bind,Sem.run_pure];have yk:=F;generalize aT:(List.mapM _ fn.results.toList:Sem (List Value))=q;have:q.run P w=.ok vs w:=by rw[<-aT];exact yk
  rw[this]
  rfl
 split at h
 ·rename_i x aS;simp only[cn] at h;subst h;obtain⟨vs,F,I⟩:=main _ aS;have ar:=I.1;simp at ar;obtain⟨v,rfl⟩:=aeQ.1 ar;exact⟨v,F,I.2 0 _ v rfl rfl⟩
 ·rename_i ms bG aS;simp only[cn] at h;subst h;obtain⟨vs,F,I⟩:=main _ aS;have ar:=I.1;refine⟨_,F,?_⟩
  have:¬ (vs.toArray.size=1):=λh=>by
   have cG:(D ms)=1:=by rw[<-ar];simpa using h
   obtain⟨x,rfl⟩:=aeQ.1 cG;exact bG x rfl
  rw[dif_neg this];exact .cI ar I.2
 ·cases h
def T4 (mf:bN)(Post:R->Mem->Prop):eW->bb->Prop
 |.exit _,_=>False
 |_,st=>∃m,pF st mf.res=some m/\Post m st.mem
theorem Gl (cQ:qu P T)(hm:P.follows .mixedOrders=true){f:FuncId}{fn:Func}{mf:bN}(aI:P.funcs[f]?=some fn)(a1:sq P kb own fn=some { mf with body:=erase mf.body }){args:List R}(n0:(D args)<=mf.n)
  {Post:R->Mem->Prop} {K:eW->bb->Prop} (dK:∀e st,K e st->T4 mf Post e st) (h:wp T mf.body K ⟨km args,mem⟩) {A:Nat->Prop} {w:World} {B:e9} {vs:List Value} (b2:fr A w B mem) (aA:dp w (cg A B) B args vs) :
  Calls P f vs.toArray w λe aR=>∃v m mem' bu,e=.returned v/\eE A w B aR bu mem'/\bs aR (cg A bu) bu m v/\Post m mem':=by
 unfold sq at a1
 split at a1
 ·cases a1
 ·rename_i c ah
  split at a1
  ·rename_i b rs H Bp;simp only[cn,bN.mk.injEq] at a1;obtain⟨aL,aJB,vr,aqM⟩:=a1;have e8:(D vs)=D args:=aA.1;refine calls_of_wp aI ah ?_;rw[aqM] at H;refine Bn cQ hm mf.body c K _ ⟨km args,mem⟩ _ w B H ⟨.refl b2,λs=>?_,?_,rfl⟩ h λe st a aR bu Dv X=>?_
   ·simp only[km,Act.eval,Array.getD_eq_getD_getElem?];rcases il s (D vs) with ay|cj
    ·have F:args[s]?=some args[s]:=bx (by omega)
     have I:(vs.toArray++Array.replicate (fn.ntmps-vs.toArray.size) undef)[s]?=some vs[s]:=by
      rw[Array.getElem?_append_left (by simpa using ay)];simp[ay]
     rw[F,I];exact aA.2 s _ _ F (bx ay)
    ·rw[List.getElem?_eq_none (by omega),Array.getElem?_append_right (by simpa using cj)]
     have:((Array.replicate (fn.ntmps-vs.toArray.size) undef)[s-vs.toArray.size]?).getD undef=undef:=by
      cases aT:(Array.replicate (fn.ntmps-vs.toArray.size) undef)[s-vs.toArray.size]? with
      |none=>rfl
      |some u =>
       have:=Array.mem_of_getElem? aT;simp at this;simp[this.2]
     rw[this];exact .no
   ·simp;omega
   ·have O:=dK e st Dv
    cases e with
    |exit id=>cases O
    |normal =>
     obtain⟨m,n2,aF⟩:=O;obtain⟨v,mZ,vm⟩:=aeP X Bp (by rw[vr];exact n2);exact⟨X.Kl,v,mZ,v,m,_,bu,rfl,X.ok,vm,aF⟩
    |ret =>
     obtain⟨m,n2,aF⟩:=O;obtain⟨v,mZ,vm⟩:=aeP X Bp (by rw[vr];exact n2);exact⟨X.Kl,v,mZ,v,m,_,bu,rfl,X.ok,vm,aF⟩
  ·cases a1
inductive eL where
 |same (r:Data)
 |own (sz:Nat) (es:List (List Data))
def zE (w:World)(aZ:Nat->Prop)(ds:List Data)(vs:List Value):Prop:=D vs=D ds/\∀(i:Nat) (d:Data) (v:Value),ds[i]?=some d->vs[i]?=some v->Den w aZ d v
def aqN (w aR:World)(aZ:Nat->Prop):eL->Value->Prop
 |.same r,v=>Den aR aZ r v
 |.own sz es,v=>Bi w aR aZ sz es v
structure tM (P:Program) (f:FuncId) (aQ:List Data->Option eL):Prop where
 real:Real P f
 run:∀ds r,aQ ds=some r->∀(A:Nat->Prop) (w:World) (vs:List Value),(∀b,A b->b<w.heap.size)->zE w A ds vs ->
  Calls P f vs.toArray w λe aR=>∃v,e=.returned v/\Fr (λ_=>False) w aR/\aqN w aR A r v
def aeR:eL->R->Mem->Prop
 |.same r,m,mem=>∃d,cE d mem m=some r
 |.own sz es,m,mem=>(m=.nil/\es=[])\/∃k g len cs ds d,m=.ref k g sz 0 len/\mem k=some (g,cs)/\len*sz<=D cs/\(cs.take (len*sz)).mapM (cE d (kill mem k))=some ds/\es=chunk sz len ds
def rr (sz:Nat)(mem:Mem):R->Option (List (List Data))
 |.nil=>some []
 |.ref k g eu off len=>if eu=sz/\off=0 then (match mem k with
  |some (c6,cs)=>if c6=g/\len*sz<=(D cs) then ((cs.take (len*sz)).mapM (cE 6 (kill mem k))).map (chunk sz len) else none
  |none=>none) else none
 |_=>none
def zF (res:List oA):eL->bb->Prop
 |.same r,st=>(pF st res).bind (cE 6 st.mem)=some r
 |.own sz es,st=>(pF st res).bind (rr sz st.mem)=some es
def zG (res:List oA)(r:eL):eW->bb->Prop
 |.exit _,_=>False
 |.normal,st=>zF res r st
 |.ret,st=>zF res r st
theorem aeS {mf:bN}{r:eL}{st:bb}(h:zF mf.res r st):∃m,pF st mf.res=some m/\aeR r m st.mem:=by
 cases r with
 |same r =>
  simp only[zF,eo] at h;obtain⟨m,F,I⟩:=h;exact⟨m,F,6,I⟩
 |own sz es =>
  simp only[zF,eo] at h;obtain⟨m,F,I⟩:=h;refine⟨m,F,?_⟩
  cases m<;>simp only[rr,cn,reduceCtorEq] at I
  ·exact .inl ⟨rfl,I.symm⟩
  ·split at I
   ·rename_i H;obtain⟨rfl,rfl⟩:=H
    split at I
    ·rename_i c6 cs O
     split at I
     ·rename_i a7;obtain⟨rfl,hle⟩:=a7;simp only[eb] at I;obtain⟨ds,g1,rfl⟩:=I;exact .inr ⟨_,_,_,cs,ds,6,rfl,O,hle,g1,rfl⟩
     ·cases I
    ·cases I
   ·cases I
theorem aqO {mf:bN}{r:eL}{e:eW}{st:bb}(h:zG mf.res r e st):T4 mf (aeR r) e st:=by
 cases e with
 |exit id=>exact h
 |normal=>exact aeS h
 |ret=>exact aeS h
theorem OA (b:Nat):¬ sf (λ_=>none) b:=fun⟨_,_,h,_⟩=>by cases h
theorem aqP (cQ : qu P T)(hm : P.follows .mixedOrders = true){f : FuncId}{fn : Func}{mf : bN}(aI : P.funcs[f]? = some fn)(tN : (fn.name == "runtime.NumGoroutine") = false)(a1 : sq P kb own fn = some { mf with body := erase mf.body })
  {aQ:List Data->Option eL} (h:∀ds r,aQ ds=some r->(D ds)<=mf.n/\wp T mf.body (zG mf.res r) ⟨km (ds.map .J),emp⟩):tM P f aQ:=by
 refine⟨?_,λds r eA A w vs ay tD=>?_⟩
 ·cases ah:fn.body with
  |none=>simp[sq,ah] at a1
  |some c=>exact⟨fn,c,aI,ah,tN⟩
 ·obtain⟨hlen,wN⟩:=h ds r eA;have b2:fr A w (λ_=>none) emp:=⟨λ_ _=>rfl,λ_ _ _ _ _ h=>(by cases h),λb _ bO=>OA b bO,ay,λ_ _ _ h=>(by cases h)⟩;have fJ:∀b,cg A (λ_=>none) b->A b:=λb h=>h.elim (λh=>(OA b h).elim) id;have b0:dp w (cg A λ_=>none) (λ_=>none) (ds.map .J) vs:=dp.J tD.1 λi d v F I=>(tD.2 i d v F I).less fJ;refine Calls.mono (Gl cQ hm aI a1 (by simpa using hlen) (λe st=>aqO) wN b2 b0) λe aR he=>?_;obtain⟨v,m,mem',bu,rfl,X,aA,aF⟩:=he;refine⟨v,rfl,⟨X.aE.os,X.aE.tape,X.aE.output,X.aE.size,λg a7 _=>X.aE.block g a7 (OA g)⟩,?_⟩
  cases r with
  |same r =>
   obtain⟨d,aa⟩:=aF;exact snap X.dV (λb ah=>ah) d m v r aa aA
  |own sz es =>
   rcases aF with ⟨rfl,rfl⟩|⟨k,g,len,cs,Dt,d,rfl,O,hle,g1,rfl⟩
   ·cases aA;exact⟨by simp,_,0,rfl,bZ _,fv _,.inl rfl⟩
   ·obtain⟨F,I⟩:=oB g1;have T5:(D Dt)=len*sz:=by rw[F,gf];omega
    refine⟨Ob sz len Dt T5,?_⟩;rw[Oa,Oc sz len Dt T5]
    cases aA with
    |ref he hgle ab =>
     obtain⟨e,gz,cj,aL,ah⟩:=X.dV.at_ O;rw[gz] at he;obtain rfl:=o3 he;obtain⟨a,cap,rfl,af,aO,bm⟩:=ab;refine⟨a,cap,rfl,af,aO,bm.imp id ?_⟩;rintro⟨b,rfl,bK⟩;obtain⟨bP,cl⟩:=bK cj.symm;obtain⟨oD,aqQ,aU,aX,Ki,zx⟩:=ah b bP;obtain⟨aqR,jV⟩:=kill_shut X.dV O gz bP;refine⟨b,oD,aqQ,rfl,?_,aU,by simpa [aX] using cl,λi x Q=>?_⟩
     ·rcases X.fresh b ⟨k,_,gz,bP⟩ with h|h
      ·exact (OA b h).elim
      ·exact h
     ·have aeT:i<D Dt:=(dP.1 Q).1;have k5:i<D cs:=by omega
      have jT:(cs.take (len*sz))[i]?=some cs[i]:=by
       rw[pL (by omega)];exact bx k5
      have Kv:i<oD.size:=by omega
      refine⟨oD[i],Array.getElem?_eq_getElem Kv,snap aqR (λb ah=>ah) d _ _ x (I i _ x jT Q) (jV _ _ (zx.2 i _ _ (bx k5) ?_))⟩;rw[pL k5,Array.getElem?_toList];exact Array.getElem?_eq_getElem Kv
def scalar:Data->Bool
 |.int _ _=>true
 |.bool _=>true
 |.str _=>true
 |.u7=>true
 |.u9=>true
 |.Y []=>true
 |.cI ds=>ds.attach.all fun⟨d,_⟩=>scalar d
 |.agg ds=>ds.attach.all fun⟨d,_⟩=>scalar d
 |_=>false
theorem aeU {aZ mr:Nat->Prop}{d:Data}{v:Value}(h:scalar d=true)(aa:Den w aZ d v):Den w mr d v:=by
 induction aa with
 |int=>exact .int
 |bool=>exact .bool
 |str=>exact .str
 |u7=>exact .u7
 |u9=>exact .u9
 |lS=>exact .lS
 | @Y es b off c sz val ar hm ah fJ e8 H aa az =>
  cases es with
  |nil=>exact .lS
  |cons=>simp[scalar] at h
 |ptr=>simp[scalar] at h
 |fn=>simp[scalar] at h
 | @agg cs vs ar aa az =>
  simp only[scalar,kG,aeV,true_imp_iff,Subtype.forall] at h;exact .agg ar λi d v F I=>az i d v F I (h d (ec F))
 | @cI cs vs ar aa az =>
  simp only[scalar,kG,aeV,true_imp_iff,Subtype.forall] at h;exact .cI ar λi d v F I=>az i d v F I (h d (ec F))
theorem OB {aZ:Nat->Prop}:∀(d:Nat) (m:R) (v:Value) (r:Data),cE d emp m=some r->bs w aZ B m v->Den w aZ r v:=by
 intro d
 induction d with
 |zero =>
  intro m v r h aA
  cases m<;>simp only[cE,cn,reduceCtorEq] at h
  ·subst h;cases aA with|J h=>exact h
  ·subst h;cases aA;exact .lS
 |succ d az =>
  intro m v r h aA
  have lists:∀(cs:List R) (vs:List Value) (ds:List Data),cs.mapM (cE d emp)=some ds->(D vs)=(D cs)->(∀(i:Nat) (x:R) (u:Value),cs[i]?=some x->vs[i]?=some u->bs w aZ B x u) ->
    (D vs)=D ds/\∀(i:Nat) (x:Data) (u:Value),ds[i]?=some x->vs[i]?=some u->Den w aZ x u:=by
   intro cs vs ds g1 ar ab;obtain⟨F,I⟩:=oB g1;refine⟨by omega,λi x u Q hu=>?_⟩
   have ay:i<D cs:=by have:=(dP.1 Q).1;omega
   have jT:=bx ay;exact az _ u x (I i _ x jT Q) (ab i _ u jT hu)
  cases m<;>simp only[cE,emp,cn,eb,reduceCtorEq] at h
  case J=>subst h;cases aA with|J h=>exact h
  case nil=>subst h;cases aA;exact .lS
  case fu f cs =>
   obtain⟨ds,g1,rfl⟩:=h
   cases aA with
   |fu ar aa=>obtain⟨F,I⟩:=lists _ _ _ g1 ar aa;exact .fn F I
  case agg cs =>
   obtain⟨ds,g1,rfl⟩:=h
   cases aA with
   |agg ar aa=>obtain⟨F,I⟩:=lists _ _ _ g1 ar aa;exact .agg F I
  case cI cs =>
   obtain⟨ds,g1,rfl⟩:=h
   cases aA with
   |cI ar aa=>obtain⟨F,I⟩:=lists _ _ _ g1 ar aa;exact .cI F I
def OC:eL->gZ
 |.same r => .same r
 |.own sz es => .own sz es
def wO:eL->Option gZ
 |.same r=>if scalar r=true then some (.same r) else none
 |.own sz es=>if (es.all λe=>e.all scalar)=true then some (.own sz es) else none
def OD (aQ:List Data->Option eL):Option (List Data)->Option gZ
 |some ds=>(aQ ds).bind wO
 |none=>none
def Gm (aQ:List Data->Option eL):Option (List Data)->Option (List Data)->Option gZ
 |some ds,_=>(aQ ds).map OC
 |none,x=>OD aQ x
def aW (aQ:List Data->Option eL)(args:List R)(mem:Mem):Option gZ:=Gm aQ (args.mapM (cE 6 emp)) (args.mapM (cE 6 mem))
def Bq (l0:FuncId->Option (List Data->Option eL)):bd:=λf args mem=>match l0 f with
 |some aQ=>aW aQ args mem
 |none=>none
theorem aeW {aZ:Nat->Prop}{g:R->Option Data}{args:List R}{ds:List Data}{vs:List Value}(h:args.mapM g=some ds)(aA:dp w aZ B args vs){mr:Nat->Prop}(aa:∀m v r,g m=some r->bs w aZ B m v->Den w mr r v):zE w mr ds vs:=by
 obtain⟨F,I⟩:=oB h;refine⟨by rw[aA.1,F],λi d v nn mW=>?_⟩
 have ay:i<D args:=by have:=(dP.1 nn).1;omega
 have Br:=bx ay;exact aa _ v d (I i _ d Br nn) (aA.2 i _ v Br mW)
theorem aeX {l0:FuncId->Option (List Data->Option eL)}(h:∀f aQ,l0 f=some aQ->tM P f aQ):qu P (Bq l0):=by
 intro f args mem o6 iu;unfold Bq at iu
 split at iu
 ·rename_i aQ eA;have jA:=h f aQ eA;refine⟨jA.real,λA w B vs b2 aA=>?_⟩;unfold aW at iu
  cases g1:args.mapM (cE 6 emp) with
  |some ds =>
   rw[g1] at iu;simp only[Gm,eb] at iu;obtain⟨r,ab,rfl⟩:=iu;have H:=jA.run ds r ab (cg A B) w vs (λb ah=>ah.elim (λh=>b2.xY h) (b2.lt b)) (aeW g1 aA λm v r=>OB 6 m v r)
   cases r with
   |same r=>exact H
   |own sz es=>exact H
  |none =>
   rw[g1] at iu;simp only[Gm] at iu
   cases g1:args.mapM (cE 6 mem) with
   |none=>rw[g1] at iu;cases iu
   |some ds =>
    rw[g1] at iu;simp only[OD,eo] at iu;obtain⟨r,ab,ar⟩:=iu;have H:=jA.run ds r ab (λ_=>False) w vs (λb ah=>ah.elim) (aeW g1 aA λm v r h aA=>snap b2 (λb ah=>ah.elim) 6 m v r h aA)
    cases r with
    |same r =>
     simp only[wO] at ar
     split at ar
     ·rename_i X
      cases ar;exact Calls.mono H λe aR ⟨v,he,bT,aa⟩=>⟨v,he,bT,aeU X aa⟩
     ·cases ar
    |own sz es =>
     simp only[wO] at ar
     split at ar
     ·rename_i X
      cases ar;refine Calls.mono H λe aR ⟨v,he,bT,aa⟩=>⟨v,he,bT,?_⟩;obtain⟨F,a,cap,I,af,aO,bm⟩:=aa;refine⟨F,a,cap,I,af,aO,bm.imp id ?_⟩;rintro⟨b,vs,T,bK,bP,cl,jn,gq⟩;refine⟨b,vs,T,bK,bP,cl,jn,λi d aa=>?_⟩;obtain⟨u,hu,tD⟩:=gq i d aa;refine⟨u,hu,aeU ?_ tD⟩;have hm:=ec aa;rw[List.mem_flatten] at hm;obtain⟨e,he,aqS⟩:=hm;rw[kG] at X;have:=X e he;rw[kG] at this;exact this d aqS
     ·cases ar
 ·cases iu
end Go.Mini
namespace Go.Mini
open Go
def Gn {ι:Type}(T:bd)(da:ι->bb->Prop)(m:ι->Nat)(i:ι)(K:eW->bb->Prop)(k:List gn):eW->bb->Prop
 |.normal,st=>∃bk,m bk<m i/\da bk st
 |.exit id,st=>cJ T K k (.exit id) st
 |.ret,st=>cJ T K k .ret st
@[go_sem] theorem aJC {ι:Type}(T:bd)(da:ι->bb->Prop)(m:ι->Nat)(i:ι)(K:eW->bb->Prop)(k:List gn)(id:Nat)(st:bb):Gn T da m i K k (.exit id) st=cJ T K k (.exit id) st:=bw
@[go_sem] theorem aJD {ι:Type}(T:bd)(da:ι->bb->Prop)(m:ι->Nat)(i:ι)(K:eW->bb->Prop)(k:List gn)(st:bb):Gn T da m i K k .ret st=cJ T K k .ret st:=bw
@[go_sem] theorem aqT {ι:Type}(T:bd)(da:ι->bb->Prop)(m:ι->Nat)(i:ι)(K:eW->bb->Prop)(k:List gn)(st:bb):Gn T da m i K k .normal st=∃bk,m bk<m i/\da bk st:=bw
open Classical in
theorem aqU {ι:Type}{T:bd}{K:eW->bb->Prop}{k:List gn}{st:bb}{c:ez}(da:ι->bb->Prop)(m:ι->Nat)(i0:ι)(ao:da i0 st)(h:∀i st,da i st->wp T c (cJ T (Gn T da m i K k) []) st):
  wp T (.loop c) (cJ T K k) st:=by
 have least:∀st,(∃i,da i st)->∃i,da i st/\∀j,da j st->m i<=m j:=by
  intro st ⟨i,M⟩
  have:∀n i,m i=n->da i st->∃i,da i st/\∀j,da j st->m i<=m j:=by
   intro n
   induction n using T6 with
   |_ n az =>
    intro i aL M
    by_cases Q:∃j,da j st/\m j<m i
    ·obtain⟨j,ai,ay⟩:=Q;exact az (m j) (by omega) j rfl ai
    ·refine⟨i,M,λj ai=>?_⟩;rcases il (m j) (m i) with cG|cG
     ·exact absurd ⟨j,ai,cG⟩ Q
     ·exact cG
  exact this _ i rfl M
 refine⟨λst=>∃i,da i st,λst=>if Q:∃i,da i st then m (tO (least st Q)) else 0,⟨i0,ao⟩,λst dv=>?_⟩;have jD:=o7 (least st dv);have:=h _ st jD.1
 have O:cJ T (Gn T da m (tO (least st dv)) K k) []=λe dR=>match e with
   |.normal=>(∃i,da i dR)/\(if Q:∃i,da i dR then m (tO (least dR Q)) else 0)<(if Q:∃i,da i st then m (tO (least st Q)) else 0)
   |e=>cJ T K k e dR:=by
  funext e dR
  cases e with
  |normal =>
   simp only[apJ,aqT];apply propext
   constructor
   ·rintro⟨bk,ay,ai⟩;have hex:∃i,da i dR:=⟨bk,ai⟩;refine⟨hex,?_⟩;rw[dif_pos hex,dif_pos dv];have:=(o7 (least dR hex)).2 bk ai;omega
   ·rintro⟨hex,ay⟩;rw[dif_pos hex,dif_pos dv] at ay;exact⟨_,ay,(o7 (least dR hex)).1⟩
  |exit id=>rfl
  |ret=>rfl
 rw[O] at this;exact this
section
variable {aQ:List Data->Option eL} {mem:Mem} {st:bb} {res:List oA}
@[go_sem] theorem aJE (ds:List Data)(x:Option (List Data)):Gm aQ (some ds) x=(aQ ds).map OC:=bw
@[go_sem] theorem aJF (x:Option (List Data)):Gm aQ none x=OD aQ x:=bw
@[go_sem] theorem aJG (ds:List Data):OD aQ (some ds)=(aQ ds).bind wO:=bw
@[go_sem] theorem aJH (r:Data):OC (.same r)=.same r:=bw
@[go_sem] theorem aJI (sz:Nat)(es:List (List Data)):OC (.own sz es)=.own sz es:=bw
@[go_sem] theorem aJJ (r:Data):wO (.same r)=if scalar r=true then some (.same r) else none:=bw
@[go_sem] theorem OE (n:Nat)(d:Data):cE n mem (.J d)=some d:=by cases n<;>rfl
@[go_sem] theorem aqV (n:Nat):cE n mem .nil=some (.Y []):=by cases n<;>rfl
@[go_sem] theorem aJK (n:Nat)(cs:List R):cE (n+1) mem (.agg cs)=(cs.mapM (cE n mem)).map .agg:=bw
@[go_sem] theorem aJL (n:Nat)(cs:List R):cE (n+1) mem (.cI cs)=(cs.mapM (cE n mem)).map .cI:=bw
@[go_sem] theorem aqW (n:Nat)(f:FuncId)(cs:List R):cE (n+1) mem (.fu f cs)=(cs.mapM (cE n mem)).map (.fn f):=bw
@[go_sem] theorem aJM (r:eL)(id:Nat):zG res r (.exit id) st=False:=bw
@[go_sem] theorem aJN (r:eL):zG res r .ret st=zF res r st:=bw
@[go_sem] theorem aJO (r:eL):zG res r .normal st=zF res r st:=bw
@[go_sem] theorem aJP (r:Data):zF res (.same r) st=((pF st res).bind (cE 6 st.mem)=some r):=bw
@[go_sem] theorem aJQ (sz:Nat)(es:List (List Data)):zF res (.own sz es) st=((pF st res).bind (rr sz st.mem)=some es):=bw
end
@[go_sem] theorem aJR (x:Bool):Of (.J (.bool x)) true=some x:=by cases x<;>rfl
@[go_sem] theorem aJS (x:Bool):Of (.J (.bool x)) false=some (!x):=by cases x<;>rfl
attribute [go_sem] eG cV List.getElem?_cons_zero List.getElem?_cons_succ hN lD l1 wP m0 kK lB Option.map_none kY
 lu Gp g9 hg jo jW List.drop_succ_cons List.drop_nil List.take_nil cK dt vt sw l2 ru vu gW h6 fS Gq List.all_nil true_and and_true kX bne
section
variable {T:bd} {K:eW->bb->Prop} {k:List gn} {st:bb}
theorem aqX {x:Bool}{i:c8}{r:List c8}(F:x=false->rm T K k (some true) i r st)(I:x=true->rm T K k (some false) i r st):rm T K k (some (!x)) i r st:=by
 cases x
 ·exact F rfl
 ·exact I rfl
theorem aqY {x:Bool}{i:c8}{r:List c8}(F:x=true->rm T K k (some true) i r st)(I:x=false->rm T K k (some false) i r st):rm T K k (some x) i r st:=by
 cases x
 ·exact I rfl
 ·exact F rfl
theorem aqZ {x:Bool}{n:Nat}{i:c8}{r:List c8}{c:List (List Nat)}{rec:Rec}(F:x=false->rn T K k n (some true) i r c rec st)(I:x=true->rn T K k n (some false) i r c rec st):rn T K k n (some (!x)) i r c rec st:=by
 cases x
 ·exact F rfl
 ·exact I rfl
theorem aq0 {x:Bool}{n:Nat}{i:c8}{r:List c8}{c:List (List Nat)}{rec:Rec}(F:x=true->rn T K k n (some true) i r c rec st)(I:x=false->rn T K k n (some false) i r c rec st):rn T K k n (some x) i r c rec st:=by
 cases x
 ·exact I rfl
 ·exact F rfl
theorem aq1 {x:Bool}{a b:ez}(F:x=false->qt T K k (.J (.bool true)) a b st)(I:x=true->qt T K k (.J (.bool false)) a b st):qt T K k (.J (.bool (!x))) a b st:=by
 cases x
 ·exact F rfl
 ·exact I rfl
theorem aq2 {x:Bool}{a b:ez}(F:x=true->qt T K k (.J (.bool true)) a b st)(I:x=false->qt T K k (.J (.bool false)) a b st):qt T K k (.J (.bool x)) a b st:=by
 cases x
 ·exact I rfl
 ·exact F rfl
end
class Dw (bL:Prop) (A B:outParam Prop):Prop where
 go:A->B->bL
theorem aw {bL A B:Prop}[s:Dw bL A B](a:A)(b:B):bL:=s.go a b
theorem a0 {bL:Prop}(h:true=true->bL):bL:=h rfl
instance {T K k i r st} {x:Bool}:Dw (rm T K k (some x) i r st) (x=true->rm T K k (some true) i r st) (x=false->rm T K k (some false) i r st):=⟨aqY⟩
instance {T K k i r st} {x:Bool}:Dw (rm T K k (some (!x)) i r st) (x=false->rm T K k (some true) i r st) (x=true->rm T K k (some false) i r st):=⟨aqX⟩
instance {T K k st a b} {x:Bool}:Dw (qt T K k (.J (.bool x)) a b st) (x=true->qt T K k (.J (.bool true)) a b st) (x=false->qt T K k (.J (.bool false)) a b st):=⟨aq2⟩
instance {T K k st a b} {x:Bool}:Dw (qt T K k (.J (.bool (!x))) a b st) (x=false->qt T K k (.J (.bool true)) a b st) (x=true->qt T K k (.J (.bool false)) a b st):=⟨aq1⟩
instance {T K k n i r c rec st} {x:Bool}:Dw (rn T K k n (some x) i r c rec st) (x=true->rn T K k n (some true) i r c rec st) (x=false->rn T K k n (some false) i r c rec st):=⟨aq0⟩
instance {T K k n i r c rec st} {x:Bool}:Dw (rn T K k n (some (!x)) i r c rec st) (x=false->rn T K k n (some true) i r c rec st) (x=true->rn T K k n (some false) i r c rec st):=⟨aqZ⟩
attribute [go_sem] reduceIte Nat.reduceEqDiff Nat.reduceAdd Nat.reduceSub Nat.reduceMul Nat.reduceLeDiff reduceCtorEq Nat.reduceLT Nat.reduceBEq Int.reduceEq
attribute [go_sem] kX
def Kz {ι:Type}(T:bd)(gT:List Nat)(qw:List Key)(vs:List R)(ms:List (Option (Nat×List R)))(da:ι->(Nat->R)->Mem->Prop)(m:ι->Nat)(i:ι)(K:eW->bb->Prop)(k:List gn):eW->bb->Prop
 |.normal,st=>∃bk,m bk<m i/\gT.map st.tm=vs/\qw.map st.mem=ms/\da bk st.tm st.mem
 |.exit id,st=>cJ T K k (.exit id) st
 |.ret,st=>cJ T K k .ret st
section
variable {ι:Type} (T:bd) (gT:List Nat) (qw:List Key) (vs:List R) (ms:List (Option (Nat×List R))) (da:ι->(Nat->R)->Mem->Prop) (m:ι->Nat) (i:ι) (K:eW->bb->Prop) (k:List gn)
@[go_sem] theorem aJT (id:Nat)(st:bb):Kz T gT qw vs ms da m i K k (.exit id) st=cJ T K k (.exit id) st:=bw
@[go_sem] theorem aJU (st:bb):Kz T gT qw vs ms da m i K k .ret st=cJ T K k .ret st:=bw
@[go_sem] theorem aJV (st:bb):Kz T gT qw vs ms da m i K k .normal st=∃bk,m bk<m i/\gT.map st.tm=vs/\qw.map st.mem=ms/\da bk st.tm st.mem:=bw
end
theorem dn {ι:Type}{T:bd}{K:eW->bb->Prop}{k:List gn}{Gr:Nat->R}{eC:Mem}{c:ez}(gT:List Nat)(qw:List Key)(da:ι->(Nat->R)->Mem->Prop)(m:ι->Nat)(i0:ι)(ao:da i0 Gr eC)
  (h:∀vs ms,gT.map Gr=vs->qw.map eC=ms->∀i tm mem,gT.map tm=vs->qw.map mem=ms->da i tm mem->wp T c (cJ T (Kz T gT qw vs ms da m i K k) []) ⟨tm,mem⟩) :
  wp T (.loop c) (cJ T K k) ⟨Gr,eC⟩:=by
 refine aqU (λi st=>gT.map st.tm=gT.map Gr/\qw.map st.mem=qw.map eC/\da i st.tm st.mem) m i0 ⟨rfl,rfl,ao⟩ ?_;rintro i ⟨tm,mem⟩ ⟨F,I,af⟩;have:=h _ _ rfl rfl i tm mem F I af
 have O:cJ T (Kz T gT qw (gT.map Gr) (qw.map eC) da m i K k) []=cJ T (Gn T (λi (st:bb)=>gT.map st.tm=gT.map Gr/\qw.map st.mem=qw.map eC/\da i st.tm st.mem) m i K k) []:=by
  funext e dR
  cases e<;>rfl
 rw[O] at this;exact this
theorem wp_mono {T:bd}:∀(c:ez) (K jq:eW->bb->Prop),(∀e st,K e st->jq e st)->∀st,wp T c K st->wp T c jq st:=by
 intro c
 induction c with
 |skip=>exact λK jq h st=>h _ _
 |ops l =>
  intro K jq h st hw
  have:∀(l:List c8) (K jq:bb->Prop),(∀st,K st->jq st)->∀st,x1 T K l st->x1 T jq l st:=by
   intro l
   induction l with
   |nil=>exact λK jq h st=>h st
   |cons i r az =>
    intro K jq h st hw;unfold x1 at hw ⊢
    split
    ·rename_i a7;rw[a7] at hw;exact hw
    ·rename_i g a7;rw[a7] at hw;simp only at hw ⊢
     split
     ·rename_i iW;rw[ad iW] at hw
      have rl:∀(K jq:bb->Prop),(∀st,K st->jq st)->gA T K i st->gA T jq i st:=by
       intro K jq h hw
       have H:∀d f args,vc T K st d f args->vc T jq st d f args:=by
        intro d f args hw;unfold vc at hw ⊢
        split
        ·rename_i aU;rw[aU] at hw;exact h _ hw
        ·rename_i aU;rw[aU] at hw;exact h _ hw
        ·rename_i aU;rw[aU] at hw;exact λr mem' ab=>h _ (hw r mem' ab)
        ·rename_i aU;rw[aU] at hw;exact h _ hw
        ·rename_i aU;rw[aU] at hw;exact h _ hw
        ·rename_i aU;rw[aU] at hw;exact hw
       unfold gA at hw ⊢
       split
       ·rename_i aU;rw[aU] at hw;exact H _ _ _ hw
       ·rename_i aU;rw[aU] at hw
        simp only at hw
        split
        ·rename_i oW;rw[oW] at hw
         simp only at hw
         split
         ·rename_i X;rw[ad X] at hw;exact h _ hw
         ·rename_i X;rw[ag X] at hw;exact hw
        ·rename_i oW
         split at hw
         ·rename_i eu es T7;exact (oW eu es T7).elim
         ·exact hw
       ·rename_i aU;rw[aU] at hw
        simp only at hw
        split
        ·rename_i oW;rw[oW] at hw;exact H _ _ _ hw
        ·rename_i oW;rw[oW] at hw;exact H _ _ _ hw
        ·rename_i oW T7
         split at hw
         ·rename_i T8;exact (oW _ _ T8).elim
         ·rename_i T8;exact (T7 _ _ T8).elim
         ·exact hw
       ·rename_i aU;rw[aU] at hw
        simp only at hw
        split
        ·rename_i oW;rw[oW] at hw;exact λb ah=>h _ (hw b ah)
        ·rename_i oW;rw[oW] at hw;exact hw
       ·rename_i F I af aO
        split at hw
        ·rename_i aU;exact (F _ _ aU).elim
        ·rename_i aU;exact (I _ _ _ _ aU).elim
        ·rename_i aU;exact (af _ _ aU).elim
        ·rename_i aU;exact (aO _ _ aU).elim
        ·split
         ·rename_i aU;rw[aU] at hw;exact h _ hw
         ·rename_i aU;rw[aU] at hw;exact hw
      exact rl _ _ (az _ _ h) hw
     ·rename_i iW;rw[ag iW] at hw;exact az _ _ h _ hw
  exact this l _ _ (λst=>h .normal st) st hw
 |mU l c =>
  intro K jq h st hw
  have:∀(l:List c8) (n:Nat) (cs:List (List Nat)) (rec:Rec) (K jq:bb->Prop),(∀st,K st->jq st)->∀st,wE T K n l cs rec st->wE T jq n l cs rec st:=by
   intro l
   induction l with
   |nil=>exact λn cs rec K jq h st=>h st
   |cons i r az =>
    intro n cs rec K jq h st hw;unfold wE at hw ⊢
    split
    ·rename_i a7;rw[a7] at hw;exact hw
    ·rename_i g a7;rw[a7] at hw;simp only at hw ⊢
     split
     ·rename_i iW;rw[ad iW] at hw
      split
      ·rename_i m e X;rw[X] at hw;exact⟨hw.1,az _ _ _ _ _ h _ hw.2⟩
      ·rename_i X;rw[X] at hw;exact hw
     ·rename_i iW;rw[ag iW] at hw;exact az _ _ _ _ _ h _ hw
  exact this l 0 c _ _ _ (λst=>h .normal st) st hw
 |seq a b iha ihb =>
  intro K jq h st hw;refine iha _ _ (λe dR aU=>?_) st hw
  cases e with
  |normal=>exact ihb _ _ h _ aU
  |exit id=>exact h _ _ aU
  |ret=>exact h _ _ aU
 |cond c a b iha ihb =>
  intro K jq h st hw;unfold wp at hw ⊢
  split
  ·rename_i t H;rw[H] at hw;simp only at hw
   split
   ·rename_i bF;rw[ad bF] at hw;exact iha _ _ h _ hw
   ·rename_i bF;rw[ag bF] at hw;exact ihb _ _ h _ hw
  ·rename_i Q
   split at hw
   ·rename_i H;exact (Q _ H).elim
   ·exact hw
 |block id c az =>
  intro K jq h st hw;refine az _ _ (λe dR aU=>?_) st hw
  cases e with
  |normal=>exact h _ _ aU
  |exit j =>
   simp only at aU ⊢
   split
   ·rename_i ai;rw[ad ai] at aU;exact h _ _ aU
   ·rename_i ai;rw[ag ai] at aU;exact h _ _ aU
  |ret=>exact h _ _ aU
 |loop c az =>
  intro K jq h st hw;obtain⟨Da,μ,ao,sv⟩:=hw;refine⟨Da,μ,ao,λst dv=>az _ _ (λe dR aU=>?_) _ (sv st dv)⟩
  cases e with
  |normal=>exact aU
  |exit id=>exact h _ _ aU
  |ret=>exact h _ _ aU
 |exit id=>exact λK jq h st=>h _ _
 |ret=>exact λK jq h st=>h _ _
 |ghost g c az =>
  intro K jq h st hw
  have:∀(K jq:bb->Prop),(∀st,K st->jq st)->lr K st g->lr jq st g:=by
   intro K jq h hw;unfold lr at hw
   repeat' split at hw
   all_goals first
    |exact hw.elim
    |exact⟨hw.choose,hw.choose_spec.1,h _ hw.choose_spec.2⟩
    |(
      rcases hw with hw|⟨fO,g0,gK,i,k,g,sz,off,len,cs,k',F,I,af,aO,bm,bK,hw⟩|⟨fO,g0,gK,i,k,g,sz,off,len,cs,d,F,I,af,aO,bm,bK,hw⟩
      ·exact .inl (h _ hw)
      ·exact .inr (.inl ⟨fO,g0,gK,i,k,g,sz,off,len,cs,k',F,I,af,aO,bm,bK,h _ hw⟩)
      ·exact .inr (.inr ⟨fO,g0,gK,i,k,g,sz,off,len,cs,d,F,I,af,aO,bm,bK,h _ hw⟩))
    |(
      have cG:=h _ hw;clear hw h;unfold lr
      simp_all)
  exact this _ _ (az _ _ h) hw
def Gs (T:bd)(K:eW->bb->Prop)(k:List gn)(aN:bb->Prop):eW->bb->Prop
 |.normal,st=>aN st
 |.exit id,st=>cJ T K k (.exit id) st
 |.ret,st=>cJ T K k .ret st
@[go_sem] theorem aJW {T:bd}{K:eW->bb->Prop}{k:List gn}{aN:bb->Prop}(st:bb):Gs T K k aN .normal st=aN st:=bw
@[go_sem] theorem aJX {T:bd}{K:eW->bb->Prop}{k:List gn}{aN:bb->Prop}(id:Nat)(st:bb):Gs T K k aN (.exit id) st=cJ T K k (.exit id) st:=bw
@[go_sem] theorem aJY {T:bd}{K:eW->bb->Prop}{k:List gn}{aN:bb->Prop}(st:bb):Gs T K k aN .ret st=cJ T K k .ret st:=bw
theorem aeY {T:bd}{K:eW->bb->Prop}{k:List gn}{c a:ez}{st:bb}(aN:bb->Prop)(aP:wp T a (cJ T (Gs T K k aN) []) st)(H:∀dR,aN dR->wp T c (cJ T K k) dR):wp T a (cJ T K (.code c::k)) st:=by
 refine wp_mono a _ _ (λe dR aU=>?_) st aP
 cases e with
 |normal=>exact H dR aU
 |exit id=>exact aU
 |ret=>exact aU
theorem aq3 {T:bd}{K:eW->bb->Prop}{k:List gn}{x:Bool}{c a b:ez}{st:bb}(aN:bb->Prop)(aP:x=true->wp T a (cJ T (Gs T K k aN) []) st)(ah:x=false->wp T b (cJ T (Gs T K k aN) []) st)
  (H:∀dR,aN dR->wp T c (cJ T K k) dR):qt T K (.code c::k) (.J (.bool x)) a b st:=by
 cases x
 ·rw[apL];exact aeY aN (ah rfl) H
 ·rw[apK];exact aeY aN (aP rfl) H
attribute [go_sem] beq_true beq_false Bool.true_beq Bool.false_beq jL List.flatten_nil fC List.headD_cons List.headD_nil List.tail_cons List.tail_nil List.contains_nil List.contains_cons Bool.not_eq_true'
section
variable {T:bd} {K:eW->bb->Prop} {k:List gn} {st:bb}
@[go_sem] theorem aJZ (g:NR)(c:ez):wp T (.ghost g c) (cJ T K k) st=lr (wp T c (cJ T K k)) st g:=bw
def T9 (K:bb->Prop)(st:bb)(s k sz:Nat):R->Prop
 |.nil=>K ⟨fa st.tm s (.ref k (bV st.mem k) sz 0 0),a4 st.mem k (bV st.mem k) []⟩
 |_=>False
@[go_sem] theorem aJ0 (K:bb->Prop)(s k sz:Nat):lr K st (.nU s k sz)=T9 K st s k sz (st.tm s):=by
 unfold lr T9;rfl
@[go_sem] theorem aJ1 (K:bb->Prop)(s k sz:Nat):T9 K st s k sz .nil=K ⟨fa st.tm s (.ref k (bV st.mem k) sz 0 0),a4 st.mem k (bV st.mem k) []⟩:=bw
end
section
variable {K:bb->Prop} {st:bb}
theorem aq4 (fO i k k':Nat){g0:Nat}{gK:List R}{g sz off len:Nat}{cs:List R}(F:st.mem fO=some (g0,gK))(I:gK[i]?=some (.ref k g sz off len))(af:st.mem k=some (g,cs))(aO:k≠fO)(bm:k'≠k)(bK:k'≠fO)
  (h:K ⟨st.tm,a4 (a4 (a4 st.mem k (bV st.mem k) []) k' (bV st.mem k') cs) fO g0 (gK.set i (.ref k' (bV st.mem k') sz off len))⟩):lr K st .move :=
 .inr (.inl ⟨fO,g0,gK,i,k,g,sz,off,len,cs,k',F,I,af,aO,bm,bK,h⟩)
def Bs (K:bb->Prop)(st:bb)(s k g sz off len:Nat):Option (Nat×List R)->Prop
 |some (c6,cs)=>if c6=g/\nV cs=true then (match cut cs off (len*sz) with
  |some part=>(match part.mapM (cE 0 st.mem) with
   |some ds=>K ⟨fa st.tm s (.J (.Y (chunk sz len ds))),kill st.mem k⟩
   |none=>False)
  |none=>False) else False
 |none=>False
def Ua (K:bb->Prop)(st:bb)(s:Nat):R->Prop
 |.ref k g sz off len=>Bs K st s k g sz off len (st.mem k)
 |_=>False
@[go_sem] theorem aJ2 (s:Nat):lr K st (.freeze s)=Ua K st s (st.tm s):=by
 unfold lr Ua;dsimp only
 cases hm:st.tm s with
 |ref k g sz off len=>?_
 |_=>rfl
 dsimp only;unfold Bs
 cases O:st.mem k with
 |none=>rfl
 |some x =>
  obtain⟨c6,cs⟩:=x;simp only
  by_cases H:c6=g/\nV cs=true
  ·rw[ad H,ad H];unfold cE;rw[O];simp only[H.1,if_true]
   cases x8:cut cs off (len*sz) with
   |none=>rfl
   |some part =>
    simp only
    cases aF:part.mapM (cE 0 st.mem)<;>rfl
  ·rw[ag H,ag H]
@[go_sem] theorem aJ3 (s k g sz off len:Nat):Ua K st s (.ref k g sz off len)=Bs K st s k g sz off len (st.mem k):=bw
@[go_sem] theorem aJ4 (mem:Mem)(k:Key):kill mem k=a4 mem k (bV mem k) []:=bw
end
open Classical in
def ck {α:Type}(wQ:α->List Data)(f:α->Option eL):List Data->Option eL:=λds=>if h:∃a,wQ a=ds then f (tO h) else none
theorem cx {α:Type}{wQ:α->List Data}{f:α->Option eL}(inj:∀a b,wQ a=wQ b->a=b)(a:α):ck wQ f (wQ a)=f a:=by
 have h:∃b,wQ b=wQ a:=⟨a,rfl⟩;unfold ck;rw[dif_pos h,inj _ _ (o7 h)]
theorem aq5 {α:Type}{wQ:α->List Data}{f:α->Option eL}{ds:List Data}{r:eL}(h:ck wQ f ds=some r):∃a,ds=wQ a/\f a=some r:=by
 unfold ck at h
 split at h
 ·rename_i Q;exact⟨_,(o7 Q).symm,h⟩
 ·cases h
open Classical in
def cR (c:Prop)(r:eL):Option eL:=if c then some r else none
theorem cW {c:Prop}(h:c)(r:eL):cR c r=some r:=by unfold cR;rw[ad h]
@[go_sem] theorem aJ5 (aQ:List Data->Option eL)(args:List R)(mem:Mem):aW aQ args mem=Gm aQ (args.mapM (cE 6 emp)) (args.mapM (cE 6 mem)):=bw
theorem map_inj {α β:Type}{f:α->β}(h:∀a b,f a=f b->a=b):∀(l fP:List α),l.map f=fP.map f->l=fP:=by
 intro l
 induction l with
 |nil=>intro fP e;cases fP<;>simp_all
 |cons a r az =>
  intro fP e
  cases fP with
  |nil=>simp at e
  |cons b FV =>
   simp only[eG,ba] at e;rw[h _ _ e.1,az _ e.2]
def OG (l:List (FuncId×(List Data->Option eL))):FuncId->Option (List Data->Option eL):=λf=>(l.find? λp=>p.1==f).map (·.2)
theorem rv {P:Program}{l:List (FuncId×(List Data->Option eL))}(h:∀p∈l,tM P p.1 p.2):∀f aQ,OG l f=some aQ->tM P f aQ:=by
 intro f aQ aI;unfold OG at aI;rw[eb] at aI;obtain⟨p,aF,rfl⟩:=aI;have F:=List.mem_of_find?_eq_some aF;have I:=List.find?_some aF;have af:p.1=f:=by simpa using I
 exact af ▸ h p F
theorem b7 {P:Program}:∀p∈([]:List (FuncId×(List Data->Option eL))),tM P p.1 p.2:=by simp
theorem a5 {P:Program}{f:FuncId}{aQ:List Data->Option eL}{l:List (FuncId×(List Data->Option eL))}(h:tM P f aQ)(ar:∀p∈l,tM P p.1 p.2):∀p∈(f,aQ)::l,tM P p.1 p.2:=by
 intro p aF;rcases hj.1 aF with rfl|aF
 ·exact h
 ·exact ar p aF
theorem aeZ {l0:FuncId->Option (List Data->Option eL)}{f:FuncId}{aQ:List Data->Option eL}(h:l0 f=some aQ):Bq l0 f=aW aQ:=by
 funext args mem
 unfold Bq;rw[h]
@[go_sem] theorem aJ6 (mem:Mem)(k:Key)(z:List R)(b m:Nat)(new:List R):rb mem k z b .nil (some (m,new)) =
  if m*b<=140737488355328/\m<=maxLen/\new.all R.one=true then some (.ref k (bV mem k) (D z) 0 m,some (k,bV mem k,new)) else none:=bw
@[go_sem] theorem aJ7 (mem:Mem)(k k':Key)(z:List R)(g sz b len m:Nat)(new:List R):rb mem k z b (.ref k' g sz 0 len) (some (m,new)) =
  if sz=(D z) then mx k' g sz len b m new (mem k') else none:=by
 unfold rb;simp
def bc {α:Type}(enc:α->List Data)(l:List α):List R:=(l.map enc).flatten.map .J
section
variable {α:Type} {enc:α->List Data} {sz:Nat}
theorem aq6:bc enc []=[]:=rfl
theorem yl (a:α)(l:List α):bc enc (a::l)=(enc a).map .J++bc enc l:=by simp[bc]
theorem Ub (a b:List α):bc enc (a++b)=bc enc a++bc enc b:=by simp[bc]
theorem oF (h:∀a,(enc a).length=sz)(l:List α):(bc enc l).length=D l*sz:=by
 induction l with
 |nil=>simp[bc]
 |cons a r az=>rw[yl,fH,az,al,h,hN,qg,Nat.one_mul,Nat.add_comm]
theorem ae0 (h:∀a,(enc a).length=sz){l:List α}{i:Nat}{a:α}(M:l[i]?=some a):∃p q,bc enc l=p++((enc a).map .J++q)/\D p=i*sz/\∀b,bc enc (l.set i b)=p++((enc b).map .J++q):=by
 have ay:=(dP.1 M).1;have iX:l[i]=a:=(dP.1 M).2
 have e:l=l.take i++a::l.drop (i+1):=by
  rw[<-iX,<-im ay,sx]
 refine⟨bc enc (l.take i),bc enc (l.drop (i+1)),?_,?_,λb=>?_⟩
 ·conv=>lhs;rw[e]
  rw[Ub,yl]
 ·rw[oF h,gf];congr 1;omega
 ·rw[List.set_eq_take_append_cons_drop,ad ay,Ub,yl]
theorem Uc (h:∀a,(enc a).length=sz){l:List α}{i:Nat}{a:α}(M:l[i]?=some a){f n:Nat}(aI:f+n<=sz):cut (bc enc l) (i*sz+f) n=some ((((enc a).map .J).drop f).take n):=by
 obtain⟨p,q,e,aF,-⟩:=ae0 h M;have aP:=h a;unfold cut;rw[e,ad (by simp only[fH,al];omega),<-aF];rw[oG,jQ (by omega)];rw[show (D p)+f-D p=f by omega,jo,oG,List.take_append]
 have:n-(((enc a).map R.J).drop f).length=0:=by simp only[ry,al];omega
 rw[this,m0,fC]
theorem ae1 (h:∀a,(enc a).length=sz){l:List α}{i:Nat}(M:i<D l)(b:α):kV (bc enc l) (i*sz) ((enc b).map .J)=bc enc (l.set i b):=by
 obtain⟨p,q,e,aF,X⟩:=ae0 h (bx M);rw[X b,e];have aP:=h l[i];have ah:=h b;unfold kV;rw[<-aF,Ud,gM]
 congr 2
 rw[oG,jQ (by omega),jo,al,show (D p)+(enc b).length-D p=(enc b).length by omega,ah,<-aP,<-al (f:=R.J),Ue]
theorem aq7 (bO:∀a,((enc a).map R.J).all R.one=true)(l:List α):(bc enc l).all R.one=true:=by
 induction l with
 |nil=>rfl
 |cons a r az=>rw[yl,List.all_append,bO,az];rfl
theorem Dx (h:∀a,(enc a).length=sz)(bO:∀a,((enc a).map R.J).all R.one=true)(k g b:Nat)(l new:List α)(ah:(D l+D new)*b<=140737488355328)(hm:(D l)+D new<=1000000000):
  mx k g sz (D l) b (D new) (bc enc new) (some (g,bc enc l))=some (.ref k (g+1) sz 0 (D l+D new),some (k,g+1,bc enc (l++new))):=by
 unfold mx;have n2:(D l)+D new<=maxLen:=eQ hm (by decide);dsimp only;rw[ad ⟨rfl,by rw[oF h];exact bZ _,ah,n2,aq7 bO new⟩,Ub,dy (by rw[oF h];exact bZ _)]
theorem l3 (h:∀a,(enc a).length=sz)(bO:∀a,((enc a).map R.J).all R.one=true)(k g b:Nat)(l:List α)(a:α){cs:List R}(H:cs=(enc a).map .J)(ah:(D l+1)*b<=140737488355328)(hm:(D l)+1<=1000000000):
  mx k g sz (D l) b 1 cs (some (g,bc enc l))=some (.ref k (g+1) sz 0 (D l+1),some (k,g+1,bc enc (l++[a]))):=by
 have:=Dx h bO k g b l [a] ah hm;rw[H];rw[yl,aq6,fC] at this;exact this
theorem tP (f:R->Option Data)(aI:∀d,f (.J d)=some d)(l:List Data):(l.map R.J).mapM f=some l:=by
 induction l with
 |nil=>rfl
 |cons a r az=>simp[aI,az]
theorem ym:∀(l:List (List Data)),(∀e∈l,D e=sz)->chunk sz (D l) l.flatten=l:=by
 intro l
 induction l with
 |nil=>intro _;rfl
 |cons e r az =>
  intro h;have he:=h e (by simp);rw[hN,jL,chunk];rw[<-he,Ud,Ue,he,az λx Q=>h x (by simp[Q])]
theorem pM (h:∀a,(enc a).length=sz){n k g:Nat}{mem:Mem}{l:List α}(hm:mem k=some (g,bc enc l)):cE (n+1) mem (.ref k g sz 0 (D l))=some (.Y (l.map enc)):=by
 unfold cE;rw[hm];simp only[if_true];unfold cut;rw[kY,oF h,ad (bZ _)];simp only[l1];rw[dy (by rw[oF h];exact bZ _)];unfold bc;rw[tP _ λd=>by cases n<;>rfl]
 have:=ym (sz:=sz) (l.map enc) (by simpa using λa _=>h a);rw[al] at this;simp[this]
end
theorem ae2 {α:Type}(enc:α->List Data)(l:List α):nV (bc enc l)=true:=by
 unfold nV bc;rw[kG];intro m hm;rw[ek] at hm;obtain⟨d,_,rfl⟩:=hm
 rfl
theorem lE {α:Type}{enc:α->List Data}{sz:Nat}(h:∀a,(enc a).length=sz){K:bb->Prop}{st:bb}(s k g:Nat)(l:List α):
  Bs K st s k g sz 0 (D l) (some (g,bc enc l))=K ⟨fa st.tm s (.J (.Y (l.map enc))),kill st.mem k⟩:=by
 have ab:=pM (n:=0) h (mem:=a4 st.mem k g (bc enc l)) (k:=k) (g:=g) (l:=l) (by simp[a4]);unfold Bs;dsimp only;rw[ad ⟨rfl,ae2 enc l⟩];unfold cut;rw[kY,oF h,ad (bZ _)];dsimp only;rw[l1,dy (by rw[oF h];exact bZ _)];unfold bc;rw[tP _ λd=>rfl];dsimp only;have:=ym (sz:=sz) (l.map enc) (by simpa using λa _=>h a);rw[al] at this;rw[this]
theorem wrap64 (x:Int)(F:-9223372036854775808<=x)(I:x<=9223372036854775807):IntKind.i64.wrap x=x:=by
 rw[IntKind.wrap_i64];omega
theorem ae3 {α:Type}(l:List α)(i:Int)(ao:0<=i)(h:i<D l):∃x,l[i.toNat]?=some x/\l.drop i.toNat=x::l.drop (i+1).toNat/\l.take (i+1).toNat=l.take i.toNat++[x]:=by
 have ay:i.toNat<D l:=by omega
 have e:(i+1).toNat=i.toNat+1:=by omega
 refine⟨l[i.toNat],bx ay,?_,?_⟩
 ·rw[e];exact im ay
 ·rw[e];rw[hv,bx ay];rfl
abbrev WP (T:bd)(mf:bN)(r:eL)(l:List R):Prop:=wp T mf.body (zG mf.res r) ⟨km l,emp⟩
theorem cy {T:bd}{c:ez}{K:eW->bb->Prop}{st:bb}(h:wp T c (cJ T K []) st):wp T c K st:=qs h
theorem eS (x:Int)(F:-9223372036854775808<=x:=by omega)(I:x<=9223372036854775807:=by omega):IntKind.i64.wrap x=x:=wrap64 x F I
theorem ff {i:Nat}(h:i<1000000000000):IntKind.i64.wrap ((i:Int)+1)=((i+1:Nat):Int):=by rw[wrap64 _ (by omega) (by omega)];omega
end Go.Mini
namespace Go.Mini
open Go Go.ChangeShapes Go.WideShapes
inductive qx where
 |int (k:IntKind)
 |bool
 |str
 |Y (e:qx)
 |st (l:List qx)
mutual
def Fit:qx->List Data->Prop
 |.int k,ds=>∃n,ds=[.int k n]/\(Lit.int k n).wf=true
 |.bool,ds=>∃b,ds=[.bool b]
 |.str,ds=>∃s,ds=[.str s]/\D s<=maxLen
 |.Y e,ds=>∃es,ds=[.Y es]/\D es<=maxLen/\∀x∈es,Fit e x
 |.st l,ds=>Fits l ds
def Fits:List qx->List Data->Prop
 | [],ds=>ds=[]
 |s::r,ds=>∃a b,ds=a++b/\Fit s a/\Fits r b
end
def KA (P:Program):Nat->List Field->Nat->Bool
 |off,[],tot=>off==tot
 |off,f::r,tot=>f.offset==off&&KA P (off+P.cellsOf f.type) r tot
def KB (g:TypeId->Option qx):List Field->Option (List qx)
 | []=>some []
 |f::r=>match g f.type,KB g r with
  |some s,some l=>some (s::l)
  |_,_=>none
def sy (P:Program):Nat->TypeId->Option qx
 |0,_=>none
 |n+1,t=>match P.underlying t with
  |some .bool=>some .bool
  |some (.int k)=>some (.int k)
  |some .string=>some .str
  |some (.slice e)=>if 0<P.cellsOf e then (sy P n e).map .Y else none
  |some (.struct dM)=>if KA P 0 dM.toList (P.cellsOf t)=true then (KB (sy P n) dM.toList).map .st else none
  |_=>none
section
variable {hQ:Type} {enc:TypeId×Value->hQ} {P:Program} {w:World} {base:Nat}
def KC (enc:TypeId×Value->hQ)(P:Program)(w:World)(base:Nat)(S:qx)(fuel:Nat)(t:TypeId)(cs:List Value)(x:DataW hQ×List MemPlace):Prop :=
 (∃ds,Fit S ds/\zE w (λ_=>False) ds cs)/\(∀p∈x.2,p.block<w.heap.size) /\
 ∀(aR:World) (sp:Nat->Bool),(∀p∈x.2,sp p.block=true)->(∀b,b<w.heap.size->aR.heap[b]?=w.heap[b]?)->DataW.trod enc P aR base sp true fuel t cs=some x
theorem KD {aZ:Nat->Prop}{d:Data}{v:Value}(h:Den w aZ d v):zE w aZ [d] [v]:=by
 refine⟨rfl,λi yc Df F I=>?_⟩
 cases i with
 |zero=>cases F;cases I;exact h
 |succ i=>simp at F
theorem ae4 (a:Addr)(i:Nat):(a.add i).block=a.block:=by
 unfold Addr.add
 split<;>rfl
theorem add_plain (b off i:Nat):(Addr.add ⟨b,off,none⟩ i)=⟨b,off+i,none⟩:=by
 unfold Addr.add
 split
 ·rename_i h;subst h;rfl
 ·rfl
theorem ae5 {aR:World}{a:Addr}{n:Nat}{cs:List Value}(h:w.cells? base a n=some cs)(O:∀b,b<w.heap.size->aR.heap[b]?=w.heap[b]?):aR.cells? base a n=some cs:=by
 unfold World.cells? at h ⊢
 split at h
 ·rename_i ah;rw[ad ah,<-h]
  by_cases ay:a.block<w.heap.size
  ·have he:(λi=>aR.cell? (a.add i))=λi=>w.cell? (a.add i):=by
    funext i
    exact World.cell?_of_block (a:=a.add i) (O _ (by rw[ae4];exact ay))
   rw[he]
  ·cases n with
   |zero=>rfl
   |succ n =>
    exfalso
    have:w.cell? (a.add 0)=none:=by
     unfold World.cell?;have:w.heap[(a.add 0).block]?=none:=Array.getElem?_eq_none (by rw[ae4];omega);rw[this]
    rw[List.range_succ_eq_map,lu,this] at h
    cases h
 ·cases h
theorem Uf {a:Addr}{n:Nat}{cs:List Value}(h:w.cells? base a n=some cs):(D cs)=n/\∀i,i<n->∃v,cs[i]?=some v/\w.cell? (a.add i)=some v:=by
 unfold World.cells? at h
 split at h
 ·obtain⟨F,I⟩:=oB h;rw[sA] at F;refine⟨F,λi M=>?_⟩;have H:=bx (l:=cs) (i:=i) (by omega);exact⟨_,H,I i i _ (by simp[M]) H⟩
 ·cases h
theorem aq8 {a:Addr}{v:Value}(h:w.cell? a=some v):a.block<w.heap.size/\a.spot=none:=by
 unfold World.cell? at h
 split at h
 ·rename_i ah;refine⟨(Array.getElem?_eq_some_iff.1 ah).1,?_⟩
  cases X:a.spot with
  |none=>rfl
  |some x=>rw[X] at h;simp at h
 ·cases h
theorem mapM_congr {α β:Type}{f g:α->Option β}:∀{l:List α},(∀x∈l,f x=g x)->l.mapM f=l.mapM g:=by
 intro l
 induction l with
 |nil=>intro _;rfl
 |cons a r az =>
  intro h;rw[lu,lu,h a (by simp),az λx Q=>h x (by simp[Q])]
theorem aq9 {β:Type}(len:Nat)(aN:Nat->β->Prop)(h:∀i,i<len->∃y,aN i y):∃l:List β,D l=len/\∀i y,l[i]?=some y->aN i y:=by
 induction len with
 |zero=>exact⟨[],rfl,λi y h=>by simp at h⟩
 |succ n az =>
  obtain⟨l,F,I⟩:=az λi M=>h i (by omega);obtain⟨y,av⟩:=h n (by omega);refine⟨l++[y],by simp[F],λi z aX=>?_⟩
  rw[FW] at aX
  split at aX
  ·exact I i z aX
  ·rename_i ay
   have:i-D l=0:=by
    have:=(dP.1 aX).1;simp at this;omega
   rw[this] at aX
   cases aX;have:i=n:=by omega
   subst this;exact av
theorem ara {β:Type}{sz:Nat}:∀(es:List (List β)),(∀e∈es,D e=sz)->0<sz->∀(i:Nat) (d:β),es.flatten[i]?=some d->∃e,es[i/sz]?=some e/\e[i%sz]?=some d:=by
 intro es
 induction es with
 |nil=>intro _ _ i d h;simp at h
 |cons e r az =>
  intro h aX i d aa;have he:=h e (by simp);rw[jL,FW] at aa
  split at aa
  ·rename_i ay;rw[he] at ay;refine⟨e,by rw[Ug ay];rfl,by rw[KE ay];exact aa⟩
  ·rename_i cj;rw[he] at aa cj;obtain⟨x,F,I⟩:=az (λy av=>h y (by simp[av])) aX _ d aa;have M:i=(i-sz)+sz:=by omega
   refine⟨x,?_,?_⟩
   ·rw[M,Nat.add_div_right _ aX]
    simpa using F
   ·rw[M,Nat.add_mod_right];exact I
theorem arb {n fuel:Nat}(az:∀t S,sy P n t=some S->∀(cs:List Value) (x:DataW hQ×List MemPlace),DataW.trod enc P w base (λ_=>true) true fuel t cs=some x->KC enc P w base S fuel t cs x)(cs:List Value):
  ∀(dM:List Field) (off:Nat) (l:List qx) (xs:List (DataW hQ×List MemPlace)),KB (sy P n) dM=some l->KA P off dM (D cs)=true ->
   dM.mapM (λf=>DataW.trod enc P w base (λ_=>true) true fuel f.type ((cs.drop f.offset).take (P.cellsOf f.type)))=some xs ->
   (∃ds,Fits l ds/\zE w (λ_=>False) ds (cs.drop off))/\(∀p∈xs.flatMap (·.2),p.block<w.heap.size) /\
   ∀(aR:World) (sp:Nat->Bool),(∀p∈xs.flatMap (·.2),sp p.block=true)->(∀b,b<w.heap.size->aR.heap[b]?=w.heap[b]?) ->
    dM.mapM (λf=>DataW.trod enc P aR base sp true fuel f.type ((cs.drop f.offset).take (P.cellsOf f.type)))=some xs:=by
 intro dM
 induction dM with
 |nil =>
  intro off l xs ar bF Q;simp only[KB,cn] at ar;subst ar;simp only[KA,beq_iff_eq] at bF;simp only[Gp,g9,cn] at Q;subst Q;refine⟨⟨[],rfl,?_⟩,by simp,λ_ _ _ _=>rfl⟩
  rw[bF,Uh];exact⟨rfl,λi d v h=>by simp at h⟩
 |cons f r ihf =>
  intro off l xs ar bF Q;unfold KB at ar
  split at ar
  ·rename_i s fP X N3
   cases ar;simp only[KA,e4,beq_iff_eq] at bF;obtain⟨TG,bF⟩:=bF;rw[lu] at Q;simp only[g9,hg,eo,cn] at Q;obtain⟨x,oH,ys,arc,rfl⟩:=Q;obtain⟨⟨Ui,Uj,Gt⟩,ard,arf⟩:=az _ _ X _ _ oH;obtain⟨⟨Dy,kJ,eJ⟩,arh,ari⟩:=ihf _ _ _ N3 bF arc;refine⟨⟨Ui++Dy,⟨Ui,Dy,rfl,Uj,kJ⟩,?_⟩,?_,?_⟩
   ·have adP:cs.drop off=(cs.drop off).take (P.cellsOf f.type)++cs.drop (off+P.cellsOf f.type):=by
     rw[<-Gk,sx]
    rw[TG] at Gt;rw[adP];refine⟨by rw[fH,fH,Gt.1,eJ.1],λi d v F I=>?_⟩
    rw[FW] at F I;have hlen:=Gt.1
    by_cases ay:i<D Ui
    ·rw[ad ay] at F;rw[ad (by omega)] at I;exact Gt.2 i d v F I
    ·rw[ag ay] at F;rw[ag (by omega),hlen] at I;exact eJ.2 _ d v F I
   ·intro p aF;rw[qy,ko] at aF;exact aF.elim (ard p) (arh p)
   ·intro aR sp jD O;rw[lu,arf aR sp (λp aF=>jD p (by rw[qy,ko];exact .inl aF)) O];have:=ari aR sp (λp aF=>jD p (by rw[qy,ko];exact .inr aF)) O;simp only[g9,hg,kK];rw[this]
    rfl
  ·cases ar
theorem arj:∀(n:Nat) (t:TypeId) (S:qx),sy P n t=some S->∀(fuel:Nat) (cs:List Value) (x:DataW hQ×List MemPlace),DataW.trod enc P w base (λ_=>true) true fuel t cs=some x->KC enc P w base S fuel t cs x:=by
 intro n
 induction n with
 |zero=>intro t S h;simp[sy] at h
 |succ n az =>
  intro t S cS fuel cs x Q
  cases fuel with
  |zero=>cases Q
  |succ fuel =>
   unfold sy at cS
   split at cS
   ·-- bool
    rename_i hu
    cases cS
    have key:∀(aR:World) (sp:Nat->Bool) (cs:List Value),DataW.trod enc P aR base sp true (fuel+1) t cs=match cs with|[.bool b]=>some (.lit (.bool b),[])|_=>none:=by
     intro aR sp cs;unfold DataW.trod;rw[hu];clear Q
     split<;>simp_all
    rw[key] at Q
    split at Q
    ·cases Q;exact⟨⟨_,⟨_,rfl⟩,KD .bool⟩,by simp,λaR sp _ _=>by rw[key]⟩
    ·cases Q
   ·-- int
    rename_i k hu
    cases cS
    have key:∀(aR:World) (sp:Nat->Bool) (cs:List Value),DataW.trod enc P aR base sp true (fuel+1) t cs=match cs with|[.int k' n]=>if k'=k/\(Lit.int k n).wf=true then some (.lit (.int k n),[]) else none|_=>none:=by
     intro aR sp cs;unfold DataW.trod;rw[hu];clear Q
     split<;>simp_all
    rw[key] at Q
    split at Q
    ·split at Q
     ·rename_i H
      cases Q;obtain⟨rfl,ae6⟩:=H;exact⟨⟨_,⟨_,rfl,ae6⟩,KD .int⟩,by simp,λaR sp _ _=>by rw[key];simp[ae6]⟩
     ·cases Q
    ·cases Q
   ·-- string
    rename_i hu
    cases cS
    have key:∀(aR:World) (sp:Nat->Bool) (cs:List Value),DataW.trod enc P aR base sp true (fuel+1) t cs=match cs with|[.string s]=>if s.size<=maxLen then some (.lit (.string s.data.toList),[]) else none|_=>none:=by
     intro aR sp cs;unfold DataW.trod;rw[hu];clear Q
     split<;>simp_all
    rw[key] at Q
    split at Q
    ·rename_i s
     split at Q
     ·rename_i H
      cases Q;refine⟨⟨[.str s.data.toList],⟨_,rfl,?_⟩,KD ?_⟩,by simp,λaR sp _ _=>by rw[key];simp[H]⟩
      ·rw[Array.length_toList];exact H
      ·have:Den w (λ_=>False) (.str s.data.toList) (.string ⟨s.data.toList.toArray⟩):=.str
       simpa using this
     ·cases Q
    ·cases Q
   ·-- slice
    rename_i e hu
    split at cS
    ·rename_i H;rw[eb] at cS;obtain⟨S,cS,rfl⟩:=cS
     have key:∀(aR:World) (sp:Nat->Bool) (cs:List Value),DataW.trod enc P aR base sp true (fuel+1) t cs=match cs with
      | [.slice none 0 0]=>some (.nil,[])
      | [.slice (some a) len cap] =>
       if base<=a.block/\len<=cap/\cap<=maxLen then
        ((
         dS len).mapM λi=>(aR.cells? base (a.add (i*P.cellsOf e)) (P.cellsOf e)).bind (DataW.trod enc P aR base sp true fuel e)).bind λelems =>
         (if sp a.block then (dS (cap-len)).mapM λj=>(aR.cells? base (a.add ((len+j)*P.cellsOf e)) (P.cellsOf e)).bind (DataW.trod enc P aR base sp true fuel e) else some []).map λrest =>
          (.slice (elems.map (·.1)) (rest.map (·.1)),MemPlace.row a ((D elems+D rest)*P.cellsOf e)++(elems++rest).flatMap (·.2))
       else none
      |_=>none:=by
      intro aR sp cs
      conv=>lhs;unfold DataW.trod
      rw[hu];clear Q
      split<;>simp_all
     rw[key] at Q
     split at Q
     ·cases Q;exact⟨⟨[.Y []],⟨_,rfl,fv _,by simp⟩,KD .lS⟩,by simp,λaR sp _ _=>by rw[key];rfl⟩
     ·rename_i a len cap
      split at Q
      ·rename_i ah;rw[eo] at Q;obtain⟨elems,he,Q⟩:=Q;rw[eb] at Q;obtain⟨rest,ab,rfl⟩:=Q;rw[ad rfl] at ab;obtain⟨k1,ark⟩:=oB he;obtain⟨b0,arl⟩:=oB ab;rw[sA] at k1 b0
       -- each place
       have cp:∀i y,(i<len->elems[i]?=some y)->(¬ i<len->i<cap/\rest[i-len]?=some y)->∃ci,w.cells? base (a.add (i*P.cellsOf e)) (P.cellsOf e)=some ci/\DataW.trod enc P w base (λ_=>true) true fuel e ci=some y:=by
        intro i y F I
        by_cases M:i<len
        ·have:=ark i i y (by simp[M]) (F M);rwa [eo] at this
        ·obtain⟨af,aO⟩:=I M;have:=arl (i-len) (i-len) y (List.getElem?_range (by omega)) aO;rw[show len+(i-len)=i by omega,eo] at this
         exact this
       have fk:0<D elems+(D rest)->a.block<w.heap.size/\a.spot=none:=by
        intro aF;have ao:0<cap:=by omega
        have:∃y,(0<len->elems[0]?=some y)/\(¬ 0<len->0<cap/\rest[0-len]?=some y):=by
         by_cases ar:0<len
         ·exact⟨elems[0],λ_=>bx _,λh=>absurd ar h⟩
         ·exact⟨rest[0],λh=>absurd h ar,λ_=>⟨ao,by rw[Nat.zero_sub];exact bx _⟩⟩
        obtain⟨y,F,I⟩:=this;obtain⟨ci,jT,-⟩:=cp 0 y F I;obtain⟨v,-,aA⟩:=(Uf jT).2 0 H;have:=aq8 aA;rw[Dz] at this;have bI:(a.add 0).add 0=a:=by unfold Addr.add;simp
        rw[bI] at this;exact this
       have ae7:∀i y,(i<len->elems[i]?=some y)->(¬ i<len->i<cap/\rest[i-len]?=some y)->∃ci,w.cells? base (a.add (i*P.cellsOf e)) (P.cellsOf e)=some ci/\KC enc P w base S fuel e ci y:=by
        intro i y F I;obtain⟨ci,af,aO⟩:=cp i y F I;exact⟨ci,af,az e S cS fuel ci y aO⟩
       have Uk:∀(i:Nat) y,elems[i]?=some y->∃ci,w.cells? base (a.add (i*P.cellsOf e)) (P.cellsOf e)=some ci/\KC enc P w base S fuel e ci y :=
        λi y av=>ae7 i y (λ_=>av) (λh=>absurd (by have:=(dP.1 av).1;omega) h)
       have ae8:∀(j:Nat) y,rest[j]?=some y->∃ci,w.cells? base (a.add ((len+j)*P.cellsOf e)) (P.cellsOf e)=some ci/\KC enc P w base S fuel e ci y :=
        λj y av=>ae7 (len+j) y (λh=>by omega) (λ_=>⟨by have:=(dP.1 av).1;omega,by rwa [Gu]⟩)
       refine⟨?_,?_,?_⟩
       ·obtain⟨es,Ul,heq⟩:=aq9 len (λi (ds:List Data)=>∃ci,w.cells? base (a.add (i*P.cellsOf e)) (P.cellsOf e)=some ci/\Fit S ds/\zE w (λ_=>False) ds ci) λi M=>by
         obtain⟨ci,F,⟨ds,I,af⟩,-,-⟩:=Uk i _ (bx (by omega));exact⟨ds,ci,F,I,af⟩
        refine⟨[.Y es],⟨es,rfl,by omega,λy av=>?_⟩,KD ?_⟩
        ·obtain⟨i,M⟩:=qz.1 av;obtain⟨ci,-,h,-⟩:=heq i y M;exact h
        ·by_cases ar:len=0
         ·rw[ar] at Ul ⊢;rw[tC Ul];exact .lS
         ·obtain⟨kJ,eJ⟩:=fk (by omega);obtain⟨b,off,spot⟩:=a;simp only at kJ eJ;subst eJ
          have e8:∀y∈es,D y=P.cellsOf e:=by
           intro y av;obtain⟨i,M⟩:=qz.1 av;obtain⟨ci,F,-,I⟩:=heq i y M;rw[<-I.1,(Uf F).1]
          have hR:∀(i:Nat) (d:Data),es.flatten[i]?=some d->∃v,w.cell? ⟨b,off+i,none⟩=some v/\Den w (λ_=>False) d v:=by
           intro i d aa;obtain⟨y,F,I⟩:=ara es e8 H i d aa;obtain⟨ci,af,-,aO⟩:=heq _ y F;have hm:i%P.cellsOf e<P.cellsOf e:=Nat.mod_lt _ H;obtain⟨v,bm,bK⟩:=(Uf af).2 _ hm;rw[add_plain,add_plain,qn,rz,Nat.div_add_mod] at bK;exact⟨v,bK,aO.2 _ d v I bm⟩
          rw[<-Ul];refine .Y (sz:=P.cellsOf e) (λi=>(w.cell? ⟨b,off+i,none⟩).getD undef) (by omega) (by omega) kJ (λh=>h) e8 (λi M=>?_) λi d aa=>?_
          ·have ay:i<D es.flatten:=by rw[NP e8];exact M
           obtain⟨v,aA,-⟩:=hR i _ (bx ay);rw[aA]
           rfl
          ·obtain⟨v,aA,nn⟩:=hR i d aa;rw[aA];exact nn
       ·intro p aF;simp only[ko] at aF;rcases aF with aF|aF
        ·unfold MemPlace.row at aF;rw[ek] at aF;obtain⟨i,M,rfl⟩:=aF;rw[ha] at M
         have:0<D elems+D rest:=by
          rcases k4 (D elems+D rest) with h|h
          ·rw[h,Dz] at M;omega
          ·exact h
         exact (fk this).1
        ·rw[yd] at aF;obtain⟨y,av,aF⟩:=aF;rw[ko] at av;rcases av with av|av
         ·obtain⟨i,M⟩:=qz.1 av;obtain⟨ci,-,h⟩:=Uk i y M;exact h.2.1 p aF
         ·obtain⟨i,M⟩:=qz.1 av;obtain⟨ci,-,h⟩:=ae8 i y M;exact h.2.1 p aF
       ·intro aR sp jD O;rw[key];simp only;rw[ad ah]
        have eR:0<D elems+(D rest)->sp a.block=true:=by
         intro aF
         have:=jD (.cell a.block (a.off+0)) (by
          rw[ko]
          left
          unfold MemPlace.row;rw[ek];exact⟨0,by rw[ha];exact Nat.mul_pos aF H,rfl⟩)
         exact this
        have arn:(dS len).mapM (λi=>(aR.cells? base (a.add (i*P.cellsOf e)) (P.cellsOf e)).bind (DataW.trod enc P aR base sp true fuel e))=some elems:=by
         rw[<-he];refine mapM_congr λi M=>?_;rw[ha] at M;have av:=bx (l:=elems) (i:=i) (by omega);obtain⟨ci,F,I⟩:=Uk i _ av;rw[ae5 F O,F];simp only[kK];obtain⟨aro,af,aO⟩:=cp i _ (λ_=>av) (λh=>absurd M h);rw[F] at af
         cases af;rw[aO]
         exact I.2.2 aR sp (λp aF=>jD p (by
          rw[ko];right
          rw[yd];exact⟨_,ko.2 (.inl (ec av)),aF⟩)) O
        have arp:(dS (cap-len)).mapM (λj=>(aR.cells? base (a.add ((len+j)*P.cellsOf e)) (P.cellsOf e)).bind (DataW.trod enc P aR base sp true fuel e))=some rest:=by
         rw[<-ab];refine mapM_congr λj ai=>?_;rw[ha] at ai;have av:=bx (l:=rest) (i:=j) (by omega);obtain⟨ci,F,I⟩:=ae8 j _ av;rw[ae5 F O,F];simp only[kK];obtain⟨aro,af,aO⟩:=cp (len+j) rest[j] (λh=>by omega) (λ_=>⟨by omega,by rw[Gu];exact av⟩);rw[F] at af
         cases af;rw[aO]
         exact I.2.2 aR sp (λp aF=>jD p (by
          rw[ko];right
          rw[yd];exact⟨_,ko.2 (.inr (ec av)),aF⟩)) O
        rw[arn];simp only[kK]
        cases X:sp a.block with
        |true=>simp only[if_true];rw[arp];rfl
        |false =>
         have aX:¬ 0<D elems+D rest:=λh=>by rw[eR h] at X;cases X
         have:rest=[]:=tC (by omega);subst this
         rfl
      ·cases Q
     ·cases Q
    ·cases cS
   ·-- struct
    rename_i dM hu
    split at cS
    ·rename_i bF;rw[eb] at cS;obtain⟨l,ar,rfl⟩:=cS
     have key:∀(aR:World) (sp:Nat->Bool),DataW.trod enc P aR base sp true (fuel+1) t cs =
       if (D cs)=P.cellsOf t then (dM.toList.mapM λf=>DataW.trod enc P aR base sp true fuel f.type ((cs.drop f.offset).take (P.cellsOf f.type))).map λxs=>(.agg (xs.map (·.1)),xs.flatMap (·.2)) else none:=by
      intro aR sp
      conv=>lhs;unfold DataW.trod
      rw[hu]
     rw[key] at Q
     split at Q
     ·rename_i hlen;rw[eb] at Q;obtain⟨xs,Bo,rfl⟩:=Q;rw[<-hlen] at bF;obtain⟨F,I,af⟩:=arb (λt S h cs x Q=>az t S h fuel cs x Q) cs dM.toList 0 l xs ar bF Bo;refine⟨?_,I,λaR sp jD O=>?_⟩
      ·obtain⟨ds,aI,aa⟩:=F;exact⟨ds,aI,by simpa using aa⟩
      ·rw[key,ad hlen,af aR sp jD O]
       rfl
     ·cases Q
    ·cases cS
   ·cases cS
end
end Go.Mini
namespace Go.Mini
open Go Go.ChangeShapes Go.WideShapes Go.RowKit
def ae9:qx->Data->Prop
 |.st l,d=>∃cs,d=.agg cs/\Fits l cs
 |s,d=>Fit s [d]
def OH:List qx->List Data->Prop
 | [],ds=>ds=[]
 |s::r,ds=>∃d t,ds=d::t/\ae9 s d/\OH r t
section
variable {hQ:Type} {enc:TypeId×Value->hQ} {P:Program} {w:World}
theorem arq {aZ:Nat->Prop}{d:Data}{v:Value}{ds:List Data}{vs:List Value}(h:Den w aZ d v)(X:zE w aZ ds vs):zE w aZ (d::ds) (v::vs):=by
 refine⟨by simp[X.1],λi yc Df F I=>?_⟩
 cases i with
 |zero=>cases F;cases I;exact h
 |succ i=>exact X.2 i yc Df (by simpa using F) (by simpa using I)
theorem ars {n:Nat}{t:TypeId}{S:qx}{v:Value}{d:DataW hQ}{ps:List MemPlace}{sB:Nat}(cS:sy P n t=some S)(hR:Value.okWide P w .any sB t v)(h:DataW.Trod enc P w 0 (λ_=>true) true t v d ps):
  (∃cf,ae9 S cf/\Den w (λ_=>False) cf v)/\(∀p∈ps,p.block<w.heap.size) /\
  ∀(aR:World) (sp:Nat->Bool),(∀p∈ps,sp p.block=true)->(∀b,b<w.heap.size->aR.heap[b]?=w.heap[b]?)->DataW.Trod enc P aR 0 sp true t v d ps:=by
 obtain⟨fuel,Q⟩:=h;obtain⟨⟨ds,aI,aa⟩,I,af⟩:=arj n t S cS fuel _ _ Q;refine⟨?_,I,λaR sp jD O=>⟨fuel,af aR sp jD O⟩⟩
 have one:(∀cs,v ≠ .agg cs)->∀d,ds=[d]->Den w (λ_=>False) d v:=by
  intro aA d e;subst e;have:v.cells=#[v]:=by unfold Value.cells;split<;>simp_all
  rw[this] at aa;exact aa.2 0 d v rfl rfl
 cases n with
 |zero=>simp[sy] at cS
 |succ n =>
  unfold sy at cS;unfold Value.okWide at hR
  split at cS
  ·rename_i hu
   cases cS;rw[hu] at hR;obtain⟨b,rfl⟩:=aI;refine⟨_,⟨b,rfl⟩,one ?_ _ rfl⟩;rintro cs rfl;simp[Cell.okWide,Cell.ok,hu] at hR
  ·rename_i k hu
   cases cS;rw[hu] at hR;obtain⟨b,rfl,ah⟩:=aI;refine⟨_,⟨b,rfl,ah⟩,one ?_ _ rfl⟩;rintro cs rfl;simp[Cell.okWide,Cell.ok,hu] at hR
  ·rename_i hu
   cases cS;rw[hu] at hR;obtain⟨b,rfl,ah⟩:=aI;refine⟨_,⟨b,rfl,ah⟩,one ?_ _ rfl⟩;rintro cs rfl;simp[Cell.okWide,Cell.ok,hu] at hR
  ·rename_i e hu
   split at cS
   ·rw[eb] at cS;obtain⟨S,cS,rfl⟩:=cS;rw[hu] at hR;obtain⟨b,rfl,ah⟩:=aI;refine⟨_,⟨b,rfl,ah⟩,one ?_ _ rfl⟩;rintro cs rfl;simp[Cell.okWide,Cell.ok,hu] at hR
   ·cases cS
  ·rename_i dM hu
   split at cS
   ·rw[eb] at cS;obtain⟨l,ar,rfl⟩:=cS;rw[hu] at hR;obtain⟨cs,rfl,-,-⟩:=hR;refine⟨.agg ds,⟨ds,rfl,aI⟩,?_⟩;have:Den w (λ_=>False) (.agg ds) (.agg cs.toList.toArray):=.agg aa.1 aa.2
    simpa using this
   ·cases cS
  ·cases cS
theorem Um {n sB:Nat}:∀{tz:List TypeId} {schs:List qx} {vs:List Value} {ds:List (DataW hQ)} {ps:List MemPlace},tz.mapM (sy P n)=some schs->(∀(j:Nat) t v,tz[j]?=some t->vs[j]?=some v->Value.okWide P w .any sB t v) ->
  DataW.TrodAll enc P w 0 (λ_=>true) true tz vs ds ps ->
  (∃sC,OH schs sC/\zE w (λ_=>False) sC vs)/\(∀p∈ps,p.block<w.heap.size) /\
  ∀(aR:World) (sp:Nat->Bool),(∀p∈ps,sp p.block=true)->(∀b,b<w.heap.size->aR.heap[b]?=w.heap[b]?)->DataW.TrodAll enc P aR 0 sp true tz vs ds ps
 | [],schs,vs,ds,ps,cS,hR,h=>by
  obtain⟨rfl,rfl,rfl⟩:=trodAll_nil h;simp at cS;subst cS;exact⟨⟨[],rfl,rfl,λi d v h=>by simp at h⟩,by simp,λ_ _ _ _=>rfl⟩
 |t::tz,schs,vs,ds,ps,cS,hR,h=>by
  obtain⟨v,art,d,aru,a,b,rfl,rfl,rfl,F,I⟩:=trodAll_cons h;rw[lu] at cS;simp only[g9,hg,eo,cn] at cS;obtain⟨S,arv,l,ar,rfl⟩:=cS;obtain⟨⟨cf,h7,arw⟩,jB,cd⟩:=ars arv (hR 0 t v rfl rfl) F;obtain⟨⟨sC,arx,ary⟩,jC,c0⟩:=Um ar (λj arz Df bF aA=>hR (j+1) arz Df (by simpa using bF) (by simpa using aA)) I;refine⟨⟨cf::sC,⟨cf,sC,rfl,h7,arx⟩,arq arw ary⟩,λp aF=>?_,λaR sp jD O=>?_⟩
  ·rw[ko] at aF;exact aF.elim (jB p) (jC p)
  ·exact trodAll_cons_mk (cd aR sp (λp aF=>jD p (ko.2 (.inl aF))) O) (c0 aR sp (λp aF=>jD p (ko.2 (.inr aF))) O)
theorem arA {W sD:World}(h:Fr (λ_=>False) W sD)(may:MemPlace->Prop):W.keptBut sD may:=by
 refine⟨h.os,h.output,λi M=>?_⟩;rw[h.block i M id]
 cases ah:W.heap[i]? with
 |none=>trivial
 |some o =>
  cases o with
  |cells c t aE=>exact⟨rfl,rfl,rfl,λ_ _=>rfl⟩
  |map es clock=>exact .inr ⟨rfl,rfl⟩
  |_=>rfl
theorem arB {f:Func}{s:ChangeSpec}{apart fresh handsOn again:Bool}{W sD:World}{args:Array Value}{ds gs:List (DataW hQ)}{before:List MemPlace}{n sB:Nat}{schs:List qx}{KF:TypeId}
  (sE:DataW.Whole enc P f.params.toList s.vars apart W args.toList ds gs before) (aA:s.vars=[]) (cS:f.params.toList.mapM (sy P n)=some schs)
  (hR:∀(j:Nat) t v,f.params[j]?=some t->args[j]?=some v->Value.okWide P W .any sB t v)
  (ab:f.resultTypes=#[KF]) (ah:P.underlying KF=some .bool) (jA:s.fn hQ ds={ results:=[.lit (.bool true)],args:=ds }) (aI:Fr (λ_=>False) W sD) :
  s.post enc P f apart fresh handsOn again W args (.bool true) sD:=by
 have Un:=sE;obtain⟨p,q,dz,rA,rfl,aX,aL⟩:=sE;rw[aA] at rA;obtain⟨rfl,rfl⟩:=trodVars_none rA;obtain⟨-,ay,O⟩:=Um cS (λj t v bF aA=>hR j t v (by simpa using bF) (by simpa using aA)) dz;have afa:∀b,b<W.heap.size->sD.heap[b]?=W.heap[b]?:=λb ah=>aI.block b ah id
 have vr:∀(b:Nat) (sp:Nat->Bool) (aa:Bool),DataW.TrodAll enc P sD b sp aa f.resultTypes.toList ((Value.bool true).resultList f.resultTypes.size) (s.fn hQ (ds++[])).results []:=by
  intro b sp aa;rw[fC,jA,ab];exact trodAll_cons_mk (shut_bool ah true) trodAll_mk0
 have n0:∀sp:Nat->Bool,(∀x∈p,sp x.block=true)->DataW.TrodAll enc P sD 0 sp true f.params.toList args.toList (s.fn hQ (ds++[])).args p:=by
  intro sp jD;rw[fC,jA];exact O sD sp jD afa
 have afb:∀sp:Nat->Bool,DataW.TrodVars enc P sD sp s.vars (s.fn hQ (ds++[])).vars []:=by
  intro sp;rw[aA,fC,jA]
  rfl
 refine⟨ds,[],p++[],[],p,[],Un,vr _ _ _,n0 _ (λx Q=>by simpa using ay x Q),afb _,arA aI _,λ_=>⟨?_,_,_,([]++p)++[],⟨[]++p,[],trodAll_append (n0 _ (λ_ _=>rfl)) (vr _ _ _),afb _,rfl,?_,?_⟩,?_⟩⟩
 ·intro j t r F I;rw[ab] at F I
  cases j with
  |zero =>
   simp[Value.resultList] at F I;subst F I;exact okWide_bool_mk ah true
  |succ j=>simp at F
 ·intro b off aF;have afc:MemPlace.cell b off∈p:=by simpa using aF
  have ah:=ay _ afc;have ao:=aX b off (by simpa using afc);unfold World.frozen? at ao ⊢;rw[afa b ah];exact ao
 ·intro aP;have:=aL aP
  simpa using this
 ·intro x Q _
  simpa using Q
theorem arC {f:FuncId}{fn:Func}{s:ChangeSpec}{apart fresh handsOn again:Bool}{aQ:List Data->Option eL}{n:Nat}{schs:List qx}{KF:TypeId}(aF:tM P f aQ)(aA:s.vars=[])(cS:fn.params.toList.mapM (sy P n)=some schs)
  (ab:fn.resultTypes=#[KF]) (ah:P.underlying KF=some .bool) (jA:∀ds:List (DataW hQ),D ds=(D fn.params.toList)->s.fn hQ ds={ results:=[.lit (.bool true)],args:=ds })
  {W:World} {base:Nat} {args:Array Value} {ds gs:List (DataW hQ)} {before:List MemPlace}
  (eA:∀sC,OH schs sC->aQ sC=some (.same (.bool true)))
  (hR:∀(j:Nat) t v,fn.params[j]?=some t->args[j]?=some v->Value.okWide P W .any base t v)
  (sE:DataW.Whole enc P fn.params.toList s.vars apart W args.toList ds gs before) :
  Calls P f args W λe sD=>∃v,e=.returned v/\s.post enc P fn apart fresh handsOn again W args v sD:=by
 have Un:=sE;obtain⟨p,q,dz,rA,rfl,aX,aL⟩:=sE;obtain⟨⟨sC,F,I⟩,-,-⟩:=Um cS (λj t v bF aA=>hR j t v (by simpa using bF) (by simpa using aA)) dz
 have hlen:(D ds)=D fn.params.toList:=by
  have:∀(tz:List TypeId) (vs:List Value) (ds:List (DataW hQ)) (ps:List MemPlace),DataW.TrodAll enc P W 0 (λ_=>true) true tz vs ds ps->(D ds)=D tz:=by
   intro tz
   induction tz with
   |nil=>intro vs ds ps h;obtain⟨rfl,rfl,rfl⟩:=trodAll_nil h;rfl
   |cons t r az=>intro vs ds ps h;obtain⟨v,art,d,aru,a,b,rfl,rfl,rfl,-,I⟩:=trodAll_cons h;simp[az _ _ _ I]
  exact this _ _ _ _ dz
 have H:=aF.run sC _ (eA sC F) (λ_=>False) W args.toList (λb ah=>ah.elim) I;have aP:args.toList.toArray=args:=by simp
 rw[aP] at H;refine H.mono λe sD ⟨v,he,bT,aa⟩=>⟨v,he,?_⟩
 have:v=.bool true:=by
  have nn:Den sD (λ_=>False) (.bool true) v:=aa
  cases nn
  rfl
 subst this;exact arB Un aA cS hR ab ah (jA ds hlen) bT
theorem OI {α:Type}{l:List α}{n:Nat}(h:(D l)=n+1):∃d t,l=d::t/\D t=n:=by
 cases l with
 |nil=>simp at h
 |cons d t=>exact⟨d,t,rfl,by simpa using h⟩
theorem Uo {α:Type}{e:α->List Data}{good:α->Prop}:∀{es:List (List Data)},(∀x∈es,∃a,x=e a/\good a)->∃l:List α,es=l.map e/\∀a∈l,good a
 | [],_=>⟨[],rfl,by simp⟩
 |x::r,h=>by
  obtain⟨a,rfl,aP⟩:=h x (by simp);obtain⟨l,rfl,ar⟩:=Uo (es:=r) λy av=>h y (by simp[av]);exact⟨a::l,rfl,λb ah=>(hj.1 ah).elim (λe=>e ▸ aP) (ar b)⟩
end
end Go.Mini
namespace Go.Mini
open Go
def zH (x:R)(m:Mem):R->Mem->Prop:=λr mem'=>r=x/\mem'=m
@[go_sem high] theorem aJ8 {K:bb->Prop}(x:R)(m:Mem)(d:Option Nat)(st:bb):wK K (some (.rel (zH x m))) d st=K ⟨put st.tm d x,m⟩:=by
 rw[apM];apply propext;exact⟨λh=>h x m ⟨rfl,rfl⟩,λh r mem' ⟨aC,aD⟩=>by rw[aC,aD];exact h⟩
def Bt (bL:List R->Mem->Option (R×Mem))(args:List R)(mem:Mem):Option gZ:=(bL args mem).map λx => .rel (zH x.1 x.2)
@[go_sem] theorem aJ9 (bL:List R->Mem->Option (R×Mem))(args:List R)(mem:Mem):Bt bL args mem=(bL args mem).map λx => .rel (zH x.1 x.2):=bw
structure KG (P:Program) (f:FuncId) (bL:List R->Mem->Option (R×Mem)):Prop where
 real:Real P f
 run:∀args mem x,bL args mem=some x->∀A w B vs,fr A w B mem->dp w (cg A B) B args vs->TO P f vs A w B mem (.rel (zH x.1 x.2))
def Gv (res:List oA)(x:R)(m:Mem):eW->bb->Prop
 |.exit _,_=>False
 |.normal,st=>pF st res=some x/\st.mem=m
 |.ret,st=>pF st res=some x/\st.mem=m
@[go_sem] theorem aKa {res:List oA}{st:bb}(x:R)(m:Mem)(id:Nat):Gv res x m (.exit id) st=False:=bw
@[go_sem] theorem aKb {res:List oA}{st:bb}(x:R)(m:Mem):Gv res x m .normal st=(pF st res=some x/\st.mem=m):=bw
@[go_sem] theorem aKc {res:List oA}{st:bb}(x:R)(m:Mem):Gv res x m .ret st=(pF st res=some x/\st.mem=m):=bw
theorem afd {P : Program}{T : bd}{kb : Nat}{own : List Nat}(cQ : qu P T)(hm : P.follows .mixedOrders = true){f : FuncId}{fn : Func}{mf : bN}(aI : P.funcs[f]? = some fn)(tN : (fn.name == "runtime.NumGoroutine") = false)(a1 : sq P kb own fn = some { mf with body := erase mf.body })
  {bL:List R->Mem->Option (R×Mem)} (h:∀args mem x,bL args mem=some x->(D args)<=mf.n/\wp T mf.body (Gv mf.res x.1 x.2) ⟨km args,mem⟩):KG P f bL:=by
 refine⟨?_,λargs mem x nr A w B vs b2 aA=>?_⟩
 ·cases ah:fn.body with
  |none=>simp[sq,ah] at a1
  |some c=>exact⟨fn,c,aI,ah,tN⟩
 ·obtain⟨hlen,wN⟩:=h args mem x nr;refine Calls.mono (Gl (Post:=zH x.1 x.2) cQ hm aI a1 hlen (λe st O=>?_) wN b2 aA) λe aR he=>?_
  ·cases e with
   |exit id=>exact O
   |normal=>exact⟨_,O.1,rfl,O.2⟩
   |ret=>exact⟨_,O.1,rfl,O.2⟩
  ·obtain⟨v,m,mem',bu,rfl,X,mW,aF⟩:=he;exact⟨v,m,mem',bu,rfl,X,mW,aF⟩
def OJ:Option (R×Mem)->Option gZ->Option gZ
 |some x,_=>some (.rel (zH x.1 x.2))
 |none,e=>e
@[go_sem] theorem aKd (x:R×Mem)(e:Option gZ):OJ (some x) e=some (.rel (zH x.1 x.2)):=bw
@[go_sem] theorem aKe (e:Option gZ):OJ none e=e:=bw
def zI (aQ:List Data->Option eL)(bL:List R->Mem->Option (R×Mem))(args:List R)(mem:Mem):Option gZ:=OJ (bL args mem) (aW aQ args mem)
@[go_sem] theorem aKf (aQ:List Data->Option eL)(bL:List R->Mem->Option (R×Mem))(args:List R)(mem:Mem):zI aQ bL args mem=OJ (bL args mem) (aW aQ args mem):=bw
open Classical in
def Gw {α:Type}(bh:α->List R->Mem->Prop)(res:α->Mem->R×Mem):List R->Mem->Option (R×Mem):=λargs mem=>if h:∃a,bh a args mem then some (res (tO h) mem) else none
theorem afe {α:Type}{bh:α->List R->Mem->Prop}{res:α->Mem->R×Mem}(uniq:∀a b args mem,bh a args mem->bh b args mem->res a mem=res b mem){a:α}{args:List R}{mem:Mem}(h:bh a args mem):Gw bh res args mem=some (res a mem):=by
 have Q:∃b,bh b args mem:=⟨a,h⟩;unfold Gw;rw[dif_pos Q,uniq _ _ _ _ (o7 Q) h]
theorem Up {α:Type}{bh:α->List R->Mem->Prop}{res:α->Mem->R×Mem}{args:List R}{mem:Mem}{x:R×Mem}(h:Gw bh res args mem=some x):∃a,bh a args mem/\x=res a mem:=by
 unfold Gw at h
 split at h
 ·rename_i Q;exact⟨_,o7 Q,(o3 h).symm⟩
 ·cases h
def yn:Nat->Nat->List Int
 |0,_=>[]
 |f+1,n=>if n=0 then [] else ((n%1048576:Nat):Int)::yn f (n/1048576)
def aM (n:Nat):List Int:=yn n n
def bf:List Int->Int
 | []=>0
 |d::r=>d+1048576*bf r
theorem tQ (d:Int)(r:List Int):bf (d::r)=d+1048576*bf r:=rfl
def eY (l:List Int):Prop:=∀d∈l,0<=d/\d<1048576
def fL:List Int->List Int
 | []=>[]
 |d::r=>if fL r=[] then (if d=0 then [] else [d]) else d::fL r
def ae (n:Int):List Data:=[.int .i64 n]
theorem gX (b:Int):(ae b).length=1:=rfl
theorem tR (b:Int):((ae b).map R.J).all R.one=true:=rfl
theorem fp:∀a b:Int,ae a=ae b->a=b:=by intro a b h;simpa [ae] using h
theorem arD:∀(f g n:Nat),n<=f->n<=g->yn f n=yn g n:=by
 intro f
 induction f with
 |zero =>
      intro g n h _;obtain rfl:n=0:=by omega
      cases g<;>simp[yn]
 |succ f az =>
  intro g n F I
  cases g with
  |zero =>
       obtain rfl:n=0:=by omega
       simp[yn]
  |succ g =>
   unfold yn
   by_cases aL:n=0
   ·rw[ad aL,ad aL]
   ·rw[ag aL,ag aL,az g (n/1048576) (by omega) (by omega)]
theorem sF:aM 0=[]:=rfl
theorem vv {n:Nat}(h:0<n):aM n=((n%1048576:Nat):Int)::aM (n/1048576):=by
 unfold aM;obtain⟨k,rfl⟩:∃k,n=k+1:=⟨n-1,by omega⟩
 conv=>lhs;unfold yn
 rw[ag (by omega),arD k ((k+1)/1048576) _ (by omega) (by omega)]
theorem l4 (n:Nat):bf (aM n)=n:=by
 induction n using T6 with
 |_ n az =>
  rcases k4 n with rfl|h
  ·rfl
  ·rw[vv h];unfold bf;rw[az _ (by omega)];omega
theorem KH {a b:Nat}(h:aM a=aM b):a=b:=by
 have:=congrArg bf h;rw[l4,l4] at this;omega
theorem m1 (n:Nat):eY (aM n):=by
 induction n using T6 with
 |_ n az =>
  rcases k4 n with rfl|h
  ·intro d aa;cases aa
  ·rw[vv h];intro d aa;rcases hj.1 aa with rfl|aa
   ·omega
   ·exact az _ (by omega) d aa
theorem zJ {n:Nat}:aM n=[]↔n=0:=by
 constructor
 ·intro h;exact KH (b:=0) h
 ·rintro rfl;rfl
theorem o8 {l:List Int}(h:eY l):0<=bf l:=by
 induction l with
 |nil=>exact Int.le_refl _
 |cons d r az =>
  have F:=h d (by simp);have I:=az λx Q=>h x (by simp[Q]);unfold bf;omega
theorem DA {d:Int}{r:List Int}:eY (d::r)↔(0<=d/\d<1048576)/\eY r :=
 ⟨λh=>⟨h d (by simp),λx Q=>h x (by simp[Q])⟩,λh x Q=>(hj.1 Q).elim (λe=>e ▸ h.1) (h.2 x)⟩
theorem DB {a b:List Int}:eY (a++b)↔eY a/\eY b :=
 ⟨λh=>⟨λx Q=>h x (by simp[Q]),λx Q=>h x (by simp[Q])⟩,λh x Q=>(ko.1 Q).elim (h.1 x) (h.2 x)⟩
theorem DD (a b:List Int):bf (a++b)=bf a+1048576^(D a)*bf b:=by
 induction a with
 |nil=>simp[bf]
 |cons d r az =>
  simp only[jW,bf,az,hN,ns];rw[ix]
  have:(1048576:Int)*(1048576^(D r)*bf b)=1048576^(D r)*1048576*bf b:=by
   rw[nt (1048576^(D r)) 1048576,iy]
  omega
theorem zK {l:List Int}(h:eY l):bf l<1048576^(D l):=by
 induction l with
 |nil=>simp[bf]
 |cons d r az =>
  rw[DA] at h;have I:=az h.2;simp only[bf,hN,ns];omega
theorem aff (l:List Int):fL (l++[0])=fL l:=by
 induction l with
 |nil=>simp[fL]
 |cons d r az=>simp only[jW,fL,az]
theorem afg (l:List Int){d:Int}(h:d≠0):fL (l++[d])=l++[d]:=by
 induction l with
 |nil=>simp[fL,h]
 |cons x r az=>simp only[jW,fL,az];simp
theorem zL {l:List Int}(h:eY l):fL l=aM (bf l).toNat:=by
 induction l with
 |nil=>rfl
 |cons d r az =>
  rw[DA] at h;have ab:=az h.2;have aA:=o8 h.2;unfold fL;rw[ab,tQ]
  by_cases aX:bf r=0
  ·rw[aX]
   by_cases aa:d=0
   ·simp[aa,sF]
   ·rw[ad (by rfl),ag aa];rw[vv (by omega)];rw[show (d+1048576*0).toNat/1048576=0 by omega,sF]
    congr 1
    omega
  ·rw[ag (by rw[zJ];omega)];rw[vv (n:=(d+1048576*bf r).toNat) (by omega)]
   congr 1
   ·omega
   ·congr 1;omega
theorem afh (n:Nat):fL (aM n)=aM n:=by
 rw[zL (m1 n),l4];simp
theorem canon {l:List Int}(h:eY l)(ar:l.getLast?≠some 0):l=aM (bf l).toNat:=by
 rw[<-zL h];rcases Bu l with rfl|⟨r,d,rfl⟩
 ·rfl
 ·rw[Bv] at ar ⊢;rw[afg];rintro rfl;simp at ar
theorem afi (n:Nat):(aM n).getLast?≠some 0:=by
 intro h
 obtain⟨r,ab⟩:∃r,aM n=r++[0]:=by
  rcases Bu (aM n) with e|⟨r,d,e⟩
  ·rw[e] at h;cases h
  ·rw[Bv] at e;rw[e] at h;simp at h;subst h;exact⟨r,e⟩
 have F:=afh n;rw[ab,aff] at F
 have I:(fL r).length<=D r:=by
  clear F ab h
  induction r with
  |nil=>simp[fL]
  |cons d r az=>unfold fL;split<;>(try split)<;>simp<;>omega
 rw[F] at I;simp at I;omega
theorem g3 {n k:Nat}:(aM n).length<=k↔n<1048576^k:=by
 induction k generalizing n with
 |zero =>
      rw[Nat.pow_zero];constructor
      ·intro h;have:=tC (Nat.le_zero.1 h);rw[zJ] at this;omega
      ·intro h;obtain rfl:n=0:=by omega
       simp[sF]
 |succ k az =>
  rcases k4 n with rfl|h
  ·simp[sF];exact Nat.pos_of_ne_zero (by simp)
  ·rw[vv h,hN,wR];have:=az (n:=n/1048576);rw[Nat.add_le_add_iff_right,this];rw[afj (by omega)]
theorem DE {n:Nat}(h:0<n)(F:n<1048576):aM n=[(n:Int)]:=by
 rw[vv h,Ug F,KE F];rfl
theorem KI (l:List Int)(i:Nat):bf l=bf (l.take i)+1048576^(min i (D l))*bf (l.drop i):=by
 conv=>lhs;rw[<-sx i l]
 rw[DD,gf]
theorem zM (n:Int)(h:0<=n/\n<18446744073709551616):IntKind.u64.wrap n=n:=by
 simp[IntKind.wrap,IntKind.bits,IntKind.signed];omega
theorem rB (n:Int):bits .and .i64 n 1048575=n%1048576:=by
 have I:(1048575:Int)=((2^20-1:Nat):Int):=by decide
 have F:n%18446744073709551616%1048576=n%1048576:=by omega
 obtain⟨a,aP⟩:∃a:Nat,(a:Int)=n%18446744073709551616:=⟨(n%18446744073709551616).toNat,by omega⟩
 have e:BitVec.ofInt 64 n=BitVec.ofNat 64 a:=by
  apply BitVec.eq_of_toInt_eq;rw[BitVec.toInt_ofInt,BitVec.toInt_ofNat',aP];simp[afk,afl]
 have aD:bits .and .i64 n 1048575=bits .and .i64 (a:Int) 1048575:=by
  simp only[bits];rw[show IntKind.i64.bits=64 from rfl,e,BitVec.ofInt_natCast]
 rw[aD,<-F,<-aP,I];have Uq:a<2^64:=by omega
 simp only[bits,BitVec.ofInt_natCast,BitVec.toNat_and,BitVec.toNat_ofNat,show IntKind.i64.bits=64 from rfl,KE Uq];rw[show (2^20-1:Nat)%2^64=2^20-1 by decide,afm,wrap64 _ (by omega) (by omega)]
 omega
theorem afn (n:Int)(h:0<=n/\n<18446744073709551616):bits .and .u64 n 1048575=n%1048576:=by
 have:=bits_mask .u64 64 (by decide) (λn F I=>zM n ⟨F,by omega⟩) 20 (by decide) n h.1 (by omega)
 simpa using this
theorem Ur (x y:Int)(Q:0<=x)(oH:x<8796093022208)(av:0<=y/\y<1048576):bits .or .i64 (x*1048576) y=x*1048576+y:=by
 refine bits_join .i64 63 (by decide) (λn F I=>wrap64 n (by omega) (by omega)) 20 _ _ (by omega) (by omega) (by omega) av.1 (by omega) (by omega)
theorem arE (n:Int):n.fdiv (2^20)=n/1048576:=by
 rw[Int.fdiv_eq_ediv_of_nonneg _ (by decide)];rfl
theorem oI (n:Int):n.fdiv (2^min (DF 20) 64)=n/1048576:=arE n
def Us:FuncId:=224
def Ut:FuncId:=215
def l5:FuncId:=84
def yo:FuncId:=40
def DG:FuncId:=19
def Uu:FuncId:=35
def oJ:FuncId:=233
def Uv:FuncId:=234
def Bw:FuncId:=235
def KJ:FuncId:=173
def Uw:FuncId:=225
def vw:FuncId:=96
def Ux:FuncId:=214
def vx:FuncId:=43
def wS:FuncId:=36
def nu:FuncId:=38
def k7:FuncId:=146
def KK:FuncId:=147
def Uy:FuncId:=148
def Uz:FuncId:=90
def vy:FuncId:=85
def DH:FuncId:=86
def OK:FuncId:=55
def UA:FuncId:=82
def OL:FuncId:=83
def UB:FuncId:=239
def UC:FuncId:=201
def OM:FuncId:=236
def UD:FuncId:=237
def KL:FuncId:=152
def ON:FuncId:=165
def UE:FuncId:=223
def Gx:FuncId:=91
def DI:FuncId:=88
def UF:FuncId:=89
def vz:FuncId:=149
def sG:FuncId:=94
def KM:FuncId:=156
def o9:FuncId:=150
def UG:FuncId:=189
def UH:FuncId:=161
def Gy:FuncId:=151
def vA:FuncId:=141
def OO:FuncId:=142
def UI:FuncId:=143
def OP:FuncId:=144
def vB:FuncId:=145
def KN:FuncId:=240
def Bx:FuncId:=241
def DJ:FuncId:=155
def arF:FuncId:=231
def UJ:FuncId:=232
def KO:FuncId:=157
def Gz:FuncId:=158
def GA:FuncId:=159
def DK:FuncId:=160
def OQ:FuncId:=192
def qA:FuncId:=190
def UK:FuncId:=193
def UL:FuncId:=195
def KP:FuncId:=187
def UM:FuncId:=181
def KQ:FuncId:=183
def tS:FuncId:=188
def DL:FuncId:=194
def OR:FuncId:=182
def KR:FuncId:=170
def tT:FuncId:=200
def UN:FuncId:=45
def KS:FuncId:=33
def UO:FuncId:=44
def Bz:FuncId:=46
def UP:FuncId:=47
def zN:FuncId:=49
def UQ:FuncId:=184
def UR:FuncId:=75
def US:FuncId:=76
def OS:FuncId:=77
def pa:FuncId:=78
def wT:FuncId:=79
def DM:FuncId:=80
def UT:FuncId:=81
def zO:FuncId:=900234
def UU:FuncId:=175
def BA:FuncId:=900236
def GD:FuncId:=92
def UW:FuncId:=93
def UX:FuncId:=95
def KT:FuncId:=154
def vC:FuncId:=153
def vD:FuncId:=137
def KU:FuncId:=138
def KV:FuncId:=139
def DN:FuncId:=106
def zP:FuncId:=107
def UY:FuncId:=140
def KW:FuncId:=87
def BB:FuncId:=162
def KX:FuncId:=163
def DO:FuncId:=164
def GF:FuncId:=191
def UZ:FuncId:=167
def OT:FuncId:=185
def U0:FuncId:=186
def U1:FuncId:=48
def arG:FuncId:=9
def U2:FuncId:=28
def U3:FuncId:=63
def U4:FuncId:=64
def U5:FuncId:=65
def U6:FuncId:=66
def nv:FuncId:=113
def DP:FuncId:=114
def yp:FuncId:=115
def wU:FuncId:=116
def U7:FuncId:=117
def U8:FuncId:=118
def OU:FuncId:=119
def KY:FuncId:=120
def U9:FuncId:=121
def Va:FuncId:=122
def Vb:FuncId:=123
def Vc:FuncId:=124
def KZ:FuncId:=73
def Vd:FuncId:=125
def tU:FuncId:=126
def Ve:FuncId:=127
def BC:FuncId:=171
def DQ:FuncId:=172
def vE:FuncId:=174
def wV:FuncId:=176
def K0:FuncId:=177
def Vf:FuncId:=178
def K1:FuncId:=135
def DR:FuncId:=179
def Vg:FuncId:=180
def Vh:FuncId:=202
def arH:FuncId:=203
def arI:FuncId:=204
def arJ:FuncId:=205
def arK:FuncId:=206
def arL:FuncId:=207
def OV:FuncId:=208
def arM:FuncId:=209
def arN:FuncId:=210
def arO:FuncId:=211
def Vi:FuncId:=212
def Vj:FuncId:=213
def DS:FuncId:=54
def wW:FuncId:=104
def GG:FuncId:=105
abbrev G (a b:Nat):c8:=⟨some a,none,.b6 (.t b)⟩
abbrev aY (a n b:Nat):c8:=⟨some a,none,.load n false (.t b)⟩
abbrev bz (a n b:Nat):c8:=⟨some a,none,.load n true (.t b)⟩
abbrev bj (a n b:Nat):c8:=⟨some a,none,.ei n (.t b)⟩
abbrev bn (n a b:Nat):c8:=⟨none,none,.store n (.t a) (.t b)⟩
abbrev bp (a:Nat)(n:Int):c8:=⟨some a,none,.b6 (.c (.J (.int .i64 n)))⟩
abbrev bB (a n b:Nat):c8:=⟨some a,none,.ext n (.t b)⟩
abbrev bW (a n b c:Nat):c8:=⟨some a,none,.jy n (.t b) (.t c)⟩
abbrev ct (a b:Nat):c8:=⟨some a,none,.len (.t b)⟩
abbrev cP (a:Nat)(b:Bool):c8:=⟨some a,none,.b6 (.c (.J (.bool b)))⟩
abbrev eM (a:Nat):c8:=⟨some a,none,.b6 (.c .nil)⟩
abbrev bq (a:Nat)(o:BinOp)(b c:Nat):c8:=⟨some a,none,.bin o (.t b) (.t c)⟩
abbrev a9 (a:Nat)(o:BinOp)(b:Nat)(n:Int):c8:=⟨some a,none,.bin o (.t b) (.c (.J (.int .i64 n)))⟩
abbrev ed (a b c:Nat):c8:=⟨some a,none,.pick (.t b) (.c (.J (.bool true))) (.t c)⟩
abbrev fx (a b c:Nat):c8:=⟨some a,none,.pick (.t b) (.t c) (.c (.J (.bool false)))⟩
abbrev dO (a k b:Nat):c8:=⟨some a,none,.box k (.t b)⟩
abbrev hb (a b:Nat):c8:=⟨some a,none,.sg (.t b)⟩
abbrev fy (a b:Nat):c8:=⟨some a,none,.un .not (.t b)⟩
abbrev aj (n:Int):R:=.J (.int .i64 n)
abbrev dQ (a:Nat)(f:FuncId)(x:Nat):c8:=⟨some a,none,.call f [.t x]⟩
abbrev cA (a:Nat)(f:FuncId)(x y:Nat):c8:=⟨some a,none,.call f [.t x,.t y]⟩
abbrev vF (a:Nat)(f:FuncId)(x y z:Nat):c8:=⟨some a,none,.call f [.t x,.t y,.t z]⟩
abbrev zQ (a:Nat)(f:FuncId)(x y z u:Nat):c8:=⟨some a,none,.call f [.t x,.t y,.t z,.t u]⟩
abbrev aB (a:Nat)(o:kj):c8:=⟨some a,none,o⟩
abbrev ca (n m:Nat)(r:List oA)(b:ez):bN:=⟨n,m,r,b⟩
abbrev a2 (n:Nat)(a b:ez):ez:=.cond (.t n) a b
abbrev U (l:List c8)(c:ez):ez:=.seq (.ops l) c
abbrev fM (l:List c8)(x:List (List Nat))(c:ez):ez:=.seq (.mU l x) c
abbrev afo:List (List Nat):=[[],[],[],[],[],[]]
abbrev arP:List (List Nat):=[[],[],[],[],[],[],[]]
abbrev arQ:List (List Nat):=[[],[],[],[],[],[],[],[]]
abbrev GH:List (List Nat):=[[],[],[],[],[],[],[],[],[]]
abbrev GI:List (List Nat):=[[],[],[],[],[],[],[],[],[],[]]
abbrev OW:List (List Nat):=[[],[],[],[],[],[],[],[],[],[],[]]
abbrev afp:List (List Nat):=[[],[],[],[],[],[],[],[],[],[],[],[]]
abbrev Vk:List (List Nat):=[[],[],[],[],[],[],[],[],[],[],[],[],[]]
abbrev K2:List (List Nat):=[[],[],[],[],[],[],[],[],[],[],[],[],[],[]]
abbrev afq:List (List Nat):=[[],[],[],[],[],[],[],[],[],[],[],[],[],[],[]]
abbrev OX:List (List Nat):=[[],[],[],[],[],[],[],[],[],[],[],[],[],[],[],[]]
abbrev arR:List (List Nat):=[[],[],[],[],[],[],[],[],[],[],[],[],[],[],[],[],[]]
abbrev afr:List (List Nat):=[[],[],[],[],[],[],[],[],[],[],[],[],[],[],[],[],[],[]]
abbrev afs:List (List Nat):=[[],[],[],[],[],[],[],[],[],[],[],[],[],[],[],[],[],[],[],[],[],[]]
abbrev arS:List (List Nat):=[[],[],[],[],[],[],[],[],[],[],[],[],[],[],[],[],[],[],[],[],[],[],[],[],[],[]]
abbrev arT:List (List Nat):=[[],[],[],[],[],[],[],[],[],[],[],[],[],[],[],[],[],[],[],[],[],[],[],[],[],[],[],[]]
abbrev aft:List (List Nat):=[[],[],[],[],[],[],[],[],[],[],[],[],[],[],[],[],[],[],[],[],[],[],[],[],[],[],[],[],[],[]]
def Vl:bN:=ca 49 1 [.t 2] (U [dO 1 136001 0,cP 2 false] (U [bj 6 1 1,aY 7 1 6,ct 8 7,G 3 8] (.seq (U [bj 9 1 1,aY 10 1 9,ct 11 10,bp 12 0] (.block 0 (.loop  (U [bq 13 .lss 12 11] (.seq (a2 13 .skip (.exit 0)) (.seq (.block 1 (U [bW 14 1 10 12,aY 15 1 14,G 5 15] (U [G 16 5,a9 17 .lss 16 0,G 18 17,⟨some 19,some (18,false),.b6 (.t 5)⟩,⟨some 20,some (18,false),.bin .gtr (.t 19) (.c (aj 1048575))⟩,ed 21 18 20] (a2 21 (U [cP 2 false] .ret) .skip)))) (.ops [a9 22 .add 12 1,G 12 22]))))))) (.seq (U [G 23 3,a9 24 .eql 23 0] (a2 24 (U [bj 25 0 1,aY 26 1 25,a9 27 .eql 26 0,G 2 27] .ret) .skip)) (U [bj 28 0 1,aY 29 1 28,a9 30 .eql 29 1,G 31 30,⟨some 32,some (31,false),.ei 0 (.t 1)⟩,⟨some 33,some (31,false),.load 1 false (.t 32)⟩,⟨some 34,some (31,false),.bin .eql (.t 33) (.c (.J (.int .i64 (-1))))⟩,ed 35 31 34,G 36 35,⟨some 37,some (36,true),.b6 (.t 3)⟩,⟨some 38,some (36,true),.bin .leq (.t 37) (.c (aj 60))⟩,fx 39 36 38,G 40 39,⟨some 41,some (40,true),.ei 1 (.t 1)⟩,⟨some 42,some (40,true),.load 1 false (.t 41)⟩,⟨some 43,some (40,true),.b6 (.t 3)⟩,⟨some 44,some (40,true),.bin .sub (.t 43) (.c (aj 1))⟩,⟨some 45,some (40,true),.jy 1 (.t 42) (.t 44)⟩,⟨some 46,some (40,true),.load 1 false (.t 45)⟩,⟨some 47,some (40,true),.bin .neq (.t 46) (.c (aj 0))⟩,fx 48 40 47,G 2 48] .ret)))))
def Vm:bN:=ca 44 2 [.cell 4 2 true,.t 5] (U [dO 2 137002 0,dO 3 137003 1,(aB 4 (.alloc 137004 [(aj 0),.nil])),bp 5 0] (.seq (U [bz 10 2 2,(dQ 11 k7 10),fy 12 11,G 13 12,⟨some 14,some (13,false),.load 2 true (.t 3)⟩,⟨some 15,some (13,false),.call k7 [(.t 14)]⟩,⟨some 16,some (13,false),.un .not (.t 15)⟩,ed 17 13 16] (a2 17 (U [(aB 18 (.build [(aj 0),.nil] [])),(aB 19 (.call vz [(.c (.J (.bool false))),(.t 18)])),bB 20 0 19,bB 21 1 19,bn 2 4 20,G 5 21] .ret) .skip)) (fM [bj 22 1 2,aY 23 1 22,(dQ 24 sG 23),bj 25 1 3,aY 26 1 25,G 6 24,G 7 26] arP (.seq (.block 0 (.loop  (.seq (U [G 27 7,ct 28 27,a9 29 .gtr 28 0] (a2 29 .skip (.exit 0))) (.block 1 (U [G 31 6,G 32 7,(cA 33 KM 31 32),G 30 33,bB 34 0 30,bB 35 1 30,G 8 34,G 9 35] (.ops [G 36 7,G 37 9,G 6 36,G 7 37])))))) (U [G 38 6,(dQ 39 sG 38),(aB 40 (.call o9 [(.c (aj 1)),(.t 39)])),(aB 41 (.call vz [(.c (.J (.bool true))),(.t 40)])),bB 42 0 41,bB 43 1 41,bn 2 4 42,G 5 43] .ret)))))
def Vn:bN:=ca 32 2 [.cell 4 2 true,.t 5] (U [dO 2 140002 0,dO 3 140003 1,(aB 4 (.alloc 140004 [(aj 0),.nil])),bp 5 0] (.seq (U [bz 6 2 2,(dQ 7 k7 6),fy 8 7,G 9 8,⟨some 10,some (9,false),.load 2 true (.t 3)⟩,⟨some 11,some (9,false),.call k7 [(.t 10)]⟩,⟨some 12,some (9,false),.un .not (.t 11)⟩,ed 13 9 12] (a2 13 (U [(aB 14 (.build [(aj 0),.nil] [])),(aB 15 (.call vz [(.c (.J (.bool false))),(.t 14)])),bB 16 0 15,bB 17 1 15,bn 2 4 16,G 5 17] .ret) .skip)) (fM [bj 18 0 2,aY 19 1 18,bj 20 0 3,aY 21 1 20,bq 22 .mul 19 21,bj 23 1 2,aY 24 1 23,bj 25 1 3,aY 26 1 25,(cA 27 Gy 24 26),(cA 28 o9 22 27),(aB 29 (.call vz [(.c (.J (.bool true))),(.t 28)])),bB 30 0 29,bB 31 1 29,bn 2 4 30,G 5 31] OX .ret)))
def Vo:bN:=ca 25 1 [.cell 2 2 true] (U [(aB 2 (.alloc 150002 [(aj 0),.nil]))] (U [G 6 0,(aB 7 (.conv .u64 (.t 6))),bp 3 1,G 4 7] (.seq (U [G 8 0,a9 9 .lss 8 0] (a2 9 (.ops [G 10 4,(aB 11 (.un .neg (.t 10))),(aB 3 (.b6 (.c (.J (.int .i64 (-1)))))),G 4 11]) .skip)) (U [eM 5] (.seq (.block 0 (.ghost (.nU 5 150021 1) (.loop  (.seq (U [G 12 4,(aB 13 (.bin .gtr (.t 12) (.c (.J (.int .u64 0)))))] (a2 13 .skip (.exit 0))) (.seq (.block 1 (.ops [G 16 5,G 17 4,(aB 18 (.bin .and (.t 17) (.c (.J (.int .u64 1048575))))),(aB 19 (.conv .i64 (.t 18))),(aB 20 (.fe 150020 false [(aj 0)] 1 1 [(0,1,(.t 19))])),(aB 21 (.app 150021 [(aj 0)] 8 (.t 16) (.t 20))),G 5 21])) (.ops [G 14 4,(aB 15 (.bin .shr (.t 14) (.c (.J (.int .u64 20))))),G 4 15])))))) (.seq (.ghost (.freeze 5) (.ops [G 22 3,G 23 5,(cA 24 o9 22 23),bn 2 2 24])) .ret))))))
def Vp:bN:=ca 14 1 [.cell 2 2 true] (U [dO 1 152001 0,(aB 2 (.alloc 152002 [(aj 0),.nil]))] (.seq (U [bz 3 2 1,(dQ 4 k7 3),fy 5 4] (a2 5 (U [(aB 6 (.build [(aj 0),.nil] [])),bn 2 2 6] .ret) .skip)) (fM [bj 7 0 1,aY 8 1 7,(aB 9 (.un .neg (.t 8))),bj 10 1 1,aY 11 1 10,(dQ 12 sG 11),(cA 13 o9 9 12),bn 2 2 13] arQ .ret)))
def Vq:bN:=ca 67 2 [.cell 4 2 true,.cell 5 2 true,.t 6] (U [dO 2 153002 0,dO 3 153003 1,(aB 4 (.alloc 153004 [(aj 0),.nil])),(aB 5 (.alloc 153005 [(aj 0),.nil])),bp 6 0] (.seq (.block 0 (U [bz 10 2 2,(dQ 11 k7 10),fy 12 11,G 13 12,⟨some 14,some (13,false),.load 2 true (.t 3)⟩,⟨some 15,some (13,false),.call k7 [(.t 14)]⟩,⟨some 16,some (13,false),.un .not (.t 15)⟩,ed 17 13 16,G 9 17] (a2 9 (U [(aB 18 (.build [(aj 0),.nil] [])),(aB 19 (.build [(aj 0),.nil] [])),bn 2 4 18,bn 2 5 19,bp 6 1] .ret) (U [bj 21 0 3,aY 22 1 21,a9 23 .eql 22 0,G 20 23] (a2 20 (U [(aB 24 (.build [(aj 0),.nil] [])),(aB 25 (.build [(aj 0),.nil] [])),bn 2 4 24,bn 2 5 25,bp 6 15] .ret) .skip))))) (U [bj 27 1 2,aY 28 1 27,bj 29 1 3,aY 30 1 29,(cA 31 KM 28 30),G 26 31,bB 32 0 26,bB 33 1 26,G 7 32,G 8 33] (.seq (U [bj 34 0 2,aY 35 1 34,bj 36 0 3,aY 37 1 36,bq 38 .mul 35 37,a9 39 .lss 38 0,G 40 39,⟨some 41,some (40,true),.b6 (.t 8)⟩,⟨some 42,some (40,true),.len (.t 41)⟩,⟨some 43,some (40,true),.bin .gtr (.t 42) (.c (aj 0))⟩,fx 44 40 43] (a2 44 (fM [G 45 7,(aB 46 (.fe 153046 false [(aj 0)] 1 1 [(0,1,(.c (aj 1)))])),(cA 47 KO 45 46),(aB 48 (.call o9 [(.c (.J (.int .i64 (-1)))),(.t 47)])),bj 49 0 3,aY 50 1 49,bj 51 1 3,aY 52 1 51,G 53 8,(cA 54 Gz 52 53),(cA 55 o9 50 54),bn 2 4 48,bn 2 5 55,bp 6 0] K2 .ret) .skip)) (fM [bj 56 0 2,aY 57 1 56,bj 58 0 3,aY 59 1 58,bq 60 .mul 57 59,G 61 7,(cA 62 o9 60 61),bj 63 0 2,aY 64 1 63,G 65 8,(cA 66 o9 64 65),bn 2 4 62,bn 2 5 66,bp 6 0] K2 .ret)))))
def Vr:bN:=ca 31 2 [.t 4] (U [dO 2 154002 0,dO 3 154003 1,bp 4 0] (.seq (U [bz 5 2 2,(dQ 6 k7 5),fy 7 6,G 8 7,⟨some 9,some (8,false),.load 2 true (.t 3)⟩,⟨some 10,some (8,false),.call k7 [(.t 9)]⟩,⟨some 11,some (8,false),.un .not (.t 10)⟩,ed 12 8 11] (a2 12 (U [bp 4 0] .ret) .skip)) (.seq (U [bj 13 0 2,aY 14 1 13,bj 15 0 3,aY 16 1 15,bq 17 .neq 14 16] (a2 17 (U [bj 18 0 2,aY 19 1 18,bj 20 0 3,aY 21 1 20,(cA 22 GA 19 21),G 4 22] .ret) .skip)) (fM [bj 23 0 2,aY 24 1 23,bj 25 1 2,aY 26 1 25,bj 27 1 3,aY 28 1 27,(cA 29 DK 26 28),bq 30 .mul 24 29,G 4 30] GH .ret))))
def Vs:bN:=ca 17 2 [.cell 4 2 true,.t 5] (U [dO 3 155003 1,(aB 4 (.alloc 155004 [(aj 0),.nil])),bp 5 0] (.seq (.block 0 (U [G 7 0,fy 8 7,G 6 8] (a2 6 (U [(aB 9 (.build [(aj 0),.nil] [])),bn 2 4 9,bp 5 1] .ret) (U [bj 11 1 3,aY 12 1 11,ct 13 12,a9 14 .gtr 13 60,G 10 14] (a2 10 (U [(aB 15 (.build [(aj 0),.nil] [])),bn 2 4 15,bp 5 6] .ret) .skip))))) (U [bz 16 2 3,bn 2 4 16,bp 5 0] .ret)))
def Vt:bN:=ca 170 2 [.t 4,.t 5] (U [eM 4,eM 5] (.seq (U [G 19 0,G 20 1,(cA 21 DK 19 20),a9 22 .lss 21 0] (a2 22 (U [G 23 0,(dQ 24 sG 23),eM 4,G 5 24] .ret) .skip)) (.seq (U [G 25 1,ct 26 25,a9 27 .eql 26 1] (a2 27 (U [G 29 0,G 30 1,(aB 31 (.jy 1 (.t 30) (.c (aj 0)))),aY 32 1 31,(cA 33 OQ 29 32),G 28 33,bB 34 0 28,bB 35 1 28,G 6 34,G 7 35] (U [G 36 6,G 37 7,(aB 38 (.fe 157038 false [(aj 0)] 1 1 [(0,1,(.t 37))])),(dQ 39 qA 38),G 4 36,G 5 39] .ret)) .skip)) (U [bp 8 1] (.seq (.block 0 (.loop  (.seq (U [G 40 1,G 41 1,ct 42 41,a9 43 .sub 42 1,bW 44 1 40 43,aY 45 1 44,G 46 8,bq 47 .mul 45 46,a9 48 .lss 47 524288] (a2 48 .skip (.exit 0))) (.block 1 (.ops [G 49 8,a9 50 .mul 49 2,G 8 50]))))) (U [G 51 0,G 52 8,(aB 53 (.fe 157053 false [(aj 0)] 1 1 [(0,1,(.t 52))])),(aB 54 (.nT 157054 1 Gy [(.t 51),(.t 53)])),(aB 55 (.fe 157055 false [(aj 0)] 1 1 [(0,1,(.c (aj 0)))])),(aB 56 (.app 157056 [(aj 0)] 8 (.t 54) (.t 55))),G 57 1,G 58 8,(aB 59 (.fe 157059 false [(aj 0)] 1 1 [(0,1,(.t 58))])),(cA 60 Gy 57 59),G 9 56,G 10 60] (.seq (U [G 61 9,ct 62 61,G 63 0,ct 64 63,bq 65 .eql 62 64] (a2 65 (.ops [G 66 9,(aB 67 (.fe 157067 false [(aj 0)] 1 1 [(0,1,(.c (aj 0)))])),(aB 68 (.app 157068 [(aj 0)] 8 (.t 66) (.t 67))),G 9 68]) .skip)) (U [G 69 10,ct 70 69,G 11 70] (U [G 71 9,ct 72 71,G 73 11,bq 74 .sub 72 73,(aB 75 (.mv 157075 [(aj 0)] 8 (.t 74) (.t 74))),G 12 75] (.seq (U [G 76 12,ct 77 76,a9 78 .sub 77 1,G 13 78] (.block 2 (.loop  (.seq (U [G 79 13,a9 80 .geq 79 0] (a2 80 .skip (.exit 2))) (.seq (.block 3 (fM [G 83 9,G 84 13,G 85 11,bq 86 .add 84 85,bW 87 1 83 86,aY 88 1 87,(aB 89 (.bin .shl (.t 88) (.c (.J (.int .u64 20))))),G 90 9,G 91 13,G 92 11,bq 93 .add 91 92,a9 94 .sub 93 1,bW 95 1 90 94,aY 96 1 95,bq 97 .or 89 96,G 14 97] OX (fM [G 98 14,G 99 10,G 100 11,a9 101 .sub 100 1,bW 102 1 99 101,aY 103 1 102,bq 104 .quo 98 103,G 105 14,G 106 10,G 107 11,a9 108 .sub 107 1,bW 109 1 106 108,aY 110 1 109,bq 111 .rem 105 110,G 15 104,G 16 111] OX (.seq (.block 4 (.loop  (.seq (fM [G 112 15,a9 113 .geq 112 1048576,G 114 113,⟨some 115,some (114,false),.b6 (.t 16)⟩,⟨some 116,some (114,false),.bin .lss (.t 115) (.c (aj 1048576))⟩,⟨some 117,some (114,false),.b6 (.t 116)⟩,⟨some 118,some (117,true),.b6 (.t 15)⟩,⟨some 119,some (117,true),.b6 (.t 10)⟩,⟨some 120,some (117,true),.b6 (.t 11)⟩,⟨some 121,some (117,true),.bin .sub (.t 120) (.c (aj 2))⟩,⟨some 122,some (117,true),.jy 1 (.t 119) (.t 121)⟩,⟨some 123,some (117,true),.load 1 false (.t 122)⟩,⟨some 124,some (117,true),.bin .mul (.t 118) (.t 123)⟩,⟨some 125,some (117,true),.b6 (.t 16)⟩,⟨some 126,some (117,true),.bin .shl (.t 125) (.c (.J (.int .u64 20)))⟩,⟨some 127,some (117,true),.b6 (.t 9)⟩,⟨some 128,some (117,true),.b6 (.t 13)⟩,⟨some 129,some (117,true),.b6 (.t 11)⟩,⟨some 130,some (117,true),.bin .add (.t 128) (.t 129)⟩,⟨some 131,some (117,true),.bin .sub (.t 130) (.c (aj 2))⟩,⟨some 132,some (117,true),.jy 1 (.t 127) (.t 131)⟩,⟨some 133,some (117,true),.load 1 false (.t 132)⟩,⟨some 134,some (117,true),.bin .or (.t 126) (.t 133)⟩,⟨some 135,some (117,true),.bin .gtr (.t 124) (.t 134)⟩,⟨some 136,some (114,false),.pick (.t 117) (.t 135) (.c (.J (.bool false)))⟩,ed 137 114 136] arS (a2 137 .skip (.exit 4))) (.block 5 (U [G 138 15,a9 139 .sub 138 1,G 15 139] (.ops [G 140 16,G 141 10,G 142 11,a9 143 .sub 142 1,bW 144 1 141 143,aY 145 1 144,bq 146 .add 140 145,G 16 146])))))) (.ops [G 147 12,G 148 13,G 149 9,G 150 13,G 151 13,G 152 11,bq 153 .add 151 152,a9 154 .add 153 1,(aB 155 (.oz 1 (.t 149) (some (.t 150)) (some (.t 154)) none)),G 156 10,G 157 15,(vF 158 UK 155 156 157),bW 159 1 147 148,bn 1 159 158]))))) (.ops [G 81 13,a9 82 .sub 81 1,G 13 82])))))) (.seq (.ghost (.freeze 9) (.ops [G 161 9,(dQ 162 qA 161),G 163 8,(cA 164 OQ 162 163),G 160 164,bB 165 0 160,bB 166 1 160,G 17 165,G 18 166])) (.seq (.ghost (.freeze 12) (.ops [G 167 12,(dQ 168 qA 167),G 169 17,G 4 168,G 5 169])) .ret))))))))))))
def Vu:bN:=ca 14 2 [.cell 4 2 true] (U [(aB 4 (.alloc 158004 [(aj 0),.nil]))] (U [G 5 1,(dQ 6 qA 5),G 1 6] (.seq (U [G 7 1,ct 8 7,a9 9 .eql 8 0] (a2 9 (U [(aB 10 (.build [(aj 0),.nil] [])),bn 2 4 10] .ret) .skip)) (U [G 11 0,G 12 1,(aB 13 (.build [(aj 0),.nil] [(0,1,(.t 11)),(1,1,(.t 12))])),bn 2 4 13] .ret))))
def Vv:bN:=ca 59 1 [.t 2,.t 3] (U [dO 1 159001 0,bp 2 0,cP 3 false] (.seq (U [bz 7 2 1,(dQ 8 k7 7),fy 9 8,G 10 9,⟨some 11,some (10,false),.ei 1 (.t 1)⟩,⟨some 12,some (10,false),.load 1 false (.t 11)⟩,⟨some 13,some (10,false),.len (.t 12)⟩,⟨some 14,some (10,false),.bin .gtr (.t 13) (.c (aj 4))⟩,ed 15 10 14] (a2 15 (U [bp 2 0,cP 3 false] .ret) .skip)) (U [(aB 4 (.b6 (.c (.J (.int .u64 0)))))] (.seq (U [bj 16 1 1,aY 17 1 16,ct 18 17,bp 19 0] (.block 0 (.loop  (U [bq 20 .lss 19 18] (.seq (a2 20 .skip (.exit 0)) (.seq (.block 1 (U [G 21 19,bW 22 1 17 19,aY 23 1 22,G 5 21,G 6 23] (.seq (U [G 24 5,a9 25 .eql 24 3,G 26 25,⟨some 27,some (26,true),.b6 (.t 6)⟩,⟨some 28,some (26,true),.bin .gtr (.t 27) (.c (aj 8))⟩,fx 29 26 28] (a2 29 (U [bp 2 0,cP 3 false] .ret) .skip)) (.ops [G 30 4,G 31 6,(aB 32 (.conv .u64 (.t 31))),G 33 5,(aB 34 (.bin .mul (.c (aj 20)) (.t 33))),bq 35 .shl 32 34,bq 36 .or 30 35,G 4 36])))) (.ops [a9 37 .add 19 1,G 19 37]))))))) (.seq (.block 2 (U [bj 39 0 1,aY 40 1 39,a9 41 .lss 40 0,G 42 41,⟨some 43,some (42,true),.b6 (.t 4)⟩,⟨some 44,some (42,true),.bin .leq (.t 43) (.c (.J (.int .u64 9223372036854775808)))⟩,fx 45 42 44,G 38 45] (a2 38 (U [G 46 4,(aB 47 (.un .neg (.t 46))),(aB 48 (.conv .i64 (.t 47))),G 2 48,cP 3 true] .ret) (U [bj 50 0 1,aY 51 1 50,a9 52 .geq 51 0,G 53 52,⟨some 54,some (53,true),.b6 (.t 4)⟩,⟨some 55,some (53,true),.bin .lss (.t 54) (.c (.J (.int .u64 9223372036854775808)))⟩,fx 56 53 55,G 49 56] (a2 49 (U [G 57 4,(aB 58 (.conv .i64 (.t 57))),G 2 58,cP 3 true] .ret) .skip))))) (U [bp 2 0,cP 3 false] .ret))))))
def Vw:bN:=ca 69 2 [.cell 4 2 true,.t 5] (U [dO 2 160002 0,dO 3 160003 1,(aB 4 (.alloc 160004 [(aj 0),.nil])),bp 5 0] (.seq (U [bz 6 2 2,(dQ 7 k7 6),fy 8 7,G 9 8,⟨some 10,some (9,false),.load 2 true (.t 3)⟩,⟨some 11,some (9,false),.call k7 [(.t 10)]⟩,⟨some 12,some (9,false),.un .not (.t 11)⟩,ed 13 9 12] (a2 13 (U [(aB 14 (.build [(aj 0),.nil] [])),(aB 15 (.call vz [(.c (.J (.bool false))),(.t 14)])),bB 16 0 15,bB 17 1 15,bn 2 4 16,G 5 17] .ret) .skip)) (.seq (.block 0 (U [bj 19 0 2,aY 20 1 19,bj 21 0 3,aY 22 1 21,bq 23 .mul 20 22,a9 24 .geq 23 0,G 18 24] (a2 18 (fM [bj 25 0 2,aY 26 1 25,bj 27 0 3,aY 28 1 27,(aB 29 (.fe 160029 false [(aj 0),(aj 0)] 1 2 [(0,1,(.t 26)),(1,1,(.t 28))])),(dQ 30 UL 29),bj 31 1 2,aY 32 1 31,bj 33 1 3,aY 34 1 33,(cA 35 KO 32 34),(cA 36 o9 30 35),(aB 37 (.call vz [(.c (.J (.bool true))),(.t 36)])),bB 38 0 37,bB 39 1 37,bn 2 4 38,G 5 39] arR .ret) (U [bj 41 1 2,aY 42 1 41,bj 43 1 3,aY 44 1 43,(cA 45 DK 42 44),a9 46 .lss 45 0,G 40 46] (a2 40 (fM [bj 47 0 3,aY 48 1 47,bj 49 1 3,aY 50 1 49,bj 51 1 2,aY 52 1 51,(cA 53 Gz 50 52),(cA 54 o9 48 53),(aB 55 (.call vz [(.c (.J (.bool true))),(.t 54)])),bB 56 0 55,bB 57 1 55,bn 2 4 56,G 5 57] Vk .ret) .skip))))) (fM [bj 58 0 2,aY 59 1 58,bj 60 1 2,aY 61 1 60,bj 62 1 3,aY 63 1 62,(cA 64 Gz 61 63),(cA 65 o9 59 64),(aB 66 (.call vz [(.c (.J (.bool true))),(.t 65)])),bB 67 0 66,bB 68 1 66,bn 2 4 67,G 5 68] Vk .ret))))
def Vx:bN:=ca 67 2 [.t 4] (U [eM 4] (U [G 12 0,ct 13 12,G 14 1,ct 15 14,bq 16 .add 13 15,(aB 17 (.mv 161017 [(aj 0)] 8 (.t 16) (.t 16))),G 5 17] (.seq (U [G 18 0,ct 19 18,bp 20 0] (.block 0 (.loop  (U [bq 21 .lss 20 19] (.seq (a2 21 .skip (.exit 0)) (.seq (.block 1 (U [G 22 20,bW 23 1 18 20,aY 24 1 23,G 6 22,G 7 24] (U [bp 8 0] (.seq (U [G 25 1,ct 26 25,bp 27 0] (.block 2 (.loop  (U [bq 28 .lss 27 26] (.seq (a2 28 .skip (.exit 2)) (.seq (.block 3 (U [G 29 27,bW 30 1 25 27,aY 31 1 30,G 9 29,G 10 31] (U [G 32 5,G 33 6,G 34 9,bq 35 .add 33 34,bW 36 1 32 35,aY 37 1 36,G 38 7,G 39 10,bq 40 .mul 38 39,bq 41 .add 37 40,G 42 8,bq 43 .add 41 42,G 11 43] (.ops [G 44 5,G 45 6,G 46 9,bq 47 .add 45 46,G 48 11,a9 49 .and 48 1048575,G 50 11,(aB 51 (.bin .shr (.t 50) (.c (.J (.int .u64 20))))),bW 52 1 44 47,bn 1 52 49,G 8 51])))) (.ops [a9 53 .add 27 1,G 27 53]))))))) (.ops [G 54 5,G 55 6,G 56 1,ct 57 56,bq 58 .add 55 57,bW 59 1 54 58,aY 60 1 59,G 61 8,bq 62 .add 60 61,bW 63 1 54 58,bn 1 63 62]))))) (.ops [a9 64 .add 20 1,G 20 64]))))))) (U [G 65 5,(dQ 66 qA 65),G 4 66] .ret))))
def Vy:bN:=ca 55 2 [.t 4] (U [eM 4] (.seq (U [G 9 0,ct 10 9,G 11 1,ct 12 11,bq 13 .lss 10 12] (a2 13 (.ops [G 14 1,G 15 0,G 0 14,G 1 15]) .skip)) (U [G 16 0,ct 17 16,a9 18 .add 17 1,(aB 19 (.mv 172019 [(aj 0)] 8 (.t 18) (.t 18))),G 5 19] (U [bp 6 0] (.seq (U [G 20 0,ct 21 20,bp 22 0] (.block 0 (.loop  (U [bq 23 .lss 22 21] (.seq (a2 23 .skip (.exit 0)) (.seq (.block 1 (U [G 24 22,bW 25 1 20 22,aY 26 1 25,G 7 24,G 8 26] (U [G 27 6,G 28 8,bq 29 .add 27 28,G 6 29] (.seq (U [G 30 7,G 31 1,ct 32 31,bq 33 .lss 30 32] (a2 33 (.ops [G 34 6,G 35 1,G 36 7,bW 37 1 35 36,aY 38 1 37,bq 39 .add 34 38,G 6 39]) .skip)) (U [G 40 5,G 41 7,G 42 6,a9 43 .and 42 1048575,bW 44 1 40 41,bn 1 44 43] (.ops [G 45 6,(aB 46 (.bin .shr (.t 45) (.c (.J (.int .u64 20))))),G 6 46])))))) (.ops [a9 47 .add 22 1,G 22 47]))))))) (U [G 48 5,G 49 0,ct 50 49,G 51 6,bW 52 1 48 50,bn 1 52 51] (U [G 53 5,(dQ 54 qA 53),G 4 54] .ret)))))))
def Vz:bN:=ca 43 2 [.t 4] (U [eM 4] (U [G 9 0,(aB 10 (.nT 173010 1 sG [(.t 9)])),G 5 10] (U [bp 6 0] (.seq (U [G 11 5,ct 12 11,bp 13 0] (.block 0 (.loop  (U [bq 14 .lss 13 12] (.seq (a2 14 .skip (.exit 0)) (.seq (.block 1 (U [G 15 13,G 7 15] (U [G 16 5,G 17 7,bW 18 1 16 17,aY 19 1 18,G 20 6,bq 21 .sub 19 20,G 8 21] (.seq (U [G 22 7,G 23 1,ct 24 23,bq 25 .lss 22 24] (a2 25 (.ops [G 26 8,G 27 1,G 28 7,bW 29 1 27 28,aY 30 1 29,bq 31 .sub 26 30,G 8 31]) .skip)) (U [G 32 8,(aB 33 (.bin .shr (.t 32) (.c (.J (.int .u64 20))))),a9 34 .and 33 1,G 6 34] (.ops [G 35 5,G 36 7,G 37 8,a9 38 .and 37 1048575,bW 39 1 35 36,bn 1 39 38])))))) (.ops [a9 40 .add 13 1,G 13 40]))))))) (U [G 41 5,(dQ 42 qA 41),G 4 42] .ret)))))
def VA:bN:=ca 41 2 [.t 4] (U [bp 4 0] (.seq (U [G 6 0,ct 7 6,G 8 1,ct 9 8,bq 10 .neq 7 9] (a2 10 (U [G 11 0,ct 12 11,G 13 1,ct 14 13,(cA 15 GA 12 14),G 4 15] .ret) .skip)) (.seq (U [G 16 0,ct 17 16,a9 18 .sub 17 1,G 5 18] (.block 0 (.loop  (.seq (U [G 19 5,a9 20 .geq 19 0] (a2 20 .skip (.exit 0))) (.seq (.block 1 (fM [G 23 0,G 24 5,bW 25 1 23 24,aY 26 1 25,G 27 1,G 28 5,bW 29 1 27 28,aY 30 1 29,bq 31 .neq 26 30] GH (a2 31 (fM [G 32 0,G 33 5,bW 34 1 32 33,aY 35 1 34,G 36 1,G 37 5,bW 38 1 36 37,aY 39 1 38,(cA 40 GA 35 39),G 4 40] GI .ret) .skip))) (.ops [G 21 5,a9 22 .sub 21 1,G 5 22])))))) (U [bp 4 0] .ret))))
def VB:bN:=ca 38 2 [.t 4,.t 5] (U [eM 4,bp 5 0] (U [G 9 0,ct 10 9,(aB 11 (.mv 176011 [(aj 0)] 8 (.t 10) (.t 10))),G 6 11] (U [bp 7 0] (.seq (U [G 12 0,ct 13 12,a9 14 .sub 13 1,G 8 14] (.block 0 (.loop  (.seq (U [G 15 8,a9 16 .geq 15 0] (a2 16 .skip (.exit 0))) (.seq (.block 1 (U [G 19 7,(aB 20 (.bin .shl (.t 19) (.c (.J (.int .u64 20))))),G 21 0,G 22 8,bW 23 1 21 22,aY 24 1 23,bq 25 .or 20 24,G 7 25] (U [G 26 6,G 27 8,G 28 7,G 29 1,bq 30 .quo 28 29,bW 31 1 26 27,bn 1 31 30] (.ops [G 32 7,G 33 1,bq 34 .rem 32 33,G 7 34])))) (.ops [G 17 8,a9 18 .sub 17 1,G 8 18])))))) (.seq (.ghost (.freeze 6) (.ops [G 35 6,(dQ 36 qA 35),G 37 7,G 4 36,G 5 37])) .ret)))))
def DT:bN:=ca 21 1 [.t 2] (U [eM 2] (U [G 4 0,ct 5 4,G 3 5] (.seq (.block 0 (.loop  (.seq (U [G 6 3,a9 7 .gtr 6 0,G 8 7,⟨some 9,some (8,true),.b6 (.t 0)⟩,⟨some 10,some (8,true),.b6 (.t 3)⟩,⟨some 11,some (8,true),.bin .sub (.t 10) (.c (aj 1))⟩,⟨some 12,some (8,true),.jy 1 (.t 9) (.t 11)⟩,⟨some 13,some (8,true),.load 1 false (.t 12)⟩,⟨some 14,some (8,true),.bin .eql (.t 13) (.c (aj 0))⟩,fx 15 8 14] (a2 15 .skip (.exit 0))) (.block 1 (.ops [G 16 3,a9 17 .sub 16 1,G 3 17]))))) (U [G 18 0,G 19 3,(aB 20 (.oz 1 (.t 18) none (some (.t 19)) none)),G 2 20] .ret))))
def OY:bN:=ca 78 3 [.t 6] (U [bp 6 0] (U [bp 7 0] (.seq (U [G 12 0,ct 13 12,bp 14 0] (.block 0 (.loop  (U [bq 15 .lss 14 13] (.seq (a2 15 .skip (.exit 0)) (.seq (.block 1 (U [G 16 14,G 8 16] (U [G 17 0,G 18 8,bW 19 1 17 18,aY 20 1 19,G 21 7,bq 22 .sub 20 21,G 9 22] (.seq (U [G 23 8,G 24 1,ct 25 24,bq 26 .lss 23 25] (a2 26 (.ops [G 27 9,G 28 2,G 29 1,G 30 8,bW 31 1 29 30,aY 32 1 31,bq 33 .mul 28 32,bq 34 .sub 27 33,G 9 34]) .skip)) (U [G 35 0,G 36 8,G 37 9,a9 38 .and 37 1048575,bW 39 1 35 36,bn 1 39 38] (.ops [G 40 9,(aB 41 (.bin .shr (.t 40) (.c (.J (.int .u64 20))))),(aB 42 (.un .neg (.t 41))),G 7 42])))))) (.ops [a9 43 .add 14 1,G 14 43]))))))) (.seq (U [G 44 7,a9 45 .eql 44 0] (a2 45 (U [G 46 2,G 6 46] .ret) .skip)) (U [bp 10 0] (.seq (U [G 47 0,ct 48 47,bp 49 0] (.block 2 (.loop  (U [bq 50 .lss 49 48] (.seq (a2 50 .skip (.exit 2)) (.seq (.block 3 (U [G 51 49,G 11 51] (U [G 52 10,G 53 0,G 54 11,bW 55 1 53 54,aY 56 1 55,bq 57 .add 52 56,G 10 57] (.seq (U [G 58 11,G 59 1,ct 60 59,bq 61 .lss 58 60] (a2 61 (.ops [G 62 10,G 63 1,G 64 11,bW 65 1 63 64,aY 66 1 65,bq 67 .add 62 66,G 10 67]) .skip)) (U [G 68 0,G 69 11,G 70 10,a9 71 .and 70 1048575,bW 72 1 68 69,bn 1 72 71] (.ops [G 73 10,(aB 74 (.bin .shr (.t 73) (.c (.J (.int .u64 20))))),G 10 74])))))) (.ops [a9 75 .add 49 1,G 49 75]))))))) (U [G 76 2,a9 77 .sub 76 1,G 6 77] .ret)))))))
def VC:bN:=ca 20 2 [.t 4] (U [bp 4 0] (U [G 7 0,(dQ 8 DL 7),G 5 8] (U [G 9 1,(dQ 10 DL 9),G 6 10] (.seq (U [G 11 5] (a2 11 (.seq (U [G 12 6] (a2 12 (U [bp 4 0] .ret) .skip)) (U [(aB 4 (.b6 (.c (.J (.int .i64 (-1))))))] .ret)) .skip)) (.seq (U [G 13 6] (a2 13 (U [bp 4 1] .ret) .skip)) (.seq (U [G 14 0,G 15 1,bq 16 .lss 14 15] (a2 16 (U [(aB 4 (.b6 (.c (.J (.int .i64 (-1))))))] .ret) .skip)) (.seq (U [G 17 0,G 18 1,bq 19 .gtr 17 18] (a2 19 (U [bp 4 1] .ret) .skip)) (U [bp 4 0] .ret))))))))
def VD:bN:=ca 18 1 [.t 2] (U [bp 2 0] (U [bp 3 0] (.seq (U [G 6 0,ct 7 6,bp 8 0] (.block 0 (.loop  (U [bq 9 .lss 8 7] (.seq (a2 9 .skip (.exit 0)) (.seq (.block 1 (U [bW 10 1 6 8,aY 11 1 10,G 5 11] (U [G 12 5,G 13 3,bq 14 .neq 12 13] (a2 14 (U [G 15 5,G 2 15] .ret) .skip)))) (.ops [a9 16 .add 8 1,G 8 16]))))))) (U [G 17 3,G 2 17] .ret))))
def VE:bN:=ca 6 1 [.t 2] (U [cP 2 false] (U [G 3 0,G 4 0,bq 5 .neq 3 4,G 2 5] .ret))
def VF:bN:=ca 17 2 [.t 4] (U [cP 4 false] (U [G 5 0,(dQ 6 DL 5),G 7 6,⟨some 8,some (7,true),.b6 (.t 1)⟩,⟨some 9,some (7,true),.call DL [(.t 8)]⟩,⟨some 10,some (7,true),.un .not (.t 9)⟩,fx 11 7 10,G 12 11,⟨some 13,some (12,false),.b6 (.t 0)⟩,⟨some 14,some (12,false),.b6 (.t 1)⟩,⟨some 15,some (12,false),.bin .lss (.t 13) (.t 14)⟩,ed 16 12 15,G 4 16] .ret))
def VG:bN:=ca 9 2 [.t 4] (U [cP 4 false] (U [G 5 0,G 6 1,(cA 7 UB 5 6),a9 8 .geq 7 0,G 4 8] .ret))
def VH:bN:=ca 9 2 [.t 4] (U [cP 4 false] (U [G 5 0,G 6 1,(cA 7 UC 5 6),a9 8 .geq 7 0,G 4 8] .ret))
def VI:bN:=ca 48 2 [.t 4] (U [eM 4] (.seq (U [G 9 1,a9 10 .lss 9 0] (a2 10 (.ops [(aB 11 (.bad)),⟨none,none,.bad⟩]) .skip)) (U [G 13 0,ct 14 13,(aB 15 (.conv .u64 (.t 14))),G 16 1,(aB 17 (.conv .u64 (.t 16))),(cA 18 UE 15 17),G 12 18,bB 19 0 12,bB 20 1 12,G 5 19,G 6 20] (.seq (U [G 21 5,(aB 22 (.bin .gtr (.t 21) (.c (.J (.int .u64 0))))),G 23 22,⟨some 24,some (23,false),.b6 (.t 6)⟩,⟨some 25,some (23,false),.bin .gtr (.t 24) (.c (.J (.int .u64 9223372036854775807)))⟩,ed 26 23 25] (a2 26 (.ops [(aB 27 (.bad)),⟨none,none,.bad⟩]) .skip)) (U [G 28 6,(aB 29 (.conv .i64 (.t 28))),(aB 30 (.mv 131030 [(aj 0),.nil,(aj 0),.nil] 64 (.t 29) (.t 29))),G 7 30] (U [G 31 7,G 32 0,(aB 33 (.si 4 (.t 31) (.t 32))),G 8 33] (.seq (.block 0 (.loop  (.seq (U [G 34 8,G 35 7,ct 36 35,bq 37 .lss 34 36] (a2 37 .skip (.exit 0))) (.block 1 (.mU [G 38 8,G 39 7,G 40 8,(aB 41 (.oz 4 (.t 39) (some (.t 40)) none none)),G 42 7,G 43 8,(aB 44 (.oz 4 (.t 42) none (some (.t 43)) none)),(aB 45 (.si 4 (.t 41) (.t 44))),bq 46 .add 38 45,G 8 46] GI))))) (U [G 47 7,G 4 47] .ret))))))))
def VJ:bN:=ca 19 2 [.t 4] (U [bp 4 0] (.seq (U [G 6 0,ct 7 6,bp 8 0] (.block 0 (.loop  (U [bq 9 .lss 8 7] (.seq (a2 9 .skip (.exit 0)) (.seq (.block 1 (U [G 10 8,G 5 10] (U [G 11 1,G 12 0,G 13 5,bW 14 5 12 13,bz 15 5 14,(aB 16 (.jM (.t 11) [(.t 15)]))] (a2 16 (U [G 17 5,G 4 17] .ret) .skip)))) (.ops [a9 18 .add 8 1,G 8 18]))))))) (U [(aB 4 (.b6 (.c (.J (.int .i64 (-1))))))] .ret)))
def GJ:bN:=ca 19 2 [.t 4] (U [bp 4 0] (.seq (U [G 6 0,ct 7 6,bp 8 0] (.block 0 (.loop  (U [bq 9 .lss 8 7] (.seq (a2 9 .skip (.exit 0)) (.seq (.block 1 (U [G 10 8,G 5 10] (U [G 11 1,G 12 0,G 13 5,bW 14 4 12 13,bz 15 4 14,(aB 16 (.jM (.t 11) [(.t 15)]))] (a2 16 (U [G 17 5,G 4 17] .ret) .skip)))) (.ops [a9 18 .add 8 1,G 8 18]))))))) (U [(aB 4 (.b6 (.c (.J (.int .i64 (-1))))))] .ret)))
def VK:bN:=ca 8 1 [.t 2] (U [eM 2] (.seq (U [G 3 0,(aB 4 (.q9 false (.t 3)))] (a2 4 (U [eM 2] .ret) .skip)) (U [(aB 5 (.fe 147005 true [] 4 0 [])),G 6 0,(aB 7 (.app 147007 [(aj 0),.nil,(aj 0),.nil] 64 (.t 5) (.t 6))),G 2 7] .ret)))
def VL:bN:=ca 8 1 [.t 2] (U [eM 2] (.seq (U [G 3 0,(aB 4 (.q9 false (.t 3)))] (a2 4 (U [eM 2] .ret) .skip)) (U [(aB 5 (.fe 156005 true [] 1 0 [])),G 6 0,(aB 7 (.app 156007 [(aj 0)] 8 (.t 5) (.t 6))),G 2 7] .ret)))
def K3:bN:=ca 19 2 [.t 4] (U [bp 4 0] (.seq (U [G 6 0,ct 7 6,bp 8 0] (.block 0 (.loop  (U [bq 9 .lss 8 7] (.seq (a2 9 .skip (.exit 0)) (.seq (.block 1 (U [G 10 8,G 5 10] (U [G 11 1,G 12 0,G 13 5,bW 14 1 12 13,aY 15 1 14,(aB 16 (.jM (.t 11) [(.t 15)]))] (a2 16 (U [G 17 5,G 4 17] .ret) .skip)))) (.ops [a9 18 .add 8 1,G 8 18]))))))) (U [(aB 4 (.b6 (.c (.J (.int .i64 (-1))))))] .ret)))
def K4:bN:=ca 32 3 [.t 6] (U [cP 6 false] (.seq (U [G 10 0,ct 11 10,G 12 1,ct 13 12,bq 14 .neq 11 13] (a2 14 (U [cP 6 false] .ret) .skip)) (.seq (U [G 15 0,ct 16 15,bp 17 0] (.block 0 (.loop  (U [bq 18 .lss 17 16] (.seq (a2 18 .skip (.exit 0)) (.seq (.block 1 (U [G 19 17,bW 20 4 15 17,bz 21 4 20,(aB 8 (.alloc 235008 [(aj 0),.nil,(aj 0),.nil])),G 7 19,bn 4 8 21] (U [G 22 1,G 23 7,bW 24 4 22 23,bz 25 4 24,(aB 9 (.alloc 235009 [(aj 0),.nil,(aj 0),.nil])),bn 4 9 25] (U [G 26 2,bz 27 4 8,bz 28 4 9,(aB 29 (.jM (.t 26) [(.t 27),(.t 28)])),fy 30 29] (a2 30 (U [cP 6 false] .ret) .skip))))) (.ops [a9 31 .add 17 1,G 17 31]))))))) (U [cP 6 true] .ret))))
def VM:bN:=ca 25 1 [.t 2] (U [bp 2 0] (.seq (U [G 5 0,ct 6 5,a9 7 .lss 6 1] (a2 7 (.ops [(aB 8 (.bad)),⟨none,none,.bad⟩]) .skip)) (U [G 9 0,(aB 10 (.jy 1 (.t 9) (.c (aj 0)))),aY 11 1 10,G 3 11] (.seq (U [bp 4 1] (.block 0 (.loop  (.seq (U [G 12 4,G 13 0,ct 14 13,bq 15 .lss 12 14] (a2 15 .skip (.exit 0))) (.seq (.block 1 (.ops [G 18 3,G 19 0,G 20 4,bW 21 1 19 20,aY 22 1 21,(aB 23 (.iH true (.t 18) (.t 22))),G 3 23])) (.ops [G 16 4,a9 17 .add 16 1,G 4 17])))))) (U [G 24 3,G 2 24] .ret)))))
def VN:bN:=ca 9 2 [.t 4] (U [cP 4 false] (U [G 5 0,G 6 1,(cA 7 wT 5 6),a9 8 .geq 7 0,G 4 8] .ret))
def VO:bN:=ca 9 2 [.t 4] (U [cP 4 false] (U [G 5 0,G 6 1,(cA 7 UZ 5 6),a9 8 .geq 7 0,G 4 8] .ret))
def K5:bN:=ca 19 2 [.t 4] (U [bp 4 0] (.seq (U [G 6 0,ct 7 6,bp 8 0] (.block 0 (.loop  (U [bq 9 .lss 8 7] (.seq (a2 9 .skip (.exit 0)) (.seq (.block 1 (U [G 10 8,G 5 10] (U [G 11 1,G 12 0,G 13 5,bW 14 4 12 13,bz 15 4 14,(aB 16 (.jM (.t 11) [(.t 15)]))] (a2 16 (U [G 17 5,G 4 17] .ret) .skip)))) (.ops [a9 18 .add 8 1,G 8 18]))))))) (U [(aB 4 (.b6 (.c (.J (.int .i64 (-1))))))] .ret)))
def OZ:bN:=ca 11 1 [] (U [G 3 0,ct 4 3,G 2 4] (.ops [G 5 0,G 6 2,G 7 2,(aB 8 (.conv .u64 (.t 7))),(dQ 9 Vf 8),(aB 10 (.call K0 [(.t 5),(.c (aj 0)),(.t 6),(.t 9)]))]))
def VP:bN:=ca 26 2 [.t 4] (U [cP 4 false] (.seq (U [G 6 0,ct 7 6,G 8 1,ct 9 8,bq 10 .neq 7 9] (a2 10 (U [cP 4 false] .ret) .skip)) (.seq (U [G 11 0,ct 12 11,bp 13 0] (.block 0 (.loop  (U [bq 14 .lss 13 12] (.seq (a2 14 .skip (.exit 0)) (.seq (.block 1 (U [G 15 13,G 5 15] (fM [G 16 0,G 17 5,bW 18 1 16 17,aY 19 1 18,G 20 1,G 21 5,bW 22 1 20 21,aY 23 1 22,bq 24 .neq 19 23] GH (a2 24 (U [cP 4 false] .ret) .skip)))) (.ops [a9 25 .add 13 1,G 13 25]))))))) (U [cP 4 true] .ret))))
def O0:bN:=ca 61 1 [.t 2] (U [eM 2] (.seq (U [G 6 0,ct 7 6,a9 8 .lss 7 2] (a2 8 (U [G 9 0,G 2 9] (.ghost (.freeze 2) .ret)) .skip)) (.seq (U [bp 3 1] (.block 0 (.loop  (.seq (U [G 10 3,G 11 0,ct 12 11,bq 13 .lss 10 12] (a2 13 .skip (.exit 0))) (.seq (.block 1 (fM [G 16 0,G 17 3,bW 18 1 16 17,aY 19 1 18,G 20 0,G 21 3,a9 22 .sub 21 1,bW 23 1 20 22,aY 24 1 23,bq 25 .eql 19 24] GI (a2 25 (U [G 26 0,G 27 3,(aB 28 (.oz 1 (.t 26) (some (.t 27)) none none)),G 4 28] (.seq (U [bp 5 1] (.block 2 (.loop  (.seq (U [G 29 5,G 30 4,ct 31 30,bq 32 .lss 29 31] (a2 32 .skip (.exit 2))) (.seq (.block 3 (fM [G 35 4,G 36 5,bW 37 1 35 36,aY 38 1 37,G 39 4,G 40 5,a9 41 .sub 40 1,bW 42 1 39 41,aY 43 1 42,bq 44 .neq 38 43] GI (a2 44 (U [G 45 0,G 46 3,G 47 4,G 48 5,bW 49 1 47 48,aY 50 1 49,bW 51 1 45 46,bn 1 51 50] (.ops [G 52 3,a9 53 .add 52 1,G 3 53])) .skip))) (.ops [G 33 5,a9 34 .add 33 1,G 5 34])))))) (U [G 54 0,G 55 3,(aB 56 (.oz 1 (.t 54) (some (.t 55)) none none)),⟨none,none,.sk [(aj 0)] (.t 56)⟩] (U [G 57 0,G 58 3,(aB 59 (.oz 1 (.t 57) none (some (.t 58)) none)),G 2 59] (.ghost (.freeze 2) .ret))))) .skip))) (.ops [G 14 3,a9 15 .add 14 1,G 3 15])))))) (U [G 60 0,G 2 60] (.ghost (.freeze 2) .ret)))))
def O1:bN:=ca 42 2 [.t 4] (U [eM 4] (U [G 8 0,G 9 1,(cA 10 wT 8 9),G 5 10] (.seq (U [G 11 5,(aB 12 (.bin .eql (.t 11) (.c (.J (.int .i64 (-1))))))] (a2 12 (U [G 13 0,G 4 13] .ret) .skip)) (.seq (U [G 14 5,a9 15 .add 14 1,G 6 15] (.block 0 (.loop  (.seq (U [G 16 6,G 17 0,ct 18 17,bq 19 .lss 16 18] (a2 19 .skip (.exit 0))) (.seq (.block 1 (U [G 22 0,G 23 6,bW 24 1 22 23,aY 25 1 24,G 7 25] (U [G 26 1,G 27 7,(aB 28 (.jM (.t 26) [(.t 27)])),fy 29 28] (a2 29 (U [G 30 0,G 31 5,G 32 7,bW 33 1 30 31,bn 1 33 32] (.ops [G 34 5,a9 35 .add 34 1,G 5 35])) .skip)))) (.ops [G 20 6,a9 21 .add 20 1,G 6 21])))))) (U [G 36 0,G 37 5,(aB 38 (.oz 1 (.t 36) (some (.t 37)) none none)),⟨none,none,.sk [(aj 0)] (.t 38)⟩] (U [G 39 0,G 40 5,(aB 41 (.oz 1 (.t 39) none (some (.t 40)) none)),G 4 41] .ret))))))
def O2:bN:=ca 134 4 [] (U [cP 8 true] (U [cP 9 true] (.block 0 (.loop  (.block 1 (U [G 19 2,G 20 1,bq 21 .sub 19 20,G 10 21] (.seq (U [G 22 10,a9 23 .leq 22 12] (a2 23 (U [G 24 0,G 25 1,G 26 2,(vF 27 Vh 24 25 26)] .ret) .skip)) (.seq (U [G 28 3,a9 29 .eql 28 0] (a2 29 (U [G 30 0,G 31 1,G 32 2,(vF 33 arH 30 31 32)] .ret) .skip)) (.seq (U [G 34 8,fy 35 34] (a2 35 (U [G 36 0,G 37 1,G 38 2,(vF 39 arI 36 37 38)] (.ops [G 40 3,a9 41 .sub 40 1,G 3 41])) .skip)) (U [G 43 0,G 44 1,G 45 2,(vF 46 arJ 43 44 45),G 42 46,bB 47 0 42,bB 48 1 42,G 11 47,G 12 48] (.seq (U [G 49 12,a9 50 .eql 49 2] (a2 50 (U [G 51 0,G 52 1,G 53 2,(vF 54 arK 51 52 53)] (U [G 55 2,a9 56 .sub 55 1,G 57 11,G 58 1,bq 59 .sub 57 58,bq 60 .sub 56 59,G 11 60] (.ops [bp 12 1]))) .skip)) (.seq (U [G 61 8,G 62 61,⟨some 63,some (62,true),.b6 (.t 9)⟩,fx 64 62 63,G 65 64,⟨some 66,some (65,true),.b6 (.t 12)⟩,⟨some 67,some (65,true),.bin .eql (.t 66) (.c (aj 1))⟩,fx 68 65 67] (a2 68 (U [G 69 0,G 70 1,G 71 2,(vF 72 arL 69 70 71)] (a2 72 .ret .skip)) .skip)) (.seq (fM [G 73 1,a9 74 .gtr 73 0,G 75 74,⟨some 76,some (75,true),.b6 (.t 0)⟩,⟨some 77,some (75,true),.b6 (.t 1)⟩,⟨some 78,some (75,true),.bin .sub (.t 77) (.c (aj 1))⟩,⟨some 79,some (75,true),.jy 1 (.t 76) (.t 78)⟩,⟨some 80,some (75,true),.load 1 false (.t 79)⟩,⟨some 81,some (75,true),.b6 (.t 0)⟩,⟨some 82,some (75,true),.b6 (.t 11)⟩,⟨some 83,some (75,true),.jy 1 (.t 81) (.t 82)⟩,⟨some 84,some (75,true),.load 1 false (.t 83)⟩,⟨some 85,some (75,true),.call OV [(.t 80),(.t 84)]⟩,⟨some 86,some (75,true),.un .not (.t 85)⟩,fx 87 75 86] afq (a2 87 (U [G 88 0,G 89 1,G 90 2,G 91 11,(zQ 92 arM 88 89 90 91),G 13 92] (U [G 93 13,G 1 93] (.exit 1))) .skip)) (U [G 95 0,G 96 1,G 97 2,G 98 11,(zQ 99 arN 95 96 97 98),G 94 99,bB 100 0 94,bB 101 1 94,G 14 100,G 15 101] (U [G 102 15,G 9 102] (U [G 103 14,G 104 1,bq 105 .sub 103 104,G 106 2,G 107 14,bq 108 .sub 106 107,G 16 105,G 17 108] (U [G 109 10,a9 110 .quo 109 8,G 18 110] (U [G 111 16,G 112 17,bq 113 .lss 111 112] (a2 113 (U [G 114 16,G 115 18,bq 116 .geq 114 115,G 8 116] (U [G 117 0,G 118 1,G 119 14,G 120 3,(zQ 121 K0 117 118 119 120)] (.ops [G 122 14,a9 123 .add 122 1,G 1 123]))) (U [G 124 17,G 125 18,bq 126 .geq 124 125,G 8 126] (U [G 127 0,G 128 14,a9 129 .add 128 1,G 130 2,G 131 3,(zQ 132 K0 127 129 130 131)] (.ops [G 133 14,G 2 133]))))))))))))))))))))))
def VQ:bN:=ca 9 2 [.t 4] (U [cP 4 false] (U [G 5 0,G 6 1,(cA 7 Vj 5 6),a9 8 .geq 7 0,G 4 8] .ret))
def O3:bN:=ca 49 3 [] (U [G 8 1,a9 9 .add 8 1,G 6 9] (.block 0 (.loop  (.seq (U [G 10 6,G 11 2,bq 12 .lss 10 11] (a2 12 .skip (.exit 0))) (.seq (.block 1 (U [G 15 6,G 7 15] (.block 2 (.loop  (.seq (fM [G 16 7,G 17 1,bq 18 .gtr 16 17,G 19 18,⟨some 20,some (19,true),.b6 (.t 0)⟩,⟨some 21,some (19,true),.b6 (.t 7)⟩,⟨some 22,some (19,true),.jy 1 (.t 20) (.t 21)⟩,⟨some 23,some (19,true),.load 1 false (.t 22)⟩,⟨some 24,some (19,true),.b6 (.t 0)⟩,⟨some 25,some (19,true),.b6 (.t 7)⟩,⟨some 26,some (19,true),.bin .sub (.t 25) (.c (aj 1))⟩,⟨some 27,some (19,true),.jy 1 (.t 24) (.t 26)⟩,⟨some 28,some (19,true),.load 1 false (.t 27)⟩,⟨some 29,some (19,true),.call OV [(.t 23),(.t 28)]⟩,fx 30 19 29] afq (a2 30 .skip (.exit 2))) (.seq (.block 3 (.mU [G 33 0,G 34 7,G 35 0,G 36 7,a9 37 .sub 36 1,G 38 0,G 39 7,a9 40 .sub 39 1,bW 41 1 38 40,aY 42 1 41,G 43 0,G 44 7,bW 45 1 43 44,aY 46 1 45,bW 47 1 33 34,bn 1 47 42,bW 48 1 35 37,bn 1 48 46] afr)) (.ops [G 31 7,a9 32 .sub 31 1,G 7 32]))))))) (.ops [G 13 6,a9 14 .add 13 1,G 6 14]))))))
def VR:bN:=ca 19 2 [.t 4] (U [bp 4 0] (.seq (U [G 6 0,ct 7 6,bp 8 0] (.block 0 (.loop  (U [bq 9 .lss 8 7] (.seq (a2 9 .skip (.exit 0)) (.seq (.block 1 (U [G 10 8,G 5 10] (U [G 11 1,G 12 0,G 13 5,bW 14 1 12 13,aY 15 1 14,bq 16 .eql 11 15] (a2 16 (U [G 17 5,G 4 17] .ret) .skip)))) (.ops [a9 18 .add 8 1,G 8 18]))))))) (U [(aB 4 (.b6 (.c (.J (.int .i64 (-1))))))] .ret)))
theorem VS (l:List Int)(n:Nat)(aL:n<D l)(h:l[n]=0):fL (l.take (n+1))=fL (l.take n):=by
 rw[hv,bx aL,h];exact aff _
theorem VT (l:List Int)(n:Nat)(aL:n<D l)(h:l[n]≠0):fL (l.take (n+1))=l.take (n+1):=by
 rw[hv,bx aL];exact afg _ h
abbrev DU:List Int->List Data:=λ(l:List Int)=>[.Y (l.map ae)]
def zR:=ck DU λ(l:List Int)=>cR (D l<=1000000) (.same (.Y ((fL l).map ae)))
theorem K6:∀a b,DU a=DU b->a=b:=by
  intro dW ak h;exact map_inj fp _ _ (by simpa using h)
@[go_sem] theorem O4 (l:List Int)(H:(D l)<=1000000):zR [.Y (l.map ae)]=some (.same (.Y ((fL l).map ae))):=(cx K6 l).trans (cW H _)
theorem arU (T:bd)  (l:List Int) (H:(D l)<=1000000):WP T DT (.same (.Y ((fL l).map ae))) [.J (.Y (l.map ae))]:=by
 refine cy ?_;simp only[DT];have tB:((l.map ae).all λe=>D e==1)=true:=by simp[ae]
 refine a0 ?_;repeat' (intro h<;>simp only[h,go_sem,go_sem_proc,al]<;>try refine aw ?_ ?_)
 refine dn [0] [] (λ(n:Nat) tm mem=>n<=D l/\fL l=fL (l.take n)/\tm 3=.J (.int .i64 n)) (λn=>n) (D l) (by refine⟨bZ _,by simp,by simp[go_sem]⟩) ?_;intro vs ms aV aS;simp only[go_sem,go_sem_proc,al] at aV aS;subst aV aS;rintro n tm mem O-⟨aL,bF,af⟩;simp only[go_sem,go_sem_proc,ba] at O;have ao:=O;rcases n with _|n
 ·refine a0 ?_;repeat' (intro h<;>simp only[h,go_sem,go_sem_proc,ao,af,tB,lF,l6,show ¬ ((0:Int)>0) by omega,decide_false,al,show (0:Int).toNat=0 from rfl,show (0:Int)<=0 by omega,fv,m0,cV]<;>try refine aw ?_ ?_)
  rw[bF];simp[fL]
 ·have hw:IntKind.i64.wrap (((n+1:Nat):Int)-1)=(n:Int):=by rw[eS _];omega
  have Q:l[n]?=some l[n]:=bx (by omega);have h3:((n+1:Nat):Int)>0:=by omega
  have hle:n+1<=D l:=aL
  by_cases aX:l[n]=0
  ·refine a0 ?_;repeat' (intro h<;>simp only[h,go_sem,go_sem_proc,ao,af,hw,Q,aX,h3,al,bl,decide_true,ae,beq_self_eq_true,ba]<;>try refine aw ?_ ?_)
   exact⟨n,by omega,by omega,by rw[bF,VS l n (by omega) aX],rfl⟩
  ·have qB:(l[n]==0)=false:=by simpa using aX
   refine a0 ?_;repeat' (intro h<;>simp only[h,go_sem,go_sem_proc,ao,af,hw,Q,qB,h3,tB,hle,ae,al,bl,decide_true,ba,show (0:Int)<=((n+1:Nat):Int) by omega,jX,fv]<;>try refine aw ?_ ?_)
   rw[bF,VT l n (by omega) aX,List.map_take]
structure afu where
 l:List Int
 k:Key
 g:Nat
def vG:List R->Mem->Option (R×Mem):=Gw (λ(a:afu) args mem=>args=[.ref a.k a.g 1 0 (D a.l)]/\mem a.k=some (a.g,bc ae a.l)/\D a.l<=1000000) (λa mem=>(.ref a.k a.g 1 0 (fL a.l).length,mem))
theorem VU {α:Type}{enc:α->List Data}{sz:Nat}(h:∀a,(enc a).length=sz)(M:∀a b,enc a=enc b->a=b):∀(l fP:List α),bc enc l=bc enc fP->0<sz->l=fP:=by
 intro l
 induction l with
 |nil =>
  intro fP e aX
  cases fP with
  |nil=>rfl
  |cons b r =>
   have:=congrArg D e;rw[oF h,oF h] at this;simp only[lD,hN,Dz,qg] at this;omega
 |cons a r az =>
  intro fP e aX
  cases fP with
  |nil =>
   have:=congrArg D e;rw[oF h,oF h] at this;simp only[lD,hN,Dz,qg] at this;omega
  |cons b FV =>
   rw[yl,yl] at e;have ar:((enc a).map R.J).length=((enc b).map R.J).length:=by simp[h]
   obtain⟨aC,aD⟩:=GK e ar;have b9:=map_inj (λx y (e:R.J x=R.J y)=>by cases e;rfl) _ _ aC;rw[M _ _ b9,az FV aD aX]
theorem VV (l:List Int)(k g:Nat)(mem:Mem)(h:mem k=some (g,bc ae l))(ar:(D l)<=1000000):vG [.ref k g 1 0 (D l)] mem=some (.ref k g 1 0 (fL l).length,mem):=by
 unfold vG;refine afe (a:=(⟨l,k,g⟩:afu)) ?_ ⟨rfl,h,ar⟩;rintro a b args mem ⟨F,I,_⟩ ⟨af,aO,_⟩;rw[F] at af;simp only[ba,R.ref.injEq,true_and,and_true] at af;obtain⟨K7,O5,_⟩:=af;rw[K7,aO] at I;simp only[cn,fb] at I;have:=VU gX fp _ _ I.2 (by omega);rw[K7,O5,this]
@[go_sem] theorem aKg (d:Data)(mem:Mem):vG [.J d] mem=none:=by
 cases Q:vG [.J d] mem with
 |none=>rfl
 |some x =>
  unfold vG at Q;obtain⟨a,⟨h,_⟩,_⟩:=Up Q
  cases h
theorem arV (T:bd)(l:List Int)(k g:Nat)(mem:Mem)(hm:mem k=some (g,bc ae l))(H:(D l)<=1000000):
  wp T DT.body (Gv DT.res (.ref k g 1 0 (fL l).length) mem) ⟨km [.ref k g 1 0 (D l)],mem⟩:=by
 refine qs ?_;simp only[DT];refine a0 ?_;repeat' (intro h<;>simp only[h,go_sem,go_sem_proc,hm]<;>try refine aw ?_ ?_)
 refine dn [0] [] (λ(n:Nat) tm mem'=>n<=D l/\fL l=fL (l.take n)/\tm 3=.J (.int .i64 n)/\mem'=mem) (λn=>n) (D l) (by refine⟨bZ _,by simp,by simp[go_sem],rfl⟩) ?_;intro vs ms aV aS;simp only[go_sem,go_sem_proc] at aV aS;subst aV aS;rintro n tm _ O-⟨aL,bF,af,rfl⟩;simp only[go_sem,go_sem_proc,ba] at O;have ao:=O;rcases n with _|n
 ·refine a0 ?_;repeat' (intro h<;>simp only[h,go_sem,go_sem_proc,ao,af,hm,lF,l6,show ¬ ((0:Int)>0) by omega,decide_false,show (0:Int).toNat=0 from rfl,show (0:Int)<=0 by omega,fv]<;>try refine aw ?_ ?_)
  rw[bF];simp[fL]
 ·have hw:IntKind.i64.wrap (((n+1:Nat):Int)-1)=(n:Int):=by rw[eS _];omega
  have Q:l[n]?=some l[n]:=bx (by omega);have h3:((n+1:Nat):Int)>0:=by omega
  have hle:n+1<=D l:=aL;have ay:n<D l:=aL;have x8:=Uc gX Q (f:=0) (n:=1) (by omega);have dq:=oF gX l;rw[cL] at dq;have afv:n+1<=(bc ae l).length:=by omega
  have afw:fN 1 (fT n (bc ae l))=[.J (.int .i64 l[n])]:=by
   unfold cut at x8;rw[cL,nZ,ad (by omega)] at x8
   simpa [ae] using x8
  by_cases aX:l[n]=0
  ·refine a0 ?_;repeat' (intro h<;>simp only[h,go_sem,go_sem_proc,ao,af,hm,hw,ay,afv,afw,aX,h3,decide_true,cL,beq_self_eq_true]<;>try refine aw ?_ ?_)
   exact⟨n,by omega,by omega,by rw[bF,VS l n (by omega) aX],rfl⟩
  ·have qB:(l[n]==0)=false:=by simpa using aX
   refine a0 ?_;repeat' (intro h<;>simp only[h,go_sem,go_sem_proc,ao,af,hm,hw,ay,afv,afw,qB,h3,hle,decide_true,cL,show (0:Int)<=((n+1:Nat):Int) by omega,jX,fv,Nat.sub_zero]<;>try refine aw ?_ ?_)
   rw[bF,VT l n (by omega) aX];simp;omega
abbrev vH:Int->List Data:=λ(n:Int)=>[.int .i64 n]
def O6:=ck vH λ(n:Int)=>some (.same (.bool false))
theorem yq:∀a b,vH a=vH b->a=b:=by
  intro hF ir h;simp only[ba,Data.int.injEq,Data.agg.injEq,Data.Y.injEq,Data.bool.injEq,Data.str.injEq,Data.ptr.injEq,Data.cI.injEq,fb,true_and,and_true] at h ⊢
  first|exact h|simpa [yr,and_assoc] using h|grind
@[go_sem] theorem aKh (n:Int):O6 [.int .i64 n]=some (.same (.bool false)):=cx yq n
theorem arW (T:bd)  (n:Int):WP T VE (.same (.bool false)) [.J (.int .i64 n)]:=by
 refine cy ?_;simp only[VE];refine a0 ?_;repeat' (intro h<;>simp only[h,go_sem,go_sem_proc,beq_self_eq_true]<;>try refine aw ?_ ?_)
def hH (a b:Int):Int:=if decide (a<b)=true then -1 else if decide (a>b)=true then 1 else 0
abbrev GL:Int×Int->List Data:=λ(a,b)=>[.int .i64 a,.int .i64 b]
def O7:=ck GL λ(a,b)=>some (.same (.int .i64 (hH a b)))
theorem O8:∀a b,GL a=GL b->a=b:=by
  rintro⟨cT,dh⟩ ⟨c7,eK⟩ h;simp only[ba,Data.int.injEq,Data.agg.injEq,Data.Y.injEq,Data.bool.injEq,Data.str.injEq,Data.ptr.injEq,Data.cI.injEq,fb,true_and,and_true] at h ⊢
  first|exact h|simpa [yr,and_assoc] using h|grind
@[go_sem] theorem aKi (a:Int)(b:Int):O7 [.int .i64 a,.int .i64 b]=some (.same (.int .i64 (hH a b))):=cx O8 (a,b)
theorem arX (T:bd)(VW:T DL=aW O6)(a:Int)(b:Int):WP T VC (.same (.int .i64 (hH a b))) [.J (.int .i64 a),.J (.int .i64 b)]:=by
 refine cy ?_;simp only[VC];refine a0 ?_;repeat' (intro h<;>simp only[h,go_sem,go_sem_proc,VW]<;>try refine aw ?_ ?_)
 all_goals simp only[hH, *,reduceIte,cK,dt,vt,sw,l2,ru,vu,gW,h6,fS,kX,beq_self_eq_true,bne]
def zS:List Int->Int
 | []=>0
 |d::r=>if (d==0)=true then zS r else d
def VX:=ck DU λ(l:List Int)=>cR (D l<=1000000) (.same (.int .i64 (zS l)))
@[go_sem] theorem arY (l:List Int)(H:(D l)<=1000000):VX [.Y (l.map ae)]=some (.same (.int .i64 (zS l))):=(cx K6 l).trans (cW H _)
theorem arZ (T:bd)  (l:List Int) (H:(D l)<=1000000):WP T VD (.same (.int .i64 (zS l))) [.J (.Y (l.map ae))]:=by
 refine cy ?_;simp only[VD];simp only[go_sem,go_sem_proc,al];repeat' (first|refine aw ?_ ?_|fail)<;>intro h<;>simp only[h,go_sem,go_sem_proc,al]
 refine dn [3,6,7] [] (λi tm mem=>0<=i/\i<=(D l:Int)/\zS l=zS (l.drop i.toNat)/\tm 8=.J (.int .i64 i)) (λi=>(D l-i).toNat) 0 (by refine⟨by omega,by omega,by simp,by simp[go_sem]⟩) ?_;intro vs ms aV aS;simp only[go_sem,go_sem_proc] at aV aS;subst aV aS;rintro i tm mem O-⟨sH,M,aI,cl⟩;simp only[go_sem,go_sem_proc,ba] at O;obtain⟨af,bK,bP⟩:=O;rcases dA (i<D l) with ay|cj
 ·obtain⟨x,Q,aa,-⟩:=ae3 l i sH ay;simp only[go_sem,go_sem_proc,af,bK,bP,cl,Q,ay,sH,ae,al,bl,decide_true,ba];repeat' (first|refine aw ?_ ?_|fail)<;>intro h<;>simp only[h,go_sem,go_sem_proc,af,bK,bP,cl,Q,ay,sH,ae,al,bl,decide_true,ba]
  ·rw[aI,aa];simp[zS,h]
  ·exact⟨i+1,by omega,by omega,by omega,by rw[aI,aa];simp only[zS, *,reduceIte,cK,dt,vt,sw,l2,ru,vu,gW,h6,fS,kX,beq_self_eq_true,bne],by rw[eS _]⟩
 ·have he:l.drop i.toNat=[]:=jQ (by omega);simp only[go_sem,go_sem_proc,af,bK,bP,cl,cj,decide_false];repeat' (first|refine aw ?_ ?_|fail)<;>intro h<;>simp only[h,go_sem,go_sem_proc,af,bK,bP,cl,cj,decide_false]
  rw[aI,he];rfl
theorem K8 (l:List Int):((l.map ae).all λe=>D e==1)=true:=by simp[ae]
def zT:=ck DU λ(l:List Int)=>cR (D l<=1000000) (.own 1 (l.map ae))
@[go_sem] theorem VY (l:List Int)(H:(D l)<=1000000):zT [.Y (l.map ae)]=some (.own 1 (l.map ae)):=(cx K6 l).trans (cW H _)
theorem ar0 (T:bd)  (l:List Int) (H:(D l)<=1000000):WP T VL (.own 1 (l.map ae)) [.J (.Y (l.map ae))]:=by
 refine cy ?_;simp only[VL]
 have dC:mx 156005 0 1 0 8 (D l) ((l.map ae).flatten.map .J) (some (0,[]))=some (.ref 156005 1 1 0 (D l),some (156005,1,bc ae l)):=by
  have:=Dx gX tR 156005 0 8 [] l (by simp;omega) (by simp;omega)
  simpa [bc] using this
 have hlen:(bc ae l).length=D l:=by rw[oF gX];omega
 refine a0 ?_;repeat' (intro h<;>simp only[h,go_sem,go_sem_proc,K8,dC,al]<;>try refine aw ?_ ?_)
 rintro b ah
 cases b
 ·refine a0 ?_;repeat' (intro h<;>simp only[h,go_sem,go_sem_proc,K8,dC,al,rr,cL,hlen]<;>try refine aw ?_ ?_)
  rw[ad (by omega),dy (by omega)];unfold bc;rw[tP _ λd=>rfl];have:=ym (sz:=1) (l.map ae) (by simp[ae]);rw[al] at this;simp[this]
 ·cases l with
  |nil =>
       refine a0 ?_;repeat' (intro h<;>simp only[h,go_sem,go_sem_proc,rr,cV]<;>try refine aw ?_ ?_)
  |cons x r=>simp at ah
abbrev Raw:=Int×List Int
def db (a:Raw):List Data:=[.int .i64 a.1,.Y (a.2.map ae)]
def n3 (d:Int):Bool:=!decide (d<0) && !decide (d>1048575)
def dD (a:Raw):Bool:=a.2.all n3&&(if (a.2.length==0)=true then a.1==0 else ((a.1==1||a.1 == -1)&&decide (a.2.length<=60)&&(a.2.getLast? != some 0)))
abbrev BD:Int×(List Int)->List Data:=λ(s,l)=>[.agg [.int .i64 s,.Y (l.map ae)]]
def wX:=ck BD λ(s,l)=>cR (D l<=1000000) (.same (.bool (dD (s,l))))
theorem GM:∀a b,BD a=BD b->a=b:=by
  rintro⟨s1,dW⟩ ⟨s2,ak⟩ h;simp only[ba,Data.agg.injEq,Data.int.injEq,Data.Y.injEq] at h;exact dT h.1.1.2 (map_inj fp _ _ h.1.2.1)
@[go_sem] theorem aKj (s:Int)(l:List Int)(H:(D l)<=1000000):wX [.agg [.int .i64 s,.Y (l.map ae)]]=some (.same (.bool (dD (s,l)))):=(cx GM (s,l)).trans (cW H _)
theorem ar1 (T:bd)  (s:Int) (l:List Int) (H:(D l)<=1000000):WP T Vl (.same (.bool (dD (s,l)))) [.J (.agg [.int .i64 s,.Y (l.map ae)])]:=by
 refine cy ?_;simp only[Vl];refine a0 ?_;repeat' (intro h<;>simp only[h,go_sem,go_sem_proc,al]<;>try refine aw ?_ ?_)
 refine dn [1,3,10,11] [136001] (λi tm mem=>0<=i/\i<=(D l:Int)/\l.all n3=(l.drop i.toNat).all n3/\tm 12=.J (.int .i64 i)) (λi=>(D l-i).toNat) 0 (by refine⟨by omega,by omega,by simp,by simp[go_sem]⟩) ?_;intro vs ms aV aS;simp only[go_sem,go_sem_proc,al] at aV aS;subst aV aS;rintro i tm mem O hm ⟨sH,M,aI,h8⟩;simp only[go_sem,go_sem_proc,ba] at O hm;obtain⟨F,af,gq,zU⟩:=O;rcases dA (i<D l) with ay|cj
 ·obtain⟨x,Q,aa,-⟩:=ae3 l i sH ay
  have iI:∀b,n3 x=true->b=(l.drop (i+1).toNat).all n3->l.all n3=b:=by
   intro b F I;rw[aI,aa,Gq,F,I,gW]
  have K9:n3 x=false->dD (s,l)=false:=by
   intro F;unfold dD;rw[aI,aa,Gq,F]
   rfl
  refine a0 ?_;repeat' (intro h<;>simp only[h,go_sem,go_sem_proc,F,af,gq,zU,h8,hm,Q,ay,sH,ae,al,bl,decide_true,ba]<;>try refine aw ?_ ?_)
  ·rw[K9 (by simp only[n3, *,reduceIte,cK,dt,vt,sw,l2,ru,vu,gW,h6,fS,kX,beq_self_eq_true,bne])]
  ·exact⟨i+1,by omega,by omega,by omega,by refine iI _ ?_ rfl;simp only[n3, *,reduceIte,cK,dt,vt,sw,l2,ru,vu,gW,h6,fS,kX,beq_self_eq_true,bne],by rw[eS _]⟩
  ·rw[K9 (by simp only[n3, *,reduceIte,cK,dt,vt,sw,l2,ru,vu,gW,h6,fS,kX,beq_self_eq_true,bne])]
 ·have he:l.drop i.toNat=[]:=jQ (by omega);rw[he] at aI;have fi:l.all n3=true:=by rw[aI];rfl
  rcases Bu l with rfl|⟨r,x,rfl⟩
  ·have ar2:¬ i<(0:Int):=by simpa using cj
   refine a0 ?_;repeat' (intro h<;>simp only[h,go_sem,go_sem_proc,F,af,gq,zU,h8,hm,ar2,decide_false,lD,lF,l6,beq_self_eq_true]<;>try refine aw ?_ ?_)
   simp[dD]
  ·rw[Bv] at *;have bG:(((r++[x]).length:Int)==0)=false:=by simp;omega
   have hw:IntKind.i64.wrap (((r++[x]).length:Int)-1)=(D r:Int):=by
    have cB:(r++[x]).length=D r+1:=by simp
    rw[eS _];omega
   have a7:((r++[x]).map ae)[D r]?=some [.int .i64 x]:=by simp[ae]
   have ab:dD (s,r++[x])=((s==1||s == -1)&&decide (((r++[x]).length:Int)<=60)&&(x != 0)):=by
    unfold dD;rw[fi];simp only[List.getLast?_append,List.getLast?_singleton];simp;have aC:decide (D r<=59)=decide ((D r:Int)+1<=60):=decide_eq_decide.2 (by omega);have aD:(some x != some (0:Int))=(x != 0):=by simp[bne]
    rw[aC,aD]
   rw[ab];refine a0 ?_;repeat' (intro h<;>simp only[h,go_sem,go_sem_proc,F,af,gq,zU,h8,hm,cj,bG,hw,a7,decide_false,al]<;>try refine aw ?_ ?_)
   all_goals simp only[*,reduceIte,cK,dt,vt,sw,l2,ru,vu,gW,h6,fS,kX,beq_self_eq_true,bne]
def kp (s:Int)(l:List Int):Raw:=if (((fL l).length:Int)==0)=true then (0,[]) else (s,fL l)
abbrev O9:Int×(List Int)->List Data:=λ(s,l)=>[.int .i64 s,.Y (l.map ae)]
def BE:=ck O9 λ(s,l)=>cR (D l<=1000000) (.same (.agg (db (kp s l))))
theorem afx:∀a b,O9 a=O9 b->a=b:=by
  rintro⟨s1,dW⟩ ⟨s2,ak⟩ h;simp only[ba,Data.int.injEq,Data.Y.injEq] at h;exact dT h.1.2 (map_inj fp _ _ h.2.1)
@[go_sem] theorem aKk (s:Int)(l:List Int)(H:(D l)<=1000000):BE [.int .i64 s,.Y (l.map ae)]=some (.same (.agg (db (kp s l)))):=(cx afx (s,l)).trans (cW H _)
theorem ar3 (T:bd)(eH:T qA=zI zR vG)(s:Int)(l:List Int)(H:(D l)<=1000000):WP T Vu (.same (.agg (db (kp s l)))) [.J (.int .i64 s),.J (.Y (l.map ae))]:=by
 refine cy ?_;simp only[Vu];refine a0 ?_;repeat' (intro h<;>simp only[h,go_sem,go_sem_proc,eH,H,al]<;>try refine aw ?_ ?_)
 all_goals simp only[kp,db,cV, *,reduceIte,cK,dt,vt,sw,l2,ru,vu,gW,h6,fS,kX,beq_self_eq_true,bne]
theorem lG (l:List Int)(i:Nat)(h:i<D l):bf (l.take (i+1))=bf (l.take i)+1048576^i*l[i]:=by
 rw[hv,bx h,DD,gf,oE (by omega)];simp[bf]
theorem zV {l:List Int}(h:eY l)(i:Nat):eY (l.take i):=λd aa=>h d (F7 aa)
theorem afy {l:List Int}(i:Nat)(M:i<D l):eY (l.take (i+1))↔eY (l.take i)/\(0<=l[i]/\l[i]<1048576):=by
 rw[hv,bx M,DB];simp[DA,eY]
theorem lH {l:List Int}(h:eY l)(i:Nat)(M:i<D l):0<=l[i]/\l[i]<1048576:=h _ (List.getElem_mem M)
theorem DV (o:List Int)(i:Nat)(d:Int):(o.set i d).take i=o.take i:=by
 rw[List.take_set,List.set_eq_of_length_le];rw[gf];omega
theorem qC (o:List Int):(bc ae o).length=D o:=by rw[oF gX];omega
theorem La (o:List Int)(i:Nat)(h:i<D o):fN 1 (fT i (bc ae o))=[.J (.int .i64 o[i])]:=by
 have x8:=Uc gX (bx h) (f:=0) (n:=1) (by omega);unfold cut at x8;have:=qC o;rw[cL,nZ,ad (by omega)] at x8
 simpa [ae] using x8
theorem yt (o:List Int)(i:Nat)(d:Int)(h:i<D o):fN i (bc ae o)++[.J (.int .i64 d)]++fT (i+1) (bc ae o)=bc ae (o.set i d):=by
 have:=ae1 gX h d;unfold kV at this
 simpa [ae] using this
theorem GN (n:Nat):(dG n [R.J (.int .i64 0)]).flatten=bc ae (dG n 0):=by
 induction n with
 |zero=>rfl
 |succ n az=>rw[qo,qo,jL,yl,az];rfl
theorem GO (n:Nat)(h:n<=1000000000):n<=maxLen:=eQ h (by decide)
theorem afz (l:List Int):(fL l).length<=D l:=by
 induction l with
 |nil=>simp[fL]
 |cons d r az=>unfold fL;split<;>(try split)<;>simp<;>omega
theorem ar4 (l:List Int):l.take (fL l).length=fL l:=by
 induction l with
 |nil=>simp[fL]
 |cons d r az =>
  unfold fL
  split
  ·split<;>simp
  ·simp[az]
theorem ar5 (l:List Int):∀n:Nat,(bc ae l).take n=bc ae (l.take n):=by
 induction l with
 |nil=>intro n;simp[bc]
 |cons d r az=>intro n;cases n with
  |zero=>simp[bc]
  |succ n=>rw[yl,wP,yl,<-az];rfl
theorem afA {mem:Mem}{k g n:Nat}{o:List Int}(hm:mem k=some (g,bc ae o))(aL:n<=D o):rr 1 mem (.ref k g 1 0 n)=some ((o.take n).map ae):=by
 unfold rr;dsimp only;rw[hm];simp only[and_self,if_true,cL];rw[qC,ad ⟨trivial,aL⟩,ar5];unfold bc;rw[tP _ λd=>rfl];have:=ym (sz:=1) ((o.take n).map ae) (by intro e he;rw[ek] at he;obtain⟨x,-,rfl⟩:=he;rfl);rw[al,gf,oE aL] at this;simp only[lB,this]
theorem VZ {mem:Mem}{k g:Nat}{o:List Int}{n:Nat}(hm:mem k=some (g,bc ae o))(aa:eY o)(aA:bf o=n):rr 1 mem (.ref k g 1 0 (fL o).length)=some ((aM n).map ae):=by
 rw[afA hm (afz o),ar4,zL aa,aA]
 rfl
def b5 (n:Nat):Data:=.Y ((aM n).map ae)
theorem afB {x y:Nat}(h:(aM x).length<(aM y).length):x<y:=by
 have F:=(g3 (n:=x) (k:=(aM x).length)).1 (bZ _);have I:=mt (g3 (n:=y) (k:=(aM x).length)).2 (by omega);omega
theorem afC {a b:List Int}(aP:eY a)(ah:eY b)(ar:(D a)=D b)(i:Nat)(M:i<D a)(aa:a.drop (i+1)=b.drop (i+1))(h:a[i]<b[i]):bf a<bf b:=by
 rw[KI a (i+1),KI b (i+1),aa,ar,lG a i M,lG b i (by omega)];have F:=zK (zV aP i);have I:=o8 (zV ah i);rw[gf,oE (by omega)] at F;generalize (1048576:Int)^i=p at *
 have af:p*a[i]+p<=p*b[i]:=by
  have:p*(a[i]+1)<=p*b[i]:=zW (by omega) (by have:=o8 (zV aP i);omega);rw[ix,vI] at this;exact this
 omega
abbrev vJ:Nat×Nat->List Data:=λ(x,y)=>[b5 x,b5 y]
def Lb:=ck vJ λ(x,y)=>cR ((aM x).length<=1000000/\(aM y).length<=1000000) (.same (.int .i64 (hH x y)))
theorem yu:∀a b,vJ a=vJ b->a=b:=by
  rintro⟨a8,tV⟩ ⟨bY,tW⟩ h;simp only[ba,b5,Data.Y.injEq] at h;exact dT (KH (map_inj fp _ _ h.1)) (KH (map_inj fp _ _ h.2.1))
@[go_sem] theorem V0 (x:Nat)(y:Nat)(H:(aM x).length<=1000000/\(aM y).length<=1000000):Lb [b5 x,b5 y]=some (.same (.int .i64 (hH x y))):=(cx yu (x,y)).trans (cW H _)
theorem ar6 (T:bd)(n4:T GA=aW O7)(x:Nat)(y:Nat)(H:(aM x).length<=1000000/\(aM y).length<=1000000):WP T VA (.same (.int .i64 (hH x y))) [.J (b5 x),.J (b5 y)]:=by
 refine cy ?_;simp only[VA];obtain⟨Q,av⟩:=H;have tX:=m1 x;have rC:=m1 y;have wY:=l4 x;have DW:=l4 y;have aeT:=@afB x y;have k5:=@afB y x
 by_cases ar:(aM x).length=(aM y).length
 ·generalize aP:aM x=a at *;generalize ah:aM y=b at *;have Pa:((D a:Int)==(D b:Int))=true:=by simp[ar]
  simp only[go_sem,go_sem_proc,n4,b5,aP,ah,Pa,al];refine dn [0,1] [] (λ(n:Nat) tm mem=>n<=D a/\a.drop n=b.drop n/\tm 5=.J (.int .i64 ((n:Int)-1))) (λn=>n) (D a) (by refine⟨bZ _,by rw[Uh,ar,Uh],?_⟩;simp only[eV,reduceIte];rw[eS _]) ?_;intro vs ms aV aS;simp only[go_sem,go_sem_proc,n4,b5,aP,ah] at aV aS;subst aV aS;rintro n tm mem O-⟨aL,aa,bm⟩;simp only[go_sem,go_sem_proc,n4,ba] at O;obtain⟨ao,F⟩:=O;rcases n with _|n
  ·have e:a=b:=by simpa using aa
   have jk:(x:Int)=y:=by rw[<-wY,<-DW,e]
   simp only[go_sem,go_sem_proc,n4,ao,F,bm,lF,l6,show ¬ ((0:Int)-1>=0) by omega,decide_false]
   repeat' (first|refine aw ?_ ?_|fail)<;>intro h<;>simp only[h,go_sem,go_sem_proc,n4,ao,F,bm,lF,l6,show ¬ ((0:Int)-1>=0) by omega,decide_false]
   rw[jk];simp[hH]
  ·have hw:((n+1:Nat):Int)-1=(n:Int):=by omega
   have m2:a[n]?=some a[n]:=bx (by omega);have nw:b[n]?=some b[n]:=bx (by omega)
   have ab:hH a[n] b[n]=hH x y\/a[n]=b[n]:=by
    by_cases F:a[n]<b[n]
    ·left
     have:=afC tX rC ar n aL aa F;simp only[hH];rw[ad (by simpa using F),ad (by simp;omega)]
    ·by_cases I:b[n]<a[n]
     ·left
      have:=afC rC tX ar.symm n (by omega) aa.symm I;simp only[hH];rw[ag (by simp;omega),ad (by simp;omega),ag (by simp;omega),ad (by simp;omega)]
     ·right;omega
   by_cases aX:a[n]=b[n]
   ·simp only[go_sem,go_sem_proc,n4,ao,F,bm,hw,m2,nw,aX,ae,show (n:Int)>=0 by omega,decide_true,bl,beq_self_eq_true,ba]
    repeat' (first|refine aw ?_ ?_|fail)<;>intro h<;>simp only[h,go_sem,go_sem_proc,n4,ao,F,bm,hw,m2,nw,aX,ae,show (n:Int)>=0 by omega,decide_true,bl,beq_self_eq_true,ba]
    exact⟨n,by omega,by omega,by rw[im (by omega:n<D a),im (by omega:n<D b),aX,aa],by rw[eS _]⟩
   ·have qB:(a[n]==b[n])=false:=by simpa using aX
    simp only[go_sem,go_sem_proc,n4,ao,F,bm,hw,m2,nw,qB,ae,show (n:Int)>=0 by omega,decide_true,bl,ba]
    repeat' (first|refine aw ?_ ?_|fail)<;>intro h<;>simp only[h,go_sem,go_sem_proc,n4,ao,F,bm,hw,m2,nw,qB,ae,show (n:Int)>=0 by omega,decide_true,bl,ba]
    rw[ab.resolve_right aX]
 ·have Pa:(((aM x).length:Int)==((aM y).length:Int))=false:=by simp;omega
  have ab:hH (aM x).length (aM y).length=hH x y:=by
   simp only[hH];rcases il (aM x).length (aM y).length with h|h
   ·have:=aeT h;rw[ad (by simp;omega),ad (by simp;omega)]
   ·have:=k5 (by omega);rw[ag (by simp;omega),ad (by simp;omega),ag (by simp;omega),ad (by simp;omega)]
  simp only[go_sem,go_sem_proc,n4,b5,Pa,ab,al];repeat' (first|refine aw ?_ ?_|fail)<;>intro h<;>simp only[h,go_sem,go_sem_proc,n4,b5,Pa,ab,al]
theorem afD (p wZ vk sr c a b:Int)(h:wZ+p*c=vk+sr):wZ+p*((c+a+b)%1048576)+p*1048576*((c+a+b)/1048576)=vk+p*a+(sr+p*b):=by
 have F:=BF (c+a+b) 1048576
 have I:p*((c+a+b)%1048576)+p*1048576*((c+a+b)/1048576)=p*(c+a+b):=by
  rw[iy,<-ix,F]
 have af:p*(c+a+b)=p*c+p*a+p*b:=by rw[ix,ix]
 omega
def Pb:=ck vJ λ(x,y)=>cR ((aM x).length<=100000/\(aM y).length<=100000) (.own 1 ((aM (x+y)).map ae))
@[go_sem] theorem afE (x:Nat)(y:Nat)(H:(aM x).length<=100000/\(aM y).length<=100000):Pb [b5 x,b5 y]=some (.own 1 ((aM (x+y)).map ae)):=(cx yu (x,y)).trans (cW H _)
theorem ar7 (T:bd)(eH:T qA=zI zR vG)(x:Nat)(y:Nat)(H:(aM x).length<=100000/\(aM y).length<=100000):WP T Vy (.own 1 ((aM (x+y)).map ae)) [.J (b5 x),.J (b5 y)]:=by
 refine cy ?_;simp only[Vy];obtain⟨Q,av⟩:=H;simp only[go_sem,go_sem_proc,eH,b5,al];refine aq3 (λst=>∃a b:List Int,eY a/\eY b/\D a<=100000/\D b<=D a/\bf a+bf b=x+y/\st.tm 0=.J (.Y (a.map ae))/\st.tm 1=.J (.Y (b.map ae))/\st.mem 172019=none) (λh=>?_) (λh=>?_) ?_
 ·simp only[go_sem,go_sem_proc,eH,b5];repeat' (first|refine aw ?_ ?_|fail)<;>intro h<;>simp only[h,go_sem,go_sem_proc,eH,b5]
  refine⟨aM y,aM x,m1 y,m1 x,av,?_,by rw[l4,l4];omega,rfl,rfl⟩
  simp at h;omega
 ·simp only[go_sem,go_sem_proc,eH,b5];repeat' (first|refine aw ?_ ?_|fail)<;>intro h<;>simp only[h,go_sem,go_sem_proc,eH,b5]
  refine⟨aM x,aM y,m1 x,m1 y,Q,?_,by rw[l4,l4],rfl,rfl⟩
  simp at h;omega
 rintro⟨tm,mem⟩ ⟨a,b,V1,w0,iX,kL,aA,ao,F,hm⟩;dsimp only at ao F hm;have n5:IntKind.i64.wrap ((D a:Int)+1)=((D a+1:Nat):Int):=by rw[eS _];rfl
 have kJ:8*(D a+1)<=140737488355328:=by omega
 have eJ:(D a)+1<=maxLen:=GO _ (by omega);simp only[go_sem,go_sem_proc,eH,ao,F,hm,n5,kJ,eJ,GN,al]
 refine dn [0,1,5,20,21] [] (λ(i,c,o) tm mem=>i<=D a/\(o:List Int).length=D a+1/\eY (o.take i)/\0<=c/\c<=1/\bf (o.take i)+1048576^i*c=bf (a.take i)+bf (b.take i)/\tm 22=.J (.int .i64 (i:Nat))/\tm 6=.J (.int .i64 c)/\mem 172019=some (0,bc ae o))
  (λ(i,_)=>D a-i) (0,0,dG (D a+1) 0) (by refine⟨fv _,by simp,by simp[eY],by omega,by omega,by simp[bf],?_,?_,?_⟩<;>rfl) ?_
 intro vs ms aV aS;simp only[go_sem,go_sem_proc,eH,ao,F,al] at aV aS;subst aV aS;rintro⟨i,c,o⟩ tm mem O-⟨M,bO,iJ,nx,gU,jS,sI,bK,hm⟩;simp only[go_sem,go_sem_proc,eH,ba] at O;obtain⟨ao,F,bm,tY,GP⟩:=O;rcases dA (i<D a) with ay|cj
 ·have m2:a[i]?=some a[i]:=bx ay;have Br:=lH V1 i ay;have fz:IntKind.i64.wrap ((i:Int)+1)=((i+1:Nat):Int):=by rw[eS _];rfl
  have qD:i<D o:=by omega
  have hS:i+1<=(bc ae o).length:=by rw[qC];omega
  have jE:IntKind.i64.wrap (c+a[i])=c+a[i]:=wrap64 _ (by omega) (by omega);have gL:=λd=>yt o i d qD
  have fin:∀bi:Int,0<=bi->bi<1048576->bf (b.take (i+1))=bf (b.take i)+1048576^i*bi ->
    ∃bk:Nat×Int×List Int,D a-bk.1<D a-i/\bk.1<=D a/\bk.2.2.length=D a+1/\eY (bk.2.2.take bk.1)/\0<=bk.2.1/\bk.2.1<=1/\bf (bk.2.2.take bk.1)+1048576^bk.1*bk.2.1=bf (a.take bk.1)+bf (b.take bk.1) /\
     R.J (Data.int .i64 ((i+1:Nat):Int))=R.J (Data.int .i64 (bk.1:Int))/\R.J (Data.int .i64 ((c+a[i]+bi)/1048576))=R.J (Data.int .i64 bk.2.1)/\some (0,bc ae (o.set i ((c+a[i]+bi)%1048576)))=some (0,bc ae bk.2.2):=by
   intro bi sJ kJ DX;refine⟨(i+1,(c+a[i]+bi)/1048576,o.set i ((c+a[i]+bi)%1048576)),by dsimp only;omega,by dsimp only;omega,by simp[bO],?_,by dsimp only;omega,by dsimp only;omega,?_,rfl,rfl,rfl⟩
   ·dsimp only;rw[afy _ (by simpa using qD),DV];refine⟨iJ,?_⟩;simp only[zX];omega
   ·dsimp only;rw[lG _ _ (by simpa using qD),DV,lG a i ay,DX,ns];simp only[zX];exact afD _ _ _ _ _ _ _ jS
  rcases dA (i<D b) with rD|V3
  ·have nw:b[i]?=some b[i]:=bx rD;have vK:=lH w0 i rD;have k8:IntKind.i64.wrap (c+a[i]+b[i])=c+a[i]+b[i]:=wrap64 _ (by omega) (by omega);have iz:decide ((i:Int)<(D b:Int))=true:=di;have jF:decide ((i:Int)<(D a:Int))=true:=di;simp only[go_sem,go_sem_proc,eH,ao,F,bm,tY,GP,sI,bK,hm,m2,nw,fz,jE,k8,iz,jF,ay,hS,gL,rB,oI,ae,cL,al,bl,ba,show i<D a+1 by omega,show ¬ ((20:Int)<0) by omega]
   repeat' (first|refine aw ?_ ?_|fail)<;>intro h<;>simp only[h,go_sem,go_sem_proc,eH,ao,F,bm,tY,GP,sI,bK,hm,m2,nw,fz,jE,k8,iz,jF,ay,hS,gL,rB,oI,ae,cL,al,bl,ba,show i<D a+1 by omega,show ¬ ((20:Int)<0) by omega]
   exact fin b[i] vK.1 vK.2 (lG b i rD)
  ·have iz:decide ((i:Int)<(D b:Int))=false:=c9;have jF:decide ((i:Int)<(D a:Int))=true:=di;simp only[go_sem,go_sem_proc,eH,ao,F,bm,tY,GP,sI,bK,hm,m2,fz,jE,iz,jF,ay,hS,gL,rB,oI,ae,cL,al,bl,ba,show i<D a+1 by omega,show ¬ ((20:Int)<0) by omega]
   repeat' (first|refine aw ?_ ?_|fail)<;>intro h<;>simp only[h,go_sem,go_sem_proc,eH,ao,F,bm,tY,GP,sI,bK,hm,m2,fz,jE,iz,jF,ay,hS,gL,rB,oI,ae,cL,al,bl,ba,show i<D a+1 by omega,show ¬ ((20:Int)<0) by omega]
   have:=fin 0 (by omega) (by omega) (by rw[dy (by omega),dy (by omega)];simp)
   simpa using this
 ·obtain rfl:i=D a:=by omega
  have jF:decide ((D a:Int)<(D a:Int))=false:=c9;have qD:(D a)<D o:=by omega
  have hS:(D a)+1<=(bc ae o).length:=by rw[qC];omega
  have gL:=λd=>yt o (D a) d qD
  have V4:eY (o.set (D a) c):=by
   have:o.set (D a) c=(o.set (D a) c).take (D a+1):=by rw[dy (by simp[bO])]
   rw[this,afy _ (by simpa using qD),DV];refine⟨iJ,?_⟩;simp only[zX];omega
  have V5:bf (o.set (D a) c)=x+y:=by
   have:o.set (D a) c=(o.set (D a) c).take (D a+1):=by rw[dy (by simp[bO])]
   rw[this,lG _ _ (by simpa using qD),DV];simp only[zX];rw[jS,dy (bZ _),dy kL,aA]
  have nr:=VV (o.set (D a) c) 172019 0 (a4 mem 172019 0 (bc ae (o.set (D a) c))) (by simp[a4]) (by simp[bO];omega);rw[hP,bO] at nr;have fJ:=VZ (mem:=a4 mem 172019 0 (bc ae (o.set (D a) c))) (k:=172019) (g:=0) (n:=x+y) (by simp[a4]) V4 (by rw[V5];rfl);simp only[go_sem,go_sem_proc,eH,ao,F,bm,tY,GP,sI,bK,hm,jF,hS,gL,nr,fJ,cL,al,show (D a)<D a+1 by omega]
  repeat' (first|refine aw ?_ ?_|fail)<;>intro h<;>simp only[h,go_sem,go_sem_proc,eH,ao,F,bm,tY,GP,sI,bK,hm,jF,hS,gL,nr,fJ,cL,al,show (D a)<D a+1 by omega]
theorem afF (n:Int):bits .and .i64 (n/1048576) 1=n/1048576%2:=by
 generalize n/1048576=m;have I:(1:Int)=((2^1-1:Nat):Int):=by decide
 have F:m%18446744073709551616%2=m%2:=by omega
 obtain⟨a,aP⟩:∃a:Nat,(a:Int)=m%18446744073709551616:=⟨(m%18446744073709551616).toNat,by omega⟩
 have e:BitVec.ofInt 64 m=BitVec.ofNat 64 a:=by
  apply BitVec.eq_of_toInt_eq;rw[BitVec.toInt_ofInt,BitVec.toInt_ofNat',aP];simp[afk,afl]
 have aD:bits .and .i64 m 1=bits .and .i64 (a:Int) 1:=by
  simp only[bits];rw[show IntKind.i64.bits=64 from rfl,e,BitVec.ofInt_natCast]
 rw[aD,<-F,<-aP];have Uq:a<2^64:=by omega
 conv=>lhs;rw[I]
 simp only[bits,BitVec.ofInt_natCast,BitVec.toNat_and,BitVec.toNat_ofNat,show IntKind.i64.bits=64 from rfl,KE Uq];rw[show (2^1-1:Nat)%2^64=2^1-1 by decide,afm,wrap64 _ (by omega) (by omega)]
 omega
theorem V6 (o:List Int)(j:Nat)(d:Int)(h:j<D o):bf (o.set j d)=bf o+1048576^j*(d-o[j]):=by
 induction o generalizing j with
 |nil=>simp at h
 |cons x r az =>
  cases j with
  |zero=>simp[bf];omega
  |succ j =>
   simp only[List.set_cons_succ,tQ,List.getElem_cons_succ,ns];rw[az j (by simpa using h),ix,<-iy,nt 1048576 (1048576^j)];omega
theorem zY {o:List Int}(h:eY o)(j:Nat){d:Int}(aa:0<=d/\d<1048576):eY (o.set j d):=by
 intro x Q;rcases List.mem_or_eq_of_mem_set Q with F|F
 ·exact h x F
 ·rw[F];exact aa
theorem ar8 (p wZ vk sr c a b:Int)(h:wZ=vk-sr+p*c):wZ+p*((a-c-b)%1048576)=vk+p*a-(sr+p*b)-p*1048576*((a-c-b)/1048576):=by
 have F:=BF (a-c-b) 1048576
 have I:p*((a-c-b)%1048576)+p*1048576*((a-c-b)/1048576)=p*(a-c-b):=by
  rw[iy,<-ix,F]
 have af:p*(a-c-b)=p*a-p*c-p*b:=by rw[GQ,GQ]
 omega
def Pc:=ck vJ λ(x,y)=>cR ((aM x).length<=100000/\y<=x) (.own 1 ((aM (x-y)).map ae))
@[go_sem] theorem V7 (x:Nat)(y:Nat)(H:(aM x).length<=100000/\y<=x):Pc [b5 x,b5 y]=some (.own 1 ((aM (x-y)).map ae)):=(cx yu (x,y)).trans (cW H _)
theorem ar9 (T:bd)(eN:T sG=aW zT)(eH:T qA=zI zR vG)(x:Nat)(y:Nat)(H:(aM x).length<=100000/\y<=x):WP T Vz (.own 1 ((aM (x-y)).map ae)) [.J (b5 x),.J (b5 y)]:=by
 refine cy ?_;simp only[Vz];obtain⟨Q,afG⟩:=H;have tX:=m1 x;have rC:=m1 y;have wY:=l4 x;have DW:=l4 y
 have k9:(aM y).length<=(aM x).length:=by
  rw[g3];exact vL afG (g3.1 (bZ _))
 generalize aP:aM x=a at *;generalize ah:aM y=b at *;have iX:(D a)<=1000000:=by omega
 simp only[go_sem,go_sem_proc,eN,eH,b5,aP,ah,iX,al]
 refine dn [1,5,12] [] (λ(i,c,o) tm mem=>i<=D a/\(o:List Int).length=D a/\eY o/\o.drop i=a.drop i/\(c=0\/c=1)/\bf (o.take i)=bf (a.take i)-bf (b.take i)+1048576^i*c/\tm 13=.J (.int .i64 (i:Nat))/\tm 6=.J (.int .i64 c)/\mem 173010=some (0,bc ae o))
  (λ(i,_)=>D a-i) (0,0,a) (by refine⟨fv _,rfl,tX,rfl,.inl rfl,by simp[bf],?_,?_,?_⟩<;>rfl) ?_
 intro vs ms aV aS;simp only[go_sem,go_sem_proc,eN,eH,b5,aP,ah,al] at aV aS;subst aV aS;rintro⟨i,c,o⟩ tm mem O-⟨M,bO,iJ,qE,asa,jS,n6,bK,hm⟩;simp only[go_sem,go_sem_proc,eN,eH,ba] at O;obtain⟨F,bm,h8⟩:=O;rcases dA (i<D a) with ay|cj
 ·have qD:i<D o:=by omega
  have V8:o[i]=a[i]:=by
   have F:=im qD;have I:=im ay;rw[qE,I] at F;exact (w2 F).1.symm
  have Br:=lH tX i ay;have fz:IntKind.i64.wrap ((i:Int)+1)=((i+1:Nat):Int):=by rw[eS _];rfl
  have hS:i+1<=(bc ae o).length:=by rw[qC];omega
  have hk:=La o i qD;rw[V8] at hk;have jE:IntKind.i64.wrap (a[i]-c)=a[i]-c:=wrap64 _ (by omega) (by omega);have gL:=λd=>yt o i d qD
  have fin:∀bi:Int,0<=bi->bi<1048576->bf (b.take (i+1))=bf (b.take i)+1048576^i*bi ->
    ∃bk:Nat×Int×List Int,D a-bk.1<D a-i/\bk.1<=D a/\bk.2.2.length=D a/\eY bk.2.2/\bk.2.2.drop bk.1=a.drop bk.1/\(bk.2.1=0\/bk.2.1=1)/\bf (bk.2.2.take bk.1)=bf (a.take bk.1)-bf (b.take bk.1)+1048576^bk.1*bk.2.1 /\
     R.J (Data.int .i64 ((i+1:Nat):Int))=R.J (Data.int .i64 (bk.1:Int))/\R.J (Data.int .i64 ((a[i]-c-bi)/1048576%2))=R.J (Data.int .i64 bk.2.1)/\some (0,bc ae (o.set i ((a[i]-c-bi)%1048576)))=some (0,bc ae bk.2.2):=by
   intro bi sJ kJ DX;have aT:(a[i]-c-bi)/1048576=0\/(a[i]-c-bi)/1048576 = -1:=by omega
   refine⟨(i+1,(a[i]-c-bi)/1048576%2,o.set i ((a[i]-c-bi)%1048576)),by dsimp only;omega,by dsimp only;omega,by simp[bO],zY iJ i (by omega),?_,by dsimp only;omega,?_,rfl,rfl,rfl⟩
   ·dsimp only;rw[tG (by omega)];have F:=im qD;have I:=im ay;rw[qE,I] at F;exact (w2 F).2.symm
   ·dsimp only;rw[lG _ _ (by simpa using qD),DV,lG a i ay,DX,ns];simp only[zX];rw[ar8 _ _ _ _ _ _ _ jS];rcases aT with e|e<;>rw[e]<;>simp
  have jF:decide ((i:Int)<(D a:Int))=true:=di;rcases dA (i<D b) with rD|V3
  ·have nw:b[i]?=some b[i]:=bx rD;have vK:=lH rC i rD;have k8:IntKind.i64.wrap (a[i]-c-b[i])=a[i]-c-b[i]:=wrap64 _ (by omega) (by omega);have iz:decide ((i:Int)<(D b:Int))=true:=di;refine a0 ?_;repeat' (intro h<;>simp only[h,go_sem,go_sem_proc,eN,eH,F,bm,h8,n6,bK,hm,nw,fz,jE,k8,iz,jF,ay,hS,hk,gL,rB,afF,oI,ae,cL,al,bl,ba,show ¬ ((20:Int)<0) by omega]<;>try refine aw ?_ ?_)
   exact fin b[i] vK.1 vK.2 (lG b i rD)
  ·have iz:decide ((i:Int)<(D b:Int))=false:=c9;refine a0 ?_;repeat' (intro h<;>simp only[h,go_sem,go_sem_proc,eN,eH,F,bm,h8,n6,bK,hm,fz,jE,iz,jF,ay,hS,hk,gL,rB,afF,oI,ae,cL,al,bl,ba,show ¬ ((20:Int)<0) by omega]<;>try refine aw ?_ ?_)
   have:=fin 0 (by omega) (by omega) (by rw[dy (by omega),dy (by omega)];simp)
   simpa using this
 ·obtain rfl:i=D a:=by omega
  have jF:decide ((D a:Int)<(D a:Int))=false:=c9;rw[dy (by omega),dy (by omega),dy (by omega),wY,DW] at jS
  have V5:bf o=((x-y:Nat):Int):=by
   have F:=zK iJ;rw[bO] at F;rcases asa with rfl|rfl
   ·rw[jS];omega
   ·omega
  have nr:=VV o 173010 0 mem hm (by omega);rw[bO] at nr;have fJ:=VZ hm iJ V5;refine a0 ?_;repeat' (intro h<;>simp only[h,go_sem,go_sem_proc,eN,eH,F,bm,h8,n6,bK,hm,jF,nr,fJ,al]<;>try refine aw ?_ ?_)
theorem afH (p wZ V c x y zZ:Int)(h:wZ+p*c=V):wZ+p*((zZ+x*y+c)%1048576-zZ)+p*1048576*((zZ+x*y+c)/1048576)=V+p*(x*y):=by
 have F:=BF (zZ+x*y+c) 1048576
 have I:p*((zZ+x*y+c)%1048576)+p*1048576*((zZ+x*y+c)/1048576)=p*(zZ+x*y+c):=by
  rw[iy,<-ix,F]
 have af:p*(zZ+x*y+c)=p*zZ+p*(x*y)+p*c:=by rw[ix,ix]
 rw[GQ];omega
theorem afI {o x y c:Int}(bO:0<=o/\o<1048576)(Q:0<=x/\x<1048576)(av:0<=y/\y<1048576)(H:0<=c/\c<1048576):
  0<=x*y/\x*y<=1099509530625/\0<=(o+x*y+c)/1048576/\(o+x*y+c)/1048576<1048576:=by
 have F:0<=x*y:=yv Q.1 av.1;have I:x*y<=1048575*1048575:=V9 (by omega) (by omega) av.1 (by omega);omega
theorem afJ {o:List Int}{n j:Nat}(h:o.drop n=dG (D o-n) 0)(ai:n<=j)(ay:j<D o):o[j]=0:=by
 have F:(o.drop n)[j-n]?=some o[j]:=by rw[lv,show n+(j-n)=j by omega,bx ay]
 rw[h,List.getElem?_replicate] at F
 split at F
 ·exact (o3 F).symm
 ·cases F
theorem afK {o:List Int}{n:Nat}{d:Int}(h:o.drop n=dG (D o-n) 0)(ay:n<D o):(o.set n d).drop (n+1)=dG ((o.set n d).length-(n+1)) 0:=by
 rw[tG (by omega),hP];have F:=im ay;rw[h,show (D o)-n=(D o-(n+1))+1 by omega,qo] at F
 exact (w2 F).2.symm
def Pf:=ck vJ λ(x,y)=>cR ((aM x).length<=10000/\(aM y).length<=10000) (.own 1 ((aM (x*y)).map ae))
@[go_sem] theorem Wa (x:Nat)(y:Nat)(H:(aM x).length<=10000/\(aM y).length<=10000):Pf [b5 x,b5 y]=some (.own 1 ((aM (x*y)).map ae)):=(cx yu (x,y)).trans (cW H _)
theorem asb (T:bd)(eH:T qA=zI zR vG)(x:Nat)(y:Nat)(H:(aM x).length<=10000/\(aM y).length<=10000):WP T Vx (.own 1 ((aM (x*y)).map ae)) [.J (b5 x),.J (b5 y)]:=by
 refine cy ?_;simp only[Vx];obtain⟨Q,av⟩:=H;have tX:=m1 x;have rC:=m1 y;have wY:=l4 x;have DW:=l4 y;generalize aP:aM x=a at *;generalize ah:aM y=b at *;have n5:IntKind.i64.wrap ((D a:Int)+(D b:Int))=((D a+D b:Nat):Int):=by rw[eS _];rfl
 have kJ:8*(D a+D b)<=140737488355328:=by omega
 have eJ:(D a)+D b<=maxLen:=GO _ (by omega);simp only[go_sem,go_sem_proc,eH,b5,aP,ah,n5,kJ,eJ,GN,al]
 refine dn [1,5,18,19] [] (λ(i,o) tm mem=>i<=D a/\(o:List Int).length=D a+D b/\eY o/\o.drop (i+D b)=dG (D o-(i+D b)) 0/\bf o=bf (a.take i)*y/\tm 20=.J (.int .i64 (i:Nat))/\mem 161017=some (0,bc ae o))
  (λ(i,_)=>D a-i) (0,dG (D a+D b) 0) (by
   have aX:∀n,bf (dG n 0)=0:=by
    intro n
    induction n with
    |zero=>rfl
    |succ n az=>rw[qo,tQ,az];rfl
   refine⟨fv _,by simp,λd aa=>by rw[GR] at aa;omega,by simp,by rw[aX];simp[bf],?_,?_⟩<;>rfl) ?_
 intro vs ms aV aS;simp only[go_sem,go_sem_proc,eH,b5,aP,ah,n5,al] at aV aS;subst aV aS;rintro⟨i,o⟩ tm mem O-⟨M,bO,iJ,sK,jS,tY,hm⟩;simp only[go_sem,go_sem_proc,eH,ba] at O;obtain⟨F,bm,jY,w3⟩:=O;rcases dA (i<D a) with ay|cj
 ·have m2:a[i]?=some a[i]:=bx ay;have Br:=lH tX i ay;have tJ:=lG a i ay;generalize a[i]=hT at *;have iz:decide ((i:Int)<(D a:Int))=true:=di;simp only[go_sem,go_sem_proc,eH,F,bm,jY,w3,tY,m2,iz,ae,al,bl,ba]
  refine dn [1,5,6,7,18,19,20,25,26] [] (λ((k,c,o):Nat×Int×List Int) tm mem=>k<=D b/\D o=D a+D b/\eY o/\o.drop (i+D b)=dG (D o-(i+D b)) 0/\0<=c/\c<1048576/\bf o+1048576^(i+k)*c=bf (a.take i)*y+1048576^i*(hT*bf (b.take k)) /\
    tm 27=.J (.int .i64 (k:Nat))/\tm 8=.J (.int .i64 c)/\mem 161017=some (0,bc ae o))
   (λ(k,_)=>D b-k) (0,0,o) (by refine⟨fv _,bO,iJ,sK,by omega,by omega,by simp[bf,jS],?_,?_,hm⟩<;>rfl) ?_
  intro vs ms aV aS;simp only[go_sem,go_sem_proc,eH,F,bm,jY,w3,tY,ae,al] at aV aS;subst aV aS;rintro⟨k,c,o⟩ tm mem O-⟨qv,bO,iJ,sK,nx,gU,jS,afL,cl,hm⟩;simp only[go_sem,go_sem_proc,eH,ba] at O;obtain⟨F,bm,bK,bP,jY,w3,tY,afM,afN⟩:=O;rcases dA (k<D b) with Lc|Lc
  ·have nw:b[k]?=some b[k]:=bx Lc;have GS:=lH rC k Lc;have pN:i+k<D o:=by omega
   have Wb:=lH iJ (i+k) pN;obtain⟨dN,cO,n7,qF⟩:=afI Wb Br GS ⟨nx,gU⟩;have iz:decide ((k:Int)<(D b:Int))=true:=di;have fz:IntKind.i64.wrap ((k:Int)+1)=((k+1:Nat):Int):=by rw[eS _];rfl
   have jE:IntKind.i64.wrap ((i:Int)+(k:Int))=((i+k:Nat):Int):=by rw[eS _];rfl
   have k8:IntKind.i64.wrap (hT*b[k])=hT*b[k]:=wrap64 _ (by omega) (by omega);have z0:IntKind.i64.wrap (o[i+k]+hT*b[k])=o[i+k]+hT*b[k]:=wrap64 _ (by omega) (by omega);have vM:IntKind.i64.wrap (o[i+k]+hT*b[k]+c)=o[i+k]+hT*b[k]+c:=wrap64 _ (by omega) (by omega);have hS:i+k+1<=(bc ae o).length:=by rw[qC];omega
   have hk:=La o (i+k) pN;have gL:=λd=>yt o (i+k) d pN;have ji:i+k<D a+D b:=by omega
   refine a0 ?_;repeat' (intro h<;>simp only[h,go_sem,go_sem_proc,eH,F,bm,bK,bP,jY,w3,tY,afM,afN,afL,cl,hm,nw,iz,fz,jE,k8,z0,vM,ji,hS,hk,gL,rB,oI,ae,cL,al,bl,ba,show ¬ ((20:Int)<0) by omega]<;>try refine aw ?_ ?_)
   refine⟨(k+1,(o[i+k]+hT*b[k]+c)/1048576,o.set (i+k) ((o[i+k]+hT*b[k]+c)%1048576)),by dsimp only;omega,by dsimp only;omega,by simp[bO],zY iJ _ (by omega),?_,n7,qF,?_,rfl,rfl,rfl⟩
   ·dsimp only;rw[tG (by omega),hP,sK]
   ·dsimp only;rw[V6 _ _ _ pN,lG b k Lc,<-qn,ns,afH _ _ _ _ _ _ _ jS];rw[ix (hT),ix (1048576^i),afO]
    have:(1048576:Int)^i*(hT*(1048576^k*b[k]))=1048576^i*1048576^k*(hT*b[k]):=by
     rw[<-iy (hT),nt (hT) (1048576^k),iy (1048576^k),<-iy]
    omega
  ·obtain rfl:k=D b:=by omega
   have iz:decide ((D b:Int)<(D b:Int))=false:=c9;have pN:i+D b<D o:=by omega
   have aX:=afJ sK (bZ _) pN;have fz:IntKind.i64.wrap ((i:Int)+1)=((i+1:Nat):Int):=by rw[eS _];rfl
   have jE:IntKind.i64.wrap ((i:Int)+(D b:Int))=((i+D b:Nat):Int):=by rw[eS _];rfl
   have k8:IntKind.i64.wrap (0+c)=c:=by rw[DY];exact wrap64 _ (by omega) (by omega)
   have hS:i+D b+1<=(bc ae o).length:=by rw[qC];omega
   have hk:=La o (i+D b) pN;rw[aX] at hk;have gL:=λd=>yt o (i+D b) d pN;have ji:i+D b<D a+D b:=by omega
   refine a0 ?_;repeat' (intro h<;>simp only[h,go_sem,go_sem_proc,eH,F,bm,bK,bP,jY,w3,tY,afM,afN,afL,cl,hm,iz,fz,jE,k8,ji,hS,hk,gL,ae,cL,al]<;>try refine aw ?_ ?_)
   refine⟨(i+1,o.set (i+D b) c),by dsimp only;omega,by dsimp only;omega,by simp[bO],zY iJ _ ⟨nx,gU⟩,?_,?_,rfl,rfl⟩
   ·dsimp only;have:=afK (d:=c) sK pN;rwa [show i+D b+1=i+1+(D b) by omega] at this
   ·dsimp only;rw[V6 _ _ _ pN,aX,tJ];rw[dy (bZ _),DW] at jS;rw[Ld,jS,tZ,iy]
 ·obtain rfl:i=D a:=by omega
  have iz:decide ((D a:Int)<(D a:Int))=false:=c9;rw[dy (bZ _),wY] at jS;have nr:=VV o 161017 0 mem hm (by omega);rw[bO] at nr;have fJ:=VZ hm iJ (n:=x*y) (by rw[jS];rfl);refine a0 ?_;repeat' (intro h<;>simp only[h,go_sem,go_sem_proc,eH,F,bm,jY,w3,tY,hm,iz,nr,fJ,al]<;>try refine aw ?_ ?_)
abbrev Wc:Nat×Int->List Data:=λ(x,d)=>[b5 x,.int .i64 d]
def Wd:=ck Wc λ(x,d)=>cR ((aM x).length<=100000/\0<d/\d<1048576) (.same (.cI [b5 (x/d.toNat),.int .i64 (x%d.toNat:Nat)]))
theorem asc:∀a b,Wc a=Wc b->a=b:=by
  rintro⟨a8,d1⟩ ⟨bY,d2⟩ h;simp only[ba,b5,Data.Y.injEq,Data.int.injEq] at h;exact dT (KH (map_inj fp _ _ h.1)) h.2.1.2
@[go_sem] theorem afP (x:Nat)(d:Int)(H:(aM x).length<=100000/\0<d/\d<1048576):Wd [b5 x,.int .i64 d]=some (.same (.cI [b5 (x/d.toNat),.int .i64 (x%d.toNat:Nat)])):=(cx asc (x,d)).trans (cW H _)
theorem asd (T:bd)(eH:T qA=zI zR vG)(x:Nat)(d:Int)(H:(aM x).length<=100000/\0<d/\d<1048576):WP T VB (.same (.cI [b5 (x/d.toNat),.int .i64 (x%d.toNat:Nat)])) [.J (b5 x),.J (.int .i64 d)]:=by
 refine cy ?_;simp only[VB];obtain⟨Q,BG,jZ⟩:=H;have tX:=m1 x;have wY:=l4 x;generalize aP:aM x=a at *;have kJ:8*D a<=140737488355328:=by omega
 have eJ:(D a)<=maxLen:=GO _ (by omega);have kq:(d=0)=False:=by simp;omega
 simp only[go_sem,go_sem_proc,eH,b5,aP,kJ,eJ,GN,al]
 refine dn [0,1,6] [] (λ((n,r,o):Nat×Int×List Int) tm mem=>n<=D a/\D o=D a/\eY o/\0<=r/\r<d/\bf (a.drop n)=d*bf (o.drop n)+r/\tm 8=.J (.int .i64 ((n:Nat)-1))/\tm 7=.J (.int .i64 r)/\mem 176011=some (0,bc ae o))
  (λ(n,_)=>n) (D a,0,dG (D a) 0) (by
   refine⟨bZ _,by simp,λd aa=>by rw[GR] at aa;omega,by omega,by omega,by simp[bf],?_,?_,?_⟩
   ·simp only[eV,reduceIte];rw[eS _]
   ·rfl
   ·rfl) ?_
 intro vs ms aV aS;simp only[go_sem,go_sem_proc,eH,b5,aP,al] at aV aS;subst aV aS;rintro⟨n,r,o⟩ tm mem O-⟨aL,bO,iJ,pO,BH,aA,cl,bP,hm⟩;simp only[go_sem,go_sem_proc,eH,ba] at O;obtain⟨ao,F,bK⟩:=O;rcases n with _|n
 ·have aT:bf o=(x/d.toNat:Nat)/\r=(x%d.toNat:Nat):=by
   rw[l1,l1,wY] at aA;have e:(d.toNat:Int)=d:=by omega
   constructor
   ·rw[afQ,e,aA,yw,afR _ _ (by omega),We pO BH];omega
   ·rw[afS,e,aA,yw,afT,Wf pO BH]
  have iw:=O4 o (by omega);rw[zL iJ,aT.1] at iw;have hh:R.ref 176011 0 1 0 (D a)=R.ref 176011 0 1 0 (D o):=by rw[bO]
  rw[hh] at bK;refine a0 ?_;repeat' (intro h<;>simp only[h,go_sem,go_sem_proc,eH,ao,F,bK,bP,cl,hm,iw,lE gX,lF,l6,show ¬ ((0:Int)-1>=0) by omega,decide_false,jX]<;>try refine aw ?_ ?_)
  all_goals rw[aT.2]
 ·have m2:a[n]?=some a[n]:=bx (by omega);have Pg:=lH tX n (by omega);have hw:((n+1:Nat):Int)-1=(n:Int):=by omega
  have h5:n<D o:=by omega
  have fz:IntKind.i64.wrap (r*2^min (DF 20) 64)=r*1048576:=by
   rw[show min (DF 20) 64=20 by decide]
   exact wrap64 _ (by omega) (by omega)
  have w4:bits .or .i64 (r*1048576) a[n]=r*1048576+a[n]:=Ur r a[n] pO (by omega) Pg;have mE:0<=(r*1048576+a[n])/d:=Wg (by omega) (by omega)
  have qG:(r*1048576+a[n])/d<1048576:=afU BG (by
   have:(r+1)*1048576<=d*1048576:=m3 (by omega) (by omega);rw[nt 1048576 d];omega)
  have vN:(r*1048576+a[n]).tdiv d=(r*1048576+a[n])/d:=GU (by omega);have w5:(r*1048576+a[n]).tmod d=(r*1048576+a[n])%d:=Le (by omega);have jE:IntKind.i64.wrap ((r*1048576+a[n])/d)=(r*1048576+a[n])/d:=wrap64 _ (by omega) (by omega);have hS:n+1<=(bc ae o).length:=by rw[qC];omega
  have gL:=λd=>yt o n d h5;have o5:n<D a:=by omega
  have k8:IntKind.i64.wrap ((n:Int)-1)=(n:Int)-1:=wrap64 _ (by omega) (by omega);refine a0 ?_;repeat' (intro h<;>simp only[h,go_sem,go_sem_proc,eH,ao,F,bK,bP,cl,hm,hw,m2,fz,w4,vN,w5,jE,k8,kq,o5,hS,gL,show (n:Int)>=0 by omega,decide_true,ae,cL,al,bl,ba,show ¬ ((20:Int)<0) by omega]<;>try refine aw ?_ ?_)
  refine⟨(n,(r*1048576+a[n])%d,o.set n ((r*1048576+a[n])/d)),by dsimp only;omega,by dsimp only;omega,by simp[bO],zY iJ n ⟨mE,qG⟩,Wh _ (by omega),Wi _ BG,?_,rfl,rfl,rfl⟩
  dsimp only;rw[im (by omega:n<D a),im (by simpa using h5:n<(o.set n ((r*1048576+a[n])/d)).length),tQ,tQ]
  simp only[zX];rw[tG (by omega),aA];have:=BF (r*1048576+a[n]) d;rw[ix,ix,Wj d 1048576];omega
def pad:Nat->Nat->List Int
 |0,_=>[]
 |n+1,x=>((x%1048576:Nat):Int)::pad n (x/1048576)
theorem ase (n x:Nat):(pad n x).length=n:=by
 induction n generalizing x with
 |zero=>rfl
 |succ n az=>simp[pad,az]
theorem asf (n x:Nat):eY (pad n x):=by
 induction n generalizing x with
 |zero=>intro d aa;cases aa
 |succ n az =>
  unfold pad;rw[DA];exact⟨by omega,az _⟩
theorem afV {l:List Int}(h:eY l):l=pad (D l) (bf l).toNat:=by
 induction l with
 |nil=>rfl
 |cons d r az =>
  rw[DA] at h;have F:=o8 h.2;have I:=az h.2;simp only[hN,pad,tQ]
  congr 1
  ·omega
  ·rw[show (d+1048576*bf r).toNat/1048576=(bf r).toNat by omega]
   exact I
theorem asg {n x:Nat}(h:x<1048576^n):bf (pad n x)=x:=by
 induction n generalizing x with
 |zero=>simp at h;subst h;rfl
 |succ n az =>
  unfold pad;rw[tQ,az (by rw[afj (by omega)];rwa [wR] at h)];omega
theorem Lf {pre u post:List Int}{i:Nat}(h:i<D u):fN 1 (fT (D pre+i) (bc ae (pre++u++post)))=[.J (.int .i64 u[i])]:=by
 rw[La _ _ (by simp;omega)]
 congr 3
 simp[List.getElem_append,h]
theorem afW {pre u post:List Int}{i:Nat}(h:i<D u)(d:Int):fN (D pre+i) (bc ae (pre++u++post))++[.J (.int .i64 d)]++fT (D pre+i+1) (bc ae (pre++u++post))=bc ae (pre++u.set i d++post):=by
 rw[yt _ _ _ (by simp;omega)]
 congr 1
 rw[gM,List.set_append_right _ _ (by omega),Gu,List.set_append_left _ _ h,gM]
theorem BI (mem:Mem)(k g c6:Nat)(a b:List R):a4 (a4 mem k g a) k c6 b=a4 mem k c6 b:=by
 funext j
 unfold a4
 split<;>rfl
theorem ash {mem:Mem}{k g:Nat}{a:List R}(h:mem k=some (g,a)):a4 mem k g a=mem:=by
 funext j
 unfold a4
 split
 ·rename_i e;rw[e,h]
 ·rfl
structure Lg where
 pre:List Int
 u:List Int
 post:List Int
 V:Nat
 q:Int
 k:Key
 g:Nat
def Ph (u:List Int)(V:Nat)(q:Int):Int:=if bf u-q*V<0 then bf u-q*V+V else bf u-q*V
def BJ (u:List Int)(V:Nat)(q:Int):Int:=if bf u-q*V<0 then q-1 else q
def BK (a:Lg):List R:=bc ae (a.pre++pad (D a.u) (Ph a.u a.V a.q).toNat++a.post)
def Wk (a:Lg)(mem:Mem):Prop:=mem a.k=some (a.g,bc ae (a.pre++a.u++a.post))/\eY a.u/\(aM a.V).length<=D a.u/\0<=a.q/\a.q<1048576/\0<=bf a.u-a.q*a.V+a.V/\D a.pre+D a.u<=100000
def Lh:List R->Mem->Option (R×Mem):=Gw (λ(a:Lg) args mem=>args=[.ref a.k a.g 1 (D a.pre) (D a.u),.J (b5 a.V),.J (.int .i64 a.q)]/\Wk a mem)
 (λa mem=>(.J (.int .i64 (BJ a.u a.V a.q)),a4 mem a.k a.g (BK a)))
theorem asi {a b:Nat}(h:b5 a=b5 b):a=b:=KH (map_inj fp _ _ (by simpa [b5] using h))
theorem asj (a:Lg)(mem:Mem)(h:Wk a mem):Lh [.ref a.k a.g 1 (D a.pre) (D a.u),.J (b5 a.V),.J (.int .i64 a.q)] mem=some (.J (.int .i64 (BJ a.u a.V a.q)),a4 mem a.k a.g (BK a)):=by
 unfold Lh;refine afe (a:=a) ?_ ⟨rfl,h⟩;rintro a b args mem ⟨F,I,_⟩ ⟨af,aO,_⟩;rw[F] at af;simp only[ba,R.ref.injEq,R.J.injEq,Data.int.injEq,true_and,and_true] at af;obtain⟨⟨K7,O5,Pj,afX⟩,afY,eq⟩:=af;have afZ:=asi afY;clear afY;obtain⟨pre,u,post,V,q,k,g⟩:=a;obtain⟨aKl,aKm,aKn,aKo,ua,k',c6⟩:=b;simp only at K7 O5 Pj afX afZ eq I aO;subst K7 O5 afZ eq;rw[aO] at I;simp only[cn,fb,true_and] at I;have e:=VU gX fp _ _ I (by omega);rw[gM,gM] at e;obtain⟨aC,aD⟩:=GK e Pj.symm;obtain⟨b9,dg⟩:=GK aD afX.symm;subst aC b9 dg
 rfl
theorem asl (p wZ vk sr c a b q:Int)(h:wZ=vk-q*sr+p*c):wZ+p*((a-c-q*b)%1048576)=vk+p*a-q*(sr+p*b)+p*1048576*(-((a-c-q*b)/1048576)):=by
 have F:=BF (a-c-q*b) 1048576
 have I:p*((a-c-q*b)%1048576)+p*1048576*((a-c-q*b)/1048576)=p*(a-c-q*b):=by
  rw[iy,<-ix,F]
 have af:p*(a-c-q*b)=p*a-p*c-p*(q*b):=by rw[GQ,GQ]
 have aO:q*(sr+p*b)=q*sr+p*(q*b):=by rw[ix,Wj]
 rw[Int.mul_neg];omega
theorem af0 {a c q b:Int}(aP:0<=a/\a<1048576)(H:0<=c/\c<=1048576)(aT:0<=q/\q<1048576)(ah:0<=b/\b<1048576):
  0<=q*b/\q*b<=1099509530625/\0 <= -((a-c-q*b)/1048576) /\ -((a-c-q*b)/1048576)<=1048576:=by
 have F:0<=q*b:=yv aT.1 ah.1;have I:q*b<=1048575*1048575:=V9 (by omega) (by omega) ah.1 (by omega);omega
theorem asm (T:bd)(a:Lg)(eC:Mem)(H:Wk a eC):
  wp T OY.body (Gv OY.res (.J (.int .i64 (BJ a.u a.V a.q))) (a4 eC a.k a.g (BK a))) ⟨km [.ref a.k a.g 1 (D a.pre) (D a.u),.J (b5 a.V),.J (.int .i64 a.q)],eC⟩:=by
 obtain⟨pre,u,post,V,q,k,g⟩:=a;obtain⟨k6,vO,TH,mE,qG,ny,hlen⟩:=H;simp only at k6 vO TH mE qG ny hlen ⊢;have z1:=m1 V;have Kw:=l4 V;have Wl:=g3.1 TH;refine qs ?_;simp only[OY];simp only[go_sem,go_sem_proc,b5];generalize ah:aM V=v at *
 refine dn [0,1,2,13] [] (λ((i,c,w):Nat×Int×List Int) tm mem=>i<=D u/\D w=D u/\eY w/\w.drop i=u.drop i/\(0<=c/\c<=1048576)/\bf (w.take i)=bf (u.take i)-q*bf (v.take i)+1048576^i*c/\tm 14=.J (.int .i64 (i:Nat))/\tm 7=.J (.int .i64 c)/\mem=a4 eC k g (bc ae (pre++w++post)))
  (λ(i,_)=>D u-i) (0,0,u) (by refine⟨fv _,rfl,vO,rfl,by omega,by simp[bf],rfl,rfl,(ash k6).symm⟩) ?_
 intro vs ms aV aS;simp only[go_sem,go_sem_proc] at aV aS;subst aV aS;rintro⟨i,c,w⟩ tm _ O-⟨M,hw,rE,qE,H,jS,w6,bP,rfl⟩;simp only[go_sem,go_sem_proc,ba] at O;obtain⟨ao,F,I,n6⟩:=O;rcases dA (i<D u) with ay|cj
 ·have yx:i<D w:=by omega
  have asn:w[i]=u[i]:=by
   have F:=im yx;rw[qE,im ay] at F;exact (w2 F).1.symm
  have BL:w.drop (i+1)=u.drop (i+1):=by
   have F:=im yx;rw[qE,im ay] at F;exact (w2 F).2.symm
  have hk:=Lf (pre:=pre) (post:=post) yx;rw[asn] at hk;have af1:=lH vO i ay;have tJ:=lG u i ay;generalize u[i]=vP at *;have fz:IntKind.i64.wrap ((i:Int)+1)=((i+1:Nat):Int):=by rw[eS _];rfl
  have jE:IntKind.i64.wrap (vP-c)=vP-c:=wrap64 _ (by omega) (by omega);have hS:(D pre)+i+1<=(bc ae (pre++w++post)).length:=by rw[qC];simp;omega
  have gL:=λd=>afW (pre:=pre) (post:=post) yx d;have jF:decide ((i:Int)<(D u:Int))=true:=di
  have fin:∀bi:Int,0<=bi->bi<1048576->bf (v.take (i+1))=bf (v.take i)+1048576^i*bi ->
    ∃bk:Nat×Int×List Int,D u-bk.1<D u-i/\bk.1<=D u/\bk.2.2.length=D u/\eY bk.2.2/\bk.2.2.drop bk.1=u.drop bk.1/\(0<=bk.2.1/\bk.2.1<=1048576)/\bf (bk.2.2.take bk.1)=bf (u.take bk.1)-q*bf (v.take bk.1)+1048576^bk.1*bk.2.1 /\
     R.J (Data.int .i64 ((i+1:Nat):Int))=R.J (Data.int .i64 (bk.1:Int))/\R.J (Data.int .i64 (-((vP-c-q*bi)/1048576)))=R.J (Data.int .i64 bk.2.1)/\a4 eC k g (bc ae (pre++w.set i ((vP-c-q*bi)%1048576)++post))=a4 eC k g (bc ae (pre++bk.2.2++post)):=by
   intro bi sJ kJ DX;obtain⟨dN,cO,n7,qF⟩:=af0 af1 H ⟨mE,qG⟩ ⟨sJ,kJ⟩;refine⟨(i+1,-((vP-c-q*bi)/1048576),w.set i ((vP-c-q*bi)%1048576)),by dsimp only;omega,by dsimp only;omega,by simp[hw],zY rE i (by omega),?_,⟨n7,qF⟩,?_,rfl,rfl,rfl⟩
   ·dsimp only;rw[tG (by omega),BL]
   ·dsimp only;rw[lG _ _ (by simpa using yx),DV,tJ,DX,ns];simp only[zX];exact asl _ _ _ _ _ _ _ _ jS
  rcases dA (i<D v) with rD|V3
  ·have nw:v[i]?=some v[i]:=bx rD;have vK:=lH z1 i rD;have Wm:=lG v i rD;generalize v[i]=bi at *;obtain⟨dN,cO,n7,qF⟩:=af0 af1 H ⟨mE,qG⟩ vK;have k8:IntKind.i64.wrap (q*bi)=q*bi:=wrap64 _ (by omega) (by omega);have z0:IntKind.i64.wrap (vP-c-q*bi)=vP-c-q*bi:=wrap64 _ (by omega) (by omega);have vM:IntKind.i64.wrap (0-(vP-c-q*bi)/1048576) = -((vP-c-q*bi)/1048576):=by rw[eS _];omega
   have iz:decide ((i:Int)<(D v:Int))=true:=di;simp only[go_sem,go_sem_proc,ao,F,I,n6,w6,bP,nw,fz,jE,k8,z0,vM,iz,jF,ay,hS,hk,gL,BI,rB,oI,ae,cL,al,bl,ba,show ¬ ((20:Int)<0) by omega]
   repeat' (first|refine aw ?_ ?_|fail)<;>intro h<;>simp only[h,go_sem,go_sem_proc,ao,F,I,n6,w6,bP,nw,fz,jE,k8,z0,vM,iz,jF,ay,hS,hk,gL,BI,rB,oI,ae,cL,al,bl,ba,show ¬ ((20:Int)<0) by omega]
   exact fin bi vK.1 vK.2 Wm
  ·have iz:decide ((i:Int)<(D v:Int))=false:=c9;have vM:IntKind.i64.wrap (0-(vP-c)/1048576) = -((vP-c)/1048576):=by rw[eS _];omega
   simp only[go_sem,go_sem_proc,ao,F,I,n6,w6,bP,fz,jE,vM,iz,jF,ay,hS,hk,gL,BI,rB,oI,ae,cL,al,bl,ba,show ¬ ((20:Int)<0) by omega]
   repeat' (first|refine aw ?_ ?_|fail)<;>intro h<;>simp only[h,go_sem,go_sem_proc,ao,F,I,n6,w6,bP,fz,jE,vM,iz,jF,ay,hS,hk,gL,BI,rB,oI,ae,cL,al,bl,ba,show ¬ ((20:Int)<0) by omega]
   have:=fin 0 (by omega) (by omega) (by rw[dy (by omega),dy (by omega)];simp);simp only[ub,Ld] at this;exact this
 ·obtain rfl:i=D u:=by omega
  have jF:decide ((D u:Int)<(D u:Int))=false:=c9;rw[dy (by omega),dy (by omega),dy (by omega),Kw] at jS;have aso:=zK rE;have aKp:=o8 rE;rw[hw] at aso
  have aKq:(V:Int)<1048576^(D u):=by
   have h:=Int.ofNat_lt.2 Wl;rw[DZ] at h;exact h
  by_cases nx:c=0
  ·subst nx;have Wn:bf u-q*V=bf w:=by omega
   have aC:BJ u V q=q:=by unfold BJ;rw[ag (by omega)]
   have aD:BK ⟨pre,u,post,V,q,k,g⟩=bc ae (pre++w++post):=by
    unfold BK Ph;simp only;rw[ag (by omega),Wn,<-hw,<-afV rE]
   simp only[go_sem,go_sem_proc,ao,F,I,n6,w6,bP,jF,aC,aD,beq_self_eq_true];repeat' (first|refine aw ?_ ?_|fail)<;>intro h<;>simp only[h,go_sem,go_sem_proc,ao,F,I,n6,w6,bP,jF,aC,aD,beq_self_eq_true]
  ·have Wo:(c==0)=false:=by simpa using nx
   have iK:(1048576:Int)^(D u)<=1048576^(D u)*c:=by
    have:(1048576:Int)^(D u)*1<=1048576^(D u)*c:=zW (by omega) (by omega);omega
   have kM:bf u-q*V<0:=by omega
   have Pk:IntKind.i64.wrap (q-1)=q-1:=wrap64 _ (by omega) (by omega);simp only[go_sem,go_sem_proc,ao,F,I,n6,w6,bP,jF,Wo]
   refine dn [0,1,2,48] [] (λ((i,d,z):Nat×Int×List Int) tm mem=>i<=D u/\D z=D u/\eY z/\z.drop i=w.drop i/\(0<=d/\d<=1)/\bf (z.take i)+1048576^i*d=bf (w.take i)+bf (v.take i)/\tm 49=.J (.int .i64 (i:Nat))/\tm 10=.J (.int .i64 d)/\mem=a4 eC k g (bc ae (pre++z++post)))
    (λ(i,_)=>D u-i) (0,0,w) (by refine⟨fv _,hw,rE,rfl,by omega,by simp[bf],rfl,rfl,rfl⟩) ?_
   intro vs ms aV aS;simp only[go_sem,go_sem_proc,ao,F,I] at aV aS;subst aV aS;rintro⟨i,d,z⟩ tm _ O-⟨M,aX,z2,qE,aa,af2,GV,gq,rfl⟩;simp only[go_sem,go_sem_proc,ba] at O;obtain⟨ao,F,I,GW⟩:=O;rcases dA (i<D u) with ay|cj
   ·have Li:i<D z:=by omega
    have yx:i<D w:=by omega
    have asp:z[i]=w[i]:=by
     have F:=im Li;rw[qE,im yx] at F;exact (w2 F).1.symm
    have Pl:z.drop (i+1)=w.drop (i+1):=by
     have F:=im Li;rw[qE,im yx] at F;exact (w2 F).2.symm
    have hk:=Lf (pre:=pre) (post:=post) Li;rw[asp] at hk;have BM:=lH rE i yx;have tJ:=lG w i yx;generalize w[i]=BN at *;have fz:IntKind.i64.wrap ((i:Int)+1)=((i+1:Nat):Int):=by rw[eS _];rfl
    have jE:IntKind.i64.wrap (d+BN)=d+BN:=wrap64 _ (by omega) (by omega);have hS:(D pre)+i+1<=(bc ae (pre++z++post)).length:=by rw[qC];simp;omega
    have gL:=λd=>afW (pre:=pre) (post:=post) Li d;have jF:decide ((i:Int)<(D u:Int))=true:=di
    have fin:∀bi:Int,0<=bi->bi<1048576->bf (v.take (i+1))=bf (v.take i)+1048576^i*bi ->
      ∃bk:Nat×Int×List Int,D u-bk.1<D u-i/\bk.1<=D u/\bk.2.2.length=D u/\eY bk.2.2/\bk.2.2.drop bk.1=w.drop bk.1/\(0<=bk.2.1/\bk.2.1<=1)/\bf (bk.2.2.take bk.1)+1048576^bk.1*bk.2.1=bf (w.take bk.1)+bf (v.take bk.1) /\
       R.J (Data.int .i64 ((i+1:Nat):Int))=R.J (Data.int .i64 (bk.1:Int))/\R.J (Data.int .i64 ((d+BN+bi)/1048576))=R.J (Data.int .i64 bk.2.1)/\a4 eC k g (bc ae (pre++z.set i ((d+BN+bi)%1048576)++post))=a4 eC k g (bc ae (pre++bk.2.2++post)):=by
     intro bi sJ kJ DX;refine⟨(i+1,(d+BN+bi)/1048576,z.set i ((d+BN+bi)%1048576)),by dsimp only;omega,by dsimp only;omega,by simp[aX],zY z2 i (by omega),?_,by dsimp only;omega,?_,rfl,rfl,rfl⟩
     ·dsimp only;rw[tG (by omega),Pl]
     ·dsimp only;rw[lG _ _ (by simpa using Li),DV,tJ,DX,ns];simp only[zX];exact afD _ _ _ _ _ _ _ af2
    rcases dA (i<D v) with rD|V3
    ·have nw:v[i]?=some v[i]:=bx rD;have vK:=lH z1 i rD;have Wm:=lG v i rD;generalize v[i]=bi at *;have k8:IntKind.i64.wrap (d+BN+bi)=d+BN+bi:=wrap64 _ (by omega) (by omega);have iz:decide ((i:Int)<(D v:Int))=true:=di;simp only[go_sem,go_sem_proc,ao,F,I,GW,GV,gq,nw,fz,jE,k8,iz,jF,ay,hS,hk,gL,BI,rB,oI,ae,cL,al,bl,ba,show ¬ ((20:Int)<0) by omega]
     repeat' (first|refine aw ?_ ?_|fail)<;>intro h<;>simp only[h,go_sem,go_sem_proc,ao,F,I,GW,GV,gq,nw,fz,jE,k8,iz,jF,ay,hS,hk,gL,BI,rB,oI,ae,cL,al,bl,ba,show ¬ ((20:Int)<0) by omega]
     exact fin bi vK.1 vK.2 Wm
    ·have iz:decide ((i:Int)<(D v:Int))=false:=c9;simp only[go_sem,go_sem_proc,ao,F,I,GW,GV,gq,fz,jE,iz,jF,ay,hS,hk,gL,BI,rB,oI,ae,cL,al,bl,ba,show ¬ ((20:Int)<0) by omega]
     repeat' (first|refine aw ?_ ?_|fail)<;>intro h<;>simp only[h,go_sem,go_sem_proc,ao,F,I,GW,GV,gq,fz,jE,iz,jF,ay,hS,hk,gL,BI,rB,oI,ae,cL,al,bl,ba,show ¬ ((20:Int)<0) by omega]
     have:=fin 0 (by omega) (by omega) (by rw[dy (by omega),dy (by omega)];simp);simp only[sL] at this;exact this
   ·obtain rfl:i=D u:=by omega
    have jF:decide ((D u:Int)<(D u:Int))=false:=c9;rw[dy (by omega),dy (by omega),dy (by omega),Kw] at af2;have asq:=zK z2;have aKr:=o8 z2;rw[aX] at asq
    have Wn:bf u-q*V+V=bf z:=by
     have e:bf u-q*V+V-bf z=1048576^(D u)*(d-c):=by rw[GQ];omega
     generalize (1048576:Int)^(D u)=p at *;rcases yy (d-c) 0 with h|h|h
     ·have:p*(d-c)<=p*(-1):=zW (by omega) (by omega);omega
     ·rw[h,ub] at e;omega
     ·have:p*1<=p*(d-c):=zW (by omega) (by omega);omega
    have aC:BJ u V q=q-1:=by unfold BJ;rw[ad kM]
    have aD:BK ⟨pre,u,post,V,q,k,g⟩=bc ae (pre++z++post):=by
     unfold BK Ph;simp only;rw[ad kM,Wn,<-aX,<-afV z2]
    simp only[go_sem,go_sem_proc,ao,F,I,GW,GV,gq,jF,aC,aD,Pk];repeat' (first|refine aw ?_ ?_|fail)<;>intro h<;>simp only[h,go_sem,go_sem_proc,ao,F,I,GW,GV,gq,jF,aC,aD,Pk]
theorem asr {T V P yz GX v1 v2 top kI q r:Int}(rA:V=(v1*1048576+v2)*P+yz)(cQ:T=(top*1048576+kI)*P+GX)(gr:0<P)(af3:0<=yz)(Pm:GX<P)(mE:0<=q)(ass:0<=V)
  (Wp:T<1048576*V) (D0:q*v1+r=top) (H:q>=1048576\/q*v2>r*1048576+kI):T<q*V:=by
 rcases H with h|h
 ·have:=m3 h ass;omega
 ·have F:(top*1048576+kI+1)*P<=(q*(v1*1048576+v2))*P:=by
   refine m3 ?_ (by omega);rw[ix,<-iy];have:q*v1*1048576=(top-r)*1048576:=by rw[<-D0];congr 1;omega
   omega
  have I:q*V=(q*(v1*1048576+v2))*P+q*yz:=by rw[rA,ix,<-iy]
  have af:0<=q*yz:=yv mE af3;rw[tZ _ 1,n8] at F;omega
theorem af4 {T V P yz GX v1 v2 top kI q r:Int}(rA:V=(v1*1048576+v2)*P+yz)(cQ:T=(top*1048576+kI)*P+GX)(gr:0<P)(af3:0<=yz/\yz<P)(Pm:0<=GX)(mE:0<=q)(qG:q<1048576)(o2:524288<=v1)(nX:0<=v2/\v2<1048576)(adZ:0<=kI)
  (D0:q*v1+r=top) (H:r>=1048576\/q*v2<=r*1048576+kI):0<=T-q*V+V:=by
 have I:q*V=(q*(v1*1048576+v2))*P+q*yz:=by rw[rA,ix,<-iy]
 have af:q*yz<=q*P:=zW (by omega) mE;have aO:q*P<=1048576*P:=m3 (by omega) (by omega);have bm:1048576*P<=(v1*1048576+v2)*P:=m3 (by omega) (by omega);have e:q*v1*1048576=(top-r)*1048576:=by rw[<-D0];congr 1;omega
 rcases H with h|h
 ·have bK:q*v2+q<=1048576*1048576:=by
   have bP:q*(v2+1)<=1048576*1048576:=V9 (by omega) (by omega) (by omega) (by omega);rw[ix,vI] at bP;exact bP
  have cl:(q*(v1*1048576+v2)+q)*P<=(top*1048576+kI)*P:=by
   refine m3 ?_ (by omega);rw[ix,<-iy];omega
  rw[tZ _ q] at cl;omega
 ·have cl:(q*(v1*1048576+v2))*P<=(top*1048576+kI)*P:=by
   refine m3 ?_ (by omega);rw[ix,<-iy];omega
  omega
theorem ast {T V q:Int}(rA:0<V)(F:T<(q+1)*V)(I:0<=T-q*V+V):(if T-q*V<0 then q-1 else q)=T/V/\(if T-q*V<0 then T-q*V+V else T-q*V)=T%V:=by
 have af:(q+1)*V=q*V+V:=by rw[tZ,n8]
 have aO:(q-1)*V=q*V-V:=by rw[af5,n8]
 have key:∀d r:Int,T=d*V+r->0<=r->r<V->d=T/V/\r=T%V:=by
  intro d r h ao bm
  constructor
  ·rw[h,yw,Int.add_mul_ediv_right _ _ (by omega),We ao bm];omega
  ·rw[h,yw,Int.add_mul_emod_self_right,Wf ao bm]
 split
 ·exact key (q-1) _ (by omega) (by omega) (by omega)
 ·exact key q _ (by omega) (by omega) (by omega)
theorem af6 {v:List Int}{N:Nat}(h:(D v)=N+2):bf v=(v[N+1]*1048576+v[N])*1048576^N+bf (v.take N):=by
 have e:v=v.take (N+1+1):=by rw[dy (by omega)]
 conv=>lhs;rw[e]
 rw[lG v (N+1) (by omega),lG v N (by omega),ns,tZ,nt (v[N]),BO (v[N+1]),nt (v[N+1])];have:(1048576:Int)^N*1048576*v[N+1]=1048576^N*v[N+1]*1048576:=by rw[BO]
 omega
theorem asu {v:List Int}{N:Nat}(h:(D v)=N+3):bf v=((v[N+2]*1048576+v[N+1])*1048576+v[N])*1048576^N+bf (v.take N):=by
 have e:v=v.take (N+1+1+1):=by rw[dy (by omega)]
 conv=>lhs;rw[e]
 rw[lG v (N+1+1) (by omega),lG v (N+1) (by omega),lG v N (by omega)];simp only[ns];generalize (1048576:Int)^N=p;rw[tZ,tZ,tZ,BO (v[N+2]*1048576),BO (v[N+2]),nt (v[N+2]),BO (v[N+1]),nt (v[N+1]),nt (v[N])];have F:p*1048576*v[N+1]=p*v[N+1]*1048576:=by rw[BO]
 have I:p*1048576*1048576*v[N+1+1]=p*v[N+2]*1048576*1048576:=by rw[BO,BO p]
 omega
theorem asv {u:List Int}{i n:Nat}{V:Int}(aa:eY u)(ar:i+n+1<=D u)(gE:bf (u.drop (i+1))<V)(rA:V<1048576^n):
  ∃pre ga post,u=pre++ga++post/\D pre=i/\D ga=n+1/\eY pre/\eY ga/\eY post/\bf post=0/\∃en,ga[0]?=some en/\u.take (i+1)=pre++[en]/\bf ga=en+1048576*bf (u.drop (i+1))/\0<=bf (u.drop (i+1))/\0<=en/\en<1048576:=by
 have e:u=u.take i++(u.drop i).take (n+1)++u.drop (i+n+1):=by
  rw[gM,qn,<-Gk,sx,sx]
 have af7:=e ▸ aa;rw[DB,DB] at af7;obtain⟨⟨d1,d2⟩,d3⟩:=af7;have ay:i<D u:=by omega
 have qE:=im ay;have Lj:((u.drop i).take (n+1)).length=n+1:=by simp;omega
 have af8:bf (u.drop (i+1))=bf ((u.drop (i+1)).take n)+1048576^n*bf (u.drop (i+n+1)):=by
  have:=KI (u.drop (i+1)) n;rw[ry,oE (by omega),Gk] at this;rw[this]
  congr 3
  rw[show i+1+n=i+n+1 by omega]
 have aF:=o8 d3;have bF:0<=bf ((u.drop (i+1)).take n):=o8 (λx Q=>aa x (Lk (F7 Q)))
 have pb:bf (u.drop (i+n+1))=0:=by
  rcases dA (0<bf (u.drop (i+n+1))) with h|h
  ·have:(1048576:Int)^n*1<=1048576^n*bf (u.drop (i+n+1)):=zW (by omega) (Int.pow_nonneg (by omega));omega
  ·omega
 refine⟨_,_,_,e,by simp;omega,Lj,d1,d2,d3,pb,u[i],?_,?_,?_,?_,(lH aa i ay).1,(lH aa i ay).2⟩
 ·rw[pL (by omega),lv];simp[ay]
 ·rw[hv,bx ay];rfl
 ·rw[qE,wP,tQ,af8,pb];simp
 ·rw[af8,pb];simpa using bF
theorem asw (l:List Int)(h:(D l)<=1000000):mx 157054 0 1 (D l) 8 1 [.J (.int .i64 0)] (some (0,((l.map ae).flatten.map R.J)))=some (.ref 157054 1 1 0 (D l+1),some (157054,1,bc ae (l++[0]))) :=
 l3 gX tR 157054 0 8 l 0 rfl (by omega) (by omega)
def Pn:=ck vJ λ(x,y)=>cR ((aM x).length<=1000/\(aM y).length<=1000/\0<y) (.same (.cI [b5 (x/y),b5 (x%y)]))
@[go_sem] theorem af9 (x:Nat)(y:Nat)(H:(aM x).length<=1000/\(aM y).length<=1000/\0<y):Pn [b5 x,b5 y]=some (.same (.cI [b5 (x/y),b5 (x%y)])):=(cx yu (x,y)).trans (cW H _)
theorem asx (T:bd)(gg:T DK=aW Lb)(eN:T sG=aW zT)(la:T OQ=aW Wd)(eH:T qA=zI zR vG)(jG:T Gy=aW Pf)(lb:T UK=Bt Lh)(x:Nat)(y:Nat)(H:(aM x).length<=1000/\(aM y).length<=1000/\0<y):WP T Vt (.same (.cI [b5 (x/y),b5 (x%y)])) [.J (b5 x),.J (b5 y)]:=by
 refine cy ?_;simp only[Vt];obtain⟨Q,av,iY⟩:=H;have ht:(aM x).length<=1000000/\(aM y).length<=1000000:=by omega
 have hI:=V0 x y ht;have tu:(aM x).length<=1000000:=by omega
 by_cases jk:x<y
 ·have pc:hH x y = -1:=by unfold hH;rw[ad (by simpa using jk)]
  have dq:=VY (aM x) tu;rw[pc] at hI
  change zT [b5 x]=_ at dq
  simp only[go_sem,go_sem_proc,gg,eN,la,eH,jG,lb,hI,dq,show ((-1:Int)<0) by omega,decide_true]
  repeat' (first|refine aw ?_ ?_|fail)<;>intro h<;>simp only[h,go_sem,go_sem_proc,gg,eN,la,eH,jG,lb,hI,dq,show ((-1:Int)<0) by omega,decide_true]
  rw[Ug jk,KE jk]
  try rfl
 ·have pc:decide (hH x y<0)=false:=by
   unfold hH;rw[ag (by simp;omega)]
   split<;>rfl
  have aKs:aM y≠[]:=by rw[Ne,zJ];omega
  by_cases F:y<1048576
  ·have rC:=DE iY F;have jV:=afP x y ⟨by omega,by omega,by omega⟩
   have a1:=O4 [((x%y:Nat):Int)] (by simp);have ay:x%y<y:=Nat.mod_lt _ iY;rw[jX] at jV
   have vN:fL [((x%y:Nat):Int)]=aM (x%y):=by
    generalize x%y=r at ay ⊢;rw[zL (by intro d aa;rw[uc] at aa;omega)];simp only[bf]
    congr 1
   rw[vN] at a1;have GY:b5 y=.Y [[.int .i64 y]]:=by unfold b5;rw[rC];rfl
   change zR [.Y [[.int .i64 _]]]=_ at a1
   rw[GY] at hI;simp only[go_sem,go_sem_proc,gg,eN,la,eH,jG,lb,GY,hI,pc,jV,a1,show (((1:Nat):Int)==1)=true from rfl];repeat' (first|refine aw ?_ ?_|fail)<;>intro h<;>simp only[h,go_sem,go_sem_proc,gg,eN,la,eH,jG,lb,GY,hI,pc,jV,a1,show (((1:Nat):Int)==1)=true from rfl]
   try rfl
  ·obtain⟨N,gF⟩:∃N,(aM y).length=N+2:=by
    have:=mt (g3 (n:=y) (k:=1)).1 (by simpa using F);exact⟨(aM y).length-2,by omega⟩
   have rC:=m1 y;have k9:(((aM y).length:Int)==1)=false:=by simp;omega
   have Lj:IntKind.i64.wrap (((aM y).length:Int)-1)=((N+1:Nat):Int):=by rw[eS _];omega
   have iW:(aM y)[N+1]?=some (aM y)[N+1]:=bx (by omega);have aga:=lH rC (N+1) (by omega)
   have aKt:(aM y)[N+1]≠0:=by
    intro h;have:=afi y;rw[List.getLast?_eq_getElem?,gF] at this;exact this (by rw[show N+2-1=N+1 by omega,iW,h])
   have Wq:=af6 gF;rw[l4] at Wq;have asy:=zK (zV rC N);have aKu:=o8 (zV rC N);have aKv:=lH rC N (by omega);rw[gf,oE (by omega)] at asy;generalize (aM y)[N+1]=dh at *;generalize (aM y)[N]=sB at *;generalize bf ((aM y).take N)=Wr at *;have Ws:((aM y).map ae)[N+1]?=some [.int .i64 dh]:=by rw[bl,iW];rfl
   simp only[go_sem,go_sem_proc,gg,eN,la,eH,jG,lb,b5,hI,pc,k9,al];have agb:=hI;unfold b5 at agb;simp only[go_sem,go_sem_proc,gg,eN,la,eH,jG,lb,agb,pc,k9,al];refine dn [0,1] [157054,157075] (λ(κ:Nat) tm mem=>dh*2^κ<1048576/\tm 8=.J (.int .i64 (2^κ))) (λκ=>20-κ) 0 (by refine⟨by omega,rfl⟩) ?_;intro vs ms aV aS;simp only[go_sem,go_sem_proc,gg,eN,la,eH,jG,lb,al] at aV aS;subst aV aS;rintro κ tm mem O hm ⟨aKw,cl⟩;simp only[go_sem,go_sem_proc,gg,eN,la,eH,jG,lb,ba] at O hm;obtain⟨ao,yk⟩:=O;obtain⟨GZ,nz⟩:=hm;have aKx:(0:Int)<2^κ:=G0 (by omega)
   have aKy:(2:Int)^κ<=dh*2^κ:=by
    have:1*(2:Int)^κ<=dh*2^κ:=m3 (by omega) (by omega);omega
   have hκ:κ<20:=by
    rcases il κ 20 with h|h
    ·exact h
    ·have:(2:Int)^20<=2^κ:=by
      have:=w7 (n:=2) (by omega) h;have cG:=Int.ofNat_le.2 this;rwa [DZ,DZ] at cG
     omega
   have G6:IntKind.i64.wrap (dh*2^κ)=dh*2^κ:=wrap64 _ (by omega) (by omega);have agc:IntKind.i64.wrap (2^κ*2)=2^κ*2:=wrap64 _ (by omega) (by omega);rcases dA (dh*2^κ<524288) with ay|cj
   ·simp only[go_sem,go_sem_proc,gg,eN,la,eH,jG,lb,ao,yk,cl,Lj,Ws,G6,agc,ay,GZ,nz,decide_true,cL,al];repeat' (first|refine aw ?_ ?_|fail)<;>intro h<;>simp only[h,go_sem,go_sem_proc,gg,eN,la,eH,jG,lb,ao,yk,cl,Lj,Ws,G6,agc,ay,GZ,nz,decide_true,cL,al]
    exact⟨κ+1,by omega,by rw[ns,<-iy];omega,by rw[ns]⟩
   ·-- the numbers, shifted
    have asz:(dh+1)*2^κ<=1048576:=by
     have e:(1048576:Int)=2^(20-κ)*2^κ:=by rw[<-afO,show 20-κ+κ=20 by omega];rfl
     have F:dh<2^(20-κ):=by
      rcases dA (dh<2^(20-κ)) with h|h
      ·exact h
      ·have:(2:Int)^(20-κ)*2^κ<=dh*2^κ:=m3 (by omega) (by omega);omega
     rw[e];exact m3 (by omega) (by omega)
    generalize (2:Int)^κ=s at *;obtain⟨S,rfl⟩:∃S:Nat,s=S:=⟨s.toNat,by omega⟩
    have gr:(0:Int)<1048576^N:=G0 (by omega);have D3:0<S:=by omega
    have Wl:y*S<1048576^(N+2):=by
     have F:((y*S:Nat):Int)<1048576^(N+2):=by
      rw[agd,Wq,ns,ns];generalize (1048576:Int)^N=p at *
      have aC:((dh*1048576+sB)*p+Wr)*S<=((dh+1)*1048576*p)*S:=by
       refine m3 ?_ (by omega);have:(dh*1048576+sB+1)*p<=((dh+1)*1048576)*p:=m3 (by omega) (by omega);rw[tZ _ 1] at this;omega
      have age:((dh*1048576+sB)*p+Wr)*S<((dh+1)*1048576*p)*S:=by
       refine Int.mul_lt_mul_of_pos_right ?_ (by omega);have:(dh*1048576+sB+1)*p<=((dh+1)*1048576)*p:=m3 (by omega) (by omega);rw[tZ _ 1] at this;omega
      have aD:((dh+1)*1048576*p)*S=((dh+1)*S)*(p*1048576):=by
       rw[iy (dh+1),iy,nt (1048576*p),<-iy,nt 1048576 p]
      have b9:((dh+1)*S)*(p*1048576)<=1048576*(p*1048576):=m3 asz (by omega);omega
     have I:((1048576^(N+2):Nat):Int)=1048576^(N+2):=by rw[DZ];rfl
     omega
    have aKz:524288*(1048576^N*1048576)<=((y*S:Nat):Int):=by
     rw[agd,Wq];generalize (1048576:Int)^N=p at *
     have aC:(dh*1048576)*p*S<=((dh*1048576+sB)*p+Wr)*S:=by
      refine m3 ?_ (by omega);have:(dh*1048576)*p<=(dh*1048576+sB)*p:=m3 (by omega) (by omega);omega
     have aD:(dh*1048576)*p*S=(dh*S)*(p*1048576):=by
      rw[iy dh,iy,nt (1048576*p),<-iy,nt 1048576 p]
     have b9:524288*(p*1048576)<=(dh*S)*(p*1048576):=m3 (by omega) (by omega);omega
    have D4:(aM (y*S)).length=N+2:=by
     have F:=g3.2 Wl
     have I:=mt (g3 (n:=y*S) (k:=N+1)).1 (by
      have I:((1048576^(N+1):Nat):Int)=1048576^N*1048576:=by rw[DZ,ns];rfl
      omega)
     omega
    have aKA:1*x<=x*S:=by rw[rz];exact agf x D3
    have aKB:(aM x).length<=(aM (x*S)).length:=by
     rw[g3];have:=g3.1 (bZ (aM (x*S)).length);omega
    have aKC:y*S<=x*S:=Nat.mul_le_mul_right S (by omega)
    have aKD:N+2<=(aM (x*S)).length:=by
     rw[<-D4,g3];have:=g3.1 (bZ (aM (x*S)).length);omega
    have aKE:(aM (x*S)).length<=1001:=by
     have:∀k,(aM x).length<=k->(aM (x*S)).length<=k+1:=by
      intro k O;rw[g3];have F:=g3.1 O;rw[wR];exact Nat.lt_of_lt_of_le (Nat.mul_lt_mul_of_pos_right F D3) (agf _ (by omega))
     exact this 1000 Q
    have gV:=Wa x S ⟨by omega,by rw[DE D3 (by omega)];simp⟩
    have Wt:=Wa y S ⟨by omega,by rw[DE D3 (by omega)];simp⟩
    have asA:b5 S=.Y [[.int .i64 (S:Int)]]:=by unfold b5;rw[DE D3 (by omega)];rfl
    rw[asA] at gV Wt;simp only[b5] at gV Wt;have dC:=asw (aM (x*S)) (by omega);have asB:((((aM (x*S)).length+1:Nat):Int)==((aM x).length:Int))=false:=by simp;omega
    have asC:=l4 (y*S);have Po:=m1 (y*S);have asD:=l4 (x*S);have agh:=m1 (x*S);have asE:b5 (y*S)=.Y ((aM (y*S)).map ae):=rfl;generalize asF:aM (y*S)=v at *;generalize aKF:aM (x*S)=l7 at *;have Pk:IntKind.i64.wrap (((D l7+1:Nat):Int)-(D v:Int))=((D l7-N-1:Nat):Int):=by rw[eS _];omega
    have qG:8*(D l7-N-1)<=140737488355328:=by omega
    have BP:(D l7)-N-1<=maxLen:=GO _ (by omega);have BQ:decide (dh*(S:Int)<524288)=false:=mq cj;simp only[go_sem,go_sem_proc,gg,eN,la,eH,jG,lb,ao,yk,cl,GZ,nz,Lj,Ws,G6,BQ,gV,Wt,dC,asB,Pk,qG,BP,GN,cL,al];have m4:(D l7)-N-1+(N+2)=D l7+1:=by omega
    generalize aKG:(D l7)-N-1=bh at *;have gu:(D l7)=bh+N+1:=by omega
    have vQ:=af6 D4;rw[asC] at vQ;have Wu:=zK (zV Po N);have Wv:=o8 (zV Po N);rw[gf,oE (by omega)] at Wu;have asG:v[N+1]?=some v[N+1]:=bx (by omega);have Pp:v[N]?=some v[N]:=bx (by omega);have BH:=lH Po (N+1) (by omega);have pO:=lH Po N (by omega);generalize v[N+1]=v1 at *;generalize v[N]=v0 at *;generalize bf (v.take N)=vlow at *
    have o2:524288<=v1:=by
     generalize (1048576:Int)^N=p at *;rcases dA (524288<=v1) with h|h
     ·exact h
     ·have I:(v1*1048576+v0+1)*p<=(524288*1048576)*p:=m3 (by omega) (by omega);rw[tZ _ 1,n8] at I;omega
    have asH:((y*S:Nat):Int)<1048576^(N+2):=by
     have I:((1048576^(N+2):Nat):Int)=1048576^(N+2):=by rw[DZ];rfl
     omega
    have Ww:0<((y*S:Nat):Int):=by
     have:0<1048576^N*(1048576:Int):=Int.mul_pos gr (by omega);omega
    have asI:bf ((l7++[0]).drop bh)<((y*S:Nat):Int):=by
     have e:(l7++[0]).drop bh=l7.drop bh++[0]:=by rw[List.drop_append_of_le_length (by omega)]
     rw[e,DD];have F:=zK (λd aa=>agh d (Lk aa):eY (l7.drop bh));rw[ry,show (D l7)-bh=N+1 by omega,ns] at F
     simp only[bf];omega
    have asJ:((x*S:Nat):Int)=bf ((l7++[0]).take bh)+1048576^bh*bf ((l7++[0]).drop bh):=by
     have:=KI (l7++[0]) bh;rw[DD,asD,oE (by simp;omega)] at this
     simpa [bf] using this
    generalize agi:y*S=hc at *;generalize agj:x*S=G7 at *
    refine dn [8,9,10,11,12] [] (λ((j,u,eB):Nat×List Int×List Int) tm mem=>j<=bh/\D u=D l7+1/\eY u/\D eB=bh/\eY eB/\bf (u.drop j)<hc/\(G7:Int)=bf (u.take j)+1048576^j*(hc*bf (eB.drop j)+bf (u.drop j)) /\
      tm 13=.J (.int .i64 ((j:Nat)-1))/\mem 157054=some (1,bc ae u)/\mem 157075=some (0,bc ae eB)) (λ(j,_)=>j) (bh,l7++[0],dG bh 0)
     (by
      refine⟨bZ _,by simp,DB.2 ⟨agh,by intro d aa;rw[uc] at aa;omega⟩,by simp,λd aa=>by rw[GR] at aa;omega,asI,?_,?_,rfl,rfl⟩
      ·rw[List.drop_of_length_le (by simp)];simp only[bf,ub,DY];exact asJ
      ·simp only[eV,reduceIte];rw[eS _]) ?_
    intro vs ms aV aS;simp only[go_sem,go_sem_proc,gg,eN,la,eH,jG,lb,ao,yk,cl] at aV aS;subst aV aS;rintro⟨j,u,eB⟩ tm mem O-⟨ai,z3,vO,Pq,Wx,gE,pd,n6,G8,Pr⟩;simp only[go_sem,go_sem_proc,gg,eN,la,eH,jG,lb,ba] at O;obtain⟨cl,jn,gq,zU,h8⟩:=O;rcases j with _|j
    ·rw[l1,l1] at pd;rw[l1] at gE;simp only[m0,bf,Int.pow_zero,n8,DY] at pd;have aKH:=o8 Wx;have yA:=o8 vO
     have Wy:bf eB=((x/y:Nat):Int)/\bf u=((x%y*S:Nat):Int):=by
      have F:G7/hc=x/y:=by rw[<-agj,<-agi];exact Nat.mul_div_mul_right x y D3
      have I:G7%hc=x%y*S:=by rw[<-agj,<-agi];exact Nat.mul_mod_mul_right S x y
      have af:((G7/hc:Nat):Int)=bf eB:=by rw[afQ,pd,yw,afR _ _ (by omega),We yA gE];omega
      have aO:((G7%hc:Nat):Int)=bf u:=by rw[afS,pd,yw,afT,Wf yA gE]
      rw[F] at af;rw[I] at aO;exact⟨af.symm,aO.symm⟩
     have Wz:=O4 u (by omega);rw[zL vO,Wy.2,jX] at Wz;have WA:=O4 eB (by omega);rw[zL Wx,Wy.1,jX] at WA
     have hlen:(aM (x%y*S)).length<=100000:=by
      have:(aM (x%y*S)).length<=D u:=by
       have:=afz u;rw[zL vO,Wy.2,jX] at this;exact this
      omega
     have jV:=afP (x%y*S) S ⟨hlen,by omega,by omega⟩
     rw[jX,Nat.mul_div_cancel _ D3] at jV;simp only[b5] at jV;have e0:R.ref 157054 1 1 0 (D l7+1)=R.ref 157054 1 1 0 (D u):=by rw[z3]
     have gh:R.ref 157075 0 1 0 bh=R.ref 157075 0 1 0 (D eB):=by rw[Pq]
     rw[e0] at jn;rw[gh] at h8;simp only[go_sem,go_sem_proc,gg,eN,la,eH,jG,lb,cl,jn,gq,zU,h8,n6,G8,Pr,Wz,WA,jV,lE gX,b5,lF,l6,show ¬ ((0:Int)-1>=0) by omega,decide_false]
     repeat' (first|refine aw ?_ ?_|fail)<;>intro h<;>simp only[h,go_sem,go_sem_proc,gg,eN,la,eH,jG,lb,cl,jn,gq,zU,h8,n6,G8,Pr,Wz,WA,jV,lE gX,b5,lF,l6,show ¬ ((0:Int)-1>=0) by omega,decide_false]
    ·obtain⟨pre,ga,post,e,BR,agk,WB,rE,asK,asL,en,z4,fY,aKI,asM,aKJ,aKK⟩:=asv (i:=j) (n:=N+2) vO (by omega) gE asH;have ud:j<bh:=by omega
     rw[fY,DD,BR] at pd;subst e;subst BR;rw[D4] at zU;have agl:((D pre+1:Nat):Int)-1=(D pre:Int):=by omega
     have oH:IntKind.i64.wrap ((D pre:Int)+((N+2:Nat):Int))=((D pre+(N+2):Nat):Int):=by rw[eS _];omega
     have asN:IntKind.i64.wrap (((D pre+(N+2):Nat):Int)-1)=((D pre+(N+1):Nat):Int):=by rw[eS _];omega
     have D5:IntKind.i64.wrap (((N+2:Nat):Int)-1)=((N+1:Nat):Int):=by rw[eS _];omega
     have Ps:IntKind.i64.wrap (((N+2:Nat):Int)-2)=(N:Int):=by rw[eS _];omega
     have Pt:IntKind.i64.wrap (((D pre+(N+2):Nat):Int)-2)=((D pre+N:Nat):Int):=by rw[eS _];omega
     have cb:(D pre)+(N+2)<D l7+1:=by omega
     have cB:(D pre)+(N+1)<D l7+1:=by omega
     have hJ:(D pre)+N<D l7+1:=by omega
     have asO:(D pre)+(N+2)+1<=(bc ae (pre++ga++post)).length:=by rw[qC,z3];omega
     have asP:(D pre)+(N+1)+1<=(bc ae (pre++ga++post)).length:=by rw[qC,z3];omega
     have Pu:(D pre)+N+1<=(bc ae (pre++ga++post)).length:=by rw[qC,z3];omega
     have asQ:=Lf (pre:=pre) (post:=post) (show N+2<(D ga) by omega);have Pv:=Lf (pre:=pre) (post:=post) (show N+1<(D ga) by omega);have pb:=Lf (pre:=pre) (post:=post) (show N<(D ga) by omega);have cQ:=asu (N:=N) (by omega:(D ga)=N+3);have Pm:=zK (zV rE N);have agm:=o8 (zV rE N);rw[gf,oE (by omega)] at Pm;have mF:=lH rE (N+2) (by omega);have jZ:=lH rE (N+1) (by omega);have BG:=lH rE N (by omega);generalize ga[N+2]=t2 at *;generalize ga[N+1]=t1 at *;generalize ga[N]=t0 at *;generalize bf (ga.take N)=GX at *;have asR:IntKind.i64.wrap (t2*2^min (DF 20) 64)=t2*1048576:=by rw[show min (DF 20) 64=20 by decide];exact wrap64 _ (by omega) (by omega)
     have asS:bits .or .i64 (t2*1048576) t1=t2*1048576+t1:=Ur t2 t1 mF.1 (by omega) jZ;have asT:(v1=0)=False:=by simp;omega
     generalize aKL:t2*1048576+t1=top at *;have aKM:0<=top/\top<1099511627776:=by omega
     have vN:top.tdiv v1=top/v1:=GU (by omega);have w5:top.tmod v1=top%v1:=Le (by omega);have mE:0<=top/v1:=Wg (by omega) (by omega);have qG:top/v1<=top:=Int.ediv_le_self _ (by omega);have asU:IntKind.i64.wrap (top/v1)=top/v1:=wrap64 _ (by omega) (by omega);have Ll:(v.map ae)[N+1]?=some [.int .i64 v1]:=by rw[bl,asG];rfl
     have Pw:(v.map ae)[N]?=some [.int .i64 v0]:=by rw[bl,Pp];rfl
     have Wp:bf ga<1048576*hc:=by omega
     have asV:bf ga<(top/v1+1)*hc:=by
      have aC:top+1<=(top/v1+1)*v1:=by
       have F:=BF top v1;have I:=Wi top (show 0<v1 by omega);rw[tZ,n8,nt (top/v1)];omega
      have aD:(top+1)*1048576*1048576^N<=(top/v1+1)*v1*1048576*1048576^N:=m3 (m3 aC (by omega)) (by omega)
      have b9:(top/v1+1)*v1*1048576*1048576^N<=(top/v1+1)*hc:=by
       rw[iy,iy];refine zW ?_ (by omega);rw[vQ,<-iy];have:v1*1048576*1048576^N<=(v1*1048576+v0)*1048576^N:=m3 (by omega) (by omega);omega
      have dg:(top*1048576+t0+1)*1048576^N<=(top+1)*1048576*1048576^N:=m3 (by omega) (by omega);rw[tZ _ 1,n8] at dg;omega
     simp only[go_sem,go_sem_proc,gg,eN,la,eH,jG,lb,cl,jn,gq,zU,h8,n6,G8,Pr,agl,oH,asN,D5,cb,cB,asO,asP,asQ,Pv,asR,asS,asT,vN,w5,asU,Ll,show (D pre:Int)>=0 by omega,decide_true,cL,al,show ¬ ((20:Int)<0) by omega]
     have WC:∀(mem:Mem),mem 157054=some (1,bc ae (pre++ga++post))->∀q:Int,0<=q->q<1048576->bf ga<(q+1)*hc->0<=bf ga-q*hc+hc ->
       Lh [.ref 157054 1 1 (D pre) (N+3),.J (.Y (v.map ae)),.J (.int .i64 q)] mem=some (.J (.int .i64 (bf ga/hc)),a4 mem 157054 1 (bc ae (pre++pad (N+3) (bf ga%hc).toNat++post))):=by
      intro mem G8 q mE asW ue kq;have GY:=ast Ww ue kq;have nr:=asj ⟨pre,ga,post,hc,q,157054,1⟩ mem ⟨G8,rE,by show (aM hc).length<=D ga;rw[asF];omega,mE,asW,kq,by show (D pre)+D ga<=100000;omega⟩
      simp only[BJ,BK,Ph] at nr;rw[GY.1,GY.2,agk,asE] at nr;exact nr
     have asX:0<=bf ga/hc:=Wg (o8 rE) (by omega);have asY:bf ga/hc<1048576:=afU Ww Wp;have aKN:=Wh (bf ga) (show (hc:Int)≠0 by omega);have asZ:=Wi (bf ga) Ww
     have as0:bf (pad (N+3) (bf ga%hc).toNat)=bf ga%hc:=by
      rw[asg]
      ·omega
      ·have I:((1048576^(N+2):Nat):Int)=1048576^(N+2):=by rw[DZ];rfl
       have af:1048576^(N+2)<=1048576^(N+3):=w7 (by omega) (by omega);omega
     have iI:∃bk:Nat×List Int×List Int,bk.1<D pre+1/\bk.1<=bh/\bk.2.1.length=D l7+1/\eY bk.2.1/\bk.2.2.length=bh/\eY bk.2.2/\bf (bk.2.1.drop bk.1)<hc/\(G7:Int)=bf (bk.2.1.take bk.1)+1048576^bk.1*(hc*bf (bk.2.2.drop bk.1)+bf (bk.2.1.drop bk.1)) /\
       R.J (Data.int .i64 ((D pre:Int)-1))=R.J (Data.int .i64 ((bk.1:Int)-1))/\some (1,bc ae (pre++pad (N+3) (bf ga%hc).toNat++post))=some (1,bc ae bk.2.1)/\some (0,bc ae (eB.set (D pre) (bf ga/hc)))=some (0,bc ae bk.2.2):=by
      have as1:(D eB)=bh:=Pq;have Pq:(D pre)<D eB:=by omega
      have G9:(pre++pad (N+3) (bf ga%hc).toNat++post).drop (D pre)=pad (N+3) (bf ga%hc).toNat++post:=by rw[gM,Ue]
      have as2:(pre++pad (N+3) (bf ga%hc).toNat++post).take (D pre)=pre:=by rw[gM,Ud]
      have agn:bf (pad (N+3) (bf ga%hc).toNat++post)=bf ga%hc:=by rw[DD,asL,as0];omega
      refine⟨(D pre,pre++pad (N+3) (bf ga%hc).toNat++post,eB.set (D pre) (bf ga/hc)),by dsimp only;omega,by dsimp only;omega,?_,DB.2 ⟨DB.2 ⟨WB,asf _ _⟩,asK⟩,by rw[hP];exact as1,zY Wx _ ⟨asX,asY⟩,?_,?_,rfl,rfl,rfl⟩
      ·rw[<-z3];simp[ase,agk]
      ·dsimp only;rw[G9,agn];exact asZ
      ·dsimp only;rw[G9,agn,as2,im (by simpa using Pq),tQ];simp only[zX];rw[tG (by omega)];have F:=BF (bf ga) hc;have I:(hc:Int)*(bf ga/hc+1048576*bf (eB.drop (D pre+1)))=hc*(bf ga/hc)+1048576*(hc*bf (eB.drop (D pre+1))):=by rw[ix,Wj]
       rw[I,pd,ns,iy];simp only[bf,ub,sL];rw[Int.add_assoc,<-ix]
       congr 2
       rw[ix];omega
     have j0:(D pre)+(N+2)+1-D pre=N+3:=by omega
     have uf:IntKind.i64.wrap (((D pre+(N+2):Nat):Int)+1)=((D pre+(N+2)+1:Nat):Int):=by rw[eS _];rfl
     have Px:(D pre)<=D pre+(N+2)+1/\D pre+(N+2)+1<=D l7+1:=by omega
     have Py:(D pre)<bh:=ud;have Pz:=λd=>yt eB (D pre) d (by omega);have PA:(D pre)+1<=(bc ae eB).length:=by rw[qC];omega
     have BM:IntKind.i64.wrap ((D pre:Int)-1)=(D pre:Int)-1:=wrap64 _ (by omega) (by omega)
     refine dn [8,9,10,11,12,13] [157054,157075] (λ((q,r):Int×Int) tm mem=>0<=q/\0<=r/\q*v1+r=top/\bf ga<(q+1)*hc/\tm 15=.J (.int .i64 q)/\tm 16=.J (.int .i64 r)) (λ(q,_)=>q.toNat) (top/v1,top%v1)
      (by
       refine⟨mE,Wh _ (by omega),?_,asV,rfl,rfl⟩;have:=BF top v1;rw[nt (top/v1)];omega) ?_
     intro vs ms aV aS;simp only[go_sem,go_sem_proc,gg,eN,la,eH,jG,lb,cl,jn,gq,zU,h8,n6,G8,Pr,agl] at aV aS;subst aV aS;rintro⟨q,r⟩ tm mem' O hm ⟨z5,as3,D0,ue,vR,sM⟩;simp only[go_sem,go_sem_proc,gg,eN,la,eH,jG,lb,ba] at O hm;obtain⟨gN,j1,kN,mG,mH,w8⟩:=O;obtain⟨yB,BS⟩:=hm;have aKO:0<=q*v1:=yv z5 (by omega);have aKP:q*524288<=q*v1:=zW o2 z5;have aKQ:0<=q*v0:=yv z5 pO.1;have aKR:q*v0<=q*1048576:=zW (by omega) z5;have yC:IntKind.i64.wrap (q*v0)=q*v0:=wrap64 _ (by omega) (by omega);have PB:IntKind.i64.wrap (q-1)=q-1:=wrap64 _ (by omega) (by omega);have PC:IntKind.i64.wrap (r+v1)=r+v1:=wrap64 _ (by omega) (by omega);have PE:IntKind.i64.wrap (r*2^min (DF 20) 64)=r*1048576:=by rw[show min (DF 20) 64=20 by decide];exact wrap64 _ (by omega) (by omega)
     have PF:bits .or .i64 (r*1048576) t0=r*1048576+t0:=Ur r t0 as3 (by omega) BG
     have Oz:(q>=1048576\/q*v0>r*1048576+t0)->∃bk:Int×Int,bk.1.toNat<q.toNat/\0<=bk.1/\0<=bk.2/\bk.1*v1+bk.2=top/\bf ga<(bk.1+1)*hc/\R.J (Data.int .i64 (q-1))=R.J (Data.int .i64 bk.1)/\R.J (Data.int .i64 (r+v1))=R.J (Data.int .i64 bk.2):=by
      intro H;have F:=asr vQ cQ gr Wv Pm z5 (by omega) Wp D0 H
      have WD:0<q:=by
       rcases dA (0<q) with h|h
       ·exact h
       ·obtain rfl:q=0:=by omega
        have:=o8 rE;omega
      exact⟨(q-1,r+v1),by dsimp only;omega,by dsimp only;omega,by dsimp only;omega,by dsimp only;rw[af5];omega,by dsimp only;rw[Int.sub_add_cancel];exact F,rfl,rfl⟩
     by_cases gU:q>=1048576
     ·simp only[go_sem,go_sem_proc,gg,eN,la,eH,jG,lb,gN,j1,kN,mG,mH,w8,yB,BS,vR,sM,gU,PB,PC,D5,Ll,decide_true,cL,al];repeat' (first|refine aw ?_ ?_|fail)<;>intro h<;>simp only[h,go_sem,go_sem_proc,gg,eN,la,eH,jG,lb,gN,j1,kN,mG,mH,w8,yB,BS,vR,sM,gU,PB,PC,D5,Ll,decide_true,cL,al]
      exact Oz (.inl gU)
     ·by_cases vg:r<1048576
      ·by_cases pP:q*v0>r*1048576+t0
       ·simp only[go_sem,go_sem_proc,gg,eN,la,eH,jG,lb,gN,j1,kN,mG,mH,w8,yB,BS,vR,sM,gU,vg,pP,yC,PB,PC,PE,PF,oH,D5,Ps,Pt,hJ,Pu,pb,Ll,Pw,decide_true,decide_false,cL,al,show ¬ ((20:Int)<0) by omega]
        repeat' (first|refine aw ?_ ?_|fail)<;>intro h<;>simp only[h,go_sem,go_sem_proc,gg,eN,la,eH,jG,lb,gN,j1,kN,mG,mH,w8,yB,BS,vR,sM,gU,vg,pP,yC,PB,PC,PE,PF,oH,D5,Ps,Pt,hJ,Pu,pb,Ll,Pw,decide_true,decide_false,cL,al,show ¬ ((20:Int)<0) by omega]
        exact Oz (.inr pP)
       ·have nr:=WC mem' yB q z5 (by omega) ue (af4 vQ cQ gr ⟨Wv,Wu⟩ agm z5 (by omega) o2 pO BG.1 D0 (.inr (by omega)));simp only[go_sem,go_sem_proc,gg,eN,la,eH,jG,lb,gN,j1,kN,mG,mH,w8,yB,BS,vR,sM,gU,vg,pP,yC,PE,PF,oH,uf,D5,Ps,Pt,hJ,Pu,pb,Pw,j0,Px,nr,Py,PA,Pz,BM,D4,decide_true,decide_false,cL,al,show ¬ ((20:Int)<0) by omega]
        repeat' (first|refine aw ?_ ?_|fail)<;>intro h<;>simp only[h,go_sem,go_sem_proc,gg,eN,la,eH,jG,lb,gN,j1,kN,mG,mH,w8,yB,BS,vR,sM,gU,vg,pP,yC,PE,PF,oH,uf,D5,Ps,Pt,hJ,Pu,pb,Pw,j0,Px,nr,Py,PA,Pz,BM,D4,decide_true,decide_false,cL,al,show ¬ ((20:Int)<0) by omega]
        exact iI
      ·have nr:=WC mem' yB q z5 (by omega) ue (af4 vQ cQ gr ⟨Wv,Wu⟩ agm z5 (by omega) o2 pO BG.1 D0 (.inl (by omega)));simp only[go_sem,go_sem_proc,gg,eN,la,eH,jG,lb,gN,j1,kN,mG,mH,w8,yB,BS,vR,sM,gU,vg,oH,uf,j0,Px,nr,Py,PA,Pz,BM,D4,decide_true,decide_false,cL,al];repeat' (first|refine aw ?_ ?_|fail)<;>intro h<;>simp only[h,go_sem,go_sem_proc,gg,eN,la,eH,jG,lb,gN,j1,kN,mG,mH,w8,yB,BS,vR,sM,gU,vg,oH,uf,j0,Px,nr,Py,PA,Pz,BM,D4,decide_true,decide_false,cL,al]
       exact iI
def ee:Nat:=1048576^60
def bQ (z:Int):Raw:=(z.sign,aM z.natAbs)
def iA (a:Raw):Int:=a.1*bf a.2
theorem fQ (z:Int):iA (bQ z)=z:=by
 unfold iA bQ;rw[l4];exact WE z
theorem Lm (d:Int):n3 d=true↔0<=d/\d<1048576:=by
 unfold n3;simp;omega
theorem j2 (a:Raw):dD a=true↔∃z:Int,z.natAbs<ee/\a=bQ z:=by
 obtain⟨s,l⟩:=a;unfold dD ee;rw[e4,kG]
 constructor
 ·rintro⟨F,I⟩;have aa:eY l:=λd aa=>(Lm d).1 (F d aa)
  split at I
  ·rename_i h;have ar:l=[]:=tC (by simpa using h);subst ar;have X:s=0:=by simpa using I
   subst X;exact⟨0,by simp,rfl⟩
  ·rename_i h;simp at I;obtain⟨⟨X,hlen⟩,WG⟩:=I;have H:=canon aa (by simpa using WG);have aA:=o8 aa
   have aKS:bf l≠0:=by
    intro ao;rw[ao] at H;rw[H] at h;simp[sF] at h
   refine⟨s*bf l,?_,?_⟩
   ·have:(s*bf l).natAbs=(bf l).toNat:=by rw[qH];rcases X with rfl|rfl<;>simp<;>omega
    rw[this,<-g3,<-H];exact hlen
   ·unfold bQ;have:(s*bf l).natAbs=(bf l).toNat:=by rw[qH];rcases X with rfl|rfl<;>simp<;>omega
    rw[this,<-H]
    congr 1
    rcases X with rfl|rfl
    ·rw[n8,j3 (by omega)]
    ·rw[Int.neg_mul,n8,D6,j3 (by omega)]
 ·rintro⟨z,aX,h⟩
  cases h;refine⟨λd aa=>(Lm d).2 (m1 _ d aa),?_⟩
  by_cases ao:z=0
  ·subst ao;rfl
  ·have aL:aM z.natAbs≠[]:=by rw[Ne,zJ];omega
   rw[ag (by simp;exact aL)];have ar:=g3.2 aX;have iX:=afi z.natAbs;simp only[e4,Bool.or_eq_true,beq_iff_eq,decide_eq_true_eq,bne_iff_ne,ne_eq];refine⟨⟨?_,ar⟩,iX⟩;rcases yy z 0 with h|h|h
   ·exact .inr (rF h)
   ·exact absurd h ao
   ·exact .inl (j3 h)
theorem ld {z:Int}(h:z.natAbs<ee):dD (bQ z)=true:=(j2 _).2 ⟨z,h,rfl⟩
def Ha (c:Raw):Raw×Int:=if decide ((c.2.length:Int)>60)=true then ((0,[]),6) else (c,0)
def sN (z:Int):Raw×Int:=if z.natAbs<ee then (bQ z,0) else ((0,[]),6)
def fR (x:Raw×Int):Data:=.cI [.agg (db x.1),.int .i64 x.2]
theorem as4 (s:Int)(n:Nat):kp s (aM n)=if n=0 then (0,[]) else (s,aM n):=by
 unfold kp;rw[afh]
 by_cases h:n=0
 ·subst h;rfl
 ·have:aM n≠[]:=by rw[Ne,zJ];exact h
  rw[ag h,ag (by simp;exact this)]
theorem pQ {s:Int}{n:Nat}{z:Int}(h:z.natAbs=n)(X:n≠0->s=z.sign):kp s (aM n)=bQ z:=by
 rw[as4];subst h
 by_cases ao:z.natAbs=0
 ·obtain rfl:z=0:=by omega
  rfl
 ·rw[ag ao,X ao]
  rfl
theorem BT (z:Int):Ha (bQ z)=sN z:=by
 unfold Ha sN bQ ee;have:=g3 (n:=z.natAbs) (k:=60)
 by_cases h:z.natAbs<1048576^60
 ·have:=this.2 h;rw[ag (by simp;omega),ad h]
 ·have:=mt this.1 h;rw[ad (by simp;omega),ag h]
abbrev WH:Bool×Int×(List Int)->List Data:=λ(r,s,l)=>[.bool r,.agg [.int .i64 s,.Y (l.map ae)]]
def Ln:=ck WH λ(r,s,l)=>some (.same (fR (if r=true then Ha (s,l) else ((0,[]),1))))
theorem as5:∀a b,WH a=WH b->a=b:=by
  rintro⟨fc,s1,dW⟩ ⟨ep,s2,ak⟩ h;simp only[ba,Data.bool.injEq,Data.agg.injEq,Data.int.injEq,Data.Y.injEq] at h;exact dT h.1 (dT h.2.1.1.2 (map_inj fp _ _ h.2.1.2.1))
@[go_sem] theorem Hb (r:Bool)(s:Int)(l:List Int):Ln [.bool r,.agg [.int .i64 s,.Y (l.map ae)]]=some (.same (fR (if r=true then Ha (s,l) else ((0,[]),1)))):=cx as5 (r,s,l)
theorem as6 (T:bd)  (r:Bool) (s:Int) (l:List Int):WP T Vs (.same (fR (if r=true then Ha (s,l) else ((0,[]),1)))) [.J (.bool r),.J (.agg [.int .i64 s,.Y (l.map ae)])]:=by
 refine cy ?_;simp only[Vs]
 cases r
 ·refine a0 ?_;repeat' (intro h<;>simp only[h,go_sem,go_sem_proc,al]<;>try refine aw ?_ ?_)
  rfl
 ·refine a0 ?_;repeat' (intro h<;>simp only[h,go_sem,go_sem_proc,al]<;>try refine aw ?_ ?_)
  all_goals (simp only[fR,db,Ha];simp only[cV, *,reduceIte,cK,dt,vt,sw,l2,ru,vu,gW,h6,fS,kX,beq_self_eq_true,bne])
def j4 (a:Raw):Raw:=if dD a=true then bQ (-iA a) else (0,[])
theorem ago (z:Int):kp (-z.sign) (aM z.natAbs)=bQ (-z):=pQ (by omega) λ_=>by rw[D6]
def PG:=ck BD λ(s,l)=>cR (D l<=1000000) (.same (.agg (db (j4 (s,l)))))
@[go_sem] theorem aKT (s:Int)(l:List Int)(H:(D l)<=1000000):PG [.agg [.int .i64 s,.Y (l.map ae)]]=some (.same (.agg (db (j4 (s,l))))):=(cx GM (s,l)).trans (cW H _)
theorem as7 (T:bd)(dI:T k7=aW wX)(eN:T sG=aW zT)(fD:T o9=aW BE)(s:Int)(l:List Int)(H:(D l)<=1000000):WP T Vp (.same (.agg (db (j4 (s,l))))) [.J (.agg [.int .i64 s,.Y (l.map ae)])]:=by
 refine cy ?_;simp only[Vp]
 by_cases ab:dD (s,l)=true
 ·obtain⟨z,aX,e⟩:=(j2 _).1 ab;have aC:j4 (s,l)=bQ (-z):=by unfold j4;rw[ad ab,e,fQ]
  cases e
  have hw:IntKind.i64.wrap (0-z.sign) = -z.sign:=by
   have:=agp z;rw[eS _];omega
  rw[aC];refine a0 ?_;repeat' (intro h<;>simp only[h,go_sem,go_sem_proc,dI,eN,fD,ab,H,hw,ago,db]<;>try refine aw ?_ ?_)
 ·have ab:dD (s,l)=false:=by simpa using ab
  have aC:j4 (s,l)=(0,[]):=by unfold j4;rw[ab];rfl
  rw[aC];refine a0 ?_;repeat' (intro h<;>simp only[h,go_sem,go_sem_proc,dI,eN,fD,ab,H,db,cV]<;>try refine aw ?_ ?_)
theorem nA (a:Raw):(a.1,a.2)=a:=rfl
def mulR (a b:Raw):Raw×Int:=if (dD a&&dD b)=true then sN (iA a*iA b) else ((0,[]),1)
theorem BU {x y:Int}(Q:x.natAbs<ee)(av:y.natAbs<ee):mulR (bQ x) (bQ y)=sN (x*y):=by
 unfold mulR;rw[ld Q,ld av,fQ,fQ]
 rfl
theorem rG {z:Int}(h:z.natAbs<ee):(aM z.natAbs).length<=60:=g3.2 h
theorem rH (z:Int):-1<=z.sign/\z.sign<=1:=by
 have:=agp z;omega
abbrev vS:Int×(List Int)×Int×(List Int)->List Data:=λ(s,l,s2,ak)=>[.agg [.int .i64 s,.Y (l.map ae)],.agg [.int .i64 s2,.Y (ak.map ae)]]
def Hc:=ck vS λ(s,l,s2,ak)=>cR (D l<=1000000/\D ak<=1000000) (.same (fR (mulR (s,l) (s2,ak))))
theorem yD:∀a b,vS a=vS b->a=b:=by
  rintro⟨s1,dW,D7,D8⟩ ⟨s2,ak,D9,Ea⟩ h;simp only[ba,Data.agg.injEq,Data.int.injEq,Data.Y.injEq] at h;exact dT h.1.1.2 (dT (map_inj fp _ _ h.1.2.1) (dT h.2.1.1.2 (map_inj fp _ _ h.2.1.2.1)))
@[go_sem] theorem aKU (s:Int)(l:List Int)(s2:Int)(ak:List Int)(H:(D l)<=1000000/\D ak<=1000000):Hc [.agg [.int .i64 s,.Y (l.map ae)],.agg [.int .i64 s2,.Y (ak.map ae)]]=some (.same (fR (mulR (s,l) (s2,ak)))):=(cx yD (s,l,s2,ak)).trans (cW H _)
theorem as8 (T:bd)(dI:T k7=aW wX)(jG:T Gy=aW Pf)(fD:T o9=aW BE)(m5:T vz=aW Ln)(s:Int)(l:List Int)(s2:Int)(ak:List Int)(H:(D l)<=1000000/\D ak<=1000000):WP T Vn (.same (fR (mulR (s,l) (s2,ak)))) [.J (.agg [.int .i64 s,.Y (l.map ae)]),.J (.agg [.int .i64 s2,.Y (ak.map ae)])]:=by
 refine cy ?_;simp only[Vn];obtain⟨cb,cB⟩:=H
 by_cases ab:dD (s,l)=true
 ·by_cases bC:dD (s2,ak)=true
  ·obtain⟨x,Q,e⟩:=(j2 _).1 ab;obtain⟨y,av,aD⟩:=(j2 _).1 bC;have hm:mulR (s,l) (s2,ak)=sN (x*y):=by rw[e,aD];exact BU Q av
   rw[hm];clear hm
   cases e
   cases aD;have F:=rH x;have I:=rH y;have aF:x.sign*y.sign=(x*y).sign:=(Int.sign_mul x y).symm;have af:=rH (x*y);have hw:IntKind.i64.wrap (x.sign*y.sign)=(x*y).sign:=by rw[aF];exact wrap64 _ (by omega) (by omega)
   have hmul:=Wa x.natAbs y.natAbs ⟨eQ (rG Q) (by omega),eQ (rG av) (by omega)⟩;simp only[b5] at hmul
   have hlen:(aM (x.natAbs*y.natAbs)).length<=1000000:=by
    refine eQ ((g3 (k:=120)).2 ?_) (by omega);have:(1048576^120:Nat)=ee*ee:=by unfold ee;rw[<-Nat.pow_add]
    rw[this];exact Nat.mul_lt_mul'' Q av
   have X:kp (x*y).sign (aM (x.natAbs*y.natAbs))=bQ (x*y):=pQ (qH x y) λ_=>rfl;refine a0 ?_;repeat' (intro h<;>simp only[h,go_sem,go_sem_proc,dI,jG,fD,m5,ab,bC,cb,cB,hw,hmul,hlen,X,BT,db,fR,nA]<;>try refine aw ?_ ?_)
  ·have bC:dD (s2,ak)=false:=by simpa using bC
   have hm:mulR (s,l) (s2,ak)=((0,[]),1):=by unfold mulR;rw[bC,h6];rfl
   rw[hm];have oK:=Hb false 0 [];simp only[cV] at oK;refine a0 ?_;repeat' (intro h<;>simp only[h,go_sem,go_sem_proc,dI,jG,fD,m5,ab,bC,cb,cB,oK,db,fR,cV]<;>try refine aw ?_ ?_)
 ·have ab:dD (s,l)=false:=by simpa using ab
  have hm:mulR (s,l) (s2,ak)=((0,[]),1):=by unfold mulR;rw[ab,fS];rfl
  rw[hm];have oK:=Hb false 0 [];simp only[cV] at oK;refine a0 ?_;repeat' (intro h<;>simp only[h,go_sem,go_sem_proc,dI,jG,fD,m5,ab,cb,cB,oK,db,fR,cV]<;>try refine aw ?_ ?_)
def sO (a b:Raw):Raw×Int:=if (dD a&&dD b)=true then sN (iA a+iA b) else ((0,[]),1)
theorem agq {x y:Int}(Q:x.natAbs<ee)(av:y.natAbs<ee):sO (bQ x) (bQ y)=sN (x+y):=by
 unfold sO;rw[ld Q,ld av,fQ,fQ]
 rfl
theorem PH (a b:Nat):(aM (a-b)).length<=(aM a).length:=by
 rw[g3];exact vL (Nat.sub_le a b) (g3.1 (bZ _))
def WI:=ck vS λ(s,l,s2,ak)=>cR (D l<=1000000/\D ak<=1000000) (.same (fR (sO (s,l) (s2,ak))))
@[go_sem] theorem aKV (s:Int)(l:List Int)(s2:Int)(ak:List Int)(H:(D l)<=1000000/\D ak<=1000000):WI [.agg [.int .i64 s,.Y (l.map ae)],.agg [.int .i64 s2,.Y (ak.map ae)]]=some (.same (fR (sO (s,l) (s2,ak)))):=(cx yD (s,l,s2,ak)).trans (cW H _)
theorem as9 (T:bd)(dI:T k7=aW wX)(yE:T UL=aW VX)(mI:T KO=aW Pb)(mJ:T Gz=aW Pc)(gg:T DK=aW Lb)(fD:T o9=aW BE)(m5:T vz=aW Ln)(s:Int)(l:List Int)(s2:Int)(ak:List Int)(H:(D l)<=1000000/\D ak<=1000000):WP T Vw (.same (fR (sO (s,l) (s2,ak)))) [.J (.agg [.int .i64 s,.Y (l.map ae)]),.J (.agg [.int .i64 s2,.Y (ak.map ae)])]:=by
 refine cy ?_;simp only[Vw];obtain⟨cb,cB⟩:=H
 by_cases ab:dD (s,l)=true
 ·by_cases bC:dD (s2,ak)=true
  ·obtain⟨x,Q,e⟩:=(j2 _).1 ab;obtain⟨y,av,aD⟩:=(j2 _).1 bC;have hm:sO (s,l) (s2,ak)=sN (x+y):=by rw[e,aD];exact agq Q av
   rw[hm];clear hm
   cases e
   cases aD;have F:=rH x;have I:=rH y;have n9:=rG Q;have k9:=rG av;have PI:=WE x;have aKW:=WE y
   have BV:(x.sign=1/\0<x)\/(x.sign=0/\x=0)\/(x.sign = -1/\x<0):=by
    rcases yy x 0 with h|h|h
    ·exact .inr (.inr ⟨rF h,h⟩)
    ·exact .inr (.inl ⟨by rw[h];rfl,h⟩)
    ·exact .inl ⟨j3 h,h⟩
   have ty:(y.sign=1/\0<y)\/(y.sign=0/\y=0)\/(y.sign = -1/\y<0):=by
    rcases yy y 0 with h|h|h
    ·exact .inr (.inr ⟨rF h,h⟩)
    ·exact .inr (.inl ⟨by rw[h];rfl,h⟩)
    ·exact .inl ⟨j3 h,h⟩
   have iL:=afE x.natAbs y.natAbs ⟨by omega,by omega⟩
   simp only[b5] at iL
   have hlen:(aM (x.natAbs+y.natAbs)).length<=1000000:=by
    refine eQ ((g3 (k:=61)).2 ?_) (by omega);have:(1048576^61:Nat)=ee*1048576:=by unfold ee;rw[<-wR]
    omega
   have w4:=arY [x.sign,y.sign] (by simp);simp only[eG,cV,ae] at w4;have gp:=V0 x.natAbs y.natAbs ⟨by omega,by omega⟩
   simp only[b5] at gp
   by_cases aF:x.sign*y.sign>=0
   ·have hw:IntKind.i64.wrap (x.sign*y.sign)=x.sign*y.sign:=by
     rcases BV with ⟨e,_⟩|⟨e,_⟩|⟨e,_⟩<;>rw[e]<;>exact wrap64 _ (by omega) (by omega)
    have X:kp (zS [x.sign,y.sign]) (aM (x.natAbs+y.natAbs))=bQ (x+y):=by
     refine pQ ?_ ?_
     ·rcases BV with ⟨e,_⟩|⟨e,_⟩|⟨e,_⟩<;>rcases ty with ⟨e',_⟩|⟨e',_⟩|⟨e',_⟩<;>rw[e,e'] at aF<;>omega
     ·intro aL;rcases BV with ⟨e,_⟩|⟨e,_⟩|⟨e,_⟩<;>rcases ty with ⟨e',_⟩|⟨e',_⟩|⟨e',_⟩<;>rw[e,e'] at aF ⊢
      ·exact (j3 (by omega)).symm
      ·exact (j3 (by omega)).symm
      ·omega
      ·exact (j3 (by omega)).symm
      ·omega
      ·exact (rF (by omega)).symm
      ·omega
      ·exact (rF (by omega)).symm
      ·exact (rF (by omega)).symm
    simp only[go_sem,go_sem_proc,dI,yE,mI,mJ,gg,fD,m5,ab,bC,cb,cB,hw,aF,decide_true,w4,iL,hlen,X,BT,db,fR,nA];repeat' (first|refine aw ?_ ?_|fail)<;>intro h<;>simp only[h,go_sem,go_sem_proc,dI,yE,mI,mJ,gg,fD,m5,ab,bC,cb,cB,hw,aF,decide_true,w4,iL,hlen,X,BT,db,fR,nA]
   ·have hw:IntKind.i64.wrap (x.sign*y.sign)=x.sign*y.sign:=by
     rcases BV with ⟨e,_⟩|⟨e,_⟩|⟨e,_⟩<;>rw[e]<;>exact wrap64 _ (by omega) (by omega)
    by_cases ay:x.natAbs<y.natAbs
    ·have w9:decide (hH x.natAbs y.natAbs<0)=true:=by unfold hH;rw[ad (by simp;omega)];rfl
     have j0:=V7 y.natAbs x.natAbs ⟨by omega,by omega⟩
     simp only[b5] at j0;have Lo:(aM (y.natAbs-x.natAbs)).length<=1000000:=eQ (PH _ _) (by omega)
     have X:kp y.sign (aM (y.natAbs-x.natAbs))=bQ (x+y):=by
      refine pQ ?_ ?_
      ·rcases BV with ⟨e,_⟩|⟨e,_⟩|⟨e,_⟩<;>rcases ty with ⟨e',_⟩|⟨e',_⟩|⟨e',_⟩<;>rw[e,e'] at aF<;>omega
      ·intro aL;rcases BV with ⟨e,_⟩|⟨e,_⟩|⟨e,_⟩<;>rcases ty with ⟨e',_⟩|⟨e',_⟩|⟨e',_⟩<;>rw[e,e'] at aF<;>rw[e']<;>first|omega|exact (j3 (by omega)).symm|exact (rF (by omega)).symm
     simp only[go_sem,go_sem_proc,dI,yE,mI,mJ,gg,fD,m5,ab,bC,cb,cB,hw,aF,decide_false,gp,w9,j0,Lo,X,BT,db,fR,nA];repeat' (first|refine aw ?_ ?_|fail)<;>intro h<;>simp only[h,go_sem,go_sem_proc,dI,yE,mI,mJ,gg,fD,m5,ab,bC,cb,cB,hw,aF,decide_false,gp,w9,j0,Lo,X,BT,db,fR,nA]
    ·have w9:decide (hH x.natAbs y.natAbs<0)=false:=by unfold hH;rw[ag (by simp;omega)];split<;>rfl
     have j0:=V7 x.natAbs y.natAbs ⟨by omega,by omega⟩
     simp only[b5] at j0;have Lo:(aM (x.natAbs-y.natAbs)).length<=1000000:=eQ (PH _ _) (by omega)
     have X:kp x.sign (aM (x.natAbs-y.natAbs))=bQ (x+y):=by
      refine pQ ?_ ?_
      ·rcases BV with ⟨e,_⟩|⟨e,_⟩|⟨e,_⟩<;>rcases ty with ⟨e',_⟩|⟨e',_⟩|⟨e',_⟩<;>rw[e,e'] at aF<;>omega
      ·intro aL;rcases BV with ⟨e,_⟩|⟨e,_⟩|⟨e,_⟩<;>rcases ty with ⟨e',_⟩|⟨e',_⟩|⟨e',_⟩<;>rw[e,e'] at aF<;>rw[e]<;>first|omega|exact (j3 (by omega)).symm|exact (rF (by omega)).symm
     simp only[go_sem,go_sem_proc,dI,yE,mI,mJ,gg,fD,m5,ab,bC,cb,cB,hw,aF,decide_false,gp,w9,j0,Lo,X,BT,db,fR,nA];repeat' (first|refine aw ?_ ?_|fail)<;>intro h<;>simp only[h,go_sem,go_sem_proc,dI,yE,mI,mJ,gg,fD,m5,ab,bC,cb,cB,hw,aF,decide_false,gp,w9,j0,Lo,X,BT,db,fR,nA]
  ·have bC:dD (s2,ak)=false:=by simpa using bC
   have hm:sO (s,l) (s2,ak)=((0,[]),1):=by unfold sO;rw[bC,h6];rfl
   rw[hm];have oK:=Hb false 0 [];simp only[cV] at oK;simp only[go_sem,go_sem_proc,dI,yE,mI,mJ,gg,fD,m5,ab,bC,cb,cB,oK,db,fR,cV];repeat' (first|refine aw ?_ ?_|fail)<;>intro h<;>simp only[h,go_sem,go_sem_proc,dI,yE,mI,mJ,gg,fD,m5,ab,bC,cb,cB,oK,db,fR,cV]
 ·have ab:dD (s,l)=false:=by simpa using ab
  have hm:sO (s,l) (s2,ak)=((0,[]),1):=by unfold sO;rw[ab,fS];rfl
  rw[hm];have oK:=Hb false 0 [];simp only[cV] at oK;simp only[go_sem,go_sem_proc,dI,yE,mI,mJ,gg,fD,m5,ab,cb,cB,oK,db,fR,cV];repeat' (first|refine aw ?_ ?_|fail)<;>intro h<;>simp only[h,go_sem,go_sem_proc,dI,yE,mI,mJ,gg,fD,m5,ab,cb,cB,oK,db,fR,cV]
end Go.Mini
