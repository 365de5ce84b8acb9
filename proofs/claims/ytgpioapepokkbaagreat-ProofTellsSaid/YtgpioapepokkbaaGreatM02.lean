/- A part of the proof. -/
import Derived.LoopN
import Derived.Laws.BitsLemmas
import Derived.ChangeSame
import Derived.Handed
import Derived.JoinedOf
import Derived.JoinedCond
import Derived.OpenShut
import Derived.ProofKit
import Derived.Test.YtgpioapepokkbaaGreatM01
set_option linter.unusedSimpArgs false
set_option linter.unusedVariables false
set_option maxRecDepth 100000
set_option maxHeartbeats 4000000
noncomputable section
open Bool renaming and_eq_true->eX,and_false->gQ,and_true->r2,false_and->dm,false_eq_true->kc,false_or->lr,not_false->cv,not_true->bX,or_false->lY,or_true->r1,true_and->eF,true_or->nr
open Classical renaming choose->tg,choose_spec->pW
open Decidable renaming em->dG
open Int renaming add_comm->uW,add_mul->q2,add_mul_ediv_left->Zl,add_mul_emod_self_left->Zn,add_zero->tw,bmod_def->YM,cast_ofNat_Int->ki,ediv_eq_zero_of_lt->PT,ediv_lt_of_lt_mul->Zo,ediv_nonneg->PV,emod_add_mul_ediv->x3,emod_emod_of_dvd->YN,emod_eq_of_lt->PU,emod_lt_of_pos->PX,emod_nonneg->PW,lt_trichotomy->q3,mul_add->hh,mul_assoc->hi,mul_comm->lx,mul_le_mul->PM,mul_le_mul_of_nonneg_left->se,mul_le_mul_of_nonneg_right->jz,mul_left_comm->PY,mul_nonneg->q1,mul_one->o8,mul_right_comm->yd,mul_sub->CE,mul_zero->uZ,natAbs_mul->nz,natCast_ediv->Zk,natCast_emod->Zm,natCast_mul->ZH,natCast_pow->Aq,natCast_zero->jT,one_mul->nw,pow_add->Zi,pow_pos->CP,pow_succ->lv,sign_eq_neg_one_of_neg->jY,sign_eq_one_of_pos->fS,sign_mul_natAbs->CU,sign_neg->Ax,sign_trichotomy->GL,sub_mul->Zz,sub_zero->wB,tdiv_eq_ediv_of_nonneg->CI,tmod_eq_emod_of_nonneg->Gz,toNat->zU,toNat_natCast->nt,zero_add->PQ
open List renaming all_cons->Cd,all_eq_true->h2,append_assoc->gZ,append_inj->Ag,append_nil->gk,concat_eq_append->zS,cons_append->jc,drop->lA,drop_append->NZ,drop_drop->B9,drop_eq_getElem_cons->iI,drop_eq_nil_of_le->s4,drop_left->Cg,drop_length->N4,drop_set_of_lt->qO,drop_zero->o1,eq_nil_of_length_eq_zero->mL,eq_nil_or_concat->zR,flatMap_cons->xP,flatten_cons->j8,getElem?_append->BS,getElem?_drop->ll,getElem?_eq_getElem->bL,getElem?_eq_some_iff->ef,getElem?_map->bb,getElem?_take_of_lt->nq,getElem_set_self->wx,length->o,length_append->fE,length_cons->jN,length_drop->N0,length_eq_one_iff->Yf,length_map->af,length_nil->mj,length_range->Yx,length_set->kA,length_take->gO,mapM_cons->lT,mapM_nil->Cc,map_cons->e8,map_nil->cM,mem_append->iK,mem_attach->Yl,mem_cons->hF,mem_flatMap->zC,mem_iff_getElem?->xR,mem_map->fZ,mem_of_getElem?->eN,mem_of_mem_drop->ZD,mem_of_mem_take->B0,mem_range->od,mem_replicate->CF,mem_singleton->tx,nil_append->ju,range->hR,replicate->eL,replicate_succ->qF,take->lz,take_add_one->fQ,take_append_drop->xN,take_left->N1,take_of_length_le->du,take_succ_cons->uN,take_zero->o2
open List.cons renaming inj->tv,injEq->bn
open Nat renaming add_assoc->nZ,add_mul->nS,add_sub_cancel_left->N7,add_zero->vQ,and_two_pow_sub_one_eq_mod->YO,div_eq_of_lt->N3,div_lt_iff_lt_mul->YL,eq_zero_or_pos->jo,le_refl->cA,le_trans->eG,lt_of_le_of_lt->q0,lt_or_ge->h1,min_eq_left->mi,mod_eq_of_lt->FN,mul_comm->pY,mul_le_mul_left->ZJ,mul_one->dU,pow_le_pow_right->u1,pow_succ->r6,strongRecOn->NR,zero_add->ku,zero_le->fY,zero_mul->xQ
open Option renaming bind_eq_bind->gF,bind_eq_some_iff->dQ,bind_some->hE,map_eq_some_iff->dI,map_some->rV,pure_def->gv
open Option.some renaming inj->ln,injEq->cz
open Prod renaming ext->dV,ext_iff->uS
open Prod.mk renaming injEq->eU
namespace Go.Mini
open Go
variable {P:Program} {T:br} {A:Nat->Prop} {ee w:World} {gH B:Lay} {mem:Mem} {n kb:Nat} {own:List Nat} {aT:Exit->Act->World->Prop}
theorem X9 {k:Key}{aS kr:Nat->Prop}{bB:Lay}{v:Value}{sz:Nat}{e:ks}(he:B k=some e)(ad:bA w aS bB .nil v):bA w kr B (.ref k e.g sz 0 0) v:=by
 cases ad;exact .ref he (cA _) ⟨_,0,rfl,cA _,fY _,.inl rfl⟩
theorem zI {k:Key}{g i:Nat}{cs:List O}{m m':O}{w1:World}(bY:eK A w B mem)(R:mem k=some (g,cs))(Q:cs[i]?=some m)
  (ad:∀e b v,B k=some e->e.dc=some b->w.cell? ⟨b,i,none⟩=some v->bA w (ca A B) B m' v):∃bB,ea A w B w bB (bI mem k g (cs.set i m')):=by
 obtain⟨e,he,cb,aL,ah⟩:=bY.at_ R
 have ok:=ea.change (k:=k) (e':=e) (cs:=cs.set i m') bY (Fr.refl _ w) (λaB eO => .inl (by rw[he] at eO;cases eO;rfl)) (λb e2 => .inr ⟨e,he,e2⟩) (λh=>by
  have:=aL h;subst this
  rfl) (λb e2=>by
  obtain⟨vs,T,a6,a8,hle,cK⟩:=ah b e2;refine⟨vs,T,a6,a8,by simpa using hle,λj x I=>?_⟩
  by_cases kW:i=j
  ·subst kW;have az:i<o cs:=(ef.1 Q).1;rw[List.getElem?_set_self az] at I
   cases I;have lV:i<vs.size:=by omega
   exact⟨vs[i],Array.getElem?_eq_getElem lV,ad e b _ he e2 (by rw[cell_of_row w b i vs T (0,0) a6];exact Array.getElem?_eq_getElem lV)⟩
  ·rw[List.getElem?_set_ne kW] at I;obtain⟨v,FD,U⟩:=cK.get I;refine⟨v,?_,U⟩;have az:j<o cs:=(ef.1 I).1;rw[nq az,Array.getElem?_toList] at FD;exact FD)
 rw[cb] at ok;exact⟨_,ok⟩
theorem ea.move {k k':Key}{g:Nat}{cs:List O}{e:ks}(h:eK A w B mem)(R:mem k=some (g,cs))(he:B k=some e)(bZ:k'≠k):
  ea A w B w (fG (fG B k ⟨b7 mem k,none,0⟩) k' ⟨b7 mem k',e.dc,e.size⟩) (bI (bI mem k (b7 mem k) []) k' (b7 mem k') cs):=by
 have jq:∀b,pJ (fG (fG B k ⟨b7 mem k,none,0⟩) k' ⟨b7 mem k',e.dc,e.size⟩) b->pJ B b:=by
  rintro b ⟨j,aB,ay,ah⟩
  by_cases D:j=k'
  ·subst D;rw[gE] at ay
   cases ay;exact⟨k,e,he,ah⟩
  ·rw[gu _ _ D] at ay
   by_cases G:j=k
   ·subst G;rw[gE] at ay
    cases ay
    cases ah
   ·rw[gu _ _ G] at ay;exact⟨j,aB,ay,ah⟩
 have kO:Trans A w B w (fG (fG B k ⟨b7 mem k,none,0⟩) k' ⟨b7 mem k',e.dc,e.size⟩):=by
  refine⟨cA _,λb _ ah=>⟨rfl,λbM=>ah (.inl (jq b bM))⟩,λj aB ay=>?_⟩
  by_cases D:j=k'
  ·subst D;exact⟨_,gE _ _ _,.inr (zm h j aB ay)⟩
  ·rw[gu _ _ D]
   by_cases G:j=k
   ·subst G;exact⟨_,gE _ _ _,.inr (zm h j aB ay)⟩
   ·rw[gu _ _ G];exact⟨aB,ay,.inl rfl⟩
 refine⟨⟨λj ay=>?_,λj ka aw aB b D G kB e2=>?_,λb aM bM=>h.sep b aM (jq b bM),h.lt,λj cR mQ ay=>?_⟩,kO,Fr.refl _ _,λb ah => .inl (jq b ah)⟩
 ·simp only[bI] at ay
  by_cases D:j=k'
  ·simp[D] at ay
  ·by_cases G:j=k
   ·rw[aq D,aj G] at ay
    cases ay
   ·simp only[D,G,if_false] at ay;rw[gu _ _ D,gu _ _ G];exact h.xt j ay
 ·have main:∀(j:Key) (aw:ks),fG (fG B k ⟨b7 mem k,none,0⟩) k' ⟨b7 mem k',e.dc,e.size⟩ j=some aw->aw.dc=some b->(j=k'/\e.dc=some b)\/(j≠k'/\j≠k/\B j=some aw):=by
   intro j aw ay ah
   by_cases D:j=k'
   ·subst D;rw[gE] at ay
    cases ay;exact .inl ⟨rfl,ah⟩
   ·rw[gu _ _ D] at ay
    by_cases G:j=k
    ·subst G;rw[gE] at ay
     cases ay
     cases ah
    ·rw[gu _ _ G] at ay;exact .inr ⟨D,G,ay⟩
  rcases main j aw D kB with ⟨fq,hC⟩|⟨fq,s1,hC⟩<;>rcases main ka aB G e2 with ⟨eV,jb⟩|⟨eV,s2,jb⟩
  ·rw[fq,eV]
  ·exact absurd (h.inj k ka e aB b he jb hC e2).symm s2
  ·exact absurd (h.inj k j e aw b he hC jb kB).symm s1
  ·exact h.inj j ka aw aB b hC jb kB e2
 ·simp only[bI] at ay
  by_cases D:j=k'
  ·subst D;simp only[if_true,cz,eU] at ay;obtain⟨rfl,rfl⟩:=ay;obtain⟨b8,FE,bw,aL,ah⟩:=h.dc k g cs R;rw[he] at FE
   cases FE;refine⟨_,gE _ _ _,rfl,aL,λb ij=>?_⟩;obtain⟨vs,T,ag,aR,bs,b1⟩:=ah b ij;exact⟨vs,T,ag,aR,bs,λi m Q=>let ⟨v,ad,U⟩:=b1 i m Q;⟨v,ad,U.oI kO⟩⟩
  ·simp only[D,if_false] at ay;rw[gu _ _ D]
   by_cases G:j=k
   ·subst G;simp only[if_true,cz,eU] at ay;obtain⟨rfl,rfl⟩:=ay;exact⟨_,gE _ _ _,rfl,λ_=>rfl,λb ah=>by cases ah⟩
   ·simp only[G,if_false] at ay;rw[gu _ _ G];obtain⟨b8,FE,bw,aL,ah⟩:=h.dc j cR mQ ay;refine⟨b8,FE,bw,aL,λb ij=>?_⟩;obtain⟨vs,T,ag,aR,bs,b1⟩:=ah b ij;exact⟨vs,T,ag,aR,bs,λi m Q=>let ⟨v,ad,U⟩:=b1 i m Q;⟨v,ad,U.oI kO⟩⟩
theorem gT.ghost {a:Act}{st:bz}{bB:Lay}{mem':Mem}{tm':Nat->O}(h:gT n A ee gH a st w B)(aa:ea A w B w bB mem')(bV:∀s,tm' s=st.tm s\/bA w (ca A bB) bB (tm' s) (a.eval (.tmp s))):
  gT n A ee gH a ⟨tm',mem'⟩ w bB:=by
 refine⟨h.ok.trans aa,λs=>?_,h.sz,h.Fu⟩;rcases bV s with D|D
 ·simp only[D];exact (h.tm s).oI aa.kO
 ·exact D
theorem aij {K:bz->Prop}{a:Act}{st:bz}{g:IZ}(h:gT n A ee gH a st w B)(R:oN K st g):∃dy bB,K dy/\gT n A ee gH a dy w bB:=by
 have qI:∀x:bT,∃v,bA w (ca A B) B (bf st.tm x) v\/∃m,x=.c m:=λx=>by
  cases x with
  |t s=>exact⟨_,.inl (h.tm s)⟩
  |c m=>exact⟨undef,.inr ⟨m,rfl⟩⟩
 cases g with
 |nT s k sz =>
  simp only[oN] at R
  split at R
  ·rename_i aa;have ok:=ea.uy h.ok.dC k;refine⟨_,_,R,h.ghost ok λt=>?_⟩
   by_cases qQ:t=s
   ·subst qQ;have:=h.tm t;rw[aa] at this;simp only[hO,if_true];exact .inr (X9 (e:=⟨b7 st.mem k,none,0⟩) (gE _ _ _) this)
   ·exact .inl (by simp[hO,qQ])
  ·cases R
 |freeze s =>
  simp only[oN] at R
  split at R
  ·rename_i k g sz off len aa
   split at R
   ·rename_i c4 cs ir
    split at R
    ·rename_i bw;obtain⟨rfl,_⟩:=bw
     split at R
     ·rename_i d ae;have ok:=ea.uy h.ok.dC k;refine⟨_,_,R,h.ghost ok λt=>?_⟩
      by_cases qQ:t=s
      ·subst qQ;have ad:=h.tm t;rw[aa] at ad ae;simp only[hO,if_true];exact .inr (.J (FB h.ok.dC ir ae ad))
      ·exact .inl (by simp[hO,qQ])
     ·cases R
    ·cases R
   ·cases R
  ·cases R
 |WA x i k sz =>
  simp only[oN] at R
  split at R
  ·rename_i s0 g off I
   split at R
   ·rename_i c4 cs ir
    split at R
    ·rename_i bw;subst bw
     split at R
     ·rename_i E
      split at R
      ·rename_i bZ;have ok:=ea.uy h.ok.dC k;have qR:bI st.mem k (b7 st.mem k) [] s0=some (c4,cs):=by simp[bI,Ne.symm bZ,ir]
       obtain⟨e,he,cb,aL,ah⟩:=h.ok.dC.at_ ir
       obtain⟨bB,qS⟩:=zI (w1:=w) (m':=.ref k (b7 st.mem k) sz 0 0) ok.dC qR E (λaB b v eO e2 ad=>by
        rw[gu B _ (Ne.symm bZ)] at eO;rw[he] at eO
        cases eO;obtain⟨vs,T,a6,a8,hle,cK⟩:=ah b e2;have az:off+i<o cs:=(ef.1 E).1;rw[cell_of_row w b (off+i) vs T (0,0) a6] at ad;have U:=cK.2 (off+i) _ v E (by rw[nq az,Array.getElem?_toList];exact ad);exact X9 (e:=⟨b7 st.mem k,none,0⟩) (gE _ _ _) U)
       exact⟨_,bB,R,h.ghost (ok.trans qS) λt => .inl rfl⟩
      ·cases R
     ·cases R
    ·cases R
   ·cases R
  ·cases R
 |WB x i =>
  simp only[oN] at R
  split at R
  ·rename_i s0 gc off I
   split at R
   ·rename_i Na cc Ya
    split at R
    ·rename_i bw;subst bw
     split at R
     ·rename_i k g sz ar len E
      split at R
      ·rename_i c4 cs ir
       split at R
       ·rename_i bw;obtain⟨rfl,_,bZ⟩:=bw
        split at R
        ·rename_i d ae;have ok:=ea.uy h.ok.dC k;have qR:bI st.mem k (b7 st.mem k) [] s0=some (Na,cc):=by simp[bI,Ne.symm bZ,Ya]
         obtain⟨e,he,cb,aL,ah⟩:=h.ok.dC.at_ Ya
         obtain⟨bB,qS⟩:=zI (w1:=w) (m':=.J d) ok.dC qR E (λaB b v eO e2 ad=>by
          rw[gu B _ (Ne.symm bZ)] at eO;rw[he] at eO
          cases eO;obtain⟨vs,T,a6,a8,hle,cK⟩:=ah b e2;have az:off+i<o cc:=(ef.1 E).1;rw[cell_of_row w b (off+i) vs T (0,0) a6] at ad;have U:=cK.2 (off+i) _ v E (by rw[nq az,Array.getElem?_toList];exact ad);exact .J (FB h.ok.dC ir ae U))
         exact⟨_,bB,R,h.ghost (ok.trans qS) λt => .inl rfl⟩
        ·cases R
       ·cases R
      ·cases R
     ·cases R
    ·cases R
   ·cases R
  ·cases R
 |move =>
  rcases R with R|⟨gY,hQ,gN,i,k,g,sz,off,len,cs,k',hq,E,r0,D,G,ag,R⟩|⟨gY,hQ,gN,i,k,g,sz,off,len,cs,d,hq,E,ir,-,bZ,ae,R⟩
  ·exact⟨st,B,R,h⟩
  ·obtain⟨e,he,cb,aL,ah⟩:=h.ok.dC.at_ r0;have ok:=ea.move h.ok.dC r0 he G;have qR:bI (bI st.mem k (b7 st.mem k) []) k' (b7 st.mem k') cs gY=some (hQ,gN):=by simp[bI,Ne.symm D,Ne.symm ag,hq]
   obtain⟨ex,hex,Yb,ky,FF⟩:=h.ok.dC.at_ hq
   obtain⟨bB,qS⟩:=zI (w1:=w) (m':=.ref k' (b7 st.mem k') sz off len) ok.dC qR E (λaB b v eO e2 ad=>by
    rw[gu _ _ (Ne.symm ag),gu _ _ (Ne.symm D)] at eO;rw[hex] at eO
    cases eO;obtain⟨vs,T,a6,a8,hle,cK⟩:=FF b e2;have az:i<o gN:=(ef.1 E).1;rw[cell_of_row w b i vs T (0,0) a6] at ad;have U:=cK.2 i _ v E (by rw[nq az,Array.getElem?_toList];exact ad)
    cases U with
    |ref eO hgle U =>
     rw[he] at eO
     cases eO;obtain⟨a,cap,rfl,aR,bs,b1⟩:=U;refine .ref (gE _ _ _) (cA _) ⟨a,cap,rfl,aR,bs,b1.imp id ?_⟩;rintro⟨dO,rfl,cd⟩;exact⟨dO,rfl,λ_=>cd cb.symm⟩)
   exact⟨_,bB,R,h.ghost (ok.trans qS) λt => .inl rfl⟩
  ·have ok:=ea.uy h.ok.dC k;have qR:bI st.mem k (b7 st.mem k) [] gY=some (hQ,gN):=by simp[bI,Ne.symm bZ,hq]
   obtain⟨e,he,cb,aL,ah⟩:=h.ok.dC.at_ hq
   obtain⟨bB,qS⟩:=zI (w1:=w) (m':=.J d) ok.dC qR E (λaB b v eO e2 ad=>by
    rw[gu B _ (Ne.symm bZ)] at eO;rw[he] at eO
    cases eO;obtain⟨vs,T,a6,a8,hle,cK⟩:=ah b e2;have az:i<o gN:=(ef.1 E).1;rw[cell_of_row w b i vs T (0,0) a6] at ad;have U:=cK.2 i _ v E (by rw[nq az,Array.getElem?_toList];exact ad);exact .J (FB h.ok.dC ir ae U))
   exact⟨_,bB,R,h.ghost (ok.trans qS) λt => .inl rfl⟩
 |many =>
  obtain⟨mem',NO,R⟩:=R
  have main:∀{pV cJ:Mem},sZ pV cJ->∀B,gT n A ee gH a ⟨st.tm,pV⟩ w B->∃bB,gT n A ee gH a ⟨st.tm,cJ⟩ w bB:=by
   intro pV cJ NO
   induction NO with
   |refl mem=>exact λB h=>⟨B,h⟩
   | @step pV cJ cE aa _ aA =>
    intro B h
    have one:∃bB,gT n A ee gH a ⟨st.tm,cJ⟩ w bB:=by
     cases aa with
     |af3 gY hQ gN i k g sz off len cs k' hq E r0 D G ag =>
      obtain⟨e,he,cb,aL,ah⟩:=h.ok.dC.at_ r0;have ok:=ea.move h.ok.dC r0 he G;have qR:bI (bI pV k (b7 pV k) []) k' (b7 pV k') cs gY=some (hQ,gN):=by simp[bI,Ne.symm D,Ne.symm ag,hq]
      obtain⟨ex,hex,Yb,ky,FF⟩:=h.ok.dC.at_ hq
      obtain⟨bB,qS⟩:=zI (w1:=w) (m':=.ref k' (b7 pV k') sz off len) ok.dC qR E (λaB b v eO e2 ad=>by
       rw[gu _ _ (Ne.symm ag),gu _ _ (Ne.symm D)] at eO;rw[hex] at eO
       cases eO;obtain⟨vs,T,a6,a8,hle,cK⟩:=FF b e2;have az:i<o gN:=(ef.1 E).1;rw[cell_of_row w b i vs T (0,0) a6] at ad;have U:=cK.2 i _ v E (by rw[nq az,Array.getElem?_toList];exact ad)
       cases U with
       |ref eO hgle U =>
        rw[he] at eO
        cases eO;obtain⟨a,cap,rfl,aR,bs,b1⟩:=U;refine .ref (gE _ _ _) (cA _) ⟨a,cap,rfl,aR,bs,b1.imp id ?_⟩;rintro⟨dO,rfl,cd⟩;exact⟨dO,rfl,λ_=>cd cb.symm⟩)
      exact⟨bB,h.ghost (ok.trans qS) λt => .inl rfl⟩
     |af4 gY hQ gN i k g off cs k' hq E r0 D G ag =>
      obtain⟨e,he,cb,aL,ah⟩:=h.ok.dC.at_ r0;have ok:=ea.move h.ok.dC r0 he G;have qR:bI (bI pV k (b7 pV k) []) k' (b7 pV k') cs gY=some (hQ,gN):=by simp[bI,Ne.symm D,Ne.symm ag,hq]
      obtain⟨ex,hex,Yb,ky,FF⟩:=h.ok.dC.at_ hq
      obtain⟨bB,qS⟩:=zI (w1:=w) (m':=.ptr k' (b7 pV k') off) ok.dC qR E (λaB b v eO e2 ad=>by
       rw[gu _ _ (Ne.symm ag),gu _ _ (Ne.symm D)] at eO;rw[hex] at eO
       cases eO;obtain⟨vs,T,a6,a8,hle,cK⟩:=FF b e2;have az:i<o gN:=(ef.1 E).1;rw[cell_of_row w b i vs T (0,0) a6] at ad;have U:=cK.2 i _ v E (by rw[nq az,Array.getElem?_toList];exact ad)
       cases U with
       |ptr eO hgle U =>
        rw[he] at eO
        cases eO;obtain⟨dO,rfl,cd⟩:=U;exact .ptr (gE _ _ _) (cA _) ⟨dO,rfl,λ_=>cd cb.symm⟩)
      exact⟨bB,h.ghost (ok.trans qS) λt => .inl rfl⟩
     |WC gY hQ gN i k g sz off len cs d hq E ir bZ ae =>
      have ok:=ea.uy h.ok.dC k;have qR:bI pV k (b7 pV k) [] gY=some (hQ,gN):=by simp[bI,Ne.symm bZ,hq]
      obtain⟨e,he,cb,aL,ah⟩:=h.ok.dC.at_ hq
      obtain⟨bB,qS⟩:=zI (w1:=w) (m':=.J d) ok.dC qR E (λaB b v eO e2 ad=>by
       rw[gu B _ (Ne.symm bZ)] at eO;rw[he] at eO
       cases eO;obtain⟨vs,T,a6,a8,hle,cK⟩:=ah b e2;have az:i<o gN:=(ef.1 E).1;rw[cell_of_row w b i vs T (0,0) a6] at ad;have U:=cK.2 i _ v E (by rw[nq az,Array.getElem?_toList];exact ad);exact .J (FB h.ok.dC ir ae U))
      exact⟨bB,h.ghost (ok.trans qS) λt => .inl rfl⟩
    obtain⟨bB,cu⟩:=one;exact aA bB cu
  obtain⟨bB,cu⟩:=main NO B h;exact⟨_,bB,R,cu⟩
def erase:e6->e6
 |.skip => .skip
 |.ops l => .ops l
 |.pN l c => .pN l c
 |.seq a b => .seq (erase a) (erase b)
 |.cond c a b => .cond c (erase a) (erase b)
 |.block id c => .block id (erase c)
 |.loop c => .loop (erase c)
 |.exit id => .exit id
 |.ret => .ret
 |.ghost _ c=>erase c
def Yc:fA->Exit
 |.normal => .normal
 |.exit id => .exit id
 |.ret => .ret
def aik (P:Program)(n kb:Nat)(own:List Nat)(c:Code):e6->Prop
 |.skip=>c=.skip
 |.ops l=>∃id ops,c=.region id ops false/\ops.toList.mapM (xw P n kb own ops)=some l
 |.pN l ch=>∃id ops,c=.region id ops true/\ops.toList.mapM (xw P n kb own ops)=some l/\BO ops l=true/\ch=vJ [] l (nX ops.toList [])
 |.seq x y=>∃a b,c=.seq a b/\nY P n kb own a=some x/\nY P n kb own b=some y
 |.cond x y z=>∃iu a b,c=.cond iu a b/\dt iu=some x/\nY P n kb own a=some y/\nY P n kb own b=some z
 |.block id x=>∃a,c=.block id a/\nY P n kb own a=some x
 |.loop x=>∃a,c=.loop a/\nY P n kb own a=some x
 |.exit id=>c=.exit id
 |.ret=>c=.ret
 |.ghost ..=>False
theorem vW {c:Code}{m:e6}(h:nY P n kb own c=some m):aik P n kb own c m:=by
 cases c<;>simp only[nY,cz,reduceCtorEq,dI] at h
 case skip=>subst h;rfl
 case region id ops draw =>
  split at h
  ·rename_i l ax
   split at h
   ·rename_i ae;subst ae
    split at h
    ·rename_i ff
     cases h;exact⟨id,ops,rfl,ax,ff,rfl⟩
    ·cases h
   ·rename_i ae
    cases h;exact⟨id,ops,by rw[Bool.not_eq_true] at ae;rw[ae],ax⟩
  ·cases h
 case seq a b =>
  split at h
  ·rename_i x y I ak
   cases h;exact⟨a,b,rfl,I,ak⟩
  ·cases h
 case cond x a b =>
  split at h
  ·rename_i iu y z I ak a8
   cases h;exact⟨x,a,b,rfl,I,ak,a8⟩
  ·cases h
 case block id a =>
  obtain⟨x,I,rfl⟩:=h;exact⟨a,rfl,I⟩
 case loop a =>
  obtain⟨x,I,rfl⟩:=h;exact⟨a,rfl,I⟩
 case exit id=>subst h;rfl
 case ret=>subst h;rfl
theorem xJ (cG:oU P T)(hm:P.follows .mixedOrders=true):∀(JE:e6) (c:Code) (K:fA->bz->Prop) (aT:Exit->Act->World->Prop) (st:bz) (a:Act) (w:World) (B:Lay),
  nY P n kb own c=some (erase JE)->gT n A ee gH a st w B->wp T JE K st->(∀e st a w B,K e st->gT n A ee gH a st w B->aT (Yc e) a w)->c.wp P aT a w
 |.ghost g JE,c,K,aT,st,a,w,B,aW,aa,h,fr=>by
  obtain⟨dy,bB,R,h3⟩:=aij aa h;exact xJ cG hm JE c K aT dy a w bB aW h3 R fr
 |.skip,c,K,aT,st,a,w,B,aW,aa,h,fr=>by
  obtain rfl:=vW aW;exact Go.wp_skip (fr .normal st a w B h aa)
 |.exit id,c,K,aT,st,a,w,B,aW,aa,h,fr=>by
  obtain rfl:=vW aW;exact Go.wp_exit (fr (.exit id) st a w B h aa)
 |.ret,c,K,aT,st,a,w,B,aW,aa,h,fr=>by
  obtain rfl:=vW aW;exact Go.wp_ret (fr .ret st a w B h aa)
 |.ops l,c,K,aT,st,a,w,B,aW,aa,h,fr=>by
  obtain⟨id,ops,rfl,ax⟩:=vW aW;have:=NN (aT:=aT) (K:=K .normal) cG ax (λst a w B R aa=>fr .normal st a w B R aa) l 0 st a w B rfl aa h;refine Go.wp_region ?_;rw[(me ax).1,Array.length_toList] at this;rw[List.range_eq_range'];exact this
 |.pN l ch,c,K,aT,st,a,w,B,aW,aa,h,fr=>by
  obtain⟨id,ops,rfl,ax,ae,rfl⟩:=vW aW;exact aih cG hm ax ae aa h λst a w B R aa=>fr .normal st a w B R aa
 |.seq x y,c,K,aT,st,a,w,B,aW,aa,h,fr=>by
  obtain⟨iu,y',rfl,I,ak⟩:=vW aW;refine Go.wp_seq (xJ cG hm x iu _ _ st a w B I aa h λe dy il aI bB R h3=>?_)
  cases e with
  |normal=>exact xJ cG hm y y' _ _ dy il aI bB ak h3 R fr
  |exit id=>exact fr (.exit id) dy il aI bB R h3
  |ret=>exact fr .ret dy il aI bB R h3
 |.cond x y z,c,K,aT,st,a,w,B,aW,aa,h,fr=>by
  obtain⟨iu,y',ail,rfl,I,ak,a8⟩:=vW aW;have ad:=aa.qM iu x I;simp only[wp] at h
  split at h
  ·rename_i t bV;rw[bV] at ad;refine Go.wp_cond ad.zn ?_
   cases t with
   |true=>exact xJ cG hm y y' _ _ st a w B ak aa h fr
   |false=>exact xJ cG hm z ail _ _ st a w B a8 aa h fr
  ·cases h
 |.block id x,c,K,aT,st,a,w,B,aW,aa,h,fr=>by
  obtain⟨iu,rfl,I⟩:=vW aW;refine Go.wp_block (xJ cG hm x iu _ _ st a w B I aa h λe dy il aI bB R h3=>?_)
  cases e with
  |normal=>exact fr .normal dy il aI bB R h3
  |exit j =>
   simp only[Yc,Exit.inBlock];simp only at R
   split
   ·rename_i ay;rw[aj ay] at R;exact fr .normal dy il aI bB R h3
   ·rename_i ay;rw[aq ay] at R;exact fr (.exit j) dy il aI bB R h3
  |ret=>exact fr .ret dy il aI bB R h3
 |.loop x,c,K,aT,st,a,w,B,aW,aa,h,fr=>by
  obtain⟨iu,rfl,I⟩:=vW aW;obtain⟨zl,μ,FG,JF⟩:=h
  have key:∀m (st:bz) (a:Act) (w:World) (B:Lay),μ st<m->zl st->gT n A ee gH a st w B->Code.rounds P iu aT m a w:=by
   intro m
   induction m with
   |zero=>intro st a w B lq;omega
   |succ m aA =>
    intro st a w B lq FG aa;refine xJ cG hm x iu _ _ st a w B I aa (JF st FG) λe dy il aI bB R h3=>?_
    cases e with
    |normal=>exact aA dy il aI bB (by have:=R.2;omega) R.1 h3
    |exit id=>exact fr (.exit id) dy il aI bB R h3
    |ret=>exact fr .ret dy il aI bB R h3
  exact wp_loop_rounds (μ st+1) (key _ st a w B (Nat.lt_succ_self _) FG aa)
end Go.Mini
namespace Go.Mini
open Go
variable {P:Program} {T:br} {A:Nat->Prop} {ee w:World} {gH B:Lay} {mem:Mem} {n kb:Nat} {own:List Nat}
theorem aim {a:Act}{st:bz}{r:ResultVar}{dC:mc}{m:O}(aa:gT n A ee gH a st w B)(aW:BP P r=some dC)(h:BJ st dC=some m):
  ∃v,((match r with
   |.tmp t=>pure (a.tmps.getD t undef)
   |.cell b t=>do loadVar t (<-asAddr (a.tmps.getD b undef)):Sem Value)).run P w=.ok v w/\bA w (ca A B) B m v:=by
 cases r with
 |tmp t =>
  simp only[BP,cz] at aW;subst aW;simp only[BJ,cz] at h;subst h;exact⟨_,rfl,aa.tm t⟩
 |cell b t =>
  simp only[BP] at aW
  split at aW
  ·rename_i s g eu vN;simp only[cz] at aW;subst aW;obtain⟨dc,off,ms,vs,ad,ax,cK,g7,U⟩:=WM aa.ok.dC (aa.tm b) h;obtain⟨u,D,G⟩:=WL (P:=P) eu vN ax cK g7 U;refine⟨u,?_,G⟩;have:a.tmps.getD b undef=.pointer (some ⟨dc,off,none⟩):=ad;simp only[this,asAddr,Sem.run_bind,Sem.run_pure,Result.andThen_ok];exact D
  ·cases aW
theorem Yd {a:Act}{st:bz}(aa:gT n A ee gH a st w B):∀{l:List ResultVar} {rs:List mc} {ms:List O},l.mapM (BP P)=some rs->rs.mapM (BJ st)=some ms ->
  ∃vs:List Value,(l.mapM λr=>((match r with
   |.tmp t=>pure (a.tmps.getD t undef)
   |.cell b t=>do loadVar t (<-asAddr (a.tmps.getD b undef)):Sem Value))).run P w=.ok vs w/\db w (ca A B) B ms vs
 | [],rs,ms,D,G=>by
  simp at D;subst D;simp at G;subst G;exact⟨[],rfl,db.nil⟩
 |r::l,rs,ms,D,G=>by
  simp only[lT,gv,gF,dQ,cz] at D;obtain⟨x,I,xs,vX,rfl⟩:=D;simp only[lT,gv,gF,dQ,cz] at G;obtain⟨m,hm,axE,aY,rfl⟩:=G;obtain⟨v,ad,U⟩:=aim aa I hm;obtain⟨vs,a7,cK⟩:=Yd aa vX aY;refine⟨v::vs,?_,db.cons U cK⟩;simp only[lT,Sem.run_bind,ad,Result.andThen_ok,a7,Sem.run_pure]
theorem Ye {a:Act}{st:bz}{fn:Func}{rs:List mc}{m:O}(aa:gT n A ee gH a st w B)(aW:fn.results.toList.mapM (BP P)=some rs)(h:nc st rs=some m):
  ∃v,(results fn a.tmps).run P w=.ok v w/\bA w (ca A B) B m v:=by
 unfold nc at h
 have main:∀ms,rs.mapM (BJ st)=some ms->∃vs:List Value,(results fn a.tmps).run P w=.ok (if h:vs.toArray.size=1 then vs.toArray[0] else .tuple vs.toArray) w/\db w (ca A B) B ms vs:=by
  intro ms aY;obtain⟨vs,D,G⟩:=Yd aa aW aY;refine⟨vs,?_,G⟩;unfold results;rw[Array.mapM_eq_mapM_toList,map_eq_pure_bind];simp only[Sem.run_bind,Sem.run_pure];have vY:=D;generalize aF:(List.mapM _ fn.results.toList:Sem (List Value))=q;have:q.run P w=.ok vs w:=by rw[<-aF];exact vY
  rw[this]
  rfl
 split at h
 ·rename_i x aY;simp only[cz] at h;subst h;obtain⟨vs,D,G⟩:=main _ aY;have ax:=G.1;simp at ax;obtain⟨v,rfl⟩:=Yf.1 ax;exact⟨v,D,G.2 0 _ v rfl rfl⟩
 ·rename_i ms bZ aY;simp only[cz] at h;subst h;obtain⟨vs,D,G⟩:=main _ aY;have ax:=G.1;refine⟨_,D,?_⟩
  have:¬ (vs.toArray.size=1):=λh=>by
   have cu:(o ms)=1:=by rw[<-ax];simpa using h
   obtain⟨x,rfl⟩:=Yf.1 cu;exact bZ x rfl
  rw[dif_neg this];exact .cQ ax G.2
 ·cases h
def NP (mf:bP)(Post:O->Mem->Prop):fA->bz->Prop
 |.exit _,_=>False
 |_,st=>∃m,nc st mf.res=some m/\Post m st.mem
theorem JG (cG:oU P T)(hm:P.follows .mixedOrders=true){f:FuncId}{fn:Func}{mf:bP}(aN:P.funcs[f]?=some fn)(aW:qC P kb own fn=some { mf with body:=erase mf.body }){args:List O}(lW:(o args)<=mf.n)
  {Post:O->Mem->Prop} {K:fA->bz->Prop} (hV:∀e st,K e st->NP mf Post e st) (h:wp T mf.body K ⟨nd args,mem⟩) {A:Nat->Prop} {w:World} {B:Lay} {vs:List Value} (bY:eK A w B mem) (ad:db w (ca A B) B args vs) :
  Calls P f vs.toArray w λe aI=>∃v m mem' bB,e=.returned v/\ea A w B aI bB mem'/\bA aI (ca A bB) bB m v/\Post m mem':=by
 unfold qC at aW
 split at aW
 ·cases aW
 ·rename_i c ah
  split at aW
  ·rename_i b rs E NQ;simp only[cz,bP.mk.injEq] at aW;obtain⟨aL,axF,hD,ain⟩:=aW;have eu:(o vs)=o args:=ad.1;refine calls_of_wp aN ah ?_;rw[ain] at E;refine xJ cG hm mf.body c K _ ⟨nd args,mem⟩ _ w B E ⟨.refl bY,λs=>?_,?_,rfl⟩ h λe st a aI bB oZ aa=>?_
   ·simp only[nd,Act.eval,Array.getD_eq_getD_getElem?];rcases h1 s (o vs) with az|cb
    ·have D:args[s]?=some args[s]:=bL (by omega)
     have G:(vs.toArray++Array.replicate (fn.ntmps-vs.toArray.size) undef)[s]?=some vs[s]:=by
      rw[Array.getElem?_append_left (by simpa using az)];simp[az]
     rw[D,G];exact ad.2 s _ _ D (bL az)
    ·rw[List.getElem?_eq_none (by omega),Array.getElem?_append_right (by simpa using cb)]
     have:((Array.replicate (fn.ntmps-vs.toArray.size) undef)[s-vs.toArray.size]?).getD undef=undef:=by
      cases aF:(Array.replicate (fn.ntmps-vs.toArray.size) undef)[s-vs.toArray.size]? with
      |none=>rfl
      |some u =>
       have:=Array.mem_of_getElem? aF;simp at this;simp[this.2]
     rw[this];exact .no
   ·simp;omega
   ·have R:=hV e st oZ
    cases e with
    |exit id=>cases R
    |normal =>
     obtain⟨m,lq,aG⟩:=R;obtain⟨v,kT,n0⟩:=Ye aa NQ (by rw[hD];exact lq);exact⟨aa.Fu,v,kT,v,m,_,bB,rfl,aa.ok,n0,aG⟩
    |ret =>
     obtain⟨m,lq,aG⟩:=R;obtain⟨v,kT,n0⟩:=Ye aa NQ (by rw[hD];exact lq);exact⟨aa.Fu,v,kT,v,m,_,bB,rfl,aa.ok,n0,aG⟩
  ·cases aW
inductive dF where
 |same (r:Data)
 |own (sz:Nat) (es:List (List Data))
def vZ (w:World)(aS:Nat->Prop)(ds:List Data)(vs:List Value):Prop:=o vs=o ds/\∀(i:Nat) (d:Data) (v:Value),ds[i]?=some d->vs[i]?=some v->Den w aS d v
def aio (w aI:World)(aS:Nat->Prop):dF->Value->Prop
 |.same r,v=>Den aI aS r v
 |.own sz es,v=>xF w aI aS sz es v
structure oa (P:Program) (f:FuncId) (a1:List Data->Option dF):Prop where
 real:Real P f
 run:∀ds r,a1 ds=some r->∀(A:Nat->Prop) (w:World) (vs:List Value),(∀b,A b->b<w.heap.size)->vZ w A ds vs ->
  Calls P f vs.toArray w λe aI=>∃v,e=.returned v/\Fr (λ_=>False) w aI/\aio w aI A r v
def Yg:dF->O->Mem->Prop
 |.same r,m,mem=>∃d,da d mem m=some r
 |.own sz es,m,mem=>(m=.nil/\es=[])\/∃k g len cs ds d,m=.ref k g sz 0 len/\mem k=some (g,cs)/\len*sz<=o cs/\(cs.take (len*sz)).mapM (da d (kill mem k))=some ds/\es=chunk sz len ds
def te (sz:Nat)(mem:Mem):O->Option (List (List Data))
 |.nil=>some []
 |.ref k g dZ off len=>if dZ=sz/\off=0 then (match mem k with
  |some (c4,cs)=>if c4=g/\len*sz<=(o cs) then ((cs.take (len*sz)).mapM (da 6 (kill mem k))).map (chunk sz len) else none
  |none=>none) else none
 |_=>none
def v7 (res:List mc):dF->bz->Prop
 |.same r,st=>(nc st res).bind (da 6 st.mem)=some r
 |.own sz es,st=>(nc st res).bind (te sz st.mem)=some es
def uM (res:List mc)(r:dF):fA->bz->Prop
 |.exit _,_=>False
 |.normal,st=>v7 res r st
 |.ret,st=>v7 res r st
theorem Yh {mf:bP}{r:dF}{st:bz}(h:v7 mf.res r st):∃m,nc st mf.res=some m/\Yg r m st.mem:=by
 cases r with
 |same r =>
  simp only[v7,dQ] at h;obtain⟨m,D,G⟩:=h;exact⟨m,D,6,G⟩
 |own sz es =>
  simp only[v7,dQ] at h;obtain⟨m,D,G⟩:=h;refine⟨m,D,?_⟩
  cases m<;>simp only[te,cz,reduceCtorEq] at G
  ·exact .inl ⟨rfl,G.symm⟩
  ·split at G
   ·rename_i E;obtain⟨rfl,rfl⟩:=E
    split at G
    ·rename_i c4 cs R
     split at G
     ·rename_i bw;obtain⟨rfl,hle⟩:=bw;simp only[dI] at G;obtain⟨ds,gh,rfl⟩:=G;exact .inr ⟨_,_,_,cs,ds,6,rfl,R,hle,gh,rfl⟩
     ·cases G
    ·cases G
   ·cases G
theorem aip {mf:bP}{r:dF}{e:fA}{st:bz}(h:uM mf.res r e st):NP mf (Yg r) e st:=by
 cases e with
 |exit id=>exact h
 |normal=>exact Yh h
 |ret=>exact Yh h
theorem JH (b:Nat):¬ pJ (λ_=>none) b:=fun⟨_,_,h,_⟩=>by cases h
theorem Yi (cG : oU P T)(hm : P.follows .mixedOrders = true){f : FuncId}{fn : Func}{mf : bP}(aN : P.funcs[f]? = some fn)(tf : (fn.name == "runtime.NumGoroutine") = false)(aW : qC P kb own fn = some { mf with body := erase mf.body })
  {a1:List Data->Option dF} (h:∀ds r,a1 ds=some r->(o ds)<=mf.n/\wp T mf.body (uM mf.res r) ⟨nd (ds.map .J),emp⟩):oa P f a1:=by
 refine⟨?_,λds r e3 A w vs az qL=>?_⟩
 ·cases ah:fn.body with
  |none=>simp[qC,ah] at aW
  |some c=>exact⟨fn,c,aN,ah,tf⟩
 ·obtain⟨hlen,zJ⟩:=h ds r e3;have bY:eK A w (λ_=>none) emp:=⟨λ_ _=>rfl,λ_ _ _ _ _ h=>(by cases h),λb _ bM=>JH b bM,az,λ_ _ _ h=>(by cases h)⟩;have fo:∀b,ca A (λ_=>none) b->A b:=λb h=>h.elim (λh=>(JH b h).elim) id;have cK:db w (ca A λ_=>none) (λ_=>none) (ds.map .J) vs:=db.J qL.1 λi d v D G=>(qL.2 i d v D G).less fo;refine Calls.mono (JG cG hm aN aW (by simpa using hlen) (λe st=>aip) zJ bY cK) λe aI he=>?_;obtain⟨v,m,mem',bB,rfl,aa,ad,aG⟩:=he;refine⟨v,rfl,⟨aa.aC.os,aa.aC.tape,aa.aC.output,aa.aC.size,λg bw _=>aa.aC.block g bw (JH g)⟩,?_⟩
  cases r with
  |same r =>
   obtain⟨d,ae⟩:=aG;exact snap aa.dC (λb ah=>ah) d m v r ae ad
  |own sz es =>
   rcases aG with ⟨rfl,rfl⟩|⟨k,g,len,cs,zG,d,rfl,R,hle,gh,rfl⟩
   ·cases ad;exact⟨by simp,_,0,rfl,cA _,fY _,.inl rfl⟩
   ·obtain⟨D,G⟩:=me gh;have FH:(o zG)=len*sz:=by rw[D,gO];omega
    refine⟨Jj sz len zG FH,?_⟩;rw[Ji,Jk sz len zG FH]
    cases ad with
    |ref he hgle U =>
     obtain⟨e,fy,cb,aL,ah⟩:=aa.dC.at_ R;rw[fy] at he;obtain rfl:=ln he;obtain⟨a,cap,rfl,ag,aR,bs⟩:=U;refine⟨a,cap,rfl,ag,aR,bs.imp id ?_⟩;rintro⟨b,rfl,b1⟩;obtain⟨cd,de⟩:=b1 cb.symm;obtain⟨mh,aiq,a6,a8,Fs,vS⟩:=ah b cd;obtain⟨air,iw⟩:=kill_shut aa.dC R fy cd;refine⟨b,mh,aiq,rfl,?_,a6,by simpa [a8] using de,λi x I=>?_⟩
     ·rcases aa.fresh b ⟨k,_,fy,cd⟩ with h|h
      ·exact (JH b h).elim
      ·exact h
     ·have Yj:i<o zG:=(ef.1 I).1;have hr:i<o cs:=by omega
      have g8:(cs.take (len*sz))[i]?=some cs[i]:=by
       rw[nq (by omega)];exact bL hr
      have FC:i<mh.size:=by omega
      refine⟨mh[i],Array.getElem?_eq_getElem FC,snap air (λb ah=>ah) d _ _ x (G i _ x g8 I) (iw _ _ (vS.2 i _ _ (bL hr) ?_))⟩;rw[nq hr,Array.getElem?_toList];exact Array.getElem?_eq_getElem FC
def scalar:Data->Bool
 |.int _ _=>true
 |.bool _=>true
 |.str _=>true
 |.vD=>true
 |.um=>true
 |.X []=>true
 |.cQ ds=>ds.attach.all fun⟨d,_⟩=>scalar d
 |.agg ds=>ds.attach.all fun⟨d,_⟩=>scalar d
 |_=>false
theorem Yk {aS kr:Nat->Prop}{d:Data}{v:Value}(h:scalar d=true)(ae:Den w aS d v):Den w kr d v:=by
 induction ae with
 |int=>exact .int
 |bool=>exact .bool
 |str=>exact .str
 |vD=>exact .vD
 |um=>exact .um
 |j7=>exact .j7
 | @X es b off c sz val ax hm ah fo eu E ae aA =>
  cases es with
  |nil=>exact .j7
  |cons=>simp[scalar] at h
 |ptr=>simp[scalar] at h
 |fn=>simp[scalar] at h
 | @agg cs vs ax ae aA =>
  simp only[scalar,h2,Yl,true_imp_iff,Subtype.forall] at h;exact .agg ax λi d v D G=>aA i d v D G (h d (eN D))
 | @cQ cs vs ax ae aA =>
  simp only[scalar,h2,Yl,true_imp_iff,Subtype.forall] at h;exact .cQ ax λi d v D G=>aA i d v D G (h d (eN D))
theorem Ym {aS:Nat->Prop}:∀(d:Nat) (m:O) (v:Value) (r:Data),da d emp m=some r->bA w aS B m v->Den w aS r v:=by
 intro d
 induction d with
 |zero =>
  intro m v r h ad
  cases m<;>simp only[da,cz,reduceCtorEq] at h
  ·subst h;cases ad with|J h=>exact h
  ·subst h;cases ad;exact .j7
 |succ d aA =>
  intro m v r h ad
  have lists:∀(cs:List O) (vs:List Value) (ds:List Data),cs.mapM (da d emp)=some ds->(o vs)=(o cs)->(∀(i:Nat) (x:O) (u:Value),cs[i]?=some x->vs[i]?=some u->bA w aS B x u) ->
    (o vs)=o ds/\∀(i:Nat) (x:Data) (u:Value),ds[i]?=some x->vs[i]?=some u->Den w aS x u:=by
   intro cs vs ds gh ax U;obtain⟨D,G⟩:=me gh;refine⟨by omega,λi x u I hu=>?_⟩
   have az:i<o cs:=by have:=(ef.1 I).1;omega
   have g8:=bL az;exact aA _ u x (G i _ x g8 I) (U i _ u g8 hu)
  cases m<;>simp only[da,emp,cz,dI,reduceCtorEq] at h
  case J=>subst h;cases ad with|J h=>exact h
  case nil=>subst h;cases ad;exact .j7
  case e5 f cs =>
   obtain⟨ds,gh,rfl⟩:=h
   cases ad with
   |e5 ax ae=>obtain⟨D,G⟩:=lists _ _ _ gh ax ae;exact .fn D G
  case agg cs =>
   obtain⟨ds,gh,rfl⟩:=h
   cases ad with
   |agg ax ae=>obtain⟨D,G⟩:=lists _ _ _ gh ax ae;exact .agg D G
  case cQ cs =>
   obtain⟨ds,gh,rfl⟩:=h
   cases ad with
   |cQ ax ae=>obtain⟨D,G⟩:=lists _ _ _ gh ax ae;exact .cQ D G
def JI:dF->gg
 |.same r => .same r
 |.own sz es => .own sz es
def o0:dF->Option gg
 |.same r=>if scalar r=true then some (.same r) else none
 |.own sz es=>if (es.all λe=>e.all scalar)=true then some (.own sz es) else none
def JJ (a1:List Data->Option dF):Option (List Data)->Option gg
 |some ds=>(a1 ds).bind o0
 |none=>none
def Ca (a1:List Data->Option dF):Option (List Data)->Option (List Data)->Option gg
 |some ds,_=>(a1 ds).map JI
 |none,x=>JJ a1 x
def aK (a1:List Data->Option dF)(args:List O)(mem:Mem):Option gg:=Ca a1 (args.mapM (da 6 emp)) (args.mapM (da 6 mem))
def xK (kf:FuncId->Option (List Data->Option dF)):br:=λf args mem=>match kf f with
 |some a1=>aK a1 args mem
 |none=>none
theorem Yn {aS:Nat->Prop}{g:O->Option Data}{args:List O}{ds:List Data}{vs:List Value}(h:args.mapM g=some ds)(ad:db w aS B args vs){kr:Nat->Prop}(ae:∀m v r,g m=some r->bA w aS B m v->Den w kr r v):vZ w kr ds vs:=by
 obtain⟨D,G⟩:=me h;refine⟨by rw[ad.1,D],λi d v mg lk=>?_⟩
 have az:i<o args:=by have:=(ef.1 mg).1;omega
 have xL:=bL az;exact ae _ v d (G i _ d xL mg) (ad.2 i _ v xL lk)
theorem Yo {kf:FuncId->Option (List Data->Option dF)}(h:∀f a1,kf f=some a1->oa P f a1):oU P (xK kf):=by
 intro f args mem np hg;unfold xK at hg
 split at hg
 ·rename_i a1 e3;have h4:=h f a1 e3;refine⟨h4.real,λA w B vs bY ad=>?_⟩;unfold aK at hg
  cases gh:args.mapM (da 6 emp) with
  |some ds =>
   rw[gh] at hg;simp only[Ca,dI] at hg;obtain⟨r,U,rfl⟩:=hg;have E:=h4.run ds r U (ca A B) w vs (λb ah=>ah.elim (λh=>bY.uo h) (bY.lt b)) (Yn gh ad λm v r=>Ym 6 m v r)
   cases r with
   |same r=>exact E
   |own sz es=>exact E
  |none =>
   rw[gh] at hg;simp only[Ca] at hg
   cases gh:args.mapM (da 6 mem) with
   |none=>rw[gh] at hg;cases hg
   |some ds =>
    rw[gh] at hg;simp only[JJ,dQ] at hg;obtain⟨r,U,ax⟩:=hg;have E:=h4.run ds r U (λ_=>False) w vs (λb ah=>ah.elim) (Yn gh ad λm v r h ad=>snap bY (λb ah=>ah.elim) 6 m v r h ad)
    cases r with
    |same r =>
     simp only[o0] at ax
     split at ax
     ·rename_i aa
      cases ax;exact Calls.mono E λe aI ⟨v,he,gx,ae⟩=>⟨v,he,gx,Yk aa ae⟩
     ·cases ax
    |own sz es =>
     simp only[o0] at ax
     split at ax
     ·rename_i aa
      cases ax;refine Calls.mono E λe aI ⟨v,he,gx,ae⟩=>⟨v,he,gx,?_⟩;obtain⟨D,a,cap,G,ag,aR,bs⟩:=ae;refine⟨D,a,cap,G,ag,aR,bs.imp id ?_⟩;rintro⟨b,vs,T,b1,cd,de,jt,hs⟩;refine⟨b,vs,T,b1,cd,de,jt,λi d ae=>?_⟩;obtain⟨u,hu,qL⟩:=hs i d ae;refine⟨u,hu,Yk ?_ qL⟩;have hm:=eN ae;rw[List.mem_flatten] at hm;obtain⟨e,he,ais⟩:=hm;rw[h2] at aa;have:=aa e he;rw[h2] at this;exact this d ais
     ·cases ax
 ·cases hg
end Go.Mini
namespace Go.Mini
open Go
def Cb {ι:Type}(T:br)(df:ι->bz->Prop)(m:ι->Nat)(i:ι)(K:fA->bz->Prop)(k:List iJ):fA->bz->Prop
 |.normal,st=>∃bt,m bt<m i/\df bt st
 |.exit id,st=>dd T K k (.exit id) st
 |.ret,st=>dd T K k .ret st
@[go_sem] theorem axG {ι:Type}(T:br)(df:ι->bz->Prop)(m:ι->Nat)(i:ι)(K:fA->bz->Prop)(k:List iJ)(id:Nat)(st:bz):Cb T df m i K k (.exit id) st=dd T K k (.exit id) st:=bC
@[go_sem] theorem axH {ι:Type}(T:br)(df:ι->bz->Prop)(m:ι->Nat)(i:ι)(K:fA->bz->Prop)(k:List iJ)(st:bz):Cb T df m i K k .ret st=dd T K k .ret st:=bC
@[go_sem] theorem ait {ι:Type}(T:br)(df:ι->bz->Prop)(m:ι->Nat)(i:ι)(K:fA->bz->Prop)(k:List iJ)(st:bz):Cb T df m i K k .normal st=∃bt,m bt<m i/\df bt st:=bC
open Classical in
theorem aiu {ι:Type}{T:br}{K:fA->bz->Prop}{k:List iJ}{st:bz}{c:e6}(df:ι->bz->Prop)(m:ι->Nat)(i0:ι)(au:df i0 st)(h:∀i st,df i st->wp T c (dd T (Cb T df m i K k) []) st):
  wp T (.loop c) (dd T K k) st:=by
 have least:∀st,(∃i,df i st)->∃i,df i st/\∀j,df j st->m i<=m j:=by
  intro st ⟨i,Q⟩
  have:∀n i,m i=n->df i st->∃i,df i st/\∀j,df j st->m i<=m j:=by
   intro n
   induction n using NR with
   |_ n aA =>
    intro i aL Q
    by_cases I:∃j,df j st/\m j<m i
    ·obtain⟨j,ay,az⟩:=I;exact aA (m j) (by omega) j rfl ay
    ·refine⟨i,Q,λj ay=>?_⟩;rcases h1 (m j) (m i) with cu|cu
     ·exact absurd ⟨j,ay,cu⟩ I
     ·exact cu
  exact this _ i rfl Q
 refine⟨λst=>∃i,df i st,λst=>if I:∃i,df i st then m (tg (least st I)) else 0,⟨i0,au⟩,λst c1=>?_⟩;have gU:=pW (least st c1);have:=h _ st gU.1
 have R:dd T (Cb T df m (tg (least st c1)) K k) []=λe dy=>match e with
   |.normal=>(∃i,df i dy)/\(if I:∃i,df i dy then m (tg (least dy I)) else 0)<(if I:∃i,df i st then m (tg (least st I)) else 0)
   |e=>dd T K k e dy:=by
  funext e dy
  cases e with
  |normal =>
   simp only[ahi,ait];apply propext
   constructor
   ·rintro⟨bt,az,ay⟩;have hex:∃i,df i dy:=⟨bt,ay⟩;refine⟨hex,?_⟩;rw[dif_pos hex,dif_pos c1];have:=(pW (least dy hex)).2 bt ay;omega
   ·rintro⟨hex,az⟩;rw[dif_pos hex,dif_pos c1] at az;exact⟨_,az,(pW (least dy hex)).1⟩
  |exit id=>rfl
  |ret=>rfl
 rw[R] at this;exact this
section
variable {a1:List Data->Option dF} {mem:Mem} {st:bz} {res:List mc}
@[go_sem] theorem axI (ds:List Data)(x:Option (List Data)):Ca a1 (some ds) x=(a1 ds).map JI:=bC
@[go_sem] theorem axJ (x:Option (List Data)):Ca a1 none x=JJ a1 x:=bC
@[go_sem] theorem axK (ds:List Data):JJ a1 (some ds)=(a1 ds).bind o0:=bC
@[go_sem] theorem axL (r:Data):JI (.same r)=.same r:=bC
@[go_sem] theorem axM (sz:Nat)(es:List (List Data)):JI (.own sz es)=.own sz es:=bC
@[go_sem] theorem axN (r:Data):o0 (.same r)=if scalar r=true then some (.same r) else none:=bC
@[go_sem] theorem axO (n:Nat)(d:Data):da n mem (.J d)=some d:=by cases n<;>rfl
@[go_sem] theorem axP (n:Nat):da n mem .nil=some (.X []):=by cases n<;>rfl
@[go_sem] theorem axQ (n:Nat)(cs:List O):da (n+1) mem (.agg cs)=(cs.mapM (da n mem)).map .agg:=bC
@[go_sem] theorem axR (n:Nat)(cs:List O):da (n+1) mem (.cQ cs)=(cs.mapM (da n mem)).map .cQ:=bC
@[go_sem] theorem aiv (n:Nat)(f:FuncId)(cs:List O):da (n+1) mem (.e5 f cs)=(cs.mapM (da n mem)).map (.fn f):=bC
@[go_sem] theorem axS (r:dF)(id:Nat):uM res r (.exit id) st=False:=bC
@[go_sem] theorem axT (r:dF):uM res r .ret st=v7 res r st:=bC
@[go_sem] theorem axU (r:dF):uM res r .normal st=v7 res r st:=bC
@[go_sem] theorem axV (r:Data):v7 res (.same r) st=((nc st res).bind (da 6 st.mem)=some r):=bC
@[go_sem] theorem axW (sz:Nat)(es:List (List Data)):v7 res (.own sz es) st=((nc st res).bind (te sz st.mem)=some es):=bC
end
@[go_sem] theorem axX (x:Bool):Jn (.J (.bool x)) true=some x:=by cases x<;>rfl
@[go_sem] theorem axY (x:Bool):Jn (.J (.bool x)) false=some (!x):=by cases x<;>rfl
attribute [go_sem] e8 cM List.getElem?_cons_zero List.getElem?_cons_succ jN mj o1 uN o2 hE rV Option.map_none ku
 lT Cc gv gF ju jc List.drop_succ_cons List.drop_nil List.take_nil bX cv r1 nr lY lr r2 eF gQ dm Cd List.all_nil true_and and_true kc bne
section
variable {T:br} {K:fA->bz->Prop} {k:List iJ} {st:bz}
theorem aiw {x:Bool}{i:cZ}{r:List cZ}(D:x=false->oS T K k (some true) i r st)(G:x=true->oS T K k (some false) i r st):oS T K k (some (!x)) i r st:=by
 cases x
 ·exact D rfl
 ·exact G rfl
theorem aix {x:Bool}{i:cZ}{r:List cZ}(D:x=true->oS T K k (some true) i r st)(G:x=false->oS T K k (some false) i r st):oS T K k (some x) i r st:=by
 cases x
 ·exact G rfl
 ·exact D rfl
theorem aiy {x:Bool}{n:Nat}{i:cZ}{r:List cZ}{c:List (List Nat)}{rec:Rec}(D:x=false->oT T K k n (some true) i r c rec st)(G:x=true->oT T K k n (some false) i r c rec st):oT T K k n (some (!x)) i r c rec st:=by
 cases x
 ·exact D rfl
 ·exact G rfl
theorem aiz {x:Bool}{n:Nat}{i:cZ}{r:List cZ}{c:List (List Nat)}{rec:Rec}(D:x=true->oT T K k n (some true) i r c rec st)(G:x=false->oT T K k n (some false) i r c rec st):oT T K k n (some x) i r c rec st:=by
 cases x
 ·exact G rfl
 ·exact D rfl
theorem aiA {x:Bool}{a b:e6}(D:x=false->n3 T K k (.J (.bool true)) a b st)(G:x=true->n3 T K k (.J (.bool false)) a b st):n3 T K k (.J (.bool (!x))) a b st:=by
 cases x
 ·exact D rfl
 ·exact G rfl
theorem aiB {x:Bool}{a b:e6}(D:x=true->n3 T K k (.J (.bool true)) a b st)(G:x=false->n3 T K k (.J (.bool false)) a b st):n3 T K k (.J (.bool x)) a b st:=by
 cases x
 ·exact G rfl
 ·exact D rfl
end
class zK (cW:Prop) (A B:outParam Prop):Prop where
 go:A->B->cW
theorem al {cW A B:Prop}[s:zK cW A B](a:A)(b:B):cW:=s.go a b
theorem aQ {cW:Prop}(h:true=true->cW):cW:=h rfl
instance {T K k i r st} {x:Bool}:zK (oS T K k (some x) i r st) (x=true->oS T K k (some true) i r st) (x=false->oS T K k (some false) i r st):=⟨aix⟩
instance {T K k i r st} {x:Bool}:zK (oS T K k (some (!x)) i r st) (x=false->oS T K k (some true) i r st) (x=true->oS T K k (some false) i r st):=⟨aiw⟩
instance {T K k st a b} {x:Bool}:zK (n3 T K k (.J (.bool x)) a b st) (x=true->n3 T K k (.J (.bool true)) a b st) (x=false->n3 T K k (.J (.bool false)) a b st):=⟨aiB⟩
instance {T K k st a b} {x:Bool}:zK (n3 T K k (.J (.bool (!x))) a b st) (x=false->n3 T K k (.J (.bool true)) a b st) (x=true->n3 T K k (.J (.bool false)) a b st):=⟨aiA⟩
instance {T K k n i r c rec st} {x:Bool}:zK (oT T K k n (some x) i r c rec st) (x=true->oT T K k n (some true) i r c rec st) (x=false->oT T K k n (some false) i r c rec st):=⟨aiz⟩
instance {T K k n i r c rec st} {x:Bool}:zK (oT T K k n (some (!x)) i r c rec st) (x=false->oT T K k n (some true) i r c rec st) (x=true->oT T K k n (some false) i r c rec st):=⟨aiy⟩
attribute [go_sem] reduceIte Nat.reduceEqDiff Nat.reduceAdd Nat.reduceSub Nat.reduceMul Nat.reduceLeDiff reduceCtorEq Nat.reduceLT Nat.reduceBEq Int.reduceEq
attribute [go_sem] kc
def FI {ι:Type}(T:br)(fX:List Nat)(ob:List Key)(vs:List O)(ms:List (Option (Nat×List O)))(df:ι->(Nat->O)->Mem->Prop)(m:ι->Nat)(i:ι)(K:fA->bz->Prop)(k:List iJ):fA->bz->Prop
 |.normal,st=>∃bt,m bt<m i/\fX.map st.tm=vs/\ob.map st.mem=ms/\df bt st.tm st.mem
 |.exit id,st=>dd T K k (.exit id) st
 |.ret,st=>dd T K k .ret st
section
variable {ι:Type} (T:br) (fX:List Nat) (ob:List Key) (vs:List O) (ms:List (Option (Nat×List O))) (df:ι->(Nat->O)->Mem->Prop) (m:ι->Nat) (i:ι) (K:fA->bz->Prop) (k:List iJ)
@[go_sem] theorem axZ (id:Nat)(st:bz):FI T fX ob vs ms df m i K k (.exit id) st=dd T K k (.exit id) st:=bC
@[go_sem] theorem ax0 (st:bz):FI T fX ob vs ms df m i K k .ret st=dd T K k .ret st:=bC
@[go_sem] theorem ax1 (st:bz):FI T fX ob vs ms df m i K k .normal st=∃bt,m bt<m i/\fX.map st.tm=vs/\ob.map st.mem=ms/\df bt st.tm st.mem:=bC
end
theorem dw {ι:Type}{T:br}{K:fA->bz->Prop}{k:List iJ}{Ce:Nat->O}{jS:Mem}{c:e6}(fX:List Nat)(ob:List Key)(df:ι->(Nat->O)->Mem->Prop)(m:ι->Nat)(i0:ι)(au:df i0 Ce jS)
  (h:∀vs ms,fX.map Ce=vs->ob.map jS=ms->∀i tm mem,fX.map tm=vs->ob.map mem=ms->df i tm mem->wp T c (dd T (FI T fX ob vs ms df m i K k) []) ⟨tm,mem⟩) :
  wp T (.loop c) (dd T K k) ⟨Ce,jS⟩:=by
 refine aiu (λi st=>fX.map st.tm=fX.map Ce/\ob.map st.mem=ob.map jS/\df i st.tm st.mem) m i0 ⟨rfl,rfl,au⟩ ?_;rintro i ⟨tm,mem⟩ ⟨D,G,ag⟩;have:=h _ _ rfl rfl i tm mem D G ag
 have R:dd T (FI T fX ob (fX.map Ce) (ob.map jS) df m i K k) []=dd T (Cb T (λi (st:bz)=>fX.map st.tm=fX.map Ce/\ob.map st.mem=ob.map jS/\df i st.tm st.mem) m i K k) []:=by
  funext e dy
  cases e<;>rfl
 rw[R] at this;exact this
theorem wp_mono {T:br}:∀(c:e6) (K hW:fA->bz->Prop),(∀e st,K e st->hW e st)->∀st,wp T c K st->wp T c hW st:=by
 intro c
 induction c with
 |skip=>exact λK hW h st=>h _ _
 |ops l =>
  intro K hW h st hw
  have:∀(l:List cZ) (K hW:bz->Prop),(∀st,K st->hW st)->∀st,uu T K l st->uu T hW l st:=by
   intro l
   induction l with
   |nil=>exact λK hW h st=>h st
   |cons i r aA =>
    intro K hW h st hw;unfold uu at hw ⊢
    split
    ·rename_i bw;rw[bw] at hw;exact hw
    ·rename_i g bw;rw[bw] at hw;simp only at hw ⊢
     split
     ·rename_i js;rw[aj js] at hw
      have qK:∀(K hW:bz->Prop),(∀st,K st->hW st)->fJ T K i st->fJ T hW i st:=by
       intro K hW h hw
       have E:∀d f args,rM T K st d f args->rM T hW st d f args:=by
        intro d f args hw;unfold rM at hw ⊢
        split
        ·rename_i a6;rw[a6] at hw;exact h _ hw
        ·rename_i a6;rw[a6] at hw;exact h _ hw
        ·rename_i a6;rw[a6] at hw;exact λr mem' U=>h _ (hw r mem' U)
        ·rename_i a6;rw[a6] at hw;exact h _ hw
        ·rename_i a6;rw[a6] at hw;exact h _ hw
        ·rename_i a6;rw[a6] at hw;exact hw
       unfold fJ at hw ⊢
       split
       ·rename_i a6;rw[a6] at hw;exact E _ _ _ hw
       ·rename_i a6;rw[a6] at hw
        simp only at hw
        split
        ·rename_i mJ;rw[mJ] at hw
         simp only at hw
         split
         ·rename_i aa;rw[aj aa] at hw;exact h _ hw
         ·rename_i aa;rw[aq aa] at hw;exact hw
        ·rename_i mJ
         split at hw
         ·rename_i dZ es NS;exact (mJ dZ es NS).elim
         ·exact hw
       ·rename_i a6;rw[a6] at hw
        simp only at hw
        split
        ·rename_i mJ;rw[mJ] at hw;exact E _ _ _ hw
        ·rename_i mJ;rw[mJ] at hw;exact E _ _ _ hw
        ·rename_i mJ NS
         split at hw
         ·rename_i NT;exact (mJ _ _ NT).elim
         ·rename_i NT;exact (NS _ _ NT).elim
         ·exact hw
       ·rename_i a6;rw[a6] at hw
        simp only at hw
        split
        ·rename_i mJ;rw[mJ] at hw;exact λb ah=>h _ (hw b ah)
        ·rename_i mJ;rw[mJ] at hw;exact hw
       ·rename_i D G ag aR
        split at hw
        ·rename_i a6;exact (D _ _ a6).elim
        ·rename_i a6;exact (G _ _ _ _ a6).elim
        ·rename_i a6;exact (ag _ _ a6).elim
        ·rename_i a6;exact (aR _ _ a6).elim
        ·split
         ·rename_i a6;rw[a6] at hw;exact h _ hw
         ·rename_i a6;rw[a6] at hw;exact hw
      exact qK _ _ (aA _ _ h) hw
     ·rename_i js;rw[aq js] at hw;exact aA _ _ h _ hw
  exact this l _ _ (λst=>h .normal st) st hw
 |pN l c =>
  intro K hW h st hw
  have:∀(l:List cZ) (n:Nat) (cs:List (List Nat)) (rec:Rec) (K hW:bz->Prop),(∀st,K st->hW st)->∀st,sY T K n l cs rec st->sY T hW n l cs rec st:=by
   intro l
   induction l with
   |nil=>exact λn cs rec K hW h st=>h st
   |cons i r aA =>
    intro n cs rec K hW h st hw;unfold sY at hw ⊢
    split
    ·rename_i bw;rw[bw] at hw;exact hw
    ·rename_i g bw;rw[bw] at hw;simp only at hw ⊢
     split
     ·rename_i js;rw[aj js] at hw
      split
      ·rename_i m e aa;rw[aa] at hw;exact⟨hw.1,aA _ _ _ _ _ h _ hw.2⟩
      ·rename_i aa;rw[aa] at hw;exact hw
     ·rename_i js;rw[aq js] at hw;exact aA _ _ _ _ _ h _ hw
  exact this l 0 c _ _ _ (λst=>h .normal st) st hw
 |seq a b iha ihb =>
  intro K hW h st hw;refine iha _ _ (λe dy a6=>?_) st hw
  cases e with
  |normal=>exact ihb _ _ h _ a6
  |exit id=>exact h _ _ a6
  |ret=>exact h _ _ a6
 |cond c a b iha ihb =>
  intro K hW h st hw;unfold wp at hw ⊢
  split
  ·rename_i t E;rw[E] at hw;simp only at hw
   split
   ·rename_i bV;rw[aj bV] at hw;exact iha _ _ h _ hw
   ·rename_i bV;rw[aq bV] at hw;exact ihb _ _ h _ hw
  ·rename_i I
   split at hw
   ·rename_i E;exact (I _ E).elim
   ·exact hw
 |block id c aA =>
  intro K hW h st hw;refine aA _ _ (λe dy a6=>?_) st hw
  cases e with
  |normal=>exact h _ _ a6
  |exit j =>
   simp only at a6 ⊢
   split
   ·rename_i ay;rw[aj ay] at a6;exact h _ _ a6
   ·rename_i ay;rw[aq ay] at a6;exact h _ _ a6
  |ret=>exact h _ _ a6
 |loop c aA =>
  intro K hW h st hw;obtain⟨zl,μ,au,FG⟩:=hw;refine⟨zl,μ,au,λst c1=>aA _ _ (λe dy a6=>?_) _ (FG st c1)⟩
  cases e with
  |normal=>exact a6
  |exit id=>exact h _ _ a6
  |ret=>exact h _ _ a6
 |exit id=>exact λK hW h st=>h _ _
 |ret=>exact λK hW h st=>h _ _
 |ghost g c aA =>
  intro K hW h st hw
  have:∀(K hW:bz->Prop),(∀st,K st->hW st)->oN K st g->oN hW st g:=by
   intro K hW h hw;unfold oN at hw
   repeat' split at hw
   all_goals first
    |exact hw.elim
    |exact⟨hw.choose,hw.choose_spec.1,h _ hw.choose_spec.2⟩
    |(
      rcases hw with hw|⟨gY,hQ,gN,i,k,g,sz,off,len,cs,k',D,G,ag,aR,bs,b1,hw⟩|⟨gY,hQ,gN,i,k,g,sz,off,len,cs,d,D,G,ag,aR,bs,b1,hw⟩
      ·exact .inl (h _ hw)
      ·exact .inr (.inl ⟨gY,hQ,gN,i,k,g,sz,off,len,cs,k',D,G,ag,aR,bs,b1,h _ hw⟩)
      ·exact .inr (.inr ⟨gY,hQ,gN,i,k,g,sz,off,len,cs,d,D,G,ag,aR,bs,b1,h _ hw⟩))
    |(
      have cu:=h _ hw;clear hw h;unfold oN
      simp_all)
  exact this _ _ (aA _ _ h) hw
def Cf (T:br)(K:fA->bz->Prop)(k:List iJ)(aT:bz->Prop):fA->bz->Prop
 |.normal,st=>aT st
 |.exit id,st=>dd T K k (.exit id) st
 |.ret,st=>dd T K k .ret st
@[go_sem] theorem ax2 {T:br}{K:fA->bz->Prop}{k:List iJ}{aT:bz->Prop}(st:bz):Cf T K k aT .normal st=aT st:=bC
@[go_sem] theorem ax3 {T:br}{K:fA->bz->Prop}{k:List iJ}{aT:bz->Prop}(id:Nat)(st:bz):Cf T K k aT (.exit id) st=dd T K k (.exit id) st:=bC
@[go_sem] theorem ax4 {T:br}{K:fA->bz->Prop}{k:List iJ}{aT:bz->Prop}(st:bz):Cf T K k aT .ret st=dd T K k .ret st:=bC
theorem Yp {T:br}{K:fA->bz->Prop}{k:List iJ}{c a:e6}{st:bz}(aT:bz->Prop)(aM:wp T a (dd T (Cf T K k aT) []) st)(E:∀dy,aT dy->wp T c (dd T K k) dy):wp T a (dd T K (.code c::k)) st:=by
 refine wp_mono a _ _ (λe dy a6=>?_) st aM
 cases e with
 |normal=>exact E dy a6
 |exit id=>exact a6
 |ret=>exact a6
theorem aiC {T:br}{K:fA->bz->Prop}{k:List iJ}{x:Bool}{c a b:e6}{st:bz}(aT:bz->Prop)(aM:x=true->wp T a (dd T (Cf T K k aT) []) st)(ah:x=false->wp T b (dd T (Cf T K k aT) []) st)
  (E:∀dy,aT dy->wp T c (dd T K k) dy):n3 T K (.code c::k) (.J (.bool x)) a b st:=by
 cases x
 ·rw[ahk];exact Yp aT (ah rfl) E
 ·rw[ahj];exact Yp aT (aM rfl) E
attribute [go_sem] beq_true beq_false Bool.true_beq Bool.false_beq j8 List.flatten_nil gk List.headD_cons List.headD_nil List.tail_cons List.tail_nil List.contains_nil List.contains_cons Bool.not_eq_true'
section
variable {T:br} {K:fA->bz->Prop} {k:List iJ} {st:bz}
@[go_sem] theorem ax5 (g:IZ)(c:e6):wp T (.ghost g c) (dd T K k) st=oN (wp T c (dd T K k)) st g:=bC
def NU (K:bz->Prop)(st:bz)(s k sz:Nat):O->Prop
 |.nil=>K ⟨hO st.tm s (.ref k (b7 st.mem k) sz 0 0),bI st.mem k (b7 st.mem k) []⟩
 |_=>False
@[go_sem] theorem ax6 (K:bz->Prop)(s k sz:Nat):oN K st (.nT s k sz)=NU K st s k sz (st.tm s):=by
 unfold oN NU;rfl
@[go_sem] theorem ax7 (K:bz->Prop)(s k sz:Nat):NU K st s k sz .nil=K ⟨hO st.tm s (.ref k (b7 st.mem k) sz 0 0),bI st.mem k (b7 st.mem k) []⟩:=bC
end
section
variable {K:bz->Prop} {st:bz}
def xM (K:bz->Prop)(st:bz)(s k g sz off len:Nat):Option (Nat×List O)->Prop
 |some (c4,cs)=>if c4=g/\nb cs=true then (match cut cs off (len*sz) with
  |some part=>(match part.mapM (da 0 st.mem) with
   |some ds=>K ⟨hO st.tm s (.J (.X (chunk sz len ds))),kill st.mem k⟩
   |none=>False)
  |none=>False) else False
 |none=>False
def NV (K:bz->Prop)(st:bz)(s:Nat):O->Prop
 |.ref k g sz off len=>xM K st s k g sz off len (st.mem k)
 |_=>False
@[go_sem] theorem ax8 (s:Nat):oN K st (.freeze s)=NV K st s (st.tm s):=by
 unfold oN NV;dsimp only
 cases hm:st.tm s with
 |ref k g sz off len=>?_
 |_=>rfl
 dsimp only;unfold xM
 cases R:st.mem k with
 |none=>rfl
 |some x =>
  obtain⟨c4,cs⟩:=x;simp only
  by_cases E:c4=g/\nb cs=true
  ·rw[aj E,aj E];unfold da;rw[R];simp only[E.1,if_true]
   cases uB:cut cs off (len*sz) with
   |none=>rfl
   |some part =>
    simp only
    cases aG:part.mapM (da 0 st.mem)<;>rfl
  ·rw[aq E,aq E]
@[go_sem] theorem ax9 (s k g sz off len:Nat):NV K st s (.ref k g sz off len)=xM K st s k g sz off len (st.mem k):=bC
@[go_sem] theorem aya (mem:Mem)(k:Key):kill mem k=bI mem k (b7 mem k) []:=bC
end
open Classical in
def bU {α:Type}(th:α->List Data)(f:α->Option dF):List Data->Option dF:=λds=>if h:∃a,th a=ds then f (tg h) else none
theorem b3 {α:Type}{th:α->List Data}{f:α->Option dF}(inj:∀a b,th a=th b->a=b)(a:α):bU th f (th a)=f a:=by
 have h:∃b,th b=th a:=⟨a,rfl⟩;unfold bU;rw[dif_pos h,inj _ _ (pW h)]
theorem NW {α:Type}{th:α->List Data}{f:α->Option dF}{ds:List Data}{r:dF}(h:bU th f ds=some r):∃a,ds=th a/\f a=some r:=by
 unfold bU at h
 split at h
 ·rename_i I;exact⟨_,(pW I).symm,h⟩
 ·cases h
open Classical in
def cq (c:Prop)(r:dF):Option dF:=if c then some r else none
theorem cw {c:Prop}(h:c)(r:dF):cq c r=some r:=by unfold cq;rw[aj h]
theorem NX {c:Prop}{r xx:dF}(h:cq c r=some xx):c/\xx=r:=by
 unfold cq at h
 split at h
 ·cases h;exact⟨‹_›,rfl⟩
 ·cases h
@[go_sem] theorem ayb (a1:List Data->Option dF)(args:List O)(mem:Mem):aK a1 args mem=Ca a1 (args.mapM (da 6 emp)) (args.mapM (da 6 mem)):=bC
theorem map_inj {α β:Type}{f:α->β}(h:∀a b,f a=f b->a=b):∀(l hB:List α),l.map f=hB.map f->l=hB:=by
 intro l
 induction l with
 |nil=>intro hB e;cases hB<;>simp_all
 |cons a r aA =>
  intro hB e
  cases hB with
  |nil=>simp at e
  |cons b xx =>
   simp only[e8,bn] at e;rw[h _ _ e.1,aA _ e.2]
def JK (l:List (FuncId×(List Data->Option dF))):FuncId->Option (List Data->Option dF):=λf=>(l.find? λp=>p.1==f).map (·.2)
theorem zL {P:Program}{l:List (FuncId×(List Data->Option dF))}(h:∀p∈l,oa P p.1 p.2):∀f a1,JK l f=some a1->oa P f a1:=by
 intro f a1 aN;unfold JK at aN;rw[dI] at aN;obtain⟨p,aG,rfl⟩:=aN;have D:=List.mem_of_find?_eq_some aG;have G:=List.find?_some aG;have ag:p.1=f:=by simpa using G
 exact ag ▸ h p D
theorem b2 {P:Program}:∀p∈([]:List (FuncId×(List Data->Option dF))),oa P p.1 p.2:=by simp
theorem aO {P:Program}{f:FuncId}{a1:List Data->Option dF}{l:List (FuncId×(List Data->Option dF))}(h:oa P f a1)(ax:∀p∈l,oa P p.1 p.2):∀p∈(f,a1)::l,oa P p.1 p.2:=by
 intro p aG;rcases hF.1 aG with rfl|aG
 ·exact h
 ·exact ax p aG
theorem Yq {kf:FuncId->Option (List Data->Option dF)}{f:FuncId}{a1:List Data->Option dF}(h:kf f=some a1):xK kf f=aK a1:=by
 funext args mem
 unfold xK;rw[h]
@[go_sem] theorem ayc (mem:Mem)(k:Key)(z:List O)(b m:Nat)(new:List O):oK mem k z b .nil (some (m,new)) =
  if m*b<=140737488355328/\m<=maxLen/\new.all O.one=true then some (.ref k (b7 mem k) (o z) 0 m,some (k,b7 mem k,new)) else none:=bC
@[go_sem] theorem ayd (mem:Mem)(k k':Key)(z:List O)(g sz b len m:Nat)(new:List O):oK mem k z b (.ref k' g sz 0 len) (some (m,new)) =
  if sz=(o z) then pO k' g sz len b m new (mem k') else none:=by
 unfold oK;simp
def bK {α:Type}(enc:α->List Data)(l:List α):List O:=(l.map enc).flatten.map .J
section
variable {α:Type} {enc:α->List Data} {sz:Nat}
theorem aiD:bK enc []=[]:=rfl
theorem uO (a:α)(l:List α):bK enc (a::l)=(enc a).map .J++bK enc l:=by simp[bK]
theorem NY (a b:List α):bK enc (a++b)=bK enc a++bK enc b:=by simp[bK]
theorem o3 (h:∀a,(enc a).length=sz)(l:List α):(bK enc l).length=o l*sz:=by
 induction l with
 |nil=>simp[bK]
 |cons a r aA=>rw[uO,fE,aA,af,h,jN,nS,Nat.one_mul,Nat.add_comm]
theorem Yr (h:∀a,(enc a).length=sz){l:List α}{i:Nat}{a:α}(Q:l[i]?=some a):∃p q,bK enc l=p++((enc a).map .J++q)/\o p=i*sz/\∀b,bK enc (l.set i b)=p++((enc b).map .J++q):=by
 have az:=(ef.1 Q).1;have hG:l[i]=a:=(ef.1 Q).2
 have e:l=l.take i++a::l.drop (i+1):=by
  rw[<-hG,<-iI az,xN]
 refine⟨bK enc (l.take i),bK enc (l.drop (i+1)),?_,?_,λb=>?_⟩
 ·conv=>lhs;rw[e]
  rw[NY,uO]
 ·rw[o3 h,gO];congr 1;omega
 ·rw[List.set_eq_take_append_cons_drop,aj az,NY,uO]
theorem Ys (h:∀a,(enc a).length=sz){l:List α}{i:Nat}{a:α}(Q:l[i]?=some a){f n:Nat}(aN:f+n<=sz):cut (bK enc l) (i*sz+f) n=some ((((enc a).map .J).drop f).take n):=by
 obtain⟨p,q,e,aG,-⟩:=Yr h Q;have aM:=h a;unfold cut;rw[e,aj (by simp only[fE,af];omega),<-aG];rw[NZ,s4 (by omega)];rw[show (o p)+f-o p=f by omega,ju,NZ,List.take_append]
 have:n-(((enc a).map O.J).drop f).length=0:=by simp only[N0,af];omega
 rw[this,o2,gk]
theorem Yt (h:∀a,(enc a).length=sz){l:List α}{i:Nat}(Q:i<o l)(b:α):j9 (bK enc l) (i*sz) ((enc b).map .J)=bK enc (l.set i b):=by
 obtain⟨p,q,e,aG,aa⟩:=Yr h (bL Q);rw[aa b,e];have aM:=h l[i];have ah:=h b;unfold j9;rw[<-aG,N1,gZ]
 congr 2
 rw[NZ,s4 (by omega),ju,af,show (o p)+(enc b).length-o p=(enc b).length by omega,ah,<-aM,<-af (f:=O.J),Cg]
theorem aiE (bM:∀a,((enc a).map O.J).all O.one=true)(l:List α):(bK enc l).all O.one=true:=by
 induction l with
 |nil=>rfl
 |cons a r aA=>rw[uO,List.all_append,bM,aA];rfl
theorem FJ (h:∀a,(enc a).length=sz)(bM:∀a,((enc a).map O.J).all O.one=true)(k g b:Nat)(l new:List α)(ah:(o l+o new)*b<=140737488355328)(hm:(o l)+o new<=1000000000):
  pO k g sz (o l) b (o new) (bK enc new) (some (g,bK enc l))=some (.ref k (g+1) sz 0 (o l+o new),some (k,g+1,bK enc (l++new))):=by
 unfold pO;have lq:(o l)+o new<=maxLen:=eG hm (by decide);dsimp only;rw[aj ⟨rfl,by rw[o3 h];exact cA _,ah,lq,aiE bM new⟩,NY,du (by rw[o3 h];exact cA _)]
theorem o4 (h:∀a,(enc a).length=sz)(bM:∀a,((enc a).map O.J).all O.one=true)(k g b:Nat)(l:List α)(a:α){cs:List O}(E:cs=(enc a).map .J)(ah:(o l+1)*b<=140737488355328)(hm:(o l)+1<=1000000000):
  pO k g sz (o l) b 1 cs (some (g,bK enc l))=some (.ref k (g+1) sz 0 (o l+1),some (k,g+1,bK enc (l++[a]))):=by
 have:=FJ h bM k g b l [a] ah hm;rw[E];rw[uO,aiD,gk] at this;exact this
theorem ti (f:O->Option Data)(aN:∀d,f (.J d)=some d)(l:List Data):(l.map O.J).mapM f=some l:=by
 induction l with
 |nil=>rfl
 |cons a r aA=>simp[aN,aA]
theorem zM:∀(l:List (List Data)),(∀e∈l,o e=sz)->chunk sz (o l) l.flatten=l:=by
 intro l
 induction l with
 |nil=>intro _;rfl
 |cons e r aA =>
  intro h;have he:=h e (by simp);rw[jN,j8,chunk];rw[<-he,N1,Cg,he,aA λx I=>h x (by simp[I])]
theorem xO (h:∀a,(enc a).length=sz){n k g:Nat}{mem:Mem}{l:List α}(hm:mem k=some (g,bK enc l)):da (n+1) mem (.ref k g sz 0 (o l))=some (.X (l.map enc)):=by
 unfold da;rw[hm];simp only[if_true];unfold cut;rw[ku,o3 h,aj (cA _)];simp only[o1];rw[du (by rw[o3 h];exact cA _)];unfold bK;rw[ti _ λd=>by cases n<;>rfl]
 have:=zM (sz:=sz) (l.map enc) (by simpa using λa _=>h a);rw[af] at this;simp[this]
end
theorem aiF {α:Type}(enc:α->List Data)(l:List α):nb (bK enc l)=true:=by
 unfold nb bK;rw[h2];intro m hm;rw[fZ] at hm;obtain⟨d,_,rfl⟩:=hm
 rfl
theorem ml {α:Type}{enc:α->List Data}{sz:Nat}(h:∀a,(enc a).length=sz){K:bz->Prop}{st:bz}(s k g:Nat)(l:List α):
  xM K st s k g sz 0 (o l) (some (g,bK enc l))=K ⟨hO st.tm s (.J (.X (l.map enc))),kill st.mem k⟩:=by
 have U:=xO (n:=0) h (mem:=bI st.mem k g (bK enc l)) (k:=k) (g:=g) (l:=l) (by simp[bI]);unfold xM;dsimp only;rw[aj ⟨rfl,aiF enc l⟩];unfold cut;rw[ku,o3 h,aj (cA _)];dsimp only;rw[o1,du (by rw[o3 h];exact cA _)];unfold bK;rw[ti _ λd=>rfl];dsimp only;have:=zM (sz:=sz) (l.map enc) (by simpa using λa _=>h a);rw[af] at this;rw[this]
theorem wrap64 (x:Int)(D:-9223372036854775808<=x)(G:x<=9223372036854775807):IntKind.i64.wrap x=x:=by
 rw[IntKind.wrap_i64];omega
theorem Yu {α:Type}(l:List α)(i:Int)(au:0<=i)(h:i<o l):∃x,l[i.toNat]?=some x/\l.drop i.toNat=x::l.drop (i+1).toNat/\l.take (i+1).toNat=l.take i.toNat++[x]:=by
 have az:i.toNat<o l:=by omega
 have e:(i+1).toNat=i.toNat+1:=by omega
 refine⟨l[i.toNat],bL az,?_,?_⟩
 ·rw[e];exact iI az
 ·rw[e];rw[fQ,bL az];rfl
abbrev WP (T:br)(mf:bP)(r:dF)(l:List O):Prop:=wp T mf.body (uM mf.res r) ⟨nd l,emp⟩
theorem b4 {T:br}{c:e6}{K:fA->bz->Prop}{st:bz}(h:wp T c (dd T K []) st):wp T c K st:=B5 h
theorem eQ (x:Int)(D:-9223372036854775808<=x:=by omega)(G:x<=9223372036854775807:=by omega):IntKind.i64.wrap x=x:=wrap64 x D G
theorem eY {i:Nat}(h:i<1000000000000):IntKind.i64.wrap ((i:Int)+1)=((i+1:Nat):Int):=by rw[wrap64 _ (by omega) (by omega)];omega
end Go.Mini
namespace Go.Mini
open Go Go.ChangeShapes Go.WideShapes
inductive oc where
 |int (k:IntKind)
 |bool
 |str
 |X (e:oc)
 |st (l:List oc)
mutual
def Fit:oc->List Data->Prop
 |.int k,ds=>∃n,ds=[.int k n]/\(Lit.int k n).wf=true
 |.bool,ds=>∃b,ds=[.bool b]
 |.str,ds=>∃s,ds=[.str s]/\o s<=maxLen
 |.X e,ds=>∃es,ds=[.X es]/\o es<=maxLen/\∀x∈es,Fit e x
 |.st l,ds=>Fits l ds
def Fits:List oc->List Data->Prop
 | [],ds=>ds=[]
 |s::r,ds=>∃a b,ds=a++b/\Fit s a/\Fits r b
end
def FK (P:Program):Nat->List Field->Nat->Bool
 |off,[],tot=>off==tot
 |off,f::r,tot=>f.offset==off&&FK P (off+P.cellsOf f.type) r tot
def FL (g:TypeId->Option oc):List Field->Option (List oc)
 | []=>some []
 |f::r=>match g f.type,FL g r with
  |some s,some l=>some (s::l)
  |_,_=>none
def pX (P:Program):Nat->TypeId->Option oc
 |0,_=>none
 |n+1,t=>match P.underlying t with
  |some .bool=>some .bool
  |some (.int k)=>some (.int k)
  |some .string=>some .str
  |some (.slice e)=>if 0<P.cellsOf e then (pX P n e).map .X else none
  |some (.struct dz)=>if FK P 0 dz.toList (P.cellsOf t)=true then (FL (pX P n) dz.toList).map .st else none
  |_=>none
section
variable {g9:Type} {enc:TypeId×Value->g9} {P:Program} {w:World} {base:Nat}
def Rd (enc:TypeId×Value->g9)(P:Program)(w:World)(base:Nat)(S:oc)(fuel:Nat)(t:TypeId)(cs:List Value)(x:DataW g9×List MemPlace):Prop :=
 (∃ds,Fit S ds/\vZ w (λ_=>False) ds cs)/\(∀p∈x.2,p.block<w.heap.size) /\
 ∀(aI:World) (sp:Nat->Bool),(∀p∈x.2,sp p.block=true)->(∀b,b<w.heap.size->aI.heap[b]?=w.heap[b]?)->DataW.trod enc P aI base sp true fuel t cs=some x
theorem FM {aS:Nat->Prop}{d:Data}{v:Value}(h:Den w aS d v):vZ w aS [d] [v]:=by
 refine⟨rfl,λi uG zq D G=>?_⟩
 cases i with
 |zero=>cases D;cases G;exact h
 |succ i=>simp at D
theorem Yv (a:Addr)(i:Nat):(a.add i).block=a.block:=by
 unfold Addr.add
 split<;>rfl
theorem add_plain (b off i:Nat):(Addr.add ⟨b,off,none⟩ i)=⟨b,off+i,none⟩:=by
 unfold Addr.add
 split
 ·rename_i h;subst h;rfl
 ·rfl
theorem Yw {aI:World}{a:Addr}{n:Nat}{cs:List Value}(h:w.cells? base a n=some cs)(R:∀b,b<w.heap.size->aI.heap[b]?=w.heap[b]?):aI.cells? base a n=some cs:=by
 unfold World.cells? at h ⊢
 split at h
 ·rename_i ah;rw[aj ah,<-h]
  by_cases az:a.block<w.heap.size
  ·have he:(λi=>aI.cell? (a.add i))=λi=>w.cell? (a.add i):=by
    funext i
    exact World.cell?_of_block (a:=a.add i) (R _ (by rw[Yv];exact az))
   rw[he]
  ·cases n with
   |zero=>rfl
   |succ n =>
    exfalso
    have:w.cell? (a.add 0)=none:=by
     unfold World.cell?;have:w.heap[(a.add 0).block]?=none:=Array.getElem?_eq_none (by rw[Yv];omega);rw[this]
    rw[List.range_succ_eq_map,lT,this] at h
    cases h
 ·cases h
theorem N2 {a:Addr}{n:Nat}{cs:List Value}(h:w.cells? base a n=some cs):(o cs)=n/\∀i,i<n->∃v,cs[i]?=some v/\w.cell? (a.add i)=some v:=by
 unfold World.cells? at h
 split at h
 ·obtain⟨D,G⟩:=me h;rw[Yx] at D;refine⟨D,λi Q=>?_⟩;have E:=bL (l:=cs) (i:=i) (by omega);exact⟨_,E,G i i _ (by simp[Q]) E⟩
 ·cases h
theorem aiG {a:Addr}{v:Value}(h:w.cell? a=some v):a.block<w.heap.size/\a.spot=none:=by
 unfold World.cell? at h
 split at h
 ·rename_i ah;refine⟨(Array.getElem?_eq_some_iff.1 ah).1,?_⟩
  cases aa:a.spot with
  |none=>rfl
  |some x=>rw[aa] at h;simp at h
 ·cases h
theorem mapM_congr {α β:Type}{f g:α->Option β}:∀{l:List α},(∀x∈l,f x=g x)->l.mapM f=l.mapM g:=by
 intro l
 induction l with
 |nil=>intro _;rfl
 |cons a r aA =>
  intro h;rw[lT,lT,h a (by simp),aA λx I=>h x (by simp[I])]
theorem aiH {β:Type}(len:Nat)(aT:Nat->β->Prop)(h:∀i,i<len->∃y,aT i y):∃l:List β,o l=len/\∀i y,l[i]?=some y->aT i y:=by
 induction len with
 |zero=>exact⟨[],rfl,λi y h=>by simp at h⟩
 |succ n aA =>
  obtain⟨l,D,G⟩:=aA λi Q=>h i (by omega);obtain⟨y,ak⟩:=h n (by omega);refine⟨l++[y],by simp[D],λi z a8=>?_⟩
  rw[BS] at a8
  split at a8
  ·exact G i z a8
  ·rename_i az
   have:i-o l=0:=by
    have:=(ef.1 a8).1;simp at this;omega
   rw[this] at a8
   cases a8;have:i=n:=by omega
   subst this;exact ak
theorem aiI {β:Type}{sz:Nat}:∀(es:List (List β)),(∀e∈es,o e=sz)->0<sz->∀(i:Nat) (d:β),es.flatten[i]?=some d->∃e,es[i/sz]?=some e/\e[i%sz]?=some d:=by
 intro es
 induction es with
 |nil=>intro _ _ i d h;simp at h
 |cons e r aA =>
  intro h a8 i d ae;have he:=h e (by simp);rw[j8,BS] at ae
  split at ae
  ·rename_i az;rw[he] at az;refine⟨e,by rw[N3 az];rfl,by rw[FN az];exact ae⟩
  ·rename_i cb;rw[he] at ae cb;obtain⟨x,D,G⟩:=aA (λy ak=>h y (by simp[ak])) a8 _ d ae;have Q:i=(i-sz)+sz:=by omega
   refine⟨x,?_,?_⟩
   ·rw[Q,Nat.add_div_right _ a8]
    simpa using D
   ·rw[Q,Nat.add_mod_right];exact G
theorem aiJ {n fuel:Nat}(aA:∀t S,pX P n t=some S->∀(cs:List Value) (x:DataW g9×List MemPlace),DataW.trod enc P w base (λ_=>true) true fuel t cs=some x->Rd enc P w base S fuel t cs x)(cs:List Value):
  ∀(dz:List Field) (off:Nat) (l:List oc) (xs:List (DataW g9×List MemPlace)),FL (pX P n) dz=some l->FK P off dz (o cs)=true ->
   dz.mapM (λf=>DataW.trod enc P w base (λ_=>true) true fuel f.type ((cs.drop f.offset).take (P.cellsOf f.type)))=some xs ->
   (∃ds,Fits l ds/\vZ w (λ_=>False) ds (cs.drop off))/\(∀p∈xs.flatMap (·.2),p.block<w.heap.size) /\
   ∀(aI:World) (sp:Nat->Bool),(∀p∈xs.flatMap (·.2),sp p.block=true)->(∀b,b<w.heap.size->aI.heap[b]?=w.heap[b]?) ->
    dz.mapM (λf=>DataW.trod enc P aI base sp true fuel f.type ((cs.drop f.offset).take (P.cellsOf f.type)))=some xs:=by
 intro dz
 induction dz with
 |nil =>
  intro off l xs ax bV I;simp only[FL,cz] at ax;subst ax;simp only[FK,beq_iff_eq] at bV;simp only[Cc,gv,cz] at I;subst I;refine⟨⟨[],rfl,?_⟩,by simp,λ_ _ _ _=>rfl⟩
  rw[bV,N4];exact⟨rfl,λi d v h=>by simp at h⟩
 |cons f r ihf =>
  intro off l xs ax bV I;unfold FL at ax
  split at ax
  ·rename_i s hB aa I9
   cases ax;simp only[FK,eX,beq_iff_eq] at bV;obtain⟨Np,bV⟩:=bV;rw[lT] at I;simp only[gv,gF,dQ,cz] at I;obtain⟨x,r3,ys,aiK,rfl⟩:=I;obtain⟨⟨N5,Ch,v8⟩,aiL,aiM⟩:=aA _ _ aa _ _ r3;obtain⟨⟨zN,kB,e2⟩,aiN,aiO⟩:=ihf _ _ _ I9 bV aiK;refine⟨⟨N5++zN,⟨N5,zN,rfl,Ch,kB⟩,?_⟩,?_,?_⟩
   ·have Xa:cs.drop off=(cs.drop off).take (P.cellsOf f.type)++cs.drop (off+P.cellsOf f.type):=by
     rw[<-B9,xN]
    rw[Np] at v8;rw[Xa];refine⟨by rw[fE,fE,v8.1,e2.1],λi d v D G=>?_⟩
    rw[BS] at D G;have hlen:=v8.1
    by_cases az:i<o N5
    ·rw[aj az] at D;rw[aj (by omega)] at G;exact v8.2 i d v D G
    ·rw[aq az] at D;rw[aq (by omega),hlen] at G;exact e2.2 _ d v D G
   ·intro p aG;rw[xP,iK] at aG;exact aG.elim (aiL p) (aiN p)
   ·intro aI sp gU R;rw[lT,aiM aI sp (λp aG=>gU p (by rw[xP,iK];exact .inl aG)) R];have:=aiO aI sp (λp aG=>gU p (by rw[xP,iK];exact .inr aG)) R;simp only[gv,gF,hE];rw[this]
    rfl
  ·cases ax
theorem aiP:∀(n:Nat) (t:TypeId) (S:oc),pX P n t=some S->∀(fuel:Nat) (cs:List Value) (x:DataW g9×List MemPlace),DataW.trod enc P w base (λ_=>true) true fuel t cs=some x->Rd enc P w base S fuel t cs x:=by
 intro n
 induction n with
 |zero=>intro t S h;simp[pX] at h
 |succ n aA =>
  intro t S di fuel cs x I
  cases fuel with
  |zero=>cases I
  |succ fuel =>
   unfold pX at di
   split at di
   ·-- bool
    rename_i hu
    cases di
    have key:∀(aI:World) (sp:Nat->Bool) (cs:List Value),DataW.trod enc P aI base sp true (fuel+1) t cs=match cs with|[.bool b]=>some (.lit (.bool b),[])|_=>none:=by
     intro aI sp cs;unfold DataW.trod;rw[hu];clear I
     split<;>simp_all
    rw[key] at I
    split at I
    ·cases I;exact⟨⟨_,⟨_,rfl⟩,FM .bool⟩,by simp,λaI sp _ _=>by rw[key]⟩
    ·cases I
   ·-- int
    rename_i k hu
    cases di
    have key:∀(aI:World) (sp:Nat->Bool) (cs:List Value),DataW.trod enc P aI base sp true (fuel+1) t cs=match cs with|[.int k' n]=>if k'=k/\(Lit.int k n).wf=true then some (.lit (.int k n),[]) else none|_=>none:=by
     intro aI sp cs;unfold DataW.trod;rw[hu];clear I
     split<;>simp_all
    rw[key] at I
    split at I
    ·split at I
     ·rename_i E
      cases I;obtain⟨rfl,Yy⟩:=E;exact⟨⟨_,⟨_,rfl,Yy⟩,FM .int⟩,by simp,λaI sp _ _=>by rw[key];simp[Yy]⟩
     ·cases I
    ·cases I
   ·-- string
    rename_i hu
    cases di
    have key:∀(aI:World) (sp:Nat->Bool) (cs:List Value),DataW.trod enc P aI base sp true (fuel+1) t cs=match cs with|[.string s]=>if s.size<=maxLen then some (.lit (.string s.data.toList),[]) else none|_=>none:=by
     intro aI sp cs;unfold DataW.trod;rw[hu];clear I
     split<;>simp_all
    rw[key] at I
    split at I
    ·rename_i s
     split at I
     ·rename_i E
      cases I;refine⟨⟨[.str s.data.toList],⟨_,rfl,?_⟩,FM ?_⟩,by simp,λaI sp _ _=>by rw[key];simp[E]⟩
      ·rw[Array.length_toList];exact E
      ·have:Den w (λ_=>False) (.str s.data.toList) (.string ⟨s.data.toList.toArray⟩):=.str
       simpa using this
     ·cases I
    ·cases I
   ·-- slice
    rename_i e hu
    split at di
    ·rename_i E;rw[dI] at di;obtain⟨S,di,rfl⟩:=di
     have key:∀(aI:World) (sp:Nat->Bool) (cs:List Value),DataW.trod enc P aI base sp true (fuel+1) t cs=match cs with
      | [.slice none 0 0]=>some (.nil,[])
      | [.slice (some a) len cap] =>
       if base<=a.block/\len<=cap/\cap<=maxLen then
        ((
         hR len).mapM λi=>(aI.cells? base (a.add (i*P.cellsOf e)) (P.cellsOf e)).bind (DataW.trod enc P aI base sp true fuel e)).bind λelems =>
         (if sp a.block then (hR (cap-len)).mapM λj=>(aI.cells? base (a.add ((len+j)*P.cellsOf e)) (P.cellsOf e)).bind (DataW.trod enc P aI base sp true fuel e) else some []).map λrest =>
          (.slice (elems.map (·.1)) (rest.map (·.1)),MemPlace.row a ((o elems+o rest)*P.cellsOf e)++(elems++rest).flatMap (·.2))
       else none
      |_=>none:=by
      intro aI sp cs
      conv=>lhs;unfold DataW.trod
      rw[hu];clear I
      split<;>simp_all
     rw[key] at I
     split at I
     ·cases I;exact⟨⟨[.X []],⟨_,rfl,fY _,by simp⟩,FM .j7⟩,by simp,λaI sp _ _=>by rw[key];rfl⟩
     ·rename_i a len cap
      split at I
      ·rename_i ah;rw[dQ] at I;obtain⟨elems,he,I⟩:=I;rw[dI] at I;obtain⟨rest,U,rfl⟩:=I;rw[aj rfl] at U;obtain⟨Fg,aiQ⟩:=me he;obtain⟨cK,aiR⟩:=me U;rw[Yx] at Fg cK
       -- each place
       have g7:∀i y,(i<len->elems[i]?=some y)->(¬ i<len->i<cap/\rest[i-len]?=some y)->∃ci,w.cells? base (a.add (i*P.cellsOf e)) (P.cellsOf e)=some ci/\DataW.trod enc P w base (λ_=>true) true fuel e ci=some y:=by
        intro i y D G
        by_cases Q:i<len
        ·have:=aiQ i i y (by simp[Q]) (D Q);rwa [dQ] at this
        ·obtain⟨ag,aR⟩:=G Q;have:=aiR (i-len) (i-len) y (List.getElem?_range (by omega)) aR;rw[show len+(i-len)=i by omega,dQ] at this
         exact this
       have iH:0<o elems+(o rest)->a.block<w.heap.size/\a.spot=none:=by
        intro aG;have au:0<cap:=by omega
        have:∃y,(0<len->elems[0]?=some y)/\(¬ 0<len->0<cap/\rest[0-len]?=some y):=by
         by_cases ax:0<len
         ·exact⟨elems[0],λ_=>bL _,λh=>absurd ax h⟩
         ·exact⟨rest[0],λh=>absurd h ax,λ_=>⟨au,by rw[Nat.zero_sub];exact bL _⟩⟩
        obtain⟨y,D,G⟩:=this;obtain⟨ci,g8,-⟩:=g7 0 y D G;obtain⟨v,-,ad⟩:=(N2 g8).2 0 E;have:=aiG ad;rw[xQ] at this;have b8:(a.add 0).add 0=a:=by unfold Addr.add;simp
        rw[b8] at this;exact this
       have Yz:∀i y,(i<len->elems[i]?=some y)->(¬ i<len->i<cap/\rest[i-len]?=some y)->∃ci,w.cells? base (a.add (i*P.cellsOf e)) (P.cellsOf e)=some ci/\Rd enc P w base S fuel e ci y:=by
        intro i y D G;obtain⟨ci,ag,aR⟩:=g7 i y D G;exact⟨ci,ag,aA e S di fuel ci y aR⟩
       have N6:∀(i:Nat) y,elems[i]?=some y->∃ci,w.cells? base (a.add (i*P.cellsOf e)) (P.cellsOf e)=some ci/\Rd enc P w base S fuel e ci y :=
        λi y ak=>Yz i y (λ_=>ak) (λh=>absurd (by have:=(ef.1 ak).1;omega) h)
       have YA:∀(j:Nat) y,rest[j]?=some y->∃ci,w.cells? base (a.add ((len+j)*P.cellsOf e)) (P.cellsOf e)=some ci/\Rd enc P w base S fuel e ci y :=
        λj y ak=>Yz (len+j) y (λh=>by omega) (λ_=>⟨by have:=(ef.1 ak).1;omega,by rwa [N7]⟩)
       refine⟨?_,?_,?_⟩
       ·obtain⟨es,N8,heq⟩:=aiH len (λi (ds:List Data)=>∃ci,w.cells? base (a.add (i*P.cellsOf e)) (P.cellsOf e)=some ci/\Fit S ds/\vZ w (λ_=>False) ds ci) λi Q=>by
         obtain⟨ci,D,⟨ds,G,ag⟩,-,-⟩:=N6 i _ (bL (by omega));exact⟨ds,ci,D,G,ag⟩
        refine⟨[.X es],⟨es,rfl,by omega,λy ak=>?_⟩,FM ?_⟩
        ·obtain⟨i,Q⟩:=xR.1 ak;obtain⟨ci,-,h,-⟩:=heq i y Q;exact h
        ·by_cases ax:len=0
         ·rw[ax] at N8 ⊢;rw[mL N8];exact .j7
         ·obtain⟨kB,e2⟩:=iH (by omega);obtain⟨b,off,spot⟩:=a;simp only at kB e2;subst e2
          have eu:∀y∈es,o y=P.cellsOf e:=by
           intro y ak;obtain⟨i,Q⟩:=xR.1 ak;obtain⟨ci,D,-,G⟩:=heq i y Q;rw[<-G.1,(N2 D).1]
          have g0:∀(i:Nat) (d:Data),es.flatten[i]?=some d->∃v,w.cell? ⟨b,off+i,none⟩=some v/\Den w (λ_=>False) d v:=by
           intro i d ae;obtain⟨y,D,G⟩:=aiI es eu E i d ae;obtain⟨ci,ag,-,aR⟩:=heq _ y D;have hm:i%P.cellsOf e<P.cellsOf e:=Nat.mod_lt _ E;obtain⟨v,bs,b1⟩:=(N2 ag).2 _ hm;rw[add_plain,add_plain,nZ,pY,Nat.div_add_mod] at b1;exact⟨v,b1,aR.2 _ d v G bs⟩
          rw[<-N8];refine .X (sz:=P.cellsOf e) (λi=>(w.cell? ⟨b,off+i,none⟩).getD undef) (by omega) (by omega) kB (λh=>h) eu (λi Q=>?_) λi d ae=>?_
          ·have az:i<o es.flatten:=by rw[IX eu];exact Q
           obtain⟨v,ad,-⟩:=g0 i _ (bL az);rw[ad]
           rfl
          ·obtain⟨v,ad,mg⟩:=g0 i d ae;rw[ad];exact mg
       ·intro p aG;simp only[iK] at aG;rcases aG with aG|aG
        ·unfold MemPlace.row at aG;rw[fZ] at aG;obtain⟨i,Q,rfl⟩:=aG;rw[od] at Q
         have:0<o elems+o rest:=by
          rcases jo (o elems+o rest) with h|h
          ·rw[h,xQ] at Q;omega
          ·exact h
         exact (iH this).1
        ·rw[zC] at aG;obtain⟨y,ak,aG⟩:=aG;rw[iK] at ak;rcases ak with ak|ak
         ·obtain⟨i,Q⟩:=xR.1 ak;obtain⟨ci,-,h⟩:=N6 i y Q;exact h.2.1 p aG
         ·obtain⟨i,Q⟩:=xR.1 ak;obtain⟨ci,-,h⟩:=YA i y Q;exact h.2.1 p aG
       ·intro aI sp gU R;rw[key];simp only;rw[aj ah]
        have ke:0<o elems+(o rest)->sp a.block=true:=by
         intro aG
         have:=gU (.cell a.block (a.off+0)) (by
          rw[iK]
          left
          unfold MemPlace.row;rw[fZ];exact⟨0,by rw[od];exact Nat.mul_pos aG E,rfl⟩)
         exact this
        have aiS:(hR len).mapM (λi=>(aI.cells? base (a.add (i*P.cellsOf e)) (P.cellsOf e)).bind (DataW.trod enc P aI base sp true fuel e))=some elems:=by
         rw[<-he];refine mapM_congr λi Q=>?_;rw[od] at Q;have ak:=bL (l:=elems) (i:=i) (by omega);obtain⟨ci,D,G⟩:=N6 i _ ak;rw[Yw D R,D];simp only[hE];obtain⟨aiT,ag,aR⟩:=g7 i _ (λ_=>ak) (λh=>absurd Q h);rw[D] at ag
         cases ag;rw[aR]
         exact G.2.2 aI sp (λp aG=>gU p (by
          rw[iK];right
          rw[zC];exact⟨_,iK.2 (.inl (eN ak)),aG⟩)) R
        have aiU:(hR (cap-len)).mapM (λj=>(aI.cells? base (a.add ((len+j)*P.cellsOf e)) (P.cellsOf e)).bind (DataW.trod enc P aI base sp true fuel e))=some rest:=by
         rw[<-U];refine mapM_congr λj ay=>?_;rw[od] at ay;have ak:=bL (l:=rest) (i:=j) (by omega);obtain⟨ci,D,G⟩:=YA j _ ak;rw[Yw D R,D];simp only[hE];obtain⟨aiT,ag,aR⟩:=g7 (len+j) rest[j] (λh=>by omega) (λ_=>⟨by omega,by rw[N7];exact ak⟩);rw[D] at ag
         cases ag;rw[aR]
         exact G.2.2 aI sp (λp aG=>gU p (by
          rw[iK];right
          rw[zC];exact⟨_,iK.2 (.inr (eN ak)),aG⟩)) R
        rw[aiS];simp only[hE]
        cases aa:sp a.block with
        |true=>simp only[if_true];rw[aiU];rfl
        |false =>
         have a8:¬ 0<o elems+o rest:=λh=>by rw[ke h] at aa;cases aa
         have:rest=[]:=mL (by omega);subst this
         rfl
      ·cases I
     ·cases I
    ·cases di
   ·-- struct
    rename_i dz hu
    split at di
    ·rename_i bV;rw[dI] at di;obtain⟨l,ax,rfl⟩:=di
     have key:∀(aI:World) (sp:Nat->Bool),DataW.trod enc P aI base sp true (fuel+1) t cs =
       if (o cs)=P.cellsOf t then (dz.toList.mapM λf=>DataW.trod enc P aI base sp true fuel f.type ((cs.drop f.offset).take (P.cellsOf f.type))).map λxs=>(.agg (xs.map (·.1)),xs.flatMap (·.2)) else none:=by
      intro aI sp
      conv=>lhs;unfold DataW.trod
      rw[hu]
     rw[key] at I
     split at I
     ·rename_i hlen;rw[dI] at I;obtain⟨xs,vX,rfl⟩:=I;rw[<-hlen] at bV;obtain⟨D,G,ag⟩:=aiJ (λt S h cs x I=>aA t S h fuel cs x I) cs dz.toList 0 l xs ax bV vX;refine⟨?_,G,λaI sp gU R=>?_⟩
      ·obtain⟨ds,aN,ae⟩:=D;exact⟨ds,aN,by simpa using ae⟩
      ·rw[key,aj hlen,ag aI sp gU R]
       rfl
     ·cases I
    ·cases di
   ·cases di
end
end Go.Mini
namespace Go.Mini
open Go Go.ChangeShapes Go.WideShapes Go.RowKit
def YB:oc->Data->Prop
 |.st l,d=>∃cs,d=.agg cs/\Fits l cs
 |s,d=>Fit s [d]
def JL:List oc->List Data->Prop
 | [],ds=>ds=[]
 |s::r,ds=>∃d t,ds=d::t/\YB s d/\JL r t
section
variable {g9:Type} {enc:TypeId×Value->g9} {P:Program} {w:World}
theorem aiV {aS:Nat->Prop}{d:Data}{v:Value}{ds:List Data}{vs:List Value}(h:Den w aS d v)(aa:vZ w aS ds vs):vZ w aS (d::ds) (v::vs):=by
 refine⟨by simp[aa.1],λi uG zq D G=>?_⟩
 cases i with
 |zero=>cases D;cases G;exact h
 |succ i=>exact aa.2 i uG zq (by simpa using D) (by simpa using G)
theorem aiW {n:Nat}{t:TypeId}{S:oc}{v:Value}{d:DataW g9}{ps:List MemPlace}{pZ:Nat}(di:pX P n t=some S)(g0:Value.okWide P w .any pZ t v)(h:DataW.Trod enc P w 0 (λ_=>true) true t v d ps):
  (∃cB,YB S cB/\Den w (λ_=>False) cB v)/\(∀p∈ps,p.block<w.heap.size) /\
  ∀(aI:World) (sp:Nat->Bool),(∀p∈ps,sp p.block=true)->(∀b,b<w.heap.size->aI.heap[b]?=w.heap[b]?)->DataW.Trod enc P aI 0 sp true t v d ps:=by
 obtain⟨fuel,I⟩:=h;obtain⟨⟨ds,aN,ae⟩,G,ag⟩:=aiP n t S di fuel _ _ I;refine⟨?_,G,λaI sp gU R=>⟨fuel,ag aI sp gU R⟩⟩
 have one:(∀cs,v ≠ .agg cs)->∀d,ds=[d]->Den w (λ_=>False) d v:=by
  intro ad d e;subst e;have:v.cells=#[v]:=by unfold Value.cells;split<;>simp_all
  rw[this] at ae;exact ae.2 0 d v rfl rfl
 cases n with
 |zero=>simp[pX] at di
 |succ n =>
  unfold pX at di;unfold Value.okWide at g0
  split at di
  ·rename_i hu
   cases di;rw[hu] at g0;obtain⟨b,rfl⟩:=aN;refine⟨_,⟨b,rfl⟩,one ?_ _ rfl⟩;rintro cs rfl;simp[Cell.okWide,Cell.ok,hu] at g0
  ·rename_i k hu
   cases di;rw[hu] at g0;obtain⟨b,rfl,ah⟩:=aN;refine⟨_,⟨b,rfl,ah⟩,one ?_ _ rfl⟩;rintro cs rfl;simp[Cell.okWide,Cell.ok,hu] at g0
  ·rename_i hu
   cases di;rw[hu] at g0;obtain⟨b,rfl,ah⟩:=aN;refine⟨_,⟨b,rfl,ah⟩,one ?_ _ rfl⟩;rintro cs rfl;simp[Cell.okWide,Cell.ok,hu] at g0
  ·rename_i e hu
   split at di
   ·rw[dI] at di;obtain⟨S,di,rfl⟩:=di;rw[hu] at g0;obtain⟨b,rfl,ah⟩:=aN;refine⟨_,⟨b,rfl,ah⟩,one ?_ _ rfl⟩;rintro cs rfl;simp[Cell.okWide,Cell.ok,hu] at g0
   ·cases di
  ·rename_i dz hu
   split at di
   ·rw[dI] at di;obtain⟨l,ax,rfl⟩:=di;rw[hu] at g0;obtain⟨cs,rfl,-,-⟩:=g0;refine⟨.agg ds,⟨ds,rfl,aN⟩,?_⟩;have:Den w (λ_=>False) (.agg ds) (.agg cs.toList.toArray):=.agg ae.1 ae.2
    simpa using this
   ·cases di
  ·cases di
theorem N9 {n pZ:Nat}:∀{qE:List TypeId} {schs:List oc} {vs:List Value} {ds:List (DataW g9)} {ps:List MemPlace},qE.mapM (pX P n)=some schs->(∀(j:Nat) t v,qE[j]?=some t->vs[j]?=some v->Value.okWide P w .any pZ t v) ->
  DataW.TrodAll enc P w 0 (λ_=>true) true qE vs ds ps ->
  (∃p0,JL schs p0/\vZ w (λ_=>False) p0 vs)/\(∀p∈ps,p.block<w.heap.size) /\
  ∀(aI:World) (sp:Nat->Bool),(∀p∈ps,sp p.block=true)->(∀b,b<w.heap.size->aI.heap[b]?=w.heap[b]?)->DataW.TrodAll enc P aI 0 sp true qE vs ds ps
 | [],schs,vs,ds,ps,di,g0,h=>by
  obtain⟨rfl,rfl,rfl⟩:=trodAll_nil h;simp at di;subst di;exact⟨⟨[],rfl,rfl,λi d v h=>by simp at h⟩,by simp,λ_ _ _ _=>rfl⟩
 |t::qE,schs,vs,ds,ps,di,g0,h=>by
  obtain⟨v,aiX,d,aiY,a,b,rfl,rfl,rfl,D,G⟩:=trodAll_cons h;rw[lT] at di;simp only[gv,gF,dQ,cz] at di;obtain⟨S,aiZ,l,ax,rfl⟩:=di;obtain⟨⟨cB,ix,ai0⟩,hC,dp⟩:=aiW aiZ (g0 0 t v rfl rfl) D;obtain⟨⟨p0,ai1,ai2⟩,jb,dN⟩:=N9 ax (λj ai3 zq bV ad=>g0 (j+1) ai3 zq (by simpa using bV) (by simpa using ad)) G;refine⟨⟨cB::p0,⟨cB,p0,rfl,ix,ai1⟩,aiV ai0 ai2⟩,λp aG=>?_,λaI sp gU R=>?_⟩
  ·rw[iK] at aG;exact aG.elim (hC p) (jb p)
  ·exact trodAll_cons_mk (dp aI sp (λp aG=>gU p (iK.2 (.inl aG))) R) (dN aI sp (λp aG=>gU p (iK.2 (.inr aG))) R)
theorem ai4 {W p1:World}(h:Fr (λ_=>False) W p1)(may:MemPlace->Prop):W.keptBut p1 may:=by
 refine⟨h.os,h.output,λi Q=>?_⟩;rw[h.block i Q id]
 cases ah:W.heap[i]? with
 |none=>trivial
 |some ar =>
  cases ar with
  |cells c t aC=>exact⟨rfl,rfl,rfl,λ_ _=>rfl⟩
  |map es clock=>exact .inr ⟨rfl,rfl⟩
  |_=>rfl
theorem ai5 {f:Func}{s:ChangeSpec}{apart fresh handsOn again:Bool}{W p1:World}{args:Array Value}{ds gs:List (DataW g9)}{before:List MemPlace}{n pZ:Nat}{schs:List oc}{FO:TypeId}
  (r4:DataW.Whole enc P f.params.toList s.vars apart W args.toList ds gs before) (ad:s.vars=[]) (di:f.params.toList.mapM (pX P n)=some schs)
  (g0:∀(j:Nat) t v,f.params[j]?=some t->args[j]?=some v->Value.okWide P W .any pZ t v)
  (U:f.resultTypes=#[FO]) (ah:P.underlying FO=some .bool) (h4:s.fn g9 ds={ results:=[.lit (.bool true)],args:=ds }) (aN:Fr (λ_=>False) W p1) :
  s.post enc P f apart fresh handsOn again W args (.bool true) p1:=by
 have Oa:=r4;obtain⟨p,q,jd,wa,rfl,a8,aL⟩:=r4;rw[ad] at wa;obtain⟨rfl,rfl⟩:=trodVars_none wa;obtain⟨-,az,R⟩:=N9 di (λj t v bV ad=>g0 j t v (by simpa using bV) (by simpa using ad)) jd;have YC:∀b,b<W.heap.size->p1.heap[b]?=W.heap[b]?:=λb ah=>aN.block b ah id
 have hD:∀(b:Nat) (sp:Nat->Bool) (ae:Bool),DataW.TrodAll enc P p1 b sp ae f.resultTypes.toList ((Value.bool true).resultList f.resultTypes.size) (s.fn g9 (ds++[])).results []:=by
  intro b sp ae;rw[gk,h4,U];exact trodAll_cons_mk (shut_bool ah true) trodAll_mk0
 have lW:∀sp:Nat->Bool,(∀x∈p,sp x.block=true)->DataW.TrodAll enc P p1 0 sp true f.params.toList args.toList (s.fn g9 (ds++[])).args p:=by
  intro sp gU;rw[gk,h4];exact R p1 sp gU YC
 have YD:∀sp:Nat->Bool,DataW.TrodVars enc P p1 sp s.vars (s.fn g9 (ds++[])).vars []:=by
  intro sp;rw[ad,gk,h4]
  rfl
 refine⟨ds,[],p++[],[],p,[],Oa,hD _ _ _,lW _ (λx I=>by simpa using az x I),YD _,ai4 aN _,λ_=>⟨?_,_,_,([]++p)++[],⟨[]++p,[],trodAll_append (lW _ (λ_ _=>rfl)) (hD _ _ _),YD _,rfl,?_,?_⟩,?_⟩⟩
 ·intro j t r D G;rw[U] at D G
  cases j with
  |zero =>
   simp[Value.resultList] at D G;subst D G;exact okWide_bool_mk ah true
  |succ j=>simp at D
 ·intro b off aG;have YE:MemPlace.cell b off∈p:=by simpa using aG
  have ah:=az _ YE;have au:=a8 b off (by simpa using YE);unfold World.frozen? at au ⊢;rw[YC b ah];exact au
 ·intro aM;have:=aL aM
  simpa using this
 ·intro x I _
  simpa using I
theorem ai6 {f:FuncId}{fn:Func}{s:ChangeSpec}{apart fresh handsOn again:Bool}{a1:List Data->Option dF}{n:Nat}{schs:List oc}{FO:TypeId}(aG:oa P f a1)(ad:s.vars=[])(di:fn.params.toList.mapM (pX P n)=some schs)
  (U:fn.resultTypes=#[FO]) (ah:P.underlying FO=some .bool) (h4:∀ds:List (DataW g9),o ds=(o fn.params.toList)->s.fn g9 ds={ results:=[.lit (.bool true)],args:=ds })
  {W:World} {base:Nat} {args:Array Value} {ds gs:List (DataW g9)} {before:List MemPlace}
  (e3:∀p0,JL schs p0->a1 p0=some (.same (.bool true)))
  (g0:∀(j:Nat) t v,fn.params[j]?=some t->args[j]?=some v->Value.okWide P W .any base t v)
  (r4:DataW.Whole enc P fn.params.toList s.vars apart W args.toList ds gs before) :
  Calls P f args W λe p1=>∃v,e=.returned v/\s.post enc P fn apart fresh handsOn again W args v p1:=by
 have Oa:=r4;obtain⟨p,q,jd,wa,rfl,a8,aL⟩:=r4;obtain⟨⟨p0,D,G⟩,-,-⟩:=N9 di (λj t v bV ad=>g0 j t v (by simpa using bV) (by simpa using ad)) jd
 have hlen:(o ds)=o fn.params.toList:=by
  have:∀(qE:List TypeId) (vs:List Value) (ds:List (DataW g9)) (ps:List MemPlace),DataW.TrodAll enc P W 0 (λ_=>true) true qE vs ds ps->(o ds)=o qE:=by
   intro qE
   induction qE with
   |nil=>intro vs ds ps h;obtain⟨rfl,rfl,rfl⟩:=trodAll_nil h;rfl
   |cons t r aA=>intro vs ds ps h;obtain⟨v,aiX,d,aiY,a,b,rfl,rfl,rfl,-,G⟩:=trodAll_cons h;simp[aA _ _ _ G]
  exact this _ _ _ _ jd
 have E:=aG.run p0 _ (e3 p0 D) (λ_=>False) W args.toList (λb ah=>ah.elim) G;have aM:args.toList.toArray=args:=by simp
 rw[aM] at E;refine E.mono λe p1 ⟨v,he,gx,ae⟩=>⟨v,he,?_⟩
 have:v=.bool true:=by
  have mg:Den p1 (λ_=>False) (.bool true) v:=ae
  cases mg
  rfl
 subst this;exact ai5 Oa ad di g0 U ah (h4 ds hlen) gx
theorem Ob {α:Type}{l:List α}{n:Nat}(h:(o l)=n+1):∃d t,l=d::t/\o t=n:=by
 cases l with
 |nil=>simp at h
 |cons d t=>exact⟨d,t,rfl,by simpa using h⟩
theorem FP {α:Type}{e:α->List Data}{good:α->Prop}:∀{es:List (List Data)},(∀x∈es,∃a,x=e a/\good a)->∃l:List α,es=l.map e/\∀a∈l,good a
 | [],_=>⟨[],rfl,by simp⟩
 |x::r,h=>by
  obtain⟨a,rfl,aM⟩:=h x (by simp);obtain⟨l,rfl,ax⟩:=FP (es:=r) λy ak=>h y (by simp[ak]);exact⟨a::l,rfl,λb ah=>(hF.1 ah).elim (λe=>e ▸ aM) (ax b)⟩
end
end Go.Mini
namespace Go.Mini
open Go
def wb (x:O)(m:Mem):O->Mem->Prop:=λr mem'=>r=x/\mem'=m
@[go_sem high] theorem aye {K:bz->Prop}(x:O)(m:Mem)(d:Option Nat)(st:bz):tb K (some (.rel (wb x m))) d st=K ⟨put st.tm d x,m⟩:=by
 rw[ahl];apply propext;exact⟨λh=>h x m ⟨rfl,rfl⟩,λh r mem' ⟨aw,aB⟩=>by rw[aw,aB];exact h⟩
def xS (cW:List O->Mem->Option (O×Mem))(args:List O)(mem:Mem):Option gg:=(cW args mem).map λx => .rel (wb x.1 x.2)
@[go_sem] theorem ayf (cW:List O->Mem->Option (O×Mem))(args:List O)(mem:Mem):xS cW args mem=(cW args mem).map λx => .rel (wb x.1 x.2):=bC
structure FQ (P:Program) (f:FuncId) (cW:List O->Mem->Option (O×Mem)):Prop where
 real:Real P f
 run:∀args mem x,cW args mem=some x->∀A w B vs,eK A w B mem->db w (ca A B) B args vs->Jp P f vs A w B mem (.rel (wb x.1 x.2))
def Ci (res:List mc)(x:O)(m:Mem):fA->bz->Prop
 |.exit _,_=>False
 |.normal,st=>nc st res=some x/\st.mem=m
 |.ret,st=>nc st res=some x/\st.mem=m
@[go_sem] theorem ayg {res:List mc}{st:bz}(x:O)(m:Mem)(id:Nat):Ci res x m (.exit id) st=False:=bC
@[go_sem] theorem ayh {res:List mc}{st:bz}(x:O)(m:Mem):Ci res x m .normal st=(nc st res=some x/\st.mem=m):=bC
@[go_sem] theorem ayi {res:List mc}{st:bz}(x:O)(m:Mem):Ci res x m .ret st=(nc st res=some x/\st.mem=m):=bC
theorem YF {P : Program}{T : br}{kb : Nat}{own : List Nat}(cG : oU P T)(hm : P.follows .mixedOrders = true){f : FuncId}{fn : Func}{mf : bP}(aN : P.funcs[f]? = some fn)(tf : (fn.name == "runtime.NumGoroutine") = false)(aW : qC P kb own fn = some { mf with body := erase mf.body })
  {cW:List O->Mem->Option (O×Mem)} (h:∀args mem x,cW args mem=some x->(o args)<=mf.n/\wp T mf.body (Ci mf.res x.1 x.2) ⟨nd args,mem⟩):FQ P f cW:=by
 refine⟨?_,λargs mem x lu A w B vs bY ad=>?_⟩
 ·cases ah:fn.body with
  |none=>simp[qC,ah] at aW
  |some c=>exact⟨fn,c,aN,ah,tf⟩
 ·obtain⟨hlen,zJ⟩:=h args mem x lu;refine Calls.mono (JG (Post:=wb x.1 x.2) cG hm aN aW hlen (λe st R=>?_) zJ bY ad) λe aI he=>?_
  ·cases e with
   |exit id=>exact R
   |normal=>exact⟨_,R.1,rfl,R.2⟩
   |ret=>exact⟨_,R.1,rfl,R.2⟩
  ·obtain⟨v,m,mem',bB,rfl,aa,lk,aG⟩:=he;exact⟨v,m,mem',bB,rfl,aa,lk,aG⟩
def JM:Option (O×Mem)->Option gg->Option gg
 |some x,_=>some (.rel (wb x.1 x.2))
 |none,e=>e
@[go_sem] theorem ayj (x:O×Mem)(e:Option gg):JM (some x) e=some (.rel (wb x.1 x.2)):=bC
@[go_sem] theorem ayk (e:Option gg):JM none e=e:=bC
def wc (a1:List Data->Option dF)(cW:List O->Mem->Option (O×Mem))(args:List O)(mem:Mem):Option gg:=JM (cW args mem) (aK a1 args mem)
@[go_sem] theorem ayl (a1:List Data->Option dF)(cW:List O->Mem->Option (O×Mem))(args:List O)(mem:Mem):wc a1 cW args mem=JM (cW args mem) (aK a1 args mem):=bC
open Classical in
def Cj {α:Type}(bS:α->List O->Mem->Prop)(res:α->Mem->O×Mem):List O->Mem->Option (O×Mem):=λargs mem=>if h:∃a,bS a args mem then some (res (tg h) mem) else none
theorem YG {α:Type}{bS:α->List O->Mem->Prop}{res:α->Mem->O×Mem}(uniq:∀a b args mem,bS a args mem->bS b args mem->res a mem=res b mem){a:α}{args:List O}{mem:Mem}(h:bS a args mem):Cj bS res args mem=some (res a mem):=by
 have I:∃b,bS b args mem:=⟨a,h⟩;unfold Cj;rw[dif_pos I,uniq _ _ _ _ (pW I) h]
theorem Oc {α:Type}{bS:α->List O->Mem->Prop}{res:α->Mem->O×Mem}{args:List O}{mem:Mem}{x:O×Mem}(h:Cj bS res args mem=some x):∃a,bS a args mem/\x=res a mem:=by
 unfold Cj at h
 split at h
 ·rename_i I;exact⟨_,pW I,(ln h).symm⟩
 ·cases h
def uP:Nat->Nat->List Int
 |0,_=>[]
 |f+1,n=>if n=0 then [] else ((n%1048576:Nat):Int)::uP f (n/1048576)
def aD (n:Nat):List Int:=uP n n
def bl:List Int->Int
 | []=>0
 |d::r=>d+1048576*bl r
theorem qT (d:Int)(r:List Int):bl (d::r)=d+1048576*bl r:=rfl
def ey (l:List Int):Prop:=∀d∈l,0<=d/\d<1048576
def e9:List Int->List Int
 | []=>[]
 |d::r=>if e9 r=[] then (if d=0 then [] else [d]) else d::e9 r
def Y (n:Int):List Data:=[.int .i64 n]
theorem fR (b:Int):(Y b).length=1:=rfl
theorem o5 (b:Int):((Y b).map O.J).all O.one=true:=rfl
theorem eR:∀a b:Int,Y a=Y b->a=b:=by intro a b h;simpa [Y] using h
theorem ai7:∀(f g n:Nat),n<=f->n<=g->uP f n=uP g n:=by
 intro f
 induction f with
 |zero =>
      intro g n h _;obtain rfl:n=0:=by omega
      cases g<;>simp[uP]
 |succ f aA =>
  intro g n D G
  cases g with
  |zero =>
       obtain rfl:n=0:=by omega
       simp[uP]
  |succ g =>
   unfold uP
   by_cases aL:n=0
   ·rw[aj aL,aj aL]
   ·rw[aq aL,aq aL,aA g (n/1048576) (by omega) (by omega)]
theorem qU:aD 0=[]:=rfl
theorem r5 {n:Nat}(h:0<n):aD n=((n%1048576:Nat):Int)::aD (n/1048576):=by
 unfold aD;obtain⟨k,rfl⟩:∃k,n=k+1:=⟨n-1,by omega⟩
 conv=>lhs;unfold uP
 rw[aq (by omega),ai7 k ((k+1)/1048576) _ (by omega) (by omega)]
theorem kg (n:Nat):bl (aD n)=n:=by
 induction n using NR with
 |_ n aA =>
  rcases jo n with rfl|h
  ·rfl
  ·rw[r5 h];unfold bl;rw[aA _ (by omega)];omega
theorem FR {a b:Nat}(h:aD a=aD b):a=b:=by
 have:=congrArg bl h;rw[kg,kg] at this;omega
theorem kY (n:Nat):ey (aD n):=by
 induction n using NR with
 |_ n aA =>
  rcases jo n with rfl|h
  ·intro d ae;cases ae
  ·rw[r5 h];intro d ae;rcases hF.1 ae with rfl|ae
   ·omega
   ·exact aA _ (by omega) d ae
theorem we {n:Nat}:aD n=[]↔n=0:=by
 constructor
 ·intro h;exact FR (b:=0) h
 ·rintro rfl;rfl
theorem mS {l:List Int}(h:ey l):0<=bl l:=by
 induction l with
 |nil=>exact Int.le_refl _
 |cons d r aA =>
  have D:=h d (by simp);have G:=aA λx I=>h x (by simp[I]);unfold bl;omega
theorem zO {d:Int}{r:List Int}:ey (d::r)↔(0<=d/\d<1048576)/\ey r :=
 ⟨λh=>⟨h d (by simp),λx I=>h x (by simp[I])⟩,λh x I=>(hF.1 I).elim (λe=>e ▸ h.1) (h.2 x)⟩
theorem zP {a b:List Int}:ey (a++b)↔ey a/\ey b :=
 ⟨λh=>⟨λx I=>h x (by simp[I]),λx I=>h x (by simp[I])⟩,λh x I=>(iK.1 I).elim (h.1 x) (h.2 x)⟩
theorem zQ (a b:List Int):bl (a++b)=bl a+1048576^(o a)*bl b:=by
 induction a with
 |nil=>simp[bl]
 |cons d r aA =>
  simp only[jc,bl,aA,jN,lv];rw[hh]
  have:(1048576:Int)*(1048576^(o r)*bl b)=1048576^(o r)*1048576*bl b:=by
   rw[lx (1048576^(o r)) 1048576,hi]
  omega
theorem wg {l:List Int}(h:ey l):bl l<1048576^(o l):=by
 induction l with
 |nil=>simp[bl]
 |cons d r aA =>
  rw[zO] at h;have G:=aA h.2;simp only[bl,jN,lv];omega
theorem YH (l:List Int):e9 (l++[0])=e9 l:=by
 induction l with
 |nil=>simp[e9]
 |cons d r aA=>simp only[jc,e9,aA]
theorem YI (l:List Int){d:Int}(h:d≠0):e9 (l++[d])=l++[d]:=by
 induction l with
 |nil=>simp[e9,h]
 |cons x r aA=>simp only[jc,e9,aA];simp
theorem wh {l:List Int}(h:ey l):e9 l=aD (bl l).toNat:=by
 induction l with
 |nil=>rfl
 |cons d r aA =>
  rw[zO] at h;have U:=aA h.2;have ad:=mS h.2;unfold e9;rw[U,qT]
  by_cases a8:bl r=0
  ·rw[a8]
   by_cases ae:d=0
   ·simp[ae,qU]
   ·rw[aj (by rfl),aq ae];rw[r5 (by omega)];rw[show (d+1048576*0).toNat/1048576=0 by omega,qU]
    congr 1
    omega
  ·rw[aq (by rw[we];omega)];rw[r5 (n:=(d+1048576*bl r).toNat) (by omega)]
   congr 1
   ·omega
   ·congr 1;omega
theorem YJ (n:Nat):e9 (aD n)=aD n:=by
 rw[wh (kY n),kg];simp
theorem canon {l:List Int}(h:ey l)(ax:l.getLast?≠some 0):l=aD (bl l).toNat:=by
 rw[<-wh h];rcases zR l with rfl|⟨r,d,rfl⟩
 ·rfl
 ·rw[zS] at ax ⊢;rw[YI];rintro rfl;simp at ax
theorem YK (n:Nat):(aD n).getLast?≠some 0:=by
 intro h
 obtain⟨r,U⟩:∃r,aD n=r++[0]:=by
  rcases zR (aD n) with e|⟨r,d,e⟩
  ·rw[e] at h;cases h
  ·rw[zS] at e;rw[e] at h;simp at h;subst h;exact⟨r,e⟩
 have D:=YJ n;rw[U,YH] at D
 have G:(e9 r).length<=o r:=by
  clear D U h
  induction r with
  |nil=>simp[e9]
  |cons d r aA=>unfold e9;split<;>(try split)<;>simp<;>omega
 rw[D] at G;simp at G;omega
theorem fC {n k:Nat}:(aD n).length<=k↔n<1048576^k:=by
 induction k generalizing n with
 |zero =>
      rw[Nat.pow_zero];constructor
      ·intro h;have:=mL (Nat.le_zero.1 h);rw[we] at this;omega
      ·intro h;obtain rfl:n=0:=by omega
       simp[qU]
 |succ k aA =>
  rcases jo n with rfl|h
  ·simp[qU];exact Nat.pos_of_ne_zero (by simp)
  ·rw[r5 h,jN,r6];have:=aA (n:=n/1048576);rw[Nat.add_le_add_iff_right,this];rw[YL (by omega)]
theorem FT {n:Nat}(h:0<n)(D:n<1048576):aD n=[(n:Int)]:=by
 rw[r5 h,N3 D,FN D];rfl
theorem FU (l:List Int)(i:Nat):bl l=bl (l.take i)+1048576^(min i (o l))*bl (l.drop i):=by
 conv=>lhs;rw[<-xN i l]
 rw[zQ,gO]
theorem zT (n:Int)(h:0<=n/\n<18446744073709551616):IntKind.u64.wrap n=n:=by
 simp[IntKind.wrap,IntKind.bits,IntKind.signed];omega
theorem o6 (n:Int):bits .and .i64 n 1048575=n%1048576:=by
 have G:(1048575:Int)=((2^20-1:Nat):Int):=by decide
 have D:n%18446744073709551616%1048576=n%1048576:=by omega
 obtain⟨a,aM⟩:∃a:Nat,(a:Int)=n%18446744073709551616:=⟨(n%18446744073709551616).toNat,by omega⟩
 have e:BitVec.ofInt 64 n=BitVec.ofNat 64 a:=by
  apply BitVec.eq_of_toInt_eq;rw[BitVec.toInt_ofInt,BitVec.toInt_ofNat',aM];simp[YM,YN]
 have aB:bits .and .i64 n 1048575=bits .and .i64 (a:Int) 1048575:=by
  simp only[bits];rw[show IntKind.i64.bits=64 from rfl,e,BitVec.ofInt_natCast]
 rw[aB,<-D,<-aM,G];have Od:a<2^64:=by omega
 simp only[bits,BitVec.ofInt_natCast,BitVec.toNat_and,BitVec.toNat_ofNat,show IntKind.i64.bits=64 from rfl,FN Od];rw[show (2^20-1:Nat)%2^64=2^20-1 by decide,YO,wrap64 _ (by omega) (by omega)]
 omega
theorem YP (n:Int)(h:0<=n/\n<18446744073709551616):bits .and .u64 n 1048575=n%1048576:=by
 have:=bits_mask .u64 64 (by decide) (λn D G=>zT n ⟨D,by omega⟩) 20 (by decide) n h.1 (by omega)
 simpa using this
theorem Oe (x y:Int)(I:0<=x)(r3:x<8796093022208)(ak:0<=y/\y<1048576):bits .or .i64 (x*1048576) y=x*1048576+y:=by
 refine bits_join .i64 63 (by decide) (λn D G=>wrap64 n (by omega) (by omega)) 20 _ _ (by omega) (by omega) (by omega) ak.1 (by omega) (by omega)
theorem ai8 (n:Int):n.fdiv (2^20)=n/1048576:=by
 rw[Int.fdiv_eq_ediv_of_nonneg _ (by decide)];rfl
theorem mm (n:Int):n.fdiv (2^min (zU 20) 64)=n/1048576:=ai8 n
def JN:FuncId:=39
def kh:FuncId:=84
def FV:FuncId:=40
def FW:FuncId:=19
def xT:FuncId:=35
def zV:FuncId:=233
def Of:FuncId:=173
def zW:FuncId:=96
def Og:FuncId:=43
def JO:FuncId:=36
def r7:FuncId:=38
def jv:FuncId:=146
def FX:FuncId:=147
def Oh:FuncId:=148
def Oi:FuncId:=90
def r8:FuncId:=85
def zX:FuncId:=86
def JP:FuncId:=55
def FY:FuncId:=82
def Ck:FuncId:=83
def Oj:FuncId:=201
def FZ:FuncId:=152
def JQ:FuncId:=165
def Cl:FuncId:=91
def zY:FuncId:=88
def Ol:FuncId:=89
def r9:FuncId:=149
def sa:FuncId:=94
def F0:FuncId:=156
def mT:FuncId:=150
def Om:FuncId:=189
def On:FuncId:=161
def Cm:FuncId:=151
def jw:FuncId:=141
def Cn:FuncId:=142
def F1:FuncId:=143
def zZ:FuncId:=144
def mU:FuncId:=145
def JR:FuncId:=155
def F2:FuncId:=157
def Co:FuncId:=158
def Cp:FuncId:=159
def z1:FuncId:=160
def JS:FuncId:=192
def oe:FuncId:=190
def Oo:FuncId:=193
def Oq:FuncId:=195
def F3:FuncId:=187
def F4:FuncId:=181
def xU:FuncId:=183
def qV:FuncId:=188
def JT:FuncId:=194
def xV:FuncId:=182
def z2:FuncId:=170
def qW:FuncId:=200
def Ot:FuncId:=60
def kZ:FuncId:=108
def Ou:FuncId:=133
def Ov:FuncId:=68
def o7:FuncId:=109
def Ow:FuncId:=110
def wi:FuncId:=111
def F5:FuncId:=168
def F6:FuncId:=129
def Ox:FuncId:=134
def z6:FuncId:=169
def Oy:FuncId:=199
def Oz:FuncId:=184
def OA:FuncId:=78
def z7:FuncId:=79
def Cq:FuncId:=80
def wj:FuncId:=900234
def OB:FuncId:=175
def xW:FuncId:=900236
def F7:FuncId:=154
def sb:FuncId:=153
def tj:FuncId:=137
def JU:FuncId:=138
def JV:FuncId:=139
def OC:FuncId:=106
def F8:FuncId:=107
def OD:FuncId:=87
def Cr:FuncId:=162
def F9:FuncId:=163
def Cs:FuncId:=164
def Ct:FuncId:=191
def OE:FuncId:=167
def Ga:FuncId:=61
def Cu:FuncId:=112
def OG:FuncId:=70
def Gb:FuncId:=130
def OH:FuncId:=131
def uQ:FuncId:=132
def xX:FuncId:=28
def Gc:FuncId:=63
def OI:FuncId:=64
def OJ:FuncId:=65
def OK:FuncId:=66
def ly:FuncId:=113
def z8:FuncId:=114
def uR:FuncId:=115
def tk:FuncId:=116
def OL:FuncId:=117
def OM:FuncId:=118
def JW:FuncId:=119
def Gd:FuncId:=120
def ON:FuncId:=121
def OO:FuncId:=122
def OP:FuncId:=123
def OQ:FuncId:=124
def Aa:FuncId:=73
def OR:FuncId:=125
def qX:FuncId:=126
def OS:FuncId:=127
def xY:FuncId:=171
def Ab:FuncId:=172
def sc:FuncId:=174
def tl:FuncId:=176
def Ge:FuncId:=135
def Ac:FuncId:=179
def OT:FuncId:=180
def OU:FuncId:=213
def Ad:FuncId:=54
def OV:FuncId:=58
def tn:FuncId:=104
def Cv:FuncId:=105
def ai9:FuncId:=4
def OW:FuncId:=26
def OX:FuncId:=27
def OY:FuncId:=29
def Gf:FuncId:=30
def Gg:FuncId:=31
def Ae:FuncId:=32
def OZ:FuncId:=34
def Cw:FuncId:=41
def xZ:FuncId:=62
def Gh:FuncId:=67
def Gi:FuncId:=69
def O0:FuncId:=71
def O1:FuncId:=72
def Gj:FuncId:=74
def JX:FuncId:=128
def O2:FuncId:=136
abbrev F (a b:Nat):cZ:=⟨some a,none,.ck (.t b)⟩
abbrev a2 (a n b:Nat):cZ:=⟨some a,none,.load n false (.t b)⟩
abbrev ba (a n b:Nat):cZ:=⟨some a,none,.load n true (.t b)⟩
abbrev bg (a n b:Nat):cZ:=⟨some a,none,.c3 n (.t b)⟩
abbrev bu (n a b:Nat):cZ:=⟨none,none,.store n (.t a) (.t b)⟩
abbrev bq (a:Nat)(n:Int):cZ:=⟨some a,none,.ck (.c (.J (.int .i64 n)))⟩
abbrev bx (a n b:Nat):cZ:=⟨some a,none,.ext n (.t b)⟩
abbrev cC (a n b c:Nat):cZ:=⟨some a,none,.jO n (.t b) (.t c)⟩
abbrev cx (a b:Nat):cZ:=⟨some a,none,.len (.t b)⟩
abbrev cj (a:Nat)(b:Bool):cZ:=⟨some a,none,.ck (.c (.J (.bool b)))⟩
abbrev fa (a:Nat):cZ:=⟨some a,none,.ck (.c .nil)⟩
abbrev bJ (a:Nat)(ar:BinOp)(b c:Nat):cZ:=⟨some a,none,.bin ar (.t b) (.t c)⟩
abbrev bo (a:Nat)(ar:BinOp)(b:Nat)(n:Int):cZ:=⟨some a,none,.bin ar (.t b) (.c (.J (.int .i64 n)))⟩
abbrev cX (a b c:Nat):cZ:=⟨some a,none,.pick (.t b) (.c (.J (.bool true))) (.t c)⟩
abbrev gI (a b c:Nat):cZ:=⟨some a,none,.pick (.t b) (.t c) (.c (.J (.bool false)))⟩
abbrev cN (a k b:Nat):cZ:=⟨some a,none,.box k (.t b)⟩
abbrev dY (a b:Nat):cZ:=⟨some a,none,.un .not (.t b)⟩
abbrev ao (n:Int):O:=.J (.int .i64 n)
abbrev dg (a:Nat)(f:FuncId)(x:Nat):cZ:=⟨some a,none,.call f [.t x]⟩
abbrev b0 (a:Nat)(f:FuncId)(x y:Nat):cZ:=⟨some a,none,.call f [.t x,.t y]⟩
abbrev ns (a:Nat)(f:FuncId)(x y z:Nat):cZ:=⟨some a,none,.call f [.t x,.t y,.t z]⟩
abbrev Cx (a:Nat)(f:FuncId)(x y z u:Nat):cZ:=⟨some a,none,.call f [.t x,.t y,.t z,.t u]⟩
abbrev aE (a:Nat)(ar:iF):cZ:=⟨some a,none,ar⟩
abbrev b5 (n m:Nat)(r:List mc)(b:e6):bP:=⟨n,m,r,b⟩
abbrev aX (n:Nat)(a b:e6):e6:=.cond (.t n) a b
abbrev M (l:List cZ)(c:e6):e6:=.seq (.ops l) c
abbrev eS (l:List cZ)(x:List (List Nat))(c:e6):e6:=.seq (.pN l x) c
abbrev YQ:List (List Nat):=[[],[],[],[],[]]
abbrev YR:List (List Nat):=[[],[],[],[],[],[]]
abbrev YS:List (List Nat):=[[],[],[],[],[],[],[]]
abbrev YT:List (List Nat):=[[],[],[],[],[],[],[],[]]
abbrev wk:List (List Nat):=[[],[],[],[],[],[],[],[],[]]
abbrev JY:List (List Nat):=[[],[],[],[],[],[],[],[],[],[]]
abbrev O3:List (List Nat):=[[],[],[],[],[],[],[],[],[],[],[]]
abbrev YU:List (List Nat):=[[],[],[],[],[],[],[],[],[],[],[],[]]
abbrev JZ:List (List Nat):=[[],[],[],[],[],[],[],[],[],[],[],[],[]]
abbrev Gk:List (List Nat):=[[],[],[],[],[],[],[],[],[],[],[],[],[],[]]
abbrev Gl:List (List Nat):=[[],[],[],[],[],[],[],[],[],[],[],[],[],[],[],[]]
abbrev aja:List (List Nat):=[[],[],[],[],[],[],[],[],[],[],[],[],[],[],[],[],[]]
abbrev ajb:List (List Nat):=[[],[],[],[],[],[],[],[],[],[],[],[],[],[],[],[],[],[]]
abbrev ajc:List (List Nat):=[[],[],[],[],[],[],[],[],[],[],[],[],[],[],[],[],[],[],[],[],[]]
abbrev YV:List (List Nat):=[[],[],[],[],[],[],[],[],[],[],[],[],[],[],[],[],[],[],[],[],[],[],[],[]]
abbrev ajd:List (List Nat):=[[],[],[],[],[],[],[],[],[],[],[],[],[],[],[],[],[],[],[],[],[],[],[],[],[],[]]
abbrev aje:List (List Nat):=[[],[],[],[],[],[],[],[],[],[],[],[],[],[],[],[],[],[],[],[],[],[],[],[],[],[],[],[],[]]
def O4:bP:=b5 49 1 [.t 2] (M [cN 1 136001 0,cj 2 false] (M [bg 6 1 1,a2 7 1 6,cx 8 7,F 3 8] (.seq (M [bg 9 1 1,a2 10 1 9,cx 11 10,bq 12 0] (.block 0 (.loop  (M [bJ 13 .lss 12 11] (.seq (aX 13 .skip (.exit 0)) (.seq (.block 1 (M [cC 14 1 10 12,a2 15 1 14,F 5 15] (M [F 16 5,bo 17 .lss 16 0,F 18 17,⟨some 19,some (18,false),.ck (.t 5)⟩,⟨some 20,some (18,false),.bin .gtr (.t 19) (.c (ao 1048575))⟩,cX 21 18 20] (aX 21 (M [cj 2 false] .ret) .skip)))) (.ops [bo 22 .add 12 1,F 12 22]))))))) (.seq (M [F 23 3,bo 24 .eql 23 0] (aX 24 (M [bg 25 0 1,a2 26 1 25,bo 27 .eql 26 0,F 2 27] .ret) .skip)) (M [bg 28 0 1,a2 29 1 28,bo 30 .eql 29 1,F 31 30,⟨some 32,some (31,false),.c3 0 (.t 1)⟩,⟨some 33,some (31,false),.load 1 false (.t 32)⟩,⟨some 34,some (31,false),.bin .eql (.t 33) (.c (.J (.int .i64 (-1))))⟩,cX 35 31 34,F 36 35,⟨some 37,some (36,true),.ck (.t 3)⟩,⟨some 38,some (36,true),.bin .leq (.t 37) (.c (ao 60))⟩,gI 39 36 38,F 40 39,⟨some 41,some (40,true),.c3 1 (.t 1)⟩,⟨some 42,some (40,true),.load 1 false (.t 41)⟩,⟨some 43,some (40,true),.ck (.t 3)⟩,⟨some 44,some (40,true),.bin .sub (.t 43) (.c (ao 1))⟩,⟨some 45,some (40,true),.jO 1 (.t 42) (.t 44)⟩,⟨some 46,some (40,true),.load 1 false (.t 45)⟩,⟨some 47,some (40,true),.bin .neq (.t 46) (.c (ao 0))⟩,gI 48 40 47,F 2 48] .ret)))))
def O5:bP:=b5 44 2 [.cell 4 2 true,.t 5] (M [cN 2 137002 0,cN 3 137003 1,(aE 4 (.alloc 137004 [(ao 0),.nil])),bq 5 0] (.seq (M [ba 10 2 2,(dg 11 jv 10),dY 12 11,F 13 12,⟨some 14,some (13,false),.load 2 true (.t 3)⟩,⟨some 15,some (13,false),.call jv [(.t 14)]⟩,⟨some 16,some (13,false),.un .not (.t 15)⟩,cX 17 13 16] (aX 17 (M [(aE 18 (.build [(ao 0),.nil] [])),(aE 19 (.call r9 [(.c (.J (.bool false))),(.t 18)])),bx 20 0 19,bx 21 1 19,bu 2 4 20,F 5 21] .ret) .skip)) (eS [bg 22 1 2,a2 23 1 22,(dg 24 sa 23),bg 25 1 3,a2 26 1 25,F 6 24,F 7 26] YS (.seq (.block 0 (.loop  (.seq (M [F 27 7,cx 28 27,bo 29 .gtr 28 0] (aX 29 .skip (.exit 0))) (.block 1 (M [F 31 6,F 32 7,(b0 33 F0 31 32),F 30 33,bx 34 0 30,bx 35 1 30,F 8 34,F 9 35] (.ops [F 36 7,F 37 9,F 6 36,F 7 37])))))) (M [F 38 6,(dg 39 sa 38),(aE 40 (.call mT [(.c (ao 1)),(.t 39)])),(aE 41 (.call r9 [(.c (.J (.bool true))),(.t 40)])),bx 42 0 41,bx 43 1 41,bu 2 4 42,F 5 43] .ret)))))
def O6:bP:=b5 32 2 [.cell 4 2 true,.t 5] (M [cN 2 140002 0,cN 3 140003 1,(aE 4 (.alloc 140004 [(ao 0),.nil])),bq 5 0] (.seq (M [ba 6 2 2,(dg 7 jv 6),dY 8 7,F 9 8,⟨some 10,some (9,false),.load 2 true (.t 3)⟩,⟨some 11,some (9,false),.call jv [(.t 10)]⟩,⟨some 12,some (9,false),.un .not (.t 11)⟩,cX 13 9 12] (aX 13 (M [(aE 14 (.build [(ao 0),.nil] [])),(aE 15 (.call r9 [(.c (.J (.bool false))),(.t 14)])),bx 16 0 15,bx 17 1 15,bu 2 4 16,F 5 17] .ret) .skip)) (eS [bg 18 0 2,a2 19 1 18,bg 20 0 3,a2 21 1 20,bJ 22 .mul 19 21,bg 23 1 2,a2 24 1 23,bg 25 1 3,a2 26 1 25,(b0 27 Cm 24 26),(b0 28 mT 22 27),(aE 29 (.call r9 [(.c (.J (.bool true))),(.t 28)])),bx 30 0 29,bx 31 1 29,bu 2 4 30,F 5 31] Gl .ret)))
def O7:bP:=b5 25 1 [.cell 2 2 true] (M [(aE 2 (.alloc 150002 [(ao 0),.nil]))] (M [F 6 0,(aE 7 (.conv .u64 (.t 6))),bq 3 1,F 4 7] (.seq (M [F 8 0,bo 9 .lss 8 0] (aX 9 (.ops [F 10 4,(aE 11 (.un .neg (.t 10))),(aE 3 (.ck (.c (.J (.int .i64 (-1)))))),F 4 11]) .skip)) (M [fa 5] (.seq (.block 0 (.ghost (.nT 5 150021 1) (.loop  (.seq (M [F 12 4,(aE 13 (.bin .gtr (.t 12) (.c (.J (.int .u64 0)))))] (aX 13 .skip (.exit 0))) (.seq (.block 1 (.ops [F 16 5,F 17 4,(aE 18 (.bin .and (.t 17) (.c (.J (.int .u64 1048575))))),(aE 19 (.conv .i64 (.t 18))),(aE 20 (.fz 150020 false [(ao 0)] 1 1 [(0,1,(.t 19))])),(aE 21 (.app 150021 [(ao 0)] 8 (.t 16) (.t 20))),F 5 21])) (.ops [F 14 4,(aE 15 (.bin .shr (.t 14) (.c (.J (.int .u64 20))))),F 4 15])))))) (.seq (.ghost (.freeze 5) (.ops [F 22 3,F 23 5,(b0 24 mT 22 23),bu 2 2 24])) .ret))))))
def O8:bP:=b5 14 1 [.cell 2 2 true] (M [cN 1 152001 0,(aE 2 (.alloc 152002 [(ao 0),.nil]))] (.seq (M [ba 3 2 1,(dg 4 jv 3),dY 5 4] (aX 5 (M [(aE 6 (.build [(ao 0),.nil] [])),bu 2 2 6] .ret) .skip)) (eS [bg 7 0 1,a2 8 1 7,(aE 9 (.un .neg (.t 8))),bg 10 1 1,a2 11 1 10,(dg 12 sa 11),(b0 13 mT 9 12),bu 2 2 13] YT .ret)))
def O9:bP:=b5 67 2 [.cell 4 2 true,.cell 5 2 true,.t 6] (M [cN 2 153002 0,cN 3 153003 1,(aE 4 (.alloc 153004 [(ao 0),.nil])),(aE 5 (.alloc 153005 [(ao 0),.nil])),bq 6 0] (.seq (.block 0 (M [ba 10 2 2,(dg 11 jv 10),dY 12 11,F 13 12,⟨some 14,some (13,false),.load 2 true (.t 3)⟩,⟨some 15,some (13,false),.call jv [(.t 14)]⟩,⟨some 16,some (13,false),.un .not (.t 15)⟩,cX 17 13 16,F 9 17] (aX 9 (M [(aE 18 (.build [(ao 0),.nil] [])),(aE 19 (.build [(ao 0),.nil] [])),bu 2 4 18,bu 2 5 19,bq 6 1] .ret) (M [bg 21 0 3,a2 22 1 21,bo 23 .eql 22 0,F 20 23] (aX 20 (M [(aE 24 (.build [(ao 0),.nil] [])),(aE 25 (.build [(ao 0),.nil] [])),bu 2 4 24,bu 2 5 25,bq 6 15] .ret) .skip))))) (M [bg 27 1 2,a2 28 1 27,bg 29 1 3,a2 30 1 29,(b0 31 F0 28 30),F 26 31,bx 32 0 26,bx 33 1 26,F 7 32,F 8 33] (.seq (M [bg 34 0 2,a2 35 1 34,bg 36 0 3,a2 37 1 36,bJ 38 .mul 35 37,bo 39 .lss 38 0,F 40 39,⟨some 41,some (40,true),.ck (.t 8)⟩,⟨some 42,some (40,true),.len (.t 41)⟩,⟨some 43,some (40,true),.bin .gtr (.t 42) (.c (ao 0))⟩,gI 44 40 43] (aX 44 (eS [F 45 7,(aE 46 (.fz 153046 false [(ao 0)] 1 1 [(0,1,(.c (ao 1)))])),(b0 47 F2 45 46),(aE 48 (.call mT [(.c (.J (.int .i64 (-1)))),(.t 47)])),bg 49 0 3,a2 50 1 49,bg 51 1 3,a2 52 1 51,F 53 8,(b0 54 Co 52 53),(b0 55 mT 50 54),bu 2 4 48,bu 2 5 55,bq 6 0] Gk .ret) .skip)) (eS [bg 56 0 2,a2 57 1 56,bg 58 0 3,a2 59 1 58,bJ 60 .mul 57 59,F 61 7,(b0 62 mT 60 61),bg 63 0 2,a2 64 1 63,F 65 8,(b0 66 mT 64 65),bu 2 4 62,bu 2 5 66,bq 6 0] Gk .ret)))))
def Pa:bP:=b5 31 2 [.t 4] (M [cN 2 154002 0,cN 3 154003 1,bq 4 0] (.seq (M [ba 5 2 2,(dg 6 jv 5),dY 7 6,F 8 7,⟨some 9,some (8,false),.load 2 true (.t 3)⟩,⟨some 10,some (8,false),.call jv [(.t 9)]⟩,⟨some 11,some (8,false),.un .not (.t 10)⟩,cX 12 8 11] (aX 12 (M [bq 4 0] .ret) .skip)) (.seq (M [bg 13 0 2,a2 14 1 13,bg 15 0 3,a2 16 1 15,bJ 17 .neq 14 16] (aX 17 (M [bg 18 0 2,a2 19 1 18,bg 20 0 3,a2 21 1 20,(b0 22 Cp 19 21),F 4 22] .ret) .skip)) (eS [bg 23 0 2,a2 24 1 23,bg 25 1 2,a2 26 1 25,bg 27 1 3,a2 28 1 27,(b0 29 z1 26 28),bJ 30 .mul 24 29,F 4 30] wk .ret))))
def Pb:bP:=b5 17 2 [.cell 4 2 true,.t 5] (M [cN 3 155003 1,(aE 4 (.alloc 155004 [(ao 0),.nil])),bq 5 0] (.seq (.block 0 (M [F 7 0,dY 8 7,F 6 8] (aX 6 (M [(aE 9 (.build [(ao 0),.nil] [])),bu 2 4 9,bq 5 1] .ret) (M [bg 11 1 3,a2 12 1 11,cx 13 12,bo 14 .gtr 13 60,F 10 14] (aX 10 (M [(aE 15 (.build [(ao 0),.nil] [])),bu 2 4 15,bq 5 6] .ret) .skip))))) (M [ba 16 2 3,bu 2 4 16,bq 5 0] .ret)))
def Pc:bP:=b5 170 2 [.t 4,.t 5] (M [fa 4,fa 5] (.seq (M [F 19 0,F 20 1,(b0 21 z1 19 20),bo 22 .lss 21 0] (aX 22 (M [F 23 0,(dg 24 sa 23),fa 4,F 5 24] .ret) .skip)) (.seq (M [F 25 1,cx 26 25,bo 27 .eql 26 1] (aX 27 (M [F 29 0,F 30 1,(aE 31 (.jO 1 (.t 30) (.c (ao 0)))),a2 32 1 31,(b0 33 JS 29 32),F 28 33,bx 34 0 28,bx 35 1 28,F 6 34,F 7 35] (M [F 36 6,F 37 7,(aE 38 (.fz 157038 false [(ao 0)] 1 1 [(0,1,(.t 37))])),(dg 39 oe 38),F 4 36,F 5 39] .ret)) .skip)) (M [bq 8 1] (.seq (.block 0 (.loop  (.seq (M [F 40 1,F 41 1,cx 42 41,bo 43 .sub 42 1,cC 44 1 40 43,a2 45 1 44,F 46 8,bJ 47 .mul 45 46,bo 48 .lss 47 524288] (aX 48 .skip (.exit 0))) (.block 1 (.ops [F 49 8,bo 50 .mul 49 2,F 8 50]))))) (M [F 51 0,F 52 8,(aE 53 (.fz 157053 false [(ao 0)] 1 1 [(0,1,(.t 52))])),(aE 54 (.na 157054 1 Cm [(.t 51),(.t 53)])),(aE 55 (.fz 157055 false [(ao 0)] 1 1 [(0,1,(.c (ao 0)))])),(aE 56 (.app 157056 [(ao 0)] 8 (.t 54) (.t 55))),F 57 1,F 58 8,(aE 59 (.fz 157059 false [(ao 0)] 1 1 [(0,1,(.t 58))])),(b0 60 Cm 57 59),F 9 56,F 10 60] (.seq (M [F 61 9,cx 62 61,F 63 0,cx 64 63,bJ 65 .eql 62 64] (aX 65 (.ops [F 66 9,(aE 67 (.fz 157067 false [(ao 0)] 1 1 [(0,1,(.c (ao 0)))])),(aE 68 (.app 157068 [(ao 0)] 8 (.t 66) (.t 67))),F 9 68]) .skip)) (M [F 69 10,cx 70 69,F 11 70] (M [F 71 9,cx 72 71,F 73 11,bJ 74 .sub 72 73,(aE 75 (.mb 157075 [(ao 0)] 8 (.t 74) (.t 74))),F 12 75] (.seq (M [F 76 12,cx 77 76,bo 78 .sub 77 1,F 13 78] (.block 2 (.loop  (.seq (M [F 79 13,bo 80 .geq 79 0] (aX 80 .skip (.exit 2))) (.seq (.block 3 (eS [F 83 9,F 84 13,F 85 11,bJ 86 .add 84 85,cC 87 1 83 86,a2 88 1 87,(aE 89 (.bin .shl (.t 88) (.c (.J (.int .u64 20))))),F 90 9,F 91 13,F 92 11,bJ 93 .add 91 92,bo 94 .sub 93 1,cC 95 1 90 94,a2 96 1 95,bJ 97 .or 89 96,F 14 97] Gl (eS [F 98 14,F 99 10,F 100 11,bo 101 .sub 100 1,cC 102 1 99 101,a2 103 1 102,bJ 104 .quo 98 103,F 105 14,F 106 10,F 107 11,bo 108 .sub 107 1,cC 109 1 106 108,a2 110 1 109,bJ 111 .rem 105 110,F 15 104,F 16 111] Gl (.seq (.block 4 (.loop  (.seq (eS [F 112 15,bo 113 .geq 112 1048576,F 114 113,⟨some 115,some (114,false),.ck (.t 16)⟩,⟨some 116,some (114,false),.bin .lss (.t 115) (.c (ao 1048576))⟩,⟨some 117,some (114,false),.ck (.t 116)⟩,⟨some 118,some (117,true),.ck (.t 15)⟩,⟨some 119,some (117,true),.ck (.t 10)⟩,⟨some 120,some (117,true),.ck (.t 11)⟩,⟨some 121,some (117,true),.bin .sub (.t 120) (.c (ao 2))⟩,⟨some 122,some (117,true),.jO 1 (.t 119) (.t 121)⟩,⟨some 123,some (117,true),.load 1 false (.t 122)⟩,⟨some 124,some (117,true),.bin .mul (.t 118) (.t 123)⟩,⟨some 125,some (117,true),.ck (.t 16)⟩,⟨some 126,some (117,true),.bin .shl (.t 125) (.c (.J (.int .u64 20)))⟩,⟨some 127,some (117,true),.ck (.t 9)⟩,⟨some 128,some (117,true),.ck (.t 13)⟩,⟨some 129,some (117,true),.ck (.t 11)⟩,⟨some 130,some (117,true),.bin .add (.t 128) (.t 129)⟩,⟨some 131,some (117,true),.bin .sub (.t 130) (.c (ao 2))⟩,⟨some 132,some (117,true),.jO 1 (.t 127) (.t 131)⟩,⟨some 133,some (117,true),.load 1 false (.t 132)⟩,⟨some 134,some (117,true),.bin .or (.t 126) (.t 133)⟩,⟨some 135,some (117,true),.bin .gtr (.t 124) (.t 134)⟩,⟨some 136,some (114,false),.pick (.t 117) (.t 135) (.c (.J (.bool false)))⟩,cX 137 114 136] ajd (aX 137 .skip (.exit 4))) (.block 5 (M [F 138 15,bo 139 .sub 138 1,F 15 139] (.ops [F 140 16,F 141 10,F 142 11,bo 143 .sub 142 1,cC 144 1 141 143,a2 145 1 144,bJ 146 .add 140 145,F 16 146])))))) (.ops [F 147 12,F 148 13,F 149 9,F 150 13,F 151 13,F 152 11,bJ 153 .add 151 152,bo 154 .add 153 1,(aE 155 (.m9 1 (.t 149) (some (.t 150)) (some (.t 154)) none)),F 156 10,F 157 15,(ns 158 Oo 155 156 157),cC 159 1 147 148,bu 1 159 158]))))) (.ops [F 81 13,bo 82 .sub 81 1,F 13 82])))))) (.seq (.ghost (.freeze 9) (.ops [F 161 9,(dg 162 oe 161),F 163 8,(b0 164 JS 162 163),F 160 164,bx 165 0 160,bx 166 1 160,F 17 165,F 18 166])) (.seq (.ghost (.freeze 12) (.ops [F 167 12,(dg 168 oe 167),F 169 17,F 4 168,F 5 169])) .ret))))))))))))
def Pf:bP:=b5 14 2 [.cell 4 2 true] (M [(aE 4 (.alloc 158004 [(ao 0),.nil]))] (M [F 5 1,(dg 6 oe 5),F 1 6] (.seq (M [F 7 1,cx 8 7,bo 9 .eql 8 0] (aX 9 (M [(aE 10 (.build [(ao 0),.nil] [])),bu 2 4 10] .ret) .skip)) (M [F 11 0,F 12 1,(aE 13 (.build [(ao 0),.nil] [(0,1,(.t 11)),(1,1,(.t 12))])),bu 2 4 13] .ret))))
def Pg:bP:=b5 59 1 [.t 2,.t 3] (M [cN 1 159001 0,bq 2 0,cj 3 false] (.seq (M [ba 7 2 1,(dg 8 jv 7),dY 9 8,F 10 9,⟨some 11,some (10,false),.c3 1 (.t 1)⟩,⟨some 12,some (10,false),.load 1 false (.t 11)⟩,⟨some 13,some (10,false),.len (.t 12)⟩,⟨some 14,some (10,false),.bin .gtr (.t 13) (.c (ao 4))⟩,cX 15 10 14] (aX 15 (M [bq 2 0,cj 3 false] .ret) .skip)) (M [(aE 4 (.ck (.c (.J (.int .u64 0)))))] (.seq (M [bg 16 1 1,a2 17 1 16,cx 18 17,bq 19 0] (.block 0 (.loop  (M [bJ 20 .lss 19 18] (.seq (aX 20 .skip (.exit 0)) (.seq (.block 1 (M [F 21 19,cC 22 1 17 19,a2 23 1 22,F 5 21,F 6 23] (.seq (M [F 24 5,bo 25 .eql 24 3,F 26 25,⟨some 27,some (26,true),.ck (.t 6)⟩,⟨some 28,some (26,true),.bin .gtr (.t 27) (.c (ao 8))⟩,gI 29 26 28] (aX 29 (M [bq 2 0,cj 3 false] .ret) .skip)) (.ops [F 30 4,F 31 6,(aE 32 (.conv .u64 (.t 31))),F 33 5,(aE 34 (.bin .mul (.c (ao 20)) (.t 33))),bJ 35 .shl 32 34,bJ 36 .or 30 35,F 4 36])))) (.ops [bo 37 .add 19 1,F 19 37]))))))) (.seq (.block 2 (M [bg 39 0 1,a2 40 1 39,bo 41 .lss 40 0,F 42 41,⟨some 43,some (42,true),.ck (.t 4)⟩,⟨some 44,some (42,true),.bin .leq (.t 43) (.c (.J (.int .u64 9223372036854775808)))⟩,gI 45 42 44,F 38 45] (aX 38 (M [F 46 4,(aE 47 (.un .neg (.t 46))),(aE 48 (.conv .i64 (.t 47))),F 2 48,cj 3 true] .ret) (M [bg 50 0 1,a2 51 1 50,bo 52 .geq 51 0,F 53 52,⟨some 54,some (53,true),.ck (.t 4)⟩,⟨some 55,some (53,true),.bin .lss (.t 54) (.c (.J (.int .u64 9223372036854775808)))⟩,gI 56 53 55,F 49 56] (aX 49 (M [F 57 4,(aE 58 (.conv .i64 (.t 57))),F 2 58,cj 3 true] .ret) .skip))))) (M [bq 2 0,cj 3 false] .ret))))))
def Ph:bP:=b5 69 2 [.cell 4 2 true,.t 5] (M [cN 2 160002 0,cN 3 160003 1,(aE 4 (.alloc 160004 [(ao 0),.nil])),bq 5 0] (.seq (M [ba 6 2 2,(dg 7 jv 6),dY 8 7,F 9 8,⟨some 10,some (9,false),.load 2 true (.t 3)⟩,⟨some 11,some (9,false),.call jv [(.t 10)]⟩,⟨some 12,some (9,false),.un .not (.t 11)⟩,cX 13 9 12] (aX 13 (M [(aE 14 (.build [(ao 0),.nil] [])),(aE 15 (.call r9 [(.c (.J (.bool false))),(.t 14)])),bx 16 0 15,bx 17 1 15,bu 2 4 16,F 5 17] .ret) .skip)) (.seq (.block 0 (M [bg 19 0 2,a2 20 1 19,bg 21 0 3,a2 22 1 21,bJ 23 .mul 20 22,bo 24 .geq 23 0,F 18 24] (aX 18 (eS [bg 25 0 2,a2 26 1 25,bg 27 0 3,a2 28 1 27,(aE 29 (.fz 160029 false [(ao 0),(ao 0)] 1 2 [(0,1,(.t 26)),(1,1,(.t 28))])),(dg 30 Oq 29),bg 31 1 2,a2 32 1 31,bg 33 1 3,a2 34 1 33,(b0 35 F2 32 34),(b0 36 mT 30 35),(aE 37 (.call r9 [(.c (.J (.bool true))),(.t 36)])),bx 38 0 37,bx 39 1 37,bu 2 4 38,F 5 39] aja .ret) (M [bg 41 1 2,a2 42 1 41,bg 43 1 3,a2 44 1 43,(b0 45 z1 42 44),bo 46 .lss 45 0,F 40 46] (aX 40 (eS [bg 47 0 3,a2 48 1 47,bg 49 1 3,a2 50 1 49,bg 51 1 2,a2 52 1 51,(b0 53 Co 50 52),(b0 54 mT 48 53),(aE 55 (.call r9 [(.c (.J (.bool true))),(.t 54)])),bx 56 0 55,bx 57 1 55,bu 2 4 56,F 5 57] JZ .ret) .skip))))) (eS [bg 58 0 2,a2 59 1 58,bg 60 1 2,a2 61 1 60,bg 62 1 3,a2 63 1 62,(b0 64 Co 61 63),(b0 65 mT 59 64),(aE 66 (.call r9 [(.c (.J (.bool true))),(.t 65)])),bx 67 0 66,bx 68 1 66,bu 2 4 67,F 5 68] JZ .ret))))
def Pj:bP:=b5 67 2 [.t 4] (M [fa 4] (M [F 12 0,cx 13 12,F 14 1,cx 15 14,bJ 16 .add 13 15,(aE 17 (.mb 161017 [(ao 0)] 8 (.t 16) (.t 16))),F 5 17] (.seq (M [F 18 0,cx 19 18,bq 20 0] (.block 0 (.loop  (M [bJ 21 .lss 20 19] (.seq (aX 21 .skip (.exit 0)) (.seq (.block 1 (M [F 22 20,cC 23 1 18 20,a2 24 1 23,F 6 22,F 7 24] (M [bq 8 0] (.seq (M [F 25 1,cx 26 25,bq 27 0] (.block 2 (.loop  (M [bJ 28 .lss 27 26] (.seq (aX 28 .skip (.exit 2)) (.seq (.block 3 (M [F 29 27,cC 30 1 25 27,a2 31 1 30,F 9 29,F 10 31] (M [F 32 5,F 33 6,F 34 9,bJ 35 .add 33 34,cC 36 1 32 35,a2 37 1 36,F 38 7,F 39 10,bJ 40 .mul 38 39,bJ 41 .add 37 40,F 42 8,bJ 43 .add 41 42,F 11 43] (.ops [F 44 5,F 45 6,F 46 9,bJ 47 .add 45 46,F 48 11,bo 49 .and 48 1048575,F 50 11,(aE 51 (.bin .shr (.t 50) (.c (.J (.int .u64 20))))),cC 52 1 44 47,bu 1 52 49,F 8 51])))) (.ops [bo 53 .add 27 1,F 27 53]))))))) (.ops [F 54 5,F 55 6,F 56 1,cx 57 56,bJ 58 .add 55 57,cC 59 1 54 58,a2 60 1 59,F 61 8,bJ 62 .add 60 61,cC 63 1 54 58,bu 1 63 62]))))) (.ops [bo 64 .add 20 1,F 20 64]))))))) (M [F 65 5,(dg 66 oe 65),F 4 66] .ret))))
def Pk:bP:=b5 55 2 [.t 4] (M [fa 4] (.seq (M [F 9 0,cx 10 9,F 11 1,cx 12 11,bJ 13 .lss 10 12] (aX 13 (.ops [F 14 1,F 15 0,F 0 14,F 1 15]) .skip)) (M [F 16 0,cx 17 16,bo 18 .add 17 1,(aE 19 (.mb 172019 [(ao 0)] 8 (.t 18) (.t 18))),F 5 19] (M [bq 6 0] (.seq (M [F 20 0,cx 21 20,bq 22 0] (.block 0 (.loop  (M [bJ 23 .lss 22 21] (.seq (aX 23 .skip (.exit 0)) (.seq (.block 1 (M [F 24 22,cC 25 1 20 22,a2 26 1 25,F 7 24,F 8 26] (M [F 27 6,F 28 8,bJ 29 .add 27 28,F 6 29] (.seq (M [F 30 7,F 31 1,cx 32 31,bJ 33 .lss 30 32] (aX 33 (.ops [F 34 6,F 35 1,F 36 7,cC 37 1 35 36,a2 38 1 37,bJ 39 .add 34 38,F 6 39]) .skip)) (M [F 40 5,F 41 7,F 42 6,bo 43 .and 42 1048575,cC 44 1 40 41,bu 1 44 43] (.ops [F 45 6,(aE 46 (.bin .shr (.t 45) (.c (.J (.int .u64 20))))),F 6 46])))))) (.ops [bo 47 .add 22 1,F 22 47]))))))) (M [F 48 5,F 49 0,cx 50 49,F 51 6,cC 52 1 48 50,bu 1 52 51] (M [F 53 5,(dg 54 oe 53),F 4 54] .ret)))))))
def Pl:bP:=b5 43 2 [.t 4] (M [fa 4] (M [F 9 0,(aE 10 (.na 173010 1 sa [(.t 9)])),F 5 10] (M [bq 6 0] (.seq (M [F 11 5,cx 12 11,bq 13 0] (.block 0 (.loop  (M [bJ 14 .lss 13 12] (.seq (aX 14 .skip (.exit 0)) (.seq (.block 1 (M [F 15 13,F 7 15] (M [F 16 5,F 17 7,cC 18 1 16 17,a2 19 1 18,F 20 6,bJ 21 .sub 19 20,F 8 21] (.seq (M [F 22 7,F 23 1,cx 24 23,bJ 25 .lss 22 24] (aX 25 (.ops [F 26 8,F 27 1,F 28 7,cC 29 1 27 28,a2 30 1 29,bJ 31 .sub 26 30,F 8 31]) .skip)) (M [F 32 8,(aE 33 (.bin .shr (.t 32) (.c (.J (.int .u64 20))))),bo 34 .and 33 1,F 6 34] (.ops [F 35 5,F 36 7,F 37 8,bo 38 .and 37 1048575,cC 39 1 35 36,bu 1 39 38])))))) (.ops [bo 40 .add 13 1,F 13 40]))))))) (M [F 41 5,(dg 42 oe 41),F 4 42] .ret)))))
def Pm:bP:=b5 41 2 [.t 4] (M [bq 4 0] (.seq (M [F 6 0,cx 7 6,F 8 1,cx 9 8,bJ 10 .neq 7 9] (aX 10 (M [F 11 0,cx 12 11,F 13 1,cx 14 13,(b0 15 Cp 12 14),F 4 15] .ret) .skip)) (.seq (M [F 16 0,cx 17 16,bo 18 .sub 17 1,F 5 18] (.block 0 (.loop  (.seq (M [F 19 5,bo 20 .geq 19 0] (aX 20 .skip (.exit 0))) (.seq (.block 1 (eS [F 23 0,F 24 5,cC 25 1 23 24,a2 26 1 25,F 27 1,F 28 5,cC 29 1 27 28,a2 30 1 29,bJ 31 .neq 26 30] wk (aX 31 (eS [F 32 0,F 33 5,cC 34 1 32 33,a2 35 1 34,F 36 1,F 37 5,cC 38 1 36 37,a2 39 1 38,(b0 40 Cp 35 39),F 4 40] JY .ret) .skip))) (.ops [F 21 5,bo 22 .sub 21 1,F 5 22])))))) (M [bq 4 0] .ret))))
def Pn:bP:=b5 38 2 [.t 4,.t 5] (M [fa 4,bq 5 0] (M [F 9 0,cx 10 9,(aE 11 (.mb 176011 [(ao 0)] 8 (.t 10) (.t 10))),F 6 11] (M [bq 7 0] (.seq (M [F 12 0,cx 13 12,bo 14 .sub 13 1,F 8 14] (.block 0 (.loop  (.seq (M [F 15 8,bo 16 .geq 15 0] (aX 16 .skip (.exit 0))) (.seq (.block 1 (M [F 19 7,(aE 20 (.bin .shl (.t 19) (.c (.J (.int .u64 20))))),F 21 0,F 22 8,cC 23 1 21 22,a2 24 1 23,bJ 25 .or 20 24,F 7 25] (M [F 26 6,F 27 8,F 28 7,F 29 1,bJ 30 .quo 28 29,cC 31 1 26 27,bu 1 31 30] (.ops [F 32 7,F 33 1,bJ 34 .rem 32 33,F 7 34])))) (.ops [F 17 8,bo 18 .sub 17 1,F 8 18])))))) (.seq (.ghost (.freeze 6) (.ops [F 35 6,(dg 36 oe 35),F 37 7,F 4 36,F 5 37])) .ret)))))
def Af:bP:=b5 21 1 [.t 2] (M [fa 2] (M [F 4 0,cx 5 4,F 3 5] (.seq (.block 0 (.loop  (.seq (M [F 6 3,bo 7 .gtr 6 0,F 8 7,⟨some 9,some (8,true),.ck (.t 0)⟩,⟨some 10,some (8,true),.ck (.t 3)⟩,⟨some 11,some (8,true),.bin .sub (.t 10) (.c (ao 1))⟩,⟨some 12,some (8,true),.jO 1 (.t 9) (.t 11)⟩,⟨some 13,some (8,true),.load 1 false (.t 12)⟩,⟨some 14,some (8,true),.bin .eql (.t 13) (.c (ao 0))⟩,gI 15 8 14] (aX 15 .skip (.exit 0))) (.block 1 (.ops [F 16 3,bo 17 .sub 16 1,F 3 17]))))) (M [F 18 0,F 19 3,(aE 20 (.m9 1 (.t 18) none (some (.t 19)) none)),F 2 20] .ret))))
def J0:bP:=b5 78 3 [.t 6] (M [bq 6 0] (M [bq 7 0] (.seq (M [F 12 0,cx 13 12,bq 14 0] (.block 0 (.loop  (M [bJ 15 .lss 14 13] (.seq (aX 15 .skip (.exit 0)) (.seq (.block 1 (M [F 16 14,F 8 16] (M [F 17 0,F 18 8,cC 19 1 17 18,a2 20 1 19,F 21 7,bJ 22 .sub 20 21,F 9 22] (.seq (M [F 23 8,F 24 1,cx 25 24,bJ 26 .lss 23 25] (aX 26 (.ops [F 27 9,F 28 2,F 29 1,F 30 8,cC 31 1 29 30,a2 32 1 31,bJ 33 .mul 28 32,bJ 34 .sub 27 33,F 9 34]) .skip)) (M [F 35 0,F 36 8,F 37 9,bo 38 .and 37 1048575,cC 39 1 35 36,bu 1 39 38] (.ops [F 40 9,(aE 41 (.bin .shr (.t 40) (.c (.J (.int .u64 20))))),(aE 42 (.un .neg (.t 41))),F 7 42])))))) (.ops [bo 43 .add 14 1,F 14 43]))))))) (.seq (M [F 44 7,bo 45 .eql 44 0] (aX 45 (M [F 46 2,F 6 46] .ret) .skip)) (M [bq 10 0] (.seq (M [F 47 0,cx 48 47,bq 49 0] (.block 2 (.loop  (M [bJ 50 .lss 49 48] (.seq (aX 50 .skip (.exit 2)) (.seq (.block 3 (M [F 51 49,F 11 51] (M [F 52 10,F 53 0,F 54 11,cC 55 1 53 54,a2 56 1 55,bJ 57 .add 52 56,F 10 57] (.seq (M [F 58 11,F 59 1,cx 60 59,bJ 61 .lss 58 60] (aX 61 (.ops [F 62 10,F 63 1,F 64 11,cC 65 1 63 64,a2 66 1 65,bJ 67 .add 62 66,F 10 67]) .skip)) (M [F 68 0,F 69 11,F 70 10,bo 71 .and 70 1048575,cC 72 1 68 69,bu 1 72 71] (.ops [F 73 10,(aE 74 (.bin .shr (.t 73) (.c (.J (.int .u64 20))))),F 10 74])))))) (.ops [bo 75 .add 49 1,F 49 75]))))))) (M [F 76 2,bo 77 .sub 76 1,F 6 77] .ret)))))))
def Po:bP:=b5 20 2 [.t 4] (M [bq 4 0] (M [F 7 0,(dg 8 JT 7),F 5 8] (M [F 9 1,(dg 10 JT 9),F 6 10] (.seq (M [F 11 5] (aX 11 (.seq (M [F 12 6] (aX 12 (M [bq 4 0] .ret) .skip)) (M [(aE 4 (.ck (.c (.J (.int .i64 (-1))))))] .ret)) .skip)) (.seq (M [F 13 6] (aX 13 (M [bq 4 1] .ret) .skip)) (.seq (M [F 14 0,F 15 1,bJ 16 .lss 14 15] (aX 16 (M [(aE 4 (.ck (.c (.J (.int .i64 (-1))))))] .ret) .skip)) (.seq (M [F 17 0,F 18 1,bJ 19 .gtr 17 18] (aX 19 (M [bq 4 1] .ret) .skip)) (M [bq 4 0] .ret))))))))
def Pp:bP:=b5 18 1 [.t 2] (M [bq 2 0] (M [bq 3 0] (.seq (M [F 6 0,cx 7 6,bq 8 0] (.block 0 (.loop  (M [bJ 9 .lss 8 7] (.seq (aX 9 .skip (.exit 0)) (.seq (.block 1 (M [cC 10 1 6 8,a2 11 1 10,F 5 11] (M [F 12 5,F 13 3,bJ 14 .neq 12 13] (aX 14 (M [F 15 5,F 2 15] .ret) .skip)))) (.ops [bo 16 .add 8 1,F 8 16]))))))) (M [F 17 3,F 2 17] .ret))))
def Pq:bP:=b5 6 1 [.t 2] (M [cj 2 false] (M [F 3 0,F 4 0,bJ 5 .neq 3 4,F 2 5] .ret))
def Pr:bP:=b5 9 2 [.t 4] (M [cj 4 false] (M [F 5 0,F 6 1,(b0 7 Oj 5 6),bo 8 .geq 7 0,F 4 8] .ret))
def Cy:bP:=b5 19 2 [.t 4] (M [bq 4 0] (.seq (M [F 6 0,cx 7 6,bq 8 0] (.block 0 (.loop  (M [bJ 9 .lss 8 7] (.seq (aX 9 .skip (.exit 0)) (.seq (.block 1 (M [F 10 8,F 5 10] (M [F 11 1,F 12 0,F 13 5,cC 14 4 12 13,ba 15 4 14,(aE 16 (.iY (.t 11) [(.t 15)]))] (aX 16 (M [F 17 5,F 4 17] .ret) .skip)))) (.ops [bo 18 .add 8 1,F 8 18]))))))) (M [(aE 4 (.ck (.c (.J (.int .i64 (-1))))))] .ret)))
def Ps:bP:=b5 8 1 [.t 2] (M [fa 2] (.seq (M [F 3 0,(aE 4 (.pK false (.t 3)))] (aX 4 (M [fa 2] .ret) .skip)) (M [(aE 5 (.fz 156005 true [] 1 0 [])),F 6 0,(aE 7 (.app 156007 [(ao 0)] 8 (.t 5) (.t 6))),F 2 7] .ret)))
def Gm:bP:=b5 19 2 [.t 4] (M [bq 4 0] (.seq (M [F 6 0,cx 7 6,bq 8 0] (.block 0 (.loop  (M [bJ 9 .lss 8 7] (.seq (aX 9 .skip (.exit 0)) (.seq (.block 1 (M [F 10 8,F 5 10] (M [F 11 1,F 12 0,F 13 5,cC 14 1 12 13,a2 15 1 14,(aE 16 (.iY (.t 11) [(.t 15)]))] (aX 16 (M [F 17 5,F 4 17] .ret) .skip)))) (.ops [bo 18 .add 8 1,F 8 18]))))))) (M [(aE 4 (.ck (.c (.J (.int .i64 (-1))))))] .ret)))
def Gn:bP:=b5 32 3 [.t 6] (M [cj 6 false] (.seq (M [F 10 0,cx 11 10,F 12 1,cx 13 12,bJ 14 .neq 11 13] (aX 14 (M [cj 6 false] .ret) .skip)) (.seq (M [F 15 0,cx 16 15,bq 17 0] (.block 0 (.loop  (M [bJ 18 .lss 17 16] (.seq (aX 18 .skip (.exit 0)) (.seq (.block 1 (M [F 19 17,cC 20 4 15 17,ba 21 4 20,(aE 8 (.alloc 235008 [(ao 0),.nil,(ao 0),.nil])),F 7 19,bu 4 8 21] (M [F 22 1,F 23 7,cC 24 4 22 23,ba 25 4 24,(aE 9 (.alloc 235009 [(ao 0),.nil,(ao 0),.nil])),bu 4 9 25] (M [F 26 2,ba 27 4 8,ba 28 4 9,(aE 29 (.iY (.t 26) [(.t 27),(.t 28)])),dY 30 29] (aX 30 (M [cj 6 false] .ret) .skip))))) (.ops [bo 31 .add 17 1,F 17 31]))))))) (M [cj 6 true] .ret))))
def Pt:bP:=b5 9 2 [.t 4] (M [cj 4 false] (M [F 5 0,F 6 1,(b0 7 z7 5 6),bo 8 .geq 7 0,F 4 8] .ret))
def Pu:bP:=b5 9 2 [.t 4] (M [cj 4 false] (M [F 5 0,F 6 1,(b0 7 OE 5 6),bo 8 .geq 7 0,F 4 8] .ret))
def Gp:bP:=b5 19 2 [.t 4] (M [bq 4 0] (.seq (M [F 6 0,cx 7 6,bq 8 0] (.block 0 (.loop  (M [bJ 9 .lss 8 7] (.seq (aX 9 .skip (.exit 0)) (.seq (.block 1 (M [F 10 8,F 5 10] (M [F 11 1,F 12 0,F 13 5,cC 14 4 12 13,ba 15 4 14,(aE 16 (.iY (.t 11) [(.t 15)]))] (aX 16 (M [F 17 5,F 4 17] .ret) .skip)))) (.ops [bo 18 .add 8 1,F 8 18]))))))) (M [(aE 4 (.ck (.c (.J (.int .i64 (-1))))))] .ret)))
def Pv:bP:=b5 26 2 [.t 4] (M [cj 4 false] (.seq (M [F 6 0,cx 7 6,F 8 1,cx 9 8,bJ 10 .neq 7 9] (aX 10 (M [cj 4 false] .ret) .skip)) (.seq (M [F 11 0,cx 12 11,bq 13 0] (.block 0 (.loop  (M [bJ 14 .lss 13 12] (.seq (aX 14 .skip (.exit 0)) (.seq (.block 1 (M [F 15 13,F 5 15] (eS [F 16 0,F 17 5,cC 18 1 16 17,a2 19 1 18,F 20 1,F 21 5,cC 22 1 20 21,a2 23 1 22,bJ 24 .neq 19 23] wk (aX 24 (M [cj 4 false] .ret) .skip)))) (.ops [bo 25 .add 13 1,F 13 25]))))))) (M [cj 4 true] .ret))))
def J1:bP:=b5 61 1 [.t 2] (M [fa 2] (.seq (M [F 6 0,cx 7 6,bo 8 .lss 7 2] (aX 8 (M [F 9 0,F 2 9] (.ghost (.freeze 2) .ret)) .skip)) (.seq (M [bq 3 1] (.block 0 (.loop  (.seq (M [F 10 3,F 11 0,cx 12 11,bJ 13 .lss 10 12] (aX 13 .skip (.exit 0))) (.seq (.block 1 (eS [F 16 0,F 17 3,cC 18 1 16 17,a2 19 1 18,F 20 0,F 21 3,bo 22 .sub 21 1,cC 23 1 20 22,a2 24 1 23,bJ 25 .eql 19 24] JY (aX 25 (M [F 26 0,F 27 3,(aE 28 (.m9 1 (.t 26) (some (.t 27)) none none)),F 4 28] (.seq (M [bq 5 1] (.block 2 (.loop  (.seq (M [F 29 5,F 30 4,cx 31 30,bJ 32 .lss 29 31] (aX 32 .skip (.exit 2))) (.seq (.block 3 (eS [F 35 4,F 36 5,cC 37 1 35 36,a2 38 1 37,F 39 4,F 40 5,bo 41 .sub 40 1,cC 42 1 39 41,a2 43 1 42,bJ 44 .neq 38 43] JY (aX 44 (M [F 45 0,F 46 3,F 47 4,F 48 5,cC 49 1 47 48,a2 50 1 49,cC 51 1 45 46,bu 1 51 50] (.ops [F 52 3,bo 53 .add 52 1,F 3 53])) .skip))) (.ops [F 33 5,bo 34 .add 33 1,F 5 34])))))) (M [F 54 0,F 55 3,(aE 56 (.m9 1 (.t 54) (some (.t 55)) none none)),⟨none,none,.pM [(ao 0)] (.t 56)⟩] (M [F 57 0,F 58 3,(aE 59 (.m9 1 (.t 57) none (some (.t 58)) none)),F 2 59] (.ghost (.freeze 2) .ret))))) .skip))) (.ops [F 14 3,bo 15 .add 14 1,F 3 15])))))) (M [F 60 0,F 2 60] (.ghost (.freeze 2) .ret)))))
def J2:bP:=b5 42 2 [.t 4] (M [fa 4] (M [F 8 0,F 9 1,(b0 10 z7 8 9),F 5 10] (.seq (M [F 11 5,(aE 12 (.bin .eql (.t 11) (.c (.J (.int .i64 (-1))))))] (aX 12 (M [F 13 0,F 4 13] .ret) .skip)) (.seq (M [F 14 5,bo 15 .add 14 1,F 6 15] (.block 0 (.loop  (.seq (M [F 16 6,F 17 0,cx 18 17,bJ 19 .lss 16 18] (aX 19 .skip (.exit 0))) (.seq (.block 1 (M [F 22 0,F 23 6,cC 24 1 22 23,a2 25 1 24,F 7 25] (M [F 26 1,F 27 7,(aE 28 (.iY (.t 26) [(.t 27)])),dY 29 28] (aX 29 (M [F 30 0,F 31 5,F 32 7,cC 33 1 30 31,bu 1 33 32] (.ops [F 34 5,bo 35 .add 34 1,F 5 35])) .skip)))) (.ops [F 20 6,bo 21 .add 20 1,F 6 21])))))) (M [F 36 0,F 37 5,(aE 38 (.m9 1 (.t 36) (some (.t 37)) none none)),⟨none,none,.pM [(ao 0)] (.t 38)⟩] (M [F 39 0,F 40 5,(aE 41 (.m9 1 (.t 39) none (some (.t 40)) none)),F 4 41] .ret))))))
def Pw:bP:=b5 9 2 [.t 4] (M [cj 4 false] (M [F 5 0,F 6 1,(b0 7 OU 5 6),bo 8 .geq 7 0,F 4 8] .ret))
def Px:bP:=b5 19 2 [.t 4] (M [bq 4 0] (.seq (M [F 6 0,cx 7 6,bq 8 0] (.block 0 (.loop  (M [bJ 9 .lss 8 7] (.seq (aX 9 .skip (.exit 0)) (.seq (.block 1 (M [F 10 8,F 5 10] (M [F 11 1,F 12 0,F 13 5,cC 14 1 12 13,a2 15 1 14,bJ 16 .eql 11 15] (aX 16 (M [F 17 5,F 4 17] .ret) .skip)))) (.ops [bo 18 .add 8 1,F 8 18]))))))) (M [(aE 4 (.ck (.c (.J (.int .i64 (-1))))))] .ret)))
theorem Py (l:List Int)(n:Nat)(aL:n<o l)(h:l[n]=0):e9 (l.take (n+1))=e9 (l.take n):=by
 rw[fQ,bL aL,h];exact YH _
theorem Pz (l:List Int)(n:Nat)(aL:n<o l)(h:l[n]≠0):e9 (l.take (n+1))=l.take (n+1):=by
 rw[fQ,bL aL];exact YI _ h
abbrev Cz:List Int->List Data:=λ(l:List Int)=>[.X (l.map Y)]
def wm:=bU Cz λ(l:List Int)=>cq (o l<=1000000) (.same (.X ((e9 l).map Y)))
theorem J3:∀a b,Cz a=Cz b->a=b:=by
  intro fK ab h;exact map_inj eR _ _ (by simpa using h)
@[go_sem] theorem J4 (l:List Int)(E:(o l)<=1000000):wm [.X (l.map Y)]=some (.same (.X ((e9 l).map Y))):=(b3 J3 l).trans (cw E _)
theorem ajf (T:br)  (l:List Int) (E:(o l)<=1000000):WP T Af (.same (.X ((e9 l).map Y))) [.J (.X (l.map Y))]:=by
 refine b4 ?_;simp only[Af];have qI:((l.map Y).all λe=>o e==1)=true:=by simp[Y]
 refine aQ ?_;repeat' (intro h<;>simp only[h,go_sem,go_sem_proc,af]<;>try refine al ?_ ?_)
 refine dw [0] [] (λ(n:Nat) tm mem=>n<=o l/\e9 l=e9 (l.take n)/\tm 3=.J (.int .i64 n)) (λn=>n) (o l) (by refine⟨cA _,by simp,by simp[go_sem]⟩) ?_;intro vs ms a7 aY;simp only[go_sem,go_sem_proc,af] at a7 aY;subst a7 aY;rintro n tm mem R-⟨aL,bV,ag⟩;simp only[go_sem,go_sem_proc,bn] at R;have au:=R;rcases n with _|n
 ·refine aQ ?_;repeat' (intro h<;>simp only[h,go_sem,go_sem_proc,au,ag,qI,jT,ki,show ¬ ((0:Int)>0) by omega,decide_false,af,show (0:Int).toNat=0 from rfl,show (0:Int)<=0 by omega,fY,o2,cM]<;>try refine al ?_ ?_)
  rw[bV];simp[e9]
 ·have hw:IntKind.i64.wrap (((n+1:Nat):Int)-1)=(n:Int):=by rw[eQ _];omega
  have I:l[n]?=some l[n]:=bL (by omega);have hT:((n+1:Nat):Int)>0:=by omega
  have hle:n+1<=o l:=aL
  by_cases a8:l[n]=0
  ·refine aQ ?_;repeat' (intro h<;>simp only[h,go_sem,go_sem_proc,au,ag,hw,I,a8,hT,af,bb,decide_true,Y,beq_self_eq_true,bn]<;>try refine al ?_ ?_)
   exact⟨n,by omega,by omega,by rw[bV,Py l n (by omega) a8],rfl⟩
  ·have tp:(l[n]==0)=false:=by simpa using a8
   refine aQ ?_;repeat' (intro h<;>simp only[h,go_sem,go_sem_proc,au,ag,hw,I,tp,hT,qI,hle,Y,af,bb,decide_true,bn,show (0:Int)<=((n+1:Nat):Int) by omega,nt,fY]<;>try refine al ?_ ?_)
   rw[bV,Pz l n (by omega) a8,List.map_take]
structure YW where
 l:List Int
 k:Key
 g:Nat
def sd:List O->Mem->Option (O×Mem):=Cj (λ(a:YW) args mem=>args=[.ref a.k a.g 1 0 (o a.l)]/\mem a.k=some (a.g,bK Y a.l)/\o a.l<=1000000) (λa mem=>(.ref a.k a.g 1 0 (e9 a.l).length,mem))
theorem YX {α:Type}{enc:α->List Data}{sz:Nat}(h:∀a,(enc a).length=sz)(Q:∀a b,enc a=enc b->a=b):∀(l hB:List α),bK enc l=bK enc hB->0<sz->l=hB:=by
 intro l
 induction l with
 |nil =>
  intro hB e a8
  cases hB with
  |nil=>rfl
  |cons b r =>
   have:=congrArg o e;rw[o3 h,o3 h] at this;simp only[mj,jN,xQ,nS] at this;omega
 |cons a r aA =>
  intro hB e a8
  cases hB with
  |nil =>
   have:=congrArg o e;rw[o3 h,o3 h] at this;simp only[mj,jN,xQ,nS] at this;omega
  |cons b xx =>
   rw[uO,uO] at e;have ax:((enc a).map O.J).length=((enc b).map O.J).length:=by simp[h]
   obtain⟨aw,aB⟩:=Ag e ax;have cI:=map_inj (λx y (e:O.J x=O.J y)=>by cases e;rfl) _ _ aw;rw[Q _ _ cI,aA xx aB a8]
theorem PA (l:List Int)(k g:Nat)(mem:Mem)(h:mem k=some (g,bK Y l))(ax:(o l)<=1000000):sd [.ref k g 1 0 (o l)] mem=some (.ref k g 1 0 (e9 l).length,mem):=by
 unfold sd;refine YG (a:=(⟨l,k,g⟩:YW)) ?_ ⟨rfl,h,ax⟩;rintro a b args mem ⟨D,G,_⟩ ⟨ag,aR,_⟩;rw[D] at ag;simp only[bn,O.ref.injEq,true_and,and_true] at ag;obtain⟨Gq,J5,_⟩:=ag;rw[Gq,aR] at G;simp only[cz,eU] at G;have:=YX fR eR _ _ G.2 (by omega);rw[Gq,J5,this]
@[go_sem] theorem aym (d:Data)(mem:Mem):sd [.J d] mem=none:=by
 cases I:sd [.J d] mem with
 |none=>rfl
 |some x =>
  unfold sd at I;obtain⟨a,⟨h,_⟩,_⟩:=Oc I
  cases h
theorem ajg (T:br)(l:List Int)(k g:Nat)(mem:Mem)(hm:mem k=some (g,bK Y l))(E:(o l)<=1000000):
  wp T Af.body (Ci Af.res (.ref k g 1 0 (e9 l).length) mem) ⟨nd [.ref k g 1 0 (o l)],mem⟩:=by
 refine B5 ?_;simp only[Af];refine aQ ?_;repeat' (intro h<;>simp only[h,go_sem,go_sem_proc,hm]<;>try refine al ?_ ?_)
 refine dw [0] [] (λ(n:Nat) tm mem'=>n<=o l/\e9 l=e9 (l.take n)/\tm 3=.J (.int .i64 n)/\mem'=mem) (λn=>n) (o l) (by refine⟨cA _,by simp,by simp[go_sem],rfl⟩) ?_;intro vs ms a7 aY;simp only[go_sem,go_sem_proc] at a7 aY;subst a7 aY;rintro n tm _ R-⟨aL,bV,ag,rfl⟩;simp only[go_sem,go_sem_proc,bn] at R;have au:=R;rcases n with _|n
 ·refine aQ ?_;repeat' (intro h<;>simp only[h,go_sem,go_sem_proc,au,ag,hm,jT,ki,show ¬ ((0:Int)>0) by omega,decide_false,show (0:Int).toNat=0 from rfl,show (0:Int)<=0 by omega,fY]<;>try refine al ?_ ?_)
  rw[bV];simp[e9]
 ·have hw:IntKind.i64.wrap (((n+1:Nat):Int)-1)=(n:Int):=by rw[eQ _];omega
  have I:l[n]?=some l[n]:=bL (by omega);have hT:((n+1:Nat):Int)>0:=by omega
  have hle:n+1<=o l:=aL;have az:n<o l:=aL;have uB:=Ys fR I (f:=0) (n:=1) (by omega);have eW:=o3 fR l;rw[dU] at eW;have YY:n+1<=(bK Y l).length:=by omega
  have YZ:lz 1 (lA n (bK Y l))=[.J (.int .i64 l[n])]:=by
   unfold cut at uB;rw[dU,vQ,aj (by omega)] at uB
   simpa [Y] using uB
  by_cases a8:l[n]=0
  ·refine aQ ?_;repeat' (intro h<;>simp only[h,go_sem,go_sem_proc,au,ag,hm,hw,az,YY,YZ,a8,hT,decide_true,dU,beq_self_eq_true]<;>try refine al ?_ ?_)
   exact⟨n,by omega,by omega,by rw[bV,Py l n (by omega) a8],rfl⟩
  ·have tp:(l[n]==0)=false:=by simpa using a8
   refine aQ ?_;repeat' (intro h<;>simp only[h,go_sem,go_sem_proc,au,ag,hm,hw,az,YY,YZ,tp,hT,hle,decide_true,dU,show (0:Int)<=((n+1:Nat):Int) by omega,nt,fY,Nat.sub_zero]<;>try refine al ?_ ?_)
   rw[bV,Pz l n (by omega) a8];simp;omega
abbrev tq:Int->List Data:=λ(n:Int)=>[.int .i64 n]
def PB:=bU tq λ(n:Int)=>some (.same (.bool false))
theorem wo:∀a b,tq a=tq b->a=b:=by
  intro mO mP h;simp only[bn,Data.int.injEq,Data.agg.injEq,Data.X.injEq,Data.bool.injEq,Data.str.injEq,Data.ptr.injEq,Data.cQ.injEq,eU,true_and,and_true] at h ⊢
  first|exact h|simpa [uS,and_assoc] using h|grind
@[go_sem] theorem ayn (n:Int):PB [.int .i64 n]=some (.same (.bool false)):=b3 wo n
theorem ajh (T:br)  (n:Int):WP T Pq (.same (.bool false)) [.J (.int .i64 n)]:=by
 refine b4 ?_;simp only[Pq];refine aQ ?_;repeat' (intro h<;>simp only[h,go_sem,go_sem_proc,beq_self_eq_true]<;>try refine al ?_ ?_)
def fh (a b:Int):Int:=if decide (a<b)=true then -1 else if decide (a>b)=true then 1 else 0
abbrev Ah:Int×Int->List Data:=λ(a,b)=>[.int .i64 a,.int .i64 b]
def J6:=bU Ah λ(a,b)=>some (.same (.int .i64 (fh a b)))
theorem Gr:∀a b,Ah a=Ah b->a=b:=by
  rintro⟨c6,c5⟩ ⟨dv,eg⟩ h;simp only[bn,Data.int.injEq,Data.agg.injEq,Data.X.injEq,Data.bool.injEq,Data.str.injEq,Data.ptr.injEq,Data.cQ.injEq,eU,true_and,and_true] at h ⊢
  first|exact h|simpa [uS,and_assoc] using h|grind
@[go_sem] theorem ayo (a:Int)(b:Int):J6 [.int .i64 a,.int .i64 b]=some (.same (.int .i64 (fh a b))):=b3 Gr (a,b)
theorem aji (T:br)(ajj:T JT=aK PB)(a:Int)(b:Int):WP T Po (.same (.int .i64 (fh a b))) [.J (.int .i64 a),.J (.int .i64 b)]:=by
 refine b4 ?_;simp only[Po];refine aQ ?_;repeat' (intro h<;>simp only[h,go_sem,go_sem_proc,ajj]<;>try refine al ?_ ?_)
 all_goals simp only[fh, *,reduceIte,bX,cv,r1,nr,lY,lr,r2,eF,gQ,dm,kc,beq_self_eq_true,bne]
def tr:List Int->Int
 | []=>0
 |d::r=>if (d==0)=true then tr r else d
def PC:=bU Cz λ(l:List Int)=>cq (o l<=1000000) (.same (.int .i64 (tr l)))
@[go_sem] theorem ajk (l:List Int)(E:(o l)<=1000000):PC [.X (l.map Y)]=some (.same (.int .i64 (tr l))):=(b3 J3 l).trans (cw E _)
theorem ajl (T:br)  (l:List Int) (E:(o l)<=1000000):WP T Pp (.same (.int .i64 (tr l))) [.J (.X (l.map Y))]:=by
 refine b4 ?_;simp only[Pp];simp only[go_sem,go_sem_proc,af];repeat' (first|refine al ?_ ?_|fail)<;>intro h<;>simp only[h,go_sem,go_sem_proc,af]
 refine dw [3,6,7] [] (λi tm mem=>0<=i/\i<=(o l:Int)/\tr l=tr (l.drop i.toNat)/\tm 8=.J (.int .i64 i)) (λi=>(o l-i).toNat) 0 (by refine⟨by omega,by omega,by simp,by simp[go_sem]⟩) ?_;intro vs ms a7 aY;simp only[go_sem,go_sem_proc] at a7 aY;subst a7 aY;rintro i tm mem R-⟨p2,Q,aN,de⟩;simp only[go_sem,go_sem_proc,bn] at R;obtain⟨ag,b1,cd⟩:=R;rcases dG (i<o l) with az|cb
 ·obtain⟨x,I,ae,-⟩:=Yu l i p2 az;simp only[go_sem,go_sem_proc,ag,b1,cd,de,I,az,p2,Y,af,bb,decide_true,bn];repeat' (first|refine al ?_ ?_|fail)<;>intro h<;>simp only[h,go_sem,go_sem_proc,ag,b1,cd,de,I,az,p2,Y,af,bb,decide_true,bn]
  ·rw[aN,ae];simp[tr,h]
  ·exact⟨i+1,by omega,by omega,by omega,by rw[aN,ae];simp only[tr, *,reduceIte,bX,cv,r1,nr,lY,lr,r2,eF,gQ,dm,kc,beq_self_eq_true,bne],by rw[eQ _]⟩
 ·have he:l.drop i.toNat=[]:=s4 (by omega);simp only[go_sem,go_sem_proc,ag,b1,cd,de,cb,decide_false];repeat' (first|refine al ?_ ?_|fail)<;>intro h<;>simp only[h,go_sem,go_sem_proc,ag,b1,cd,de,cb,decide_false]
  rw[aN,he];rfl
theorem Gs (l:List Int):((l.map Y).all λe=>o e==1)=true:=by simp[Y]
def x0:=bU Cz λ(l:List Int)=>cq (o l<=1000000) (.own 1 (l.map Y))
@[go_sem] theorem Y0 (l:List Int)(E:(o l)<=1000000):x0 [.X (l.map Y)]=some (.own 1 (l.map Y)):=(b3 J3 l).trans (cw E _)
theorem ajm (T:br)  (l:List Int) (E:(o l)<=1000000):WP T Ps (.own 1 (l.map Y)) [.J (.X (l.map Y))]:=by
 refine b4 ?_;simp only[Ps]
 have ev:pO 156005 0 1 0 8 (o l) ((l.map Y).flatten.map .J) (some (0,[]))=some (.ref 156005 1 1 0 (o l),some (156005,1,bK Y l)):=by
  have:=FJ fR o5 156005 0 8 [] l (by simp;omega) (by simp;omega)
  simpa [bK] using this
 have hlen:(bK Y l).length=o l:=by rw[o3 fR];omega
 refine aQ ?_;repeat' (intro h<;>simp only[h,go_sem,go_sem_proc,Gs,ev,af]<;>try refine al ?_ ?_)
 rintro b ah
 cases b
 ·refine aQ ?_;repeat' (intro h<;>simp only[h,go_sem,go_sem_proc,Gs,ev,af,te,dU,hlen]<;>try refine al ?_ ?_)
  rw[aj (by omega),du (by omega)];unfold bK;rw[ti _ λd=>rfl];have:=zM (sz:=1) (l.map Y) (by simp[Y]);rw[af] at this;simp[this]
 ·cases l with
  |nil =>
       refine aQ ?_;repeat' (intro h<;>simp only[h,go_sem,go_sem_proc,te,cM]<;>try refine al ?_ ?_)
  |cons x r=>simp at ah
abbrev Raw:=Int×List Int
def bF (a:Raw):List Data:=[.int .i64 a.1,.X (a.2.map Y)]
def lZ (d:Int):Bool:=!decide (d<0) && !decide (d>1048575)
def cV (a:Raw):Bool:=a.2.all lZ&&(if (a.2.length==0)=true then a.1==0 else ((a.1==1||a.1 == -1)&&decide (a.2.length<=60)&&(a.2.getLast? != some 0)))
abbrev wq:Int×(List Int)->List Data:=λ(s,l)=>[.agg [.int .i64 s,.X (l.map Y)]]
def ts:=bU wq λ(s,l)=>cq (o l<=1000000) (.same (.bool (cV (s,l))))
theorem Ai:∀a b,wq a=wq b->a=b:=by
  rintro⟨s1,fK⟩ ⟨s2,ab⟩ h;simp only[bn,Data.agg.injEq,Data.int.injEq,Data.X.injEq] at h;exact dV h.1.1.2 (map_inj eR _ _ h.1.2.1)
@[go_sem] theorem ayp (s:Int)(l:List Int)(E:(o l)<=1000000):ts [.agg [.int .i64 s,.X (l.map Y)]]=some (.same (.bool (cV (s,l)))):=(b3 Ai (s,l)).trans (cw E _)
theorem ajn (T:br)  (s:Int) (l:List Int) (E:(o l)<=1000000):WP T O4 (.same (.bool (cV (s,l)))) [.J (.agg [.int .i64 s,.X (l.map Y)])]:=by
 refine b4 ?_;simp only[O4];refine aQ ?_;repeat' (intro h<;>simp only[h,go_sem,go_sem_proc,af]<;>try refine al ?_ ?_)
 refine dw [1,3,10,11] [136001] (λi tm mem=>0<=i/\i<=(o l:Int)/\l.all lZ=(l.drop i.toNat).all lZ/\tm 12=.J (.int .i64 i)) (λi=>(o l-i).toNat) 0 (by refine⟨by omega,by omega,by simp,by simp[go_sem]⟩) ?_;intro vs ms a7 aY;simp only[go_sem,go_sem_proc,af] at a7 aY;subst a7 aY;rintro i tm mem R hm ⟨p2,Q,aN,mn⟩;simp only[go_sem,go_sem_proc,bn] at R hm;obtain⟨D,ag,hs,wu⟩:=R;rcases dG (i<o l) with az|cb
 ·obtain⟨x,I,ae,-⟩:=Yu l i p2 az
  have kj:∀b,lZ x=true->b=(l.drop (i+1).toNat).all lZ->l.all lZ=b:=by
   intro b D G;rw[aN,ae,Cd,D,G,eF]
  have Gt:lZ x=false->cV (s,l)=false:=by
   intro D;unfold cV;rw[aN,ae,Cd,D]
   rfl
  refine aQ ?_;repeat' (intro h<;>simp only[h,go_sem,go_sem_proc,D,ag,hs,wu,mn,hm,I,az,p2,Y,af,bb,decide_true,bn]<;>try refine al ?_ ?_)
  ·rw[Gt (by simp only[lZ, *,reduceIte,bX,cv,r1,nr,lY,lr,r2,eF,gQ,dm,kc,beq_self_eq_true,bne])]
  ·exact⟨i+1,by omega,by omega,by omega,by refine kj _ ?_ rfl;simp only[lZ, *,reduceIte,bX,cv,r1,nr,lY,lr,r2,eF,gQ,dm,kc,beq_self_eq_true,bne],by rw[eQ _]⟩
  ·rw[Gt (by simp only[lZ, *,reduceIte,bX,cv,r1,nr,lY,lr,r2,eF,gQ,dm,kc,beq_self_eq_true,bne])]
 ·have he:l.drop i.toNat=[]:=s4 (by omega);rw[he] at aN;have eE:l.all lZ=true:=by rw[aN];rfl
  rcases zR l with rfl|⟨r,x,rfl⟩
  ·have ajo:¬ i<(0:Int):=by simpa using cb
   refine aQ ?_;repeat' (intro h<;>simp only[h,go_sem,go_sem_proc,D,ag,hs,wu,mn,hm,ajo,decide_false,mj,jT,ki,beq_self_eq_true]<;>try refine al ?_ ?_)
   simp[cV]
  ·rw[zS] at *;have bZ:(((r++[x]).length:Int)==0)=false:=by simp;omega
   have hw:IntKind.i64.wrap (((r++[x]).length:Int)-1)=(o r:Int):=by
    have bp:(r++[x]).length=o r+1:=by simp
    rw[eQ _];omega
   have bw:((r++[x]).map Y)[o r]?=some [.int .i64 x]:=by simp[Y]
   have U:cV (s,r++[x])=((s==1||s == -1)&&decide (((r++[x]).length:Int)<=60)&&(x != 0)):=by
    unfold cV;rw[eE];simp only[List.getLast?_append,List.getLast?_singleton];simp;have aw:decide (o r<=59)=decide ((o r:Int)+1<=60):=decide_eq_decide.2 (by omega);have aB:(some x != some (0:Int))=(x != 0):=by simp[bne]
    rw[aw,aB]
   rw[U];refine aQ ?_;repeat' (intro h<;>simp only[h,go_sem,go_sem_proc,D,ag,hs,wu,mn,hm,cb,bZ,hw,bw,decide_false,af]<;>try refine al ?_ ?_)
   all_goals simp only[*,reduceIte,bX,cv,r1,nr,lY,lr,r2,eF,gQ,dm,kc,beq_self_eq_true,bne]
def hH (s:Int)(l:List Int):Raw:=if (((e9 l).length:Int)==0)=true then (0,[]) else (s,e9 l)
abbrev J7:Int×(List Int)->List Data:=λ(s,l)=>[.int .i64 s,.X (l.map Y)]
def x1:=bU J7 λ(s,l)=>cq (o l<=1000000) (.same (.agg (bF (hH s l))))
theorem Y1:∀a b,J7 a=J7 b->a=b:=by
  rintro⟨s1,fK⟩ ⟨s2,ab⟩ h;simp only[bn,Data.int.injEq,Data.X.injEq] at h;exact dV h.1.2 (map_inj eR _ _ h.2.1)
@[go_sem] theorem ayq (s:Int)(l:List Int)(E:(o l)<=1000000):x1 [.int .i64 s,.X (l.map Y)]=some (.same (.agg (bF (hH s l)))):=(b3 Y1 (s,l)).trans (cw E _)
theorem ajp (T:br)(ec:T oe=wc wm sd)(s:Int)(l:List Int)(E:(o l)<=1000000):WP T Pf (.same (.agg (bF (hH s l)))) [.J (.int .i64 s),.J (.X (l.map Y))]:=by
 refine b4 ?_;simp only[Pf];refine aQ ?_;repeat' (intro h<;>simp only[h,go_sem,go_sem_proc,ec,E,af]<;>try refine al ?_ ?_)
 all_goals simp only[hH,bF,cM, *,reduceIte,bX,cv,r1,nr,lY,lr,r2,eF,gQ,dm,kc,beq_self_eq_true,bne]
theorem jU (l:List Int)(i:Nat)(h:i<o l):bl (l.take (i+1))=bl (l.take i)+1048576^i*l[i]:=by
 rw[fQ,bL h,zQ,gO,mi (by omega)];simp[bl]
theorem wv {l:List Int}(h:ey l)(i:Nat):ey (l.take i):=λd ae=>h d (B0 ae)
theorem Y2 {l:List Int}(i:Nat)(Q:i<o l):ey (l.take (i+1))↔ey (l.take i)/\(0<=l[i]/\l[i]<1048576):=by
 rw[fQ,bL Q,zP];simp[zO,ey]
theorem jV {l:List Int}(h:ey l)(i:Nat)(Q:i<o l):0<=l[i]/\l[i]<1048576:=h _ (List.getElem_mem Q)
theorem Aj (ar:List Int)(i:Nat)(d:Int):(ar.set i d).take i=ar.take i:=by
 rw[List.take_set,List.set_eq_of_length_le];rw[gO];omega
theorem og (ar:List Int):(bK Y ar).length=o ar:=by rw[o3 fR];omega
theorem Gu (ar:List Int)(i:Nat)(h:i<o ar):lz 1 (lA i (bK Y ar))=[.J (.int .i64 ar[i])]:=by
 have uB:=Ys fR (bL h) (f:=0) (n:=1) (by omega);unfold cut at uB;have:=og ar;rw[dU,vQ,aj (by omega)] at uB
 simpa [Y] using uB
theorem uT (ar:List Int)(i:Nat)(d:Int)(h:i<o ar):lz i (bK Y ar)++[.J (.int .i64 d)]++lA (i+1) (bK Y ar)=bK Y (ar.set i d):=by
 have:=Yt fR h d;unfold j9 at this
 simpa [Y] using this
theorem CA (n:Nat):(eL n [O.J (.int .i64 0)]).flatten=bK Y (eL n 0):=by
 induction n with
 |zero=>rfl
 |succ n aA=>rw[qF,qF,j8,uO,aA];rfl
theorem CB (n:Nat)(h:n<=1000000000):n<=maxLen:=eG h (by decide)
theorem Y3 (l:List Int):(e9 l).length<=o l:=by
 induction l with
 |nil=>simp[e9]
 |cons d r aA=>unfold e9;split<;>(try split)<;>simp<;>omega
theorem ajq (l:List Int):l.take (e9 l).length=e9 l:=by
 induction l with
 |nil=>simp[e9]
 |cons d r aA =>
  unfold e9
  split
  ·split<;>simp
  ·simp[aA]
theorem ajr (l:List Int):∀n:Nat,(bK Y l).take n=bK Y (l.take n):=by
 induction l with
 |nil=>intro n;simp[bK]
 |cons d r aA=>intro n;cases n with
  |zero=>simp[bK]
  |succ n=>rw[uO,uN,uO,<-aA];rfl
theorem Y4 {mem:Mem}{k g n:Nat}{ar:List Int}(hm:mem k=some (g,bK Y ar))(aL:n<=o ar):te 1 mem (.ref k g 1 0 n)=some ((ar.take n).map Y):=by
 unfold te;dsimp only;rw[hm];simp only[and_self,if_true,dU];rw[og,aj ⟨trivial,aL⟩,ajr];unfold bK;rw[ti _ λd=>rfl];have:=zM (sz:=1) ((ar.take n).map Y) (by intro e he;rw[fZ] at he;obtain⟨x,-,rfl⟩:=he;rfl);rw[af,gO,mi aL] at this;simp only[rV,this]
theorem PE {mem:Mem}{k g:Nat}{ar:List Int}{n:Nat}(hm:mem k=some (g,bK Y ar))(ae:ey ar)(ad:bl ar=n):te 1 mem (.ref k g 1 0 (e9 ar).length)=some ((aD n).map Y):=by
 rw[Y4 hm (Y3 ar),ajq,wh ae,ad]
 rfl
def bW (n:Nat):Data:=.X ((aD n).map Y)
theorem Y5 {x y:Nat}(h:(aD x).length<(aD y).length):x<y:=by
 have D:=(fC (n:=x) (k:=(aD x).length)).1 (cA _);have G:=mt (fC (n:=y) (k:=(aD x).length)).2 (by omega);omega
theorem Y6 {a b:List Int}(aM:ey a)(ah:ey b)(ax:(o a)=o b)(i:Nat)(Q:i<o a)(ae:a.drop (i+1)=b.drop (i+1))(h:a[i]<b[i]):bl a<bl b:=by
 rw[FU a (i+1),FU b (i+1),ae,ax,jU a i Q,jU b i (by omega)];have D:=wg (wv aM i);have G:=mS (wv ah i);rw[gO,mi (by omega)] at D;generalize (1048576:Int)^i=p at *
 have ag:p*a[i]+p<=p*b[i]:=by
  have:p*(a[i]+1)<=p*b[i]:=se (by omega) (by have:=mS (wv aM i);omega);rw[hh,o8] at this;exact this
 omega
abbrev sf:Nat×Nat->List Data:=λ(x,y)=>[bW x,bW y]
def Gv:=bU sf λ(x,y)=>cq ((aD x).length<=1000000/\(aD y).length<=1000000) (.same (.int .i64 (fh x y)))
theorem uU:∀a b,sf a=sf b->a=b:=by
  rintro⟨aV,x2⟩ ⟨bG,Gw⟩ h;simp only[bn,bW,Data.X.injEq] at h;exact dV (FR (map_inj eR _ _ h.1)) (FR (map_inj eR _ _ h.2.1))
@[go_sem] theorem PF (x:Nat)(y:Nat)(E:(aD x).length<=1000000/\(aD y).length<=1000000):Gv [bW x,bW y]=some (.same (.int .i64 (fh x y))):=(b3 uU (x,y)).trans (cw E _)
theorem ajs (T:br)(l0:T Cp=aK J6)(x:Nat)(y:Nat)(E:(aD x).length<=1000000/\(aD y).length<=1000000):WP T Pm (.same (.int .i64 (fh x y))) [.J (bW x),.J (bW y)]:=by
 refine b4 ?_;simp only[Pm];obtain⟨I,ak⟩:=E;have qY:=kY x;have o9:=kY y;have tt:=kg x;have Ak:=kg y;have Yj:=@Y5 x y;have hr:=@Y5 y x
 by_cases ax:(aD x).length=(aD y).length
 ·generalize aM:aD x=a at *;generalize ah:aD y=b at *;have J8:((o a:Int)==(o b:Int))=true:=by simp[ax]
  simp only[go_sem,go_sem_proc,l0,bW,aM,ah,J8,af];refine dw [0,1] [] (λ(n:Nat) tm mem=>n<=o a/\a.drop n=b.drop n/\tm 5=.J (.int .i64 ((n:Int)-1))) (λn=>n) (o a) (by refine⟨cA _,by rw[N4,ax,N4],?_⟩;simp only[qA,reduceIte];rw[eQ _]) ?_;intro vs ms a7 aY;simp only[go_sem,go_sem_proc,l0,bW,aM,ah] at a7 aY;subst a7 aY;rintro n tm mem R-⟨aL,ae,bs⟩;simp only[go_sem,go_sem_proc,l0,bn] at R;obtain⟨au,D⟩:=R;rcases n with _|n
  ·have e:a=b:=by simpa using ae
   have gw:(x:Int)=y:=by rw[<-tt,<-Ak,e]
   simp only[go_sem,go_sem_proc,l0,au,D,bs,jT,ki,show ¬ ((0:Int)-1>=0) by omega,decide_false]
   repeat' (first|refine al ?_ ?_|fail)<;>intro h<;>simp only[h,go_sem,go_sem_proc,l0,au,D,bs,jT,ki,show ¬ ((0:Int)-1>=0) by omega,decide_false]
   rw[gw];simp[fh]
  ·have hw:((n+1:Nat):Int)-1=(n:Int):=by omega
   have k0:a[n]?=some a[n]:=bL (by omega);have nu:b[n]?=some b[n]:=bL (by omega)
   have U:fh a[n] b[n]=fh x y\/a[n]=b[n]:=by
    by_cases D:a[n]<b[n]
    ·left
     have:=Y6 qY o9 ax n aL ae D;simp only[fh];rw[aj (by simpa using D),aj (by simp;omega)]
    ·by_cases G:b[n]<a[n]
     ·left
      have:=Y6 o9 qY ax.symm n (by omega) ae.symm G;simp only[fh];rw[aq (by simp;omega),aj (by simp;omega),aq (by simp;omega),aj (by simp;omega)]
     ·right;omega
   by_cases a8:a[n]=b[n]
   ·simp only[go_sem,go_sem_proc,l0,au,D,bs,hw,k0,nu,a8,Y,show (n:Int)>=0 by omega,decide_true,bb,beq_self_eq_true,bn]
    repeat' (first|refine al ?_ ?_|fail)<;>intro h<;>simp only[h,go_sem,go_sem_proc,l0,au,D,bs,hw,k0,nu,a8,Y,show (n:Int)>=0 by omega,decide_true,bb,beq_self_eq_true,bn]
    exact⟨n,by omega,by omega,by rw[iI (by omega:n<o a),iI (by omega:n<o b),a8,ae],by rw[eQ _]⟩
   ·have tp:(a[n]==b[n])=false:=by simpa using a8
    simp only[go_sem,go_sem_proc,l0,au,D,bs,hw,k0,nu,tp,Y,show (n:Int)>=0 by omega,decide_true,bb,bn]
    repeat' (first|refine al ?_ ?_|fail)<;>intro h<;>simp only[h,go_sem,go_sem_proc,l0,au,D,bs,hw,k0,nu,tp,Y,show (n:Int)>=0 by omega,decide_true,bb,bn]
    rw[U.resolve_right a8]
 ·have J8:(((aD x).length:Int)==((aD y).length:Int))=false:=by simp;omega
  have U:fh (aD x).length (aD y).length=fh x y:=by
   simp only[fh];rcases h1 (aD x).length (aD y).length with h|h
   ·have:=Yj h;rw[aj (by simp;omega),aj (by simp;omega)]
   ·have:=hr (by omega);rw[aq (by simp;omega),aj (by simp;omega),aq (by simp;omega),aj (by simp;omega)]
  simp only[go_sem,go_sem_proc,l0,bW,J8,U,af];repeat' (first|refine al ?_ ?_|fail)<;>intro h<;>simp only[h,go_sem,go_sem_proc,l0,bW,J8,U,af]
theorem Y7 (p tu rR pT c a b:Int)(h:tu+p*c=rR+pT):tu+p*((c+a+b)%1048576)+p*1048576*((c+a+b)/1048576)=rR+p*a+(pT+p*b):=by
 have D:=x3 (c+a+b) 1048576
 have G:p*((c+a+b)%1048576)+p*1048576*((c+a+b)/1048576)=p*(c+a+b):=by
  rw[hi,<-hh,D]
 have ag:p*(c+a+b)=p*c+p*a+p*b:=by rw[hh,hh]
 omega
def J9:=bU sf λ(x,y)=>cq ((aD x).length<=100000/\(aD y).length<=100000) (.own 1 ((aD (x+y)).map Y))
@[go_sem] theorem Y8 (x:Nat)(y:Nat)(E:(aD x).length<=100000/\(aD y).length<=100000):J9 [bW x,bW y]=some (.own 1 ((aD (x+y)).map Y)):=(b3 uU (x,y)).trans (cw E _)
theorem ajt (T:br)(ec:T oe=wc wm sd)(x:Nat)(y:Nat)(E:(aD x).length<=100000/\(aD y).length<=100000):WP T Pk (.own 1 ((aD (x+y)).map Y)) [.J (bW x),.J (bW y)]:=by
 refine b4 ?_;simp only[Pk];obtain⟨I,ak⟩:=E;simp only[go_sem,go_sem_proc,ec,bW,af];refine aiC (λst=>∃a b:List Int,ey a/\ey b/\o a<=100000/\o b<=o a/\bl a+bl b=x+y/\st.tm 0=.J (.X (a.map Y))/\st.tm 1=.J (.X (b.map Y))/\st.mem 172019=none) (λh=>?_) (λh=>?_) ?_
 ·simp only[go_sem,go_sem_proc,ec,bW];repeat' (first|refine al ?_ ?_|fail)<;>intro h<;>simp only[h,go_sem,go_sem_proc,ec,bW]
  refine⟨aD y,aD x,kY y,kY x,ak,?_,by rw[kg,kg];omega,rfl,rfl⟩
  simp at h;omega
 ·simp only[go_sem,go_sem_proc,ec,bW];repeat' (first|refine al ?_ ?_|fail)<;>intro h<;>simp only[h,go_sem,go_sem_proc,ec,bW]
  refine⟨aD x,aD y,kY x,kY y,I,?_,by rw[kg,kg],rfl,rfl⟩
  simp at h;omega
 rintro⟨tm,mem⟩ ⟨a,b,PG,Al,hG,je,ad,au,D,hm⟩;dsimp only at au D hm;have pa:IntKind.i64.wrap ((o a:Int)+1)=((o a+1:Nat):Int):=by rw[eQ _];rfl
 have kB:8*(o a+1)<=140737488355328:=by omega
 have e2:(o a)+1<=maxLen:=CB _ (by omega);simp only[go_sem,go_sem_proc,ec,au,D,hm,pa,kB,e2,CA,af]
 refine dw [0,1,5,20,21] [] (λ(i,c,ar) tm mem=>i<=o a/\(ar:List Int).length=o a+1/\ey (ar.take i)/\0<=c/\c<=1/\bl (ar.take i)+1048576^i*c=bl (a.take i)+bl (b.take i)/\tm 22=.J (.int .i64 (i:Nat))/\tm 6=.J (.int .i64 c)/\mem 172019=some (0,bK Y ar))
  (λ(i,_)=>o a-i) (0,0,eL (o a+1) 0) (by refine⟨fY _,by simp,by simp[ey],by omega,by omega,by simp[bl],?_,?_,?_⟩<;>rfl) ?_
 intro vs ms a7 aY;simp only[go_sem,go_sem_proc,ec,au,D,af] at a7 aY;subst a7 aY;rintro⟨i,c,ar⟩ tm mem R-⟨Q,bM,ht,jW,kt,iq,CC,b1,hm⟩;simp only[go_sem,go_sem_proc,ec,bn] at R;obtain⟨au,D,bs,pb,CD⟩:=R;rcases dG (i<o a) with az|cb
 ·have k0:a[i]?=some a[i]:=bL az;have xL:=jV PG i az;have fL:IntKind.i64.wrap ((i:Int)+1)=((i+1:Nat):Int):=by rw[eQ _];rfl
  have qZ:i<o ar:=by omega
  have g1:i+1<=(bK Y ar).length:=by rw[og];omega
  have iL:IntKind.i64.wrap (c+a[i])=c+a[i]:=wrap64 _ (by omega) (by omega);have gG:=λd=>uT ar i d qZ
  have fin:∀bi:Int,0<=bi->bi<1048576->bl (b.take (i+1))=bl (b.take i)+1048576^i*bi ->
    ∃bt:Nat×Int×List Int,o a-bt.1<o a-i/\bt.1<=o a/\bt.2.2.length=o a+1/\ey (bt.2.2.take bt.1)/\0<=bt.2.1/\bt.2.1<=1/\bl (bt.2.2.take bt.1)+1048576^bt.1*bt.2.1=bl (a.take bt.1)+bl (b.take bt.1) /\
     O.J (Data.int .i64 ((i+1:Nat):Int))=O.J (Data.int .i64 (bt.1:Int))/\O.J (Data.int .i64 ((c+a[i]+bi)/1048576))=O.J (Data.int .i64 bt.2.1)/\some (0,bK Y (ar.set i ((c+a[i]+bi)%1048576)))=some (0,bK Y bt.2.2):=by
   intro bi x4 kB Am;refine⟨(i+1,(c+a[i]+bi)/1048576,ar.set i ((c+a[i]+bi)%1048576)),by dsimp only;omega,by dsimp only;omega,by simp[bM],?_,by dsimp only;omega,by dsimp only;omega,?_,rfl,rfl,rfl⟩
   ·dsimp only;rw[Y2 _ (by simpa using qZ),Aj];refine⟨ht,?_⟩;simp only[wx];omega
   ·dsimp only;rw[jU _ _ (by simpa using qZ),Aj,jU a i az,Am,lv];simp only[wx];exact Y7 _ _ _ _ _ _ _ iq
  rcases dG (i<o b) with pc|PH
  ·have nu:b[i]?=some b[i]:=bL pc;have sg:=jV Al i pc;have jx:IntKind.i64.wrap (c+a[i]+b[i])=c+a[i]+b[i]:=wrap64 _ (by omega) (by omega);have hj:decide ((i:Int)<(o b:Int))=true:=dn;have h5:decide ((i:Int)<(o a:Int))=true:=dn;simp only[go_sem,go_sem_proc,ec,au,D,bs,pb,CD,CC,b1,hm,k0,nu,fL,iL,jx,hj,h5,az,g1,gG,o6,mm,Y,dU,af,bb,bn,show i<o a+1 by omega,show ¬ ((20:Int)<0) by omega]
   repeat' (first|refine al ?_ ?_|fail)<;>intro h<;>simp only[h,go_sem,go_sem_proc,ec,au,D,bs,pb,CD,CC,b1,hm,k0,nu,fL,iL,jx,hj,h5,az,g1,gG,o6,mm,Y,dU,af,bb,bn,show i<o a+1 by omega,show ¬ ((20:Int)<0) by omega]
   exact fin b[i] sg.1 sg.2 (jU b i pc)
  ·have hj:decide ((i:Int)<(o b:Int))=false:=cY;have h5:decide ((i:Int)<(o a:Int))=true:=dn;simp only[go_sem,go_sem_proc,ec,au,D,bs,pb,CD,CC,b1,hm,k0,fL,iL,hj,h5,az,g1,gG,o6,mm,Y,dU,af,bb,bn,show i<o a+1 by omega,show ¬ ((20:Int)<0) by omega]
   repeat' (first|refine al ?_ ?_|fail)<;>intro h<;>simp only[h,go_sem,go_sem_proc,ec,au,D,bs,pb,CD,CC,b1,hm,k0,fL,iL,hj,h5,az,g1,gG,o6,mm,Y,dU,af,bb,bn,show i<o a+1 by omega,show ¬ ((20:Int)<0) by omega]
   have:=fin 0 (by omega) (by omega) (by rw[du (by omega),du (by omega)];simp)
   simpa using this
 ·obtain rfl:i=o a:=by omega
  have h5:decide ((o a:Int)<(o a:Int))=false:=cY;have qZ:(o a)<o ar:=by omega
  have g1:(o a)+1<=(bK Y ar).length:=by rw[og];omega
  have gG:=λd=>uT ar (o a) d qZ
  have PI:ey (ar.set (o a) c):=by
   have:ar.set (o a) c=(ar.set (o a) c).take (o a+1):=by rw[du (by simp[bM])]
   rw[this,Y2 _ (by simpa using qZ),Aj];refine⟨ht,?_⟩;simp only[wx];omega
  have PJ:bl (ar.set (o a) c)=x+y:=by
   have:ar.set (o a) c=(ar.set (o a) c).take (o a+1):=by rw[du (by simp[bM])]
   rw[this,jU _ _ (by simpa using qZ),Aj];simp only[wx];rw[iq,du (cA _),du je,ad]
  have lu:=PA (ar.set (o a) c) 172019 0 (bI mem 172019 0 (bK Y (ar.set (o a) c))) (by simp[bI]) (by simp[bM];omega);rw[kA,bM] at lu;have fo:=PE (mem:=bI mem 172019 0 (bK Y (ar.set (o a) c))) (k:=172019) (g:=0) (n:=x+y) (by simp[bI]) PI (by rw[PJ];rfl);simp only[go_sem,go_sem_proc,ec,au,D,bs,pb,CD,CC,b1,hm,h5,g1,gG,lu,fo,dU,af,show (o a)<o a+1 by omega]
  repeat' (first|refine al ?_ ?_|fail)<;>intro h<;>simp only[h,go_sem,go_sem_proc,ec,au,D,bs,pb,CD,CC,b1,hm,h5,g1,gG,lu,fo,dU,af,show (o a)<o a+1 by omega]
theorem Y9 (n:Int):bits .and .i64 (n/1048576) 1=n/1048576%2:=by
 generalize n/1048576=m;have G:(1:Int)=((2^1-1:Nat):Int):=by decide
 have D:m%18446744073709551616%2=m%2:=by omega
 obtain⟨a,aM⟩:∃a:Nat,(a:Int)=m%18446744073709551616:=⟨(m%18446744073709551616).toNat,by omega⟩
 have e:BitVec.ofInt 64 m=BitVec.ofNat 64 a:=by
  apply BitVec.eq_of_toInt_eq;rw[BitVec.toInt_ofInt,BitVec.toInt_ofNat',aM];simp[YM,YN]
 have aB:bits .and .i64 m 1=bits .and .i64 (a:Int) 1:=by
  simp only[bits];rw[show IntKind.i64.bits=64 from rfl,e,BitVec.ofInt_natCast]
 rw[aB,<-D,<-aM];have Od:a<2^64:=by omega
 conv=>lhs;rw[G]
 simp only[bits,BitVec.ofInt_natCast,BitVec.toNat_and,BitVec.toNat_ofNat,show IntKind.i64.bits=64 from rfl,FN Od];rw[show (2^1-1:Nat)%2^64=2^1-1 by decide,YO,wrap64 _ (by omega) (by omega)]
 omega
theorem PK (ar:List Int)(j:Nat)(d:Int)(h:j<o ar):bl (ar.set j d)=bl ar+1048576^j*(d-ar[j]):=by
 induction ar generalizing j with
 |nil=>simp at h
 |cons x r aA =>
  cases j with
  |zero=>simp[bl];omega
  |succ j =>
   simp only[List.set_cons_succ,qT,List.getElem_cons_succ,lv];rw[aA j (by simpa using h),hh,<-hi,lx 1048576 (1048576^j)];omega
theorem wy {ar:List Int}(h:ey ar)(j:Nat){d:Int}(ae:0<=d/\d<1048576):ey (ar.set j d):=by
 intro x I;rcases List.mem_or_eq_of_mem_set I with D|D
 ·exact h x D
 ·rw[D];exact ae
theorem aju (p tu rR pT c a b:Int)(h:tu=rR-pT+p*c):tu+p*((a-c-b)%1048576)=rR+p*a-(pT+p*b)-p*1048576*((a-c-b)/1048576):=by
 have D:=x3 (a-c-b) 1048576
 have G:p*((a-c-b)%1048576)+p*1048576*((a-c-b)/1048576)=p*(a-c-b):=by
  rw[hi,<-hh,D]
 have ag:p*(a-c-b)=p*a-p*c-p*b:=by rw[CE,CE]
 omega
def Ka:=bU sf λ(x,y)=>cq ((aD x).length<=100000/\y<=x) (.own 1 ((aD (x-y)).map Y))
@[go_sem] theorem PL (x:Nat)(y:Nat)(E:(aD x).length<=100000/\y<=x):Ka [bW x,bW y]=some (.own 1 ((aD (x-y)).map Y)):=(b3 uU (x,y)).trans (cw E _)
theorem ajv (T:br)(fb:T sa=aK x0)(ec:T oe=wc wm sd)(x:Nat)(y:Nat)(E:(aD x).length<=100000/\y<=x):WP T Pl (.own 1 ((aD (x-y)).map Y)) [.J (bW x),.J (bW y)]:=by
 refine b4 ?_;simp only[Pl];obtain⟨I,Za⟩:=E;have qY:=kY x;have o9:=kY y;have tt:=kg x;have Ak:=kg y
 have iM:(aD y).length<=(aD x).length:=by
  rw[fC];exact q0 Za (fC.1 (cA _))
 generalize aM:aD x=a at *;generalize ah:aD y=b at *;have hG:(o a)<=1000000:=by omega
 simp only[go_sem,go_sem_proc,fb,ec,bW,aM,ah,hG,af]
 refine dw [1,5,12] [] (λ(i,c,ar) tm mem=>i<=o a/\(ar:List Int).length=o a/\ey ar/\ar.drop i=a.drop i/\(c=0\/c=1)/\bl (ar.take i)=bl (a.take i)-bl (b.take i)+1048576^i*c/\tm 13=.J (.int .i64 (i:Nat))/\tm 6=.J (.int .i64 c)/\mem 173010=some (0,bK Y ar))
  (λ(i,_)=>o a-i) (0,0,a) (by refine⟨fY _,rfl,qY,rfl,.inl rfl,by simp[bl],?_,?_,?_⟩<;>rfl) ?_
 intro vs ms a7 aY;simp only[go_sem,go_sem_proc,fb,ec,bW,aM,ah,af] at a7 aY;subst a7 aY;rintro⟨i,c,ar⟩ tm mem R-⟨Q,bM,ht,oh,ajw,iq,oi,b1,hm⟩;simp only[go_sem,go_sem_proc,fb,ec,bn] at R;obtain⟨D,bs,mn⟩:=R;rcases dG (i<o a) with az|cb
 ·have qZ:i<o ar:=by omega
  have ajx:ar[i]=a[i]:=by
   have D:=iI qZ;have G:=iI az;rw[oh,G] at D;exact (tv D).1.symm
  have xL:=jV qY i az;have fL:IntKind.i64.wrap ((i:Int)+1)=((i+1:Nat):Int):=by rw[eQ _];rfl
  have g1:i+1<=(bK Y ar).length:=by rw[og];omega
  have iN:=Gu ar i qZ;rw[ajx] at iN;have iL:IntKind.i64.wrap (a[i]-c)=a[i]-c:=wrap64 _ (by omega) (by omega);have gG:=λd=>uT ar i d qZ
  have fin:∀bi:Int,0<=bi->bi<1048576->bl (b.take (i+1))=bl (b.take i)+1048576^i*bi ->
    ∃bt:Nat×Int×List Int,o a-bt.1<o a-i/\bt.1<=o a/\bt.2.2.length=o a/\ey bt.2.2/\bt.2.2.drop bt.1=a.drop bt.1/\(bt.2.1=0\/bt.2.1=1)/\bl (bt.2.2.take bt.1)=bl (a.take bt.1)-bl (b.take bt.1)+1048576^bt.1*bt.2.1 /\
     O.J (Data.int .i64 ((i+1:Nat):Int))=O.J (Data.int .i64 (bt.1:Int))/\O.J (Data.int .i64 ((a[i]-c-bi)/1048576%2))=O.J (Data.int .i64 bt.2.1)/\some (0,bK Y (ar.set i ((a[i]-c-bi)%1048576)))=some (0,bK Y bt.2.2):=by
   intro bi x4 kB Am;have aF:(a[i]-c-bi)/1048576=0\/(a[i]-c-bi)/1048576 = -1:=by omega
   refine⟨(i+1,(a[i]-c-bi)/1048576%2,ar.set i ((a[i]-c-bi)%1048576)),by dsimp only;omega,by dsimp only;omega,by simp[bM],wy ht i (by omega),?_,by dsimp only;omega,?_,rfl,rfl,rfl⟩
   ·dsimp only;rw[qO (by omega)];have D:=iI qZ;have G:=iI az;rw[oh,G] at D;exact (tv D).2.symm
   ·dsimp only;rw[jU _ _ (by simpa using qZ),Aj,jU a i az,Am,lv];simp only[wx];rw[aju _ _ _ _ _ _ _ iq];rcases aF with e|e<;>rw[e]<;>simp
  have h5:decide ((i:Int)<(o a:Int))=true:=dn;rcases dG (i<o b) with pc|PH
  ·have nu:b[i]?=some b[i]:=bL pc;have sg:=jV o9 i pc;have jx:IntKind.i64.wrap (a[i]-c-b[i])=a[i]-c-b[i]:=wrap64 _ (by omega) (by omega);have hj:decide ((i:Int)<(o b:Int))=true:=dn;refine aQ ?_;repeat' (intro h<;>simp only[h,go_sem,go_sem_proc,fb,ec,D,bs,mn,oi,b1,hm,nu,fL,iL,jx,hj,h5,az,g1,iN,gG,o6,Y9,mm,Y,dU,af,bb,bn,show ¬ ((20:Int)<0) by omega]<;>try refine al ?_ ?_)
   exact fin b[i] sg.1 sg.2 (jU b i pc)
  ·have hj:decide ((i:Int)<(o b:Int))=false:=cY;refine aQ ?_;repeat' (intro h<;>simp only[h,go_sem,go_sem_proc,fb,ec,D,bs,mn,oi,b1,hm,fL,iL,hj,h5,az,g1,iN,gG,o6,Y9,mm,Y,dU,af,bb,bn,show ¬ ((20:Int)<0) by omega]<;>try refine al ?_ ?_)
   have:=fin 0 (by omega) (by omega) (by rw[du (by omega),du (by omega)];simp)
   simpa using this
 ·obtain rfl:i=o a:=by omega
  have h5:decide ((o a:Int)<(o a:Int))=false:=cY;rw[du (by omega),du (by omega),du (by omega),tt,Ak] at iq
  have PJ:bl ar=((x-y:Nat):Int):=by
   have D:=wg ht;rw[bM] at D;rcases ajw with rfl|rfl
   ·rw[iq];omega
   ·omega
  have lu:=PA ar 173010 0 mem hm (by omega);rw[bM] at lu;have fo:=PE hm ht PJ;refine aQ ?_;repeat' (intro h<;>simp only[h,go_sem,go_sem_proc,fb,ec,D,bs,mn,oi,b1,hm,h5,lu,fo,af]<;>try refine al ?_ ?_)
theorem Zb (p tu V c x y wz:Int)(h:tu+p*c=V):tu+p*((wz+x*y+c)%1048576-wz)+p*1048576*((wz+x*y+c)/1048576)=V+p*(x*y):=by
 have D:=x3 (wz+x*y+c) 1048576
 have G:p*((wz+x*y+c)%1048576)+p*1048576*((wz+x*y+c)/1048576)=p*(wz+x*y+c):=by
  rw[hi,<-hh,D]
 have ag:p*(wz+x*y+c)=p*wz+p*(x*y)+p*c:=by rw[hh,hh]
 rw[CE];omega
theorem Zc {ar x y c:Int}(bM:0<=ar/\ar<1048576)(I:0<=x/\x<1048576)(ak:0<=y/\y<1048576)(E:0<=c/\c<1048576):
  0<=x*y/\x*y<=1099509530625/\0<=(ar+x*y+c)/1048576/\(ar+x*y+c)/1048576<1048576:=by
 have D:0<=x*y:=q1 I.1 ak.1;have G:x*y<=1048575*1048575:=PM (by omega) (by omega) ak.1 (by omega);omega
theorem Zd {ar:List Int}{n j:Nat}(h:ar.drop n=eL (o ar-n) 0)(ay:n<=j)(az:j<o ar):ar[j]=0:=by
 have D:(ar.drop n)[j-n]?=some ar[j]:=by rw[ll,show n+(j-n)=j by omega,bL az]
 rw[h,List.getElem?_replicate] at D
 split at D
 ·exact (ln D).symm
 ·cases D
theorem Ze {ar:List Int}{n:Nat}{d:Int}(h:ar.drop n=eL (o ar-n) 0)(az:n<o ar):(ar.set n d).drop (n+1)=eL ((ar.set n d).length-(n+1)) 0:=by
 rw[qO (by omega),kA];have D:=iI az;rw[h,show (o ar)-n=(o ar-(n+1))+1 by omega,qF] at D
 exact (tv D).2.symm
def Kb:=bU sf λ(x,y)=>cq ((aD x).length<=10000/\(aD y).length<=10000) (.own 1 ((aD (x*y)).map Y))
@[go_sem] theorem PN (x:Nat)(y:Nat)(E:(aD x).length<=10000/\(aD y).length<=10000):Kb [bW x,bW y]=some (.own 1 ((aD (x*y)).map Y)):=(b3 uU (x,y)).trans (cw E _)
theorem ajy (T:br)(ec:T oe=wc wm sd)(x:Nat)(y:Nat)(E:(aD x).length<=10000/\(aD y).length<=10000):WP T Pj (.own 1 ((aD (x*y)).map Y)) [.J (bW x),.J (bW y)]:=by
 refine b4 ?_;simp only[Pj];obtain⟨I,ak⟩:=E;have qY:=kY x;have o9:=kY y;have tt:=kg x;have Ak:=kg y;generalize aM:aD x=a at *;generalize ah:aD y=b at *;have pa:IntKind.i64.wrap ((o a:Int)+(o b:Int))=((o a+o b:Nat):Int):=by rw[eQ _];rfl
 have kB:8*(o a+o b)<=140737488355328:=by omega
 have e2:(o a)+o b<=maxLen:=CB _ (by omega);simp only[go_sem,go_sem_proc,ec,bW,aM,ah,pa,kB,e2,CA,af]
 refine dw [1,5,18,19] [] (λ(i,ar) tm mem=>i<=o a/\(ar:List Int).length=o a+o b/\ey ar/\ar.drop (i+o b)=eL (o ar-(i+o b)) 0/\bl ar=bl (a.take i)*y/\tm 20=.J (.int .i64 (i:Nat))/\mem 161017=some (0,bK Y ar))
  (λ(i,_)=>o a-i) (0,eL (o a+o b) 0) (by
   have a8:∀n,bl (eL n 0)=0:=by
    intro n
    induction n with
    |zero=>rfl
    |succ n aA=>rw[qF,qT,aA];rfl
   refine⟨fY _,by simp,λd ae=>by rw[CF] at ae;omega,by simp,by rw[a8];simp[bl],?_,?_⟩<;>rfl) ?_
 intro vs ms a7 aY;simp only[go_sem,go_sem_proc,ec,bW,aM,ah,pa,af] at a7 aY;subst a7 aY;rintro⟨i,ar⟩ tm mem R-⟨Q,bM,ht,p3,iq,pb,hm⟩;simp only[go_sem,go_sem_proc,ec,bn] at R;obtain⟨D,bs,kC,CG⟩:=R;rcases dG (i<o a) with az|cb
 ·have k0:a[i]?=some a[i]:=bL az;have xL:=jV qY i az;have qQ:=jU a i az;generalize a[i]=g2 at *;have hj:decide ((i:Int)<(o a:Int))=true:=dn;simp only[go_sem,go_sem_proc,ec,D,bs,kC,CG,pb,k0,hj,Y,af,bb,bn]
  refine dw [1,5,6,7,18,19,20,25,26] [] (λ((k,c,ar):Nat×Int×List Int) tm mem=>k<=o b/\o ar=o a+o b/\ey ar/\ar.drop (i+o b)=eL (o ar-(i+o b)) 0/\0<=c/\c<1048576/\bl ar+1048576^(i+k)*c=bl (a.take i)*y+1048576^i*(g2*bl (b.take k)) /\
    tm 27=.J (.int .i64 (k:Nat))/\tm 8=.J (.int .i64 c)/\mem 161017=some (0,bK Y ar))
   (λ(k,_)=>o b-k) (0,0,ar) (by refine⟨fY _,bM,ht,p3,by omega,by omega,by simp[bl,iq],?_,?_,hm⟩<;>rfl) ?_
  intro vs ms a7 aY;simp only[go_sem,go_sem_proc,ec,D,bs,kC,CG,pb,Y,af] at a7 aY;subst a7 aY;rintro⟨k,c,ar⟩ tm mem R-⟨oY,bM,ht,p3,jW,kt,iq,Zf,de,hm⟩;simp only[go_sem,go_sem_proc,ec,bn] at R;obtain⟨D,bs,b1,cd,kC,CG,pb,Zg,Zh⟩:=R;rcases dG (k<o b) with Gx|Gx
  ·have nu:b[k]?=some b[k]:=bL Gx;have CH:=jV o9 k Gx;have nv:i+k<o ar:=by omega
   have PO:=jV ht (i+k) nv;obtain⟨cJ,cE,hv,mo⟩:=Zc PO xL CH ⟨jW,kt⟩;have hj:decide ((k:Int)<(o b:Int))=true:=dn;have fL:IntKind.i64.wrap ((k:Int)+1)=((k+1:Nat):Int):=by rw[eQ _];rfl
   have iL:IntKind.i64.wrap ((i:Int)+(k:Int))=((i+k:Nat):Int):=by rw[eQ _];rfl
   have jx:IntKind.i64.wrap (g2*b[k])=g2*b[k]:=wrap64 _ (by omega) (by omega);have wA:IntKind.i64.wrap (ar[i+k]+g2*b[k])=ar[i+k]+g2*b[k]:=wrap64 _ (by omega) (by omega);have si:IntKind.i64.wrap (ar[i+k]+g2*b[k]+c)=ar[i+k]+g2*b[k]+c:=wrap64 _ (by omega) (by omega);have g1:i+k+1<=(bK Y ar).length:=by rw[og];omega
   have iN:=Gu ar (i+k) nv;have gG:=λd=>uT ar (i+k) d nv;have ik:i+k<o a+o b:=by omega
   refine aQ ?_;repeat' (intro h<;>simp only[h,go_sem,go_sem_proc,ec,D,bs,b1,cd,kC,CG,pb,Zg,Zh,Zf,de,hm,nu,hj,fL,iL,jx,wA,si,ik,g1,iN,gG,o6,mm,Y,dU,af,bb,bn,show ¬ ((20:Int)<0) by omega]<;>try refine al ?_ ?_)
   refine⟨(k+1,(ar[i+k]+g2*b[k]+c)/1048576,ar.set (i+k) ((ar[i+k]+g2*b[k]+c)%1048576)),by dsimp only;omega,by dsimp only;omega,by simp[bM],wy ht _ (by omega),?_,hv,mo,?_,rfl,rfl,rfl⟩
   ·dsimp only;rw[qO (by omega),kA,p3]
   ·dsimp only;rw[PK _ _ _ nv,jU b k Gx,<-nZ,lv,Zb _ _ _ _ _ _ _ iq];rw[hh (g2),hh (1048576^i),Zi]
    have:(1048576:Int)^i*(g2*(1048576^k*b[k]))=1048576^i*1048576^k*(g2*b[k]):=by
     rw[<-hi (g2),lx (g2) (1048576^k),hi (1048576^k),<-hi]
    omega
  ·obtain rfl:k=o b:=by omega
   have hj:decide ((o b:Int)<(o b:Int))=false:=cY;have nv:i+o b<o ar:=by omega
   have a8:=Zd p3 (cA _) nv;have fL:IntKind.i64.wrap ((i:Int)+1)=((i+1:Nat):Int):=by rw[eQ _];rfl
   have iL:IntKind.i64.wrap ((i:Int)+(o b:Int))=((i+o b:Nat):Int):=by rw[eQ _];rfl
   have jx:IntKind.i64.wrap (0+c)=c:=by rw[PQ];exact wrap64 _ (by omega) (by omega)
   have g1:i+o b+1<=(bK Y ar).length:=by rw[og];omega
   have iN:=Gu ar (i+o b) nv;rw[a8] at iN;have gG:=λd=>uT ar (i+o b) d nv;have ik:i+o b<o a+o b:=by omega
   refine aQ ?_;repeat' (intro h<;>simp only[h,go_sem,go_sem_proc,ec,D,bs,b1,cd,kC,CG,pb,Zg,Zh,Zf,de,hm,hj,fL,iL,jx,ik,g1,iN,gG,Y,dU,af]<;>try refine al ?_ ?_)
   refine⟨(i+1,ar.set (i+o b) c),by dsimp only;omega,by dsimp only;omega,by simp[bM],wy ht _ ⟨jW,kt⟩,?_,?_,rfl,rfl⟩
   ·dsimp only;have:=Ze (d:=c) p3 nv;rwa [show i+o b+1=i+1+(o b) by omega] at this
   ·dsimp only;rw[PK _ _ _ nv,a8,qQ];rw[du (cA _),Ak] at iq;rw[wB,iq,q2,hi]
 ·obtain rfl:i=o a:=by omega
  have hj:decide ((o a:Int)<(o a:Int))=false:=cY;rw[du (cA _),tt] at iq;have lu:=PA ar 161017 0 mem hm (by omega);rw[bM] at lu;have fo:=PE hm ht (n:=x*y) (by rw[iq];rfl);refine aQ ?_;repeat' (intro h<;>simp only[h,go_sem,go_sem_proc,ec,D,bs,kC,CG,pb,hm,hj,lu,fo,af]<;>try refine al ?_ ?_)
abbrev PR:Nat×Int->List Data:=λ(x,d)=>[bW x,.int .i64 d]
def PS:=bU PR λ(x,d)=>cq ((aD x).length<=100000/\0<d/\d<1048576) (.same (.cQ [bW (x/d.toNat),.int .i64 (x%d.toNat:Nat)]))
theorem ajz:∀a b,PR a=PR b->a=b:=by
  rintro⟨aV,d1⟩ ⟨bG,d2⟩ h;simp only[bn,bW,Data.X.injEq,Data.int.injEq] at h;exact dV (FR (map_inj eR _ _ h.1)) h.2.1.2
@[go_sem] theorem Zj (x:Nat)(d:Int)(E:(aD x).length<=100000/\0<d/\d<1048576):PS [bW x,.int .i64 d]=some (.same (.cQ [bW (x/d.toNat),.int .i64 (x%d.toNat:Nat)])):=(b3 ajz (x,d)).trans (cw E _)
theorem ajA (T:br)(ec:T oe=wc wm sd)(x:Nat)(d:Int)(E:(aD x).length<=100000/\0<d/\d<1048576):WP T Pn (.same (.cQ [bW (x/d.toNat),.int .i64 (x%d.toNat:Nat)])) [.J (bW x),.J (.int .i64 d)]:=by
 refine b4 ?_;simp only[Pn];obtain⟨I,x5,jy⟩:=E;have qY:=kY x;have tt:=kg x;generalize aM:aD x=a at *;have kB:8*o a<=140737488355328:=by omega
 have e2:(o a)<=maxLen:=CB _ (by omega);have uV:(d=0)=False:=by simp;omega
 simp only[go_sem,go_sem_proc,ec,bW,aM,kB,e2,CA,af]
 refine dw [0,1,6] [] (λ((n,r,ar):Nat×Int×List Int) tm mem=>n<=o a/\o ar=o a/\ey ar/\0<=r/\r<d/\bl (a.drop n)=d*bl (ar.drop n)+r/\tm 8=.J (.int .i64 ((n:Nat)-1))/\tm 7=.J (.int .i64 r)/\mem 176011=some (0,bK Y ar))
  (λ(n,_)=>n) (o a,0,eL (o a) 0) (by
   refine⟨cA _,by simp,λd ae=>by rw[CF] at ae;omega,by omega,by omega,by simp[bl],?_,?_,?_⟩
   ·simp only[qA,reduceIte];rw[eQ _]
   ·rfl
   ·rfl) ?_
 intro vs ms a7 aY;simp only[go_sem,go_sem_proc,ec,bW,aM,af] at a7 aY;subst a7 aY;rintro⟨n,r,ar⟩ tm mem R-⟨aL,bM,ht,pd,Gy,ad,de,cd,hm⟩;simp only[go_sem,go_sem_proc,ec,bn] at R;obtain⟨au,D,b1⟩:=R;rcases n with _|n
 ·have aF:bl ar=(x/d.toNat:Nat)/\r=(x%d.toNat:Nat):=by
   rw[o1,o1,tt] at ad;have e:(d.toNat:Int)=d:=by omega
   constructor
   ·rw[Zk,e,ad,uW,Zl _ _ (by omega),PT pd Gy];omega
   ·rw[Zm,e,ad,uW,Zn,PU pd Gy]
  have gj:=J4 ar (by omega);rw[wh ht,aF.1] at gj;have fp:O.ref 176011 0 1 0 (o a)=O.ref 176011 0 1 0 (o ar):=by rw[bM]
  rw[fp] at b1;refine aQ ?_;repeat' (intro h<;>simp only[h,go_sem,go_sem_proc,ec,au,D,b1,cd,de,hm,gj,ml fR,jT,ki,show ¬ ((0:Int)-1>=0) by omega,decide_false,nt]<;>try refine al ?_ ?_)
  all_goals rw[aF.2]
 ·have k0:a[n]?=some a[n]:=bL (by omega);have Kc:=jV qY n (by omega);have hw:((n+1:Nat):Int)-1=(n:Int):=by omega
  have fB:n<o ar:=by omega
  have fL:IntKind.i64.wrap (r*2^min (zU 20) 64)=r*1048576:=by
   rw[show min (zU 20) 64=20 by decide]
   exact wrap64 _ (by omega) (by omega)
  have mV:bits .or .i64 (r*1048576) a[n]=r*1048576+a[n]:=Oe r a[n] pd (by omega) Kc;have kD:0<=(r*1048576+a[n])/d:=PV (by omega) (by omega)
  have pe:(r*1048576+a[n])/d<1048576:=Zo x5 (by
   have:(r+1)*1048576<=d*1048576:=jz (by omega) (by omega);rw[lx 1048576 d];omega)
  have uX:(r*1048576+a[n]).tdiv d=(r*1048576+a[n])/d:=CI (by omega);have An:(r*1048576+a[n]).tmod d=(r*1048576+a[n])%d:=Gz (by omega);have iL:IntKind.i64.wrap ((r*1048576+a[n])/d)=(r*1048576+a[n])/d:=wrap64 _ (by omega) (by omega);have g1:n+1<=(bK Y ar).length:=by rw[og];omega
  have gG:=λd=>uT ar n d fB;have nm:n<o a:=by omega
  have jx:IntKind.i64.wrap ((n:Int)-1)=(n:Int)-1:=wrap64 _ (by omega) (by omega);refine aQ ?_;repeat' (intro h<;>simp only[h,go_sem,go_sem_proc,ec,au,D,b1,cd,de,hm,hw,k0,fL,mV,uX,An,iL,jx,uV,nm,g1,gG,show (n:Int)>=0 by omega,decide_true,Y,dU,af,bb,bn,show ¬ ((20:Int)<0) by omega]<;>try refine al ?_ ?_)
  refine⟨(n,(r*1048576+a[n])%d,ar.set n ((r*1048576+a[n])/d)),by dsimp only;omega,by dsimp only;omega,by simp[bM],wy ht n ⟨kD,pe⟩,PW _ (by omega),PX _ x5,?_,rfl,rfl,rfl⟩
  dsimp only;rw[iI (by omega:n<o a),iI (by simpa using fB:n<(ar.set n ((r*1048576+a[n])/d)).length),qT,qT]
  simp only[wx];rw[qO (by omega),ad];have:=x3 (r*1048576+a[n]) d;rw[hh,hh,PY d 1048576];omega
def pad:Nat->Nat->List Int
 |0,_=>[]
 |n+1,x=>((x%1048576:Nat):Int)::pad n (x/1048576)
theorem ajB (n x:Nat):(pad n x).length=n:=by
 induction n generalizing x with
 |zero=>rfl
 |succ n aA=>simp[pad,aA]
theorem ajC (n x:Nat):ey (pad n x):=by
 induction n generalizing x with
 |zero=>intro d ae;cases ae
 |succ n aA =>
  unfold pad;rw[zO];exact⟨by omega,aA _⟩
theorem Zp {l:List Int}(h:ey l):l=pad (o l) (bl l).toNat:=by
 induction l with
 |nil=>rfl
 |cons d r aA =>
  rw[zO] at h;have D:=mS h.2;have G:=aA h.2;simp only[jN,pad,qT]
  congr 1
  ·omega
  ·rw[show (d+1048576*bl r).toNat/1048576=(bl r).toNat by omega]
   exact G
theorem ajD {n x:Nat}(h:x<1048576^n):bl (pad n x)=x:=by
 induction n generalizing x with
 |zero=>simp at h;subst h;rfl
 |succ n aA =>
  unfold pad;rw[qT,aA (by rw[YL (by omega)];rwa [r6] at h)];omega
theorem GA {pre u post:List Int}{i:Nat}(h:i<o u):lz 1 (lA (o pre+i) (bK Y (pre++u++post)))=[.J (.int .i64 u[i])]:=by
 rw[Gu _ _ (by simp;omega)]
 congr 3
 simp[List.getElem_append,h]
theorem Zq {pre u post:List Int}{i:Nat}(h:i<o u)(d:Int):lz (o pre+i) (bK Y (pre++u++post))++[.J (.int .i64 d)]++lA (o pre+i+1) (bK Y (pre++u++post))=bK Y (pre++u.set i d++post):=by
 rw[uT _ _ _ (by simp;omega)]
 congr 1
 rw[gZ,List.set_append_right _ _ (by omega),N7,List.set_append_left _ _ h,gZ]
theorem x6 (mem:Mem)(k g c4:Nat)(a b:List O):bI (bI mem k g a) k c4 b=bI mem k c4 b:=by
 funext j
 unfold bI
 split<;>rfl
theorem ajE {mem:Mem}{k g:Nat}{a:List O}(h:mem k=some (g,a)):bI mem k g a=mem:=by
 funext j
 unfold bI
 split
 ·rename_i e;rw[e,h]
 ·rfl
structure GC where
 pre:List Int
 u:List Int
 post:List Int
 V:Nat
 q:Int
 k:Key
 g:Nat
def leftOf (u:List Int)(V:Nat)(q:Int):Int:=if bl u-q*V<0 then bl u-q*V+V else bl u-q*V
def x7 (u:List Int)(V:Nat)(q:Int):Int:=if bl u-q*V<0 then q-1 else q
def x8 (a:GC):List O:=bK Y (a.pre++pad (o a.u) (leftOf a.u a.V a.q).toNat++a.post)
def PZ (a:GC)(mem:Mem):Prop:=mem a.k=some (a.g,bK Y (a.pre++a.u++a.post))/\ey a.u/\(aD a.V).length<=o a.u/\0<=a.q/\a.q<1048576/\0<=bl a.u-a.q*a.V+a.V/\o a.pre+o a.u<=100000
def GD:List O->Mem->Option (O×Mem):=Cj (λ(a:GC) args mem=>args=[.ref a.k a.g 1 (o a.pre) (o a.u),.J (bW a.V),.J (.int .i64 a.q)]/\PZ a mem)
 (λa mem=>(.J (.int .i64 (x7 a.u a.V a.q)),bI mem a.k a.g (x8 a)))
theorem ajF {a b:Nat}(h:bW a=bW b):a=b:=FR (map_inj eR _ _ (by simpa [bW] using h))
theorem ajG (a:GC)(mem:Mem)(h:PZ a mem):GD [.ref a.k a.g 1 (o a.pre) (o a.u),.J (bW a.V),.J (.int .i64 a.q)] mem=some (.J (.int .i64 (x7 a.u a.V a.q)),bI mem a.k a.g (x8 a)):=by
 unfold GD;refine YG (a:=a) ?_ ⟨rfl,h⟩;rintro a b args mem ⟨D,G,_⟩ ⟨ag,aR,_⟩;rw[D] at ag;simp only[bn,O.ref.injEq,O.J.injEq,Data.int.injEq,true_and,and_true] at ag;obtain⟨⟨Gq,J5,Kd,Zr⟩,Zs,eq⟩:=ag;have Zt:=ajF Zs;clear Zs;obtain⟨pre,u,post,V,q,k,g⟩:=a;obtain⟨ayr,ays,ayt,ayu,CJ,k',c4⟩:=b;simp only at Gq J5 Kd Zr Zt eq G aR;subst Gq J5 Zt eq;rw[aR] at G;simp only[cz,eU,true_and] at G;have e:=YX fR eR _ _ G (by omega);rw[gZ,gZ] at e;obtain⟨aw,aB⟩:=Ag e Kd.symm;obtain⟨cI,gJ⟩:=Ag aB Zr.symm;subst aw cI gJ
 rfl
theorem ajH (p tu rR pT c a b q:Int)(h:tu=rR-q*pT+p*c):tu+p*((a-c-q*b)%1048576)=rR+p*a-q*(pT+p*b)+p*1048576*(-((a-c-q*b)/1048576)):=by
 have D:=x3 (a-c-q*b) 1048576
 have G:p*((a-c-q*b)%1048576)+p*1048576*((a-c-q*b)/1048576)=p*(a-c-q*b):=by
  rw[hi,<-hh,D]
 have ag:p*(a-c-q*b)=p*a-p*c-p*(q*b):=by rw[CE,CE]
 have aR:q*(pT+p*b)=q*pT+p*(q*b):=by rw[hh,PY]
 rw[Int.mul_neg];omega
theorem Zu {a c q b:Int}(aM:0<=a/\a<1048576)(E:0<=c/\c<=1048576)(aF:0<=q/\q<1048576)(ah:0<=b/\b<1048576):
  0<=q*b/\q*b<=1099509530625/\0 <= -((a-c-q*b)/1048576) /\ -((a-c-q*b)/1048576)<=1048576:=by
 have D:0<=q*b:=q1 aF.1 ah.1;have G:q*b<=1048575*1048575:=PM (by omega) (by omega) ah.1 (by omega);omega
theorem ajI (T:br)(a:GC)(jS:Mem)(E:PZ a jS):
  wp T J0.body (Ci J0.res (.J (.int .i64 (x7 a.u a.V a.q))) (bI jS a.k a.g (x8 a))) ⟨nd [.ref a.k a.g 1 (o a.pre) (o a.u),.J (bW a.V),.J (.int .i64 a.q)],jS⟩:=by
 obtain⟨pre,u,post,V,q,k,g⟩:=a;obtain⟨lo,sj,Nq,kD,pe,p4,hlen⟩:=E;simp only at lo sj Nq kD pe p4 hlen ⊢;have Ao:=kY V;have FD:=kg V;have P0:=fC.1 Nq;refine B5 ?_;simp only[J0];simp only[go_sem,go_sem_proc,bW];generalize ah:aD V=v at *
 refine dw [0,1,2,13] [] (λ((i,c,w):Nat×Int×List Int) tm mem=>i<=o u/\o w=o u/\ey w/\w.drop i=u.drop i/\(0<=c/\c<=1048576)/\bl (w.take i)=bl (u.take i)-q*bl (v.take i)+1048576^i*c/\tm 14=.J (.int .i64 (i:Nat))/\tm 7=.J (.int .i64 c)/\mem=bI jS k g (bK Y (pre++w++post)))
  (λ(i,_)=>o u-i) (0,0,u) (by refine⟨fY _,rfl,sj,rfl,by omega,by simp[bl],rfl,rfl,(ajE lo).symm⟩) ?_
 intro vs ms a7 aY;simp only[go_sem,go_sem_proc] at a7 aY;subst a7 aY;rintro⟨i,c,w⟩ tm _ R-⟨Q,hw,pf,oh,E,iq,Ap,cd,rfl⟩;simp only[go_sem,go_sem_proc,bn] at R;obtain⟨au,D,G,oi⟩:=R;rcases dG (i<o u) with az|cb
 ·have uY:i<o w:=by omega
  have ajJ:w[i]=u[i]:=by
   have D:=iI uY;rw[oh,iI az] at D;exact (tv D).1.symm
  have x9:w.drop (i+1)=u.drop (i+1):=by
   have D:=iI uY;rw[oh,iI az] at D;exact (tv D).2.symm
  have iN:=GA (pre:=pre) (post:=post) uY;rw[ajJ] at iN;have Zv:=jV sj i az;have qQ:=jU u i az;generalize u[i]=sk at *;have fL:IntKind.i64.wrap ((i:Int)+1)=((i+1:Nat):Int):=by rw[eQ _];rfl
  have iL:IntKind.i64.wrap (sk-c)=sk-c:=wrap64 _ (by omega) (by omega);have g1:(o pre)+i+1<=(bK Y (pre++w++post)).length:=by rw[og];simp;omega
  have gG:=λd=>Zq (pre:=pre) (post:=post) uY d;have h5:decide ((i:Int)<(o u:Int))=true:=dn
  have fin:∀bi:Int,0<=bi->bi<1048576->bl (v.take (i+1))=bl (v.take i)+1048576^i*bi ->
    ∃bt:Nat×Int×List Int,o u-bt.1<o u-i/\bt.1<=o u/\bt.2.2.length=o u/\ey bt.2.2/\bt.2.2.drop bt.1=u.drop bt.1/\(0<=bt.2.1/\bt.2.1<=1048576)/\bl (bt.2.2.take bt.1)=bl (u.take bt.1)-q*bl (v.take bt.1)+1048576^bt.1*bt.2.1 /\
     O.J (Data.int .i64 ((i+1:Nat):Int))=O.J (Data.int .i64 (bt.1:Int))/\O.J (Data.int .i64 (-((sk-c-q*bi)/1048576)))=O.J (Data.int .i64 bt.2.1)/\bI jS k g (bK Y (pre++w.set i ((sk-c-q*bi)%1048576)++post))=bI jS k g (bK Y (pre++bt.2.2++post)):=by
   intro bi x4 kB Am;obtain⟨cJ,cE,hv,mo⟩:=Zu Zv E ⟨kD,pe⟩ ⟨x4,kB⟩;refine⟨(i+1,-((sk-c-q*bi)/1048576),w.set i ((sk-c-q*bi)%1048576)),by dsimp only;omega,by dsimp only;omega,by simp[hw],wy pf i (by omega),?_,⟨hv,mo⟩,?_,rfl,rfl,rfl⟩
   ·dsimp only;rw[qO (by omega),x9]
   ·dsimp only;rw[jU _ _ (by simpa using uY),Aj,qQ,Am,lv];simp only[wx];exact ajH _ _ _ _ _ _ _ _ iq
  rcases dG (i<o v) with pc|PH
  ·have nu:v[i]?=some v[i]:=bL pc;have sg:=jV Ao i pc;have P1:=jU v i pc;generalize v[i]=bi at *;obtain⟨cJ,cE,hv,mo⟩:=Zu Zv E ⟨kD,pe⟩ sg;have jx:IntKind.i64.wrap (q*bi)=q*bi:=wrap64 _ (by omega) (by omega);have wA:IntKind.i64.wrap (sk-c-q*bi)=sk-c-q*bi:=wrap64 _ (by omega) (by omega);have si:IntKind.i64.wrap (0-(sk-c-q*bi)/1048576) = -((sk-c-q*bi)/1048576):=by rw[eQ _];omega
   have hj:decide ((i:Int)<(o v:Int))=true:=dn;simp only[go_sem,go_sem_proc,au,D,G,oi,Ap,cd,nu,fL,iL,jx,wA,si,hj,h5,az,g1,iN,gG,x6,o6,mm,Y,dU,af,bb,bn,show ¬ ((20:Int)<0) by omega]
   repeat' (first|refine al ?_ ?_|fail)<;>intro h<;>simp only[h,go_sem,go_sem_proc,au,D,G,oi,Ap,cd,nu,fL,iL,jx,wA,si,hj,h5,az,g1,iN,gG,x6,o6,mm,Y,dU,af,bb,bn,show ¬ ((20:Int)<0) by omega]
   exact fin bi sg.1 sg.2 P1
  ·have hj:decide ((i:Int)<(o v:Int))=false:=cY;have si:IntKind.i64.wrap (0-(sk-c)/1048576) = -((sk-c)/1048576):=by rw[eQ _];omega
   simp only[go_sem,go_sem_proc,au,D,G,oi,Ap,cd,fL,iL,si,hj,h5,az,g1,iN,gG,x6,o6,mm,Y,dU,af,bb,bn,show ¬ ((20:Int)<0) by omega]
   repeat' (first|refine al ?_ ?_|fail)<;>intro h<;>simp only[h,go_sem,go_sem_proc,au,D,G,oi,Ap,cd,fL,iL,si,hj,h5,az,g1,iN,gG,x6,o6,mm,Y,dU,af,bb,bn,show ¬ ((20:Int)<0) by omega]
   have:=fin 0 (by omega) (by omega) (by rw[du (by omega),du (by omega)];simp);simp only[uZ,wB] at this;exact this
 ·obtain rfl:i=o u:=by omega
  have h5:decide ((o u:Int)<(o u:Int))=false:=cY;rw[du (by omega),du (by omega),du (by omega),FD] at iq;have ajK:=wg pf;have ayv:=mS pf;rw[hw] at ajK
  have ayw:(V:Int)<1048576^(o u):=by
   have h:=Int.ofNat_lt.2 P0;rw[Aq] at h;exact h
  by_cases jW:c=0
  ·subst jW;have P2:bl u-q*V=bl w:=by omega
   have aw:x7 u V q=q:=by unfold x7;rw[aq (by omega)]
   have aB:x8 ⟨pre,u,post,V,q,k,g⟩=bK Y (pre++w++post):=by
    unfold x8 leftOf;simp only;rw[aq (by omega),P2,<-hw,<-Zp pf]
   simp only[go_sem,go_sem_proc,au,D,G,oi,Ap,cd,h5,aw,aB,beq_self_eq_true];repeat' (first|refine al ?_ ?_|fail)<;>intro h<;>simp only[h,go_sem,go_sem_proc,au,D,G,oi,Ap,cd,h5,aw,aB,beq_self_eq_true]
  ·have P3:(c==0)=false:=by simpa using jW
   have fi:(1048576:Int)^(o u)<=1048576^(o u)*c:=by
    have:(1048576:Int)^(o u)*1<=1048576^(o u)*c:=se (by omega) (by omega);omega
   have jf:bl u-q*V<0:=by omega
   have Ke:IntKind.i64.wrap (q-1)=q-1:=wrap64 _ (by omega) (by omega);simp only[go_sem,go_sem_proc,au,D,G,oi,Ap,cd,h5,P3]
   refine dw [0,1,2,48] [] (λ((i,d,z):Nat×Int×List Int) tm mem=>i<=o u/\o z=o u/\ey z/\z.drop i=w.drop i/\(0<=d/\d<=1)/\bl (z.take i)+1048576^i*d=bl (w.take i)+bl (v.take i)/\tm 49=.J (.int .i64 (i:Nat))/\tm 10=.J (.int .i64 d)/\mem=bI jS k g (bK Y (pre++z++post)))
    (λ(i,_)=>o u-i) (0,0,w) (by refine⟨fY _,hw,pf,rfl,by omega,by simp[bl],rfl,rfl,rfl⟩) ?_
   intro vs ms a7 aY;simp only[go_sem,go_sem_proc,au,D,G] at a7 aY;subst a7 aY;rintro⟨i,d,z⟩ tm _ R-⟨Q,a8,wC,oh,ae,Zw,CK,hs,rfl⟩;simp only[go_sem,go_sem_proc,bn] at R;obtain⟨au,D,G,CL⟩:=R;rcases dG (i<o u) with az|cb
   ·have GF:i<o z:=by omega
    have uY:i<o w:=by omega
    have ajL:z[i]=w[i]:=by
     have D:=iI GF;rw[oh,iI uY] at D;exact (tv D).1.symm
    have ya:z.drop (i+1)=w.drop (i+1):=by
     have D:=iI GF;rw[oh,iI uY] at D;exact (tv D).2.symm
    have iN:=GA (pre:=pre) (post:=post) GF;rw[ajL] at iN;have yb:=jV pf i uY;have qQ:=jU w i uY;generalize w[i]=yc at *;have fL:IntKind.i64.wrap ((i:Int)+1)=((i+1:Nat):Int):=by rw[eQ _];rfl
    have iL:IntKind.i64.wrap (d+yc)=d+yc:=wrap64 _ (by omega) (by omega);have g1:(o pre)+i+1<=(bK Y (pre++z++post)).length:=by rw[og];simp;omega
    have gG:=λd=>Zq (pre:=pre) (post:=post) GF d;have h5:decide ((i:Int)<(o u:Int))=true:=dn
    have fin:∀bi:Int,0<=bi->bi<1048576->bl (v.take (i+1))=bl (v.take i)+1048576^i*bi ->
      ∃bt:Nat×Int×List Int,o u-bt.1<o u-i/\bt.1<=o u/\bt.2.2.length=o u/\ey bt.2.2/\bt.2.2.drop bt.1=w.drop bt.1/\(0<=bt.2.1/\bt.2.1<=1)/\bl (bt.2.2.take bt.1)+1048576^bt.1*bt.2.1=bl (w.take bt.1)+bl (v.take bt.1) /\
       O.J (Data.int .i64 ((i+1:Nat):Int))=O.J (Data.int .i64 (bt.1:Int))/\O.J (Data.int .i64 ((d+yc+bi)/1048576))=O.J (Data.int .i64 bt.2.1)/\bI jS k g (bK Y (pre++z.set i ((d+yc+bi)%1048576)++post))=bI jS k g (bK Y (pre++bt.2.2++post)):=by
     intro bi x4 kB Am;refine⟨(i+1,(d+yc+bi)/1048576,z.set i ((d+yc+bi)%1048576)),by dsimp only;omega,by dsimp only;omega,by simp[a8],wy wC i (by omega),?_,by dsimp only;omega,?_,rfl,rfl,rfl⟩
     ·dsimp only;rw[qO (by omega),ya]
     ·dsimp only;rw[jU _ _ (by simpa using GF),Aj,qQ,Am,lv];simp only[wx];exact Y7 _ _ _ _ _ _ _ Zw
    rcases dG (i<o v) with pc|PH
    ·have nu:v[i]?=some v[i]:=bL pc;have sg:=jV Ao i pc;have P1:=jU v i pc;generalize v[i]=bi at *;have jx:IntKind.i64.wrap (d+yc+bi)=d+yc+bi:=wrap64 _ (by omega) (by omega);have hj:decide ((i:Int)<(o v:Int))=true:=dn;simp only[go_sem,go_sem_proc,au,D,G,CL,CK,hs,nu,fL,iL,jx,hj,h5,az,g1,iN,gG,x6,o6,mm,Y,dU,af,bb,bn,show ¬ ((20:Int)<0) by omega]
     repeat' (first|refine al ?_ ?_|fail)<;>intro h<;>simp only[h,go_sem,go_sem_proc,au,D,G,CL,CK,hs,nu,fL,iL,jx,hj,h5,az,g1,iN,gG,x6,o6,mm,Y,dU,af,bb,bn,show ¬ ((20:Int)<0) by omega]
     exact fin bi sg.1 sg.2 P1
    ·have hj:decide ((i:Int)<(o v:Int))=false:=cY;simp only[go_sem,go_sem_proc,au,D,G,CL,CK,hs,fL,iL,hj,h5,az,g1,iN,gG,x6,o6,mm,Y,dU,af,bb,bn,show ¬ ((20:Int)<0) by omega]
     repeat' (first|refine al ?_ ?_|fail)<;>intro h<;>simp only[h,go_sem,go_sem_proc,au,D,G,CL,CK,hs,fL,iL,hj,h5,az,g1,iN,gG,x6,o6,mm,Y,dU,af,bb,bn,show ¬ ((20:Int)<0) by omega]
     have:=fin 0 (by omega) (by omega) (by rw[du (by omega),du (by omega)];simp);simp only[tw] at this;exact this
   ·obtain rfl:i=o u:=by omega
    have h5:decide ((o u:Int)<(o u:Int))=false:=cY;rw[du (by omega),du (by omega),du (by omega),FD] at Zw;have ajM:=wg wC;have ayx:=mS wC;rw[a8] at ajM
    have P2:bl u-q*V+V=bl z:=by
     have e:bl u-q*V+V-bl z=1048576^(o u)*(d-c):=by rw[CE];omega
     generalize (1048576:Int)^(o u)=p at *;rcases q3 (d-c) 0 with h|h|h
     ·have:p*(d-c)<=p*(-1):=se (by omega) (by omega);omega
     ·rw[h,uZ] at e;omega
     ·have:p*1<=p*(d-c):=se (by omega) (by omega);omega
    have aw:x7 u V q=q-1:=by unfold x7;rw[aj jf]
    have aB:x8 ⟨pre,u,post,V,q,k,g⟩=bK Y (pre++z++post):=by
     unfold x8 leftOf;simp only;rw[aj jf,P2,<-a8,<-Zp wC]
    simp only[go_sem,go_sem_proc,au,D,G,CL,CK,hs,h5,aw,aB,Ke];repeat' (first|refine al ?_ ?_|fail)<;>intro h<;>simp only[h,go_sem,go_sem_proc,au,D,G,CL,CK,hs,h5,aw,aB,Ke]
theorem ajN {T V P u0 CM v1 v2 top jQ q r:Int}(wa:V=(v1*1048576+v2)*P+u0)(cG:T=(top*1048576+jQ)*P+CM)(hk:0<P)(Zx:0<=u0)(Kf:CM<P)(kD:0<=q)(ajO:0<=V)
  (P4:T<1048576*V) (Ar:q*v1+r=top) (E:q>=1048576\/q*v2>r*1048576+jQ):T<q*V:=by
 rcases E with h|h
 ·have:=jz h ajO;omega
 ·have D:(top*1048576+jQ+1)*P<=(q*(v1*1048576+v2))*P:=by
   refine jz ?_ (by omega);rw[hh,<-hi];have:q*v1*1048576=(top-r)*1048576:=by rw[<-Ar];congr 1;omega
   omega
  have G:q*V=(q*(v1*1048576+v2))*P+q*u0:=by rw[wa,hh,<-hi]
  have ag:0<=q*u0:=q1 kD Zx;rw[q2 _ 1,nw] at D;omega
theorem Zy {T V P u0 CM v1 v2 top jQ q r:Int}(wa:V=(v1*1048576+v2)*P+u0)(cG:T=(top*1048576+jQ)*P+CM)(hk:0<P)(Zx:0<=u0/\u0<P)(Kf:0<=CM)(kD:0<=q)(pe:q<1048576)(kS:524288<=v1)(lV:0<=v2/\v2<1048576)(Xm:0<=jQ)
  (Ar:q*v1+r=top) (E:r>=1048576\/q*v2<=r*1048576+jQ):0<=T-q*V+V:=by
 have G:q*V=(q*(v1*1048576+v2))*P+q*u0:=by rw[wa,hh,<-hi]
 have ag:q*u0<=q*P:=se (by omega) kD;have aR:q*P<=1048576*P:=jz (by omega) (by omega);have bs:1048576*P<=(v1*1048576+v2)*P:=jz (by omega) (by omega);have e:q*v1*1048576=(top-r)*1048576:=by rw[<-Ar];congr 1;omega
 rcases E with h|h
 ·have b1:q*v2+q<=1048576*1048576:=by
   have cd:q*(v2+1)<=1048576*1048576:=PM (by omega) (by omega) (by omega) (by omega);rw[hh,o8] at cd;exact cd
  have de:(q*(v1*1048576+v2)+q)*P<=(top*1048576+jQ)*P:=by
   refine jz ?_ (by omega);rw[hh,<-hi];omega
  rw[q2 _ q] at de;omega
 ·have de:(q*(v1*1048576+v2))*P<=(top*1048576+jQ)*P:=by
   refine jz ?_ (by omega);rw[hh,<-hi];omega
  omega
theorem ajP {T V q:Int}(wa:0<V)(D:T<(q+1)*V)(G:0<=T-q*V+V):(if T-q*V<0 then q-1 else q)=T/V/\(if T-q*V<0 then T-q*V+V else T-q*V)=T%V:=by
 have ag:(q+1)*V=q*V+V:=by rw[q2,nw]
 have aR:(q-1)*V=q*V-V:=by rw[Zz,nw]
 have key:∀d r:Int,T=d*V+r->0<=r->r<V->d=T/V/\r=T%V:=by
  intro d r h au bs
  constructor
  ·rw[h,uW,Int.add_mul_ediv_right _ _ (by omega),PT au bs];omega
  ·rw[h,uW,Int.add_mul_emod_self_right,PU au bs]
 split
 ·exact key (q-1) _ (by omega) (by omega) (by omega)
 ·exact key q _ (by omega) (by omega) (by omega)
theorem ZA {v:List Int}{N:Nat}(h:(o v)=N+2):bl v=(v[N+1]*1048576+v[N])*1048576^N+bl (v.take N):=by
 have e:v=v.take (N+1+1):=by rw[du (by omega)]
 conv=>lhs;rw[e]
 rw[jU v (N+1) (by omega),jU v N (by omega),lv,q2,lx (v[N]),yd (v[N+1]),lx (v[N+1])];have:(1048576:Int)^N*1048576*v[N+1]=1048576^N*v[N+1]*1048576:=by rw[yd]
 omega
theorem ajQ {v:List Int}{N:Nat}(h:(o v)=N+3):bl v=((v[N+2]*1048576+v[N+1])*1048576+v[N])*1048576^N+bl (v.take N):=by
 have e:v=v.take (N+1+1+1):=by rw[du (by omega)]
 conv=>lhs;rw[e]
 rw[jU v (N+1+1) (by omega),jU v (N+1) (by omega),jU v N (by omega)];simp only[lv];generalize (1048576:Int)^N=p;rw[q2,q2,q2,yd (v[N+2]*1048576),yd (v[N+2]),lx (v[N+2]),yd (v[N+1]),lx (v[N+1]),lx (v[N])];have D:p*1048576*v[N+1]=p*v[N+1]*1048576:=by rw[yd]
 have G:p*1048576*1048576*v[N+1+1]=p*v[N+2]*1048576*1048576:=by rw[yd,yd p]
 omega
theorem ajR {u:List Int}{i n:Nat}{V:Int}(ae:ey u)(ax:i+n+1<=o u)(dk:bl (u.drop (i+1))<V)(wa:V<1048576^n):
  ∃pre fv post,u=pre++fv++post/\o pre=i/\o fv=n+1/\ey pre/\ey fv/\ey post/\bl post=0/\∃ee,fv[0]?=some ee/\u.take (i+1)=pre++[ee]/\bl fv=ee+1048576*bl (u.drop (i+1))/\0<=bl (u.drop (i+1))/\0<=ee/\ee<1048576:=by
 have e:u=u.take i++(u.drop i).take (n+1)++u.drop (i+n+1):=by
  rw[gZ,nZ,<-B9,xN,xN]
 have ZB:=e ▸ ae;rw[zP,zP] at ZB;obtain⟨⟨d1,d2⟩,d3⟩:=ZB;have az:i<o u:=by omega
 have oh:=iI az;have GG:((u.drop i).take (n+1)).length=n+1:=by simp;omega
 have ZC:bl (u.drop (i+1))=bl ((u.drop (i+1)).take n)+1048576^n*bl (u.drop (i+n+1)):=by
  have:=FU (u.drop (i+1)) n;rw[N0,mi (by omega),B9] at this;rw[this]
  congr 3
  rw[show i+1+n=i+n+1 by omega]
 have aG:=mS d3;have bV:0<=bl ((u.drop (i+1)).take n):=mS (λx I=>ae x (ZD (B0 I)))
 have mW:bl (u.drop (i+n+1))=0:=by
  rcases dG (0<bl (u.drop (i+n+1))) with h|h
  ·have:(1048576:Int)^n*1<=1048576^n*bl (u.drop (i+n+1)):=se (by omega) (Int.pow_nonneg (by omega));omega
  ·omega
 refine⟨_,_,_,e,by simp;omega,GG,d1,d2,d3,mW,u[i],?_,?_,?_,?_,(jV ae i az).1,(jV ae i az).2⟩
 ·rw[nq (by omega),ll];simp[az]
 ·rw[fQ,bL az];rfl
 ·rw[oh,uN,qT,ZC,mW];simp
 ·rw[ZC,mW];simpa using bV
theorem ajS (l:List Int)(h:(o l)<=1000000):pO 157054 0 1 (o l) 8 1 [.J (.int .i64 0)] (some (0,((l.map Y).flatten.map O.J)))=some (.ref 157054 1 1 0 (o l+1),some (157054,1,bK Y (l++[0]))) :=
 o4 fR o5 157054 0 8 l 0 rfl (by omega) (by omega)
def Kg:=bU sf λ(x,y)=>cq ((aD x).length<=1000/\(aD y).length<=1000/\0<y) (.same (.cQ [bW (x/y),bW (x%y)]))
@[go_sem] theorem ZE (x:Nat)(y:Nat)(E:(aD x).length<=1000/\(aD y).length<=1000/\0<y):Kg [bW x,bW y]=some (.same (.cQ [bW (x/y),bW (x%y)])):=(b3 uU (x,y)).trans (cw E _)
theorem ajT (T:br)(fD:T z1=aK Gv)(fb:T sa=aK x0)(jA:T JS=aK PS)(ec:T oe=wc wm sd)(h6:T Cm=aK Kb)(jB:T Oo=xS GD)(x:Nat)(y:Nat)(E:(aD x).length<=1000/\(aD y).length<=1000/\0<y):WP T Pc (.same (.cQ [bW (x/y),bW (x%y)])) [.J (bW x),.J (bW y)]:=by
 refine b4 ?_;simp only[Pc];obtain⟨I,ak,hI⟩:=E;have ja:(aD x).length<=1000000/\(aD y).length<=1000000:=by omega
 have sl:=PF x y ja;have pR:(aD x).length<=1000000:=by omega
 by_cases gw:x<y
 ·have ye:fh x y = -1:=by unfold fh;rw[aj (by simpa using gw)]
  have eW:=Y0 (aD x) pR;rw[ye] at sl
  change x0 [bW x]=_ at eW
  simp only[go_sem,go_sem_proc,fD,fb,jA,ec,h6,jB,sl,eW,show ((-1:Int)<0) by omega,decide_true]
  repeat' (first|refine al ?_ ?_|fail)<;>intro h<;>simp only[h,go_sem,go_sem_proc,fD,fb,jA,ec,h6,jB,sl,eW,show ((-1:Int)<0) by omega,decide_true]
  rw[N3 gw,FN gw]
  try rfl
 ·have ye:decide (fh x y<0)=false:=by
   unfold fh;rw[aq (by simp;omega)]
   split<;>rfl
  have ayy:aD y≠[]:=by rw[Ne,we];omega
  by_cases D:y<1048576
  ·have o9:=FT hI D;have iw:=Zj x y ⟨by omega,by omega,by omega⟩
   have aW:=J4 [((x%y:Nat):Int)] (by simp);have az:x%y<y:=Nat.mod_lt _ hI;rw[nt] at iw
   have uX:e9 [((x%y:Nat):Int)]=aD (x%y):=by
    generalize x%y=r at az ⊢;rw[wh (by intro d ae;rw[tx] at ae;omega)];simp only[bl]
    congr 1
   rw[uX] at aW;have CN:bW y=.X [[.int .i64 y]]:=by unfold bW;rw[o9];rfl
   change wm [.X [[.int .i64 _]]]=_ at aW
   rw[CN] at sl;simp only[go_sem,go_sem_proc,fD,fb,jA,ec,h6,jB,CN,sl,ye,iw,aW,show (((1:Nat):Int)==1)=true from rfl];repeat' (first|refine al ?_ ?_|fail)<;>intro h<;>simp only[h,go_sem,go_sem_proc,fD,fb,jA,ec,h6,jB,CN,sl,ye,iw,aW,show (((1:Nat):Int)==1)=true from rfl]
   try rfl
  ·obtain⟨N,pg⟩:∃N,(aD y).length=N+2:=by
    have:=mt (fC (n:=y) (k:=1)).1 (by simpa using D);exact⟨(aD y).length-2,by omega⟩
   have o9:=kY y;have iM:(((aD y).length:Int)==1)=false:=by simp;omega
   have GG:IntKind.i64.wrap (((aD y).length:Int)-1)=((N+1:Nat):Int):=by rw[eQ _];omega
   have js:(aD y)[N+1]?=some (aD y)[N+1]:=bL (by omega);have ayz:=jV o9 (N+1) (by omega)
   have ayA:(aD y)[N+1]≠0:=by
    intro h;have:=YK y;rw[List.getLast?_eq_getElem?,pg] at this;exact this (by rw[show N+2-1=N+1 by omega,js,h])
   have P5:=ZA pg;rw[kg] at P5;have ajU:=wg (wv o9 N);have ayB:=mS (wv o9 N);have ayC:=jV o9 N (by omega);rw[gO,mi (by omega)] at ajU;generalize (aD y)[N+1]=c5 at *;generalize (aD y)[N]=pZ at *;generalize bl ((aD y).take N)=P6 at *;have P7:((aD y).map Y)[N+1]?=some [.int .i64 c5]:=by rw[bb,js];rfl
   simp only[go_sem,go_sem_proc,fD,fb,jA,ec,h6,jB,bW,sl,ye,iM,af];have ZF:=sl;unfold bW at ZF;simp only[go_sem,go_sem_proc,fD,fb,jA,ec,h6,jB,ZF,ye,iM,af];refine dw [0,1] [157054,157075] (λ(κ:Nat) tm mem=>c5*2^κ<1048576/\tm 8=.J (.int .i64 (2^κ))) (λκ=>20-κ) 0 (by refine⟨by omega,rfl⟩) ?_;intro vs ms a7 aY;simp only[go_sem,go_sem_proc,fD,fb,jA,ec,h6,jB,af] at a7 aY;subst a7 aY;rintro κ tm mem R hm ⟨ayD,de⟩;simp only[go_sem,go_sem_proc,fD,fb,jA,ec,h6,jB,bn] at R hm;obtain⟨au,vY⟩:=R;obtain⟨CO,wD⟩:=hm;have ayE:(0:Int)<2^κ:=CP (by omega)
   have ayF:(2:Int)^κ<=c5*2^κ:=by
    have:1*(2:Int)^κ<=c5*2^κ:=jz (by omega) (by omega);omega
   have hκ:κ<20:=by
    rcases h1 κ 20 with h|h
    ·exact h
    ·have:(2:Int)^20<=2^κ:=by
      have:=u1 (n:=2) (by omega) h;have cu:=Int.ofNat_le.2 this;rwa [Aq,Aq] at cu
     omega
   have Kh:IntKind.i64.wrap (c5*2^κ)=c5*2^κ:=wrap64 _ (by omega) (by omega);have ZG:IntKind.i64.wrap (2^κ*2)=2^κ*2:=wrap64 _ (by omega) (by omega);rcases dG (c5*2^κ<524288) with az|cb
   ·simp only[go_sem,go_sem_proc,fD,fb,jA,ec,h6,jB,au,vY,de,GG,P7,Kh,ZG,az,CO,wD,decide_true,dU,af];repeat' (first|refine al ?_ ?_|fail)<;>intro h<;>simp only[h,go_sem,go_sem_proc,fD,fb,jA,ec,h6,jB,au,vY,de,GG,P7,Kh,ZG,az,CO,wD,decide_true,dU,af]
    exact⟨κ+1,by omega,by rw[lv,<-hi];omega,by rw[lv]⟩
   ·-- the numbers, shifted
    have ajV:(c5+1)*2^κ<=1048576:=by
     have e:(1048576:Int)=2^(20-κ)*2^κ:=by rw[<-Zi,show 20-κ+κ=20 by omega];rfl
     have D:c5<2^(20-κ):=by
      rcases dG (c5<2^(20-κ)) with h|h
      ·exact h
      ·have:(2:Int)^(20-κ)*2^κ<=c5*2^κ:=jz (by omega) (by omega);omega
     rw[e];exact jz (by omega) (by omega)
    generalize (2:Int)^κ=s at *;obtain⟨S,rfl⟩:∃S:Nat,s=S:=⟨s.toNat,by omega⟩
    have hk:(0:Int)<1048576^N:=CP (by omega);have As:0<S:=by omega
    have P0:y*S<1048576^(N+2):=by
     have D:((y*S:Nat):Int)<1048576^(N+2):=by
      rw[ZH,P5,lv,lv];generalize (1048576:Int)^N=p at *
      have aw:((c5*1048576+pZ)*p+P6)*S<=((c5+1)*1048576*p)*S:=by
       refine jz ?_ (by omega);have:(c5*1048576+pZ+1)*p<=((c5+1)*1048576)*p:=jz (by omega) (by omega);rw[q2 _ 1] at this;omega
      have ZI:((c5*1048576+pZ)*p+P6)*S<((c5+1)*1048576*p)*S:=by
       refine Int.mul_lt_mul_of_pos_right ?_ (by omega);have:(c5*1048576+pZ+1)*p<=((c5+1)*1048576)*p:=jz (by omega) (by omega);rw[q2 _ 1] at this;omega
      have aB:((c5+1)*1048576*p)*S=((c5+1)*S)*(p*1048576):=by
       rw[hi (c5+1),hi,lx (1048576*p),<-hi,lx 1048576 p]
      have cI:((c5+1)*S)*(p*1048576)<=1048576*(p*1048576):=jz ajV (by omega);omega
     have G:((1048576^(N+2):Nat):Int)=1048576^(N+2):=by rw[Aq];rfl
     omega
    have ayG:524288*(1048576^N*1048576)<=((y*S:Nat):Int):=by
     rw[ZH,P5];generalize (1048576:Int)^N=p at *
     have aw:(c5*1048576)*p*S<=((c5*1048576+pZ)*p+P6)*S:=by
      refine jz ?_ (by omega);have:(c5*1048576)*p<=(c5*1048576+pZ)*p:=jz (by omega) (by omega);omega
     have aB:(c5*1048576)*p*S=(c5*S)*(p*1048576):=by
      rw[hi c5,hi,lx (1048576*p),<-hi,lx 1048576 p]
     have cI:524288*(p*1048576)<=(c5*S)*(p*1048576):=jz (by omega) (by omega);omega
    have Au:(aD (y*S)).length=N+2:=by
     have D:=fC.2 P0
     have G:=mt (fC (n:=y*S) (k:=N+1)).1 (by
      have G:((1048576^(N+1):Nat):Int)=1048576^N*1048576:=by rw[Aq,lv];rfl
      omega)
     omega
    have ayH:1*x<=x*S:=by rw[pY];exact ZJ x As
    have ayI:(aD x).length<=(aD (x*S)).length:=by
     rw[fC];have:=fC.1 (cA (aD (x*S)).length);omega
    have ayJ:y*S<=x*S:=Nat.mul_le_mul_right S (by omega)
    have ayK:N+2<=(aD (x*S)).length:=by
     rw[<-Au,fC];have:=fC.1 (cA (aD (x*S)).length);omega
    have ayL:(aD (x*S)).length<=1001:=by
     have:∀k,(aD x).length<=k->(aD (x*S)).length<=k+1:=by
      intro k R;rw[fC];have D:=fC.1 R;rw[r6];exact Nat.lt_of_lt_of_le (Nat.mul_lt_mul_of_pos_right D As) (ZJ _ (by omega))
     exact this 1000 I
    have hq:=PN x S ⟨by omega,by rw[FT As (by omega)];simp⟩
    have P8:=PN y S ⟨by omega,by rw[FT As (by omega)];simp⟩
    have ajW:bW S=.X [[.int .i64 (S:Int)]]:=by unfold bW;rw[FT As (by omega)];rfl
    rw[ajW] at hq P8;simp only[bW] at hq P8;have ev:=ajS (aD (x*S)) (by omega);have ajX:((((aD (x*S)).length+1:Nat):Int)==((aD x).length:Int))=false:=by simp;omega
    have ajY:=kg (y*S);have Ki:=kY (y*S);have ajZ:=kg (x*S);have ZK:=kY (x*S);have aj0:bW (y*S)=.X ((aD (y*S)).map Y):=rfl;generalize aj1:aD (y*S)=v at *;generalize ayM:aD (x*S)=jg at *;have Ke:IntKind.i64.wrap (((o jg+1:Nat):Int)-(o v:Int))=((o jg-N-1:Nat):Int):=by rw[eQ _];omega
    have pe:8*(o jg-N-1)<=140737488355328:=by omega
    have Av:(o jg)-N-1<=maxLen:=CB _ (by omega);have P9:decide (c5*(S:Int)<524288)=false:=gr cb;simp only[go_sem,go_sem_proc,fD,fb,jA,ec,h6,jB,au,vY,de,CO,wD,GG,P7,Kh,P9,hq,P8,ev,ajX,Ke,pe,Av,CA,dU,af];have wE:(o jg)-N-1+(N+2)=o jg+1:=by omega
    generalize ayN:(o jg)-N-1=bS at *;have gl:(o jg)=bS+N+1:=by omega
    have GH:=ZA Au;rw[ajY] at GH;have Qa:=wg (wv Ki N);have Qb:=mS (wv Ki N);rw[gO,mi (by omega)] at Qa;have aj2:v[N+1]?=some v[N+1]:=bL (by omega);have Kj:v[N]?=some v[N]:=bL (by omega);have Gy:=jV Ki (N+1) (by omega);have pd:=jV Ki N (by omega);generalize v[N+1]=v1 at *;generalize v[N]=v0 at *;generalize bl (v.take N)=vlow at *
    have kS:524288<=v1:=by
     generalize (1048576:Int)^N=p at *;rcases dG (524288<=v1) with h|h
     ·exact h
     ·have G:(v1*1048576+v0+1)*p<=(524288*1048576)*p:=jz (by omega) (by omega);rw[q2 _ 1,nw] at G;omega
    have aj3:((y*S:Nat):Int)<1048576^(N+2):=by
     have G:((1048576^(N+2):Nat):Int)=1048576^(N+2):=by rw[Aq];rfl
     omega
    have Qc:0<((y*S:Nat):Int):=by
     have:0<1048576^N*(1048576:Int):=Int.mul_pos hk (by omega);omega
    have aj4:bl ((jg++[0]).drop bS)<((y*S:Nat):Int):=by
     have e:(jg++[0]).drop bS=jg.drop bS++[0]:=by rw[List.drop_append_of_le_length (by omega)]
     rw[e,zQ];have D:=wg (λd ae=>ZK d (ZD ae):ey (jg.drop bS));rw[N0,show (o jg)-bS=N+1 by omega,lv] at D
     simp only[bl];omega
    have aj5:((x*S:Nat):Int)=bl ((jg++[0]).take bS)+1048576^bS*bl ((jg++[0]).drop bS):=by
     have:=FU (jg++[0]) bS;rw[zQ,ajZ,mi (by simp;omega)] at this
     simpa [bl] using this
    generalize ZL:y*S=gy at *;generalize ZM:x*S=CQ at *
    refine dw [8,9,10,11,12] [] (λ((j,u,eP):Nat×List Int×List Int) tm mem=>j<=bS/\o u=o jg+1/\ey u/\o eP=bS/\ey eP/\bl (u.drop j)<gy/\(CQ:Int)=bl (u.take j)+1048576^j*(gy*bl (eP.drop j)+bl (u.drop j)) /\
      tm 13=.J (.int .i64 ((j:Nat)-1))/\mem 157054=some (1,bK Y u)/\mem 157075=some (0,bK Y eP)) (λ(j,_)=>j) (bS,jg++[0],eL bS 0)
     (by
      refine⟨cA _,by simp,zP.2 ⟨ZK,by intro d ae;rw[tx] at ae;omega⟩,by simp,λd ae=>by rw[CF] at ae;omega,aj4,?_,?_,rfl,rfl⟩
      ·rw[List.drop_of_length_le (by simp)];simp only[bl,uZ,PQ];exact aj5
      ·simp only[qA,reduceIte];rw[eQ _]) ?_
    intro vs ms a7 aY;simp only[go_sem,go_sem_proc,fD,fb,jA,ec,h6,jB,au,vY,de] at a7 aY;subst a7 aY;rintro⟨j,u,eP⟩ tm mem R-⟨ay,wF,sj,CR,Qd,dk,jX,oi,CS,Kk⟩;simp only[go_sem,go_sem_proc,fD,fb,jA,ec,h6,jB,bn] at R;obtain⟨de,jt,hs,wu,mn⟩:=R;rcases j with _|j
    ·rw[o1,o1] at jX;rw[o1] at dk;simp only[o2,bl,Int.pow_zero,nw,PQ] at jX;have ayO:=mS Qd;have u2:=mS sj
     have Qe:bl eP=((x/y:Nat):Int)/\bl u=((x%y*S:Nat):Int):=by
      have D:CQ/gy=x/y:=by rw[<-ZM,<-ZL];exact Nat.mul_div_mul_right x y As
      have G:CQ%gy=x%y*S:=by rw[<-ZM,<-ZL];exact Nat.mul_mod_mul_right S x y
      have ag:((CQ/gy:Nat):Int)=bl eP:=by rw[Zk,jX,uW,Zl _ _ (by omega),PT u2 dk];omega
      have aR:((CQ%gy:Nat):Int)=bl u:=by rw[Zm,jX,uW,Zn,PU u2 dk]
      rw[D] at ag;rw[G] at aR;exact⟨ag.symm,aR.symm⟩
     have Qf:=J4 u (by omega);rw[wh sj,Qe.2,nt] at Qf;have Qg:=J4 eP (by omega);rw[wh Qd,Qe.1,nt] at Qg
     have hlen:(aD (x%y*S)).length<=100000:=by
      have:(aD (x%y*S)).length<=o u:=by
       have:=Y3 u;rw[wh sj,Qe.2,nt] at this;exact this
      omega
     have iw:=Zj (x%y*S) S ⟨hlen,by omega,by omega⟩
     rw[nt,Nat.mul_div_cancel _ As] at iw;simp only[bW] at iw;have eh:O.ref 157054 1 1 0 (o jg+1)=O.ref 157054 1 1 0 (o u):=by rw[wF]
     have gm:O.ref 157075 0 1 0 bS=O.ref 157075 0 1 0 (o eP):=by rw[CR]
     rw[eh] at jt;rw[gm] at mn;simp only[go_sem,go_sem_proc,fD,fb,jA,ec,h6,jB,de,jt,hs,wu,mn,oi,CS,Kk,Qf,Qg,iw,ml fR,bW,jT,ki,show ¬ ((0:Int)-1>=0) by omega,decide_false]
     repeat' (first|refine al ?_ ?_|fail)<;>intro h<;>simp only[h,go_sem,go_sem_proc,fD,fb,jA,ec,h6,jB,de,jt,hs,wu,mn,oi,CS,Kk,Qf,Qg,iw,ml fR,bW,jT,ki,show ¬ ((0:Int)-1>=0) by omega,decide_false]
    ·obtain⟨pre,fv,post,e,Kl,ZN,Qh,pf,aj6,aj7,ee,yf,hl,ayP,aj8,ayQ,ayR⟩:=ajR (i:=j) (n:=N+2) sj (by omega) dk aj3;have hx:j<bS:=by omega
     rw[hl,zQ,Kl] at jX;subst e;subst Kl;rw[Au] at wu;have ZO:((o pre+1:Nat):Int)-1=(o pre:Int):=by omega
     have r3:IntKind.i64.wrap ((o pre:Int)+((N+2:Nat):Int))=((o pre+(N+2):Nat):Int):=by rw[eQ _];omega
     have aj9:IntKind.i64.wrap (((o pre+(N+2):Nat):Int)-1)=((o pre+(N+1):Nat):Int):=by rw[eQ _];omega
     have Aw:IntKind.i64.wrap (((N+2:Nat):Int)-1)=((N+1:Nat):Int):=by rw[eQ _];omega
     have Km:IntKind.i64.wrap (((N+2:Nat):Int)-2)=(N:Int):=by rw[eQ _];omega
     have Kn:IntKind.i64.wrap (((o pre+(N+2):Nat):Int)-2)=((o pre+N:Nat):Int):=by rw[eQ _];omega
     have bk:(o pre)+(N+2)<o jg+1:=by omega
     have bp:(o pre)+(N+1)<o jg+1:=by omega
     have dW:(o pre)+N<o jg+1:=by omega
     have aka:(o pre)+(N+2)+1<=(bK Y (pre++fv++post)).length:=by rw[og,wF];omega
     have akb:(o pre)+(N+1)+1<=(bK Y (pre++fv++post)).length:=by rw[og,wF];omega
     have Ko:(o pre)+N+1<=(bK Y (pre++fv++post)).length:=by rw[og,wF];omega
     have akc:=GA (pre:=pre) (post:=post) (show N+2<(o fv) by omega);have akd:=GA (pre:=pre) (post:=post) (show N+1<(o fv) by omega);have mW:=GA (pre:=pre) (post:=post) (show N<(o fv) by omega);have cG:=ajQ (N:=N) (by omega:(o fv)=N+3);have Kf:=wg (wv pf N);have ZP:=mS (wv pf N);rw[gO,mi (by omega)] at Kf;have lB:=jV pf (N+2) (by omega);have jy:=jV pf (N+1) (by omega);have x5:=jV pf N (by omega);generalize fv[N+2]=t2 at *;generalize fv[N+1]=t1 at *;generalize fv[N]=t0 at *;generalize bl (fv.take N)=CM at *;have ake:IntKind.i64.wrap (t2*2^min (zU 20) 64)=t2*1048576:=by rw[show min (zU 20) 64=20 by decide];exact wrap64 _ (by omega) (by omega)
     have akf:bits .or .i64 (t2*1048576) t1=t2*1048576+t1:=Oe t2 t1 lB.1 (by omega) jy;have akg:(v1=0)=False:=by simp;omega
     generalize ayS:t2*1048576+t1=top at *;have ayT:0<=top/\top<1099511627776:=by omega
     have uX:top.tdiv v1=top/v1:=CI (by omega);have An:top.tmod v1=top%v1:=Gz (by omega);have kD:0<=top/v1:=PV (by omega) (by omega);have pe:top/v1<=top:=Int.ediv_le_self _ (by omega);have akh:IntKind.i64.wrap (top/v1)=top/v1:=wrap64 _ (by omega) (by omega);have GI:(v.map Y)[N+1]?=some [.int .i64 v1]:=by rw[bb,aj2];rfl
     have Kp:(v.map Y)[N]?=some [.int .i64 v0]:=by rw[bb,Kj];rfl
     have P4:bl fv<1048576*gy:=by omega
     have Qi:bl fv<(top/v1+1)*gy:=by
      have aw:top+1<=(top/v1+1)*v1:=by
       have D:=x3 top v1;have G:=PX top (show 0<v1 by omega);rw[q2,nw,lx (top/v1)];omega
      have aB:(top+1)*1048576*1048576^N<=(top/v1+1)*v1*1048576*1048576^N:=jz (jz aw (by omega)) (by omega)
      have cI:(top/v1+1)*v1*1048576*1048576^N<=(top/v1+1)*gy:=by
       rw[hi,hi];refine se ?_ (by omega);rw[GH,<-hi];have:v1*1048576*1048576^N<=(v1*1048576+v0)*1048576^N:=jz (by omega) (by omega);omega
      have gJ:(top*1048576+t0+1)*1048576^N<=(top+1)*1048576*1048576^N:=jz (by omega) (by omega);rw[q2 _ 1,nw] at gJ;omega
     simp only[go_sem,go_sem_proc,fD,fb,jA,ec,h6,jB,de,jt,hs,wu,mn,oi,CS,Kk,ZO,r3,aj9,Aw,bk,bp,aka,akb,akc,akd,ake,akf,akg,uX,An,akh,GI,show (o pre:Int)>=0 by omega,decide_true,dU,af,show ¬ ((20:Int)<0) by omega]
     have ZQ:∀(mem:Mem),mem 157054=some (1,bK Y (pre++fv++post))->∀q:Int,0<=q->q<1048576->bl fv<(q+1)*gy->0<=bl fv-q*gy+gy ->
       GD [.ref 157054 1 1 (o pre) (N+3),.J (.X (v.map Y)),.J (.int .i64 q)] mem=some (.J (.int .i64 (bl fv/gy)),bI mem 157054 1 (bK Y (pre++pad (N+3) (bl fv%gy).toNat++post))):=by
      intro mem CS q kD aki u3 uV;have CN:=ajP Qc u3 uV;have lu:=ajG ⟨pre,fv,post,gy,q,157054,1⟩ mem ⟨CS,pf,by show (aD gy).length<=o fv;rw[aj1];omega,kD,aki,uV,by show (o pre)+o fv<=100000;omega⟩
      simp only[x7,x8,leftOf] at lu;rw[CN.1,CN.2,ZN,aj0] at lu;exact lu
     have akj:0<=bl fv/gy:=PV (mS pf) (by omega);have akk:bl fv/gy<1048576:=Zo Qc P4;have ayU:=PW (bl fv) (show (gy:Int)≠0 by omega);have akl:=PX (bl fv) Qc
     have akm:bl (pad (N+3) (bl fv%gy).toNat)=bl fv%gy:=by
      rw[ajD]
      ·omega
      ·have G:((1048576^(N+2):Nat):Int)=1048576^(N+2):=by rw[Aq];rfl
       have ag:1048576^(N+2)<=1048576^(N+3):=u1 (by omega) (by omega);omega
     have kj:∃bt:Nat×List Int×List Int,bt.1<o pre+1/\bt.1<=bS/\bt.2.1.length=o jg+1/\ey bt.2.1/\bt.2.2.length=bS/\ey bt.2.2/\bl (bt.2.1.drop bt.1)<gy/\(CQ:Int)=bl (bt.2.1.take bt.1)+1048576^bt.1*(gy*bl (bt.2.2.drop bt.1)+bl (bt.2.1.drop bt.1)) /\
       O.J (Data.int .i64 ((o pre:Int)-1))=O.J (Data.int .i64 ((bt.1:Int)-1))/\some (1,bK Y (pre++pad (N+3) (bl fv%gy).toNat++post))=some (1,bK Y bt.2.1)/\some (0,bK Y (eP.set (o pre) (bl fv/gy)))=some (0,bK Y bt.2.2):=by
      have akn:(o eP)=bS:=CR;have CR:(o pre)<o eP:=by omega
      have ZR:(pre++pad (N+3) (bl fv%gy).toNat++post).drop (o pre)=pad (N+3) (bl fv%gy).toNat++post:=by rw[gZ,Cg]
      have ako:(pre++pad (N+3) (bl fv%gy).toNat++post).take (o pre)=pre:=by rw[gZ,N1]
      have ZS:bl (pad (N+3) (bl fv%gy).toNat++post)=bl fv%gy:=by rw[zQ,aj7,akm];omega
      refine⟨(o pre,pre++pad (N+3) (bl fv%gy).toNat++post,eP.set (o pre) (bl fv/gy)),by dsimp only;omega,by dsimp only;omega,?_,zP.2 ⟨zP.2 ⟨Qh,ajC _ _⟩,aj6⟩,by rw[kA];exact akn,wy Qd _ ⟨akj,akk⟩,?_,?_,rfl,rfl,rfl⟩
      ·rw[<-wF];simp[ajB,ZN]
      ·dsimp only;rw[ZR,ZS];exact akl
      ·dsimp only;rw[ZR,ZS,ako,iI (by simpa using CR),qT];simp only[wx];rw[qO (by omega)];have D:=x3 (bl fv) gy;have G:(gy:Int)*(bl fv/gy+1048576*bl (eP.drop (o pre+1)))=gy*(bl fv/gy)+1048576*(gy*bl (eP.drop (o pre+1))):=by rw[hh,PY]
       rw[G,jX,lv,hi];simp only[bl,uZ,tw];rw[Int.add_assoc,<-hh]
       congr 2
       rw[hh];omega
     have hn:(o pre)+(N+2)+1-o pre=N+3:=by omega
     have wG:IntKind.i64.wrap (((o pre+(N+2):Nat):Int)+1)=((o pre+(N+2)+1:Nat):Int):=by rw[eQ _];rfl
     have Kq:(o pre)<=o pre+(N+2)+1/\o pre+(N+2)+1<=o jg+1:=by omega
     have Kr:(o pre)<bS:=hx;have Ks:=λd=>uT eP (o pre) d (by omega);have Kt:(o pre)+1<=(bK Y eP).length:=by rw[og];omega
     have yb:IntKind.i64.wrap ((o pre:Int)-1)=(o pre:Int)-1:=wrap64 _ (by omega) (by omega)
     refine dw [8,9,10,11,12,13] [157054,157075] (λ((q,r):Int×Int) tm mem=>0<=q/\0<=r/\q*v1+r=top/\bl fv<(q+1)*gy/\tm 15=.J (.int .i64 q)/\tm 16=.J (.int .i64 r)) (λ(q,_)=>q.toNat) (top/v1,top%v1)
      (by
       refine⟨kD,PW _ (by omega),?_,Qi,rfl,rfl⟩;have:=x3 top v1;rw[lx (top/v1)];omega) ?_
     intro vs ms a7 aY;simp only[go_sem,go_sem_proc,fD,fb,jA,ec,h6,jB,de,jt,hs,wu,mn,oi,CS,Kk,ZO] at a7 aY;subst a7 aY;rintro⟨q,r⟩ tm mem' R hm ⟨wH,akp,Ar,u3,yg,yh⟩;simp only[go_sem,go_sem_proc,fD,fb,jA,ec,h6,jB,bn] at R hm;obtain⟨nx,ny,yi,yj,yk,yl⟩:=R;obtain⟨u4,ym⟩:=hm;have ayV:0<=q*v1:=q1 wH (by omega);have ayW:q*524288<=q*v1:=se kS wH;have ayX:0<=q*v0:=q1 wH pd.1;have ayY:q*v0<=q*1048576:=se (by omega) wH;have u5:IntKind.i64.wrap (q*v0)=q*v0:=wrap64 _ (by omega) (by omega);have Ku:IntKind.i64.wrap (q-1)=q-1:=wrap64 _ (by omega) (by omega);have Kv:IntKind.i64.wrap (r+v1)=r+v1:=wrap64 _ (by omega) (by omega);have Kw:IntKind.i64.wrap (r*2^min (zU 20) 64)=r*1048576:=by rw[show min (zU 20) 64=20 by decide];exact wrap64 _ (by omega) (by omega)
     have Kx:bits .or .i64 (r*1048576) t0=r*1048576+t0:=Oe r t0 akp (by omega) x5
     have JF:(q>=1048576\/q*v0>r*1048576+t0)->∃bt:Int×Int,bt.1.toNat<q.toNat/\0<=bt.1/\0<=bt.2/\bt.1*v1+bt.2=top/\bl fv<(bt.1+1)*gy/\O.J (Data.int .i64 (q-1))=O.J (Data.int .i64 bt.1)/\O.J (Data.int .i64 (r+v1))=O.J (Data.int .i64 bt.2):=by
      intro E;have D:=ajN GH cG hk Qb Kf wH (by omega) P4 Ar E
      have Qj:0<q:=by
       rcases dG (0<q) with h|h
       ·exact h
       ·obtain rfl:q=0:=by omega
        have:=mS pf;omega
      exact⟨(q-1,r+v1),by dsimp only;omega,by dsimp only;omega,by dsimp only;omega,by dsimp only;rw[Zz];omega,by dsimp only;rw[Int.sub_add_cancel];exact D,rfl,rfl⟩
     by_cases kt:q>=1048576
     ·simp only[go_sem,go_sem_proc,fD,fb,jA,ec,h6,jB,nx,ny,yi,yj,yk,yl,u4,ym,yg,yh,kt,Ku,Kv,Aw,GI,decide_true,dU,af];repeat' (first|refine al ?_ ?_|fail)<;>intro h<;>simp only[h,go_sem,go_sem_proc,fD,fb,jA,ec,h6,jB,nx,ny,yi,yj,yk,yl,u4,ym,yg,yh,kt,Ku,Kv,Aw,GI,decide_true,dU,af]
      exact JF (.inl kt)
     ·by_cases xy:r<1048576
      ·by_cases CT:q*v0>r*1048576+t0
       ·simp only[go_sem,go_sem_proc,fD,fb,jA,ec,h6,jB,nx,ny,yi,yj,yk,yl,u4,ym,yg,yh,kt,xy,CT,u5,Ku,Kv,Kw,Kx,r3,Aw,Km,Kn,dW,Ko,mW,GI,Kp,decide_true,decide_false,dU,af,show ¬ ((20:Int)<0) by omega]
        repeat' (first|refine al ?_ ?_|fail)<;>intro h<;>simp only[h,go_sem,go_sem_proc,fD,fb,jA,ec,h6,jB,nx,ny,yi,yj,yk,yl,u4,ym,yg,yh,kt,xy,CT,u5,Ku,Kv,Kw,Kx,r3,Aw,Km,Kn,dW,Ko,mW,GI,Kp,decide_true,decide_false,dU,af,show ¬ ((20:Int)<0) by omega]
        exact JF (.inr CT)
       ·have lu:=ZQ mem' u4 q wH (by omega) u3 (Zy GH cG hk ⟨Qb,Qa⟩ ZP wH (by omega) kS pd x5.1 Ar (.inr (by omega)));simp only[go_sem,go_sem_proc,fD,fb,jA,ec,h6,jB,nx,ny,yi,yj,yk,yl,u4,ym,yg,yh,kt,xy,CT,u5,Kw,Kx,r3,wG,Aw,Km,Kn,dW,Ko,mW,Kp,hn,Kq,lu,Kr,Kt,Ks,yb,Au,decide_true,decide_false,dU,af,show ¬ ((20:Int)<0) by omega]
        repeat' (first|refine al ?_ ?_|fail)<;>intro h<;>simp only[h,go_sem,go_sem_proc,fD,fb,jA,ec,h6,jB,nx,ny,yi,yj,yk,yl,u4,ym,yg,yh,kt,xy,CT,u5,Kw,Kx,r3,wG,Aw,Km,Kn,dW,Ko,mW,Kp,hn,Kq,lu,Kr,Kt,Ks,yb,Au,decide_true,decide_false,dU,af,show ¬ ((20:Int)<0) by omega]
        exact kj
      ·have lu:=ZQ mem' u4 q wH (by omega) u3 (Zy GH cG hk ⟨Qb,Qa⟩ ZP wH (by omega) kS pd x5.1 Ar (.inl (by omega)));simp only[go_sem,go_sem_proc,fD,fb,jA,ec,h6,jB,nx,ny,yi,yj,yk,yl,u4,ym,yg,yh,kt,xy,r3,wG,hn,Kq,lu,Kr,Kt,Ks,yb,Au,decide_true,decide_false,dU,af];repeat' (first|refine al ?_ ?_|fail)<;>intro h<;>simp only[h,go_sem,go_sem_proc,fD,fb,jA,ec,h6,jB,nx,ny,yi,yj,yk,yl,u4,ym,yg,yh,kt,xy,r3,wG,hn,Kq,lu,Kr,Kt,Ks,yb,Au,decide_true,decide_false,dU,af]
       exact kj
def c9:Nat:=1048576^60
def bc (z:Int):Raw:=(z.sign,aD z.natAbs)
def ga (a:Raw):Int:=a.1*bl a.2
theorem eo (z:Int):ga (bc z)=z:=by
 unfold ga bc;rw[kg];exact CU z
theorem GJ (d:Int):lZ d=true↔0<=d/\d<1048576:=by
 unfold lZ;simp;omega
theorem gR (a:Raw):cV a=true↔∃z:Int,z.natAbs<c9/\a=bc z:=by
 obtain⟨s,l⟩:=a;unfold cV c9;rw[eX,h2]
 constructor
 ·rintro⟨D,G⟩;have ae:ey l:=λd ae=>(GJ d).1 (D d ae)
  split at G
  ·rename_i h;have ax:l=[]:=mL (by simpa using h);subst ax;have aa:s=0:=by simpa using G
   subst aa;exact⟨0,by simp,rfl⟩
  ·rename_i h;simp at G;obtain⟨⟨aa,hlen⟩,Qk⟩:=G;have E:=canon ae (by simpa using Qk);have ad:=mS ae
   have ayZ:bl l≠0:=by
    intro au;rw[au] at E;rw[E] at h;simp[qU] at h
   refine⟨s*bl l,?_,?_⟩
   ·have:(s*bl l).natAbs=(bl l).toNat:=by rw[nz];rcases aa with rfl|rfl<;>simp<;>omega
    rw[this,<-fC,<-E];exact hlen
   ·unfold bc;have:(s*bl l).natAbs=(bl l).toNat:=by rw[nz];rcases aa with rfl|rfl<;>simp<;>omega
    rw[this,<-E]
    congr 1
    rcases aa with rfl|rfl
    ·rw[nw,fS (by omega)]
    ·rw[Int.neg_mul,nw,Ax,fS (by omega)]
 ·rintro⟨z,a8,h⟩
  cases h;refine⟨λd ae=>(GJ d).2 (kY _ d ae),?_⟩
  by_cases au:z=0
  ·subst au;rfl
  ·have aL:aD z.natAbs≠[]:=by rw[Ne,we];omega
   rw[aq (by simp;exact aL)];have ax:=fC.2 a8;have hG:=YK z.natAbs;simp only[eX,Bool.or_eq_true,beq_iff_eq,decide_eq_true_eq,bne_iff_ne,ne_eq];refine⟨⟨?_,ax⟩,hG⟩;rcases q3 z 0 with h|h|h
   ·exact .inr (jY h)
   ·exact absurd h au
   ·exact .inl (fS h)
theorem iO {z:Int}(h:z.natAbs<c9):cV (bc z)=true:=(gR _).2 ⟨z,h,rfl⟩
def u6 (c:Raw):Raw×Int:=if decide ((c.2.length:Int)>60)=true then ((0,[]),6) else (c,0)
def mq (z:Int):Raw×Int:=if z.natAbs<c9 then (bc z,0) else ((0,[]),6)
def c0 (x:Raw×Int):Data:=.cQ [.agg (bF x.1),.int .i64 x.2]
theorem akq (s:Int)(n:Nat):hH s (aD n)=if n=0 then (0,[]) else (s,aD n):=by
 unfold hH;rw[YJ]
 by_cases h:n=0
 ·subst h;rfl
 ·have:aD n≠[]:=by rw[Ne,we];exact h
  rw[aq h,aq (by simp;exact this)]
theorem lC {s:Int}{n:Nat}{z:Int}(h:z.natAbs=n)(aa:n≠0->s=z.sign):hH s (aD n)=bc z:=by
 rw[akq];subst h
 by_cases au:z.natAbs=0
 ·obtain rfl:z=0:=by omega
  rfl
 ·rw[aq au,aa au]
  rfl
theorem mr (z:Int):u6 (bc z)=mq z:=by
 unfold u6 mq bc c9;have:=fC (n:=z.natAbs) (k:=60)
 by_cases h:z.natAbs<1048576^60
 ·have:=this.2 h;rw[aq (by simp;omega),aj h]
 ·have:=mt this.1 h;rw[aj (by simp;omega),aq h]
abbrev Ql:Bool×Int×(List Int)->List Data:=λ(r,s,l)=>[.bool r,.agg [.int .i64 s,.X (l.map Y)]]
def GK:=bU Ql λ(r,s,l)=>some (.same (c0 (if r=true then u6 (s,l) else ((0,[]),1))))
theorem akr:∀a b,Ql a=Ql b->a=b:=by
  rintro⟨fq,s1,fK⟩ ⟨eV,s2,ab⟩ h;simp only[bn,Data.bool.injEq,Data.agg.injEq,Data.int.injEq,Data.X.injEq] at h;exact dV h.1 (dV h.2.1.1.2 (map_inj eR _ _ h.2.1.2.1))
@[go_sem] theorem CV (r:Bool)(s:Int)(l:List Int):GK [.bool r,.agg [.int .i64 s,.X (l.map Y)]]=some (.same (c0 (if r=true then u6 (s,l) else ((0,[]),1)))):=b3 akr (r,s,l)
theorem aks (T:br)  (r:Bool) (s:Int) (l:List Int):WP T Pb (.same (c0 (if r=true then u6 (s,l) else ((0,[]),1)))) [.J (.bool r),.J (.agg [.int .i64 s,.X (l.map Y)])]:=by
 refine b4 ?_;simp only[Pb]
 cases r
 ·refine aQ ?_;repeat' (intro h<;>simp only[h,go_sem,go_sem_proc,af]<;>try refine al ?_ ?_)
  rfl
 ·refine aQ ?_;repeat' (intro h<;>simp only[h,go_sem,go_sem_proc,af]<;>try refine al ?_ ?_)
  all_goals (simp only[c0,bF,u6];simp only[cM, *,reduceIte,bX,cv,r1,nr,lY,lr,r2,eF,gQ,dm,kc,beq_self_eq_true,bne])
def gn (a:Raw):Raw:=if cV a=true then bc (-ga a) else (0,[])
theorem ZT (z:Int):hH (-z.sign) (aD z.natAbs)=bc (-z):=lC (by omega) λ_=>by rw[Ax]
def Ky:=bU wq λ(s,l)=>cq (o l<=1000000) (.same (.agg (bF (gn (s,l)))))
@[go_sem] theorem ay0 (s:Int)(l:List Int)(E:(o l)<=1000000):Ky [.agg [.int .i64 s,.X (l.map Y)]]=some (.same (.agg (bF (gn (s,l))))):=(b3 Ai (s,l)).trans (cw E _)
theorem akt (T:br)(dr:T jv=aK ts)(fb:T sa=aK x0)(eZ:T mT=aK x1)(s:Int)(l:List Int)(E:(o l)<=1000000):WP T O8 (.same (.agg (bF (gn (s,l))))) [.J (.agg [.int .i64 s,.X (l.map Y)])]:=by
 refine b4 ?_;simp only[O8]
 by_cases U:cV (s,l)=true
 ·obtain⟨z,a8,e⟩:=(gR _).1 U;have aw:gn (s,l)=bc (-z):=by unfold gn;rw[aj U,e,eo]
  cases e
  have hw:IntKind.i64.wrap (0-z.sign) = -z.sign:=by
   have:=GL z;rw[eQ _];omega
  rw[aw];refine aQ ?_;repeat' (intro h<;>simp only[h,go_sem,go_sem_proc,dr,fb,eZ,U,E,hw,ZT,bF]<;>try refine al ?_ ?_)
 ·have U:cV (s,l)=false:=by simpa using U
  have aw:gn (s,l)=(0,[]):=by unfold gn;rw[U];rfl
  rw[aw];refine aQ ?_;repeat' (intro h<;>simp only[h,go_sem,go_sem_proc,dr,fb,eZ,U,E,bF,cM]<;>try refine al ?_ ?_)
theorem hJ (a:Raw):(a.1,a.2)=a:=rfl
def mulR (a b:Raw):Raw×Int:=if (cV a&&cV b)=true then mq (ga a*ga b) else ((0,[]),1)
theorem q4 {x y:Int}(I:x.natAbs<c9)(ak:y.natAbs<c9):mulR (bc x) (bc y)=mq (x*y):=by
 unfold mulR;rw[iO I,iO ak,eo,eo]
 rfl
theorem lD {z:Int}(h:z.natAbs<c9):(aD z.natAbs).length<=60:=fC.2 h
theorem lE (z:Int):-1<=z.sign/\z.sign<=1:=by
 have:=GL z;omega
abbrev nA:Int×(List Int)×Int×(List Int)->List Data:=λ(s,l,s2,ab)=>[.agg [.int .i64 s,.X (l.map Y)],.agg [.int .i64 s2,.X (ab.map Y)]]
def CW:=bU nA λ(s,l,s2,ab)=>cq (o l<=1000000/\o ab<=1000000) (.same (c0 (mulR (s,l) (s2,ab))))
theorem ph:∀a b,nA a=nA b->a=b:=by
  rintro⟨s1,fK,Ay,Az⟩ ⟨s2,ab,AA,AB⟩ h;simp only[bn,Data.agg.injEq,Data.int.injEq,Data.X.injEq] at h;exact dV h.1.1.2 (dV (map_inj eR _ _ h.1.2.1) (dV h.2.1.1.2 (map_inj eR _ _ h.2.1.2.1)))
@[go_sem] theorem ay1 (s:Int)(l:List Int)(s2:Int)(ab:List Int)(E:(o l)<=1000000/\o ab<=1000000):CW [.agg [.int .i64 s,.X (l.map Y)],.agg [.int .i64 s2,.X (ab.map Y)]]=some (.same (c0 (mulR (s,l) (s2,ab)))):=(b3 ph (s,l,s2,ab)).trans (cw E _)
theorem aku (T:br)(dr:T jv=aK ts)(h6:T Cm=aK Kb)(eZ:T mT=aK x1)(k1:T r9=aK GK)(s:Int)(l:List Int)(s2:Int)(ab:List Int)(E:(o l)<=1000000/\o ab<=1000000):WP T O6 (.same (c0 (mulR (s,l) (s2,ab)))) [.J (.agg [.int .i64 s,.X (l.map Y)]),.J (.agg [.int .i64 s2,.X (ab.map Y)])]:=by
 refine b4 ?_;simp only[O6];obtain⟨bk,bp⟩:=E
 by_cases U:cV (s,l)=true
 ·by_cases aZ:cV (s2,ab)=true
  ·obtain⟨x,I,e⟩:=(gR _).1 U;obtain⟨y,ak,aB⟩:=(gR _).1 aZ;have hm:mulR (s,l) (s2,ab)=mq (x*y):=by rw[e,aB];exact q4 I ak
   rw[hm];clear hm
   cases e
   cases aB;have D:=lE x;have G:=lE y;have aG:x.sign*y.sign=(x*y).sign:=(Int.sign_mul x y).symm;have ag:=lE (x*y);have hw:IntKind.i64.wrap (x.sign*y.sign)=(x*y).sign:=by rw[aG];exact wrap64 _ (by omega) (by omega)
   have hmul:=PN x.natAbs y.natAbs ⟨eG (lD I) (by omega),eG (lD ak) (by omega)⟩;simp only[bW] at hmul
   have hlen:(aD (x.natAbs*y.natAbs)).length<=1000000:=by
    refine eG ((fC (k:=120)).2 ?_) (by omega);have:(1048576^120:Nat)=c9*c9:=by unfold c9;rw[<-Nat.pow_add]
    rw[this];exact Nat.mul_lt_mul'' I ak
   have aa:hH (x*y).sign (aD (x.natAbs*y.natAbs))=bc (x*y):=lC (nz x y) λ_=>rfl;refine aQ ?_;repeat' (intro h<;>simp only[h,go_sem,go_sem_proc,dr,h6,eZ,k1,U,aZ,bk,bp,hw,hmul,hlen,aa,mr,bF,c0,hJ]<;>try refine al ?_ ?_)
  ·have aZ:cV (s2,ab)=false:=by simpa using aZ
   have hm:mulR (s,l) (s2,ab)=((0,[]),1):=by unfold mulR;rw[aZ,gQ];rfl
   rw[hm];have mu:=CV false 0 [];simp only[cM] at mu;refine aQ ?_;repeat' (intro h<;>simp only[h,go_sem,go_sem_proc,dr,h6,eZ,k1,U,aZ,bk,bp,mu,bF,c0,cM]<;>try refine al ?_ ?_)
 ·have U:cV (s,l)=false:=by simpa using U
  have hm:mulR (s,l) (s2,ab)=((0,[]),1):=by unfold mulR;rw[U,dm];rfl
  rw[hm];have mu:=CV false 0 [];simp only[cM] at mu;refine aQ ?_;repeat' (intro h<;>simp only[h,go_sem,go_sem_proc,dr,h6,eZ,k1,U,bk,bp,mu,bF,c0,cM]<;>try refine al ?_ ?_)
def iP (a b:Raw):Raw×Int:=if (cV a&&cV b)=true then mq (ga a+ga b) else ((0,[]),1)
theorem GM {x y:Int}(I:x.natAbs<c9)(ak:y.natAbs<c9):iP (bc x) (bc y)=mq (x+y):=by
 unfold iP;rw[iO I,iO ak,eo,eo]
 rfl
theorem CX (a b:Nat):(aD (a-b)).length<=(aD a).length:=by
 rw[fC];exact q0 (Nat.sub_le a b) (fC.1 (cA _))
def Qm:=bU nA λ(s,l,s2,ab)=>cq (o l<=1000000/\o ab<=1000000) (.same (c0 (iP (s,l) (s2,ab))))
@[go_sem] theorem ay2 (s:Int)(l:List Int)(s2:Int)(ab:List Int)(E:(o l)<=1000000/\o ab<=1000000):Qm [.agg [.int .i64 s,.X (l.map Y)],.agg [.int .i64 s2,.X (ab.map Y)]]=some (.same (c0 (iP (s,l) (s2,ab)))):=(b3 ph (s,l,s2,ab)).trans (cw E _)
theorem akv (T:br)(dr:T jv=aK ts)(u7:T Oq=aK PC)(kE:T F2=aK J9)(kF:T Co=aK Ka)(fD:T z1=aK Gv)(eZ:T mT=aK x1)(k1:T r9=aK GK)(s:Int)(l:List Int)(s2:Int)(ab:List Int)(E:(o l)<=1000000/\o ab<=1000000):WP T Ph (.same (c0 (iP (s,l) (s2,ab)))) [.J (.agg [.int .i64 s,.X (l.map Y)]),.J (.agg [.int .i64 s2,.X (ab.map Y)])]:=by
 refine b4 ?_;simp only[Ph];obtain⟨bk,bp⟩:=E
 by_cases U:cV (s,l)=true
 ·by_cases aZ:cV (s2,ab)=true
  ·obtain⟨x,I,e⟩:=(gR _).1 U;obtain⟨y,ak,aB⟩:=(gR _).1 aZ;have hm:iP (s,l) (s2,ab)=mq (x+y):=by rw[e,aB];exact GM I ak
   rw[hm];clear hm
   cases e
   cases aB;have D:=lE x;have G:=lE y;have k2:=lD I;have iM:=lD ak;have akw:=CU x;have akx:=CU y
   have mv:(x.sign=1/\0<x)\/(x.sign=0/\x=0)\/(x.sign = -1/\x<0):=by
    rcases q3 x 0 with h|h|h
    ·exact .inr (.inr ⟨jY h,h⟩)
    ·exact .inr (.inl ⟨by rw[h];rfl,h⟩)
    ·exact .inl ⟨fS h,h⟩
   have ty:(y.sign=1/\0<y)\/(y.sign=0/\y=0)\/(y.sign = -1/\y<0):=by
    rcases q3 y 0 with h|h|h
    ·exact .inr (.inr ⟨jY h,h⟩)
    ·exact .inr (.inl ⟨by rw[h];rfl,h⟩)
    ·exact .inl ⟨fS h,h⟩
   have eT:=Y8 x.natAbs y.natAbs ⟨by omega,by omega⟩
   simp only[bW] at eT
   have hlen:(aD (x.natAbs+y.natAbs)).length<=1000000:=by
    refine eG ((fC (k:=61)).2 ?_) (by omega);have:(1048576^61:Nat)=c9*1048576:=by unfold c9;rw[<-r6]
    omega
   have mV:=ajk [x.sign,y.sign] (by simp);simp only[e8,cM,Y] at mV;have fu:=PF x.natAbs y.natAbs ⟨by omega,by omega⟩
   simp only[bW] at fu
   by_cases aG:x.sign*y.sign>=0
   ·have hw:IntKind.i64.wrap (x.sign*y.sign)=x.sign*y.sign:=by
     rcases mv with ⟨e,_⟩|⟨e,_⟩|⟨e,_⟩<;>rw[e]<;>exact wrap64 _ (by omega) (by omega)
    have aa:hH (tr [x.sign,y.sign]) (aD (x.natAbs+y.natAbs))=bc (x+y):=by
     refine lC ?_ ?_
     ·rcases mv with ⟨e,_⟩|⟨e,_⟩|⟨e,_⟩<;>rcases ty with ⟨e',_⟩|⟨e',_⟩|⟨e',_⟩<;>rw[e,e'] at aG<;>omega
     ·intro aL;rcases mv with ⟨e,_⟩|⟨e,_⟩|⟨e,_⟩<;>rcases ty with ⟨e',_⟩|⟨e',_⟩|⟨e',_⟩<;>rw[e,e'] at aG ⊢
      ·exact (fS (by omega)).symm
      ·exact (fS (by omega)).symm
      ·omega
      ·exact (fS (by omega)).symm
      ·omega
      ·exact (jY (by omega)).symm
      ·omega
      ·exact (jY (by omega)).symm
      ·exact (jY (by omega)).symm
    simp only[go_sem,go_sem_proc,dr,u7,kE,kF,fD,eZ,k1,U,aZ,bk,bp,hw,aG,decide_true,mV,eT,hlen,aa,mr,bF,c0,hJ];repeat' (first|refine al ?_ ?_|fail)<;>intro h<;>simp only[h,go_sem,go_sem_proc,dr,u7,kE,kF,fD,eZ,k1,U,aZ,bk,bp,hw,aG,decide_true,mV,eT,hlen,aa,mr,bF,c0,hJ]
   ·have hw:IntKind.i64.wrap (x.sign*y.sign)=x.sign*y.sign:=by
     rcases mv with ⟨e,_⟩|⟨e,_⟩|⟨e,_⟩<;>rw[e]<;>exact wrap64 _ (by omega) (by omega)
    by_cases az:x.natAbs<y.natAbs
    ·have q5:decide (fh x.natAbs y.natAbs<0)=true:=by unfold fh;rw[aj (by simp;omega)];rfl
     have hn:=PL y.natAbs x.natAbs ⟨by omega,by omega⟩
     simp only[bW] at hn;have tz:(aD (y.natAbs-x.natAbs)).length<=1000000:=eG (CX _ _) (by omega)
     have aa:hH y.sign (aD (y.natAbs-x.natAbs))=bc (x+y):=by
      refine lC ?_ ?_
      ·rcases mv with ⟨e,_⟩|⟨e,_⟩|⟨e,_⟩<;>rcases ty with ⟨e',_⟩|⟨e',_⟩|⟨e',_⟩<;>rw[e,e'] at aG<;>omega
      ·intro aL;rcases mv with ⟨e,_⟩|⟨e,_⟩|⟨e,_⟩<;>rcases ty with ⟨e',_⟩|⟨e',_⟩|⟨e',_⟩<;>rw[e,e'] at aG<;>rw[e']<;>first|omega|exact (fS (by omega)).symm|exact (jY (by omega)).symm
     simp only[go_sem,go_sem_proc,dr,u7,kE,kF,fD,eZ,k1,U,aZ,bk,bp,hw,aG,decide_false,fu,q5,hn,tz,aa,mr,bF,c0,hJ];repeat' (first|refine al ?_ ?_|fail)<;>intro h<;>simp only[h,go_sem,go_sem_proc,dr,u7,kE,kF,fD,eZ,k1,U,aZ,bk,bp,hw,aG,decide_false,fu,q5,hn,tz,aa,mr,bF,c0,hJ]
    ·have q5:decide (fh x.natAbs y.natAbs<0)=false:=by unfold fh;rw[aq (by simp;omega)];split<;>rfl
     have hn:=PL x.natAbs y.natAbs ⟨by omega,by omega⟩
     simp only[bW] at hn;have tz:(aD (x.natAbs-y.natAbs)).length<=1000000:=eG (CX _ _) (by omega)
     have aa:hH x.sign (aD (x.natAbs-y.natAbs))=bc (x+y):=by
      refine lC ?_ ?_
      ·rcases mv with ⟨e,_⟩|⟨e,_⟩|⟨e,_⟩<;>rcases ty with ⟨e',_⟩|⟨e',_⟩|⟨e',_⟩<;>rw[e,e'] at aG<;>omega
      ·intro aL;rcases mv with ⟨e,_⟩|⟨e,_⟩|⟨e,_⟩<;>rcases ty with ⟨e',_⟩|⟨e',_⟩|⟨e',_⟩<;>rw[e,e'] at aG<;>rw[e]<;>first|omega|exact (fS (by omega)).symm|exact (jY (by omega)).symm
     simp only[go_sem,go_sem_proc,dr,u7,kE,kF,fD,eZ,k1,U,aZ,bk,bp,hw,aG,decide_false,fu,q5,hn,tz,aa,mr,bF,c0,hJ];repeat' (first|refine al ?_ ?_|fail)<;>intro h<;>simp only[h,go_sem,go_sem_proc,dr,u7,kE,kF,fD,eZ,k1,U,aZ,bk,bp,hw,aG,decide_false,fu,q5,hn,tz,aa,mr,bF,c0,hJ]
  ·have aZ:cV (s2,ab)=false:=by simpa using aZ
   have hm:iP (s,l) (s2,ab)=((0,[]),1):=by unfold iP;rw[aZ,gQ];rfl
   rw[hm];have mu:=CV false 0 [];simp only[cM] at mu;simp only[go_sem,go_sem_proc,dr,u7,kE,kF,fD,eZ,k1,U,aZ,bk,bp,mu,bF,c0,cM];repeat' (first|refine al ?_ ?_|fail)<;>intro h<;>simp only[h,go_sem,go_sem_proc,dr,u7,kE,kF,fD,eZ,k1,U,aZ,bk,bp,mu,bF,c0,cM]
 ·have U:cV (s,l)=false:=by simpa using U
  have hm:iP (s,l) (s2,ab)=((0,[]),1):=by unfold iP;rw[U,dm];rfl
  rw[hm];have mu:=CV false 0 [];simp only[cM] at mu;simp only[go_sem,go_sem_proc,dr,u7,kE,kF,fD,eZ,k1,U,bk,bp,mu,bF,c0,cM];repeat' (first|refine al ?_ ?_|fail)<;>intro h<;>simp only[h,go_sem,go_sem_proc,dr,u7,kE,kF,fD,eZ,k1,U,bk,bp,mu,bF,c0,cM]
end Go.Mini
