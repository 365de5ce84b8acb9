/- A part of the proof. -/
import Derived.LoopN
import Derived.Laws.BitsLemmas
import Derived.ChangeSame
import Derived.Handed
import Derived.JoinedOf
import Derived.JoinedCond
import Derived.OpenShut
import Derived.ProofKit
import Derived.Test.YtplehnijfhgclaaGreatDoorM01
set_option linter.unusedSimpArgs false
set_option linter.unusedVariables false
set_option linter.defProp false
set_option maxRecDepth 100000
set_option maxHeartbeats 4000000
noncomputable section
open Bool renaming and_eq_true->dp,and_false->jV,and_true->sP,false_and->h9,false_eq_true->dm,false_or->sO,not_false->h8,not_true->fP,or_false->rE,or_true->xH,true_and->iD,true_or->xI
open Classical renaming choose->Dv,choose_spec->rD
open Decidable renaming em->eo
open Int renaming add_comm->wj,add_mul->rR,add_mul_ediv_left->ZT,add_mul_emod_self_left->ZV,add_zero->H8,bmod_def->YX,cast_ofNat_Int->n2,ediv_eq_zero_of_lt->R7,ediv_lt_of_lt_mul->ZW,ediv_nonneg->R9,emod_add_mul_ediv->zo,emod_emod_of_dvd->YY,emod_eq_of_lt->R8,emod_lt_of_pos->Sc,emod_nonneg->Sb,le_of_lt->SF,lt_trichotomy->rT,mul_add->hz,mul_assoc->hA,mul_comm->mj,mul_le_mul->R3,mul_le_mul_of_nonneg_left->xZ,mul_le_mul_of_nonneg_right->lx,mul_left_comm->Sd,mul_neg->D7,mul_nonneg->zp,mul_one->rM,mul_right_comm->zx,mul_sub->D2,mul_zero->wm,natAbs_mul->kX,natAbs_natCast->ik,natAbs_neg->yb,natCast_add->aaJ,natCast_ediv->ZS,natCast_emod->ZU,natCast_mul->aah,natCast_pos->BD,natCast_pow->Bp,natCast_zero->nu,neg_mul->Bu,ofNat_sub->aaI,one_mul->nw,pow_add->ZQ,pow_pos->Ie,pow_succ->lZ,reducePow->aaP,sign_eq_neg_one_of_neg->n6,sign_eq_one_of_pos->ij,sign_mul->oa,sign_mul_natAbs->Sz,sign_neg->Ef,sign_sign->yc,sign_trichotomy->aaF,sub_mul->Z8,sub_zero->HY,tdiv_eq_ediv_of_nonneg->D6,tmod_eq_emod_of_nonneg->HZ,toNat->A8,toNat_natCast->mY,zero_add->R6,zero_mul->ya
open List renaming all_cons->Dw,all_eq_true->jP,append_assoc->hj,append_inj->RQ,append_nil->nZ,concat_eq_append->Q8,cons_append->lo,drop->pS,drop_append->DA,drop_drop->xy,drop_eq_getElem_cons->gK,drop_eq_nil_of_le->mH,drop_left->QX,drop_length->Q0,drop_set_of_lt->ry,drop_zero->oO,eq_nil_of_length_eq_zero->qt,eq_nil_or_concat->Q7,flatMap_cons->Q2,flatten_cons->k9,getElem?_append->C8,getElem?_drop->sL,getElem?_eq_getElem->bw,getElem?_eq_some_iff->dh,getElem?_map->bD,getElem?_take_of_lt->xA,getElem_mem->iJ,getElem_set_self->x0,length->D,length_append->la,length_cons->jt,length_drop->rF,length_eq_one_iff->Yn,length_map->au,length_nil->ln,length_pos_iff->Is,length_range->A1,length_set->gg,length_take->hg,mapM_cons->ma,mapM_nil->Yw,map_cons->hi,map_nil->cE,mem_append->hv,mem_attach->Yu,mem_cons->hq,mem_flatMap->AR,mem_iff_getElem?->rH,mem_map->hx,mem_of_getElem?->dM,mem_of_mem_drop->D9,mem_of_mem_take->AI,mem_range->pP,mem_replicate->n4,mem_singleton->wq,nil_append->jU,range->jf,replicate->bT,replicate_succ->pF,take->oU,take_add_one->jl,take_append_drop->Hl,take_left->QW,take_length->oc,take_of_length_le->dx,take_succ_cons->QO,take_zero->LM
open List.cons renaming inj->Bo,injEq->bo
open Nat renaming add_assoc->rk,add_mul->oF,add_sub_cancel_left->DB,add_zero->ko,and_two_pow_sub_one_eq_mod->YZ,div_add_mod->LQ,div_eq_of_lt->QZ,div_le_self->aaL,div_lt_iff_lt_mul->YW,eq_zero_or_pos->jh,gcd->fS,gcd_comm->It,le_of_lt->zD,le_refl->bI,le_trans->cS,lt_of_le_of_lt->wg,lt_of_lt_of_le->vt,lt_or_ge->fF,min_eq_left->mM,mod_eq_of_lt->Hs,mod_lt->mW,mul_comm->pO,mul_le_mul_left->Ii,mul_le_mul_right->mJ,mul_one->dU,pos_of_ne_zero->DE,pow_le_pow_right->jC,pow_succ->sR,reduceAdd->Yx,reduceMul->QP,strongRecOn->QN,zero_add->kM,zero_le->ej,zero_mod->aaK,zero_mul->LP
open Option renaming bind_eq_bind->fE,bind_eq_some_iff->dd,bind_some->zh,map_eq_some_iff->cJ,map_some->jQ,pure_def->fy
open Option.some renaming inj->mN,injEq->bF
open Prod renaming ext->cO,ext_iff->HR
open Prod.mk renaming injEq->ec
namespace Go.Mini
open Go
variable {P:Program} {aQ:Option I} {T:bj} {A:Nat->Prop} {b5 w:World} {c4 B:cB} {mem:Mem} {n kb:Nat} {own:List Nat} {al:Exit->Act->World->Prop}
def Yh {k:Key}{ax gI:Nat->Prop}{aB:cB}{v:Value}{sz:Nat}{e:gU}(he:B k=some e)(ai:aN w ax aB .nil v):aN w gI B (.ref k e.g sz 0 0) v:=by
 cases ai;exact .ref he (bI _) ⟨_,0,rfl,bI _,ej _,.inl rfl⟩
def Yi (w:World)(b i:Nat)(v:Value):Prop:=w.cell? ⟨b,i,none⟩=some v\/∃hH iw j oN,w.heap[b]?=some (.map hH iw)/\i=2*j+1/\hH.toList[j]?=some oN/\oN.val=v
def jv.val {ax:Nat->Prop}{es:List MapEntry}{ms:List I}(h:jv w ax B es ms):∀{j:Nat} {m:I} {oN:MapEntry},ms[2*j+1]?=some m->es[j]?=some oN->aN w ax B m oN.val:=by
 induction h with
 |nil=>intro j m oN h;simp at h
 |cons O ai Q aD =>
  intro j m oN E G
  cases j with
  |zero=>simp at E G;subst E;subst G;exact ai
  |succ j=>exact aD (j:=j) (by simpa [Nat.mul_succ] using E) (by simpa using G)
def jv.set {ax:Nat->Prop}{m m':I}(vV:∀s,m ≠ .M (.str s)){es:List MapEntry}{ms:List I}(h:jv w ax B es ms):∀{i:Nat},ms[i]?=some m->(∀j oN,i=2*j+1->es[j]?=some oN->aN w ax B m' oN.val)->jv w ax B es (ms.set i m'):=by
 induction h with
 |nil=>intro i h;simp at h
 |cons O ai Q aD =>
  intro i E G
  match i,E,G with
  |0,E,_=>simp at E;exact absurd E.symm (vV _)
  |1,E,G=>exact .cons O (G 0 _ rfl rfl) Q
  |i+2,E,G=>exact .cons O ai (aD (by simpa using E) λj oN aa he=>G (j+1) oN (by omega) (by simpa using he))
def dj.val {k:Key}{g i b:Nat}{cs:List I}{m:I}{e:gU}{v:Value}(h:dj A w B mem)(O:mem k=some (g,cs))(he:B k=some e)(U:e.cW=some b)(L:cs[i]?=some m)(vV:∀s,m ≠ .M (.str s))(ai:Yi w b i v):aN w (bb A B) B m v:=by
 obtain⟨e',dW,aC,aE,fq⟩:=h.cW k g cs O;rw[he] at dW
 cases dW;rcases fq b U with ⟨_,vs,T,E,G,ab,aM⟩|⟨_,hH,iw,E,G⟩
 ·obtain⟨u,hu,Q⟩:=aM i m L;rcases ai with ai|⟨hH,iw,j,oN,hm,_⟩
  ·rw[cell_of_row w b i vs T (0,0) E,hu] at ai
   cases ai;exact Q
  ·rw[E] at hm;cases hm
 ·rcases ai with ai|⟨Dk,GU,j,oN,hm,rfl,xB,rfl⟩
  ·simp[World.cell?,E] at ai
  ·rw[E] at hm
   cases hm;exact G.val L xB
def AX {k:Key}{g i:Nat}{cs:List I}{m m':I}{w1:World}(a4:dj A w B mem)(O:mem k=some (g,cs))(L:cs[i]?=some m)(vV:∀s,m ≠ .M (.str s))
  (ai:∀e b v,B k=some e->e.cW=some b->Yi w b i v->aN w (bb A B) B m' v):∃aB,cT A w B w aB (aR mem k g (cs.set i m')):=by
 obtain⟨e,he,bM,aE,U⟩:=a4.cW k g cs O;have Yj:∀az,B k=some az->e=az\/az.g<e.g:=λaz eb => .inl (by rw[he] at eb;cases eb;rfl)
 have pD:e.cW=none->cs.set i m'=[]:=λh=>by
  have:=aE h;subst this
  rfl
 cases gL:e.mp with
 |true =>
  have ok:=cT.Qi (k:=k) (e':=e) (cs:=cs.set i m') a4 (Fr.refl _ w) Yj (λb dr => .inr ⟨e,he,dr⟩) pD (λb dr=>by
   rcases U b dr with ⟨ak,_⟩|⟨_,hH,iw,E,G⟩
   ·rw[gL] at ak;cases ak
   ·exact⟨gL,hH,iw,E,G.set vV L λj oN aa xB=>ai e b _ he dr (.inr ⟨hH,iw,j,oN,E,aa,xB,rfl⟩)⟩)
  rw[bM] at ok;exact⟨_,ok⟩
 |false =>
  have ok:=cT.change (k:=k) (e':=e) (cs:=cs.set i m') a4 (Fr.refl _ w) Yj (λb dr => .inr ⟨e,he,dr⟩) pD (λb dr=>by
   obtain⟨vs,T,a1,aP,hle,b0⟩:=(U b dr).cells gL;refine⟨gL,vs,T,a1,aP,by simpa using hle,λj x J=>?_⟩
   by_cases hM:i=j
   ·subst hM;have av:i<D cs:=(dh.1 L).1;rw[List.getElem?_set_self av] at J
    cases J;have mK:i<vs.size:=by omega
    exact⟨vs[i],Array.getElem?_eq_getElem mK,ai e b _ he dr (.inl (by rw[cell_of_row w b i vs T (0,0) a1];exact Array.getElem?_eq_getElem mK))⟩
   ·rw[List.getElem?_set_ne hM] at J;exact b0 j x J)
  rw[bM] at ok;exact⟨_,ok⟩
def cT.move {k k':Key}{g:Nat}{cs:List I}{e:gU}(h:dj A w B mem)(O:mem k=some (g,cs))(he:B k=some e)(a6:k'≠k):
  cT A w B w (eu (eu B k ⟨bp mem k,none,0,false⟩) k' ⟨bp mem k',e.cW,e.size,e.mp⟩) (aR (aR mem k (bp mem k) []) k' (bp mem k') cs):=by
 have vL:∀b,ni (eu (eu B k ⟨bp mem k,none,0,false⟩) k' ⟨bp mem k',e.cW,e.size,e.mp⟩) b->ni B b:=by
  rintro b ⟨j,az,aa,U⟩
  by_cases E:j=k'
  ·subst E;rw[eX] at aa
   cases aa;exact⟨k,e,he,U⟩
  ·rw[eR _ _ E] at aa
   by_cases G:j=k
   ·subst G;rw[eX] at aa
    cases aa
    cases U
   ·rw[eR _ _ G] at aa;exact⟨j,az,aa,U⟩
 have h0:Trans A w B w (eu (eu B k ⟨bp mem k,none,0,false⟩) k' ⟨bp mem k',e.cW,e.size,e.mp⟩):=by
  refine⟨bI _,λb _ U=>⟨rfl,λa0=>U (.inl (vL b a0))⟩,λj az aa=>?_⟩
  by_cases E:j=k'
  ·subst E;exact⟨_,eX _ _ _,.inr (yX h j az aa)⟩
  ·rw[eR _ _ E]
   by_cases G:j=k
   ·subst G;exact⟨_,eX _ _ _,.inr (yX h j az aa)⟩
   ·rw[eR _ _ G];exact⟨az,aa,.inl rfl⟩
 refine⟨⟨λj aa=>?_,λj h1 aK az b E G ka dr=>?_,λb a2 a0=>h.sep b a2 (vL b a0),h.lt,h.gl,λb o U a0=>h.vu b o U (vL b a0),λj bX GQ aa=>?_⟩,h0,Fr.refl _ _,λb U => .inl (vL b U)⟩
 ·simp only[aR] at aa
  by_cases E:j=k'
  ·simp[E] at aa
  ·by_cases G:j=k
   ·rw[ar E,aq G] at aa
    cases aa
   ·simp only[E,G,if_false] at aa;rw[eR _ _ E,eR _ _ G];exact h.q9 j aa
 ·have main:∀(j:Key) (aK:gU),eu (eu B k ⟨bp mem k,none,0,false⟩) k' ⟨bp mem k',e.cW,e.size,e.mp⟩ j=some aK->aK.cW=some b->(j=k'/\e.cW=some b)\/(j≠k'/\j≠k/\B j=some aK):=by
   intro j aK aa U
   by_cases E:j=k'
   ·subst E;rw[eX] at aa
    cases aa;exact .inl ⟨rfl,U⟩
   ·rw[eR _ _ E] at aa
    by_cases G:j=k
    ·subst G;rw[eX] at aa
     cases aa
     cases U
    ·rw[eR _ _ G] at aa;exact .inr ⟨E,G,aa⟩
  rcases main j aK E ka with ⟨gf,nX⟩|⟨gf,s1,nX⟩<;>rcases main h1 az G dr with ⟨gV,nY⟩|⟨gV,s2,nY⟩
  ·rw[gf,gV]
  ·exact absurd (h.inj k h1 e az b he nY nX dr).symm s2
  ·exact absurd (h.inj k j e aK b he nX nY ka).symm s1
  ·exact h.inj j h1 aK az b nX nY ka dr
 ·simp only[aR] at aa
  by_cases E:j=k'
  ·subst E;simp only[if_true,bF,ec] at aa;obtain⟨rfl,rfl⟩:=aa;obtain⟨eO,ug,aC,aE,U⟩:=h.cW k g cs O;rw[he] at ug
   cases ug;refine⟨_,eX _ _ _,rfl,aE,λb fq=>?_⟩;exact (U b fq).imp rfl rfl λm _ v Q=>Q.ju h0
  ·simp only[E,if_false] at aa;rw[eR _ _ E]
   by_cases G:j=k
   ·subst G;simp only[if_true,bF,ec] at aa;obtain⟨rfl,rfl⟩:=aa;exact⟨_,eX _ _ _,rfl,λ_=>rfl,λb U=>by cases U⟩
   ·simp only[G,if_false] at aa;rw[eR _ _ G];obtain⟨eO,ug,aC,aE,U⟩:=h.cW j bX GQ aa;refine⟨eO,ug,aC,aE,λb fq=>?_⟩;exact (U b fq).imp rfl rfl λm _ v Q=>Q.ju h0
def dq.ghost {a:Act}{st:a3}{aB:cB}{mem':Mem}{tm':Nat->I}(h:dq aQ n A b5 c4 a st w B)(R:cT A w B w aB mem')(bx:∀s,tm' s=st.tm s\/aN w (bb A aB) aB (tm' s) (a.eval (.tmp s))):
  dq aQ n A b5 c4 a ⟨tm',mem'⟩ w aB:=by
 refine⟨h.ok.trans R,λs=>?_,h.sz,h.vM.ju R.h0⟩;rcases bx s with E|E
 ·simp only[E];exact (h.tm s).ju R.h0
 ·exact E
def ajZ {K:a3->Prop}{a:Act}{st:a3}{g:KT}(h:dq aQ n A b5 c4 a st w B)(O:lQ K st g):∃bV aB,K bV/\dq aQ n A b5 c4 a bV w aB:=by
 have mO:∀x:bg,∃v,aN w (bb A B) B (aI st.tm x) v\/∃m,x=.c m:=λx=>by
  cases x with
  |t s=>exact⟨_,.inl (h.tm s)⟩
  |c m=>exact⟨undef,.inr ⟨m,rfl⟩⟩
 cases g with
 |rb s k sz =>
  simp only[lQ] at O
  split at O
  ·rename_i R;have ok:=cT.vB h.ok.b4 k;refine⟨_,_,O,h.ghost ok λt=>?_⟩
   by_cases rA:t=s
   ·subst rA;have:=h.tm t;rw[R] at this;simp only[er,if_true];exact .inr (Yh (e:=⟨bp st.mem k,none,0,false⟩) (eX _ _ _) this)
   ·exact .inl (by simp[er,rA])
  ·cases O
 |freeze s =>
  simp only[lQ] at O
  split at O
  ·rename_i k g sz off len R
   split at O
   ·rename_i cd cs gA
    split at O
    ·rename_i aC;obtain⟨rfl,_⟩:=aC
     split at O
     ·rename_i d ae;have ok:=cT.vB h.ok.b4 k;refine⟨_,_,O,h.ghost ok λt=>?_⟩
      by_cases rA:t=s
      ·subst rA;have ai:=h.tm t;rw[R] at ai ae;simp only[er,if_true];exact .inr (.M (Hc h.ok.b4 gA ae ai))
      ·exact .inl (by simp[er,rA])
     ·cases O
    ·cases O
   ·cases O
  ·cases O
 |Gb x i k sz =>
  simp only[lQ] at O
  split at O
  ·rename_i kc g off J
   split at O
   ·rename_i cd cs gA
    split at O
    ·rename_i aC;subst aC
     split at O
     ·rename_i Z
      split at O
      ·rename_i a6;have ok:=cT.vB h.ok.b4 k;have rB:aR st.mem k (bp st.mem k) [] kc=some (cd,cs):=by simp[aR,Ne.symm a6,gA]
       obtain⟨e,he,bM,aE,U⟩:=h.ok.b4.at_ gA
       obtain⟨aB,rC⟩:=AX (w1:=w) (m':=.ref k (bp st.mem k) sz 0 0) ok.b4 rB Z (by simp) (λaz b v eb dr ai=>by
        rw[eR B _ (Ne.symm a6)] at eb;rw[he] at eb
        cases eb;have Q:=h.ok.b4.val gA he dr Z (by simp) ai;exact Yh (e:=⟨bp st.mem k,none,0,false⟩) (eX _ _ _) Q)
       exact⟨_,aB,O,h.ghost (ok.trans rC) λt => .inl rfl⟩
      ·cases O
     ·cases O
    ·cases O
   ·cases O
  ·cases O
 |KU x i =>
  simp only[lQ] at O
  split at O
  ·rename_i kc gc off J
   split at O
   ·rename_i PS cc QI
    split at O
    ·rename_i aC;subst aC
     split at O
     ·rename_i k g sz o len Z
      split at O
      ·rename_i cd cs gA
       split at O
       ·rename_i aC;obtain⟨rfl,_,a6⟩:=aC
        split at O
        ·rename_i d ae;have ok:=cT.vB h.ok.b4 k;have rB:aR st.mem k (bp st.mem k) [] kc=some (PS,cc):=by simp[aR,Ne.symm a6,QI]
         obtain⟨e,he,bM,aE,U⟩:=h.ok.b4.at_ QI
         obtain⟨aB,rC⟩:=AX (w1:=w) (m':=.M d) ok.b4 rB Z (by simp) (λaz b v eb dr ai=>by
          rw[eR B _ (Ne.symm a6)] at eb;rw[he] at eb
          cases eb;have Q:=h.ok.b4.val QI he dr Z (by simp) ai;exact .M (Hc h.ok.b4 gA ae Q))
         exact⟨_,aB,O,h.ghost (ok.trans rC) λt => .inl rfl⟩
        ·cases O
       ·cases O
      ·cases O
     ·cases O
    ·cases O
   ·cases O
  ·cases O
 |move =>
  rcases O with O|⟨fW,gz,gJ,i,k,g,sz,off,len,cs,k',gm,Z,vW,E,G,ab,O⟩|⟨fW,gz,gJ,i,k,g,sz,off,len,cs,d,gm,Z,gA,-,a6,ae,O⟩
  ·exact⟨st,B,O,h⟩
  ·obtain⟨e,he,bM,aE,U⟩:=h.ok.b4.at_ vW;have ok:=cT.move h.ok.b4 vW he G;have rB:aR (aR st.mem k (bp st.mem k) []) k' (bp st.mem k') cs fW=some (gz,gJ):=by simp[aR,Ne.symm E,Ne.symm ab,gm]
   obtain⟨ex,hex,Hg,lh,Yk⟩:=h.ok.b4.at_ gm
   obtain⟨aB,rC⟩:=AX (w1:=w) (m':=.ref k' (bp st.mem k') sz off len) ok.b4 rB Z (by simp) (λaz b v eb dr ai=>by
    rw[eR _ _ (Ne.symm ab),eR _ _ (Ne.symm E)] at eb;rw[hex] at eb
    cases eb;have Q:=h.ok.b4.val gm hex dr Z (by simp) ai
    cases Q with
    |ref eb hgle Q =>
     rw[he] at eb
     cases eb;obtain⟨a,cap,rfl,aM,bl,bz⟩:=Q;refine .ref (eX _ _ _) (bI _) ⟨a,cap,rfl,aM,bl,bz.imp id ?_⟩;rintro⟨dt,rfl,bP⟩;exact⟨dt,rfl,λ_=>bP bM.symm⟩)
   exact⟨_,aB,O,h.ghost (ok.trans rC) λt => .inl rfl⟩
  ·have ok:=cT.vB h.ok.b4 k;have rB:aR st.mem k (bp st.mem k) [] fW=some (gz,gJ):=by simp[aR,Ne.symm a6,gm]
   obtain⟨e,he,bM,aE,U⟩:=h.ok.b4.at_ gm
   obtain⟨aB,rC⟩:=AX (w1:=w) (m':=.M d) ok.b4 rB Z (by simp) (λaz b v eb dr ai=>by
    rw[eR B _ (Ne.symm a6)] at eb;rw[he] at eb
    cases eb;have Q:=h.ok.b4.val gm he dr Z (by simp) ai;exact .M (Hc h.ok.b4 gA ae Q))
   exact⟨_,aB,O,h.ghost (ok.trans rC) λt => .inl rfl⟩
 |many =>
  obtain⟨mem',QJ,O⟩:=O
  have main:∀{mU aU:Mem},GA mU aU->∀B,dq aQ n A b5 c4 a ⟨st.tm,mU⟩ w B->∃aB,dq aQ n A b5 c4 a ⟨st.tm,aU⟩ w aB:=by
   intro mU aU QJ
   induction QJ with
   |refl mem=>exact λB h=>⟨B,h⟩
   | @step mU aU bO R _ aD =>
    intro B h
    have one:∃aB,dq aQ n A b5 c4 a ⟨st.tm,aU⟩ w aB:=by
     cases R with
     |ahQ fW gz gJ i k g sz off len cs k' gm Z vW E G ab =>
      obtain⟨e,he,bM,aE,U⟩:=h.ok.b4.at_ vW;have ok:=cT.move h.ok.b4 vW he G;have rB:aR (aR mU k (bp mU k) []) k' (bp mU k') cs fW=some (gz,gJ):=by simp[aR,Ne.symm E,Ne.symm ab,gm]
      obtain⟨ex,hex,Hg,lh,Yk⟩:=h.ok.b4.at_ gm
      obtain⟨aB,rC⟩:=AX (w1:=w) (m':=.ref k' (bp mU k') sz off len) ok.b4 rB Z (by simp) (λaz b v eb dr ai=>by
       rw[eR _ _ (Ne.symm ab),eR _ _ (Ne.symm E)] at eb;rw[hex] at eb
       cases eb;have Q:=h.ok.b4.val gm hex dr Z (by simp) ai
       cases Q with
       |ref eb hgle Q =>
        rw[he] at eb
        cases eb;obtain⟨a,cap,rfl,aM,bl,bz⟩:=Q;refine .ref (eX _ _ _) (bI _) ⟨a,cap,rfl,aM,bl,bz.imp id ?_⟩;rintro⟨dt,rfl,bP⟩;exact⟨dt,rfl,λ_=>bP bM.symm⟩)
      exact⟨aB,h.ghost (ok.trans rC) λt => .inl rfl⟩
     |ahR fW gz gJ i k g off cs k' gm Z vW E G ab =>
      obtain⟨e,he,bM,aE,U⟩:=h.ok.b4.at_ vW;have ok:=cT.move h.ok.b4 vW he G;have rB:aR (aR mU k (bp mU k) []) k' (bp mU k') cs fW=some (gz,gJ):=by simp[aR,Ne.symm E,Ne.symm ab,gm]
      obtain⟨ex,hex,Hg,lh,Yk⟩:=h.ok.b4.at_ gm
      obtain⟨aB,rC⟩:=AX (w1:=w) (m':=.ptr k' (bp mU k') off) ok.b4 rB Z (by simp) (λaz b v eb dr ai=>by
       rw[eR _ _ (Ne.symm ab),eR _ _ (Ne.symm E)] at eb;rw[hex] at eb
       cases eb;have Q:=h.ok.b4.val gm hex dr Z (by simp) ai
       cases Q with
       |ptr eb hgle Q =>
        rw[he] at eb
        cases eb;obtain⟨dt,rfl,bP⟩:=Q;exact .ptr (eX _ _ _) (bI _) ⟨dt,rfl,λ_=>bP bM.symm⟩)
      exact⟨aB,h.ghost (ok.trans rC) λt => .inl rfl⟩
     |ahS fW gz gJ i k g sz off len cs d gm Z gA a6 ae =>
      have ok:=cT.vB h.ok.b4 k;have rB:aR mU k (bp mU k) [] fW=some (gz,gJ):=by simp[aR,Ne.symm a6,gm]
      obtain⟨e,he,bM,aE,U⟩:=h.ok.b4.at_ gm
      obtain⟨aB,rC⟩:=AX (w1:=w) (m':=.M d) ok.b4 rB Z (by simp) (λaz b v eb dr ai=>by
       rw[eR B _ (Ne.symm a6)] at eb;rw[he] at eb
       cases eb;have Q:=h.ok.b4.val gm he dr Z (by simp) ai;exact .M (Hc h.ok.b4 gA ae Q))
      exact⟨aB,h.ghost (ok.trans rC) λt => .inl rfl⟩
    obtain⟨aB,bS⟩:=one;exact aD aB bS
  obtain⟨aB,bS⟩:=main QJ B h;exact⟨_,aB,O,bS⟩
def erase:eF->eF
 |.skip => .skip
 |.ops l => .ops l
 |.nk l c => .nk l c
 |.seq a b => .seq (erase a) (erase b)
 |.cond c a b => .cond c (erase a) (erase b)
 |.block id c => .block id (erase c)
 |.loop c => .loop (erase c)
 |.exit id => .exit id
 |.ret => .ret
 |.ghost _ c=>erase c
def Yl:fi->Exit
 |.normal => .normal
 |.exit id => .exit id
 |.ret => .ret
def aj0 (P:Program)(n kb:Nat)(own:List Nat)(c:Code):eF->Prop
 |.skip=>c=.skip
 |.ops l=>∃id ops,c=.region id ops false/\ops.toList.mapM (mG P n kb own ops)=some l
 |.nk l hN=>∃id ops,c=.region id ops true/\ops.toList.mapM (mG P n kb own ops)=some l/\pB ops l=true/\hN=lf [] l (fp ops.toList [])
 |.seq x y=>∃a b,c=.seq a b/\oH P n kb own a=some x/\oH P n kb own b=some y
 |.cond x y z=>∃eJ a b,c=.cond eJ a b/\cu eJ=some x/\oH P n kb own a=some y/\oH P n kb own b=some z
 |.block id x=>∃a,c=.block id a/\oH P n kb own a=some x
 |.loop x=>∃a,c=.loop a/\oH P n kb own a=some x
 |.exit id=>c=.exit id
 |.ret=>c=.ret
 |.ghost ..=>False
def xC {c:Code}{m:eF}(h:oH P n kb own c=some m):aj0 P n kb own c m:=by
 cases c<;>simp only[oH,bF,reduceCtorEq,cJ] at h
 case skip=>subst h;rfl
 case region id ops draw =>
  split at h
  ·rename_i l ad
   split at h
   ·rename_i ae;subst ae
    split at h
    ·rename_i dD
     cases h;exact⟨id,ops,rfl,ad,dD,rfl⟩
    ·cases h
   ·rename_i ae
    cases h;exact⟨id,ops,by rw[Bool.not_eq_true] at ae;rw[ae],ad⟩
  ·cases h
 case seq a b =>
  split at h
  ·rename_i x y J af
   cases h;exact⟨a,b,rfl,J,af⟩
  ·cases h
 case cond x a b =>
  split at h
  ·rename_i eJ y z J af aP
   cases h;exact⟨x,a,b,rfl,J,af,aP⟩
  ·cases h
 case block id a =>
  obtain⟨x,J,rfl⟩:=h;exact⟨a,rfl,J⟩
 case loop a =>
  obtain⟨x,J,rfl⟩:=h;exact⟨a,rfl,J⟩
 case exit id=>subst h;rfl
 case ret=>subst h;rfl
def ze (cn:mS P T)(hm:P.follows .mixedOrders=true):∀(LH:eF) (c:Code) (K:fi->a3->Prop) (al:Exit->Act->World->Prop) (st:a3) (a:Act) (w:World) (B:cB),
  oH P n kb own c=some (erase LH)->dq aQ n A b5 c4 a st w B->wp T LH K st->(∀e st a w B,K e st->dq aQ n A b5 c4 a st w B->al (Yl e) a w)->c.wp P al a w
 |.ghost g LH,c,K,al,st,a,w,B,aA,R,h,ey=>by
  obtain⟨bV,aB,O,dE⟩:=ajZ R h;exact ze cn hm LH c K al bV a w aB aA dE O ey
 |.skip,c,K,al,st,a,w,B,aA,R,h,ey=>by
  obtain rfl:=xC aA;exact Go.wp_skip (ey .normal st a w B h R)
 |.exit id,c,K,al,st,a,w,B,aA,R,h,ey=>by
  obtain rfl:=xC aA;exact Go.wp_exit (ey (.exit id) st a w B h R)
 |.ret,c,K,al,st,a,w,B,aA,R,h,ey=>by
  obtain rfl:=xC aA;exact Go.wp_ret (ey .ret st a w B h R)
 |.ops l,c,K,al,st,a,w,B,aA,R,h,ey=>by
  obtain⟨id,ops,rfl,ad⟩:=xC aA;have:=QH (al:=al) (K:=K .normal) cn ad (λst a w B O R=>ey .normal st a w B O R) l 0 st a w B rfl R h;refine Go.wp_region ?_;rw[(mapM_get ad).1,Array.length_toList] at this;rw[List.range_eq_range'];exact this
 |.nk l hN,c,K,al,st,a,w,B,aA,R,h,ey=>by
  obtain⟨id,ops,rfl,ad,ae,rfl⟩:=xC aA;exact ajX cn hm ad ae R h λst a w B O R=>ey .normal st a w B O R
 |.seq x y,c,K,al,st,a,w,B,aA,R,h,ey=>by
  obtain⟨eJ,y',rfl,J,af⟩:=xC aA;refine Go.wp_seq (ze cn hm x eJ _ _ st a w B J R h λe bV cl aj aB O dE=>?_)
  cases e with
  |normal=>exact ze cn hm y y' _ _ bV cl aj aB af dE O ey
  |exit id=>exact ey (.exit id) bV cl aj aB O dE
  |ret=>exact ey .ret bV cl aj aB O dE
 |.cond x y z,c,K,al,st,a,w,B,aA,R,h,ey=>by
  obtain⟨eJ,y',Hh,rfl,J,af,aP⟩:=xC aA;have ai:=R.jy eJ x J;simp only[wp] at h
  split at h
  ·rename_i t bx;rw[bx] at ai;refine Go.wp_cond ai.yY ?_
   cases t with
   |true=>exact ze cn hm y y' _ _ st a w B af R h ey
   |false=>exact ze cn hm z Hh _ _ st a w B aP R h ey
  ·cases h
 |.block id x,c,K,al,st,a,w,B,aA,R,h,ey=>by
  obtain⟨eJ,rfl,J⟩:=xC aA;refine Go.wp_block (ze cn hm x eJ _ _ st a w B J R h λe bV cl aj aB O dE=>?_)
  cases e with
  |normal=>exact ey .normal bV cl aj aB O dE
  |exit j =>
   simp only[Yl,Exit.inBlock];simp only at O
   split
   ·rename_i aa;rw[aq aa] at O;exact ey .normal bV cl aj aB O dE
   ·rename_i aa;rw[ar aa] at O;exact ey (.exit j) bV cl aj aB O dE
  |ret=>exact ey .ret bV cl aj aB O dE
 |.loop x,c,K,al,st,a,w,B,aA,R,h,ey=>by
  obtain⟨eJ,rfl,J⟩:=xC aA;obtain⟨AF,μ,mg,LI⟩:=h
  have key:∀m (st:a3) (a:Act) (w:World) (B:cB),μ st<m->AF st->dq aQ n A b5 c4 a st w B->Code.rounds P eJ al m a w:=by
   intro m
   induction m with
   |zero=>intro st a w B uo;omega
   |succ m aD =>
    intro st a w B uo mg R;refine ze cn hm x eJ _ _ st a w B J R (LI st mg) λe bV cl aj aB O dE=>?_
    cases e with
    |normal=>exact aD bV cl aj aB (by have:=O.2;omega) O.1 dE
    |exit id=>exact ey (.exit id) bV cl aj aB O dE
    |ret=>exact ey .ret bV cl aj aB O dE
  exact wp_loop_rounds (μ st+1) (key _ st a w B (Nat.lt_succ_self _) mg R)
end Go.Mini
namespace Go.Mini
open Go
variable {P:Program} {aQ:Option I} {T:bj} {A:Nat->Prop} {b5 w:World} {c4 B:cB} {mem:Mem} {n kb:Nat} {own:List Nat}
def aj1 {a:Act}{st:a3}{r:ResultVar}{b4:jI}{m:I}(R:dq aQ n A b5 c4 a st w B)(aA:vA P r=some b4)(h:C4 st b4=some m):
  ∃v,((match r with
   |.tmp t=>pure (a.tmps.getD t undef)
   |.cell b t=>do loadVar t (<-asAddr (a.tmps.getD b undef)):Sem Value)).run P w=.ok v w/\aN w (bb A B) B m v:=by
 cases r with
 |tmp t =>
  simp only[vA,bF] at aA;subst aA;simp only[C4,bF] at h;subst h;exact⟨_,rfl,R.tm t⟩
 |cell b t =>
  simp only[vA] at aA
  split at aA
  ·rename_i s g dz tX;simp only[bF] at aA;subst aA;obtain⟨cW,off,ms,vs,ai,ad,b0,fX,Q⟩:=W3 R.ok.b4 (R.tm b) h;obtain⟨u,E,G⟩:=PY (P:=P) dz tX ad b0 fX Q;refine⟨u,?_,G⟩;have:a.tmps.getD b undef=.pointer (some ⟨cW,off,none⟩):=ai;simp only[this,asAddr,Sem.run_bind,Sem.run_pure,Result.andThen_ok];exact E
  ·cases aA
def Ym {a:Act}{st:a3}(R:dq aQ n A b5 c4 a st w B):∀{l:List ResultVar} {rs:List jI} {ms:List I},l.mapM (vA P)=some rs->rs.mapM (C4 st)=some ms ->
  ∃vs:List Value,(l.mapM λr=>((match r with
   |.tmp t=>pure (a.tmps.getD t undef)
   |.cell b t=>do loadVar t (<-asAddr (a.tmps.getD b undef)):Sem Value))).run P w=.ok vs w/\ck w (bb A B) B ms vs
 | [],rs,ms,E,G=>by
  simp at E;subst E;simp at G;subst G;exact⟨[],rfl,ck.nil⟩
 |r::l,rs,ms,E,G=>by
  simp only[ma,fy,fE,dd,bF] at E;obtain⟨x,J,xs,zf,rfl⟩:=E;simp only[ma,fy,fE,dd,bF] at G;obtain⟨m,hm,axY,aT,rfl⟩:=G;obtain⟨v,ai,Q⟩:=aj1 R J hm;obtain⟨vs,aY,b0⟩:=Ym R zf aT;refine⟨v::vs,?_,ck.cons Q b0⟩;simp only[ma,Sem.run_bind,ai,Result.andThen_ok,aY,Sem.run_pure]
def LJ {a:Act}{st:a3}{fn:Func}{rs:List jI}{m:I}(R:dq aQ n A b5 c4 a st w B)(aA:fn.results.toList.mapM (vA P)=some rs)(h:jd st rs=some m):
  ∃v,(results fn a.tmps).run P w=.ok v w/\aN w (bb A B) B m v:=by
 unfold jd at h
 have main:∀ms,rs.mapM (C4 st)=some ms->∃vs:List Value,(results fn a.tmps).run P w=.ok (if h:vs.toArray.size=1 then vs.toArray[0] else .tuple vs.toArray) w/\ck w (bb A B) B ms vs:=by
  intro ms aT;obtain⟨vs,E,G⟩:=Ym R aA aT;refine⟨vs,?_,G⟩;unfold results;rw[Array.mapM_eq_mapM_toList,map_eq_pure_bind];simp only[Sem.run_bind,Sem.run_pure];have Dr:=E;generalize aL:(List.mapM _ fn.results.toList:Sem (List Value))=q;have:q.run P w=.ok vs w:=by rw[<-aL];exact Dr
  rw[this]
  rfl
 split at h
 ·rename_i x aT;simp only[bF] at h;subst h;obtain⟨vs,E,G⟩:=main _ aT;have ad:=G.1;simp at ad;obtain⟨v,rfl⟩:=Yn.1 ad;exact⟨v,E,G.2 0 _ v rfl rfl⟩
 ·rename_i ms a6 aT;simp only[bF] at h;subst h;obtain⟨vs,E,G⟩:=main _ aT;have ad:=G.1;refine⟨_,E,?_⟩
  have:¬ (vs.toArray.size=1):=λh=>by
   have bS:(D ms)=1:=by rw[<-ad];simpa using h
   obtain⟨x,rfl⟩:=Yn.1 bS;exact a6 x rfl
  rw[dif_neg this];exact .dc ad G.2
 ·cases h
def QK (mf:bN)(Post:I->Mem->Prop):fi->a3->Prop
 |.exit _,_=>False
 |_,st=>∃m,jd st mf.res=some m/\Post m st.mem
def Hi (cn:mS P T)(hm:P.follows .mixedOrders=true){f:FuncId}{fn:Func}{mf:bN}(ag:P.funcs[f]?=some fn)(aA:pC P kb own fn=some { mf with body:=erase mf.body }){args:List I}(iB:(D args)<=mf.n)
  {Post:I->Mem->Prop} {K:fi->a3->Prop} (et:∀e st,K e st->QK mf Post e st) (h:wp T mf.body K ⟨jK args,mem⟩) {A:Nat->Prop} {w:World} {B:cB} {vs:List Value} (a4:dj A w B mem) (ai:ck w (bb A B) B args vs) :
  Calls P f vs.toArray w λe aj=>∃v m mem' aB,e=.returned v/\cT A w B aj aB mem'/\aN aj (bb A aB) aB m v/\Post m mem':=by
 unfold pC at aA
 split at aA
 ·cases aA
 ·rename_i c U
  split at aA
  ·rename_i b rs Z lX;simp only[bF,bN.mk.injEq] at aA;obtain⟨aE,axZ,ll,aj2⟩:=aA;have dz:(D vs)=D args:=ai.1;refine calls_of_wp ag U ?_;rw[aj2] at Z;refine ze (aQ:=none) cn hm mf.body c K _ ⟨jK args,mem⟩ _ w B Z ⟨.refl a4,λs=>?_,?_,rfl⟩ h λe st a aj aB y4 R=>?_
   ·simp only[jK,Act.eval,Array.getD_eq_getD_getElem?];rcases fF s (D vs) with av|bM
    ·have E:args[s]?=some args[s]:=bw (by omega)
     have G:(vs.toArray++Array.replicate (fn.ntmps-vs.toArray.size) undef)[s]?=some vs[s]:=by
      rw[Array.getElem?_append_left (by simpa using av)];simp[av]
     rw[E,G];exact ai.2 s _ _ E (bw av)
    ·rw[List.getElem?_eq_none (by omega),Array.getElem?_append_right (by simpa using bM)]
     have:((Array.replicate (fn.ntmps-vs.toArray.size) undef)[s-vs.toArray.size]?).getD undef=undef:=by
      cases aL:(Array.replicate (fn.ntmps-vs.toArray.size) undef)[s-vs.toArray.size]? with
      |none=>rfl
      |some u =>
       have:=Array.mem_of_getElem? aL;simp at this;simp[this.2]
     rw[this];exact .no
   ·simp;omega
   ·have O:=et e st y4
    cases e with
    |exit id=>cases O
    |normal =>
     obtain⟨m,uo,aF⟩:=O;obtain⟨v,dY,iz⟩:=LJ R lX (by rw[ll];exact uo);exact⟨R.vM,v,dY,v,m,_,aB,rfl,R.ok,iz,aF⟩
    |ret =>
     obtain⟨m,uo,aF⟩:=O;obtain⟨v,dY,iz⟩:=LJ R lX (by rw[ll];exact uo);exact⟨R.vM,v,dY,v,m,_,aB,rfl,R.ok,iz,aF⟩
  ·cases aA
inductive c8 where
 |same (r:Data)
 |own (sz:Nat) (es:List (List Data))
def xD (w:World)(ax:Nat->Prop)(ds:List Data)(vs:List Value):Prop:=D vs=D ds/\∀(i:Nat) (d:Data) (v:Value),ds[i]?=some d->vs[i]?=some v->Den w ax d v
def aj3 (w aj:World)(ax:Nat->Prop):c8->Value->Prop
 |.same r,v=>Den aj ax r v
 |.own sz es,v=>xt w aj ax sz es v
structure h7 (P:Program) (f:FuncId) (bK:List Data->Option c8):Prop where
 real:Real P f
 run:∀ds r,bK ds=some r->∀(A:Nat->Prop) (w:World) (vs:List Value),(∀b,A b->b<w.heap.size)->CS w->xD w A ds vs ->
  Calls P f vs.toArray w λe aj=>∃v,e=.returned v/\Fr (λ_=>False) w aj/\aj3 w aj A r v
def Yo:c8->I->Mem->Prop
 |.same r,m,mem=>∃d,cC d mem m=some r
 |.own sz es,m,mem=>(m=.nil/\es=[])\/∃k g len cs ds d,m=.ref k g sz 0 len/\mem k=some (g,cs)/\len*sz<=D cs/\(cs.take (len*sz)).mapM (cC d (kill mem k))=some ds/\es=chunk sz len ds
def qw (sz:Nat)(mem:Mem):I->Option (List (List Data))
 |.nil=>some []
 |.ref k g dC off len=>if dC=sz/\off=0 then (match mem k with
  |some (cd,cs)=>if cd=g/\len*sz<=(D cs) then ((cs.take (len*sz)).mapM (cC 6 (kill mem k))).map (chunk sz len) else none
  |none=>none) else none
 |_=>none
def xE (res:List jI):c8->a3->Prop
 |.same r,st=>(jd st res).bind (cC 6 st.mem)=some r
 |.own sz es,st=>(jd st res).bind (qw sz st.mem)=some es
def uq (res:List jI)(r:c8):fi->a3->Prop
 |.exit _,_=>False
 |.normal,st=>xE res r st
 |.ret,st=>xE res r st
def Yp {mf:bN}{r:c8}{st:a3}(h:xE mf.res r st):∃m,jd st mf.res=some m/\Yo r m st.mem:=by
 cases r with
 |same r =>
  simp only[xE,dd] at h;obtain⟨m,E,G⟩:=h;exact⟨m,E,6,G⟩
 |own sz es =>
  simp only[xE,dd] at h;obtain⟨m,E,G⟩:=h;refine⟨m,E,?_⟩
  cases m<;>simp only[qw,bF,reduceCtorEq] at G
  ·exact .inl ⟨rfl,G.symm⟩
  ·split at G
   ·rename_i Z;obtain⟨rfl,rfl⟩:=Z
    split at G
    ·rename_i cd cs O
     split at G
     ·rename_i aC;obtain⟨rfl,hle⟩:=aC;simp only[cJ] at G;obtain⟨ds,e3,rfl⟩:=G;exact .inr ⟨_,_,_,cs,ds,6,rfl,O,hle,e3,rfl⟩
     ·cases G
    ·cases G
   ·cases G
def aj4 {mf:bN}{r:c8}{e:fi}{st:a3}(h:uq mf.res r e st):QK mf (Yo r) e st:=by
 cases e with
 |exit id=>exact h
 |normal=>exact Yp h
 |ret=>exact Yp h
def xF (b:Nat):¬ ni (λ_=>none) b:=fun⟨_,_,h,_⟩=>by cases h
def Yq {w aj:World}{aB:cB}{mem':Mem}{k:Key}{g sz len d:Nat}{cs:List I}{vS:List Data}{v:Value}(ji:∀b,¬ ni B b)(R:cT A w B aj aB mem')(ai:aN aj (bb A aB) aB (.ref k g sz 0 len) v)(O:mem' k=some (g,cs))(hle:len*sz<=D cs)
  (e3:(cs.take (len*sz)).mapM (cC d (kill mem' k))=some vS):xt w aj A sz (chunk sz len vS) v:=by
 obtain⟨E,G⟩:=mapM_get e3;have vX:(D vS)=len*sz:=by rw[E,hg];omega
 refine⟨Li sz len vS vX,?_⟩;rw[Lh,Lj sz len vS vX]
 cases ai with
 |ref he hgle Q =>
  obtain⟨e,dW,bM,aE,U⟩:=R.b4.at_ O;rw[dW] at he;obtain rfl:=mN he;obtain⟨a,cap,rfl,ab,aM,bl⟩:=Q;refine⟨a,cap,rfl,ab,aM,bl.imp id ?_⟩;rintro⟨b,rfl,bz⟩;obtain⟨bP,ct,gL⟩:=bz bM.symm;obtain⟨mL,aj5,a1,aP,GN,ue⟩:=U b bP gL;obtain⟨aj6,lY⟩:=kill_shut R.b4 O dW bP;refine⟨b,mL,aj5,rfl,?_,a1,by simpa [aP] using ct,λi x J=>?_⟩
  ·rcases R.fresh b ⟨k,_,dW,bP⟩ with h|h
   ·exact (ji b h).elim
   ·exact h
  ·have Yr:i<D vS:=(dh.1 J).1;have kN:i<D cs:=by omega
   have ew:(cs.take (len*sz))[i]?=some cs[i]:=by
    rw[xA (by omega)];exact bw kN
   have Hf:i<mL.size:=by omega
   refine⟨mL[i],Array.getElem?_eq_getElem Hf,snap aj6 (λb U=>U) d _ _ x (G i _ x ew J) (lY _ _ (ue.2 i _ _ (bw kN) ?_))⟩;rw[xA kN,Array.getElem?_toList];exact Array.getElem?_eq_getElem Hf
def Ys (cn : mS P T)(hm : P.follows .mixedOrders = true){f : FuncId}{fn : Func}{mf : bN}(ag : P.funcs[f]? = some fn)(ur : (fn.name == "runtime.NumGoroutine") = false)(aA : pC P kb own fn = some { mf with body := erase mf.body })
  {bK:List Data->Option c8} (h:∀ds r,bK ds=some r->(D ds)<=mf.n/\wp T mf.body (uq mf.res r) ⟨jK (ds.map .M),emp⟩):h7 P f bK:=by
 refine⟨?_,λds r e0 A w vs av jk mT=>?_⟩
 ·cases U:fn.body with
  |none=>simp[pC,U] at aA
  |some c=>exact⟨fn,c,ag,U,ur⟩
 ·obtain⟨hlen,xG⟩:=h ds r e0;have a4:dj A w (λ_=>none) emp:=⟨λ_ _=>rfl,λ_ _ _ _ _ h=>(by cases h),λb _ a0=>xF b a0,av,jk,λb _ _ a0=>xF b a0,λ_ _ _ h=>(by cases h)⟩;have eE:∀b,bb A (λ_=>none) b->A b:=λb h=>h.elim (λh=>(xF b h).elim) id;have b0:ck w (bb A λ_=>none) (λ_=>none) (ds.map .M) vs:=ck.M mT.1 λi d v E G=>(mT.2 i d v E G).less eE;refine Calls.mono (Hi cn hm ag aA (by simpa using hlen) (λe st=>aj4) xG a4 b0) λe aj he=>?_;obtain⟨v,m,mem',aB,rfl,R,ai,aF⟩:=he;refine⟨v,rfl,⟨R.fx.os,R.fx.tape,R.fx.output,R.fx.size,λg aC _=>R.fx.block g aC (xF g)⟩,?_⟩
  cases r with
  |same r =>
   obtain⟨d,ae⟩:=aF;exact snap R.b4 (λb U=>U) d m v r ae ai
  |own sz es =>
   rcases aF with ⟨rfl,rfl⟩|⟨k,g,len,cs,vS,d,rfl,O,hle,e3,rfl⟩
   ·cases ai;exact⟨by simp,_,0,rfl,bI _,ej _,.inl rfl⟩
   ·exact Yq xF R ai O hle e3
def scalar:Data->Bool
 |.int _ _=>true
 |.bool _=>true
 |.str _=>true
 |.ql=>true
 |.q8=>true
 |.ay []=>true
 |.dc ds=>ds.attach.all fun⟨d,_⟩=>scalar d
 |.agg ds=>ds.attach.all fun⟨d,_⟩=>scalar d
 |.mE=>true
 |.nh _ d=>scalar d
 |_=>false
def Yt {ax gI:Nat->Prop}{d:Data}{v:Value}(h:scalar d=true)(ae:Den w ax d v):Den w gI d v:=by
 induction ae with
 |int=>exact .int
 |bool=>exact .bool
 |str=>exact .str
 |ql=>exact .ql
 |q8=>exact .q8
 |j6=>exact .j6
 | @ay es b off c sz val ad hm U eE dz Z ae aD =>
  cases es with
  |nil=>exact .j6
  |cons=>simp[scalar] at h
 |ptr=>simp[scalar] at h
 |fn=>simp[scalar] at h
 | @agg cs vs ad ae aD =>
  simp only[scalar,jP,Yu,true_imp_iff,Subtype.forall] at h;exact .agg ad λi d v E G=>aD i d v E G (h d (dM E))
 | @dc cs vs ad ae aD =>
  simp only[scalar,jP,Yu,true_imp_iff,Subtype.forall] at h;exact .dc ad λi d v E G=>aD i d v E G (h d (dM E))
 |nh ae aD=>exact .nh (aD (by simpa [scalar] using h))
 |mE=>exact .mE
def QL {ax:Nat->Prop}:∀(d:Nat) (m:I) (v:Value) (r:Data),cC d emp m=some r->aN w ax B m v->Den w ax r v:=by
 intro d
 induction d with
 |zero =>
  intro m v r h ai
  cases m<;>simp only[cC,bF,reduceCtorEq] at h
  ·subst h;cases ai with|M h=>exact h
  ·subst h;cases ai;exact .j6
 |succ d aD =>
  intro m v r h ai
  have lists:∀(cs:List I) (vs:List Value) (ds:List Data),cs.mapM (cC d emp)=some ds->(D vs)=(D cs)->(∀(i:Nat) (x:I) (u:Value),cs[i]?=some x->vs[i]?=some u->aN w ax B x u) ->
    (D vs)=D ds/\∀(i:Nat) (x:Data) (u:Value),ds[i]?=some x->vs[i]?=some u->Den w ax x u:=by
   intro cs vs ds e3 ad Q;obtain⟨E,G⟩:=mapM_get e3;refine⟨by omega,λi x u J hu=>?_⟩
   have av:i<D cs:=by have:=(dh.1 J).1;omega
   have ew:=bw av;exact aD _ u x (G i _ x ew J) (Q i _ u ew hu)
  cases m<;>simp only[cC,emp,bF,cJ,reduceCtorEq] at h
  case M=>subst h;cases ai with|M h=>exact h
  case nil=>subst h;cases ai;exact .j6
  case dB f cs =>
   obtain⟨ds,e3,rfl⟩:=h
   cases ai with
   |dB ad ae=>obtain⟨E,G⟩:=lists _ _ _ e3 ad ae;exact .fn E G
  case agg cs =>
   obtain⟨ds,e3,rfl⟩:=h
   cases ai with
   |agg ad ae=>obtain⟨E,G⟩:=lists _ _ _ e3 ad ae;exact .agg E G
  case dc cs =>
   obtain⟨ds,e3,rfl⟩:=h
   cases ai with
   |dc ad ae=>obtain⟨E,G⟩:=lists _ _ _ e3 ad ae;exact .dc E G
def LK:c8->fV
 |.same r => .same r
 |.own sz es => .own sz es
def Ds:c8->Option fV
 |.same r=>if scalar r=true then some (.same r) else none
 |.own sz es=>if (es.all λe=>e.all scalar)=true then some (.own sz es) else none
def LL (bK:List Data->Option c8):Option (List Data)->Option fV
 |some ds=>(bK ds).bind Ds
 |none=>none
def Dt (bK:List Data->Option c8):Option (List Data)->Option (List Data)->Option fV
 |some ds,_=>(bK ds).map LK
 |none,x=>LL bK x
def aW (bK:List Data->Option c8)(args:List I)(mem:Mem):Option fV:=Dt bK (args.mapM (cC 6 emp)) (args.mapM (cC 6 mem))
def uu (fI:FuncId->Option (List Data->Option c8)):bj:=λf args mem=>match fI f with
 |some bK=>aW bK args mem
 |none=>none
def Yv {ax:Nat->Prop}{g:I->Option Data}{args:List I}{ds:List Data}{vs:List Value}(h:args.mapM g=some ds)(ai:ck w ax B args vs){gI:Nat->Prop}(ae:∀m v r,g m=some r->aN w ax B m v->Den w gI r v):xD w gI ds vs:=by
 obtain⟨E,G⟩:=mapM_get h;refine⟨by rw[ai.1,E],λi d v kL j8=>?_⟩
 have av:i<D args:=by have:=(dh.1 kL).1;omega
 have zg:=bw av;exact ae _ v d (G i _ d zg kL) (ai.2 i _ v zg j8)
def QM {fI:FuncId->Option (List Data->Option c8)}(h:∀f bK,fI f=some bK->h7 P f bK):mS P (uu fI):=by
 intro f args mem np g4;unfold uu at g4
 split at g4
 ·rename_i bK e0;have h5:=h f bK e0;refine⟨h5.real,λA w B vs a4 ai=>?_⟩;unfold aW at g4
  cases e3:args.mapM (cC 6 emp) with
  |some ds =>
   rw[e3] at g4;simp only[Dt,cJ] at g4;obtain⟨r,Q,rfl⟩:=g4;have Z:=h5.run ds r Q (bb A B) w vs (λb U=>U.elim (λh=>a4.ra h) (a4.lt b)) a4.gl (Yv e3 ai λm v r=>QL 6 m v r)
   cases r with
   |same r=>exact Z
   |own sz es=>exact Z
  |none =>
   rw[e3] at g4;simp only[Dt] at g4
   cases e3:args.mapM (cC 6 mem) with
   |none=>rw[e3] at g4;cases g4
   |some ds =>
    rw[e3] at g4;simp only[LL,dd] at g4;obtain⟨r,Q,ad⟩:=g4;have Z:=h5.run ds r Q (λ_=>False) w vs (λb U=>U.elim) a4.gl (Yv e3 ai λm v r h ai=>snap a4 (λb U=>U.elim) 6 m v r h ai)
    cases r with
    |same r =>
     simp only[Ds] at ad
     split at ad
     ·rename_i R
      cases ad;exact Calls.mono Z λe aj ⟨v,he,c7,ae⟩=>⟨v,he,c7,Yt R ae⟩
     ·cases ad
    |own sz es =>
     simp only[Ds] at ad
     split at ad
     ·rename_i R
      cases ad;refine Calls.mono Z λe aj ⟨v,he,c7,ae⟩=>⟨v,he,c7,?_⟩;obtain⟨E,a,cap,G,ab,aM,bl⟩:=ae;refine⟨E,a,cap,G,ab,aM,bl.imp id ?_⟩;rintro⟨b,vs,T,bz,bP,ct,jj,kq⟩;refine⟨b,vs,T,bz,bP,ct,jj,λi d ae=>?_⟩;obtain⟨u,hu,mT⟩:=kq i d ae;refine⟨u,hu,Yt ?_ mT⟩;have hm:=dM ae;rw[List.mem_flatten] at hm;obtain⟨e,he,aj7⟩:=hm;rw[jP] at R;have:=R e he;rw[jP] at this;exact this d aj7
     ·cases ad
 ·cases g4
end Go.Mini
namespace Go.Mini
open Go
def Du {ι:Type}(T:bj)(cy:ι->a3->Prop)(m:ι->Nat)(i:ι)(K:fi->a3->Prop)(k:List iM):fi->a3->Prop
 |.normal,st=>∃aZ,m aZ<m i/\cy aZ st
 |.exit id,st=>cI T K k (.exit id) st
 |.ret,st=>cI T K k .ret st
@[go_sem] def ax0 {ι:Type}(T:bj)(cy:ι->a3->Prop)(m:ι->Nat)(i:ι)(K:fi->a3->Prop)(k:List iM)(id:Nat)(st:a3):Du T cy m i K k (.exit id) st=cI T K k (.exit id) st:=bf
@[go_sem] def ax1 {ι:Type}(T:bj)(cy:ι->a3->Prop)(m:ι->Nat)(i:ι)(K:fi->a3->Prop)(k:List iM)(st:a3):Du T cy m i K k .ret st=cI T K k .ret st:=bf
@[go_sem] def aj8 {ι:Type}(T:bj)(cy:ι->a3->Prop)(m:ι->Nat)(i:ι)(K:fi->a3->Prop)(k:List iM)(st:a3):Du T cy m i K k .normal st=∃aZ,m aZ<m i/\cy aZ st:=bf
open Classical in
def aj9 {ι:Type}{T:bj}{K:fi->a3->Prop}{k:List iM}{st:a3}{c:eF}(cy:ι->a3->Prop)(m:ι->Nat)(i0:ι)(ak:cy i0 st)(h:∀i st,cy i st->wp T c (cI T (Du T cy m i K k) []) st):
  wp T (.loop c) (cI T K k) st:=by
 have least:∀st,(∃i,cy i st)->∃i,cy i st/\∀j,cy j st->m i<=m j:=by
  intro st ⟨i,L⟩
  have:∀n i,m i=n->cy i st->∃i,cy i st/\∀j,cy j st->m i<=m j:=by
   intro n
   induction n using QN with
   |_ n aD =>
    intro i aE L
    by_cases J:∃j,cy j st/\m j<m i
    ·obtain⟨j,aa,av⟩:=J;exact aD (m j) (by omega) j rfl aa
    ·refine⟨i,L,λj aa=>?_⟩;rcases fF (m j) (m i) with bS|bS
     ·exact absurd ⟨j,aa,bS⟩ J
     ·exact bS
  exact this _ i rfl L
 refine⟨λst=>∃i,cy i st,λst=>if J:∃i,cy i st then m (Dv (least st J)) else 0,⟨i0,ak⟩,λst c6=>?_⟩;have mV:=rD (least st c6);have:=h _ st mV.1
 have O:cI T (Du T cy m (Dv (least st c6)) K k) []=λe bV=>match e with
   |.normal=>(∃i,cy i bV)/\(if J:∃i,cy i bV then m (Dv (least bV J)) else 0)<(if J:∃i,cy i st then m (Dv (least st J)) else 0)
   |e=>cI T K k e bV:=by
  funext e bV
  cases e with
  |normal =>
   simp only[ajc,aj8];apply propext
   constructor
   ·rintro⟨aZ,av,aa⟩;have hex:∃i,cy i bV:=⟨aZ,aa⟩;refine⟨hex,?_⟩;rw[dif_pos hex,dif_pos c6];have:=(rD (least bV hex)).2 aZ aa;omega
   ·rintro⟨hex,av⟩;rw[dif_pos hex,dif_pos c6] at av;exact⟨_,av,(rD (least bV hex)).1⟩
  |exit id=>rfl
  |ret=>rfl
 rw[O] at this;exact this
section
variable {bK:List Data->Option c8} {mem:Mem} {st:a3} {res:List jI}
@[go_sem] def ax2 (ds:List Data)(x:Option (List Data)):Dt bK (some ds) x=(bK ds).map LK:=bf
@[go_sem] def ax3 (x:Option (List Data)):Dt bK none x=LL bK x:=bf
@[go_sem] def ax4 (ds:List Data):LL bK (some ds)=(bK ds).bind Ds:=bf
@[go_sem] def ax5 (r:Data):LK (.same r)=.same r:=bf
@[go_sem] def ax6 (sz:Nat)(es:List (List Data)):LK (.own sz es)=.own sz es:=bf
@[go_sem] def ax7 (r:Data):Ds (.same r)=if scalar r=true then some (.same r) else none:=bf
@[go_sem] def aka (n:Nat)(d:Data):cC n mem (.M d)=some d:=by cases n<;>rfl
@[go_sem] def ax8 (n:Nat):cC n mem .nil=some (.ay []):=by cases n<;>rfl
@[go_sem] def ax9 (n:Nat)(cs:List I):cC (n+1) mem (.agg cs)=(cs.mapM (cC n mem)).map .agg:=bf
@[go_sem] def aya (n:Nat)(cs:List I):cC (n+1) mem (.dc cs)=(cs.mapM (cC n mem)).map .dc:=bf
@[go_sem] def ayb (n:Nat)(f:FuncId)(cs:List I):cC (n+1) mem (.dB f cs)=(cs.mapM (cC n mem)).map (.fn f):=bf
@[go_sem] def ayc (r:c8)(id:Nat):uq res r (.exit id) st=False:=bf
@[go_sem] def ayd (r:c8):uq res r .ret st=xE res r st:=bf
@[go_sem] def aye (r:c8):uq res r .normal st=xE res r st:=bf
@[go_sem] def ayf (r:Data):xE res (.same r) st=((jd st res).bind (cC 6 st.mem)=some r):=bf
@[go_sem] def ayg (sz:Nat)(es:List (List Data)):xE res (.own sz es) st=((jd st res).bind (qw sz st.mem)=some es):=bf
end
@[go_sem] def ayh (x:Bool):Lp (.M (.bool x)) true=some x:=by cases x<;>rfl
@[go_sem] def ayi (x:Bool):Lp (.M (.bool x)) false=some (!x):=by cases x<;>rfl
attribute [go_sem] hi cE List.getElem?_cons_zero List.getElem?_cons_succ jt ln oO QO LM zh jQ Option.map_none kM
 ma Yw fy fE jU lo List.drop_succ_cons List.drop_nil List.take_nil fP h8 xH xI rE sO sP iD jV h9 Dw List.all_nil true_and and_true dm bne
section
variable {T:bj} {K:fi->a3->Prop} {k:List iM} {st:a3}
def akb {x:Bool}{i:bh}{r:List bh}(E:x=false->pL T K k (some true) i r st)(G:x=true->pL T K k (some false) i r st):pL T K k (some (!x)) i r st:=by
 cases x
 ·exact E rfl
 ·exact G rfl
def akc {x:Bool}{i:bh}{r:List bh}(E:x=true->pL T K k (some true) i r st)(G:x=false->pL T K k (some false) i r st):pL T K k (some x) i r st:=by
 cases x
 ·exact G rfl
 ·exact E rfl
def akd {x:Bool}{n:Nat}{i:bh}{r:List bh}{c:List (List Nat)}{rec:Rec}(E:x=false->pM T K k n (some true) i r c rec st)(G:x=true->pM T K k n (some false) i r c rec st):pM T K k n (some (!x)) i r c rec st:=by
 cases x
 ·exact E rfl
 ·exact G rfl
def ake {x:Bool}{n:Nat}{i:bh}{r:List bh}{c:List (List Nat)}{rec:Rec}(E:x=true->pM T K k n (some true) i r c rec st)(G:x=false->pM T K k n (some false) i r c rec st):pM T K k n (some x) i r c rec st:=by
 cases x
 ·exact G rfl
 ·exact E rfl
def akf {x:Bool}{a b:eF}(E:x=false->oM T K k (.M (.bool true)) a b st)(G:x=true->oM T K k (.M (.bool false)) a b st):oM T K k (.M (.bool (!x))) a b st:=by
 cases x
 ·exact E rfl
 ·exact G rfl
def akg {x:Bool}{a b:eF}(E:x=true->oM T K k (.M (.bool true)) a b st)(G:x=false->oM T K k (.M (.bool false)) a b st):oM T K k (.M (.bool x)) a b st:=by
 cases x
 ·exact G rfl
 ·exact E rfl
end
class AY (bc:Prop) (A B:outParam Prop):Prop where
 go:A->B->bc
def an {bc A B:Prop}[s:AY bc A B](a:A)(b:B):bc:=s.go a b
def ao {bc:Prop}(h:true=true->bc):bc:=h rfl
instance {T K k i r st} {x:Bool}:AY (pL T K k (some x) i r st) (x=true->pL T K k (some true) i r st) (x=false->pL T K k (some false) i r st):=⟨akc⟩
instance {T K k i r st} {x:Bool}:AY (pL T K k (some (!x)) i r st) (x=false->pL T K k (some true) i r st) (x=true->pL T K k (some false) i r st):=⟨akb⟩
instance {T K k st a b} {x:Bool}:AY (oM T K k (.M (.bool x)) a b st) (x=true->oM T K k (.M (.bool true)) a b st) (x=false->oM T K k (.M (.bool false)) a b st):=⟨akg⟩
instance {T K k st a b} {x:Bool}:AY (oM T K k (.M (.bool (!x))) a b st) (x=false->oM T K k (.M (.bool true)) a b st) (x=true->oM T K k (.M (.bool false)) a b st):=⟨akf⟩
instance {T K k n i r c rec st} {x:Bool}:AY (pM T K k n (some x) i r c rec st) (x=true->pM T K k n (some true) i r c rec st) (x=false->pM T K k n (some false) i r c rec st):=⟨ake⟩
instance {T K k n i r c rec st} {x:Bool}:AY (pM T K k n (some (!x)) i r c rec st) (x=false->pM T K k n (some true) i r c rec st) (x=true->pM T K k n (some false) i r c rec st):=⟨akd⟩
attribute [go_sem] reduceIte Nat.reduceEqDiff Yx Nat.reduceSub QP Nat.reduceLeDiff reduceCtorEq Nat.reduceLT Nat.reduceBEq Int.reduceEq
attribute [go_sem] dm
def Hj {ι:Type}(T:bj)(fU:List Nat)(oP:List Key)(vs:List I)(ms:List (Option (Nat×List I)))(cy:ι->(Nat->I)->Mem->Prop)(m:ι->Nat)(i:ι)(K:fi->a3->Prop)(k:List iM):fi->a3->Prop
 |.normal,st=>∃aZ,m aZ<m i/\fU.map st.tm=vs/\oP.map st.mem=ms/\cy aZ st.tm st.mem
 |.exit id,st=>cI T K k (.exit id) st
 |.ret,st=>cI T K k .ret st
section
variable {ι:Type} (T:bj) (fU:List Nat) (oP:List Key) (vs:List I) (ms:List (Option (Nat×List I))) (cy:ι->(Nat->I)->Mem->Prop) (m:ι->Nat) (i:ι) (K:fi->a3->Prop) (k:List iM)
@[go_sem] def ayj (id:Nat)(st:a3):Hj T fU oP vs ms cy m i K k (.exit id) st=cI T K k (.exit id) st:=bf
@[go_sem] def ayk (st:a3):Hj T fU oP vs ms cy m i K k .ret st=cI T K k .ret st:=bf
@[go_sem] def ayl (st:a3):Hj T fU oP vs ms cy m i K k .normal st=∃aZ,m aZ<m i/\fU.map st.tm=vs/\oP.map st.mem=ms/\cy aZ st.tm st.mem:=bf
end
def du {ι:Type}{T:bj}{K:fi->a3->Prop}{k:List iM}{Dx:Nat->I}{gM:Mem}{c:eF}(fU:List Nat)(oP:List Key)(cy:ι->(Nat->I)->Mem->Prop)(m:ι->Nat)(i0:ι)(ak:cy i0 Dx gM)
  (h:∀vs ms,fU.map Dx=vs->oP.map gM=ms->∀i tm mem,fU.map tm=vs->oP.map mem=ms->cy i tm mem->wp T c (cI T (Hj T fU oP vs ms cy m i K k) []) ⟨tm,mem⟩) :
  wp T (.loop c) (cI T K k) ⟨Dx,gM⟩:=by
 refine aj9 (λi st=>fU.map st.tm=fU.map Dx/\oP.map st.mem=oP.map gM/\cy i st.tm st.mem) m i0 ⟨rfl,rfl,ak⟩ ?_;rintro i ⟨tm,mem⟩ ⟨E,G,ab⟩;have:=h _ _ rfl rfl i tm mem E G ab
 have O:cI T (Hj T fU oP (fU.map Dx) (oP.map gM) cy m i K k) []=cI T (Du T (λi (st:a3)=>fU.map st.tm=fU.map Dx/\oP.map st.mem=oP.map gM/\cy i st.tm st.mem) m i K k) []:=by
  funext e bV
  cases e<;>rfl
 rw[O] at this;exact this
def wp_mono {T:bj}:∀(c:eF) (K ih:fi->a3->Prop),(∀e st,K e st->ih e st)->∀st,wp T c K st->wp T c ih st:=by
 intro c
 induction c with
 |skip=>exact λK ih h st=>h _ _
 |ops l =>
  intro K ih h st hw
  have:∀(l:List bh) (K ih:a3->Prop),(∀st,K st->ih st)->∀st,vy T K l st->vy T ih l st:=by
   intro l
   induction l with
   |nil=>exact λK ih h st=>h st
   |cons i r aD =>
    intro K ih h st hw;unfold vy at hw ⊢
    split
    ·rename_i aC;rw[aC] at hw;exact hw
    ·rename_i g aC;rw[aC] at hw;simp only at hw ⊢
     split
     ·rename_i lj;rw[aq lj] at hw
      have pI:∀(K ih:a3->Prop),(∀st,K st->ih st)->fC T K i st->fC T ih i st:=by
       intro K ih h hw
       have Z:∀d f args,sC T K st d f args->sC T ih st d f args:=by
        intro d f args hw;unfold sC at hw ⊢
        split
        ·rename_i a1;rw[a1] at hw;exact h _ hw
        ·rename_i a1;rw[a1] at hw;exact h _ hw
        ·rename_i a1;rw[a1] at hw;exact λr mem' Q=>h _ (hw r mem' Q)
        ·rename_i a1;rw[a1] at hw;exact h _ hw
        ·rename_i a1;rw[a1] at hw;exact h _ hw
        ·rename_i a1;rw[a1] at hw;exact hw
       unfold fC at hw ⊢
       split
       ·rename_i a1;rw[a1] at hw;exact Z _ _ _ hw
       ·rename_i a1;rw[a1] at hw
        simp only at hw
        split
        ·rename_i nj;rw[nj] at hw
         simp only at hw
         split
         ·rename_i R;rw[aq R] at hw;exact h _ hw
         ·rename_i R;rw[ar R] at hw;exact hw
        ·rename_i nj
         split at hw
         ·rename_i dC es QQ;exact (nj dC es QQ).elim
         ·exact hw
       ·rename_i a1;rw[a1] at hw
        simp only at hw
        split
        ·rename_i nj;rw[nj] at hw;exact Z _ _ _ hw
        ·rename_i nj;rw[nj] at hw;exact Z _ _ _ hw
        ·rename_i nj QQ
         split at hw
         ·rename_i QR;exact (nj _ _ QR).elim
         ·rename_i QR;exact (QQ _ _ QR).elim
         ·exact hw
       ·rename_i a1;rw[a1] at hw
        simp only at hw
        split
        ·rename_i nj;rw[nj] at hw;exact λb U=>h _ (hw b U)
        ·rename_i nj;rw[nj] at hw;exact hw
       ·rename_i E G ab aM
        split at hw
        ·rename_i a1;exact (E _ _ a1).elim
        ·rename_i a1;exact (G _ _ _ _ a1).elim
        ·rename_i a1;exact (ab _ _ a1).elim
        ·rename_i a1;exact (aM _ _ a1).elim
        ·split
         ·rename_i a1;rw[a1] at hw;exact h _ hw
         ·rename_i a1;rw[a1] at hw;exact hw
      exact pI _ _ (aD _ _ h) hw
     ·rename_i lj;rw[ar lj] at hw;exact aD _ _ h _ hw
  exact this l _ _ (λst=>h .normal st) st hw
 |nk l c =>
  intro K ih h st hw
  have:∀(l:List bh) (n:Nat) (cs:List (List Nat)) (rec:Rec) (K ih:a3->Prop),(∀st,K st->ih st)->∀st,sD T K n l cs rec st->sD T ih n l cs rec st:=by
   intro l
   induction l with
   |nil=>exact λn cs rec K ih h st=>h st
   |cons i r aD =>
    intro n cs rec K ih h st hw;unfold sD at hw ⊢
    split
    ·rename_i aC;rw[aC] at hw;exact hw
    ·rename_i g aC;rw[aC] at hw;simp only at hw ⊢
     split
     ·rename_i lj;rw[aq lj] at hw
      split
      ·rename_i m e R;rw[R] at hw;exact⟨hw.1,aD _ _ _ _ _ h _ hw.2⟩
      ·rename_i R;rw[R] at hw;exact hw
     ·rename_i lj;rw[ar lj] at hw;exact aD _ _ _ _ _ h _ hw
  exact this l 0 c _ _ _ (λst=>h .normal st) st hw
 |seq a b iha ihb =>
  intro K ih h st hw;refine iha _ _ (λe bV a1=>?_) st hw
  cases e with
  |normal=>exact ihb _ _ h _ a1
  |exit id=>exact h _ _ a1
  |ret=>exact h _ _ a1
 |cond c a b iha ihb =>
  intro K ih h st hw;unfold wp at hw ⊢
  split
  ·rename_i t Z;rw[Z] at hw;simp only at hw
   split
   ·rename_i bx;rw[aq bx] at hw;exact iha _ _ h _ hw
   ·rename_i bx;rw[ar bx] at hw;exact ihb _ _ h _ hw
  ·rename_i J
   split at hw
   ·rename_i Z;exact (J _ Z).elim
   ·exact hw
 |block id c aD =>
  intro K ih h st hw;refine aD _ _ (λe bV a1=>?_) st hw
  cases e with
  |normal=>exact h _ _ a1
  |exit j =>
   simp only at a1 ⊢
   split
   ·rename_i aa;rw[aq aa] at a1;exact h _ _ a1
   ·rename_i aa;rw[ar aa] at a1;exact h _ _ a1
  |ret=>exact h _ _ a1
 |loop c aD =>
  intro K ih h st hw;obtain⟨AF,μ,ak,mg⟩:=hw;refine⟨AF,μ,ak,λst c6=>aD _ _ (λe bV a1=>?_) _ (mg st c6)⟩
  cases e with
  |normal=>exact a1
  |exit id=>exact h _ _ a1
  |ret=>exact h _ _ a1
 |exit id=>exact λK ih h st=>h _ _
 |ret=>exact λK ih h st=>h _ _
 |ghost g c aD =>
  intro K ih h st hw
  have:∀(K ih:a3->Prop),(∀st,K st->ih st)->lQ K st g->lQ ih st g:=by
   intro K ih h hw;unfold lQ at hw
   repeat' split at hw
   all_goals first
    |exact hw.elim
    |exact⟨hw.choose,hw.choose_spec.1,h _ hw.choose_spec.2⟩
    |(
      rcases hw with hw|⟨fW,gz,gJ,i,k,g,sz,off,len,cs,k',E,G,ab,aM,bl,bz,hw⟩|⟨fW,gz,gJ,i,k,g,sz,off,len,cs,d,E,G,ab,aM,bl,bz,hw⟩
      ·exact .inl (h _ hw)
      ·exact .inr (.inl ⟨fW,gz,gJ,i,k,g,sz,off,len,cs,k',E,G,ab,aM,bl,bz,h _ hw⟩)
      ·exact .inr (.inr ⟨fW,gz,gJ,i,k,g,sz,off,len,cs,d,E,G,ab,aM,bl,bz,h _ hw⟩))
    |(
      have bS:=h _ hw;clear hw h;unfold lQ
      simp_all)
  exact this _ _ (aD _ _ h) hw
def Dy (T:bj)(K:fi->a3->Prop)(k:List iM)(al:a3->Prop):fi->a3->Prop
 |.normal,st=>al st
 |.exit id,st=>cI T K k (.exit id) st
 |.ret,st=>cI T K k .ret st
@[go_sem] def aym {T:bj}{K:fi->a3->Prop}{k:List iM}{al:a3->Prop}(st:a3):Dy T K k al .normal st=al st:=bf
@[go_sem] def ayn {T:bj}{K:fi->a3->Prop}{k:List iM}{al:a3->Prop}(id:Nat)(st:a3):Dy T K k al (.exit id) st=cI T K k (.exit id) st:=bf
@[go_sem] def ayo {T:bj}{K:fi->a3->Prop}{k:List iM}{al:a3->Prop}(st:a3):Dy T K k al .ret st=cI T K k .ret st:=bf
def Yy {T:bj}{K:fi->a3->Prop}{k:List iM}{c a:eF}{st:a3}(al:a3->Prop)(a2:wp T a (cI T (Dy T K k al) []) st)(Z:∀bV,al bV->wp T c (cI T K k) bV):wp T a (cI T K (.code c::k)) st:=by
 refine wp_mono a _ _ (λe bV a1=>?_) st a2
 cases e with
 |normal=>exact Z bV a1
 |exit id=>exact a1
 |ret=>exact a1
def akh {T:bj}{K:fi->a3->Prop}{k:List iM}{x:Bool}{c a b:eF}{st:a3}(al:a3->Prop)(a2:x=true->wp T a (cI T (Dy T K k al) []) st)(U:x=false->wp T b (cI T (Dy T K k al) []) st)
  (Z:∀bV,al bV->wp T c (cI T K k) bV):oM T K (.code c::k) (.M (.bool x)) a b st:=by
 cases x
 ·rw[aje];exact Yy al (U rfl) Z
 ·rw[ajd];exact Yy al (a2 rfl) Z
attribute [go_sem] beq_true beq_false Bool.true_beq Bool.false_beq k9 List.flatten_nil nZ List.headD_cons List.headD_nil List.tail_cons List.tail_nil List.contains_nil List.contains_cons Bool.not_eq_true'
section
variable {T:bj} {K:fi->a3->Prop} {k:List iM} {st:a3}
@[go_sem] def ayp (g:KT)(c:eF):wp T (.ghost g c) (cI T K k) st=lQ (wp T c (cI T K k)) st g:=bf
def QS (K:a3->Prop)(st:a3)(s k sz:Nat):I->Prop
 |.nil=>K ⟨er st.tm s (.ref k (bp st.mem k) sz 0 0),aR st.mem k (bp st.mem k) []⟩
 |_=>False
@[go_sem] def ayq (K:a3->Prop)(s k sz:Nat):lQ K st (.rb s k sz)=QS K st s k sz (st.tm s):=by
 unfold lQ QS;rfl
@[go_sem] def ayr (K:a3->Prop)(s k sz:Nat):QS K st s k sz .nil=K ⟨er st.tm s (.ref k (bp st.mem k) sz 0 0),aR st.mem k (bp st.mem k) []⟩:=bf
end
section
variable {K:a3->Prop} {st:a3}
def aki (fW i k k':Nat){gz:Nat}{gJ:List I}{g sz off len:Nat}{cs:List I}(E:st.mem fW=some (gz,gJ))(G:gJ[i]?=some (.ref k g sz off len))(ab:st.mem k=some (g,cs))(aM:k≠fW)(bl:k'≠k)(bz:k'≠fW)
  (h:K ⟨st.tm,aR (aR (aR st.mem k (bp st.mem k) []) k' (bp st.mem k') cs) fW gz (gJ.set i (.ref k' (bp st.mem k') sz off len))⟩):lQ K st .move :=
 .inr (.inl ⟨fW,gz,gJ,i,k,g,sz,off,len,cs,k',E,G,ab,aM,bl,bz,h⟩)
def Hk (K:a3->Prop)(st:a3)(s k g sz off len:Nat):Option (Nat×List I)->Prop
 |some (cd,cs)=>if cd=g/\rf cs=true then (match cut cs off (len*sz) with
  |some part=>(match part.mapM (cC 0 st.mem) with
   |some ds=>K ⟨er st.tm s (.M (.ay (chunk sz len ds))),kill st.mem k⟩
   |none=>False)
  |none=>False) else False
 |none=>False
def QT (K:a3->Prop)(st:a3)(s:Nat):I->Prop
 |.ref k g sz off len=>Hk K st s k g sz off len (st.mem k)
 |_=>False
@[go_sem] def ays (s:Nat):lQ K st (.freeze s)=QT K st s (st.tm s):=by
 unfold lQ QT;dsimp only
 cases hm:st.tm s with
 |ref k g sz off len=>?_
 |_=>rfl
 dsimp only;unfold Hk
 cases O:st.mem k with
 |none=>rfl
 |some x =>
  obtain⟨cd,cs⟩:=x;simp only
  by_cases Z:cd=g/\rf cs=true
  ·rw[aq Z,aq Z];unfold cC;rw[O];simp only[Z.1,if_true]
   cases vH:cut cs off (len*sz) with
   |none=>rfl
   |some part =>
    simp only
    cases aF:part.mapM (cC 0 st.mem)<;>rfl
  ·rw[ar Z,ar Z]
@[go_sem] def ayt (s k g sz off len:Nat):QT K st s (.ref k g sz off len)=Hk K st s k g sz off len (st.mem k):=bf
@[go_sem] def ayu (mem:Mem)(k:Key):kill mem k=aR mem k (bp mem k) []:=bf
end
open Classical in
def bW {α:Type}(uv:α->List Data)(f:α->Option c8):List Data->Option c8:=λds=>if h:∃a,uv a=ds then f (Dv h) else none
def Yz {α:Type}{uv:α->List Data}{f:α->Option c8}(inj:∀a b,uv a=uv b->a=b)(a:α):bW uv f (uv a)=f a:=by
 have h:∃b,uv b=uv a:=⟨a,rfl⟩;unfold bW;rw[dif_pos h,inj _ _ (rD h)]
def YA {α:Type}{uv:α->List Data}{f:α->Option c8}{ds:List Data}{r:c8}(h:bW uv f ds=some r):∃a,ds=uv a/\f a=some r:=by
 unfold bW at h
 split at h
 ·rename_i J;exact⟨_,(rD J).symm,h⟩
 ·cases h
open Classical in
def cv (c:Prop)(r:c8):Option c8:=if c then some r else none
def YB {c:Prop}(h:c)(r:c8):cv c r=some r:=by unfold cv;rw[aq h]
@[go_sem] def ayv (bK:List Data->Option c8)(args:List I)(mem:Mem):aW bK args mem=Dt bK (args.mapM (cC 6 emp)) (args.mapM (cC 6 mem)):=bf
def map_inj {α β:Type}{f:α->β}(h:∀a b,f a=f b->a=b):∀(l lV:List α),l.map f=lV.map f->l=lV:=by
 intro l
 induction l with
 |nil=>intro lV e;cases lV<;>simp_all
 |cons a r aD =>
  intro lV e
  cases lV with
  |nil=>simp at e
  |cons b C7 =>
   simp only[hi,bo] at e;rw[h _ _ e.1,aD _ e.2]
def Dz (l:List (FuncId×(List Data->Option c8))):FuncId->Option (List Data->Option c8):=λf=>(l.find? λp=>p.1==f).map (·.2)
def xJ {P:Program}{l:List (FuncId×(List Data->Option c8))}(h:∀p∈l,h7 P p.1 p.2):∀f bK,Dz l f=some bK->h7 P f bK:=by
 intro f bK ag;unfold Dz at ag;rw[cJ] at ag;obtain⟨p,aF,rfl⟩:=ag;have E:=List.mem_of_find?_eq_some aF;have G:=List.find?_some aF;have ab:p.1=f:=by simpa using G
 exact ab ▸ h p E
def b7 {P:Program}:∀p∈([]:List (FuncId×(List Data->Option c8))),h7 P p.1 p.2:=by simp
def a8 {P:Program}{f:FuncId}{bK:List Data->Option c8}{l:List (FuncId×(List Data->Option c8))}(h:h7 P f bK)(ad:∀p∈l,h7 P p.1 p.2):∀p∈(f,bK)::l,h7 P p.1 p.2:=by
 intro p aF;rcases hq.1 aF with rfl|aF
 ·exact h
 ·exact ad p aF
def YC {fI:FuncId->Option (List Data->Option c8)}{f:FuncId}{bK:List Data->Option c8}(h:fI f=some bK):uu fI f=aW bK:=by
 funext args mem
 unfold uu;rw[h]
@[go_sem] def ayw (mem:Mem)(k:Key)(z:List I)(b m:Nat)(new:List I):px mem k z b .nil (some (m,new)) =
  if m*b<=140737488355328/\m<=maxLen/\new.all I.one=true then some (.ref k (bp mem k) (D z) 0 m,some (k,bp mem k,new)) else none:=bf
@[go_sem] def ayx (mem:Mem)(k k':Key)(z:List I)(g sz b len m:Nat)(new:List I):px mem k z b (.ref k' g sz 0 len) (some (m,new)) =
  if sz=(D z) then mF k' g sz len b m new (mem k') else none:=by
 unfold px;simp
def a7 {α:Type}(enc:α->List Data)(l:List α):List I:=(l.map enc).flatten.map .M
section
variable {α:Type} {enc:α->List Data} {sz:Nat}
def akj:a7 enc []=[]:=rfl
def uw (a:α)(l:List α):a7 enc (a::l)=(enc a).map .M++a7 enc l:=by simp[a7]
def QU (a b:List α):a7 enc (a++b)=a7 enc a++a7 enc b:=by simp[a7]
def mh (h:∀a,(enc a).length=sz)(l:List α):(a7 enc l).length=D l*sz:=by
 induction l with
 |nil=>simp[a7]
 |cons a r aD=>rw[uw,la,aD,au,h,jt,oF,Nat.one_mul,Nat.add_comm]
def YD (h:∀a,(enc a).length=sz){l:List α}{i:Nat}{a:α}(L:l[i]?=some a):∃p q,a7 enc l=p++((enc a).map .M++q)/\D p=i*sz/\∀b,a7 enc (l.set i b)=p++((enc b).map .M++q):=by
 have av:=(dh.1 L).1;have mi:l[i]=a:=(dh.1 L).2
 have e:l=l.take i++a::l.drop (i+1):=by
  rw[<-mi,<-gK av,Hl]
 refine⟨a7 enc (l.take i),a7 enc (l.drop (i+1)),?_,?_,λb=>?_⟩
 ·conv=>lhs;rw[e]
  rw[QU,uw]
 ·rw[mh h,hg];congr 1;omega
 ·rw[List.set_eq_take_append_cons_drop,aq av,QU,uw]
def Hm (h:∀a,(enc a).length=sz){l:List α}{i:Nat}{a:α}(L:l[i]?=some a){f n:Nat}(ag:f+n<=sz):cut (a7 enc l) (i*sz+f) n=some ((((enc a).map .M).drop f).take n):=by
 obtain⟨p,q,e,aF,-⟩:=YD h L;have a2:=h a;unfold cut;rw[e,aq (by simp only[la,au];omega),<-aF];rw[DA,mH (by omega)];rw[show (D p)+f-D p=f by omega,jU,DA,List.take_append]
 have:n-(((enc a).map I.M).drop f).length=0:=by simp only[rF,au];omega
 rw[this,LM,nZ]
def QV (h:∀a,(enc a).length=sz){l:List α}{i:Nat}(L:i<D l)(b:α):jJ (a7 enc l) (i*sz) ((enc b).map .M)=a7 enc (l.set i b):=by
 obtain⟨p,q,e,aF,R⟩:=YD h (bw L);rw[R b,e];have a2:=h l[i];have U:=h b;unfold jJ;rw[<-aF,QW,hj]
 congr 2
 rw[DA,mH (by omega),jU,au,show (D p)+(enc b).length-D p=(enc b).length by omega,U,<-a2,<-au (f:=I.M),QX]
def akk (a0:∀a,((enc a).map I.M).all I.one=true)(l:List α):(a7 enc l).all I.one=true:=by
 induction l with
 |nil=>rfl
 |cons a r aD=>rw[uw,List.all_append,a0,aD];rfl
def Hn (h:∀a,(enc a).length=sz)(a0:∀a,((enc a).map I.M).all I.one=true)(k g b:Nat)(l new:List α)(U:(D l+D new)*b<=140737488355328)(hm:(D l)+D new<=1000000000):
  mF k g sz (D l) b (D new) (a7 enc new) (some (g,a7 enc l))=some (.ref k (g+1) sz 0 (D l+D new),some (k,g+1,a7 enc (l++new))):=by
 unfold mF;have uo:(D l)+D new<=maxLen:=cS hm (by decide);dsimp only;rw[aq ⟨rfl,by rw[mh h];exact bI _,U,uo,akk a0 new⟩,QU,dx (by rw[mh h];exact bI _)]
def oQ (h:∀a,(enc a).length=sz)(a0:∀a,((enc a).map I.M).all I.one=true)(k g b:Nat)(l:List α)(a:α){cs:List I}(Z:cs=(enc a).map .M)(U:(D l+1)*b<=140737488355328)(hm:(D l)+1<=1000000000):
  mF k g sz (D l) b 1 cs (some (g,a7 enc l))=some (.ref k (g+1) sz 0 (D l+1),some (k,g+1,a7 enc (l++[a]))):=by
 have:=Hn h a0 k g b l [a] U hm;rw[Z];rw[uw,akj,nZ] at this;exact this
def AZ (f:I->Option Data)(ag:∀d,f (.M d)=some d)(l:List Data):(l.map I.M).mapM f=some l:=by
 induction l with
 |nil=>rfl
 |cons a r aD=>simp[ag,aD]
def A0:∀(l:List (List Data)),(∀e∈l,D e=sz)->chunk sz (D l) l.flatten=l:=by
 intro l
 induction l with
 |nil=>intro _;rfl
 |cons e r aD =>
  intro h;have he:=h e (by simp);rw[jt,k9,chunk];rw[<-he,QW,QX,he,aD λx J=>h x (by simp[J])]
def oR (h:∀a,(enc a).length=sz){n k g:Nat}{mem:Mem}{l:List α}(hm:mem k=some (g,a7 enc l)):cC (n+1) mem (.ref k g sz 0 (D l))=some (.ay (l.map enc)):=by
 unfold cC;rw[hm];simp only[if_true];unfold cut;rw[kM,mh h,aq (bI _)];simp only[oO];rw[dx (by rw[mh h];exact bI _)];unfold a7;rw[AZ _ λd=>by cases n<;>rfl]
 have:=A0 (sz:=sz) (l.map enc) (by simpa using λa _=>h a);rw[au] at this;simp[this]
end
def YE {α:Type}(enc:α->List Data)(l:List α):rf (a7 enc l)=true:=by
 unfold rf a7;rw[jP];intro m hm;rw[hx] at hm;obtain⟨d,_,rfl⟩:=hm
 rfl
def xK {α:Type}{enc:α->List Data}{sz:Nat}(h:∀a,(enc a).length=sz){K:a3->Prop}{st:a3}(s k g:Nat)(l:List α):
  Hk K st s k g sz 0 (D l) (some (g,a7 enc l))=K ⟨er st.tm s (.M (.ay (l.map enc))),kill st.mem k⟩:=by
 have Q:=oR (n:=0) h (mem:=aR st.mem k g (a7 enc l)) (k:=k) (g:=g) (l:=l) (by simp[aR]);unfold Hk;dsimp only;rw[aq ⟨rfl,YE enc l⟩];unfold cut;rw[kM,mh h,aq (bI _)];dsimp only;rw[oO,dx (by rw[mh h];exact bI _)];unfold a7;rw[AZ _ λd=>rfl];dsimp only;have:=A0 (sz:=sz) (l.map enc) (by simpa using λa _=>h a);rw[au] at this;rw[this]
def wrap64 (x:Int)(E:-9223372036854775808<=x)(G:x<=9223372036854775807):IntKind.i64.wrap x=x:=by
 rw[IntKind.wrap_i64];omega
def YF {α:Type}(l:List α)(i:Int)(ak:0<=i)(h:i<D l):∃x,l[i.toNat]?=some x/\l.drop i.toNat=x::l.drop (i+1).toNat/\l.take (i+1).toNat=l.take i.toNat++[x]:=by
 have av:i.toNat<D l:=by omega
 have e:(i+1).toNat=i.toNat+1:=by omega
 refine⟨l[i.toNat],bw av,?_,?_⟩
 ·rw[e];exact gK av
 ·rw[e];rw[jl,bw av];rfl
def cg:List Data->List I
 | []=>[]
 |d::l => .M d::cg l
def akl (l:List Data):cg l=l.map .M:=by
 induction l with
 |nil=>rfl
 |cons a l aD=>rw[cg,aD];rfl
def WF (T:bj)(mf:bN)(bK:List Data->Option c8):Prop:=∀ds r,bK ds=some r->Nat.ble (D ds) mf.n=true/\wp T mf.body (uq mf.res r) ⟨jK (cg ds),emp⟩
abbrev LN:Option c8->(c8->Prop)->Prop
 |some r,al=>al r
 |none,_=>True
def cN {c:Prop}{r:c8}{al:c8->Prop}(h:c->al r):LN (cv c r) al:=by
 by_cases Z:c
 ·rw[YB Z];exact h Z
 ·have:cv c r=none:=ar Z;rw[this];trivial
def cp {T:bj}{mf:bN}{α:Type}{A:α->List Data}{f:α->Option c8}(h:∀a,LN (f a) λr=>Nat.ble (A a).length mf.n=true/\wp T mf.body (uq mf.res r) ⟨jK (cg (A a)),emp⟩):WF T mf (bW A f):=λds r Q=>by
 obtain⟨a,rfl,G⟩:=YA Q;have ab:=h a;rw[G] at ab;exact ab
class LO (a:List Data) (b:outParam (List Data)):Prop where
 e:a=b
instance {d:Data} {r:List Data}:LO (d::r) (d::r):=⟨rfl⟩
instance:LO [] []:=⟨rfl⟩
def cK {α:Type}{A:α->List Data}{f:α->Option c8}(bK:List Data->Option c8)(e:bK=bW A f)(inj:∀a b,A a=A b->a=b)(a:α){l:List Data}[ad:LO (A a) l]{c:Prop}{r:c8}(az:f a=cv c r)(Z:c):bK l=some r:=by rw[<-ad.e,e,Yz inj,az,YB Z]
def ux {α:Type}{A:α->List Data}{f:α->Option c8}(bK:List Data->Option c8)(e:bK=bW A f)(inj:∀a b,A a=A b->a=b)(a:α){l:List Data}[ad:LO (A a) l]{r:c8}(az:f a=some r):bK l=some r:=by rw[<-ad.e,e,Yz inj,az]
abbrev WP (T:bj)(mf:bN)(r:c8)(l:List I):Prop:=wp T mf.body (uq mf.res r) ⟨jK l,emp⟩
def cq {T:bj}{c:eF}{K:fi->a3->Prop}{st:a3}(h:wp T c (cI T K []) st):wp T c K st:=xr h
def fr (x:Int)(E:-9223372036854775808<=x:=by omega)(G:x<=9223372036854775807:=by omega):IntKind.i64.wrap x=x:=wrap64 x E G
def hy {i:Nat}(h:i<1000000000000):IntKind.i64.wrap ((i:Int)+1)=((i+1:Nat):Int):=by rw[wrap64 _ (by omega) (by omega)];omega
end Go.Mini
namespace Go.Mini
open Go Go.ChangeShapes Go.WideShapes
inductive oS where
 |int (k:IntKind)
 |bool
 |str
 |ay (e:oS)
 |st (l:List oS)
mutual
def Fit:oS->List Data->Prop
 |.int k,ds=>∃n,ds=[.int k n]/\(Lit.int k n).wf=true
 |.bool,ds=>∃b,ds=[.bool b]
 |.str,ds=>∃s,ds=[.str s]/\D s<=maxLen
 |.ay e,ds=>∃es,ds=[.ay es]/\D es<=maxLen/\∀x∈es,Fit e x
 |.st l,ds=>Fits l ds
def Fits:List oS->List Data->Prop
 | [],ds=>ds=[]
 |s::r,ds=>∃a b,ds=a++b/\Fit s a/\Fits r b
end
def Ho (P:Program):Nat->List Field->Nat->Bool
 |off,[],tot=>off==tot
 |off,f::r,tot=>f.offset==off&&Ho P (off+P.cellsOf f.type) r tot
def Hp (g:TypeId->Option oS):List Field->Option (List oS)
 | []=>some []
 |f::r=>match g f.type,Hp g r with
  |some s,some l=>some (s::l)
  |_,_=>none
def qx (P:Program):Nat->TypeId->Option oS
 |0,_=>none
 |n+1,t=>match P.underlying t with
  |some .bool=>some .bool
  |some (.int k)=>some (.int k)
  |some .string=>some .str
  |some (.slice e)=>if 0<P.cellsOf e then (qx P n e).map .ay else none
  |some (.struct c5)=>if Ho P 0 c5.toList (P.cellsOf t)=true then (Hp (qx P n) c5.toList).map .st else none
  |_=>none
section
variable {H:Type} {enc:TypeId×Value->H} {P:Program} {w:World} {base:Nat}
def Hq (enc:TypeId×Value->H)(P:Program)(w:World)(base:Nat)(S:oS)(fuel:Nat)(t:TypeId)(cs:List Value)(x:DataW H×List MemPlace):Prop :=
 (∃ds,Fit S ds/\xD w (λ_=>False) ds cs)/\(∀p∈x.2,p.block<w.heap.size) /\
 ∀(aj:World) (sp:Nat->Bool),(∀p∈x.2,sp p.block=true)->(∀b,b<w.heap.size->aj.heap[b]?=w.heap[b]?)->DataW.trod enc P aj base sp true fuel t cs=some x
def Hr {ax:Nat->Prop}{d:Data}{v:Value}(h:Den w ax d v):xD w ax [d] [v]:=by
 refine⟨rfl,λi pK oI E G=>?_⟩
 cases i with
 |zero=>cases E;cases G;exact h
 |succ i=>simp at E
def YG (a:Addr)(i:Nat):(a.add i).block=a.block:=by
 unfold Addr.add
 split<;>rfl
def add_plain (b off i:Nat):(Addr.add ⟨b,off,none⟩ i)=⟨b,off+i,none⟩:=by
 unfold Addr.add
 split
 ·rename_i h;subst h;rfl
 ·rfl
def YH {aj:World}{a:Addr}{n:Nat}{cs:List Value}(h:w.cells? base a n=some cs)(O:∀b,b<w.heap.size->aj.heap[b]?=w.heap[b]?):aj.cells? base a n=some cs:=by
 unfold World.cells? at h ⊢
 split at h
 ·rename_i U;rw[aq U,<-h]
  by_cases av:a.block<w.heap.size
  ·have he:(λi=>aj.cell? (a.add i))=λi=>w.cell? (a.add i):=by
    funext i
    exact World.cell?_of_block (a:=a.add i) (O _ (by rw[YG];exact av))
   rw[he]
  ·cases n with
   |zero=>rfl
   |succ n =>
    exfalso
    have:w.cell? (a.add 0)=none:=by
     unfold World.cell?;have:w.heap[(a.add 0).block]?=none:=Array.getElem?_eq_none (by rw[YG];omega);rw[this]
    rw[List.range_succ_eq_map,ma,this] at h
    cases h
 ·cases h
def QY {a:Addr}{n:Nat}{cs:List Value}(h:w.cells? base a n=some cs):(D cs)=n/\∀i,i<n->∃v,cs[i]?=some v/\w.cell? (a.add i)=some v:=by
 unfold World.cells? at h
 split at h
 ·obtain⟨E,G⟩:=mapM_get h;rw[A1] at E;refine⟨E,λi L=>?_⟩;have Z:=bw (l:=cs) (i:=i) (by omega);exact⟨_,Z,G i i _ (by simp[L]) Z⟩
 ·cases h
def akm {a:Addr}{v:Value}(h:w.cell? a=some v):a.block<w.heap.size/\a.spot=none:=by
 unfold World.cell? at h
 split at h
 ·rename_i U;refine⟨(Array.getElem?_eq_some_iff.1 U).1,?_⟩
  cases R:a.spot with
  |none=>rfl
  |some x=>rw[R] at h;simp at h
 ·cases h
def mapM_congr {α β:Type}{f g:α->Option β}:∀{l:List α},(∀x∈l,f x=g x)->l.mapM f=l.mapM g:=by
 intro l
 induction l with
 |nil=>intro _;rfl
 |cons a r aD =>
  intro h;rw[ma,ma,h a (by simp),aD λx J=>h x (by simp[J])]
def akn {β:Type}(len:Nat)(al:Nat->β->Prop)(h:∀i,i<len->∃y,al i y):∃l:List β,D l=len/\∀i y,l[i]?=some y->al i y:=by
 induction len with
 |zero=>exact⟨[],rfl,λi y h=>by simp at h⟩
 |succ n aD =>
  obtain⟨l,E,G⟩:=aD λi L=>h i (by omega);obtain⟨y,af⟩:=h n (by omega);refine⟨l++[y],by simp[E],λi z aP=>?_⟩
  rw[C8] at aP
  split at aP
  ·exact G i z aP
  ·rename_i av
   have:i-D l=0:=by
    have:=(dh.1 aP).1;simp at this;omega
   rw[this] at aP
   cases aP;have:i=n:=by omega
   subst this;exact af
def ako {β:Type}{sz:Nat}:∀(es:List (List β)),(∀e∈es,D e=sz)->0<sz->∀(i:Nat) (d:β),es.flatten[i]?=some d->∃e,es[i/sz]?=some e/\e[i%sz]?=some d:=by
 intro es
 induction es with
 |nil=>intro _ _ i d h;simp at h
 |cons e r aD =>
  intro h aP i d ae;have he:=h e (by simp);rw[k9,C8] at ae
  split at ae
  ·rename_i av;rw[he] at av;refine⟨e,by rw[QZ av];rfl,by rw[Hs av];exact ae⟩
  ·rename_i bM;rw[he] at ae bM;obtain⟨x,E,G⟩:=aD (λy af=>h y (by simp[af])) aP _ d ae;have L:i=(i-sz)+sz:=by omega
   refine⟨x,?_,?_⟩
   ·rw[L,Nat.add_div_right _ aP]
    simpa using E
   ·rw[L,Nat.add_mod_right];exact G
def akp {n fuel:Nat}(aD:∀t S,qx P n t=some S->∀(cs:List Value) (x:DataW H×List MemPlace),DataW.trod enc P w base (λ_=>true) true fuel t cs=some x->Hq enc P w base S fuel t cs x)(cs:List Value):
  ∀(c5:List Field) (off:Nat) (l:List oS) (xs:List (DataW H×List MemPlace)),Hp (qx P n) c5=some l->Ho P off c5 (D cs)=true ->
   c5.mapM (λf=>DataW.trod enc P w base (λ_=>true) true fuel f.type ((cs.drop f.offset).take (P.cellsOf f.type)))=some xs ->
   (∃ds,Fits l ds/\xD w (λ_=>False) ds (cs.drop off))/\(∀p∈xs.flatMap (·.2),p.block<w.heap.size) /\
   ∀(aj:World) (sp:Nat->Bool),(∀p∈xs.flatMap (·.2),sp p.block=true)->(∀b,b<w.heap.size->aj.heap[b]?=w.heap[b]?) ->
    c5.mapM (λf=>DataW.trod enc P aj base sp true fuel f.type ((cs.drop f.offset).take (P.cellsOf f.type)))=some xs:=by
 intro c5
 induction c5 with
 |nil =>
  intro off l xs ad bx J;simp only[Hp,bF] at ad;subst ad;simp only[Ho,beq_iff_eq] at bx;simp only[Yw,fy,bF] at J;subst J;refine⟨⟨[],rfl,?_⟩,by simp,λ_ _ _ _=>rfl⟩
  rw[bx,Q0];exact⟨rfl,λi d v h=>by simp at h⟩
 |cons f r ihf =>
  intro off l xs ad bx J;unfold Hp at ad
  split at ad
  ·rename_i s lV R sI
   cases ad;simp only[Ho,dp,beq_iff_eq] at bx;obtain⟨P9,bx⟩:=bx;rw[ma] at J;simp only[fy,fE,dd,bF] at J;obtain⟨x,fY,ys,akq,rfl⟩:=J;obtain⟨⟨Q1,Ht,A2⟩,akr,aks⟩:=aD _ _ R _ _ fY;obtain⟨⟨A3,ka,dr⟩,akt,aku⟩:=ihf _ _ _ sI bx akq;refine⟨⟨Q1++A3,⟨Q1,A3,rfl,Ht,ka⟩,?_⟩,?_,?_⟩
   ·have Lm:cs.drop off=(cs.drop off).take (P.cellsOf f.type)++cs.drop (off+P.cellsOf f.type):=by
     rw[<-xy,Hl]
    rw[P9] at A2;rw[Lm];refine⟨by rw[la,la,A2.1,dr.1],λi d v E G=>?_⟩
    rw[C8] at E G;have hlen:=A2.1
    by_cases av:i<D Q1
    ·rw[aq av] at E;rw[aq (by omega)] at G;exact A2.2 i d v E G
    ·rw[ar av] at E;rw[ar (by omega),hlen] at G;exact dr.2 _ d v E G
   ·intro p aF;rw[Q2,hv] at aF;exact aF.elim (akr p) (akt p)
   ·intro aj sp mV O;rw[ma,aks aj sp (λp aF=>mV p (by rw[Q2,hv];exact .inl aF)) O];have:=aku aj sp (λp aF=>mV p (by rw[Q2,hv];exact .inr aF)) O;simp only[fy,fE,zh];rw[this]
    rfl
  ·cases ad
def akv:∀(n:Nat) (t:TypeId) (S:oS),qx P n t=some S->∀(fuel:Nat) (cs:List Value) (x:DataW H×List MemPlace),DataW.trod enc P w base (λ_=>true) true fuel t cs=some x->Hq enc P w base S fuel t cs x:=by
 intro n
 induction n with
 |zero=>intro t S h;simp[qx] at h
 |succ n aD =>
  intro t S cr fuel cs x J
  cases fuel with
  |zero=>cases J
  |succ fuel =>
   unfold qx at cr
   split at cr
   ·-- bool
    rename_i hu
    cases cr
    have key:∀(aj:World) (sp:Nat->Bool) (cs:List Value),DataW.trod enc P aj base sp true (fuel+1) t cs=match cs with|[.bool b]=>some (.lit (.bool b),[])|_=>none:=by
     intro aj sp cs;unfold DataW.trod;rw[hu];clear J
     split<;>simp_all
    rw[key] at J
    split at J
    ·cases J;exact⟨⟨_,⟨_,rfl⟩,Hr .bool⟩,by simp,λaj sp _ _=>by rw[key]⟩
    ·cases J
   ·-- int
    rename_i k hu
    cases cr
    have key:∀(aj:World) (sp:Nat->Bool) (cs:List Value),DataW.trod enc P aj base sp true (fuel+1) t cs=match cs with|[.int k' n]=>if k'=k/\(Lit.int k n).wf=true then some (.lit (.int k n),[]) else none|_=>none:=by
     intro aj sp cs;unfold DataW.trod;rw[hu];clear J
     split<;>simp_all
    rw[key] at J
    split at J
    ·split at J
     ·rename_i Z
      cases J;obtain⟨rfl,YI⟩:=Z;exact⟨⟨_,⟨_,rfl,YI⟩,Hr .int⟩,by simp,λaj sp _ _=>by rw[key];simp[YI]⟩
     ·cases J
    ·cases J
   ·-- string
    rename_i hu
    cases cr
    have key:∀(aj:World) (sp:Nat->Bool) (cs:List Value),DataW.trod enc P aj base sp true (fuel+1) t cs=match cs with|[.string s]=>if s.size<=maxLen then some (.lit (.string s.data.toList),[]) else none|_=>none:=by
     intro aj sp cs;unfold DataW.trod;rw[hu];clear J
     split<;>simp_all
    rw[key] at J
    split at J
    ·rename_i s
     split at J
     ·rename_i Z
      cases J;refine⟨⟨[.str s.data.toList],⟨_,rfl,?_⟩,Hr ?_⟩,by simp,λaj sp _ _=>by rw[key];simp[Z]⟩
      ·rw[Array.length_toList];exact Z
      ·have:Den w (λ_=>False) (.str s.data.toList) (.string ⟨s.data.toList.toArray⟩):=.str
       simpa using this
     ·cases J
    ·cases J
   ·-- slice
    rename_i e hu
    split at cr
    ·rename_i Z;rw[cJ] at cr;obtain⟨S,cr,rfl⟩:=cr
     have key:∀(aj:World) (sp:Nat->Bool) (cs:List Value),DataW.trod enc P aj base sp true (fuel+1) t cs=match cs with
      | [.slice none 0 0]=>some (.nil,[])
      | [.slice (some a) len cap] =>
       if base<=a.block/\len<=cap/\cap<=maxLen then
        ((
         jf len).mapM λi=>(aj.cells? base (a.add (i*P.cellsOf e)) (P.cellsOf e)).bind (DataW.trod enc P aj base sp true fuel e)).bind λelems =>
         (if sp a.block then (jf (cap-len)).mapM λj=>(aj.cells? base (a.add ((len+j)*P.cellsOf e)) (P.cellsOf e)).bind (DataW.trod enc P aj base sp true fuel e) else some []).map λrest =>
          (.slice (elems.map (·.1)) (rest.map (·.1)),MemPlace.row a ((D elems+D rest)*P.cellsOf e)++(elems++rest).flatMap (·.2))
       else none
      |_=>none:=by
      intro aj sp cs
      conv=>lhs;unfold DataW.trod
      rw[hu];clear J
      split<;>simp_all
     rw[key] at J
     split at J
     ·cases J;exact⟨⟨[.ay []],⟨_,rfl,ej _,by simp⟩,Hr .j6⟩,by simp,λaj sp _ _=>by rw[key];rfl⟩
     ·rename_i a len cap
      split at J
      ·rename_i U;rw[dd] at J;obtain⟨elems,he,J⟩:=J;rw[cJ] at J;obtain⟨rest,Q,rfl⟩:=J;rw[aq rfl] at Q;obtain⟨jM,akw⟩:=mapM_get he;obtain⟨b0,akx⟩:=mapM_get Q;rw[A1] at jM b0
       -- each place
       have fX:∀i y,(i<len->elems[i]?=some y)->(¬ i<len->i<cap/\rest[i-len]?=some y)->∃ci,w.cells? base (a.add (i*P.cellsOf e)) (P.cellsOf e)=some ci/\DataW.trod enc P w base (λ_=>true) true fuel e ci=some y:=by
        intro i y E G
        by_cases L:i<len
        ·have:=akw i i y (by simp[L]) (E L);rwa [dd] at this
        ·obtain⟨ab,aM⟩:=G L;have:=akx (i-len) (i-len) y (List.getElem?_range (by omega)) aM;rw[show len+(i-len)=i by omega,dd] at this
         exact this
       have je:0<D elems+(D rest)->a.block<w.heap.size/\a.spot=none:=by
        intro aF;have ak:0<cap:=by omega
        have:∃y,(0<len->elems[0]?=some y)/\(¬ 0<len->0<cap/\rest[0-len]?=some y):=by
         by_cases ad:0<len
         ·exact⟨elems[0],λ_=>bw _,λh=>absurd ad h⟩
         ·exact⟨rest[0],λh=>absurd h ad,λ_=>⟨ak,by rw[Nat.zero_sub];exact bw _⟩⟩
        obtain⟨y,E,G⟩:=this;obtain⟨ci,ew,-⟩:=fX 0 y E G;obtain⟨v,-,ai⟩:=(QY ew).2 0 Z;have:=akm ai;rw[LP] at this;have eO:(a.add 0).add 0=a:=by unfold Addr.add;simp
        rw[eO] at this;exact this
       have YJ:∀i y,(i<len->elems[i]?=some y)->(¬ i<len->i<cap/\rest[i-len]?=some y)->∃ci,w.cells? base (a.add (i*P.cellsOf e)) (P.cellsOf e)=some ci/\Hq enc P w base S fuel e ci y:=by
        intro i y E G;obtain⟨ci,ab,aM⟩:=fX i y E G;exact⟨ci,ab,aD e S cr fuel ci y aM⟩
       have Q3:∀(i:Nat) y,elems[i]?=some y->∃ci,w.cells? base (a.add (i*P.cellsOf e)) (P.cellsOf e)=some ci/\Hq enc P w base S fuel e ci y :=
        λi y af=>YJ i y (λ_=>af) (λh=>absurd (by have:=(dh.1 af).1;omega) h)
       have YK:∀(j:Nat) y,rest[j]?=some y->∃ci,w.cells? base (a.add ((len+j)*P.cellsOf e)) (P.cellsOf e)=some ci/\Hq enc P w base S fuel e ci y :=
        λj y af=>YJ (len+j) y (λh=>by omega) (λ_=>⟨by have:=(dh.1 af).1;omega,by rwa [DB]⟩)
       refine⟨?_,?_,?_⟩
       ·obtain⟨es,rG,heq⟩:=akn len (λi (ds:List Data)=>∃ci,w.cells? base (a.add (i*P.cellsOf e)) (P.cellsOf e)=some ci/\Fit S ds/\xD w (λ_=>False) ds ci) λi L=>by
         obtain⟨ci,E,⟨ds,G,ab⟩,-,-⟩:=Q3 i _ (bw (by omega));exact⟨ds,ci,E,G,ab⟩
        refine⟨[.ay es],⟨es,rfl,by omega,λy af=>?_⟩,Hr ?_⟩
        ·obtain⟨i,L⟩:=rH.1 af;obtain⟨ci,-,h,-⟩:=heq i y L;exact h
        ·by_cases ad:len=0
         ·rw[ad] at rG ⊢;rw[qt rG];exact .j6
         ·obtain⟨ka,dr⟩:=je (by omega);obtain⟨b,off,spot⟩:=a;simp only at ka dr;subst dr
          have dz:∀y∈es,D y=P.cellsOf e:=by
           intro y af;obtain⟨i,L⟩:=rH.1 af;obtain⟨ci,E,-,G⟩:=heq i y L;rw[<-G.1,(QY E).1]
          have g5:∀(i:Nat) (d:Data),es.flatten[i]?=some d->∃v,w.cell? ⟨b,off+i,none⟩=some v/\Den w (λ_=>False) d v:=by
           intro i d ae;obtain⟨y,E,G⟩:=ako es dz Z i d ae;obtain⟨ci,ab,-,aM⟩:=heq _ y E;have hm:i%P.cellsOf e<P.cellsOf e:=mW _ Z;obtain⟨v,bl,bz⟩:=(QY ab).2 _ hm;rw[add_plain,add_plain,rk,pO,LQ] at bz;exact⟨v,bz,aM.2 _ d v G bl⟩
          rw[<-rG];refine .ay (sz:=P.cellsOf e) (λi=>(w.cell? ⟨b,off+i,none⟩).getD undef) (by omega) (by omega) ka (λh=>h) dz (λi L=>?_) λi d ae=>?_
          ·have av:i<D es.flatten:=by rw[KO dz];exact L
           obtain⟨v,ai,-⟩:=g5 i _ (bw av);rw[ai]
           rfl
          ·obtain⟨v,ai,kL⟩:=g5 i d ae;rw[ai];exact kL
       ·intro p aF;simp only[hv] at aF;rcases aF with aF|aF
        ·unfold MemPlace.row at aF;rw[hx] at aF;obtain⟨i,L,rfl⟩:=aF;rw[pP] at L
         have:0<D elems+D rest:=by
          rcases jh (D elems+D rest) with h|h
          ·rw[h,LP] at L;omega
          ·exact h
         exact (je this).1
        ·rw[AR] at aF;obtain⟨y,af,aF⟩:=aF;rw[hv] at af;rcases af with af|af
         ·obtain⟨i,L⟩:=rH.1 af;obtain⟨ci,-,h⟩:=Q3 i y L;exact h.2.1 p aF
         ·obtain⟨i,L⟩:=rH.1 af;obtain⟨ci,-,h⟩:=YK i y L;exact h.2.1 p aF
       ·intro aj sp mV O;rw[key];simp only;rw[aq U]
        have oK:0<D elems+(D rest)->sp a.block=true:=by
         intro aF
         have:=mV (.cell a.block (a.off+0)) (by
          rw[hv]
          left
          unfold MemPlace.row;rw[hx];exact⟨0,by rw[pP];exact Nat.mul_pos aF Z,rfl⟩)
         exact this
        have aky:(jf len).mapM (λi=>(aj.cells? base (a.add (i*P.cellsOf e)) (P.cellsOf e)).bind (DataW.trod enc P aj base sp true fuel e))=some elems:=by
         rw[<-he];refine mapM_congr λi L=>?_;rw[pP] at L;have af:=bw (l:=elems) (i:=i) (by omega);obtain⟨ci,E,G⟩:=Q3 i _ af;rw[YH E O,E];simp only[zh];obtain⟨akz,ab,aM⟩:=fX i _ (λ_=>af) (λh=>absurd L h);rw[E] at ab
         cases ab;rw[aM]
         exact G.2.2 aj sp (λp aF=>mV p (by
          rw[hv];right
          rw[AR];exact⟨_,hv.2 (.inl (dM af)),aF⟩)) O
        have akA:(jf (cap-len)).mapM (λj=>(aj.cells? base (a.add ((len+j)*P.cellsOf e)) (P.cellsOf e)).bind (DataW.trod enc P aj base sp true fuel e))=some rest:=by
         rw[<-Q];refine mapM_congr λj aa=>?_;rw[pP] at aa;have af:=bw (l:=rest) (i:=j) (by omega);obtain⟨ci,E,G⟩:=YK j _ af;rw[YH E O,E];simp only[zh];obtain⟨akz,ab,aM⟩:=fX (len+j) rest[j] (λh=>by omega) (λ_=>⟨by omega,by rw[DB];exact af⟩);rw[E] at ab
         cases ab;rw[aM]
         exact G.2.2 aj sp (λp aF=>mV p (by
          rw[hv];right
          rw[AR];exact⟨_,hv.2 (.inr (dM af)),aF⟩)) O
        rw[aky];simp only[zh]
        cases R:sp a.block with
        |true=>simp only[if_true];rw[akA];rfl
        |false =>
         have aP:¬ 0<D elems+D rest:=λh=>by rw[oK h] at R;cases R
         have:rest=[]:=qt (by omega);subst this
         rfl
      ·cases J
     ·cases J
    ·cases cr
   ·-- struct
    rename_i c5 hu
    split at cr
    ·rename_i bx;rw[cJ] at cr;obtain⟨l,ad,rfl⟩:=cr
     have key:∀(aj:World) (sp:Nat->Bool),DataW.trod enc P aj base sp true (fuel+1) t cs =
       if (D cs)=P.cellsOf t then (c5.toList.mapM λf=>DataW.trod enc P aj base sp true fuel f.type ((cs.drop f.offset).take (P.cellsOf f.type))).map λxs=>(.agg (xs.map (·.1)),xs.flatMap (·.2)) else none:=by
      intro aj sp
      conv=>lhs;unfold DataW.trod
      rw[hu]
     rw[key] at J
     split at J
     ·rename_i hlen;rw[cJ] at J;obtain⟨xs,zf,rfl⟩:=J;rw[<-hlen] at bx;obtain⟨E,G,ab⟩:=akp (λt S h cs x J=>aD t S h fuel cs x J) cs c5.toList 0 l xs ad bx zf;refine⟨?_,G,λaj sp mV O=>?_⟩
      ·obtain⟨ds,ag,ae⟩:=E;exact⟨ds,ag,by simpa using ae⟩
      ·rw[key,aq hlen,ab aj sp mV O]
       rfl
     ·cases J
    ·cases cr
   ·cases cr
end
end Go.Mini
namespace Go.Mini
open Go Go.ChangeShapes Go.WideShapes Go.RowKit
def YL:oS->Data->Prop
 |.st l,d=>∃cs,d=.agg cs/\Fits l cs
 |s,d=>Fit s [d]
def LR:List oS->List Data->Prop
 | [],ds=>ds=[]
 |s::r,ds=>∃d t,ds=d::t/\YL s d/\LR r t
section
variable {H:Type} {enc:TypeId×Value->H} {P:Program} {w:World}
def akB {ax:Nat->Prop}{d:Data}{v:Value}{ds:List Data}{vs:List Value}(h:Den w ax d v)(R:xD w ax ds vs):xD w ax (d::ds) (v::vs):=by
 refine⟨by simp[R.1],λi pK oI E G=>?_⟩
 cases i with
 |zero=>cases E;cases G;exact h
 |succ i=>exact R.2 i pK oI (by simpa using E) (by simpa using G)
def akC {n:Nat}{t:TypeId}{S:oS}{v:Value}{d:DataW H}{cD:List MemPlace}{qy:Nat}(cr:qx P n t=some S)(g5:Value.okWide P w .any qy t v)(h:DataW.Trod enc P w 0 (λ_=>true) true t v d cD):
  (∃aQ,YL S aQ/\Den w (λ_=>False) aQ v)/\(∀p∈cD,p.block<w.heap.size) /\
  ∀(aj:World) (sp:Nat->Bool),(∀p∈cD,sp p.block=true)->(∀b,b<w.heap.size->aj.heap[b]?=w.heap[b]?)->DataW.Trod enc P aj 0 sp true t v d cD:=by
 obtain⟨fuel,J⟩:=h;obtain⟨⟨ds,ag,ae⟩,G,ab⟩:=akv n t S cr fuel _ _ J;refine⟨?_,G,λaj sp mV O=>⟨fuel,ab aj sp mV O⟩⟩
 have one:(∀cs,v ≠ .agg cs)->∀d,ds=[d]->Den w (λ_=>False) d v:=by
  intro ai d e;subst e;have:v.cells=#[v]:=by unfold Value.cells;split<;>simp_all
  rw[this] at ae;exact ae.2 0 d v rfl rfl
 cases n with
 |zero=>simp[qx] at cr
 |succ n =>
  unfold qx at cr;unfold Value.okWide at g5
  split at cr
  ·rename_i hu
   cases cr;rw[hu] at g5;obtain⟨b,rfl⟩:=ag;refine⟨_,⟨b,rfl⟩,one ?_ _ rfl⟩;rintro cs rfl;simp[Cell.okWide,Cell.ok,hu] at g5
  ·rename_i k hu
   cases cr;rw[hu] at g5;obtain⟨b,rfl,U⟩:=ag;refine⟨_,⟨b,rfl,U⟩,one ?_ _ rfl⟩;rintro cs rfl;simp[Cell.okWide,Cell.ok,hu] at g5
  ·rename_i hu
   cases cr;rw[hu] at g5;obtain⟨b,rfl,U⟩:=ag;refine⟨_,⟨b,rfl,U⟩,one ?_ _ rfl⟩;rintro cs rfl;simp[Cell.okWide,Cell.ok,hu] at g5
  ·rename_i e hu
   split at cr
   ·rw[cJ] at cr;obtain⟨S,cr,rfl⟩:=cr;rw[hu] at g5;obtain⟨b,rfl,U⟩:=ag;refine⟨_,⟨b,rfl,U⟩,one ?_ _ rfl⟩;rintro cs rfl;simp[Cell.okWide,Cell.ok,hu] at g5
   ·cases cr
  ·rename_i c5 hu
   split at cr
   ·rw[cJ] at cr;obtain⟨l,ad,rfl⟩:=cr;rw[hu] at g5;obtain⟨cs,rfl,-,-⟩:=g5;refine⟨.agg ds,⟨ds,rfl,ag⟩,?_⟩;have:Den w (λ_=>False) (.agg ds) (.agg cs.toList.toArray):=.agg ae.1 ae.2
    simpa using this
   ·cases cr
  ·cases cr
def Q4 {n qy:Nat}:∀{rm:List TypeId} {schs:List oS} {vs:List Value} {ds:List (DataW H)} {cD:List MemPlace},rm.mapM (qx P n)=some schs->(∀(j:Nat) t v,rm[j]?=some t->vs[j]?=some v->Value.okWide P w .any qy t v) ->
  DataW.TrodAll enc P w 0 (λ_=>true) true rm vs ds cD ->
  (∃qz,LR schs qz/\xD w (λ_=>False) qz vs)/\(∀p∈cD,p.block<w.heap.size) /\
  ∀(aj:World) (sp:Nat->Bool),(∀p∈cD,sp p.block=true)->(∀b,b<w.heap.size->aj.heap[b]?=w.heap[b]?)->DataW.TrodAll enc P aj 0 sp true rm vs ds cD
 | [],schs,vs,ds,cD,cr,g5,h=>by
  obtain⟨rfl,rfl,rfl⟩:=trodAll_nil h;simp at cr;subst cr;exact⟨⟨[],rfl,rfl,λi d v h=>by simp at h⟩,by simp,λ_ _ _ _=>rfl⟩
 |t::rm,schs,vs,ds,cD,cr,g5,h=>by
  obtain⟨v,akD,d,akE,a,b,rfl,rfl,rfl,E,G⟩:=trodAll_cons h;rw[ma] at cr;simp only[fy,fE,dd,bF] at cr;obtain⟨S,akF,l,ad,rfl⟩:=cr;obtain⟨⟨aQ,fb,akG⟩,nX,cm⟩:=akC akF (g5 0 t v rfl rfl) E;obtain⟨⟨qz,akH,akI⟩,nY,dX⟩:=Q4 ad (λj kl oI bx ai=>g5 (j+1) kl oI (by simpa using bx) (by simpa using ai)) G;refine⟨⟨aQ::qz,⟨aQ,qz,rfl,fb,akH⟩,akB akG akI⟩,λp aF=>?_,λaj sp mV O=>?_⟩
  ·rw[hv] at aF;exact aF.elim (nX p) (nY p)
  ·exact trodAll_cons_mk (cm aj sp (λp aF=>mV p (hv.2 (.inl aF))) O) (dX aj sp (λp aF=>mV p (hv.2 (.inr aF))) O)
def akJ {W qA:World}(h:Fr (λ_=>False) W qA)(may:MemPlace->Prop):W.keptBut qA may:=by
 refine⟨h.os,h.output,λi L=>?_⟩;rw[h.block i L id]
 cases U:W.heap[i]? with
 |none=>trivial
 |some o =>
  cases o with
  |cells c t fx=>exact⟨rfl,rfl,rfl,λ_ _=>rfl⟩
  |map es clock=>exact .inr ⟨rfl,rfl⟩
  |_=>rfl
def akK {f:Func}{s:ChangeSpec}{apart fresh handsOn again:Bool}{W qA:World}{args:Array Value}{ds gs:List (DataW H)}{before:List MemPlace}{n qy:Nat}{schs:List oS}{Hu:TypeId}
  (gW:DataW.Whole enc P f.params.toList s.vars apart W args.toList ds gs before) (ai:s.vars=[]) (cr:f.params.toList.mapM (qx P n)=some schs)
  (g5:∀(j:Nat) t v,f.params[j]?=some t->args[j]?=some v->Value.okWide P W .any qy t v)
  (Q:f.resultTypes=#[Hu]) (U:P.underlying Hu=some .bool) (h5:s.fn H ds={ results:=[.lit (.bool true)],args:=ds }) (ag:Fr (λ_=>False) W qA) :
  s.post enc P f apart fresh handsOn again W args (.bool true) qA:=by
 have Q5:=gW;obtain⟨p,q,cY,pQ,rfl,aP,aE⟩:=gW;rw[ai] at pQ;obtain⟨rfl,rfl⟩:=trodVars_none pQ;obtain⟨-,av,O⟩:=Q4 cr (λj t v bx ai=>g5 j t v (by simpa using bx) (by simpa using ai)) cY;have YM:∀b,b<W.heap.size->qA.heap[b]?=W.heap[b]?:=λb U=>ag.block b U id
 have ll:∀(b:Nat) (sp:Nat->Bool) (ae:Bool),DataW.TrodAll enc P qA b sp ae f.resultTypes.toList ((Value.bool true).resultList f.resultTypes.size) (s.fn H (ds++[])).results []:=by
  intro b sp ae;rw[nZ,h5,Q];exact trodAll_cons_mk (shut_bool U true) trodAll_mk0
 have iB:∀sp:Nat->Bool,(∀x∈p,sp x.block=true)->DataW.TrodAll enc P qA 0 sp true f.params.toList args.toList (s.fn H (ds++[])).args p:=by
  intro sp mV;rw[nZ,h5];exact O qA sp mV YM
 have YN:∀sp:Nat->Bool,DataW.TrodVars enc P qA sp s.vars (s.fn H (ds++[])).vars []:=by
  intro sp;rw[ai,nZ,h5]
  rfl
 refine⟨ds,[],p++[],[],p,[],Q5,ll _ _ _,iB _ (λx J=>by simpa using av x J),YN _,akJ ag _,λ_=>⟨?_,_,_,([]++p)++[],⟨[]++p,[],trodAll_append (iB _ (λ_ _=>rfl)) (ll _ _ _),YN _,rfl,?_,?_⟩,?_⟩⟩
 ·intro j t r E G;rw[Q] at E G
  cases j with
  |zero =>
   simp[Value.resultList] at E G;subst E G;exact okWide_bool_mk U true
  |succ j=>simp at E
 ·intro b off aF;have YO:MemPlace.cell b off∈p:=by simpa using aF
  have U:=av _ YO;have ak:=aP b off (by simpa using YO);unfold World.frozen? at ak ⊢;rw[YM b U];exact ak
 ·intro a2;have:=aE a2
  simpa using this
 ·intro x J _
  simpa using J
def akL {f:FuncId}{fn:Func}{s:ChangeSpec}{apart fresh handsOn again:Bool}{bK:List Data->Option c8}{n:Nat}{schs:List oS}{Hu:TypeId}(aF:h7 P f bK)(ai:s.vars=[])(cr:fn.params.toList.mapM (qx P n)=some schs)
  (Q:fn.resultTypes=#[Hu]) (U:P.underlying Hu=some .bool) (h5:∀ds:List (DataW H),D ds=(D fn.params.toList)->s.fn H ds={ results:=[.lit (.bool true)],args:=ds })
  {W:World} {base:Nat} {args:Array Value} {ds gs:List (DataW H)} {before:List MemPlace}
  (e0:∀qz,LR schs qz->bK qz=some (.same (.bool true)))
  (g5:∀(j:Nat) t v,fn.params[j]?=some t->args[j]?=some v->Value.okWide P W .any base t v)
  (gW:DataW.Whole enc P fn.params.toList s.vars apart W args.toList ds gs before) (aC:CS W:=by intro b o h;cases h) :
  Calls P f args W λe qA=>∃v,e=.returned v/\s.post enc P fn apart fresh handsOn again W args v qA:=by
 have Q5:=gW;obtain⟨p,q,cY,pQ,rfl,aP,aE⟩:=gW;obtain⟨⟨qz,E,G⟩,-,-⟩:=Q4 cr (λj t v bx ai=>g5 j t v (by simpa using bx) (by simpa using ai)) cY
 have hlen:(D ds)=D fn.params.toList:=by
  have:∀(rm:List TypeId) (vs:List Value) (ds:List (DataW H)) (cD:List MemPlace),DataW.TrodAll enc P W 0 (λ_=>true) true rm vs ds cD->(D ds)=D rm:=by
   intro rm
   induction rm with
   |nil=>intro vs ds cD h;obtain⟨rfl,rfl,rfl⟩:=trodAll_nil h;rfl
   |cons t r aD=>intro vs ds cD h;obtain⟨v,akD,d,akE,a,b,rfl,rfl,rfl,-,G⟩:=trodAll_cons h;simp[aD _ _ _ G]
  exact this _ _ _ _ cY
 have Z:=aF.run qz _ (e0 qz E) (λ_=>False) W args.toList (λb U=>U.elim) aC G;have a2:args.toList.toArray=args:=by simp
 rw[a2] at Z;refine Z.mono λe qA ⟨v,he,c7,ae⟩=>⟨v,he,?_⟩
 have:v=.bool true:=by
  have kL:Den qA (λ_=>False) (.bool true) v:=ae
  cases kL
  rfl
 subst this;exact akK Q5 ai cr g5 Q U (h5 ds hlen) c7
def YP {α:Type}{l:List α}{n:Nat}(h:(D l)=n+1):∃d t,l=d::t/\D t=n:=by
 cases l with
 |nil=>simp at h
 |cons d t=>exact⟨d,t,rfl,by simpa using h⟩
def LS {α:Type}{e:α->List Data}{good:α->Prop}:∀{es:List (List Data)},(∀x∈es,∃a,x=e a/\good a)->∃l:List α,es=l.map e/\∀a∈l,good a
 | [],_=>⟨[],rfl,by simp⟩
 |x::r,h=>by
  obtain⟨a,rfl,a2⟩:=h x (by simp);obtain⟨l,rfl,ad⟩:=LS (es:=r) λy af=>h y (by simp[af]);exact⟨a::l,rfl,λb U=>(hq.1 U).elim (λe=>e ▸ a2) (ad b)⟩
end
end Go.Mini
namespace Go.Mini
open Go
def xL (x:I)(m:Mem):I->Mem->Prop:=λr mem'=>r=x/\mem'=m
@[go_sem high] def ayy {K:a3->Prop}(x:I)(m:Mem)(d:Option Nat)(st:a3):ui K (some (.rel (xL x m))) d st=K ⟨put st.tm d x,m⟩:=by
 rw[ajf];apply propext;exact⟨λh=>h x m ⟨rfl,rfl⟩,λh r mem' ⟨aK,az⟩=>by rw[aK,az];exact h⟩
def zi (bc:List I->Mem->Option (I×Mem))(args:List I)(mem:Mem):Option fV:=(bc args mem).map λx => .rel (xL x.1 x.2)
@[go_sem] def ayz (bc:List I->Mem->Option (I×Mem))(args:List I)(mem:Mem):zi bc args mem=(bc args mem).map λx => .rel (xL x.1 x.2):=bf
structure Hv (P:Program) (f:FuncId) (bc:List I->Mem->Option (I×Mem)):Prop where
 real:Real P f
 run:∀args mem x,bc args mem=some x->∀A w B vs,dj A w B mem->ck w (bb A B) B args vs->Qo P f vs A w B mem (.rel (xL x.1 x.2))
def DC (res:List jI)(x:I)(m:Mem):fi->a3->Prop
 |.exit _,_=>False
 |.normal,st=>jd st res=some x/\st.mem=m
 |.ret,st=>jd st res=some x/\st.mem=m
@[go_sem] def ayA {res:List jI}{st:a3}(x:I)(m:Mem)(id:Nat):DC res x m (.exit id) st=False:=bf
@[go_sem] def ayB {res:List jI}{st:a3}(x:I)(m:Mem):DC res x m .normal st=(jd st res=some x/\st.mem=m):=bf
@[go_sem] def ayC {res:List jI}{st:a3}(x:I)(m:Mem):DC res x m .ret st=(jd st res=some x/\st.mem=m):=bf
def YQ {P : Program}{T : bj}{kb : Nat}{own : List Nat}(cn : mS P T)(hm : P.follows .mixedOrders = true){f : FuncId}{fn : Func}{mf : bN}(ag : P.funcs[f]? = some fn)(ur : (fn.name == "runtime.NumGoroutine") = false)(aA : pC P kb own fn = some { mf with body := erase mf.body })
  {bc:List I->Mem->Option (I×Mem)} (h:∀args mem x,bc args mem=some x->(D args)<=mf.n/\wp T mf.body (DC mf.res x.1 x.2) ⟨jK args,mem⟩):Hv P f bc:=by
 refine⟨?_,λargs mem x fz A w B vs a4 ai=>?_⟩
 ·cases U:fn.body with
  |none=>simp[pC,U] at aA
  |some c=>exact⟨fn,c,ag,U,ur⟩
 ·obtain⟨hlen,xG⟩:=h args mem x fz;refine Calls.mono (Hi (Post:=xL x.1 x.2) cn hm ag aA hlen (λe st O=>?_) xG a4 ai) λe aj he=>?_
  ·cases e with
   |exit id=>exact O
   |normal=>exact⟨_,O.1,rfl,O.2⟩
   |ret=>exact⟨_,O.1,rfl,O.2⟩
  ·obtain⟨v,m,mem',aB,rfl,R,j8,aF⟩:=he;exact⟨v,m,mem',aB,rfl,R,j8,aF⟩
def LU:Option (I×Mem)->Option fV->Option fV
 |some x,_=>some (.rel (xL x.1 x.2))
 |none,e=>e
@[go_sem] def ayD (x:I×Mem)(e:Option fV):LU (some x) e=some (.rel (xL x.1 x.2)):=bf
@[go_sem] def ayE (e:Option fV):LU none e=e:=bf
def xM (bK:List Data->Option c8)(bc:List I->Mem->Option (I×Mem))(args:List I)(mem:Mem):Option fV:=LU (bc args mem) (aW bK args mem)
@[go_sem] def ayF (bK:List Data->Option c8)(bc:List I->Mem->Option (I×Mem))(args:List I)(mem:Mem):xM bK bc args mem=LU (bc args mem) (aW bK args mem):=bf
open Classical in
def DD {α:Type}(bk:α->List I->Mem->Prop)(res:α->Mem->I×Mem):List I->Mem->Option (I×Mem):=λargs mem=>if h:∃a,bk a args mem then some (res (Dv h) mem) else none
def YR {α:Type}{bk:α->List I->Mem->Prop}{res:α->Mem->I×Mem}(uniq:∀a b args mem,bk a args mem->bk b args mem->res a mem=res b mem){a:α}{args:List I}{mem:Mem}(h:bk a args mem):DD bk res args mem=some (res a mem):=by
 have J:∃b,bk b args mem:=⟨a,h⟩;unfold DD;rw[dif_pos J,uniq _ _ _ _ (rD J) h]
def Q6 {α:Type}{bk:α->List I->Mem->Prop}{res:α->Mem->I×Mem}{args:List I}{mem:Mem}{x:I×Mem}(h:DD bk res args mem=some x):∃a,bk a args mem/\x=res a mem:=by
 unfold DD at h
 split at h
 ·rename_i J;exact⟨_,rD J,(mN h).symm⟩
 ·cases h
def vY:Nat->Nat->List Int
 |0,_=>[]
 |f+1,n=>if n=0 then [] else ((n%1048576:Nat):Int)::vY f (n/1048576)
def aH (n:Nat):List Int:=vY n n
def aX:List Int->Int
 | []=>0
 |d::r=>d+1048576*aX r
def rI (d:Int)(r:List Int):aX (d::r)=d+1048576*aX r:=rfl
def dZ (l:List Int):Prop:=∀d∈l,0<=d/\d<1048576
def fj:List Int->List Int
 | []=>[]
 |d::r=>if fj r=[] then (if d=0 then [] else [d]) else d::fj r
def aJ (n:Int):List Data:=[.int .i64 n]
def iO (b:Int):(aJ b).length=1:=rfl
def vZ (b:Int):((aJ b).map I.M).all I.one=true:=rfl
def fQ:∀a b:Int,aJ a=aJ b->a=b:=by intro a b h;simpa [aJ] using h
def akM:∀(f g n:Nat),n<=f->n<=g->vY f n=vY g n:=by
 intro f
 induction f with
 |zero =>
      intro g n h _;obtain rfl:n=0:=by omega
      cases g<;>simp[vY]
 |succ f aD =>
  intro g n E G
  cases g with
  |zero =>
       obtain rfl:n=0:=by omega
       simp[vY]
  |succ g =>
   unfold vY
   by_cases aE:n=0
   ·rw[aq aE,aq aE]
   ·rw[ar aE,ar aE,aD g (n/1048576) (by omega) (by omega)]
def qB:aH 0=[]:=rfl
def sQ {n:Nat}(h:0<n):aH n=((n%1048576:Nat):Int)::aH (n/1048576):=by
 unfold aH;obtain⟨k,rfl⟩:∃k,n=k+1:=⟨n-1,by omega⟩
 conv=>lhs;unfold vY
 rw[ar (by omega),akM k ((k+1)/1048576) _ (by omega) (by omega)]
def kr (n:Nat):aX (aH n)=n:=by
 induction n using QN with
 |_ n aD =>
  rcases jh n with rfl|h
  ·rfl
  ·rw[sQ h];unfold aX;rw[aD _ (by omega)];omega
def Hw {a b:Nat}(h:aH a=aH b):a=b:=by
 have:=congrArg aX h;rw[kr,kr] at this;omega
def lp (n:Nat):dZ (aH n):=by
 induction n using QN with
 |_ n aD =>
  rcases jh n with rfl|h
  ·intro d ae;cases ae
  ·rw[sQ h];intro d ae;rcases hq.1 ae with rfl|ae
   ·omega
   ·exact aD _ (by omega) d ae
def xN {n:Nat}:aH n=[]↔n=0:=by
 constructor
 ·intro h;exact Hw (b:=0) h
 ·rintro rfl;rfl
def nr {l:List Int}(h:dZ l):0<=aX l:=by
 induction l with
 |nil=>exact Int.le_refl _
 |cons d r aD =>
  have E:=h d (by simp);have G:=aD λx J=>h x (by simp[J]);unfold aX;omega
def A4 {d:Int}{r:List Int}:dZ (d::r)↔(0<=d/\d<1048576)/\dZ r :=
 ⟨λh=>⟨h d (by simp),λx J=>h x (by simp[J])⟩,λh x J=>(hq.1 J).elim (λe=>e ▸ h.1) (h.2 x)⟩
def A5 {a b:List Int}:dZ (a++b)↔dZ a/\dZ b :=
 ⟨λh=>⟨λx J=>h x (by simp[J]),λx J=>h x (by simp[J])⟩,λh x J=>(hv.1 J).elim (h.1 x) (h.2 x)⟩
def A6 (a b:List Int):aX (a++b)=aX a+1048576^(D a)*aX b:=by
 induction a with
 |nil=>simp[aX]
 |cons d r aD =>
  simp only[lo,aX,aD,jt,lZ];rw[hz]
  have:(1048576:Int)*(1048576^(D r)*aX b)=1048576^(D r)*1048576*aX b:=by
   rw[mj (1048576^(D r)) 1048576,hA]
  omega
def xO {l:List Int}(h:dZ l):aX l<1048576^(D l):=by
 induction l with
 |nil=>simp[aX]
 |cons d r aD =>
  rw[A4] at h;have G:=aD h.2;simp only[aX,jt,lZ];omega
def YS (l:List Int):fj (l++[0])=fj l:=by
 induction l with
 |nil=>simp[fj]
 |cons d r aD=>simp only[lo,fj,aD]
def YT (l:List Int){d:Int}(h:d≠0):fj (l++[d])=l++[d]:=by
 induction l with
 |nil=>simp[fj,h]
 |cons x r aD=>simp only[lo,fj,aD];simp
def xP {l:List Int}(h:dZ l):fj l=aH (aX l).toNat:=by
 induction l with
 |nil=>rfl
 |cons d r aD =>
  rw[A4] at h;have Q:=aD h.2;have ai:=nr h.2;unfold fj;rw[Q,rI]
  by_cases aP:aX r=0
  ·rw[aP]
   by_cases ae:d=0
   ·simp[ae,qB]
   ·rw[aq (by rfl),ar ae];rw[sQ (by omega)];rw[show (d+1048576*0).toNat/1048576=0 by omega,qB]
    congr 1
    omega
  ·rw[ar (by rw[xN];omega)];rw[sQ (n:=(d+1048576*aX r).toNat) (by omega)]
   congr 1
   ·omega
   ·congr 1;omega
def YU (n:Nat):fj (aH n)=aH n:=by
 rw[xP (lp n),kr];simp
def canon {l:List Int}(h:dZ l)(ad:l.getLast?≠some 0):l=aH (aX l).toNat:=by
 rw[<-xP h];rcases Q7 l with rfl|⟨r,d,rfl⟩
 ·rfl
 ·rw[Q8] at ad ⊢;rw[YT];rintro rfl;simp at ad
def YV (n:Nat):(aH n).getLast?≠some 0:=by
 intro h
 obtain⟨r,Q⟩:∃r,aH n=r++[0]:=by
  rcases Q7 (aH n) with e|⟨r,d,e⟩
  ·rw[e] at h;cases h
  ·rw[Q8] at e;rw[e] at h;simp at h;subst h;exact⟨r,e⟩
 have E:=YU n;rw[Q,YS] at E
 have G:(fj r).length<=D r:=by
  clear E Q h
  induction r with
  |nil=>simp[fj]
  |cons d r aD=>unfold fj;split<;>(try split)<;>simp<;>omega
 rw[E] at G;simp at G;omega
def fR {n k:Nat}:(aH n).length<=k↔n<1048576^k:=by
 induction k generalizing n with
 |zero =>
      rw[Nat.pow_zero];constructor
      ·intro h;have:=qt (Nat.le_zero.1 h);rw[xN] at this;omega
      ·intro h;obtain rfl:n=0:=by omega
       simp[qB]
 |succ k aD =>
  rcases jh n with rfl|h
  ·simp[qB];exact DE (by simp)
  ·rw[sQ h,jt,sR];have:=aD (n:=n/1048576);rw[Nat.add_le_add_iff_right,this];rw[YW (by omega)]
def A7 {n:Nat}(h:0<n)(E:n<1048576):aH n=[(n:Int)]:=by
 rw[sQ h,QZ E,Hs E];rfl
def Hx (l:List Int)(i:Nat):aX l=aX (l.take i)+1048576^(min i (D l))*aX (l.drop i):=by
 conv=>lhs;rw[<-Hl i l]
 rw[A6,hg]
def xQ (n:Int)(h:0<=n/\n<18446744073709551616):IntKind.u64.wrap n=n:=by
 simp[IntKind.wrap,IntKind.bits,IntKind.signed];omega
def xR (n:Int):bits .and .i64 n 1048575=n%1048576:=by
 have G:(1048575:Int)=((2^20-1:Nat):Int):=by decide
 have E:n%18446744073709551616%1048576=n%1048576:=by omega
 obtain⟨a,a2⟩:∃a:Nat,(a:Int)=n%18446744073709551616:=⟨(n%18446744073709551616).toNat,by omega⟩
 have e:BitVec.ofInt 64 n=BitVec.ofNat 64 a:=by
  apply BitVec.eq_of_toInt_eq;rw[BitVec.toInt_ofInt,BitVec.toInt_ofNat',a2];simp[YX,YY]
 have az:bits .and .i64 n 1048575=bits .and .i64 (a:Int) 1048575:=by
  simp only[bits];rw[show IntKind.i64.bits=64 from rfl,e,BitVec.ofInt_natCast]
 rw[az,<-E,<-a2,G];have Q9:a<2^64:=by omega
 simp only[bits,BitVec.ofInt_natCast,BitVec.toNat_and,BitVec.toNat_ofNat,show IntKind.i64.bits=64 from rfl,Hs Q9];rw[show (2^20-1:Nat)%2^64=2^20-1 by decide,YZ,wrap64 _ (by omega) (by omega)]
 omega
def Y0 (n:Int)(h:0<=n/\n<18446744073709551616):bits .and .u64 n 1048575=n%1048576:=by
 have:=bits_mask .u64 64 (by decide) (λn E G=>xQ n ⟨E,by omega⟩) 20 (by decide) n h.1 (by omega)
 simpa using this
def Ra (x y:Int)(J:0<=x)(fY:x<8796093022208)(af:0<=y/\y<1048576):bits .or .i64 (x*1048576) y=x*1048576+y:=by
 refine bits_join .i64 63 (by decide) (λn E G=>wrap64 n (by omega) (by omega)) 20 _ _ (by omega) (by omega) (by omega) af.1 (by omega) (by omega)
def akN (n:Int):n.fdiv (2^20)=n/1048576:=by
 rw[Int.fdiv_eq_ediv_of_nonneg _ (by decide)];rfl
def uy (n:Int):n.fdiv (2^min (A8 20) 64)=n/1048576:=akN n
def DF:FuncId:=23
def Rb:FuncId:=158
def Hy:FuncId:=84
def xS:FuncId:=14
def Hz:FuncId:=17
def lq:FuncId:=67
def A9:FuncId:=22
def Rc:FuncId:=59
def HA:FuncId:=57
def rJ:FuncId:=213
def Rd:FuncId:=214
def LV:FuncId:=215
def sS:FuncId:=81
def Re:FuncId:=159
def HB:FuncId:=109
def DG:FuncId:=45
def Ba:FuncId:=157
def xT:FuncId:=38
def zj:FuncId:=20
def jW:FuncId:=134
def HC:FuncId:=135
def Rf:FuncId:=136
def Rg:FuncId:=71
def sT:FuncId:=72
def Bb:FuncId:=73
def LW:FuncId:=128
def Rh:FuncId:=124
def DH:FuncId:=125
def Ri:FuncId:=228
def Rj:FuncId:=156
def DI:FuncId:=78
def Rk:FuncId:=216
def HD:FuncId:=149
def LX:FuncId:=185
def Rl:FuncId:=108
def DJ:FuncId:=206
def Bc:FuncId:=68
def Rm:FuncId:=69
def sU:FuncId:=147
def v3:FuncId:=94
def HE:FuncId:=137
def ns:FuncId:=138
def Rn:FuncId:=198
def Ro:FuncId:=146
def DK:FuncId:=148
def nt:FuncId:=143
def LY:FuncId:=190
def HF:FuncId:=144
def LZ:FuncId:=191
def sV:FuncId:=192
def HG:FuncId:=229
def zk:FuncId:=230
def DL:FuncId:=113
def akO:FuncId:=183
def Rp:FuncId:=184
def HH:FuncId:=139
def DM:FuncId:=140
def DN:FuncId:=141
def Bd:FuncId:=142
def L0:FuncId:=199
def oT:FuncId:=200
def Rq:FuncId:=201
def Rr:FuncId:=205
def HI:FuncId:=203
def Rs:FuncId:=195
def HJ:FuncId:=197
def rK:FuncId:=225
def L1:FuncId:=202
def DO:FuncId:=196
def HK:FuncId:=194
def rL:FuncId:=226
def Rt:FuncId:=70
def Ru:FuncId:=145
def Rv:FuncId:=204
def DP:FuncId:=900234
def Y1:FuncId:=900294
def Be:FuncId:=900309
def DQ:FuncId:=28
def uz:FuncId:=82
def DR:FuncId:=30
def uA:FuncId:=86
def L2:FuncId:=32
def v5:FuncId:=88
def Rw:FuncId:=26
def Rx:FuncId:=77
def xU:FuncId:=18
def HL:FuncId:=83
def Bf:FuncId:=64
def Ry:FuncId:=130
def Bg:FuncId:=87
def Bh:FuncId:=62
def uB:FuncId:=129
def Bi:FuncId:=80
def L3:FuncId:=155
def Rz:FuncId:=63
def sW:FuncId:=46
def akP:FuncId:=7
def n0:FuncId:=39
def mX:FuncId:=37
def RA:FuncId:=9
def L4:FuncId:=60
def RB:FuncId:=16
def RC:FuncId:=61
def DS:FuncId:=21
def RD:FuncId:=34
def RE:FuncId:=85
def RF:FuncId:=15
def RG:FuncId:=25
def RH:FuncId:=35
def L5:FuncId:=79
def RI:FuncId:=154
def RJ:FuncId:=212
abbrev F (a b:Nat):bh:=⟨some a,none,.hI (.t b)⟩
abbrev aS (a n b:Nat):bh:=⟨some a,none,.load n false (.t b)⟩
abbrev bm (a n b:Nat):bh:=⟨some a,none,.load n true (.t b)⟩
abbrev a9 (a n b:Nat):bh:=⟨some a,none,.sx n (.t b)⟩
abbrev bq (n a b:Nat):bh:=⟨none,none,.store n (.t a) (.t b)⟩
abbrev bA (a:Nat)(n:Int):bh:=⟨some a,none,.hI (.c (.M (.int .i64 n)))⟩
abbrev bn (a n b:Nat):bh:=⟨some a,none,.ext n (.t b)⟩
abbrev b2 (a n b c:Nat):bh:=⟨some a,none,.tN n (.t b) (.t c)⟩
abbrev b8 (a b:Nat):bh:=⟨some a,none,.len (.t b)⟩
abbrev cw (a:Nat)(b:Bool):bh:=⟨some a,none,.hI (.c (.M (.bool b)))⟩
abbrev ek (a:Nat):bh:=⟨some a,none,.hI (.c .nil)⟩
abbrev bB (a:Nat)(o:BinOp)(b c:Nat):bh:=⟨some a,none,.bin o (.t b) (.t c)⟩
abbrev bs (a:Nat)(o:BinOp)(b:Nat)(n:Int):bh:=⟨some a,none,.bin o (.t b) (.c (.M (.int .i64 n)))⟩
abbrev dv (a b c:Nat):bh:=⟨some a,none,.pick (.t b) (.c (.M (.bool true))) (.t c)⟩
abbrev eP (a b c:Nat):bh:=⟨some a,none,.pick (.t b) (.t c) (.c (.M (.bool false)))⟩
abbrev c9 (a k b:Nat):bh:=⟨some a,none,.box k (.t b)⟩
abbrev n1 (a b:Nat):bh:=⟨some a,none,.tM (.t b)⟩
abbrev fc (a b:Nat):bh:=⟨some a,none,.un .not (.t b)⟩
abbrev gh (a g n b:Nat):bh:=⟨some a,some (g,false),.load n false (.t b)⟩
abbrev jz (a g n b:Nat):bh:=⟨some a,some (g,false),.load n true (.t b)⟩
abbrev gX (a g b:Nat):bh:=⟨some a,some (g,false),.hI (.t b)⟩
abbrev gp (a g n b:Nat):bh:=⟨some a,some (g,false),.sx n (.t b)⟩
abbrev kR (a g b:Nat):bh:=⟨some a,some (g,false),.un .not (.t b)⟩
abbrev pR (a g b:Nat):bh:=⟨some a,some (g,false),.len (.t b)⟩
abbrev Bj (a g n b c:Nat):bh:=⟨some a,some (g,false),.tN n (.t b) (.t c)⟩
abbrev qC (a g:Nat)(o:BinOp)(b c:Nat):bh:=⟨some a,some (g,false),.bin o (.t b) (.t c)⟩
abbrev jA (a g:Nat)(o:BinOp)(b:Nat)(n:Int):bh:=⟨some a,some (g,false),.bin o (.t b) (.c (.M (.int .i64 n)))⟩
abbrev jX (a g n b:Nat):bh:=⟨some a,some (g,true),.load n false (.t b)⟩
abbrev DT (a g n b:Nat):bh:=⟨some a,some (g,true),.load n true (.t b)⟩
abbrev en (a g b:Nat):bh:=⟨some a,some (g,true),.hI (.t b)⟩
abbrev jB (a g n b:Nat):bh:=⟨some a,some (g,true),.sx n (.t b)⟩
abbrev HM (a g b:Nat):bh:=⟨some a,some (g,true),.un .not (.t b)⟩
abbrev HN (a g b:Nat):bh:=⟨some a,some (g,true),.len (.t b)⟩
abbrev zl (a g n b c:Nat):bh:=⟨some a,some (g,true),.tN n (.t b) (.t c)⟩
abbrev DU (a g:Nat)(o:BinOp)(b c:Nat):bh:=⟨some a,some (g,true),.bin o (.t b) (.t c)⟩
abbrev iE (a g:Nat)(o:BinOp)(b:Nat)(n:Int):bh:=⟨some a,some (g,true),.bin o (.t b) (.c (.M (.int .i64 n)))⟩
abbrev ba (n:Int):I:=.M (.int .i64 n)
abbrev uC:List I:=[.nil,ba 0,.nil,ba 0,.nil]
abbrev ez:List I:=[ba 0,.nil,ba 0,.nil]
abbrev dF:List I:=[ba 0,.nil]
abbrev xV:List I:=[.nil,.nil,.nil]
abbrev cX (a k:Nat)(z:List I):bh:=⟨some a,none,.alloc k z⟩
abbrev eK (i:Nat)(c:eF):eF:=.block i (.loop c)
abbrev dT (n i:Nat):eF:=.cond (.t n) .skip (.exit i)
abbrev cF (n:Nat)(l:List bh):eF:=.cond (.t n) (.seq (.ops l) .ret) .skip
abbrev dA (a:Nat)(f:FuncId)(x:Nat):bh:=⟨some a,none,.call f [.t x]⟩
abbrev ch (a:Nat)(f:FuncId)(x y:Nat):bh:=⟨some a,none,.call f [.t x,.t y]⟩
abbrev Y2 (a:Nat)(f:FuncId)(x y z:Nat):bh:=⟨some a,none,.call f [.t x,.t y,.t z]⟩
abbrev xW (a:Nat)(f:FuncId)(x y z u:Nat):bh:=⟨some a,none,.call f [.t x,.t y,.t z,.t u]⟩
abbrev aO (a:Nat)(o:fh):bh:=⟨some a,none,o⟩
abbrev hB (a b:Nat)(o:fh):bh:=⟨some a,some (b,false),o⟩
abbrev fs (a b:Nat)(o:fh):bh:=⟨some a,some (b,true),o⟩
abbrev b9 (n m:Nat)(r:List jI)(b:eF):bN:=⟨n,m,r,b⟩
abbrev fA (n:Nat)(a b:eF):eF:=.cond (.t n) a b
abbrev Y (l:List bh)(c:eF):eF:=.seq (.ops l) c
abbrev gq (l:List bh)(x:List (List Nat))(c:eF):eF:=.seq (.nk l x) c
abbrev akQ:List (List Nat):=[[],[],[],[],[]]
abbrev RK:List (List Nat):=[[],[],[],[],[],[]]
abbrev L6:List (List Nat):=[[],[],[],[],[],[],[]]
abbrev akR:List (List Nat):=[[],[],[],[],[],[],[],[]]
abbrev RL:List (List Nat):=[[],[],[],[],[],[],[],[],[]]
abbrev L7:List (List Nat):=[[],[],[],[],[],[],[],[],[],[]]
abbrev L8:List (List Nat):=[[],[],[],[],[],[],[],[],[],[],[]]
abbrev Y3:List (List Nat):=[[],[],[],[],[],[],[],[],[],[],[],[]]
abbrev Y4:List (List Nat):=[[],[],[],[],[],[],[],[],[],[],[],[],[]]
abbrev L9:List (List Nat):=[[],[],[],[],[],[],[],[],[],[],[],[],[],[]]
abbrev akS:List (List Nat):=[[],[],[],[],[],[],[],[],[],[],[],[],[],[],[]]
abbrev RM:List (List Nat):=[[],[],[],[],[],[],[],[],[],[],[],[],[],[],[],[]]
abbrev akT:List (List Nat):=[[],[],[],[],[],[],[],[],[],[],[],[],[],[],[],[],[]]
abbrev akU:List (List Nat):=[[],[],[],[],[],[],[],[],[],[],[],[],[],[],[],[],[],[]]
abbrev akV:List (List Nat):=[[],[],[],[],[],[],[],[],[],[],[],[],[],[],[],[],[],[],[],[],[],[],[],[],[],[]]
abbrev akW:List (List Nat):=[[],[],[],[],[],[],[],[],[],[],[],[],[],[],[],[],[],[],[],[],[],[],[],[],[],[],[],[]]
def Y5:bN:=b9 49 1 [.t 2] (Y [c9 1 136001 0,cw 2 false] (Y [a9 6 1 1,aS 7 1 6,b8 8 7,F 3 8] (.seq (Y [a9 9 1 1,aS 10 1 9,b8 11 10,bA 12 0] (eK 0 (Y [bB 13 .lss 12 11] (.seq (dT 13 0) (.seq (.block 1 (Y [b2 14 1 10 12,aS 15 1 14,F 5 15] (Y [F 16 5,bs 17 .lss 16 0,F 18 17,gX 19 18 5,jA 20 18 .gtr 19 1048575,dv 21 18 20] (cF 21 [cw 2 false])))) (.ops [bs 22 .add 12 1,F 12 22])))))) (.seq (Y [F 23 3,bs 24 .eql 23 0] (cF 24 [a9 25 0 1,aS 26 1 25,bs 27 .eql 26 0,F 2 27])) (Y [a9 28 0 1,aS 29 1 28,bs 30 .eql 29 1,F 31 30,gp 32 31 0 1,gh 33 31 1 32,hB 34 31 (.bin .eql (.t 33) (.c (.M (.int .i64 (-1))))),dv 35 31 34,F 36 35,en 37 36 3,iE 38 36 .leq 37 60,eP 39 36 38,F 40 39,jB 41 40 1 1,jX 42 40 1 41,en 43 40 3,iE 44 40 .sub 43 1,zl 45 40 1 42 44,jX 46 40 1 45,iE 47 40 .neq 46 0,eP 48 40 47,F 2 48] .ret)))))
def Y6:bN:=b9 44 2 [.cell 4 2 true,.t 5] (Y [c9 2 137002 0,c9 3 137003 1,cX 4 137004 dF,bA 5 0] (.seq (Y [bm 10 2 2,dA 11 jW 10,fc 12 11,F 13 12,jz 14 13 2 3,hB 15 13 (.call jW [.t 14]),kR 16 13 15,dv 17 13 16] (cF 17 [aO 18 (.build dF []),aO 19 (.call sU [.c (.M (.bool false)),.t 18]),bn 20 0 19,bn 21 1 19,bq 2 4 20,F 5 21])) (gq [a9 22 1 2,aS 23 1 22,dA 24 v3 23,a9 25 1 3,aS 26 1 25,F 6 24,F 7 26] L6 (.seq (eK 0 (.seq (Y [F 27 7,b8 28 27,bs 29 .gtr 28 0] (dT 29 0)) (.block 1 (Y [F 31 6,F 32 7,ch 33 HE 31 32,F 30 33,bn 34 0 30,bn 35 1 30,F 8 34,F 9 35] (.ops [F 36 7,F 37 9,F 6 36,F 7 37]))))) (Y [F 38 6,dA 39 v3 38,aO 40 (.call ns [.c (ba 1),.t 39]),aO 41 (.call sU [.c (.M (.bool true)),.t 40]),bn 42 0 41,bn 43 1 41,bq 2 4 42,F 5 43] .ret)))))
def Y7:bN:=b9 32 2 [.cell 4 2 true,.t 5] (Y [c9 2 140002 0,c9 3 140003 1,cX 4 140004 dF,bA 5 0] (.seq (Y [bm 6 2 2,dA 7 jW 6,fc 8 7,F 9 8,jz 10 9 2 3,hB 11 9 (.call jW [.t 10]),kR 12 9 11,dv 13 9 12] (cF 13 [aO 14 (.build dF []),aO 15 (.call sU [.c (.M (.bool false)),.t 14]),bn 16 0 15,bn 17 1 15,bq 2 4 16,F 5 17])) (gq [a9 18 0 2,aS 19 1 18,a9 20 0 3,aS 21 1 20,bB 22 .mul 19 21,a9 23 1 2,aS 24 1 23,a9 25 1 3,aS 26 1 25,ch 27 DK 24 26,ch 28 ns 22 27,aO 29 (.call sU [.c (.M (.bool true)),.t 28]),bn 30 0 29,bn 31 1 29,bq 2 4 30,F 5 31] RM .ret)))
def Y8:bN:=b9 25 1 [.cell 2 2 true] (Y [cX 2 150002 dF] (Y [F 6 0,aO 7 (.conv .u64 (.t 6)),bA 3 1,F 4 7] (.seq (Y [F 8 0,bs 9 .lss 8 0] (fA 9 (.ops [F 10 4,aO 11 (.un .neg (.t 10)),aO 3 (.hI (.c (.M (.int .i64 (-1))))),F 4 11]) .skip)) (Y [ek 5] (.seq (.block 0 (.ghost (.rb 5 150021 1) (.loop  (.seq (Y [F 12 4,aO 13 (.bin .gtr (.t 12) (.c (.M (.int .u64 0))))] (dT 13 0)) (.seq (.block 1 (.ops [F 16 5,F 17 4,aO 18 (.bin .and (.t 17) (.c (.M (.int .u64 1048575)))),aO 19 (.conv .i64 (.t 18)),aO 20 (.ed 150020 false [ba 0] 1 1 [(0,1,.t 19)]),aO 21 (.app 150021 [ba 0] 8 (.t 16) (.t 20)),F 5 21])) (.ops [F 14 4,aO 15 (.bin .shr (.t 14) (.c (.M (.int .u64 20)))),F 4 15])))))) (.seq (.ghost (.freeze 5) (.ops [F 22 3,F 23 5,ch 24 ns 22 23,bq 2 2 24])) .ret))))))
def Y9:bN:=b9 14 1 [.cell 2 2 true] (Y [c9 1 152001 0,cX 2 152002 dF] (.seq (Y [bm 3 2 1,dA 4 jW 3,fc 5 4] (cF 5 [aO 6 (.build dF []),bq 2 2 6])) (gq [a9 7 0 1,aS 8 1 7,aO 9 (.un .neg (.t 8)),a9 10 1 1,aS 11 1 10,dA 12 v3 11,ch 13 ns 9 12,bq 2 2 13] akR .ret)))
def Za:bN:=b9 67 2 [.cell 4 2 true,.cell 5 2 true,.t 6] (Y [c9 2 153002 0,c9 3 153003 1,cX 4 153004 dF,cX 5 153005 dF,bA 6 0] (.seq (.block 0 (Y [bm 10 2 2,dA 11 jW 10,fc 12 11,F 13 12,jz 14 13 2 3,hB 15 13 (.call jW [.t 14]),kR 16 13 15,dv 17 13 16,F 9 17] (fA 9 (Y [aO 18 (.build dF []),aO 19 (.build dF []),bq 2 4 18,bq 2 5 19,bA 6 1] .ret) (Y [a9 21 0 3,aS 22 1 21,bs 23 .eql 22 0,F 20 23] (cF 20 [aO 24 (.build dF []),aO 25 (.build dF []),bq 2 4 24,bq 2 5 25,bA 6 15]))))) (Y [a9 27 1 2,aS 28 1 27,a9 29 1 3,aS 30 1 29,ch 31 HE 28 30,F 26 31,bn 32 0 26,bn 33 1 26,F 7 32,F 8 33] (.seq (Y [a9 34 0 2,aS 35 1 34,a9 36 0 3,aS 37 1 36,bB 38 .mul 35 37,bs 39 .lss 38 0,F 40 39,en 41 40 8,HN 42 40 41,iE 43 40 .gtr 42 0,eP 44 40 43] (fA 44 (gq [F 45 7,aO 46 (.ed 153046 false [ba 0] 1 1 [(0,1,.c (ba 1))]),ch 47 HH 45 46,aO 48 (.call ns [.c (.M (.int .i64 (-1))),.t 47]),a9 49 0 3,aS 50 1 49,a9 51 1 3,aS 52 1 51,F 53 8,ch 54 DM 52 53,ch 55 ns 50 54,bq 2 4 48,bq 2 5 55,bA 6 0] L9 .ret) .skip)) (gq [a9 56 0 2,aS 57 1 56,a9 58 0 3,aS 59 1 58,bB 60 .mul 57 59,F 61 7,ch 62 ns 60 61,a9 63 0 2,aS 64 1 63,F 65 8,ch 66 ns 64 65,bq 2 4 62,bq 2 5 66,bA 6 0] L9 .ret)))))
def Zb:bN:=b9 31 2 [.t 4] (Y [c9 2 154002 0,c9 3 154003 1,bA 4 0] (.seq (Y [bm 5 2 2,dA 6 jW 5,fc 7 6,F 8 7,jz 9 8 2 3,hB 10 8 (.call jW [.t 9]),kR 11 8 10,dv 12 8 11] (cF 12 [bA 4 0])) (.seq (Y [a9 13 0 2,aS 14 1 13,a9 15 0 3,aS 16 1 15,bB 17 .neq 14 16] (cF 17 [a9 18 0 2,aS 19 1 18,a9 20 0 3,aS 21 1 20,ch 22 DN 19 21,F 4 22])) (gq [a9 23 0 2,aS 24 1 23,a9 25 1 2,aS 26 1 25,a9 27 1 3,aS 28 1 27,ch 29 Bd 26 28,bB 30 .mul 24 29,F 4 30] RL .ret))))
def Zc:bN:=b9 17 2 [.cell 4 2 true,.t 5] (Y [c9 3 155003 1,cX 4 155004 dF,bA 5 0] (.seq (.block 0 (Y [F 7 0,fc 8 7,F 6 8] (fA 6 (Y [aO 9 (.build dF []),bq 2 4 9,bA 5 1] .ret) (Y [a9 11 1 3,aS 12 1 11,b8 13 12,bs 14 .gtr 13 60,F 10 14] (cF 10 [aO 15 (.build dF []),bq 2 4 15,bA 5 6]))))) (Y [bm 16 2 3,bq 2 4 16,bA 5 0] .ret)))
def Zd:bN:=b9 170 2 [.t 4,.t 5] (Y [ek 4,ek 5] (.seq (Y [F 19 0,F 20 1,ch 21 Bd 19 20,bs 22 .lss 21 0] (cF 22 [F 23 0,dA 24 v3 23,ek 4,F 5 24])) (.seq (Y [F 25 1,b8 26 25,bs 27 .eql 26 1] (fA 27 (Y [F 29 0,F 30 1,aO 31 (.tN 1 (.t 30) (.c (ba 0))),aS 32 1 31,ch 33 L0 29 32,F 28 33,bn 34 0 28,bn 35 1 28,F 6 34,F 7 35] (Y [F 36 6,F 37 7,aO 38 (.ed 157038 false [ba 0] 1 1 [(0,1,.t 37)]),dA 39 oT 38,F 4 36,F 5 39] .ret)) .skip)) (Y [bA 8 1] (.seq (eK 0 (.seq (Y [F 40 1,F 41 1,b8 42 41,bs 43 .sub 42 1,b2 44 1 40 43,aS 45 1 44,F 46 8,bB 47 .mul 45 46,bs 48 .lss 47 524288] (dT 48 0)) (.block 1 (.ops [F 49 8,bs 50 .mul 49 2,F 8 50])))) (Y [F 51 0,F 52 8,aO 53 (.ed 157053 false [ba 0] 1 1 [(0,1,.t 52)]),aO 54 (.kJ 157054 1 DK [.t 51,.t 53]),aO 55 (.ed 157055 false [ba 0] 1 1 [(0,1,.c (ba 0))]),aO 56 (.app 157056 [ba 0] 8 (.t 54) (.t 55)),F 57 1,F 58 8,aO 59 (.ed 157059 false [ba 0] 1 1 [(0,1,.t 58)]),ch 60 DK 57 59,F 9 56,F 10 60] (.seq (Y [F 61 9,b8 62 61,F 63 0,b8 64 63,bB 65 .eql 62 64] (fA 65 (.ops [F 66 9,aO 67 (.ed 157067 false [ba 0] 1 1 [(0,1,.c (ba 0))]),aO 68 (.app 157068 [ba 0] 8 (.t 66) (.t 67)),F 9 68]) .skip)) (Y [F 69 10,b8 70 69,F 11 70] (Y [F 71 9,b8 72 71,F 73 11,bB 74 .sub 72 73,aO 75 (.lb 157075 [ba 0] 8 (.t 74) (.t 74)),F 12 75] (.seq (Y [F 76 12,b8 77 76,bs 78 .sub 77 1,F 13 78] (eK 2 (.seq (Y [F 79 13,bs 80 .geq 79 0] (dT 80 2)) (.seq (.block 3 (gq [F 83 9,F 84 13,F 85 11,bB 86 .add 84 85,b2 87 1 83 86,aS 88 1 87,aO 89 (.bin .shl (.t 88) (.c (.M (.int .u64 20)))),F 90 9,F 91 13,F 92 11,bB 93 .add 91 92,bs 94 .sub 93 1,b2 95 1 90 94,aS 96 1 95,bB 97 .or 89 96,F 14 97] RM (gq [F 98 14,F 99 10,F 100 11,bs 101 .sub 100 1,b2 102 1 99 101,aS 103 1 102,bB 104 .quo 98 103,F 105 14,F 106 10,F 107 11,bs 108 .sub 107 1,b2 109 1 106 108,aS 110 1 109,bB 111 .rem 105 110,F 15 104,F 16 111] RM (.seq (eK 4 (.seq (gq [F 112 15,bs 113 .geq 112 1048576,F 114 113,gX 115 114 16,jA 116 114 .lss 115 1048576,gX 117 114 116,en 118 117 15,en 119 117 10,en 120 117 11,iE 121 117 .sub 120 2,zl 122 117 1 119 121,jX 123 117 1 122,DU 124 117 .mul 118 123,en 125 117 16,fs 126 117 (.bin .shl (.t 125) (.c (.M (.int .u64 20)))),en 127 117 9,en 128 117 13,en 129 117 11,DU 130 117 .add 128 129,iE 131 117 .sub 130 2,zl 132 117 1 127 131,jX 133 117 1 132,DU 134 117 .or 126 133,DU 135 117 .gtr 124 134,hB 136 114 (.pick (.t 117) (.t 135) (.c (.M (.bool false)))),dv 137 114 136] akV (dT 137 4)) (.block 5 (Y [F 138 15,bs 139 .sub 138 1,F 15 139] (.ops [F 140 16,F 141 10,F 142 11,bs 143 .sub 142 1,b2 144 1 141 143,aS 145 1 144,bB 146 .add 140 145,F 16 146]))))) (.ops [F 147 12,F 148 13,F 149 9,F 150 13,F 151 13,F 152 11,bB 153 .add 151 152,bs 154 .add 153 1,aO 155 (.qn 1 (.t 149) (some (.t 150)) (some (.t 154)) none),F 156 10,F 157 15,Y2 158 Rq 155 156 157,b2 159 1 147 148,bq 1 159 158]))))) (.ops [F 81 13,bs 82 .sub 81 1,F 13 82]))))) (.seq (.ghost (.freeze 9) (.ops [F 161 9,dA 162 oT 161,F 163 8,ch 164 L0 162 163,F 160 164,bn 165 0 160,bn 166 1 160,F 17 165,F 18 166])) (.seq (.ghost (.freeze 12) (.ops [F 167 12,dA 168 oT 167,F 169 17,F 4 168,F 5 169])) .ret))))))))))))
def Ze:bN:=b9 14 2 [.cell 4 2 true] (Y [cX 4 158004 dF] (Y [F 5 1,dA 6 oT 5,F 1 6] (.seq (Y [F 7 1,b8 8 7,bs 9 .eql 8 0] (cF 9 [aO 10 (.build dF []),bq 2 4 10])) (Y [F 11 0,F 12 1,aO 13 (.build dF [(0,1,.t 11),(1,1,.t 12)]),bq 2 4 13] .ret))))
def Zf:bN:=b9 59 1 [.t 2,.t 3] (Y [c9 1 159001 0,bA 2 0,cw 3 false] (.seq (Y [bm 7 2 1,dA 8 jW 7,fc 9 8,F 10 9,gp 11 10 1 1,gh 12 10 1 11,pR 13 10 12,jA 14 10 .gtr 13 4,dv 15 10 14] (cF 15 [bA 2 0,cw 3 false])) (Y [aO 4 (.hI (.c (.M (.int .u64 0))))] (.seq (Y [a9 16 1 1,aS 17 1 16,b8 18 17,bA 19 0] (eK 0 (Y [bB 20 .lss 19 18] (.seq (dT 20 0) (.seq (.block 1 (Y [F 21 19,b2 22 1 17 19,aS 23 1 22,F 5 21,F 6 23] (.seq (Y [F 24 5,bs 25 .eql 24 3,F 26 25,en 27 26 6,iE 28 26 .gtr 27 8,eP 29 26 28] (cF 29 [bA 2 0,cw 3 false])) (.ops [F 30 4,F 31 6,aO 32 (.conv .u64 (.t 31)),F 33 5,aO 34 (.bin .mul (.c (ba 20)) (.t 33)),bB 35 .shl 32 34,bB 36 .or 30 35,F 4 36])))) (.ops [bs 37 .add 19 1,F 19 37])))))) (.seq (.block 2 (Y [a9 39 0 1,aS 40 1 39,bs 41 .lss 40 0,F 42 41,en 43 42 4,fs 44 42 (.bin .leq (.t 43) (.c (.M (.int .u64 9223372036854775808)))),eP 45 42 44,F 38 45] (fA 38 (Y [F 46 4,aO 47 (.un .neg (.t 46)),aO 48 (.conv .i64 (.t 47)),F 2 48,cw 3 true] .ret) (Y [a9 50 0 1,aS 51 1 50,bs 52 .geq 51 0,F 53 52,en 54 53 4,fs 55 53 (.bin .lss (.t 54) (.c (.M (.int .u64 9223372036854775808)))),eP 56 53 55,F 49 56] (cF 49 [F 57 4,aO 58 (.conv .i64 (.t 57)),F 2 58,cw 3 true]))))) (Y [bA 2 0,cw 3 false] .ret))))))
def Zg:bN:=b9 69 2 [.cell 4 2 true,.t 5] (Y [c9 2 160002 0,c9 3 160003 1,cX 4 160004 dF,bA 5 0] (.seq (Y [bm 6 2 2,dA 7 jW 6,fc 8 7,F 9 8,jz 10 9 2 3,hB 11 9 (.call jW [.t 10]),kR 12 9 11,dv 13 9 12] (cF 13 [aO 14 (.build dF []),aO 15 (.call sU [.c (.M (.bool false)),.t 14]),bn 16 0 15,bn 17 1 15,bq 2 4 16,F 5 17])) (.seq (.block 0 (Y [a9 19 0 2,aS 20 1 19,a9 21 0 3,aS 22 1 21,bB 23 .mul 20 22,bs 24 .geq 23 0,F 18 24] (fA 18 (gq [a9 25 0 2,aS 26 1 25,a9 27 0 3,aS 28 1 27,aO 29 (.ed 160029 false [ba 0,ba 0] 1 2 [(0,1,.t 26),(1,1,.t 28)]),dA 30 Rr 29,a9 31 1 2,aS 32 1 31,a9 33 1 3,aS 34 1 33,ch 35 HH 32 34,ch 36 ns 30 35,aO 37 (.call sU [.c (.M (.bool true)),.t 36]),bn 38 0 37,bn 39 1 37,bq 2 4 38,F 5 39] akT .ret) (Y [a9 41 1 2,aS 42 1 41,a9 43 1 3,aS 44 1 43,ch 45 Bd 42 44,bs 46 .lss 45 0,F 40 46] (fA 40 (gq [a9 47 0 3,aS 48 1 47,a9 49 1 3,aS 50 1 49,a9 51 1 2,aS 52 1 51,ch 53 DM 50 52,ch 54 ns 48 53,aO 55 (.call sU [.c (.M (.bool true)),.t 54]),bn 56 0 55,bn 57 1 55,bq 2 4 56,F 5 57] Y4 .ret) .skip))))) (gq [a9 58 0 2,aS 59 1 58,a9 60 1 2,aS 61 1 60,a9 62 1 3,aS 63 1 62,ch 64 DM 61 63,ch 65 ns 59 64,aO 66 (.call sU [.c (.M (.bool true)),.t 65]),bn 67 0 66,bn 68 1 66,bq 2 4 67,F 5 68] Y4 .ret))))
def Zh:bN:=b9 67 2 [.t 4] (Y [ek 4] (Y [F 12 0,b8 13 12,F 14 1,b8 15 14,bB 16 .add 13 15,aO 17 (.lb 161017 [ba 0] 8 (.t 16) (.t 16)),F 5 17] (.seq (Y [F 18 0,b8 19 18,bA 20 0] (eK 0 (Y [bB 21 .lss 20 19] (.seq (dT 21 0) (.seq (.block 1 (Y [F 22 20,b2 23 1 18 20,aS 24 1 23,F 6 22,F 7 24] (Y [bA 8 0] (.seq (Y [F 25 1,b8 26 25,bA 27 0] (eK 2 (Y [bB 28 .lss 27 26] (.seq (dT 28 2) (.seq (.block 3 (Y [F 29 27,b2 30 1 25 27,aS 31 1 30,F 9 29,F 10 31] (Y [F 32 5,F 33 6,F 34 9,bB 35 .add 33 34,b2 36 1 32 35,aS 37 1 36,F 38 7,F 39 10,bB 40 .mul 38 39,bB 41 .add 37 40,F 42 8,bB 43 .add 41 42,F 11 43] (.ops [F 44 5,F 45 6,F 46 9,bB 47 .add 45 46,F 48 11,bs 49 .and 48 1048575,F 50 11,aO 51 (.bin .shr (.t 50) (.c (.M (.int .u64 20)))),b2 52 1 44 47,bq 1 52 49,F 8 51])))) (.ops [bs 53 .add 27 1,F 27 53])))))) (.ops [F 54 5,F 55 6,F 56 1,b8 57 56,bB 58 .add 55 57,b2 59 1 54 58,aS 60 1 59,F 61 8,bB 62 .add 60 61,b2 63 1 54 58,bq 1 63 62]))))) (.ops [bs 64 .add 20 1,F 20 64])))))) (Y [F 65 5,dA 66 oT 65,F 4 66] .ret))))
def Zi:bN:=b9 55 2 [.t 4] (Y [ek 4] (.seq (Y [F 9 0,b8 10 9,F 11 1,b8 12 11,bB 13 .lss 10 12] (fA 13 (.ops [F 14 1,F 15 0,F 0 14,F 1 15]) .skip)) (Y [F 16 0,b8 17 16,bs 18 .add 17 1,aO 19 (.lb 172019 [ba 0] 8 (.t 18) (.t 18)),F 5 19] (Y [bA 6 0] (.seq (Y [F 20 0,b8 21 20,bA 22 0] (eK 0 (Y [bB 23 .lss 22 21] (.seq (dT 23 0) (.seq (.block 1 (Y [F 24 22,b2 25 1 20 22,aS 26 1 25,F 7 24,F 8 26] (Y [F 27 6,F 28 8,bB 29 .add 27 28,F 6 29] (.seq (Y [F 30 7,F 31 1,b8 32 31,bB 33 .lss 30 32] (fA 33 (.ops [F 34 6,F 35 1,F 36 7,b2 37 1 35 36,aS 38 1 37,bB 39 .add 34 38,F 6 39]) .skip)) (Y [F 40 5,F 41 7,F 42 6,bs 43 .and 42 1048575,b2 44 1 40 41,bq 1 44 43] (.ops [F 45 6,aO 46 (.bin .shr (.t 45) (.c (.M (.int .u64 20)))),F 6 46])))))) (.ops [bs 47 .add 22 1,F 22 47])))))) (Y [F 48 5,F 49 0,b8 50 49,F 51 6,b2 52 1 48 50,bq 1 52 51] (Y [F 53 5,dA 54 oT 53,F 4 54] .ret)))))))
def Zj:bN:=b9 43 2 [.t 4] (Y [ek 4] (Y [F 9 0,aO 10 (.kJ 173010 1 v3 [.t 9]),F 5 10] (Y [bA 6 0] (.seq (Y [F 11 5,b8 12 11,bA 13 0] (eK 0 (Y [bB 14 .lss 13 12] (.seq (dT 14 0) (.seq (.block 1 (Y [F 15 13,F 7 15] (Y [F 16 5,F 17 7,b2 18 1 16 17,aS 19 1 18,F 20 6,bB 21 .sub 19 20,F 8 21] (.seq (Y [F 22 7,F 23 1,b8 24 23,bB 25 .lss 22 24] (fA 25 (.ops [F 26 8,F 27 1,F 28 7,b2 29 1 27 28,aS 30 1 29,bB 31 .sub 26 30,F 8 31]) .skip)) (Y [F 32 8,aO 33 (.bin .shr (.t 32) (.c (.M (.int .u64 20)))),bs 34 .and 33 1,F 6 34] (.ops [F 35 5,F 36 7,F 37 8,bs 38 .and 37 1048575,b2 39 1 35 36,bq 1 39 38])))))) (.ops [bs 40 .add 13 1,F 13 40])))))) (Y [F 41 5,dA 42 oT 41,F 4 42] .ret)))))
def Zk:bN:=b9 41 2 [.t 4] (Y [bA 4 0] (.seq (Y [F 6 0,b8 7 6,F 8 1,b8 9 8,bB 10 .neq 7 9] (cF 10 [F 11 0,b8 12 11,F 13 1,b8 14 13,ch 15 DN 12 14,F 4 15])) (.seq (Y [F 16 0,b8 17 16,bs 18 .sub 17 1,F 5 18] (eK 0 (.seq (Y [F 19 5,bs 20 .geq 19 0] (dT 20 0)) (.seq (.block 1 (gq [F 23 0,F 24 5,b2 25 1 23 24,aS 26 1 25,F 27 1,F 28 5,b2 29 1 27 28,aS 30 1 29,bB 31 .neq 26 30] RL (fA 31 (gq [F 32 0,F 33 5,b2 34 1 32 33,aS 35 1 34,F 36 1,F 37 5,b2 38 1 36 37,aS 39 1 38,ch 40 DN 35 39,F 4 40] L7 .ret) .skip))) (.ops [F 21 5,bs 22 .sub 21 1,F 5 22]))))) (Y [bA 4 0] .ret))))
def Zl:bN:=b9 38 2 [.t 4,.t 5] (Y [ek 4,bA 5 0] (Y [F 9 0,b8 10 9,aO 11 (.lb 176011 [ba 0] 8 (.t 10) (.t 10)),F 6 11] (Y [bA 7 0] (.seq (Y [F 12 0,b8 13 12,bs 14 .sub 13 1,F 8 14] (eK 0 (.seq (Y [F 15 8,bs 16 .geq 15 0] (dT 16 0)) (.seq (.block 1 (Y [F 19 7,aO 20 (.bin .shl (.t 19) (.c (.M (.int .u64 20)))),F 21 0,F 22 8,b2 23 1 21 22,aS 24 1 23,bB 25 .or 20 24,F 7 25] (Y [F 26 6,F 27 8,F 28 7,F 29 1,bB 30 .quo 28 29,b2 31 1 26 27,bq 1 31 30] (.ops [F 32 7,F 33 1,bB 34 .rem 32 33,F 7 34])))) (.ops [F 17 8,bs 18 .sub 17 1,F 8 18]))))) (.seq (.ghost (.freeze 6) (.ops [F 35 6,dA 36 oT 35,F 37 7,F 4 36,F 5 37])) .ret)))))
def DV:bN:=b9 21 1 [.t 2] (Y [ek 2] (Y [F 4 0,b8 5 4,F 3 5] (.seq (eK 0 (.seq (Y [F 6 3,bs 7 .gtr 6 0,F 8 7,en 9 8 0,en 10 8 3,iE 11 8 .sub 10 1,zl 12 8 1 9 11,jX 13 8 1 12,iE 14 8 .eql 13 0,eP 15 8 14] (dT 15 0)) (.block 1 (.ops [F 16 3,bs 17 .sub 16 1,F 3 17])))) (Y [F 18 0,F 19 3,aO 20 (.qn 1 (.t 18) none (some (.t 19)) none),F 2 20] .ret))))
def Ma:bN:=b9 78 3 [.t 6] (Y [bA 6 0] (Y [bA 7 0] (.seq (Y [F 12 0,b8 13 12,bA 14 0] (eK 0 (Y [bB 15 .lss 14 13] (.seq (dT 15 0) (.seq (.block 1 (Y [F 16 14,F 8 16] (Y [F 17 0,F 18 8,b2 19 1 17 18,aS 20 1 19,F 21 7,bB 22 .sub 20 21,F 9 22] (.seq (Y [F 23 8,F 24 1,b8 25 24,bB 26 .lss 23 25] (fA 26 (.ops [F 27 9,F 28 2,F 29 1,F 30 8,b2 31 1 29 30,aS 32 1 31,bB 33 .mul 28 32,bB 34 .sub 27 33,F 9 34]) .skip)) (Y [F 35 0,F 36 8,F 37 9,bs 38 .and 37 1048575,b2 39 1 35 36,bq 1 39 38] (.ops [F 40 9,aO 41 (.bin .shr (.t 40) (.c (.M (.int .u64 20)))),aO 42 (.un .neg (.t 41)),F 7 42])))))) (.ops [bs 43 .add 14 1,F 14 43])))))) (.seq (Y [F 44 7,bs 45 .eql 44 0] (cF 45 [F 46 2,F 6 46])) (Y [bA 10 0] (.seq (Y [F 47 0,b8 48 47,bA 49 0] (eK 2 (Y [bB 50 .lss 49 48] (.seq (dT 50 2) (.seq (.block 3 (Y [F 51 49,F 11 51] (Y [F 52 10,F 53 0,F 54 11,b2 55 1 53 54,aS 56 1 55,bB 57 .add 52 56,F 10 57] (.seq (Y [F 58 11,F 59 1,b8 60 59,bB 61 .lss 58 60] (fA 61 (.ops [F 62 10,F 63 1,F 64 11,b2 65 1 63 64,aS 66 1 65,bB 67 .add 62 66,F 10 67]) .skip)) (Y [F 68 0,F 69 11,F 70 10,bs 71 .and 70 1048575,b2 72 1 68 69,bq 1 72 71] (.ops [F 73 10,aO 74 (.bin .shr (.t 73) (.c (.M (.int .u64 20)))),F 10 74])))))) (.ops [bs 75 .add 49 1,F 49 75])))))) (Y [F 76 2,bs 77 .sub 76 1,F 6 77] .ret)))))))
def Zm:bN:=b9 20 2 [.t 4] (Y [bA 4 0] (Y [F 7 0,dA 8 L1 7,F 5 8] (Y [F 9 1,dA 10 L1 9,F 6 10] (.seq (Y [F 11 5] (fA 11 (.seq (Y [F 12 6] (cF 12 [bA 4 0])) (Y [aO 4 (.hI (.c (.M (.int .i64 (-1)))))] .ret)) .skip)) (.seq (Y [F 13 6] (cF 13 [bA 4 1])) (.seq (Y [F 14 0,F 15 1,bB 16 .lss 14 15] (cF 16 [aO 4 (.hI (.c (.M (.int .i64 (-1)))))])) (.seq (Y [F 17 0,F 18 1,bB 19 .gtr 17 18] (cF 19 [bA 4 1])) (Y [bA 4 0] .ret))))))))
def Zn:bN:=b9 18 1 [.t 2] (Y [bA 2 0] (Y [bA 3 0] (.seq (Y [F 6 0,b8 7 6,bA 8 0] (eK 0 (Y [bB 9 .lss 8 7] (.seq (dT 9 0) (.seq (.block 1 (Y [b2 10 1 6 8,aS 11 1 10,F 5 11] (Y [F 12 5,F 13 3,bB 14 .neq 12 13] (cF 14 [F 15 5,F 2 15])))) (.ops [bs 16 .add 8 1,F 8 16])))))) (Y [F 17 3,F 2 17] .ret))))
def Zo:bN:=b9 6 1 [.t 2] (Y [cw 2 false] (Y [F 3 0,F 4 0,bB 5 .neq 3 4,F 2 5] .ret))
def Zp:bN:=b9 9 2 [.t 4] (Y [cw 4 false] (Y [F 5 0,F 6 1,ch 7 Ri 5 6,bs 8 .geq 7 0,F 4 8] .ret))
def Zq:bN:=b9 9 2 [.t 4] (Y [cw 4 false] (Y [F 5 0,F 6 1,ch 7 Rj 5 6,bs 8 .geq 7 0,F 4 8] .ret))
def Zr:bN:=b9 48 2 [.t 4] (Y [ek 4] (.seq (Y [F 9 1,bs 10 .lss 9 0] (fA 10 (.ops [aO 11 (.CT 9 (.c (.M (.str [99,97,110,110,111,116,32,98,101,32,110,101,103,97,116,105,118,101])))),⟨none,none,.bad⟩]) .skip)) (Y [F 13 0,b8 14 13,aO 15 (.conv .u64 (.t 14)),F 16 1,aO 17 (.conv .u64 (.t 16)),ch 18 Rl 15 17,F 12 18,bn 19 0 12,bn 20 1 12,F 5 19,F 6 20] (.seq (Y [F 21 5,aO 22 (.bin .gtr (.t 21) (.c (.M (.int .u64 0)))),F 23 22,gX 24 23 6,hB 25 23 (.bin .gtr (.t 24) (.c (.M (.int .u64 9223372036854775807)))),dv 26 23 25] (fA 26 (.ops [aO 27 (.CT 9 (.c (.M (.str [116,104,101,32,114,101,115,117,108,116,32,111,102,32,40,108,101,110,40,120,41,32,42,32,99,111,117,110,116,41,32,111,118,101,114,102,108,111,119,115])))),⟨none,none,.bad⟩]) .skip)) (Y [F 28 6,aO 29 (.conv .i64 (.t 28)),aO 30 (.lb 131030 ez 64 (.t 29) (.t 29)),F 7 30] (Y [F 31 7,F 32 0,aO 33 (.qo 4 (.t 31) (.t 32)),F 8 33] (.seq (eK 0 (.seq (Y [F 34 8,F 35 7,b8 36 35,bB 37 .lss 34 36] (dT 37 0)) (.block 1 (.nk [F 38 8,F 39 7,F 40 8,aO 41 (.qn 4 (.t 39) (some (.t 40)) none none),F 42 7,F 43 8,aO 44 (.qn 4 (.t 42) none (some (.t 43)) none),aO 45 (.qo 4 (.t 41) (.t 44)),bB 46 .add 38 45,F 8 46] L7)))) (Y [F 47 7,F 4 47] .ret))))))))
def Zs:bN:=b9 19 2 [.t 4] (Y [bA 4 0] (.seq (Y [F 6 0,b8 7 6,bA 8 0] (eK 0 (Y [bB 9 .lss 8 7] (.seq (dT 9 0) (.seq (.block 1 (Y [F 10 8,F 5 10] (Y [F 11 1,F 12 0,F 13 5,b2 14 5 12 13,bm 15 5 14,aO 16 (.jc (.t 11) [.t 15])] (cF 16 [F 17 5,F 4 17])))) (.ops [bs 18 .add 8 1,F 8 18])))))) (Y [aO 4 (.hI (.c (.M (.int .i64 (-1)))))] .ret)))
def HO:bN:=b9 19 2 [.t 4] (Y [bA 4 0] (.seq (Y [F 6 0,b8 7 6,bA 8 0] (eK 0 (Y [bB 9 .lss 8 7] (.seq (dT 9 0) (.seq (.block 1 (Y [F 10 8,F 5 10] (Y [F 11 1,F 12 0,F 13 5,b2 14 4 12 13,bm 15 4 14,aO 16 (.jc (.t 11) [.t 15])] (cF 16 [F 17 5,F 4 17])))) (.ops [bs 18 .add 8 1,F 8 18])))))) (Y [aO 4 (.hI (.c (.M (.int .i64 (-1)))))] .ret)))
def Zt:bN:=b9 8 1 [.t 2] (Y [ek 2] (.seq (Y [F 3 0,aO 4 (.kH false (.t 3))] (cF 4 [ek 2])) (Y [aO 5 (.ed 147005 true [] 4 0 []),F 6 0,aO 7 (.app 147007 ez 64 (.t 5) (.t 6)),F 2 7] .ret)))
def Zu:bN:=b9 8 1 [.t 2] (Y [ek 2] (.seq (Y [F 3 0,aO 4 (.kH false (.t 3))] (cF 4 [ek 2])) (Y [aO 5 (.ed 156005 true [] 1 0 []),F 6 0,aO 7 (.app 156007 [ba 0] 8 (.t 5) (.t 6)),F 2 7] .ret)))
def Zv:bN:=b9 9 2 [.t 4] (Y [cw 4 false] (Y [F 5 0,F 6 1,ch 7 RJ 5 6,bs 8 .geq 7 0,F 4 8] .ret))
def Zw:bN:=b9 19 2 [.t 4] (Y [bA 4 0] (.seq (Y [F 6 0,b8 7 6,bA 8 0] (eK 0 (Y [bB 9 .lss 8 7] (.seq (dT 9 0) (.seq (.block 1 (Y [F 10 8,F 5 10] (Y [F 11 1,F 12 0,F 13 5,b2 14 6 12 13,bm 15 6 14,aO 16 (.jc (.t 11) [.t 15])] (cF 16 [F 17 5,F 4 17])))) (.ops [bs 18 .add 8 1,F 8 18])))))) (Y [aO 4 (.hI (.c (.M (.int .i64 (-1)))))] .ret)))
def RN (l:List Int)(n:Nat)(aE:n<D l)(h:l[n]=0):fj (l.take (n+1))=fj (l.take n):=by
 rw[jl,bw aE,h];exact YS _
def RO (l:List Int)(n:Nat)(aE:n<D l)(h:l[n]≠0):fj (l.take (n+1))=l.take (n+1):=by
 rw[jl,bw aE];exact YT _ h
abbrev v7:List Int->List Data:=λ(l:List Int)=>[.ay (l.map aJ)]
def v8:=bW v7 λ(l:List Int)=>cv (D l<=1000000) (.same (.ay ((fj l).map aJ)))
def Mb:∀a b,v7 a=v7 b->a=b:=by
  intro iP ah h;exact map_inj fQ _ _ (by simpa using h)
@[go_sem] def Mc (l):=cK v8 rfl Mb l rfl
def akX (T:bj):WF T DV v8:=by
 refine cp λl=>cN λZ=>⟨rfl,cq ?_⟩;simp only[DV,v7,cg];have mO:((l.map aJ).all λe=>D e==1)=true:=by simp[aJ]
 refine ao ?_;repeat' (intro h<;>simp only[h,go_sem,go_sem_proc,au]<;>try refine an ?_ ?_)
 refine du [0] [] (λ(n:Nat) tm mem=>n<=D l/\fj l=fj (l.take n)/\tm 3=.M (.int .i64 n)) (λn=>n) (D l) (by refine⟨bI _,by simp,by simp[go_sem]⟩) ?_;intro vs ms aY aT;simp only[go_sem,go_sem_proc,au] at aY aT;subst aY aT;rintro n tm mem O-⟨aE,bx,ab⟩;simp only[go_sem,go_sem_proc,bo] at O;have ak:=O;rcases n with _|n
 ·refine ao ?_;repeat' (intro h<;>simp only[h,go_sem,go_sem_proc,ak,ab,mO,nu,n2,show ¬ ((0:Int)>0) by omega,decide_false,au,show (0:Int).toNat=0 from rfl,show (0:Int)<=0 by omega,ej,LM,cE]<;>try refine an ?_ ?_)
  rw[bx];simp[fj]
 ·have hw:IntKind.i64.wrap (((n+1:Nat):Int)-1)=(n:Int):=by rw[fr _];omega
  have J:l[n]?=some l[n]:=bw (by omega);have hr:((n+1:Nat):Int)>0:=by omega
  have hle:n+1<=D l:=aE
  by_cases aP:l[n]=0
  ·refine ao ?_;repeat' (intro h<;>simp only[h,go_sem,go_sem_proc,ak,ab,hw,J,aP,hr,au,bD,decide_true,aJ,beq_self_eq_true,bo]<;>try refine an ?_ ?_)
   exact⟨n,by omega,by omega,by rw[bx,RN l n (by omega) aP],rfl⟩
  ·have sX:(l[n]==0)=false:=by simpa using aP
   refine ao ?_;repeat' (intro h<;>simp only[h,go_sem,go_sem_proc,ak,ab,hw,J,sX,hr,mO,hle,aJ,au,bD,decide_true,bo,show (0:Int)<=((n+1:Nat):Int) by omega,mY,ej]<;>try refine an ?_ ?_)
   rw[bx,RO l n (by omega) aP,List.map_take]
structure Zx where
 l:List Int
 k:Key
 g:Nat
def sY:List I->Mem->Option (I×Mem):=DD (λ(a:Zx) args mem=>args=[.ref a.k a.g 1 0 (D a.l)]/\mem a.k=some (a.g,a7 aJ a.l)/\D a.l<=1000000) (λa mem=>(.ref a.k a.g 1 0 (fj a.l).length,mem))
def RP {α:Type}{enc:α->List Data}{sz:Nat}(h:∀a,(enc a).length=sz)(L:∀a b,enc a=enc b->a=b):∀(l lV:List α),a7 enc l=a7 enc lV->0<sz->l=lV:=by
 intro l
 induction l with
 |nil =>
  intro lV e aP
  cases lV with
  |nil=>rfl
  |cons b r =>
   have:=congrArg D e;rw[mh h,mh h] at this;simp only[ln,jt,LP,oF] at this;omega
 |cons a r aD =>
  intro lV e aP
  cases lV with
  |nil =>
   have:=congrArg D e;rw[mh h,mh h] at this;simp only[ln,jt,LP,oF] at this;omega
  |cons b C7 =>
   rw[uw,uw] at e;have ad:((enc a).map I.M).length=((enc b).map I.M).length:=by simp[h]
   obtain⟨aK,az⟩:=RQ e ad;have ee:=map_inj (λx y (e:I.M x=I.M y)=>by cases e;rfl) _ _ aK;rw[L _ _ ee,aD C7 az aP]
def RR (l:List Int)(k g:Nat)(mem:Mem)(h:mem k=some (g,a7 aJ l))(ad:(D l)<=1000000):sY [.ref k g 1 0 (D l)] mem=some (.ref k g 1 0 (fj l).length,mem):=by
 unfold sY;refine YR (a:=(⟨l,k,g⟩:Zx)) ?_ ⟨rfl,h,ad⟩;rintro a b args mem ⟨E,G,_⟩ ⟨ab,aM,_⟩;rw[E] at ab;simp only[bo,I.ref.injEq,true_and,and_true] at ab;obtain⟨HP,Md,_⟩:=ab;rw[HP,aM] at G;simp only[bF,ec] at G;have:=RP iO fQ _ _ G.2 (by omega);rw[HP,Md,this]
@[go_sem] def ayG (d:Data)(mem:Mem):sY [.M d] mem=none:=by
 cases J:sY [.M d] mem with
 |none=>rfl
 |some x =>
  unfold sY at J;obtain⟨a,⟨h,_⟩,_⟩:=Q6 J
  cases h
def akY (T:bj)(l:List Int)(k g:Nat)(mem:Mem)(hm:mem k=some (g,a7 aJ l))(Z:(D l)<=1000000):
  wp T DV.body (DC DV.res (.ref k g 1 0 (fj l).length) mem) ⟨jK [.ref k g 1 0 (D l)],mem⟩:=by
 refine xr ?_;simp only[DV];refine ao ?_;repeat' (intro h<;>simp only[h,go_sem,go_sem_proc,hm]<;>try refine an ?_ ?_)
 refine du [0] [] (λ(n:Nat) tm mem'=>n<=D l/\fj l=fj (l.take n)/\tm 3=.M (.int .i64 n)/\mem'=mem) (λn=>n) (D l) (by refine⟨bI _,by simp,by simp[go_sem],rfl⟩) ?_;intro vs ms aY aT;simp only[go_sem,go_sem_proc] at aY aT;subst aY aT;rintro n tm _ O-⟨aE,bx,ab,rfl⟩;simp only[go_sem,go_sem_proc,bo] at O;have ak:=O;rcases n with _|n
 ·refine ao ?_;repeat' (intro h<;>simp only[h,go_sem,go_sem_proc,ak,ab,hm,nu,n2,show ¬ ((0:Int)>0) by omega,decide_false,show (0:Int).toNat=0 from rfl,show (0:Int)<=0 by omega,ej]<;>try refine an ?_ ?_)
  rw[bx];simp[fj]
 ·have hw:IntKind.i64.wrap (((n+1:Nat):Int)-1)=(n:Int):=by rw[fr _];omega
  have J:l[n]?=some l[n]:=bw (by omega);have hr:((n+1:Nat):Int)>0:=by omega
  have hle:n+1<=D l:=aE;have av:n<D l:=aE;have vH:=Hm iO J (f:=0) (n:=1) (by omega);have dN:=mh iO l;rw[dU] at dN;have Zy:n+1<=(a7 aJ l).length:=by omega
  have Zz:oU 1 (pS n (a7 aJ l))=[.M (.int .i64 l[n])]:=by
   unfold cut at vH;rw[dU,ko,aq (by omega)] at vH
   simpa [aJ] using vH
  by_cases aP:l[n]=0
  ·refine ao ?_;repeat' (intro h<;>simp only[h,go_sem,go_sem_proc,ak,ab,hm,hw,av,Zy,Zz,aP,hr,decide_true,dU,beq_self_eq_true]<;>try refine an ?_ ?_)
   exact⟨n,by omega,by omega,by rw[bx,RN l n (by omega) aP],rfl⟩
  ·have sX:(l[n]==0)=false:=by simpa using aP
   refine ao ?_;repeat' (intro h<;>simp only[h,go_sem,go_sem_proc,ak,ab,hm,hw,av,Zy,Zz,sX,hr,hle,decide_true,dU,show (0:Int)<=((n+1:Nat):Int) by omega,mY,ej,Nat.sub_zero]<;>try refine an ?_ ?_)
   rw[bx,RO l n (by omega) aP];simp;omega
abbrev sZ:Int->List Data:=λ(n:Int)=>[.int .i64 n]
def Me:=bW sZ λ(n:Int)=>some (.same (.bool false))
def HQ:∀a b,sZ a=sZ b->a=b:=by
  intro rq rr h;simp only[bo,Data.int.injEq,Data.agg.injEq,Data.ay.injEq,Data.bool.injEq,Data.str.injEq,Data.ptr.injEq,Data.dc.injEq,ec,true_and,and_true] at h ⊢
  first|exact h|simpa [HR,and_assoc] using h|grind
@[go_sem] def ayH (n):=ux Me rfl HQ n rfl
def akZ (T:bj):WF T Zo Me:=by
 refine cp λn=>⟨rfl,cq ?_⟩;simp only[Zo,sZ,cg];refine ao ?_;repeat' (intro h<;>simp only[h,go_sem,go_sem_proc,beq_self_eq_true]<;>try refine an ?_ ?_)
def gN (a b:Int):Int:=if decide (a<b)=true then -1 else if decide (a>b)=true then 1 else 0
abbrev v9:Int×Int->List Data:=λ(a,b)=>[.int .i64 a,.int .i64 b]
def HS:=bW v9 λ(a,b)=>some (.same (.int .i64 (gN a b)))
def Mf:∀a b,v9 a=v9 b->a=b:=by
  rintro⟨cx,cz⟩ ⟨c3,ef⟩ h;simp only[bo,Data.int.injEq,Data.agg.injEq,Data.ay.injEq,Data.bool.injEq,Data.str.injEq,Data.ptr.injEq,Data.dc.injEq,ec,true_and,and_true] at h ⊢
  first|exact h|simpa [HR,and_assoc] using h|grind
@[go_sem] def ayI (a b):=ux HS rfl Mf (a,b) rfl
def ak0 (T:bj)(ak1:T L1=aW Me):WF T Zm HS:=by
 refine cp λ(a,b)=>⟨rfl,cq ?_⟩;simp only[Zm,v9,cg];refine ao ?_;repeat' (intro h<;>simp only[h,go_sem,go_sem_proc,ak1]<;>try refine an ?_ ?_)
 all_goals simp only[gN, *,reduceIte,fP,h8,xH,xI,rE,sO,sP,iD,jV,h9,dm,beq_self_eq_true,bne]
def Bk:List Int->Int
 | []=>0
 |d::r=>if (d==0)=true then Bk r else d
def Mg:=bW v7 λ(l:List Int)=>cv (D l<=1000000) (.same (.int .i64 (Bk l)))
@[go_sem] def ak2 (l):=cK Mg rfl Mb l rfl
def ak3 (T:bj):WF T Zn Mg:=by
 refine cp λl=>cN λZ=>⟨rfl,cq ?_⟩;simp only[Zn,v7,cg];simp only[go_sem,go_sem_proc,au];repeat' (first|refine an ?_ ?_|fail)<;>intro h<;>simp only[h,go_sem,go_sem_proc,au]
 refine du [3,6,7] [] (λi tm mem=>0<=i/\i<=(D l:Int)/\Bk l=Bk (l.drop i.toNat)/\tm 8=.M (.int .i64 i)) (λi=>(D l-i).toNat) 0 (by refine⟨by omega,by omega,by simp,by simp[go_sem]⟩) ?_;intro vs ms aY aT;simp only[go_sem,go_sem_proc] at aY aT;subst aY aT;rintro i tm mem O-⟨zm,L,ag,ct⟩;simp only[go_sem,go_sem_proc,bo] at O;obtain⟨ab,bz,bP⟩:=O;rcases eo (i<D l) with av|bM
 ·obtain⟨x,J,ae,-⟩:=YF l i zm av;simp only[go_sem,go_sem_proc,ab,bz,bP,ct,J,av,zm,aJ,au,bD,decide_true,bo];repeat' (first|refine an ?_ ?_|fail)<;>intro h<;>simp only[h,go_sem,go_sem_proc,ab,bz,bP,ct,J,av,zm,aJ,au,bD,decide_true,bo]
  ·rw[ag,ae];simp[Bk,h]
  ·exact⟨i+1,by omega,by omega,by omega,by rw[ag,ae];simp only[Bk, *,reduceIte,fP,h8,xH,xI,rE,sO,sP,iD,jV,h9,dm,beq_self_eq_true,bne],by rw[fr _]⟩
 ·have he:l.drop i.toNat=[]:=mH (by omega);simp only[go_sem,go_sem_proc,ab,bz,bP,ct,bM,decide_false];repeat' (first|refine an ?_ ?_|fail)<;>intro h<;>simp only[h,go_sem,go_sem_proc,ab,bz,bP,ct,bM,decide_false]
  rw[ag,he];rfl
def RS (l:List Int):((l.map aJ).all λe=>D e==1)=true:=by simp[aJ]
def zn:=bW v7 λ(l:List Int)=>cv (D l<=1000000) (.own 1 (l.map aJ))
@[go_sem] def ak4 (l):=cK zn rfl Mb l rfl
def ak5 (T:bj):WF T Zu zn:=by
 refine cp λl=>cN λZ=>⟨rfl,cq ?_⟩;simp only[Zu,v7,cg]
 have dP:mF 156005 0 1 0 8 (D l) ((l.map aJ).flatten.map .M) (some (0,[]))=some (.ref 156005 1 1 0 (D l),some (156005,1,a7 aJ l)):=by
  have:=Hn iO vZ 156005 0 8 [] l (by simp;omega) (by simp;omega)
  simpa [a7] using this
 have hlen:(a7 aJ l).length=D l:=by rw[mh iO];omega
 refine ao ?_;repeat' (intro h<;>simp only[h,go_sem,go_sem_proc,RS,dP,au]<;>try refine an ?_ ?_)
 rintro b U
 cases b
 ·refine ao ?_;repeat' (intro h<;>simp only[h,go_sem,go_sem_proc,RS,dP,au,qw,dU,hlen]<;>try refine an ?_ ?_)
  rw[aq (by omega),dx (by omega)];unfold a7;rw[AZ _ λd=>rfl];have:=A0 (sz:=1) (l.map aJ) (by simp[aJ]);rw[au] at this;simp[this]
 ·cases l with
  |nil =>
       refine ao ?_;repeat' (intro h<;>simp only[h,go_sem,go_sem_proc,qw,cE]<;>try refine an ?_ ?_)
  |cons x r=>simp at U
abbrev Raw:=Int×List Int
def dG (a:Raw):List Data:=[.int .i64 a.1,.ay (a.2.map aJ)]
def mm (d:Int):Bool:=!decide (d<0) && !decide (d>1048575)
def cP (a:Raw):Bool:=a.2.all mm&&(if (a.2.length==0)=true then a.1==0 else ((a.1==1||a.1 == -1)&&decide (a.2.length<=60)&&(a.2.getLast? != some 0)))
abbrev qD:Int×(List Int)->List Data:=λ(s,l)=>[.agg [.int .i64 s,.ay (l.map aJ)]]
def s0:=bW qD λ(s,l)=>cv (D l<=1000000) (.same (.bool (cP (s,l))))
def DW:∀a b,qD a=qD b->a=b:=by
  rintro⟨s1,iP⟩ ⟨s2,ah⟩ h;simp only[bo,Data.agg.injEq,Data.int.injEq,Data.ay.injEq] at h;exact cO h.1.1.2 (map_inj fQ _ _ h.1.2.1)
@[go_sem] def ayJ (s l):=cK s0 rfl DW (s,l) rfl
def ak6 (T:bj):WF T Y5 s0:=by
 refine cp λ(s,l)=>cN λZ=>⟨rfl,cq ?_⟩;simp only[Y5,qD,cg];refine ao ?_;repeat' (intro h<;>simp only[h,go_sem,go_sem_proc,au]<;>try refine an ?_ ?_)
 refine du [1,3,10,11] [136001] (λi tm mem=>0<=i/\i<=(D l:Int)/\l.all mm=(l.drop i.toNat).all mm/\tm 12=.M (.int .i64 i)) (λi=>(D l-i).toNat) 0 (by refine⟨by omega,by omega,by simp,by simp[go_sem]⟩) ?_;intro vs ms aY aT;simp only[go_sem,go_sem_proc,au] at aY aT;subst aY aT;rintro i tm mem O hm ⟨zm,L,ag,oV⟩;simp only[go_sem,go_sem_proc,bo] at O hm;obtain⟨E,ab,kq,s3⟩:=O;rcases eo (i<D l) with av|bM
 ·obtain⟨x,J,ae,-⟩:=YF l i zm av
  have kS:∀b,mm x=true->b=(l.drop (i+1).toNat).all mm->l.all mm=b:=by
   intro b E G;rw[ag,ae,Dw,E,G,iD]
  have oW:mm x=false->cP (s,l)=false:=by
   intro E;unfold cP;rw[ag,ae,Dw,E]
   rfl
  refine ao ?_;repeat' (intro h<;>simp only[h,go_sem,go_sem_proc,E,ab,kq,s3,oV,hm,J,av,zm,aJ,au,bD,decide_true,bo]<;>try refine an ?_ ?_)
  ·rw[oW (by simp only[mm, *,reduceIte,fP,h8,xH,xI,rE,sO,sP,iD,jV,h9,dm,beq_self_eq_true,bne])]
  ·exact⟨i+1,by omega,by omega,by omega,by refine kS _ ?_ rfl;simp only[mm, *,reduceIte,fP,h8,xH,xI,rE,sO,sP,iD,jV,h9,dm,beq_self_eq_true,bne],by rw[fr _]⟩
  ·rw[oW (by simp only[mm, *,reduceIte,fP,h8,xH,xI,rE,sO,sP,iD,jV,h9,dm,beq_self_eq_true,bne])]
 ·have he:l.drop i.toNat=[]:=mH (by omega);rw[he] at ag;have dn:l.all mm=true:=by rw[ag];rfl
  rcases Q7 l with rfl|⟨r,x,rfl⟩
  ·have ak7:¬ i<(0:Int):=by simpa using bM
   refine ao ?_;repeat' (intro h<;>simp only[h,go_sem,go_sem_proc,E,ab,kq,s3,oV,hm,ak7,decide_false,ln,nu,n2,beq_self_eq_true]<;>try refine an ?_ ?_)
   simp[cP]
  ·rw[Q8] at *;have a6:(((r++[x]).length:Int)==0)=false:=by simp;omega
   have hw:IntKind.i64.wrap (((r++[x]).length:Int)-1)=(D r:Int):=by
    have bG:(r++[x]).length=D r+1:=by simp
    rw[fr _];omega
   have aC:((r++[x]).map aJ)[D r]?=some [.int .i64 x]:=by simp[aJ]
   have Q:cP (s,r++[x])=((s==1||s == -1)&&decide (((r++[x]).length:Int)<=60)&&(x != 0)):=by
    unfold cP;rw[dn];simp only[List.getLast?_append,List.getLast?_singleton];simp;have aK:decide (D r<=59)=decide ((D r:Int)+1<=60):=decide_eq_decide.2 (by omega);have az:(some x != some (0:Int))=(x != 0):=by simp[bne]
    rw[aK,az]
   rw[Q];refine ao ?_;repeat' (intro h<;>simp only[h,go_sem,go_sem_proc,E,ab,kq,s3,oV,hm,bM,a6,hw,aC,decide_false,au]<;>try refine an ?_ ?_)
   all_goals simp only[*,reduceIte,fP,h8,xH,xI,rE,sO,sP,iD,jV,h9,dm,beq_self_eq_true,bne]
def ks (s:Int)(l:List Int):Raw:=if (((fj l).length:Int)==0)=true then (0,[]) else (s,fj l)
abbrev DX:Int×(List Int)->List Data:=λ(s,l)=>[.int .i64 s,.ay (l.map aJ)]
def xX:=bW DX λ(s,l)=>cv (D l<=1000000) (.same (.agg (dG (ks s l))))
def ZA:∀a b,DX a=DX b->a=b:=by
  rintro⟨s1,iP⟩ ⟨s2,ah⟩ h;simp only[bo,Data.int.injEq,Data.ay.injEq] at h;exact cO h.1.2 (map_inj fQ _ _ h.2.1)
@[go_sem] def ayK (s l):=cK xX rfl ZA (s,l) rfl
def ak8 (T:bj)(eS:T oT=xM v8 sY):WF T Ze xX:=by
 refine cp λ(s,l)=>cN λZ=>⟨rfl,cq ?_⟩;simp only[Ze,DX,cg];refine ao ?_;repeat' (intro h<;>simp only[h,go_sem,go_sem_proc,eS,Z,au]<;>try refine an ?_ ?_)
 all_goals simp only[ks,dG,cE, *,reduceIte,fP,h8,xH,xI,rE,sO,sP,iD,jV,h9,dm,beq_self_eq_true,bne]
def kd (l:List Int)(i:Nat)(h:i<D l):aX (l.take (i+1))=aX (l.take i)+1048576^i*l[i]:=by
 rw[jl,bw h,A6,hg,mM (by omega)];simp[aX]
def xY {l:List Int}(h:dZ l)(i:Nat):dZ (l.take i):=λd ae=>h d (AI ae)
def ZB {l:List Int}(i:Nat)(L:i<D l):dZ (l.take (i+1))↔dZ (l.take i)/\(0<=l[i]/\l[i]<1048576):=by
 rw[jl,bw L,A5];simp[A4,dZ]
def ke {l:List Int}(h:dZ l)(i:Nat)(L:i<D l):0<=l[i]/\l[i]<1048576:=h _ (iJ L)
def Bl (o:List Int)(i:Nat)(d:Int):(o.set i d).take i=o.take i:=by
 rw[List.take_set,List.set_eq_of_length_le];rw[hg];omega
def oX (o:List Int):(a7 aJ o).length=D o:=by rw[mh iO];omega
def HT (o:List Int)(i:Nat)(h:i<D o):oU 1 (pS i (a7 aJ o))=[.M (.int .i64 o[i])]:=by
 have vH:=Hm iO (bw h) (f:=0) (n:=1) (by omega);unfold cut at vH;have:=oX o;rw[dU,ko,aq (by omega)] at vH
 simpa [aJ] using vH
def wa (o:List Int)(i:Nat)(d:Int)(h:i<D o):oU i (a7 aJ o)++[.M (.int .i64 d)]++pS (i+1) (a7 aJ o)=a7 aJ (o.set i d):=by
 have:=QV iO h d;unfold jJ at this
 simpa [aJ] using this
def DY (n:Nat):(bT n [I.M (.int .i64 0)]).flatten=a7 aJ (bT n 0):=by
 induction n with
 |zero=>rfl
 |succ n aD=>rw[pF,pF,k9,uw,aD];rfl
def DZ (n:Nat)(h:n<=1000000000):n<=maxLen:=cS h (by decide)
def ZC (l:List Int):(fj l).length<=D l:=by
 induction l with
 |nil=>simp[fj]
 |cons d r aD=>unfold fj;split<;>(try split)<;>simp<;>omega
def ak9 (l:List Int):l.take (fj l).length=fj l:=by
 induction l with
 |nil=>simp[fj]
 |cons d r aD =>
  unfold fj
  split
  ·split<;>simp
  ·simp[aD]
def ala (l:List Int):∀n:Nat,(a7 aJ l).take n=a7 aJ (l.take n):=by
 induction l with
 |nil=>intro n;simp[a7]
 |cons d r aD=>intro n;cases n with
  |zero=>simp[a7]
  |succ n=>rw[uw,QO,uw,<-aD];rfl
def ZD {mem:Mem}{k g n:Nat}{o:List Int}(hm:mem k=some (g,a7 aJ o))(aE:n<=D o):qw 1 mem (.ref k g 1 0 n)=some ((o.take n).map aJ):=by
 unfold qw;dsimp only;rw[hm];simp only[and_self,if_true,dU];rw[oX,aq ⟨trivial,aE⟩,ala];unfold a7;rw[AZ _ λd=>rfl];have:=A0 (sz:=1) ((o.take n).map aJ) (by intro e he;rw[hx] at he;obtain⟨x,-,rfl⟩:=he;rfl);rw[au,hg,mM aE] at this;simp only[jQ,this]
def RT {mem:Mem}{k g:Nat}{o:List Int}{n:Nat}(hm:mem k=some (g,a7 aJ o))(ae:dZ o)(ai:aX o=n):qw 1 mem (.ref k g 1 0 (fj o).length)=some ((aH n).map aJ):=by
 rw[ZD hm (ZC o),ak9,xP ae,ai]
 rfl
def da (n:Nat):Data:=.ay ((aH n).map aJ)
def ZE {x y:Nat}(h:(aH x).length<(aH y).length):x<y:=by
 have E:=(fR (n:=x) (k:=(aH x).length)).1 (bI _);have G:=mt (fR (n:=y) (k:=(aH x).length)).2 (by omega);omega
def ZF {a b:List Int}(a2:dZ a)(U:dZ b)(ad:(D a)=D b)(i:Nat)(L:i<D a)(ae:a.drop (i+1)=b.drop (i+1))(h:a[i]<b[i]):aX a<aX b:=by
 rw[Hx a (i+1),Hx b (i+1),ae,ad,kd a i L,kd b i (by omega)];have E:=xO (xY a2 i);have G:=nr (xY U i);rw[hg,mM (by omega)] at E;generalize (1048576:Int)^i=p at *
 have ab:p*a[i]+p<=p*b[i]:=by
  have:p*(a[i]+1)<=p*b[i]:=xZ (by omega) (by have:=nr (xY a2 i);omega);rw[hz,rM] at this;exact this
 omega
abbrev lr:Nat×Nat->List Data:=λ(x,y)=>[da x,da y]
def D0:=bW lr λ(x,y)=>cv ((aH x).length<=1000000/\(aH y).length<=1000000) (.same (.int .i64 (gN x y)))
def wb:∀a b,lr a=lr b->a=b:=by
  rintro⟨fe,uD⟩ ⟨fJ,wc⟩ h;simp only[bo,da,Data.ay.injEq] at h;exact cO (Hw (map_inj fQ _ _ h.1)) (Hw (map_inj fQ _ _ h.2.1))
@[go_sem] def RU (x y):=cK D0 rfl wb (x,y) rfl
def alb (T:bj)(s4:T DN=aW HS):WF T Zk D0:=by
 refine cp λ(x,y)=>cN λZ=>⟨rfl,cq ?_⟩;simp only[Zk,lr,cg];obtain⟨J,af⟩:=Z;have rN:=lp x;have pT:=lp y;have uE:=kr x;have Bm:=kr y;have Yr:=@ZE x y;have kN:=@ZE y x
 by_cases ad:(aH x).length=(aH y).length
 ·generalize a2:aH x=a at *;generalize U:aH y=b at *;have D1:((D a:Int)==(D b:Int))=true:=by simp[ad]
  simp only[go_sem,go_sem_proc,s4,da,a2,U,D1,au];refine du [0,1] [] (λ(n:Nat) tm mem=>n<=D a/\a.drop n=b.drop n/\tm 5=.M (.int .i64 ((n:Int)-1))) (λn=>n) (D a) (by refine⟨bI _,by rw[Q0,ad,Q0],?_⟩;simp only[tP,reduceIte];rw[fr _]) ?_;intro vs ms aY aT;simp only[go_sem,go_sem_proc,s4,da,a2,U] at aY aT;subst aY aT;rintro n tm mem O-⟨aE,ae,bl⟩;simp only[go_sem,go_sem_proc,s4,bo] at O;obtain⟨ak,E⟩:=O;rcases n with _|n
  ·have e:a=b:=by simpa using ae
   have kp:(x:Int)=y:=by rw[<-uE,<-Bm,e]
   refine ao ?_;repeat' (intro (aw:_=_)<;>simp only[aw,go_sem,go_sem_proc,s4,ak,E,bl,nu,n2,show ¬ ((0:Int)-1>=0) by omega,decide_false]<;>try refine an ?_ ?_)
   rw[kp];simp[gN]
  ·have hw:((n+1:Nat):Int)-1=(n:Int):=by omega
   have oY:a[n]?=some a[n]:=bw (by omega);have oZ:b[n]?=some b[n]:=bw (by omega)
   have Q:gN a[n] b[n]=gN x y\/a[n]=b[n]:=by
    by_cases E:a[n]<b[n]
    ·left
     have:=ZF rN pT ad n aE ae E;simp only[gN];rw[aq (by simpa using E),aq (by simp;omega)]
    ·by_cases G:b[n]<a[n]
     ·left
      have:=ZF pT rN ad.symm n (by omega) ae.symm G;simp only[gN];rw[ar (by simp;omega),aq (by simp;omega),ar (by simp;omega),aq (by simp;omega)]
     ·right;omega
   by_cases aP:a[n]=b[n]
   ·refine ao ?_;repeat' (intro (aw:_=_)<;>simp only[aw,go_sem,go_sem_proc,s4,ak,E,bl,hw,oY,oZ,aP,aJ,show (n:Int)>=0 by omega,decide_true,bD,beq_self_eq_true,bo]<;>try refine an ?_ ?_)
    exact⟨n,by omega,by omega,by rw[gK (by omega:n<D a),gK (by omega:n<D b),aP,ae],by rw[fr _]⟩
   ·have sX:(a[n]==b[n])=false:=by simpa using aP
    refine ao ?_;repeat' (intro (aw:_=_)<;>simp only[aw,go_sem,go_sem_proc,s4,ak,E,bl,hw,oY,oZ,sX,aJ,show (n:Int)>=0 by omega,decide_true,bD,bo]<;>try refine an ?_ ?_)
    rw[Q.resolve_right aP]
 ·have D1:(((aH x).length:Int)==((aH y).length:Int))=false:=by simp;omega
  have Q:gN (aH x).length (aH y).length=gN x y:=by
   simp only[gN];rcases fF (aH x).length (aH y).length with h|h
   ·have:=Yr h;rw[aq (by simp;omega),aq (by simp;omega)]
   ·have:=kN (by omega);rw[ar (by simp;omega),aq (by simp;omega),ar (by simp;omega),aq (by simp;omega)]
  refine ao ?_;repeat' (intro (aw:_=_)<;>simp only[aw,go_sem,go_sem_proc,s4,da,D1,Q,au]<;>try refine an ?_ ?_)
def ZG (p uF sJ qs c a b:Int)(h:uF+p*c=sJ+qs):uF+p*((c+a+b)%1048576)+p*1048576*((c+a+b)/1048576)=sJ+p*a+(qs+p*b):=by
 have E:=zo (c+a+b) 1048576
 have G:p*((c+a+b)%1048576)+p*1048576*((c+a+b)/1048576)=p*(c+a+b):=by
  rw[hA,<-hz,E]
 have ab:p*(c+a+b)=p*c+p*a+p*b:=by rw[hz,hz]
 omega
def HU:=bW lr λ(x,y)=>cv ((aH x).length<=100000/\(aH y).length<=100000) (.own 1 ((aH (x+y)).map aJ))
@[go_sem] def ZH (x y):=cK HU rfl wb (x,y) rfl
def alc (T:bj)(eS:T oT=xM v8 sY):WF T Zi HU:=by
 refine cp λ(x,y)=>cN λZ=>⟨rfl,cq ?_⟩;simp only[Zi,lr,cg];obtain⟨J,af⟩:=Z;simp only[go_sem,go_sem_proc,eS,da,au];refine akh (λst=>∃a b:List Int,dZ a/\dZ b/\D a<=100000/\D b<=D a/\aX a+aX b=x+y/\st.tm 0=.M (.ay (a.map aJ))/\st.tm 1=.M (.ay (b.map aJ))/\st.mem 172019=none) (λh=>?_) (λh=>?_) ?_
 ·refine ao ?_;repeat' (intro (aw:_=_)<;>simp only[aw,go_sem,go_sem_proc,eS,da]<;>try refine an ?_ ?_)
  refine⟨aH y,aH x,lp y,lp x,af,?_,by rw[kr,kr];omega,rfl,rfl⟩
  simp at h;omega
 ·refine ao ?_;repeat' (intro (aw:_=_)<;>simp only[aw,go_sem,go_sem_proc,eS,da]<;>try refine an ?_ ?_)
  refine⟨aH x,aH y,lp x,lp y,J,?_,by rw[kr,kr],rfl,rfl⟩
  simp at h;omega
 rintro⟨tm,mem⟩ ⟨a,b,RV,n3,mi,pU,ai,ak,E,hm⟩;dsimp only at ak E hm;have o0:IntKind.i64.wrap ((D a:Int)+1)=((D a+1:Nat):Int):=by rw[fr _];rfl
 have ka:8*(D a+1)<=140737488355328:=by omega
 have dr:(D a)+1<=maxLen:=DZ _ (by omega);simp only[go_sem,go_sem_proc,eS,ak,E,hm,o0,ka,dr,DY,au]
 refine du [0,1,5,20,21] [] (λ(i,c,o) tm mem=>i<=D a/\(o:List Int).length=D a+1/\dZ (o.take i)/\0<=c/\c<=1/\aX (o.take i)+1048576^i*c=aX (a.take i)+aX (b.take i)/\tm 22=.M (.int .i64 (i:Nat))/\tm 6=.M (.int .i64 c)/\mem 172019=some (0,a7 aJ o))
  (λ(i,_)=>D a-i) (0,0,bT (D a+1) 0) (by refine⟨ej _,by simp,by simp[dZ],by omega,by omega,by simp[aX],?_,?_,?_⟩<;>rfl) ?_
 intro vs ms aY aT;simp only[go_sem,go_sem_proc,eS,ak,E,au] at aY aT;subst aY aT;rintro⟨i,c,o⟩ tm mem O-⟨L,a0,hO,rO,kK,iK,RW,bz,hm⟩;simp only[go_sem,go_sem_proc,eS,bo] at O;obtain⟨ak,E,bl,s5,RX⟩:=O;rcases eo (i<D a) with av|bM
 ·have oY:a[i]?=some a[i]:=bw av;have zg:=ke RV i av;have gD:IntKind.i64.wrap ((i:Int)+1)=((i+1:Nat):Int):=by rw[fr _];rfl
  have rP:i<D o:=by omega
  have kf:i+1<=(a7 aJ o).length:=by rw[oX];omega
  have lu:IntKind.i64.wrap (c+a[i])=c+a[i]:=wrap64 _ (by omega) (by omega);have h3:=λd=>wa o i d rP
  have fin:∀bi:Int,0<=bi->bi<1048576->aX (b.take (i+1))=aX (b.take i)+1048576^i*bi ->
    ∃aZ:Nat×Int×List Int,D a-aZ.1<D a-i/\aZ.1<=D a/\aZ.2.2.length=D a+1/\dZ (aZ.2.2.take aZ.1)/\0<=aZ.2.1/\aZ.2.1<=1/\aX (aZ.2.2.take aZ.1)+1048576^aZ.1*aZ.2.1=aX (a.take aZ.1)+aX (b.take aZ.1) /\
     I.M (Data.int .i64 ((i+1:Nat):Int))=I.M (Data.int .i64 (aZ.1:Int))/\I.M (Data.int .i64 ((c+a[i]+bi)/1048576))=I.M (Data.int .i64 aZ.2.1)/\some (0,a7 aJ (o.set i ((c+a[i]+bi)%1048576)))=some (0,a7 aJ aZ.2.2):=by
   intro bi we ka Bn;refine⟨(i+1,(c+a[i]+bi)/1048576,o.set i ((c+a[i]+bi)%1048576)),by dsimp only;omega,by dsimp only;omega,by simp[a0],?_,by dsimp only;omega,by dsimp only;omega,?_,rfl,rfl,rfl⟩
   ·dsimp only;rw[ZB _ (by simpa using rP),Bl];refine⟨hO,?_⟩;simp only[x0];omega
   ·dsimp only;rw[kd _ _ (by simpa using rP),Bl,kd a i av,Bn,lZ];simp only[x0];exact ZG _ _ _ _ _ _ _ iK
  rcases eo (i<D b) with pV|RY
  ·have oZ:b[i]?=some b[i]:=bw pV;have gr:=ke n3 i pV;have mZ:IntKind.i64.wrap (c+a[i]+b[i])=c+a[i]+b[i]:=wrap64 _ (by omega) (by omega);have jm:decide ((i:Int)<(D b:Int))=true:=dI;have l0:decide ((i:Int)<(D a:Int))=true:=dI;refine ao ?_;repeat' (intro (aw:_=_)<;>simp only[aw,go_sem,go_sem_proc,eS,ak,E,bl,s5,RX,RW,bz,hm,oY,oZ,gD,lu,mZ,jm,l0,av,kf,h3,xR,uy,aJ,dU,au,bD,bo,show i<D a+1 by omega,show ¬ ((20:Int)<0) by omega]<;>try refine an ?_ ?_)
   exact fin b[i] gr.1 gr.2 (kd b i pV)
  ·have jm:decide ((i:Int)<(D b:Int))=false:=dV;have l0:decide ((i:Int)<(D a:Int))=true:=dI;refine ao ?_;repeat' (intro (aw:_=_)<;>simp only[aw,go_sem,go_sem_proc,eS,ak,E,bl,s5,RX,RW,bz,hm,oY,gD,lu,jm,l0,av,kf,h3,xR,uy,aJ,dU,au,bD,bo,show i<D a+1 by omega,show ¬ ((20:Int)<0) by omega]<;>try refine an ?_ ?_)
   have:=fin 0 (by omega) (by omega) (by rw[dx (by omega),dx (by omega)];simp)
   simpa using this
 ·obtain rfl:i=D a:=by omega
  have l0:decide ((D a:Int)<(D a:Int))=false:=dV;have rP:(D a)<D o:=by omega
  have kf:(D a)+1<=(a7 aJ o).length:=by rw[oX];omega
  have h3:=λd=>wa o (D a) d rP
  have RZ:dZ (o.set (D a) c):=by
   have:o.set (D a) c=(o.set (D a) c).take (D a+1):=by rw[dx (by simp[a0])]
   rw[this,ZB _ (by simpa using rP),Bl];refine⟨hO,?_⟩;simp only[x0];omega
  have R0:aX (o.set (D a) c)=x+y:=by
   have:o.set (D a) c=(o.set (D a) c).take (D a+1):=by rw[dx (by simp[a0])]
   rw[this,kd _ _ (by simpa using rP),Bl];simp only[x0];rw[iK,dx (bI _),dx pU,ai]
  have fz:=RR (o.set (D a) c) 172019 0 (aR mem 172019 0 (a7 aJ (o.set (D a) c))) (by simp[aR]) (by simp[a0];omega);rw[gg,a0] at fz;have eE:=RT (mem:=aR mem 172019 0 (a7 aJ (o.set (D a) c))) (k:=172019) (g:=0) (n:=x+y) (by simp[aR]) RZ (by rw[R0];rfl);refine ao ?_;repeat' (intro (aw:_=_)<;>simp only[aw,go_sem,go_sem_proc,eS,ak,E,bl,s5,RX,RW,bz,hm,l0,kf,h3,fz,eE,dU,au,show (D a)<D a+1 by omega]<;>try refine an ?_ ?_)
def ZI (n:Int):bits .and .i64 (n/1048576) 1=n/1048576%2:=by
 generalize n/1048576=m;have G:(1:Int)=((2^1-1:Nat):Int):=by decide
 have E:m%18446744073709551616%2=m%2:=by omega
 obtain⟨a,a2⟩:∃a:Nat,(a:Int)=m%18446744073709551616:=⟨(m%18446744073709551616).toNat,by omega⟩
 have e:BitVec.ofInt 64 m=BitVec.ofNat 64 a:=by
  apply BitVec.eq_of_toInt_eq;rw[BitVec.toInt_ofInt,BitVec.toInt_ofNat',a2];simp[YX,YY]
 have az:bits .and .i64 m 1=bits .and .i64 (a:Int) 1:=by
  simp only[bits];rw[show IntKind.i64.bits=64 from rfl,e,BitVec.ofInt_natCast]
 rw[az,<-E,<-a2];have Q9:a<2^64:=by omega
 conv=>lhs;rw[G]
 simp only[bits,BitVec.ofInt_natCast,BitVec.toNat_and,BitVec.toNat_ofNat,show IntKind.i64.bits=64 from rfl,Hs Q9];rw[show (2^1-1:Nat)%2^64=2^1-1 by decide,YZ,wrap64 _ (by omega) (by omega)]
 omega
def R1 (o:List Int)(j:Nat)(d:Int)(h:j<D o):aX (o.set j d)=aX o+1048576^j*(d-o[j]):=by
 induction o generalizing j with
 |nil=>simp at h
 |cons x r aD =>
  cases j with
  |zero=>simp[aX];omega
  |succ j =>
   simp only[List.set_cons_succ,rI,List.getElem_cons_succ,lZ];rw[aD j (by simpa using h),hz,<-hA,mj 1048576 (1048576^j)];omega
def x1 {o:List Int}(h:dZ o)(j:Nat){d:Int}(ae:0<=d/\d<1048576):dZ (o.set j d):=by
 intro x J;rcases List.mem_or_eq_of_mem_set J with E|E
 ·exact h x E
 ·rw[E];exact ae
def ald (p uF sJ qs c a b:Int)(h:uF=sJ-qs+p*c):uF+p*((a-c-b)%1048576)=sJ+p*a-(qs+p*b)-p*1048576*((a-c-b)/1048576):=by
 have E:=zo (a-c-b) 1048576
 have G:p*((a-c-b)%1048576)+p*1048576*((a-c-b)/1048576)=p*(a-c-b):=by
  rw[hA,<-hz,E]
 have ab:p*(a-c-b)=p*a-p*c-p*b:=by rw[D2,D2]
 omega
def HV:=bW lr λ(x,y)=>cv ((aH x).length<=100000/\y<=x) (.own 1 ((aH (x-y)).map aJ))
@[go_sem] def R2 (x y):=cK HV rfl wb (x,y) rfl
def ale (T:bj)(g6:T v3=aW zn)(eS:T oT=xM v8 sY):WF T Zj HV:=by
 refine cp λ(x,y)=>cN λZ=>⟨rfl,cq ?_⟩;simp only[Zj,lr,cg];obtain⟨J,ZJ⟩:=Z;have rN:=lp x;have pT:=lp y;have uE:=kr x;have Bm:=kr y
 have kt:(aH y).length<=(aH x).length:=by
  rw[fR];exact wg ZJ (fR.1 (bI _))
 generalize a2:aH x=a at *;generalize U:aH y=b at *;have mi:(D a)<=1000000:=by omega
 simp only[go_sem,go_sem_proc,g6,eS,da,a2,U,mi,au]
 refine du [1,5,12] [] (λ(i,c,o) tm mem=>i<=D a/\(o:List Int).length=D a/\dZ o/\o.drop i=a.drop i/\(c=0\/c=1)/\aX (o.take i)=aX (a.take i)-aX (b.take i)+1048576^i*c/\tm 13=.M (.int .i64 (i:Nat))/\tm 6=.M (.int .i64 c)/\mem 173010=some (0,a7 aJ o))
  (λ(i,_)=>D a-i) (0,0,a) (by refine⟨ej _,rfl,rN,rfl,.inl rfl,by simp[aX],?_,?_,?_⟩<;>rfl) ?_
 intro vs ms aY aT;simp only[go_sem,go_sem_proc,g6,eS,da,a2,U,au] at aY aT;subst aY aT;rintro⟨i,c,o⟩ tm mem O-⟨L,a0,hO,wh,alf,iK,o1,bz,hm⟩;simp only[go_sem,go_sem_proc,g6,eS,bo] at O;obtain⟨E,bl,oV⟩:=O;rcases eo (i<D a) with av|bM
 ·have rP:i<D o:=by omega
  have alg:o[i]=a[i]:=by
   have E:=gK rP;have G:=gK av;rw[wh,G] at E;exact (Bo E).1.symm
  have zg:=ke rN i av;have gD:IntKind.i64.wrap ((i:Int)+1)=((i+1:Nat):Int):=by rw[fr _];rfl
  have kf:i+1<=(a7 aJ o).length:=by rw[oX];omega
  have m0:=HT o i rP;rw[alg] at m0;have lu:IntKind.i64.wrap (a[i]-c)=a[i]-c:=wrap64 _ (by omega) (by omega);have h3:=λd=>wa o i d rP
  have fin:∀bi:Int,0<=bi->bi<1048576->aX (b.take (i+1))=aX (b.take i)+1048576^i*bi ->
    ∃aZ:Nat×Int×List Int,D a-aZ.1<D a-i/\aZ.1<=D a/\aZ.2.2.length=D a/\dZ aZ.2.2/\aZ.2.2.drop aZ.1=a.drop aZ.1/\(aZ.2.1=0\/aZ.2.1=1)/\aX (aZ.2.2.take aZ.1)=aX (a.take aZ.1)-aX (b.take aZ.1)+1048576^aZ.1*aZ.2.1 /\
     I.M (Data.int .i64 ((i+1:Nat):Int))=I.M (Data.int .i64 (aZ.1:Int))/\I.M (Data.int .i64 ((a[i]-c-bi)/1048576%2))=I.M (Data.int .i64 aZ.2.1)/\some (0,a7 aJ (o.set i ((a[i]-c-bi)%1048576)))=some (0,a7 aJ aZ.2.2):=by
   intro bi we ka Bn;have aL:(a[i]-c-bi)/1048576=0\/(a[i]-c-bi)/1048576 = -1:=by omega
   refine⟨(i+1,(a[i]-c-bi)/1048576%2,o.set i ((a[i]-c-bi)%1048576)),by dsimp only;omega,by dsimp only;omega,by simp[a0],x1 hO i (by omega),?_,by dsimp only;omega,?_,rfl,rfl,rfl⟩
   ·dsimp only;rw[ry (by omega)];have E:=gK rP;have G:=gK av;rw[wh,G] at E;exact (Bo E).2.symm
   ·dsimp only;rw[kd _ _ (by simpa using rP),Bl,kd a i av,Bn,lZ];simp only[x0];rw[ald _ _ _ _ _ _ _ iK];rcases aL with e|e<;>rw[e]<;>simp
  have l0:decide ((i:Int)<(D a:Int))=true:=dI;rcases eo (i<D b) with pV|RY
  ·have oZ:b[i]?=some b[i]:=bw pV;have gr:=ke pT i pV;have mZ:IntKind.i64.wrap (a[i]-c-b[i])=a[i]-c-b[i]:=wrap64 _ (by omega) (by omega);have jm:decide ((i:Int)<(D b:Int))=true:=dI;refine ao ?_;repeat' (intro h<;>simp only[h,go_sem,go_sem_proc,g6,eS,E,bl,oV,o1,bz,hm,oZ,gD,lu,mZ,jm,l0,av,kf,m0,h3,xR,ZI,uy,aJ,dU,au,bD,bo,show ¬ ((20:Int)<0) by omega]<;>try refine an ?_ ?_)
   exact fin b[i] gr.1 gr.2 (kd b i pV)
  ·have jm:decide ((i:Int)<(D b:Int))=false:=dV;refine ao ?_;repeat' (intro h<;>simp only[h,go_sem,go_sem_proc,g6,eS,E,bl,oV,o1,bz,hm,gD,lu,jm,l0,av,kf,m0,h3,xR,ZI,uy,aJ,dU,au,bD,bo,show ¬ ((20:Int)<0) by omega]<;>try refine an ?_ ?_)
   have:=fin 0 (by omega) (by omega) (by rw[dx (by omega),dx (by omega)];simp)
   simpa using this
 ·obtain rfl:i=D a:=by omega
  have l0:decide ((D a:Int)<(D a:Int))=false:=dV;rw[dx (by omega),dx (by omega),dx (by omega),uE,Bm] at iK
  have R0:aX o=((x-y:Nat):Int):=by
   have E:=xO hO;rw[a0] at E;rcases alf with rfl|rfl
   ·rw[iK];omega
   ·omega
  have fz:=RR o 173010 0 mem hm (by omega);rw[a0] at fz;have eE:=RT hm hO R0;refine ao ?_;repeat' (intro h<;>simp only[h,go_sem,go_sem_proc,g6,eS,E,bl,oV,o1,bz,hm,l0,fz,eE,au]<;>try refine an ?_ ?_)
def ZK (p uF V c x y x2:Int)(h:uF+p*c=V):uF+p*((x2+x*y+c)%1048576-x2)+p*1048576*((x2+x*y+c)/1048576)=V+p*(x*y):=by
 have E:=zo (x2+x*y+c) 1048576
 have G:p*((x2+x*y+c)%1048576)+p*1048576*((x2+x*y+c)/1048576)=p*(x2+x*y+c):=by
  rw[hA,<-hz,E]
 have ab:p*(x2+x*y+c)=p*x2+p*(x*y)+p*c:=by rw[hz,hz]
 rw[D2];omega
def ZL {o x y c:Int}(a0:0<=o/\o<1048576)(J:0<=x/\x<1048576)(af:0<=y/\y<1048576)(Z:0<=c/\c<1048576):
  0<=x*y/\x*y<=1099509530625/\0<=(o+x*y+c)/1048576/\(o+x*y+c)/1048576<1048576:=by
 have E:0<=x*y:=zp J.1 af.1;have G:x*y<=1048575*1048575:=R3 (by omega) (by omega) af.1 (by omega);omega
def ZM {o:List Int}{n j:Nat}(h:o.drop n=bT (D o-n) 0)(aa:n<=j)(av:j<D o):o[j]=0:=by
 have E:(o.drop n)[j-n]?=some o[j]:=by rw[sL,show n+(j-n)=j by omega,bw av]
 rw[h,List.getElem?_replicate] at E
 split at E
 ·exact (mN E).symm
 ·cases E
def ZN {o:List Int}{n:Nat}{d:Int}(h:o.drop n=bT (D o-n) 0)(av:n<D o):(o.set n d).drop (n+1)=bT ((o.set n d).length-(n+1)) 0:=by
 rw[ry (by omega),gg];have E:=gK av;rw[h,show (D o)-n=(D o-(n+1))+1 by omega,pF] at E
 exact (Bo E).2.symm
def HW:=bW lr λ(x,y)=>cv ((aH x).length<=10000/\(aH y).length<=10000) (.own 1 ((aH (x*y)).map aJ))
@[go_sem] def R4 (x y):=cK HW rfl wb (x,y) rfl
def alh (T:bj)(eS:T oT=xM v8 sY):WF T Zh HW:=by
 refine cp λ(x,y)=>cN λZ=>⟨rfl,cq ?_⟩;simp only[Zh,lr,cg];obtain⟨J,af⟩:=Z;have rN:=lp x;have pT:=lp y;have uE:=kr x;have Bm:=kr y;generalize a2:aH x=a at *;generalize U:aH y=b at *;have o0:IntKind.i64.wrap ((D a:Int)+(D b:Int))=((D a+D b:Nat):Int):=by rw[fr _];rfl
 have ka:8*(D a+D b)<=140737488355328:=by omega
 have dr:(D a)+D b<=maxLen:=DZ _ (by omega);simp only[go_sem,go_sem_proc,eS,da,a2,U,o0,ka,dr,DY,au]
 refine du [1,5,18,19] [] (λ(i,o) tm mem=>i<=D a/\(o:List Int).length=D a+D b/\dZ o/\o.drop (i+D b)=bT (D o-(i+D b)) 0/\aX o=aX (a.take i)*y/\tm 20=.M (.int .i64 (i:Nat))/\mem 161017=some (0,a7 aJ o))
  (λ(i,_)=>D a-i) (0,bT (D a+D b) 0) (by
   have aP:∀n,aX (bT n 0)=0:=by
    intro n
    induction n with
    |zero=>rfl
    |succ n aD=>rw[pF,rI,aD];rfl
   refine⟨ej _,by simp,λd ae=>by rw[n4] at ae;omega,by simp,by rw[aP];simp[aX],?_,?_⟩<;>rfl) ?_
 intro vs ms aY aT;simp only[go_sem,go_sem_proc,eS,da,a2,U,o0,au] at aY aT;subst aY aT;rintro⟨i,o⟩ tm mem O-⟨L,a0,hO,mR,iK,s5,hm⟩;simp only[go_sem,go_sem_proc,eS,bo] at O;obtain⟨E,bl,iQ,rQ⟩:=O;rcases eo (i<D a) with av|bM
 ·have oY:a[i]?=some a[i]:=bw av;have zg:=ke rN i av;have rA:=kd a i av;generalize a[i]=g7 at *;have jm:decide ((i:Int)<(D a:Int))=true:=dI;simp only[go_sem,go_sem_proc,eS,E,bl,iQ,rQ,s5,oY,jm,aJ,au,bD,bo]
  refine du [1,5,6,7,18,19,20,25,26] [] (λ((k,c,o):Nat×Int×List Int) tm mem=>k<=D b/\D o=D a+D b/\dZ o/\o.drop (i+D b)=bT (D o-(i+D b)) 0/\0<=c/\c<1048576/\aX o+1048576^(i+k)*c=aX (a.take i)*y+1048576^i*(g7*aX (b.take k)) /\
    tm 27=.M (.int .i64 (k:Nat))/\tm 8=.M (.int .i64 c)/\mem 161017=some (0,a7 aJ o))
   (λ(k,_)=>D b-k) (0,0,o) (by refine⟨ej _,a0,hO,mR,by omega,by omega,by simp[aX,iK],?_,?_,hm⟩<;>rfl) ?_
  intro vs ms aY aT;simp only[go_sem,go_sem_proc,eS,E,bl,iQ,rQ,s5,aJ,au] at aY aT;subst aY aT;rintro⟨k,c,o⟩ tm mem O-⟨vP,a0,hO,mR,rO,kK,iK,mn,ct,hm⟩;simp only[go_sem,go_sem_proc,eS,bo] at O;obtain⟨E,bl,bz,bP,iQ,rQ,s5,ZO,ZP⟩:=O;rcases eo (k<D b) with HX|HX
  ·have oZ:b[k]?=some b[k]:=bw HX;have D3:=ke pT k HX;have n5:i+k<D o:=by omega
   have R5:=ke hO (i+k) n5;obtain⟨aU,bO,hK,nv⟩:=ZL R5 zg D3 ⟨rO,kK⟩;have jm:decide ((k:Int)<(D b:Int))=true:=dI;have gD:IntKind.i64.wrap ((k:Int)+1)=((k+1:Nat):Int):=by rw[fr _];rfl
   have lu:IntKind.i64.wrap ((i:Int)+(k:Int))=((i+k:Nat):Int):=by rw[fr _];rfl
   have mZ:IntKind.i64.wrap (g7*b[k])=g7*b[k]:=wrap64 _ (by omega) (by omega);have D4:IntKind.i64.wrap (o[i+k]+g7*b[k])=o[i+k]+g7*b[k]:=wrap64 _ (by omega) (by omega);have zq:IntKind.i64.wrap (o[i+k]+g7*b[k]+c)=o[i+k]+g7*b[k]+c:=wrap64 _ (by omega) (by omega);have kf:i+k+1<=(a7 aJ o).length:=by rw[oX];omega
   have m0:=HT o (i+k) n5;have h3:=λd=>wa o (i+k) d n5;have h2:i+k<D a+D b:=by omega
   refine ao ?_;repeat' (intro h<;>simp only[h,go_sem,go_sem_proc,eS,E,bl,bz,bP,iQ,rQ,s5,ZO,ZP,mn,ct,hm,oZ,jm,gD,lu,mZ,D4,zq,h2,kf,m0,h3,xR,uy,aJ,dU,au,bD,bo,show ¬ ((20:Int)<0) by omega]<;>try refine an ?_ ?_)
   refine⟨(k+1,(o[i+k]+g7*b[k]+c)/1048576,o.set (i+k) ((o[i+k]+g7*b[k]+c)%1048576)),by dsimp only;omega,by dsimp only;omega,by simp[a0],x1 hO _ (by omega),?_,hK,nv,?_,rfl,rfl,rfl⟩
   ·dsimp only;rw[ry (by omega),gg,mR]
   ·dsimp only;rw[R1 _ _ _ n5,kd b k HX,<-rk,lZ,ZK _ _ _ _ _ _ _ iK];rw[hz (g7),hz (1048576^i),ZQ]
    have:(1048576:Int)^i*(g7*(1048576^k*b[k]))=1048576^i*1048576^k*(g7*b[k]):=by
     rw[<-hA (g7),mj (g7) (1048576^k),hA (1048576^k),<-hA]
    omega
  ·obtain rfl:k=D b:=by omega
   have jm:decide ((D b:Int)<(D b:Int))=false:=dV;have n5:i+D b<D o:=by omega
   have aP:=ZM mR (bI _) n5;have gD:IntKind.i64.wrap ((i:Int)+1)=((i+1:Nat):Int):=by rw[fr _];rfl
   have lu:IntKind.i64.wrap ((i:Int)+(D b:Int))=((i+D b:Nat):Int):=by rw[fr _];rfl
   have mZ:IntKind.i64.wrap (0+c)=c:=by rw[R6];exact wrap64 _ (by omega) (by omega)
   have kf:i+D b+1<=(a7 aJ o).length:=by rw[oX];omega
   have m0:=HT o (i+D b) n5;rw[aP] at m0;have h3:=λd=>wa o (i+D b) d n5;have h2:i+D b<D a+D b:=by omega
   refine ao ?_;repeat' (intro h<;>simp only[h,go_sem,go_sem_proc,eS,E,bl,bz,bP,iQ,rQ,s5,ZO,ZP,mn,ct,hm,jm,gD,lu,mZ,h2,kf,m0,h3,aJ,dU,au]<;>try refine an ?_ ?_)
   refine⟨(i+1,o.set (i+D b) c),by dsimp only;omega,by dsimp only;omega,by simp[a0],x1 hO _ ⟨rO,kK⟩,?_,?_,rfl,rfl⟩
   ·dsimp only;have:=ZN (d:=c) mR n5;rwa [show i+D b+1=i+1+(D b) by omega] at this
   ·dsimp only;rw[R1 _ _ _ n5,aP,rA];rw[dx (bI _),Bm] at iK;rw[HY,iK,rR,hA]
 ·obtain rfl:i=D a:=by omega
  have jm:decide ((D a:Int)<(D a:Int))=false:=dV;rw[dx (bI _),uE] at iK;have fz:=RR o 161017 0 mem hm (by omega);rw[a0] at fz;have eE:=RT hm hO (n:=x*y) (by rw[iK];rfl);refine ao ?_;repeat' (intro h<;>simp only[h,go_sem,go_sem_proc,eS,E,bl,iQ,rQ,s5,hm,jm,fz,eE,au]<;>try refine an ?_ ?_)
abbrev Mh:Nat×Int->List Data:=λ(x,d)=>[da x,.int .i64 d]
def Mi:=bW Mh λ(x,d)=>cv ((aH x).length<=100000/\0<d/\d<1048576) (.same (.dc [da (x/d.toNat),.int .i64 (x%d.toNat:Nat)]))
def ali:∀a b,Mh a=Mh b->a=b:=by
  rintro⟨fe,d1⟩ ⟨fJ,d2⟩ h;simp only[bo,da,Data.ay.injEq,Data.int.injEq] at h;exact cO (Hw (map_inj fQ _ _ h.1)) h.2.1.2
@[go_sem] def ZR (x d):=cK Mi rfl ali (x,d) rfl
def alj (T:bj)(eS:T oT=xM v8 sY):WF T Zl Mi:=by
 refine cp λ(x,d)=>cN λZ=>⟨rfl,cq ?_⟩;simp only[Zl,Mh,cg];obtain⟨J,wi,jn⟩:=Z;have rN:=lp x;have uE:=kr x;generalize a2:aH x=a at *;have ka:8*D a<=140737488355328:=by omega
 have dr:(D a)<=maxLen:=DZ _ (by omega);have jY:(d=0)=False:=by simp;omega
 simp only[go_sem,go_sem_proc,eS,da,a2,ka,dr,DY,au]
 refine du [0,1,6] [] (λ((n,r,o):Nat×Int×List Int) tm mem=>n<=D a/\D o=D a/\dZ o/\0<=r/\r<d/\aX (a.drop n)=d*aX (o.drop n)+r/\tm 8=.M (.int .i64 ((n:Nat)-1))/\tm 7=.M (.int .i64 r)/\mem 176011=some (0,a7 aJ o))
  (λ(n,_)=>n) (D a,0,bT (D a) 0) (by
   refine⟨bI _,by simp,λd ae=>by rw[n4] at ae;omega,by omega,by omega,by simp[aX],?_,?_,?_⟩
   ·simp only[tP,reduceIte];rw[fr _]
   ·rfl
   ·rfl) ?_
 intro vs ms aY aT;simp only[go_sem,go_sem_proc,eS,da,a2,au] at aY aT;subst aY aT;rintro⟨n,r,o⟩ tm mem O-⟨aE,a0,hO,rS,mo,ai,ct,bP,hm⟩;simp only[go_sem,go_sem_proc,eS,bo] at O;obtain⟨ak,E,bz⟩:=O;rcases n with _|n
 ·have aL:aX o=(x/d.toNat:Nat)/\r=(x%d.toNat:Nat):=by
   rw[oO,oO,uE] at ai;have e:(d.toNat:Int)=d:=by omega
   constructor
   ·rw[ZS,e,ai,wj,ZT _ _ (by omega),R7 rS mo];omega
   ·rw[ZU,e,ai,wj,ZV,R8 rS mo]
  have eG:=Mc o (by omega);rw[xP hO,aL.1] at eG;have fG:I.ref 176011 0 1 0 (D a)=I.ref 176011 0 1 0 (D o):=by rw[a0]
  rw[fG] at bz;refine ao ?_;repeat' (intro h<;>simp only[h,go_sem,go_sem_proc,eS,ak,E,bz,bP,ct,hm,eG,xK iO,nu,n2,show ¬ ((0:Int)-1>=0) by omega,decide_false,mY]<;>try refine an ?_ ?_)
  all_goals rw[aL.2]
 ·have oY:a[n]?=some a[n]:=bw (by omega);have D5:=ke rN n (by omega);have hw:((n+1:Nat):Int)-1=(n:Int):=by omega
  have ji:n<D o:=by omega
  have gD:IntKind.i64.wrap (r*2^min (A8 20) 64)=r*1048576:=by
   rw[show min (A8 20) 64=20 by decide]
   exact wrap64 _ (by omega) (by omega)
  have zr:bits .or .i64 (r*1048576) a[n]=r*1048576+a[n]:=Ra r a[n] rS (by omega) D5;have kT:0<=(r*1048576+a[n])/d:=R9 (by omega) (by omega)
  have s6:(r*1048576+a[n])/d<1048576:=ZW wi (by
   have:(r+1)*1048576<=d*1048576:=lx (by omega) (by omega);rw[mj 1048576 d];omega)
  have zs:(r*1048576+a[n]).tdiv d=(r*1048576+a[n])/d:=D6 (by omega);have Sa:(r*1048576+a[n]).tmod d=(r*1048576+a[n])%d:=HZ (by omega);have lu:IntKind.i64.wrap ((r*1048576+a[n])/d)=(r*1048576+a[n])/d:=wrap64 _ (by omega) (by omega);have kf:n+1<=(a7 aJ o).length:=by rw[oX];omega
  have h3:=λd=>wa o n d ji;have mQ:n<D a:=by omega
  have mZ:IntKind.i64.wrap ((n:Int)-1)=(n:Int)-1:=wrap64 _ (by omega) (by omega);refine ao ?_;repeat' (intro h<;>simp only[h,go_sem,go_sem_proc,eS,ak,E,bz,bP,ct,hm,hw,oY,gD,zr,zs,Sa,lu,mZ,jY,mQ,kf,h3,show (n:Int)>=0 by omega,decide_true,aJ,dU,au,bD,bo,show ¬ ((20:Int)<0) by omega]<;>try refine an ?_ ?_)
  refine⟨(n,(r*1048576+a[n])%d,o.set n ((r*1048576+a[n])/d)),by dsimp only;omega,by dsimp only;omega,by simp[a0],x1 hO n ⟨kT,s6⟩,Sb _ (by omega),Sc _ wi,?_,rfl,rfl,rfl⟩
  dsimp only;rw[gK (by omega:n<D a),gK (by simpa using ji:n<(o.set n ((r*1048576+a[n])/d)).length),rI,rI]
  simp only[x0];rw[ry (by omega),ai];have:=zo (r*1048576+a[n]) d;rw[hz,hz,Sd d 1048576];omega
def pad:Nat->Nat->List Int
 |0,_=>[]
 |n+1,x=>((x%1048576:Nat):Int)::pad n (x/1048576)
def alk (n x:Nat):(pad n x).length=n:=by
 induction n generalizing x with
 |zero=>rfl
 |succ n aD=>simp[pad,aD]
def alm (n x:Nat):dZ (pad n x):=by
 induction n generalizing x with
 |zero=>intro d ae;cases ae
 |succ n aD =>
  unfold pad;rw[A4];exact⟨by omega,aD _⟩
def ZX {l:List Int}(h:dZ l):l=pad (D l) (aX l).toNat:=by
 induction l with
 |nil=>rfl
 |cons d r aD =>
  rw[A4] at h;have E:=nr h.2;have G:=aD h.2;simp only[jt,pad,rI]
  congr 1
  ·omega
  ·rw[show (d+1048576*aX r).toNat/1048576=(aX r).toNat by omega]
   exact G
def aln {n x:Nat}(h:x<1048576^n):aX (pad n x)=x:=by
 induction n generalizing x with
 |zero=>simp at h;subst h;rfl
 |succ n aD =>
  unfold pad;rw[rI,aD (by rw[YW (by omega)];rwa [sR] at h)];omega
def H0 {pre u post:List Int}{i:Nat}(h:i<D u):oU 1 (pS (D pre+i) (a7 aJ (pre++u++post)))=[.M (.int .i64 u[i])]:=by
 rw[HT _ _ (by simp;omega)]
 congr 3
 simp[List.getElem_append,h]
def ZY {pre u post:List Int}{i:Nat}(h:i<D u)(d:Int):oU (D pre+i) (a7 aJ (pre++u++post))++[.M (.int .i64 d)]++pS (D pre+i+1) (a7 aJ (pre++u++post))=a7 aJ (pre++u.set i d++post):=by
 rw[wa _ _ _ (by simp;omega)]
 congr 1
 rw[hj,List.set_append_right _ _ (by omega),DB,List.set_append_left _ _ h,hj]
def Mj (mem:Mem)(k g cd:Nat)(a b:List I):aR (aR mem k g a) k cd b=aR mem k cd b:=by
 funext j
 unfold aR
 split<;>rfl
def alo {mem:Mem}{k g:Nat}{a:List I}(h:mem k=some (g,a)):aR mem k g a=mem:=by
 funext j
 unfold aR
 split
 ·rename_i e;rw[e,h]
 ·rfl
structure H2 where
 pre:List Int
 u:List Int
 post:List Int
 V:Nat
 q:Int
 k:Key
 g:Nat
def Mk (u:List Int)(V:Nat)(q:Int):Int:=if aX u-q*V<0 then aX u-q*V+V else aX u-q*V
def zt (u:List Int)(V:Nat)(q:Int):Int:=if aX u-q*V<0 then q-1 else q
def zu (a:H2):List I:=a7 aJ (a.pre++pad (D a.u) (Mk a.u a.V a.q).toNat++a.post)
def Se (a:H2)(mem:Mem):Prop:=mem a.k=some (a.g,a7 aJ (a.pre++a.u++a.post))/\dZ a.u/\(aH a.V).length<=D a.u/\0<=a.q/\a.q<1048576/\0<=aX a.u-a.q*a.V+a.V/\D a.pre+D a.u<=100000
def H3:List I->Mem->Option (I×Mem):=DD (λ(a:H2) args mem=>args=[.ref a.k a.g 1 (D a.pre) (D a.u),.M (da a.V),.M (.int .i64 a.q)]/\Se a mem)
 (λa mem=>(.M (.int .i64 (zt a.u a.V a.q)),aR mem a.k a.g (zu a)))
def alp {a b:Nat}(h:da a=da b):a=b:=Hw (map_inj fQ _ _ (by simpa [da] using h))
def alq (a:H2)(mem:Mem)(h:Se a mem):H3 [.ref a.k a.g 1 (D a.pre) (D a.u),.M (da a.V),.M (.int .i64 a.q)] mem=some (.M (.int .i64 (zt a.u a.V a.q)),aR mem a.k a.g (zu a)):=by
 unfold H3;refine YR (a:=a) ?_ ⟨rfl,h⟩;rintro a b args mem ⟨E,G,_⟩ ⟨ab,aM,_⟩;rw[E] at ab;simp only[bo,I.ref.injEq,I.M.injEq,Data.int.injEq,true_and,and_true] at ab;obtain⟨⟨HP,Md,ZZ,Z0⟩,Z1,eq⟩:=ab;have Z2:=alp Z1;clear Z1;obtain⟨pre,u,post,V,q,k,g⟩:=a;obtain⟨ayL,x3,ayM,ayN,Sf,k',cd⟩:=b;simp only at HP Md ZZ Z0 Z2 eq G aM;subst HP Md Z2 eq;rw[aM] at G;simp only[bF,ec,true_and] at G;have e:=RP iO fQ _ _ G (by omega);rw[hj,hj] at e;obtain⟨aK,az⟩:=RQ e ZZ.symm;obtain⟨ee,kU⟩:=RQ az Z0.symm;subst aK ee kU
 rfl
def alr (p uF sJ qs c a b q:Int)(h:uF=sJ-q*qs+p*c):uF+p*((a-c-q*b)%1048576)=sJ+p*a-q*(qs+p*b)+p*1048576*(-((a-c-q*b)/1048576)):=by
 have E:=zo (a-c-q*b) 1048576
 have G:p*((a-c-q*b)%1048576)+p*1048576*((a-c-q*b)/1048576)=p*(a-c-q*b):=by
  rw[hA,<-hz,E]
 have ab:p*(a-c-q*b)=p*a-p*c-p*(q*b):=by rw[D2,D2]
 have aM:q*(qs+p*b)=q*qs+p*(q*b):=by rw[hz,Sd]
 rw[D7];omega
def Z3 {a c q b:Int}(a2:0<=a/\a<1048576)(Z:0<=c/\c<=1048576)(aL:0<=q/\q<1048576)(U:0<=b/\b<1048576):
  0<=q*b/\q*b<=1099509530625/\0 <= -((a-c-q*b)/1048576) /\ -((a-c-q*b)/1048576)<=1048576:=by
 have E:0<=q*b:=zp aL.1 U.1;have G:q*b<=1048575*1048575:=R3 (by omega) (by omega) U.1 (by omega);omega
def als (T:bj)(a:H2)(gM:Mem)(Z:Se a gM):
  wp T Ma.body (DC Ma.res (.M (.int .i64 (zt a.u a.V a.q))) (aR gM a.k a.g (zu a))) ⟨jK [.ref a.k a.g 1 (D a.pre) (D a.u),.M (da a.V),.M (.int .i64 a.q)],gM⟩:=by
 obtain⟨pre,u,post,V,q,k,g⟩:=a;obtain⟨mP,s7,xm,kT,s6,qE,hlen⟩:=Z;simp only at mP s7 xm kT s6 qE hlen ⊢;have x4:=lp V;have Ml:=kr V;have Sg:=fR.1 xm;refine xr ?_;simp only[Ma];simp only[go_sem,go_sem_proc,da];generalize U:aH V=v at *
 refine du [0,1,2,13] [] (λ((i,c,w):Nat×Int×List Int) tm mem=>i<=D u/\D w=D u/\dZ w/\w.drop i=u.drop i/\(0<=c/\c<=1048576)/\aX (w.take i)=aX (u.take i)-q*aX (v.take i)+1048576^i*c/\tm 14=.M (.int .i64 (i:Nat))/\tm 7=.M (.int .i64 c)/\mem=aR gM k g (a7 aJ (pre++w++post)))
  (λ(i,_)=>D u-i) (0,0,u) (by refine⟨ej _,rfl,s7,rfl,by omega,by simp[aX],rfl,rfl,(alo mP).symm⟩) ?_
 intro vs ms aY aT;simp only[go_sem,go_sem_proc] at aY aT;subst aY aT;rintro⟨i,c,w⟩ tm _ O-⟨L,hw,pW,wh,Z,iK,zv,bP,rfl⟩;simp only[go_sem,go_sem_proc,bo] at O;obtain⟨ak,E,G,o1⟩:=O;rcases eo (i<D u) with av|bM
 ·have wk:i<D w:=by omega
  have alu:w[i]=u[i]:=by
   have E:=gK wk;rw[wh,gK av] at E;exact (Bo E).1.symm
  have H4:w.drop (i+1)=u.drop (i+1):=by
   have E:=gK wk;rw[wh,gK av] at E;exact (Bo E).2.symm
  have m0:=H0 (pre:=pre) (post:=post) wk;rw[alu] at m0;have Z4:=ke s7 i av;have rA:=kd u i av;generalize u[i]=s8 at *;have gD:IntKind.i64.wrap ((i:Int)+1)=((i+1:Nat):Int):=by rw[fr _];rfl
  have lu:IntKind.i64.wrap (s8-c)=s8-c:=wrap64 _ (by omega) (by omega);have kf:(D pre)+i+1<=(a7 aJ (pre++w++post)).length:=by rw[oX];simp;omega
  have h3:=λd=>ZY (pre:=pre) (post:=post) wk d;have l0:decide ((i:Int)<(D u:Int))=true:=dI
  have fin:∀bi:Int,0<=bi->bi<1048576->aX (v.take (i+1))=aX (v.take i)+1048576^i*bi ->
    ∃aZ:Nat×Int×List Int,D u-aZ.1<D u-i/\aZ.1<=D u/\aZ.2.2.length=D u/\dZ aZ.2.2/\aZ.2.2.drop aZ.1=u.drop aZ.1/\(0<=aZ.2.1/\aZ.2.1<=1048576)/\aX (aZ.2.2.take aZ.1)=aX (u.take aZ.1)-q*aX (v.take aZ.1)+1048576^aZ.1*aZ.2.1 /\
     I.M (Data.int .i64 ((i+1:Nat):Int))=I.M (Data.int .i64 (aZ.1:Int))/\I.M (Data.int .i64 (-((s8-c-q*bi)/1048576)))=I.M (Data.int .i64 aZ.2.1)/\aR gM k g (a7 aJ (pre++w.set i ((s8-c-q*bi)%1048576)++post))=aR gM k g (a7 aJ (pre++aZ.2.2++post)):=by
   intro bi we ka Bn;obtain⟨aU,bO,hK,nv⟩:=Z3 Z4 Z ⟨kT,s6⟩ ⟨we,ka⟩;refine⟨(i+1,-((s8-c-q*bi)/1048576),w.set i ((s8-c-q*bi)%1048576)),by dsimp only;omega,by dsimp only;omega,by simp[hw],x1 pW i (by omega),?_,⟨hK,nv⟩,?_,rfl,rfl,rfl⟩
   ·dsimp only;rw[ry (by omega),H4]
   ·dsimp only;rw[kd _ _ (by simpa using wk),Bl,rA,Bn,lZ];simp only[x0];exact alr _ _ _ _ _ _ _ _ iK
  rcases eo (i<D v) with pV|RY
  ·have oZ:v[i]?=some v[i]:=bw pV;have gr:=ke x4 i pV;have Sh:=kd v i pV;generalize v[i]=bi at *;obtain⟨aU,bO,hK,nv⟩:=Z3 Z4 Z ⟨kT,s6⟩ gr;have mZ:IntKind.i64.wrap (q*bi)=q*bi:=wrap64 _ (by omega) (by omega);have D4:IntKind.i64.wrap (s8-c-q*bi)=s8-c-q*bi:=wrap64 _ (by omega) (by omega);have zq:IntKind.i64.wrap (0-(s8-c-q*bi)/1048576) = -((s8-c-q*bi)/1048576):=by rw[fr _];omega
   have jm:decide ((i:Int)<(D v:Int))=true:=dI;refine ao ?_;repeat' (intro (aw:_=_)<;>simp only[aw,go_sem,go_sem_proc,ak,E,G,o1,zv,bP,oZ,gD,lu,mZ,D4,zq,jm,l0,av,kf,m0,h3,Mj,xR,uy,aJ,dU,au,bD,bo,show ¬ ((20:Int)<0) by omega]<;>try refine an ?_ ?_)
   exact fin bi gr.1 gr.2 Sh
  ·have jm:decide ((i:Int)<(D v:Int))=false:=dV;have zq:IntKind.i64.wrap (0-(s8-c)/1048576) = -((s8-c)/1048576):=by rw[fr _];omega
   refine ao ?_;repeat' (intro (aw:_=_)<;>simp only[aw,go_sem,go_sem_proc,ak,E,G,o1,zv,bP,gD,lu,zq,jm,l0,av,kf,m0,h3,Mj,xR,uy,aJ,dU,au,bD,bo,show ¬ ((20:Int)<0) by omega]<;>try refine an ?_ ?_)
   have:=fin 0 (by omega) (by omega) (by rw[dx (by omega),dx (by omega)];simp);simp only[wm,HY] at this;exact this
 ·obtain rfl:i=D u:=by omega
  have l0:decide ((D u:Int)<(D u:Int))=false:=dV;rw[dx (by omega),dx (by omega),dx (by omega),Ml] at iK;have alv:=xO pW;have ayO:=nr pW;rw[hw] at alv
  have ayP:(V:Int)<1048576^(D u):=by
   have h:=Int.ofNat_lt.2 Sg;rw[Bp] at h;exact h
  by_cases rO:c=0
  ·subst rO;have Si:aX u-q*V=aX w:=by omega
   have aK:zt u V q=q:=by unfold zt;rw[ar (by omega)]
   have az:zu ⟨pre,u,post,V,q,k,g⟩=a7 aJ (pre++w++post):=by
    unfold zu Mk;simp only;rw[ar (by omega),Si,<-hw,<-ZX pW]
   refine ao ?_;repeat' (intro (aw:_=_)<;>simp only[aw,go_sem,go_sem_proc,ak,E,G,o1,zv,bP,l0,aK,az,beq_self_eq_true]<;>try refine an ?_ ?_)
  ·have alw:(c==0)=false:=by simpa using rO
   have H5:(1048576:Int)^(D u)<=1048576^(D u)*c:=by
    have:(1048576:Int)^(D u)*1<=1048576^(D u)*c:=xZ (by omega) (by omega);omega
   have kV:aX u-q*V<0:=by omega
   have Sj:IntKind.i64.wrap (q-1)=q-1:=wrap64 _ (by omega) (by omega);simp only[go_sem,go_sem_proc,ak,E,G,o1,zv,bP,l0,alw]
   refine du [0,1,2,48] [] (λ((i,d,z):Nat×Int×List Int) tm mem=>i<=D u/\D z=D u/\dZ z/\z.drop i=w.drop i/\(0<=d/\d<=1)/\aX (z.take i)+1048576^i*d=aX (w.take i)+aX (v.take i)/\tm 49=.M (.int .i64 (i:Nat))/\tm 10=.M (.int .i64 d)/\mem=aR gM k g (a7 aJ (pre++z++post)))
    (λ(i,_)=>D u-i) (0,0,w) (by refine⟨ej _,hw,pW,rfl,by omega,by simp[aX],rfl,rfl,rfl⟩) ?_
   intro vs ms aY aT;simp only[go_sem,go_sem_proc,ak,E,G] at aY aT;subst aY aT;rintro⟨i,d,z⟩ tm _ O-⟨L,aP,qF,wh,ae,Z5,Sk,kq,rfl⟩;simp only[go_sem,go_sem_proc,bo] at O;obtain⟨ak,E,G,Sl⟩:=O;rcases eo (i<D u) with av|bM
   ·have H6:i<D z:=by omega
    have wk:i<D w:=by omega
    have alx:z[i]=w[i]:=by
     have E:=gK H6;rw[wh,gK wk] at E;exact (Bo E).1.symm
    have aly:z.drop (i+1)=w.drop (i+1):=by
     have E:=gK H6;rw[wh,gK wk] at E;exact (Bo E).2.symm
    have m0:=H0 (pre:=pre) (post:=post) H6;rw[alx] at m0;have H7:=ke pW i wk;have rA:=kd w i wk;generalize w[i]=zw at *;have gD:IntKind.i64.wrap ((i:Int)+1)=((i+1:Nat):Int):=by rw[fr _];rfl
    have lu:IntKind.i64.wrap (d+zw)=d+zw:=wrap64 _ (by omega) (by omega);have kf:(D pre)+i+1<=(a7 aJ (pre++z++post)).length:=by rw[oX];simp;omega
    have h3:=λd=>ZY (pre:=pre) (post:=post) H6 d;have l0:decide ((i:Int)<(D u:Int))=true:=dI
    have fin:∀bi:Int,0<=bi->bi<1048576->aX (v.take (i+1))=aX (v.take i)+1048576^i*bi ->
      ∃aZ:Nat×Int×List Int,D u-aZ.1<D u-i/\aZ.1<=D u/\aZ.2.2.length=D u/\dZ aZ.2.2/\aZ.2.2.drop aZ.1=w.drop aZ.1/\(0<=aZ.2.1/\aZ.2.1<=1)/\aX (aZ.2.2.take aZ.1)+1048576^aZ.1*aZ.2.1=aX (w.take aZ.1)+aX (v.take aZ.1) /\
       I.M (Data.int .i64 ((i+1:Nat):Int))=I.M (Data.int .i64 (aZ.1:Int))/\I.M (Data.int .i64 ((d+zw+bi)/1048576))=I.M (Data.int .i64 aZ.2.1)/\aR gM k g (a7 aJ (pre++z.set i ((d+zw+bi)%1048576)++post))=aR gM k g (a7 aJ (pre++aZ.2.2++post)):=by
     intro bi we ka Bn;refine⟨(i+1,(d+zw+bi)/1048576,z.set i ((d+zw+bi)%1048576)),by dsimp only;omega,by dsimp only;omega,by simp[aP],x1 qF i (by omega),?_,by dsimp only;omega,?_,rfl,rfl,rfl⟩
     ·dsimp only;rw[ry (by omega),aly]
     ·dsimp only;rw[kd _ _ (by simpa using H6),Bl,rA,Bn,lZ];simp only[x0];exact ZG _ _ _ _ _ _ _ Z5
    rcases eo (i<D v) with pV|RY
    ·have oZ:v[i]?=some v[i]:=bw pV;have gr:=ke x4 i pV;have Sh:=kd v i pV;generalize v[i]=bi at *;have mZ:IntKind.i64.wrap (d+zw+bi)=d+zw+bi:=wrap64 _ (by omega) (by omega);have jm:decide ((i:Int)<(D v:Int))=true:=dI;refine ao ?_;repeat' (intro (aw:_=_)<;>simp only[aw,go_sem,go_sem_proc,ak,E,G,Sl,Sk,kq,oZ,gD,lu,mZ,jm,l0,av,kf,m0,h3,Mj,xR,uy,aJ,dU,au,bD,bo,show ¬ ((20:Int)<0) by omega]<;>try refine an ?_ ?_)
     exact fin bi gr.1 gr.2 Sh
    ·have jm:decide ((i:Int)<(D v:Int))=false:=dV;refine ao ?_;repeat' (intro (aw:_=_)<;>simp only[aw,go_sem,go_sem_proc,ak,E,G,Sl,Sk,kq,gD,lu,jm,l0,av,kf,m0,h3,Mj,xR,uy,aJ,dU,au,bD,bo,show ¬ ((20:Int)<0) by omega]<;>try refine an ?_ ?_)
     have:=fin 0 (by omega) (by omega) (by rw[dx (by omega),dx (by omega)];simp);simp only[H8] at this;exact this
   ·obtain rfl:i=D u:=by omega
    have l0:decide ((D u:Int)<(D u:Int))=false:=dV;rw[dx (by omega),dx (by omega),dx (by omega),Ml] at Z5;have alz:=xO qF;have ayQ:=nr qF;rw[aP] at alz
    have Si:aX u-q*V+V=aX z:=by
     have e:aX u-q*V+V-aX z=1048576^(D u)*(d-c):=by rw[D2];omega
     generalize (1048576:Int)^(D u)=p at *;rcases rT (d-c) 0 with h|h|h
     ·have:p*(d-c)<=p*(-1):=xZ (by omega) (by omega);omega
     ·rw[h,wm] at e;omega
     ·have:p*1<=p*(d-c):=xZ (by omega) (by omega);omega
    have aK:zt u V q=q-1:=by unfold zt;rw[aq kV]
    have az:zu ⟨pre,u,post,V,q,k,g⟩=a7 aJ (pre++z++post):=by
     unfold zu Mk;simp only;rw[aq kV,Si,<-aP,<-ZX qF]
    refine ao ?_;repeat' (intro (aw:_=_)<;>simp only[aw,go_sem,go_sem_proc,ak,E,G,Sl,Sk,kq,l0,aK,az,Sj]<;>try refine an ?_ ?_)
def alA {T V P wo D8 v1 v2 top iA q r:Int}(pQ:V=(v1*1048576+v2)*P+wo)(cn:T=(top*1048576+iA)*P+D8)(db:0<P)(Z6:0<=wo)(Mm:D8<P)(kT:0<=q)(alB:0<=V)
  (Sm:T<1048576*V) (Bq:q*v1+r=top) (Z:q>=1048576\/q*v2>r*1048576+iA):T<q*V:=by
 rcases Z with h|h
 ·have:=lx h alB;omega
 ·have E:(top*1048576+iA+1)*P<=(q*(v1*1048576+v2))*P:=by
   refine lx ?_ (by omega);rw[hz,<-hA];have:q*v1*1048576=(top-r)*1048576:=by rw[<-Bq];congr 1;omega
   omega
  have G:q*V=(q*(v1*1048576+v2))*P+q*wo:=by rw[pQ,hz,<-hA]
  have ab:0<=q*wo:=zp kT Z6;rw[rR _ 1,nw] at E;omega
def Z7 {T V P wo D8 v1 v2 top iA q r:Int}(pQ:V=(v1*1048576+v2)*P+wo)(cn:T=(top*1048576+iA)*P+D8)(db:0<P)(Z6:0<=wo/\wo<P)(Mm:0<=D8)(kT:0<=q)(s6:q<1048576)(sM:524288<=v1)(mK:0<=v2/\v2<1048576)(XD:0<=iA)
  (Bq:q*v1+r=top) (Z:r>=1048576\/q*v2<=r*1048576+iA):0<=T-q*V+V:=by
 have G:q*V=(q*(v1*1048576+v2))*P+q*wo:=by rw[pQ,hz,<-hA]
 have ab:q*wo<=q*P:=xZ (by omega) kT;have aM:q*P<=1048576*P:=lx (by omega) (by omega);have bl:1048576*P<=(v1*1048576+v2)*P:=lx (by omega) (by omega);have e:q*v1*1048576=(top-r)*1048576:=by rw[<-Bq];congr 1;omega
 rcases Z with h|h
 ·have bz:q*v2+q<=1048576*1048576:=by
   have bP:q*(v2+1)<=1048576*1048576:=R3 (by omega) (by omega) (by omega) (by omega);rw[hz,rM] at bP;exact bP
  have ct:(q*(v1*1048576+v2)+q)*P<=(top*1048576+iA)*P:=by
   refine lx ?_ (by omega);rw[hz,<-hA];omega
  rw[rR _ q] at ct;omega
 ·have ct:(q*(v1*1048576+v2))*P<=(top*1048576+iA)*P:=by
   refine lx ?_ (by omega);rw[hz,<-hA];omega
  omega
def alC {T V q:Int}(pQ:0<V)(E:T<(q+1)*V)(G:0<=T-q*V+V):(if T-q*V<0 then q-1 else q)=T/V/\(if T-q*V<0 then T-q*V+V else T-q*V)=T%V:=by
 have ab:(q+1)*V=q*V+V:=by rw[rR,nw]
 have aM:(q-1)*V=q*V-V:=by rw[Z8,nw]
 have key:∀d r:Int,T=d*V+r->0<=r->r<V->d=T/V/\r=T%V:=by
  intro d r h ak bl
  constructor
  ·rw[h,wj,Int.add_mul_ediv_right _ _ (by omega),R7 ak bl];omega
  ·rw[h,wj,Int.add_mul_emod_self_right,R8 ak bl]
 split
 ·exact key (q-1) _ (by omega) (by omega) (by omega)
 ·exact key q _ (by omega) (by omega) (by omega)
def Z9 {v:List Int}{N:Nat}(h:(D v)=N+2):aX v=(v[N+1]*1048576+v[N])*1048576^N+aX (v.take N):=by
 have e:v=v.take (N+1+1):=by rw[dx (by omega)]
 conv=>lhs;rw[e]
 rw[kd v (N+1) (by omega),kd v N (by omega),lZ,rR,mj (v[N]),zx (v[N+1]),mj (v[N+1])];have:(1048576:Int)^N*1048576*v[N+1]=1048576^N*v[N+1]*1048576:=by rw[zx]
 omega
def alD {v:List Int}{N:Nat}(h:(D v)=N+3):aX v=((v[N+2]*1048576+v[N+1])*1048576+v[N])*1048576^N+aX (v.take N):=by
 have e:v=v.take (N+1+1+1):=by rw[dx (by omega)]
 conv=>lhs;rw[e]
 rw[kd v (N+1+1) (by omega),kd v (N+1) (by omega),kd v N (by omega)];simp only[lZ];generalize (1048576:Int)^N=p;rw[rR,rR,rR,zx (v[N+2]*1048576),zx (v[N+2]),mj (v[N+2]),zx (v[N+1]),mj (v[N+1]),mj (v[N])];have E:p*1048576*v[N+1]=p*v[N+1]*1048576:=by rw[zx]
 have G:p*1048576*1048576*v[N+1+1]=p*v[N+2]*1048576*1048576:=by rw[zx,zx p]
 omega
def alE {u:List Int}{i n:Nat}{V:Int}(ae:dZ u)(ad:i+n+1<=D u)(dK:aX (u.drop (i+1))<V)(pQ:V<1048576^n):
  ∃pre fk post,u=pre++fk++post/\D pre=i/\D fk=n+1/\dZ pre/\dZ fk/\dZ post/\aX post=0/\∃b5,fk[0]?=some b5/\u.take (i+1)=pre++[b5]/\aX fk=b5+1048576*aX (u.drop (i+1))/\0<=aX (u.drop (i+1))/\0<=b5/\b5<1048576:=by
 have e:u=u.take i++(u.drop i).take (n+1)++u.drop (i+n+1):=by
  rw[hj,rk,<-xy,Hl,Hl]
 have aaa:=e ▸ ae;rw[A5,A5] at aaa;obtain⟨⟨d1,d2⟩,d3⟩:=aaa;have av:i<D u:=by omega
 have wh:=gK av;have Mn:((u.drop i).take (n+1)).length=n+1:=by simp;omega
 have aab:aX (u.drop (i+1))=aX ((u.drop (i+1)).take n)+1048576^n*aX (u.drop (i+n+1)):=by
  have:=Hx (u.drop (i+1)) n;rw[rF,mM (by omega),xy] at this;rw[this]
  congr 3
  rw[show i+1+n=i+n+1 by omega]
 have aF:=nr d3;have bx:0<=aX ((u.drop (i+1)).take n):=nr (λx J=>ae x (D9 (AI J)))
 have Ea:aX (u.drop (i+n+1))=0:=by
  rcases eo (0<aX (u.drop (i+n+1))) with h|h
  ·have:(1048576:Int)^n*1<=1048576^n*aX (u.drop (i+n+1)):=xZ (by omega) (Int.pow_nonneg (by omega));omega
  ·omega
 refine⟨_,_,_,e,by simp;omega,Mn,d1,d2,d3,Ea,u[i],?_,?_,?_,?_,(ke ae i av).1,(ke ae i av).2⟩
 ·rw[xA (by omega),sL];simp[av]
 ·rw[jl,bw av];rfl
 ·rw[wh,QO,rI,aab,Ea];simp
 ·rw[aab,Ea];simpa using bx
def alF (l:List Int)(h:(D l)<=1000000):mF 157054 0 1 (D l) 8 1 [.M (.int .i64 0)] (some (0,((l.map aJ).flatten.map I.M)))=some (.ref 157054 1 1 0 (D l+1),some (157054,1,a7 aJ (l++[0]))) :=
 oQ iO vZ 157054 0 8 l 0 rfl (by omega) (by omega)
def H9:=bW lr λ(x,y)=>cv ((aH x).length<=1000/\(aH y).length<=1000/\0<y) (.same (.dc [da (x/y),da (x%y)]))
@[go_sem] def aac (x y):=cK H9 rfl wb (x,y) rfl
def alG (T:bj)(iR:T Bd=aW D0)(g6:T v3=aW zn)(nx:T L0=aW Mi)(eS:T oT=xM v8 sY)(ly:T DK=aW HW)(ny:T Rq=zi H3):WF T Zd H9:=by
 refine cp λ(x,y)=>cN λZ=>⟨rfl,cq ?_⟩;simp only[Zd,lr,cg];obtain⟨J,af,g8⟩:=Z;have lU:(aH x).length<=1000000/\(aH y).length<=1000000:=by omega
 have uG:=RU x y lU;have vD:(aH x).length<=1000000:=by omega
 by_cases kp:x<y
 ·have Ia:gN x y = -1:=by unfold gN;rw[aq (by simpa using kp)]
  have dN:=ak4 (aH x) vD;rw[Ia] at uG
  change zn [da x]=_ at dN
  refine ao ?_;repeat' (intro (aw:_=_)<;>simp only[aw,go_sem,go_sem_proc,iR,g6,nx,eS,ly,ny,uG,dN,show ((-1:Int)<0) by omega,decide_true]<;>try refine an ?_ ?_)
  rw[QZ kp,Hs kp]
  try rfl
 ·have Ia:decide (gN x y<0)=false:=by
   unfold gN;rw[ar (by simp;omega)]
   split<;>rfl
  have aad:aH y≠[]:=by rw[Ne,xN];omega
  by_cases E:y<1048576
  ·have pT:=A7 g8 E;have lY:=ZR x y ⟨by omega,by omega,by omega⟩
   have aA:=Mc [((x%y:Nat):Int)] (by simp);have av:x%y<y:=mW _ g8;rw[mY] at lY
   have zs:fj [((x%y:Nat):Int)]=aH (x%y):=by
    generalize x%y=r at av ⊢;rw[xP (by intro d ae;rw[wq] at ae;omega)];simp only[aX]
    congr 1
   rw[zs] at aA;have Ib:da y=.ay [[.int .i64 y]]:=by unfold da;rw[pT];rfl
   change v8 [.ay [[.int .i64 _]]]=_ at aA
   rw[Ib] at uG;refine ao ?_;repeat' (intro (aw:_=_)<;>simp only[aw,go_sem,go_sem_proc,iR,g6,nx,eS,ly,ny,Ib,uG,Ia,lY,aA,show (((1:Nat):Int)==1)=true from rfl]<;>try refine an ?_ ?_)
   try rfl
  ·obtain⟨N,hP⟩:∃N,(aH y).length=N+2:=by
    have:=mt (fR (n:=y) (k:=1)).1 (by simpa using E);exact⟨(aH y).length-2,by omega⟩
   have pT:=lp y;have kt:(((aH y).length:Int)==1)=false:=by simp;omega
   have Mn:IntKind.i64.wrap (((aH y).length:Int)-1)=((N+1:Nat):Int):=by rw[fr _];omega
   have lj:(aH y)[N+1]?=some (aH y)[N+1]:=bw (by omega);have ayR:=ke pT (N+1) (by omega)
   have ayS:(aH y)[N+1]≠0:=by
    intro h;have:=YV y;rw[List.getLast?_eq_getElem?,hP] at this;exact this (by rw[show N+2-1=N+1 by omega,lj,h])
   have Sn:=Z9 hP;rw[kr] at Sn;have alH:=xO (xY pT N);have ayT:=nr (xY pT N);have ayU:=ke pT N (by omega);rw[hg,mM (by omega)] at alH;generalize (aH y)[N+1]=cz at *;generalize (aH y)[N]=qy at *;generalize aX ((aH y).take N)=Mo at *;have aae:((aH y).map aJ)[N+1]?=some [.int .i64 cz]:=by rw[bD,lj];rfl
   simp only[go_sem,go_sem_proc,iR,g6,nx,eS,ly,ny,da,uG,Ia,kt,au];have aaf:=uG;unfold da at aaf;simp only[go_sem,go_sem_proc,iR,g6,nx,eS,ly,ny,aaf,Ia,kt,au];refine du [0,1] [157054,157075] (λ(κ:Nat) tm mem=>cz*2^κ<1048576/\tm 8=.M (.int .i64 (2^κ))) (λκ=>20-κ) 0 (by refine⟨by omega,rfl⟩) ?_;intro vs ms aY aT;simp only[go_sem,go_sem_proc,iR,g6,nx,eS,ly,ny,au] at aY aT;subst aY aT;rintro κ tm mem O hm ⟨ayV,ct⟩;simp only[go_sem,go_sem_proc,iR,g6,nx,eS,ly,ny,bo] at O hm;obtain⟨ak,Dr⟩:=O;obtain⟨uH,Ic⟩:=hm;have ayW:(0:Int)<2^κ:=Ie (by omega)
   have Ig:(2:Int)^κ<=cz*2^κ:=by
    have:1*(2:Int)^κ<=cz*2^κ:=lx (by omega) (by omega);omega
   have hκ:κ<20:=by
    rcases fF κ 20 with h|h
    ·exact h
    ·have:(2:Int)^20<=2^κ:=by
      have:=jC (n:=2) (by omega) h;have bS:=Int.ofNat_le.2 this;rwa [Bp,Bp] at bS
     omega
   have aag:IntKind.i64.wrap (cz*2^κ)=cz*2^κ:=wrap64 _ (by omega) (by omega);have alI:IntKind.i64.wrap (2^κ*2)=2^κ*2:=wrap64 _ (by omega) (by omega);rcases eo (cz*2^κ<524288) with av|bM
   ·refine ao ?_;repeat' (intro (aw:_=_)<;>simp only[aw,go_sem,go_sem_proc,iR,g6,nx,eS,ly,ny,ak,Dr,ct,Mn,aae,aag,alI,av,uH,Ic,decide_true,dU,au]<;>try refine an ?_ ?_)
    exact⟨κ+1,by omega,by rw[lZ,<-hA];omega,by rw[lZ]⟩
   ·-- xv numbers, shifted
    have alJ:(cz+1)*2^κ<=1048576:=by
     have e:(1048576:Int)=2^(20-κ)*2^κ:=by rw[<-ZQ,show 20-κ+κ=20 by omega];rfl
     have E:cz<2^(20-κ):=by
      rcases eo (cz<2^(20-κ)) with h|h
      ·exact h
      ·have:(2:Int)^(20-κ)*2^κ<=cz*2^κ:=lx (by omega) (by omega);omega
     rw[e];exact lx (by omega) (by omega)
    generalize (2:Int)^κ=s at *;obtain⟨S,rfl⟩:∃S:Nat,s=S:=⟨s.toNat,by omega⟩
    have db:(0:Int)<1048576^N:=Ie (by omega);have Br:0<S:=by omega
    have Sg:y*S<1048576^(N+2):=by
     have E:((y*S:Nat):Int)<1048576^(N+2):=by
      rw[aah,Sn,lZ,lZ];generalize (1048576:Int)^N=p at *
      have aK:((cz*1048576+qy)*p+Mo)*S<=((cz+1)*1048576*p)*S:=by
       refine lx ?_ (by omega);have:(cz*1048576+qy+1)*p<=((cz+1)*1048576)*p:=lx (by omega) (by omega);rw[rR _ 1] at this;omega
      have ayX:((cz*1048576+qy)*p+Mo)*S<((cz+1)*1048576*p)*S:=by
       refine Int.mul_lt_mul_of_pos_right ?_ (by omega);have:(cz*1048576+qy+1)*p<=((cz+1)*1048576)*p:=lx (by omega) (by omega);rw[rR _ 1] at this;omega
      have az:((cz+1)*1048576*p)*S=((cz+1)*S)*(p*1048576):=by
       rw[hA (cz+1),hA,mj (1048576*p),<-hA,mj 1048576 p]
      have ee:((cz+1)*S)*(p*1048576)<=1048576*(p*1048576):=lx alJ (by omega);omega
     have G:((1048576^(N+2):Nat):Int)=1048576^(N+2):=by rw[Bp];rfl
     omega
    have ayY:524288*(1048576^N*1048576)<=((y*S:Nat):Int):=by
     rw[aah,Sn];generalize (1048576:Int)^N=p at *
     have aK:(cz*1048576)*p*S<=((cz*1048576+qy)*p+Mo)*S:=by
      refine lx ?_ (by omega);have:(cz*1048576)*p<=(cz*1048576+qy)*p:=lx (by omega) (by omega);omega
     have az:(cz*1048576)*p*S=(cz*S)*(p*1048576):=by
      rw[hA cz,hA,mj (1048576*p),<-hA,mj 1048576 p]
     have ee:524288*(p*1048576)<=(cz*S)*(p*1048576):=lx (by omega) (by omega);omega
    have Ih:(aH (y*S)).length=N+2:=by
     have E:=fR.2 Sg
     have G:=mt (fR (n:=y*S) (k:=N+1)).1 (by
      have G:((1048576^(N+1):Nat):Int)=1048576^N*1048576:=by rw[Bp,lZ];rfl
      omega)
     omega
    have ayZ:1*x<=x*S:=by rw[pO];exact Ii x Br
    have ay0:(aH x).length<=(aH (x*S)).length:=by
     rw[fR];have:=fR.1 (bI (aH (x*S)).length);omega
    have ay1:y*S<=x*S:=mJ S (by omega)
    have ay2:N+2<=(aH (x*S)).length:=by
     rw[<-Ih,fR];have:=fR.1 (bI (aH (x*S)).length);omega
    have ay3:(aH (x*S)).length<=1001:=by
     have:∀k,(aH x).length<=k->(aH (x*S)).length<=k+1:=by
      intro k O;rw[fR];have E:=fR.1 O;rw[sR];exact vt (Nat.mul_lt_mul_of_pos_right E Br) (Ii _ (by omega))
     exact this 1000 J
    have gm:=R4 x S ⟨by omega,by rw[A7 Br (by omega)];simp⟩
    have So:=R4 y S ⟨by omega,by rw[A7 Br (by omega)];simp⟩
    have alK:da S=.ay [[.int .i64 (S:Int)]]:=by unfold da;rw[A7 Br (by omega)];rfl
    rw[alK] at gm So;simp only[da] at gm So;have dP:=alF (aH (x*S)) (by omega);have alL:((((aH (x*S)).length+1:Nat):Int)==((aH x).length:Int))=false:=by simp;omega
    have alM:=kr (y*S);have Mp:=lp (y*S);have alN:=kr (x*S);have aai:=lp (x*S);have alO:da (y*S)=.ay ((aH (y*S)).map aJ):=rfl;generalize alP:aH (y*S)=v at *;generalize ay4:aH (x*S)=ku at *;have Sj:IntKind.i64.wrap (((D ku+1:Nat):Int)-(D v:Int))=((D ku-N-1:Nat):Int):=by rw[fr _];omega
    have s6:8*(D ku-N-1)<=140737488355328:=by omega
    have Mq:(D ku)-N-1<=maxLen:=DZ _ (by omega);have alQ:decide (cz*(S:Int)<524288)=false:=lP bM;simp only[go_sem,go_sem_proc,iR,g6,nx,eS,ly,ny,ak,Dr,ct,uH,Ic,Mn,aae,aag,alQ,gm,So,dP,alL,Sj,s6,Mq,DY,dU,au];have l1:(D ku)-N-1+(N+2)=D ku+1:=by omega
    generalize ay5:(D ku)-N-1=bk at *;have b1:(D ku)=bk+N+1:=by omega
    have Bs:=Z9 Ih;rw[alM] at Bs;have Sp:=xO (xY Mp N);have Sq:=nr (xY Mp N);rw[hg,mM (by omega)] at Sp;have alR:v[N+1]?=some v[N+1]:=bw (by omega);have x5:v[N]?=some v[N]:=bw (by omega);have mo:=ke Mp (N+1) (by omega);have rS:=ke Mp N (by omega);generalize v[N+1]=v1 at *;generalize v[N]=v0 at *;generalize aX (v.take N)=vlow at *
    have sM:524288<=v1:=by
     generalize (1048576:Int)^N=p at *;rcases eo (524288<=v1) with h|h
     ·exact h
     ·have G:(v1*1048576+v0+1)*p<=(524288*1048576)*p:=lx (by omega) (by omega);rw[rR _ 1,nw] at G;omega
    have alS:((y*S:Nat):Int)<1048576^(N+2):=by
     have G:((1048576^(N+2):Nat):Int)=1048576^(N+2):=by rw[Bp];rfl
     omega
    have Sr:0<((y*S:Nat):Int):=by
     have:0<1048576^N*(1048576:Int):=Int.mul_pos db (by omega);omega
    have alT:aX ((ku++[0]).drop bk)<((y*S:Nat):Int):=by
     have e:(ku++[0]).drop bk=ku.drop bk++[0]:=by rw[List.drop_append_of_le_length (by omega)]
     rw[e,A6];have E:=xO (λd ae=>aai d (D9 ae):dZ (ku.drop bk));rw[rF,show (D ku)-bk=N+1 by omega,lZ] at E
     simp only[aX];omega
    have alU:((x*S:Nat):Int)=aX ((ku++[0]).take bk)+1048576^bk*aX ((ku++[0]).drop bk):=by
     have:=Hx (ku++[0]) bk;rw[A6,alN,mM (by simp;omega)] at this
     simpa [aX] using this
    generalize aaj:y*S=gu at *;generalize aak:x*S=Eb at *
    refine du [8,9,10,11,12] [] (λ((j,u,eM):Nat×List Int×List Int) tm mem=>j<=bk/\D u=D ku+1/\dZ u/\D eM=bk/\dZ eM/\aX (u.drop j)<gu/\(Eb:Int)=aX (u.take j)+1048576^j*(gu*aX (eM.drop j)+aX (u.drop j)) /\
      tm 13=.M (.int .i64 ((j:Nat)-1))/\mem 157054=some (1,a7 aJ u)/\mem 157075=some (0,a7 aJ eM)) (λ(j,_)=>j) (bk,ku++[0],bT bk 0)
     (by
      refine⟨bI _,by simp,A5.2 ⟨aai,by intro d ae;rw[wq] at ae;omega⟩,by simp,λd ae=>by rw[n4] at ae;omega,alT,?_,?_,rfl,rfl⟩
      ·rw[List.drop_of_length_le (by simp)];simp only[aX,wm,R6];exact alU
      ·simp only[tP,reduceIte];rw[fr _]) ?_
    intro vs ms aY aT;simp only[go_sem,go_sem_proc,iR,g6,nx,eS,ly,ny,ak,Dr,ct] at aY aT;subst aY aT;rintro⟨j,u,eM⟩ tm mem O-⟨aa,x6,s7,Mr,Ss,dK,s9,o1,Ij,St⟩;simp only[go_sem,go_sem_proc,iR,g6,nx,eS,ly,ny,bo] at O;obtain⟨ct,jj,kq,s3,oV⟩:=O;rcases j with _|j
    ·rw[oO,oO] at s9;rw[oO] at dK;simp only[LM,aX,Int.pow_zero,nw,R6] at s9;have ay6:=nr Ss;have rU:=nr s7
     have Su:aX eM=((x/y:Nat):Int)/\aX u=((x%y*S:Nat):Int):=by
      have E:Eb/gu=x/y:=by rw[<-aak,<-aaj];exact Nat.mul_div_mul_right x y Br
      have G:Eb%gu=x%y*S:=by rw[<-aak,<-aaj];exact Nat.mul_mod_mul_right S x y
      have ab:((Eb/gu:Nat):Int)=aX eM:=by rw[ZS,s9,wj,ZT _ _ (by omega),R7 rU dK];omega
      have aM:((Eb%gu:Nat):Int)=aX u:=by rw[ZU,s9,wj,ZV,R8 rU dK]
      rw[E] at ab;rw[G] at aM;exact⟨ab.symm,aM.symm⟩
     have aal:=Mc u (by omega);rw[xP s7,Su.2,mY] at aal;have aam:=Mc eM (by omega);rw[xP Ss,Su.1,mY] at aam
     have hlen:(aH (x%y*S)).length<=100000:=by
      have:(aH (x%y*S)).length<=D u:=by
       have:=ZC u;rw[xP s7,Su.2,mY] at this;exact this
      omega
     have lY:=ZR (x%y*S) S ⟨hlen,by omega,by omega⟩
     rw[mY,Nat.mul_div_cancel _ Br] at lY;simp only[da] at lY;have Ms:I.ref 157054 1 1 0 (D ku+1)=I.ref 157054 1 1 0 (D u):=by rw[x6]
     have Mt:I.ref 157075 0 1 0 bk=I.ref 157075 0 1 0 (D eM):=by rw[Mr]
     rw[Ms] at jj;rw[Mt] at oV;refine ao ?_;repeat' (intro (aw:_=_)<;>simp only[aw,go_sem,go_sem_proc,iR,g6,nx,eS,ly,ny,ct,jj,kq,s3,oV,o1,Ij,St,aal,aam,lY,xK iO,da,nu,n2,show ¬ ((0:Int)-1>=0) by omega,decide_false]<;>try refine an ?_ ?_)
    ·obtain⟨pre,fk,post,e,Ec,aan,Sv,pW,alV,alW,b5,zy,Bt,ay7,alX,ay8,ay9⟩:=alE (i:=j) (n:=N+2) s7 (by omega) dK alS;have rV:j<bk:=by omega
     rw[Bt,A6,Ec] at s9;subst e;subst Ec;rw[Ih] at s3;have aao:((D pre+1:Nat):Int)-1=(D pre:Int):=by omega
     have fY:IntKind.i64.wrap ((D pre:Int)+((N+2:Nat):Int))=((D pre+(N+2):Nat):Int):=by rw[fr _];omega
     have alY:IntKind.i64.wrap (((D pre+(N+2):Nat):Int)-1)=((D pre+(N+1):Nat):Int):=by rw[fr _];omega
     have Mu:IntKind.i64.wrap (((N+2:Nat):Int)-1)=((N+1:Nat):Int):=by rw[fr _];omega
     have aap:IntKind.i64.wrap (((N+2:Nat):Int)-2)=(N:Int):=by rw[fr _];omega
     have aaq:IntKind.i64.wrap (((D pre+(N+2):Nat):Int)-2)=((D pre+N:Nat):Int):=by rw[fr _];omega
     have bH:(D pre)+(N+2)<D ku+1:=by omega
     have bG:(D pre)+(N+1)<D ku+1:=by omega
     have hk:(D pre)+N<D ku+1:=by omega
     have alZ:(D pre)+(N+2)+1<=(a7 aJ (pre++fk++post)).length:=by rw[oX,x6];omega
     have al0:(D pre)+(N+1)+1<=(a7 aJ (pre++fk++post)).length:=by rw[oX,x6];omega
     have aar:(D pre)+N+1<=(a7 aJ (pre++fk++post)).length:=by rw[oX,x6];omega
     have aas:=H0 (pre:=pre) (post:=post) (show N+2<(D fk) by omega);have al1:=H0 (pre:=pre) (post:=post) (show N+1<(D fk) by omega);have Ea:=H0 (pre:=pre) (post:=post) (show N<(D fk) by omega);have cn:=alD (N:=N) (by omega:(D fk)=N+3);have Mm:=xO (xY pW N);have aat:=nr (xY pW N);rw[hg,mM (by omega)] at Mm;have kg:=ke pW (N+2) (by omega);have jn:=ke pW (N+1) (by omega);have wi:=ke pW N (by omega);generalize fk[N+2]=t2 at *;generalize fk[N+1]=t1 at *;generalize fk[N]=t0 at *;generalize aX (fk.take N)=D8 at *;have al2:IntKind.i64.wrap (t2*2^min (A8 20) 64)=t2*1048576:=by rw[show min (A8 20) 64=20 by decide];exact wrap64 _ (by omega) (by omega)
     have al3:bits .or .i64 (t2*1048576) t1=t2*1048576+t1:=Ra t2 t1 kg.1 (by omega) jn;have al4:(v1=0)=False:=by simp;omega
     generalize aza:t2*1048576+t1=top at *;have azb:0<=top/\top<1099511627776:=by omega
     have zs:top.tdiv v1=top/v1:=D6 (by omega);have Sa:top.tmod v1=top%v1:=HZ (by omega);have kT:0<=top/v1:=R9 (by omega) (by omega);have s6:top/v1<=top:=Int.ediv_le_self _ (by omega);have al5:IntKind.i64.wrap (top/v1)=top/v1:=wrap64 _ (by omega) (by omega);have Sw:(v.map aJ)[N+1]?=some [.int .i64 v1]:=by rw[bD,alR];rfl
     have aau:(v.map aJ)[N]?=some [.int .i64 v0]:=by rw[bD,x5];rfl
     have Sm:aX fk<1048576*gu:=by omega
     have al6:aX fk<(top/v1+1)*gu:=by
      have aK:top+1<=(top/v1+1)*v1:=by
       have E:=zo top v1;have G:=Sc top (show 0<v1 by omega);rw[rR,nw,mj (top/v1)];omega
      have az:(top+1)*1048576*1048576^N<=(top/v1+1)*v1*1048576*1048576^N:=lx (lx aK (by omega)) (by omega)
      have ee:(top/v1+1)*v1*1048576*1048576^N<=(top/v1+1)*gu:=by
       rw[hA,hA];refine xZ ?_ (by omega);rw[Bs,<-hA];have:v1*1048576*1048576^N<=(v1*1048576+v0)*1048576^N:=lx (by omega) (by omega);omega
      have kU:(top*1048576+t0+1)*1048576^N<=(top+1)*1048576*1048576^N:=lx (by omega) (by omega);rw[rR _ 1,nw] at kU;omega
     simp only[go_sem,go_sem_proc,iR,g6,nx,eS,ly,ny,ct,jj,kq,s3,oV,o1,Ij,St,aao,fY,alY,Mu,bH,bG,alZ,al0,aas,al1,al2,al3,al4,zs,Sa,al5,Sw,show (D pre:Int)>=0 by omega,decide_true,dU,au,show ¬ ((20:Int)<0) by omega]
     have Sx:∀(mem:Mem),mem 157054=some (1,a7 aJ (pre++fk++post))->∀q:Int,0<=q->q<1048576->aX fk<(q+1)*gu->0<=aX fk-q*gu+gu ->
       H3 [.ref 157054 1 1 (D pre) (N+3),.M (.ay (v.map aJ)),.M (.int .i64 q)] mem=some (.M (.int .i64 (aX fk/gu)),aR mem 157054 1 (a7 aJ (pre++pad (N+3) (aX fk%gu).toNat++post))):=by
      intro mem Ij q kT al7 zz jY;have Ib:=alC Sr zz jY;have fz:=alq ⟨pre,fk,post,gu,q,157054,1⟩ mem ⟨Ij,pW,by show (aH gu).length<=D fk;rw[alP];omega,kT,al7,jY,by show (D pre)+D fk<=100000;omega⟩
      simp only[zt,zu,Mk] at fz;rw[Ib.1,Ib.2,aan,alO] at fz;exact fz
     have al8:0<=aX fk/gu:=R9 (nr pW) (by omega);have al9:aX fk/gu<1048576:=ZW Sr Sm;have azc:=Sb (aX fk) (show (gu:Int)≠0 by omega);have ama:=Sc (aX fk) Sr
     have amb:aX (pad (N+3) (aX fk%gu).toNat)=aX fk%gu:=by
      rw[aln]
      ·omega
      ·have G:((1048576^(N+2):Nat):Int)=1048576^(N+2):=by rw[Bp];rfl
       have ab:1048576^(N+2)<=1048576^(N+3):=jC (by omega) (by omega);omega
     have kS:∃aZ:Nat×List Int×List Int,aZ.1<D pre+1/\aZ.1<=bk/\aZ.2.1.length=D ku+1/\dZ aZ.2.1/\aZ.2.2.length=bk/\dZ aZ.2.2/\aX (aZ.2.1.drop aZ.1)<gu/\(Eb:Int)=aX (aZ.2.1.take aZ.1)+1048576^aZ.1*(gu*aX (aZ.2.2.drop aZ.1)+aX (aZ.2.1.drop aZ.1)) /\
       I.M (Data.int .i64 ((D pre:Int)-1))=I.M (Data.int .i64 ((aZ.1:Int)-1))/\some (1,a7 aJ (pre++pad (N+3) (aX fk%gu).toNat++post))=some (1,a7 aJ aZ.2.1)/\some (0,a7 aJ (eM.set (D pre) (aX fk/gu)))=some (0,a7 aJ aZ.2.2):=by
      have amc:(D eM)=bk:=Mr;have Mr:(D pre)<D eM:=by omega
      have qG:(pre++pad (N+3) (aX fk%gu).toNat++post).drop (D pre)=pad (N+3) (aX fk%gu).toNat++post:=by rw[hj,QX]
      have amd:(pre++pad (N+3) (aX fk%gu).toNat++post).take (D pre)=pre:=by rw[hj,QW]
      have aav:aX (pad (N+3) (aX fk%gu).toNat++post)=aX fk%gu:=by rw[A6,alW,amb];omega
      refine⟨(D pre,pre++pad (N+3) (aX fk%gu).toNat++post,eM.set (D pre) (aX fk/gu)),by dsimp only;omega,by dsimp only;omega,?_,A5.2 ⟨A5.2 ⟨Sv,alm _ _⟩,alV⟩,by rw[gg];exact amc,x1 Ss _ ⟨al8,al9⟩,?_,?_,rfl,rfl,rfl⟩
      ·rw[<-x6];simp[alk,aan]
      ·dsimp only;rw[qG,aav];exact ama
      ·dsimp only;rw[qG,aav,amd,gK (by simpa using Mr),rI];simp only[x0];rw[ry (by omega)];have E:=zo (aX fk) gu;have G:(gu:Int)*(aX fk/gu+1048576*aX (eM.drop (D pre+1)))=gu*(aX fk/gu)+1048576*(gu*aX (eM.drop (D pre+1))):=by rw[hz,Sd]
       rw[G,s9,lZ,hA];simp only[aX,wm,H8];rw[Int.add_assoc,<-hz]
       congr 2
       rw[hz];omega
     have kv:(D pre)+(N+2)+1-D pre=N+3:=by omega
     have gO:IntKind.i64.wrap (((D pre+(N+2):Nat):Int)+1)=((D pre+(N+2)+1:Nat):Int):=by rw[fr _];rfl
     have aaw:(D pre)<=D pre+(N+2)+1/\D pre+(N+2)+1<=D ku+1:=by omega
     have aax:(D pre)<bk:=rV;have aay:=λd=>wa eM (D pre) d (by omega);have aaz:(D pre)+1<=(a7 aJ eM).length:=by rw[oX];omega
     have H7:IntKind.i64.wrap ((D pre:Int)-1)=(D pre:Int)-1:=wrap64 _ (by omega) (by omega)
     refine du [8,9,10,11,12,13] [157054,157075] (λ((q,r):Int×Int) tm mem=>0<=q/\0<=r/\q*v1+r=top/\aX fk<(q+1)*gu/\tm 15=.M (.int .i64 q)/\tm 16=.M (.int .i64 r)) (λ(q,_)=>q.toNat) (top/v1,top%v1)
      (by
       refine⟨kT,Sb _ (by omega),?_,al6,rfl,rfl⟩;have:=zo top v1;rw[mj (top/v1)];omega) ?_
     intro vs ms aY aT;simp only[go_sem,go_sem_proc,iR,g6,nx,eS,ly,ny,ct,jj,kq,s3,oV,o1,Ij,St,aao] at aY aT;subst aY aT;rintro⟨q,r⟩ tm mem' O hm ⟨x7,ame,Bq,zz,zA,wu⟩;simp only[go_sem,go_sem_proc,iR,g6,nx,eS,ly,ny,bo] at O hm;obtain⟨iS,m1,kW,m2,m3,Mv⟩:=O;obtain⟨Ed,Mw⟩:=hm;have azd:0<=q*v1:=zp x7 (by omega);have wv:q*524288<=q*v1:=xZ sM x7;have aze:0<=q*v0:=zp x7 rS.1;have azf:q*v0<=q*1048576:=xZ (by omega) x7;have Ee:IntKind.i64.wrap (q*v0)=q*v0:=wrap64 _ (by omega) (by omega);have aaA:IntKind.i64.wrap (q-1)=q-1:=wrap64 _ (by omega) (by omega);have aaB:IntKind.i64.wrap (r+v1)=r+v1:=wrap64 _ (by omega) (by omega);have aaC:IntKind.i64.wrap (r*2^min (A8 20) 64)=r*1048576:=by rw[show min (A8 20) 64=20 by decide];exact wrap64 _ (by omega) (by omega)
     have aaD:bits .or .i64 (r*1048576) t0=r*1048576+t0:=Ra r t0 ame (by omega) wi
     have LI:(q>=1048576\/q*v0>r*1048576+t0)->∃aZ:Int×Int,aZ.1.toNat<q.toNat/\0<=aZ.1/\0<=aZ.2/\aZ.1*v1+aZ.2=top/\aX fk<(aZ.1+1)*gu/\I.M (Data.int .i64 (q-1))=I.M (Data.int .i64 aZ.1)/\I.M (Data.int .i64 (r+v1))=I.M (Data.int .i64 aZ.2):=by
      intro Z;have E:=alA Bs cn db Sq Mm x7 (by omega) Sm Bq Z
      have Sy:0<q:=by
       rcases eo (0<q) with h|h
       ·exact h
       ·obtain rfl:q=0:=by omega
        have:=nr pW;omega
      exact⟨(q-1,r+v1),by dsimp only;omega,by dsimp only;omega,by dsimp only;omega,by dsimp only;rw[Z8];omega,by dsimp only;rw[Int.sub_add_cancel];exact E,rfl,rfl⟩
     by_cases kK:q>=1048576
     ·refine ao ?_;repeat' (intro (aw:_=_)<;>simp only[aw,go_sem,go_sem_proc,iR,g6,nx,eS,ly,ny,iS,m1,kW,m2,m3,Mv,Ed,Mw,zA,wu,kK,aaA,aaB,Mu,Sw,decide_true,dU,au]<;>try refine an ?_ ?_)
      exact LI (.inl kK)
     ·by_cases tW:r<1048576
      ·by_cases hc3:q*v0>r*1048576+t0
       ·refine ao ?_;repeat' (intro (aw:_=_)<;>simp only[aw,go_sem,go_sem_proc,iR,g6,nx,eS,ly,ny,iS,m1,kW,m2,m3,Mv,Ed,Mw,zA,wu,kK,tW,hc3,Ee,aaA,aaB,aaC,aaD,fY,Mu,aap,aaq,hk,aar,Ea,Sw,aau,decide_true,decide_false,dU,au,show ¬ ((20:Int)<0) by omega]<;>try refine an ?_ ?_)
        exact LI (.inr hc3)
       ·have fz:=Sx mem' Ed q x7 (by omega) zz (Z7 Bs cn db ⟨Sq,Sp⟩ aat x7 (by omega) sM rS wi.1 Bq (.inr (by omega)));refine ao ?_;repeat' (intro (aw:_=_)<;>simp only[aw,go_sem,go_sem_proc,iR,g6,nx,eS,ly,ny,iS,m1,kW,m2,m3,Mv,Ed,Mw,zA,wu,kK,tW,hc3,Ee,aaC,aaD,fY,gO,Mu,aap,aaq,hk,aar,Ea,aau,kv,aaw,fz,aax,aaz,aay,H7,Ih,decide_true,decide_false,dU,au,show ¬ ((20:Int)<0) by omega]<;>try refine an ?_ ?_)
        exact kS
      ·have fz:=Sx mem' Ed q x7 (by omega) zz (Z7 Bs cn db ⟨Sq,Sp⟩ aat x7 (by omega) sM rS wi.1 Bq (.inl (by omega)));refine ao ?_;repeat' (intro (aw:_=_)<;>simp only[aw,go_sem,go_sem_proc,iR,g6,nx,eS,ly,ny,iS,m1,kW,m2,m3,Mv,Ed,Mw,zA,wu,kK,tW,fY,gO,kv,aaw,fz,aax,aaz,aay,H7,Ih,decide_true,decide_false,dU,au]<;>try refine an ?_ ?_)
       exact kS
def de:Nat:=1048576^60
def bt (z:Int):Raw:=(z.sign,aH z.natAbs)
def gP (a:Raw):Int:=a.1*aX a.2
def eL (z:Int):gP (bt z)=z:=by
 unfold gP bt;rw[kr];exact Sz z
def Ik (d:Int):mm d=true↔0<=d/\d<1048576:=by
 unfold mm;simp;omega
def hQ (a:Raw):cP a=true↔∃z:Int,z.natAbs<de/\a=bt z:=by
 obtain⟨s,l⟩:=a;unfold cP de;rw[dp,jP]
 constructor
 ·rintro⟨E,G⟩;have ae:dZ l:=λd ae=>(Ik d).1 (E d ae)
  split at G
  ·rename_i h;have ad:l=[]:=qt (by simpa using h);subst ad;have R:s=0:=by simpa using G
   subst R;exact⟨0,by simp,rfl⟩
  ·rename_i h;simp at G;obtain⟨⟨R,hlen⟩,Il⟩:=G;have Z:=canon ae (by simpa using Il);have ai:=nr ae
   have azg:aX l≠0:=by
    intro ak;rw[ak] at Z;rw[Z] at h;simp[qB] at h
   refine⟨s*aX l,?_,?_⟩
   ·have:(s*aX l).natAbs=(aX l).toNat:=by rw[kX];rcases R with rfl|rfl<;>simp<;>omega
    rw[this,<-fR,<-Z];exact hlen
   ·unfold bt;have:(s*aX l).natAbs=(aX l).toNat:=by rw[kX];rcases R with rfl|rfl<;>simp<;>omega
    rw[this,<-Z]
    congr 1
    rcases R with rfl|rfl
    ·rw[nw,ij (by omega)]
    ·rw[Bu,nw,Ef,ij (by omega)]
 ·rintro⟨z,aP,h⟩
  cases h;refine⟨λd ae=>(Ik d).2 (lp _ d ae),?_⟩
  by_cases ak:z=0
  ·subst ak;rfl
  ·have aE:aH z.natAbs≠[]:=by rw[Ne,xN];omega
   rw[ar (by simp;exact aE)];have ad:=fR.2 aP;have mi:=YV z.natAbs;simp only[dp,Bool.or_eq_true,beq_iff_eq,decide_eq_true_eq,bne_iff_ne,ne_eq];refine⟨⟨?_,ad⟩,mi⟩;rcases rT z 0 with h|h|h
   ·exact .inr (n6 h)
   ·exact absurd h ak
   ·exact .inl (ij h)
def jZ {z:Int}(h:z.natAbs<de):cP (bt z)=true:=(hQ _).2 ⟨z,h,rfl⟩
def Mx (c:Raw):Raw×Int:=if decide ((c.2.length:Int)>60)=true then ((0,[]),6) else (c,0)
def qH (z:Int):Raw×Int:=if z.natAbs<de then (bt z,0) else ((0,[]),6)
def hC (x:Raw×Int):Data:=.dc [.agg (dG x.1),.int .i64 x.2]
def amf (s:Int)(n:Nat):ks s (aH n)=if n=0 then (0,[]) else (s,aH n):=by
 unfold ks;rw[YU]
 by_cases h:n=0
 ·subst h;rfl
 ·have:aH n≠[]:=by rw[Ne,xN];exact h
  rw[ar h,ar (by simp;exact this)]
def n7 {s:Int}{n:Nat}{z:Int}(h:z.natAbs=n)(R:n≠0->s=z.sign):ks s (aH n)=bt z:=by
 rw[amf];subst h
 by_cases ak:z.natAbs=0
 ·obtain rfl:z=0:=by omega
  rfl
 ·rw[ar ak,R ak]
  rfl
def Im (z:Int):Mx (bt z)=qH z:=by
 unfold Mx qH bt de;have:=fR (n:=z.natAbs) (k:=60)
 by_cases h:z.natAbs<1048576^60
 ·have:=this.2 h;rw[ar (by simp;omega),aq h]
 ·have:=mt this.1 h;rw[aq (by simp;omega),ar h]
abbrev My:Bool×Int×(List Int)->List Data:=λ(r,s,l)=>[.bool r,.agg [.int .i64 s,.ay (l.map aJ)]]
def Eg:=bW My λ(r,s,l)=>some (.same (hC (if r=true then Mx (s,l) else ((0,[]),1))))
def amg:∀a b,My a=My b->a=b:=by
  rintro⟨gf,s1,iP⟩ ⟨gV,s2,ah⟩ h;simp only[bo,Data.bool.injEq,Data.agg.injEq,Data.int.injEq,Data.ay.injEq] at h;exact cO h.1 (cO h.2.1.1.2 (map_inj fQ _ _ h.2.1.2.1))
@[go_sem] def Eh (r s l):=ux Eg rfl amg (r,s,l) rfl
def amh (T:bj):WF T Zc Eg:=by
 refine cp λ(r,s,l)=>⟨rfl,cq ?_⟩;simp only[Zc,My,cg]
 cases r
 ·refine ao ?_;repeat' (intro h<;>simp only[h,go_sem,go_sem_proc,au]<;>try refine an ?_ ?_)
  rfl
 ·refine ao ?_;repeat' (intro h<;>simp only[h,go_sem,go_sem_proc,au]<;>try refine an ?_ ?_)
  all_goals (simp only[hC,dG,Mx];simp only[cE, *,reduceIte,fP,h8,xH,xI,rE,sO,sP,iD,jV,h9,dm,beq_self_eq_true,bne])
def kh (a:Raw):Raw:=if cP a=true then bt (-gP a) else (0,[])
def aaE (z:Int):ks (-z.sign) (aH z.natAbs)=bt (-z):=n7 (by omega) λ_=>by rw[Ef]
def Io:=bW qD λ(s,l)=>cv (D l<=1000000) (.same (.agg (dG (kh (s,l)))))
@[go_sem] def azh (s l):=cK Io rfl DW (s,l) rfl
def ami (T:bj)(eI:T jW=aW s0)(g6:T v3=aW zn)(gQ:T ns=aW xX):WF T Y9 Io:=by
 refine cp λ(s,l)=>cN λZ=>⟨rfl,cq ?_⟩;simp only[Y9,qD,cg]
 by_cases Q:cP (s,l)=true
 ·obtain⟨z,aP,e⟩:=(hQ _).1 Q;have aK:kh (s,l)=bt (-z):=by unfold kh;rw[aq Q,e,eL]
  cases e
  have hw:IntKind.i64.wrap (0-z.sign) = -z.sign:=by
   have:=aaF z;rw[fr _];omega
  rw[aK];refine ao ?_;repeat' (intro h<;>simp only[h,go_sem,go_sem_proc,eI,g6,gQ,Q,Z,hw,aaE,dG]<;>try refine an ?_ ?_)
 ·have Q:cP (s,l)=false:=by simpa using Q
  have aK:kh (s,l)=(0,[]):=by unfold kh;rw[Q];rfl
  rw[aK];refine ao ?_;repeat' (intro h<;>simp only[h,go_sem,go_sem_proc,eI,g6,gQ,Q,Z,dG,cE]<;>try refine an ?_ ?_)
def ta (a:Raw):(a.1,a.2)=a:=rfl
def mulR (a b:Raw):Raw×Int:=if (cP a&&cP b)=true then qH (gP a*gP b) else ((0,[]),1)
def zB {x y:Int}(J:x.natAbs<de)(af:y.natAbs<de):mulR (bt x) (bt y)=qH (x*y):=by
 unfold mulR;rw[jZ J,jZ af,eL,eL]
 rfl
def n8 {z:Int}(h:z.natAbs<de):(aH z.natAbs).length<=60:=fR.2 h
def o2 (z:Int):-1<=z.sign/\z.sign<=1:=by
 have:=aaF z;omega
abbrev j0:Int×(List Int)×Int×(List Int)->List Data:=λ(s,l,s2,ah)=>[.agg [.int .i64 s,.ay (l.map aJ)],.agg [.int .i64 s2,.ay (ah.map aJ)]]
def Bv:=bW j0 λ(s,l,s2,ah)=>cv (D l<=1000000/\D ah<=1000000) (.same (hC (mulR (s,l) (s2,ah))))
def tb:∀a b,j0 a=j0 b->a=b:=by
  rintro⟨s1,iP,uI,tc⟩ ⟨s2,ah,uJ,td⟩ h;simp only[bo,Data.agg.injEq,Data.int.injEq,Data.ay.injEq] at h;exact cO h.1.1.2 (cO (map_inj fQ _ _ h.1.2.1) (cO h.2.1.1.2 (map_inj fQ _ _ h.2.1.2.1)))
@[go_sem] def azi (s l s2 ah):=cK Bv rfl tb (s,l,s2,ah) rfl
def amj (T:bj)(eI:T jW=aW s0)(ly:T DK=aW HW)(gQ:T ns=aW xX)(n9:T sU=aW Eg):WF T Y7 Bv:=by
 refine cp λ(s,l,s2,ah)=>cN λZ=>⟨rfl,cq ?_⟩;simp only[Y7,j0,cg];obtain⟨bH,bG⟩:=Z
 by_cases Q:cP (s,l)=true
 ·by_cases a5:cP (s2,ah)=true
  ·obtain⟨x,J,e⟩:=(hQ _).1 Q;obtain⟨y,af,az⟩:=(hQ _).1 a5;have hm:mulR (s,l) (s2,ah)=qH (x*y):=by rw[e,az];exact zB J af
   rw[hm];clear hm
   cases e
   cases az;have E:=o2 x;have G:=o2 y;have aF:x.sign*y.sign=(x*y).sign:=(oa x y).symm;have ab:=o2 (x*y);have hw:IntKind.i64.wrap (x.sign*y.sign)=(x*y).sign:=by rw[aF];exact wrap64 _ (by omega) (by omega)
   have hmul:=R4 x.natAbs y.natAbs ⟨cS (n8 J) (by omega),cS (n8 af) (by omega)⟩;simp only[da] at hmul
   have hlen:(aH (x.natAbs*y.natAbs)).length<=1000000:=by
    refine cS ((fR (k:=120)).2 ?_) (by omega);have:(1048576^120:Nat)=de*de:=by unfold de;rw[<-Nat.pow_add]
    rw[this];exact Nat.mul_lt_mul'' J af
   have R:ks (x*y).sign (aH (x.natAbs*y.natAbs))=bt (x*y):=n7 (kX x y) λ_=>rfl;refine ao ?_;repeat' (intro h<;>simp only[h,go_sem,go_sem_proc,eI,ly,gQ,n9,Q,a5,bH,bG,hw,hmul,hlen,R,Im,dG,hC,ta]<;>try refine an ?_ ?_)
  ·have a5:cP (s2,ah)=false:=by simpa using a5
   have hm:mulR (s,l) (s2,ah)=((0,[]),1):=by unfold mulR;rw[a5,jV];rfl
   rw[hm];have kx:=Eh false 0 [];simp only[cE] at kx;refine ao ?_;repeat' (intro h<;>simp only[h,go_sem,go_sem_proc,eI,ly,gQ,n9,Q,a5,bH,bG,kx,dG,hC,cE]<;>try refine an ?_ ?_)
 ·have Q:cP (s,l)=false:=by simpa using Q
  have hm:mulR (s,l) (s2,ah)=((0,[]),1):=by unfold mulR;rw[Q,h9];rfl
  rw[hm];have kx:=Eh false 0 [];simp only[cE] at kx;refine ao ?_;repeat' (intro h<;>simp only[h,go_sem,go_sem_proc,eI,ly,gQ,n9,Q,bH,bG,kx,dG,hC,cE]<;>try refine an ?_ ?_)
def te (a b:Raw):Raw×Int:=if (cP a&&cP b)=true then qH (gP a+gP b) else ((0,[]),1)
def aaG {x y:Int}(J:x.natAbs<de)(af:y.natAbs<de):te (bt x) (bt y)=qH (x+y):=by
 unfold te;rw[jZ J,jZ af,eL,eL]
 rfl
def Mz (a b:Nat):(aH (a-b)).length<=(aH a).length:=by
 rw[fR];exact wg (Nat.sub_le a b) (fR.1 (bI _))
def MA:=bW j0 λ(s,l,s2,ah)=>cv (D l<=1000000/\D ah<=1000000) (.same (hC (te (s,l) (s2,ah))))
@[go_sem] def azj (s l s2 ah):=cK MA rfl tb (s,l,s2,ah) rfl
def amk (T:bj)(eI:T jW=aW s0)(Ip:T Rr=aW Mg)(tf:T HH=aW HU)(tg:T DM=aW HV)(iR:T Bd=aW D0)(gQ:T ns=aW xX)(n9:T sU=aW Eg):WF T Zg MA:=by
 refine cp λ(s,l,s2,ah)=>cN λZ=>⟨rfl,cq ?_⟩;simp only[Zg,j0,cg];obtain⟨bH,bG⟩:=Z
 by_cases Q:cP (s,l)=true
 ·by_cases a5:cP (s2,ah)=true
  ·obtain⟨x,J,e⟩:=(hQ _).1 Q;obtain⟨y,af,az⟩:=(hQ _).1 a5;have hm:te (s,l) (s2,ah)=qH (x+y):=by rw[e,az];exact aaG J af
   rw[hm];clear hm
   cases e
   cases az;have E:=o2 x;have G:=o2 y;have nz:=n8 J;have kt:=n8 af;have azk:=Sz x;have azl:=Sz y
   have zC:(x.sign=1/\0<x)\/(x.sign=0/\x=0)\/(x.sign = -1/\x<0):=by
    rcases rT x 0 with h|h|h
    ·exact .inr (.inr ⟨n6 h,h⟩)
    ·exact .inr (.inl ⟨by rw[h];rfl,h⟩)
    ·exact .inl ⟨ij h,h⟩
   have ty:(y.sign=1/\0<y)\/(y.sign=0/\y=0)\/(y.sign = -1/\y<0):=by
    rcases rT y 0 with h|h|h
    ·exact .inr (.inr ⟨n6 h,h⟩)
    ·exact .inr (.inl ⟨by rw[h];rfl,h⟩)
    ·exact .inl ⟨ij h,h⟩
   have wx:=ZH x.natAbs y.natAbs ⟨by omega,by omega⟩
   simp only[da] at wx
   have hlen:(aH (x.natAbs+y.natAbs)).length<=1000000:=by
    refine cS ((fR (k:=61)).2 ?_) (by omega);have:(1048576^61:Nat)=de*1048576:=by unfold de;rw[<-sR]
    omega
   have zr:=ak2 [x.sign,y.sign] (by simp);simp only[hi,cE,aJ] at zr;have gC:=RU x.natAbs y.natAbs ⟨by omega,by omega⟩
   simp only[da] at gC
   by_cases aF:x.sign*y.sign>=0
   ·have hw:IntKind.i64.wrap (x.sign*y.sign)=x.sign*y.sign:=by
     rcases zC with ⟨e,_⟩|⟨e,_⟩|⟨e,_⟩<;>rw[e]<;>exact wrap64 _ (by omega) (by omega)
    have R:ks (Bk [x.sign,y.sign]) (aH (x.natAbs+y.natAbs))=bt (x+y):=by
     refine n7 ?_ ?_
     ·rcases zC with ⟨e,_⟩|⟨e,_⟩|⟨e,_⟩<;>rcases ty with ⟨e',_⟩|⟨e',_⟩|⟨e',_⟩<;>rw[e,e'] at aF<;>omega
     ·intro aE;rcases zC with ⟨e,_⟩|⟨e,_⟩|⟨e,_⟩<;>rcases ty with ⟨e',_⟩|⟨e',_⟩|⟨e',_⟩<;>rw[e,e'] at aF ⊢
      ·exact (ij (by omega)).symm
      ·exact (ij (by omega)).symm
      ·omega
      ·exact (ij (by omega)).symm
      ·omega
      ·exact (n6 (by omega)).symm
      ·omega
      ·exact (n6 (by omega)).symm
      ·exact (n6 (by omega)).symm
    refine ao ?_;repeat' (intro (aw:_=_)<;>simp only[aw,go_sem,go_sem_proc,eI,Ip,tf,tg,iR,gQ,n9,Q,a5,bH,bG,hw,aF,decide_true,zr,wx,hlen,R,Im,dG,hC,ta]<;>try refine an ?_ ?_)
   ·have hw:IntKind.i64.wrap (x.sign*y.sign)=x.sign*y.sign:=by
     rcases zC with ⟨e,_⟩|⟨e,_⟩|⟨e,_⟩<;>rw[e]<;>exact wrap64 _ (by omega) (by omega)
    by_cases av:x.natAbs<y.natAbs
    ·have x8:decide (gN x.natAbs y.natAbs<0)=true:=by unfold gN;rw[aq (by simp;omega)];rfl
     have kv:=R2 y.natAbs x.natAbs ⟨by omega,by omega⟩
     simp only[da] at kv;have Bw:(aH (y.natAbs-x.natAbs)).length<=1000000:=cS (Mz _ _) (by omega)
     have R:ks y.sign (aH (y.natAbs-x.natAbs))=bt (x+y):=by
      refine n7 ?_ ?_
      ·rcases zC with ⟨e,_⟩|⟨e,_⟩|⟨e,_⟩<;>rcases ty with ⟨e',_⟩|⟨e',_⟩|⟨e',_⟩<;>rw[e,e'] at aF<;>omega
      ·intro aE;rcases zC with ⟨e,_⟩|⟨e,_⟩|⟨e,_⟩<;>rcases ty with ⟨e',_⟩|⟨e',_⟩|⟨e',_⟩<;>rw[e,e'] at aF<;>rw[e']<;>first|omega|exact (ij (by omega)).symm|exact (n6 (by omega)).symm
     refine ao ?_;repeat' (intro (aw:_=_)<;>simp only[aw,go_sem,go_sem_proc,eI,Ip,tf,tg,iR,gQ,n9,Q,a5,bH,bG,hw,aF,decide_false,gC,x8,kv,Bw,R,Im,dG,hC,ta]<;>try refine an ?_ ?_)
    ·have x8:decide (gN x.natAbs y.natAbs<0)=false:=by unfold gN;rw[ar (by simp;omega)];split<;>rfl
     have kv:=R2 x.natAbs y.natAbs ⟨by omega,by omega⟩
     simp only[da] at kv;have Bw:(aH (x.natAbs-y.natAbs)).length<=1000000:=cS (Mz _ _) (by omega)
     have R:ks x.sign (aH (x.natAbs-y.natAbs))=bt (x+y):=by
      refine n7 ?_ ?_
      ·rcases zC with ⟨e,_⟩|⟨e,_⟩|⟨e,_⟩<;>rcases ty with ⟨e',_⟩|⟨e',_⟩|⟨e',_⟩<;>rw[e,e'] at aF<;>omega
      ·intro aE;rcases zC with ⟨e,_⟩|⟨e,_⟩|⟨e,_⟩<;>rcases ty with ⟨e',_⟩|⟨e',_⟩|⟨e',_⟩<;>rw[e,e'] at aF<;>rw[e]<;>first|omega|exact (ij (by omega)).symm|exact (n6 (by omega)).symm
     refine ao ?_;repeat' (intro (aw:_=_)<;>simp only[aw,go_sem,go_sem_proc,eI,Ip,tf,tg,iR,gQ,n9,Q,a5,bH,bG,hw,aF,decide_false,gC,x8,kv,Bw,R,Im,dG,hC,ta]<;>try refine an ?_ ?_)
  ·have a5:cP (s2,ah)=false:=by simpa using a5
   have hm:te (s,l) (s2,ah)=((0,[]),1):=by unfold te;rw[a5,jV];rfl
   rw[hm];have kx:=Eh false 0 [];simp only[cE] at kx;refine ao ?_;repeat' (intro (aw:_=_)<;>simp only[aw,go_sem,go_sem_proc,eI,Ip,tf,tg,iR,gQ,n9,Q,a5,bH,bG,kx,dG,hC,cE]<;>try refine an ?_ ?_)
 ·have Q:cP (s,l)=false:=by simpa using Q
  have hm:te (s,l) (s2,ah)=((0,[]),1):=by unfold te;rw[Q,h9];rfl
  rw[hm];have kx:=Eh false 0 [];simp only[cE] at kx;refine ao ?_;repeat' (intro (aw:_=_)<;>simp only[aw,go_sem,go_sem_proc,eI,Ip,tf,tg,iR,gQ,n9,Q,bH,bG,kx,dG,hC,cE]<;>try refine an ?_ ?_)
def jD (x:Int):(x.sign=1/\0<x)\/(x.sign=0/\x=0)\/(x.sign = -1/\x<0):=by
 rcases rT x 0 with h|h|h
 ·exact .inr (.inr ⟨n6 h,h⟩)
 ·exact .inr (.inl ⟨by rw[h];rfl,h⟩)
 ·exact .inl ⟨ij h,h⟩
def o3 (a b:Raw):Int:=if (cP a&&cP b)=true then gN (gP a) (gP b) else 0
def MB {x y:Int}(J:x.natAbs<de)(af:y.natAbs<de):o3 (bt x) (bt y)=gN x y:=by
 unfold o3;rw[jZ J,jZ af,eL,eL]
 rfl
def Bx {x y:Int}(h:x<y):gN x y = -1:=by unfold gN;rw[aq (by simpa using h)]
def By {x y:Int}(h:y<x):gN x y=1:=by unfold gN;rw[ar (by simp;omega),aq (by simpa using h)]
def Ei (x:Int):gN x x=0:=by unfold gN;simp
def MC:=bW j0 λ(s,l,s2,ah)=>cv (D l<=1000000/\D ah<=1000000) (.same (.int .i64 (o3 (s,l) (s2,ah))))
@[go_sem] def azm (s l s2 ah):=cK MC rfl tb (s,l,s2,ah) rfl
def aml (T:bj)(eI:T jW=aW s0)(s4:T DN=aW HS)(iR:T Bd=aW D0):WF T Zb MC:=by
 refine cp λ(s,l,s2,ah)=>cN λZ=>⟨rfl,cq ?_⟩;simp only[Zb,j0,cg];obtain⟨bH,bG⟩:=Z
 by_cases Q:cP (s,l)=true
 ·by_cases a5:cP (s2,ah)=true
  ·obtain⟨x,J,e⟩:=(hQ _).1 Q;obtain⟨y,af,az⟩:=(hQ _).1 a5;have hm:o3 (s,l) (s2,ah)=gN x y:=by rw[e,az];exact MB J af
   rw[hm];clear hm
   cases e
   cases az;have nz:=n8 J;have kt:=n8 af;have gC:=RU x.natAbs y.natAbs ⟨by omega,by omega⟩
   simp only[da] at gC
   by_cases R:x.sign=y.sign
   ·have x9:(x.sign==y.sign)=true:=by simpa using R
    have ll:IntKind.i64.wrap (y.sign*gN x.natAbs y.natAbs)=gN x y:=by
     rcases jD x with ⟨e,E⟩|⟨e,E⟩|⟨e,E⟩<;>rcases jD y with ⟨e',G⟩|⟨e',G⟩|⟨e',G⟩<;>rw[e,e'] at R<;>first|omega|skip
     ·rw[e',nw,show (x.natAbs:Int)=x by omega,show (y.natAbs:Int)=y by omega]
      rcases rT x y with h|h|h
      ·rw[Bx h];rfl
      ·rw[h,Ei];rfl
      ·rw[By h];rfl
     ·rw[e',E,G];rfl
     ·rw[e'];rcases rT x y with h|h|h
      ·rw[Bx h,By (by omega)];rfl
      ·rw[h,Ei,Ei];rfl
      ·rw[By h,Bx (by omega)];rfl
    rw[<-R] at ll;refine ao ?_;repeat' (intro (aw:_=_)<;>simp only[aw,go_sem,go_sem_proc,eI,s4,iR,Q,a5,bH,bG,x9,gC,ll]<;>try refine an ?_ ?_)
   ·have x9:(x.sign==y.sign)=false:=by simpa using R
    have ll:gN x.sign y.sign=gN x y:=by
     rcases jD x with ⟨e,E⟩|⟨e,E⟩|⟨e,E⟩<;>rcases jD y with ⟨e',G⟩|⟨e',G⟩|⟨e',G⟩<;>rw[e,e'] at R ⊢<;>first|omega|(rw[Bx (show x<y by omega)];rfl)|(rw[By (show y<x by omega)];rfl)
    refine ao ?_;repeat' (intro (aw:_=_)<;>simp only[aw,go_sem,go_sem_proc,eI,s4,iR,Q,a5,bH,bG,x9,ll]<;>try refine an ?_ ?_)
  ·have a5:cP (s2,ah)=false:=by simpa using a5
   have hm:o3 (s,l) (s2,ah)=0:=by unfold o3;rw[a5,jV];rfl
   rw[hm];refine ao ?_;repeat' (intro (aw:_=_)<;>simp only[aw,go_sem,go_sem_proc,eI,s4,iR,Q,a5,bH,bG]<;>try refine an ?_ ?_)
 ·have Q:cP (s,l)=false:=by simpa using Q
  have hm:o3 (s,l) (s2,ah)=0:=by unfold o3;rw[Q,h9];rfl
  rw[hm];refine ao ?_;repeat' (intro (aw:_=_)<;>simp only[aw,go_sem,go_sem_proc,eI,s4,iR,Q,bH,bG]<;>try refine an ?_ ?_)
def lz (a b:Raw):Raw×Int:=if (cP a&&cP b)=true then (bt (fS (gP a).natAbs (gP b).natAbs:Nat),0) else ((0,[]),1)
def Ej {x y:Int}(J:x.natAbs<de)(af:y.natAbs<de):fS x.natAbs y.natAbs<de:=by
 rcases jh x.natAbs with h|h
 ·rw[h,Nat.gcd_zero_left];exact af
 ·exact wg (Nat.gcd_le_left _ h) J
def Iq:=bW j0 λ(s,l,s2,ah)=>cv (D l<=1000000/\D ah<=1000000) (.same (hC (lz (s,l) (s2,ah))))
@[go_sem] def azn (s l s2 ah):=cK Iq rfl tb (s,l,s2,ah) rfl
def amm (T:bj)(eI:T jW=aW s0)(g6:T v3=aW zn)(qI:T HE=aW H9)(gQ:T ns=aW xX)(n9:T sU=aW Eg):WF T Y6 Iq:=by
 refine cp λ(s,l,s2,ah)=>cN λZ=>⟨rfl,cq ?_⟩;simp only[Y6,j0,cg];obtain⟨bH,bG⟩:=Z
 by_cases Q:cP (s,l)=true
 ·by_cases a5:cP (s2,ah)=true
  ·obtain⟨x,J,e⟩:=(hQ _).1 Q;obtain⟨y,af,az⟩:=(hQ _).1 a5
   have hm:lz (s,l) (s2,ah)=(bt (fS x.natAbs y.natAbs:Nat),0):=by
    rw[e,az];unfold lz
    rw[jZ J,jZ af,eL,eL]
    rfl
   rw[hm];clear hm
   cases e
   cases az;have nz:=n8 J;have kt:=n8 af;have aC:=Ej J af;generalize qE:x.natAbs=X at *;generalize ob:y.natAbs=cV at *;have Ir:(aH X).length<=1000000:=by omega
   simp only[go_sem,go_sem_proc,eI,g6,qI,gQ,n9,Q,a5,qE,ob,bH,bG,Ir,aJ,au];refine du [4] [137004] (λ((a,b):Nat×Nat) tm mem=>a<de/\b<de/\fS X cV=fS a b/\tm 6=.M (.ay ((aH a).map aJ))/\tm 7=.M (.ay ((aH b).map aJ))) (λ(_,b)=>b) (X,cV) (by refine⟨J,af,rfl,rfl,rfl⟩) ?_;intro vs ms aY aT;simp only[go_sem,go_sem_proc,eI,g6,qI,gQ,n9,qE,ob] at aY aT;subst aY aT;rintro⟨a,b⟩ tm mem O hm ⟨a2,U,uK,bz,bP⟩;simp only[go_sem,go_sem_proc,eI,g6,qI,gQ,n9,bo] at O hm;have aM:=O;have mi:(aH a).length<=60:=fR.2 a2;have pU:(aH b).length<=60:=fR.2 U;rcases jh b with ak|hr
   ·subst ak;have aP:aH 0=[]:=rfl;have SA:(aH a).length<=1000000:=by omega
    rw[Nat.gcd_zero_right] at uK;have R:ks 1 (aH a)=bt ((a:Nat):Int):=n7 (by simp) λaE=>(ij (by omega)).symm;have O:qH ((a:Nat):Int)=(bt ((a:Nat):Int),0):=by unfold qH;rw[aq (by simpa using a2)]
    rw[uK];refine ao ?_;repeat' (intro h<;>simp only[h,go_sem,go_sem_proc,eI,g6,qI,gQ,n9,aM,bz,bP,hm,aP,SA,R,O,Im,dG,hC,ta,cE,ln,nu,n2,show ¬ ((0:Int)>0) by omega,decide_false]<;>try refine an ?_ ?_)
   ·have a6:decide (((aH b).length:Int)>0)=true:=by
     have:aH b≠[]:=by rw[Ne,xN];omega
     have:=Is.2 this;exact dI
    have hdiv:=aac a b ⟨by omega,by omega,hr⟩
    simp only[da] at hdiv;refine ao ?_;repeat' (intro h<;>simp only[h,go_sem,go_sem_proc,eI,g6,qI,gQ,n9,aM,bz,bP,hm,a6,hdiv,au]<;>try refine an ?_ ?_)
    exact⟨(b,a%b),mW _ hr,U,wg (Nat.mod_le _ _) a2,by dsimp only;rw[uK,It a b,Nat.gcd_rec b a,It],rfl,rfl⟩
  ·have a5:cP (s2,ah)=false:=by simpa using a5
   have hm:lz (s,l) (s2,ah)=((0,[]),1):=by unfold lz;rw[a5,jV];rfl
   rw[hm];have kx:=Eh false 0 [];simp only[cE] at kx;refine ao ?_;repeat' (intro h<;>simp only[h,go_sem,go_sem_proc,eI,g6,qI,gQ,n9,Q,a5,bH,bG,kx,dG,hC,cE]<;>try refine an ?_ ?_)
 ·have Q:cP (s,l)=false:=by simpa using Q
  have hm:lz (s,l) (s2,ah)=((0,[]),1):=by unfold lz;rw[Q,h9];rfl
  rw[hm];have kx:=Eh false 0 [];simp only[cE] at kx;refine ao ?_;repeat' (intro h<;>simp only[h,go_sem,go_sem_proc,eI,g6,qI,gQ,n9,Q,bH,bG,kx,dG,hC,cE]<;>try refine an ?_ ?_)
def kY (a b:Raw):Raw×Raw×Int :=
 if (cP a&&cP b)=true then
  if gP b=0 then ((0,[]),(0,[]),15) else (bt ((gP a).fdiv (gP b)),bt ((gP a).fmod (gP b)),0)
 else ((0,[]),(0,[]),1)
def kZ (x:Raw×Raw×Int):Data:=.dc [.agg (dG x.1),.agg (dG x.2.1),.int .i64 x.2.2]
def aaH {x y q r:Int}(h:r+y*q=x)(Q:(0<=r/\r<y)\/(y<r/\r<=0)):x.fdiv y=q/\x.fmod y=r:=by
 rcases Q with ⟨E,G⟩|⟨E,G⟩
 ·exact (Int.fdiv_fmod_unique (by omega)).2 ⟨h,E,G⟩
 ·exact (Int.fdiv_fmod_unique' (by omega)).2 ⟨h,E,G⟩
def MD {x y:Int}(h:x.sign*y.sign<0)(hm:x.natAbs%y.natAbs≠0):
  x.fdiv y = -((x.natAbs/y.natAbs+1:Nat):Int)/\x.fmod y=y.sign*((y.natAbs-x.natAbs%y.natAbs:Nat):Int):=by
 have G:=LQ x.natAbs y.natAbs;generalize ey:x.natAbs/y.natAbs=al at *;generalize dK:x.natAbs%y.natAbs=bR at *
 have af:0<y.natAbs:=by
  rcases jh y.natAbs with ak|ak
  ·rw[Int.natAbs_eq_zero.1 ak] at h;simp at h
  ·exact ak
 have av:bR<y.natAbs:=by rw[<-dK];exact mW _ af
 have uf:(y.natAbs:Int)*al+bR=x.natAbs:=by exact_mod_cast G
 refine aaH ?_ ?_
 ·rcases jD x with ⟨e,E⟩|⟨e,E⟩|⟨e,E⟩<;>rcases jD y with ⟨e',ab⟩|⟨e',ab⟩|⟨e',ab⟩<;>rw[e,e'] at h<;>first|omega|rw[e']
  ·rw[aaI (by omega),aaJ,D7,hz];have:(y.natAbs:Int) = -y:=by omega
   rw[this] at uf ⊢;rw[Bu] at uf;omega
  ·rw[aaI (by omega),aaJ,D7,hz];have:(y.natAbs:Int)=y:=by omega
   rw[this] at uf ⊢;omega
 ·rcases jD y with ⟨e',ab⟩|⟨e',ab⟩|⟨e',ab⟩<;>rw[e']<;>omega
def ME {x y:Int}(af:y≠0)(h:¬ (x.sign*y.sign<0/\x.natAbs%y.natAbs≠0)):
  x.fdiv y=x.sign*y.sign*((x.natAbs/y.natAbs:Nat):Int)/\x.fmod y=x.sign*((x.natAbs%y.natAbs:Nat):Int):=by
 have G:=LQ x.natAbs y.natAbs;have av:x.natAbs%y.natAbs<y.natAbs:=mW _ (by omega);generalize ey:x.natAbs/y.natAbs=al at *;generalize dK:x.natAbs%y.natAbs=bR at *;have uf:(y.natAbs:Int)*al+bR=x.natAbs:=by exact_mod_cast G
 refine aaH ?_ ?_
 ·rcases jD x with ⟨e,E⟩|⟨e,E⟩|⟨e,E⟩<;>rcases jD y with ⟨e',ab⟩|⟨e',ab⟩|⟨e',ab⟩<;>first|omega|(rw[e,e'])
  ·rw[show (y.natAbs:Int)=y by omega] at uf;simp only[nw];omega
  ·rw[show (y.natAbs:Int) = -y by omega,Bu] at uf;simp only[nw,Bu,D7];omega
  ·simp only[ya,wm];omega
  ·simp only[ya,wm];omega
  ·rw[show (y.natAbs:Int)=y by omega] at uf;simp only[nw,Bu,D7,rM];omega
  ·rw[show (y.natAbs:Int) = -y by omega,Bu] at uf;simp only[nw,Bu,D7,Int.neg_neg];omega
 ·have alX:x.natAbs=0->bR=0:=by
   intro ak;rw[<-dK,ak,aaK]
  rcases jD x with ⟨e,E⟩|⟨e,E⟩|⟨e,E⟩<;>rcases jD y with ⟨e',ab⟩|⟨e',ab⟩|⟨e',ab⟩<;>rw[e,e'] at h<;>rw[e]<;>omega
def Ek {x y:Int}(J:x.natAbs<de)(g8:y≠0):(x.fdiv y).natAbs<de:=by
 by_cases h:x.sign*y.sign<0/\x.natAbs%y.natAbs≠0
 ·have ag:=(MD h.1 h.2).1;have G:=LQ x.natAbs y.natAbs
  have:x.natAbs/y.natAbs+1<=x.natAbs:=by
   have Bz:2<=y.natAbs:=by
    rcases fF y.natAbs 2 with ak|ak
    ·have:y.natAbs=1:=by omega
     rw[this,Nat.mod_one] at h;exact absurd rfl h.2
    ·exact ak
   have ab:2*(x.natAbs/y.natAbs)<=y.natAbs*(x.natAbs/y.natAbs):=mJ _ Bz;omega
  generalize x.natAbs/y.natAbs=al at *;omega
 ·have ag:=(ME g8 h).1;have ab:x.natAbs/y.natAbs<=x.natAbs:=aaL _ _
  have aM:(x.fdiv y).natAbs<=x.natAbs/y.natAbs:=by
   rw[ag,kX,kX,ik];have E:x.sign.natAbs<=1:=by have:=o2 x;omega
   have G:y.sign.natAbs<=1:=by have:=o2 y;omega
   have:=Nat.mul_le_mul E G;have:=mJ (x.natAbs/y.natAbs) this;omega
  omega
def aaM {x y:Int}(af:y.natAbs<de)(g8:y≠0):(x.fmod y).natAbs<de:=by
 by_cases h:x.sign*y.sign<0/\x.natAbs%y.natAbs≠0
 ·have ag:=(MD h.1 h.2).2;rcases jD y with ⟨e',ab⟩|⟨e',ab⟩|⟨e',ab⟩<;>rw[e'] at ag<;>omega
 ·have ag:=(ME g8 h).2;have av:x.natAbs%y.natAbs<y.natAbs:=mW _ (by omega);rcases jD x with ⟨e',ab⟩|⟨e',ab⟩|⟨e',ab⟩<;>rw[e'] at ag<;>omega
def BA {x y:Int}(J:x.natAbs<de)(af:y.natAbs<de)(ak:y≠0):kY (bt x) (bt y)=(bt (x.fdiv y),bt (x.fmod y),0):=by
 unfold kY;rw[jZ J,jZ af,eL,eL,aq (by rfl),ar ak]
def Iu:=bW j0 λ(s,l,s2,ah)=>cv (D l<=1000000/\D ah<=1000000) (.same (kZ (kY (s,l) (s2,ah))))
@[go_sem] def azo (s l s2 ah):=cK Iu rfl tb (s,l,s2,ah) rfl
def amn (T:bj)(eI:T jW=aW s0)(qI:T HE=aW H9)(tf:T HH=aW HU)(tg:T DM=aW HV)(gQ:T ns=aW xX):WF T Za Iu:=by
 refine cp λ(s,l,s2,ah)=>cN λZ=>⟨rfl,cq ?_⟩;simp only[Za,j0,cg];obtain⟨bH,bG⟩:=Z
 by_cases Q:cP (s,l)=true
 ·by_cases a5:cP (s2,ah)=true
  ·obtain⟨x,J,e⟩:=(hQ _).1 Q;obtain⟨y,af,az⟩:=(hQ _).1 a5
   by_cases g8:y=0
   ·have hm:kY (s,l) (s2,ah)=((0,[]),(0,[]),15):=by
     rw[e,az];unfold kY
     rw[jZ J,jZ af,eL,eL,aq (by rfl),aq g8]
    rw[hm]
    cases e
    cases az;have ak:((y.sign:Int)==0)=true:=by rw[g8];rfl
    refine ao ?_;repeat' (intro (aw:_=_)<;>simp only[aw,go_sem,go_sem_proc,eI,qI,tf,tg,gQ,Q,a5,bH,bG,ak,dG,kZ,cE]<;>try refine an ?_ ?_)
   ·have hm:kY (s,l) (s2,ah)=(bt (x.fdiv y),bt (x.fmod y),0):=by
     rw[e,az];exact BA J af g8
    rw[hm];clear hm
    cases e
    cases az;have nz:=n8 J;have kt:=n8 af;have BB:(y.sign==0)=false:=by rw[beq_eq_false_iff_ne,Ne,Int.sign_eq_zero_iff_zero];exact g8
    have BC:0<y.natAbs:=by omega
    have E:=o2 x;have G:=o2 y;have aF:x.sign*y.sign=(x*y).sign:=(oa x y).symm;have ab:=o2 (x*y);have hw:IntKind.i64.wrap (x.sign*y.sign)=x.sign*y.sign:=by rw[aF];exact wrap64 _ (by omega) (by omega)
    have hdiv:=aac x.natAbs y.natAbs ⟨by omega,by omega,BC⟩
    simp only[da] at hdiv;have aL:=Ek (y:=y) J g8;have El:=aaM (x:=x) af g8;have SB:x.natAbs/y.natAbs<de:=wg (aaL _ _) J;have amo:(aH (x.natAbs/y.natAbs)).length<=60:=fR.2 SB;have Em:x.natAbs%y.natAbs<de:=Nat.lt_trans (mW _ BC) af;have amp:(aH (x.natAbs%y.natAbs)).length<=60:=fR.2 Em
    by_cases rW:x.sign*y.sign<0/\x.natAbs%y.natAbs≠0
    ·obtain⟨eq,rX⟩:=MD rW.1 rW.2
     have a6:decide (((aH (x.natAbs%y.natAbs)).length:Int)>0)=true:=by
      have:aH (x.natAbs%y.natAbs)≠[]:=by rw[Ne,xN];exact rW.2
      have:=Is.2 this;exact dI
     have kV:decide (x.sign*y.sign<0)=true:=kG rW.1;have jn:aH 1=[1]:=by simp[aH,vY]
     have amq:(aH 1).length=1:=by rw[jn];rfl
     have wx:=ZH (x.natAbs/y.natAbs) 1 ⟨by omega,by omega⟩
     simp only[da,jn,hi,cE,aJ] at wx;have kv:=R2 y.natAbs (x.natAbs%y.natAbs) ⟨by omega,zD (mW _ BC)⟩
     simp only[da] at kv
     have mi:(aH (x.natAbs/y.natAbs+1)).length<=1000000:=by
      have:(x.natAbs/y.natAbs+1)<de:=by rw[eq] at aL;rw[yb,ik] at aL;exact aL
      have:=(fR (k:=60)).2 this;omega
     have pU:(aH (y.natAbs-x.natAbs%y.natAbs)).length<=1000000:=by have:=Mz y.natAbs (x.natAbs%y.natAbs);omega
     have e1:ks (-1) (aH (x.natAbs/y.natAbs+1))=bt (x.fdiv y):=n7 (by rw[eq,yb,ik]) λ_=>by rw[eq,Ef,ij (show (0:Int)<((x.natAbs/y.natAbs+1:Nat):Int) by exact BD.2 (Nat.succ_pos _))]
     have gR:ks y.sign (aH (y.natAbs-x.natAbs%y.natAbs))=bt (x.fmod y):=by
      refine n7 ?_ λaE=>?_
      ·rw[rX];rcases jD y with ⟨e',ab⟩|⟨e',ab⟩|⟨e',ab⟩<;>rw[e']<;>omega
      ·rw[rX,oa,yc,ij (show (0:Int)<((y.natAbs-x.natAbs%y.natAbs:Nat):Int) by omega),rM]
     refine ao ?_;repeat' (intro (aw:_=_)<;>simp only[aw,go_sem,go_sem_proc,eI,qI,tf,tg,gQ,Q,a5,bH,bG,BB,hw,hdiv,a6,kV,wx,kv,mi,pU,e1,gR,aJ,au,dG,kZ,ta]<;>try refine an ?_ ?_)
    ·obtain⟨eq,rX⟩:=ME g8 rW
     have SC:(decide (x.sign*y.sign<0)=true/\decide (((aH (x.natAbs%y.natAbs)).length:Int)>0)=false)\/decide (x.sign*y.sign<0)=false:=by
      by_cases aE:x.sign*y.sign<0
      ·left
       have:x.natAbs%y.natAbs=0:=Decidable.not_not.1 λh=>rW ⟨aE,h⟩;rw[this];exact⟨kG aE,rfl⟩
      ·right;exact lP aE
     have mi:(aH (x.natAbs/y.natAbs)).length<=1000000:=by omega
     have pU:(aH (x.natAbs%y.natAbs)).length<=1000000:=by omega
     have e1:ks (x.sign*y.sign) (aH (x.natAbs/y.natAbs))=bt (x.fdiv y):=by
      refine n7 ?_ λaE=>?_
      ·rw[eq]
       have th:∀al:Nat,(x=0->al=0)->(x.sign*y.sign*(al:Int)).natAbs=al:=by
        intro al ak;rcases jD x with ⟨e,E⟩|⟨e,E⟩|⟨e,E⟩<;>rcases jD y with ⟨e',ab⟩|⟨e',ab⟩|⟨e',ab⟩<;>rw[e,e']<;>first|omega|(rw[ak E];rfl)
       exact th _ λak=>by rw[ak];exact Nat.zero_div _
      ·rw[eq,aF,oa,oa,oa,yc,yc,ij (show (0:Int)<((x.natAbs/y.natAbs:Nat):Int) from BD.2 (DE aE)),rM]
     have gR:ks x.sign (aH (x.natAbs%y.natAbs))=bt (x.fmod y):=by
      refine n7 ?_ λaE=>?_
      ·rw[rX]
       have th:∀al:Nat,(x=0->al=0)->(x.sign*(al:Int)).natAbs=al:=by
        intro al ak;rcases jD x with ⟨e,E⟩|⟨e,E⟩|⟨e,E⟩<;>rw[e]<;>first|omega|(rw[ak E];rfl)
       exact th _ λak=>by rw[ak];exact aaK _
      ·rw[rX,oa,yc,ij (show (0:Int)<((x.natAbs%y.natAbs:Nat):Int) from BD.2 (DE aE)),rM]
     rcases SC with ⟨BE,SD⟩|BE
     ·refine ao ?_;repeat' (intro (aw:_=_)<;>simp only[aw,go_sem,go_sem_proc,eI,qI,tf,tg,gQ,Q,a5,bH,bG,BB,hw,hdiv,BE,SD,mi,pU,e1,gR,aJ,au,dG,kZ,ta]<;>try refine an ?_ ?_)
     ·refine ao ?_;repeat' (intro (aw:_=_)<;>simp only[aw,go_sem,go_sem_proc,eI,qI,tf,tg,gQ,Q,a5,bH,bG,BB,hw,hdiv,BE,mi,pU,e1,gR,aJ,au,dG,kZ,ta]<;>try refine an ?_ ?_)
  ·have a5:cP (s2,ah)=false:=by simpa using a5
   have hm:kY (s,l) (s2,ah)=((0,[]),(0,[]),1):=by unfold kY;rw[a5,jV];rfl
   rw[hm];refine ao ?_;repeat' (intro (aw:_=_)<;>simp only[aw,go_sem,go_sem_proc,eI,qI,tf,tg,gQ,Q,a5,bH,bG,dG,kZ,cE]<;>try refine an ?_ ?_)
 ·have Q:cP (s,l)=false:=by simpa using Q
  have hm:kY (s,l) (s2,ah)=((0,[]),(0,[]),1):=by unfold kY;rw[Q,h9];rfl
  rw[hm];refine ao ?_;repeat' (intro (aw:_=_)<;>simp only[aw,go_sem,go_sem_proc,eI,qI,tf,tg,gQ,Q,bH,bG,dG,kZ,cE]<;>try refine an ?_ ?_)
def dQ (n:Int):Prop:=-9223372036854775808<=n/\n<=9223372036854775807
def amr {n:Nat}(h:n<=9223372036854775808):n<de:=by
 unfold de;refine vt (m:=1048576^4) ?_ (jC (by omega) (by omega));omega
def yd {n:Int}(h:dQ n):n.natAbs<de:=amr (by unfold dQ at h;omega)
def SE (n:Int)(E:-18446744073709551616<=n)(G:n<0):IntKind.u64.wrap n=n+18446744073709551616:=by
 unfold IntKind.wrap;simp[IntKind.bits,IntKind.signed];omega
def MF:=bW sZ λ(n:Int)=>cv (dQ n) (.same (.agg (dG (bt n))))
@[go_sem] def azp (n):=cK MF rfl HQ n rfl
def ams (T:bj)(gQ:T ns=aW xX):WF T Y8 MF:=by
 refine cp λn=>cN λZ=>⟨rfl,cq ?_⟩;simp only[Y8,sZ,cg];have uh:=Z;unfold dQ at uh;obtain⟨tU,pD⟩:=uh;have R:∀s:Int,(n≠0->s=n.sign)->ks s (aH n.natAbs)=bt n:=λs h=>n7 rfl λa6=>h (by omega);have hlen:(aH n.natAbs).length<=60:=fR.2 (yd Z);rcases eo (n<0) with kV|hr
 ·have hw:=SE n (by omega) kV
  have gD:IntKind.u64.wrap (0-(n+18446744073709551616))=(n.natAbs:Int):=by
   rw[SE _ (by omega) (by omega)];omega
  simp only[go_sem,go_sem_proc,gQ,kV,hw,gD,decide_true];refine du [2,3] [150002] (λ((u,g,l):Nat×Nat×List Int) tm mem=>u<=9223372036854775808/\aH n.natAbs=l++aH u/\tm 4=.M (.int .u64 u)/\tm 5=.ref 150021 g 1 0 (D l)/\mem 150021=some (g,a7 aJ l)) (λ(u,_)=>u) (n.natAbs,0,[]) (by refine⟨by omega,rfl,?_,rfl,rfl⟩;rfl) ?_;intro vs ms aY aT;simp only[go_sem,go_sem_proc,gQ] at aY aT;subst aY aT;rintro⟨u,g,l⟩ tm mem O hm ⟨hu,ae,aM,bl,Iv⟩;simp only[go_sem,go_sem_proc,gQ,bo] at O hm;obtain⟨G,ab⟩:=O;rcases jh u with ak|zz
  ·subst ak;rw[qB,nZ] at ae;rw[ae] at R hlen;have zE:(D l)<=1000000:=by omega
   have dE:=R (-1) (λ_=>by exact (n6 kV).symm);refine ao ?_;repeat' (intro (aw:_=_)<;>simp only[aw,go_sem,go_sem_proc,gQ,G,ab,aM,bl,hm,Iv,dE,zE,dG,nu,n2,au,show ¬ ((0:Int)>0) by omega,decide_false,xK iO,oc]<;>try refine an ?_ ?_)
  ·have x6:(D l)<=60:=by
    have:=congrArg D ae;rw[la] at this;omega
   have lj:decide ((u:Int)>0)=true:=dI;have dP:∀a:Int,mF 150021 g 1 (D l) 8 1 [.M (.int .i64 a)] (some (g,a7 aJ l))=_:=λa=>oQ iO vZ 150021 g 8 l a rfl (by omega) (by omega);have hand:=Y0 u ⟨by omega,by omega⟩
   have Dl:IntKind.i64.wrap ((u:Int)%1048576)=(u:Int)%1048576:=wrap64 _ (by omega) (by omega);refine ao ?_;repeat' (intro (aw:_=_)<;>simp only[aw,go_sem,go_sem_proc,gQ,G,ab,aM,bl,hm,Iv,lj,dP,hand,Dl,uy,show ((20:Int)<0)=False from by simp,if_false,au,bo]<;>try refine an ?_ ?_)
   refine⟨(u/1048576,g+1,l++[(u:Int)%1048576]),by dsimp only;omega,by dsimp only;omega,by dsimp only;rw[hj,ae,sQ zz];rfl,by first|rfl|(dsimp only;rw[xQ _ ⟨by omega,by omega⟩];rfl),by simp,by simp[go_sem]⟩
 ·have hw:IntKind.u64.wrap n=(n.natAbs:Int):=by rw[xQ _ ⟨by omega,by omega⟩];omega
  simp only[go_sem,go_sem_proc,gQ,hr,hw,decide_false];refine du [2,3] [150002] (λ((u,g,l):Nat×Nat×List Int) tm mem=>u<=9223372036854775808/\aH n.natAbs=l++aH u/\tm 4=.M (.int .u64 u)/\tm 5=.ref 150021 g 1 0 (D l)/\mem 150021=some (g,a7 aJ l)) (λ(u,_)=>u) (n.natAbs,0,[]) (by refine⟨by omega,rfl,?_,rfl,rfl⟩;rfl) ?_;intro vs ms aY aT;simp only[go_sem,go_sem_proc,gQ] at aY aT;subst aY aT;rintro⟨u,g,l⟩ tm mem O hm ⟨hu,ae,aM,bl,Iv⟩;simp only[go_sem,go_sem_proc,gQ,bo] at O hm;obtain⟨G,ab⟩:=O;rcases jh u with ak|zz
  ·subst ak;rw[qB,nZ] at ae;rw[ae] at R hlen;have zE:(D l)<=1000000:=by omega
   have dE:=R 1 (λ_=>by exact (ij (by omega)).symm);refine ao ?_;repeat' (intro (aw:_=_)<;>simp only[aw,go_sem,go_sem_proc,gQ,G,ab,aM,bl,hm,Iv,dE,zE,dG,nu,n2,au,show ¬ ((0:Int)>0) by omega,decide_false,xK iO,oc]<;>try refine an ?_ ?_)
  ·have x6:(D l)<=60:=by
    have:=congrArg D ae;rw[la] at this;omega
   have lj:decide ((u:Int)>0)=true:=dI;have dP:∀a:Int,mF 150021 g 1 (D l) 8 1 [.M (.int .i64 a)] (some (g,a7 aJ l))=_:=λa=>oQ iO vZ 150021 g 8 l a rfl (by omega) (by omega);have hand:=Y0 u ⟨by omega,by omega⟩
   have Dl:IntKind.i64.wrap ((u:Int)%1048576)=(u:Int)%1048576:=wrap64 _ (by omega) (by omega);refine ao ?_;repeat' (intro (aw:_=_)<;>simp only[aw,go_sem,go_sem_proc,gQ,G,ab,aM,bl,hm,Iv,lj,dP,hand,Dl,uy,show ((20:Int)<0)=False from by simp,if_false,au,bo]<;>try refine an ?_ ?_)
   refine⟨(u/1048576,g+1,l++[(u:Int)%1048576]),by dsimp only;omega,by dsimp only;omega,by dsimp only;rw[hj,ae,sQ zz];rfl,by first|rfl|(dsimp only;rw[xQ _ ⟨by omega,by omega⟩];rfl),by simp,by simp[go_sem]⟩
def amt (k:IntKind)(a b:Int):bits .or k a b=bits .or k b a:=by
 simp only[bits,BitVec.or_comm]
def amu (u d:Int)(i:Nat)(L:(2:Int)^i<=1152921504606846976)(hu:0<=u/\u<2^i)(ae:0<=d)(h:d*2^i<18446744073709551616):bits .or .u64 u (d*2^i)=u+d*2^i:=by
 rw[amt,wj];have ak:0<=d*2^i:=zp ae (by exact SF (Ie (by omega)));refine bits_join .u64 64 (by decide) (λn E G=>xQ n ⟨E,by omega⟩) i _ _ ak (Int.mul_emod_left _ _) (by omega) hu.1 hu.2 (by omega)
instance (n:Int):Decidable (dQ n):=by unfold dQ;exact inferInstance
def wy (a:Raw):Int×Bool:=if cP a=true/\dQ (gP a) then (gP a,true) else (0,false)
def MG:=bW qD λ(s,l)=>cv (D l<=1000000) (.same (.dc [.int .i64 (wy (s,l)).1,.bool (wy (s,l)).2]))
@[go_sem] def azq (s l):=cK MG rfl DW (s,l) rfl
def amv (T:bj)(eI:T jW=aW s0):WF T Zf MG:=by
 refine cp λ(s,l)=>cN λZ=>⟨rfl,cq ?_⟩;simp only[Zf,qD,cg]
 by_cases Q:cP (s,l)=true
 ·obtain⟨z,aP,e⟩:=(hQ _).1 Q
  cases e
  have L:wy (z.sign,aH z.natAbs)=if dQ z then (z,true) else (0,false):=by
   unfold wy;rw[Q,show gP (z.sign,aH z.natAbs)=z from eL z];simp
  rw[L];clear L;have R:=jD z
  by_cases aM:(aH z.natAbs).length<=4
  ·have SG:decide (((aH z.natAbs).length:Int)>4)=false:=dV;have nU:=kr z.natAbs;have fb:=lp z.natAbs;generalize aH z.natAbs=l at *;simp only[go_sem,go_sem_proc,eI,Q,Z,SG,au,aJ];refine du [1,17,18] [159001] (λ((i,u):Nat×Int) tm mem=>i<=D l/\u=aX (l.take i)/\u<18446744073709551616/\tm 4=.M (.int .u64 u)/\tm 19=.M (.int .i64 i)) (λ(i,_)=>D l-i) (0,0) (by refine⟨by omega,rfl,by omega,rfl,rfl⟩) ?_;intro vs ms aY aT;simp only[go_sem,go_sem_proc,eI] at aY aT;subst aY aT;rintro⟨i,u⟩ tm mem O hm ⟨L,hu,azr,zF,zG⟩;simp only[go_sem,go_sem_proc,eI,bo] at O hm;obtain⟨E,jo,iQ⟩:=O;have aaN:dZ (l.take i):=λd ae=>fb d (AI ae);have En:0<=u:=by rw[hu];exact nr aaN
   rcases eo (i<D l) with av|bM
   ·have J:=bw av;have ae:=fb l[i] (iJ av);have pI:=kd l i av;have MH:=xO aaN;rw[hg,mM (zD av),<-hu] at MH;rw[<-hu] at pI;generalize l[i]=d at *;have ye:decide ((i:Int)<(D l:Int))=true:=dI;have H4:IntKind.u64.wrap d=d:=xQ d ⟨ae.1,by omega⟩
    have Ee:IntKind.i64.wrap (20*(i:Int))=((20*i:Nat):Int):=by rw[fr _];omega
    have Ln:min (20*i) 64=20*i:=by omega
    have pH:(((20*i:Nat):Int)<0)=False:=eq_false (by omega);have Eo:(1048576:Int)^i=2^(20*i):=by rw[Int.pow_mul];rfl
    rw[Eo] at MH pI
    have j9:(2:Int)^(20*i)<=1152921504606846976:=by
     obtain rfl|rfl|rfl|rfl:i=0\/i=1\/i=2\/i=3:=by omega
     all_goals decide
    by_cases aaO:i=3/\d>8
    ·obtain⟨rfl,SH⟩:=aaO;have amw:decide (d>8)=true:=kG SH;have MI:(((3:Nat):Int)==3)=true:=rfl
     have amx:¬ dQ z:=by
      have zs:=Hx l 4;rw[nU] at zs;have:0<=aX (l.drop 4):=nr λd ae=>fb d (D9 ae);have bl:=zp (show (0:Int)<=1048576^(min 4 (D l)) from SF (Ie (by omega))) this;unfold dQ;simp only[QP,Yx,aaP] at pI;rw[pI] at zs;omega
     rw[ar amx];refine ao ?_;repeat' (intro (aw:_=_)<;>simp only[aw,go_sem,go_sem_proc,eI,E,jo,iQ,zF,zG,hm,J,ae.1,ae.2,ye,H4,amw,MI,au,bD,bo,aJ]<;>try refine an ?_ ?_)
    ·have n3:d*2^(20*i)<18446744073709551616:=by
      obtain rfl|rfl|rfl|rfl:i=0\/i=1\/i=2\/i=3:=by omega
      all_goals simp
      all_goals omega
     have zr:=amu u d (20*i) j9 ⟨En,MH⟩ ae.1 n3;have Iw:0<=d*2^(20*i):=zp ae.1 (SF (Ie (by omega)));have SI:IntKind.u64.wrap (d*2^(20*i))=d*2^(20*i):=xQ _ ⟨Iw,n3⟩
     have s9:u+d*2^(20*i)<18446744073709551616:=by
      clear zr SI Iw Ee pH Eo j9 pI;obtain rfl|rfl|rfl|rfl:i=0\/i=1\/i=2\/i=3:=by omega
      all_goals simp only[QP,aaP] at MH n3 ⊢
      all_goals omega
     by_cases ab:((i:Int)==3)=true
     ·have SH:decide (d>8)=false:=lP λh=>aaO ⟨by simp at ab;omega,h⟩
      refine ao ?_;repeat' (intro (aw:_=_)<;>simp only[aw,go_sem,go_sem_proc,eI,E,jo,iQ,zF,zG,hm,J,ae.1,ae.2,ye,H4,ab,SH,Ee,pH,if_false,mY,Ln,SI,zr,au,bD,bo,aJ]<;>try refine an ?_ ?_)
      exact⟨(i+1,u+d*2^(20*i)),by dsimp only;omega,by dsimp only;omega,by dsimp only;rw[pI,mj],s9,rfl,by rw[fr _];rfl⟩
     ·have ab:((i:Int)==3)=false:=by simpa using ab
      refine ao ?_;repeat' (intro (aw:_=_)<;>simp only[aw,go_sem,go_sem_proc,eI,E,jo,iQ,zF,zG,hm,J,ae.1,ae.2,ye,H4,ab,Ee,pH,if_false,mY,Ln,SI,zr,au,bD,bo,aJ]<;>try refine an ?_ ?_)
      exact⟨(i+1,u+d*2^(20*i)),by dsimp only;omega,by dsimp only;omega,by dsimp only;rw[pI,mj],s9,rfl,by rw[fr _];rfl⟩
   ·have ye:decide ((i:Int)<(D l:Int))=false:=dV;have iF:i=D l:=by omega
    rw[iF,oc,nU] at hu;rcases R with ⟨R,pG⟩|⟨R,pG⟩|⟨R,pG⟩
    ·by_cases hr64:u<9223372036854775808
     ·rw[aq (by unfold dQ;omega)];have hw:IntKind.i64.wrap u=z:=by rw[wrap64 u (by omega) (by omega)];omega
      refine ao ?_;repeat' (intro (aw:_=_)<;>simp only[aw,go_sem,go_sem_proc,eI,E,jo,iQ,zF,zG,hm,ye,R,hr64,show decide ((1:Int)<0)=false from rfl,show decide ((1:Int)>=0)=true from rfl,show decide ((-1:Int)<0)=true from rfl,show decide ((-1:Int)>=0)=false from rfl,hw,decide_true,decide_false,au]<;>try refine an ?_ ?_)
     ·rw[ar (by unfold dQ;omega)];refine ao ?_;repeat' (intro (aw:_=_)<;>simp only[aw,go_sem,go_sem_proc,eI,E,jo,iQ,zF,zG,hm,ye,R,hr64,show decide ((1:Int)<0)=false from rfl,show decide ((1:Int)>=0)=true from rfl,show decide ((-1:Int)<0)=true from rfl,show decide ((-1:Int)>=0)=false from rfl,decide_true,decide_false,au]<;>try refine an ?_ ?_)
    ·rw[aq (by unfold dQ;omega)];have amy:u=0:=by omega
     subst pG;subst amy;refine ao ?_;repeat' (intro (aw:_=_)<;>simp only[aw,go_sem,go_sem_proc,eI,E,jo,iQ,zF,zG,hm,ye,R,show decide ((0:Int)<0)=false from rfl,show decide ((0:Int)>=0)=true from rfl,show decide ((0:Int)<9223372036854775808)=true from rfl,show IntKind.i64.wrap 0=0 from rfl,show (0:Int).sign=0 from rfl,decide_true,decide_false,au]<;>try refine an ?_ ?_)
    ·by_cases hr64:u<=9223372036854775808
     ·rw[aq (by unfold dQ;omega)];have hw:=SE (0-u) (by omega) (by omega)
      have gD:IntKind.i64.wrap (0-u+18446744073709551616)=z:=by
       simp[IntKind.wrap,IntKind.bits,IntKind.signed];omega
      refine ao ?_;repeat' (intro (aw:_=_)<;>simp only[aw,go_sem,go_sem_proc,eI,E,jo,iQ,zF,zG,hm,ye,R,hr64,show decide ((1:Int)<0)=false from rfl,show decide ((1:Int)>=0)=true from rfl,show decide ((-1:Int)<0)=true from rfl,show decide ((-1:Int)>=0)=false from rfl,hw,gD,decide_true,decide_false,au]<;>try refine an ?_ ?_)
     ·rw[ar (by unfold dQ;omega)];refine ao ?_;repeat' (intro (aw:_=_)<;>simp only[aw,go_sem,go_sem_proc,eI,E,jo,iQ,zF,zG,hm,ye,R,hr64,show decide ((1:Int)<0)=false from rfl,show decide ((1:Int)>=0)=true from rfl,show decide ((-1:Int)<0)=true from rfl,show decide ((-1:Int)>=0)=false from rfl,decide_true,decide_false,au]<;>try refine an ?_ ?_)
  ·have SG:decide (((aH z.natAbs).length:Int)>4)=true:=dI
   have aE:¬ dQ z:=by
    intro h;unfold dQ at h;refine aM (fR.2 ?_);omega
   rw[ar aE];refine ao ?_;repeat' (intro (aw:_=_)<;>simp only[aw,go_sem,go_sem_proc,eI,Q,Z,SG,au]<;>try refine an ?_ ?_)
 ·have Q:cP (s,l)=false:=by simpa using Q
  have L:wy (s,l)=(0,false):=by unfold wy;rw[ar];rw[Q];simp
  rw[L];refine ao ?_;repeat' (intro (aw:_=_)<;>simp only[aw,go_sem,go_sem_proc,eI,Q,Z]<;>try refine an ?_ ?_)
end Go.Mini
