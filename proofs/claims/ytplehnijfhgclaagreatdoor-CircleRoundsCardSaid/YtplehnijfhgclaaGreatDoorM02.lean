/- A part of the proof. -/
import Derived.LoopN
import Derived.Laws.BitsLemmas
import Derived.ChangeSame
import Derived.Handed
import Derived.JoinedOf
import Derived.JoinedCond
import Derived.OpenShut
import Derived.ProofKit
import Derived.Test.YtplehnijfhgclaaGreatDoorM01
set_option linter.unusedSimpArgs false
set_option linter.unusedVariables false
set_option linter.defProp false
set_option maxRecDepth 100000
set_option maxHeartbeats 4000000
noncomputable section
open Bool renaming and_eq_true->dH,and_false->h2,and_true->rp,false_and->e1,false_eq_true->df,false_or->l2,not_false->dY,not_true->dT,or_false->oG,or_true->pF,true_and->gy,true_or->m0
open Classical renaming choose->Dv,choose_spec->rn
open Decidable renaming em->eC
open Int renaming add_comm->vW,add_mul->rI,add_mul_ediv_left->ZD,add_mul_emod_self_left->ZF,add_zero->HZ,bmod_def->YI,cast_ofNat_Int->n2,ediv_eq_zero_of_lt->R3,ediv_lt_of_lt_mul->ZG,ediv_nonneg->R5,emod_add_mul_ediv->zh,emod_emod_of_dvd->YJ,emod_eq_of_lt->R4,emod_lt_of_pos->R8,emod_nonneg->R7,le_of_lt->SB,lt_trichotomy->pQ,mul_add->hx,mul_assoc->hy,mul_comm->mC,mul_le_mul->RZ,mul_le_mul_of_nonneg_left->xN,mul_le_mul_of_nonneg_right->lJ,mul_left_comm->R9,mul_neg->DZ,mul_nonneg->zj,mul_one->rE,mul_right_comm->zp,mul_sub->DU,mul_zero->vY,natAbs_mul->k1,natAbs_natCast->ih,natAbs_neg->xY,natCast_add->aas,natCast_ediv->ZC,natCast_emod->ZE,natCast_mul->Z1,natCast_pos->By,natCast_pow->Bk,natCast_zero->nw,neg_mul->Bq,ofNat_sub->aar,one_mul->ny,pow_add->ZA,pow_pos->H4,pow_succ->l3,reducePow->aay,sign_eq_neg_one_of_neg->kF,sign_eq_one_of_pos->gJ,sign_mul->nC,sign_mul_natAbs->D7,sign_neg->D8,sign_sign->xZ,sign_trichotomy->aap,sub_mul->ZT,sub_zero->HQ,tdiv_eq_ediv_of_nonneg->DY,tmod_eq_emod_of_nonneg->HR,toNat->A1,toNat_natCast->pJ,zero_add->R2,zero_mul->xX
open List renaming all_cons->Dw,all_eq_true->jO,append_assoc->hh,append_inj->RL,append_nil->nZ,concat_eq_append->Q5,cons_append->lE,drop->pK,drop_append->DA,drop_drop->xo,drop_eq_getElem_cons->fY,drop_eq_nil_of_le->lq,drop_left->QS,drop_length->QW,drop_set_of_lt->ri,drop_zero->oF,eq_nil_of_length_eq_zero->qf,eq_nil_or_concat->Q4,flatMap_cons->QY,flatten_cons->lj,getElem?_append->C7,getElem?_drop->sC,getElem?_eq_getElem->bB,getElem?_eq_some_iff->dn,getElem?_map->bG,getElem?_take_of_lt->xq,getElem_mem->kT,getElem_set_self->xO,length->D,length_append->lk,length_cons->jG,length_drop->rq,length_eq_one_iff->Ya,length_map->az,length_nil->lD,length_pos_iff->Ig,length_range->AU,length_set->fN,length_take->hf,mapM_cons->mx,mapM_nil->Yj,map_cons->hv,map_nil->cl,mem_append->hs,mem_attach->Yh,mem_cons->ia,mem_flatMap->AJ,mem_iff_getElem?->sG,mem_map->h3,mem_of_getElem?->du,mem_of_mem_drop->D1,mem_of_mem_take->Aw,mem_range->qo,mem_replicate->vU,mem_singleton->v3,nil_append->jR,range->je,replicate->cK,replicate_succ->pw,take->oK,take_add_one->jj,take_append_drop->He,take_left->QR,take_length->sW,take_of_length_le->dz,take_succ_cons->QJ,take_zero->LF
open List.cons renaming inj->Bi,injEq->bs
open Nat renaming add_assoc->q7,add_mul->ou,add_sub_cancel_left->DC,add_zero->kv,and_two_pow_sub_one_eq_mod->YK,div_add_mod->LJ,div_eq_of_lt->QV,div_le_self->aau,div_lt_iff_lt_mul->YH,eq_zero_or_pos->iK,gcd->fO,gcd_comm->Ih,le_of_lt->zv,le_refl->bM,le_trans->cN,lt_of_le_of_lt->vS,lt_of_lt_of_le->u9,lt_or_ge->fE,min_eq_left->mS,mod_eq_of_lt->Hk,mod_lt->m1,mul_comm->pH,mul_le_mul_left->H6,mul_le_mul_right->mP,mul_one->dE,pos_of_ne_zero->DF,pow_le_pow_right->jU,pow_succ->rv,reduceAdd->Yk,reduceMul->QK,strongRecOn->QI,zero_add->lr,zero_le->eL,zero_mod->aat,zero_mul->LI
open Option renaming bind_eq_bind->fD,bind_eq_some_iff->di,bind_some->y7,map_eq_some_iff->cO,map_some->kx,pure_def->ft
open Option.some renaming inj->mT,injEq->bH
open Prod renaming ext->cy,ext_iff->HJ
open Prod.mk renaming injEq->ei
namespace Go.Mini
open Go
variable {P:Program} {aU:Option I} {T:bl} {A:Nat->Prop} {b5 w:World} {c8 B:cG} {mem:Mem} {n kb:Nat} {own:List Nat} {ak:Exit->Act->World->Prop}
def X4 {k:Key}{av gD:Nat->Prop}{aB:cG}{v:Value}{sz:Nat}{e:gN}(he:B k=some e)(ai:aN w av aB .nil v):aN w gD B (.ref k e.g sz 0 0) v:=by
 cases ai;exact .ref he (bM _) ⟨_,0,rfl,bM _,eL _,.inl rfl⟩
def X5 (w:World)(b i:Nat)(v:Value):Prop:=w.cell? ⟨b,i,none⟩=some v\/∃hF im j oD,w.heap[b]?=some (.map hF im)/\i=2*j+1/\hF.toList[j]?=some oD/\oD.val=v
def jx.val {av:Nat->Prop}{es:List MapEntry}{ms:List I}(h:jx w av B es ms):∀{j:Nat} {m:I} {oD:MapEntry},ms[2*j+1]?=some m->es[j]?=some oD->aN w av B m oD.val:=by
 induction h with
 |nil=>intro j m oD h;simp at h
 |cons Q ai M aF =>
  intro j m oD E G
  cases j with
  |zero=>simp at E G;subst E;subst G;exact ai
  |succ j=>exact aF (j:=j) (by simpa [Nat.mul_succ] using E) (by simpa using G)
def jx.set {av:Nat->Prop}{m m':I}(AP:∀s,m ≠ .L (.str s)){es:List MapEntry}{ms:List I}(h:jx w av B es ms):∀{i:Nat},ms[i]?=some m->(∀j oD,i=2*j+1->es[j]?=some oD->aN w av B m' oD.val)->jx w av B es (ms.set i m'):=by
 induction h with
 |nil=>intro i h;simp at h
 |cons Q ai M aF =>
  intro i E G
  match i,E,G with
  |0,E,_=>simp at E;exact absurd E.symm (AP _)
  |1,E,G=>exact .cons Q (G 0 _ rfl rfl) M
  |i+2,E,G=>exact .cons Q ai (aF (by simpa using E) λj oD aa he=>G (j+1) oD (by omega) (by simpa using he))
def dq.val {k:Key}{g i b:Nat}{cs:List I}{m:I}{e:gN}{v:Value}(h:dq A w B mem)(Q:mem k=some (g,cs))(he:B k=some e)(U:e.c1=some b)(O:cs[i]?=some m)(AP:∀s,m ≠ .L (.str s))(ai:X5 w b i v):aN w (bg A B) B m v:=by
 obtain⟨e',ea,aC,aE,fp⟩:=h.c1 k g cs Q;rw[he] at ea
 cases ea;rcases fp b U with ⟨_,vs,T,E,G,ad,aK⟩|⟨_,hF,im,E,G⟩
 ·obtain⟨u,hu,M⟩:=aK i m O;rcases ai with ai|⟨hF,im,j,oD,hm,_⟩
  ·rw[cell_of_row w b i vs T (0,0) E,hu] at ai
   cases ai;exact M
  ·rw[E] at hm;cases hm
 ·rcases ai with ai|⟨Dj,GN,j,oD,hm,rfl,xr,rfl⟩
  ·simp[World.cell?,E] at ai
  ·rw[E] at hm
   cases hm;exact G.val O xr
def AQ {k:Key}{g i:Nat}{cs:List I}{m m':I}{w1:World}(a3:dq A w B mem)(Q:mem k=some (g,cs))(O:cs[i]?=some m)(AP:∀s,m ≠ .L (.str s))
  (ai:∀e b v,B k=some e->e.c1=some b->X5 w b i v->aN w (bg A B) B m' v):∃aB,cX A w B w aB (aV mem k g (cs.set i m')):=by
 obtain⟨e,he,bO,aE,U⟩:=a3.c1 k g cs Q;have X6:∀ax,B k=some ax->e=ax\/ax.g<e.g:=λax dF => .inl (by rw[he] at dF;cases dF;rfl)
 have pt:e.c1=none->cs.set i m'=[]:=λh=>by
  have:=aE h;subst this
  rfl
 cases gF:e.mp with
 |true =>
  have ok:=cX.Qe (k:=k) (e':=e) (cs:=cs.set i m') a3 (Fr.refl _ w) X6 (λb dm => .inr ⟨e,he,dm⟩) pt (λb dm=>by
   rcases U b dm with ⟨al,_⟩|⟨_,hF,im,E,G⟩
   ·rw[gF] at al;cases al
   ·exact⟨gF,hF,im,E,G.set AP O λj oD aa xr=>ai e b _ he dm (.inr ⟨hF,im,j,oD,E,aa,xr,rfl⟩)⟩)
  rw[bO] at ok;exact⟨_,ok⟩
 |false =>
  have ok:=cX.change (k:=k) (e':=e) (cs:=cs.set i m') a3 (Fr.refl _ w) X6 (λb dm => .inr ⟨e,he,dm⟩) pt (λb dm=>by
   obtain⟨vs,T,a8,aQ,hle,bY⟩:=(U b dm).cells gF;refine⟨gF,vs,T,a8,aQ,by simpa using hle,λj x J=>?_⟩
   by_cases hJ:i=j
   ·subst hJ;have au:i<D cs:=(dn.1 O).1;rw[List.getElem?_set_self au] at J
    cases J;have mQ:i<vs.size:=by omega
    exact⟨vs[i],Array.getElem?_eq_getElem mQ,ai e b _ he dm (.inl (by rw[cell_of_row w b i vs T (0,0) a8];exact Array.getElem?_eq_getElem mQ))⟩
   ·rw[List.getElem?_set_ne hJ] at J;exact bY j x J)
  rw[bO] at ok;exact⟨_,ok⟩
def cX.move {k k':Key}{g:Nat}{cs:List I}{e:gN}(h:dq A w B mem)(Q:mem k=some (g,cs))(he:B k=some e)(bc:k'≠k):
  cX A w B w (eu (eu B k ⟨bw mem k,none,0,false⟩) k' ⟨bw mem k',e.c1,e.size,e.mp⟩) (aV (aV mem k (bw mem k) []) k' (bw mem k') cs):=by
 have vt:∀b,nj (eu (eu B k ⟨bw mem k,none,0,false⟩) k' ⟨bw mem k',e.c1,e.size,e.mp⟩) b->nj B b:=by
  rintro b ⟨j,ax,aa,U⟩
  by_cases E:j=k'
  ·subst E;rw[e2] at aa
   cases aa;exact⟨k,e,he,U⟩
  ·rw[eR _ _ E] at aa
   by_cases G:j=k
   ·subst G;rw[e2] at aa
    cases aa
    cases U
   ·rw[eR _ _ G] at aa;exact⟨j,ax,aa,U⟩
 have hW:Trans A w B w (eu (eu B k ⟨bw mem k,none,0,false⟩) k' ⟨bw mem k',e.c1,e.size,e.mp⟩):=by
  refine⟨bM _,λb _ U=>⟨rfl,λaZ=>U (.inl (vt b aZ))⟩,λj ax aa=>?_⟩
  by_cases E:j=k'
  ·subst E;exact⟨_,e2 _ _ _,.inr (yK h j ax aa)⟩
  ·rw[eR _ _ E]
   by_cases G:j=k
   ·subst G;exact⟨_,e2 _ _ _,.inr (yK h j ax aa)⟩
   ·rw[eR _ _ G];exact⟨ax,aa,.inl rfl⟩
 refine⟨⟨λj aa=>?_,λj hX aL ax b E G iA dm=>?_,λb a5 aZ=>h.sep b a5 (vt b aZ),h.lt,h.gl,λb o U aZ=>h.va b o U (vt b aZ),λj cY GK aa=>?_⟩,hW,Fr.refl _ _,λb U => .inl (vt b U)⟩
 ·simp only[aV] at aa
  by_cases E:j=k'
  ·simp[E] at aa
  ·by_cases G:j=k
   ·rw[ar E,aq G] at aa
    cases aa
   ·simp only[E,G,if_false] at aa;rw[eR _ _ E,eR _ _ G];exact h.qZ j aa
 ·have main:∀(j:Key) (aL:gN),eu (eu B k ⟨bw mem k,none,0,false⟩) k' ⟨bw mem k',e.c1,e.size,e.mp⟩ j=some aL->aL.c1=some b->(j=k'/\e.c1=some b)\/(j≠k'/\j≠k/\B j=some aL):=by
   intro j aL aa U
   by_cases E:j=k'
   ·subst E;rw[e2] at aa
    cases aa;exact .inl ⟨rfl,U⟩
   ·rw[eR _ _ E] at aa
    by_cases G:j=k
    ·subst G;rw[e2] at aa
     cases aa
     cases U
    ·rw[eR _ _ G] at aa;exact .inr ⟨E,G,aa⟩
  rcases main j aL E iA with ⟨fK,qk⟩|⟨fK,s1,qk⟩<;>rcases main hX ax G dm with ⟨hd,pE⟩|⟨hd,s2,pE⟩
  ·rw[fK,hd]
  ·exact absurd (h.inj k hX e ax b he pE qk dm).symm s2
  ·exact absurd (h.inj k j e aL b he qk pE iA).symm s1
  ·exact h.inj j hX aL ax b qk pE iA dm
 ·simp only[aV] at aa
  by_cases E:j=k'
  ·subst E;simp only[if_true,bH,ei] at aa;obtain⟨rfl,rfl⟩:=aa;obtain⟨fF,qh,aC,aE,U⟩:=h.c1 k g cs Q;rw[he] at qh
   cases qh;refine⟨_,e2 _ _ _,rfl,aE,λb fp=>?_⟩;exact (U b fp).imp rfl rfl λm _ v M=>M.jw hW
  ·simp only[E,if_false] at aa;rw[eR _ _ E]
   by_cases G:j=k
   ·subst G;simp only[if_true,bH,ei] at aa;obtain⟨rfl,rfl⟩:=aa;exact⟨_,e2 _ _ _,rfl,λ_=>rfl,λb U=>by cases U⟩
   ·simp only[G,if_false] at aa;rw[eR _ _ G];obtain⟨fF,qh,aC,aE,U⟩:=h.c1 j cY GK aa;refine⟨fF,qh,aC,aE,λb fp=>?_⟩;exact (U b fp).imp rfl rfl λm _ v M=>M.jw hW
def dr.ghost {a:Act}{st:a1}{aB:cG}{mem':Mem}{tm':Nat->I}(h:dr aU n A b5 c8 a st w B)(R:cX A w B w aB mem')(bC:∀s,tm' s=st.tm s\/aN w (bg A aB) aB (tm' s) (a.eval (.tmp s))):
  dr aU n A b5 c8 a ⟨tm',mem'⟩ w aB:=by
 refine⟨h.ok.trans R,λs=>?_,h.sz,h.vu.jw R.hW⟩;rcases bC s with E|E
 ·simp only[E];exact (h.tm s).jw R.hW
 ·exact E
def ajB {K:a1->Prop}{a:Act}{st:a1}{g:KO}(h:dr aU n A b5 c8 a st w B)(Q:mM K st g):∃bX aB,K bX/\dr aU n A b5 c8 a bX w aB:=by
 have mU:∀x:bm,∃v,aN w (bg A B) B (aI st.tm x) v\/∃m,x=.c m:=λx=>by
  cases x with
  |t s=>exact⟨_,.inl (h.tm s)⟩
  |c m=>exact⟨undef,.inr ⟨m,rfl⟩⟩
 cases g with
 |q1 s k sz =>
  simp only[mM] at Q
  split at Q
  ·rename_i R;have ok:=cX.vj h.ok.b4 k;refine⟨_,_,Q,h.ghost ok λt=>?_⟩
   by_cases rk:t=s
   ·subst rk;have:=h.tm t;rw[R] at this;simp only[eM,if_true];exact .inr (X4 (e:=⟨bw st.mem k,none,0,false⟩) (e2 _ _ _) this)
   ·exact .inl (by simp[eM,rk])
  ·cases Q
 |freeze s =>
  simp only[mM] at Q
  split at Q
  ·rename_i k g sz off len R
   split at Q
   ·rename_i cf cs gw
    split at Q
    ·rename_i aC;obtain⟨rfl,_⟩:=aC
     split at Q
     ·rename_i d ae;have ok:=cX.vj h.ok.b4 k;refine⟨_,_,Q,h.ghost ok λt=>?_⟩
      by_cases rk:t=s
      ·subst rk;have ai:=h.tm t;rw[R] at ai ae;simp only[eM,if_true];exact .inr (.L (G5 h.ok.b4 gw ae ai))
      ·exact .inl (by simp[eM,rk])
     ·cases Q
    ·cases Q
   ·cases Q
  ·cases Q
 |WI x i k sz =>
  simp only[mM] at Q
  split at Q
  ·rename_i kc g off J
   split at Q
   ·rename_i cf cs gw
    split at Q
    ·rename_i aC;subst aC
     split at Q
     ·rename_i Z
      split at Q
      ·rename_i bc;have ok:=cX.vj h.ok.b4 k;have rl:aV st.mem k (bw st.mem k) [] kc=some (cf,cs):=by simp[aV,Ne.symm bc,gw]
       obtain⟨e,he,bO,aE,U⟩:=h.ok.b4.at_ gw
       obtain⟨aB,rm⟩:=AQ (w1:=w) (m':=.ref k (bw st.mem k) sz 0 0) ok.b4 rl Z (by simp) (λax b v dF dm ai=>by
        rw[eR B _ (Ne.symm bc)] at dF;rw[he] at dF
        cases dF;have M:=h.ok.b4.val gw he dm Z (by simp) ai;exact X4 (e:=⟨bw st.mem k,none,0,false⟩) (e2 _ _ _) M)
       exact⟨_,aB,Q,h.ghost (ok.trans rm) λt => .inl rfl⟩
      ·cases Q
     ·cases Q
    ·cases Q
   ·cases Q
  ·cases Q
 |F7 x i =>
  simp only[mM] at Q
  split at Q
  ·rename_i kc gc off J
   split at Q
   ·rename_i PR cc QD
    split at Q
    ·rename_i aC;subst aC
     split at Q
     ·rename_i k g sz o len Z
      split at Q
      ·rename_i cf cs gw
       split at Q
       ·rename_i aC;obtain⟨rfl,_,bc⟩:=aC
        split at Q
        ·rename_i d ae;have ok:=cX.vj h.ok.b4 k;have rl:aV st.mem k (bw st.mem k) [] kc=some (PR,cc):=by simp[aV,Ne.symm bc,QD]
         obtain⟨e,he,bO,aE,U⟩:=h.ok.b4.at_ QD
         obtain⟨aB,rm⟩:=AQ (w1:=w) (m':=.L d) ok.b4 rl Z (by simp) (λax b v dF dm ai=>by
          rw[eR B _ (Ne.symm bc)] at dF;rw[he] at dF
          cases dF;have M:=h.ok.b4.val QD he dm Z (by simp) ai;exact .L (G5 h.ok.b4 gw ae M))
         exact⟨_,aB,Q,h.ghost (ok.trans rm) λt => .inl rfl⟩
        ·cases Q
       ·cases Q
      ·cases Q
     ·cases Q
    ·cases Q
   ·cases Q
  ·cases Q
 |move =>
  rcases Q with Q|⟨fS,fX,gE,i,k,g,sz,off,len,cs,k',gk,Z,vD,E,G,ad,Q⟩|⟨fS,fX,gE,i,k,g,sz,off,len,cs,d,gk,Z,gw,-,bc,ae,Q⟩
  ·exact⟨st,B,Q,h⟩
  ·obtain⟨e,he,bO,aE,U⟩:=h.ok.b4.at_ vD;have ok:=cX.move h.ok.b4 vD he G;have rl:aV (aV st.mem k (bw st.mem k) []) k' (bw st.mem k') cs fS=some (fX,gE):=by simp[aV,Ne.symm E,Ne.symm ad,gk]
   obtain⟨ex,hex,G9,nr,X7⟩:=h.ok.b4.at_ gk
   obtain⟨aB,rm⟩:=AQ (w1:=w) (m':=.ref k' (bw st.mem k') sz off len) ok.b4 rl Z (by simp) (λax b v dF dm ai=>by
    rw[eR _ _ (Ne.symm ad),eR _ _ (Ne.symm E)] at dF;rw[hex] at dF
    cases dF;have M:=h.ok.b4.val gk hex dm Z (by simp) ai
    cases M with
    |ref dF hgle M =>
     rw[he] at dF
     cases dF;obtain⟨a,cap,rfl,aK,bp,bD⟩:=M;refine .ref (e2 _ _ _) (bM _) ⟨a,cap,rfl,aK,bp,bD.imp id ?_⟩;rintro⟨dA,rfl,bL⟩;exact⟨dA,rfl,λ_=>bL bO.symm⟩)
   exact⟨_,aB,Q,h.ghost (ok.trans rm) λt => .inl rfl⟩
  ·have ok:=cX.vj h.ok.b4 k;have rl:aV st.mem k (bw st.mem k) [] fS=some (fX,gE):=by simp[aV,Ne.symm bc,gk]
   obtain⟨e,he,bO,aE,U⟩:=h.ok.b4.at_ gk
   obtain⟨aB,rm⟩:=AQ (w1:=w) (m':=.L d) ok.b4 rl Z (by simp) (λax b v dF dm ai=>by
    rw[eR B _ (Ne.symm bc)] at dF;rw[he] at dF
    cases dF;have M:=h.ok.b4.val gk he dm Z (by simp) ai;exact .L (G5 h.ok.b4 gw ae M))
   exact⟨_,aB,Q,h.ghost (ok.trans rm) λt => .inl rfl⟩
 |many =>
  obtain⟨mem',QE,Q⟩:=Q
  have main:∀{oE ba:Mem},Gw oE ba->∀B,dr aU n A b5 c8 a ⟨st.tm,oE⟩ w B->∃aB,dr aU n A b5 c8 a ⟨st.tm,ba⟩ w aB:=by
   intro oE ba QE
   induction QE with
   |refl mem=>exact λB h=>⟨B,h⟩
   | @step oE ba bJ R _ aF =>
    intro B h
    have one:∃aB,dr aU n A b5 c8 a ⟨st.tm,ba⟩ w aB:=by
     cases R with
     |ahq fS fX gE i k g sz off len cs k' gk Z vD E G ad =>
      obtain⟨e,he,bO,aE,U⟩:=h.ok.b4.at_ vD;have ok:=cX.move h.ok.b4 vD he G;have rl:aV (aV oE k (bw oE k) []) k' (bw oE k') cs fS=some (fX,gE):=by simp[aV,Ne.symm E,Ne.symm ad,gk]
      obtain⟨ex,hex,G9,nr,X7⟩:=h.ok.b4.at_ gk
      obtain⟨aB,rm⟩:=AQ (w1:=w) (m':=.ref k' (bw oE k') sz off len) ok.b4 rl Z (by simp) (λax b v dF dm ai=>by
       rw[eR _ _ (Ne.symm ad),eR _ _ (Ne.symm E)] at dF;rw[hex] at dF
       cases dF;have M:=h.ok.b4.val gk hex dm Z (by simp) ai
       cases M with
       |ref dF hgle M =>
        rw[he] at dF
        cases dF;obtain⟨a,cap,rfl,aK,bp,bD⟩:=M;refine .ref (e2 _ _ _) (bM _) ⟨a,cap,rfl,aK,bp,bD.imp id ?_⟩;rintro⟨dA,rfl,bL⟩;exact⟨dA,rfl,λ_=>bL bO.symm⟩)
      exact⟨aB,h.ghost (ok.trans rm) λt => .inl rfl⟩
     |ahr fS fX gE i k g off cs k' gk Z vD E G ad =>
      obtain⟨e,he,bO,aE,U⟩:=h.ok.b4.at_ vD;have ok:=cX.move h.ok.b4 vD he G;have rl:aV (aV oE k (bw oE k) []) k' (bw oE k') cs fS=some (fX,gE):=by simp[aV,Ne.symm E,Ne.symm ad,gk]
      obtain⟨ex,hex,G9,nr,X7⟩:=h.ok.b4.at_ gk
      obtain⟨aB,rm⟩:=AQ (w1:=w) (m':=.ptr k' (bw oE k') off) ok.b4 rl Z (by simp) (λax b v dF dm ai=>by
       rw[eR _ _ (Ne.symm ad),eR _ _ (Ne.symm E)] at dF;rw[hex] at dF
       cases dF;have M:=h.ok.b4.val gk hex dm Z (by simp) ai
       cases M with
       |ptr dF hgle M =>
        rw[he] at dF
        cases dF;obtain⟨dA,rfl,bL⟩:=M;exact .ptr (e2 _ _ _) (bM _) ⟨dA,rfl,λ_=>bL bO.symm⟩)
      exact⟨aB,h.ghost (ok.trans rm) λt => .inl rfl⟩
     |ahs fS fX gE i k g sz off len cs d gk Z gw bc ae =>
      have ok:=cX.vj h.ok.b4 k;have rl:aV oE k (bw oE k) [] fS=some (fX,gE):=by simp[aV,Ne.symm bc,gk]
      obtain⟨e,he,bO,aE,U⟩:=h.ok.b4.at_ gk
      obtain⟨aB,rm⟩:=AQ (w1:=w) (m':=.L d) ok.b4 rl Z (by simp) (λax b v dF dm ai=>by
       rw[eR B _ (Ne.symm bc)] at dF;rw[he] at dF
       cases dF;have M:=h.ok.b4.val gk he dm Z (by simp) ai;exact .L (G5 h.ok.b4 gw ae M))
      exact⟨aB,h.ghost (ok.trans rm) λt => .inl rfl⟩
    obtain⟨aB,bT⟩:=one;exact aF aB bT
  obtain⟨aB,bT⟩:=main QE B h;exact⟨_,aB,Q,bT⟩
def erase:eh->eh
 |.skip => .skip
 |.ops l => .ops l
 |.ov l c => .ov l c
 |.seq a b => .seq (erase a) (erase b)
 |.cond c a b => .cond c (erase a) (erase b)
 |.block id c => .block id (erase c)
 |.loop c => .loop (erase c)
 |.exit id => .exit id
 |.ret => .ret
 |.ghost _ c=>erase c
def X8:eZ->Exit
 |.normal => .normal
 |.exit id => .exit id
 |.ret => .ret
def ajC (P:Program)(n kb:Nat)(own:List Nat)(c:Code):eh->Prop
 |.skip=>c=.skip
 |.ops l=>∃id ops,c=.region id ops false/\ops.toList.mapM (mN P n kb own ops)=some l
 |.ov l hL=>∃id ops,c=.region id ops true/\ops.toList.mapM (mN P n kb own ops)=some l/\pr ops l=true/\hL=lp [] l (fo ops.toList [])
 |.seq x y=>∃a b,c=.seq a b/\ox P n kb own a=some x/\ox P n kb own b=some y
 |.cond x y z=>∃eE a b,c=.cond eE a b/\cw eE=some x/\ox P n kb own a=some y/\ox P n kb own b=some z
 |.block id x=>∃a,c=.block id a/\ox P n kb own a=some x
 |.loop x=>∃a,c=.loop a/\ox P n kb own a=some x
 |.exit id=>c=.exit id
 |.ret=>c=.ret
 |.ghost ..=>False
def xt {c:Code}{m:eh}(h:ox P n kb own c=some m):ajC P n kb own c m:=by
 cases c<;>simp only[ox,bH,reduceCtorEq,cO] at h
 case skip=>subst h;rfl
 case region id ops draw =>
  split at h
  ·rename_i l af
   split at h
   ·rename_i ae;subst ae
    split at h
    ·rename_i dp
     cases h;exact⟨id,ops,rfl,af,dp,rfl⟩
    ·cases h
   ·rename_i ae
    cases h;exact⟨id,ops,by rw[Bool.not_eq_true] at ae;rw[ae],af⟩
  ·cases h
 case seq a b =>
  split at h
  ·rename_i x y J ag
   cases h;exact⟨a,b,rfl,J,ag⟩
  ·cases h
 case cond x a b =>
  split at h
  ·rename_i eE y z J ag aQ
   cases h;exact⟨x,a,b,rfl,J,ag,aQ⟩
  ·cases h
 case block id a =>
  obtain⟨x,J,rfl⟩:=h;exact⟨a,rfl,J⟩
 case loop a =>
  obtain⟨x,J,rfl⟩:=h;exact⟨a,rfl,J⟩
 case exit id=>subst h;rfl
 case ret=>subst h;rfl
def y4 (cp:mX P T)(hm:P.follows .mixedOrders=true):∀(Lz:eh) (c:Code) (K:eZ->a1->Prop) (ak:Exit->Act->World->Prop) (st:a1) (a:Act) (w:World) (B:cG),
  ox P n kb own c=some (erase Lz)->dr aU n A b5 c8 a st w B->wp T Lz K st->(∀e st a w B,K e st->dr aU n A b5 c8 a st w B->ak (X8 e) a w)->c.wp P ak a w
 |.ghost g Lz,c,K,ak,st,a,w,B,aA,R,h,eO=>by
  obtain⟨bX,aB,Q,dI⟩:=ajB R h;exact y4 cp hm Lz c K ak bX a w aB aA dI Q eO
 |.skip,c,K,ak,st,a,w,B,aA,R,h,eO=>by
  obtain rfl:=xt aA;exact Go.wp_skip (eO .normal st a w B h R)
 |.exit id,c,K,ak,st,a,w,B,aA,R,h,eO=>by
  obtain rfl:=xt aA;exact Go.wp_exit (eO (.exit id) st a w B h R)
 |.ret,c,K,ak,st,a,w,B,aA,R,h,eO=>by
  obtain rfl:=xt aA;exact Go.wp_ret (eO .ret st a w B h R)
 |.ops l,c,K,ak,st,a,w,B,aA,R,h,eO=>by
  obtain⟨id,ops,rfl,af⟩:=xt aA;have:=QC (ak:=ak) (K:=K .normal) cp af (λst a w B Q R=>eO .normal st a w B Q R) l 0 st a w B rfl R h;refine Go.wp_region ?_;rw[(mapM_get af).1,Array.length_toList] at this;rw[List.range_eq_range'];exact this
 |.ov l hL,c,K,ak,st,a,w,B,aA,R,h,eO=>by
  obtain⟨id,ops,rfl,af,ae,rfl⟩:=xt aA;exact ajz cp hm af ae R h λst a w B Q R=>eO .normal st a w B Q R
 |.seq x y,c,K,ak,st,a,w,B,aA,R,h,eO=>by
  obtain⟨eE,y',rfl,J,ag⟩:=xt aA;refine Go.wp_seq (y4 cp hm x eE _ _ st a w B J R h λe bX ck ah aB Q dI=>?_)
  cases e with
  |normal=>exact y4 cp hm y y' _ _ bX ck ah aB ag dI Q eO
  |exit id=>exact eO (.exit id) bX ck ah aB Q dI
  |ret=>exact eO .ret bX ck ah aB Q dI
 |.cond x y z,c,K,ak,st,a,w,B,aA,R,h,eO=>by
  obtain⟨eE,y',Ha,rfl,J,ag,aQ⟩:=xt aA;have ai:=R.jA eE x J;simp only[wp] at h
  split at h
  ·rename_i t bC;rw[bC] at ai;refine Go.wp_cond ai.yL ?_
   cases t with
   |true=>exact y4 cp hm y y' _ _ st a w B ag R h eO
   |false=>exact y4 cp hm z Ha _ _ st a w B aQ R h eO
  ·cases h
 |.block id x,c,K,ak,st,a,w,B,aA,R,h,eO=>by
  obtain⟨eE,rfl,J⟩:=xt aA;refine Go.wp_block (y4 cp hm x eE _ _ st a w B J R h λe bX ck ah aB Q dI=>?_)
  cases e with
  |normal=>exact eO .normal bX ck ah aB Q dI
  |exit j =>
   simp only[X8,Exit.inBlock];simp only at Q
   split
   ·rename_i aa;rw[aq aa] at Q;exact eO .normal bX ck ah aB Q dI
   ·rename_i aa;rw[ar aa] at Q;exact eO (.exit j) bX ck ah aB Q dI
  |ret=>exact eO .ret bX ck ah aB Q dI
 |.loop x,c,K,ak,st,a,w,B,aA,R,h,eO=>by
  obtain⟨eE,rfl,J⟩:=xt aA;obtain⟨At,μ,ns,LA⟩:=h
  have key:∀m (st:a1) (a:Act) (w:World) (B:cG),μ st<m->At st->dr aU n A b5 c8 a st w B->Code.rounds P eE ak m a w:=by
   intro m
   induction m with
   |zero=>intro st a w B tL;omega
   |succ m aF =>
    intro st a w B tL ns R;refine y4 cp hm x eE _ _ st a w B J R (LA st ns) λe bX ck ah aB Q dI=>?_
    cases e with
    |normal=>exact aF bX ck ah aB (by have:=Q.2;omega) Q.1 dI
    |exit id=>exact eO (.exit id) bX ck ah aB Q dI
    |ret=>exact eO .ret bX ck ah aB Q dI
  exact wp_loop_rounds (μ st+1) (key _ st a w B (Nat.lt_succ_self _) ns R)
end Go.Mini
namespace Go.Mini
open Go
variable {P:Program} {aU:Option I} {T:bl} {A:Nat->Prop} {b5 w:World} {c8 B:cG} {mem:Mem} {n kb:Nat} {own:List Nat}
def ajD {a:Act}{st:a1}{r:ResultVar}{b4:jI}{m:I}(R:dr aU n A b5 c8 a st w B)(aA:vi P r=some b4)(h:C3 st b4=some m):
  ∃v,((match r with
   |.tmp t=>pure (a.tmps.getD t undef)
   |.cell b t=>do loadVar t (<-asAddr (a.tmps.getD b undef)):Sem Value)).run P w=.ok v w/\aN w (bg A B) B m v:=by
 cases r with
 |tmp t =>
  simp only[vi,bH] at aA;subst aA;simp only[C3,bH] at h;subst h;exact⟨_,rfl,R.tm t⟩
 |cell b t =>
  simp only[vi] at aA
  split at aA
  ·rename_i s g dC tx;simp only[bH] at aA;subst aA;obtain⟨c1,off,ms,vs,ai,af,bY,gO,M⟩:=WQ R.ok.b4 (R.tm b) h;obtain⟨u,E,G⟩:=PX (P:=P) dC tx af bY gO M;refine⟨u,?_,G⟩;have:a.tmps.getD b undef=.pointer (some ⟨c1,off,none⟩):=ai;simp only[this,asAddr,Sem.run_bind,Sem.run_pure,Result.andThen_ok];exact E
  ·cases aA
def X9 {a:Act}{st:a1}(R:dr aU n A b5 c8 a st w B):∀{l:List ResultVar} {rs:List jI} {ms:List I},l.mapM (vi P)=some rs->rs.mapM (C3 st)=some ms ->
  ∃vs:List Value,(l.mapM λr=>((match r with
   |.tmp t=>pure (a.tmps.getD t undef)
   |.cell b t=>do loadVar t (<-asAddr (a.tmps.getD b undef)):Sem Value))).run P w=.ok vs w/\cj w (bg A B) B ms vs
 | [],rs,ms,E,G=>by
  simp at E;subst E;simp at G;subst G;exact⟨[],rfl,cj.nil⟩
 |r::l,rs,ms,E,G=>by
  simp only[mx,ft,fD,di,bH] at E;obtain⟨x,J,xs,y5,rfl⟩:=E;simp only[mx,ft,fD,di,bH] at G;obtain⟨m,hm,axM,aY,rfl⟩:=G;obtain⟨v,ai,M⟩:=ajD R J hm;obtain⟨vs,a7,bY⟩:=X9 R y5 aY;refine⟨v::vs,?_,cj.cons M bY⟩;simp only[mx,Sem.run_bind,ai,Result.andThen_ok,a7,Sem.run_pure]
def LB {a:Act}{st:a1}{fn:Func}{rs:List jI}{m:I}(R:dr aU n A b5 c8 a st w B)(aA:fn.results.toList.mapM (vi P)=some rs)(h:jc st rs=some m):
  ∃v,(results fn a.tmps).run P w=.ok v w/\aN w (bg A B) B m v:=by
 unfold jc at h
 have main:∀ms,rs.mapM (C3 st)=some ms->∃vs:List Value,(results fn a.tmps).run P w=.ok (if h:vs.toArray.size=1 then vs.toArray[0] else .tuple vs.toArray) w/\cj w (bg A B) B ms vs:=by
  intro ms aY;obtain⟨vs,E,G⟩:=X9 R aA aY;refine⟨vs,?_,G⟩;unfold results;rw[Array.mapM_eq_mapM_toList,map_eq_pure_bind];simp only[Sem.run_bind,Sem.run_pure];have Dr:=E;generalize aM:(List.mapM _ fn.results.toList:Sem (List Value))=q;have:q.run P w=.ok vs w:=by rw[<-aM];exact Dr
  rw[this]
  rfl
 split at h
 ·rename_i x aY;simp only[bH] at h;subst h;obtain⟨vs,E,G⟩:=main _ aY;have af:=G.1;simp at af;obtain⟨v,rfl⟩:=Ya.1 af;exact⟨v,E,G.2 0 _ v rfl rfl⟩
 ·rename_i ms bc aY;simp only[bH] at h;subst h;obtain⟨vs,E,G⟩:=main _ aY;have af:=G.1;refine⟨_,E,?_⟩
  have:¬ (vs.toArray.size=1):=λh=>by
   have bT:(D ms)=1:=by rw[<-af];simpa using h
   obtain⟨x,rfl⟩:=Ya.1 bT;exact bc x rfl
  rw[dif_neg this];exact .de af G.2
 ·cases h
def QF (mf:bQ)(Post:I->Mem->Prop):eZ->a1->Prop
 |.exit _,_=>False
 |_,st=>∃m,jc st mf.res=some m/\Post m st.mem
def Hb (cp:mX P T)(hm:P.follows .mixedOrders=true){f:FuncId}{fn:Func}{mf:bQ}(ao:P.funcs[f]?=some fn)(aA:ps P kb own fn=some { mf with body:=erase mf.body }){args:List I}(iy:(D args)<=mf.n)
  {Post:I->Mem->Prop} {K:eZ->a1->Prop} (ep:∀e st,K e st->QF mf Post e st) (h:wp T mf.body K ⟨j5 args,mem⟩) {A:Nat->Prop} {w:World} {B:cG} {vs:List Value} (a3:dq A w B mem) (ai:cj w (bg A B) B args vs) :
  Calls P f vs.toArray w λe ah=>∃v m mem' aB,e=.returned v/\cX A w B ah aB mem'/\aN ah (bg A aB) aB m v/\Post m mem':=by
 unfold ps at aA
 split at aA
 ·cases aA
 ·rename_i c U
  split at aA
  ·rename_i b rs Z lB;simp only[bH,bQ.mk.injEq] at aA;obtain⟨aE,axN,lC,ajE⟩:=aA;have dC:(D vs)=D args:=ai.1;refine calls_of_wp ao U ?_;rw[ajE] at Z;refine y4 (aU:=none) cp hm mf.body c K _ ⟨j5 args,mem⟩ _ w B Z ⟨.refl a3,λs=>?_,?_,rfl⟩ h λe st a ah aB AF R=>?_
   ·simp only[j5,Act.eval,Array.getD_eq_getD_getElem?];rcases fE s (D vs) with au|bO
    ·have E:args[s]?=some args[s]:=bB (by omega)
     have G:(vs.toArray++Array.replicate (fn.ntmps-vs.toArray.size) undef)[s]?=some vs[s]:=by
      rw[Array.getElem?_append_left (by simpa using au)];simp[au]
     rw[E,G];exact ai.2 s _ _ E (bB au)
    ·rw[List.getElem?_eq_none (by omega),Array.getElem?_append_right (by simpa using bO)]
     have:((Array.replicate (fn.ntmps-vs.toArray.size) undef)[s-vs.toArray.size]?).getD undef=undef:=by
      cases aM:(Array.replicate (fn.ntmps-vs.toArray.size) undef)[s-vs.toArray.size]? with
      |none=>rfl
      |some u =>
       have:=Array.mem_of_getElem? aM;simp at this;simp[this.2]
     rw[this];exact .no
   ·simp;omega
   ·have Q:=ep e st AF
    cases e with
    |exit id=>cases Q
    |normal =>
     obtain⟨m,tL,aD⟩:=Q;obtain⟨v,eb,iw⟩:=LB R lB (by rw[lC];exact tL);exact⟨R.vu,v,eb,v,m,_,aB,rfl,R.ok,iw,aD⟩
    |ret =>
     obtain⟨m,tL,aD⟩:=Q;obtain⟨v,eb,iw⟩:=LB R lB (by rw[lC];exact tL);exact⟨R.vu,v,eb,v,m,_,aB,rfl,R.ok,iw,aD⟩
  ·cases aA
inductive dd where
 |same (r:Data)
 |own (sz:Nat) (es:List (List Data))
def xu (w:World)(av:Nat->Prop)(ds:List Data)(vs:List Value):Prop:=D vs=D ds/\∀(i:Nat) (d:Data) (v:Value),ds[i]?=some d->vs[i]?=some v->Den w av d v
def ajF (w ah:World)(av:Nat->Prop):dd->Value->Prop
 |.same r,v=>Den ah av r v
 |.own sz es,v=>xj w ah av sz es v
structure h1 (P:Program) (f:FuncId) (bR:List Data->Option dd):Prop where
 real:Real P f
 run:∀ds r,bR ds=some r->∀(A:Nat->Prop) (w:World) (vs:List Value),(∀b,A b->b<w.heap.size)->CR w->xu w A ds vs ->
  Calls P f vs.toArray w λe ah=>∃v,e=.returned v/\Fr (λ_=>False) w ah/\ajF w ah A r v
def Yb:dd->I->Mem->Prop
 |.same r,m,mem=>∃d,c2 d mem m=some r
 |.own sz es,m,mem=>(m=.nil/\es=[])\/∃k g len cs ds d,m=.ref k g sz 0 len/\mem k=some (g,cs)/\len*sz<=D cs/\(cs.take (len*sz)).mapM (c2 d (kill mem k))=some ds/\es=chunk sz len ds
def ql (sz:Nat)(mem:Mem):I->Option (List (List Data))
 |.nil=>some []
 |.ref k g dG off len=>if dG=sz/\off=0 then (match mem k with
  |some (cf,cs)=>if cf=g/\len*sz<=(D cs) then ((cs.take (len*sz)).mapM (c2 6 (kill mem k))).map (chunk sz len) else none
  |none=>none) else none
 |_=>none
def xv (res:List jI):dd->a1->Prop
 |.same r,st=>(jc st res).bind (c2 6 st.mem)=some r
 |.own sz es,st=>(jc st res).bind (ql sz st.mem)=some es
def tN (res:List jI)(r:dd):eZ->a1->Prop
 |.exit _,_=>False
 |.normal,st=>xv res r st
 |.ret,st=>xv res r st
def Yc {mf:bQ}{r:dd}{st:a1}(h:xv mf.res r st):∃m,jc st mf.res=some m/\Yb r m st.mem:=by
 cases r with
 |same r =>
  simp only[xv,di] at h;obtain⟨m,E,G⟩:=h;exact⟨m,E,6,G⟩
 |own sz es =>
  simp only[xv,di] at h;obtain⟨m,E,G⟩:=h;refine⟨m,E,?_⟩
  cases m<;>simp only[ql,bH,reduceCtorEq] at G
  ·exact .inl ⟨rfl,G.symm⟩
  ·split at G
   ·rename_i Z;obtain⟨rfl,rfl⟩:=Z
    split at G
    ·rename_i cf cs Q
     split at G
     ·rename_i aC;obtain⟨rfl,hle⟩:=aC;simp only[cO] at G;obtain⟨ds,e4,rfl⟩:=G;exact .inr ⟨_,_,_,cs,ds,6,rfl,Q,hle,e4,rfl⟩
     ·cases G
    ·cases G
   ·cases G
def ajG {mf:bQ}{r:dd}{e:eZ}{st:a1}(h:tN mf.res r e st):QF mf (Yb r) e st:=by
 cases e with
 |exit id=>exact h
 |normal=>exact Yc h
 |ret=>exact Yc h
def xw (b:Nat):¬ nj (λ_=>none) b:=fun⟨_,_,h,_⟩=>by cases h
def Yd {w ah:World}{aB:cG}{mem':Mem}{k:Key}{g sz len d:Nat}{cs:List I}{vA:List Data}{v:Value}(kz:∀b,¬ nj B b)(R:cX A w B ah aB mem')(ai:aN ah (bg A aB) aB (.ref k g sz 0 len) v)(Q:mem' k=some (g,cs))(hle:len*sz<=D cs)
  (e4:(cs.take (len*sz)).mapM (c2 d (kill mem' k))=some vA):xj w ah A sz (chunk sz len vA) v:=by
 obtain⟨E,G⟩:=mapM_get e4;have vE:(D vA)=len*sz:=by rw[E,hf];omega
 refine⟨Lb sz len vA vE,?_⟩;rw[La,Lc sz len vA vE]
 cases ai with
 |ref he hgle M =>
  obtain⟨e,ea,bO,aE,U⟩:=R.b4.at_ Q;rw[ea] at he;obtain rfl:=mT he;obtain⟨a,cap,rfl,ad,aK,bp⟩:=M;refine⟨a,cap,rfl,ad,aK,bp.imp id ?_⟩;rintro⟨b,rfl,bD⟩;obtain⟨bL,ct,gF⟩:=bD bO.symm;obtain⟨mR,ajH,a8,aQ,GI,tE⟩:=U b bL gF;obtain⟨ajI,l1⟩:=kill_shut R.b4 Q ea bL;refine⟨b,mR,ajH,rfl,?_,a8,by simpa [aQ] using ct,λi x J=>?_⟩
  ·rcases R.fresh b ⟨k,_,ea,bL⟩ with h|h
   ·exact (kz b h).elim
   ·exact h
  ·have Ye:i<D vA:=(dn.1 J).1;have kU:i<D cs:=by omega
   have eN:(cs.take (len*sz))[i]?=some cs[i]:=by
    rw[xq (by omega)];exact bB kU
   have G8:i<mR.size:=by omega
   refine⟨mR[i],Array.getElem?_eq_getElem G8,snap ajI (λb U=>U) d _ _ x (G i _ x eN J) (l1 _ _ (tE.2 i _ _ (bB kU) ?_))⟩;rw[xq kU,Array.getElem?_toList];exact Array.getElem?_eq_getElem G8
def Yf (cp : mX P T)(hm : P.follows .mixedOrders = true){f : FuncId}{fn : Func}{mf : bQ}(ao : P.funcs[f]? = some fn)(tO : (fn.name == "runtime.NumGoroutine") = false)(aA : ps P kb own fn = some { mf with body := erase mf.body })
  {bR:List Data->Option dd} (h:∀ds r,bR ds=some r->(D ds)<=mf.n/\wp T mf.body (tN mf.res r) ⟨j5 (ds.map .L),emp⟩):h1 P f bR:=by
 refine⟨?_,λds r ff A w vs au ji mY=>?_⟩
 ·cases U:fn.body with
  |none=>simp[ps,U] at aA
  |some c=>exact⟨fn,c,ao,U,tO⟩
 ·obtain⟨hlen,xx⟩:=h ds r ff;have a3:dq A w (λ_=>none) emp:=⟨λ_ _=>rfl,λ_ _ _ _ _ h=>(by cases h),λb _ aZ=>xw b aZ,au,ji,λb _ _ aZ=>xw b aZ,λ_ _ _ h=>(by cases h)⟩;have eA:∀b,bg A (λ_=>none) b->A b:=λb h=>h.elim (λh=>(xw b h).elim) id;have bY:cj w (bg A λ_=>none) (λ_=>none) (ds.map .L) vs:=cj.L mY.1 λi d v E G=>(mY.2 i d v E G).less eA;refine Calls.mono (Hb cp hm ao aA (by simpa using hlen) (λe st=>ajG) xx a3 bY) λe ah he=>?_;obtain⟨v,m,mem',aB,rfl,R,ai,aD⟩:=he;refine⟨v,rfl,⟨R.fs.os,R.fs.tape,R.fs.output,R.fs.size,λg aC _=>R.fs.block g aC (xw g)⟩,?_⟩
  cases r with
  |same r =>
   obtain⟨d,ae⟩:=aD;exact snap R.b4 (λb U=>U) d m v r ae ai
  |own sz es =>
   rcases aD with ⟨rfl,rfl⟩|⟨k,g,len,cs,vA,d,rfl,Q,hle,e4,rfl⟩
   ·cases ai;exact⟨by simp,_,0,rfl,bM _,eL _,.inl rfl⟩
   ·exact Yd xw R ai Q hle e4
def scalar:Data->Bool
 |.int _ _=>true
 |.bool _=>true
 |.str _=>true
 |.p8=>true
 |.qY=>true
 |.ay []=>true
 |.de ds=>ds.attach.all fun⟨d,_⟩=>scalar d
 |.agg ds=>ds.attach.all fun⟨d,_⟩=>scalar d
 |.mL=>true
 |.ni _ d=>scalar d
 |_=>false
def Yg {av gD:Nat->Prop}{d:Data}{v:Value}(h:scalar d=true)(ae:Den w av d v):Den w gD d v:=by
 induction ae with
 |int=>exact .int
 |bool=>exact .bool
 |str=>exact .str
 |p8=>exact .p8
 |qY=>exact .qY
 |j3=>exact .j3
 | @ay es b off c sz val af hm U eA dC Z ae aF =>
  cases es with
  |nil=>exact .j3
  |cons=>simp[scalar] at h
 |ptr=>simp[scalar] at h
 |fn=>simp[scalar] at h
 | @agg cs vs af ae aF =>
  simp only[scalar,jO,Yh,true_imp_iff,Subtype.forall] at h;exact .agg af λi d v E G=>aF i d v E G (h d (du E))
 | @de cs vs af ae aF =>
  simp only[scalar,jO,Yh,true_imp_iff,Subtype.forall] at h;exact .de af λi d v E G=>aF i d v E G (h d (du E))
 |ni ae aF=>exact .ni (aF (by simpa [scalar] using h))
 |mL=>exact .mL
def QG {av:Nat->Prop}:∀(d:Nat) (m:I) (v:Value) (r:Data),c2 d emp m=some r->aN w av B m v->Den w av r v:=by
 intro d
 induction d with
 |zero =>
  intro m v r h ai
  cases m<;>simp only[c2,bH,reduceCtorEq] at h
  ·subst h;cases ai with|L h=>exact h
  ·subst h;cases ai;exact .j3
 |succ d aF =>
  intro m v r h ai
  have lists:∀(cs:List I) (vs:List Value) (ds:List Data),cs.mapM (c2 d emp)=some ds->(D vs)=(D cs)->(∀(i:Nat) (x:I) (u:Value),cs[i]?=some x->vs[i]?=some u->aN w av B x u) ->
    (D vs)=D ds/\∀(i:Nat) (x:Data) (u:Value),ds[i]?=some x->vs[i]?=some u->Den w av x u:=by
   intro cs vs ds e4 af M;obtain⟨E,G⟩:=mapM_get e4;refine⟨by omega,λi x u J hu=>?_⟩
   have au:i<D cs:=by have:=(dn.1 J).1;omega
   have eN:=bB au;exact aF _ u x (G i _ x eN J) (M i _ u eN hu)
  cases m<;>simp only[c2,emp,bH,cO,reduceCtorEq] at h
  case L=>subst h;cases ai with|L h=>exact h
  case nil=>subst h;cases ai;exact .j3
  case dK f cs =>
   obtain⟨ds,e4,rfl⟩:=h
   cases ai with
   |dK af ae=>obtain⟨E,G⟩:=lists _ _ _ e4 af ae;exact .fn E G
  case agg cs =>
   obtain⟨ds,e4,rfl⟩:=h
   cases ai with
   |agg af ae=>obtain⟨E,G⟩:=lists _ _ _ e4 af ae;exact .agg E G
  case de cs =>
   obtain⟨ds,e4,rfl⟩:=h
   cases ai with
   |de af ae=>obtain⟨E,G⟩:=lists _ _ _ e4 af ae;exact .de E G
def LC:dd->fR
 |.same r => .same r
 |.own sz es => .own sz es
def Ds:dd->Option fR
 |.same r=>if scalar r=true then some (.same r) else none
 |.own sz es=>if (es.all λe=>e.all scalar)=true then some (.own sz es) else none
def LD (bR:List Data->Option dd):Option (List Data)->Option fR
 |some ds=>(bR ds).bind Ds
 |none=>none
def Dt (bR:List Data->Option dd):Option (List Data)->Option (List Data)->Option fR
 |some ds,_=>(bR ds).map LC
 |none,x=>LD bR x
def aT (bR:List Data->Option dd)(args:List I)(mem:Mem):Option fR:=Dt bR (args.mapM (c2 6 emp)) (args.mapM (c2 6 mem))
def tP (fH:FuncId->Option (List Data->Option dd)):bl:=λf args mem=>match fH f with
 |some bR=>aT bR args mem
 |none=>none
def Yi {av:Nat->Prop}{g:I->Option Data}{args:List I}{ds:List Data}{vs:List Value}(h:args.mapM g=some ds)(ai:cj w av B args vs){gD:Nat->Prop}(ae:∀m v r,g m=some r->aN w av B m v->Den w gD r v):xu w gD ds vs:=by
 obtain⟨E,G⟩:=mapM_get h;refine⟨by rw[ai.1,E],λi d v kS j6=>?_⟩
 have au:i<D args:=by have:=(dn.1 kS).1;omega
 have y6:=bB au;exact ae _ v d (G i _ d y6 kS) (ai.2 i _ v y6 j6)
def QH {fH:FuncId->Option (List Data->Option dd)}(h:∀f bR,fH f=some bR->h1 P f bR):mX P (tP fH):=by
 intro f args mem nq gZ;unfold tP at gZ
 split at gZ
 ·rename_i bR ff;have hZ:=h f bR ff;refine⟨hZ.real,λA w B vs a3 ai=>?_⟩;unfold aT at gZ
  cases e4:args.mapM (c2 6 emp) with
  |some ds =>
   rw[e4] at gZ;simp only[Dt,cO] at gZ;obtain⟨r,M,rfl⟩:=gZ;have Z:=hZ.run ds r M (bg A B) w vs (λb U=>U.elim (λh=>a3.q0 h) (a3.lt b)) a3.gl (Yi e4 ai λm v r=>QG 6 m v r)
   cases r with
   |same r=>exact Z
   |own sz es=>exact Z
  |none =>
   rw[e4] at gZ;simp only[Dt] at gZ
   cases e4:args.mapM (c2 6 mem) with
   |none=>rw[e4] at gZ;cases gZ
   |some ds =>
    rw[e4] at gZ;simp only[LD,di] at gZ;obtain⟨r,M,af⟩:=gZ;have Z:=hZ.run ds r M (λ_=>False) w vs (λb U=>U.elim) a3.gl (Yi e4 ai λm v r h ai=>snap a3 (λb U=>U.elim) 6 m v r h ai)
    cases r with
    |same r =>
     simp only[Ds] at af
     split at af
     ·rename_i R
      cases af;exact Calls.mono Z λe ah ⟨v,he,dw,ae⟩=>⟨v,he,dw,Yg R ae⟩
     ·cases af
    |own sz es =>
     simp only[Ds] at af
     split at af
     ·rename_i R
      cases af;refine Calls.mono Z λe ah ⟨v,he,dw,ae⟩=>⟨v,he,dw,?_⟩;obtain⟨E,a,cap,G,ad,aK,bp⟩:=ae;refine⟨E,a,cap,G,ad,aK,bp.imp id ?_⟩;rintro⟨b,vs,T,bD,bL,ct,jh,kA⟩;refine⟨b,vs,T,bD,bL,ct,jh,λi d ae=>?_⟩;obtain⟨u,hu,mY⟩:=kA i d ae;refine⟨u,hu,Yg ?_ mY⟩;have hm:=du ae;rw[List.mem_flatten] at hm;obtain⟨e,he,ajJ⟩:=hm;rw[jO] at R;have:=R e he;rw[jO] at this;exact this d ajJ
     ·cases af
 ·cases gZ
end Go.Mini
namespace Go.Mini
open Go
def Du {ι:Type}(T:bl)(cB:ι->a1->Prop)(m:ι->Nat)(i:ι)(K:eZ->a1->Prop)(k:List hI):eZ->a1->Prop
 |.normal,st=>∃a0,m a0<m i/\cB a0 st
 |.exit id,st=>cg T K k (.exit id) st
 |.ret,st=>cg T K k .ret st
@[go_sem] def axO {ι:Type}(T:bl)(cB:ι->a1->Prop)(m:ι->Nat)(i:ι)(K:eZ->a1->Prop)(k:List hI)(id:Nat)(st:a1):Du T cB m i K k (.exit id) st=cg T K k (.exit id) st:=bj
@[go_sem] def axP {ι:Type}(T:bl)(cB:ι->a1->Prop)(m:ι->Nat)(i:ι)(K:eZ->a1->Prop)(k:List hI)(st:a1):Du T cB m i K k .ret st=cg T K k .ret st:=bj
@[go_sem] def ajK {ι:Type}(T:bl)(cB:ι->a1->Prop)(m:ι->Nat)(i:ι)(K:eZ->a1->Prop)(k:List hI)(st:a1):Du T cB m i K k .normal st=∃a0,m a0<m i/\cB a0 st:=bj
open Classical in
def ajL {ι:Type}{T:bl}{K:eZ->a1->Prop}{k:List hI}{st:a1}{c:eh}(cB:ι->a1->Prop)(m:ι->Nat)(i0:ι)(al:cB i0 st)(h:∀i st,cB i st->wp T c (cg T (Du T cB m i K k) []) st):
  wp T (.loop c) (cg T K k) st:=by
 have least:∀st,(∃i,cB i st)->∃i,cB i st/\∀j,cB j st->m i<=m j:=by
  intro st ⟨i,O⟩
  have:∀n i,m i=n->cB i st->∃i,cB i st/\∀j,cB j st->m i<=m j:=by
   intro n
   induction n using QI with
   |_ n aF =>
    intro i aE O
    by_cases J:∃j,cB j st/\m j<m i
    ·obtain⟨j,aa,au⟩:=J;exact aF (m j) (by omega) j rfl aa
    ·refine⟨i,O,λj aa=>?_⟩;rcases fE (m j) (m i) with bT|bT
     ·exact absurd ⟨j,aa,bT⟩ J
     ·exact bT
  exact this _ i rfl O
 refine⟨λst=>∃i,cB i st,λst=>if J:∃i,cB i st then m (Dv (least st J)) else 0,⟨i0,al⟩,λst dc=>?_⟩;have mZ:=rn (least st dc);have:=h _ st mZ.1
 have Q:cg T (Du T cB m (Dv (least st dc)) K k) []=λe bX=>match e with
   |.normal=>(∃i,cB i bX)/\(if J:∃i,cB i bX then m (Dv (least bX J)) else 0)<(if J:∃i,cB i st then m (Dv (least st J)) else 0)
   |e=>cg T K k e bX:=by
  funext e bX
  cases e with
  |normal =>
   simp only[aiN,ajK];apply propext
   constructor
   ·rintro⟨a0,au,aa⟩;have hex:∃i,cB i bX:=⟨a0,aa⟩;refine⟨hex,?_⟩;rw[dif_pos hex,dif_pos dc];have:=(rn (least bX hex)).2 a0 aa;omega
   ·rintro⟨hex,au⟩;rw[dif_pos hex,dif_pos dc] at au;exact⟨_,au,(rn (least bX hex)).1⟩
  |exit id=>rfl
  |ret=>rfl
 rw[Q] at this;exact this
section
variable {bR:List Data->Option dd} {mem:Mem} {st:a1} {res:List jI}
@[go_sem] def axQ (ds:List Data)(x:Option (List Data)):Dt bR (some ds) x=(bR ds).map LC:=bj
@[go_sem] def axR (x:Option (List Data)):Dt bR none x=LD bR x:=bj
@[go_sem] def axS (ds:List Data):LD bR (some ds)=(bR ds).bind Ds:=bj
@[go_sem] def axT (r:Data):LC (.same r)=.same r:=bj
@[go_sem] def axU (sz:Nat)(es:List (List Data)):LC (.own sz es)=.own sz es:=bj
@[go_sem] def axV (r:Data):Ds (.same r)=if scalar r=true then some (.same r) else none:=bj
@[go_sem] def ajM (n:Nat)(d:Data):c2 n mem (.L d)=some d:=by cases n<;>rfl
@[go_sem] def axW (n:Nat):c2 n mem .nil=some (.ay []):=by cases n<;>rfl
@[go_sem] def axX (n:Nat)(cs:List I):c2 (n+1) mem (.agg cs)=(cs.mapM (c2 n mem)).map .agg:=bj
@[go_sem] def axY (n:Nat)(cs:List I):c2 (n+1) mem (.de cs)=(cs.mapM (c2 n mem)).map .de:=bj
@[go_sem] def axZ (n:Nat)(f:FuncId)(cs:List I):c2 (n+1) mem (.dK f cs)=(cs.mapM (c2 n mem)).map (.fn f):=bj
@[go_sem] def ax0 (r:dd)(id:Nat):tN res r (.exit id) st=False:=bj
@[go_sem] def ax1 (r:dd):tN res r .ret st=xv res r st:=bj
@[go_sem] def ax2 (r:dd):tN res r .normal st=xv res r st:=bj
@[go_sem] def ax3 (r:Data):xv res (.same r) st=((jc st res).bind (c2 6 st.mem)=some r):=bj
@[go_sem] def ax4 (sz:Nat)(es:List (List Data)):xv res (.own sz es) st=((jc st res).bind (ql sz st.mem)=some es):=bj
end
@[go_sem] def ax5 (x:Bool):Li (.L (.bool x)) true=some x:=by cases x<;>rfl
@[go_sem] def ax6 (x:Bool):Li (.L (.bool x)) false=some (!x):=by cases x<;>rfl
attribute [go_sem] hv cl List.getElem?_cons_zero List.getElem?_cons_succ jG lD oF QJ LF y7 kx Option.map_none lr
 mx Yj ft fD jR lE List.drop_succ_cons List.drop_nil List.take_nil dT dY pF m0 oG l2 rp gy h2 e1 Dw List.all_nil true_and and_true df bne
section
variable {T:bl} {K:eZ->a1->Prop} {k:List hI} {st:a1}
def ajN {x:Bool}{i:bn}{r:List bn}(E:x=false->pB T K k (some true) i r st)(G:x=true->pB T K k (some false) i r st):pB T K k (some (!x)) i r st:=by
 cases x
 ·exact E rfl
 ·exact G rfl
def ajO {x:Bool}{i:bn}{r:List bn}(E:x=true->pB T K k (some true) i r st)(G:x=false->pB T K k (some false) i r st):pB T K k (some x) i r st:=by
 cases x
 ·exact G rfl
 ·exact E rfl
def ajP {x:Bool}{n:Nat}{i:bn}{r:List bn}{c:List (List Nat)}{rec:Rec}(E:x=false->pC T K k n (some true) i r c rec st)(G:x=true->pC T K k n (some false) i r c rec st):pC T K k n (some (!x)) i r c rec st:=by
 cases x
 ·exact E rfl
 ·exact G rfl
def ajQ {x:Bool}{n:Nat}{i:bn}{r:List bn}{c:List (List Nat)}{rec:Rec}(E:x=true->pC T K k n (some true) i r c rec st)(G:x=false->pC T K k n (some false) i r c rec st):pC T K k n (some x) i r c rec st:=by
 cases x
 ·exact G rfl
 ·exact E rfl
def ajR {x:Bool}{a b:eh}(E:x=false->oC T K k (.L (.bool true)) a b st)(G:x=true->oC T K k (.L (.bool false)) a b st):oC T K k (.L (.bool (!x))) a b st:=by
 cases x
 ·exact E rfl
 ·exact G rfl
def ajS {x:Bool}{a b:eh}(E:x=true->oC T K k (.L (.bool true)) a b st)(G:x=false->oC T K k (.L (.bool false)) a b st):oC T K k (.L (.bool x)) a b st:=by
 cases x
 ·exact G rfl
 ·exact E rfl
end
class AR (a9:Prop) (A B:outParam Prop):Prop where
 go:A->B->a9
def aj {a9 A B:Prop}[s:AR a9 A B](a:A)(b:B):a9:=s.go a b
def an {a9:Prop}(h:true=true->a9):a9:=h rfl
instance {T K k i r st} {x:Bool}:AR (pB T K k (some x) i r st) (x=true->pB T K k (some true) i r st) (x=false->pB T K k (some false) i r st):=⟨ajO⟩
instance {T K k i r st} {x:Bool}:AR (pB T K k (some (!x)) i r st) (x=false->pB T K k (some true) i r st) (x=true->pB T K k (some false) i r st):=⟨ajN⟩
instance {T K k st a b} {x:Bool}:AR (oC T K k (.L (.bool x)) a b st) (x=true->oC T K k (.L (.bool true)) a b st) (x=false->oC T K k (.L (.bool false)) a b st):=⟨ajS⟩
instance {T K k st a b} {x:Bool}:AR (oC T K k (.L (.bool (!x))) a b st) (x=false->oC T K k (.L (.bool true)) a b st) (x=true->oC T K k (.L (.bool false)) a b st):=⟨ajR⟩
instance {T K k n i r c rec st} {x:Bool}:AR (pC T K k n (some x) i r c rec st) (x=true->pC T K k n (some true) i r c rec st) (x=false->pC T K k n (some false) i r c rec st):=⟨ajQ⟩
instance {T K k n i r c rec st} {x:Bool}:AR (pC T K k n (some (!x)) i r c rec st) (x=false->pC T K k n (some true) i r c rec st) (x=true->pC T K k n (some false) i r c rec st):=⟨ajP⟩
attribute [go_sem] reduceIte Nat.reduceEqDiff Yk Nat.reduceSub QK Nat.reduceLeDiff reduceCtorEq Nat.reduceLT Nat.reduceBEq Int.reduceEq
attribute [go_sem] df
def Hc {ι:Type}(T:bl)(fQ:List Nat)(oH:List Key)(vs:List I)(ms:List (Option (Nat×List I)))(cB:ι->(Nat->I)->Mem->Prop)(m:ι->Nat)(i:ι)(K:eZ->a1->Prop)(k:List hI):eZ->a1->Prop
 |.normal,st=>∃a0,m a0<m i/\fQ.map st.tm=vs/\oH.map st.mem=ms/\cB a0 st.tm st.mem
 |.exit id,st=>cg T K k (.exit id) st
 |.ret,st=>cg T K k .ret st
section
variable {ι:Type} (T:bl) (fQ:List Nat) (oH:List Key) (vs:List I) (ms:List (Option (Nat×List I))) (cB:ι->(Nat->I)->Mem->Prop) (m:ι->Nat) (i:ι) (K:eZ->a1->Prop) (k:List hI)
@[go_sem] def ax7 (id:Nat)(st:a1):Hc T fQ oH vs ms cB m i K k (.exit id) st=cg T K k (.exit id) st:=bj
@[go_sem] def ax8 (st:a1):Hc T fQ oH vs ms cB m i K k .ret st=cg T K k .ret st:=bj
@[go_sem] def ax9 (st:a1):Hc T fQ oH vs ms cB m i K k .normal st=∃a0,m a0<m i/\fQ.map st.tm=vs/\oH.map st.mem=ms/\cB a0 st.tm st.mem:=bj
end
def dM {ι:Type}{T:bl}{K:eZ->a1->Prop}{k:List hI}{Dx:Nat->I}{gG:Mem}{c:eh}(fQ:List Nat)(oH:List Key)(cB:ι->(Nat->I)->Mem->Prop)(m:ι->Nat)(i0:ι)(al:cB i0 Dx gG)
  (h:∀vs ms,fQ.map Dx=vs->oH.map gG=ms->∀i tm mem,fQ.map tm=vs->oH.map mem=ms->cB i tm mem->wp T c (cg T (Hc T fQ oH vs ms cB m i K k) []) ⟨tm,mem⟩) :
  wp T (.loop c) (cg T K k) ⟨Dx,gG⟩:=by
 refine ajL (λi st=>fQ.map st.tm=fQ.map Dx/\oH.map st.mem=oH.map gG/\cB i st.tm st.mem) m i0 ⟨rfl,rfl,al⟩ ?_;rintro i ⟨tm,mem⟩ ⟨E,G,ad⟩;have:=h _ _ rfl rfl i tm mem E G ad
 have Q:cg T (Hc T fQ oH (fQ.map Dx) (oH.map gG) cB m i K k) []=cg T (Du T (λi (st:a1)=>fQ.map st.tm=fQ.map Dx/\oH.map st.mem=oH.map gG/\cB i st.tm st.mem) m i K k) []:=by
  funext e bX
  cases e<;>rfl
 rw[Q] at this;exact this
def wp_mono {T:bl}:∀(c:eh) (K ie:eZ->a1->Prop),(∀e st,K e st->ie e st)->∀st,wp T c K st->wp T c ie st:=by
 intro c
 induction c with
 |skip=>exact λK ie h st=>h _ _
 |ops l =>
  intro K ie h st hw
  have:∀(l:List bn) (K ie:a1->Prop),(∀st,K st->ie st)->∀st,vg T K l st->vg T ie l st:=by
   intro l
   induction l with
   |nil=>exact λK ie h st=>h st
   |cons i r aF =>
    intro K ie h st hw;unfold vg at hw ⊢
    split
    ·rename_i aC;rw[aC] at hw;exact hw
    ·rename_i g aC;rw[aC] at hw;simp only at hw ⊢
     split
     ·rename_i lz;rw[aq lz] at hw
      have px:∀(K ie:a1->Prop),(∀st,K st->ie st)->fB T K i st->fB T ie i st:=by
       intro K ie h hw
       have Z:∀d f args,sr T K st d f args->sr T ie st d f args:=by
        intro d f args hw;unfold sr at hw ⊢
        split
        ·rename_i a8;rw[a8] at hw;exact h _ hw
        ·rename_i a8;rw[a8] at hw;exact h _ hw
        ·rename_i a8;rw[a8] at hw;exact λr mem' M=>h _ (hw r mem' M)
        ·rename_i a8;rw[a8] at hw;exact h _ hw
        ·rename_i a8;rw[a8] at hw;exact h _ hw
        ·rename_i a8;rw[a8] at hw;exact hw
       unfold fB at hw ⊢
       split
       ·rename_i a8;rw[a8] at hw;exact Z _ _ _ hw
       ·rename_i a8;rw[a8] at hw
        simp only at hw
        split
        ·rename_i nk;rw[nk] at hw
         simp only at hw
         split
         ·rename_i R;rw[aq R] at hw;exact h _ hw
         ·rename_i R;rw[ar R] at hw;exact hw
        ·rename_i nk
         split at hw
         ·rename_i dG es QL;exact (nk dG es QL).elim
         ·exact hw
       ·rename_i a8;rw[a8] at hw
        simp only at hw
        split
        ·rename_i nk;rw[nk] at hw;exact Z _ _ _ hw
        ·rename_i nk;rw[nk] at hw;exact Z _ _ _ hw
        ·rename_i nk QL
         split at hw
         ·rename_i QM;exact (nk _ _ QM).elim
         ·rename_i QM;exact (QL _ _ QM).elim
         ·exact hw
       ·rename_i a8;rw[a8] at hw
        simp only at hw
        split
        ·rename_i nk;rw[nk] at hw;exact λb U=>h _ (hw b U)
        ·rename_i nk;rw[nk] at hw;exact hw
       ·rename_i E G ad aK
        split at hw
        ·rename_i a8;exact (E _ _ a8).elim
        ·rename_i a8;exact (G _ _ _ _ a8).elim
        ·rename_i a8;exact (ad _ _ a8).elim
        ·rename_i a8;exact (aK _ _ a8).elim
        ·split
         ·rename_i a8;rw[a8] at hw;exact h _ hw
         ·rename_i a8;rw[a8] at hw;exact hw
      exact px _ _ (aF _ _ h) hw
     ·rename_i lz;rw[ar lz] at hw;exact aF _ _ h _ hw
  exact this l _ _ (λst=>h .normal st) st hw
 |ov l c =>
  intro K ie h st hw
  have:∀(l:List bn) (n:Nat) (cs:List (List Nat)) (rec:Rec) (K ie:a1->Prop),(∀st,K st->ie st)->∀st,ss T K n l cs rec st->ss T ie n l cs rec st:=by
   intro l
   induction l with
   |nil=>exact λn cs rec K ie h st=>h st
   |cons i r aF =>
    intro n cs rec K ie h st hw;unfold ss at hw ⊢
    split
    ·rename_i aC;rw[aC] at hw;exact hw
    ·rename_i g aC;rw[aC] at hw;simp only at hw ⊢
     split
     ·rename_i lz;rw[aq lz] at hw
      split
      ·rename_i m e R;rw[R] at hw;exact⟨hw.1,aF _ _ _ _ _ h _ hw.2⟩
      ·rename_i R;rw[R] at hw;exact hw
     ·rename_i lz;rw[ar lz] at hw;exact aF _ _ _ _ _ h _ hw
  exact this l 0 c _ _ _ (λst=>h .normal st) st hw
 |seq a b iha ihb =>
  intro K ie h st hw;refine iha _ _ (λe bX a8=>?_) st hw
  cases e with
  |normal=>exact ihb _ _ h _ a8
  |exit id=>exact h _ _ a8
  |ret=>exact h _ _ a8
 |cond c a b iha ihb =>
  intro K ie h st hw;unfold wp at hw ⊢
  split
  ·rename_i t Z;rw[Z] at hw;simp only at hw
   split
   ·rename_i bC;rw[aq bC] at hw;exact iha _ _ h _ hw
   ·rename_i bC;rw[ar bC] at hw;exact ihb _ _ h _ hw
  ·rename_i J
   split at hw
   ·rename_i Z;exact (J _ Z).elim
   ·exact hw
 |block id c aF =>
  intro K ie h st hw;refine aF _ _ (λe bX a8=>?_) st hw
  cases e with
  |normal=>exact h _ _ a8
  |exit j =>
   simp only at a8 ⊢
   split
   ·rename_i aa;rw[aq aa] at a8;exact h _ _ a8
   ·rename_i aa;rw[ar aa] at a8;exact h _ _ a8
  |ret=>exact h _ _ a8
 |loop c aF =>
  intro K ie h st hw;obtain⟨At,μ,al,ns⟩:=hw;refine⟨At,μ,al,λst dc=>aF _ _ (λe bX a8=>?_) _ (ns st dc)⟩
  cases e with
  |normal=>exact a8
  |exit id=>exact h _ _ a8
  |ret=>exact h _ _ a8
 |exit id=>exact λK ie h st=>h _ _
 |ret=>exact λK ie h st=>h _ _
 |ghost g c aF =>
  intro K ie h st hw
  have:∀(K ie:a1->Prop),(∀st,K st->ie st)->mM K st g->mM ie st g:=by
   intro K ie h hw;unfold mM at hw
   repeat' split at hw
   all_goals first
    |exact hw.elim
    |exact⟨hw.choose,hw.choose_spec.1,h _ hw.choose_spec.2⟩
    |(
      rcases hw with hw|⟨fS,fX,gE,i,k,g,sz,off,len,cs,k',E,G,ad,aK,bp,bD,hw⟩|⟨fS,fX,gE,i,k,g,sz,off,len,cs,d,E,G,ad,aK,bp,bD,hw⟩
      ·exact .inl (h _ hw)
      ·exact .inr (.inl ⟨fS,fX,gE,i,k,g,sz,off,len,cs,k',E,G,ad,aK,bp,bD,h _ hw⟩)
      ·exact .inr (.inr ⟨fS,fX,gE,i,k,g,sz,off,len,cs,d,E,G,ad,aK,bp,bD,h _ hw⟩))
    |(
      have bT:=h _ hw;clear hw h;unfold mM
      simp_all)
  exact this _ _ (aF _ _ h) hw
def Dy (T:bl)(K:eZ->a1->Prop)(k:List hI)(ak:a1->Prop):eZ->a1->Prop
 |.normal,st=>ak st
 |.exit id,st=>cg T K k (.exit id) st
 |.ret,st=>cg T K k .ret st
@[go_sem] def aya {T:bl}{K:eZ->a1->Prop}{k:List hI}{ak:a1->Prop}(st:a1):Dy T K k ak .normal st=ak st:=bj
@[go_sem] def ayb {T:bl}{K:eZ->a1->Prop}{k:List hI}{ak:a1->Prop}(id:Nat)(st:a1):Dy T K k ak (.exit id) st=cg T K k (.exit id) st:=bj
@[go_sem] def ayc {T:bl}{K:eZ->a1->Prop}{k:List hI}{ak:a1->Prop}(st:a1):Dy T K k ak .ret st=cg T K k .ret st:=bj
def Yl {T:bl}{K:eZ->a1->Prop}{k:List hI}{c a:eh}{st:a1}(ak:a1->Prop)(a5:wp T a (cg T (Dy T K k ak) []) st)(Z:∀bX,ak bX->wp T c (cg T K k) bX):wp T a (cg T K (.code c::k)) st:=by
 refine wp_mono a _ _ (λe bX a8=>?_) st a5
 cases e with
 |normal=>exact Z bX a8
 |exit id=>exact a8
 |ret=>exact a8
def ajT {T:bl}{K:eZ->a1->Prop}{k:List hI}{x:Bool}{c a b:eh}{st:a1}(ak:a1->Prop)(a5:x=true->wp T a (cg T (Dy T K k ak) []) st)(U:x=false->wp T b (cg T (Dy T K k ak) []) st)
  (Z:∀bX,ak bX->wp T c (cg T K k) bX):oC T K (.code c::k) (.L (.bool x)) a b st:=by
 cases x
 ·rw[aiP];exact Yl ak (U rfl) Z
 ·rw[aiO];exact Yl ak (a5 rfl) Z
attribute [go_sem] beq_true beq_false Bool.true_beq Bool.false_beq lj List.flatten_nil nZ List.headD_cons List.headD_nil List.tail_cons List.tail_nil List.contains_nil List.contains_cons Bool.not_eq_true'
section
variable {T:bl} {K:eZ->a1->Prop} {k:List hI} {st:a1}
@[go_sem] def ayd (g:KO)(c:eh):wp T (.ghost g c) (cg T K k) st=mM (wp T c (cg T K k)) st g:=bj
def QN (K:a1->Prop)(st:a1)(s k sz:Nat):I->Prop
 |.nil=>K ⟨eM st.tm s (.ref k (bw st.mem k) sz 0 0),aV st.mem k (bw st.mem k) []⟩
 |_=>False
@[go_sem] def aye (K:a1->Prop)(s k sz:Nat):mM K st (.q1 s k sz)=QN K st s k sz (st.tm s):=by
 unfold mM QN;rfl
@[go_sem] def ayf (K:a1->Prop)(s k sz:Nat):QN K st s k sz .nil=K ⟨eM st.tm s (.ref k (bw st.mem k) sz 0 0),aV st.mem k (bw st.mem k) []⟩:=bj
end
section
variable {K:a1->Prop} {st:a1}
def ajU (fS i k k':Nat){fX:Nat}{gE:List I}{g sz off len:Nat}{cs:List I}(E:st.mem fS=some (fX,gE))(G:gE[i]?=some (.ref k g sz off len))(ad:st.mem k=some (g,cs))(aK:k≠fS)(bp:k'≠k)(bD:k'≠fS)
  (h:K ⟨st.tm,aV (aV (aV st.mem k (bw st.mem k) []) k' (bw st.mem k') cs) fS fX (gE.set i (.ref k' (bw st.mem k') sz off len))⟩):mM K st .move :=
 .inr (.inl ⟨fS,fX,gE,i,k,g,sz,off,len,cs,k',E,G,ad,aK,bp,bD,h⟩)
def Hd (K:a1->Prop)(st:a1)(s k g sz off len:Nat):Option (Nat×List I)->Prop
 |some (cf,cs)=>if cf=g/\q3 cs=true then (match cut cs off (len*sz) with
  |some part=>(match part.mapM (c2 0 st.mem) with
   |some ds=>K ⟨eM st.tm s (.L (.ay (chunk sz len ds))),kill st.mem k⟩
   |none=>False)
  |none=>False) else False
 |none=>False
def QO (K:a1->Prop)(st:a1)(s:Nat):I->Prop
 |.ref k g sz off len=>Hd K st s k g sz off len (st.mem k)
 |_=>False
@[go_sem] def ayg (s:Nat):mM K st (.freeze s)=QO K st s (st.tm s):=by
 unfold mM QO;dsimp only
 cases hm:st.tm s with
 |ref k g sz off len=>?_
 |_=>rfl
 dsimp only;unfold Hd
 cases Q:st.mem k with
 |none=>rfl
 |some x =>
  obtain⟨cf,cs⟩:=x;simp only
  by_cases Z:cf=g/\q3 cs=true
  ·rw[aq Z,aq Z];unfold c2;rw[Q];simp only[Z.1,if_true]
   cases vp:cut cs off (len*sz) with
   |none=>rfl
   |some part =>
    simp only
    cases aD:part.mapM (c2 0 st.mem)<;>rfl
  ·rw[ar Z,ar Z]
@[go_sem] def ayh (s k g sz off len:Nat):QO K st s (.ref k g sz off len)=Hd K st s k g sz off len (st.mem k):=bj
@[go_sem] def ayi (mem:Mem)(k:Key):kill mem k=aV mem k (bw mem k) []:=bj
end
open Classical in
def b1 {α:Type}(tQ:α->List Data)(f:α->Option dd):List Data->Option dd:=λds=>if h:∃a,tQ a=ds then f (Dv h) else none
def Ym {α:Type}{tQ:α->List Data}{f:α->Option dd}(inj:∀a b,tQ a=tQ b->a=b)(a:α):b1 tQ f (tQ a)=f a:=by
 have h:∃b,tQ b=tQ a:=⟨a,rfl⟩;unfold b1;rw[dif_pos h,inj _ _ (rn h)]
def Yn {α:Type}{tQ:α->List Data}{f:α->Option dd}{ds:List Data}{r:dd}(h:b1 tQ f ds=some r):∃a,ds=tQ a/\f a=some r:=by
 unfold b1 at h
 split at h
 ·rename_i J;exact⟨_,(rn J).symm,h⟩
 ·cases h
open Classical in
def cu (c:Prop)(r:dd):Option dd:=if c then some r else none
def Yo {c:Prop}(h:c)(r:dd):cu c r=some r:=by unfold cu;rw[aq h]
@[go_sem] def ayj (bR:List Data->Option dd)(args:List I)(mem:Mem):aT bR args mem=Dt bR (args.mapM (c2 6 emp)) (args.mapM (c2 6 mem)):=bj
def map_inj {α β:Type}{f:α->β}(h:∀a b,f a=f b->a=b):∀(l mz:List α),l.map f=mz.map f->l=mz:=by
 intro l
 induction l with
 |nil=>intro mz e;cases mz<;>simp_all
 |cons a r aF =>
  intro mz e
  cases mz with
  |nil=>simp at e
  |cons b C6 =>
   simp only[hv,bs] at e;rw[h _ _ e.1,aF _ e.2]
def Dz (l:List (FuncId×(List Data->Option dd))):FuncId->Option (List Data->Option dd):=λf=>(l.find? λp=>p.1==f).map (·.2)
def y8 {P:Program}{l:List (FuncId×(List Data->Option dd))}(h:∀p∈l,h1 P p.1 p.2):∀f bR,Dz l f=some bR->h1 P f bR:=by
 intro f bR ao;unfold Dz at ao;rw[cO] at ao;obtain⟨p,aD,rfl⟩:=ao;have E:=List.mem_of_find?_eq_some aD;have G:=List.find?_some aD;have ad:p.1=f:=by simpa using G
 exact ad ▸ h p E
def b7 {P:Program}:∀p∈([]:List (FuncId×(List Data->Option dd))),h1 P p.1 p.2:=by simp
def a2 {P:Program}{f:FuncId}{bR:List Data->Option dd}{l:List (FuncId×(List Data->Option dd))}(h:h1 P f bR)(af:∀p∈l,h1 P p.1 p.2):∀p∈(f,bR)::l,h1 P p.1 p.2:=by
 intro p aD;rcases ia.1 aD with rfl|aD
 ·exact h
 ·exact af p aD
def Yp {fH:FuncId->Option (List Data->Option dd)}{f:FuncId}{bR:List Data->Option dd}(h:fH f=some bR):tP fH f=aT bR:=by
 funext args mem
 unfold tP;rw[h]
@[go_sem] def ayk (mem:Mem)(k:Key)(z:List I)(b m:Nat)(new:List I):pk mem k z b .nil (some (m,new)) =
  if m*b<=140737488355328/\m<=maxLen/\new.all I.one=true then some (.ref k (bw mem k) (D z) 0 m,some (k,bw mem k,new)) else none:=bj
@[go_sem] def ayl (mem:Mem)(k k':Key)(z:List I)(g sz b len m:Nat)(new:List I):pk mem k z b (.ref k' g sz 0 len) (some (m,new)) =
  if sz=(D z) then mw k' g sz len b m new (mem k') else none:=by
 unfold pk;simp
def a6 {α:Type}(enc:α->List Data)(l:List α):List I:=(l.map enc).flatten.map .L
section
variable {α:Type} {enc:α->List Data} {sz:Nat}
def ajV:a6 enc []=[]:=rfl
def tR (a:α)(l:List α):a6 enc (a::l)=(enc a).map .L++a6 enc l:=by simp[a6]
def QP (a b:List α):a6 enc (a++b)=a6 enc a++a6 enc b:=by simp[a6]
def mA (h:∀a,(enc a).length=sz)(l:List α):(a6 enc l).length=D l*sz:=by
 induction l with
 |nil=>simp[a6]
 |cons a r aF=>rw[tR,lk,aF,az,h,jG,ou,Nat.one_mul,Nat.add_comm]
def Yq (h:∀a,(enc a).length=sz){l:List α}{i:Nat}{a:α}(O:l[i]?=some a):∃p q,a6 enc l=p++((enc a).map .L++q)/\D p=i*sz/\∀b,a6 enc (l.set i b)=p++((enc b).map .L++q):=by
 have au:=(dn.1 O).1;have mB:l[i]=a:=(dn.1 O).2
 have e:l=l.take i++a::l.drop (i+1):=by
  rw[<-mB,<-fY au,He]
 refine⟨a6 enc (l.take i),a6 enc (l.drop (i+1)),?_,?_,λb=>?_⟩
 ·conv=>lhs;rw[e]
  rw[QP,tR]
 ·rw[mA h,hf];congr 1;omega
 ·rw[List.set_eq_take_append_cons_drop,aq au,QP,tR]
def Hf (h:∀a,(enc a).length=sz){l:List α}{i:Nat}{a:α}(O:l[i]?=some a){f n:Nat}(ao:f+n<=sz):cut (a6 enc l) (i*sz+f) n=some ((((enc a).map .L).drop f).take n):=by
 obtain⟨p,q,e,aD,-⟩:=Yq h O;have a5:=h a;unfold cut;rw[e,aq (by simp only[lk,az];omega),<-aD];rw[DA,lq (by omega)];rw[show (D p)+f-D p=f by omega,jR,DA,List.take_append]
 have:n-(((enc a).map I.L).drop f).length=0:=by simp only[rq,az];omega
 rw[this,LF,nZ]
def QQ (h:∀a,(enc a).length=sz){l:List α}{i:Nat}(O:i<D l)(b:α):jJ (a6 enc l) (i*sz) ((enc b).map .L)=a6 enc (l.set i b):=by
 obtain⟨p,q,e,aD,R⟩:=Yq h (bB O);rw[R b,e];have a5:=h l[i];have U:=h b;unfold jJ;rw[<-aD,QR,hh]
 congr 2
 rw[DA,lq (by omega),jR,az,show (D p)+(enc b).length-D p=(enc b).length by omega,U,<-a5,<-az (f:=I.L),QS]
def ajW (aZ:∀a,((enc a).map I.L).all I.one=true)(l:List α):(a6 enc l).all I.one=true:=by
 induction l with
 |nil=>rfl
 |cons a r aF=>rw[tR,List.all_append,aZ,aF];rfl
def DB (h:∀a,(enc a).length=sz)(aZ:∀a,((enc a).map I.L).all I.one=true)(k g b:Nat)(l new:List α)(U:(D l+D new)*b<=140737488355328)(hm:(D l)+D new<=1000000000):
  mw k g sz (D l) b (D new) (a6 enc new) (some (g,a6 enc l))=some (.ref k (g+1) sz 0 (D l+D new),some (k,g+1,a6 enc (l++new))):=by
 unfold mw;have tL:(D l)+D new<=maxLen:=cN hm (by decide);dsimp only;rw[aq ⟨rfl,by rw[mA h];exact bM _,U,tL,ajW aZ new⟩,QP,dz (by rw[mA h];exact bM _)]
def qm (h:∀a,(enc a).length=sz)(aZ:∀a,((enc a).map I.L).all I.one=true)(k g b:Nat)(l:List α)(a:α){cs:List I}(Z:cs=(enc a).map .L)(U:(D l+1)*b<=140737488355328)(hm:(D l)+1<=1000000000):
  mw k g sz (D l) b 1 cs (some (g,a6 enc l))=some (.ref k (g+1) sz 0 (D l+1),some (k,g+1,a6 enc (l++[a]))):=by
 have:=DB h aZ k g b l [a] U hm;rw[Z];rw[tR,ajV,nZ] at this;exact this
def AS (f:I->Option Data)(ao:∀d,f (.L d)=some d)(l:List Data):(l.map I.L).mapM f=some l:=by
 induction l with
 |nil=>rfl
 |cons a r aF=>simp[ao,aF]
def AT:∀(l:List (List Data)),(∀e∈l,D e=sz)->chunk sz (D l) l.flatten=l:=by
 intro l
 induction l with
 |nil=>intro _;rfl
 |cons e r aF =>
  intro h;have he:=h e (by simp);rw[jG,lj,chunk];rw[<-he,QR,QS,he,aF λx J=>h x (by simp[J])]
def pG (h:∀a,(enc a).length=sz){n k g:Nat}{mem:Mem}{l:List α}(hm:mem k=some (g,a6 enc l)):c2 (n+1) mem (.ref k g sz 0 (D l))=some (.ay (l.map enc)):=by
 unfold c2;rw[hm];simp only[if_true];unfold cut;rw[lr,mA h,aq (bM _)];simp only[oF];rw[dz (by rw[mA h];exact bM _)];unfold a6;rw[AS _ λd=>by cases n<;>rfl]
 have:=AT (sz:=sz) (l.map enc) (by simpa using λa _=>h a);rw[az] at this;simp[this]
end
def QT {α:Type}(enc:α->List Data)(l:List α):q3 (a6 enc l)=true:=by
 unfold q3 a6;rw[jO];intro m hm;rw[h3] at hm;obtain⟨d,_,rfl⟩:=hm
 rfl
def xy {α:Type}{enc:α->List Data}{sz:Nat}(h:∀a,(enc a).length=sz){K:a1->Prop}{st:a1}(s k g:Nat)(l:List α):
  Hd K st s k g sz 0 (D l) (some (g,a6 enc l))=K ⟨eM st.tm s (.L (.ay (l.map enc))),kill st.mem k⟩:=by
 have M:=pG (n:=0) h (mem:=aV st.mem k g (a6 enc l)) (k:=k) (g:=g) (l:=l) (by simp[aV]);unfold Hd;dsimp only;rw[aq ⟨rfl,QT enc l⟩];unfold cut;rw[lr,mA h,aq (bM _)];dsimp only;rw[oF,dz (by rw[mA h];exact bM _)];unfold a6;rw[AS _ λd=>rfl];dsimp only;have:=AT (sz:=sz) (l.map enc) (by simpa using λa _=>h a);rw[az] at this;rw[this]
def wrap64 (x:Int)(E:-9223372036854775808<=x)(G:x<=9223372036854775807):IntKind.i64.wrap x=x:=by
 rw[IntKind.wrap_i64];omega
def Yr {α:Type}(l:List α)(i:Int)(al:0<=i)(h:i<D l):∃x,l[i.toNat]?=some x/\l.drop i.toNat=x::l.drop (i+1).toNat/\l.take (i+1).toNat=l.take i.toNat++[x]:=by
 have au:i.toNat<D l:=by omega
 have e:(i+1).toNat=i.toNat+1:=by omega
 refine⟨l[i.toNat],bB au,?_,?_⟩
 ·rw[e];exact fY au
 ·rw[e];rw[jj,bB au];rfl
def b8:List Data->List I
 | []=>[]
 |d::l => .L d::b8 l
def ajX (l:List Data):b8 l=l.map .L:=by
 induction l with
 |nil=>rfl
 |cons a l aF=>rw[b8,aF];rfl
def WF (T:bl)(mf:bQ)(bR:List Data->Option dd):Prop:=∀ds r,bR ds=some r->Nat.ble (D ds) mf.n=true/\wp T mf.body (tN mf.res r) ⟨j5 (b8 ds),emp⟩
abbrev LG:Option dd->(dd->Prop)->Prop
 |some r,ak=>ak r
 |none,_=>True
def cR {c:Prop}{r:dd}{ak:dd->Prop}(h:c->ak r):LG (cu c r) ak:=by
 by_cases Z:c
 ·rw[Yo Z];exact h Z
 ·have:cu c r=none:=ar Z;rw[this];trivial
def cq {T:bl}{mf:bQ}{α:Type}{A:α->List Data}{f:α->Option dd}(h:∀a,LG (f a) λr=>Nat.ble (A a).length mf.n=true/\wp T mf.body (tN mf.res r) ⟨j5 (b8 (A a)),emp⟩):WF T mf (b1 A f):=λds r M=>by
 obtain⟨a,rfl,G⟩:=Yn M;have ad:=h a;rw[G] at ad;exact ad
class LH (a:List Data) (b:outParam (List Data)):Prop where
 e:a=b
instance {d:Data} {r:List Data}:LH (d::r) (d::r):=⟨rfl⟩
instance:LH [] []:=⟨rfl⟩
def cL {α:Type}{A:α->List Data}{f:α->Option dd}(bR:List Data->Option dd)(e:bR=b1 A f)(inj:∀a b,A a=A b->a=b)(a:α){l:List Data}[af:LH (A a) l]{c:Prop}{r:dd}(ax:f a=cu c r)(Z:c):bR l=some r:=by rw[<-af.e,e,Ym inj,ax,Yo Z]
def tS {α:Type}{A:α->List Data}{f:α->Option dd}(bR:List Data->Option dd)(e:bR=b1 A f)(inj:∀a b,A a=A b->a=b)(a:α){l:List Data}[af:LH (A a) l]{r:dd}(ax:f a=some r):bR l=some r:=by rw[<-af.e,e,Ym inj,ax]
abbrev WP (T:bl)(mf:bQ)(r:dd)(l:List I):Prop:=wp T mf.body (tN mf.res r) ⟨j5 l,emp⟩
def cr {T:bl}{c:eh}{K:eZ->a1->Prop}{st:a1}(h:wp T c (cg T K []) st):wp T c K st:=yU h
def fg (x:Int)(E:-9223372036854775808<=x:=by omega)(G:x<=9223372036854775807:=by omega):IntKind.i64.wrap x=x:=wrap64 x E G
def h4 {i:Nat}(h:i<1000000000000):IntKind.i64.wrap ((i:Int)+1)=((i+1:Nat):Int):=by rw[wrap64 _ (by omega) (by omega)];omega
end Go.Mini
namespace Go.Mini
open Go Go.ChangeShapes Go.WideShapes
inductive oI where
 |int (k:IntKind)
 |bool
 |str
 |ay (e:oI)
 |st (l:List oI)
mutual
def Fit:oI->List Data->Prop
 |.int k,ds=>∃n,ds=[.int k n]/\(Lit.int k n).wf=true
 |.bool,ds=>∃b,ds=[.bool b]
 |.str,ds=>∃s,ds=[.str s]/\D s<=maxLen
 |.ay e,ds=>∃es,ds=[.ay es]/\D es<=maxLen/\∀x∈es,Fit e x
 |.st l,ds=>Fits l ds
def Fits:List oI->List Data->Prop
 | [],ds=>ds=[]
 |s::r,ds=>∃a b,ds=a++b/\Fit s a/\Fits r b
end
def Hg (P:Program):Nat->List Field->Nat->Bool
 |off,[],tot=>off==tot
 |off,f::r,tot=>f.offset==off&&Hg P (off+P.cellsOf f.type) r tot
def Hh (g:TypeId->Option oI):List Field->Option (List oI)
 | []=>some []
 |f::r=>match g f.type,Hh g r with
  |some s,some l=>some (s::l)
  |_,_=>none
def qn (P:Program):Nat->TypeId->Option oI
 |0,_=>none
 |n+1,t=>match P.underlying t with
  |some .bool=>some .bool
  |some (.int k)=>some (.int k)
  |some .string=>some .str
  |some (.slice e)=>if 0<P.cellsOf e then (qn P n e).map .ay else none
  |some (.struct db)=>if Hg P 0 db.toList (P.cellsOf t)=true then (Hh (qn P n) db.toList).map .st else none
  |_=>none
section
variable {H:Type} {enc:TypeId×Value->H} {P:Program} {w:World} {base:Nat}
def Hi (enc:TypeId×Value->H)(P:Program)(w:World)(base:Nat)(S:oI)(fuel:Nat)(t:TypeId)(cs:List Value)(x:DataW H×List MemPlace):Prop :=
 (∃ds,Fit S ds/\xu w (λ_=>False) ds cs)/\(∀p∈x.2,p.block<w.heap.size) /\
 ∀(ah:World) (sp:Nat->Bool),(∀p∈x.2,sp p.block=true)->(∀b,b<w.heap.size->ah.heap[b]?=w.heap[b]?)->DataW.trod enc P ah base sp true fuel t cs=some x
def Hj {av:Nat->Prop}{d:Data}{v:Value}(h:Den w av d v):xu w av [d] [v]:=by
 refine⟨rfl,λi pz oy E G=>?_⟩
 cases i with
 |zero=>cases E;cases G;exact h
 |succ i=>simp at E
def Ys (a:Addr)(i:Nat):(a.add i).block=a.block:=by
 unfold Addr.add
 split<;>rfl
def add_plain (b off i:Nat):(Addr.add ⟨b,off,none⟩ i)=⟨b,off+i,none⟩:=by
 unfold Addr.add
 split
 ·rename_i h;subst h;rfl
 ·rfl
def Yt {ah:World}{a:Addr}{n:Nat}{cs:List Value}(h:w.cells? base a n=some cs)(Q:∀b,b<w.heap.size->ah.heap[b]?=w.heap[b]?):ah.cells? base a n=some cs:=by
 unfold World.cells? at h ⊢
 split at h
 ·rename_i U;rw[aq U,<-h]
  by_cases au:a.block<w.heap.size
  ·have he:(λi=>ah.cell? (a.add i))=λi=>w.cell? (a.add i):=by
    funext i
    exact World.cell?_of_block (a:=a.add i) (Q _ (by rw[Ys];exact au))
   rw[he]
  ·cases n with
   |zero=>rfl
   |succ n =>
    exfalso
    have:w.cell? (a.add 0)=none:=by
     unfold World.cell?;have:w.heap[(a.add 0).block]?=none:=Array.getElem?_eq_none (by rw[Ys];omega);rw[this]
    rw[List.range_succ_eq_map,mx,this] at h
    cases h
 ·cases h
def QU {a:Addr}{n:Nat}{cs:List Value}(h:w.cells? base a n=some cs):(D cs)=n/\∀i,i<n->∃v,cs[i]?=some v/\w.cell? (a.add i)=some v:=by
 unfold World.cells? at h
 split at h
 ·obtain⟨E,G⟩:=mapM_get h;rw[AU] at E;refine⟨E,λi O=>?_⟩;have Z:=bB (l:=cs) (i:=i) (by omega);exact⟨_,Z,G i i _ (by simp[O]) Z⟩
 ·cases h
def ajY {a:Addr}{v:Value}(h:w.cell? a=some v):a.block<w.heap.size/\a.spot=none:=by
 unfold World.cell? at h
 split at h
 ·rename_i U;refine⟨(Array.getElem?_eq_some_iff.1 U).1,?_⟩
  cases R:a.spot with
  |none=>rfl
  |some x=>rw[R] at h;simp at h
 ·cases h
def mapM_congr {α β:Type}{f g:α->Option β}:∀{l:List α},(∀x∈l,f x=g x)->l.mapM f=l.mapM g:=by
 intro l
 induction l with
 |nil=>intro _;rfl
 |cons a r aF =>
  intro h;rw[mx,mx,h a (by simp),aF λx J=>h x (by simp[J])]
def ajZ {β:Type}(len:Nat)(ak:Nat->β->Prop)(h:∀i,i<len->∃y,ak i y):∃l:List β,D l=len/\∀i y,l[i]?=some y->ak i y:=by
 induction len with
 |zero=>exact⟨[],rfl,λi y h=>by simp at h⟩
 |succ n aF =>
  obtain⟨l,E,G⟩:=aF λi O=>h i (by omega);obtain⟨y,ag⟩:=h n (by omega);refine⟨l++[y],by simp[E],λi z aQ=>?_⟩
  rw[C7] at aQ
  split at aQ
  ·exact G i z aQ
  ·rename_i au
   have:i-D l=0:=by
    have:=(dn.1 aQ).1;simp at this;omega
   rw[this] at aQ
   cases aQ;have:i=n:=by omega
   subst this;exact ag
def aj0 {β:Type}{sz:Nat}:∀(es:List (List β)),(∀e∈es,D e=sz)->0<sz->∀(i:Nat) (d:β),es.flatten[i]?=some d->∃e,es[i/sz]?=some e/\e[i%sz]?=some d:=by
 intro es
 induction es with
 |nil=>intro _ _ i d h;simp at h
 |cons e r aF =>
  intro h aQ i d ae;have he:=h e (by simp);rw[lj,C7] at ae
  split at ae
  ·rename_i au;rw[he] at au;refine⟨e,by rw[QV au];rfl,by rw[Hk au];exact ae⟩
  ·rename_i bO;rw[he] at ae bO;obtain⟨x,E,G⟩:=aF (λy ag=>h y (by simp[ag])) aQ _ d ae;have O:i=(i-sz)+sz:=by omega
   refine⟨x,?_,?_⟩
   ·rw[O,Nat.add_div_right _ aQ]
    simpa using E
   ·rw[O,Nat.add_mod_right];exact G
def aj1 {n fuel:Nat}(aF:∀t S,qn P n t=some S->∀(cs:List Value) (x:DataW H×List MemPlace),DataW.trod enc P w base (λ_=>true) true fuel t cs=some x->Hi enc P w base S fuel t cs x)(cs:List Value):
  ∀(db:List Field) (off:Nat) (l:List oI) (xs:List (DataW H×List MemPlace)),Hh (qn P n) db=some l->Hg P off db (D cs)=true ->
   db.mapM (λf=>DataW.trod enc P w base (λ_=>true) true fuel f.type ((cs.drop f.offset).take (P.cellsOf f.type)))=some xs ->
   (∃ds,Fits l ds/\xu w (λ_=>False) ds (cs.drop off))/\(∀p∈xs.flatMap (·.2),p.block<w.heap.size) /\
   ∀(ah:World) (sp:Nat->Bool),(∀p∈xs.flatMap (·.2),sp p.block=true)->(∀b,b<w.heap.size->ah.heap[b]?=w.heap[b]?) ->
    db.mapM (λf=>DataW.trod enc P ah base sp true fuel f.type ((cs.drop f.offset).take (P.cellsOf f.type)))=some xs:=by
 intro db
 induction db with
 |nil =>
  intro off l xs af bC J;simp only[Hh,bH] at af;subst af;simp only[Hg,beq_iff_eq] at bC;simp only[Yj,ft,bH] at J;subst J;refine⟨⟨[],rfl,?_⟩,by simp,λ_ _ _ _=>rfl⟩
  rw[bC,QW];exact⟨rfl,λi d v h=>by simp at h⟩
 |cons f r ihf =>
  intro off l xs af bC J;unfold Hh at af
  split at af
  ·rename_i s mz R sy
   cases af;simp only[Hg,dH,beq_iff_eq] at bC;obtain⟨P6,bC⟩:=bC;rw[mx] at J;simp only[ft,fD,di,bH] at J;obtain⟨x,gn,ys,aj2,rfl⟩:=J;obtain⟨⟨QX,Hl,AV⟩,aj3,aj4⟩:=aF _ _ R _ _ gn;obtain⟨⟨AW,iA,dm⟩,aj5,aj6⟩:=ihf _ _ _ sy bC aj2;refine⟨⟨QX++AW,⟨QX,AW,rfl,Hl,iA⟩,?_⟩,?_,?_⟩
   ·have Lf:cs.drop off=(cs.drop off).take (P.cellsOf f.type)++cs.drop (off+P.cellsOf f.type):=by
     rw[<-xo,He]
    rw[P6] at AV;rw[Lf];refine⟨by rw[lk,lk,AV.1,dm.1],λi d v E G=>?_⟩
    rw[C7] at E G;have hlen:=AV.1
    by_cases au:i<D QX
    ·rw[aq au] at E;rw[aq (by omega)] at G;exact AV.2 i d v E G
    ·rw[ar au] at E;rw[ar (by omega),hlen] at G;exact dm.2 _ d v E G
   ·intro p aD;rw[QY,hs] at aD;exact aD.elim (aj3 p) (aj5 p)
   ·intro ah sp mZ Q;rw[mx,aj4 ah sp (λp aD=>mZ p (by rw[QY,hs];exact .inl aD)) Q];have:=aj6 ah sp (λp aD=>mZ p (by rw[QY,hs];exact .inr aD)) Q;simp only[ft,fD,y7];rw[this]
    rfl
  ·cases af
def aj7:∀(n:Nat) (t:TypeId) (S:oI),qn P n t=some S->∀(fuel:Nat) (cs:List Value) (x:DataW H×List MemPlace),DataW.trod enc P w base (λ_=>true) true fuel t cs=some x->Hi enc P w base S fuel t cs x:=by
 intro n
 induction n with
 |zero=>intro t S h;simp[qn] at h
 |succ n aF =>
  intro t S cm fuel cs x J
  cases fuel with
  |zero=>cases J
  |succ fuel =>
   unfold qn at cm
   split at cm
   ·-- bool
    rename_i hu
    cases cm
    have key:∀(ah:World) (sp:Nat->Bool) (cs:List Value),DataW.trod enc P ah base sp true (fuel+1) t cs=match cs with|[.bool b]=>some (.lit (.bool b),[])|_=>none:=by
     intro ah sp cs;unfold DataW.trod;rw[hu];clear J
     split<;>simp_all
    rw[key] at J
    split at J
    ·cases J;exact⟨⟨_,⟨_,rfl⟩,Hj .bool⟩,by simp,λah sp _ _=>by rw[key]⟩
    ·cases J
   ·-- int
    rename_i k hu
    cases cm
    have key:∀(ah:World) (sp:Nat->Bool) (cs:List Value),DataW.trod enc P ah base sp true (fuel+1) t cs=match cs with|[.int k' n]=>if k'=k/\(Lit.int k n).wf=true then some (.lit (.int k n),[]) else none|_=>none:=by
     intro ah sp cs;unfold DataW.trod;rw[hu];clear J
     split<;>simp_all
    rw[key] at J
    split at J
    ·split at J
     ·rename_i Z
      cases J;obtain⟨rfl,Yu⟩:=Z;exact⟨⟨_,⟨_,rfl,Yu⟩,Hj .int⟩,by simp,λah sp _ _=>by rw[key];simp[Yu]⟩
     ·cases J
    ·cases J
   ·-- string
    rename_i hu
    cases cm
    have key:∀(ah:World) (sp:Nat->Bool) (cs:List Value),DataW.trod enc P ah base sp true (fuel+1) t cs=match cs with|[.string s]=>if s.size<=maxLen then some (.lit (.string s.data.toList),[]) else none|_=>none:=by
     intro ah sp cs;unfold DataW.trod;rw[hu];clear J
     split<;>simp_all
    rw[key] at J
    split at J
    ·rename_i s
     split at J
     ·rename_i Z
      cases J;refine⟨⟨[.str s.data.toList],⟨_,rfl,?_⟩,Hj ?_⟩,by simp,λah sp _ _=>by rw[key];simp[Z]⟩
      ·rw[Array.length_toList];exact Z
      ·have:Den w (λ_=>False) (.str s.data.toList) (.string ⟨s.data.toList.toArray⟩):=.str
       simpa using this
     ·cases J
    ·cases J
   ·-- slice
    rename_i e hu
    split at cm
    ·rename_i Z;rw[cO] at cm;obtain⟨S,cm,rfl⟩:=cm
     have key:∀(ah:World) (sp:Nat->Bool) (cs:List Value),DataW.trod enc P ah base sp true (fuel+1) t cs=match cs with
      | [.slice none 0 0]=>some (.nil,[])
      | [.slice (some a) len cap] =>
       if base<=a.block/\len<=cap/\cap<=maxLen then
        ((
         je len).mapM λi=>(ah.cells? base (a.add (i*P.cellsOf e)) (P.cellsOf e)).bind (DataW.trod enc P ah base sp true fuel e)).bind λelems =>
         (if sp a.block then (je (cap-len)).mapM λj=>(ah.cells? base (a.add ((len+j)*P.cellsOf e)) (P.cellsOf e)).bind (DataW.trod enc P ah base sp true fuel e) else some []).map λrest =>
          (.slice (elems.map (·.1)) (rest.map (·.1)),MemPlace.row a ((D elems+D rest)*P.cellsOf e)++(elems++rest).flatMap (·.2))
       else none
      |_=>none:=by
      intro ah sp cs
      conv=>lhs;unfold DataW.trod
      rw[hu];clear J
      split<;>simp_all
     rw[key] at J
     split at J
     ·cases J;exact⟨⟨[.ay []],⟨_,rfl,eL _,by simp⟩,Hj .j3⟩,by simp,λah sp _ _=>by rw[key];rfl⟩
     ·rename_i a len cap
      split at J
      ·rename_i U;rw[di] at J;obtain⟨elems,he,J⟩:=J;rw[cO] at J;obtain⟨rest,M,rfl⟩:=J;rw[aq rfl] at M;obtain⟨jL,aj8⟩:=mapM_get he;obtain⟨bY,aj9⟩:=mapM_get M;rw[AU] at jL bY
       -- each place
       have gO:∀i y,(i<len->elems[i]?=some y)->(¬ i<len->i<cap/\rest[i-len]?=some y)->∃ci,w.cells? base (a.add (i*P.cellsOf e)) (P.cellsOf e)=some ci/\DataW.trod enc P w base (λ_=>true) true fuel e ci=some y:=by
        intro i y E G
        by_cases O:i<len
        ·have:=aj8 i i y (by simp[O]) (E O);rwa [di] at this
        ·obtain⟨ad,aK⟩:=G O;have:=aj9 (i-len) (i-len) y (List.getElem?_range (by omega)) aK;rw[show len+(i-len)=i by omega,di] at this
         exact this
       have jd:0<D elems+(D rest)->a.block<w.heap.size/\a.spot=none:=by
        intro aD;have al:0<cap:=by omega
        have:∃y,(0<len->elems[0]?=some y)/\(¬ 0<len->0<cap/\rest[0-len]?=some y):=by
         by_cases af:0<len
         ·exact⟨elems[0],λ_=>bB _,λh=>absurd af h⟩
         ·exact⟨rest[0],λh=>absurd h af,λ_=>⟨al,by rw[Nat.zero_sub];exact bB _⟩⟩
        obtain⟨y,E,G⟩:=this;obtain⟨ci,eN,-⟩:=gO 0 y E G;obtain⟨v,-,ai⟩:=(QU eN).2 0 Z;have:=ajY ai;rw[LI] at this;have fF:(a.add 0).add 0=a:=by unfold Addr.add;simp
        rw[fF] at this;exact this
       have Yv:∀i y,(i<len->elems[i]?=some y)->(¬ i<len->i<cap/\rest[i-len]?=some y)->∃ci,w.cells? base (a.add (i*P.cellsOf e)) (P.cellsOf e)=some ci/\Hi enc P w base S fuel e ci y:=by
        intro i y E G;obtain⟨ci,ad,aK⟩:=gO i y E G;exact⟨ci,ad,aF e S cm fuel ci y aK⟩
       have QZ:∀(i:Nat) y,elems[i]?=some y->∃ci,w.cells? base (a.add (i*P.cellsOf e)) (P.cellsOf e)=some ci/\Hi enc P w base S fuel e ci y :=
        λi y ag=>Yv i y (λ_=>ag) (λh=>absurd (by have:=(dn.1 ag).1;omega) h)
       have Yw:∀(j:Nat) y,rest[j]?=some y->∃ci,w.cells? base (a.add ((len+j)*P.cellsOf e)) (P.cellsOf e)=some ci/\Hi enc P w base S fuel e ci y :=
        λj y ag=>Yv (len+j) y (λh=>by omega) (λ_=>⟨by have:=(dn.1 ag).1;omega,by rwa [DC]⟩)
       refine⟨?_,?_,?_⟩
       ·obtain⟨es,rr,heq⟩:=ajZ len (λi (ds:List Data)=>∃ci,w.cells? base (a.add (i*P.cellsOf e)) (P.cellsOf e)=some ci/\Fit S ds/\xu w (λ_=>False) ds ci) λi O=>by
         obtain⟨ci,E,⟨ds,G,ad⟩,-,-⟩:=QZ i _ (bB (by omega));exact⟨ds,ci,E,G,ad⟩
        refine⟨[.ay es],⟨es,rfl,by omega,λy ag=>?_⟩,Hj ?_⟩
        ·obtain⟨i,O⟩:=sG.1 ag;obtain⟨ci,-,h,-⟩:=heq i y O;exact h
        ·by_cases af:len=0
         ·rw[af] at rr ⊢;rw[qf rr];exact .j3
         ·obtain⟨iA,dm⟩:=jd (by omega);obtain⟨b,off,spot⟩:=a;simp only at iA dm;subst dm
          have dC:∀y∈es,D y=P.cellsOf e:=by
           intro y ag;obtain⟨i,O⟩:=sG.1 ag;obtain⟨ci,E,-,G⟩:=heq i y O;rw[<-G.1,(QU E).1]
          have g1:∀(i:Nat) (d:Data),es.flatten[i]?=some d->∃v,w.cell? ⟨b,off+i,none⟩=some v/\Den w (λ_=>False) d v:=by
           intro i d ae;obtain⟨y,E,G⟩:=aj0 es dC Z i d ae;obtain⟨ci,ad,-,aK⟩:=heq _ y E;have hm:i%P.cellsOf e<P.cellsOf e:=m1 _ Z;obtain⟨v,bp,bD⟩:=(QU ad).2 _ hm;rw[add_plain,add_plain,q7,pH,LJ] at bD;exact⟨v,bD,aK.2 _ d v G bp⟩
          rw[<-rr];refine .ay (sz:=P.cellsOf e) (λi=>(w.cell? ⟨b,off+i,none⟩).getD undef) (by omega) (by omega) iA (λh=>h) dC (λi O=>?_) λi d ae=>?_
          ·have au:i<D es.flatten:=by rw[KJ dC];exact O
           obtain⟨v,ai,-⟩:=g1 i _ (bB au);rw[ai]
           rfl
          ·obtain⟨v,ai,kS⟩:=g1 i d ae;rw[ai];exact kS
       ·intro p aD;simp only[hs] at aD;rcases aD with aD|aD
        ·unfold MemPlace.row at aD;rw[h3] at aD;obtain⟨i,O,rfl⟩:=aD;rw[qo] at O
         have:0<D elems+D rest:=by
          rcases iK (D elems+D rest) with h|h
          ·rw[h,LI] at O;omega
          ·exact h
         exact (jd this).1
        ·rw[AJ] at aD;obtain⟨y,ag,aD⟩:=aD;rw[hs] at ag;rcases ag with ag|ag
         ·obtain⟨i,O⟩:=sG.1 ag;obtain⟨ci,-,h⟩:=QZ i y O;exact h.2.1 p aD
         ·obtain⟨i,O⟩:=sG.1 ag;obtain⟨ci,-,h⟩:=Yw i y O;exact h.2.1 p aD
       ·intro ah sp mZ Q;rw[key];simp only;rw[aq U]
        have oA:0<D elems+(D rest)->sp a.block=true:=by
         intro aD
         have:=mZ (.cell a.block (a.off+0)) (by
          rw[hs]
          left
          unfold MemPlace.row;rw[h3];exact⟨0,by rw[qo];exact Nat.mul_pos aD Z,rfl⟩)
         exact this
        have aka:(je len).mapM (λi=>(ah.cells? base (a.add (i*P.cellsOf e)) (P.cellsOf e)).bind (DataW.trod enc P ah base sp true fuel e))=some elems:=by
         rw[<-he];refine mapM_congr λi O=>?_;rw[qo] at O;have ag:=bB (l:=elems) (i:=i) (by omega);obtain⟨ci,E,G⟩:=QZ i _ ag;rw[Yt E Q,E];simp only[y7];obtain⟨akb,ad,aK⟩:=gO i _ (λ_=>ag) (λh=>absurd O h);rw[E] at ad
         cases ad;rw[aK]
         exact G.2.2 ah sp (λp aD=>mZ p (by
          rw[hs];right
          rw[AJ];exact⟨_,hs.2 (.inl (du ag)),aD⟩)) Q
        have akc:(je (cap-len)).mapM (λj=>(ah.cells? base (a.add ((len+j)*P.cellsOf e)) (P.cellsOf e)).bind (DataW.trod enc P ah base sp true fuel e))=some rest:=by
         rw[<-M];refine mapM_congr λj aa=>?_;rw[qo] at aa;have ag:=bB (l:=rest) (i:=j) (by omega);obtain⟨ci,E,G⟩:=Yw j _ ag;rw[Yt E Q,E];simp only[y7];obtain⟨akb,ad,aK⟩:=gO (len+j) rest[j] (λh=>by omega) (λ_=>⟨by omega,by rw[DC];exact ag⟩);rw[E] at ad
         cases ad;rw[aK]
         exact G.2.2 ah sp (λp aD=>mZ p (by
          rw[hs];right
          rw[AJ];exact⟨_,hs.2 (.inr (du ag)),aD⟩)) Q
        rw[aka];simp only[y7]
        cases R:sp a.block with
        |true=>simp only[if_true];rw[akc];rfl
        |false =>
         have aQ:¬ 0<D elems+D rest:=λh=>by rw[oA h] at R;cases R
         have:rest=[]:=qf (by omega);subst this
         rfl
      ·cases J
     ·cases J
    ·cases cm
   ·-- struct
    rename_i db hu
    split at cm
    ·rename_i bC;rw[cO] at cm;obtain⟨l,af,rfl⟩:=cm
     have key:∀(ah:World) (sp:Nat->Bool),DataW.trod enc P ah base sp true (fuel+1) t cs =
       if (D cs)=P.cellsOf t then (db.toList.mapM λf=>DataW.trod enc P ah base sp true fuel f.type ((cs.drop f.offset).take (P.cellsOf f.type))).map λxs=>(.agg (xs.map (·.1)),xs.flatMap (·.2)) else none:=by
      intro ah sp
      conv=>lhs;unfold DataW.trod
      rw[hu]
     rw[key] at J
     split at J
     ·rename_i hlen;rw[cO] at J;obtain⟨xs,y5,rfl⟩:=J;rw[<-hlen] at bC;obtain⟨E,G,ad⟩:=aj1 (λt S h cs x J=>aF t S h fuel cs x J) cs db.toList 0 l xs af bC y5;refine⟨?_,G,λah sp mZ Q=>?_⟩
      ·obtain⟨ds,ao,ae⟩:=E;exact⟨ds,ao,by simpa using ae⟩
      ·rw[key,aq hlen,ad ah sp mZ Q]
       rfl
     ·cases J
    ·cases cm
   ·cases cm
end
end Go.Mini
namespace Go.Mini
open Go Go.ChangeShapes Go.WideShapes Go.RowKit
def Yx:oI->Data->Prop
 |.st l,d=>∃cs,d=.agg cs/\Fits l cs
 |s,d=>Fit s [d]
def LK:List oI->List Data->Prop
 | [],ds=>ds=[]
 |s::r,ds=>∃d t,ds=d::t/\Yx s d/\LK r t
section
variable {H:Type} {enc:TypeId×Value->H} {P:Program} {w:World}
def akd {av:Nat->Prop}{d:Data}{v:Value}{ds:List Data}{vs:List Value}(h:Den w av d v)(R:xu w av ds vs):xu w av (d::ds) (v::vs):=by
 refine⟨by simp[R.1],λi pz oy E G=>?_⟩
 cases i with
 |zero=>cases E;cases G;exact h
 |succ i=>exact R.2 i pz oy (by simpa using E) (by simpa using G)
def ake {n:Nat}{t:TypeId}{S:oI}{v:Value}{d:DataW H}{cH:List MemPlace}{qp:Nat}(cm:qn P n t=some S)(g1:Value.okWide P w .any qp t v)(h:DataW.Trod enc P w 0 (λ_=>true) true t v d cH):
  (∃aU,Yx S aU/\Den w (λ_=>False) aU v)/\(∀p∈cH,p.block<w.heap.size) /\
  ∀(ah:World) (sp:Nat->Bool),(∀p∈cH,sp p.block=true)->(∀b,b<w.heap.size->ah.heap[b]?=w.heap[b]?)->DataW.Trod enc P ah 0 sp true t v d cH:=by
 obtain⟨fuel,J⟩:=h;obtain⟨⟨ds,ao,ae⟩,G,ad⟩:=aj7 n t S cm fuel _ _ J;refine⟨?_,G,λah sp mZ Q=>⟨fuel,ad ah sp mZ Q⟩⟩
 have one:(∀cs,v ≠ .agg cs)->∀d,ds=[d]->Den w (λ_=>False) d v:=by
  intro ai d e;subst e;have:v.cells=#[v]:=by unfold Value.cells;split<;>simp_all
  rw[this] at ae;exact ae.2 0 d v rfl rfl
 cases n with
 |zero=>simp[qn] at cm
 |succ n =>
  unfold qn at cm;unfold Value.okWide at g1
  split at cm
  ·rename_i hu
   cases cm;rw[hu] at g1;obtain⟨b,rfl⟩:=ao;refine⟨_,⟨b,rfl⟩,one ?_ _ rfl⟩;rintro cs rfl;simp[Cell.okWide,Cell.ok,hu] at g1
  ·rename_i k hu
   cases cm;rw[hu] at g1;obtain⟨b,rfl,U⟩:=ao;refine⟨_,⟨b,rfl,U⟩,one ?_ _ rfl⟩;rintro cs rfl;simp[Cell.okWide,Cell.ok,hu] at g1
  ·rename_i hu
   cases cm;rw[hu] at g1;obtain⟨b,rfl,U⟩:=ao;refine⟨_,⟨b,rfl,U⟩,one ?_ _ rfl⟩;rintro cs rfl;simp[Cell.okWide,Cell.ok,hu] at g1
  ·rename_i e hu
   split at cm
   ·rw[cO] at cm;obtain⟨S,cm,rfl⟩:=cm;rw[hu] at g1;obtain⟨b,rfl,U⟩:=ao;refine⟨_,⟨b,rfl,U⟩,one ?_ _ rfl⟩;rintro cs rfl;simp[Cell.okWide,Cell.ok,hu] at g1
   ·cases cm
  ·rename_i db hu
   split at cm
   ·rw[cO] at cm;obtain⟨l,af,rfl⟩:=cm;rw[hu] at g1;obtain⟨cs,rfl,-,-⟩:=g1;refine⟨.agg ds,⟨ds,rfl,ao⟩,?_⟩;have:Den w (λ_=>False) (.agg ds) (.agg cs.toList.toArray):=.agg ae.1 ae.2
    simpa using this
   ·cases cm
  ·cases cm
def Q0 {n qp:Nat}:∀{rb:List TypeId} {schs:List oI} {vs:List Value} {ds:List (DataW H)} {cH:List MemPlace},rb.mapM (qn P n)=some schs->(∀(j:Nat) t v,rb[j]?=some t->vs[j]?=some v->Value.okWide P w .any qp t v) ->
  DataW.TrodAll enc P w 0 (λ_=>true) true rb vs ds cH ->
  (∃qq,LK schs qq/\xu w (λ_=>False) qq vs)/\(∀p∈cH,p.block<w.heap.size) /\
  ∀(ah:World) (sp:Nat->Bool),(∀p∈cH,sp p.block=true)->(∀b,b<w.heap.size->ah.heap[b]?=w.heap[b]?)->DataW.TrodAll enc P ah 0 sp true rb vs ds cH
 | [],schs,vs,ds,cH,cm,g1,h=>by
  obtain⟨rfl,rfl,rfl⟩:=trodAll_nil h;simp at cm;subst cm;exact⟨⟨[],rfl,rfl,λi d v h=>by simp at h⟩,by simp,λ_ _ _ _=>rfl⟩
 |t::rb,schs,vs,ds,cH,cm,g1,h=>by
  obtain⟨v,akf,d,akg,a,b,rfl,rfl,rfl,E,G⟩:=trodAll_cons h;rw[mx] at cm;simp only[ft,fD,di,bH] at cm;obtain⟨S,akh,l,af,rfl⟩:=cm;obtain⟨⟨aU,iN,aki⟩,qk,cP⟩:=ake akh (g1 0 t v rfl rfl) E;obtain⟨⟨qq,akj,akk⟩,pE,e0⟩:=Q0 af (λj ks oy bC ai=>g1 (j+1) ks oy (by simpa using bC) (by simpa using ai)) G;refine⟨⟨aU::qq,⟨aU,qq,rfl,iN,akj⟩,akd aki akk⟩,λp aD=>?_,λah sp mZ Q=>?_⟩
  ·rw[hs] at aD;exact aD.elim (qk p) (pE p)
  ·exact trodAll_cons_mk (cP ah sp (λp aD=>mZ p (hs.2 (.inl aD))) Q) (e0 ah sp (λp aD=>mZ p (hs.2 (.inr aD))) Q)
def akl {W qs:World}(h:Fr (λ_=>False) W qs)(may:MemPlace->Prop):W.keptBut qs may:=by
 refine⟨h.os,h.output,λi O=>?_⟩;rw[h.block i O id]
 cases U:W.heap[i]? with
 |none=>trivial
 |some o =>
  cases o with
  |cells c t fs=>exact⟨rfl,rfl,rfl,λ_ _=>rfl⟩
  |map es clock=>exact .inr ⟨rfl,rfl⟩
  |_=>rfl
def akm {f:Func}{s:ChangeSpec}{apart fresh handsOn again:Bool}{W qs:World}{args:Array Value}{ds gs:List (DataW H)}{before:List MemPlace}{n qp:Nat}{schs:List oI}{Hm:TypeId}
  (hi:DataW.Whole enc P f.params.toList s.vars apart W args.toList ds gs before) (ai:s.vars=[]) (cm:f.params.toList.mapM (qn P n)=some schs)
  (g1:∀(j:Nat) t v,f.params[j]?=some t->args[j]?=some v->Value.okWide P W .any qp t v)
  (M:f.resultTypes=#[Hm]) (U:P.underlying Hm=some .bool) (hZ:s.fn H ds={ results:=[.lit (.bool true)],args:=ds }) (ao:Fr (λ_=>False) W qs) :
  s.post enc P f apart fresh handsOn again W args (.bool true) qs:=by
 have Q1:=hi;obtain⟨p,q,c3,pI,rfl,aQ,aE⟩:=hi;rw[ai] at pI;obtain⟨rfl,rfl⟩:=trodVars_none pI;obtain⟨-,au,Q⟩:=Q0 cm (λj t v bC ai=>g1 j t v (by simpa using bC) (by simpa using ai)) c3;have Yy:∀b,b<W.heap.size->qs.heap[b]?=W.heap[b]?:=λb U=>ao.block b U id
 have lC:∀(b:Nat) (sp:Nat->Bool) (ae:Bool),DataW.TrodAll enc P qs b sp ae f.resultTypes.toList ((Value.bool true).resultList f.resultTypes.size) (s.fn H (ds++[])).results []:=by
  intro b sp ae;rw[nZ,hZ,M];exact trodAll_cons_mk (shut_bool U true) trodAll_mk0
 have iy:∀sp:Nat->Bool,(∀x∈p,sp x.block=true)->DataW.TrodAll enc P qs 0 sp true f.params.toList args.toList (s.fn H (ds++[])).args p:=by
  intro sp mZ;rw[nZ,hZ];exact Q qs sp mZ Yy
 have Yz:∀sp:Nat->Bool,DataW.TrodVars enc P qs sp s.vars (s.fn H (ds++[])).vars []:=by
  intro sp;rw[ai,nZ,hZ]
  rfl
 refine⟨ds,[],p++[],[],p,[],Q1,lC _ _ _,iy _ (λx J=>by simpa using au x J),Yz _,akl ao _,λ_=>⟨?_,_,_,([]++p)++[],⟨[]++p,[],trodAll_append (iy _ (λ_ _=>rfl)) (lC _ _ _),Yz _,rfl,?_,?_⟩,?_⟩⟩
 ·intro j t r E G;rw[M] at E G
  cases j with
  |zero =>
   simp[Value.resultList] at E G;subst E G;exact okWide_bool_mk U true
  |succ j=>simp at E
 ·intro b off aD;have YA:MemPlace.cell b off∈p:=by simpa using aD
  have U:=au _ YA;have al:=aQ b off (by simpa using YA);unfold World.frozen? at al ⊢;rw[Yy b U];exact al
 ·intro a5;have:=aE a5
  simpa using this
 ·intro x J _
  simpa using J
def akn {f:FuncId}{fn:Func}{s:ChangeSpec}{apart fresh handsOn again:Bool}{bR:List Data->Option dd}{n:Nat}{schs:List oI}{Hm:TypeId}(aD:h1 P f bR)(ai:s.vars=[])(cm:fn.params.toList.mapM (qn P n)=some schs)
  (M:fn.resultTypes=#[Hm]) (U:P.underlying Hm=some .bool) (hZ:∀ds:List (DataW H),D ds=(D fn.params.toList)->s.fn H ds={ results:=[.lit (.bool true)],args:=ds })
  {W:World} {base:Nat} {args:Array Value} {ds gs:List (DataW H)} {before:List MemPlace}
  (ff:∀qq,LK schs qq->bR qq=some (.same (.bool true)))
  (g1:∀(j:Nat) t v,fn.params[j]?=some t->args[j]?=some v->Value.okWide P W .any base t v)
  (hi:DataW.Whole enc P fn.params.toList s.vars apart W args.toList ds gs before) (aC:CR W:=by intro b o h;cases h) :
  Calls P f args W λe qs=>∃v,e=.returned v/\s.post enc P fn apart fresh handsOn again W args v qs:=by
 have Q1:=hi;obtain⟨p,q,c3,pI,rfl,aQ,aE⟩:=hi;obtain⟨⟨qq,E,G⟩,-,-⟩:=Q0 cm (λj t v bC ai=>g1 j t v (by simpa using bC) (by simpa using ai)) c3
 have hlen:(D ds)=D fn.params.toList:=by
  have:∀(rb:List TypeId) (vs:List Value) (ds:List (DataW H)) (cH:List MemPlace),DataW.TrodAll enc P W 0 (λ_=>true) true rb vs ds cH->(D ds)=D rb:=by
   intro rb
   induction rb with
   |nil=>intro vs ds cH h;obtain⟨rfl,rfl,rfl⟩:=trodAll_nil h;rfl
   |cons t r aF=>intro vs ds cH h;obtain⟨v,akf,d,akg,a,b,rfl,rfl,rfl,-,G⟩:=trodAll_cons h;simp[aF _ _ _ G]
  exact this _ _ _ _ c3
 have Z:=aD.run qq _ (ff qq E) (λ_=>False) W args.toList (λb U=>U.elim) aC G;have a5:args.toList.toArray=args:=by simp
 rw[a5] at Z;refine Z.mono λe qs ⟨v,he,dw,ae⟩=>⟨v,he,?_⟩
 have:v=.bool true:=by
  have kS:Den qs (λ_=>False) (.bool true) v:=ae
  cases kS
  rfl
 subst this;exact akm Q1 ai cm g1 M U (hZ ds hlen) dw
def Q2 {α:Type}{l:List α}{n:Nat}(h:(D l)=n+1):∃d t,l=d::t/\D t=n:=by
 cases l with
 |nil=>simp at h
 |cons d t=>exact⟨d,t,rfl,by simpa using h⟩
def LL {α:Type}{e:α->List Data}{good:α->Prop}:∀{es:List (List Data)},(∀x∈es,∃a,x=e a/\good a)->∃l:List α,es=l.map e/\∀a∈l,good a
 | [],_=>⟨[],rfl,by simp⟩
 |x::r,h=>by
  obtain⟨a,rfl,a5⟩:=h x (by simp);obtain⟨l,rfl,af⟩:=LL (es:=r) λy ag=>h y (by simp[ag]);exact⟨a::l,rfl,λb U=>(ia.1 U).elim (λe=>e ▸ a5) (af b)⟩
end
end Go.Mini
namespace Go.Mini
open Go
def xz (x:I)(m:Mem):I->Mem->Prop:=λr mem'=>r=x/\mem'=m
@[go_sem high] def aym {K:a1->Prop}(x:I)(m:Mem)(d:Option Nat)(st:a1):tH K (some (.rel (xz x m))) d st=K ⟨put st.tm d x,m⟩:=by
 rw[aiQ];apply propext;exact⟨λh=>h x m ⟨rfl,rfl⟩,λh r mem' ⟨aL,ax⟩=>by rw[aL,ax];exact h⟩
def y9 (a9:List I->Mem->Option (I×Mem))(args:List I)(mem:Mem):Option fR:=(a9 args mem).map λx => .rel (xz x.1 x.2)
@[go_sem] def ayn (a9:List I->Mem->Option (I×Mem))(args:List I)(mem:Mem):y9 a9 args mem=(a9 args mem).map λx => .rel (xz x.1 x.2):=bj
structure Hn (P:Program) (f:FuncId) (a9:List I->Mem->Option (I×Mem)):Prop where
 real:Real P f
 run:∀args mem x,a9 args mem=some x->∀A w B vs,dq A w B mem->cj w (bg A B) B args vs->Qk P f vs A w B mem (.rel (xz x.1 x.2))
def DD (res:List jI)(x:I)(m:Mem):eZ->a1->Prop
 |.exit _,_=>False
 |.normal,st=>jc st res=some x/\st.mem=m
 |.ret,st=>jc st res=some x/\st.mem=m
@[go_sem] def ayo {res:List jI}{st:a1}(x:I)(m:Mem)(id:Nat):DD res x m (.exit id) st=False:=bj
@[go_sem] def ayp {res:List jI}{st:a1}(x:I)(m:Mem):DD res x m .normal st=(jc st res=some x/\st.mem=m):=bj
@[go_sem] def ayq {res:List jI}{st:a1}(x:I)(m:Mem):DD res x m .ret st=(jc st res=some x/\st.mem=m):=bj
def YB {P : Program}{T : bl}{kb : Nat}{own : List Nat}(cp : mX P T)(hm : P.follows .mixedOrders = true){f : FuncId}{fn : Func}{mf : bQ}(ao : P.funcs[f]? = some fn)(tO : (fn.name == "runtime.NumGoroutine") = false)(aA : ps P kb own fn = some { mf with body := erase mf.body })
  {a9:List I->Mem->Option (I×Mem)} (h:∀args mem x,a9 args mem=some x->(D args)<=mf.n/\wp T mf.body (DD mf.res x.1 x.2) ⟨j5 args,mem⟩):Hn P f a9:=by
 refine⟨?_,λargs mem x eS A w B vs a3 ai=>?_⟩
 ·cases U:fn.body with
  |none=>simp[ps,U] at aA
  |some c=>exact⟨fn,c,ao,U,tO⟩
 ·obtain⟨hlen,xx⟩:=h args mem x eS;refine Calls.mono (Hb (Post:=xz x.1 x.2) cp hm ao aA hlen (λe st Q=>?_) xx a3 ai) λe ah he=>?_
  ·cases e with
   |exit id=>exact Q
   |normal=>exact⟨_,Q.1,rfl,Q.2⟩
   |ret=>exact⟨_,Q.1,rfl,Q.2⟩
  ·obtain⟨v,m,mem',aB,rfl,R,j6,aD⟩:=he;exact⟨v,m,mem',aB,rfl,R,j6,aD⟩
def LM:Option (I×Mem)->Option fR->Option fR
 |some x,_=>some (.rel (xz x.1 x.2))
 |none,e=>e
@[go_sem] def ayr (x:I×Mem)(e:Option fR):LM (some x) e=some (.rel (xz x.1 x.2)):=bj
@[go_sem] def ays (e:Option fR):LM none e=e:=bj
def xA (bR:List Data->Option dd)(a9:List I->Mem->Option (I×Mem))(args:List I)(mem:Mem):Option fR:=LM (a9 args mem) (aT bR args mem)
@[go_sem] def ayt (bR:List Data->Option dd)(a9:List I->Mem->Option (I×Mem))(args:List I)(mem:Mem):xA bR a9 args mem=LM (a9 args mem) (aT bR args mem):=bj
open Classical in
def DE {α:Type}(a4:α->List I->Mem->Prop)(res:α->Mem->I×Mem):List I->Mem->Option (I×Mem):=λargs mem=>if h:∃a,a4 a args mem then some (res (Dv h) mem) else none
def YC {α:Type}{a4:α->List I->Mem->Prop}{res:α->Mem->I×Mem}(uniq:∀a b args mem,a4 a args mem->a4 b args mem->res a mem=res b mem){a:α}{args:List I}{mem:Mem}(h:a4 a args mem):DE a4 res args mem=some (res a mem):=by
 have J:∃b,a4 b args mem:=⟨a,h⟩;unfold DE;rw[dif_pos J,uniq _ _ _ _ (rn J) h]
def Q3 {α:Type}{a4:α->List I->Mem->Prop}{res:α->Mem->I×Mem}{args:List I}{mem:Mem}{x:I×Mem}(h:DE a4 res args mem=some x):∃a,a4 a args mem/\x=res a mem:=by
 unfold DE at h
 split at h
 ·rename_i J;exact⟨_,rn J,(mT h).symm⟩
 ·cases h
def vF:Nat->Nat->List Int
 |0,_=>[]
 |f+1,n=>if n=0 then [] else ((n%1048576:Nat):Int)::vF f (n/1048576)
def aG (n:Nat):List Int:=vF n n
def aW:List Int->Int
 | []=>0
 |d::r=>d+1048576*aW r
def ru (d:Int)(r:List Int):aW (d::r)=d+1048576*aW r:=rfl
def ec (l:List Int):Prop:=∀d∈l,0<=d/\d<1048576
def fh:List Int->List Int
 | []=>[]
 |d::r=>if fh r=[] then (if d=0 then [] else [d]) else d::fh r
def aH (n:Int):List Data:=[.int .i64 n]
def iO (b:Int):(aH b).length=1:=rfl
def vG (b:Int):((aH b).map I.L).all I.one=true:=rfl
def fi:∀a b:Int,aH a=aH b->a=b:=by intro a b h;simpa [aH] using h
def ako:∀(f g n:Nat),n<=f->n<=g->vF f n=vF g n:=by
 intro f
 induction f with
 |zero =>
      intro g n h _;obtain rfl:n=0:=by omega
      cases g<;>simp[vF]
 |succ f aF =>
  intro g n E G
  cases g with
  |zero =>
       obtain rfl:n=0:=by omega
       simp[vF]
  |succ g =>
   unfold vF
   by_cases aE:n=0
   ·rw[aq aE,aq aE]
   ·rw[ar aE,ar aE,aF g (n/1048576) (by omega) (by omega)]
def qt:aG 0=[]:=rfl
def sH {n:Nat}(h:0<n):aG n=((n%1048576:Nat):Int)::aG (n/1048576):=by
 unfold aG;obtain⟨k,rfl⟩:∃k,n=k+1:=⟨n-1,by omega⟩
 conv=>lhs;unfold vF
 rw[ar (by omega),ako k ((k+1)/1048576) _ (by omega) (by omega)]
def kB (n:Nat):aW (aG n)=n:=by
 induction n using QI with
 |_ n aF =>
  rcases iK n with rfl|h
  ·rfl
  ·rw[sH h];unfold aW;rw[aF _ (by omega)];omega
def Ho {a b:Nat}(h:aG a=aG b):a=b:=by
 have:=congrArg aW h;rw[kB,kB] at this;omega
def lF (n:Nat):ec (aG n):=by
 induction n using QI with
 |_ n aF =>
  rcases iK n with rfl|h
  ·intro d ae;cases ae
  ·rw[sH h];intro d ae;rcases ia.1 ae with rfl|ae
   ·omega
   ·exact aF _ (by omega) d ae
def xB {n:Nat}:aG n=[]↔n=0:=by
 constructor
 ·intro h;exact Ho (b:=0) h
 ·rintro rfl;rfl
def nt {l:List Int}(h:ec l):0<=aW l:=by
 induction l with
 |nil=>exact Int.le_refl _
 |cons d r aF =>
  have E:=h d (by simp);have G:=aF λx J=>h x (by simp[J]);unfold aW;omega
def AX {d:Int}{r:List Int}:ec (d::r)↔(0<=d/\d<1048576)/\ec r :=
 ⟨λh=>⟨h d (by simp),λx J=>h x (by simp[J])⟩,λh x J=>(ia.1 J).elim (λe=>e ▸ h.1) (h.2 x)⟩
def AY {a b:List Int}:ec (a++b)↔ec a/\ec b :=
 ⟨λh=>⟨λx J=>h x (by simp[J]),λx J=>h x (by simp[J])⟩,λh x J=>(hs.1 J).elim (h.1 x) (h.2 x)⟩
def AZ (a b:List Int):aW (a++b)=aW a+1048576^(D a)*aW b:=by
 induction a with
 |nil=>simp[aW]
 |cons d r aF =>
  simp only[lE,aW,aF,jG,l3];rw[hx]
  have:(1048576:Int)*(1048576^(D r)*aW b)=1048576^(D r)*1048576*aW b:=by
   rw[mC (1048576^(D r)) 1048576,hy]
  omega
def xC {l:List Int}(h:ec l):aW l<1048576^(D l):=by
 induction l with
 |nil=>simp[aW]
 |cons d r aF =>
  rw[AX] at h;have G:=aF h.2;simp only[aW,jG,l3];omega
def YD (l:List Int):fh (l++[0])=fh l:=by
 induction l with
 |nil=>simp[fh]
 |cons d r aF=>simp only[lE,fh,aF]
def YE (l:List Int){d:Int}(h:d≠0):fh (l++[d])=l++[d]:=by
 induction l with
 |nil=>simp[fh,h]
 |cons x r aF=>simp only[lE,fh,aF];simp
def xD {l:List Int}(h:ec l):fh l=aG (aW l).toNat:=by
 induction l with
 |nil=>rfl
 |cons d r aF =>
  rw[AX] at h;have M:=aF h.2;have ai:=nt h.2;unfold fh;rw[M,ru]
  by_cases aQ:aW r=0
  ·rw[aQ]
   by_cases ae:d=0
   ·simp[ae,qt]
   ·rw[aq (by rfl),ar ae];rw[sH (by omega)];rw[show (d+1048576*0).toNat/1048576=0 by omega,qt]
    congr 1
    omega
  ·rw[ar (by rw[xB];omega)];rw[sH (n:=(d+1048576*aW r).toNat) (by omega)]
   congr 1
   ·omega
   ·congr 1;omega
def YF (n:Nat):fh (aG n)=aG n:=by
 rw[xD (lF n),kB];simp
def canon {l:List Int}(h:ec l)(af:l.getLast?≠some 0):l=aG (aW l).toNat:=by
 rw[<-xD h];rcases Q4 l with rfl|⟨r,d,rfl⟩
 ·rfl
 ·rw[Q5] at af ⊢;rw[YE];rintro rfl;simp at af
def YG (n:Nat):(aG n).getLast?≠some 0:=by
 intro h
 obtain⟨r,M⟩:∃r,aG n=r++[0]:=by
  rcases Q4 (aG n) with e|⟨r,d,e⟩
  ·rw[e] at h;cases h
  ·rw[Q5] at e;rw[e] at h;simp at h;subst h;exact⟨r,e⟩
 have E:=YF n;rw[M,YD] at E
 have G:(fh r).length<=D r:=by
  clear E M h
  induction r with
  |nil=>simp[fh]
  |cons d r aF=>unfold fh;split<;>(try split)<;>simp<;>omega
 rw[E] at G;simp at G;omega
def fw {n k:Nat}:(aG n).length<=k↔n<1048576^k:=by
 induction k generalizing n with
 |zero =>
      rw[Nat.pow_zero];constructor
      ·intro h;have:=qf (Nat.le_zero.1 h);rw[xB] at this;omega
      ·intro h;obtain rfl:n=0:=by omega
       simp[qt]
 |succ k aF =>
  rcases iK n with rfl|h
  ·simp[qt];exact DF (by simp)
  ·rw[sH h,jG,rv];have:=aF (n:=n/1048576);rw[Nat.add_le_add_iff_right,this];rw[YH (by omega)]
def A0 {n:Nat}(h:0<n)(E:n<1048576):aG n=[(n:Int)]:=by
 rw[sH h,QV E,Hk E];rfl
def Hp (l:List Int)(i:Nat):aW l=aW (l.take i)+1048576^(min i (D l))*aW (l.drop i):=by
 conv=>lhs;rw[<-He i l]
 rw[AZ,hf]
def xE (n:Int)(h:0<=n/\n<18446744073709551616):IntKind.u64.wrap n=n:=by
 simp[IntKind.wrap,IntKind.bits,IntKind.signed];omega
def xF (n:Int):bits .and .i64 n 1048575=n%1048576:=by
 have G:(1048575:Int)=((2^20-1:Nat):Int):=by decide
 have E:n%18446744073709551616%1048576=n%1048576:=by omega
 obtain⟨a,a5⟩:∃a:Nat,(a:Int)=n%18446744073709551616:=⟨(n%18446744073709551616).toNat,by omega⟩
 have e:BitVec.ofInt 64 n=BitVec.ofNat 64 a:=by
  apply BitVec.eq_of_toInt_eq;rw[BitVec.toInt_ofInt,BitVec.toInt_ofNat',a5];simp[YI,YJ]
 have ax:bits .and .i64 n 1048575=bits .and .i64 (a:Int) 1048575:=by
  simp only[bits];rw[show IntKind.i64.bits=64 from rfl,e,BitVec.ofInt_natCast]
 rw[ax,<-E,<-a5,G];have Q6:a<2^64:=by omega
 simp only[bits,BitVec.ofInt_natCast,BitVec.toNat_and,BitVec.toNat_ofNat,show IntKind.i64.bits=64 from rfl,Hk Q6];rw[show (2^20-1:Nat)%2^64=2^20-1 by decide,YK,wrap64 _ (by omega) (by omega)]
 omega
def YL (n:Int)(h:0<=n/\n<18446744073709551616):bits .and .u64 n 1048575=n%1048576:=by
 have:=bits_mask .u64 64 (by decide) (λn E G=>xE n ⟨E,by omega⟩) 20 (by decide) n h.1 (by omega)
 simpa using this
def Q7 (x y:Int)(J:0<=x)(gn:x<8796093022208)(ag:0<=y/\y<1048576):bits .or .i64 (x*1048576) y=x*1048576+y:=by
 refine bits_join .i64 63 (by decide) (λn E G=>wrap64 n (by omega) (by omega)) 20 _ _ (by omega) (by omega) (by omega) ag.1 (by omega) (by omega)
def akp (n:Int):n.fdiv (2^20)=n/1048576:=by
 rw[Int.fdiv_eq_ediv_of_nonneg _ (by decide)];rfl
def tT (n:Int):n.fdiv (2^min (A1 20) 64)=n/1048576:=akp n
def LN:FuncId:=23
def Q8:FuncId:=158
def Hq:FuncId:=84
def A2:FuncId:=14
def A3:FuncId:=17
def lG:FuncId:=67
def vH:FuncId:=22
def Q9:FuncId:=59
def Ra:FuncId:=57
def ry:FuncId:=213
def Rb:FuncId:=214
def LO:FuncId:=215
def vI:FuncId:=81
def Rc:FuncId:=159
def Hr:FuncId:=109
def DG:FuncId:=45
def A4:FuncId:=157
def xG:FuncId:=38
def rz:FuncId:=20
def jS:FuncId:=134
def Hs:FuncId:=135
def Rd:FuncId:=136
def Re:FuncId:=71
def sI:FuncId:=72
def A5:FuncId:=73
def LP:FuncId:=128
def Ht:FuncId:=124
def DH:FuncId:=125
def Rf:FuncId:=228
def Rg:FuncId:=156
def LQ:FuncId:=78
def Rh:FuncId:=216
def Hu:FuncId:=149
def LR:FuncId:=185
def Ri:FuncId:=108
def DI:FuncId:=206
def A6:FuncId:=68
def Rj:FuncId:=69
def sJ:FuncId:=147
def vJ:FuncId:=94
def Hv:FuncId:=137
def nu:FuncId:=138
def Rk:FuncId:=198
def Rl:FuncId:=146
def DJ:FuncId:=148
def kC:FuncId:=143
def LS:FuncId:=190
def Hw:FuncId:=144
def LU:FuncId:=191
def nv:FuncId:=192
def Hx:FuncId:=229
def za:FuncId:=230
def DK:FuncId:=113
def akq:FuncId:=183
def Rm:FuncId:=184
def Hy:FuncId:=139
def DL:FuncId:=140
def DM:FuncId:=141
def A7:FuncId:=142
def LV:FuncId:=199
def oJ:FuncId:=200
def Rn:FuncId:=201
def Ro:FuncId:=205
def Hz:FuncId:=203
def HA:FuncId:=195
def zb:FuncId:=197
def rA:FuncId:=225
def LW:FuncId:=202
def zc:FuncId:=196
def A8:FuncId:=194
def rB:FuncId:=226
def xH:FuncId:=70
def Rp:FuncId:=65
def Rq:FuncId:=66
def zd:FuncId:=131
def HB:FuncId:=132
def Rr:FuncId:=145
def Rs:FuncId:=133
def A9:FuncId:=193
def Rt:FuncId:=204
def DN:FuncId:=900234
def YM:FuncId:=900294
def Ba:FuncId:=900309
def LX:FuncId:=28
def tU:FuncId:=82
def Ru:FuncId:=30
def tV:FuncId:=86
def xI:FuncId:=88
def ze:FuncId:=18
def HC:FuncId:=83
def HD:FuncId:=64
def Rv:FuncId:=130
def Bb:FuncId:=87
def Rw:FuncId:=62
def tW:FuncId:=129
def Bc:FuncId:=80
def LY:FuncId:=155
def Rx:FuncId:=63
def vK:FuncId:=46
def akr:FuncId:=4
def n0:FuncId:=39
def m2:FuncId:=37
def Ry:FuncId:=9
def LZ:FuncId:=60
def Rz:FuncId:=16
def RA:FuncId:=61
def L0:FuncId:=19
def RB:FuncId:=21
def RC:FuncId:=15
def RD:FuncId:=25
def RE:FuncId:=154
def RF:FuncId:=212
abbrev F (a b:Nat):bn:=⟨some a,none,.hG (.t b)⟩
abbrev aR (a n b:Nat):bn:=⟨some a,none,.load n false (.t b)⟩
abbrev bd (a n b:Nat):bn:=⟨some a,none,.load n true (.t b)⟩
abbrev aX (a n b:Nat):bn:=⟨some a,none,.sm n (.t b)⟩
abbrev bo (n a b:Nat):bn:=⟨none,none,.store n (.t a) (.t b)⟩
abbrev bz (a:Nat)(n:Int):bn:=⟨some a,none,.hG (.c (.L (.int .i64 n)))⟩
abbrev bb (a n b:Nat):bn:=⟨some a,none,.ext n (.t b)⟩
abbrev bZ (a n b c:Nat):bn:=⟨some a,none,.tp n (.t b) (.t c)⟩
abbrev ch (a b:Nat):bn:=⟨some a,none,.len (.t b)⟩
abbrev cI (a:Nat)(b:Bool):bn:=⟨some a,none,.hG (.c (.L (.bool b)))⟩
abbrev eG (a:Nat):bn:=⟨some a,none,.hG (.c .nil)⟩
abbrev bE (a:Nat)(o:BinOp)(b c:Nat):bn:=⟨some a,none,.bin o (.t b) (.t c)⟩
abbrev bt (a:Nat)(o:BinOp)(b:Nat)(n:Int):bn:=⟨some a,none,.bin o (.t b) (.c (.L (.int .i64 n)))⟩
abbrev dk (a b c:Nat):bn:=⟨some a,none,.pick (.t b) (.c (.L (.bool true))) (.t c)⟩
abbrev gb (a b c:Nat):bn:=⟨some a,none,.pick (.t b) (.t c) (.c (.L (.bool false)))⟩
abbrev cS (a k b:Nat):bn:=⟨some a,none,.box k (.t b)⟩
abbrev n1 (a b:Nat):bn:=⟨some a,none,.tn (.t b)⟩
abbrev fj (a b:Nat):bn:=⟨some a,none,.un .not (.t b)⟩
abbrev gd (a g n b:Nat):bn:=⟨some a,some (g,false),.load n false (.t b)⟩
abbrev hz (a g n b:Nat):bn:=⟨some a,some (g,false),.load n true (.t b)⟩
abbrev gf (a g b:Nat):bn:=⟨some a,some (g,false),.hG (.t b)⟩
abbrev gP (a g n b:Nat):bn:=⟨some a,some (g,false),.sm n (.t b)⟩
abbrev j9 (a g b:Nat):bn:=⟨some a,some (g,false),.un .not (.t b)⟩
abbrev rC (a g b:Nat):bn:=⟨some a,some (g,false),.len (.t b)⟩
abbrev DO (a g n b c:Nat):bn:=⟨some a,some (g,false),.tp n (.t b) (.t c)⟩
abbrev qu (a g:Nat)(o:BinOp)(b c:Nat):bn:=⟨some a,some (g,false),.bin o (.t b) (.t c)⟩
abbrev hA (a g:Nat)(o:BinOp)(b:Nat)(n:Int):bn:=⟨some a,some (g,false),.bin o (.t b) (.c (.L (.int .i64 n)))⟩
abbrev kD (a g n b:Nat):bn:=⟨some a,some (g,true),.load n false (.t b)⟩
abbrev zf (a g n b:Nat):bn:=⟨some a,some (g,true),.load n true (.t b)⟩
abbrev ey (a g b:Nat):bn:=⟨some a,some (g,true),.hG (.t b)⟩
abbrev mD (a g n b:Nat):bn:=⟨some a,some (g,true),.sm n (.t b)⟩
abbrev L1 (a g b:Nat):bn:=⟨some a,some (g,true),.un .not (.t b)⟩
abbrev RG (a g b:Nat):bn:=⟨some a,some (g,true),.len (.t b)⟩
abbrev rD (a g n b c:Nat):bn:=⟨some a,some (g,true),.tp n (.t b) (.t c)⟩
abbrev Bd (a g:Nat)(o:BinOp)(b c:Nat):bn:=⟨some a,some (g,true),.bin o (.t b) (.t c)⟩
abbrev ka (a g:Nat)(o:BinOp)(b:Nat)(n:Int):bn:=⟨some a,some (g,true),.bin o (.t b) (.c (.L (.int .i64 n)))⟩
abbrev bh (n:Int):I:=.L (.int .i64 n)
abbrev tX:List I:=[.nil,bh 0,.nil,bh 0,.nil]
abbrev dU:List I:=[bh 0,.nil,bh 0,.nil]
abbrev dg:List I:=[bh 0,.nil]
abbrev HE:List I:=[.nil,.nil,.nil]
abbrev cC (a k:Nat)(z:List I):bn:=⟨some a,none,.alloc k z⟩
abbrev eW (i:Nat)(c:eh):eh:=.block i (.loop c)
abbrev en (n i:Nat):eh:=.cond (.t n) .skip (.exit i)
abbrev cn (n:Nat)(l:List bn):eh:=.cond (.t n) (.seq (.ops l) .ret) .skip
abbrev dv (a:Nat)(f:FuncId)(x:Nat):bn:=⟨some a,none,.call f [.t x]⟩
abbrev bV (a:Nat)(f:FuncId)(x y:Nat):bn:=⟨some a,none,.call f [.t x,.t y]⟩
abbrev L2 (a:Nat)(f:FuncId)(x y z:Nat):bn:=⟨some a,none,.call f [.t x,.t y,.t z]⟩
abbrev xJ (a:Nat)(f:FuncId)(x y z u:Nat):bn:=⟨some a,none,.call f [.t x,.t y,.t z,.t u]⟩
abbrev aO (a:Nat)(o:fe):bn:=⟨some a,none,o⟩
abbrev gz (a b:Nat)(o:fe):bn:=⟨some a,some (b,false),o⟩
abbrev fx (a b:Nat)(o:fe):bn:=⟨some a,some (b,true),o⟩
abbrev b9 (n m:Nat)(r:List jI)(b:eh):bQ:=⟨n,m,r,b⟩
abbrev fT (n:Nat)(a b:eh):eh:=.cond (.t n) a b
abbrev Y (l:List bn)(c:eh):eh:=.seq (.ops l) c
abbrev fk (l:List bn)(x:List (List Nat))(c:eh):eh:=.seq (.ov l x) c
abbrev aks:List (List Nat):=[[],[],[],[],[]]
abbrev YN:List (List Nat):=[[],[],[],[],[],[]]
abbrev akt:List (List Nat):=[[],[],[],[],[],[],[]]
abbrev aku:List (List Nat):=[[],[],[],[],[],[],[],[]]
abbrev RH:List (List Nat):=[[],[],[],[],[],[],[],[],[]]
abbrev HF:List (List Nat):=[[],[],[],[],[],[],[],[],[],[]]
abbrev L3:List (List Nat):=[[],[],[],[],[],[],[],[],[],[],[]]
abbrev YO:List (List Nat):=[[],[],[],[],[],[],[],[],[],[],[],[]]
abbrev L4:List (List Nat):=[[],[],[],[],[],[],[],[],[],[],[],[],[]]
abbrev L5:List (List Nat):=[[],[],[],[],[],[],[],[],[],[],[],[],[],[]]
abbrev akv:List (List Nat):=[[],[],[],[],[],[],[],[],[],[],[],[],[],[],[]]
abbrev HG:List (List Nat):=[[],[],[],[],[],[],[],[],[],[],[],[],[],[],[],[]]
abbrev akw:List (List Nat):=[[],[],[],[],[],[],[],[],[],[],[],[],[],[],[],[],[]]
abbrev akx:List (List Nat):=[[],[],[],[],[],[],[],[],[],[],[],[],[],[],[],[],[],[]]
abbrev aky:List (List Nat):=[[],[],[],[],[],[],[],[],[],[],[],[],[],[],[],[],[],[],[],[],[],[],[],[],[],[]]
abbrev akz:List (List Nat):=[[],[],[],[],[],[],[],[],[],[],[],[],[],[],[],[],[],[],[],[],[],[],[],[],[],[],[],[]]
def YP:bQ:=b9 49 1 [.t 2] (Y [cS 1 136001 0,cI 2 false] (Y [aX 6 1 1,aR 7 1 6,ch 8 7,F 3 8] (.seq (Y [aX 9 1 1,aR 10 1 9,ch 11 10,bz 12 0] (eW 0 (Y [bE 13 .lss 12 11] (.seq (en 13 0) (.seq (.block 1 (Y [bZ 14 1 10 12,aR 15 1 14,F 5 15] (Y [F 16 5,bt 17 .lss 16 0,F 18 17,gf 19 18 5,hA 20 18 .gtr 19 1048575,dk 21 18 20] (cn 21 [cI 2 false])))) (.ops [bt 22 .add 12 1,F 12 22])))))) (.seq (Y [F 23 3,bt 24 .eql 23 0] (cn 24 [aX 25 0 1,aR 26 1 25,bt 27 .eql 26 0,F 2 27])) (Y [aX 28 0 1,aR 29 1 28,bt 30 .eql 29 1,F 31 30,gP 32 31 0 1,gd 33 31 1 32,gz 34 31 (.bin .eql (.t 33) (.c (.L (.int .i64 (-1))))),dk 35 31 34,F 36 35,ey 37 36 3,ka 38 36 .leq 37 60,gb 39 36 38,F 40 39,mD 41 40 1 1,kD 42 40 1 41,ey 43 40 3,ka 44 40 .sub 43 1,rD 45 40 1 42 44,kD 46 40 1 45,ka 47 40 .neq 46 0,gb 48 40 47,F 2 48] .ret)))))
def YQ:bQ:=b9 44 2 [.cell 4 2 true,.t 5] (Y [cS 2 137002 0,cS 3 137003 1,cC 4 137004 dg,bz 5 0] (.seq (Y [bd 10 2 2,dv 11 jS 10,fj 12 11,F 13 12,hz 14 13 2 3,gz 15 13 (.call jS [.t 14]),j9 16 13 15,dk 17 13 16] (cn 17 [aO 18 (.build dg []),aO 19 (.call sJ [.c (.L (.bool false)),.t 18]),bb 20 0 19,bb 21 1 19,bo 2 4 20,F 5 21])) (fk [aX 22 1 2,aR 23 1 22,dv 24 vJ 23,aX 25 1 3,aR 26 1 25,F 6 24,F 7 26] akt (.seq (eW 0 (.seq (Y [F 27 7,ch 28 27,bt 29 .gtr 28 0] (en 29 0)) (.block 1 (Y [F 31 6,F 32 7,bV 33 Hv 31 32,F 30 33,bb 34 0 30,bb 35 1 30,F 8 34,F 9 35] (.ops [F 36 7,F 37 9,F 6 36,F 7 37]))))) (Y [F 38 6,dv 39 vJ 38,aO 40 (.call nu [.c (bh 1),.t 39]),aO 41 (.call sJ [.c (.L (.bool true)),.t 40]),bb 42 0 41,bb 43 1 41,bo 2 4 42,F 5 43] .ret)))))
def YR:bQ:=b9 32 2 [.cell 4 2 true,.t 5] (Y [cS 2 140002 0,cS 3 140003 1,cC 4 140004 dg,bz 5 0] (.seq (Y [bd 6 2 2,dv 7 jS 6,fj 8 7,F 9 8,hz 10 9 2 3,gz 11 9 (.call jS [.t 10]),j9 12 9 11,dk 13 9 12] (cn 13 [aO 14 (.build dg []),aO 15 (.call sJ [.c (.L (.bool false)),.t 14]),bb 16 0 15,bb 17 1 15,bo 2 4 16,F 5 17])) (fk [aX 18 0 2,aR 19 1 18,aX 20 0 3,aR 21 1 20,bE 22 .mul 19 21,aX 23 1 2,aR 24 1 23,aX 25 1 3,aR 26 1 25,bV 27 DJ 24 26,bV 28 nu 22 27,aO 29 (.call sJ [.c (.L (.bool true)),.t 28]),bb 30 0 29,bb 31 1 29,bo 2 4 30,F 5 31] HG .ret)))
def YS:bQ:=b9 25 1 [.cell 2 2 true] (Y [cC 2 150002 dg] (Y [F 6 0,aO 7 (.conv .u64 (.t 6)),bz 3 1,F 4 7] (.seq (Y [F 8 0,bt 9 .lss 8 0] (fT 9 (.ops [F 10 4,aO 11 (.un .neg (.t 10)),aO 3 (.hG (.c (.L (.int .i64 (-1))))),F 4 11]) .skip)) (Y [eG 5] (.seq (.block 0 (.ghost (.q1 5 150021 1) (.loop  (.seq (Y [F 12 4,aO 13 (.bin .gtr (.t 12) (.c (.L (.int .u64 0))))] (en 13 0)) (.seq (.block 1 (.ops [F 16 5,F 17 4,aO 18 (.bin .and (.t 17) (.c (.L (.int .u64 1048575)))),aO 19 (.conv .i64 (.t 18)),aO 20 (.eg 150020 false [bh 0] 1 1 [(0,1,.t 19)]),aO 21 (.app 150021 [bh 0] 8 (.t 16) (.t 20)),F 5 21])) (.ops [F 14 4,aO 15 (.bin .shr (.t 14) (.c (.L (.int .u64 20)))),F 4 15])))))) (.seq (.ghost (.freeze 5) (.ops [F 22 3,F 23 5,bV 24 nu 22 23,bo 2 2 24])) .ret))))))
def YT:bQ:=b9 14 1 [.cell 2 2 true] (Y [cS 1 152001 0,cC 2 152002 dg] (.seq (Y [bd 3 2 1,dv 4 jS 3,fj 5 4] (cn 5 [aO 6 (.build dg []),bo 2 2 6])) (fk [aX 7 0 1,aR 8 1 7,aO 9 (.un .neg (.t 8)),aX 10 1 1,aR 11 1 10,dv 12 vJ 11,bV 13 nu 9 12,bo 2 2 13] aku .ret)))
def YU:bQ:=b9 67 2 [.cell 4 2 true,.cell 5 2 true,.t 6] (Y [cS 2 153002 0,cS 3 153003 1,cC 4 153004 dg,cC 5 153005 dg,bz 6 0] (.seq (.block 0 (Y [bd 10 2 2,dv 11 jS 10,fj 12 11,F 13 12,hz 14 13 2 3,gz 15 13 (.call jS [.t 14]),j9 16 13 15,dk 17 13 16,F 9 17] (fT 9 (Y [aO 18 (.build dg []),aO 19 (.build dg []),bo 2 4 18,bo 2 5 19,bz 6 1] .ret) (Y [aX 21 0 3,aR 22 1 21,bt 23 .eql 22 0,F 20 23] (cn 20 [aO 24 (.build dg []),aO 25 (.build dg []),bo 2 4 24,bo 2 5 25,bz 6 15]))))) (Y [aX 27 1 2,aR 28 1 27,aX 29 1 3,aR 30 1 29,bV 31 Hv 28 30,F 26 31,bb 32 0 26,bb 33 1 26,F 7 32,F 8 33] (.seq (Y [aX 34 0 2,aR 35 1 34,aX 36 0 3,aR 37 1 36,bE 38 .mul 35 37,bt 39 .lss 38 0,F 40 39,ey 41 40 8,RG 42 40 41,ka 43 40 .gtr 42 0,gb 44 40 43] (fT 44 (fk [F 45 7,aO 46 (.eg 153046 false [bh 0] 1 1 [(0,1,.c (bh 1))]),bV 47 Hy 45 46,aO 48 (.call nu [.c (.L (.int .i64 (-1))),.t 47]),aX 49 0 3,aR 50 1 49,aX 51 1 3,aR 52 1 51,F 53 8,bV 54 DL 52 53,bV 55 nu 50 54,bo 2 4 48,bo 2 5 55,bz 6 0] L5 .ret) .skip)) (fk [aX 56 0 2,aR 57 1 56,aX 58 0 3,aR 59 1 58,bE 60 .mul 57 59,F 61 7,bV 62 nu 60 61,aX 63 0 2,aR 64 1 63,F 65 8,bV 66 nu 64 65,bo 2 4 62,bo 2 5 66,bz 6 0] L5 .ret)))))
def YV:bQ:=b9 31 2 [.t 4] (Y [cS 2 154002 0,cS 3 154003 1,bz 4 0] (.seq (Y [bd 5 2 2,dv 6 jS 5,fj 7 6,F 8 7,hz 9 8 2 3,gz 10 8 (.call jS [.t 9]),j9 11 8 10,dk 12 8 11] (cn 12 [bz 4 0])) (.seq (Y [aX 13 0 2,aR 14 1 13,aX 15 0 3,aR 16 1 15,bE 17 .neq 14 16] (cn 17 [aX 18 0 2,aR 19 1 18,aX 20 0 3,aR 21 1 20,bV 22 DM 19 21,F 4 22])) (fk [aX 23 0 2,aR 24 1 23,aX 25 1 2,aR 26 1 25,aX 27 1 3,aR 28 1 27,bV 29 A7 26 28,bE 30 .mul 24 29,F 4 30] RH .ret))))
def YW:bQ:=b9 17 2 [.cell 4 2 true,.t 5] (Y [cS 3 155003 1,cC 4 155004 dg,bz 5 0] (.seq (.block 0 (Y [F 7 0,fj 8 7,F 6 8] (fT 6 (Y [aO 9 (.build dg []),bo 2 4 9,bz 5 1] .ret) (Y [aX 11 1 3,aR 12 1 11,ch 13 12,bt 14 .gtr 13 60,F 10 14] (cn 10 [aO 15 (.build dg []),bo 2 4 15,bz 5 6]))))) (Y [bd 16 2 3,bo 2 4 16,bz 5 0] .ret)))
def YX:bQ:=b9 170 2 [.t 4,.t 5] (Y [eG 4,eG 5] (.seq (Y [F 19 0,F 20 1,bV 21 A7 19 20,bt 22 .lss 21 0] (cn 22 [F 23 0,dv 24 vJ 23,eG 4,F 5 24])) (.seq (Y [F 25 1,ch 26 25,bt 27 .eql 26 1] (fT 27 (Y [F 29 0,F 30 1,aO 31 (.tp 1 (.t 30) (.c (bh 0))),aR 32 1 31,bV 33 LV 29 32,F 28 33,bb 34 0 28,bb 35 1 28,F 6 34,F 7 35] (Y [F 36 6,F 37 7,aO 38 (.eg 157038 false [bh 0] 1 1 [(0,1,.t 37)]),dv 39 oJ 38,F 4 36,F 5 39] .ret)) .skip)) (Y [bz 8 1] (.seq (eW 0 (.seq (Y [F 40 1,F 41 1,ch 42 41,bt 43 .sub 42 1,bZ 44 1 40 43,aR 45 1 44,F 46 8,bE 47 .mul 45 46,bt 48 .lss 47 524288] (en 48 0)) (.block 1 (.ops [F 49 8,bt 50 .mul 49 2,F 8 50])))) (Y [F 51 0,F 52 8,aO 53 (.eg 157053 false [bh 0] 1 1 [(0,1,.t 52)]),aO 54 (.ln 157054 1 DJ [.t 51,.t 53]),aO 55 (.eg 157055 false [bh 0] 1 1 [(0,1,.c (bh 0))]),aO 56 (.app 157056 [bh 0] 8 (.t 54) (.t 55)),F 57 1,F 58 8,aO 59 (.eg 157059 false [bh 0] 1 1 [(0,1,.t 58)]),bV 60 DJ 57 59,F 9 56,F 10 60] (.seq (Y [F 61 9,ch 62 61,F 63 0,ch 64 63,bE 65 .eql 62 64] (fT 65 (.ops [F 66 9,aO 67 (.eg 157067 false [bh 0] 1 1 [(0,1,.c (bh 0))]),aO 68 (.app 157068 [bh 0] 8 (.t 66) (.t 67)),F 9 68]) .skip)) (Y [F 69 10,ch 70 69,F 11 70] (Y [F 71 9,ch 72 71,F 73 11,bE 74 .sub 72 73,aO 75 (.ll 157075 [bh 0] 8 (.t 74) (.t 74)),F 12 75] (.seq (Y [F 76 12,ch 77 76,bt 78 .sub 77 1,F 13 78] (eW 2 (.seq (Y [F 79 13,bt 80 .geq 79 0] (en 80 2)) (.seq (.block 3 (fk [F 83 9,F 84 13,F 85 11,bE 86 .add 84 85,bZ 87 1 83 86,aR 88 1 87,aO 89 (.bin .shl (.t 88) (.c (.L (.int .u64 20)))),F 90 9,F 91 13,F 92 11,bE 93 .add 91 92,bt 94 .sub 93 1,bZ 95 1 90 94,aR 96 1 95,bE 97 .or 89 96,F 14 97] HG (fk [F 98 14,F 99 10,F 100 11,bt 101 .sub 100 1,bZ 102 1 99 101,aR 103 1 102,bE 104 .quo 98 103,F 105 14,F 106 10,F 107 11,bt 108 .sub 107 1,bZ 109 1 106 108,aR 110 1 109,bE 111 .rem 105 110,F 15 104,F 16 111] HG (.seq (eW 4 (.seq (fk [F 112 15,bt 113 .geq 112 1048576,F 114 113,gf 115 114 16,hA 116 114 .lss 115 1048576,gf 117 114 116,ey 118 117 15,ey 119 117 10,ey 120 117 11,ka 121 117 .sub 120 2,rD 122 117 1 119 121,kD 123 117 1 122,Bd 124 117 .mul 118 123,ey 125 117 16,fx 126 117 (.bin .shl (.t 125) (.c (.L (.int .u64 20)))),ey 127 117 9,ey 128 117 13,ey 129 117 11,Bd 130 117 .add 128 129,ka 131 117 .sub 130 2,rD 132 117 1 127 131,kD 133 117 1 132,Bd 134 117 .or 126 133,Bd 135 117 .gtr 124 134,gz 136 114 (.pick (.t 117) (.t 135) (.c (.L (.bool false)))),dk 137 114 136] aky (en 137 4)) (.block 5 (Y [F 138 15,bt 139 .sub 138 1,F 15 139] (.ops [F 140 16,F 141 10,F 142 11,bt 143 .sub 142 1,bZ 144 1 141 143,aR 145 1 144,bE 146 .add 140 145,F 16 146]))))) (.ops [F 147 12,F 148 13,F 149 9,F 150 13,F 151 13,F 152 11,bE 153 .add 151 152,bt 154 .add 153 1,aO 155 (.qa 1 (.t 149) (some (.t 150)) (some (.t 154)) none),F 156 10,F 157 15,L2 158 Rn 155 156 157,bZ 159 1 147 148,bo 1 159 158]))))) (.ops [F 81 13,bt 82 .sub 81 1,F 13 82]))))) (.seq (.ghost (.freeze 9) (.ops [F 161 9,dv 162 oJ 161,F 163 8,bV 164 LV 162 163,F 160 164,bb 165 0 160,bb 166 1 160,F 17 165,F 18 166])) (.seq (.ghost (.freeze 12) (.ops [F 167 12,dv 168 oJ 167,F 169 17,F 4 168,F 5 169])) .ret))))))))))))
def YY:bQ:=b9 14 2 [.cell 4 2 true] (Y [cC 4 158004 dg] (Y [F 5 1,dv 6 oJ 5,F 1 6] (.seq (Y [F 7 1,ch 8 7,bt 9 .eql 8 0] (cn 9 [aO 10 (.build dg []),bo 2 4 10])) (Y [F 11 0,F 12 1,aO 13 (.build dg [(0,1,.t 11),(1,1,.t 12)]),bo 2 4 13] .ret))))
def YZ:bQ:=b9 59 1 [.t 2,.t 3] (Y [cS 1 159001 0,bz 2 0,cI 3 false] (.seq (Y [bd 7 2 1,dv 8 jS 7,fj 9 8,F 10 9,gP 11 10 1 1,gd 12 10 1 11,rC 13 10 12,hA 14 10 .gtr 13 4,dk 15 10 14] (cn 15 [bz 2 0,cI 3 false])) (Y [aO 4 (.hG (.c (.L (.int .u64 0))))] (.seq (Y [aX 16 1 1,aR 17 1 16,ch 18 17,bz 19 0] (eW 0 (Y [bE 20 .lss 19 18] (.seq (en 20 0) (.seq (.block 1 (Y [F 21 19,bZ 22 1 17 19,aR 23 1 22,F 5 21,F 6 23] (.seq (Y [F 24 5,bt 25 .eql 24 3,F 26 25,ey 27 26 6,ka 28 26 .gtr 27 8,gb 29 26 28] (cn 29 [bz 2 0,cI 3 false])) (.ops [F 30 4,F 31 6,aO 32 (.conv .u64 (.t 31)),F 33 5,aO 34 (.bin .mul (.c (bh 20)) (.t 33)),bE 35 .shl 32 34,bE 36 .or 30 35,F 4 36])))) (.ops [bt 37 .add 19 1,F 19 37])))))) (.seq (.block 2 (Y [aX 39 0 1,aR 40 1 39,bt 41 .lss 40 0,F 42 41,ey 43 42 4,fx 44 42 (.bin .leq (.t 43) (.c (.L (.int .u64 9223372036854775808)))),gb 45 42 44,F 38 45] (fT 38 (Y [F 46 4,aO 47 (.un .neg (.t 46)),aO 48 (.conv .i64 (.t 47)),F 2 48,cI 3 true] .ret) (Y [aX 50 0 1,aR 51 1 50,bt 52 .geq 51 0,F 53 52,ey 54 53 4,fx 55 53 (.bin .lss (.t 54) (.c (.L (.int .u64 9223372036854775808)))),gb 56 53 55,F 49 56] (cn 49 [F 57 4,aO 58 (.conv .i64 (.t 57)),F 2 58,cI 3 true]))))) (Y [bz 2 0,cI 3 false] .ret))))))
def Y0:bQ:=b9 69 2 [.cell 4 2 true,.t 5] (Y [cS 2 160002 0,cS 3 160003 1,cC 4 160004 dg,bz 5 0] (.seq (Y [bd 6 2 2,dv 7 jS 6,fj 8 7,F 9 8,hz 10 9 2 3,gz 11 9 (.call jS [.t 10]),j9 12 9 11,dk 13 9 12] (cn 13 [aO 14 (.build dg []),aO 15 (.call sJ [.c (.L (.bool false)),.t 14]),bb 16 0 15,bb 17 1 15,bo 2 4 16,F 5 17])) (.seq (.block 0 (Y [aX 19 0 2,aR 20 1 19,aX 21 0 3,aR 22 1 21,bE 23 .mul 20 22,bt 24 .geq 23 0,F 18 24] (fT 18 (fk [aX 25 0 2,aR 26 1 25,aX 27 0 3,aR 28 1 27,aO 29 (.eg 160029 false [bh 0,bh 0] 1 2 [(0,1,.t 26),(1,1,.t 28)]),dv 30 Ro 29,aX 31 1 2,aR 32 1 31,aX 33 1 3,aR 34 1 33,bV 35 Hy 32 34,bV 36 nu 30 35,aO 37 (.call sJ [.c (.L (.bool true)),.t 36]),bb 38 0 37,bb 39 1 37,bo 2 4 38,F 5 39] akw .ret) (Y [aX 41 1 2,aR 42 1 41,aX 43 1 3,aR 44 1 43,bV 45 A7 42 44,bt 46 .lss 45 0,F 40 46] (fT 40 (fk [aX 47 0 3,aR 48 1 47,aX 49 1 3,aR 50 1 49,aX 51 1 2,aR 52 1 51,bV 53 DL 50 52,bV 54 nu 48 53,aO 55 (.call sJ [.c (.L (.bool true)),.t 54]),bb 56 0 55,bb 57 1 55,bo 2 4 56,F 5 57] L4 .ret) .skip))))) (fk [aX 58 0 2,aR 59 1 58,aX 60 1 2,aR 61 1 60,aX 62 1 3,aR 63 1 62,bV 64 DL 61 63,bV 65 nu 59 64,aO 66 (.call sJ [.c (.L (.bool true)),.t 65]),bb 67 0 66,bb 68 1 66,bo 2 4 67,F 5 68] L4 .ret))))
def Y1:bQ:=b9 67 2 [.t 4] (Y [eG 4] (Y [F 12 0,ch 13 12,F 14 1,ch 15 14,bE 16 .add 13 15,aO 17 (.ll 161017 [bh 0] 8 (.t 16) (.t 16)),F 5 17] (.seq (Y [F 18 0,ch 19 18,bz 20 0] (eW 0 (Y [bE 21 .lss 20 19] (.seq (en 21 0) (.seq (.block 1 (Y [F 22 20,bZ 23 1 18 20,aR 24 1 23,F 6 22,F 7 24] (Y [bz 8 0] (.seq (Y [F 25 1,ch 26 25,bz 27 0] (eW 2 (Y [bE 28 .lss 27 26] (.seq (en 28 2) (.seq (.block 3 (Y [F 29 27,bZ 30 1 25 27,aR 31 1 30,F 9 29,F 10 31] (Y [F 32 5,F 33 6,F 34 9,bE 35 .add 33 34,bZ 36 1 32 35,aR 37 1 36,F 38 7,F 39 10,bE 40 .mul 38 39,bE 41 .add 37 40,F 42 8,bE 43 .add 41 42,F 11 43] (.ops [F 44 5,F 45 6,F 46 9,bE 47 .add 45 46,F 48 11,bt 49 .and 48 1048575,F 50 11,aO 51 (.bin .shr (.t 50) (.c (.L (.int .u64 20)))),bZ 52 1 44 47,bo 1 52 49,F 8 51])))) (.ops [bt 53 .add 27 1,F 27 53])))))) (.ops [F 54 5,F 55 6,F 56 1,ch 57 56,bE 58 .add 55 57,bZ 59 1 54 58,aR 60 1 59,F 61 8,bE 62 .add 60 61,bZ 63 1 54 58,bo 1 63 62]))))) (.ops [bt 64 .add 20 1,F 20 64])))))) (Y [F 65 5,dv 66 oJ 65,F 4 66] .ret))))
def Y2:bQ:=b9 55 2 [.t 4] (Y [eG 4] (.seq (Y [F 9 0,ch 10 9,F 11 1,ch 12 11,bE 13 .lss 10 12] (fT 13 (.ops [F 14 1,F 15 0,F 0 14,F 1 15]) .skip)) (Y [F 16 0,ch 17 16,bt 18 .add 17 1,aO 19 (.ll 172019 [bh 0] 8 (.t 18) (.t 18)),F 5 19] (Y [bz 6 0] (.seq (Y [F 20 0,ch 21 20,bz 22 0] (eW 0 (Y [bE 23 .lss 22 21] (.seq (en 23 0) (.seq (.block 1 (Y [F 24 22,bZ 25 1 20 22,aR 26 1 25,F 7 24,F 8 26] (Y [F 27 6,F 28 8,bE 29 .add 27 28,F 6 29] (.seq (Y [F 30 7,F 31 1,ch 32 31,bE 33 .lss 30 32] (fT 33 (.ops [F 34 6,F 35 1,F 36 7,bZ 37 1 35 36,aR 38 1 37,bE 39 .add 34 38,F 6 39]) .skip)) (Y [F 40 5,F 41 7,F 42 6,bt 43 .and 42 1048575,bZ 44 1 40 41,bo 1 44 43] (.ops [F 45 6,aO 46 (.bin .shr (.t 45) (.c (.L (.int .u64 20)))),F 6 46])))))) (.ops [bt 47 .add 22 1,F 22 47])))))) (Y [F 48 5,F 49 0,ch 50 49,F 51 6,bZ 52 1 48 50,bo 1 52 51] (Y [F 53 5,dv 54 oJ 53,F 4 54] .ret)))))))
def Y3:bQ:=b9 43 2 [.t 4] (Y [eG 4] (Y [F 9 0,aO 10 (.ln 173010 1 vJ [.t 9]),F 5 10] (Y [bz 6 0] (.seq (Y [F 11 5,ch 12 11,bz 13 0] (eW 0 (Y [bE 14 .lss 13 12] (.seq (en 14 0) (.seq (.block 1 (Y [F 15 13,F 7 15] (Y [F 16 5,F 17 7,bZ 18 1 16 17,aR 19 1 18,F 20 6,bE 21 .sub 19 20,F 8 21] (.seq (Y [F 22 7,F 23 1,ch 24 23,bE 25 .lss 22 24] (fT 25 (.ops [F 26 8,F 27 1,F 28 7,bZ 29 1 27 28,aR 30 1 29,bE 31 .sub 26 30,F 8 31]) .skip)) (Y [F 32 8,aO 33 (.bin .shr (.t 32) (.c (.L (.int .u64 20)))),bt 34 .and 33 1,F 6 34] (.ops [F 35 5,F 36 7,F 37 8,bt 38 .and 37 1048575,bZ 39 1 35 36,bo 1 39 38])))))) (.ops [bt 40 .add 13 1,F 13 40])))))) (Y [F 41 5,dv 42 oJ 41,F 4 42] .ret)))))
def Y4:bQ:=b9 41 2 [.t 4] (Y [bz 4 0] (.seq (Y [F 6 0,ch 7 6,F 8 1,ch 9 8,bE 10 .neq 7 9] (cn 10 [F 11 0,ch 12 11,F 13 1,ch 14 13,bV 15 DM 12 14,F 4 15])) (.seq (Y [F 16 0,ch 17 16,bt 18 .sub 17 1,F 5 18] (eW 0 (.seq (Y [F 19 5,bt 20 .geq 19 0] (en 20 0)) (.seq (.block 1 (fk [F 23 0,F 24 5,bZ 25 1 23 24,aR 26 1 25,F 27 1,F 28 5,bZ 29 1 27 28,aR 30 1 29,bE 31 .neq 26 30] RH (fT 31 (fk [F 32 0,F 33 5,bZ 34 1 32 33,aR 35 1 34,F 36 1,F 37 5,bZ 38 1 36 37,aR 39 1 38,bV 40 DM 35 39,F 4 40] HF .ret) .skip))) (.ops [F 21 5,bt 22 .sub 21 1,F 5 22]))))) (Y [bz 4 0] .ret))))
def Y5:bQ:=b9 38 2 [.t 4,.t 5] (Y [eG 4,bz 5 0] (Y [F 9 0,ch 10 9,aO 11 (.ll 176011 [bh 0] 8 (.t 10) (.t 10)),F 6 11] (Y [bz 7 0] (.seq (Y [F 12 0,ch 13 12,bt 14 .sub 13 1,F 8 14] (eW 0 (.seq (Y [F 15 8,bt 16 .geq 15 0] (en 16 0)) (.seq (.block 1 (Y [F 19 7,aO 20 (.bin .shl (.t 19) (.c (.L (.int .u64 20)))),F 21 0,F 22 8,bZ 23 1 21 22,aR 24 1 23,bE 25 .or 20 24,F 7 25] (Y [F 26 6,F 27 8,F 28 7,F 29 1,bE 30 .quo 28 29,bZ 31 1 26 27,bo 1 31 30] (.ops [F 32 7,F 33 1,bE 34 .rem 32 33,F 7 34])))) (.ops [F 17 8,bt 18 .sub 17 1,F 8 18]))))) (.seq (.ghost (.freeze 6) (.ops [F 35 6,dv 36 oJ 35,F 37 7,F 4 36,F 5 37])) .ret)))))
def DP:bQ:=b9 21 1 [.t 2] (Y [eG 2] (Y [F 4 0,ch 5 4,F 3 5] (.seq (eW 0 (.seq (Y [F 6 3,bt 7 .gtr 6 0,F 8 7,ey 9 8 0,ey 10 8 3,ka 11 8 .sub 10 1,rD 12 8 1 9 11,kD 13 8 1 12,ka 14 8 .eql 13 0,gb 15 8 14] (en 15 0)) (.block 1 (.ops [F 16 3,bt 17 .sub 16 1,F 3 17])))) (Y [F 18 0,F 19 3,aO 20 (.qa 1 (.t 18) none (some (.t 19)) none),F 2 20] .ret))))
def L6:bQ:=b9 78 3 [.t 6] (Y [bz 6 0] (Y [bz 7 0] (.seq (Y [F 12 0,ch 13 12,bz 14 0] (eW 0 (Y [bE 15 .lss 14 13] (.seq (en 15 0) (.seq (.block 1 (Y [F 16 14,F 8 16] (Y [F 17 0,F 18 8,bZ 19 1 17 18,aR 20 1 19,F 21 7,bE 22 .sub 20 21,F 9 22] (.seq (Y [F 23 8,F 24 1,ch 25 24,bE 26 .lss 23 25] (fT 26 (.ops [F 27 9,F 28 2,F 29 1,F 30 8,bZ 31 1 29 30,aR 32 1 31,bE 33 .mul 28 32,bE 34 .sub 27 33,F 9 34]) .skip)) (Y [F 35 0,F 36 8,F 37 9,bt 38 .and 37 1048575,bZ 39 1 35 36,bo 1 39 38] (.ops [F 40 9,aO 41 (.bin .shr (.t 40) (.c (.L (.int .u64 20)))),aO 42 (.un .neg (.t 41)),F 7 42])))))) (.ops [bt 43 .add 14 1,F 14 43])))))) (.seq (Y [F 44 7,bt 45 .eql 44 0] (cn 45 [F 46 2,F 6 46])) (Y [bz 10 0] (.seq (Y [F 47 0,ch 48 47,bz 49 0] (eW 2 (Y [bE 50 .lss 49 48] (.seq (en 50 2) (.seq (.block 3 (Y [F 51 49,F 11 51] (Y [F 52 10,F 53 0,F 54 11,bZ 55 1 53 54,aR 56 1 55,bE 57 .add 52 56,F 10 57] (.seq (Y [F 58 11,F 59 1,ch 60 59,bE 61 .lss 58 60] (fT 61 (.ops [F 62 10,F 63 1,F 64 11,bZ 65 1 63 64,aR 66 1 65,bE 67 .add 62 66,F 10 67]) .skip)) (Y [F 68 0,F 69 11,F 70 10,bt 71 .and 70 1048575,bZ 72 1 68 69,bo 1 72 71] (.ops [F 73 10,aO 74 (.bin .shr (.t 73) (.c (.L (.int .u64 20)))),F 10 74])))))) (.ops [bt 75 .add 49 1,F 49 75])))))) (Y [F 76 2,bt 77 .sub 76 1,F 6 77] .ret)))))))
def Y6:bQ:=b9 20 2 [.t 4] (Y [bz 4 0] (Y [F 7 0,dv 8 LW 7,F 5 8] (Y [F 9 1,dv 10 LW 9,F 6 10] (.seq (Y [F 11 5] (fT 11 (.seq (Y [F 12 6] (cn 12 [bz 4 0])) (Y [aO 4 (.hG (.c (.L (.int .i64 (-1)))))] .ret)) .skip)) (.seq (Y [F 13 6] (cn 13 [bz 4 1])) (.seq (Y [F 14 0,F 15 1,bE 16 .lss 14 15] (cn 16 [aO 4 (.hG (.c (.L (.int .i64 (-1)))))])) (.seq (Y [F 17 0,F 18 1,bE 19 .gtr 17 18] (cn 19 [bz 4 1])) (Y [bz 4 0] .ret))))))))
def Y7:bQ:=b9 18 1 [.t 2] (Y [bz 2 0] (Y [bz 3 0] (.seq (Y [F 6 0,ch 7 6,bz 8 0] (eW 0 (Y [bE 9 .lss 8 7] (.seq (en 9 0) (.seq (.block 1 (Y [bZ 10 1 6 8,aR 11 1 10,F 5 11] (Y [F 12 5,F 13 3,bE 14 .neq 12 13] (cn 14 [F 15 5,F 2 15])))) (.ops [bt 16 .add 8 1,F 8 16])))))) (Y [F 17 3,F 2 17] .ret))))
def Y8:bQ:=b9 6 1 [.t 2] (Y [cI 2 false] (Y [F 3 0,F 4 0,bE 5 .neq 3 4,F 2 5] .ret))
def Y9:bQ:=b9 9 2 [.t 4] (Y [cI 4 false] (Y [F 5 0,F 6 1,bV 7 Rf 5 6,bt 8 .geq 7 0,F 4 8] .ret))
def Za:bQ:=b9 9 2 [.t 4] (Y [cI 4 false] (Y [F 5 0,F 6 1,bV 7 Rg 5 6,bt 8 .geq 7 0,F 4 8] .ret))
def Zb:bQ:=b9 48 2 [.t 4] (Y [eG 4] (.seq (Y [F 9 1,bt 10 .lss 9 0] (fT 10 (.ops [aO 11 (.CS 9 (.c (.L (.str [99,97,110,110,111,116,32,98,101,32,110,101,103,97,116,105,118,101])))),⟨none,none,.bad⟩]) .skip)) (Y [F 13 0,ch 14 13,aO 15 (.conv .u64 (.t 14)),F 16 1,aO 17 (.conv .u64 (.t 16)),bV 18 Ri 15 17,F 12 18,bb 19 0 12,bb 20 1 12,F 5 19,F 6 20] (.seq (Y [F 21 5,aO 22 (.bin .gtr (.t 21) (.c (.L (.int .u64 0)))),F 23 22,gf 24 23 6,gz 25 23 (.bin .gtr (.t 24) (.c (.L (.int .u64 9223372036854775807)))),dk 26 23 25] (fT 26 (.ops [aO 27 (.CS 9 (.c (.L (.str [116,104,101,32,114,101,115,117,108,116,32,111,102,32,40,108,101,110,40,120,41,32,42,32,99,111,117,110,116,41,32,111,118,101,114,102,108,111,119,115])))),⟨none,none,.bad⟩]) .skip)) (Y [F 28 6,aO 29 (.conv .i64 (.t 28)),aO 30 (.ll 131030 dU 64 (.t 29) (.t 29)),F 7 30] (Y [F 31 7,F 32 0,aO 33 (.qb 4 (.t 31) (.t 32)),F 8 33] (.seq (eW 0 (.seq (Y [F 34 8,F 35 7,ch 36 35,bE 37 .lss 34 36] (en 37 0)) (.block 1 (.ov [F 38 8,F 39 7,F 40 8,aO 41 (.qa 4 (.t 39) (some (.t 40)) none none),F 42 7,F 43 8,aO 44 (.qa 4 (.t 42) none (some (.t 43)) none),aO 45 (.qb 4 (.t 41) (.t 44)),bE 46 .add 38 45,F 8 46] HF)))) (Y [F 47 7,F 4 47] .ret))))))))
def Zc:bQ:=b9 19 2 [.t 4] (Y [bz 4 0] (.seq (Y [F 6 0,ch 7 6,bz 8 0] (eW 0 (Y [bE 9 .lss 8 7] (.seq (en 9 0) (.seq (.block 1 (Y [F 10 8,F 5 10] (Y [F 11 1,F 12 0,F 13 5,bZ 14 5 12 13,bd 15 5 14,aO 16 (.jH (.t 11) [.t 15])] (cn 16 [F 17 5,F 4 17])))) (.ops [bt 18 .add 8 1,F 8 18])))))) (Y [aO 4 (.hG (.c (.L (.int .i64 (-1)))))] .ret)))
def HH:bQ:=b9 19 2 [.t 4] (Y [bz 4 0] (.seq (Y [F 6 0,ch 7 6,bz 8 0] (eW 0 (Y [bE 9 .lss 8 7] (.seq (en 9 0) (.seq (.block 1 (Y [F 10 8,F 5 10] (Y [F 11 1,F 12 0,F 13 5,bZ 14 4 12 13,bd 15 4 14,aO 16 (.jH (.t 11) [.t 15])] (cn 16 [F 17 5,F 4 17])))) (.ops [bt 18 .add 8 1,F 8 18])))))) (Y [aO 4 (.hG (.c (.L (.int .i64 (-1)))))] .ret)))
def Zd:bQ:=b9 8 1 [.t 2] (Y [eG 2] (.seq (Y [F 3 0,aO 4 (.kQ false (.t 3))] (cn 4 [eG 2])) (Y [aO 5 (.eg 147005 true [] 4 0 []),F 6 0,aO 7 (.app 147007 dU 64 (.t 5) (.t 6)),F 2 7] .ret)))
def Ze:bQ:=b9 8 1 [.t 2] (Y [eG 2] (.seq (Y [F 3 0,aO 4 (.kQ false (.t 3))] (cn 4 [eG 2])) (Y [aO 5 (.eg 156005 true [] 1 0 []),F 6 0,aO 7 (.app 156007 [bh 0] 8 (.t 5) (.t 6)),F 2 7] .ret)))
def Zf:bQ:=b9 9 2 [.t 4] (Y [cI 4 false] (Y [F 5 0,F 6 1,bV 7 RF 5 6,bt 8 .geq 7 0,F 4 8] .ret))
def Zg:bQ:=b9 19 2 [.t 4] (Y [bz 4 0] (.seq (Y [F 6 0,ch 7 6,bz 8 0] (eW 0 (Y [bE 9 .lss 8 7] (.seq (en 9 0) (.seq (.block 1 (Y [F 10 8,F 5 10] (Y [F 11 1,F 12 0,F 13 5,bZ 14 6 12 13,bd 15 6 14,aO 16 (.jH (.t 11) [.t 15])] (cn 16 [F 17 5,F 4 17])))) (.ops [bt 18 .add 8 1,F 8 18])))))) (Y [aO 4 (.hG (.c (.L (.int .i64 (-1)))))] .ret)))
def RI (l:List Int)(n:Nat)(aE:n<D l)(h:l[n]=0):fh (l.take (n+1))=fh (l.take n):=by
 rw[jj,bB aE,h];exact YD _
def RJ (l:List Int)(n:Nat)(aE:n<D l)(h:l[n]≠0):fh (l.take (n+1))=l.take (n+1):=by
 rw[jj,bB aE];exact YE _ h
abbrev vL:List Int->List Data:=λ(l:List Int)=>[.ay (l.map aH)]
def vM:=b1 vL λ(l:List Int)=>cu (D l<=1000000) (.same (.ay ((fh l).map aH)))
def L7:∀a b,vL a=vL b->a=b:=by
  intro ig ab h;exact map_inj fi _ _ (by simpa using h)
@[go_sem] def L8 (l):=cL vM rfl L7 l rfl
def akA (T:bl):WF T DP vM:=by
 refine cq λl=>cR λZ=>⟨rfl,cr ?_⟩;simp only[DP,vL,b8];have mU:((l.map aH).all λe=>D e==1)=true:=by simp[aH]
 refine an ?_;repeat' (intro h<;>simp only[h,go_sem,go_sem_proc,az]<;>try refine aj ?_ ?_)
 refine dM [0] [] (λ(n:Nat) tm mem=>n<=D l/\fh l=fh (l.take n)/\tm 3=.L (.int .i64 n)) (λn=>n) (D l) (by refine⟨bM _,by simp,by simp[go_sem]⟩) ?_;intro vs ms a7 aY;simp only[go_sem,go_sem_proc,az] at a7 aY;subst a7 aY;rintro n tm mem Q-⟨aE,bC,ad⟩;simp only[go_sem,go_sem_proc,bs] at Q;have al:=Q;rcases n with _|n
 ·refine an ?_;repeat' (intro h<;>simp only[h,go_sem,go_sem_proc,al,ad,mU,nw,n2,show ¬ ((0:Int)>0) by omega,decide_false,az,show (0:Int).toNat=0 from rfl,show (0:Int)<=0 by omega,eL,LF,cl]<;>try refine aj ?_ ?_)
  rw[bC];simp[fh]
 ·have hw:IntKind.i64.wrap (((n+1:Nat):Int)-1)=(n:Int):=by rw[fg _];omega
  have J:l[n]?=some l[n]:=bB (by omega);have hn:((n+1:Nat):Int)>0:=by omega
  have hle:n+1<=D l:=aE
  by_cases aQ:l[n]=0
  ·refine an ?_;repeat' (intro h<;>simp only[h,go_sem,go_sem_proc,al,ad,hw,J,aQ,hn,az,bG,decide_true,aH,beq_self_eq_true,bs]<;>try refine aj ?_ ?_)
   exact⟨n,by omega,by omega,by rw[bC,RI l n (by omega) aQ],rfl⟩
  ·have sK:(l[n]==0)=false:=by simpa using aQ
   refine an ?_;repeat' (intro h<;>simp only[h,go_sem,go_sem_proc,al,ad,hw,J,sK,hn,mU,hle,aH,az,bG,decide_true,bs,show (0:Int)<=((n+1:Nat):Int) by omega,pJ,eL]<;>try refine aj ?_ ?_)
   rw[bC,RJ l n (by omega) aQ,List.map_take]
structure Zh where
 l:List Int
 k:Key
 g:Nat
def sL:List I->Mem->Option (I×Mem):=DE (λ(a:Zh) args mem=>args=[.ref a.k a.g 1 0 (D a.l)]/\mem a.k=some (a.g,a6 aH a.l)/\D a.l<=1000000) (λa mem=>(.ref a.k a.g 1 0 (fh a.l).length,mem))
def RK {α:Type}{enc:α->List Data}{sz:Nat}(h:∀a,(enc a).length=sz)(O:∀a b,enc a=enc b->a=b):∀(l mz:List α),a6 enc l=a6 enc mz->0<sz->l=mz:=by
 intro l
 induction l with
 |nil =>
  intro mz e aQ
  cases mz with
  |nil=>rfl
  |cons b r =>
   have:=congrArg D e;rw[mA h,mA h] at this;simp only[lD,jG,LI,ou] at this;omega
 |cons a r aF =>
  intro mz e aQ
  cases mz with
  |nil =>
   have:=congrArg D e;rw[mA h,mA h] at this;simp only[lD,jG,LI,ou] at this;omega
  |cons b C6 =>
   rw[tR,tR] at e;have af:((enc a).map I.L).length=((enc b).map I.L).length:=by simp[h]
   obtain⟨aL,ax⟩:=RL e af;have eo:=map_inj (λx y (e:I.L x=I.L y)=>by cases e;rfl) _ _ aL;rw[O _ _ eo,aF C6 ax aQ]
def RM (l:List Int)(k g:Nat)(mem:Mem)(h:mem k=some (g,a6 aH l))(af:(D l)<=1000000):sL [.ref k g 1 0 (D l)] mem=some (.ref k g 1 0 (fh l).length,mem):=by
 unfold sL;refine YC (a:=(⟨l,k,g⟩:Zh)) ?_ ⟨rfl,h,af⟩;rintro a b args mem ⟨E,G,_⟩ ⟨ad,aK,_⟩;rw[E] at ad;simp only[bs,I.ref.injEq,true_and,and_true] at ad;obtain⟨HI,L9,_⟩:=ad;rw[HI,aK] at G;simp only[bH,ei] at G;have:=RK iO fi _ _ G.2 (by omega);rw[HI,L9,this]
@[go_sem] def ayu (d:Data)(mem:Mem):sL [.L d] mem=none:=by
 cases J:sL [.L d] mem with
 |none=>rfl
 |some x =>
  unfold sL at J;obtain⟨a,⟨h,_⟩,_⟩:=Q3 J
  cases h
def akB (T:bl)(l:List Int)(k g:Nat)(mem:Mem)(hm:mem k=some (g,a6 aH l))(Z:(D l)<=1000000):
  wp T DP.body (DD DP.res (.ref k g 1 0 (fh l).length) mem) ⟨j5 [.ref k g 1 0 (D l)],mem⟩:=by
 refine yU ?_;simp only[DP];refine an ?_;repeat' (intro h<;>simp only[h,go_sem,go_sem_proc,hm]<;>try refine aj ?_ ?_)
 refine dM [0] [] (λ(n:Nat) tm mem'=>n<=D l/\fh l=fh (l.take n)/\tm 3=.L (.int .i64 n)/\mem'=mem) (λn=>n) (D l) (by refine⟨bM _,by simp,by simp[go_sem],rfl⟩) ?_;intro vs ms a7 aY;simp only[go_sem,go_sem_proc] at a7 aY;subst a7 aY;rintro n tm _ Q-⟨aE,bC,ad,rfl⟩;simp only[go_sem,go_sem_proc,bs] at Q;have al:=Q;rcases n with _|n
 ·refine an ?_;repeat' (intro h<;>simp only[h,go_sem,go_sem_proc,al,ad,hm,nw,n2,show ¬ ((0:Int)>0) by omega,decide_false,show (0:Int).toNat=0 from rfl,show (0:Int)<=0 by omega,eL]<;>try refine aj ?_ ?_)
  rw[bC];simp[fh]
 ·have hw:IntKind.i64.wrap (((n+1:Nat):Int)-1)=(n:Int):=by rw[fg _];omega
  have J:l[n]?=some l[n]:=bB (by omega);have hn:((n+1:Nat):Int)>0:=by omega
  have hle:n+1<=D l:=aE;have au:n<D l:=aE;have vp:=Hf iO J (f:=0) (n:=1) (by omega);have dP:=mA iO l;rw[dE] at dP;have Zi:n+1<=(a6 aH l).length:=by omega
  have Zj:oK 1 (pK n (a6 aH l))=[.L (.int .i64 l[n])]:=by
   unfold cut at vp;rw[dE,kv,aq (by omega)] at vp
   simpa [aH] using vp
  by_cases aQ:l[n]=0
  ·refine an ?_;repeat' (intro h<;>simp only[h,go_sem,go_sem_proc,al,ad,hm,hw,au,Zi,Zj,aQ,hn,decide_true,dE,beq_self_eq_true]<;>try refine aj ?_ ?_)
   exact⟨n,by omega,by omega,by rw[bC,RI l n (by omega) aQ],rfl⟩
  ·have sK:(l[n]==0)=false:=by simpa using aQ
   refine an ?_;repeat' (intro h<;>simp only[h,go_sem,go_sem_proc,al,ad,hm,hw,au,Zi,Zj,sK,hn,hle,decide_true,dE,show (0:Int)<=((n+1:Nat):Int) by omega,pJ,eL,Nat.sub_zero]<;>try refine aj ?_ ?_)
   rw[bC,RJ l n (by omega) aQ];simp;omega
abbrev vN:Int->List Data:=λ(n:Int)=>[.int .i64 n]
def Ma:=b1 vN λ(n:Int)=>some (.same (.bool false))
def Mb:∀a b,vN a=vN b->a=b:=by
  intro pA sE h;simp only[bs,Data.int.injEq,Data.agg.injEq,Data.ay.injEq,Data.bool.injEq,Data.str.injEq,Data.ptr.injEq,Data.de.injEq,ei,true_and,and_true] at h ⊢
  first|exact h|simpa [HJ,and_assoc] using h|grind
@[go_sem] def ayv (n):=tS Ma rfl Mb n rfl
def akC (T:bl):WF T Y8 Ma:=by
 refine cq λn=>⟨rfl,cr ?_⟩;simp only[Y8,vN,b8];refine an ?_;repeat' (intro h<;>simp only[h,go_sem,go_sem_proc,beq_self_eq_true]<;>try refine aj ?_ ?_)
def gH (a b:Int):Int:=if decide (a<b)=true then -1 else if decide (a>b)=true then 1 else 0
abbrev vO:Int×Int->List Data:=λ(a,b)=>[.int .i64 a,.int .i64 b]
def HK:=b1 vO λ(a,b)=>some (.same (.int .i64 (gH a b)))
def Mc:∀a b,vO a=vO b->a=b:=by
  rintro⟨cz,cQ⟩ ⟨dj,dO⟩ h;simp only[bs,Data.int.injEq,Data.agg.injEq,Data.ay.injEq,Data.bool.injEq,Data.str.injEq,Data.ptr.injEq,Data.de.injEq,ei,true_and,and_true] at h ⊢
  first|exact h|simpa [HJ,and_assoc] using h|grind
@[go_sem] def ayw (a b):=tS HK rfl Mc (a,b) rfl
def akD (T:bl)(akE:T LW=aT Ma):WF T Y6 HK:=by
 refine cq λ(a,b)=>⟨rfl,cr ?_⟩;simp only[Y6,vO,b8];refine an ?_;repeat' (intro h<;>simp only[h,go_sem,go_sem_proc,akE]<;>try refine aj ?_ ?_)
 all_goals simp only[gH, *,reduceIte,dT,dY,pF,m0,oG,l2,rp,gy,h2,e1,df,beq_self_eq_true,bne]
def xK:List Int->Int
 | []=>0
 |d::r=>if (d==0)=true then xK r else d
def Md:=b1 vL λ(l:List Int)=>cu (D l<=1000000) (.same (.int .i64 (xK l)))
@[go_sem] def akF (l):=cL Md rfl L7 l rfl
def akG (T:bl):WF T Y7 Md:=by
 refine cq λl=>cR λZ=>⟨rfl,cr ?_⟩;simp only[Y7,vL,b8];simp only[go_sem,go_sem_proc,az];repeat' (first|refine aj ?_ ?_|fail)<;>intro h<;>simp only[h,go_sem,go_sem_proc,az]
 refine dM [3,6,7] [] (λi tm mem=>0<=i/\i<=(D l:Int)/\xK l=xK (l.drop i.toNat)/\tm 8=.L (.int .i64 i)) (λi=>(D l-i).toNat) 0 (by refine⟨by omega,by omega,by simp,by simp[go_sem]⟩) ?_;intro vs ms a7 aY;simp only[go_sem,go_sem_proc] at a7 aY;subst a7 aY;rintro i tm mem Q-⟨tY,O,ao,ct⟩;simp only[go_sem,go_sem_proc,bs] at Q;obtain⟨ad,bD,bL⟩:=Q;rcases eC (i<D l) with au|bO
 ·obtain⟨x,J,ae,-⟩:=Yr l i tY au;simp only[go_sem,go_sem_proc,ad,bD,bL,ct,J,au,tY,aH,az,bG,decide_true,bs];repeat' (first|refine aj ?_ ?_|fail)<;>intro h<;>simp only[h,go_sem,go_sem_proc,ad,bD,bL,ct,J,au,tY,aH,az,bG,decide_true,bs]
  ·rw[ao,ae];simp[xK,h]
  ·exact⟨i+1,by omega,by omega,by omega,by rw[ao,ae];simp only[xK, *,reduceIte,dT,dY,pF,m0,oG,l2,rp,gy,h2,e1,df,beq_self_eq_true,bne],by rw[fg _]⟩
 ·have he:l.drop i.toNat=[]:=lq (by omega);simp only[go_sem,go_sem_proc,ad,bD,bL,ct,bO,decide_false];repeat' (first|refine aj ?_ ?_|fail)<;>intro h<;>simp only[h,go_sem,go_sem_proc,ad,bD,bL,ct,bO,decide_false]
  rw[ao,he];rfl
def RN (l:List Int):((l.map aH).all λe=>D e==1)=true:=by simp[aH]
def zg:=b1 vL λ(l:List Int)=>cu (D l<=1000000) (.own 1 (l.map aH))
@[go_sem] def akH (l):=cL zg rfl L7 l rfl
def akI (T:bl):WF T Ze zg:=by
 refine cq λl=>cR λZ=>⟨rfl,cr ?_⟩;simp only[Ze,vL,b8]
 have dS:mw 156005 0 1 0 8 (D l) ((l.map aH).flatten.map .L) (some (0,[]))=some (.ref 156005 1 1 0 (D l),some (156005,1,a6 aH l)):=by
  have:=DB iO vG 156005 0 8 [] l (by simp;omega) (by simp;omega)
  simpa [a6] using this
 have hlen:(a6 aH l).length=D l:=by rw[mA iO];omega
 refine an ?_;repeat' (intro h<;>simp only[h,go_sem,go_sem_proc,RN,dS,az]<;>try refine aj ?_ ?_)
 rintro b U
 cases b
 ·refine an ?_;repeat' (intro h<;>simp only[h,go_sem,go_sem_proc,RN,dS,az,ql,dE,hlen]<;>try refine aj ?_ ?_)
  rw[aq (by omega),dz (by omega)];unfold a6;rw[AS _ λd=>rfl];have:=AT (sz:=1) (l.map aH) (by simp[aH]);rw[az] at this;simp[this]
 ·cases l with
  |nil =>
       refine an ?_;repeat' (intro h<;>simp only[h,go_sem,go_sem_proc,ql,cl]<;>try refine aj ?_ ?_)
  |cons x r=>simp at U
abbrev Raw:=Int×List Int
def c0 (a:Raw):List Data:=[.int .i64 a.1,.ay (a.2.map aH)]
def mE (d:Int):Bool:=!decide (d<0) && !decide (d>1048575)
def cx (a:Raw):Bool:=a.2.all mE&&(if (a.2.length==0)=true then a.1==0 else ((a.1==1||a.1 == -1)&&decide (a.2.length<=60)&&(a.2.getLast? != some 0)))
abbrev oL:Int×(List Int)->List Data:=λ(s,l)=>[.agg [.int .i64 s,.ay (l.map aH)]]
def sM:=b1 oL λ(s,l)=>cu (D l<=1000000) (.same (.bool (cx (s,l))))
def Be:∀a b,oL a=oL b->a=b:=by
  rintro⟨s1,ig⟩ ⟨s2,ab⟩ h;simp only[bs,Data.agg.injEq,Data.int.injEq,Data.ay.injEq] at h;exact cy h.1.1.2 (map_inj fi _ _ h.1.2.1)
@[go_sem] def ayx (s l):=cL sM rfl Be (s,l) rfl
def akJ (T:bl):WF T YP sM:=by
 refine cq λ(s,l)=>cR λZ=>⟨rfl,cr ?_⟩;simp only[YP,oL,b8];refine an ?_;repeat' (intro h<;>simp only[h,go_sem,go_sem_proc,az]<;>try refine aj ?_ ?_)
 refine dM [1,3,10,11] [136001] (λi tm mem=>0<=i/\i<=(D l:Int)/\l.all mE=(l.drop i.toNat).all mE/\tm 12=.L (.int .i64 i)) (λi=>(D l-i).toNat) 0 (by refine⟨by omega,by omega,by simp,by simp[go_sem]⟩) ?_;intro vs ms a7 aY;simp only[go_sem,go_sem_proc,az] at a7 aY;subst a7 aY;rintro i tm mem Q hm ⟨tY,O,ao,oM⟩;simp only[go_sem,go_sem_proc,bs] at Q hm;obtain⟨E,ad,kA,nx⟩:=Q;rcases eC (i<D l) with au|bO
 ·obtain⟨x,J,ae,-⟩:=Yr l i tY au
  have kX:∀b,mE x=true->b=(l.drop (i+1).toNat).all mE->l.all mE=b:=by
   intro b E G;rw[ao,ae,Dw,E,G,gy]
  have jT:mE x=false->cx (s,l)=false:=by
   intro E;unfold cx;rw[ao,ae,Dw,E]
   rfl
  refine an ?_;repeat' (intro h<;>simp only[h,go_sem,go_sem_proc,E,ad,kA,nx,oM,hm,J,au,tY,aH,az,bG,decide_true,bs]<;>try refine aj ?_ ?_)
  ·rw[jT (by simp only[mE, *,reduceIte,dT,dY,pF,m0,oG,l2,rp,gy,h2,e1,df,beq_self_eq_true,bne])]
  ·exact⟨i+1,by omega,by omega,by omega,by refine kX _ ?_ rfl;simp only[mE, *,reduceIte,dT,dY,pF,m0,oG,l2,rp,gy,h2,e1,df,beq_self_eq_true,bne],by rw[fg _]⟩
  ·rw[jT (by simp only[mE, *,reduceIte,dT,dY,pF,m0,oG,l2,rp,gy,h2,e1,df,beq_self_eq_true,bne])]
 ·have he:l.drop i.toNat=[]:=lq (by omega);rw[he] at ao;have dQ:l.all mE=true:=by rw[ao];rfl
  rcases Q4 l with rfl|⟨r,x,rfl⟩
  ·have akK:¬ i<(0:Int):=by simpa using bO
   refine an ?_;repeat' (intro h<;>simp only[h,go_sem,go_sem_proc,E,ad,kA,nx,oM,hm,akK,decide_false,lD,nw,n2,beq_self_eq_true]<;>try refine aj ?_ ?_)
   simp[cx]
  ·rw[Q5] at *;have bc:(((r++[x]).length:Int)==0)=false:=by simp;omega
   have hw:IntKind.i64.wrap (((r++[x]).length:Int)-1)=(D r:Int):=by
    have bq:(r++[x]).length=D r+1:=by simp
    rw[fg _];omega
   have aC:((r++[x]).map aH)[D r]?=some [.int .i64 x]:=by simp[aH]
   have M:cx (s,r++[x])=((s==1||s == -1)&&decide (((r++[x]).length:Int)<=60)&&(x != 0)):=by
    unfold cx;rw[dQ];simp only[List.getLast?_append,List.getLast?_singleton];simp;have aL:decide (D r<=59)=decide ((D r:Int)+1<=60):=decide_eq_decide.2 (by omega);have ax:(some x != some (0:Int))=(x != 0):=by simp[bne]
    rw[aL,ax]
   rw[M];refine an ?_;repeat' (intro h<;>simp only[h,go_sem,go_sem_proc,E,ad,kA,nx,oM,hm,bO,bc,hw,aC,decide_false,az]<;>try refine aj ?_ ?_)
   all_goals simp only[*,reduceIte,dT,dY,pF,m0,oG,l2,rp,gy,h2,e1,df,beq_self_eq_true,bne]
def jk (s:Int)(l:List Int):Raw:=if (((fh l).length:Int)==0)=true then (0,[]) else (s,fh l)
abbrev DQ:Int×(List Int)->List Data:=λ(s,l)=>[.int .i64 s,.ay (l.map aH)]
def xL:=b1 DQ λ(s,l)=>cu (D l<=1000000) (.same (.agg (c0 (jk s l))))
def Zk:∀a b,DQ a=DQ b->a=b:=by
  rintro⟨s1,ig⟩ ⟨s2,ab⟩ h;simp only[bs,Data.int.injEq,Data.ay.injEq] at h;exact cy h.1.2 (map_inj fi _ _ h.2.1)
@[go_sem] def ayy (s l):=cL xL rfl Zk (s,l) rfl
def akL (T:bl)(eT:T oJ=xA vM sL):WF T YY xL:=by
 refine cq λ(s,l)=>cR λZ=>⟨rfl,cr ?_⟩;simp only[YY,DQ,b8];refine an ?_;repeat' (intro h<;>simp only[h,go_sem,go_sem_proc,eT,Z,az]<;>try refine aj ?_ ?_)
 all_goals simp only[jk,c0,cl, *,reduceIte,dT,dY,pF,m0,oG,l2,rp,gy,h2,e1,df,beq_self_eq_true,bne]
def kd (l:List Int)(i:Nat)(h:i<D l):aW (l.take (i+1))=aW (l.take i)+1048576^i*l[i]:=by
 rw[jj,bB h,AZ,hf,mS (by omega)];simp[aW]
def xM {l:List Int}(h:ec l)(i:Nat):ec (l.take i):=λd ae=>h d (Aw ae)
def Zl {l:List Int}(i:Nat)(O:i<D l):ec (l.take (i+1))↔ec (l.take i)/\(0<=l[i]/\l[i]<1048576):=by
 rw[jj,bB O,AY];simp[AX,ec]
def ke {l:List Int}(h:ec l)(i:Nat)(O:i<D l):0<=l[i]/\l[i]<1048576:=h _ (kT O)
def Bf (o:List Int)(i:Nat)(d:Int):(o.set i d).take i=o.take i:=by
 rw[List.take_set,List.set_eq_of_length_le];rw[hf];omega
def oN (o:List Int):(a6 aH o).length=D o:=by rw[mA iO];omega
def HL (o:List Int)(i:Nat)(h:i<D o):oK 1 (pK i (a6 aH o))=[.L (.int .i64 o[i])]:=by
 have vp:=Hf iO (bB h) (f:=0) (n:=1) (by omega);unfold cut at vp;have:=oN o;rw[dE,kv,aq (by omega)] at vp
 simpa [aH] using vp
def vP (o:List Int)(i:Nat)(d:Int)(h:i<D o):oK i (a6 aH o)++[.L (.int .i64 d)]++pK (i+1) (a6 aH o)=a6 aH (o.set i d):=by
 have:=QQ iO h d;unfold jJ at this
 simpa [aH] using this
def DR (n:Nat):(cK n [I.L (.int .i64 0)]).flatten=a6 aH (cK n 0):=by
 induction n with
 |zero=>rfl
 |succ n aF=>rw[pw,pw,lj,tR,aF];rfl
def DS (n:Nat)(h:n<=1000000000):n<=maxLen:=cN h (by decide)
def Zm (l:List Int):(fh l).length<=D l:=by
 induction l with
 |nil=>simp[fh]
 |cons d r aF=>unfold fh;split<;>(try split)<;>simp<;>omega
def akM (l:List Int):l.take (fh l).length=fh l:=by
 induction l with
 |nil=>simp[fh]
 |cons d r aF =>
  unfold fh
  split
  ·split<;>simp
  ·simp[aF]
def akN (l:List Int):∀n:Nat,(a6 aH l).take n=a6 aH (l.take n):=by
 induction l with
 |nil=>intro n;simp[a6]
 |cons d r aF=>intro n;cases n with
  |zero=>simp[a6]
  |succ n=>rw[tR,QJ,tR,<-aF];rfl
def Zn {mem:Mem}{k g n:Nat}{o:List Int}(hm:mem k=some (g,a6 aH o))(aE:n<=D o):ql 1 mem (.ref k g 1 0 n)=some ((o.take n).map aH):=by
 unfold ql;dsimp only;rw[hm];simp only[and_self,if_true,dE];rw[oN,aq ⟨trivial,aE⟩,akN];unfold a6;rw[AS _ λd=>rfl];have:=AT (sz:=1) ((o.take n).map aH) (by intro e he;rw[h3] at he;obtain⟨x,-,rfl⟩:=he;rfl);rw[az,hf,mS aE] at this;simp only[kx,this]
def RO {mem:Mem}{k g:Nat}{o:List Int}{n:Nat}(hm:mem k=some (g,a6 aH o))(ae:ec o)(ai:aW o=n):ql 1 mem (.ref k g 1 0 (fh o).length)=some ((aG n).map aH):=by
 rw[Zn hm (Zm o),akM,xD ae,ai]
 rfl
def c4 (n:Nat):Data:=.ay ((aG n).map aH)
def Zo {x y:Nat}(h:(aG x).length<(aG y).length):x<y:=by
 have E:=(fw (n:=x) (k:=(aG x).length)).1 (bM _);have G:=mt (fw (n:=y) (k:=(aG x).length)).2 (by omega);omega
def Zp {a b:List Int}(a5:ec a)(U:ec b)(af:(D a)=D b)(i:Nat)(O:i<D a)(ae:a.drop (i+1)=b.drop (i+1))(h:a[i]<b[i]):aW a<aW b:=by
 rw[Hp a (i+1),Hp b (i+1),ae,af,kd a i O,kd b i (by omega)];have E:=xC (xM a5 i);have G:=nt (xM U i);rw[hf,mS (by omega)] at E;generalize (1048576:Int)^i=p at *
 have ad:p*a[i]+p<=p*b[i]:=by
  have:p*(a[i]+1)<=p*b[i]:=xN (by omega) (by have:=nt (xM a5 i);omega);rw[hx,rE] at this;exact this
 omega
abbrev lH:Nat×Nat->List Data:=λ(x,y)=>[c4 x,c4 y]
def DT:=b1 lH λ(x,y)=>cu ((aG x).length<=1000000/\(aG y).length<=1000000) (.same (.int .i64 (gH x y)))
def vQ:∀a b,lH a=lH b->a=b:=by
  rintro⟨e9,oO⟩ ⟨fy,qv⟩ h;simp only[bs,c4,Data.ay.injEq] at h;exact cy (Ho (map_inj fi _ _ h.1)) (Ho (map_inj fi _ _ h.2.1))
@[go_sem] def RP (x y):=cL DT rfl vQ (x,y) rfl
def akO (T:bl)(sN:T DM=aT HK):WF T Y4 DT:=by
 refine cq λ(x,y)=>cR λZ=>⟨rfl,cr ?_⟩;simp only[Y4,lH,b8];obtain⟨J,ag⟩:=Z;have rF:=lF x;have pL:=lF y;have tZ:=kB x;have Bg:=kB y;have Ye:=@Zo x y;have kU:=@Zo y x
 by_cases af:(aG x).length=(aG y).length
 ·generalize a5:aG x=a at *;generalize U:aG y=b at *;have RQ:((D a:Int)==(D b:Int))=true:=by simp[af]
  simp only[go_sem,go_sem_proc,sN,c4,a5,U,RQ,az];refine dM [0,1] [] (λ(n:Nat) tm mem=>n<=D a/\a.drop n=b.drop n/\tm 5=.L (.int .i64 ((n:Int)-1))) (λn=>n) (D a) (by refine⟨bM _,by rw[QW,af,QW],?_⟩;simp only[vd,reduceIte];rw[fg _]) ?_;intro vs ms a7 aY;simp only[go_sem,go_sem_proc,sN,c4,a5,U] at a7 aY;subst a7 aY;rintro n tm mem Q-⟨aE,ae,bp⟩;simp only[go_sem,go_sem_proc,sN,bs] at Q;obtain⟨al,E⟩:=Q;rcases n with _|n
  ·have e:a=b:=by simpa using ae
   have ky:(x:Int)=y:=by rw[<-tZ,<-Bg,e]
   refine an ?_;repeat' (intro (aw:_=_)<;>simp only[aw,go_sem,go_sem_proc,sN,al,E,bp,nw,n2,show ¬ ((0:Int)-1>=0) by omega,decide_false]<;>try refine aj ?_ ?_)
   rw[ky];simp[gH]
  ·have hw:((n+1:Nat):Int)-1=(n:Int):=by omega
   have oP:a[n]?=some a[n]:=bB (by omega);have oQ:b[n]?=some b[n]:=bB (by omega)
   have M:gH a[n] b[n]=gH x y\/a[n]=b[n]:=by
    by_cases E:a[n]<b[n]
    ·left
     have:=Zp rF pL af n aE ae E;simp only[gH];rw[aq (by simpa using E),aq (by simp;omega)]
    ·by_cases G:b[n]<a[n]
     ·left
      have:=Zp pL rF af.symm n (by omega) ae.symm G;simp only[gH];rw[ar (by simp;omega),aq (by simp;omega),ar (by simp;omega),aq (by simp;omega)]
     ·right;omega
   by_cases aQ:a[n]=b[n]
   ·refine an ?_;repeat' (intro (aw:_=_)<;>simp only[aw,go_sem,go_sem_proc,sN,al,E,bp,hw,oP,oQ,aQ,aH,show (n:Int)>=0 by omega,decide_true,bG,beq_self_eq_true,bs]<;>try refine aj ?_ ?_)
    exact⟨n,by omega,by omega,by rw[fY (by omega:n<D a),fY (by omega:n<D b),aQ,ae],by rw[fg _]⟩
   ·have sK:(a[n]==b[n])=false:=by simpa using aQ
    refine an ?_;repeat' (intro (aw:_=_)<;>simp only[aw,go_sem,go_sem_proc,sN,al,E,bp,hw,oP,oQ,sK,aH,show (n:Int)>=0 by omega,decide_true,bG,bs]<;>try refine aj ?_ ?_)
    rw[M.resolve_right aQ]
 ·have RQ:(((aG x).length:Int)==((aG y).length:Int))=false:=by simp;omega
  have M:gH (aG x).length (aG y).length=gH x y:=by
   simp only[gH];rcases fE (aG x).length (aG y).length with h|h
   ·have:=Ye h;rw[aq (by simp;omega),aq (by simp;omega)]
   ·have:=kU (by omega);rw[ar (by simp;omega),aq (by simp;omega),ar (by simp;omega),aq (by simp;omega)]
  refine an ?_;repeat' (intro (aw:_=_)<;>simp only[aw,go_sem,go_sem_proc,sN,c4,RQ,M,az]<;>try refine aj ?_ ?_)
def Zq (p ua sA qd c a b:Int)(h:ua+p*c=sA+qd):ua+p*((c+a+b)%1048576)+p*1048576*((c+a+b)/1048576)=sA+p*a+(qd+p*b):=by
 have E:=zh (c+a+b) 1048576
 have G:p*((c+a+b)%1048576)+p*1048576*((c+a+b)/1048576)=p*(c+a+b):=by
  rw[hy,<-hx,E]
 have ad:p*(c+a+b)=p*c+p*a+p*b:=by rw[hx,hx]
 omega
def HM:=b1 lH λ(x,y)=>cu ((aG x).length<=100000/\(aG y).length<=100000) (.own 1 ((aG (x+y)).map aH))
@[go_sem] def Zr (x y):=cL HM rfl vQ (x,y) rfl
def akP (T:bl)(eT:T oJ=xA vM sL):WF T Y2 HM:=by
 refine cq λ(x,y)=>cR λZ=>⟨rfl,cr ?_⟩;simp only[Y2,lH,b8];obtain⟨J,ag⟩:=Z;simp only[go_sem,go_sem_proc,eT,c4,az];refine ajT (λst=>∃a b:List Int,ec a/\ec b/\D a<=100000/\D b<=D a/\aW a+aW b=x+y/\st.tm 0=.L (.ay (a.map aH))/\st.tm 1=.L (.ay (b.map aH))/\st.mem 172019=none) (λh=>?_) (λh=>?_) ?_
 ·refine an ?_;repeat' (intro (aw:_=_)<;>simp only[aw,go_sem,go_sem_proc,eT,c4]<;>try refine aj ?_ ?_)
  refine⟨aG y,aG x,lF y,lF x,ag,?_,by rw[kB,kB];omega,rfl,rfl⟩
  simp at h;omega
 ·refine an ?_;repeat' (intro (aw:_=_)<;>simp only[aw,go_sem,go_sem_proc,eT,c4]<;>try refine aj ?_ ?_)
  refine⟨aG x,aG y,lF x,lF y,J,?_,by rw[kB,kB],rfl,rfl⟩
  simp at h;omega
 rintro⟨tm,mem⟩ ⟨a,b,RR,n3,mB,pM,ai,al,E,hm⟩;dsimp only at al E hm;have kf:IntKind.i64.wrap ((D a:Int)+1)=((D a+1:Nat):Int):=by rw[fg _];rfl
 have iA:8*(D a+1)<=140737488355328:=by omega
 have dm:(D a)+1<=maxLen:=DS _ (by omega);simp only[go_sem,go_sem_proc,eT,al,E,hm,kf,iA,dm,DR,az]
 refine dM [0,1,5,20,21] [] (λ(i,c,o) tm mem=>i<=D a/\(o:List Int).length=D a+1/\ec (o.take i)/\0<=c/\c<=1/\aW (o.take i)+1048576^i*c=aW (a.take i)+aW (b.take i)/\tm 22=.L (.int .i64 (i:Nat))/\tm 6=.L (.int .i64 c)/\mem 172019=some (0,a6 aH o))
  (λ(i,_)=>D a-i) (0,0,cK (D a+1) 0) (by refine⟨eL _,by simp,by simp[ec],by omega,by omega,by simp[aW],?_,?_,?_⟩<;>rfl) ?_
 intro vs ms a7 aY;simp only[go_sem,go_sem_proc,eT,al,E,az] at a7 aY;subst a7 aY;rintro⟨i,c,o⟩ tm mem Q-⟨O,aZ,hM,vR,iu,iL,RS,bD,hm⟩;simp only[go_sem,go_sem_proc,eT,bs] at Q;obtain⟨al,E,bp,pN,RT⟩:=Q;rcases eC (i<D a) with au|bO
 ·have oP:a[i]?=some a[i]:=bB au;have y6:=ke RR i au;have fI:IntKind.i64.wrap ((i:Int)+1)=((i+1:Nat):Int):=by rw[fg _];rfl
  have rG:i<D o:=by omega
  have kg:i+1<=(a6 aH o).length:=by rw[oN];omega
  have lI:IntKind.i64.wrap (c+a[i])=c+a[i]:=wrap64 _ (by omega) (by omega);have ix:=λd=>vP o i d rG
  have fin:∀bi:Int,0<=bi->bi<1048576->aW (b.take (i+1))=aW (b.take i)+1048576^i*bi ->
    ∃a0:Nat×Int×List Int,D a-a0.1<D a-i/\a0.1<=D a/\a0.2.2.length=D a+1/\ec (a0.2.2.take a0.1)/\0<=a0.2.1/\a0.2.1<=1/\aW (a0.2.2.take a0.1)+1048576^a0.1*a0.2.1=aW (a.take a0.1)+aW (b.take a0.1) /\
     I.L (Data.int .i64 ((i+1:Nat):Int))=I.L (Data.int .i64 (a0.1:Int))/\I.L (Data.int .i64 ((c+a[i]+bi)/1048576))=I.L (Data.int .i64 a0.2.1)/\some (0,a6 aH (o.set i ((c+a[i]+bi)%1048576)))=some (0,a6 aH a0.2.2):=by
   intro bi zi iA Bh;refine⟨(i+1,(c+a[i]+bi)/1048576,o.set i ((c+a[i]+bi)%1048576)),by dsimp only;omega,by dsimp only;omega,by simp[aZ],?_,by dsimp only;omega,by dsimp only;omega,?_,rfl,rfl,rfl⟩
   ·dsimp only;rw[Zl _ (by simpa using rG),Bf];refine⟨hM,?_⟩;simp only[xO];omega
   ·dsimp only;rw[kd _ _ (by simpa using rG),Bf,kd a i au,Bh,l3];simp only[xO];exact Zq _ _ _ _ _ _ _ iL
  rcases eC (i<D b) with pO|RU
  ·have oQ:b[i]?=some b[i]:=bB pO;have fU:=ke n3 i pO;have m3:IntKind.i64.wrap (c+a[i]+b[i])=c+a[i]+b[i]:=wrap64 _ (by omega) (by omega);have jl:decide ((i:Int)<(D b:Int))=true:=dW;have l4:decide ((i:Int)<(D a:Int))=true:=dW;refine an ?_;repeat' (intro (aw:_=_)<;>simp only[aw,go_sem,go_sem_proc,eT,al,E,bp,pN,RT,RS,bD,hm,oP,oQ,fI,lI,m3,jl,l4,au,kg,ix,xF,tT,aH,dE,az,bG,bs,show i<D a+1 by omega,show ¬ ((20:Int)<0) by omega]<;>try refine aj ?_ ?_)
   exact fin b[i] fU.1 fU.2 (kd b i pO)
  ·have jl:decide ((i:Int)<(D b:Int))=false:=ef;have l4:decide ((i:Int)<(D a:Int))=true:=dW;refine an ?_;repeat' (intro (aw:_=_)<;>simp only[aw,go_sem,go_sem_proc,eT,al,E,bp,pN,RT,RS,bD,hm,oP,fI,lI,jl,l4,au,kg,ix,xF,tT,aH,dE,az,bG,bs,show i<D a+1 by omega,show ¬ ((20:Int)<0) by omega]<;>try refine aj ?_ ?_)
   have:=fin 0 (by omega) (by omega) (by rw[dz (by omega),dz (by omega)];simp)
   simpa using this
 ·obtain rfl:i=D a:=by omega
  have l4:decide ((D a:Int)<(D a:Int))=false:=ef;have rG:(D a)<D o:=by omega
  have kg:(D a)+1<=(a6 aH o).length:=by rw[oN];omega
  have ix:=λd=>vP o (D a) d rG
  have RV:ec (o.set (D a) c):=by
   have:o.set (D a) c=(o.set (D a) c).take (D a+1):=by rw[dz (by simp[aZ])]
   rw[this,Zl _ (by simpa using rG),Bf];refine⟨hM,?_⟩;simp only[xO];omega
  have RW:aW (o.set (D a) c)=x+y:=by
   have:o.set (D a) c=(o.set (D a) c).take (D a+1):=by rw[dz (by simp[aZ])]
   rw[this,kd _ _ (by simpa using rG),Bf];simp only[xO];rw[iL,dz (bM _),dz pM,ai]
  have eS:=RM (o.set (D a) c) 172019 0 (aV mem 172019 0 (a6 aH (o.set (D a) c))) (by simp[aV]) (by simp[aZ];omega);rw[fN,aZ] at eS;have eA:=RO (mem:=aV mem 172019 0 (a6 aH (o.set (D a) c))) (k:=172019) (g:=0) (n:=x+y) (by simp[aV]) RV (by rw[RW];rfl);refine an ?_;repeat' (intro (aw:_=_)<;>simp only[aw,go_sem,go_sem_proc,eT,al,E,bp,pN,RT,RS,bD,hm,l4,kg,ix,eS,eA,dE,az,show (D a)<D a+1 by omega]<;>try refine aj ?_ ?_)
def Zs (n:Int):bits .and .i64 (n/1048576) 1=n/1048576%2:=by
 generalize n/1048576=m;have G:(1:Int)=((2^1-1:Nat):Int):=by decide
 have E:m%18446744073709551616%2=m%2:=by omega
 obtain⟨a,a5⟩:∃a:Nat,(a:Int)=m%18446744073709551616:=⟨(m%18446744073709551616).toNat,by omega⟩
 have e:BitVec.ofInt 64 m=BitVec.ofNat 64 a:=by
  apply BitVec.eq_of_toInt_eq;rw[BitVec.toInt_ofInt,BitVec.toInt_ofNat',a5];simp[YI,YJ]
 have ax:bits .and .i64 m 1=bits .and .i64 (a:Int) 1:=by
  simp only[bits];rw[show IntKind.i64.bits=64 from rfl,e,BitVec.ofInt_natCast]
 rw[ax,<-E,<-a5];have Q6:a<2^64:=by omega
 conv=>lhs;rw[G]
 simp only[bits,BitVec.ofInt_natCast,BitVec.toNat_and,BitVec.toNat_ofNat,show IntKind.i64.bits=64 from rfl,Hk Q6];rw[show (2^1-1:Nat)%2^64=2^1-1 by decide,YK,wrap64 _ (by omega) (by omega)]
 omega
def RX (o:List Int)(j:Nat)(d:Int)(h:j<D o):aW (o.set j d)=aW o+1048576^j*(d-o[j]):=by
 induction o generalizing j with
 |nil=>simp at h
 |cons x r aF =>
  cases j with
  |zero=>simp[aW];omega
  |succ j =>
   simp only[List.set_cons_succ,ru,List.getElem_cons_succ,l3];rw[aF j (by simpa using h),hx,<-hy,mC 1048576 (1048576^j)];omega
def xP {o:List Int}(h:ec o)(j:Nat){d:Int}(ae:0<=d/\d<1048576):ec (o.set j d):=by
 intro x J;rcases List.mem_or_eq_of_mem_set J with E|E
 ·exact h x E
 ·rw[E];exact ae
def akQ (p ua sA qd c a b:Int)(h:ua=sA-qd+p*c):ua+p*((a-c-b)%1048576)=sA+p*a-(qd+p*b)-p*1048576*((a-c-b)/1048576):=by
 have E:=zh (a-c-b) 1048576
 have G:p*((a-c-b)%1048576)+p*1048576*((a-c-b)/1048576)=p*(a-c-b):=by
  rw[hy,<-hx,E]
 have ad:p*(a-c-b)=p*a-p*c-p*b:=by rw[DU,DU]
 omega
def HN:=b1 lH λ(x,y)=>cu ((aG x).length<=100000/\y<=x) (.own 1 ((aG (x-y)).map aH))
@[go_sem] def RY (x y):=cL HN rfl vQ (x,y) rfl
def akR (T:bl)(g2:T vJ=aT zg)(eT:T oJ=xA vM sL):WF T Y3 HN:=by
 refine cq λ(x,y)=>cR λZ=>⟨rfl,cr ?_⟩;simp only[Y3,lH,b8];obtain⟨J,Zt⟩:=Z;have rF:=lF x;have pL:=lF y;have tZ:=kB x;have Bg:=kB y
 have kh:(aG y).length<=(aG x).length:=by
  rw[fw];exact vS Zt (fw.1 (bM _))
 generalize a5:aG x=a at *;generalize U:aG y=b at *;have mB:(D a)<=1000000:=by omega
 simp only[go_sem,go_sem_proc,g2,eT,c4,a5,U,mB,az]
 refine dM [1,5,12] [] (λ(i,c,o) tm mem=>i<=D a/\(o:List Int).length=D a/\ec o/\o.drop i=a.drop i/\(c=0\/c=1)/\aW (o.take i)=aW (a.take i)-aW (b.take i)+1048576^i*c/\tm 13=.L (.int .i64 (i:Nat))/\tm 6=.L (.int .i64 c)/\mem 173010=some (0,a6 aH o))
  (λ(i,_)=>D a-i) (0,0,a) (by refine⟨eL _,rfl,rF,rfl,.inl rfl,by simp[aW],?_,?_,?_⟩<;>rfl) ?_
 intro vs ms a7 aY;simp only[go_sem,go_sem_proc,g2,eT,c4,a5,U,az] at a7 aY;subst a7 aY;rintro⟨i,c,o⟩ tm mem Q-⟨O,aZ,hM,vT,akS,iL,l5,bD,hm⟩;simp only[go_sem,go_sem_proc,g2,eT,bs] at Q;obtain⟨E,bp,oM⟩:=Q;rcases eC (i<D a) with au|bO
 ·have rG:i<D o:=by omega
  have akT:o[i]=a[i]:=by
   have E:=fY rG;have G:=fY au;rw[vT,G] at E;exact (Bi E).1.symm
  have y6:=ke rF i au;have fI:IntKind.i64.wrap ((i:Int)+1)=((i+1:Nat):Int):=by rw[fg _];rfl
  have kg:i+1<=(a6 aH o).length:=by rw[oN];omega
  have m4:=HL o i rG;rw[akT] at m4;have lI:IntKind.i64.wrap (a[i]-c)=a[i]-c:=wrap64 _ (by omega) (by omega);have ix:=λd=>vP o i d rG
  have fin:∀bi:Int,0<=bi->bi<1048576->aW (b.take (i+1))=aW (b.take i)+1048576^i*bi ->
    ∃a0:Nat×Int×List Int,D a-a0.1<D a-i/\a0.1<=D a/\a0.2.2.length=D a/\ec a0.2.2/\a0.2.2.drop a0.1=a.drop a0.1/\(a0.2.1=0\/a0.2.1=1)/\aW (a0.2.2.take a0.1)=aW (a.take a0.1)-aW (b.take a0.1)+1048576^a0.1*a0.2.1 /\
     I.L (Data.int .i64 ((i+1:Nat):Int))=I.L (Data.int .i64 (a0.1:Int))/\I.L (Data.int .i64 ((a[i]-c-bi)/1048576%2))=I.L (Data.int .i64 a0.2.1)/\some (0,a6 aH (o.set i ((a[i]-c-bi)%1048576)))=some (0,a6 aH a0.2.2):=by
   intro bi zi iA Bh;have aM:(a[i]-c-bi)/1048576=0\/(a[i]-c-bi)/1048576 = -1:=by omega
   refine⟨(i+1,(a[i]-c-bi)/1048576%2,o.set i ((a[i]-c-bi)%1048576)),by dsimp only;omega,by dsimp only;omega,by simp[aZ],xP hM i (by omega),?_,by dsimp only;omega,?_,rfl,rfl,rfl⟩
   ·dsimp only;rw[ri (by omega)];have E:=fY rG;have G:=fY au;rw[vT,G] at E;exact (Bi E).2.symm
   ·dsimp only;rw[kd _ _ (by simpa using rG),Bf,kd a i au,Bh,l3];simp only[xO];rw[akQ _ _ _ _ _ _ _ iL];rcases aM with e|e<;>rw[e]<;>simp
  have l4:decide ((i:Int)<(D a:Int))=true:=dW;rcases eC (i<D b) with pO|RU
  ·have oQ:b[i]?=some b[i]:=bB pO;have fU:=ke pL i pO;have m3:IntKind.i64.wrap (a[i]-c-b[i])=a[i]-c-b[i]:=wrap64 _ (by omega) (by omega);have jl:decide ((i:Int)<(D b:Int))=true:=dW;refine an ?_;repeat' (intro h<;>simp only[h,go_sem,go_sem_proc,g2,eT,E,bp,oM,l5,bD,hm,oQ,fI,lI,m3,jl,l4,au,kg,m4,ix,xF,Zs,tT,aH,dE,az,bG,bs,show ¬ ((20:Int)<0) by omega]<;>try refine aj ?_ ?_)
   exact fin b[i] fU.1 fU.2 (kd b i pO)
  ·have jl:decide ((i:Int)<(D b:Int))=false:=ef;refine an ?_;repeat' (intro h<;>simp only[h,go_sem,go_sem_proc,g2,eT,E,bp,oM,l5,bD,hm,fI,lI,jl,l4,au,kg,m4,ix,xF,Zs,tT,aH,dE,az,bG,bs,show ¬ ((20:Int)<0) by omega]<;>try refine aj ?_ ?_)
   have:=fin 0 (by omega) (by omega) (by rw[dz (by omega),dz (by omega)];simp)
   simpa using this
 ·obtain rfl:i=D a:=by omega
  have l4:decide ((D a:Int)<(D a:Int))=false:=ef;rw[dz (by omega),dz (by omega),dz (by omega),tZ,Bg] at iL
  have RW:aW o=((x-y:Nat):Int):=by
   have E:=xC hM;rw[aZ] at E;rcases akS with rfl|rfl
   ·rw[iL];omega
   ·omega
  have eS:=RM o 173010 0 mem hm (by omega);rw[aZ] at eS;have eA:=RO hm hM RW;refine an ?_;repeat' (intro h<;>simp only[h,go_sem,go_sem_proc,g2,eT,E,bp,oM,l5,bD,hm,l4,eS,eA,az]<;>try refine aj ?_ ?_)
def Zu (p ua V c x y xQ:Int)(h:ua+p*c=V):ua+p*((xQ+x*y+c)%1048576-xQ)+p*1048576*((xQ+x*y+c)/1048576)=V+p*(x*y):=by
 have E:=zh (xQ+x*y+c) 1048576
 have G:p*((xQ+x*y+c)%1048576)+p*1048576*((xQ+x*y+c)/1048576)=p*(xQ+x*y+c):=by
  rw[hy,<-hx,E]
 have ad:p*(xQ+x*y+c)=p*xQ+p*(x*y)+p*c:=by rw[hx,hx]
 rw[DU];omega
def Zv {o x y c:Int}(aZ:0<=o/\o<1048576)(J:0<=x/\x<1048576)(ag:0<=y/\y<1048576)(Z:0<=c/\c<1048576):
  0<=x*y/\x*y<=1099509530625/\0<=(o+x*y+c)/1048576/\(o+x*y+c)/1048576<1048576:=by
 have E:0<=x*y:=zj J.1 ag.1;have G:x*y<=1048575*1048575:=RZ (by omega) (by omega) ag.1 (by omega);omega
def Zw {o:List Int}{n j:Nat}(h:o.drop n=cK (D o-n) 0)(aa:n<=j)(au:j<D o):o[j]=0:=by
 have E:(o.drop n)[j-n]?=some o[j]:=by rw[sC,show n+(j-n)=j by omega,bB au]
 rw[h,List.getElem?_replicate] at E
 split at E
 ·exact (mT E).symm
 ·cases E
def Zx {o:List Int}{n:Nat}{d:Int}(h:o.drop n=cK (D o-n) 0)(au:n<D o):(o.set n d).drop (n+1)=cK ((o.set n d).length-(n+1)) 0:=by
 rw[ri (by omega),fN];have E:=fY au;rw[h,show (D o)-n=(D o-(n+1))+1 by omega,pw] at E
 exact (Bi E).2.symm
def HO:=b1 lH λ(x,y)=>cu ((aG x).length<=10000/\(aG y).length<=10000) (.own 1 ((aG (x*y)).map aH))
@[go_sem] def R0 (x y):=cL HO rfl vQ (x,y) rfl
def akU (T:bl)(eT:T oJ=xA vM sL):WF T Y1 HO:=by
 refine cq λ(x,y)=>cR λZ=>⟨rfl,cr ?_⟩;simp only[Y1,lH,b8];obtain⟨J,ag⟩:=Z;have rF:=lF x;have pL:=lF y;have tZ:=kB x;have Bg:=kB y;generalize a5:aG x=a at *;generalize U:aG y=b at *;have kf:IntKind.i64.wrap ((D a:Int)+(D b:Int))=((D a+D b:Nat):Int):=by rw[fg _];rfl
 have iA:8*(D a+D b)<=140737488355328:=by omega
 have dm:(D a)+D b<=maxLen:=DS _ (by omega);simp only[go_sem,go_sem_proc,eT,c4,a5,U,kf,iA,dm,DR,az]
 refine dM [1,5,18,19] [] (λ(i,o) tm mem=>i<=D a/\(o:List Int).length=D a+D b/\ec o/\o.drop (i+D b)=cK (D o-(i+D b)) 0/\aW o=aW (a.take i)*y/\tm 20=.L (.int .i64 (i:Nat))/\mem 161017=some (0,a6 aH o))
  (λ(i,_)=>D a-i) (0,cK (D a+D b) 0) (by
   have aQ:∀n,aW (cK n 0)=0:=by
    intro n
    induction n with
    |zero=>rfl
    |succ n aF=>rw[pw,ru,aF];rfl
   refine⟨eL _,by simp,λd ae=>by rw[vU] at ae;omega,by simp,by rw[aQ];simp[aW],?_,?_⟩<;>rfl) ?_
 intro vs ms a7 aY;simp only[go_sem,go_sem_proc,eT,c4,a5,U,kf,az] at a7 aY;subst a7 aY;rintro⟨i,o⟩ tm mem Q-⟨O,aZ,hM,lY,iL,pN,hm⟩;simp only[go_sem,go_sem_proc,eT,bs] at Q;obtain⟨E,bp,l6,rH⟩:=Q;rcases eC (i<D a) with au|bO
 ·have oP:a[i]?=some a[i]:=bB au;have y6:=ke rF i au;have rk:=kd a i au;generalize a[i]=g3 at *;have jl:decide ((i:Int)<(D a:Int))=true:=dW;simp only[go_sem,go_sem_proc,eT,E,bp,l6,rH,pN,oP,jl,aH,az,bG,bs]
  refine dM [1,5,6,7,18,19,20,25,26] [] (λ((k,c,o):Nat×Int×List Int) tm mem=>k<=D b/\D o=D a+D b/\ec o/\o.drop (i+D b)=cK (D o-(i+D b)) 0/\0<=c/\c<1048576/\aW o+1048576^(i+k)*c=aW (a.take i)*y+1048576^i*(g3*aW (b.take k)) /\
    tm 27=.L (.int .i64 (k:Nat))/\tm 8=.L (.int .i64 c)/\mem 161017=some (0,a6 aH o))
   (λ(k,_)=>D b-k) (0,0,o) (by refine⟨eL _,aZ,hM,lY,by omega,by omega,by simp[aW,iL],?_,?_,hm⟩<;>rfl) ?_
  intro vs ms a7 aY;simp only[go_sem,go_sem_proc,eT,E,bp,l6,rH,pN,aH,az] at a7 aY;subst a7 aY;rintro⟨k,c,o⟩ tm mem Q-⟨vx,aZ,hM,lY,vR,iu,iL,Bj,ct,hm⟩;simp only[go_sem,go_sem_proc,eT,bs] at Q;obtain⟨E,bp,bD,bL,l6,rH,pN,Zy,Zz⟩:=Q;rcases eC (k<D b) with HP|HP
  ·have oQ:b[k]?=some b[k]:=bB HP;have DV:=ke pL k HP;have n4:i+k<D o:=by omega
   have R1:=ke hM (i+k) n4;obtain⟨ba,bJ,dD,h5⟩:=Zv R1 y6 DV ⟨vR,iu⟩;have jl:decide ((k:Int)<(D b:Int))=true:=dW;have fI:IntKind.i64.wrap ((k:Int)+1)=((k+1:Nat):Int):=by rw[fg _];rfl
   have lI:IntKind.i64.wrap ((i:Int)+(k:Int))=((i+k:Nat):Int):=by rw[fg _];rfl
   have m3:IntKind.i64.wrap (g3*b[k])=g3*b[k]:=wrap64 _ (by omega) (by omega);have DW:IntKind.i64.wrap (o[i+k]+g3*b[k])=o[i+k]+g3*b[k]:=wrap64 _ (by omega) (by omega);have zk:IntKind.i64.wrap (o[i+k]+g3*b[k]+c)=o[i+k]+g3*b[k]+c:=wrap64 _ (by omega) (by omega);have kg:i+k+1<=(a6 aH o).length:=by rw[oN];omega
   have m4:=HL o (i+k) n4;have ix:=λd=>vP o (i+k) d n4;have iv:i+k<D a+D b:=by omega
   refine an ?_;repeat' (intro h<;>simp only[h,go_sem,go_sem_proc,eT,E,bp,bD,bL,l6,rH,pN,Zy,Zz,Bj,ct,hm,oQ,jl,fI,lI,m3,DW,zk,iv,kg,m4,ix,xF,tT,aH,dE,az,bG,bs,show ¬ ((20:Int)<0) by omega]<;>try refine aj ?_ ?_)
   refine⟨(k+1,(o[i+k]+g3*b[k]+c)/1048576,o.set (i+k) ((o[i+k]+g3*b[k]+c)%1048576)),by dsimp only;omega,by dsimp only;omega,by simp[aZ],xP hM _ (by omega),?_,dD,h5,?_,rfl,rfl,rfl⟩
   ·dsimp only;rw[ri (by omega),fN,lY]
   ·dsimp only;rw[RX _ _ _ n4,kd b k HP,<-q7,l3,Zu _ _ _ _ _ _ _ iL];rw[hx (g3),hx (1048576^i),ZA]
    have:(1048576:Int)^i*(g3*(1048576^k*b[k]))=1048576^i*1048576^k*(g3*b[k]):=by
     rw[<-hy (g3),mC (g3) (1048576^k),hy (1048576^k),<-hy]
    omega
  ·obtain rfl:k=D b:=by omega
   have jl:decide ((D b:Int)<(D b:Int))=false:=ef;have n4:i+D b<D o:=by omega
   have aQ:=Zw lY (bM _) n4;have fI:IntKind.i64.wrap ((i:Int)+1)=((i+1:Nat):Int):=by rw[fg _];rfl
   have lI:IntKind.i64.wrap ((i:Int)+(D b:Int))=((i+D b:Nat):Int):=by rw[fg _];rfl
   have m3:IntKind.i64.wrap (0+c)=c:=by rw[R2];exact wrap64 _ (by omega) (by omega)
   have kg:i+D b+1<=(a6 aH o).length:=by rw[oN];omega
   have m4:=HL o (i+D b) n4;rw[aQ] at m4;have ix:=λd=>vP o (i+D b) d n4;have iv:i+D b<D a+D b:=by omega
   refine an ?_;repeat' (intro h<;>simp only[h,go_sem,go_sem_proc,eT,E,bp,bD,bL,l6,rH,pN,Zy,Zz,Bj,ct,hm,jl,fI,lI,m3,iv,kg,m4,ix,aH,dE,az]<;>try refine aj ?_ ?_)
   refine⟨(i+1,o.set (i+D b) c),by dsimp only;omega,by dsimp only;omega,by simp[aZ],xP hM _ ⟨vR,iu⟩,?_,?_,rfl,rfl⟩
   ·dsimp only;have:=Zx (d:=c) lY n4;rwa [show i+D b+1=i+1+(D b) by omega] at this
   ·dsimp only;rw[RX _ _ _ n4,aQ,rk];rw[dz (bM _),Bg] at iL;rw[HQ,iL,rI,hy]
 ·obtain rfl:i=D a:=by omega
  have jl:decide ((D a:Int)<(D a:Int))=false:=ef;rw[dz (bM _),tZ] at iL;have eS:=RM o 161017 0 mem hm (by omega);rw[aZ] at eS;have eA:=RO hm hM (n:=x*y) (by rw[iL];rfl);refine an ?_;repeat' (intro h<;>simp only[h,go_sem,go_sem_proc,eT,E,bp,l6,rH,pN,hm,jl,eS,eA,az]<;>try refine aj ?_ ?_)
abbrev Me:Nat×Int->List Data:=λ(x,d)=>[c4 x,.int .i64 d]
def Mf:=b1 Me λ(x,d)=>cu ((aG x).length<=100000/\0<d/\d<1048576) (.same (.de [c4 (x/d.toNat),.int .i64 (x%d.toNat:Nat)]))
def akV:∀a b,Me a=Me b->a=b:=by
  rintro⟨e9,d1⟩ ⟨fy,d2⟩ h;simp only[bs,c4,Data.ay.injEq,Data.int.injEq] at h;exact cy (Ho (map_inj fi _ _ h.1)) h.2.1.2
@[go_sem] def ZB (x d):=cL Mf rfl akV (x,d) rfl
def akW (T:bl)(eT:T oJ=xA vM sL):WF T Y5 Mf:=by
 refine cq λ(x,d)=>cR λZ=>⟨rfl,cr ?_⟩;simp only[Y5,Me,b8];obtain⟨J,vV,jm⟩:=Z;have rF:=lF x;have tZ:=kB x;generalize a5:aG x=a at *;have iA:8*D a<=140737488355328:=by omega
 have dm:(D a)<=maxLen:=DS _ (by omega);have jn:(d=0)=False:=by simp;omega
 simp only[go_sem,go_sem_proc,eT,c4,a5,iA,dm,DR,az]
 refine dM [0,1,6] [] (λ((n,r,o):Nat×Int×List Int) tm mem=>n<=D a/\D o=D a/\ec o/\0<=r/\r<d/\aW (a.drop n)=d*aW (o.drop n)+r/\tm 8=.L (.int .i64 ((n:Nat)-1))/\tm 7=.L (.int .i64 r)/\mem 176011=some (0,a6 aH o))
  (λ(n,_)=>n) (D a,0,cK (D a) 0) (by
   refine⟨bM _,by simp,λd ae=>by rw[vU] at ae;omega,by omega,by omega,by simp[aW],?_,?_,?_⟩
   ·simp only[vd,reduceIte];rw[fg _]
   ·rfl
   ·rfl) ?_
 intro vs ms a7 aY;simp only[go_sem,go_sem_proc,eT,c4,a5,az] at a7 aY;subst a7 aY;rintro⟨n,r,o⟩ tm mem Q-⟨aE,aZ,hM,rJ,mF,ai,ct,bL,hm⟩;simp only[go_sem,go_sem_proc,eT,bs] at Q;obtain⟨al,E,bD⟩:=Q;rcases n with _|n
 ·have aM:aW o=(x/d.toNat:Nat)/\r=(x%d.toNat:Nat):=by
   rw[oF,oF,tZ] at ai;have e:(d.toNat:Int)=d:=by omega
   constructor
   ·rw[ZC,e,ai,vW,ZD _ _ (by omega),R3 rJ mF];omega
   ·rw[ZE,e,ai,vW,ZF,R4 rJ mF]
  have eB:=L8 o (by omega);rw[xD hM,aM.1] at eB;have fZ:I.ref 176011 0 1 0 (D a)=I.ref 176011 0 1 0 (D o):=by rw[aZ]
  rw[fZ] at bD;refine an ?_;repeat' (intro h<;>simp only[h,go_sem,go_sem_proc,eT,al,E,bD,bL,ct,hm,eB,xy iO,nw,n2,show ¬ ((0:Int)-1>=0) by omega,decide_false,pJ]<;>try refine aj ?_ ?_)
  all_goals rw[aM.2]
 ·have oP:a[n]?=some a[n]:=bB (by omega);have DX:=ke rF n (by omega);have hw:((n+1:Nat):Int)-1=(n:Int):=by omega
  have kz:n<D o:=by omega
  have fI:IntKind.i64.wrap (r*2^min (A1 20) 64)=r*1048576:=by
   rw[show min (A1 20) 64=20 by decide]
   exact wrap64 _ (by omega) (by omega)
  have sO:bits .or .i64 (r*1048576) a[n]=r*1048576+a[n]:=Q7 r a[n] rJ (by omega) DX;have kY:0<=(r*1048576+a[n])/d:=R5 (by omega) (by omega)
  have sP:(r*1048576+a[n])/d<1048576:=ZG vV (by
   have:(r+1)*1048576<=d*1048576:=lJ (by omega) (by omega);rw[mC 1048576 d];omega)
  have zl:(r*1048576+a[n]).tdiv d=(r*1048576+a[n])/d:=DY (by omega);have R6:(r*1048576+a[n]).tmod d=(r*1048576+a[n])%d:=HR (by omega);have lI:IntKind.i64.wrap ((r*1048576+a[n])/d)=(r*1048576+a[n])/d:=wrap64 _ (by omega) (by omega);have kg:n+1<=(a6 aH o).length:=by rw[oN];omega
  have ix:=λd=>vP o n d kz;have mW:n<D a:=by omega
  have m3:IntKind.i64.wrap ((n:Int)-1)=(n:Int)-1:=wrap64 _ (by omega) (by omega);refine an ?_;repeat' (intro h<;>simp only[h,go_sem,go_sem_proc,eT,al,E,bD,bL,ct,hm,hw,oP,fI,sO,zl,R6,lI,m3,jn,mW,kg,ix,show (n:Int)>=0 by omega,decide_true,aH,dE,az,bG,bs,show ¬ ((20:Int)<0) by omega]<;>try refine aj ?_ ?_)
  refine⟨(n,(r*1048576+a[n])%d,o.set n ((r*1048576+a[n])/d)),by dsimp only;omega,by dsimp only;omega,by simp[aZ],xP hM n ⟨kY,sP⟩,R7 _ (by omega),R8 _ vV,?_,rfl,rfl,rfl⟩
  dsimp only;rw[fY (by omega:n<D a),fY (by simpa using kz:n<(o.set n ((r*1048576+a[n])/d)).length),ru,ru]
  simp only[xO];rw[ri (by omega),ai];have:=zh (r*1048576+a[n]) d;rw[hx,hx,R9 d 1048576];omega
def pad:Nat->Nat->List Int
 |0,_=>[]
 |n+1,x=>((x%1048576:Nat):Int)::pad n (x/1048576)
def akX (n x:Nat):(pad n x).length=n:=by
 induction n generalizing x with
 |zero=>rfl
 |succ n aF=>simp[pad,aF]
def akY (n x:Nat):ec (pad n x):=by
 induction n generalizing x with
 |zero=>intro d ae;cases ae
 |succ n aF =>
  unfold pad;rw[AX];exact⟨by omega,aF _⟩
def ZH {l:List Int}(h:ec l):l=pad (D l) (aW l).toNat:=by
 induction l with
 |nil=>rfl
 |cons d r aF =>
  rw[AX] at h;have E:=nt h.2;have G:=aF h.2;simp only[jG,pad,ru]
  congr 1
  ·omega
  ·rw[show (d+1048576*aW r).toNat/1048576=(aW r).toNat by omega]
   exact G
def akZ {n x:Nat}(h:x<1048576^n):aW (pad n x)=x:=by
 induction n generalizing x with
 |zero=>simp at h;subst h;rfl
 |succ n aF =>
  unfold pad;rw[ru,aF (by rw[YH (by omega)];rwa [rv] at h)];omega
def HS {pre u post:List Int}{i:Nat}(h:i<D u):oK 1 (pK (D pre+i) (a6 aH (pre++u++post)))=[.L (.int .i64 u[i])]:=by
 rw[HL _ _ (by simp;omega)]
 congr 3
 simp[List.getElem_append,h]
def ZI {pre u post:List Int}{i:Nat}(h:i<D u)(d:Int):oK (D pre+i) (a6 aH (pre++u++post))++[.L (.int .i64 d)]++pK (D pre+i+1) (a6 aH (pre++u++post))=a6 aH (pre++u.set i d++post):=by
 rw[vP _ _ _ (by simp;omega)]
 congr 1
 rw[hh,List.set_append_right _ _ (by omega),DC,List.set_append_left _ _ h,hh]
def Mg (mem:Mem)(k g cf:Nat)(a b:List I):aV (aV mem k g a) k cf b=aV mem k cf b:=by
 funext j
 unfold aV
 split<;>rfl
def ak0 {mem:Mem}{k g:Nat}{a:List I}(h:mem k=some (g,a)):aV mem k g a=mem:=by
 funext j
 unfold aV
 split
 ·rename_i e;rw[e,h]
 ·rfl
structure HT where
 pre:List Int
 u:List Int
 post:List Int
 V:Nat
 q:Int
 k:Key
 g:Nat
def Mh (u:List Int)(V:Nat)(q:Int):Int:=if aW u-q*V<0 then aW u-q*V+V else aW u-q*V
def zm (u:List Int)(V:Nat)(q:Int):Int:=if aW u-q*V<0 then q-1 else q
def zn (a:HT):List I:=a6 aH (a.pre++pad (D a.u) (Mh a.u a.V a.q).toNat++a.post)
def Sa (a:HT)(mem:Mem):Prop:=mem a.k=some (a.g,a6 aH (a.pre++a.u++a.post))/\ec a.u/\(aG a.V).length<=D a.u/\0<=a.q/\a.q<1048576/\0<=aW a.u-a.q*a.V+a.V/\D a.pre+D a.u<=100000
def HU:List I->Mem->Option (I×Mem):=DE (λ(a:HT) args mem=>args=[.ref a.k a.g 1 (D a.pre) (D a.u),.L (c4 a.V),.L (.int .i64 a.q)]/\Sa a mem)
 (λa mem=>(.L (.int .i64 (zm a.u a.V a.q)),aV mem a.k a.g (zn a)))
def ak1 {a b:Nat}(h:c4 a=c4 b):a=b:=Ho (map_inj fi _ _ (by simpa [c4] using h))
def ak2 (a:HT)(mem:Mem)(h:Sa a mem):HU [.ref a.k a.g 1 (D a.pre) (D a.u),.L (c4 a.V),.L (.int .i64 a.q)] mem=some (.L (.int .i64 (zm a.u a.V a.q)),aV mem a.k a.g (zn a)):=by
 unfold HU;refine YC (a:=a) ?_ ⟨rfl,h⟩;rintro a b args mem ⟨E,G,_⟩ ⟨ad,aK,_⟩;rw[E] at ad;simp only[bs,I.ref.injEq,I.L.injEq,Data.int.injEq,true_and,and_true] at ad;obtain⟨⟨HI,L9,ZJ,ZK⟩,ZL,eq⟩:=ad;have ZM:=ak1 ZL;clear ZL;obtain⟨pre,u,post,V,q,k,g⟩:=a;obtain⟨ayz,xR,ayA,ayB,Sb,k',cf⟩:=b;simp only at HI L9 ZJ ZK ZM eq G aK;subst HI L9 ZM eq;rw[aK] at G;simp only[bH,ei,true_and] at G;have e:=RK iO fi _ _ G (by omega);rw[hh,hh] at e;obtain⟨aL,ax⟩:=RL e ZJ.symm;obtain⟨eo,kZ⟩:=RL ax ZK.symm;subst aL eo kZ
 rfl
def ak3 (p ua sA qd c a b q:Int)(h:ua=sA-q*qd+p*c):ua+p*((a-c-q*b)%1048576)=sA+p*a-q*(qd+p*b)+p*1048576*(-((a-c-q*b)/1048576)):=by
 have E:=zh (a-c-q*b) 1048576
 have G:p*((a-c-q*b)%1048576)+p*1048576*((a-c-q*b)/1048576)=p*(a-c-q*b):=by
  rw[hy,<-hx,E]
 have ad:p*(a-c-q*b)=p*a-p*c-p*(q*b):=by rw[DU,DU]
 have aK:q*(qd+p*b)=q*qd+p*(q*b):=by rw[hx,R9]
 rw[DZ];omega
def ZN {a c q b:Int}(a5:0<=a/\a<1048576)(Z:0<=c/\c<=1048576)(aM:0<=q/\q<1048576)(U:0<=b/\b<1048576):
  0<=q*b/\q*b<=1099509530625/\0 <= -((a-c-q*b)/1048576) /\ -((a-c-q*b)/1048576)<=1048576:=by
 have E:0<=q*b:=zj aM.1 U.1;have G:q*b<=1048575*1048575:=RZ (by omega) (by omega) U.1 (by omega);omega
def ak4 (T:bl)(a:HT)(gG:Mem)(Z:Sa a gG):
  wp T L6.body (DD L6.res (.L (.int .i64 (zm a.u a.V a.q))) (aV gG a.k a.g (zn a))) ⟨j5 [.ref a.k a.g 1 (D a.pre) (D a.u),.L (c4 a.V),.L (.int .i64 a.q)],gG⟩:=by
 obtain⟨pre,u,post,V,q,k,g⟩:=a;obtain⟨mV,sQ,xg,kY,sP,qw,hlen⟩:=Z;simp only at mV sQ xg kY sP qw hlen ⊢;have xS:=lF V;have ZO:=kB V;have Sc:=fw.1 xg;refine yU ?_;simp only[L6];simp only[go_sem,go_sem_proc,c4];generalize U:aG V=v at *
 refine dM [0,1,2,13] [] (λ((i,c,w):Nat×Int×List Int) tm mem=>i<=D u/\D w=D u/\ec w/\w.drop i=u.drop i/\(0<=c/\c<=1048576)/\aW (w.take i)=aW (u.take i)-q*aW (v.take i)+1048576^i*c/\tm 14=.L (.int .i64 (i:Nat))/\tm 7=.L (.int .i64 c)/\mem=aV gG k g (a6 aH (pre++w++post)))
  (λ(i,_)=>D u-i) (0,0,u) (by refine⟨eL _,rfl,sQ,rfl,by omega,by simp[aW],rfl,rfl,(ak0 mV).symm⟩) ?_
 intro vs ms a7 aY;simp only[go_sem,go_sem_proc] at a7 aY;subst a7 aY;rintro⟨i,c,w⟩ tm _ Q-⟨O,hw,pP,vT,Z,iL,oR,bL,rfl⟩;simp only[go_sem,go_sem_proc,bs] at Q;obtain⟨al,E,G,l5⟩:=Q;rcases eC (i<D u) with au|bO
 ·have vX:i<D w:=by omega
  have ak5:w[i]=u[i]:=by
   have E:=fY vX;rw[vT,fY au] at E;exact (Bi E).1.symm
  have HV:w.drop (i+1)=u.drop (i+1):=by
   have E:=fY vX;rw[vT,fY au] at E;exact (Bi E).2.symm
  have m4:=HS (pre:=pre) (post:=post) vX;rw[ak5] at m4;have ZP:=ke sQ i au;have rk:=kd u i au;generalize u[i]=sR at *;have fI:IntKind.i64.wrap ((i:Int)+1)=((i+1:Nat):Int):=by rw[fg _];rfl
  have lI:IntKind.i64.wrap (sR-c)=sR-c:=wrap64 _ (by omega) (by omega);have kg:(D pre)+i+1<=(a6 aH (pre++w++post)).length:=by rw[oN];simp;omega
  have ix:=λd=>ZI (pre:=pre) (post:=post) vX d;have l4:decide ((i:Int)<(D u:Int))=true:=dW
  have fin:∀bi:Int,0<=bi->bi<1048576->aW (v.take (i+1))=aW (v.take i)+1048576^i*bi ->
    ∃a0:Nat×Int×List Int,D u-a0.1<D u-i/\a0.1<=D u/\a0.2.2.length=D u/\ec a0.2.2/\a0.2.2.drop a0.1=u.drop a0.1/\(0<=a0.2.1/\a0.2.1<=1048576)/\aW (a0.2.2.take a0.1)=aW (u.take a0.1)-q*aW (v.take a0.1)+1048576^a0.1*a0.2.1 /\
     I.L (Data.int .i64 ((i+1:Nat):Int))=I.L (Data.int .i64 (a0.1:Int))/\I.L (Data.int .i64 (-((sR-c-q*bi)/1048576)))=I.L (Data.int .i64 a0.2.1)/\aV gG k g (a6 aH (pre++w.set i ((sR-c-q*bi)%1048576)++post))=aV gG k g (a6 aH (pre++a0.2.2++post)):=by
   intro bi zi iA Bh;obtain⟨ba,bJ,dD,h5⟩:=ZN ZP Z ⟨kY,sP⟩ ⟨zi,iA⟩;refine⟨(i+1,-((sR-c-q*bi)/1048576),w.set i ((sR-c-q*bi)%1048576)),by dsimp only;omega,by dsimp only;omega,by simp[hw],xP pP i (by omega),?_,⟨dD,h5⟩,?_,rfl,rfl,rfl⟩
   ·dsimp only;rw[ri (by omega),HV]
   ·dsimp only;rw[kd _ _ (by simpa using vX),Bf,rk,Bh,l3];simp only[xO];exact ak3 _ _ _ _ _ _ _ _ iL
  rcases eC (i<D v) with pO|RU
  ·have oQ:v[i]?=some v[i]:=bB pO;have fU:=ke xS i pO;have Sd:=kd v i pO;generalize v[i]=bi at *;obtain⟨ba,bJ,dD,h5⟩:=ZN ZP Z ⟨kY,sP⟩ fU;have m3:IntKind.i64.wrap (q*bi)=q*bi:=wrap64 _ (by omega) (by omega);have DW:IntKind.i64.wrap (sR-c-q*bi)=sR-c-q*bi:=wrap64 _ (by omega) (by omega);have zk:IntKind.i64.wrap (0-(sR-c-q*bi)/1048576) = -((sR-c-q*bi)/1048576):=by rw[fg _];omega
   have jl:decide ((i:Int)<(D v:Int))=true:=dW;refine an ?_;repeat' (intro (aw:_=_)<;>simp only[aw,go_sem,go_sem_proc,al,E,G,l5,oR,bL,oQ,fI,lI,m3,DW,zk,jl,l4,au,kg,m4,ix,Mg,xF,tT,aH,dE,az,bG,bs,show ¬ ((20:Int)<0) by omega]<;>try refine aj ?_ ?_)
   exact fin bi fU.1 fU.2 Sd
  ·have jl:decide ((i:Int)<(D v:Int))=false:=ef;have zk:IntKind.i64.wrap (0-(sR-c)/1048576) = -((sR-c)/1048576):=by rw[fg _];omega
   refine an ?_;repeat' (intro (aw:_=_)<;>simp only[aw,go_sem,go_sem_proc,al,E,G,l5,oR,bL,fI,lI,zk,jl,l4,au,kg,m4,ix,Mg,xF,tT,aH,dE,az,bG,bs,show ¬ ((20:Int)<0) by omega]<;>try refine aj ?_ ?_)
   have:=fin 0 (by omega) (by omega) (by rw[dz (by omega),dz (by omega)];simp);simp only[vY,HQ] at this;exact this
 ·obtain rfl:i=D u:=by omega
  have l4:decide ((D u:Int)<(D u:Int))=false:=ef;rw[dz (by omega),dz (by omega),dz (by omega),ZO] at iL;have ak6:=xC pP;have ayC:=nt pP;rw[hw] at ak6
  have ayD:(V:Int)<1048576^(D u):=by
   have h:=Int.ofNat_lt.2 Sc;rw[Bk] at h;exact h
  by_cases vR:c=0
  ·subst vR;have Se:aW u-q*V=aW w:=by omega
   have aL:zm u V q=q:=by unfold zm;rw[ar (by omega)]
   have ax:zn ⟨pre,u,post,V,q,k,g⟩=a6 aH (pre++w++post):=by
    unfold zn Mh;simp only;rw[ar (by omega),Se,<-hw,<-ZH pP]
   refine an ?_;repeat' (intro (aw:_=_)<;>simp only[aw,go_sem,go_sem_proc,al,E,G,l5,oR,bL,l4,aL,ax,beq_self_eq_true]<;>try refine aj ?_ ?_)
  ·have ak7:(c==0)=false:=by simpa using vR
   have HW:(1048576:Int)^(D u)<=1048576^(D u)*c:=by
    have:(1048576:Int)^(D u)*1<=1048576^(D u)*c:=xN (by omega) (by omega);omega
   have k0:aW u-q*V<0:=by omega
   have Sf:IntKind.i64.wrap (q-1)=q-1:=wrap64 _ (by omega) (by omega);simp only[go_sem,go_sem_proc,al,E,G,l5,oR,bL,l4,ak7]
   refine dM [0,1,2,48] [] (λ((i,d,z):Nat×Int×List Int) tm mem=>i<=D u/\D z=D u/\ec z/\z.drop i=w.drop i/\(0<=d/\d<=1)/\aW (z.take i)+1048576^i*d=aW (w.take i)+aW (v.take i)/\tm 49=.L (.int .i64 (i:Nat))/\tm 10=.L (.int .i64 d)/\mem=aV gG k g (a6 aH (pre++z++post)))
    (λ(i,_)=>D u-i) (0,0,w) (by refine⟨eL _,hw,pP,rfl,by omega,by simp[aW],rfl,rfl,rfl⟩) ?_
   intro vs ms a7 aY;simp only[go_sem,go_sem_proc,al,E,G] at a7 aY;subst a7 aY;rintro⟨i,d,z⟩ tm _ Q-⟨O,aQ,qx,vT,ae,ZQ,Sg,kA,rfl⟩;simp only[go_sem,go_sem_proc,bs] at Q;obtain⟨al,E,G,Sh⟩:=Q;rcases eC (i<D u) with au|bO
   ·have HX:i<D z:=by omega
    have vX:i<D w:=by omega
    have ak8:z[i]=w[i]:=by
     have E:=fY HX;rw[vT,fY vX] at E;exact (Bi E).1.symm
    have ak9:z.drop (i+1)=w.drop (i+1):=by
     have E:=fY HX;rw[vT,fY vX] at E;exact (Bi E).2.symm
    have m4:=HS (pre:=pre) (post:=post) HX;rw[ak8] at m4;have HY:=ke pP i vX;have rk:=kd w i vX;generalize w[i]=zo at *;have fI:IntKind.i64.wrap ((i:Int)+1)=((i+1:Nat):Int):=by rw[fg _];rfl
    have lI:IntKind.i64.wrap (d+zo)=d+zo:=wrap64 _ (by omega) (by omega);have kg:(D pre)+i+1<=(a6 aH (pre++z++post)).length:=by rw[oN];simp;omega
    have ix:=λd=>ZI (pre:=pre) (post:=post) HX d;have l4:decide ((i:Int)<(D u:Int))=true:=dW
    have fin:∀bi:Int,0<=bi->bi<1048576->aW (v.take (i+1))=aW (v.take i)+1048576^i*bi ->
      ∃a0:Nat×Int×List Int,D u-a0.1<D u-i/\a0.1<=D u/\a0.2.2.length=D u/\ec a0.2.2/\a0.2.2.drop a0.1=w.drop a0.1/\(0<=a0.2.1/\a0.2.1<=1)/\aW (a0.2.2.take a0.1)+1048576^a0.1*a0.2.1=aW (w.take a0.1)+aW (v.take a0.1) /\
       I.L (Data.int .i64 ((i+1:Nat):Int))=I.L (Data.int .i64 (a0.1:Int))/\I.L (Data.int .i64 ((d+zo+bi)/1048576))=I.L (Data.int .i64 a0.2.1)/\aV gG k g (a6 aH (pre++z.set i ((d+zo+bi)%1048576)++post))=aV gG k g (a6 aH (pre++a0.2.2++post)):=by
     intro bi zi iA Bh;refine⟨(i+1,(d+zo+bi)/1048576,z.set i ((d+zo+bi)%1048576)),by dsimp only;omega,by dsimp only;omega,by simp[aQ],xP qx i (by omega),?_,by dsimp only;omega,?_,rfl,rfl,rfl⟩
     ·dsimp only;rw[ri (by omega),ak9]
     ·dsimp only;rw[kd _ _ (by simpa using HX),Bf,rk,Bh,l3];simp only[xO];exact Zq _ _ _ _ _ _ _ ZQ
    rcases eC (i<D v) with pO|RU
    ·have oQ:v[i]?=some v[i]:=bB pO;have fU:=ke xS i pO;have Sd:=kd v i pO;generalize v[i]=bi at *;have m3:IntKind.i64.wrap (d+zo+bi)=d+zo+bi:=wrap64 _ (by omega) (by omega);have jl:decide ((i:Int)<(D v:Int))=true:=dW;refine an ?_;repeat' (intro (aw:_=_)<;>simp only[aw,go_sem,go_sem_proc,al,E,G,Sh,Sg,kA,oQ,fI,lI,m3,jl,l4,au,kg,m4,ix,Mg,xF,tT,aH,dE,az,bG,bs,show ¬ ((20:Int)<0) by omega]<;>try refine aj ?_ ?_)
     exact fin bi fU.1 fU.2 Sd
    ·have jl:decide ((i:Int)<(D v:Int))=false:=ef;refine an ?_;repeat' (intro (aw:_=_)<;>simp only[aw,go_sem,go_sem_proc,al,E,G,Sh,Sg,kA,fI,lI,jl,l4,au,kg,m4,ix,Mg,xF,tT,aH,dE,az,bG,bs,show ¬ ((20:Int)<0) by omega]<;>try refine aj ?_ ?_)
     have:=fin 0 (by omega) (by omega) (by rw[dz (by omega),dz (by omega)];simp);simp only[HZ] at this;exact this
   ·obtain rfl:i=D u:=by omega
    have l4:decide ((D u:Int)<(D u:Int))=false:=ef;rw[dz (by omega),dz (by omega),dz (by omega),ZO] at ZQ;have ala:=xC qx;have ayE:=nt qx;rw[aQ] at ala
    have Se:aW u-q*V+V=aW z:=by
     have e:aW u-q*V+V-aW z=1048576^(D u)*(d-c):=by rw[DU];omega
     generalize (1048576:Int)^(D u)=p at *;rcases pQ (d-c) 0 with h|h|h
     ·have:p*(d-c)<=p*(-1):=xN (by omega) (by omega);omega
     ·rw[h,vY] at e;omega
     ·have:p*1<=p*(d-c):=xN (by omega) (by omega);omega
    have aL:zm u V q=q-1:=by unfold zm;rw[aq k0]
    have ax:zn ⟨pre,u,post,V,q,k,g⟩=a6 aH (pre++z++post):=by
     unfold zn Mh;simp only;rw[aq k0,Se,<-aQ,<-ZH qx]
    refine an ?_;repeat' (intro (aw:_=_)<;>simp only[aw,go_sem,go_sem_proc,al,E,G,Sh,Sg,kA,l4,aL,ax,Sf]<;>try refine aj ?_ ?_)
def alb {T V P vZ D0 v1 v2 top hp q r:Int}(pI:V=(v1*1048576+v2)*P+vZ)(cp:T=(top*1048576+hp)*P+D0)(dh:0<P)(ZR:0<=vZ)(Mi:D0<P)(kY:0<=q)(alc:0<=V)
  (Si:T<1048576*V) (Bl:q*v1+r=top) (Z:q>=1048576\/q*v2>r*1048576+hp):T<q*V:=by
 rcases Z with h|h
 ·have:=lJ h alc;omega
 ·have E:(top*1048576+hp+1)*P<=(q*(v1*1048576+v2))*P:=by
   refine lJ ?_ (by omega);rw[hx,<-hy];have:q*v1*1048576=(top-r)*1048576:=by rw[<-Bl];congr 1;omega
   omega
  have G:q*V=(q*(v1*1048576+v2))*P+q*vZ:=by rw[pI,hx,<-hy]
  have ad:0<=q*vZ:=zj kY ZR;rw[rI _ 1,ny] at E;omega
def ZS {T V P vZ D0 v1 v2 top hp q r:Int}(pI:V=(v1*1048576+v2)*P+vZ)(cp:T=(top*1048576+hp)*P+D0)(dh:0<P)(ZR:0<=vZ/\vZ<P)(Mi:0<=D0)(kY:0<=q)(sP:q<1048576)(sD:524288<=v1)(mQ:0<=v2/\v2<1048576)(Xr:0<=hp)
  (Bl:q*v1+r=top) (Z:r>=1048576\/q*v2<=r*1048576+hp):0<=T-q*V+V:=by
 have G:q*V=(q*(v1*1048576+v2))*P+q*vZ:=by rw[pI,hx,<-hy]
 have ad:q*vZ<=q*P:=xN (by omega) kY;have aK:q*P<=1048576*P:=lJ (by omega) (by omega);have bp:1048576*P<=(v1*1048576+v2)*P:=lJ (by omega) (by omega);have e:q*v1*1048576=(top-r)*1048576:=by rw[<-Bl];congr 1;omega
 rcases Z with h|h
 ·have bD:q*v2+q<=1048576*1048576:=by
   have bL:q*(v2+1)<=1048576*1048576:=RZ (by omega) (by omega) (by omega) (by omega);rw[hx,rE] at bL;exact bL
  have ct:(q*(v1*1048576+v2)+q)*P<=(top*1048576+hp)*P:=by
   refine lJ ?_ (by omega);rw[hx,<-hy];omega
  rw[rI _ q] at ct;omega
 ·have ct:(q*(v1*1048576+v2))*P<=(top*1048576+hp)*P:=by
   refine lJ ?_ (by omega);rw[hx,<-hy];omega
  omega
def ald {T V q:Int}(pI:0<V)(E:T<(q+1)*V)(G:0<=T-q*V+V):(if T-q*V<0 then q-1 else q)=T/V/\(if T-q*V<0 then T-q*V+V else T-q*V)=T%V:=by
 have ad:(q+1)*V=q*V+V:=by rw[rI,ny]
 have aK:(q-1)*V=q*V-V:=by rw[ZT,ny]
 have key:∀d r:Int,T=d*V+r->0<=r->r<V->d=T/V/\r=T%V:=by
  intro d r h al bp
  constructor
  ·rw[h,vW,Int.add_mul_ediv_right _ _ (by omega),R3 al bp];omega
  ·rw[h,vW,Int.add_mul_emod_self_right,R4 al bp]
 split
 ·exact key (q-1) _ (by omega) (by omega) (by omega)
 ·exact key q _ (by omega) (by omega) (by omega)
def ZU {v:List Int}{N:Nat}(h:(D v)=N+2):aW v=(v[N+1]*1048576+v[N])*1048576^N+aW (v.take N):=by
 have e:v=v.take (N+1+1):=by rw[dz (by omega)]
 conv=>lhs;rw[e]
 rw[kd v (N+1) (by omega),kd v N (by omega),l3,rI,mC (v[N]),zp (v[N+1]),mC (v[N+1])];have:(1048576:Int)^N*1048576*v[N+1]=1048576^N*v[N+1]*1048576:=by rw[zp]
 omega
def ale {v:List Int}{N:Nat}(h:(D v)=N+3):aW v=((v[N+2]*1048576+v[N+1])*1048576+v[N])*1048576^N+aW (v.take N):=by
 have e:v=v.take (N+1+1+1):=by rw[dz (by omega)]
 conv=>lhs;rw[e]
 rw[kd v (N+1+1) (by omega),kd v (N+1) (by omega),kd v N (by omega)];simp only[l3];generalize (1048576:Int)^N=p;rw[rI,rI,rI,zp (v[N+2]*1048576),zp (v[N+2]),mC (v[N+2]),zp (v[N+1]),mC (v[N+1]),mC (v[N])];have E:p*1048576*v[N+1]=p*v[N+1]*1048576:=by rw[zp]
 have G:p*1048576*1048576*v[N+1+1]=p*v[N+2]*1048576*1048576:=by rw[zp,zp p]
 omega
def alf {u:List Int}{i n:Nat}{V:Int}(ae:ec u)(af:i+n+1<=D u)(ew:aW (u.drop (i+1))<V)(pI:V<1048576^n):
  ∃pre fl post,u=pre++fl++post/\D pre=i/\D fl=n+1/\ec pre/\ec fl/\ec post/\aW post=0/\∃b5,fl[0]?=some b5/\u.take (i+1)=pre++[b5]/\aW fl=b5+1048576*aW (u.drop (i+1))/\0<=aW (u.drop (i+1))/\0<=b5/\b5<1048576:=by
 have e:u=u.take i++(u.drop i).take (n+1)++u.drop (i+n+1):=by
  rw[hh,q7,<-xo,He,He]
 have ZV:=e ▸ ae;rw[AY,AY] at ZV;obtain⟨⟨d1,d2⟩,d3⟩:=ZV;have au:i<D u:=by omega
 have vT:=fY au;have Mj:((u.drop i).take (n+1)).length=n+1:=by simp;omega
 have ZW:aW (u.drop (i+1))=aW ((u.drop (i+1)).take n)+1048576^n*aW (u.drop (i+n+1)):=by
  have:=Hp (u.drop (i+1)) n;rw[rq,mS (by omega),xo] at this;rw[this]
  congr 3
  rw[show i+1+n=i+n+1 by omega]
 have aD:=nt d3;have bC:0<=aW ((u.drop (i+1)).take n):=nt (λx J=>ae x (D1 (Aw J)))
 have D2:aW (u.drop (i+n+1))=0:=by
  rcases eC (0<aW (u.drop (i+n+1))) with h|h
  ·have:(1048576:Int)^n*1<=1048576^n*aW (u.drop (i+n+1)):=xN (by omega) (Int.pow_nonneg (by omega));omega
  ·omega
 refine⟨_,_,_,e,by simp;omega,Mj,d1,d2,d3,D2,u[i],?_,?_,?_,?_,(ke ae i au).1,(ke ae i au).2⟩
 ·rw[xq (by omega),sC];simp[au]
 ·rw[jj,bB au];rfl
 ·rw[vT,QJ,ru,ZW,D2];simp
 ·rw[ZW,D2];simpa using bC
def alg (l:List Int)(h:(D l)<=1000000):mw 157054 0 1 (D l) 8 1 [.L (.int .i64 0)] (some (0,((l.map aH).flatten.map I.L)))=some (.ref 157054 1 1 0 (D l+1),some (157054,1,a6 aH (l++[0]))) :=
 qm iO vG 157054 0 8 l 0 rfl (by omega) (by omega)
def H0:=b1 lH λ(x,y)=>cu ((aG x).length<=1000/\(aG y).length<=1000/\0<y) (.same (.de [c4 (x/y),c4 (x%y)]))
@[go_sem] def ZX (x y):=cL H0 rfl vQ (x,y) rfl
def alh (T:bl)(iP:T A7=aT DT)(g2:T vJ=aT zg)(nz:T LV=aT Mf)(eT:T oJ=xA vM sL)(lK:T DJ=aT HO)(nA:T Rn=y9 HU):WF T YX H0:=by
 refine cq λ(x,y)=>cR λZ=>⟨rfl,cr ?_⟩;simp only[YX,lH,b8];obtain⟨J,ag,g4⟩:=Z;have lZ:(aG x).length<=1000000/\(aG y).length<=1000000:=by omega
 have zq:=RP x y lZ;have tu:(aG x).length<=1000000:=by omega
 by_cases ky:x<y
 ·have H2:gH x y = -1:=by unfold gH;rw[aq (by simpa using ky)]
  have dP:=akH (aG x) tu;rw[H2] at zq
  change zg [c4 x]=_ at dP
  refine an ?_;repeat' (intro (aw:_=_)<;>simp only[aw,go_sem,go_sem_proc,iP,g2,nz,eT,lK,nA,zq,dP,show ((-1:Int)<0) by omega,decide_true]<;>try refine aj ?_ ?_)
  rw[QV ky,Hk ky]
  try rfl
 ·have H2:decide (gH x y<0)=false:=by
   unfold gH;rw[ar (by simp;omega)]
   split<;>rfl
  have ayF:aG y≠[]:=by rw[Ne,xB];omega
  by_cases E:y<1048576
  ·have pL:=A0 g4 E;have l1:=ZB x y ⟨by omega,by omega,by omega⟩
   have aA:=L8 [((x%y:Nat):Int)] (by simp);have au:x%y<y:=m1 _ g4;rw[pJ] at l1
   have zl:fh [((x%y:Nat):Int)]=aG (x%y):=by
    generalize x%y=r at au ⊢;rw[xD (by intro d ae;rw[v3] at ae;omega)];simp only[aW]
    congr 1
   rw[zl] at aA;have H3:c4 y=.ay [[.int .i64 y]]:=by unfold c4;rw[pL];rfl
   change vM [.ay [[.int .i64 _]]]=_ at aA
   rw[H3] at zq;refine an ?_;repeat' (intro (aw:_=_)<;>simp only[aw,go_sem,go_sem_proc,iP,g2,nz,eT,lK,nA,H3,zq,H2,l1,aA,show (((1:Nat):Int)==1)=true from rfl]<;>try refine aj ?_ ?_)
   try rfl
  ·obtain⟨N,hN⟩:∃N,(aG y).length=N+2:=by
    have:=mt (fw (n:=y) (k:=1)).1 (by simpa using E);exact⟨(aG y).length-2,by omega⟩
   have pL:=lF y;have kh:(((aG y).length:Int)==1)=false:=by simp;omega
   have Mj:IntKind.i64.wrap (((aG y).length:Int)-1)=((N+1:Nat):Int):=by rw[fg _];omega
   have lz:(aG y)[N+1]?=some (aG y)[N+1]:=bB (by omega);have ayG:=ke pL (N+1) (by omega)
   have ayH:(aG y)[N+1]≠0:=by
    intro h;have:=YG y;rw[List.getLast?_eq_getElem?,hN] at this;exact this (by rw[show N+2-1=N+1 by omega,lz,h])
   have Sj:=ZU hN;rw[kB] at Sj;have ali:=xC (xM pL N);have ayI:=nt (xM pL N);have ayJ:=ke pL N (by omega);rw[hf,mS (by omega)] at ali;generalize (aG y)[N+1]=cQ at *;generalize (aG y)[N]=qp at *;generalize aW ((aG y).take N)=Mk at *;have ZY:((aG y).map aH)[N+1]?=some [.int .i64 cQ]:=by rw[bG,lz];rfl
   simp only[go_sem,go_sem_proc,iP,g2,nz,eT,lK,nA,c4,zq,H2,kh,az];have ZZ:=zq;unfold c4 at ZZ;simp only[go_sem,go_sem_proc,iP,g2,nz,eT,lK,nA,ZZ,H2,kh,az];refine dM [0,1] [157054,157075] (λ(κ:Nat) tm mem=>cQ*2^κ<1048576/\tm 8=.L (.int .i64 (2^κ))) (λκ=>20-κ) 0 (by refine⟨by omega,rfl⟩) ?_;intro vs ms a7 aY;simp only[go_sem,go_sem_proc,iP,g2,nz,eT,lK,nA,az] at a7 aY;subst a7 aY;rintro κ tm mem Q hm ⟨ayK,ct⟩;simp only[go_sem,go_sem_proc,iP,g2,nz,eT,lK,nA,bs] at Q hm;obtain⟨al,Dr⟩:=Q;obtain⟨n5,v5⟩:=hm;have ayL:(0:Int)<2^κ:=H4 (by omega)
   have xT:(2:Int)^κ<=cQ*2^κ:=by
    have:1*(2:Int)^κ<=cQ*2^κ:=lJ (by omega) (by omega);omega
   have hκ:κ<20:=by
    rcases fE κ 20 with h|h
    ·exact h
    ·have:(2:Int)^20<=2^κ:=by
      have:=jU (n:=2) (by omega) h;have bT:=Int.ofNat_le.2 this;rwa [Bk,Bk] at bT
     omega
   have Z0:IntKind.i64.wrap (cQ*2^κ)=cQ*2^κ:=wrap64 _ (by omega) (by omega);have alj:IntKind.i64.wrap (2^κ*2)=2^κ*2:=wrap64 _ (by omega) (by omega);rcases eC (cQ*2^κ<524288) with au|bO
   ·refine an ?_;repeat' (intro (aw:_=_)<;>simp only[aw,go_sem,go_sem_proc,iP,g2,nz,eT,lK,nA,al,Dr,ct,Mj,ZY,Z0,alj,au,n5,v5,decide_true,dE,az]<;>try refine aj ?_ ?_)
    exact⟨κ+1,by omega,by rw[l3,<-hy];omega,by rw[l3]⟩
   ·-- xl numbers, shifted
    have alk:(cQ+1)*2^κ<=1048576:=by
     have e:(1048576:Int)=2^(20-κ)*2^κ:=by rw[<-ZA,show 20-κ+κ=20 by omega];rfl
     have E:cQ<2^(20-κ):=by
      rcases eC (cQ<2^(20-κ)) with h|h
      ·exact h
      ·have:(2:Int)^(20-κ)*2^κ<=cQ*2^κ:=lJ (by omega) (by omega);omega
     rw[e];exact lJ (by omega) (by omega)
    generalize (2:Int)^κ=s at *;obtain⟨S,rfl⟩:∃S:Nat,s=S:=⟨s.toNat,by omega⟩
    have dh:(0:Int)<1048576^N:=H4 (by omega);have Bm:0<S:=by omega
    have Sc:y*S<1048576^(N+2):=by
     have E:((y*S:Nat):Int)<1048576^(N+2):=by
      rw[Z1,Sj,l3,l3];generalize (1048576:Int)^N=p at *
      have aL:((cQ*1048576+qp)*p+Mk)*S<=((cQ+1)*1048576*p)*S:=by
       refine lJ ?_ (by omega);have:(cQ*1048576+qp+1)*p<=((cQ+1)*1048576)*p:=lJ (by omega) (by omega);rw[rI _ 1] at this;omega
      have ayM:((cQ*1048576+qp)*p+Mk)*S<((cQ+1)*1048576*p)*S:=by
       refine Int.mul_lt_mul_of_pos_right ?_ (by omega);have:(cQ*1048576+qp+1)*p<=((cQ+1)*1048576)*p:=lJ (by omega) (by omega);rw[rI _ 1] at this;omega
      have ax:((cQ+1)*1048576*p)*S=((cQ+1)*S)*(p*1048576):=by
       rw[hy (cQ+1),hy,mC (1048576*p),<-hy,mC 1048576 p]
      have eo:((cQ+1)*S)*(p*1048576)<=1048576*(p*1048576):=lJ alk (by omega);omega
     have G:((1048576^(N+2):Nat):Int)=1048576^(N+2):=by rw[Bk];rfl
     omega
    have ayN:524288*(1048576^N*1048576)<=((y*S:Nat):Int):=by
     rw[Z1,Sj];generalize (1048576:Int)^N=p at *
     have aL:(cQ*1048576)*p*S<=((cQ*1048576+qp)*p+Mk)*S:=by
      refine lJ ?_ (by omega);have:(cQ*1048576)*p<=(cQ*1048576+qp)*p:=lJ (by omega) (by omega);omega
     have ax:(cQ*1048576)*p*S=(cQ*S)*(p*1048576):=by
      rw[hy cQ,hy,mC (1048576*p),<-hy,mC 1048576 p]
     have eo:524288*(p*1048576)<=(cQ*S)*(p*1048576):=lJ (by omega) (by omega);omega
    have H5:(aG (y*S)).length=N+2:=by
     have E:=fw.2 Sc
     have G:=mt (fw (n:=y*S) (k:=N+1)).1 (by
      have G:((1048576^(N+1):Nat):Int)=1048576^N*1048576:=by rw[Bk,l3];rfl
      omega)
     omega
    have ayO:1*x<=x*S:=by rw[pH];exact H6 x Bm
    have ayP:(aG x).length<=(aG (x*S)).length:=by
     rw[fw];have:=fw.1 (bM (aG (x*S)).length);omega
    have ayQ:y*S<=x*S:=mP S (by omega)
    have ayR:N+2<=(aG (x*S)).length:=by
     rw[<-H5,fw];have:=fw.1 (bM (aG (x*S)).length);omega
    have ayS:(aG (x*S)).length<=1001:=by
     have:∀k,(aG x).length<=k->(aG (x*S)).length<=k+1:=by
      intro k Q;rw[fw];have E:=fw.1 Q;rw[rv];exact u9 (Nat.mul_lt_mul_of_pos_right E Bm) (H6 _ (by omega))
     exact this 1000 J
    have gk:=R0 x S ⟨by omega,by rw[A0 Bm (by omega)];simp⟩
    have Sk:=R0 y S ⟨by omega,by rw[A0 Bm (by omega)];simp⟩
    have alm:c4 S=.ay [[.int .i64 (S:Int)]]:=by unfold c4;rw[A0 Bm (by omega)];rfl
    rw[alm] at gk Sk;simp only[c4] at gk Sk;have dS:=alg (aG (x*S)) (by omega);have aln:((((aG (x*S)).length+1:Nat):Int)==((aG x).length:Int))=false:=by simp;omega
    have alo:=kB (y*S);have Ml:=lF (y*S);have alp:=kB (x*S);have Z2:=lF (x*S);have alq:c4 (y*S)=.ay ((aG (y*S)).map aH):=rfl;generalize alr:aG (y*S)=v at *;generalize ayT:aG (x*S)=kE at *;have Sf:IntKind.i64.wrap (((D kE+1:Nat):Int)-(D v:Int))=((D kE-N-1:Nat):Int):=by rw[fg _];omega
    have sP:8*(D kE-N-1)<=140737488355328:=by omega
    have Mm:(D kE)-N-1<=maxLen:=DS _ (by omega);have als:decide (cQ*(S:Int)<524288)=false:=j2 bO;simp only[go_sem,go_sem_proc,iP,g2,nz,eT,lK,nA,al,Dr,ct,n5,v5,Mj,ZY,Z0,als,gk,Sk,dS,aln,Sf,sP,Mm,DR,dE,az];have h6:(D kE)-N-1+(N+2)=D kE+1:=by omega
    generalize ayU:(D kE)-N-1=a4 at *;have b2:(D kE)=a4+N+1:=by omega
    have Bn:=ZU H5;rw[alo] at Bn;have Sl:=xC (xM Ml N);have Sm:=nt (xM Ml N);rw[hf,mS (by omega)] at Sl;have alu:v[N+1]?=some v[N+1]:=bB (by omega);have Bo:v[N]?=some v[N]:=bB (by omega);have mF:=ke Ml (N+1) (by omega);have rJ:=ke Ml N (by omega);generalize v[N+1]=v1 at *;generalize v[N]=v0 at *;generalize aW (v.take N)=vlow at *
    have sD:524288<=v1:=by
     generalize (1048576:Int)^N=p at *;rcases eC (524288<=v1) with h|h
     ·exact h
     ·have G:(v1*1048576+v0+1)*p<=(524288*1048576)*p:=lJ (by omega) (by omega);rw[rI _ 1,ny] at G;omega
    have alv:((y*S:Nat):Int)<1048576^(N+2):=by
     have G:((1048576^(N+2):Nat):Int)=1048576^(N+2):=by rw[Bk];rfl
     omega
    have Sn:0<((y*S:Nat):Int):=by
     have:0<1048576^N*(1048576:Int):=Int.mul_pos dh (by omega);omega
    have alw:aW ((kE++[0]).drop a4)<((y*S:Nat):Int):=by
     have e:(kE++[0]).drop a4=kE.drop a4++[0]:=by rw[List.drop_append_of_le_length (by omega)]
     rw[e,AZ];have E:=xC (λd ae=>Z2 d (D1 ae):ec (kE.drop a4));rw[rq,show (D kE)-a4=N+1 by omega,l3] at E
     simp only[aW];omega
    have alx:((x*S:Nat):Int)=aW ((kE++[0]).take a4)+1048576^a4*aW ((kE++[0]).drop a4):=by
     have:=Hp (kE++[0]) a4;rw[AZ,alp,mS (by simp;omega)] at this
     simpa [aW] using this
    generalize Z3:y*S=gp at *;generalize Z4:x*S=D3 at *
    refine dM [8,9,10,11,12] [] (λ((j,u,eK):Nat×List Int×List Int) tm mem=>j<=a4/\D u=D kE+1/\ec u/\D eK=a4/\ec eK/\aW (u.drop j)<gp/\(D3:Int)=aW (u.take j)+1048576^j*(gp*aW (eK.drop j)+aW (u.drop j)) /\
      tm 13=.L (.int .i64 ((j:Nat)-1))/\mem 157054=some (1,a6 aH u)/\mem 157075=some (0,a6 aH eK)) (λ(j,_)=>j) (a4,kE++[0],cK a4 0)
     (by
      refine⟨bM _,by simp,AY.2 ⟨Z2,by intro d ae;rw[v3] at ae;omega⟩,by simp,λd ae=>by rw[vU] at ae;omega,alw,?_,?_,rfl,rfl⟩
      ·rw[List.drop_of_length_le (by simp)];simp only[aW,vY,R2];exact alx
      ·simp only[vd,reduceIte];rw[fg _]) ?_
    intro vs ms a7 aY;simp only[go_sem,go_sem_proc,iP,g2,nz,eT,lK,nA,al,Dr,ct] at a7 aY;subst a7 aY;rintro⟨j,u,eK⟩ tm mem Q-⟨aa,sS,sQ,Mn,So,ew,v7,l5,H7,Sp⟩;simp only[go_sem,go_sem_proc,iP,g2,nz,eT,lK,nA,bs] at Q;obtain⟨ct,jh,kA,nx,oM⟩:=Q;rcases j with _|j
    ·rw[oF,oF] at v7;rw[oF] at ew;simp only[LF,aW,Int.pow_zero,ny,R2] at v7;have ayV:=nt So;have rK:=nt sQ
     have Sq:aW eK=((x/y:Nat):Int)/\aW u=((x%y*S:Nat):Int):=by
      have E:D3/gp=x/y:=by rw[<-Z4,<-Z3];exact Nat.mul_div_mul_right x y Bm
      have G:D3%gp=x%y*S:=by rw[<-Z4,<-Z3];exact Nat.mul_mod_mul_right S x y
      have ad:((D3/gp:Nat):Int)=aW eK:=by rw[ZC,v7,vW,ZD _ _ (by omega),R3 rK ew];omega
      have aK:((D3%gp:Nat):Int)=aW u:=by rw[ZE,v7,vW,ZF,R4 rK ew]
      rw[E] at ad;rw[G] at aK;exact⟨ad.symm,aK.symm⟩
     have Z5:=L8 u (by omega);rw[xD sQ,Sq.2,pJ] at Z5;have Z6:=L8 eK (by omega);rw[xD So,Sq.1,pJ] at Z6
     have hlen:(aG (x%y*S)).length<=100000:=by
      have:(aG (x%y*S)).length<=D u:=by
       have:=Zm u;rw[xD sQ,Sq.2,pJ] at this;exact this
      omega
     have l1:=ZB (x%y*S) S ⟨hlen,by omega,by omega⟩
     rw[pJ,Nat.mul_div_cancel _ Bm] at l1;simp only[c4] at l1;have zr:I.ref 157054 1 1 0 (D kE+1)=I.ref 157054 1 1 0 (D u):=by rw[sS]
     have v8:I.ref 157075 0 1 0 a4=I.ref 157075 0 1 0 (D eK):=by rw[Mn]
     rw[zr] at jh;rw[v8] at oM;refine an ?_;repeat' (intro (aw:_=_)<;>simp only[aw,go_sem,go_sem_proc,iP,g2,nz,eT,lK,nA,ct,jh,kA,nx,oM,l5,H7,Sp,Z5,Z6,l1,xy iO,c4,nw,n2,show ¬ ((0:Int)-1>=0) by omega,decide_false]<;>try refine aj ?_ ?_)
    ·obtain⟨pre,fl,post,e,D4,Z7,Sr,pP,aly,alz,b5,zs,Bp,ayW,alA,ayX,ayY⟩:=alf (i:=j) (n:=N+2) sQ (by omega) ew alv;have jB:j<a4:=by omega
     rw[Bp,AZ,D4] at v7;subst e;subst D4;rw[H5] at nx;have Z8:((D pre+1:Nat):Int)-1=(D pre:Int):=by omega
     have gn:IntKind.i64.wrap ((D pre:Int)+((N+2:Nat):Int))=((D pre+(N+2):Nat):Int):=by rw[fg _];omega
     have alB:IntKind.i64.wrap (((D pre+(N+2):Nat):Int)-1)=((D pre+(N+1):Nat):Int):=by rw[fg _];omega
     have Mo:IntKind.i64.wrap (((N+2:Nat):Int)-1)=((N+1:Nat):Int):=by rw[fg _];omega
     have Z9:IntKind.i64.wrap (((N+2:Nat):Int)-2)=(N:Int):=by rw[fg _];omega
     have aaa:IntKind.i64.wrap (((D pre+(N+2):Nat):Int)-2)=((D pre+N:Nat):Int):=by rw[fg _];omega
     have br:(D pre)+(N+2)<D kE+1:=by omega
     have bq:(D pre)+(N+1)<D kE+1:=by omega
     have e5:(D pre)+N<D kE+1:=by omega
     have alC:(D pre)+(N+2)+1<=(a6 aH (pre++fl++post)).length:=by rw[oN,sS];omega
     have alD:(D pre)+(N+1)+1<=(a6 aH (pre++fl++post)).length:=by rw[oN,sS];omega
     have aab:(D pre)+N+1<=(a6 aH (pre++fl++post)).length:=by rw[oN,sS];omega
     have aac:=HS (pre:=pre) (post:=post) (show N+2<(D fl) by omega);have alE:=HS (pre:=pre) (post:=post) (show N+1<(D fl) by omega);have D2:=HS (pre:=pre) (post:=post) (show N<(D fl) by omega);have cp:=ale (N:=N) (by omega:(D fl)=N+3);have Mi:=xC (xM pP N);have aad:=nt (xM pP N);rw[hf,mS (by omega)] at Mi;have ki:=ke pP (N+2) (by omega);have jm:=ke pP (N+1) (by omega);have vV:=ke pP N (by omega);generalize fl[N+2]=t2 at *;generalize fl[N+1]=t1 at *;generalize fl[N]=t0 at *;generalize aW (fl.take N)=D0 at *;have alF:IntKind.i64.wrap (t2*2^min (A1 20) 64)=t2*1048576:=by rw[show min (A1 20) 64=20 by decide];exact wrap64 _ (by omega) (by omega)
     have alG:bits .or .i64 (t2*1048576) t1=t2*1048576+t1:=Q7 t2 t1 ki.1 (by omega) jm;have alH:(v1=0)=False:=by simp;omega
     generalize ayZ:t2*1048576+t1=top at *;have ay0:0<=top/\top<1099511627776:=by omega
     have zl:top.tdiv v1=top/v1:=DY (by omega);have R6:top.tmod v1=top%v1:=HR (by omega);have kY:0<=top/v1:=R5 (by omega) (by omega);have sP:top/v1<=top:=Int.ediv_le_self _ (by omega);have alI:IntKind.i64.wrap (top/v1)=top/v1:=wrap64 _ (by omega) (by omega);have Ss:(v.map aH)[N+1]?=some [.int .i64 v1]:=by rw[bG,alu];rfl
     have aae:(v.map aH)[N]?=some [.int .i64 v0]:=by rw[bG,Bo];rfl
     have Si:aW fl<1048576*gp:=by omega
     have alJ:aW fl<(top/v1+1)*gp:=by
      have aL:top+1<=(top/v1+1)*v1:=by
       have E:=zh top v1;have G:=R8 top (show 0<v1 by omega);rw[rI,ny,mC (top/v1)];omega
      have ax:(top+1)*1048576*1048576^N<=(top/v1+1)*v1*1048576*1048576^N:=lJ (lJ aL (by omega)) (by omega)
      have eo:(top/v1+1)*v1*1048576*1048576^N<=(top/v1+1)*gp:=by
       rw[hy,hy];refine xN ?_ (by omega);rw[Bn,<-hy];have:v1*1048576*1048576^N<=(v1*1048576+v0)*1048576^N:=lJ (by omega) (by omega);omega
      have kZ:(top*1048576+t0+1)*1048576^N<=(top+1)*1048576*1048576^N:=lJ (by omega) (by omega);rw[rI _ 1,ny] at kZ;omega
     simp only[go_sem,go_sem_proc,iP,g2,nz,eT,lK,nA,ct,jh,kA,nx,oM,l5,H7,Sp,Z8,gn,alB,Mo,br,bq,alC,alD,aac,alE,alF,alG,alH,zl,R6,alI,Ss,show (D pre:Int)>=0 by omega,decide_true,dE,az,show ¬ ((20:Int)<0) by omega]
     have St:∀(mem:Mem),mem 157054=some (1,a6 aH (pre++fl++post))->∀q:Int,0<=q->q<1048576->aW fl<(q+1)*gp->0<=aW fl-q*gp+gp ->
       HU [.ref 157054 1 1 (D pre) (N+3),.L (.ay (v.map aH)),.L (.int .i64 q)] mem=some (.L (.int .i64 (aW fl/gp)),aV mem 157054 1 (a6 aH (pre++pad (N+3) (aW fl%gp).toNat++post))):=by
      intro mem H7 q kY alK zt jn;have H3:=ald Sn zt jn;have eS:=ak2 ⟨pre,fl,post,gp,q,157054,1⟩ mem ⟨H7,pP,by show (aG gp).length<=D fl;rw[alr];omega,kY,alK,jn,by show (D pre)+D fl<=100000;omega⟩
      simp only[zm,zn,Mh] at eS;rw[H3.1,H3.2,Z7,alq] at eS;exact eS
     have alL:0<=aW fl/gp:=R5 (nt pP) (by omega);have alM:aW fl/gp<1048576:=ZG Sn Si;have ay1:=R7 (aW fl) (show (gp:Int)≠0 by omega);have alN:=R8 (aW fl) Sn
     have alO:aW (pad (N+3) (aW fl%gp).toNat)=aW fl%gp:=by
      rw[akZ]
      ·omega
      ·have G:((1048576^(N+2):Nat):Int)=1048576^(N+2):=by rw[Bk];rfl
       have ad:1048576^(N+2)<=1048576^(N+3):=jU (by omega) (by omega);omega
     have kX:∃a0:Nat×List Int×List Int,a0.1<D pre+1/\a0.1<=a4/\a0.2.1.length=D kE+1/\ec a0.2.1/\a0.2.2.length=a4/\ec a0.2.2/\aW (a0.2.1.drop a0.1)<gp/\(D3:Int)=aW (a0.2.1.take a0.1)+1048576^a0.1*(gp*aW (a0.2.2.drop a0.1)+aW (a0.2.1.drop a0.1)) /\
       I.L (Data.int .i64 ((D pre:Int)-1))=I.L (Data.int .i64 ((a0.1:Int)-1))/\some (1,a6 aH (pre++pad (N+3) (aW fl%gp).toNat++post))=some (1,a6 aH a0.2.1)/\some (0,a6 aH (eK.set (D pre) (aW fl/gp)))=some (0,a6 aH a0.2.2):=by
      have alP:(D eK)=a4:=Mn;have Mn:(D pre)<D eK:=by omega
      have oS:(pre++pad (N+3) (aW fl%gp).toNat++post).drop (D pre)=pad (N+3) (aW fl%gp).toNat++post:=by rw[hh,QS]
      have alQ:(pre++pad (N+3) (aW fl%gp).toNat++post).take (D pre)=pre:=by rw[hh,QR]
      have aaf:aW (pad (N+3) (aW fl%gp).toNat++post)=aW fl%gp:=by rw[AZ,alz,alO];omega
      refine⟨(D pre,pre++pad (N+3) (aW fl%gp).toNat++post,eK.set (D pre) (aW fl/gp)),by dsimp only;omega,by dsimp only;omega,?_,AY.2 ⟨AY.2 ⟨Sr,akY _ _⟩,aly⟩,by rw[fN];exact alP,xP So _ ⟨alL,alM⟩,?_,?_,rfl,rfl,rfl⟩
      ·rw[<-sS];simp[akX,Z7]
      ·dsimp only;rw[oS,aaf];exact alN
      ·dsimp only;rw[oS,aaf,alQ,fY (by simpa using Mn),ru];simp only[xO];rw[ri (by omega)];have E:=zh (aW fl) gp;have G:(gp:Int)*(aW fl/gp+1048576*aW (eK.drop (D pre+1)))=gp*(aW fl/gp)+1048576*(gp*aW (eK.drop (D pre+1))):=by rw[hx,R9]
       rw[G,v7,l3,hy];simp only[aW,vY,HZ];rw[Int.add_assoc,<-hx]
       congr 2
       rw[hx];omega
     have jo:(D pre)+(N+2)+1-D pre=N+3:=by omega
     have g5:IntKind.i64.wrap (((D pre+(N+2):Nat):Int)+1)=((D pre+(N+2)+1:Nat):Int):=by rw[fg _];rfl
     have aag:(D pre)<=D pre+(N+2)+1/\D pre+(N+2)+1<=D kE+1:=by omega
     have aah:(D pre)<a4:=jB;have aai:=λd=>vP eK (D pre) d (by omega);have aaj:(D pre)+1<=(a6 aH eK).length:=by rw[oN];omega
     have HY:IntKind.i64.wrap ((D pre:Int)-1)=(D pre:Int)-1:=wrap64 _ (by omega) (by omega)
     refine dM [8,9,10,11,12,13] [157054,157075] (λ((q,r):Int×Int) tm mem=>0<=q/\0<=r/\q*v1+r=top/\aW fl<(q+1)*gp/\tm 15=.L (.int .i64 q)/\tm 16=.L (.int .i64 r)) (λ(q,_)=>q.toNat) (top/v1,top%v1)
      (by
       refine⟨kY,R7 _ (by omega),?_,alJ,rfl,rfl⟩;have:=zh top v1;rw[mC (top/v1)];omega) ?_
     intro vs ms a7 aY;simp only[go_sem,go_sem_proc,iP,g2,nz,eT,lK,nA,ct,jh,kA,nx,oM,l5,H7,Sp,Z8] at a7 aY;subst a7 aY;rintro⟨q,r⟩ tm mem' Q hm ⟨xU,alR,Bl,zt,zu,m5⟩;simp only[go_sem,go_sem_proc,iP,g2,nz,eT,lK,nA,bs] at Q hm;obtain⟨eH,kj,l7,fa,gQ,rL⟩:=Q;obtain⟨D5,Mp⟩:=hm;have ay2:0<=q*v1:=zj xU (by omega);have v9:q*524288<=q*v1:=xN sD xU;have ay3:0<=q*v0:=zj xU rJ.1;have ay4:q*v0<=q*1048576:=xN (by omega) xU;have D6:IntKind.i64.wrap (q*v0)=q*v0:=wrap64 _ (by omega) (by omega);have aak:IntKind.i64.wrap (q-1)=q-1:=wrap64 _ (by omega) (by omega);have aal:IntKind.i64.wrap (r+v1)=r+v1:=wrap64 _ (by omega) (by omega);have aam:IntKind.i64.wrap (r*2^min (A1 20) 64)=r*1048576:=by rw[show min (A1 20) 64=20 by decide];exact wrap64 _ (by omega) (by omega)
     have aan:bits .or .i64 (r*1048576) t0=r*1048576+t0:=Q7 r t0 alR (by omega) vV
     have LA:(q>=1048576\/q*v0>r*1048576+t0)->∃a0:Int×Int,a0.1.toNat<q.toNat/\0<=a0.1/\0<=a0.2/\a0.1*v1+a0.2=top/\aW fl<(a0.1+1)*gp/\I.L (Data.int .i64 (q-1))=I.L (Data.int .i64 a0.1)/\I.L (Data.int .i64 (r+v1))=I.L (Data.int .i64 a0.2):=by
      intro Z;have E:=alb Bn cp dh Sm Mi xU (by omega) Si Bl Z
      have Su:0<q:=by
       rcases eC (0<q) with h|h
       ·exact h
       ·obtain rfl:q=0:=by omega
        have:=nt pP;omega
      exact⟨(q-1,r+v1),by dsimp only;omega,by dsimp only;omega,by dsimp only;omega,by dsimp only;rw[ZT];omega,by dsimp only;rw[Int.sub_add_cancel];exact E,rfl,rfl⟩
     by_cases iu:q>=1048576
     ·refine an ?_;repeat' (intro (aw:_=_)<;>simp only[aw,go_sem,go_sem_proc,iP,g2,nz,eT,lK,nA,eH,kj,l7,fa,gQ,rL,D5,Mp,zu,m5,iu,aak,aal,Mo,Ss,decide_true,dE,az]<;>try refine aj ?_ ?_)
      exact LA (.inl iu)
     ·by_cases nm:r<1048576
      ·by_cases hc3:q*v0>r*1048576+t0
       ·refine an ?_;repeat' (intro (aw:_=_)<;>simp only[aw,go_sem,go_sem_proc,iP,g2,nz,eT,lK,nA,eH,kj,l7,fa,gQ,rL,D5,Mp,zu,m5,iu,nm,hc3,D6,aak,aal,aam,aan,gn,Mo,Z9,aaa,e5,aab,D2,Ss,aae,decide_true,decide_false,dE,az,show ¬ ((20:Int)<0) by omega]<;>try refine aj ?_ ?_)
        exact LA (.inr hc3)
       ·have eS:=St mem' D5 q xU (by omega) zt (ZS Bn cp dh ⟨Sm,Sl⟩ aad xU (by omega) sD rJ vV.1 Bl (.inr (by omega)));refine an ?_;repeat' (intro (aw:_=_)<;>simp only[aw,go_sem,go_sem_proc,iP,g2,nz,eT,lK,nA,eH,kj,l7,fa,gQ,rL,D5,Mp,zu,m5,iu,nm,hc3,D6,aam,aan,gn,g5,Mo,Z9,aaa,e5,aab,D2,aae,jo,aag,eS,aah,aaj,aai,HY,H5,decide_true,decide_false,dE,az,show ¬ ((20:Int)<0) by omega]<;>try refine aj ?_ ?_)
        exact kX
      ·have eS:=St mem' D5 q xU (by omega) zt (ZS Bn cp dh ⟨Sm,Sl⟩ aad xU (by omega) sD rJ vV.1 Bl (.inl (by omega)));refine an ?_;repeat' (intro (aw:_=_)<;>simp only[aw,go_sem,go_sem_proc,iP,g2,nz,eT,lK,nA,eH,kj,l7,fa,gQ,rL,D5,Mp,zu,m5,iu,nm,gn,g5,jo,aag,eS,aah,aaj,aai,HY,H5,decide_true,decide_false,dE,az]<;>try refine aj ?_ ?_)
       exact kX
def da:Nat:=1048576^60
def bu (z:Int):Raw:=(z.sign,aG z.natAbs)
def gI (a:Raw):Int:=a.1*aW a.2
def eI (z:Int):gI (bu z)=z:=by
 unfold gI bu;rw[kB];exact D7 z
def H8 (d:Int):mE d=true↔0<=d/\d<1048576:=by
 unfold mE;simp;omega
def gR (a:Raw):cx a=true↔∃z:Int,z.natAbs<da/\a=bu z:=by
 obtain⟨s,l⟩:=a;unfold cx da;rw[dH,jO]
 constructor
 ·rintro⟨E,G⟩;have ae:ec l:=λd ae=>(H8 d).1 (E d ae)
  split at G
  ·rename_i h;have af:l=[]:=qf (by simpa using h);subst af;have R:s=0:=by simpa using G
   subst R;exact⟨0,by simp,rfl⟩
  ·rename_i h;simp at G;obtain⟨⟨R,hlen⟩,H9⟩:=G;have Z:=canon ae (by simpa using H9);have ai:=nt ae
   have Mq:aW l≠0:=by
    intro al;rw[al] at Z;rw[Z] at h;simp[qt] at h
   refine⟨s*aW l,?_,?_⟩
   ·have:(s*aW l).natAbs=(aW l).toNat:=by rw[k1];rcases R with rfl|rfl<;>simp<;>omega
    rw[this,<-fw,<-Z];exact hlen
   ·unfold bu;have:(s*aW l).natAbs=(aW l).toNat:=by rw[k1];rcases R with rfl|rfl<;>simp<;>omega
    rw[this,<-Z]
    congr 1
    rcases R with rfl|rfl
    ·rw[ny,gJ (by omega)]
    ·rw[Bq,ny,D8,gJ (by omega)]
 ·rintro⟨z,aQ,h⟩
  cases h;refine⟨λd ae=>(H8 d).2 (lF _ d ae),?_⟩
  by_cases al:z=0
  ·subst al;rfl
  ·have aE:aG z.natAbs≠[]:=by rw[Ne,xB];omega
   rw[ar (by simp;exact aE)];have af:=fw.2 aQ;have mB:=YG z.natAbs;simp only[dH,Bool.or_eq_true,beq_iff_eq,decide_eq_true_eq,bne_iff_ne,ne_eq];refine⟨⟨?_,af⟩,mB⟩;rcases pQ z 0 with h|h|h
   ·exact .inr (kF h)
   ·exact absurd h al
   ·exact .inl (gJ h)
def jV {z:Int}(h:z.natAbs<da):cx (bu z)=true:=(gR _).2 ⟨z,h,rfl⟩
def D9 (c:Raw):Raw×Int:=if decide ((c.2.length:Int)>60)=true then ((0,[]),6) else (c,0)
def oT (z:Int):Raw×Int:=if z.natAbs<da then (bu z,0) else ((0,[]),6)
def eJ (x:Raw×Int):Data:=.de [.agg (c0 x.1),.int .i64 x.2]
def alS (s:Int)(n:Nat):jk s (aG n)=if n=0 then (0,[]) else (s,aG n):=by
 unfold jk;rw[YF]
 by_cases h:n=0
 ·subst h;rfl
 ·have:aG n≠[]:=by rw[Ne,xB];exact h
  rw[ar h,ar (by simp;exact this)]
def l8 {s:Int}{n:Nat}{z:Int}(h:z.natAbs=n)(R:n≠0->s=z.sign):jk s (aG n)=bu z:=by
 rw[alS];subst h
 by_cases al:z.natAbs=0
 ·obtain rfl:z=0:=by omega
  rfl
 ·rw[ar al,R al]
  rfl
def ub (z:Int):D9 (bu z)=oT z:=by
 unfold D9 oT bu da;have:=fw (n:=z.natAbs) (k:=60)
 by_cases h:z.natAbs<1048576^60
 ·have:=this.2 h;rw[ar (by simp;omega),aq h]
 ·have:=mt this.1 h;rw[aq (by simp;omega),ar h]
abbrev Mr:Bool×Int×(List Int)->List Data:=λ(r,s,l)=>[.bool r,.agg [.int .i64 s,.ay (l.map aH)]]
def Ea:=b1 Mr λ(r,s,l)=>some (.same (eJ (if r=true then D9 (s,l) else ((0,[]),1))))
def alT:∀a b,Mr a=Mr b->a=b:=by
  rintro⟨fK,s1,ig⟩ ⟨hd,s2,ab⟩ h;simp only[bs,Data.bool.injEq,Data.agg.injEq,Data.int.injEq,Data.ay.injEq] at h;exact cy h.1 (cy h.2.1.1.2 (map_inj fi _ _ h.2.1.2.1))
@[go_sem] def Eb (r s l):=tS Ea rfl alT (r,s,l) rfl
def alU (T:bl):WF T YW Ea:=by
 refine cq λ(r,s,l)=>⟨rfl,cr ?_⟩;simp only[YW,Mr,b8]
 cases r
 ·refine an ?_;repeat' (intro h<;>simp only[h,go_sem,go_sem_proc,az]<;>try refine aj ?_ ?_)
  rfl
 ·refine an ?_;repeat' (intro h<;>simp only[h,go_sem,go_sem_proc,az]<;>try refine aj ?_ ?_)
  all_goals (simp only[eJ,c0,D9];simp only[cl, *,reduceIte,dT,dY,pF,m0,oG,l2,rp,gy,h2,e1,df,beq_self_eq_true,bne])
def kk (a:Raw):Raw:=if cx a=true then bu (-gI a) else (0,[])
def aao (z:Int):jk (-z.sign) (aG z.natAbs)=bu (-z):=l8 (by omega) λ_=>by rw[D8]
def Ia:=b1 oL λ(s,l)=>cu (D l<=1000000) (.same (.agg (c0 (kk (s,l)))))
@[go_sem] def ay5 (s l):=cL Ia rfl Be (s,l) rfl
def alV (T:bl)(eD:T jS=aT sM)(g2:T vJ=aT zg)(gK:T nu=aT xL):WF T YT Ia:=by
 refine cq λ(s,l)=>cR λZ=>⟨rfl,cr ?_⟩;simp only[YT,oL,b8]
 by_cases M:cx (s,l)=true
 ·obtain⟨z,aQ,e⟩:=(gR _).1 M;have aL:kk (s,l)=bu (-z):=by unfold kk;rw[aq M,e,eI]
  cases e
  have hw:IntKind.i64.wrap (0-z.sign) = -z.sign:=by
   have:=aap z;rw[fg _];omega
  rw[aL];refine an ?_;repeat' (intro h<;>simp only[h,go_sem,go_sem_proc,eD,g2,gK,M,Z,hw,aao,c0]<;>try refine aj ?_ ?_)
 ·have M:cx (s,l)=false:=by simpa using M
  have aL:kk (s,l)=(0,[]):=by unfold kk;rw[M];rfl
  rw[aL];refine an ?_;repeat' (intro h<;>simp only[h,go_sem,go_sem_proc,eD,g2,gK,M,Z,c0,cl]<;>try refine aj ?_ ?_)
def nB (a:Raw):(a.1,a.2)=a:=rfl
def mulR (a b:Raw):Raw×Int:=if (cx a&&cx b)=true then oT (gI a*gI b) else ((0,[]),1)
def xV {x y:Int}(J:x.natAbs<da)(ag:y.natAbs<da):mulR (bu x) (bu y)=oT (x*y):=by
 unfold mulR;rw[jV J,jV ag,eI,eI]
 rfl
def l9 {z:Int}(h:z.natAbs<da):(aG z.natAbs).length<=60:=fw.2 h
def ma (z:Int):-1<=z.sign/\z.sign<=1:=by
 have:=aap z;omega
abbrev iB:Int×(List Int)×Int×(List Int)->List Data:=λ(s,l,s2,ab)=>[.agg [.int .i64 s,.ay (l.map aH)],.agg [.int .i64 s2,.ay (ab.map aH)]]
def Br:=b1 iB λ(s,l,s2,ab)=>cu (D l<=1000000/\D ab<=1000000) (.same (eJ (mulR (s,l) (s2,ab))))
def qy:∀a b,iB a=iB b->a=b:=by
  rintro⟨s1,ig,rM,qz⟩ ⟨s2,ab,rN,qA⟩ h;simp only[bs,Data.agg.injEq,Data.int.injEq,Data.ay.injEq] at h;exact cy h.1.1.2 (cy (map_inj fi _ _ h.1.2.1) (cy h.2.1.1.2 (map_inj fi _ _ h.2.1.2.1)))
@[go_sem] def ay6 (s l s2 ab):=cL Br rfl qy (s,l,s2,ab) rfl
def alW (T:bl)(eD:T jS=aT sM)(lK:T DJ=aT HO)(gK:T nu=aT xL)(n6:T sJ=aT Ea):WF T YR Br:=by
 refine cq λ(s,l,s2,ab)=>cR λZ=>⟨rfl,cr ?_⟩;simp only[YR,iB,b8];obtain⟨br,bq⟩:=Z
 by_cases M:cx (s,l)=true
 ·by_cases aP:cx (s2,ab)=true
  ·obtain⟨x,J,e⟩:=(gR _).1 M;obtain⟨y,ag,ax⟩:=(gR _).1 aP;have hm:mulR (s,l) (s2,ab)=oT (x*y):=by rw[e,ax];exact xV J ag
   rw[hm];clear hm
   cases e
   cases ax;have E:=ma x;have G:=ma y;have aD:x.sign*y.sign=(x*y).sign:=(nC x y).symm;have ad:=ma (x*y);have hw:IntKind.i64.wrap (x.sign*y.sign)=(x*y).sign:=by rw[aD];exact wrap64 _ (by omega) (by omega)
   have hmul:=R0 x.natAbs y.natAbs ⟨cN (l9 J) (by omega),cN (l9 ag) (by omega)⟩;simp only[c4] at hmul
   have hlen:(aG (x.natAbs*y.natAbs)).length<=1000000:=by
    refine cN ((fw (k:=120)).2 ?_) (by omega);have:(1048576^120:Nat)=da*da:=by unfold da;rw[<-Nat.pow_add]
    rw[this];exact Nat.mul_lt_mul'' J ag
   have R:jk (x*y).sign (aG (x.natAbs*y.natAbs))=bu (x*y):=l8 (k1 x y) λ_=>rfl;refine an ?_;repeat' (intro h<;>simp only[h,go_sem,go_sem_proc,eD,lK,gK,n6,M,aP,br,bq,hw,hmul,hlen,R,ub,c0,eJ,nB]<;>try refine aj ?_ ?_)
  ·have aP:cx (s2,ab)=false:=by simpa using aP
   have hm:mulR (s,l) (s2,ab)=((0,[]),1):=by unfold mulR;rw[aP,h2];rfl
   rw[hm];have kG:=Eb false 0 [];simp only[cl] at kG;refine an ?_;repeat' (intro h<;>simp only[h,go_sem,go_sem_proc,eD,lK,gK,n6,M,aP,br,bq,kG,c0,eJ,cl]<;>try refine aj ?_ ?_)
 ·have M:cx (s,l)=false:=by simpa using M
  have hm:mulR (s,l) (s2,ab)=((0,[]),1):=by unfold mulR;rw[M,e1];rfl
  rw[hm];have kG:=Eb false 0 [];simp only[cl] at kG;refine an ?_;repeat' (intro h<;>simp only[h,go_sem,go_sem_proc,eD,lK,gK,n6,M,br,bq,kG,c0,eJ,cl]<;>try refine aj ?_ ?_)
def mb (a b:Raw):Raw×Int:=if (cx a&&cx b)=true then oT (gI a+gI b) else ((0,[]),1)
def Sv {x y:Int}(J:x.natAbs<da)(ag:y.natAbs<da):mb (bu x) (bu y)=oT (x+y):=by
 unfold mb;rw[jV J,jV ag,eI,eI]
 rfl
def Ec (a b:Nat):(aG (a-b)).length<=(aG a).length:=by
 rw[fw];exact vS (Nat.sub_le a b) (fw.1 (bM _))
def Ms:=b1 iB λ(s,l,s2,ab)=>cu (D l<=1000000/\D ab<=1000000) (.same (eJ (mb (s,l) (s2,ab))))
@[go_sem] def ay7 (s l s2 ab):=cL Ms rfl qy (s,l,s2,ab) rfl
def alX (T:bl)(eD:T jS=aT sM)(Ib:T Ro=aT Md)(sT:T Hy=aT HM)(sU:T DL=aT HN)(iP:T A7=aT DT)(gK:T nu=aT xL)(n6:T sJ=aT Ea):WF T Y0 Ms:=by
 refine cq λ(s,l,s2,ab)=>cR λZ=>⟨rfl,cr ?_⟩;simp only[Y0,iB,b8];obtain⟨br,bq⟩:=Z
 by_cases M:cx (s,l)=true
 ·by_cases aP:cx (s2,ab)=true
  ·obtain⟨x,J,e⟩:=(gR _).1 M;obtain⟨y,ag,ax⟩:=(gR _).1 aP;have hm:mb (s,l) (s2,ab)=oT (x+y):=by rw[e,ax];exact Sv J ag
   rw[hm];clear hm
   cases e
   cases ax;have E:=ma x;have G:=ma y;have m6:=l9 J;have kh:=l9 ag;have alY:=D7 x;have alZ:=D7 y
   have m7:(x.sign=1/\0<x)\/(x.sign=0/\x=0)\/(x.sign = -1/\x<0):=by
    rcases pQ x 0 with h|h|h
    ·exact .inr (.inr ⟨kF h,h⟩)
    ·exact .inr (.inl ⟨by rw[h];rfl,h⟩)
    ·exact .inl ⟨gJ h,h⟩
   have ty:(y.sign=1/\0<y)\/(y.sign=0/\y=0)\/(y.sign = -1/\y<0):=by
    rcases pQ y 0 with h|h|h
    ·exact .inr (.inr ⟨kF h,h⟩)
    ·exact .inr (.inl ⟨by rw[h];rfl,h⟩)
    ·exact .inl ⟨gJ h,h⟩
   have pR:=Zr x.natAbs y.natAbs ⟨by omega,by omega⟩
   simp only[c4] at pR
   have hlen:(aG (x.natAbs+y.natAbs)).length<=1000000:=by
    refine cN ((fw (k:=61)).2 ?_) (by omega);have:(1048576^61:Nat)=da*1048576:=by unfold da;rw[<-rv]
    omega
   have sO:=akF [x.sign,y.sign] (by simp);simp only[hv,cl,aH] at sO;have g0:=RP x.natAbs y.natAbs ⟨by omega,by omega⟩
   simp only[c4] at g0
   by_cases aD:x.sign*y.sign>=0
   ·have hw:IntKind.i64.wrap (x.sign*y.sign)=x.sign*y.sign:=by
     rcases m7 with ⟨e,_⟩|⟨e,_⟩|⟨e,_⟩<;>rw[e]<;>exact wrap64 _ (by omega) (by omega)
    have R:jk (xK [x.sign,y.sign]) (aG (x.natAbs+y.natAbs))=bu (x+y):=by
     refine l8 ?_ ?_
     ·rcases m7 with ⟨e,_⟩|⟨e,_⟩|⟨e,_⟩<;>rcases ty with ⟨e',_⟩|⟨e',_⟩|⟨e',_⟩<;>rw[e,e'] at aD<;>omega
     ·intro aE;rcases m7 with ⟨e,_⟩|⟨e,_⟩|⟨e,_⟩<;>rcases ty with ⟨e',_⟩|⟨e',_⟩|⟨e',_⟩<;>rw[e,e'] at aD ⊢
      ·exact (gJ (by omega)).symm
      ·exact (gJ (by omega)).symm
      ·omega
      ·exact (gJ (by omega)).symm
      ·omega
      ·exact (kF (by omega)).symm
      ·omega
      ·exact (kF (by omega)).symm
      ·exact (kF (by omega)).symm
    refine an ?_;repeat' (intro (aw:_=_)<;>simp only[aw,go_sem,go_sem_proc,eD,Ib,sT,sU,iP,gK,n6,M,aP,br,bq,hw,aD,decide_true,sO,pR,hlen,R,ub,c0,eJ,nB]<;>try refine aj ?_ ?_)
   ·have hw:IntKind.i64.wrap (x.sign*y.sign)=x.sign*y.sign:=by
     rcases m7 with ⟨e,_⟩|⟨e,_⟩|⟨e,_⟩<;>rw[e]<;>exact wrap64 _ (by omega) (by omega)
    by_cases au:x.natAbs<y.natAbs
    ·have rO:decide (gH x.natAbs y.natAbs<0)=true:=by unfold gH;rw[aq (by simp;omega)];rfl
     have jo:=RY y.natAbs x.natAbs ⟨by omega,by omega⟩
     simp only[c4] at jo;have Bs:(aG (y.natAbs-x.natAbs)).length<=1000000:=cN (Ec _ _) (by omega)
     have R:jk y.sign (aG (y.natAbs-x.natAbs))=bu (x+y):=by
      refine l8 ?_ ?_
      ·rcases m7 with ⟨e,_⟩|⟨e,_⟩|⟨e,_⟩<;>rcases ty with ⟨e',_⟩|⟨e',_⟩|⟨e',_⟩<;>rw[e,e'] at aD<;>omega
      ·intro aE;rcases m7 with ⟨e,_⟩|⟨e,_⟩|⟨e,_⟩<;>rcases ty with ⟨e',_⟩|⟨e',_⟩|⟨e',_⟩<;>rw[e,e'] at aD<;>rw[e']<;>first|omega|exact (gJ (by omega)).symm|exact (kF (by omega)).symm
     refine an ?_;repeat' (intro (aw:_=_)<;>simp only[aw,go_sem,go_sem_proc,eD,Ib,sT,sU,iP,gK,n6,M,aP,br,bq,hw,aD,decide_false,g0,rO,jo,Bs,R,ub,c0,eJ,nB]<;>try refine aj ?_ ?_)
    ·have rO:decide (gH x.natAbs y.natAbs<0)=false:=by unfold gH;rw[ar (by simp;omega)];split<;>rfl
     have jo:=RY x.natAbs y.natAbs ⟨by omega,by omega⟩
     simp only[c4] at jo;have Bs:(aG (x.natAbs-y.natAbs)).length<=1000000:=cN (Ec _ _) (by omega)
     have R:jk x.sign (aG (x.natAbs-y.natAbs))=bu (x+y):=by
      refine l8 ?_ ?_
      ·rcases m7 with ⟨e,_⟩|⟨e,_⟩|⟨e,_⟩<;>rcases ty with ⟨e',_⟩|⟨e',_⟩|⟨e',_⟩<;>rw[e,e'] at aD<;>omega
      ·intro aE;rcases m7 with ⟨e,_⟩|⟨e,_⟩|⟨e,_⟩<;>rcases ty with ⟨e',_⟩|⟨e',_⟩|⟨e',_⟩<;>rw[e,e'] at aD<;>rw[e]<;>first|omega|exact (gJ (by omega)).symm|exact (kF (by omega)).symm
     refine an ?_;repeat' (intro (aw:_=_)<;>simp only[aw,go_sem,go_sem_proc,eD,Ib,sT,sU,iP,gK,n6,M,aP,br,bq,hw,aD,decide_false,g0,rO,jo,Bs,R,ub,c0,eJ,nB]<;>try refine aj ?_ ?_)
  ·have aP:cx (s2,ab)=false:=by simpa using aP
   have hm:mb (s,l) (s2,ab)=((0,[]),1):=by unfold mb;rw[aP,h2];rfl
   rw[hm];have kG:=Eb false 0 [];simp only[cl] at kG;refine an ?_;repeat' (intro (aw:_=_)<;>simp only[aw,go_sem,go_sem_proc,eD,Ib,sT,sU,iP,gK,n6,M,aP,br,bq,kG,c0,eJ,cl]<;>try refine aj ?_ ?_)
 ·have M:cx (s,l)=false:=by simpa using M
  have hm:mb (s,l) (s2,ab)=((0,[]),1):=by unfold mb;rw[M,e1];rfl
  rw[hm];have kG:=Eb false 0 [];simp only[cl] at kG;refine an ?_;repeat' (intro (aw:_=_)<;>simp only[aw,go_sem,go_sem_proc,eD,Ib,sT,sU,iP,gK,n6,M,br,bq,kG,c0,eJ,cl]<;>try refine aj ?_ ?_)
def jC (x:Int):(x.sign=1/\0<x)\/(x.sign=0/\x=0)\/(x.sign = -1/\x<0):=by
 rcases pQ x 0 with h|h|h
 ·exact .inr (.inr ⟨kF h,h⟩)
 ·exact .inr (.inl ⟨by rw[h];rfl,h⟩)
 ·exact .inl ⟨gJ h,h⟩
def oU (a b:Raw):Int:=if (cx a&&cx b)=true then gH (gI a) (gI b) else 0
def Mt {x y:Int}(J:x.natAbs<da)(ag:y.natAbs<da):oU (bu x) (bu y)=gH x y:=by
 unfold oU;rw[jV J,jV ag,eI,eI]
 rfl
def Bt {x y:Int}(h:x<y):gH x y = -1:=by unfold gH;rw[aq (by simpa using h)]
def Bu {x y:Int}(h:y<x):gH x y=1:=by unfold gH;rw[ar (by simp;omega),aq (by simpa using h)]
def Ed (x:Int):gH x x=0:=by unfold gH;simp
def Mu:=b1 iB λ(s,l,s2,ab)=>cu (D l<=1000000/\D ab<=1000000) (.same (.int .i64 (oU (s,l) (s2,ab))))
@[go_sem] def ay8 (s l s2 ab):=cL Mu rfl qy (s,l,s2,ab) rfl
def al0 (T:bl)(eD:T jS=aT sM)(sN:T DM=aT HK)(iP:T A7=aT DT):WF T YV Mu:=by
 refine cq λ(s,l,s2,ab)=>cR λZ=>⟨rfl,cr ?_⟩;simp only[YV,iB,b8];obtain⟨br,bq⟩:=Z
 by_cases M:cx (s,l)=true
 ·by_cases aP:cx (s2,ab)=true
  ·obtain⟨x,J,e⟩:=(gR _).1 M;obtain⟨y,ag,ax⟩:=(gR _).1 aP;have hm:oU (s,l) (s2,ab)=gH x y:=by rw[e,ax];exact Mt J ag
   rw[hm];clear hm
   cases e
   cases ax;have m6:=l9 J;have kh:=l9 ag;have g0:=RP x.natAbs y.natAbs ⟨by omega,by omega⟩
   simp only[c4] at g0
   by_cases R:x.sign=y.sign
   ·have xW:(x.sign==y.sign)=true:=by simpa using R
    have lC:IntKind.i64.wrap (y.sign*gH x.natAbs y.natAbs)=gH x y:=by
     rcases jC x with ⟨e,E⟩|⟨e,E⟩|⟨e,E⟩<;>rcases jC y with ⟨e',G⟩|⟨e',G⟩|⟨e',G⟩<;>rw[e,e'] at R<;>first|omega|skip
     ·rw[e',ny,show (x.natAbs:Int)=x by omega,show (y.natAbs:Int)=y by omega]
      rcases pQ x y with h|h|h
      ·rw[Bt h];rfl
      ·rw[h,Ed];rfl
      ·rw[Bu h];rfl
     ·rw[e',E,G];rfl
     ·rw[e'];rcases pQ x y with h|h|h
      ·rw[Bt h,Bu (by omega)];rfl
      ·rw[h,Ed,Ed];rfl
      ·rw[Bu h,Bt (by omega)];rfl
    rw[<-R] at lC;refine an ?_;repeat' (intro (aw:_=_)<;>simp only[aw,go_sem,go_sem_proc,eD,sN,iP,M,aP,br,bq,xW,g0,lC]<;>try refine aj ?_ ?_)
   ·have xW:(x.sign==y.sign)=false:=by simpa using R
    have lC:gH x.sign y.sign=gH x y:=by
     rcases jC x with ⟨e,E⟩|⟨e,E⟩|⟨e,E⟩<;>rcases jC y with ⟨e',G⟩|⟨e',G⟩|⟨e',G⟩<;>rw[e,e'] at R ⊢<;>first|omega|(rw[Bt (show x<y by omega)];rfl)|(rw[Bu (show y<x by omega)];rfl)
    refine an ?_;repeat' (intro (aw:_=_)<;>simp only[aw,go_sem,go_sem_proc,eD,sN,iP,M,aP,br,bq,xW,lC]<;>try refine aj ?_ ?_)
  ·have aP:cx (s2,ab)=false:=by simpa using aP
   have hm:oU (s,l) (s2,ab)=0:=by unfold oU;rw[aP,h2];rfl
   rw[hm];refine an ?_;repeat' (intro (aw:_=_)<;>simp only[aw,go_sem,go_sem_proc,eD,sN,iP,M,aP,br,bq]<;>try refine aj ?_ ?_)
 ·have M:cx (s,l)=false:=by simpa using M
  have hm:oU (s,l) (s2,ab)=0:=by unfold oU;rw[M,e1];rfl
  rw[hm];refine an ?_;repeat' (intro (aw:_=_)<;>simp only[aw,go_sem,go_sem_proc,eD,sN,iP,M,br,bq]<;>try refine aj ?_ ?_)
def lL (a b:Raw):Raw×Int:=if (cx a&&cx b)=true then (bu (fO (gI a).natAbs (gI b).natAbs:Nat),0) else ((0,[]),1)
def Ee {x y:Int}(J:x.natAbs<da)(ag:y.natAbs<da):fO x.natAbs y.natAbs<da:=by
 rcases iK x.natAbs with h|h
 ·rw[h,Nat.gcd_zero_left];exact ag
 ·exact vS (Nat.gcd_le_left _ h) J
def Ic:=b1 iB λ(s,l,s2,ab)=>cu (D l<=1000000/\D ab<=1000000) (.same (eJ (lL (s,l) (s2,ab))))
@[go_sem] def ay9 (s l s2 ab):=cL Ic rfl qy (s,l,s2,ab) rfl
def al1 (T:bl)(eD:T jS=aT sM)(g2:T vJ=aT zg)(qB:T Hv=aT H0)(gK:T nu=aT xL)(n6:T sJ=aT Ea):WF T YQ Ic:=by
 refine cq λ(s,l,s2,ab)=>cR λZ=>⟨rfl,cr ?_⟩;simp only[YQ,iB,b8];obtain⟨br,bq⟩:=Z
 by_cases M:cx (s,l)=true
 ·by_cases aP:cx (s2,ab)=true
  ·obtain⟨x,J,e⟩:=(gR _).1 M;obtain⟨y,ag,ax⟩:=(gR _).1 aP
   have hm:lL (s,l) (s2,ab)=(bu (fO x.natAbs y.natAbs:Nat),0):=by
    rw[e,ax];unfold lL
    rw[jV J,jV ag,eI,eI]
    rfl
   rw[hm];clear hm
   cases e
   cases ax;have m6:=l9 J;have kh:=l9 ag;have aC:=Ee J ag;generalize qw:x.natAbs=X at *;generalize qC:y.natAbs=c5 at *;have Ie:(aG X).length<=1000000:=by omega
   simp only[go_sem,go_sem_proc,eD,g2,qB,gK,n6,M,aP,qw,qC,br,bq,Ie,aH,az];refine dM [4] [137004] (λ((a,b):Nat×Nat) tm mem=>a<da/\b<da/\fO X c5=fO a b/\tm 6=.L (.ay ((aG a).map aH))/\tm 7=.L (.ay ((aG b).map aH))) (λ(_,b)=>b) (X,c5) (by refine⟨J,ag,rfl,rfl,rfl⟩) ?_;intro vs ms a7 aY;simp only[go_sem,go_sem_proc,eD,g2,qB,gK,n6,qw,qC] at a7 aY;subst a7 aY;rintro⟨a,b⟩ tm mem Q hm ⟨a5,U,uc,bD,bL⟩;simp only[go_sem,go_sem_proc,eD,g2,qB,gK,n6,bs] at Q hm;have aK:=Q;have mB:(aG a).length<=60:=fw.2 a5;have pM:(aG b).length<=60:=fw.2 U;rcases iK b with al|hn
   ·subst al;have aQ:aG 0=[]:=rfl;have Sw:(aG a).length<=1000000:=by omega
    rw[Nat.gcd_zero_right] at uc;have R:jk 1 (aG a)=bu ((a:Nat):Int):=l8 (by simp) λaE=>(gJ (by omega)).symm;have Q:oT ((a:Nat):Int)=(bu ((a:Nat):Int),0):=by unfold oT;rw[aq (by simpa using a5)]
    rw[uc];refine an ?_;repeat' (intro h<;>simp only[h,go_sem,go_sem_proc,eD,g2,qB,gK,n6,aK,bD,bL,hm,aQ,Sw,R,Q,ub,c0,eJ,nB,cl,lD,nw,n2,show ¬ ((0:Int)>0) by omega,decide_false]<;>try refine aj ?_ ?_)
   ·have bc:decide (((aG b).length:Int)>0)=true:=by
     have:aG b≠[]:=by rw[Ne,xB];omega
     have:=Ig.2 this;exact dW
    have hdiv:=ZX a b ⟨by omega,by omega,hn⟩
    simp only[c4] at hdiv;refine an ?_;repeat' (intro h<;>simp only[h,go_sem,go_sem_proc,eD,g2,qB,gK,n6,aK,bD,bL,hm,bc,hdiv,az]<;>try refine aj ?_ ?_)
    exact⟨(b,a%b),m1 _ hn,U,vS (Nat.mod_le _ _) a5,by dsimp only;rw[uc,Ih a b,Nat.gcd_rec b a,Ih],rfl,rfl⟩
  ·have aP:cx (s2,ab)=false:=by simpa using aP
   have hm:lL (s,l) (s2,ab)=((0,[]),1):=by unfold lL;rw[aP,h2];rfl
   rw[hm];have kG:=Eb false 0 [];simp only[cl] at kG;refine an ?_;repeat' (intro h<;>simp only[h,go_sem,go_sem_proc,eD,g2,qB,gK,n6,M,aP,br,bq,kG,c0,eJ,cl]<;>try refine aj ?_ ?_)
 ·have M:cx (s,l)=false:=by simpa using M
  have hm:lL (s,l) (s2,ab)=((0,[]),1):=by unfold lL;rw[M,e1];rfl
  rw[hm];have kG:=Eb false 0 [];simp only[cl] at kG;refine an ?_;repeat' (intro h<;>simp only[h,go_sem,go_sem_proc,eD,g2,qB,gK,n6,M,br,bq,kG,c0,eJ,cl]<;>try refine aj ?_ ?_)
def k2 (a b:Raw):Raw×Raw×Int :=
 if (cx a&&cx b)=true then
  if gI b=0 then ((0,[]),(0,[]),15) else (bu ((gI a).fdiv (gI b)),bu ((gI a).fmod (gI b)),0)
 else ((0,[]),(0,[]),1)
def k3 (x:Raw×Raw×Int):Data:=.de [.agg (c0 x.1),.agg (c0 x.2.1),.int .i64 x.2.2]
def aaq {x y q r:Int}(h:r+y*q=x)(M:(0<=r/\r<y)\/(y<r/\r<=0)):x.fdiv y=q/\x.fmod y=r:=by
 rcases M with ⟨E,G⟩|⟨E,G⟩
 ·exact (Int.fdiv_fmod_unique (by omega)).2 ⟨h,E,G⟩
 ·exact (Int.fdiv_fmod_unique' (by omega)).2 ⟨h,E,G⟩
def Mv {x y:Int}(h:x.sign*y.sign<0)(hm:x.natAbs%y.natAbs≠0):
  x.fdiv y = -((x.natAbs/y.natAbs+1:Nat):Int)/\x.fmod y=y.sign*((y.natAbs-x.natAbs%y.natAbs:Nat):Int):=by
 have G:=LJ x.natAbs y.natAbs;generalize eO:x.natAbs/y.natAbs=ak at *;generalize ew:x.natAbs%y.natAbs=bS at *
 have ag:0<y.natAbs:=by
  rcases iK y.natAbs with al|al
  ·rw[Int.natAbs_eq_zero.1 al] at h;simp at h
  ·exact al
 have au:bS<y.natAbs:=by rw[<-ew];exact m1 _ ag
 have tF:(y.natAbs:Int)*ak+bS=x.natAbs:=by exact_mod_cast G
 refine aaq ?_ ?_
 ·rcases jC x with ⟨e,E⟩|⟨e,E⟩|⟨e,E⟩<;>rcases jC y with ⟨e',ad⟩|⟨e',ad⟩|⟨e',ad⟩<;>rw[e,e'] at h<;>first|omega|rw[e']
  ·rw[aar (by omega),aas,DZ,hx];have:(y.natAbs:Int) = -y:=by omega
   rw[this] at tF ⊢;rw[Bq] at tF;omega
  ·rw[aar (by omega),aas,DZ,hx];have:(y.natAbs:Int)=y:=by omega
   rw[this] at tF ⊢;omega
 ·rcases jC y with ⟨e',ad⟩|⟨e',ad⟩|⟨e',ad⟩<;>rw[e']<;>omega
def Mw {x y:Int}(ag:y≠0)(h:¬ (x.sign*y.sign<0/\x.natAbs%y.natAbs≠0)):
  x.fdiv y=x.sign*y.sign*((x.natAbs/y.natAbs:Nat):Int)/\x.fmod y=x.sign*((x.natAbs%y.natAbs:Nat):Int):=by
 have G:=LJ x.natAbs y.natAbs;have au:x.natAbs%y.natAbs<y.natAbs:=m1 _ (by omega);generalize eO:x.natAbs/y.natAbs=ak at *;generalize ew:x.natAbs%y.natAbs=bS at *;have tF:(y.natAbs:Int)*ak+bS=x.natAbs:=by exact_mod_cast G
 refine aaq ?_ ?_
 ·rcases jC x with ⟨e,E⟩|⟨e,E⟩|⟨e,E⟩<;>rcases jC y with ⟨e',ad⟩|⟨e',ad⟩|⟨e',ad⟩<;>first|omega|(rw[e,e'])
  ·rw[show (y.natAbs:Int)=y by omega] at tF;simp only[ny];omega
  ·rw[show (y.natAbs:Int) = -y by omega,Bq] at tF;simp only[ny,Bq,DZ];omega
  ·simp only[xX,vY];omega
  ·simp only[xX,vY];omega
  ·rw[show (y.natAbs:Int)=y by omega] at tF;simp only[ny,Bq,DZ,rE];omega
  ·rw[show (y.natAbs:Int) = -y by omega,Bq] at tF;simp only[ny,Bq,DZ,Int.neg_neg];omega
 ·have alA:x.natAbs=0->bS=0:=by
   intro al;rw[<-ew,al,aat]
  rcases jC x with ⟨e,E⟩|⟨e,E⟩|⟨e,E⟩<;>rcases jC y with ⟨e',ad⟩|⟨e',ad⟩|⟨e',ad⟩<;>rw[e,e'] at h<;>rw[e]<;>omega
def Ef {x y:Int}(J:x.natAbs<da)(g4:y≠0):(x.fdiv y).natAbs<da:=by
 by_cases h:x.sign*y.sign<0/\x.natAbs%y.natAbs≠0
 ·have ao:=(Mv h.1 h.2).1;have G:=LJ x.natAbs y.natAbs
  have:x.natAbs/y.natAbs+1<=x.natAbs:=by
   have Eg:2<=y.natAbs:=by
    rcases fE y.natAbs 2 with al|al
    ·have:y.natAbs=1:=by omega
     rw[this,Nat.mod_one] at h;exact absurd rfl h.2
    ·exact al
   have ad:2*(x.natAbs/y.natAbs)<=y.natAbs*(x.natAbs/y.natAbs):=mP _ Eg;omega
  generalize x.natAbs/y.natAbs=ak at *;omega
 ·have ao:=(Mw g4 h).1;have ad:x.natAbs/y.natAbs<=x.natAbs:=aau _ _
  have aK:(x.fdiv y).natAbs<=x.natAbs/y.natAbs:=by
   rw[ao,k1,k1,ih];have E:x.sign.natAbs<=1:=by have:=ma x;omega
   have G:y.sign.natAbs<=1:=by have:=ma y;omega
   have:=Nat.mul_le_mul E G;have:=mP (x.natAbs/y.natAbs) this;omega
  omega
def aav {x y:Int}(ag:y.natAbs<da)(g4:y≠0):(x.fmod y).natAbs<da:=by
 by_cases h:x.sign*y.sign<0/\x.natAbs%y.natAbs≠0
 ·have ao:=(Mv h.1 h.2).2;rcases jC y with ⟨e',ad⟩|⟨e',ad⟩|⟨e',ad⟩<;>rw[e'] at ao<;>omega
 ·have ao:=(Mw g4 h).2;have au:x.natAbs%y.natAbs<y.natAbs:=m1 _ (by omega);rcases jC x with ⟨e',ad⟩|⟨e',ad⟩|⟨e',ad⟩<;>rw[e'] at ao<;>omega
def Bv {x y:Int}(J:x.natAbs<da)(ag:y.natAbs<da)(al:y≠0):k2 (bu x) (bu y)=(bu (x.fdiv y),bu (x.fmod y),0):=by
 unfold k2;rw[jV J,jV ag,eI,eI,aq (by rfl),ar al]
def Ii:=b1 iB λ(s,l,s2,ab)=>cu (D l<=1000000/\D ab<=1000000) (.same (k3 (k2 (s,l) (s2,ab))))
@[go_sem] def aza (s l s2 ab):=cL Ii rfl qy (s,l,s2,ab) rfl
def al2 (T:bl)(eD:T jS=aT sM)(qB:T Hv=aT H0)(sT:T Hy=aT HM)(sU:T DL=aT HN)(gK:T nu=aT xL):WF T YU Ii:=by
 refine cq λ(s,l,s2,ab)=>cR λZ=>⟨rfl,cr ?_⟩;simp only[YU,iB,b8];obtain⟨br,bq⟩:=Z
 by_cases M:cx (s,l)=true
 ·by_cases aP:cx (s2,ab)=true
  ·obtain⟨x,J,e⟩:=(gR _).1 M;obtain⟨y,ag,ax⟩:=(gR _).1 aP
   by_cases g4:y=0
   ·have hm:k2 (s,l) (s2,ab)=((0,[]),(0,[]),15):=by
     rw[e,ax];unfold k2
     rw[jV J,jV ag,eI,eI,aq (by rfl),aq g4]
    rw[hm]
    cases e
    cases ax;have al:((y.sign:Int)==0)=true:=by rw[g4];rfl
    refine an ?_;repeat' (intro (aw:_=_)<;>simp only[aw,go_sem,go_sem_proc,eD,qB,sT,sU,gK,M,aP,br,bq,al,c0,k3,cl]<;>try refine aj ?_ ?_)
   ·have hm:k2 (s,l) (s2,ab)=(bu (x.fdiv y),bu (x.fmod y),0):=by
     rw[e,ax];exact Bv J ag g4
    rw[hm];clear hm
    cases e
    cases ax;have m6:=l9 J;have kh:=l9 ag;have Bw:(y.sign==0)=false:=by rw[beq_eq_false_iff_ne,Ne,Int.sign_eq_zero_iff_zero];exact g4
    have Bx:0<y.natAbs:=by omega
    have E:=ma x;have G:=ma y;have aD:x.sign*y.sign=(x*y).sign:=(nC x y).symm;have ad:=ma (x*y);have hw:IntKind.i64.wrap (x.sign*y.sign)=x.sign*y.sign:=by rw[aD];exact wrap64 _ (by omega) (by omega)
    have hdiv:=ZX x.natAbs y.natAbs ⟨by omega,by omega,Bx⟩
    simp only[c4] at hdiv;have aM:=Ef (y:=y) J g4;have Eh:=aav (x:=x) ag g4;have Sx:x.natAbs/y.natAbs<da:=vS (aau _ _) J;have al3:(aG (x.natAbs/y.natAbs)).length<=60:=fw.2 Sx;have Ei:x.natAbs%y.natAbs<da:=Nat.lt_trans (m1 _ Bx) ag;have al4:(aG (x.natAbs%y.natAbs)).length<=60:=fw.2 Ei
    by_cases rP:x.sign*y.sign<0/\x.natAbs%y.natAbs≠0
    ·obtain⟨eq,rQ⟩:=Mv rP.1 rP.2
     have bc:decide (((aG (x.natAbs%y.natAbs)).length:Int)>0)=true:=by
      have:aG (x.natAbs%y.natAbs)≠[]:=by rw[Ne,xB];exact rP.2
      have:=Ig.2 this;exact dW
     have k0:decide (x.sign*y.sign<0)=true:=lU rP.1;have jm:aG 1=[1]:=by simp[aG,vF]
     have al5:(aG 1).length=1:=by rw[jm];rfl
     have pR:=Zr (x.natAbs/y.natAbs) 1 ⟨by omega,by omega⟩
     simp only[c4,jm,hv,cl,aH] at pR;have jo:=RY y.natAbs (x.natAbs%y.natAbs) ⟨by omega,zv (m1 _ Bx)⟩
     simp only[c4] at jo
     have mB:(aG (x.natAbs/y.natAbs+1)).length<=1000000:=by
      have:(x.natAbs/y.natAbs+1)<da:=by rw[eq] at aM;rw[xY,ih] at aM;exact aM
      have:=(fw (k:=60)).2 this;omega
     have pM:(aG (y.natAbs-x.natAbs%y.natAbs)).length<=1000000:=by have:=Ec y.natAbs (x.natAbs%y.natAbs);omega
     have eX:jk (-1) (aG (x.natAbs/y.natAbs+1))=bu (x.fdiv y):=l8 (by rw[eq,xY,ih]) λ_=>by rw[eq,D8,gJ (show (0:Int)<((x.natAbs/y.natAbs+1:Nat):Int) by exact By.2 (Nat.succ_pos _))]
     have hj:jk y.sign (aG (y.natAbs-x.natAbs%y.natAbs))=bu (x.fmod y):=by
      refine l8 ?_ λaE=>?_
      ·rw[rQ];rcases jC y with ⟨e',ad⟩|⟨e',ad⟩|⟨e',ad⟩<;>rw[e']<;>omega
      ·rw[rQ,nC,xZ,gJ (show (0:Int)<((y.natAbs-x.natAbs%y.natAbs:Nat):Int) by omega),rE]
     refine an ?_;repeat' (intro (aw:_=_)<;>simp only[aw,go_sem,go_sem_proc,eD,qB,sT,sU,gK,M,aP,br,bq,Bw,hw,hdiv,bc,k0,pR,jo,mB,pM,eX,hj,aH,az,c0,k3,nB]<;>try refine aj ?_ ?_)
    ·obtain⟨eq,rQ⟩:=Mw g4 rP
     have Sy:(decide (x.sign*y.sign<0)=true/\decide (((aG (x.natAbs%y.natAbs)).length:Int)>0)=false)\/decide (x.sign*y.sign<0)=false:=by
      by_cases aE:x.sign*y.sign<0
      ·left
       have:x.natAbs%y.natAbs=0:=Decidable.not_not.1 λh=>rP ⟨aE,h⟩;rw[this];exact⟨lU aE,rfl⟩
      ·right;exact j2 aE
     have mB:(aG (x.natAbs/y.natAbs)).length<=1000000:=by omega
     have pM:(aG (x.natAbs%y.natAbs)).length<=1000000:=by omega
     have eX:jk (x.sign*y.sign) (aG (x.natAbs/y.natAbs))=bu (x.fdiv y):=by
      refine l8 ?_ λaE=>?_
      ·rw[eq]
       have sV:∀ak:Nat,(x=0->ak=0)->(x.sign*y.sign*(ak:Int)).natAbs=ak:=by
        intro ak al;rcases jC x with ⟨e,E⟩|⟨e,E⟩|⟨e,E⟩<;>rcases jC y with ⟨e',ad⟩|⟨e',ad⟩|⟨e',ad⟩<;>rw[e,e']<;>first|omega|(rw[al E];rfl)
       exact sV _ λal=>by rw[al];exact Nat.zero_div _
      ·rw[eq,aD,nC,nC,nC,xZ,xZ,gJ (show (0:Int)<((x.natAbs/y.natAbs:Nat):Int) from By.2 (DF aE)),rE]
     have hj:jk x.sign (aG (x.natAbs%y.natAbs))=bu (x.fmod y):=by
      refine l8 ?_ λaE=>?_
      ·rw[rQ]
       have sV:∀ak:Nat,(x=0->ak=0)->(x.sign*(ak:Int)).natAbs=ak:=by
        intro ak al;rcases jC x with ⟨e,E⟩|⟨e,E⟩|⟨e,E⟩<;>rw[e]<;>first|omega|(rw[al E];rfl)
       exact sV _ λal=>by rw[al];exact aat _
      ·rw[rQ,nC,xZ,gJ (show (0:Int)<((x.natAbs%y.natAbs:Nat):Int) from By.2 (DF aE)),rE]
     rcases Sy with ⟨Bz,Sz⟩|Bz
     ·refine an ?_;repeat' (intro (aw:_=_)<;>simp only[aw,go_sem,go_sem_proc,eD,qB,sT,sU,gK,M,aP,br,bq,Bw,hw,hdiv,Bz,Sz,mB,pM,eX,hj,aH,az,c0,k3,nB]<;>try refine aj ?_ ?_)
     ·refine an ?_;repeat' (intro (aw:_=_)<;>simp only[aw,go_sem,go_sem_proc,eD,qB,sT,sU,gK,M,aP,br,bq,Bw,hw,hdiv,Bz,mB,pM,eX,hj,aH,az,c0,k3,nB]<;>try refine aj ?_ ?_)
  ·have aP:cx (s2,ab)=false:=by simpa using aP
   have hm:k2 (s,l) (s2,ab)=((0,[]),(0,[]),1):=by unfold k2;rw[aP,h2];rfl
   rw[hm];refine an ?_;repeat' (intro (aw:_=_)<;>simp only[aw,go_sem,go_sem_proc,eD,qB,sT,sU,gK,M,aP,br,bq,c0,k3,cl]<;>try refine aj ?_ ?_)
 ·have M:cx (s,l)=false:=by simpa using M
  have hm:k2 (s,l) (s2,ab)=((0,[]),(0,[]),1):=by unfold k2;rw[M,e1];rfl
  rw[hm];refine an ?_;repeat' (intro (aw:_=_)<;>simp only[aw,go_sem,go_sem_proc,eD,qB,sT,sU,gK,M,br,bq,c0,k3,cl]<;>try refine aj ?_ ?_)
def er (n:Int):Prop:=-9223372036854775808<=n/\n<=9223372036854775807
def al6 {n:Nat}(h:n<=9223372036854775808):n<da:=by
 unfold da;refine u9 (m:=1048576^4) ?_ (jU (by omega) (by omega));omega
def x0 {n:Int}(h:er n):n.natAbs<da:=al6 (by unfold er at h;omega)
def SA (n:Int)(E:-18446744073709551616<=n)(G:n<0):IntKind.u64.wrap n=n+18446744073709551616:=by
 unfold IntKind.wrap;simp[IntKind.bits,IntKind.signed];omega
def Mx:=b1 vN λ(n:Int)=>cu (er n) (.same (.agg (c0 (bu n))))
@[go_sem] def azb (n):=cL Mx rfl Mb n rfl
def al7 (T:bl)(gK:T nu=aT xL):WF T YS Mx:=by
 refine cq λn=>cR λZ=>⟨rfl,cr ?_⟩;simp only[YS,vN,b8];have tG:=Z;unfold er at tG;obtain⟨tv,pt⟩:=tG;have R:∀s:Int,(n≠0->s=n.sign)->jk s (aG n.natAbs)=bu n:=λs h=>l8 rfl λbc=>h (by omega);have hlen:(aG n.natAbs).length<=60:=fw.2 (x0 Z);rcases eC (n<0) with k0|hn
 ·have hw:=SA n (by omega) k0
  have fI:IntKind.u64.wrap (0-(n+18446744073709551616))=(n.natAbs:Int):=by
   rw[SA _ (by omega) (by omega)];omega
  simp only[go_sem,go_sem_proc,gK,k0,hw,fI,decide_true];refine dM [2,3] [150002] (λ((u,g,l):Nat×Nat×List Int) tm mem=>u<=9223372036854775808/\aG n.natAbs=l++aG u/\tm 4=.L (.int .u64 u)/\tm 5=.ref 150021 g 1 0 (D l)/\mem 150021=some (g,a6 aH l)) (λ(u,_)=>u) (n.natAbs,0,[]) (by refine⟨by omega,rfl,?_,rfl,rfl⟩;rfl) ?_;intro vs ms a7 aY;simp only[go_sem,go_sem_proc,gK] at a7 aY;subst a7 aY;rintro⟨u,g,l⟩ tm mem Q hm ⟨hu,ae,aK,bp,Ij⟩;simp only[go_sem,go_sem_proc,gK,bs] at Q hm;obtain⟨G,ad⟩:=Q;rcases iK u with al|zt
  ·subst al;rw[qt,nZ] at ae;rw[ae] at R hlen;have zw:(D l)<=1000000:=by omega
   have dI:=R (-1) (λ_=>by exact (kF k0).symm);refine an ?_;repeat' (intro (aw:_=_)<;>simp only[aw,go_sem,go_sem_proc,gK,G,ad,aK,bp,hm,Ij,dI,zw,c0,nw,n2,az,show ¬ ((0:Int)>0) by omega,decide_false,xy iO,sW]<;>try refine aj ?_ ?_)
  ·have sS:(D l)<=60:=by
    have:=congrArg D ae;rw[lk] at this;omega
   have lz:decide ((u:Int)>0)=true:=dW;have dS:∀a:Int,mw 150021 g 1 (D l) 8 1 [.L (.int .i64 a)] (some (g,a6 aH l))=_:=λa=>qm iO vG 150021 g 8 l a rfl (by omega) (by omega);have hand:=YL u ⟨by omega,by omega⟩
   have Dk:IntKind.i64.wrap ((u:Int)%1048576)=(u:Int)%1048576:=wrap64 _ (by omega) (by omega);refine an ?_;repeat' (intro (aw:_=_)<;>simp only[aw,go_sem,go_sem_proc,gK,G,ad,aK,bp,hm,Ij,lz,dS,hand,Dk,tT,show ((20:Int)<0)=False from by simp,if_false,az,bs]<;>try refine aj ?_ ?_)
   refine⟨(u/1048576,g+1,l++[(u:Int)%1048576]),by dsimp only;omega,by dsimp only;omega,by dsimp only;rw[hh,ae,sH zt];rfl,by first|rfl|(dsimp only;rw[xE _ ⟨by omega,by omega⟩];rfl),by simp,by simp[go_sem]⟩
 ·have hw:IntKind.u64.wrap n=(n.natAbs:Int):=by rw[xE _ ⟨by omega,by omega⟩];omega
  simp only[go_sem,go_sem_proc,gK,hn,hw,decide_false];refine dM [2,3] [150002] (λ((u,g,l):Nat×Nat×List Int) tm mem=>u<=9223372036854775808/\aG n.natAbs=l++aG u/\tm 4=.L (.int .u64 u)/\tm 5=.ref 150021 g 1 0 (D l)/\mem 150021=some (g,a6 aH l)) (λ(u,_)=>u) (n.natAbs,0,[]) (by refine⟨by omega,rfl,?_,rfl,rfl⟩;rfl) ?_;intro vs ms a7 aY;simp only[go_sem,go_sem_proc,gK] at a7 aY;subst a7 aY;rintro⟨u,g,l⟩ tm mem Q hm ⟨hu,ae,aK,bp,Ij⟩;simp only[go_sem,go_sem_proc,gK,bs] at Q hm;obtain⟨G,ad⟩:=Q;rcases iK u with al|zt
  ·subst al;rw[qt,nZ] at ae;rw[ae] at R hlen;have zw:(D l)<=1000000:=by omega
   have dI:=R 1 (λ_=>by exact (gJ (by omega)).symm);refine an ?_;repeat' (intro (aw:_=_)<;>simp only[aw,go_sem,go_sem_proc,gK,G,ad,aK,bp,hm,Ij,dI,zw,c0,nw,n2,az,show ¬ ((0:Int)>0) by omega,decide_false,xy iO,sW]<;>try refine aj ?_ ?_)
  ·have sS:(D l)<=60:=by
    have:=congrArg D ae;rw[lk] at this;omega
   have lz:decide ((u:Int)>0)=true:=dW;have dS:∀a:Int,mw 150021 g 1 (D l) 8 1 [.L (.int .i64 a)] (some (g,a6 aH l))=_:=λa=>qm iO vG 150021 g 8 l a rfl (by omega) (by omega);have hand:=YL u ⟨by omega,by omega⟩
   have Dk:IntKind.i64.wrap ((u:Int)%1048576)=(u:Int)%1048576:=wrap64 _ (by omega) (by omega);refine an ?_;repeat' (intro (aw:_=_)<;>simp only[aw,go_sem,go_sem_proc,gK,G,ad,aK,bp,hm,Ij,lz,dS,hand,Dk,tT,show ((20:Int)<0)=False from by simp,if_false,az,bs]<;>try refine aj ?_ ?_)
   refine⟨(u/1048576,g+1,l++[(u:Int)%1048576]),by dsimp only;omega,by dsimp only;omega,by dsimp only;rw[hh,ae,sH zt];rfl,by first|rfl|(dsimp only;rw[xE _ ⟨by omega,by omega⟩];rfl),by simp,by simp[go_sem]⟩
def al8 (k:IntKind)(a b:Int):bits .or k a b=bits .or k b a:=by
 simp only[bits,BitVec.or_comm]
def al9 (u d:Int)(i:Nat)(O:(2:Int)^i<=1152921504606846976)(hu:0<=u/\u<2^i)(ae:0<=d)(h:d*2^i<18446744073709551616):bits .or .u64 u (d*2^i)=u+d*2^i:=by
 rw[al8,vW];have al:0<=d*2^i:=zj ae (by exact SB (H4 (by omega)));refine bits_join .u64 64 (by decide) (λn E G=>xE n ⟨E,by omega⟩) i _ _ al (Int.mul_emod_left _ _) (by omega) hu.1 hu.2 (by omega)
instance (n:Int):Decidable (er n):=by unfold er;exact inferInstance
def wa (a:Raw):Int×Bool:=if cx a=true/\er (gI a) then (gI a,true) else (0,false)
def My:=b1 oL λ(s,l)=>cu (D l<=1000000) (.same (.de [.int .i64 (wa (s,l)).1,.bool (wa (s,l)).2]))
@[go_sem] def azc (s l):=cL My rfl Be (s,l) rfl
def ama (T:bl)(eD:T jS=aT sM):WF T YZ My:=by
 refine cq λ(s,l)=>cR λZ=>⟨rfl,cr ?_⟩;simp only[YZ,oL,b8]
 by_cases M:cx (s,l)=true
 ·obtain⟨z,aQ,e⟩:=(gR _).1 M
  cases e
  have O:wa (z.sign,aG z.natAbs)=if er z then (z,true) else (0,false):=by
   unfold wa;rw[M,show gI (z.sign,aG z.natAbs)=z from eI z];simp
  rw[O];clear O;have R:=jC z
  by_cases aK:(aG z.natAbs).length<=4
  ·have SC:decide (((aG z.natAbs).length:Int)>4)=false:=ef;have nW:=kB z.natAbs;have iN:=lF z.natAbs;generalize aG z.natAbs=l at *;simp only[go_sem,go_sem_proc,eD,M,Z,SC,az,aH];refine dM [1,17,18] [159001] (λ((i,u):Nat×Int) tm mem=>i<=D l/\u=aW (l.take i)/\u<18446744073709551616/\tm 4=.L (.int .u64 u)/\tm 19=.L (.int .i64 i)) (λ(i,_)=>D l-i) (0,0) (by refine⟨by omega,rfl,by omega,rfl,rfl⟩) ?_;intro vs ms a7 aY;simp only[go_sem,go_sem_proc,eD] at a7 aY;subst a7 aY;rintro⟨i,u⟩ tm mem Q hm ⟨O,hu,azd,zx,zy⟩;simp only[go_sem,go_sem_proc,eD,bs] at Q hm;obtain⟨E,mG,l6⟩:=Q;have aaw:ec (l.take i):=λd ae=>iN d (Aw ae);have Ej:0<=u:=by rw[hu];exact nt aaw
   rcases eC (i<D l) with au|bO
   ·have J:=bB au;have ae:=iN l[i] (kT au);have px:=kd l i au;have Mz:=xC aaw;rw[hf,mS (zv au),<-hu] at Mz;rw[<-hu] at px;generalize l[i]=d at *;have x1:decide ((i:Int)<(D l:Int))=true:=dW;have HV:IntKind.u64.wrap d=d:=xE d ⟨ae.1,by omega⟩
    have D6:IntKind.i64.wrap (20*(i:Int))=((20*i:Nat):Int):=by rw[fg _];omega
    have Lg:min (20*i) 64=20*i:=by omega
    have lx:(((20*i:Nat):Int)<0)=False:=eq_false (by omega);have Ek:(1048576:Int)^i=2^(20*i):=by rw[Int.pow_mul];rfl
    rw[Ek] at Mz px
    have vm:(2:Int)^(20*i)<=1152921504606846976:=by
     obtain rfl|rfl|rfl|rfl:i=0\/i=1\/i=2\/i=3:=by omega
     all_goals decide
    by_cases aax:i=3/\d>8
    ·obtain⟨rfl,SD⟩:=aax;have amb:decide (d>8)=true:=lU SD;have MA:(((3:Nat):Int)==3)=true:=rfl
     have amc:¬ er z:=by
      have zl:=Hp l 4;rw[nW] at zl;have:0<=aW (l.drop 4):=nt λd ae=>iN d (D1 ae);have bp:=zj (show (0:Int)<=1048576^(min 4 (D l)) from SB (H4 (by omega))) this;unfold er;simp only[QK,Yk,aay] at px;rw[px] at zl;omega
     rw[ar amc];refine an ?_;repeat' (intro (aw:_=_)<;>simp only[aw,go_sem,go_sem_proc,eD,E,mG,l6,zx,zy,hm,J,ae.1,ae.2,x1,HV,amb,MA,az,bG,bs,aH]<;>try refine aj ?_ ?_)
    ·have n3:d*2^(20*i)<18446744073709551616:=by
      obtain rfl|rfl|rfl|rfl:i=0\/i=1\/i=2\/i=3:=by omega
      all_goals simp
      all_goals omega
     have sO:=al9 u d (20*i) vm ⟨Ej,Mz⟩ ae.1 n3;have Ik:0<=d*2^(20*i):=zj ae.1 (SB (H4 (by omega)));have SE:IntKind.u64.wrap (d*2^(20*i))=d*2^(20*i):=xE _ ⟨Ik,n3⟩
     have v7:u+d*2^(20*i)<18446744073709551616:=by
      clear sO SE Ik D6 lx Ek vm px;obtain rfl|rfl|rfl|rfl:i=0\/i=1\/i=2\/i=3:=by omega
      all_goals simp only[QK,aay] at Mz n3 ⊢
      all_goals omega
     by_cases ad:((i:Int)==3)=true
     ·have SD:decide (d>8)=false:=j2 λh=>aax ⟨by simp at ad;omega,h⟩
      refine an ?_;repeat' (intro (aw:_=_)<;>simp only[aw,go_sem,go_sem_proc,eD,E,mG,l6,zx,zy,hm,J,ae.1,ae.2,x1,HV,ad,SD,D6,lx,if_false,pJ,Lg,SE,sO,az,bG,bs,aH]<;>try refine aj ?_ ?_)
      exact⟨(i+1,u+d*2^(20*i)),by dsimp only;omega,by dsimp only;omega,by dsimp only;rw[px,mC],v7,rfl,by rw[fg _];rfl⟩
     ·have ad:((i:Int)==3)=false:=by simpa using ad
      refine an ?_;repeat' (intro (aw:_=_)<;>simp only[aw,go_sem,go_sem_proc,eD,E,mG,l6,zx,zy,hm,J,ae.1,ae.2,x1,HV,ad,D6,lx,if_false,pJ,Lg,SE,sO,az,bG,bs,aH]<;>try refine aj ?_ ?_)
      exact⟨(i+1,u+d*2^(20*i)),by dsimp only;omega,by dsimp only;omega,by dsimp only;rw[px,mC],v7,rfl,by rw[fg _];rfl⟩
   ·have x1:decide ((i:Int)<(D l:Int))=false:=ef;have kl:i=D l:=by omega
    rw[kl,sW,nW] at hu;rcases R with ⟨R,AA⟩|⟨R,AA⟩|⟨R,AA⟩
    ·by_cases hr64:u<9223372036854775808
     ·rw[aq (by unfold er;omega)];have hw:IntKind.i64.wrap u=z:=by rw[wrap64 u (by omega) (by omega)];omega
      refine an ?_;repeat' (intro (aw:_=_)<;>simp only[aw,go_sem,go_sem_proc,eD,E,mG,l6,zx,zy,hm,x1,R,hr64,show decide ((1:Int)<0)=false from rfl,show decide ((1:Int)>=0)=true from rfl,show decide ((-1:Int)<0)=true from rfl,show decide ((-1:Int)>=0)=false from rfl,hw,decide_true,decide_false,az]<;>try refine aj ?_ ?_)
     ·rw[ar (by unfold er;omega)];refine an ?_;repeat' (intro (aw:_=_)<;>simp only[aw,go_sem,go_sem_proc,eD,E,mG,l6,zx,zy,hm,x1,R,hr64,show decide ((1:Int)<0)=false from rfl,show decide ((1:Int)>=0)=true from rfl,show decide ((-1:Int)<0)=true from rfl,show decide ((-1:Int)>=0)=false from rfl,decide_true,decide_false,az]<;>try refine aj ?_ ?_)
    ·rw[aq (by unfold er;omega)];have amd:u=0:=by omega
     subst AA;subst amd;refine an ?_;repeat' (intro (aw:_=_)<;>simp only[aw,go_sem,go_sem_proc,eD,E,mG,l6,zx,zy,hm,x1,R,show decide ((0:Int)<0)=false from rfl,show decide ((0:Int)>=0)=true from rfl,show decide ((0:Int)<9223372036854775808)=true from rfl,show IntKind.i64.wrap 0=0 from rfl,show (0:Int).sign=0 from rfl,decide_true,decide_false,az]<;>try refine aj ?_ ?_)
    ·by_cases hr64:u<=9223372036854775808
     ·rw[aq (by unfold er;omega)];have hw:=SA (0-u) (by omega) (by omega)
      have fI:IntKind.i64.wrap (0-u+18446744073709551616)=z:=by
       simp[IntKind.wrap,IntKind.bits,IntKind.signed];omega
      refine an ?_;repeat' (intro (aw:_=_)<;>simp only[aw,go_sem,go_sem_proc,eD,E,mG,l6,zx,zy,hm,x1,R,hr64,show decide ((1:Int)<0)=false from rfl,show decide ((1:Int)>=0)=true from rfl,show decide ((-1:Int)<0)=true from rfl,show decide ((-1:Int)>=0)=false from rfl,hw,fI,decide_true,decide_false,az]<;>try refine aj ?_ ?_)
     ·rw[ar (by unfold er;omega)];refine an ?_;repeat' (intro (aw:_=_)<;>simp only[aw,go_sem,go_sem_proc,eD,E,mG,l6,zx,zy,hm,x1,R,hr64,show decide ((1:Int)<0)=false from rfl,show decide ((1:Int)>=0)=true from rfl,show decide ((-1:Int)<0)=true from rfl,show decide ((-1:Int)>=0)=false from rfl,decide_true,decide_false,az]<;>try refine aj ?_ ?_)
  ·have SC:decide (((aG z.natAbs).length:Int)>4)=true:=dW
   have aE:¬ er z:=by
    intro h;unfold er at h;refine aK (fw.2 ?_);omega
   rw[ar aE];refine an ?_;repeat' (intro (aw:_=_)<;>simp only[aw,go_sem,go_sem_proc,eD,M,Z,SC,az]<;>try refine aj ?_ ?_)
 ·have M:cx (s,l)=false:=by simpa using M
  have O:wa (s,l)=(0,false):=by unfold wa;rw[ar];rw[M];simp
  rw[O];refine an ?_;repeat' (intro (aw:_=_)<;>simp only[aw,go_sem,go_sem_proc,eD,M,Z]<;>try refine aj ?_ ?_)
end Go.Mini
