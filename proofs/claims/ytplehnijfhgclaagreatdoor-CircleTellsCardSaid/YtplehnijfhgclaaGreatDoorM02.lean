/- A part of the proof. -/
import Derived.LoopN
import Derived.Laws.BitsLemmas
import Derived.ChangeSame
import Derived.Handed
import Derived.JoinedOf
import Derived.JoinedCond
import Derived.OpenShut
import Derived.ProofKit
import Derived.Test.YtplehnijfhgclaaGreatDoorM01
set_option linter.unusedSimpArgs false
set_option linter.unusedVariables false
set_option linter.defProp false
set_option maxRecDepth 100000
set_option maxHeartbeats 4000000
noncomputable section
open Bool renaming and_eq_true->ff,and_false->iZ,and_true->pF,false_and->eO,false_eq_true->cE,false_or->pE,not_false->dc,not_true->c2,or_false->tE,or_true->tD,true_and->e0,true_or->qz
open Classical renaming choose->Ez,choose_spec->sk
open Decidable renaming em->du
open Int renaming add_comm->yA,add_mul->sC,add_mul_ediv_left->aaK,add_mul_emod_self_left->aaM,add_zero->Jh,bmod_def->ZQ,cast_ofNat_Int->oV,ediv_eq_zero_of_lt->TA,ediv_lt_of_lt_mul->aaN,ediv_nonneg->TC,emod_add_mul_ediv->Ac,emod_emod_of_dvd->ZR,emod_eq_of_lt->TB,emod_lt_of_pos->TF,emod_nonneg->TE,lt_trichotomy->oX,mul_add->h9,mul_assoc->ia,mul_comm->nk,mul_le_mul->Tw,mul_le_mul_of_nonneg_left->tP,mul_le_mul_of_nonneg_right->kI,mul_left_comm->TG,mul_neg->Fg,mul_nonneg->sA,mul_one->qB,mul_right_comm->Al,mul_sub->Fa,mul_zero->wQ,natAbs_mul->yG,natAbs_natCast->nr,natAbs_neg->rr,natCast_add->abC,natCast_ediv->aaJ,natCast_emod->aaL,natCast_mul->aa9,natCast_pos->Cr,natCast_pow->Cg,natCast_zero->oe,neg_mul->Cl,ofNat_sub->abB,one_mul->oj,pow_add->aaH,pow_pos->Fk,pow_succ->mY,sign_eq_neg_one_of_neg->kJ,sign_eq_one_of_pos->gq,sign_mul->nS,sign_mul_natAbs->Fp,sign_neg->yH,sign_sign->yO,sign_trichotomy->Jp,sub_mul->aa0,sub_zero->Af,tdiv_eq_ediv_of_nonneg->Ff,tmod_eq_emod_of_nonneg->Ja,toNat->BS,toNat_natCast->lX,zero_add->Tz,zero_mul->yL
open List renaming all_cons->u3,all_eq_true->kA,append_assoc->ki,append_inj->Ti,append_nil->mX,concat_eq_append->Su,cons_append->M9,drop->nL,drop_append->EG,drop_drop->x3,drop_eq_getElem_cons->gx,drop_eq_nil_of_le->lj,drop_left->Sh,drop_length->Sl,drop_set_of_lt->se,drop_zero->pD,eq_nil_of_length_eq_zero->q9,eq_nil_or_concat->St,flatMap_cons->Sn,flatten_cons->mg,getElem?_append->Ed,getElem?_drop->oI,getElem?_eq_getElem->bf,getElem?_eq_some_iff->dL,getElem?_map->bg,getElem?_take_of_lt->x6,getElem_set_self->yw,length->D,length_append->ks,length_cons->lQ,length_drop->pG,length_eq_one_iff->Zn,length_map->aj,length_nil->mV,length_pos_iff->abz,length_range->tF,length_set->fk,length_take->gk,mapM_cons->nf,mapM_nil->Zv,map_cons->g0,map_nil->bP,mem_append->h5,mem_attach->Zt,mem_cons->kt,mem_flatMap->Bz,mem_iff_getElem?->ye,mem_map->h7,mem_of_getElem?->cL,mem_of_mem_drop->Fj,mem_of_mem_take->Ei,mem_range->BN,mem_replicate->pM,mem_singleton->sE,nil_append->EB,range->qj,replicate->ch,replicate_succ->qn,take->mZ,take_add_one->ho,take_append_drop->Io,take_left->Sg,take_length->mB,take_of_length_le->dF,take_succ_cons->EA,take_zero->M8
open List.cons renaming inj->Cf,injEq->bl
open Nat renaming add_assoc->r0,add_mul->pw,add_sub_cancel_left->EH,add_zero->lo,and_two_pow_sub_one_eq_mod->ZS,div_add_mod->Ni,div_eq_of_lt->Sk,div_le_self->abE,div_lt_iff_lt_mul->ZP,eq_zero_or_pos->ln,gcd->gr,gcd_comm->Jv,le_refl->c9,le_trans->iG,lt_of_le_of_lt->yy,lt_of_lt_of_le->Bh,lt_or_ge->gY,min_eq_left->n7,mod_eq_of_lt->It,mod_lt->oQ,mul_comm->yf,mul_le_mul_left->aba,mul_le_mul_right->q7,mul_one->dM,pos_of_ne_zero->EK,pow_le_pow_right->An,pow_succ->z5,strongRecOn->R9,zero_add->r1,zero_le->dG,zero_mod->abD,zero_mul->Nh
open Option renaming bind_eq_bind->gj,bind_eq_some_iff->dI,bind_some->z0,map_eq_some_iff->c4,map_some->kU,pure_def->ga
open Option.some renaming inj->mm,injEq->bO
open Prod renaming ext->cz,ext_iff->I2
open Prod.mk renaming injEq->eM
namespace Go.Mini
open Go
variable {P:Program} {b4:Option I} {T:bj} {A:Nat->Prop} {ct w:World} {dE B:cU} {mem:Mem} {n kb:Nat} {own:List Nat} {a5:Exit->Act->World->Prop}
def Zi {k:Key}{aw hj:Nat->Prop}{aA:cU}{v:Value}{sz:Nat}{e:hv}(he:B k=some e)(ao:a0 w aw aA .nil v):a0 w hj B (.ref k e.g sz 0 0) v:=by
 cases ao;exact .ref he (c9 _) ⟨_,0,rfl,c9 _,dG _,.inl rfl⟩
def Zj (w:World)(b i:Nat)(v:Value):Prop:=w.cell? ⟨b,i,none⟩=some v\/∃ir jj j pC,w.heap[b]?=some (.map ir jj)/\i=2*j+1/\ir.toList[j]?=some pC/\pC.val=v
def ka.val {aw:Nat->Prop}{es:List MapEntry}{ms:List I}(h:ka w aw B es ms):∀{j:Nat} {m:I} {pC:MapEntry},ms[2*j+1]?=some m->es[j]?=some pC->a0 w aw B m pC.val:=by
 induction h with
 |nil=>intro j m pC h;simp at h
 |cons R ao M a4 =>
  intro j m pC F G
  cases j with
  |zero=>simp at F G;subst F;subst G;exact ao
  |succ j=>exact a4 (j:=j) (by simpa [Nat.mul_succ] using F) (by simpa using G)
def ka.set {aw:Nat->Prop}{m m':I}(BH:∀s,m ≠ .J (.str s)){es:List MapEntry}{ms:List I}(h:ka w aw B es ms):∀{i:Nat},ms[i]?=some m->(∀j pC,i=2*j+1->es[j]?=some pC->a0 w aw B m' pC.val)->ka w aw B es (ms.set i m'):=by
 induction h with
 |nil=>intro i h;simp at h
 |cons R ao M a4 =>
  intro i F G
  match i,F,G with
  |0,F,_=>simp at F;exact absurd F.symm (BH _)
  |1,F,G=>exact .cons R (G 0 _ rfl rfl) M
  |i+2,F,G=>exact .cons R ao (a4 (by simpa using F) λj pC aa he=>G (j+1) pC (by omega) (by simpa using he))
def dQ.val {k:Key}{g i b:Nat}{cs:List I}{m:I}{e:hv}{v:Value}(h:dQ A w B mem)(R:mem k=some (g,cs))(he:B k=some e)(U:e.dk=some b)(ab:cs[i]?=some m)(BH:∀s,m ≠ .J (.str s))(ao:Zj w b i v):a0 w (bp A B) B m v:=by
 obtain⟨e',eL,aN,aC,fW⟩:=h.dk k g cs R;rw[he] at eL
 cases eL;rcases fW b U with ⟨_,vs,T,F,G,ad,aZ⟩|⟨_,ir,jj,F,G⟩
 ·obtain⟨u,hu,M⟩:=aZ i m ab;rcases ao with ao|⟨ir,jj,j,pC,hm,_⟩
  ·rw[cell_of_row w b i vs T (0,0) F,hu] at ao
   cases ao;exact M
  ·rw[F] at hm;cases hm
 ·rcases ao with ao|⟨Ep,HV,j,pC,hm,rfl,R2,rfl⟩
  ·simp[World.cell?,F] at ao
  ·rw[F] at hm
   cases hm;exact G.val ab R2
def BI {k:Key}{g i:Nat}{cs:List I}{m m':I}{w1:World}(bk:dQ A w B mem)(R:mem k=some (g,cs))(ab:cs[i]?=some m)(BH:∀s,m ≠ .J (.str s))
  (ao:∀e b v,B k=some e->e.dk=some b->Zj w b i v->a0 w (bp A B) B m' v):∃aA,da A w B w aA (aV mem k g (cs.set i m')):=by
 obtain⟨e,he,bD,aC,U⟩:=bk.dk k g cs R;have u1:∀az,B k=some az->e=az\/az.g<e.g:=λaz eg => .inl (by rw[he] at eg;cases eg;rfl)
 have qi:e.dk=none->cs.set i m'=[]:=λh=>by
  have:=aC h;subst this
  rfl
 cases hF:e.mp with
 |true =>
  have ok:=da.RE (k:=k) (e':=e) (cs:=cs.set i m') bk (Fr.refl _ w) u1 (λb eF => .inr ⟨e,he,eF⟩) qi (λb eF=>by
   rcases U b eF with ⟨au,_⟩|⟨_,ir,jj,F,G⟩
   ·rw[hF] at au;cases au
   ·exact⟨hF,ir,jj,F,G.set BH ab λj pC aa R2=>ao e b _ he eF (.inr ⟨ir,jj,j,pC,F,aa,R2,rfl⟩)⟩)
  rw[bD] at ok;exact⟨_,ok⟩
 |false =>
  have ok:=da.change (k:=k) (e':=e) (cs:=cs.set i m') bk (Fr.refl _ w) u1 (λb eF => .inr ⟨e,he,eF⟩) qi (λb eF=>by
   obtain⟨vs,T,bm,a2,hle,b9⟩:=(U b eF).cells hF;refine⟨hF,vs,T,bm,a2,by simpa using hle,λj x L=>?_⟩
   by_cases hX:i=j
   ·subst hX;have aq:i<D cs:=(dL.1 ab).1;rw[List.getElem?_set_self aq] at L
    cases L;have nE:i<vs.size:=by omega
    exact⟨vs[i],Array.getElem?_eq_getElem nE,ao e b _ he eF (.inl (by rw[cell_of_row w b i vs T (0,0) bm];exact Array.getElem?_eq_getElem nE))⟩
   ·rw[List.getElem?_set_ne hX] at L;exact b9 j x L)
  rw[bD] at ok;exact⟨_,ok⟩
def da.move {k k':Key}{g:Nat}{cs:List I}{e:hv}(h:dQ A w B mem)(R:mem k=some (g,cs))(he:B k=some e)(bq:k'≠k):
  da A w B w (e4 (e4 B k ⟨bB mem k,none,0,false⟩) k' ⟨bB mem k',e.dk,e.size,e.mp⟩) (aV (aV mem k (bB mem k) []) k' (bB mem k') cs):=by
 have wu:∀b,n3 (e4 (e4 B k ⟨bB mem k,none,0,false⟩) k' ⟨bB mem k',e.dk,e.size,e.mp⟩) b->n3 B b:=by
  rintro b ⟨j,az,aa,U⟩
  by_cases F:j=k'
  ·subst F;rw[fz] at aa
   cases aa;exact⟨k,e,he,U⟩
  ·rw[fm _ _ F] at aa
   by_cases G:j=k
   ·subst G;rw[fz] at aa
    cases aa
    cases U
   ·rw[fm _ _ G] at aa;exact⟨j,az,aa,U⟩
 have iH:Trans A w B w (e4 (e4 B k ⟨bB mem k,none,0,false⟩) k' ⟨bB mem k',e.dk,e.size,e.mp⟩):=by
  refine⟨c9 _,λb _ U=>⟨rfl,λa6=>U (.inl (wu b a6))⟩,λj az aa=>?_⟩
  by_cases F:j=k'
  ·subst F;exact⟨_,fz _ _ _,.inr (zH h j az aa)⟩
  ·rw[fm _ _ F]
   by_cases G:j=k
   ·subst G;exact⟨_,fz _ _ _,.inr (zH h j az aa)⟩
   ·rw[fm _ _ G];exact⟨az,aa,.inl rfl⟩
 refine⟨⟨λj aa=>?_,λj iI aQ az b F G kW eF=>?_,λb bc a6=>h.sep b bc (wu b a6),h.lt,h.gl,λb o U a6=>h.v8 b o U (wu b a6),λj cQ HT aa=>?_⟩,iH,Fr.refl _ _,λb U => .inl (wu b U)⟩
 ·simp only[aV] at aa
  by_cases F:j=k'
  ·simp[F] at aa
  ·by_cases G:j=k
   ·rw[aT F,aL G] at aa
    cases aa
   ·simp only[F,G,if_false] at aa;rw[fm _ _ F,fm _ _ G];exact h.rT j aa
 ·have main:∀(j:Key) (aQ:hv),e4 (e4 B k ⟨bB mem k,none,0,false⟩) k' ⟨bB mem k',e.dk,e.size,e.mp⟩ j=some aQ->aQ.dk=some b->(j=k'/\e.dk=some b)\/(j≠k'/\j≠k/\B j=some aQ):=by
   intro j aQ aa U
   by_cases F:j=k'
   ·subst F;rw[fz] at aa
    cases aa;exact .inl ⟨rfl,U⟩
   ·rw[fm _ _ F] at aa
    by_cases G:j=k
    ·subst G;rw[fz] at aa
     cases aa
     cases U
    ·rw[fm _ _ G] at aa;exact .inr ⟨F,G,aa⟩
  rcases main j aQ F kW with ⟨gJ,kX⟩|⟨gJ,s1,kX⟩<;>rcases main iI az G eF with ⟨lp,ni⟩|⟨lp,s2,ni⟩
  ·rw[gJ,lp]
  ·exact absurd (h.inj k iI e az b he ni kX eF).symm s2
  ·exact absurd (h.inj k j e aQ b he kX ni kW).symm s1
  ·exact h.inj j iI aQ az b kX ni kW eF
 ·simp only[aV] at aa
  by_cases F:j=k'
  ·subst F;simp only[if_true,bO,eM] at aa;obtain⟨rfl,rfl⟩:=aa;obtain⟨fI,sa,aN,aC,U⟩:=h.dk k g cs R;rw[he] at sa
   cases sa;refine⟨_,fz _ _ _,rfl,aC,λb fW=>?_⟩;exact (U b fW).imp rfl rfl λm _ v M=>M.j9 iH
  ·simp only[F,if_false] at aa;rw[fm _ _ F]
   by_cases G:j=k
   ·subst G;simp only[if_true,bO,eM] at aa;obtain⟨rfl,rfl⟩:=aa;exact⟨_,fz _ _ _,rfl,λ_=>rfl,λb U=>by cases U⟩
   ·simp only[G,if_false] at aa;rw[fm _ _ G];obtain⟨fI,sa,aN,aC,U⟩:=h.dk j cQ HT aa;refine⟨fI,sa,aN,aC,λb fW=>?_⟩;exact (U b fW).imp rfl rfl λm _ v M=>M.j9 iH
def dS.ghost {a:Act}{st:a8}{aA:cU}{mem':Mem}{tm':Nat->I}(h:dS b4 n A ct dE a st w B)(Q:da A w B w aA mem')(bN:∀s,tm' s=st.tm s\/a0 w (bp A aA) aA (tm' s) (a.eval (.tmp s))):
  dS b4 n A ct dE a ⟨tm',mem'⟩ w aA:=by
 refine⟨h.ok.trans Q,λs=>?_,h.sz,h.wv.j9 Q.iH⟩;rcases bN s with F|F
 ·simp only[F];exact (h.tm s).j9 Q.iH
 ·exact F
def akK {K:a8->Prop}{a:Act}{st:a8}{g:Mc}(h:dS b4 n A ct dE a st w B)(R:lh K st g):∃cf aA,K cf/\dS b4 n A ct dE a cf w aA:=by
 have kT:∀x:bx,∃v,a0 w (bp A B) B (aM st.tm x) v\/∃m,x=.c m:=λx=>by
  cases x with
  |t s=>exact⟨_,.inl (h.tm s)⟩
  |c m=>exact⟨undef,.inr ⟨m,rfl⟩⟩
 cases g with
 |mM s k sz =>
  simp only[lh] at R
  split at R
  ·rename_i Q;have ok:=da.wh h.ok.cu k;refine⟨_,_,R,h.ghost ok λt=>?_⟩
   by_cases qx:t=s
   ·subst qx;have:=h.tm t;rw[Q] at this;simp only[ea,if_true];exact .inr (Zi (e:=⟨bB st.mem k,none,0,false⟩) (fz _ _ _) this)
   ·exact .inl (by simp[ea,qx])
  ·cases R
 |freeze s =>
  simp only[lh] at R
  split at R
  ·rename_i k g sz off len Q
   split at R
   ·rename_i cx cs gK
    split at R
    ·rename_i aN;obtain⟨rfl,_⟩:=aN
     split at R
     ·rename_i d af;have ok:=da.wh h.ok.cu k;refine⟨_,_,R,h.ghost ok λt=>?_⟩
      by_cases qx:t=s
      ·subst qx;have ao:=h.tm t;rw[Q] at ao af;simp only[ea,if_true];exact .inr (.J (Ic h.ok.cu gK af ao))
      ·exact .inl (by simp[ea,qx])
     ·cases R
    ·cases R
   ·cases R
  ·cases R
 |DZ x i k sz =>
  simp only[lh] at R
  split at R
  ·rename_i kc g off L
   split at R
   ·rename_i cx cs gK
    split at R
    ·rename_i aN;subst aN
     split at R
     ·rename_i Y
      split at R
      ·rename_i bq;have ok:=da.wh h.ok.cu k;have sf:aV st.mem k (bB st.mem k) [] kc=some (cx,cs):=by simp[aV,Ne.symm bq,gK]
       obtain⟨e,he,bD,aC,U⟩:=h.ok.cu.at_ gK
       obtain⟨aA,sg⟩:=BI (w1:=w) (m':=.ref k (bB st.mem k) sz 0 0) ok.cu sf Y (by simp) (λaz b v eg eF ao=>by
        rw[fm B _ (Ne.symm bq)] at eg;rw[he] at eg
        cases eg;have M:=h.ok.cu.val gK he eF Y (by simp) ao;exact Zi (e:=⟨bB st.mem k,none,0,false⟩) (fz _ _ _) M)
       exact⟨_,aA,R,h.ghost (ok.trans sg) λt => .inl rfl⟩
      ·cases R
     ·cases R
    ·cases R
   ·cases R
  ·cases R
 |Md x i =>
  simp only[lh] at R
  split at R
  ·rename_i kc gc off L
   split at R
   ·rename_i Rh cc R3
    split at R
    ·rename_i aN;subst aN
     split at R
     ·rename_i k g sz o len Y
      split at R
      ·rename_i cx cs gK
       split at R
       ·rename_i aN;obtain⟨rfl,_,bq⟩:=aN
        split at R
        ·rename_i d af;have ok:=da.wh h.ok.cu k;have sf:aV st.mem k (bB st.mem k) [] kc=some (Rh,cc):=by simp[aV,Ne.symm bq,R3]
         obtain⟨e,he,bD,aC,U⟩:=h.ok.cu.at_ R3
         obtain⟨aA,sg⟩:=BI (w1:=w) (m':=.J d) ok.cu sf Y (by simp) (λaz b v eg eF ao=>by
          rw[fm B _ (Ne.symm bq)] at eg;rw[he] at eg
          cases eg;have M:=h.ok.cu.val R3 he eF Y (by simp) ao;exact .J (Ic h.ok.cu gK af M))
         exact⟨_,aA,R,h.ghost (ok.trans sg) λt => .inl rfl⟩
        ·cases R
       ·cases R
      ·cases R
     ·cases R
    ·cases R
   ·cases R
  ·cases R
 |move =>
  rcases R with R|⟨fO,fy,gw,i,k,g,sz,off,len,cs,k',gZ,Y,zX,F,G,ad,R⟩|⟨fO,fy,gw,i,k,g,sz,off,len,cs,d,gZ,Y,gK,-,bq,af,R⟩
  ·exact⟨st,B,R,h⟩
  ·obtain⟨e,he,bD,aC,U⟩:=h.ok.cu.at_ zX;have ok:=da.move h.ok.cu zX he G;have sf:aV (aV st.mem k (bB st.mem k) []) k' (bB st.mem k') cs fO=some (fy,gw):=by simp[aV,Ne.symm F,Ne.symm ad,gZ]
   obtain⟨ex,hex,Ii,jo,Zk⟩:=h.ok.cu.at_ gZ
   obtain⟨aA,sg⟩:=BI (w1:=w) (m':=.ref k' (bB st.mem k') sz off len) ok.cu sf Y (by simp) (λaz b v eg eF ao=>by
    rw[fm _ _ (Ne.symm ad),fm _ _ (Ne.symm F)] at eg;rw[hex] at eg
    cases eg;have M:=h.ok.cu.val gZ hex eF Y (by simp) ao
    cases M with
    |ref eg hgle M =>
     rw[he] at eg
     cases eg;obtain⟨a,cap,rfl,aZ,bw,bA⟩:=M;refine .ref (fz _ _ _) (c9 _) ⟨a,cap,rfl,aZ,bw,bA.imp id ?_⟩;rintro⟨eG,rfl,bM⟩;exact⟨eG,rfl,λ_=>bM bD.symm⟩)
   exact⟨_,aA,R,h.ghost (ok.trans sg) λt => .inl rfl⟩
  ·have ok:=da.wh h.ok.cu k;have sf:aV st.mem k (bB st.mem k) [] fO=some (fy,gw):=by simp[aV,Ne.symm bq,gZ]
   obtain⟨e,he,bD,aC,U⟩:=h.ok.cu.at_ gZ
   obtain⟨aA,sg⟩:=BI (w1:=w) (m':=.J d) ok.cu sf Y (by simp) (λaz b v eg eF ao=>by
    rw[fm B _ (Ne.symm bq)] at eg;rw[he] at eg
    cases eg;have M:=h.ok.cu.val gZ he eF Y (by simp) ao;exact .J (Ic h.ok.cu gK af M))
   exact⟨_,aA,R,h.ghost (ok.trans sg) λt => .inl rfl⟩
 |many =>
  obtain⟨mem',R4,R⟩:=R
  have main:∀{ri aY:Mem},HH ri aY->∀B,dS b4 n A ct dE a ⟨st.tm,ri⟩ w B->∃aA,dS b4 n A ct dE a ⟨st.tm,aY⟩ w aA:=by
   intro ri aY R4
   induction R4 with
   |refl mem=>exact λB h=>⟨B,h⟩
   | @step ri aY b0 Q _ a4 =>
    intro B h
    have one:∃aA,dS b4 n A ct dE a ⟨st.tm,aY⟩ w aA:=by
     cases Q with
     |aiC fO fy gw i k g sz off len cs k' gZ Y zX F G ad =>
      obtain⟨e,he,bD,aC,U⟩:=h.ok.cu.at_ zX;have ok:=da.move h.ok.cu zX he G;have sf:aV (aV ri k (bB ri k) []) k' (bB ri k') cs fO=some (fy,gw):=by simp[aV,Ne.symm F,Ne.symm ad,gZ]
      obtain⟨ex,hex,Ii,jo,Zk⟩:=h.ok.cu.at_ gZ
      obtain⟨aA,sg⟩:=BI (w1:=w) (m':=.ref k' (bB ri k') sz off len) ok.cu sf Y (by simp) (λaz b v eg eF ao=>by
       rw[fm _ _ (Ne.symm ad),fm _ _ (Ne.symm F)] at eg;rw[hex] at eg
       cases eg;have M:=h.ok.cu.val gZ hex eF Y (by simp) ao
       cases M with
       |ref eg hgle M =>
        rw[he] at eg
        cases eg;obtain⟨a,cap,rfl,aZ,bw,bA⟩:=M;refine .ref (fz _ _ _) (c9 _) ⟨a,cap,rfl,aZ,bw,bA.imp id ?_⟩;rintro⟨eG,rfl,bM⟩;exact⟨eG,rfl,λ_=>bM bD.symm⟩)
      exact⟨aA,h.ghost (ok.trans sg) λt => .inl rfl⟩
     |aiD fO fy gw i k g off cs k' gZ Y zX F G ad =>
      obtain⟨e,he,bD,aC,U⟩:=h.ok.cu.at_ zX;have ok:=da.move h.ok.cu zX he G;have sf:aV (aV ri k (bB ri k) []) k' (bB ri k') cs fO=some (fy,gw):=by simp[aV,Ne.symm F,Ne.symm ad,gZ]
      obtain⟨ex,hex,Ii,jo,Zk⟩:=h.ok.cu.at_ gZ
      obtain⟨aA,sg⟩:=BI (w1:=w) (m':=.ptr k' (bB ri k') off) ok.cu sf Y (by simp) (λaz b v eg eF ao=>by
       rw[fm _ _ (Ne.symm ad),fm _ _ (Ne.symm F)] at eg;rw[hex] at eg
       cases eg;have M:=h.ok.cu.val gZ hex eF Y (by simp) ao
       cases M with
       |ptr eg hgle M =>
        rw[he] at eg
        cases eg;obtain⟨eG,rfl,bM⟩:=M;exact .ptr (fz _ _ _) (c9 _) ⟨eG,rfl,λ_=>bM bD.symm⟩)
      exact⟨aA,h.ghost (ok.trans sg) λt => .inl rfl⟩
     |aiE fO fy gw i k g sz off len cs d gZ Y gK bq af =>
      have ok:=da.wh h.ok.cu k;have sf:aV ri k (bB ri k) [] fO=some (fy,gw):=by simp[aV,Ne.symm bq,gZ]
      obtain⟨e,he,bD,aC,U⟩:=h.ok.cu.at_ gZ
      obtain⟨aA,sg⟩:=BI (w1:=w) (m':=.J d) ok.cu sf Y (by simp) (λaz b v eg eF ao=>by
       rw[fm B _ (Ne.symm bq)] at eg;rw[he] at eg
       cases eg;have M:=h.ok.cu.val gZ he eF Y (by simp) ao;exact .J (Ic h.ok.cu gK af M))
      exact⟨aA,h.ghost (ok.trans sg) λt => .inl rfl⟩
    obtain⟨aA,cI⟩:=one;exact a4 aA cI
  obtain⟨aA,cI⟩:=main R4 B h;exact⟨_,aA,R,cI⟩
def erase:e1->e1
 |.skip => .skip
 |.ops l => .ops l
 |.mN l c => .mN l c
 |.seq a b => .seq (erase a) (erase b)
 |.cond c a b => .cond c (erase a) (erase b)
 |.block id c => .block id (erase c)
 |.loop c => .loop (erase c)
 |.exit id => .exit id
 |.ret => .ret
 |.ghost _ c=>erase c
def Zl:fD->Exit
 |.normal => .normal
 |.exit id => .exit id
 |.ret => .ret
def akL (P:Program)(n kb:Nat)(own:List Nat)(c:Code):e1->Prop
 |.skip=>c=.skip
 |.ops l=>∃id ops,c=.region id ops false/\ops.toList.mapM (nC P n kb own ops)=some l
 |.mN l iy=>∃id ops,c=.region id ops true/\ops.toList.mapM (nC P n kb own ops)=some l/\qh ops l=true/\iy=mi [] l (fV ops.toList [])
 |.seq x y=>∃a b,c=.seq a b/\py P n kb own a=some x/\py P n kb own b=some y
 |.cond x y z=>∃gL a b,c=.cond gL a b/\cP gL=some x/\py P n kb own a=some y/\py P n kb own b=some z
 |.block id x=>∃a,c=.block id a/\py P n kb own a=some x
 |.loop x=>∃a,c=.loop a/\py P n kb own a=some x
 |.exit id=>c=.exit id
 |.ret=>c=.ret
 |.ghost ..=>False
def x8 {c:Code}{m:e1}(h:py P n kb own c=some m):akL P n kb own c m:=by
 cases c<;>simp only[py,bO,reduceCtorEq,c4] at h
 case skip=>subst h;rfl
 case region id ops draw =>
  split at h
  ·rename_i l ag
   split at h
   ·rename_i af;subst af
    split at h
    ·rename_i dy
     cases h;exact⟨id,ops,rfl,ag,dy,rfl⟩
    ·cases h
   ·rename_i af
    cases h;exact⟨id,ops,by rw[Bool.not_eq_true] at af;rw[af],ag⟩
  ·cases h
 case seq a b =>
  split at h
  ·rename_i x y L ak
   cases h;exact⟨a,b,rfl,L,ak⟩
  ·cases h
 case cond x a b =>
  split at h
  ·rename_i gL y z L ak a2
   cases h;exact⟨x,a,b,rfl,L,ak,a2⟩
  ·cases h
 case block id a =>
  obtain⟨x,L,rfl⟩:=h;exact⟨a,rfl,L⟩
 case loop a =>
  obtain⟨x,L,rfl⟩:=h;exact⟨a,rfl,L⟩
 case exit id=>subst h;rfl
 case ret=>subst h;rfl
def zY (cw:nh P T)(hm:P.follows .mixedOrders=true):∀(M0:e1) (c:Code) (K:fD->a8->Prop) (a5:Exit->Act->World->Prop) (st:a8) (a:Act) (w:World) (B:cU),
  py P n kb own c=some (erase M0)->dS b4 n A ct dE a st w B->wp T M0 K st->(∀e st a w B,K e st->dS b4 n A ct dE a st w B->a5 (Zl e) a w)->c.wp P a5 a w
 |.ghost g M0,c,K,a5,st,a,w,B,ay,Q,h,e6=>by
  obtain⟨cf,aA,R,eH⟩:=akK Q h;exact zY cw hm M0 c K a5 cf a w aA ay eH R e6
 |.skip,c,K,a5,st,a,w,B,ay,Q,h,e6=>by
  obtain rfl:=x8 ay;exact Go.wp_skip (e6 .normal st a w B h Q)
 |.exit id,c,K,a5,st,a,w,B,ay,Q,h,e6=>by
  obtain rfl:=x8 ay;exact Go.wp_exit (e6 (.exit id) st a w B h Q)
 |.ret,c,K,a5,st,a,w,B,ay,Q,h,e6=>by
  obtain rfl:=x8 ay;exact Go.wp_ret (e6 .ret st a w B h Q)
 |.ops l,c,K,a5,st,a,w,B,ay,Q,h,e6=>by
  obtain⟨id,ops,rfl,ag⟩:=x8 ay;have:=R1 (a5:=a5) (K:=K .normal) cw ag (λst a w B R Q=>e6 .normal st a w B R Q) l 0 st a w B rfl Q h;refine Go.wp_region ?_;rw[(mapM_get ag).1,Array.length_toList] at this;rw[List.range_eq_range'];exact this
 |.mN l iy,c,K,a5,st,a,w,B,ay,Q,h,e6=>by
  obtain⟨id,ops,rfl,ag,af,rfl⟩:=x8 ay;exact akI cw hm ag af Q h λst a w B R Q=>e6 .normal st a w B R Q
 |.seq x y,c,K,a5,st,a,w,B,ay,Q,h,e6=>by
  obtain⟨gL,y',rfl,L,ak⟩:=x8 ay;refine Go.wp_seq (zY cw hm x gL _ _ st a w B L Q h λe cf cD an aA R eH=>?_)
  cases e with
  |normal=>exact zY cw hm y y' _ _ cf cD an aA ak eH R e6
  |exit id=>exact e6 (.exit id) cf cD an aA R eH
  |ret=>exact e6 .ret cf cD an aA R eH
 |.cond x y z,c,K,a5,st,a,w,B,ay,Q,h,e6=>by
  obtain⟨gL,y',Ij,rfl,L,ak,a2⟩:=x8 ay;have ao:=Q.kh gL x L;simp only[wp] at h
  split at h
  ·rename_i t bN;rw[bN] at ao;refine Go.wp_cond ao.zI ?_
   cases t with
   |true=>exact zY cw hm y y' _ _ st a w B ak Q h e6
   |false=>exact zY cw hm z Ij _ _ st a w B a2 Q h e6
  ·cases h
 |.block id x,c,K,a5,st,a,w,B,ay,Q,h,e6=>by
  obtain⟨gL,rfl,L⟩:=x8 ay;refine Go.wp_block (zY cw hm x gL _ _ st a w B L Q h λe cf cD an aA R eH=>?_)
  cases e with
  |normal=>exact e6 .normal cf cD an aA R eH
  |exit j =>
   simp only[Zl,Exit.inBlock];simp only at R
   split
   ·rename_i aa;rw[aL aa] at R;exact e6 .normal cf cD an aA R eH
   ·rename_i aa;rw[aT aa] at R;exact e6 (.exit j) cf cD an aA R eH
  |ret=>exact e6 .ret cf cD an aA R eH
 |.loop x,c,K,a5,st,a,w,B,ay,Q,h,e6=>by
  obtain⟨gL,rfl,L⟩:=x8 ay;obtain⟨Bn,μ,BJ,M1⟩:=h
  have key:∀m (st:a8) (a:Act) (w:World) (B:cU),μ st<m->Bn st->dS b4 n A ct dE a st w B->Code.rounds P gL a5 m a w:=by
   intro m
   induction m with
   |zero=>intro st a w B uZ;omega
   |succ m a4 =>
    intro st a w B uZ BJ Q;refine zY cw hm x gL _ _ st a w B L Q (M1 st BJ) λe cf cD an aA R eH=>?_
    cases e with
    |normal=>exact a4 cf cD an aA (by have:=R.2;omega) R.1 eH
    |exit id=>exact e6 (.exit id) cf cD an aA R eH
    |ret=>exact e6 .ret cf cD an aA R eH
  exact wp_loop_rounds (μ st+1) (key _ st a w B (Nat.lt_succ_self _) BJ Q)
end Go.Mini
namespace Go.Mini
open Go
variable {P:Program} {b4:Option I} {T:bj} {A:Nat->Prop} {ct w:World} {dE B:cU} {mem:Mem} {n kb:Nat} {own:List Nat}
def akM {a:Act}{st:a8}{r:ResultVar}{cu:ku}{m:I}(Q:dS b4 n A ct dE a st w B)(ay:wg P r=some cu)(h:Ea st cu=some m):
  ∃v,((match r with
   |.tmp t=>pure (a.tmps.getD t undef)
   |.cell b t=>do loadVar t (<-asAddr (a.tmps.getD b undef)):Sem Value)).run P w=.ok v w/\a0 w (bp A B) B m v:=by
 cases r with
 |tmp t =>
  simp only[wg,bO] at ay;subst ay;simp only[Ea,bO] at h;subst h;exact⟨_,rfl,Q.tm t⟩
 |cell b t =>
  simp only[wg] at ay
  split at ay
  ·rename_i s g ec uP;simp only[bO] at ay;subst ay;obtain⟨dk,off,ms,vs,ao,ag,b9,ha,M⟩:=X2 Q.ok.cu (Q.tm b) h;obtain⟨u,F,G⟩:=Rm (P:=P) ec uP ag b9 ha M;refine⟨u,?_,G⟩;have:a.tmps.getD b undef=.pointer (some ⟨dk,off,none⟩):=ao;simp only[this,asAddr,Sem.run_bind,Sem.run_pure,Result.andThen_ok];exact F
  ·cases ay
def Zm {a:Act}{st:a8}(Q:dS b4 n A ct dE a st w B):∀{l:List ResultVar} {rs:List ku} {ms:List I},l.mapM (wg P)=some rs->rs.mapM (Ea st)=some ms ->
  ∃vs:List Value,(l.mapM λr=>((match r with
   |.tmp t=>pure (a.tmps.getD t undef)
   |.cell b t=>do loadVar t (<-asAddr (a.tmps.getD b undef)):Sem Value))).run P w=.ok vs w/\cC w (bp A B) B ms vs
 | [],rs,ms,F,G=>by
  simp at F;subst F;simp at G;subst G;exact⟨[],rfl,cC.nil⟩
 |r::l,rs,ms,F,G=>by
  simp only[nf,ga,gj,dI,bO] at F;obtain⟨x,L,xs,sh,rfl⟩:=F;simp only[nf,ga,gj,dI,bO] at G;obtain⟨m,hm,ayF,aF,rfl⟩:=G;obtain⟨v,ao,M⟩:=akM Q L hm;obtain⟨vs,aK,b9⟩:=Zm Q sh aF;refine⟨v::vs,?_,cC.cons M b9⟩;simp only[nf,Sem.run_bind,ao,Result.andThen_ok,aK,Sem.run_pure]
def M5 {a:Act}{st:a8}{fn:Func}{rs:List ku}{m:I}(Q:dS b4 n A ct dE a st w B)(ay:fn.results.toList.mapM (wg P)=some rs)(h:jO st rs=some m):
  ∃v,(results fn a.tmps).run P w=.ok v w/\a0 w (bp A B) B m v:=by
 unfold jO at h
 have main:∀ms,rs.mapM (Ea st)=some ms->∃vs:List Value,(results fn a.tmps).run P w=.ok (if h:vs.toArray.size=1 then vs.toArray[0] else .tuple vs.toArray) w/\cC w (bp A B) B ms vs:=by
  intro ms aF;obtain⟨vs,F,G⟩:=Zm Q ay aF;refine⟨vs,?_,G⟩;unfold results;rw[Array.mapM_eq_mapM_toList,map_eq_pure_bind];simp only[Sem.run_bind,Sem.run_pure];have tB:=F;generalize aU:(List.mapM _ fn.results.toList:Sem (List Value))=q;have:q.run P w=.ok vs w:=by rw[<-aU];exact tB
  rw[this]
  rfl
 split at h
 ·rename_i x aF;simp only[bO] at h;subst h;obtain⟨vs,F,G⟩:=main _ aF;have ag:=G.1;simp at ag;obtain⟨v,rfl⟩:=Zn.1 ag;exact⟨v,F,G.2 0 _ v rfl rfl⟩
 ·rename_i ms bq aF;simp only[bO] at h;subst h;obtain⟨vs,F,G⟩:=main _ aF;have ag:=G.1;refine⟨_,F,?_⟩
  have:¬ (vs.toArray.size=1):=λh=>by
   have cI:(D ms)=1:=by rw[<-ag];simpa using h
   obtain⟨x,rfl⟩:=Zn.1 cI;exact bq x rfl
  rw[dif_neg this];exact .dq ag G.2
 ·cases h
def R5 (mf:bG)(Post:I->Mem->Prop):fD->a8->Prop
 |.exit _,_=>False
 |_,st=>∃m,jO st mf.res=some m/\Post m st.mem
def Ik (cw:nh P T)(hm:P.follows .mixedOrders=true){f:FuncId}{fn:Func}{mf:bG}(al:P.funcs[f]?=some fn)(ay:pz P kb own fn=some { mf with body:=erase mf.body }){args:List I}(jq:(D args)<=mf.n)
  {Post:I->Mem->Prop} {K:fD->a8->Prop} (ei:∀e st,K e st->R5 mf Post e st) (h:wp T mf.body K ⟨ke args,mem⟩) {A:Nat->Prop} {w:World} {B:cU} {vs:List Value} (bk:dQ A w B mem) (ao:cC w (bp A B) B args vs) :
  Calls P f vs.toArray w λe an=>∃v m mem' aA,e=.returned v/\da A w B an aA mem'/\a0 an (bp A aA) aA m v/\Post m mem':=by
 unfold pz at ay
 split at ay
 ·cases ay
 ·rename_i c U
  split at ay
  ·rename_i b rs Y mT;simp only[bO,bG.mk.injEq] at ay;obtain⟨aC,ayG,jS,akN⟩:=ay;have ec:(D vs)=D args:=ao.1;refine calls_of_wp al U ?_;rw[akN] at Y;refine zY (b4:=none) cw hm mf.body c K _ ⟨ke args,mem⟩ _ w B Y ⟨.refl bk,λs=>?_,?_,rfl⟩ h λe st a an aA zO Q=>?_
   ·simp only[ke,Act.eval,Array.getD_eq_getD_getElem?];rcases gY s (D vs) with aq|bD
    ·have F:args[s]?=some args[s]:=bf (by omega)
     have G:(vs.toArray++Array.replicate (fn.ntmps-vs.toArray.size) undef)[s]?=some vs[s]:=by
      rw[Array.getElem?_append_left (by simpa using aq)];simp[aq]
     rw[F,G];exact ao.2 s _ _ F (bf aq)
    ·rw[List.getElem?_eq_none (by omega),Array.getElem?_append_right (by simpa using bD)]
     have:((Array.replicate (fn.ntmps-vs.toArray.size) undef)[s-vs.toArray.size]?).getD undef=undef:=by
      cases aU:(Array.replicate (fn.ntmps-vs.toArray.size) undef)[s-vs.toArray.size]? with
      |none=>rfl
      |some u =>
       have:=Array.mem_of_getElem? aU;simp at this;simp[this.2]
     rw[this];exact .no
   ·simp;omega
   ·have R:=ei e st zO
    cases e with
    |exit id=>cases R
    |normal =>
     obtain⟨m,uZ,aR⟩:=R;obtain⟨v,eN,jm⟩:=M5 Q mT (by rw[jS];exact uZ);exact⟨Q.wv,v,eN,v,m,_,aA,rfl,Q.ok,jm,aR⟩
    |ret =>
     obtain⟨m,uZ,aR⟩:=R;obtain⟨v,eN,jm⟩:=M5 Q mT (by rw[jS];exact uZ);exact⟨Q.wv,v,eN,v,m,_,aA,rfl,Q.ok,jm,aR⟩
  ·cases ay
inductive dj where
 |same (r:Data)
 |own (sz:Nat) (es:List (List Data))
def x9 (w:World)(aw:Nat->Prop)(ds:List Data)(vs:List Value):Prop:=D vs=D ds/\∀(i:Nat) (d:Data) (v:Value),ds[i]?=some d->vs[i]?=some v->Den w aw d v
def akO (w an:World)(aw:Nat->Prop):dj->Value->Prop
 |.same r,v=>Den an aw r v
 |.own sz es,v=>xZ w an aw sz es v
structure hY (P:Program) (f:FuncId) (cp:List Data->Option dj):Prop where
 real:Real P f
 run:∀ds r,cp ds=some r->∀(A:Nat->Prop) (w:World) (vs:List Value),(∀b,A b->b<w.heap.size)->DX w->x9 w A ds vs ->
  Calls P f vs.toArray w λe an=>∃v,e=.returned v/\Fr (λ_=>False) w an/\akO w an A r v
def Zo:dj->I->Mem->Prop
 |.same r,m,mem=>∃d,cN d mem m=some r
 |.own sz es,m,mem=>(m=.nil/\es=[])\/∃k g len cs ds d,m=.ref k g sz 0 len/\mem k=some (g,cs)/\len*sz<=D cs/\(cs.take (len*sz)).mapM (cN d (kill mem k))=some ds/\es=chunk sz len ds
def qy (sz:Nat)(mem:Mem):I->Option (List (List Data))
 |.nil=>some []
 |.ref k g eh off len=>if eh=sz/\off=0 then (match mem k with
  |some (cx,cs)=>if cx=g/\len*sz<=(D cs) then ((cs.take (len*sz)).mapM (cN 6 (kill mem k))).map (chunk sz len) else none
  |none=>none) else none
 |_=>none
def ya (res:List ku):dj->a8->Prop
 |.same r,st=>(jO st res).bind (cN 6 st.mem)=some r
 |.own sz es,st=>(jO st res).bind (qy sz st.mem)=some es
def tC (res:List ku)(r:dj):fD->a8->Prop
 |.exit _,_=>False
 |.normal,st=>ya res r st
 |.ret,st=>ya res r st
def Zp {mf:bG}{r:dj}{st:a8}(h:ya mf.res r st):∃m,jO st mf.res=some m/\Zo r m st.mem:=by
 cases r with
 |same r =>
  simp only[ya,dI] at h;obtain⟨m,F,G⟩:=h;exact⟨m,F,6,G⟩
 |own sz es =>
  simp only[ya,dI] at h;obtain⟨m,F,G⟩:=h;refine⟨m,F,?_⟩
  cases m<;>simp only[qy,bO,reduceCtorEq] at G
  ·exact .inl ⟨rfl,G.symm⟩
  ·split at G
   ·rename_i Y;obtain⟨rfl,rfl⟩:=Y
    split at G
    ·rename_i cx cs R
     split at G
     ·rename_i aN;obtain⟨rfl,hle⟩:=aN;simp only[c4] at G;obtain⟨ds,fE,rfl⟩:=G;exact .inr ⟨_,_,_,cs,ds,6,rfl,R,hle,fE,rfl⟩
     ·cases G
    ·cases G
   ·cases G
def akP {mf:bG}{r:dj}{e:fD}{st:a8}(h:tC mf.res r e st):R5 mf (Zo r) e st:=by
 cases e with
 |exit id=>exact h
 |normal=>exact Zp h
 |ret=>exact Zp h
def yb (b:Nat):¬ n3 (λ_=>none) b:=fun⟨_,_,h,_⟩=>by cases h
def Zq {w an:World}{aA:cU}{mem':Mem}{k:Key}{g sz len d:Nat}{cs:List I}{wC:List Data}{v:Value}(h6:∀b,¬ n3 B b)(Q:da A w B an aA mem')(ao:a0 an (bp A aA) aA (.ref k g sz 0 len) v)(R:mem' k=some (g,cs))(hle:len*sz<=D cs)
  (fE:(cs.take (len*sz)).mapM (cN d (kill mem' k))=some wC):xZ w an A sz (chunk sz len wC) v:=by
 obtain⟨F,G⟩:=mapM_get fE;have si:(D wC)=len*sz:=by rw[F,gk];omega
 refine⟨MD sz len wC si,?_⟩;rw[MC,ME sz len wC si]
 cases ao with
 |ref he hgle M =>
  obtain⟨e,eL,bD,aC,U⟩:=Q.cu.at_ R;rw[eL] at he;obtain rfl:=mm he;obtain⟨a,cap,rfl,ad,aZ,bw⟩:=M;refine⟨a,cap,rfl,ad,aZ,bw.imp id ?_⟩;rintro⟨b,rfl,bA⟩;obtain⟨bM,cd,hF⟩:=bA bD.symm;obtain⟨nF,akQ,bm,a2,Bu,uT⟩:=U b bM hF;obtain⟨akR,mU⟩:=kill_shut Q.cu R eL bM;refine⟨b,nF,akQ,rfl,?_,bm,by simpa [a2] using cd,λi x L=>?_⟩
  ·rcases Q.fresh b ⟨k,_,eL,bM⟩ with h|h
   ·exact (h6 b h).elim
   ·exact h
  ·have Zr:i<D wC:=(dL.1 L).1;have lT:i<D cs:=by omega
   have dh:(cs.take (len*sz))[i]?=some cs[i]:=by
    rw[x6 (by omega)];exact bf lT
   have Ih:i<nF.size:=by omega
   refine⟨nF[i],Array.getElem?_eq_getElem Ih,snap akR (λb U=>U) d _ _ x (G i _ x dh L) (mU _ _ (uT.2 i _ _ (bf lT) ?_))⟩;rw[x6 lT,Array.getElem?_toList];exact Array.getElem?_eq_getElem Ih
def R6 (cw : nh P T)(hm : P.follows .mixedOrders = true){f : FuncId}{fn : Func}{mf : bG}(al : P.funcs[f]? = some fn)(sj : (fn.name == "runtime.NumGoroutine") = false)(ay : pz P kb own fn = some { mf with body := erase mf.body })
  {cp:List Data->Option dj} (h:∀ds r,cp ds=some r->(D ds)<=mf.n/\wp T mf.body (tC mf.res r) ⟨ke (ds.map .J),emp⟩):hY P f cp:=by
 refine⟨?_,λds r ek A w vs aq jT sb=>?_⟩
 ·cases U:fn.body with
  |none=>simp[pz,U] at ay
  |some c=>exact⟨fn,c,al,U,sj⟩
 ·obtain⟨hlen,yc⟩:=h ds r ek;have bk:dQ A w (λ_=>none) emp:=⟨λ_ _=>rfl,λ_ _ _ _ _ h=>(by cases h),λb _ a6=>yb b a6,aq,jT,λb _ _ a6=>yb b a6,λ_ _ _ h=>(by cases h)⟩;have e9:∀b,bp A (λ_=>none) b->A b:=λb h=>h.elim (λh=>(yb b h).elim) id;have b9:cC w (bp A λ_=>none) (λ_=>none) (ds.map .J) vs:=cC.J sb.1 λi d v F G=>(sb.2 i d v F G).less e9;refine Calls.mono (Ik cw hm al ay (by simpa using hlen) (λe st=>akP) yc bk b9) λe an he=>?_;obtain⟨v,m,mem',aA,rfl,Q,ao,aR⟩:=he;refine⟨v,rfl,⟨Q.fZ.os,Q.fZ.tape,Q.fZ.output,Q.fZ.size,λg aN _=>Q.fZ.block g aN (yb g)⟩,?_⟩
  cases r with
  |same r =>
   obtain⟨d,af⟩:=aR;exact snap Q.cu (λb U=>U) d m v r af ao
  |own sz es =>
   rcases aR with ⟨rfl,rfl⟩|⟨k,g,len,cs,wC,d,rfl,R,hle,fE,rfl⟩
   ·cases ao;exact⟨by simp,_,0,rfl,c9 _,dG _,.inl rfl⟩
   ·exact Zq yb Q ao R hle fE
def scalar:Data->Bool
 |.int _ _=>true
 |.bool _=>true
 |.str _=>true
 |.qZ=>true
 |.rS=>true
 |.ar []=>true
 |.dq ds=>ds.attach.all fun⟨d,_⟩=>scalar d
 |.agg ds=>ds.attach.all fun⟨d,_⟩=>scalar d
 |.nB=>true
 |.n2 _ d=>scalar d
 |_=>false
def Zs {aw hj:Nat->Prop}{d:Data}{v:Value}(h:scalar d=true)(af:Den w aw d v):Den w hj d v:=by
 induction af with
 |int=>exact .int
 |bool=>exact .bool
 |str=>exact .str
 |qZ=>exact .qZ
 |rS=>exact .rS
 |kP=>exact .kP
 | @ar es b off c sz val ag hm U e9 ec Y af a4 =>
  cases es with
  |nil=>exact .kP
  |cons=>simp[scalar] at h
 |ptr=>simp[scalar] at h
 |fn=>simp[scalar] at h
 | @agg cs vs ag af a4 =>
  simp only[scalar,kA,Zt,true_imp_iff,Subtype.forall] at h;exact .agg ag λi d v F G=>a4 i d v F G (h d (cL F))
 | @dq cs vs ag af a4 =>
  simp only[scalar,kA,Zt,true_imp_iff,Subtype.forall] at h;exact .dq ag λi d v F G=>a4 i d v F G (h d (cL F))
 |n2 af a4=>exact .n2 (a4 (by simpa [scalar] using h))
 |nB=>exact .nB
def R7 {aw:Nat->Prop}:∀(d:Nat) (m:I) (v:Value) (r:Data),cN d emp m=some r->a0 w aw B m v->Den w aw r v:=by
 intro d
 induction d with
 |zero =>
  intro m v r h ao
  cases m<;>simp only[cN,bO,reduceCtorEq] at h
  ·subst h;cases ao with|J h=>exact h
  ·subst h;cases ao;exact .kP
 |succ d a4 =>
  intro m v r h ao
  have lists:∀(cs:List I) (vs:List Value) (ds:List Data),cs.mapM (cN d emp)=some ds->(D vs)=(D cs)->(∀(i:Nat) (x:I) (u:Value),cs[i]?=some x->vs[i]?=some u->a0 w aw B x u) ->
    (D vs)=D ds/\∀(i:Nat) (x:Data) (u:Value),ds[i]?=some x->vs[i]?=some u->Den w aw x u:=by
   intro cs vs ds fE ag M;obtain⟨F,G⟩:=mapM_get fE;refine⟨by omega,λi x u L hu=>?_⟩
   have aq:i<D cs:=by have:=(dL.1 L).1;omega
   have dh:=bf aq;exact a4 _ u x (G i _ x dh L) (M i _ u dh hu)
  cases m<;>simp only[cN,emp,bO,c4,reduceCtorEq] at h
  case J=>subst h;cases ao with|J h=>exact h
  case nil=>subst h;cases ao;exact .kP
  case ef f cs =>
   obtain⟨ds,fE,rfl⟩:=h
   cases ao with
   |ef ag af=>obtain⟨F,G⟩:=lists _ _ _ fE ag af;exact .fn F G
  case agg cs =>
   obtain⟨ds,fE,rfl⟩:=h
   cases ao with
   |agg ag af=>obtain⟨F,G⟩:=lists _ _ _ fE ag af;exact .agg F G
  case dq cs =>
   obtain⟨ds,fE,rfl⟩:=h
   cases ao with
   |dq ag af=>obtain⟨F,G⟩:=lists _ _ _ fE ag af;exact .dq F G
def M6:dj->gH
 |.same r => .same r
 |.own sz es => .own sz es
def Ew:dj->Option gH
 |.same r=>if scalar r=true then some (.same r) else none
 |.own sz es=>if (es.all λe=>e.all scalar)=true then some (.own sz es) else none
def M7 (cp:List Data->Option dj):Option (List Data)->Option gH
 |some ds=>(cp ds).bind Ew
 |none=>none
def Ex (cp:List Data->Option dj):Option (List Data)->Option (List Data)->Option gH
 |some ds,_=>(cp ds).map M6
 |none,x=>M7 cp x
def aG (cp:List Data->Option dj)(args:List I)(mem:Mem):Option gH:=Ex cp (args.mapM (cN 6 emp)) (args.mapM (cN 6 mem))
def u2 (gn:FuncId->Option (List Data->Option dj)):bj:=λf args mem=>match gn f with
 |some cp=>aG cp args mem
 |none=>none
def Zu {aw:Nat->Prop}{g:I->Option Data}{args:List I}{ds:List Data}{vs:List Value}(h:args.mapM g=some ds)(ao:cC w aw B args vs){hj:Nat->Prop}(af:∀m v r,g m=some r->a0 w aw B m v->Den w hj r v):x9 w hj ds vs:=by
 obtain⟨F,G⟩:=mapM_get h;refine⟨by rw[ao.1,F],λi d v mP kR=>?_⟩
 have aq:i<D args:=by have:=(dL.1 mP).1;omega
 have zZ:=bf aq;exact af _ v d (G i _ d zZ mP) (ao.2 i _ v zZ kR)
def R8 {gn:FuncId->Option (List Data->Option dj)}(h:∀f cp,gn f=some cp->hY P f cp):nh P (u2 gn):=by
 intro f args mem oa hH;unfold u2 at hH
 split at hH
 ·rename_i cp ek;have iM:=h f cp ek;refine⟨iM.real,λA w B vs bk ao=>?_⟩;unfold aG at hH
  cases fE:args.mapM (cN 6 emp) with
  |some ds =>
   rw[fE] at hH;simp only[Ex,c4] at hH;obtain⟨r,M,rfl⟩:=hH;have Y:=iM.run ds r M (bp A B) w vs (λb U=>U.elim (λh=>bk.rU h) (bk.lt b)) bk.gl (Zu fE ao λm v r=>R7 6 m v r)
   cases r with
   |same r=>exact Y
   |own sz es=>exact Y
  |none =>
   rw[fE] at hH;simp only[Ex] at hH
   cases fE:args.mapM (cN 6 mem) with
   |none=>rw[fE] at hH;cases hH
   |some ds =>
    rw[fE] at hH;simp only[M7,dI] at hH;obtain⟨r,M,ag⟩:=hH;have Y:=iM.run ds r M (λ_=>False) w vs (λb U=>U.elim) bk.gl (Zu fE ao λm v r h ao=>snap bk (λb U=>U.elim) 6 m v r h ao)
    cases r with
    |same r =>
     simp only[Ew] at ag
     split at ag
     ·rename_i Q
      cases ag;exact Calls.mono Y λe an ⟨v,he,dr,af⟩=>⟨v,he,dr,Zs Q af⟩
     ·cases ag
    |own sz es =>
     simp only[Ew] at ag
     split at ag
     ·rename_i Q
      cases ag;refine Calls.mono Y λe an ⟨v,he,dr,af⟩=>⟨v,he,dr,?_⟩;obtain⟨F,a,cap,G,ad,aZ,bw⟩:=af;refine⟨F,a,cap,G,ad,aZ,bw.imp id ?_⟩;rintro⟨b,vs,T,bA,bM,cd,di,dz⟩;refine⟨b,vs,T,bA,bM,cd,di,λi d af=>?_⟩;obtain⟨u,hu,sb⟩:=dz i d af;refine⟨u,hu,Zs ?_ sb⟩;have hm:=cL af;rw[List.mem_flatten] at hm;obtain⟨e,he,akS⟩:=hm;rw[kA] at Q;have:=Q e he;rw[kA] at this;exact this d akS
     ·cases ag
 ·cases hH
end Go.Mini
namespace Go.Mini
open Go
def Ey {ι:Type}(T:bj)(cS:ι->a8->Prop)(m:ι->Nat)(i:ι)(K:fD->a8->Prop)(k:List iY):fD->a8->Prop
 |.normal,st=>∃a3,m a3<m i/\cS a3 st
 |.exit id,st=>cO T K k (.exit id) st
 |.ret,st=>cO T K k .ret st
@[go_sem] def ayH {ι:Type}(T:bj)(cS:ι->a8->Prop)(m:ι->Nat)(i:ι)(K:fD->a8->Prop)(k:List iY)(id:Nat)(st:a8):Ey T cS m i K k (.exit id) st=cO T K k (.exit id) st:=bu
@[go_sem] def ayI {ι:Type}(T:bj)(cS:ι->a8->Prop)(m:ι->Nat)(i:ι)(K:fD->a8->Prop)(k:List iY)(st:a8):Ey T cS m i K k .ret st=cO T K k .ret st:=bu
@[go_sem] def akT {ι:Type}(T:bj)(cS:ι->a8->Prop)(m:ι->Nat)(i:ι)(K:fD->a8->Prop)(k:List iY)(st:a8):Ey T cS m i K k .normal st=∃a3,m a3<m i/\cS a3 st:=bu
open Classical in
def akU {ι:Type}{T:bj}{K:fD->a8->Prop}{k:List iY}{st:a8}{c:e1}(cS:ι->a8->Prop)(m:ι->Nat)(i0:ι)(au:cS i0 st)(h:∀i st,cS i st->wp T c (cO T (Ey T cS m i K k) []) st):
  wp T (.loop c) (cO T K k) st:=by
 have least:∀st,(∃i,cS i st)->∃i,cS i st/\∀j,cS j st->m i<=m j:=by
  intro st ⟨i,ab⟩
  have:∀n i,m i=n->cS i st->∃i,cS i st/\∀j,cS j st->m i<=m j:=by
   intro n
   induction n using R9 with
   |_ n a4 =>
    intro i aC ab
    by_cases L:∃j,cS j st/\m j<m i
    ·obtain⟨j,aa,aq⟩:=L;exact a4 (m j) (by omega) j rfl aa
    ·refine⟨i,ab,λj aa=>?_⟩;rcases gY (m j) (m i) with cI|cI
     ·exact absurd ⟨j,aa,cI⟩ L
     ·exact cI
  exact this _ i rfl ab
 refine⟨λst=>∃i,cS i st,λst=>if L:∃i,cS i st then m (Ez (least st L)) else 0,⟨i0,au⟩,λst dg=>?_⟩;have oP:=sk (least st dg);have:=h _ st oP.1
 have R:cO T (Ey T cS m (Ez (least st dg)) K k) []=λe cf=>match e with
   |.normal=>(∃i,cS i cf)/\(if L:∃i,cS i cf then m (Ez (least cf L)) else 0)<(if L:∃i,cS i st then m (Ez (least st L)) else 0)
   |e=>cO T K k e cf:=by
  funext e cf
  cases e with
  |normal =>
   simp only[ajX,akT];apply propext
   constructor
   ·rintro⟨a3,aq,aa⟩;have hex:∃i,cS i cf:=⟨a3,aa⟩;refine⟨hex,?_⟩;rw[dif_pos hex,dif_pos dg];have:=(sk (least cf hex)).2 a3 aa;omega
   ·rintro⟨hex,aq⟩;rw[dif_pos hex,dif_pos dg] at aq;exact⟨_,aq,(sk (least cf hex)).1⟩
  |exit id=>rfl
  |ret=>rfl
 rw[R] at this;exact this
section
variable {cp:List Data->Option dj} {mem:Mem} {st:a8} {res:List ku}
@[go_sem] def ayJ (ds:List Data)(x:Option (List Data)):Ex cp (some ds) x=(cp ds).map M6:=bu
@[go_sem] def ayK (x:Option (List Data)):Ex cp none x=M7 cp x:=bu
@[go_sem] def ayL (ds:List Data):M7 cp (some ds)=(cp ds).bind Ew:=bu
@[go_sem] def ayM (r:Data):M6 (.same r)=.same r:=bu
@[go_sem] def ayN (sz:Nat)(es:List (List Data)):M6 (.own sz es)=.own sz es:=bu
@[go_sem] def ayO (r:Data):Ew (.same r)=if scalar r=true then some (.same r) else none:=bu
@[go_sem] def akV (n:Nat)(d:Data):cN n mem (.J d)=some d:=by cases n<;>rfl
@[go_sem] def ayP (n:Nat):cN n mem .nil=some (.ar []):=by cases n<;>rfl
@[go_sem] def ayQ (n:Nat)(cs:List I):cN (n+1) mem (.agg cs)=(cs.mapM (cN n mem)).map .agg:=bu
@[go_sem] def ayR (n:Nat)(cs:List I):cN (n+1) mem (.dq cs)=(cs.mapM (cN n mem)).map .dq:=bu
@[go_sem] def ayS (n:Nat)(f:FuncId)(cs:List I):cN (n+1) mem (.ef f cs)=(cs.mapM (cN n mem)).map (.fn f):=bu
@[go_sem] def ayT (r:dj)(id:Nat):tC res r (.exit id) st=False:=bu
@[go_sem] def ayU (r:dj):tC res r .ret st=ya res r st:=bu
@[go_sem] def ayV (r:dj):tC res r .normal st=ya res r st:=bu
@[go_sem] def ayW (r:Data):ya res (.same r) st=((jO st res).bind (cN 6 st.mem)=some r):=bu
@[go_sem] def ayX (sz:Nat)(es:List (List Data)):ya res (.own sz es) st=((jO st res).bind (qy sz st.mem)=some es):=bu
end
@[go_sem] def ayY (x:Bool):MK (.J (.bool x)) true=some x:=by cases x<;>rfl
@[go_sem] def ayZ (x:Bool):MK (.J (.bool x)) false=some (!x):=by cases x<;>rfl
attribute [go_sem] g0 bP List.getElem?_cons_zero List.getElem?_cons_succ lQ mV pD EA M8 z0 kU Option.map_none r1
 nf Zv ga gj EB M9 List.drop_succ_cons List.drop_nil List.take_nil c2 dc tD qz tE pE pF e0 iZ eO u3 List.all_nil true_and and_true cE bne
section
variable {T:bj} {K:fD->a8->Prop} {k:List iY} {st:a8}
def akW {x:Bool}{i:bz}{r:List bz}(F:x=false->qu T K k (some true) i r st)(G:x=true->qu T K k (some false) i r st):qu T K k (some (!x)) i r st:=by
 cases x
 ·exact F rfl
 ·exact G rfl
def akX {x:Bool}{i:bz}{r:List bz}(F:x=true->qu T K k (some true) i r st)(G:x=false->qu T K k (some false) i r st):qu T K k (some x) i r st:=by
 cases x
 ·exact G rfl
 ·exact F rfl
def akY {x:Bool}{n:Nat}{i:bz}{r:List bz}{c:List (List Nat)}{rec:Rec}(F:x=false->qv T K k n (some true) i r c rec st)(G:x=true->qv T K k n (some false) i r c rec st):qv T K k n (some (!x)) i r c rec st:=by
 cases x
 ·exact F rfl
 ·exact G rfl
def akZ {x:Bool}{n:Nat}{i:bz}{r:List bz}{c:List (List Nat)}{rec:Rec}(F:x=true->qv T K k n (some true) i r c rec st)(G:x=false->qv T K k n (some false) i r c rec st):qv T K k n (some x) i r c rec st:=by
 cases x
 ·exact G rfl
 ·exact F rfl
def ak0 {x:Bool}{a b:e1}(F:x=false->pB T K k (.J (.bool true)) a b st)(G:x=true->pB T K k (.J (.bool false)) a b st):pB T K k (.J (.bool (!x))) a b st:=by
 cases x
 ·exact F rfl
 ·exact G rfl
def ak1 {x:Bool}{a b:e1}(F:x=true->pB T K k (.J (.bool true)) a b st)(G:x=false->pB T K k (.J (.bool false)) a b st):pB T K k (.J (.bool x)) a b st:=by
 cases x
 ·exact G rfl
 ·exact F rfl
end
class BK (bh:Prop) (A B:outParam Prop):Prop where
 go:A->B->bh
def ae {bh A B:Prop}[s:BK bh A B](a:A)(b:B):bh:=s.go a b
def ah {bh:Prop}(h:true=true->bh):bh:=h rfl
instance {T K k i r st} {x:Bool}:BK (qu T K k (some x) i r st) (x=true->qu T K k (some true) i r st) (x=false->qu T K k (some false) i r st):=⟨akX⟩
instance {T K k i r st} {x:Bool}:BK (qu T K k (some (!x)) i r st) (x=false->qu T K k (some true) i r st) (x=true->qu T K k (some false) i r st):=⟨akW⟩
instance {T K k st a b} {x:Bool}:BK (pB T K k (.J (.bool x)) a b st) (x=true->pB T K k (.J (.bool true)) a b st) (x=false->pB T K k (.J (.bool false)) a b st):=⟨ak1⟩
instance {T K k st a b} {x:Bool}:BK (pB T K k (.J (.bool (!x))) a b st) (x=false->pB T K k (.J (.bool true)) a b st) (x=true->pB T K k (.J (.bool false)) a b st):=⟨ak0⟩
instance {T K k n i r c rec st} {x:Bool}:BK (qv T K k n (some x) i r c rec st) (x=true->qv T K k n (some true) i r c rec st) (x=false->qv T K k n (some false) i r c rec st):=⟨akZ⟩
instance {T K k n i r c rec st} {x:Bool}:BK (qv T K k n (some (!x)) i r c rec st) (x=false->qv T K k n (some true) i r c rec st) (x=true->qv T K k n (some false) i r c rec st):=⟨akY⟩
attribute [go_sem] reduceIte Nat.reduceEqDiff Nat.reduceAdd Nat.reduceSub Nat.reduceMul Nat.reduceLeDiff reduceCtorEq Nat.reduceLT Nat.reduceBEq Int.reduceEq
attribute [go_sem] cE
def Il {ι:Type}(T:bj)(gG:List Nat)(mW:List Key)(vs:List I)(ms:List (Option (Nat×List I)))(cS:ι->(Nat->I)->Mem->Prop)(m:ι->Nat)(i:ι)(K:fD->a8->Prop)(k:List iY):fD->a8->Prop
 |.normal,st=>∃a3,m a3<m i/\gG.map st.tm=vs/\mW.map st.mem=ms/\cS a3 st.tm st.mem
 |.exit id,st=>cO T K k (.exit id) st
 |.ret,st=>cO T K k .ret st
section
variable {ι:Type} (T:bj) (gG:List Nat) (mW:List Key) (vs:List I) (ms:List (Option (Nat×List I))) (cS:ι->(Nat->I)->Mem->Prop) (m:ι->Nat) (i:ι) (K:fD->a8->Prop) (k:List iY)
@[go_sem] def ay0 (id:Nat)(st:a8):Il T gG mW vs ms cS m i K k (.exit id) st=cO T K k (.exit id) st:=bu
@[go_sem] def ay1 (st:a8):Il T gG mW vs ms cS m i K k .ret st=cO T K k .ret st:=bu
@[go_sem] def ay2 (st:a8):Il T gG mW vs ms cS m i K k .normal st=∃a3,m a3<m i/\gG.map st.tm=vs/\mW.map st.mem=ms/\cS a3 st.tm st.mem:=bu
end
def cX {ι:Type}{T:bj}{K:fD->a8->Prop}{k:List iY}{EC:Nat->I}{hn:Mem}{c:e1}(gG:List Nat)(mW:List Key)(cS:ι->(Nat->I)->Mem->Prop)(m:ι->Nat)(i0:ι)(au:cS i0 EC hn)
  (h:∀vs ms,gG.map EC=vs->mW.map hn=ms->∀i tm mem,gG.map tm=vs->mW.map mem=ms->cS i tm mem->wp T c (cO T (Il T gG mW vs ms cS m i K k) []) ⟨tm,mem⟩) :
  wp T (.loop c) (cO T K k) ⟨EC,hn⟩:=by
 refine akU (λi st=>gG.map st.tm=gG.map EC/\mW.map st.mem=mW.map hn/\cS i st.tm st.mem) m i0 ⟨rfl,rfl,au⟩ ?_;rintro i ⟨tm,mem⟩ ⟨F,G,ad⟩;have:=h _ _ rfl rfl i tm mem F G ad
 have R:cO T (Il T gG mW (gG.map EC) (mW.map hn) cS m i K k) []=cO T (Ey T (λi (st:a8)=>gG.map st.tm=gG.map EC/\mW.map st.mem=mW.map hn/\cS i st.tm st.mem) m i K k) []:=by
  funext e cf
  cases e<;>rfl
 rw[R] at this;exact this
def wp_mono {T:bj}:∀(c:e1) (K ja:fD->a8->Prop),(∀e st,K e st->ja e st)->∀st,wp T c K st->wp T c ja st:=by
 intro c
 induction c with
 |skip=>exact λK ja h st=>h _ _
 |ops l =>
  intro K ja h st hw
  have:∀(l:List bz) (K ja:a8->Prop),(∀st,K st->ja st)->∀st,wc T K l st->wc T ja l st:=by
   intro l
   induction l with
   |nil=>exact λK ja h st=>h st
   |cons i r a4 =>
    intro K ja h st hw;unfold wc at hw ⊢
    split
    ·rename_i aN;rw[aN] at hw;exact hw
    ·rename_i g aN;rw[aN] at hw;simp only at hw ⊢
     split
     ·rename_i kE;rw[aL kE] at hw
      have r9:∀(K ja:a8->Prop),(∀st,K st->ja st)->gh T K i st->gh T ja i st:=by
       intro K ja h hw
       have Y:∀d f args,tq T K st d f args->tq T ja st d f args:=by
        intro d f args hw;unfold tq at hw ⊢
        split
        ·rename_i bm;rw[bm] at hw;exact h _ hw
        ·rename_i bm;rw[bm] at hw;exact h _ hw
        ·rename_i bm;rw[bm] at hw;exact λr mem' M=>h _ (hw r mem' M)
        ·rename_i bm;rw[bm] at hw;exact h _ hw
        ·rename_i bm;rw[bm] at hw;exact h _ hw
        ·rename_i bm;rw[bm] at hw;exact hw
       unfold gh at hw ⊢
       split
       ·rename_i bm;rw[bm] at hw;exact Y _ _ _ hw
       ·rename_i bm;rw[bm] at hw
        simp only at hw
        split
        ·rename_i n4;rw[n4] at hw
         simp only at hw
         split
         ·rename_i Q;rw[aL Q] at hw;exact h _ hw
         ·rename_i Q;rw[aT Q] at hw;exact hw
        ·rename_i n4
         split at hw
         ·rename_i eh es Sa;exact (n4 eh es Sa).elim
         ·exact hw
       ·rename_i bm;rw[bm] at hw
        simp only at hw
        split
        ·rename_i n4;rw[n4] at hw;exact Y _ _ _ hw
        ·rename_i n4;rw[n4] at hw;exact Y _ _ _ hw
        ·rename_i n4 Sa
         split at hw
         ·rename_i Sb;exact (n4 _ _ Sb).elim
         ·rename_i Sb;exact (Sa _ _ Sb).elim
         ·exact hw
       ·rename_i bm;rw[bm] at hw
        simp only at hw
        split
        ·rename_i n4;rw[n4] at hw;exact λb U=>h _ (hw b U)
        ·rename_i n4;rw[n4] at hw;exact hw
       ·rename_i F G ad aZ
        split at hw
        ·rename_i bm;exact (F _ _ bm).elim
        ·rename_i bm;exact (G _ _ _ _ bm).elim
        ·rename_i bm;exact (ad _ _ bm).elim
        ·rename_i bm;exact (aZ _ _ bm).elim
        ·split
         ·rename_i bm;rw[bm] at hw;exact h _ hw
         ·rename_i bm;rw[bm] at hw;exact hw
      exact r9 _ _ (a4 _ _ h) hw
     ·rename_i kE;rw[aT kE] at hw;exact a4 _ _ h _ hw
  exact this l _ _ (λst=>h .normal st) st hw
 |mN l c =>
  intro K ja h st hw
  have:∀(l:List bz) (n:Nat) (cs:List (List Nat)) (rec:Rec) (K ja:a8->Prop),(∀st,K st->ja st)->∀st,tr T K n l cs rec st->tr T ja n l cs rec st:=by
   intro l
   induction l with
   |nil=>exact λn cs rec K ja h st=>h st
   |cons i r a4 =>
    intro n cs rec K ja h st hw;unfold tr at hw ⊢
    split
    ·rename_i aN;rw[aN] at hw;exact hw
    ·rename_i g aN;rw[aN] at hw;simp only at hw ⊢
     split
     ·rename_i kE;rw[aL kE] at hw
      split
      ·rename_i m e Q;rw[Q] at hw;exact⟨hw.1,a4 _ _ _ _ _ h _ hw.2⟩
      ·rename_i Q;rw[Q] at hw;exact hw
     ·rename_i kE;rw[aT kE] at hw;exact a4 _ _ _ _ _ h _ hw
  exact this l 0 c _ _ _ (λst=>h .normal st) st hw
 |seq a b iha ihb =>
  intro K ja h st hw;refine iha _ _ (λe cf bm=>?_) st hw
  cases e with
  |normal=>exact ihb _ _ h _ bm
  |exit id=>exact h _ _ bm
  |ret=>exact h _ _ bm
 |cond c a b iha ihb =>
  intro K ja h st hw;unfold wp at hw ⊢
  split
  ·rename_i t Y;rw[Y] at hw;simp only at hw
   split
   ·rename_i bN;rw[aL bN] at hw;exact iha _ _ h _ hw
   ·rename_i bN;rw[aT bN] at hw;exact ihb _ _ h _ hw
  ·rename_i L
   split at hw
   ·rename_i Y;exact (L _ Y).elim
   ·exact hw
 |block id c a4 =>
  intro K ja h st hw;refine a4 _ _ (λe cf bm=>?_) st hw
  cases e with
  |normal=>exact h _ _ bm
  |exit j =>
   simp only at bm ⊢
   split
   ·rename_i aa;rw[aL aa] at bm;exact h _ _ bm
   ·rename_i aa;rw[aT aa] at bm;exact h _ _ bm
  |ret=>exact h _ _ bm
 |loop c a4 =>
  intro K ja h st hw;obtain⟨Bn,μ,au,BJ⟩:=hw;refine⟨Bn,μ,au,λst dg=>a4 _ _ (λe cf bm=>?_) _ (BJ st dg)⟩
  cases e with
  |normal=>exact bm
  |exit id=>exact h _ _ bm
  |ret=>exact h _ _ bm
 |exit id=>exact λK ja h st=>h _ _
 |ret=>exact λK ja h st=>h _ _
 |ghost g c a4 =>
  intro K ja h st hw
  have:∀(K ja:a8->Prop),(∀st,K st->ja st)->lh K st g->lh ja st g:=by
   intro K ja h hw;unfold lh at hw
   repeat' split at hw
   all_goals first
    |exact hw.elim
    |exact⟨hw.choose,hw.choose_spec.1,h _ hw.choose_spec.2⟩
    |(
      rcases hw with hw|⟨fO,fy,gw,i,k,g,sz,off,len,cs,k',F,G,ad,aZ,bw,bA,hw⟩|⟨fO,fy,gw,i,k,g,sz,off,len,cs,d,F,G,ad,aZ,bw,bA,hw⟩
      ·exact .inl (h _ hw)
      ·exact .inr (.inl ⟨fO,fy,gw,i,k,g,sz,off,len,cs,k',F,G,ad,aZ,bw,bA,h _ hw⟩)
      ·exact .inr (.inr ⟨fO,fy,gw,i,k,g,sz,off,len,cs,d,F,G,ad,aZ,bw,bA,h _ hw⟩))
    |(
      have cI:=h _ hw;clear hw h;unfold lh
      simp_all)
  exact this _ _ (a4 _ _ h) hw
def ED (T:bj)(K:fD->a8->Prop)(k:List iY)(a5:a8->Prop):fD->a8->Prop
 |.normal,st=>a5 st
 |.exit id,st=>cO T K k (.exit id) st
 |.ret,st=>cO T K k .ret st
@[go_sem] def ay3 {T:bj}{K:fD->a8->Prop}{k:List iY}{a5:a8->Prop}(st:a8):ED T K k a5 .normal st=a5 st:=bu
@[go_sem] def ay4 {T:bj}{K:fD->a8->Prop}{k:List iY}{a5:a8->Prop}(id:Nat)(st:a8):ED T K k a5 (.exit id) st=cO T K k (.exit id) st:=bu
@[go_sem] def ay5 {T:bj}{K:fD->a8->Prop}{k:List iY}{a5:a8->Prop}(st:a8):ED T K k a5 .ret st=cO T K k .ret st:=bu
def Zw {T:bj}{K:fD->a8->Prop}{k:List iY}{c a:e1}{st:a8}(a5:a8->Prop)(bc:wp T a (cO T (ED T K k a5) []) st)(Y:∀cf,a5 cf->wp T c (cO T K k) cf):wp T a (cO T K (.code c::k)) st:=by
 refine wp_mono a _ _ (λe cf bm=>?_) st bc
 cases e with
 |normal=>exact Y cf bm
 |exit id=>exact bm
 |ret=>exact bm
def ak2 {T:bj}{K:fD->a8->Prop}{k:List iY}{x:Bool}{c a b:e1}{st:a8}(a5:a8->Prop)(bc:x=true->wp T a (cO T (ED T K k a5) []) st)(U:x=false->wp T b (cO T (ED T K k a5) []) st)
  (Y:∀cf,a5 cf->wp T c (cO T K k) cf):pB T K (.code c::k) (.J (.bool x)) a b st:=by
 cases x
 ·rw[ajZ];exact Zw a5 (U rfl) Y
 ·rw[ajY];exact Zw a5 (bc rfl) Y
attribute [go_sem] beq_true beq_false Bool.true_beq Bool.false_beq mg List.flatten_nil mX List.headD_cons List.headD_nil List.tail_cons List.tail_nil List.contains_nil List.contains_cons Bool.not_eq_true'
section
variable {T:bj} {K:fD->a8->Prop} {k:List iY} {st:a8}
@[go_sem] def ay6 (g:Mc)(c:e1):wp T (.ghost g c) (cO T K k) st=lh (wp T c (cO T K k)) st g:=bu
def Sc (K:a8->Prop)(st:a8)(s k sz:Nat):I->Prop
 |.nil=>K ⟨ea st.tm s (.ref k (bB st.mem k) sz 0 0),aV st.mem k (bB st.mem k) []⟩
 |_=>False
@[go_sem] def ay7 (K:a8->Prop)(s k sz:Nat):lh K st (.mM s k sz)=Sc K st s k sz (st.tm s):=by
 unfold lh Sc;rfl
@[go_sem] def ay8 (K:a8->Prop)(s k sz:Nat):Sc K st s k sz .nil=K ⟨ea st.tm s (.ref k (bB st.mem k) sz 0 0),aV st.mem k (bB st.mem k) []⟩:=bu
end
section
variable {K:a8->Prop} {st:a8}
def ak3 (h:K st):lh K st .move:=.inl h
def ak4 (fO i k k':Nat){fy:Nat}{gw:List I}{g sz off len:Nat}{cs:List I}(F:st.mem fO=some (fy,gw))(G:gw[i]?=some (.ref k g sz off len))(ad:st.mem k=some (g,cs))(aZ:k≠fO)(bw:k'≠k)(bA:k'≠fO)
  (h:K ⟨st.tm,aV (aV (aV st.mem k (bB st.mem k) []) k' (bB st.mem k') cs) fO fy (gw.set i (.ref k' (bB st.mem k') sz off len))⟩):lh K st .move :=
 .inr (.inl ⟨fO,fy,gw,i,k,g,sz,off,len,cs,k',F,G,ad,aZ,bw,bA,h⟩)
def ak5 (fO i k:Nat){fy:Nat}{gw:List I}{g sz off len:Nat}{cs:List I}{d:Data}(F:st.mem fO=some (fy,gw))(G:gw[i]?=some (.ref k g sz off len))(ad:st.mem k=some (g,cs))(aZ:q4 cs=true)(bw:k≠fO)(bA:cN 1 st.mem (.ref k g sz off len)=some d)
  (h:K ⟨st.tm,aV (kill st.mem k) fO fy (gw.set i (.J d))⟩):lh K st .move :=
 .inr (.inr ⟨fO,fy,gw,i,k,g,sz,off,len,cs,d,F,G,ad,aZ,bw,bA,h⟩)
def Im (K:a8->Prop)(st:a8)(s k g sz off len:Nat):Option (Nat×List I)->Prop
 |some (cx,cs)=>if cx=g/\q4 cs=true then (match cut cs off (len*sz) with
  |some part=>(match part.mapM (cN 0 st.mem) with
   |some ds=>K ⟨ea st.tm s (.J (.ar (chunk sz len ds))),kill st.mem k⟩
   |none=>False)
  |none=>False) else False
 |none=>False
def Sd (K:a8->Prop)(st:a8)(s:Nat):I->Prop
 |.ref k g sz off len=>Im K st s k g sz off len (st.mem k)
 |_=>False
@[go_sem] def ay9 (s:Nat):lh K st (.freeze s)=Sd K st s (st.tm s):=by
 unfold lh Sd;dsimp only
 cases hm:st.tm s with
 |ref k g sz off len=>?_
 |_=>rfl
 dsimp only;unfold Im
 cases R:st.mem k with
 |none=>rfl
 |some x =>
  obtain⟨cx,cs⟩:=x;simp only
  by_cases Y:cx=g/\q4 cs=true
  ·rw[aL Y,aL Y];unfold cN;rw[R];simp only[Y.1,if_true]
   cases ra:cut cs off (len*sz) with
   |none=>rfl
   |some part =>
    simp only
    cases aR:part.mapM (cN 0 st.mem)<;>rfl
  ·rw[aT Y,aT Y]
@[go_sem] def aza (s k g sz off len:Nat):Sd K st s (.ref k g sz off len)=Im K st s k g sz off len (st.mem k):=bu
@[go_sem] def azb (mem:Mem)(k:Key):kill mem k=aV mem k (bB mem k) []:=bu
end
open Classical in
def bI {α:Type}(u4:α->List Data)(f:α->Option dj):List Data->Option dj:=λds=>if h:∃a,u4 a=ds then f (Ez h) else none
def Na {α:Type}{u4:α->List Data}{f:α->Option dj}(inj:∀a b,u4 a=u4 b->a=b)(a:α):bI u4 f (u4 a)=f a:=by
 have h:∃b,u4 b=u4 a:=⟨a,rfl⟩;unfold bI;rw[dif_pos h,inj _ _ (sk h)]
def Nb {α:Type}{u4:α->List Data}{f:α->Option dj}{ds:List Data}{r:dj}(h:bI u4 f ds=some r):∃a,ds=u4 a/\f a=some r:=by
 unfold bI at h
 split at h
 ·rename_i L;exact⟨_,(sk L).symm,h⟩
 ·cases h
open Classical in
def ca (c:Prop)(r:dj):Option dj:=if c then some r else none
def Nc {c:Prop}(h:c)(r:dj):ca c r=some r:=by unfold ca;rw[aL h]
def Se {c:Prop}{r xL:dj}(h:ca c r=some xL):c/\xL=r:=by
 unfold ca at h
 split at h
 ·cases h;exact⟨‹_›,rfl⟩
 ·cases h
@[go_sem] def azc (cp:List Data->Option dj)(args:List I)(mem:Mem):aG cp args mem=Ex cp (args.mapM (cN 6 emp)) (args.mapM (cN 6 mem)):=bu
def map_inj {α β:Type}{f:α->β}(h:∀a b,f a=f b->a=b):∀(l mR:List α),l.map f=mR.map f->l=mR:=by
 intro l
 induction l with
 |nil=>intro mR e;cases mR<;>simp_all
 |cons a r a4 =>
  intro mR e
  cases mR with
  |nil=>simp at e
  |cons b xL =>
   simp only[g0,bl] at e;rw[h _ _ e.1,a4 _ e.2]
def EE (l:List (FuncId×(List Data->Option dj))):FuncId->Option (List Data->Option dj):=λf=>(l.find? λp=>p.1==f).map (·.2)
def u5 {P:Program}{l:List (FuncId×(List Data->Option dj))}(h:∀p∈l,hY P p.1 p.2):∀f cp,EE l f=some cp->hY P f cp:=by
 intro f cp al;unfold EE at al;rw[c4] at al;obtain⟨p,aR,rfl⟩:=al;have F:=List.mem_of_find?_eq_some aR;have G:=List.find?_some aR;have ad:p.1=f:=by simpa using G
 exact ad ▸ h p F
def bS {P:Program}:∀p∈([]:List (FuncId×(List Data->Option dj))),hY P p.1 p.2:=by simp
def aO {P:Program}{f:FuncId}{cp:List Data->Option dj}{l:List (FuncId×(List Data->Option dj))}(h:hY P f cp)(ag:∀p∈l,hY P p.1 p.2):∀p∈(f,cp)::l,hY P p.1 p.2:=by
 intro p aR;rcases kt.1 aR with rfl|aR
 ·exact h
 ·exact ag p aR
def Zx {gn:FuncId->Option (List Data->Option dj)}{f:FuncId}{cp:List Data->Option dj}(h:gn f=some cp):u2 gn f=aG cp:=by
 funext args mem
 unfold u2;rw[h]
@[go_sem] def azd (mem:Mem)(k:Key)(z:List I)(b m:Nat)(new:List I):qd mem k z b .nil (some (m,new)) =
  if m*b<=140737488355328/\m<=maxLen/\new.all I.one=true then some (.ref k (bB mem k) (D z) 0 m,some (k,bB mem k,new)) else none:=bu
@[go_sem] def aze (mem:Mem)(k k':Key)(z:List I)(g sz b len m:Nat)(new:List I):qd mem k z b (.ref k' g sz 0 len) (some (m,new)) =
  if sz=(D z) then lf k' g sz len b m new (mem k') else none:=by
 unfold qd;simp
def aS {α:Type}(enc:α->List Data)(l:List α):List I:=(l.map enc).flatten.map .J
section
variable {α:Type} {enc:α->List Data} {sz:Nat}
def ak6:aS enc []=[]:=rfl
def u6 (a:α)(l:List α):aS enc (a::l)=(enc a).map .J++aS enc l:=by simp[aS]
def Sf (a b:List α):aS enc (a++b)=aS enc a++aS enc b:=by simp[aS]
def jU (h:∀a,(enc a).length=sz)(l:List α):(aS enc l).length=D l*sz:=by
 induction l with
 |nil=>simp[aS]
 |cons a r a4=>rw[u6,ks,a4,aj,h,lQ,pw,Nat.one_mul,Nat.add_comm]
def Zy (h:∀a,(enc a).length=sz){l:List α}{i:Nat}{a:α}(ab:l[i]?=some a):∃p q,aS enc l=p++((enc a).map .J++q)/\D p=i*sz/\∀b,aS enc (l.set i b)=p++((enc b).map .J++q):=by
 have aq:=(dL.1 ab).1;have nj:l[i]=a:=(dL.1 ab).2
 have e:l=l.take i++a::l.drop (i+1):=by
  rw[<-nj,<-gx aq,Io]
 refine⟨aS enc (l.take i),aS enc (l.drop (i+1)),?_,?_,λb=>?_⟩
 ·conv=>lhs;rw[e]
  rw[Sf,u6]
 ·rw[jU h,gk];congr 1;omega
 ·rw[List.set_eq_take_append_cons_drop,aL aq,Sf,u6]
def EF (h:∀a,(enc a).length=sz){l:List α}{i:Nat}{a:α}(ab:l[i]?=some a){f n:Nat}(al:f+n<=sz):cut (aS enc l) (i*sz+f) n=some ((((enc a).map .J).drop f).take n):=by
 obtain⟨p,q,e,aR,-⟩:=Zy h ab;have bc:=h a;unfold cut;rw[e,aL (by simp only[ks,aj];omega),<-aR];rw[EG,lj (by omega)];rw[show (D p)+f-D p=f by omega,EB,EG,List.take_append]
 have:n-(((enc a).map I.J).drop f).length=0:=by simp only[pG,aj];omega
 rw[this,M8,mX]
def Nd (h:∀a,(enc a).length=sz){l:List α}{i:Nat}(ab:i<D l)(b:α):kv (aS enc l) (i*sz) ((enc b).map .J)=aS enc (l.set i b):=by
 obtain⟨p,q,e,aR,Q⟩:=Zy h (bf ab);rw[Q b,e];have bc:=h l[i];have U:=h b;unfold kv;rw[<-aR,Sg,ki]
 congr 2
 rw[EG,lj (by omega),EB,aj,show (D p)+(enc b).length-D p=(enc b).length by omega,U,<-bc,<-aj (f:=I.J),Sh]
def ak7 (a6:∀a,((enc a).map I.J).all I.one=true)(l:List α):(aS enc l).all I.one=true:=by
 induction l with
 |nil=>rfl
 |cons a r a4=>rw[u6,List.all_append,a6,a4];rfl
def z1 (h:∀a,(enc a).length=sz)(a6:∀a,((enc a).map I.J).all I.one=true)(k g b:Nat)(l new:List α)(U:(D l+D new)*b<=140737488355328)(hm:(D l)+D new<=1000000000):
  lf k g sz (D l) b (D new) (aS enc new) (some (g,aS enc l))=some (.ref k (g+1) sz 0 (D l+D new),some (k,g+1,aS enc (l++new))):=by
 unfold lf;have uZ:(D l)+D new<=maxLen:=iG hm (by decide);dsimp only;rw[aL ⟨rfl,by rw[jU h];exact c9 _,U,uZ,ak7 a6 new⟩,Sf,dF (by rw[jU h];exact c9 _)]
def lq (h:∀a,(enc a).length=sz)(a6:∀a,((enc a).map I.J).all I.one=true)(k g b:Nat)(l:List α)(a:α){cs:List I}(Y:cs=(enc a).map .J)(U:(D l+1)*b<=140737488355328)(hm:(D l)+1<=1000000000):
  lf k g sz (D l) b 1 cs (some (g,aS enc l))=some (.ref k (g+1) sz 0 (D l+1),some (k,g+1,aS enc (l++[a]))):=by
 have:=z1 h a6 k g b l [a] U hm;rw[Y];rw[u6,ak6,mX] at this;exact this
def z2 (f:I->Option Data)(al:∀d,f (.J d)=some d)(l:List Data):(l.map I.J).mapM f=some l:=by
 induction l with
 |nil=>rfl
 |cons a r a4=>simp[al,a4]
def z3:∀(l:List (List Data)),(∀e∈l,D e=sz)->chunk sz (D l) l.flatten=l:=by
 intro l
 induction l with
 |nil=>intro _;rfl
 |cons e r a4 =>
  intro h;have he:=h e (by simp);rw[lQ,mg,chunk];rw[<-he,Sg,Sh,he,a4 λx L=>h x (by simp[L])]
def jV (h:∀a,(enc a).length=sz){n k g:Nat}{mem:Mem}{l:List α}(hm:mem k=some (g,aS enc l)):cN (n+1) mem (.ref k g sz 0 (D l))=some (.ar (l.map enc)):=by
 unfold cN;rw[hm];simp only[if_true];unfold cut;rw[r1,jU h,aL (c9 _)];simp only[pD];rw[dF (by rw[jU h];exact c9 _)];unfold aS;rw[z2 _ λd=>by cases n<;>rfl]
 have:=z3 (sz:=sz) (l.map enc) (by simpa using λa _=>h a);rw[aj] at this;simp[this]
end
def Si {α:Type}(enc:α->List Data)(l:List α):q4 (aS enc l)=true:=by
 unfold q4 aS;rw[kA];intro m hm;rw[h7] at hm;obtain⟨d,_,rfl⟩:=hm
 rfl
def sl {α:Type}{enc:α->List Data}{sz:Nat}(h:∀a,(enc a).length=sz){K:a8->Prop}{st:a8}(s k g:Nat)(l:List α):
  Im K st s k g sz 0 (D l) (some (g,aS enc l))=K ⟨ea st.tm s (.J (.ar (l.map enc))),kill st.mem k⟩:=by
 have M:=jV (n:=0) h (mem:=aV st.mem k g (aS enc l)) (k:=k) (g:=g) (l:=l) (by simp[aV]);unfold Im;dsimp only;rw[aL ⟨rfl,Si enc l⟩];unfold cut;rw[r1,jU h,aL (c9 _)];dsimp only;rw[pD,dF (by rw[jU h];exact c9 _)];unfold aS;rw[z2 _ λd=>rfl];dsimp only;have:=z3 (sz:=sz) (l.map enc) (by simpa using λa _=>h a);rw[aj] at this;rw[this]
def wrap64 (x:Int)(F:-9223372036854775808<=x)(G:x<=9223372036854775807):IntKind.i64.wrap x=x:=by
 rw[IntKind.wrap_i64];omega
def Zz {α:Type}(l:List α)(i:Int)(au:0<=i)(h:i<D l):∃x,l[i.toNat]?=some x/\l.drop i.toNat=x::l.drop (i+1).toNat/\l.take (i+1).toNat=l.take i.toNat++[x]:=by
 have aq:i.toNat<D l:=by omega
 have e:(i+1).toNat=i.toNat+1:=by omega
 refine⟨l[i.toNat],bf aq,?_,?_⟩
 ·rw[e];exact gx aq
 ·rw[e];rw[ho,bf aq];rfl
def bX:List Data->List I
 | []=>[]
 |d::l => .J d::bX l
def ak8 (l:List Data):bX l=l.map .J:=by
 induction l with
 |nil=>rfl
 |cons a l a4=>rw[bX,a4];rfl
def WF (T:bj)(mf:bG)(cp:List Data->Option dj):Prop:=∀ds r,cp ds=some r->Nat.ble (D ds) mf.n=true/\wp T mf.body (tC mf.res r) ⟨ke (bX ds),emp⟩
abbrev Nf:Option dj->(dj->Prop)->Prop
 |some r,a5=>a5 r
 |none,_=>True
def cq {c:Prop}{r:dj}{a5:dj->Prop}(h:c->a5 r):Nf (ca c r) a5:=by
 by_cases Y:c
 ·rw[Nc Y];exact h Y
 ·have:ca c r=none:=aT Y;rw[this];trivial
def b7 {T:bj}{mf:bG}{α:Type}{A:α->List Data}{f:α->Option dj}(h:∀a,Nf (f a) λr=>Nat.ble (A a).length mf.n=true/\wp T mf.body (tC mf.res r) ⟨ke (bX (A a)),emp⟩):WF T mf (bI A f):=λds r M=>by
 obtain⟨a,rfl,G⟩:=Nb M;have ad:=h a;rw[G] at ad;exact ad
class Ng (a:List Data) (b:outParam (List Data)):Prop where
 e:a=b
instance {d:Data} {r:List Data}:Ng (d::r) (d::r):=⟨rfl⟩
instance:Ng [] []:=⟨rfl⟩
def cl {α:Type}{A:α->List Data}{f:α->Option dj}(cp:List Data->Option dj)(e:cp=bI A f)(inj:∀a b,A a=A b->a=b)(a:α){l:List Data}[ag:Ng (A a) l]{c:Prop}{r:dj}(az:f a=ca c r)(Y:c):cp l=some r:=by rw[<-ag.e,e,Na inj,az,Nc Y]
def sm {α:Type}{A:α->List Data}{f:α->Option dj}(cp:List Data->Option dj)(e:cp=bI A f)(inj:∀a b,A a=A b->a=b)(a:α){l:List Data}[ag:Ng (A a) l]{r:dj}(az:f a=some r):cp l=some r:=by rw[<-ag.e,e,Na inj,az]
abbrev WP (T:bj)(mf:bG)(r:dj)(l:List I):Prop:=wp T mf.body (tC mf.res r) ⟨ke l,emp⟩
def b6 {T:bj}{c:e1}{K:fD->a8->Prop}{st:a8}(h:wp T c (cO T K []) st):wp T c K st:=xY h
def fK (x:Int)(F:-9223372036854775808<=x:=by omega)(G:x<=9223372036854775807:=by omega):IntKind.i64.wrap x=x:=wrap64 x F G
def e2 {i:Nat}(h:i<1000000000000):IntKind.i64.wrap ((i:Int)+1)=((i+1:Nat):Int):=by rw[wrap64 _ (by omega) (by omega)];omega
end Go.Mini
namespace Go.Mini
open Go Go.ChangeShapes Go.WideShapes
inductive pH where
 |int (k:IntKind)
 |bool
 |str
 |ar (e:pH)
 |st (l:List pH)
mutual
def Fit:pH->List Data->Prop
 |.int k,ds=>∃n,ds=[.int k n]/\(Lit.int k n).wf=true
 |.bool,ds=>∃b,ds=[.bool b]
 |.str,ds=>∃s,ds=[.str s]/\D s<=maxLen
 |.ar e,ds=>∃es,ds=[.ar es]/\D es<=maxLen/\∀x∈es,Fit e x
 |.st l,ds=>Fits l ds
def Fits:List pH->List Data->Prop
 | [],ds=>ds=[]
 |s::r,ds=>∃a b,ds=a++b/\Fit s a/\Fits r b
end
def Ip (P:Program):Nat->List Field->Nat->Bool
 |off,[],tot=>off==tot
 |off,f::r,tot=>f.offset==off&&Ip P (off+P.cellsOf f.type) r tot
def Iq (g:TypeId->Option pH):List Field->Option (List pH)
 | []=>some []
 |f::r=>match g f.type,Iq g r with
  |some s,some l=>some (s::l)
  |_,_=>none
def rj (P:Program):Nat->TypeId->Option pH
 |0,_=>none
 |n+1,t=>match P.underlying t with
  |some .bool=>some .bool
  |some (.int k)=>some (.int k)
  |some .string=>some .str
  |some (.slice e)=>if 0<P.cellsOf e then (rj P n e).map .ar else none
  |some (.struct dB)=>if Ip P 0 dB.toList (P.cellsOf t)=true then (Iq (rj P n) dB.toList).map .st else none
  |_=>none
section
variable {H:Type} {enc:TypeId×Value->H} {P:Program} {w:World} {base:Nat}
def Ir (enc:TypeId×Value->H)(P:Program)(w:World)(base:Nat)(S:pH)(fuel:Nat)(t:TypeId)(cs:List Value)(x:DataW H×List MemPlace):Prop :=
 (∃ds,Fit S ds/\x9 w (λ_=>False) ds cs)/\(∀p∈x.2,p.block<w.heap.size) /\
 ∀(an:World) (sp:Nat->Bool),(∀p∈x.2,sp p.block=true)->(∀b,b<w.heap.size->an.heap[b]?=w.heap[b]?)->DataW.trod enc P an base sp true fuel t cs=some x
def Is {aw:Nat->Prop}{d:Data}{v:Value}(h:Den w aw d v):x9 w aw [d] [v]:=by
 refine⟨rfl,λi qt pA F G=>?_⟩
 cases i with
 |zero=>cases F;cases G;exact h
 |succ i=>simp at F
def ZA (a:Addr)(i:Nat):(a.add i).block=a.block:=by
 unfold Addr.add
 split<;>rfl
def add_plain (b off i:Nat):(Addr.add ⟨b,off,none⟩ i)=⟨b,off+i,none⟩:=by
 unfold Addr.add
 split
 ·rename_i h;subst h;rfl
 ·rfl
def ZB {an:World}{a:Addr}{n:Nat}{cs:List Value}(h:w.cells? base a n=some cs)(R:∀b,b<w.heap.size->an.heap[b]?=w.heap[b]?):an.cells? base a n=some cs:=by
 unfold World.cells? at h ⊢
 split at h
 ·rename_i U;rw[aL U,<-h]
  by_cases aq:a.block<w.heap.size
  ·have he:(λi=>an.cell? (a.add i))=λi=>w.cell? (a.add i):=by
    funext i
    exact World.cell?_of_block (a:=a.add i) (R _ (by rw[ZA];exact aq))
   rw[he]
  ·cases n with
   |zero=>rfl
   |succ n =>
    exfalso
    have:w.cell? (a.add 0)=none:=by
     unfold World.cell?;have:w.heap[(a.add 0).block]?=none:=Array.getElem?_eq_none (by rw[ZA];omega);rw[this]
    rw[List.range_succ_eq_map,nf,this] at h
    cases h
 ·cases h
def Sj {a:Addr}{n:Nat}{cs:List Value}(h:w.cells? base a n=some cs):(D cs)=n/\∀i,i<n->∃v,cs[i]?=some v/\w.cell? (a.add i)=some v:=by
 unfold World.cells? at h
 split at h
 ·obtain⟨F,G⟩:=mapM_get h;rw[tF] at F;refine⟨F,λi ab=>?_⟩;have Y:=bf (l:=cs) (i:=i) (by omega);exact⟨_,Y,G i i _ (by simp[ab]) Y⟩
 ·cases h
def ak9 {a:Addr}{v:Value}(h:w.cell? a=some v):a.block<w.heap.size/\a.spot=none:=by
 unfold World.cell? at h
 split at h
 ·rename_i U;refine⟨(Array.getElem?_eq_some_iff.1 U).1,?_⟩
  cases Q:a.spot with
  |none=>rfl
  |some x=>rw[Q] at h;simp at h
 ·cases h
def mapM_congr {α β:Type}{f g:α->Option β}:∀{l:List α},(∀x∈l,f x=g x)->l.mapM f=l.mapM g:=by
 intro l
 induction l with
 |nil=>intro _;rfl
 |cons a r a4 =>
  intro h;rw[nf,nf,h a (by simp),a4 λx L=>h x (by simp[L])]
def ala {β:Type}(len:Nat)(a5:Nat->β->Prop)(h:∀i,i<len->∃y,a5 i y):∃l:List β,D l=len/\∀i y,l[i]?=some y->a5 i y:=by
 induction len with
 |zero=>exact⟨[],rfl,λi y h=>by simp at h⟩
 |succ n a4 =>
  obtain⟨l,F,G⟩:=a4 λi ab=>h i (by omega);obtain⟨y,ak⟩:=h n (by omega);refine⟨l++[y],by simp[F],λi z a2=>?_⟩
  rw[Ed] at a2
  split at a2
  ·exact G i z a2
  ·rename_i aq
   have:i-D l=0:=by
    have:=(dL.1 a2).1;simp at this;omega
   rw[this] at a2
   cases a2;have:i=n:=by omega
   subst this;exact ak
def alb {β:Type}{sz:Nat}:∀(es:List (List β)),(∀e∈es,D e=sz)->0<sz->∀(i:Nat) (d:β),es.flatten[i]?=some d->∃e,es[i/sz]?=some e/\e[i%sz]?=some d:=by
 intro es
 induction es with
 |nil=>intro _ _ i d h;simp at h
 |cons e r a4 =>
  intro h a2 i d af;have he:=h e (by simp);rw[mg,Ed] at af
  split at af
  ·rename_i aq;rw[he] at aq;refine⟨e,by rw[Sk aq];rfl,by rw[It aq];exact af⟩
  ·rename_i bD;rw[he] at af bD;obtain⟨x,F,G⟩:=a4 (λy ak=>h y (by simp[ak])) a2 _ d af;have ab:i=(i-sz)+sz:=by omega
   refine⟨x,?_,?_⟩
   ·rw[ab,Nat.add_div_right _ a2]
    simpa using F
   ·rw[ab,Nat.add_mod_right];exact G
def alc {n fuel:Nat}(a4:∀t S,rj P n t=some S->∀(cs:List Value) (x:DataW H×List MemPlace),DataW.trod enc P w base (λ_=>true) true fuel t cs=some x->Ir enc P w base S fuel t cs x)(cs:List Value):
  ∀(dB:List Field) (off:Nat) (l:List pH) (xs:List (DataW H×List MemPlace)),Iq (rj P n) dB=some l->Ip P off dB (D cs)=true ->
   dB.mapM (λf=>DataW.trod enc P w base (λ_=>true) true fuel f.type ((cs.drop f.offset).take (P.cellsOf f.type)))=some xs ->
   (∃ds,Fits l ds/\x9 w (λ_=>False) ds (cs.drop off))/\(∀p∈xs.flatMap (·.2),p.block<w.heap.size) /\
   ∀(an:World) (sp:Nat->Bool),(∀p∈xs.flatMap (·.2),sp p.block=true)->(∀b,b<w.heap.size->an.heap[b]?=w.heap[b]?) ->
    dB.mapM (λf=>DataW.trod enc P an base sp true fuel f.type ((cs.drop f.offset).take (P.cellsOf f.type)))=some xs:=by
 intro dB
 induction dB with
 |nil =>
  intro off l xs ag bN L;simp only[Iq,bO] at ag;subst ag;simp only[Ip,beq_iff_eq] at bN;simp only[Zv,ga,bO] at L;subst L;refine⟨⟨[],rfl,?_⟩,by simp,λ_ _ _ _=>rfl⟩
  rw[bN,Sl];exact⟨rfl,λi d v h=>by simp at h⟩
 |cons f r ihf =>
  intro off l xs ag bN L;unfold Iq at ag
  split at ag
  ·rename_i s mR Q nD
   cases ag;simp only[Ip,ff,beq_iff_eq] at bN;obtain⟨Rv,bN⟩:=bN;rw[nf] at L;simp only[ga,gj,dI,bO] at L;obtain⟨x,ez,ys,BL,rfl⟩:=L;obtain⟨⟨Sm,Iu,BM⟩,ald,ale⟩:=a4 _ _ Q _ _ ez;obtain⟨⟨ZC,kW,eF⟩,alf,alg⟩:=ihf _ _ _ nD bN BL;refine⟨⟨Sm++ZC,⟨Sm,ZC,rfl,Iu,kW⟩,?_⟩,?_,?_⟩
   ·have MH:cs.drop off=(cs.drop off).take (P.cellsOf f.type)++cs.drop (off+P.cellsOf f.type):=by
     rw[<-x3,Io]
    rw[Rv] at BM;rw[MH];refine⟨by rw[ks,ks,BM.1,eF.1],λi d v F G=>?_⟩
    rw[Ed] at F G;have hlen:=BM.1
    by_cases aq:i<D Sm
    ·rw[aL aq] at F;rw[aL (by omega)] at G;exact BM.2 i d v F G
    ·rw[aT aq] at F;rw[aT (by omega),hlen] at G;exact eF.2 _ d v F G
   ·intro p aR;rw[Sn,h5] at aR;exact aR.elim (ald p) (alf p)
   ·intro an sp oP R;rw[nf,ale an sp (λp aR=>oP p (by rw[Sn,h5];exact .inl aR)) R];have:=alg an sp (λp aR=>oP p (by rw[Sn,h5];exact .inr aR)) R;simp only[ga,gj,z0];rw[this]
    rfl
  ·cases ag
def alh:∀(n:Nat) (t:TypeId) (S:pH),rj P n t=some S->∀(fuel:Nat) (cs:List Value) (x:DataW H×List MemPlace),DataW.trod enc P w base (λ_=>true) true fuel t cs=some x->Ir enc P w base S fuel t cs x:=by
 intro n
 induction n with
 |zero=>intro t S h;simp[rj] at h
 |succ n a4 =>
  intro t S cW fuel cs x L
  cases fuel with
  |zero=>cases L
  |succ fuel =>
   unfold rj at cW
   split at cW
   ·-- bool
    rename_i hu
    cases cW
    have key:∀(an:World) (sp:Nat->Bool) (cs:List Value),DataW.trod enc P an base sp true (fuel+1) t cs=match cs with|[.bool b]=>some (.lit (.bool b),[])|_=>none:=by
     intro an sp cs;unfold DataW.trod;rw[hu];clear L
     split<;>simp_all
    rw[key] at L
    split at L
    ·cases L;exact⟨⟨_,⟨_,rfl⟩,Is .bool⟩,by simp,λan sp _ _=>by rw[key]⟩
    ·cases L
   ·-- int
    rename_i k hu
    cases cW
    have key:∀(an:World) (sp:Nat->Bool) (cs:List Value),DataW.trod enc P an base sp true (fuel+1) t cs=match cs with|[.int k' n]=>if k'=k/\(Lit.int k n).wf=true then some (.lit (.int k n),[]) else none|_=>none:=by
     intro an sp cs;unfold DataW.trod;rw[hu];clear L
     split<;>simp_all
    rw[key] at L
    split at L
    ·split at L
     ·rename_i Y
      cases L;obtain⟨rfl,ZD⟩:=Y;exact⟨⟨_,⟨_,rfl,ZD⟩,Is .int⟩,by simp,λan sp _ _=>by rw[key];simp[ZD]⟩
     ·cases L
    ·cases L
   ·-- string
    rename_i hu
    cases cW
    have key:∀(an:World) (sp:Nat->Bool) (cs:List Value),DataW.trod enc P an base sp true (fuel+1) t cs=match cs with|[.string s]=>if s.size<=maxLen then some (.lit (.string s.data.toList),[]) else none|_=>none:=by
     intro an sp cs;unfold DataW.trod;rw[hu];clear L
     split<;>simp_all
    rw[key] at L
    split at L
    ·rename_i s
     split at L
     ·rename_i Y
      cases L;refine⟨⟨[.str s.data.toList],⟨_,rfl,?_⟩,Is ?_⟩,by simp,λan sp _ _=>by rw[key];simp[Y]⟩
      ·rw[Array.length_toList];exact Y
      ·have:Den w (λ_=>False) (.str s.data.toList) (.string ⟨s.data.toList.toArray⟩):=.str
       simpa using this
     ·cases L
    ·cases L
   ·-- slice
    rename_i e hu
    split at cW
    ·rename_i Y;rw[c4] at cW;obtain⟨S,cW,rfl⟩:=cW
     have key:∀(an:World) (sp:Nat->Bool) (cs:List Value),DataW.trod enc P an base sp true (fuel+1) t cs=match cs with
      | [.slice none 0 0]=>some (.nil,[])
      | [.slice (some a) len cap] =>
       if base<=a.block/\len<=cap/\cap<=maxLen then
        ((
         qj len).mapM λi=>(an.cells? base (a.add (i*P.cellsOf e)) (P.cellsOf e)).bind (DataW.trod enc P an base sp true fuel e)).bind λelems =>
         (if sp a.block then (qj (cap-len)).mapM λj=>(an.cells? base (a.add ((len+j)*P.cellsOf e)) (P.cellsOf e)).bind (DataW.trod enc P an base sp true fuel e) else some []).map λrest =>
          (.slice (elems.map (·.1)) (rest.map (·.1)),MemPlace.row a ((D elems+D rest)*P.cellsOf e)++(elems++rest).flatMap (·.2))
       else none
      |_=>none:=by
      intro an sp cs
      conv=>lhs;unfold DataW.trod
      rw[hu];clear L
      split<;>simp_all
     rw[key] at L
     split at L
     ·cases L;exact⟨⟨[.ar []],⟨_,rfl,dG _,by simp⟩,Is .kP⟩,by simp,λan sp _ _=>by rw[key];rfl⟩
     ·rename_i a len cap
      split at L
      ·rename_i U;rw[dI] at L;obtain⟨elems,he,L⟩:=L;rw[c4] at L;obtain⟨rest,M,rfl⟩:=L;rw[aL rfl] at M;obtain⟨kx,ali⟩:=mapM_get he;obtain⟨b9,alj⟩:=mapM_get M;rw[tF] at kx b9
       -- each place
       have ha:∀i y,(i<len->elems[i]?=some y)->(¬ i<len->i<cap/\rest[i-len]?=some y)->∃ci,w.cells? base (a.add (i*P.cellsOf e)) (P.cellsOf e)=some ci/\DataW.trod enc P w base (λ_=>true) true fuel e ci=some y:=by
        intro i y F G
        by_cases ab:i<len
        ·have:=ali i i y (by simp[ab]) (F ab);rwa [dI] at this
        ·obtain⟨ad,aZ⟩:=G ab;have:=alj (i-len) (i-len) y (List.getElem?_range (by omega)) aZ;rw[show len+(i-len)=i by omega,dI] at this
         exact this
       have jP:0<D elems+(D rest)->a.block<w.heap.size/\a.spot=none:=by
        intro aR;have au:0<cap:=by omega
        have:∃y,(0<len->elems[0]?=some y)/\(¬ 0<len->0<cap/\rest[0-len]?=some y):=by
         by_cases ag:0<len
         ·exact⟨elems[0],λ_=>bf _,λh=>absurd ag h⟩
         ·exact⟨rest[0],λh=>absurd h ag,λ_=>⟨au,by rw[Nat.zero_sub];exact bf _⟩⟩
        obtain⟨y,F,G⟩:=this;obtain⟨ci,dh,-⟩:=ha 0 y F G;obtain⟨v,-,ao⟩:=(Sj dh).2 0 Y;have:=ak9 ao;rw[Nh] at this;have fI:(a.add 0).add 0=a:=by unfold Addr.add;simp
        rw[fI] at this;exact this
       have yd:∀i y,(i<len->elems[i]?=some y)->(¬ i<len->i<cap/\rest[i-len]?=some y)->∃ci,w.cells? base (a.add (i*P.cellsOf e)) (P.cellsOf e)=some ci/\Ir enc P w base S fuel e ci y:=by
        intro i y F G;obtain⟨ci,ad,aZ⟩:=ha i y F G;exact⟨ci,ad,a4 e S cW fuel ci y aZ⟩
       have So:∀(i:Nat) y,elems[i]?=some y->∃ci,w.cells? base (a.add (i*P.cellsOf e)) (P.cellsOf e)=some ci/\Ir enc P w base S fuel e ci y :=
        λi y ak=>yd i y (λ_=>ak) (λh=>absurd (by have:=(dL.1 ak).1;omega) h)
       have ZE:∀(j:Nat) y,rest[j]?=some y->∃ci,w.cells? base (a.add ((len+j)*P.cellsOf e)) (P.cellsOf e)=some ci/\Ir enc P w base S fuel e ci y :=
        λj y ak=>yd (len+j) y (λh=>by omega) (λ_=>⟨by have:=(dL.1 ak).1;omega,by rwa [EH]⟩)
       refine⟨?_,?_,?_⟩
       ·obtain⟨es,sn,heq⟩:=ala len (λi (ds:List Data)=>∃ci,w.cells? base (a.add (i*P.cellsOf e)) (P.cellsOf e)=some ci/\Fit S ds/\x9 w (λ_=>False) ds ci) λi ab=>by
         obtain⟨ci,F,⟨ds,G,ad⟩,-,-⟩:=So i _ (bf (by omega));exact⟨ds,ci,F,G,ad⟩
        refine⟨[.ar es],⟨es,rfl,by omega,λy ak=>?_⟩,Is ?_⟩
        ·obtain⟨i,ab⟩:=ye.1 ak;obtain⟨ci,-,h,-⟩:=heq i y ab;exact h
        ·by_cases ag:len=0
         ·rw[ag] at sn ⊢;rw[q9 sn];exact .kP
         ·obtain⟨kW,eF⟩:=jP (by omega);obtain⟨b,off,spot⟩:=a;simp only at kW eF;subst eF
          have ec:∀y∈es,D y=P.cellsOf e:=by
           intro y ak;obtain⟨i,ab⟩:=ye.1 ak;obtain⟨ci,F,-,G⟩:=heq i y ab;rw[<-G.1,(Sj F).1]
          have h8:∀(i:Nat) (d:Data),es.flatten[i]?=some d->∃v,w.cell? ⟨b,off+i,none⟩=some v/\Den w (λ_=>False) d v:=by
           intro i d af;obtain⟨y,F,G⟩:=alb es ec Y i d af;obtain⟨ci,ad,-,aZ⟩:=heq _ y F;have hm:i%P.cellsOf e<P.cellsOf e:=oQ _ Y;obtain⟨v,bw,bA⟩:=(Sj ad).2 _ hm;rw[add_plain,add_plain,r0,yf,Ni] at bA;exact⟨v,bA,aZ.2 _ d v G bw⟩
          rw[<-sn];refine .ar (sz:=P.cellsOf e) (λi=>(w.cell? ⟨b,off+i,none⟩).getD undef) (by omega) (by omega) kW (λh=>h) ec (λi ab=>?_) λi d af=>?_
          ·have aq:i<D es.flatten:=by rw[L7 ec];exact ab
           obtain⟨v,ao,-⟩:=h8 i _ (bf aq);rw[ao]
           rfl
          ·obtain⟨v,ao,mP⟩:=h8 i d af;rw[ao];exact mP
       ·intro p aR;simp only[h5] at aR;rcases aR with aR|aR
        ·unfold MemPlace.row at aR;rw[h7] at aR;obtain⟨i,ab,rfl⟩:=aR;rw[BN] at ab
         have:0<D elems+D rest:=by
          rcases ln (D elems+D rest) with h|h
          ·rw[h,Nh] at ab;omega
          ·exact h
         exact (jP this).1
        ·rw[Bz] at aR;obtain⟨y,ak,aR⟩:=aR;rw[h5] at ak;rcases ak with ak|ak
         ·obtain⟨i,ab⟩:=ye.1 ak;obtain⟨ci,-,h⟩:=So i y ab;exact h.2.1 p aR
         ·obtain⟨i,ab⟩:=ye.1 ak;obtain⟨ci,-,h⟩:=ZE i y ab;exact h.2.1 p aR
       ·intro an sp oP R;rw[key];simp only;rw[aL U]
        have nG:0<D elems+(D rest)->sp a.block=true:=by
         intro aR
         have:=oP (.cell a.block (a.off+0)) (by
          rw[h5]
          left
          unfold MemPlace.row;rw[h7];exact⟨0,by rw[BN];exact Nat.mul_pos aR Y,rfl⟩)
         exact this
        have alk:(qj len).mapM (λi=>(an.cells? base (a.add (i*P.cellsOf e)) (P.cellsOf e)).bind (DataW.trod enc P an base sp true fuel e))=some elems:=by
         rw[<-he];refine mapM_congr λi ab=>?_;rw[BN] at ab;have ak:=bf (l:=elems) (i:=i) (by omega);obtain⟨ci,F,G⟩:=So i _ ak;rw[ZB F R,F];simp only[z0];obtain⟨alm,ad,aZ⟩:=ha i _ (λ_=>ak) (λh=>absurd ab h);rw[F] at ad
         cases ad;rw[aZ]
         exact G.2.2 an sp (λp aR=>oP p (by
          rw[h5];right
          rw[Bz];exact⟨_,h5.2 (.inl (cL ak)),aR⟩)) R
        have aln:(qj (cap-len)).mapM (λj=>(an.cells? base (a.add ((len+j)*P.cellsOf e)) (P.cellsOf e)).bind (DataW.trod enc P an base sp true fuel e))=some rest:=by
         rw[<-M];refine mapM_congr λj aa=>?_;rw[BN] at aa;have ak:=bf (l:=rest) (i:=j) (by omega);obtain⟨ci,F,G⟩:=ZE j _ ak;rw[ZB F R,F];simp only[z0];obtain⟨alm,ad,aZ⟩:=ha (len+j) rest[j] (λh=>by omega) (λ_=>⟨by omega,by rw[EH];exact ak⟩);rw[F] at ad
         cases ad;rw[aZ]
         exact G.2.2 an sp (λp aR=>oP p (by
          rw[h5];right
          rw[Bz];exact⟨_,h5.2 (.inr (cL ak)),aR⟩)) R
        rw[alk];simp only[z0]
        cases Q:sp a.block with
        |true=>simp only[if_true];rw[aln];rfl
        |false =>
         have a2:¬ 0<D elems+D rest:=λh=>by rw[nG h] at Q;cases Q
         have:rest=[]:=q9 (by omega);subst this
         rfl
      ·cases L
     ·cases L
    ·cases cW
   ·-- struct
    rename_i dB hu
    split at cW
    ·rename_i bN;rw[c4] at cW;obtain⟨l,ag,rfl⟩:=cW
     have key:∀(an:World) (sp:Nat->Bool),DataW.trod enc P an base sp true (fuel+1) t cs =
       if (D cs)=P.cellsOf t then (dB.toList.mapM λf=>DataW.trod enc P an base sp true fuel f.type ((cs.drop f.offset).take (P.cellsOf f.type))).map λxs=>(.agg (xs.map (·.1)),xs.flatMap (·.2)) else none:=by
      intro an sp
      conv=>lhs;unfold DataW.trod
      rw[hu]
     rw[key] at L
     split at L
     ·rename_i hlen;rw[c4] at L;obtain⟨xs,sh,rfl⟩:=L;rw[<-hlen] at bN;obtain⟨F,G,ad⟩:=alc (λt S h cs x L=>a4 t S h fuel cs x L) cs dB.toList 0 l xs ag bN sh;refine⟨?_,G,λan sp oP R=>?_⟩
      ·obtain⟨ds,al,af⟩:=F;exact⟨ds,al,by simpa using af⟩
      ·rw[key,aL hlen,ad an sp oP R]
       rfl
     ·cases L
    ·cases cW
   ·cases cW
end
end Go.Mini
namespace Go.Mini
open Go Go.ChangeShapes Go.WideShapes Go.RowKit
def ZF:pH->Data->Prop
 |.st l,d=>∃cs,d=.agg cs/\Fits l cs
 |s,d=>Fit s [d]
def Nj:List pH->List Data->Prop
 | [],ds=>ds=[]
 |s::r,ds=>∃d t,ds=d::t/\ZF s d/\Nj r t
section
variable {H:Type} {enc:TypeId×Value->H} {P:Program} {w:World}
def alo {aw:Nat->Prop}{d:Data}{v:Value}{ds:List Data}{vs:List Value}(h:Den w aw d v)(Q:x9 w aw ds vs):x9 w aw (d::ds) (v::vs):=by
 refine⟨by simp[Q.1],λi qt pA F G=>?_⟩
 cases i with
 |zero=>cases F;cases G;exact h
 |succ i=>exact Q.2 i qt pA (by simpa using F) (by simpa using G)
def alp {n:Nat}{t:TypeId}{S:pH}{v:Value}{d:DataW H}{cV:List MemPlace}{rk:Nat}(cW:rj P n t=some S)(h8:Value.okWide P w .any rk t v)(h:DataW.Trod enc P w 0 (λ_=>true) true t v d cV):
  (∃b4,ZF S b4/\Den w (λ_=>False) b4 v)/\(∀p∈cV,p.block<w.heap.size) /\
  ∀(an:World) (sp:Nat->Bool),(∀p∈cV,sp p.block=true)->(∀b,b<w.heap.size->an.heap[b]?=w.heap[b]?)->DataW.Trod enc P an 0 sp true t v d cV:=by
 obtain⟨fuel,L⟩:=h;obtain⟨⟨ds,al,af⟩,G,ad⟩:=alh n t S cW fuel _ _ L;refine⟨?_,G,λan sp oP R=>⟨fuel,ad an sp oP R⟩⟩
 have one:(∀cs,v ≠ .agg cs)->∀d,ds=[d]->Den w (λ_=>False) d v:=by
  intro ao d e;subst e;have:v.cells=#[v]:=by unfold Value.cells;split<;>simp_all
  rw[this] at af;exact af.2 0 d v rfl rfl
 cases n with
 |zero=>simp[rj] at cW
 |succ n =>
  unfold rj at cW;unfold Value.okWide at h8
  split at cW
  ·rename_i hu
   cases cW;rw[hu] at h8;obtain⟨b,rfl⟩:=al;refine⟨_,⟨b,rfl⟩,one ?_ _ rfl⟩;rintro cs rfl;simp[Cell.okWide,Cell.ok,hu] at h8
  ·rename_i k hu
   cases cW;rw[hu] at h8;obtain⟨b,rfl,U⟩:=al;refine⟨_,⟨b,rfl,U⟩,one ?_ _ rfl⟩;rintro cs rfl;simp[Cell.okWide,Cell.ok,hu] at h8
  ·rename_i hu
   cases cW;rw[hu] at h8;obtain⟨b,rfl,U⟩:=al;refine⟨_,⟨b,rfl,U⟩,one ?_ _ rfl⟩;rintro cs rfl;simp[Cell.okWide,Cell.ok,hu] at h8
  ·rename_i e hu
   split at cW
   ·rw[c4] at cW;obtain⟨S,cW,rfl⟩:=cW;rw[hu] at h8;obtain⟨b,rfl,U⟩:=al;refine⟨_,⟨b,rfl,U⟩,one ?_ _ rfl⟩;rintro cs rfl;simp[Cell.okWide,Cell.ok,hu] at h8
   ·cases cW
  ·rename_i dB hu
   split at cW
   ·rw[c4] at cW;obtain⟨l,ag,rfl⟩:=cW;rw[hu] at h8;obtain⟨cs,rfl,-,-⟩:=h8;refine⟨.agg ds,⟨ds,rfl,al⟩,?_⟩;have:Den w (λ_=>False) (.agg ds) (.agg cs.toList.toArray):=.agg af.1 af.2
    simpa using this
   ·cases cW
  ·cases cW
def Sp {n rk:Nat}:∀{r5:List TypeId} {schs:List pH} {vs:List Value} {ds:List (DataW H)} {cV:List MemPlace},r5.mapM (rj P n)=some schs->(∀(j:Nat) t v,r5[j]?=some t->vs[j]?=some v->Value.okWide P w .any rk t v) ->
  DataW.TrodAll enc P w 0 (λ_=>true) true r5 vs ds cV ->
  (∃rl,Nj schs rl/\x9 w (λ_=>False) rl vs)/\(∀p∈cV,p.block<w.heap.size) /\
  ∀(an:World) (sp:Nat->Bool),(∀p∈cV,sp p.block=true)->(∀b,b<w.heap.size->an.heap[b]?=w.heap[b]?)->DataW.TrodAll enc P an 0 sp true r5 vs ds cV
 | [],schs,vs,ds,cV,cW,h8,h=>by
  obtain⟨rfl,rfl,rfl⟩:=trodAll_nil h;simp at cW;subst cW;exact⟨⟨[],rfl,rfl,λi d v h=>by simp at h⟩,by simp,λ_ _ _ _=>rfl⟩
 |t::r5,schs,vs,ds,cV,cW,h8,h=>by
  obtain⟨v,alq,d,alr,a,b,rfl,rfl,rfl,F,G⟩:=trodAll_cons h;rw[nf] at cW;simp only[ga,gj,dI,bO] at cW;obtain⟨S,als,l,ag,rfl⟩:=cW;obtain⟨⟨b4,eA,alu⟩,kX,bo⟩:=alp als (h8 0 t v rfl rfl) F;obtain⟨⟨rl,alv,alw⟩,ni,c5⟩:=Sp ag (λj ld pA bN ao=>h8 (j+1) ld pA (by simpa using bN) (by simpa using ao)) G;refine⟨⟨b4::rl,⟨b4,rl,rfl,eA,alv⟩,alo alu alw⟩,λp aR=>?_,λan sp oP R=>?_⟩
  ·rw[h5] at aR;exact aR.elim (kX p) (ni p)
  ·exact trodAll_cons_mk (bo an sp (λp aR=>oP p (h5.2 (.inl aR))) R) (c5 an sp (λp aR=>oP p (h5.2 (.inr aR))) R)
def alx {W rm:World}(h:Fr (λ_=>False) W rm)(may:MemPlace->Prop):W.keptBut rm may:=by
 refine⟨h.os,h.output,λi ab=>?_⟩;rw[h.block i ab id]
 cases U:W.heap[i]? with
 |none=>trivial
 |some o =>
  cases o with
  |cells c t fZ=>exact⟨rfl,rfl,rfl,λ_ _=>rfl⟩
  |map es clock=>exact .inr ⟨rfl,rfl⟩
  |_=>rfl
def aly {f:Func}{s:ChangeSpec}{apart fresh handsOn again:Bool}{W rm:World}{args:Array Value}{ds gs:List (DataW H)}{before:List MemPlace}{n rk:Nat}{schs:List pH}{Iv:TypeId}
  (BO:DataW.Whole enc P f.params.toList s.vars apart W args.toList ds gs before) (ao:s.vars=[]) (cW:f.params.toList.mapM (rj P n)=some schs)
  (h8:∀(j:Nat) t v,f.params[j]?=some t->args[j]?=some v->Value.okWide P W .any rk t v)
  (M:f.resultTypes=#[Iv]) (U:P.underlying Iv=some .bool) (iM:s.fn H ds={ results:=[.lit (.bool true)],args:=ds }) (al:Fr (λ_=>False) W rm) :
  s.post enc P f apart fresh handsOn again W args (.bool true) rm:=by
 have Sq:=BO;obtain⟨p,q,fa,oR,rfl,a2,aC⟩:=BO;rw[ao] at oR;obtain⟨rfl,rfl⟩:=trodVars_none oR;obtain⟨-,aq,R⟩:=Sp cW (λj t v bN ao=>h8 j t v (by simpa using bN) (by simpa using ao)) fa;have ZG:∀b,b<W.heap.size->rm.heap[b]?=W.heap[b]?:=λb U=>al.block b U id
 have jS:∀(b:Nat) (sp:Nat->Bool) (af:Bool),DataW.TrodAll enc P rm b sp af f.resultTypes.toList ((Value.bool true).resultList f.resultTypes.size) (s.fn H (ds++[])).results []:=by
  intro b sp af;rw[mX,iM,M];exact trodAll_cons_mk (shut_bool U true) trodAll_mk0
 have jq:∀sp:Nat->Bool,(∀x∈p,sp x.block=true)->DataW.TrodAll enc P rm 0 sp true f.params.toList args.toList (s.fn H (ds++[])).args p:=by
  intro sp oP;rw[mX,iM];exact R rm sp oP ZG
 have ZH:∀sp:Nat->Bool,DataW.TrodVars enc P rm sp s.vars (s.fn H (ds++[])).vars []:=by
  intro sp;rw[ao,mX,iM]
  rfl
 refine⟨ds,[],p++[],[],p,[],Sq,jS _ _ _,jq _ (λx L=>by simpa using aq x L),ZH _,alx al _,λ_=>⟨?_,_,_,([]++p)++[],⟨[]++p,[],trodAll_append (jq _ (λ_ _=>rfl)) (jS _ _ _),ZH _,rfl,?_,?_⟩,?_⟩⟩
 ·intro j t r F G;rw[M] at F G
  cases j with
  |zero =>
   simp[Value.resultList] at F G;subst F G;exact okWide_bool_mk U true
  |succ j=>simp at F
 ·intro b off aR;have ZI:MemPlace.cell b off∈p:=by simpa using aR
  have U:=aq _ ZI;have au:=a2 b off (by simpa using ZI);unfold World.frozen? at au ⊢;rw[ZG b U];exact au
 ·intro bc;have:=aC bc
  simpa using this
 ·intro x L _
  simpa using L
def alz {f:FuncId}{fn:Func}{s:ChangeSpec}{apart fresh handsOn again:Bool}{cp:List Data->Option dj}{n:Nat}{schs:List pH}{Iv:TypeId}(aR:hY P f cp)(ao:s.vars=[])(cW:fn.params.toList.mapM (rj P n)=some schs)
  (M:fn.resultTypes=#[Iv]) (U:P.underlying Iv=some .bool) (iM:∀ds:List (DataW H),D ds=(D fn.params.toList)->s.fn H ds={ results:=[.lit (.bool true)],args:=ds })
  {W:World} {base:Nat} {args:Array Value} {ds gs:List (DataW H)} {before:List MemPlace}
  (ek:∀rl,Nj schs rl->cp rl=some (.same (.bool true)))
  (h8:∀(j:Nat) t v,fn.params[j]?=some t->args[j]?=some v->Value.okWide P W .any base t v)
  (BO:DataW.Whole enc P fn.params.toList s.vars apart W args.toList ds gs before) (aN:DX W:=by intro b o h;cases h) :
  Calls P f args W λe rm=>∃v,e=.returned v/\s.post enc P fn apart fresh handsOn again W args v rm:=by
 have Sq:=BO;obtain⟨p,q,fa,oR,rfl,a2,aC⟩:=BO;obtain⟨⟨rl,F,G⟩,-,-⟩:=Sp cW (λj t v bN ao=>h8 j t v (by simpa using bN) (by simpa using ao)) fa
 have hlen:(D ds)=D fn.params.toList:=by
  have:∀(r5:List TypeId) (vs:List Value) (ds:List (DataW H)) (cV:List MemPlace),DataW.TrodAll enc P W 0 (λ_=>true) true r5 vs ds cV->(D ds)=D r5:=by
   intro r5
   induction r5 with
   |nil=>intro vs ds cV h;obtain⟨rfl,rfl,rfl⟩:=trodAll_nil h;rfl
   |cons t r a4=>intro vs ds cV h;obtain⟨v,alq,d,alr,a,b,rfl,rfl,rfl,-,G⟩:=trodAll_cons h;simp[a4 _ _ _ G]
  exact this _ _ _ _ fa
 have Y:=aR.run rl _ (ek rl F) (λ_=>False) W args.toList (λb U=>U.elim) aN G;have bc:args.toList.toArray=args:=by simp
 rw[bc] at Y;refine Y.mono λe rm ⟨v,he,dr,af⟩=>⟨v,he,?_⟩
 have:v=.bool true:=by
  have mP:Den rm (λ_=>False) (.bool true) v:=af
  cases mP
  rfl
 subst this;exact aly Sq ao cW h8 M U (iM ds hlen) dr
def Sr {α:Type}{l:List α}{n:Nat}(h:(D l)=n+1):∃d t,l=d::t/\D t=n:=by
 cases l with
 |nil=>simp at h
 |cons d t=>exact⟨d,t,rfl,by simpa using h⟩
def Nk {α:Type}{e:α->List Data}{good:α->Prop}:∀{es:List (List Data)},(∀x∈es,∃a,x=e a/\good a)->∃l:List α,es=l.map e/\∀a∈l,good a
 | [],_=>⟨[],rfl,by simp⟩
 |x::r,h=>by
  obtain⟨a,rfl,bc⟩:=h x (by simp);obtain⟨l,rfl,ag⟩:=Nk (es:=r) λy ak=>h y (by simp[ak]);exact⟨a::l,rfl,λb U=>(kt.1 U).elim (λe=>e ▸ bc) (ag b)⟩
end
end Go.Mini
namespace Go.Mini
open Go
def yg (x:I)(m:Mem):I->Mem->Prop:=λr mem'=>r=x/\mem'=m
@[go_sem high] def azf {K:a8->Prop}(x:I)(m:Mem)(d:Option Nat)(st:a8):uW K (some (.rel (yg x m))) d st=K ⟨put st.tm d x,m⟩:=by
 rw[aj0];apply propext;exact⟨λh=>h x m ⟨rfl,rfl⟩,λh r mem' ⟨aQ,az⟩=>by rw[aQ,az];exact h⟩
def z4 (bh:List I->Mem->Option (I×Mem))(args:List I)(mem:Mem):Option gH:=(bh args mem).map λx => .rel (yg x.1 x.2)
@[go_sem] def azg (bh:List I->Mem->Option (I×Mem))(args:List I)(mem:Mem):z4 bh args mem=(bh args mem).map λx => .rel (yg x.1 x.2):=bu
structure Iw (P:Program) (f:FuncId) (bh:List I->Mem->Option (I×Mem)):Prop where
 real:Real P f
 run:∀args mem x,bh args mem=some x->∀A w B vs,dQ A w B mem->cC w (bp A B) B args vs->RK P f vs A w B mem (.rel (yg x.1 x.2))
def EI (res:List ku)(x:I)(m:Mem):fD->a8->Prop
 |.exit _,_=>False
 |.normal,st=>jO st res=some x/\st.mem=m
 |.ret,st=>jO st res=some x/\st.mem=m
@[go_sem] def azh {res:List ku}{st:a8}(x:I)(m:Mem)(id:Nat):EI res x m (.exit id) st=False:=bu
@[go_sem] def azi {res:List ku}{st:a8}(x:I)(m:Mem):EI res x m .normal st=(jO st res=some x/\st.mem=m):=bu
@[go_sem] def azj {res:List ku}{st:a8}(x:I)(m:Mem):EI res x m .ret st=(jO st res=some x/\st.mem=m):=bu
def ZJ {P : Program}{T : bj}{kb : Nat}{own : List Nat}(cw : nh P T)(hm : P.follows .mixedOrders = true){f : FuncId}{fn : Func}{mf : bG}(al : P.funcs[f]? = some fn)(sj : (fn.name == "runtime.NumGoroutine") = false)(ay : pz P kb own fn = some { mf with body := erase mf.body })
  {bh:List I->Mem->Option (I×Mem)} (h:∀args mem x,bh args mem=some x->(D args)<=mf.n/\wp T mf.body (EI mf.res x.1 x.2) ⟨ke args,mem⟩):Iw P f bh:=by
 refine⟨?_,λargs mem x fo A w B vs bk ao=>?_⟩
 ·cases U:fn.body with
  |none=>simp[pz,U] at ay
  |some c=>exact⟨fn,c,al,U,sj⟩
 ·obtain⟨hlen,yc⟩:=h args mem x fo;refine Calls.mono (Ik (Post:=yg x.1 x.2) cw hm al ay hlen (λe st R=>?_) yc bk ao) λe an he=>?_
  ·cases e with
   |exit id=>exact R
   |normal=>exact⟨_,R.1,rfl,R.2⟩
   |ret=>exact⟨_,R.1,rfl,R.2⟩
  ·obtain⟨v,m,mem',aA,rfl,Q,kR,aR⟩:=he;exact⟨v,m,mem',aA,rfl,Q,kR,aR⟩
def Nl:Option (I×Mem)->Option gH->Option gH
 |some x,_=>some (.rel (yg x.1 x.2))
 |none,e=>e
@[go_sem] def azk (x:I×Mem)(e:Option gH):Nl (some x) e=some (.rel (yg x.1 x.2)):=bu
@[go_sem] def azl (e:Option gH):Nl none e=e:=bu
def yh (cp:List Data->Option dj)(bh:List I->Mem->Option (I×Mem))(args:List I)(mem:Mem):Option gH:=Nl (bh args mem) (aG cp args mem)
@[go_sem] def azm (cp:List Data->Option dj)(bh:List I->Mem->Option (I×Mem))(args:List I)(mem:Mem):yh cp bh args mem=Nl (bh args mem) (aG cp args mem):=bu
open Classical in
def EJ {α:Type}(dm:α->List I->Mem->Prop)(res:α->Mem->I×Mem):List I->Mem->Option (I×Mem):=λargs mem=>if h:∃a,dm a args mem then some (res (Ez h) mem) else none
def ZK {α:Type}{dm:α->List I->Mem->Prop}{res:α->Mem->I×Mem}(uniq:∀a b args mem,dm a args mem->dm b args mem->res a mem=res b mem){a:α}{args:List I}{mem:Mem}(h:dm a args mem):EJ dm res args mem=some (res a mem):=by
 have L:∃b,dm b args mem:=⟨a,h⟩;unfold EJ;rw[dif_pos L,uniq _ _ _ _ (sk L) h]
def Ss {α:Type}{dm:α->List I->Mem->Prop}{res:α->Mem->I×Mem}{args:List I}{mem:Mem}{x:I×Mem}(h:EJ dm res args mem=some x):∃a,dm a args mem/\x=res a mem:=by
 unfold EJ at h
 split at h
 ·rename_i L;exact⟨_,sk L,(mm h).symm⟩
 ·cases h
def wF:Nat->Nat->List Int
 |0,_=>[]
 |f+1,n=>if n=0 then [] else ((n%1048576:Nat):Int)::wF f (n/1048576)
def aH (n:Nat):List Int:=wF n n
def a9:List Int->Int
 | []=>0
 |d::r=>d+1048576*a9 r
def so (d:Int)(r:List Int):a9 (d::r)=d+1048576*a9 r:=rfl
def eP (l:List Int):Prop:=∀d∈l,0<=d/\d<1048576
def fP:List Int->List Int
 | []=>[]
 |d::r=>if fP r=[] then (if d=0 then [] else [d]) else d::fP r
def aI (n:Int):List Data:=[.int .i64 n]
def jA (b:Int):(aI b).length=1:=rfl
def wG (b:Int):((aI b).map I.J).all I.one=true:=rfl
def fX:∀a b:Int,aI a=aI b->a=b:=by intro a b h;simpa [aI] using h
def alA:∀(f g n:Nat),n<=f->n<=g->wF f n=wF g n:=by
 intro f
 induction f with
 |zero =>
      intro g n h _;obtain rfl:n=0:=by omega
      cases g<;>simp[wF]
 |succ f a4 =>
  intro g n F G
  cases g with
  |zero =>
       obtain rfl:n=0:=by omega
       simp[wF]
  |succ g =>
   unfold wF
   by_cases aC:n=0
   ·rw[aL aC,aL aC]
   ·rw[aT aC,aT aC,a4 g (n/1048576) (by omega) (by omega)]
def sq:aH 0=[]:=rfl
def tG {n:Nat}(h:0<n):aH n=((n%1048576:Nat):Int)::aH (n/1048576):=by
 unfold aH;obtain⟨k,rfl⟩:∃k,n=k+1:=⟨n-1,by omega⟩
 conv=>lhs;unfold wF
 rw[aT (by omega),alA k ((k+1)/1048576) _ (by omega) (by omega)]
def lr (n:Nat):a9 (aH n)=n:=by
 induction n using R9 with
 |_ n a4 =>
  rcases ln n with rfl|h
  ·rfl
  ·rw[tG h];unfold a9;rw[a4 _ (by omega)];omega
def Ix {a b:Nat}(h:aH a=aH b):a=b:=by
 have:=congrArg a9 h;rw[lr,lr] at this;omega
def mr (n:Nat):eP (aH n):=by
 induction n using R9 with
 |_ n a4 =>
  rcases ln n with rfl|h
  ·intro d af;cases af
  ·rw[tG h];intro d af;rcases kt.1 af with rfl|af
   ·omega
   ·exact a4 _ (by omega) d af
def yi {n:Nat}:aH n=[]↔n=0:=by
 constructor
 ·intro h;exact Ix (b:=0) h
 ·rintro rfl;rfl
def ob {l:List Int}(h:eP l):0<=a9 l:=by
 induction l with
 |nil=>exact Int.le_refl _
 |cons d r a4 =>
  have F:=h d (by simp);have G:=a4 λx L=>h x (by simp[L]);unfold a9;omega
def BP {d:Int}{r:List Int}:eP (d::r)↔(0<=d/\d<1048576)/\eP r :=
 ⟨λh=>⟨h d (by simp),λx L=>h x (by simp[L])⟩,λh x L=>(kt.1 L).elim (λe=>e ▸ h.1) (h.2 x)⟩
def BQ {a b:List Int}:eP (a++b)↔eP a/\eP b :=
 ⟨λh=>⟨λx L=>h x (by simp[L]),λx L=>h x (by simp[L])⟩,λh x L=>(h5.1 L).elim (h.1 x) (h.2 x)⟩
def BR (a b:List Int):a9 (a++b)=a9 a+1048576^(D a)*a9 b:=by
 induction a with
 |nil=>simp[a9]
 |cons d r a4 =>
  simp only[M9,a9,a4,lQ,mY];rw[h9]
  have:(1048576:Int)*(1048576^(D r)*a9 b)=1048576^(D r)*1048576*a9 b:=by
   rw[nk (1048576^(D r)) 1048576,ia]
  omega
def yj {l:List Int}(h:eP l):a9 l<1048576^(D l):=by
 induction l with
 |nil=>simp[a9]
 |cons d r a4 =>
  rw[BP] at h;have G:=a4 h.2;simp only[a9,lQ,mY];omega
def ZL (l:List Int):fP (l++[0])=fP l:=by
 induction l with
 |nil=>simp[fP]
 |cons d r a4=>simp only[M9,fP,a4]
def ZM (l:List Int){d:Int}(h:d≠0):fP (l++[d])=l++[d]:=by
 induction l with
 |nil=>simp[fP,h]
 |cons x r a4=>simp only[M9,fP,a4];simp
def yk {l:List Int}(h:eP l):fP l=aH (a9 l).toNat:=by
 induction l with
 |nil=>rfl
 |cons d r a4 =>
  rw[BP] at h;have M:=a4 h.2;have ao:=ob h.2;unfold fP;rw[M,so]
  by_cases a2:a9 r=0
  ·rw[a2]
   by_cases af:d=0
   ·simp[af,sq]
   ·rw[aL (by rfl),aT af];rw[tG (by omega)];rw[show (d+1048576*0).toNat/1048576=0 by omega,sq]
    congr 1
    omega
  ·rw[aT (by rw[yi];omega)];rw[tG (n:=(d+1048576*a9 r).toNat) (by omega)]
   congr 1
   ·omega
   ·congr 1;omega
def ZN (n:Nat):fP (aH n)=aH n:=by
 rw[yk (mr n),lr];simp
def canon {l:List Int}(h:eP l)(ag:l.getLast?≠some 0):l=aH (a9 l).toNat:=by
 rw[<-yk h];rcases St l with rfl|⟨r,d,rfl⟩
 ·rfl
 ·rw[Su] at ag ⊢;rw[ZM];rintro rfl;simp at ag
def ZO (n:Nat):(aH n).getLast?≠some 0:=by
 intro h
 obtain⟨r,M⟩:∃r,aH n=r++[0]:=by
  rcases St (aH n) with e|⟨r,d,e⟩
  ·rw[e] at h;cases h
  ·rw[Su] at e;rw[e] at h;simp at h;subst h;exact⟨r,e⟩
 have F:=ZN n;rw[M,ZL] at F
 have G:(fP r).length<=D r:=by
  clear F M h
  induction r with
  |nil=>simp[fP]
  |cons d r a4=>unfold fP;split<;>(try split)<;>simp<;>omega
 rw[F] at G;simp at G;omega
def fY {n k:Nat}:(aH n).length<=k↔n<1048576^k:=by
 induction k generalizing n with
 |zero =>
      rw[Nat.pow_zero];constructor
      ·intro h;have:=q9 (Nat.le_zero.1 h);rw[yi] at this;omega
      ·intro h;obtain rfl:n=0:=by omega
       simp[sq]
 |succ k a4 =>
  rcases ln n with rfl|h
  ·simp[sq];exact EK (by simp)
  ·rw[tG h,lQ,z5];have:=a4 (n:=n/1048576);rw[Nat.add_le_add_iff_right,this];rw[ZP (by omega)]
def Iy {n:Nat}(h:0<n)(F:n<1048576):aH n=[(n:Int)]:=by
 rw[tG h,Sk F,It F];rfl
def Iz (l:List Int)(i:Nat):a9 l=a9 (l.take i)+1048576^(min i (D l))*a9 (l.drop i):=by
 conv=>lhs;rw[<-Io i l]
 rw[BR,gk]
def yl (n:Int)(h:0<=n/\n<18446744073709551616):IntKind.u64.wrap n=n:=by
 simp[IntKind.wrap,IntKind.bits,IntKind.signed];omega
def ym (n:Int):bits .and .i64 n 1048575=n%1048576:=by
 have G:(1048575:Int)=((2^20-1:Nat):Int):=by decide
 have F:n%18446744073709551616%1048576=n%1048576:=by omega
 obtain⟨a,bc⟩:∃a:Nat,(a:Int)=n%18446744073709551616:=⟨(n%18446744073709551616).toNat,by omega⟩
 have e:BitVec.ofInt 64 n=BitVec.ofNat 64 a:=by
  apply BitVec.eq_of_toInt_eq;rw[BitVec.toInt_ofInt,BitVec.toInt_ofNat',bc];simp[ZQ,ZR]
 have az:bits .and .i64 n 1048575=bits .and .i64 (a:Int) 1048575:=by
  simp only[bits];rw[show IntKind.i64.bits=64 from rfl,e,BitVec.ofInt_natCast]
 rw[az,<-F,<-bc,G];have Sv:a<2^64:=by omega
 simp only[bits,BitVec.ofInt_natCast,BitVec.toNat_and,BitVec.toNat_ofNat,show IntKind.i64.bits=64 from rfl,It Sv];rw[show (2^20-1:Nat)%2^64=2^20-1 by decide,ZS,wrap64 _ (by omega) (by omega)]
 omega
def ZT (n:Int)(h:0<=n/\n<18446744073709551616):bits .and .u64 n 1048575=n%1048576:=by
 have:=bits_mask .u64 64 (by decide) (λn F G=>yl n ⟨F,by omega⟩) 20 (by decide) n h.1 (by omega)
 simpa using this
def Sw (x y:Int)(L:0<=x)(ez:x<8796093022208)(ak:0<=y/\y<1048576):bits .or .i64 (x*1048576) y=x*1048576+y:=by
 refine bits_join .i64 63 (by decide) (λn F G=>wrap64 n (by omega) (by omega)) 20 _ _ (by omega) (by omega) (by omega) ak.1 (by omega) (by omega)
def alB (n:Int):n.fdiv (2^20)=n/1048576:=by
 rw[Int.fdiv_eq_ediv_of_nonneg _ (by decide)];rfl
def u7 (n:Int):n.fdiv (2^min (BS 20) 64)=n/1048576:=alB n
def EL:FuncId:=23
def Sx:FuncId:=158
def IA:FuncId:=84
def tH:FuncId:=14
def EM:FuncId:=209
def IB:FuncId:=17
def mu:FuncId:=67
def BT:FuncId:=22
def Sy:FuncId:=59
def IC:FuncId:=57
def sr:FuncId:=213
def Sz:FuncId:=214
def Nm:FuncId:=215
def tI:FuncId:=81
def SA:FuncId:=159
def ID:FuncId:=109
def EN:FuncId:=45
def BU:FuncId:=157
def yn:FuncId:=38
def z6:FuncId:=20
def kF:FuncId:=134
def IE:FuncId:=135
def SB:FuncId:=136
def SC:FuncId:=71
def tJ:FuncId:=72
def BV:FuncId:=73
def Nn:FuncId:=128
def IF:FuncId:=124
def EO:FuncId:=125
def SD:FuncId:=228
def SE:FuncId:=156
def EP:FuncId:=78
def SF:FuncId:=216
def IG:FuncId:=149
def No:FuncId:=185
def SG:FuncId:=108
def ER:FuncId:=206
def BW:FuncId:=68
def SH:FuncId:=69
def tK:FuncId:=147
def wH:FuncId:=94
def IH:FuncId:=137
def oc:FuncId:=138
def SI:FuncId:=198
def SJ:FuncId:=146
def ES:FuncId:=148
def kG:FuncId:=143
def ET:FuncId:=190
def II:FuncId:=144
def BX:FuncId:=191
def od:FuncId:=192
def IJ:FuncId:=229
def z7:FuncId:=230
def EU:FuncId:=113
def alC:FuncId:=183
def SK:FuncId:=184
def IK:FuncId:=139
def EV:FuncId:=140
def EW:FuncId:=141
def BY:FuncId:=142
def Np:FuncId:=199
def pI:FuncId:=200
def SL:FuncId:=201
def SM:FuncId:=205
def IL:FuncId:=203
def IM:FuncId:=195
def z8:FuncId:=197
def ss:FuncId:=225
def Nq:FuncId:=202
def z9:FuncId:=196
def BZ:FuncId:=194
def su:FuncId:=226
def IN:FuncId:=75
def SN:FuncId:=151
def SO:FuncId:=152
def IP:FuncId:=150
def kY:FuncId:=70
def IQ:FuncId:=65
def SP:FuncId:=66
def SQ:FuncId:=208
def SR:FuncId:=210
def Nr:FuncId:=211
def qA:FuncId:=131
def SU:FuncId:=207
def yo:FuncId:=132
def IS:FuncId:=145
def IT:FuncId:=133
def Ns:FuncId:=189
def Nt:FuncId:=227
def B0:FuncId:=193
def SV:FuncId:=204
def EX:FuncId:=900234
def Aa:FuncId:=76
def EY:FuncId:=153
def ZU:FuncId:=900294
def B1:FuncId:=900309
def EZ:FuncId:=28
def u9:FuncId:=82
def IU:FuncId:=30
def va:FuncId:=86
def SW:FuncId:=32
def wI:FuncId:=88
def SX:FuncId:=26
def SY:FuncId:=77
def yp:FuncId:=18
def IV:FuncId:=83
def B2:FuncId:=64
def SZ:FuncId:=130
def B3:FuncId:=87
def B4:FuncId:=62
def vb:FuncId:=129
def B5:FuncId:=80
def Nu:FuncId:=155
def S0:FuncId:=63
def tL:FuncId:=46
def alD:FuncId:=5
def oS:FuncId:=39
def nI:FuncId:=37
def S1:FuncId:=9
def Nv:FuncId:=60
def S2:FuncId:=29
def S3:FuncId:=31
def S4:FuncId:=16
def S5:FuncId:=61
def B6:FuncId:=19
def S6:FuncId:=33
def S7:FuncId:=27
def E0:FuncId:=21
def B7:FuncId:=34
def B8:FuncId:=85
def S8:FuncId:=15
def E1:FuncId:=25
def B9:FuncId:=24
def S9:FuncId:=35
def E2:FuncId:=74
def sv:FuncId:=79
def Ta:FuncId:=154
def Tb:FuncId:=212
abbrev E (a b:Nat):bz:=⟨some a,none,.iu (.t b)⟩
abbrev aJ (a n b:Nat):bz:=⟨some a,none,.load n false (.t b)⟩
abbrev aD (a n b:Nat):bz:=⟨some a,none,.load n true (.t b)⟩
abbrev aE (a n b:Nat):bz:=⟨some a,none,.tk n (.t b)⟩
abbrev a1 (n a b:Nat):bz:=⟨none,none,.store n (.t a) (.t b)⟩
abbrev ba (a:Nat)(n:Int):bz:=⟨some a,none,.iu (.c (.J (.int .i64 n)))⟩
abbrev aP (a n b:Nat):bz:=⟨some a,none,.ext n (.t b)⟩
abbrev bE (a n b c:Nat):bz:=⟨some a,none,.uH n (.t b) (.t c)⟩
abbrev cg (a b:Nat):bz:=⟨some a,none,.len (.t b)⟩
abbrev bY (a:Nat)(b:Bool):bz:=⟨some a,none,.iu (.c (.J (.bool b)))⟩
abbrev cH (a:Nat):bz:=⟨some a,none,.iu (.c .nil)⟩
abbrev bt (a:Nat)(o:BinOp)(b c:Nat):bz:=⟨some a,none,.bin o (.t b) (.t c)⟩
abbrev bd (a:Nat)(o:BinOp)(b:Nat)(n:Int):bz:=⟨some a,none,.bin o (.t b) (.c (.J (.int .i64 n)))⟩
abbrev cF (a b c:Nat):bz:=⟨some a,none,.pick (.t b) (.c (.J (.bool true))) (.t c)⟩
abbrev fF (a b c:Nat):bz:=⟨some a,none,.pick (.t b) (.t c) (.c (.J (.bool false)))⟩
abbrev cm (a k b:Nat):bz:=⟨some a,none,.box k (.t b)⟩
abbrev oT (a b:Nat):bz:=⟨some a,none,.uG (.t b)⟩
abbrev dT (a b:Nat):bz:=⟨some a,none,.un .not (.t b)⟩
abbrev fA (a g n b:Nat):bz:=⟨some a,some (g,false),.load n false (.t b)⟩
abbrev hx (a g n b:Nat):bz:=⟨some a,some (g,false),.load n true (.t b)⟩
abbrev dK (a g b:Nat):bz:=⟨some a,some (g,false),.iu (.t b)⟩
abbrev fr (a g n b:Nat):bz:=⟨some a,some (g,false),.tk n (.t b)⟩
abbrev ib (a g b:Nat):bz:=⟨some a,some (g,false),.un .not (.t b)⟩
abbrev nJ (a g b:Nat):bz:=⟨some a,some (g,false),.len (.t b)⟩
abbrev sw (a g n b c:Nat):bz:=⟨some a,some (g,false),.uH n (.t b) (.t c)⟩
abbrev nK (a g:Nat)(o:BinOp)(b c:Nat):bz:=⟨some a,some (g,false),.bin o (.t b) (.t c)⟩
abbrev gN (a g:Nat)(o:BinOp)(b:Nat)(n:Int):bz:=⟨some a,some (g,false),.bin o (.t b) (.c (.J (.int .i64 n)))⟩
abbrev iz (a g n b:Nat):bz:=⟨some a,some (g,true),.load n false (.t b)⟩
abbrev Ca (a g n b:Nat):bz:=⟨some a,some (g,true),.load n true (.t b)⟩
abbrev ev (a g b:Nat):bz:=⟨some a,some (g,true),.iu (.t b)⟩
abbrev hI (a g n b:Nat):bz:=⟨some a,some (g,true),.tk n (.t b)⟩
abbrev Nw (a g b:Nat):bz:=⟨some a,some (g,true),.un .not (.t b)⟩
abbrev Tc (a g b:Nat):bz:=⟨some a,some (g,true),.len (.t b)⟩
abbrev rn (a g n b c:Nat):bz:=⟨some a,some (g,true),.uH n (.t b) (.t c)⟩
abbrev E3 (a g:Nat)(o:BinOp)(b c:Nat):bz:=⟨some a,some (g,true),.bin o (.t b) (.t c)⟩
abbrev kj (a g:Nat)(o:BinOp)(b:Nat)(n:Int):bz:=⟨some a,some (g,true),.bin o (.t b) (.c (.J (.int .i64 n)))⟩
abbrev bn (n:Int):I:=.J (.int .i64 n)
abbrev hJ:List I:=[.nil,bn 0,.nil,bn 0,.nil]
abbrev cM:List I:=[bn 0,.nil,bn 0,.nil]
abbrev c6:List I:=[bn 0,.nil]
abbrev yq:List I:=[.nil,.nil,.nil]
abbrev bR (a k:Nat)(z:List I):bz:=⟨some a,none,.alloc k z⟩
abbrev dU (i:Nat)(c:e1):e1:=.block i (.loop c)
abbrev de (n i:Nat):e1:=.cond (.t n) .skip (.exit i)
abbrev bQ (n:Nat)(l:List bz):e1:=.cond (.t n) (.seq (.ops l) .ret) .skip
abbrev c8 (a:Nat)(f:FuncId)(x:Nat):bz:=⟨some a,none,.call f [.t x]⟩
abbrev bK (a:Nat)(f:FuncId)(x y:Nat):bz:=⟨some a,none,.call f [.t x,.t y]⟩
abbrev yr (a:Nat)(f:FuncId)(x y z:Nat):bz:=⟨some a,none,.call f [.t x,.t y,.t z]⟩
abbrev oU (a:Nat)(f:FuncId)(x y z u:Nat):bz:=⟨some a,none,.call f [.t x,.t y,.t z,.t u]⟩
abbrev aB (a:Nat)(o:fN):bz:=⟨some a,none,o⟩
abbrev fs (a b:Nat)(o:fN):bz:=⟨some a,some (b,false),o⟩
abbrev fB (a b:Nat)(o:fN):bz:=⟨some a,some (b,true),o⟩
abbrev bV (n m:Nat)(r:List ku)(b:e1):bG:=⟨n,m,r,b⟩
abbrev fj (n:Nat)(a b:e1):e1:=.cond (.t n) a b
abbrev O (l:List bz)(c:e1):e1:=.seq (.ops l) c
abbrev e3 (l:List bz)(x:List (List Nat))(c:e1):e1:=.seq (.mN l x) c
abbrev alE:List (List Nat):=[[],[],[],[],[]]
abbrev Nx:List (List Nat):=[[],[],[],[],[],[]]
abbrev E4:List (List Nat):=[[],[],[],[],[],[],[]]
abbrev Td:List (List Nat):=[[],[],[],[],[],[],[],[]]
abbrev Te:List (List Nat):=[[],[],[],[],[],[],[],[],[]]
abbrev IW:List (List Nat):=[[],[],[],[],[],[],[],[],[],[]]
abbrev IX:List (List Nat):=[[],[],[],[],[],[],[],[],[],[],[]]
abbrev ZV:List (List Nat):=[[],[],[],[],[],[],[],[],[],[],[],[]]
abbrev Ny:List (List Nat):=[[],[],[],[],[],[],[],[],[],[],[],[],[]]
abbrev Nz:List (List Nat):=[[],[],[],[],[],[],[],[],[],[],[],[],[],[]]
abbrev alF:List (List Nat):=[[],[],[],[],[],[],[],[],[],[],[],[],[],[],[]]
abbrev IY:List (List Nat):=[[],[],[],[],[],[],[],[],[],[],[],[],[],[],[],[]]
abbrev alG:List (List Nat):=[[],[],[],[],[],[],[],[],[],[],[],[],[],[],[],[],[]]
abbrev alH:List (List Nat):=[[],[],[],[],[],[],[],[],[],[],[],[],[],[],[],[],[],[]]
abbrev alI:List (List Nat):=[[],[],[],[],[],[],[],[],[],[],[],[],[],[],[],[],[],[],[],[],[],[],[],[],[],[]]
abbrev alJ:List (List Nat):=[[],[],[],[],[],[],[],[],[],[],[],[],[],[],[],[],[],[],[],[],[],[],[],[],[],[],[]]
abbrev alK:List (List Nat):=[[],[],[],[],[],[],[],[],[],[],[],[],[],[],[],[],[],[],[],[],[],[],[],[],[],[],[],[]]
def ZW:bG:=bV 49 1 [.t 2] (O [cm 1 136001 0,bY 2 false] (O [aE 6 1 1,aJ 7 1 6,cg 8 7,E 3 8] (.seq (O [aE 9 1 1,aJ 10 1 9,cg 11 10,ba 12 0] (dU 0 (O [bt 13 .lss 12 11] (.seq (de 13 0) (.seq (.block 1 (O [bE 14 1 10 12,aJ 15 1 14,E 5 15] (O [E 16 5,bd 17 .lss 16 0,E 18 17,dK 19 18 5,gN 20 18 .gtr 19 1048575,cF 21 18 20] (bQ 21 [bY 2 false])))) (.ops [bd 22 .add 12 1,E 12 22])))))) (.seq (O [E 23 3,bd 24 .eql 23 0] (bQ 24 [aE 25 0 1,aJ 26 1 25,bd 27 .eql 26 0,E 2 27])) (O [aE 28 0 1,aJ 29 1 28,bd 30 .eql 29 1,E 31 30,fr 32 31 0 1,fA 33 31 1 32,fs 34 31 (.bin .eql (.t 33) (.c (.J (.int .i64 (-1))))),cF 35 31 34,E 36 35,ev 37 36 3,kj 38 36 .leq 37 60,fF 39 36 38,E 40 39,hI 41 40 1 1,iz 42 40 1 41,ev 43 40 3,kj 44 40 .sub 43 1,rn 45 40 1 42 44,iz 46 40 1 45,kj 47 40 .neq 46 0,fF 48 40 47,E 2 48] .ret)))))
def ZX:bG:=bV 44 2 [.cell 4 2 true,.t 5] (O [cm 2 137002 0,cm 3 137003 1,bR 4 137004 c6,ba 5 0] (.seq (O [aD 10 2 2,c8 11 kF 10,dT 12 11,E 13 12,hx 14 13 2 3,fs 15 13 (.call kF [.t 14]),ib 16 13 15,cF 17 13 16] (bQ 17 [aB 18 (.build c6 []),aB 19 (.call tK [.c (.J (.bool false)),.t 18]),aP 20 0 19,aP 21 1 19,a1 2 4 20,E 5 21])) (e3 [aE 22 1 2,aJ 23 1 22,c8 24 wH 23,aE 25 1 3,aJ 26 1 25,E 6 24,E 7 26] E4 (.seq (dU 0 (.seq (O [E 27 7,cg 28 27,bd 29 .gtr 28 0] (de 29 0)) (.block 1 (O [E 31 6,E 32 7,bK 33 IH 31 32,E 30 33,aP 34 0 30,aP 35 1 30,E 8 34,E 9 35] (.ops [E 36 7,E 37 9,E 6 36,E 7 37]))))) (O [E 38 6,c8 39 wH 38,aB 40 (.call oc [.c (bn 1),.t 39]),aB 41 (.call tK [.c (.J (.bool true)),.t 40]),aP 42 0 41,aP 43 1 41,a1 2 4 42,E 5 43] .ret)))))
def ZY:bG:=bV 32 2 [.cell 4 2 true,.t 5] (O [cm 2 140002 0,cm 3 140003 1,bR 4 140004 c6,ba 5 0] (.seq (O [aD 6 2 2,c8 7 kF 6,dT 8 7,E 9 8,hx 10 9 2 3,fs 11 9 (.call kF [.t 10]),ib 12 9 11,cF 13 9 12] (bQ 13 [aB 14 (.build c6 []),aB 15 (.call tK [.c (.J (.bool false)),.t 14]),aP 16 0 15,aP 17 1 15,a1 2 4 16,E 5 17])) (e3 [aE 18 0 2,aJ 19 1 18,aE 20 0 3,aJ 21 1 20,bt 22 .mul 19 21,aE 23 1 2,aJ 24 1 23,aE 25 1 3,aJ 26 1 25,bK 27 ES 24 26,bK 28 oc 22 27,aB 29 (.call tK [.c (.J (.bool true)),.t 28]),aP 30 0 29,aP 31 1 29,a1 2 4 30,E 5 31] IY .ret)))
def ZZ:bG:=bV 25 1 [.cell 2 2 true] (O [bR 2 150002 c6] (O [E 6 0,aB 7 (.conv .u64 (.t 6)),ba 3 1,E 4 7] (.seq (O [E 8 0,bd 9 .lss 8 0] (fj 9 (.ops [E 10 4,aB 11 (.un .neg (.t 10)),aB 3 (.iu (.c (.J (.int .i64 (-1))))),E 4 11]) .skip)) (O [cH 5] (.seq (.block 0 (.ghost (.mM 5 150021 1) (.loop  (.seq (O [E 12 4,aB 13 (.bin .gtr (.t 12) (.c (.J (.int .u64 0))))] (de 13 0)) (.seq (.block 1 (.ops [E 16 5,E 17 4,aB 18 (.bin .and (.t 17) (.c (.J (.int .u64 1048575)))),aB 19 (.conv .i64 (.t 18)),aB 20 (.dN 150020 false [bn 0] 1 1 [(0,1,.t 19)]),aB 21 (.app 150021 [bn 0] 8 (.t 16) (.t 20)),E 5 21])) (.ops [E 14 4,aB 15 (.bin .shr (.t 14) (.c (.J (.int .u64 20)))),E 4 15])))))) (.seq (.ghost (.freeze 5) (.ops [E 22 3,E 23 5,bK 24 oc 22 23,a1 2 2 24])) .ret))))))
def Z0:bG:=bV 14 1 [.cell 2 2 true] (O [cm 1 152001 0,bR 2 152002 c6] (.seq (O [aD 3 2 1,c8 4 kF 3,dT 5 4] (bQ 5 [aB 6 (.build c6 []),a1 2 2 6])) (e3 [aE 7 0 1,aJ 8 1 7,aB 9 (.un .neg (.t 8)),aE 10 1 1,aJ 11 1 10,c8 12 wH 11,bK 13 oc 9 12,a1 2 2 13] Td .ret)))
def Z1:bG:=bV 67 2 [.cell 4 2 true,.cell 5 2 true,.t 6] (O [cm 2 153002 0,cm 3 153003 1,bR 4 153004 c6,bR 5 153005 c6,ba 6 0] (.seq (.block 0 (O [aD 10 2 2,c8 11 kF 10,dT 12 11,E 13 12,hx 14 13 2 3,fs 15 13 (.call kF [.t 14]),ib 16 13 15,cF 17 13 16,E 9 17] (fj 9 (O [aB 18 (.build c6 []),aB 19 (.build c6 []),a1 2 4 18,a1 2 5 19,ba 6 1] .ret) (O [aE 21 0 3,aJ 22 1 21,bd 23 .eql 22 0,E 20 23] (bQ 20 [aB 24 (.build c6 []),aB 25 (.build c6 []),a1 2 4 24,a1 2 5 25,ba 6 15]))))) (O [aE 27 1 2,aJ 28 1 27,aE 29 1 3,aJ 30 1 29,bK 31 IH 28 30,E 26 31,aP 32 0 26,aP 33 1 26,E 7 32,E 8 33] (.seq (O [aE 34 0 2,aJ 35 1 34,aE 36 0 3,aJ 37 1 36,bt 38 .mul 35 37,bd 39 .lss 38 0,E 40 39,ev 41 40 8,Tc 42 40 41,kj 43 40 .gtr 42 0,fF 44 40 43] (fj 44 (e3 [E 45 7,aB 46 (.dN 153046 false [bn 0] 1 1 [(0,1,.c (bn 1))]),bK 47 IK 45 46,aB 48 (.call oc [.c (.J (.int .i64 (-1))),.t 47]),aE 49 0 3,aJ 50 1 49,aE 51 1 3,aJ 52 1 51,E 53 8,bK 54 EV 52 53,bK 55 oc 50 54,a1 2 4 48,a1 2 5 55,ba 6 0] Nz .ret) .skip)) (e3 [aE 56 0 2,aJ 57 1 56,aE 58 0 3,aJ 59 1 58,bt 60 .mul 57 59,E 61 7,bK 62 oc 60 61,aE 63 0 2,aJ 64 1 63,E 65 8,bK 66 oc 64 65,a1 2 4 62,a1 2 5 66,ba 6 0] Nz .ret)))))
def Z2:bG:=bV 31 2 [.t 4] (O [cm 2 154002 0,cm 3 154003 1,ba 4 0] (.seq (O [aD 5 2 2,c8 6 kF 5,dT 7 6,E 8 7,hx 9 8 2 3,fs 10 8 (.call kF [.t 9]),ib 11 8 10,cF 12 8 11] (bQ 12 [ba 4 0])) (.seq (O [aE 13 0 2,aJ 14 1 13,aE 15 0 3,aJ 16 1 15,bt 17 .neq 14 16] (bQ 17 [aE 18 0 2,aJ 19 1 18,aE 20 0 3,aJ 21 1 20,bK 22 EW 19 21,E 4 22])) (e3 [aE 23 0 2,aJ 24 1 23,aE 25 1 2,aJ 26 1 25,aE 27 1 3,aJ 28 1 27,bK 29 BY 26 28,bt 30 .mul 24 29,E 4 30] Te .ret))))
def Z3:bG:=bV 17 2 [.cell 4 2 true,.t 5] (O [cm 3 155003 1,bR 4 155004 c6,ba 5 0] (.seq (.block 0 (O [E 7 0,dT 8 7,E 6 8] (fj 6 (O [aB 9 (.build c6 []),a1 2 4 9,ba 5 1] .ret) (O [aE 11 1 3,aJ 12 1 11,cg 13 12,bd 14 .gtr 13 60,E 10 14] (bQ 10 [aB 15 (.build c6 []),a1 2 4 15,ba 5 6]))))) (O [aD 16 2 3,a1 2 4 16,ba 5 0] .ret)))
def Z4:bG:=bV 170 2 [.t 4,.t 5] (O [cH 4,cH 5] (.seq (O [E 19 0,E 20 1,bK 21 BY 19 20,bd 22 .lss 21 0] (bQ 22 [E 23 0,c8 24 wH 23,cH 4,E 5 24])) (.seq (O [E 25 1,cg 26 25,bd 27 .eql 26 1] (fj 27 (O [E 29 0,E 30 1,aB 31 (.uH 1 (.t 30) (.c (bn 0))),aJ 32 1 31,bK 33 Np 29 32,E 28 33,aP 34 0 28,aP 35 1 28,E 6 34,E 7 35] (O [E 36 6,E 37 7,aB 38 (.dN 157038 false [bn 0] 1 1 [(0,1,.t 37)]),c8 39 pI 38,E 4 36,E 5 39] .ret)) .skip)) (O [ba 8 1] (.seq (dU 0 (.seq (O [E 40 1,E 41 1,cg 42 41,bd 43 .sub 42 1,bE 44 1 40 43,aJ 45 1 44,E 46 8,bt 47 .mul 45 46,bd 48 .lss 47 524288] (de 48 0)) (.block 1 (.ops [E 49 8,bd 50 .mul 49 2,E 8 50])))) (O [E 51 0,E 52 8,aB 53 (.dN 157053 false [bn 0] 1 1 [(0,1,.t 52)]),aB 54 (.lb 157054 1 ES [.t 51,.t 53]),aB 55 (.dN 157055 false [bn 0] 1 1 [(0,1,.c (bn 0))]),aB 56 (.app 157056 [bn 0] 8 (.t 54) (.t 55)),E 57 1,E 58 8,aB 59 (.dN 157059 false [bn 0] 1 1 [(0,1,.t 58)]),bK 60 ES 57 59,E 9 56,E 10 60] (.seq (O [E 61 9,cg 62 61,E 63 0,cg 64 63,bt 65 .eql 62 64] (fj 65 (.ops [E 66 9,aB 67 (.dN 157067 false [bn 0] 1 1 [(0,1,.c (bn 0))]),aB 68 (.app 157068 [bn 0] 8 (.t 66) (.t 67)),E 9 68]) .skip)) (O [E 69 10,cg 70 69,E 11 70] (O [E 71 9,cg 72 71,E 73 11,bt 74 .sub 72 73,aB 75 (.la 157075 [bn 0] 8 (.t 74) (.t 74)),E 12 75] (.seq (O [E 76 12,cg 77 76,bd 78 .sub 77 1,E 13 78] (dU 2 (.seq (O [E 79 13,bd 80 .geq 79 0] (de 80 2)) (.seq (.block 3 (e3 [E 83 9,E 84 13,E 85 11,bt 86 .add 84 85,bE 87 1 83 86,aJ 88 1 87,aB 89 (.bin .shl (.t 88) (.c (.J (.int .u64 20)))),E 90 9,E 91 13,E 92 11,bt 93 .add 91 92,bd 94 .sub 93 1,bE 95 1 90 94,aJ 96 1 95,bt 97 .or 89 96,E 14 97] IY (e3 [E 98 14,E 99 10,E 100 11,bd 101 .sub 100 1,bE 102 1 99 101,aJ 103 1 102,bt 104 .quo 98 103,E 105 14,E 106 10,E 107 11,bd 108 .sub 107 1,bE 109 1 106 108,aJ 110 1 109,bt 111 .rem 105 110,E 15 104,E 16 111] IY (.seq (dU 4 (.seq (e3 [E 112 15,bd 113 .geq 112 1048576,E 114 113,dK 115 114 16,gN 116 114 .lss 115 1048576,dK 117 114 116,ev 118 117 15,ev 119 117 10,ev 120 117 11,kj 121 117 .sub 120 2,rn 122 117 1 119 121,iz 123 117 1 122,E3 124 117 .mul 118 123,ev 125 117 16,fB 126 117 (.bin .shl (.t 125) (.c (.J (.int .u64 20)))),ev 127 117 9,ev 128 117 13,ev 129 117 11,E3 130 117 .add 128 129,kj 131 117 .sub 130 2,rn 132 117 1 127 131,iz 133 117 1 132,E3 134 117 .or 126 133,E3 135 117 .gtr 124 134,fs 136 114 (.pick (.t 117) (.t 135) (.c (.J (.bool false)))),cF 137 114 136] alI (de 137 4)) (.block 5 (O [E 138 15,bd 139 .sub 138 1,E 15 139] (.ops [E 140 16,E 141 10,E 142 11,bd 143 .sub 142 1,bE 144 1 141 143,aJ 145 1 144,bt 146 .add 140 145,E 16 146]))))) (.ops [E 147 12,E 148 13,E 149 9,E 150 13,E 151 13,E 152 11,bt 153 .add 151 152,bd 154 .add 153 1,aB 155 (.q1 1 (.t 149) (some (.t 150)) (some (.t 154)) none),E 156 10,E 157 15,yr 158 SL 155 156 157,bE 159 1 147 148,a1 1 159 158]))))) (.ops [E 81 13,bd 82 .sub 81 1,E 13 82]))))) (.seq (.ghost (.freeze 9) (.ops [E 161 9,c8 162 pI 161,E 163 8,bK 164 Np 162 163,E 160 164,aP 165 0 160,aP 166 1 160,E 17 165,E 18 166])) (.seq (.ghost (.freeze 12) (.ops [E 167 12,c8 168 pI 167,E 169 17,E 4 168,E 5 169])) .ret))))))))))))
def Z5:bG:=bV 14 2 [.cell 4 2 true] (O [bR 4 158004 c6] (O [E 5 1,c8 6 pI 5,E 1 6] (.seq (O [E 7 1,cg 8 7,bd 9 .eql 8 0] (bQ 9 [aB 10 (.build c6 []),a1 2 4 10])) (O [E 11 0,E 12 1,aB 13 (.build c6 [(0,1,.t 11),(1,1,.t 12)]),a1 2 4 13] .ret))))
def Z6:bG:=bV 59 1 [.t 2,.t 3] (O [cm 1 159001 0,ba 2 0,bY 3 false] (.seq (O [aD 7 2 1,c8 8 kF 7,dT 9 8,E 10 9,fr 11 10 1 1,fA 12 10 1 11,nJ 13 10 12,gN 14 10 .gtr 13 4,cF 15 10 14] (bQ 15 [ba 2 0,bY 3 false])) (O [aB 4 (.iu (.c (.J (.int .u64 0))))] (.seq (O [aE 16 1 1,aJ 17 1 16,cg 18 17,ba 19 0] (dU 0 (O [bt 20 .lss 19 18] (.seq (de 20 0) (.seq (.block 1 (O [E 21 19,bE 22 1 17 19,aJ 23 1 22,E 5 21,E 6 23] (.seq (O [E 24 5,bd 25 .eql 24 3,E 26 25,ev 27 26 6,kj 28 26 .gtr 27 8,fF 29 26 28] (bQ 29 [ba 2 0,bY 3 false])) (.ops [E 30 4,E 31 6,aB 32 (.conv .u64 (.t 31)),E 33 5,aB 34 (.bin .mul (.c (bn 20)) (.t 33)),bt 35 .shl 32 34,bt 36 .or 30 35,E 4 36])))) (.ops [bd 37 .add 19 1,E 19 37])))))) (.seq (.block 2 (O [aE 39 0 1,aJ 40 1 39,bd 41 .lss 40 0,E 42 41,ev 43 42 4,fB 44 42 (.bin .leq (.t 43) (.c (.J (.int .u64 9223372036854775808)))),fF 45 42 44,E 38 45] (fj 38 (O [E 46 4,aB 47 (.un .neg (.t 46)),aB 48 (.conv .i64 (.t 47)),E 2 48,bY 3 true] .ret) (O [aE 50 0 1,aJ 51 1 50,bd 52 .geq 51 0,E 53 52,ev 54 53 4,fB 55 53 (.bin .lss (.t 54) (.c (.J (.int .u64 9223372036854775808)))),fF 56 53 55,E 49 56] (bQ 49 [E 57 4,aB 58 (.conv .i64 (.t 57)),E 2 58,bY 3 true]))))) (O [ba 2 0,bY 3 false] .ret))))))
def Z7:bG:=bV 69 2 [.cell 4 2 true,.t 5] (O [cm 2 160002 0,cm 3 160003 1,bR 4 160004 c6,ba 5 0] (.seq (O [aD 6 2 2,c8 7 kF 6,dT 8 7,E 9 8,hx 10 9 2 3,fs 11 9 (.call kF [.t 10]),ib 12 9 11,cF 13 9 12] (bQ 13 [aB 14 (.build c6 []),aB 15 (.call tK [.c (.J (.bool false)),.t 14]),aP 16 0 15,aP 17 1 15,a1 2 4 16,E 5 17])) (.seq (.block 0 (O [aE 19 0 2,aJ 20 1 19,aE 21 0 3,aJ 22 1 21,bt 23 .mul 20 22,bd 24 .geq 23 0,E 18 24] (fj 18 (e3 [aE 25 0 2,aJ 26 1 25,aE 27 0 3,aJ 28 1 27,aB 29 (.dN 160029 false [bn 0,bn 0] 1 2 [(0,1,.t 26),(1,1,.t 28)]),c8 30 SM 29,aE 31 1 2,aJ 32 1 31,aE 33 1 3,aJ 34 1 33,bK 35 IK 32 34,bK 36 oc 30 35,aB 37 (.call tK [.c (.J (.bool true)),.t 36]),aP 38 0 37,aP 39 1 37,a1 2 4 38,E 5 39] alG .ret) (O [aE 41 1 2,aJ 42 1 41,aE 43 1 3,aJ 44 1 43,bK 45 BY 42 44,bd 46 .lss 45 0,E 40 46] (fj 40 (e3 [aE 47 0 3,aJ 48 1 47,aE 49 1 3,aJ 50 1 49,aE 51 1 2,aJ 52 1 51,bK 53 EV 50 52,bK 54 oc 48 53,aB 55 (.call tK [.c (.J (.bool true)),.t 54]),aP 56 0 55,aP 57 1 55,a1 2 4 56,E 5 57] Ny .ret) .skip))))) (e3 [aE 58 0 2,aJ 59 1 58,aE 60 1 2,aJ 61 1 60,aE 62 1 3,aJ 63 1 62,bK 64 EV 61 63,bK 65 oc 59 64,aB 66 (.call tK [.c (.J (.bool true)),.t 65]),aP 67 0 66,aP 68 1 66,a1 2 4 67,E 5 68] Ny .ret))))
def Z8:bG:=bV 67 2 [.t 4] (O [cH 4] (O [E 12 0,cg 13 12,E 14 1,cg 15 14,bt 16 .add 13 15,aB 17 (.la 161017 [bn 0] 8 (.t 16) (.t 16)),E 5 17] (.seq (O [E 18 0,cg 19 18,ba 20 0] (dU 0 (O [bt 21 .lss 20 19] (.seq (de 21 0) (.seq (.block 1 (O [E 22 20,bE 23 1 18 20,aJ 24 1 23,E 6 22,E 7 24] (O [ba 8 0] (.seq (O [E 25 1,cg 26 25,ba 27 0] (dU 2 (O [bt 28 .lss 27 26] (.seq (de 28 2) (.seq (.block 3 (O [E 29 27,bE 30 1 25 27,aJ 31 1 30,E 9 29,E 10 31] (O [E 32 5,E 33 6,E 34 9,bt 35 .add 33 34,bE 36 1 32 35,aJ 37 1 36,E 38 7,E 39 10,bt 40 .mul 38 39,bt 41 .add 37 40,E 42 8,bt 43 .add 41 42,E 11 43] (.ops [E 44 5,E 45 6,E 46 9,bt 47 .add 45 46,E 48 11,bd 49 .and 48 1048575,E 50 11,aB 51 (.bin .shr (.t 50) (.c (.J (.int .u64 20)))),bE 52 1 44 47,a1 1 52 49,E 8 51])))) (.ops [bd 53 .add 27 1,E 27 53])))))) (.ops [E 54 5,E 55 6,E 56 1,cg 57 56,bt 58 .add 55 57,bE 59 1 54 58,aJ 60 1 59,E 61 8,bt 62 .add 60 61,bE 63 1 54 58,a1 1 63 62]))))) (.ops [bd 64 .add 20 1,E 20 64])))))) (O [E 65 5,c8 66 pI 65,E 4 66] .ret))))
def Z9:bG:=bV 55 2 [.t 4] (O [cH 4] (.seq (O [E 9 0,cg 10 9,E 11 1,cg 12 11,bt 13 .lss 10 12] (fj 13 (.ops [E 14 1,E 15 0,E 0 14,E 1 15]) .skip)) (O [E 16 0,cg 17 16,bd 18 .add 17 1,aB 19 (.la 172019 [bn 0] 8 (.t 18) (.t 18)),E 5 19] (O [ba 6 0] (.seq (O [E 20 0,cg 21 20,ba 22 0] (dU 0 (O [bt 23 .lss 22 21] (.seq (de 23 0) (.seq (.block 1 (O [E 24 22,bE 25 1 20 22,aJ 26 1 25,E 7 24,E 8 26] (O [E 27 6,E 28 8,bt 29 .add 27 28,E 6 29] (.seq (O [E 30 7,E 31 1,cg 32 31,bt 33 .lss 30 32] (fj 33 (.ops [E 34 6,E 35 1,E 36 7,bE 37 1 35 36,aJ 38 1 37,bt 39 .add 34 38,E 6 39]) .skip)) (O [E 40 5,E 41 7,E 42 6,bd 43 .and 42 1048575,bE 44 1 40 41,a1 1 44 43] (.ops [E 45 6,aB 46 (.bin .shr (.t 45) (.c (.J (.int .u64 20)))),E 6 46])))))) (.ops [bd 47 .add 22 1,E 22 47])))))) (O [E 48 5,E 49 0,cg 50 49,E 51 6,bE 52 1 48 50,a1 1 52 51] (O [E 53 5,c8 54 pI 53,E 4 54] .ret)))))))
def aaa:bG:=bV 43 2 [.t 4] (O [cH 4] (O [E 9 0,aB 10 (.lb 173010 1 wH [.t 9]),E 5 10] (O [ba 6 0] (.seq (O [E 11 5,cg 12 11,ba 13 0] (dU 0 (O [bt 14 .lss 13 12] (.seq (de 14 0) (.seq (.block 1 (O [E 15 13,E 7 15] (O [E 16 5,E 17 7,bE 18 1 16 17,aJ 19 1 18,E 20 6,bt 21 .sub 19 20,E 8 21] (.seq (O [E 22 7,E 23 1,cg 24 23,bt 25 .lss 22 24] (fj 25 (.ops [E 26 8,E 27 1,E 28 7,bE 29 1 27 28,aJ 30 1 29,bt 31 .sub 26 30,E 8 31]) .skip)) (O [E 32 8,aB 33 (.bin .shr (.t 32) (.c (.J (.int .u64 20)))),bd 34 .and 33 1,E 6 34] (.ops [E 35 5,E 36 7,E 37 8,bd 38 .and 37 1048575,bE 39 1 35 36,a1 1 39 38])))))) (.ops [bd 40 .add 13 1,E 13 40])))))) (O [E 41 5,c8 42 pI 41,E 4 42] .ret)))))
def aab:bG:=bV 41 2 [.t 4] (O [ba 4 0] (.seq (O [E 6 0,cg 7 6,E 8 1,cg 9 8,bt 10 .neq 7 9] (bQ 10 [E 11 0,cg 12 11,E 13 1,cg 14 13,bK 15 EW 12 14,E 4 15])) (.seq (O [E 16 0,cg 17 16,bd 18 .sub 17 1,E 5 18] (dU 0 (.seq (O [E 19 5,bd 20 .geq 19 0] (de 20 0)) (.seq (.block 1 (e3 [E 23 0,E 24 5,bE 25 1 23 24,aJ 26 1 25,E 27 1,E 28 5,bE 29 1 27 28,aJ 30 1 29,bt 31 .neq 26 30] Te (fj 31 (e3 [E 32 0,E 33 5,bE 34 1 32 33,aJ 35 1 34,E 36 1,E 37 5,bE 38 1 36 37,aJ 39 1 38,bK 40 EW 35 39,E 4 40] IW .ret) .skip))) (.ops [E 21 5,bd 22 .sub 21 1,E 5 22]))))) (O [ba 4 0] .ret))))
def aac:bG:=bV 38 2 [.t 4,.t 5] (O [cH 4,ba 5 0] (O [E 9 0,cg 10 9,aB 11 (.la 176011 [bn 0] 8 (.t 10) (.t 10)),E 6 11] (O [ba 7 0] (.seq (O [E 12 0,cg 13 12,bd 14 .sub 13 1,E 8 14] (dU 0 (.seq (O [E 15 8,bd 16 .geq 15 0] (de 16 0)) (.seq (.block 1 (O [E 19 7,aB 20 (.bin .shl (.t 19) (.c (.J (.int .u64 20)))),E 21 0,E 22 8,bE 23 1 21 22,aJ 24 1 23,bt 25 .or 20 24,E 7 25] (O [E 26 6,E 27 8,E 28 7,E 29 1,bt 30 .quo 28 29,bE 31 1 26 27,a1 1 31 30] (.ops [E 32 7,E 33 1,bt 34 .rem 32 33,E 7 34])))) (.ops [E 17 8,bd 18 .sub 17 1,E 8 18]))))) (.seq (.ghost (.freeze 6) (.ops [E 35 6,c8 36 pI 35,E 37 7,E 4 36,E 5 37])) .ret)))))
def E5:bG:=bV 21 1 [.t 2] (O [cH 2] (O [E 4 0,cg 5 4,E 3 5] (.seq (dU 0 (.seq (O [E 6 3,bd 7 .gtr 6 0,E 8 7,ev 9 8 0,ev 10 8 3,kj 11 8 .sub 10 1,rn 12 8 1 9 11,iz 13 8 1 12,kj 14 8 .eql 13 0,fF 15 8 14] (de 15 0)) (.block 1 (.ops [E 16 3,bd 17 .sub 16 1,E 3 17])))) (O [E 18 0,E 19 3,aB 20 (.q1 1 (.t 18) none (some (.t 19)) none),E 2 20] .ret))))
def NA:bG:=bV 78 3 [.t 6] (O [ba 6 0] (O [ba 7 0] (.seq (O [E 12 0,cg 13 12,ba 14 0] (dU 0 (O [bt 15 .lss 14 13] (.seq (de 15 0) (.seq (.block 1 (O [E 16 14,E 8 16] (O [E 17 0,E 18 8,bE 19 1 17 18,aJ 20 1 19,E 21 7,bt 22 .sub 20 21,E 9 22] (.seq (O [E 23 8,E 24 1,cg 25 24,bt 26 .lss 23 25] (fj 26 (.ops [E 27 9,E 28 2,E 29 1,E 30 8,bE 31 1 29 30,aJ 32 1 31,bt 33 .mul 28 32,bt 34 .sub 27 33,E 9 34]) .skip)) (O [E 35 0,E 36 8,E 37 9,bd 38 .and 37 1048575,bE 39 1 35 36,a1 1 39 38] (.ops [E 40 9,aB 41 (.bin .shr (.t 40) (.c (.J (.int .u64 20)))),aB 42 (.un .neg (.t 41)),E 7 42])))))) (.ops [bd 43 .add 14 1,E 14 43])))))) (.seq (O [E 44 7,bd 45 .eql 44 0] (bQ 45 [E 46 2,E 6 46])) (O [ba 10 0] (.seq (O [E 47 0,cg 48 47,ba 49 0] (dU 2 (O [bt 50 .lss 49 48] (.seq (de 50 2) (.seq (.block 3 (O [E 51 49,E 11 51] (O [E 52 10,E 53 0,E 54 11,bE 55 1 53 54,aJ 56 1 55,bt 57 .add 52 56,E 10 57] (.seq (O [E 58 11,E 59 1,cg 60 59,bt 61 .lss 58 60] (fj 61 (.ops [E 62 10,E 63 1,E 64 11,bE 65 1 63 64,aJ 66 1 65,bt 67 .add 62 66,E 10 67]) .skip)) (O [E 68 0,E 69 11,E 70 10,bd 71 .and 70 1048575,bE 72 1 68 69,a1 1 72 71] (.ops [E 73 10,aB 74 (.bin .shr (.t 73) (.c (.J (.int .u64 20)))),E 10 74])))))) (.ops [bd 75 .add 49 1,E 49 75])))))) (O [E 76 2,bd 77 .sub 76 1,E 6 77] .ret)))))))
def aad:bG:=bV 20 2 [.t 4] (O [ba 4 0] (O [E 7 0,c8 8 Nq 7,E 5 8] (O [E 9 1,c8 10 Nq 9,E 6 10] (.seq (O [E 11 5] (fj 11 (.seq (O [E 12 6] (bQ 12 [ba 4 0])) (O [aB 4 (.iu (.c (.J (.int .i64 (-1)))))] .ret)) .skip)) (.seq (O [E 13 6] (bQ 13 [ba 4 1])) (.seq (O [E 14 0,E 15 1,bt 16 .lss 14 15] (bQ 16 [aB 4 (.iu (.c (.J (.int .i64 (-1)))))])) (.seq (O [E 17 0,E 18 1,bt 19 .gtr 17 18] (bQ 19 [ba 4 1])) (O [ba 4 0] .ret))))))))
def aae:bG:=bV 18 1 [.t 2] (O [ba 2 0] (O [ba 3 0] (.seq (O [E 6 0,cg 7 6,ba 8 0] (dU 0 (O [bt 9 .lss 8 7] (.seq (de 9 0) (.seq (.block 1 (O [bE 10 1 6 8,aJ 11 1 10,E 5 11] (O [E 12 5,E 13 3,bt 14 .neq 12 13] (bQ 14 [E 15 5,E 2 15])))) (.ops [bd 16 .add 8 1,E 8 16])))))) (O [E 17 3,E 2 17] .ret))))
def aaf:bG:=bV 6 1 [.t 2] (O [bY 2 false] (O [E 3 0,E 4 0,bt 5 .neq 3 4,E 2 5] .ret))
def aag:bG:=bV 9 2 [.t 4] (O [bY 4 false] (O [E 5 0,E 6 1,bK 7 SD 5 6,bd 8 .geq 7 0,E 4 8] .ret))
def aah:bG:=bV 9 2 [.t 4] (O [bY 4 false] (O [E 5 0,E 6 1,bK 7 SE 5 6,bd 8 .geq 7 0,E 4 8] .ret))
def aai:bG:=bV 48 2 [.t 4] (O [cH 4] (.seq (O [E 9 1,bd 10 .lss 9 0] (fj 10 (.ops [aB 11 (.DY 9 (.c (.J (.str [99,97,110,110,111,116,32,98,101,32,110,101,103,97,116,105,118,101])))),⟨none,none,.bad⟩]) .skip)) (O [E 13 0,cg 14 13,aB 15 (.conv .u64 (.t 14)),E 16 1,aB 17 (.conv .u64 (.t 16)),bK 18 SG 15 17,E 12 18,aP 19 0 12,aP 20 1 12,E 5 19,E 6 20] (.seq (O [E 21 5,aB 22 (.bin .gtr (.t 21) (.c (.J (.int .u64 0)))),E 23 22,dK 24 23 6,fs 25 23 (.bin .gtr (.t 24) (.c (.J (.int .u64 9223372036854775807)))),cF 26 23 25] (fj 26 (.ops [aB 27 (.DY 9 (.c (.J (.str [116,104,101,32,114,101,115,117,108,116,32,111,102,32,40,108,101,110,40,120,41,32,42,32,99,111,117,110,116,41,32,111,118,101,114,102,108,111,119,115])))),⟨none,none,.bad⟩]) .skip)) (O [E 28 6,aB 29 (.conv .i64 (.t 28)),aB 30 (.la 131030 cM 64 (.t 29) (.t 29)),E 7 30] (O [E 31 7,E 32 0,aB 33 (.q2 4 (.t 31) (.t 32)),E 8 33] (.seq (dU 0 (.seq (O [E 34 8,E 35 7,cg 36 35,bt 37 .lss 34 36] (de 37 0)) (.block 1 (.mN [E 38 8,E 39 7,E 40 8,aB 41 (.q1 4 (.t 39) (some (.t 40)) none none),E 42 7,E 43 8,aB 44 (.q1 4 (.t 42) none (some (.t 43)) none),aB 45 (.q2 4 (.t 41) (.t 44)),bt 46 .add 38 45,E 8 46] IW)))) (O [E 47 7,E 4 47] .ret))))))))
def aaj:bG:=bV 19 2 [.t 4] (O [ba 4 0] (.seq (O [E 6 0,cg 7 6,ba 8 0] (dU 0 (O [bt 9 .lss 8 7] (.seq (de 9 0) (.seq (.block 1 (O [E 10 8,E 5 10] (O [E 11 1,E 12 0,E 13 5,bE 14 5 12 13,aD 15 5 14,aB 16 (.jN (.t 11) [.t 15])] (bQ 16 [E 17 5,E 4 17])))) (.ops [bd 18 .add 8 1,E 8 18])))))) (O [aB 4 (.iu (.c (.J (.int .i64 (-1)))))] .ret)))
def IZ:bG:=bV 19 2 [.t 4] (O [ba 4 0] (.seq (O [E 6 0,cg 7 6,ba 8 0] (dU 0 (O [bt 9 .lss 8 7] (.seq (de 9 0) (.seq (.block 1 (O [E 10 8,E 5 10] (O [E 11 1,E 12 0,E 13 5,bE 14 4 12 13,aD 15 4 14,aB 16 (.jN (.t 11) [.t 15])] (bQ 16 [E 17 5,E 4 17])))) (.ops [bd 18 .add 8 1,E 8 18])))))) (O [aB 4 (.iu (.c (.J (.int .i64 (-1)))))] .ret)))
def aak:bG:=bV 8 1 [.t 2] (O [cH 2] (.seq (O [E 3 0,aB 4 (.lR false (.t 3))] (bQ 4 [cH 2])) (O [aB 5 (.dN 147005 true [] 4 0 []),E 6 0,aB 7 (.app 147007 cM 64 (.t 5) (.t 6)),E 2 7] .ret)))
def aal:bG:=bV 8 1 [.t 2] (O [cH 2] (.seq (O [E 3 0,aB 4 (.lR false (.t 3))] (bQ 4 [cH 2])) (O [aB 5 (.dN 156005 true [] 1 0 []),E 6 0,aB 7 (.app 156007 [bn 0] 8 (.t 5) (.t 6)),E 2 7] .ret)))
def aam:bG:=bV 9 2 [.t 4] (O [bY 4 false] (O [E 5 0,E 6 1,bK 7 Tb 5 6,bd 8 .geq 7 0,E 4 8] .ret))
def aan:bG:=bV 19 2 [.t 4] (O [ba 4 0] (.seq (O [E 6 0,cg 7 6,ba 8 0] (dU 0 (O [bt 9 .lss 8 7] (.seq (de 9 0) (.seq (.block 1 (O [E 10 8,E 5 10] (O [E 11 1,E 12 0,E 13 5,bE 14 6 12 13,aD 15 6 14,aB 16 (.jN (.t 11) [.t 15])] (bQ 16 [E 17 5,E 4 17])))) (.ops [bd 18 .add 8 1,E 8 18])))))) (O [aB 4 (.iu (.c (.J (.int .i64 (-1)))))] .ret)))
def Tf (l:List Int)(n:Nat)(aC:n<D l)(h:l[n]=0):fP (l.take (n+1))=fP (l.take n):=by
 rw[ho,bf aC,h];exact ZL _
def Tg (l:List Int)(n:Nat)(aC:n<D l)(h:l[n]≠0):fP (l.take (n+1))=l.take (n+1):=by
 rw[ho,bf aC];exact ZM _ h
abbrev wJ:List Int->List Data:=λ(l:List Int)=>[.ar (l.map aI)]
def wK:=bI wJ λ(l:List Int)=>ca (D l<=1000000) (.same (.ar ((fP l).map aI)))
def NB:∀a b,wJ a=wJ b->a=b:=by
  intro hZ Z h;exact map_inj fX _ _ (by simpa using h)
@[go_sem] def NC (l):=cl wK rfl NB l rfl
def alL (T:bj):WF T E5 wK:=by
 refine b7 λl=>cq λY=>⟨rfl,b6 ?_⟩;simp only[E5,wJ,bX];have kT:((l.map aI).all λe=>D e==1)=true:=by simp[aI]
 refine ah ?_;repeat' (intro h<;>simp only[h,go_sem,go_sem_proc,aj]<;>try refine ae ?_ ?_)
 refine cX [0] [] (λ(n:Nat) tm mem=>n<=D l/\fP l=fP (l.take n)/\tm 3=.J (.int .i64 n)) (λn=>n) (D l) (by refine⟨c9 _,by simp,by simp[go_sem]⟩) ?_;intro vs ms aK aF;simp only[go_sem,go_sem_proc,aj] at aK aF;subst aK aF;rintro n tm mem R-⟨aC,bN,ad⟩;simp only[go_sem,go_sem_proc,bl] at R;have au:=R;rcases n with _|n
 ·refine ah ?_;repeat' (intro h<;>simp only[h,go_sem,go_sem_proc,au,ad,kT,oe,oV,show ¬ ((0:Int)>0) by omega,decide_false,aj,show (0:Int).toNat=0 from rfl,show (0:Int)<=0 by omega,dG,M8,bP]<;>try refine ae ?_ ?_)
  rw[bN];simp[fP]
 ·have hw:IntKind.i64.wrap (((n+1:Nat):Int)-1)=(n:Int):=by rw[fK _];omega
  have L:l[n]?=some l[n]:=bf (by omega);have h3:((n+1:Nat):Int)>0:=by omega
  have hle:n+1<=D l:=aC
  by_cases a2:l[n]=0
  ·refine ah ?_;repeat' (intro h<;>simp only[h,go_sem,go_sem_proc,au,ad,hw,L,a2,h3,aj,bg,decide_true,aI,beq_self_eq_true,bl]<;>try refine ae ?_ ?_)
   exact⟨n,by omega,by omega,by rw[bN,Tf l n (by omega) a2],rfl⟩
  ·have lW:(l[n]==0)=false:=by simpa using a2
   refine ah ?_;repeat' (intro h<;>simp only[h,go_sem,go_sem_proc,au,ad,hw,L,lW,h3,kT,hle,aI,aj,bg,decide_true,bl,show (0:Int)<=((n+1:Nat):Int) by omega,lX,dG]<;>try refine ae ?_ ?_)
   rw[bN,Tg l n (by omega) a2,List.map_take]
structure aao where
 l:List Int
 k:Key
 g:Nat
def tM:List I->Mem->Option (I×Mem):=EJ (λ(a:aao) args mem=>args=[.ref a.k a.g 1 0 (D a.l)]/\mem a.k=some (a.g,aS aI a.l)/\D a.l<=1000000) (λa mem=>(.ref a.k a.g 1 0 (fP a.l).length,mem))
def Th {α:Type}{enc:α->List Data}{sz:Nat}(h:∀a,(enc a).length=sz)(ab:∀a b,enc a=enc b->a=b):∀(l mR:List α),aS enc l=aS enc mR->0<sz->l=mR:=by
 intro l
 induction l with
 |nil =>
  intro mR e a2
  cases mR with
  |nil=>rfl
  |cons b r =>
   have:=congrArg D e;rw[jU h,jU h] at this;simp only[mV,lQ,Nh,pw] at this;omega
 |cons a r a4 =>
  intro mR e a2
  cases mR with
  |nil =>
   have:=congrArg D e;rw[jU h,jU h] at this;simp only[mV,lQ,Nh,pw] at this;omega
  |cons b xL =>
   rw[u6,u6] at e;have ag:((enc a).map I.J).length=((enc b).map I.J).length:=by simp[h]
   obtain⟨aQ,az⟩:=Ti e ag;have eT:=map_inj (λx y (e:I.J x=I.J y)=>by cases e;rfl) _ _ aQ;rw[ab _ _ eT,a4 xL az a2]
def Tj (l:List Int)(k g:Nat)(mem:Mem)(h:mem k=some (g,aS aI l))(ag:(D l)<=1000000):tM [.ref k g 1 0 (D l)] mem=some (.ref k g 1 0 (fP l).length,mem):=by
 unfold tM;refine ZK (a:=(⟨l,k,g⟩:aao)) ?_ ⟨rfl,h,ag⟩;rintro a b args mem ⟨F,G,_⟩ ⟨ad,aZ,_⟩;rw[F] at ad;simp only[bl,I.ref.injEq,true_and,and_true] at ad;obtain⟨I0,ND,_⟩:=ad;rw[I0,aZ] at G;simp only[bO,eM] at G;have:=Th jA fX _ _ G.2 (by omega);rw[I0,ND,this]
@[go_sem] def azn (d:Data)(mem:Mem):tM [.J d] mem=none:=by
 cases L:tM [.J d] mem with
 |none=>rfl
 |some x =>
  unfold tM at L;obtain⟨a,⟨h,_⟩,_⟩:=Ss L
  cases h
def alM (T:bj)(l:List Int)(k g:Nat)(mem:Mem)(hm:mem k=some (g,aS aI l))(Y:(D l)<=1000000):
  wp T E5.body (EI E5.res (.ref k g 1 0 (fP l).length) mem) ⟨ke [.ref k g 1 0 (D l)],mem⟩:=by
 refine xY ?_;simp only[E5];refine ah ?_;repeat' (intro h<;>simp only[h,go_sem,go_sem_proc,hm]<;>try refine ae ?_ ?_)
 refine cX [0] [] (λ(n:Nat) tm mem'=>n<=D l/\fP l=fP (l.take n)/\tm 3=.J (.int .i64 n)/\mem'=mem) (λn=>n) (D l) (by refine⟨c9 _,by simp,by simp[go_sem],rfl⟩) ?_;intro vs ms aK aF;simp only[go_sem,go_sem_proc] at aK aF;subst aK aF;rintro n tm _ R-⟨aC,bN,ad,rfl⟩;simp only[go_sem,go_sem_proc,bl] at R;have au:=R;rcases n with _|n
 ·refine ah ?_;repeat' (intro h<;>simp only[h,go_sem,go_sem_proc,au,ad,hm,oe,oV,show ¬ ((0:Int)>0) by omega,decide_false,show (0:Int).toNat=0 from rfl,show (0:Int)<=0 by omega,dG]<;>try refine ae ?_ ?_)
  rw[bN];simp[fP]
 ·have hw:IntKind.i64.wrap (((n+1:Nat):Int)-1)=(n:Int):=by rw[fK _];omega
  have L:l[n]?=some l[n]:=bf (by omega);have h3:((n+1:Nat):Int)>0:=by omega
  have hle:n+1<=D l:=aC;have aq:n<D l:=aC;have ra:=EF jA L (f:=0) (n:=1) (by omega);have eb:=jU jA l;rw[dM] at eb;have aap:n+1<=(aS aI l).length:=by omega
  have aaq:mZ 1 (nL n (aS aI l))=[.J (.int .i64 l[n])]:=by
   unfold cut at ra;rw[dM,lo,aL (by omega)] at ra
   simpa [aI] using ra
  by_cases a2:l[n]=0
  ·refine ah ?_;repeat' (intro h<;>simp only[h,go_sem,go_sem_proc,au,ad,hm,hw,aq,aap,aaq,a2,h3,decide_true,dM,beq_self_eq_true]<;>try refine ae ?_ ?_)
   exact⟨n,by omega,by omega,by rw[bN,Tf l n (by omega) a2],rfl⟩
  ·have lW:(l[n]==0)=false:=by simpa using a2
   refine ah ?_;repeat' (intro h<;>simp only[h,go_sem,go_sem_proc,au,ad,hm,hw,aq,aap,aaq,lW,h3,hle,decide_true,dM,show (0:Int)<=((n+1:Nat):Int) by omega,lX,dG,Nat.sub_zero]<;>try refine ae ?_ ?_)
   rw[bN,Tg l n (by omega) a2];simp;omega
abbrev tN:Int->List Data:=λ(n:Int)=>[.int .i64 n]
def NF:=bI tN λ(n:Int)=>some (.same (.bool false))
def I1:∀a b,tN a=tN b->a=b:=by
  intro rb re h;simp only[bl,Data.int.injEq,Data.agg.injEq,Data.ar.injEq,Data.bool.injEq,Data.str.injEq,Data.ptr.injEq,Data.dq.injEq,eM,true_and,and_true] at h ⊢
  first|exact h|simpa [I2,and_assoc] using h|grind
@[go_sem] def azo (n):=sm NF rfl I1 n rfl
def alN (T:bj):WF T aaf NF:=by
 refine b7 λn=>⟨rfl,b6 ?_⟩;simp only[aaf,tN,bX];refine ah ?_;repeat' (intro h<;>simp only[h,go_sem,go_sem_proc,beq_self_eq_true]<;>try refine ae ?_ ?_)
def gd (a b:Int):Int:=if decide (a<b)=true then -1 else if decide (a>b)=true then 1 else 0
abbrev wL:Int×Int->List Data:=λ(a,b)=>[.int .i64 a,.int .i64 b]
def I3:=bI wL λ(a,b)=>some (.same (.int .i64 (gd a b)))
def NG:∀a b,wL a=wL b->a=b:=by
  rintro⟨dx,bT⟩ ⟨dW,cB⟩ h;simp only[bl,Data.int.injEq,Data.agg.injEq,Data.ar.injEq,Data.bool.injEq,Data.str.injEq,Data.ptr.injEq,Data.dq.injEq,eM,true_and,and_true] at h ⊢
  first|exact h|simpa [I2,and_assoc] using h|grind
@[go_sem] def azp (a b):=sm I3 rfl NG (a,b) rfl
def alO (T:bj)(alP:T Nq=aG NF):WF T aad I3:=by
 refine b7 λ(a,b)=>⟨rfl,b6 ?_⟩;simp only[aad,wL,bX];refine ah ?_;repeat' (intro h<;>simp only[h,go_sem,go_sem_proc,alP]<;>try refine ae ?_ ?_)
 all_goals simp only[gd, *,reduceIte,c2,dc,tD,qz,tE,pE,pF,e0,iZ,eO,cE,beq_self_eq_true,bne]
def yt:List Int->Int
 | []=>0
 |d::r=>if (d==0)=true then yt r else d
def NH:=bI wJ λ(l:List Int)=>ca (D l<=1000000) (.same (.int .i64 (yt l)))
@[go_sem] def alQ (l):=cl NH rfl NB l rfl
def alR (T:bj):WF T aae NH:=by
 refine b7 λl=>cq λY=>⟨rfl,b6 ?_⟩;simp only[aae,wJ,bX];simp only[go_sem,go_sem_proc,aj];repeat' (first|refine ae ?_ ?_|fail)<;>intro h<;>simp only[h,go_sem,go_sem_proc,aj]
 refine cX [3,6,7] [] (λi tm mem=>0<=i/\i<=(D l:Int)/\yt l=yt (l.drop i.toNat)/\tm 8=.J (.int .i64 i)) (λi=>(D l-i).toNat) 0 (by refine⟨by omega,by omega,by simp,by simp[go_sem]⟩) ?_;intro vs ms aK aF;simp only[go_sem,go_sem_proc] at aK aF;subst aK aF;rintro i tm mem R-⟨wM,ab,al,cd⟩;simp only[go_sem,go_sem_proc,bl] at R;obtain⟨ad,bA,bM⟩:=R;rcases du (i<D l) with aq|bD
 ·obtain⟨x,L,af,-⟩:=Zz l i wM aq;simp only[go_sem,go_sem_proc,ad,bA,bM,cd,L,aq,wM,aI,aj,bg,decide_true,bl];repeat' (first|refine ae ?_ ?_|fail)<;>intro h<;>simp only[h,go_sem,go_sem_proc,ad,bA,bM,cd,L,aq,wM,aI,aj,bg,decide_true,bl]
  ·rw[al,af];simp[yt,h]
  ·exact⟨i+1,by omega,by omega,by omega,by rw[al,af];simp only[yt, *,reduceIte,c2,dc,tD,qz,tE,pE,pF,e0,iZ,eO,cE,beq_self_eq_true,bne],by rw[fK _]⟩
 ·have he:l.drop i.toNat=[]:=lj (by omega);simp only[go_sem,go_sem_proc,ad,bA,bM,cd,bD,decide_false];repeat' (first|refine ae ?_ ?_|fail)<;>intro h<;>simp only[h,go_sem,go_sem_proc,ad,bA,bM,cd,bD,decide_false]
  rw[al,he];rfl
def Tk (l:List Int):((l.map aI).all λe=>D e==1)=true:=by simp[aI]
def Ab:=bI wJ λ(l:List Int)=>ca (D l<=1000000) (.own 1 (l.map aI))
@[go_sem] def alS (l):=cl Ab rfl NB l rfl
def alT (T:bj):WF T aal Ab:=by
 refine b7 λl=>cq λY=>⟨rfl,b6 ?_⟩;simp only[aal,wJ,bX]
 have c1:lf 156005 0 1 0 8 (D l) ((l.map aI).flatten.map .J) (some (0,[]))=some (.ref 156005 1 1 0 (D l),some (156005,1,aS aI l)):=by
  have:=z1 jA wG 156005 0 8 [] l (by simp;omega) (by simp;omega)
  simpa [aS] using this
 have hlen:(aS aI l).length=D l:=by rw[jU jA];omega
 refine ah ?_;repeat' (intro h<;>simp only[h,go_sem,go_sem_proc,Tk,c1,aj]<;>try refine ae ?_ ?_)
 rintro b U
 cases b
 ·refine ah ?_;repeat' (intro h<;>simp only[h,go_sem,go_sem_proc,Tk,c1,aj,qy,dM,hlen]<;>try refine ae ?_ ?_)
  rw[aL (by omega),dF (by omega)];unfold aS;rw[z2 _ λd=>rfl];have:=z3 (sz:=1) (l.map aI) (by simp[aI]);rw[aj] at this;simp[this]
 ·cases l with
  |nil =>
       refine ah ?_;repeat' (intro h<;>simp only[h,go_sem,go_sem_proc,qy,bP]<;>try refine ae ?_ ?_)
  |cons x r=>simp at U
abbrev Raw:=Int×List Int
def b5 (a:Raw):List Data:=[.int .i64 a.1,.ar (a.2.map aI)]
def nm (d:Int):Bool:=!decide (d<0) && !decide (d>1048575)
def cK (a:Raw):Bool:=a.2.all nm&&(if (a.2.length==0)=true then a.1==0 else ((a.1==1||a.1 == -1)&&decide (a.2.length<=60)&&(a.2.getLast? != some 0)))
abbrev pJ:Int×(List Int)->List Data:=λ(s,l)=>[.agg [.int .i64 s,.ar (l.map aI)]]
def tO:=bI pJ λ(s,l)=>ca (D l<=1000000) (.same (.bool (cK (s,l))))
def Cb:∀a b,pJ a=pJ b->a=b:=by
  rintro⟨s1,hZ⟩ ⟨s2,Z⟩ h;simp only[bl,Data.agg.injEq,Data.int.injEq,Data.ar.injEq] at h;exact cz h.1.1.2 (map_inj fX _ _ h.1.2.1)
@[go_sem] def azq (s l):=cl tO rfl Cb (s,l) rfl
def alU (T:bj):WF T ZW tO:=by
 refine b7 λ(s,l)=>cq λY=>⟨rfl,b6 ?_⟩;simp only[ZW,pJ,bX];refine ah ?_;repeat' (intro h<;>simp only[h,go_sem,go_sem_proc,aj]<;>try refine ae ?_ ?_)
 refine cX [1,3,10,11] [136001] (λi tm mem=>0<=i/\i<=(D l:Int)/\l.all nm=(l.drop i.toNat).all nm/\tm 12=.J (.int .i64 i)) (λi=>(D l-i).toNat) 0 (by refine⟨by omega,by omega,by simp,by simp[go_sem]⟩) ?_;intro vs ms aK aF;simp only[go_sem,go_sem_proc,aj] at aK aF;subst aK aF;rintro i tm mem R hm ⟨wM,ab,al,eI⟩;simp only[go_sem,go_sem_proc,bl] at R hm;obtain⟨F,ad,dz,dX⟩:=R;rcases du (i<D l) with aq|bD
 ·obtain⟨x,L,af,-⟩:=Zz l i wM aq
  have lY:∀b,nm x=true->b=(l.drop (i+1).toNat).all nm->l.all nm=b:=by
   intro b F G;rw[al,af,u3,F,G,e0]
  have jW:nm x=false->cK (s,l)=false:=by
   intro F;unfold cK;rw[al,af,u3,F]
   rfl
  refine ah ?_;repeat' (intro h<;>simp only[h,go_sem,go_sem_proc,F,ad,dz,dX,eI,hm,L,aq,wM,aI,aj,bg,decide_true,bl]<;>try refine ae ?_ ?_)
  ·rw[jW (by simp only[nm, *,reduceIte,c2,dc,tD,qz,tE,pE,pF,e0,iZ,eO,cE,beq_self_eq_true,bne])]
  ·exact⟨i+1,by omega,by omega,by omega,by refine lY _ ?_ rfl;simp only[nm, *,reduceIte,c2,dc,tD,qz,tE,pE,pF,e0,iZ,eO,cE,beq_self_eq_true,bne],by rw[fK _]⟩
  ·rw[jW (by simp only[nm, *,reduceIte,c2,dc,tD,qz,tE,pE,pF,e0,iZ,eO,cE,beq_self_eq_true,bne])]
 ·have he:l.drop i.toNat=[]:=lj (by omega);rw[he] at al;have cZ:l.all nm=true:=by rw[al];rfl
  rcases St l with rfl|⟨r,x,rfl⟩
  ·have alV:¬ i<(0:Int):=by simpa using bD
   refine ah ?_;repeat' (intro h<;>simp only[h,go_sem,go_sem_proc,F,ad,dz,dX,eI,hm,alV,decide_false,mV,oe,oV,beq_self_eq_true]<;>try refine ae ?_ ?_)
   simp[cK]
  ·rw[Su] at *;have bq:(((r++[x]).length:Int)==0)=false:=by simp;omega
   have hw:IntKind.i64.wrap (((r++[x]).length:Int)-1)=(D r:Int):=by
    have br:(r++[x]).length=D r+1:=by simp
    rw[fK _];omega
   have aN:((r++[x]).map aI)[D r]?=some [.int .i64 x]:=by simp[aI]
   have M:cK (s,r++[x])=((s==1||s == -1)&&decide (((r++[x]).length:Int)<=60)&&(x != 0)):=by
    unfold cK;rw[cZ];simp only[List.getLast?_append,List.getLast?_singleton];simp;have aQ:decide (D r<=59)=decide ((D r:Int)+1<=60):=decide_eq_decide.2 (by omega);have az:(some x != some (0:Int))=(x != 0):=by simp[bne]
    rw[aQ,az]
   rw[M];refine ah ?_;repeat' (intro h<;>simp only[h,go_sem,go_sem_proc,F,ad,dz,dX,eI,hm,bD,bq,hw,aN,decide_false,aj]<;>try refine ae ?_ ?_)
   all_goals simp only[*,reduceIte,c2,dc,tD,qz,tE,pE,pF,e0,iZ,eO,cE,beq_self_eq_true,bne]
def jX (s:Int)(l:List Int):Raw:=if (((fP l).length:Int)==0)=true then (0,[]) else (s,fP l)
abbrev E6:Int×(List Int)->List Data:=λ(s,l)=>[.int .i64 s,.ar (l.map aI)]
def yu:=bI E6 λ(s,l)=>ca (D l<=1000000) (.same (.agg (b5 (jX s l))))
def aar:∀a b,E6 a=E6 b->a=b:=by
  rintro⟨s1,hZ⟩ ⟨s2,Z⟩ h;simp only[bl,Data.int.injEq,Data.ar.injEq] at h;exact cz h.1.2 (map_inj fX _ _ h.2.1)
@[go_sem] def azr (s l):=cl yu rfl aar (s,l) rfl
def alW (T:bj)(fp:T pI=yh wK tM):WF T Z5 yu:=by
 refine b7 λ(s,l)=>cq λY=>⟨rfl,b6 ?_⟩;simp only[Z5,E6,bX];refine ah ?_;repeat' (intro h<;>simp only[h,go_sem,go_sem_proc,fp,Y,aj]<;>try refine ae ?_ ?_)
 all_goals simp only[jX,b5,bP, *,reduceIte,c2,dc,tD,qz,tE,pE,pF,e0,iZ,eO,cE,beq_self_eq_true,bne]
def kZ (l:List Int)(i:Nat)(h:i<D l):a9 (l.take (i+1))=a9 (l.take i)+1048576^i*l[i]:=by
 rw[ho,bf h,BR,gk,n7 (by omega)];simp[a9]
def yv {l:List Int}(h:eP l)(i:Nat):eP (l.take i):=λd af=>h d (Ei af)
def aas {l:List Int}(i:Nat)(ab:i<D l):eP (l.take (i+1))↔eP (l.take i)/\(0<=l[i]/\l[i]<1048576):=by
 rw[ho,bf ab,BQ];simp[BP,eP]
def k0 {l:List Int}(h:eP l)(i:Nat)(ab:i<D l):0<=l[i]/\l[i]<1048576:=h _ (List.getElem_mem ab)
def Cc (o:List Int)(i:Nat)(d:Int):(o.set i d).take i=o.take i:=by
 rw[List.take_set,List.set_eq_of_length_le];rw[gk];omega
def pK (o:List Int):(aS aI o).length=D o:=by rw[jU jA];omega
def I4 (o:List Int)(i:Nat)(h:i<D o):mZ 1 (nL i (aS aI o))=[.J (.int .i64 o[i])]:=by
 have ra:=EF jA (bf h) (f:=0) (n:=1) (by omega);unfold cut at ra;have:=pK o;rw[dM,lo,aL (by omega)] at ra
 simpa [aI] using ra
def wN (o:List Int)(i:Nat)(d:Int)(h:i<D o):mZ i (aS aI o)++[.J (.int .i64 d)]++nL (i+1) (aS aI o)=aS aI (o.set i d):=by
 have:=Nd jA h d;unfold kv at this
 simpa [aI] using this
def E7 (n:Nat):(ch n [I.J (.int .i64 0)]).flatten=aS aI (ch n 0):=by
 induction n with
 |zero=>rfl
 |succ n a4=>rw[qn,qn,mg,u6,a4];rfl
def E8 (n:Nat)(h:n<=1000000000):n<=maxLen:=iG h (by decide)
def aat (l:List Int):(fP l).length<=D l:=by
 induction l with
 |nil=>simp[fP]
 |cons d r a4=>unfold fP;split<;>(try split)<;>simp<;>omega
def alX (l:List Int):l.take (fP l).length=fP l:=by
 induction l with
 |nil=>simp[fP]
 |cons d r a4 =>
  unfold fP
  split
  ·split<;>simp
  ·simp[a4]
def alY (l:List Int):∀n:Nat,(aS aI l).take n=aS aI (l.take n):=by
 induction l with
 |nil=>intro n;simp[aS]
 |cons d r a4=>intro n;cases n with
  |zero=>simp[aS]
  |succ n=>rw[u6,EA,u6,<-a4];rfl
def aau {mem:Mem}{k g n:Nat}{o:List Int}(hm:mem k=some (g,aS aI o))(aC:n<=D o):qy 1 mem (.ref k g 1 0 n)=some ((o.take n).map aI):=by
 unfold qy;dsimp only;rw[hm];simp only[and_self,if_true,dM];rw[pK,aL ⟨trivial,aC⟩,alY];unfold aS;rw[z2 _ λd=>rfl];have:=z3 (sz:=1) ((o.take n).map aI) (by intro e he;rw[h7] at he;obtain⟨x,-,rfl⟩:=he;rfl);rw[aj,gk,n7 aC] at this;simp only[kU,this]
def Tl {mem:Mem}{k g:Nat}{o:List Int}{n:Nat}(hm:mem k=some (g,aS aI o))(af:eP o)(ao:a9 o=n):qy 1 mem (.ref k g 1 0 (fP o).length)=some ((aH n).map aI):=by
 rw[aau hm (aat o),alX,yk af,ao]
 rfl
def dv (n:Nat):Data:=.ar ((aH n).map aI)
def aav {x y:Nat}(h:(aH x).length<(aH y).length):x<y:=by
 have F:=(fY (n:=x) (k:=(aH x).length)).1 (c9 _);have G:=mt (fY (n:=y) (k:=(aH x).length)).2 (by omega);omega
def aaw {a b:List Int}(bc:eP a)(U:eP b)(ag:(D a)=D b)(i:Nat)(ab:i<D a)(af:a.drop (i+1)=b.drop (i+1))(h:a[i]<b[i]):a9 a<a9 b:=by
 rw[Iz a (i+1),Iz b (i+1),af,ag,kZ a i ab,kZ b i (by omega)];have F:=yj (yv bc i);have G:=ob (yv U i);rw[gk,n7 (by omega)] at F;generalize (1048576:Int)^i=p at *
 have ad:p*a[i]+p<=p*b[i]:=by
  have:p*(a[i]+1)<=p*b[i]:=tP (by omega) (by have:=ob (yv bc i);omega);rw[h9,qB] at this;exact this
 omega
abbrev mv:Nat×Nat->List Data:=λ(x,y)=>[dv x,dv y]
def E9:=bI mv λ(x,y)=>ca ((aH x).length<=1000000/\(aH y).length<=1000000) (.same (.int .i64 (gd x y)))
def wO:∀a b,mv a=mv b->a=b:=by
  rintro⟨dA,og⟩ ⟨dJ,qC⟩ h;simp only[bl,dv,Data.ar.injEq] at h;exact cz (Ix (map_inj fX _ _ h.1)) (Ix (map_inj fX _ _ h.2.1))
@[go_sem] def Tm (x y):=cl E9 rfl wO (x,y) rfl
def alZ (T:bj)(tQ:T EW=aG I3):WF T aab E9:=by
 refine b7 λ(x,y)=>cq λY=>⟨rfl,b6 ?_⟩;simp only[aab,mv,bX];obtain⟨L,ak⟩:=Y;have sx:=mr x;have qD:=mr y;have vc:=lr x;have Cd:=lr y;have Zr:=@aav x y;have lT:=@aav y x
 by_cases ag:(aH x).length=(aH y).length
 ·generalize bc:aH x=a at *;generalize U:aH y=b at *;have Tn:((D a:Int)==(D b:Int))=true:=by simp[ag]
  simp only[go_sem,go_sem_proc,tQ,dv,bc,U,Tn,aj];refine cX [0,1] [] (λ(n:Nat) tm mem=>n<=D a/\a.drop n=b.drop n/\tm 5=.J (.int .i64 ((n:Int)-1))) (λn=>n) (D a) (by refine⟨c9 _,by rw[Sl,ag,Sl],?_⟩;simp only[q3,reduceIte];rw[fK _]) ?_;intro vs ms aK aF;simp only[go_sem,go_sem_proc,tQ,dv,bc,U] at aK aF;subst aK aF;rintro n tm mem R-⟨aC,af,bw⟩;simp only[go_sem,go_sem_proc,tQ,bl] at R;obtain⟨au,F⟩:=R;rcases n with _|n
  ·have e:a=b:=by simpa using af
   have hl:(x:Int)=y:=by rw[<-vc,<-Cd,e]
   refine ah ?_;repeat' (intro (ai:_=_)<;>simp only[ai,go_sem,go_sem_proc,tQ,au,F,bw,oe,oV,show ¬ ((0:Int)-1>=0) by omega,decide_false]<;>try refine ae ?_ ?_)
   rw[hl];simp[gd]
  ·have hw:((n+1:Nat):Int)-1=(n:Int):=by omega
   have pL:a[n]?=some a[n]:=bf (by omega);have tR:b[n]?=some b[n]:=bf (by omega)
   have M:gd a[n] b[n]=gd x y\/a[n]=b[n]:=by
    by_cases F:a[n]<b[n]
    ·left
     have:=aaw sx qD ag n aC af F;simp only[gd];rw[aL (by simpa using F),aL (by simp;omega)]
    ·by_cases G:b[n]<a[n]
     ·left
      have:=aaw qD sx ag.symm n (by omega) af.symm G;simp only[gd];rw[aT (by simp;omega),aL (by simp;omega),aT (by simp;omega),aL (by simp;omega)]
     ·right;omega
   by_cases a2:a[n]=b[n]
   ·refine ah ?_;repeat' (intro (ai:_=_)<;>simp only[ai,go_sem,go_sem_proc,tQ,au,F,bw,hw,pL,tR,a2,aI,show (n:Int)>=0 by omega,decide_true,bg,beq_self_eq_true,bl]<;>try refine ae ?_ ?_)
    exact⟨n,by omega,by omega,by rw[gx (by omega:n<D a),gx (by omega:n<D b),a2,af],by rw[fK _]⟩
   ·have lW:(a[n]==b[n])=false:=by simpa using a2
    refine ah ?_;repeat' (intro (ai:_=_)<;>simp only[ai,go_sem,go_sem_proc,tQ,au,F,bw,hw,pL,tR,lW,aI,show (n:Int)>=0 by omega,decide_true,bg,bl]<;>try refine ae ?_ ?_)
    rw[M.resolve_right a2]
 ·have Tn:(((aH x).length:Int)==((aH y).length:Int))=false:=by simp;omega
  have M:gd (aH x).length (aH y).length=gd x y:=by
   simp only[gd];rcases gY (aH x).length (aH y).length with h|h
   ·have:=Zr h;rw[aL (by simp;omega),aL (by simp;omega)]
   ·have:=lT (by omega);rw[aT (by simp;omega),aL (by simp;omega),aT (by simp;omega),aL (by simp;omega)]
  refine ah ?_;repeat' (intro (ai:_=_)<;>simp only[ai,go_sem,go_sem_proc,tQ,dv,Tn,M,aj]<;>try refine ae ?_ ?_)
def aax (p vd tw q6 c a b:Int)(h:vd+p*c=tw+q6):vd+p*((c+a+b)%1048576)+p*1048576*((c+a+b)/1048576)=tw+p*a+(q6+p*b):=by
 have F:=Ac (c+a+b) 1048576
 have G:p*((c+a+b)%1048576)+p*1048576*((c+a+b)/1048576)=p*(c+a+b):=by
  rw[ia,<-h9,F]
 have ad:p*(c+a+b)=p*c+p*a+p*b:=by rw[h9,h9]
 omega
def I5:=bI mv λ(x,y)=>ca ((aH x).length<=100000/\(aH y).length<=100000) (.own 1 ((aH (x+y)).map aI))
@[go_sem] def aay (x y):=cl I5 rfl wO (x,y) rfl
def al0 (T:bj)(fp:T pI=yh wK tM):WF T Z9 I5:=by
 refine b7 λ(x,y)=>cq λY=>⟨rfl,b6 ?_⟩;simp only[Z9,mv,bX];obtain⟨L,ak⟩:=Y;simp only[go_sem,go_sem_proc,fp,dv,aj];refine ak2 (λst=>∃a b:List Int,eP a/\eP b/\D a<=100000/\D b<=D a/\a9 a+a9 b=x+y/\st.tm 0=.J (.ar (a.map aI))/\st.tm 1=.J (.ar (b.map aI))/\st.mem 172019=none) (λh=>?_) (λh=>?_) ?_
 ·refine ah ?_;repeat' (intro (ai:_=_)<;>simp only[ai,go_sem,go_sem_proc,fp,dv]<;>try refine ae ?_ ?_)
  refine⟨aH y,aH x,mr y,mr x,ak,?_,by rw[lr,lr];omega,rfl,rfl⟩
  simp at h;omega
 ·refine ah ?_;repeat' (intro (ai:_=_)<;>simp only[ai,go_sem,go_sem_proc,fp,dv]<;>try refine ae ?_ ?_)
  refine⟨aH x,aH y,mr x,mr y,L,?_,by rw[lr,lr],rfl,rfl⟩
  simp at h;omega
 rintro⟨tm,mem⟩ ⟨a,b,To,I6,nj,qE,ao,au,F,hm⟩;dsimp only at au F hm;have m0:IntKind.i64.wrap ((D a:Int)+1)=((D a+1:Nat):Int):=by rw[fK _];rfl
 have kW:8*(D a+1)<=140737488355328:=by omega
 have eF:(D a)+1<=maxLen:=E8 _ (by omega);simp only[go_sem,go_sem_proc,fp,au,F,hm,m0,kW,eF,E7,aj]
 refine cX [0,1,5,20,21] [] (λ(i,c,o) tm mem=>i<=D a/\(o:List Int).length=D a+1/\eP (o.take i)/\0<=c/\c<=1/\a9 (o.take i)+1048576^i*c=a9 (a.take i)+a9 (b.take i)/\tm 22=.J (.int .i64 (i:Nat))/\tm 6=.J (.int .i64 c)/\mem 172019=some (0,aS aI o))
  (λ(i,_)=>D a-i) (0,0,ch (D a+1) 0) (by refine⟨dG _,by simp,by simp[eP],by omega,by omega,by simp[a9],?_,?_,?_⟩<;>rfl) ?_
 intro vs ms aK aF;simp only[go_sem,go_sem_proc,fp,au,F,aj] at aK aF;subst aK aF;rintro⟨i,c,o⟩ tm mem R-⟨ab,a6,gO,nM,iw,jy,Tp,bA,hm⟩;simp only[go_sem,go_sem_proc,fp,bl] at R;obtain⟨au,F,bw,qF,Tq⟩:=R;rcases du (i<D a) with aq|bD
 ·have pL:a[i]?=some a[i]:=bf aq;have zZ:=k0 To i aq;have gp:IntKind.i64.wrap ((i:Int)+1)=((i+1:Nat):Int):=by rw[fK _];rfl
  have sy:i<D o:=by omega
  have k1:i+1<=(aS aI o).length:=by rw[pK];omega
  have mw:IntKind.i64.wrap (c+a[i])=c+a[i]:=wrap64 _ (by omega) (by omega);have iK:=λd=>wN o i d sy
  have fin:∀bi:Int,0<=bi->bi<1048576->a9 (b.take (i+1))=a9 (b.take i)+1048576^i*bi ->
    ∃a3:Nat×Int×List Int,D a-a3.1<D a-i/\a3.1<=D a/\a3.2.2.length=D a+1/\eP (a3.2.2.take a3.1)/\0<=a3.2.1/\a3.2.1<=1/\a9 (a3.2.2.take a3.1)+1048576^a3.1*a3.2.1=a9 (a.take a3.1)+a9 (b.take a3.1) /\
     I.J (Data.int .i64 ((i+1:Nat):Int))=I.J (Data.int .i64 (a3.1:Int))/\I.J (Data.int .i64 ((c+a[i]+bi)/1048576))=I.J (Data.int .i64 a3.2.1)/\some (0,aS aI (o.set i ((c+a[i]+bi)%1048576)))=some (0,aS aI a3.2.2):=by
   intro bi Ad kW Ce;refine⟨(i+1,(c+a[i]+bi)/1048576,o.set i ((c+a[i]+bi)%1048576)),by dsimp only;omega,by dsimp only;omega,by simp[a6],?_,by dsimp only;omega,by dsimp only;omega,?_,rfl,rfl,rfl⟩
   ·dsimp only;rw[aas _ (by simpa using sy),Cc];refine⟨gO,?_⟩;simp only[yw];omega
   ·dsimp only;rw[kZ _ _ (by simpa using sy),Cc,kZ a i aq,Ce,mY];simp only[yw];exact aax _ _ _ _ _ _ _ jy
  rcases du (i<D b) with qG|Tr
  ·have tR:b[i]?=some b[i]:=bf qG;have eJ:=k0 I6 i qG;have nN:IntKind.i64.wrap (c+a[i]+b[i])=c+a[i]+b[i]:=wrap64 _ (by omega) (by omega);have jB:decide ((i:Int)<(D b:Int))=true:=c7;have m1:decide ((i:Int)<(D a:Int))=true:=c7;refine ah ?_;repeat' (intro (ai:_=_)<;>simp only[ai,go_sem,go_sem_proc,fp,au,F,bw,qF,Tq,Tp,bA,hm,pL,tR,gp,mw,nN,jB,m1,aq,k1,iK,ym,u7,aI,dM,aj,bg,bl,show i<D a+1 by omega,show ¬ ((20:Int)<0) by omega]<;>try refine ae ?_ ?_)
   exact fin b[i] eJ.1 eJ.2 (kZ b i qG)
  ·have jB:decide ((i:Int)<(D b:Int))=false:=df;have m1:decide ((i:Int)<(D a:Int))=true:=c7;refine ah ?_;repeat' (intro (ai:_=_)<;>simp only[ai,go_sem,go_sem_proc,fp,au,F,bw,qF,Tq,Tp,bA,hm,pL,gp,mw,jB,m1,aq,k1,iK,ym,u7,aI,dM,aj,bg,bl,show i<D a+1 by omega,show ¬ ((20:Int)<0) by omega]<;>try refine ae ?_ ?_)
   have:=fin 0 (by omega) (by omega) (by rw[dF (by omega),dF (by omega)];simp)
   simpa using this
 ·obtain rfl:i=D a:=by omega
  have m1:decide ((D a:Int)<(D a:Int))=false:=df;have sy:(D a)<D o:=by omega
  have k1:(D a)+1<=(aS aI o).length:=by rw[pK];omega
  have iK:=λd=>wN o (D a) d sy
  have Ts:eP (o.set (D a) c):=by
   have:o.set (D a) c=(o.set (D a) c).take (D a+1):=by rw[dF (by simp[a6])]
   rw[this,aas _ (by simpa using sy),Cc];refine⟨gO,?_⟩;simp only[yw];omega
  have Tt:a9 (o.set (D a) c)=x+y:=by
   have:o.set (D a) c=(o.set (D a) c).take (D a+1):=by rw[dF (by simp[a6])]
   rw[this,kZ _ _ (by simpa using sy),Cc];simp only[yw];rw[jy,dF (c9 _),dF qE,ao]
  have fo:=Tj (o.set (D a) c) 172019 0 (aV mem 172019 0 (aS aI (o.set (D a) c))) (by simp[aV]) (by simp[a6];omega);rw[fk,a6] at fo;have e9:=Tl (mem:=aV mem 172019 0 (aS aI (o.set (D a) c))) (k:=172019) (g:=0) (n:=x+y) (by simp[aV]) Ts (by rw[Tt];rfl);refine ah ?_;repeat' (intro (ai:_=_)<;>simp only[ai,go_sem,go_sem_proc,fp,au,F,bw,qF,Tq,Tp,bA,hm,m1,k1,iK,fo,e9,dM,aj,show (D a)<D a+1 by omega]<;>try refine ae ?_ ?_)
def aaz (n:Int):bits .and .i64 (n/1048576) 1=n/1048576%2:=by
 generalize n/1048576=m;have G:(1:Int)=((2^1-1:Nat):Int):=by decide
 have F:m%18446744073709551616%2=m%2:=by omega
 obtain⟨a,bc⟩:∃a:Nat,(a:Int)=m%18446744073709551616:=⟨(m%18446744073709551616).toNat,by omega⟩
 have e:BitVec.ofInt 64 m=BitVec.ofNat 64 a:=by
  apply BitVec.eq_of_toInt_eq;rw[BitVec.toInt_ofInt,BitVec.toInt_ofNat',bc];simp[ZQ,ZR]
 have az:bits .and .i64 m 1=bits .and .i64 (a:Int) 1:=by
  simp only[bits];rw[show IntKind.i64.bits=64 from rfl,e,BitVec.ofInt_natCast]
 rw[az,<-F,<-bc];have Sv:a<2^64:=by omega
 conv=>lhs;rw[G]
 simp only[bits,BitVec.ofInt_natCast,BitVec.toNat_and,BitVec.toNat_ofNat,show IntKind.i64.bits=64 from rfl,It Sv];rw[show (2^1-1:Nat)%2^64=2^1-1 by decide,ZS,wrap64 _ (by omega) (by omega)]
 omega
def Tu (o:List Int)(j:Nat)(d:Int)(h:j<D o):a9 (o.set j d)=a9 o+1048576^j*(d-o[j]):=by
 induction o generalizing j with
 |nil=>simp at h
 |cons x r a4 =>
  cases j with
  |zero=>simp[a9];omega
  |succ j =>
   simp only[List.set_cons_succ,so,List.getElem_cons_succ,mY];rw[a4 j (by simpa using h),h9,<-ia,nk 1048576 (1048576^j)];omega
def yx {o:List Int}(h:eP o)(j:Nat){d:Int}(af:0<=d/\d<1048576):eP (o.set j d):=by
 intro x L;rcases List.mem_or_eq_of_mem_set L with F|F
 ·exact h x F
 ·rw[F];exact af
def al1 (p vd tw q6 c a b:Int)(h:vd=tw-q6+p*c):vd+p*((a-c-b)%1048576)=tw+p*a-(q6+p*b)-p*1048576*((a-c-b)/1048576):=by
 have F:=Ac (a-c-b) 1048576
 have G:p*((a-c-b)%1048576)+p*1048576*((a-c-b)/1048576)=p*(a-c-b):=by
  rw[ia,<-h9,F]
 have ad:p*(a-c-b)=p*a-p*c-p*b:=by rw[Fa,Fa]
 omega
def I7:=bI mv λ(x,y)=>ca ((aH x).length<=100000/\y<=x) (.own 1 ((aH (x-y)).map aI))
@[go_sem] def Tv (x y):=cl I7 rfl wO (x,y) rfl
def al2 (T:bj)(hK:T wH=aG Ab)(fp:T pI=yh wK tM):WF T aaa I7:=by
 refine b7 λ(x,y)=>cq λY=>⟨rfl,b6 ?_⟩;simp only[aaa,mv,bX];obtain⟨L,aaA⟩:=Y;have sx:=mr x;have qD:=mr y;have vc:=lr x;have Cd:=lr y
 have k2:(aH y).length<=(aH x).length:=by
  rw[fY];exact yy aaA (fY.1 (c9 _))
 generalize bc:aH x=a at *;generalize U:aH y=b at *;have nj:(D a)<=1000000:=by omega
 simp only[go_sem,go_sem_proc,hK,fp,dv,bc,U,nj,aj]
 refine cX [1,5,12] [] (λ(i,c,o) tm mem=>i<=D a/\(o:List Int).length=D a/\eP o/\o.drop i=a.drop i/\(c=0\/c=1)/\a9 (o.take i)=a9 (a.take i)-a9 (b.take i)+1048576^i*c/\tm 13=.J (.int .i64 (i:Nat))/\tm 6=.J (.int .i64 c)/\mem 173010=some (0,aS aI o))
  (λ(i,_)=>D a-i) (0,0,a) (by refine⟨dG _,rfl,sx,rfl,.inl rfl,by simp[a9],?_,?_,?_⟩<;>rfl) ?_
 intro vs ms aK aF;simp only[go_sem,go_sem_proc,hK,fp,dv,bc,U,aj] at aK aF;subst aK aF;rintro⟨i,c,o⟩ tm mem R-⟨ab,a6,gO,tS,al3,jy,jb,bA,hm⟩;simp only[go_sem,go_sem_proc,hK,fp,bl] at R;obtain⟨F,bw,eI⟩:=R;rcases du (i<D a) with aq|bD
 ·have sy:i<D o:=by omega
  have al4:o[i]=a[i]:=by
   have F:=gx sy;have G:=gx aq;rw[tS,G] at F;exact (Cf F).1.symm
  have zZ:=k0 sx i aq;have gp:IntKind.i64.wrap ((i:Int)+1)=((i+1:Nat):Int):=by rw[fK _];rfl
  have k1:i+1<=(aS aI o).length:=by rw[pK];omega
  have nO:=I4 o i sy;rw[al4] at nO;have mw:IntKind.i64.wrap (a[i]-c)=a[i]-c:=wrap64 _ (by omega) (by omega);have iK:=λd=>wN o i d sy
  have fin:∀bi:Int,0<=bi->bi<1048576->a9 (b.take (i+1))=a9 (b.take i)+1048576^i*bi ->
    ∃a3:Nat×Int×List Int,D a-a3.1<D a-i/\a3.1<=D a/\a3.2.2.length=D a/\eP a3.2.2/\a3.2.2.drop a3.1=a.drop a3.1/\(a3.2.1=0\/a3.2.1=1)/\a9 (a3.2.2.take a3.1)=a9 (a.take a3.1)-a9 (b.take a3.1)+1048576^a3.1*a3.2.1 /\
     I.J (Data.int .i64 ((i+1:Nat):Int))=I.J (Data.int .i64 (a3.1:Int))/\I.J (Data.int .i64 ((a[i]-c-bi)/1048576%2))=I.J (Data.int .i64 a3.2.1)/\some (0,aS aI (o.set i ((a[i]-c-bi)%1048576)))=some (0,aS aI a3.2.2):=by
   intro bi Ad kW Ce;have aU:(a[i]-c-bi)/1048576=0\/(a[i]-c-bi)/1048576 = -1:=by omega
   refine⟨(i+1,(a[i]-c-bi)/1048576%2,o.set i ((a[i]-c-bi)%1048576)),by dsimp only;omega,by dsimp only;omega,by simp[a6],yx gO i (by omega),?_,by dsimp only;omega,?_,rfl,rfl,rfl⟩
   ·dsimp only;rw[se (by omega)];have F:=gx sy;have G:=gx aq;rw[tS,G] at F;exact (Cf F).2.symm
   ·dsimp only;rw[kZ _ _ (by simpa using sy),Cc,kZ a i aq,Ce,mY];simp only[yw];rw[al1 _ _ _ _ _ _ _ jy];rcases aU with e|e<;>rw[e]<;>simp
  have m1:decide ((i:Int)<(D a:Int))=true:=c7;rcases du (i<D b) with qG|Tr
  ·have tR:b[i]?=some b[i]:=bf qG;have eJ:=k0 qD i qG;have nN:IntKind.i64.wrap (a[i]-c-b[i])=a[i]-c-b[i]:=wrap64 _ (by omega) (by omega);have jB:decide ((i:Int)<(D b:Int))=true:=c7;refine ah ?_;repeat' (intro h<;>simp only[h,go_sem,go_sem_proc,hK,fp,F,bw,eI,jb,bA,hm,tR,gp,mw,nN,jB,m1,aq,k1,nO,iK,ym,aaz,u7,aI,dM,aj,bg,bl,show ¬ ((20:Int)<0) by omega]<;>try refine ae ?_ ?_)
   exact fin b[i] eJ.1 eJ.2 (kZ b i qG)
  ·have jB:decide ((i:Int)<(D b:Int))=false:=df;refine ah ?_;repeat' (intro h<;>simp only[h,go_sem,go_sem_proc,hK,fp,F,bw,eI,jb,bA,hm,gp,mw,jB,m1,aq,k1,nO,iK,ym,aaz,u7,aI,dM,aj,bg,bl,show ¬ ((20:Int)<0) by omega]<;>try refine ae ?_ ?_)
   have:=fin 0 (by omega) (by omega) (by rw[dF (by omega),dF (by omega)];simp)
   simpa using this
 ·obtain rfl:i=D a:=by omega
  have m1:decide ((D a:Int)<(D a:Int))=false:=df;rw[dF (by omega),dF (by omega),dF (by omega),vc,Cd] at jy
  have Tt:a9 o=((x-y:Nat):Int):=by
   have F:=yj gO;rw[a6] at F;rcases al3 with rfl|rfl
   ·rw[jy];omega
   ·omega
  have fo:=Tj o 173010 0 mem hm (by omega);rw[a6] at fo;have e9:=Tl hm gO Tt;refine ah ?_;repeat' (intro h<;>simp only[h,go_sem,go_sem_proc,hK,fp,F,bw,eI,jb,bA,hm,m1,fo,e9,aj]<;>try refine ae ?_ ?_)
def aaB (p vd V c x y yz:Int)(h:vd+p*c=V):vd+p*((yz+x*y+c)%1048576-yz)+p*1048576*((yz+x*y+c)/1048576)=V+p*(x*y):=by
 have F:=Ac (yz+x*y+c) 1048576
 have G:p*((yz+x*y+c)%1048576)+p*1048576*((yz+x*y+c)/1048576)=p*(yz+x*y+c):=by
  rw[ia,<-h9,F]
 have ad:p*(yz+x*y+c)=p*yz+p*(x*y)+p*c:=by rw[h9,h9]
 rw[Fa];omega
def aaC {o x y c:Int}(a6:0<=o/\o<1048576)(L:0<=x/\x<1048576)(ak:0<=y/\y<1048576)(Y:0<=c/\c<1048576):
  0<=x*y/\x*y<=1099509530625/\0<=(o+x*y+c)/1048576/\(o+x*y+c)/1048576<1048576:=by
 have F:0<=x*y:=sA L.1 ak.1;have G:x*y<=1048575*1048575:=Tw (by omega) (by omega) ak.1 (by omega);omega
def aaD {o:List Int}{n j:Nat}(h:o.drop n=ch (D o-n) 0)(aa:n<=j)(aq:j<D o):o[j]=0:=by
 have F:(o.drop n)[j-n]?=some o[j]:=by rw[oI,show n+(j-n)=j by omega,bf aq]
 rw[h,List.getElem?_replicate] at F
 split at F
 ·exact (mm F).symm
 ·cases F
def aaE {o:List Int}{n:Nat}{d:Int}(h:o.drop n=ch (D o-n) 0)(aq:n<D o):(o.set n d).drop (n+1)=ch ((o.set n d).length-(n+1)) 0:=by
 rw[se (by omega),fk];have F:=gx aq;rw[h,show (D o)-n=(D o-(n+1))+1 by omega,qn] at F
 exact (Cf F).2.symm
def I8:=bI mv λ(x,y)=>ca ((aH x).length<=10000/\(aH y).length<=10000) (.own 1 ((aH (x*y)).map aI))
@[go_sem] def Tx (x y):=cl I8 rfl wO (x,y) rfl
def al5 (T:bj)(fp:T pI=yh wK tM):WF T Z8 I8:=by
 refine b7 λ(x,y)=>cq λY=>⟨rfl,b6 ?_⟩;simp only[Z8,mv,bX];obtain⟨L,ak⟩:=Y;have sx:=mr x;have qD:=mr y;have vc:=lr x;have Cd:=lr y;generalize bc:aH x=a at *;generalize U:aH y=b at *;have m0:IntKind.i64.wrap ((D a:Int)+(D b:Int))=((D a+D b:Nat):Int):=by rw[fK _];rfl
 have kW:8*(D a+D b)<=140737488355328:=by omega
 have eF:(D a)+D b<=maxLen:=E8 _ (by omega);simp only[go_sem,go_sem_proc,fp,dv,bc,U,m0,kW,eF,E7,aj]
 refine cX [1,5,18,19] [] (λ(i,o) tm mem=>i<=D a/\(o:List Int).length=D a+D b/\eP o/\o.drop (i+D b)=ch (D o-(i+D b)) 0/\a9 o=a9 (a.take i)*y/\tm 20=.J (.int .i64 (i:Nat))/\mem 161017=some (0,aS aI o))
  (λ(i,_)=>D a-i) (0,ch (D a+D b) 0) (by
   have a2:∀n,a9 (ch n 0)=0:=by
    intro n
    induction n with
    |zero=>rfl
    |succ n a4=>rw[qn,so,a4];rfl
   refine⟨dG _,by simp,λd af=>by rw[pM] at af;omega,by simp,by rw[a2];simp[a9],?_,?_⟩<;>rfl) ?_
 intro vs ms aK aF;simp only[go_sem,go_sem_proc,fp,dv,bc,U,m0,aj] at aK aF;subst aK aF;rintro⟨i,o⟩ tm mem R-⟨ab,a6,gO,nH,jy,qF,hm⟩;simp only[go_sem,go_sem_proc,fp,bl] at R;obtain⟨F,bw,m2,sB⟩:=R;rcases du (i<D a) with aq|bD
 ·have pL:a[i]?=some a[i]:=bf aq;have zZ:=k0 sx i aq;have qx:=kZ a i aq;generalize a[i]=hL at *;have jB:decide ((i:Int)<(D a:Int))=true:=c7;simp only[go_sem,go_sem_proc,fp,F,bw,m2,sB,qF,pL,jB,aI,aj,bg,bl]
  refine cX [1,5,6,7,18,19,20,25,26] [] (λ((k,c,o):Nat×Int×List Int) tm mem=>k<=D b/\D o=D a+D b/\eP o/\o.drop (i+D b)=ch (D o-(i+D b)) 0/\0<=c/\c<1048576/\a9 o+1048576^(i+k)*c=a9 (a.take i)*y+1048576^i*(hL*a9 (b.take k)) /\
    tm 27=.J (.int .i64 (k:Nat))/\tm 8=.J (.int .i64 c)/\mem 161017=some (0,aS aI o))
   (λ(k,_)=>D b-k) (0,0,o) (by refine⟨dG _,a6,gO,nH,by omega,by omega,by simp[a9,jy],?_,?_,hm⟩<;>rfl) ?_
  intro vs ms aK aF;simp only[go_sem,go_sem_proc,fp,F,bw,m2,sB,qF,aI,aj] at aK aF;subst aK aF;rintro⟨k,c,o⟩ tm mem R-⟨BF,a6,gO,nH,nM,iw,jy,nn,cd,hm⟩;simp only[go_sem,go_sem_proc,fp,bl] at R;obtain⟨F,bw,bA,bM,m2,sB,qF,aaF,aaG⟩:=R;rcases du (k<D b) with I9|I9
  ·have tR:b[k]?=some b[k]:=bf I9;have Fb:=k0 qD k I9;have oW:i+k<D o:=by omega
   have Ty:=k0 gO (i+k) oW;obtain⟨aY,b0,fJ,ft⟩:=aaC Ty zZ Fb ⟨nM,iw⟩;have jB:decide ((k:Int)<(D b:Int))=true:=c7;have gp:IntKind.i64.wrap ((k:Int)+1)=((k+1:Nat):Int):=by rw[fK _];rfl
   have mw:IntKind.i64.wrap ((i:Int)+(k:Int))=((i+k:Nat):Int):=by rw[fK _];rfl
   have nN:IntKind.i64.wrap (hL*b[k])=hL*b[k]:=wrap64 _ (by omega) (by omega);have Fc:IntKind.i64.wrap (o[i+k]+hL*b[k])=o[i+k]+hL*b[k]:=wrap64 _ (by omega) (by omega);have Ae:IntKind.i64.wrap (o[i+k]+hL*b[k]+c)=o[i+k]+hL*b[k]+c:=wrap64 _ (by omega) (by omega);have k1:i+k+1<=(aS aI o).length:=by rw[pK];omega
   have nO:=I4 o (i+k) oW;have iK:=λd=>wN o (i+k) d oW;have hk:i+k<D a+D b:=by omega
   refine ah ?_;repeat' (intro h<;>simp only[h,go_sem,go_sem_proc,fp,F,bw,bA,bM,m2,sB,qF,aaF,aaG,nn,cd,hm,tR,jB,gp,mw,nN,Fc,Ae,hk,k1,nO,iK,ym,u7,aI,dM,aj,bg,bl,show ¬ ((20:Int)<0) by omega]<;>try refine ae ?_ ?_)
   refine⟨(k+1,(o[i+k]+hL*b[k]+c)/1048576,o.set (i+k) ((o[i+k]+hL*b[k]+c)%1048576)),by dsimp only;omega,by dsimp only;omega,by simp[a6],yx gO _ (by omega),?_,fJ,ft,?_,rfl,rfl,rfl⟩
   ·dsimp only;rw[se (by omega),fk,nH]
   ·dsimp only;rw[Tu _ _ _ oW,kZ b k I9,<-r0,mY,aaB _ _ _ _ _ _ _ jy];rw[h9 (hL),h9 (1048576^i),aaH]
    have:(1048576:Int)^i*(hL*(1048576^k*b[k]))=1048576^i*1048576^k*(hL*b[k]):=by
     rw[<-ia (hL),nk (hL) (1048576^k),ia (1048576^k),<-ia]
    omega
  ·obtain rfl:k=D b:=by omega
   have jB:decide ((D b:Int)<(D b:Int))=false:=df;have oW:i+D b<D o:=by omega
   have a2:=aaD nH (c9 _) oW;have gp:IntKind.i64.wrap ((i:Int)+1)=((i+1:Nat):Int):=by rw[fK _];rfl
   have mw:IntKind.i64.wrap ((i:Int)+(D b:Int))=((i+D b:Nat):Int):=by rw[fK _];rfl
   have nN:IntKind.i64.wrap (0+c)=c:=by rw[Tz];exact wrap64 _ (by omega) (by omega)
   have k1:i+D b+1<=(aS aI o).length:=by rw[pK];omega
   have nO:=I4 o (i+D b) oW;rw[a2] at nO;have iK:=λd=>wN o (i+D b) d oW;have hk:i+D b<D a+D b:=by omega
   refine ah ?_;repeat' (intro h<;>simp only[h,go_sem,go_sem_proc,fp,F,bw,bA,bM,m2,sB,qF,aaF,aaG,nn,cd,hm,jB,gp,mw,nN,hk,k1,nO,iK,aI,dM,aj]<;>try refine ae ?_ ?_)
   refine⟨(i+1,o.set (i+D b) c),by dsimp only;omega,by dsimp only;omega,by simp[a6],yx gO _ ⟨nM,iw⟩,?_,?_,rfl,rfl⟩
   ·dsimp only;have:=aaE (d:=c) nH oW;rwa [show i+D b+1=i+1+(D b) by omega] at this
   ·dsimp only;rw[Tu _ _ _ oW,a2,qx];rw[dF (c9 _),Cd] at jy;rw[Af,jy,sC,ia]
 ·obtain rfl:i=D a:=by omega
  have jB:decide ((D a:Int)<(D a:Int))=false:=df;rw[dF (c9 _),vc] at jy;have fo:=Tj o 161017 0 mem hm (by omega);rw[a6] at fo;have e9:=Tl hm gO (n:=x*y) (by rw[jy];rfl);refine ah ?_;repeat' (intro h<;>simp only[h,go_sem,go_sem_proc,fp,F,bw,m2,sB,qF,hm,jB,fo,e9,aj]<;>try refine ae ?_ ?_)
abbrev NI:Nat×Int->List Data:=λ(x,d)=>[dv x,.int .i64 d]
def NJ:=bI NI λ(x,d)=>ca ((aH x).length<=100000/\0<d/\d<1048576) (.same (.dq [dv (x/d.toNat),.int .i64 (x%d.toNat:Nat)]))
def al6:∀a b,NI a=NI b->a=b:=by
  rintro⟨dA,d1⟩ ⟨dJ,d2⟩ h;simp only[bl,dv,Data.ar.injEq,Data.int.injEq] at h;exact cz (Ix (map_inj fX _ _ h.1)) h.2.1.2
@[go_sem] def aaI (x d):=cl NJ rfl al6 (x,d) rfl
def al7 (T:bj)(fp:T pI=yh wK tM):WF T aac NJ:=by
 refine b7 λ(x,d)=>cq λY=>⟨rfl,b6 ?_⟩;simp only[aac,NI,bX];obtain⟨L,Fe,jY⟩:=Y;have sx:=mr x;have vc:=lr x;generalize bc:aH x=a at *;have kW:8*D a<=140737488355328:=by omega
 have eF:(D a)<=maxLen:=E8 _ (by omega);have kH:(d=0)=False:=by simp;omega
 simp only[go_sem,go_sem_proc,fp,dv,bc,kW,eF,E7,aj]
 refine cX [0,1,6] [] (λ((n,r,o):Nat×Int×List Int) tm mem=>n<=D a/\D o=D a/\eP o/\0<=r/\r<d/\a9 (a.drop n)=d*a9 (o.drop n)+r/\tm 8=.J (.int .i64 ((n:Nat)-1))/\tm 7=.J (.int .i64 r)/\mem 176011=some (0,aS aI o))
  (λ(n,_)=>n) (D a,0,ch (D a) 0) (by
   refine⟨c9 _,by simp,λd af=>by rw[pM] at af;omega,by omega,by omega,by simp[a9],?_,?_,?_⟩
   ·simp only[q3,reduceIte];rw[fK _]
   ·rfl
   ·rfl) ?_
 intro vs ms aK aF;simp only[go_sem,go_sem_proc,fp,dv,bc,aj] at aK aF;subst aK aF;rintro⟨n,r,o⟩ tm mem R-⟨aC,a6,gO,sD,np,ao,cd,bM,hm⟩;simp only[go_sem,go_sem_proc,fp,bl] at R;obtain⟨au,F,bA⟩:=R;rcases n with _|n
 ·have aU:a9 o=(x/d.toNat:Nat)/\r=(x%d.toNat:Nat):=by
   rw[pD,pD,vc] at ao;have e:(d.toNat:Int)=d:=by omega
   constructor
   ·rw[aaJ,e,ao,yA,aaK _ _ (by omega),TA sD np];omega
   ·rw[aaL,e,ao,yA,aaM,TB sD np]
  have dO:=NC o (by omega);rw[yk gO,aU.1] at dO;have gb:I.ref 176011 0 1 0 (D a)=I.ref 176011 0 1 0 (D o):=by rw[a6]
  rw[gb] at bA;refine ah ?_;repeat' (intro h<;>simp only[h,go_sem,go_sem_proc,fp,au,F,bA,bM,cd,hm,dO,sl jA,oe,oV,show ¬ ((0:Int)-1>=0) by omega,decide_false,lX]<;>try refine ae ?_ ?_)
  all_goals rw[aU.2]
 ·have pL:a[n]?=some a[n]:=bf (by omega);have NK:=k0 sx n (by omega);have hw:((n+1:Nat):Int)-1=(n:Int):=by omega
  have h6:n<D o:=by omega
  have gp:IntKind.i64.wrap (r*2^min (BS 20) 64)=r*1048576:=by
   rw[show min (BS 20) 64=20 by decide]
   exact wrap64 _ (by omega) (by omega)
  have tT:bits .or .i64 (r*1048576) a[n]=r*1048576+a[n]:=Sw r a[n] sD (by omega) NK;have lZ:0<=(r*1048576+a[n])/d:=TC (by omega) (by omega)
  have tU:(r*1048576+a[n])/d<1048576:=aaN Fe (by
   have:(r+1)*1048576<=d*1048576:=kI (by omega) (by omega);rw[nk 1048576 d];omega)
  have Ag:(r*1048576+a[n]).tdiv d=(r*1048576+a[n])/d:=Ff (by omega);have TD:(r*1048576+a[n]).tmod d=(r*1048576+a[n])%d:=Ja (by omega);have mw:IntKind.i64.wrap ((r*1048576+a[n])/d)=(r*1048576+a[n])/d:=wrap64 _ (by omega) (by omega);have k1:n+1<=(aS aI o).length:=by rw[pK];omega
  have iK:=λd=>wN o n d h6;have mn:n<D a:=by omega
  have nN:IntKind.i64.wrap ((n:Int)-1)=(n:Int)-1:=wrap64 _ (by omega) (by omega);refine ah ?_;repeat' (intro h<;>simp only[h,go_sem,go_sem_proc,fp,au,F,bA,bM,cd,hm,hw,pL,gp,tT,Ag,TD,mw,nN,kH,mn,k1,iK,show (n:Int)>=0 by omega,decide_true,aI,dM,aj,bg,bl,show ¬ ((20:Int)<0) by omega]<;>try refine ae ?_ ?_)
  refine⟨(n,(r*1048576+a[n])%d,o.set n ((r*1048576+a[n])/d)),by dsimp only;omega,by dsimp only;omega,by simp[a6],yx gO n ⟨lZ,tU⟩,TE _ (by omega),TF _ Fe,?_,rfl,rfl,rfl⟩
  dsimp only;rw[gx (by omega:n<D a),gx (by simpa using h6:n<(o.set n ((r*1048576+a[n])/d)).length),so,so]
  simp only[yw];rw[se (by omega),ao];have:=Ac (r*1048576+a[n]) d;rw[h9,h9,TG d 1048576];omega
def pad:Nat->Nat->List Int
 |0,_=>[]
 |n+1,x=>((x%1048576:Nat):Int)::pad n (x/1048576)
def al8 (n x:Nat):(pad n x).length=n:=by
 induction n generalizing x with
 |zero=>rfl
 |succ n a4=>simp[pad,a4]
def al9 (n x:Nat):eP (pad n x):=by
 induction n generalizing x with
 |zero=>intro d af;cases af
 |succ n a4 =>
  unfold pad;rw[BP];exact⟨by omega,a4 _⟩
def aaO {l:List Int}(h:eP l):l=pad (D l) (a9 l).toNat:=by
 induction l with
 |nil=>rfl
 |cons d r a4 =>
  rw[BP] at h;have F:=ob h.2;have G:=a4 h.2;simp only[lQ,pad,so]
  congr 1
  ·omega
  ·rw[show (d+1048576*a9 r).toNat/1048576=(a9 r).toNat by omega]
   exact G
def ama {n x:Nat}(h:x<1048576^n):a9 (pad n x)=x:=by
 induction n generalizing x with
 |zero=>simp at h;subst h;rfl
 |succ n a4 =>
  unfold pad;rw[so,a4 (by rw[ZP (by omega)];rwa [z5] at h)];omega
def Jb {pre u post:List Int}{i:Nat}(h:i<D u):mZ 1 (nL (D pre+i) (aS aI (pre++u++post)))=[.J (.int .i64 u[i])]:=by
 rw[I4 _ _ (by simp;omega)]
 congr 3
 simp[List.getElem_append,h]
def aaP {pre u post:List Int}{i:Nat}(h:i<D u)(d:Int):mZ (D pre+i) (aS aI (pre++u++post))++[.J (.int .i64 d)]++nL (D pre+i+1) (aS aI (pre++u++post))=aS aI (pre++u.set i d++post):=by
 rw[wN _ _ _ (by simp;omega)]
 congr 1
 rw[ki,List.set_append_right _ _ (by omega),EH,List.set_append_left _ _ h,ki]
def NL (mem:Mem)(k g cx:Nat)(a b:List I):aV (aV mem k g a) k cx b=aV mem k cx b:=by
 funext j
 unfold aV
 split<;>rfl
def amb {mem:Mem}{k g:Nat}{a:List I}(h:mem k=some (g,a)):aV mem k g a=mem:=by
 funext j
 unfold aV
 split
 ·rename_i e;rw[e,h]
 ·rfl
structure Jc where
 pre:List Int
 u:List Int
 post:List Int
 V:Nat
 q:Int
 k:Key
 g:Nat
def NM (u:List Int)(V:Nat)(q:Int):Int:=if a9 u-q*V<0 then a9 u-q*V+V else a9 u-q*V
def Ah (u:List Int)(V:Nat)(q:Int):Int:=if a9 u-q*V<0 then q-1 else q
def Ai (a:Jc):List I:=aS aI (a.pre++pad (D a.u) (NM a.u a.V a.q).toNat++a.post)
def TH (a:Jc)(mem:Mem):Prop:=mem a.k=some (a.g,aS aI (a.pre++a.u++a.post))/\eP a.u/\(aH a.V).length<=D a.u/\0<=a.q/\a.q<1048576/\0<=a9 a.u-a.q*a.V+a.V/\D a.pre+D a.u<=100000
def Jd:List I->Mem->Option (I×Mem):=EJ (λ(a:Jc) args mem=>args=[.ref a.k a.g 1 (D a.pre) (D a.u),.J (dv a.V),.J (.int .i64 a.q)]/\TH a mem)
 (λa mem=>(.J (.int .i64 (Ah a.u a.V a.q)),aV mem a.k a.g (Ai a)))
def amc {a b:Nat}(h:dv a=dv b):a=b:=Ix (map_inj fX _ _ (by simpa [dv] using h))
def amd (a:Jc)(mem:Mem)(h:TH a mem):Jd [.ref a.k a.g 1 (D a.pre) (D a.u),.J (dv a.V),.J (.int .i64 a.q)] mem=some (.J (.int .i64 (Ah a.u a.V a.q)),aV mem a.k a.g (Ai a)):=by
 unfold Jd;refine ZK (a:=a) ?_ ⟨rfl,h⟩;rintro a b args mem ⟨F,G,_⟩ ⟨ad,aZ,_⟩;rw[F] at ad;simp only[bl,I.ref.injEq,I.J.injEq,Data.int.injEq,true_and,and_true] at ad;obtain⟨⟨I0,ND,aaQ,aaR⟩,aaS,eq⟩:=ad;have aaT:=amc aaS;clear aaS;obtain⟨pre,u,post,V,q,k,g⟩:=a;obtain⟨azs,yB,azt,azu,TI,k',cx⟩:=b;simp only at I0 ND aaQ aaR aaT eq G aZ;subst I0 ND aaT eq;rw[aZ] at G;simp only[bO,eM,true_and] at G;have e:=Th jA fX _ _ G (by omega);rw[ki,ki] at e;obtain⟨aQ,az⟩:=Ti e aaQ.symm;obtain⟨eT,iA⟩:=Ti az aaR.symm;subst aQ eT iA
 rfl
def ame (p vd tw q6 c a b q:Int)(h:vd=tw-q*q6+p*c):vd+p*((a-c-q*b)%1048576)=tw+p*a-q*(q6+p*b)+p*1048576*(-((a-c-q*b)/1048576)):=by
 have F:=Ac (a-c-q*b) 1048576
 have G:p*((a-c-q*b)%1048576)+p*1048576*((a-c-q*b)/1048576)=p*(a-c-q*b):=by
  rw[ia,<-h9,F]
 have ad:p*(a-c-q*b)=p*a-p*c-p*(q*b):=by rw[Fa,Fa]
 have aZ:q*(q6+p*b)=q*q6+p*(q*b):=by rw[h9,TG]
 rw[Fg];omega
def aaU {a c q b:Int}(bc:0<=a/\a<1048576)(Y:0<=c/\c<=1048576)(aU:0<=q/\q<1048576)(U:0<=b/\b<1048576):
  0<=q*b/\q*b<=1099509530625/\0 <= -((a-c-q*b)/1048576) /\ -((a-c-q*b)/1048576)<=1048576:=by
 have F:0<=q*b:=sA aU.1 U.1;have G:q*b<=1048575*1048575:=Tw (by omega) (by omega) U.1 (by omega);omega
def amf (T:bj)(a:Jc)(hn:Mem)(Y:TH a hn):
  wp T NA.body (EI NA.res (.J (.int .i64 (Ah a.u a.V a.q))) (aV hn a.k a.g (Ai a))) ⟨ke [.ref a.k a.g 1 (D a.pre) (D a.u),.J (dv a.V),.J (.int .i64 a.q)],hn⟩:=by
 obtain⟨pre,u,post,V,q,k,g⟩:=a;obtain⟨oK,tV,Br,lZ,tU,oh,hlen⟩:=Y;simp only at oK tV Br lZ tU oh hlen ⊢;have oi:=mr V;have aaV:=lr V;have TJ:=fY.1 Br;refine xY ?_;simp only[NA];simp only[go_sem,go_sem_proc,dv];generalize U:aH V=v at *
 refine cX [0,1,2,13] [] (λ((i,c,w):Nat×Int×List Int) tm mem=>i<=D u/\D w=D u/\eP w/\w.drop i=u.drop i/\(0<=c/\c<=1048576)/\a9 (w.take i)=a9 (u.take i)-q*a9 (v.take i)+1048576^i*c/\tm 14=.J (.int .i64 (i:Nat))/\tm 7=.J (.int .i64 c)/\mem=aV hn k g (aS aI (pre++w++post)))
  (λ(i,_)=>D u-i) (0,0,u) (by refine⟨dG _,rfl,tV,rfl,by omega,by simp[a9],rfl,rfl,(amb oK).symm⟩) ?_
 intro vs ms aK aF;simp only[go_sem,go_sem_proc] at aK aF;subst aK aF;rintro⟨i,c,w⟩ tm _ R-⟨ab,hw,qH,tS,Y,jy,Aj,bM,rfl⟩;simp only[go_sem,go_sem_proc,bl] at R;obtain⟨au,F,G,jb⟩:=R;rcases du (i<D u) with aq|bD
 ·have wP:i<D w:=by omega
  have amg:w[i]=u[i]:=by
   have F:=gx wP;rw[tS,gx aq] at F;exact (Cf F).1.symm
  have Je:w.drop (i+1)=u.drop (i+1):=by
   have F:=gx wP;rw[tS,gx aq] at F;exact (Cf F).2.symm
  have nO:=Jb (pre:=pre) (post:=post) wP;rw[amg] at nO;have aaW:=k0 tV i aq;have qx:=kZ u i aq;generalize u[i]=tW at *;have gp:IntKind.i64.wrap ((i:Int)+1)=((i+1:Nat):Int):=by rw[fK _];rfl
  have mw:IntKind.i64.wrap (tW-c)=tW-c:=wrap64 _ (by omega) (by omega);have k1:(D pre)+i+1<=(aS aI (pre++w++post)).length:=by rw[pK];simp;omega
  have iK:=λd=>aaP (pre:=pre) (post:=post) wP d;have m1:decide ((i:Int)<(D u:Int))=true:=c7
  have fin:∀bi:Int,0<=bi->bi<1048576->a9 (v.take (i+1))=a9 (v.take i)+1048576^i*bi ->
    ∃a3:Nat×Int×List Int,D u-a3.1<D u-i/\a3.1<=D u/\a3.2.2.length=D u/\eP a3.2.2/\a3.2.2.drop a3.1=u.drop a3.1/\(0<=a3.2.1/\a3.2.1<=1048576)/\a9 (a3.2.2.take a3.1)=a9 (u.take a3.1)-q*a9 (v.take a3.1)+1048576^a3.1*a3.2.1 /\
     I.J (Data.int .i64 ((i+1:Nat):Int))=I.J (Data.int .i64 (a3.1:Int))/\I.J (Data.int .i64 (-((tW-c-q*bi)/1048576)))=I.J (Data.int .i64 a3.2.1)/\aV hn k g (aS aI (pre++w.set i ((tW-c-q*bi)%1048576)++post))=aV hn k g (aS aI (pre++a3.2.2++post)):=by
   intro bi Ad kW Ce;obtain⟨aY,b0,fJ,ft⟩:=aaU aaW Y ⟨lZ,tU⟩ ⟨Ad,kW⟩;refine⟨(i+1,-((tW-c-q*bi)/1048576),w.set i ((tW-c-q*bi)%1048576)),by dsimp only;omega,by dsimp only;omega,by simp[hw],yx qH i (by omega),?_,⟨fJ,ft⟩,?_,rfl,rfl,rfl⟩
   ·dsimp only;rw[se (by omega),Je]
   ·dsimp only;rw[kZ _ _ (by simpa using wP),Cc,qx,Ce,mY];simp only[yw];exact ame _ _ _ _ _ _ _ _ jy
  rcases du (i<D v) with qG|Tr
  ·have tR:v[i]?=some v[i]:=bf qG;have eJ:=k0 oi i qG;have TK:=kZ v i qG;generalize v[i]=bi at *;obtain⟨aY,b0,fJ,ft⟩:=aaU aaW Y ⟨lZ,tU⟩ eJ;have nN:IntKind.i64.wrap (q*bi)=q*bi:=wrap64 _ (by omega) (by omega);have Fc:IntKind.i64.wrap (tW-c-q*bi)=tW-c-q*bi:=wrap64 _ (by omega) (by omega);have Ae:IntKind.i64.wrap (0-(tW-c-q*bi)/1048576) = -((tW-c-q*bi)/1048576):=by rw[fK _];omega
   have jB:decide ((i:Int)<(D v:Int))=true:=c7;refine ah ?_;repeat' (intro (ai:_=_)<;>simp only[ai,go_sem,go_sem_proc,au,F,G,jb,Aj,bM,tR,gp,mw,nN,Fc,Ae,jB,m1,aq,k1,nO,iK,NL,ym,u7,aI,dM,aj,bg,bl,show ¬ ((20:Int)<0) by omega]<;>try refine ae ?_ ?_)
   exact fin bi eJ.1 eJ.2 TK
  ·have jB:decide ((i:Int)<(D v:Int))=false:=df;have Ae:IntKind.i64.wrap (0-(tW-c)/1048576) = -((tW-c)/1048576):=by rw[fK _];omega
   refine ah ?_;repeat' (intro (ai:_=_)<;>simp only[ai,go_sem,go_sem_proc,au,F,G,jb,Aj,bM,gp,mw,Ae,jB,m1,aq,k1,nO,iK,NL,ym,u7,aI,dM,aj,bg,bl,show ¬ ((20:Int)<0) by omega]<;>try refine ae ?_ ?_)
   have:=fin 0 (by omega) (by omega) (by rw[dF (by omega),dF (by omega)];simp);simp only[wQ,Af] at this;exact this
 ·obtain rfl:i=D u:=by omega
  have m1:decide ((D u:Int)<(D u:Int))=false:=df;rw[dF (by omega),dF (by omega),dF (by omega),aaV] at jy;have amh:=yj qH;have azv:=ob qH;rw[hw] at amh
  have azw:(V:Int)<1048576^(D u):=by
   have h:=Int.ofNat_lt.2 TJ;rw[Cg] at h;exact h
  by_cases nM:c=0
  ·subst nM;have TL:a9 u-q*V=a9 w:=by omega
   have aQ:Ah u V q=q:=by unfold Ah;rw[aT (by omega)]
   have az:Ai ⟨pre,u,post,V,q,k,g⟩=aS aI (pre++w++post):=by
    unfold Ai NM;simp only;rw[aT (by omega),TL,<-hw,<-aaO qH]
   refine ah ?_;repeat' (intro (ai:_=_)<;>simp only[ai,go_sem,go_sem_proc,au,F,G,jb,Aj,bM,m1,aQ,az,beq_self_eq_true]<;>try refine ae ?_ ?_)
  ·have ami:(c==0)=false:=by simpa using nM
   have Fh:(1048576:Int)^(D u)<=1048576^(D u)*c:=by
    have:(1048576:Int)^(D u)*1<=1048576^(D u)*c:=tP (by omega) (by omega);omega
   have l0:a9 u-q*V<0:=by omega
   have TM:IntKind.i64.wrap (q-1)=q-1:=wrap64 _ (by omega) (by omega);simp only[go_sem,go_sem_proc,au,F,G,jb,Aj,bM,m1,ami]
   refine cX [0,1,2,48] [] (λ((i,d,z):Nat×Int×List Int) tm mem=>i<=D u/\D z=D u/\eP z/\z.drop i=w.drop i/\(0<=d/\d<=1)/\a9 (z.take i)+1048576^i*d=a9 (w.take i)+a9 (v.take i)/\tm 49=.J (.int .i64 (i:Nat))/\tm 10=.J (.int .i64 d)/\mem=aV hn k g (aS aI (pre++z++post)))
    (λ(i,_)=>D u-i) (0,0,w) (by refine⟨dG _,hw,qH,rfl,by omega,by simp[a9],rfl,rfl,rfl⟩) ?_
   intro vs ms aK aF;simp only[go_sem,go_sem_proc,au,F,G] at aK aF;subst aK aF;rintro⟨i,d,z⟩ tm _ R-⟨ab,a2,NN,tS,af,aaX,TN,dz,rfl⟩;simp only[go_sem,go_sem_proc,bl] at R;obtain⟨au,F,G,TO⟩:=R;rcases du (i<D u) with aq|bD
   ·have Jf:i<D z:=by omega
    have wP:i<D w:=by omega
    have amj:z[i]=w[i]:=by
     have F:=gx Jf;rw[tS,gx wP] at F;exact (Cf F).1.symm
    have amk:z.drop (i+1)=w.drop (i+1):=by
     have F:=gx Jf;rw[tS,gx wP] at F;exact (Cf F).2.symm
    have nO:=Jb (pre:=pre) (post:=post) Jf;rw[amj] at nO;have Jg:=k0 qH i wP;have qx:=kZ w i wP;generalize w[i]=Ak at *;have gp:IntKind.i64.wrap ((i:Int)+1)=((i+1:Nat):Int):=by rw[fK _];rfl
    have mw:IntKind.i64.wrap (d+Ak)=d+Ak:=wrap64 _ (by omega) (by omega);have k1:(D pre)+i+1<=(aS aI (pre++z++post)).length:=by rw[pK];simp;omega
    have iK:=λd=>aaP (pre:=pre) (post:=post) Jf d;have m1:decide ((i:Int)<(D u:Int))=true:=c7
    have fin:∀bi:Int,0<=bi->bi<1048576->a9 (v.take (i+1))=a9 (v.take i)+1048576^i*bi ->
      ∃a3:Nat×Int×List Int,D u-a3.1<D u-i/\a3.1<=D u/\a3.2.2.length=D u/\eP a3.2.2/\a3.2.2.drop a3.1=w.drop a3.1/\(0<=a3.2.1/\a3.2.1<=1)/\a9 (a3.2.2.take a3.1)+1048576^a3.1*a3.2.1=a9 (w.take a3.1)+a9 (v.take a3.1) /\
       I.J (Data.int .i64 ((i+1:Nat):Int))=I.J (Data.int .i64 (a3.1:Int))/\I.J (Data.int .i64 ((d+Ak+bi)/1048576))=I.J (Data.int .i64 a3.2.1)/\aV hn k g (aS aI (pre++z.set i ((d+Ak+bi)%1048576)++post))=aV hn k g (aS aI (pre++a3.2.2++post)):=by
     intro bi Ad kW Ce;refine⟨(i+1,(d+Ak+bi)/1048576,z.set i ((d+Ak+bi)%1048576)),by dsimp only;omega,by dsimp only;omega,by simp[a2],yx NN i (by omega),?_,by dsimp only;omega,?_,rfl,rfl,rfl⟩
     ·dsimp only;rw[se (by omega),amk]
     ·dsimp only;rw[kZ _ _ (by simpa using Jf),Cc,qx,Ce,mY];simp only[yw];exact aax _ _ _ _ _ _ _ aaX
    rcases du (i<D v) with qG|Tr
    ·have tR:v[i]?=some v[i]:=bf qG;have eJ:=k0 oi i qG;have TK:=kZ v i qG;generalize v[i]=bi at *;have nN:IntKind.i64.wrap (d+Ak+bi)=d+Ak+bi:=wrap64 _ (by omega) (by omega);have jB:decide ((i:Int)<(D v:Int))=true:=c7;refine ah ?_;repeat' (intro (ai:_=_)<;>simp only[ai,go_sem,go_sem_proc,au,F,G,TO,TN,dz,tR,gp,mw,nN,jB,m1,aq,k1,nO,iK,NL,ym,u7,aI,dM,aj,bg,bl,show ¬ ((20:Int)<0) by omega]<;>try refine ae ?_ ?_)
     exact fin bi eJ.1 eJ.2 TK
    ·have jB:decide ((i:Int)<(D v:Int))=false:=df;refine ah ?_;repeat' (intro (ai:_=_)<;>simp only[ai,go_sem,go_sem_proc,au,F,G,TO,TN,dz,gp,mw,jB,m1,aq,k1,nO,iK,NL,ym,u7,aI,dM,aj,bg,bl,show ¬ ((20:Int)<0) by omega]<;>try refine ae ?_ ?_)
     have:=fin 0 (by omega) (by omega) (by rw[dF (by omega),dF (by omega)];simp);simp only[Jh] at this;exact this
   ·obtain rfl:i=D u:=by omega
    have m1:decide ((D u:Int)<(D u:Int))=false:=df;rw[dF (by omega),dF (by omega),dF (by omega),aaV] at aaX;have aml:=yj NN;have azx:=ob NN;rw[a2] at aml
    have TL:a9 u-q*V+V=a9 z:=by
     have e:a9 u-q*V+V-a9 z=1048576^(D u)*(d-c):=by rw[Fa];omega
     generalize (1048576:Int)^(D u)=p at *;rcases oX (d-c) 0 with h|h|h
     ·have:p*(d-c)<=p*(-1):=tP (by omega) (by omega);omega
     ·rw[h,wQ] at e;omega
     ·have:p*1<=p*(d-c):=tP (by omega) (by omega);omega
    have aQ:Ah u V q=q-1:=by unfold Ah;rw[aL l0]
    have az:Ai ⟨pre,u,post,V,q,k,g⟩=aS aI (pre++z++post):=by
     unfold Ai NM;simp only;rw[aL l0,TL,<-a2,<-aaO NN]
    refine ah ?_;repeat' (intro (ai:_=_)<;>simp only[ai,go_sem,go_sem_proc,au,F,G,TO,TN,dz,m1,aQ,az,TM]<;>try refine ae ?_ ?_)
def amm {T V P wR Fi v1 v2 top gI q r:Int}(oR:V=(v1*1048576+v2)*P+wR)(cw:T=(top*1048576+gI)*P+Fi)(dV:0<P)(aaY:0<=wR)(NO:Fi<P)(lZ:0<=q)(amn:0<=V)
  (TP:T<1048576*V) (Ch:q*v1+r=top) (Y:q>=1048576\/q*v2>r*1048576+gI):T<q*V:=by
 rcases Y with h|h
 ·have:=kI h amn;omega
 ·have F:(top*1048576+gI+1)*P<=(q*(v1*1048576+v2))*P:=by
   refine kI ?_ (by omega);rw[h9,<-ia];have:q*v1*1048576=(top-r)*1048576:=by rw[<-Ch];congr 1;omega
   omega
  have G:q*V=(q*(v1*1048576+v2))*P+q*wR:=by rw[oR,h9,<-ia]
  have ad:0<=q*wR:=sA lZ aaY;rw[sC _ 1,oj] at F;omega
def aaZ {T V P wR Fi v1 v2 top gI q r:Int}(oR:V=(v1*1048576+v2)*P+wR)(cw:T=(top*1048576+gI)*P+Fi)(dV:0<P)(aaY:0<=wR/\wR<P)(NO:0<=Fi)(lZ:0<=q)(tU:q<1048576)(tx:524288<=v1)(nE:0<=v2/\v2<1048576)(YD:0<=gI)
  (Ch:q*v1+r=top) (Y:r>=1048576\/q*v2<=r*1048576+gI):0<=T-q*V+V:=by
 have G:q*V=(q*(v1*1048576+v2))*P+q*wR:=by rw[oR,h9,<-ia]
 have ad:q*wR<=q*P:=tP (by omega) lZ;have aZ:q*P<=1048576*P:=kI (by omega) (by omega);have bw:1048576*P<=(v1*1048576+v2)*P:=kI (by omega) (by omega);have e:q*v1*1048576=(top-r)*1048576:=by rw[<-Ch];congr 1;omega
 rcases Y with h|h
 ·have bA:q*v2+q<=1048576*1048576:=by
   have bM:q*(v2+1)<=1048576*1048576:=Tw (by omega) (by omega) (by omega) (by omega);rw[h9,qB] at bM;exact bM
  have cd:(q*(v1*1048576+v2)+q)*P<=(top*1048576+gI)*P:=by
   refine kI ?_ (by omega);rw[h9,<-ia];omega
  rw[sC _ q] at cd;omega
 ·have cd:(q*(v1*1048576+v2))*P<=(top*1048576+gI)*P:=by
   refine kI ?_ (by omega);rw[h9,<-ia];omega
  omega
def amo {T V q:Int}(oR:0<V)(F:T<(q+1)*V)(G:0<=T-q*V+V):(if T-q*V<0 then q-1 else q)=T/V/\(if T-q*V<0 then T-q*V+V else T-q*V)=T%V:=by
 have ad:(q+1)*V=q*V+V:=by rw[sC,oj]
 have aZ:(q-1)*V=q*V-V:=by rw[aa0,oj]
 have key:∀d r:Int,T=d*V+r->0<=r->r<V->d=T/V/\r=T%V:=by
  intro d r h au bw
  constructor
  ·rw[h,yA,Int.add_mul_ediv_right _ _ (by omega),TA au bw];omega
  ·rw[h,yA,Int.add_mul_emod_self_right,TB au bw]
 split
 ·exact key (q-1) _ (by omega) (by omega) (by omega)
 ·exact key q _ (by omega) (by omega) (by omega)
def aa1 {v:List Int}{N:Nat}(h:(D v)=N+2):a9 v=(v[N+1]*1048576+v[N])*1048576^N+a9 (v.take N):=by
 have e:v=v.take (N+1+1):=by rw[dF (by omega)]
 conv=>lhs;rw[e]
 rw[kZ v (N+1) (by omega),kZ v N (by omega),mY,sC,nk (v[N]),Al (v[N+1]),nk (v[N+1])];have:(1048576:Int)^N*1048576*v[N+1]=1048576^N*v[N+1]*1048576:=by rw[Al]
 omega
def amp {v:List Int}{N:Nat}(h:(D v)=N+3):a9 v=((v[N+2]*1048576+v[N+1])*1048576+v[N])*1048576^N+a9 (v.take N):=by
 have e:v=v.take (N+1+1+1):=by rw[dF (by omega)]
 conv=>lhs;rw[e]
 rw[kZ v (N+1+1) (by omega),kZ v (N+1) (by omega),kZ v N (by omega)];simp only[mY];generalize (1048576:Int)^N=p;rw[sC,sC,sC,Al (v[N+2]*1048576),Al (v[N+2]),nk (v[N+2]),Al (v[N+1]),nk (v[N+1]),nk (v[N])];have F:p*1048576*v[N+1]=p*v[N+1]*1048576:=by rw[Al]
 have G:p*1048576*1048576*v[N+1+1]=p*v[N+2]*1048576*1048576:=by rw[Al,Al p]
 omega
def amq {u:List Int}{i n:Nat}{V:Int}(af:eP u)(ag:i+n+1<=D u)(ed:a9 (u.drop (i+1))<V)(oR:V<1048576^n):
  ∃pre fQ post,u=pre++fQ++post/\D pre=i/\D fQ=n+1/\eP pre/\eP fQ/\eP post/\a9 post=0/\∃ct,fQ[0]?=some ct/\u.take (i+1)=pre++[ct]/\a9 fQ=ct+1048576*a9 (u.drop (i+1))/\0<=a9 (u.drop (i+1))/\0<=ct/\ct<1048576:=by
 have e:u=u.take i++(u.drop i).take (n+1)++u.drop (i+n+1):=by
  rw[ki,r0,<-x3,Io,Io]
 have aa2:=e ▸ af;rw[BQ,BQ] at aa2;obtain⟨⟨d1,d2⟩,d3⟩:=aa2;have aq:i<D u:=by omega
 have tS:=gx aq;have NP:((u.drop i).take (n+1)).length=n+1:=by simp;omega
 have aa3:a9 (u.drop (i+1))=a9 ((u.drop (i+1)).take n)+1048576^n*a9 (u.drop (i+n+1)):=by
  have:=Iz (u.drop (i+1)) n;rw[pG,n7 (by omega),x3] at this;rw[this]
  congr 3
  rw[show i+1+n=i+n+1 by omega]
 have aR:=ob d3;have bN:0<=a9 ((u.drop (i+1)).take n):=ob (λx L=>af x (Fj (Ei L)))
 have wS:a9 (u.drop (i+n+1))=0:=by
  rcases du (0<a9 (u.drop (i+n+1))) with h|h
  ·have:(1048576:Int)^n*1<=1048576^n*a9 (u.drop (i+n+1)):=tP (by omega) (Int.pow_nonneg (by omega));omega
  ·omega
 refine⟨_,_,_,e,by simp;omega,NP,d1,d2,d3,wS,u[i],?_,?_,?_,?_,(k0 af i aq).1,(k0 af i aq).2⟩
 ·rw[x6 (by omega),oI];simp[aq]
 ·rw[ho,bf aq];rfl
 ·rw[tS,EA,so,aa3,wS];simp
 ·rw[aa3,wS];simpa using bN
def amr (l:List Int)(h:(D l)<=1000000):lf 157054 0 1 (D l) 8 1 [.J (.int .i64 0)] (some (0,((l.map aI).flatten.map I.J)))=some (.ref 157054 1 1 0 (D l+1),some (157054,1,aS aI (l++[0]))) :=
 lq jA wG 157054 0 8 l 0 rfl (by omega) (by omega)
def Ji:=bI mv λ(x,y)=>ca ((aH x).length<=1000/\(aH y).length<=1000/\0<y) (.same (.dq [dv (x/y),dv (x%y)]))
@[go_sem] def aa4 (x y):=cl Ji rfl wO (x,y) rfl
def ams (T:bj)(jC:T BY=aG E9)(hK:T wH=aG Ab)(om:T Np=aG NJ)(fp:T pI=yh wK tM)(mx:T ES=aG I8)(oo:T SL=z4 Jd):WF T Z4 Ji:=by
 refine b7 λ(x,y)=>cq λY=>⟨rfl,b6 ?_⟩;simp only[Z4,mv,bX];obtain⟨L,ak,hM⟩:=Y;have mo:(aH x).length<=1000000/\(aH y).length<=1000000:=by omega
 have Am:=Tm x y mo;have q5:(aH x).length<=1000000:=by omega
 by_cases hl:x<y
 ·have Ci:gd x y = -1:=by unfold gd;rw[aL (by simpa using hl)]
  have eb:=alS (aH x) q5;rw[Ci] at Am
  change Ab [dv x]=_ at eb
  refine ah ?_;repeat' (intro (ai:_=_)<;>simp only[ai,go_sem,go_sem_proc,jC,hK,om,fp,mx,oo,Am,eb,show ((-1:Int)<0) by omega,decide_true]<;>try refine ae ?_ ?_)
  rw[Sk hl,It hl]
  try rfl
 ·have Ci:decide (gd x y<0)=false:=by
   unfold gd;rw[aT (by simp;omega)]
   split<;>rfl
  have aa5:aH y≠[]:=by rw[Ne,yi];omega
  by_cases F:y<1048576
  ·have qD:=Iy hM F;have mU:=aaI x y ⟨by omega,by omega,by omega⟩
   have ay:=NC [((x%y:Nat):Int)] (by simp);have aq:x%y<y:=oQ _ hM;rw[lX] at mU
   have Ag:fP [((x%y:Nat):Int)]=aH (x%y):=by
    generalize x%y=r at aq ⊢;rw[yk (by intro d af;rw[sE] at af;omega)];simp only[a9]
    congr 1
   rw[Ag] at ay;have Jj:dv y=.ar [[.int .i64 y]]:=by unfold dv;rw[qD];rfl
   change wK [.ar [[.int .i64 _]]]=_ at ay
   rw[Jj] at Am;refine ah ?_;repeat' (intro (ai:_=_)<;>simp only[ai,go_sem,go_sem_proc,jC,hK,om,fp,mx,oo,Jj,Am,Ci,mU,ay,show (((1:Nat):Int)==1)=true from rfl]<;>try refine ae ?_ ?_)
   try rfl
  ·obtain⟨N,hd⟩:∃N,(aH y).length=N+2:=by
    have:=mt (fY (n:=y) (k:=1)).1 (by simpa using F);exact⟨(aH y).length-2,by omega⟩
   have qD:=mr y;have k2:(((aH y).length:Int)==1)=false:=by simp;omega
   have NP:IntKind.i64.wrap (((aH y).length:Int)-1)=((N+1:Nat):Int):=by rw[fK _];omega
   have kE:(aH y)[N+1]?=some (aH y)[N+1]:=bf (by omega);have azy:=k0 qD (N+1) (by omega)
   have azz:(aH y)[N+1]≠0:=by
    intro h;have:=ZO y;rw[List.getLast?_eq_getElem?,hd] at this;exact this (by rw[show N+2-1=N+1 by omega,kE,h])
   have TQ:=aa1 hd;rw[lr] at TQ;have amt:=yj (yv qD N);have azA:=ob (yv qD N);have azB:=k0 qD N (by omega);rw[gk,n7 (by omega)] at amt;generalize (aH y)[N+1]=bT at *;generalize (aH y)[N]=rk at *;generalize a9 ((aH y).take N)=NQ at *;have aa6:((aH y).map aI)[N+1]?=some [.int .i64 bT]:=by rw[bg,kE];rfl
   simp only[go_sem,go_sem_proc,jC,hK,om,fp,mx,oo,dv,Am,Ci,k2,aj];have aa7:=Am;unfold dv at aa7;simp only[go_sem,go_sem_proc,jC,hK,om,fp,mx,oo,aa7,Ci,k2,aj];refine cX [0,1] [157054,157075] (λ(κ:Nat) tm mem=>bT*2^κ<1048576/\tm 8=.J (.int .i64 (2^κ))) (λκ=>20-κ) 0 (by refine⟨by omega,rfl⟩) ?_;intro vs ms aK aF;simp only[go_sem,go_sem_proc,jC,hK,om,fp,mx,oo,aj] at aK aF;subst aK aF;rintro κ tm mem R hm ⟨azC,cd⟩;simp only[go_sem,go_sem_proc,jC,hK,om,fp,mx,oo,bl] at R hm;obtain⟨au,tB⟩:=R;obtain⟨pN,wT⟩:=hm;have azD:(0:Int)<2^κ:=Fk (by omega)
   have tX:(2:Int)^κ<=bT*2^κ:=by
    have:1*(2:Int)^κ<=bT*2^κ:=kI (by omega) (by omega);omega
   have hκ:κ<20:=by
    rcases gY κ 20 with h|h
    ·exact h
    ·have:(2:Int)^20<=2^κ:=by
      have:=An (n:=2) (by omega) h;have cI:=Int.ofNat_le.2 this;rwa [Cg,Cg] at cI
     omega
   have aa8:IntKind.i64.wrap (bT*2^κ)=bT*2^κ:=wrap64 _ (by omega) (by omega);have amu:IntKind.i64.wrap (2^κ*2)=2^κ*2:=wrap64 _ (by omega) (by omega);rcases du (bT*2^κ<524288) with aq|bD
   ·refine ah ?_;repeat' (intro (ai:_=_)<;>simp only[ai,go_sem,go_sem_proc,jC,hK,om,fp,mx,oo,au,tB,cd,NP,aa6,aa8,amu,aq,pN,wT,decide_true,dM,aj]<;>try refine ae ?_ ?_)
    exact⟨κ+1,by omega,by rw[mY,<-ia];omega,by rw[mY]⟩
   ·-- the numbers, shifted
    have amv:(bT+1)*2^κ<=1048576:=by
     have e:(1048576:Int)=2^(20-κ)*2^κ:=by rw[<-aaH,show 20-κ+κ=20 by omega];rfl
     have F:bT<2^(20-κ):=by
      rcases du (bT<2^(20-κ)) with h|h
      ·exact h
      ·have:(2:Int)^(20-κ)*2^κ<=bT*2^κ:=kI (by omega) (by omega);omega
     rw[e];exact kI (by omega) (by omega)
    generalize (2:Int)^κ=s at *;obtain⟨S,rfl⟩:∃S:Nat,s=S:=⟨s.toNat,by omega⟩
    have dV:(0:Int)<1048576^N:=Fk (by omega);have Cj:0<S:=by omega
    have TJ:y*S<1048576^(N+2):=by
     have F:((y*S:Nat):Int)<1048576^(N+2):=by
      rw[aa9,TQ,mY,mY];generalize (1048576:Int)^N=p at *
      have aQ:((bT*1048576+rk)*p+NQ)*S<=((bT+1)*1048576*p)*S:=by
       refine kI ?_ (by omega);have:(bT*1048576+rk+1)*p<=((bT+1)*1048576)*p:=kI (by omega) (by omega);rw[sC _ 1] at this;omega
      have azE:((bT*1048576+rk)*p+NQ)*S<((bT+1)*1048576*p)*S:=by
       refine Int.mul_lt_mul_of_pos_right ?_ (by omega);have:(bT*1048576+rk+1)*p<=((bT+1)*1048576)*p:=kI (by omega) (by omega);rw[sC _ 1] at this;omega
      have az:((bT+1)*1048576*p)*S=((bT+1)*S)*(p*1048576):=by
       rw[ia (bT+1),ia,nk (1048576*p),<-ia,nk 1048576 p]
      have eT:((bT+1)*S)*(p*1048576)<=1048576*(p*1048576):=kI amv (by omega);omega
     have G:((1048576^(N+2):Nat):Int)=1048576^(N+2):=by rw[Cg];rfl
     omega
    have azF:524288*(1048576^N*1048576)<=((y*S:Nat):Int):=by
     rw[aa9,TQ];generalize (1048576:Int)^N=p at *
     have aQ:(bT*1048576)*p*S<=((bT*1048576+rk)*p+NQ)*S:=by
      refine kI ?_ (by omega);have:(bT*1048576)*p<=(bT*1048576+rk)*p:=kI (by omega) (by omega);omega
     have az:(bT*1048576)*p*S=(bT*S)*(p*1048576):=by
      rw[ia bT,ia,nk (1048576*p),<-ia,nk 1048576 p]
     have eT:524288*(p*1048576)<=(bT*S)*(p*1048576):=kI (by omega) (by omega);omega
    have Jk:(aH (y*S)).length=N+2:=by
     have F:=fY.2 TJ
     have G:=mt (fY (n:=y*S) (k:=N+1)).1 (by
      have G:((1048576^(N+1):Nat):Int)=1048576^N*1048576:=by rw[Cg,mY];rfl
      omega)
     omega
    have azG:1*x<=x*S:=by rw[yf];exact aba x Cj
    have azH:(aH x).length<=(aH (x*S)).length:=by
     rw[fY];have:=fY.1 (c9 (aH (x*S)).length);omega
    have azI:y*S<=x*S:=q7 S (by omega)
    have azJ:N+2<=(aH (x*S)).length:=by
     rw[<-Jk,fY];have:=fY.1 (c9 (aH (x*S)).length);omega
    have azK:(aH (x*S)).length<=1001:=by
     have:∀k,(aH x).length<=k->(aH (x*S)).length<=k+1:=by
      intro k R;rw[fY];have F:=fY.1 R;rw[z5];exact Bh (Nat.mul_lt_mul_of_pos_right F Cj) (aba _ (by omega))
     exact this 1000 L
    have gZ:=Tx x S ⟨by omega,by rw[Iy Cj (by omega)];simp⟩
    have TR:=Tx y S ⟨by omega,by rw[Iy Cj (by omega)];simp⟩
    have amw:dv S=.ar [[.int .i64 (S:Int)]]:=by unfold dv;rw[Iy Cj (by omega)];rfl
    rw[amw] at gZ TR;simp only[dv] at gZ TR;have c1:=amr (aH (x*S)) (by omega);have amx:((((aH (x*S)).length+1:Nat):Int)==((aH x).length:Int))=false:=by simp;omega
    have amy:=lr (y*S);have NR:=mr (y*S);have amz:=lr (x*S);have abb:=mr (x*S);have amA:dv (y*S)=.ar ((aH (y*S)).map aI):=rfl;generalize amB:aH (y*S)=v at *;generalize azL:aH (x*S)=kk at *;have TM:IntKind.i64.wrap (((D kk+1:Nat):Int)-(D v:Int))=((D kk-N-1:Nat):Int):=by rw[fK _];omega
    have tU:8*(D kk-N-1)<=140737488355328:=by omega
    have NS:(D kk)-N-1<=maxLen:=E8 _ (by omega);have amC:decide (bT*(S:Int)<524288)=false:=me bD;simp only[go_sem,go_sem_proc,jC,hK,om,fp,mx,oo,au,tB,cd,pN,wT,NP,aa6,aa8,amC,gZ,TR,c1,amx,TM,tU,NS,E7,dM,aj];have ic:(D kk)-N-1+(N+2)=D kk+1:=by omega
    generalize azM:(D kk)-N-1=dm at *;have gA:(D kk)=dm+N+1:=by omega
    have nP:=aa1 Jk;rw[amy] at nP;have TS:=yj (yv NR N);have TT:=ob (yv NR N);rw[gk,n7 (by omega)] at TS;have wU:v[N+1]?=some v[N+1]:=bf (by omega);have rp:v[N]?=some v[N]:=bf (by omega);have np:=k0 NR (N+1) (by omega);have sD:=k0 NR N (by omega);generalize v[N+1]=v1 at *;generalize v[N]=v0 at *;generalize a9 (v.take N)=vlow at *
    have tx:524288<=v1:=by
     generalize (1048576:Int)^N=p at *;rcases du (524288<=v1) with h|h
     ·exact h
     ·have G:(v1*1048576+v0+1)*p<=(524288*1048576)*p:=kI (by omega) (by omega);rw[sC _ 1,oj] at G;omega
    have amD:((y*S:Nat):Int)<1048576^(N+2):=by
     have G:((1048576^(N+2):Nat):Int)=1048576^(N+2):=by rw[Cg];rfl
     omega
    have TU:0<((y*S:Nat):Int):=by
     have:0<1048576^N*(1048576:Int):=Int.mul_pos dV (by omega);omega
    have amE:a9 ((kk++[0]).drop dm)<((y*S:Nat):Int):=by
     have e:(kk++[0]).drop dm=kk.drop dm++[0]:=by rw[List.drop_append_of_le_length (by omega)]
     rw[e,BR];have F:=yj (λd af=>abb d (Fj af):eP (kk.drop dm));rw[pG,show (D kk)-dm=N+1 by omega,mY] at F
     simp only[a9];omega
    have amF:((x*S:Nat):Int)=a9 ((kk++[0]).take dm)+1048576^dm*a9 ((kk++[0]).drop dm):=by
     have:=Iz (kk++[0]) dm;rw[BR,amz,n7 (by simp;omega)] at this
     simpa [a9] using this
    generalize abc:y*S=g1 at *;generalize abd:x*S=Fl at *
    refine cX [8,9,10,11,12] [] (λ((j,u,fi):Nat×List Int×List Int) tm mem=>j<=dm/\D u=D kk+1/\eP u/\D fi=dm/\eP fi/\a9 (u.drop j)<g1/\(Fl:Int)=a9 (u.take j)+1048576^j*(g1*a9 (fi.drop j)+a9 (u.drop j)) /\
      tm 13=.J (.int .i64 ((j:Nat)-1))/\mem 157054=some (1,aS aI u)/\mem 157075=some (0,aS aI fi)) (λ(j,_)=>j) (dm,kk++[0],ch dm 0)
     (by
      refine⟨c9 _,by simp,BQ.2 ⟨abb,by intro d af;rw[sE] at af;omega⟩,by simp,λd af=>by rw[pM] at af;omega,amE,?_,?_,rfl,rfl⟩
      ·rw[List.drop_of_length_le (by simp)];simp only[a9,wQ,Tz];exact amF
      ·simp only[q3,reduceIte];rw[fK _]) ?_
    intro vs ms aK aF;simp only[go_sem,go_sem_proc,jC,hK,om,fp,mx,oo,au,tB,cd] at aK aF;subst aK aF;rintro⟨j,u,fi⟩ tm mem R-⟨aa,yC,tV,NT,TV,ed,yD,jb,Jl,TW⟩;simp only[go_sem,go_sem_proc,jC,hK,om,fp,mx,oo,bl] at R;obtain⟨cd,di,dz,dX,eI⟩:=R;rcases j with _|j
    ·rw[pD,pD] at yD;rw[pD] at ed;simp only[M8,a9,Int.pow_zero,oj,Tz] at yD;have azN:=ob TV;have sF:=ob tV
     have TX:a9 fi=((x/y:Nat):Int)/\a9 u=((x%y*S:Nat):Int):=by
      have F:Fl/g1=x/y:=by rw[<-abd,<-abc];exact Nat.mul_div_mul_right x y Cj
      have G:Fl%g1=x%y*S:=by rw[<-abd,<-abc];exact Nat.mul_mod_mul_right S x y
      have ad:((Fl/g1:Nat):Int)=a9 fi:=by rw[aaJ,yD,yA,aaK _ _ (by omega),TA sF ed];omega
      have aZ:((Fl%g1:Nat):Int)=a9 u:=by rw[aaL,yD,yA,aaM,TB sF ed]
      rw[F] at ad;rw[G] at aZ;exact⟨ad.symm,aZ.symm⟩
     have abe:=NC u (by omega);rw[yk tV,TX.2,lX] at abe;have abf:=NC fi (by omega);rw[yk TV,TX.1,lX] at abf
     have hlen:(aH (x%y*S)).length<=100000:=by
      have:(aH (x%y*S)).length<=D u:=by
       have:=aat u;rw[yk tV,TX.2,lX] at this;exact this
      omega
     have mU:=aaI (x%y*S) S ⟨hlen,by omega,by omega⟩
     rw[lX,Nat.mul_div_cancel _ Cj] at mU;simp only[dv] at mU;have wV:I.ref 157054 1 1 0 (D kk+1)=I.ref 157054 1 1 0 (D u):=by rw[yC]
     have wW:I.ref 157075 0 1 0 dm=I.ref 157075 0 1 0 (D fi):=by rw[NT]
     rw[wV] at di;rw[wW] at eI;refine ah ?_;repeat' (intro (ai:_=_)<;>simp only[ai,go_sem,go_sem_proc,jC,hK,om,fp,mx,oo,cd,di,dz,dX,eI,jb,Jl,TW,abe,abf,mU,sl jA,dv,oe,oV,show ¬ ((0:Int)-1>=0) by omega,decide_false]<;>try refine ae ?_ ?_)
    ·obtain⟨pre,fQ,post,e,yE,abg,TY,qH,amG,amH,ct,Ao,oq,azO,amI,azP,azQ⟩:=amq (i:=j) (n:=N+2) tV (by omega) ed amD;have iB:j<dm:=by omega
     rw[oq,BR,yE] at yD;subst e;subst yE;rw[Jk] at dX;have abh:((D pre+1:Nat):Int)-1=(D pre:Int):=by omega
     have ez:IntKind.i64.wrap ((D pre:Int)+((N+2:Nat):Int))=((D pre+(N+2):Nat):Int):=by rw[fK _];omega
     have amJ:IntKind.i64.wrap (((D pre+(N+2):Nat):Int)-1)=((D pre+(N+1):Nat):Int):=by rw[fK _];omega
     have NU:IntKind.i64.wrap (((N+2:Nat):Int)-1)=((N+1:Nat):Int):=by rw[fK _];omega
     have abi:IntKind.i64.wrap (((N+2:Nat):Int)-2)=(N:Int):=by rw[fK _];omega
     have abj:IntKind.i64.wrap (((D pre+(N+2):Nat):Int)-2)=((D pre+N:Nat):Int):=by rw[fK _];omega
     have bs:(D pre)+(N+2)<D kk+1:=by omega
     have br:(D pre)+(N+1)<D kk+1:=by omega
     have en:(D pre)+N<D kk+1:=by omega
     have amK:(D pre)+(N+2)+1<=(aS aI (pre++fQ++post)).length:=by rw[pK,yC];omega
     have amL:(D pre)+(N+1)+1<=(aS aI (pre++fQ++post)).length:=by rw[pK,yC];omega
     have abk:(D pre)+N+1<=(aS aI (pre++fQ++post)).length:=by rw[pK,yC];omega
     have abl:=Jb (pre:=pre) (post:=post) (show N+2<(D fQ) by omega);have amM:=Jb (pre:=pre) (post:=post) (show N+1<(D fQ) by omega);have wS:=Jb (pre:=pre) (post:=post) (show N<(D fQ) by omega);have cw:=amp (N:=N) (by omega:(D fQ)=N+3);have NO:=yj (yv qH N);have abm:=ob (yv qH N);rw[gk,n7 (by omega)] at NO;have nQ:=k0 qH (N+2) (by omega);have jY:=k0 qH (N+1) (by omega);have Fe:=k0 qH N (by omega);generalize fQ[N+2]=t2 at *;generalize fQ[N+1]=t1 at *;generalize fQ[N]=t0 at *;generalize a9 (fQ.take N)=Fi at *;have amN:IntKind.i64.wrap (t2*2^min (BS 20) 64)=t2*1048576:=by rw[show min (BS 20) 64=20 by decide];exact wrap64 _ (by omega) (by omega)
     have amO:bits .or .i64 (t2*1048576) t1=t2*1048576+t1:=Sw t2 t1 nQ.1 (by omega) jY;have amP:(v1=0)=False:=by simp;omega
     generalize azR:t2*1048576+t1=top at *;have azS:0<=top/\top<1099511627776:=by omega
     have Ag:top.tdiv v1=top/v1:=Ff (by omega);have TD:top.tmod v1=top%v1:=Ja (by omega);have lZ:0<=top/v1:=TC (by omega) (by omega);have tU:top/v1<=top:=Int.ediv_le_self _ (by omega);have amQ:IntKind.i64.wrap (top/v1)=top/v1:=wrap64 _ (by omega) (by omega);have TZ:(v.map aI)[N+1]?=some [.int .i64 v1]:=by rw[bg,wU];rfl
     have abn:(v.map aI)[N]?=some [.int .i64 v0]:=by rw[bg,rp];rfl
     have TP:a9 fQ<1048576*g1:=by omega
     have T0:a9 fQ<(top/v1+1)*g1:=by
      have aQ:top+1<=(top/v1+1)*v1:=by
       have F:=Ac top v1;have G:=TF top (show 0<v1 by omega);rw[sC,oj,nk (top/v1)];omega
      have az:(top+1)*1048576*1048576^N<=(top/v1+1)*v1*1048576*1048576^N:=kI (kI aQ (by omega)) (by omega)
      have eT:(top/v1+1)*v1*1048576*1048576^N<=(top/v1+1)*g1:=by
       rw[ia,ia];refine tP ?_ (by omega);rw[nP,<-ia];have:v1*1048576*1048576^N<=(v1*1048576+v0)*1048576^N:=kI (by omega) (by omega);omega
      have iA:(top*1048576+t0+1)*1048576^N<=(top+1)*1048576*1048576^N:=kI (by omega) (by omega);rw[sC _ 1,oj] at iA;omega
     simp only[go_sem,go_sem_proc,jC,hK,om,fp,mx,oo,cd,di,dz,dX,eI,jb,Jl,TW,abh,ez,amJ,NU,bs,br,amK,amL,abl,amM,amN,amO,amP,Ag,TD,amQ,TZ,show (D pre:Int)>=0 by omega,decide_true,dM,aj,show ¬ ((20:Int)<0) by omega]
     have T1:∀(mem:Mem),mem 157054=some (1,aS aI (pre++fQ++post))->∀q:Int,0<=q->q<1048576->a9 fQ<(q+1)*g1->0<=a9 fQ-q*g1+g1 ->
       Jd [.ref 157054 1 1 (D pre) (N+3),.J (.ar (v.map aI)),.J (.int .i64 q)] mem=some (.J (.int .i64 (a9 fQ/g1)),aV mem 157054 1 (aS aI (pre++pad (N+3) (a9 fQ%g1).toNat++post))):=by
      intro mem Jl q lZ amR Ap kH;have Jj:=amo TU Ap kH;have fo:=amd ⟨pre,fQ,post,g1,q,157054,1⟩ mem ⟨Jl,qH,by show (aH g1).length<=D fQ;rw[amB];omega,lZ,amR,kH,by show (D pre)+D fQ<=100000;omega⟩
      simp only[Ah,Ai,NM] at fo;rw[Jj.1,Jj.2,abg,amA] at fo;exact fo
     have amS:0<=a9 fQ/g1:=TC (ob qH) (by omega);have amT:a9 fQ/g1<1048576:=aaN TU TP;have azT:=TE (a9 fQ) (show (g1:Int)≠0 by omega);have amU:=TF (a9 fQ) TU
     have amV:a9 (pad (N+3) (a9 fQ%g1).toNat)=a9 fQ%g1:=by
      rw[ama]
      ·omega
      ·have G:((1048576^(N+2):Nat):Int)=1048576^(N+2):=by rw[Cg];rfl
       have ad:1048576^(N+2)<=1048576^(N+3):=An (by omega) (by omega);omega
     have lY:∃a3:Nat×List Int×List Int,a3.1<D pre+1/\a3.1<=dm/\a3.2.1.length=D kk+1/\eP a3.2.1/\a3.2.2.length=dm/\eP a3.2.2/\a9 (a3.2.1.drop a3.1)<g1/\(Fl:Int)=a9 (a3.2.1.take a3.1)+1048576^a3.1*(g1*a9 (a3.2.2.drop a3.1)+a9 (a3.2.1.drop a3.1)) /\
       I.J (Data.int .i64 ((D pre:Int)-1))=I.J (Data.int .i64 ((a3.1:Int)-1))/\some (1,aS aI (pre++pad (N+3) (a9 fQ%g1).toNat++post))=some (1,aS aI a3.2.1)/\some (0,aS aI (fi.set (D pre) (a9 fQ/g1)))=some (0,aS aI a3.2.2):=by
      have amW:(D fi)=dm:=NT;have NT:(D pre)<D fi:=by omega
      have k3:(pre++pad (N+3) (a9 fQ%g1).toNat++post).drop (D pre)=pad (N+3) (a9 fQ%g1).toNat++post:=by rw[ki,Sh]
      have amX:(pre++pad (N+3) (a9 fQ%g1).toNat++post).take (D pre)=pre:=by rw[ki,Sg]
      have abo:a9 (pad (N+3) (a9 fQ%g1).toNat++post)=a9 fQ%g1:=by rw[BR,amH,amV];omega
      refine⟨(D pre,pre++pad (N+3) (a9 fQ%g1).toNat++post,fi.set (D pre) (a9 fQ/g1)),by dsimp only;omega,by dsimp only;omega,?_,BQ.2 ⟨BQ.2 ⟨TY,al9 _ _⟩,amG⟩,by rw[fk];exact amW,yx TV _ ⟨amS,amT⟩,?_,?_,rfl,rfl,rfl⟩
      ·rw[<-yC];simp[al8,abg]
      ·dsimp only;rw[k3,abo];exact amU
      ·dsimp only;rw[k3,abo,amX,gx (by simpa using NT),so];simp only[yw];rw[se (by omega)];have F:=Ac (a9 fQ) g1;have G:(g1:Int)*(a9 fQ/g1+1048576*a9 (fi.drop (D pre+1)))=g1*(a9 fQ/g1)+1048576*(g1*a9 (fi.drop (D pre+1))):=by rw[h9,TG]
       rw[G,yD,mY,ia];simp only[a9,wQ,Jh];rw[Int.add_assoc,<-h9]
       congr 2
       rw[h9];omega
     have g2:(D pre)+(N+2)+1-D pre=N+3:=by omega
     have eS:IntKind.i64.wrap (((D pre+(N+2):Nat):Int)+1)=((D pre+(N+2)+1:Nat):Int):=by rw[fK _];rfl
     have abp:(D pre)<=D pre+(N+2)+1/\D pre+(N+2)+1<=D kk+1:=by omega
     have abq:(D pre)<dm:=iB;have abr:=λd=>wN fi (D pre) d (by omega);have abt:(D pre)+1<=(aS aI fi).length:=by rw[pK];omega
     have Jg:IntKind.i64.wrap ((D pre:Int)-1)=(D pre:Int)-1:=wrap64 _ (by omega) (by omega)
     refine cX [8,9,10,11,12,13] [157054,157075] (λ((q,r):Int×Int) tm mem=>0<=q/\0<=r/\q*v1+r=top/\a9 fQ<(q+1)*g1/\tm 15=.J (.int .i64 q)/\tm 16=.J (.int .i64 r)) (λ(q,_)=>q.toNat) (top/v1,top%v1)
      (by
       refine⟨lZ,TE _ (by omega),?_,T0,rfl,rfl⟩;have:=Ac top v1;rw[nk (top/v1)];omega) ?_
     intro vs ms aK aF;simp only[go_sem,go_sem_proc,jC,hK,om,fp,mx,oo,cd,di,dz,dX,eI,jb,Jl,TW,abh] at aK aF;subst aK aF;rintro⟨q,r⟩ tm mem' R hm ⟨yF,amY,Ch,Ap,wX,my⟩;simp only[go_sem,go_sem_proc,jC,hK,om,fp,mx,oo,bl] at R hm;obtain⟨fR,pO,hN,lu,lx,Ck⟩:=R;obtain⟨Fm,NV⟩:=hm;have azU:0<=q*v1:=sA yF (by omega);have wY:q*524288<=q*v1:=tP tx yF;have azV:0<=q*v0:=sA yF sD.1;have azW:q*v0<=q*1048576:=tP (by omega) yF;have Fo:IntKind.i64.wrap (q*v0)=q*v0:=wrap64 _ (by omega) (by omega);have abu:IntKind.i64.wrap (q-1)=q-1:=wrap64 _ (by omega) (by omega);have abv:IntKind.i64.wrap (r+v1)=r+v1:=wrap64 _ (by omega) (by omega);have abw:IntKind.i64.wrap (r*2^min (BS 20) 64)=r*1048576:=by rw[show min (BS 20) 64=20 by decide];exact wrap64 _ (by omega) (by omega)
     have abx:bits .or .i64 (r*1048576) t0=r*1048576+t0:=Sw r t0 amY (by omega) Fe
     have M1:(q>=1048576\/q*v0>r*1048576+t0)->∃a3:Int×Int,a3.1.toNat<q.toNat/\0<=a3.1/\0<=a3.2/\a3.1*v1+a3.2=top/\a9 fQ<(a3.1+1)*g1/\I.J (Data.int .i64 (q-1))=I.J (Data.int .i64 a3.1)/\I.J (Data.int .i64 (r+v1))=I.J (Data.int .i64 a3.2):=by
      intro Y;have F:=amm nP cw dV TT NO yF (by omega) TP Ch Y
      have T2:0<q:=by
       rcases du (0<q) with h|h
       ·exact h
       ·obtain rfl:q=0:=by omega
        have:=ob qH;omega
      exact⟨(q-1,r+v1),by dsimp only;omega,by dsimp only;omega,by dsimp only;omega,by dsimp only;rw[aa0];omega,by dsimp only;rw[Int.sub_add_cancel];exact F,rfl,rfl⟩
     by_cases iw:q>=1048576
     ·refine ah ?_;repeat' (intro (ai:_=_)<;>simp only[ai,go_sem,go_sem_proc,jC,hK,om,fp,mx,oo,fR,pO,hN,lu,lx,Ck,Fm,NV,wX,my,iw,abu,abv,NU,TZ,decide_true,dM,aj]<;>try refine ae ?_ ?_)
      exact M1 (.inl iw)
     ·by_cases mO:r<1048576
      ·by_cases hc3:q*v0>r*1048576+t0
       ·refine ah ?_;repeat' (intro (ai:_=_)<;>simp only[ai,go_sem,go_sem_proc,jC,hK,om,fp,mx,oo,fR,pO,hN,lu,lx,Ck,Fm,NV,wX,my,iw,mO,hc3,Fo,abu,abv,abw,abx,ez,NU,abi,abj,en,abk,wS,TZ,abn,decide_true,decide_false,dM,aj,show ¬ ((20:Int)<0) by omega]<;>try refine ae ?_ ?_)
        exact M1 (.inr hc3)
       ·have fo:=T1 mem' Fm q yF (by omega) Ap (aaZ nP cw dV ⟨TT,TS⟩ abm yF (by omega) tx sD Fe.1 Ch (.inr (by omega)));refine ah ?_;repeat' (intro (ai:_=_)<;>simp only[ai,go_sem,go_sem_proc,jC,hK,om,fp,mx,oo,fR,pO,hN,lu,lx,Ck,Fm,NV,wX,my,iw,mO,hc3,Fo,abw,abx,ez,eS,NU,abi,abj,en,abk,wS,abn,g2,abp,fo,abq,abt,abr,Jg,Jk,decide_true,decide_false,dM,aj,show ¬ ((20:Int)<0) by omega]<;>try refine ae ?_ ?_)
        exact lY
      ·have fo:=T1 mem' Fm q yF (by omega) Ap (aaZ nP cw dV ⟨TT,TS⟩ abm yF (by omega) tx sD Fe.1 Ch (.inl (by omega)));refine ah ?_;repeat' (intro (ai:_=_)<;>simp only[ai,go_sem,go_sem_proc,jC,hK,om,fp,mx,oo,fR,pO,hN,lu,lx,Ck,Fm,NV,wX,my,iw,mO,ez,eS,g2,abp,fo,abq,abt,abr,Jg,Jk,decide_true,decide_false,dM,aj]<;>try refine ae ?_ ?_)
       exact lY
def cY:Nat:=1048576^60
def bb (z:Int):Raw:=(z.sign,aH z.natAbs)
def gP (a:Raw):Int:=a.1*a9 a.2
def eK (z:Int):gP (bb z)=z:=by
 unfold gP bb;rw[lr];exact Fp z
def Jm (d:Int):nm d=true↔0<=d/\d<1048576:=by
 unfold nm;simp;omega
def hp (a:Raw):cK a=true↔∃z:Int,z.natAbs<cY/\a=bb z:=by
 obtain⟨s,l⟩:=a;unfold cK cY;rw[ff,kA]
 constructor
 ·rintro⟨F,G⟩;have af:eP l:=λd af=>(Jm d).1 (F d af)
  split at G
  ·rename_i h;have ag:l=[]:=q9 (by simpa using h);subst ag;have Q:s=0:=by simpa using G
   subst Q;exact⟨0,by simp,rfl⟩
  ·rename_i h;simp at G;obtain⟨⟨Q,hlen⟩,Jn⟩:=G;have Y:=canon af (by simpa using Jn);have ao:=ob af
   have azX:a9 l≠0:=by
    intro au;rw[au] at Y;rw[Y] at h;simp[sq] at h
   refine⟨s*a9 l,?_,?_⟩
   ·have:(s*a9 l).natAbs=(a9 l).toNat:=by rw[yG];rcases Q with rfl|rfl<;>simp<;>omega
    rw[this,<-fY,<-Y];exact hlen
   ·unfold bb;have:(s*a9 l).natAbs=(a9 l).toNat:=by rw[yG];rcases Q with rfl|rfl<;>simp<;>omega
    rw[this,<-Y]
    congr 1
    rcases Q with rfl|rfl
    ·rw[oj,gq (by omega)]
    ·rw[Cl,oj,yH,gq (by omega)]
 ·rintro⟨z,a2,h⟩
  cases h;refine⟨λd af=>(Jm d).2 (mr _ d af),?_⟩
  by_cases au:z=0
  ·subst au;rfl
  ·have aC:aH z.natAbs≠[]:=by rw[Ne,yi];omega
   rw[aT (by simp;exact aC)];have ag:=fY.2 a2;have nj:=ZO z.natAbs;simp only[ff,Bool.or_eq_true,beq_iff_eq,decide_eq_true_eq,bne_iff_ne,ne_eq];refine⟨⟨?_,ag⟩,nj⟩;rcases oX z 0 with h|h|h
   ·exact .inr (kJ h)
   ·exact absurd h au
   ·exact .inl (gq h)
def jZ {z:Int}(h:z.natAbs<cY):cK (bb z)=true:=(hp _).2 ⟨z,h,rfl⟩
def Fq (c:Raw):Raw×Int:=if decide ((c.2.length:Int)>60)=true then ((0,[]),6) else (c,0)
def nR (z:Int):Raw×Int:=if z.natAbs<cY then (bb z,0) else ((0,[]),6)
def eo (x:Raw×Int):Data:=.dq [.agg (b5 x.1),.int .i64 x.2]
def amZ (s:Int)(n:Nat):jX s (aH n)=if n=0 then (0,[]) else (s,aH n):=by
 unfold jX;rw[ZN]
 by_cases h:n=0
 ·subst h;rfl
 ·have:aH n≠[]:=by rw[Ne,yi];exact h
  rw[aT h,aT (by simp;exact this)]
def m3 {s:Int}{n:Nat}{z:Int}(h:z.natAbs=n)(Q:n≠0->s=z.sign):jX s (aH n)=bb z:=by
 rw[amZ];subst h
 by_cases au:z.natAbs=0
 ·obtain rfl:z=0:=by omega
  rfl
 ·rw[aT au,Q au]
  rfl
def ve (z:Int):Fq (bb z)=nR z:=by
 unfold Fq nR bb cY;have:=fY (n:=z.natAbs) (k:=60)
 by_cases h:z.natAbs<1048576^60
 ·have:=this.2 h;rw[aT (by simp;omega),aL h]
 ·have:=mt this.1 h;rw[aL (by simp;omega),aT h]
abbrev NW:Bool×Int×(List Int)->List Data:=λ(r,s,l)=>[.bool r,.agg [.int .i64 s,.ar (l.map aI)]]
def Fs:=bI NW λ(r,s,l)=>some (.same (eo (if r=true then Fq (s,l) else ((0,[]),1))))
def am0:∀a b,NW a=NW b->a=b:=by
  rintro⟨gJ,s1,hZ⟩ ⟨lp,s2,Z⟩ h;simp only[bl,Data.bool.injEq,Data.agg.injEq,Data.int.injEq,Data.ar.injEq] at h;exact cz h.1 (cz h.2.1.1.2 (map_inj fX _ _ h.2.1.2.1))
@[go_sem] def Ft (r s l):=sm Fs rfl am0 (r,s,l) rfl
def am1 (T:bj):WF T Z3 Fs:=by
 refine b7 λ(r,s,l)=>⟨rfl,b6 ?_⟩;simp only[Z3,NW,bX]
 cases r
 ·refine ah ?_;repeat' (intro h<;>simp only[h,go_sem,go_sem_proc,aj]<;>try refine ae ?_ ?_)
  rfl
 ·refine ah ?_;repeat' (intro h<;>simp only[h,go_sem,go_sem_proc,aj]<;>try refine ae ?_ ?_)
  all_goals (simp only[eo,b5,Fq];simp only[bP, *,reduceIte,c2,dc,tD,qz,tE,pE,pF,e0,iZ,eO,cE,beq_self_eq_true,bne])
def hy (a:Raw):Raw:=if cK a=true then bb (-gP a) else (0,[])
def aby (z:Int):jX (-z.sign) (aH z.natAbs)=bb (-z):=m3 (by omega) λ_=>by rw[yH]
def Jo:=bI pJ λ(s,l)=>ca (D l<=1000000) (.same (.agg (b5 (hy (s,l)))))
@[go_sem] def azY (s l):=cl Jo rfl Cb (s,l) rfl
def am2 (T:bj)(fb:T kF=aG tO)(hK:T wH=aG Ab)(hq:T oc=aG yu):WF T Z0 Jo:=by
 refine b7 λ(s,l)=>cq λY=>⟨rfl,b6 ?_⟩;simp only[Z0,pJ,bX]
 by_cases M:cK (s,l)=true
 ·obtain⟨z,a2,e⟩:=(hp _).1 M;have aQ:hy (s,l)=bb (-z):=by unfold hy;rw[aL M,e,eK]
  cases e
  have hw:IntKind.i64.wrap (0-z.sign) = -z.sign:=by
   have:=Jp z;rw[fK _];omega
  rw[aQ];refine ah ?_;repeat' (intro h<;>simp only[h,go_sem,go_sem_proc,fb,hK,hq,M,Y,hw,aby,b5]<;>try refine ae ?_ ?_)
 ·have M:cK (s,l)=false:=by simpa using M
  have aQ:hy (s,l)=(0,[]):=by unfold hy;rw[M];rfl
  rw[aQ];refine ah ?_;repeat' (intro h<;>simp only[h,go_sem,go_sem_proc,fb,hK,hq,M,Y,b5,bP]<;>try refine ae ?_ ?_)
def ot (a:Raw):(a.1,a.2)=a:=rfl
def mulR (a b:Raw):Raw×Int:=if (cK a&&cK b)=true then nR (gP a*gP b) else ((0,[]),1)
def yI {x y:Int}(L:x.natAbs<cY)(ak:y.natAbs<cY):mulR (bb x) (bb y)=nR (x*y):=by
 unfold mulR;rw[jZ L,jZ ak,eK,eK]
 rfl
def m4 {z:Int}(h:z.natAbs<cY):(aH z.natAbs).length<=60:=fY.2 h
def m5 (z:Int):-1<=z.sign/\z.sign<=1:=by
 have:=Jp z;omega
abbrev iO:Int×(List Int)×Int×(List Int)->List Data:=λ(s,l,s2,Z)=>[.agg [.int .i64 s,.ar (l.map aI)],.agg [.int .i64 s2,.ar (Z.map aI)]]
def Cm:=bI iO λ(s,l,s2,Z)=>ca (D l<=1000000/\D Z<=1000000) (.same (eo (mulR (s,l) (s2,Z))))
def qI:∀a b,iO a=iO b->a=b:=by
  rintro⟨s1,hZ,tY,sG⟩ ⟨s2,Z,tZ,sH⟩ h;simp only[bl,Data.agg.injEq,Data.int.injEq,Data.ar.injEq] at h;exact cz h.1.1.2 (cz (map_inj fX _ _ h.1.2.1) (cz h.2.1.1.2 (map_inj fX _ _ h.2.1.2.1)))
@[go_sem] def azZ (s l s2 Z):=cl Cm rfl qI (s,l,s2,Z) rfl
def am3 (T:bj)(fb:T kF=aG tO)(mx:T ES=aG I8)(hq:T oc=aG yu)(oY:T tK=aG Fs):WF T ZY Cm:=by
 refine b7 λ(s,l,s2,Z)=>cq λY=>⟨rfl,b6 ?_⟩;simp only[ZY,iO,bX];obtain⟨bs,br⟩:=Y
 by_cases M:cK (s,l)=true
 ·by_cases aW:cK (s2,Z)=true
  ·obtain⟨x,L,e⟩:=(hp _).1 M;obtain⟨y,ak,az⟩:=(hp _).1 aW;have hm:mulR (s,l) (s2,Z)=nR (x*y):=by rw[e,az];exact yI L ak
   rw[hm];clear hm
   cases e
   cases az;have F:=m5 x;have G:=m5 y;have aR:x.sign*y.sign=(x*y).sign:=(nS x y).symm;have ad:=m5 (x*y);have hw:IntKind.i64.wrap (x.sign*y.sign)=(x*y).sign:=by rw[aR];exact wrap64 _ (by omega) (by omega)
   have hmul:=Tx x.natAbs y.natAbs ⟨iG (m4 L) (by omega),iG (m4 ak) (by omega)⟩;simp only[dv] at hmul
   have hlen:(aH (x.natAbs*y.natAbs)).length<=1000000:=by
    refine iG ((fY (k:=120)).2 ?_) (by omega);have:(1048576^120:Nat)=cY*cY:=by unfold cY;rw[<-Nat.pow_add]
    rw[this];exact Nat.mul_lt_mul'' L ak
   have Q:jX (x*y).sign (aH (x.natAbs*y.natAbs))=bb (x*y):=m3 (yG x y) λ_=>rfl;refine ah ?_;repeat' (intro h<;>simp only[h,go_sem,go_sem_proc,fb,mx,hq,oY,M,aW,bs,br,hw,hmul,hlen,Q,ve,b5,eo,ot]<;>try refine ae ?_ ?_)
  ·have aW:cK (s2,Z)=false:=by simpa using aW
   have hm:mulR (s,l) (s2,Z)=((0,[]),1):=by unfold mulR;rw[aW,iZ];rfl
   rw[hm];have ly:=Ft false 0 [];simp only[bP] at ly;refine ah ?_;repeat' (intro h<;>simp only[h,go_sem,go_sem_proc,fb,mx,hq,oY,M,aW,bs,br,ly,b5,eo,bP]<;>try refine ae ?_ ?_)
 ·have M:cK (s,l)=false:=by simpa using M
  have hm:mulR (s,l) (s2,Z)=((0,[]),1):=by unfold mulR;rw[M,eO];rfl
  rw[hm];have ly:=Ft false 0 [];simp only[bP] at ly;refine ah ?_;repeat' (intro h<;>simp only[h,go_sem,go_sem_proc,fb,mx,hq,oY,M,bs,br,ly,b5,eo,bP]<;>try refine ae ?_ ?_)
def lz (a b:Raw):Raw×Int:=if (cK a&&cK b)=true then nR (gP a+gP b) else ((0,[]),1)
def Jq {x y:Int}(L:x.natAbs<cY)(ak:y.natAbs<cY):lz (bb x) (bb y)=nR (x+y):=by
 unfold lz;rw[jZ L,jZ ak,eK,eK]
 rfl
def Fu (a b:Nat):(aH (a-b)).length<=(aH a).length:=by
 rw[fY];exact yy (Nat.sub_le a b) (fY.1 (c9 _))
def NX:=bI iO λ(s,l,s2,Z)=>ca (D l<=1000000/\D Z<=1000000) (.same (eo (lz (s,l) (s2,Z))))
@[go_sem] def az0 (s l s2 Z):=cl NX rfl qI (s,l,s2,Z) rfl
def am4 (T:bj)(fb:T kF=aG tO)(Jr:T SM=aG NH)(ua:T IK=aG I5)(ub:T EV=aG I7)(jC:T BY=aG E9)(hq:T oc=aG yu)(oY:T tK=aG Fs):WF T Z7 NX:=by
 refine b7 λ(s,l,s2,Z)=>cq λY=>⟨rfl,b6 ?_⟩;simp only[Z7,iO,bX];obtain⟨bs,br⟩:=Y
 by_cases M:cK (s,l)=true
 ·by_cases aW:cK (s2,Z)=true
  ·obtain⟨x,L,e⟩:=(hp _).1 M;obtain⟨y,ak,az⟩:=(hp _).1 aW;have hm:lz (s,l) (s2,Z)=nR (x+y):=by rw[e,az];exact Jq L ak
   rw[hm];clear hm
   cases e
   cases az;have F:=m5 x;have G:=m5 y;have mz:=m4 L;have k2:=m4 ak;have NY:=Fp x;have am5:=Fp y
   have nT:(x.sign=1/\0<x)\/(x.sign=0/\x=0)\/(x.sign = -1/\x<0):=by
    rcases oX x 0 with h|h|h
    ·exact .inr (.inr ⟨kJ h,h⟩)
    ·exact .inr (.inl ⟨by rw[h];rfl,h⟩)
    ·exact .inl ⟨gq h,h⟩
   have ty:(y.sign=1/\0<y)\/(y.sign=0/\y=0)\/(y.sign = -1/\y<0):=by
    rcases oX y 0 with h|h|h
    ·exact .inr (.inr ⟨kJ h,h⟩)
    ·exact .inr (.inl ⟨by rw[h];rfl,h⟩)
    ·exact .inl ⟨gq h,h⟩
   have sI:=aay x.natAbs y.natAbs ⟨by omega,by omega⟩
   simp only[dv] at sI
   have hlen:(aH (x.natAbs+y.natAbs)).length<=1000000:=by
    refine iG ((fY (k:=61)).2 ?_) (by omega);have:(1048576^61:Nat)=cY*1048576:=by unfold cY;rw[<-z5]
    omega
   have tT:=alQ [x.sign,y.sign] (by simp);simp only[g0,bP,aI] at tT;have eY:=Tm x.natAbs y.natAbs ⟨by omega,by omega⟩
   simp only[dv] at eY
   by_cases aR:x.sign*y.sign>=0
   ·have hw:IntKind.i64.wrap (x.sign*y.sign)=x.sign*y.sign:=by
     rcases nT with ⟨e,_⟩|⟨e,_⟩|⟨e,_⟩<;>rw[e]<;>exact wrap64 _ (by omega) (by omega)
    have Q:jX (yt [x.sign,y.sign]) (aH (x.natAbs+y.natAbs))=bb (x+y):=by
     refine m3 ?_ ?_
     ·rcases nT with ⟨e,_⟩|⟨e,_⟩|⟨e,_⟩<;>rcases ty with ⟨e',_⟩|⟨e',_⟩|⟨e',_⟩<;>rw[e,e'] at aR<;>omega
     ·intro aC;rcases nT with ⟨e,_⟩|⟨e,_⟩|⟨e,_⟩<;>rcases ty with ⟨e',_⟩|⟨e',_⟩|⟨e',_⟩<;>rw[e,e'] at aR ⊢
      ·exact (gq (by omega)).symm
      ·exact (gq (by omega)).symm
      ·omega
      ·exact (gq (by omega)).symm
      ·omega
      ·exact (kJ (by omega)).symm
      ·omega
      ·exact (kJ (by omega)).symm
      ·exact (kJ (by omega)).symm
    refine ah ?_;repeat' (intro (ai:_=_)<;>simp only[ai,go_sem,go_sem_proc,fb,Jr,ua,ub,jC,hq,oY,M,aW,bs,br,hw,aR,decide_true,tT,sI,hlen,Q,ve,b5,eo,ot]<;>try refine ae ?_ ?_)
   ·have hw:IntKind.i64.wrap (x.sign*y.sign)=x.sign*y.sign:=by
     rcases nT with ⟨e,_⟩|⟨e,_⟩|⟨e,_⟩<;>rw[e]<;>exact wrap64 _ (by omega) (by omega)
    by_cases aq:x.natAbs<y.natAbs
    ·have oZ:decide (gd x.natAbs y.natAbs<0)=true:=by unfold gd;rw[aL (by simp;omega)];rfl
     have g2:=Tv y.natAbs x.natAbs ⟨by omega,by omega⟩
     simp only[dv] at g2;have vf:(aH (y.natAbs-x.natAbs)).length<=1000000:=iG (Fu _ _) (by omega)
     have Q:jX y.sign (aH (y.natAbs-x.natAbs))=bb (x+y):=by
      refine m3 ?_ ?_
      ·rcases nT with ⟨e,_⟩|⟨e,_⟩|⟨e,_⟩<;>rcases ty with ⟨e',_⟩|⟨e',_⟩|⟨e',_⟩<;>rw[e,e'] at aR<;>omega
      ·intro aC;rcases nT with ⟨e,_⟩|⟨e,_⟩|⟨e,_⟩<;>rcases ty with ⟨e',_⟩|⟨e',_⟩|⟨e',_⟩<;>rw[e,e'] at aR<;>rw[e']<;>first|omega|exact (gq (by omega)).symm|exact (kJ (by omega)).symm
     refine ah ?_;repeat' (intro (ai:_=_)<;>simp only[ai,go_sem,go_sem_proc,fb,Jr,ua,ub,jC,hq,oY,M,aW,bs,br,hw,aR,decide_false,eY,oZ,g2,vf,Q,ve,b5,eo,ot]<;>try refine ae ?_ ?_)
    ·have oZ:decide (gd x.natAbs y.natAbs<0)=false:=by unfold gd;rw[aT (by simp;omega)];split<;>rfl
     have g2:=Tv x.natAbs y.natAbs ⟨by omega,by omega⟩
     simp only[dv] at g2;have vf:(aH (x.natAbs-y.natAbs)).length<=1000000:=iG (Fu _ _) (by omega)
     have Q:jX x.sign (aH (x.natAbs-y.natAbs))=bb (x+y):=by
      refine m3 ?_ ?_
      ·rcases nT with ⟨e,_⟩|⟨e,_⟩|⟨e,_⟩<;>rcases ty with ⟨e',_⟩|⟨e',_⟩|⟨e',_⟩<;>rw[e,e'] at aR<;>omega
      ·intro aC;rcases nT with ⟨e,_⟩|⟨e,_⟩|⟨e,_⟩<;>rcases ty with ⟨e',_⟩|⟨e',_⟩|⟨e',_⟩<;>rw[e,e'] at aR<;>rw[e]<;>first|omega|exact (gq (by omega)).symm|exact (kJ (by omega)).symm
     refine ah ?_;repeat' (intro (ai:_=_)<;>simp only[ai,go_sem,go_sem_proc,fb,Jr,ua,ub,jC,hq,oY,M,aW,bs,br,hw,aR,decide_false,eY,oZ,g2,vf,Q,ve,b5,eo,ot]<;>try refine ae ?_ ?_)
  ·have aW:cK (s2,Z)=false:=by simpa using aW
   have hm:lz (s,l) (s2,Z)=((0,[]),1):=by unfold lz;rw[aW,iZ];rfl
   rw[hm];have ly:=Ft false 0 [];simp only[bP] at ly;refine ah ?_;repeat' (intro (ai:_=_)<;>simp only[ai,go_sem,go_sem_proc,fb,Jr,ua,ub,jC,hq,oY,M,aW,bs,br,ly,b5,eo,bP]<;>try refine ae ?_ ?_)
 ·have M:cK (s,l)=false:=by simpa using M
  have hm:lz (s,l) (s2,Z)=((0,[]),1):=by unfold lz;rw[M,eO];rfl
  rw[hm];have ly:=Ft false 0 [];simp only[bP] at ly;refine ah ?_;repeat' (intro (ai:_=_)<;>simp only[ai,go_sem,go_sem_proc,fb,Jr,ua,ub,jC,hq,oY,M,bs,br,ly,b5,eo,bP]<;>try refine ae ?_ ?_)
def kl (x:Int):(x.sign=1/\0<x)\/(x.sign=0/\x=0)\/(x.sign = -1/\x<0):=by
 rcases oX x 0 with h|h|h
 ·exact .inr (.inr ⟨kJ h,h⟩)
 ·exact .inr (.inl ⟨by rw[h];rfl,h⟩)
 ·exact .inl ⟨gq h,h⟩
def pP (a b:Raw):Int:=if (cK a&&cK b)=true then gd (gP a) (gP b) else 0
def Js {x y:Int}(L:x.natAbs<cY)(ak:y.natAbs<cY):pP (bb x) (bb y)=gd x y:=by
 unfold pP;rw[jZ L,jZ ak,eK,eK]
 rfl
def yJ {x y:Int}(h:x<y):gd x y = -1:=by unfold gd;rw[aL (by simpa using h)]
def Cn {x y:Int}(h:y<x):gd x y=1:=by unfold gd;rw[aT (by simp;omega),aL (by simpa using h)]
def Fv (x:Int):gd x x=0:=by unfold gd;simp
def NZ:=bI iO λ(s,l,s2,Z)=>ca (D l<=1000000/\D Z<=1000000) (.same (.int .i64 (pP (s,l) (s2,Z))))
@[go_sem] def az1 (s l s2 Z):=cl NZ rfl qI (s,l,s2,Z) rfl
def am6 (T:bj)(fb:T kF=aG tO)(tQ:T EW=aG I3)(jC:T BY=aG E9):WF T Z2 NZ:=by
 refine b7 λ(s,l,s2,Z)=>cq λY=>⟨rfl,b6 ?_⟩;simp only[Z2,iO,bX];obtain⟨bs,br⟩:=Y
 by_cases M:cK (s,l)=true
 ·by_cases aW:cK (s2,Z)=true
  ·obtain⟨x,L,e⟩:=(hp _).1 M;obtain⟨y,ak,az⟩:=(hp _).1 aW;have hm:pP (s,l) (s2,Z)=gd x y:=by rw[e,az];exact Js L ak
   rw[hm];clear hm
   cases e
   cases az;have mz:=m4 L;have k2:=m4 ak;have eY:=Tm x.natAbs y.natAbs ⟨by omega,by omega⟩
   simp only[dv] at eY
   by_cases Q:x.sign=y.sign
   ·have vg:(x.sign==y.sign)=true:=by simpa using Q
    have jS:IntKind.i64.wrap (y.sign*gd x.natAbs y.natAbs)=gd x y:=by
     rcases kl x with ⟨e,F⟩|⟨e,F⟩|⟨e,F⟩<;>rcases kl y with ⟨e',G⟩|⟨e',G⟩|⟨e',G⟩<;>rw[e,e'] at Q<;>first|omega|skip
     ·rw[e',oj,show (x.natAbs:Int)=x by omega,show (y.natAbs:Int)=y by omega]
      rcases oX x y with h|h|h
      ·rw[yJ h];rfl
      ·rw[h,Fv];rfl
      ·rw[Cn h];rfl
     ·rw[e',F,G];rfl
     ·rw[e'];rcases oX x y with h|h|h
      ·rw[yJ h,Cn (by omega)];rfl
      ·rw[h,Fv,Fv];rfl
      ·rw[Cn h,yJ (by omega)];rfl
    rw[<-Q] at jS;refine ah ?_;repeat' (intro (ai:_=_)<;>simp only[ai,go_sem,go_sem_proc,fb,tQ,jC,M,aW,bs,br,vg,eY,jS]<;>try refine ae ?_ ?_)
   ·have vg:(x.sign==y.sign)=false:=by simpa using Q
    have jS:gd x.sign y.sign=gd x y:=by
     rcases kl x with ⟨e,F⟩|⟨e,F⟩|⟨e,F⟩<;>rcases kl y with ⟨e',G⟩|⟨e',G⟩|⟨e',G⟩<;>rw[e,e'] at Q ⊢<;>first|omega|(rw[yJ (show x<y by omega)];rfl)|(rw[Cn (show y<x by omega)];rfl)
    refine ah ?_;repeat' (intro (ai:_=_)<;>simp only[ai,go_sem,go_sem_proc,fb,tQ,jC,M,aW,bs,br,vg,jS]<;>try refine ae ?_ ?_)
  ·have aW:cK (s2,Z)=false:=by simpa using aW
   have hm:pP (s,l) (s2,Z)=0:=by unfold pP;rw[aW,iZ];rfl
   rw[hm];refine ah ?_;repeat' (intro (ai:_=_)<;>simp only[ai,go_sem,go_sem_proc,fb,tQ,jC,M,aW,bs,br]<;>try refine ae ?_ ?_)
 ·have M:cK (s,l)=false:=by simpa using M
  have hm:pP (s,l) (s2,Z)=0:=by unfold pP;rw[M,eO];rfl
  rw[hm];refine ah ?_;repeat' (intro (ai:_=_)<;>simp only[ai,go_sem,go_sem_proc,fb,tQ,jC,M,bs,br]<;>try refine ae ?_ ?_)
def mA (a b:Raw):Raw×Int:=if (cK a&&cK b)=true then (bb (gr (gP a).natAbs (gP b).natAbs:Nat),0) else ((0,[]),1)
def Fw {x y:Int}(L:x.natAbs<cY)(ak:y.natAbs<cY):gr x.natAbs y.natAbs<cY:=by
 rcases ln x.natAbs with h|h
 ·rw[h,Nat.gcd_zero_left];exact ak
 ·exact yy (Nat.gcd_le_left _ h) L
def Jt:=bI iO λ(s,l,s2,Z)=>ca (D l<=1000000/\D Z<=1000000) (.same (eo (mA (s,l) (s2,Z))))
@[go_sem] def az2 (s l s2 Z):=cl Jt rfl qI (s,l,s2,Z) rfl
def am7 (T:bj)(fb:T kF=aG tO)(hK:T wH=aG Ab)(rq:T IH=aG Ji)(hq:T oc=aG yu)(oY:T tK=aG Fs):WF T ZX Jt:=by
 refine b7 λ(s,l,s2,Z)=>cq λY=>⟨rfl,b6 ?_⟩;simp only[ZX,iO,bX];obtain⟨bs,br⟩:=Y
 by_cases M:cK (s,l)=true
 ·by_cases aW:cK (s2,Z)=true
  ·obtain⟨x,L,e⟩:=(hp _).1 M;obtain⟨y,ak,az⟩:=(hp _).1 aW
   have hm:mA (s,l) (s2,Z)=(bb (gr x.natAbs y.natAbs:Nat),0):=by
    rw[e,az];unfold mA
    rw[jZ L,jZ ak,eK,eK]
    rfl
   rw[hm];clear hm
   cases e
   cases az;have mz:=m4 L;have k2:=m4 ak;have aN:=Fw L ak;generalize oh:x.natAbs=X at *;generalize yK:y.natAbs=nq at *;have Ju:(aH X).length<=1000000:=by omega
   simp only[go_sem,go_sem_proc,fb,hK,rq,hq,oY,M,aW,oh,yK,bs,br,Ju,aI,aj];refine cX [4] [137004] (λ((a,b):Nat×Nat) tm mem=>a<cY/\b<cY/\gr X nq=gr a b/\tm 6=.J (.ar ((aH a).map aI))/\tm 7=.J (.ar ((aH b).map aI))) (λ(_,b)=>b) (X,nq) (by refine⟨L,ak,rfl,rfl,rfl⟩) ?_;intro vs ms aK aF;simp only[go_sem,go_sem_proc,fb,hK,rq,hq,oY,oh,yK] at aK aF;subst aK aF;rintro⟨a,b⟩ tm mem R hm ⟨bc,U,vh,bA,bM⟩;simp only[go_sem,go_sem_proc,fb,hK,rq,hq,oY,bl] at R hm;have aZ:=R;have nj:(aH a).length<=60:=fY.2 bc;have qE:(aH b).length<=60:=fY.2 U;rcases ln b with au|h3
   ·subst au;have a2:aH 0=[]:=rfl;have T3:(aH a).length<=1000000:=by omega
    rw[Nat.gcd_zero_right] at vh;have Q:jX 1 (aH a)=bb ((a:Nat):Int):=m3 (by simp) λaC=>(gq (by omega)).symm;have R:nR ((a:Nat):Int)=(bb ((a:Nat):Int),0):=by unfold nR;rw[aL (by simpa using bc)]
    rw[vh];refine ah ?_;repeat' (intro h<;>simp only[h,go_sem,go_sem_proc,fb,hK,rq,hq,oY,aZ,bA,bM,hm,a2,T3,Q,R,ve,b5,eo,ot,bP,mV,oe,oV,show ¬ ((0:Int)>0) by omega,decide_false]<;>try refine ae ?_ ?_)
   ·have bq:decide (((aH b).length:Int)>0)=true:=by
     have:aH b≠[]:=by rw[Ne,yi];omega
     have:=abz.2 this;exact c7
    have hdiv:=aa4 a b ⟨by omega,by omega,h3⟩
    simp only[dv] at hdiv;refine ah ?_;repeat' (intro h<;>simp only[h,go_sem,go_sem_proc,fb,hK,rq,hq,oY,aZ,bA,bM,hm,bq,hdiv,aj]<;>try refine ae ?_ ?_)
    exact⟨(b,a%b),oQ _ h3,U,yy (Nat.mod_le _ _) bc,by dsimp only;rw[vh,Jv a b,Nat.gcd_rec b a,Jv],rfl,rfl⟩
  ·have aW:cK (s2,Z)=false:=by simpa using aW
   have hm:mA (s,l) (s2,Z)=((0,[]),1):=by unfold mA;rw[aW,iZ];rfl
   rw[hm];have ly:=Ft false 0 [];simp only[bP] at ly;refine ah ?_;repeat' (intro h<;>simp only[h,go_sem,go_sem_proc,fb,hK,rq,hq,oY,M,aW,bs,br,ly,b5,eo,bP]<;>try refine ae ?_ ?_)
 ·have M:cK (s,l)=false:=by simpa using M
  have hm:mA (s,l) (s2,Z)=((0,[]),1):=by unfold mA;rw[M,eO];rfl
  rw[hm];have ly:=Ft false 0 [];simp only[bP] at ly;refine ah ?_;repeat' (intro h<;>simp only[h,go_sem,go_sem_proc,fb,hK,rq,hq,oY,M,bs,br,ly,b5,eo,bP]<;>try refine ae ?_ ?_)
def l1 (a b:Raw):Raw×Raw×Int :=
 if (cK a&&cK b)=true then
  if gP b=0 then ((0,[]),(0,[]),15) else (bb ((gP a).fdiv (gP b)),bb ((gP a).fmod (gP b)),0)
 else ((0,[]),(0,[]),1)
def km (x:Raw×Raw×Int):Data:=.dq [.agg (b5 x.1),.agg (b5 x.2.1),.int .i64 x.2.2]
def abA {x y q r:Int}(h:r+y*q=x)(M:(0<=r/\r<y)\/(y<r/\r<=0)):x.fdiv y=q/\x.fmod y=r:=by
 rcases M with ⟨F,G⟩|⟨F,G⟩
 ·exact (Int.fdiv_fmod_unique (by omega)).2 ⟨h,F,G⟩
 ·exact (Int.fdiv_fmod_unique' (by omega)).2 ⟨h,F,G⟩
def N0 {x y:Int}(h:x.sign*y.sign<0)(hm:x.natAbs%y.natAbs≠0):
  x.fdiv y = -((x.natAbs/y.natAbs+1:Nat):Int)/\x.fmod y=y.sign*((y.natAbs-x.natAbs%y.natAbs:Nat):Int):=by
 have G:=Ni x.natAbs y.natAbs;generalize e6:x.natAbs/y.natAbs=a5 at *;generalize ed:x.natAbs%y.natAbs=bH at *
 have ak:0<y.natAbs:=by
  rcases ln y.natAbs with au|au
  ·rw[Int.natAbs_eq_zero.1 au] at h;simp at h
  ·exact au
 have aq:bH<y.natAbs:=by rw[<-ed];exact oQ _ ak
 have uU:(y.natAbs:Int)*a5+bH=x.natAbs:=by exact_mod_cast G
 refine abA ?_ ?_
 ·rcases kl x with ⟨e,F⟩|⟨e,F⟩|⟨e,F⟩<;>rcases kl y with ⟨e',ad⟩|⟨e',ad⟩|⟨e',ad⟩<;>rw[e,e'] at h<;>first|omega|rw[e']
  ·rw[abB (by omega),abC,Fg,h9];have:(y.natAbs:Int) = -y:=by omega
   rw[this] at uU ⊢;rw[Cl] at uU;omega
  ·rw[abB (by omega),abC,Fg,h9];have:(y.natAbs:Int)=y:=by omega
   rw[this] at uU ⊢;omega
 ·rcases kl y with ⟨e',ad⟩|⟨e',ad⟩|⟨e',ad⟩<;>rw[e']<;>omega
def N1 {x y:Int}(ak:y≠0)(h:¬ (x.sign*y.sign<0/\x.natAbs%y.natAbs≠0)):
  x.fdiv y=x.sign*y.sign*((x.natAbs/y.natAbs:Nat):Int)/\x.fmod y=x.sign*((x.natAbs%y.natAbs:Nat):Int):=by
 have G:=Ni x.natAbs y.natAbs;have aq:x.natAbs%y.natAbs<y.natAbs:=oQ _ (by omega);generalize e6:x.natAbs/y.natAbs=a5 at *;generalize ed:x.natAbs%y.natAbs=bH at *;have uU:(y.natAbs:Int)*a5+bH=x.natAbs:=by exact_mod_cast G
 refine abA ?_ ?_
 ·rcases kl x with ⟨e,F⟩|⟨e,F⟩|⟨e,F⟩<;>rcases kl y with ⟨e',ad⟩|⟨e',ad⟩|⟨e',ad⟩<;>first|omega|(rw[e,e'])
  ·rw[show (y.natAbs:Int)=y by omega] at uU;simp only[oj];omega
  ·rw[show (y.natAbs:Int) = -y by omega,Cl] at uU;simp only[oj,Cl,Fg];omega
  ·simp only[yL,wQ];omega
  ·simp only[yL,wQ];omega
  ·rw[show (y.natAbs:Int)=y by omega] at uU;simp only[oj,Cl,Fg,qB];omega
  ·rw[show (y.natAbs:Int) = -y by omega,Cl] at uU;simp only[oj,Cl,Fg,Int.neg_neg];omega
 ·have amI:x.natAbs=0->bH=0:=by
   intro au;rw[<-ed,au,abD]
  rcases kl x with ⟨e,F⟩|⟨e,F⟩|⟨e,F⟩<;>rcases kl y with ⟨e',ad⟩|⟨e',ad⟩|⟨e',ad⟩<;>rw[e,e'] at h<;>rw[e]<;>omega
def Fx {x y:Int}(L:x.natAbs<cY)(hM:y≠0):(x.fdiv y).natAbs<cY:=by
 by_cases h:x.sign*y.sign<0/\x.natAbs%y.natAbs≠0
 ·have al:=(N0 h.1 h.2).1;have G:=Ni x.natAbs y.natAbs
  have:x.natAbs/y.natAbs+1<=x.natAbs:=by
   have Co:2<=y.natAbs:=by
    rcases gY y.natAbs 2 with au|au
    ·have:y.natAbs=1:=by omega
     rw[this,Nat.mod_one] at h;exact absurd rfl h.2
    ·exact au
   have ad:2*(x.natAbs/y.natAbs)<=y.natAbs*(x.natAbs/y.natAbs):=q7 _ Co;omega
  generalize x.natAbs/y.natAbs=a5 at *;omega
 ·have al:=(N1 hM h).1;have ad:x.natAbs/y.natAbs<=x.natAbs:=abE _ _
  have aZ:(x.fdiv y).natAbs<=x.natAbs/y.natAbs:=by
   rw[al,yG,yG,nr];have F:x.sign.natAbs<=1:=by have:=m5 x;omega
   have G:y.sign.natAbs<=1:=by have:=m5 y;omega
   have:=Nat.mul_le_mul F G;have:=q7 (x.natAbs/y.natAbs) this;omega
  omega
def abF {x y:Int}(ak:y.natAbs<cY)(hM:y≠0):(x.fmod y).natAbs<cY:=by
 by_cases h:x.sign*y.sign<0/\x.natAbs%y.natAbs≠0
 ·have al:=(N0 h.1 h.2).2;rcases kl y with ⟨e',ad⟩|⟨e',ad⟩|⟨e',ad⟩<;>rw[e'] at al<;>omega
 ·have al:=(N1 hM h).2;have aq:x.natAbs%y.natAbs<y.natAbs:=oQ _ (by omega);rcases kl x with ⟨e',ad⟩|⟨e',ad⟩|⟨e',ad⟩<;>rw[e'] at al<;>omega
def yM {x y:Int}(L:x.natAbs<cY)(ak:y.natAbs<cY)(au:y≠0):l1 (bb x) (bb y)=(bb (x.fdiv y),bb (x.fmod y),0):=by
 unfold l1;rw[jZ L,jZ ak,eK,eK,aL (by rfl),aT au]
def Jw:=bI iO λ(s,l,s2,Z)=>ca (D l<=1000000/\D Z<=1000000) (.same (km (l1 (s,l) (s2,Z))))
@[go_sem] def az3 (s l s2 Z):=cl Jw rfl qI (s,l,s2,Z) rfl
def am8 (T:bj)(fb:T kF=aG tO)(rq:T IH=aG Ji)(ua:T IK=aG I5)(ub:T EV=aG I7)(hq:T oc=aG yu):WF T Z1 Jw:=by
 refine b7 λ(s,l,s2,Z)=>cq λY=>⟨rfl,b6 ?_⟩;simp only[Z1,iO,bX];obtain⟨bs,br⟩:=Y
 by_cases M:cK (s,l)=true
 ·by_cases aW:cK (s2,Z)=true
  ·obtain⟨x,L,e⟩:=(hp _).1 M;obtain⟨y,ak,az⟩:=(hp _).1 aW
   by_cases hM:y=0
   ·have hm:l1 (s,l) (s2,Z)=((0,[]),(0,[]),15):=by
     rw[e,az];unfold l1
     rw[jZ L,jZ ak,eK,eK,aL (by rfl),aL hM]
    rw[hm]
    cases e
    cases az;have au:((y.sign:Int)==0)=true:=by rw[hM];rfl
    refine ah ?_;repeat' (intro (ai:_=_)<;>simp only[ai,go_sem,go_sem_proc,fb,rq,ua,ub,hq,M,aW,bs,br,au,b5,km,bP]<;>try refine ae ?_ ?_)
   ·have hm:l1 (s,l) (s2,Z)=(bb (x.fdiv y),bb (x.fmod y),0):=by
     rw[e,az];exact yM L ak hM
    rw[hm];clear hm
    cases e
    cases az;have mz:=m4 L;have k2:=m4 ak;have Cp:(y.sign==0)=false:=by rw[beq_eq_false_iff_ne,Ne,Int.sign_eq_zero_iff_zero];exact hM
    have Cq:0<y.natAbs:=by omega
    have F:=m5 x;have G:=m5 y;have aR:x.sign*y.sign=(x*y).sign:=(nS x y).symm;have ad:=m5 (x*y);have hw:IntKind.i64.wrap (x.sign*y.sign)=x.sign*y.sign:=by rw[aR];exact wrap64 _ (by omega) (by omega)
    have hdiv:=aa4 x.natAbs y.natAbs ⟨by omega,by omega,Cq⟩
    simp only[dv] at hdiv;have aU:=Fx (y:=y) L hM;have Fy:=abF (x:=x) ak hM;have T4:x.natAbs/y.natAbs<cY:=yy (abE _ _) L;have am9:(aH (x.natAbs/y.natAbs)).length<=60:=fY.2 T4;have yN:x.natAbs%y.natAbs<cY:=Nat.lt_trans (oQ _ Cq) ak;have ana:(aH (x.natAbs%y.natAbs)).length<=60:=fY.2 yN
    by_cases sJ:x.sign*y.sign<0/\x.natAbs%y.natAbs≠0
    ·obtain⟨eq,sK⟩:=N0 sJ.1 sJ.2
     have bq:decide (((aH (x.natAbs%y.natAbs)).length:Int)>0)=true:=by
      have:aH (x.natAbs%y.natAbs)≠[]:=by rw[Ne,yi];exact sJ.2
      have:=abz.2 this;exact c7
     have l0:decide (x.sign*y.sign<0)=true:=mL sJ.1;have jY:aH 1=[1]:=by simp[aH,wF]
     have anb:(aH 1).length=1:=by rw[jY];rfl
     have sI:=aay (x.natAbs/y.natAbs) 1 ⟨by omega,by omega⟩
     simp only[dv,jY,g0,bP,aI] at sI;have g2:=Tv y.natAbs (x.natAbs%y.natAbs) ⟨by omega,Nat.le_of_lt (oQ _ Cq)⟩
     simp only[dv] at g2
     have nj:(aH (x.natAbs/y.natAbs+1)).length<=1000000:=by
      have:(x.natAbs/y.natAbs+1)<cY:=by rw[eq] at aU;rw[rr,nr] at aU;exact aU
      have:=(fY (k:=60)).2 this;omega
     have qE:(aH (y.natAbs-x.natAbs%y.natAbs)).length<=1000000:=by have:=Fu y.natAbs (x.natAbs%y.natAbs);omega
     have fv:jX (-1) (aH (x.natAbs/y.natAbs+1))=bb (x.fdiv y):=m3 (by rw[eq,rr,nr]) λ_=>by rw[eq,yH,gq (show (0:Int)<((x.natAbs/y.natAbs+1:Nat):Int) by exact Cr.2 (Nat.succ_pos _))]
     have hO:jX y.sign (aH (y.natAbs-x.natAbs%y.natAbs))=bb (x.fmod y):=by
      refine m3 ?_ λaC=>?_
      ·rw[sK];rcases kl y with ⟨e',ad⟩|⟨e',ad⟩|⟨e',ad⟩<;>rw[e']<;>omega
      ·rw[sK,nS,yO,gq (show (0:Int)<((y.natAbs-x.natAbs%y.natAbs:Nat):Int) by omega),qB]
     refine ah ?_;repeat' (intro (ai:_=_)<;>simp only[ai,go_sem,go_sem_proc,fb,rq,ua,ub,hq,M,aW,bs,br,Cp,hw,hdiv,bq,l0,sI,g2,nj,qE,fv,hO,aI,aj,b5,km,ot]<;>try refine ae ?_ ?_)
    ·obtain⟨eq,sK⟩:=N1 hM sJ
     have T5:(decide (x.sign*y.sign<0)=true/\decide (((aH (x.natAbs%y.natAbs)).length:Int)>0)=false)\/decide (x.sign*y.sign<0)=false:=by
      by_cases aC:x.sign*y.sign<0
      ·left
       have:x.natAbs%y.natAbs=0:=Decidable.not_not.1 λh=>sJ ⟨aC,h⟩;rw[this];exact⟨mL aC,rfl⟩
      ·right;exact me aC
     have nj:(aH (x.natAbs/y.natAbs)).length<=1000000:=by omega
     have qE:(aH (x.natAbs%y.natAbs)).length<=1000000:=by omega
     have fv:jX (x.sign*y.sign) (aH (x.natAbs/y.natAbs))=bb (x.fdiv y):=by
      refine m3 ?_ λaC=>?_
      ·rw[eq]
       have uc:∀a5:Nat,(x=0->a5=0)->(x.sign*y.sign*(a5:Int)).natAbs=a5:=by
        intro a5 au;rcases kl x with ⟨e,F⟩|⟨e,F⟩|⟨e,F⟩<;>rcases kl y with ⟨e',ad⟩|⟨e',ad⟩|⟨e',ad⟩<;>rw[e,e']<;>first|omega|(rw[au F];rfl)
       exact uc _ λau=>by rw[au];exact Nat.zero_div _
      ·rw[eq,aR,nS,nS,nS,yO,yO,gq (show (0:Int)<((x.natAbs/y.natAbs:Nat):Int) from Cr.2 (EK aC)),qB]
     have hO:jX x.sign (aH (x.natAbs%y.natAbs))=bb (x.fmod y):=by
      refine m3 ?_ λaC=>?_
      ·rw[sK]
       have uc:∀a5:Nat,(x=0->a5=0)->(x.sign*(a5:Int)).natAbs=a5:=by
        intro a5 au;rcases kl x with ⟨e,F⟩|⟨e,F⟩|⟨e,F⟩<;>rw[e]<;>first|omega|(rw[au F];rfl)
       exact uc _ λau=>by rw[au];exact abD _
      ·rw[sK,nS,yO,gq (show (0:Int)<((x.natAbs%y.natAbs:Nat):Int) from Cr.2 (EK aC)),qB]
     rcases T5 with ⟨Cs,T6⟩|Cs
     ·refine ah ?_;repeat' (intro (ai:_=_)<;>simp only[ai,go_sem,go_sem_proc,fb,rq,ua,ub,hq,M,aW,bs,br,Cp,hw,hdiv,Cs,T6,nj,qE,fv,hO,aI,aj,b5,km,ot]<;>try refine ae ?_ ?_)
     ·refine ah ?_;repeat' (intro (ai:_=_)<;>simp only[ai,go_sem,go_sem_proc,fb,rq,ua,ub,hq,M,aW,bs,br,Cp,hw,hdiv,Cs,nj,qE,fv,hO,aI,aj,b5,km,ot]<;>try refine ae ?_ ?_)
  ·have aW:cK (s2,Z)=false:=by simpa using aW
   have hm:l1 (s,l) (s2,Z)=((0,[]),(0,[]),1):=by unfold l1;rw[aW,iZ];rfl
   rw[hm];refine ah ?_;repeat' (intro (ai:_=_)<;>simp only[ai,go_sem,go_sem_proc,fb,rq,ua,ub,hq,M,aW,bs,br,b5,km,bP]<;>try refine ae ?_ ?_)
 ·have M:cK (s,l)=false:=by simpa using M
  have hm:l1 (s,l) (s2,Z)=((0,[]),(0,[]),1):=by unfold l1;rw[M,eO];rfl
  rw[hm];refine ah ?_;repeat' (intro (ai:_=_)<;>simp only[ai,go_sem,go_sem_proc,fb,rq,ua,ub,hq,M,bs,br,b5,km,bP]<;>try refine ae ?_ ?_)
def dY (n:Int):Prop:=-9223372036854775808<=n/\n<=9223372036854775807
def anc {n:Nat}(h:n<=9223372036854775808):n<cY:=by
 unfold cY;refine Bh (m:=1048576^4) ?_ (An (by omega) (by omega));omega
def yP {n:Int}(h:dY n):n.natAbs<cY:=anc (by unfold dY at h;omega)
def T7 (n:Int)(F:-18446744073709551616<=n)(G:n<0):IntKind.u64.wrap n=n+18446744073709551616:=by
 unfold IntKind.wrap;simp[IntKind.bits,IntKind.signed];omega
def N2:=bI tN λ(n:Int)=>ca (dY n) (.same (.agg (b5 (bb n))))
@[go_sem] def az4 (n):=cl N2 rfl I1 n rfl
def ane (T:bj)(hq:T oc=aG yu):WF T ZZ N2:=by
 refine b7 λn=>cq λY=>⟨rfl,b6 ?_⟩;simp only[ZZ,tN,bX];have uV:=Y;unfold dY at uV;obtain⟨uN,qi⟩:=uV;have Q:∀s:Int,(n≠0->s=n.sign)->jX s (aH n.natAbs)=bb n:=λs h=>m3 rfl λbq=>h (by omega);have hlen:(aH n.natAbs).length<=60:=fY.2 (yP Y);rcases du (n<0) with l0|h3
 ·have hw:=T7 n (by omega) l0
  have gp:IntKind.u64.wrap (0-(n+18446744073709551616))=(n.natAbs:Int):=by
   rw[T7 _ (by omega) (by omega)];omega
  simp only[go_sem,go_sem_proc,hq,l0,hw,gp,decide_true];refine cX [2,3] [150002] (λ((u,g,l):Nat×Nat×List Int) tm mem=>u<=9223372036854775808/\aH n.natAbs=l++aH u/\tm 4=.J (.int .u64 u)/\tm 5=.ref 150021 g 1 0 (D l)/\mem 150021=some (g,aS aI l)) (λ(u,_)=>u) (n.natAbs,0,[]) (by refine⟨by omega,rfl,?_,rfl,rfl⟩;rfl) ?_;intro vs ms aK aF;simp only[go_sem,go_sem_proc,hq] at aK aF;subst aK aF;rintro⟨u,g,l⟩ tm mem R hm ⟨hu,af,aZ,bw,qJ⟩;simp only[go_sem,go_sem_proc,hq,bl] at R hm;obtain⟨G,ad⟩:=R;rcases ln u with au|Ap
  ·subst au;rw[sq,mX] at af;rw[af] at Q hlen;have Aq:(D l)<=1000000:=by omega
   have eH:=Q (-1) (λ_=>by exact (kJ l0).symm);refine ah ?_;repeat' (intro (ai:_=_)<;>simp only[ai,go_sem,go_sem_proc,hq,G,ad,aZ,bw,hm,qJ,eH,Aq,b5,oe,oV,aj,show ¬ ((0:Int)>0) by omega,decide_false,sl jA,mB]<;>try refine ae ?_ ?_)
  ·have yC:(D l)<=60:=by
    have:=congrArg D af;rw[ks] at this;omega
   have kE:decide ((u:Int)>0)=true:=c7;have c1:∀a:Int,lf 150021 g 1 (D l) 8 1 [.J (.int .i64 a)] (some (g,aS aI l))=_:=λa=>lq jA wG 150021 g 8 l a rfl (by omega) (by omega);have hand:=ZT u ⟨by omega,by omega⟩
   have Er:IntKind.i64.wrap ((u:Int)%1048576)=(u:Int)%1048576:=wrap64 _ (by omega) (by omega);refine ah ?_;repeat' (intro (ai:_=_)<;>simp only[ai,go_sem,go_sem_proc,hq,G,ad,aZ,bw,hm,qJ,kE,c1,hand,Er,u7,show ((20:Int)<0)=False from by simp,if_false,aj,bl]<;>try refine ae ?_ ?_)
   refine⟨(u/1048576,g+1,l++[(u:Int)%1048576]),by dsimp only;omega,by dsimp only;omega,by dsimp only;rw[ki,af,tG Ap];rfl,by first|rfl|(dsimp only;rw[yl _ ⟨by omega,by omega⟩];rfl),by simp,by simp[go_sem]⟩
 ·have hw:IntKind.u64.wrap n=(n.natAbs:Int):=by rw[yl _ ⟨by omega,by omega⟩];omega
  simp only[go_sem,go_sem_proc,hq,h3,hw,decide_false];refine cX [2,3] [150002] (λ((u,g,l):Nat×Nat×List Int) tm mem=>u<=9223372036854775808/\aH n.natAbs=l++aH u/\tm 4=.J (.int .u64 u)/\tm 5=.ref 150021 g 1 0 (D l)/\mem 150021=some (g,aS aI l)) (λ(u,_)=>u) (n.natAbs,0,[]) (by refine⟨by omega,rfl,?_,rfl,rfl⟩;rfl) ?_;intro vs ms aK aF;simp only[go_sem,go_sem_proc,hq] at aK aF;subst aK aF;rintro⟨u,g,l⟩ tm mem R hm ⟨hu,af,aZ,bw,qJ⟩;simp only[go_sem,go_sem_proc,hq,bl] at R hm;obtain⟨G,ad⟩:=R;rcases ln u with au|Ap
  ·subst au;rw[sq,mX] at af;rw[af] at Q hlen;have Aq:(D l)<=1000000:=by omega
   have eH:=Q 1 (λ_=>by exact (gq (by omega)).symm);refine ah ?_;repeat' (intro (ai:_=_)<;>simp only[ai,go_sem,go_sem_proc,hq,G,ad,aZ,bw,hm,qJ,eH,Aq,b5,oe,oV,aj,show ¬ ((0:Int)>0) by omega,decide_false,sl jA,mB]<;>try refine ae ?_ ?_)
  ·have yC:(D l)<=60:=by
    have:=congrArg D af;rw[ks] at this;omega
   have kE:decide ((u:Int)>0)=true:=c7;have c1:∀a:Int,lf 150021 g 1 (D l) 8 1 [.J (.int .i64 a)] (some (g,aS aI l))=_:=λa=>lq jA wG 150021 g 8 l a rfl (by omega) (by omega);have hand:=ZT u ⟨by omega,by omega⟩
   have Er:IntKind.i64.wrap ((u:Int)%1048576)=(u:Int)%1048576:=wrap64 _ (by omega) (by omega);refine ah ?_;repeat' (intro (ai:_=_)<;>simp only[ai,go_sem,go_sem_proc,hq,G,ad,aZ,bw,hm,qJ,kE,c1,hand,Er,u7,show ((20:Int)<0)=False from by simp,if_false,aj,bl]<;>try refine ae ?_ ?_)
   refine⟨(u/1048576,g+1,l++[(u:Int)%1048576]),by dsimp only;omega,by dsimp only;omega,by dsimp only;rw[ki,af,tG Ap];rfl,by first|rfl|(dsimp only;rw[yl _ ⟨by omega,by omega⟩];rfl),by simp,by simp[go_sem]⟩
end Go.Mini
