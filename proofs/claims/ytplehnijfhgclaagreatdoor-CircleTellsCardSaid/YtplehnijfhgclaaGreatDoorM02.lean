/- A part of the proof. -/
import Derived.LoopN
import Derived.Laws.BitsLemmas
import Derived.ChangeSame
import Derived.Handed
import Derived.JoinedOf
import Derived.JoinedCond
import Derived.OpenShut
import Derived.ProofKit
import Derived.Test.YtplehnijfhgclaaGreatDoorM01
set_option linter.unusedSimpArgs false
set_option linter.unusedVariables false
set_option linter.defProp false
set_option maxRecDepth 100000
set_option maxHeartbeats 4000000
noncomputable section
open Bool renaming and_eq_true->fe,and_false->iZ,and_true->pF,false_and->eN,false_eq_true->cC,false_or->pE,not_false->db,not_true->cZ,or_false->tD,or_true->tC,true_and->eZ,true_or->qz
open Classical renaming choose->Ey,choose_spec->sk
open Decidable renaming em->dt
open Int renaming add_comm->yz,add_mul->sC,add_mul_ediv_left->aaJ,add_mul_emod_self_left->aaL,add_zero->Jg,bmod_def->ZP,cast_ofNat_Int->oV,ediv_eq_zero_of_lt->Tz,ediv_lt_of_lt_mul->aaM,ediv_nonneg->TB,emod_add_mul_ediv->Ab,emod_emod_of_dvd->ZQ,emod_eq_of_lt->TA,emod_lt_of_pos->TE,emod_nonneg->TD,lt_trichotomy->oX,mul_add->h9,mul_assoc->ia,mul_comm->nk,mul_le_mul->Tv,mul_le_mul_of_nonneg_left->tO,mul_le_mul_of_nonneg_right->kI,mul_left_comm->TF,mul_neg->Ff,mul_nonneg->sA,mul_one->qB,mul_right_comm->Ak,mul_sub->E9,mul_zero->wP,natAbs_mul->yF,natAbs_natCast->nr,natAbs_neg->rr,natCast_add->abB,natCast_ediv->aaI,natCast_emod->aaK,natCast_mul->aa8,natCast_pos->Cq,natCast_pow->Cf,natCast_zero->oe,neg_mul->Ck,ofNat_sub->abA,one_mul->oj,pow_add->aaG,pow_pos->Fj,pow_succ->mY,sign_eq_neg_one_of_neg->kJ,sign_eq_one_of_pos->gp,sign_mul->nS,sign_mul_natAbs->Fo,sign_neg->yG,sign_sign->yN,sign_trichotomy->Jo,sub_mul->aaZ,sub_zero->Ae,tdiv_eq_ediv_of_nonneg->Fe,tmod_eq_emod_of_nonneg->I9,toNat->BR,toNat_natCast->lX,zero_add->Ty,zero_mul->yK
open List renaming all_cons->u2,all_eq_true->kA,append_assoc->ki,append_inj->Th,append_nil->mX,concat_eq_append->St,cons_append->M8,drop->nL,drop_append->EF,drop_drop->x2,drop_eq_getElem_cons->gw,drop_eq_nil_of_le->lj,drop_left->Sg,drop_length->Sk,drop_set_of_lt->se,drop_zero->pD,eq_nil_of_length_eq_zero->q9,eq_nil_or_concat->Ss,flatMap_cons->Sm,flatten_cons->mg,getElem?_append->Ec,getElem?_drop->oI,getElem?_eq_getElem->bc,getElem?_eq_some_iff->dK,getElem?_map->bd,getElem?_take_of_lt->x5,getElem_set_self->yv,length->D,length_append->ks,length_cons->lQ,length_drop->pG,length_eq_one_iff->Zm,length_map->ah,length_nil->mV,length_pos_iff->aby,length_range->tE,length_set->fj,length_take->gj,mapM_cons->nf,mapM_nil->Zu,map_cons->gZ,map_nil->bN,mem_append->h5,mem_attach->Zs,mem_cons->kt,mem_flatMap->By,mem_iff_getElem?->yd,mem_map->h7,mem_of_getElem?->cJ,mem_of_mem_drop->Fi,mem_of_mem_take->Eh,mem_range->BM,mem_replicate->pM,mem_singleton->sE,nil_append->EA,range->qj,replicate->cf,replicate_succ->qn,take->mZ,take_add_one->hn,take_append_drop->Im,take_left->Sf,take_length->mB,take_of_length_le->dE,take_succ_cons->Ez,take_zero->M7
open List.cons renaming inj->Ce,injEq->bj
open Nat renaming add_assoc->r0,add_mul->pw,add_sub_cancel_left->EG,add_zero->lo,and_two_pow_sub_one_eq_mod->ZR,div_add_mod->Nh,div_eq_of_lt->Sj,div_le_self->abD,div_lt_iff_lt_mul->ZO,eq_zero_or_pos->ln,gcd->gq,gcd_comm->Ju,le_refl->c8,le_trans->iG,lt_of_le_of_lt->yx,lt_of_lt_of_le->Bg,lt_or_ge->gX,min_eq_left->n7,mod_eq_of_lt->Is,mod_lt->oQ,mul_comm->ye,mul_le_mul_left->aa9,mul_le_mul_right->q7,mul_one->dL,pos_of_ne_zero->EJ,pow_le_pow_right->Am,pow_succ->z4,strongRecOn->R8,zero_add->r1,zero_le->dF,zero_mod->abC,zero_mul->Ng
open Option renaming bind_eq_bind->gi,bind_eq_some_iff->dH,bind_some->zZ,map_eq_some_iff->c2,map_some->kU,pure_def->fZ
open Option.some renaming inj->mm,injEq->bM
open Prod renaming ext->cx,ext_iff->I1
open Prod.mk renaming injEq->eL
namespace Go.Mini
open Go
variable {P:Program} {b2:Option H} {T:bg} {A:Nat->Prop} {cq w:World} {dD B:cS} {mem:Mem} {n kb:Nat} {own:List Nat} {a3:Exit->Act->World->Prop}
def Zh {k:Key}{au hi:Nat->Prop}{ay:cS}{v:Value}{sz:Nat}{e:ht}(he:B k=some e)(al:aY w au ay .nil v):aY w hi B (.ref k e.g sz 0 0) v:=by
 cases al;exact .ref he (c8 _) ⟨_,0,rfl,c8 _,dF _,.inl rfl⟩
def Zi (w:World)(b i:Nat)(v:Value):Prop:=w.cell? ⟨b,i,none⟩=some v\/∃ir jj j pC,w.heap[b]?=some (.map ir jj)/\i=2*j+1/\ir.toList[j]?=some pC/\pC.val=v
def ka.val {au:Nat->Prop}{es:List MapEntry}{ms:List H}(h:ka w au B es ms):∀{j:Nat} {m:H} {pC:MapEntry},ms[2*j+1]?=some m->es[j]?=some pC->aY w au B m pC.val:=by
 induction h with
 |nil=>intro j m pC h;simp at h
 |cons Q al L a2 =>
  intro j m pC F G
  cases j with
  |zero=>simp at F G;subst F;subst G;exact al
  |succ j=>exact a2 (j:=j) (by simpa [Nat.mul_succ] using F) (by simpa using G)
def ka.set {au:Nat->Prop}{m m':H}(BG:∀s,m ≠ .I (.str s)){es:List MapEntry}{ms:List H}(h:ka w au B es ms):∀{i:Nat},ms[i]?=some m->(∀j pC,i=2*j+1->es[j]?=some pC->aY w au B m' pC.val)->ka w au B es (ms.set i m'):=by
 induction h with
 |nil=>intro i h;simp at h
 |cons Q al L a2 =>
  intro i F G
  match i,F,G with
  |0,F,_=>simp at F;exact absurd F.symm (BG _)
  |1,F,G=>exact .cons Q (G 0 _ rfl rfl) L
  |i+2,F,G=>exact .cons Q al (a2 (by simpa using F) λj pC Y he=>G (j+1) pC (by omega) (by simpa using he))
def dP.val {k:Key}{g i b:Nat}{cs:List H}{m:H}{e:ht}{v:Value}(h:dP A w B mem)(Q:mem k=some (g,cs))(he:B k=some e)(R:e.dj=some b)(Z:cs[i]?=some m)(BG:∀s,m ≠ .I (.str s))(al:Zi w b i v):aY w (bn A B) B m v:=by
 obtain⟨e',eK,aL,aA,fV⟩:=h.dj k g cs Q;rw[he] at eK
 cases eK;rcases fV b R with ⟨_,vs,T,F,G,aa,aX⟩|⟨_,ir,jj,F,G⟩
 ·obtain⟨u,hu,L⟩:=aX i m Z;rcases al with al|⟨ir,jj,j,pC,hm,_⟩
  ·rw[cell_of_row w b i vs T (0,0) F,hu] at al
   cases al;exact L
  ·rw[F] at hm;cases hm
 ·rcases al with al|⟨Eo,HU,j,pC,hm,rfl,R1,rfl⟩
  ·simp[World.cell?,F] at al
  ·rw[F] at hm
   cases hm;exact G.val Z R1
def BH {k:Key}{g i:Nat}{cs:List H}{m m':H}{w1:World}(bh:dP A w B mem)(Q:mem k=some (g,cs))(Z:cs[i]?=some m)(BG:∀s,m ≠ .I (.str s))
  (al:∀e b v,B k=some e->e.dj=some b->Zi w b i v->aY w (bn A B) B m' v):∃ay,c9 A w B w ay (aT mem k g (cs.set i m')):=by
 obtain⟨e,he,bB,aA,R⟩:=bh.dj k g cs Q;have u0:∀ax,B k=some ax->e=ax\/ax.g<e.g:=λax ef => .inl (by rw[he] at ef;cases ef;rfl)
 have qi:e.dj=none->cs.set i m'=[]:=λh=>by
  have:=aA h;subst this
  rfl
 cases hE:e.mp with
 |true =>
  have ok:=c9.RD (k:=k) (e':=e) (cs:=cs.set i m') bh (Fr.refl _ w) u0 (λb eE => .inr ⟨e,he,eE⟩) qi (λb eE=>by
   rcases R b eE with ⟨aq,_⟩|⟨_,ir,jj,F,G⟩
   ·rw[hE] at aq;cases aq
   ·exact⟨hE,ir,jj,F,G.set BG Z λj pC Y R1=>al e b _ he eE (.inr ⟨ir,jj,j,pC,F,Y,R1,rfl⟩)⟩)
  rw[bB] at ok;exact⟨_,ok⟩
 |false =>
  have ok:=c9.change (k:=k) (e':=e) (cs:=cs.set i m') bh (Fr.refl _ w) u0 (λb eE => .inr ⟨e,he,eE⟩) qi (λb eE=>by
   obtain⟨vs,T,bk,a0,hle,b7⟩:=(R b eE).cells hE;refine⟨hE,vs,T,bk,a0,by simpa using hle,λj x J=>?_⟩
   by_cases hW:i=j
   ·subst hW;have an:i<D cs:=(dK.1 Z).1;rw[List.getElem?_set_self an] at J
    cases J;have nE:i<vs.size:=by omega
    exact⟨vs[i],Array.getElem?_eq_getElem nE,al e b _ he eE (.inl (by rw[cell_of_row w b i vs T (0,0) bk];exact Array.getElem?_eq_getElem nE))⟩
   ·rw[List.getElem?_set_ne hW] at J;exact b7 j x J)
  rw[bB] at ok;exact⟨_,ok⟩
def c9.move {k k':Key}{g:Nat}{cs:List H}{e:ht}(h:dP A w B mem)(Q:mem k=some (g,cs))(he:B k=some e)(bo:k'≠k):
  c9 A w B w (e3 (e3 B k ⟨bz mem k,none,0,false⟩) k' ⟨bz mem k',e.dj,e.size,e.mp⟩) (aT (aT mem k (bz mem k) []) k' (bz mem k') cs):=by
 have wq:∀b,n3 (e3 (e3 B k ⟨bz mem k,none,0,false⟩) k' ⟨bz mem k',e.dj,e.size,e.mp⟩) b->n3 B b:=by
  rintro b ⟨j,ax,Y,R⟩
  by_cases F:j=k'
  ·subst F;rw[fy] at Y
   cases Y;exact⟨k,e,he,R⟩
  ·rw[fl _ _ F] at Y
   by_cases G:j=k
   ·subst G;rw[fy] at Y
    cases Y
    cases R
   ·rw[fl _ _ G] at Y;exact⟨j,ax,Y,R⟩
 have iH:Trans A w B w (e3 (e3 B k ⟨bz mem k,none,0,false⟩) k' ⟨bz mem k',e.dj,e.size,e.mp⟩):=by
  refine⟨c8 _,λb _ R=>⟨rfl,λa4=>R (.inl (wq b a4))⟩,λj ax Y=>?_⟩
  by_cases F:j=k'
  ·subst F;exact⟨_,fy _ _ _,.inr (zG h j ax Y)⟩
  ·rw[fl _ _ F]
   by_cases G:j=k
   ·subst G;exact⟨_,fy _ _ _,.inr (zG h j ax Y)⟩
   ·rw[fl _ _ G];exact⟨ax,Y,.inl rfl⟩
 refine⟨⟨λj Y=>?_,λj iI aO ax b F G kW eE=>?_,λb ba a4=>h.sep b ba (wq b a4),h.lt,h.gl,λb o R a4=>h.v7 b o R (wq b a4),λj cO HS Y=>?_⟩,iH,Fr.refl _ _,λb R => .inl (wq b R)⟩
 ·simp only[aT] at Y
  by_cases F:j=k'
  ·simp[F] at Y
  ·by_cases G:j=k
   ·rw[aR F,aJ G] at Y
    cases Y
   ·simp only[F,G,if_false] at Y;rw[fl _ _ F,fl _ _ G];exact h.rT j Y
 ·have main:∀(j:Key) (aO:ht),e3 (e3 B k ⟨bz mem k,none,0,false⟩) k' ⟨bz mem k',e.dj,e.size,e.mp⟩ j=some aO->aO.dj=some b->(j=k'/\e.dj=some b)\/(j≠k'/\j≠k/\B j=some aO):=by
   intro j aO Y R
   by_cases F:j=k'
   ·subst F;rw[fy] at Y
    cases Y;exact .inl ⟨rfl,R⟩
   ·rw[fl _ _ F] at Y
    by_cases G:j=k
    ·subst G;rw[fy] at Y
     cases Y
     cases R
    ·rw[fl _ _ G] at Y;exact .inr ⟨F,G,Y⟩
  rcases main j aO F kW with ⟨gI,kX⟩|⟨gI,s1,kX⟩<;>rcases main iI ax G eE with ⟨lp,ni⟩|⟨lp,s2,ni⟩
  ·rw[gI,lp]
  ·exact absurd (h.inj k iI e ax b he ni kX eE).symm s2
  ·exact absurd (h.inj k j e aO b he kX ni kW).symm s1
  ·exact h.inj j iI aO ax b kX ni kW eE
 ·simp only[aT] at Y
  by_cases F:j=k'
  ·subst F;simp only[if_true,bM,eL] at Y;obtain⟨rfl,rfl⟩:=Y;obtain⟨fH,sa,aL,aA,R⟩:=h.dj k g cs Q;rw[he] at sa
   cases sa;refine⟨_,fy _ _ _,rfl,aA,λb fV=>?_⟩;exact (R b fV).imp rfl rfl λm _ v L=>L.j9 iH
  ·simp only[F,if_false] at Y;rw[fl _ _ F]
   by_cases G:j=k
   ·subst G;simp only[if_true,bM,eL] at Y;obtain⟨rfl,rfl⟩:=Y;exact⟨_,fy _ _ _,rfl,λ_=>rfl,λb R=>by cases R⟩
   ·simp only[G,if_false] at Y;rw[fl _ _ G];obtain⟨fH,sa,aL,aA,R⟩:=h.dj j cO HS Y;refine⟨fH,sa,aL,aA,λb fV=>?_⟩;exact (R b fV).imp rfl rfl λm _ v L=>L.j9 iH
def dR.ghost {a:Act}{st:a6}{ay:cS}{mem':Mem}{tm':Nat->H}(h:dR b2 n A cq dD a st w B)(O:c9 A w B w ay mem')(bL:∀s,tm' s=st.tm s\/aY w (bn A ay) ay (tm' s) (a.eval (.tmp s))):
  dR b2 n A cq dD a ⟨tm',mem'⟩ w ay:=by
 refine⟨h.ok.trans O,λs=>?_,h.sz,h.wu.j9 O.iH⟩;rcases bL s with F|F
 ·simp only[F];exact (h.tm s).j9 O.iH
 ·exact F
def akJ {K:a6->Prop}{a:Act}{st:a6}{g:Mb}(h:dR b2 n A cq dD a st w B)(Q:lh K st g):∃cb ay,K cb/\dR b2 n A cq dD a cb w ay:=by
 have kT:∀x:bu,∃v,aY w (bn A B) B (aK st.tm x) v\/∃m,x=.c m:=λx=>by
  cases x with
  |t s=>exact⟨_,.inl (h.tm s)⟩
  |c m=>exact⟨undef,.inr ⟨m,rfl⟩⟩
 cases g with
 |mM s k sz =>
  simp only[lh] at Q
  split at Q
  ·rename_i O;have ok:=c9.wg h.ok.cr k;refine⟨_,_,Q,h.ghost ok λt=>?_⟩
   by_cases qx:t=s
   ·subst qx;have:=h.tm t;rw[O] at this;simp only[dZ,if_true];exact .inr (Zh (e:=⟨bz st.mem k,none,0,false⟩) (fy _ _ _) this)
   ·exact .inl (by simp[dZ,qx])
  ·cases Q
 |freeze s =>
  simp only[lh] at Q
  split at Q
  ·rename_i k g sz off len O
   split at Q
   ·rename_i cv cs gJ
    split at Q
    ·rename_i aL;obtain⟨rfl,_⟩:=aL
     split at Q
     ·rename_i d ad;have ok:=c9.wg h.ok.cr k;refine⟨_,_,Q,h.ghost ok λt=>?_⟩
      by_cases qx:t=s
      ·subst qx;have al:=h.tm t;rw[O] at al ad;simp only[dZ,if_true];exact .inr (.I (Ib h.ok.cr gJ ad al))
      ·exact .inl (by simp[dZ,qx])
     ·cases Q
    ·cases Q
   ·cases Q
  ·cases Q
 |DY x i k sz =>
  simp only[lh] at Q
  split at Q
  ·rename_i kc g off J
   split at Q
   ·rename_i cv cs gJ
    split at Q
    ·rename_i aL;subst aL
     split at Q
     ·rename_i U
      split at Q
      ·rename_i bo;have ok:=c9.wg h.ok.cr k;have sf:aT st.mem k (bz st.mem k) [] kc=some (cv,cs):=by simp[aT,Ne.symm bo,gJ]
       obtain⟨e,he,bB,aA,R⟩:=h.ok.cr.at_ gJ
       obtain⟨ay,sg⟩:=BH (w1:=w) (m':=.ref k (bz st.mem k) sz 0 0) ok.cr sf U (by simp) (λax b v ef eE al=>by
        rw[fl B _ (Ne.symm bo)] at ef;rw[he] at ef
        cases ef;have L:=h.ok.cr.val gJ he eE U (by simp) al;exact Zh (e:=⟨bz st.mem k,none,0,false⟩) (fy _ _ _) L)
       exact⟨_,ay,Q,h.ghost (ok.trans sg) λt => .inl rfl⟩
      ·cases Q
     ·cases Q
    ·cases Q
   ·cases Q
  ·cases Q
 |Mc x i =>
  simp only[lh] at Q
  split at Q
  ·rename_i kc gc off J
   split at Q
   ·rename_i Rg cc R2
    split at Q
    ·rename_i aL;subst aL
     split at Q
     ·rename_i k g sz o len U
      split at Q
      ·rename_i cv cs gJ
       split at Q
       ·rename_i aL;obtain⟨rfl,_,bo⟩:=aL
        split at Q
        ·rename_i d ad;have ok:=c9.wg h.ok.cr k;have sf:aT st.mem k (bz st.mem k) [] kc=some (Rg,cc):=by simp[aT,Ne.symm bo,R2]
         obtain⟨e,he,bB,aA,R⟩:=h.ok.cr.at_ R2
         obtain⟨ay,sg⟩:=BH (w1:=w) (m':=.I d) ok.cr sf U (by simp) (λax b v ef eE al=>by
          rw[fl B _ (Ne.symm bo)] at ef;rw[he] at ef
          cases ef;have L:=h.ok.cr.val R2 he eE U (by simp) al;exact .I (Ib h.ok.cr gJ ad L))
         exact⟨_,ay,Q,h.ghost (ok.trans sg) λt => .inl rfl⟩
        ·cases Q
       ·cases Q
      ·cases Q
     ·cases Q
    ·cases Q
   ·cases Q
  ·cases Q
 |move =>
  rcases Q with Q|⟨fN,fx,gv,i,k,g,sz,off,len,cs,k',gY,U,zW,F,G,aa,Q⟩|⟨fN,fx,gv,i,k,g,sz,off,len,cs,d,gY,U,gJ,-,bo,ad,Q⟩
  ·exact⟨st,B,Q,h⟩
  ·obtain⟨e,he,bB,aA,R⟩:=h.ok.cr.at_ zW;have ok:=c9.move h.ok.cr zW he G;have sf:aT (aT st.mem k (bz st.mem k) []) k' (bz st.mem k') cs fN=some (fx,gv):=by simp[aT,Ne.symm F,Ne.symm aa,gY]
   obtain⟨ex,hex,Ih,jo,Zj⟩:=h.ok.cr.at_ gY
   obtain⟨ay,sg⟩:=BH (w1:=w) (m':=.ref k' (bz st.mem k') sz off len) ok.cr sf U (by simp) (λax b v ef eE al=>by
    rw[fl _ _ (Ne.symm aa),fl _ _ (Ne.symm F)] at ef;rw[hex] at ef
    cases ef;have L:=h.ok.cr.val gY hex eE U (by simp) al
    cases L with
    |ref ef hgle L =>
     rw[he] at ef
     cases ef;obtain⟨a,cap,rfl,aX,bt,bx⟩:=L;refine .ref (fy _ _ _) (c8 _) ⟨a,cap,rfl,aX,bt,bx.imp id ?_⟩;rintro⟨eF,rfl,bK⟩;exact⟨eF,rfl,λ_=>bK bB.symm⟩)
   exact⟨_,ay,Q,h.ghost (ok.trans sg) λt => .inl rfl⟩
  ·have ok:=c9.wg h.ok.cr k;have sf:aT st.mem k (bz st.mem k) [] fN=some (fx,gv):=by simp[aT,Ne.symm bo,gY]
   obtain⟨e,he,bB,aA,R⟩:=h.ok.cr.at_ gY
   obtain⟨ay,sg⟩:=BH (w1:=w) (m':=.I d) ok.cr sf U (by simp) (λax b v ef eE al=>by
    rw[fl B _ (Ne.symm bo)] at ef;rw[he] at ef
    cases ef;have L:=h.ok.cr.val gY he eE U (by simp) al;exact .I (Ib h.ok.cr gJ ad L))
   exact⟨_,ay,Q,h.ghost (ok.trans sg) λt => .inl rfl⟩
 |many =>
  obtain⟨mem',R3,Q⟩:=Q
  have main:∀{ri aW:Mem},HG ri aW->∀B,dR b2 n A cq dD a ⟨st.tm,ri⟩ w B->∃ay,dR b2 n A cq dD a ⟨st.tm,aW⟩ w ay:=by
   intro ri aW R3
   induction R3 with
   |refl mem=>exact λB h=>⟨B,h⟩
   | @step ri aW bY O _ a2 =>
    intro B h
    have one:∃ay,dR b2 n A cq dD a ⟨st.tm,aW⟩ w ay:=by
     cases O with
     |aiB fN fx gv i k g sz off len cs k' gY U zW F G aa =>
      obtain⟨e,he,bB,aA,R⟩:=h.ok.cr.at_ zW;have ok:=c9.move h.ok.cr zW he G;have sf:aT (aT ri k (bz ri k) []) k' (bz ri k') cs fN=some (fx,gv):=by simp[aT,Ne.symm F,Ne.symm aa,gY]
      obtain⟨ex,hex,Ih,jo,Zj⟩:=h.ok.cr.at_ gY
      obtain⟨ay,sg⟩:=BH (w1:=w) (m':=.ref k' (bz ri k') sz off len) ok.cr sf U (by simp) (λax b v ef eE al=>by
       rw[fl _ _ (Ne.symm aa),fl _ _ (Ne.symm F)] at ef;rw[hex] at ef
       cases ef;have L:=h.ok.cr.val gY hex eE U (by simp) al
       cases L with
       |ref ef hgle L =>
        rw[he] at ef
        cases ef;obtain⟨a,cap,rfl,aX,bt,bx⟩:=L;refine .ref (fy _ _ _) (c8 _) ⟨a,cap,rfl,aX,bt,bx.imp id ?_⟩;rintro⟨eF,rfl,bK⟩;exact⟨eF,rfl,λ_=>bK bB.symm⟩)
      exact⟨ay,h.ghost (ok.trans sg) λt => .inl rfl⟩
     |aiC fN fx gv i k g off cs k' gY U zW F G aa =>
      obtain⟨e,he,bB,aA,R⟩:=h.ok.cr.at_ zW;have ok:=c9.move h.ok.cr zW he G;have sf:aT (aT ri k (bz ri k) []) k' (bz ri k') cs fN=some (fx,gv):=by simp[aT,Ne.symm F,Ne.symm aa,gY]
      obtain⟨ex,hex,Ih,jo,Zj⟩:=h.ok.cr.at_ gY
      obtain⟨ay,sg⟩:=BH (w1:=w) (m':=.ptr k' (bz ri k') off) ok.cr sf U (by simp) (λax b v ef eE al=>by
       rw[fl _ _ (Ne.symm aa),fl _ _ (Ne.symm F)] at ef;rw[hex] at ef
       cases ef;have L:=h.ok.cr.val gY hex eE U (by simp) al
       cases L with
       |ptr ef hgle L =>
        rw[he] at ef
        cases ef;obtain⟨eF,rfl,bK⟩:=L;exact .ptr (fy _ _ _) (c8 _) ⟨eF,rfl,λ_=>bK bB.symm⟩)
      exact⟨ay,h.ghost (ok.trans sg) λt => .inl rfl⟩
     |aiD fN fx gv i k g sz off len cs d gY U gJ bo ad =>
      have ok:=c9.wg h.ok.cr k;have sf:aT ri k (bz ri k) [] fN=some (fx,gv):=by simp[aT,Ne.symm bo,gY]
      obtain⟨e,he,bB,aA,R⟩:=h.ok.cr.at_ gY
      obtain⟨ay,sg⟩:=BH (w1:=w) (m':=.I d) ok.cr sf U (by simp) (λax b v ef eE al=>by
       rw[fl B _ (Ne.symm bo)] at ef;rw[he] at ef
       cases ef;have L:=h.ok.cr.val gY he eE U (by simp) al;exact .I (Ib h.ok.cr gJ ad L))
      exact⟨ay,h.ghost (ok.trans sg) λt => .inl rfl⟩
    obtain⟨ay,cG⟩:=one;exact a2 ay cG
  obtain⟨ay,cG⟩:=main R3 B h;exact⟨_,ay,Q,cG⟩
def erase:e0->e0
 |.skip => .skip
 |.ops l => .ops l
 |.mN l c => .mN l c
 |.seq a b => .seq (erase a) (erase b)
 |.cond c a b => .cond c (erase a) (erase b)
 |.block id c => .block id (erase c)
 |.loop c => .loop (erase c)
 |.exit id => .exit id
 |.ret => .ret
 |.ghost _ c=>erase c
def Zk:fC->Exit
 |.normal => .normal
 |.exit id => .exit id
 |.ret => .ret
def akK (P:Program)(n kb:Nat)(own:List Nat)(c:Code):e0->Prop
 |.skip=>c=.skip
 |.ops l=>∃id ops,c=.region id ops false/\ops.toList.mapM (nC P n kb own ops)=some l
 |.mN l iy=>∃id ops,c=.region id ops true/\ops.toList.mapM (nC P n kb own ops)=some l/\qh ops l=true/\iy=mi [] l (fU ops.toList [])
 |.seq x y=>∃a b,c=.seq a b/\py P n kb own a=some x/\py P n kb own b=some y
 |.cond x y z=>∃gK a b,c=.cond gK a b/\cN gK=some x/\py P n kb own a=some y/\py P n kb own b=some z
 |.block id x=>∃a,c=.block id a/\py P n kb own a=some x
 |.loop x=>∃a,c=.loop a/\py P n kb own a=some x
 |.exit id=>c=.exit id
 |.ret=>c=.ret
 |.ghost ..=>False
def x7 {c:Code}{m:e0}(h:py P n kb own c=some m):akK P n kb own c m:=by
 cases c<;>simp only[py,bM,reduceCtorEq,c2] at h
 case skip=>subst h;rfl
 case region id ops draw =>
  split at h
  ·rename_i l ae
   split at h
   ·rename_i ad;subst ad
    split at h
    ·rename_i dx
     cases h;exact⟨id,ops,rfl,ae,dx,rfl⟩
    ·cases h
   ·rename_i ad
    cases h;exact⟨id,ops,by rw[Bool.not_eq_true] at ad;rw[ad],ae⟩
  ·cases h
 case seq a b =>
  split at h
  ·rename_i x y J ai
   cases h;exact⟨a,b,rfl,J,ai⟩
  ·cases h
 case cond x a b =>
  split at h
  ·rename_i gK y z J ai a0
   cases h;exact⟨x,a,b,rfl,J,ai,a0⟩
  ·cases h
 case block id a =>
  obtain⟨x,J,rfl⟩:=h;exact⟨a,rfl,J⟩
 case loop a =>
  obtain⟨x,J,rfl⟩:=h;exact⟨a,rfl,J⟩
 case exit id=>subst h;rfl
 case ret=>subst h;rfl
def zX (cu:nh P T)(hm:P.follows .mixedOrders=true):∀(MZ:e0) (c:Code) (K:fC->a6->Prop) (a3:Exit->Act->World->Prop) (st:a6) (a:Act) (w:World) (B:cS),
  py P n kb own c=some (erase MZ)->dR b2 n A cq dD a st w B->wp T MZ K st->(∀e st a w B,K e st->dR b2 n A cq dD a st w B->a3 (Zk e) a w)->c.wp P a3 a w
 |.ghost g MZ,c,K,a3,st,a,w,B,aw,O,h,e5=>by
  obtain⟨cb,ay,Q,eG⟩:=akJ O h;exact zX cu hm MZ c K a3 cb a w ay aw eG Q e5
 |.skip,c,K,a3,st,a,w,B,aw,O,h,e5=>by
  obtain rfl:=x7 aw;exact Go.wp_skip (e5 .normal st a w B h O)
 |.exit id,c,K,a3,st,a,w,B,aw,O,h,e5=>by
  obtain rfl:=x7 aw;exact Go.wp_exit (e5 (.exit id) st a w B h O)
 |.ret,c,K,a3,st,a,w,B,aw,O,h,e5=>by
  obtain rfl:=x7 aw;exact Go.wp_ret (e5 .ret st a w B h O)
 |.ops l,c,K,a3,st,a,w,B,aw,O,h,e5=>by
  obtain⟨id,ops,rfl,ae⟩:=x7 aw;have:=R0 (a3:=a3) (K:=K .normal) cu ae (λst a w B Q O=>e5 .normal st a w B Q O) l 0 st a w B rfl O h;refine Go.wp_region ?_;rw[(mapM_get ae).1,Array.length_toList] at this;rw[List.range_eq_range'];exact this
 |.mN l iy,c,K,a3,st,a,w,B,aw,O,h,e5=>by
  obtain⟨id,ops,rfl,ae,ad,rfl⟩:=x7 aw;exact akH cu hm ae ad O h λst a w B Q O=>e5 .normal st a w B Q O
 |.seq x y,c,K,a3,st,a,w,B,aw,O,h,e5=>by
  obtain⟨gK,y',rfl,J,ai⟩:=x7 aw;refine Go.wp_seq (zX cu hm x gK _ _ st a w B J O h λe cb cB ak ay Q eG=>?_)
  cases e with
  |normal=>exact zX cu hm y y' _ _ cb cB ak ay ai eG Q e5
  |exit id=>exact e5 (.exit id) cb cB ak ay Q eG
  |ret=>exact e5 .ret cb cB ak ay Q eG
 |.cond x y z,c,K,a3,st,a,w,B,aw,O,h,e5=>by
  obtain⟨gK,y',Ii,rfl,J,ai,a0⟩:=x7 aw;have al:=O.kh gK x J;simp only[wp] at h
  split at h
  ·rename_i t bL;rw[bL] at al;refine Go.wp_cond al.zH ?_
   cases t with
   |true=>exact zX cu hm y y' _ _ st a w B ai O h e5
   |false=>exact zX cu hm z Ii _ _ st a w B a0 O h e5
  ·cases h
 |.block id x,c,K,a3,st,a,w,B,aw,O,h,e5=>by
  obtain⟨gK,rfl,J⟩:=x7 aw;refine Go.wp_block (zX cu hm x gK _ _ st a w B J O h λe cb cB ak ay Q eG=>?_)
  cases e with
  |normal=>exact e5 .normal cb cB ak ay Q eG
  |exit j =>
   simp only[Zk,Exit.inBlock];simp only at Q
   split
   ·rename_i Y;rw[aJ Y] at Q;exact e5 .normal cb cB ak ay Q eG
   ·rename_i Y;rw[aR Y] at Q;exact e5 (.exit j) cb cB ak ay Q eG
  |ret=>exact e5 .ret cb cB ak ay Q eG
 |.loop x,c,K,a3,st,a,w,B,aw,O,h,e5=>by
  obtain⟨gK,rfl,J⟩:=x7 aw;obtain⟨Bm,μ,BI,M0⟩:=h
  have key:∀m (st:a6) (a:Act) (w:World) (B:cS),μ st<m->Bm st->dR b2 n A cq dD a st w B->Code.rounds P gK a3 m a w:=by
   intro m
   induction m with
   |zero=>intro st a w B uY;omega
   |succ m a2 =>
    intro st a w B uY BI O;refine zX cu hm x gK _ _ st a w B J O (M0 st BI) λe cb cB ak ay Q eG=>?_
    cases e with
    |normal=>exact a2 cb cB ak ay (by have:=Q.2;omega) Q.1 eG
    |exit id=>exact e5 (.exit id) cb cB ak ay Q eG
    |ret=>exact e5 .ret cb cB ak ay Q eG
  exact wp_loop_rounds (μ st+1) (key _ st a w B (Nat.lt_succ_self _) BI O)
end Go.Mini
namespace Go.Mini
open Go
variable {P:Program} {b2:Option H} {T:bg} {A:Nat->Prop} {cq w:World} {dD B:cS} {mem:Mem} {n kb:Nat} {own:List Nat}
def akL {a:Act}{st:a6}{r:ResultVar}{cr:ku}{m:H}(O:dR b2 n A cq dD a st w B)(aw:we P r=some cr)(h:D9 st cr=some m):
  ∃v,((match r with
   |.tmp t=>pure (a.tmps.getD t undef)
   |.cell b t=>do loadVar t (<-asAddr (a.tmps.getD b undef)):Sem Value)).run P w=.ok v w/\aY w (bn A B) B m v:=by
 cases r with
 |tmp t =>
  simp only[we,bM] at aw;subst aw;simp only[D9,bM] at h;subst h;exact⟨_,rfl,O.tm t⟩
 |cell b t =>
  simp only[we] at aw
  split at aw
  ·rename_i s g eb uO;simp only[bM] at aw;subst aw;obtain⟨dj,off,ms,vs,al,ae,b7,g9,L⟩:=X1 O.ok.cr (O.tm b) h;obtain⟨u,F,G⟩:=Rl (P:=P) eb uO ae b7 g9 L;refine⟨u,?_,G⟩;have:a.tmps.getD b undef=.pointer (some ⟨dj,off,none⟩):=al;simp only[this,asAddr,Sem.run_bind,Sem.run_pure,Result.andThen_ok];exact F
  ·cases aw
def Zl {a:Act}{st:a6}(O:dR b2 n A cq dD a st w B):∀{l:List ResultVar} {rs:List ku} {ms:List H},l.mapM (we P)=some rs->rs.mapM (D9 st)=some ms ->
  ∃vs:List Value,(l.mapM λr=>((match r with
   |.tmp t=>pure (a.tmps.getD t undef)
   |.cell b t=>do loadVar t (<-asAddr (a.tmps.getD b undef)):Sem Value))).run P w=.ok vs w/\cA w (bn A B) B ms vs
 | [],rs,ms,F,G=>by
  simp at F;subst F;simp at G;subst G;exact⟨[],rfl,cA.nil⟩
 |r::l,rs,ms,F,G=>by
  simp only[nf,fZ,gi,dH,bM] at F;obtain⟨x,J,xs,sh,rfl⟩:=F;simp only[nf,fZ,gi,dH,bM] at G;obtain⟨m,hm,ayE,aD,rfl⟩:=G;obtain⟨v,al,L⟩:=akL O J hm;obtain⟨vs,aI,b7⟩:=Zl O sh aD;refine⟨v::vs,?_,cA.cons L b7⟩;simp only[nf,Sem.run_bind,al,Result.andThen_ok,aI,Sem.run_pure]
def M1 {a:Act}{st:a6}{fn:Func}{rs:List ku}{m:H}(O:dR b2 n A cq dD a st w B)(aw:fn.results.toList.mapM (we P)=some rs)(h:jO st rs=some m):
  ∃v,(results fn a.tmps).run P w=.ok v w/\aY w (bn A B) B m v:=by
 unfold jO at h
 have main:∀ms,rs.mapM (D9 st)=some ms->∃vs:List Value,(results fn a.tmps).run P w=.ok (if h:vs.toArray.size=1 then vs.toArray[0] else .tuple vs.toArray) w/\cA w (bn A B) B ms vs:=by
  intro ms aD;obtain⟨vs,F,G⟩:=Zl O aw aD;refine⟨vs,?_,G⟩;unfold results;rw[Array.mapM_eq_mapM_toList,map_eq_pure_bind];simp only[Sem.run_bind,Sem.run_pure];have tA:=F;generalize aS:(List.mapM _ fn.results.toList:Sem (List Value))=q;have:q.run P w=.ok vs w:=by rw[<-aS];exact tA
  rw[this]
  rfl
 split at h
 ·rename_i x aD;simp only[bM] at h;subst h;obtain⟨vs,F,G⟩:=main _ aD;have ae:=G.1;simp at ae;obtain⟨v,rfl⟩:=Zm.1 ae;exact⟨v,F,G.2 0 _ v rfl rfl⟩
 ·rename_i ms bo aD;simp only[bM] at h;subst h;obtain⟨vs,F,G⟩:=main _ aD;have ae:=G.1;refine⟨_,F,?_⟩
  have:¬ (vs.toArray.size=1):=λh=>by
   have cG:(D ms)=1:=by rw[<-ae];simpa using h
   obtain⟨x,rfl⟩:=Zm.1 cG;exact bo x rfl
  rw[dif_neg this];exact .dp ae G.2
 ·cases h
def R4 (mf:bE)(Post:H->Mem->Prop):fC->a6->Prop
 |.exit _,_=>False
 |_,st=>∃m,jO st mf.res=some m/\Post m st.mem
def Ij (cu:nh P T)(hm:P.follows .mixedOrders=true){f:FuncId}{fn:Func}{mf:bE}(aj:P.funcs[f]?=some fn)(aw:pz P kb own fn=some { mf with body:=erase mf.body }){args:List H}(jq:(D args)<=mf.n)
  {Post:H->Mem->Prop} {K:fC->a6->Prop} (eh:∀e st,K e st->R4 mf Post e st) (h:wp T mf.body K ⟨ke args,mem⟩) {A:Nat->Prop} {w:World} {B:cS} {vs:List Value} (bh:dP A w B mem) (al:cA w (bn A B) B args vs) :
  Calls P f vs.toArray w λe ak=>∃v m mem' ay,e=.returned v/\c9 A w B ak ay mem'/\aY ak (bn A ay) ay m v/\Post m mem':=by
 unfold pz at aw
 split at aw
 ·cases aw
 ·rename_i c R
  split at aw
  ·rename_i b rs U mT;simp only[bM,bE.mk.injEq] at aw;obtain⟨aA,ayF,jS,akM⟩:=aw;have eb:(D vs)=D args:=al.1;refine calls_of_wp aj R ?_;rw[akM] at U;refine zX (b2:=none) cu hm mf.body c K _ ⟨ke args,mem⟩ _ w B U ⟨.refl bh,λs=>?_,?_,rfl⟩ h λe st a ak ay zN O=>?_
   ·simp only[ke,Act.eval,Array.getD_eq_getD_getElem?];rcases gX s (D vs) with an|bB
    ·have F:args[s]?=some args[s]:=bc (by omega)
     have G:(vs.toArray++Array.replicate (fn.ntmps-vs.toArray.size) undef)[s]?=some vs[s]:=by
      rw[Array.getElem?_append_left (by simpa using an)];simp[an]
     rw[F,G];exact al.2 s _ _ F (bc an)
    ·rw[List.getElem?_eq_none (by omega),Array.getElem?_append_right (by simpa using bB)]
     have:((Array.replicate (fn.ntmps-vs.toArray.size) undef)[s-vs.toArray.size]?).getD undef=undef:=by
      cases aS:(Array.replicate (fn.ntmps-vs.toArray.size) undef)[s-vs.toArray.size]? with
      |none=>rfl
      |some u =>
       have:=Array.mem_of_getElem? aS;simp at this;simp[this.2]
     rw[this];exact .no
   ·simp;omega
   ·have Q:=eh e st zN
    cases e with
    |exit id=>cases Q
    |normal =>
     obtain⟨m,uY,aP⟩:=Q;obtain⟨v,eM,jm⟩:=M1 O mT (by rw[jS];exact uY);exact⟨O.wu,v,eM,v,m,_,ay,rfl,O.ok,jm,aP⟩
    |ret =>
     obtain⟨m,uY,aP⟩:=Q;obtain⟨v,eM,jm⟩:=M1 O mT (by rw[jS];exact uY);exact⟨O.wu,v,eM,v,m,_,ay,rfl,O.ok,jm,aP⟩
  ·cases aw
inductive di where
 |same (r:Data)
 |own (sz:Nat) (es:List (List Data))
def x8 (w:World)(au:Nat->Prop)(ds:List Data)(vs:List Value):Prop:=D vs=D ds/\∀(i:Nat) (d:Data) (v:Value),ds[i]?=some d->vs[i]?=some v->Den w au d v
def akN (w ak:World)(au:Nat->Prop):di->Value->Prop
 |.same r,v=>Den ak au r v
 |.own sz es,v=>xY w ak au sz es v
structure hY (P:Program) (f:FuncId) (cm:List Data->Option di):Prop where
 real:Real P f
 run:∀ds r,cm ds=some r->∀(A:Nat->Prop) (w:World) (vs:List Value),(∀b,A b->b<w.heap.size)->DW w->x8 w A ds vs ->
  Calls P f vs.toArray w λe ak=>∃v,e=.returned v/\Fr (λ_=>False) w ak/\akN w ak A r v
def Zn:di->H->Mem->Prop
 |.same r,m,mem=>∃d,cL d mem m=some r
 |.own sz es,m,mem=>(m=.nil/\es=[])\/∃k g len cs ds d,m=.ref k g sz 0 len/\mem k=some (g,cs)/\len*sz<=D cs/\(cs.take (len*sz)).mapM (cL d (kill mem k))=some ds/\es=chunk sz len ds
def qy (sz:Nat)(mem:Mem):H->Option (List (List Data))
 |.nil=>some []
 |.ref k g eg off len=>if eg=sz/\off=0 then (match mem k with
  |some (cv,cs)=>if cv=g/\len*sz<=(D cs) then ((cs.take (len*sz)).mapM (cL 6 (kill mem k))).map (chunk sz len) else none
  |none=>none) else none
 |_=>none
def x9 (res:List ku):di->a6->Prop
 |.same r,st=>(jO st res).bind (cL 6 st.mem)=some r
 |.own sz es,st=>(jO st res).bind (qy sz st.mem)=some es
def tB (res:List ku)(r:di):fC->a6->Prop
 |.exit _,_=>False
 |.normal,st=>x9 res r st
 |.ret,st=>x9 res r st
def Zo {mf:bE}{r:di}{st:a6}(h:x9 mf.res r st):∃m,jO st mf.res=some m/\Zn r m st.mem:=by
 cases r with
 |same r =>
  simp only[x9,dH] at h;obtain⟨m,F,G⟩:=h;exact⟨m,F,6,G⟩
 |own sz es =>
  simp only[x9,dH] at h;obtain⟨m,F,G⟩:=h;refine⟨m,F,?_⟩
  cases m<;>simp only[qy,bM,reduceCtorEq] at G
  ·exact .inl ⟨rfl,G.symm⟩
  ·split at G
   ·rename_i U;obtain⟨rfl,rfl⟩:=U
    split at G
    ·rename_i cv cs Q
     split at G
     ·rename_i aL;obtain⟨rfl,hle⟩:=aL;simp only[c2] at G;obtain⟨ds,fD,rfl⟩:=G;exact .inr ⟨_,_,_,cs,ds,6,rfl,Q,hle,fD,rfl⟩
     ·cases G
    ·cases G
   ·cases G
def akO {mf:bE}{r:di}{e:fC}{st:a6}(h:tB mf.res r e st):R4 mf (Zn r) e st:=by
 cases e with
 |exit id=>exact h
 |normal=>exact Zo h
 |ret=>exact Zo h
def ya (b:Nat):¬ n3 (λ_=>none) b:=fun⟨_,_,h,_⟩=>by cases h
def Zp {w ak:World}{ay:cS}{mem':Mem}{k:Key}{g sz len d:Nat}{cs:List H}{wB:List Data}{v:Value}(h6:∀b,¬ n3 B b)(O:c9 A w B ak ay mem')(al:aY ak (bn A ay) ay (.ref k g sz 0 len) v)(Q:mem' k=some (g,cs))(hle:len*sz<=D cs)
  (fD:(cs.take (len*sz)).mapM (cL d (kill mem' k))=some wB):xY w ak A sz (chunk sz len wB) v:=by
 obtain⟨F,G⟩:=mapM_get fD;have si:(D wB)=len*sz:=by rw[F,gj];omega
 refine⟨MC sz len wB si,?_⟩;rw[MB,MD sz len wB si]
 cases al with
 |ref he hgle L =>
  obtain⟨e,eK,bB,aA,R⟩:=O.cr.at_ Q;rw[eK] at he;obtain rfl:=mm he;obtain⟨a,cap,rfl,aa,aX,bt⟩:=L;refine⟨a,cap,rfl,aa,aX,bt.imp id ?_⟩;rintro⟨b,rfl,bx⟩;obtain⟨bK,ca,hE⟩:=bx bB.symm;obtain⟨nF,akP,bk,a0,Bt,uS⟩:=R b bK hE;obtain⟨akQ,mU⟩:=kill_shut O.cr Q eK bK;refine⟨b,nF,akP,rfl,?_,bk,by simpa [a0] using ca,λi x J=>?_⟩
  ·rcases O.fresh b ⟨k,_,eK,bK⟩ with h|h
   ·exact (h6 b h).elim
   ·exact h
  ·have Zq:i<D wB:=(dK.1 J).1;have lT:i<D cs:=by omega
   have dg:(cs.take (len*sz))[i]?=some cs[i]:=by
    rw[x5 (by omega)];exact bc lT
   have Ig:i<nF.size:=by omega
   refine⟨nF[i],Array.getElem?_eq_getElem Ig,snap akQ (λb R=>R) d _ _ x (G i _ x dg J) (mU _ _ (uS.2 i _ _ (bc lT) ?_))⟩;rw[x5 lT,Array.getElem?_toList];exact Array.getElem?_eq_getElem Ig
def R5 (cu : nh P T)(hm : P.follows .mixedOrders = true){f : FuncId}{fn : Func}{mf : bE}(aj : P.funcs[f]? = some fn)(sj : (fn.name == "runtime.NumGoroutine") = false)(aw : pz P kb own fn = some { mf with body := erase mf.body })
  {cm:List Data->Option di} (h:∀ds r,cm ds=some r->(D ds)<=mf.n/\wp T mf.body (tB mf.res r) ⟨ke (ds.map .I),emp⟩):hY P f cm:=by
 refine⟨?_,λds r ej A w vs an jT sb=>?_⟩
 ·cases R:fn.body with
  |none=>simp[pz,R] at aw
  |some c=>exact⟨fn,c,aj,R,sj⟩
 ·obtain⟨hlen,yb⟩:=h ds r ej;have bh:dP A w (λ_=>none) emp:=⟨λ_ _=>rfl,λ_ _ _ _ _ h=>(by cases h),λb _ a4=>ya b a4,an,jT,λb _ _ a4=>ya b a4,λ_ _ _ h=>(by cases h)⟩;have e8:∀b,bn A (λ_=>none) b->A b:=λb h=>h.elim (λh=>(ya b h).elim) id;have b7:cA w (bn A λ_=>none) (λ_=>none) (ds.map .I) vs:=cA.I sb.1 λi d v F G=>(sb.2 i d v F G).less e8;refine Calls.mono (Ij cu hm aj aw (by simpa using hlen) (λe st=>akO) yb bh b7) λe ak he=>?_;obtain⟨v,m,mem',ay,rfl,O,al,aP⟩:=he;refine⟨v,rfl,⟨O.fY.os,O.fY.tape,O.fY.output,O.fY.size,λg aL _=>O.fY.block g aL (ya g)⟩,?_⟩
  cases r with
  |same r =>
   obtain⟨d,ad⟩:=aP;exact snap O.cr (λb R=>R) d m v r ad al
  |own sz es =>
   rcases aP with ⟨rfl,rfl⟩|⟨k,g,len,cs,wB,d,rfl,Q,hle,fD,rfl⟩
   ·cases al;exact⟨by simp,_,0,rfl,c8 _,dF _,.inl rfl⟩
   ·exact Zp ya O al Q hle fD
def scalar:Data->Bool
 |.int _ _=>true
 |.bool _=>true
 |.str _=>true
 |.qZ=>true
 |.rS=>true
 |.ao []=>true
 |.dp ds=>ds.attach.all fun⟨d,_⟩=>scalar d
 |.agg ds=>ds.attach.all fun⟨d,_⟩=>scalar d
 |.nB=>true
 |.n2 _ d=>scalar d
 |_=>false
def Zr {au hi:Nat->Prop}{d:Data}{v:Value}(h:scalar d=true)(ad:Den w au d v):Den w hi d v:=by
 induction ad with
 |int=>exact .int
 |bool=>exact .bool
 |str=>exact .str
 |qZ=>exact .qZ
 |rS=>exact .rS
 |kP=>exact .kP
 | @ao es b off c sz val ae hm R e8 eb U ad a2 =>
  cases es with
  |nil=>exact .kP
  |cons=>simp[scalar] at h
 |ptr=>simp[scalar] at h
 |fn=>simp[scalar] at h
 | @agg cs vs ae ad a2 =>
  simp only[scalar,kA,Zs,true_imp_iff,Subtype.forall] at h;exact .agg ae λi d v F G=>a2 i d v F G (h d (cJ F))
 | @dp cs vs ae ad a2 =>
  simp only[scalar,kA,Zs,true_imp_iff,Subtype.forall] at h;exact .dp ae λi d v F G=>a2 i d v F G (h d (cJ F))
 |n2 ad a2=>exact .n2 (a2 (by simpa [scalar] using h))
 |nB=>exact .nB
def R6 {au:Nat->Prop}:∀(d:Nat) (m:H) (v:Value) (r:Data),cL d emp m=some r->aY w au B m v->Den w au r v:=by
 intro d
 induction d with
 |zero =>
  intro m v r h al
  cases m<;>simp only[cL,bM,reduceCtorEq] at h
  ·subst h;cases al with|I h=>exact h
  ·subst h;cases al;exact .kP
 |succ d a2 =>
  intro m v r h al
  have lists:∀(cs:List H) (vs:List Value) (ds:List Data),cs.mapM (cL d emp)=some ds->(D vs)=(D cs)->(∀(i:Nat) (x:H) (u:Value),cs[i]?=some x->vs[i]?=some u->aY w au B x u) ->
    (D vs)=D ds/\∀(i:Nat) (x:Data) (u:Value),ds[i]?=some x->vs[i]?=some u->Den w au x u:=by
   intro cs vs ds fD ae L;obtain⟨F,G⟩:=mapM_get fD;refine⟨by omega,λi x u J hu=>?_⟩
   have an:i<D cs:=by have:=(dK.1 J).1;omega
   have dg:=bc an;exact a2 _ u x (G i _ x dg J) (L i _ u dg hu)
  cases m<;>simp only[cL,emp,bM,c2,reduceCtorEq] at h
  case I=>subst h;cases al with|I h=>exact h
  case nil=>subst h;cases al;exact .kP
  case ee f cs =>
   obtain⟨ds,fD,rfl⟩:=h
   cases al with
   |ee ae ad=>obtain⟨F,G⟩:=lists _ _ _ fD ae ad;exact .fn F G
  case agg cs =>
   obtain⟨ds,fD,rfl⟩:=h
   cases al with
   |agg ae ad=>obtain⟨F,G⟩:=lists _ _ _ fD ae ad;exact .agg F G
  case dp cs =>
   obtain⟨ds,fD,rfl⟩:=h
   cases al with
   |dp ae ad=>obtain⟨F,G⟩:=lists _ _ _ fD ae ad;exact .dp F G
def M5:di->gG
 |.same r => .same r
 |.own sz es => .own sz es
def Ev:di->Option gG
 |.same r=>if scalar r=true then some (.same r) else none
 |.own sz es=>if (es.all λe=>e.all scalar)=true then some (.own sz es) else none
def M6 (cm:List Data->Option di):Option (List Data)->Option gG
 |some ds=>(cm ds).bind Ev
 |none=>none
def Ew (cm:List Data->Option di):Option (List Data)->Option (List Data)->Option gG
 |some ds,_=>(cm ds).map M5
 |none,x=>M6 cm x
def aE (cm:List Data->Option di)(args:List H)(mem:Mem):Option gG:=Ew cm (args.mapM (cL 6 emp)) (args.mapM (cL 6 mem))
def u1 (gm:FuncId->Option (List Data->Option di)):bg:=λf args mem=>match gm f with
 |some cm=>aE cm args mem
 |none=>none
def Zt {au:Nat->Prop}{g:H->Option Data}{args:List H}{ds:List Data}{vs:List Value}(h:args.mapM g=some ds)(al:cA w au B args vs){hi:Nat->Prop}(ad:∀m v r,g m=some r->aY w au B m v->Den w hi r v):x8 w hi ds vs:=by
 obtain⟨F,G⟩:=mapM_get h;refine⟨by rw[al.1,F],λi d v mP kR=>?_⟩
 have an:i<D args:=by have:=(dK.1 mP).1;omega
 have zY:=bc an;exact ad _ v d (G i _ d zY mP) (al.2 i _ v zY kR)
def R7 {gm:FuncId->Option (List Data->Option di)}(h:∀f cm,gm f=some cm->hY P f cm):nh P (u1 gm):=by
 intro f args mem oa hG;unfold u1 at hG
 split at hG
 ·rename_i cm ej;have iM:=h f cm ej;refine⟨iM.real,λA w B vs bh al=>?_⟩;unfold aE at hG
  cases fD:args.mapM (cL 6 emp) with
  |some ds =>
   rw[fD] at hG;simp only[Ew,c2] at hG;obtain⟨r,L,rfl⟩:=hG;have U:=iM.run ds r L (bn A B) w vs (λb R=>R.elim (λh=>bh.rU h) (bh.lt b)) bh.gl (Zt fD al λm v r=>R6 6 m v r)
   cases r with
   |same r=>exact U
   |own sz es=>exact U
  |none =>
   rw[fD] at hG;simp only[Ew] at hG
   cases fD:args.mapM (cL 6 mem) with
   |none=>rw[fD] at hG;cases hG
   |some ds =>
    rw[fD] at hG;simp only[M6,dH] at hG;obtain⟨r,L,ae⟩:=hG;have U:=iM.run ds r L (λ_=>False) w vs (λb R=>R.elim) bh.gl (Zt fD al λm v r h al=>snap bh (λb R=>R.elim) 6 m v r h al)
    cases r with
    |same r =>
     simp only[Ev] at ae
     split at ae
     ·rename_i O
      cases ae;exact Calls.mono U λe ak ⟨v,he,dq,ad⟩=>⟨v,he,dq,Zr O ad⟩
     ·cases ae
    |own sz es =>
     simp only[Ev] at ae
     split at ae
     ·rename_i O
      cases ae;refine Calls.mono U λe ak ⟨v,he,dq,ad⟩=>⟨v,he,dq,?_⟩;obtain⟨F,a,cap,G,aa,aX,bt⟩:=ad;refine⟨F,a,cap,G,aa,aX,bt.imp id ?_⟩;rintro⟨b,vs,T,bx,bK,ca,dh,dy⟩;refine⟨b,vs,T,bx,bK,ca,dh,λi d ad=>?_⟩;obtain⟨u,hu,sb⟩:=dy i d ad;refine⟨u,hu,Zr ?_ sb⟩;have hm:=cJ ad;rw[List.mem_flatten] at hm;obtain⟨e,he,akR⟩:=hm;rw[kA] at O;have:=O e he;rw[kA] at this;exact this d akR
     ·cases ae
 ·cases hG
end Go.Mini
namespace Go.Mini
open Go
def Ex {ι:Type}(T:bg)(cQ:ι->a6->Prop)(m:ι->Nat)(i:ι)(K:fC->a6->Prop)(k:List iY):fC->a6->Prop
 |.normal,st=>∃a1,m a1<m i/\cQ a1 st
 |.exit id,st=>cM T K k (.exit id) st
 |.ret,st=>cM T K k .ret st
@[go_sem] def ayG {ι:Type}(T:bg)(cQ:ι->a6->Prop)(m:ι->Nat)(i:ι)(K:fC->a6->Prop)(k:List iY)(id:Nat)(st:a6):Ex T cQ m i K k (.exit id) st=cM T K k (.exit id) st:=bs
@[go_sem] def ayH {ι:Type}(T:bg)(cQ:ι->a6->Prop)(m:ι->Nat)(i:ι)(K:fC->a6->Prop)(k:List iY)(st:a6):Ex T cQ m i K k .ret st=cM T K k .ret st:=bs
@[go_sem] def akS {ι:Type}(T:bg)(cQ:ι->a6->Prop)(m:ι->Nat)(i:ι)(K:fC->a6->Prop)(k:List iY)(st:a6):Ex T cQ m i K k .normal st=∃a1,m a1<m i/\cQ a1 st:=bs
open Classical in
def akT {ι:Type}{T:bg}{K:fC->a6->Prop}{k:List iY}{st:a6}{c:e0}(cQ:ι->a6->Prop)(m:ι->Nat)(i0:ι)(aq:cQ i0 st)(h:∀i st,cQ i st->wp T c (cM T (Ex T cQ m i K k) []) st):
  wp T (.loop c) (cM T K k) st:=by
 have least:∀st,(∃i,cQ i st)->∃i,cQ i st/\∀j,cQ j st->m i<=m j:=by
  intro st ⟨i,Z⟩
  have:∀n i,m i=n->cQ i st->∃i,cQ i st/\∀j,cQ j st->m i<=m j:=by
   intro n
   induction n using R8 with
   |_ n a2 =>
    intro i aA Z
    by_cases J:∃j,cQ j st/\m j<m i
    ·obtain⟨j,Y,an⟩:=J;exact a2 (m j) (by omega) j rfl Y
    ·refine⟨i,Z,λj Y=>?_⟩;rcases gX (m j) (m i) with cG|cG
     ·exact absurd ⟨j,Y,cG⟩ J
     ·exact cG
  exact this _ i rfl Z
 refine⟨λst=>∃i,cQ i st,λst=>if J:∃i,cQ i st then m (Ey (least st J)) else 0,⟨i0,aq⟩,λst df=>?_⟩;have oP:=sk (least st df);have:=h _ st oP.1
 have Q:cM T (Ex T cQ m (Ey (least st df)) K k) []=λe cb=>match e with
   |.normal=>(∃i,cQ i cb)/\(if J:∃i,cQ i cb then m (Ey (least cb J)) else 0)<(if J:∃i,cQ i st then m (Ey (least st J)) else 0)
   |e=>cM T K k e cb:=by
  funext e cb
  cases e with
  |normal =>
   simp only[ajW,akS];apply propext
   constructor
   ·rintro⟨a1,an,Y⟩;have hex:∃i,cQ i cb:=⟨a1,Y⟩;refine⟨hex,?_⟩;rw[dif_pos hex,dif_pos df];have:=(sk (least cb hex)).2 a1 Y;omega
   ·rintro⟨hex,an⟩;rw[dif_pos hex,dif_pos df] at an;exact⟨_,an,(sk (least cb hex)).1⟩
  |exit id=>rfl
  |ret=>rfl
 rw[Q] at this;exact this
section
variable {cm:List Data->Option di} {mem:Mem} {st:a6} {res:List ku}
@[go_sem] def ayI (ds:List Data)(x:Option (List Data)):Ew cm (some ds) x=(cm ds).map M5:=bs
@[go_sem] def ayJ (x:Option (List Data)):Ew cm none x=M6 cm x:=bs
@[go_sem] def ayK (ds:List Data):M6 cm (some ds)=(cm ds).bind Ev:=bs
@[go_sem] def ayL (r:Data):M5 (.same r)=.same r:=bs
@[go_sem] def ayM (sz:Nat)(es:List (List Data)):M5 (.own sz es)=.own sz es:=bs
@[go_sem] def ayN (r:Data):Ev (.same r)=if scalar r=true then some (.same r) else none:=bs
@[go_sem] def akU (n:Nat)(d:Data):cL n mem (.I d)=some d:=by cases n<;>rfl
@[go_sem] def ayO (n:Nat):cL n mem .nil=some (.ao []):=by cases n<;>rfl
@[go_sem] def ayP (n:Nat)(cs:List H):cL (n+1) mem (.agg cs)=(cs.mapM (cL n mem)).map .agg:=bs
@[go_sem] def ayQ (n:Nat)(cs:List H):cL (n+1) mem (.dp cs)=(cs.mapM (cL n mem)).map .dp:=bs
@[go_sem] def ayR (n:Nat)(f:FuncId)(cs:List H):cL (n+1) mem (.ee f cs)=(cs.mapM (cL n mem)).map (.fn f):=bs
@[go_sem] def ayS (r:di)(id:Nat):tB res r (.exit id) st=False:=bs
@[go_sem] def ayT (r:di):tB res r .ret st=x9 res r st:=bs
@[go_sem] def ayU (r:di):tB res r .normal st=x9 res r st:=bs
@[go_sem] def ayV (r:Data):x9 res (.same r) st=((jO st res).bind (cL 6 st.mem)=some r):=bs
@[go_sem] def ayW (sz:Nat)(es:List (List Data)):x9 res (.own sz es) st=((jO st res).bind (qy sz st.mem)=some es):=bs
end
@[go_sem] def ayX (x:Bool):MJ (.I (.bool x)) true=some x:=by cases x<;>rfl
@[go_sem] def ayY (x:Bool):MJ (.I (.bool x)) false=some (!x):=by cases x<;>rfl
attribute [go_sem] gZ bN List.getElem?_cons_zero List.getElem?_cons_succ lQ mV pD Ez M7 zZ kU Option.map_none r1
 nf Zu fZ gi EA M8 List.drop_succ_cons List.drop_nil List.take_nil cZ db tC qz tD pE pF eZ iZ eN u2 List.all_nil true_and and_true cC bne
section
variable {T:bg} {K:fC->a6->Prop} {k:List iY} {st:a6}
def akV {x:Bool}{i:bw}{r:List bw}(F:x=false->qu T K k (some true) i r st)(G:x=true->qu T K k (some false) i r st):qu T K k (some (!x)) i r st:=by
 cases x
 ·exact F rfl
 ·exact G rfl
def akW {x:Bool}{i:bw}{r:List bw}(F:x=true->qu T K k (some true) i r st)(G:x=false->qu T K k (some false) i r st):qu T K k (some x) i r st:=by
 cases x
 ·exact G rfl
 ·exact F rfl
def akX {x:Bool}{n:Nat}{i:bw}{r:List bw}{c:List (List Nat)}{rec:Rec}(F:x=false->qv T K k n (some true) i r c rec st)(G:x=true->qv T K k n (some false) i r c rec st):qv T K k n (some (!x)) i r c rec st:=by
 cases x
 ·exact F rfl
 ·exact G rfl
def akY {x:Bool}{n:Nat}{i:bw}{r:List bw}{c:List (List Nat)}{rec:Rec}(F:x=true->qv T K k n (some true) i r c rec st)(G:x=false->qv T K k n (some false) i r c rec st):qv T K k n (some x) i r c rec st:=by
 cases x
 ·exact G rfl
 ·exact F rfl
def akZ {x:Bool}{a b:e0}(F:x=false->pB T K k (.I (.bool true)) a b st)(G:x=true->pB T K k (.I (.bool false)) a b st):pB T K k (.I (.bool (!x))) a b st:=by
 cases x
 ·exact F rfl
 ·exact G rfl
def ak0 {x:Bool}{a b:e0}(F:x=true->pB T K k (.I (.bool true)) a b st)(G:x=false->pB T K k (.I (.bool false)) a b st):pB T K k (.I (.bool x)) a b st:=by
 cases x
 ·exact G rfl
 ·exact F rfl
end
class BJ (bf:Prop) (A B:outParam Prop):Prop where
 go:A->B->bf
def ab {bf A B:Prop}[s:BJ bf A B](a:A)(b:B):bf:=s.go a b
def af {bf:Prop}(h:true=true->bf):bf:=h rfl
instance {T K k i r st} {x:Bool}:BJ (qu T K k (some x) i r st) (x=true->qu T K k (some true) i r st) (x=false->qu T K k (some false) i r st):=⟨akW⟩
instance {T K k i r st} {x:Bool}:BJ (qu T K k (some (!x)) i r st) (x=false->qu T K k (some true) i r st) (x=true->qu T K k (some false) i r st):=⟨akV⟩
instance {T K k st a b} {x:Bool}:BJ (pB T K k (.I (.bool x)) a b st) (x=true->pB T K k (.I (.bool true)) a b st) (x=false->pB T K k (.I (.bool false)) a b st):=⟨ak0⟩
instance {T K k st a b} {x:Bool}:BJ (pB T K k (.I (.bool (!x))) a b st) (x=false->pB T K k (.I (.bool true)) a b st) (x=true->pB T K k (.I (.bool false)) a b st):=⟨akZ⟩
instance {T K k n i r c rec st} {x:Bool}:BJ (qv T K k n (some x) i r c rec st) (x=true->qv T K k n (some true) i r c rec st) (x=false->qv T K k n (some false) i r c rec st):=⟨akY⟩
instance {T K k n i r c rec st} {x:Bool}:BJ (qv T K k n (some (!x)) i r c rec st) (x=false->qv T K k n (some true) i r c rec st) (x=true->qv T K k n (some false) i r c rec st):=⟨akX⟩
attribute [go_sem] reduceIte Nat.reduceEqDiff Nat.reduceAdd Nat.reduceSub Nat.reduceMul Nat.reduceLeDiff reduceCtorEq Nat.reduceLT Nat.reduceBEq Int.reduceEq
attribute [go_sem] cC
def Ik {ι:Type}(T:bg)(gF:List Nat)(mW:List Key)(vs:List H)(ms:List (Option (Nat×List H)))(cQ:ι->(Nat->H)->Mem->Prop)(m:ι->Nat)(i:ι)(K:fC->a6->Prop)(k:List iY):fC->a6->Prop
 |.normal,st=>∃a1,m a1<m i/\gF.map st.tm=vs/\mW.map st.mem=ms/\cQ a1 st.tm st.mem
 |.exit id,st=>cM T K k (.exit id) st
 |.ret,st=>cM T K k .ret st
section
variable {ι:Type} (T:bg) (gF:List Nat) (mW:List Key) (vs:List H) (ms:List (Option (Nat×List H))) (cQ:ι->(Nat->H)->Mem->Prop) (m:ι->Nat) (i:ι) (K:fC->a6->Prop) (k:List iY)
@[go_sem] def ayZ (id:Nat)(st:a6):Ik T gF mW vs ms cQ m i K k (.exit id) st=cM T K k (.exit id) st:=bs
@[go_sem] def ay0 (st:a6):Ik T gF mW vs ms cQ m i K k .ret st=cM T K k .ret st:=bs
@[go_sem] def ay1 (st:a6):Ik T gF mW vs ms cQ m i K k .normal st=∃a1,m a1<m i/\gF.map st.tm=vs/\mW.map st.mem=ms/\cQ a1 st.tm st.mem:=bs
end
def cV {ι:Type}{T:bg}{K:fC->a6->Prop}{k:List iY}{EB:Nat->H}{hl:Mem}{c:e0}(gF:List Nat)(mW:List Key)(cQ:ι->(Nat->H)->Mem->Prop)(m:ι->Nat)(i0:ι)(aq:cQ i0 EB hl)
  (h:∀vs ms,gF.map EB=vs->mW.map hl=ms->∀i tm mem,gF.map tm=vs->mW.map mem=ms->cQ i tm mem->wp T c (cM T (Ik T gF mW vs ms cQ m i K k) []) ⟨tm,mem⟩) :
  wp T (.loop c) (cM T K k) ⟨EB,hl⟩:=by
 refine akT (λi st=>gF.map st.tm=gF.map EB/\mW.map st.mem=mW.map hl/\cQ i st.tm st.mem) m i0 ⟨rfl,rfl,aq⟩ ?_;rintro i ⟨tm,mem⟩ ⟨F,G,aa⟩;have:=h _ _ rfl rfl i tm mem F G aa
 have Q:cM T (Ik T gF mW (gF.map EB) (mW.map hl) cQ m i K k) []=cM T (Ex T (λi (st:a6)=>gF.map st.tm=gF.map EB/\mW.map st.mem=mW.map hl/\cQ i st.tm st.mem) m i K k) []:=by
  funext e cb
  cases e<;>rfl
 rw[Q] at this;exact this
def wp_mono {T:bg}:∀(c:e0) (K ja:fC->a6->Prop),(∀e st,K e st->ja e st)->∀st,wp T c K st->wp T c ja st:=by
 intro c
 induction c with
 |skip=>exact λK ja h st=>h _ _
 |ops l =>
  intro K ja h st hw
  have:∀(l:List bw) (K ja:a6->Prop),(∀st,K st->ja st)->∀st,wb T K l st->wb T ja l st:=by
   intro l
   induction l with
   |nil=>exact λK ja h st=>h st
   |cons i r a2 =>
    intro K ja h st hw;unfold wb at hw ⊢
    split
    ·rename_i aL;rw[aL] at hw;exact hw
    ·rename_i g aL;rw[aL] at hw;simp only at hw ⊢
     split
     ·rename_i kE;rw[aJ kE] at hw
      have r9:∀(K ja:a6->Prop),(∀st,K st->ja st)->gg T K i st->gg T ja i st:=by
       intro K ja h hw
       have U:∀d f args,tp T K st d f args->tp T ja st d f args:=by
        intro d f args hw;unfold tp at hw ⊢
        split
        ·rename_i bk;rw[bk] at hw;exact h _ hw
        ·rename_i bk;rw[bk] at hw;exact h _ hw
        ·rename_i bk;rw[bk] at hw;exact λr mem' L=>h _ (hw r mem' L)
        ·rename_i bk;rw[bk] at hw;exact h _ hw
        ·rename_i bk;rw[bk] at hw;exact h _ hw
        ·rename_i bk;rw[bk] at hw;exact hw
       unfold gg at hw ⊢
       split
       ·rename_i bk;rw[bk] at hw;exact U _ _ _ hw
       ·rename_i bk;rw[bk] at hw
        simp only at hw
        split
        ·rename_i n4;rw[n4] at hw
         simp only at hw
         split
         ·rename_i O;rw[aJ O] at hw;exact h _ hw
         ·rename_i O;rw[aR O] at hw;exact hw
        ·rename_i n4
         split at hw
         ·rename_i eg es R9;exact (n4 eg es R9).elim
         ·exact hw
       ·rename_i bk;rw[bk] at hw
        simp only at hw
        split
        ·rename_i n4;rw[n4] at hw;exact U _ _ _ hw
        ·rename_i n4;rw[n4] at hw;exact U _ _ _ hw
        ·rename_i n4 R9
         split at hw
         ·rename_i Sa;exact (n4 _ _ Sa).elim
         ·rename_i Sa;exact (R9 _ _ Sa).elim
         ·exact hw
       ·rename_i bk;rw[bk] at hw
        simp only at hw
        split
        ·rename_i n4;rw[n4] at hw;exact λb R=>h _ (hw b R)
        ·rename_i n4;rw[n4] at hw;exact hw
       ·rename_i F G aa aX
        split at hw
        ·rename_i bk;exact (F _ _ bk).elim
        ·rename_i bk;exact (G _ _ _ _ bk).elim
        ·rename_i bk;exact (aa _ _ bk).elim
        ·rename_i bk;exact (aX _ _ bk).elim
        ·split
         ·rename_i bk;rw[bk] at hw;exact h _ hw
         ·rename_i bk;rw[bk] at hw;exact hw
      exact r9 _ _ (a2 _ _ h) hw
     ·rename_i kE;rw[aR kE] at hw;exact a2 _ _ h _ hw
  exact this l _ _ (λst=>h .normal st) st hw
 |mN l c =>
  intro K ja h st hw
  have:∀(l:List bw) (n:Nat) (cs:List (List Nat)) (rec:Rec) (K ja:a6->Prop),(∀st,K st->ja st)->∀st,tq T K n l cs rec st->tq T ja n l cs rec st:=by
   intro l
   induction l with
   |nil=>exact λn cs rec K ja h st=>h st
   |cons i r a2 =>
    intro n cs rec K ja h st hw;unfold tq at hw ⊢
    split
    ·rename_i aL;rw[aL] at hw;exact hw
    ·rename_i g aL;rw[aL] at hw;simp only at hw ⊢
     split
     ·rename_i kE;rw[aJ kE] at hw
      split
      ·rename_i m e O;rw[O] at hw;exact⟨hw.1,a2 _ _ _ _ _ h _ hw.2⟩
      ·rename_i O;rw[O] at hw;exact hw
     ·rename_i kE;rw[aR kE] at hw;exact a2 _ _ _ _ _ h _ hw
  exact this l 0 c _ _ _ (λst=>h .normal st) st hw
 |seq a b iha ihb =>
  intro K ja h st hw;refine iha _ _ (λe cb bk=>?_) st hw
  cases e with
  |normal=>exact ihb _ _ h _ bk
  |exit id=>exact h _ _ bk
  |ret=>exact h _ _ bk
 |cond c a b iha ihb =>
  intro K ja h st hw;unfold wp at hw ⊢
  split
  ·rename_i t U;rw[U] at hw;simp only at hw
   split
   ·rename_i bL;rw[aJ bL] at hw;exact iha _ _ h _ hw
   ·rename_i bL;rw[aR bL] at hw;exact ihb _ _ h _ hw
  ·rename_i J
   split at hw
   ·rename_i U;exact (J _ U).elim
   ·exact hw
 |block id c a2 =>
  intro K ja h st hw;refine a2 _ _ (λe cb bk=>?_) st hw
  cases e with
  |normal=>exact h _ _ bk
  |exit j =>
   simp only at bk ⊢
   split
   ·rename_i Y;rw[aJ Y] at bk;exact h _ _ bk
   ·rename_i Y;rw[aR Y] at bk;exact h _ _ bk
  |ret=>exact h _ _ bk
 |loop c a2 =>
  intro K ja h st hw;obtain⟨Bm,μ,aq,BI⟩:=hw;refine⟨Bm,μ,aq,λst df=>a2 _ _ (λe cb bk=>?_) _ (BI st df)⟩
  cases e with
  |normal=>exact bk
  |exit id=>exact h _ _ bk
  |ret=>exact h _ _ bk
 |exit id=>exact λK ja h st=>h _ _
 |ret=>exact λK ja h st=>h _ _
 |ghost g c a2 =>
  intro K ja h st hw
  have:∀(K ja:a6->Prop),(∀st,K st->ja st)->lh K st g->lh ja st g:=by
   intro K ja h hw;unfold lh at hw
   repeat' split at hw
   all_goals first
    |exact hw.elim
    |exact⟨hw.choose,hw.choose_spec.1,h _ hw.choose_spec.2⟩
    |(
      rcases hw with hw|⟨fN,fx,gv,i,k,g,sz,off,len,cs,k',F,G,aa,aX,bt,bx,hw⟩|⟨fN,fx,gv,i,k,g,sz,off,len,cs,d,F,G,aa,aX,bt,bx,hw⟩
      ·exact .inl (h _ hw)
      ·exact .inr (.inl ⟨fN,fx,gv,i,k,g,sz,off,len,cs,k',F,G,aa,aX,bt,bx,h _ hw⟩)
      ·exact .inr (.inr ⟨fN,fx,gv,i,k,g,sz,off,len,cs,d,F,G,aa,aX,bt,bx,h _ hw⟩))
    |(
      have cG:=h _ hw;clear hw h;unfold lh
      simp_all)
  exact this _ _ (a2 _ _ h) hw
def EC (T:bg)(K:fC->a6->Prop)(k:List iY)(a3:a6->Prop):fC->a6->Prop
 |.normal,st=>a3 st
 |.exit id,st=>cM T K k (.exit id) st
 |.ret,st=>cM T K k .ret st
@[go_sem] def ay2 {T:bg}{K:fC->a6->Prop}{k:List iY}{a3:a6->Prop}(st:a6):EC T K k a3 .normal st=a3 st:=bs
@[go_sem] def ay3 {T:bg}{K:fC->a6->Prop}{k:List iY}{a3:a6->Prop}(id:Nat)(st:a6):EC T K k a3 (.exit id) st=cM T K k (.exit id) st:=bs
@[go_sem] def ay4 {T:bg}{K:fC->a6->Prop}{k:List iY}{a3:a6->Prop}(st:a6):EC T K k a3 .ret st=cM T K k .ret st:=bs
def Zv {T:bg}{K:fC->a6->Prop}{k:List iY}{c a:e0}{st:a6}(a3:a6->Prop)(ba:wp T a (cM T (EC T K k a3) []) st)(U:∀cb,a3 cb->wp T c (cM T K k) cb):wp T a (cM T K (.code c::k)) st:=by
 refine wp_mono a _ _ (λe cb bk=>?_) st ba
 cases e with
 |normal=>exact U cb bk
 |exit id=>exact bk
 |ret=>exact bk
def ak1 {T:bg}{K:fC->a6->Prop}{k:List iY}{x:Bool}{c a b:e0}{st:a6}(a3:a6->Prop)(ba:x=true->wp T a (cM T (EC T K k a3) []) st)(R:x=false->wp T b (cM T (EC T K k a3) []) st)
  (U:∀cb,a3 cb->wp T c (cM T K k) cb):pB T K (.code c::k) (.I (.bool x)) a b st:=by
 cases x
 ·rw[ajY];exact Zv a3 (R rfl) U
 ·rw[ajX];exact Zv a3 (ba rfl) U
attribute [go_sem] beq_true beq_false Bool.true_beq Bool.false_beq mg List.flatten_nil mX List.headD_cons List.headD_nil List.tail_cons List.tail_nil List.contains_nil List.contains_cons Bool.not_eq_true'
section
variable {T:bg} {K:fC->a6->Prop} {k:List iY} {st:a6}
@[go_sem] def ay5 (g:Mb)(c:e0):wp T (.ghost g c) (cM T K k) st=lh (wp T c (cM T K k)) st g:=bs
def Sb (K:a6->Prop)(st:a6)(s k sz:Nat):H->Prop
 |.nil=>K ⟨dZ st.tm s (.ref k (bz st.mem k) sz 0 0),aT st.mem k (bz st.mem k) []⟩
 |_=>False
@[go_sem] def ay6 (K:a6->Prop)(s k sz:Nat):lh K st (.mM s k sz)=Sb K st s k sz (st.tm s):=by
 unfold lh Sb;rfl
@[go_sem] def ay7 (K:a6->Prop)(s k sz:Nat):Sb K st s k sz .nil=K ⟨dZ st.tm s (.ref k (bz st.mem k) sz 0 0),aT st.mem k (bz st.mem k) []⟩:=bs
end
section
variable {K:a6->Prop} {st:a6}
def ak2 (h:K st):lh K st .move:=.inl h
def ak3 (fN i k k':Nat){fx:Nat}{gv:List H}{g sz off len:Nat}{cs:List H}(F:st.mem fN=some (fx,gv))(G:gv[i]?=some (.ref k g sz off len))(aa:st.mem k=some (g,cs))(aX:k≠fN)(bt:k'≠k)(bx:k'≠fN)
  (h:K ⟨st.tm,aT (aT (aT st.mem k (bz st.mem k) []) k' (bz st.mem k') cs) fN fx (gv.set i (.ref k' (bz st.mem k') sz off len))⟩):lh K st .move :=
 .inr (.inl ⟨fN,fx,gv,i,k,g,sz,off,len,cs,k',F,G,aa,aX,bt,bx,h⟩)
def ak4 (fN i k:Nat){fx:Nat}{gv:List H}{g sz off len:Nat}{cs:List H}{d:Data}(F:st.mem fN=some (fx,gv))(G:gv[i]?=some (.ref k g sz off len))(aa:st.mem k=some (g,cs))(aX:q4 cs=true)(bt:k≠fN)(bx:cL 1 st.mem (.ref k g sz off len)=some d)
  (h:K ⟨st.tm,aT (kill st.mem k) fN fx (gv.set i (.I d))⟩):lh K st .move :=
 .inr (.inr ⟨fN,fx,gv,i,k,g,sz,off,len,cs,d,F,G,aa,aX,bt,bx,h⟩)
def Il (K:a6->Prop)(st:a6)(s k g sz off len:Nat):Option (Nat×List H)->Prop
 |some (cv,cs)=>if cv=g/\q4 cs=true then (match cut cs off (len*sz) with
  |some part=>(match part.mapM (cL 0 st.mem) with
   |some ds=>K ⟨dZ st.tm s (.I (.ao (chunk sz len ds))),kill st.mem k⟩
   |none=>False)
  |none=>False) else False
 |none=>False
def Sc (K:a6->Prop)(st:a6)(s:Nat):H->Prop
 |.ref k g sz off len=>Il K st s k g sz off len (st.mem k)
 |_=>False
@[go_sem] def ay8 (s:Nat):lh K st (.freeze s)=Sc K st s (st.tm s):=by
 unfold lh Sc;dsimp only
 cases hm:st.tm s with
 |ref k g sz off len=>?_
 |_=>rfl
 dsimp only;unfold Il
 cases Q:st.mem k with
 |none=>rfl
 |some x =>
  obtain⟨cv,cs⟩:=x;simp only
  by_cases U:cv=g/\q4 cs=true
  ·rw[aJ U,aJ U];unfold cL;rw[Q];simp only[U.1,if_true]
   cases ra:cut cs off (len*sz) with
   |none=>rfl
   |some part =>
    simp only
    cases aP:part.mapM (cL 0 st.mem)<;>rfl
  ·rw[aR U,aR U]
@[go_sem] def ay9 (s k g sz off len:Nat):Sc K st s (.ref k g sz off len)=Il K st s k g sz off len (st.mem k):=bs
@[go_sem] def aza (mem:Mem)(k:Key):kill mem k=aT mem k (bz mem k) []:=bs
end
open Classical in
def bG {α:Type}(u3:α->List Data)(f:α->Option di):List Data->Option di:=λds=>if h:∃a,u3 a=ds then f (Ey h) else none
def M9 {α:Type}{u3:α->List Data}{f:α->Option di}(inj:∀a b,u3 a=u3 b->a=b)(a:α):bG u3 f (u3 a)=f a:=by
 have h:∃b,u3 b=u3 a:=⟨a,rfl⟩;unfold bG;rw[dif_pos h,inj _ _ (sk h)]
def Na {α:Type}{u3:α->List Data}{f:α->Option di}{ds:List Data}{r:di}(h:bG u3 f ds=some r):∃a,ds=u3 a/\f a=some r:=by
 unfold bG at h
 split at h
 ·rename_i J;exact⟨_,(sk J).symm,h⟩
 ·cases h
open Classical in
def b8 (c:Prop)(r:di):Option di:=if c then some r else none
def Nb {c:Prop}(h:c)(r:di):b8 c r=some r:=by unfold b8;rw[aJ h]
def Sd {c:Prop}{r xK:di}(h:b8 c r=some xK):c/\xK=r:=by
 unfold b8 at h
 split at h
 ·cases h;exact⟨‹_›,rfl⟩
 ·cases h
@[go_sem] def azb (cm:List Data->Option di)(args:List H)(mem:Mem):aE cm args mem=Ew cm (args.mapM (cL 6 emp)) (args.mapM (cL 6 mem)):=bs
def map_inj {α β:Type}{f:α->β}(h:∀a b,f a=f b->a=b):∀(l mR:List α),l.map f=mR.map f->l=mR:=by
 intro l
 induction l with
 |nil=>intro mR e;cases mR<;>simp_all
 |cons a r a2 =>
  intro mR e
  cases mR with
  |nil=>simp at e
  |cons b xK =>
   simp only[gZ,bj] at e;rw[h _ _ e.1,a2 _ e.2]
def ED (l:List (FuncId×(List Data->Option di))):FuncId->Option (List Data->Option di):=λf=>(l.find? λp=>p.1==f).map (·.2)
def u4 {P:Program}{l:List (FuncId×(List Data->Option di))}(h:∀p∈l,hY P p.1 p.2):∀f cm,ED l f=some cm->hY P f cm:=by
 intro f cm aj;unfold ED at aj;rw[c2] at aj;obtain⟨p,aP,rfl⟩:=aj;have F:=List.mem_of_find?_eq_some aP;have G:=List.find?_some aP;have aa:p.1=f:=by simpa using G
 exact aa ▸ h p F
def bQ {P:Program}:∀p∈([]:List (FuncId×(List Data->Option di))),hY P p.1 p.2:=by simp
def aM {P:Program}{f:FuncId}{cm:List Data->Option di}{l:List (FuncId×(List Data->Option di))}(h:hY P f cm)(ae:∀p∈l,hY P p.1 p.2):∀p∈(f,cm)::l,hY P p.1 p.2:=by
 intro p aP;rcases kt.1 aP with rfl|aP
 ·exact h
 ·exact ae p aP
def Zw {gm:FuncId->Option (List Data->Option di)}{f:FuncId}{cm:List Data->Option di}(h:gm f=some cm):u1 gm f=aE cm:=by
 funext args mem
 unfold u1;rw[h]
@[go_sem] def azc (mem:Mem)(k:Key)(z:List H)(b m:Nat)(new:List H):qd mem k z b .nil (some (m,new)) =
  if m*b<=140737488355328/\m<=maxLen/\new.all H.one=true then some (.ref k (bz mem k) (D z) 0 m,some (k,bz mem k,new)) else none:=bs
@[go_sem] def azd (mem:Mem)(k k':Key)(z:List H)(g sz b len m:Nat)(new:List H):qd mem k z b (.ref k' g sz 0 len) (some (m,new)) =
  if sz=(D z) then lf k' g sz len b m new (mem k') else none:=by
 unfold qd;simp
def aQ {α:Type}(enc:α->List Data)(l:List α):List H:=(l.map enc).flatten.map .I
section
variable {α:Type} {enc:α->List Data} {sz:Nat}
def ak5:aQ enc []=[]:=rfl
def u5 (a:α)(l:List α):aQ enc (a::l)=(enc a).map .I++aQ enc l:=by simp[aQ]
def Se (a b:List α):aQ enc (a++b)=aQ enc a++aQ enc b:=by simp[aQ]
def jU (h:∀a,(enc a).length=sz)(l:List α):(aQ enc l).length=D l*sz:=by
 induction l with
 |nil=>simp[aQ]
 |cons a r a2=>rw[u5,ks,a2,ah,h,lQ,pw,Nat.one_mul,Nat.add_comm]
def Zx (h:∀a,(enc a).length=sz){l:List α}{i:Nat}{a:α}(Z:l[i]?=some a):∃p q,aQ enc l=p++((enc a).map .I++q)/\D p=i*sz/\∀b,aQ enc (l.set i b)=p++((enc b).map .I++q):=by
 have an:=(dK.1 Z).1;have nj:l[i]=a:=(dK.1 Z).2
 have e:l=l.take i++a::l.drop (i+1):=by
  rw[<-nj,<-gw an,Im]
 refine⟨aQ enc (l.take i),aQ enc (l.drop (i+1)),?_,?_,λb=>?_⟩
 ·conv=>lhs;rw[e]
  rw[Se,u5]
 ·rw[jU h,gj];congr 1;omega
 ·rw[List.set_eq_take_append_cons_drop,aJ an,Se,u5]
def EE (h:∀a,(enc a).length=sz){l:List α}{i:Nat}{a:α}(Z:l[i]?=some a){f n:Nat}(aj:f+n<=sz):cut (aQ enc l) (i*sz+f) n=some ((((enc a).map .I).drop f).take n):=by
 obtain⟨p,q,e,aP,-⟩:=Zx h Z;have ba:=h a;unfold cut;rw[e,aJ (by simp only[ks,ah];omega),<-aP];rw[EF,lj (by omega)];rw[show (D p)+f-D p=f by omega,EA,EF,List.take_append]
 have:n-(((enc a).map H.I).drop f).length=0:=by simp only[pG,ah];omega
 rw[this,M7,mX]
def Nc (h:∀a,(enc a).length=sz){l:List α}{i:Nat}(Z:i<D l)(b:α):kv (aQ enc l) (i*sz) ((enc b).map .I)=aQ enc (l.set i b):=by
 obtain⟨p,q,e,aP,O⟩:=Zx h (bc Z);rw[O b,e];have ba:=h l[i];have R:=h b;unfold kv;rw[<-aP,Sf,ki]
 congr 2
 rw[EF,lj (by omega),EA,ah,show (D p)+(enc b).length-D p=(enc b).length by omega,R,<-ba,<-ah (f:=H.I),Sg]
def ak6 (a4:∀a,((enc a).map H.I).all H.one=true)(l:List α):(aQ enc l).all H.one=true:=by
 induction l with
 |nil=>rfl
 |cons a r a2=>rw[u5,List.all_append,a4,a2];rfl
def z0 (h:∀a,(enc a).length=sz)(a4:∀a,((enc a).map H.I).all H.one=true)(k g b:Nat)(l new:List α)(R:(D l+D new)*b<=140737488355328)(hm:(D l)+D new<=1000000000):
  lf k g sz (D l) b (D new) (aQ enc new) (some (g,aQ enc l))=some (.ref k (g+1) sz 0 (D l+D new),some (k,g+1,aQ enc (l++new))):=by
 unfold lf;have uY:(D l)+D new<=maxLen:=iG hm (by decide);dsimp only;rw[aJ ⟨rfl,by rw[jU h];exact c8 _,R,uY,ak6 a4 new⟩,Se,dE (by rw[jU h];exact c8 _)]
def lq (h:∀a,(enc a).length=sz)(a4:∀a,((enc a).map H.I).all H.one=true)(k g b:Nat)(l:List α)(a:α){cs:List H}(U:cs=(enc a).map .I)(R:(D l+1)*b<=140737488355328)(hm:(D l)+1<=1000000000):
  lf k g sz (D l) b 1 cs (some (g,aQ enc l))=some (.ref k (g+1) sz 0 (D l+1),some (k,g+1,aQ enc (l++[a]))):=by
 have:=z0 h a4 k g b l [a] R hm;rw[U];rw[u5,ak5,mX] at this;exact this
def z1 (f:H->Option Data)(aj:∀d,f (.I d)=some d)(l:List Data):(l.map H.I).mapM f=some l:=by
 induction l with
 |nil=>rfl
 |cons a r a2=>simp[aj,a2]
def z2:∀(l:List (List Data)),(∀e∈l,D e=sz)->chunk sz (D l) l.flatten=l:=by
 intro l
 induction l with
 |nil=>intro _;rfl
 |cons e r a2 =>
  intro h;have he:=h e (by simp);rw[lQ,mg,chunk];rw[<-he,Sf,Sg,he,a2 λx J=>h x (by simp[J])]
def jV (h:∀a,(enc a).length=sz){n k g:Nat}{mem:Mem}{l:List α}(hm:mem k=some (g,aQ enc l)):cL (n+1) mem (.ref k g sz 0 (D l))=some (.ao (l.map enc)):=by
 unfold cL;rw[hm];simp only[if_true];unfold cut;rw[r1,jU h,aJ (c8 _)];simp only[pD];rw[dE (by rw[jU h];exact c8 _)];unfold aQ;rw[z1 _ λd=>by cases n<;>rfl]
 have:=z2 (sz:=sz) (l.map enc) (by simpa using λa _=>h a);rw[ah] at this;simp[this]
end
def Sh {α:Type}(enc:α->List Data)(l:List α):q4 (aQ enc l)=true:=by
 unfold q4 aQ;rw[kA];intro m hm;rw[h7] at hm;obtain⟨d,_,rfl⟩:=hm
 rfl
def sl {α:Type}{enc:α->List Data}{sz:Nat}(h:∀a,(enc a).length=sz){K:a6->Prop}{st:a6}(s k g:Nat)(l:List α):
  Il K st s k g sz 0 (D l) (some (g,aQ enc l))=K ⟨dZ st.tm s (.I (.ao (l.map enc))),kill st.mem k⟩:=by
 have L:=jV (n:=0) h (mem:=aT st.mem k g (aQ enc l)) (k:=k) (g:=g) (l:=l) (by simp[aT]);unfold Il;dsimp only;rw[aJ ⟨rfl,Sh enc l⟩];unfold cut;rw[r1,jU h,aJ (c8 _)];dsimp only;rw[pD,dE (by rw[jU h];exact c8 _)];unfold aQ;rw[z1 _ λd=>rfl];dsimp only;have:=z2 (sz:=sz) (l.map enc) (by simpa using λa _=>h a);rw[ah] at this;rw[this]
def wrap64 (x:Int)(F:-9223372036854775808<=x)(G:x<=9223372036854775807):IntKind.i64.wrap x=x:=by
 rw[IntKind.wrap_i64];omega
def Zy {α:Type}(l:List α)(i:Int)(aq:0<=i)(h:i<D l):∃x,l[i.toNat]?=some x/\l.drop i.toNat=x::l.drop (i+1).toNat/\l.take (i+1).toNat=l.take i.toNat++[x]:=by
 have an:i.toNat<D l:=by omega
 have e:(i+1).toNat=i.toNat+1:=by omega
 refine⟨l[i.toNat],bc an,?_,?_⟩
 ·rw[e];exact gw an
 ·rw[e];rw[hn,bc an];rfl
def bV:List Data->List H
 | []=>[]
 |d::l => .I d::bV l
def ak7 (l:List Data):bV l=l.map .I:=by
 induction l with
 |nil=>rfl
 |cons a l a2=>rw[bV,a2];rfl
def WF (T:bg)(mf:bE)(cm:List Data->Option di):Prop:=∀ds r,cm ds=some r->Nat.ble (D ds) mf.n=true/\wp T mf.body (tB mf.res r) ⟨ke (bV ds),emp⟩
abbrev Nd:Option di->(di->Prop)->Prop
 |some r,a3=>a3 r
 |none,_=>True
def cn {c:Prop}{r:di}{a3:di->Prop}(h:c->a3 r):Nd (b8 c r) a3:=by
 by_cases U:c
 ·rw[Nb U];exact h U
 ·have:b8 c r=none:=aR U;rw[this];trivial
def b5 {T:bg}{mf:bE}{α:Type}{A:α->List Data}{f:α->Option di}(h:∀a,Nd (f a) λr=>Nat.ble (A a).length mf.n=true/\wp T mf.body (tB mf.res r) ⟨ke (bV (A a)),emp⟩):WF T mf (bG A f):=λds r L=>by
 obtain⟨a,rfl,G⟩:=Na L;have aa:=h a;rw[G] at aa;exact aa
class Nf (a:List Data) (b:outParam (List Data)):Prop where
 e:a=b
instance {d:Data} {r:List Data}:Nf (d::r) (d::r):=⟨rfl⟩
instance:Nf [] []:=⟨rfl⟩
def cj {α:Type}{A:α->List Data}{f:α->Option di}(cm:List Data->Option di)(e:cm=bG A f)(inj:∀a b,A a=A b->a=b)(a:α){l:List Data}[ae:Nf (A a) l]{c:Prop}{r:di}(ax:f a=b8 c r)(U:c):cm l=some r:=by rw[<-ae.e,e,M9 inj,ax,Nb U]
def sm {α:Type}{A:α->List Data}{f:α->Option di}(cm:List Data->Option di)(e:cm=bG A f)(inj:∀a b,A a=A b->a=b)(a:α){l:List Data}[ae:Nf (A a) l]{r:di}(ax:f a=some r):cm l=some r:=by rw[<-ae.e,e,M9 inj,ax]
abbrev WP (T:bg)(mf:bE)(r:di)(l:List H):Prop:=wp T mf.body (tB mf.res r) ⟨ke l,emp⟩
def b4 {T:bg}{c:e0}{K:fC->a6->Prop}{st:a6}(h:wp T c (cM T K []) st):wp T c K st:=xX h
def fJ (x:Int)(F:-9223372036854775808<=x:=by omega)(G:x<=9223372036854775807:=by omega):IntKind.i64.wrap x=x:=wrap64 x F G
def e1 {i:Nat}(h:i<1000000000000):IntKind.i64.wrap ((i:Int)+1)=((i+1:Nat):Int):=by rw[wrap64 _ (by omega) (by omega)];omega
end Go.Mini
namespace Go.Mini
open Go Go.ChangeShapes Go.WideShapes
inductive pH where
 |int (k:IntKind)
 |bool
 |str
 |ao (e:pH)
 |st (l:List pH)
mutual
def Fit:pH->List Data->Prop
 |.int k,ds=>∃n,ds=[.int k n]/\(Lit.int k n).wf=true
 |.bool,ds=>∃b,ds=[.bool b]
 |.str,ds=>∃s,ds=[.str s]/\D s<=maxLen
 |.ao e,ds=>∃es,ds=[.ao es]/\D es<=maxLen/\∀x∈es,Fit e x
 |.st l,ds=>Fits l ds
def Fits:List pH->List Data->Prop
 | [],ds=>ds=[]
 |s::r,ds=>∃a b,ds=a++b/\Fit s a/\Fits r b
end
def Io (P:Program):Nat->List Field->Nat->Bool
 |off,[],tot=>off==tot
 |off,f::r,tot=>f.offset==off&&Io P (off+P.cellsOf f.type) r tot
def Ip (g:TypeId->Option pH):List Field->Option (List pH)
 | []=>some []
 |f::r=>match g f.type,Ip g r with
  |some s,some l=>some (s::l)
  |_,_=>none
def rj (P:Program):Nat->TypeId->Option pH
 |0,_=>none
 |n+1,t=>match P.underlying t with
  |some .bool=>some .bool
  |some (.int k)=>some (.int k)
  |some .string=>some .str
  |some (.slice e)=>if 0<P.cellsOf e then (rj P n e).map .ao else none
  |some (.struct dA)=>if Io P 0 dA.toList (P.cellsOf t)=true then (Ip (rj P n) dA.toList).map .st else none
  |_=>none
section
variable {hX:Type} {enc:TypeId×Value->hX} {P:Program} {w:World} {base:Nat}
def Iq (enc:TypeId×Value->hX)(P:Program)(w:World)(base:Nat)(S:pH)(fuel:Nat)(t:TypeId)(cs:List Value)(x:DataW hX×List MemPlace):Prop :=
 (∃ds,Fit S ds/\x8 w (λ_=>False) ds cs)/\(∀p∈x.2,p.block<w.heap.size) /\
 ∀(ak:World) (sp:Nat->Bool),(∀p∈x.2,sp p.block=true)->(∀b,b<w.heap.size->ak.heap[b]?=w.heap[b]?)->DataW.trod enc P ak base sp true fuel t cs=some x
def Ir {au:Nat->Prop}{d:Data}{v:Value}(h:Den w au d v):x8 w au [d] [v]:=by
 refine⟨rfl,λi qt pA F G=>?_⟩
 cases i with
 |zero=>cases F;cases G;exact h
 |succ i=>simp at F
def Zz (a:Addr)(i:Nat):(a.add i).block=a.block:=by
 unfold Addr.add
 split<;>rfl
def add_plain (b off i:Nat):(Addr.add ⟨b,off,none⟩ i)=⟨b,off+i,none⟩:=by
 unfold Addr.add
 split
 ·rename_i h;subst h;rfl
 ·rfl
def ZA {ak:World}{a:Addr}{n:Nat}{cs:List Value}(h:w.cells? base a n=some cs)(Q:∀b,b<w.heap.size->ak.heap[b]?=w.heap[b]?):ak.cells? base a n=some cs:=by
 unfold World.cells? at h ⊢
 split at h
 ·rename_i R;rw[aJ R,<-h]
  by_cases an:a.block<w.heap.size
  ·have he:(λi=>ak.cell? (a.add i))=λi=>w.cell? (a.add i):=by
    funext i
    exact World.cell?_of_block (a:=a.add i) (Q _ (by rw[Zz];exact an))
   rw[he]
  ·cases n with
   |zero=>rfl
   |succ n =>
    exfalso
    have:w.cell? (a.add 0)=none:=by
     unfold World.cell?;have:w.heap[(a.add 0).block]?=none:=Array.getElem?_eq_none (by rw[Zz];omega);rw[this]
    rw[List.range_succ_eq_map,nf,this] at h
    cases h
 ·cases h
def Si {a:Addr}{n:Nat}{cs:List Value}(h:w.cells? base a n=some cs):(D cs)=n/\∀i,i<n->∃v,cs[i]?=some v/\w.cell? (a.add i)=some v:=by
 unfold World.cells? at h
 split at h
 ·obtain⟨F,G⟩:=mapM_get h;rw[tE] at F;refine⟨F,λi Z=>?_⟩;have U:=bc (l:=cs) (i:=i) (by omega);exact⟨_,U,G i i _ (by simp[Z]) U⟩
 ·cases h
def ak8 {a:Addr}{v:Value}(h:w.cell? a=some v):a.block<w.heap.size/\a.spot=none:=by
 unfold World.cell? at h
 split at h
 ·rename_i R;refine⟨(Array.getElem?_eq_some_iff.1 R).1,?_⟩
  cases O:a.spot with
  |none=>rfl
  |some x=>rw[O] at h;simp at h
 ·cases h
def mapM_congr {α β:Type}{f g:α->Option β}:∀{l:List α},(∀x∈l,f x=g x)->l.mapM f=l.mapM g:=by
 intro l
 induction l with
 |nil=>intro _;rfl
 |cons a r a2 =>
  intro h;rw[nf,nf,h a (by simp),a2 λx J=>h x (by simp[J])]
def ak9 {β:Type}(len:Nat)(a3:Nat->β->Prop)(h:∀i,i<len->∃y,a3 i y):∃l:List β,D l=len/\∀i y,l[i]?=some y->a3 i y:=by
 induction len with
 |zero=>exact⟨[],rfl,λi y h=>by simp at h⟩
 |succ n a2 =>
  obtain⟨l,F,G⟩:=a2 λi Z=>h i (by omega);obtain⟨y,ai⟩:=h n (by omega);refine⟨l++[y],by simp[F],λi z a0=>?_⟩
  rw[Ec] at a0
  split at a0
  ·exact G i z a0
  ·rename_i an
   have:i-D l=0:=by
    have:=(dK.1 a0).1;simp at this;omega
   rw[this] at a0
   cases a0;have:i=n:=by omega
   subst this;exact ai
def ala {β:Type}{sz:Nat}:∀(es:List (List β)),(∀e∈es,D e=sz)->0<sz->∀(i:Nat) (d:β),es.flatten[i]?=some d->∃e,es[i/sz]?=some e/\e[i%sz]?=some d:=by
 intro es
 induction es with
 |nil=>intro _ _ i d h;simp at h
 |cons e r a2 =>
  intro h a0 i d ad;have he:=h e (by simp);rw[mg,Ec] at ad
  split at ad
  ·rename_i an;rw[he] at an;refine⟨e,by rw[Sj an];rfl,by rw[Is an];exact ad⟩
  ·rename_i bB;rw[he] at ad bB;obtain⟨x,F,G⟩:=a2 (λy ai=>h y (by simp[ai])) a0 _ d ad;have Z:i=(i-sz)+sz:=by omega
   refine⟨x,?_,?_⟩
   ·rw[Z,Nat.add_div_right _ a0]
    simpa using F
   ·rw[Z,Nat.add_mod_right];exact G
def alb {n fuel:Nat}(a2:∀t S,rj P n t=some S->∀(cs:List Value) (x:DataW hX×List MemPlace),DataW.trod enc P w base (λ_=>true) true fuel t cs=some x->Iq enc P w base S fuel t cs x)(cs:List Value):
  ∀(dA:List Field) (off:Nat) (l:List pH) (xs:List (DataW hX×List MemPlace)),Ip (rj P n) dA=some l->Io P off dA (D cs)=true ->
   dA.mapM (λf=>DataW.trod enc P w base (λ_=>true) true fuel f.type ((cs.drop f.offset).take (P.cellsOf f.type)))=some xs ->
   (∃ds,Fits l ds/\x8 w (λ_=>False) ds (cs.drop off))/\(∀p∈xs.flatMap (·.2),p.block<w.heap.size) /\
   ∀(ak:World) (sp:Nat->Bool),(∀p∈xs.flatMap (·.2),sp p.block=true)->(∀b,b<w.heap.size->ak.heap[b]?=w.heap[b]?) ->
    dA.mapM (λf=>DataW.trod enc P ak base sp true fuel f.type ((cs.drop f.offset).take (P.cellsOf f.type)))=some xs:=by
 intro dA
 induction dA with
 |nil =>
  intro off l xs ae bL J;simp only[Ip,bM] at ae;subst ae;simp only[Io,beq_iff_eq] at bL;simp only[Zu,fZ,bM] at J;subst J;refine⟨⟨[],rfl,?_⟩,by simp,λ_ _ _ _=>rfl⟩
  rw[bL,Sk];exact⟨rfl,λi d v h=>by simp at h⟩
 |cons f r ihf =>
  intro off l xs ae bL J;unfold Ip at ae
  split at ae
  ·rename_i s mR O nD
   cases ae;simp only[Io,fe,beq_iff_eq] at bL;obtain⟨Ru,bL⟩:=bL;rw[nf] at J;simp only[fZ,gi,dH,bM] at J;obtain⟨x,ey,ys,BK,rfl⟩:=J;obtain⟨⟨Sl,It,BL⟩,alc,ald⟩:=a2 _ _ O _ _ ey;obtain⟨⟨ZB,kW,eE⟩,ale,alf⟩:=ihf _ _ _ nD bL BK;refine⟨⟨Sl++ZB,⟨Sl,ZB,rfl,It,kW⟩,?_⟩,?_,?_⟩
   ·have MG:cs.drop off=(cs.drop off).take (P.cellsOf f.type)++cs.drop (off+P.cellsOf f.type):=by
     rw[<-x2,Im]
    rw[Ru] at BL;rw[MG];refine⟨by rw[ks,ks,BL.1,eE.1],λi d v F G=>?_⟩
    rw[Ec] at F G;have hlen:=BL.1
    by_cases an:i<D Sl
    ·rw[aJ an] at F;rw[aJ (by omega)] at G;exact BL.2 i d v F G
    ·rw[aR an] at F;rw[aR (by omega),hlen] at G;exact eE.2 _ d v F G
   ·intro p aP;rw[Sm,h5] at aP;exact aP.elim (alc p) (ale p)
   ·intro ak sp oP Q;rw[nf,ald ak sp (λp aP=>oP p (by rw[Sm,h5];exact .inl aP)) Q];have:=alf ak sp (λp aP=>oP p (by rw[Sm,h5];exact .inr aP)) Q;simp only[fZ,gi,zZ];rw[this]
    rfl
  ·cases ae
def alg:∀(n:Nat) (t:TypeId) (S:pH),rj P n t=some S->∀(fuel:Nat) (cs:List Value) (x:DataW hX×List MemPlace),DataW.trod enc P w base (λ_=>true) true fuel t cs=some x->Iq enc P w base S fuel t cs x:=by
 intro n
 induction n with
 |zero=>intro t S h;simp[rj] at h
 |succ n a2 =>
  intro t S cU fuel cs x J
  cases fuel with
  |zero=>cases J
  |succ fuel =>
   unfold rj at cU
   split at cU
   ·-- bool
    rename_i hu
    cases cU
    have key:∀(ak:World) (sp:Nat->Bool) (cs:List Value),DataW.trod enc P ak base sp true (fuel+1) t cs=match cs with|[.bool b]=>some (.lit (.bool b),[])|_=>none:=by
     intro ak sp cs;unfold DataW.trod;rw[hu];clear J
     split<;>simp_all
    rw[key] at J
    split at J
    ·cases J;exact⟨⟨_,⟨_,rfl⟩,Ir .bool⟩,by simp,λak sp _ _=>by rw[key]⟩
    ·cases J
   ·-- int
    rename_i k hu
    cases cU
    have key:∀(ak:World) (sp:Nat->Bool) (cs:List Value),DataW.trod enc P ak base sp true (fuel+1) t cs=match cs with|[.int k' n]=>if k'=k/\(Lit.int k n).wf=true then some (.lit (.int k n),[]) else none|_=>none:=by
     intro ak sp cs;unfold DataW.trod;rw[hu];clear J
     split<;>simp_all
    rw[key] at J
    split at J
    ·split at J
     ·rename_i U
      cases J;obtain⟨rfl,ZC⟩:=U;exact⟨⟨_,⟨_,rfl,ZC⟩,Ir .int⟩,by simp,λak sp _ _=>by rw[key];simp[ZC]⟩
     ·cases J
    ·cases J
   ·-- string
    rename_i hu
    cases cU
    have key:∀(ak:World) (sp:Nat->Bool) (cs:List Value),DataW.trod enc P ak base sp true (fuel+1) t cs=match cs with|[.string s]=>if s.size<=maxLen then some (.lit (.string s.data.toList),[]) else none|_=>none:=by
     intro ak sp cs;unfold DataW.trod;rw[hu];clear J
     split<;>simp_all
    rw[key] at J
    split at J
    ·rename_i s
     split at J
     ·rename_i U
      cases J;refine⟨⟨[.str s.data.toList],⟨_,rfl,?_⟩,Ir ?_⟩,by simp,λak sp _ _=>by rw[key];simp[U]⟩
      ·rw[Array.length_toList];exact U
      ·have:Den w (λ_=>False) (.str s.data.toList) (.string ⟨s.data.toList.toArray⟩):=.str
       simpa using this
     ·cases J
    ·cases J
   ·-- slice
    rename_i e hu
    split at cU
    ·rename_i U;rw[c2] at cU;obtain⟨S,cU,rfl⟩:=cU
     have key:∀(ak:World) (sp:Nat->Bool) (cs:List Value),DataW.trod enc P ak base sp true (fuel+1) t cs=match cs with
      | [.slice none 0 0]=>some (.nil,[])
      | [.slice (some a) len cap] =>
       if base<=a.block/\len<=cap/\cap<=maxLen then
        ((
         qj len).mapM λi=>(ak.cells? base (a.add (i*P.cellsOf e)) (P.cellsOf e)).bind (DataW.trod enc P ak base sp true fuel e)).bind λelems =>
         (if sp a.block then (qj (cap-len)).mapM λj=>(ak.cells? base (a.add ((len+j)*P.cellsOf e)) (P.cellsOf e)).bind (DataW.trod enc P ak base sp true fuel e) else some []).map λrest =>
          (.slice (elems.map (·.1)) (rest.map (·.1)),MemPlace.row a ((D elems+D rest)*P.cellsOf e)++(elems++rest).flatMap (·.2))
       else none
      |_=>none:=by
      intro ak sp cs
      conv=>lhs;unfold DataW.trod
      rw[hu];clear J
      split<;>simp_all
     rw[key] at J
     split at J
     ·cases J;exact⟨⟨[.ao []],⟨_,rfl,dF _,by simp⟩,Ir .kP⟩,by simp,λak sp _ _=>by rw[key];rfl⟩
     ·rename_i a len cap
      split at J
      ·rename_i R;rw[dH] at J;obtain⟨elems,he,J⟩:=J;rw[c2] at J;obtain⟨rest,L,rfl⟩:=J;rw[aJ rfl] at L;obtain⟨kx,alh⟩:=mapM_get he;obtain⟨b7,ali⟩:=mapM_get L;rw[tE] at kx b7
       -- each place
       have g9:∀i y,(i<len->elems[i]?=some y)->(¬ i<len->i<cap/\rest[i-len]?=some y)->∃ci,w.cells? base (a.add (i*P.cellsOf e)) (P.cellsOf e)=some ci/\DataW.trod enc P w base (λ_=>true) true fuel e ci=some y:=by
        intro i y F G
        by_cases Z:i<len
        ·have:=alh i i y (by simp[Z]) (F Z);rwa [dH] at this
        ·obtain⟨aa,aX⟩:=G Z;have:=ali (i-len) (i-len) y (List.getElem?_range (by omega)) aX;rw[show len+(i-len)=i by omega,dH] at this
         exact this
       have jP:0<D elems+(D rest)->a.block<w.heap.size/\a.spot=none:=by
        intro aP;have aq:0<cap:=by omega
        have:∃y,(0<len->elems[0]?=some y)/\(¬ 0<len->0<cap/\rest[0-len]?=some y):=by
         by_cases ae:0<len
         ·exact⟨elems[0],λ_=>bc _,λh=>absurd ae h⟩
         ·exact⟨rest[0],λh=>absurd h ae,λ_=>⟨aq,by rw[Nat.zero_sub];exact bc _⟩⟩
        obtain⟨y,F,G⟩:=this;obtain⟨ci,dg,-⟩:=g9 0 y F G;obtain⟨v,-,al⟩:=(Si dg).2 0 U;have:=ak8 al;rw[Ng] at this;have fH:(a.add 0).add 0=a:=by unfold Addr.add;simp
        rw[fH] at this;exact this
       have yc:∀i y,(i<len->elems[i]?=some y)->(¬ i<len->i<cap/\rest[i-len]?=some y)->∃ci,w.cells? base (a.add (i*P.cellsOf e)) (P.cellsOf e)=some ci/\Iq enc P w base S fuel e ci y:=by
        intro i y F G;obtain⟨ci,aa,aX⟩:=g9 i y F G;exact⟨ci,aa,a2 e S cU fuel ci y aX⟩
       have Sn:∀(i:Nat) y,elems[i]?=some y->∃ci,w.cells? base (a.add (i*P.cellsOf e)) (P.cellsOf e)=some ci/\Iq enc P w base S fuel e ci y :=
        λi y ai=>yc i y (λ_=>ai) (λh=>absurd (by have:=(dK.1 ai).1;omega) h)
       have ZD:∀(j:Nat) y,rest[j]?=some y->∃ci,w.cells? base (a.add ((len+j)*P.cellsOf e)) (P.cellsOf e)=some ci/\Iq enc P w base S fuel e ci y :=
        λj y ai=>yc (len+j) y (λh=>by omega) (λ_=>⟨by have:=(dK.1 ai).1;omega,by rwa [EG]⟩)
       refine⟨?_,?_,?_⟩
       ·obtain⟨es,sn,heq⟩:=ak9 len (λi (ds:List Data)=>∃ci,w.cells? base (a.add (i*P.cellsOf e)) (P.cellsOf e)=some ci/\Fit S ds/\x8 w (λ_=>False) ds ci) λi Z=>by
         obtain⟨ci,F,⟨ds,G,aa⟩,-,-⟩:=Sn i _ (bc (by omega));exact⟨ds,ci,F,G,aa⟩
        refine⟨[.ao es],⟨es,rfl,by omega,λy ai=>?_⟩,Ir ?_⟩
        ·obtain⟨i,Z⟩:=yd.1 ai;obtain⟨ci,-,h,-⟩:=heq i y Z;exact h
        ·by_cases ae:len=0
         ·rw[ae] at sn ⊢;rw[q9 sn];exact .kP
         ·obtain⟨kW,eE⟩:=jP (by omega);obtain⟨b,off,spot⟩:=a;simp only at kW eE;subst eE
          have eb:∀y∈es,D y=P.cellsOf e:=by
           intro y ai;obtain⟨i,Z⟩:=yd.1 ai;obtain⟨ci,F,-,G⟩:=heq i y Z;rw[<-G.1,(Si F).1]
          have h8:∀(i:Nat) (d:Data),es.flatten[i]?=some d->∃v,w.cell? ⟨b,off+i,none⟩=some v/\Den w (λ_=>False) d v:=by
           intro i d ad;obtain⟨y,F,G⟩:=ala es eb U i d ad;obtain⟨ci,aa,-,aX⟩:=heq _ y F;have hm:i%P.cellsOf e<P.cellsOf e:=oQ _ U;obtain⟨v,bt,bx⟩:=(Si aa).2 _ hm;rw[add_plain,add_plain,r0,ye,Nh] at bx;exact⟨v,bx,aX.2 _ d v G bt⟩
          rw[<-sn];refine .ao (sz:=P.cellsOf e) (λi=>(w.cell? ⟨b,off+i,none⟩).getD undef) (by omega) (by omega) kW (λh=>h) eb (λi Z=>?_) λi d ad=>?_
          ·have an:i<D es.flatten:=by rw[L6 eb];exact Z
           obtain⟨v,al,-⟩:=h8 i _ (bc an);rw[al]
           rfl
          ·obtain⟨v,al,mP⟩:=h8 i d ad;rw[al];exact mP
       ·intro p aP;simp only[h5] at aP;rcases aP with aP|aP
        ·unfold MemPlace.row at aP;rw[h7] at aP;obtain⟨i,Z,rfl⟩:=aP;rw[BM] at Z
         have:0<D elems+D rest:=by
          rcases ln (D elems+D rest) with h|h
          ·rw[h,Ng] at Z;omega
          ·exact h
         exact (jP this).1
        ·rw[By] at aP;obtain⟨y,ai,aP⟩:=aP;rw[h5] at ai;rcases ai with ai|ai
         ·obtain⟨i,Z⟩:=yd.1 ai;obtain⟨ci,-,h⟩:=Sn i y Z;exact h.2.1 p aP
         ·obtain⟨i,Z⟩:=yd.1 ai;obtain⟨ci,-,h⟩:=ZD i y Z;exact h.2.1 p aP
       ·intro ak sp oP Q;rw[key];simp only;rw[aJ R]
        have nG:0<D elems+(D rest)->sp a.block=true:=by
         intro aP
         have:=oP (.cell a.block (a.off+0)) (by
          rw[h5]
          left
          unfold MemPlace.row;rw[h7];exact⟨0,by rw[BM];exact Nat.mul_pos aP U,rfl⟩)
         exact this
        have alj:(qj len).mapM (λi=>(ak.cells? base (a.add (i*P.cellsOf e)) (P.cellsOf e)).bind (DataW.trod enc P ak base sp true fuel e))=some elems:=by
         rw[<-he];refine mapM_congr λi Z=>?_;rw[BM] at Z;have ai:=bc (l:=elems) (i:=i) (by omega);obtain⟨ci,F,G⟩:=Sn i _ ai;rw[ZA F Q,F];simp only[zZ];obtain⟨alk,aa,aX⟩:=g9 i _ (λ_=>ai) (λh=>absurd Z h);rw[F] at aa
         cases aa;rw[aX]
         exact G.2.2 ak sp (λp aP=>oP p (by
          rw[h5];right
          rw[By];exact⟨_,h5.2 (.inl (cJ ai)),aP⟩)) Q
        have alm:(qj (cap-len)).mapM (λj=>(ak.cells? base (a.add ((len+j)*P.cellsOf e)) (P.cellsOf e)).bind (DataW.trod enc P ak base sp true fuel e))=some rest:=by
         rw[<-L];refine mapM_congr λj Y=>?_;rw[BM] at Y;have ai:=bc (l:=rest) (i:=j) (by omega);obtain⟨ci,F,G⟩:=ZD j _ ai;rw[ZA F Q,F];simp only[zZ];obtain⟨alk,aa,aX⟩:=g9 (len+j) rest[j] (λh=>by omega) (λ_=>⟨by omega,by rw[EG];exact ai⟩);rw[F] at aa
         cases aa;rw[aX]
         exact G.2.2 ak sp (λp aP=>oP p (by
          rw[h5];right
          rw[By];exact⟨_,h5.2 (.inr (cJ ai)),aP⟩)) Q
        rw[alj];simp only[zZ]
        cases O:sp a.block with
        |true=>simp only[if_true];rw[alm];rfl
        |false =>
         have a0:¬ 0<D elems+D rest:=λh=>by rw[nG h] at O;cases O
         have:rest=[]:=q9 (by omega);subst this
         rfl
      ·cases J
     ·cases J
    ·cases cU
   ·-- struct
    rename_i dA hu
    split at cU
    ·rename_i bL;rw[c2] at cU;obtain⟨l,ae,rfl⟩:=cU
     have key:∀(ak:World) (sp:Nat->Bool),DataW.trod enc P ak base sp true (fuel+1) t cs =
       if (D cs)=P.cellsOf t then (dA.toList.mapM λf=>DataW.trod enc P ak base sp true fuel f.type ((cs.drop f.offset).take (P.cellsOf f.type))).map λxs=>(.agg (xs.map (·.1)),xs.flatMap (·.2)) else none:=by
      intro ak sp
      conv=>lhs;unfold DataW.trod
      rw[hu]
     rw[key] at J
     split at J
     ·rename_i hlen;rw[c2] at J;obtain⟨xs,sh,rfl⟩:=J;rw[<-hlen] at bL;obtain⟨F,G,aa⟩:=alb (λt S h cs x J=>a2 t S h fuel cs x J) cs dA.toList 0 l xs ae bL sh;refine⟨?_,G,λak sp oP Q=>?_⟩
      ·obtain⟨ds,aj,ad⟩:=F;exact⟨ds,aj,by simpa using ad⟩
      ·rw[key,aJ hlen,aa ak sp oP Q]
       rfl
     ·cases J
    ·cases cU
   ·cases cU
end
end Go.Mini
namespace Go.Mini
open Go Go.ChangeShapes Go.WideShapes Go.RowKit
def ZE:pH->Data->Prop
 |.st l,d=>∃cs,d=.agg cs/\Fits l cs
 |s,d=>Fit s [d]
def Ni:List pH->List Data->Prop
 | [],ds=>ds=[]
 |s::r,ds=>∃d t,ds=d::t/\ZE s d/\Ni r t
section
variable {hX:Type} {enc:TypeId×Value->hX} {P:Program} {w:World}
def aln {au:Nat->Prop}{d:Data}{v:Value}{ds:List Data}{vs:List Value}(h:Den w au d v)(O:x8 w au ds vs):x8 w au (d::ds) (v::vs):=by
 refine⟨by simp[O.1],λi qt pA F G=>?_⟩
 cases i with
 |zero=>cases F;cases G;exact h
 |succ i=>exact O.2 i qt pA (by simpa using F) (by simpa using G)
def alo {n:Nat}{t:TypeId}{S:pH}{v:Value}{d:DataW hX}{cT:List MemPlace}{rk:Nat}(cU:rj P n t=some S)(h8:Value.okWide P w .any rk t v)(h:DataW.Trod enc P w 0 (λ_=>true) true t v d cT):
  (∃b2,ZE S b2/\Den w (λ_=>False) b2 v)/\(∀p∈cT,p.block<w.heap.size) /\
  ∀(ak:World) (sp:Nat->Bool),(∀p∈cT,sp p.block=true)->(∀b,b<w.heap.size->ak.heap[b]?=w.heap[b]?)->DataW.Trod enc P ak 0 sp true t v d cT:=by
 obtain⟨fuel,J⟩:=h;obtain⟨⟨ds,aj,ad⟩,G,aa⟩:=alg n t S cU fuel _ _ J;refine⟨?_,G,λak sp oP Q=>⟨fuel,aa ak sp oP Q⟩⟩
 have one:(∀cs,v ≠ .agg cs)->∀d,ds=[d]->Den w (λ_=>False) d v:=by
  intro al d e;subst e;have:v.cells=#[v]:=by unfold Value.cells;split<;>simp_all
  rw[this] at ad;exact ad.2 0 d v rfl rfl
 cases n with
 |zero=>simp[rj] at cU
 |succ n =>
  unfold rj at cU;unfold Value.okWide at h8
  split at cU
  ·rename_i hu
   cases cU;rw[hu] at h8;obtain⟨b,rfl⟩:=aj;refine⟨_,⟨b,rfl⟩,one ?_ _ rfl⟩;rintro cs rfl;simp[Cell.okWide,Cell.ok,hu] at h8
  ·rename_i k hu
   cases cU;rw[hu] at h8;obtain⟨b,rfl,R⟩:=aj;refine⟨_,⟨b,rfl,R⟩,one ?_ _ rfl⟩;rintro cs rfl;simp[Cell.okWide,Cell.ok,hu] at h8
  ·rename_i hu
   cases cU;rw[hu] at h8;obtain⟨b,rfl,R⟩:=aj;refine⟨_,⟨b,rfl,R⟩,one ?_ _ rfl⟩;rintro cs rfl;simp[Cell.okWide,Cell.ok,hu] at h8
  ·rename_i e hu
   split at cU
   ·rw[c2] at cU;obtain⟨S,cU,rfl⟩:=cU;rw[hu] at h8;obtain⟨b,rfl,R⟩:=aj;refine⟨_,⟨b,rfl,R⟩,one ?_ _ rfl⟩;rintro cs rfl;simp[Cell.okWide,Cell.ok,hu] at h8
   ·cases cU
  ·rename_i dA hu
   split at cU
   ·rw[c2] at cU;obtain⟨l,ae,rfl⟩:=cU;rw[hu] at h8;obtain⟨cs,rfl,-,-⟩:=h8;refine⟨.agg ds,⟨ds,rfl,aj⟩,?_⟩;have:Den w (λ_=>False) (.agg ds) (.agg cs.toList.toArray):=.agg ad.1 ad.2
    simpa using this
   ·cases cU
  ·cases cU
def So {n rk:Nat}:∀{r5:List TypeId} {schs:List pH} {vs:List Value} {ds:List (DataW hX)} {cT:List MemPlace},r5.mapM (rj P n)=some schs->(∀(j:Nat) t v,r5[j]?=some t->vs[j]?=some v->Value.okWide P w .any rk t v) ->
  DataW.TrodAll enc P w 0 (λ_=>true) true r5 vs ds cT ->
  (∃rl,Ni schs rl/\x8 w (λ_=>False) rl vs)/\(∀p∈cT,p.block<w.heap.size) /\
  ∀(ak:World) (sp:Nat->Bool),(∀p∈cT,sp p.block=true)->(∀b,b<w.heap.size->ak.heap[b]?=w.heap[b]?)->DataW.TrodAll enc P ak 0 sp true r5 vs ds cT
 | [],schs,vs,ds,cT,cU,h8,h=>by
  obtain⟨rfl,rfl,rfl⟩:=trodAll_nil h;simp at cU;subst cU;exact⟨⟨[],rfl,rfl,λi d v h=>by simp at h⟩,by simp,λ_ _ _ _=>rfl⟩
 |t::r5,schs,vs,ds,cT,cU,h8,h=>by
  obtain⟨v,alp,d,alq,a,b,rfl,rfl,rfl,F,G⟩:=trodAll_cons h;rw[nf] at cU;simp only[fZ,gi,dH,bM] at cU;obtain⟨S,alr,l,ae,rfl⟩:=cU;obtain⟨⟨b2,ez,als⟩,kX,bm⟩:=alo alr (h8 0 t v rfl rfl) F;obtain⟨⟨rl,alu,alv⟩,ni,c3⟩:=So ae (λj ld pA bL al=>h8 (j+1) ld pA (by simpa using bL) (by simpa using al)) G;refine⟨⟨b2::rl,⟨b2,rl,rfl,ez,alu⟩,aln als alv⟩,λp aP=>?_,λak sp oP Q=>?_⟩
  ·rw[h5] at aP;exact aP.elim (kX p) (ni p)
  ·exact trodAll_cons_mk (bm ak sp (λp aP=>oP p (h5.2 (.inl aP))) Q) (c3 ak sp (λp aP=>oP p (h5.2 (.inr aP))) Q)
def alw {W rm:World}(h:Fr (λ_=>False) W rm)(may:MemPlace->Prop):W.keptBut rm may:=by
 refine⟨h.os,h.output,λi Z=>?_⟩;rw[h.block i Z id]
 cases R:W.heap[i]? with
 |none=>trivial
 |some o =>
  cases o with
  |cells c t fY=>exact⟨rfl,rfl,rfl,λ_ _=>rfl⟩
  |map es clock=>exact .inr ⟨rfl,rfl⟩
  |_=>rfl
def alx {f:Func}{s:ChangeSpec}{apart fresh handsOn again:Bool}{W rm:World}{args:Array Value}{ds gs:List (DataW hX)}{before:List MemPlace}{n rk:Nat}{schs:List pH}{Iu:TypeId}
  (BN:DataW.Whole enc P f.params.toList s.vars apart W args.toList ds gs before) (al:s.vars=[]) (cU:f.params.toList.mapM (rj P n)=some schs)
  (h8:∀(j:Nat) t v,f.params[j]?=some t->args[j]?=some v->Value.okWide P W .any rk t v)
  (L:f.resultTypes=#[Iu]) (R:P.underlying Iu=some .bool) (iM:s.fn hX ds={ results:=[.lit (.bool true)],args:=ds }) (aj:Fr (λ_=>False) W rm) :
  s.post enc P f apart fresh handsOn again W args (.bool true) rm:=by
 have Sp:=BN;obtain⟨p,q,e9,oR,rfl,a0,aA⟩:=BN;rw[al] at oR;obtain⟨rfl,rfl⟩:=trodVars_none oR;obtain⟨-,an,Q⟩:=So cU (λj t v bL al=>h8 j t v (by simpa using bL) (by simpa using al)) e9;have ZF:∀b,b<W.heap.size->rm.heap[b]?=W.heap[b]?:=λb R=>aj.block b R id
 have jS:∀(b:Nat) (sp:Nat->Bool) (ad:Bool),DataW.TrodAll enc P rm b sp ad f.resultTypes.toList ((Value.bool true).resultList f.resultTypes.size) (s.fn hX (ds++[])).results []:=by
  intro b sp ad;rw[mX,iM,L];exact trodAll_cons_mk (shut_bool R true) trodAll_mk0
 have jq:∀sp:Nat->Bool,(∀x∈p,sp x.block=true)->DataW.TrodAll enc P rm 0 sp true f.params.toList args.toList (s.fn hX (ds++[])).args p:=by
  intro sp oP;rw[mX,iM];exact Q rm sp oP ZF
 have ZG:∀sp:Nat->Bool,DataW.TrodVars enc P rm sp s.vars (s.fn hX (ds++[])).vars []:=by
  intro sp;rw[al,mX,iM]
  rfl
 refine⟨ds,[],p++[],[],p,[],Sp,jS _ _ _,jq _ (λx J=>by simpa using an x J),ZG _,alw aj _,λ_=>⟨?_,_,_,([]++p)++[],⟨[]++p,[],trodAll_append (jq _ (λ_ _=>rfl)) (jS _ _ _),ZG _,rfl,?_,?_⟩,?_⟩⟩
 ·intro j t r F G;rw[L] at F G
  cases j with
  |zero =>
   simp[Value.resultList] at F G;subst F G;exact okWide_bool_mk R true
  |succ j=>simp at F
 ·intro b off aP;have ZH:MemPlace.cell b off∈p:=by simpa using aP
  have R:=an _ ZH;have aq:=a0 b off (by simpa using ZH);unfold World.frozen? at aq ⊢;rw[ZF b R];exact aq
 ·intro ba;have:=aA ba
  simpa using this
 ·intro x J _
  simpa using J
def aly {f:FuncId}{fn:Func}{s:ChangeSpec}{apart fresh handsOn again:Bool}{cm:List Data->Option di}{n:Nat}{schs:List pH}{Iu:TypeId}(aP:hY P f cm)(al:s.vars=[])(cU:fn.params.toList.mapM (rj P n)=some schs)
  (L:fn.resultTypes=#[Iu]) (R:P.underlying Iu=some .bool) (iM:∀ds:List (DataW hX),D ds=(D fn.params.toList)->s.fn hX ds={ results:=[.lit (.bool true)],args:=ds })
  {W:World} {base:Nat} {args:Array Value} {ds gs:List (DataW hX)} {before:List MemPlace}
  (ej:∀rl,Ni schs rl->cm rl=some (.same (.bool true)))
  (h8:∀(j:Nat) t v,fn.params[j]?=some t->args[j]?=some v->Value.okWide P W .any base t v)
  (BN:DataW.Whole enc P fn.params.toList s.vars apart W args.toList ds gs before) (aL:DW W:=by intro b o h;cases h) :
  Calls P f args W λe rm=>∃v,e=.returned v/\s.post enc P fn apart fresh handsOn again W args v rm:=by
 have Sp:=BN;obtain⟨p,q,e9,oR,rfl,a0,aA⟩:=BN;obtain⟨⟨rl,F,G⟩,-,-⟩:=So cU (λj t v bL al=>h8 j t v (by simpa using bL) (by simpa using al)) e9
 have hlen:(D ds)=D fn.params.toList:=by
  have:∀(r5:List TypeId) (vs:List Value) (ds:List (DataW hX)) (cT:List MemPlace),DataW.TrodAll enc P W 0 (λ_=>true) true r5 vs ds cT->(D ds)=D r5:=by
   intro r5
   induction r5 with
   |nil=>intro vs ds cT h;obtain⟨rfl,rfl,rfl⟩:=trodAll_nil h;rfl
   |cons t r a2=>intro vs ds cT h;obtain⟨v,alp,d,alq,a,b,rfl,rfl,rfl,-,G⟩:=trodAll_cons h;simp[a2 _ _ _ G]
  exact this _ _ _ _ e9
 have U:=aP.run rl _ (ej rl F) (λ_=>False) W args.toList (λb R=>R.elim) aL G;have ba:args.toList.toArray=args:=by simp
 rw[ba] at U;refine U.mono λe rm ⟨v,he,dq,ad⟩=>⟨v,he,?_⟩
 have:v=.bool true:=by
  have mP:Den rm (λ_=>False) (.bool true) v:=ad
  cases mP
  rfl
 subst this;exact alx Sp al cU h8 L R (iM ds hlen) dq
def Sq {α:Type}{l:List α}{n:Nat}(h:(D l)=n+1):∃d t,l=d::t/\D t=n:=by
 cases l with
 |nil=>simp at h
 |cons d t=>exact⟨d,t,rfl,by simpa using h⟩
def Nj {α:Type}{e:α->List Data}{good:α->Prop}:∀{es:List (List Data)},(∀x∈es,∃a,x=e a/\good a)->∃l:List α,es=l.map e/\∀a∈l,good a
 | [],_=>⟨[],rfl,by simp⟩
 |x::r,h=>by
  obtain⟨a,rfl,ba⟩:=h x (by simp);obtain⟨l,rfl,ae⟩:=Nj (es:=r) λy ai=>h y (by simp[ai]);exact⟨a::l,rfl,λb R=>(kt.1 R).elim (λe=>e ▸ ba) (ae b)⟩
end
end Go.Mini
namespace Go.Mini
open Go
def yf (x:H)(m:Mem):H->Mem->Prop:=λr mem'=>r=x/\mem'=m
@[go_sem high] def aze {K:a6->Prop}(x:H)(m:Mem)(d:Option Nat)(st:a6):uV K (some (.rel (yf x m))) d st=K ⟨put st.tm d x,m⟩:=by
 rw[ajZ];apply propext;exact⟨λh=>h x m ⟨rfl,rfl⟩,λh r mem' ⟨aO,ax⟩=>by rw[aO,ax];exact h⟩
def z3 (bf:List H->Mem->Option (H×Mem))(args:List H)(mem:Mem):Option gG:=(bf args mem).map λx => .rel (yf x.1 x.2)
@[go_sem] def azf (bf:List H->Mem->Option (H×Mem))(args:List H)(mem:Mem):z3 bf args mem=(bf args mem).map λx => .rel (yf x.1 x.2):=bs
structure Iv (P:Program) (f:FuncId) (bf:List H->Mem->Option (H×Mem)):Prop where
 real:Real P f
 run:∀args mem x,bf args mem=some x->∀A w B vs,dP A w B mem->cA w (bn A B) B args vs->RJ P f vs A w B mem (.rel (yf x.1 x.2))
def EH (res:List ku)(x:H)(m:Mem):fC->a6->Prop
 |.exit _,_=>False
 |.normal,st=>jO st res=some x/\st.mem=m
 |.ret,st=>jO st res=some x/\st.mem=m
@[go_sem] def azg {res:List ku}{st:a6}(x:H)(m:Mem)(id:Nat):EH res x m (.exit id) st=False:=bs
@[go_sem] def azh {res:List ku}{st:a6}(x:H)(m:Mem):EH res x m .normal st=(jO st res=some x/\st.mem=m):=bs
@[go_sem] def azi {res:List ku}{st:a6}(x:H)(m:Mem):EH res x m .ret st=(jO st res=some x/\st.mem=m):=bs
def ZI {P : Program}{T : bg}{kb : Nat}{own : List Nat}(cu : nh P T)(hm : P.follows .mixedOrders = true){f : FuncId}{fn : Func}{mf : bE}(aj : P.funcs[f]? = some fn)(sj : (fn.name == "runtime.NumGoroutine") = false)(aw : pz P kb own fn = some { mf with body := erase mf.body })
  {bf:List H->Mem->Option (H×Mem)} (h:∀args mem x,bf args mem=some x->(D args)<=mf.n/\wp T mf.body (EH mf.res x.1 x.2) ⟨ke args,mem⟩):Iv P f bf:=by
 refine⟨?_,λargs mem x fm A w B vs bh al=>?_⟩
 ·cases R:fn.body with
  |none=>simp[pz,R] at aw
  |some c=>exact⟨fn,c,aj,R,sj⟩
 ·obtain⟨hlen,yb⟩:=h args mem x fm;refine Calls.mono (Ij (Post:=yf x.1 x.2) cu hm aj aw hlen (λe st Q=>?_) yb bh al) λe ak he=>?_
  ·cases e with
   |exit id=>exact Q
   |normal=>exact⟨_,Q.1,rfl,Q.2⟩
   |ret=>exact⟨_,Q.1,rfl,Q.2⟩
  ·obtain⟨v,m,mem',ay,rfl,O,kR,aP⟩:=he;exact⟨v,m,mem',ay,rfl,O,kR,aP⟩
def Nk:Option (H×Mem)->Option gG->Option gG
 |some x,_=>some (.rel (yf x.1 x.2))
 |none,e=>e
@[go_sem] def azj (x:H×Mem)(e:Option gG):Nk (some x) e=some (.rel (yf x.1 x.2)):=bs
@[go_sem] def azk (e:Option gG):Nk none e=e:=bs
def yg (cm:List Data->Option di)(bf:List H->Mem->Option (H×Mem))(args:List H)(mem:Mem):Option gG:=Nk (bf args mem) (aE cm args mem)
@[go_sem] def azl (cm:List Data->Option di)(bf:List H->Mem->Option (H×Mem))(args:List H)(mem:Mem):yg cm bf args mem=Nk (bf args mem) (aE cm args mem):=bs
open Classical in
def EI {α:Type}(dk:α->List H->Mem->Prop)(res:α->Mem->H×Mem):List H->Mem->Option (H×Mem):=λargs mem=>if h:∃a,dk a args mem then some (res (Ey h) mem) else none
def ZJ {α:Type}{dk:α->List H->Mem->Prop}{res:α->Mem->H×Mem}(uniq:∀a b args mem,dk a args mem->dk b args mem->res a mem=res b mem){a:α}{args:List H}{mem:Mem}(h:dk a args mem):EI dk res args mem=some (res a mem):=by
 have J:∃b,dk b args mem:=⟨a,h⟩;unfold EI;rw[dif_pos J,uniq _ _ _ _ (sk J) h]
def Sr {α:Type}{dk:α->List H->Mem->Prop}{res:α->Mem->H×Mem}{args:List H}{mem:Mem}{x:H×Mem}(h:EI dk res args mem=some x):∃a,dk a args mem/\x=res a mem:=by
 unfold EI at h
 split at h
 ·rename_i J;exact⟨_,sk J,(mm h).symm⟩
 ·cases h
def wE:Nat->Nat->List Int
 |0,_=>[]
 |f+1,n=>if n=0 then [] else ((n%1048576:Nat):Int)::wE f (n/1048576)
def aF (n:Nat):List Int:=wE n n
def a7:List Int->Int
 | []=>0
 |d::r=>d+1048576*a7 r
def so (d:Int)(r:List Int):a7 (d::r)=d+1048576*a7 r:=rfl
def eO (l:List Int):Prop:=∀d∈l,0<=d/\d<1048576
def fO:List Int->List Int
 | []=>[]
 |d::r=>if fO r=[] then (if d=0 then [] else [d]) else d::fO r
def aG (n:Int):List Data:=[.int .i64 n]
def jA (b:Int):(aG b).length=1:=rfl
def wF (b:Int):((aG b).map H.I).all H.one=true:=rfl
def fW:∀a b:Int,aG a=aG b->a=b:=by intro a b h;simpa [aG] using h
def alz:∀(f g n:Nat),n<=f->n<=g->wE f n=wE g n:=by
 intro f
 induction f with
 |zero =>
      intro g n h _;obtain rfl:n=0:=by omega
      cases g<;>simp[wE]
 |succ f a2 =>
  intro g n F G
  cases g with
  |zero =>
       obtain rfl:n=0:=by omega
       simp[wE]
  |succ g =>
   unfold wE
   by_cases aA:n=0
   ·rw[aJ aA,aJ aA]
   ·rw[aR aA,aR aA,a2 g (n/1048576) (by omega) (by omega)]
def sq:aF 0=[]:=rfl
def tF {n:Nat}(h:0<n):aF n=((n%1048576:Nat):Int)::aF (n/1048576):=by
 unfold aF;obtain⟨k,rfl⟩:∃k,n=k+1:=⟨n-1,by omega⟩
 conv=>lhs;unfold wE
 rw[aR (by omega),alz k ((k+1)/1048576) _ (by omega) (by omega)]
def lr (n:Nat):a7 (aF n)=n:=by
 induction n using R8 with
 |_ n a2 =>
  rcases ln n with rfl|h
  ·rfl
  ·rw[tF h];unfold a7;rw[a2 _ (by omega)];omega
def Iw {a b:Nat}(h:aF a=aF b):a=b:=by
 have:=congrArg a7 h;rw[lr,lr] at this;omega
def mr (n:Nat):eO (aF n):=by
 induction n using R8 with
 |_ n a2 =>
  rcases ln n with rfl|h
  ·intro d ad;cases ad
  ·rw[tF h];intro d ad;rcases kt.1 ad with rfl|ad
   ·omega
   ·exact a2 _ (by omega) d ad
def yh {n:Nat}:aF n=[]↔n=0:=by
 constructor
 ·intro h;exact Iw (b:=0) h
 ·rintro rfl;rfl
def ob {l:List Int}(h:eO l):0<=a7 l:=by
 induction l with
 |nil=>exact Int.le_refl _
 |cons d r a2 =>
  have F:=h d (by simp);have G:=a2 λx J=>h x (by simp[J]);unfold a7;omega
def BO {d:Int}{r:List Int}:eO (d::r)↔(0<=d/\d<1048576)/\eO r :=
 ⟨λh=>⟨h d (by simp),λx J=>h x (by simp[J])⟩,λh x J=>(kt.1 J).elim (λe=>e ▸ h.1) (h.2 x)⟩
def BP {a b:List Int}:eO (a++b)↔eO a/\eO b :=
 ⟨λh=>⟨λx J=>h x (by simp[J]),λx J=>h x (by simp[J])⟩,λh x J=>(h5.1 J).elim (h.1 x) (h.2 x)⟩
def BQ (a b:List Int):a7 (a++b)=a7 a+1048576^(D a)*a7 b:=by
 induction a with
 |nil=>simp[a7]
 |cons d r a2 =>
  simp only[M8,a7,a2,lQ,mY];rw[h9]
  have:(1048576:Int)*(1048576^(D r)*a7 b)=1048576^(D r)*1048576*a7 b:=by
   rw[nk (1048576^(D r)) 1048576,ia]
  omega
def yi {l:List Int}(h:eO l):a7 l<1048576^(D l):=by
 induction l with
 |nil=>simp[a7]
 |cons d r a2 =>
  rw[BO] at h;have G:=a2 h.2;simp only[a7,lQ,mY];omega
def ZK (l:List Int):fO (l++[0])=fO l:=by
 induction l with
 |nil=>simp[fO]
 |cons d r a2=>simp only[M8,fO,a2]
def ZL (l:List Int){d:Int}(h:d≠0):fO (l++[d])=l++[d]:=by
 induction l with
 |nil=>simp[fO,h]
 |cons x r a2=>simp only[M8,fO,a2];simp
def yj {l:List Int}(h:eO l):fO l=aF (a7 l).toNat:=by
 induction l with
 |nil=>rfl
 |cons d r a2 =>
  rw[BO] at h;have L:=a2 h.2;have al:=ob h.2;unfold fO;rw[L,so]
  by_cases a0:a7 r=0
  ·rw[a0]
   by_cases ad:d=0
   ·simp[ad,sq]
   ·rw[aJ (by rfl),aR ad];rw[tF (by omega)];rw[show (d+1048576*0).toNat/1048576=0 by omega,sq]
    congr 1
    omega
  ·rw[aR (by rw[yh];omega)];rw[tF (n:=(d+1048576*a7 r).toNat) (by omega)]
   congr 1
   ·omega
   ·congr 1;omega
def ZM (n:Nat):fO (aF n)=aF n:=by
 rw[yj (mr n),lr];simp
def canon {l:List Int}(h:eO l)(ae:l.getLast?≠some 0):l=aF (a7 l).toNat:=by
 rw[<-yj h];rcases Ss l with rfl|⟨r,d,rfl⟩
 ·rfl
 ·rw[St] at ae ⊢;rw[ZL];rintro rfl;simp at ae
def ZN (n:Nat):(aF n).getLast?≠some 0:=by
 intro h
 obtain⟨r,L⟩:∃r,aF n=r++[0]:=by
  rcases Ss (aF n) with e|⟨r,d,e⟩
  ·rw[e] at h;cases h
  ·rw[St] at e;rw[e] at h;simp at h;subst h;exact⟨r,e⟩
 have F:=ZM n;rw[L,ZK] at F
 have G:(fO r).length<=D r:=by
  clear F L h
  induction r with
  |nil=>simp[fO]
  |cons d r a2=>unfold fO;split<;>(try split)<;>simp<;>omega
 rw[F] at G;simp at G;omega
def fX {n k:Nat}:(aF n).length<=k↔n<1048576^k:=by
 induction k generalizing n with
 |zero =>
      rw[Nat.pow_zero];constructor
      ·intro h;have:=q9 (Nat.le_zero.1 h);rw[yh] at this;omega
      ·intro h;obtain rfl:n=0:=by omega
       simp[sq]
 |succ k a2 =>
  rcases ln n with rfl|h
  ·simp[sq];exact EJ (by simp)
  ·rw[tF h,lQ,z4];have:=a2 (n:=n/1048576);rw[Nat.add_le_add_iff_right,this];rw[ZO (by omega)]
def Ix {n:Nat}(h:0<n)(F:n<1048576):aF n=[(n:Int)]:=by
 rw[tF h,Sj F,Is F];rfl
def Iy (l:List Int)(i:Nat):a7 l=a7 (l.take i)+1048576^(min i (D l))*a7 (l.drop i):=by
 conv=>lhs;rw[<-Im i l]
 rw[BQ,gj]
def yk (n:Int)(h:0<=n/\n<18446744073709551616):IntKind.u64.wrap n=n:=by
 simp[IntKind.wrap,IntKind.bits,IntKind.signed];omega
def yl (n:Int):bits .and .i64 n 1048575=n%1048576:=by
 have G:(1048575:Int)=((2^20-1:Nat):Int):=by decide
 have F:n%18446744073709551616%1048576=n%1048576:=by omega
 obtain⟨a,ba⟩:∃a:Nat,(a:Int)=n%18446744073709551616:=⟨(n%18446744073709551616).toNat,by omega⟩
 have e:BitVec.ofInt 64 n=BitVec.ofNat 64 a:=by
  apply BitVec.eq_of_toInt_eq;rw[BitVec.toInt_ofInt,BitVec.toInt_ofNat',ba];simp[ZP,ZQ]
 have ax:bits .and .i64 n 1048575=bits .and .i64 (a:Int) 1048575:=by
  simp only[bits];rw[show IntKind.i64.bits=64 from rfl,e,BitVec.ofInt_natCast]
 rw[ax,<-F,<-ba,G];have Su:a<2^64:=by omega
 simp only[bits,BitVec.ofInt_natCast,BitVec.toNat_and,BitVec.toNat_ofNat,show IntKind.i64.bits=64 from rfl,Is Su];rw[show (2^20-1:Nat)%2^64=2^20-1 by decide,ZR,wrap64 _ (by omega) (by omega)]
 omega
def ZS (n:Int)(h:0<=n/\n<18446744073709551616):bits .and .u64 n 1048575=n%1048576:=by
 have:=bits_mask .u64 64 (by decide) (λn F G=>yk n ⟨F,by omega⟩) 20 (by decide) n h.1 (by omega)
 simpa using this
def Sv (x y:Int)(J:0<=x)(ey:x<8796093022208)(ai:0<=y/\y<1048576):bits .or .i64 (x*1048576) y=x*1048576+y:=by
 refine bits_join .i64 63 (by decide) (λn F G=>wrap64 n (by omega) (by omega)) 20 _ _ (by omega) (by omega) (by omega) ai.1 (by omega) (by omega)
def alA (n:Int):n.fdiv (2^20)=n/1048576:=by
 rw[Int.fdiv_eq_ediv_of_nonneg _ (by decide)];rfl
def u6 (n:Int):n.fdiv (2^min (BR 20) 64)=n/1048576:=alA n
def EK:FuncId:=23
def Sw:FuncId:=158
def Iz:FuncId:=84
def tG:FuncId:=14
def EL:FuncId:=209
def IA:FuncId:=17
def mu:FuncId:=67
def BS:FuncId:=22
def Sx:FuncId:=59
def IB:FuncId:=57
def sr:FuncId:=213
def Sy:FuncId:=214
def Nl:FuncId:=215
def tH:FuncId:=81
def Sz:FuncId:=159
def IC:FuncId:=109
def EM:FuncId:=45
def BT:FuncId:=157
def ym:FuncId:=38
def z5:FuncId:=20
def kF:FuncId:=134
def ID:FuncId:=135
def SA:FuncId:=136
def SB:FuncId:=71
def tI:FuncId:=72
def BU:FuncId:=73
def Nm:FuncId:=128
def IE:FuncId:=124
def EN:FuncId:=125
def SC:FuncId:=228
def SD:FuncId:=156
def EO:FuncId:=78
def SE:FuncId:=216
def IF:FuncId:=149
def Nn:FuncId:=185
def SF:FuncId:=108
def EP:FuncId:=206
def BV:FuncId:=68
def SG:FuncId:=69
def tJ:FuncId:=147
def wG:FuncId:=94
def IG:FuncId:=137
def oc:FuncId:=138
def SH:FuncId:=198
def SI:FuncId:=146
def ER:FuncId:=148
def kG:FuncId:=143
def ES:FuncId:=190
def IH:FuncId:=144
def BW:FuncId:=191
def od:FuncId:=192
def II:FuncId:=229
def z6:FuncId:=230
def ET:FuncId:=113
def alB:FuncId:=183
def SJ:FuncId:=184
def IJ:FuncId:=139
def EU:FuncId:=140
def EV:FuncId:=141
def BX:FuncId:=142
def No:FuncId:=199
def pI:FuncId:=200
def SK:FuncId:=201
def SL:FuncId:=205
def IK:FuncId:=203
def IL:FuncId:=195
def z7:FuncId:=197
def ss:FuncId:=225
def Np:FuncId:=202
def z8:FuncId:=196
def BY:FuncId:=194
def su:FuncId:=226
def IM:FuncId:=75
def SM:FuncId:=151
def SN:FuncId:=152
def IN:FuncId:=150
def kY:FuncId:=70
def IP:FuncId:=65
def SO:FuncId:=66
def SP:FuncId:=208
def SQ:FuncId:=210
def Nq:FuncId:=211
def qA:FuncId:=131
def SR:FuncId:=207
def yn:FuncId:=132
def IQ:FuncId:=145
def IS:FuncId:=133
def Nr:FuncId:=189
def Ns:FuncId:=227
def BZ:FuncId:=193
def SU:FuncId:=204
def EW:FuncId:=900234
def z9:FuncId:=76
def EX:FuncId:=153
def ZT:FuncId:=900294
def B0:FuncId:=900309
def EY:FuncId:=28
def u7:FuncId:=82
def IT:FuncId:=30
def u9:FuncId:=86
def SV:FuncId:=32
def wH:FuncId:=88
def SW:FuncId:=26
def SX:FuncId:=77
def yo:FuncId:=18
def IU:FuncId:=83
def B1:FuncId:=64
def SY:FuncId:=130
def B2:FuncId:=87
def B3:FuncId:=62
def va:FuncId:=129
def B4:FuncId:=80
def Nt:FuncId:=155
def SZ:FuncId:=63
def tK:FuncId:=46
def alC:FuncId:=5
def oS:FuncId:=39
def nI:FuncId:=37
def S0:FuncId:=9
def Nu:FuncId:=60
def S1:FuncId:=29
def S2:FuncId:=31
def S3:FuncId:=16
def S4:FuncId:=61
def B5:FuncId:=19
def S5:FuncId:=33
def S6:FuncId:=27
def EZ:FuncId:=21
def B6:FuncId:=34
def B7:FuncId:=85
def S7:FuncId:=15
def E0:FuncId:=25
def B8:FuncId:=24
def S8:FuncId:=35
def E1:FuncId:=74
def sv:FuncId:=79
def S9:FuncId:=154
def Ta:FuncId:=212
abbrev E (a b:Nat):bw:=⟨some a,none,.iu (.t b)⟩
abbrev aH (a n b:Nat):bw:=⟨some a,none,.load n false (.t b)⟩
abbrev aB (a n b:Nat):bw:=⟨some a,none,.load n true (.t b)⟩
abbrev aC (a n b:Nat):bw:=⟨some a,none,.tj n (.t b)⟩
abbrev aZ (n a b:Nat):bw:=⟨none,none,.store n (.t a) (.t b)⟩
abbrev a8 (a:Nat)(n:Int):bw:=⟨some a,none,.iu (.c (.I (.int .i64 n)))⟩
abbrev aN (a n b:Nat):bw:=⟨some a,none,.ext n (.t b)⟩
abbrev bC (a n b c:Nat):bw:=⟨some a,none,.uG n (.t b) (.t c)⟩
abbrev cd (a b:Nat):bw:=⟨some a,none,.len (.t b)⟩
abbrev bW (a:Nat)(b:Bool):bw:=⟨some a,none,.iu (.c (.I (.bool b)))⟩
abbrev cF (a:Nat):bw:=⟨some a,none,.iu (.c .nil)⟩
abbrev br (a:Nat)(o:BinOp)(b c:Nat):bw:=⟨some a,none,.bin o (.t b) (.t c)⟩
abbrev bb (a:Nat)(o:BinOp)(b:Nat)(n:Int):bw:=⟨some a,none,.bin o (.t b) (.c (.I (.int .i64 n)))⟩
abbrev cD (a b c:Nat):bw:=⟨some a,none,.pick (.t b) (.c (.I (.bool true))) (.t c)⟩
abbrev fE (a b c:Nat):bw:=⟨some a,none,.pick (.t b) (.t c) (.c (.I (.bool false)))⟩
abbrev ck (a k b:Nat):bw:=⟨some a,none,.box k (.t b)⟩
abbrev oT (a b:Nat):bw:=⟨some a,none,.uF (.t b)⟩
abbrev dS (a b:Nat):bw:=⟨some a,none,.un .not (.t b)⟩
abbrev fz (a g n b:Nat):bw:=⟨some a,some (g,false),.load n false (.t b)⟩
abbrev hv (a g n b:Nat):bw:=⟨some a,some (g,false),.load n true (.t b)⟩
abbrev dJ (a g b:Nat):bw:=⟨some a,some (g,false),.iu (.t b)⟩
abbrev fq (a g n b:Nat):bw:=⟨some a,some (g,false),.tj n (.t b)⟩
abbrev ib (a g b:Nat):bw:=⟨some a,some (g,false),.un .not (.t b)⟩
abbrev nJ (a g b:Nat):bw:=⟨some a,some (g,false),.len (.t b)⟩
abbrev sw (a g n b c:Nat):bw:=⟨some a,some (g,false),.uG n (.t b) (.t c)⟩
abbrev nK (a g:Nat)(o:BinOp)(b c:Nat):bw:=⟨some a,some (g,false),.bin o (.t b) (.t c)⟩
abbrev gM (a g:Nat)(o:BinOp)(b:Nat)(n:Int):bw:=⟨some a,some (g,false),.bin o (.t b) (.c (.I (.int .i64 n)))⟩
abbrev iz (a g n b:Nat):bw:=⟨some a,some (g,true),.load n false (.t b)⟩
abbrev B9 (a g n b:Nat):bw:=⟨some a,some (g,true),.load n true (.t b)⟩
abbrev eu (a g b:Nat):bw:=⟨some a,some (g,true),.iu (.t b)⟩
abbrev hH (a g n b:Nat):bw:=⟨some a,some (g,true),.tj n (.t b)⟩
abbrev Nv (a g b:Nat):bw:=⟨some a,some (g,true),.un .not (.t b)⟩
abbrev Tb (a g b:Nat):bw:=⟨some a,some (g,true),.len (.t b)⟩
abbrev rn (a g n b c:Nat):bw:=⟨some a,some (g,true),.uG n (.t b) (.t c)⟩
abbrev E2 (a g:Nat)(o:BinOp)(b c:Nat):bw:=⟨some a,some (g,true),.bin o (.t b) (.t c)⟩
abbrev kj (a g:Nat)(o:BinOp)(b:Nat)(n:Int):bw:=⟨some a,some (g,true),.bin o (.t b) (.c (.I (.int .i64 n)))⟩
abbrev bl (n:Int):H:=.I (.int .i64 n)
abbrev hI:List H:=[.nil,bl 0,.nil,bl 0,.nil]
abbrev cK:List H:=[bl 0,.nil,bl 0,.nil]
abbrev c4:List H:=[bl 0,.nil]
abbrev yp:List H:=[.nil,.nil,.nil]
abbrev bP (a k:Nat)(z:List H):bw:=⟨some a,none,.alloc k z⟩
abbrev dT (i:Nat)(c:e0):e0:=.block i (.loop c)
abbrev dd (n i:Nat):e0:=.cond (.t n) .skip (.exit i)
abbrev bO (n:Nat)(l:List bw):e0:=.cond (.t n) (.seq (.ops l) .ret) .skip
abbrev c6 (a:Nat)(f:FuncId)(x:Nat):bw:=⟨some a,none,.call f [.t x]⟩
abbrev bI (a:Nat)(f:FuncId)(x y:Nat):bw:=⟨some a,none,.call f [.t x,.t y]⟩
abbrev yq (a:Nat)(f:FuncId)(x y z:Nat):bw:=⟨some a,none,.call f [.t x,.t y,.t z]⟩
abbrev oU (a:Nat)(f:FuncId)(x y z u:Nat):bw:=⟨some a,none,.call f [.t x,.t y,.t z,.t u]⟩
abbrev az (a:Nat)(o:fM):bw:=⟨some a,none,o⟩
abbrev fr (a b:Nat)(o:fM):bw:=⟨some a,some (b,false),o⟩
abbrev fA (a b:Nat)(o:fM):bw:=⟨some a,some (b,true),o⟩
abbrev bT (n m:Nat)(r:List ku)(b:e0):bE:=⟨n,m,r,b⟩
abbrev fi (n:Nat)(a b:e0):e0:=.cond (.t n) a b
abbrev M (l:List bw)(c:e0):e0:=.seq (.ops l) c
abbrev e2 (l:List bw)(x:List (List Nat))(c:e0):e0:=.seq (.mN l x) c
abbrev alD:List (List Nat):=[[],[],[],[],[]]
abbrev Nw:List (List Nat):=[[],[],[],[],[],[]]
abbrev E3:List (List Nat):=[[],[],[],[],[],[],[]]
abbrev Tc:List (List Nat):=[[],[],[],[],[],[],[],[]]
abbrev Td:List (List Nat):=[[],[],[],[],[],[],[],[],[]]
abbrev IV:List (List Nat):=[[],[],[],[],[],[],[],[],[],[]]
abbrev IW:List (List Nat):=[[],[],[],[],[],[],[],[],[],[],[]]
abbrev ZU:List (List Nat):=[[],[],[],[],[],[],[],[],[],[],[],[]]
abbrev Nx:List (List Nat):=[[],[],[],[],[],[],[],[],[],[],[],[],[]]
abbrev Ny:List (List Nat):=[[],[],[],[],[],[],[],[],[],[],[],[],[],[]]
abbrev alE:List (List Nat):=[[],[],[],[],[],[],[],[],[],[],[],[],[],[],[]]
abbrev IX:List (List Nat):=[[],[],[],[],[],[],[],[],[],[],[],[],[],[],[],[]]
abbrev alF:List (List Nat):=[[],[],[],[],[],[],[],[],[],[],[],[],[],[],[],[],[]]
abbrev alG:List (List Nat):=[[],[],[],[],[],[],[],[],[],[],[],[],[],[],[],[],[],[]]
abbrev alH:List (List Nat):=[[],[],[],[],[],[],[],[],[],[],[],[],[],[],[],[],[],[],[],[],[],[],[],[],[],[]]
abbrev alI:List (List Nat):=[[],[],[],[],[],[],[],[],[],[],[],[],[],[],[],[],[],[],[],[],[],[],[],[],[],[],[]]
abbrev alJ:List (List Nat):=[[],[],[],[],[],[],[],[],[],[],[],[],[],[],[],[],[],[],[],[],[],[],[],[],[],[],[],[]]
def ZV:bE:=bT 49 1 [.t 2] (M [ck 1 136001 0,bW 2 false] (M [aC 6 1 1,aH 7 1 6,cd 8 7,E 3 8] (.seq (M [aC 9 1 1,aH 10 1 9,cd 11 10,a8 12 0] (dT 0 (M [br 13 .lss 12 11] (.seq (dd 13 0) (.seq (.block 1 (M [bC 14 1 10 12,aH 15 1 14,E 5 15] (M [E 16 5,bb 17 .lss 16 0,E 18 17,dJ 19 18 5,gM 20 18 .gtr 19 1048575,cD 21 18 20] (bO 21 [bW 2 false])))) (.ops [bb 22 .add 12 1,E 12 22])))))) (.seq (M [E 23 3,bb 24 .eql 23 0] (bO 24 [aC 25 0 1,aH 26 1 25,bb 27 .eql 26 0,E 2 27])) (M [aC 28 0 1,aH 29 1 28,bb 30 .eql 29 1,E 31 30,fq 32 31 0 1,fz 33 31 1 32,fr 34 31 (.bin .eql (.t 33) (.c (.I (.int .i64 (-1))))),cD 35 31 34,E 36 35,eu 37 36 3,kj 38 36 .leq 37 60,fE 39 36 38,E 40 39,hH 41 40 1 1,iz 42 40 1 41,eu 43 40 3,kj 44 40 .sub 43 1,rn 45 40 1 42 44,iz 46 40 1 45,kj 47 40 .neq 46 0,fE 48 40 47,E 2 48] .ret)))))
def ZW:bE:=bT 44 2 [.cell 4 2 true,.t 5] (M [ck 2 137002 0,ck 3 137003 1,bP 4 137004 c4,a8 5 0] (.seq (M [aB 10 2 2,c6 11 kF 10,dS 12 11,E 13 12,hv 14 13 2 3,fr 15 13 (.call kF [.t 14]),ib 16 13 15,cD 17 13 16] (bO 17 [az 18 (.build c4 []),az 19 (.call tJ [.c (.I (.bool false)),.t 18]),aN 20 0 19,aN 21 1 19,aZ 2 4 20,E 5 21])) (e2 [aC 22 1 2,aH 23 1 22,c6 24 wG 23,aC 25 1 3,aH 26 1 25,E 6 24,E 7 26] E3 (.seq (dT 0 (.seq (M [E 27 7,cd 28 27,bb 29 .gtr 28 0] (dd 29 0)) (.block 1 (M [E 31 6,E 32 7,bI 33 IG 31 32,E 30 33,aN 34 0 30,aN 35 1 30,E 8 34,E 9 35] (.ops [E 36 7,E 37 9,E 6 36,E 7 37]))))) (M [E 38 6,c6 39 wG 38,az 40 (.call oc [.c (bl 1),.t 39]),az 41 (.call tJ [.c (.I (.bool true)),.t 40]),aN 42 0 41,aN 43 1 41,aZ 2 4 42,E 5 43] .ret)))))
def ZX:bE:=bT 32 2 [.cell 4 2 true,.t 5] (M [ck 2 140002 0,ck 3 140003 1,bP 4 140004 c4,a8 5 0] (.seq (M [aB 6 2 2,c6 7 kF 6,dS 8 7,E 9 8,hv 10 9 2 3,fr 11 9 (.call kF [.t 10]),ib 12 9 11,cD 13 9 12] (bO 13 [az 14 (.build c4 []),az 15 (.call tJ [.c (.I (.bool false)),.t 14]),aN 16 0 15,aN 17 1 15,aZ 2 4 16,E 5 17])) (e2 [aC 18 0 2,aH 19 1 18,aC 20 0 3,aH 21 1 20,br 22 .mul 19 21,aC 23 1 2,aH 24 1 23,aC 25 1 3,aH 26 1 25,bI 27 ER 24 26,bI 28 oc 22 27,az 29 (.call tJ [.c (.I (.bool true)),.t 28]),aN 30 0 29,aN 31 1 29,aZ 2 4 30,E 5 31] IX .ret)))
def ZY:bE:=bT 25 1 [.cell 2 2 true] (M [bP 2 150002 c4] (M [E 6 0,az 7 (.conv .u64 (.t 6)),a8 3 1,E 4 7] (.seq (M [E 8 0,bb 9 .lss 8 0] (fi 9 (.ops [E 10 4,az 11 (.un .neg (.t 10)),az 3 (.iu (.c (.I (.int .i64 (-1))))),E 4 11]) .skip)) (M [cF 5] (.seq (.block 0 (.ghost (.mM 5 150021 1) (.loop  (.seq (M [E 12 4,az 13 (.bin .gtr (.t 12) (.c (.I (.int .u64 0))))] (dd 13 0)) (.seq (.block 1 (.ops [E 16 5,E 17 4,az 18 (.bin .and (.t 17) (.c (.I (.int .u64 1048575)))),az 19 (.conv .i64 (.t 18)),az 20 (.dM 150020 false [bl 0] 1 1 [(0,1,.t 19)]),az 21 (.app 150021 [bl 0] 8 (.t 16) (.t 20)),E 5 21])) (.ops [E 14 4,az 15 (.bin .shr (.t 14) (.c (.I (.int .u64 20)))),E 4 15])))))) (.seq (.ghost (.freeze 5) (.ops [E 22 3,E 23 5,bI 24 oc 22 23,aZ 2 2 24])) .ret))))))
def ZZ:bE:=bT 14 1 [.cell 2 2 true] (M [ck 1 152001 0,bP 2 152002 c4] (.seq (M [aB 3 2 1,c6 4 kF 3,dS 5 4] (bO 5 [az 6 (.build c4 []),aZ 2 2 6])) (e2 [aC 7 0 1,aH 8 1 7,az 9 (.un .neg (.t 8)),aC 10 1 1,aH 11 1 10,c6 12 wG 11,bI 13 oc 9 12,aZ 2 2 13] Tc .ret)))
def Z0:bE:=bT 67 2 [.cell 4 2 true,.cell 5 2 true,.t 6] (M [ck 2 153002 0,ck 3 153003 1,bP 4 153004 c4,bP 5 153005 c4,a8 6 0] (.seq (.block 0 (M [aB 10 2 2,c6 11 kF 10,dS 12 11,E 13 12,hv 14 13 2 3,fr 15 13 (.call kF [.t 14]),ib 16 13 15,cD 17 13 16,E 9 17] (fi 9 (M [az 18 (.build c4 []),az 19 (.build c4 []),aZ 2 4 18,aZ 2 5 19,a8 6 1] .ret) (M [aC 21 0 3,aH 22 1 21,bb 23 .eql 22 0,E 20 23] (bO 20 [az 24 (.build c4 []),az 25 (.build c4 []),aZ 2 4 24,aZ 2 5 25,a8 6 15]))))) (M [aC 27 1 2,aH 28 1 27,aC 29 1 3,aH 30 1 29,bI 31 IG 28 30,E 26 31,aN 32 0 26,aN 33 1 26,E 7 32,E 8 33] (.seq (M [aC 34 0 2,aH 35 1 34,aC 36 0 3,aH 37 1 36,br 38 .mul 35 37,bb 39 .lss 38 0,E 40 39,eu 41 40 8,Tb 42 40 41,kj 43 40 .gtr 42 0,fE 44 40 43] (fi 44 (e2 [E 45 7,az 46 (.dM 153046 false [bl 0] 1 1 [(0,1,.c (bl 1))]),bI 47 IJ 45 46,az 48 (.call oc [.c (.I (.int .i64 (-1))),.t 47]),aC 49 0 3,aH 50 1 49,aC 51 1 3,aH 52 1 51,E 53 8,bI 54 EU 52 53,bI 55 oc 50 54,aZ 2 4 48,aZ 2 5 55,a8 6 0] Ny .ret) .skip)) (e2 [aC 56 0 2,aH 57 1 56,aC 58 0 3,aH 59 1 58,br 60 .mul 57 59,E 61 7,bI 62 oc 60 61,aC 63 0 2,aH 64 1 63,E 65 8,bI 66 oc 64 65,aZ 2 4 62,aZ 2 5 66,a8 6 0] Ny .ret)))))
def Z1:bE:=bT 31 2 [.t 4] (M [ck 2 154002 0,ck 3 154003 1,a8 4 0] (.seq (M [aB 5 2 2,c6 6 kF 5,dS 7 6,E 8 7,hv 9 8 2 3,fr 10 8 (.call kF [.t 9]),ib 11 8 10,cD 12 8 11] (bO 12 [a8 4 0])) (.seq (M [aC 13 0 2,aH 14 1 13,aC 15 0 3,aH 16 1 15,br 17 .neq 14 16] (bO 17 [aC 18 0 2,aH 19 1 18,aC 20 0 3,aH 21 1 20,bI 22 EV 19 21,E 4 22])) (e2 [aC 23 0 2,aH 24 1 23,aC 25 1 2,aH 26 1 25,aC 27 1 3,aH 28 1 27,bI 29 BX 26 28,br 30 .mul 24 29,E 4 30] Td .ret))))
def Z2:bE:=bT 17 2 [.cell 4 2 true,.t 5] (M [ck 3 155003 1,bP 4 155004 c4,a8 5 0] (.seq (.block 0 (M [E 7 0,dS 8 7,E 6 8] (fi 6 (M [az 9 (.build c4 []),aZ 2 4 9,a8 5 1] .ret) (M [aC 11 1 3,aH 12 1 11,cd 13 12,bb 14 .gtr 13 60,E 10 14] (bO 10 [az 15 (.build c4 []),aZ 2 4 15,a8 5 6]))))) (M [aB 16 2 3,aZ 2 4 16,a8 5 0] .ret)))
def Z3:bE:=bT 170 2 [.t 4,.t 5] (M [cF 4,cF 5] (.seq (M [E 19 0,E 20 1,bI 21 BX 19 20,bb 22 .lss 21 0] (bO 22 [E 23 0,c6 24 wG 23,cF 4,E 5 24])) (.seq (M [E 25 1,cd 26 25,bb 27 .eql 26 1] (fi 27 (M [E 29 0,E 30 1,az 31 (.uG 1 (.t 30) (.c (bl 0))),aH 32 1 31,bI 33 No 29 32,E 28 33,aN 34 0 28,aN 35 1 28,E 6 34,E 7 35] (M [E 36 6,E 37 7,az 38 (.dM 157038 false [bl 0] 1 1 [(0,1,.t 37)]),c6 39 pI 38,E 4 36,E 5 39] .ret)) .skip)) (M [a8 8 1] (.seq (dT 0 (.seq (M [E 40 1,E 41 1,cd 42 41,bb 43 .sub 42 1,bC 44 1 40 43,aH 45 1 44,E 46 8,br 47 .mul 45 46,bb 48 .lss 47 524288] (dd 48 0)) (.block 1 (.ops [E 49 8,bb 50 .mul 49 2,E 8 50])))) (M [E 51 0,E 52 8,az 53 (.dM 157053 false [bl 0] 1 1 [(0,1,.t 52)]),az 54 (.lb 157054 1 ER [.t 51,.t 53]),az 55 (.dM 157055 false [bl 0] 1 1 [(0,1,.c (bl 0))]),az 56 (.app 157056 [bl 0] 8 (.t 54) (.t 55)),E 57 1,E 58 8,az 59 (.dM 157059 false [bl 0] 1 1 [(0,1,.t 58)]),bI 60 ER 57 59,E 9 56,E 10 60] (.seq (M [E 61 9,cd 62 61,E 63 0,cd 64 63,br 65 .eql 62 64] (fi 65 (.ops [E 66 9,az 67 (.dM 157067 false [bl 0] 1 1 [(0,1,.c (bl 0))]),az 68 (.app 157068 [bl 0] 8 (.t 66) (.t 67)),E 9 68]) .skip)) (M [E 69 10,cd 70 69,E 11 70] (M [E 71 9,cd 72 71,E 73 11,br 74 .sub 72 73,az 75 (.la 157075 [bl 0] 8 (.t 74) (.t 74)),E 12 75] (.seq (M [E 76 12,cd 77 76,bb 78 .sub 77 1,E 13 78] (dT 2 (.seq (M [E 79 13,bb 80 .geq 79 0] (dd 80 2)) (.seq (.block 3 (e2 [E 83 9,E 84 13,E 85 11,br 86 .add 84 85,bC 87 1 83 86,aH 88 1 87,az 89 (.bin .shl (.t 88) (.c (.I (.int .u64 20)))),E 90 9,E 91 13,E 92 11,br 93 .add 91 92,bb 94 .sub 93 1,bC 95 1 90 94,aH 96 1 95,br 97 .or 89 96,E 14 97] IX (e2 [E 98 14,E 99 10,E 100 11,bb 101 .sub 100 1,bC 102 1 99 101,aH 103 1 102,br 104 .quo 98 103,E 105 14,E 106 10,E 107 11,bb 108 .sub 107 1,bC 109 1 106 108,aH 110 1 109,br 111 .rem 105 110,E 15 104,E 16 111] IX (.seq (dT 4 (.seq (e2 [E 112 15,bb 113 .geq 112 1048576,E 114 113,dJ 115 114 16,gM 116 114 .lss 115 1048576,dJ 117 114 116,eu 118 117 15,eu 119 117 10,eu 120 117 11,kj 121 117 .sub 120 2,rn 122 117 1 119 121,iz 123 117 1 122,E2 124 117 .mul 118 123,eu 125 117 16,fA 126 117 (.bin .shl (.t 125) (.c (.I (.int .u64 20)))),eu 127 117 9,eu 128 117 13,eu 129 117 11,E2 130 117 .add 128 129,kj 131 117 .sub 130 2,rn 132 117 1 127 131,iz 133 117 1 132,E2 134 117 .or 126 133,E2 135 117 .gtr 124 134,fr 136 114 (.pick (.t 117) (.t 135) (.c (.I (.bool false)))),cD 137 114 136] alH (dd 137 4)) (.block 5 (M [E 138 15,bb 139 .sub 138 1,E 15 139] (.ops [E 140 16,E 141 10,E 142 11,bb 143 .sub 142 1,bC 144 1 141 143,aH 145 1 144,br 146 .add 140 145,E 16 146]))))) (.ops [E 147 12,E 148 13,E 149 9,E 150 13,E 151 13,E 152 11,br 153 .add 151 152,bb 154 .add 153 1,az 155 (.q1 1 (.t 149) (some (.t 150)) (some (.t 154)) none),E 156 10,E 157 15,yq 158 SK 155 156 157,bC 159 1 147 148,aZ 1 159 158]))))) (.ops [E 81 13,bb 82 .sub 81 1,E 13 82]))))) (.seq (.ghost (.freeze 9) (.ops [E 161 9,c6 162 pI 161,E 163 8,bI 164 No 162 163,E 160 164,aN 165 0 160,aN 166 1 160,E 17 165,E 18 166])) (.seq (.ghost (.freeze 12) (.ops [E 167 12,c6 168 pI 167,E 169 17,E 4 168,E 5 169])) .ret))))))))))))
def Z4:bE:=bT 14 2 [.cell 4 2 true] (M [bP 4 158004 c4] (M [E 5 1,c6 6 pI 5,E 1 6] (.seq (M [E 7 1,cd 8 7,bb 9 .eql 8 0] (bO 9 [az 10 (.build c4 []),aZ 2 4 10])) (M [E 11 0,E 12 1,az 13 (.build c4 [(0,1,.t 11),(1,1,.t 12)]),aZ 2 4 13] .ret))))
def Z5:bE:=bT 59 1 [.t 2,.t 3] (M [ck 1 159001 0,a8 2 0,bW 3 false] (.seq (M [aB 7 2 1,c6 8 kF 7,dS 9 8,E 10 9,fq 11 10 1 1,fz 12 10 1 11,nJ 13 10 12,gM 14 10 .gtr 13 4,cD 15 10 14] (bO 15 [a8 2 0,bW 3 false])) (M [az 4 (.iu (.c (.I (.int .u64 0))))] (.seq (M [aC 16 1 1,aH 17 1 16,cd 18 17,a8 19 0] (dT 0 (M [br 20 .lss 19 18] (.seq (dd 20 0) (.seq (.block 1 (M [E 21 19,bC 22 1 17 19,aH 23 1 22,E 5 21,E 6 23] (.seq (M [E 24 5,bb 25 .eql 24 3,E 26 25,eu 27 26 6,kj 28 26 .gtr 27 8,fE 29 26 28] (bO 29 [a8 2 0,bW 3 false])) (.ops [E 30 4,E 31 6,az 32 (.conv .u64 (.t 31)),E 33 5,az 34 (.bin .mul (.c (bl 20)) (.t 33)),br 35 .shl 32 34,br 36 .or 30 35,E 4 36])))) (.ops [bb 37 .add 19 1,E 19 37])))))) (.seq (.block 2 (M [aC 39 0 1,aH 40 1 39,bb 41 .lss 40 0,E 42 41,eu 43 42 4,fA 44 42 (.bin .leq (.t 43) (.c (.I (.int .u64 9223372036854775808)))),fE 45 42 44,E 38 45] (fi 38 (M [E 46 4,az 47 (.un .neg (.t 46)),az 48 (.conv .i64 (.t 47)),E 2 48,bW 3 true] .ret) (M [aC 50 0 1,aH 51 1 50,bb 52 .geq 51 0,E 53 52,eu 54 53 4,fA 55 53 (.bin .lss (.t 54) (.c (.I (.int .u64 9223372036854775808)))),fE 56 53 55,E 49 56] (bO 49 [E 57 4,az 58 (.conv .i64 (.t 57)),E 2 58,bW 3 true]))))) (M [a8 2 0,bW 3 false] .ret))))))
def Z6:bE:=bT 69 2 [.cell 4 2 true,.t 5] (M [ck 2 160002 0,ck 3 160003 1,bP 4 160004 c4,a8 5 0] (.seq (M [aB 6 2 2,c6 7 kF 6,dS 8 7,E 9 8,hv 10 9 2 3,fr 11 9 (.call kF [.t 10]),ib 12 9 11,cD 13 9 12] (bO 13 [az 14 (.build c4 []),az 15 (.call tJ [.c (.I (.bool false)),.t 14]),aN 16 0 15,aN 17 1 15,aZ 2 4 16,E 5 17])) (.seq (.block 0 (M [aC 19 0 2,aH 20 1 19,aC 21 0 3,aH 22 1 21,br 23 .mul 20 22,bb 24 .geq 23 0,E 18 24] (fi 18 (e2 [aC 25 0 2,aH 26 1 25,aC 27 0 3,aH 28 1 27,az 29 (.dM 160029 false [bl 0,bl 0] 1 2 [(0,1,.t 26),(1,1,.t 28)]),c6 30 SL 29,aC 31 1 2,aH 32 1 31,aC 33 1 3,aH 34 1 33,bI 35 IJ 32 34,bI 36 oc 30 35,az 37 (.call tJ [.c (.I (.bool true)),.t 36]),aN 38 0 37,aN 39 1 37,aZ 2 4 38,E 5 39] alF .ret) (M [aC 41 1 2,aH 42 1 41,aC 43 1 3,aH 44 1 43,bI 45 BX 42 44,bb 46 .lss 45 0,E 40 46] (fi 40 (e2 [aC 47 0 3,aH 48 1 47,aC 49 1 3,aH 50 1 49,aC 51 1 2,aH 52 1 51,bI 53 EU 50 52,bI 54 oc 48 53,az 55 (.call tJ [.c (.I (.bool true)),.t 54]),aN 56 0 55,aN 57 1 55,aZ 2 4 56,E 5 57] Nx .ret) .skip))))) (e2 [aC 58 0 2,aH 59 1 58,aC 60 1 2,aH 61 1 60,aC 62 1 3,aH 63 1 62,bI 64 EU 61 63,bI 65 oc 59 64,az 66 (.call tJ [.c (.I (.bool true)),.t 65]),aN 67 0 66,aN 68 1 66,aZ 2 4 67,E 5 68] Nx .ret))))
def Z7:bE:=bT 67 2 [.t 4] (M [cF 4] (M [E 12 0,cd 13 12,E 14 1,cd 15 14,br 16 .add 13 15,az 17 (.la 161017 [bl 0] 8 (.t 16) (.t 16)),E 5 17] (.seq (M [E 18 0,cd 19 18,a8 20 0] (dT 0 (M [br 21 .lss 20 19] (.seq (dd 21 0) (.seq (.block 1 (M [E 22 20,bC 23 1 18 20,aH 24 1 23,E 6 22,E 7 24] (M [a8 8 0] (.seq (M [E 25 1,cd 26 25,a8 27 0] (dT 2 (M [br 28 .lss 27 26] (.seq (dd 28 2) (.seq (.block 3 (M [E 29 27,bC 30 1 25 27,aH 31 1 30,E 9 29,E 10 31] (M [E 32 5,E 33 6,E 34 9,br 35 .add 33 34,bC 36 1 32 35,aH 37 1 36,E 38 7,E 39 10,br 40 .mul 38 39,br 41 .add 37 40,E 42 8,br 43 .add 41 42,E 11 43] (.ops [E 44 5,E 45 6,E 46 9,br 47 .add 45 46,E 48 11,bb 49 .and 48 1048575,E 50 11,az 51 (.bin .shr (.t 50) (.c (.I (.int .u64 20)))),bC 52 1 44 47,aZ 1 52 49,E 8 51])))) (.ops [bb 53 .add 27 1,E 27 53])))))) (.ops [E 54 5,E 55 6,E 56 1,cd 57 56,br 58 .add 55 57,bC 59 1 54 58,aH 60 1 59,E 61 8,br 62 .add 60 61,bC 63 1 54 58,aZ 1 63 62]))))) (.ops [bb 64 .add 20 1,E 20 64])))))) (M [E 65 5,c6 66 pI 65,E 4 66] .ret))))
def Z8:bE:=bT 55 2 [.t 4] (M [cF 4] (.seq (M [E 9 0,cd 10 9,E 11 1,cd 12 11,br 13 .lss 10 12] (fi 13 (.ops [E 14 1,E 15 0,E 0 14,E 1 15]) .skip)) (M [E 16 0,cd 17 16,bb 18 .add 17 1,az 19 (.la 172019 [bl 0] 8 (.t 18) (.t 18)),E 5 19] (M [a8 6 0] (.seq (M [E 20 0,cd 21 20,a8 22 0] (dT 0 (M [br 23 .lss 22 21] (.seq (dd 23 0) (.seq (.block 1 (M [E 24 22,bC 25 1 20 22,aH 26 1 25,E 7 24,E 8 26] (M [E 27 6,E 28 8,br 29 .add 27 28,E 6 29] (.seq (M [E 30 7,E 31 1,cd 32 31,br 33 .lss 30 32] (fi 33 (.ops [E 34 6,E 35 1,E 36 7,bC 37 1 35 36,aH 38 1 37,br 39 .add 34 38,E 6 39]) .skip)) (M [E 40 5,E 41 7,E 42 6,bb 43 .and 42 1048575,bC 44 1 40 41,aZ 1 44 43] (.ops [E 45 6,az 46 (.bin .shr (.t 45) (.c (.I (.int .u64 20)))),E 6 46])))))) (.ops [bb 47 .add 22 1,E 22 47])))))) (M [E 48 5,E 49 0,cd 50 49,E 51 6,bC 52 1 48 50,aZ 1 52 51] (M [E 53 5,c6 54 pI 53,E 4 54] .ret)))))))
def Z9:bE:=bT 43 2 [.t 4] (M [cF 4] (M [E 9 0,az 10 (.lb 173010 1 wG [.t 9]),E 5 10] (M [a8 6 0] (.seq (M [E 11 5,cd 12 11,a8 13 0] (dT 0 (M [br 14 .lss 13 12] (.seq (dd 14 0) (.seq (.block 1 (M [E 15 13,E 7 15] (M [E 16 5,E 17 7,bC 18 1 16 17,aH 19 1 18,E 20 6,br 21 .sub 19 20,E 8 21] (.seq (M [E 22 7,E 23 1,cd 24 23,br 25 .lss 22 24] (fi 25 (.ops [E 26 8,E 27 1,E 28 7,bC 29 1 27 28,aH 30 1 29,br 31 .sub 26 30,E 8 31]) .skip)) (M [E 32 8,az 33 (.bin .shr (.t 32) (.c (.I (.int .u64 20)))),bb 34 .and 33 1,E 6 34] (.ops [E 35 5,E 36 7,E 37 8,bb 38 .and 37 1048575,bC 39 1 35 36,aZ 1 39 38])))))) (.ops [bb 40 .add 13 1,E 13 40])))))) (M [E 41 5,c6 42 pI 41,E 4 42] .ret)))))
def aaa:bE:=bT 41 2 [.t 4] (M [a8 4 0] (.seq (M [E 6 0,cd 7 6,E 8 1,cd 9 8,br 10 .neq 7 9] (bO 10 [E 11 0,cd 12 11,E 13 1,cd 14 13,bI 15 EV 12 14,E 4 15])) (.seq (M [E 16 0,cd 17 16,bb 18 .sub 17 1,E 5 18] (dT 0 (.seq (M [E 19 5,bb 20 .geq 19 0] (dd 20 0)) (.seq (.block 1 (e2 [E 23 0,E 24 5,bC 25 1 23 24,aH 26 1 25,E 27 1,E 28 5,bC 29 1 27 28,aH 30 1 29,br 31 .neq 26 30] Td (fi 31 (e2 [E 32 0,E 33 5,bC 34 1 32 33,aH 35 1 34,E 36 1,E 37 5,bC 38 1 36 37,aH 39 1 38,bI 40 EV 35 39,E 4 40] IV .ret) .skip))) (.ops [E 21 5,bb 22 .sub 21 1,E 5 22]))))) (M [a8 4 0] .ret))))
def aab:bE:=bT 38 2 [.t 4,.t 5] (M [cF 4,a8 5 0] (M [E 9 0,cd 10 9,az 11 (.la 176011 [bl 0] 8 (.t 10) (.t 10)),E 6 11] (M [a8 7 0] (.seq (M [E 12 0,cd 13 12,bb 14 .sub 13 1,E 8 14] (dT 0 (.seq (M [E 15 8,bb 16 .geq 15 0] (dd 16 0)) (.seq (.block 1 (M [E 19 7,az 20 (.bin .shl (.t 19) (.c (.I (.int .u64 20)))),E 21 0,E 22 8,bC 23 1 21 22,aH 24 1 23,br 25 .or 20 24,E 7 25] (M [E 26 6,E 27 8,E 28 7,E 29 1,br 30 .quo 28 29,bC 31 1 26 27,aZ 1 31 30] (.ops [E 32 7,E 33 1,br 34 .rem 32 33,E 7 34])))) (.ops [E 17 8,bb 18 .sub 17 1,E 8 18]))))) (.seq (.ghost (.freeze 6) (.ops [E 35 6,c6 36 pI 35,E 37 7,E 4 36,E 5 37])) .ret)))))
def E4:bE:=bT 21 1 [.t 2] (M [cF 2] (M [E 4 0,cd 5 4,E 3 5] (.seq (dT 0 (.seq (M [E 6 3,bb 7 .gtr 6 0,E 8 7,eu 9 8 0,eu 10 8 3,kj 11 8 .sub 10 1,rn 12 8 1 9 11,iz 13 8 1 12,kj 14 8 .eql 13 0,fE 15 8 14] (dd 15 0)) (.block 1 (.ops [E 16 3,bb 17 .sub 16 1,E 3 17])))) (M [E 18 0,E 19 3,az 20 (.q1 1 (.t 18) none (some (.t 19)) none),E 2 20] .ret))))
def Nz:bE:=bT 78 3 [.t 6] (M [a8 6 0] (M [a8 7 0] (.seq (M [E 12 0,cd 13 12,a8 14 0] (dT 0 (M [br 15 .lss 14 13] (.seq (dd 15 0) (.seq (.block 1 (M [E 16 14,E 8 16] (M [E 17 0,E 18 8,bC 19 1 17 18,aH 20 1 19,E 21 7,br 22 .sub 20 21,E 9 22] (.seq (M [E 23 8,E 24 1,cd 25 24,br 26 .lss 23 25] (fi 26 (.ops [E 27 9,E 28 2,E 29 1,E 30 8,bC 31 1 29 30,aH 32 1 31,br 33 .mul 28 32,br 34 .sub 27 33,E 9 34]) .skip)) (M [E 35 0,E 36 8,E 37 9,bb 38 .and 37 1048575,bC 39 1 35 36,aZ 1 39 38] (.ops [E 40 9,az 41 (.bin .shr (.t 40) (.c (.I (.int .u64 20)))),az 42 (.un .neg (.t 41)),E 7 42])))))) (.ops [bb 43 .add 14 1,E 14 43])))))) (.seq (M [E 44 7,bb 45 .eql 44 0] (bO 45 [E 46 2,E 6 46])) (M [a8 10 0] (.seq (M [E 47 0,cd 48 47,a8 49 0] (dT 2 (M [br 50 .lss 49 48] (.seq (dd 50 2) (.seq (.block 3 (M [E 51 49,E 11 51] (M [E 52 10,E 53 0,E 54 11,bC 55 1 53 54,aH 56 1 55,br 57 .add 52 56,E 10 57] (.seq (M [E 58 11,E 59 1,cd 60 59,br 61 .lss 58 60] (fi 61 (.ops [E 62 10,E 63 1,E 64 11,bC 65 1 63 64,aH 66 1 65,br 67 .add 62 66,E 10 67]) .skip)) (M [E 68 0,E 69 11,E 70 10,bb 71 .and 70 1048575,bC 72 1 68 69,aZ 1 72 71] (.ops [E 73 10,az 74 (.bin .shr (.t 73) (.c (.I (.int .u64 20)))),E 10 74])))))) (.ops [bb 75 .add 49 1,E 49 75])))))) (M [E 76 2,bb 77 .sub 76 1,E 6 77] .ret)))))))
def aac:bE:=bT 20 2 [.t 4] (M [a8 4 0] (M [E 7 0,c6 8 Np 7,E 5 8] (M [E 9 1,c6 10 Np 9,E 6 10] (.seq (M [E 11 5] (fi 11 (.seq (M [E 12 6] (bO 12 [a8 4 0])) (M [az 4 (.iu (.c (.I (.int .i64 (-1)))))] .ret)) .skip)) (.seq (M [E 13 6] (bO 13 [a8 4 1])) (.seq (M [E 14 0,E 15 1,br 16 .lss 14 15] (bO 16 [az 4 (.iu (.c (.I (.int .i64 (-1)))))])) (.seq (M [E 17 0,E 18 1,br 19 .gtr 17 18] (bO 19 [a8 4 1])) (M [a8 4 0] .ret))))))))
def aad:bE:=bT 18 1 [.t 2] (M [a8 2 0] (M [a8 3 0] (.seq (M [E 6 0,cd 7 6,a8 8 0] (dT 0 (M [br 9 .lss 8 7] (.seq (dd 9 0) (.seq (.block 1 (M [bC 10 1 6 8,aH 11 1 10,E 5 11] (M [E 12 5,E 13 3,br 14 .neq 12 13] (bO 14 [E 15 5,E 2 15])))) (.ops [bb 16 .add 8 1,E 8 16])))))) (M [E 17 3,E 2 17] .ret))))
def aae:bE:=bT 6 1 [.t 2] (M [bW 2 false] (M [E 3 0,E 4 0,br 5 .neq 3 4,E 2 5] .ret))
def aaf:bE:=bT 9 2 [.t 4] (M [bW 4 false] (M [E 5 0,E 6 1,bI 7 SC 5 6,bb 8 .geq 7 0,E 4 8] .ret))
def aag:bE:=bT 9 2 [.t 4] (M [bW 4 false] (M [E 5 0,E 6 1,bI 7 SD 5 6,bb 8 .geq 7 0,E 4 8] .ret))
def aah:bE:=bT 48 2 [.t 4] (M [cF 4] (.seq (M [E 9 1,bb 10 .lss 9 0] (fi 10 (.ops [az 11 (.DX 9 (.c (.I (.str [99,97,110,110,111,116,32,98,101,32,110,101,103,97,116,105,118,101])))),⟨none,none,.bad⟩]) .skip)) (M [E 13 0,cd 14 13,az 15 (.conv .u64 (.t 14)),E 16 1,az 17 (.conv .u64 (.t 16)),bI 18 SF 15 17,E 12 18,aN 19 0 12,aN 20 1 12,E 5 19,E 6 20] (.seq (M [E 21 5,az 22 (.bin .gtr (.t 21) (.c (.I (.int .u64 0)))),E 23 22,dJ 24 23 6,fr 25 23 (.bin .gtr (.t 24) (.c (.I (.int .u64 9223372036854775807)))),cD 26 23 25] (fi 26 (.ops [az 27 (.DX 9 (.c (.I (.str [116,104,101,32,114,101,115,117,108,116,32,111,102,32,40,108,101,110,40,120,41,32,42,32,99,111,117,110,116,41,32,111,118,101,114,102,108,111,119,115])))),⟨none,none,.bad⟩]) .skip)) (M [E 28 6,az 29 (.conv .i64 (.t 28)),az 30 (.la 131030 cK 64 (.t 29) (.t 29)),E 7 30] (M [E 31 7,E 32 0,az 33 (.q2 4 (.t 31) (.t 32)),E 8 33] (.seq (dT 0 (.seq (M [E 34 8,E 35 7,cd 36 35,br 37 .lss 34 36] (dd 37 0)) (.block 1 (.mN [E 38 8,E 39 7,E 40 8,az 41 (.q1 4 (.t 39) (some (.t 40)) none none),E 42 7,E 43 8,az 44 (.q1 4 (.t 42) none (some (.t 43)) none),az 45 (.q2 4 (.t 41) (.t 44)),br 46 .add 38 45,E 8 46] IV)))) (M [E 47 7,E 4 47] .ret))))))))
def aai:bE:=bT 19 2 [.t 4] (M [a8 4 0] (.seq (M [E 6 0,cd 7 6,a8 8 0] (dT 0 (M [br 9 .lss 8 7] (.seq (dd 9 0) (.seq (.block 1 (M [E 10 8,E 5 10] (M [E 11 1,E 12 0,E 13 5,bC 14 5 12 13,aB 15 5 14,az 16 (.jN (.t 11) [.t 15])] (bO 16 [E 17 5,E 4 17])))) (.ops [bb 18 .add 8 1,E 8 18])))))) (M [az 4 (.iu (.c (.I (.int .i64 (-1)))))] .ret)))
def IY:bE:=bT 19 2 [.t 4] (M [a8 4 0] (.seq (M [E 6 0,cd 7 6,a8 8 0] (dT 0 (M [br 9 .lss 8 7] (.seq (dd 9 0) (.seq (.block 1 (M [E 10 8,E 5 10] (M [E 11 1,E 12 0,E 13 5,bC 14 4 12 13,aB 15 4 14,az 16 (.jN (.t 11) [.t 15])] (bO 16 [E 17 5,E 4 17])))) (.ops [bb 18 .add 8 1,E 8 18])))))) (M [az 4 (.iu (.c (.I (.int .i64 (-1)))))] .ret)))
def aaj:bE:=bT 8 1 [.t 2] (M [cF 2] (.seq (M [E 3 0,az 4 (.lR false (.t 3))] (bO 4 [cF 2])) (M [az 5 (.dM 147005 true [] 4 0 []),E 6 0,az 7 (.app 147007 cK 64 (.t 5) (.t 6)),E 2 7] .ret)))
def aak:bE:=bT 8 1 [.t 2] (M [cF 2] (.seq (M [E 3 0,az 4 (.lR false (.t 3))] (bO 4 [cF 2])) (M [az 5 (.dM 156005 true [] 1 0 []),E 6 0,az 7 (.app 156007 [bl 0] 8 (.t 5) (.t 6)),E 2 7] .ret)))
def aal:bE:=bT 9 2 [.t 4] (M [bW 4 false] (M [E 5 0,E 6 1,bI 7 Ta 5 6,bb 8 .geq 7 0,E 4 8] .ret))
def aam:bE:=bT 19 2 [.t 4] (M [a8 4 0] (.seq (M [E 6 0,cd 7 6,a8 8 0] (dT 0 (M [br 9 .lss 8 7] (.seq (dd 9 0) (.seq (.block 1 (M [E 10 8,E 5 10] (M [E 11 1,E 12 0,E 13 5,bC 14 6 12 13,aB 15 6 14,az 16 (.jN (.t 11) [.t 15])] (bO 16 [E 17 5,E 4 17])))) (.ops [bb 18 .add 8 1,E 8 18])))))) (M [az 4 (.iu (.c (.I (.int .i64 (-1)))))] .ret)))
def Te (l:List Int)(n:Nat)(aA:n<D l)(h:l[n]=0):fO (l.take (n+1))=fO (l.take n):=by
 rw[hn,bc aA,h];exact ZK _
def Tf (l:List Int)(n:Nat)(aA:n<D l)(h:l[n]≠0):fO (l.take (n+1))=l.take (n+1):=by
 rw[hn,bc aA];exact ZL _ h
abbrev wI:List Int->List Data:=λ(l:List Int)=>[.ao (l.map aG)]
def wJ:=bG wI λ(l:List Int)=>b8 (D l<=1000000) (.same (.ao ((fO l).map aG)))
def NA:∀a b,wI a=wI b->a=b:=by
  intro hZ X h;exact map_inj fW _ _ (by simpa using h)
@[go_sem] def NB (l):=cj wJ rfl NA l rfl
def alK (T:bg):WF T E4 wJ:=by
 refine b5 λl=>cn λU=>⟨rfl,b4 ?_⟩;simp only[E4,wI,bV];have kT:((l.map aG).all λe=>D e==1)=true:=by simp[aG]
 refine af ?_;repeat' (intro h<;>simp only[h,go_sem,go_sem_proc,ah]<;>try refine ab ?_ ?_)
 refine cV [0] [] (λ(n:Nat) tm mem=>n<=D l/\fO l=fO (l.take n)/\tm 3=.I (.int .i64 n)) (λn=>n) (D l) (by refine⟨c8 _,by simp,by simp[go_sem]⟩) ?_;intro vs ms aI aD;simp only[go_sem,go_sem_proc,ah] at aI aD;subst aI aD;rintro n tm mem Q-⟨aA,bL,aa⟩;simp only[go_sem,go_sem_proc,bj] at Q;have aq:=Q;rcases n with _|n
 ·refine af ?_;repeat' (intro h<;>simp only[h,go_sem,go_sem_proc,aq,aa,kT,oe,oV,show ¬ ((0:Int)>0) by omega,decide_false,ah,show (0:Int).toNat=0 from rfl,show (0:Int)<=0 by omega,dF,M7,bN]<;>try refine ab ?_ ?_)
  rw[bL];simp[fO]
 ·have hw:IntKind.i64.wrap (((n+1:Nat):Int)-1)=(n:Int):=by rw[fJ _];omega
  have J:l[n]?=some l[n]:=bc (by omega);have h3:((n+1:Nat):Int)>0:=by omega
  have hle:n+1<=D l:=aA
  by_cases a0:l[n]=0
  ·refine af ?_;repeat' (intro h<;>simp only[h,go_sem,go_sem_proc,aq,aa,hw,J,a0,h3,ah,bd,decide_true,aG,beq_self_eq_true,bj]<;>try refine ab ?_ ?_)
   exact⟨n,by omega,by omega,by rw[bL,Te l n (by omega) a0],rfl⟩
  ·have lW:(l[n]==0)=false:=by simpa using a0
   refine af ?_;repeat' (intro h<;>simp only[h,go_sem,go_sem_proc,aq,aa,hw,J,lW,h3,kT,hle,aG,ah,bd,decide_true,bj,show (0:Int)<=((n+1:Nat):Int) by omega,lX,dF]<;>try refine ab ?_ ?_)
   rw[bL,Tf l n (by omega) a0,List.map_take]
structure aan where
 l:List Int
 k:Key
 g:Nat
def tL:List H->Mem->Option (H×Mem):=EI (λ(a:aan) args mem=>args=[.ref a.k a.g 1 0 (D a.l)]/\mem a.k=some (a.g,aQ aG a.l)/\D a.l<=1000000) (λa mem=>(.ref a.k a.g 1 0 (fO a.l).length,mem))
def Tg {α:Type}{enc:α->List Data}{sz:Nat}(h:∀a,(enc a).length=sz)(Z:∀a b,enc a=enc b->a=b):∀(l mR:List α),aQ enc l=aQ enc mR->0<sz->l=mR:=by
 intro l
 induction l with
 |nil =>
  intro mR e a0
  cases mR with
  |nil=>rfl
  |cons b r =>
   have:=congrArg D e;rw[jU h,jU h] at this;simp only[mV,lQ,Ng,pw] at this;omega
 |cons a r a2 =>
  intro mR e a0
  cases mR with
  |nil =>
   have:=congrArg D e;rw[jU h,jU h] at this;simp only[mV,lQ,Ng,pw] at this;omega
  |cons b xK =>
   rw[u5,u5] at e;have ae:((enc a).map H.I).length=((enc b).map H.I).length:=by simp[h]
   obtain⟨aO,ax⟩:=Th e ae;have eS:=map_inj (λx y (e:H.I x=H.I y)=>by cases e;rfl) _ _ aO;rw[Z _ _ eS,a2 xK ax a0]
def Ti (l:List Int)(k g:Nat)(mem:Mem)(h:mem k=some (g,aQ aG l))(ae:(D l)<=1000000):tL [.ref k g 1 0 (D l)] mem=some (.ref k g 1 0 (fO l).length,mem):=by
 unfold tL;refine ZJ (a:=(⟨l,k,g⟩:aan)) ?_ ⟨rfl,h,ae⟩;rintro a b args mem ⟨F,G,_⟩ ⟨aa,aX,_⟩;rw[F] at aa;simp only[bj,H.ref.injEq,true_and,and_true] at aa;obtain⟨IZ,NC,_⟩:=aa;rw[IZ,aX] at G;simp only[bM,eL] at G;have:=Tg jA fW _ _ G.2 (by omega);rw[IZ,NC,this]
@[go_sem] def azm (d:Data)(mem:Mem):tL [.I d] mem=none:=by
 cases J:tL [.I d] mem with
 |none=>rfl
 |some x =>
  unfold tL at J;obtain⟨a,⟨h,_⟩,_⟩:=Sr J
  cases h
def alL (T:bg)(l:List Int)(k g:Nat)(mem:Mem)(hm:mem k=some (g,aQ aG l))(U:(D l)<=1000000):
  wp T E4.body (EH E4.res (.ref k g 1 0 (fO l).length) mem) ⟨ke [.ref k g 1 0 (D l)],mem⟩:=by
 refine xX ?_;simp only[E4];refine af ?_;repeat' (intro h<;>simp only[h,go_sem,go_sem_proc,hm]<;>try refine ab ?_ ?_)
 refine cV [0] [] (λ(n:Nat) tm mem'=>n<=D l/\fO l=fO (l.take n)/\tm 3=.I (.int .i64 n)/\mem'=mem) (λn=>n) (D l) (by refine⟨c8 _,by simp,by simp[go_sem],rfl⟩) ?_;intro vs ms aI aD;simp only[go_sem,go_sem_proc] at aI aD;subst aI aD;rintro n tm _ Q-⟨aA,bL,aa,rfl⟩;simp only[go_sem,go_sem_proc,bj] at Q;have aq:=Q;rcases n with _|n
 ·refine af ?_;repeat' (intro h<;>simp only[h,go_sem,go_sem_proc,aq,aa,hm,oe,oV,show ¬ ((0:Int)>0) by omega,decide_false,show (0:Int).toNat=0 from rfl,show (0:Int)<=0 by omega,dF]<;>try refine ab ?_ ?_)
  rw[bL];simp[fO]
 ·have hw:IntKind.i64.wrap (((n+1:Nat):Int)-1)=(n:Int):=by rw[fJ _];omega
  have J:l[n]?=some l[n]:=bc (by omega);have h3:((n+1:Nat):Int)>0:=by omega
  have hle:n+1<=D l:=aA;have an:n<D l:=aA;have ra:=EE jA J (f:=0) (n:=1) (by omega);have ea:=jU jA l;rw[dL] at ea;have aao:n+1<=(aQ aG l).length:=by omega
  have aap:mZ 1 (nL n (aQ aG l))=[.I (.int .i64 l[n])]:=by
   unfold cut at ra;rw[dL,lo,aJ (by omega)] at ra
   simpa [aG] using ra
  by_cases a0:l[n]=0
  ·refine af ?_;repeat' (intro h<;>simp only[h,go_sem,go_sem_proc,aq,aa,hm,hw,an,aao,aap,a0,h3,decide_true,dL,beq_self_eq_true]<;>try refine ab ?_ ?_)
   exact⟨n,by omega,by omega,by rw[bL,Te l n (by omega) a0],rfl⟩
  ·have lW:(l[n]==0)=false:=by simpa using a0
   refine af ?_;repeat' (intro h<;>simp only[h,go_sem,go_sem_proc,aq,aa,hm,hw,an,aao,aap,lW,h3,hle,decide_true,dL,show (0:Int)<=((n+1:Nat):Int) by omega,lX,dF,Nat.sub_zero]<;>try refine ab ?_ ?_)
   rw[bL,Tf l n (by omega) a0];simp;omega
abbrev tM:Int->List Data:=λ(n:Int)=>[.int .i64 n]
def ND:=bG tM λ(n:Int)=>some (.same (.bool false))
def I0:∀a b,tM a=tM b->a=b:=by
  intro rb re h;simp only[bj,Data.int.injEq,Data.agg.injEq,Data.ao.injEq,Data.bool.injEq,Data.str.injEq,Data.ptr.injEq,Data.dp.injEq,eL,true_and,and_true] at h ⊢
  first|exact h|simpa [I1,and_assoc] using h|grind
@[go_sem] def azn (n):=sm ND rfl I0 n rfl
def alM (T:bg):WF T aae ND:=by
 refine b5 λn=>⟨rfl,b4 ?_⟩;simp only[aae,tM,bV];refine af ?_;repeat' (intro h<;>simp only[h,go_sem,go_sem_proc,beq_self_eq_true]<;>try refine ab ?_ ?_)
def gb (a b:Int):Int:=if decide (a<b)=true then -1 else if decide (a>b)=true then 1 else 0
abbrev wK:Int×Int->List Data:=λ(a,b)=>[.int .i64 a,.int .i64 b]
def I2:=bG wK λ(a,b)=>some (.same (.int .i64 (gb a b)))
def NF:∀a b,wK a=wK b->a=b:=by
  rintro⟨dw,bR⟩ ⟨dV,cz⟩ h;simp only[bj,Data.int.injEq,Data.agg.injEq,Data.ao.injEq,Data.bool.injEq,Data.str.injEq,Data.ptr.injEq,Data.dp.injEq,eL,true_and,and_true] at h ⊢
  first|exact h|simpa [I1,and_assoc] using h|grind
@[go_sem] def azo (a b):=sm I2 rfl NF (a,b) rfl
def alN (T:bg)(alO:T Np=aE ND):WF T aac I2:=by
 refine b5 λ(a,b)=>⟨rfl,b4 ?_⟩;simp only[aac,wK,bV];refine af ?_;repeat' (intro h<;>simp only[h,go_sem,go_sem_proc,alO]<;>try refine ab ?_ ?_)
 all_goals simp only[gb, *,reduceIte,cZ,db,tC,qz,tD,pE,pF,eZ,iZ,eN,cC,beq_self_eq_true,bne]
def yr:List Int->Int
 | []=>0
 |d::r=>if (d==0)=true then yr r else d
def NG:=bG wI λ(l:List Int)=>b8 (D l<=1000000) (.same (.int .i64 (yr l)))
@[go_sem] def alP (l):=cj NG rfl NA l rfl
def alQ (T:bg):WF T aad NG:=by
 refine b5 λl=>cn λU=>⟨rfl,b4 ?_⟩;simp only[aad,wI,bV];simp only[go_sem,go_sem_proc,ah];repeat' (first|refine ab ?_ ?_|fail)<;>intro h<;>simp only[h,go_sem,go_sem_proc,ah]
 refine cV [3,6,7] [] (λi tm mem=>0<=i/\i<=(D l:Int)/\yr l=yr (l.drop i.toNat)/\tm 8=.I (.int .i64 i)) (λi=>(D l-i).toNat) 0 (by refine⟨by omega,by omega,by simp,by simp[go_sem]⟩) ?_;intro vs ms aI aD;simp only[go_sem,go_sem_proc] at aI aD;subst aI aD;rintro i tm mem Q-⟨wL,Z,aj,ca⟩;simp only[go_sem,go_sem_proc,bj] at Q;obtain⟨aa,bx,bK⟩:=Q;rcases dt (i<D l) with an|bB
 ·obtain⟨x,J,ad,-⟩:=Zy l i wL an;simp only[go_sem,go_sem_proc,aa,bx,bK,ca,J,an,wL,aG,ah,bd,decide_true,bj];repeat' (first|refine ab ?_ ?_|fail)<;>intro h<;>simp only[h,go_sem,go_sem_proc,aa,bx,bK,ca,J,an,wL,aG,ah,bd,decide_true,bj]
  ·rw[aj,ad];simp[yr,h]
  ·exact⟨i+1,by omega,by omega,by omega,by rw[aj,ad];simp only[yr, *,reduceIte,cZ,db,tC,qz,tD,pE,pF,eZ,iZ,eN,cC,beq_self_eq_true,bne],by rw[fJ _]⟩
 ·have he:l.drop i.toNat=[]:=lj (by omega);simp only[go_sem,go_sem_proc,aa,bx,bK,ca,bB,decide_false];repeat' (first|refine ab ?_ ?_|fail)<;>intro h<;>simp only[h,go_sem,go_sem_proc,aa,bx,bK,ca,bB,decide_false]
  rw[aj,he];rfl
def Tj (l:List Int):((l.map aG).all λe=>D e==1)=true:=by simp[aG]
def Aa:=bG wI λ(l:List Int)=>b8 (D l<=1000000) (.own 1 (l.map aG))
@[go_sem] def alR (l):=cj Aa rfl NA l rfl
def alS (T:bg):WF T aak Aa:=by
 refine b5 λl=>cn λU=>⟨rfl,b4 ?_⟩;simp only[aak,wI,bV]
 have cY:lf 156005 0 1 0 8 (D l) ((l.map aG).flatten.map .I) (some (0,[]))=some (.ref 156005 1 1 0 (D l),some (156005,1,aQ aG l)):=by
  have:=z0 jA wF 156005 0 8 [] l (by simp;omega) (by simp;omega)
  simpa [aQ] using this
 have hlen:(aQ aG l).length=D l:=by rw[jU jA];omega
 refine af ?_;repeat' (intro h<;>simp only[h,go_sem,go_sem_proc,Tj,cY,ah]<;>try refine ab ?_ ?_)
 rintro b R
 cases b
 ·refine af ?_;repeat' (intro h<;>simp only[h,go_sem,go_sem_proc,Tj,cY,ah,qy,dL,hlen]<;>try refine ab ?_ ?_)
  rw[aJ (by omega),dE (by omega)];unfold aQ;rw[z1 _ λd=>rfl];have:=z2 (sz:=1) (l.map aG) (by simp[aG]);rw[ah] at this;simp[this]
 ·cases l with
  |nil =>
       refine af ?_;repeat' (intro h<;>simp only[h,go_sem,go_sem_proc,qy,bN]<;>try refine ab ?_ ?_)
  |cons x r=>simp at R
abbrev Raw:=Int×List Int
def b3 (a:Raw):List Data:=[.int .i64 a.1,.ao (a.2.map aG)]
def nm (d:Int):Bool:=!decide (d<0) && !decide (d>1048575)
def cI (a:Raw):Bool:=a.2.all nm&&(if (a.2.length==0)=true then a.1==0 else ((a.1==1||a.1 == -1)&&decide (a.2.length<=60)&&(a.2.getLast? != some 0)))
abbrev pJ:Int×(List Int)->List Data:=λ(s,l)=>[.agg [.int .i64 s,.ao (l.map aG)]]
def tN:=bG pJ λ(s,l)=>b8 (D l<=1000000) (.same (.bool (cI (s,l))))
def Ca:∀a b,pJ a=pJ b->a=b:=by
  rintro⟨s1,hZ⟩ ⟨s2,X⟩ h;simp only[bj,Data.agg.injEq,Data.int.injEq,Data.ao.injEq] at h;exact cx h.1.1.2 (map_inj fW _ _ h.1.2.1)
@[go_sem] def azp (s l):=cj tN rfl Ca (s,l) rfl
def alT (T:bg):WF T ZV tN:=by
 refine b5 λ(s,l)=>cn λU=>⟨rfl,b4 ?_⟩;simp only[ZV,pJ,bV];refine af ?_;repeat' (intro h<;>simp only[h,go_sem,go_sem_proc,ah]<;>try refine ab ?_ ?_)
 refine cV [1,3,10,11] [136001] (λi tm mem=>0<=i/\i<=(D l:Int)/\l.all nm=(l.drop i.toNat).all nm/\tm 12=.I (.int .i64 i)) (λi=>(D l-i).toNat) 0 (by refine⟨by omega,by omega,by simp,by simp[go_sem]⟩) ?_;intro vs ms aI aD;simp only[go_sem,go_sem_proc,ah] at aI aD;subst aI aD;rintro i tm mem Q hm ⟨wL,Z,aj,eH⟩;simp only[go_sem,go_sem_proc,bj] at Q hm;obtain⟨F,aa,dy,dW⟩:=Q;rcases dt (i<D l) with an|bB
 ·obtain⟨x,J,ad,-⟩:=Zy l i wL an
  have lY:∀b,nm x=true->b=(l.drop (i+1).toNat).all nm->l.all nm=b:=by
   intro b F G;rw[aj,ad,u2,F,G,eZ]
  have jW:nm x=false->cI (s,l)=false:=by
   intro F;unfold cI;rw[aj,ad,u2,F]
   rfl
  refine af ?_;repeat' (intro h<;>simp only[h,go_sem,go_sem_proc,F,aa,dy,dW,eH,hm,J,an,wL,aG,ah,bd,decide_true,bj]<;>try refine ab ?_ ?_)
  ·rw[jW (by simp only[nm, *,reduceIte,cZ,db,tC,qz,tD,pE,pF,eZ,iZ,eN,cC,beq_self_eq_true,bne])]
  ·exact⟨i+1,by omega,by omega,by omega,by refine lY _ ?_ rfl;simp only[nm, *,reduceIte,cZ,db,tC,qz,tD,pE,pF,eZ,iZ,eN,cC,beq_self_eq_true,bne],by rw[fJ _]⟩
  ·rw[jW (by simp only[nm, *,reduceIte,cZ,db,tC,qz,tD,pE,pF,eZ,iZ,eN,cC,beq_self_eq_true,bne])]
 ·have he:l.drop i.toNat=[]:=lj (by omega);rw[he] at aj;have cX:l.all nm=true:=by rw[aj];rfl
  rcases Ss l with rfl|⟨r,x,rfl⟩
  ·have alU:¬ i<(0:Int):=by simpa using bB
   refine af ?_;repeat' (intro h<;>simp only[h,go_sem,go_sem_proc,F,aa,dy,dW,eH,hm,alU,decide_false,mV,oe,oV,beq_self_eq_true]<;>try refine ab ?_ ?_)
   simp[cI]
  ·rw[St] at *;have bo:(((r++[x]).length:Int)==0)=false:=by simp;omega
   have hw:IntKind.i64.wrap (((r++[x]).length:Int)-1)=(D r:Int):=by
    have bp:(r++[x]).length=D r+1:=by simp
    rw[fJ _];omega
   have aL:((r++[x]).map aG)[D r]?=some [.int .i64 x]:=by simp[aG]
   have L:cI (s,r++[x])=((s==1||s == -1)&&decide (((r++[x]).length:Int)<=60)&&(x != 0)):=by
    unfold cI;rw[cX];simp only[List.getLast?_append,List.getLast?_singleton];simp;have aO:decide (D r<=59)=decide ((D r:Int)+1<=60):=decide_eq_decide.2 (by omega);have ax:(some x != some (0:Int))=(x != 0):=by simp[bne]
    rw[aO,ax]
   rw[L];refine af ?_;repeat' (intro h<;>simp only[h,go_sem,go_sem_proc,F,aa,dy,dW,eH,hm,bB,bo,hw,aL,decide_false,ah]<;>try refine ab ?_ ?_)
   all_goals simp only[*,reduceIte,cZ,db,tC,qz,tD,pE,pF,eZ,iZ,eN,cC,beq_self_eq_true,bne]
def jX (s:Int)(l:List Int):Raw:=if (((fO l).length:Int)==0)=true then (0,[]) else (s,fO l)
abbrev E5:Int×(List Int)->List Data:=λ(s,l)=>[.int .i64 s,.ao (l.map aG)]
def yt:=bG E5 λ(s,l)=>b8 (D l<=1000000) (.same (.agg (b3 (jX s l))))
def aaq:∀a b,E5 a=E5 b->a=b:=by
  rintro⟨s1,hZ⟩ ⟨s2,X⟩ h;simp only[bj,Data.int.injEq,Data.ao.injEq] at h;exact cx h.1.2 (map_inj fW _ _ h.2.1)
@[go_sem] def azq (s l):=cj yt rfl aaq (s,l) rfl
def alV (T:bg)(fo:T pI=yg wJ tL):WF T Z4 yt:=by
 refine b5 λ(s,l)=>cn λU=>⟨rfl,b4 ?_⟩;simp only[Z4,E5,bV];refine af ?_;repeat' (intro h<;>simp only[h,go_sem,go_sem_proc,fo,U,ah]<;>try refine ab ?_ ?_)
 all_goals simp only[jX,b3,bN, *,reduceIte,cZ,db,tC,qz,tD,pE,pF,eZ,iZ,eN,cC,beq_self_eq_true,bne]
def kZ (l:List Int)(i:Nat)(h:i<D l):a7 (l.take (i+1))=a7 (l.take i)+1048576^i*l[i]:=by
 rw[hn,bc h,BQ,gj,n7 (by omega)];simp[a7]
def yu {l:List Int}(h:eO l)(i:Nat):eO (l.take i):=λd ad=>h d (Eh ad)
def aar {l:List Int}(i:Nat)(Z:i<D l):eO (l.take (i+1))↔eO (l.take i)/\(0<=l[i]/\l[i]<1048576):=by
 rw[hn,bc Z,BP];simp[BO,eO]
def k0 {l:List Int}(h:eO l)(i:Nat)(Z:i<D l):0<=l[i]/\l[i]<1048576:=h _ (List.getElem_mem Z)
def Cb (o:List Int)(i:Nat)(d:Int):(o.set i d).take i=o.take i:=by
 rw[List.take_set,List.set_eq_of_length_le];rw[gj];omega
def pK (o:List Int):(aQ aG o).length=D o:=by rw[jU jA];omega
def I3 (o:List Int)(i:Nat)(h:i<D o):mZ 1 (nL i (aQ aG o))=[.I (.int .i64 o[i])]:=by
 have ra:=EE jA (bc h) (f:=0) (n:=1) (by omega);unfold cut at ra;have:=pK o;rw[dL,lo,aJ (by omega)] at ra
 simpa [aG] using ra
def wM (o:List Int)(i:Nat)(d:Int)(h:i<D o):mZ i (aQ aG o)++[.I (.int .i64 d)]++nL (i+1) (aQ aG o)=aQ aG (o.set i d):=by
 have:=Nc jA h d;unfold kv at this
 simpa [aG] using this
def E6 (n:Nat):(cf n [H.I (.int .i64 0)]).flatten=aQ aG (cf n 0):=by
 induction n with
 |zero=>rfl
 |succ n a2=>rw[qn,qn,mg,u5,a2];rfl
def E7 (n:Nat)(h:n<=1000000000):n<=maxLen:=iG h (by decide)
def aas (l:List Int):(fO l).length<=D l:=by
 induction l with
 |nil=>simp[fO]
 |cons d r a2=>unfold fO;split<;>(try split)<;>simp<;>omega
def alW (l:List Int):l.take (fO l).length=fO l:=by
 induction l with
 |nil=>simp[fO]
 |cons d r a2 =>
  unfold fO
  split
  ·split<;>simp
  ·simp[a2]
def alX (l:List Int):∀n:Nat,(aQ aG l).take n=aQ aG (l.take n):=by
 induction l with
 |nil=>intro n;simp[aQ]
 |cons d r a2=>intro n;cases n with
  |zero=>simp[aQ]
  |succ n=>rw[u5,Ez,u5,<-a2];rfl
def aat {mem:Mem}{k g n:Nat}{o:List Int}(hm:mem k=some (g,aQ aG o))(aA:n<=D o):qy 1 mem (.ref k g 1 0 n)=some ((o.take n).map aG):=by
 unfold qy;dsimp only;rw[hm];simp only[and_self,if_true,dL];rw[pK,aJ ⟨trivial,aA⟩,alX];unfold aQ;rw[z1 _ λd=>rfl];have:=z2 (sz:=1) ((o.take n).map aG) (by intro e he;rw[h7] at he;obtain⟨x,-,rfl⟩:=he;rfl);rw[ah,gj,n7 aA] at this;simp only[kU,this]
def Tk {mem:Mem}{k g:Nat}{o:List Int}{n:Nat}(hm:mem k=some (g,aQ aG o))(ad:eO o)(al:a7 o=n):qy 1 mem (.ref k g 1 0 (fO o).length)=some ((aF n).map aG):=by
 rw[aat hm (aas o),alW,yj ad,al]
 rfl
def du (n:Nat):Data:=.ao ((aF n).map aG)
def aau {x y:Nat}(h:(aF x).length<(aF y).length):x<y:=by
 have F:=(fX (n:=x) (k:=(aF x).length)).1 (c8 _);have G:=mt (fX (n:=y) (k:=(aF x).length)).2 (by omega);omega
def aav {a b:List Int}(ba:eO a)(R:eO b)(ae:(D a)=D b)(i:Nat)(Z:i<D a)(ad:a.drop (i+1)=b.drop (i+1))(h:a[i]<b[i]):a7 a<a7 b:=by
 rw[Iy a (i+1),Iy b (i+1),ad,ae,kZ a i Z,kZ b i (by omega)];have F:=yi (yu ba i);have G:=ob (yu R i);rw[gj,n7 (by omega)] at F;generalize (1048576:Int)^i=p at *
 have aa:p*a[i]+p<=p*b[i]:=by
  have:p*(a[i]+1)<=p*b[i]:=tO (by omega) (by have:=ob (yu ba i);omega);rw[h9,qB] at this;exact this
 omega
abbrev mv:Nat×Nat->List Data:=λ(x,y)=>[du x,du y]
def E8:=bG mv λ(x,y)=>b8 ((aF x).length<=1000000/\(aF y).length<=1000000) (.same (.int .i64 (gb x y)))
def wN:∀a b,mv a=mv b->a=b:=by
  rintro⟨dz,og⟩ ⟨dI,qC⟩ h;simp only[bj,du,Data.ao.injEq] at h;exact cx (Iw (map_inj fW _ _ h.1)) (Iw (map_inj fW _ _ h.2.1))
@[go_sem] def Tl (x y):=cj E8 rfl wN (x,y) rfl
def alY (T:bg)(tP:T EV=aE I2):WF T aaa E8:=by
 refine b5 λ(x,y)=>cn λU=>⟨rfl,b4 ?_⟩;simp only[aaa,mv,bV];obtain⟨J,ai⟩:=U;have sx:=mr x;have qD:=mr y;have vb:=lr x;have Cc:=lr y;have Zq:=@aau x y;have lT:=@aau y x
 by_cases ae:(aF x).length=(aF y).length
 ·generalize ba:aF x=a at *;generalize R:aF y=b at *;have Tm:((D a:Int)==(D b:Int))=true:=by simp[ae]
  simp only[go_sem,go_sem_proc,tP,du,ba,R,Tm,ah];refine cV [0,1] [] (λ(n:Nat) tm mem=>n<=D a/\a.drop n=b.drop n/\tm 5=.I (.int .i64 ((n:Int)-1))) (λn=>n) (D a) (by refine⟨c8 _,by rw[Sk,ae,Sk],?_⟩;simp only[q3,reduceIte];rw[fJ _]) ?_;intro vs ms aI aD;simp only[go_sem,go_sem_proc,tP,du,ba,R] at aI aD;subst aI aD;rintro n tm mem Q-⟨aA,ad,bt⟩;simp only[go_sem,go_sem_proc,tP,bj] at Q;obtain⟨aq,F⟩:=Q;rcases n with _|n
  ·have e:a=b:=by simpa using ad
   have hk:(x:Int)=y:=by rw[<-vb,<-Cc,e]
   refine af ?_;repeat' (intro (ag:_=_)<;>simp only[ag,go_sem,go_sem_proc,tP,aq,F,bt,oe,oV,show ¬ ((0:Int)-1>=0) by omega,decide_false]<;>try refine ab ?_ ?_)
   rw[hk];simp[gb]
  ·have hw:((n+1:Nat):Int)-1=(n:Int):=by omega
   have pL:a[n]?=some a[n]:=bc (by omega);have tQ:b[n]?=some b[n]:=bc (by omega)
   have L:gb a[n] b[n]=gb x y\/a[n]=b[n]:=by
    by_cases F:a[n]<b[n]
    ·left
     have:=aav sx qD ae n aA ad F;simp only[gb];rw[aJ (by simpa using F),aJ (by simp;omega)]
    ·by_cases G:b[n]<a[n]
     ·left
      have:=aav qD sx ae.symm n (by omega) ad.symm G;simp only[gb];rw[aR (by simp;omega),aJ (by simp;omega),aR (by simp;omega),aJ (by simp;omega)]
     ·right;omega
   by_cases a0:a[n]=b[n]
   ·refine af ?_;repeat' (intro (ag:_=_)<;>simp only[ag,go_sem,go_sem_proc,tP,aq,F,bt,hw,pL,tQ,a0,aG,show (n:Int)>=0 by omega,decide_true,bd,beq_self_eq_true,bj]<;>try refine ab ?_ ?_)
    exact⟨n,by omega,by omega,by rw[gw (by omega:n<D a),gw (by omega:n<D b),a0,ad],by rw[fJ _]⟩
   ·have lW:(a[n]==b[n])=false:=by simpa using a0
    refine af ?_;repeat' (intro (ag:_=_)<;>simp only[ag,go_sem,go_sem_proc,tP,aq,F,bt,hw,pL,tQ,lW,aG,show (n:Int)>=0 by omega,decide_true,bd,bj]<;>try refine ab ?_ ?_)
    rw[L.resolve_right a0]
 ·have Tm:(((aF x).length:Int)==((aF y).length:Int))=false:=by simp;omega
  have L:gb (aF x).length (aF y).length=gb x y:=by
   simp only[gb];rcases gX (aF x).length (aF y).length with h|h
   ·have:=Zq h;rw[aJ (by simp;omega),aJ (by simp;omega)]
   ·have:=lT (by omega);rw[aR (by simp;omega),aJ (by simp;omega),aR (by simp;omega),aJ (by simp;omega)]
  refine af ?_;repeat' (intro (ag:_=_)<;>simp only[ag,go_sem,go_sem_proc,tP,du,Tm,L,ah]<;>try refine ab ?_ ?_)
def aaw (p vc tv q6 c a b:Int)(h:vc+p*c=tv+q6):vc+p*((c+a+b)%1048576)+p*1048576*((c+a+b)/1048576)=tv+p*a+(q6+p*b):=by
 have F:=Ab (c+a+b) 1048576
 have G:p*((c+a+b)%1048576)+p*1048576*((c+a+b)/1048576)=p*(c+a+b):=by
  rw[ia,<-h9,F]
 have aa:p*(c+a+b)=p*c+p*a+p*b:=by rw[h9,h9]
 omega
def I4:=bG mv λ(x,y)=>b8 ((aF x).length<=100000/\(aF y).length<=100000) (.own 1 ((aF (x+y)).map aG))
@[go_sem] def aax (x y):=cj I4 rfl wN (x,y) rfl
def alZ (T:bg)(fo:T pI=yg wJ tL):WF T Z8 I4:=by
 refine b5 λ(x,y)=>cn λU=>⟨rfl,b4 ?_⟩;simp only[Z8,mv,bV];obtain⟨J,ai⟩:=U;simp only[go_sem,go_sem_proc,fo,du,ah];refine ak1 (λst=>∃a b:List Int,eO a/\eO b/\D a<=100000/\D b<=D a/\a7 a+a7 b=x+y/\st.tm 0=.I (.ao (a.map aG))/\st.tm 1=.I (.ao (b.map aG))/\st.mem 172019=none) (λh=>?_) (λh=>?_) ?_
 ·refine af ?_;repeat' (intro (ag:_=_)<;>simp only[ag,go_sem,go_sem_proc,fo,du]<;>try refine ab ?_ ?_)
  refine⟨aF y,aF x,mr y,mr x,ai,?_,by rw[lr,lr];omega,rfl,rfl⟩
  simp at h;omega
 ·refine af ?_;repeat' (intro (ag:_=_)<;>simp only[ag,go_sem,go_sem_proc,fo,du]<;>try refine ab ?_ ?_)
  refine⟨aF x,aF y,mr x,mr y,J,?_,by rw[lr,lr],rfl,rfl⟩
  simp at h;omega
 rintro⟨tm,mem⟩ ⟨a,b,Tn,I5,nj,qE,al,aq,F,hm⟩;dsimp only at aq F hm;have m0:IntKind.i64.wrap ((D a:Int)+1)=((D a+1:Nat):Int):=by rw[fJ _];rfl
 have kW:8*(D a+1)<=140737488355328:=by omega
 have eE:(D a)+1<=maxLen:=E7 _ (by omega);simp only[go_sem,go_sem_proc,fo,aq,F,hm,m0,kW,eE,E6,ah]
 refine cV [0,1,5,20,21] [] (λ(i,c,o) tm mem=>i<=D a/\(o:List Int).length=D a+1/\eO (o.take i)/\0<=c/\c<=1/\a7 (o.take i)+1048576^i*c=a7 (a.take i)+a7 (b.take i)/\tm 22=.I (.int .i64 (i:Nat))/\tm 6=.I (.int .i64 c)/\mem 172019=some (0,aQ aG o))
  (λ(i,_)=>D a-i) (0,0,cf (D a+1) 0) (by refine⟨dF _,by simp,by simp[eO],by omega,by omega,by simp[a7],?_,?_,?_⟩<;>rfl) ?_
 intro vs ms aI aD;simp only[go_sem,go_sem_proc,fo,aq,F,ah] at aI aD;subst aI aD;rintro⟨i,c,o⟩ tm mem Q-⟨Z,a4,gN,nM,iw,jy,To,bx,hm⟩;simp only[go_sem,go_sem_proc,fo,bj] at Q;obtain⟨aq,F,bt,qF,Tp⟩:=Q;rcases dt (i<D a) with an|bB
 ·have pL:a[i]?=some a[i]:=bc an;have zY:=k0 Tn i an;have gn:IntKind.i64.wrap ((i:Int)+1)=((i+1:Nat):Int):=by rw[fJ _];rfl
  have sy:i<D o:=by omega
  have k1:i+1<=(aQ aG o).length:=by rw[pK];omega
  have mw:IntKind.i64.wrap (c+a[i])=c+a[i]:=wrap64 _ (by omega) (by omega);have iK:=λd=>wM o i d sy
  have fin:∀bi:Int,0<=bi->bi<1048576->a7 (b.take (i+1))=a7 (b.take i)+1048576^i*bi ->
    ∃a1:Nat×Int×List Int,D a-a1.1<D a-i/\a1.1<=D a/\a1.2.2.length=D a+1/\eO (a1.2.2.take a1.1)/\0<=a1.2.1/\a1.2.1<=1/\a7 (a1.2.2.take a1.1)+1048576^a1.1*a1.2.1=a7 (a.take a1.1)+a7 (b.take a1.1) /\
     H.I (Data.int .i64 ((i+1:Nat):Int))=H.I (Data.int .i64 (a1.1:Int))/\H.I (Data.int .i64 ((c+a[i]+bi)/1048576))=H.I (Data.int .i64 a1.2.1)/\some (0,aQ aG (o.set i ((c+a[i]+bi)%1048576)))=some (0,aQ aG a1.2.2):=by
   intro bi Ac kW Cd;refine⟨(i+1,(c+a[i]+bi)/1048576,o.set i ((c+a[i]+bi)%1048576)),by dsimp only;omega,by dsimp only;omega,by simp[a4],?_,by dsimp only;omega,by dsimp only;omega,?_,rfl,rfl,rfl⟩
   ·dsimp only;rw[aar _ (by simpa using sy),Cb];refine⟨gN,?_⟩;simp only[yv];omega
   ·dsimp only;rw[kZ _ _ (by simpa using sy),Cb,kZ a i an,Cd,mY];simp only[yv];exact aaw _ _ _ _ _ _ _ jy
  rcases dt (i<D b) with qG|Tq
  ·have tQ:b[i]?=some b[i]:=bc qG;have eI:=k0 I5 i qG;have nN:IntKind.i64.wrap (c+a[i]+b[i])=c+a[i]+b[i]:=wrap64 _ (by omega) (by omega);have jB:decide ((i:Int)<(D b:Int))=true:=c5;have m1:decide ((i:Int)<(D a:Int))=true:=c5;refine af ?_;repeat' (intro (ag:_=_)<;>simp only[ag,go_sem,go_sem_proc,fo,aq,F,bt,qF,Tp,To,bx,hm,pL,tQ,gn,mw,nN,jB,m1,an,k1,iK,yl,u6,aG,dL,ah,bd,bj,show i<D a+1 by omega,show ¬ ((20:Int)<0) by omega]<;>try refine ab ?_ ?_)
   exact fin b[i] eI.1 eI.2 (kZ b i qG)
  ·have jB:decide ((i:Int)<(D b:Int))=false:=de;have m1:decide ((i:Int)<(D a:Int))=true:=c5;refine af ?_;repeat' (intro (ag:_=_)<;>simp only[ag,go_sem,go_sem_proc,fo,aq,F,bt,qF,Tp,To,bx,hm,pL,gn,mw,jB,m1,an,k1,iK,yl,u6,aG,dL,ah,bd,bj,show i<D a+1 by omega,show ¬ ((20:Int)<0) by omega]<;>try refine ab ?_ ?_)
   have:=fin 0 (by omega) (by omega) (by rw[dE (by omega),dE (by omega)];simp)
   simpa using this
 ·obtain rfl:i=D a:=by omega
  have m1:decide ((D a:Int)<(D a:Int))=false:=de;have sy:(D a)<D o:=by omega
  have k1:(D a)+1<=(aQ aG o).length:=by rw[pK];omega
  have iK:=λd=>wM o (D a) d sy
  have Tr:eO (o.set (D a) c):=by
   have:o.set (D a) c=(o.set (D a) c).take (D a+1):=by rw[dE (by simp[a4])]
   rw[this,aar _ (by simpa using sy),Cb];refine⟨gN,?_⟩;simp only[yv];omega
  have Ts:a7 (o.set (D a) c)=x+y:=by
   have:o.set (D a) c=(o.set (D a) c).take (D a+1):=by rw[dE (by simp[a4])]
   rw[this,kZ _ _ (by simpa using sy),Cb];simp only[yv];rw[jy,dE (c8 _),dE qE,al]
  have fm:=Ti (o.set (D a) c) 172019 0 (aT mem 172019 0 (aQ aG (o.set (D a) c))) (by simp[aT]) (by simp[a4];omega);rw[fj,a4] at fm;have e8:=Tk (mem:=aT mem 172019 0 (aQ aG (o.set (D a) c))) (k:=172019) (g:=0) (n:=x+y) (by simp[aT]) Tr (by rw[Ts];rfl);refine af ?_;repeat' (intro (ag:_=_)<;>simp only[ag,go_sem,go_sem_proc,fo,aq,F,bt,qF,Tp,To,bx,hm,m1,k1,iK,fm,e8,dL,ah,show (D a)<D a+1 by omega]<;>try refine ab ?_ ?_)
def aay (n:Int):bits .and .i64 (n/1048576) 1=n/1048576%2:=by
 generalize n/1048576=m;have G:(1:Int)=((2^1-1:Nat):Int):=by decide
 have F:m%18446744073709551616%2=m%2:=by omega
 obtain⟨a,ba⟩:∃a:Nat,(a:Int)=m%18446744073709551616:=⟨(m%18446744073709551616).toNat,by omega⟩
 have e:BitVec.ofInt 64 m=BitVec.ofNat 64 a:=by
  apply BitVec.eq_of_toInt_eq;rw[BitVec.toInt_ofInt,BitVec.toInt_ofNat',ba];simp[ZP,ZQ]
 have ax:bits .and .i64 m 1=bits .and .i64 (a:Int) 1:=by
  simp only[bits];rw[show IntKind.i64.bits=64 from rfl,e,BitVec.ofInt_natCast]
 rw[ax,<-F,<-ba];have Su:a<2^64:=by omega
 conv=>lhs;rw[G]
 simp only[bits,BitVec.ofInt_natCast,BitVec.toNat_and,BitVec.toNat_ofNat,show IntKind.i64.bits=64 from rfl,Is Su];rw[show (2^1-1:Nat)%2^64=2^1-1 by decide,ZR,wrap64 _ (by omega) (by omega)]
 omega
def Tt (o:List Int)(j:Nat)(d:Int)(h:j<D o):a7 (o.set j d)=a7 o+1048576^j*(d-o[j]):=by
 induction o generalizing j with
 |nil=>simp at h
 |cons x r a2 =>
  cases j with
  |zero=>simp[a7];omega
  |succ j =>
   simp only[List.set_cons_succ,so,List.getElem_cons_succ,mY];rw[a2 j (by simpa using h),h9,<-ia,nk 1048576 (1048576^j)];omega
def yw {o:List Int}(h:eO o)(j:Nat){d:Int}(ad:0<=d/\d<1048576):eO (o.set j d):=by
 intro x J;rcases List.mem_or_eq_of_mem_set J with F|F
 ·exact h x F
 ·rw[F];exact ad
def al0 (p vc tv q6 c a b:Int)(h:vc=tv-q6+p*c):vc+p*((a-c-b)%1048576)=tv+p*a-(q6+p*b)-p*1048576*((a-c-b)/1048576):=by
 have F:=Ab (a-c-b) 1048576
 have G:p*((a-c-b)%1048576)+p*1048576*((a-c-b)/1048576)=p*(a-c-b):=by
  rw[ia,<-h9,F]
 have aa:p*(a-c-b)=p*a-p*c-p*b:=by rw[E9,E9]
 omega
def I6:=bG mv λ(x,y)=>b8 ((aF x).length<=100000/\y<=x) (.own 1 ((aF (x-y)).map aG))
@[go_sem] def Tu (x y):=cj I6 rfl wN (x,y) rfl
def al1 (T:bg)(hJ:T wG=aE Aa)(fo:T pI=yg wJ tL):WF T Z9 I6:=by
 refine b5 λ(x,y)=>cn λU=>⟨rfl,b4 ?_⟩;simp only[Z9,mv,bV];obtain⟨J,aaz⟩:=U;have sx:=mr x;have qD:=mr y;have vb:=lr x;have Cc:=lr y
 have k2:(aF y).length<=(aF x).length:=by
  rw[fX];exact yx aaz (fX.1 (c8 _))
 generalize ba:aF x=a at *;generalize R:aF y=b at *;have nj:(D a)<=1000000:=by omega
 simp only[go_sem,go_sem_proc,hJ,fo,du,ba,R,nj,ah]
 refine cV [1,5,12] [] (λ(i,c,o) tm mem=>i<=D a/\(o:List Int).length=D a/\eO o/\o.drop i=a.drop i/\(c=0\/c=1)/\a7 (o.take i)=a7 (a.take i)-a7 (b.take i)+1048576^i*c/\tm 13=.I (.int .i64 (i:Nat))/\tm 6=.I (.int .i64 c)/\mem 173010=some (0,aQ aG o))
  (λ(i,_)=>D a-i) (0,0,a) (by refine⟨dF _,rfl,sx,rfl,.inl rfl,by simp[a7],?_,?_,?_⟩<;>rfl) ?_
 intro vs ms aI aD;simp only[go_sem,go_sem_proc,hJ,fo,du,ba,R,ah] at aI aD;subst aI aD;rintro⟨i,c,o⟩ tm mem Q-⟨Z,a4,gN,tR,al2,jy,jb,bx,hm⟩;simp only[go_sem,go_sem_proc,hJ,fo,bj] at Q;obtain⟨F,bt,eH⟩:=Q;rcases dt (i<D a) with an|bB
 ·have sy:i<D o:=by omega
  have al3:o[i]=a[i]:=by
   have F:=gw sy;have G:=gw an;rw[tR,G] at F;exact (Ce F).1.symm
  have zY:=k0 sx i an;have gn:IntKind.i64.wrap ((i:Int)+1)=((i+1:Nat):Int):=by rw[fJ _];rfl
  have k1:i+1<=(aQ aG o).length:=by rw[pK];omega
  have nO:=I3 o i sy;rw[al3] at nO;have mw:IntKind.i64.wrap (a[i]-c)=a[i]-c:=wrap64 _ (by omega) (by omega);have iK:=λd=>wM o i d sy
  have fin:∀bi:Int,0<=bi->bi<1048576->a7 (b.take (i+1))=a7 (b.take i)+1048576^i*bi ->
    ∃a1:Nat×Int×List Int,D a-a1.1<D a-i/\a1.1<=D a/\a1.2.2.length=D a/\eO a1.2.2/\a1.2.2.drop a1.1=a.drop a1.1/\(a1.2.1=0\/a1.2.1=1)/\a7 (a1.2.2.take a1.1)=a7 (a.take a1.1)-a7 (b.take a1.1)+1048576^a1.1*a1.2.1 /\
     H.I (Data.int .i64 ((i+1:Nat):Int))=H.I (Data.int .i64 (a1.1:Int))/\H.I (Data.int .i64 ((a[i]-c-bi)/1048576%2))=H.I (Data.int .i64 a1.2.1)/\some (0,aQ aG (o.set i ((a[i]-c-bi)%1048576)))=some (0,aQ aG a1.2.2):=by
   intro bi Ac kW Cd;have aS:(a[i]-c-bi)/1048576=0\/(a[i]-c-bi)/1048576 = -1:=by omega
   refine⟨(i+1,(a[i]-c-bi)/1048576%2,o.set i ((a[i]-c-bi)%1048576)),by dsimp only;omega,by dsimp only;omega,by simp[a4],yw gN i (by omega),?_,by dsimp only;omega,?_,rfl,rfl,rfl⟩
   ·dsimp only;rw[se (by omega)];have F:=gw sy;have G:=gw an;rw[tR,G] at F;exact (Ce F).2.symm
   ·dsimp only;rw[kZ _ _ (by simpa using sy),Cb,kZ a i an,Cd,mY];simp only[yv];rw[al0 _ _ _ _ _ _ _ jy];rcases aS with e|e<;>rw[e]<;>simp
  have m1:decide ((i:Int)<(D a:Int))=true:=c5;rcases dt (i<D b) with qG|Tq
  ·have tQ:b[i]?=some b[i]:=bc qG;have eI:=k0 qD i qG;have nN:IntKind.i64.wrap (a[i]-c-b[i])=a[i]-c-b[i]:=wrap64 _ (by omega) (by omega);have jB:decide ((i:Int)<(D b:Int))=true:=c5;refine af ?_;repeat' (intro h<;>simp only[h,go_sem,go_sem_proc,hJ,fo,F,bt,eH,jb,bx,hm,tQ,gn,mw,nN,jB,m1,an,k1,nO,iK,yl,aay,u6,aG,dL,ah,bd,bj,show ¬ ((20:Int)<0) by omega]<;>try refine ab ?_ ?_)
   exact fin b[i] eI.1 eI.2 (kZ b i qG)
  ·have jB:decide ((i:Int)<(D b:Int))=false:=de;refine af ?_;repeat' (intro h<;>simp only[h,go_sem,go_sem_proc,hJ,fo,F,bt,eH,jb,bx,hm,gn,mw,jB,m1,an,k1,nO,iK,yl,aay,u6,aG,dL,ah,bd,bj,show ¬ ((20:Int)<0) by omega]<;>try refine ab ?_ ?_)
   have:=fin 0 (by omega) (by omega) (by rw[dE (by omega),dE (by omega)];simp)
   simpa using this
 ·obtain rfl:i=D a:=by omega
  have m1:decide ((D a:Int)<(D a:Int))=false:=de;rw[dE (by omega),dE (by omega),dE (by omega),vb,Cc] at jy
  have Ts:a7 o=((x-y:Nat):Int):=by
   have F:=yi gN;rw[a4] at F;rcases al2 with rfl|rfl
   ·rw[jy];omega
   ·omega
  have fm:=Ti o 173010 0 mem hm (by omega);rw[a4] at fm;have e8:=Tk hm gN Ts;refine af ?_;repeat' (intro h<;>simp only[h,go_sem,go_sem_proc,hJ,fo,F,bt,eH,jb,bx,hm,m1,fm,e8,ah]<;>try refine ab ?_ ?_)
def aaA (p vc V c x y yy:Int)(h:vc+p*c=V):vc+p*((yy+x*y+c)%1048576-yy)+p*1048576*((yy+x*y+c)/1048576)=V+p*(x*y):=by
 have F:=Ab (yy+x*y+c) 1048576
 have G:p*((yy+x*y+c)%1048576)+p*1048576*((yy+x*y+c)/1048576)=p*(yy+x*y+c):=by
  rw[ia,<-h9,F]
 have aa:p*(yy+x*y+c)=p*yy+p*(x*y)+p*c:=by rw[h9,h9]
 rw[E9];omega
def aaB {o x y c:Int}(a4:0<=o/\o<1048576)(J:0<=x/\x<1048576)(ai:0<=y/\y<1048576)(U:0<=c/\c<1048576):
  0<=x*y/\x*y<=1099509530625/\0<=(o+x*y+c)/1048576/\(o+x*y+c)/1048576<1048576:=by
 have F:0<=x*y:=sA J.1 ai.1;have G:x*y<=1048575*1048575:=Tv (by omega) (by omega) ai.1 (by omega);omega
def aaC {o:List Int}{n j:Nat}(h:o.drop n=cf (D o-n) 0)(Y:n<=j)(an:j<D o):o[j]=0:=by
 have F:(o.drop n)[j-n]?=some o[j]:=by rw[oI,show n+(j-n)=j by omega,bc an]
 rw[h,List.getElem?_replicate] at F
 split at F
 ·exact (mm F).symm
 ·cases F
def aaD {o:List Int}{n:Nat}{d:Int}(h:o.drop n=cf (D o-n) 0)(an:n<D o):(o.set n d).drop (n+1)=cf ((o.set n d).length-(n+1)) 0:=by
 rw[se (by omega),fj];have F:=gw an;rw[h,show (D o)-n=(D o-(n+1))+1 by omega,qn] at F
 exact (Ce F).2.symm
def I7:=bG mv λ(x,y)=>b8 ((aF x).length<=10000/\(aF y).length<=10000) (.own 1 ((aF (x*y)).map aG))
@[go_sem] def Tw (x y):=cj I7 rfl wN (x,y) rfl
def al4 (T:bg)(fo:T pI=yg wJ tL):WF T Z7 I7:=by
 refine b5 λ(x,y)=>cn λU=>⟨rfl,b4 ?_⟩;simp only[Z7,mv,bV];obtain⟨J,ai⟩:=U;have sx:=mr x;have qD:=mr y;have vb:=lr x;have Cc:=lr y;generalize ba:aF x=a at *;generalize R:aF y=b at *;have m0:IntKind.i64.wrap ((D a:Int)+(D b:Int))=((D a+D b:Nat):Int):=by rw[fJ _];rfl
 have kW:8*(D a+D b)<=140737488355328:=by omega
 have eE:(D a)+D b<=maxLen:=E7 _ (by omega);simp only[go_sem,go_sem_proc,fo,du,ba,R,m0,kW,eE,E6,ah]
 refine cV [1,5,18,19] [] (λ(i,o) tm mem=>i<=D a/\(o:List Int).length=D a+D b/\eO o/\o.drop (i+D b)=cf (D o-(i+D b)) 0/\a7 o=a7 (a.take i)*y/\tm 20=.I (.int .i64 (i:Nat))/\mem 161017=some (0,aQ aG o))
  (λ(i,_)=>D a-i) (0,cf (D a+D b) 0) (by
   have a0:∀n,a7 (cf n 0)=0:=by
    intro n
    induction n with
    |zero=>rfl
    |succ n a2=>rw[qn,so,a2];rfl
   refine⟨dF _,by simp,λd ad=>by rw[pM] at ad;omega,by simp,by rw[a0];simp[a7],?_,?_⟩<;>rfl) ?_
 intro vs ms aI aD;simp only[go_sem,go_sem_proc,fo,du,ba,R,m0,ah] at aI aD;subst aI aD;rintro⟨i,o⟩ tm mem Q-⟨Z,a4,gN,nH,jy,qF,hm⟩;simp only[go_sem,go_sem_proc,fo,bj] at Q;obtain⟨F,bt,m2,sB⟩:=Q;rcases dt (i<D a) with an|bB
 ·have pL:a[i]?=some a[i]:=bc an;have zY:=k0 sx i an;have qx:=kZ a i an;generalize a[i]=hK at *;have jB:decide ((i:Int)<(D a:Int))=true:=c5;simp only[go_sem,go_sem_proc,fo,F,bt,m2,sB,qF,pL,jB,aG,ah,bd,bj]
  refine cV [1,5,6,7,18,19,20,25,26] [] (λ((k,c,o):Nat×Int×List Int) tm mem=>k<=D b/\D o=D a+D b/\eO o/\o.drop (i+D b)=cf (D o-(i+D b)) 0/\0<=c/\c<1048576/\a7 o+1048576^(i+k)*c=a7 (a.take i)*y+1048576^i*(hK*a7 (b.take k)) /\
    tm 27=.I (.int .i64 (k:Nat))/\tm 8=.I (.int .i64 c)/\mem 161017=some (0,aQ aG o))
   (λ(k,_)=>D b-k) (0,0,o) (by refine⟨dF _,a4,gN,nH,by omega,by omega,by simp[a7,jy],?_,?_,hm⟩<;>rfl) ?_
  intro vs ms aI aD;simp only[go_sem,go_sem_proc,fo,F,bt,m2,sB,qF,aG,ah] at aI aD;subst aI aD;rintro⟨k,c,o⟩ tm mem Q-⟨BE,a4,gN,nH,nM,iw,jy,nn,ca,hm⟩;simp only[go_sem,go_sem_proc,fo,bj] at Q;obtain⟨F,bt,bx,bK,m2,sB,qF,aaE,aaF⟩:=Q;rcases dt (k<D b) with I8|I8
  ·have tQ:b[k]?=some b[k]:=bc I8;have Fa:=k0 qD k I8;have oW:i+k<D o:=by omega
   have Tx:=k0 gN (i+k) oW;obtain⟨aW,bY,fI,fs⟩:=aaB Tx zY Fa ⟨nM,iw⟩;have jB:decide ((k:Int)<(D b:Int))=true:=c5;have gn:IntKind.i64.wrap ((k:Int)+1)=((k+1:Nat):Int):=by rw[fJ _];rfl
   have mw:IntKind.i64.wrap ((i:Int)+(k:Int))=((i+k:Nat):Int):=by rw[fJ _];rfl
   have nN:IntKind.i64.wrap (hK*b[k])=hK*b[k]:=wrap64 _ (by omega) (by omega);have Fb:IntKind.i64.wrap (o[i+k]+hK*b[k])=o[i+k]+hK*b[k]:=wrap64 _ (by omega) (by omega);have Ad:IntKind.i64.wrap (o[i+k]+hK*b[k]+c)=o[i+k]+hK*b[k]+c:=wrap64 _ (by omega) (by omega);have k1:i+k+1<=(aQ aG o).length:=by rw[pK];omega
   have nO:=I3 o (i+k) oW;have iK:=λd=>wM o (i+k) d oW;have hj:i+k<D a+D b:=by omega
   refine af ?_;repeat' (intro h<;>simp only[h,go_sem,go_sem_proc,fo,F,bt,bx,bK,m2,sB,qF,aaE,aaF,nn,ca,hm,tQ,jB,gn,mw,nN,Fb,Ad,hj,k1,nO,iK,yl,u6,aG,dL,ah,bd,bj,show ¬ ((20:Int)<0) by omega]<;>try refine ab ?_ ?_)
   refine⟨(k+1,(o[i+k]+hK*b[k]+c)/1048576,o.set (i+k) ((o[i+k]+hK*b[k]+c)%1048576)),by dsimp only;omega,by dsimp only;omega,by simp[a4],yw gN _ (by omega),?_,fI,fs,?_,rfl,rfl,rfl⟩
   ·dsimp only;rw[se (by omega),fj,nH]
   ·dsimp only;rw[Tt _ _ _ oW,kZ b k I8,<-r0,mY,aaA _ _ _ _ _ _ _ jy];rw[h9 (hK),h9 (1048576^i),aaG]
    have:(1048576:Int)^i*(hK*(1048576^k*b[k]))=1048576^i*1048576^k*(hK*b[k]):=by
     rw[<-ia (hK),nk (hK) (1048576^k),ia (1048576^k),<-ia]
    omega
  ·obtain rfl:k=D b:=by omega
   have jB:decide ((D b:Int)<(D b:Int))=false:=de;have oW:i+D b<D o:=by omega
   have a0:=aaC nH (c8 _) oW;have gn:IntKind.i64.wrap ((i:Int)+1)=((i+1:Nat):Int):=by rw[fJ _];rfl
   have mw:IntKind.i64.wrap ((i:Int)+(D b:Int))=((i+D b:Nat):Int):=by rw[fJ _];rfl
   have nN:IntKind.i64.wrap (0+c)=c:=by rw[Ty];exact wrap64 _ (by omega) (by omega)
   have k1:i+D b+1<=(aQ aG o).length:=by rw[pK];omega
   have nO:=I3 o (i+D b) oW;rw[a0] at nO;have iK:=λd=>wM o (i+D b) d oW;have hj:i+D b<D a+D b:=by omega
   refine af ?_;repeat' (intro h<;>simp only[h,go_sem,go_sem_proc,fo,F,bt,bx,bK,m2,sB,qF,aaE,aaF,nn,ca,hm,jB,gn,mw,nN,hj,k1,nO,iK,aG,dL,ah]<;>try refine ab ?_ ?_)
   refine⟨(i+1,o.set (i+D b) c),by dsimp only;omega,by dsimp only;omega,by simp[a4],yw gN _ ⟨nM,iw⟩,?_,?_,rfl,rfl⟩
   ·dsimp only;have:=aaD (d:=c) nH oW;rwa [show i+D b+1=i+1+(D b) by omega] at this
   ·dsimp only;rw[Tt _ _ _ oW,a0,qx];rw[dE (c8 _),Cc] at jy;rw[Ae,jy,sC,ia]
 ·obtain rfl:i=D a:=by omega
  have jB:decide ((D a:Int)<(D a:Int))=false:=de;rw[dE (c8 _),vb] at jy;have fm:=Ti o 161017 0 mem hm (by omega);rw[a4] at fm;have e8:=Tk hm gN (n:=x*y) (by rw[jy];rfl);refine af ?_;repeat' (intro h<;>simp only[h,go_sem,go_sem_proc,fo,F,bt,m2,sB,qF,hm,jB,fm,e8,ah]<;>try refine ab ?_ ?_)
abbrev NH:Nat×Int->List Data:=λ(x,d)=>[du x,.int .i64 d]
def NI:=bG NH λ(x,d)=>b8 ((aF x).length<=100000/\0<d/\d<1048576) (.same (.dp [du (x/d.toNat),.int .i64 (x%d.toNat:Nat)]))
def al5:∀a b,NH a=NH b->a=b:=by
  rintro⟨dz,d1⟩ ⟨dI,d2⟩ h;simp only[bj,du,Data.ao.injEq,Data.int.injEq] at h;exact cx (Iw (map_inj fW _ _ h.1)) h.2.1.2
@[go_sem] def aaH (x d):=cj NI rfl al5 (x,d) rfl
def al6 (T:bg)(fo:T pI=yg wJ tL):WF T aab NI:=by
 refine b5 λ(x,d)=>cn λU=>⟨rfl,b4 ?_⟩;simp only[aab,NH,bV];obtain⟨J,Fc,jY⟩:=U;have sx:=mr x;have vb:=lr x;generalize ba:aF x=a at *;have kW:8*D a<=140737488355328:=by omega
 have eE:(D a)<=maxLen:=E7 _ (by omega);have kH:(d=0)=False:=by simp;omega
 simp only[go_sem,go_sem_proc,fo,du,ba,kW,eE,E6,ah]
 refine cV [0,1,6] [] (λ((n,r,o):Nat×Int×List Int) tm mem=>n<=D a/\D o=D a/\eO o/\0<=r/\r<d/\a7 (a.drop n)=d*a7 (o.drop n)+r/\tm 8=.I (.int .i64 ((n:Nat)-1))/\tm 7=.I (.int .i64 r)/\mem 176011=some (0,aQ aG o))
  (λ(n,_)=>n) (D a,0,cf (D a) 0) (by
   refine⟨c8 _,by simp,λd ad=>by rw[pM] at ad;omega,by omega,by omega,by simp[a7],?_,?_,?_⟩
   ·simp only[q3,reduceIte];rw[fJ _]
   ·rfl
   ·rfl) ?_
 intro vs ms aI aD;simp only[go_sem,go_sem_proc,fo,du,ba,ah] at aI aD;subst aI aD;rintro⟨n,r,o⟩ tm mem Q-⟨aA,a4,gN,sD,np,al,ca,bK,hm⟩;simp only[go_sem,go_sem_proc,fo,bj] at Q;obtain⟨aq,F,bx⟩:=Q;rcases n with _|n
 ·have aS:a7 o=(x/d.toNat:Nat)/\r=(x%d.toNat:Nat):=by
   rw[pD,pD,vb] at al;have e:(d.toNat:Int)=d:=by omega
   constructor
   ·rw[aaI,e,al,yz,aaJ _ _ (by omega),Tz sD np];omega
   ·rw[aaK,e,al,yz,aaL,TA sD np]
  have dN:=NB o (by omega);rw[yj gN,aS.1] at dN;have ga:H.ref 176011 0 1 0 (D a)=H.ref 176011 0 1 0 (D o):=by rw[a4]
  rw[ga] at bx;refine af ?_;repeat' (intro h<;>simp only[h,go_sem,go_sem_proc,fo,aq,F,bx,bK,ca,hm,dN,sl jA,oe,oV,show ¬ ((0:Int)-1>=0) by omega,decide_false,lX]<;>try refine ab ?_ ?_)
  all_goals rw[aS.2]
 ·have pL:a[n]?=some a[n]:=bc (by omega);have NJ:=k0 sx n (by omega);have hw:((n+1:Nat):Int)-1=(n:Int):=by omega
  have h6:n<D o:=by omega
  have gn:IntKind.i64.wrap (r*2^min (BR 20) 64)=r*1048576:=by
   rw[show min (BR 20) 64=20 by decide]
   exact wrap64 _ (by omega) (by omega)
  have tS:bits .or .i64 (r*1048576) a[n]=r*1048576+a[n]:=Sv r a[n] sD (by omega) NJ;have lZ:0<=(r*1048576+a[n])/d:=TB (by omega) (by omega)
  have tT:(r*1048576+a[n])/d<1048576:=aaM Fc (by
   have:(r+1)*1048576<=d*1048576:=kI (by omega) (by omega);rw[nk 1048576 d];omega)
  have Af:(r*1048576+a[n]).tdiv d=(r*1048576+a[n])/d:=Fe (by omega);have TC:(r*1048576+a[n]).tmod d=(r*1048576+a[n])%d:=I9 (by omega);have mw:IntKind.i64.wrap ((r*1048576+a[n])/d)=(r*1048576+a[n])/d:=wrap64 _ (by omega) (by omega);have k1:n+1<=(aQ aG o).length:=by rw[pK];omega
  have iK:=λd=>wM o n d h6;have mn:n<D a:=by omega
  have nN:IntKind.i64.wrap ((n:Int)-1)=(n:Int)-1:=wrap64 _ (by omega) (by omega);refine af ?_;repeat' (intro h<;>simp only[h,go_sem,go_sem_proc,fo,aq,F,bx,bK,ca,hm,hw,pL,gn,tS,Af,TC,mw,nN,kH,mn,k1,iK,show (n:Int)>=0 by omega,decide_true,aG,dL,ah,bd,bj,show ¬ ((20:Int)<0) by omega]<;>try refine ab ?_ ?_)
  refine⟨(n,(r*1048576+a[n])%d,o.set n ((r*1048576+a[n])/d)),by dsimp only;omega,by dsimp only;omega,by simp[a4],yw gN n ⟨lZ,tT⟩,TD _ (by omega),TE _ Fc,?_,rfl,rfl,rfl⟩
  dsimp only;rw[gw (by omega:n<D a),gw (by simpa using h6:n<(o.set n ((r*1048576+a[n])/d)).length),so,so]
  simp only[yv];rw[se (by omega),al];have:=Ab (r*1048576+a[n]) d;rw[h9,h9,TF d 1048576];omega
def pad:Nat->Nat->List Int
 |0,_=>[]
 |n+1,x=>((x%1048576:Nat):Int)::pad n (x/1048576)
def al7 (n x:Nat):(pad n x).length=n:=by
 induction n generalizing x with
 |zero=>rfl
 |succ n a2=>simp[pad,a2]
def al8 (n x:Nat):eO (pad n x):=by
 induction n generalizing x with
 |zero=>intro d ad;cases ad
 |succ n a2 =>
  unfold pad;rw[BO];exact⟨by omega,a2 _⟩
def aaN {l:List Int}(h:eO l):l=pad (D l) (a7 l).toNat:=by
 induction l with
 |nil=>rfl
 |cons d r a2 =>
  rw[BO] at h;have F:=ob h.2;have G:=a2 h.2;simp only[lQ,pad,so]
  congr 1
  ·omega
  ·rw[show (d+1048576*a7 r).toNat/1048576=(a7 r).toNat by omega]
   exact G
def al9 {n x:Nat}(h:x<1048576^n):a7 (pad n x)=x:=by
 induction n generalizing x with
 |zero=>simp at h;subst h;rfl
 |succ n a2 =>
  unfold pad;rw[so,a2 (by rw[ZO (by omega)];rwa [z4] at h)];omega
def Ja {pre u post:List Int}{i:Nat}(h:i<D u):mZ 1 (nL (D pre+i) (aQ aG (pre++u++post)))=[.I (.int .i64 u[i])]:=by
 rw[I3 _ _ (by simp;omega)]
 congr 3
 simp[List.getElem_append,h]
def aaO {pre u post:List Int}{i:Nat}(h:i<D u)(d:Int):mZ (D pre+i) (aQ aG (pre++u++post))++[.I (.int .i64 d)]++nL (D pre+i+1) (aQ aG (pre++u++post))=aQ aG (pre++u.set i d++post):=by
 rw[wM _ _ _ (by simp;omega)]
 congr 1
 rw[ki,List.set_append_right _ _ (by omega),EG,List.set_append_left _ _ h,ki]
def NK (mem:Mem)(k g cv:Nat)(a b:List H):aT (aT mem k g a) k cv b=aT mem k cv b:=by
 funext j
 unfold aT
 split<;>rfl
def ama {mem:Mem}{k g:Nat}{a:List H}(h:mem k=some (g,a)):aT mem k g a=mem:=by
 funext j
 unfold aT
 split
 ·rename_i e;rw[e,h]
 ·rfl
structure Jb where
 pre:List Int
 u:List Int
 post:List Int
 V:Nat
 q:Int
 k:Key
 g:Nat
def NL (u:List Int)(V:Nat)(q:Int):Int:=if a7 u-q*V<0 then a7 u-q*V+V else a7 u-q*V
def Ag (u:List Int)(V:Nat)(q:Int):Int:=if a7 u-q*V<0 then q-1 else q
def Ah (a:Jb):List H:=aQ aG (a.pre++pad (D a.u) (NL a.u a.V a.q).toNat++a.post)
def TG (a:Jb)(mem:Mem):Prop:=mem a.k=some (a.g,aQ aG (a.pre++a.u++a.post))/\eO a.u/\(aF a.V).length<=D a.u/\0<=a.q/\a.q<1048576/\0<=a7 a.u-a.q*a.V+a.V/\D a.pre+D a.u<=100000
def Jc:List H->Mem->Option (H×Mem):=EI (λ(a:Jb) args mem=>args=[.ref a.k a.g 1 (D a.pre) (D a.u),.I (du a.V),.I (.int .i64 a.q)]/\TG a mem)
 (λa mem=>(.I (.int .i64 (Ag a.u a.V a.q)),aT mem a.k a.g (Ah a)))
def amb {a b:Nat}(h:du a=du b):a=b:=Iw (map_inj fW _ _ (by simpa [du] using h))
def amc (a:Jb)(mem:Mem)(h:TG a mem):Jc [.ref a.k a.g 1 (D a.pre) (D a.u),.I (du a.V),.I (.int .i64 a.q)] mem=some (.I (.int .i64 (Ag a.u a.V a.q)),aT mem a.k a.g (Ah a)):=by
 unfold Jc;refine ZJ (a:=a) ?_ ⟨rfl,h⟩;rintro a b args mem ⟨F,G,_⟩ ⟨aa,aX,_⟩;rw[F] at aa;simp only[bj,H.ref.injEq,H.I.injEq,Data.int.injEq,true_and,and_true] at aa;obtain⟨⟨IZ,NC,aaP,aaQ⟩,aaR,eq⟩:=aa;have aaS:=amb aaR;clear aaR;obtain⟨pre,u,post,V,q,k,g⟩:=a;obtain⟨azr,yA,azs,azt,TH,k',cv⟩:=b;simp only at IZ NC aaP aaQ aaS eq G aX;subst IZ NC aaS eq;rw[aX] at G;simp only[bM,eL,true_and] at G;have e:=Tg jA fW _ _ G (by omega);rw[ki,ki] at e;obtain⟨aO,ax⟩:=Th e aaP.symm;obtain⟨eS,iA⟩:=Th ax aaQ.symm;subst aO eS iA
 rfl
def amd (p vc tv q6 c a b q:Int)(h:vc=tv-q*q6+p*c):vc+p*((a-c-q*b)%1048576)=tv+p*a-q*(q6+p*b)+p*1048576*(-((a-c-q*b)/1048576)):=by
 have F:=Ab (a-c-q*b) 1048576
 have G:p*((a-c-q*b)%1048576)+p*1048576*((a-c-q*b)/1048576)=p*(a-c-q*b):=by
  rw[ia,<-h9,F]
 have aa:p*(a-c-q*b)=p*a-p*c-p*(q*b):=by rw[E9,E9]
 have aX:q*(q6+p*b)=q*q6+p*(q*b):=by rw[h9,TF]
 rw[Ff];omega
def aaT {a c q b:Int}(ba:0<=a/\a<1048576)(U:0<=c/\c<=1048576)(aS:0<=q/\q<1048576)(R:0<=b/\b<1048576):
  0<=q*b/\q*b<=1099509530625/\0 <= -((a-c-q*b)/1048576) /\ -((a-c-q*b)/1048576)<=1048576:=by
 have F:0<=q*b:=sA aS.1 R.1;have G:q*b<=1048575*1048575:=Tv (by omega) (by omega) R.1 (by omega);omega
def ame (T:bg)(a:Jb)(hl:Mem)(U:TG a hl):
  wp T Nz.body (EH Nz.res (.I (.int .i64 (Ag a.u a.V a.q))) (aT hl a.k a.g (Ah a))) ⟨ke [.ref a.k a.g 1 (D a.pre) (D a.u),.I (du a.V),.I (.int .i64 a.q)],hl⟩:=by
 obtain⟨pre,u,post,V,q,k,g⟩:=a;obtain⟨oK,tU,Bq,lZ,tT,oh,hlen⟩:=U;simp only at oK tU Bq lZ tT oh hlen ⊢;have oi:=mr V;have aaU:=lr V;have TI:=fX.1 Bq;refine xX ?_;simp only[Nz];simp only[go_sem,go_sem_proc,du];generalize R:aF V=v at *
 refine cV [0,1,2,13] [] (λ((i,c,w):Nat×Int×List Int) tm mem=>i<=D u/\D w=D u/\eO w/\w.drop i=u.drop i/\(0<=c/\c<=1048576)/\a7 (w.take i)=a7 (u.take i)-q*a7 (v.take i)+1048576^i*c/\tm 14=.I (.int .i64 (i:Nat))/\tm 7=.I (.int .i64 c)/\mem=aT hl k g (aQ aG (pre++w++post)))
  (λ(i,_)=>D u-i) (0,0,u) (by refine⟨dF _,rfl,tU,rfl,by omega,by simp[a7],rfl,rfl,(ama oK).symm⟩) ?_
 intro vs ms aI aD;simp only[go_sem,go_sem_proc] at aI aD;subst aI aD;rintro⟨i,c,w⟩ tm _ Q-⟨Z,hw,qH,tR,U,jy,Ai,bK,rfl⟩;simp only[go_sem,go_sem_proc,bj] at Q;obtain⟨aq,F,G,jb⟩:=Q;rcases dt (i<D u) with an|bB
 ·have wO:i<D w:=by omega
  have amf:w[i]=u[i]:=by
   have F:=gw wO;rw[tR,gw an] at F;exact (Ce F).1.symm
  have Jd:w.drop (i+1)=u.drop (i+1):=by
   have F:=gw wO;rw[tR,gw an] at F;exact (Ce F).2.symm
  have nO:=Ja (pre:=pre) (post:=post) wO;rw[amf] at nO;have aaV:=k0 tU i an;have qx:=kZ u i an;generalize u[i]=tV at *;have gn:IntKind.i64.wrap ((i:Int)+1)=((i+1:Nat):Int):=by rw[fJ _];rfl
  have mw:IntKind.i64.wrap (tV-c)=tV-c:=wrap64 _ (by omega) (by omega);have k1:(D pre)+i+1<=(aQ aG (pre++w++post)).length:=by rw[pK];simp;omega
  have iK:=λd=>aaO (pre:=pre) (post:=post) wO d;have m1:decide ((i:Int)<(D u:Int))=true:=c5
  have fin:∀bi:Int,0<=bi->bi<1048576->a7 (v.take (i+1))=a7 (v.take i)+1048576^i*bi ->
    ∃a1:Nat×Int×List Int,D u-a1.1<D u-i/\a1.1<=D u/\a1.2.2.length=D u/\eO a1.2.2/\a1.2.2.drop a1.1=u.drop a1.1/\(0<=a1.2.1/\a1.2.1<=1048576)/\a7 (a1.2.2.take a1.1)=a7 (u.take a1.1)-q*a7 (v.take a1.1)+1048576^a1.1*a1.2.1 /\
     H.I (Data.int .i64 ((i+1:Nat):Int))=H.I (Data.int .i64 (a1.1:Int))/\H.I (Data.int .i64 (-((tV-c-q*bi)/1048576)))=H.I (Data.int .i64 a1.2.1)/\aT hl k g (aQ aG (pre++w.set i ((tV-c-q*bi)%1048576)++post))=aT hl k g (aQ aG (pre++a1.2.2++post)):=by
   intro bi Ac kW Cd;obtain⟨aW,bY,fI,fs⟩:=aaT aaV U ⟨lZ,tT⟩ ⟨Ac,kW⟩;refine⟨(i+1,-((tV-c-q*bi)/1048576),w.set i ((tV-c-q*bi)%1048576)),by dsimp only;omega,by dsimp only;omega,by simp[hw],yw qH i (by omega),?_,⟨fI,fs⟩,?_,rfl,rfl,rfl⟩
   ·dsimp only;rw[se (by omega),Jd]
   ·dsimp only;rw[kZ _ _ (by simpa using wO),Cb,qx,Cd,mY];simp only[yv];exact amd _ _ _ _ _ _ _ _ jy
  rcases dt (i<D v) with qG|Tq
  ·have tQ:v[i]?=some v[i]:=bc qG;have eI:=k0 oi i qG;have TJ:=kZ v i qG;generalize v[i]=bi at *;obtain⟨aW,bY,fI,fs⟩:=aaT aaV U ⟨lZ,tT⟩ eI;have nN:IntKind.i64.wrap (q*bi)=q*bi:=wrap64 _ (by omega) (by omega);have Fb:IntKind.i64.wrap (tV-c-q*bi)=tV-c-q*bi:=wrap64 _ (by omega) (by omega);have Ad:IntKind.i64.wrap (0-(tV-c-q*bi)/1048576) = -((tV-c-q*bi)/1048576):=by rw[fJ _];omega
   have jB:decide ((i:Int)<(D v:Int))=true:=c5;refine af ?_;repeat' (intro (ag:_=_)<;>simp only[ag,go_sem,go_sem_proc,aq,F,G,jb,Ai,bK,tQ,gn,mw,nN,Fb,Ad,jB,m1,an,k1,nO,iK,NK,yl,u6,aG,dL,ah,bd,bj,show ¬ ((20:Int)<0) by omega]<;>try refine ab ?_ ?_)
   exact fin bi eI.1 eI.2 TJ
  ·have jB:decide ((i:Int)<(D v:Int))=false:=de;have Ad:IntKind.i64.wrap (0-(tV-c)/1048576) = -((tV-c)/1048576):=by rw[fJ _];omega
   refine af ?_;repeat' (intro (ag:_=_)<;>simp only[ag,go_sem,go_sem_proc,aq,F,G,jb,Ai,bK,gn,mw,Ad,jB,m1,an,k1,nO,iK,NK,yl,u6,aG,dL,ah,bd,bj,show ¬ ((20:Int)<0) by omega]<;>try refine ab ?_ ?_)
   have:=fin 0 (by omega) (by omega) (by rw[dE (by omega),dE (by omega)];simp);simp only[wP,Ae] at this;exact this
 ·obtain rfl:i=D u:=by omega
  have m1:decide ((D u:Int)<(D u:Int))=false:=de;rw[dE (by omega),dE (by omega),dE (by omega),aaU] at jy;have amg:=yi qH;have azu:=ob qH;rw[hw] at amg
  have azv:(V:Int)<1048576^(D u):=by
   have h:=Int.ofNat_lt.2 TI;rw[Cf] at h;exact h
  by_cases nM:c=0
  ·subst nM;have TK:a7 u-q*V=a7 w:=by omega
   have aO:Ag u V q=q:=by unfold Ag;rw[aR (by omega)]
   have ax:Ah ⟨pre,u,post,V,q,k,g⟩=aQ aG (pre++w++post):=by
    unfold Ah NL;simp only;rw[aR (by omega),TK,<-hw,<-aaN qH]
   refine af ?_;repeat' (intro (ag:_=_)<;>simp only[ag,go_sem,go_sem_proc,aq,F,G,jb,Ai,bK,m1,aO,ax,beq_self_eq_true]<;>try refine ab ?_ ?_)
  ·have amh:(c==0)=false:=by simpa using nM
   have Fg:(1048576:Int)^(D u)<=1048576^(D u)*c:=by
    have:(1048576:Int)^(D u)*1<=1048576^(D u)*c:=tO (by omega) (by omega);omega
   have l0:a7 u-q*V<0:=by omega
   have TL:IntKind.i64.wrap (q-1)=q-1:=wrap64 _ (by omega) (by omega);simp only[go_sem,go_sem_proc,aq,F,G,jb,Ai,bK,m1,amh]
   refine cV [0,1,2,48] [] (λ((i,d,z):Nat×Int×List Int) tm mem=>i<=D u/\D z=D u/\eO z/\z.drop i=w.drop i/\(0<=d/\d<=1)/\a7 (z.take i)+1048576^i*d=a7 (w.take i)+a7 (v.take i)/\tm 49=.I (.int .i64 (i:Nat))/\tm 10=.I (.int .i64 d)/\mem=aT hl k g (aQ aG (pre++z++post)))
    (λ(i,_)=>D u-i) (0,0,w) (by refine⟨dF _,hw,qH,rfl,by omega,by simp[a7],rfl,rfl,rfl⟩) ?_
   intro vs ms aI aD;simp only[go_sem,go_sem_proc,aq,F,G] at aI aD;subst aI aD;rintro⟨i,d,z⟩ tm _ Q-⟨Z,a0,NM,tR,ad,aaW,TM,dy,rfl⟩;simp only[go_sem,go_sem_proc,bj] at Q;obtain⟨aq,F,G,TN⟩:=Q;rcases dt (i<D u) with an|bB
   ·have Je:i<D z:=by omega
    have wO:i<D w:=by omega
    have ami:z[i]=w[i]:=by
     have F:=gw Je;rw[tR,gw wO] at F;exact (Ce F).1.symm
    have amj:z.drop (i+1)=w.drop (i+1):=by
     have F:=gw Je;rw[tR,gw wO] at F;exact (Ce F).2.symm
    have nO:=Ja (pre:=pre) (post:=post) Je;rw[ami] at nO;have Jf:=k0 qH i wO;have qx:=kZ w i wO;generalize w[i]=Aj at *;have gn:IntKind.i64.wrap ((i:Int)+1)=((i+1:Nat):Int):=by rw[fJ _];rfl
    have mw:IntKind.i64.wrap (d+Aj)=d+Aj:=wrap64 _ (by omega) (by omega);have k1:(D pre)+i+1<=(aQ aG (pre++z++post)).length:=by rw[pK];simp;omega
    have iK:=λd=>aaO (pre:=pre) (post:=post) Je d;have m1:decide ((i:Int)<(D u:Int))=true:=c5
    have fin:∀bi:Int,0<=bi->bi<1048576->a7 (v.take (i+1))=a7 (v.take i)+1048576^i*bi ->
      ∃a1:Nat×Int×List Int,D u-a1.1<D u-i/\a1.1<=D u/\a1.2.2.length=D u/\eO a1.2.2/\a1.2.2.drop a1.1=w.drop a1.1/\(0<=a1.2.1/\a1.2.1<=1)/\a7 (a1.2.2.take a1.1)+1048576^a1.1*a1.2.1=a7 (w.take a1.1)+a7 (v.take a1.1) /\
       H.I (Data.int .i64 ((i+1:Nat):Int))=H.I (Data.int .i64 (a1.1:Int))/\H.I (Data.int .i64 ((d+Aj+bi)/1048576))=H.I (Data.int .i64 a1.2.1)/\aT hl k g (aQ aG (pre++z.set i ((d+Aj+bi)%1048576)++post))=aT hl k g (aQ aG (pre++a1.2.2++post)):=by
     intro bi Ac kW Cd;refine⟨(i+1,(d+Aj+bi)/1048576,z.set i ((d+Aj+bi)%1048576)),by dsimp only;omega,by dsimp only;omega,by simp[a0],yw NM i (by omega),?_,by dsimp only;omega,?_,rfl,rfl,rfl⟩
     ·dsimp only;rw[se (by omega),amj]
     ·dsimp only;rw[kZ _ _ (by simpa using Je),Cb,qx,Cd,mY];simp only[yv];exact aaw _ _ _ _ _ _ _ aaW
    rcases dt (i<D v) with qG|Tq
    ·have tQ:v[i]?=some v[i]:=bc qG;have eI:=k0 oi i qG;have TJ:=kZ v i qG;generalize v[i]=bi at *;have nN:IntKind.i64.wrap (d+Aj+bi)=d+Aj+bi:=wrap64 _ (by omega) (by omega);have jB:decide ((i:Int)<(D v:Int))=true:=c5;refine af ?_;repeat' (intro (ag:_=_)<;>simp only[ag,go_sem,go_sem_proc,aq,F,G,TN,TM,dy,tQ,gn,mw,nN,jB,m1,an,k1,nO,iK,NK,yl,u6,aG,dL,ah,bd,bj,show ¬ ((20:Int)<0) by omega]<;>try refine ab ?_ ?_)
     exact fin bi eI.1 eI.2 TJ
    ·have jB:decide ((i:Int)<(D v:Int))=false:=de;refine af ?_;repeat' (intro (ag:_=_)<;>simp only[ag,go_sem,go_sem_proc,aq,F,G,TN,TM,dy,gn,mw,jB,m1,an,k1,nO,iK,NK,yl,u6,aG,dL,ah,bd,bj,show ¬ ((20:Int)<0) by omega]<;>try refine ab ?_ ?_)
     have:=fin 0 (by omega) (by omega) (by rw[dE (by omega),dE (by omega)];simp);simp only[Jg] at this;exact this
   ·obtain rfl:i=D u:=by omega
    have m1:decide ((D u:Int)<(D u:Int))=false:=de;rw[dE (by omega),dE (by omega),dE (by omega),aaU] at aaW;have amk:=yi NM;have azw:=ob NM;rw[a0] at amk
    have TK:a7 u-q*V+V=a7 z:=by
     have e:a7 u-q*V+V-a7 z=1048576^(D u)*(d-c):=by rw[E9];omega
     generalize (1048576:Int)^(D u)=p at *;rcases oX (d-c) 0 with h|h|h
     ·have:p*(d-c)<=p*(-1):=tO (by omega) (by omega);omega
     ·rw[h,wP] at e;omega
     ·have:p*1<=p*(d-c):=tO (by omega) (by omega);omega
    have aO:Ag u V q=q-1:=by unfold Ag;rw[aJ l0]
    have ax:Ah ⟨pre,u,post,V,q,k,g⟩=aQ aG (pre++z++post):=by
     unfold Ah NL;simp only;rw[aJ l0,TK,<-a0,<-aaN NM]
    refine af ?_;repeat' (intro (ag:_=_)<;>simp only[ag,go_sem,go_sem_proc,aq,F,G,TN,TM,dy,m1,aO,ax,TL]<;>try refine ab ?_ ?_)
def aml {T V P wQ Fh v1 v2 top gH q r:Int}(oR:V=(v1*1048576+v2)*P+wQ)(cu:T=(top*1048576+gH)*P+Fh)(dU:0<P)(aaX:0<=wQ)(NN:Fh<P)(lZ:0<=q)(amm:0<=V)
  (TO:T<1048576*V) (Cg:q*v1+r=top) (U:q>=1048576\/q*v2>r*1048576+gH):T<q*V:=by
 rcases U with h|h
 ·have:=kI h amm;omega
 ·have F:(top*1048576+gH+1)*P<=(q*(v1*1048576+v2))*P:=by
   refine kI ?_ (by omega);rw[h9,<-ia];have:q*v1*1048576=(top-r)*1048576:=by rw[<-Cg];congr 1;omega
   omega
  have G:q*V=(q*(v1*1048576+v2))*P+q*wQ:=by rw[oR,h9,<-ia]
  have aa:0<=q*wQ:=sA lZ aaX;rw[sC _ 1,oj] at F;omega
def aaY {T V P wQ Fh v1 v2 top gH q r:Int}(oR:V=(v1*1048576+v2)*P+wQ)(cu:T=(top*1048576+gH)*P+Fh)(dU:0<P)(aaX:0<=wQ/\wQ<P)(NN:0<=Fh)(lZ:0<=q)(tT:q<1048576)(tw:524288<=v1)(nE:0<=v2/\v2<1048576)(YC:0<=gH)
  (Cg:q*v1+r=top) (U:r>=1048576\/q*v2<=r*1048576+gH):0<=T-q*V+V:=by
 have G:q*V=(q*(v1*1048576+v2))*P+q*wQ:=by rw[oR,h9,<-ia]
 have aa:q*wQ<=q*P:=tO (by omega) lZ;have aX:q*P<=1048576*P:=kI (by omega) (by omega);have bt:1048576*P<=(v1*1048576+v2)*P:=kI (by omega) (by omega);have e:q*v1*1048576=(top-r)*1048576:=by rw[<-Cg];congr 1;omega
 rcases U with h|h
 ·have bx:q*v2+q<=1048576*1048576:=by
   have bK:q*(v2+1)<=1048576*1048576:=Tv (by omega) (by omega) (by omega) (by omega);rw[h9,qB] at bK;exact bK
  have ca:(q*(v1*1048576+v2)+q)*P<=(top*1048576+gH)*P:=by
   refine kI ?_ (by omega);rw[h9,<-ia];omega
  rw[sC _ q] at ca;omega
 ·have ca:(q*(v1*1048576+v2))*P<=(top*1048576+gH)*P:=by
   refine kI ?_ (by omega);rw[h9,<-ia];omega
  omega
def amn {T V q:Int}(oR:0<V)(F:T<(q+1)*V)(G:0<=T-q*V+V):(if T-q*V<0 then q-1 else q)=T/V/\(if T-q*V<0 then T-q*V+V else T-q*V)=T%V:=by
 have aa:(q+1)*V=q*V+V:=by rw[sC,oj]
 have aX:(q-1)*V=q*V-V:=by rw[aaZ,oj]
 have key:∀d r:Int,T=d*V+r->0<=r->r<V->d=T/V/\r=T%V:=by
  intro d r h aq bt
  constructor
  ·rw[h,yz,Int.add_mul_ediv_right _ _ (by omega),Tz aq bt];omega
  ·rw[h,yz,Int.add_mul_emod_self_right,TA aq bt]
 split
 ·exact key (q-1) _ (by omega) (by omega) (by omega)
 ·exact key q _ (by omega) (by omega) (by omega)
def aa0 {v:List Int}{N:Nat}(h:(D v)=N+2):a7 v=(v[N+1]*1048576+v[N])*1048576^N+a7 (v.take N):=by
 have e:v=v.take (N+1+1):=by rw[dE (by omega)]
 conv=>lhs;rw[e]
 rw[kZ v (N+1) (by omega),kZ v N (by omega),mY,sC,nk (v[N]),Ak (v[N+1]),nk (v[N+1])];have:(1048576:Int)^N*1048576*v[N+1]=1048576^N*v[N+1]*1048576:=by rw[Ak]
 omega
def amo {v:List Int}{N:Nat}(h:(D v)=N+3):a7 v=((v[N+2]*1048576+v[N+1])*1048576+v[N])*1048576^N+a7 (v.take N):=by
 have e:v=v.take (N+1+1+1):=by rw[dE (by omega)]
 conv=>lhs;rw[e]
 rw[kZ v (N+1+1) (by omega),kZ v (N+1) (by omega),kZ v N (by omega)];simp only[mY];generalize (1048576:Int)^N=p;rw[sC,sC,sC,Ak (v[N+2]*1048576),Ak (v[N+2]),nk (v[N+2]),Ak (v[N+1]),nk (v[N+1]),nk (v[N])];have F:p*1048576*v[N+1]=p*v[N+1]*1048576:=by rw[Ak]
 have G:p*1048576*1048576*v[N+1+1]=p*v[N+2]*1048576*1048576:=by rw[Ak,Ak p]
 omega
def amp {u:List Int}{i n:Nat}{V:Int}(ad:eO u)(ae:i+n+1<=D u)(ec:a7 (u.drop (i+1))<V)(oR:V<1048576^n):
  ∃pre fP post,u=pre++fP++post/\D pre=i/\D fP=n+1/\eO pre/\eO fP/\eO post/\a7 post=0/\∃cq,fP[0]?=some cq/\u.take (i+1)=pre++[cq]/\a7 fP=cq+1048576*a7 (u.drop (i+1))/\0<=a7 (u.drop (i+1))/\0<=cq/\cq<1048576:=by
 have e:u=u.take i++(u.drop i).take (n+1)++u.drop (i+n+1):=by
  rw[ki,r0,<-x2,Im,Im]
 have aa1:=e ▸ ad;rw[BP,BP] at aa1;obtain⟨⟨d1,d2⟩,d3⟩:=aa1;have an:i<D u:=by omega
 have tR:=gw an;have NO:((u.drop i).take (n+1)).length=n+1:=by simp;omega
 have aa2:a7 (u.drop (i+1))=a7 ((u.drop (i+1)).take n)+1048576^n*a7 (u.drop (i+n+1)):=by
  have:=Iy (u.drop (i+1)) n;rw[pG,n7 (by omega),x2] at this;rw[this]
  congr 3
  rw[show i+1+n=i+n+1 by omega]
 have aP:=ob d3;have bL:0<=a7 ((u.drop (i+1)).take n):=ob (λx J=>ad x (Fi (Eh J)))
 have wR:a7 (u.drop (i+n+1))=0:=by
  rcases dt (0<a7 (u.drop (i+n+1))) with h|h
  ·have:(1048576:Int)^n*1<=1048576^n*a7 (u.drop (i+n+1)):=tO (by omega) (Int.pow_nonneg (by omega));omega
  ·omega
 refine⟨_,_,_,e,by simp;omega,NO,d1,d2,d3,wR,u[i],?_,?_,?_,?_,(k0 ad i an).1,(k0 ad i an).2⟩
 ·rw[x5 (by omega),oI];simp[an]
 ·rw[hn,bc an];rfl
 ·rw[tR,Ez,so,aa2,wR];simp
 ·rw[aa2,wR];simpa using bL
def amq (l:List Int)(h:(D l)<=1000000):lf 157054 0 1 (D l) 8 1 [.I (.int .i64 0)] (some (0,((l.map aG).flatten.map H.I)))=some (.ref 157054 1 1 0 (D l+1),some (157054,1,aQ aG (l++[0]))) :=
 lq jA wF 157054 0 8 l 0 rfl (by omega) (by omega)
def Jh:=bG mv λ(x,y)=>b8 ((aF x).length<=1000/\(aF y).length<=1000/\0<y) (.same (.dp [du (x/y),du (x%y)]))
@[go_sem] def aa3 (x y):=cj Jh rfl wN (x,y) rfl
def amr (T:bg)(jC:T BX=aE E8)(hJ:T wG=aE Aa)(om:T No=aE NI)(fo:T pI=yg wJ tL)(mx:T ER=aE I7)(oo:T SK=z3 Jc):WF T Z3 Jh:=by
 refine b5 λ(x,y)=>cn λU=>⟨rfl,b4 ?_⟩;simp only[Z3,mv,bV];obtain⟨J,ai,hL⟩:=U;have mo:(aF x).length<=1000000/\(aF y).length<=1000000:=by omega
 have Al:=Tl x y mo;have q5:(aF x).length<=1000000:=by omega
 by_cases hk:x<y
 ·have Ch:gb x y = -1:=by unfold gb;rw[aJ (by simpa using hk)]
  have ea:=alR (aF x) q5;rw[Ch] at Al
  change Aa [du x]=_ at ea
  refine af ?_;repeat' (intro (ag:_=_)<;>simp only[ag,go_sem,go_sem_proc,jC,hJ,om,fo,mx,oo,Al,ea,show ((-1:Int)<0) by omega,decide_true]<;>try refine ab ?_ ?_)
  rw[Sj hk,Is hk]
  try rfl
 ·have Ch:decide (gb x y<0)=false:=by
   unfold gb;rw[aR (by simp;omega)]
   split<;>rfl
  have aa4:aF y≠[]:=by rw[Ne,yh];omega
  by_cases F:y<1048576
  ·have qD:=Ix hL F;have mU:=aaH x y ⟨by omega,by omega,by omega⟩
   have aw:=NB [((x%y:Nat):Int)] (by simp);have an:x%y<y:=oQ _ hL;rw[lX] at mU
   have Af:fO [((x%y:Nat):Int)]=aF (x%y):=by
    generalize x%y=r at an ⊢;rw[yj (by intro d ad;rw[sE] at ad;omega)];simp only[a7]
    congr 1
   rw[Af] at aw;have Ji:du y=.ao [[.int .i64 y]]:=by unfold du;rw[qD];rfl
   change wJ [.ao [[.int .i64 _]]]=_ at aw
   rw[Ji] at Al;refine af ?_;repeat' (intro (ag:_=_)<;>simp only[ag,go_sem,go_sem_proc,jC,hJ,om,fo,mx,oo,Ji,Al,Ch,mU,aw,show (((1:Nat):Int)==1)=true from rfl]<;>try refine ab ?_ ?_)
   try rfl
  ·obtain⟨N,hc⟩:∃N,(aF y).length=N+2:=by
    have:=mt (fX (n:=y) (k:=1)).1 (by simpa using F);exact⟨(aF y).length-2,by omega⟩
   have qD:=mr y;have k2:(((aF y).length:Int)==1)=false:=by simp;omega
   have NO:IntKind.i64.wrap (((aF y).length:Int)-1)=((N+1:Nat):Int):=by rw[fJ _];omega
   have kE:(aF y)[N+1]?=some (aF y)[N+1]:=bc (by omega);have azx:=k0 qD (N+1) (by omega)
   have azy:(aF y)[N+1]≠0:=by
    intro h;have:=ZN y;rw[List.getLast?_eq_getElem?,hc] at this;exact this (by rw[show N+2-1=N+1 by omega,kE,h])
   have TP:=aa0 hc;rw[lr] at TP;have ams:=yi (yu qD N);have azz:=ob (yu qD N);have azA:=k0 qD N (by omega);rw[gj,n7 (by omega)] at ams;generalize (aF y)[N+1]=bR at *;generalize (aF y)[N]=rk at *;generalize a7 ((aF y).take N)=NP at *;have aa5:((aF y).map aG)[N+1]?=some [.int .i64 bR]:=by rw[bd,kE];rfl
   simp only[go_sem,go_sem_proc,jC,hJ,om,fo,mx,oo,du,Al,Ch,k2,ah];have aa6:=Al;unfold du at aa6;simp only[go_sem,go_sem_proc,jC,hJ,om,fo,mx,oo,aa6,Ch,k2,ah];refine cV [0,1] [157054,157075] (λ(κ:Nat) tm mem=>bR*2^κ<1048576/\tm 8=.I (.int .i64 (2^κ))) (λκ=>20-κ) 0 (by refine⟨by omega,rfl⟩) ?_;intro vs ms aI aD;simp only[go_sem,go_sem_proc,jC,hJ,om,fo,mx,oo,ah] at aI aD;subst aI aD;rintro κ tm mem Q hm ⟨azB,ca⟩;simp only[go_sem,go_sem_proc,jC,hJ,om,fo,mx,oo,bj] at Q hm;obtain⟨aq,tA⟩:=Q;obtain⟨pN,wS⟩:=hm;have azC:(0:Int)<2^κ:=Fj (by omega)
   have tW:(2:Int)^κ<=bR*2^κ:=by
    have:1*(2:Int)^κ<=bR*2^κ:=kI (by omega) (by omega);omega
   have hκ:κ<20:=by
    rcases gX κ 20 with h|h
    ·exact h
    ·have:(2:Int)^20<=2^κ:=by
      have:=Am (n:=2) (by omega) h;have cG:=Int.ofNat_le.2 this;rwa [Cf,Cf] at cG
     omega
   have aa7:IntKind.i64.wrap (bR*2^κ)=bR*2^κ:=wrap64 _ (by omega) (by omega);have amt:IntKind.i64.wrap (2^κ*2)=2^κ*2:=wrap64 _ (by omega) (by omega);rcases dt (bR*2^κ<524288) with an|bB
   ·refine af ?_;repeat' (intro (ag:_=_)<;>simp only[ag,go_sem,go_sem_proc,jC,hJ,om,fo,mx,oo,aq,tA,ca,NO,aa5,aa7,amt,an,pN,wS,decide_true,dL,ah]<;>try refine ab ?_ ?_)
    exact⟨κ+1,by omega,by rw[mY,<-ia];omega,by rw[mY]⟩
   ·-- the numbers, shifted
    have amu:(bR+1)*2^κ<=1048576:=by
     have e:(1048576:Int)=2^(20-κ)*2^κ:=by rw[<-aaG,show 20-κ+κ=20 by omega];rfl
     have F:bR<2^(20-κ):=by
      rcases dt (bR<2^(20-κ)) with h|h
      ·exact h
      ·have:(2:Int)^(20-κ)*2^κ<=bR*2^κ:=kI (by omega) (by omega);omega
     rw[e];exact kI (by omega) (by omega)
    generalize (2:Int)^κ=s at *;obtain⟨S,rfl⟩:∃S:Nat,s=S:=⟨s.toNat,by omega⟩
    have dU:(0:Int)<1048576^N:=Fj (by omega);have Ci:0<S:=by omega
    have TI:y*S<1048576^(N+2):=by
     have F:((y*S:Nat):Int)<1048576^(N+2):=by
      rw[aa8,TP,mY,mY];generalize (1048576:Int)^N=p at *
      have aO:((bR*1048576+rk)*p+NP)*S<=((bR+1)*1048576*p)*S:=by
       refine kI ?_ (by omega);have:(bR*1048576+rk+1)*p<=((bR+1)*1048576)*p:=kI (by omega) (by omega);rw[sC _ 1] at this;omega
      have azD:((bR*1048576+rk)*p+NP)*S<((bR+1)*1048576*p)*S:=by
       refine Int.mul_lt_mul_of_pos_right ?_ (by omega);have:(bR*1048576+rk+1)*p<=((bR+1)*1048576)*p:=kI (by omega) (by omega);rw[sC _ 1] at this;omega
      have ax:((bR+1)*1048576*p)*S=((bR+1)*S)*(p*1048576):=by
       rw[ia (bR+1),ia,nk (1048576*p),<-ia,nk 1048576 p]
      have eS:((bR+1)*S)*(p*1048576)<=1048576*(p*1048576):=kI amu (by omega);omega
     have G:((1048576^(N+2):Nat):Int)=1048576^(N+2):=by rw[Cf];rfl
     omega
    have azE:524288*(1048576^N*1048576)<=((y*S:Nat):Int):=by
     rw[aa8,TP];generalize (1048576:Int)^N=p at *
     have aO:(bR*1048576)*p*S<=((bR*1048576+rk)*p+NP)*S:=by
      refine kI ?_ (by omega);have:(bR*1048576)*p<=(bR*1048576+rk)*p:=kI (by omega) (by omega);omega
     have ax:(bR*1048576)*p*S=(bR*S)*(p*1048576):=by
      rw[ia bR,ia,nk (1048576*p),<-ia,nk 1048576 p]
     have eS:524288*(p*1048576)<=(bR*S)*(p*1048576):=kI (by omega) (by omega);omega
    have Jj:(aF (y*S)).length=N+2:=by
     have F:=fX.2 TI
     have G:=mt (fX (n:=y*S) (k:=N+1)).1 (by
      have G:((1048576^(N+1):Nat):Int)=1048576^N*1048576:=by rw[Cf,mY];rfl
      omega)
     omega
    have azF:1*x<=x*S:=by rw[ye];exact aa9 x Ci
    have azG:(aF x).length<=(aF (x*S)).length:=by
     rw[fX];have:=fX.1 (c8 (aF (x*S)).length);omega
    have azH:y*S<=x*S:=q7 S (by omega)
    have azI:N+2<=(aF (x*S)).length:=by
     rw[<-Jj,fX];have:=fX.1 (c8 (aF (x*S)).length);omega
    have azJ:(aF (x*S)).length<=1001:=by
     have:∀k,(aF x).length<=k->(aF (x*S)).length<=k+1:=by
      intro k Q;rw[fX];have F:=fX.1 Q;rw[z4];exact Bg (Nat.mul_lt_mul_of_pos_right F Ci) (aa9 _ (by omega))
     exact this 1000 J
    have gY:=Tw x S ⟨by omega,by rw[Ix Ci (by omega)];simp⟩
    have TQ:=Tw y S ⟨by omega,by rw[Ix Ci (by omega)];simp⟩
    have amv:du S=.ao [[.int .i64 (S:Int)]]:=by unfold du;rw[Ix Ci (by omega)];rfl
    rw[amv] at gY TQ;simp only[du] at gY TQ;have cY:=amq (aF (x*S)) (by omega);have amw:((((aF (x*S)).length+1:Nat):Int)==((aF x).length:Int))=false:=by simp;omega
    have amx:=lr (y*S);have NQ:=mr (y*S);have amy:=lr (x*S);have aba:=mr (x*S);have amz:du (y*S)=.ao ((aF (y*S)).map aG):=rfl;generalize amA:aF (y*S)=v at *;generalize azK:aF (x*S)=kk at *;have TL:IntKind.i64.wrap (((D kk+1:Nat):Int)-(D v:Int))=((D kk-N-1:Nat):Int):=by rw[fJ _];omega
    have tT:8*(D kk-N-1)<=140737488355328:=by omega
    have NR:(D kk)-N-1<=maxLen:=E7 _ (by omega);have amB:decide (bR*(S:Int)<524288)=false:=me bB;simp only[go_sem,go_sem_proc,jC,hJ,om,fo,mx,oo,aq,tA,ca,pN,wS,NO,aa5,aa7,amB,gY,TQ,cY,amw,TL,tT,NR,E6,dL,ah];have ic:(D kk)-N-1+(N+2)=D kk+1:=by omega
    generalize azL:(D kk)-N-1=dk at *;have gz:(D kk)=dk+N+1:=by omega
    have nP:=aa0 Jj;rw[amx] at nP;have TR:=yi (yu NQ N);have TS:=ob (yu NQ N);rw[gj,n7 (by omega)] at TR;have wT:v[N+1]?=some v[N+1]:=bc (by omega);have rp:v[N]?=some v[N]:=bc (by omega);have np:=k0 NQ (N+1) (by omega);have sD:=k0 NQ N (by omega);generalize v[N+1]=v1 at *;generalize v[N]=v0 at *;generalize a7 (v.take N)=vlow at *
    have tw:524288<=v1:=by
     generalize (1048576:Int)^N=p at *;rcases dt (524288<=v1) with h|h
     ·exact h
     ·have G:(v1*1048576+v0+1)*p<=(524288*1048576)*p:=kI (by omega) (by omega);rw[sC _ 1,oj] at G;omega
    have amC:((y*S:Nat):Int)<1048576^(N+2):=by
     have G:((1048576^(N+2):Nat):Int)=1048576^(N+2):=by rw[Cf];rfl
     omega
    have TT:0<((y*S:Nat):Int):=by
     have:0<1048576^N*(1048576:Int):=Int.mul_pos dU (by omega);omega
    have amD:a7 ((kk++[0]).drop dk)<((y*S:Nat):Int):=by
     have e:(kk++[0]).drop dk=kk.drop dk++[0]:=by rw[List.drop_append_of_le_length (by omega)]
     rw[e,BQ];have F:=yi (λd ad=>aba d (Fi ad):eO (kk.drop dk));rw[pG,show (D kk)-dk=N+1 by omega,mY] at F
     simp only[a7];omega
    have amE:((x*S:Nat):Int)=a7 ((kk++[0]).take dk)+1048576^dk*a7 ((kk++[0]).drop dk):=by
     have:=Iy (kk++[0]) dk;rw[BQ,amy,n7 (by simp;omega)] at this
     simpa [a7] using this
    generalize abb:y*S=g0 at *;generalize abc:x*S=Fk at *
    refine cV [8,9,10,11,12] [] (λ((j,u,fh):Nat×List Int×List Int) tm mem=>j<=dk/\D u=D kk+1/\eO u/\D fh=dk/\eO fh/\a7 (u.drop j)<g0/\(Fk:Int)=a7 (u.take j)+1048576^j*(g0*a7 (fh.drop j)+a7 (u.drop j)) /\
      tm 13=.I (.int .i64 ((j:Nat)-1))/\mem 157054=some (1,aQ aG u)/\mem 157075=some (0,aQ aG fh)) (λ(j,_)=>j) (dk,kk++[0],cf dk 0)
     (by
      refine⟨c8 _,by simp,BP.2 ⟨aba,by intro d ad;rw[sE] at ad;omega⟩,by simp,λd ad=>by rw[pM] at ad;omega,amD,?_,?_,rfl,rfl⟩
      ·rw[List.drop_of_length_le (by simp)];simp only[a7,wP,Ty];exact amE
      ·simp only[q3,reduceIte];rw[fJ _]) ?_
    intro vs ms aI aD;simp only[go_sem,go_sem_proc,jC,hJ,om,fo,mx,oo,aq,tA,ca] at aI aD;subst aI aD;rintro⟨j,u,fh⟩ tm mem Q-⟨Y,yB,tU,NS,TU,ec,yC,jb,Jk,TV⟩;simp only[go_sem,go_sem_proc,jC,hJ,om,fo,mx,oo,bj] at Q;obtain⟨ca,dh,dy,dW,eH⟩:=Q;rcases j with _|j
    ·rw[pD,pD] at yC;rw[pD] at ec;simp only[M7,a7,Int.pow_zero,oj,Ty] at yC;have azM:=ob TU;have sF:=ob tU
     have TW:a7 fh=((x/y:Nat):Int)/\a7 u=((x%y*S:Nat):Int):=by
      have F:Fk/g0=x/y:=by rw[<-abc,<-abb];exact Nat.mul_div_mul_right x y Ci
      have G:Fk%g0=x%y*S:=by rw[<-abc,<-abb];exact Nat.mul_mod_mul_right S x y
      have aa:((Fk/g0:Nat):Int)=a7 fh:=by rw[aaI,yC,yz,aaJ _ _ (by omega),Tz sF ec];omega
      have aX:((Fk%g0:Nat):Int)=a7 u:=by rw[aaK,yC,yz,aaL,TA sF ec]
      rw[F] at aa;rw[G] at aX;exact⟨aa.symm,aX.symm⟩
     have abd:=NB u (by omega);rw[yj tU,TW.2,lX] at abd;have abe:=NB fh (by omega);rw[yj TU,TW.1,lX] at abe
     have hlen:(aF (x%y*S)).length<=100000:=by
      have:(aF (x%y*S)).length<=D u:=by
       have:=aas u;rw[yj tU,TW.2,lX] at this;exact this
      omega
     have mU:=aaH (x%y*S) S ⟨hlen,by omega,by omega⟩
     rw[lX,Nat.mul_div_cancel _ Ci] at mU;simp only[du] at mU;have wU:H.ref 157054 1 1 0 (D kk+1)=H.ref 157054 1 1 0 (D u):=by rw[yB]
     have wV:H.ref 157075 0 1 0 dk=H.ref 157075 0 1 0 (D fh):=by rw[NS]
     rw[wU] at dh;rw[wV] at eH;refine af ?_;repeat' (intro (ag:_=_)<;>simp only[ag,go_sem,go_sem_proc,jC,hJ,om,fo,mx,oo,ca,dh,dy,dW,eH,jb,Jk,TV,abd,abe,mU,sl jA,du,oe,oV,show ¬ ((0:Int)-1>=0) by omega,decide_false]<;>try refine ab ?_ ?_)
    ·obtain⟨pre,fP,post,e,yD,abf,TX,qH,amF,amG,cq,An,oq,azN,amH,azO,azP⟩:=amp (i:=j) (n:=N+2) tU (by omega) ec amC;have iB:j<dk:=by omega
     rw[oq,BQ,yD] at yC;subst e;subst yD;rw[Jj] at dW;have abg:((D pre+1:Nat):Int)-1=(D pre:Int):=by omega
     have ey:IntKind.i64.wrap ((D pre:Int)+((N+2:Nat):Int))=((D pre+(N+2):Nat):Int):=by rw[fJ _];omega
     have amI:IntKind.i64.wrap (((D pre+(N+2):Nat):Int)-1)=((D pre+(N+1):Nat):Int):=by rw[fJ _];omega
     have NT:IntKind.i64.wrap (((N+2:Nat):Int)-1)=((N+1:Nat):Int):=by rw[fJ _];omega
     have abh:IntKind.i64.wrap (((N+2:Nat):Int)-2)=(N:Int):=by rw[fJ _];omega
     have abi:IntKind.i64.wrap (((D pre+(N+2):Nat):Int)-2)=((D pre+N:Nat):Int):=by rw[fJ _];omega
     have bq:(D pre)+(N+2)<D kk+1:=by omega
     have bp:(D pre)+(N+1)<D kk+1:=by omega
     have ek:(D pre)+N<D kk+1:=by omega
     have amJ:(D pre)+(N+2)+1<=(aQ aG (pre++fP++post)).length:=by rw[pK,yB];omega
     have amK:(D pre)+(N+1)+1<=(aQ aG (pre++fP++post)).length:=by rw[pK,yB];omega
     have abj:(D pre)+N+1<=(aQ aG (pre++fP++post)).length:=by rw[pK,yB];omega
     have abk:=Ja (pre:=pre) (post:=post) (show N+2<(D fP) by omega);have amL:=Ja (pre:=pre) (post:=post) (show N+1<(D fP) by omega);have wR:=Ja (pre:=pre) (post:=post) (show N<(D fP) by omega);have cu:=amo (N:=N) (by omega:(D fP)=N+3);have NN:=yi (yu qH N);have abl:=ob (yu qH N);rw[gj,n7 (by omega)] at NN;have nQ:=k0 qH (N+2) (by omega);have jY:=k0 qH (N+1) (by omega);have Fc:=k0 qH N (by omega);generalize fP[N+2]=t2 at *;generalize fP[N+1]=t1 at *;generalize fP[N]=t0 at *;generalize a7 (fP.take N)=Fh at *;have amM:IntKind.i64.wrap (t2*2^min (BR 20) 64)=t2*1048576:=by rw[show min (BR 20) 64=20 by decide];exact wrap64 _ (by omega) (by omega)
     have amN:bits .or .i64 (t2*1048576) t1=t2*1048576+t1:=Sv t2 t1 nQ.1 (by omega) jY;have amO:(v1=0)=False:=by simp;omega
     generalize azQ:t2*1048576+t1=top at *;have azR:0<=top/\top<1099511627776:=by omega
     have Af:top.tdiv v1=top/v1:=Fe (by omega);have TC:top.tmod v1=top%v1:=I9 (by omega);have lZ:0<=top/v1:=TB (by omega) (by omega);have tT:top/v1<=top:=Int.ediv_le_self _ (by omega);have amP:IntKind.i64.wrap (top/v1)=top/v1:=wrap64 _ (by omega) (by omega);have TY:(v.map aG)[N+1]?=some [.int .i64 v1]:=by rw[bd,wT];rfl
     have abm:(v.map aG)[N]?=some [.int .i64 v0]:=by rw[bd,rp];rfl
     have TO:a7 fP<1048576*g0:=by omega
     have TZ:a7 fP<(top/v1+1)*g0:=by
      have aO:top+1<=(top/v1+1)*v1:=by
       have F:=Ab top v1;have G:=TE top (show 0<v1 by omega);rw[sC,oj,nk (top/v1)];omega
      have ax:(top+1)*1048576*1048576^N<=(top/v1+1)*v1*1048576*1048576^N:=kI (kI aO (by omega)) (by omega)
      have eS:(top/v1+1)*v1*1048576*1048576^N<=(top/v1+1)*g0:=by
       rw[ia,ia];refine tO ?_ (by omega);rw[nP,<-ia];have:v1*1048576*1048576^N<=(v1*1048576+v0)*1048576^N:=kI (by omega) (by omega);omega
      have iA:(top*1048576+t0+1)*1048576^N<=(top+1)*1048576*1048576^N:=kI (by omega) (by omega);rw[sC _ 1,oj] at iA;omega
     simp only[go_sem,go_sem_proc,jC,hJ,om,fo,mx,oo,ca,dh,dy,dW,eH,jb,Jk,TV,abg,ey,amI,NT,bq,bp,amJ,amK,abk,amL,amM,amN,amO,Af,TC,amP,TY,show (D pre:Int)>=0 by omega,decide_true,dL,ah,show ¬ ((20:Int)<0) by omega]
     have T0:∀(mem:Mem),mem 157054=some (1,aQ aG (pre++fP++post))->∀q:Int,0<=q->q<1048576->a7 fP<(q+1)*g0->0<=a7 fP-q*g0+g0 ->
       Jc [.ref 157054 1 1 (D pre) (N+3),.I (.ao (v.map aG)),.I (.int .i64 q)] mem=some (.I (.int .i64 (a7 fP/g0)),aT mem 157054 1 (aQ aG (pre++pad (N+3) (a7 fP%g0).toNat++post))):=by
      intro mem Jk q lZ amQ Ao kH;have Ji:=amn TT Ao kH;have fm:=amc ⟨pre,fP,post,g0,q,157054,1⟩ mem ⟨Jk,qH,by show (aF g0).length<=D fP;rw[amA];omega,lZ,amQ,kH,by show (D pre)+D fP<=100000;omega⟩
      simp only[Ag,Ah,NL] at fm;rw[Ji.1,Ji.2,abf,amz] at fm;exact fm
     have amR:0<=a7 fP/g0:=TB (ob qH) (by omega);have amS:a7 fP/g0<1048576:=aaM TT TO;have azS:=TD (a7 fP) (show (g0:Int)≠0 by omega);have amT:=TE (a7 fP) TT
     have amU:a7 (pad (N+3) (a7 fP%g0).toNat)=a7 fP%g0:=by
      rw[al9]
      ·omega
      ·have G:((1048576^(N+2):Nat):Int)=1048576^(N+2):=by rw[Cf];rfl
       have aa:1048576^(N+2)<=1048576^(N+3):=Am (by omega) (by omega);omega
     have lY:∃a1:Nat×List Int×List Int,a1.1<D pre+1/\a1.1<=dk/\a1.2.1.length=D kk+1/\eO a1.2.1/\a1.2.2.length=dk/\eO a1.2.2/\a7 (a1.2.1.drop a1.1)<g0/\(Fk:Int)=a7 (a1.2.1.take a1.1)+1048576^a1.1*(g0*a7 (a1.2.2.drop a1.1)+a7 (a1.2.1.drop a1.1)) /\
       H.I (Data.int .i64 ((D pre:Int)-1))=H.I (Data.int .i64 ((a1.1:Int)-1))/\some (1,aQ aG (pre++pad (N+3) (a7 fP%g0).toNat++post))=some (1,aQ aG a1.2.1)/\some (0,aQ aG (fh.set (D pre) (a7 fP/g0)))=some (0,aQ aG a1.2.2):=by
      have amV:(D fh)=dk:=NS;have NS:(D pre)<D fh:=by omega
      have k3:(pre++pad (N+3) (a7 fP%g0).toNat++post).drop (D pre)=pad (N+3) (a7 fP%g0).toNat++post:=by rw[ki,Sg]
      have amW:(pre++pad (N+3) (a7 fP%g0).toNat++post).take (D pre)=pre:=by rw[ki,Sf]
      have abn:a7 (pad (N+3) (a7 fP%g0).toNat++post)=a7 fP%g0:=by rw[BQ,amG,amU];omega
      refine⟨(D pre,pre++pad (N+3) (a7 fP%g0).toNat++post,fh.set (D pre) (a7 fP/g0)),by dsimp only;omega,by dsimp only;omega,?_,BP.2 ⟨BP.2 ⟨TX,al8 _ _⟩,amF⟩,by rw[fj];exact amV,yw TU _ ⟨amR,amS⟩,?_,?_,rfl,rfl,rfl⟩
      ·rw[<-yB];simp[al7,abf]
      ·dsimp only;rw[k3,abn];exact amT
      ·dsimp only;rw[k3,abn,amW,gw (by simpa using NS),so];simp only[yv];rw[se (by omega)];have F:=Ab (a7 fP) g0;have G:(g0:Int)*(a7 fP/g0+1048576*a7 (fh.drop (D pre+1)))=g0*(a7 fP/g0)+1048576*(g0*a7 (fh.drop (D pre+1))):=by rw[h9,TF]
       rw[G,yC,mY,ia];simp only[a7,wP,Jg];rw[Int.add_assoc,<-h9]
       congr 2
       rw[h9];omega
     have g1:(D pre)+(N+2)+1-D pre=N+3:=by omega
     have eR:IntKind.i64.wrap (((D pre+(N+2):Nat):Int)+1)=((D pre+(N+2)+1:Nat):Int):=by rw[fJ _];rfl
     have abo:(D pre)<=D pre+(N+2)+1/\D pre+(N+2)+1<=D kk+1:=by omega
     have abp:(D pre)<dk:=iB;have abq:=λd=>wM fh (D pre) d (by omega);have abr:(D pre)+1<=(aQ aG fh).length:=by rw[pK];omega
     have Jf:IntKind.i64.wrap ((D pre:Int)-1)=(D pre:Int)-1:=wrap64 _ (by omega) (by omega)
     refine cV [8,9,10,11,12,13] [157054,157075] (λ((q,r):Int×Int) tm mem=>0<=q/\0<=r/\q*v1+r=top/\a7 fP<(q+1)*g0/\tm 15=.I (.int .i64 q)/\tm 16=.I (.int .i64 r)) (λ(q,_)=>q.toNat) (top/v1,top%v1)
      (by
       refine⟨lZ,TD _ (by omega),?_,TZ,rfl,rfl⟩;have:=Ab top v1;rw[nk (top/v1)];omega) ?_
     intro vs ms aI aD;simp only[go_sem,go_sem_proc,jC,hJ,om,fo,mx,oo,ca,dh,dy,dW,eH,jb,Jk,TV,abg] at aI aD;subst aI aD;rintro⟨q,r⟩ tm mem' Q hm ⟨yE,amX,Cg,Ao,wW,my⟩;simp only[go_sem,go_sem_proc,jC,hJ,om,fo,mx,oo,bj] at Q hm;obtain⟨fQ,pO,hM,lu,lx,Cj⟩:=Q;obtain⟨Fl,NU⟩:=hm;have azT:0<=q*v1:=sA yE (by omega);have wX:q*524288<=q*v1:=tO tw yE;have azU:0<=q*v0:=sA yE sD.1;have azV:q*v0<=q*1048576:=tO (by omega) yE;have Fm:IntKind.i64.wrap (q*v0)=q*v0:=wrap64 _ (by omega) (by omega);have abt:IntKind.i64.wrap (q-1)=q-1:=wrap64 _ (by omega) (by omega);have abu:IntKind.i64.wrap (r+v1)=r+v1:=wrap64 _ (by omega) (by omega);have abv:IntKind.i64.wrap (r*2^min (BR 20) 64)=r*1048576:=by rw[show min (BR 20) 64=20 by decide];exact wrap64 _ (by omega) (by omega)
     have abw:bits .or .i64 (r*1048576) t0=r*1048576+t0:=Sv r t0 amX (by omega) Fc
     have M0:(q>=1048576\/q*v0>r*1048576+t0)->∃a1:Int×Int,a1.1.toNat<q.toNat/\0<=a1.1/\0<=a1.2/\a1.1*v1+a1.2=top/\a7 fP<(a1.1+1)*g0/\H.I (Data.int .i64 (q-1))=H.I (Data.int .i64 a1.1)/\H.I (Data.int .i64 (r+v1))=H.I (Data.int .i64 a1.2):=by
      intro U;have F:=aml nP cu dU TS NN yE (by omega) TO Cg U
      have T1:0<q:=by
       rcases dt (0<q) with h|h
       ·exact h
       ·obtain rfl:q=0:=by omega
        have:=ob qH;omega
      exact⟨(q-1,r+v1),by dsimp only;omega,by dsimp only;omega,by dsimp only;omega,by dsimp only;rw[aaZ];omega,by dsimp only;rw[Int.sub_add_cancel];exact F,rfl,rfl⟩
     by_cases iw:q>=1048576
     ·refine af ?_;repeat' (intro (ag:_=_)<;>simp only[ag,go_sem,go_sem_proc,jC,hJ,om,fo,mx,oo,fQ,pO,hM,lu,lx,Cj,Fl,NU,wW,my,iw,abt,abu,NT,TY,decide_true,dL,ah]<;>try refine ab ?_ ?_)
      exact M0 (.inl iw)
     ·by_cases mO:r<1048576
      ·by_cases hc3:q*v0>r*1048576+t0
       ·refine af ?_;repeat' (intro (ag:_=_)<;>simp only[ag,go_sem,go_sem_proc,jC,hJ,om,fo,mx,oo,fQ,pO,hM,lu,lx,Cj,Fl,NU,wW,my,iw,mO,hc3,Fm,abt,abu,abv,abw,ey,NT,abh,abi,ek,abj,wR,TY,abm,decide_true,decide_false,dL,ah,show ¬ ((20:Int)<0) by omega]<;>try refine ab ?_ ?_)
        exact M0 (.inr hc3)
       ·have fm:=T0 mem' Fl q yE (by omega) Ao (aaY nP cu dU ⟨TS,TR⟩ abl yE (by omega) tw sD Fc.1 Cg (.inr (by omega)));refine af ?_;repeat' (intro (ag:_=_)<;>simp only[ag,go_sem,go_sem_proc,jC,hJ,om,fo,mx,oo,fQ,pO,hM,lu,lx,Cj,Fl,NU,wW,my,iw,mO,hc3,Fm,abv,abw,ey,eR,NT,abh,abi,ek,abj,wR,abm,g1,abo,fm,abp,abr,abq,Jf,Jj,decide_true,decide_false,dL,ah,show ¬ ((20:Int)<0) by omega]<;>try refine ab ?_ ?_)
        exact lY
      ·have fm:=T0 mem' Fl q yE (by omega) Ao (aaY nP cu dU ⟨TS,TR⟩ abl yE (by omega) tw sD Fc.1 Cg (.inl (by omega)));refine af ?_;repeat' (intro (ag:_=_)<;>simp only[ag,go_sem,go_sem_proc,jC,hJ,om,fo,mx,oo,fQ,pO,hM,lu,lx,Cj,Fl,NU,wW,my,iw,mO,ey,eR,g1,abo,fm,abp,abr,abq,Jf,Jj,decide_true,decide_false,dL,ah]<;>try refine ab ?_ ?_)
       exact lY
def cW:Nat:=1048576^60
def a9 (z:Int):Raw:=(z.sign,aF z.natAbs)
def gO (a:Raw):Int:=a.1*a7 a.2
def eJ (z:Int):gO (a9 z)=z:=by
 unfold gO a9;rw[lr];exact Fo z
def Jl (d:Int):nm d=true↔0<=d/\d<1048576:=by
 unfold nm;simp;omega
def ho (a:Raw):cI a=true↔∃z:Int,z.natAbs<cW/\a=a9 z:=by
 obtain⟨s,l⟩:=a;unfold cI cW;rw[fe,kA]
 constructor
 ·rintro⟨F,G⟩;have ad:eO l:=λd ad=>(Jl d).1 (F d ad)
  split at G
  ·rename_i h;have ae:l=[]:=q9 (by simpa using h);subst ae;have O:s=0:=by simpa using G
   subst O;exact⟨0,by simp,rfl⟩
  ·rename_i h;simp at G;obtain⟨⟨O,hlen⟩,Jm⟩:=G;have U:=canon ad (by simpa using Jm);have al:=ob ad
   have azW:a7 l≠0:=by
    intro aq;rw[aq] at U;rw[U] at h;simp[sq] at h
   refine⟨s*a7 l,?_,?_⟩
   ·have:(s*a7 l).natAbs=(a7 l).toNat:=by rw[yF];rcases O with rfl|rfl<;>simp<;>omega
    rw[this,<-fX,<-U];exact hlen
   ·unfold a9;have:(s*a7 l).natAbs=(a7 l).toNat:=by rw[yF];rcases O with rfl|rfl<;>simp<;>omega
    rw[this,<-U]
    congr 1
    rcases O with rfl|rfl
    ·rw[oj,gp (by omega)]
    ·rw[Ck,oj,yG,gp (by omega)]
 ·rintro⟨z,a0,h⟩
  cases h;refine⟨λd ad=>(Jl d).2 (mr _ d ad),?_⟩
  by_cases aq:z=0
  ·subst aq;rfl
  ·have aA:aF z.natAbs≠[]:=by rw[Ne,yh];omega
   rw[aR (by simp;exact aA)];have ae:=fX.2 a0;have nj:=ZN z.natAbs;simp only[fe,Bool.or_eq_true,beq_iff_eq,decide_eq_true_eq,bne_iff_ne,ne_eq];refine⟨⟨?_,ae⟩,nj⟩;rcases oX z 0 with h|h|h
   ·exact .inr (kJ h)
   ·exact absurd h aq
   ·exact .inl (gp h)
def jZ {z:Int}(h:z.natAbs<cW):cI (a9 z)=true:=(ho _).2 ⟨z,h,rfl⟩
def Fp (c:Raw):Raw×Int:=if decide ((c.2.length:Int)>60)=true then ((0,[]),6) else (c,0)
def nR (z:Int):Raw×Int:=if z.natAbs<cW then (a9 z,0) else ((0,[]),6)
def en (x:Raw×Int):Data:=.dp [.agg (b3 x.1),.int .i64 x.2]
def amY (s:Int)(n:Nat):jX s (aF n)=if n=0 then (0,[]) else (s,aF n):=by
 unfold jX;rw[ZM]
 by_cases h:n=0
 ·subst h;rfl
 ·have:aF n≠[]:=by rw[Ne,yh];exact h
  rw[aR h,aR (by simp;exact this)]
def m3 {s:Int}{n:Nat}{z:Int}(h:z.natAbs=n)(O:n≠0->s=z.sign):jX s (aF n)=a9 z:=by
 rw[amY];subst h
 by_cases aq:z.natAbs=0
 ·obtain rfl:z=0:=by omega
  rfl
 ·rw[aR aq,O aq]
  rfl
def vd (z:Int):Fp (a9 z)=nR z:=by
 unfold Fp nR a9 cW;have:=fX (n:=z.natAbs) (k:=60)
 by_cases h:z.natAbs<1048576^60
 ·have:=this.2 h;rw[aR (by simp;omega),aJ h]
 ·have:=mt this.1 h;rw[aJ (by simp;omega),aR h]
abbrev NV:Bool×Int×(List Int)->List Data:=λ(r,s,l)=>[.bool r,.agg [.int .i64 s,.ao (l.map aG)]]
def Fq:=bG NV λ(r,s,l)=>some (.same (en (if r=true then Fp (s,l) else ((0,[]),1))))
def amZ:∀a b,NV a=NV b->a=b:=by
  rintro⟨gI,s1,hZ⟩ ⟨lp,s2,X⟩ h;simp only[bj,Data.bool.injEq,Data.agg.injEq,Data.int.injEq,Data.ao.injEq] at h;exact cx h.1 (cx h.2.1.1.2 (map_inj fW _ _ h.2.1.2.1))
@[go_sem] def Fs (r s l):=sm Fq rfl amZ (r,s,l) rfl
def am0 (T:bg):WF T Z2 Fq:=by
 refine b5 λ(r,s,l)=>⟨rfl,b4 ?_⟩;simp only[Z2,NV,bV]
 cases r
 ·refine af ?_;repeat' (intro h<;>simp only[h,go_sem,go_sem_proc,ah]<;>try refine ab ?_ ?_)
  rfl
 ·refine af ?_;repeat' (intro h<;>simp only[h,go_sem,go_sem_proc,ah]<;>try refine ab ?_ ?_)
  all_goals (simp only[en,b3,Fp];simp only[bN, *,reduceIte,cZ,db,tC,qz,tD,pE,pF,eZ,iZ,eN,cC,beq_self_eq_true,bne])
def hx (a:Raw):Raw:=if cI a=true then a9 (-gO a) else (0,[])
def abx (z:Int):jX (-z.sign) (aF z.natAbs)=a9 (-z):=m3 (by omega) λ_=>by rw[yG]
def Jn:=bG pJ λ(s,l)=>b8 (D l<=1000000) (.same (.agg (b3 (hx (s,l)))))
@[go_sem] def azX (s l):=cj Jn rfl Ca (s,l) rfl
def am1 (T:bg)(fa:T kF=aE tN)(hJ:T wG=aE Aa)(hp:T oc=aE yt):WF T ZZ Jn:=by
 refine b5 λ(s,l)=>cn λU=>⟨rfl,b4 ?_⟩;simp only[ZZ,pJ,bV]
 by_cases L:cI (s,l)=true
 ·obtain⟨z,a0,e⟩:=(ho _).1 L;have aO:hx (s,l)=a9 (-z):=by unfold hx;rw[aJ L,e,eJ]
  cases e
  have hw:IntKind.i64.wrap (0-z.sign) = -z.sign:=by
   have:=Jo z;rw[fJ _];omega
  rw[aO];refine af ?_;repeat' (intro h<;>simp only[h,go_sem,go_sem_proc,fa,hJ,hp,L,U,hw,abx,b3]<;>try refine ab ?_ ?_)
 ·have L:cI (s,l)=false:=by simpa using L
  have aO:hx (s,l)=(0,[]):=by unfold hx;rw[L];rfl
  rw[aO];refine af ?_;repeat' (intro h<;>simp only[h,go_sem,go_sem_proc,fa,hJ,hp,L,U,b3,bN]<;>try refine ab ?_ ?_)
def ot (a:Raw):(a.1,a.2)=a:=rfl
def mulR (a b:Raw):Raw×Int:=if (cI a&&cI b)=true then nR (gO a*gO b) else ((0,[]),1)
def yH {x y:Int}(J:x.natAbs<cW)(ai:y.natAbs<cW):mulR (a9 x) (a9 y)=nR (x*y):=by
 unfold mulR;rw[jZ J,jZ ai,eJ,eJ]
 rfl
def m4 {z:Int}(h:z.natAbs<cW):(aF z.natAbs).length<=60:=fX.2 h
def m5 (z:Int):-1<=z.sign/\z.sign<=1:=by
 have:=Jo z;omega
abbrev iO:Int×(List Int)×Int×(List Int)->List Data:=λ(s,l,s2,X)=>[.agg [.int .i64 s,.ao (l.map aG)],.agg [.int .i64 s2,.ao (X.map aG)]]
def Cl:=bG iO λ(s,l,s2,X)=>b8 (D l<=1000000/\D X<=1000000) (.same (en (mulR (s,l) (s2,X))))
def qI:∀a b,iO a=iO b->a=b:=by
  rintro⟨s1,hZ,tX,sG⟩ ⟨s2,X,tY,sH⟩ h;simp only[bj,Data.agg.injEq,Data.int.injEq,Data.ao.injEq] at h;exact cx h.1.1.2 (cx (map_inj fW _ _ h.1.2.1) (cx h.2.1.1.2 (map_inj fW _ _ h.2.1.2.1)))
@[go_sem] def azY (s l s2 X):=cj Cl rfl qI (s,l,s2,X) rfl
def am2 (T:bg)(fa:T kF=aE tN)(mx:T ER=aE I7)(hp:T oc=aE yt)(oY:T tJ=aE Fq):WF T ZX Cl:=by
 refine b5 λ(s,l,s2,X)=>cn λU=>⟨rfl,b4 ?_⟩;simp only[ZX,iO,bV];obtain⟨bq,bp⟩:=U
 by_cases L:cI (s,l)=true
 ·by_cases aU:cI (s2,X)=true
  ·obtain⟨x,J,e⟩:=(ho _).1 L;obtain⟨y,ai,ax⟩:=(ho _).1 aU;have hm:mulR (s,l) (s2,X)=nR (x*y):=by rw[e,ax];exact yH J ai
   rw[hm];clear hm
   cases e
   cases ax;have F:=m5 x;have G:=m5 y;have aP:x.sign*y.sign=(x*y).sign:=(nS x y).symm;have aa:=m5 (x*y);have hw:IntKind.i64.wrap (x.sign*y.sign)=(x*y).sign:=by rw[aP];exact wrap64 _ (by omega) (by omega)
   have hmul:=Tw x.natAbs y.natAbs ⟨iG (m4 J) (by omega),iG (m4 ai) (by omega)⟩;simp only[du] at hmul
   have hlen:(aF (x.natAbs*y.natAbs)).length<=1000000:=by
    refine iG ((fX (k:=120)).2 ?_) (by omega);have:(1048576^120:Nat)=cW*cW:=by unfold cW;rw[<-Nat.pow_add]
    rw[this];exact Nat.mul_lt_mul'' J ai
   have O:jX (x*y).sign (aF (x.natAbs*y.natAbs))=a9 (x*y):=m3 (yF x y) λ_=>rfl;refine af ?_;repeat' (intro h<;>simp only[h,go_sem,go_sem_proc,fa,mx,hp,oY,L,aU,bq,bp,hw,hmul,hlen,O,vd,b3,en,ot]<;>try refine ab ?_ ?_)
  ·have aU:cI (s2,X)=false:=by simpa using aU
   have hm:mulR (s,l) (s2,X)=((0,[]),1):=by unfold mulR;rw[aU,iZ];rfl
   rw[hm];have ly:=Fs false 0 [];simp only[bN] at ly;refine af ?_;repeat' (intro h<;>simp only[h,go_sem,go_sem_proc,fa,mx,hp,oY,L,aU,bq,bp,ly,b3,en,bN]<;>try refine ab ?_ ?_)
 ·have L:cI (s,l)=false:=by simpa using L
  have hm:mulR (s,l) (s2,X)=((0,[]),1):=by unfold mulR;rw[L,eN];rfl
  rw[hm];have ly:=Fs false 0 [];simp only[bN] at ly;refine af ?_;repeat' (intro h<;>simp only[h,go_sem,go_sem_proc,fa,mx,hp,oY,L,bq,bp,ly,b3,en,bN]<;>try refine ab ?_ ?_)
def lz (a b:Raw):Raw×Int:=if (cI a&&cI b)=true then nR (gO a+gO b) else ((0,[]),1)
def Jp {x y:Int}(J:x.natAbs<cW)(ai:y.natAbs<cW):lz (a9 x) (a9 y)=nR (x+y):=by
 unfold lz;rw[jZ J,jZ ai,eJ,eJ]
 rfl
def Ft (a b:Nat):(aF (a-b)).length<=(aF a).length:=by
 rw[fX];exact yx (Nat.sub_le a b) (fX.1 (c8 _))
def NW:=bG iO λ(s,l,s2,X)=>b8 (D l<=1000000/\D X<=1000000) (.same (en (lz (s,l) (s2,X))))
@[go_sem] def azZ (s l s2 X):=cj NW rfl qI (s,l,s2,X) rfl
def am3 (T:bg)(fa:T kF=aE tN)(Jq:T SL=aE NG)(tZ:T IJ=aE I4)(ua:T EU=aE I6)(jC:T BX=aE E8)(hp:T oc=aE yt)(oY:T tJ=aE Fq):WF T Z6 NW:=by
 refine b5 λ(s,l,s2,X)=>cn λU=>⟨rfl,b4 ?_⟩;simp only[Z6,iO,bV];obtain⟨bq,bp⟩:=U
 by_cases L:cI (s,l)=true
 ·by_cases aU:cI (s2,X)=true
  ·obtain⟨x,J,e⟩:=(ho _).1 L;obtain⟨y,ai,ax⟩:=(ho _).1 aU;have hm:lz (s,l) (s2,X)=nR (x+y):=by rw[e,ax];exact Jp J ai
   rw[hm];clear hm
   cases e
   cases ax;have F:=m5 x;have G:=m5 y;have mz:=m4 J;have k2:=m4 ai;have NX:=Fo x;have am4:=Fo y
   have nT:(x.sign=1/\0<x)\/(x.sign=0/\x=0)\/(x.sign = -1/\x<0):=by
    rcases oX x 0 with h|h|h
    ·exact .inr (.inr ⟨kJ h,h⟩)
    ·exact .inr (.inl ⟨by rw[h];rfl,h⟩)
    ·exact .inl ⟨gp h,h⟩
   have ty:(y.sign=1/\0<y)\/(y.sign=0/\y=0)\/(y.sign = -1/\y<0):=by
    rcases oX y 0 with h|h|h
    ·exact .inr (.inr ⟨kJ h,h⟩)
    ·exact .inr (.inl ⟨by rw[h];rfl,h⟩)
    ·exact .inl ⟨gp h,h⟩
   have sI:=aax x.natAbs y.natAbs ⟨by omega,by omega⟩
   simp only[du] at sI
   have hlen:(aF (x.natAbs+y.natAbs)).length<=1000000:=by
    refine iG ((fX (k:=61)).2 ?_) (by omega);have:(1048576^61:Nat)=cW*1048576:=by unfold cW;rw[<-z4]
    omega
   have tS:=alP [x.sign,y.sign] (by simp);simp only[gZ,bN,aG] at tS;have eX:=Tl x.natAbs y.natAbs ⟨by omega,by omega⟩
   simp only[du] at eX
   by_cases aP:x.sign*y.sign>=0
   ·have hw:IntKind.i64.wrap (x.sign*y.sign)=x.sign*y.sign:=by
     rcases nT with ⟨e,_⟩|⟨e,_⟩|⟨e,_⟩<;>rw[e]<;>exact wrap64 _ (by omega) (by omega)
    have O:jX (yr [x.sign,y.sign]) (aF (x.natAbs+y.natAbs))=a9 (x+y):=by
     refine m3 ?_ ?_
     ·rcases nT with ⟨e,_⟩|⟨e,_⟩|⟨e,_⟩<;>rcases ty with ⟨e',_⟩|⟨e',_⟩|⟨e',_⟩<;>rw[e,e'] at aP<;>omega
     ·intro aA;rcases nT with ⟨e,_⟩|⟨e,_⟩|⟨e,_⟩<;>rcases ty with ⟨e',_⟩|⟨e',_⟩|⟨e',_⟩<;>rw[e,e'] at aP ⊢
      ·exact (gp (by omega)).symm
      ·exact (gp (by omega)).symm
      ·omega
      ·exact (gp (by omega)).symm
      ·omega
      ·exact (kJ (by omega)).symm
      ·omega
      ·exact (kJ (by omega)).symm
      ·exact (kJ (by omega)).symm
    refine af ?_;repeat' (intro (ag:_=_)<;>simp only[ag,go_sem,go_sem_proc,fa,Jq,tZ,ua,jC,hp,oY,L,aU,bq,bp,hw,aP,decide_true,tS,sI,hlen,O,vd,b3,en,ot]<;>try refine ab ?_ ?_)
   ·have hw:IntKind.i64.wrap (x.sign*y.sign)=x.sign*y.sign:=by
     rcases nT with ⟨e,_⟩|⟨e,_⟩|⟨e,_⟩<;>rw[e]<;>exact wrap64 _ (by omega) (by omega)
    by_cases an:x.natAbs<y.natAbs
    ·have oZ:decide (gb x.natAbs y.natAbs<0)=true:=by unfold gb;rw[aJ (by simp;omega)];rfl
     have g1:=Tu y.natAbs x.natAbs ⟨by omega,by omega⟩
     simp only[du] at g1;have ve:(aF (y.natAbs-x.natAbs)).length<=1000000:=iG (Ft _ _) (by omega)
     have O:jX y.sign (aF (y.natAbs-x.natAbs))=a9 (x+y):=by
      refine m3 ?_ ?_
      ·rcases nT with ⟨e,_⟩|⟨e,_⟩|⟨e,_⟩<;>rcases ty with ⟨e',_⟩|⟨e',_⟩|⟨e',_⟩<;>rw[e,e'] at aP<;>omega
      ·intro aA;rcases nT with ⟨e,_⟩|⟨e,_⟩|⟨e,_⟩<;>rcases ty with ⟨e',_⟩|⟨e',_⟩|⟨e',_⟩<;>rw[e,e'] at aP<;>rw[e']<;>first|omega|exact (gp (by omega)).symm|exact (kJ (by omega)).symm
     refine af ?_;repeat' (intro (ag:_=_)<;>simp only[ag,go_sem,go_sem_proc,fa,Jq,tZ,ua,jC,hp,oY,L,aU,bq,bp,hw,aP,decide_false,eX,oZ,g1,ve,O,vd,b3,en,ot]<;>try refine ab ?_ ?_)
    ·have oZ:decide (gb x.natAbs y.natAbs<0)=false:=by unfold gb;rw[aR (by simp;omega)];split<;>rfl
     have g1:=Tu x.natAbs y.natAbs ⟨by omega,by omega⟩
     simp only[du] at g1;have ve:(aF (x.natAbs-y.natAbs)).length<=1000000:=iG (Ft _ _) (by omega)
     have O:jX x.sign (aF (x.natAbs-y.natAbs))=a9 (x+y):=by
      refine m3 ?_ ?_
      ·rcases nT with ⟨e,_⟩|⟨e,_⟩|⟨e,_⟩<;>rcases ty with ⟨e',_⟩|⟨e',_⟩|⟨e',_⟩<;>rw[e,e'] at aP<;>omega
      ·intro aA;rcases nT with ⟨e,_⟩|⟨e,_⟩|⟨e,_⟩<;>rcases ty with ⟨e',_⟩|⟨e',_⟩|⟨e',_⟩<;>rw[e,e'] at aP<;>rw[e]<;>first|omega|exact (gp (by omega)).symm|exact (kJ (by omega)).symm
     refine af ?_;repeat' (intro (ag:_=_)<;>simp only[ag,go_sem,go_sem_proc,fa,Jq,tZ,ua,jC,hp,oY,L,aU,bq,bp,hw,aP,decide_false,eX,oZ,g1,ve,O,vd,b3,en,ot]<;>try refine ab ?_ ?_)
  ·have aU:cI (s2,X)=false:=by simpa using aU
   have hm:lz (s,l) (s2,X)=((0,[]),1):=by unfold lz;rw[aU,iZ];rfl
   rw[hm];have ly:=Fs false 0 [];simp only[bN] at ly;refine af ?_;repeat' (intro (ag:_=_)<;>simp only[ag,go_sem,go_sem_proc,fa,Jq,tZ,ua,jC,hp,oY,L,aU,bq,bp,ly,b3,en,bN]<;>try refine ab ?_ ?_)
 ·have L:cI (s,l)=false:=by simpa using L
  have hm:lz (s,l) (s2,X)=((0,[]),1):=by unfold lz;rw[L,eN];rfl
  rw[hm];have ly:=Fs false 0 [];simp only[bN] at ly;refine af ?_;repeat' (intro (ag:_=_)<;>simp only[ag,go_sem,go_sem_proc,fa,Jq,tZ,ua,jC,hp,oY,L,bq,bp,ly,b3,en,bN]<;>try refine ab ?_ ?_)
def kl (x:Int):(x.sign=1/\0<x)\/(x.sign=0/\x=0)\/(x.sign = -1/\x<0):=by
 rcases oX x 0 with h|h|h
 ·exact .inr (.inr ⟨kJ h,h⟩)
 ·exact .inr (.inl ⟨by rw[h];rfl,h⟩)
 ·exact .inl ⟨gp h,h⟩
def pP (a b:Raw):Int:=if (cI a&&cI b)=true then gb (gO a) (gO b) else 0
def Jr {x y:Int}(J:x.natAbs<cW)(ai:y.natAbs<cW):pP (a9 x) (a9 y)=gb x y:=by
 unfold pP;rw[jZ J,jZ ai,eJ,eJ]
 rfl
def yI {x y:Int}(h:x<y):gb x y = -1:=by unfold gb;rw[aJ (by simpa using h)]
def Cm {x y:Int}(h:y<x):gb x y=1:=by unfold gb;rw[aR (by simp;omega),aJ (by simpa using h)]
def Fu (x:Int):gb x x=0:=by unfold gb;simp
def NY:=bG iO λ(s,l,s2,X)=>b8 (D l<=1000000/\D X<=1000000) (.same (.int .i64 (pP (s,l) (s2,X))))
@[go_sem] def az0 (s l s2 X):=cj NY rfl qI (s,l,s2,X) rfl
def am5 (T:bg)(fa:T kF=aE tN)(tP:T EV=aE I2)(jC:T BX=aE E8):WF T Z1 NY:=by
 refine b5 λ(s,l,s2,X)=>cn λU=>⟨rfl,b4 ?_⟩;simp only[Z1,iO,bV];obtain⟨bq,bp⟩:=U
 by_cases L:cI (s,l)=true
 ·by_cases aU:cI (s2,X)=true
  ·obtain⟨x,J,e⟩:=(ho _).1 L;obtain⟨y,ai,ax⟩:=(ho _).1 aU;have hm:pP (s,l) (s2,X)=gb x y:=by rw[e,ax];exact Jr J ai
   rw[hm];clear hm
   cases e
   cases ax;have mz:=m4 J;have k2:=m4 ai;have eX:=Tl x.natAbs y.natAbs ⟨by omega,by omega⟩
   simp only[du] at eX
   by_cases O:x.sign=y.sign
   ·have vf:(x.sign==y.sign)=true:=by simpa using O
    have jS:IntKind.i64.wrap (y.sign*gb x.natAbs y.natAbs)=gb x y:=by
     rcases kl x with ⟨e,F⟩|⟨e,F⟩|⟨e,F⟩<;>rcases kl y with ⟨e',G⟩|⟨e',G⟩|⟨e',G⟩<;>rw[e,e'] at O<;>first|omega|skip
     ·rw[e',oj,show (x.natAbs:Int)=x by omega,show (y.natAbs:Int)=y by omega]
      rcases oX x y with h|h|h
      ·rw[yI h];rfl
      ·rw[h,Fu];rfl
      ·rw[Cm h];rfl
     ·rw[e',F,G];rfl
     ·rw[e'];rcases oX x y with h|h|h
      ·rw[yI h,Cm (by omega)];rfl
      ·rw[h,Fu,Fu];rfl
      ·rw[Cm h,yI (by omega)];rfl
    rw[<-O] at jS;refine af ?_;repeat' (intro (ag:_=_)<;>simp only[ag,go_sem,go_sem_proc,fa,tP,jC,L,aU,bq,bp,vf,eX,jS]<;>try refine ab ?_ ?_)
   ·have vf:(x.sign==y.sign)=false:=by simpa using O
    have jS:gb x.sign y.sign=gb x y:=by
     rcases kl x with ⟨e,F⟩|⟨e,F⟩|⟨e,F⟩<;>rcases kl y with ⟨e',G⟩|⟨e',G⟩|⟨e',G⟩<;>rw[e,e'] at O ⊢<;>first|omega|(rw[yI (show x<y by omega)];rfl)|(rw[Cm (show y<x by omega)];rfl)
    refine af ?_;repeat' (intro (ag:_=_)<;>simp only[ag,go_sem,go_sem_proc,fa,tP,jC,L,aU,bq,bp,vf,jS]<;>try refine ab ?_ ?_)
  ·have aU:cI (s2,X)=false:=by simpa using aU
   have hm:pP (s,l) (s2,X)=0:=by unfold pP;rw[aU,iZ];rfl
   rw[hm];refine af ?_;repeat' (intro (ag:_=_)<;>simp only[ag,go_sem,go_sem_proc,fa,tP,jC,L,aU,bq,bp]<;>try refine ab ?_ ?_)
 ·have L:cI (s,l)=false:=by simpa using L
  have hm:pP (s,l) (s2,X)=0:=by unfold pP;rw[L,eN];rfl
  rw[hm];refine af ?_;repeat' (intro (ag:_=_)<;>simp only[ag,go_sem,go_sem_proc,fa,tP,jC,L,bq,bp]<;>try refine ab ?_ ?_)
def mA (a b:Raw):Raw×Int:=if (cI a&&cI b)=true then (a9 (gq (gO a).natAbs (gO b).natAbs:Nat),0) else ((0,[]),1)
def Fv {x y:Int}(J:x.natAbs<cW)(ai:y.natAbs<cW):gq x.natAbs y.natAbs<cW:=by
 rcases ln x.natAbs with h|h
 ·rw[h,Nat.gcd_zero_left];exact ai
 ·exact yx (Nat.gcd_le_left _ h) J
def Js:=bG iO λ(s,l,s2,X)=>b8 (D l<=1000000/\D X<=1000000) (.same (en (mA (s,l) (s2,X))))
@[go_sem] def az1 (s l s2 X):=cj Js rfl qI (s,l,s2,X) rfl
def am6 (T:bg)(fa:T kF=aE tN)(hJ:T wG=aE Aa)(rq:T IG=aE Jh)(hp:T oc=aE yt)(oY:T tJ=aE Fq):WF T ZW Js:=by
 refine b5 λ(s,l,s2,X)=>cn λU=>⟨rfl,b4 ?_⟩;simp only[ZW,iO,bV];obtain⟨bq,bp⟩:=U
 by_cases L:cI (s,l)=true
 ·by_cases aU:cI (s2,X)=true
  ·obtain⟨x,J,e⟩:=(ho _).1 L;obtain⟨y,ai,ax⟩:=(ho _).1 aU
   have hm:mA (s,l) (s2,X)=(a9 (gq x.natAbs y.natAbs:Nat),0):=by
    rw[e,ax];unfold mA
    rw[jZ J,jZ ai,eJ,eJ]
    rfl
   rw[hm];clear hm
   cases e
   cases ax;have mz:=m4 J;have k2:=m4 ai;have aL:=Fv J ai;generalize oh:x.natAbs=c7 at *;generalize yJ:y.natAbs=nq at *;have Jt:(aF c7).length<=1000000:=by omega
   simp only[go_sem,go_sem_proc,fa,hJ,rq,hp,oY,L,aU,oh,yJ,bq,bp,Jt,aG,ah];refine cV [4] [137004] (λ((a,b):Nat×Nat) tm mem=>a<cW/\b<cW/\gq c7 nq=gq a b/\tm 6=.I (.ao ((aF a).map aG))/\tm 7=.I (.ao ((aF b).map aG))) (λ(_,b)=>b) (c7,nq) (by refine⟨J,ai,rfl,rfl,rfl⟩) ?_;intro vs ms aI aD;simp only[go_sem,go_sem_proc,fa,hJ,rq,hp,oY,oh,yJ] at aI aD;subst aI aD;rintro⟨a,b⟩ tm mem Q hm ⟨ba,R,vg,bx,bK⟩;simp only[go_sem,go_sem_proc,fa,hJ,rq,hp,oY,bj] at Q hm;have aX:=Q;have nj:(aF a).length<=60:=fX.2 ba;have qE:(aF b).length<=60:=fX.2 R;rcases ln b with aq|h3
   ·subst aq;have a0:aF 0=[]:=rfl;have T2:(aF a).length<=1000000:=by omega
    rw[Nat.gcd_zero_right] at vg;have O:jX 1 (aF a)=a9 ((a:Nat):Int):=m3 (by simp) λaA=>(gp (by omega)).symm;have Q:nR ((a:Nat):Int)=(a9 ((a:Nat):Int),0):=by unfold nR;rw[aJ (by simpa using ba)]
    rw[vg];refine af ?_;repeat' (intro h<;>simp only[h,go_sem,go_sem_proc,fa,hJ,rq,hp,oY,aX,bx,bK,hm,a0,T2,O,Q,vd,b3,en,ot,bN,mV,oe,oV,show ¬ ((0:Int)>0) by omega,decide_false]<;>try refine ab ?_ ?_)
   ·have bo:decide (((aF b).length:Int)>0)=true:=by
     have:aF b≠[]:=by rw[Ne,yh];omega
     have:=aby.2 this;exact c5
    have hdiv:=aa3 a b ⟨by omega,by omega,h3⟩
    simp only[du] at hdiv;refine af ?_;repeat' (intro h<;>simp only[h,go_sem,go_sem_proc,fa,hJ,rq,hp,oY,aX,bx,bK,hm,bo,hdiv,ah]<;>try refine ab ?_ ?_)
    exact⟨(b,a%b),oQ _ h3,R,yx (Nat.mod_le _ _) ba,by dsimp only;rw[vg,Ju a b,Nat.gcd_rec b a,Ju],rfl,rfl⟩
  ·have aU:cI (s2,X)=false:=by simpa using aU
   have hm:mA (s,l) (s2,X)=((0,[]),1):=by unfold mA;rw[aU,iZ];rfl
   rw[hm];have ly:=Fs false 0 [];simp only[bN] at ly;refine af ?_;repeat' (intro h<;>simp only[h,go_sem,go_sem_proc,fa,hJ,rq,hp,oY,L,aU,bq,bp,ly,b3,en,bN]<;>try refine ab ?_ ?_)
 ·have L:cI (s,l)=false:=by simpa using L
  have hm:mA (s,l) (s2,X)=((0,[]),1):=by unfold mA;rw[L,eN];rfl
  rw[hm];have ly:=Fs false 0 [];simp only[bN] at ly;refine af ?_;repeat' (intro h<;>simp only[h,go_sem,go_sem_proc,fa,hJ,rq,hp,oY,L,bq,bp,ly,b3,en,bN]<;>try refine ab ?_ ?_)
def l1 (a b:Raw):Raw×Raw×Int :=
 if (cI a&&cI b)=true then
  if gO b=0 then ((0,[]),(0,[]),15) else (a9 ((gO a).fdiv (gO b)),a9 ((gO a).fmod (gO b)),0)
 else ((0,[]),(0,[]),1)
def km (x:Raw×Raw×Int):Data:=.dp [.agg (b3 x.1),.agg (b3 x.2.1),.int .i64 x.2.2]
def abz {x y q r:Int}(h:r+y*q=x)(L:(0<=r/\r<y)\/(y<r/\r<=0)):x.fdiv y=q/\x.fmod y=r:=by
 rcases L with ⟨F,G⟩|⟨F,G⟩
 ·exact (Int.fdiv_fmod_unique (by omega)).2 ⟨h,F,G⟩
 ·exact (Int.fdiv_fmod_unique' (by omega)).2 ⟨h,F,G⟩
def NZ {x y:Int}(h:x.sign*y.sign<0)(hm:x.natAbs%y.natAbs≠0):
  x.fdiv y = -((x.natAbs/y.natAbs+1:Nat):Int)/\x.fmod y=y.sign*((y.natAbs-x.natAbs%y.natAbs:Nat):Int):=by
 have G:=Nh x.natAbs y.natAbs;generalize e5:x.natAbs/y.natAbs=a3 at *;generalize ec:x.natAbs%y.natAbs=bF at *
 have ai:0<y.natAbs:=by
  rcases ln y.natAbs with aq|aq
  ·rw[Int.natAbs_eq_zero.1 aq] at h;simp at h
  ·exact aq
 have an:bF<y.natAbs:=by rw[<-ec];exact oQ _ ai
 have uT:(y.natAbs:Int)*a3+bF=x.natAbs:=by exact_mod_cast G
 refine abz ?_ ?_
 ·rcases kl x with ⟨e,F⟩|⟨e,F⟩|⟨e,F⟩<;>rcases kl y with ⟨e',aa⟩|⟨e',aa⟩|⟨e',aa⟩<;>rw[e,e'] at h<;>first|omega|rw[e']
  ·rw[abA (by omega),abB,Ff,h9];have:(y.natAbs:Int) = -y:=by omega
   rw[this] at uT ⊢;rw[Ck] at uT;omega
  ·rw[abA (by omega),abB,Ff,h9];have:(y.natAbs:Int)=y:=by omega
   rw[this] at uT ⊢;omega
 ·rcases kl y with ⟨e',aa⟩|⟨e',aa⟩|⟨e',aa⟩<;>rw[e']<;>omega
def N0 {x y:Int}(ai:y≠0)(h:¬ (x.sign*y.sign<0/\x.natAbs%y.natAbs≠0)):
  x.fdiv y=x.sign*y.sign*((x.natAbs/y.natAbs:Nat):Int)/\x.fmod y=x.sign*((x.natAbs%y.natAbs:Nat):Int):=by
 have G:=Nh x.natAbs y.natAbs;have an:x.natAbs%y.natAbs<y.natAbs:=oQ _ (by omega);generalize e5:x.natAbs/y.natAbs=a3 at *;generalize ec:x.natAbs%y.natAbs=bF at *;have uT:(y.natAbs:Int)*a3+bF=x.natAbs:=by exact_mod_cast G
 refine abz ?_ ?_
 ·rcases kl x with ⟨e,F⟩|⟨e,F⟩|⟨e,F⟩<;>rcases kl y with ⟨e',aa⟩|⟨e',aa⟩|⟨e',aa⟩<;>first|omega|(rw[e,e'])
  ·rw[show (y.natAbs:Int)=y by omega] at uT;simp only[oj];omega
  ·rw[show (y.natAbs:Int) = -y by omega,Ck] at uT;simp only[oj,Ck,Ff];omega
  ·simp only[yK,wP];omega
  ·simp only[yK,wP];omega
  ·rw[show (y.natAbs:Int)=y by omega] at uT;simp only[oj,Ck,Ff,qB];omega
  ·rw[show (y.natAbs:Int) = -y by omega,Ck] at uT;simp only[oj,Ck,Ff,Int.neg_neg];omega
 ·have amH:x.natAbs=0->bF=0:=by
   intro aq;rw[<-ec,aq,abC]
  rcases kl x with ⟨e,F⟩|⟨e,F⟩|⟨e,F⟩<;>rcases kl y with ⟨e',aa⟩|⟨e',aa⟩|⟨e',aa⟩<;>rw[e,e'] at h<;>rw[e]<;>omega
def Fw {x y:Int}(J:x.natAbs<cW)(hL:y≠0):(x.fdiv y).natAbs<cW:=by
 by_cases h:x.sign*y.sign<0/\x.natAbs%y.natAbs≠0
 ·have aj:=(NZ h.1 h.2).1;have G:=Nh x.natAbs y.natAbs
  have:x.natAbs/y.natAbs+1<=x.natAbs:=by
   have Cn:2<=y.natAbs:=by
    rcases gX y.natAbs 2 with aq|aq
    ·have:y.natAbs=1:=by omega
     rw[this,Nat.mod_one] at h;exact absurd rfl h.2
    ·exact aq
   have aa:2*(x.natAbs/y.natAbs)<=y.natAbs*(x.natAbs/y.natAbs):=q7 _ Cn;omega
  generalize x.natAbs/y.natAbs=a3 at *;omega
 ·have aj:=(N0 hL h).1;have aa:x.natAbs/y.natAbs<=x.natAbs:=abD _ _
  have aX:(x.fdiv y).natAbs<=x.natAbs/y.natAbs:=by
   rw[aj,yF,yF,nr];have F:x.sign.natAbs<=1:=by have:=m5 x;omega
   have G:y.sign.natAbs<=1:=by have:=m5 y;omega
   have:=Nat.mul_le_mul F G;have:=q7 (x.natAbs/y.natAbs) this;omega
  omega
def abE {x y:Int}(ai:y.natAbs<cW)(hL:y≠0):(x.fmod y).natAbs<cW:=by
 by_cases h:x.sign*y.sign<0/\x.natAbs%y.natAbs≠0
 ·have aj:=(NZ h.1 h.2).2;rcases kl y with ⟨e',aa⟩|⟨e',aa⟩|⟨e',aa⟩<;>rw[e'] at aj<;>omega
 ·have aj:=(N0 hL h).2;have an:x.natAbs%y.natAbs<y.natAbs:=oQ _ (by omega);rcases kl x with ⟨e',aa⟩|⟨e',aa⟩|⟨e',aa⟩<;>rw[e'] at aj<;>omega
def yL {x y:Int}(J:x.natAbs<cW)(ai:y.natAbs<cW)(aq:y≠0):l1 (a9 x) (a9 y)=(a9 (x.fdiv y),a9 (x.fmod y),0):=by
 unfold l1;rw[jZ J,jZ ai,eJ,eJ,aJ (by rfl),aR aq]
def Jv:=bG iO λ(s,l,s2,X)=>b8 (D l<=1000000/\D X<=1000000) (.same (km (l1 (s,l) (s2,X))))
@[go_sem] def az2 (s l s2 X):=cj Jv rfl qI (s,l,s2,X) rfl
def am7 (T:bg)(fa:T kF=aE tN)(rq:T IG=aE Jh)(tZ:T IJ=aE I4)(ua:T EU=aE I6)(hp:T oc=aE yt):WF T Z0 Jv:=by
 refine b5 λ(s,l,s2,X)=>cn λU=>⟨rfl,b4 ?_⟩;simp only[Z0,iO,bV];obtain⟨bq,bp⟩:=U
 by_cases L:cI (s,l)=true
 ·by_cases aU:cI (s2,X)=true
  ·obtain⟨x,J,e⟩:=(ho _).1 L;obtain⟨y,ai,ax⟩:=(ho _).1 aU
   by_cases hL:y=0
   ·have hm:l1 (s,l) (s2,X)=((0,[]),(0,[]),15):=by
     rw[e,ax];unfold l1
     rw[jZ J,jZ ai,eJ,eJ,aJ (by rfl),aJ hL]
    rw[hm]
    cases e
    cases ax;have aq:((y.sign:Int)==0)=true:=by rw[hL];rfl
    refine af ?_;repeat' (intro (ag:_=_)<;>simp only[ag,go_sem,go_sem_proc,fa,rq,tZ,ua,hp,L,aU,bq,bp,aq,b3,km,bN]<;>try refine ab ?_ ?_)
   ·have hm:l1 (s,l) (s2,X)=(a9 (x.fdiv y),a9 (x.fmod y),0):=by
     rw[e,ax];exact yL J ai hL
    rw[hm];clear hm
    cases e
    cases ax;have mz:=m4 J;have k2:=m4 ai;have Co:(y.sign==0)=false:=by rw[beq_eq_false_iff_ne,Ne,Int.sign_eq_zero_iff_zero];exact hL
    have Cp:0<y.natAbs:=by omega
    have F:=m5 x;have G:=m5 y;have aP:x.sign*y.sign=(x*y).sign:=(nS x y).symm;have aa:=m5 (x*y);have hw:IntKind.i64.wrap (x.sign*y.sign)=x.sign*y.sign:=by rw[aP];exact wrap64 _ (by omega) (by omega)
    have hdiv:=aa3 x.natAbs y.natAbs ⟨by omega,by omega,Cp⟩
    simp only[du] at hdiv;have aS:=Fw (y:=y) J hL;have Fx:=abE (x:=x) ai hL;have T3:x.natAbs/y.natAbs<cW:=yx (abD _ _) J;have am8:(aF (x.natAbs/y.natAbs)).length<=60:=fX.2 T3;have yM:x.natAbs%y.natAbs<cW:=Nat.lt_trans (oQ _ Cp) ai;have am9:(aF (x.natAbs%y.natAbs)).length<=60:=fX.2 yM
    by_cases sJ:x.sign*y.sign<0/\x.natAbs%y.natAbs≠0
    ·obtain⟨eq,sK⟩:=NZ sJ.1 sJ.2
     have bo:decide (((aF (x.natAbs%y.natAbs)).length:Int)>0)=true:=by
      have:aF (x.natAbs%y.natAbs)≠[]:=by rw[Ne,yh];exact sJ.2
      have:=aby.2 this;exact c5
     have l0:decide (x.sign*y.sign<0)=true:=mL sJ.1;have jY:aF 1=[1]:=by simp[aF,wE]
     have ana:(aF 1).length=1:=by rw[jY];rfl
     have sI:=aax (x.natAbs/y.natAbs) 1 ⟨by omega,by omega⟩
     simp only[du,jY,gZ,bN,aG] at sI;have g1:=Tu y.natAbs (x.natAbs%y.natAbs) ⟨by omega,Nat.le_of_lt (oQ _ Cp)⟩
     simp only[du] at g1
     have nj:(aF (x.natAbs/y.natAbs+1)).length<=1000000:=by
      have:(x.natAbs/y.natAbs+1)<cW:=by rw[eq] at aS;rw[rr,nr] at aS;exact aS
      have:=(fX (k:=60)).2 this;omega
     have qE:(aF (y.natAbs-x.natAbs%y.natAbs)).length<=1000000:=by have:=Ft y.natAbs (x.natAbs%y.natAbs);omega
     have ft:jX (-1) (aF (x.natAbs/y.natAbs+1))=a9 (x.fdiv y):=m3 (by rw[eq,rr,nr]) λ_=>by rw[eq,yG,gp (show (0:Int)<((x.natAbs/y.natAbs+1:Nat):Int) by exact Cq.2 (Nat.succ_pos _))]
     have hN:jX y.sign (aF (y.natAbs-x.natAbs%y.natAbs))=a9 (x.fmod y):=by
      refine m3 ?_ λaA=>?_
      ·rw[sK];rcases kl y with ⟨e',aa⟩|⟨e',aa⟩|⟨e',aa⟩<;>rw[e']<;>omega
      ·rw[sK,nS,yN,gp (show (0:Int)<((y.natAbs-x.natAbs%y.natAbs:Nat):Int) by omega),qB]
     refine af ?_;repeat' (intro (ag:_=_)<;>simp only[ag,go_sem,go_sem_proc,fa,rq,tZ,ua,hp,L,aU,bq,bp,Co,hw,hdiv,bo,l0,sI,g1,nj,qE,ft,hN,aG,ah,b3,km,ot]<;>try refine ab ?_ ?_)
    ·obtain⟨eq,sK⟩:=N0 hL sJ
     have T4:(decide (x.sign*y.sign<0)=true/\decide (((aF (x.natAbs%y.natAbs)).length:Int)>0)=false)\/decide (x.sign*y.sign<0)=false:=by
      by_cases aA:x.sign*y.sign<0
      ·left
       have:x.natAbs%y.natAbs=0:=Decidable.not_not.1 λh=>sJ ⟨aA,h⟩;rw[this];exact⟨mL aA,rfl⟩
      ·right;exact me aA
     have nj:(aF (x.natAbs/y.natAbs)).length<=1000000:=by omega
     have qE:(aF (x.natAbs%y.natAbs)).length<=1000000:=by omega
     have ft:jX (x.sign*y.sign) (aF (x.natAbs/y.natAbs))=a9 (x.fdiv y):=by
      refine m3 ?_ λaA=>?_
      ·rw[eq]
       have ub:∀a3:Nat,(x=0->a3=0)->(x.sign*y.sign*(a3:Int)).natAbs=a3:=by
        intro a3 aq;rcases kl x with ⟨e,F⟩|⟨e,F⟩|⟨e,F⟩<;>rcases kl y with ⟨e',aa⟩|⟨e',aa⟩|⟨e',aa⟩<;>rw[e,e']<;>first|omega|(rw[aq F];rfl)
       exact ub _ λaq=>by rw[aq];exact Nat.zero_div _
      ·rw[eq,aP,nS,nS,nS,yN,yN,gp (show (0:Int)<((x.natAbs/y.natAbs:Nat):Int) from Cq.2 (EJ aA)),qB]
     have hN:jX x.sign (aF (x.natAbs%y.natAbs))=a9 (x.fmod y):=by
      refine m3 ?_ λaA=>?_
      ·rw[sK]
       have ub:∀a3:Nat,(x=0->a3=0)->(x.sign*(a3:Int)).natAbs=a3:=by
        intro a3 aq;rcases kl x with ⟨e,F⟩|⟨e,F⟩|⟨e,F⟩<;>rw[e]<;>first|omega|(rw[aq F];rfl)
       exact ub _ λaq=>by rw[aq];exact abC _
      ·rw[sK,nS,yN,gp (show (0:Int)<((x.natAbs%y.natAbs:Nat):Int) from Cq.2 (EJ aA)),qB]
     rcases T4 with ⟨Cr,T5⟩|Cr
     ·refine af ?_;repeat' (intro (ag:_=_)<;>simp only[ag,go_sem,go_sem_proc,fa,rq,tZ,ua,hp,L,aU,bq,bp,Co,hw,hdiv,Cr,T5,nj,qE,ft,hN,aG,ah,b3,km,ot]<;>try refine ab ?_ ?_)
     ·refine af ?_;repeat' (intro (ag:_=_)<;>simp only[ag,go_sem,go_sem_proc,fa,rq,tZ,ua,hp,L,aU,bq,bp,Co,hw,hdiv,Cr,nj,qE,ft,hN,aG,ah,b3,km,ot]<;>try refine ab ?_ ?_)
  ·have aU:cI (s2,X)=false:=by simpa using aU
   have hm:l1 (s,l) (s2,X)=((0,[]),(0,[]),1):=by unfold l1;rw[aU,iZ];rfl
   rw[hm];refine af ?_;repeat' (intro (ag:_=_)<;>simp only[ag,go_sem,go_sem_proc,fa,rq,tZ,ua,hp,L,aU,bq,bp,b3,km,bN]<;>try refine ab ?_ ?_)
 ·have L:cI (s,l)=false:=by simpa using L
  have hm:l1 (s,l) (s2,X)=((0,[]),(0,[]),1):=by unfold l1;rw[L,eN];rfl
  rw[hm];refine af ?_;repeat' (intro (ag:_=_)<;>simp only[ag,go_sem,go_sem_proc,fa,rq,tZ,ua,hp,L,bq,bp,b3,km,bN]<;>try refine ab ?_ ?_)
def dX (n:Int):Prop:=-9223372036854775808<=n/\n<=9223372036854775807
def anb {n:Nat}(h:n<=9223372036854775808):n<cW:=by
 unfold cW;refine Bg (m:=1048576^4) ?_ (Am (by omega) (by omega));omega
def yO {n:Int}(h:dX n):n.natAbs<cW:=anb (by unfold dX at h;omega)
def T6 (n:Int)(F:-18446744073709551616<=n)(G:n<0):IntKind.u64.wrap n=n+18446744073709551616:=by
 unfold IntKind.wrap;simp[IntKind.bits,IntKind.signed];omega
def N1:=bG tM λ(n:Int)=>b8 (dX n) (.same (.agg (b3 (a9 n))))
@[go_sem] def az3 (n):=cj N1 rfl I0 n rfl
def anc (T:bg)(hp:T oc=aE yt):WF T ZY N1:=by
 refine b5 λn=>cn λU=>⟨rfl,b4 ?_⟩;simp only[ZY,tM,bV];have uU:=U;unfold dX at uU;obtain⟨uM,qi⟩:=uU;have O:∀s:Int,(n≠0->s=n.sign)->jX s (aF n.natAbs)=a9 n:=λs h=>m3 rfl λbo=>h (by omega);have hlen:(aF n.natAbs).length<=60:=fX.2 (yO U);rcases dt (n<0) with l0|h3
 ·have hw:=T6 n (by omega) l0
  have gn:IntKind.u64.wrap (0-(n+18446744073709551616))=(n.natAbs:Int):=by
   rw[T6 _ (by omega) (by omega)];omega
  simp only[go_sem,go_sem_proc,hp,l0,hw,gn,decide_true];refine cV [2,3] [150002] (λ((u,g,l):Nat×Nat×List Int) tm mem=>u<=9223372036854775808/\aF n.natAbs=l++aF u/\tm 4=.I (.int .u64 u)/\tm 5=.ref 150021 g 1 0 (D l)/\mem 150021=some (g,aQ aG l)) (λ(u,_)=>u) (n.natAbs,0,[]) (by refine⟨by omega,rfl,?_,rfl,rfl⟩;rfl) ?_;intro vs ms aI aD;simp only[go_sem,go_sem_proc,hp] at aI aD;subst aI aD;rintro⟨u,g,l⟩ tm mem Q hm ⟨hu,ad,aX,bt,qJ⟩;simp only[go_sem,go_sem_proc,hp,bj] at Q hm;obtain⟨G,aa⟩:=Q;rcases ln u with aq|Ao
  ·subst aq;rw[sq,mX] at ad;rw[ad] at O hlen;have Ap:(D l)<=1000000:=by omega
   have eG:=O (-1) (λ_=>by exact (kJ l0).symm);refine af ?_;repeat' (intro (ag:_=_)<;>simp only[ag,go_sem,go_sem_proc,hp,G,aa,aX,bt,hm,qJ,eG,Ap,b3,oe,oV,ah,show ¬ ((0:Int)>0) by omega,decide_false,sl jA,mB]<;>try refine ab ?_ ?_)
  ·have yB:(D l)<=60:=by
    have:=congrArg D ad;rw[ks] at this;omega
   have kE:decide ((u:Int)>0)=true:=c5;have cY:∀a:Int,lf 150021 g 1 (D l) 8 1 [.I (.int .i64 a)] (some (g,aQ aG l))=_:=λa=>lq jA wF 150021 g 8 l a rfl (by omega) (by omega);have hand:=ZS u ⟨by omega,by omega⟩
   have Ep:IntKind.i64.wrap ((u:Int)%1048576)=(u:Int)%1048576:=wrap64 _ (by omega) (by omega);refine af ?_;repeat' (intro (ag:_=_)<;>simp only[ag,go_sem,go_sem_proc,hp,G,aa,aX,bt,hm,qJ,kE,cY,hand,Ep,u6,show ((20:Int)<0)=False from by simp,if_false,ah,bj]<;>try refine ab ?_ ?_)
   refine⟨(u/1048576,g+1,l++[(u:Int)%1048576]),by dsimp only;omega,by dsimp only;omega,by dsimp only;rw[ki,ad,tF Ao];rfl,by first|rfl|(dsimp only;rw[yk _ ⟨by omega,by omega⟩];rfl),by simp,by simp[go_sem]⟩
 ·have hw:IntKind.u64.wrap n=(n.natAbs:Int):=by rw[yk _ ⟨by omega,by omega⟩];omega
  simp only[go_sem,go_sem_proc,hp,h3,hw,decide_false];refine cV [2,3] [150002] (λ((u,g,l):Nat×Nat×List Int) tm mem=>u<=9223372036854775808/\aF n.natAbs=l++aF u/\tm 4=.I (.int .u64 u)/\tm 5=.ref 150021 g 1 0 (D l)/\mem 150021=some (g,aQ aG l)) (λ(u,_)=>u) (n.natAbs,0,[]) (by refine⟨by omega,rfl,?_,rfl,rfl⟩;rfl) ?_;intro vs ms aI aD;simp only[go_sem,go_sem_proc,hp] at aI aD;subst aI aD;rintro⟨u,g,l⟩ tm mem Q hm ⟨hu,ad,aX,bt,qJ⟩;simp only[go_sem,go_sem_proc,hp,bj] at Q hm;obtain⟨G,aa⟩:=Q;rcases ln u with aq|Ao
  ·subst aq;rw[sq,mX] at ad;rw[ad] at O hlen;have Ap:(D l)<=1000000:=by omega
   have eG:=O 1 (λ_=>by exact (gp (by omega)).symm);refine af ?_;repeat' (intro (ag:_=_)<;>simp only[ag,go_sem,go_sem_proc,hp,G,aa,aX,bt,hm,qJ,eG,Ap,b3,oe,oV,ah,show ¬ ((0:Int)>0) by omega,decide_false,sl jA,mB]<;>try refine ab ?_ ?_)
  ·have yB:(D l)<=60:=by
    have:=congrArg D ad;rw[ks] at this;omega
   have kE:decide ((u:Int)>0)=true:=c5;have cY:∀a:Int,lf 150021 g 1 (D l) 8 1 [.I (.int .i64 a)] (some (g,aQ aG l))=_:=λa=>lq jA wF 150021 g 8 l a rfl (by omega) (by omega);have hand:=ZS u ⟨by omega,by omega⟩
   have Ep:IntKind.i64.wrap ((u:Int)%1048576)=(u:Int)%1048576:=wrap64 _ (by omega) (by omega);refine af ?_;repeat' (intro (ag:_=_)<;>simp only[ag,go_sem,go_sem_proc,hp,G,aa,aX,bt,hm,qJ,kE,cY,hand,Ep,u6,show ((20:Int)<0)=False from by simp,if_false,ah,bj]<;>try refine ab ?_ ?_)
   refine⟨(u/1048576,g+1,l++[(u:Int)%1048576]),by dsimp only;omega,by dsimp only;omega,by dsimp only;rw[ki,ad,tF Ao];rfl,by first|rfl|(dsimp only;rw[yk _ ⟨by omega,by omega⟩];rfl),by simp,by simp[go_sem]⟩
end Go.Mini
