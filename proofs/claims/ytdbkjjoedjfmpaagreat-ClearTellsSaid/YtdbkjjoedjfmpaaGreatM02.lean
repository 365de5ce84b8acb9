/- A part of the proof. -/
import Derived.Laws.BitsLemmas
import Derived.ChangeSame
import Derived.Handed
import Derived.JoinedOf
import Derived.JoinedCond
import Derived.OpenShut
import Derived.ProofKit
import Derived.Test.YtdbkjjoedjfmpaaGreatM01
set_option linter.unusedSimpArgs false
set_option linter.unusedVariables false
set_option maxRecDepth 100000
set_option maxHeartbeats 4000000
noncomputable section
open Bool renaming and_eq_true->fw,and_false->jB,and_true->Ah,false_and->eR,false_eq_true->j3,false_or->afZ,not_false->db,not_true->cw,or_false->qc,or_true->Ag,true_and->fD,true_or->afY
open Classical renaming choose->yG,choose_spec->q3
open Decidable renaming em->dc
open Int renaming add_comm->yV,add_mul->ur,add_mul_ediv_left->agQ,add_mul_emod_self_left->agS,add_zero->ra,bmod_def->agl,cast_ofNat_Int->qh,ediv_eq_zero_of_lt->Wz,ediv_lt_of_lt_mul->agT,ediv_nonneg->WB,emod_add_mul_ediv->Ct,emod_emod_of_dvd->agm,emod_eq_of_lt->WA,emod_lt_of_pos->WE,emod_nonneg->WD,lt_trichotomy->uv,mul_add->iN,mul_assoc->iO,mul_comm->nG,mul_le_mul->Wt,mul_le_mul_of_nonneg_left->vG,mul_le_mul_of_nonneg_right->lA,mul_left_comm->WG,mul_neg->HF,mul_nonneg->uq,mul_one->r3,mul_right_comm->CA,mul_sub->HA,mul_zero->yX,natAbs_mul->tb,natAbs_natCast->k4,natAbs_neg->xq,natCast_add->ahC,natCast_ediv->agP,natCast_emod->agR,natCast_mul->aha,natCast_pos->CG,natCast_pow->EF,natCast_zero->qg,neg_mul->EM,ofNat_sub->ahB,one_mul->ql,pow_add->agN,pow_pos->HI,pow_succ->nF,sign_eq_neg_one_of_neg->nk,sign_eq_one_of_pos->g7,sign_mul->oz,sign_mul_natAbs->HN,sign_neg->EN,sign_sign->AK,sign_trichotomy->Ly,sub_mul->ag3,sub_zero->Cv,tdiv_eq_ediv_of_nonneg->HE,tmod_eq_emod_of_nonneg->Li,toNat->Ek,toNat_natCast->jE,zero_add->Ww,zero_mul->y1
open List renaming all_cons->w7,all_eq_true->pz,append_assoc->gT,append_inj->Hv,append_nil->gS,concat_eq_append->yO,cons_append->mj,drop->iP,drop_append->r0,drop_drop->G0,drop_eq_getElem_cons->h9,drop_eq_nil_of_le->lO,drop_left->UE,drop_length->UH,drop_set_of_lt->tY,drop_zero->nD,eq_nil_of_length_eq_zero->tW,eq_nil_or_concat->yN,flatMap_cons->qd,flatten_cons->j1,getElem?_append->GK,getElem?_drop->qX,getElem?_eq_getElem->bq,getElem?_eq_some_iff->ej,getElem?_map->bj,getElem_set_self->Ax,length->D,length_append->fX,length_cons->jO,length_drop->nE,length_map->aE,length_nil->nC,length_pos_iff->LD,length_range->r1,length_set->jF,length_take->gv,mapM_cons->ny,mapM_nil->afX,map_cons->ey,map_nil->cC,mem_append->jb,mem_cons->lS,mem_flatMap->Ea,mem_iff_getElem?->yJ,mem_map->fO,mem_of_getElem?->dn,mem_of_mem_drop->Lp,mem_of_mem_take->z5,mem_range->iM,mem_replicate->HB,mem_singleton->xk,nil_append->hX,range->eN,replicate->et,replicate_succ->sR,take->hY,take_add_one->gB,take_append_drop->vz,take_left->UD,take_length->nQ,take_of_length_le->dp,take_succ_cons->sW,take_zero->mU
open List.cons renaming inj->xg,injEq->bk
open Nat renaming add_assoc->tT,add_mul->qO,add_sub_cancel_left->Hc,add_zero->lP,and_two_pow_sub_one_eq_mod->agn,div_add_mod->Pf,div_eq_of_lt->UG,div_le_self->ahF,div_lt_iff_lt_mul->agk,eq_zero_or_pos->ko,gcd->gU,gcd_comm->LF,le_refl->cH,le_trans->e4,lt_of_le_of_lt->uo,lt_of_lt_of_le->DO,lt_or_ge->g2,min_eq_left->oS,mod_eq_of_lt->KK,mod_lt->oX,mul_comm->sY,mul_le_mul_left->ahc,mul_le_mul_right->og,mul_one->dY,pos_of_ne_zero->Hf,pow_le_pow_right->nK,pow_succ->vB,strongRecOn->Uu,zero_add->qW,zero_le->fm,zero_mod->ahD,zero_mul->Pc
open Option renaming bind_eq_bind->hT,bind_eq_some_iff->fa,bind_some->yH,map_eq_some_iff->e1,map_some->lu,pure_def->hH
open Option.some renaming inj->oh,injEq->cL
open Prod renaming ext->dN,ext_iff->Hw
open Prod.mk renaming injEq->fS
namespace Go.Mini
open Go
def O7 {ι:Type}(T:bl)(dT:ι->bo->Prop)(m:ι->Nat)(i:ι)(K:eI->bo->Prop)(k:List fJ):eI->bo->Prop
 |.normal,st=>∃bm,m bm<m i/\dT bm st
 |.exit id,st=>cd T K k (.exit id) st
 |.ret,st=>cd T K k .ret st
@[go_sem] theorem aru {ι:Type}(T:bl)(dT:ι->bo->Prop)(m:ι->Nat)(i:ι)(K:eI->bo->Prop)(k:List fJ)(st:bo):O7 T dT m i K k .normal st=∃bm,m bm<m i/\dT bm st:=b8
open Classical in
theorem arv {ι:Type}{T:bl}{K:eI->bo->Prop}{k:List fJ}{st:bo}{c:er}(dT:ι->bo->Prop)(m:ι->Nat)(i0:ι)(ax:dT i0 st)(h:∀i st,dT i st->wp T c (cd T (O7 T dT m i K k) []) st):
  wp T (.loop c) (cd T K k) st:=by
 have least:∀st,(∃i,dT i st)->∃i,dT i st/\∀j,dT j st->m i<=m j:=by
  intro st ⟨i,Q⟩
  have:∀n i,m i=n->dT i st->∃i,dT i st/\∀j,dT j st->m i<=m j:=by
   intro n
   induction n using Uu with
   |_ n aN =>
    intro i aM Q
    by_cases M:∃j,dT j st/\m j<m i
    ·obtain⟨j,aA,az⟩:=M;exact aN (m j) (by omega) j rfl aA
    ·refine⟨i,Q,λj aA=>?_⟩;rcases g2 (m j) (m i) with cW|cW
     ·exact absurd ⟨j,aA,cW⟩ M
     ·exact cW
  exact this _ i rfl Q
 refine⟨λst=>∃i,dT i st,λst=>if M:∃i,dT i st then m (yG (least st M)) else 0,⟨i0,ax⟩,λst dF=>?_⟩;have jA:=q3 (least st dF);have:=h _ st jA.1
 have L:cd T (O7 T dT m (yG (least st dF)) K k) []=λe ew=>match e with
   |.normal=>(∃i,dT i ew)/\(if M:∃i,dT i ew then m (yG (least ew M)) else 0)<(if M:∃i,dT i st then m (yG (least st M)) else 0)
   |e=>cd T K k e ew:=by
  funext e ew
  cases e with
  |normal =>
   simp only[aqq,aru];apply propext
   constructor
   ·rintro⟨bm,az,aA⟩;have hex:∃i,dT i ew:=⟨bm,aA⟩;refine⟨hex,?_⟩;rw[dif_pos hex,dif_pos dF];have:=(q3 (least ew hex)).2 bm aA;omega
   ·rintro⟨hex,az⟩;rw[dif_pos hex,dif_pos dF] at az;exact⟨_,az,(q3 (least ew hex)).1⟩
  |exit id=>rfl
  |ret=>rfl
 rw[L] at this;exact this
section
variable {aR:List Data->Option eL} {mem:Mem} {st:bo} {res:List pv}
@[go_sem] theorem aIW (ds:List Data)(x:Option (List Data)):G8 aR (some ds) x=(aR ds).map O5:=b8
@[go_sem] theorem aIX (x:Option (List Data)):G8 aR none x=O6 aR x:=b8
@[go_sem] theorem aIY (ds:List Data):O6 aR (some ds)=(aR ds).bind G7:=b8
@[go_sem] theorem aIZ (r:Data):O5 (.same r)=.same r:=b8
@[go_sem] theorem aI0 (sz:Nat)(es:List (List Data)):O5 (.own sz es)=.own sz es:=b8
@[go_sem] theorem aI1 (r:Data):G7 (.same r)=if scalar r=true then some (.same r) else none:=b8
@[go_sem] theorem O8 (n:Nat)(d:Data):dz n mem (.I d)=some d:=by cases n<;>rfl
@[go_sem] theorem arw (n:Nat):dz n mem .nil=some (.X []):=by cases n<;>rfl
@[go_sem] theorem aI2 (n:Nat)(cs:List R):dz (n+1) mem (.agg cs)=(cs.mapM (dz n mem)).map .agg:=b8
@[go_sem] theorem aI3 (n:Nat)(cs:List R):dz (n+1) mem (.c1 cs)=(cs.mapM (dz n mem)).map .c1:=b8
@[go_sem] theorem aI4 (n:Nat)(f:FuncId)(cs:List R):dz (n+1) mem (.gK f cs)=(cs.mapM (dz n mem)).map (.fn f):=b8
@[go_sem] theorem aI5 (r:eL)(id:Nat):Cf res r (.exit id) st=False:=b8
@[go_sem] theorem aI6 (r:eL):Cf res r .ret st=Ce res r st:=b8
@[go_sem] theorem aI7 (r:Data):Ce res (.same r) st=((qS st res).bind (dz 6 st.mem)=some r):=b8
@[go_sem] theorem aI8 (sz:Nat)(es:List (List Data)):Ce res (.own sz es) st=((qS st res).bind (uc sz st.mem)=some es):=b8
end
@[go_sem] theorem aI9 (x:Bool):ON (.I (.bool x)) true=some x:=by cases x<;>rfl
@[go_sem] theorem aJa (x:Bool):ON (.I (.bool x)) false=some (!x):=by cases x<;>rfl
attribute [go_sem] ey cC List.getElem?_cons_zero List.getElem?_cons_succ jO nC nD sW mU yH lu Option.map_none qW
 ny afX hH hT hX mj List.drop_succ_cons List.drop_nil List.take_nil cw db Ag afY qc afZ Ah fD jB eR w7 List.all_nil true_and and_true j3 bne
section
variable {T:bl} {K:eI->bo->Prop} {k:List fJ} {st:bo}
theorem arx {x:Bool}{i:du}{r:List du}(G:x=false->rT T K k (some true) i r st)(J:x=true->rT T K k (some false) i r st):rT T K k (some (!x)) i r st:=by
 cases x
 ·exact G rfl
 ·exact J rfl
theorem ary {x:Bool}{i:du}{r:List du}(G:x=true->rT T K k (some true) i r st)(J:x=false->rT T K k (some false) i r st):rT T K k (some x) i r st:=by
 cases x
 ·exact J rfl
 ·exact G rfl
theorem arz {x:Bool}{n:Nat}{i:du}{r:List du}{c:List (List Nat)}{rec:Rec}(G:x=false->rU T K k n (some true) i r c rec st)(J:x=true->rU T K k n (some false) i r c rec st):rU T K k n (some (!x)) i r c rec st:=by
 cases x
 ·exact G rfl
 ·exact J rfl
theorem arA {x:Bool}{n:Nat}{i:du}{r:List du}{c:List (List Nat)}{rec:Rec}(G:x=true->rU T K k n (some true) i r c rec st)(J:x=false->rU T K k n (some false) i r c rec st):rU T K k n (some x) i r c rec st:=by
 cases x
 ·exact J rfl
 ·exact G rfl
theorem arB {x:Bool}{a b:er}(G:x=false->qZ T K k (.I (.bool true)) a b st)(J:x=true->qZ T K k (.I (.bool false)) a b st):qZ T K k (.I (.bool (!x))) a b st:=by
 cases x
 ·exact G rfl
 ·exact J rfl
theorem arC {x:Bool}{a b:er}(G:x=true->qZ T K k (.I (.bool true)) a b st)(J:x=false->qZ T K k (.I (.bool false)) a b st):qZ T K k (.I (.bool x)) a b st:=by
 cases x
 ·exact J rfl
 ·exact G rfl
end
class Ee (bE:Prop) (A B:outParam Prop):Prop where
 go:A->B->bE
theorem ai {bE A B:Prop}[s:Ee bE A B](a:A)(b:B):bE:=s.go a b
theorem ak {bE:Prop}(h:true=true->bE):bE:=h rfl
instance {T K k i r st} {x:Bool}:Ee (rT T K k (some x) i r st) (x=true->rT T K k (some true) i r st) (x=false->rT T K k (some false) i r st):=⟨ary⟩
instance {T K k i r st} {x:Bool}:Ee (rT T K k (some (!x)) i r st) (x=false->rT T K k (some true) i r st) (x=true->rT T K k (some false) i r st):=⟨arx⟩
instance {T K k st a b} {x:Bool}:Ee (qZ T K k (.I (.bool x)) a b st) (x=true->qZ T K k (.I (.bool true)) a b st) (x=false->qZ T K k (.I (.bool false)) a b st):=⟨arC⟩
instance {T K k st a b} {x:Bool}:Ee (qZ T K k (.I (.bool (!x))) a b st) (x=false->qZ T K k (.I (.bool true)) a b st) (x=true->qZ T K k (.I (.bool false)) a b st):=⟨arB⟩
instance {T K k n i r c rec st} {x:Bool}:Ee (rU T K k n (some x) i r c rec st) (x=true->rU T K k n (some true) i r c rec st) (x=false->rU T K k n (some false) i r c rec st):=⟨arA⟩
instance {T K k n i r c rec st} {x:Bool}:Ee (rU T K k n (some (!x)) i r c rec st) (x=false->rU T K k n (some true) i r c rec st) (x=true->rU T K k n (some false) i r c rec st):=⟨arz⟩
attribute [go_sem] reduceIte Nat.reduceEqDiff Nat.reduceAdd Nat.reduceSub Nat.reduceMul Nat.reduceLeDiff reduceCtorEq Nat.reduceLT Nat.reduceBEq Int.reduceEq
attribute [go_sem] j3
def KE {ι:Type}(T:bl)(g1:List Nat)(oo:List Key)(vs:List R)(ms:List (Option (Nat×List R)))(dT:ι->(Nat->R)->Mem->Prop)(m:ι->Nat)(i:ι)(K:eI->bo->Prop)(k:List fJ):eI->bo->Prop
 |.normal,st=>∃bm,m bm<m i/\g1.map st.tm=vs/\oo.map st.mem=ms/\dT bm st.tm st.mem
 |.exit id,st=>cd T K k (.exit id) st
 |.ret,st=>cd T K k .ret st
section
variable {ι:Type} (T:bl) (g1:List Nat) (oo:List Key) (vs:List R) (ms:List (Option (Nat×List R))) (dT:ι->(Nat->R)->Mem->Prop) (m:ι->Nat) (i:ι) (K:eI->bo->Prop) (k:List fJ)
@[go_sem] theorem aJb (id:Nat)(st:bo):KE T g1 oo vs ms dT m i K k (.exit id) st=cd T K k (.exit id) st:=b8
@[go_sem] theorem aJc (st:bo):KE T g1 oo vs ms dT m i K k .ret st=cd T K k .ret st:=b8
@[go_sem] theorem aJd (st:bo):KE T g1 oo vs ms dT m i K k .normal st=∃bm,m bm<m i/\g1.map st.tm=vs/\oo.map st.mem=ms/\dT bm st.tm st.mem:=b8
end
theorem cU {ι:Type}{T:bl}{K:eI->bo->Prop}{k:List fJ}{G9:Nat->R}{en:Mem}{c:er}(g1:List Nat)(oo:List Key)(dT:ι->(Nat->R)->Mem->Prop)(m:ι->Nat)(i0:ι)(ax:dT i0 G9 en)
  (h:∀vs ms,g1.map G9=vs->oo.map en=ms->∀i tm mem,g1.map tm=vs->oo.map mem=ms->dT i tm mem->wp T c (cd T (KE T g1 oo vs ms dT m i K k) []) ⟨tm,mem⟩) :
  wp T (.loop c) (cd T K k) ⟨G9,en⟩:=by
 refine arv (λi st=>g1.map st.tm=g1.map G9/\oo.map st.mem=oo.map en/\dT i st.tm st.mem) m i0 ⟨rfl,rfl,ax⟩ ?_;rintro i ⟨tm,mem⟩ ⟨G,J,af⟩;have:=h _ _ rfl rfl i tm mem G J af
 have L:cd T (KE T g1 oo (g1.map G9) (oo.map en) dT m i K k) []=cd T (O7 T (λi (st:bo)=>g1.map st.tm=g1.map G9/\oo.map st.mem=oo.map en/\dT i st.tm st.mem) m i K k) []:=by
  funext e ew
  cases e<;>rfl
 rw[L] at this;exact this
theorem wp_mono {T:bl}:∀(c:er) (K jC:eI->bo->Prop),(∀e st,K e st->jC e st)->∀st,wp T c K st->wp T c jC st:=by
 intro c
 induction c with
 |skip=>exact λK jC h st=>h _ _
 |ops l =>
  intro K jC h st hw
  have:∀(l:List du) (K jC:bo->Prop),(∀st,K st->jC st)->∀st,yr T K l st->yr T jC l st:=by
   intro l
   induction l with
   |nil=>exact λK jC h st=>h st
   |cons i r aN =>
    intro K jC h st hw;unfold yr at hw ⊢
    split
    ·rename_i bz;rw[bz] at hw;exact hw
    ·rename_i g bz;rw[bz] at hw;simp only at hw ⊢
     split
     ·rename_i hL;rw[ad hL] at hw
      have jR:∀(K jC:bo->Prop),(∀st,K st->jC st)->hF T K i st->hF T jC i st:=by
       intro K jC h hw
       have H:∀d f args,vk T K st d f args->vk T jC st d f args:=by
        intro d f args hw;unfold vk at hw ⊢
        split
        ·rename_i aY;rw[aY] at hw;exact h _ hw
        ·rename_i aY;rw[aY] at hw;exact h _ hw
        ·rename_i aY;rw[aY] at hw;exact λr mem' Y=>h _ (hw r mem' Y)
        ·rename_i aY;rw[aY] at hw;exact h _ hw
        ·rename_i aY;rw[aY] at hw;exact hw
       unfold hF at hw ⊢
       split
       ·rename_i aY;rw[aY] at hw;exact H _ _ _ hw
       ·rename_i aY;rw[aY] at hw
        simp only at hw
        split
        ·rename_i ps;rw[ps] at hw
         simp only at hw
         split
         ·rename_i U;rw[ad U] at hw;exact h _ hw
         ·rename_i U;rw[ag U] at hw;exact hw
        ·rename_i ps
         split at hw
         ·rename_i eQ es Uv;exact (ps eQ es Uv).elim
         ·exact hw
       ·rename_i aY;rw[aY] at hw
        simp only at hw
        split
        ·rename_i ps;rw[ps] at hw;exact H _ _ _ hw
        ·rename_i ps;rw[ps] at hw;exact H _ _ _ hw
        ·rename_i ps Uv
         split at hw
         ·rename_i Uw;exact (ps _ _ Uw).elim
         ·rename_i Uw;exact (Uv _ _ Uw).elim
         ·exact hw
       ·rename_i aY;rw[aY] at hw
        simp only at hw
        split
        ·rename_i ps;rw[ps] at hw;exact λb ah=>h _ (hw b ah)
        ·rename_i ps;rw[ps] at hw;exact hw
       ·rename_i G J af aT
        split at hw
        ·rename_i aY;exact (G _ _ aY).elim
        ·rename_i aY;exact (J _ _ _ _ aY).elim
        ·rename_i aY;exact (af _ _ aY).elim
        ·rename_i aY;exact (aT _ _ aY).elim
        ·split
         ·rename_i aY;rw[aY] at hw;exact h _ hw
         ·rename_i aY;rw[aY] at hw;exact hw
      exact jR _ _ (aN _ _ h) hw
     ·rename_i hL;rw[ag hL] at hw;exact aN _ _ h _ hw
  exact this l _ _ (λst=>h .normal st) st hw
 |mN l c =>
  intro K jC h st hw
  have:∀(l:List du) (n:Nat) (cs:List (List Nat)) (rec:Rec) (K jC:bo->Prop),(∀st,K st->jC st)->∀st,wS T K n l cs rec st->wS T jC n l cs rec st:=by
   intro l
   induction l with
   |nil=>exact λn cs rec K jC h st=>h st
   |cons i r aN =>
    intro n cs rec K jC h st hw;unfold wS at hw ⊢
    split
    ·rename_i bz;rw[bz] at hw;exact hw
    ·rename_i g bz;rw[bz] at hw;simp only at hw ⊢
     split
     ·rename_i hL;rw[ad hL] at hw
      split
      ·rename_i m e U;rw[U] at hw;exact⟨hw.1,aN _ _ _ _ _ h _ hw.2⟩
      ·rename_i U;rw[U] at hw;exact hw
     ·rename_i hL;rw[ag hL] at hw;exact aN _ _ _ _ _ h _ hw
  exact this l 0 c _ _ _ (λst=>h .normal st) st hw
 |seq a b iha ihb =>
  intro K jC h st hw;refine iha _ _ (λe ew aY=>?_) st hw
  cases e with
  |normal=>exact ihb _ _ h _ aY
  |exit id=>exact h _ _ aY
  |ret=>exact h _ _ aY
 |cond c a b iha ihb =>
  intro K jC h st hw;unfold wp at hw ⊢
  split
  ·rename_i t H;rw[H] at hw;simp only at hw
   split
   ·rename_i ca;rw[ad ca] at hw;exact iha _ _ h _ hw
   ·rename_i ca;rw[ag ca] at hw;exact ihb _ _ h _ hw
  ·rename_i M
   split at hw
   ·rename_i H;exact (M _ H).elim
   ·exact hw
 |block id c aN =>
  intro K jC h st hw;refine aN _ _ (λe ew aY=>?_) st hw
  cases e with
  |normal=>exact h _ _ aY
  |exit j =>
   simp only at aY ⊢
   split
   ·rename_i aA;rw[ad aA] at aY;exact h _ _ aY
   ·rename_i aA;rw[ag aA] at aY;exact h _ _ aY
  |ret=>exact h _ _ aY
 |loop c aN =>
  intro K jC h st hw;obtain⟨DT,μ,ax,KC⟩:=hw;refine⟨DT,μ,ax,λst dF=>aN _ _ (λe ew aY=>?_) _ (KC st dF)⟩
  cases e with
  |normal=>exact aY
  |exit id=>exact h _ _ aY
  |ret=>exact h _ _ aY
 |exit id=>exact λK jC h st=>h _ _
 |ret=>exact λK jC h st=>h _ _
 |ghost g c aN =>
  intro K jC h st hw
  have:∀(K jC:bo->Prop),(∀st,K st->jC st)->kn K st g->kn jC st g:=by
   intro K jC h hw;unfold kn at hw
   repeat' split at hw
   all_goals first
    |exact hw.elim
    |exact⟨hw.choose,hw.choose_spec.1,h _ hw.choose_spec.2⟩
    |(
      rcases hw with hw|⟨fH,gq,gr,i,k,g,sz,off,len,cs,k',G,J,af,aT,bx,b0,hw⟩|⟨fH,gq,gr,i,k,g,sz,off,len,cs,d,G,J,af,aT,bx,b0,hw⟩
      ·exact .inl (h _ hw)
      ·exact .inr (.inl ⟨fH,gq,gr,i,k,g,sz,off,len,cs,k',G,J,af,aT,bx,b0,h _ hw⟩)
      ·exact .inr (.inr ⟨fH,gq,gr,i,k,g,sz,off,len,cs,d,G,J,af,aT,bx,b0,h _ hw⟩))
    |(
      have cW:=h _ hw;clear hw h;unfold kn
      simp_all)
  exact this _ _ (aN _ _ h) hw
def O9 (T:bl)(K:eI->bo->Prop)(k:List fJ)(aZ:bo->Prop):eI->bo->Prop
 |.normal,st=>aZ st
 |.exit id,st=>cd T K k (.exit id) st
 |.ret,st=>cd T K k .ret st
@[go_sem] theorem aJe {T:bl}{K:eI->bo->Prop}{k:List fJ}{aZ:bo->Prop}(st:bo):O9 T K k aZ .normal st=aZ st:=b8
theorem af0 {T:bl}{K:eI->bo->Prop}{k:List fJ}{c a:er}{st:bo}(aZ:bo->Prop)(aW:wp T a (cd T (O9 T K k aZ) []) st)(H:∀ew,aZ ew->wp T c (cd T K k) ew):wp T a (cd T K (.code c::k)) st:=by
 refine wp_mono a _ _ (λe ew aY=>?_) st aW
 cases e with
 |normal=>exact H ew aY
 |exit id=>exact aY
 |ret=>exact aY
theorem arD {T:bl}{K:eI->bo->Prop}{k:List fJ}{x:Bool}{c a b:er}{st:bo}(aZ:bo->Prop)(aW:x=true->wp T a (cd T (O9 T K k aZ) []) st)(ah:x=false->wp T b (cd T (O9 T K k aZ) []) st)
  (H:∀ew,aZ ew->wp T c (cd T K k) ew):qZ T K (.code c::k) (.I (.bool x)) a b st:=by
 cases x
 ·rw[aqs];exact af0 aZ (ah rfl) H
 ·rw[aqr];exact af0 aZ (aW rfl) H
attribute [go_sem] beq_true beq_false Bool.true_beq Bool.false_beq j1 List.flatten_nil gS List.headD_cons List.headD_nil List.tail_cons List.tail_nil List.contains_nil List.contains_cons Bool.not_eq_true'
section
variable {T:bl} {K:eI->bo->Prop} {k:List fJ} {st:bo}
@[go_sem] theorem aJf (g:Oh)(c:er):wp T (.ghost g c) (cd T K k) st=kn (wp T c (cd T K k)) st g:=b8
def Ux (K:bo->Prop)(st:bo)(s k sz:Nat):R->Prop
 |.nil=>K ⟨eb st.tm s (.ref k (cy st.mem k) sz 0 0),a9 st.mem k (cy st.mem k) []⟩
 |_=>False
@[go_sem] theorem aJg (K:bo->Prop)(s k sz:Nat):kn K st (.mM s k sz)=Ux K st s k sz (st.tm s):=by
 unfold kn Ux;rfl
@[go_sem] theorem aJh (K:bo->Prop)(s k sz:Nat):Ux K st s k sz .nil=K ⟨eb st.tm s (.ref k (cy st.mem k) sz 0 0),a9 st.mem k (cy st.mem k) []⟩:=b8
end
section
variable {K:bo->Prop} {st:bo}
theorem arE (h:K st):kn K st .move:=.inl h
theorem arF (fH i k k':Nat){gq:Nat}{gr:List R}{g sz off len:Nat}{cs:List R}(G:st.mem fH=some (gq,gr))(J:gr[i]?=some (.ref k g sz off len))(af:st.mem k=some (g,cs))(aT:k≠fH)(bx:k'≠k)(b0:k'≠fH)
  (h:K ⟨st.tm,a9 (a9 (a9 st.mem k (cy st.mem k) []) k' (cy st.mem k') cs) fH gq (gr.set i (.ref k' (cy st.mem k') sz off len))⟩):kn K st .move :=
 .inr (.inl ⟨fH,gq,gr,i,k,g,sz,off,len,cs,k',G,J,af,aT,bx,b0,h⟩)
theorem arG (fH i k:Nat){gq:Nat}{gr:List R}{g sz off len:Nat}{cs:List R}{d:Data}(G:st.mem fH=some (gq,gr))(J:gr[i]?=some (.ref k g sz off len))(af:st.mem k=some (g,cs))(aT:yt cs=true)(bx:k≠fH)(b0:dz 1 st.mem (.ref k g sz off len)=some d)
  (h:K ⟨st.tm,a9 (kill st.mem k) fH gq (gr.set i (.I d))⟩):kn K st .move :=
 .inr (.inr ⟨fH,gq,gr,i,k,g,sz,off,len,cs,d,G,J,af,aT,bx,b0,h⟩)
def KF (K:bo->Prop)(st:bo)(s k g sz off len:Nat):Option (Nat×List R)->Prop
 |some (eg,cs)=>if eg=g/\yt cs=true then (match cut cs off (len*sz) with
  |some part=>(match part.mapM (dz 0 st.mem) with
   |some ds=>K ⟨eb st.tm s (.I (.X (chunk sz len ds))),kill st.mem k⟩
   |none=>False)
  |none=>False) else False
 |none=>False
def Uy (K:bo->Prop)(st:bo)(s:Nat):R->Prop
 |.ref k g sz off len=>KF K st s k g sz off len (st.mem k)
 |_=>False
@[go_sem] theorem aJi (s:Nat):kn K st (.freeze s)=Uy K st s (st.tm s):=by
 unfold kn Uy;dsimp only
 cases hm:st.tm s with
 |ref k g sz off len=>?_
 |_=>rfl
 dsimp only;unfold KF
 cases L:st.mem k with
 |none=>rfl
 |some x =>
  obtain⟨eg,cs⟩:=x;simp only
  by_cases H:eg=g/\yt cs=true
  ·rw[ad H,ad H];unfold dz;rw[L];simp only[H.1,if_true]
   cases sT:cut cs off (len*sz) with
   |none=>rfl
   |some part =>
    simp only
    cases aF:part.mapM (dz 0 st.mem)<;>rfl
  ·rw[ag H,ag H]
@[go_sem] theorem aJj (s k g sz off len:Nat):Uy K st s (.ref k g sz off len)=KF K st s k g sz off len (st.mem k):=b8
@[go_sem] theorem aJk (mem:Mem)(k:Key):kill mem k=a9 mem k (cy mem k) []:=b8
end
open Classical in
def cn {α:Type}(w8:α->List Data)(f:α->Option eL):List Data->Option eL:=λds=>if h:∃a,w8 a=ds then f (yG h) else none
theorem cz {α:Type}{w8:α->List Data}{f:α->Option eL}(inj:∀a b,w8 a=w8 b->a=b)(a:α):cn w8 f (w8 a)=f a:=by
 have h:∃b,w8 b=w8 a:=⟨a,rfl⟩;unfold cn;rw[dif_pos h,inj _ _ (q3 h)]
theorem Uz {α:Type}{w8:α->List Data}{f:α->Option eL}{ds:List Data}{r:eL}(h:cn w8 f ds=some r):∃a,ds=w8 a/\f a=some r:=by
 unfold cn at h
 split at h
 ·rename_i M;exact⟨_,(q3 M).symm,h⟩
 ·cases h
open Classical in
def cN (c:Prop)(r:eL):Option eL:=if c then some r else none
theorem cX {c:Prop}(h:c)(r:eL):cN c r=some r:=by unfold cN;rw[ad h]
theorem UA {c:Prop}{r zX:eL}(h:cN c r=some zX):c/\zX=r:=by
 unfold cN at h
 split at h
 ·cases h;exact⟨‹_›,rfl⟩
 ·cases h
@[go_sem] theorem aJl (aR:List Data->Option eL)(args:List R)(mem:Mem):aQ aR args mem=G8 aR (args.mapM (dz 6 emp)) (args.mapM (dz 6 mem)):=b8
theorem map_inj {α β:Type}{f:α->β}(h:∀a b,f a=f b->a=b):∀(l fI:List α),l.map f=fI.map f->l=fI:=by
 intro l
 induction l with
 |nil=>intro fI e;cases fI<;>simp_all
 |cons a r aN =>
  intro fI e
  cases fI with
  |nil=>simp at e
  |cons b zX =>
   simp only[ey,bk] at e;rw[h _ _ e.1,aN _ e.2]
def Pa (l:List (FuncId×(List Data->Option eL))):FuncId->Option (List Data->Option eL):=λf=>(l.find? λp=>p.1==f).map (·.2)
theorem q4 {P:Program}{l:List (FuncId×(List Data->Option eL))}(h:∀p∈l,q2 P p.1 p.2):∀f aR,Pa l f=some aR->q2 P f aR:=by
 intro f aR aC;unfold Pa at aC;rw[e1] at aC;obtain⟨p,aF,rfl⟩:=aC;have G:=List.mem_of_find?_eq_some aF;have J:=List.find?_some aF;have af:p.1=f:=by simpa using J
 exact af ▸ h p G
theorem cf {P:Program}:∀p∈([]:List (FuncId×(List Data->Option eL))),q2 P p.1 p.2:=by simp
theorem a0 {P:Program}{f:FuncId}{aR:List Data->Option eL}{l:List (FuncId×(List Data->Option eL))}(h:q2 P f aR)(aw:∀p∈l,q2 P p.1 p.2):∀p∈(f,aR)::l,q2 P p.1 p.2:=by
 intro p aF;rcases lS.1 aF with rfl|aF
 ·exact h
 ·exact aw p aF
theorem af1 {mi:FuncId->Option (List Data->Option eL)}{f:FuncId}{aR:List Data->Option eL}(h:mi f=some aR):Cg mi f=aQ aR:=by
 funext args mem
 unfold Cg;rw[h]
@[go_sem] theorem aJm (mem:Mem)(k:Key)(z:List R)(b m:Nat)(new:List R):rM mem k z b .nil (some (m,new)) =
  if m*b<=140737488355328/\m<=maxLen/\new.all R.one=true then some (.ref k (cy mem k) (D z) 0 m,some (k,cy mem k,new)) else none:=b8
@[go_sem] theorem aJn (mem:Mem)(k k':Key)(z:List R)(g sz b len m:Nat)(new:List R):rM mem k z b (.ref k' g sz 0 len) (some (m,new)) =
  if sz=(D z) then kS k' g sz len b m new (mem k') else none:=by
 unfold rM;simp
def aV {α:Type}(enc:α->List Data)(l:List α):List R:=(l.map enc).flatten.map .I
section
variable {α:Type} {enc:α->List Data} {sz:Nat}
theorem arH:aV enc []=[]:=rfl
theorem yI (a:α)(l:List α):aV enc (a::l)=(enc a).map .I++aV enc l:=by simp[aV]
theorem UB (a b:List α):aV enc (a++b)=aV enc a++aV enc b:=by simp[aV]
theorem kX (h:∀a,(enc a).length=sz)(l:List α):(aV enc l).length=D l*sz:=by
 induction l with
 |nil=>simp[aV]
 |cons a r aN=>rw[yI,fX,aN,aE,h,jO,qO,Nat.one_mul,Nat.add_comm]
theorem af2 (h:∀a,(enc a).length=sz){l:List α}{i:Nat}{a:α}(Q:l[i]?=some a):∃p q,aV enc l=p++((enc a).map .I++q)/\D p=i*sz/\∀b,aV enc (l.set i b)=p++((enc b).map .I++q):=by
 have az:=(ej.1 Q).1;have oq:l[i]=a:=(ej.1 Q).2
 have e:l=l.take i++a::l.drop (i+1):=by
  rw[<-oq,<-h9 az,vz]
 refine⟨aV enc (l.take i),aV enc (l.drop (i+1)),?_,?_,λb=>?_⟩
 ·conv=>lhs;rw[e]
  rw[UB,yI]
 ·rw[kX h,gv];congr 1;omega
 ·rw[List.set_eq_take_append_cons_drop,ad az,UB,yI]
theorem Pb (h:∀a,(enc a).length=sz){l:List α}{i:Nat}{a:α}(Q:l[i]?=some a){f n:Nat}(aC:f+n<=sz):cut (aV enc l) (i*sz+f) n=some ((((enc a).map .I).drop f).take n):=by
 obtain⟨p,q,e,aF,-⟩:=af2 h Q;have aW:=h a;unfold cut;rw[e,ad (by simp only[fX,aE];omega),<-aF];rw[r0,lO (by omega)];rw[show (D p)+f-D p=f by omega,hX,r0,List.take_append]
 have:n-(((enc a).map R.I).drop f).length=0:=by simp only[nE,aE];omega
 rw[this,mU,gS]
theorem UC (h:∀a,(enc a).length=sz){l:List α}{i:Nat}(Q:i<D l)(b:α):lM (aV enc l) (i*sz) ((enc b).map .I)=aV enc (l.set i b):=by
 obtain⟨p,q,e,aF,U⟩:=af2 h (bq Q);rw[U b,e];have aW:=h l[i];have ah:=h b;unfold lM;rw[<-aF,UD,gT]
 congr 2
 rw[r0,lO (by omega),hX,aE,show (D p)+(enc b).length-D p=(enc b).length by omega,ah,<-aW,<-aE (f:=R.I),UE]
theorem arI (bS:∀a,((enc a).map R.I).all R.one=true)(l:List α):(aV enc l).all R.one=true:=by
 induction l with
 |nil=>rfl
 |cons a r aN=>rw[yI,List.all_append,bS,aN];rfl
theorem Ci (h:∀a,(enc a).length=sz)(bS:∀a,((enc a).map R.I).all R.one=true)(k g b:Nat)(l new:List α)(ah:(D l+D new)*b<=140737488355328)(hm:(D l)+D new<=1000000000):
  kS k g sz (D l) b (D new) (aV enc new) (some (g,aV enc l))=some (.ref k (g+1) sz 0 (D l+D new),some (k,g+1,aV enc (l++new))):=by
 unfold kS;have Ab:(D l)+D new<=maxLen:=e4 hm (by decide);dsimp only;rw[ad ⟨rfl,by rw[kX h];exact cH _,ah,Ab,arI bS new⟩,UB,dp (by rw[kX h];exact cH _)]
theorem jm (h:∀a,(enc a).length=sz)(bS:∀a,((enc a).map R.I).all R.one=true)(k g b:Nat)(l:List α)(a:α){cs:List R}(H:cs=(enc a).map .I)(ah:(D l+1)*b<=140737488355328)(hm:(D l)+1<=1000000000):
  kS k g sz (D l) b 1 cs (some (g,aV enc l))=some (.ref k (g+1) sz 0 (D l+1),some (k,g+1,aV enc (l++[a]))):=by
 have:=Ci h bS k g b l [a] ah hm;rw[H];rw[yI,arH,gS] at this;exact this
theorem Ef (f:R->Option Data)(aC:∀d,f (.I d)=some d)(l:List Data):(l.map R.I).mapM f=some l:=by
 induction l with
 |nil=>rfl
 |cons a r aN=>simp[aC,aN]
theorem Cj:∀(l:List (List Data)),(∀e∈l,D e=sz)->chunk sz (D l) l.flatten=l:=by
 intro l
 induction l with
 |nil=>intro _;rfl
 |cons e r aN =>
  intro h;have he:=h e (by simp);rw[jO,j1,chunk];rw[<-he,UD,UE,he,aN λx M=>h x (by simp[M])]
theorem jU (h:∀a,(enc a).length=sz){n k g:Nat}{mem:Mem}{l:List α}(hm:mem k=some (g,aV enc l)):dz (n+1) mem (.ref k g sz 0 (D l))=some (.X (l.map enc)):=by
 unfold dz;rw[hm];simp only[if_true];unfold cut;rw[qW,kX h,ad (cH _)];simp only[nD];rw[dp (by rw[kX h];exact cH _)];unfold aV;rw[Ef _ λd=>by cases n<;>rfl]
 have:=Cj (sz:=sz) (l.map enc) (by simpa using λa _=>h a);rw[aE] at this;simp[this]
end
theorem Ha {α:Type}(enc:α->List Data)(l:List α):yt (aV enc l)=true:=by
 unfold yt aV;rw[pz];intro m hm;rw[fO] at hm;obtain⟨d,_,rfl⟩:=hm
 rfl
theorem oW {α:Type}{enc:α->List Data}{sz:Nat}(h:∀a,(enc a).length=sz){K:bo->Prop}{st:bo}(s k g:Nat)(l:List α):
  KF K st s k g sz 0 (D l) (some (g,aV enc l))=K ⟨eb st.tm s (.I (.X (l.map enc))),kill st.mem k⟩:=by
 have Y:=jU (n:=0) h (mem:=a9 st.mem k g (aV enc l)) (k:=k) (g:=g) (l:=l) (by simp[a9]);unfold KF;dsimp only;rw[ad ⟨rfl,Ha enc l⟩];unfold cut;rw[qW,kX h,ad (cH _)];dsimp only;rw[nD,dp (by rw[kX h];exact cH _)];unfold aV;rw[Ef _ λd=>rfl];dsimp only;have:=Cj (sz:=sz) (l.map enc) (by simpa using λa _=>h a);rw[aE] at this;rw[this]
theorem wrap64 (x:Int)(G:-9223372036854775808<=x)(J:x<=9223372036854775807):IntKind.i64.wrap x=x:=by
 rw[IntKind.wrap_i64];omega
theorem af3 {α:Type}(l:List α)(i:Int)(ax:0<=i)(h:i<D l):∃x,l[i.toNat]?=some x/\l.drop i.toNat=x::l.drop (i+1).toNat/\l.take (i+1).toNat=l.take i.toNat++[x]:=by
 have az:i.toNat<D l:=by omega
 have e:(i+1).toNat=i.toNat+1:=by omega
 refine⟨l[i.toNat],bq az,?_,?_⟩
 ·rw[e];exact h9 az
 ·rw[e];rw[gB,bq az];rfl
abbrev WP (T:bl)(mf:bZ)(r:eL)(l:List R):Prop:=wp T mf.body (Cf mf.res r) ⟨lk l,emp⟩
theorem cD {T:bl}{c:er}{K:eI->bo->Prop}{st:bo}(h:wp T c (cd T K []) st):wp T c K st:=sV h
theorem fh (x:Int)(G:-9223372036854775808<=x:=by omega)(J:x<=9223372036854775807:=by omega):IntKind.i64.wrap x=x:=wrap64 x G J
theorem ec {i:Nat}(h:i<1000000000000):IntKind.i64.wrap ((i:Int)+1)=((i+1:Nat):Int):=by rw[wrap64 _ (by omega) (by omega)];omega
end Go.Mini
namespace Go.Mini
open Go Go.ChangeShapes Go.WideShapes
inductive q5 where
 |int (k:IntKind)
 |bool
 |str
 |X (e:q5)
 |st (l:List q5)
mutual
def Fit:q5->List Data->Prop
 |.int k,ds=>∃n,ds=[.int k n]/\(Lit.int k n).wf=true
 |.bool,ds=>∃b,ds=[.bool b]
 |.str,ds=>∃s,ds=[.str s]/\D s<=maxLen
 |.X e,ds=>∃es,ds=[.X es]/\D es<=maxLen/\∀x∈es,Fit e x
 |.st l,ds=>Fits l ds
def Fits:List q5->List Data->Prop
 | [],ds=>ds=[]
 |s::r,ds=>∃a b,ds=a++b/\Fit s a/\Fits r b
end
def KG (P:Program):Nat->List Field->Nat->Bool
 |off,[],tot=>off==tot
 |off,f::r,tot=>f.offset==off&&KG P (off+P.cellsOf f.type) r tot
def KH (g:TypeId->Option q5):List Field->Option (List q5)
 | []=>some []
 |f::r=>match g f.type,KH g r with
  |some s,some l=>some (s::l)
  |_,_=>none
def sX (P:Program):Nat->TypeId->Option q5
 |0,_=>none
 |n+1,t=>match P.underlying t with
  |some .bool=>some .bool
  |some (.int k)=>some (.int k)
  |some .string=>some .str
  |some (.slice e)=>if 0<P.cellsOf e then (sX P n e).map .X else none
  |some (.struct eh)=>if KG P 0 eh.toList (P.cellsOf t)=true then (KH (sX P n) eh.toList).map .st else none
  |_=>none
section
variable {gf:Type} {enc:TypeId×Value->gf} {P:Program} {w:World} {base:Nat}
def KI (enc:TypeId×Value->gf)(P:Program)(w:World)(base:Nat)(S:q5)(fuel:Nat)(t:TypeId)(cs:List Value)(x:DataW gf×List MemPlace):Prop :=
 (∃ds,Fit S ds/\Ae w (λ_=>False) ds cs)/\(∀p∈x.2,p.block<w.heap.size) /\
 ∀(a1:World) (sp:Nat->Bool),(∀p∈x.2,sp p.block=true)->(∀b,b<w.heap.size->a1.heap[b]?=w.heap[b]?)->DataW.trod enc P a1 base sp true fuel t cs=some x
theorem KJ {a2:Nat->Prop}{d:Data}{v:Value}(h:Den w a2 d v):Ae w a2 [d] [v]:=by
 refine⟨rfl,λi yB DY G J=>?_⟩
 cases i with
 |zero=>cases G;cases J;exact h
 |succ i=>simp at G
theorem af4 (a:Addr)(i:Nat):(a.add i).block=a.block:=by
 unfold Addr.add
 split<;>rfl
theorem add_plain (b off i:Nat):(Addr.add ⟨b,off,none⟩ i)=⟨b,off+i,none⟩:=by
 unfold Addr.add
 split
 ·rename_i h;subst h;rfl
 ·rfl
theorem af5 {a1:World}{a:Addr}{n:Nat}{cs:List Value}(h:w.cells? base a n=some cs)(L:∀b,b<w.heap.size->a1.heap[b]?=w.heap[b]?):a1.cells? base a n=some cs:=by
 unfold World.cells? at h ⊢
 split at h
 ·rename_i ah;rw[ad ah,<-h]
  by_cases az:a.block<w.heap.size
  ·have he:(λi=>a1.cell? (a.add i))=λi=>w.cell? (a.add i):=by
    funext i
    exact World.cell?_of_block (a:=a.add i) (L _ (by rw[af4];exact az))
   rw[he]
  ·cases n with
   |zero=>rfl
   |succ n =>
    exfalso
    have:w.cell? (a.add 0)=none:=by
     unfold World.cell?;have:w.heap[(a.add 0).block]?=none:=Array.getElem?_eq_none (by rw[af4];omega);rw[this]
    rw[List.range_succ_eq_map,ny,this] at h
    cases h
 ·cases h
theorem UF {a:Addr}{n:Nat}{cs:List Value}(h:w.cells? base a n=some cs):(D cs)=n/\∀i,i<n->∃v,cs[i]?=some v/\w.cell? (a.add i)=some v:=by
 unfold World.cells? at h
 split at h
 ·obtain⟨G,J⟩:=oP h;rw[r1] at G;refine⟨G,λi Q=>?_⟩;have H:=bq (l:=cs) (i:=i) (by omega);exact⟨_,H,J i i _ (by simp[Q]) H⟩
 ·cases h
theorem arJ {a:Addr}{v:Value}(h:w.cell? a=some v):a.block<w.heap.size/\a.spot=none:=by
 unfold World.cell? at h
 split at h
 ·rename_i ah;refine⟨(Array.getElem?_eq_some_iff.1 ah).1,?_⟩
  cases U:a.spot with
  |none=>rfl
  |some x=>rw[U] at h;simp at h
 ·cases h
theorem mapM_congr {α β:Type}{f g:α->Option β}:∀{l:List α},(∀x∈l,f x=g x)->l.mapM f=l.mapM g:=by
 intro l
 induction l with
 |nil=>intro _;rfl
 |cons a r aN =>
  intro h;rw[ny,ny,h a (by simp),aN λx M=>h x (by simp[M])]
theorem arK {β:Type}(len:Nat)(aZ:Nat->β->Prop)(h:∀i,i<len->∃y,aZ i y):∃l:List β,D l=len/\∀i y,l[i]?=some y->aZ i y:=by
 induction len with
 |zero=>exact⟨[],rfl,λi y h=>by simp at h⟩
 |succ n aN =>
  obtain⟨l,G,J⟩:=aN λi Q=>h i (by omega);obtain⟨y,aj⟩:=h n (by omega);refine⟨l++[y],by simp[G],λi z a3=>?_⟩
  rw[GK] at a3
  split at a3
  ·exact J i z a3
  ·rename_i az
   have:i-D l=0:=by
    have:=(ej.1 a3).1;simp at this;omega
   rw[this] at a3
   cases a3;have:i=n:=by omega
   subst this;exact aj
theorem arL {β:Type}{sz:Nat}:∀(es:List (List β)),(∀e∈es,D e=sz)->0<sz->∀(i:Nat) (d:β),es.flatten[i]?=some d->∃e,es[i/sz]?=some e/\e[i%sz]?=some d:=by
 intro es
 induction es with
 |nil=>intro _ _ i d h;simp at h
 |cons e r aN =>
  intro h a3 i d ab;have he:=h e (by simp);rw[j1,GK] at ab
  split at ab
  ·rename_i az;rw[he] at az;refine⟨e,by rw[UG az];rfl,by rw[KK az];exact ab⟩
  ·rename_i b2;rw[he] at ab b2;obtain⟨x,G,J⟩:=aN (λy aj=>h y (by simp[aj])) a3 _ d ab;have Q:i=(i-sz)+sz:=by omega
   refine⟨x,?_,?_⟩
   ·rw[Q,Nat.add_div_right _ a3]
    simpa using G
   ·rw[Q,Nat.add_mod_right];exact J
theorem arM {n fuel:Nat}(aN:∀t S,sX P n t=some S->∀(cs:List Value) (x:DataW gf×List MemPlace),DataW.trod enc P w base (λ_=>true) true fuel t cs=some x->KI enc P w base S fuel t cs x)(cs:List Value):
  ∀(eh:List Field) (off:Nat) (l:List q5) (xs:List (DataW gf×List MemPlace)),KH (sX P n) eh=some l->KG P off eh (D cs)=true ->
   eh.mapM (λf=>DataW.trod enc P w base (λ_=>true) true fuel f.type ((cs.drop f.offset).take (P.cellsOf f.type)))=some xs ->
   (∃ds,Fits l ds/\Ae w (λ_=>False) ds (cs.drop off))/\(∀p∈xs.flatMap (·.2),p.block<w.heap.size) /\
   ∀(a1:World) (sp:Nat->Bool),(∀p∈xs.flatMap (·.2),sp p.block=true)->(∀b,b<w.heap.size->a1.heap[b]?=w.heap[b]?) ->
    eh.mapM (λf=>DataW.trod enc P a1 base sp true fuel f.type ((cs.drop f.offset).take (P.cellsOf f.type)))=some xs:=by
 intro eh
 induction eh with
 |nil =>
  intro off l xs aw ca M;simp only[KH,cL] at aw;subst aw;simp only[KG,beq_iff_eq] at ca;simp only[afX,hH,cL] at M;subst M;refine⟨⟨[],rfl,?_⟩,by simp,λ_ _ _ _=>rfl⟩
  rw[ca,UH];exact⟨rfl,λi d v h=>by simp at h⟩
 |cons f r ihf =>
  intro off l xs aw ca M;unfold KH at aw
  split at aw
  ·rename_i s fI U B1
   cases aw
   simp only[KG,fw,beq_iff_eq] at ca;obtain⟨T2,ca⟩:=ca;rw[ny] at M;simp only[hH,hT,fa,cL] at M;obtain⟨x,pD,ys,Eg,rfl⟩:=M;obtain⟨⟨UI,UJ,Hb⟩,arN,arO⟩:=aN _ _ U _ _ pD;obtain⟨⟨af6,lv,e5⟩,arP,arQ⟩:=ihf _ _ _ B1 ca Eg;refine⟨⟨UI++af6,⟨UI,af6,rfl,UJ,lv⟩,?_⟩,?_,?_⟩
   ·have aeU:cs.drop off=(cs.drop off).take (P.cellsOf f.type)++cs.drop (off+P.cellsOf f.type):=by
     rw[<-G0,vz]
    rw[T2] at Hb;rw[aeU];refine⟨by rw[fX,fX,Hb.1,e5.1],λi d v G J=>?_⟩
    rw[GK] at G J;have hlen:=Hb.1
    by_cases az:i<D UI
    ·rw[ad az] at G;rw[ad (by omega)] at J;exact Hb.2 i d v G J
    ·rw[ag az] at G;rw[ag (by omega),hlen] at J;exact e5.2 _ d v G J
   ·intro p aF;rw[qd,jb] at aF;exact aF.elim (arN p) (arP p)
   ·intro a1 sp jA L;rw[ny,arO a1 sp (λp aF=>jA p (by rw[qd,jb];exact .inl aF)) L];have:=arQ a1 sp (λp aF=>jA p (by rw[qd,jb];exact .inr aF)) L;simp only[hH,hT,yH];rw[this]
    rfl
  ·cases aw
theorem arR:∀(n:Nat) (t:TypeId) (S:q5),sX P n t=some S->∀(fuel:Nat) (cs:List Value) (x:DataW gf×List MemPlace),DataW.trod enc P w base (λ_=>true) true fuel t cs=some x->KI enc P w base S fuel t cs x:=by
 intro n
 induction n with
 |zero=>intro t S h;simp[sX] at h
 |succ n aN =>
  intro t S dh fuel cs x M
  cases fuel with
  |zero=>cases M
  |succ fuel =>
   unfold sX at dh
   split at dh
   ·-- bool
    rename_i hu
    cases dh
    have key:∀(a1:World) (sp:Nat->Bool) (cs:List Value),DataW.trod enc P a1 base sp true (fuel+1) t cs=match cs with|[.bool b]=>some (.lit (.bool b),[])|_=>none:=by
     intro a1 sp cs;unfold DataW.trod;rw[hu];clear M
     split<;>simp_all
    rw[key] at M
    split at M
    ·cases M;exact⟨⟨_,⟨_,rfl⟩,KJ .bool⟩,by simp,λa1 sp _ _=>by rw[key]⟩
    ·cases M
   ·-- int
    rename_i k hu
    cases dh
    have key:∀(a1:World) (sp:Nat->Bool) (cs:List Value),DataW.trod enc P a1 base sp true (fuel+1) t cs=match cs with|[.int k' n]=>if k'=k/\(Lit.int k n).wf=true then some (.lit (.int k n),[]) else none|_=>none:=by
     intro a1 sp cs;unfold DataW.trod;rw[hu];clear M
     split<;>simp_all
    rw[key] at M
    split at M
    ·split at M
     ·rename_i H
      cases M;obtain⟨rfl,af7⟩:=H;exact⟨⟨_,⟨_,rfl,af7⟩,KJ .int⟩,by simp,λa1 sp _ _=>by rw[key];simp[af7]⟩
     ·cases M
    ·cases M
   ·-- string
    rename_i hu
    cases dh
    have key:∀(a1:World) (sp:Nat->Bool) (cs:List Value),DataW.trod enc P a1 base sp true (fuel+1) t cs=match cs with|[.string s]=>if s.size<=maxLen then some (.lit (.string s.data.toList),[]) else none|_=>none:=by
     intro a1 sp cs;unfold DataW.trod;rw[hu];clear M
     split<;>simp_all
    rw[key] at M
    split at M
    ·rename_i s
     split at M
     ·rename_i H
      cases M;refine⟨⟨[.str s.data.toList],⟨_,rfl,?_⟩,KJ ?_⟩,by simp,λa1 sp _ _=>by rw[key];simp[H]⟩
      ·rw[Array.length_toList];exact H
      ·have:Den w (λ_=>False) (.str s.data.toList) (.string ⟨s.data.toList.toArray⟩):=.str
       simpa using this
     ·cases M
    ·cases M
   ·-- slice
    rename_i e hu
    split at dh
    ·rename_i H;rw[e1] at dh;obtain⟨S,dh,rfl⟩:=dh
     have key:∀(a1:World) (sp:Nat->Bool) (cs:List Value),DataW.trod enc P a1 base sp true (fuel+1) t cs=match cs with
      | [.slice none 0 0]=>some (.nil,[])
      | [.slice (some a) len cap] =>
       if base<=a.block/\len<=cap/\cap<=maxLen then
        ((
         eN len).mapM λi=>(a1.cells? base (a.add (i*P.cellsOf e)) (P.cellsOf e)).bind (DataW.trod enc P a1 base sp true fuel e)).bind λelems =>
         (if sp a.block then (eN (cap-len)).mapM λj=>(a1.cells? base (a.add ((len+j)*P.cellsOf e)) (P.cellsOf e)).bind (DataW.trod enc P a1 base sp true fuel e) else some []).map λrest =>
          (.slice (elems.map (·.1)) (rest.map (·.1)),MemPlace.row a ((D elems+D rest)*P.cellsOf e)++(elems++rest).flatMap (·.2))
       else none
      |_=>none:=by
      intro a1 sp cs
      conv=>lhs;unfold DataW.trod
      rw[hu];clear M
      split<;>simp_all
     rw[key] at M
     split at M
     ·cases M;exact⟨⟨[.X []],⟨_,rfl,fm _,by simp⟩,KJ .mc⟩,by simp,λa1 sp _ _=>by rw[key];rfl⟩
     ·rename_i a len cap
      split at M
      ·rename_i ah;rw[fa] at M;obtain⟨elems,he,M⟩:=M;rw[e1] at M;obtain⟨rest,Y,rfl⟩:=M;rw[ad rfl] at Y;obtain⟨ln,arS⟩:=oP he;obtain⟨cm,arT⟩:=oP Y;rw[r1] at ln cm
       -- each place
       have bY:∀i y,(i<len->elems[i]?=some y)->(¬ i<len->i<cap/\rest[i-len]?=some y)->∃ci,w.cells? base (a.add (i*P.cellsOf e)) (P.cellsOf e)=some ci/\DataW.trod enc P w base (λ_=>true) true fuel e ci=some y:=by
        intro i y G J
        by_cases Q:i<len
        ·have:=arS i i y (by simp[Q]) (G Q);rwa [fa] at this
        ·obtain⟨af,aT⟩:=J Q;have:=arT (i-len) (i-len) y (List.getElem?_range (by omega)) aT;rw[show len+(i-len)=i by omega,fa] at this
         exact this
       have gh:0<D elems+(D rest)->a.block<w.heap.size/\a.spot=none:=by
        intro aF;have ax:0<cap:=by omega
        have:∃y,(0<len->elems[0]?=some y)/\(¬ 0<len->0<cap/\rest[0-len]?=some y):=by
         by_cases aw:0<len
         ·exact⟨elems[0],λ_=>bq _,λh=>absurd aw h⟩
         ·exact⟨rest[0],λh=>absurd h aw,λ_=>⟨ax,by rw[Nat.zero_sub];exact bq _⟩⟩
        obtain⟨y,G,J⟩:=this;obtain⟨ci,nz,-⟩:=bY 0 y G J;obtain⟨v,-,aD⟩:=(UF nz).2 0 H;have:=arJ aD;rw[Pc] at this;have bw:(a.add 0).add 0=a:=by unfold Addr.add;simp
        rw[bw] at this;exact this
       have ue:∀i y,(i<len->elems[i]?=some y)->(¬ i<len->i<cap/\rest[i-len]?=some y)->∃ci,w.cells? base (a.add (i*P.cellsOf e)) (P.cellsOf e)=some ci/\KI enc P w base S fuel e ci y:=by
        intro i y G J;obtain⟨ci,af,aT⟩:=bY i y G J;exact⟨ci,af,aN e S dh fuel ci y aT⟩
       have UK:∀(i:Nat) y,elems[i]?=some y->∃ci,w.cells? base (a.add (i*P.cellsOf e)) (P.cellsOf e)=some ci/\KI enc P w base S fuel e ci y :=
        λi y aj=>ue i y (λ_=>aj) (λh=>absurd (by have:=(ej.1 aj).1;omega) h)
       have af8:∀(j:Nat) y,rest[j]?=some y->∃ci,w.cells? base (a.add ((len+j)*P.cellsOf e)) (P.cellsOf e)=some ci/\KI enc P w base S fuel e ci y :=
        λj y aj=>ue (len+j) y (λh=>by omega) (λ_=>⟨by have:=(ej.1 aj).1;omega,by rwa [Hc]⟩)
       refine⟨?_,?_,?_⟩
       ·obtain⟨es,UL,heq⟩:=arK len (λi (ds:List Data)=>∃ci,w.cells? base (a.add (i*P.cellsOf e)) (P.cellsOf e)=some ci/\Fit S ds/\Ae w (λ_=>False) ds ci) λi Q=>by
         obtain⟨ci,G,⟨ds,J,af⟩,-,-⟩:=UK i _ (bq (by omega));exact⟨ds,ci,G,J,af⟩
        refine⟨[.X es],⟨es,rfl,by omega,λy aj=>?_⟩,KJ ?_⟩
        ·obtain⟨i,Q⟩:=yJ.1 aj;obtain⟨ci,-,h,-⟩:=heq i y Q;exact h
        ·by_cases aw:len=0
         ·rw[aw] at UL ⊢;rw[tW UL];exact .mc
         ·obtain⟨lv,e5⟩:=gh (by omega);obtain⟨b,off,spot⟩:=a;simp only at lv e5;subst e5
          have fg:∀y∈es,D y=P.cellsOf e:=by
           intro y aj;obtain⟨i,Q⟩:=yJ.1 aj;obtain⟨ci,G,-,J⟩:=heq i y Q;rw[<-J.1,(UF G).1]
          have iL:∀(i:Nat) (d:Data),es.flatten[i]?=some d->∃v,w.cell? ⟨b,off+i,none⟩=some v/\Den w (λ_=>False) d v:=by
           intro i d ab;obtain⟨y,G,J⟩:=arL es fg H i d ab;obtain⟨ci,af,-,aT⟩:=heq _ y G;have hm:i%P.cellsOf e<P.cellsOf e:=oX _ H;obtain⟨v,bx,b0⟩:=(UF af).2 _ hm;rw[add_plain,add_plain,tT,sY,Pf] at b0;exact⟨v,b0,aT.2 _ d v J bx⟩
          rw[<-UL];refine .X (sz:=P.cellsOf e) (λi=>(w.cell? ⟨b,off+i,none⟩).getD undef) (by omega) (by omega) lv (λh=>h) fg (λi Q=>?_) λi d ab=>?_
          ·have az:i<D es.flatten:=by rw[Od fg];exact Q
           obtain⟨v,aD,-⟩:=iL i _ (bq az);rw[aD]
           rfl
          ·obtain⟨v,aD,p2⟩:=iL i d ab;rw[aD];exact p2
       ·intro p aF;simp only[jb] at aF;rcases aF with aF|aF
        ·unfold MemPlace.row at aF;rw[fO] at aF;obtain⟨i,Q,rfl⟩:=aF;rw[iM] at Q
         have:0<D elems+D rest:=by
          rcases ko (D elems+D rest) with h|h
          ·rw[h,Pc] at Q;omega
          ·exact h
         exact (gh this).1
        ·rw[Ea] at aF;obtain⟨y,aj,aF⟩:=aF;rw[jb] at aj;rcases aj with aj|aj
         ·obtain⟨i,Q⟩:=yJ.1 aj;obtain⟨ci,-,h⟩:=UK i y Q;exact h.2.1 p aF
         ·obtain⟨i,Q⟩:=yJ.1 aj;obtain⟨ci,-,h⟩:=af8 i y Q;exact h.2.1 p aF
       ·intro a1 sp jA L;rw[key];simp only;rw[ad ah]
        have gd:0<D elems+(D rest)->sp a.block=true:=by
         intro aF
         have:=jA (.cell a.block (a.off+0)) (by
          rw[jb]
          left
          unfold MemPlace.row;rw[fO];exact⟨0,by rw[iM];exact Nat.mul_pos aF H,rfl⟩)
         exact this
        have arU:(eN len).mapM (λi=>(a1.cells? base (a.add (i*P.cellsOf e)) (P.cellsOf e)).bind (DataW.trod enc P a1 base sp true fuel e))=some elems:=by
         rw[<-he];refine mapM_congr λi Q=>?_;rw[iM] at Q;have aj:=bq (l:=elems) (i:=i) (by omega);obtain⟨ci,G,J⟩:=UK i _ aj;rw[af5 G L,G];simp only[yH];obtain⟨arV,af,aT⟩:=bY i _ (λ_=>aj) (λh=>absurd Q h);rw[G] at af
         cases af;rw[aT]
         exact J.2.2 a1 sp (λp aF=>jA p (by
          rw[jb];right
          rw[Ea];exact⟨_,jb.2 (.inl (dn aj)),aF⟩)) L
        have arW:(eN (cap-len)).mapM (λj=>(a1.cells? base (a.add ((len+j)*P.cellsOf e)) (P.cellsOf e)).bind (DataW.trod enc P a1 base sp true fuel e))=some rest:=by
         rw[<-Y];refine mapM_congr λj aA=>?_;rw[iM] at aA;have aj:=bq (l:=rest) (i:=j) (by omega);obtain⟨ci,G,J⟩:=af8 j _ aj;rw[af5 G L,G];simp only[yH];obtain⟨arV,af,aT⟩:=bY (len+j) rest[j] (λh=>by omega) (λ_=>⟨by omega,by rw[Hc];exact aj⟩);rw[G] at af
         cases af;rw[aT]
         exact J.2.2 a1 sp (λp aF=>jA p (by
          rw[jb];right
          rw[Ea];exact⟨_,jb.2 (.inr (dn aj)),aF⟩)) L
        rw[arU];simp only[yH]
        cases U:sp a.block with
        |true=>simp only[if_true];rw[arW];rfl
        |false =>
         have a3:¬ 0<D elems+D rest:=λh=>by rw[gd h] at U;cases U
         have:rest=[]:=tW (by omega);subst this
         rfl
      ·cases M
     ·cases M
    ·cases dh
   ·-- struct
    rename_i eh hu
    split at dh
    ·rename_i ca;rw[e1] at dh;obtain⟨l,aw,rfl⟩:=dh
     have key:∀(a1:World) (sp:Nat->Bool),DataW.trod enc P a1 base sp true (fuel+1) t cs =
       if (D cs)=P.cellsOf t then (eh.toList.mapM λf=>DataW.trod enc P a1 base sp true fuel f.type ((cs.drop f.offset).take (P.cellsOf f.type))).map λxs=>(.agg (xs.map (·.1)),xs.flatMap (·.2)) else none:=by
      intro a1 sp
      conv=>lhs;unfold DataW.trod
      rw[hu]
     rw[key] at M
     split at M
     ·rename_i hlen;rw[e1] at M;obtain⟨xs,qb,rfl⟩:=M;rw[<-hlen] at ca;obtain⟨G,J,af⟩:=arM (λt S h cs x M=>aN t S h fuel cs x M) cs eh.toList 0 l xs aw ca qb;refine⟨?_,J,λa1 sp jA L=>?_⟩
      ·obtain⟨ds,aC,ab⟩:=G;exact⟨ds,aC,by simpa using ab⟩
      ·rw[key,ad hlen,af a1 sp jA L]
       rfl
     ·cases M
    ·cases dh
   ·cases dh
end
end Go.Mini
namespace Go.Mini
open Go Go.ChangeShapes Go.WideShapes Go.RowKit
def af9:q5->Data->Prop
 |.st l,d=>∃cs,d=.agg cs/\Fits l cs
 |s,d=>Fit s [d]
def Pg:List q5->List Data->Prop
 | [],ds=>ds=[]
 |s::r,ds=>∃d t,ds=d::t/\af9 s d/\Pg r t
section
variable {gf:Type} {enc:TypeId×Value->gf} {P:Program} {w:World}
theorem arX {a2:Nat->Prop}{d:Data}{v:Value}{ds:List Data}{vs:List Value}(h:Den w a2 d v)(U:Ae w a2 ds vs):Ae w a2 (d::ds) (v::vs):=by
 refine⟨by simp[U.1],λi yB DY G J=>?_⟩
 cases i with
 |zero=>cases G;cases J;exact h
 |succ i=>exact U.2 i yB DY (by simpa using G) (by simpa using J)
theorem arY {n:Nat}{t:TypeId}{S:q5}{v:Value}{d:DataW gf}{dP:List MemPlace}{sZ:Nat}(dh:sX P n t=some S)(iL:Value.okWide P w .any sZ t v)(h:DataW.Trod enc P w 0 (λ_=>true) true t v d dP):
  (∃c9,af9 S c9/\Den w (λ_=>False) c9 v)/\(∀p∈dP,p.block<w.heap.size) /\
  ∀(a1:World) (sp:Nat->Bool),(∀p∈dP,sp p.block=true)->(∀b,b<w.heap.size->a1.heap[b]?=w.heap[b]?)->DataW.Trod enc P a1 0 sp true t v d dP:=by
 obtain⟨fuel,M⟩:=h;obtain⟨⟨ds,aC,ab⟩,J,af⟩:=arR n t S dh fuel _ _ M;refine⟨?_,J,λa1 sp jA L=>⟨fuel,af a1 sp jA L⟩⟩
 have one:(∀cs,v ≠ .agg cs)->∀d,ds=[d]->Den w (λ_=>False) d v:=by
  intro aD d e;subst e;have:v.cells=#[v]:=by unfold Value.cells;split<;>simp_all
  rw[this] at ab;exact ab.2 0 d v rfl rfl
 cases n with
 |zero=>simp[sX] at dh
 |succ n =>
  unfold sX at dh;unfold Value.okWide at iL
  split at dh
  ·rename_i hu
   cases dh;rw[hu] at iL;obtain⟨b,rfl⟩:=aC;refine⟨_,⟨b,rfl⟩,one ?_ _ rfl⟩;rintro cs rfl;simp[Cell.okWide,Cell.ok,hu] at iL
  ·rename_i k hu
   cases dh;rw[hu] at iL;obtain⟨b,rfl,ah⟩:=aC;refine⟨_,⟨b,rfl,ah⟩,one ?_ _ rfl⟩;rintro cs rfl;simp[Cell.okWide,Cell.ok,hu] at iL
  ·rename_i hu
   cases dh;rw[hu] at iL;obtain⟨b,rfl,ah⟩:=aC;refine⟨_,⟨b,rfl,ah⟩,one ?_ _ rfl⟩;rintro cs rfl;simp[Cell.okWide,Cell.ok,hu] at iL
  ·rename_i e hu
   split at dh
   ·rw[e1] at dh;obtain⟨S,dh,rfl⟩:=dh;rw[hu] at iL;obtain⟨b,rfl,ah⟩:=aC;refine⟨_,⟨b,rfl,ah⟩,one ?_ _ rfl⟩;rintro cs rfl;simp[Cell.okWide,Cell.ok,hu] at iL
   ·cases dh
  ·rename_i eh hu
   split at dh
   ·rw[e1] at dh;obtain⟨l,aw,rfl⟩:=dh;rw[hu] at iL;obtain⟨cs,rfl,-,-⟩:=iL;refine⟨.agg ds,⟨ds,rfl,aC⟩,?_⟩;have:Den w (λ_=>False) (.agg ds) (.agg cs.toList.toArray):=.agg ab.1 ab.2
    simpa using this
   ·cases dh
  ·cases dh
theorem UM {n sZ:Nat}:∀{tV:List TypeId} {schs:List q5} {vs:List Value} {ds:List (DataW gf)} {dP:List MemPlace},tV.mapM (sX P n)=some schs->(∀(j:Nat) t v,tV[j]?=some t->vs[j]?=some v->Value.okWide P w .any sZ t v) ->
  DataW.TrodAll enc P w 0 (λ_=>true) true tV vs ds dP ->
  (∃s0,Pg schs s0/\Ae w (λ_=>False) s0 vs)/\(∀p∈dP,p.block<w.heap.size) /\
  ∀(a1:World) (sp:Nat->Bool),(∀p∈dP,sp p.block=true)->(∀b,b<w.heap.size->a1.heap[b]?=w.heap[b]?)->DataW.TrodAll enc P a1 0 sp true tV vs ds dP
 | [],schs,vs,ds,dP,dh,iL,h=>by
  obtain⟨rfl,rfl,rfl⟩:=trodAll_nil h;simp at dh;subst dh;exact⟨⟨[],rfl,rfl,λi d v h=>by simp at h⟩,by simp,λ_ _ _ _=>rfl⟩
 |t::tV,schs,vs,ds,dP,dh,iL,h=>by
  obtain⟨v,arZ,d,ar0,a,b,rfl,rfl,rfl,G,J⟩:=trodAll_cons h;rw[ny] at dh;simp only[hH,hT,fa,cL] at dh;obtain⟨S,ar1,l,aw,rfl⟩:=dh;obtain⟨⟨c9,gi,ar2⟩,ic,cB⟩:=arY ar1 (iL 0 t v rfl rfl) G;obtain⟨⟨s0,ar3,ar4⟩,kr,dA⟩:=UM aw (λj ar5 DY ca aD=>iL (j+1) ar5 DY (by simpa using ca) (by simpa using aD)) J;refine⟨⟨c9::s0,⟨c9,s0,rfl,gi,ar3⟩,arX ar2 ar4⟩,λp aF=>?_,λa1 sp jA L=>?_⟩
  ·rw[jb] at aF;exact aF.elim (ic p) (kr p)
  ·exact trodAll_cons_mk (cB a1 sp (λp aF=>jA p (jb.2 (.inl aF))) L) (dA a1 sp (λp aF=>jA p (jb.2 (.inr aF))) L)
theorem ar6 {W s3:World}(h:Fr (λ_=>False) W s3)(may:MemPlace->Prop):W.keptBut s3 may:=by
 refine⟨h.os,h.output,λi Q=>?_⟩;rw[h.block i Q id]
 cases ah:W.heap[i]? with
 |none=>trivial
 |some o =>
  cases o with
  |cells c t aK=>exact⟨rfl,rfl,rfl,λ_ _=>rfl⟩
  |map es clock=>exact .inr ⟨rfl,rfl⟩
  |_=>rfl
theorem ar7 {f:Func}{s:ChangeSpec}{apart fresh handsOn again:Bool}{W s3:World}{args:Array Value}{ds gs:List (DataW gf)}{before:List MemPlace}{n sZ:Nat}{schs:List q5}{KL:TypeId}
  (yK:DataW.Whole enc P f.params.toList s.vars apart W args.toList ds gs before) (aD:s.vars=[]) (dh:f.params.toList.mapM (sX P n)=some schs)
  (iL:∀(j:Nat) t v,f.params[j]?=some t->args[j]?=some v->Value.okWide P W .any sZ t v)
  (Y:f.resultTypes=#[KL]) (ah:P.underlying KL=some .bool) (mg:s.fn gf ds={ results:=[.lit (.bool true)],args:=ds }) (aC:Fr (λ_=>False) W s3) :
  s.post enc P f apart fresh handsOn again W args (.bool true) s3:=by
 have UN:=yK;obtain⟨p,q,dV,qe,rfl,a3,aM⟩:=yK;rw[aD] at qe;obtain⟨rfl,rfl⟩:=trodVars_none qe;obtain⟨-,az,L⟩:=UM dh (λj t v ca aD=>iL j t v (by simpa using ca) (by simpa using aD)) dV;have aga:∀b,b<W.heap.size->s3.heap[b]?=W.heap[b]?:=λb ah=>aC.block b ah id
 have ks:∀(b:Nat) (sp:Nat->Bool) (ab:Bool),DataW.TrodAll enc P s3 b sp ab f.resultTypes.toList ((Value.bool true).resultList f.resultTypes.size) (s.fn gf (ds++[])).results []:=by
  intro b sp ab;rw[gS,mg,Y];exact trodAll_cons_mk (shut_bool ah true) trodAll_mk0
 have q1:∀sp:Nat->Bool,(∀x∈p,sp x.block=true)->DataW.TrodAll enc P s3 0 sp true f.params.toList args.toList (s.fn gf (ds++[])).args p:=by
  intro sp jA;rw[gS,mg];exact L s3 sp jA aga
 have agb:∀sp:Nat->Bool,DataW.TrodVars enc P s3 sp s.vars (s.fn gf (ds++[])).vars []:=by
  intro sp;rw[aD,gS,mg]
  rfl
 refine⟨ds,[],p++[],[],p,[],UN,ks _ _ _,q1 _ (λx M=>by simpa using az x M),agb _,ar6 aC _,λ_=>⟨?_,_,_,([]++p)++[],⟨[]++p,[],trodAll_append (q1 _ (λ_ _=>rfl)) (ks _ _ _),agb _,rfl,?_,?_⟩,?_⟩⟩
 ·intro j t r G J;rw[Y] at G J
  cases j with
  |zero =>
   simp[Value.resultList] at G J;subst G J;exact okWide_bool_mk ah true
  |succ j=>simp at G
 ·intro b off aF;have agc:MemPlace.cell b off∈p:=by simpa using aF
  have ah:=az _ agc;have ax:=a3 b off (by simpa using agc);unfold World.frozen? at ax ⊢;rw[aga b ah];exact ax
 ·intro aW;have:=aM aW
  simpa using this
 ·intro x M _
  simpa using M
theorem ar8 {f:FuncId}{fn:Func}{s:ChangeSpec}{apart fresh handsOn again:Bool}{aR:List Data->Option eL}{n:Nat}{schs:List q5}{KL:TypeId}(aF:q2 P f aR)(aD:s.vars=[])(dh:fn.params.toList.mapM (sX P n)=some schs)
  (Y:fn.resultTypes=#[KL]) (ah:P.underlying KL=some .bool) (mg:∀ds:List (DataW gf),D ds=(D fn.params.toList)->s.fn gf ds={ results:=[.lit (.bool true)],args:=ds })
  {W:World} {base:Nat} {args:Array Value} {ds gs:List (DataW gf)} {before:List MemPlace}
  (dG:∀s0,Pg schs s0->aR s0=some (.same (.bool true)))
  (iL:∀(j:Nat) t v,fn.params[j]?=some t->args[j]?=some v->Value.okWide P W .any base t v)
  (yK:DataW.Whole enc P fn.params.toList s.vars apart W args.toList ds gs before) :
  Calls P f args W λe s3=>∃v,e=.returned v/\s.post enc P fn apart fresh handsOn again W args v s3:=by
 have UN:=yK;obtain⟨p,q,dV,qe,rfl,a3,aM⟩:=yK;obtain⟨⟨s0,G,J⟩,-,-⟩:=UM dh (λj t v ca aD=>iL j t v (by simpa using ca) (by simpa using aD)) dV
 have hlen:(D ds)=D fn.params.toList:=by
  have:∀(tV:List TypeId) (vs:List Value) (ds:List (DataW gf)) (dP:List MemPlace),DataW.TrodAll enc P W 0 (λ_=>true) true tV vs ds dP->(D ds)=D tV:=by
   intro tV
   induction tV with
   |nil=>intro vs ds dP h;obtain⟨rfl,rfl,rfl⟩:=trodAll_nil h;rfl
   |cons t r aN=>intro vs ds dP h;obtain⟨v,arZ,d,ar0,a,b,rfl,rfl,rfl,-,J⟩:=trodAll_cons h;simp[aN _ _ _ J]
  exact this _ _ _ _ dV
 have H:=aF.run s0 _ (dG s0 G) (λ_=>False) W args.toList (λb ah=>ah.elim) J;have aW:args.toList.toArray=args:=by simp
 rw[aW] at H;refine H.mono λe s3 ⟨v,he,bD,ab⟩=>⟨v,he,?_⟩
 have:v=.bool true:=by
  have p2:Den s3 (λ_=>False) (.bool true) v:=ab
  cases p2
  rfl
 subst this;exact ar7 UN aD dh iL Y ah (mg ds hlen) bD
theorem UO {α:Type}{l:List α}{n:Nat}(h:(D l)=n+1):∃d t,l=d::t/\D t=n:=by
 cases l with
 |nil=>simp at h
 |cons d t=>exact⟨d,t,rfl,by simpa using h⟩
theorem Ph {α:Type}{e:α->List Data}{good:α->Prop}:∀{es:List (List Data)},(∀x∈es,∃a,x=e a/\good a)->∃l:List α,es=l.map e/\∀a∈l,good a
 | [],_=>⟨[],rfl,by simp⟩
 |x::r,h=>by
  obtain⟨a,rfl,aW⟩:=h x (by simp);obtain⟨l,rfl,aw⟩:=Ph (es:=r) λy aj=>h y (by simp[aj]);exact⟨a::l,rfl,λb ah=>(lS.1 ah).elim (λe=>e ▸ aW) (aw b)⟩
end
end Go.Mini
namespace Go.Mini
open Go
def Ai (x:R)(m:Mem):R->Mem->Prop:=λr mem'=>r=x/\mem'=m
@[go_sem high] theorem aJo {K:bo->Prop}(x:R)(m:Mem)(d:Option Nat)(st:bo):B7 K (some (.rel (Ai x m))) d st=K ⟨put st.tm d x,m⟩:=by
 rw[aqt];apply propext;exact⟨λh=>h x m ⟨rfl,rfl⟩,λh r mem' ⟨av,aB⟩=>by rw[av,aB];exact h⟩
def Ck (bE:List R->Mem->Option (R×Mem))(args:List R)(mem:Mem):Option h8:=(bE args mem).map λx => .rel (Ai x.1 x.2)
@[go_sem] theorem aJp (bE:List R->Mem->Option (R×Mem))(args:List R)(mem:Mem):Ck bE args mem=(bE args mem).map λx => .rel (Ai x.1 x.2):=b8
structure KM (P:Program) (f:FuncId) (bE:List R->Mem->Option (R×Mem)):Prop where
 real:Real P f
 run:∀args mem x,bE args mem=some x->∀A w B vs,ga A w B mem->dW w (cV A B) B args vs->Ub P f vs A w B mem (.rel (Ai x.1 x.2))
def KN (res:List pv)(x:R)(m:Mem):eI->bo->Prop
 |.exit _,_=>False
 |.normal,st=>qS st res=some x/\st.mem=m
 |.ret,st=>qS st res=some x/\st.mem=m
@[go_sem] theorem aJq {res:List pv}{st:bo}(x:R)(m:Mem)(id:Nat):KN res x m (.exit id) st=False:=b8
@[go_sem] theorem aJr {res:List pv}{st:bo}(x:R)(m:Mem):KN res x m .ret st=(qS st res=some x/\st.mem=m):=b8
theorem agd {P : Program}{T : bl}{kb : Nat}{own : List Nat}(dK : q0 P T)(hm : P.follows .mixedOrders = true){f : FuncId}{fn : Func}{mf : bZ}(aC : P.funcs[f]? = some fn)(ud : (fn.name == "runtime.NumGoroutine") = false)(bc : sN P kb own fn = some { mf with body := erase mf.body })
  {bE:List R->Mem->Option (R×Mem)} (h:∀args mem x,bE args mem=some x->(D args)<=mf.n/\wp T mf.body (KN mf.res x.1 x.2) ⟨lk args,mem⟩):KM P f bE:=by
 refine⟨?_,λargs mem x ot A w B vs ct aD=>?_⟩
 ·cases ah:fn.body with
  |none=>simp[sN,ah] at bc
  |some c=>exact⟨fn,c,aC,ah,ud⟩
 ·obtain⟨hlen,Af⟩:=h args mem x ot;refine Calls.mono (KD (Post:=Ai x.1 x.2) dK hm aC bc hlen (λe st L=>?_) Af ct aD) λe a1 he=>?_
  ·cases e with
   |exit id=>exact L
   |normal=>exact⟨_,L.1,rfl,L.2⟩
   |ret=>exact⟨_,L.1,rfl,L.2⟩
  ·obtain⟨v,m,mem',bQ,rfl,U,sP,aF⟩:=he;exact⟨v,m,mem',bQ,rfl,U,sP,aF⟩
def Pj:Option (R×Mem)->Option h8->Option h8
 |some x,_=>some (.rel (Ai x.1 x.2))
 |none,e=>e
@[go_sem] theorem aJs (x:R×Mem)(e:Option h8):Pj (some x) e=some (.rel (Ai x.1 x.2)):=b8
@[go_sem] theorem aJt (e:Option h8):Pj none e=e:=b8
def Aj (aR:List Data->Option eL)(bE:List R->Mem->Option (R×Mem))(args:List R)(mem:Mem):Option h8:=Pj (bE args mem) (aQ aR args mem)
@[go_sem] theorem aJu (aR:List Data->Option eL)(bE:List R->Mem->Option (R×Mem))(args:List R)(mem:Mem):Aj aR bE args mem=Pj (bE args mem) (aQ aR args mem):=b8
open Classical in
def Hd {α:Type}(bn:α->List R->Mem->Prop)(res:α->Mem->R×Mem):List R->Mem->Option (R×Mem):=λargs mem=>if h:∃a,bn a args mem then some (res (yG h) mem) else none
theorem age {α:Type}{bn:α->List R->Mem->Prop}{res:α->Mem->R×Mem}(uniq:∀a b args mem,bn a args mem->bn b args mem->res a mem=res b mem){a:α}{args:List R}{mem:Mem}(h:bn a args mem):Hd bn res args mem=some (res a mem):=by
 have M:∃b,bn b args mem:=⟨a,h⟩;unfold Hd;rw[dif_pos M,uniq _ _ _ _ (q3 M) h]
theorem UP {α:Type}{bn:α->List R->Mem->Prop}{res:α->Mem->R×Mem}{args:List R}{mem:Mem}{x:R×Mem}(h:Hd bn res args mem=some x):∃a,bn a args mem/\x=res a mem:=by
 unfold Hd at h
 split at h
 ·rename_i M;exact⟨_,q3 M,(oh h).symm⟩
 ·cases h
def yL:Nat->Nat->List Int
 |0,_=>[]
 |f+1,n=>if n=0 then [] else ((n%1048576:Nat):Int)::yL f (n/1048576)
def aP (n:Nat):List Int:=yL n n
def bs:List Int->Int
 | []=>0
 |d::r=>d+1048576*bs r
theorem uf (d:Int)(r:List Int):bs (d::r)=d+1048576*bs r:=rfl
def fe (l:List Int):Prop:=∀d∈l,0<=d/\d<1048576
def gg:List Int->List Int
 | []=>[]
 |d::r=>if gg r=[] then (if d=0 then [] else [d]) else d::gg r
def ae (n:Int):List Data:=[.int .i64 n]
theorem jD (b:Int):(ae b).length=1:=rfl
theorem yM (b:Int):((ae b).map R.I).all R.one=true:=rfl
theorem gx:∀a b:Int,ae a=ae b->a=b:=by intro a b h;simpa [ae] using h
theorem ar9:∀(f g n:Nat),n<=f->n<=g->yL f n=yL g n:=by
 intro f
 induction f with
 |zero =>
      intro g n h _;obtain rfl:n=0:=by omega
      cases g<;>simp[yL]
 |succ f aN =>
  intro g n G J
  cases g with
  |zero =>
       obtain rfl:n=0:=by omega
       simp[yL]
  |succ g =>
   unfold yL
   by_cases aM:n=0
   ·rw[ad aM,ad aM]
   ·rw[ag aM,ag aM,aN g (n/1048576) (by omega) (by omega)]
theorem ug:aP 0=[]:=rfl
theorem vA {n:Nat}(h:0<n):aP n=((n%1048576:Nat):Int)::aP (n/1048576):=by
 unfold aP;obtain⟨k,rfl⟩:∃k,n=k+1:=⟨n-1,by omega⟩
 conv=>lhs;unfold yL
 rw[ag (by omega),ar9 k ((k+1)/1048576) _ (by omega) (by omega)]
theorem ml (n:Nat):bs (aP n)=n:=by
 induction n using Uu with
 |_ n aN =>
  rcases ko n with rfl|h
  ·rfl
  ·rw[vA h];unfold bs;rw[aN _ (by omega)];omega
theorem KO {a b:Nat}(h:aP a=aP b):a=b:=by
 have:=congrArg bs h;rw[ml,ml] at this;omega
theorem nh (n:Nat):fe (aP n):=by
 induction n using Uu with
 |_ n aN =>
  rcases ko n with rfl|h
  ·intro d ab;cases ab
  ·rw[vA h];intro d ab;rcases lS.1 ab with rfl|ab
   ·omega
   ·exact aN _ (by omega) d ab
theorem Ak {n:Nat}:aP n=[]↔n=0:=by
 constructor
 ·intro h;exact KO (b:=0) h
 ·rintro rfl;rfl
theorem pE {l:List Int}(h:fe l):0<=bs l:=by
 induction l with
 |nil=>exact Int.le_refl _
 |cons d r aN =>
  have G:=h d (by simp);have J:=aN λx M=>h x (by simp[M]);unfold bs;omega
theorem He {d:Int}{r:List Int}:fe (d::r)↔(0<=d/\d<1048576)/\fe r :=
 ⟨λh=>⟨h d (by simp),λx M=>h x (by simp[M])⟩,λh x M=>(lS.1 M).elim (λe=>e ▸ h.1) (h.2 x)⟩
theorem Eh {a b:List Int}:fe (a++b)↔fe a/\fe b :=
 ⟨λh=>⟨λx M=>h x (by simp[M]),λx M=>h x (by simp[M])⟩,λh x M=>(jb.1 M).elim (h.1 x) (h.2 x)⟩
theorem Ei (a b:List Int):bs (a++b)=bs a+1048576^(D a)*bs b:=by
 induction a with
 |nil=>simp[bs]
 |cons d r aN =>
  simp only[mj,bs,aN,jO,nF];rw[iN]
  have:(1048576:Int)*(1048576^(D r)*bs b)=1048576^(D r)*1048576*bs b:=by
   rw[nG (1048576^(D r)) 1048576,iO]
  omega
theorem Al {l:List Int}(h:fe l):bs l<1048576^(D l):=by
 induction l with
 |nil=>simp[bs]
 |cons d r aN =>
  rw[He] at h;have J:=aN h.2;simp only[bs,jO,nF];omega
theorem agf (l:List Int):gg (l++[0])=gg l:=by
 induction l with
 |nil=>simp[gg]
 |cons d r aN=>simp only[mj,gg,aN]
theorem agh (l:List Int){d:Int}(h:d≠0):gg (l++[d])=l++[d]:=by
 induction l with
 |nil=>simp[gg,h]
 |cons x r aN=>simp only[mj,gg,aN];simp
theorem Am {l:List Int}(h:fe l):gg l=aP (bs l).toNat:=by
 induction l with
 |nil=>rfl
 |cons d r aN =>
  rw[He] at h;have Y:=aN h.2;have aD:=pE h.2;unfold gg;rw[Y,uf]
  by_cases a3:bs r=0
  ·rw[a3]
   by_cases ab:d=0
   ·simp[ab,ug]
   ·rw[ad (by rfl),ag ab];rw[vA (by omega)];rw[show (d+1048576*0).toNat/1048576=0 by omega,ug]
    congr 1
    omega
  ·rw[ag (by rw[Ak];omega)];rw[vA (n:=(d+1048576*bs r).toNat) (by omega)]
   congr 1
   ·omega
   ·congr 1;omega
theorem agi (n:Nat):gg (aP n)=aP n:=by
 rw[Am (nh n),ml];simp
theorem canon {l:List Int}(h:fe l)(aw:l.getLast?≠some 0):l=aP (bs l).toNat:=by
 rw[<-Am h];rcases yN l with rfl|⟨r,d,rfl⟩
 ·rfl
 ·rw[yO] at aw ⊢;rw[agh];rintro rfl;simp at aw
theorem agj (n:Nat):(aP n).getLast?≠some 0:=by
 intro h
 obtain⟨r,Y⟩:∃r,aP n=r++[0]:=by
  rcases yN (aP n) with e|⟨r,d,e⟩
  ·rw[e] at h;cases h
  ·rw[yO] at e;rw[e] at h;simp at h;subst h;exact⟨r,e⟩
 have G:=agi n;rw[Y,agf] at G
 have J:(gg r).length<=D r:=by
  clear G Y h
  induction r with
  |nil=>simp[gg]
  |cons d r aN=>unfold gg;split<;>(try split)<;>simp<;>omega
 rw[G] at J;simp at J;omega
theorem gC {n k:Nat}:(aP n).length<=k↔n<1048576^k:=by
 induction k generalizing n with
 |zero =>
      rw[Nat.pow_zero];constructor
      ·intro h;have:=tW (Nat.le_zero.1 h);rw[Ak] at this;omega
      ·intro h;obtain rfl:n=0:=by omega
       simp[ug]
 |succ k aN =>
  rcases ko n with rfl|h
  ·simp[ug];exact Hf (by simp)
  ·rw[vA h,jO,vB];have:=aN (n:=n/1048576);rw[Nat.add_le_add_iff_right,this];rw[agk (by omega)]
theorem Ej {n:Nat}(h:0<n)(G:n<1048576):aP n=[(n:Int)]:=by
 rw[vA h,UG G,KK G];rfl
theorem KP (l:List Int)(i:Nat):bs l=bs (l.take i)+1048576^(min i (D l))*bs (l.drop i):=by
 conv=>lhs;rw[<-vz i l]
 rw[Ei,gv]
theorem An (n:Int)(h:0<=n/\n<18446744073709551616):IntKind.u64.wrap n=n:=by
 simp[IntKind.wrap,IntKind.bits,IntKind.signed];omega
theorem Ao (n:Int):bits .and .i64 n 1048575=n%1048576:=by
 have J:(1048575:Int)=((2^20-1:Nat):Int):=by decide
 have G:n%18446744073709551616%1048576=n%1048576:=by omega
 obtain⟨a,aW⟩:∃a:Nat,(a:Int)=n%18446744073709551616:=⟨(n%18446744073709551616).toNat,by omega⟩
 have e:BitVec.ofInt 64 n=BitVec.ofNat 64 a:=by
  apply BitVec.eq_of_toInt_eq;rw[BitVec.toInt_ofInt,BitVec.toInt_ofNat',aW];simp[agl,agm]
 have aB:bits .and .i64 n 1048575=bits .and .i64 (a:Int) 1048575:=by
  simp only[bits];rw[show IntKind.i64.bits=64 from rfl,e,BitVec.ofInt_natCast]
 rw[aB,<-G,<-aW,J];have UQ:a<2^64:=by omega
 simp only[bits,BitVec.ofInt_natCast,BitVec.toNat_and,BitVec.toNat_ofNat,show IntKind.i64.bits=64 from rfl,KK UQ];rw[show (2^20-1:Nat)%2^64=2^20-1 by decide,agn,wrap64 _ (by omega) (by omega)]
 omega
theorem ago (n:Int)(h:0<=n/\n<18446744073709551616):bits .and .u64 n 1048575=n%1048576:=by
 have:=bits_mask .u64 64 (by decide) (λn G J=>An n ⟨G,by omega⟩) 20 (by decide) n h.1 (by omega)
 simpa using this
theorem UR (x y:Int)(M:0<=x)(pD:x<8796093022208)(aj:0<=y/\y<1048576):bits .or .i64 (x*1048576) y=x*1048576+y:=by
 refine bits_join .i64 63 (by decide) (λn G J=>wrap64 n (by omega) (by omega)) 20 _ _ (by omega) (by omega) (by omega) aj.1 (by omega) (by omega)
theorem asa (n:Int):n.fdiv (2^20)=n/1048576:=by
 rw[Int.fdiv_eq_ediv_of_nonneg _ (by decide)];rfl
theorem w9 (n:Int):n.fdiv (2^min (Ek 20) 64)=n/1048576:=asa n
def US:FuncId:=10
def UT:FuncId:=190
def UU:FuncId:=172
def Pk:FuncId:=28
def Hg:FuncId:=193
def UW:FuncId:=35
def lT:FuncId:=52
def yP:FuncId:=30
def UX:FuncId:=19
def Ap:FuncId:=64
def nH:FuncId:=203
def UY:FuncId:=204
def Cl:FuncId:=205
def KQ:FuncId:=53
def UZ:FuncId:=191
def El:FuncId:=62
def U0:FuncId:=171
def yQ:FuncId:=29
def xa:FuncId:=72
def pF:FuncId:=22
def lx:FuncId:=91
def KR:FuncId:=92
def U1:FuncId:=93
def U2:FuncId:=75
def vC:FuncId:=76
def Em:FuncId:=77
def Pl:FuncId:=67
def KS:FuncId:=107
def Hh:FuncId:=98
def U3:FuncId:=210
def U4:FuncId:=94
def Pm:FuncId:=206
def U5:FuncId:=207
def KT:FuncId:=105
def Pn:FuncId:=106
def U6:FuncId:=189
def Hi:FuncId:=74
def En:FuncId:=68
def U7:FuncId:=69
def vD:FuncId:=117
def yR:FuncId:=60
def KU:FuncId:=109
def pG:FuncId:=110
def U8:FuncId:=147
def U9:FuncId:=116
def Hj:FuncId:=118
def ly:FuncId:=95
def Hk:FuncId:=156
def KV:FuncId:=96
def Eo:FuncId:=142
def pH:FuncId:=149
def KW:FuncId:=211
def Cm:FuncId:=212
def Ep:FuncId:=73
def asb:FuncId:=201
def Va:FuncId:=202
def KX:FuncId:=111
def Hl:FuncId:=112
def Hm:FuncId:=113
def Er:FuncId:=114
def Po:FuncId:=157
def q6:FuncId:=158
def Vb:FuncId:=159
def Vc:FuncId:=161
def KY:FuncId:=148
def KZ:FuncId:=154
def Cn:FuncId:=155
def uh:FuncId:=175
def Pp:FuncId:=160
def Co:FuncId:=151
def Es:FuncId:=153
def ui:FuncId:=176
def Vd:FuncId:=141
def Ve:FuncId:=173
def Vf:FuncId:=174
def Aq:FuncId:=66
def mm:FuncId:=56
def Cp:FuncId:=140
def Pq:FuncId:=57
def Vg:FuncId:=192
def Vh:FuncId:=194
def Pr:FuncId:=195
def r2:FuncId:=99
def Vi:FuncId:=108
def Ar:FuncId:=101
def K0:FuncId:=97
def K1:FuncId:=100
def Hn:FuncId:=146
def Ps:FuncId:=208
def Et:FuncId:=152
def Vj:FuncId:=150
def Vk:FuncId:=8
def Vl:FuncId:=9
def Eu:FuncId:=11
def K2:FuncId:=14
def Pt:FuncId:=24
def Ho:FuncId:=34
def K3:FuncId:=36
def Vm:FuncId:=37
def Pu:FuncId:=38
def ou:FuncId:=39
def Ev:FuncId:=40
def K4:FuncId:=41
def K5:FuncId:=42
def mn:FuncId:=51
def Vn:FuncId:=54
def Hp:FuncId:=55
def Vo:FuncId:=71
def yS:FuncId:=70
def K6:FuncId:=50
def vE:FuncId:=82
def K7:FuncId:=83
def K8:FuncId:=84
def Vp:FuncId:=85
def Vq:FuncId:=86
def Vr:FuncId:=87
def Vs:FuncId:=26
def Pv:FuncId:=102
def K9:FuncId:=103
def Pw:FuncId:=104
def Hq:FuncId:=115
def Vt:FuncId:=135
def Px:FuncId:=136
def Vu:FuncId:=137
def asc:FuncId:=3
def Vv:FuncId:=12
def Vw:FuncId:=13
def Vx:FuncId:=15
def La:FuncId:=43
def Py:FuncId:=44
def s4:FuncId:=45
def oY:FuncId:=46
def q7:FuncId:=47
def Lb:FuncId:=48
def Ew:FuncId:=49
def Vy:FuncId:=88
def Hr:FuncId:=89
def Vz:FuncId:=90
def VA:FuncId:=138
def Pz:FuncId:=139
def VB:FuncId:=143
def VC:FuncId:=144
def Cq:FuncId:=145
abbrev F (a b:Nat):du:=⟨some a,none,.bT (.t b)⟩
abbrev aL (a n b:Nat):du:=⟨some a,none,.load n false (.t b)⟩
abbrev aU (a n b:Nat):du:=⟨some a,none,.load n true (.t b)⟩
abbrev aO (a n b:Nat):du:=⟨some a,none,.dt n (.t b)⟩
abbrev aX (n a b:Nat):du:=⟨none,none,.store n (.t a) (.t b)⟩
abbrev bg (a:Nat)(n:Int):du:=⟨some a,none,.bT (.c (.I (.int .i64 n)))⟩
abbrev ba (a n b:Nat):du:=⟨some a,none,.ext n (.t b)⟩
abbrev bB (a n b c:Nat):du:=⟨some a,none,.ht n (.t b) (.t c)⟩
abbrev cb (a b:Nat):du:=⟨some a,none,.len (.t b)⟩
abbrev cq (a:Nat)(b:Bool):du:=⟨some a,none,.bT (.c (.I (.bool b)))⟩
abbrev eu (a:Nat):du:=⟨some a,none,.bT (.c .nil)⟩
abbrev bt (a:Nat)(o:BinOp)(b c:Nat):du:=⟨some a,none,.bin o (.t b) (.t c)⟩
abbrev a6 (a:Nat)(o:BinOp)(b:Nat)(n:Int):du:=⟨some a,none,.bin o (.t b) (.c (.I (.int .i64 n)))⟩
abbrev cR (a b c:Nat):du:=⟨some a,none,.pick (.t b) (.c (.I (.bool true))) (.t c)⟩
abbrev gN (a b c:Nat):du:=⟨some a,none,.pick (.t b) (.t c) (.c (.I (.bool false)))⟩
abbrev dq (a k b:Nat):du:=⟨some a,none,.box k (.t b)⟩
abbrev eY (a b:Nat):du:=⟨some a,none,.nv (.t b)⟩
abbrev ff (a b:Nat):du:=⟨some a,none,.un .not (.t b)⟩
abbrev Z (n:Int):R:=.I (.int .i64 n)
abbrev dM (a:Nat)(f:FuncId)(x:Nat):du:=⟨some a,none,.call f [.t x]⟩
abbrev bW (a:Nat)(f:FuncId)(x y:Nat):du:=⟨some a,none,.call f [.t x,.t y]⟩
abbrev qf (a:Nat)(f:FuncId)(x y z:Nat):du:=⟨some a,none,.call f [.t x,.t y,.t z]⟩
abbrev Cr (a:Nat)(f:FuncId)(x y z u:Nat):du:=⟨some a,none,.call f [.t x,.t y,.t z,.t u]⟩
abbrev au (a:Nat)(o:kl):du:=⟨some a,none,o⟩
abbrev cj (n m:Nat)(r:List pv)(b:er):bZ:=⟨n,m,r,b⟩
abbrev aS (n:Nat)(a b:er):er:=.cond (.t n) a b
abbrev O (l:List du)(c:er):er:=.seq (.ops l) c
abbrev eG (l:List du)(x:List (List Nat))(c:er):er:=.seq (.mN l x) c
abbrev agp:List (List Nat):=[[],[],[],[],[]]
abbrev VD:List (List Nat):=[[],[],[],[],[],[]]
abbrev PA:List (List Nat):=[[],[],[],[],[],[],[]]
abbrev asd:List (List Nat):=[[],[],[],[],[],[],[],[]]
abbrev PB:List (List Nat):=[[],[],[],[],[],[],[],[],[]]
abbrev Lc:List (List Nat):=[[],[],[],[],[],[],[],[],[],[]]
abbrev Ex:List (List Nat):=[[],[],[],[],[],[],[],[],[],[],[]]
abbrev agq:List (List Nat):=[[],[],[],[],[],[],[],[],[],[],[],[]]
abbrev Hs:List (List Nat):=[[],[],[],[],[],[],[],[],[],[],[],[],[]]
abbrev Ld:List (List Nat):=[[],[],[],[],[],[],[],[],[],[],[],[],[],[]]
abbrev ase:List (List Nat):=[[],[],[],[],[],[],[],[],[],[],[],[],[],[],[]]
abbrev Ht:List (List Nat):=[[],[],[],[],[],[],[],[],[],[],[],[],[],[],[],[]]
abbrev agr:List (List Nat):=[[],[],[],[],[],[],[],[],[],[],[],[],[],[],[],[],[]]
abbrev ags:List (List Nat):=[[],[],[],[],[],[],[],[],[],[],[],[],[],[],[],[],[],[]]
abbrev VE:List (List Nat):=[[],[],[],[],[],[],[],[],[],[],[],[],[],[],[],[],[],[],[],[],[]]
abbrev asf:List (List Nat):=[[],[],[],[],[],[],[],[],[],[],[],[],[],[],[],[],[],[],[],[],[],[],[],[]]
abbrev asg:List (List Nat):=[[],[],[],[],[],[],[],[],[],[],[],[],[],[],[],[],[],[],[],[],[],[],[],[],[],[]]
abbrev ash:List (List Nat):=[[],[],[],[],[],[],[],[],[],[],[],[],[],[],[],[],[],[],[],[],[],[],[],[],[],[],[],[]]
abbrev asi:List (List Nat):=[[],[],[],[],[],[],[],[],[],[],[],[],[],[],[],[],[],[],[],[],[],[],[],[],[],[],[],[],[],[]]
def VF:bZ:=cj 49 1 [.t 2] (O [dq 1 136001 0,cq 2 false] (O [aO 6 1 1,aL 7 1 6,cb 8 7,F 3 8] (.seq (O [aO 9 1 1,aL 10 1 9,cb 11 10,bg 12 0] (.block 0 (.loop  (O [bt 13 .lss 12 11] (.seq (aS 13 .skip (.exit 0)) (.seq (.block 1 (O [bB 14 1 10 12,aL 15 1 14,F 5 15] (O [F 16 5,a6 17 .lss 16 0,F 18 17,⟨some 19,some (18,false),.bT (.t 5)⟩,⟨some 20,some (18,false),.bin .gtr (.t 19) (.c (Z 1048575))⟩,cR 21 18 20] (aS 21 (O [cq 2 false] .ret) .skip)))) (.ops [a6 22 .add 12 1,F 12 22]))))))) (.seq (O [F 23 3,a6 24 .eql 23 0] (aS 24 (O [aO 25 0 1,aL 26 1 25,a6 27 .eql 26 0,F 2 27] .ret) .skip)) (O [aO 28 0 1,aL 29 1 28,a6 30 .eql 29 1,F 31 30,⟨some 32,some (31,false),.dt 0 (.t 1)⟩,⟨some 33,some (31,false),.load 1 false (.t 32)⟩,⟨some 34,some (31,false),.bin .eql (.t 33) (.c (.I (.int .i64 (-1))))⟩,cR 35 31 34,F 36 35,⟨some 37,some (36,true),.bT (.t 3)⟩,⟨some 38,some (36,true),.bin .leq (.t 37) (.c (Z 60))⟩,gN 39 36 38,F 40 39,⟨some 41,some (40,true),.dt 1 (.t 1)⟩,⟨some 42,some (40,true),.load 1 false (.t 41)⟩,⟨some 43,some (40,true),.bT (.t 3)⟩,⟨some 44,some (40,true),.bin .sub (.t 43) (.c (Z 1))⟩,⟨some 45,some (40,true),.ht 1 (.t 42) (.t 44)⟩,⟨some 46,some (40,true),.load 1 false (.t 45)⟩,⟨some 47,some (40,true),.bin .neq (.t 46) (.c (Z 0))⟩,gN 48 40 47,F 2 48] .ret)))))
def VG:bZ:=cj 44 2 [.cell 4 2 true,.t 5] (O [dq 2 137002 0,dq 3 137003 1,(au 4 (.alloc 137004 [(Z 0),.nil])),bg 5 0] (.seq (O [aU 10 2 2,(dM 11 lx 10),ff 12 11,F 13 12,⟨some 14,some (13,false),.load 2 true (.t 3)⟩,⟨some 15,some (13,false),.call lx [(.t 14)]⟩,⟨some 16,some (13,false),.un .not (.t 15)⟩,cR 17 13 16] (aS 17 (O [(au 18 (.build [(Z 0),.nil] [])),(au 19 (.call vD [(.c (.I (.bool false))),(.t 18)])),ba 20 0 19,ba 21 1 19,aX 2 4 20,F 5 21] .ret) .skip)) (eG [aO 22 1 2,aL 23 1 22,(dM 24 yR 23),aO 25 1 3,aL 26 1 25,F 6 24,F 7 26] PA (.seq (.block 0 (.loop  (.seq (O [F 27 7,cb 28 27,a6 29 .gtr 28 0] (aS 29 .skip (.exit 0))) (.block 1 (O [F 31 6,F 32 7,(bW 33 KU 31 32),F 30 33,ba 34 0 30,ba 35 1 30,F 8 34,F 9 35] (.ops [F 36 7,F 37 9,F 6 36,F 7 37])))))) (O [F 38 6,(dM 39 yR 38),(au 40 (.call pG [(.c (Z 1)),(.t 39)])),(au 41 (.call vD [(.c (.I (.bool true))),(.t 40)])),ba 42 0 41,ba 43 1 41,aX 2 4 42,F 5 43] .ret)))))
def VH:bZ:=cj 32 2 [.cell 4 2 true,.t 5] (O [dq 2 140002 0,dq 3 140003 1,(au 4 (.alloc 140004 [(Z 0),.nil])),bg 5 0] (.seq (O [aU 6 2 2,(dM 7 lx 6),ff 8 7,F 9 8,⟨some 10,some (9,false),.load 2 true (.t 3)⟩,⟨some 11,some (9,false),.call lx [(.t 10)]⟩,⟨some 12,some (9,false),.un .not (.t 11)⟩,cR 13 9 12] (aS 13 (O [(au 14 (.build [(Z 0),.nil] [])),(au 15 (.call vD [(.c (.I (.bool false))),(.t 14)])),ba 16 0 15,ba 17 1 15,aX 2 4 16,F 5 17] .ret) .skip)) (eG [aO 18 0 2,aL 19 1 18,aO 20 0 3,aL 21 1 20,bt 22 .mul 19 21,aO 23 1 2,aL 24 1 23,aO 25 1 3,aL 26 1 25,(bW 27 Hj 24 26),(bW 28 pG 22 27),(au 29 (.call vD [(.c (.I (.bool true))),(.t 28)])),ba 30 0 29,ba 31 1 29,aX 2 4 30,F 5 31] Ht .ret)))
def VI:bZ:=cj 25 1 [.cell 2 2 true] (O [(au 2 (.alloc 150002 [(Z 0),.nil]))] (O [F 6 0,(au 7 (.conv .u64 (.t 6))),bg 3 1,F 4 7] (.seq (O [F 8 0,a6 9 .lss 8 0] (aS 9 (.ops [F 10 4,(au 11 (.un .neg (.t 10))),(au 3 (.bT (.c (.I (.int .i64 (-1)))))),F 4 11]) .skip)) (O [eu 5] (.seq (.block 0 (.ghost (.mM 5 150021 1) (.loop  (.seq (O [F 12 4,(au 13 (.bin .gtr (.t 12) (.c (.I (.int .u64 0)))))] (aS 13 .skip (.exit 0))) (.seq (.block 1 (.ops [F 16 5,F 17 4,(au 18 (.bin .and (.t 17) (.c (.I (.int .u64 1048575))))),(au 19 (.conv .i64 (.t 18))),(au 20 (.dU 150020 false [(Z 0)] 1 1 [(0,1,(.t 19))])),(au 21 (.app 150021 [(Z 0)] 8 (.t 16) (.t 20))),F 5 21])) (.ops [F 14 4,(au 15 (.bin .shr (.t 14) (.c (.I (.int .u64 20))))),F 4 15])))))) (.seq (.ghost (.freeze 5) (.ops [F 22 3,F 23 5,(bW 24 pG 22 23),aX 2 2 24])) .ret))))))
def VJ:bZ:=cj 14 1 [.cell 2 2 true] (O [dq 1 152001 0,(au 2 (.alloc 152002 [(Z 0),.nil]))] (.seq (O [aU 3 2 1,(dM 4 lx 3),ff 5 4] (aS 5 (O [(au 6 (.build [(Z 0),.nil] [])),aX 2 2 6] .ret) .skip)) (eG [aO 7 0 1,aL 8 1 7,(au 9 (.un .neg (.t 8))),aO 10 1 1,aL 11 1 10,(dM 12 yR 11),(bW 13 pG 9 12),aX 2 2 13] asd .ret)))
def VK:bZ:=cj 67 2 [.cell 4 2 true,.cell 5 2 true,.t 6] (O [dq 2 153002 0,dq 3 153003 1,(au 4 (.alloc 153004 [(Z 0),.nil])),(au 5 (.alloc 153005 [(Z 0),.nil])),bg 6 0] (.seq (.block 0 (O [aU 10 2 2,(dM 11 lx 10),ff 12 11,F 13 12,⟨some 14,some (13,false),.load 2 true (.t 3)⟩,⟨some 15,some (13,false),.call lx [(.t 14)]⟩,⟨some 16,some (13,false),.un .not (.t 15)⟩,cR 17 13 16,F 9 17] (aS 9 (O [(au 18 (.build [(Z 0),.nil] [])),(au 19 (.build [(Z 0),.nil] [])),aX 2 4 18,aX 2 5 19,bg 6 1] .ret) (O [aO 21 0 3,aL 22 1 21,a6 23 .eql 22 0,F 20 23] (aS 20 (O [(au 24 (.build [(Z 0),.nil] [])),(au 25 (.build [(Z 0),.nil] [])),aX 2 4 24,aX 2 5 25,bg 6 15] .ret) .skip))))) (O [aO 27 1 2,aL 28 1 27,aO 29 1 3,aL 30 1 29,(bW 31 KU 28 30),F 26 31,ba 32 0 26,ba 33 1 26,F 7 32,F 8 33] (.seq (O [aO 34 0 2,aL 35 1 34,aO 36 0 3,aL 37 1 36,bt 38 .mul 35 37,a6 39 .lss 38 0,F 40 39,⟨some 41,some (40,true),.bT (.t 8)⟩,⟨some 42,some (40,true),.len (.t 41)⟩,⟨some 43,some (40,true),.bin .gtr (.t 42) (.c (Z 0))⟩,gN 44 40 43] (aS 44 (eG [F 45 7,(au 46 (.dU 153046 false [(Z 0)] 1 1 [(0,1,(.c (Z 1)))])),(bW 47 KX 45 46),(au 48 (.call pG [(.c (.I (.int .i64 (-1)))),(.t 47)])),aO 49 0 3,aL 50 1 49,aO 51 1 3,aL 52 1 51,F 53 8,(bW 54 Hl 52 53),(bW 55 pG 50 54),aX 2 4 48,aX 2 5 55,bg 6 0] Ld .ret) .skip)) (eG [aO 56 0 2,aL 57 1 56,aO 58 0 3,aL 59 1 58,bt 60 .mul 57 59,F 61 7,(bW 62 pG 60 61),aO 63 0 2,aL 64 1 63,F 65 8,(bW 66 pG 64 65),aX 2 4 62,aX 2 5 66,bg 6 0] Ld .ret)))))
def VL:bZ:=cj 31 2 [.t 4] (O [dq 2 154002 0,dq 3 154003 1,bg 4 0] (.seq (O [aU 5 2 2,(dM 6 lx 5),ff 7 6,F 8 7,⟨some 9,some (8,false),.load 2 true (.t 3)⟩,⟨some 10,some (8,false),.call lx [(.t 9)]⟩,⟨some 11,some (8,false),.un .not (.t 10)⟩,cR 12 8 11] (aS 12 (O [bg 4 0] .ret) .skip)) (.seq (O [aO 13 0 2,aL 14 1 13,aO 15 0 3,aL 16 1 15,bt 17 .neq 14 16] (aS 17 (O [aO 18 0 2,aL 19 1 18,aO 20 0 3,aL 21 1 20,(bW 22 Hm 19 21),F 4 22] .ret) .skip)) (eG [aO 23 0 2,aL 24 1 23,aO 25 1 2,aL 26 1 25,aO 27 1 3,aL 28 1 27,(bW 29 Er 26 28),bt 30 .mul 24 29,F 4 30] PB .ret))))
def VM:bZ:=cj 17 2 [.cell 4 2 true,.t 5] (O [dq 3 155003 1,(au 4 (.alloc 155004 [(Z 0),.nil])),bg 5 0] (.seq (.block 0 (O [F 7 0,ff 8 7,F 6 8] (aS 6 (O [(au 9 (.build [(Z 0),.nil] [])),aX 2 4 9,bg 5 1] .ret) (O [aO 11 1 3,aL 12 1 11,cb 13 12,a6 14 .gtr 13 60,F 10 14] (aS 10 (O [(au 15 (.build [(Z 0),.nil] [])),aX 2 4 15,bg 5 6] .ret) .skip))))) (O [aU 16 2 3,aX 2 4 16,bg 5 0] .ret)))
def VN:bZ:=cj 170 2 [.t 4,.t 5] (O [eu 4,eu 5] (.seq (O [F 19 0,F 20 1,(bW 21 Er 19 20),a6 22 .lss 21 0] (aS 22 (O [F 23 0,(dM 24 yR 23),eu 4,F 5 24] .ret) .skip)) (.seq (O [F 25 1,cb 26 25,a6 27 .eql 26 1] (aS 27 (O [F 29 0,F 30 1,(au 31 (.ht 1 (.t 30) (.c (Z 0)))),aL 32 1 31,(bW 33 Po 29 32),F 28 33,ba 34 0 28,ba 35 1 28,F 6 34,F 7 35] (O [F 36 6,F 37 7,(au 38 (.dU 157038 false [(Z 0)] 1 1 [(0,1,(.t 37))])),(dM 39 q6 38),F 4 36,F 5 39] .ret)) .skip)) (O [bg 8 1] (.seq (.block 0 (.loop  (.seq (O [F 40 1,F 41 1,cb 42 41,a6 43 .sub 42 1,bB 44 1 40 43,aL 45 1 44,F 46 8,bt 47 .mul 45 46,a6 48 .lss 47 524288] (aS 48 .skip (.exit 0))) (.block 1 (.ops [F 49 8,a6 50 .mul 49 2,F 8 50]))))) (O [F 51 0,F 52 8,(au 53 (.dU 157053 false [(Z 0)] 1 1 [(0,1,(.t 52))])),(au 54 (.oO 157054 1 Hj [(.t 51),(.t 53)])),(au 55 (.dU 157055 false [(Z 0)] 1 1 [(0,1,(.c (Z 0)))])),(au 56 (.app 157056 [(Z 0)] 8 (.t 54) (.t 55))),F 57 1,F 58 8,(au 59 (.dU 157059 false [(Z 0)] 1 1 [(0,1,(.t 58))])),(bW 60 Hj 57 59),F 9 56,F 10 60] (.seq (O [F 61 9,cb 62 61,F 63 0,cb 64 63,bt 65 .eql 62 64] (aS 65 (.ops [F 66 9,(au 67 (.dU 157067 false [(Z 0)] 1 1 [(0,1,(.c (Z 0)))])),(au 68 (.app 157068 [(Z 0)] 8 (.t 66) (.t 67))),F 9 68]) .skip)) (O [F 69 10,cb 70 69,F 11 70] (O [F 71 9,cb 72 71,F 73 11,bt 74 .sub 72 73,(au 75 (.lg 157075 [(Z 0)] 8 (.t 74) (.t 74))),F 12 75] (.seq (O [F 76 12,cb 77 76,a6 78 .sub 77 1,F 13 78] (.block 2 (.loop  (.seq (O [F 79 13,a6 80 .geq 79 0] (aS 80 .skip (.exit 2))) (.seq (.block 3 (eG [F 83 9,F 84 13,F 85 11,bt 86 .add 84 85,bB 87 1 83 86,aL 88 1 87,(au 89 (.bin .shl (.t 88) (.c (.I (.int .u64 20))))),F 90 9,F 91 13,F 92 11,bt 93 .add 91 92,a6 94 .sub 93 1,bB 95 1 90 94,aL 96 1 95,bt 97 .or 89 96,F 14 97] Ht (eG [F 98 14,F 99 10,F 100 11,a6 101 .sub 100 1,bB 102 1 99 101,aL 103 1 102,bt 104 .quo 98 103,F 105 14,F 106 10,F 107 11,a6 108 .sub 107 1,bB 109 1 106 108,aL 110 1 109,bt 111 .rem 105 110,F 15 104,F 16 111] Ht (.seq (.block 4 (.loop  (.seq (eG [F 112 15,a6 113 .geq 112 1048576,F 114 113,⟨some 115,some (114,false),.bT (.t 16)⟩,⟨some 116,some (114,false),.bin .lss (.t 115) (.c (Z 1048576))⟩,⟨some 117,some (114,false),.bT (.t 116)⟩,⟨some 118,some (117,true),.bT (.t 15)⟩,⟨some 119,some (117,true),.bT (.t 10)⟩,⟨some 120,some (117,true),.bT (.t 11)⟩,⟨some 121,some (117,true),.bin .sub (.t 120) (.c (Z 2))⟩,⟨some 122,some (117,true),.ht 1 (.t 119) (.t 121)⟩,⟨some 123,some (117,true),.load 1 false (.t 122)⟩,⟨some 124,some (117,true),.bin .mul (.t 118) (.t 123)⟩,⟨some 125,some (117,true),.bT (.t 16)⟩,⟨some 126,some (117,true),.bin .shl (.t 125) (.c (.I (.int .u64 20)))⟩,⟨some 127,some (117,true),.bT (.t 9)⟩,⟨some 128,some (117,true),.bT (.t 13)⟩,⟨some 129,some (117,true),.bT (.t 11)⟩,⟨some 130,some (117,true),.bin .add (.t 128) (.t 129)⟩,⟨some 131,some (117,true),.bin .sub (.t 130) (.c (Z 2))⟩,⟨some 132,some (117,true),.ht 1 (.t 127) (.t 131)⟩,⟨some 133,some (117,true),.load 1 false (.t 132)⟩,⟨some 134,some (117,true),.bin .or (.t 126) (.t 133)⟩,⟨some 135,some (117,true),.bin .gtr (.t 124) (.t 134)⟩,⟨some 136,some (114,false),.pick (.t 117) (.t 135) (.c (.I (.bool false)))⟩,cR 137 114 136] asg (aS 137 .skip (.exit 4))) (.block 5 (O [F 138 15,a6 139 .sub 138 1,F 15 139] (.ops [F 140 16,F 141 10,F 142 11,a6 143 .sub 142 1,bB 144 1 141 143,aL 145 1 144,bt 146 .add 140 145,F 16 146])))))) (.ops [F 147 12,F 148 13,F 149 9,F 150 13,F 151 13,F 152 11,bt 153 .add 151 152,a6 154 .add 153 1,(au 155 (.tP 1 (.t 149) (some (.t 150)) (some (.t 154)) none)),F 156 10,F 157 15,(qf 158 Vb 155 156 157),bB 159 1 147 148,aX 1 159 158]))))) (.ops [F 81 13,a6 82 .sub 81 1,F 13 82])))))) (.seq (.ghost (.freeze 9) (.ops [F 161 9,(dM 162 q6 161),F 163 8,(bW 164 Po 162 163),F 160 164,ba 165 0 160,ba 166 1 160,F 17 165,F 18 166])) (.seq (.ghost (.freeze 12) (.ops [F 167 12,(dM 168 q6 167),F 169 17,F 4 168,F 5 169])) .ret))))))))))))
def VO:bZ:=cj 14 2 [.cell 4 2 true] (O [(au 4 (.alloc 158004 [(Z 0),.nil]))] (O [F 5 1,(dM 6 q6 5),F 1 6] (.seq (O [F 7 1,cb 8 7,a6 9 .eql 8 0] (aS 9 (O [(au 10 (.build [(Z 0),.nil] [])),aX 2 4 10] .ret) .skip)) (O [F 11 0,F 12 1,(au 13 (.build [(Z 0),.nil] [(0,1,(.t 11)),(1,1,(.t 12))])),aX 2 4 13] .ret))))
def VP:bZ:=cj 59 1 [.t 2,.t 3] (O [dq 1 159001 0,bg 2 0,cq 3 false] (.seq (O [aU 7 2 1,(dM 8 lx 7),ff 9 8,F 10 9,⟨some 11,some (10,false),.dt 1 (.t 1)⟩,⟨some 12,some (10,false),.load 1 false (.t 11)⟩,⟨some 13,some (10,false),.len (.t 12)⟩,⟨some 14,some (10,false),.bin .gtr (.t 13) (.c (Z 4))⟩,cR 15 10 14] (aS 15 (O [bg 2 0,cq 3 false] .ret) .skip)) (O [(au 4 (.bT (.c (.I (.int .u64 0)))))] (.seq (O [aO 16 1 1,aL 17 1 16,cb 18 17,bg 19 0] (.block 0 (.loop  (O [bt 20 .lss 19 18] (.seq (aS 20 .skip (.exit 0)) (.seq (.block 1 (O [F 21 19,bB 22 1 17 19,aL 23 1 22,F 5 21,F 6 23] (.seq (O [F 24 5,a6 25 .eql 24 3,F 26 25,⟨some 27,some (26,true),.bT (.t 6)⟩,⟨some 28,some (26,true),.bin .gtr (.t 27) (.c (Z 8))⟩,gN 29 26 28] (aS 29 (O [bg 2 0,cq 3 false] .ret) .skip)) (.ops [F 30 4,F 31 6,(au 32 (.conv .u64 (.t 31))),F 33 5,(au 34 (.bin .mul (.c (Z 20)) (.t 33))),bt 35 .shl 32 34,bt 36 .or 30 35,F 4 36])))) (.ops [a6 37 .add 19 1,F 19 37]))))))) (.seq (.block 2 (O [aO 39 0 1,aL 40 1 39,a6 41 .lss 40 0,F 42 41,⟨some 43,some (42,true),.bT (.t 4)⟩,⟨some 44,some (42,true),.bin .leq (.t 43) (.c (.I (.int .u64 9223372036854775808)))⟩,gN 45 42 44,F 38 45] (aS 38 (O [F 46 4,(au 47 (.un .neg (.t 46))),(au 48 (.conv .i64 (.t 47))),F 2 48,cq 3 true] .ret) (O [aO 50 0 1,aL 51 1 50,a6 52 .geq 51 0,F 53 52,⟨some 54,some (53,true),.bT (.t 4)⟩,⟨some 55,some (53,true),.bin .lss (.t 54) (.c (.I (.int .u64 9223372036854775808)))⟩,gN 56 53 55,F 49 56] (aS 49 (O [F 57 4,(au 58 (.conv .i64 (.t 57))),F 2 58,cq 3 true] .ret) .skip))))) (O [bg 2 0,cq 3 false] .ret))))))
def VQ:bZ:=cj 69 2 [.cell 4 2 true,.t 5] (O [dq 2 160002 0,dq 3 160003 1,(au 4 (.alloc 160004 [(Z 0),.nil])),bg 5 0] (.seq (O [aU 6 2 2,(dM 7 lx 6),ff 8 7,F 9 8,⟨some 10,some (9,false),.load 2 true (.t 3)⟩,⟨some 11,some (9,false),.call lx [(.t 10)]⟩,⟨some 12,some (9,false),.un .not (.t 11)⟩,cR 13 9 12] (aS 13 (O [(au 14 (.build [(Z 0),.nil] [])),(au 15 (.call vD [(.c (.I (.bool false))),(.t 14)])),ba 16 0 15,ba 17 1 15,aX 2 4 16,F 5 17] .ret) .skip)) (.seq (.block 0 (O [aO 19 0 2,aL 20 1 19,aO 21 0 3,aL 22 1 21,bt 23 .mul 20 22,a6 24 .geq 23 0,F 18 24] (aS 18 (eG [aO 25 0 2,aL 26 1 25,aO 27 0 3,aL 28 1 27,(au 29 (.dU 160029 false [(Z 0),(Z 0)] 1 2 [(0,1,(.t 26)),(1,1,(.t 28))])),(dM 30 Vc 29),aO 31 1 2,aL 32 1 31,aO 33 1 3,aL 34 1 33,(bW 35 KX 32 34),(bW 36 pG 30 35),(au 37 (.call vD [(.c (.I (.bool true))),(.t 36)])),ba 38 0 37,ba 39 1 37,aX 2 4 38,F 5 39] agr .ret) (O [aO 41 1 2,aL 42 1 41,aO 43 1 3,aL 44 1 43,(bW 45 Er 42 44),a6 46 .lss 45 0,F 40 46] (aS 40 (eG [aO 47 0 3,aL 48 1 47,aO 49 1 3,aL 50 1 49,aO 51 1 2,aL 52 1 51,(bW 53 Hl 50 52),(bW 54 pG 48 53),(au 55 (.call vD [(.c (.I (.bool true))),(.t 54)])),ba 56 0 55,ba 57 1 55,aX 2 4 56,F 5 57] Hs .ret) .skip))))) (eG [aO 58 0 2,aL 59 1 58,aO 60 1 2,aL 61 1 60,aO 62 1 3,aL 63 1 62,(bW 64 Hl 61 63),(bW 65 pG 59 64),(au 66 (.call vD [(.c (.I (.bool true))),(.t 65)])),ba 67 0 66,ba 68 1 66,aX 2 4 67,F 5 68] Hs .ret))))
def VR:bZ:=cj 67 2 [.t 4] (O [eu 4] (O [F 12 0,cb 13 12,F 14 1,cb 15 14,bt 16 .add 13 15,(au 17 (.lg 161017 [(Z 0)] 8 (.t 16) (.t 16))),F 5 17] (.seq (O [F 18 0,cb 19 18,bg 20 0] (.block 0 (.loop  (O [bt 21 .lss 20 19] (.seq (aS 21 .skip (.exit 0)) (.seq (.block 1 (O [F 22 20,bB 23 1 18 20,aL 24 1 23,F 6 22,F 7 24] (O [bg 8 0] (.seq (O [F 25 1,cb 26 25,bg 27 0] (.block 2 (.loop  (O [bt 28 .lss 27 26] (.seq (aS 28 .skip (.exit 2)) (.seq (.block 3 (O [F 29 27,bB 30 1 25 27,aL 31 1 30,F 9 29,F 10 31] (O [F 32 5,F 33 6,F 34 9,bt 35 .add 33 34,bB 36 1 32 35,aL 37 1 36,F 38 7,F 39 10,bt 40 .mul 38 39,bt 41 .add 37 40,F 42 8,bt 43 .add 41 42,F 11 43] (.ops [F 44 5,F 45 6,F 46 9,bt 47 .add 45 46,F 48 11,a6 49 .and 48 1048575,F 50 11,(au 51 (.bin .shr (.t 50) (.c (.I (.int .u64 20))))),bB 52 1 44 47,aX 1 52 49,F 8 51])))) (.ops [a6 53 .add 27 1,F 27 53]))))))) (.ops [F 54 5,F 55 6,F 56 1,cb 57 56,bt 58 .add 55 57,bB 59 1 54 58,aL 60 1 59,F 61 8,bt 62 .add 60 61,bB 63 1 54 58,aX 1 63 62]))))) (.ops [a6 64 .add 20 1,F 20 64]))))))) (O [F 65 5,(dM 66 q6 65),F 4 66] .ret))))
def VS:bZ:=cj 55 2 [.t 4] (O [eu 4] (.seq (O [F 9 0,cb 10 9,F 11 1,cb 12 11,bt 13 .lss 10 12] (aS 13 (.ops [F 14 1,F 15 0,F 0 14,F 1 15]) .skip)) (O [F 16 0,cb 17 16,a6 18 .add 17 1,(au 19 (.lg 172019 [(Z 0)] 8 (.t 18) (.t 18))),F 5 19] (O [bg 6 0] (.seq (O [F 20 0,cb 21 20,bg 22 0] (.block 0 (.loop  (O [bt 23 .lss 22 21] (.seq (aS 23 .skip (.exit 0)) (.seq (.block 1 (O [F 24 22,bB 25 1 20 22,aL 26 1 25,F 7 24,F 8 26] (O [F 27 6,F 28 8,bt 29 .add 27 28,F 6 29] (.seq (O [F 30 7,F 31 1,cb 32 31,bt 33 .lss 30 32] (aS 33 (.ops [F 34 6,F 35 1,F 36 7,bB 37 1 35 36,aL 38 1 37,bt 39 .add 34 38,F 6 39]) .skip)) (O [F 40 5,F 41 7,F 42 6,a6 43 .and 42 1048575,bB 44 1 40 41,aX 1 44 43] (.ops [F 45 6,(au 46 (.bin .shr (.t 45) (.c (.I (.int .u64 20))))),F 6 46])))))) (.ops [a6 47 .add 22 1,F 22 47]))))))) (O [F 48 5,F 49 0,cb 50 49,F 51 6,bB 52 1 48 50,aX 1 52 51] (O [F 53 5,(dM 54 q6 53),F 4 54] .ret)))))))
def VT:bZ:=cj 43 2 [.t 4] (O [eu 4] (O [F 9 0,(au 10 (.oO 173010 1 yR [(.t 9)])),F 5 10] (O [bg 6 0] (.seq (O [F 11 5,cb 12 11,bg 13 0] (.block 0 (.loop  (O [bt 14 .lss 13 12] (.seq (aS 14 .skip (.exit 0)) (.seq (.block 1 (O [F 15 13,F 7 15] (O [F 16 5,F 17 7,bB 18 1 16 17,aL 19 1 18,F 20 6,bt 21 .sub 19 20,F 8 21] (.seq (O [F 22 7,F 23 1,cb 24 23,bt 25 .lss 22 24] (aS 25 (.ops [F 26 8,F 27 1,F 28 7,bB 29 1 27 28,aL 30 1 29,bt 31 .sub 26 30,F 8 31]) .skip)) (O [F 32 8,(au 33 (.bin .shr (.t 32) (.c (.I (.int .u64 20))))),a6 34 .and 33 1,F 6 34] (.ops [F 35 5,F 36 7,F 37 8,a6 38 .and 37 1048575,bB 39 1 35 36,aX 1 39 38])))))) (.ops [a6 40 .add 13 1,F 13 40]))))))) (O [F 41 5,(dM 42 q6 41),F 4 42] .ret)))))
def VU:bZ:=cj 41 2 [.t 4] (O [bg 4 0] (.seq (O [F 6 0,cb 7 6,F 8 1,cb 9 8,bt 10 .neq 7 9] (aS 10 (O [F 11 0,cb 12 11,F 13 1,cb 14 13,(bW 15 Hm 12 14),F 4 15] .ret) .skip)) (.seq (O [F 16 0,cb 17 16,a6 18 .sub 17 1,F 5 18] (.block 0 (.loop  (.seq (O [F 19 5,a6 20 .geq 19 0] (aS 20 .skip (.exit 0))) (.seq (.block 1 (eG [F 23 0,F 24 5,bB 25 1 23 24,aL 26 1 25,F 27 1,F 28 5,bB 29 1 27 28,aL 30 1 29,bt 31 .neq 26 30] PB (aS 31 (eG [F 32 0,F 33 5,bB 34 1 32 33,aL 35 1 34,F 36 1,F 37 5,bB 38 1 36 37,aL 39 1 38,(bW 40 Hm 35 39),F 4 40] Lc .ret) .skip))) (.ops [F 21 5,a6 22 .sub 21 1,F 5 22])))))) (O [bg 4 0] .ret))))
def VV:bZ:=cj 38 2 [.t 4,.t 5] (O [eu 4,bg 5 0] (O [F 9 0,cb 10 9,(au 11 (.lg 176011 [(Z 0)] 8 (.t 10) (.t 10))),F 6 11] (O [bg 7 0] (.seq (O [F 12 0,cb 13 12,a6 14 .sub 13 1,F 8 14] (.block 0 (.loop  (.seq (O [F 15 8,a6 16 .geq 15 0] (aS 16 .skip (.exit 0))) (.seq (.block 1 (O [F 19 7,(au 20 (.bin .shl (.t 19) (.c (.I (.int .u64 20))))),F 21 0,F 22 8,bB 23 1 21 22,aL 24 1 23,bt 25 .or 20 24,F 7 25] (O [F 26 6,F 27 8,F 28 7,F 29 1,bt 30 .quo 28 29,bB 31 1 26 27,aX 1 31 30] (.ops [F 32 7,F 33 1,bt 34 .rem 32 33,F 7 34])))) (.ops [F 17 8,a6 18 .sub 17 1,F 8 18])))))) (.seq (.ghost (.freeze 6) (.ops [F 35 6,(dM 36 q6 35),F 37 7,F 4 36,F 5 37])) .ret)))))
def Ey:bZ:=cj 21 1 [.t 2] (O [eu 2] (O [F 4 0,cb 5 4,F 3 5] (.seq (.block 0 (.loop  (.seq (O [F 6 3,a6 7 .gtr 6 0,F 8 7,⟨some 9,some (8,true),.bT (.t 0)⟩,⟨some 10,some (8,true),.bT (.t 3)⟩,⟨some 11,some (8,true),.bin .sub (.t 10) (.c (Z 1))⟩,⟨some 12,some (8,true),.ht 1 (.t 9) (.t 11)⟩,⟨some 13,some (8,true),.load 1 false (.t 12)⟩,⟨some 14,some (8,true),.bin .eql (.t 13) (.c (Z 0))⟩,gN 15 8 14] (aS 15 .skip (.exit 0))) (.block 1 (.ops [F 16 3,a6 17 .sub 16 1,F 3 17]))))) (O [F 18 0,F 19 3,(au 20 (.tP 1 (.t 18) none (some (.t 19)) none)),F 2 20] .ret))))
def PC:bZ:=cj 78 3 [.t 6] (O [bg 6 0] (O [bg 7 0] (.seq (O [F 12 0,cb 13 12,bg 14 0] (.block 0 (.loop  (O [bt 15 .lss 14 13] (.seq (aS 15 .skip (.exit 0)) (.seq (.block 1 (O [F 16 14,F 8 16] (O [F 17 0,F 18 8,bB 19 1 17 18,aL 20 1 19,F 21 7,bt 22 .sub 20 21,F 9 22] (.seq (O [F 23 8,F 24 1,cb 25 24,bt 26 .lss 23 25] (aS 26 (.ops [F 27 9,F 28 2,F 29 1,F 30 8,bB 31 1 29 30,aL 32 1 31,bt 33 .mul 28 32,bt 34 .sub 27 33,F 9 34]) .skip)) (O [F 35 0,F 36 8,F 37 9,a6 38 .and 37 1048575,bB 39 1 35 36,aX 1 39 38] (.ops [F 40 9,(au 41 (.bin .shr (.t 40) (.c (.I (.int .u64 20))))),(au 42 (.un .neg (.t 41))),F 7 42])))))) (.ops [a6 43 .add 14 1,F 14 43]))))))) (.seq (O [F 44 7,a6 45 .eql 44 0] (aS 45 (O [F 46 2,F 6 46] .ret) .skip)) (O [bg 10 0] (.seq (O [F 47 0,cb 48 47,bg 49 0] (.block 2 (.loop  (O [bt 50 .lss 49 48] (.seq (aS 50 .skip (.exit 2)) (.seq (.block 3 (O [F 51 49,F 11 51] (O [F 52 10,F 53 0,F 54 11,bB 55 1 53 54,aL 56 1 55,bt 57 .add 52 56,F 10 57] (.seq (O [F 58 11,F 59 1,cb 60 59,bt 61 .lss 58 60] (aS 61 (.ops [F 62 10,F 63 1,F 64 11,bB 65 1 63 64,aL 66 1 65,bt 67 .add 62 66,F 10 67]) .skip)) (O [F 68 0,F 69 11,F 70 10,a6 71 .and 70 1048575,bB 72 1 68 69,aX 1 72 71] (.ops [F 73 10,(au 74 (.bin .shr (.t 73) (.c (.I (.int .u64 20))))),F 10 74])))))) (.ops [a6 75 .add 49 1,F 49 75]))))))) (O [F 76 2,a6 77 .sub 76 1,F 6 77] .ret)))))))
def VW:bZ:=cj 20 2 [.t 4] (O [bg 4 0] (O [F 7 0,(dM 8 Pp 7),F 5 8] (O [F 9 1,(dM 10 Pp 9),F 6 10] (.seq (O [F 11 5] (aS 11 (.seq (O [F 12 6] (aS 12 (O [bg 4 0] .ret) .skip)) (O [(au 4 (.bT (.c (.I (.int .i64 (-1))))))] .ret)) .skip)) (.seq (O [F 13 6] (aS 13 (O [bg 4 1] .ret) .skip)) (.seq (O [F 14 0,F 15 1,bt 16 .lss 14 15] (aS 16 (O [(au 4 (.bT (.c (.I (.int .i64 (-1))))))] .ret) .skip)) (.seq (O [F 17 0,F 18 1,bt 19 .gtr 17 18] (aS 19 (O [bg 4 1] .ret) .skip)) (O [bg 4 0] .ret))))))))
def VX:bZ:=cj 18 1 [.t 2] (O [bg 2 0] (O [bg 3 0] (.seq (O [F 6 0,cb 7 6,bg 8 0] (.block 0 (.loop  (O [bt 9 .lss 8 7] (.seq (aS 9 .skip (.exit 0)) (.seq (.block 1 (O [bB 10 1 6 8,aL 11 1 10,F 5 11] (O [F 12 5,F 13 3,bt 14 .neq 12 13] (aS 14 (O [F 15 5,F 2 15] .ret) .skip)))) (.ops [a6 16 .add 8 1,F 8 16]))))))) (O [F 17 3,F 2 17] .ret))))
def VY:bZ:=cj 6 1 [.t 2] (O [cq 2 false] (O [F 3 0,F 4 0,bt 5 .neq 3 4,F 2 5] .ret))
def VZ:bZ:=cj 9 2 [.t 4] (O [cq 4 false] (O [F 5 0,F 6 1,(bW 7 U3 5 6),a6 8 .geq 7 0,F 4 8] .ret))
def V0:bZ:=cj 9 2 [.t 4] (O [cq 4 false] (O [F 5 0,F 6 1,(bW 7 U4 5 6),a6 8 .geq 7 0,F 4 8] .ret))
def V1:bZ:=cj 48 2 [.t 4] (O [eu 4] (.seq (O [F 9 1,a6 10 .lss 9 0] (aS 10 (.ops [(au 11 (.bad)),⟨none,none,.bad⟩]) .skip)) (O [F 13 0,cb 14 13,(au 15 (.conv .u64 (.t 14))),F 16 1,(au 17 (.conv .u64 (.t 16))),(bW 18 U6 15 17),F 12 18,ba 19 0 12,ba 20 1 12,F 5 19,F 6 20] (.seq (O [F 21 5,(au 22 (.bin .gtr (.t 21) (.c (.I (.int .u64 0))))),F 23 22,⟨some 24,some (23,false),.bT (.t 6)⟩,⟨some 25,some (23,false),.bin .gtr (.t 24) (.c (.I (.int .u64 9223372036854775807)))⟩,cR 26 23 25] (aS 26 (.ops [(au 27 (.bad)),⟨none,none,.bad⟩]) .skip)) (O [F 28 6,(au 29 (.conv .i64 (.t 28))),(au 30 (.lg 131030 [(Z 0),.nil,(Z 0),.nil] 64 (.t 29) (.t 29))),F 7 30] (O [F 31 7,F 32 0,(au 33 (.sK 4 (.t 31) (.t 32))),F 8 33] (.seq (.block 0 (.loop  (.seq (O [F 34 8,F 35 7,cb 36 35,bt 37 .lss 34 36] (aS 37 .skip (.exit 0))) (.block 1 (.mN [F 38 8,F 39 7,F 40 8,(au 41 (.tP 4 (.t 39) (some (.t 40)) none none)),F 42 7,F 43 8,(au 44 (.tP 4 (.t 42) none (some (.t 43)) none)),(au 45 (.sK 4 (.t 41) (.t 44))),bt 46 .add 38 45,F 8 46] Lc))))) (O [F 47 7,F 4 47] .ret))))))))
def V3:bZ:=cj 19 2 [.t 4] (O [bg 4 0] (.seq (O [F 6 0,cb 7 6,bg 8 0] (.block 0 (.loop  (O [bt 9 .lss 8 7] (.seq (aS 9 .skip (.exit 0)) (.seq (.block 1 (O [F 10 8,F 5 10] (O [F 11 1,F 12 0,F 13 5,bB 14 5 12 13,aU 15 5 14,(au 16 (.mK (.t 11) [(.t 15)]))] (aS 16 (O [F 17 5,F 4 17] .ret) .skip)))) (.ops [a6 18 .add 8 1,F 8 18]))))))) (O [(au 4 (.bT (.c (.I (.int .i64 (-1))))))] .ret)))
def V4:bZ:=cj 19 2 [.t 4] (O [bg 4 0] (.seq (O [F 6 0,cb 7 6,bg 8 0] (.block 0 (.loop  (O [bt 9 .lss 8 7] (.seq (aS 9 .skip (.exit 0)) (.seq (.block 1 (O [F 10 8,F 5 10] (O [F 11 1,F 12 0,F 13 5,bB 14 4 12 13,aU 15 4 14,(au 16 (.mK (.t 11) [(.t 15)]))] (aS 16 (O [F 17 5,F 4 17] .ret) .skip)))) (.ops [a6 18 .add 8 1,F 8 18]))))))) (O [(au 4 (.bT (.c (.I (.int .i64 (-1))))))] .ret)))
def V5:bZ:=cj 8 1 [.t 2] (O [eu 2] (.seq (O [F 3 0,(au 4 (.rK false (.t 3)))] (aS 4 (O [eu 2] .ret) .skip)) (O [(au 5 (.dU 147005 true [] 4 0 [])),F 6 0,(au 7 (.app 147007 [(Z 0),.nil,(Z 0),.nil] 64 (.t 5) (.t 6))),F 2 7] .ret)))
def V6:bZ:=cj 8 1 [.t 2] (O [eu 2] (.seq (O [F 3 0,(au 4 (.rK false (.t 3)))] (aS 4 (O [eu 2] .ret) .skip)) (O [(au 5 (.dU 156005 true [] 1 0 [])),F 6 0,(au 7 (.app 156007 [(Z 0)] 8 (.t 5) (.t 6))),F 2 7] .ret)))
def V7:bZ:=cj 19 2 [.t 4] (O [bg 4 0] (.seq (O [F 6 0,cb 7 6,bg 8 0] (.block 0 (.loop  (O [bt 9 .lss 8 7] (.seq (aS 9 .skip (.exit 0)) (.seq (.block 1 (O [F 10 8,F 5 10] (O [F 11 1,F 12 0,F 13 5,bB 14 1 12 13,aL 15 1 14,(au 16 (.mK (.t 11) [(.t 15)]))] (aS 16 (O [F 17 5,F 4 17] .ret) .skip)))) (.ops [a6 18 .add 8 1,F 8 18]))))))) (O [(au 4 (.bT (.c (.I (.int .i64 (-1))))))] .ret)))
def V8:bZ:=cj 32 3 [.t 6] (O [cq 6 false] (.seq (O [F 10 0,cb 11 10,F 12 1,cb 13 12,bt 14 .neq 11 13] (aS 14 (O [cq 6 false] .ret) .skip)) (.seq (O [F 15 0,cb 16 15,bg 17 0] (.block 0 (.loop  (O [bt 18 .lss 17 16] (.seq (aS 18 .skip (.exit 0)) (.seq (.block 1 (O [F 19 17,bB 20 4 15 17,aU 21 4 20,(au 8 (.alloc 235008 [(Z 0),.nil,(Z 0),.nil])),F 7 19,aX 4 8 21] (O [F 22 1,F 23 7,bB 24 4 22 23,aU 25 4 24,(au 9 (.alloc 235009 [(Z 0),.nil,(Z 0),.nil])),aX 4 9 25] (O [F 26 2,aU 27 4 8,aU 28 4 9,(au 29 (.mK (.t 26) [(.t 27),(.t 28)])),ff 30 29] (aS 30 (O [cq 6 false] .ret) .skip))))) (.ops [a6 31 .add 17 1,F 17 31]))))))) (O [cq 6 true] .ret))))
def V9:bZ:=cj 9 2 [.t 4] (O [cq 4 false] (O [F 5 0,F 6 1,(bW 7 Ev 5 6),a6 8 .geq 7 0,F 4 8] .ret))
def Wa:bZ:=cj 9 2 [.t 4] (O [cq 4 false] (O [F 5 0,F 6 1,(bW 7 Vt 5 6),a6 8 .geq 7 0,F 4 8] .ret))
def Wb:bZ:=cj 19 2 [.t 4] (O [bg 4 0] (.seq (O [F 6 0,cb 7 6,bg 8 0] (.block 0 (.loop  (O [bt 9 .lss 8 7] (.seq (aS 9 .skip (.exit 0)) (.seq (.block 1 (O [F 10 8,F 5 10] (O [F 11 1,F 12 0,F 13 5,bB 14 4 12 13,aU 15 4 14,(au 16 (.mK (.t 11) [(.t 15)]))] (aS 16 (O [F 17 5,F 4 17] .ret) .skip)))) (.ops [a6 18 .add 8 1,F 8 18]))))))) (O [(au 4 (.bT (.c (.I (.int .i64 (-1))))))] .ret)))
theorem Wc (l:List Int)(n:Nat)(aM:n<D l)(h:l[n]=0):gg (l.take (n+1))=gg (l.take n):=by
 rw[gB,bq aM,h];exact agf _
theorem Wd (l:List Int)(n:Nat)(aM:n<D l)(h:l[n]≠0):gg (l.take (n+1))=l.take (n+1):=by
 rw[gB,bq aM];exact agh _ h
abbrev Hu:List Int->List Data:=λ(l:List Int)=>[.X (l.map ae)]
def As:=cn Hu λ(l:List Int)=>cN (D l<=1000000) (.same (.X ((gg l).map ae)))
theorem PD:∀a b,Hu a=Hu b->a=b:=by
  intro ed aa h;exact map_inj gx _ _ (by simpa using h)
@[go_sem] theorem PE (l:List Int)(H:(D l)<=1000000):As [.X (l.map ae)]=some (.same (.X ((gg l).map ae))):=(cz PD l).trans (cX H _)
theorem asj (T:bl)  (l:List Int) (H:(D l)<=1000000):WP T Ey (.same (.X ((gg l).map ae))) [.I (.X (l.map ae))]:=by
 refine cD ?_;simp only[Ey];have oT:((l.map ae).all λe=>D e==1)=true:=by simp[ae]
 refine ak ?_;repeat' (intro h<;>simp only[h,go_sem,go_sem_proc,aE]<;>try refine ai ?_ ?_)
 refine cU [0] [] (λ(n:Nat) tm mem=>n<=D l/\gg l=gg (l.take n)/\tm 3=.I (.int .i64 n)) (λn=>n) (D l) (by refine⟨cH _,by simp,by simp[go_sem]⟩) ?_;intro vs ms aJ aH;simp only[go_sem,go_sem_proc] at aJ aH;subst aJ aH;rintro n tm mem L-⟨aM,ca,af⟩;simp only[go_sem,go_sem_proc,bk] at L;have ax:=L;rcases n with _|n
 ·refine ak ?_;repeat' (intro h<;>simp only[h,go_sem,go_sem_proc,ax,af,oT,qg,qh,show ¬ ((0:Int)>0) by omega,decide_false,aE,show (0:Int).toNat=0 from rfl,show (0:Int)<=0 by omega,fm,mU,cC]<;>try refine ai ?_ ?_)
  rw[ca];simp[gg]
 ·have hw:IntKind.i64.wrap (((n+1:Nat):Int)-1)=(n:Int):=by rw[fh _];omega
  have M:l[n]?=some l[n]:=bq (by omega);have iF:((n+1:Nat):Int)>0:=by omega
  have hle:n+1<=D l:=aM
  by_cases a3:l[n]=0
  ·refine ak ?_;repeat' (intro h<;>simp only[h,go_sem,go_sem_proc,ax,af,hw,M,a3,iF,aE,bj,decide_true,ae,beq_self_eq_true,bk]<;>try refine ai ?_ ?_)
   exact⟨n,by omega,by omega,by rw[ca,Wc l n (by omega) a3],rfl⟩
  ·have mV:(l[n]==0)=false:=by simpa using a3
   refine ak ?_;repeat' (intro h<;>simp only[h,go_sem,go_sem_proc,ax,af,hw,M,mV,iF,oT,hle,ae,aE,bj,decide_true,bk,show (0:Int)<=((n+1:Nat):Int) by omega,jE,fm]<;>try refine ai ?_ ?_)
   rw[ca,Wd l n (by omega) a3,List.map_take]
structure agt where
 l:List Int
 k:Key
 g:Nat
def vF:List R->Mem->Option (R×Mem):=Hd (λ(a:agt) args mem=>args=[.ref a.k a.g 1 0 (D a.l)]/\mem a.k=some (a.g,aV ae a.l)/\D a.l<=1000000) (λa mem=>(.ref a.k a.g 1 0 (gg a.l).length,mem))
theorem We {α:Type}{enc:α->List Data}{sz:Nat}(h:∀a,(enc a).length=sz)(Q:∀a b,enc a=enc b->a=b):∀(l fI:List α),aV enc l=aV enc fI->0<sz->l=fI:=by
 intro l
 induction l with
 |nil =>
  intro fI e a3
  cases fI with
  |nil=>rfl
  |cons b r =>
   have:=congrArg D e;rw[kX h,kX h] at this;simp only[nC,jO,Pc,qO] at this;omega
 |cons a r aN =>
  intro fI e a3
  cases fI with
  |nil =>
   have:=congrArg D e;rw[kX h,kX h] at this;simp only[nC,jO,Pc,qO] at this;omega
  |cons b zX =>
   rw[yI,yI] at e;have aw:((enc a).map R.I).length=((enc b).map R.I).length:=by simp[h]
   obtain⟨av,aB⟩:=Hv e aw;have bp:=map_inj (λx y (e:R.I x=R.I y)=>by cases e;rfl) _ _ av;rw[Q _ _ bp,aN zX aB a3]
theorem Wf (l:List Int)(k g:Nat)(mem:Mem)(h:mem k=some (g,aV ae l))(aw:(D l)<=1000000):vF [.ref k g 1 0 (D l)] mem=some (.ref k g 1 0 (gg l).length,mem):=by
 unfold vF;refine age (a:=(⟨l,k,g⟩:agt)) ?_ ⟨rfl,h,aw⟩;rintro a b args mem ⟨G,J,_⟩ ⟨af,aT,_⟩;rw[G] at af;simp only[bk,R.ref.injEq,true_and,and_true] at af;obtain⟨Le,PF,_⟩:=af;rw[Le,aT] at J;simp only[cL,fS] at J;have:=We jD gx _ _ J.2 (by omega);rw[Le,PF,this]
@[go_sem] theorem aJv (d:Data)(mem:Mem):vF [.I d] mem=none:=by
 cases M:vF [.I d] mem with
 |none=>rfl
 |some x =>
  unfold vF at M;obtain⟨a,⟨h,_⟩,_⟩:=UP M
  cases h
theorem asl (T:bl)(l:List Int)(k g:Nat)(mem:Mem)(hm:mem k=some (g,aV ae l))(H:(D l)<=1000000):
  wp T Ey.body (KN Ey.res (.ref k g 1 0 (gg l).length) mem) ⟨lk [.ref k g 1 0 (D l)],mem⟩:=by
 refine sV ?_;simp only[Ey];refine ak ?_;repeat' (intro h<;>simp only[h,go_sem,go_sem_proc,hm]<;>try refine ai ?_ ?_)
 refine cU [0] [] (λ(n:Nat) tm mem'=>n<=D l/\gg l=gg (l.take n)/\tm 3=.I (.int .i64 n)/\mem'=mem) (λn=>n) (D l) (by refine⟨cH _,by simp,by simp[go_sem],rfl⟩) ?_;intro vs ms aJ aH;simp only[go_sem,go_sem_proc] at aJ aH;subst aJ aH;rintro n tm _ L-⟨aM,ca,af,rfl⟩;simp only[go_sem,go_sem_proc,bk] at L;have ax:=L;rcases n with _|n
 ·refine ak ?_;repeat' (intro h<;>simp only[h,go_sem,go_sem_proc,ax,af,hm,qg,qh,show ¬ ((0:Int)>0) by omega,decide_false,show (0:Int).toNat=0 from rfl,show (0:Int)<=0 by omega,fm]<;>try refine ai ?_ ?_)
  rw[ca];simp[gg]
 ·have hw:IntKind.i64.wrap (((n+1:Nat):Int)-1)=(n:Int):=by rw[fh _];omega
  have M:l[n]?=some l[n]:=bq (by omega);have iF:((n+1:Nat):Int)>0:=by omega
  have hle:n+1<=D l:=aM;have az:n<D l:=aM;have sT:=Pb jD M (f:=0) (n:=1) (by omega);have fv:=kX jD l;rw[dY] at fv;have agu:n+1<=(aV ae l).length:=by omega
  have agv:hY 1 (iP n (aV ae l))=[.I (.int .i64 l[n])]:=by
   unfold cut at sT;rw[dY,lP,ad (by omega)] at sT
   simpa [ae] using sT
  by_cases a3:l[n]=0
  ·refine ak ?_;repeat' (intro h<;>simp only[h,go_sem,go_sem_proc,ax,af,hm,hw,az,agu,agv,a3,iF,decide_true,dY,beq_self_eq_true]<;>try refine ai ?_ ?_)
   exact⟨n,by omega,by omega,by rw[ca,Wc l n (by omega) a3],rfl⟩
  ·have mV:(l[n]==0)=false:=by simpa using a3
   refine ak ?_;repeat' (intro h<;>simp only[h,go_sem,go_sem_proc,ax,af,hm,hw,az,agu,agv,mV,iF,hle,decide_true,dY,show (0:Int)<=((n+1:Nat):Int) by omega,jE,fm,Nat.sub_zero]<;>try refine ai ?_ ?_)
   rw[ca,Wd l n (by omega) a3];simp;omega
abbrev xb:Int->List Data:=λ(n:Int)=>[.int .i64 n]
def Wg:=cn xb λ(n:Int)=>some (.same (.bool false))
theorem At:∀a b,xb a=xb b->a=b:=by
  intro hK iw h;simp only[bk,Data.int.injEq,true_and,and_true] at h ⊢
  first|exact h|simpa [Hw,and_assoc] using h|grind
@[go_sem] theorem aJw (n:Int):Wg [.int .i64 n]=some (.same (.bool false)):=cz At n
theorem asm (T:bl)  (n:Int):WP T VY (.same (.bool false)) [.I (.int .i64 n)]:=by
 refine cD ?_;simp only[VY];refine ak ?_;repeat' (intro h<;>simp only[h,go_sem,go_sem_proc,beq_self_eq_true]<;>try refine ai ?_ ?_)
def gl (a b:Int):Int:=if decide (a<b)=true then -1 else if decide (a>b)=true then 1 else 0
abbrev Hx:Int×Int->List Data:=λ(a,b)=>[.int .i64 a,.int .i64 b]
def PG:=cn Hx λ(a,b)=>some (.same (.int .i64 (gl a b)))
theorem PH:∀a b,Hx a=Hx b->a=b:=by
  rintro⟨cE,c0⟩ ⟨cO,ee⟩ h;simp only[bk,Data.int.injEq,fS,true_and,and_true] at h ⊢
  first|exact h|simpa [Hw,and_assoc] using h|grind
@[go_sem] theorem aJx (a:Int)(b:Int):PG [.int .i64 a,.int .i64 b]=some (.same (.int .i64 (gl a b))):=cz PH (a,b)
theorem asn (T:bl)(aso:T Pp=aQ Wg)(a:Int)(b:Int):WP T VW (.same (.int .i64 (gl a b))) [.I (.int .i64 a),.I (.int .i64 b)]:=by
 refine cD ?_;simp only[VW];refine ak ?_;repeat' (intro h<;>simp only[h,go_sem,go_sem_proc,aso]<;>try refine ai ?_ ?_)
 all_goals simp only[gl, *,reduceIte,j3]
def xc:List Int->Int
 | []=>0
 |d::r=>if (d==0)=true then xc r else d
def Wh:=cn Hu λ(l:List Int)=>cN (D l<=1000000) (.same (.int .i64 (xc l)))
@[go_sem] theorem asp (l:List Int)(H:(D l)<=1000000):Wh [.X (l.map ae)]=some (.same (.int .i64 (xc l))):=(cz PD l).trans (cX H _)
theorem asq (T:bl)  (l:List Int) (H:(D l)<=1000000):WP T VX (.same (.int .i64 (xc l))) [.I (.X (l.map ae))]:=by
 refine cD ?_;simp only[VX];simp only[go_sem,go_sem_proc,aE];repeat' (first|refine ai ?_ ?_|fail)<;>intro h<;>simp only[h,go_sem,go_sem_proc,aE]
 refine cU [3,6,7] [] (λi tm mem=>0<=i/\i<=(D l:Int)/\xc l=xc (l.drop i.toNat)/\tm 8=.I (.int .i64 i)) (λi=>(D l-i).toNat) 0 (by refine⟨by omega,by omega,by simp,by simp[go_sem]⟩) ?_;intro vs ms aJ aH;simp only[go_sem,go_sem_proc] at aJ aH;subst aJ aH;rintro i tm mem L-⟨s5,Q,aC,cu⟩;simp only[go_sem,go_sem_proc,bk] at L;obtain⟨af,b0,bV⟩:=L;rcases dc (i<D l) with az|b2
 ·obtain⟨x,M,ab,-⟩:=af3 l i s5 az;simp only[go_sem,go_sem_proc,af,b0,bV,cu,M,az,s5,ae,bj,decide_true];repeat' (first|refine ai ?_ ?_|fail)<;>intro h<;>simp only[h,go_sem,go_sem_proc,af,b0,bV,cu,M,az,s5,ae,bj,decide_true]
  ·rw[aC,ab];simp[xc,h]
  ·exact⟨i+1,by omega,by omega,by omega,by rw[aC,ab];simp only[xc, *,reduceIte,j3],by rw[fh _]⟩
 ·have he:l.drop i.toNat=[]:=lO (by omega);simp only[go_sem,go_sem_proc,af,b0,bV,cu,b2,decide_false];repeat' (first|refine ai ?_ ?_|fail)<;>intro h<;>simp only[h,go_sem,go_sem_proc,af,b0,bV,cu,b2,decide_false]
  rw[aC,he];rfl
theorem Wi (l:List Int):((l.map ae).all λe=>D e==1)=true:=by simp[ae]
def Ez:=cn Hu λ(l:List Int)=>cN (D l<=1000000) (.own 1 (l.map ae))
@[go_sem] theorem asr (l:List Int)(H:(D l)<=1000000):Ez [.X (l.map ae)]=some (.own 1 (l.map ae)):=(cz PD l).trans (cX H _)
theorem ass (T:bl)  (l:List Int) (H:(D l)<=1000000):WP T V6 (.own 1 (l.map ae)) [.I (.X (l.map ae))]:=by
 refine cD ?_;simp only[V6]
 have dv:kS 156005 0 1 0 8 (D l) ((l.map ae).flatten.map .I) (some (0,[]))=some (.ref 156005 1 1 0 (D l),some (156005,1,aV ae l)):=by
  have:=Ci jD yM 156005 0 8 [] l (by simp;omega) (by simp;omega)
  simpa [aV] using this
 have hlen:(aV ae l).length=D l:=by rw[kX jD];omega
 refine ak ?_;repeat' (intro h<;>simp only[h,go_sem,go_sem_proc,Wi,dv,aE]<;>try refine ai ?_ ?_)
 rintro b ah
 cases b
 ·refine ak ?_;repeat' (intro h<;>simp only[h,go_sem,go_sem_proc,Wi,dv,aE,uc,dY,hlen]<;>try refine ai ?_ ?_)
  rw[ad (by omega),dp (by omega)];unfold aV;rw[Ef _ λd=>rfl];have:=Cj (sz:=1) (l.map ae) (by simp[ae]);rw[aE] at this;simp[this]
 ·cases l with
  |nil =>
       refine ak ?_;repeat' (intro h<;>simp only[h,go_sem,go_sem_proc,uc,cC]<;>try refine ai ?_ ?_)
  |cons x r=>simp at ah
abbrev Raw:=Int×List Int
def ck (a:Raw):List Data:=[.int .i64 a.1,.X (a.2.map ae)]
def ov (d:Int):Bool:=!decide (d<0) && !decide (d>1048575)
def dj (a:Raw):Bool:=a.2.all ov&&(if (a.2.length==0)=true then a.1==0 else ((a.1==1||a.1 == -1)&&decide (a.2.length<=60)&&(a.2.getLast? != some 0)))
abbrev Au:Int×(List Int)->List Data:=λ(s,l)=>[.agg [.int .i64 s,.X (l.map ae)]]
def xd:=cn Au λ(s,l)=>cN (D l<=1000000) (.same (.bool (dj (s,l))))
theorem EA:∀a b,Au a=Au b->a=b:=by
  rintro⟨s1,ed⟩ ⟨s2,aa⟩ h;simp only[bk,Data.agg.injEq,Data.int.injEq,Data.X.injEq] at h;exact dN h.1.1.2 (map_inj gx _ _ h.1.2.1)
@[go_sem] theorem aJy (s:Int)(l:List Int)(H:(D l)<=1000000):xd [.agg [.int .i64 s,.X (l.map ae)]]=some (.same (.bool (dj (s,l)))):=(cz EA (s,l)).trans (cX H _)
theorem ast (T:bl)  (s:Int) (l:List Int) (H:(D l)<=1000000):WP T VF (.same (.bool (dj (s,l)))) [.I (.agg [.int .i64 s,.X (l.map ae)])]:=by
 refine cD ?_;simp only[VF];refine ak ?_;repeat' (intro h<;>simp only[h,go_sem,go_sem_proc,aE]<;>try refine ai ?_ ?_)
 refine cU [1,3,10,11] [136001] (λi tm mem=>0<=i/\i<=(D l:Int)/\l.all ov=(l.drop i.toNat).all ov/\tm 12=.I (.int .i64 i)) (λi=>(D l-i).toNat) 0 (by refine⟨by omega,by omega,by simp,by simp[go_sem]⟩) ?_;intro vs ms aJ aH;simp only[go_sem,go_sem_proc] at aJ aH;subst aJ aH;rintro i tm mem L hm ⟨s5,Q,aC,eP⟩;simp only[go_sem,go_sem_proc,bk] at L hm;obtain⟨G,af,dS,hp⟩:=L;rcases dc (i<D l) with az|b2
 ·obtain⟨x,M,ab,-⟩:=af3 l i s5 az
  have jc:∀b,ov x=true->b=(l.drop (i+1).toNat).all ov->l.all ov=b:=by
   intro b G J;rw[aC,ab,w7,G,J,fD]
  have uj:ov x=false->dj (s,l)=false:=by
   intro G;unfold dj;rw[aC,ab,w7,G]
   rfl
  refine ak ?_;repeat' (intro h<;>simp only[h,go_sem,go_sem_proc,G,af,dS,hp,eP,hm,M,az,s5,ae,bj,decide_true]<;>try refine ai ?_ ?_)
  ·rw[uj (by simp only[ov, *,reduceIte,cw,db,jB,j3])]
  ·exact⟨i+1,by omega,by omega,by omega,by refine jc _ ?_ rfl;simp only[ov, *,reduceIte,db,Ah,j3],by rw[fh _]⟩
  ·rw[uj (by simp only[ov, *,reduceIte,cw,eR,j3])]
 ·have he:l.drop i.toNat=[]:=lO (by omega);rw[he] at aC;have dB:l.all ov=true:=by rw[aC];rfl
  rcases yN l with rfl|⟨r,x,rfl⟩
  ·have asu:¬ i<(0:Int):=by simpa using b2
   refine ak ?_;repeat' (intro h<;>simp only[h,go_sem,go_sem_proc,G,af,dS,hp,eP,hm,asu,decide_false,nC,qg,qh,beq_self_eq_true]<;>try refine ai ?_ ?_)
   simp[dj]
  ·rw[yO] at *;have b6:(((r++[x]).length:Int)==0)=false:=by simp;omega
   have hw:IntKind.i64.wrap (((r++[x]).length:Int)-1)=(D r:Int):=by
    have bO:(r++[x]).length=D r+1:=by simp
    rw[fh _];omega
   have bz:((r++[x]).map ae)[D r]?=some [.int .i64 x]:=by simp[ae]
   have Y:dj (s,r++[x])=((s==1||s == -1)&&decide (((r++[x]).length:Int)<=60)&&(x != 0)):=by
    unfold dj;rw[dB];simp only[List.getLast?_append,List.getLast?_singleton];simp;have av:decide (D r<=59)=decide ((D r:Int)+1<=60):=decide_eq_decide.2 (by omega);have aB:(some x != some (0:Int))=(x != 0):=by simp[bne]
    rw[av,aB]
   rw[Y];refine ak ?_;repeat' (intro h<;>simp only[h,go_sem,go_sem_proc,G,af,hp,eP,hm,b2,b6,hw,bz,decide_false]<;>try refine ai ?_ ?_)
   all_goals simp only[*,reduceIte,cw,db,Ag,afY,qc,afZ,Ah,fD,jB,eR,j3,beq_self_eq_true,bne]
def jn (s:Int)(l:List Int):Raw:=if (((gg l).length:Int)==0)=true then (0,[]) else (s,gg l)
abbrev PI:Int×(List Int)->List Data:=λ(s,l)=>[.int .i64 s,.X (l.map ae)]
def Cs:=cn PI λ(s,l)=>cN (D l<=1000000) (.same (.agg (ck (jn s l))))
theorem agw:∀a b,PI a=PI b->a=b:=by
  rintro⟨s1,ed⟩ ⟨s2,aa⟩ h;simp only[bk,Data.int.injEq,Data.X.injEq] at h;exact dN h.1.2 (map_inj gx _ _ h.2.1)
@[go_sem] theorem aJz (s:Int)(l:List Int)(H:(D l)<=1000000):Cs [.int .i64 s,.X (l.map ae)]=some (.same (.agg (ck (jn s l)))):=(cz agw (s,l)).trans (cX H _)
theorem asv (T:bl)(kY:T q6=Aj As vF)(s:Int)(l:List Int)(H:(D l)<=1000000):WP T VO (.same (.agg (ck (jn s l)))) [.I (.int .i64 s),.I (.X (l.map ae))]:=by
 refine cD ?_;simp only[VO];refine ak ?_;repeat' (intro h<;>simp only[h,go_sem,go_sem_proc,kY,H,aE]<;>try refine ai ?_ ?_)
 all_goals simp only[jn,ck,cC, *,reduceIte,j3]
theorem lU (l:List Int)(i:Nat)(h:i<D l):bs (l.take (i+1))=bs (l.take i)+1048576^i*l[i]:=by
 rw[gB,bq h,Ei,gv,oS (by omega)];simp[bs]
theorem Av {l:List Int}(h:fe l)(i:Nat):fe (l.take i):=λd ab=>h d (z5 ab)
theorem agx {l:List Int}(i:Nat)(Q:i<D l):fe (l.take (i+1))↔fe (l.take i)/\(0<=l[i]/\l[i]<1048576):=by
 rw[gB,bq Q,Eh];simp[fe]
theorem lV {l:List Int}(h:fe l)(i:Nat)(Q:i<D l):0<=l[i]/\l[i]<1048576:=h _ (List.getElem_mem Q)
theorem EB (o:List Int)(i:Nat)(d:Int):(o.set i d).take i=o.take i:=by
 rw[List.take_set,List.set_eq_of_length_le];rw[gv];omega
theorem q8 (o:List Int):(aV ae o).length=D o:=by rw[kX jD];omega
theorem Lf (o:List Int)(i:Nat)(h:i<D o):hY 1 (iP i (aV ae o))=[.I (.int .i64 o[i])]:=by
 have sT:=Pb jD (bq h) (f:=0) (n:=1) (by omega);unfold cut at sT;have:=q8 o;rw[dY,lP,ad (by omega)] at sT
 simpa [ae] using sT
theorem yT (o:List Int)(i:Nat)(d:Int)(h:i<D o):hY i (aV ae o)++[.I (.int .i64 d)]++iP (i+1) (aV ae o)=aV ae (o.set i d):=by
 have:=UC jD h d;unfold lM at this
 simpa [ae] using this
theorem Hy (n:Nat):(et n [R.I (.int .i64 0)]).flatten=aV ae (et n 0):=by
 induction n with
 |zero=>rfl
 |succ n aN=>rw[sR,sR,j1,yI,aN];rfl
theorem Hz (n:Nat)(h:n<=1000000000):n<=maxLen:=e4 h (by decide)
theorem agy (l:List Int):(gg l).length<=D l:=by
 induction l with
 |nil=>simp[gg]
 |cons d r aN=>unfold gg;split<;>(try split)<;>simp<;>omega
theorem asw (l:List Int):l.take (gg l).length=gg l:=by
 induction l with
 |nil=>simp[gg]
 |cons d r aN =>
  unfold gg
  split
  ·split<;>simp
  ·simp[aN]
theorem asx (l:List Int):∀n:Nat,(aV ae l).take n=aV ae (l.take n):=by
 induction l with
 |nil=>intro n;simp[aV]
 |cons d r aN=>intro n;cases n with
  |zero=>simp[aV]
  |succ n=>rw[yI,sW,yI,<-aN];rfl
theorem agz {mem:Mem}{k g n:Nat}{o:List Int}(hm:mem k=some (g,aV ae o))(aM:n<=D o):uc 1 mem (.ref k g 1 0 n)=some ((o.take n).map ae):=by
 unfold uc;dsimp only;rw[hm];simp only[and_self,if_true,dY];rw[q8,ad ⟨trivial,aM⟩,asx];unfold aV;rw[Ef _ λd=>rfl];have:=Cj (sz:=1) ((o.take n).map ae) (by intro e he;rw[fO] at he;obtain⟨x,-,rfl⟩:=he;rfl);rw[aE,gv,oS aM] at this;simp only[lu,this]
theorem Wj {mem:Mem}{k g:Nat}{o:List Int}{n:Nat}(hm:mem k=some (g,aV ae o))(ab:fe o)(aD:bs o=n):uc 1 mem (.ref k g 1 0 (gg o).length)=some ((aP n).map ae):=by
 rw[agz hm (agy o),asw,Am ab,aD]
 rfl
def cx (n:Nat):Data:=.X ((aP n).map ae)
theorem agA {x y:Nat}(h:(aP x).length<(aP y).length):x<y:=by
 have G:=(gC (n:=x) (k:=(aP x).length)).1 (cH _);have J:=mt (gC (n:=y) (k:=(aP x).length)).2 (by omega);omega
theorem agB {a b:List Int}(aW:fe a)(ah:fe b)(aw:(D a)=D b)(i:Nat)(Q:i<D a)(ab:a.drop (i+1)=b.drop (i+1))(h:a[i]<b[i]):bs a<bs b:=by
 rw[KP a (i+1),KP b (i+1),ab,aw,lU a i Q,lU b i (by omega)];have G:=Al (Av aW i);have J:=pE (Av ah i);rw[gv,oS (by omega)] at G;generalize (1048576:Int)^i=p at *
 have af:p*a[i]+p<=p*b[i]:=by
  have:p*(a[i]+1)<=p*b[i]:=vG (by omega) (by have:=pE (Av aW i);omega);rw[iN,r3] at this;exact this
 omega
abbrev vH:Nat×Nat->List Data:=λ(x,y)=>[cx x,cx y]
def Lg:=cn vH λ(x,y)=>cN ((aP x).length<=1000000/\(aP y).length<=1000000) (.same (.int .i64 (gl x y)))
theorem yU:∀a b,vH a=vH b->a=b:=by
  rintro⟨a5,lz⟩ ⟨bX,mW⟩ h;simp only[bk,cx,Data.X.injEq] at h;exact dN (KO (map_inj gx _ _ h.1)) (KO (map_inj gx _ _ h.2.1))
@[go_sem] theorem Wk (x:Nat)(y:Nat)(H:(aP x).length<=1000000/\(aP y).length<=1000000):Lg [cx x,cx y]=some (.same (.int .i64 (gl x y))):=(cz yU (x,y)).trans (cX H _)
theorem asy (T:bl)(Aw:T Hm=aQ PG)(x:Nat)(y:Nat)(H:(aP x).length<=1000000/\(aP y).length<=1000000):WP T VU (.same (.int .i64 (gl x y))) [.I (cx x),.I (cx y)]:=by
 refine cD ?_;simp only[VU];obtain⟨M,aj⟩:=H;have uk:=nh x;have r4:=nh y;have qi:=ml x;have EC:=ml y;have afS:=@agA x y;have mQ:=@agA y x
 by_cases aw:(aP x).length=(aP y).length
 ·generalize aW:aP x=a at *;generalize ah:aP y=b at *;have Wl:((D a:Int)==(D b:Int))=true:=by simp[aw]
  simp only[go_sem,go_sem_proc,cx,aW,ah,Wl,aE];refine cU [0,1] [] (λ(n:Nat) tm mem=>n<=D a/\a.drop n=b.drop n/\tm 5=.I (.int .i64 ((n:Int)-1))) (λn=>n) (D a) (by refine⟨cH _,by rw[UH,aw,UH],?_⟩;simp only[dk,reduceIte];rw[fh _]) ?_;intro vs ms aJ aH;simp only[go_sem,go_sem_proc] at aJ aH;subst aJ aH;rintro n tm mem L-⟨aM,ab,bx⟩;simp only[go_sem,go_sem_proc,bk] at L;obtain⟨ax,G⟩:=L;rcases n with _|n
  ·have e:a=b:=by simpa using ab
   have g4:(x:Int)=y:=by rw[<-qi,<-EC,e]
   refine ak ?_;repeat' (intro (ay:_=_)<;>simp only[ay,go_sem,go_sem_proc,Aw,ax,G,bx,qg,qh,show ¬ ((0:Int)-1>=0) by omega,decide_false]<;>try refine ai ?_ ?_)
   rw[g4];simp[gl]
  ·have hw:((n+1:Nat):Int)-1=(n:Int):=by omega
   have r5:a[n]?=some a[n]:=bq (by omega);have q9:b[n]?=some b[n]:=bq (by omega)
   have Y:gl a[n] b[n]=gl x y\/a[n]=b[n]:=by
    by_cases G:a[n]<b[n]
    ·left
     have:=agB uk r4 aw n aM ab G;simp only[gl];rw[ad (by simpa using G),ad (by simp;omega)]
    ·by_cases J:b[n]<a[n]
     ·left
      have:=agB r4 uk aw.symm n (by omega) ab.symm J;simp only[gl];rw[ag (by simp;omega),ad (by simp;omega),ag (by simp;omega),ad (by simp;omega)]
     ·right;omega
   by_cases a3:a[n]=b[n]
   ·refine ak ?_;repeat' (intro (ay:_=_)<;>simp only[ay,go_sem,go_sem_proc,Aw,ax,G,bx,hw,r5,q9,a3,ae,show (n:Int)>=0 by omega,decide_true,bj,beq_self_eq_true,bk]<;>try refine ai ?_ ?_)
    exact⟨n,by omega,by omega,by rw[h9 (by omega:n<D a),h9 (by omega:n<D b),a3,ab],by rw[fh _]⟩
   ·have mV:(a[n]==b[n])=false:=by simpa using a3
    refine ak ?_;repeat' (intro (ay:_=_)<;>simp only[ay,go_sem,go_sem_proc,Aw,ax,G,bx,hw,r5,q9,mV,ae,show (n:Int)>=0 by omega,decide_true,bj,bk]<;>try refine ai ?_ ?_)
    rw[Y.resolve_right a3]
 ·have Wl:(((aP x).length:Int)==((aP y).length:Int))=false:=by simp;omega
  have Y:gl (aP x).length (aP y).length=gl x y:=by
   simp only[gl];rcases g2 (aP x).length (aP y).length with h|h
   ·have:=afS h;rw[ad (by simp;omega),ad (by simp;omega)]
   ·have:=mQ (by omega);rw[ag (by simp;omega),ad (by simp;omega),ag (by simp;omega),ad (by simp;omega)]
  refine ak ?_;repeat' (intro (ay:_=_)<;>simp only[ay,go_sem,go_sem_proc,Aw,cx,Wl,Y,aE]<;>try refine ai ?_ ?_)
theorem agC (p xe vr sQ c a b:Int)(h:xe+p*c=vr+sQ):xe+p*((c+a+b)%1048576)+p*1048576*((c+a+b)/1048576)=vr+p*a+(sQ+p*b):=by
 have G:=Ct (c+a+b) 1048576
 have J:p*((c+a+b)%1048576)+p*1048576*((c+a+b)/1048576)=p*(c+a+b):=by
  rw[iO,<-iN,G]
 have af:p*(c+a+b)=p*c+p*a+p*b:=by rw[iN,iN]
 omega
def PJ:=cn vH λ(x,y)=>cN ((aP x).length<=100000/\(aP y).length<=100000) (.own 1 ((aP (x+y)).map ae))
@[go_sem] theorem agD (x:Nat)(y:Nat)(H:(aP x).length<=100000/\(aP y).length<=100000):PJ [cx x,cx y]=some (.own 1 ((aP (x+y)).map ae)):=(cz yU (x,y)).trans (cX H _)
theorem asz (T:bl)(kY:T q6=Aj As vF)(x:Nat)(y:Nat)(H:(aP x).length<=100000/\(aP y).length<=100000):WP T VS (.own 1 ((aP (x+y)).map ae)) [.I (cx x),.I (cx y)]:=by
 refine cD ?_;simp only[VS];obtain⟨M,aj⟩:=H;simp only[go_sem,go_sem_proc,cx,aE];refine arD (λst=>∃a b:List Int,fe a/\fe b/\D a<=100000/\D b<=D a/\bs a+bs b=x+y/\st.tm 0=.I (.X (a.map ae))/\st.tm 1=.I (.X (b.map ae))/\st.mem 172019=none) (λh=>?_) (λh=>?_) ?_
 ·refine ak ?_;repeat' (intro (ay:_=_)<;>simp only[ay,go_sem,go_sem_proc,kY,cx]<;>try refine ai ?_ ?_)
  refine⟨aP y,aP x,nh y,nh x,aj,?_,by rw[ml,ml];omega,rfl,rfl⟩
  simp at h;omega
 ·refine ak ?_;repeat' (intro (ay:_=_)<;>simp only[ay,go_sem,go_sem_proc,kY,cx]<;>try refine ai ?_ ?_)
  refine⟨aP x,aP y,nh x,nh y,M,?_,by rw[ml,ml],rfl,rfl⟩
  simp at h;omega
 rintro⟨tm,mem⟩ ⟨a,b,Wm,s6,oq,r6,aD,ax,G,hm⟩;dsimp only at ax G hm;have s7:IntKind.i64.wrap ((D a:Int)+1)=((D a+1:Nat):Int):=by rw[fh _];rfl
 have lv:8*(D a+1)<=140737488355328:=by omega
 have e5:(D a)+1<=maxLen:=Hz _ (by omega);simp only[go_sem,go_sem_proc,ax,hm,s7,lv,e5,Hy,aE]
 refine cU [0,1,5,20,21] [] (λ(i,c,o) tm mem=>i<=D a/\(o:List Int).length=D a+1/\fe (o.take i)/\0<=c/\c<=1/\bs (o.take i)+1048576^i*c=bs (a.take i)+bs (b.take i)/\tm 22=.I (.int .i64 (i:Nat))/\tm 6=.I (.int .i64 c)/\mem 172019=some (0,aV ae o))
  (λ(i,_)=>D a-i) (0,0,et (D a+1) 0) (by refine⟨fm _,by simp,by simp[fe],by omega,by omega,by simp[bs],?_,?_,?_⟩<;>rfl) ?_
 intro vs ms aJ aH;simp only[go_sem,go_sem_proc,ax,G] at aJ aH;subst aJ aH;rintro⟨i,c,o⟩ tm mem L-⟨Q,bS,g5,ix,gb,j5,xf,b0,hm⟩;simp only[go_sem,go_sem_proc,bk] at L;obtain⟨ax,G,bx,vI,Wn⟩:=L;rcases dc (i<D a) with az|b2
 ·have r5:a[i]?=some a[i]:=bq az;have Ch:=lV Wm i az;have hz:IntKind.i64.wrap ((i:Int)+1)=((i+1:Nat):Int):=by rw[fh _];rfl
  have um:i<D o:=by omega
  have lW:i+1<=(aV ae o).length:=by rw[q8];omega
  have ni:IntKind.i64.wrap (c+a[i])=c+a[i]:=wrap64 _ (by omega) (by omega);have jk:=λd=>yT o i d um
  have fin:∀bi:Int,0<=bi->bi<1048576->bs (b.take (i+1))=bs (b.take i)+1048576^i*bi ->
    ∃bm:Nat×Int×List Int,D a-bm.1<D a-i/\bm.1<=D a/\bm.2.2.length=D a+1/\fe (bm.2.2.take bm.1)/\0<=bm.2.1/\bm.2.1<=1/\bs (bm.2.2.take bm.1)+1048576^bm.1*bm.2.1=bs (a.take bm.1)+bs (b.take bm.1) /\
     R.I (Data.int .i64 ((i+1:Nat):Int))=R.I (Data.int .i64 (bm.1:Int))/\R.I (Data.int .i64 ((c+a[i]+bi)/1048576))=R.I (Data.int .i64 bm.2.1)/\some (0,aV ae (o.set i ((c+a[i]+bi)%1048576)))=some (0,aV ae bm.2.2):=by
   intro bi s8 lv ED;refine⟨(i+1,(c+a[i]+bi)/1048576,o.set i ((c+a[i]+bi)%1048576)),by dsimp only;omega,by dsimp only;omega,by simp[bS],?_,by dsimp only;omega,by dsimp only;omega,?_,rfl,rfl,rfl⟩
   ·dsimp only;rw[agx _ (by simpa using um),EB];refine⟨g5,?_⟩;simp only[Ax];omega
   ·dsimp only;rw[lU _ _ (by simpa using um),EB,lU a i az,ED,nF];simp only[Ax];exact agC _ _ _ _ _ _ _ j5
  rcases dc (i<D b) with r7|Wo
  ·have q9:b[i]?=some b[i]:=bq r7;have vJ:=lV s6 i r7;have oZ:IntKind.i64.wrap (c+a[i]+b[i])=c+a[i]+b[i]:=wrap64 _ (by omega) (by omega);have kZ:decide ((i:Int)<(D b:Int))=true:=cT;have nI:decide ((i:Int)<(D a:Int))=true:=cT;refine ak ?_;repeat' (intro (ay:_=_)<;>simp only[ay,go_sem,go_sem_proc,kY,ax,G,bx,vI,Wn,xf,b0,hm,r5,q9,hz,ni,oZ,kZ,nI,az,lW,jk,Ao,w9,ae,dY,aE,bj,bk,show i<D a+1 by omega,show ¬ ((20:Int)<0) by omega]<;>try refine ai ?_ ?_)
   exact fin b[i] vJ.1 vJ.2 (lU b i r7)
  ·have kZ:decide ((i:Int)<(D b:Int))=false:=cl;have nI:decide ((i:Int)<(D a:Int))=true:=cT;refine ak ?_;repeat' (intro (ay:_=_)<;>simp only[ay,go_sem,go_sem_proc,kY,ax,G,bx,vI,Wn,xf,b0,hm,r5,hz,ni,kZ,nI,az,lW,jk,Ao,w9,ae,dY,aE,bj,bk,show i<D a+1 by omega,show ¬ ((20:Int)<0) by omega]<;>try refine ai ?_ ?_)
   have:=fin 0 (by omega) (by omega) (by rw[dp (by omega),dp (by omega)];simp)
   simpa using this
 ·obtain rfl:i=D a:=by omega
  have nI:decide ((D a:Int)<(D a:Int))=false:=cl;have um:(D a)<D o:=by omega
  have lW:(D a)+1<=(aV ae o).length:=by rw[q8];omega
  have jk:=λd=>yT o (D a) d um
  have Wp:fe (o.set (D a) c):=by
   have:o.set (D a) c=(o.set (D a) c).take (D a+1):=by rw[dp (by simp[bS])]
   rw[this,agx _ (by simpa using um),EB];refine⟨g5,?_⟩;simp only[Ax];omega
  have Wq:bs (o.set (D a) c)=x+y:=by
   have:o.set (D a) c=(o.set (D a) c).take (D a+1):=by rw[dp (by simp[bS])]
   rw[this,lU _ _ (by simpa using um),EB];simp only[Ax];rw[j5,dp (cH _),dp r6,aD]
  have ot:=Wf (o.set (D a) c) 172019 0 (a9 mem 172019 0 (aV ae (o.set (D a) c))) (by simp[a9]) (by simp[bS];omega);rw[jF,bS] at ot;have gj:=Wj (mem:=a9 mem 172019 0 (aV ae (o.set (D a) c))) (k:=172019) (g:=0) (n:=x+y) (by simp[a9]) Wp (by rw[Wq];rfl);refine ak ?_;repeat' (intro (ay:_=_)<;>simp only[ay,go_sem,go_sem_proc,kY,ax,G,bx,vI,Wn,xf,b0,hm,nI,lW,jk,ot,gj,dY,aE,show (D a)<D a+1 by omega]<;>try refine ai ?_ ?_)
theorem agE (n:Int):bits .and .i64 (n/1048576) 1=n/1048576%2:=by
 generalize n/1048576=m;have J:(1:Int)=((2^1-1:Nat):Int):=by decide
 have G:m%18446744073709551616%2=m%2:=by omega
 obtain⟨a,aW⟩:∃a:Nat,(a:Int)=m%18446744073709551616:=⟨(m%18446744073709551616).toNat,by omega⟩
 have e:BitVec.ofInt 64 m=BitVec.ofNat 64 a:=by
  apply BitVec.eq_of_toInt_eq;rw[BitVec.toInt_ofInt,BitVec.toInt_ofNat',aW];simp[agl,agm]
 have aB:bits .and .i64 m 1=bits .and .i64 (a:Int) 1:=by
  simp only[bits];rw[show IntKind.i64.bits=64 from rfl,e,BitVec.ofInt_natCast]
 rw[aB,<-G,<-aW];have UQ:a<2^64:=by omega
 conv=>lhs;rw[J]
 simp only[bits,BitVec.ofInt_natCast,BitVec.toNat_and,BitVec.toNat_ofNat,show IntKind.i64.bits=64 from rfl,KK UQ];rw[show (2^1-1:Nat)%2^64=2^1-1 by decide,agn,wrap64 _ (by omega) (by omega)]
 omega
theorem Wr (o:List Int)(j:Nat)(d:Int)(h:j<D o):bs (o.set j d)=bs o+1048576^j*(d-o[j]):=by
 induction o generalizing j with
 |nil=>simp at h
 |cons x r aN =>
  cases j with
  |zero=>simp[bs];omega
  |succ j =>
   simp only[List.set_cons_succ,uf,List.getElem_cons_succ,nF];rw[aN j (by simpa using h),iN,<-iO,nG 1048576 (1048576^j)];omega
theorem Ay {o:List Int}(h:fe o)(j:Nat){d:Int}(ab:0<=d/\d<1048576):fe (o.set j d):=by
 intro x M;rcases List.mem_or_eq_of_mem_set M with G|G
 ·exact h x G
 ·rw[G];exact ab
theorem asA (p xe vr sQ c a b:Int)(h:xe=vr-sQ+p*c):xe+p*((a-c-b)%1048576)=vr+p*a-(sQ+p*b)-p*1048576*((a-c-b)/1048576):=by
 have G:=Ct (a-c-b) 1048576
 have J:p*((a-c-b)%1048576)+p*1048576*((a-c-b)/1048576)=p*(a-c-b):=by
  rw[iO,<-iN,G]
 have af:p*(a-c-b)=p*a-p*c-p*b:=by rw[HA,HA]
 omega
def PK:=cn vH λ(x,y)=>cN ((aP x).length<=100000/\y<=x) (.own 1 ((aP (x-y)).map ae))
@[go_sem] theorem Ws (x:Nat)(y:Nat)(H:(aP x).length<=100000/\y<=x):PK [cx x,cx y]=some (.own 1 ((aP (x-y)).map ae)):=(cz yU (x,y)).trans (cX H _)
theorem asB (T:bl)(nj:T yR=aQ Ez)(kY:T q6=Aj As vF)(x:Nat)(y:Nat)(H:(aP x).length<=100000/\y<=x):WP T VT (.own 1 ((aP (x-y)).map ae)) [.I (cx x),.I (cx y)]:=by
 refine cD ?_;simp only[VT];obtain⟨M,agF⟩:=H;have uk:=nh x;have r4:=nh y;have qi:=ml x;have EC:=ml y
 have mo:(aP y).length<=(aP x).length:=by
  rw[gC];exact uo agF (gC.1 (cH _))
 generalize aW:aP x=a at *;generalize ah:aP y=b at *;have oq:(D a)<=1000000:=by omega
 simp only[go_sem,go_sem_proc,nj,cx,aW,ah,oq,aE]
 refine cU [1,5,12] [] (λ(i,c,o) tm mem=>i<=D a/\(o:List Int).length=D a/\fe o/\o.drop i=a.drop i/\(c=0\/c=1)/\bs (o.take i)=bs (a.take i)-bs (b.take i)+1048576^i*c/\tm 13=.I (.int .i64 (i:Nat))/\tm 6=.I (.int .i64 c)/\mem 173010=some (0,aV ae o))
  (λ(i,_)=>D a-i) (0,0,a) (by refine⟨fm _,rfl,uk,rfl,.inl rfl,by simp[bs],?_,?_,?_⟩<;>rfl) ?_
 intro vs ms aJ aH;simp only[go_sem,go_sem_proc] at aJ aH;subst aJ aH;rintro⟨i,c,o⟩ tm mem L-⟨Q,bS,g5,vK,asC,j5,jG,b0,hm⟩;simp only[go_sem,go_sem_proc,bk] at L;obtain⟨G,bx,eP⟩:=L;rcases dc (i<D a) with az|b2
 ·have um:i<D o:=by omega
  have asD:o[i]=a[i]:=by
   have G:=h9 um;have J:=h9 az;rw[vK,J] at G;exact (xg G).1.symm
  have Ch:=lV uk i az;have hz:IntKind.i64.wrap ((i:Int)+1)=((i+1:Nat):Int):=by rw[fh _];rfl
  have lW:i+1<=(aV ae o).length:=by rw[q8];omega
  have mq:=Lf o i um;rw[asD] at mq;have ni:IntKind.i64.wrap (a[i]-c)=a[i]-c:=wrap64 _ (by omega) (by omega);have jk:=λd=>yT o i d um
  have fin:∀bi:Int,0<=bi->bi<1048576->bs (b.take (i+1))=bs (b.take i)+1048576^i*bi ->
    ∃bm:Nat×Int×List Int,D a-bm.1<D a-i/\bm.1<=D a/\bm.2.2.length=D a/\fe bm.2.2/\bm.2.2.drop bm.1=a.drop bm.1/\(bm.2.1=0\/bm.2.1=1)/\bs (bm.2.2.take bm.1)=bs (a.take bm.1)-bs (b.take bm.1)+1048576^bm.1*bm.2.1 /\
     R.I (Data.int .i64 ((i+1:Nat):Int))=R.I (Data.int .i64 (bm.1:Int))/\R.I (Data.int .i64 ((a[i]-c-bi)/1048576%2))=R.I (Data.int .i64 bm.2.1)/\some (0,aV ae (o.set i ((a[i]-c-bi)%1048576)))=some (0,aV ae bm.2.2):=by
   intro bi s8 lv ED;have bF:(a[i]-c-bi)/1048576=0\/(a[i]-c-bi)/1048576 = -1:=by omega
   refine⟨(i+1,(a[i]-c-bi)/1048576%2,o.set i ((a[i]-c-bi)%1048576)),by dsimp only;omega,by dsimp only;omega,by simp[bS],Ay g5 i (by omega),?_,by dsimp only;omega,?_,rfl,rfl,rfl⟩
   ·dsimp only;rw[tY (by omega)];have G:=h9 um;have J:=h9 az;rw[vK,J] at G;exact (xg G).2.symm
   ·dsimp only;rw[lU _ _ (by simpa using um),EB,lU a i az,ED,nF];simp only[Ax];rw[asA _ _ _ _ _ _ _ j5];rcases bF with e|e<;>rw[e]<;>simp
  have nI:decide ((i:Int)<(D a:Int))=true:=cT;rcases dc (i<D b) with r7|Wo
  ·have q9:b[i]?=some b[i]:=bq r7;have vJ:=lV r4 i r7;have oZ:IntKind.i64.wrap (a[i]-c-b[i])=a[i]-c-b[i]:=wrap64 _ (by omega) (by omega);have kZ:decide ((i:Int)<(D b:Int))=true:=cT;refine ak ?_;repeat' (intro h<;>simp only[h,go_sem,go_sem_proc,nj,kY,G,bx,eP,jG,b0,hm,q9,hz,ni,oZ,kZ,nI,az,lW,mq,jk,Ao,agE,w9,ae,dY,aE,bj,bk,show ¬ ((20:Int)<0) by omega]<;>try refine ai ?_ ?_)
   exact fin b[i] vJ.1 vJ.2 (lU b i r7)
  ·have kZ:decide ((i:Int)<(D b:Int))=false:=cl;refine ak ?_;repeat' (intro h<;>simp only[h,go_sem,go_sem_proc,nj,kY,G,bx,eP,jG,b0,hm,hz,ni,kZ,nI,az,lW,mq,jk,Ao,agE,w9,ae,dY,aE,bj,bk,show ¬ ((20:Int)<0) by omega]<;>try refine ai ?_ ?_)
   have:=fin 0 (by omega) (by omega) (by rw[dp (by omega),dp (by omega)];simp)
   simpa using this
 ·obtain rfl:i=D a:=by omega
  have nI:decide ((D a:Int)<(D a:Int))=false:=cl;rw[dp (by omega),dp (by omega),dp (by omega),qi,EC] at j5
  have Wq:bs o=((x-y:Nat):Int):=by
   have G:=Al g5;rw[bS] at G;rcases asC with rfl|rfl
   ·rw[j5];omega
   ·omega
  have ot:=Wf o 173010 0 mem hm (by omega);rw[bS] at ot;have gj:=Wj hm g5 Wq;refine ak ?_;repeat' (intro h<;>simp only[h,go_sem,go_sem_proc,nj,kY,G,bx,eP,jG,b0,hm,nI,ot,gj,aE]<;>try refine ai ?_ ?_)
theorem agG (p xe V c x y Az:Int)(h:xe+p*c=V):xe+p*((Az+x*y+c)%1048576-Az)+p*1048576*((Az+x*y+c)/1048576)=V+p*(x*y):=by
 have G:=Ct (Az+x*y+c) 1048576
 have J:p*((Az+x*y+c)%1048576)+p*1048576*((Az+x*y+c)/1048576)=p*(Az+x*y+c):=by
  rw[iO,<-iN,G]
 have af:p*(Az+x*y+c)=p*Az+p*(x*y)+p*c:=by rw[iN,iN]
 rw[HA];omega
theorem agH {o x y c:Int}(bS:0<=o/\o<1048576)(M:0<=x/\x<1048576)(aj:0<=y/\y<1048576)(H:0<=c/\c<1048576):
  0<=x*y/\x*y<=1099509530625/\0<=(o+x*y+c)/1048576/\(o+x*y+c)/1048576<1048576:=by
 have G:0<=x*y:=uq M.1 aj.1;have J:x*y<=1048575*1048575:=Wt (by omega) (by omega) aj.1 (by omega);omega
theorem agI {o:List Int}{n j:Nat}(h:o.drop n=et (D o-n) 0)(aA:n<=j)(az:j<D o):o[j]=0:=by
 have G:(o.drop n)[j-n]?=some o[j]:=by rw[qX,show n+(j-n)=j by omega,bq az]
 rw[h,List.getElem?_replicate] at G
 split at G
 ·exact (oh G).symm
 ·cases G
theorem agJ {o:List Int}{n:Nat}{d:Int}(h:o.drop n=et (D o-n) 0)(az:n<D o):(o.set n d).drop (n+1)=et ((o.set n d).length-(n+1)) 0:=by
 rw[tY (by omega),jF];have G:=h9 az;rw[h,show (D o)-n=(D o-(n+1))+1 by omega,sR] at G
 exact (xg G).2.symm
def PM:=cn vH λ(x,y)=>cN ((aP x).length<=10000/\(aP y).length<=10000) (.own 1 ((aP (x*y)).map ae))
@[go_sem] theorem Wu (x:Nat)(y:Nat)(H:(aP x).length<=10000/\(aP y).length<=10000):PM [cx x,cx y]=some (.own 1 ((aP (x*y)).map ae)):=(cz yU (x,y)).trans (cX H _)
theorem asE (T:bl)(kY:T q6=Aj As vF)(x:Nat)(y:Nat)(H:(aP x).length<=10000/\(aP y).length<=10000):WP T VR (.own 1 ((aP (x*y)).map ae)) [.I (cx x),.I (cx y)]:=by
 refine cD ?_;simp only[VR];obtain⟨M,aj⟩:=H;have uk:=nh x;have r4:=nh y;have qi:=ml x;have EC:=ml y;generalize aW:aP x=a at *;generalize ah:aP y=b at *;have s7:IntKind.i64.wrap ((D a:Int)+(D b:Int))=((D a+D b:Nat):Int):=by rw[fh _];rfl
 have lv:8*(D a+D b)<=140737488355328:=by omega
 have e5:(D a)+D b<=maxLen:=Hz _ (by omega);simp only[go_sem,go_sem_proc,cx,aW,ah,s7,lv,e5,Hy,aE]
 refine cU [1,5,18,19] [] (λ(i,o) tm mem=>i<=D a/\(o:List Int).length=D a+D b/\fe o/\o.drop (i+D b)=et (D o-(i+D b)) 0/\bs o=bs (a.take i)*y/\tm 20=.I (.int .i64 (i:Nat))/\mem 161017=some (0,aV ae o))
  (λ(i,_)=>D a-i) (0,et (D a+D b) 0) (by
   have a3:∀n,bs (et n 0)=0:=by
    intro n
    induction n with
    |zero=>rfl
    |succ n aN=>rw[sR,uf,aN];rfl
   refine⟨fm _,by simp,λd ab=>by rw[HB] at ab;omega,by simp,by rw[a3];simp[bs],?_,?_⟩<;>rfl) ?_
 intro vs ms aJ aH;simp only[go_sem,go_sem_proc] at aJ aH;subst aJ aH;rintro⟨i,o⟩ tm mem L-⟨Q,bS,g5,s9,j5,vI,hm⟩;simp only[go_sem,go_sem_proc,bk] at L;obtain⟨G,bx,nJ,xh⟩:=L;rcases dc (i<D a) with az|b2
 ·have r5:a[i]?=some a[i]:=bq az;have Ch:=lV uk i az;have tZ:=lU a i az;generalize a[i]=ie at *;have kZ:decide ((i:Int)<(D a:Int))=true:=cT;simp only[go_sem,go_sem_proc,G,nJ,xh,vI,r5,kZ,ae,aE,bj]
  refine cU [1,5,6,7,18,19,20,25,26] [] (λ((k,c,o):Nat×Int×List Int) tm mem=>k<=D b/\D o=D a+D b/\fe o/\o.drop (i+D b)=et (D o-(i+D b)) 0/\0<=c/\c<1048576/\bs o+1048576^(i+k)*c=bs (a.take i)*y+1048576^i*(ie*bs (b.take k)) /\
    tm 27=.I (.int .i64 (k:Nat))/\tm 8=.I (.int .i64 c)/\mem 161017=some (0,aV ae o))
   (λ(k,_)=>D b-k) (0,0,o) (by refine⟨fm _,bS,g5,s9,by omega,by omega,by simp[bs,j5],?_,?_,hm⟩<;>rfl) ?_
  intro vs ms aJ aH;simp only[go_sem,go_sem_proc,G,bx,nJ,xh,vI] at aJ aH;subst aJ aH;rintro⟨k,c,o⟩ tm mem L-⟨rX,bS,g5,s9,ix,gb,j5,agK,cu,hm⟩;simp only[go_sem,go_sem_proc,bk] at L;obtain⟨G,bx,b0,bV,nJ,xh,vI,agL,agM⟩:=L;rcases dc (k<D b) with Lh|Lh
  ·have q9:b[k]?=some b[k]:=bq Lh;have HC:=lV r4 k Lh;have qj:i+k<D o:=by omega
   have Wv:=lV g5 (i+k) qj;obtain⟨ea,b7,gG,fx⟩:=agH Wv Ch HC ⟨ix,gb⟩;have kZ:decide ((k:Int)<(D b:Int))=true:=cT;have hz:IntKind.i64.wrap ((k:Int)+1)=((k+1:Nat):Int):=by rw[fh _];rfl
   have ni:IntKind.i64.wrap ((i:Int)+(k:Int))=((i+k:Nat):Int):=by rw[fh _];rfl
   have oZ:IntKind.i64.wrap (ie*b[k])=ie*b[k]:=wrap64 _ (by omega) (by omega);have HD:IntKind.i64.wrap (o[i+k]+ie*b[k])=o[i+k]+ie*b[k]:=wrap64 _ (by omega) (by omega);have Cu:IntKind.i64.wrap (o[i+k]+ie*b[k]+c)=o[i+k]+ie*b[k]+c:=wrap64 _ (by omega) (by omega);have lW:i+k+1<=(aV ae o).length:=by rw[q8];omega
   have mq:=Lf o (i+k) qj;have jk:=λd=>yT o (i+k) d qj;have nb:i+k<D a+D b:=by omega
   refine ak ?_;repeat' (intro h<;>simp only[h,go_sem,go_sem_proc,kY,G,bx,b0,bV,nJ,xh,vI,agL,agM,agK,cu,hm,q9,kZ,hz,ni,oZ,HD,Cu,nb,lW,mq,jk,Ao,w9,ae,dY,aE,bj,bk,show ¬ ((20:Int)<0) by omega]<;>try refine ai ?_ ?_)
   refine⟨(k+1,(o[i+k]+ie*b[k]+c)/1048576,o.set (i+k) ((o[i+k]+ie*b[k]+c)%1048576)),by dsimp only;omega,by dsimp only;omega,by simp[bS],Ay g5 _ (by omega),?_,gG,fx,?_,rfl,rfl,rfl⟩
   ·dsimp only;rw[tY (by omega),jF,s9]
   ·dsimp only;rw[Wr _ _ _ qj,lU b k Lh,<-tT,nF,agG _ _ _ _ _ _ _ j5];rw[iN (ie),iN (1048576^i),agN]
    have:(1048576:Int)^i*(ie*(1048576^k*b[k]))=1048576^i*1048576^k*(ie*b[k]):=by
     rw[<-iO (ie),nG (ie) (1048576^k),iO (1048576^k),<-iO]
    omega
  ·obtain rfl:k=D b:=by omega
   have kZ:decide ((D b:Int)<(D b:Int))=false:=cl;have qj:i+D b<D o:=by omega
   have a3:=agI s9 (cH _) qj;have hz:IntKind.i64.wrap ((i:Int)+1)=((i+1:Nat):Int):=by rw[fh _];rfl
   have ni:IntKind.i64.wrap ((i:Int)+(D b:Int))=((i+D b:Nat):Int):=by rw[fh _];rfl
   have oZ:IntKind.i64.wrap (0+c)=c:=by rw[Ww];exact wrap64 _ (by omega) (by omega)
   have lW:i+D b+1<=(aV ae o).length:=by rw[q8];omega
   have mq:=Lf o (i+D b) qj;rw[a3] at mq;have jk:=λd=>yT o (i+D b) d qj;have nb:i+D b<D a+D b:=by omega
   refine ak ?_;repeat' (intro h<;>simp only[h,go_sem,go_sem_proc,kY,G,bx,b0,bV,nJ,xh,vI,agL,agM,agK,cu,hm,kZ,hz,ni,oZ,nb,lW,mq,jk,ae,dY,aE]<;>try refine ai ?_ ?_)
   refine⟨(i+1,o.set (i+D b) c),by dsimp only;omega,by dsimp only;omega,by simp[bS],Ay g5 _ ⟨ix,gb⟩,?_,?_,rfl,rfl⟩
   ·dsimp only;have:=agJ (d:=c) s9 qj;rwa [show i+D b+1=i+1+(D b) by omega] at this
   ·dsimp only;rw[Wr _ _ _ qj,a3,tZ];rw[dp (cH _),EC] at j5;rw[Cv,j5,ur,iO]
 ·obtain rfl:i=D a:=by omega
  have kZ:decide ((D a:Int)<(D a:Int))=false:=cl;rw[dp (cH _),qi] at j5;have ot:=Wf o 161017 0 mem hm (by omega);rw[bS] at ot;have gj:=Wj hm g5 (n:=x*y) (by rw[j5];rfl);refine ak ?_;repeat' (intro h<;>simp only[h,go_sem,go_sem_proc,kY,G,bx,nJ,xh,vI,hm,kZ,ot,gj,aE]<;>try refine ai ?_ ?_)
abbrev Wx:Nat×Int->List Data:=λ(x,d)=>[cx x,.int .i64 d]
def Wy:=cn Wx λ(x,d)=>cN ((aP x).length<=100000/\0<d/\d<1048576) (.same (.c1 [cx (x/d.toNat),.int .i64 (x%d.toNat:Nat)]))
theorem asF:∀a b,Wx a=Wx b->a=b:=by
  rintro⟨a5,d1⟩ ⟨bX,d2⟩ h;simp only[bk,cx,Data.X.injEq,Data.int.injEq] at h;exact dN (KO (map_inj gx _ _ h.1)) h.2.1.2
@[go_sem] theorem agO (x:Nat)(d:Int)(H:(aP x).length<=100000/\0<d/\d<1048576):Wy [cx x,.int .i64 d]=some (.same (.c1 [cx (x/d.toNat),.int .i64 (x%d.toNat:Nat)])):=(cz asF (x,d)).trans (cX H _)
theorem asG (T:bl)(kY:T q6=Aj As vF)(x:Nat)(d:Int)(H:(aP x).length<=100000/\0<d/\d<1048576):WP T VV (.same (.c1 [cx (x/d.toNat),.int .i64 (x%d.toNat:Nat)])) [.I (cx x),.I (.int .i64 d)]:=by
 refine cD ?_;simp only[VV];obtain⟨M,xi,kt⟩:=H;have uk:=nh x;have qi:=ml x;generalize aW:aP x=a at *;have lv:8*D a<=140737488355328:=by omega
 have e5:(D a)<=maxLen:=Hz _ (by omega);have j8:(d=0)=False:=by simp;omega
 simp only[go_sem,go_sem_proc,cx,aW,lv,e5,Hy,aE]
 refine cU [0,1,6] [] (λ((n,r,o):Nat×Int×List Int) tm mem=>n<=D a/\D o=D a/\fe o/\0<=r/\r<d/\bs (a.drop n)=d*bs (o.drop n)+r/\tm 8=.I (.int .i64 ((n:Nat)-1))/\tm 7=.I (.int .i64 r)/\mem 176011=some (0,aV ae o))
  (λ(n,_)=>n) (D a,0,et (D a) 0) (by
   refine⟨cH _,by simp,λd ab=>by rw[HB] at ab;omega,by omega,by omega,by simp[bs],?_,?_,?_⟩
   ·simp only[dk,reduceIte];rw[fh _]
   ·rfl
   ·rfl) ?_
 intro vs ms aJ aH;simp only[go_sem,go_sem_proc] at aJ aH;subst aJ aH;rintro⟨n,r,o⟩ tm mem L-⟨aM,bS,g5,hZ,EE,aD,cu,bV,hm⟩;simp only[go_sem,go_sem_proc,bk] at L;obtain⟨ax,G,b0⟩:=L;rcases n with _|n
 ·have bF:bs o=(x/d.toNat:Nat)/\r=(x%d.toNat:Nat):=by
   rw[nD,nD,qi] at aD;have e:(d.toNat:Int)=d:=by omega
   constructor
   ·rw[agP,e,aD,yV,agQ _ _ (by omega),Wz hZ EE];omega
   ·rw[agR,e,aD,yV,agS,WA hZ EE]
  have gF:=PE o (by omega);rw[Am g5,bF.1] at gF;have iu:R.ref 176011 0 1 0 (D a)=R.ref 176011 0 1 0 (D o):=by rw[bS]
  rw[iu] at b0;refine ak ?_;repeat' (intro h<;>simp only[h,go_sem,go_sem_proc,kY,ax,G,b0,bV,cu,hm,gF,oW jD,qg,qh,show ¬ ((0:Int)-1>=0) by omega,decide_false,jE]<;>try refine ai ?_ ?_)
  all_goals rw[bF.2]
 ·have r5:a[n]?=some a[n]:=bq (by omega);have PN:=lV uk n (by omega);have hw:((n+1:Nat):Int)-1=(n:Int):=by omega
  have gw:n<D o:=by omega
  have hz:IntKind.i64.wrap (r*2^min (Ek 20) 64)=r*1048576:=by
   rw[show min (Ek 20) 64=20 by decide]
   exact wrap64 _ (by omega) (by omega)
  have vL:bits .or .i64 (r*1048576) a[n]=r*1048576+a[n]:=UR r a[n] hZ (by omega) PN;have mX:0<=(r*1048576+a[n])/d:=WB (by omega) (by omega)
  have vM:(r*1048576+a[n])/d<1048576:=agT xi (by
   have:(r+1)*1048576<=d*1048576:=lA (by omega) (by omega);rw[nG 1048576 d];omega)
  have vN:(r*1048576+a[n]).tdiv d=(r*1048576+a[n])/d:=HE (by omega);have WC:(r*1048576+a[n]).tmod d=(r*1048576+a[n])%d:=Li (by omega);have ni:IntKind.i64.wrap ((r*1048576+a[n])/d)=(r*1048576+a[n])/d:=wrap64 _ (by omega) (by omega);have lW:n+1<=(aV ae o).length:=by rw[q8];omega
  have jk:=λd=>yT o n d gw;have p6:n<D a:=by omega
  have oZ:IntKind.i64.wrap ((n:Int)-1)=(n:Int)-1:=wrap64 _ (by omega) (by omega);refine ak ?_;repeat' (intro h<;>simp only[h,go_sem,go_sem_proc,kY,ax,G,b0,bV,cu,hm,hw,r5,hz,vL,vN,WC,ni,oZ,j8,p6,lW,jk,show (n:Int)>=0 by omega,decide_true,ae,dY,aE,bj,bk,show ¬ ((20:Int)<0) by omega]<;>try refine ai ?_ ?_)
  refine⟨(n,(r*1048576+a[n])%d,o.set n ((r*1048576+a[n])/d)),by dsimp only;omega,by dsimp only;omega,by simp[bS],Ay g5 n ⟨mX,vM⟩,WD _ (by omega),WE _ xi,?_,rfl,rfl,rfl⟩
  dsimp only;rw[h9 (by omega:n<D a),h9 (by simpa using gw:n<(o.set n ((r*1048576+a[n])/d)).length),uf,uf]
  simp only[Ax];rw[tY (by omega),aD];have:=Ct (r*1048576+a[n]) d;rw[iN,iN,WG d 1048576];omega
def pad:Nat->Nat->List Int
 |0,_=>[]
 |n+1,x=>((x%1048576:Nat):Int)::pad n (x/1048576)
theorem asH (n x:Nat):(pad n x).length=n:=by
 induction n generalizing x with
 |zero=>rfl
 |succ n aN=>simp[pad,aN]
theorem asI (n x:Nat):fe (pad n x):=by
 induction n generalizing x with
 |zero=>intro d ab;cases ab
 |succ n aN =>
  unfold pad;rw[He];exact⟨by omega,aN _⟩
theorem agU {l:List Int}(h:fe l):l=pad (D l) (bs l).toNat:=by
 induction l with
 |nil=>rfl
 |cons d r aN =>
  rw[He] at h;have G:=pE h.2;have J:=aN h.2;simp only[jO,pad,uf]
  congr 1
  ·omega
  ·rw[show (d+1048576*bs r).toNat/1048576=(bs r).toNat by omega]
   exact J
theorem asJ {n x:Nat}(h:x<1048576^n):bs (pad n x)=x:=by
 induction n generalizing x with
 |zero=>simp at h;subst h;rfl
 |succ n aN =>
  unfold pad;rw[uf,aN (by rw[agk (by omega)];rwa [vB] at h)];omega
theorem Lj {pre u post:List Int}{i:Nat}(h:i<D u):hY 1 (iP (D pre+i) (aV ae (pre++u++post)))=[.I (.int .i64 u[i])]:=by
 rw[Lf _ _ (by simp;omega)]
 congr 3
 simp[h]
theorem agV {pre u post:List Int}{i:Nat}(h:i<D u)(d:Int):hY (D pre+i) (aV ae (pre++u++post))++[.I (.int .i64 d)]++iP (D pre+i+1) (aV ae (pre++u++post))=aV ae (pre++u.set i d++post):=by
 rw[yT _ _ _ (by simp;omega)]
 congr 1
 rw[gT,List.set_append_right _ _ (by omega),Hc,List.set_append_left _ _ h,gT]
theorem PO (mem:Mem)(k g eg:Nat)(a b:List R):a9 (a9 mem k g a) k eg b=a9 mem k eg b:=by
 funext j
 unfold a9
 split<;>rfl
theorem asK {mem:Mem}{k g:Nat}{a:List R}(h:mem k=some (g,a)):a9 mem k g a=mem:=by
 funext j
 unfold a9
 split
 ·rename_i e;rw[e,h]
 ·rfl
structure Lk where
 pre:List Int
 u:List Int
 post:List Int
 V:Nat
 q:Int
 k:Key
 g:Nat
def PQ (u:List Int)(V:Nat)(q:Int):Int:=if bs u-q*V<0 then bs u-q*V+V else bs u-q*V
def Cw (u:List Int)(V:Nat)(q:Int):Int:=if bs u-q*V<0 then q-1 else q
def Cx (a:Lk):List R:=aV ae (a.pre++pad (D a.u) (PQ a.u a.V a.q).toNat++a.post)
def WH (a:Lk)(mem:Mem):Prop:=mem a.k=some (a.g,aV ae (a.pre++a.u++a.post))/\fe a.u/\(aP a.V).length<=D a.u/\0<=a.q/\a.q<1048576/\0<=bs a.u-a.q*a.V+a.V/\D a.pre+D a.u<=100000
def Ll:List R->Mem->Option (R×Mem):=Hd (λ(a:Lk) args mem=>args=[.ref a.k a.g 1 (D a.pre) (D a.u),.I (cx a.V),.I (.int .i64 a.q)]/\WH a mem)
 (λa mem=>(.I (.int .i64 (Cw a.u a.V a.q)),a9 mem a.k a.g (Cx a)))
theorem asL {a b:Nat}(h:cx a=cx b):a=b:=KO (map_inj gx _ _ (by simpa [cx] using h))
theorem asM (a:Lk)(mem:Mem)(h:WH a mem):Ll [.ref a.k a.g 1 (D a.pre) (D a.u),.I (cx a.V),.I (.int .i64 a.q)] mem=some (.I (.int .i64 (Cw a.u a.V a.q)),a9 mem a.k a.g (Cx a)):=by
 unfold Ll;refine age (a:=a) ?_ ⟨rfl,h⟩;rintro a b args mem ⟨G,J,_⟩ ⟨af,aT,_⟩;rw[G] at af;simp only[bk,R.ref.injEq,R.I.injEq,Data.int.injEq,true_and,and_true] at af;obtain⟨⟨Le,PF,PR,agW⟩,agX,eq⟩:=af;have agY:=asL agX;clear agX;obtain⟨pre,u,post,V,q,k,g⟩:=a;obtain⟨aJA,aJB,aJC,aJD,uu,k',eg⟩:=b;simp only at Le PF PR agW agY eq J aT;subst Le PF agY eq;rw[aT] at J;simp only[cL,fS,true_and] at J;have e:=We jD gx _ _ J (by omega);rw[gT,gT] at e;obtain⟨av,aB⟩:=Hv e PR.symm;obtain⟨bp,bM⟩:=Hv aB agW.symm;subst av bp bM
 rfl
theorem asN (p xe vr sQ c a b q:Int)(h:xe=vr-q*sQ+p*c):xe+p*((a-c-q*b)%1048576)=vr+p*a-q*(sQ+p*b)+p*1048576*(-((a-c-q*b)/1048576)):=by
 have G:=Ct (a-c-q*b) 1048576
 have J:p*((a-c-q*b)%1048576)+p*1048576*((a-c-q*b)/1048576)=p*(a-c-q*b):=by
  rw[iO,<-iN,G]
 have af:p*(a-c-q*b)=p*a-p*c-p*(q*b):=by rw[HA,HA]
 have aT:q*(sQ+p*b)=q*sQ+p*(q*b):=by rw[iN,WG]
 rw[HF];omega
theorem agZ {a c q b:Int}(aW:0<=a/\a<1048576)(H:0<=c/\c<=1048576)(bF:0<=q/\q<1048576)(ah:0<=b/\b<1048576):
  0<=q*b/\q*b<=1099509530625/\0 <= -((a-c-q*b)/1048576) /\ -((a-c-q*b)/1048576)<=1048576:=by
 have G:0<=q*b:=uq bF.1 ah.1;have J:q*b<=1048575*1048575:=Wt (by omega) (by omega) ah.1 (by omega);omega
theorem asO (T:bl)(a:Lk)(en:Mem)(H:WH a en):
  wp T PC.body (KN PC.res (.I (.int .i64 (Cw a.u a.V a.q))) (a9 en a.k a.g (Cx a))) ⟨lk [.ref a.k a.g 1 (D a.pre) (D a.u),.I (cx a.V),.I (.int .i64 a.q)],en⟩:=by
 obtain⟨pre,u,post,V,q,k,g⟩:=a;obtain⟨p4,vO,T3,mX,vM,ku,hlen⟩:=H;simp only at p4 vO T3 mX vM ku hlen ⊢;have ow:=nh V;have Ky:=ml V;have WI:=gC.1 T3;refine sV ?_;simp only[PC];simp only[go_sem,go_sem_proc,cx];generalize ah:aP V=v at *
 refine cU [0,1,2,13] [] (λ((i,c,w):Nat×Int×List Int) tm mem=>i<=D u/\D w=D u/\fe w/\w.drop i=u.drop i/\(0<=c/\c<=1048576)/\bs (w.take i)=bs (u.take i)-q*bs (v.take i)+1048576^i*c/\tm 14=.I (.int .i64 (i:Nat))/\tm 7=.I (.int .i64 c)/\mem=a9 en k g (aV ae (pre++w++post)))
  (λ(i,_)=>D u-i) (0,0,u) (by refine⟨fm _,rfl,vO,rfl,by omega,by simp[bs],rfl,rfl,(asK p4).symm⟩) ?_
 intro vs ms aJ aH;simp only[go_sem,go_sem_proc] at aJ aH;subst aJ aH;rintro⟨i,c,w⟩ tm _ L-⟨Q,hw,r8,vK,H,j5,Cy,bV,rfl⟩;simp only[go_sem,go_sem_proc,bk] at L;obtain⟨ax,G,J,jG⟩:=L;rcases dc (i<D u) with az|b2
 ·have yW:i<D w:=by omega
  have asP:w[i]=u[i]:=by
   have G:=h9 yW;rw[vK,h9 az] at G;exact (xg G).1.symm
  have Lm:w.drop (i+1)=u.drop (i+1):=by
   have G:=h9 yW;rw[vK,h9 az] at G;exact (xg G).2.symm
  have mq:=Lj (pre:=pre) (post:=post) yW;rw[asP] at mq;have ag0:=lV vO i az;have tZ:=lU u i az;generalize u[i]=vP at *;have hz:IntKind.i64.wrap ((i:Int)+1)=((i+1:Nat):Int):=by rw[fh _];rfl
  have ni:IntKind.i64.wrap (vP-c)=vP-c:=wrap64 _ (by omega) (by omega);have lW:(D pre)+i+1<=(aV ae (pre++w++post)).length:=by rw[q8];simp;omega
  have jk:=λd=>agV (pre:=pre) (post:=post) yW d;have nI:decide ((i:Int)<(D u:Int))=true:=cT
  have fin:∀bi:Int,0<=bi->bi<1048576->bs (v.take (i+1))=bs (v.take i)+1048576^i*bi ->
    ∃bm:Nat×Int×List Int,D u-bm.1<D u-i/\bm.1<=D u/\bm.2.2.length=D u/\fe bm.2.2/\bm.2.2.drop bm.1=u.drop bm.1/\(0<=bm.2.1/\bm.2.1<=1048576)/\bs (bm.2.2.take bm.1)=bs (u.take bm.1)-q*bs (v.take bm.1)+1048576^bm.1*bm.2.1 /\
     R.I (Data.int .i64 ((i+1:Nat):Int))=R.I (Data.int .i64 (bm.1:Int))/\R.I (Data.int .i64 (-((vP-c-q*bi)/1048576)))=R.I (Data.int .i64 bm.2.1)/\a9 en k g (aV ae (pre++w.set i ((vP-c-q*bi)%1048576)++post))=a9 en k g (aV ae (pre++bm.2.2++post)):=by
   intro bi s8 lv ED;obtain⟨ea,b7,gG,fx⟩:=agZ ag0 H ⟨mX,vM⟩ ⟨s8,lv⟩;refine⟨(i+1,-((vP-c-q*bi)/1048576),w.set i ((vP-c-q*bi)%1048576)),by dsimp only;omega,by dsimp only;omega,by simp[hw],Ay r8 i (by omega),?_,⟨gG,fx⟩,?_,rfl,rfl,rfl⟩
   ·dsimp only;rw[tY (by omega),Lm]
   ·dsimp only;rw[lU _ _ (by simpa using yW),EB,tZ,ED,nF];simp only[Ax];exact asN _ _ _ _ _ _ _ _ j5
  rcases dc (i<D v) with r7|Wo
  ·have q9:v[i]?=some v[i]:=bq r7;have vJ:=lV ow i r7;have WJ:=lU v i r7;generalize v[i]=bi at *;obtain⟨ea,b7,gG,fx⟩:=agZ ag0 H ⟨mX,vM⟩ vJ;have oZ:IntKind.i64.wrap (q*bi)=q*bi:=wrap64 _ (by omega) (by omega);have HD:IntKind.i64.wrap (vP-c-q*bi)=vP-c-q*bi:=wrap64 _ (by omega) (by omega);have Cu:IntKind.i64.wrap (0-(vP-c-q*bi)/1048576) = -((vP-c-q*bi)/1048576):=by rw[fh _];omega
   have kZ:decide ((i:Int)<(D v:Int))=true:=cT;refine ak ?_;repeat' (intro (ay:_=_)<;>simp only[ay,go_sem,go_sem_proc,ax,G,J,jG,Cy,bV,q9,hz,ni,oZ,HD,Cu,kZ,nI,az,lW,mq,jk,PO,Ao,w9,ae,dY,aE,bj,bk,show ¬ ((20:Int)<0) by omega]<;>try refine ai ?_ ?_)
   exact fin bi vJ.1 vJ.2 WJ
  ·have kZ:decide ((i:Int)<(D v:Int))=false:=cl;have Cu:IntKind.i64.wrap (0-(vP-c)/1048576) = -((vP-c)/1048576):=by rw[fh _];omega
   refine ak ?_;repeat' (intro (ay:_=_)<;>simp only[ay,go_sem,go_sem_proc,ax,G,J,jG,Cy,bV,hz,ni,Cu,kZ,nI,az,lW,mq,jk,PO,Ao,w9,ae,dY,aE,bj,bk,show ¬ ((20:Int)<0) by omega]<;>try refine ai ?_ ?_)
   have:=fin 0 (by omega) (by omega) (by rw[dp (by omega),dp (by omega)];simp);simp only[yX,Cv] at this;exact this
 ·obtain rfl:i=D u:=by omega
  have nI:decide ((D u:Int)<(D u:Int))=false:=cl;rw[dp (by omega),dp (by omega),dp (by omega),Ky] at j5;have asQ:=Al r8;have aJE:=pE r8;rw[hw] at asQ
  have aJF:(V:Int)<1048576^(D u):=by
   have h:=Int.ofNat_lt.2 WI;rw[EF] at h;exact h
  by_cases ix:c=0
  ·subst ix;have HG:bs u-q*V=bs w:=by omega
   have av:Cw u V q=q:=by unfold Cw;rw[ag (by omega)]
   have aB:Cx ⟨pre,u,post,V,q,k,g⟩=aV ae (pre++w++post):=by
    unfold Cx PQ;simp only;rw[ag (by omega),HG,<-hw,<-agU r8]
   refine ak ?_;repeat' (intro (ay:_=_)<;>simp only[ay,go_sem,go_sem_proc,ax,G,J,jG,Cy,bV,nI,av,aB,beq_self_eq_true]<;>try refine ai ?_ ?_)
  ·have EG:(c==0)=false:=by simpa using ix
   have qk:(1048576:Int)^(D u)<=1048576^(D u)*c:=by
    have:(1048576:Int)^(D u)*1<=1048576^(D u)*c:=vG (by omega) (by omega);omega
   have mr:bs u-q*V<0:=by omega
   have WK:IntKind.i64.wrap (q-1)=q-1:=wrap64 _ (by omega) (by omega);simp only[go_sem,go_sem_proc,ax,jG,Cy,bV,nI,EG]
   refine cU [0,1,2,48] [] (λ((i,d,z):Nat×Int×List Int) tm mem=>i<=D u/\D z=D u/\fe z/\z.drop i=w.drop i/\(0<=d/\d<=1)/\bs (z.take i)+1048576^i*d=bs (w.take i)+bs (v.take i)/\tm 49=.I (.int .i64 (i:Nat))/\tm 10=.I (.int .i64 d)/\mem=a9 en k g (aV ae (pre++z++post)))
    (λ(i,_)=>D u-i) (0,0,w) (by refine⟨fm _,hw,r8,rfl,by omega,by simp[bs],rfl,rfl,rfl⟩) ?_
   intro vs ms aJ aH;simp only[go_sem,go_sem_proc,ax,G,J] at aJ aH;subst aJ aH;rintro⟨i,d,z⟩ tm _ L-⟨Q,a3,xj,vK,ab,EH,WL,dS,rfl⟩;simp only[go_sem,go_sem_proc,bk] at L;obtain⟨ax,G,J,WM⟩:=L;rcases dc (i<D u) with az|b2
   ·have Ln:i<D z:=by omega
    have yW:i<D w:=by omega
    have asR:z[i]=w[i]:=by
     have G:=h9 Ln;rw[vK,h9 yW] at G;exact (xg G).1.symm
    have asS:z.drop (i+1)=w.drop (i+1):=by
     have G:=h9 Ln;rw[vK,h9 yW] at G;exact (xg G).2.symm
    have mq:=Lj (pre:=pre) (post:=post) Ln;rw[asR] at mq;have Lo:=lV r8 i yW;have tZ:=lU w i yW;generalize w[i]=Cz at *;have hz:IntKind.i64.wrap ((i:Int)+1)=((i+1:Nat):Int):=by rw[fh _];rfl
    have ni:IntKind.i64.wrap (d+Cz)=d+Cz:=wrap64 _ (by omega) (by omega);have lW:(D pre)+i+1<=(aV ae (pre++z++post)).length:=by rw[q8];simp;omega
    have jk:=λd=>agV (pre:=pre) (post:=post) Ln d;have nI:decide ((i:Int)<(D u:Int))=true:=cT
    have fin:∀bi:Int,0<=bi->bi<1048576->bs (v.take (i+1))=bs (v.take i)+1048576^i*bi ->
      ∃bm:Nat×Int×List Int,D u-bm.1<D u-i/\bm.1<=D u/\bm.2.2.length=D u/\fe bm.2.2/\bm.2.2.drop bm.1=w.drop bm.1/\(0<=bm.2.1/\bm.2.1<=1)/\bs (bm.2.2.take bm.1)+1048576^bm.1*bm.2.1=bs (w.take bm.1)+bs (v.take bm.1) /\
       R.I (Data.int .i64 ((i+1:Nat):Int))=R.I (Data.int .i64 (bm.1:Int))/\R.I (Data.int .i64 ((d+Cz+bi)/1048576))=R.I (Data.int .i64 bm.2.1)/\a9 en k g (aV ae (pre++z.set i ((d+Cz+bi)%1048576)++post))=a9 en k g (aV ae (pre++bm.2.2++post)):=by
     intro bi s8 lv ED;refine⟨(i+1,(d+Cz+bi)/1048576,z.set i ((d+Cz+bi)%1048576)),by dsimp only;omega,by dsimp only;omega,by simp[a3],Ay xj i (by omega),?_,by dsimp only;omega,?_,rfl,rfl,rfl⟩
     ·dsimp only;rw[tY (by omega),asS]
     ·dsimp only;rw[lU _ _ (by simpa using Ln),EB,tZ,ED,nF];simp only[Ax];exact agC _ _ _ _ _ _ _ EH
    rcases dc (i<D v) with r7|Wo
    ·have q9:v[i]?=some v[i]:=bq r7;have vJ:=lV ow i r7;have WJ:=lU v i r7;generalize v[i]=bi at *;have oZ:IntKind.i64.wrap (d+Cz+bi)=d+Cz+bi:=wrap64 _ (by omega) (by omega);have kZ:decide ((i:Int)<(D v:Int))=true:=cT;refine ak ?_;repeat' (intro (ay:_=_)<;>simp only[ay,go_sem,go_sem_proc,ax,G,J,WM,WL,dS,q9,hz,ni,oZ,kZ,nI,az,lW,mq,jk,PO,Ao,w9,ae,dY,aE,bj,bk,show ¬ ((20:Int)<0) by omega]<;>try refine ai ?_ ?_)
     exact fin bi vJ.1 vJ.2 WJ
    ·have kZ:decide ((i:Int)<(D v:Int))=false:=cl;refine ak ?_;repeat' (intro (ay:_=_)<;>simp only[ay,go_sem,go_sem_proc,ax,G,J,WM,WL,dS,hz,ni,kZ,nI,az,lW,mq,jk,PO,Ao,w9,ae,dY,aE,bj,bk,show ¬ ((20:Int)<0) by omega]<;>try refine ai ?_ ?_)
     have:=fin 0 (by omega) (by omega) (by rw[dp (by omega),dp (by omega)];simp);simp only[ra] at this;exact this
   ·obtain rfl:i=D u:=by omega
    have nI:decide ((D u:Int)<(D u:Int))=false:=cl;rw[dp (by omega),dp (by omega),dp (by omega),Ky] at EH;have asT:=Al xj;have aJG:=pE xj;rw[a3] at asT
    have HG:bs u-q*V+V=bs z:=by
     have e:bs u-q*V+V-bs z=1048576^(D u)*(d-c):=by rw[HA];omega
     generalize (1048576:Int)^(D u)=p at *;rcases uv (d-c) 0 with h|h|h
     ·have:p*(d-c)<=p*(-1):=vG (by omega) (by omega);omega
     ·rw[h,yX] at e;omega
     ·have:p*1<=p*(d-c):=vG (by omega) (by omega);omega
    have av:Cw u V q=q-1:=by unfold Cw;rw[ad mr]
    have aB:Cx ⟨pre,u,post,V,q,k,g⟩=aV ae (pre++z++post):=by
     unfold Cx PQ;simp only;rw[ad mr,HG,<-a3,<-agU xj]
    refine ak ?_;repeat' (intro (ay:_=_)<;>simp only[ay,go_sem,go_sem_proc,ax,G,J,WM,WL,dS,nI,av,aB,WK]<;>try refine ai ?_ ?_)
theorem asU {T V P yY HH v1 v2 top ho q r:Int}(qe:V=(v1*1048576+v2)*P+yY)(dK:T=(top*1048576+ho)*P+HH)(fi:0<P)(ag1:0<=yY)(PS:HH<P)(mX:0<=q)(asV:0<=V)
  (WN:T<1048576*V) (EI:q*v1+r=top) (H:q>=1048576\/q*v2>r*1048576+ho):T<q*V:=by
 rcases H with h|h
 ·have:=lA h asV;omega
 ·have G:(top*1048576+ho+1)*P<=(q*(v1*1048576+v2))*P:=by
   refine lA ?_ (by omega);rw[iN,<-iO];have:q*v1*1048576=(top-r)*1048576:=by rw[<-EI];congr 1;omega
   omega
  have J:q*V=(q*(v1*1048576+v2))*P+q*yY:=by rw[qe,iN,<-iO]
  have af:0<=q*yY:=uq mX ag1;rw[ur _ 1,ql] at G;omega
theorem ag2 {T V P yY HH v1 v2 top ho q r:Int}(qe:V=(v1*1048576+v2)*P+yY)(dK:T=(top*1048576+ho)*P+HH)(fi:0<P)(ag1:0<=yY/\yY<P)(PS:0<=HH)(mX:0<=q)(vM:q<1048576)(rR:524288<=v1)(rS:0<=v2/\v2<1048576)(ae1:0<=ho)
  (EI:q*v1+r=top) (H:r>=1048576\/q*v2<=r*1048576+ho):0<=T-q*V+V:=by
 have J:q*V=(q*(v1*1048576+v2))*P+q*yY:=by rw[qe,iN,<-iO]
 have af:q*yY<=q*P:=vG (by omega) mX;have aT:q*P<=1048576*P:=lA (by omega) (by omega);have bx:1048576*P<=(v1*1048576+v2)*P:=lA (by omega) (by omega);have e:q*v1*1048576=(top-r)*1048576:=by rw[<-EI];congr 1;omega
 rcases H with h|h
 ·have b0:q*v2+q<=1048576*1048576:=by
   have bV:q*(v2+1)<=1048576*1048576:=Wt (by omega) (by omega) (by omega) (by omega);rw[iN,r3] at bV;exact bV
  have cu:(q*(v1*1048576+v2)+q)*P<=(top*1048576+ho)*P:=by
   refine lA ?_ (by omega);rw[iN,<-iO];omega
  rw[ur _ q] at cu;omega
 ·have cu:(q*(v1*1048576+v2))*P<=(top*1048576+ho)*P:=by
   refine lA ?_ (by omega);rw[iN,<-iO];omega
  omega
theorem asW {T V q:Int}(qe:0<V)(G:T<(q+1)*V)(J:0<=T-q*V+V):(if T-q*V<0 then q-1 else q)=T/V/\(if T-q*V<0 then T-q*V+V else T-q*V)=T%V:=by
 have af:(q+1)*V=q*V+V:=by rw[ur,ql]
 have aT:(q-1)*V=q*V-V:=by rw[ag3,ql]
 have key:∀d r:Int,T=d*V+r->0<=r->r<V->d=T/V/\r=T%V:=by
  intro d r h ax bx
  constructor
  ·rw[h,yV,Int.add_mul_ediv_right _ _ (by omega),Wz ax bx];omega
  ·rw[h,yV,Int.add_mul_emod_self_right,WA ax bx]
 split
 ·exact key (q-1) _ (by omega) (by omega) (by omega)
 ·exact key q _ (by omega) (by omega) (by omega)
theorem ag4 {v:List Int}{N:Nat}(h:(D v)=N+2):bs v=(v[N+1]*1048576+v[N])*1048576^N+bs (v.take N):=by
 have e:v=v.take (N+1+1):=by rw[dp (by omega)]
 conv=>lhs;rw[e]
 rw[lU v (N+1) (by omega),lU v N (by omega),nF,ur,nG (v[N]),CA (v[N+1]),nG (v[N+1])];have:(1048576:Int)^N*1048576*v[N+1]=1048576^N*v[N+1]*1048576:=by rw[CA]
 omega
theorem asX {v:List Int}{N:Nat}(h:(D v)=N+3):bs v=((v[N+2]*1048576+v[N+1])*1048576+v[N])*1048576^N+bs (v.take N):=by
 have e:v=v.take (N+1+1+1):=by rw[dp (by omega)]
 conv=>lhs;rw[e]
 rw[lU v (N+1+1) (by omega),lU v (N+1) (by omega),lU v N (by omega)];simp only[nF];generalize (1048576:Int)^N=p;rw[ur,ur,ur,CA (v[N+2]*1048576),CA (v[N+2]),nG (v[N+2]),CA (v[N+1]),nG (v[N+1]),nG (v[N])];have G:p*1048576*v[N+1]=p*v[N+1]*1048576:=by rw[CA]
 have J:p*1048576*1048576*v[N+1+1]=p*v[N+2]*1048576*1048576:=by rw[CA,CA p]
 omega
theorem asY {u:List Int}{i n:Nat}{V:Int}(ab:fe u)(aw:i+n+1<=D u)(hc:bs (u.drop (i+1))<V)(qe:V<1048576^n):
  ∃pre gy post,u=pre++gy++post/\D pre=i/\D gy=n+1/\fe pre/\fe gy/\fe post/\bs post=0/\∃eW,gy[0]?=some eW/\u.take (i+1)=pre++[eW]/\bs gy=eW+1048576*bs (u.drop (i+1))/\0<=bs (u.drop (i+1))/\0<=eW/\eW<1048576:=by
 have e:u=u.take i++(u.drop i).take (n+1)++u.drop (i+n+1):=by
  rw[gT,tT,<-G0,vz,vz]
 have ag5:=e ▸ ab;rw[Eh,Eh] at ag5;obtain⟨⟨d1,d2⟩,d3⟩:=ag5;have az:i<D u:=by omega
 have vK:=h9 az;have PT:((u.drop i).take (n+1)).length=n+1:=by simp;omega
 have ag6:bs (u.drop (i+1))=bs ((u.drop (i+1)).take n)+1048576^n*bs (u.drop (i+n+1)):=by
  have:=KP (u.drop (i+1)) n;rw[nE,oS (by omega),G0] at this;rw[this]
  congr 3
  rw[show i+1+n=i+n+1 by omega]
 have aF:=pE d3;have ca:0<=bs ((u.drop (i+1)).take n):=pE (λx M=>ab x (Lp (z5 M)))
 have iQ:bs (u.drop (i+n+1))=0:=by
  rcases dc (0<bs (u.drop (i+n+1))) with h|h
  ·have:(1048576:Int)^n*1<=1048576^n*bs (u.drop (i+n+1)):=vG (by omega) (Int.pow_nonneg (by omega));omega
  ·omega
 refine⟨_,_,_,e,by simp;omega,PT,d1,d2,d3,iQ,u[i],?_,?_,?_,?_,(lV ab i az).1,(lV ab i az).2⟩
 ·rw[List.getElem?_take_of_lt (by omega),qX];simp[az]
 ·rw[gB,bq az];rfl
 ·rw[vK,sW,uf,ag6,iQ];simp
 ·rw[ag6,iQ];simpa using ca
theorem asZ (l:List Int)(h:(D l)<=1000000):kS 157054 0 1 (D l) 8 1 [.I (.int .i64 0)] (some (0,((l.map ae).flatten.map R.I)))=some (.ref 157054 1 1 0 (D l+1),some (157054,1,aV ae (l++[0]))) :=
 jm jD yM 157054 0 8 l 0 rfl (by omega) (by omega)
def PU:=cn vH λ(x,y)=>cN ((aP x).length<=1000/\(aP y).length<=1000/\0<y) (.same (.c1 [cx (x/y),cx (x%y)]))
@[go_sem] theorem ag7 (x:Nat)(y:Nat)(H:(aP x).length<=1000/\(aP y).length<=1000/\0<y):PU [cx x,cx y]=some (.same (.c1 [cx (x/y),cx (x%y)])):=(cz yU (x,y)).trans (cX H _)
theorem as0 (T:bl)(ox:T Er=aQ Lg)(nj:T yR=aQ Ez)(CB:T Po=aQ Wy)(kY:T q6=Aj As vF)(uw:T Hj=aQ PM)(CC:T Vb=Ck Ll)(x:Nat)(y:Nat)(H:(aP x).length<=1000/\(aP y).length<=1000/\0<y):WP T VN (.same (.c1 [cx (x/y),cx (x%y)])) [.I (cx x),.I (cx y)]:=by
 refine cD ?_;simp only[VN];obtain⟨M,aj,jo⟩:=H;have nB:(aP x).length<=1000000/\(aP y).length<=1000000:=by omega
 have iR:=Wk x y nB;have vn:(aP x).length<=1000000:=by omega
 by_cases g4:x<y
 ·have k0:gl x y = -1:=by unfold gl;rw[ad (by simpa using g4)]
  have fv:=asr (aP x) vn;rw[k0] at iR
  change Ez [cx x]=_ at fv
  refine ak ?_;repeat' (intro (ay:_=_)<;>simp only[ay,go_sem,go_sem_proc,ox,nj,CB,kY,uw,CC,iR,fv,show ((-1:Int)<0) by omega,decide_true]<;>try refine ai ?_ ?_)
  rw[UG g4,KK g4]
  try rfl
 ·have k0:decide (gl x y<0)=false:=by
   unfold gl;rw[ag (by simp;omega)]
   split<;>rfl
  have aJH:aP y≠[]:=by rw[Ne,Ak];omega
  by_cases G:y<1048576
  ·have r4:=Ej jo G;have pC:=agO x y ⟨by omega,by omega,by omega⟩
   have bc:=PE [((x%y:Nat):Int)] (by simp);have az:x%y<y:=oX _ jo;rw[jE] at pC
   have vN:gg [((x%y:Nat):Int)]=aP (x%y):=by
    generalize x%y=r at az ⊢;rw[Am (by intro d ab;rw[xk] at ab;omega)];simp only[bs]
    congr 1
   rw[vN] at bc;have Lq:cx y=.X [[.int .i64 y]]:=by unfold cx;rw[r4];rfl
   change As [.X [[.int .i64 _]]]=_ at bc
   rw[Lq] at iR;refine ak ?_;repeat' (intro (ay:_=_)<;>simp only[ay,go_sem,go_sem_proc,ox,nj,CB,kY,uw,CC,Lq,iR,k0,pC,bc,show (((1:Nat):Int)==1)=true from rfl]<;>try refine ai ?_ ?_)
   try rfl
  ·obtain⟨N,fK⟩:∃N,(aP y).length=N+2:=by
    have:=mt (gC (n:=y) (k:=1)).1 (by simpa using G);exact⟨(aP y).length-2,by omega⟩
   have r4:=nh y;have mo:(((aP y).length:Int)==1)=false:=by simp;omega
   have PT:IntKind.i64.wrap (((aP y).length:Int)-1)=((N+1:Nat):Int):=by rw[fh _];omega
   have hL:(aP y)[N+1]?=some (aP y)[N+1]:=bq (by omega);have PV:=lV r4 (N+1) (by omega)
   have aJI:(aP y)[N+1]≠0:=by
    intro h;have:=agj y;rw[List.getLast?_eq_getElem?,fK] at this;exact this (by rw[show N+2-1=N+1 by omega,hL,h])
   have WO:=ag4 fK;rw[ml] at WO;have as1:=Al (Av r4 N);have aJJ:=pE (Av r4 N);have aJK:=lV r4 N (by omega);rw[gv,oS (by omega)] at as1;generalize (aP y)[N+1]=c0 at *;generalize (aP y)[N]=sZ at *;generalize bs ((aP y).take N)=WQ at *;have ag8:((aP y).map ae)[N+1]?=some [.int .i64 c0]:=by rw[bj,hL];rfl
   simp only[go_sem,go_sem_proc,ox,cx];have ag9:=iR;unfold cx at ag9;simp only[go_sem,go_sem_proc,ag9,k0,mo,aE];refine cU [0,1] [157054,157075] (λ(κ:Nat) tm mem=>c0*2^κ<1048576/\tm 8=.I (.int .i64 (2^κ))) (λκ=>20-κ) 0 (by refine⟨by omega,rfl⟩) ?_;intro vs ms aJ aH;simp only[go_sem,go_sem_proc] at aJ aH;subst aJ aH;rintro κ tm mem L hm ⟨Lr,cu⟩;simp only[go_sem,go_sem_proc,bk] at L hm;obtain⟨ax,w5⟩:=L;obtain⟨Ls,o0⟩:=hm;have aJL:(0:Int)<2^κ:=HI (by omega)
   have aJM:(2:Int)^κ<=c0*2^κ:=by
    have:1*(2:Int)^κ<=c0*2^κ:=lA (by omega) (by omega);omega
   have hκ:κ<20:=by
    rcases g2 κ 20 with h|h
    ·exact h
    ·have:(2:Int)^20<=2^κ:=by
      have:=nK (n:=2) (by omega) h;have cW:=Int.ofNat_le.2 this;rwa [EF,EF] at cW
     omega
   have WR:IntKind.i64.wrap (c0*2^κ)=c0*2^κ:=wrap64 _ (by omega) (by omega);have as2:IntKind.i64.wrap (2^κ*2)=2^κ*2:=wrap64 _ (by omega) (by omega);rcases dc (c0*2^κ<524288) with az|b2
   ·refine ak ?_;repeat' (intro (ay:_=_)<;>simp only[ay,go_sem,go_sem_proc,ox,nj,CB,kY,uw,CC,ax,w5,cu,PT,ag8,WR,as2,az,Ls,o0,decide_true,dY,aE]<;>try refine ai ?_ ?_)
    exact⟨κ+1,by omega,by rw[nF,<-iO];omega,by rw[nF]⟩
   ·-- the numbers, shifted
    have as3:(c0+1)*2^κ<=1048576:=by
     have e:(1048576:Int)=2^(20-κ)*2^κ:=by rw[<-agN,show 20-κ+κ=20 by omega];rfl
     have G:c0<2^(20-κ):=by
      rcases dc (c0<2^(20-κ)) with h|h
      ·exact h
      ·have:(2:Int)^(20-κ)*2^κ<=c0*2^κ:=lA (by omega) (by omega);omega
     rw[e];exact lA (by omega) (by omega)
    generalize (2:Int)^κ=s at *;obtain⟨S,rfl⟩:∃S:Nat,s=S:=⟨s.toNat,by omega⟩
    have fi:(0:Int)<1048576^N:=HI (by omega);have EJ:0<S:=by omega
    have WI:y*S<1048576^(N+2):=by
     have G:((y*S:Nat):Int)<1048576^(N+2):=by
      rw[aha,WO,nF,nF];generalize (1048576:Int)^N=p at *
      have av:((c0*1048576+sZ)*p+WQ)*S<=((c0+1)*1048576*p)*S:=by
       refine lA ?_ (by omega);have:(c0*1048576+sZ+1)*p<=((c0+1)*1048576)*p:=lA (by omega) (by omega);rw[ur _ 1] at this;omega
      have ahb:((c0*1048576+sZ)*p+WQ)*S<((c0+1)*1048576*p)*S:=by
       refine Int.mul_lt_mul_of_pos_right ?_ (by omega);have:(c0*1048576+sZ+1)*p<=((c0+1)*1048576)*p:=lA (by omega) (by omega);rw[ur _ 1] at this;omega
      have aB:((c0+1)*1048576*p)*S=((c0+1)*S)*(p*1048576):=by
       rw[iO (c0+1),iO,nG (1048576*p),<-iO,nG 1048576 p]
      have bp:((c0+1)*S)*(p*1048576)<=1048576*(p*1048576):=lA as3 (by omega);omega
     have J:((1048576^(N+2):Nat):Int)=1048576^(N+2):=by rw[EF];rfl
     omega
    have aJN:524288*(1048576^N*1048576)<=((y*S:Nat):Int):=by
     rw[aha,WO];generalize (1048576:Int)^N=p at *
     have av:(c0*1048576)*p*S<=((c0*1048576+sZ)*p+WQ)*S:=by
      refine lA ?_ (by omega);have:(c0*1048576)*p<=(c0*1048576+sZ)*p:=lA (by omega) (by omega);omega
     have aB:(c0*1048576)*p*S=(c0*S)*(p*1048576):=by
      rw[iO c0,iO,nG (1048576*p),<-iO,nG 1048576 p]
     have bp:524288*(p*1048576)<=(c0*S)*(p*1048576):=lA (by omega) (by omega);omega
    have Lt:(aP (y*S)).length=N+2:=by
     have G:=gC.2 WI
     have J:=mt (gC (n:=y*S) (k:=N+1)).1 (by
      have J:((1048576^(N+1):Nat):Int)=1048576^N*1048576:=by rw[EF,nF];rfl
      omega)
     omega
    have aJO:1*x<=x*S:=by rw[sY];exact ahc x EJ
    have aJP:(aP x).length<=(aP (x*S)).length:=by
     rw[gC];have:=gC.1 (cH (aP (x*S)).length);omega
    have aJQ:y*S<=x*S:=og S (by omega)
    have aJR:N+2<=(aP (x*S)).length:=by
     rw[<-Lt,gC];have:=gC.1 (cH (aP (x*S)).length);omega
    have aJS:(aP (x*S)).length<=1001:=by
     have:∀k,(aP x).length<=k->(aP (x*S)).length<=k+1:=by
      intro k L;rw[gC];have G:=gC.1 L;rw[vB];exact DO (Nat.mul_lt_mul_of_pos_right G EJ) (ahc _ (by omega))
     exact this 1000 M
    have iv:=Wu x S ⟨by omega,by rw[Ej EJ (by omega)];simp⟩
    have WS:=Wu y S ⟨by omega,by rw[Ej EJ (by omega)];simp⟩
    have as4:cx S=.X [[.int .i64 (S:Int)]]:=by unfold cx;rw[Ej EJ (by omega)];rfl
    rw[as4] at iv WS;simp only[cx] at iv WS;have dv:=asZ (aP (x*S)) (by omega);have as5:((((aP (x*S)).length+1:Nat):Int)==((aP x).length:Int))=false:=by simp;omega
    have as6:=ml (y*S);have PW:=nh (y*S);have as7:=ml (x*S);have ahd:=nh (x*S);have as8:cx (y*S)=.X ((aP (y*S)).map ae):=rfl;generalize as9:aP (y*S)=v at *;generalize aJT:aP (x*S)=k1 at *;have WK:IntKind.i64.wrap (((D k1+1:Nat):Int)-(D v:Int))=((D k1-N-1:Nat):Int):=by rw[fh _];omega
    have vM:8*(D k1-N-1)<=140737488355328:=by omega
    have PX:(D k1)-N-1<=maxLen:=Hz _ (by omega);have HJ:decide (c0*(S:Int)<524288)=false:=h7 b2;simp only[go_sem,go_sem_proc,uw,ax,w5,cu,Ls,o0,PT,ag8,WR,HJ,iv,WS,dv,as5,WK,vM,PX,Hy,dY,aE];have e2:(D k1)-N-1+(N+2)=D k1+1:=by omega
    generalize aJU:(D k1)-N-1=bn at *;have fP:(D k1)=bn+N+1:=by omega
    have mu:=ag4 Lt;rw[as6] at mu;have WT:=Al (Av PW N);have WU:=pE (Av PW N);rw[gv,oS (by omega)] at WT;have ata:v[N+1]?=some v[N+1]:=bq (by omega);have xl:v[N]?=some v[N]:=bq (by omega);have EE:=lV PW (N+1) (by omega);have hZ:=lV PW N (by omega);generalize v[N+1]=v1 at *;generalize v[N]=v0 at *;generalize bs (v.take N)=vlow at *
    have rR:524288<=v1:=by
     generalize (1048576:Int)^N=p at *;rcases dc (524288<=v1) with h|h
     ·exact h
     ·have J:(v1*1048576+v0+1)*p<=(524288*1048576)*p:=lA (by omega) (by omega);rw[ur _ 1,ql] at J;omega
    have atb:((y*S:Nat):Int)<1048576^(N+2):=by
     have J:((1048576^(N+2):Nat):Int)=1048576^(N+2):=by rw[EF];rfl
     omega
    have WV:0<((y*S:Nat):Int):=by
     have:0<1048576^N*(1048576:Int):=Int.mul_pos fi (by omega);omega
    have atc:bs ((k1++[0]).drop bn)<((y*S:Nat):Int):=by
     have e:(k1++[0]).drop bn=k1.drop bn++[0]:=by rw[List.drop_append_of_le_length (by omega)]
     rw[e,Ei];have G:=Al (λd ab=>ahd d (Lp ab):fe (k1.drop bn));rw[nE,show (D k1)-bn=N+1 by omega,nF] at G
     simp only[bs];omega
    have atd:((x*S:Nat):Int)=bs ((k1++[0]).take bn)+1048576^bn*bs ((k1++[0]).drop bn):=by
     have:=KP (k1++[0]) bn;rw[Ei,as7,oS (by simp;omega)] at this
     simpa [bs] using this
    generalize ahe:y*S=hq at *;generalize ahf:x*S=HK at *
    refine cU [8,9,10,11,12] [] (λ((j,u,e7):Nat×List Int×List Int) tm mem=>j<=bn/\D u=D k1+1/\fe u/\D e7=bn/\fe e7/\bs (u.drop j)<hq/\(HK:Int)=bs (u.take j)+1048576^j*(hq*bs (e7.drop j)+bs (u.drop j)) /\
      tm 13=.I (.int .i64 ((j:Nat)-1))/\mem 157054=some (1,aV ae u)/\mem 157075=some (0,aV ae e7)) (λ(j,_)=>j) (bn,k1++[0],et bn 0)
     (by
      refine⟨cH _,by simp,Eh.2 ⟨ahd,by intro d ab;rw[xk] at ab;omega⟩,by simp,λd ab=>by rw[HB] at ab;omega,atc,?_,?_,rfl,rfl⟩
      ·rw[List.drop_of_length_le (by simp)];simp only[bs,yX,Ww];exact atd
      ·simp only[dk,reduceIte];rw[fh _]) ?_
    intro vs ms aJ aH;simp only[go_sem,go_sem_proc,cu] at aJ aH;subst aJ aH;rintro⟨j,u,e7⟩ tm mem L-⟨aA,AA,vO,PY,WW,hc,ta,jG,Lu,ahg⟩;simp only[go_sem,go_sem_proc,bk] at L;obtain⟨cu,eK,dS,hp,eP⟩:=L;rcases j with _|j
    ·rw[nD,nD] at ta;rw[nD] at hc;simp only[mU,bs,Int.pow_zero,ql,Ww] at ta;have aJV:=pE WW;have EK:=pE vO
     have WX:bs e7=((x/y:Nat):Int)/\bs u=((x%y*S:Nat):Int):=by
      have G:HK/hq=x/y:=by rw[<-ahf,<-ahe];exact Nat.mul_div_mul_right x y EJ
      have J:HK%hq=x%y*S:=by rw[<-ahf,<-ahe];exact Nat.mul_mod_mul_right S x y
      have af:((HK/hq:Nat):Int)=bs e7:=by rw[agP,ta,yV,agQ _ _ (by omega),Wz EK hc];omega
      have aT:((HK%hq:Nat):Int)=bs u:=by rw[agR,ta,yV,agS,WA EK hc]
      rw[G] at af;rw[J] at aT;exact⟨af.symm,aT.symm⟩
     have ahh:=PE u (by omega);rw[Am vO,WX.2,jE] at ahh;have ahi:=PE e7 (by omega);rw[Am WW,WX.1,jE] at ahi
     have hlen:(aP (x%y*S)).length<=100000:=by
      have:(aP (x%y*S)).length<=D u:=by
       have:=agy u;rw[Am vO,WX.2,jE] at this;exact this
      omega
     have pC:=agO (x%y*S) S ⟨hlen,by omega,by omega⟩
     rw[jE,Nat.mul_div_cancel _ EJ] at pC;simp only[cx] at pC;have eB:R.ref 157054 1 1 0 (D k1+1)=R.ref 157054 1 1 0 (D u):=by rw[AA]
     have fo:R.ref 157075 0 1 0 bn=R.ref 157075 0 1 0 (D e7):=by rw[PY]
     rw[eB] at eK;rw[fo] at eP;refine ak ?_;repeat' (intro (ay:_=_)<;>simp only[ay,go_sem,go_sem_proc,ox,nj,CB,kY,uw,CC,cu,eK,dS,hp,eP,jG,Lu,ahg,ahh,ahi,pC,oW jD,cx,qg,qh,show ¬ ((0:Int)-1>=0) by omega,decide_false]<;>try refine ai ?_ ?_)
    ·obtain⟨pre,gy,post,e,AB,ahj,WY,r8,ate,atf,eW,CD,gm,aJW,atg,aJX,aJY⟩:=asY (i:=j) (n:=N+2) vO (by omega) hc atb;have jd:j<bn:=by omega
     rw[gm,Ei,AB] at ta;subst e;subst AB;rw[Lt] at hp;have ahk:((D pre+1:Nat):Int)-1=(D pre:Int):=by omega
     have pD:IntKind.i64.wrap ((D pre:Int)+((N+2:Nat):Int))=((D pre+(N+2):Nat):Int):=by rw[fh _];omega
     have ath:IntKind.i64.wrap (((D pre+(N+2):Nat):Int)-1)=((D pre+(N+1):Nat):Int):=by rw[fh _];omega
     have PZ:IntKind.i64.wrap (((N+2:Nat):Int)-1)=((N+1:Nat):Int):=by rw[fh _];omega
     have ahl:IntKind.i64.wrap (((N+2:Nat):Int)-2)=(N:Int):=by rw[fh _];omega
     have ahm:IntKind.i64.wrap (((D pre+(N+2):Nat):Int)-2)=((D pre+N:Nat):Int):=by rw[fh _];omega
     have bJ:(D pre)+(N+2)<D k1+1:=by omega
     have bO:(D pre)+(N+1)<D k1+1:=by omega
     have eH:(D pre)+N<D k1+1:=by omega
     have ati:(D pre)+(N+2)+1<=(aV ae (pre++gy++post)).length:=by rw[q8,AA];omega
     have atj:(D pre)+(N+1)+1<=(aV ae (pre++gy++post)).length:=by rw[q8,AA];omega
     have ahn:(D pre)+N+1<=(aV ae (pre++gy++post)).length:=by rw[q8,AA];omega
     have atk:=Lj (pre:=pre) (post:=post) (show N+2<(D gy) by omega);have EL:=Lj (pre:=pre) (post:=post) (show N+1<(D gy) by omega);have iQ:=Lj (pre:=pre) (post:=post) (show N<(D gy) by omega);have dK:=asX (N:=N) (by omega:(D gy)=N+3);have PS:=Al (Av r8 N);have aho:=pE (Av r8 N);rw[gv,oS (by omega)] at PS;have lX:=lV r8 (N+2) (by omega);have kt:=lV r8 (N+1) (by omega);have xi:=lV r8 N (by omega);generalize gy[N+2]=t2 at *;generalize gy[N+1]=t1 at *;generalize gy[N]=t0 at *;generalize bs (gy.take N)=HH at *;have P0:IntKind.i64.wrap (t2*2^min (Ek 20) 64)=t2*1048576:=by rw[show min (Ek 20) 64=20 by decide];exact wrap64 _ (by omega) (by omega)
     have atl:bits .or .i64 (t2*1048576) t1=t2*1048576+t1:=UR t2 t1 lX.1 (by omega) kt;have atm:(v1=0)=False:=by simp;omega
     generalize aJZ:t2*1048576+t1=top at *;have aJ0:0<=top/\top<1099511627776:=by omega
     have vN:top.tdiv v1=top/v1:=HE (by omega);have WC:top.tmod v1=top%v1:=Li (by omega);have mX:0<=top/v1:=WB (by omega) (by omega);have vM:top/v1<=top:=Int.ediv_le_self _ (by omega);have atn:IntKind.i64.wrap (top/v1)=top/v1:=wrap64 _ (by omega) (by omega);have WZ:(v.map ae)[N+1]?=some [.int .i64 v1]:=by rw[bj,ata];rfl
     have ahp:(v.map ae)[N]?=some [.int .i64 v0]:=by rw[bj,xl];rfl
     have WN:bs gy<1048576*hq:=by omega
     have Lv:bs gy<(top/v1+1)*hq:=by
      have av:top+1<=(top/v1+1)*v1:=by
       have G:=Ct top v1;have J:=WE top (show 0<v1 by omega);rw[ur,ql,nG (top/v1)];omega
      have aB:(top+1)*1048576*1048576^N<=(top/v1+1)*v1*1048576*1048576^N:=lA (lA av (by omega)) (by omega)
      have bp:(top/v1+1)*v1*1048576*1048576^N<=(top/v1+1)*hq:=by
       rw[iO,iO];refine vG ?_ (by omega);rw[mu,<-iO];have:v1*1048576*1048576^N<=(v1*1048576+v0)*1048576^N:=lA (by omega) (by omega);omega
      have bM:(top*1048576+t0+1)*1048576^N<=(top+1)*1048576*1048576^N:=lA (by omega) (by omega);rw[ur _ 1,ql] at bM;omega
     simp only[go_sem,go_sem_proc,eK,dS,hp,jG,Lu,ahk,pD,ath,PZ,bJ,bO,ati,atj,atk,EL,P0,atl,atm,vN,WC,atn,WZ,show (D pre:Int)>=0 by omega,decide_true,dY,show ¬ ((20:Int)<0) by omega]
     have W0:∀(mem:Mem),mem 157054=some (1,aV ae (pre++gy++post))->∀q:Int,0<=q->q<1048576->bs gy<(q+1)*hq->0<=bs gy-q*hq+hq ->
       Ll [.ref 157054 1 1 (D pre) (N+3),.I (.X (v.map ae)),.I (.int .i64 q)] mem=some (.I (.int .i64 (bs gy/hq)),a9 mem 157054 1 (aV ae (pre++pad (N+3) (bs gy%hq).toNat++post))):=by
      intro mem Lu q mX ato nL j8;have Lq:=asW WV nL j8;have ot:=asM ⟨pre,gy,post,hq,q,157054,1⟩ mem ⟨Lu,r8,by show (aP hq).length<=D gy;rw[as9];omega,mX,ato,j8,by show (D pre)+D gy<=100000;omega⟩
      simp only[Cw,Cx,PQ] at ot;rw[Lq.1,Lq.2,ahj,as8] at ot;exact ot
     have atp:0<=bs gy/hq:=WB (pE r8) (by omega);have atq:bs gy/hq<1048576:=agT WV WN;have aJ1:=WD (bs gy) (show (hq:Int)≠0 by omega);have atr:=WE (bs gy) WV
     have ats:bs (pad (N+3) (bs gy%hq).toNat)=bs gy%hq:=by
      rw[asJ]
      ·omega
      ·have J:((1048576^(N+2):Nat):Int)=1048576^(N+2):=by rw[EF];rfl
       have af:1048576^(N+2)<=1048576^(N+3):=nK (by omega) (by omega);omega
     have jc:∃bm:Nat×List Int×List Int,bm.1<D pre+1/\bm.1<=bn/\bm.2.1.length=D k1+1/\fe bm.2.1/\bm.2.2.length=bn/\fe bm.2.2/\bs (bm.2.1.drop bm.1)<hq/\(HK:Int)=bs (bm.2.1.take bm.1)+1048576^bm.1*(hq*bs (bm.2.2.drop bm.1)+bs (bm.2.1.drop bm.1)) /\
       R.I (Data.int .i64 ((D pre:Int)-1))=R.I (Data.int .i64 ((bm.1:Int)-1))/\some (1,aV ae (pre++pad (N+3) (bs gy%hq).toNat++post))=some (1,aV ae bm.2.1)/\some (0,aV ae (e7.set (D pre) (bs gy/hq)))=some (0,aV ae bm.2.2):=by
      have att:(D e7)=bn:=PY;have PY:(D pre)<D e7:=by omega
      have ux:(pre++pad (N+3) (bs gy%hq).toNat++post).drop (D pre)=pad (N+3) (bs gy%hq).toNat++post:=by rw[gT,UE]
      have atu:(pre++pad (N+3) (bs gy%hq).toNat++post).take (D pre)=pre:=by rw[gT,UD]
      have ahq:bs (pad (N+3) (bs gy%hq).toNat++post)=bs gy%hq:=by rw[Ei,atf,ats];omega
      refine⟨(D pre,pre++pad (N+3) (bs gy%hq).toNat++post,e7.set (D pre) (bs gy/hq)),by dsimp only;omega,by dsimp only;omega,?_,Eh.2 ⟨Eh.2 ⟨WY,asI _ _⟩,ate⟩,by rw[jF];exact att,Ay WW _ ⟨atp,atq⟩,?_,?_,rfl,rfl,rfl⟩
      ·rw[<-AA];simp[asH,ahj]
      ·dsimp only;rw[ux,ahq];exact atr
      ·dsimp only;rw[ux,ahq,atu,h9 (by simpa using PY),uf];simp only[Ax];rw[tY (by omega)];have G:=Ct (bs gy) hq;have J:(hq:Int)*(bs gy/hq+1048576*bs (e7.drop (D pre+1)))=hq*(bs gy/hq)+1048576*(hq*bs (e7.drop (D pre+1))):=by rw[iN,WG]
       rw[J,ta,nF,iO];simp only[bs,yX,ra];rw[Int.add_assoc,<-iN]
       congr 2
       rw[iN];omega
     have mY:(D pre)+(N+2)+1-D pre=N+3:=by omega
     have uy:IntKind.i64.wrap (((D pre+(N+2):Nat):Int)+1)=((D pre+(N+2)+1:Nat):Int):=by rw[fh _];rfl
     have ahr:(D pre)<=D pre+(N+2)+1/\D pre+(N+2)+1<=D k1+1:=by omega
     have ahs:(D pre)<bn:=jd;have aht:=λd=>yT e7 (D pre) d (by omega);have ahu:(D pre)+1<=(aV ae e7).length:=by rw[q8];omega
     have Lo:IntKind.i64.wrap ((D pre:Int)-1)=(D pre:Int)-1:=wrap64 _ (by omega) (by omega)
     refine cU [8,9,10,11,12,13] [157054,157075] (λ((q,r):Int×Int) tm mem=>0<=q/\0<=r/\q*v1+r=top/\bs gy<(q+1)*hq/\tm 15=.I (.int .i64 q)/\tm 16=.I (.int .i64 r)) (λ(q,_)=>q.toNat) (top/v1,top%v1)
      (by
       refine⟨mX,WD _ (by omega),?_,Lv,rfl,rfl⟩;have:=Ct top v1;rw[nG (top/v1)];omega) ?_
     intro vs ms aJ aH;simp only[go_sem,go_sem_proc,cu,eK,dS,hp,eP,jG,Lu,ahg,ahk] at aJ aH;subst aJ aH;rintro⟨q,r⟩ tm mem' L hm ⟨AD,atv,EI,nL,yZ,uz⟩;simp only[go_sem,go_sem_proc,bk] at L hm;obtain⟨jq,kv,oy,pI,mZ,r9⟩:=L;obtain⟨HL,P1⟩:=hm;have aJ2:0<=q*v1:=uq AD (by omega);have aJ3:q*524288<=q*v1:=vG rR AD;have aJ4:0<=q*v0:=uq AD hZ.1;have aJ5:q*v0<=q*1048576:=vG (by omega) AD;have HM:IntKind.i64.wrap (q*v0)=q*v0:=wrap64 _ (by omega) (by omega);have ahv:IntKind.i64.wrap (q-1)=q-1:=wrap64 _ (by omega) (by omega);have ahw:IntKind.i64.wrap (r+v1)=r+v1:=wrap64 _ (by omega) (by omega);have ahx:IntKind.i64.wrap (r*2^min (Ek 20) 64)=r*1048576:=by rw[show min (Ek 20) 64=20 by decide];exact wrap64 _ (by omega) (by omega)
     have ahy:bits .or .i64 (r*1048576) t0=r*1048576+t0:=UR r t0 atv (by omega) xi
     have O2:(q>=1048576\/q*v0>r*1048576+t0)->∃bm:Int×Int,bm.1.toNat<q.toNat/\0<=bm.1/\0<=bm.2/\bm.1*v1+bm.2=top/\bs gy<(bm.1+1)*hq/\R.I (Data.int .i64 (q-1))=R.I (Data.int .i64 bm.1)/\R.I (Data.int .i64 (r+v1))=R.I (Data.int .i64 bm.2):=by
      intro H;have G:=asU mu dK fi WU PS AD (by omega) WN EI H
      have W1:0<q:=by
       rcases dc (0<q) with h|h
       ·exact h
       ·obtain rfl:q=0:=by omega
        have:=pE r8;omega
      exact⟨(q-1,r+v1),by dsimp only;omega,by dsimp only;omega,by dsimp only;omega,by dsimp only;rw[ag3];omega,by dsimp only;rw[Int.sub_add_cancel];exact G,rfl,rfl⟩
     by_cases gb:q>=1048576
     ·refine ak ?_;repeat' (intro (ay:_=_)<;>simp only[ay,go_sem,go_sem_proc,ox,nj,CB,kY,uw,CC,jq,kv,oy,pI,mZ,r9,HL,P1,yZ,uz,gb,ahv,ahw,PZ,WZ,decide_true,dY,aE]<;>try refine ai ?_ ?_)
      exact O2 (.inl gb)
     ·by_cases zZ:r<1048576
      ·by_cases sa:q*v0>r*1048576+t0
       ·refine ak ?_;repeat' (intro (ay:_=_)<;>simp only[ay,go_sem,go_sem_proc,ox,nj,CB,kY,uw,CC,jq,kv,oy,pI,mZ,r9,HL,P1,yZ,uz,gb,zZ,sa,HM,ahv,ahw,ahx,ahy,pD,PZ,ahl,ahm,eH,ahn,iQ,WZ,ahp,decide_true,decide_false,dY,aE,show ¬ ((20:Int)<0) by omega]<;>try refine ai ?_ ?_)
        exact O2 (.inr sa)
       ·have ot:=W0 mem' HL q AD (by omega) nL (ag2 mu dK fi ⟨WU,WT⟩ aho AD (by omega) rR hZ xi.1 EI (.inr (by omega)));refine ak ?_;repeat' (intro (ay:_=_)<;>simp only[ay,go_sem,go_sem_proc,ox,nj,CB,kY,uw,CC,jq,kv,oy,pI,mZ,r9,HL,P1,yZ,uz,gb,zZ,sa,HM,ahx,ahy,pD,uy,PZ,ahl,ahm,eH,ahn,iQ,ahp,mY,ahr,ot,ahs,ahu,aht,Lo,Lt,decide_true,decide_false,dY,aE,show ¬ ((20:Int)<0) by omega]<;>try refine ai ?_ ?_)
        exact jc
      ·have ot:=W0 mem' HL q AD (by omega) nL (ag2 mu dK fi ⟨WU,WT⟩ aho AD (by omega) rR hZ xi.1 EI (.inl (by omega)));refine ak ?_;repeat' (intro (ay:_=_)<;>simp only[ay,go_sem,go_sem_proc,ox,nj,CB,kY,uw,CC,jq,kv,oy,pI,mZ,r9,HL,P1,yZ,uz,gb,zZ,pD,uy,mY,ahr,ot,ahs,ahu,aht,Lo,Lt,decide_true,decide_false,dY,aE]<;>try refine ai ?_ ?_)
       exact jc
def dQ:Nat:=1048576^60
def bf (z:Int):Raw:=(z.sign,aP z.natAbs)
def g6 (a:Raw):Int:=a.1*bs a.2
theorem e8 (z:Int):g6 (bf z)=z:=by
 unfold g6 bf;rw[ml];exact HN z
theorem Lw (d:Int):ov d=true↔0<=d/\d<1048576:=by
 unfold ov;simp;omega
theorem hM (a:Raw):dj a=true↔∃z:Int,z.natAbs<dQ/\a=bf z:=by
 obtain⟨s,l⟩:=a;unfold dj dQ;rw[fw,pz]
 constructor
 ·rintro⟨G,J⟩;have ab:fe l:=λd ab=>(Lw d).1 (G d ab)
  split at J
  ·rename_i h;have aw:l=[]:=tW (by simpa using h);subst aw;have U:s=0:=by simpa using J
   subst U;exact⟨0,by simp,rfl⟩
  ·rename_i h;simp at J;obtain⟨⟨U,hlen⟩,W2⟩:=J;have H:=canon ab (by simpa using W2);have aD:=pE ab
   have aJ6:bs l≠0:=by
    intro ax;rw[ax] at H;rw[H] at h;simp[ug] at h
   refine⟨s*bs l,?_,?_⟩
   ·have:(s*bs l).natAbs=(bs l).toNat:=by rw[tb];rcases U with rfl|rfl<;>simp<;>omega
    rw[this,<-gC,<-H];exact hlen
   ·unfold bf;have:(s*bs l).natAbs=(bs l).toNat:=by rw[tb];rcases U with rfl|rfl<;>simp<;>omega
    rw[this,<-H]
    congr 1
    rcases U with rfl|rfl
    ·rw[ql,g7 (by omega)]
    ·rw[EM,ql,EN,g7 (by omega)]
 ·rintro⟨z,a3,h⟩
  cases h;refine⟨λd ab=>(Lw d).2 (nh _ d ab),?_⟩
  by_cases ax:z=0
  ·subst ax;rfl
  ·have aM:aP z.natAbs≠[]:=by rw[Ne,Ak];omega
   rw[ag (by simp;exact aM)];have aw:=gC.2 a3;have oq:=agj z.natAbs;simp only[fw,Bool.or_eq_true,beq_iff_eq,decide_eq_true_eq,bne_iff_ne,ne_eq];refine⟨⟨?_,aw⟩,oq⟩;rcases uv z 0 with h|h|h
   ·exact .inr (nk h)
   ·exact absurd h ax
   ·exact .inl (g7 h)
theorem kx {z:Int}(h:z.natAbs<dQ):dj (bf z)=true:=(hM _).2 ⟨z,h,rfl⟩
def y0 (c:Raw):Raw×Int:=if decide ((c.2.length:Int)>60)=true then ((0,[]),6) else (c,0)
def o1 (z:Int):Raw×Int:=if z.natAbs<dQ then (bf z,0) else ((0,[]),6)
def dZ (x:Raw×Int):Data:=.c1 [.agg (ck x.1),.int .i64 x.2]
theorem atw (s:Int)(n:Nat):jn s (aP n)=if n=0 then (0,[]) else (s,aP n):=by
 unfold jn;rw[agi]
 by_cases h:n=0
 ·subst h;rfl
 ·have:aP n≠[]:=by rw[Ne,Ak];exact h
  rw[ag h,ag (by simp;exact this)]
theorem nM {s:Int}{n:Nat}{z:Int}(h:z.natAbs=n)(U:n≠0->s=z.sign):jn s (aP n)=bf z:=by
 rw[atw];subst h
 by_cases ax:z.natAbs=0
 ·obtain rfl:z=0:=by omega
  rfl
 ·rw[ag ax,U ax]
  rfl
theorem xm (z:Int):y0 (bf z)=o1 z:=by
 unfold y0 o1 bf dQ;have:=gC (n:=z.natAbs) (k:=60)
 by_cases h:z.natAbs<1048576^60
 ·have:=this.2 h;rw[ag (by simp;omega),ad h]
 ·have:=mt this.1 h;rw[ad (by simp;omega),ag h]
abbrev W3:Bool×Int×(List Int)->List Data:=λ(r,s,l)=>[.bool r,.agg [.int .i64 s,.X (l.map ae)]]
def Lx:=cn W3 λ(r,s,l)=>some (.same (dZ (if r=true then y0 (s,l) else ((0,[]),1))))
theorem atx:∀a b,W3 a=W3 b->a=b:=by
  rintro⟨eF,s1,ed⟩ ⟨eU,s2,aa⟩ h;simp only[bk,Data.bool.injEq,Data.agg.injEq,Data.int.injEq,Data.X.injEq] at h;exact dN h.1 (dN h.2.1.1.2 (map_inj gx _ _ h.2.1.2.1))
@[go_sem] theorem HO (r:Bool)(s:Int)(l:List Int):Lx [.bool r,.agg [.int .i64 s,.X (l.map ae)]]=some (.same (dZ (if r=true then y0 (s,l) else ((0,[]),1)))):=cz atx (r,s,l)
theorem aty (T:bl)  (r:Bool) (s:Int) (l:List Int):WP T VM (.same (dZ (if r=true then y0 (s,l) else ((0,[]),1)))) [.I (.bool r),.I (.agg [.int .i64 s,.X (l.map ae)])]:=by
 refine cD ?_;simp only[VM]
 cases r
 ·refine ak ?_;repeat' (intro h<;>simp only[h,go_sem,go_sem_proc,aE]<;>try refine ai ?_ ?_)
  rfl
 ·refine ak ?_;repeat' (intro h<;>simp only[h,go_sem,go_sem_proc,aE]<;>try refine ai ?_ ?_)
  all_goals (simp only[dZ,ck,y0];simp only[cC, *,reduceIte,j3])
def hf (a:Raw):Raw:=if dj a=true then bf (-g6 a) else (0,[])
theorem ahz (z:Int):jn (-z.sign) (aP z.natAbs)=bf (-z):=nM (by omega) λ_=>by rw[EN]
def P2:=cn Au λ(s,l)=>cN (D l<=1000000) (.same (.agg (ck (hf (s,l)))))
@[go_sem] theorem aJ7 (s:Int)(l:List Int)(H:(D l)<=1000000):P2 [.agg [.int .i64 s,.X (l.map ae)]]=some (.same (.agg (ck (hf (s,l))))):=(cz EA (s,l)).trans (cX H _)
theorem atz (T:bl)(fT:T lx=aQ xd)(nj:T yR=aQ Ez)(j9:T pG=aQ Cs)(s:Int)(l:List Int)(H:(D l)<=1000000):WP T VJ (.same (.agg (ck (hf (s,l))))) [.I (.agg [.int .i64 s,.X (l.map ae)])]:=by
 refine cD ?_;simp only[VJ]
 by_cases Y:dj (s,l)=true
 ·obtain⟨z,a3,e⟩:=(hM _).1 Y;have av:hf (s,l)=bf (-z):=by unfold hf;rw[ad Y,e,e8]
  cases e
  have hw:IntKind.i64.wrap (0-z.sign) = -z.sign:=by
   have:=Ly z;rw[fh _];omega
  rw[av];refine ak ?_;repeat' (intro h<;>simp only[h,go_sem,go_sem_proc,fT,nj,j9,Y,H,hw,ahz,ck]<;>try refine ai ?_ ?_)
 ·have Y:dj (s,l)=false:=by simpa using Y
  have av:hf (s,l)=(0,[]):=by unfold hf;rw[Y];rfl
  rw[av];refine ak ?_;repeat' (intro h<;>simp only[h,go_sem,go_sem_proc,fT,nj,j9,Y,H,ck,cC]<;>try refine ai ?_ ?_)
theorem pJ (a:Raw):(a.1,a.2)=a:=rfl
def mulR (a b:Raw):Raw×Int:=if (dj a&&dj b)=true then o1 (g6 a*g6 b) else ((0,[]),1)
theorem uA {x y:Int}(M:x.natAbs<dQ)(aj:y.natAbs<dQ):mulR (bf x) (bf y)=o1 (x*y):=by
 unfold mulR;rw[kx M,kx aj,e8,e8]
 rfl
theorem nN {z:Int}(h:z.natAbs<dQ):(aP z.natAbs).length<=60:=gC.2 h
theorem nO (z:Int):-1<=z.sign/\z.sign<=1:=by
 have:=Ly z;omega
abbrev qm:Int×(List Int)×Int×(List Int)->List Data:=λ(s,l,s2,aa)=>[.agg [.int .i64 s,.X (l.map ae)],.agg [.int .i64 s2,.X (aa.map ae)]]
def HP:=cn qm λ(s,l,s2,aa)=>cN (D l<=1000000/\D aa<=1000000) (.same (dZ (mulR (s,l) (s2,aa))))
theorem sb:∀a b,qm a=qm b->a=b:=by
  rintro⟨s1,ed,CE,AE⟩ ⟨s2,aa,CF,AF⟩ h;simp only[bk,Data.agg.injEq,Data.int.injEq,Data.X.injEq] at h;exact dN h.1.1.2 (dN (map_inj gx _ _ h.1.2.1) (dN h.2.1.1.2 (map_inj gx _ _ h.2.1.2.1)))
@[go_sem] theorem aJ8 (s:Int)(l:List Int)(s2:Int)(aa:List Int)(H:(D l)<=1000000/\D aa<=1000000):HP [.agg [.int .i64 s,.X (l.map ae)],.agg [.int .i64 s2,.X (aa.map ae)]]=some (.same (dZ (mulR (s,l) (s2,aa)))):=(cz sb (s,l,s2,aa)).trans (cX H _)
theorem atA (T:bl)(fT:T lx=aQ xd)(uw:T Hj=aQ PM)(j9:T pG=aQ Cs)(tc:T vD=aQ Lx)(s:Int)(l:List Int)(s2:Int)(aa:List Int)(H:(D l)<=1000000/\D aa<=1000000):WP T VH (.same (dZ (mulR (s,l) (s2,aa)))) [.I (.agg [.int .i64 s,.X (l.map ae)]),.I (.agg [.int .i64 s2,.X (aa.map ae)])]:=by
 refine cD ?_;simp only[VH];obtain⟨bJ,bO⟩:=H
 by_cases Y:dj (s,l)=true
 ·by_cases a8:dj (s2,aa)=true
  ·obtain⟨x,M,e⟩:=(hM _).1 Y;obtain⟨y,aj,aB⟩:=(hM _).1 a8;have hm:mulR (s,l) (s2,aa)=o1 (x*y):=by rw[e,aB];exact uA M aj
   rw[hm];clear hm
   cases e
   cases aB;have G:=nO x;have J:=nO y;have aF:x.sign*y.sign=(x*y).sign:=(oz x y).symm;have af:=nO (x*y);have hw:IntKind.i64.wrap (x.sign*y.sign)=(x*y).sign:=by rw[aF];exact wrap64 _ (by omega) (by omega)
   have hmul:=Wu x.natAbs y.natAbs ⟨e4 (nN M) (by omega),e4 (nN aj) (by omega)⟩;simp only[cx] at hmul
   have hlen:(aP (x.natAbs*y.natAbs)).length<=1000000:=by
    refine e4 ((gC (k:=120)).2 ?_) (by omega);have:(1048576^120:Nat)=dQ*dQ:=by unfold dQ;rw[<-Nat.pow_add]
    rw[this];exact Nat.mul_lt_mul'' M aj
   have U:jn (x*y).sign (aP (x.natAbs*y.natAbs))=bf (x*y):=nM (tb x y) λ_=>rfl;refine ak ?_;repeat' (intro h<;>simp only[h,go_sem,go_sem_proc,fT,uw,j9,tc,Y,a8,bJ,bO,hw,hmul,hlen,U,xm,ck,dZ,pJ]<;>try refine ai ?_ ?_)
  ·have a8:dj (s2,aa)=false:=by simpa using a8
   have hm:mulR (s,l) (s2,aa)=((0,[]),1):=by unfold mulR;rw[a8,jB];rfl
   rw[hm];have qn:=HO false 0 [];simp only[cC] at qn;refine ak ?_;repeat' (intro h<;>simp only[h,go_sem,go_sem_proc,fT,uw,j9,tc,Y,a8,bJ,bO,qn,ck,dZ,cC]<;>try refine ai ?_ ?_)
 ·have Y:dj (s,l)=false:=by simpa using Y
  have hm:mulR (s,l) (s2,aa)=((0,[]),1):=by unfold mulR;rw[Y,eR];rfl
  rw[hm];have qn:=HO false 0 [];simp only[cC] at qn;refine ak ?_;repeat' (intro h<;>simp only[h,go_sem,go_sem_proc,fT,uw,j9,tc,Y,bJ,bO,qn,ck,dZ,cC]<;>try refine ai ?_ ?_)
def ky (a b:Raw):Raw×Int:=if (dj a&&dj b)=true then o1 (g6 a+g6 b) else ((0,[]),1)
theorem Lz {x y:Int}(M:x.natAbs<dQ)(aj:y.natAbs<dQ):ky (bf x) (bf y)=o1 (x+y):=by
 unfold ky;rw[kx M,kx aj,e8,e8]
 rfl
theorem HQ (a b:Nat):(aP (a-b)).length<=(aP a).length:=by
 rw[gC];exact uo (Nat.sub_le a b) (gC.1 (cH _))
def W4:=cn qm λ(s,l,s2,aa)=>cN (D l<=1000000/\D aa<=1000000) (.same (dZ (ky (s,l) (s2,aa))))
@[go_sem] theorem aJ9 (s:Int)(l:List Int)(s2:Int)(aa:List Int)(H:(D l)<=1000000/\D aa<=1000000):W4 [.agg [.int .i64 s,.X (l.map ae)],.agg [.int .i64 s2,.X (aa.map ae)]]=some (.same (dZ (ky (s,l) (s2,aa)))):=(cz sb (s,l,s2,aa)).trans (cX H _)
theorem atB (T:bl)(fT:T lx=aQ xd)(LA:T Vc=aQ Wh)(vQ:T KX=aQ PJ)(vR:T Hl=aQ PK)(ox:T Er=aQ Lg)(j9:T pG=aQ Cs)(tc:T vD=aQ Lx)(s:Int)(l:List Int)(s2:Int)(aa:List Int)(H:(D l)<=1000000/\D aa<=1000000):WP T VQ (.same (dZ (ky (s,l) (s2,aa)))) [.I (.agg [.int .i64 s,.X (l.map ae)]),.I (.agg [.int .i64 s2,.X (aa.map ae)])]:=by
 refine cD ?_;simp only[VQ];obtain⟨bJ,bO⟩:=H
 by_cases Y:dj (s,l)=true
 ·by_cases a8:dj (s2,aa)=true
  ·obtain⟨x,M,e⟩:=(hM _).1 Y;obtain⟨y,aj,aB⟩:=(hM _).1 a8;have hm:ky (s,l) (s2,aa)=o1 (x+y):=by rw[e,aB];exact Lz M aj
   rw[hm];clear hm
   cases e
   cases aB;have G:=nO x;have J:=nO y;have mv:=nN M;have mo:=nN aj;have HR:=HN x;have atC:=HN y
   have o2:(x.sign=1/\0<x)\/(x.sign=0/\x=0)\/(x.sign = -1/\x<0):=by
    rcases uv x 0 with h|h|h
    ·exact .inr (.inr ⟨nk h,h⟩)
    ·exact .inr (.inl ⟨by rw[h];rfl,h⟩)
    ·exact .inl ⟨g7 h,h⟩
   have ty:(y.sign=1/\0<y)\/(y.sign=0/\y=0)\/(y.sign = -1/\y<0):=by
    rcases uv y 0 with h|h|h
    ·exact .inr (.inr ⟨nk h,h⟩)
    ·exact .inr (.inl ⟨by rw[h];rfl,h⟩)
    ·exact .inl ⟨g7 h,h⟩
   have hN:=agD x.natAbs y.natAbs ⟨by omega,by omega⟩
   simp only[cx] at hN
   have hlen:(aP (x.natAbs+y.natAbs)).length<=1000000:=by
    refine e4 ((gC (k:=61)).2 ?_) (by omega);have:(1048576^61:Nat)=dQ*1048576:=by unfold dQ;rw[<-vB]
    omega
   have vL:=asp [x.sign,y.sign] (by simp);simp only[ey,cC,ae] at vL;have fs:=Wk x.natAbs y.natAbs ⟨by omega,by omega⟩
   simp only[cx] at fs
   by_cases aF:x.sign*y.sign>=0
   ·have hw:IntKind.i64.wrap (x.sign*y.sign)=x.sign*y.sign:=by
     rcases o2 with ⟨e,_⟩|⟨e,_⟩|⟨e,_⟩<;>rw[e]<;>exact wrap64 _ (by omega) (by omega)
    have U:jn (xc [x.sign,y.sign]) (aP (x.natAbs+y.natAbs))=bf (x+y):=by
     refine nM ?_ ?_
     ·rcases o2 with ⟨e,_⟩|⟨e,_⟩|⟨e,_⟩<;>rcases ty with ⟨e',_⟩|⟨e',_⟩|⟨e',_⟩<;>rw[e,e'] at aF<;>omega
     ·intro aM;rcases o2 with ⟨e,_⟩|⟨e,_⟩|⟨e,_⟩<;>rcases ty with ⟨e',_⟩|⟨e',_⟩|⟨e',_⟩<;>rw[e,e'] at aF ⊢
      ·exact (g7 (by omega)).symm
      ·exact (g7 (by omega)).symm
      ·omega
      ·exact (g7 (by omega)).symm
      ·omega
      ·exact (nk (by omega)).symm
      ·omega
      ·exact (nk (by omega)).symm
      ·exact (nk (by omega)).symm
    refine ak ?_;repeat' (intro (ay:_=_)<;>simp only[ay,go_sem,go_sem_proc,fT,LA,vQ,vR,ox,j9,tc,Y,a8,bJ,bO,hw,aF,decide_true,vL,hN,hlen,U,xm,ck,dZ,pJ]<;>try refine ai ?_ ?_)
   ·have hw:IntKind.i64.wrap (x.sign*y.sign)=x.sign*y.sign:=by
     rcases o2 with ⟨e,_⟩|⟨e,_⟩|⟨e,_⟩<;>rw[e]<;>exact wrap64 _ (by omega) (by omega)
    by_cases az:x.natAbs<y.natAbs
    ·have qo:decide (gl x.natAbs y.natAbs<0)=true:=by unfold gl;rw[ad (by simp;omega)];rfl
     have mY:=Ws y.natAbs x.natAbs ⟨by omega,by omega⟩
     simp only[cx] at mY;have EO:(aP (y.natAbs-x.natAbs)).length<=1000000:=e4 (HQ _ _) (by omega)
     have U:jn y.sign (aP (y.natAbs-x.natAbs))=bf (x+y):=by
      refine nM ?_ ?_
      ·rcases o2 with ⟨e,_⟩|⟨e,_⟩|⟨e,_⟩<;>rcases ty with ⟨e',_⟩|⟨e',_⟩|⟨e',_⟩<;>rw[e,e'] at aF<;>omega
      ·intro aM;rcases o2 with ⟨e,_⟩|⟨e,_⟩|⟨e,_⟩<;>rcases ty with ⟨e',_⟩|⟨e',_⟩|⟨e',_⟩<;>rw[e,e'] at aF<;>rw[e']<;>first|omega|exact (g7 (by omega)).symm|exact (nk (by omega)).symm
     refine ak ?_;repeat' (intro (ay:_=_)<;>simp only[ay,go_sem,go_sem_proc,fT,LA,vQ,vR,ox,j9,tc,Y,a8,bJ,bO,hw,aF,decide_false,fs,qo,mY,EO,U,xm,ck,dZ,pJ]<;>try refine ai ?_ ?_)
    ·have qo:decide (gl x.natAbs y.natAbs<0)=false:=by unfold gl;rw[ag (by simp;omega)];split<;>rfl
     have mY:=Ws x.natAbs y.natAbs ⟨by omega,by omega⟩
     simp only[cx] at mY;have EO:(aP (x.natAbs-y.natAbs)).length<=1000000:=e4 (HQ _ _) (by omega)
     have U:jn x.sign (aP (x.natAbs-y.natAbs))=bf (x+y):=by
      refine nM ?_ ?_
      ·rcases o2 with ⟨e,_⟩|⟨e,_⟩|⟨e,_⟩<;>rcases ty with ⟨e',_⟩|⟨e',_⟩|⟨e',_⟩<;>rw[e,e'] at aF<;>omega
      ·intro aM;rcases o2 with ⟨e,_⟩|⟨e,_⟩|⟨e,_⟩<;>rcases ty with ⟨e',_⟩|⟨e',_⟩|⟨e',_⟩<;>rw[e,e'] at aF<;>rw[e]<;>first|omega|exact (g7 (by omega)).symm|exact (nk (by omega)).symm
     refine ak ?_;repeat' (intro (ay:_=_)<;>simp only[ay,go_sem,go_sem_proc,fT,LA,vQ,vR,ox,j9,tc,Y,a8,bJ,bO,hw,aF,decide_false,fs,qo,mY,EO,U,xm,ck,dZ,pJ]<;>try refine ai ?_ ?_)
  ·have a8:dj (s2,aa)=false:=by simpa using a8
   have hm:ky (s,l) (s2,aa)=((0,[]),1):=by unfold ky;rw[a8,jB];rfl
   rw[hm];have qn:=HO false 0 [];simp only[cC] at qn;refine ak ?_;repeat' (intro (ay:_=_)<;>simp only[ay,go_sem,go_sem_proc,fT,LA,vQ,vR,ox,j9,tc,Y,a8,bJ,bO,qn,ck,dZ,cC]<;>try refine ai ?_ ?_)
 ·have Y:dj (s,l)=false:=by simpa using Y
  have hm:ky (s,l) (s2,aa)=((0,[]),1):=by unfold ky;rw[Y,eR];rfl
  rw[hm];have qn:=HO false 0 [];simp only[cC] at qn;refine ak ?_;repeat' (intro (ay:_=_)<;>simp only[ay,go_sem,go_sem_proc,fT,LA,vQ,vR,ox,j9,tc,Y,bJ,bO,qn,ck,dZ,cC]<;>try refine ai ?_ ?_)
theorem k2 (x:Int):(x.sign=1/\0<x)\/(x.sign=0/\x=0)\/(x.sign = -1/\x<0):=by
 rcases uv x 0 with h|h|h
 ·exact .inr (.inr ⟨nk h,h⟩)
 ·exact .inr (.inl ⟨by rw[h];rfl,h⟩)
 ·exact .inl ⟨g7 h,h⟩
def oA (a b:Raw):Int:=if (dj a&&dj b)=true then gl (g6 a) (g6 b) else 0
theorem LB {x y:Int}(M:x.natAbs<dQ)(aj:y.natAbs<dQ):oA (bf x) (bf y)=gl x y:=by
 unfold oA;rw[kx M,kx aj,e8,e8]
 rfl
theorem AG {x y:Int}(h:x<y):gl x y = -1:=by unfold gl;rw[ad (by simpa using h)]
theorem EP {x y:Int}(h:y<x):gl x y=1:=by unfold gl;rw[ag (by simp;omega),ad (by simpa using h)]
theorem HS (x:Int):gl x x=0:=by unfold gl;simp
def W5:=cn qm λ(s,l,s2,aa)=>cN (D l<=1000000/\D aa<=1000000) (.same (.int .i64 (oA (s,l) (s2,aa))))
@[go_sem] theorem aKa (s:Int)(l:List Int)(s2:Int)(aa:List Int)(H:(D l)<=1000000/\D aa<=1000000):W5 [.agg [.int .i64 s,.X (l.map ae)],.agg [.int .i64 s2,.X (aa.map ae)]]=some (.same (.int .i64 (oA (s,l) (s2,aa)))):=(cz sb (s,l,s2,aa)).trans (cX H _)
theorem atD (T:bl)(fT:T lx=aQ xd)(Aw:T Hm=aQ PG)(ox:T Er=aQ Lg)(s:Int)(l:List Int)(s2:Int)(aa:List Int)(H:(D l)<=1000000/\D aa<=1000000):WP T VL (.same (.int .i64 (oA (s,l) (s2,aa)))) [.I (.agg [.int .i64 s,.X (l.map ae)]),.I (.agg [.int .i64 s2,.X (aa.map ae)])]:=by
 refine cD ?_;simp only[VL];obtain⟨bJ,bO⟩:=H
 by_cases Y:dj (s,l)=true
 ·by_cases a8:dj (s2,aa)=true
  ·obtain⟨x,M,e⟩:=(hM _).1 Y;obtain⟨y,aj,aB⟩:=(hM _).1 a8;have hm:oA (s,l) (s2,aa)=gl x y:=by rw[e,aB];exact LB M aj
   rw[hm];clear hm
   cases e
   cases aB;have mv:=nN M;have mo:=nN aj;have fs:=Wk x.natAbs y.natAbs ⟨by omega,by omega⟩
   simp only[cx] at fs
   by_cases U:x.sign=y.sign
   ·have xn:(x.sign==y.sign)=true:=by simpa using U
    have ks:IntKind.i64.wrap (y.sign*gl x.natAbs y.natAbs)=gl x y:=by
     rcases k2 x with ⟨e,G⟩|⟨e,G⟩|⟨e,G⟩<;>rcases k2 y with ⟨e',J⟩|⟨e',J⟩|⟨e',J⟩<;>rw[e,e'] at U<;>first|omega|skip
     ·rw[e',ql,show (x.natAbs:Int)=x by omega,show (y.natAbs:Int)=y by omega]
      rcases uv x y with h|h|h
      ·rw[AG h];rfl
      ·rw[h,HS];rfl
      ·rw[EP h];rfl
     ·rw[e',G,J];rfl
     ·rw[e'];rcases uv x y with h|h|h
      ·rw[AG h,EP (by omega)];rfl
      ·rw[h,HS,HS];rfl
      ·rw[EP h,AG (by omega)];rfl
    rw[<-U] at ks;refine ak ?_;repeat' (intro (ay:_=_)<;>simp only[ay,go_sem,go_sem_proc,fT,Aw,ox,Y,a8,bJ,bO,xn,fs,ks]<;>try refine ai ?_ ?_)
   ·have xn:(x.sign==y.sign)=false:=by simpa using U
    have ks:gl x.sign y.sign=gl x y:=by
     rcases k2 x with ⟨e,G⟩|⟨e,G⟩|⟨e,G⟩<;>rcases k2 y with ⟨e',J⟩|⟨e',J⟩|⟨e',J⟩<;>rw[e,e'] at U ⊢<;>first|omega|(rw[AG (show x<y by omega)];rfl)|(rw[EP (show y<x by omega)];rfl)
    refine ak ?_;repeat' (intro (ay:_=_)<;>simp only[ay,go_sem,go_sem_proc,fT,Aw,ox,Y,a8,bJ,bO,xn,ks]<;>try refine ai ?_ ?_)
  ·have a8:dj (s2,aa)=false:=by simpa using a8
   have hm:oA (s,l) (s2,aa)=0:=by unfold oA;rw[a8,jB];rfl
   rw[hm];refine ak ?_;repeat' (intro (ay:_=_)<;>simp only[ay,go_sem,go_sem_proc,fT,Aw,ox,Y,a8,bJ,bO]<;>try refine ai ?_ ?_)
 ·have Y:dj (s,l)=false:=by simpa using Y
  have hm:oA (s,l) (s2,aa)=0:=by unfold oA;rw[Y,eR];rfl
  rw[hm];refine ak ?_;repeat' (intro (ay:_=_)<;>simp only[ay,go_sem,go_sem_proc,fT,Aw,ox,Y,bJ,bO]<;>try refine ai ?_ ?_)
def lB (a b:Raw):Raw×Int:=if (dj a&&dj b)=true then (bf (gU (g6 a).natAbs (g6 b).natAbs:Nat),0) else ((0,[]),1)
theorem HT {x y:Int}(M:x.natAbs<dQ)(aj:y.natAbs<dQ):gU x.natAbs y.natAbs<dQ:=by
 rcases ko x.natAbs with h|h
 ·rw[h,Nat.gcd_zero_left];exact aj
 ·exact uo (Nat.gcd_le_left _ h) M
def P3:=cn qm λ(s,l,s2,aa)=>cN (D l<=1000000/\D aa<=1000000) (.same (dZ (lB (s,l) (s2,aa))))
@[go_sem] theorem aKb (s:Int)(l:List Int)(s2:Int)(aa:List Int)(H:(D l)<=1000000/\D aa<=1000000):P3 [.agg [.int .i64 s,.X (l.map ae)],.agg [.int .i64 s2,.X (aa.map ae)]]=some (.same (dZ (lB (s,l) (s2,aa)))):=(cz sb (s,l,s2,aa)).trans (cX H _)
theorem atE (T:bl)(fT:T lx=aQ xd)(nj:T yR=aQ Ez)(xo:T KU=aQ PU)(j9:T pG=aQ Cs)(tc:T vD=aQ Lx)(s:Int)(l:List Int)(s2:Int)(aa:List Int)(H:(D l)<=1000000/\D aa<=1000000):WP T VG (.same (dZ (lB (s,l) (s2,aa)))) [.I (.agg [.int .i64 s,.X (l.map ae)]),.I (.agg [.int .i64 s2,.X (aa.map ae)])]:=by
 refine cD ?_;simp only[VG];obtain⟨bJ,bO⟩:=H
 by_cases Y:dj (s,l)=true
 ·by_cases a8:dj (s2,aa)=true
  ·obtain⟨x,M,e⟩:=(hM _).1 Y;obtain⟨y,aj,aB⟩:=(hM _).1 a8
   have hm:lB (s,l) (s2,aa)=(bf (gU x.natAbs y.natAbs:Nat),0):=by
    rw[e,aB];unfold lB
    rw[kx M,kx aj,e8,e8]
    rfl
   rw[hm];clear hm
   cases e
   cases aB;have mv:=nN M;have mo:=nN aj;have bz:=HT M aj;generalize ku:x.natAbs=bu at *;generalize LC:y.natAbs=g8 at *;have W6:(aP bu).length<=1000000:=by omega
   simp only[go_sem,go_sem_proc,fT,nj,Y,a8,bJ,bO];refine cU [4] [137004] (λ((a,b):Nat×Nat) tm mem=>a<dQ/\b<dQ/\gU bu g8=gU a b/\tm 6=.I (.X ((aP a).map ae))/\tm 7=.I (.X ((aP b).map ae))) (λ(_,b)=>b) (bu,g8) (by refine⟨M,aj,rfl,rfl,rfl⟩) ?_;intro vs ms aJ aH;simp only[go_sem,go_sem_proc] at aJ aH;subst aJ aH;rintro⟨a,b⟩ tm mem L hm ⟨aW,ah,xp,b0,bV⟩;simp only[go_sem,go_sem_proc,bk] at L hm;have aT:=L;have oq:(aP a).length<=60:=gC.2 aW;have r6:(aP b).length<=60:=gC.2 ah;rcases ko b with ax|iF
   ·subst ax;have a3:aP 0=[]:=rfl;have W7:(aP a).length<=1000000:=by omega
    rw[Nat.gcd_zero_right] at xp;have U:jn 1 (aP a)=bf ((a:Nat):Int):=nM (by simp) λaM=>(g7 (by omega)).symm;have L:o1 ((a:Nat):Int)=(bf ((a:Nat):Int),0):=by unfold o1;rw[ad (by simpa using aW)]
    rw[xp];refine ak ?_;repeat' (intro h<;>simp only[h,go_sem,go_sem_proc,fT,nj,xo,j9,tc,aT,b0,bV,hm,a3,W7,U,L,xm,ck,dZ,pJ,cC,nC,qg,qh,show ¬ ((0:Int)>0) by omega,decide_false]<;>try refine ai ?_ ?_)
   ·have b6:decide (((aP b).length:Int)>0)=true:=by
     have:aP b≠[]:=by rw[Ne,Ak];omega
     have:=LD.2 this;exact cT
    have hdiv:=ag7 a b ⟨by omega,by omega,iF⟩
    simp only[cx] at hdiv;refine ak ?_;repeat' (intro h<;>simp only[h,go_sem,go_sem_proc,fT,nj,xo,j9,tc,aT,b0,bV,hm,b6,hdiv,aE]<;>try refine ai ?_ ?_)
    exact⟨(b,a%b),oX _ iF,ah,uo (Nat.mod_le _ _) aW,by dsimp only;rw[xp,LF a b,Nat.gcd_rec b a,LF],rfl,rfl⟩
  ·have a8:dj (s2,aa)=false:=by simpa using a8
   have hm:lB (s,l) (s2,aa)=((0,[]),1):=by unfold lB;rw[a8,jB];rfl
   rw[hm];have qn:=HO false 0 [];simp only[cC] at qn;refine ak ?_;repeat' (intro h<;>simp only[h,go_sem,go_sem_proc,fT,nj,xo,j9,tc,Y,a8,bJ,bO,qn,ck,dZ,cC]<;>try refine ai ?_ ?_)
 ·have Y:dj (s,l)=false:=by simpa using Y
  have hm:lB (s,l) (s2,aa)=((0,[]),1):=by unfold lB;rw[Y,eR];rfl
  rw[hm];have qn:=HO false 0 [];simp only[cC] at qn;refine ak ?_;repeat' (intro h<;>simp only[h,go_sem,go_sem_proc,fT,nj,xo,j9,tc,Y,bJ,bO,qn,ck,dZ,cC]<;>try refine ai ?_ ?_)
def k3 (a b:Raw):Raw×Raw×Int :=
 if (dj a&&dj b)=true then
  if g6 b=0 then ((0,[]),(0,[]),15) else (bf ((g6 a).fdiv (g6 b)),bf ((g6 a).fmod (g6 b)),0)
 else ((0,[]),(0,[]),1)
def jH (x:Raw×Raw×Int):Data:=.c1 [.agg (ck x.1),.agg (ck x.2.1),.int .i64 x.2.2]
theorem ahA {x y q r:Int}(h:r+y*q=x)(Y:(0<=r/\r<y)\/(y<r/\r<=0)):x.fdiv y=q/\x.fmod y=r:=by
 rcases Y with ⟨G,J⟩|⟨G,J⟩
 ·exact (Int.fdiv_fmod_unique (by omega)).2 ⟨h,G,J⟩
 ·exact (Int.fdiv_fmod_unique' (by omega)).2 ⟨h,G,J⟩
theorem P4 {x y:Int}(h:x.sign*y.sign<0)(hm:x.natAbs%y.natAbs≠0):
  x.fdiv y = -((x.natAbs/y.natAbs+1:Nat):Int)/\x.fmod y=y.sign*((y.natAbs-x.natAbs%y.natAbs:Nat):Int):=by
 have J:=Pf x.natAbs y.natAbs;generalize fC:x.natAbs/y.natAbs=aZ at *;generalize hc:x.natAbs%y.natAbs=bU at *
 have aj:0<y.natAbs:=by
  rcases ko y.natAbs with ax|ax
  ·rw[Int.natAbs_eq_zero.1 ax] at h;simp at h
  ·exact ax
 have az:bU<y.natAbs:=by rw[<-hc];exact oX _ aj
 have wZ:(y.natAbs:Int)*aZ+bU=x.natAbs:=by exact_mod_cast J
 refine ahA ?_ ?_
 ·rcases k2 x with ⟨e,G⟩|⟨e,G⟩|⟨e,G⟩<;>rcases k2 y with ⟨e',af⟩|⟨e',af⟩|⟨e',af⟩<;>rw[e,e'] at h<;>first|omega|rw[e']
  ·rw[ahB (by omega),ahC,HF,iN];have:(y.natAbs:Int) = -y:=by omega
   rw[this] at wZ ⊢;rw[EM] at wZ;omega
  ·rw[ahB (by omega),ahC,HF,iN];have:(y.natAbs:Int)=y:=by omega
   rw[this] at wZ ⊢;omega
 ·rcases k2 y with ⟨e',af⟩|⟨e',af⟩|⟨e',af⟩<;>rw[e']<;>omega
theorem P5 {x y:Int}(aj:y≠0)(h:¬ (x.sign*y.sign<0/\x.natAbs%y.natAbs≠0)):
  x.fdiv y=x.sign*y.sign*((x.natAbs/y.natAbs:Nat):Int)/\x.fmod y=x.sign*((x.natAbs%y.natAbs:Nat):Int):=by
 have J:=Pf x.natAbs y.natAbs;have az:x.natAbs%y.natAbs<y.natAbs:=oX _ (by omega);generalize fC:x.natAbs/y.natAbs=aZ at *;generalize hc:x.natAbs%y.natAbs=bU at *;have wZ:(y.natAbs:Int)*aZ+bU=x.natAbs:=by exact_mod_cast J
 refine ahA ?_ ?_
 ·rcases k2 x with ⟨e,G⟩|⟨e,G⟩|⟨e,G⟩<;>rcases k2 y with ⟨e',af⟩|⟨e',af⟩|⟨e',af⟩<;>first|omega|(rw[e,e'])
  ·rw[show (y.natAbs:Int)=y by omega] at wZ;simp only[ql];omega
  ·rw[show (y.natAbs:Int) = -y by omega,EM] at wZ;simp only[ql,EM,HF];omega
  ·simp only[y1,yX];omega
  ·simp only[y1,yX];omega
  ·rw[show (y.natAbs:Int)=y by omega] at wZ;simp only[ql,EM,HF,r3];omega
  ·rw[show (y.natAbs:Int) = -y by omega,EM] at wZ;simp only[ql,EM,HF,Int.neg_neg];omega
 ·have atg:x.natAbs=0->bU=0:=by
   intro ax;rw[<-hc,ax,ahD]
  rcases k2 x with ⟨e,G⟩|⟨e,G⟩|⟨e,G⟩<;>rcases k2 y with ⟨e',af⟩|⟨e',af⟩|⟨e',af⟩<;>rw[e,e'] at h<;>rw[e]<;>omega
theorem HU {x y:Int}(M:x.natAbs<dQ)(jo:y≠0):(x.fdiv y).natAbs<dQ:=by
 by_cases h:x.sign*y.sign<0/\x.natAbs%y.natAbs≠0
 ·have aC:=(P4 h.1 h.2).1;have J:=Pf x.natAbs y.natAbs
  have:x.natAbs/y.natAbs+1<=x.natAbs:=by
   have ahE:2<=y.natAbs:=by
    rcases g2 y.natAbs 2 with ax|ax
    ·have:y.natAbs=1:=by omega
     rw[this,Nat.mod_one] at h;exact absurd rfl h.2
    ·exact ax
   have af:2*(x.natAbs/y.natAbs)<=y.natAbs*(x.natAbs/y.natAbs):=og _ ahE;omega
  generalize x.natAbs/y.natAbs=aZ at *;omega
 ·have aC:=(P5 jo h).1;have af:x.natAbs/y.natAbs<=x.natAbs:=ahF _ _
  have aT:(x.fdiv y).natAbs<=x.natAbs/y.natAbs:=by
   rw[aC,tb,tb,k4];have G:x.sign.natAbs<=1:=by have:=nO x;omega
   have J:y.sign.natAbs<=1:=by have:=nO y;omega
   have:=Nat.mul_le_mul G J;have:=og (x.natAbs/y.natAbs) this;omega
  omega
theorem ahG {x y:Int}(aj:y.natAbs<dQ)(jo:y≠0):(x.fmod y).natAbs<dQ:=by
 by_cases h:x.sign*y.sign<0/\x.natAbs%y.natAbs≠0
 ·have aC:=(P4 h.1 h.2).2;rcases k2 y with ⟨e',af⟩|⟨e',af⟩|⟨e',af⟩<;>rw[e'] at aC<;>omega
 ·have aC:=(P5 jo h).2;have az:x.natAbs%y.natAbs<y.natAbs:=oX _ (by omega);rcases k2 x with ⟨e',af⟩|⟨e',af⟩|⟨e',af⟩<;>rw[e'] at aC<;>omega
theorem AH {x y:Int}(M:x.natAbs<dQ)(aj:y.natAbs<dQ)(ax:y≠0):k3 (bf x) (bf y)=(bf (x.fdiv y),bf (x.fmod y),0):=by
 unfold k3;rw[kx M,kx aj,e8,e8,ad (by rfl),ag ax]
def P6:=cn qm λ(s,l,s2,aa)=>cN (D l<=1000000/\D aa<=1000000) (.same (jH (k3 (s,l) (s2,aa))))
@[go_sem] theorem aKc (s:Int)(l:List Int)(s2:Int)(aa:List Int)(H:(D l)<=1000000/\D aa<=1000000):P6 [.agg [.int .i64 s,.X (l.map ae)],.agg [.int .i64 s2,.X (aa.map ae)]]=some (.same (jH (k3 (s,l) (s2,aa)))):=(cz sb (s,l,s2,aa)).trans (cX H _)
theorem atF (T:bl)(fT:T lx=aQ xd)(xo:T KU=aQ PU)(vQ:T KX=aQ PJ)(vR:T Hl=aQ PK)(j9:T pG=aQ Cs)(s:Int)(l:List Int)(s2:Int)(aa:List Int)(H:(D l)<=1000000/\D aa<=1000000):WP T VK (.same (jH (k3 (s,l) (s2,aa)))) [.I (.agg [.int .i64 s,.X (l.map ae)]),.I (.agg [.int .i64 s2,.X (aa.map ae)])]:=by
 refine cD ?_;simp only[VK];obtain⟨bJ,bO⟩:=H
 by_cases Y:dj (s,l)=true
 ·by_cases a8:dj (s2,aa)=true
  ·obtain⟨x,M,e⟩:=(hM _).1 Y;obtain⟨y,aj,aB⟩:=(hM _).1 a8
   by_cases jo:y=0
   ·have hm:k3 (s,l) (s2,aa)=((0,[]),(0,[]),15):=by
     rw[e,aB];unfold k3
     rw[kx M,kx aj,e8,e8,ad (by rfl),ad jo]
    rw[hm]
    cases e
    cases aB;have ax:((y.sign:Int)==0)=true:=by rw[jo];rfl
    refine ak ?_;repeat' (intro (ay:_=_)<;>simp only[ay,go_sem,go_sem_proc,fT,xo,vQ,vR,j9,Y,a8,bJ,bO,ax,ck,jH,cC]<;>try refine ai ?_ ?_)
   ·have hm:k3 (s,l) (s2,aa)=(bf (x.fdiv y),bf (x.fmod y),0):=by
     rw[e,aB];exact AH M aj jo
    rw[hm];clear hm
    cases e
    cases aB;have mv:=nN M;have mo:=nN aj;have ER:(y.sign==0)=false:=by rw[beq_eq_false_iff_ne,Ne,Int.sign_eq_zero_iff_zero];exact jo
    have ES:0<y.natAbs:=by omega
    have G:=nO x;have J:=nO y;have aF:x.sign*y.sign=(x*y).sign:=(oz x y).symm;have af:=nO (x*y);have hw:IntKind.i64.wrap (x.sign*y.sign)=x.sign*y.sign:=by rw[aF];exact wrap64 _ (by omega) (by omega)
    have hdiv:=ag7 x.natAbs y.natAbs ⟨by omega,by omega,ES⟩
    simp only[cx] at hdiv;have bF:=HU (y:=y) M jo;have rb:=ahG (x:=x) aj jo;have W8:x.natAbs/y.natAbs<dQ:=uo (ahF _ _) M;have atG:(aP (x.natAbs/y.natAbs)).length<=60:=gC.2 W8;have AJ:x.natAbs%y.natAbs<dQ:=Nat.lt_trans (oX _ ES) aj;have atH:(aP (x.natAbs%y.natAbs)).length<=60:=gC.2 AJ
    by_cases uB:x.sign*y.sign<0/\x.natAbs%y.natAbs≠0
    ·obtain⟨eq,uC⟩:=P4 uB.1 uB.2
     have b6:decide (((aP (x.natAbs%y.natAbs)).length:Int)>0)=true:=by
      have:aP (x.natAbs%y.natAbs)≠[]:=by rw[Ne,Ak];exact uB.2
      have:=LD.2 this;exact cT
     have mr:decide (x.sign*y.sign<0)=true:=jw uB.1;have kt:aP 1=[1]:=by simp[aP,yL]
     have atI:(aP 1).length=1:=by rw[kt];rfl
     have hN:=agD (x.natAbs/y.natAbs) 1 ⟨by omega,by omega⟩
     simp only[cx,kt,ey,cC,ae] at hN;have mY:=Ws y.natAbs (x.natAbs%y.natAbs) ⟨by omega,Nat.le_of_lt (oX _ ES)⟩
     simp only[cx] at mY
     have oq:(aP (x.natAbs/y.natAbs+1)).length<=1000000:=by
      have:(x.natAbs/y.natAbs+1)<dQ:=by rw[eq] at bF;rw[xq,k4] at bF;exact bF
      have:=(gC (k:=60)).2 this;omega
     have r6:(aP (y.natAbs-x.natAbs%y.natAbs)).length<=1000000:=by have:=HQ y.natAbs (x.natAbs%y.natAbs);omega
     have iS:jn (-1) (aP (x.natAbs/y.natAbs+1))=bf (x.fdiv y):=nM (by rw[eq,xq,k4]) λ_=>by rw[eq,EN,g7 (show (0:Int)<((x.natAbs/y.natAbs+1:Nat):Int) by exact CG.2 (Nat.succ_pos _))]
     have nP:jn y.sign (aP (y.natAbs-x.natAbs%y.natAbs))=bf (x.fmod y):=by
      refine nM ?_ λaM=>?_
      ·rw[uC];rcases k2 y with ⟨e',af⟩|⟨e',af⟩|⟨e',af⟩<;>rw[e']<;>omega
      ·rw[uC,oz,AK,g7 (show (0:Int)<((y.natAbs-x.natAbs%y.natAbs:Nat):Int) by omega),r3]
     refine ak ?_;repeat' (intro (ay:_=_)<;>simp only[ay,go_sem,go_sem_proc,fT,xo,vQ,vR,j9,Y,a8,bJ,bO,ER,hw,hdiv,b6,mr,hN,mY,oq,r6,iS,nP,ae,aE,ck,jH,pJ]<;>try refine ai ?_ ?_)
    ·obtain⟨eq,uC⟩:=P5 jo uB
     have W9:(decide (x.sign*y.sign<0)=true/\decide (((aP (x.natAbs%y.natAbs)).length:Int)>0)=false)\/decide (x.sign*y.sign<0)=false:=by
      by_cases aM:x.sign*y.sign<0
      ·left
       have:x.natAbs%y.natAbs=0:=Decidable.not_not.1 λh=>uB ⟨aM,h⟩;rw[this];exact⟨jw aM,rfl⟩
      ·right;exact h7 aM
     have oq:(aP (x.natAbs/y.natAbs)).length<=1000000:=by omega
     have r6:(aP (x.natAbs%y.natAbs)).length<=1000000:=by omega
     have iS:jn (x.sign*y.sign) (aP (x.natAbs/y.natAbs))=bf (x.fdiv y):=by
      refine nM ?_ λaM=>?_
      ·rw[eq]
       have ET:∀aZ:Nat,(x=0->aZ=0)->(x.sign*y.sign*(aZ:Int)).natAbs=aZ:=by
        intro aZ ax;rcases k2 x with ⟨e,G⟩|⟨e,G⟩|⟨e,G⟩<;>rcases k2 y with ⟨e',af⟩|⟨e',af⟩|⟨e',af⟩<;>rw[e,e']<;>first|omega|(rw[ax G];rfl)
       exact ET _ λax=>by rw[ax];exact Nat.zero_div _
      ·rw[eq,aF,oz,oz,oz,AK,AK,g7 (show (0:Int)<((x.natAbs/y.natAbs:Nat):Int) from CG.2 (Hf aM)),r3]
     have nP:jn x.sign (aP (x.natAbs%y.natAbs))=bf (x.fmod y):=by
      refine nM ?_ λaM=>?_
      ·rw[uC]
       have ET:∀aZ:Nat,(x=0->aZ=0)->(x.sign*(aZ:Int)).natAbs=aZ:=by
        intro aZ ax;rcases k2 x with ⟨e,G⟩|⟨e,G⟩|⟨e,G⟩<;>rw[e]<;>first|omega|(rw[ax G];rfl)
       exact ET _ λax=>by rw[ax];exact ahD _
      ·rw[uC,oz,AK,g7 (show (0:Int)<((x.natAbs%y.natAbs:Nat):Int) from CG.2 (Hf aM)),r3]
     rcases W9 with ⟨EU,Xa⟩|EU
     ·refine ak ?_;repeat' (intro (ay:_=_)<;>simp only[ay,go_sem,go_sem_proc,fT,xo,vQ,vR,j9,Y,a8,bJ,bO,ER,hw,hdiv,EU,Xa,oq,r6,iS,nP,ae,aE,ck,jH,pJ]<;>try refine ai ?_ ?_)
     ·refine ak ?_;repeat' (intro (ay:_=_)<;>simp only[ay,go_sem,go_sem_proc,fT,xo,vQ,vR,j9,Y,a8,bJ,bO,ER,hw,hdiv,EU,oq,r6,iS,nP,ae,aE,ck,jH,pJ]<;>try refine ai ?_ ?_)
  ·have a8:dj (s2,aa)=false:=by simpa using a8
   have hm:k3 (s,l) (s2,aa)=((0,[]),(0,[]),1):=by unfold k3;rw[a8,jB];rfl
   rw[hm];refine ak ?_;repeat' (intro (ay:_=_)<;>simp only[ay,go_sem,go_sem_proc,fT,xo,vQ,vR,j9,Y,a8,bJ,bO,ck,jH,cC]<;>try refine ai ?_ ?_)
 ·have Y:dj (s,l)=false:=by simpa using Y
  have hm:k3 (s,l) (s2,aa)=((0,[]),(0,[]),1):=by unfold k3;rw[Y,eR];rfl
  rw[hm];refine ak ?_;repeat' (intro (ay:_=_)<;>simp only[ay,go_sem,go_sem_proc,fT,xo,vQ,vR,j9,Y,bJ,bO,ck,jH,cC]<;>try refine ai ?_ ?_)
def dr (n:Int):Prop:=-9223372036854775808<=n/\n<=9223372036854775807
theorem atJ {n:Nat}(h:n<=9223372036854775808):n<dQ:=by
 unfold dQ;refine DO (m:=1048576^4) ?_ (nK (by omega) (by omega));omega
theorem td {n:Int}(h:dr n):n.natAbs<dQ:=atJ (by unfold dr at h;omega)
theorem Xb (n:Int)(G:-18446744073709551616<=n)(J:n<0):IntKind.u64.wrap n=n+18446744073709551616:=by
 unfold IntKind.wrap;simp[IntKind.bits,IntKind.signed];omega
def Xc:=cn xb λ(n:Int)=>cN (dr n) (.same (.agg (ck (bf n))))
@[go_sem] theorem aKd (n:Int)(H:dr n):Xc [.int .i64 n]=some (.same (.agg (ck (bf n)))):=(cz At n).trans (cX H _)
theorem atK (T:bl)(j9:T pG=aQ Cs)(n:Int)(H:dr n):WP T VI (.same (.agg (ck (bf n)))) [.I (.int .i64 n)]:=by
 refine cD ?_;simp only[VI];have kV:=H;unfold dr at kV;obtain⟨wT,vo⟩:=kV;have U:∀s:Int,(n≠0->s=n.sign)->jn s (aP n.natAbs)=bf n:=λs h=>nM rfl λb6=>h (by omega);have hlen:(aP n.natAbs).length<=60:=gC.2 (td H);rcases dc (n<0) with mr|iF
 ·have hw:=Xb n (by omega) mr
  have hz:IntKind.u64.wrap (0-(n+18446744073709551616))=(n.natAbs:Int):=by
   rw[Xb _ (by omega) (by omega)];omega
  simp only[go_sem,go_sem_proc,mr,hw,hz,decide_true];refine cU [2,3] [150002] (λ((u,g,l):Nat×Nat×List Int) tm mem=>u<=9223372036854775808/\aP n.natAbs=l++aP u/\tm 4=.I (.int .u64 u)/\tm 5=.ref 150021 g 1 0 (D l)/\mem 150021=some (g,aV ae l)) (λ(u,_)=>u) (n.natAbs,0,[]) (by refine⟨by omega,rfl,?_,rfl,rfl⟩;rfl) ?_;intro vs ms aJ aH;simp only[go_sem,go_sem_proc] at aJ aH;subst aJ aH;rintro⟨u,g,l⟩ tm mem L hm ⟨hu,ab,aT,bx,te⟩;simp only[go_sem,go_sem_proc,bk] at L hm;obtain⟨J,af⟩:=L;rcases ko u with ax|nL
  ·subst ax;rw[ug,gS] at ab;rw[ab] at U hlen;have CH:(D l)<=1000000:=by omega
   have jS:=U (-1) (λ_=>by exact (nk mr).symm);refine ak ?_;repeat' (intro (ay:_=_)<;>simp only[ay,go_sem,go_sem_proc,j9,J,af,aT,bx,hm,te,jS,CH,ck,qg,qh,aE,show ¬ ((0:Int)>0) by omega,decide_false,oW jD,nQ]<;>try refine ai ?_ ?_)
  ·have AA:(D l)<=60:=by
    have:=congrArg D ab;rw[fX] at this;omega
   have hL:decide ((u:Int)>0)=true:=cT;have dv:∀a:Int,kS 150021 g 1 (D l) 8 1 [.I (.int .i64 a)] (some (g,aV ae l))=_:=λa=>jm jD yM 150021 g 8 l a rfl (by omega) (by omega);have hand:=ago u ⟨by omega,by omega⟩
   have Xd:IntKind.i64.wrap ((u:Int)%1048576)=(u:Int)%1048576:=wrap64 _ (by omega) (by omega);refine ak ?_;repeat' (intro (ay:_=_)<;>simp only[ay,go_sem,go_sem_proc,j9,J,af,aT,bx,hm,te,hL,dv,hand,Xd,w9,show ((20:Int)<0)=False from by simp,if_false,aE,bk]<;>try refine ai ?_ ?_)
   refine⟨(u/1048576,g+1,l++[(u:Int)%1048576]),by dsimp only;omega,by dsimp only;omega,by dsimp only;rw[gT,ab,vA nL];rfl,by first|rfl|(dsimp only;rw[An _ ⟨by omega,by omega⟩];rfl),by simp,by simp[go_sem]⟩
 ·have hw:IntKind.u64.wrap n=(n.natAbs:Int):=by rw[An _ ⟨by omega,by omega⟩];omega
  simp only[go_sem,go_sem_proc,iF,hw,decide_false];refine cU [2,3] [150002] (λ((u,g,l):Nat×Nat×List Int) tm mem=>u<=9223372036854775808/\aP n.natAbs=l++aP u/\tm 4=.I (.int .u64 u)/\tm 5=.ref 150021 g 1 0 (D l)/\mem 150021=some (g,aV ae l)) (λ(u,_)=>u) (n.natAbs,0,[]) (by refine⟨by omega,rfl,?_,rfl,rfl⟩;rfl) ?_;intro vs ms aJ aH;simp only[go_sem,go_sem_proc] at aJ aH;subst aJ aH;rintro⟨u,g,l⟩ tm mem L hm ⟨hu,ab,aT,bx,te⟩;simp only[go_sem,go_sem_proc,bk] at L hm;obtain⟨J,af⟩:=L;rcases ko u with ax|nL
  ·subst ax;rw[ug,gS] at ab;rw[ab] at U hlen;have CH:(D l)<=1000000:=by omega
   have jS:=U 1 (λ_=>by exact (g7 (by omega)).symm);refine ak ?_;repeat' (intro (ay:_=_)<;>simp only[ay,go_sem,go_sem_proc,j9,J,af,aT,bx,hm,te,jS,CH,ck,qg,qh,aE,show ¬ ((0:Int)>0) by omega,decide_false,oW jD,nQ]<;>try refine ai ?_ ?_)
  ·have AA:(D l)<=60:=by
    have:=congrArg D ab;rw[fX] at this;omega
   have hL:decide ((u:Int)>0)=true:=cT;have dv:∀a:Int,kS 150021 g 1 (D l) 8 1 [.I (.int .i64 a)] (some (g,aV ae l))=_:=λa=>jm jD yM 150021 g 8 l a rfl (by omega) (by omega);have hand:=ago u ⟨by omega,by omega⟩
   have Xd:IntKind.i64.wrap ((u:Int)%1048576)=(u:Int)%1048576:=wrap64 _ (by omega) (by omega);refine ak ?_;repeat' (intro (ay:_=_)<;>simp only[ay,go_sem,go_sem_proc,j9,J,af,aT,bx,hm,te,hL,dv,hand,Xd,w9,show ((20:Int)<0)=False from by simp,if_false,aE,bk]<;>try refine ai ?_ ?_)
   refine⟨(u/1048576,g+1,l++[(u:Int)%1048576]),by dsimp only;omega,by dsimp only;omega,by dsimp only;rw[gT,ab,vA nL];rfl,by first|rfl|(dsimp only;rw[An _ ⟨by omega,by omega⟩];rfl),by simp,by simp[go_sem]⟩
end Go.Mini
