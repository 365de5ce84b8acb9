/- A part of the proof. -/
import Derived.Laws.BitsLemmas
import Derived.ChangeSame
import Derived.Handed
import Derived.JoinedOf
import Derived.JoinedCond
import Derived.OpenShut
import Derived.ProofKit
import Derived.Test.YtgpioapepokkbaaGreatM01
set_option linter.unusedSimpArgs false
set_option linter.unusedVariables false
set_option linter.defProp false
set_option maxRecDepth 100000
set_option maxHeartbeats 4000000
noncomputable section
open Bool renaming and_eq_true->fC,and_false->iS,and_true->te,false_and->e9,false_eq_true->k1,false_or->uu,not_false->cA,not_true->b3,or_false->lT,or_true->se,true_and->fN,true_or->ur
open Classical renaming choose->z3,choose_spec->qo
open Decidable renaming em->dn
open Int renaming add_comm->Ai,add_mul->vR,add_mul_ediv_left->ahP,add_mul_emod_self_left->ahR,add_zero->rr,bmod_def->agR,cast_ofNat_Int->rp,ediv_eq_zero_of_lt->ZA,ediv_lt_of_lt_mul->ahS,ediv_nonneg->GP,emod_add_mul_ediv->D0,emod_emod_of_dvd->agS,emod_eq_of_lt->ZB,emod_lt_of_pos->ZD,emod_nonneg->JL,fdiv_eq_ediv_of_nonneg->Yu,le_of_lt->Z8,lt_trichotomy->uK,mul_add->jI,mul_assoc->jJ,mul_comm->oB,mul_le_mul->JG,mul_le_mul_of_nonneg_left->xg,mul_le_mul_of_nonneg_right->mm,mul_left_comm->ZE,mul_neg->JM,mul_nonneg->sl,mul_one->tf,mul_right_comm->Ea,mul_sub->JF,mul_zero->Ak,natAbs_mul->tp,natAbs_natCast->m5,natAbs_neg->An,natCast_add->aiC,natCast_ediv->Zz,natCast_emod->ahQ,natCast_mul->aia,natCast_pos->Eh,natCast_pow->GQ,natCast_zero->qx,neg_mul->GX,ofNat_sub->aiB,one_mul->tl,pow_add->ahN,pow_pos->Od,pow_succ->oA,reducePow->aiJ,sign_eq_neg_one_of_neg->nG,sign_eq_one_of_pos->hn,sign_mul->o9,sign_mul_natAbs->JT,sign_neg->GY,sign_sign->Cp,sign_trichotomy->Oj,sub_mul->ah3,sub_zero->D4,tdiv_eq_ediv_of_nonneg->Cf,tmod_eq_emod_of_nonneg->N2,toNat->Gl,toNat_natCast->gK,zero_add->JK,zero_mul->xu
open List renaming all_cons->vx,all_eq_true->nt,append_assoc->g8,append_inj->JA,append_nil->hD,concat_eq_append->BX,cons_append->m1,drop->hl,drop_append->qq,drop_drop->I8,drop_eq_getElem_cons->je,drop_eq_nil_of_le->lM,drop_left->Yg,drop_length->Yj,drop_set_of_lt->vC,drop_zero->o0,eq_nil_of_length_eq_zero->vu,eq_nil_or_concat->BW,flatMap_cons->r8,flatten_cons->l8,getElem?_append->IV,getElem?_drop->q6,getElem?_eq_getElem->bh,getElem?_eq_some_iff->dV,getElem?_map->bm,getElem_mem->mh,getElem_set_self->Cc,length->D,length_append->gC,length_cons->lJ,length_drop->oz,length_map->al,length_nil->o2,length_pos_iff->Eg,length_range->td,length_set->ie,length_take->gP,mapM_cons->ns,map_cons->eE,map_nil->bY,mem_append->jH,mem_cons->n2,mem_flatMap->zY,mem_iff_getElem?->r9,mem_map->gm,mem_of_getElem?->dy,mem_of_mem_drop->JO,mem_of_mem_take->yo,mem_range->ig,mem_replicate->JH,mem_singleton->yK,nil_append->jE,range->eM,replicate->ef,replicate_succ->um,take->gT,take_add_one->hZ,take_append_drop->DM,take_left->Yf,take_length->pb,take_of_length_le->dD,take_succ_cons->Dx,take_zero->nw
open List.cons renaming inj->yI,injEq->bj
open Nat renaming add_assoc->vn,add_mul->rW,add_sub_cancel_left->Jh,add_zero->lO,and_two_pow_sub_one_eq_mod->agT,div_add_mod->Sh,div_eq_of_lt->Yi,div_le_self->aiF,div_lt_iff_lt_mul->agQ,eq_zero_or_pos->kO,gcd->hG,gcd_comm->Oq,le_of_lt->Ou,le_refl->cl,le_trans->eR,lt_of_le_of_lt->vQ,lt_of_lt_of_le->FG,lt_or_ge->hO,min_eq_left->pF,mod_eq_of_lt->Nk,mod_lt->pL,mul_comm->vJ,mul_le_mul_left->aic,mul_le_mul_right->ui,mul_one->dZ,pos_of_ne_zero->Jk,pow_le_pow_right->yL,pow_succ->xa,reduceMul->aiI,strongRecOn->MW,zero_add->q4,zero_le->fL,zero_mod->aiD,zero_mul->Sg
open Option renaming bind_eq_bind->h9,bind_eq_some_iff->eS,bind_some->qk,map_eq_some_iff->eL,pure_def->hX
open Option.some renaming inj->nu,injEq->cF
open Prod renaming ext->et,ext_iff->Ad
open Prod.mk renaming injEq->fq
open Rat renaming divInt->mJ,neg_divInt_neg->aiV
namespace Go.Mini
open Go
def Nc {ι:Type}(T:ba)(hz:List Nat)(oy:List Key)(vs:List M)(ms:List (Option (Nat×List M)))(dA:ι->(Nat->M)->Mem->Prop)(m:ι->Nat)(i:ι)(K:eK->bc->Prop)(k:List fT):eK->bc->Prop
 |.normal,st=>∃bn,m bn<m i/\hz.map st.tm=vs/\oy.map st.mem=ms/\dA bn st.tm st.mem
 |.exit id,st=>cg T K k (.exit id) st
 |.ret,st=>cg T K k .ret st
section
variable {ι:Type} (T:ba) (hz:List Nat) (oy:List Key) (vs:List M) (ms:List (Option (Nat×List M))) (dA:ι->(Nat->M)->Mem->Prop) (m:ι->Nat) (i:ι) (K:eK->bc->Prop) (k:List fT)
@[go_sem] def aNB (id:Nat)(st:bc):Nc T hz oy vs ms dA m i K k (.exit id) st=cg T K k (.exit id) st:=bE
@[go_sem] def aNC (st:bc):Nc T hz oy vs ms dA m i K k .ret st=cg T K k .ret st:=bE
@[go_sem] def aND (st:bc):Nc T hz oy vs ms dA m i K k .normal st=∃bn,m bn<m i/\hz.map st.tm=vs/\oy.map st.mem=ms/\dA bn st.tm st.mem:=bE
end
def dd {ι:Type}{T:ba}{K:eK->bc->Prop}{k:List fT}{Jc:Nat->M}{ep:Mem}{c:er}(hz:List Nat)(oy:List Key)(dA:ι->(Nat->M)->Mem->Prop)(m:ι->Nat)(i0:ι)(ay:dA i0 Jc ep)
  (h:∀vs ms,hz.map Jc=vs->oy.map ep=ms->∀i tm mem,hz.map tm=vs->oy.map mem=ms->dA i tm mem->wp T c (cg T (Nc T hz oy vs ms dA m i K k) []) ⟨tm,mem⟩) :
  wp T (.loop c) (cg T K k) ⟨Jc,ep⟩:=by
 refine avb (λi st=>hz.map st.tm=hz.map Jc/\oy.map st.mem=oy.map ep/\dA i st.tm st.mem) m i0 ⟨rfl,rfl,ay⟩ ?_;rintro i ⟨tm,mem⟩ ⟨F,G,ab⟩;have:=h _ _ rfl rfl i tm mem F G ab
 have I:cg T (Nc T hz oy (hz.map Jc) (oy.map ep) dA m i K k) []=cg T (Jb T (λi (st:bc)=>hz.map st.tm=hz.map Jc/\oy.map st.mem=oy.map ep/\dA i st.tm st.mem) m i K k) []:=by
  funext e eC
  cases e<;>rfl
 rw[I] at this;exact this
def wp_mono {T:ba}:∀(c:er) (K kv:eK->bc->Prop),(∀e st,K e st->kv e st)->∀st,wp T c K st->wp T c kv st:=by
 intro c
 induction c with
 |skip=>exact λK kv h st=>h _ _
 |ops l =>
  intro K kv h st hw
  have:∀(l:List cN) (K kv:bc->Prop),(∀st,K st->kv st)->∀st,zL T K l st->zL T kv l st:=by
   intro l
   induction l with
   |nil=>exact λK kv h st=>h st
   |cons i r aG =>
    intro K kv h st hw;unfold zL at hw ⊢
    split
    ·rename_i bb;rw[bb] at hw;exact hw
    ·rename_i g bb;rw[bb] at hw;simp only at hw ⊢
     split
     ·rename_i iz;rw[Y iz] at hw
      have s6:∀(K kv:bc->Prop),(∀st,K st->kv st)->g5 T K i st->g5 T kv i st:=by
       intro K kv h hw
       have J:∀d f args,wV T K st d f args->wV T kv st d f args:=by
        intro d f args hw;unfold wV at hw ⊢
        split
        ·rename_i a1;rw[a1] at hw;exact h _ hw
        ·rename_i a1;rw[a1] at hw;exact h _ hw
        ·rename_i a1;rw[a1] at hw;exact λr mem' X=>h _ (hw r mem' X)
        ·rename_i a1;rw[a1] at hw;exact h _ hw
        ·rename_i a1;rw[a1] at hw;exact h _ hw
        ·rename_i a1;rw[a1] at hw;exact hw
       unfold g5 at hw ⊢
       split
       ·rename_i a1;rw[a1] at hw;exact J _ _ _ hw
       ·rename_i a1;rw[a1] at hw
        simp only at hw
        split
        ·rename_i qd;rw[qd] at hw
         simp only at hw
         split
         ·rename_i R;rw[Y R] at hw;exact h _ hw
         ·rename_i R;rw[aa R] at hw;exact hw
        ·rename_i qd
         split at hw
         ·rename_i eX es X8;exact (qd eX es X8).elim
         ·exact hw
       ·rename_i a1;rw[a1] at hw
        simp only at hw
        split
        ·rename_i qd;rw[qd] at hw;exact J _ _ _ hw
        ·rename_i qd;rw[qd] at hw;exact J _ _ _ hw
        ·rename_i qd X8
         split at hw
         ·rename_i X9;exact (qd _ _ X9).elim
         ·rename_i X9;exact (X8 _ _ X9).elim
         ·exact hw
       ·rename_i a1;rw[a1] at hw
        simp only at hw
        split
        ·rename_i qd;rw[qd] at hw;exact λb ad=>h _ (hw b ad)
        ·rename_i qd;rw[qd] at hw;exact hw
       ·rename_i F G ab aV
        split at hw
        ·rename_i a1;exact (F _ _ a1).elim
        ·rename_i a1;exact (G _ _ _ _ a1).elim
        ·rename_i a1;exact (ab _ _ a1).elim
        ·rename_i a1;exact (aV _ _ a1).elim
        ·split
         ·rename_i a1;rw[a1] at hw;exact h _ hw
         ·rename_i a1;rw[a1] at hw;exact hw
      exact s6 _ _ (aG _ _ h) hw
     ·rename_i iz;rw[aa iz] at hw;exact aG _ _ h _ hw
  exact this l _ _ (λst=>h .normal st) st hw
 |l9 l c =>
  intro K kv h st hw
  have:∀(l:List cN) (n:Nat) (cs:List (List Nat)) (rec:Rec) (K kv:bc->Prop),(∀st,K st->kv st)->∀st,yl T K n l cs rec st->yl T kv n l cs rec st:=by
   intro l
   induction l with
   |nil=>exact λn cs rec K kv h st=>h st
   |cons i r aG =>
    intro n cs rec K kv h st hw;unfold yl at hw ⊢
    split
    ·rename_i bb;rw[bb] at hw;exact hw
    ·rename_i g bb;rw[bb] at hw;simp only at hw ⊢
     split
     ·rename_i iz;rw[Y iz] at hw
      split
      ·rename_i m e R;rw[R] at hw;exact⟨hw.1,aG _ _ _ _ _ h _ hw.2⟩
      ·rename_i R;rw[R] at hw;exact hw
     ·rename_i iz;rw[aa iz] at hw;exact aG _ _ _ _ _ h _ hw
  exact this l 0 c _ _ _ (λst=>h .normal st) st hw
 |seq a b iha ihb =>
  intro K kv h st hw;refine iha _ _ (λe eC a1=>?_) st hw
  cases e with
  |normal=>exact ihb _ _ h _ a1
  |exit id=>exact h _ _ a1
  |ret=>exact h _ _ a1
 |cond c a b iha ihb =>
  intro K kv h st hw;unfold wp at hw ⊢
  split
  ·rename_i t J;rw[J] at hw;simp only at hw
   split
   ·rename_i b0;rw[Y b0] at hw;exact iha _ _ h _ hw
   ·rename_i b0;rw[aa b0] at hw;exact ihb _ _ h _ hw
  ·rename_i L
   split at hw
   ·rename_i J;exact (L _ J).elim
   ·exact hw
 |block id c aG =>
  intro K kv h st hw;refine aG _ _ (λe eC a1=>?_) st hw
  cases e with
  |normal=>exact h _ _ a1
  |exit j =>
   simp only at a1 ⊢
   split
   ·rename_i ae;rw[Y ae] at a1;exact h _ _ a1
   ·rename_i ae;rw[aa ae] at a1;exact h _ _ a1
  |ret=>exact h _ _ a1
 |loop c aG =>
  intro K kv h st hw;obtain⟨s3,μ,ay,Na⟩:=hw;refine⟨s3,μ,ay,λst da=>aG _ _ (λe eC a1=>?_) _ (Na st da)⟩
  cases e with
  |normal=>exact a1
  |exit id=>exact h _ _ a1
  |ret=>exact h _ _ a1
 |exit id=>exact λK kv h st=>h _ _
 |ret=>exact λK kv h st=>h _ _
 |ghost g c aG =>
  intro K kv h st hw
  have:∀(K kv:bc->Prop),(∀st,K st->kv st)->lp K st g->lp kv st g:=by
   intro K kv h hw;unfold lp at hw
   repeat' split at hw
   all_goals first
    |exact hw.elim
    |exact⟨hw.choose,hw.choose_spec.1,h _ hw.choose_spec.2⟩
    |(
      rcases hw with hw|⟨fR,gI,gJ,i,k,g,sz,off,len,cs,k',F,G,ab,aV,bu,bX,hw⟩|⟨fR,gI,gJ,i,k,g,sz,off,len,cs,d,F,G,ab,aV,bu,bX,hw⟩
      ·exact .inl (h _ hw)
      ·exact .inr (.inl ⟨fR,gI,gJ,i,k,g,sz,off,len,cs,k',F,G,ab,aV,bu,bX,h _ hw⟩)
      ·exact .inr (.inr ⟨fR,gI,gJ,i,k,g,sz,off,len,cs,d,F,G,ab,aV,bu,bX,h _ hw⟩))
    |(
      have cn:=h _ hw;clear hw h;unfold lp
      simp_all)
  exact this _ _ (aG _ _ h) hw
def Jd (T:ba)(K:eK->bc->Prop)(k:List fT)(aR:bc->Prop):eK->bc->Prop
 |.normal,st=>aR st
 |.exit id,st=>cg T K k (.exit id) st
 |.ret,st=>cg T K k .ret st
@[go_sem] def aNE {T:ba}{K:eK->bc->Prop}{k:List fT}{aR:bc->Prop}(st:bc):Jd T K k aR .normal st=aR st:=bE
@[go_sem] def aNF {T:ba}{K:eK->bc->Prop}{k:List fT}{aR:bc->Prop}(id:Nat)(st:bc):Jd T K k aR (.exit id) st=cg T K k (.exit id) st:=bE
@[go_sem] def aNG {T:ba}{K:eK->bc->Prop}{k:List fT}{aR:bc->Prop}(st:bc):Jd T K k aR .ret st=cg T K k .ret st:=bE
def agy {T:ba}{K:eK->bc->Prop}{k:List fT}{c a:er}{st:bc}(aR:bc->Prop)(aZ:wp T a (cg T (Jd T K k aR) []) st)(J:∀eC,aR eC->wp T c (cg T K k) eC):wp T a (cg T K (.code c::k)) st:=by
 refine wp_mono a _ _ (λe eC a1=>?_) st aZ
 cases e with
 |normal=>exact J eC a1
 |exit id=>exact a1
 |ret=>exact a1
def avj {T:ba}{K:eK->bc->Prop}{k:List fT}{x:Bool}{c a b:er}{st:bc}(aR:bc->Prop)(aZ:x=true->wp T a (cg T (Jd T K k aR) []) st)(ad:x=false->wp T b (cg T (Jd T K k aR) []) st)
  (J:∀eC,aR eC->wp T c (cg T K k) eC):r5 T K (.code c::k) (.H (.bool x)) a b st:=by
 cases x
 ·rw[at2];exact agy aR (ad rfl) J
 ·rw[at1];exact agy aR (aZ rfl) J
attribute [go_sem] beq_true beq_false Bool.true_beq Bool.false_beq l8 List.flatten_nil hD List.headD_cons List.headD_nil List.tail_cons List.tail_nil List.contains_nil List.contains_cons Bool.not_eq_true'
section
variable {T:ba} {K:eK->bc->Prop} {k:List fT} {st:bc}
@[go_sem] def aNH (g:Ru)(c:er):wp T (.ghost g c) (cg T K k) st=lp (wp T c (cg T K k)) st g:=bE
def Ya (K:bc->Prop)(st:bc)(s k sz:Nat):M->Prop
 |.nil=>K ⟨dK st.tm s (.ref k (ca st.mem k) sz 0 0),a5 st.mem k (ca st.mem k) []⟩
 |_=>False
@[go_sem] def aNI (K:bc->Prop)(s k sz:Nat):lp K st (.nq s k sz)=Ya K st s k sz (st.tm s):=by
 unfold lp Ya;rfl
@[go_sem] def aNJ (K:bc->Prop)(s k sz:Nat):Ya K st s k sz .nil=K ⟨dK st.tm s (.ref k (ca st.mem k) sz 0 0),a5 st.mem k (ca st.mem k) []⟩:=bE
end
section
variable {K:bc->Prop} {st:bc}
def avk (h:K st):lp K st .move:=.inl h
def avl (fR i k k':Nat){gI:Nat}{gJ:List M}{g sz off len:Nat}{cs:List M}(F:st.mem fR=some (gI,gJ))(G:gJ[i]?=some (.ref k g sz off len))(ab:st.mem k=some (g,cs))(aV:k≠fR)(bu:k'≠k)(bX:k'≠fR)
  (h:K ⟨st.tm,a5 (a5 (a5 st.mem k (ca st.mem k) []) k' (ca st.mem k') cs) fR gI (gJ.set i (.ref k' (ca st.mem k') sz off len))⟩):lp K st .move :=
 .inr (.inl ⟨fR,gI,gJ,i,k,g,sz,off,len,cs,k',F,G,ab,aV,bu,bX,h⟩)
def avm (fR i k:Nat){gI:Nat}{gJ:List M}{g sz off len:Nat}{cs:List M}{d:Data}(F:st.mem fR=some (gI,gJ))(G:gJ[i]?=some (.ref k g sz off len))(ab:st.mem k=some (g,cs))(aV:uc cs=true)(bu:k≠fR)(bX:cV 1 st.mem (.ref k g sz off len)=some d)
  (h:K ⟨st.tm,a5 (kill st.mem k) fR gI (gJ.set i (.H d))⟩):lp K st .move :=
 .inr (.inr ⟨fR,gI,gJ,i,k,g,sz,off,len,cs,d,F,G,ab,aV,bu,bX,h⟩)
def Nd (K:bc->Prop)(st:bc)(s k g sz off len:Nat):Option (Nat×List M)->Prop
 |some (dp,cs)=>if dp=g/\uc cs=true then (match cut cs off (len*sz) with
  |some part=>(match part.mapM (cV 0 st.mem) with
   |some ds=>K ⟨dK st.tm s (.H (.ax (chunk sz len ds))),kill st.mem k⟩
   |none=>False)
  |none=>False) else False
 |none=>False
def Yb (K:bc->Prop)(st:bc)(s:Nat):M->Prop
 |.ref k g sz off len=>Nd K st s k g sz off len (st.mem k)
 |_=>False
@[go_sem] def aNK (s:Nat):lp K st (.freeze s)=Yb K st s (st.tm s):=by
 unfold lp Yb;dsimp only
 cases hm:st.tm s with
 |ref k g sz off len=>?_
 |_=>rfl
 dsimp only;unfold Nd
 cases I:st.mem k with
 |none=>rfl
 |some x =>
  obtain⟨dp,cs⟩:=x;simp only
  by_cases J:dp=g/\uc cs=true
  ·rw[Y J,Y J];unfold cV;rw[I];simp only[J.1,if_true]
   cases uo:cut cs off (len*sz) with
   |none=>rfl
   |some part =>
    simp only
    cases aE:part.mapM (cV 0 st.mem)<;>rfl
  ·rw[aa J,aa J]
@[go_sem] def aNL (s k g sz off len:Nat):Yb K st s (.ref k g sz off len)=Nd K st s k g sz off len (st.mem k):=bE
@[go_sem] def aNM (mem:Mem)(k:Key):kill mem k=a5 mem k (ca mem k) []:=bE
end
open Classical in
def bV {α:Type}(yy:α->List Data)(f:α->Option eb):List Data->Option eb:=λds=>if h:∃a,yy a=ds then f (z3 h) else none
def Sa {α:Type}{yy:α->List Data}{f:α->Option eb}(inj:∀a b,yy a=yy b->a=b)(a:α):bV yy f (yy a)=f a:=by
 have h:∃b,yy b=yy a:=⟨a,rfl⟩;unfold bV;rw[dif_pos h,inj _ _ (qo h)]
def Sb {α:Type}{yy:α->List Data}{f:α->Option eb}{ds:List Data}{r:eb}(h:bV yy f ds=some r):∃a,ds=yy a/\f a=some r:=by
 unfold bV at h
 split at h
 ·rename_i L;exact⟨_,(qo L).symm,h⟩
 ·cases h
open Classical in
def cu (c:Prop)(r:eb):Option eb:=if c then some r else none
def Sc {c:Prop}(h:c)(r:eb):cu c r=some r:=by unfold cu;rw[Y h]
def Yc {c:Prop}{r zQ:eb}(h:cu c r=some zQ):c/\zQ=r:=by
 unfold cu at h
 split at h
 ·cases h;exact⟨‹_›,rfl⟩
 ·cases h
@[go_sem] def aNN (aO:List Data->Option eb)(args:List M)(mem:Mem):aK aO args mem=Ja aO (args.mapM (cV 6 emp)) (args.mapM (cV 6 mem)):=bE
def map_inj {α β:Type}{f:α->β}(h:∀a b,f a=f b->a=b):∀(l gb:List α),l.map f=gb.map f->l=gb:=by
 intro l
 induction l with
 |nil=>intro gb e;cases gb<;>simp_all
 |cons a r aG =>
  intro gb e
  cases gb with
  |nil=>simp at e
  |cons b zQ =>
   simp only[eE,bj] at e;rw[h _ _ e.1,aG _ e.2]
def Je (l:List (FuncId×(List Data->Option eb))):FuncId->Option (List Data->Option eb):=λf=>(l.find? λp=>p.1==f).map (·.2)
def qp {P:Program}{l:List (FuncId×(List Data->Option eb))}(h:∀p∈l,qm P p.1 p.2):∀f aO,Je l f=some aO->qm P f aO:=by
 intro f aO aH;unfold Je at aH;rw[eL] at aH;obtain⟨p,aE,rfl⟩:=aH;have F:=List.mem_of_find?_eq_some aE;have G:=List.find?_some aE;have ab:p.1=f:=by simpa using G
 exact ab ▸ h p F
def b1 {P:Program}:∀p∈([]:List (FuncId×(List Data->Option eb))),qm P p.1 p.2:=by simp
def aW {P:Program}{f:FuncId}{aO:List Data->Option eb}{l:List (FuncId×(List Data->Option eb))}(h:qm P f aO)(aq:∀p∈l,qm P p.1 p.2):∀p∈(f,aO)::l,qm P p.1 p.2:=by
 intro p aE;rcases n2.1 aE with rfl|aE
 ·exact h
 ·exact aq p aE
def agz {mZ:FuncId->Option (List Data->Option eb)}{f:FuncId}{aO:List Data->Option eb}(h:mZ f=some aO):DK mZ f=aK aO:=by
 funext args mem
 unfold DK;rw[h]
@[go_sem] def aNO (mem:Mem)(k:Key)(z:List M)(b m:Nat)(new:List M):sX mem k z b .nil (some (m,new)) =
  if m*b<=140737488355328/\m<=maxLen/\new.all M.one=true then some (.ref k (ca mem k) (D z) 0 m,some (k,ca mem k,new)) else none:=bE
@[go_sem] def aNP (mem:Mem)(k k':Key)(z:List M)(g sz b len m:Nat)(new:List M):sX mem k z b (.ref k' g sz 0 len) (some (m,new)) =
  if sz=(D z) then lL k' g sz len b m new (mem k') else none:=by
 unfold sX;simp
def aU {α:Type}(enc:α->List Data)(l:List α):List M:=(l.map enc).flatten.map .H
section
variable {α:Type} {enc:α->List Data} {sz:Nat}
def avn:aU enc []=[]:=rfl
def z4 (a:α)(l:List α):aU enc (a::l)=(enc a).map .H++aU enc l:=by simp[aU]
def Yd (a b:List α):aU enc (a++b)=aU enc a++aU enc b:=by simp[aU]
def jS (h:∀a,(enc a).length=sz)(l:List α):(aU enc l).length=D l*sz:=by
 induction l with
 |nil=>simp[aU]
 |cons a r aG=>rw[z4,gC,aG,al,h,lJ,rW,Nat.one_mul,Nat.add_comm]
def Ye (h:∀a,(enc a).length=sz){l:List α}{i:Nat}{a:α}(O:l[i]?=some a):∃p q,aU enc l=p++((enc a).map .H++q)/\D p=i*sz/\∀b,aU enc (l.set i b)=p++((enc b).map .H++q):=by
 have ah:=(dV.1 O).1;have oZ:l[i]=a:=(dV.1 O).2
 have e:l=l.take i++a::l.drop (i+1):=by
  rw[<-oZ,<-je ah,DM]
 refine⟨aU enc (l.take i),aU enc (l.drop (i+1)),?_,?_,λb=>?_⟩
 ·conv=>lhs;rw[e]
  rw[Yd,z4]
 ·rw[jS h,gP];congr 1;omega
 ·rw[List.set_eq_take_append_cons_drop,Y ah,Yd,z4]
def Nf (h:∀a,(enc a).length=sz){l:List α}{i:Nat}{a:α}(O:l[i]?=some a){f n:Nat}(aH:f+n<=sz):cut (aU enc l) (i*sz+f) n=some ((((enc a).map .H).drop f).take n):=by
 obtain⟨p,q,e,aE,-⟩:=Ye h O;have aZ:=h a;unfold cut;rw[e,Y (by simp only[gC,al];omega),<-aE];rw[qq,lM (by omega)];rw[show (D p)+f-D p=f by omega,jE,qq,List.take_append]
 have:n-(((enc a).map M.H).drop f).length=0:=by simp only[oz,al];omega
 rw[this,nw,hD]
def Sd (h:∀a,(enc a).length=sz){l:List α}{i:Nat}(O:i<D l)(b:α):lo (aU enc l) (i*sz) ((enc b).map .H)=aU enc (l.set i b):=by
 obtain⟨p,q,e,aE,R⟩:=Ye h (bh O);rw[R b,e];have aZ:=h l[i];have ad:=h b;unfold lo;rw[<-aE,Yf,g8]
 congr 2
 rw[qq,lM (by omega),jE,al,show (D p)+(enc b).length-D p=(enc b).length by omega,ad,<-aZ,<-al (f:=M.H),Yg]
def avo (bw:∀a,((enc a).map M.H).all M.one=true)(l:List α):(aU enc l).all M.one=true:=by
 induction l with
 |nil=>rfl
 |cons a r aG=>rw[z4,List.all_append,bw,aG];rfl
def BP (h:∀a,(enc a).length=sz)(bw:∀a,((enc a).map M.H).all M.one=true)(k g b:Nat)(l new:List α)(ad:(D l+D new)*b<=140737488355328)(hm:(D l)+D new<=1000000000):
  lL k g sz (D l) b (D new) (aU enc new) (some (g,aU enc l))=some (.ref k (g+1) sz 0 (D l+D new),some (k,g+1,aU enc (l++new))):=by
 unfold lL;have BL:(D l)+D new<=maxLen:=eR hm (by decide);dsimp only;rw[Y ⟨rfl,by rw[jS h];exact cl _,ad,BL,avo bw new⟩,Yd,dD (by rw[jS h];exact cl _)]
def kx (h:∀a,(enc a).length=sz)(bw:∀a,((enc a).map M.H).all M.one=true)(k g b:Nat)(l:List α)(a:α){cs:List M}(J:cs=(enc a).map .H)(ad:(D l+1)*b<=140737488355328)(hm:(D l)+1<=1000000000):
  lL k g sz (D l) b 1 cs (some (g,aU enc l))=some (.ref k (g+1) sz 0 (D l+1),some (k,g+1,aU enc (l++[a]))):=by
 have:=BP h bw k g b l [a] ad hm;rw[J];rw[z4,avn,hD] at this;exact this
def w8 (f:M->Option Data)(aH:∀d,f (.H d)=some d)(l:List Data):(l.map M.H).mapM f=some l:=by
 induction l with
 |nil=>rfl
 |cons a r aG=>simp[aH,aG]
def BQ:∀(l:List (List Data)),(∀e∈l,D e=sz)->chunk sz (D l) l.flatten=l:=by
 intro l
 induction l with
 |nil=>intro _;rfl
 |cons e r aG =>
  intro h;have he:=h e (by simp);rw[lJ,l8,chunk];rw[<-he,Yf,Yg,he,aG λx L=>h x (by simp[L])]
def k6 (h:∀a,(enc a).length=sz){n k g:Nat}{mem:Mem}{l:List α}(hm:mem k=some (g,aU enc l)):cV (n+1) mem (.ref k g sz 0 (D l))=some (.ax (l.map enc)):=by
 unfold cV;rw[hm];simp only[if_true];unfold cut;rw[q4,jS h,Y (cl _)];simp only[o0];rw[dD (by rw[jS h];exact cl _)];unfold aU;rw[w8 _ λd=>by cases n<;>rfl]
 have:=BQ (sz:=sz) (l.map enc) (by simpa using λa _=>h a);rw[al] at this;simp[this]
end
def Jf {α:Type}(enc:α->List Data)(l:List α):uc (aU enc l)=true:=by
 unfold uc aU;rw[nt];intro m hm;rw[gm] at hm;obtain⟨d,_,rfl⟩:=hm
 rfl
def nB {α:Type}{enc:α->List Data}{sz:Nat}(h:∀a,(enc a).length=sz){K:bc->Prop}{st:bc}(s k g:Nat)(l:List α):
  Nd K st s k g sz 0 (D l) (some (g,aU enc l))=K ⟨dK st.tm s (.H (.ax (l.map enc))),kill st.mem k⟩:=by
 have X:=k6 (n:=0) h (mem:=a5 st.mem k g (aU enc l)) (k:=k) (g:=g) (l:=l) (by simp[a5]);unfold Nd;dsimp only;rw[Y ⟨rfl,Jf enc l⟩];unfold cut;rw[q4,jS h,Y (cl _)];dsimp only;rw[o0,dD (by rw[jS h];exact cl _)];unfold aU;rw[w8 _ λd=>rfl];dsimp only;have:=BQ (sz:=sz) (l.map enc) (by simpa using λa _=>h a);rw[al] at this;rw[this]
def wrap64 (x:Int)(F:-9223372036854775808<=x)(G:x<=9223372036854775807):IntKind.i64.wrap x=x:=by
 rw[IntKind.wrap_i64];omega
def agA {α:Type}(l:List α)(i:Int)(ay:0<=i)(h:i<D l):∃x,l[i.toNat]?=some x/\l.drop i.toNat=x::l.drop (i+1).toNat/\l.take (i+1).toNat=l.take i.toNat++[x]:=by
 have ah:i.toNat<D l:=by omega
 have e:(i+1).toNat=i.toNat+1:=by omega
 refine⟨l[i.toNat],bh ah,?_,?_⟩
 ·rw[e];exact je ah
 ·rw[e];rw[hZ,bh ah];rfl
def cd:List Data->List M
 | []=>[]
 |d::l => .H d::cd l
def avp (l:List Data):cd l=l.map .H:=by
 induction l with
 |nil=>rfl
 |cons a l aG=>rw[cd,aG];rfl
def WF (T:ba)(mf:bJ)(aO:List Data->Option eb):Prop:=∀ds r,aO ds=some r->Nat.ble (D ds) mf.n=true/\wp T mf.body (vH mf.res r) ⟨kq (cd ds),emp⟩
abbrev Se:Option eb->(eb->Prop)->Prop
 |some r,aR=>aR r
 |none,_=>True
def cT {c:Prop}{r:eb}{aR:eb->Prop}(h:c->aR r):Se (cu c r) aR:=by
 by_cases J:c
 ·rw[Sc J];exact h J
 ·have:cu c r=none:=aa J;rw[this];trivial
def cp {T:ba}{mf:bJ}{α:Type}{A:α->List Data}{f:α->Option eb}(h:∀a,Se (f a) λr=>Nat.ble (A a).length mf.n=true/\wp T mf.body (vH mf.res r) ⟨kq (cd (A a)),emp⟩):WF T mf (bV A f):=λds r X=>by
 obtain⟨a,rfl,G⟩:=Sb X;have ab:=h a;rw[G] at ab;exact ab
class Sf (a:List Data) (b:outParam (List Data)):Prop where
 e:a=b
instance {d:Data} {r:List Data}:Sf (d::r) (d::r):=⟨rfl⟩
instance:Sf [] []:=⟨rfl⟩
def cH {α:Type}{A:α->List Data}{f:α->Option eb}(aO:List Data->Option eb)(e:aO=bV A f)(inj:∀a b,A a=A b->a=b)(a:α){l:List Data}[aq:Sf (A a) l]{c:Prop}{r:eb}(aC:f a=cu c r)(J:c):aO l=some r:=by rw[<-aq.e,e,Sa inj,aC,Sc J]
def pK {α:Type}{A:α->List Data}{f:α->Option eb}(aO:List Data->Option eb)(e:aO=bV A f)(inj:∀a b,A a=A b->a=b)(a:α){l:List Data}[aq:Sf (A a) l]{r:eb}(aC:f a=some r):aO l=some r:=by rw[<-aq.e,e,Sa inj,aC]
abbrev WP (T:ba)(mf:bJ)(r:eb)(l:List M):Prop:=wp T mf.body (vH mf.res r) ⟨kq l,emp⟩
def ck {T:ba}{c:er}{K:eK->bc->Prop}{st:bc}(h:wp T c (cg T K []) st):wp T c K st:=ra h
def eY (x:Int)(F:-9223372036854775808<=x:=by omega)(G:x<=9223372036854775807:=by omega):IntKind.i64.wrap x=x:=wrap64 x F G
def eI {i:Nat}(h:i<1000000000000):IntKind.i64.wrap ((i:Int)+1)=((i+1:Nat):Int):=by rw[wrap64 _ (by omega) (by omega)];omega
end Go.Mini
namespace Go.Mini
open Go Go.ChangeShapes Go.WideShapes
inductive r7 where
 |int (k:IntKind)
 |bool
 |str
 |ax (e:r7)
 |st (l:List r7)
mutual
def Fit:r7->List Data->Prop
 |.int k,ds=>∃n,ds=[.int k n]/\(Lit.int k n).wf=true
 |.bool,ds=>∃b,ds=[.bool b]
 |.str,ds=>∃s,ds=[.str s]/\D s<=maxLen
 |.ax e,ds=>∃es,ds=[.ax es]/\D es<=maxLen/\∀x∈es,Fit e x
 |.st l,ds=>Fits l ds
def Fits:List r7->List Data->Prop
 | [],ds=>ds=[]
 |s::r,ds=>∃a b,ds=a++b/\Fit s a/\Fits r b
end
def Ng (P:Program):Nat->List Field->Nat->Bool
 |off,[],tot=>off==tot
 |off,f::r,tot=>f.offset==off&&Ng P (off+P.cellsOf f.type) r tot
def Nh (g:TypeId->Option r7):List Field->Option (List r7)
 | []=>some []
 |f::r=>match g f.type,Nh g r with
  |some s,some l=>some (s::l)
  |_,_=>none
def uw (P:Program):Nat->TypeId->Option r7
 |0,_=>none
 |n+1,t=>match P.underlying t with
  |some .bool=>some .bool
  |some (.int k)=>some (.int k)
  |some .string=>some .str
  |some (.slice e)=>if 0<P.cellsOf e then (uw P n e).map .ax else none
  |some (.struct eo)=>if Ng P 0 eo.toList (P.cellsOf t)=true then (Nh (uw P n) eo.toList).map .st else none
  |_=>none
section
variable {gR:Type} {enc:TypeId×Value->gR} {P:Program} {w:World} {base:Nat}
def Ni (enc:TypeId×Value->gR)(P:Program)(w:World)(base:Nat)(S:r7)(fuel:Nat)(t:TypeId)(cs:List Value)(x:DataW gR×List MemPlace):Prop :=
 (∃ds,Fit S ds/\BN w (λ_=>False) ds cs)/\(∀p∈x.2,p.block<w.heap.size) /\
 ∀(aX:World) (sp:Nat->Bool),(∀p∈x.2,sp p.block=true)->(∀b,b<w.heap.size->aX.heap[b]?=w.heap[b]?)->DataW.trod enc P aX base sp true fuel t cs=some x
def Nj {a4:Nat->Prop}{d:Data}{v:Value}(h:Den w a4 d v):BN w a4 [d] [v]:=by
 refine⟨rfl,λi zX FO F G=>?_⟩
 cases i with
 |zero=>cases F;cases G;exact h
 |succ i=>simp at F
def agB (a:Addr)(i:Nat):(a.add i).block=a.block:=by
 unfold Addr.add
 split<;>rfl
def add_plain (b off i:Nat):(Addr.add ⟨b,off,none⟩ i)=⟨b,off+i,none⟩:=by
 unfold Addr.add
 split
 ·rename_i h;subst h;rfl
 ·rfl
def agC {aX:World}{a:Addr}{n:Nat}{cs:List Value}(h:w.cells? base a n=some cs)(I:∀b,b<w.heap.size->aX.heap[b]?=w.heap[b]?):aX.cells? base a n=some cs:=by
 unfold World.cells? at h ⊢
 split at h
 ·rename_i ad;rw[Y ad,<-h]
  by_cases ah:a.block<w.heap.size
  ·have he:(λi=>aX.cell? (a.add i))=λi=>w.cell? (a.add i):=by
    funext i
    exact World.cell?_of_block (a:=a.add i) (I _ (by rw[agB];exact ah))
   rw[he]
  ·cases n with
   |zero=>rfl
   |succ n =>
    exfalso
    have:w.cell? (a.add 0)=none:=by
     unfold World.cell?;have:w.heap[(a.add 0).block]?=none:=Array.getElem?_eq_none (by rw[agB];omega);rw[this]
    rw[List.range_succ_eq_map,ns,this] at h
    cases h
 ·cases h
def Yh {a:Addr}{n:Nat}{cs:List Value}(h:w.cells? base a n=some cs):(D cs)=n/\∀i,i<n->∃v,cs[i]?=some v/\w.cell? (a.add i)=some v:=by
 unfold World.cells? at h
 split at h
 ·obtain⟨F,G⟩:=pA h;rw[td] at F;refine⟨F,λi O=>?_⟩;have J:=bh (l:=cs) (i:=i) (by omega);exact⟨_,J,G i i _ (by simp[O]) J⟩
 ·cases h
def avq {a:Addr}{v:Value}(h:w.cell? a=some v):a.block<w.heap.size/\a.spot=none:=by
 unfold World.cell? at h
 split at h
 ·rename_i ad;refine⟨(Array.getElem?_eq_some_iff.1 ad).1,?_⟩
  cases R:a.spot with
  |none=>rfl
  |some x=>rw[R] at h;simp at h
 ·cases h
def mapM_congr {α β:Type}{f g:α->Option β}:∀{l:List α},(∀x∈l,f x=g x)->l.mapM f=l.mapM g:=by
 intro l
 induction l with
 |nil=>intro _;rfl
 |cons a r aG =>
  intro h;rw[ns,ns,h a (by simp),aG λx L=>h x (by simp[L])]
def avr {β:Type}(len:Nat)(aR:Nat->β->Prop)(h:∀i,i<len->∃y,aR i y):∃l:List β,D l=len/\∀i y,l[i]?=some y->aR i y:=by
 induction len with
 |zero=>exact⟨[],rfl,λi y h=>by simp at h⟩
 |succ n aG =>
  obtain⟨l,F,G⟩:=aG λi O=>h i (by omega);obtain⟨y,aj⟩:=h n (by omega);refine⟨l++[y],by simp[F],λi z a2=>?_⟩
  rw[IV] at a2
  split at a2
  ·exact G i z a2
  ·rename_i ah
   have:i-D l=0:=by
    have:=(dV.1 a2).1;simp at this;omega
   rw[this] at a2
   cases a2;have:i=n:=by omega
   subst this;exact aj
def avs {β:Type}{sz:Nat}:∀(es:List (List β)),(∀e∈es,D e=sz)->0<sz->∀(i:Nat) (d:β),es.flatten[i]?=some d->∃e,es[i/sz]?=some e/\e[i%sz]?=some d:=by
 intro es
 induction es with
 |nil=>intro _ _ i d h;simp at h
 |cons e r aG =>
  intro h a2 i d Z;have he:=h e (by simp);rw[l8,IV] at Z
  split at Z
  ·rename_i ah;rw[he] at ah;refine⟨e,by rw[Yi ah];rfl,by rw[Nk ah];exact Z⟩
  ·rename_i bW;rw[he] at Z bW;obtain⟨x,F,G⟩:=aG (λy aj=>h y (by simp[aj])) a2 _ d Z;have O:i=(i-sz)+sz:=by omega
   refine⟨x,?_,?_⟩
   ·rw[O,Nat.add_div_right _ a2]
    simpa using F
   ·rw[O,Nat.add_mod_right];exact G
def avt {n fuel:Nat}(aG:∀t S,uw P n t=some S->∀(cs:List Value) (x:DataW gR×List MemPlace),DataW.trod enc P w base (λ_=>true) true fuel t cs=some x->Ni enc P w base S fuel t cs x)(cs:List Value):
  ∀(eo:List Field) (off:Nat) (l:List r7) (xs:List (DataW gR×List MemPlace)),Nh (uw P n) eo=some l->Ng P off eo (D cs)=true ->
   eo.mapM (λf=>DataW.trod enc P w base (λ_=>true) true fuel f.type ((cs.drop f.offset).take (P.cellsOf f.type)))=some xs ->
   (∃ds,Fits l ds/\BN w (λ_=>False) ds (cs.drop off))/\(∀p∈xs.flatMap (·.2),p.block<w.heap.size) /\
   ∀(aX:World) (sp:Nat->Bool),(∀p∈xs.flatMap (·.2),sp p.block=true)->(∀b,b<w.heap.size->aX.heap[b]?=w.heap[b]?) ->
    eo.mapM (λf=>DataW.trod enc P aX base sp true fuel f.type ((cs.drop f.offset).take (P.cellsOf f.type)))=some xs:=by
 intro eo
 induction eo with
 |nil =>
  intro off l xs aq b0 L;simp only[Nh,cF] at aq;subst aq;simp only[Ng,beq_iff_eq] at b0;simp only[List.mapM_nil,hX,cF] at L;subst L;refine⟨⟨[],rfl,?_⟩,by simp,λ_ _ _ _=>rfl⟩
  rw[b0,Yj];exact⟨rfl,λi d v h=>by simp at h⟩
 |cons f r ihf =>
  intro off l xs aq b0 L;unfold Nh at aq
  split at aq
  ·rename_i s gb R IU
   cases aq;simp only[Ng,fC,beq_iff_eq] at b0;obtain⟨XC,b0⟩:=b0;rw[ns] at L;simp only[hX,h9,eS,cF] at L;obtain⟨x,ux,ys,Gf,rfl⟩:=L;obtain⟨⟨Yk,Yl,Jg⟩,avu,avv⟩:=aG _ _ R _ _ ux;obtain⟨⟨Gg,mi,fi⟩,avw,avx⟩:=ihf _ _ _ IU b0 Gf;refine⟨⟨Yk++Gg,⟨Yk,Gg,rfl,Yl,mi⟩,?_⟩,?_,?_⟩
   ·have afr:cs.drop off=(cs.drop off).take (P.cellsOf f.type)++cs.drop (off+P.cellsOf f.type):=by
     rw[<-I8,DM]
    rw[XC] at Jg;rw[afr];refine⟨by rw[gC,gC,Jg.1,fi.1],λi d v F G=>?_⟩
    rw[IV] at F G;have hlen:=Jg.1
    by_cases ah:i<D Yk
    ·rw[Y ah] at F;rw[Y (by omega)] at G;exact Jg.2 i d v F G
    ·rw[aa ah] at F;rw[aa (by omega),hlen] at G;exact fi.2 _ d v F G
   ·intro p aE;rw[r8,jH] at aE;exact aE.elim (avu p) (avw p)
   ·intro aX sp ju I;rw[ns,avv aX sp (λp aE=>ju p (by rw[r8,jH];exact .inl aE)) I];have:=avx aX sp (λp aE=>ju p (by rw[r8,jH];exact .inr aE)) I;simp only[hX,h9,qk];rw[this]
    rfl
  ·cases aq
def avy:∀(n:Nat) (t:TypeId) (S:r7),uw P n t=some S->∀(fuel:Nat) (cs:List Value) (x:DataW gR×List MemPlace),DataW.trod enc P w base (λ_=>true) true fuel t cs=some x->Ni enc P w base S fuel t cs x:=by
 intro n
 induction n with
 |zero=>intro t S h;simp[uw] at h
 |succ n aG =>
  intro t S cZ fuel cs x L
  cases fuel with
  |zero=>cases L
  |succ fuel =>
   unfold uw at cZ
   split at cZ
   ·-- bool
    rename_i hu
    cases cZ
    have key:∀(aX:World) (sp:Nat->Bool) (cs:List Value),DataW.trod enc P aX base sp true (fuel+1) t cs=match cs with|[.bool b]=>some (.lit (.bool b),[])|_=>none:=by
     intro aX sp cs;unfold DataW.trod;rw[hu];clear L
     split<;>simp_all
    rw[key] at L
    split at L
    ·cases L;exact⟨⟨_,⟨_,rfl⟩,Nj .bool⟩,by simp,λaX sp _ _=>by rw[key]⟩
    ·cases L
   ·-- int
    rename_i k hu
    cases cZ
    have key:∀(aX:World) (sp:Nat->Bool) (cs:List Value),DataW.trod enc P aX base sp true (fuel+1) t cs=match cs with|[.int k' n]=>if k'=k/\(Lit.int k n).wf=true then some (.lit (.int k n),[]) else none|_=>none:=by
     intro aX sp cs;unfold DataW.trod;rw[hu];clear L
     split<;>simp_all
    rw[key] at L
    split at L
    ·split at L
     ·rename_i J
      cases L;obtain⟨rfl,agD⟩:=J;exact⟨⟨_,⟨_,rfl,agD⟩,Nj .int⟩,by simp,λaX sp _ _=>by rw[key];simp[agD]⟩
     ·cases L
    ·cases L
   ·-- string
    rename_i hu
    cases cZ
    have key:∀(aX:World) (sp:Nat->Bool) (cs:List Value),DataW.trod enc P aX base sp true (fuel+1) t cs=match cs with|[.string s]=>if s.size<=maxLen then some (.lit (.string s.data.toList),[]) else none|_=>none:=by
     intro aX sp cs;unfold DataW.trod;rw[hu];clear L
     split<;>simp_all
    rw[key] at L
    split at L
    ·rename_i s
     split at L
     ·rename_i J
      cases L;refine⟨⟨[.str s.data.toList],⟨_,rfl,?_⟩,Nj ?_⟩,by simp,λaX sp _ _=>by rw[key];simp[J]⟩
      ·rw[Array.length_toList];exact J
      ·have:Den w (λ_=>False) (.str s.data.toList) (.string ⟨s.data.toList.toArray⟩):=.str
       simpa using this
     ·cases L
    ·cases L
   ·-- slice
    rename_i e hu
    split at cZ
    ·rename_i J;rw[eL] at cZ;obtain⟨S,cZ,rfl⟩:=cZ
     have key:∀(aX:World) (sp:Nat->Bool) (cs:List Value),DataW.trod enc P aX base sp true (fuel+1) t cs=match cs with
      | [.slice none 0 0]=>some (.nil,[])
      | [.slice (some a) len cap] =>
       if base<=a.block/\len<=cap/\cap<=maxLen then
        ((
         eM len).mapM λi=>(aX.cells? base (a.add (i*P.cellsOf e)) (P.cellsOf e)).bind (DataW.trod enc P aX base sp true fuel e)).bind λelems =>
         (if sp a.block then (eM (cap-len)).mapM λj=>(aX.cells? base (a.add ((len+j)*P.cellsOf e)) (P.cellsOf e)).bind (DataW.trod enc P aX base sp true fuel e) else some []).map λrest =>
          (.slice (elems.map (·.1)) (rest.map (·.1)),MemPlace.row a ((D elems+D rest)*P.cellsOf e)++(elems++rest).flatMap (·.2))
       else none
      |_=>none:=by
      intro aX sp cs
      conv=>lhs;unfold DataW.trod
      rw[hu];clear L
      split<;>simp_all
     rw[key] at L
     split at L
     ·cases L;exact⟨⟨[.ax []],⟨_,rfl,fL _,by simp⟩,Nj .mV⟩,by simp,λaX sp _ _=>by rw[key];rfl⟩
     ·rename_i a len cap
      split at L
      ·rename_i ad;rw[eS] at L;obtain⟨elems,he,L⟩:=L;rw[eL] at L;obtain⟨rest,X,rfl⟩:=L;rw[Y rfl] at X;obtain⟨md,avz⟩:=pA he;obtain⟨cm,avA⟩:=pA X;rw[td] at md cm
       -- each place
       have bH:∀i y,(i<len->elems[i]?=some y)->(¬ i<len->i<cap/\rest[i-len]?=some y)->∃ci,w.cells? base (a.add (i*P.cellsOf e)) (P.cellsOf e)=some ci/\DataW.trod enc P w base (λ_=>true) true fuel e ci=some y:=by
        intro i y F G
        by_cases O:i<len
        ·have:=avz i i y (by simp[O]) (F O);rwa [eS] at this
        ·obtain⟨ab,aV⟩:=G O;have:=avA (i-len) (i-len) y (List.getElem?_range (by omega)) aV;rw[show len+(i-len)=i by omega,eS] at this
         exact this
       have gv:0<D elems+(D rest)->a.block<w.heap.size/\a.spot=none:=by
        intro aE;have ay:0<cap:=by omega
        have:∃y,(0<len->elems[0]?=some y)/\(¬ 0<len->0<cap/\rest[0-len]?=some y):=by
         by_cases aq:0<len
         ·exact⟨elems[0],λ_=>bh _,λh=>absurd aq h⟩
         ·exact⟨rest[0],λh=>absurd h aq,λ_=>⟨ay,by rw[Nat.zero_sub];exact bh _⟩⟩
        obtain⟨y,F,G⟩:=this;obtain⟨ci,ow,-⟩:=bH 0 y F G;obtain⟨v,-,aN⟩:=(Yh ow).2 0 J;have:=avq aN;rw[Sg] at this;have bx:(a.add 0).add 0=a:=by unfold Addr.add;simp
        rw[bx] at this;exact this
       have kT:∀i y,(i<len->elems[i]?=some y)->(¬ i<len->i<cap/\rest[i-len]?=some y)->∃ci,w.cells? base (a.add (i*P.cellsOf e)) (P.cellsOf e)=some ci/\Ni enc P w base S fuel e ci y:=by
        intro i y F G;obtain⟨ci,ab,aV⟩:=bH i y F G;exact⟨ci,ab,aG e S cZ fuel ci y aV⟩
       have Ym:∀(i:Nat) y,elems[i]?=some y->∃ci,w.cells? base (a.add (i*P.cellsOf e)) (P.cellsOf e)=some ci/\Ni enc P w base S fuel e ci y :=
        λi y aj=>kT i y (λ_=>aj) (λh=>absurd (by have:=(dV.1 aj).1;omega) h)
       have agE:∀(j:Nat) y,rest[j]?=some y->∃ci,w.cells? base (a.add ((len+j)*P.cellsOf e)) (P.cellsOf e)=some ci/\Ni enc P w base S fuel e ci y :=
        λj y aj=>kT (len+j) y (λh=>by omega) (λ_=>⟨by have:=(dV.1 aj).1;omega,by rwa [Jh]⟩)
       refine⟨?_,?_,?_⟩
       ·obtain⟨es,Yn,heq⟩:=avr len (λi (ds:List Data)=>∃ci,w.cells? base (a.add (i*P.cellsOf e)) (P.cellsOf e)=some ci/\Fit S ds/\BN w (λ_=>False) ds ci) λi O=>by
         obtain⟨ci,F,⟨ds,G,ab⟩,-,-⟩:=Ym i _ (bh (by omega));exact⟨ds,ci,F,G,ab⟩
        refine⟨[.ax es],⟨es,rfl,by omega,λy aj=>?_⟩,Nj ?_⟩
        ·obtain⟨i,O⟩:=r9.1 aj;obtain⟨ci,-,h,-⟩:=heq i y O;exact h
        ·by_cases aq:len=0
         ·rw[aq] at Yn ⊢;rw[vu Yn];exact .mV
         ·obtain⟨mi,fi⟩:=gv (by omega);obtain⟨b,off,spot⟩:=a;simp only at mi fi;subst fi
          have fw:∀y∈es,D y=P.cellsOf e:=by
           intro y aj;obtain⟨i,O⟩:=r9.1 aj;obtain⟨ci,F,-,G⟩:=heq i y O;rw[<-G.1,(Yh F).1]
          have jg:∀(i:Nat) (d:Data),es.flatten[i]?=some d->∃v,w.cell? ⟨b,off+i,none⟩=some v/\Den w (λ_=>False) d v:=by
           intro i d Z;obtain⟨y,F,G⟩:=avs es fw J i d Z;obtain⟨ci,ab,-,aV⟩:=heq _ y F;have hm:i%P.cellsOf e<P.cellsOf e:=pL _ J;obtain⟨v,bu,bX⟩:=(Yh ab).2 _ hm;rw[add_plain,add_plain,vn,vJ,Sh] at bX;exact⟨v,bX,aV.2 _ d v G bu⟩
          rw[<-Yn];refine .ax (sz:=P.cellsOf e) (λi=>(w.cell? ⟨b,off+i,none⟩).getD undef) (by omega) (by omega) mi (λh=>h) fw (λi O=>?_) λi d Z=>?_
          ·have ah:i<D es.flatten:=by rw[Rs fw];exact O
           obtain⟨v,aN,-⟩:=jg i _ (bh ah);rw[aN]
           rfl
          ·obtain⟨v,aN,ou⟩:=jg i d Z;rw[aN];exact ou
       ·intro p aE;simp only[jH] at aE;rcases aE with aE|aE
        ·unfold MemPlace.row at aE;rw[gm] at aE;obtain⟨i,O,rfl⟩:=aE;rw[ig] at O
         have:0<D elems+D rest:=by
          rcases kO (D elems+D rest) with h|h
          ·rw[h,Sg] at O;omega
          ·exact h
         exact (gv this).1
        ·rw[zY] at aE;obtain⟨y,aj,aE⟩:=aE;rw[jH] at aj;rcases aj with aj|aj
         ·obtain⟨i,O⟩:=r9.1 aj;obtain⟨ci,-,h⟩:=Ym i y O;exact h.2.1 p aE
         ·obtain⟨i,O⟩:=r9.1 aj;obtain⟨ci,-,h⟩:=agE i y O;exact h.2.1 p aE
       ·intro aX sp ju I;rw[key];simp only;rw[Y ad]
        have gj:0<D elems+(D rest)->sp a.block=true:=by
         intro aE
         have:=ju (.cell a.block (a.off+0)) (by
          rw[jH]
          left
          unfold MemPlace.row;rw[gm];exact⟨0,by rw[ig];exact Nat.mul_pos aE J,rfl⟩)
         exact this
        have avB:(eM len).mapM (λi=>(aX.cells? base (a.add (i*P.cellsOf e)) (P.cellsOf e)).bind (DataW.trod enc P aX base sp true fuel e))=some elems:=by
         rw[<-he];refine mapM_congr λi O=>?_;rw[ig] at O;have aj:=bh (l:=elems) (i:=i) (by omega);obtain⟨ci,F,G⟩:=Ym i _ aj;rw[agC F I,F];simp only[qk];obtain⟨avC,ab,aV⟩:=bH i _ (λ_=>aj) (λh=>absurd O h);rw[F] at ab
         cases ab;rw[aV]
         exact G.2.2 aX sp (λp aE=>ju p (by
          rw[jH];right
          rw[zY];exact⟨_,jH.2 (.inl (dy aj)),aE⟩)) I
        have avD:(eM (cap-len)).mapM (λj=>(aX.cells? base (a.add ((len+j)*P.cellsOf e)) (P.cellsOf e)).bind (DataW.trod enc P aX base sp true fuel e))=some rest:=by
         rw[<-X];refine mapM_congr λj ae=>?_;rw[ig] at ae;have aj:=bh (l:=rest) (i:=j) (by omega);obtain⟨ci,F,G⟩:=agE j _ aj;rw[agC F I,F];simp only[qk];obtain⟨avC,ab,aV⟩:=bH (len+j) rest[j] (λh=>by omega) (λ_=>⟨by omega,by rw[Jh];exact aj⟩);rw[F] at ab
         cases ab;rw[aV]
         exact G.2.2 aX sp (λp aE=>ju p (by
          rw[jH];right
          rw[zY];exact⟨_,jH.2 (.inr (dy aj)),aE⟩)) I
        rw[avB];simp only[qk]
        cases R:sp a.block with
        |true=>simp only[if_true];rw[avD];rfl
        |false =>
         have a2:¬ 0<D elems+D rest:=λh=>by rw[gj h] at R;cases R
         have:rest=[]:=vu (by omega);subst this
         rfl
      ·cases L
     ·cases L
    ·cases cZ
   ·-- struct
    rename_i eo hu
    split at cZ
    ·rename_i b0;rw[eL] at cZ;obtain⟨l,aq,rfl⟩:=cZ
     have key:∀(aX:World) (sp:Nat->Bool),DataW.trod enc P aX base sp true (fuel+1) t cs =
       if (D cs)=P.cellsOf t then (eo.toList.mapM λf=>DataW.trod enc P aX base sp true fuel f.type ((cs.drop f.offset).take (P.cellsOf f.type))).map λxs=>(.agg (xs.map (·.1)),xs.flatMap (·.2)) else none:=by
      intro aX sp
      conv=>lhs;unfold DataW.trod
      rw[hu]
     rw[key] at L
     split at L
     ·rename_i hlen;rw[eL] at L;obtain⟨xs,rh,rfl⟩:=L;rw[<-hlen] at b0;obtain⟨F,G,ab⟩:=avt (λt S h cs x L=>aG t S h fuel cs x L) cs eo.toList 0 l xs aq b0 rh;refine⟨?_,G,λaX sp ju I=>?_⟩
      ·obtain⟨ds,aH,Z⟩:=F;exact⟨ds,aH,by simpa using Z⟩
      ·rw[key,Y hlen,ab aX sp ju I]
       rfl
     ·cases L
    ·cases cZ
   ·cases cZ
end
end Go.Mini
namespace Go.Mini
open Go Go.ChangeShapes Go.WideShapes Go.RowKit
def agF:r7->Data->Prop
 |.st l,d=>∃cs,d=.agg cs/\Fits l cs
 |s,d=>Fit s [d]
def Si:List r7->List Data->Prop
 | [],ds=>ds=[]
 |s::r,ds=>∃d t,ds=d::t/\agF s d/\Si r t
section
variable {gR:Type} {enc:TypeId×Value->gR} {P:Program} {w:World}
def avE {a4:Nat->Prop}{d:Data}{v:Value}{ds:List Data}{vs:List Value}(h:Den w a4 d v)(R:BN w a4 ds vs):BN w a4 (d::ds) (v::vs):=by
 refine⟨by simp[R.1],λi zX FO F G=>?_⟩
 cases i with
 |zero=>cases F;cases G;exact h
 |succ i=>exact R.2 i zX FO (by simpa using F) (by simpa using G)
def avF {n:Nat}{t:TypeId}{S:r7}{v:Value}{d:DataW gR}{cO:List MemPlace}{uy:Nat}(cZ:uw P n t=some S)(jg:Value.okWide P w .any uy t v)(h:DataW.Trod enc P w 0 (λ_=>true) true t v d cO):
  (∃cr,agF S cr/\Den w (λ_=>False) cr v)/\(∀p∈cO,p.block<w.heap.size) /\
  ∀(aX:World) (sp:Nat->Bool),(∀p∈cO,sp p.block=true)->(∀b,b<w.heap.size->aX.heap[b]?=w.heap[b]?)->DataW.Trod enc P aX 0 sp true t v d cO:=by
 obtain⟨fuel,L⟩:=h;obtain⟨⟨ds,aH,Z⟩,G,ab⟩:=avy n t S cZ fuel _ _ L;refine⟨?_,G,λaX sp ju I=>⟨fuel,ab aX sp ju I⟩⟩
 have one:(∀cs,v ≠ .agg cs)->∀d,ds=[d]->Den w (λ_=>False) d v:=by
  intro aN d e;subst e;have:v.cells=#[v]:=by unfold Value.cells;split<;>simp_all
  rw[this] at Z;exact Z.2 0 d v rfl rfl
 cases n with
 |zero=>simp[uw] at cZ
 |succ n =>
  unfold uw at cZ;unfold Value.okWide at jg
  split at cZ
  ·rename_i hu
   cases cZ;rw[hu] at jg;obtain⟨b,rfl⟩:=aH;refine⟨_,⟨b,rfl⟩,one ?_ _ rfl⟩;rintro cs rfl;simp[Cell.okWide,Cell.ok,hu] at jg
  ·rename_i k hu
   cases cZ;rw[hu] at jg;obtain⟨b,rfl,ad⟩:=aH;refine⟨_,⟨b,rfl,ad⟩,one ?_ _ rfl⟩;rintro cs rfl;simp[Cell.okWide,Cell.ok,hu] at jg
  ·rename_i hu
   cases cZ;rw[hu] at jg;obtain⟨b,rfl,ad⟩:=aH;refine⟨_,⟨b,rfl,ad⟩,one ?_ _ rfl⟩;rintro cs rfl;simp[Cell.okWide,Cell.ok,hu] at jg
  ·rename_i e hu
   split at cZ
   ·rw[eL] at cZ;obtain⟨S,cZ,rfl⟩:=cZ;rw[hu] at jg;obtain⟨b,rfl,ad⟩:=aH;refine⟨_,⟨b,rfl,ad⟩,one ?_ _ rfl⟩;rintro cs rfl;simp[Cell.okWide,Cell.ok,hu] at jg
   ·cases cZ
  ·rename_i eo hu
   split at cZ
   ·rw[eL] at cZ;obtain⟨l,aq,rfl⟩:=cZ;rw[hu] at jg;obtain⟨cs,rfl,-,-⟩:=jg;refine⟨.agg ds,⟨ds,rfl,aH⟩,?_⟩;have:Den w (λ_=>False) (.agg ds) (.agg cs.toList.toArray):=.agg Z.1 Z.2
    simpa using this
   ·cases cZ
  ·cases cZ
def Yo {n uy:Nat}:∀{vq:List TypeId} {schs:List r7} {vs:List Value} {ds:List (DataW gR)} {cO:List MemPlace},vq.mapM (uw P n)=some schs->(∀(j:Nat) t v,vq[j]?=some t->vs[j]?=some v->Value.okWide P w .any uy t v) ->
  DataW.TrodAll enc P w 0 (λ_=>true) true vq vs ds cO ->
  (∃uz,Si schs uz/\BN w (λ_=>False) uz vs)/\(∀p∈cO,p.block<w.heap.size) /\
  ∀(aX:World) (sp:Nat->Bool),(∀p∈cO,sp p.block=true)->(∀b,b<w.heap.size->aX.heap[b]?=w.heap[b]?)->DataW.TrodAll enc P aX 0 sp true vq vs ds cO
 | [],schs,vs,ds,cO,cZ,jg,h=>by
  obtain⟨rfl,rfl,rfl⟩:=trodAll_nil h;simp at cZ;subst cZ;exact⟨⟨[],rfl,rfl,λi d v h=>by simp at h⟩,by simp,λ_ _ _ _=>rfl⟩
 |t::vq,schs,vs,ds,cO,cZ,jg,h=>by
  obtain⟨v,avG,d,avH,a,b,rfl,rfl,rfl,F,G⟩:=trodAll_cons h;rw[ns] at cZ;simp only[hX,h9,eS,cF] at cZ;obtain⟨S,avI,l,aq,rfl⟩:=cZ;obtain⟨⟨cr,ky,avJ⟩,hk,cy⟩:=avF avI (jg 0 t v rfl rfl) F;obtain⟨⟨uz,avK,avL⟩,hQ,dw⟩:=Yo aq (λj avM FO b0 aN=>jg (j+1) avM FO (by simpa using b0) (by simpa using aN)) G;refine⟨⟨cr::uz,⟨cr,uz,rfl,ky,avK⟩,avE avJ avL⟩,λp aE=>?_,λaX sp ju I=>?_⟩
  ·rw[jH] at aE;exact aE.elim (hk p) (hQ p)
  ·exact trodAll_cons_mk (cy aX sp (λp aE=>ju p (jH.2 (.inl aE))) I) (dw aX sp (λp aE=>ju p (jH.2 (.inr aE))) I)
def avN {W uA:World}(h:Fr (λ_=>False) W uA)(may:MemPlace->Prop):W.keptBut uA may:=by
 refine⟨h.os,h.output,λi O=>?_⟩;rw[h.block i O id]
 cases ad:W.heap[i]? with
 |none=>trivial
 |some o =>
  cases o with
  |cells c t aF=>exact⟨rfl,rfl,rfl,λ_ _=>rfl⟩
  |map es clock=>exact .inr ⟨rfl,rfl⟩
  |_=>rfl
def avO {f:Func}{s:ChangeSpec}{apart fresh handsOn again:Bool}{W uA:World}{args:Array Value}{ds gs:List (DataW gR)}{before:List MemPlace}{n uy:Nat}{schs:List r7}{Nl:TypeId}
  (z5:DataW.Whole enc P f.params.toList s.vars apart W args.toList ds gs before) (aN:s.vars=[]) (cZ:f.params.toList.mapM (uw P n)=some schs)
  (jg:∀(j:Nat) t v,f.params[j]?=some t->args[j]?=some v->Value.okWide P W .any uy t v)
  (X:f.resultTypes=#[Nl]) (ad:P.underlying Nl=some .bool) (kS:s.fn gR ds={ results:=[.lit (.bool true)],args:=ds }) (aH:Fr (λ_=>False) W uA) :
  s.post enc P f apart fresh handsOn again W args (.bool true) uA:=by
 have Yp:=z5;obtain⟨p,q,dX,rj,rfl,a2,aL⟩:=z5;rw[aN] at rj;obtain⟨rfl,rfl⟩:=trodVars_none rj;obtain⟨-,ah,I⟩:=Yo cZ (λj t v b0 aN=>jg j t v (by simpa using b0) (by simpa using aN)) dX;have agG:∀b,b<W.heap.size->uA.heap[b]?=W.heap[b]?:=λb ad=>aH.block b ad id
 have lq:∀(b:Nat) (sp:Nat->Bool) (Z:Bool),DataW.TrodAll enc P uA b sp Z f.resultTypes.toList ((Value.bool true).resultList f.resultTypes.size) (s.fn gR (ds++[])).results []:=by
  intro b sp Z;rw[hD,kS,X];exact trodAll_cons_mk (shut_bool ad true) trodAll_mk0
 have oY:∀sp:Nat->Bool,(∀x∈p,sp x.block=true)->DataW.TrodAll enc P uA 0 sp true f.params.toList args.toList (s.fn gR (ds++[])).args p:=by
  intro sp ju;rw[hD,kS];exact I uA sp ju agG
 have agH:∀sp:Nat->Bool,DataW.TrodVars enc P uA sp s.vars (s.fn gR (ds++[])).vars []:=by
  intro sp;rw[aN,hD,kS]
  rfl
 refine⟨ds,[],p++[],[],p,[],Yp,lq _ _ _,oY _ (λx L=>by simpa using ah x L),agH _,avN aH _,λ_=>⟨?_,_,_,([]++p)++[],⟨[]++p,[],trodAll_append (oY _ (λ_ _=>rfl)) (lq _ _ _),agH _,rfl,?_,?_⟩,?_⟩⟩
 ·intro j t r F G;rw[X] at F G
  cases j with
  |zero =>
   simp[Value.resultList] at F G;subst F G;exact okWide_bool_mk ad true
  |succ j=>simp at F
 ·intro b off aE;have agI:MemPlace.cell b off∈p:=by simpa using aE
  have ad:=ah _ agI;have ay:=a2 b off (by simpa using agI);unfold World.frozen? at ay ⊢;rw[agG b ad];exact ay
 ·intro aZ;have:=aL aZ
  simpa using this
 ·intro x L _
  simpa using L
def avP {f:FuncId}{fn:Func}{s:ChangeSpec}{apart fresh handsOn again:Bool}{aO:List Data->Option eb}{n:Nat}{schs:List r7}{Nl:TypeId}(aE:qm P f aO)(aN:s.vars=[])(cZ:fn.params.toList.mapM (uw P n)=some schs)
  (X:fn.resultTypes=#[Nl]) (ad:P.underlying Nl=some .bool) (kS:∀ds:List (DataW gR),D ds=(D fn.params.toList)->s.fn gR ds={ results:=[.lit (.bool true)],args:=ds })
  {W:World} {base:Nat} {args:Array Value} {ds gs:List (DataW gR)} {before:List MemPlace}
  (ec:∀uz,Si schs uz->aO uz=some (.same (.bool true)))
  (jg:∀(j:Nat) t v,fn.params[j]?=some t->args[j]?=some v->Value.okWide P W .any base t v)
  (z5:DataW.Whole enc P fn.params.toList s.vars apart W args.toList ds gs before) :
  Calls P f args W λe uA=>∃v,e=.returned v/\s.post enc P fn apart fresh handsOn again W args v uA:=by
 have Yp:=z5;obtain⟨p,q,dX,rj,rfl,a2,aL⟩:=z5;obtain⟨⟨uz,F,G⟩,-,-⟩:=Yo cZ (λj t v b0 aN=>jg j t v (by simpa using b0) (by simpa using aN)) dX
 have hlen:(D ds)=D fn.params.toList:=by
  have:∀(vq:List TypeId) (vs:List Value) (ds:List (DataW gR)) (cO:List MemPlace),DataW.TrodAll enc P W 0 (λ_=>true) true vq vs ds cO->(D ds)=D vq:=by
   intro vq
   induction vq with
   |nil=>intro vs ds cO h;obtain⟨rfl,rfl,rfl⟩:=trodAll_nil h;rfl
   |cons t r aG=>intro vs ds cO h;obtain⟨v,avG,d,avH,a,b,rfl,rfl,rfl,-,G⟩:=trodAll_cons h;simp[aG _ _ _ G]
  exact this _ _ _ _ dX
 have J:=aE.run uz _ (ec uz F) (λ_=>False) W args.toList (λb ad=>ad.elim) G;have aZ:args.toList.toArray=args:=by simp
 rw[aZ] at J;refine J.mono λe uA ⟨v,he,bg,Z⟩=>⟨v,he,?_⟩
 have:v=.bool true:=by
  have ou:Den uA (λ_=>False) (.bool true) v:=Z
  cases ou
  rfl
 subst this;exact avO Yp aN cZ jg X ad (kS ds hlen) bg
def agJ {α:Type}{l:List α}{n:Nat}(h:(D l)=n+1):∃d t,l=d::t/\D t=n:=by
 cases l with
 |nil=>simp at h
 |cons d t=>exact⟨d,t,rfl,by simpa using h⟩
def Yq {α:Type}{e:α->List Data}{good:α->Prop}:∀{es:List (List Data)},(∀x∈es,∃a,x=e a/\good a)->∃l:List α,es=l.map e/\∀a∈l,good a
 | [],_=>⟨[],rfl,by simp⟩
 |x::r,h=>by
  obtain⟨a,rfl,aZ⟩:=h x (by simp);obtain⟨l,rfl,aq⟩:=Yq (es:=r) λy aj=>h y (by simp[aj]);exact⟨a::l,rfl,λb ad=>(n2.1 ad).elim (λe=>e ▸ aZ) (aq b)⟩
end
end Go.Mini
namespace Go.Mini
open Go
def BR (x:M)(m:Mem):M->Mem->Prop:=λr mem'=>r=x/\mem'=m
@[go_sem high] def aNQ {K:bc->Prop}(x:M)(m:Mem)(d:Option Nat)(st:bc):yu K (some (.rel (BR x m))) d st=K ⟨put st.tm d x,m⟩:=by
 rw[at3];apply propext;exact⟨λh=>h x m ⟨rfl,rfl⟩,λh r mem' ⟨au,aC⟩=>by rw[au,aC];exact h⟩
def DN (bs:List M->Mem->Option (M×Mem))(args:List M)(mem:Mem):Option hA:=(bs args mem).map λx => .rel (BR x.1 x.2)
@[go_sem] def aNR (bs:List M->Mem->Option (M×Mem))(args:List M)(mem:Mem):DN bs args mem=(bs args mem).map λx => .rel (BR x.1 x.2):=bE
structure Nm (P:Program) (f:FuncId) (bs:List M->Mem->Option (M×Mem)):Prop where
 real:Real P f
 run:∀args mem x,bs args mem=some x->∀A w B vs,fQ A w B mem->dL w (ct A B) B args vs->XM P f vs A w B mem (.rel (BR x.1 x.2))
def Ji (res:List py)(x:M)(m:Mem):eK->bc->Prop
 |.exit _,_=>False
 |.normal,st=>pz st res=some x/\st.mem=m
 |.ret,st=>pz st res=some x/\st.mem=m
@[go_sem] def aNS {res:List py}{st:bc}(x:M)(m:Mem)(id:Nat):Ji res x m (.exit id) st=False:=bE
@[go_sem] def aNT {res:List py}{st:bc}(x:M)(m:Mem):Ji res x m .normal st=(pz st res=some x/\st.mem=m):=bE
@[go_sem] def aNU {res:List py}{st:bc}(x:M)(m:Mem):Ji res x m .ret st=(pz st res=some x/\st.mem=m):=bE
def agK {P : Program}{T : ba}{kb : Nat}{own : List Nat}(di : r6 P T)(hm : P.follows .mixedOrders = true){f : FuncId}{fn : Func}{mf : bJ}(aH : P.funcs[f]? = some fn)(vI : (fn.name == "runtime.NumGoroutine") = false)(a8 : r2 P kb own fn = some { mf with body := erase mf.body })
  {bs:List M->Mem->Option (M×Mem)} (h:∀args mem x,bs args mem=some x->(D args)<=mf.n/\wp T mf.body (Ji mf.res x.1 x.2) ⟨kq args,mem⟩):Nm P f bs:=by
 refine⟨?_,λargs mem x qs A w B vs cf aN=>?_⟩
 ·cases ad:fn.body with
  |none=>simp[r2,ad] at a8
  |some c=>exact⟨fn,c,aH,ad,vI⟩
 ·obtain⟨hlen,BO⟩:=h args mem x qs;refine Calls.mono (Nb (Post:=BR x.1 x.2) di hm aH a8 hlen (λe st I=>?_) BO cf aN) λe aX he=>?_
  ·cases e with
   |exit id=>exact I
   |normal=>exact⟨_,I.1,rfl,I.2⟩
   |ret=>exact⟨_,I.1,rfl,I.2⟩
  ·obtain⟨v,m,mem',bD,rfl,R,pB,aE⟩:=he;exact⟨v,m,mem',bD,rfl,R,pB,aE⟩
def Sj:Option (M×Mem)->Option hA->Option hA
 |some x,_=>some (.rel (BR x.1 x.2))
 |none,e=>e
@[go_sem] def aNV (x:M×Mem)(e:Option hA):Sj (some x) e=some (.rel (BR x.1 x.2)):=bE
@[go_sem] def aNW (e:Option hA):Sj none e=e:=bE
def BS (aO:List Data->Option eb)(bs:List M->Mem->Option (M×Mem))(args:List M)(mem:Mem):Option hA:=Sj (bs args mem) (aK aO args mem)
@[go_sem] def aNX (aO:List Data->Option eb)(bs:List M->Mem->Option (M×Mem))(args:List M)(mem:Mem):BS aO bs args mem=Sj (bs args mem) (aK aO args mem):=bE
open Classical in
def Jj {α:Type}(bk:α->List M->Mem->Prop)(res:α->Mem->M×Mem):List M->Mem->Option (M×Mem):=λargs mem=>if h:∃a,bk a args mem then some (res (z3 h) mem) else none
def agL {α:Type}{bk:α->List M->Mem->Prop}{res:α->Mem->M×Mem}(uniq:∀a b args mem,bk a args mem->bk b args mem->res a mem=res b mem){a:α}{args:List M}{mem:Mem}(h:bk a args mem):Jj bk res args mem=some (res a mem):=by
 have L:∃b,bk b args mem:=⟨a,h⟩;unfold Jj;rw[dif_pos L,uniq _ _ _ _ (qo L) h]
def Yr {α:Type}{bk:α->List M->Mem->Prop}{res:α->Mem->M×Mem}{args:List M}{mem:Mem}{x:M×Mem}(h:Jj bk res args mem=some x):∃a,bk a args mem/\x=res a mem:=by
 unfold Jj at h
 split at h
 ·rename_i L;exact⟨_,qo L,(nu h).symm⟩
 ·cases h
def z6:Nat->Nat->List Int
 |0,_=>[]
 |f+1,n=>if n=0 then [] else ((n%1048576:Nat):Int)::z6 f (n/1048576)
def aY (n:Nat):List Int:=z6 n n
def bo:List Int->Int
 | []=>0
 |d::r=>d+1048576*bo r
def vK (d:Int)(r:List Int):bo (d::r)=d+1048576*bo r:=rfl
def fo (l:List Int):Prop:=∀d∈l,0<=d/\d<1048576
def gS:List Int->List Int
 | []=>[]
 |d::r=>if gS r=[] then (if d=0 then [] else [d]) else d::gS r
def aI (n:Int):List Data:=[.int .i64 n]
def kz (b:Int):(aI b).length=1:=rfl
def z7 (b:Int):((aI b).map M.H).all M.one=true:=rfl
def gq:∀a b:Int,aI a=aI b->a=b:=by intro a b h;simpa [aI] using h
def avQ:∀(f g n:Nat),n<=f->n<=g->z6 f n=z6 g n:=by
 intro f
 induction f with
 |zero =>
      intro g n h _;obtain rfl:n=0:=by omega
      cases g<;>simp[z6]
 |succ f aG =>
  intro g n F G
  cases g with
  |zero =>
       obtain rfl:n=0:=by omega
       simp[z6]
  |succ g =>
   unfold z6
   by_cases aL:n=0
   ·rw[Y aL,Y aL]
   ·rw[aa aL,aa aL,aG g (n/1048576) (by omega) (by omega)]
def uB:aY 0=[]:=rfl
def w9 {n:Nat}(h:0<n):aY n=((n%1048576:Nat):Int)::aY (n/1048576):=by
 unfold aY;obtain⟨k,rfl⟩:∃k,n=k+1:=⟨n-1,by omega⟩
 conv=>lhs;unfold z6
 rw[aa (by omega),avQ k ((k+1)/1048576) _ (by omega) (by omega)]
def m0 (n:Nat):bo (aY n)=n:=by
 induction n using MW with
 |_ n aG =>
  rcases kO n with rfl|h
  ·rfl
  ·rw[w9 h];unfold bo;rw[aG _ (by omega)];omega
def Nn {a b:Nat}(h:aY a=aY b):a=b:=by
 have:=congrArg bo h;rw[m0,m0] at this;omega
def n3 (n:Nat):fo (aY n):=by
 induction n using MW with
 |_ n aG =>
  rcases kO n with rfl|h
  ·intro d Z;cases Z
  ·rw[w9 h];intro d Z;rcases n2.1 Z with rfl|Z
   ·omega
   ·exact aG _ (by omega) d Z
def BT {n:Nat}:aY n=[]↔n=0:=by
 constructor
 ·intro h;exact Nn (b:=0) h
 ·rintro rfl;rfl
def qt {l:List Int}(h:fo l):0<=bo l:=by
 induction l with
 |nil=>exact Int.le_refl _
 |cons d r aG =>
  have F:=h d (by simp);have G:=aG λx L=>h x (by simp[L]);unfold bo;omega
def Gh {d:Int}{r:List Int}:fo (d::r)↔(0<=d/\d<1048576)/\fo r :=
 ⟨λh=>⟨h d (by simp),λx L=>h x (by simp[L])⟩,λh x L=>(n2.1 L).elim (λe=>e ▸ h.1) (h.2 x)⟩
def Gi {a b:List Int}:fo (a++b)↔fo a/\fo b :=
 ⟨λh=>⟨λx L=>h x (by simp[L]),λx L=>h x (by simp[L])⟩,λh x L=>(jH.1 L).elim (h.1 x) (h.2 x)⟩
def Gj (a b:List Int):bo (a++b)=bo a+1048576^(D a)*bo b:=by
 induction a with
 |nil=>simp[bo]
 |cons d r aG =>
  simp only[m1,bo,aG,lJ,oA];rw[jI]
  have:(1048576:Int)*(1048576^(D r)*bo b)=1048576^(D r)*1048576*bo b:=by
   rw[oB (1048576^(D r)) 1048576,jJ]
  omega
def BU {l:List Int}(h:fo l):bo l<1048576^(D l):=by
 induction l with
 |nil=>simp[bo]
 |cons d r aG =>
  rw[Gh] at h;have G:=aG h.2;simp only[bo,lJ,oA];omega
def agM (l:List Int):gS (l++[0])=gS l:=by
 induction l with
 |nil=>simp[gS]
 |cons d r aG=>simp only[m1,gS,aG]
def agN (l:List Int){d:Int}(h:d≠0):gS (l++[d])=l++[d]:=by
 induction l with
 |nil=>simp[gS,h]
 |cons x r aG=>simp only[m1,gS,aG];simp
def BV {l:List Int}(h:fo l):gS l=aY (bo l).toNat:=by
 induction l with
 |nil=>rfl
 |cons d r aG =>
  rw[Gh] at h;have X:=aG h.2;have aN:=qt h.2;unfold gS;rw[X,vK]
  by_cases a2:bo r=0
  ·rw[a2]
   by_cases Z:d=0
   ·simp[Z,uB]
   ·rw[Y (by rfl),aa Z];rw[w9 (by omega)];rw[show (d+1048576*0).toNat/1048576=0 by omega,uB]
    congr 1
    omega
  ·rw[aa (by rw[BT];omega)];rw[w9 (n:=(d+1048576*bo r).toNat) (by omega)]
   congr 1
   ·omega
   ·congr 1;omega
def agO (n:Nat):gS (aY n)=aY n:=by
 rw[BV (n3 n),m0];simp
def canon {l:List Int}(h:fo l)(aq:l.getLast?≠some 0):l=aY (bo l).toNat:=by
 rw[<-BV h];rcases BW l with rfl|⟨r,d,rfl⟩
 ·rfl
 ·rw[BX] at aq ⊢;rw[agN];rintro rfl;simp at aq
def agP (n:Nat):(aY n).getLast?≠some 0:=by
 intro h
 obtain⟨r,X⟩:∃r,aY n=r++[0]:=by
  rcases BW (aY n) with e|⟨r,d,e⟩
  ·rw[e] at h;cases h
  ·rw[BX] at e;rw[e] at h;simp at h;subst h;exact⟨r,e⟩
 have F:=agO n;rw[X,agM] at F
 have G:(gS r).length<=D r:=by
  clear F X h
  induction r with
  |nil=>simp[gS]
  |cons d r aG=>unfold gS;split<;>(try split)<;>simp<;>omega
 rw[F] at G;simp at G;omega
def g9 {n k:Nat}:(aY n).length<=k↔n<1048576^k:=by
 induction k generalizing n with
 |zero =>
      rw[Nat.pow_zero];constructor
      ·intro h;have:=vu (Nat.le_zero.1 h);rw[BT] at this;omega
      ·intro h;obtain rfl:n=0:=by omega
       simp[uB]
 |succ k aG =>
  rcases kO n with rfl|h
  ·simp[uB];exact Jk (by simp)
  ·rw[w9 h,lJ,xa];have:=aG (n:=n/1048576);rw[Nat.add_le_add_iff_right,this];rw[agQ (by omega)]
def Gk {n:Nat}(h:0<n)(F:n<1048576):aY n=[(n:Int)]:=by
 rw[w9 h,Yi F,Nk F];rfl
def Np (l:List Int)(i:Nat):bo l=bo (l.take i)+1048576^(min i (D l))*bo (l.drop i):=by
 conv=>lhs;rw[<-DM i l]
 rw[Gj,gP]
def BZ (n:Int)(h:0<=n/\n<18446744073709551616):IntKind.u64.wrap n=n:=by
 simp[IntKind.wrap,IntKind.bits,IntKind.signed];omega
def B0 (n:Int):bits .and .i64 n 1048575=n%1048576:=by
 have G:(1048575:Int)=((2^20-1:Nat):Int):=by decide
 have F:n%18446744073709551616%1048576=n%1048576:=by omega
 obtain⟨a,aZ⟩:∃a:Nat,(a:Int)=n%18446744073709551616:=⟨(n%18446744073709551616).toNat,by omega⟩
 have e:BitVec.ofInt 64 n=BitVec.ofNat 64 a:=by
  apply BitVec.eq_of_toInt_eq;rw[BitVec.toInt_ofInt,BitVec.toInt_ofNat',aZ];simp[agR,agS]
 have aC:bits .and .i64 n 1048575=bits .and .i64 (a:Int) 1048575:=by
  simp only[bits];rw[show IntKind.i64.bits=64 from rfl,e,BitVec.ofInt_natCast]
 rw[aC,<-F,<-aZ,G];have Ys:a<2^64:=by omega
 simp only[bits,BitVec.ofInt_natCast,BitVec.toNat_and,BitVec.toNat_ofNat,show IntKind.i64.bits=64 from rfl,Nk Ys];rw[show (2^20-1:Nat)%2^64=2^20-1 by decide,agT,wrap64 _ (by omega) (by omega)]
 omega
def agU (n:Int)(h:0<=n/\n<18446744073709551616):bits .and .u64 n 1048575=n%1048576:=by
 have:=bits_mask .u64 64 (by decide) (λn F G=>BZ n ⟨F,by omega⟩) 20 (by decide) n h.1 (by omega)
 simpa using this
def Yt (x y:Int)(L:0<=x)(ux:x<8796093022208)(aj:0<=y/\y<1048576):bits .or .i64 (x*1048576) y=x*1048576+y:=by
 refine bits_join .i64 63 (by decide) (λn F G=>wrap64 n (by omega) (by omega)) 20 _ _ (by omega) (by omega) (by omega) aj.1 (by omega) (by omega)
def avR (n:Int):n.fdiv (2^20)=n/1048576:=by
 rw[Yu _ (by decide)];rfl
def yz (n:Int):n.fdiv (2^min (Gl 20) 64)=n/1048576:=avR n
def Yv:FuncId:=224
def Yw:FuncId:=215
def Jl:FuncId:=227
def o1:FuncId:=84
def DO:FuncId:=40
def DP:FuncId:=19
def B1:FuncId:=35
def vL:FuncId:=233
def Yx:FuncId:=234
def Sk:FuncId:=235
def Yy:FuncId:=173
def Yz:FuncId:=225
def Gm:FuncId:=96
def YA:FuncId:=214
def xb:FuncId:=43
def yA:FuncId:=36
def sa:FuncId:=38
def mj:FuncId:=146
def Nq:FuncId:=147
def YB:FuncId:=148
def YC:FuncId:=90
def xc:FuncId:=85
def Gn:FuncId:=86
def Sl:FuncId:=55
def Nr:FuncId:=82
def Jm:FuncId:=83
def YD:FuncId:=239
def YE:FuncId:=201
def Sm:FuncId:=236
def YF:FuncId:=237
def Ns:FuncId:=152
def Sn:FuncId:=165
def YG:FuncId:=223
def Jn:FuncId:=91
def Gp:FuncId:=88
def YH:FuncId:=89
def xd:FuncId:=149
def z8:FuncId:=94
def Nt:FuncId:=156
def qu:FuncId:=150
def YI:FuncId:=189
def YJ:FuncId:=161
def Jo:FuncId:=151
def ml:FuncId:=141
def Jp:FuncId:=142
def Nu:FuncId:=143
def Gq:FuncId:=144
def qv:FuncId:=145
def Nv:FuncId:=240
def DQ:FuncId:=241
def Gr:FuncId:=155
def avS:FuncId:=231
def YK:FuncId:=232
def Nw:FuncId:=157
def Jq:FuncId:=158
def Jr:FuncId:=159
def Gs:FuncId:=160
def So:FuncId:=192
def sb:FuncId:=190
def YL:FuncId:=193
def YM:FuncId:=195
def Nx:FuncId:=187
def Ny:FuncId:=181
def DR:FuncId:=183
def vM:FuncId:=188
def Sp:FuncId:=194
def DS:FuncId:=182
def Gt:FuncId:=170
def vN:FuncId:=200
def YN:FuncId:=198
def YO:FuncId:=216
def YP:FuncId:=217
def yB:FuncId:=60
def qw:FuncId:=108
def DT:FuncId:=133
def YQ:FuncId:=226
def YR:FuncId:=228
def Sq:FuncId:=229
def yC:FuncId:=109
def YS:FuncId:=110
def Gu:FuncId:=111
def Nz:FuncId:=168
def YT:FuncId:=129
def Js:FuncId:=134
def Sr:FuncId:=238
def Gv:FuncId:=169
def YU:FuncId:=199
def Gw:FuncId:=33
def NA:FuncId:=75
def Ss:FuncId:=76
def NB:FuncId:=77
def pM:FuncId:=78
def DU:FuncId:=79
def Gx:FuncId:=80
def St:FuncId:=81
def B2:FuncId:=900234
def YV:FuncId:=154
def z9:FuncId:=153
def DV:FuncId:=137
def NC:FuncId:=138
def ND:FuncId:=139
def NF:FuncId:=106
def NG:FuncId:=107
def YW:FuncId:=140
def YX:FuncId:=87
def Jt:FuncId:=162
def NH:FuncId:=163
def Ju:FuncId:=164
def Jv:FuncId:=191
def YY:FuncId:=167
def Su:FuncId:=185
def YZ:FuncId:=186
def Gy:FuncId:=53
def Y0:FuncId:=98
def Sv:FuncId:=99
def uC:FuncId:=61
def rl:FuncId:=100
def sc:FuncId:=101
def NI:FuncId:=102
def Sw:FuncId:=103
def Y1:FuncId:=166
def Jw:FuncId:=112
def Y2:FuncId:=70
def Y3:FuncId:=196
def Sx:FuncId:=197
def Y4:FuncId:=130
def Y5:FuncId:=131
def DW:FuncId:=132
def Sy:FuncId:=900113
def agV:FuncId:=900115
def agW:FuncId:=900116
def NJ:FuncId:=900126
def NK:FuncId:=900171
def NL:FuncId:=900172
def Gz:FuncId:=900174
def NM:FuncId:=900179
def avT:FuncId:=3
def Y6:FuncId:=11
def Y7:FuncId:=12
def Y8:FuncId:=13
def B3:FuncId:=14
def GA:FuncId:=15
def GC:FuncId:=16
def NN:FuncId:=17
def Y9:FuncId:=18
def B4:FuncId:=20
def GD:FuncId:=21
def GF:FuncId:=22
def NO:FuncId:=23
def NP:FuncId:=24
def Za:FuncId:=25
def GG:FuncId:=50
def Jx:FuncId:=51
def GH:FuncId:=52
def uD:FuncId:=54
def Zb:FuncId:=56
def NQ:FuncId:=57
def Zc:FuncId:=58
def NR:FuncId:=59
def Zd:FuncId:=97
def yD:FuncId:=104
def GI:FuncId:=105
abbrev E (a b:Nat):cN:=⟨some a,none,.ko (.t b)⟩
abbrev aA (a n b:Nat):cN:=⟨some a,none,.load n false (.t b)⟩
abbrev aS (a n b:Nat):cN:=⟨some a,none,.load n true (.t b)⟩
abbrev aD (a n b:Nat):cN:=⟨some a,none,.zI n (.t b)⟩
abbrev aT (n a b:Nat):cN:=⟨none,none,.store n (.t a) (.t b)⟩
abbrev a7 (a:Nat)(n:Int):cN:=⟨some a,none,.ko (.c (.H (.int .i64 n)))⟩
abbrev a0 (a n b:Nat):cN:=⟨some a,none,.ext n (.t b)⟩
abbrev br (a n b c:Nat):cN:=⟨some a,none,.q2 n (.t b) (.t c)⟩
abbrev cq (a b:Nat):cN:=⟨some a,none,.len (.t b)⟩
abbrev cx (a:Nat)(b:Bool):cN:=⟨some a,none,.ko (.c (.H (.bool b)))⟩
abbrev dO (a:Nat):cN:=⟨some a,none,.ko (.c .nil)⟩
abbrev bp (a:Nat)(o:BinOp)(b c:Nat):cN:=⟨some a,none,.bin o (.t b) (.t c)⟩
abbrev a3 (a:Nat)(o:BinOp)(b:Nat)(n:Int):cN:=⟨some a,none,.bin o (.t b) (.c (.H (.int .i64 n)))⟩
abbrev cv (a b c:Nat):cN:=⟨some a,none,.pick (.t b) (.c (.H (.bool true))) (.t c)⟩
abbrev gr (a b c:Nat):cN:=⟨some a,none,.pick (.t b) (.t c) (.c (.H (.bool false)))⟩
abbrev c0 (a k b:Nat):cN:=⟨some a,none,.box k (.t b)⟩
abbrev e7 (a b:Nat):cN:=⟨some a,none,.oq (.t b)⟩
abbrev fb (a b:Nat):cN:=⟨some a,none,.un .not (.t b)⟩
abbrev dG (a g n b:Nat):cN:=⟨some a,some (g,false),.load n false (.t b)⟩
abbrev iR (a g n b:Nat):cN:=⟨some a,some (g,false),.load n true (.t b)⟩
abbrev fr (a g b:Nat):cN:=⟨some a,some (g,false),.ko (.t b)⟩
abbrev ez (a g n b:Nat):cN:=⟨some a,some (g,false),.zI n (.t b)⟩
abbrev ha (a g b:Nat):cN:=⟨some a,some (g,false),.un .not (.t b)⟩
abbrev pN (a g b:Nat):cN:=⟨some a,some (g,false),.len (.t b)⟩
abbrev B5 (a g n b c:Nat):cN:=⟨some a,some (g,false),.q2 n (.t b) (.t c)⟩
abbrev rm (a g:Nat)(o:BinOp)(b c:Nat):cN:=⟨some a,some (g,false),.bin o (.t b) (.t c)⟩
abbrev fc (a g:Nat)(o:BinOp)(b:Nat)(n:Int):cN:=⟨some a,some (g,false),.bin o (.t b) (.c (.H (.int .i64 n)))⟩
abbrev j4 (a g n b:Nat):cN:=⟨some a,some (g,true),.load n false (.t b)⟩
abbrev uE (a g n b:Nat):cN:=⟨some a,some (g,true),.load n true (.t b)⟩
abbrev eg (a g b:Nat):cN:=⟨some a,some (g,true),.ko (.t b)⟩
abbrev n4 (a g n b:Nat):cN:=⟨some a,some (g,true),.zI n (.t b)⟩
abbrev B6 (a g b:Nat):cN:=⟨some a,some (g,true),.un .not (.t b)⟩
abbrev NS (a g b:Nat):cN:=⟨some a,some (g,true),.len (.t b)⟩
abbrev rn (a g n b c:Nat):cN:=⟨some a,some (g,true),.q2 n (.t b) (.t c)⟩
abbrev uF (a g:Nat)(o:BinOp)(b c:Nat):cN:=⟨some a,some (g,true),.bin o (.t b) (.t c)⟩
abbrev k7 (a g:Nat)(o:BinOp)(b:Nat)(n:Int):cN:=⟨some a,some (g,true),.bin o (.t b) (.c (.H (.int .i64 n)))⟩
abbrev bM (n:Int):M:=.H (.int .i64 n)
abbrev oC:List M:=[.nil,bM 0,.nil,bM 0,.nil]
abbrev cG:List M:=[bM 0,.nil,bM 0,.nil]
abbrev lS:List M:=[bM 0,bM 0,bM 0,bM 0]
abbrev dP:List M:=[bM 0,.nil]
abbrev sd:List M:=[.nil,.nil,.nil]
abbrev bQ (a k:Nat)(z:List M):cN:=⟨some a,none,.alloc k z⟩
abbrev dY (i:Nat)(c:er):er:=.block i (.loop c)
abbrev dq (n i:Nat):er:=.cond (.t n) .skip (.exit i)
abbrev b4 (n:Nat)(l:List cN):er:=.cond (.t n) (.seq (.ops l) .ret) .skip
abbrev dv (a:Nat)(f:FuncId)(x:Nat):cN:=⟨some a,none,.call f [.t x]⟩
abbrev bI (a:Nat)(f:FuncId)(x y:Nat):cN:=⟨some a,none,.call f [.t x,.t y]⟩
abbrev uG (a:Nat)(f:FuncId)(x y z:Nat):cN:=⟨some a,none,.call f [.t x,.t y,.t z]⟩
abbrev DX (a:Nat)(f:FuncId)(x y z u:Nat):cN:=⟨some a,none,.call f [.t x,.t y,.t z,.t u]⟩
abbrev aP (a:Nat)(o:kN):cN:=⟨some a,none,o⟩
abbrev e3 (a b:Nat)(o:kN):cN:=⟨some a,some (b,false),o⟩
abbrev h0 (a b:Nat)(o:kN):cN:=⟨some a,some (b,true),o⟩
abbrev b5 (n m:Nat)(r:List py)(b:er):bJ:=⟨n,m,r,b⟩
abbrev e8 (n:Nat)(a b:er):er:=.cond (.t n) a b
abbrev Q (l:List cN)(c:er):er:=.seq (.ops l) c
abbrev ed (l:List cN)(x:List (List Nat))(c:er):er:=.seq (.l9 l x) c
abbrev agX:List (List Nat):=[[],[],[],[],[]]
abbrev Ze:List (List Nat):=[[],[],[],[],[],[]]
abbrev Zf:List (List Nat):=[[],[],[],[],[],[],[]]
abbrev Zg:List (List Nat):=[[],[],[],[],[],[],[],[]]
abbrev Sz:List (List Nat):=[[],[],[],[],[],[],[],[],[]]
abbrev Jy:List (List Nat):=[[],[],[],[],[],[],[],[],[],[]]
abbrev Aa:List (List Nat):=[[],[],[],[],[],[],[],[],[],[],[]]
abbrev agY:List (List Nat):=[[],[],[],[],[],[],[],[],[],[],[],[]]
abbrev GJ:List (List Nat):=[[],[],[],[],[],[],[],[],[],[],[],[],[]]
abbrev NT:List (List Nat):=[[],[],[],[],[],[],[],[],[],[],[],[],[],[]]
abbrev avU:List (List Nat):=[[],[],[],[],[],[],[],[],[],[],[],[],[],[],[]]
abbrev DY:List (List Nat):=[[],[],[],[],[],[],[],[],[],[],[],[],[],[],[],[]]
abbrev agZ:List (List Nat):=[[],[],[],[],[],[],[],[],[],[],[],[],[],[],[],[],[]]
abbrev Zh:List (List Nat):=[[],[],[],[],[],[],[],[],[],[],[],[],[],[],[],[],[],[]]
abbrev avV:List (List Nat):=[[],[],[],[],[],[],[],[],[],[],[],[],[],[],[],[],[],[],[],[]]
abbrev avW:List (List Nat):=[[],[],[],[],[],[],[],[],[],[],[],[],[],[],[],[],[],[],[],[],[]]
abbrev avX:List (List Nat):=[[],[],[],[],[],[],[],[],[],[],[],[],[],[],[],[],[],[],[],[],[],[],[],[]]
abbrev avY:List (List Nat):=[[],[],[],[],[],[],[],[],[],[],[],[],[],[],[],[],[],[],[],[],[],[],[],[],[],[]]
abbrev avZ:List (List Nat):=[[],[],[],[],[],[],[],[],[],[],[],[],[],[],[],[],[],[],[],[],[],[],[],[],[],[],[]]
abbrev av0:List (List Nat):=[[],[],[],[],[],[],[],[],[],[],[],[],[],[],[],[],[],[],[],[],[],[],[],[],[],[],[],[]]
abbrev av1:List (List Nat):=[[],[],[],[],[],[],[],[],[],[],[],[],[],[],[],[],[],[],[],[],[],[],[],[],[],[],[],[],[],[]]
def ag0:bJ:=b5 49 1 [.t 2] (Q [c0 1 136001 0,cx 2 false] (Q [aD 6 1 1,aA 7 1 6,cq 8 7,E 3 8] (.seq (Q [aD 9 1 1,aA 10 1 9,cq 11 10,a7 12 0] (dY 0 (Q [bp 13 .lss 12 11] (.seq (dq 13 0) (.seq (.block 1 (Q [br 14 1 10 12,aA 15 1 14,E 5 15] (Q [E 16 5,a3 17 .lss 16 0,E 18 17,fr 19 18 5,fc 20 18 .gtr 19 1048575,cv 21 18 20] (b4 21 [cx 2 false])))) (.ops [a3 22 .add 12 1,E 12 22])))))) (.seq (Q [E 23 3,a3 24 .eql 23 0] (b4 24 [aD 25 0 1,aA 26 1 25,a3 27 .eql 26 0,E 2 27])) (Q [aD 28 0 1,aA 29 1 28,a3 30 .eql 29 1,E 31 30,ez 32 31 0 1,dG 33 31 1 32,e3 34 31 (.bin .eql (.t 33) (.c (.H (.int .i64 (-1))))),cv 35 31 34,E 36 35,eg 37 36 3,k7 38 36 .leq 37 60,gr 39 36 38,E 40 39,n4 41 40 1 1,j4 42 40 1 41,eg 43 40 3,k7 44 40 .sub 43 1,rn 45 40 1 42 44,j4 46 40 1 45,k7 47 40 .neq 46 0,gr 48 40 47,E 2 48] .ret)))))
def ag1:bJ:=b5 44 2 [.cell 4 2 true,.t 5] (Q [c0 2 137002 0,c0 3 137003 1,bQ 4 137004 dP,a7 5 0] (.seq (Q [aS 10 2 2,dv 11 mj 10,fb 12 11,E 13 12,iR 14 13 2 3,e3 15 13 (.call mj [.t 14]),ha 16 13 15,cv 17 13 16] (b4 17 [aP 18 (.build dP []),aP 19 (.call xd [.c (.H (.bool false)),.t 18]),a0 20 0 19,a0 21 1 19,aT 2 4 20,E 5 21])) (ed [aD 22 1 2,aA 23 1 22,dv 24 z8 23,aD 25 1 3,aA 26 1 25,E 6 24,E 7 26] Zf (.seq (dY 0 (.seq (Q [E 27 7,cq 28 27,a3 29 .gtr 28 0] (dq 29 0)) (.block 1 (Q [E 31 6,E 32 7,bI 33 Nt 31 32,E 30 33,a0 34 0 30,a0 35 1 30,E 8 34,E 9 35] (.ops [E 36 7,E 37 9,E 6 36,E 7 37]))))) (Q [E 38 6,dv 39 z8 38,aP 40 (.call qu [.c (bM 1),.t 39]),aP 41 (.call xd [.c (.H (.bool true)),.t 40]),a0 42 0 41,a0 43 1 41,aT 2 4 42,E 5 43] .ret)))))
def ag2:bJ:=b5 32 2 [.cell 4 2 true,.t 5] (Q [c0 2 140002 0,c0 3 140003 1,bQ 4 140004 dP,a7 5 0] (.seq (Q [aS 6 2 2,dv 7 mj 6,fb 8 7,E 9 8,iR 10 9 2 3,e3 11 9 (.call mj [.t 10]),ha 12 9 11,cv 13 9 12] (b4 13 [aP 14 (.build dP []),aP 15 (.call xd [.c (.H (.bool false)),.t 14]),a0 16 0 15,a0 17 1 15,aT 2 4 16,E 5 17])) (ed [aD 18 0 2,aA 19 1 18,aD 20 0 3,aA 21 1 20,bp 22 .mul 19 21,aD 23 1 2,aA 24 1 23,aD 25 1 3,aA 26 1 25,bI 27 Jo 24 26,bI 28 qu 22 27,aP 29 (.call xd [.c (.H (.bool true)),.t 28]),a0 30 0 29,a0 31 1 29,aT 2 4 30,E 5 31] DY .ret)))
def ag3:bJ:=b5 25 1 [.cell 2 2 true] (Q [bQ 2 150002 dP] (Q [E 6 0,aP 7 (.conv .u64 (.t 6)),a7 3 1,E 4 7] (.seq (Q [E 8 0,a3 9 .lss 8 0] (e8 9 (.ops [E 10 4,aP 11 (.un .neg (.t 10)),aP 3 (.ko (.c (.H (.int .i64 (-1))))),E 4 11]) .skip)) (Q [dO 5] (.seq (.block 0 (.ghost (.nq 5 150021 1) (.loop  (.seq (Q [E 12 4,aP 13 (.bin .gtr (.t 12) (.c (.H (.int .u64 0))))] (dq 13 0)) (.seq (.block 1 (.ops [E 16 5,E 17 4,aP 18 (.bin .and (.t 17) (.c (.H (.int .u64 1048575)))),aP 19 (.conv .i64 (.t 18)),aP 20 (.eW 150020 false [bM 0] 1 1 [(0,1,.t 19)]),aP 21 (.app 150021 [bM 0] 8 (.t 16) (.t 20)),E 5 21])) (.ops [E 14 4,aP 15 (.bin .shr (.t 14) (.c (.H (.int .u64 20)))),E 4 15])))))) (.seq (.ghost (.freeze 5) (.ops [E 22 3,E 23 5,bI 24 qu 22 23,aT 2 2 24])) .ret))))))
def ag4:bJ:=b5 14 1 [.cell 2 2 true] (Q [c0 1 152001 0,bQ 2 152002 dP] (.seq (Q [aS 3 2 1,dv 4 mj 3,fb 5 4] (b4 5 [aP 6 (.build dP []),aT 2 2 6])) (ed [aD 7 0 1,aA 8 1 7,aP 9 (.un .neg (.t 8)),aD 10 1 1,aA 11 1 10,dv 12 z8 11,bI 13 qu 9 12,aT 2 2 13] Zg .ret)))
def ag5:bJ:=b5 67 2 [.cell 4 2 true,.cell 5 2 true,.t 6] (Q [c0 2 153002 0,c0 3 153003 1,bQ 4 153004 dP,bQ 5 153005 dP,a7 6 0] (.seq (.block 0 (Q [aS 10 2 2,dv 11 mj 10,fb 12 11,E 13 12,iR 14 13 2 3,e3 15 13 (.call mj [.t 14]),ha 16 13 15,cv 17 13 16,E 9 17] (e8 9 (Q [aP 18 (.build dP []),aP 19 (.build dP []),aT 2 4 18,aT 2 5 19,a7 6 1] .ret) (Q [aD 21 0 3,aA 22 1 21,a3 23 .eql 22 0,E 20 23] (b4 20 [aP 24 (.build dP []),aP 25 (.build dP []),aT 2 4 24,aT 2 5 25,a7 6 15]))))) (Q [aD 27 1 2,aA 28 1 27,aD 29 1 3,aA 30 1 29,bI 31 Nt 28 30,E 26 31,a0 32 0 26,a0 33 1 26,E 7 32,E 8 33] (.seq (Q [aD 34 0 2,aA 35 1 34,aD 36 0 3,aA 37 1 36,bp 38 .mul 35 37,a3 39 .lss 38 0,E 40 39,eg 41 40 8,NS 42 40 41,k7 43 40 .gtr 42 0,gr 44 40 43] (e8 44 (ed [E 45 7,aP 46 (.eW 153046 false [bM 0] 1 1 [(0,1,.c (bM 1))]),bI 47 Nw 45 46,aP 48 (.call qu [.c (.H (.int .i64 (-1))),.t 47]),aD 49 0 3,aA 50 1 49,aD 51 1 3,aA 52 1 51,E 53 8,bI 54 Jq 52 53,bI 55 qu 50 54,aT 2 4 48,aT 2 5 55,a7 6 0] NT .ret) .skip)) (ed [aD 56 0 2,aA 57 1 56,aD 58 0 3,aA 59 1 58,bp 60 .mul 57 59,E 61 7,bI 62 qu 60 61,aD 63 0 2,aA 64 1 63,E 65 8,bI 66 qu 64 65,aT 2 4 62,aT 2 5 66,a7 6 0] NT .ret)))))
def ag6:bJ:=b5 31 2 [.t 4] (Q [c0 2 154002 0,c0 3 154003 1,a7 4 0] (.seq (Q [aS 5 2 2,dv 6 mj 5,fb 7 6,E 8 7,iR 9 8 2 3,e3 10 8 (.call mj [.t 9]),ha 11 8 10,cv 12 8 11] (b4 12 [a7 4 0])) (.seq (Q [aD 13 0 2,aA 14 1 13,aD 15 0 3,aA 16 1 15,bp 17 .neq 14 16] (b4 17 [aD 18 0 2,aA 19 1 18,aD 20 0 3,aA 21 1 20,bI 22 Jr 19 21,E 4 22])) (ed [aD 23 0 2,aA 24 1 23,aD 25 1 2,aA 26 1 25,aD 27 1 3,aA 28 1 27,bI 29 Gs 26 28,bp 30 .mul 24 29,E 4 30] Sz .ret))))
def ag7:bJ:=b5 17 2 [.cell 4 2 true,.t 5] (Q [c0 3 155003 1,bQ 4 155004 dP,a7 5 0] (.seq (.block 0 (Q [E 7 0,fb 8 7,E 6 8] (e8 6 (Q [aP 9 (.build dP []),aT 2 4 9,a7 5 1] .ret) (Q [aD 11 1 3,aA 12 1 11,cq 13 12,a3 14 .gtr 13 60,E 10 14] (b4 10 [aP 15 (.build dP []),aT 2 4 15,a7 5 6]))))) (Q [aS 16 2 3,aT 2 4 16,a7 5 0] .ret)))
def ag8:bJ:=b5 170 2 [.t 4,.t 5] (Q [dO 4,dO 5] (.seq (Q [E 19 0,E 20 1,bI 21 Gs 19 20,a3 22 .lss 21 0] (b4 22 [E 23 0,dv 24 z8 23,dO 4,E 5 24])) (.seq (Q [E 25 1,cq 26 25,a3 27 .eql 26 1] (e8 27 (Q [E 29 0,E 30 1,aP 31 (.q2 1 (.t 30) (.c (bM 0))),aA 32 1 31,bI 33 So 29 32,E 28 33,a0 34 0 28,a0 35 1 28,E 6 34,E 7 35] (Q [E 36 6,E 37 7,aP 38 (.eW 157038 false [bM 0] 1 1 [(0,1,.t 37)]),dv 39 sb 38,E 4 36,E 5 39] .ret)) .skip)) (Q [a7 8 1] (.seq (dY 0 (.seq (Q [E 40 1,E 41 1,cq 42 41,a3 43 .sub 42 1,br 44 1 40 43,aA 45 1 44,E 46 8,bp 47 .mul 45 46,a3 48 .lss 47 524288] (dq 48 0)) (.block 1 (.ops [E 49 8,a3 50 .mul 49 2,E 8 50])))) (Q [E 51 0,E 52 8,aP 53 (.eW 157053 false [bM 0] 1 1 [(0,1,.t 52)]),aP 54 (.nT 157054 1 Jo [.t 51,.t 53]),aP 55 (.eW 157055 false [bM 0] 1 1 [(0,1,.c (bM 0))]),aP 56 (.app 157056 [bM 0] 8 (.t 54) (.t 55)),E 57 1,E 58 8,aP 59 (.eW 157059 false [bM 0] 1 1 [(0,1,.t 58)]),bI 60 Jo 57 59,E 9 56,E 10 60] (.seq (Q [E 61 9,cq 62 61,E 63 0,cq 64 63,bp 65 .eql 62 64] (e8 65 (.ops [E 66 9,aP 67 (.eW 157067 false [bM 0] 1 1 [(0,1,.c (bM 0))]),aP 68 (.app 157068 [bM 0] 8 (.t 66) (.t 67)),E 9 68]) .skip)) (Q [E 69 10,cq 70 69,E 11 70] (Q [E 71 9,cq 72 71,E 73 11,bp 74 .sub 72 73,aP 75 (.mC 157075 [bM 0] 8 (.t 74) (.t 74)),E 12 75] (.seq (Q [E 76 12,cq 77 76,a3 78 .sub 77 1,E 13 78] (dY 2 (.seq (Q [E 79 13,a3 80 .geq 79 0] (dq 80 2)) (.seq (.block 3 (ed [E 83 9,E 84 13,E 85 11,bp 86 .add 84 85,br 87 1 83 86,aA 88 1 87,aP 89 (.bin .shl (.t 88) (.c (.H (.int .u64 20)))),E 90 9,E 91 13,E 92 11,bp 93 .add 91 92,a3 94 .sub 93 1,br 95 1 90 94,aA 96 1 95,bp 97 .or 89 96,E 14 97] DY (ed [E 98 14,E 99 10,E 100 11,a3 101 .sub 100 1,br 102 1 99 101,aA 103 1 102,bp 104 .quo 98 103,E 105 14,E 106 10,E 107 11,a3 108 .sub 107 1,br 109 1 106 108,aA 110 1 109,bp 111 .rem 105 110,E 15 104,E 16 111] DY (.seq (dY 4 (.seq (ed [E 112 15,a3 113 .geq 112 1048576,E 114 113,fr 115 114 16,fc 116 114 .lss 115 1048576,fr 117 114 116,eg 118 117 15,eg 119 117 10,eg 120 117 11,k7 121 117 .sub 120 2,rn 122 117 1 119 121,j4 123 117 1 122,uF 124 117 .mul 118 123,eg 125 117 16,h0 126 117 (.bin .shl (.t 125) (.c (.H (.int .u64 20)))),eg 127 117 9,eg 128 117 13,eg 129 117 11,uF 130 117 .add 128 129,k7 131 117 .sub 130 2,rn 132 117 1 127 131,j4 133 117 1 132,uF 134 117 .or 126 133,uF 135 117 .gtr 124 134,e3 136 114 (.pick (.t 117) (.t 135) (.c (.H (.bool false)))),cv 137 114 136] avY (dq 137 4)) (.block 5 (Q [E 138 15,a3 139 .sub 138 1,E 15 139] (.ops [E 140 16,E 141 10,E 142 11,a3 143 .sub 142 1,br 144 1 141 143,aA 145 1 144,bp 146 .add 140 145,E 16 146]))))) (.ops [E 147 12,E 148 13,E 149 9,E 150 13,E 151 13,E 152 11,bp 153 .add 151 152,a3 154 .add 153 1,aP 155 (.ua 1 (.t 149) (some (.t 150)) (some (.t 154)) none),E 156 10,E 157 15,uG 158 YL 155 156 157,br 159 1 147 148,aT 1 159 158]))))) (.ops [E 81 13,a3 82 .sub 81 1,E 13 82]))))) (.seq (.ghost (.freeze 9) (.ops [E 161 9,dv 162 sb 161,E 163 8,bI 164 So 162 163,E 160 164,a0 165 0 160,a0 166 1 160,E 17 165,E 18 166])) (.seq (.ghost (.freeze 12) (.ops [E 167 12,dv 168 sb 167,E 169 17,E 4 168,E 5 169])) .ret))))))))))))
def ag9:bJ:=b5 14 2 [.cell 4 2 true] (Q [bQ 4 158004 dP] (Q [E 5 1,dv 6 sb 5,E 1 6] (.seq (Q [E 7 1,cq 8 7,a3 9 .eql 8 0] (b4 9 [aP 10 (.build dP []),aT 2 4 10])) (Q [E 11 0,E 12 1,aP 13 (.build dP [(0,1,.t 11),(1,1,.t 12)]),aT 2 4 13] .ret))))
def aha:bJ:=b5 59 1 [.t 2,.t 3] (Q [c0 1 159001 0,a7 2 0,cx 3 false] (.seq (Q [aS 7 2 1,dv 8 mj 7,fb 9 8,E 10 9,ez 11 10 1 1,dG 12 10 1 11,pN 13 10 12,fc 14 10 .gtr 13 4,cv 15 10 14] (b4 15 [a7 2 0,cx 3 false])) (Q [aP 4 (.ko (.c (.H (.int .u64 0))))] (.seq (Q [aD 16 1 1,aA 17 1 16,cq 18 17,a7 19 0] (dY 0 (Q [bp 20 .lss 19 18] (.seq (dq 20 0) (.seq (.block 1 (Q [E 21 19,br 22 1 17 19,aA 23 1 22,E 5 21,E 6 23] (.seq (Q [E 24 5,a3 25 .eql 24 3,E 26 25,eg 27 26 6,k7 28 26 .gtr 27 8,gr 29 26 28] (b4 29 [a7 2 0,cx 3 false])) (.ops [E 30 4,E 31 6,aP 32 (.conv .u64 (.t 31)),E 33 5,aP 34 (.bin .mul (.c (bM 20)) (.t 33)),bp 35 .shl 32 34,bp 36 .or 30 35,E 4 36])))) (.ops [a3 37 .add 19 1,E 19 37])))))) (.seq (.block 2 (Q [aD 39 0 1,aA 40 1 39,a3 41 .lss 40 0,E 42 41,eg 43 42 4,h0 44 42 (.bin .leq (.t 43) (.c (.H (.int .u64 9223372036854775808)))),gr 45 42 44,E 38 45] (e8 38 (Q [E 46 4,aP 47 (.un .neg (.t 46)),aP 48 (.conv .i64 (.t 47)),E 2 48,cx 3 true] .ret) (Q [aD 50 0 1,aA 51 1 50,a3 52 .geq 51 0,E 53 52,eg 54 53 4,h0 55 53 (.bin .lss (.t 54) (.c (.H (.int .u64 9223372036854775808)))),gr 56 53 55,E 49 56] (b4 49 [E 57 4,aP 58 (.conv .i64 (.t 57)),E 2 58,cx 3 true]))))) (Q [a7 2 0,cx 3 false] .ret))))))
def ahb:bJ:=b5 69 2 [.cell 4 2 true,.t 5] (Q [c0 2 160002 0,c0 3 160003 1,bQ 4 160004 dP,a7 5 0] (.seq (Q [aS 6 2 2,dv 7 mj 6,fb 8 7,E 9 8,iR 10 9 2 3,e3 11 9 (.call mj [.t 10]),ha 12 9 11,cv 13 9 12] (b4 13 [aP 14 (.build dP []),aP 15 (.call xd [.c (.H (.bool false)),.t 14]),a0 16 0 15,a0 17 1 15,aT 2 4 16,E 5 17])) (.seq (.block 0 (Q [aD 19 0 2,aA 20 1 19,aD 21 0 3,aA 22 1 21,bp 23 .mul 20 22,a3 24 .geq 23 0,E 18 24] (e8 18 (ed [aD 25 0 2,aA 26 1 25,aD 27 0 3,aA 28 1 27,aP 29 (.eW 160029 false [bM 0,bM 0] 1 2 [(0,1,.t 26),(1,1,.t 28)]),dv 30 YM 29,aD 31 1 2,aA 32 1 31,aD 33 1 3,aA 34 1 33,bI 35 Nw 32 34,bI 36 qu 30 35,aP 37 (.call xd [.c (.H (.bool true)),.t 36]),a0 38 0 37,a0 39 1 37,aT 2 4 38,E 5 39] agZ .ret) (Q [aD 41 1 2,aA 42 1 41,aD 43 1 3,aA 44 1 43,bI 45 Gs 42 44,a3 46 .lss 45 0,E 40 46] (e8 40 (ed [aD 47 0 3,aA 48 1 47,aD 49 1 3,aA 50 1 49,aD 51 1 2,aA 52 1 51,bI 53 Jq 50 52,bI 54 qu 48 53,aP 55 (.call xd [.c (.H (.bool true)),.t 54]),a0 56 0 55,a0 57 1 55,aT 2 4 56,E 5 57] GJ .ret) .skip))))) (ed [aD 58 0 2,aA 59 1 58,aD 60 1 2,aA 61 1 60,aD 62 1 3,aA 63 1 62,bI 64 Jq 61 63,bI 65 qu 59 64,aP 66 (.call xd [.c (.H (.bool true)),.t 65]),a0 67 0 66,a0 68 1 66,aT 2 4 67,E 5 68] GJ .ret))))
def ahc:bJ:=b5 67 2 [.t 4] (Q [dO 4] (Q [E 12 0,cq 13 12,E 14 1,cq 15 14,bp 16 .add 13 15,aP 17 (.mC 161017 [bM 0] 8 (.t 16) (.t 16)),E 5 17] (.seq (Q [E 18 0,cq 19 18,a7 20 0] (dY 0 (Q [bp 21 .lss 20 19] (.seq (dq 21 0) (.seq (.block 1 (Q [E 22 20,br 23 1 18 20,aA 24 1 23,E 6 22,E 7 24] (Q [a7 8 0] (.seq (Q [E 25 1,cq 26 25,a7 27 0] (dY 2 (Q [bp 28 .lss 27 26] (.seq (dq 28 2) (.seq (.block 3 (Q [E 29 27,br 30 1 25 27,aA 31 1 30,E 9 29,E 10 31] (Q [E 32 5,E 33 6,E 34 9,bp 35 .add 33 34,br 36 1 32 35,aA 37 1 36,E 38 7,E 39 10,bp 40 .mul 38 39,bp 41 .add 37 40,E 42 8,bp 43 .add 41 42,E 11 43] (.ops [E 44 5,E 45 6,E 46 9,bp 47 .add 45 46,E 48 11,a3 49 .and 48 1048575,E 50 11,aP 51 (.bin .shr (.t 50) (.c (.H (.int .u64 20)))),br 52 1 44 47,aT 1 52 49,E 8 51])))) (.ops [a3 53 .add 27 1,E 27 53])))))) (.ops [E 54 5,E 55 6,E 56 1,cq 57 56,bp 58 .add 55 57,br 59 1 54 58,aA 60 1 59,E 61 8,bp 62 .add 60 61,br 63 1 54 58,aT 1 63 62]))))) (.ops [a3 64 .add 20 1,E 20 64])))))) (Q [E 65 5,dv 66 sb 65,E 4 66] .ret))))
def ahd:bJ:=b5 55 2 [.t 4] (Q [dO 4] (.seq (Q [E 9 0,cq 10 9,E 11 1,cq 12 11,bp 13 .lss 10 12] (e8 13 (.ops [E 14 1,E 15 0,E 0 14,E 1 15]) .skip)) (Q [E 16 0,cq 17 16,a3 18 .add 17 1,aP 19 (.mC 172019 [bM 0] 8 (.t 18) (.t 18)),E 5 19] (Q [a7 6 0] (.seq (Q [E 20 0,cq 21 20,a7 22 0] (dY 0 (Q [bp 23 .lss 22 21] (.seq (dq 23 0) (.seq (.block 1 (Q [E 24 22,br 25 1 20 22,aA 26 1 25,E 7 24,E 8 26] (Q [E 27 6,E 28 8,bp 29 .add 27 28,E 6 29] (.seq (Q [E 30 7,E 31 1,cq 32 31,bp 33 .lss 30 32] (e8 33 (.ops [E 34 6,E 35 1,E 36 7,br 37 1 35 36,aA 38 1 37,bp 39 .add 34 38,E 6 39]) .skip)) (Q [E 40 5,E 41 7,E 42 6,a3 43 .and 42 1048575,br 44 1 40 41,aT 1 44 43] (.ops [E 45 6,aP 46 (.bin .shr (.t 45) (.c (.H (.int .u64 20)))),E 6 46])))))) (.ops [a3 47 .add 22 1,E 22 47])))))) (Q [E 48 5,E 49 0,cq 50 49,E 51 6,br 52 1 48 50,aT 1 52 51] (Q [E 53 5,dv 54 sb 53,E 4 54] .ret)))))))
def ahe:bJ:=b5 43 2 [.t 4] (Q [dO 4] (Q [E 9 0,aP 10 (.nT 173010 1 z8 [.t 9]),E 5 10] (Q [a7 6 0] (.seq (Q [E 11 5,cq 12 11,a7 13 0] (dY 0 (Q [bp 14 .lss 13 12] (.seq (dq 14 0) (.seq (.block 1 (Q [E 15 13,E 7 15] (Q [E 16 5,E 17 7,br 18 1 16 17,aA 19 1 18,E 20 6,bp 21 .sub 19 20,E 8 21] (.seq (Q [E 22 7,E 23 1,cq 24 23,bp 25 .lss 22 24] (e8 25 (.ops [E 26 8,E 27 1,E 28 7,br 29 1 27 28,aA 30 1 29,bp 31 .sub 26 30,E 8 31]) .skip)) (Q [E 32 8,aP 33 (.bin .shr (.t 32) (.c (.H (.int .u64 20)))),a3 34 .and 33 1,E 6 34] (.ops [E 35 5,E 36 7,E 37 8,a3 38 .and 37 1048575,br 39 1 35 36,aT 1 39 38])))))) (.ops [a3 40 .add 13 1,E 13 40])))))) (Q [E 41 5,dv 42 sb 41,E 4 42] .ret)))))
def ahf:bJ:=b5 41 2 [.t 4] (Q [a7 4 0] (.seq (Q [E 6 0,cq 7 6,E 8 1,cq 9 8,bp 10 .neq 7 9] (b4 10 [E 11 0,cq 12 11,E 13 1,cq 14 13,bI 15 Jr 12 14,E 4 15])) (.seq (Q [E 16 0,cq 17 16,a3 18 .sub 17 1,E 5 18] (dY 0 (.seq (Q [E 19 5,a3 20 .geq 19 0] (dq 20 0)) (.seq (.block 1 (ed [E 23 0,E 24 5,br 25 1 23 24,aA 26 1 25,E 27 1,E 28 5,br 29 1 27 28,aA 30 1 29,bp 31 .neq 26 30] Sz (e8 31 (ed [E 32 0,E 33 5,br 34 1 32 33,aA 35 1 34,E 36 1,E 37 5,br 38 1 36 37,aA 39 1 38,bI 40 Jr 35 39,E 4 40] Jy .ret) .skip))) (.ops [E 21 5,a3 22 .sub 21 1,E 5 22]))))) (Q [a7 4 0] .ret))))
def ahg:bJ:=b5 38 2 [.t 4,.t 5] (Q [dO 4,a7 5 0] (Q [E 9 0,cq 10 9,aP 11 (.mC 176011 [bM 0] 8 (.t 10) (.t 10)),E 6 11] (Q [a7 7 0] (.seq (Q [E 12 0,cq 13 12,a3 14 .sub 13 1,E 8 14] (dY 0 (.seq (Q [E 15 8,a3 16 .geq 15 0] (dq 16 0)) (.seq (.block 1 (Q [E 19 7,aP 20 (.bin .shl (.t 19) (.c (.H (.int .u64 20)))),E 21 0,E 22 8,br 23 1 21 22,aA 24 1 23,bp 25 .or 20 24,E 7 25] (Q [E 26 6,E 27 8,E 28 7,E 29 1,bp 30 .quo 28 29,br 31 1 26 27,aT 1 31 30] (.ops [E 32 7,E 33 1,bp 34 .rem 32 33,E 7 34])))) (.ops [E 17 8,a3 18 .sub 17 1,E 8 18]))))) (.seq (.ghost (.freeze 6) (.ops [E 35 6,dv 36 sb 35,E 37 7,E 4 36,E 5 37])) .ret)))))
def Jz:bJ:=b5 21 1 [.t 2] (Q [dO 2] (Q [E 4 0,cq 5 4,E 3 5] (.seq (dY 0 (.seq (Q [E 6 3,a3 7 .gtr 6 0,E 8 7,eg 9 8 0,eg 10 8 3,k7 11 8 .sub 10 1,rn 12 8 1 9 11,j4 13 8 1 12,k7 14 8 .eql 13 0,gr 15 8 14] (dq 15 0)) (.block 1 (.ops [E 16 3,a3 17 .sub 16 1,E 3 17])))) (Q [E 18 0,E 19 3,aP 20 (.ua 1 (.t 18) none (some (.t 19)) none),E 2 20] .ret))))
def SA:bJ:=b5 78 3 [.t 6] (Q [a7 6 0] (Q [a7 7 0] (.seq (Q [E 12 0,cq 13 12,a7 14 0] (dY 0 (Q [bp 15 .lss 14 13] (.seq (dq 15 0) (.seq (.block 1 (Q [E 16 14,E 8 16] (Q [E 17 0,E 18 8,br 19 1 17 18,aA 20 1 19,E 21 7,bp 22 .sub 20 21,E 9 22] (.seq (Q [E 23 8,E 24 1,cq 25 24,bp 26 .lss 23 25] (e8 26 (.ops [E 27 9,E 28 2,E 29 1,E 30 8,br 31 1 29 30,aA 32 1 31,bp 33 .mul 28 32,bp 34 .sub 27 33,E 9 34]) .skip)) (Q [E 35 0,E 36 8,E 37 9,a3 38 .and 37 1048575,br 39 1 35 36,aT 1 39 38] (.ops [E 40 9,aP 41 (.bin .shr (.t 40) (.c (.H (.int .u64 20)))),aP 42 (.un .neg (.t 41)),E 7 42])))))) (.ops [a3 43 .add 14 1,E 14 43])))))) (.seq (Q [E 44 7,a3 45 .eql 44 0] (b4 45 [E 46 2,E 6 46])) (Q [a7 10 0] (.seq (Q [E 47 0,cq 48 47,a7 49 0] (dY 2 (Q [bp 50 .lss 49 48] (.seq (dq 50 2) (.seq (.block 3 (Q [E 51 49,E 11 51] (Q [E 52 10,E 53 0,E 54 11,br 55 1 53 54,aA 56 1 55,bp 57 .add 52 56,E 10 57] (.seq (Q [E 58 11,E 59 1,cq 60 59,bp 61 .lss 58 60] (e8 61 (.ops [E 62 10,E 63 1,E 64 11,br 65 1 63 64,aA 66 1 65,bp 67 .add 62 66,E 10 67]) .skip)) (Q [E 68 0,E 69 11,E 70 10,a3 71 .and 70 1048575,br 72 1 68 69,aT 1 72 71] (.ops [E 73 10,aP 74 (.bin .shr (.t 73) (.c (.H (.int .u64 20)))),E 10 74])))))) (.ops [a3 75 .add 49 1,E 49 75])))))) (Q [E 76 2,a3 77 .sub 76 1,E 6 77] .ret)))))))
def ahh:bJ:=b5 20 2 [.t 4] (Q [a7 4 0] (Q [E 7 0,dv 8 Sp 7,E 5 8] (Q [E 9 1,dv 10 Sp 9,E 6 10] (.seq (Q [E 11 5] (e8 11 (.seq (Q [E 12 6] (b4 12 [a7 4 0])) (Q [aP 4 (.ko (.c (.H (.int .i64 (-1)))))] .ret)) .skip)) (.seq (Q [E 13 6] (b4 13 [a7 4 1])) (.seq (Q [E 14 0,E 15 1,bp 16 .lss 14 15] (b4 16 [aP 4 (.ko (.c (.H (.int .i64 (-1)))))])) (.seq (Q [E 17 0,E 18 1,bp 19 .gtr 17 18] (b4 19 [a7 4 1])) (Q [a7 4 0] .ret))))))))
def ahi:bJ:=b5 18 1 [.t 2] (Q [a7 2 0] (Q [a7 3 0] (.seq (Q [E 6 0,cq 7 6,a7 8 0] (dY 0 (Q [bp 9 .lss 8 7] (.seq (dq 9 0) (.seq (.block 1 (Q [br 10 1 6 8,aA 11 1 10,E 5 11] (Q [E 12 5,E 13 3,bp 14 .neq 12 13] (b4 14 [E 15 5,E 2 15])))) (.ops [a3 16 .add 8 1,E 8 16])))))) (Q [E 17 3,E 2 17] .ret))))
def ahj:bJ:=b5 6 1 [.t 2] (Q [cx 2 false] (Q [E 3 0,E 4 0,bp 5 .neq 3 4,E 2 5] .ret))
def ahk:bJ:=b5 9 2 [.t 4] (Q [cx 4 false] (Q [E 5 0,E 6 1,bI 7 YD 5 6,a3 8 .geq 7 0,E 4 8] .ret))
def ahl:bJ:=b5 9 2 [.t 4] (Q [cx 4 false] (Q [E 5 0,E 6 1,bI 7 YE 5 6,a3 8 .geq 7 0,E 4 8] .ret))
def ahm:bJ:=b5 48 2 [.t 4] (Q [dO 4] (.seq (Q [E 9 1,a3 10 .lss 9 0] (e8 10 (.ops [aP 11 (.bad),⟨none,none,.bad⟩]) .skip)) (Q [E 13 0,cq 14 13,aP 15 (.conv .u64 (.t 14)),E 16 1,aP 17 (.conv .u64 (.t 16)),bI 18 YG 15 17,E 12 18,a0 19 0 12,a0 20 1 12,E 5 19,E 6 20] (.seq (Q [E 21 5,aP 22 (.bin .gtr (.t 21) (.c (.H (.int .u64 0)))),E 23 22,fr 24 23 6,e3 25 23 (.bin .gtr (.t 24) (.c (.H (.int .u64 9223372036854775807)))),cv 26 23 25] (e8 26 (.ops [aP 27 (.bad),⟨none,none,.bad⟩]) .skip)) (Q [E 28 6,aP 29 (.conv .i64 (.t 28)),aP 30 (.mC 131030 cG 64 (.t 29) (.t 29)),E 7 30] (Q [E 31 7,E 32 0,aP 33 (.ub 4 (.t 31) (.t 32)),E 8 33] (.seq (dY 0 (.seq (Q [E 34 8,E 35 7,cq 36 35,bp 37 .lss 34 36] (dq 37 0)) (.block 1 (.l9 [E 38 8,E 39 7,E 40 8,aP 41 (.ua 4 (.t 39) (some (.t 40)) none none),E 42 7,E 43 8,aP 44 (.ua 4 (.t 42) none (some (.t 43)) none),aP 45 (.ub 4 (.t 41) (.t 44)),bp 46 .add 38 45,E 8 46] Jy)))) (Q [E 47 7,E 4 47] .ret))))))))
def ahn:bJ:=b5 19 2 [.t 4] (Q [a7 4 0] (.seq (Q [E 6 0,cq 7 6,a7 8 0] (dY 0 (Q [bp 9 .lss 8 7] (.seq (dq 9 0) (.seq (.block 1 (Q [E 10 8,E 5 10] (Q [E 11 1,E 12 0,E 13 5,br 14 5 12 13,aS 15 5 14,aP 16 (.nn (.t 11) [.t 15])] (b4 16 [E 17 5,E 4 17])))) (.ops [a3 18 .add 8 1,E 8 18])))))) (Q [aP 4 (.ko (.c (.H (.int .i64 (-1)))))] .ret)))
def NU:bJ:=b5 19 2 [.t 4] (Q [a7 4 0] (.seq (Q [E 6 0,cq 7 6,a7 8 0] (dY 0 (Q [bp 9 .lss 8 7] (.seq (dq 9 0) (.seq (.block 1 (Q [E 10 8,E 5 10] (Q [E 11 1,E 12 0,E 13 5,br 14 4 12 13,aS 15 4 14,aP 16 (.nn (.t 11) [.t 15])] (b4 16 [E 17 5,E 4 17])))) (.ops [a3 18 .add 8 1,E 8 18])))))) (Q [aP 4 (.ko (.c (.H (.int .i64 (-1)))))] .ret)))
def aho:bJ:=b5 8 1 [.t 2] (Q [dO 2] (.seq (Q [E 3 0,aP 4 (.rX false (.t 3))] (b4 4 [dO 2])) (Q [aP 5 (.eW 147005 true [] 4 0 []),E 6 0,aP 7 (.app 147007 cG 64 (.t 5) (.t 6)),E 2 7] .ret)))
def ahp:bJ:=b5 8 1 [.t 2] (Q [dO 2] (.seq (Q [E 3 0,aP 4 (.rX false (.t 3))] (b4 4 [dO 2])) (Q [aP 5 (.eW 156005 true [] 1 0 []),E 6 0,aP 7 (.app 156007 [bM 0] 8 (.t 5) (.t 6)),E 2 7] .ret)))
def SB:bJ:=b5 19 2 [.t 4] (Q [a7 4 0] (.seq (Q [E 6 0,cq 7 6,a7 8 0] (dY 0 (Q [bp 9 .lss 8 7] (.seq (dq 9 0) (.seq (.block 1 (Q [E 10 8,E 5 10] (Q [E 11 1,E 12 0,E 13 5,br 14 1 12 13,aA 15 1 14,aP 16 (.nn (.t 11) [.t 15])] (b4 16 [E 17 5,E 4 17])))) (.ops [a3 18 .add 8 1,E 8 18])))))) (Q [aP 4 (.ko (.c (.H (.int .i64 (-1)))))] .ret)))
def ahq:bJ:=b5 9 2 [.t 4] (Q [cx 4 false] (Q [E 5 0,E 6 1,bI 7 DU 5 6,a3 8 .geq 7 0,E 4 8] .ret))
def ahr:bJ:=b5 9 2 [.t 4] (Q [cx 4 false] (Q [E 5 0,E 6 1,bI 7 YY 5 6,a3 8 .geq 7 0,E 4 8] .ret))
def SC:bJ:=b5 19 2 [.t 4] (Q [a7 4 0] (.seq (Q [E 6 0,cq 7 6,a7 8 0] (dY 0 (Q [bp 9 .lss 8 7] (.seq (dq 9 0) (.seq (.block 1 (Q [E 10 8,E 5 10] (Q [E 11 1,E 12 0,E 13 5,br 14 4 12 13,aS 15 4 14,aP 16 (.nn (.t 11) [.t 15])] (b4 16 [E 17 5,E 4 17])))) (.ops [a3 18 .add 8 1,E 8 18])))))) (Q [aP 4 (.ko (.c (.H (.int .i64 (-1)))))] .ret)))
def ahs:bJ:=b5 8 1 [.t 2] (Q [dO 2] (.seq (Q [E 3 0,aP 4 (.rX false (.t 3))] (b4 4 [dO 2])) (Q [aP 5 (.eW 360005 true [] 4 0 []),E 6 0,aP 7 (.app 360007 lS 32 (.t 5) (.t 6)),E 2 7] .ret)))
def Zi (l:List Int)(n:Nat)(aL:n<D l)(h:l[n]=0):gS (l.take (n+1))=gS (l.take n):=by
 rw[hZ,bh aL,h];exact agM _
def Zj (l:List Int)(n:Nat)(aL:n<D l)(h:l[n]≠0):gS (l.take (n+1))=l.take (n+1):=by
 rw[hZ,bh aL];exact agN _ h
abbrev Ab:List Int->List Data:=λ(l:List Int)=>[.ax (l.map aI)]
def Ac:=bV Ab λ(l:List Int)=>cu (D l<=1000000) (.same (.ax ((gS l).map aI)))
def SD:∀a b,Ab a=Ab b->a=b:=by
  intro eN aw h;exact map_inj gq _ _ (by simpa using h)
@[go_sem] def SE (l):=cH Ac rfl SD l rfl
def av2 (T:ba):WF T Jz Ac:=by
 refine cp λl=>cT λJ=>⟨rfl,ck ?_⟩;simp only[Jz,Ab,cd];have pG:((l.map aI).all λe=>D e==1)=true:=by simp[aI]
 refine ai ?_;repeat' (intro h<;>simp only[h,go_sem,go_sem_proc,al]<;>try refine ag ?_ ?_)
 refine dd [0] [] (λ(n:Nat) tm mem=>n<=D l/\gS l=gS (l.take n)/\tm 3=.H (.int .i64 n)) (λn=>n) (D l) (by refine⟨cl _,by simp,by simp[go_sem]⟩) ?_;intro vs ms aQ aM;simp only[go_sem,go_sem_proc,al] at aQ aM;subst aQ aM;rintro n tm mem I-⟨aL,b0,ab⟩;simp only[go_sem,go_sem_proc,bj] at I;have ay:=I;rcases n with _|n
 ·refine ai ?_;repeat' (intro h<;>simp only[h,go_sem,go_sem_proc,ay,ab,pG,qx,rp,show ¬ ((0:Int)>0) by omega,decide_false,al,show (0:Int).toNat=0 from rfl,show (0:Int)<=0 by omega,fL,nw,bY]<;>try refine ag ?_ ?_)
  rw[b0];simp[gS]
 ·have hw:IntKind.i64.wrap (((n+1:Nat):Int)-1)=(n:Int):=by rw[eY _];omega
  have L:l[n]?=some l[n]:=bh (by omega);have jt:((n+1:Nat):Int)>0:=by omega
  have hle:n+1<=D l:=aL
  by_cases a2:l[n]=0
  ·refine ai ?_;repeat' (intro h<;>simp only[h,go_sem,go_sem_proc,ay,ab,hw,L,a2,jt,al,bm,decide_true,aI,beq_self_eq_true,bj]<;>try refine ag ?_ ?_)
   exact⟨n,by omega,by omega,by rw[b0,Zi l n (by omega) a2],rfl⟩
  ·have nC:(l[n]==0)=false:=by simpa using a2
   refine ai ?_;repeat' (intro h<;>simp only[h,go_sem,go_sem_proc,ay,ab,hw,L,nC,jt,pG,hle,aI,al,bm,decide_true,bj,show (0:Int)<=((n+1:Nat):Int) by omega,gK,fL]<;>try refine ag ?_ ?_)
   rw[b0,Zj l n (by omega) a2,List.map_take]
structure aht where
 l:List Int
 k:Key
 g:Nat
def xe:List M->Mem->Option (M×Mem):=Jj (λ(a:aht) args mem=>args=[.ref a.k a.g 1 0 (D a.l)]/\mem a.k=some (a.g,aU aI a.l)/\D a.l<=1000000) (λa mem=>(.ref a.k a.g 1 0 (gS a.l).length,mem))
def Zk {α:Type}{enc:α->List Data}{sz:Nat}(h:∀a,(enc a).length=sz)(O:∀a b,enc a=enc b->a=b):∀(l gb:List α),aU enc l=aU enc gb->0<sz->l=gb:=by
 intro l
 induction l with
 |nil =>
  intro gb e a2
  cases gb with
  |nil=>rfl
  |cons b r =>
   have:=congrArg D e;rw[jS h,jS h] at this;simp only[o2,lJ,Sg,rW] at this;omega
 |cons a r aG =>
  intro gb e a2
  cases gb with
  |nil =>
   have:=congrArg D e;rw[jS h,jS h] at this;simp only[o2,lJ,Sg,rW] at this;omega
  |cons b zQ =>
   rw[z4,z4] at e;have aq:((enc a).map M.H).length=((enc b).map M.H).length:=by simp[h]
   obtain⟨au,aC⟩:=JA e aq;have bN:=map_inj (λx y (e:M.H x=M.H y)=>by cases e;rfl) _ _ au;rw[O _ _ bN,aG zQ aC a2]
def Zl (l:List Int)(k g:Nat)(mem:Mem)(h:mem k=some (g,aU aI l))(aq:(D l)<=1000000):xe [.ref k g 1 0 (D l)] mem=some (.ref k g 1 0 (gS l).length,mem):=by
 unfold xe;refine agL (a:=(⟨l,k,g⟩:aht)) ?_ ⟨rfl,h,aq⟩;rintro a b args mem ⟨F,G,_⟩ ⟨ab,aV,_⟩;rw[F] at ab;simp only[bj,M.ref.injEq,true_and,and_true] at ab;obtain⟨NV,SG,_⟩:=ab;rw[NV,aV] at G;simp only[cF,fq] at G;have:=Zk kz gq _ _ G.2 (by omega);rw[NV,SG,this]
@[go_sem] def aNY (d:Data)(mem:Mem):xe [.H d] mem=none:=by
 cases L:xe [.H d] mem with
 |none=>rfl
 |some x =>
  unfold xe at L;obtain⟨a,⟨h,_⟩,_⟩:=Yr L
  cases h
def av3 (T:ba)(l:List Int)(k g:Nat)(mem:Mem)(hm:mem k=some (g,aU aI l))(J:(D l)<=1000000):
  wp T Jz.body (Ji Jz.res (.ref k g 1 0 (gS l).length) mem) ⟨kq [.ref k g 1 0 (D l)],mem⟩:=by
 refine ra ?_;simp only[Jz];refine ai ?_;repeat' (intro h<;>simp only[h,go_sem,go_sem_proc,hm]<;>try refine ag ?_ ?_)
 refine dd [0] [] (λ(n:Nat) tm mem'=>n<=D l/\gS l=gS (l.take n)/\tm 3=.H (.int .i64 n)/\mem'=mem) (λn=>n) (D l) (by refine⟨cl _,by simp,by simp[go_sem],rfl⟩) ?_;intro vs ms aQ aM;simp only[go_sem,go_sem_proc] at aQ aM;subst aQ aM;rintro n tm _ I-⟨aL,b0,ab,rfl⟩;simp only[go_sem,go_sem_proc,bj] at I;have ay:=I;rcases n with _|n
 ·refine ai ?_;repeat' (intro h<;>simp only[h,go_sem,go_sem_proc,ay,ab,hm,qx,rp,show ¬ ((0:Int)>0) by omega,decide_false,show (0:Int).toNat=0 from rfl,show (0:Int)<=0 by omega,fL]<;>try refine ag ?_ ?_)
  rw[b0];simp[gS]
 ·have hw:IntKind.i64.wrap (((n+1:Nat):Int)-1)=(n:Int):=by rw[eY _];omega
  have L:l[n]?=some l[n]:=bh (by omega);have jt:((n+1:Nat):Int)>0:=by omega
  have hle:n+1<=D l:=aL;have ah:n<D l:=aL;have uo:=Nf kz L (f:=0) (n:=1) (by omega);have ew:=jS kz l;rw[dZ] at ew;have ahu:n+1<=(aU aI l).length:=by omega
  have ahv:gT 1 (hl n (aU aI l))=[.H (.int .i64 l[n])]:=by
   unfold cut at uo;rw[dZ,lO,Y (by omega)] at uo
   simpa [aI] using uo
  by_cases a2:l[n]=0
  ·refine ai ?_;repeat' (intro h<;>simp only[h,go_sem,go_sem_proc,ay,ab,hm,hw,ah,ahu,ahv,a2,jt,decide_true,dZ,beq_self_eq_true]<;>try refine ag ?_ ?_)
   exact⟨n,by omega,by omega,by rw[b0,Zi l n (by omega) a2],rfl⟩
  ·have nC:(l[n]==0)=false:=by simpa using a2
   refine ai ?_;repeat' (intro h<;>simp only[h,go_sem,go_sem_proc,ay,ab,hm,hw,ah,ahu,ahv,nC,jt,hle,decide_true,dZ,show (0:Int)<=((n+1:Nat):Int) by omega,gK,fL,Nat.sub_zero]<;>try refine ag ?_ ?_)
   rw[b0,Zj l n (by omega) a2];simp;omega
abbrev o3:Int->List Data:=λ(n:Int)=>[.int .i64 n]
def SH:=bV o3 λ(n:Int)=>some (.same (.bool false))
def B7:∀a b,o3 a=o3 b->a=b:=by
  intro hB ib h;simp only[bj,Data.int.injEq,Data.agg.injEq,Data.ax.injEq,Data.bool.injEq,Data.str.injEq,Data.ptr.injEq,Data.dj.injEq,fq,true_and,and_true] at h ⊢
  first|exact h|simpa [Ad,and_assoc] using h|grind
@[go_sem] def aNZ (n):=pK SH rfl B7 n rfl
def av4 (T:ba):WF T ahj SH:=by
 refine cp λn=>⟨rfl,ck ?_⟩;simp only[ahj,o3,cd];refine ai ?_;repeat' (intro h<;>simp only[h,go_sem,go_sem_proc,beq_self_eq_true]<;>try refine ag ?_ ?_)
def g2 (a b:Int):Int:=if decide (a<b)=true then -1 else if decide (a>b)=true then 1 else 0
abbrev Ae:Int×Int->List Data:=λ(a,b)=>[.int .i64 a,.int .i64 b]
def NW:=bV Ae λ(a,b)=>some (.same (.int .i64 (g2 a b)))
def SI:∀a b,Ae a=Ae b->a=b:=by
  rintro⟨cz,cQ⟩ ⟨cY,dN⟩ h;simp only[bj,Data.int.injEq,Data.agg.injEq,Data.ax.injEq,Data.bool.injEq,Data.str.injEq,Data.ptr.injEq,Data.dj.injEq,fq,true_and,and_true] at h ⊢
  first|exact h|simpa [Ad,and_assoc] using h|grind
@[go_sem] def aN0 (a b):=pK NW rfl SI (a,b) rfl
def av5 (T:ba)(av6:T Sp=aK SH):WF T ahh NW:=by
 refine cp λ(a,b)=>⟨rfl,ck ?_⟩;simp only[ahh,Ae,cd];refine ai ?_;repeat' (intro h<;>simp only[h,go_sem,go_sem_proc,av6]<;>try refine ag ?_ ?_)
 all_goals simp only[g2, *,reduceIte,b3,cA,se,ur,lT,uu,te,fN,iS,e9,k1,beq_self_eq_true,bne]
def B8:List Int->Int
 | []=>0
 |d::r=>if (d==0)=true then B8 r else d
def SJ:=bV Ab λ(l:List Int)=>cu (D l<=1000000) (.same (.int .i64 (B8 l)))
@[go_sem] def av7 (l):=cH SJ rfl SD l rfl
def av8 (T:ba):WF T ahi SJ:=by
 refine cp λl=>cT λJ=>⟨rfl,ck ?_⟩;simp only[ahi,Ab,cd];simp only[go_sem,go_sem_proc,al];repeat' (first|refine ag ?_ ?_|fail)<;>intro h<;>simp only[h,go_sem,go_sem_proc,al]
 refine dd [3,6,7] [] (λi tm mem=>0<=i/\i<=(D l:Int)/\B8 l=B8 (l.drop i.toNat)/\tm 8=.H (.int .i64 i)) (λi=>(D l-i).toNat) 0 (by refine⟨by omega,by omega,by simp,by simp[go_sem]⟩) ?_;intro vs ms aQ aM;simp only[go_sem,go_sem_proc] at aQ aM;subst aQ aM;rintro i tm mem I-⟨uH,O,aH,cS⟩;simp only[go_sem,go_sem_proc,bj] at I;obtain⟨ab,bX,b9⟩:=I;rcases dn (i<D l) with ah|bW
 ·obtain⟨x,L,Z,-⟩:=agA l i uH ah;simp only[go_sem,go_sem_proc,ab,bX,b9,cS,L,ah,uH,aI,al,bm,decide_true,bj];repeat' (first|refine ag ?_ ?_|fail)<;>intro h<;>simp only[h,go_sem,go_sem_proc,ab,bX,b9,cS,L,ah,uH,aI,al,bm,decide_true,bj]
  ·rw[aH,Z];simp[B8,h]
  ·exact⟨i+1,by omega,by omega,by omega,by rw[aH,Z];simp only[B8, *,reduceIte,b3,cA,se,ur,lT,uu,te,fN,iS,e9,k1,beq_self_eq_true,bne],by rw[eY _]⟩
 ·have he:l.drop i.toNat=[]:=lM (by omega);simp only[go_sem,go_sem_proc,ab,bX,b9,cS,bW,decide_false];repeat' (first|refine ag ?_ ?_|fail)<;>intro h<;>simp only[h,go_sem,go_sem_proc,ab,bX,b9,cS,bW,decide_false]
  rw[aH,he];rfl
def Zm (l:List Int):((l.map aI).all λe=>D e==1)=true:=by simp[aI]
def DZ:=bV Ab λ(l:List Int)=>cu (D l<=1000000) (.own 1 (l.map aI))
@[go_sem] def av9 (l):=cH DZ rfl SD l rfl
def awa (T:ba):WF T ahp DZ:=by
 refine cp λl=>cT λJ=>⟨rfl,ck ?_⟩;simp only[ahp,Ab,cd]
 have c9:lL 156005 0 1 0 8 (D l) ((l.map aI).flatten.map .H) (some (0,[]))=some (.ref 156005 1 1 0 (D l),some (156005,1,aU aI l)):=by
  have:=BP kz z7 156005 0 8 [] l (by simp;omega) (by simp;omega)
  simpa [aU] using this
 have hlen:(aU aI l).length=D l:=by rw[jS kz];omega
 refine ai ?_;repeat' (intro h<;>simp only[h,go_sem,go_sem_proc,Zm,c9,al]<;>try refine ag ?_ ?_)
 rintro b ad
 cases b
 ·refine ai ?_;repeat' (intro h<;>simp only[h,go_sem,go_sem_proc,Zm,c9,al,ri,dZ,hlen]<;>try refine ag ?_ ?_)
  rw[Y (by omega),dD (by omega)];unfold aU;rw[w8 _ λd=>rfl];have:=BQ (sz:=1) (l.map aI) (by simp[aI]);rw[al] at this;simp[this]
 ·cases l with
  |nil =>
       refine ai ?_;repeat' (intro h<;>simp only[h,go_sem,go_sem_proc,ri,bY]<;>try refine ag ?_ ?_)
  |cons x r=>simp at ad
abbrev Raw:=Int×List Int
def cM (a:Raw):List Data:=[.int .i64 a.1,.ax (a.2.map aI)]
def o4 (d:Int):Bool:=!decide (d<0) && !decide (d>1048575)
def dr (a:Raw):Bool:=a.2.all o4&&(if (a.2.length==0)=true then a.1==0 else ((a.1==1||a.1 == -1)&&decide (a.2.length<=60)&&(a.2.getLast? != some 0)))
abbrev sf:Int×(List Int)->List Data:=λ(s,l)=>[.agg [.int .i64 s,.ax (l.map aI)]]
def xf:=bV sf λ(s,l)=>cu (D l<=1000000) (.same (.bool (dr (s,l))))
def GK:∀a b,sf a=sf b->a=b:=by
  rintro⟨s1,eN⟩ ⟨s2,aw⟩ h;simp only[bj,Data.agg.injEq,Data.int.injEq,Data.ax.injEq] at h;exact et h.1.1.2 (map_inj gq _ _ h.1.2.1)
@[go_sem] def aN1 (s l):=cH xf rfl GK (s,l) rfl
def awb (T:ba):WF T ag0 xf:=by
 refine cp λ(s,l)=>cT λJ=>⟨rfl,ck ?_⟩;simp only[ag0,sf,cd];refine ai ?_;repeat' (intro h<;>simp only[h,go_sem,go_sem_proc,al]<;>try refine ag ?_ ?_)
 refine dd [1,3,10,11] [136001] (λi tm mem=>0<=i/\i<=(D l:Int)/\l.all o4=(l.drop i.toNat).all o4/\tm 12=.H (.int .i64 i)) (λi=>(D l-i).toNat) 0 (by refine⟨by omega,by omega,by simp,by simp[go_sem]⟩) ?_;intro vs ms aQ aM;simp only[go_sem,go_sem_proc,al] at aQ aM;subst aQ aM;rintro i tm mem I hm ⟨uH,O,aH,eu⟩;simp only[go_sem,go_sem_proc,bj] at I hm;obtain⟨F,ab,du,gL⟩:=I;rcases dn (i<D l) with ah|bW
 ·obtain⟨x,L,Z,-⟩:=agA l i uH ah
  have jT:∀b,o4 x=true->b=(l.drop (i+1).toNat).all o4->l.all o4=b:=by
   intro b F G;rw[aH,Z,vx,F,G,fN]
  have B9:o4 x=false->dr (s,l)=false:=by
   intro F;unfold dr;rw[aH,Z,vx,F]
   rfl
  refine ai ?_;repeat' (intro h<;>simp only[h,go_sem,go_sem_proc,F,ab,du,gL,eu,hm,L,ah,uH,aI,al,bm,decide_true,bj]<;>try refine ag ?_ ?_)
  ·rw[B9 (by simp only[o4, *,reduceIte,b3,cA,se,ur,lT,uu,te,fN,iS,e9,k1,beq_self_eq_true,bne])]
  ·exact⟨i+1,by omega,by omega,by omega,by refine jT _ ?_ rfl;simp only[o4, *,reduceIte,b3,cA,se,ur,lT,uu,te,fN,iS,e9,k1,beq_self_eq_true,bne],by rw[eY _]⟩
  ·rw[B9 (by simp only[o4, *,reduceIte,b3,cA,se,ur,lT,uu,te,fN,iS,e9,k1,beq_self_eq_true,bne])]
 ·have he:l.drop i.toNat=[]:=lM (by omega);rw[he] at aH;have ea:l.all o4=true:=by rw[aH];rfl
  rcases BW l with rfl|⟨r,x,rfl⟩
  ·have awc:¬ i<(0:Int):=by simpa using bW
   refine ai ?_;repeat' (intro h<;>simp only[h,go_sem,go_sem_proc,F,ab,du,gL,eu,hm,awc,decide_false,o2,qx,rp,beq_self_eq_true]<;>try refine ag ?_ ?_)
   simp[dr]
  ·rw[BX] at *;have b8:(((r++[x]).length:Int)==0)=false:=by simp;omega
   have hw:IntKind.i64.wrap (((r++[x]).length:Int)-1)=(D r:Int):=by
    have bO:(r++[x]).length=D r+1:=by simp
    rw[eY _];omega
   have bb:((r++[x]).map aI)[D r]?=some [.int .i64 x]:=by simp[aI]
   have X:dr (s,r++[x])=((s==1||s == -1)&&decide (((r++[x]).length:Int)<=60)&&(x != 0)):=by
    unfold dr;rw[ea];simp only[List.getLast?_append,List.getLast?_singleton];simp;have au:decide (D r<=59)=decide ((D r:Int)+1<=60):=decide_eq_decide.2 (by omega);have aC:(some x != some (0:Int))=(x != 0):=by simp[bne]
    rw[au,aC]
   rw[X];refine ai ?_;repeat' (intro h<;>simp only[h,go_sem,go_sem_proc,F,ab,du,gL,eu,hm,bW,b8,hw,bb,decide_false,al]<;>try refine ag ?_ ?_)
   all_goals simp only[*,reduceIte,b3,cA,se,ur,lT,uu,te,fN,iS,e9,k1,beq_self_eq_true,bne]
def lr (s:Int)(l:List Int):Raw:=if (((gS l).length:Int)==0)=true then (0,[]) else (s,gS l)
abbrev JB:Int×(List Int)->List Data:=λ(s,l)=>[.int .i64 s,.ax (l.map aI)]
def Ca:=bV JB λ(s,l)=>cu (D l<=1000000) (.same (.agg (cM (lr s l))))
def ahw:∀a b,JB a=JB b->a=b:=by
  rintro⟨s1,eN⟩ ⟨s2,aw⟩ h;simp only[bj,Data.int.injEq,Data.ax.injEq] at h;exact et h.1.2 (map_inj gq _ _ h.2.1)
@[go_sem] def aN2 (s l):=cH Ca rfl ahw (s,l) rfl
def awd (T:ba)(gd:T sb=BS Ac xe):WF T ag9 Ca:=by
 refine cp λ(s,l)=>cT λJ=>⟨rfl,ck ?_⟩;simp only[ag9,JB,cd];refine ai ?_;repeat' (intro h<;>simp only[h,go_sem,go_sem_proc,gd,J,al]<;>try refine ag ?_ ?_)
 all_goals simp only[lr,cM,bY, *,reduceIte,b3,cA,se,ur,lT,uu,te,fN,iS,e9,k1,beq_self_eq_true,bne]
def mE (l:List Int)(i:Nat)(h:i<D l):bo (l.take (i+1))=bo (l.take i)+1048576^i*l[i]:=by
 rw[hZ,bh h,Gj,gP,pF (by omega)];simp[bo]
def Cb {l:List Int}(h:fo l)(i:Nat):fo (l.take i):=λd Z=>h d (yo Z)
def ahx {l:List Int}(i:Nat)(O:i<D l):fo (l.take (i+1))↔fo (l.take i)/\(0<=l[i]/\l[i]<1048576):=by
 rw[hZ,bh O,Gi];simp[Gh,fo]
def mF {l:List Int}(h:fo l)(i:Nat)(O:i<D l):0<=l[i]/\l[i]<1048576:=h _ (mh O)
def GL (o:List Int)(i:Nat)(d:Int):(o.set i d).take i=o.take i:=by
 rw[List.take_set,List.set_eq_of_length_le];rw[gP];omega
def sg (o:List Int):(aU aI o).length=D o:=by rw[jS kz];omega
def NX (o:List Int)(i:Nat)(h:i<D o):gT 1 (hl i (aU aI o))=[.H (.int .i64 o[i])]:=by
 have uo:=Nf kz (bh h) (f:=0) (n:=1) (by omega);unfold cut at uo;have:=sg o;rw[dZ,lO,Y (by omega)] at uo
 simpa [aI] using uo
def Af (o:List Int)(i:Nat)(d:Int)(h:i<D o):gT i (aU aI o)++[.H (.int .i64 d)]++hl (i+1) (aU aI o)=aU aI (o.set i d):=by
 have:=Sd kz h d;unfold lo at this
 simpa [aI] using this
def JC (n:Nat):(ef n [M.H (.int .i64 0)]).flatten=aU aI (ef n 0):=by
 induction n with
 |zero=>rfl
 |succ n aG=>rw[um,um,l8,z4,aG];rfl
def JD (n:Nat)(h:n<=1000000000):n<=maxLen:=eR h (by decide)
def ahy (l:List Int):(gS l).length<=D l:=by
 induction l with
 |nil=>simp[gS]
 |cons d r aG=>unfold gS;split<;>(try split)<;>simp<;>omega
def awe (l:List Int):l.take (gS l).length=gS l:=by
 induction l with
 |nil=>simp[gS]
 |cons d r aG =>
  unfold gS
  split
  ·split<;>simp
  ·simp[aG]
def awf (l:List Int):∀n:Nat,(aU aI l).take n=aU aI (l.take n):=by
 induction l with
 |nil=>intro n;simp[aU]
 |cons d r aG=>intro n;cases n with
  |zero=>simp[aU]
  |succ n=>rw[z4,Dx,z4,<-aG];rfl
def ahz {mem:Mem}{k g n:Nat}{o:List Int}(hm:mem k=some (g,aU aI o))(aL:n<=D o):ri 1 mem (.ref k g 1 0 n)=some ((o.take n).map aI):=by
 unfold ri;dsimp only;rw[hm];simp only[and_self,if_true,dZ];rw[sg,Y ⟨trivial,aL⟩,awf];unfold aU;rw[w8 _ λd=>rfl];have:=BQ (sz:=1) ((o.take n).map aI) (by intro e he;rw[gm] at he;obtain⟨x,-,rfl⟩:=he;rfl);rw[al,gP,pF aL] at this;simp only[Option.map_some,this]
def Zn {mem:Mem}{k g:Nat}{o:List Int}{n:Nat}(hm:mem k=some (g,aU aI o))(Z:fo o)(aN:bo o=n):ri 1 mem (.ref k g 1 0 (gS o).length)=some ((aY n).map aI):=by
 rw[ahz hm (ahy o),awe,BV Z,aN]
 rfl
def eh (n:Nat):Data:=.ax ((aY n).map aI)
def ahA {x y:Nat}(h:(aY x).length<(aY y).length):x<y:=by
 have F:=(g9 (n:=x) (k:=(aY x).length)).1 (cl _);have G:=mt (g9 (n:=y) (k:=(aY x).length)).2 (by omega);omega
def ahB {a b:List Int}(aZ:fo a)(ad:fo b)(aq:(D a)=D b)(i:Nat)(O:i<D a)(Z:a.drop (i+1)=b.drop (i+1))(h:a[i]<b[i]):bo a<bo b:=by
 rw[Np a (i+1),Np b (i+1),Z,aq,mE a i O,mE b i (by omega)];have F:=BU (Cb aZ i);have G:=qt (Cb ad i);rw[gP,pF (by omega)] at F;generalize (1048576:Int)^i=p at *
 have ab:p*a[i]+p<=p*b[i]:=by
  have:p*(a[i]+1)<=p*b[i]:=xg (by omega) (by have:=qt (Cb aZ i);omega);rw[jI,tf] at this;exact this
 omega
abbrev n5:Nat×Nat->List Data:=λ(x,y)=>[eh x,eh y]
def JE:=bV n5 λ(x,y)=>cu ((aY x).length<=1000000/\(aY y).length<=1000000) (.same (.int .i64 (g2 x y)))
def Ag:∀a b,n5 a=n5 b->a=b:=by
  rintro⟨fx,nD⟩ ⟨fe,o5⟩ h;simp only[bj,eh,Data.ax.injEq] at h;exact et (Nn (map_inj gq _ _ h.1)) (Nn (map_inj gq _ _ h.2.1))
@[go_sem] def Zo (x y):=cH JE rfl Ag (x,y) rfl
def awg (T:ba)(xh:T Jr=aK NW):WF T ahf JE:=by
 refine cp λ(x,y)=>cT λJ=>⟨rfl,ck ?_⟩;simp only[ahf,n5,cd];obtain⟨L,aj⟩:=J;have vO:=n3 x;have tg:=n3 y;have yE:=m0 x;have GM:=m0 y;have agt:=@ahA x y;have nv:=@ahA y x
 by_cases aq:(aY x).length=(aY y).length
 ·generalize aZ:aY x=a at *;generalize ad:aY y=b at *;have Zp:((D a:Int)==(D b:Int))=true:=by simp[aq]
  simp only[go_sem,go_sem_proc,xh,eh,aZ,ad,Zp,al];refine dd [0,1] [] (λ(n:Nat) tm mem=>n<=D a/\a.drop n=b.drop n/\tm 5=.H (.int .i64 ((n:Int)-1))) (λn=>n) (D a) (by refine⟨cl _,by rw[Yj,aq,Yj],?_⟩;simp only[dC,reduceIte];rw[eY _]) ?_;intro vs ms aQ aM;simp only[go_sem,go_sem_proc,xh,eh,aZ,ad] at aQ aM;subst aQ aM;rintro n tm mem I-⟨aL,Z,bu⟩;simp only[go_sem,go_sem_proc,xh,bj] at I;obtain⟨ay,F⟩:=I;rcases n with _|n
  ·have e:a=b:=by simpa using Z
   have g0:(x:Int)=y:=by rw[<-yE,<-GM,e]
   refine ai ?_;repeat' (intro (ao:_=_)<;>simp only[ao,go_sem,go_sem_proc,xh,ay,F,bu,qx,rp,show ¬ ((0:Int)-1>=0) by omega,decide_false]<;>try refine ag ?_ ?_)
   rw[g0];simp[g2]
  ·have hw:((n+1:Nat):Int)-1=(n:Int):=by omega
   have si:a[n]?=some a[n]:=bh (by omega);have sj:b[n]?=some b[n]:=bh (by omega)
   have X:g2 a[n] b[n]=g2 x y\/a[n]=b[n]:=by
    by_cases F:a[n]<b[n]
    ·left
     have:=ahB vO tg aq n aL Z F;simp only[g2];rw[Y (by simpa using F),Y (by simp;omega)]
    ·by_cases G:b[n]<a[n]
     ·left
      have:=ahB tg vO aq.symm n (by omega) Z.symm G;simp only[g2];rw[aa (by simp;omega),Y (by simp;omega),aa (by simp;omega),Y (by simp;omega)]
     ·right;omega
   by_cases a2:a[n]=b[n]
   ·refine ai ?_;repeat' (intro (ao:_=_)<;>simp only[ao,go_sem,go_sem_proc,xh,ay,F,bu,hw,si,sj,a2,aI,show (n:Int)>=0 by omega,decide_true,bm,beq_self_eq_true,bj]<;>try refine ag ?_ ?_)
    exact⟨n,by omega,by omega,by rw[je (by omega:n<D a),je (by omega:n<D b),a2,Z],by rw[eY _]⟩
   ·have nC:(a[n]==b[n])=false:=by simpa using a2
    refine ai ?_;repeat' (intro (ao:_=_)<;>simp only[ao,go_sem,go_sem_proc,xh,ay,F,bu,hw,si,sj,nC,aI,show (n:Int)>=0 by omega,decide_true,bm,bj]<;>try refine ag ?_ ?_)
    rw[X.resolve_right a2]
 ·have Zp:(((aY x).length:Int)==((aY y).length:Int))=false:=by simp;omega
  have X:g2 (aY x).length (aY y).length=g2 x y:=by
   simp only[g2];rcases hO (aY x).length (aY y).length with h|h
   ·have:=agt h;rw[Y (by simp;omega),Y (by simp;omega)]
   ·have:=nv (by omega);rw[aa (by simp;omega),Y (by simp;omega),aa (by simp;omega),Y (by simp;omega)]
  refine ai ?_;repeat' (intro (ao:_=_)<;>simp only[ao,go_sem,go_sem_proc,xh,eh,Zp,X,al]<;>try refine ag ?_ ?_)
def ahC (p yF w0 uh c a b:Int)(h:yF+p*c=w0+uh):yF+p*((c+a+b)%1048576)+p*1048576*((c+a+b)/1048576)=w0+p*a+(uh+p*b):=by
 have F:=D0 (c+a+b) 1048576
 have G:p*((c+a+b)%1048576)+p*1048576*((c+a+b)/1048576)=p*(c+a+b):=by
  rw[jJ,<-jI,F]
 have ab:p*(c+a+b)=p*c+p*a+p*b:=by rw[jI,jI]
 omega
def NY:=bV n5 λ(x,y)=>cu ((aY x).length<=100000/\(aY y).length<=100000) (.own 1 ((aY (x+y)).map aI))
@[go_sem] def ahD (x y):=cH NY rfl Ag (x,y) rfl
def awh (T:ba)(gd:T sb=BS Ac xe):WF T ahd NY:=by
 refine cp λ(x,y)=>cT λJ=>⟨rfl,ck ?_⟩;simp only[ahd,n5,cd];obtain⟨L,aj⟩:=J;simp only[go_sem,go_sem_proc,gd,eh,al];refine avj (λst=>∃a b:List Int,fo a/\fo b/\D a<=100000/\D b<=D a/\bo a+bo b=x+y/\st.tm 0=.H (.ax (a.map aI))/\st.tm 1=.H (.ax (b.map aI))/\st.mem 172019=none) (λh=>?_) (λh=>?_) ?_
 ·refine ai ?_;repeat' (intro (ao:_=_)<;>simp only[ao,go_sem,go_sem_proc,gd,eh]<;>try refine ag ?_ ?_)
  refine⟨aY y,aY x,n3 y,n3 x,aj,?_,by rw[m0,m0];omega,rfl,rfl⟩
  simp at h;omega
 ·refine ai ?_;repeat' (intro (ao:_=_)<;>simp only[ao,go_sem,go_sem_proc,gd,eh]<;>try refine ag ?_ ?_)
  refine⟨aY x,aY y,n3 x,n3 y,L,?_,by rw[m0,m0],rfl,rfl⟩
  simp at h;omega
 rintro⟨tm,mem⟩ ⟨a,b,Zq,yG,oZ,th,aN,ay,F,hm⟩;dsimp only at ay F hm;have sk:IntKind.i64.wrap ((D a:Int)+1)=((D a+1:Nat):Int):=by rw[eY _];rfl
 have mi:8*(D a+1)<=140737488355328:=by omega
 have fi:(D a)+1<=maxLen:=JD _ (by omega);simp only[go_sem,go_sem_proc,gd,ay,F,hm,sk,mi,fi,JC,al]
 refine dd [0,1,5,20,21] [] (λ(i,c,o) tm mem=>i<=D a/\(o:List Int).length=D a+1/\fo (o.take i)/\0<=c/\c<=1/\bo (o.take i)+1048576^i*c=bo (a.take i)+bo (b.take i)/\tm 22=.H (.int .i64 (i:Nat))/\tm 6=.H (.int .i64 c)/\mem 172019=some (0,aU aI o))
  (λ(i,_)=>D a-i) (0,0,ef (D a+1) 0) (by refine⟨fL _,by simp,by simp[fo],by omega,by omega,by simp[bo],?_,?_,?_⟩<;>rfl) ?_
 intro vs ms aQ aM;simp only[go_sem,go_sem_proc,gd,ay,F,al] at aQ aM;subst aQ aM;rintro⟨i,c,o⟩ tm mem I-⟨O,bw,hE,jK,g7,k3,yH,bX,hm⟩;simp only[go_sem,go_sem_proc,gd,bj] at I;obtain⟨ay,F,bu,Ah,Zr⟩:=I;rcases dn (i<D a) with ah|bW
 ·have si:a[i]?=some a[i]:=bh ah;have DL:=mF Zq i ah;have ih:IntKind.i64.wrap ((i:Int)+1)=((i+1:Nat):Int):=by rw[eY _];rfl
  have vP:i<D o:=by omega
  have mG:i+1<=(aU aI o).length:=by rw[sg];omega
  have n6:IntKind.i64.wrap (c+a[i])=c+a[i]:=wrap64 _ (by omega) (by omega);have j1:=λd=>Af o i d vP
  have fin:∀bi:Int,0<=bi->bi<1048576->bo (b.take (i+1))=bo (b.take i)+1048576^i*bi ->
    ∃bn:Nat×Int×List Int,D a-bn.1<D a-i/\bn.1<=D a/\bn.2.2.length=D a+1/\fo (bn.2.2.take bn.1)/\0<=bn.2.1/\bn.2.1<=1/\bo (bn.2.2.take bn.1)+1048576^bn.1*bn.2.1=bo (a.take bn.1)+bo (b.take bn.1) /\
     M.H (Data.int .i64 ((i+1:Nat):Int))=M.H (Data.int .i64 (bn.1:Int))/\M.H (Data.int .i64 ((c+a[i]+bi)/1048576))=M.H (Data.int .i64 bn.2.1)/\some (0,aU aI (o.set i ((c+a[i]+bi)%1048576)))=some (0,aU aI bn.2.2):=by
   intro bi uI mi GN;refine⟨(i+1,(c+a[i]+bi)/1048576,o.set i ((c+a[i]+bi)%1048576)),by dsimp only;omega,by dsimp only;omega,by simp[bw],?_,by dsimp only;omega,by dsimp only;omega,?_,rfl,rfl,rfl⟩
   ·dsimp only;rw[ahx _ (by simpa using vP),GL];refine⟨hE,?_⟩;simp only[Cc];omega
   ·dsimp only;rw[mE _ _ (by simpa using vP),GL,mE a i ah,GN,oA];simp only[Cc];exact ahC _ _ _ _ _ _ _ k3
  rcases dn (i<D b) with ti|Zs
  ·have sj:b[i]?=some b[i]:=bh ti;have xi:=mF yG i ti;have pO:IntKind.i64.wrap (c+a[i]+b[i])=c+a[i]+b[i]:=wrap64 _ (by omega) (by omega);have lU:decide ((i:Int)<(D b:Int))=true:=cX;have oD:decide ((i:Int)<(D a:Int))=true:=cX;refine ai ?_;repeat' (intro (ao:_=_)<;>simp only[ao,go_sem,go_sem_proc,gd,ay,F,bu,Ah,Zr,yH,bX,hm,si,sj,ih,n6,pO,lU,oD,ah,mG,j1,B0,yz,aI,dZ,al,bm,bj,show i<D a+1 by omega,show ¬ ((20:Int)<0) by omega]<;>try refine ag ?_ ?_)
   exact fin b[i] xi.1 xi.2 (mE b i ti)
  ·have lU:decide ((i:Int)<(D b:Int))=false:=b7;have oD:decide ((i:Int)<(D a:Int))=true:=cX;refine ai ?_;repeat' (intro (ao:_=_)<;>simp only[ao,go_sem,go_sem_proc,gd,ay,F,bu,Ah,Zr,yH,bX,hm,si,ih,n6,lU,oD,ah,mG,j1,B0,yz,aI,dZ,al,bm,bj,show i<D a+1 by omega,show ¬ ((20:Int)<0) by omega]<;>try refine ag ?_ ?_)
   have:=fin 0 (by omega) (by omega) (by rw[dD (by omega),dD (by omega)];simp)
   simpa using this
 ·obtain rfl:i=D a:=by omega
  have oD:decide ((D a:Int)<(D a:Int))=false:=b7;have vP:(D a)<D o:=by omega
  have mG:(D a)+1<=(aU aI o).length:=by rw[sg];omega
  have j1:=λd=>Af o (D a) d vP
  have Zt:fo (o.set (D a) c):=by
   have:o.set (D a) c=(o.set (D a) c).take (D a+1):=by rw[dD (by simp[bw])]
   rw[this,ahx _ (by simpa using vP),GL];refine⟨hE,?_⟩;simp only[Cc];omega
  have Zu:bo (o.set (D a) c)=x+y:=by
   have:o.set (D a) c=(o.set (D a) c).take (D a+1):=by rw[dD (by simp[bw])]
   rw[this,mE _ _ (by simpa using vP),GL];simp only[Cc];rw[k3,dD (cl _),dD th,aN]
  have qs:=Zl (o.set (D a) c) 172019 0 (a5 mem 172019 0 (aU aI (o.set (D a) c))) (by simp[a5]) (by simp[bw];omega);rw[ie,bw] at qs;have fZ:=Zn (mem:=a5 mem 172019 0 (aU aI (o.set (D a) c))) (k:=172019) (g:=0) (n:=x+y) (by simp[a5]) Zt (by rw[Zu];rfl);refine ai ?_;repeat' (intro (ao:_=_)<;>simp only[ao,go_sem,go_sem_proc,gd,ay,F,bu,Ah,Zr,yH,bX,hm,oD,mG,j1,qs,fZ,dZ,al,show (D a)<D a+1 by omega]<;>try refine ag ?_ ?_)
def ahE (n:Int):bits .and .i64 (n/1048576) 1=n/1048576%2:=by
 generalize n/1048576=m;have G:(1:Int)=((2^1-1:Nat):Int):=by decide
 have F:m%18446744073709551616%2=m%2:=by omega
 obtain⟨a,aZ⟩:∃a:Nat,(a:Int)=m%18446744073709551616:=⟨(m%18446744073709551616).toNat,by omega⟩
 have e:BitVec.ofInt 64 m=BitVec.ofNat 64 a:=by
  apply BitVec.eq_of_toInt_eq;rw[BitVec.toInt_ofInt,BitVec.toInt_ofNat',aZ];simp[agR,agS]
 have aC:bits .and .i64 m 1=bits .and .i64 (a:Int) 1:=by
  simp only[bits];rw[show IntKind.i64.bits=64 from rfl,e,BitVec.ofInt_natCast]
 rw[aC,<-F,<-aZ];have Ys:a<2^64:=by omega
 conv=>lhs;rw[G]
 simp only[bits,BitVec.ofInt_natCast,BitVec.toNat_and,BitVec.toNat_ofNat,show IntKind.i64.bits=64 from rfl,Nk Ys];rw[show (2^1-1:Nat)%2^64=2^1-1 by decide,agT,wrap64 _ (by omega) (by omega)]
 omega
def Zv (o:List Int)(j:Nat)(d:Int)(h:j<D o):bo (o.set j d)=bo o+1048576^j*(d-o[j]):=by
 induction o generalizing j with
 |nil=>simp at h
 |cons x r aG =>
  cases j with
  |zero=>simp[bo];omega
  |succ j =>
   simp only[List.set_cons_succ,vK,List.getElem_cons_succ,oA];rw[aG j (by simpa using h),jI,<-jJ,oB 1048576 (1048576^j)];omega
def Cd {o:List Int}(h:fo o)(j:Nat){d:Int}(Z:0<=d/\d<1048576):fo (o.set j d):=by
 intro x L;rcases List.mem_or_eq_of_mem_set L with F|F
 ·exact h x F
 ·rw[F];exact Z
def awi (p yF w0 uh c a b:Int)(h:yF=w0-uh+p*c):yF+p*((a-c-b)%1048576)=w0+p*a-(uh+p*b)-p*1048576*((a-c-b)/1048576):=by
 have F:=D0 (a-c-b) 1048576
 have G:p*((a-c-b)%1048576)+p*1048576*((a-c-b)/1048576)=p*(a-c-b):=by
  rw[jJ,<-jI,F]
 have ab:p*(a-c-b)=p*a-p*c-p*b:=by rw[JF,JF]
 omega
def NZ:=bV n5 λ(x,y)=>cu ((aY x).length<=100000/\y<=x) (.own 1 ((aY (x-y)).map aI))
@[go_sem] def Zw (x y):=cH NZ rfl Ag (x,y) rfl
def awj (T:ba)(jh:T z8=aK DZ)(gd:T sb=BS Ac xe):WF T ahe NZ:=by
 refine cp λ(x,y)=>cT λJ=>⟨rfl,ck ?_⟩;simp only[ahe,n5,cd];obtain⟨L,ahF⟩:=J;have vO:=n3 x;have tg:=n3 y;have yE:=m0 x;have GM:=m0 y
 have mH:(aY y).length<=(aY x).length:=by
  rw[g9];exact vQ ahF (g9.1 (cl _))
 generalize aZ:aY x=a at *;generalize ad:aY y=b at *;have oZ:(D a)<=1000000:=by omega
 simp only[go_sem,go_sem_proc,jh,gd,eh,aZ,ad,oZ,al]
 refine dd [1,5,12] [] (λ(i,c,o) tm mem=>i<=D a/\(o:List Int).length=D a/\fo o/\o.drop i=a.drop i/\(c=0\/c=1)/\bo (o.take i)=bo (a.take i)-bo (b.take i)+1048576^i*c/\tm 13=.H (.int .i64 (i:Nat))/\tm 6=.H (.int .i64 c)/\mem 173010=some (0,aU aI o))
  (λ(i,_)=>D a-i) (0,0,a) (by refine⟨fL _,rfl,vO,rfl,.inl rfl,by simp[bo],?_,?_,?_⟩<;>rfl) ?_
 intro vs ms aQ aM;simp only[go_sem,go_sem_proc,jh,gd,eh,aZ,ad,al] at aQ aM;subst aQ aM;rintro⟨i,c,o⟩ tm mem I-⟨O,bw,hE,xj,awk,k3,kA,bX,hm⟩;simp only[go_sem,go_sem_proc,jh,gd,bj] at I;obtain⟨F,bu,eu⟩:=I;rcases dn (i<D a) with ah|bW
 ·have vP:i<D o:=by omega
  have awl:o[i]=a[i]:=by
   have F:=je vP;have G:=je ah;rw[xj,G] at F;exact (yI F).1.symm
  have DL:=mF vO i ah;have ih:IntKind.i64.wrap ((i:Int)+1)=((i+1:Nat):Int):=by rw[eY _];rfl
  have mG:i+1<=(aU aI o).length:=by rw[sg];omega
  have m2:=NX o i vP;rw[awl] at m2;have n6:IntKind.i64.wrap (a[i]-c)=a[i]-c:=wrap64 _ (by omega) (by omega);have j1:=λd=>Af o i d vP
  have fin:∀bi:Int,0<=bi->bi<1048576->bo (b.take (i+1))=bo (b.take i)+1048576^i*bi ->
    ∃bn:Nat×Int×List Int,D a-bn.1<D a-i/\bn.1<=D a/\bn.2.2.length=D a/\fo bn.2.2/\bn.2.2.drop bn.1=a.drop bn.1/\(bn.2.1=0\/bn.2.1=1)/\bo (bn.2.2.take bn.1)=bo (a.take bn.1)-bo (b.take bn.1)+1048576^bn.1*bn.2.1 /\
     M.H (Data.int .i64 ((i+1:Nat):Int))=M.H (Data.int .i64 (bn.1:Int))/\M.H (Data.int .i64 ((a[i]-c-bi)/1048576%2))=M.H (Data.int .i64 bn.2.1)/\some (0,aU aI (o.set i ((a[i]-c-bi)%1048576)))=some (0,aU aI bn.2.2):=by
   intro bi uI mi GN;have bq:(a[i]-c-bi)/1048576=0\/(a[i]-c-bi)/1048576 = -1:=by omega
   refine⟨(i+1,(a[i]-c-bi)/1048576%2,o.set i ((a[i]-c-bi)%1048576)),by dsimp only;omega,by dsimp only;omega,by simp[bw],Cd hE i (by omega),?_,by dsimp only;omega,?_,rfl,rfl,rfl⟩
   ·dsimp only;rw[vC (by omega)];have F:=je vP;have G:=je ah;rw[xj,G] at F;exact (yI F).2.symm
   ·dsimp only;rw[mE _ _ (by simpa using vP),GL,mE a i ah,GN,oA];simp only[Cc];rw[awi _ _ _ _ _ _ _ k3];rcases bq with e|e<;>rw[e]<;>simp
  have oD:decide ((i:Int)<(D a:Int))=true:=cX;rcases dn (i<D b) with ti|Zs
  ·have sj:b[i]?=some b[i]:=bh ti;have xi:=mF tg i ti;have pO:IntKind.i64.wrap (a[i]-c-b[i])=a[i]-c-b[i]:=wrap64 _ (by omega) (by omega);have lU:decide ((i:Int)<(D b:Int))=true:=cX;refine ai ?_;repeat' (intro h<;>simp only[h,go_sem,go_sem_proc,jh,gd,F,bu,eu,kA,bX,hm,sj,ih,n6,pO,lU,oD,ah,mG,m2,j1,B0,ahE,yz,aI,dZ,al,bm,bj,show ¬ ((20:Int)<0) by omega]<;>try refine ag ?_ ?_)
   exact fin b[i] xi.1 xi.2 (mE b i ti)
  ·have lU:decide ((i:Int)<(D b:Int))=false:=b7;refine ai ?_;repeat' (intro h<;>simp only[h,go_sem,go_sem_proc,jh,gd,F,bu,eu,kA,bX,hm,ih,n6,lU,oD,ah,mG,m2,j1,B0,ahE,yz,aI,dZ,al,bm,bj,show ¬ ((20:Int)<0) by omega]<;>try refine ag ?_ ?_)
   have:=fin 0 (by omega) (by omega) (by rw[dD (by omega),dD (by omega)];simp)
   simpa using this
 ·obtain rfl:i=D a:=by omega
  have oD:decide ((D a:Int)<(D a:Int))=false:=b7;rw[dD (by omega),dD (by omega),dD (by omega),yE,GM] at k3
  have Zu:bo o=((x-y:Nat):Int):=by
   have F:=BU hE;rw[bw] at F;rcases awk with rfl|rfl
   ·rw[k3];omega
   ·omega
  have qs:=Zl o 173010 0 mem hm (by omega);rw[bw] at qs;have fZ:=Zn hm hE Zu;refine ai ?_;repeat' (intro h<;>simp only[h,go_sem,go_sem_proc,jh,gd,F,bu,eu,kA,bX,hm,oD,qs,fZ,al]<;>try refine ag ?_ ?_)
def ahG (p yF V c x y Ce:Int)(h:yF+p*c=V):yF+p*((Ce+x*y+c)%1048576-Ce)+p*1048576*((Ce+x*y+c)/1048576)=V+p*(x*y):=by
 have F:=D0 (Ce+x*y+c) 1048576
 have G:p*((Ce+x*y+c)%1048576)+p*1048576*((Ce+x*y+c)/1048576)=p*(Ce+x*y+c):=by
  rw[jJ,<-jI,F]
 have ab:p*(Ce+x*y+c)=p*Ce+p*(x*y)+p*c:=by rw[jI,jI]
 rw[JF];omega
def ahH {o x y c:Int}(bw:0<=o/\o<1048576)(L:0<=x/\x<1048576)(aj:0<=y/\y<1048576)(J:0<=c/\c<1048576):
  0<=x*y/\x*y<=1099509530625/\0<=(o+x*y+c)/1048576/\(o+x*y+c)/1048576<1048576:=by
 have F:0<=x*y:=sl L.1 aj.1;have G:x*y<=1048575*1048575:=JG (by omega) (by omega) aj.1 (by omega);omega
def ahI {o:List Int}{n j:Nat}(h:o.drop n=ef (D o-n) 0)(ae:n<=j)(ah:j<D o):o[j]=0:=by
 have F:(o.drop n)[j-n]?=some o[j]:=by rw[q6,show n+(j-n)=j by omega,bh ah]
 rw[h,List.getElem?_replicate] at F
 split at F
 ·exact (nu F).symm
 ·cases F
def ahJ {o:List Int}{n:Nat}{d:Int}(h:o.drop n=ef (D o-n) 0)(ah:n<D o):(o.set n d).drop (n+1)=ef ((o.set n d).length-(n+1)) 0:=by
 rw[vC (by omega),ie];have F:=je ah;rw[h,show (D o)-n=(D o-(n+1))+1 by omega,um] at F
 exact (yI F).2.symm
def N0:=bV n5 λ(x,y)=>cu ((aY x).length<=10000/\(aY y).length<=10000) (.own 1 ((aY (x*y)).map aI))
@[go_sem] def Zx (x y):=cH N0 rfl Ag (x,y) rfl
def awm (T:ba)(gd:T sb=BS Ac xe):WF T ahc N0:=by
 refine cp λ(x,y)=>cT λJ=>⟨rfl,ck ?_⟩;simp only[ahc,n5,cd];obtain⟨L,aj⟩:=J;have vO:=n3 x;have tg:=n3 y;have yE:=m0 x;have GM:=m0 y;generalize aZ:aY x=a at *;generalize ad:aY y=b at *;have sk:IntKind.i64.wrap ((D a:Int)+(D b:Int))=((D a+D b:Nat):Int):=by rw[eY _];rfl
 have mi:8*(D a+D b)<=140737488355328:=by omega
 have fi:(D a)+D b<=maxLen:=JD _ (by omega);simp only[go_sem,go_sem_proc,gd,eh,aZ,ad,sk,mi,fi,JC,al]
 refine dd [1,5,18,19] [] (λ(i,o) tm mem=>i<=D a/\(o:List Int).length=D a+D b/\fo o/\o.drop (i+D b)=ef (D o-(i+D b)) 0/\bo o=bo (a.take i)*y/\tm 20=.H (.int .i64 (i:Nat))/\mem 161017=some (0,aU aI o))
  (λ(i,_)=>D a-i) (0,ef (D a+D b) 0) (by
   have a2:∀n,bo (ef n 0)=0:=by
    intro n
    induction n with
    |zero=>rfl
    |succ n aG=>rw[um,vK,aG];rfl
   refine⟨fL _,by simp,λd Z=>by rw[JH] at Z;omega,by simp,by rw[a2];simp[bo],?_,?_⟩<;>rfl) ?_
 intro vs ms aQ aM;simp only[go_sem,go_sem_proc,gd,eh,aZ,ad,sk,al] at aQ aM;subst aQ aM;rintro⟨i,o⟩ tm mem I-⟨O,bw,hE,uJ,k3,Ah,hm⟩;simp only[go_sem,go_sem_proc,gd,bj] at I;obtain⟨F,bu,oE,yJ⟩:=I;rcases dn (i<D a) with ah|bW
 ·have si:a[i]?=some a[i]:=bh ah;have DL:=mF vO i ah;have vE:=mE a i ah;generalize a[i]=ji at *;have lU:decide ((i:Int)<(D a:Int))=true:=cX;simp only[go_sem,go_sem_proc,gd,F,bu,oE,yJ,Ah,si,lU,aI,al,bm,bj]
  refine dd [1,5,6,7,18,19,20,25,26] [] (λ((k,c,o):Nat×Int×List Int) tm mem=>k<=D b/\D o=D a+D b/\fo o/\o.drop (i+D b)=ef (D o-(i+D b)) 0/\0<=c/\c<1048576/\bo o+1048576^(i+k)*c=bo (a.take i)*y+1048576^i*(ji*bo (b.take k)) /\
    tm 27=.H (.int .i64 (k:Nat))/\tm 8=.H (.int .i64 c)/\mem 161017=some (0,aU aI o))
   (λ(k,_)=>D b-k) (0,0,o) (by refine⟨fL _,bw,hE,uJ,by omega,by omega,by simp[bo,k3],?_,?_,hm⟩<;>rfl) ?_
  intro vs ms aQ aM;simp only[go_sem,go_sem_proc,gd,F,bu,oE,yJ,Ah,aI,al] at aQ aM;subst aQ aM;rintro⟨k,c,o⟩ tm mem I-⟨uv,bw,hE,uJ,jK,g7,k3,ahK,cS,hm⟩;simp only[go_sem,go_sem_proc,gd,bj] at I;obtain⟨F,bu,bX,b9,oE,yJ,Ah,ahL,ahM⟩:=I;rcases dn (k<D b) with N1|N1
  ·have sj:b[k]?=some b[k]:=bh N1;have JI:=mF tg k N1;have rq:i+k<D o:=by omega
   have Zy:=mF hE (i+k) rq;obtain⟨dg,bU,iA,fE⟩:=ahH Zy DL JI ⟨jK,g7⟩;have lU:decide ((k:Int)<(D b:Int))=true:=cX;have ih:IntKind.i64.wrap ((k:Int)+1)=((k+1:Nat):Int):=by rw[eY _];rfl
   have n6:IntKind.i64.wrap ((i:Int)+(k:Int))=((i+k:Nat):Int):=by rw[eY _];rfl
   have pO:IntKind.i64.wrap (ji*b[k])=ji*b[k]:=wrap64 _ (by omega) (by omega);have JJ:IntKind.i64.wrap (o[i+k]+ji*b[k])=o[i+k]+ji*b[k]:=wrap64 _ (by omega) (by omega);have D3:IntKind.i64.wrap (o[i+k]+ji*b[k]+c)=o[i+k]+ji*b[k]+c:=wrap64 _ (by omega) (by omega);have mG:i+k+1<=(aU aI o).length:=by rw[sg];omega
   have m2:=NX o (i+k) rq;have j1:=λd=>Af o (i+k) d rq;have mb:i+k<D a+D b:=by omega
   refine ai ?_;repeat' (intro h<;>simp only[h,go_sem,go_sem_proc,gd,F,bu,bX,b9,oE,yJ,Ah,ahL,ahM,ahK,cS,hm,sj,lU,ih,n6,pO,JJ,D3,mb,mG,m2,j1,B0,yz,aI,dZ,al,bm,bj,show ¬ ((20:Int)<0) by omega]<;>try refine ag ?_ ?_)
   refine⟨(k+1,(o[i+k]+ji*b[k]+c)/1048576,o.set (i+k) ((o[i+k]+ji*b[k]+c)%1048576)),by dsimp only;omega,by dsimp only;omega,by simp[bw],Cd hE _ (by omega),?_,iA,fE,?_,rfl,rfl,rfl⟩
   ·dsimp only;rw[vC (by omega),ie,uJ]
   ·dsimp only;rw[Zv _ _ _ rq,mE b k N1,<-vn,oA,ahG _ _ _ _ _ _ _ k3];rw[jI (ji),jI (1048576^i),ahN]
    have:(1048576:Int)^i*(ji*(1048576^k*b[k]))=1048576^i*1048576^k*(ji*b[k]):=by
     rw[<-jJ (ji),oB (ji) (1048576^k),jJ (1048576^k),<-jJ]
    omega
  ·obtain rfl:k=D b:=by omega
   have lU:decide ((D b:Int)<(D b:Int))=false:=b7;have rq:i+D b<D o:=by omega
   have a2:=ahI uJ (cl _) rq;have ih:IntKind.i64.wrap ((i:Int)+1)=((i+1:Nat):Int):=by rw[eY _];rfl
   have n6:IntKind.i64.wrap ((i:Int)+(D b:Int))=((i+D b:Nat):Int):=by rw[eY _];rfl
   have pO:IntKind.i64.wrap (0+c)=c:=by rw[JK];exact wrap64 _ (by omega) (by omega)
   have mG:i+D b+1<=(aU aI o).length:=by rw[sg];omega
   have m2:=NX o (i+D b) rq;rw[a2] at m2;have j1:=λd=>Af o (i+D b) d rq;have mb:i+D b<D a+D b:=by omega
   refine ai ?_;repeat' (intro h<;>simp only[h,go_sem,go_sem_proc,gd,F,bu,bX,b9,oE,yJ,Ah,ahL,ahM,ahK,cS,hm,lU,ih,n6,pO,mb,mG,m2,j1,aI,dZ,al]<;>try refine ag ?_ ?_)
   refine⟨(i+1,o.set (i+D b) c),by dsimp only;omega,by dsimp only;omega,by simp[bw],Cd hE _ ⟨jK,g7⟩,?_,?_,rfl,rfl⟩
   ·dsimp only;have:=ahJ (d:=c) uJ rq;rwa [show i+D b+1=i+1+(D b) by omega] at this
   ·dsimp only;rw[Zv _ _ _ rq,a2,vE];rw[dD (cl _),GM] at k3;rw[D4,k3,vR,jJ]
 ·obtain rfl:i=D a:=by omega
  have lU:decide ((D a:Int)<(D a:Int))=false:=b7;rw[dD (cl _),yE] at k3;have qs:=Zl o 161017 0 mem hm (by omega);rw[bw] at qs;have fZ:=Zn hm hE (n:=x*y) (by rw[k3];rfl);refine ai ?_;repeat' (intro h<;>simp only[h,go_sem,go_sem_proc,gd,F,bu,oE,yJ,Ah,hm,lU,qs,fZ,al]<;>try refine ag ?_ ?_)
abbrev SK:Nat×Int->List Data:=λ(x,d)=>[eh x,.int .i64 d]
def SM:=bV SK λ(x,d)=>cu ((aY x).length<=100000/\0<d/\d<1048576) (.same (.dj [eh (x/d.toNat),.int .i64 (x%d.toNat:Nat)]))
def awn:∀a b,SK a=SK b->a=b:=by
  rintro⟨fx,d1⟩ ⟨fe,d2⟩ h;simp only[bj,eh,Data.ax.injEq,Data.int.injEq] at h;exact et (Nn (map_inj gq _ _ h.1)) h.2.1.2
@[go_sem] def ahO (x d):=cH SM rfl awn (x,d) rfl
def awo (T:ba)(gd:T sb=BS Ac xe):WF T ahg SM:=by
 refine cp λ(x,d)=>cT λJ=>⟨rfl,ck ?_⟩;simp only[ahg,SK,cd];obtain⟨L,D5,lu⟩:=J;have vO:=n3 x;have yE:=m0 x;generalize aZ:aY x=a at *;have mi:8*D a<=140737488355328:=by omega
 have fi:(D a)<=maxLen:=JD _ (by omega);have lv:(d=0)=False:=by simp;omega
 simp only[go_sem,go_sem_proc,gd,eh,aZ,mi,fi,JC,al]
 refine dd [0,1,6] [] (λ((n,r,o):Nat×Int×List Int) tm mem=>n<=D a/\D o=D a/\fo o/\0<=r/\r<d/\bo (a.drop n)=d*bo (o.drop n)+r/\tm 8=.H (.int .i64 ((n:Nat)-1))/\tm 7=.H (.int .i64 r)/\mem 176011=some (0,aU aI o))
  (λ(n,_)=>n) (D a,0,ef (D a) 0) (by
   refine⟨cl _,by simp,λd Z=>by rw[JH] at Z;omega,by omega,by omega,by simp[bo],?_,?_,?_⟩
   ·simp only[dC,reduceIte];rw[eY _]
   ·rfl
   ·rfl) ?_
 intro vs ms aQ aM;simp only[go_sem,go_sem_proc,gd,eh,aZ,al] at aQ aM;subst aQ aM;rintro⟨n,r,o⟩ tm mem I-⟨aL,bw,hE,iT,GO,aN,cS,b9,hm⟩;simp only[go_sem,go_sem_proc,gd,bj] at I;obtain⟨ay,F,bX⟩:=I;rcases n with _|n
 ·have bq:bo o=(x/d.toNat:Nat)/\r=(x%d.toNat:Nat):=by
   rw[o0,o0,yE] at aN;have e:(d.toNat:Int)=d:=by omega
   constructor
   ·rw[Zz,e,aN,Ai,ahP _ _ (by omega),ZA iT GO];omega
   ·rw[ahQ,e,aN,Ai,ahR,ZB iT GO]
  have gx:=SE o (by omega);rw[BV hE,bq.1] at gx;have fK:M.ref 176011 0 1 0 (D a)=M.ref 176011 0 1 0 (D o):=by rw[bw]
  rw[fK] at bX;refine ai ?_;repeat' (intro h<;>simp only[h,go_sem,go_sem_proc,gd,ay,F,bX,b9,cS,hm,gx,nB kz,qx,rp,show ¬ ((0:Int)-1>=0) by omega,decide_false,gK]<;>try refine ag ?_ ?_)
  all_goals rw[bq.2]
 ·have si:a[n]?=some a[n]:=bh (by omega);have SN:=mF vO n (by omega);have hw:((n+1:Nat):Int)-1=(n:Int):=by omega
  have gl:n<D o:=by omega
  have ih:IntKind.i64.wrap (r*2^min (Gl 20) 64)=r*1048576:=by
   rw[show min (Gl 20) 64=20 by decide]
   exact wrap64 _ (by omega) (by omega)
  have xk:bits .or .i64 (r*1048576) a[n]=r*1048576+a[n]:=Yt r a[n] iT (by omega) SN;have nE:0<=(r*1048576+a[n])/d:=GP (by omega) (by omega)
  have xl:(r*1048576+a[n])/d<1048576:=ahS D5 (by
   have:(r+1)*1048576<=d*1048576:=mm (by omega) (by omega);rw[oB 1048576 d];omega)
  have xm:(r*1048576+a[n]).tdiv d=(r*1048576+a[n])/d:=Cf (by omega);have ZC:(r*1048576+a[n]).tmod d=(r*1048576+a[n])%d:=N2 (by omega);have n6:IntKind.i64.wrap ((r*1048576+a[n])/d)=(r*1048576+a[n])/d:=wrap64 _ (by omega) (by omega);have mG:n+1<=(aU aI o).length:=by rw[sg];omega
  have j1:=λd=>Af o n d gl;have ix:n<D a:=by omega
  have pO:IntKind.i64.wrap ((n:Int)-1)=(n:Int)-1:=wrap64 _ (by omega) (by omega);refine ai ?_;repeat' (intro h<;>simp only[h,go_sem,go_sem_proc,gd,ay,F,bX,b9,cS,hm,hw,si,ih,xk,xm,ZC,n6,pO,lv,ix,mG,j1,show (n:Int)>=0 by omega,decide_true,aI,dZ,al,bm,bj,show ¬ ((20:Int)<0) by omega]<;>try refine ag ?_ ?_)
  refine⟨(n,(r*1048576+a[n])%d,o.set n ((r*1048576+a[n])/d)),by dsimp only;omega,by dsimp only;omega,by simp[bw],Cd hE n ⟨nE,xl⟩,JL _ (by omega),ZD _ D5,?_,rfl,rfl,rfl⟩
  dsimp only;rw[je (by omega:n<D a),je (by simpa using gl:n<(o.set n ((r*1048576+a[n])/d)).length),vK,vK]
  simp only[Cc];rw[vC (by omega),aN];have:=D0 (r*1048576+a[n]) d;rw[jI,jI,ZE d 1048576];omega
def pad:Nat->Nat->List Int
 |0,_=>[]
 |n+1,x=>((x%1048576:Nat):Int)::pad n (x/1048576)
def awp (n x:Nat):(pad n x).length=n:=by
 induction n generalizing x with
 |zero=>rfl
 |succ n aG=>simp[pad,aG]
def awq (n x:Nat):fo (pad n x):=by
 induction n generalizing x with
 |zero=>intro d Z;cases Z
 |succ n aG =>
  unfold pad;rw[Gh];exact⟨by omega,aG _⟩
def ahT {l:List Int}(h:fo l):l=pad (D l) (bo l).toNat:=by
 induction l with
 |nil=>rfl
 |cons d r aG =>
  rw[Gh] at h;have F:=qt h.2;have G:=aG h.2;simp only[lJ,pad,vK]
  congr 1
  ·omega
  ·rw[show (d+1048576*bo r).toNat/1048576=(bo r).toNat by omega]
   exact G
def awr {n x:Nat}(h:x<1048576^n):bo (pad n x)=x:=by
 induction n generalizing x with
 |zero=>simp at h;subst h;rfl
 |succ n aG =>
  unfold pad;rw[vK,aG (by rw[agQ (by omega)];rwa [xa] at h)];omega
def N3 {pre u post:List Int}{i:Nat}(h:i<D u):gT 1 (hl (D pre+i) (aU aI (pre++u++post)))=[.H (.int .i64 u[i])]:=by
 rw[NX _ _ (by simp;omega)]
 congr 3
 simp[List.getElem_append,h]
def ahU {pre u post:List Int}{i:Nat}(h:i<D u)(d:Int):gT (D pre+i) (aU aI (pre++u++post))++[.H (.int .i64 d)]++hl (D pre+i+1) (aU aI (pre++u++post))=aU aI (pre++u.set i d++post):=by
 rw[Af _ _ _ (by simp;omega)]
 congr 1
 rw[g8,List.set_append_right _ _ (by omega),Jh,List.set_append_left _ _ h,g8]
def SO (mem:Mem)(k g dp:Nat)(a b:List M):a5 (a5 mem k g a) k dp b=a5 mem k dp b:=by
 funext j
 unfold a5
 split<;>rfl
def aws {mem:Mem}{k g:Nat}{a:List M}(h:mem k=some (g,a)):a5 mem k g a=mem:=by
 funext j
 unfold a5
 split
 ·rename_i e;rw[e,h]
 ·rfl
structure N4 where
 pre:List Int
 u:List Int
 post:List Int
 V:Nat
 q:Int
 k:Key
 g:Nat
def SP (u:List Int)(V:Nat)(q:Int):Int:=if bo u-q*V<0 then bo u-q*V+V else bo u-q*V
def D6 (u:List Int)(V:Nat)(q:Int):Int:=if bo u-q*V<0 then q-1 else q
def D7 (a:N4):List M:=aU aI (a.pre++pad (D a.u) (SP a.u a.V a.q).toNat++a.post)
def ZF (a:N4)(mem:Mem):Prop:=mem a.k=some (a.g,aU aI (a.pre++a.u++a.post))/\fo a.u/\(aY a.V).length<=D a.u/\0<=a.q/\a.q<1048576/\0<=bo a.u-a.q*a.V+a.V/\D a.pre+D a.u<=100000
def N5:List M->Mem->Option (M×Mem):=Jj (λ(a:N4) args mem=>args=[.ref a.k a.g 1 (D a.pre) (D a.u),.H (eh a.V),.H (.int .i64 a.q)]/\ZF a mem)
 (λa mem=>(.H (.int .i64 (D6 a.u a.V a.q)),a5 mem a.k a.g (D7 a)))
def awt {a b:Nat}(h:eh a=eh b):a=b:=Nn (map_inj gq _ _ (by simpa [eh] using h))
def awu (a:N4)(mem:Mem)(h:ZF a mem):N5 [.ref a.k a.g 1 (D a.pre) (D a.u),.H (eh a.V),.H (.int .i64 a.q)] mem=some (.H (.int .i64 (D6 a.u a.V a.q)),a5 mem a.k a.g (D7 a)):=by
 unfold N5;refine agL (a:=a) ?_ ⟨rfl,h⟩;rintro a b args mem ⟨F,G,_⟩ ⟨ab,aV,_⟩;rw[F] at ab;simp only[bj,M.ref.injEq,M.H.injEq,Data.int.injEq,true_and,and_true] at ab;obtain⟨⟨NV,SG,SQ,ahV⟩,ahW,eq⟩:=ab;have ahX:=awt ahW;clear ahW;obtain⟨pre,u,post,V,q,k,g⟩:=a;obtain⟨aN3,aN4,aN5,aN6,vS,k',dp⟩:=b;simp only at NV SG SQ ahV ahX eq G aV;subst NV SG ahX eq;rw[aV] at G;simp only[cF,fq,true_and] at G;have e:=Zk kz gq _ _ G (by omega);rw[g8,g8] at e;obtain⟨au,aC⟩:=JA e SQ.symm;obtain⟨bN,bK⟩:=JA aC ahV.symm;subst au bN bK
 rfl
def awv (p yF w0 uh c a b q:Int)(h:yF=w0-q*uh+p*c):yF+p*((a-c-q*b)%1048576)=w0+p*a-q*(uh+p*b)+p*1048576*(-((a-c-q*b)/1048576)):=by
 have F:=D0 (a-c-q*b) 1048576
 have G:p*((a-c-q*b)%1048576)+p*1048576*((a-c-q*b)/1048576)=p*(a-c-q*b):=by
  rw[jJ,<-jI,F]
 have ab:p*(a-c-q*b)=p*a-p*c-p*(q*b):=by rw[JF,JF]
 have aV:q*(uh+p*b)=q*uh+p*(q*b):=by rw[jI,ZE]
 rw[JM];omega
def ahY {a c q b:Int}(aZ:0<=a/\a<1048576)(J:0<=c/\c<=1048576)(bq:0<=q/\q<1048576)(ad:0<=b/\b<1048576):
  0<=q*b/\q*b<=1099509530625/\0 <= -((a-c-q*b)/1048576) /\ -((a-c-q*b)/1048576)<=1048576:=by
 have F:0<=q*b:=sl bq.1 ad.1;have G:q*b<=1048575*1048575:=JG (by omega) (by omega) ad.1 (by omega);omega
def aww (T:ba)(a:N4)(ep:Mem)(J:ZF a ep):
  wp T SA.body (Ji SA.res (.H (.int .i64 (D6 a.u a.V a.q))) (a5 ep a.k a.g (D7 a))) ⟨kq [.ref a.k a.g 1 (D a.pre) (D a.u),.H (eh a.V),.H (.int .i64 a.q)],ep⟩:=by
 obtain⟨pre,u,post,V,q,k,g⟩:=a;obtain⟨n0,xn,XD,nE,xl,iU,hlen⟩:=J;simp only at n0 xn XD nE xl iU hlen ⊢;have o6:=n3 V;have M6:=m0 V;have ZG:=g9.1 XD;refine ra ?_;simp only[SA];simp only[go_sem,go_sem_proc,eh];generalize ad:aY V=v at *
 refine dd [0,1,2,13] [] (λ((i,c,w):Nat×Int×List Int) tm mem=>i<=D u/\D w=D u/\fo w/\w.drop i=u.drop i/\(0<=c/\c<=1048576)/\bo (w.take i)=bo (u.take i)-q*bo (v.take i)+1048576^i*c/\tm 14=.H (.int .i64 (i:Nat))/\tm 7=.H (.int .i64 c)/\mem=a5 ep k g (aU aI (pre++w++post)))
  (λ(i,_)=>D u-i) (0,0,u) (by refine⟨fL _,rfl,xn,rfl,by omega,by simp[bo],rfl,rfl,(aws n0).symm⟩) ?_
 intro vs ms aQ aM;simp only[go_sem,go_sem_proc] at aQ aM;subst aQ aM;rintro⟨i,c,w⟩ tm _ I-⟨O,hw,tj,xj,J,k3,D8,b9,rfl⟩;simp only[go_sem,go_sem_proc,bj] at I;obtain⟨ay,F,G,kA⟩:=I;rcases dn (i<D u) with ah|bW
 ·have Aj:i<D w:=by omega
  have awx:w[i]=u[i]:=by
   have F:=je Aj;rw[xj,je ah] at F;exact (yI F).1.symm
  have tk:w.drop (i+1)=u.drop (i+1):=by
   have F:=je Aj;rw[xj,je ah] at F;exact (yI F).2.symm
  have m2:=N3 (pre:=pre) (post:=post) Aj;rw[awx] at m2;have ahZ:=mF xn i ah;have vE:=mE u i ah;generalize u[i]=xo at *;have ih:IntKind.i64.wrap ((i:Int)+1)=((i+1:Nat):Int):=by rw[eY _];rfl
  have n6:IntKind.i64.wrap (xo-c)=xo-c:=wrap64 _ (by omega) (by omega);have mG:(D pre)+i+1<=(aU aI (pre++w++post)).length:=by rw[sg];simp;omega
  have j1:=λd=>ahU (pre:=pre) (post:=post) Aj d;have oD:decide ((i:Int)<(D u:Int))=true:=cX
  have fin:∀bi:Int,0<=bi->bi<1048576->bo (v.take (i+1))=bo (v.take i)+1048576^i*bi ->
    ∃bn:Nat×Int×List Int,D u-bn.1<D u-i/\bn.1<=D u/\bn.2.2.length=D u/\fo bn.2.2/\bn.2.2.drop bn.1=u.drop bn.1/\(0<=bn.2.1/\bn.2.1<=1048576)/\bo (bn.2.2.take bn.1)=bo (u.take bn.1)-q*bo (v.take bn.1)+1048576^bn.1*bn.2.1 /\
     M.H (Data.int .i64 ((i+1:Nat):Int))=M.H (Data.int .i64 (bn.1:Int))/\M.H (Data.int .i64 (-((xo-c-q*bi)/1048576)))=M.H (Data.int .i64 bn.2.1)/\a5 ep k g (aU aI (pre++w.set i ((xo-c-q*bi)%1048576)++post))=a5 ep k g (aU aI (pre++bn.2.2++post)):=by
   intro bi uI mi GN;obtain⟨dg,bU,iA,fE⟩:=ahY ahZ J ⟨nE,xl⟩ ⟨uI,mi⟩;refine⟨(i+1,-((xo-c-q*bi)/1048576),w.set i ((xo-c-q*bi)%1048576)),by dsimp only;omega,by dsimp only;omega,by simp[hw],Cd tj i (by omega),?_,⟨iA,fE⟩,?_,rfl,rfl,rfl⟩
   ·dsimp only;rw[vC (by omega),tk]
   ·dsimp only;rw[mE _ _ (by simpa using Aj),GL,vE,GN,oA];simp only[Cc];exact awv _ _ _ _ _ _ _ _ k3
  rcases dn (i<D v) with ti|Zs
  ·have sj:v[i]?=some v[i]:=bh ti;have xi:=mF o6 i ti;have ZH:=mE v i ti;generalize v[i]=bi at *;obtain⟨dg,bU,iA,fE⟩:=ahY ahZ J ⟨nE,xl⟩ xi;have pO:IntKind.i64.wrap (q*bi)=q*bi:=wrap64 _ (by omega) (by omega);have JJ:IntKind.i64.wrap (xo-c-q*bi)=xo-c-q*bi:=wrap64 _ (by omega) (by omega);have D3:IntKind.i64.wrap (0-(xo-c-q*bi)/1048576) = -((xo-c-q*bi)/1048576):=by rw[eY _];omega
   have lU:decide ((i:Int)<(D v:Int))=true:=cX;refine ai ?_;repeat' (intro (ao:_=_)<;>simp only[ao,go_sem,go_sem_proc,ay,F,G,kA,D8,b9,sj,ih,n6,pO,JJ,D3,lU,oD,ah,mG,m2,j1,SO,B0,yz,aI,dZ,al,bm,bj,show ¬ ((20:Int)<0) by omega]<;>try refine ag ?_ ?_)
   exact fin bi xi.1 xi.2 ZH
  ·have lU:decide ((i:Int)<(D v:Int))=false:=b7;have D3:IntKind.i64.wrap (0-(xo-c)/1048576) = -((xo-c)/1048576):=by rw[eY _];omega
   refine ai ?_;repeat' (intro (ao:_=_)<;>simp only[ao,go_sem,go_sem_proc,ay,F,G,kA,D8,b9,ih,n6,D3,lU,oD,ah,mG,m2,j1,SO,B0,yz,aI,dZ,al,bm,bj,show ¬ ((20:Int)<0) by omega]<;>try refine ag ?_ ?_)
   have:=fin 0 (by omega) (by omega) (by rw[dD (by omega),dD (by omega)];simp);simp only[Ak,D4] at this;exact this
 ·obtain rfl:i=D u:=by omega
  have oD:decide ((D u:Int)<(D u:Int))=false:=b7;rw[dD (by omega),dD (by omega),dD (by omega),M6] at k3;have awy:=BU tj;have aN7:=qt tj;rw[hw] at awy
  have aN8:(V:Int)<1048576^(D u):=by
   have h:=Int.ofNat_lt.2 ZG;rw[GQ] at h;exact h
  by_cases jK:c=0
  ·subst jK;have ZI:bo u-q*V=bo w:=by omega
   have au:D6 u V q=q:=by unfold D6;rw[aa (by omega)]
   have aC:D7 ⟨pre,u,post,V,q,k,g⟩=aU aI (pre++w++post):=by
    unfold D7 SP;simp only;rw[aa (by omega),ZI,<-hw,<-ahT tj]
   refine ai ?_;repeat' (intro (ao:_=_)<;>simp only[ao,go_sem,go_sem_proc,ay,F,G,kA,D8,b9,oD,au,aC,beq_self_eq_true]<;>try refine ag ?_ ?_)
  ·have GR:(c==0)=false:=by simpa using jK
   have lV:(1048576:Int)^(D u)<=1048576^(D u)*c:=by
    have:(1048576:Int)^(D u)*1<=1048576^(D u)*c:=xg (by omega) (by omega);omega
   have mI:bo u-q*V<0:=by omega
   have ZJ:IntKind.i64.wrap (q-1)=q-1:=wrap64 _ (by omega) (by omega);simp only[go_sem,go_sem_proc,ay,F,G,kA,D8,b9,oD,GR]
   refine dd [0,1,2,48] [] (λ((i,d,z):Nat×Int×List Int) tm mem=>i<=D u/\D z=D u/\fo z/\z.drop i=w.drop i/\(0<=d/\d<=1)/\bo (z.take i)+1048576^i*d=bo (w.take i)+bo (v.take i)/\tm 49=.H (.int .i64 (i:Nat))/\tm 10=.H (.int .i64 d)/\mem=a5 ep k g (aU aI (pre++z++post)))
    (λ(i,_)=>D u-i) (0,0,w) (by refine⟨fL _,hw,tj,rfl,by omega,by simp[bo],rfl,rfl,rfl⟩) ?_
   intro vs ms aQ aM;simp only[go_sem,go_sem_proc,ay,F,G] at aQ aM;subst aQ aM;rintro⟨i,d,z⟩ tm _ I-⟨O,a2,Cg,xj,Z,ah0,ZK,du,rfl⟩;simp only[go_sem,go_sem_proc,bj] at I;obtain⟨ay,F,G,ZL⟩:=I;rcases dn (i<D u) with ah|bW
   ·have N6:i<D z:=by omega
    have Aj:i<D w:=by omega
    have awz:z[i]=w[i]:=by
     have F:=je N6;rw[xj,je Aj] at F;exact (yI F).1.symm
    have N7:z.drop (i+1)=w.drop (i+1):=by
     have F:=je N6;rw[xj,je Aj] at F;exact (yI F).2.symm
    have m2:=N3 (pre:=pre) (post:=post) N6;rw[awz] at m2;have N8:=mF tj i Aj;have vE:=mE w i Aj;generalize w[i]=D9 at *;have ih:IntKind.i64.wrap ((i:Int)+1)=((i+1:Nat):Int):=by rw[eY _];rfl
    have n6:IntKind.i64.wrap (d+D9)=d+D9:=wrap64 _ (by omega) (by omega);have mG:(D pre)+i+1<=(aU aI (pre++z++post)).length:=by rw[sg];simp;omega
    have j1:=λd=>ahU (pre:=pre) (post:=post) N6 d;have oD:decide ((i:Int)<(D u:Int))=true:=cX
    have fin:∀bi:Int,0<=bi->bi<1048576->bo (v.take (i+1))=bo (v.take i)+1048576^i*bi ->
      ∃bn:Nat×Int×List Int,D u-bn.1<D u-i/\bn.1<=D u/\bn.2.2.length=D u/\fo bn.2.2/\bn.2.2.drop bn.1=w.drop bn.1/\(0<=bn.2.1/\bn.2.1<=1)/\bo (bn.2.2.take bn.1)+1048576^bn.1*bn.2.1=bo (w.take bn.1)+bo (v.take bn.1) /\
       M.H (Data.int .i64 ((i+1:Nat):Int))=M.H (Data.int .i64 (bn.1:Int))/\M.H (Data.int .i64 ((d+D9+bi)/1048576))=M.H (Data.int .i64 bn.2.1)/\a5 ep k g (aU aI (pre++z.set i ((d+D9+bi)%1048576)++post))=a5 ep k g (aU aI (pre++bn.2.2++post)):=by
     intro bi uI mi GN;refine⟨(i+1,(d+D9+bi)/1048576,z.set i ((d+D9+bi)%1048576)),by dsimp only;omega,by dsimp only;omega,by simp[a2],Cd Cg i (by omega),?_,by dsimp only;omega,?_,rfl,rfl,rfl⟩
     ·dsimp only;rw[vC (by omega),N7]
     ·dsimp only;rw[mE _ _ (by simpa using N6),GL,vE,GN,oA];simp only[Cc];exact ahC _ _ _ _ _ _ _ ah0
    rcases dn (i<D v) with ti|Zs
    ·have sj:v[i]?=some v[i]:=bh ti;have xi:=mF o6 i ti;have ZH:=mE v i ti;generalize v[i]=bi at *;have pO:IntKind.i64.wrap (d+D9+bi)=d+D9+bi:=wrap64 _ (by omega) (by omega);have lU:decide ((i:Int)<(D v:Int))=true:=cX;refine ai ?_;repeat' (intro (ao:_=_)<;>simp only[ao,go_sem,go_sem_proc,ay,F,G,ZL,ZK,du,sj,ih,n6,pO,lU,oD,ah,mG,m2,j1,SO,B0,yz,aI,dZ,al,bm,bj,show ¬ ((20:Int)<0) by omega]<;>try refine ag ?_ ?_)
     exact fin bi xi.1 xi.2 ZH
    ·have lU:decide ((i:Int)<(D v:Int))=false:=b7;refine ai ?_;repeat' (intro (ao:_=_)<;>simp only[ao,go_sem,go_sem_proc,ay,F,G,ZL,ZK,du,ih,n6,lU,oD,ah,mG,m2,j1,SO,B0,yz,aI,dZ,al,bm,bj,show ¬ ((20:Int)<0) by omega]<;>try refine ag ?_ ?_)
     have:=fin 0 (by omega) (by omega) (by rw[dD (by omega),dD (by omega)];simp);simp only[rr] at this;exact this
   ·obtain rfl:i=D u:=by omega
    have oD:decide ((D u:Int)<(D u:Int))=false:=b7;rw[dD (by omega),dD (by omega),dD (by omega),M6] at ah0;have awA:=BU Cg;have aN9:=qt Cg;rw[a2] at awA
    have ZI:bo u-q*V+V=bo z:=by
     have e:bo u-q*V+V-bo z=1048576^(D u)*(d-c):=by rw[JF];omega
     generalize (1048576:Int)^(D u)=p at *;rcases uK (d-c) 0 with h|h|h
     ·have:p*(d-c)<=p*(-1):=xg (by omega) (by omega);omega
     ·rw[h,Ak] at e;omega
     ·have:p*1<=p*(d-c):=xg (by omega) (by omega);omega
    have au:D6 u V q=q-1:=by unfold D6;rw[Y mI]
    have aC:D7 ⟨pre,u,post,V,q,k,g⟩=aU aI (pre++z++post):=by
     unfold D7 SP;simp only;rw[Y mI,ZI,<-a2,<-ahT Cg]
    refine ai ?_;repeat' (intro (ao:_=_)<;>simp only[ao,go_sem,go_sem_proc,ay,F,G,ZL,ZK,du,oD,au,aC,ZJ]<;>try refine ag ?_ ?_)
def awB {T V P Al JN v1 v2 top hY q r:Int}(rj:V=(v1*1048576+v2)*P+Al)(di:T=(top*1048576+hY)*P+JN)(fF:0<P)(ah1:0<=Al)(SR:JN<P)(nE:0<=q)(awC:0<=V)
  (ZM:T<1048576*V) (GS:q*v1+r=top) (J:q>=1048576\/q*v2>r*1048576+hY):T<q*V:=by
 rcases J with h|h
 ·have:=mm h awC;omega
 ·have F:(top*1048576+hY+1)*P<=(q*(v1*1048576+v2))*P:=by
   refine mm ?_ (by omega);rw[jI,<-jJ];have:q*v1*1048576=(top-r)*1048576:=by rw[<-GS];congr 1;omega
   omega
  have G:q*V=(q*(v1*1048576+v2))*P+q*Al:=by rw[rj,jI,<-jJ]
  have ab:0<=q*Al:=sl nE ah1;rw[vR _ 1,tl] at F;omega
def ah2 {T V P Al JN v1 v2 top hY q r:Int}(rj:V=(v1*1048576+v2)*P+Al)(di:T=(top*1048576+hY)*P+JN)(fF:0<P)(ah1:0<=Al/\Al<P)(SR:0<=JN)(nE:0<=q)(xl:q<1048576)(uj:524288<=v1)(uk:0<=v2/\v2<1048576)(afC:0<=hY)
  (GS:q*v1+r=top) (J:r>=1048576\/q*v2<=r*1048576+hY):0<=T-q*V+V:=by
 have G:q*V=(q*(v1*1048576+v2))*P+q*Al:=by rw[rj,jI,<-jJ]
 have ab:q*Al<=q*P:=xg (by omega) nE;have aV:q*P<=1048576*P:=mm (by omega) (by omega);have bu:1048576*P<=(v1*1048576+v2)*P:=mm (by omega) (by omega);have e:q*v1*1048576=(top-r)*1048576:=by rw[<-GS];congr 1;omega
 rcases J with h|h
 ·have bX:q*v2+q<=1048576*1048576:=by
   have b9:q*(v2+1)<=1048576*1048576:=JG (by omega) (by omega) (by omega) (by omega);rw[jI,tf] at b9;exact b9
  have cS:(q*(v1*1048576+v2)+q)*P<=(top*1048576+hY)*P:=by
   refine mm ?_ (by omega);rw[jI,<-jJ];omega
  rw[vR _ q] at cS;omega
 ·have cS:(q*(v1*1048576+v2))*P<=(top*1048576+hY)*P:=by
   refine mm ?_ (by omega);rw[jI,<-jJ];omega
  omega
def awD {T V q:Int}(rj:0<V)(F:T<(q+1)*V)(G:0<=T-q*V+V):(if T-q*V<0 then q-1 else q)=T/V/\(if T-q*V<0 then T-q*V+V else T-q*V)=T%V:=by
 have ab:(q+1)*V=q*V+V:=by rw[vR,tl]
 have aV:(q-1)*V=q*V-V:=by rw[ah3,tl]
 have key:∀d r:Int,T=d*V+r->0<=r->r<V->d=T/V/\r=T%V:=by
  intro d r h ay bu
  constructor
  ·rw[h,Ai,Int.add_mul_ediv_right _ _ (by omega),ZA ay bu];omega
  ·rw[h,Ai,Int.add_mul_emod_self_right,ZB ay bu]
 split
 ·exact key (q-1) _ (by omega) (by omega) (by omega)
 ·exact key q _ (by omega) (by omega) (by omega)
def ah4 {v:List Int}{N:Nat}(h:(D v)=N+2):bo v=(v[N+1]*1048576+v[N])*1048576^N+bo (v.take N):=by
 have e:v=v.take (N+1+1):=by rw[dD (by omega)]
 conv=>lhs;rw[e]
 rw[mE v (N+1) (by omega),mE v N (by omega),oA,vR,oB (v[N]),Ea (v[N+1]),oB (v[N+1])];have:(1048576:Int)^N*1048576*v[N+1]=1048576^N*v[N+1]*1048576:=by rw[Ea]
 omega
def awE {v:List Int}{N:Nat}(h:(D v)=N+3):bo v=((v[N+2]*1048576+v[N+1])*1048576+v[N])*1048576^N+bo (v.take N):=by
 have e:v=v.take (N+1+1+1):=by rw[dD (by omega)]
 conv=>lhs;rw[e]
 rw[mE v (N+1+1) (by omega),mE v (N+1) (by omega),mE v N (by omega)];simp only[oA];generalize (1048576:Int)^N=p;rw[vR,vR,vR,Ea (v[N+2]*1048576),Ea (v[N+2]),oB (v[N+2]),Ea (v[N+1]),oB (v[N+1]),oB (v[N])];have F:p*1048576*v[N+1]=p*v[N+1]*1048576:=by rw[Ea]
 have G:p*1048576*1048576*v[N+1+1]=p*v[N+2]*1048576*1048576:=by rw[Ea,Ea p]
 omega
def awF {u:List Int}{i n:Nat}{V:Int}(Z:fo u)(aq:i+n+1<=D u)(jf:bo (u.drop (i+1))<V)(rj:V<1048576^n):
  ∃pre gU post,u=pre++gU++post/\D pre=i/\D gU=n+1/\fo pre/\fo gU/\fo post/\bo post=0/\∃eB,gU[0]?=some eB/\u.take (i+1)=pre++[eB]/\bo gU=eB+1048576*bo (u.drop (i+1))/\0<=bo (u.drop (i+1))/\0<=eB/\eB<1048576:=by
 have e:u=u.take i++(u.drop i).take (n+1)++u.drop (i+n+1):=by
  rw[g8,vn,<-I8,DM,DM]
 have ah5:=e ▸ Z;rw[Gi,Gi] at ah5;obtain⟨⟨d1,d2⟩,d3⟩:=ah5;have ah:i<D u:=by omega
 have xj:=je ah;have uL:((u.drop i).take (n+1)).length=n+1:=by simp;omega
 have ah6:bo (u.drop (i+1))=bo ((u.drop (i+1)).take n)+1048576^n*bo (u.drop (i+n+1)):=by
  have:=Np (u.drop (i+1)) n;rw[oz,pF (by omega),I8] at this;rw[this]
  congr 3
  rw[show i+1+n=i+n+1 by omega]
 have aE:=qt d3;have b0:0<=bo ((u.drop (i+1)).take n):=qt (λx L=>Z x (JO (yo L)))
 have mn:bo (u.drop (i+n+1))=0:=by
  rcases dn (0<bo (u.drop (i+n+1))) with h|h
  ·have:(1048576:Int)^n*1<=1048576^n*bo (u.drop (i+n+1)):=xg (by omega) (Int.pow_nonneg (by omega));omega
  ·omega
 refine⟨_,_,_,e,by simp;omega,uL,d1,d2,d3,mn,u[i],?_,?_,?_,?_,(mF Z i ah).1,(mF Z i ah).2⟩
 ·rw[List.getElem?_take_of_lt (by omega),q6];simp[ah]
 ·rw[hZ,bh ah];rfl
 ·rw[xj,Dx,vK,ah6,mn];simp
 ·rw[ah6,mn];simpa using b0
def awG (l:List Int)(h:(D l)<=1000000):lL 157054 0 1 (D l) 8 1 [.H (.int .i64 0)] (some (0,((l.map aI).flatten.map M.H)))=some (.ref 157054 1 1 0 (D l+1),some (157054,1,aU aI (l++[0]))) :=
 kx kz z7 157054 0 8 l 0 rfl (by omega) (by omega)
def N9:=bV n5 λ(x,y)=>cu ((aY x).length<=1000/\(aY y).length<=1000/\0<y) (.same (.dj [eh (x/y),eh (x%y)]))
@[go_sem] def ah7 (x y):=cH N9 rfl Ag (x,y) rfl
def awH (T:ba)(k8:T Gs=aK JE)(jh:T z8=aK DZ)(qy:T So=aK SM)(gd:T sb=BS Ac xe)(n7:T Jo=aK N0)(qz:T YL=DN N5):WF T ag8 N9:=by
 refine cp λ(x,y)=>cT λJ=>⟨rfl,ck ?_⟩;simp only[ag8,n5,cd];obtain⟨L,aj,j5⟩:=J;have lQ:(aY x).length<=1000000/\(aY y).length<=1000000:=by omega
 have jv:=Zo x y lQ;have zS:(aY x).length<=1000000:=by omega
 by_cases g0:x<y
 ·have lx:g2 x y = -1:=by unfold g2;rw[Y (by simpa using g0)]
  have ew:=av9 (aY x) zS;rw[lx] at jv
  change DZ [eh x]=_ at ew
  refine ai ?_;repeat' (intro (ao:_=_)<;>simp only[ao,go_sem,go_sem_proc,k8,jh,qy,gd,n7,qz,jv,ew,show ((-1:Int)<0) by omega,decide_true]<;>try refine ag ?_ ?_)
  rw[Yi g0,Nk g0]
  try rfl
 ·have lx:decide (g2 x y<0)=false:=by
   unfold g2;rw[aa (by simp;omega)]
   split<;>rfl
  have aOa:aY y≠[]:=by rw[Ne,BT];omega
  by_cases F:y<1048576
  ·have tg:=Gk j5 F;have qn:=ahO x y ⟨by omega,by omega,by omega⟩
   have a8:=SE [((x%y:Nat):Int)] (by simp);have ah:x%y<y:=pL _ j5;rw[gK] at qn
   have xm:gS [((x%y:Nat):Int)]=aY (x%y):=by
    generalize x%y=r at ah ⊢;rw[BV (by intro d Z;rw[yK] at Z;omega)];simp only[bo]
    congr 1
   rw[xm] at a8;have Oa:eh y=.ax [[.int .i64 y]]:=by unfold eh;rw[tg];rfl
   change Ac [.ax [[.int .i64 _]]]=_ at a8
   rw[Oa] at jv;refine ai ?_;repeat' (intro (ao:_=_)<;>simp only[ao,go_sem,go_sem_proc,k8,jh,qy,gd,n7,qz,Oa,jv,lx,qn,a8,show (((1:Nat):Int)==1)=true from rfl]<;>try refine ag ?_ ?_)
   try rfl
  ·obtain⟨N,fA⟩:∃N,(aY y).length=N+2:=by
    have:=mt (g9 (n:=y) (k:=1)).1 (by simpa using F);exact⟨(aY y).length-2,by omega⟩
   have tg:=n3 y;have mH:(((aY y).length:Int)==1)=false:=by simp;omega
   have uL:IntKind.i64.wrap (((aY y).length:Int)-1)=((N+1:Nat):Int):=by rw[eY _];omega
   have iz:(aY y)[N+1]?=some (aY y)[N+1]:=bh (by omega);have SS:=mF tg (N+1) (by omega)
   have aOb:(aY y)[N+1]≠0:=by
    intro h;have:=agP y;rw[List.getLast?_eq_getElem?,fA] at this;exact this (by rw[show N+2-1=N+1 by omega,iz,h])
   have ZN:=ah4 fA;rw[m0] at ZN;have awI:=BU (Cb tg N);have aOc:=qt (Cb tg N);have aOd:=mF tg N (by omega);rw[gP,pF (by omega)] at awI;generalize (aY y)[N+1]=cQ at *;generalize (aY y)[N]=uy at *;generalize bo ((aY y).take N)=ZO at *;have ah8:((aY y).map aI)[N+1]?=some [.int .i64 cQ]:=by rw[bm,iz];rfl
   simp only[go_sem,go_sem_proc,k8,jh,qy,gd,n7,qz,eh,jv,lx,mH,al];have ah9:=jv;unfold eh at ah9;simp only[go_sem,go_sem_proc,k8,jh,qy,gd,n7,qz,ah9,lx,mH,al];refine dd [0,1] [157054,157075] (λ(κ:Nat) tm mem=>cQ*2^κ<1048576/\tm 8=.H (.int .i64 (2^κ))) (λκ=>20-κ) 0 (by refine⟨by omega,rfl⟩) ?_;intro vs ms aQ aM;simp only[go_sem,go_sem_proc,k8,jh,qy,gd,n7,qz,al] at aQ aM;subst aQ aM;rintro κ tm mem I hm ⟨Ob,cS⟩;simp only[go_sem,go_sem_proc,k8,jh,qy,gd,n7,qz,bj] at I hm;obtain⟨ay,ql⟩:=I;obtain⟨Oc,qA⟩:=hm;have aOe:(0:Int)<2^κ:=Od (by omega)
   have aOf:(2:Int)^κ<=cQ*2^κ:=by
    have:1*(2:Int)^κ<=cQ*2^κ:=mm (by omega) (by omega);omega
   have hκ:κ<20:=by
    rcases hO κ 20 with h|h
    ·exact h
    ·have:(2:Int)^20<=2^κ:=by
      have:=yL (n:=2) (by omega) h;have cn:=Int.ofNat_le.2 this;rwa [GQ,GQ] at cn
     omega
   have ZP:IntKind.i64.wrap (cQ*2^κ)=cQ*2^κ:=wrap64 _ (by omega) (by omega);have awJ:IntKind.i64.wrap (2^κ*2)=2^κ*2:=wrap64 _ (by omega) (by omega);rcases dn (cQ*2^κ<524288) with ah|bW
   ·refine ai ?_;repeat' (intro (ao:_=_)<;>simp only[ao,go_sem,go_sem_proc,k8,jh,qy,gd,n7,qz,ay,ql,cS,uL,ah8,ZP,awJ,ah,Oc,qA,decide_true,dZ,al]<;>try refine ag ?_ ?_)
    exact⟨κ+1,by omega,by rw[oA,<-jJ];omega,by rw[oA]⟩
   ·-- the numbers, shifted
    have awK:(cQ+1)*2^κ<=1048576:=by
     have e:(1048576:Int)=2^(20-κ)*2^κ:=by rw[<-ahN,show 20-κ+κ=20 by omega];rfl
     have F:cQ<2^(20-κ):=by
      rcases dn (cQ<2^(20-κ)) with h|h
      ·exact h
      ·have:(2:Int)^(20-κ)*2^κ<=cQ*2^κ:=mm (by omega) (by omega);omega
     rw[e];exact mm (by omega) (by omega)
    generalize (2:Int)^κ=s at *;obtain⟨S,rfl⟩:∃S:Nat,s=S:=⟨s.toNat,by omega⟩
    have fF:(0:Int)<1048576^N:=Od (by omega);have GU:0<S:=by omega
    have ZG:y*S<1048576^(N+2):=by
     have F:((y*S:Nat):Int)<1048576^(N+2):=by
      rw[aia,ZN,oA,oA];generalize (1048576:Int)^N=p at *
      have au:((cQ*1048576+uy)*p+ZO)*S<=((cQ+1)*1048576*p)*S:=by
       refine mm ?_ (by omega);have:(cQ*1048576+uy+1)*p<=((cQ+1)*1048576)*p:=mm (by omega) (by omega);rw[vR _ 1] at this;omega
      have aib:((cQ*1048576+uy)*p+ZO)*S<((cQ+1)*1048576*p)*S:=by
       refine Int.mul_lt_mul_of_pos_right ?_ (by omega);have:(cQ*1048576+uy+1)*p<=((cQ+1)*1048576)*p:=mm (by omega) (by omega);rw[vR _ 1] at this;omega
      have aC:((cQ+1)*1048576*p)*S=((cQ+1)*S)*(p*1048576):=by
       rw[jJ (cQ+1),jJ,oB (1048576*p),<-jJ,oB 1048576 p]
      have bN:((cQ+1)*S)*(p*1048576)<=1048576*(p*1048576):=mm awK (by omega);omega
     have G:((1048576^(N+2):Nat):Int)=1048576^(N+2):=by rw[GQ];rfl
     omega
    have aOg:524288*(1048576^N*1048576)<=((y*S:Nat):Int):=by
     rw[aia,ZN];generalize (1048576:Int)^N=p at *
     have au:(cQ*1048576)*p*S<=((cQ*1048576+uy)*p+ZO)*S:=by
      refine mm ?_ (by omega);have:(cQ*1048576)*p<=(cQ*1048576+uy)*p:=mm (by omega) (by omega);omega
     have aC:(cQ*1048576)*p*S=(cQ*S)*(p*1048576):=by
      rw[jJ cQ,jJ,oB (1048576*p),<-jJ,oB 1048576 p]
     have bN:524288*(p*1048576)<=(cQ*S)*(p*1048576):=mm (by omega) (by omega);omega
    have Oe:(aY (y*S)).length=N+2:=by
     have F:=g9.2 ZG
     have G:=mt (g9 (n:=y*S) (k:=N+1)).1 (by
      have G:((1048576^(N+1):Nat):Int)=1048576^N*1048576:=by rw[GQ,oA];rfl
      omega)
     omega
    have aOh:1*x<=x*S:=by rw[vJ];exact aic x GU
    have aOi:(aY x).length<=(aY (x*S)).length:=by
     rw[g9];have:=g9.1 (cl (aY (x*S)).length);omega
    have aOj:y*S<=x*S:=ui S (by omega)
    have aOk:N+2<=(aY (x*S)).length:=by
     rw[<-Oe,g9];have:=g9.1 (cl (aY (x*S)).length);omega
    have aOl:(aY (x*S)).length<=1001:=by
     have:∀k,(aY x).length<=k->(aY (x*S)).length<=k+1:=by
      intro k I;rw[g9];have F:=g9.1 I;rw[xa];exact FG (Nat.mul_lt_mul_of_pos_right F GU) (aic _ (by omega))
     exact this 1000 L
    have js:=Zx x S ⟨by omega,by rw[Gk GU (by omega)];simp⟩
    have ZQ:=Zx y S ⟨by omega,by rw[Gk GU (by omega)];simp⟩
    have awL:eh S=.ax [[.int .i64 (S:Int)]]:=by unfold eh;rw[Gk GU (by omega)];rfl
    rw[awL] at js ZQ;simp only[eh] at js ZQ;have c9:=awG (aY (x*S)) (by omega);have awM:((((aY (x*S)).length+1:Nat):Int)==((aY x).length:Int))=false:=by simp;omega
    have awN:=m0 (y*S);have SU:=n3 (y*S);have awO:=m0 (x*S);have aid:=n3 (x*S);have awP:eh (y*S)=.ax ((aY (y*S)).map aI):=rfl;generalize awQ:aY (y*S)=v at *;generalize aOm:aY (x*S)=lW at *;have ZJ:IntKind.i64.wrap (((D lW+1:Nat):Int)-(D v:Int))=((D lW-N-1:Nat):Int):=by rw[eY _];omega
    have xl:8*(D lW-N-1)<=140737488355328:=by omega
    have SV:(D lW)-N-1<=maxLen:=JD _ (by omega);have JP:decide (cQ*(S:Int)<524288)=false:=kM bW;simp only[go_sem,go_sem_proc,k8,jh,qy,gd,n7,qz,ay,ql,cS,Oc,qA,uL,ah8,ZP,JP,js,ZQ,c9,awM,ZJ,xl,SV,JC,dZ,al];have gE:(D lW)-N-1+(N+2)=D lW+1:=by omega
    generalize aOn:(D lW)-N-1=bk at *;have fO:(D lW)=bk+N+1:=by omega
    have m3:=ah4 Oe;rw[awN] at m3;have ZR:=BU (Cb SU N);have ZS:=qt (Cb SU N);rw[gP,pF (by omega)] at ZR;have awR:v[N+1]?=some v[N+1]:=bh (by omega);have yM:v[N]?=some v[N]:=bh (by omega);have GO:=mF SU (N+1) (by omega);have iT:=mF SU N (by omega);generalize v[N+1]=v1 at *;generalize v[N]=v0 at *;generalize bo (v.take N)=vlow at *
    have uj:524288<=v1:=by
     generalize (1048576:Int)^N=p at *;rcases dn (524288<=v1) with h|h
     ·exact h
     ·have G:(v1*1048576+v0+1)*p<=(524288*1048576)*p:=mm (by omega) (by omega);rw[vR _ 1,tl] at G;omega
    have awS:((y*S:Nat):Int)<1048576^(N+2):=by
     have G:((1048576^(N+2):Nat):Int)=1048576^(N+2):=by rw[GQ];rfl
     omega
    have ZT:0<((y*S:Nat):Int):=by
     have:0<1048576^N*(1048576:Int):=Int.mul_pos fF (by omega);omega
    have awT:bo ((lW++[0]).drop bk)<((y*S:Nat):Int):=by
     have e:(lW++[0]).drop bk=lW.drop bk++[0]:=by rw[List.drop_append_of_le_length (by omega)]
     rw[e,Gj];have F:=BU (λd Z=>aid d (JO Z):fo (lW.drop bk));rw[oz,show (D lW)-bk=N+1 by omega,oA] at F
     simp only[bo];omega
    have awU:((x*S:Nat):Int)=bo ((lW++[0]).take bk)+1048576^bk*bo ((lW++[0]).drop bk):=by
     have:=Np (lW++[0]) bk;rw[Gj,awO,pF (by simp;omega)] at this
     simpa [bo] using this
    generalize aie:y*S=h1 at *;generalize aif:x*S=JQ at *
    refine dd [8,9,10,11,12] [] (λ((j,u,fk):Nat×List Int×List Int) tm mem=>j<=bk/\D u=D lW+1/\fo u/\D fk=bk/\fo fk/\bo (u.drop j)<h1/\(JQ:Int)=bo (u.take j)+1048576^j*(h1*bo (fk.drop j)+bo (u.drop j)) /\
      tm 13=.H (.int .i64 ((j:Nat)-1))/\mem 157054=some (1,aU aI u)/\mem 157075=some (0,aU aI fk)) (λ(j,_)=>j) (bk,lW++[0],ef bk 0)
     (by
      refine⟨cl _,by simp,Gi.2 ⟨aid,by intro d Z;rw[yK] at Z;omega⟩,by simp,λd Z=>by rw[JH] at Z;omega,awT,?_,?_,rfl,rfl⟩
      ·rw[List.drop_of_length_le (by simp)];simp only[bo,Ak,JK];exact awU
      ·simp only[dC,reduceIte];rw[eY _]) ?_
    intro vs ms aQ aM;simp only[go_sem,go_sem_proc,k8,jh,qy,gd,n7,qz,ay,ql,cS] at aQ aM;subst aQ aM;rintro⟨j,u,fk⟩ tm mem I-⟨ae,Ch,xn,SW,ZU,jf,Ci,kA,Of,ZV⟩;simp only[go_sem,go_sem_proc,k8,jh,qy,gd,n7,qz,bj] at I;obtain⟨cS,eP,du,gL,eu⟩:=I;rcases j with _|j
    ·rw[o0,o0] at Ci;rw[o0] at jf;simp only[nw,bo,Int.pow_zero,tl,JK] at Ci;have aOo:=qt ZU;have GV:=qt xn
     have ZW:bo fk=((x/y:Nat):Int)/\bo u=((x%y*S:Nat):Int):=by
      have F:JQ/h1=x/y:=by rw[<-aif,<-aie];exact Nat.mul_div_mul_right x y GU
      have G:JQ%h1=x%y*S:=by rw[<-aif,<-aie];exact Nat.mul_mod_mul_right S x y
      have ab:((JQ/h1:Nat):Int)=bo fk:=by rw[Zz,Ci,Ai,ahP _ _ (by omega),ZA GV jf];omega
      have aV:((JQ%h1:Nat):Int)=bo u:=by rw[ahQ,Ci,Ai,ahR,ZB GV jf]
      rw[F] at ab;rw[G] at aV;exact⟨ab.symm,aV.symm⟩
     have aih:=SE u (by omega);rw[BV xn,ZW.2,gK] at aih;have aii:=SE fk (by omega);rw[BV ZU,ZW.1,gK] at aii
     have hlen:(aY (x%y*S)).length<=100000:=by
      have:(aY (x%y*S)).length<=D u:=by
       have:=ahy u;rw[BV xn,ZW.2,gK] at this;exact this
      omega
     have qn:=ahO (x%y*S) S ⟨hlen,by omega,by omega⟩
     rw[gK,Nat.mul_div_cancel _ GU] at qn;simp only[eh] at qn;have eT:M.ref 157054 1 1 0 (D lW+1)=M.ref 157054 1 1 0 (D u):=by rw[Ch]
     have gf:M.ref 157075 0 1 0 bk=M.ref 157075 0 1 0 (D fk):=by rw[SW]
     rw[eT] at eP;rw[gf] at eu;refine ai ?_;repeat' (intro (ao:_=_)<;>simp only[ao,go_sem,go_sem_proc,k8,jh,qy,gd,n7,qz,cS,eP,du,gL,eu,kA,Of,ZV,aih,aii,qn,nB kz,eh,qx,rp,show ¬ ((0:Int)-1>=0) by omega,decide_false]<;>try refine ag ?_ ?_)
    ·obtain⟨pre,gU,post,e,yN,aij,ZX,tj,awV,awW,eB,Eb,hb,aOp,awX,aOq,aOr⟩:=awF (i:=j) (n:=N+2) xn (by omega) jf awS;have lX:j<bk:=by omega
     rw[hb,Gj,yN] at Ci;subst e;subst yN;rw[Oe] at gL;have aik:((D pre+1:Nat):Int)-1=(D pre:Int):=by omega
     have ux:IntKind.i64.wrap ((D pre:Int)+((N+2:Nat):Int))=((D pre+(N+2):Nat):Int):=by rw[eY _];omega
     have awY:IntKind.i64.wrap (((D pre+(N+2):Nat):Int)-1)=((D pre+(N+1):Nat):Int):=by rw[eY _];omega
     have SX:IntKind.i64.wrap (((N+2:Nat):Int)-1)=((N+1:Nat):Int):=by rw[eY _];omega
     have ail:IntKind.i64.wrap (((N+2:Nat):Int)-2)=(N:Int):=by rw[eY _];omega
     have aim:IntKind.i64.wrap (((D pre+(N+2):Nat):Int)-2)=((D pre+N:Nat):Int):=by rw[eY _];omega
     have bG:(D pre)+(N+2)<D lW+1:=by omega
     have bO:(D pre)+(N+1)<D lW+1:=by omega
     have fp:(D pre)+N<D lW+1:=by omega
     have awZ:(D pre)+(N+2)+1<=(aU aI (pre++gU++post)).length:=by rw[sg,Ch];omega
     have aw0:(D pre)+(N+1)+1<=(aU aI (pre++gU++post)).length:=by rw[sg,Ch];omega
     have ain:(D pre)+N+1<=(aU aI (pre++gU++post)).length:=by rw[sg,Ch];omega
     have aw1:=N3 (pre:=pre) (post:=post) (show N+2<(D gU) by omega);have GW:=N3 (pre:=pre) (post:=post) (show N+1<(D gU) by omega);have mn:=N3 (pre:=pre) (post:=post) (show N<(D gU) by omega);have di:=awE (N:=N) (by omega:(D gU)=N+3);have SR:=BU (Cb tj N);have aio:=qt (Cb tj N);rw[gP,pF (by omega)] at SR;have n8:=mF tj (N+2) (by omega);have lu:=mF tj (N+1) (by omega);have D5:=mF tj N (by omega);generalize gU[N+2]=t2 at *;generalize gU[N+1]=t1 at *;generalize gU[N]=t0 at *;generalize bo (gU.take N)=JN at *;have SY:IntKind.i64.wrap (t2*2^min (Gl 20) 64)=t2*1048576:=by rw[show min (Gl 20) 64=20 by decide];exact wrap64 _ (by omega) (by omega)
     have aw2:bits .or .i64 (t2*1048576) t1=t2*1048576+t1:=Yt t2 t1 n8.1 (by omega) lu;have aw3:(v1=0)=False:=by simp;omega
     generalize aOs:t2*1048576+t1=top at *;have aOt:0<=top/\top<1099511627776:=by omega
     have xm:top.tdiv v1=top/v1:=Cf (by omega);have ZC:top.tmod v1=top%v1:=N2 (by omega);have nE:0<=top/v1:=GP (by omega) (by omega);have xl:top/v1<=top:=Int.ediv_le_self _ (by omega);have aw4:IntKind.i64.wrap (top/v1)=top/v1:=wrap64 _ (by omega) (by omega);have ZY:(v.map aI)[N+1]?=some [.int .i64 v1]:=by rw[bm,awR];rfl
     have aip:(v.map aI)[N]?=some [.int .i64 v0]:=by rw[bm,yM];rfl
     have ZM:bo gU<1048576*h1:=by omega
     have Og:bo gU<(top/v1+1)*h1:=by
      have au:top+1<=(top/v1+1)*v1:=by
       have F:=D0 top v1;have G:=ZD top (show 0<v1 by omega);rw[vR,tl,oB (top/v1)];omega
      have aC:(top+1)*1048576*1048576^N<=(top/v1+1)*v1*1048576*1048576^N:=mm (mm au (by omega)) (by omega)
      have bN:(top/v1+1)*v1*1048576*1048576^N<=(top/v1+1)*h1:=by
       rw[jJ,jJ];refine xg ?_ (by omega);rw[m3,<-jJ];have:v1*1048576*1048576^N<=(v1*1048576+v0)*1048576^N:=mm (by omega) (by omega);omega
      have bK:(top*1048576+t0+1)*1048576^N<=(top+1)*1048576*1048576^N:=mm (by omega) (by omega);rw[vR _ 1,tl] at bK;omega
     simp only[go_sem,go_sem_proc,k8,jh,qy,gd,n7,qz,cS,eP,du,gL,eu,kA,Of,ZV,aik,ux,awY,SX,bG,bO,awZ,aw0,aw1,GW,SY,aw2,aw3,xm,ZC,aw4,ZY,show (D pre:Int)>=0 by omega,decide_true,dZ,al,show ¬ ((20:Int)<0) by omega]
     have ZZ:∀(mem:Mem),mem 157054=some (1,aU aI (pre++gU++post))->∀q:Int,0<=q->q<1048576->bo gU<(q+1)*h1->0<=bo gU-q*h1+h1 ->
       N5 [.ref 157054 1 1 (D pre) (N+3),.H (.ax (v.map aI)),.H (.int .i64 q)] mem=some (.H (.int .i64 (bo gU/h1)),a5 mem 157054 1 (aU aI (pre++pad (N+3) (bo gU%h1).toNat++post))):=by
      intro mem Of q nE aw5 oF lv;have Oa:=awD ZT oF lv;have qs:=awu ⟨pre,gU,post,h1,q,157054,1⟩ mem ⟨Of,tj,by show (aY h1).length<=D gU;rw[awQ];omega,nE,aw5,lv,by show (D pre)+D gU<=100000;omega⟩
      simp only[D6,D7,SP] at qs;rw[Oa.1,Oa.2,aij,awP] at qs;exact qs
     have aw6:0<=bo gU/h1:=GP (qt tj) (by omega);have aw7:bo gU/h1<1048576:=ahS ZT ZM;have aOu:=JL (bo gU) (show (h1:Int)≠0 by omega);have aw8:=ZD (bo gU) ZT
     have aw9:bo (pad (N+3) (bo gU%h1).toNat)=bo gU%h1:=by
      rw[awr]
      ·omega
      ·have G:((1048576^(N+2):Nat):Int)=1048576^(N+2):=by rw[GQ];rfl
       have ab:1048576^(N+2)<=1048576^(N+3):=yL (by omega) (by omega);omega
     have jT:∃bn:Nat×List Int×List Int,bn.1<D pre+1/\bn.1<=bk/\bn.2.1.length=D lW+1/\fo bn.2.1/\bn.2.2.length=bk/\fo bn.2.2/\bo (bn.2.1.drop bn.1)<h1/\(JQ:Int)=bo (bn.2.1.take bn.1)+1048576^bn.1*(h1*bo (bn.2.2.drop bn.1)+bo (bn.2.1.drop bn.1)) /\
       M.H (Data.int .i64 ((D pre:Int)-1))=M.H (Data.int .i64 ((bn.1:Int)-1))/\some (1,aU aI (pre++pad (N+3) (bo gU%h1).toNat++post))=some (1,aU aI bn.2.1)/\some (0,aU aI (fk.set (D pre) (bo gU/h1)))=some (0,aU aI bn.2.2):=by
      have axa:(D fk)=bk:=SW;have SW:(D pre)<D fk:=by omega
      have vT:(pre++pad (N+3) (bo gU%h1).toNat++post).drop (D pre)=pad (N+3) (bo gU%h1).toNat++post:=by rw[g8,Yg]
      have axb:(pre++pad (N+3) (bo gU%h1).toNat++post).take (D pre)=pre:=by rw[g8,Yf]
      have aiq:bo (pad (N+3) (bo gU%h1).toNat++post)=bo gU%h1:=by rw[Gj,awW,aw9];omega
      refine⟨(D pre,pre++pad (N+3) (bo gU%h1).toNat++post,fk.set (D pre) (bo gU/h1)),by dsimp only;omega,by dsimp only;omega,?_,Gi.2 ⟨Gi.2 ⟨ZX,awq _ _⟩,awV⟩,by rw[ie];exact axa,Cd ZU _ ⟨aw6,aw7⟩,?_,?_,rfl,rfl,rfl⟩
      ·rw[<-Ch];simp[awp,aij]
      ·dsimp only;rw[vT,aiq];exact aw8
      ·dsimp only;rw[vT,aiq,axb,je (by simpa using SW),vK];simp only[Cc];rw[vC (by omega)];have F:=D0 (bo gU) h1;have G:(h1:Int)*(bo gU/h1+1048576*bo (fk.drop (D pre+1)))=h1*(bo gU/h1)+1048576*(h1*bo (fk.drop (D pre+1))):=by rw[jI,ZE]
       rw[G,Ci,oA,jJ];simp only[bo,Ak,rr];rw[Int.add_assoc,<-jI]
       congr 2
       rw[jI];omega
     have nF:(D pre)+(N+2)+1-D pre=N+3:=by omega
     have Cj:IntKind.i64.wrap (((D pre+(N+2):Nat):Int)+1)=((D pre+(N+2)+1:Nat):Int):=by rw[eY _];rfl
     have air:(D pre)<=D pre+(N+2)+1/\D pre+(N+2)+1<=D lW+1:=by omega
     have ais:(D pre)<bk:=lX;have ait:=λd=>Af fk (D pre) d (by omega);have aiu:(D pre)+1<=(aU aI fk).length:=by rw[sg];omega
     have N8:IntKind.i64.wrap ((D pre:Int)-1)=(D pre:Int)-1:=wrap64 _ (by omega) (by omega)
     refine dd [8,9,10,11,12,13] [157054,157075] (λ((q,r):Int×Int) tm mem=>0<=q/\0<=r/\q*v1+r=top/\bo gU<(q+1)*h1/\tm 15=.H (.int .i64 q)/\tm 16=.H (.int .i64 r)) (λ(q,_)=>q.toNat) (top/v1,top%v1)
      (by
       refine⟨nE,JL _ (by omega),?_,Og,rfl,rfl⟩;have:=D0 top v1;rw[oB (top/v1)];omega) ?_
     intro vs ms aQ aM;simp only[go_sem,go_sem_proc,k8,jh,qy,gd,n7,qz,cS,eP,du,gL,eu,kA,Of,ZV,aik] at aQ aM;subst aQ aM;rintro⟨q,r⟩ tm mem' I hm ⟨Ck,axc,GS,oF,Am,vU⟩;simp only[go_sem,go_sem_proc,k8,jh,qy,gd,n7,qz,bj] at I hm;obtain⟨k9,ly,o7,qB,o8,xp⟩:=I;obtain⟨JR,SZ⟩:=hm;have aOv:0<=q*v1:=sl Ck (by omega);have aOw:q*524288<=q*v1:=xg uj Ck;have aOx:0<=q*v0:=sl Ck iT.1;have aOy:q*v0<=q*1048576:=xg (by omega) Ck;have JS:IntKind.i64.wrap (q*v0)=q*v0:=wrap64 _ (by omega) (by omega);have aiv:IntKind.i64.wrap (q-1)=q-1:=wrap64 _ (by omega) (by omega);have aiw:IntKind.i64.wrap (r+v1)=r+v1:=wrap64 _ (by omega) (by omega);have aix:IntKind.i64.wrap (r*2^min (Gl 20) 64)=r*1048576:=by rw[show min (Gl 20) 64=20 by decide];exact wrap64 _ (by omega) (by omega)
     have aiy:bits .or .i64 (r*1048576) t0=r*1048576+t0:=Yt r t0 axc (by omega) D5
     have R5:(q>=1048576\/q*v0>r*1048576+t0)->∃bn:Int×Int,bn.1.toNat<q.toNat/\0<=bn.1/\0<=bn.2/\bn.1*v1+bn.2=top/\bo gU<(bn.1+1)*h1/\M.H (Data.int .i64 (q-1))=M.H (Data.int .i64 bn.1)/\M.H (Data.int .i64 (r+v1))=M.H (Data.int .i64 bn.2):=by
      intro J;have F:=awB m3 di fF ZS SR Ck (by omega) ZM GS J
      have Z0:0<q:=by
       rcases dn (0<q) with h|h
       ·exact h
       ·obtain rfl:q=0:=by omega
        have:=qt tj;omega
      exact⟨(q-1,r+v1),by dsimp only;omega,by dsimp only;omega,by dsimp only;omega,by dsimp only;rw[ah3];omega,by dsimp only;rw[Int.sub_add_cancel];exact F,rfl,rfl⟩
     by_cases g7:q>=1048576
     ·refine ai ?_;repeat' (intro (ao:_=_)<;>simp only[ao,go_sem,go_sem_proc,k8,jh,qy,gd,n7,qz,k9,ly,o7,qB,o8,xp,JR,SZ,Am,vU,g7,aiv,aiw,SX,ZY,decide_true,dZ,al]<;>try refine ag ?_ ?_)
      exact R5 (.inl g7)
     ·by_cases Bv:r<1048576
      ·by_cases tn:q*v0>r*1048576+t0
       ·refine ai ?_;repeat' (intro (ao:_=_)<;>simp only[ao,go_sem,go_sem_proc,k8,jh,qy,gd,n7,qz,k9,ly,o7,qB,o8,xp,JR,SZ,Am,vU,g7,Bv,tn,JS,aiv,aiw,aix,aiy,ux,SX,ail,aim,fp,ain,mn,ZY,aip,decide_true,decide_false,dZ,al,show ¬ ((20:Int)<0) by omega]<;>try refine ag ?_ ?_)
        exact R5 (.inr tn)
       ·have qs:=ZZ mem' JR q Ck (by omega) oF (ah2 m3 di fF ⟨ZS,ZR⟩ aio Ck (by omega) uj iT D5.1 GS (.inr (by omega)));refine ai ?_;repeat' (intro (ao:_=_)<;>simp only[ao,go_sem,go_sem_proc,k8,jh,qy,gd,n7,qz,k9,ly,o7,qB,o8,xp,JR,SZ,Am,vU,g7,Bv,tn,JS,aix,aiy,ux,Cj,SX,ail,aim,fp,ain,mn,aip,nF,air,qs,ais,aiu,ait,N8,Oe,decide_true,decide_false,dZ,al,show ¬ ((20:Int)<0) by omega]<;>try refine ag ?_ ?_)
        exact jT
      ·have qs:=ZZ mem' JR q Ck (by omega) oF (ah2 m3 di fF ⟨ZS,ZR⟩ aio Ck (by omega) uj iT D5.1 GS (.inl (by omega)));refine ai ?_;repeat' (intro (ao:_=_)<;>simp only[ao,go_sem,go_sem_proc,k8,jh,qy,gd,n7,qz,k9,ly,o7,qB,o8,xp,JR,SZ,Am,vU,g7,Bv,ux,Cj,nF,air,qs,ais,aiu,ait,N8,Oe,decide_true,decide_false,dZ,al]<;>try refine ag ?_ ?_)
       exact jT
def dF:Nat:=1048576^60
def bl (z:Int):Raw:=(z.sign,aY z.natAbs)
def hF (a:Raw):Int:=a.1*bo a.2
def fl (z:Int):hF (bl z)=z:=by
 unfold hF bl;rw[m0];exact JT z
def Oh (d:Int):o4 d=true↔0<=d/\d<1048576:=by
 unfold o4;simp;omega
def iB (a:Raw):dr a=true↔∃z:Int,z.natAbs<dF/\a=bl z:=by
 obtain⟨s,l⟩:=a;unfold dr dF;rw[fC,nt]
 constructor
 ·rintro⟨F,G⟩;have Z:fo l:=λd Z=>(Oh d).1 (F d Z)
  split at G
  ·rename_i h;have aq:l=[]:=vu (by simpa using h);subst aq;have R:s=0:=by simpa using G
   subst R;exact⟨0,by simp,rfl⟩
  ·rename_i h;simp at G;obtain⟨⟨R,hlen⟩,Z1⟩:=G;have J:=canon Z (by simpa using Z1);have aN:=qt Z
   have aOz:bo l≠0:=by
    intro ay;rw[ay] at J;rw[J] at h;simp[uB] at h
   refine⟨s*bo l,?_,?_⟩
   ·have:(s*bo l).natAbs=(bo l).toNat:=by rw[tp];rcases R with rfl|rfl<;>simp<;>omega
    rw[this,<-g9,<-J];exact hlen
   ·unfold bl;have:(s*bo l).natAbs=(bo l).toNat:=by rw[tp];rcases R with rfl|rfl<;>simp<;>omega
    rw[this,<-J]
    congr 1
    rcases R with rfl|rfl
    ·rw[tl,hn (by omega)]
    ·rw[GX,tl,GY,hn (by omega)]
 ·rintro⟨z,a2,h⟩
  cases h;refine⟨λd Z=>(Oh d).2 (n3 _ d Z),?_⟩
  by_cases ay:z=0
  ·subst ay;rfl
  ·have aL:aY z.natAbs≠[]:=by rw[Ne,BT];omega
   rw[aa (by simp;exact aL)];have aq:=g9.2 a2;have oZ:=agP z.natAbs;simp only[fC,Bool.or_eq_true,beq_iff_eq,decide_eq_true_eq,bne_iff_ne,ne_eq];refine⟨⟨?_,aq⟩,oZ⟩;rcases uK z 0 with h|h|h
   ·exact .inr (nG h)
   ·exact absurd h ay
   ·exact .inl (hn h)
def lz {z:Int}(h:z.natAbs<dF):dr (bl z)=true:=(iB _).2 ⟨z,h,rfl⟩
def JU (c:Raw):Raw×Int:=if decide ((c.2.length:Int)>60)=true then ((0,[]),6) else (c,0)
def pP (z:Int):Raw×Int:=if z.natAbs<dF then (bl z,0) else ((0,[]),6)
def fs (x:Raw×Int):Data:=.dj [.agg (cM x.1),.int .i64 x.2]
def axd (s:Int)(n:Nat):lr s (aY n)=if n=0 then (0,[]) else (s,aY n):=by
 unfold lr;rw[agO]
 by_cases h:n=0
 ·subst h;rfl
 ·have:aY n≠[]:=by rw[Ne,BT];exact h
  rw[aa h,aa (by simp;exact this)]
def oG {s:Int}{n:Nat}{z:Int}(h:z.natAbs=n)(R:n≠0->s=z.sign):lr s (aY n)=bl z:=by
 rw[axd];subst h
 by_cases ay:z.natAbs=0
 ·obtain rfl:z=0:=by omega
  rfl
 ·rw[aa ay,R ay]
  rfl
def yO (z:Int):JU (bl z)=pP z:=by
 unfold JU pP bl dF;have:=g9 (n:=z.natAbs) (k:=60)
 by_cases h:z.natAbs<1048576^60
 ·have:=this.2 h;rw[aa (by simp;omega),Y h]
 ·have:=mt this.1 h;rw[Y (by simp;omega),aa h]
abbrev S0:Bool×Int×(List Int)->List Data:=λ(r,s,l)=>[.bool r,.agg [.int .i64 s,.ax (l.map aI)]]
def JV:=bV S0 λ(r,s,l)=>some (.same (fs (if r=true then JU (s,l) else ((0,[]),1))))
def axe:∀a b,S0 a=S0 b->a=b:=by
  rintro⟨e2,s1,eN⟩ ⟨fa,s2,aw⟩ h;simp only[bj,Data.bool.injEq,Data.agg.injEq,Data.int.injEq,Data.ax.injEq] at h;exact et h.1 (et h.2.1.1.2 (map_inj gq _ _ h.2.1.2.1))
@[go_sem] def JW (r s l):=pK JV rfl axe (r,s,l) rfl
def axf (T:ba):WF T ag7 JV:=by
 refine cp λ(r,s,l)=>⟨rfl,ck ?_⟩;simp only[ag7,S0,cd]
 cases r
 ·refine ai ?_;repeat' (intro h<;>simp only[h,go_sem,go_sem_proc,al]<;>try refine ag ?_ ?_)
  rfl
 ·refine ai ?_;repeat' (intro h<;>simp only[h,go_sem,go_sem_proc,al]<;>try refine ag ?_ ?_)
  all_goals (simp only[fs,cM,JU];simp only[bY, *,reduceIte,b3,cA,se,ur,lT,uu,te,fN,iS,e9,k1,beq_self_eq_true,bne])
def iV (a:Raw):Raw:=if dr a=true then bl (-hF a) else (0,[])
def aiz (z:Int):lr (-z.sign) (aY z.natAbs)=bl (-z):=oG (by omega) λ_=>by rw[GY]
def Oi:=bV sf λ(s,l)=>cu (D l<=1000000) (.same (.agg (cM (iV (s,l)))))
@[go_sem] def aOA (s l):=cH Oi rfl GK (s,l) rfl
def axg (T:ba)(fG:T mj=aK xf)(jh:T z8=aK DZ)(iC:T qu=aK Ca):WF T ag4 Oi:=by
 refine cp λ(s,l)=>cT λJ=>⟨rfl,ck ?_⟩;simp only[ag4,sf,cd]
 by_cases X:dr (s,l)=true
 ·obtain⟨z,a2,e⟩:=(iB _).1 X;have au:iV (s,l)=bl (-z):=by unfold iV;rw[Y X,e,fl]
  cases e
  have hw:IntKind.i64.wrap (0-z.sign) = -z.sign:=by
   have:=Oj z;rw[eY _];omega
  rw[au];refine ai ?_;repeat' (intro h<;>simp only[h,go_sem,go_sem_proc,fG,jh,iC,X,J,hw,aiz,cM]<;>try refine ag ?_ ?_)
 ·have X:dr (s,l)=false:=by simpa using X
  have au:iV (s,l)=(0,[]):=by unfold iV;rw[X];rfl
  rw[au];refine ai ?_;repeat' (intro h<;>simp only[h,go_sem,go_sem_proc,fG,jh,iC,X,J,cM,bY]<;>try refine ag ?_ ?_)
def qC (a:Raw):(a.1,a.2)=a:=rfl
def mulR (a b:Raw):Raw×Int:=if (dr a&&dr b)=true then pP (hF a*hF b) else ((0,[]),1)
def vV {x y:Int}(L:x.natAbs<dF)(aj:y.natAbs<dF):mulR (bl x) (bl y)=pP (x*y):=by
 unfold mulR;rw[lz L,lz aj,fl,fl]
 rfl
def oH {z:Int}(h:z.natAbs<dF):(aY z.natAbs).length<=60:=g9.2 h
def oI (z:Int):-1<=z.sign/\z.sign<=1:=by
 have:=Oj z;omega
abbrev j6:Int×(List Int)×Int×(List Int)->List Data:=λ(s,l,s2,aw)=>[.agg [.int .i64 s,.ax (l.map aI)],.agg [.int .i64 s2,.ax (aw.map aI)]]
def GZ:=bV j6 λ(s,l,s2,aw)=>cu (D l<=1000000/\D aw<=1000000) (.same (fs (mulR (s,l) (s2,aw))))
def tq:∀a b,j6 a=j6 b->a=b:=by
  rintro⟨s1,eN,Ec,Ed⟩ ⟨s2,aw,Ee,Ef⟩ h;simp only[bj,Data.agg.injEq,Data.int.injEq,Data.ax.injEq] at h;exact et h.1.1.2 (et (map_inj gq _ _ h.1.2.1) (et h.2.1.1.2 (map_inj gq _ _ h.2.1.2.1)))
@[go_sem] def aOB (s l s2 aw):=cH GZ rfl tq (s,l,s2,aw) rfl
def axh (T:ba)(fG:T mj=aK xf)(n7:T Jo=aK N0)(iC:T qu=aK Ca)(ru:T xd=aK JV):WF T ag2 GZ:=by
 refine cp λ(s,l,s2,aw)=>cT λJ=>⟨rfl,ck ?_⟩;simp only[ag2,j6,cd];obtain⟨bG,bO⟩:=J
 by_cases X:dr (s,l)=true
 ·by_cases bf:dr (s2,aw)=true
  ·obtain⟨x,L,e⟩:=(iB _).1 X;obtain⟨y,aj,aC⟩:=(iB _).1 bf;have hm:mulR (s,l) (s2,aw)=pP (x*y):=by rw[e,aC];exact vV L aj
   rw[hm];clear hm
   cases e
   cases aC;have F:=oI x;have G:=oI y;have aE:x.sign*y.sign=(x*y).sign:=(o9 x y).symm;have ab:=oI (x*y);have hw:IntKind.i64.wrap (x.sign*y.sign)=(x*y).sign:=by rw[aE];exact wrap64 _ (by omega) (by omega)
   have hmul:=Zx x.natAbs y.natAbs ⟨eR (oH L) (by omega),eR (oH aj) (by omega)⟩;simp only[eh] at hmul
   have hlen:(aY (x.natAbs*y.natAbs)).length<=1000000:=by
    refine eR ((g9 (k:=120)).2 ?_) (by omega);have:(1048576^120:Nat)=dF*dF:=by unfold dF;rw[<-Nat.pow_add]
    rw[this];exact Nat.mul_lt_mul'' L aj
   have R:lr (x*y).sign (aY (x.natAbs*y.natAbs))=bl (x*y):=oG (tp x y) λ_=>rfl;refine ai ?_;repeat' (intro h<;>simp only[h,go_sem,go_sem_proc,fG,n7,iC,ru,X,bf,bG,bO,hw,hmul,hlen,R,yO,cM,fs,qC]<;>try refine ag ?_ ?_)
  ·have bf:dr (s2,aw)=false:=by simpa using bf
   have hm:mulR (s,l) (s2,aw)=((0,[]),1):=by unfold mulR;rw[bf,iS];rfl
   rw[hm];have rv:=JW false 0 [];simp only[bY] at rv;refine ai ?_;repeat' (intro h<;>simp only[h,go_sem,go_sem_proc,fG,n7,iC,ru,X,bf,bG,bO,rv,cM,fs,bY]<;>try refine ag ?_ ?_)
 ·have X:dr (s,l)=false:=by simpa using X
  have hm:mulR (s,l) (s2,aw)=((0,[]),1):=by unfold mulR;rw[X,e9];rfl
  rw[hm];have rv:=JW false 0 [];simp only[bY] at rv;refine ai ?_;repeat' (intro h<;>simp only[h,go_sem,go_sem_proc,fG,n7,iC,ru,X,bG,bO,rv,cM,fs,bY]<;>try refine ag ?_ ?_)
def nH (a b:Raw):Raw×Int:=if (dr a&&dr b)=true then pP (hF a+hF b) else ((0,[]),1)
def Ok {x y:Int}(L:x.natAbs<dF)(aj:y.natAbs<dF):nH (bl x) (bl y)=pP (x+y):=by
 unfold nH;rw[lz L,lz aj,fl,fl]
 rfl
def JX (a b:Nat):(aY (a-b)).length<=(aY a).length:=by
 rw[g9];exact vQ (Nat.sub_le a b) (g9.1 (cl _))
def S2:=bV j6 λ(s,l,s2,aw)=>cu (D l<=1000000/\D aw<=1000000) (.same (fs (nH (s,l) (s2,aw))))
@[go_sem] def aOC (s l s2 aw):=cH S2 rfl tq (s,l,s2,aw) rfl
def axi (T:ba)(fG:T mj=aK xf)(Ol:T YM=aK SJ)(xq:T Nw=aK NY)(xr:T Jq=aK NZ)(k8:T Gs=aK JE)(iC:T qu=aK Ca)(ru:T xd=aK JV):WF T ahb S2:=by
 refine cp λ(s,l,s2,aw)=>cT λJ=>⟨rfl,ck ?_⟩;simp only[ahb,j6,cd];obtain⟨bG,bO⟩:=J
 by_cases X:dr (s,l)=true
 ·by_cases bf:dr (s2,aw)=true
  ·obtain⟨x,L,e⟩:=(iB _).1 X;obtain⟨y,aj,aC⟩:=(iB _).1 bf;have hm:nH (s,l) (s2,aw)=pP (x+y):=by rw[e,aC];exact Ok L aj
   rw[hm];clear hm
   cases e
   cases aC;have F:=oI x;have G:=oI y;have m4:=oH L;have mH:=oH aj;have xt:=JT x;have axj:=JT y
   have pQ:(x.sign=1/\0<x)\/(x.sign=0/\x=0)\/(x.sign = -1/\x<0):=by
    rcases uK x 0 with h|h|h
    ·exact .inr (.inr ⟨nG h,h⟩)
    ·exact .inr (.inl ⟨by rw[h];rfl,h⟩)
    ·exact .inl ⟨hn h,h⟩
   have ty:(y.sign=1/\0<y)\/(y.sign=0/\y=0)\/(y.sign = -1/\y<0):=by
    rcases uK y 0 with h|h|h
    ·exact .inr (.inr ⟨nG h,h⟩)
    ·exact .inr (.inl ⟨by rw[h];rfl,h⟩)
    ·exact .inl ⟨hn h,h⟩
   have pa:=ahD x.natAbs y.natAbs ⟨by omega,by omega⟩
   simp only[eh] at pa
   have hlen:(aY (x.natAbs+y.natAbs)).length<=1000000:=by
    refine eR ((g9 (k:=61)).2 ?_) (by omega);have:(1048576^61:Nat)=dF*1048576:=by unfold dF;rw[<-xa]
    omega
   have xk:=av7 [x.sign,y.sign] (by simp);simp only[eE,bY,aI] at xk;have fD:=Zo x.natAbs y.natAbs ⟨by omega,by omega⟩
   simp only[eh] at fD
   by_cases aE:x.sign*y.sign>=0
   ·have hw:IntKind.i64.wrap (x.sign*y.sign)=x.sign*y.sign:=by
     rcases pQ with ⟨e,_⟩|⟨e,_⟩|⟨e,_⟩<;>rw[e]<;>exact wrap64 _ (by omega) (by omega)
    have R:lr (B8 [x.sign,y.sign]) (aY (x.natAbs+y.natAbs))=bl (x+y):=by
     refine oG ?_ ?_
     ·rcases pQ with ⟨e,_⟩|⟨e,_⟩|⟨e,_⟩<;>rcases ty with ⟨e',_⟩|⟨e',_⟩|⟨e',_⟩<;>rw[e,e'] at aE<;>omega
     ·intro aL;rcases pQ with ⟨e,_⟩|⟨e,_⟩|⟨e,_⟩<;>rcases ty with ⟨e',_⟩|⟨e',_⟩|⟨e',_⟩<;>rw[e,e'] at aE ⊢
      ·exact (hn (by omega)).symm
      ·exact (hn (by omega)).symm
      ·omega
      ·exact (hn (by omega)).symm
      ·omega
      ·exact (nG (by omega)).symm
      ·omega
      ·exact (nG (by omega)).symm
      ·exact (nG (by omega)).symm
    refine ai ?_;repeat' (intro (ao:_=_)<;>simp only[ao,go_sem,go_sem_proc,fG,Ol,xq,xr,k8,iC,ru,X,bf,bG,bO,hw,aE,decide_true,xk,pa,hlen,R,yO,cM,fs,qC]<;>try refine ag ?_ ?_)
   ·have hw:IntKind.i64.wrap (x.sign*y.sign)=x.sign*y.sign:=by
     rcases pQ with ⟨e,_⟩|⟨e,_⟩|⟨e,_⟩<;>rw[e]<;>exact wrap64 _ (by omega) (by omega)
    by_cases ah:x.natAbs<y.natAbs
    ·have jU:decide (g2 x.natAbs y.natAbs<0)=true:=by unfold g2;rw[Y (by simp;omega)];rfl
     have nF:=Zw y.natAbs x.natAbs ⟨by omega,by omega⟩
     simp only[eh] at nF;have G0:(aY (y.natAbs-x.natAbs)).length<=1000000:=eR (JX _ _) (by omega)
     have R:lr y.sign (aY (y.natAbs-x.natAbs))=bl (x+y):=by
      refine oG ?_ ?_
      ·rcases pQ with ⟨e,_⟩|⟨e,_⟩|⟨e,_⟩<;>rcases ty with ⟨e',_⟩|⟨e',_⟩|⟨e',_⟩<;>rw[e,e'] at aE<;>omega
      ·intro aL;rcases pQ with ⟨e,_⟩|⟨e,_⟩|⟨e,_⟩<;>rcases ty with ⟨e',_⟩|⟨e',_⟩|⟨e',_⟩<;>rw[e,e'] at aE<;>rw[e']<;>first|omega|exact (hn (by omega)).symm|exact (nG (by omega)).symm
     refine ai ?_;repeat' (intro (ao:_=_)<;>simp only[ao,go_sem,go_sem_proc,fG,Ol,xq,xr,k8,iC,ru,X,bf,bG,bO,hw,aE,decide_false,fD,jU,nF,G0,R,yO,cM,fs,qC]<;>try refine ag ?_ ?_)
    ·have jU:decide (g2 x.natAbs y.natAbs<0)=false:=by unfold g2;rw[aa (by simp;omega)];split<;>rfl
     have nF:=Zw x.natAbs y.natAbs ⟨by omega,by omega⟩
     simp only[eh] at nF;have G0:(aY (x.natAbs-y.natAbs)).length<=1000000:=eR (JX _ _) (by omega)
     have R:lr x.sign (aY (x.natAbs-y.natAbs))=bl (x+y):=by
      refine oG ?_ ?_
      ·rcases pQ with ⟨e,_⟩|⟨e,_⟩|⟨e,_⟩<;>rcases ty with ⟨e',_⟩|⟨e',_⟩|⟨e',_⟩<;>rw[e,e'] at aE<;>omega
      ·intro aL;rcases pQ with ⟨e,_⟩|⟨e,_⟩|⟨e,_⟩<;>rcases ty with ⟨e',_⟩|⟨e',_⟩|⟨e',_⟩<;>rw[e,e'] at aE<;>rw[e]<;>first|omega|exact (hn (by omega)).symm|exact (nG (by omega)).symm
     refine ai ?_;repeat' (intro (ao:_=_)<;>simp only[ao,go_sem,go_sem_proc,fG,Ol,xq,xr,k8,iC,ru,X,bf,bG,bO,hw,aE,decide_false,fD,jU,nF,G0,R,yO,cM,fs,qC]<;>try refine ag ?_ ?_)
  ·have bf:dr (s2,aw)=false:=by simpa using bf
   have hm:nH (s,l) (s2,aw)=((0,[]),1):=by unfold nH;rw[bf,iS];rfl
   rw[hm];have rv:=JW false 0 [];simp only[bY] at rv;refine ai ?_;repeat' (intro (ao:_=_)<;>simp only[ao,go_sem,go_sem_proc,fG,Ol,xq,xr,k8,iC,ru,X,bf,bG,bO,rv,cM,fs,bY]<;>try refine ag ?_ ?_)
 ·have X:dr (s,l)=false:=by simpa using X
  have hm:nH (s,l) (s2,aw)=((0,[]),1):=by unfold nH;rw[X,e9];rfl
  rw[hm];have rv:=JW false 0 [];simp only[bY] at rv;refine ai ?_;repeat' (intro (ao:_=_)<;>simp only[ao,go_sem,go_sem_proc,fG,Ol,xq,xr,k8,iC,ru,X,bG,bO,rv,cM,fs,bY]<;>try refine ag ?_ ?_)
def lY (x:Int):(x.sign=1/\0<x)\/(x.sign=0/\x=0)\/(x.sign = -1/\x<0):=by
 rcases uK x 0 with h|h|h
 ·exact .inr (.inr ⟨nG h,h⟩)
 ·exact .inr (.inl ⟨by rw[h];rfl,h⟩)
 ·exact .inl ⟨hn h,h⟩
def sm (a b:Raw):Int:=if (dr a&&dr b)=true then g2 (hF a) (hF b) else 0
def Om {x y:Int}(L:x.natAbs<dF)(aj:y.natAbs<dF):sm (bl x) (bl y)=g2 x y:=by
 unfold sm;rw[lz L,lz aj,fl,fl]
 rfl
def Cl {x y:Int}(h:x<y):g2 x y = -1:=by unfold g2;rw[Y (by simpa using h)]
def G6 {x y:Int}(h:y<x):g2 x y=1:=by unfold g2;rw[aa (by simp;omega),Y (by simpa using h)]
def JY (x:Int):g2 x x=0:=by unfold g2;simp
def S3:=bV j6 λ(s,l,s2,aw)=>cu (D l<=1000000/\D aw<=1000000) (.same (.int .i64 (sm (s,l) (s2,aw))))
@[go_sem] def aOD (s l s2 aw):=cH S3 rfl tq (s,l,s2,aw) rfl
def axk (T:ba)(fG:T mj=aK xf)(xh:T Jr=aK NW)(k8:T Gs=aK JE):WF T ag6 S3:=by
 refine cp λ(s,l,s2,aw)=>cT λJ=>⟨rfl,ck ?_⟩;simp only[ag6,j6,cd];obtain⟨bG,bO⟩:=J
 by_cases X:dr (s,l)=true
 ·by_cases bf:dr (s2,aw)=true
  ·obtain⟨x,L,e⟩:=(iB _).1 X;obtain⟨y,aj,aC⟩:=(iB _).1 bf;have hm:sm (s,l) (s2,aw)=g2 x y:=by rw[e,aC];exact Om L aj
   rw[hm];clear hm
   cases e
   cases aC;have m4:=oH L;have mH:=oH aj;have fD:=Zo x.natAbs y.natAbs ⟨by omega,by omega⟩
   simp only[eh] at fD
   by_cases R:x.sign=y.sign
   ·have yP:(x.sign==y.sign)=true:=by simpa using R
    have lq:IntKind.i64.wrap (y.sign*g2 x.natAbs y.natAbs)=g2 x y:=by
     rcases lY x with ⟨e,F⟩|⟨e,F⟩|⟨e,F⟩<;>rcases lY y with ⟨e',G⟩|⟨e',G⟩|⟨e',G⟩<;>rw[e,e'] at R<;>first|omega|skip
     ·rw[e',tl,show (x.natAbs:Int)=x by omega,show (y.natAbs:Int)=y by omega]
      rcases uK x y with h|h|h
      ·rw[Cl h];rfl
      ·rw[h,JY];rfl
      ·rw[G6 h];rfl
     ·rw[e',F,G];rfl
     ·rw[e'];rcases uK x y with h|h|h
      ·rw[Cl h,G6 (by omega)];rfl
      ·rw[h,JY,JY];rfl
      ·rw[G6 h,Cl (by omega)];rfl
    rw[<-R] at lq;refine ai ?_;repeat' (intro (ao:_=_)<;>simp only[ao,go_sem,go_sem_proc,fG,xh,k8,X,bf,bG,bO,yP,fD,lq]<;>try refine ag ?_ ?_)
   ·have yP:(x.sign==y.sign)=false:=by simpa using R
    have lq:g2 x.sign y.sign=g2 x y:=by
     rcases lY x with ⟨e,F⟩|⟨e,F⟩|⟨e,F⟩<;>rcases lY y with ⟨e',G⟩|⟨e',G⟩|⟨e',G⟩<;>rw[e,e'] at R ⊢<;>first|omega|(rw[Cl (show x<y by omega)];rfl)|(rw[G6 (show y<x by omega)];rfl)
    refine ai ?_;repeat' (intro (ao:_=_)<;>simp only[ao,go_sem,go_sem_proc,fG,xh,k8,X,bf,bG,bO,yP,lq]<;>try refine ag ?_ ?_)
  ·have bf:dr (s2,aw)=false:=by simpa using bf
   have hm:sm (s,l) (s2,aw)=0:=by unfold sm;rw[bf,iS];rfl
   rw[hm];refine ai ?_;repeat' (intro (ao:_=_)<;>simp only[ao,go_sem,go_sem_proc,fG,xh,k8,X,bf,bG,bO]<;>try refine ag ?_ ?_)
 ·have X:dr (s,l)=false:=by simpa using X
  have hm:sm (s,l) (s2,aw)=0:=by unfold sm;rw[X,e9];rfl
  rw[hm];refine ai ?_;repeat' (intro (ao:_=_)<;>simp only[ao,go_sem,go_sem_proc,fG,xh,k8,X,bG,bO]<;>try refine ag ?_ ?_)
def n9 (a b:Raw):Raw×Int:=if (dr a&&dr b)=true then (bl (hG (hF a).natAbs (hF b).natAbs:Nat),0) else ((0,[]),1)
def JZ {x y:Int}(L:x.natAbs<dF)(aj:y.natAbs<dF):hG x.natAbs y.natAbs<dF:=by
 rcases kO x.natAbs with h|h
 ·rw[h,Nat.gcd_zero_left];exact aj
 ·exact vQ (Nat.gcd_le_left _ h) L
def On:=bV j6 λ(s,l,s2,aw)=>cu (D l<=1000000/\D aw<=1000000) (.same (fs (n9 (s,l) (s2,aw))))
@[go_sem] def aOE (s l s2 aw):=cH On rfl tq (s,l,s2,aw) rfl
def axl (T:ba)(fG:T mj=aK xf)(jh:T z8=aK DZ)(uM:T Nt=aK N9)(iC:T qu=aK Ca)(ru:T xd=aK JV):WF T ag1 On:=by
 refine cp λ(s,l,s2,aw)=>cT λJ=>⟨rfl,ck ?_⟩;simp only[ag1,j6,cd];obtain⟨bG,bO⟩:=J
 by_cases X:dr (s,l)=true
 ·by_cases bf:dr (s2,aw)=true
  ·obtain⟨x,L,e⟩:=(iB _).1 X;obtain⟨y,aj,aC⟩:=(iB _).1 bf
   have hm:n9 (s,l) (s2,aw)=(bl (hG x.natAbs y.natAbs:Nat),0):=by
    rw[e,aC];unfold n9
    rw[lz L,lz aj,fl,fl]
    rfl
   rw[hm];clear hm
   cases e
   cases aC;have m4:=oH L;have mH:=oH aj;have bb:=JZ L aj;generalize iU:x.natAbs=b2 at *;generalize Cm:y.natAbs=gM at *;have Oo:(aY b2).length<=1000000:=by omega
   simp only[go_sem,go_sem_proc,fG,jh,uM,iC,ru,X,bf,iU,Cm,bG,bO,Oo,aI,al];refine dd [4] [137004] (λ((a,b):Nat×Nat) tm mem=>a<dF/\b<dF/\hG b2 gM=hG a b/\tm 6=.H (.ax ((aY a).map aI))/\tm 7=.H (.ax ((aY b).map aI))) (λ(_,b)=>b) (b2,gM) (by refine⟨L,aj,rfl,rfl,rfl⟩) ?_;intro vs ms aQ aM;simp only[go_sem,go_sem_proc,fG,jh,uM,iC,ru,iU,Cm] at aQ aM;subst aQ aM;rintro⟨a,b⟩ tm mem I hm ⟨aZ,ad,yQ,bX,b9⟩;simp only[go_sem,go_sem_proc,fG,jh,uM,iC,ru,bj] at I hm;have aV:=I;have oZ:(aY a).length<=60:=g9.2 aZ;have th:(aY b).length<=60:=g9.2 ad;rcases kO b with ay|jt
   ·subst ay;have a2:aY 0=[]:=rfl;have Z2:(aY a).length<=1000000:=by omega
    rw[Nat.gcd_zero_right] at yQ;have R:lr 1 (aY a)=bl ((a:Nat):Int):=oG (by simp) λaL=>(hn (by omega)).symm;have I:pP ((a:Nat):Int)=(bl ((a:Nat):Int),0):=by unfold pP;rw[Y (by simpa using aZ)]
    rw[yQ];refine ai ?_;repeat' (intro h<;>simp only[h,go_sem,go_sem_proc,fG,jh,uM,iC,ru,aV,bX,b9,hm,a2,Z2,R,I,yO,cM,fs,qC,bY,o2,qx,rp,show ¬ ((0:Int)>0) by omega,decide_false]<;>try refine ag ?_ ?_)
   ·have b8:decide (((aY b).length:Int)>0)=true:=by
     have:aY b≠[]:=by rw[Ne,BT];omega
     have:=Eg.2 this;exact cX
    have hdiv:=ah7 a b ⟨by omega,by omega,jt⟩
    simp only[eh] at hdiv;refine ai ?_;repeat' (intro h<;>simp only[h,go_sem,go_sem_proc,fG,jh,uM,iC,ru,aV,bX,b9,hm,b8,hdiv,al]<;>try refine ag ?_ ?_)
    exact⟨(b,a%b),pL _ jt,ad,vQ (Nat.mod_le _ _) aZ,by dsimp only;rw[yQ,Oq a b,Nat.gcd_rec b a,Oq],rfl,rfl⟩
  ·have bf:dr (s2,aw)=false:=by simpa using bf
   have hm:n9 (s,l) (s2,aw)=((0,[]),1):=by unfold n9;rw[bf,iS];rfl
   rw[hm];have rv:=JW false 0 [];simp only[bY] at rv;refine ai ?_;repeat' (intro h<;>simp only[h,go_sem,go_sem_proc,fG,jh,uM,iC,ru,X,bf,bG,bO,rv,cM,fs,bY]<;>try refine ag ?_ ?_)
 ·have X:dr (s,l)=false:=by simpa using X
  have hm:n9 (s,l) (s2,aw)=((0,[]),1):=by unfold n9;rw[X,e9];rfl
  rw[hm];have rv:=JW false 0 [];simp only[bY] at rv;refine ai ?_;repeat' (intro h<;>simp only[h,go_sem,go_sem_proc,fG,jh,uM,iC,ru,X,bG,bO,rv,cM,fs,bY]<;>try refine ag ?_ ?_)
def nI (a b:Raw):Raw×Raw×Int :=
 if (dr a&&dr b)=true then
  if hF b=0 then ((0,[]),(0,[]),15) else (bl ((hF a).fdiv (hF b)),bl ((hF a).fmod (hF b)),0)
 else ((0,[]),(0,[]),1)
def lZ (x:Raw×Raw×Int):Data:=.dj [.agg (cM x.1),.agg (cM x.2.1),.int .i64 x.2.2]
def aiA {x y q r:Int}(h:r+y*q=x)(X:(0<=r/\r<y)\/(y<r/\r<=0)):x.fdiv y=q/\x.fmod y=r:=by
 rcases X with ⟨F,G⟩|⟨F,G⟩
 ·exact (Int.fdiv_fmod_unique (by omega)).2 ⟨h,F,G⟩
 ·exact (Int.fdiv_fmod_unique' (by omega)).2 ⟨h,F,G⟩
def S4 {x y:Int}(h:x.sign*y.sign<0)(hm:x.natAbs%y.natAbs≠0):
  x.fdiv y = -((x.natAbs/y.natAbs+1:Nat):Int)/\x.fmod y=y.sign*((y.natAbs-x.natAbs%y.natAbs:Nat):Int):=by
 have G:=Sh x.natAbs y.natAbs;generalize fM:x.natAbs/y.natAbs=aR at *;generalize jf:x.natAbs%y.natAbs=bC at *
 have aj:0<y.natAbs:=by
  rcases kO y.natAbs with ay|ay
  ·rw[Int.natAbs_eq_zero.1 ay] at h;simp at h
  ·exact ay
 have ah:bC<y.natAbs:=by rw[<-jf];exact pL _ aj
 have yt:(y.natAbs:Int)*aR+bC=x.natAbs:=by exact_mod_cast G
 refine aiA ?_ ?_
 ·rcases lY x with ⟨e,F⟩|⟨e,F⟩|⟨e,F⟩<;>rcases lY y with ⟨e',ab⟩|⟨e',ab⟩|⟨e',ab⟩<;>rw[e,e'] at h<;>first|omega|rw[e']
  ·rw[aiB (by omega),aiC,JM,jI];have:(y.natAbs:Int) = -y:=by omega
   rw[this] at yt ⊢;rw[GX] at yt;omega
  ·rw[aiB (by omega),aiC,JM,jI];have:(y.natAbs:Int)=y:=by omega
   rw[this] at yt ⊢;omega
 ·rcases lY y with ⟨e',ab⟩|⟨e',ab⟩|⟨e',ab⟩<;>rw[e']<;>omega
def S5 {x y:Int}(aj:y≠0)(h:¬ (x.sign*y.sign<0/\x.natAbs%y.natAbs≠0)):
  x.fdiv y=x.sign*y.sign*((x.natAbs/y.natAbs:Nat):Int)/\x.fmod y=x.sign*((x.natAbs%y.natAbs:Nat):Int):=by
 have G:=Sh x.natAbs y.natAbs;have ah:x.natAbs%y.natAbs<y.natAbs:=pL _ (by omega);generalize fM:x.natAbs/y.natAbs=aR at *;generalize jf:x.natAbs%y.natAbs=bC at *;have yt:(y.natAbs:Int)*aR+bC=x.natAbs:=by exact_mod_cast G
 refine aiA ?_ ?_
 ·rcases lY x with ⟨e,F⟩|⟨e,F⟩|⟨e,F⟩<;>rcases lY y with ⟨e',ab⟩|⟨e',ab⟩|⟨e',ab⟩<;>first|omega|(rw[e,e'])
  ·rw[show (y.natAbs:Int)=y by omega] at yt;simp only[tl];omega
  ·rw[show (y.natAbs:Int) = -y by omega,GX] at yt;simp only[tl,GX,JM];omega
  ·simp only[xu,Ak];omega
  ·simp only[xu,Ak];omega
  ·rw[show (y.natAbs:Int)=y by omega] at yt;simp only[tl,GX,JM,tf];omega
  ·rw[show (y.natAbs:Int) = -y by omega,GX] at yt;simp only[tl,GX,JM,Int.neg_neg];omega
 ·have awX:x.natAbs=0->bC=0:=by
   intro ay;rw[<-jf,ay,aiD]
  rcases lY x with ⟨e,F⟩|⟨e,F⟩|⟨e,F⟩<;>rcases lY y with ⟨e',ab⟩|⟨e',ab⟩|⟨e',ab⟩<;>rw[e,e'] at h<;>rw[e]<;>omega
def J0 {x y:Int}(L:x.natAbs<dF)(j5:y≠0):(x.fdiv y).natAbs<dF:=by
 by_cases h:x.sign*y.sign<0/\x.natAbs%y.natAbs≠0
 ·have aH:=(S4 h.1 h.2).1;have G:=Sh x.natAbs y.natAbs
  have:x.natAbs/y.natAbs+1<=x.natAbs:=by
   have aiE:2<=y.natAbs:=by
    rcases hO y.natAbs 2 with ay|ay
    ·have:y.natAbs=1:=by omega
     rw[this,Nat.mod_one] at h;exact absurd rfl h.2
    ·exact ay
   have ab:2*(x.natAbs/y.natAbs)<=y.natAbs*(x.natAbs/y.natAbs):=ui _ aiE;omega
  generalize x.natAbs/y.natAbs=aR at *;omega
 ·have aH:=(S5 j5 h).1;have ab:x.natAbs/y.natAbs<=x.natAbs:=aiF _ _
  have aV:(x.fdiv y).natAbs<=x.natAbs/y.natAbs:=by
   rw[aH,tp,tp,m5];have F:x.sign.natAbs<=1:=by have:=oI x;omega
   have G:y.sign.natAbs<=1:=by have:=oI y;omega
   have:=Nat.mul_le_mul F G;have:=ui (x.natAbs/y.natAbs) this;omega
  omega
def aiG {x y:Int}(aj:y.natAbs<dF)(j5:y≠0):(x.fmod y).natAbs<dF:=by
 by_cases h:x.sign*y.sign<0/\x.natAbs%y.natAbs≠0
 ·have aH:=(S4 h.1 h.2).2;rcases lY y with ⟨e',ab⟩|⟨e',ab⟩|⟨e',ab⟩<;>rw[e'] at aH<;>omega
 ·have aH:=(S5 j5 h).2;have ah:x.natAbs%y.natAbs<y.natAbs:=pL _ (by omega);rcases lY x with ⟨e',ab⟩|⟨e',ab⟩|⟨e',ab⟩<;>rw[e'] at aH<;>omega
def Cn {x y:Int}(L:x.natAbs<dF)(aj:y.natAbs<dF)(ay:y≠0):nI (bl x) (bl y)=(bl (x.fdiv y),bl (x.fmod y),0):=by
 unfold nI;rw[lz L,lz aj,fl,fl,Y (by rfl),aa ay]
def Ot:=bV j6 λ(s,l,s2,aw)=>cu (D l<=1000000/\D aw<=1000000) (.same (lZ (nI (s,l) (s2,aw))))
@[go_sem] def aOF (s l s2 aw):=cH Ot rfl tq (s,l,s2,aw) rfl
def axm (T:ba)(fG:T mj=aK xf)(uM:T Nt=aK N9)(xq:T Nw=aK NY)(xr:T Jq=aK NZ)(iC:T qu=aK Ca):WF T ag5 Ot:=by
 refine cp λ(s,l,s2,aw)=>cT λJ=>⟨rfl,ck ?_⟩;simp only[ag5,j6,cd];obtain⟨bG,bO⟩:=J
 by_cases X:dr (s,l)=true
 ·by_cases bf:dr (s2,aw)=true
  ·obtain⟨x,L,e⟩:=(iB _).1 X;obtain⟨y,aj,aC⟩:=(iB _).1 bf
   by_cases j5:y=0
   ·have hm:nI (s,l) (s2,aw)=((0,[]),(0,[]),15):=by
     rw[e,aC];unfold nI
     rw[lz L,lz aj,fl,fl,Y (by rfl),Y j5]
    rw[hm]
    cases e
    cases aC;have ay:((y.sign:Int)==0)=true:=by rw[j5];rfl
    refine ai ?_;repeat' (intro (ao:_=_)<;>simp only[ao,go_sem,go_sem_proc,fG,uM,xq,xr,iC,X,bf,bG,bO,ay,cM,lZ,bY]<;>try refine ag ?_ ?_)
   ·have hm:nI (s,l) (s2,aw)=(bl (x.fdiv y),bl (x.fmod y),0):=by
     rw[e,aC];exact Cn L aj j5
    rw[hm];clear hm
    cases e
    cases aC;have m4:=oH L;have mH:=oH aj;have G7:(y.sign==0)=false:=by rw[beq_eq_false_iff_ne,Ne,Int.sign_eq_zero_iff_zero];exact j5
    have G8:0<y.natAbs:=by omega
    have F:=oI x;have G:=oI y;have aE:x.sign*y.sign=(x*y).sign:=(o9 x y).symm;have ab:=oI (x*y);have hw:IntKind.i64.wrap (x.sign*y.sign)=x.sign*y.sign:=by rw[aE];exact wrap64 _ (by omega) (by omega)
    have hdiv:=ah7 x.natAbs y.natAbs ⟨by omega,by omega,G8⟩
    simp only[eh] at hdiv;have bq:=J0 (y:=y) L j5;have sn:=aiG (x:=x) aj j5;have Z3:x.natAbs/y.natAbs<dF:=vQ (aiF _ _) L;have axn:(aY (x.natAbs/y.natAbs)).length<=60:=g9.2 Z3;have Co:x.natAbs%y.natAbs<dF:=Nat.lt_trans (pL _ G8) aj;have axo:(aY (x.natAbs%y.natAbs)).length<=60:=g9.2 Co
    by_cases vW:x.sign*y.sign<0/\x.natAbs%y.natAbs≠0
    ·obtain⟨eq,vX⟩:=S4 vW.1 vW.2
     have b8:decide (((aY (x.natAbs%y.natAbs)).length:Int)>0)=true:=by
      have:aY (x.natAbs%y.natAbs)≠[]:=by rw[Ne,BT];exact vW.2
      have:=Eg.2 this;exact cX
     have mI:decide (x.sign*y.sign<0)=true:=hN vW.1;have lu:aY 1=[1]:=by simp[aY,z6]
     have axp:(aY 1).length=1:=by rw[lu];rfl
     have pa:=ahD (x.natAbs/y.natAbs) 1 ⟨by omega,by omega⟩
     simp only[eh,lu,eE,bY,aI] at pa;have nF:=Zw y.natAbs (x.natAbs%y.natAbs) ⟨by omega,Ou (pL _ G8)⟩
     simp only[eh] at nF
     have oZ:(aY (x.natAbs/y.natAbs+1)).length<=1000000:=by
      have:(x.natAbs/y.natAbs+1)<dF:=by rw[eq] at bq;rw[An,m5] at bq;exact bq
      have:=(g9 (k:=60)).2 this;omega
     have th:(aY (y.natAbs-x.natAbs%y.natAbs)).length<=1000000:=by have:=JX y.natAbs (x.natAbs%y.natAbs);omega
     have jL:lr (-1) (aY (x.natAbs/y.natAbs+1))=bl (x.fdiv y):=oG (by rw[eq,An,m5]) λ_=>by rw[eq,GY,hn (show (0:Int)<((x.natAbs/y.natAbs+1:Nat):Int) by exact Eh.2 (Nat.succ_pos _))]
     have la:lr y.sign (aY (y.natAbs-x.natAbs%y.natAbs))=bl (x.fmod y):=by
      refine oG ?_ λaL=>?_
      ·rw[vX];rcases lY y with ⟨e',ab⟩|⟨e',ab⟩|⟨e',ab⟩<;>rw[e']<;>omega
      ·rw[vX,o9,Cp,hn (show (0:Int)<((y.natAbs-x.natAbs%y.natAbs:Nat):Int) by omega),tf]
     refine ai ?_;repeat' (intro (ao:_=_)<;>simp only[ao,go_sem,go_sem_proc,fG,uM,xq,xr,iC,X,bf,bG,bO,G7,hw,hdiv,b8,mI,pa,nF,oZ,th,jL,la,aI,al,cM,lZ,qC]<;>try refine ag ?_ ?_)
    ·obtain⟨eq,vX⟩:=S5 j5 vW
     have Z4:(decide (x.sign*y.sign<0)=true/\decide (((aY (x.natAbs%y.natAbs)).length:Int)>0)=false)\/decide (x.sign*y.sign<0)=false:=by
      by_cases aL:x.sign*y.sign<0
      ·left
       have:x.natAbs%y.natAbs=0:=Decidable.not_not.1 λh=>vW ⟨aL,h⟩;rw[this];exact⟨hN aL,rfl⟩
      ·right;exact kM aL
     have oZ:(aY (x.natAbs/y.natAbs)).length<=1000000:=by omega
     have th:(aY (x.natAbs%y.natAbs)).length<=1000000:=by omega
     have jL:lr (x.sign*y.sign) (aY (x.natAbs/y.natAbs))=bl (x.fdiv y):=by
      refine oG ?_ λaL=>?_
      ·rw[eq]
       have G9:∀aR:Nat,(x=0->aR=0)->(x.sign*y.sign*(aR:Int)).natAbs=aR:=by
        intro aR ay;rcases lY x with ⟨e,F⟩|⟨e,F⟩|⟨e,F⟩<;>rcases lY y with ⟨e',ab⟩|⟨e',ab⟩|⟨e',ab⟩<;>rw[e,e']<;>first|omega|(rw[ay F];rfl)
       exact G9 _ λay=>by rw[ay];exact Nat.zero_div _
      ·rw[eq,aE,o9,o9,o9,Cp,Cp,hn (show (0:Int)<((x.natAbs/y.natAbs:Nat):Int) from Eh.2 (Jk aL)),tf]
     have la:lr x.sign (aY (x.natAbs%y.natAbs))=bl (x.fmod y):=by
      refine oG ?_ λaL=>?_
      ·rw[vX]
       have G9:∀aR:Nat,(x=0->aR=0)->(x.sign*(aR:Int)).natAbs=aR:=by
        intro aR ay;rcases lY x with ⟨e,F⟩|⟨e,F⟩|⟨e,F⟩<;>rw[e]<;>first|omega|(rw[ay F];rfl)
       exact G9 _ λay=>by rw[ay];exact aiD _
      ·rw[vX,o9,Cp,hn (show (0:Int)<((x.natAbs%y.natAbs:Nat):Int) from Eh.2 (Jk aL)),tf]
     rcases Z4 with ⟨Ha,Z5⟩|Ha
     ·refine ai ?_;repeat' (intro (ao:_=_)<;>simp only[ao,go_sem,go_sem_proc,fG,uM,xq,xr,iC,X,bf,bG,bO,G7,hw,hdiv,Ha,Z5,oZ,th,jL,la,aI,al,cM,lZ,qC]<;>try refine ag ?_ ?_)
     ·refine ai ?_;repeat' (intro (ao:_=_)<;>simp only[ao,go_sem,go_sem_proc,fG,uM,xq,xr,iC,X,bf,bG,bO,G7,hw,hdiv,Ha,oZ,th,jL,la,aI,al,cM,lZ,qC]<;>try refine ag ?_ ?_)
  ·have bf:dr (s2,aw)=false:=by simpa using bf
   have hm:nI (s,l) (s2,aw)=((0,[]),(0,[]),1):=by unfold nI;rw[bf,iS];rfl
   rw[hm];refine ai ?_;repeat' (intro (ao:_=_)<;>simp only[ao,go_sem,go_sem_proc,fG,uM,xq,xr,iC,X,bf,bG,bO,cM,lZ,bY]<;>try refine ag ?_ ?_)
 ·have X:dr (s,l)=false:=by simpa using X
  have hm:nI (s,l) (s2,aw)=((0,[]),(0,[]),1):=by unfold nI;rw[X,e9];rfl
  rw[hm];refine ai ?_;repeat' (intro (ao:_=_)<;>simp only[ao,go_sem,go_sem_proc,fG,uM,xq,xr,iC,X,bG,bO,cM,lZ,bY]<;>try refine ag ?_ ?_)
def eJ (n:Int):Prop:=-9223372036854775808<=n/\n<=9223372036854775807
def axq {n:Nat}(h:n<=9223372036854775808):n<dF:=by
 unfold dF;refine FG (m:=1048576^4) ?_ (yL (by omega) (by omega));omega
def uN {n:Int}(h:eJ n):n.natAbs<dF:=axq (by unfold eJ at h;omega)
def Z6 (n:Int)(F:-18446744073709551616<=n)(G:n<0):IntKind.u64.wrap n=n+18446744073709551616:=by
 unfold IntKind.wrap;simp[IntKind.bits,IntKind.signed];omega
def S6:=bV o3 λ(n:Int)=>cu (eJ n) (.same (.agg (cM (bl n))))
@[go_sem] def aOG (n):=cH S6 rfl B7 n rfl
def axr (T:ba)(iC:T qu=aK Ca):WF T ag3 S6:=by
 refine cp λn=>cT λJ=>⟨rfl,ck ?_⟩;simp only[ag3,o3,cd];have lR:=J;unfold eJ at lR;obtain⟨qh,wY⟩:=lR;have R:∀s:Int,(n≠0->s=n.sign)->lr s (aY n.natAbs)=bl n:=λs h=>oG rfl λb8=>h (by omega);have hlen:(aY n.natAbs).length<=60:=g9.2 (uN J);rcases dn (n<0) with mI|jt
 ·have hw:=Z6 n (by omega) mI
  have ih:IntKind.u64.wrap (0-(n+18446744073709551616))=(n.natAbs:Int):=by
   rw[Z6 _ (by omega) (by omega)];omega
  simp only[go_sem,go_sem_proc,iC,mI,hw,ih,decide_true];refine dd [2,3] [150002] (λ((u,g,l):Nat×Nat×List Int) tm mem=>u<=9223372036854775808/\aY n.natAbs=l++aY u/\tm 4=.H (.int .u64 u)/\tm 5=.ref 150021 g 1 0 (D l)/\mem 150021=some (g,aU aI l)) (λ(u,_)=>u) (n.natAbs,0,[]) (by refine⟨by omega,rfl,?_,rfl,rfl⟩;rfl) ?_;intro vs ms aQ aM;simp only[go_sem,go_sem_proc,iC] at aQ aM;subst aQ aM;rintro⟨u,g,l⟩ tm mem I hm ⟨hu,Z,aV,bu,tr⟩;simp only[go_sem,go_sem_proc,iC,bj] at I hm;obtain⟨G,ab⟩:=I;rcases kO u with ay|oF
  ·subst ay;rw[uB,hD] at Z;rw[Z] at R hlen;have Ei:(D l)<=1000000:=by omega
   have kQ:=R (-1) (λ_=>by exact (nG mI).symm);refine ai ?_;repeat' (intro (ao:_=_)<;>simp only[ao,go_sem,go_sem_proc,iC,G,ab,aV,bu,hm,tr,kQ,Ei,cM,qx,rp,al,show ¬ ((0:Int)>0) by omega,decide_false,nB kz,pb]<;>try refine ag ?_ ?_)
  ·have Ch:(D l)<=60:=by
    have:=congrArg D Z;rw[gC] at this;omega
   have iz:decide ((u:Int)>0)=true:=cX;have c9:∀a:Int,lL 150021 g 1 (D l) 8 1 [.H (.int .i64 a)] (some (g,aU aI l))=_:=λa=>kx kz z7 150021 g 8 l a rfl (by omega) (by omega);have hand:=agU u ⟨by omega,by omega⟩
   have Z7:IntKind.i64.wrap ((u:Int)%1048576)=(u:Int)%1048576:=wrap64 _ (by omega) (by omega);refine ai ?_;repeat' (intro (ao:_=_)<;>simp only[ao,go_sem,go_sem_proc,iC,G,ab,aV,bu,hm,tr,iz,c9,hand,Z7,yz,show ((20:Int)<0)=False from by simp,if_false,al,bj]<;>try refine ag ?_ ?_)
   refine⟨(u/1048576,g+1,l++[(u:Int)%1048576]),by dsimp only;omega,by dsimp only;omega,by dsimp only;rw[g8,Z,w9 oF];rfl,by first|rfl|(dsimp only;rw[BZ _ ⟨by omega,by omega⟩];rfl),by simp,by simp[go_sem]⟩
 ·have hw:IntKind.u64.wrap n=(n.natAbs:Int):=by rw[BZ _ ⟨by omega,by omega⟩];omega
  simp only[go_sem,go_sem_proc,iC,jt,hw,decide_false];refine dd [2,3] [150002] (λ((u,g,l):Nat×Nat×List Int) tm mem=>u<=9223372036854775808/\aY n.natAbs=l++aY u/\tm 4=.H (.int .u64 u)/\tm 5=.ref 150021 g 1 0 (D l)/\mem 150021=some (g,aU aI l)) (λ(u,_)=>u) (n.natAbs,0,[]) (by refine⟨by omega,rfl,?_,rfl,rfl⟩;rfl) ?_;intro vs ms aQ aM;simp only[go_sem,go_sem_proc,iC] at aQ aM;subst aQ aM;rintro⟨u,g,l⟩ tm mem I hm ⟨hu,Z,aV,bu,tr⟩;simp only[go_sem,go_sem_proc,iC,bj] at I hm;obtain⟨G,ab⟩:=I;rcases kO u with ay|oF
  ·subst ay;rw[uB,hD] at Z;rw[Z] at R hlen;have Ei:(D l)<=1000000:=by omega
   have kQ:=R 1 (λ_=>by exact (hn (by omega)).symm);refine ai ?_;repeat' (intro (ao:_=_)<;>simp only[ao,go_sem,go_sem_proc,iC,G,ab,aV,bu,hm,tr,kQ,Ei,cM,qx,rp,al,show ¬ ((0:Int)>0) by omega,decide_false,nB kz,pb]<;>try refine ag ?_ ?_)
  ·have Ch:(D l)<=60:=by
    have:=congrArg D Z;rw[gC] at this;omega
   have iz:decide ((u:Int)>0)=true:=cX;have c9:∀a:Int,lL 150021 g 1 (D l) 8 1 [.H (.int .i64 a)] (some (g,aU aI l))=_:=λa=>kx kz z7 150021 g 8 l a rfl (by omega) (by omega);have hand:=agU u ⟨by omega,by omega⟩
   have Z7:IntKind.i64.wrap ((u:Int)%1048576)=(u:Int)%1048576:=wrap64 _ (by omega) (by omega);refine ai ?_;repeat' (intro (ao:_=_)<;>simp only[ao,go_sem,go_sem_proc,iC,G,ab,aV,bu,hm,tr,iz,c9,hand,Z7,yz,show ((20:Int)<0)=False from by simp,if_false,al,bj]<;>try refine ag ?_ ?_)
   refine⟨(u/1048576,g+1,l++[(u:Int)%1048576]),by dsimp only;omega,by dsimp only;omega,by dsimp only;rw[g8,Z,w9 oF];rfl,by first|rfl|(dsimp only;rw[BZ _ ⟨by omega,by omega⟩];rfl),by simp,by simp[go_sem]⟩
def axs (k:IntKind)(a b:Int):bits .or k a b=bits .or k b a:=by
 simp only[bits,BitVec.or_comm]
def axt (u d:Int)(i:Nat)(O:(2:Int)^i<=1152921504606846976)(hu:0<=u/\u<2^i)(Z:0<=d)(h:d*2^i<18446744073709551616):bits .or .u64 u (d*2^i)=u+d*2^i:=by
 rw[axs,Ai];have ay:0<=d*2^i:=sl Z (by exact Z8 (Od (by omega)));refine bits_join .u64 64 (by decide) (λn F G=>BZ n ⟨F,by omega⟩) i _ _ ay (Int.mul_emod_left _ _) (by omega) hu.1 hu.2 (by omega)
instance (n:Int):Decidable (eJ n):=by unfold eJ;exact inferInstance
def Ao (a:Raw):Int×Bool:=if dr a=true/\eJ (hF a) then (hF a,true) else (0,false)
def S7:=bV sf λ(s,l)=>cu (D l<=1000000) (.same (.dj [.int .i64 (Ao (s,l)).1,.bool (Ao (s,l)).2]))
@[go_sem] def aOH (s l):=cH S7 rfl GK (s,l) rfl
def axu (T:ba)(fG:T mj=aK xf):WF T aha S7:=by
 refine cp λ(s,l)=>cT λJ=>⟨rfl,ck ?_⟩;simp only[aha,sf,cd]
 by_cases X:dr (s,l)=true
 ·obtain⟨z,a2,e⟩:=(iB _).1 X
  cases e
  have O:Ao (z.sign,aY z.natAbs)=if eJ z then (z,true) else (0,false):=by
   unfold Ao;rw[X,show hF (z.sign,aY z.natAbs)=z from fl z];simp
  rw[O];clear O;have R:=lY z
  by_cases aV:(aY z.natAbs).length<=4
  ·have Z9:decide (((aY z.natAbs).length:Int)>4)=false:=b7;have j3:=m0 z.natAbs;have ky:=n3 z.natAbs;generalize aY z.natAbs=l at *;simp only[go_sem,go_sem_proc,fG,X,J,Z9,al,aI];refine dd [1,17,18] [159001] (λ((i,u):Nat×Int) tm mem=>i<=D l/\u=bo (l.take i)/\u<18446744073709551616/\tm 4=.H (.int .u64 u)/\tm 19=.H (.int .i64 i)) (λ(i,_)=>D l-i) (0,0) (by refine⟨by omega,rfl,by omega,rfl,rfl⟩) ?_;intro vs ms aQ aM;simp only[go_sem,go_sem_proc,fG] at aQ aM;subst aQ aM;rintro⟨i,u⟩ tm mem I hm ⟨O,hu,aOI,Ej,Ek⟩;simp only[go_sem,go_sem_proc,fG,bj] at I hm;obtain⟨F,m6,oE⟩:=I;have aiH:fo (l.take i):=λd Z=>ky d (yo Z);have Hb:0<=u:=by rw[hu];exact qt aiH
   rcases dn (i<D l) with ah|bW
   ·have L:=bh ah;have Z:=ky l[i] (mh ah);have s6:=mE l i ah;have Hc:=BU aiH;rw[gP,pF (Ou ah),<-hu] at Hc;rw[<-hu] at s6;generalize l[i]=d at *;have Cq:decide ((i:Int)<(D l:Int))=true:=cX;have tk:IntKind.u64.wrap d=d:=BZ d ⟨Z.1,by omega⟩
    have JS:IntKind.i64.wrap (20*(i:Int))=((20*i:Nat):Int):=by rw[eY _];omega
    have RO:min (20*i) 64=20*i:=by omega
    have s5:(((20*i:Nat):Int)<0)=False:=eq_false (by omega);have J1:(1048576:Int)^i=2^(20*i):=by rw[Int.pow_mul];rfl
    rw[J1] at Hc s6
    have ia:(2:Int)^(20*i)<=1152921504606846976:=by
     obtain rfl|rfl|rfl|rfl:i=0\/i=1\/i=2\/i=3:=by omega
     all_goals decide
    by_cases aaa:i=3/\d>8
    ·obtain⟨rfl,aab⟩:=aaa;have axv:decide (d>8)=true:=hN aab;have S8:(((3:Nat):Int)==3)=true:=rfl
     have yR:¬ eJ z:=by
      have xm:=Np l 4;rw[j3] at xm;have:0<=bo (l.drop 4):=qt λd Z=>ky d (JO Z);have bu:=sl (show (0:Int)<=1048576^(min 4 (D l)) from Z8 (Od (by omega))) this;unfold eJ;simp only[aiI,Nat.reduceAdd,aiJ] at s6;rw[s6] at xm;omega
     rw[aa yR];refine ai ?_;repeat' (intro (ao:_=_)<;>simp only[ao,go_sem,go_sem_proc,fG,F,m6,oE,Ej,Ek,hm,L,Z.1,Z.2,Cq,tk,axv,S8,al,bm,bj,aI]<;>try refine ag ?_ ?_)
    ·have yG:d*2^(20*i)<18446744073709551616:=by
      obtain rfl|rfl|rfl|rfl:i=0\/i=1\/i=2\/i=3:=by omega
      all_goals simp
      all_goals omega
     have xk:=axt u d (20*i) ia ⟨Hb,Hc⟩ Z.1 yG;have Ov:0<=d*2^(20*i):=sl Z.1 (Z8 (Od (by omega)));have aac:IntKind.u64.wrap (d*2^(20*i))=d*2^(20*i):=BZ _ ⟨Ov,yG⟩
     have Ci:u+d*2^(20*i)<18446744073709551616:=by
      clear xk aac Ov JS s5 J1 ia s6;obtain rfl|rfl|rfl|rfl:i=0\/i=1\/i=2\/i=3:=by omega
      all_goals simp only[aiI,aiJ] at Hc yG ⊢
      all_goals omega
     by_cases ab:((i:Int)==3)=true
     ·have aab:decide (d>8)=false:=kM λh=>aaa ⟨by simp at ab;omega,h⟩
      refine ai ?_;repeat' (intro (ao:_=_)<;>simp only[ao,go_sem,go_sem_proc,fG,F,m6,oE,Ej,Ek,hm,L,Z.1,Z.2,Cq,tk,ab,aab,JS,s5,if_false,gK,RO,aac,xk,al,bm,bj,aI]<;>try refine ag ?_ ?_)
      exact⟨(i+1,u+d*2^(20*i)),by dsimp only;omega,by dsimp only;omega,by dsimp only;rw[s6,oB],Ci,rfl,by rw[eY _];rfl⟩
     ·have ab:((i:Int)==3)=false:=by simpa using ab
      refine ai ?_;repeat' (intro (ao:_=_)<;>simp only[ao,go_sem,go_sem_proc,fG,F,m6,oE,Ej,Ek,hm,L,Z.1,Z.2,Cq,tk,ab,JS,s5,if_false,gK,RO,aac,xk,al,bm,bj,aI]<;>try refine ag ?_ ?_)
      exact⟨(i+1,u+d*2^(20*i)),by dsimp only;omega,by dsimp only;omega,by dsimp only;rw[s6,oB],Ci,rfl,by rw[eY _];rfl⟩
   ·have Cq:decide ((i:Int)<(D l:Int))=false:=b7;have nJ:i=D l:=by omega
    rw[nJ,pb,j3] at hu;rcases R with ⟨R,w3⟩|⟨R,w3⟩|⟨R,w3⟩
    ·by_cases hr64:u<9223372036854775808
     ·rw[Y (by unfold eJ;omega)];have hw:IntKind.i64.wrap u=z:=by rw[wrap64 u (by omega) (by omega)];omega
      refine ai ?_;repeat' (intro (ao:_=_)<;>simp only[ao,go_sem,go_sem_proc,fG,F,m6,oE,Ej,Ek,hm,Cq,R,hr64,show decide ((1:Int)<0)=false from rfl,show decide ((1:Int)>=0)=true from rfl,show decide ((-1:Int)<0)=true from rfl,show decide ((-1:Int)>=0)=false from rfl,hw,decide_true,decide_false,al]<;>try refine ag ?_ ?_)
     ·rw[aa (by unfold eJ;omega)];refine ai ?_;repeat' (intro (ao:_=_)<;>simp only[ao,go_sem,go_sem_proc,fG,F,m6,oE,Ej,Ek,hm,Cq,R,hr64,show decide ((1:Int)<0)=false from rfl,show decide ((1:Int)>=0)=true from rfl,show decide ((-1:Int)<0)=true from rfl,show decide ((-1:Int)>=0)=false from rfl,decide_true,decide_false,al]<;>try refine ag ?_ ?_)
    ·rw[Y (by unfold eJ;omega)];have axw:u=0:=by omega
     subst w3;subst axw;refine ai ?_;repeat' (intro (ao:_=_)<;>simp only[ao,go_sem,go_sem_proc,fG,F,m6,oE,Ej,Ek,hm,Cq,R,show decide ((0:Int)<0)=false from rfl,show decide ((0:Int)>=0)=true from rfl,show decide ((0:Int)<9223372036854775808)=true from rfl,show IntKind.i64.wrap 0=0 from rfl,show (0:Int).sign=0 from rfl,decide_true,decide_false,al]<;>try refine ag ?_ ?_)
    ·by_cases hr64:u<=9223372036854775808
     ·rw[Y (by unfold eJ;omega)];have hw:=Z6 (0-u) (by omega) (by omega)
      have ih:IntKind.i64.wrap (0-u+18446744073709551616)=z:=by
       simp[IntKind.wrap,IntKind.bits,IntKind.signed];omega
      refine ai ?_;repeat' (intro (ao:_=_)<;>simp only[ao,go_sem,go_sem_proc,fG,F,m6,oE,Ej,Ek,hm,Cq,R,hr64,show decide ((1:Int)<0)=false from rfl,show decide ((1:Int)>=0)=true from rfl,show decide ((-1:Int)<0)=true from rfl,show decide ((-1:Int)>=0)=false from rfl,hw,ih,decide_true,decide_false,al]<;>try refine ag ?_ ?_)
     ·rw[aa (by unfold eJ;omega)];refine ai ?_;repeat' (intro (ao:_=_)<;>simp only[ao,go_sem,go_sem_proc,fG,F,m6,oE,Ej,Ek,hm,Cq,R,hr64,show decide ((1:Int)<0)=false from rfl,show decide ((1:Int)>=0)=true from rfl,show decide ((-1:Int)<0)=true from rfl,show decide ((-1:Int)>=0)=false from rfl,decide_true,decide_false,al]<;>try refine ag ?_ ?_)
  ·have Z9:decide (((aY z.natAbs).length:Int)>4)=true:=cX
   have aL:¬ eJ z:=by
    intro h;unfold eJ at h;refine aV (g9.2 ?_);omega
   rw[aa aL];refine ai ?_;repeat' (intro (ao:_=_)<;>simp only[ao,go_sem,go_sem_proc,fG,X,J,Z9,al]<;>try refine ag ?_ ?_)
 ·have X:dr (s,l)=false:=by simpa using X
  have O:Ao (s,l)=(0,false):=by unfold Ao;rw[aa];rw[X];simp
  rw[O];refine ai ?_;repeat' (intro (ao:_=_)<;>simp only[ao,go_sem,go_sem_proc,fG,X,J]<;>try refine ag ?_ ?_)
def aiK:bJ:=b5 35 1 [.t 2] (Q [c0 1 116001 0,cx 2 false] (.seq (Q [aD 5 0 1,aS 6 2 5,dv 7 mj 6,fb 8 7,E 9 8,ez 10 9 2 1,iR 11 9 2 10,e3 12 9 (.call mj [.t 11]),ha 13 9 12,cv 14 9 13,E 15 14,ez 16 15 2 1,ez 17 15 0 16,dG 18 15 1 17,fc 19 15 .neq 18 1,cv 20 15 19] (b4 20 [cx 2 false])) (Q [aD 22 0 1,aS 23 2 22,aD 24 2 1,aS 25 2 24,bI 26 Nq 23 25,E 21 26,a0 27 0 21,a0 28 1 21,bQ 3 116003 dP,aT 2 3 27,E 4 28] (Q [E 29 4,a3 30 .eql 29 0,E 31 30,uE 32 31 2 3,h0 33 31 (.call YB [.t 32]),gr 34 31 33,E 2 34] .ret))))
def aiL:bJ:=b5 46 2 [.cell 4 4 true,.t 5] (Q [c0 2 119002 0,c0 3 119003 1,bQ 4 119004 cG,a7 5 0] (.seq (Q [aS 10 4 2,dv 11 o1 10,fb 12 11,E 13 12,iR 14 13 4 3,e3 15 13 (.call o1 [.t 14]),ha 16 13 15,cv 17 13 16] (b4 17 [aP 18 (.build cG []),aT 4 4 18,a7 5 1])) (Q [aD 20 0 2,aS 21 2 20,aD 22 2 3,aS 23 2 22,aD 24 0 3,aS 25 2 24,aD 26 2 2,aS 27 2 26,DX 28 YC 21 23 25 27,E 19 28,a0 29 0 19,a0 30 1 19,bQ 6 119006 dP,aT 2 6 29,E 7 30] (Q [aD 32 2 2,aS 33 2 32,aD 34 2 3,aS 35 2 34,bI 36 xc 33 35,E 31 36,a0 37 0 31,a0 38 1 31,bQ 8 119008 dP,aT 2 8 37,E 9 38] (Q [aS 39 2 6,E 40 7,aS 41 2 8,E 42 9,DX 43 Gn 39 40 41 42,a0 44 0 43,a0 45 1 43,aT 4 4 44,E 5 45] .ret)))))
def aiM:bJ:=b5 13 2 [.cell 4 4 true,.t 5] (Q [bQ 4 130004 cG,a7 5 0] (Q [E 6 0,dv 7 Sn 6,E 8 1,dv 9 Sn 8,bI 10 Ns 7 9,a0 11 0 10,a0 12 1 10,aT 4 4 11,E 5 12] .ret))
def aiN:bJ:=b5 25 2 [.cell 4 4 true,.t 5] (Q [c0 2 132002 0,c0 3 132003 1,bQ 4 132004 cG,a7 5 0] (.seq (Q [aS 6 4 2,dv 7 o1 6,fb 8 7,E 9 8,iR 10 9 4 3,e3 11 9 (.call o1 [.t 10]),ha 12 9 11,cv 13 9 12] (b4 13 [aP 14 (.build cG []),aT 4 4 14,a7 5 1])) (ed [aS 15 4 2,aD 16 0 3,aS 17 2 16,dv 18 Jn 17,aD 19 2 3,aS 20 2 19,aP 21 (.build cG [(0,2,.t 18),(2,2,.t 20)]),bI 22 DO 15 21,a0 23 0 22,a0 24 1 22,aT 4 4 23,E 5 24] agY .ret)))
def aiO:bJ:=b5 42 2 [.cell 4 4 true,.t 5] (Q [c0 2 134002 0,c0 3 134003 1,bQ 4 134004 cG,a7 5 0] (.seq (Q [aS 10 4 2,dv 11 o1 10,fb 12 11,E 13 12,iR 14 13 4 3,e3 15 13 (.call o1 [.t 14]),ha 16 13 15,cv 17 13 16] (b4 17 [aP 18 (.build cG []),aT 4 4 18,a7 5 1])) (Q [aD 20 0 2,aS 21 2 20,aD 22 0 3,aS 23 2 22,bI 24 xc 21 23,E 19 24,a0 25 0 19,a0 26 1 19,bQ 6 134006 dP,aT 2 6 25,E 7 26] (Q [aD 28 2 2,aS 29 2 28,aD 30 2 3,aS 31 2 30,bI 32 xc 29 31,E 27 32,a0 33 0 27,a0 34 1 27,bQ 8 134008 dP,aT 2 8 33,E 9 34] (Q [aS 35 2 6,E 36 7,aS 37 2 8,E 38 9,DX 39 Gn 35 36 37 38,a0 40 0 39,a0 41 1 39,aT 4 4 40,E 5 41] .ret)))))
def aiP:bJ:=b5 78 2 [.t 4] (Q [c0 2 135002 0,c0 3 135003 1,a7 4 0] (.seq (Q [aS 17 4 2,dv 18 o1 17,fb 19 18,E 20 19,iR 21 20 4 3,e3 22 20 (.call o1 [.t 21]),ha 23 20 22,cv 24 20 23] (b4 24 [a7 4 0])) (ed [aD 25 0 2,aS 26 2 25,aD 27 2 2,aS 28 2 27,aD 29 0 3,aS 30 2 29,aD 31 2 3,aS 32 2 31,bQ 5 135005 dP,bQ 6 135006 dP,bQ 7 135007 dP,bQ 8 135008 dP,aT 2 5 26,aT 2 6 28,aT 2 7 30,aT 2 8 32] [[],[],[],[],[],[],[],[],[1,3,5,7],[1,3,5,7,8],[1,3,5,7,8,9],[1,3,5,7,8,9,10],[3,5,7],[5,7],[7],[]] (Q [a7 9 1] (dY 0 (.seq (.block 1 (Q [aS 36 2 5,aS 37 2 6,bI 38 Gp 36 37,E 35 38,a0 39 0 35,a0 40 1 35,a0 41 2 35,bQ 10 135010 dP,bQ 11 135011 dP,aT 2 10 39,aT 2 11 40,E 12 41] (Q [aS 43 2 7,aS 44 2 8,bI 45 Gp 43 44,E 42 45,a0 46 0 42,a0 47 1 42,a0 48 2 42,bQ 13 135013 dP,bQ 14 135014 dP,aT 2 13 46,aT 2 14 47,E 15 48] (.seq (Q [aS 49 2 10,aS 50 2 13,bI 51 YH 49 50,E 16 51] (.block 2 (Q [E 53 16,a3 54 .neq 53 0,E 52 54] (e8 52 (Q [E 55 9,E 56 16,bp 57 .mul 55 56,E 4 57] .ret) (Q [aD 59 0 11,aA 60 1 59,a3 61 .eql 60 0,E 62 61,ez 63 62 0 14,dG 64 62 1 63,fc 65 62 .eql 64 0,cv 66 62 65,E 58 66] (b4 58 [E 67 9,aD 68 0 11,aA 69 1 68,aD 70 0 14,aA 71 1 70,bp 72 .sub 69 71,bp 73 .mul 67 72,E 4 73])))))) (.l9 [aS 74 2 6,aS 75 2 11,aS 76 2 8,aS 77 2 14,aT 2 5 74,aT 2 6 75,aT 2 7 76,aT 2 8 77] [[],[],[],[],[1,2,3],[2,3],[3],[]]))))) (.ops [E 33 9,aP 34 (.un .neg (.t 33)),E 9 34])))))))
def aiQ:bJ:=b5 15 1 [.t 2] (Q [c0 1 138001 0,cx 2 false] (Q [aS 6 2 1,dv 7 YI 6,E 5 7,a0 8 0 5,a0 9 1 5,E 3 8,E 4 9] (Q [E 10 4,E 11 10,eg 12 11 3,k7 13 11 .eql 12 1,gr 14 11 13,E 2 14] .ret)))
def aiR:bJ:=b5 38 4 [.cell 8 2 true,.t 9] (Q [c0 4 139004 0,c0 5 139005 1,c0 6 139006 2,c0 7 139007 3,bQ 8 139008 dP,a7 9 0] (Q [aS 14 2 4,aS 15 2 5,bI 16 xc 14 15,E 13 16,a0 17 0 13,a0 18 1 13,bQ 10 139010 dP,aT 2 10 17,E 11 18] (.seq (Q [E 19 11,a3 20 .neq 19 0] (b4 20 [aP 21 (.build dP []),E 22 11,aT 2 8 21,E 9 22])) (Q [aS 24 2 6,aS 25 2 7,bI 26 xc 24 25,E 23 26,a0 27 0 23,a0 28 1 23,bQ 12 139012 dP,aT 2 12 27,E 11 28] (.seq (Q [E 29 11,a3 30 .neq 29 0] (b4 30 [aP 31 (.build dP []),E 32 11,aT 2 8 31,E 9 32])) (Q [aS 33 2 10,aS 34 2 12,bI 35 YJ 33 34,a0 36 0 35,a0 37 1 35,aT 2 8 36,E 9 37] .ret))))))
def aiS:bJ:=b5 22 4 [.cell 8 4 true,.t 9] (Q [c0 4 141004 0,c0 6 141006 2,bQ 8 141008 cG,a7 9 0] (.seq (Q [E 10 1,a3 11 .neq 10 0,E 12 11,fr 13 12 3,fc 14 12 .neq 13 0,cv 15 12 14] (b4 15 [aP 16 (.build cG []),aT 4 8 16,a7 9 6])) (Q [aS 17 2 4,aS 18 2 6,bI 19 Ns 17 18,a0 20 0 19,a0 21 1 19,aT 4 8 20,E 9 21] .ret)))
def aiT:bJ:=b5 60 2 [.cell 4 4 true,.t 5] (Q [c0 2 149002 0,c0 3 149003 1,bQ 4 149004 cG,a7 5 0] (.seq (.block 0 (Q [aS 15 2 2,dv 16 mj 15,fb 17 16,E 18 17,iR 19 18 2 3,e3 20 18 (.call mj [.t 19]),ha 21 18 20,cv 22 18 21,E 14 22] (e8 14 (Q [aP 23 (.build cG []),aT 4 4 23,a7 5 1] .ret) (Q [aD 25 0 3,aA 26 1 25,a3 27 .eql 26 0,E 24 27] (e8 24 (Q [aP 28 (.build cG []),aT 4 4 28,a7 5 15] .ret) (Q [aD 30 0 3,aA 31 1 30,a3 32 .lss 31 0,E 29 32] (e8 29 (.l9 [aS 33 2 2,dv 34 Jn 33,aS 35 2 3,dv 36 Jn 35,aT 2 2 34,aT 2 3 36] Ze) .skip))))))) (Q [aS 38 2 2,aS 39 2 3,bI 40 Nq 38 39,E 37 40,a0 41 0 37,a0 42 1 37,bQ 6 149006 dP,aT 2 6 41,E 7 42] (Q [aS 44 2 2,aS 45 2 6,bI 46 Gp 44 45,E 43 46,a0 47 0 43,a0 48 1 43,a0 49 2 43,bQ 8 149008 dP,bQ 9 149009 dP,aT 2 8 47,aT 2 9 48,E 10 49] (Q [aS 51 2 3,aS 52 2 6,bI 53 Gp 51 52,E 50 53,a0 54 0 50,a0 55 1 50,a0 56 2 50,bQ 11 149011 dP,bQ 12 149012 dP,aT 2 11 54,aT 2 12 55,E 13 56] (Q [aS 57 2 8,aS 58 2 11,aP 59 (.build cG [(0,2,.t 57),(2,2,.t 58)]),aT 4 4 59,a7 5 0] .ret))))))
def aiU:bJ:=b5 49 2 [.cell 4 4 true,.t 5] (Q [c0 2 169002 0,c0 3 169003 1,bQ 4 169004 cG,a7 5 0] (.seq (.block 0 (Q [aS 11 4 2,dv 12 o1 11,fb 13 12,E 14 13,iR 15 14 4 3,e3 16 14 (.call o1 [.t 15]),ha 17 14 16,cv 18 14 17,E 10 18] (e8 10 (Q [aP 19 (.build cG []),aT 4 4 19,a7 5 1] .ret) (Q [aD 21 0 3,aD 22 0 21,aA 23 1 22,a3 24 .eql 23 0,E 20 24] (b4 20 [aP 25 (.build cG []),aT 4 4 25,a7 5 15]))))) (Q [aD 27 0 2,aS 28 2 27,aD 29 2 3,aS 30 2 29,bI 31 xc 28 30,E 26 31,a0 32 0 26,a0 33 1 26,bQ 6 169006 dP,aT 2 6 32,E 7 33] (Q [aD 35 2 2,aS 36 2 35,aD 37 0 3,aS 38 2 37,bI 39 xc 36 38,E 34 39,a0 40 0 34,a0 41 1 34,bQ 8 169008 dP,aT 2 8 40,E 9 41] (Q [aS 42 2 6,E 43 7,aS 44 2 8,E 45 9,DX 46 Gn 42 43 44 45,a0 47 0 46,a0 48 1 46,aT 4 4 47,E 5 48] .ret)))))
abbrev bz:=Raw×Raw
def az (f:bz):List Data:=[.int .i64 f.1.1,.ax (f.1.2.map aI),.int .i64 f.2.1,.ax (f.2.2.map aI)]
def dT (x:bz×Int):Data:=.dj [.agg (az x.1),.int .i64 x.2]
def av (x:Rat):bz:=(bl x.num,bl x.den)
def dH (x:Rat):Prop:=x.num.natAbs<dF/\x.den<dF
def cW:bz:=((0,[]),(0,[]))
def dM (f:bz):Bool:=dr f.1&&(dr f.2&&(f.2.1==1&&(hG (hF f.1).natAbs (hF f.2).natAbs==1)))
def El (f:bz):Rat:=mJ (hF f.1) (hF f.2)
def Hd (x:Rat):El (av x)=x:=by
 unfold El av;rw[fl,fl,Rat.num_divInt_den]
def Em {x y:Rat}(h:av x=av y):x=y:=by rw[<-Hd x,h,Hd]
def S9 {x y:Int}(h:bl x=bl y):x=y:=by rw[<-fl x,h,fl]
def den_pos (x:Rat):0<(x.den:Int):=Eh.2 x.den_pos
def axx {n:Int}(h:0<n):(bl n).1=1:=hn h
def Cr (f:bz):dM f=true↔∃x,dH x/\f=av x:=by
 unfold dM;simp only[fC,beq_iff_eq]
 constructor
 ·rintro⟨F,G,ab,aV⟩;obtain⟨p,aE,au⟩:=(iB _).1 F;obtain⟨q,bq,aC⟩:=(iB _).1 G;obtain⟨f1,f2⟩:=f;simp only at au aC ab aV;subst au aC;rw[fl,fl] at aV
  have Z0:0<q:=by
   rcases lY q with ⟨_,h⟩|⟨e,_⟩|⟨e,_⟩
   ·exact h
   ·have:q.sign=1:=ab;omega
   ·have:q.sign=1:=ab;omega
  refine⟨⟨p,q.natAbs,by omega,aV⟩,⟨aE,bq⟩,?_⟩
  unfold av;rw[show ((q.natAbs:Nat):Int)=q by omega]
 ·rintro⟨x,⟨F,G⟩,rfl⟩;have Z:(x.den:Int).natAbs<dF:=by rw[m5];exact G
  refine⟨lz F,lz Z,axx (den_pos x),?_⟩;unfold av;rw[fl,fl,m5];exact x.reduced
def yS {x:Rat}(h:dH x):dM (av x)=true:=(Cr _).2 ⟨x,h,rfl⟩
def qD {x:Rat}(h:dH x):(x.den:Int).natAbs<dF:=by rw[m5];exact h.2
def kB {z:Int}(h:z.natAbs<dF):(aY z.natAbs).length<=1000000:=by have:=oH h;omega
def Ow (a:Raw):Bool:=(Ao a).2&&((Ao a).1==1)
def axy {z:Int}(h:z.natAbs<dF):Ow (bl z)=decide (z=1):=by
 unfold Ow Ao;rw[lz h,fl]
 by_cases O:eJ z
 ·rw[Y ⟨rfl,O⟩];simp only[fN]
  rfl
 ·rw[aa λh=>O h.2];have:z≠1:=by rintro rfl;exact O (by unfold eJ;omega)
  simp[this]
def Ta:=bV sf λ(s,l)=>cu (D l<=1000000) (.same (.bool (Ow (s,l))))
@[go_sem] def aOJ (s l):=cH Ta rfl GK (s,l) rfl
def axz (T:ba)(Tb:T YI=aK S7):WF T aiQ Ta:=by
 refine cp λ(s,l)=>cT λJ=>⟨rfl,ck ?_⟩;simp only[aiQ,sf,cd];unfold Ow;rcases h:(Ao (s,l)).2
 ·simp only[go_sem,go_sem_proc,Tb,J,h];repeat' (first|refine ag ?_ ?_|fail)<;>intro h<;>simp only[h,go_sem,go_sem_proc,Tb,J,h]
 ·simp only[go_sem,go_sem_proc,Tb,J,h];repeat' (first|refine ag ?_ ?_|fail)<;>intro h<;>simp only[h,go_sem,go_sem_proc,Tb,J,h]
abbrev vY:Int×(List Int)×Int×(List Int)->List Data:=λ(s,l,s2,aw)=>[.agg [.int .i64 s,.ax (l.map aI),.int .i64 s2,.ax (aw.map aI)]]
def Ap:=bV vY λ(s,l,s2,aw)=>cu (D l<=1000000/\D aw<=1000000) (.same (.bool (dM ((s,l),(s2,aw)))))
def J2:∀a b,vY a=vY b->a=b:=by
  rintro⟨s1,eN,Ec,Ed⟩ ⟨s2,aw,Ee,Ef⟩ h;simp only[bj,Data.agg.injEq,Data.int.injEq,Data.ax.injEq] at h;exact et h.1.1.2 (et (map_inj gq _ _ h.1.2.1) (et h.1.2.2.1.2 (map_inj gq _ _ h.1.2.2.2.1)))
@[go_sem] def aOK (s l s2 aw):=cH Ap rfl J2 (s,l,s2,aw) rfl
def axA (T:ba)(fG:T mj=aK xf)(Aq:T Nq=aK On)(Tc:T YB=aK Ta):WF T aiK Ap:=by
 refine cp λ(s,l,s2,aw)=>cT λJ=>⟨rfl,ck ?_⟩;simp only[aiK,vY,cd];obtain⟨bG,bO⟩:=J
 by_cases X:dr (s,l)=true
 ·by_cases bf:dr (s2,aw)=true
  ·by_cases R:s2=1
   ·obtain⟨x,L,e⟩:=(iB _).1 X;obtain⟨y,aj,aC⟩:=(iB _).1 bf
    have bb:n9 (s,l) (s2,aw)=(bl ((hG x.natAbs y.natAbs:Nat):Int),0):=by
     unfold n9;rw[X,bf,e,aC,fl,fl];rfl
    have oa:=JZ L aj
    have bw:Ow (bl ((hG x.natAbs y.natAbs:Nat):Int))=(hG x.natAbs y.natAbs==1):=by
     rw[axy (by rw[m5];exact oa)];rw[Bool.eq_iff_iff];simp;omega
    have uj:hF (s,l)=x:=by rw[e,fl]
    have uk:hF (s2,aw)=y:=by rw[aC,fl]
    have jf:dM ((s,l),(s2,aw))=(hG x.natAbs y.natAbs==1):=by
     show (dr (s,l)&&(dr (s2,aw)&&((s2==1)&&(hG (hF (s,l)).natAbs (hF (s2,aw)).natAbs==1))))=_;rw[X,bf,uj,uk,show (s2==1)=true by simpa using R]
     simp only[fN]
    have aad:((bl ((hG x.natAbs y.natAbs:Nat):Int)).2).length<=1000000:=kB (by rw[m5];exact oa);rw[jf,<-bw];generalize bl ((hG x.natAbs y.natAbs:Nat):Int)=bs at *;obtain⟨cU,dc⟩:=bs;have kQ:(s2==1)=true:=by simpa using R
    refine ai ?_;repeat' (intro h<;>simp only[h,go_sem,go_sem_proc,fG,Aq,Tc,X,bf,bG,bO,kQ,bb,aad,fs,cM,show ((0:Int)==0)=true from rfl]<;>try refine ag ?_ ?_)
   ·have jf:dM ((s,l),(s2,aw))=false:=by unfold dM;simp[R]
    have kQ:(s2==1)=false:=by simpa using R
    rw[jf];refine ai ?_;repeat' (intro h<;>simp only[h,go_sem,go_sem_proc,fG,Aq,Tc,X,bf,bG,bO,kQ]<;>try refine ag ?_ ?_)
  ·have bf:dr (s2,aw)=false:=by simpa using bf
   have jf:dM ((s,l),(s2,aw))=false:=by unfold dM;simp[bf]
   rw[jf];refine ai ?_;repeat' (intro h<;>simp only[h,go_sem,go_sem_proc,fG,Aq,Tc,X,bf,bG,bO]<;>try refine ag ?_ ?_)
 ·have X:dr (s,l)=false:=by simpa using X
  have jf:dM ((s,l),(s2,aw))=false:=by unfold dM;simp[X]
  rw[jf];refine ai ?_;repeat' (intro h<;>simp only[h,go_sem,go_sem_proc,fG,Aq,Tc,X,bG,bO]<;>try refine ag ?_ ?_)
def jw (p q:Raw):bz×Int :=
 if (dr p&&dr q)=true then (if hF q=0 then (cW,15) else (av (mJ (hF p) (hF q)),0)) else (cW,1)
def Cs {p q:Int}(aE:p.natAbs<dF)(bq:q.natAbs<dF)(ay:q≠0):jw (bl p) (bl q)=(av (mJ p q),0):=by
 unfold jw;rw[lz aE,lz bq,fl,fl,Y (by rfl),aa ay]
def aae {p q:Int}(bq:0<q):(mJ p q).num=p.fdiv ((hG p.natAbs q.natAbs:Nat):Int)/\((mJ p q).den:Int)=q.fdiv ((hG p.natAbs q.natAbs:Nat):Int):=by
 rw[Rat.num_divInt,Rat.den_divInt,aa (by omega),hn bq,tl];have bb:q.gcd p=hG p.natAbs q.natAbs:=by rw[Int.gcd_comm];rfl
 rw[bb];have ay:(0:Int)<=((hG p.natAbs q.natAbs:Nat):Int):=Int.natCast_nonneg _;rw[Yu _ ay,Yu _ ay];refine⟨rfl,?_⟩;rw[Zz]
 congr 1
 omega
def aaf {p q:Int}(bq:q≠0):0<hG p.natAbs q.natAbs:=Nat.gcd_pos_of_pos_right _ (by omega)
def Td {p q:Int}(aE:p.natAbs<dF)(bq:q.natAbs<dF):dH (mJ p q):=by
 have main:∀{p q:Int},p.natAbs<dF->q.natAbs<dF->0<q->dH (mJ p q):=by
  intro p q aE bq ay;obtain⟨F,G⟩:=aae (p:=p) ay;have bb:=aaf (p:=p) (q:=q) (by omega);refine⟨?_,?_⟩
  ·rw[F];exact J0 aE (by omega)
  ·have:=J0 (y:=((hG p.natAbs q.natAbs:Nat):Int)) bq (by omega);rw[<-G,m5] at this;exact this
 rcases uK q 0 with h|h|h
 ·rw[<-aiV];exact main (by omega) (by omega) (by omega)
 ·subst h;rw[Rat.divInt_zero];unfold dH dF;exact⟨Nat.pow_pos (by omega),Nat.one_lt_pow (by omega) (by omega)⟩
 ·exact main aE bq h
def Ox:=bV j6 λ(s,l,s2,aw)=>cu (D l<=1000000/\D aw<=1000000) (.same (dT (jw (s,l) (s2,aw))))
@[go_sem] def aOL (s l s2 aw):=cH Ox rfl tq (s,l,s2,aw) rfl
def axB (T:ba)(fG:T mj=aK xf)(Ct:T Jn=aK Oi)(Aq:T Nq=aK On)(sq:T Gp=aK Ot):WF T aiT Ox:=by
 refine cp λ(s,l,s2,aw)=>cT λJ=>⟨rfl,ck ?_⟩;simp only[aiT,j6,cd];obtain⟨bG,bO⟩:=J
 by_cases X:dr (s,l)=true
 ·by_cases bf:dr (s2,aw)=true
  ·obtain⟨x,L,e⟩:=(iB _).1 X;obtain⟨y,aj,aC⟩:=(iB _).1 bf
   by_cases ay:y=0
   ·have hm:jw (s,l) (s2,aw)=(cW,15):=by
     unfold jw;rw[X,bf,aC,fl,Y (by rfl),Y ay]
    rw[hm]
    cases e
    cases aC;have R:(y.sign==0)=true:=by rw[ay];rfl
    refine ai ?_;repeat' (intro h<;>simp only[h,go_sem,go_sem_proc,fG,Ct,Aq,sq,X,bf,bG,bO,R,dT,az,cW,bY]<;>try refine ag ?_ ?_)
   ·have main:∀p q:Int,p.natAbs<dF->q.natAbs<dF->0<q->∃g:Raw,n9 (bl p) (bl q)=(g,0)/\g.2.length<=1000000/\nI (bl p) g=(bl (mJ p q).num,bl (p.fmod ((hG p.natAbs q.natAbs:Nat):Int)),0)/\nI (bl q) g=(bl (mJ p q).den,bl (q.fmod ((hG p.natAbs q.natAbs:Nat):Int)),0):=by
     intro p q aE bq nE;have oa:=JZ aE bq;have He:((hG p.natAbs q.natAbs:Nat):Int).natAbs<dF:=by rw[m5];exact oa
     have yM:=aaf (p:=p) (q:=q) (by omega);obtain⟨F,G⟩:=aae (p:=p) nE;refine⟨bl ((hG p.natAbs q.natAbs:Nat):Int),?_,kB He,?_,?_⟩
     ·unfold n9;rw[lz aE,lz bq,fl,fl];rfl
     ·rw[Cn aE He (by omega),F]
     ·rw[Cn bq He (by omega),G]
    have qE:(y.sign==0)=false:=by simpa using ay
    rcases Int.lt_or_gt_of_ne ay with mI|jt
    ·have jL:decide (y.sign<0)=true:=by rw[nG mI];rfl
     obtain⟨⟨cU,dc⟩,bb,oa,lu,n8⟩:=main (-x) (-y) (by omega) (by omega) (by omega)
     have hm:jw (s,l) (s2,aw)=(av (mJ (-x) (-y)),0):=by
      rw[e,aC,Cs L aj ay,aiV]
     rw[hm];have qh:iV (s,l)=bl (-x):=by unfold iV;rw[Y X,e,fl]
     have wY:iV (s2,aw)=bl (-y):=by unfold iV;rw[Y bf,aC,fl]
     have En:s2=y.sign:=congrArg Prod.fst aC;have fp:(bl (-x)).2.length<=1000000:=kB (by omega);have fy:(bl (-y)).2.length<=1000000:=kB (by omega);clear e aC;unfold av;generalize bl (-x)=b2 at *;generalize bl (-y)=gM at *;obtain⟨fx,fe⟩:=b2;obtain⟨nD,o5⟩:=gM;rw[<-En] at qE jL;refine ai ?_;repeat' (intro h<;>simp only[h,go_sem,go_sem_proc,fG,Ct,Aq,sq,X,bf,bG,bO,qE,jL,qh,wY,fp,fy,bb,oa,lu,n8,dT,az,fs,lZ,cM]<;>try refine ag ?_ ?_)
    ·have jL:decide (y.sign<0)=false:=by rw[hn jt];rfl
     obtain⟨⟨cU,dc⟩,bb,oa,lu,n8⟩:=main x y L aj jt
     have hm:jw (s,l) (s2,aw)=(av (mJ x y),0):=by
      rw[e,aC,Cs L aj ay]
     rw[hm];have En:s2=y.sign:=congrArg Prod.fst aC;rw[<-e] at bb lu;rw[<-aC] at bb n8;rw[<-En] at qE jL;unfold av;refine ai ?_;repeat' (intro h<;>simp only[h,go_sem,go_sem_proc,fG,Ct,Aq,sq,X,bf,bG,bO,qE,jL,bb,oa,lu,n8,dT,az,fs,lZ,cM]<;>try refine ag ?_ ?_)
  ·have bf:dr (s2,aw)=false:=by simpa using bf
   have hm:jw (s,l) (s2,aw)=(cW,1):=by unfold jw;rw[bf,iS];rfl
   rw[hm];refine ai ?_;repeat' (intro h<;>simp only[h,go_sem,go_sem_proc,fG,Ct,Aq,sq,X,bf,bG,bO,dT,az,cW,bY]<;>try refine ag ?_ ?_)
 ·have X:dr (s,l)=false:=by simpa using X
  have hm:jw (s,l) (s2,aw)=(cW,1):=by unfold jw;rw[X,e9];rfl
  rw[hm];refine ai ?_;repeat' (intro h<;>simp only[h,go_sem,go_sem_proc,fG,Ct,Aq,sq,X,bG,bO,dT,az,cW,bY]<;>try refine ag ?_ ?_)
def J3:=bV Ae λ(p,q)=>cu (eJ p/\eJ q) (.same (dT (jw (bl p) (bl q))))
@[go_sem] def axC (p q):=cH J3 rfl SI (p,q) rfl
def axD (T:ba)(axE:T Sn=aK S6)(Oy:T Ns=aK Ox):WF T aiM J3:=by
 refine cp λ(p,q)=>cT λJ=>⟨rfl,ck ?_⟩;simp only[aiM,Ae,cd];obtain⟨F,G⟩:=J;have eN:(bl p).2.length<=1000000:=kB (uN F);have aw:(bl q).2.length<=1000000:=kB (uN G);generalize fF:bl p=P at *;generalize fM:bl q=aR at *;obtain⟨fx,fe⟩:=P;obtain⟨nD,o5⟩:=aR;refine ai ?_;repeat' (intro h<;>simp only[h,go_sem,go_sem_proc,axE,Oy,F,G,fF,fM,eN,aw,cM,dT,az]<;>try refine ag ?_ ?_)
end Go.Mini
