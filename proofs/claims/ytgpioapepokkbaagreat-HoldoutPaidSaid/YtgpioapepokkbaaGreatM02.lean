/- A part of the proof. -/
import Derived.Laws.BitsLemmas
import Derived.ChangeSame
import Derived.Handed
import Derived.JoinedOf
import Derived.JoinedCond
import Derived.OpenShut
import Derived.ProofKit
import Derived.Test.YtgpioapepokkbaaGreatM01
set_option linter.unusedSimpArgs false
set_option linter.unusedVariables false
set_option linter.defProp false
set_option maxRecDepth 100000
set_option maxHeartbeats 4000000
noncomputable section
open Bool renaming and_eq_true->eQ,and_false->hs,and_true->vR,false_and->fC,false_eq_true->lD,false_or->rY,not_false->dd,not_true->cF,or_false->mM,or_true->s0,true_and->g4,true_or->qG
open Classical renaming choose->vD,choose_spec->oP
open Decidable renaming em->dq
open Int renaming add_comm->yU,add_mul->uB,add_mul_ediv_left->af4,add_mul_emod_self_left->af6,add_zero->Ay,bmod_def->ae3,cast_ofNat_Int->p4,ediv_eq_zero_of_lt->Yw,ediv_lt_of_lt_mul->af7,ediv_nonneg->EW,emod_add_mul_ediv->Cj,emod_emod_of_dvd->ae4,emod_eq_of_lt->Yx,emod_lt_of_pos->Yy,emod_nonneg->Ig,fdiv_eq_ediv_of_nonneg->Xk,le_of_lt->Y7,lt_trichotomy->Ct,mul_add->iq,mul_assoc->ir,mul_comm->nI,mul_le_mul->H9,mul_le_mul_of_nonneg_left->Ar,mul_le_mul_of_nonneg_right->nk,mul_left_comm->Yz,mul_neg->Ih,mul_nonneg->uA,mul_one->vT,mul_right_comm->Cu,mul_sub->H8,mul_zero->yW,natAbs_mul->sb,natAbs_natCast->mV,natAbs_neg->ML,natCast_add->agV,natCast_ediv->Yv,natCast_emod->af5,natCast_mul->agr,natCast_pos->CB,natCast_pow->EY,natCast_zero->pr,neg_mul->E3,ofNat_sub->agU,one_mul->r8,pow_add->af2,pow_pos->Mx,pow_succ->nH,reducePow->ag1,sign_eq_neg_one_of_neg->q0,sign_eq_one_of_pos->jM,sign_mul->q1,sign_mul_natAbs->YX,sign_neg->E4,sign_sign->AH,sign_trichotomy->agQ,sub_mul->agj,sub_zero->Mn,tdiv_eq_ediv_of_nonneg->Av,tmod_eq_emod_of_nonneg->Mo,toNat->Ex,toNat_natCast->g9,zero_add->Ie,zero_mul->AG
open List renaming all_cons->BZ,all_eq_true->ld,append_assoc->gr,append_inj->HZ,append_nil->fG,concat_eq_append->Ev,cons_append->ky,drop->ft,drop_append->oj,drop_drop->Hv,drop_eq_getElem_cons->iE,drop_eq_nil_of_le->j0,drop_left->W6,drop_length->W9,drop_set_of_lt->ub,drop_zero->nG,eq_nil_of_length_eq_zero->tX,eq_nil_or_concat->Eu,flatMap_cons->qM,flatten_cons->k5,getElem?_append->Hg,getElem?_drop->lE,getElem?_eq_getElem->bn,getElem?_eq_some_iff->dK,getElem?_map->bo,getElem_mem->nC,getElem_set_self->As,length->D,length_append->fO,length_cons->hQ,length_drop->r0,length_map->ar,length_nil->lH,length_pos_iff->CA,length_range->uj,length_set->hL,length_take->gE,mapM_cons->kr,map_cons->eu,map_nil->cR,mem_append->iF,mem_cons->hS,mem_flatMap->yE,mem_iff_getElem?->uk,mem_map->ef,mem_of_getElem?->dZ,mem_of_mem_drop->Ij,mem_of_mem_take->D9,mem_range->gQ,mem_replicate->Ia,mem_singleton->vY,nil_append->ik,range->dD,replicate->dH,replicate_succ->qC,take->fh,take_add_one->hF,take_append_drop->ui,take_left->W5,take_length->mW,take_of_length_le->dt,take_succ_cons->vx,take_zero->l3
open List.cons renaming inj->xx,injEq->bh
open Nat renaming add_assoc->qA,add_mul->qs,add_sub_cancel_left->HF,add_zero->nE,and_two_pow_sub_one_eq_mod->ae5,div_add_mod->QB,div_eq_of_lt->W8,div_le_self->agX,div_lt_iff_lt_mul->ae2,eq_zero_or_pos->jG,gcd->jw,gcd_comm->MI,le_of_lt->MK,le_refl->bM,le_trans->eZ,lt_of_le_of_lt->uz,lt_of_lt_of_le->DV,lt_or_ge->iD,min_eq_left->oO,mod_eq_of_lt->LH,mod_lt->oS,mul_comm->sT,mul_le_mul_left->agt,mul_le_mul_right->sN,mul_one->dy,pos_of_ne_zero->HI,pow_le_pow_right->xz,pow_succ->xk,reduceMul->ag0,strongRecOn->Lq,zero_add->ks,zero_le->fy,zero_mod->agW,zero_mul->Ep
open Option renaming bind_eq_bind->ho,bind_eq_some_iff->ek,bind_some->ng,map_eq_some_iff->dS,pure_def->hi
open Option.some renaming inj->mD,injEq->cl
open Prod renaming ext->ej,ext_iff->xr
open Prod.mk renaming injEq->e2
open Rat renaming divInt->lO,neg_divInt_neg->ahd
namespace Go.Mini
open Go
def LB {ι:Type}(T:ba)(g1:List Nat)(qK:List Key)(vs:List O)(ms:List (Option (Nat×List O)))(cZ:ι->(Nat->O)->Mem->Prop)(m:ι->Nat)(i:ι)(K:eT->bc->Prop)(k:List gG):eT->bc->Prop
 |.normal,st=>∃bj,m bj<m i/\g1.map st.tm=vs/\qK.map st.mem=ms/\cZ bj st.tm st.mem
 |.exit id,st=>cw T K k (.exit id) st
 |.ret,st=>cw T K k .ret st
section
variable {ι:Type} (T:ba) (g1:List Nat) (qK:List Key) (vs:List O) (ms:List (Option (Nat×List O))) (cZ:ι->(Nat->O)->Mem->Prop) (m:ι->Nat) (i:ι) (K:eT->bc->Prop) (k:List gG)
@[go_sem] def aMQ (id:Nat)(st:bc):LB T g1 qK vs ms cZ m i K k (.exit id) st=cw T K k (.exit id) st:=bq
@[go_sem] def aMR (st:bc):LB T g1 qK vs ms cZ m i K k .ret st=cw T K k .ret st:=bq
@[go_sem] def aMS (st:bc):LB T g1 qK vs ms cZ m i K k .normal st=∃bj,m bj<m i/\g1.map st.tm=vs/\qK.map st.mem=ms/\cZ bj st.tm st.mem:=bq
end
def da {ι:Type}{T:ba}{K:eT->bc->Prop}{k:List gG}{HB:Nat->O}{ez:Mem}{c:eh}(g1:List Nat)(qK:List Key)(cZ:ι->(Nat->O)->Mem->Prop)(m:ι->Nat)(i0:ι)(au:cZ i0 HB ez)
  (h:∀vs ms,g1.map HB=vs->qK.map ez=ms->∀i tm mem,g1.map tm=vs->qK.map mem=ms->cZ i tm mem->wp T c (cw T (LB T g1 qK vs ms cZ m i K k) []) ⟨tm,mem⟩) :
  wp T (.loop c) (cw T K k) ⟨HB,ez⟩:=by
 refine ate (λi st=>g1.map st.tm=g1.map HB/\qK.map st.mem=qK.map ez/\cZ i st.tm st.mem) m i0 ⟨rfl,rfl,au⟩ ?_;rintro i ⟨tm,mem⟩ ⟨F,G,af⟩;have:=h _ _ rfl rfl i tm mem F G af
 have I:cw T (LB T g1 qK (g1.map HB) (qK.map ez) cZ m i K k) []=cw T (HA T (λi (st:bc)=>g1.map st.tm=g1.map HB/\qK.map st.mem=qK.map ez/\cZ i st.tm st.mem) m i K k) []:=by
  funext e dQ
  cases e<;>rfl
 rw[I] at this;exact this
def wp_mono {T:ba}:∀(c:eh) (K jv:eT->bc->Prop),(∀e st,K e st->jv e st)->∀st,wp T c K st->wp T c jv st:=by
 intro c
 induction c with
 |skip=>exact λK jv h st=>h _ _
 |ops l =>
  intro K jv h st hw
  have:∀(l:List cq) (K jv:bc->Prop),(∀st,K st->jv st)->∀st,yr T K l st->yr T jv l st:=by
   intro l
   induction l with
   |nil=>exact λK jv h st=>h st
   |cons i r av =>
    intro K jv h st hw;unfold yr at hw ⊢
    split
    ·rename_i a8;rw[a8] at hw;exact hw
    ·rename_i g a8;rw[a8] at hw;simp only at hw ⊢
     split
     ·rename_i kx;rw[ab kx] at hw
      have rT:∀(K jv:bc->Prop),(∀st,K st->jv st)->gC T K i st->gC T jv i st:=by
       intro K jv h hw
       have H:∀d f args,vn T K st d f args->vn T jv st d f args:=by
        intro d f args hw;unfold vn at hw ⊢
        split
        ·rename_i aX;rw[aX] at hw;exact h _ hw
        ·rename_i aX;rw[aX] at hw;exact h _ hw
        ·rename_i aX;rw[aX] at hw;exact λr mem' aa=>h _ (hw r mem' aa)
        ·rename_i aX;rw[aX] at hw;exact h _ hw
        ·rename_i aX;rw[aX] at hw;exact h _ hw
        ·rename_i aX;rw[aX] at hw;exact hw
       unfold gC at hw ⊢
       split
       ·rename_i aX;rw[aX] at hw;exact H _ _ _ hw
       ·rename_i aX;rw[aX] at hw
        simp only at hw
        split
        ·rename_i o8;rw[o8] at hw
         simp only at hw
         split
         ·rename_i X;rw[ab X] at hw;exact h _ hw
         ·rename_i X;rw[ae X] at hw;exact hw
        ·rename_i o8
         split at hw
         ·rename_i et es WY;exact (o8 et es WY).elim
         ·exact hw
       ·rename_i aX;rw[aX] at hw
        simp only at hw
        split
        ·rename_i o8;rw[o8] at hw;exact H _ _ _ hw
        ·rename_i o8;rw[o8] at hw;exact H _ _ _ hw
        ·rename_i o8 WY
         split at hw
         ·rename_i WZ;exact (o8 _ _ WZ).elim
         ·rename_i WZ;exact (WY _ _ WZ).elim
         ·exact hw
       ·rename_i aX;rw[aX] at hw
        simp only at hw
        split
        ·rename_i o8;rw[o8] at hw;exact λb ad=>h _ (hw b ad)
        ·rename_i o8;rw[o8] at hw;exact hw
       ·rename_i F G af aS
        split at hw
        ·rename_i aX;exact (F _ _ aX).elim
        ·rename_i aX;exact (G _ _ _ _ aX).elim
        ·rename_i aX;exact (af _ _ aX).elim
        ·rename_i aX;exact (aS _ _ aX).elim
        ·split
         ·rename_i aX;rw[aX] at hw;exact h _ hw
         ·rename_i aX;rw[aX] at hw;exact hw
      exact rT _ _ (av _ _ h) hw
     ·rename_i kx;rw[ae kx] at hw;exact av _ _ h _ hw
  exact this l _ _ (λst=>h .normal st) st hw
 |mz l c =>
  intro K jv h st hw
  have:∀(l:List cq) (n:Nat) (cs:List (List Nat)) (rec:Rec) (K jv:bc->Prop),(∀st,K st->jv st)->∀st,w4 T K n l cs rec st->w4 T jv n l cs rec st:=by
   intro l
   induction l with
   |nil=>exact λn cs rec K jv h st=>h st
   |cons i r av =>
    intro n cs rec K jv h st hw;unfold w4 at hw ⊢
    split
    ·rename_i a8;rw[a8] at hw;exact hw
    ·rename_i g a8;rw[a8] at hw;simp only at hw ⊢
     split
     ·rename_i kx;rw[ab kx] at hw
      split
      ·rename_i m e X;rw[X] at hw;exact⟨hw.1,av _ _ _ _ _ h _ hw.2⟩
      ·rename_i X;rw[X] at hw;exact hw
     ·rename_i kx;rw[ae kx] at hw;exact av _ _ _ _ _ h _ hw
  exact this l 0 c _ _ _ (λst=>h .normal st) st hw
 |seq a b iha ihb =>
  intro K jv h st hw;refine iha _ _ (λe dQ aX=>?_) st hw
  cases e with
  |normal=>exact ihb _ _ h _ aX
  |exit id=>exact h _ _ aX
  |ret=>exact h _ _ aX
 |cond c a b iha ihb =>
  intro K jv h st hw;unfold wp at hw ⊢
  split
  ·rename_i t H;rw[H] at hw;simp only at hw
   split
   ·rename_i bz;rw[ab bz] at hw;exact iha _ _ h _ hw
   ·rename_i bz;rw[ae bz] at hw;exact ihb _ _ h _ hw
  ·rename_i Q
   split at hw
   ·rename_i H;exact (Q _ H).elim
   ·exact hw
 |block id c av =>
  intro K jv h st hw;refine av _ _ (λe dQ aX=>?_) st hw
  cases e with
  |normal=>exact h _ _ aX
  |exit j =>
   simp only at aX ⊢
   split
   ·rename_i ag;rw[ab ag] at aX;exact h _ _ aX
   ·rename_i ag;rw[ae ag] at aX;exact h _ _ aX
  |ret=>exact h _ _ aX
 |loop c av =>
  intro K jv h st hw;obtain⟨tR,μ,au,sQ⟩:=hw;refine⟨tR,μ,au,λst c9=>av _ _ (λe dQ aX=>?_) _ (sQ st c9)⟩
  cases e with
  |normal=>exact aX
  |exit id=>exact h _ _ aX
  |ret=>exact h _ _ aX
 |exit id=>exact λK jv h st=>h _ _
 |ret=>exact λK jv h st=>h _ _
 |ghost g c av =>
  intro K jv h st hw
  have:∀(K jv:bc->Prop),(∀st,K st->jv st)->lC K st g->lC jv st g:=by
   intro K jv h hw;unfold lC at hw
   repeat' split at hw
   all_goals first
    |exact hw.elim
    |exact⟨hw.choose,hw.choose_spec.1,h _ hw.choose_spec.2⟩
    |(
      rcases hw with hw|⟨fP,g6,gP,i,k,g,sz,off,len,cs,k',F,G,af,aS,bt,b2,hw⟩|⟨fP,g6,gP,i,k,g,sz,off,len,cs,d,F,G,af,aS,bt,b2,hw⟩
      ·exact .inl (h _ hw)
      ·exact .inr (.inl ⟨fP,g6,gP,i,k,g,sz,off,len,cs,k',F,G,af,aS,bt,b2,h _ hw⟩)
      ·exact .inr (.inr ⟨fP,g6,gP,i,k,g,sz,off,len,cs,d,F,G,af,aS,bt,b2,h _ hw⟩))
    |(
      have cj:=h _ hw;clear hw h;unfold lC
      simp_all)
  exact this _ _ (av _ _ h) hw
def HC (T:ba)(K:eT->bc->Prop)(k:List gG)(aN:bc->Prop):eT->bc->Prop
 |.normal,st=>aN st
 |.exit id,st=>cw T K k (.exit id) st
 |.ret,st=>cw T K k .ret st
@[go_sem] def aMT {T:ba}{K:eT->bc->Prop}{k:List gG}{aN:bc->Prop}(st:bc):HC T K k aN .normal st=aN st:=bq
@[go_sem] def aMU {T:ba}{K:eT->bc->Prop}{k:List gG}{aN:bc->Prop}(id:Nat)(st:bc):HC T K k aN (.exit id) st=cw T K k (.exit id) st:=bq
@[go_sem] def aMV {T:ba}{K:eT->bc->Prop}{k:List gG}{aN:bc->Prop}(st:bc):HC T K k aN .ret st=cw T K k .ret st:=bq
def aeG {T:ba}{K:eT->bc->Prop}{k:List gG}{c a:eh}{st:bc}(aN:bc->Prop)(aO:wp T a (cw T (HC T K k aN) []) st)(H:∀dQ,aN dQ->wp T c (cw T K k) dQ):wp T a (cw T K (.code c::k)) st:=by
 refine wp_mono a _ _ (λe dQ aX=>?_) st aO
 cases e with
 |normal=>exact H dQ aX
 |exit id=>exact aX
 |ret=>exact aX
def atn {T:ba}{K:eT->bc->Prop}{k:List gG}{x:Bool}{c a b:eh}{st:bc}(aN:bc->Prop)(aO:x=true->wp T a (cw T (HC T K k aN) []) st)(ad:x=false->wp T b (cw T (HC T K k aN) []) st)
  (H:∀dQ,aN dQ->wp T c (cw T K k) dQ):qE T K (.code c::k) (.M (.bool x)) a b st:=by
 cases x
 ·rw[ar5];exact aeG aN (ad rfl) H
 ·rw[ar4];exact aeG aN (aO rfl) H
attribute [go_sem] beq_true beq_false Bool.true_beq Bool.false_beq k5 List.flatten_nil fG List.headD_cons List.headD_nil List.tail_cons List.tail_nil List.contains_nil List.contains_cons Bool.not_eq_true'
section
variable {T:ba} {K:eT->bc->Prop} {k:List gG} {st:bc}
@[go_sem] def aMW (g:PN)(c:eh):wp T (.ghost g c) (cw T K k) st=lC (wp T c (cw T K k)) st g:=bq
def W0 (K:bc->Prop)(st:bc)(s k sz:Nat):O->Prop
 |.nil=>K ⟨eN st.tm s (.ref k (bQ st.mem k) sz 0 0),a4 st.mem k (bQ st.mem k) []⟩
 |_=>False
@[go_sem] def aMX (K:bc->Prop)(s k sz:Nat):lC K st (.oa s k sz)=W0 K st s k sz (st.tm s):=by
 unfold lC W0;rfl
@[go_sem] def aMY (K:bc->Prop)(s k sz:Nat):W0 K st s k sz .nil=K ⟨eN st.tm s (.ref k (bQ st.mem k) sz 0 0),a4 st.mem k (bQ st.mem k) []⟩:=bq
end
section
variable {K:bc->Prop} {st:bc}
def ato (fP i k k':Nat){g6:Nat}{gP:List O}{g sz off len:Nat}{cs:List O}(F:st.mem fP=some (g6,gP))(G:gP[i]?=some (.ref k g sz off len))(af:st.mem k=some (g,cs))(aS:k≠fP)(bt:k'≠k)(b2:k'≠fP)
  (h:K ⟨st.tm,a4 (a4 (a4 st.mem k (bQ st.mem k) []) k' (bQ st.mem k') cs) fP g6 (gP.set i (.ref k' (bQ st.mem k') sz off len))⟩):lC K st .move :=
 .inr (.inl ⟨fP,g6,gP,i,k,g,sz,off,len,cs,k',F,G,af,aS,bt,b2,h⟩)
def Cd (K:bc->Prop)(st:bc)(s k g sz off len:Nat):Option (Nat×List O)->Prop
 |some (cV,cs)=>if cV=g/\oK cs=true then (match cut cs off (len*sz) with
  |some part=>(match part.mapM (b5 0 st.mem) with
   |some ds=>K ⟨eN st.tm s (.M (.ay (chunk sz len ds))),kill st.mem k⟩
   |none=>False)
  |none=>False) else False
 |none=>False
def W1 (K:bc->Prop)(st:bc)(s:Nat):O->Prop
 |.ref k g sz off len=>Cd K st s k g sz off len (st.mem k)
 |_=>False
@[go_sem] def aMZ (s:Nat):lC K st (.freeze s)=W1 K st s (st.tm s):=by
 unfold lC W1;dsimp only
 cases hm:st.tm s with
 |ref k g sz off len=>?_
 |_=>rfl
 dsimp only;unfold Cd
 cases I:st.mem k with
 |none=>rfl
 |some x =>
  obtain⟨cV,cs⟩:=x;simp only
  by_cases H:cV=g/\oK cs=true
  ·rw[ab H,ab H];unfold b5;rw[I];simp only[H.1,if_true]
   cases yz:cut cs off (len*sz) with
   |none=>rfl
   |some part =>
    simp only
    cases aF:part.mapM (b5 0 st.mem)<;>rfl
  ·rw[ae H,ae H]
@[go_sem] def aM0 (s k g sz off len:Nat):W1 K st s (.ref k g sz off len)=Cd K st s k g sz off len (st.mem k):=bq
@[go_sem] def aM1 (mem:Mem)(k:Key):kill mem k=a4 mem k (bQ mem k) []:=bq
end
open Classical in
def bU {α:Type}(xi:α->List Data)(f:α->Option dx):List Data->Option dx:=λds=>if h:∃a,xi a=ds then f (vD h) else none
def aeH {α:Type}{xi:α->List Data}{f:α->Option dx}(inj:∀a b,xi a=xi b->a=b)(a:α):bU xi f (xi a)=f a:=by
 have h:∃b,xi b=xi a:=⟨a,rfl⟩;unfold bU;rw[dif_pos h,inj _ _ (oP h)]
def aeI {α:Type}{xi:α->List Data}{f:α->Option dx}{ds:List Data}{r:dx}(h:bU xi f ds=some r):∃a,ds=xi a/\f a=some r:=by
 unfold bU at h
 split at h
 ·rename_i Q;exact⟨_,(oP Q).symm,h⟩
 ·cases h
open Classical in
def cp (c:Prop)(r:dx):Option dx:=if c then some r else none
def aeJ {c:Prop}(h:c)(r:dx):cp c r=some r:=by unfold cp;rw[ab h]
@[go_sem] def aM2 (aL:List Data->Option dx)(args:List O)(mem:Mem):aQ aL args mem=Hz aL (args.mapM (b5 6 emp)) (args.mapM (b5 6 mem)):=bq
def map_inj {α β:Type}{f:α->β}(h:∀a b,f a=f b->a=b):∀(l fR:List α),l.map f=fR.map f->l=fR:=by
 intro l
 induction l with
 |nil=>intro fR e;cases fR<;>simp_all
 |cons a r av =>
  intro fR e
  cases fR with
  |nil=>simp at e
  |cons b Hf =>
   simp only[eu,bh] at e;rw[h _ _ e.1,av _ e.2]
def HD (l:List (FuncId×(List Data->Option dx))):FuncId->Option (List Data->Option dx):=λf=>(l.find? λp=>p.1==f).map (·.2)
def ph {P:Program}{l:List (FuncId×(List Data->Option dx))}(h:∀p∈l,qJ P p.1 p.2):∀f aL,HD l f=some aL->qJ P f aL:=by
 intro f aL aK;unfold HD at aK;rw[dS] at aK;obtain⟨p,aF,rfl⟩:=aK;have F:=List.mem_of_find?_eq_some aF;have G:=List.find?_some aF;have af:p.1=f:=by simpa using G
 exact af ▸ h p F
def bO {P:Program}:∀p∈([]:List (FuncId×(List Data->Option dx))),qJ P p.1 p.2:=by simp
def a1 {P:Program}{f:FuncId}{aL:List Data->Option dx}{l:List (FuncId×(List Data->Option dx))}(h:qJ P f aL)(ak:∀p∈l,qJ P p.1 p.2):∀p∈(f,aL)::l,qJ P p.1 p.2:=by
 intro p aF;rcases hS.1 aF with rfl|aF
 ·exact h
 ·exact ak p aF
def aeK {l7:FuncId->Option (List Data->Option dx)}{f:FuncId}{aL:List Data->Option dx}(h:l7 f=some aL):Cb l7 f=aQ aL:=by
 funext args mem
 unfold Cb;rw[h]
@[go_sem] def aM3 (mem:Mem)(k:Key)(z:List O)(b m:Nat)(new:List O):rM mem k z b .nil (some (m,new)) =
  if m*b<=140737488355328/\m<=maxLen/\new.all O.one=true then some (.ref k (bQ mem k) (D z) 0 m,some (k,bQ mem k,new)) else none:=bq
@[go_sem] def aM4 (mem:Mem)(k k':Key)(z:List O)(g sz b len m:Nat)(new:List O):rM mem k z b (.ref k' g sz 0 len) (some (m,new)) =
  if sz=(D z) then mA k' g sz len b m new (mem k') else none:=by
 unfold rM;simp
def a6 {α:Type}(enc:α->List Data)(l:List α):List O:=(l.map enc).flatten.map .M
section
variable {α:Type} {enc:α->List Data} {sz:Nat}
def atp:a6 enc []=[]:=rfl
def yL (a:α)(l:List α):a6 enc (a::l)=(enc a).map .M++a6 enc l:=by simp[a6]
def W2 (a b:List α):a6 enc (a++b)=a6 enc a++a6 enc b:=by simp[a6]
def lj (h:∀a,(enc a).length=sz)(l:List α):(a6 enc l).length=D l*sz:=by
 induction l with
 |nil=>simp[a6]
 |cons a r av=>rw[yL,fO,av,ar,h,hQ,qs,Nat.one_mul,Nat.add_comm]
def W3 (h:∀a,(enc a).length=sz){l:List α}{i:Nat}{a:α}(J:l[i]?=some a):∃p q,a6 enc l=p++((enc a).map .M++q)/\D p=i*sz/\∀b,a6 enc (l.set i b)=p++((enc b).map .M++q):=by
 have aq:=(dK.1 J).1;have lk:l[i]=a:=(dK.1 J).2
 have e:l=l.take i++a::l.drop (i+1):=by
  rw[<-lk,<-iE aq,ui]
 refine⟨a6 enc (l.take i),a6 enc (l.drop (i+1)),?_,?_,λb=>?_⟩
 ·conv=>lhs;rw[e]
  rw[W2,yL]
 ·rw[lj h,gE];congr 1;omega
 ·rw[List.set_eq_take_append_cons_drop,ab aq,W2,yL]
def Qy (h:∀a,(enc a).length=sz){l:List α}{i:Nat}{a:α}(J:l[i]?=some a){f n:Nat}(aK:f+n<=sz):cut (a6 enc l) (i*sz+f) n=some ((((enc a).map .M).drop f).take n):=by
 obtain⟨p,q,e,aF,-⟩:=W3 h J;have aO:=h a;unfold cut;rw[e,ab (by simp only[fO,ar];omega),<-aF];rw[oj,j0 (by omega)];rw[show (D p)+f-D p=f by omega,ik,oj,List.take_append]
 have:n-(((enc a).map O.M).drop f).length=0:=by simp only[r0,ar];omega
 rw[this,l3,fG]
def W4 (h:∀a,(enc a).length=sz){l:List α}{i:Nat}(J:i<D l)(b:α):k6 (a6 enc l) (i*sz) ((enc b).map .M)=a6 enc (l.set i b):=by
 obtain⟨p,q,e,aF,X⟩:=W3 h (bn J);rw[X b,e];have aO:=h l[i];have ad:=h b;unfold k6;rw[<-aF,W5,gr]
 congr 2
 rw[oj,j0 (by omega),ik,ar,show (D p)+(enc b).length-D p=(enc b).length by omega,ad,<-aO,<-ar (f:=O.M),W6]
def atq (bx:∀a,((enc a).map O.M).all O.one=true)(l:List α):(a6 enc l).all O.one=true:=by
 induction l with
 |nil=>rfl
 |cons a r av=>rw[yL,List.all_append,bx,av];rfl
def En (h:∀a,(enc a).length=sz)(bx:∀a,((enc a).map O.M).all O.one=true)(k g b:Nat)(l new:List α)(ad:(D l+D new)*b<=140737488355328)(hm:(D l)+D new<=1000000000):
  mA k g sz (D l) b (D new) (a6 enc new) (some (g,a6 enc l))=some (.ref k (g+1) sz 0 (D l+D new),some (k,g+1,a6 enc (l++new))):=by
 unfold mA;have oi:(D l)+D new<=maxLen:=eZ hm (by decide);dsimp only;rw[ab ⟨rfl,by rw[lj h];exact bM _,ad,oi,atq bx new⟩,W2,dt (by rw[lj h];exact bM _)]
def l8 (h:∀a,(enc a).length=sz)(bx:∀a,((enc a).map O.M).all O.one=true)(k g b:Nat)(l:List α)(a:α){cs:List O}(H:cs=(enc a).map .M)(ad:(D l+1)*b<=140737488355328)(hm:(D l)+1<=1000000000):
  mA k g sz (D l) b 1 cs (some (g,a6 enc l))=some (.ref k (g+1) sz 0 (D l+1),some (k,g+1,a6 enc (l++[a]))):=by
 have:=En h bx k g b l [a] ad hm;rw[H];rw[yL,atp,fG] at this;exact this
def r1 (f:O->Option Data)(aK:∀d,f (.M d)=some d)(l:List Data):(l.map O.M).mapM f=some l:=by
 induction l with
 |nil=>rfl
 |cons a r av=>simp[aK,av]
def xj:∀(l:List (List Data)),(∀e∈l,D e=sz)->chunk sz (D l) l.flatten=l:=by
 intro l
 induction l with
 |nil=>intro _;rfl
 |cons e r av =>
  intro h;have he:=h e (by simp);rw[hQ,k5,chunk];rw[<-he,W5,W6,he,av λx Q=>h x (by simp[Q])]
def pj (h:∀a,(enc a).length=sz){n k g:Nat}{mem:Mem}{l:List α}(hm:mem k=some (g,a6 enc l)):b5 (n+1) mem (.ref k g sz 0 (D l))=some (.ay (l.map enc)):=by
 unfold b5;rw[hm];simp only[if_true];unfold cut;rw[ks,lj h,ab (bM _)];simp only[nG];rw[dt (by rw[lj h];exact bM _)];unfold a6;rw[r1 _ λd=>by cases n<;>rfl]
 have:=xj (sz:=sz) (l.map enc) (by simpa using λa _=>h a);rw[ar] at this;simp[this]
end
def aeL {α:Type}(enc:α->List Data)(l:List α):oK (a6 enc l)=true:=by
 unfold oK a6;rw[ld];intro m hm;rw[ef] at hm;obtain⟨d,_,rfl⟩:=hm
 rfl
def oQ {α:Type}{enc:α->List Data}{sz:Nat}(h:∀a,(enc a).length=sz){K:bc->Prop}{st:bc}(s k g:Nat)(l:List α):
  Cd K st s k g sz 0 (D l) (some (g,a6 enc l))=K ⟨eN st.tm s (.M (.ay (l.map enc))),kill st.mem k⟩:=by
 have aa:=pj (n:=0) h (mem:=a4 st.mem k g (a6 enc l)) (k:=k) (g:=g) (l:=l) (by simp[a4]);unfold Cd;dsimp only;rw[ab ⟨rfl,aeL enc l⟩];unfold cut;rw[ks,lj h,ab (bM _)];dsimp only;rw[nG,dt (by rw[lj h];exact bM _)];unfold a6;rw[r1 _ λd=>rfl];dsimp only;have:=xj (sz:=sz) (l.map enc) (by simpa using λa _=>h a);rw[ar] at this;rw[this]
def wrap64 (x:Int)(F:-9223372036854775808<=x)(G:x<=9223372036854775807):IntKind.i64.wrap x=x:=by
 rw[IntKind.wrap_i64];omega
def aeM {α:Type}(l:List α)(i:Int)(au:0<=i)(h:i<D l):∃x,l[i.toNat]?=some x/\l.drop i.toNat=x::l.drop (i+1).toNat/\l.take (i+1).toNat=l.take i.toNat++[x]:=by
 have aq:i.toNat<D l:=by omega
 have e:(i+1).toNat=i.toNat+1:=by omega
 refine⟨l[i.toNat],bn aq,?_,?_⟩
 ·rw[e];exact iE aq
 ·rw[e];rw[hF,bn aq];rfl
def b1:List Data->List O
 | []=>[]
 |d::l => .M d::b1 l
def atr (l:List Data):b1 l=l.map .M:=by
 induction l with
 |nil=>rfl
 |cons a l av=>rw[b1,av];rfl
def WF (T:ba)(mf:bu)(aL:List Data->Option dx):Prop:=∀ds r,aL ds=some r->Nat.ble (D ds) mf.n=true/\wp T mf.body (vC mf.res r) ⟨iC (b1 ds),emp⟩
abbrev Qz:Option dx->(dx->Prop)->Prop
 |some r,aN=>aN r
 |none,_=>True
def cG {c:Prop}{r:dx}{aN:dx->Prop}(h:c->aN r):Qz (cp c r) aN:=by
 by_cases H:c
 ·rw[aeJ H];exact h H
 ·have:cp c r=none:=ae H;rw[this];trivial
def cf {T:ba}{mf:bu}{α:Type}{A:α->List Data}{f:α->Option dx}(h:∀a,Qz (f a) λr=>Nat.ble (A a).length mf.n=true/\wp T mf.body (vC mf.res r) ⟨iC (b1 (A a)),emp⟩):WF T mf (bU A f):=λds r aa=>by
 obtain⟨a,rfl,G⟩:=aeI aa;have af:=h a;rw[G] at af;exact af
class QA (a:List Data) (b:outParam (List Data)):Prop where
 e:a=b
instance {d:Data} {r:List Data}:QA (d::r) (d::r):=⟨rfl⟩
instance:QA [] []:=⟨rfl⟩
def cz {α:Type}{A:α->List Data}{f:α->Option dx}(aL:List Data->Option dx)(e:aL=bU A f)(inj:∀a b,A a=A b->a=b)(a:α){l:List Data}[ak:QA (A a) l]{c:Prop}{r:dx}(aD:f a=cp c r)(H:c):aL l=some r:=by rw[<-ak.e,e,aeH inj,aD,aeJ H]
def pk {α:Type}{A:α->List Data}{f:α->Option dx}(aL:List Data->Option dx)(e:aL=bU A f)(inj:∀a b,A a=A b->a=b)(a:α){l:List Data}[ak:QA (A a) l]{r:dx}(aD:f a=some r):aL l=some r:=by rw[<-ak.e,e,aeH inj,aD]
abbrev WP (T:ba)(mf:bu)(r:dx)(l:List O):Prop:=wp T mf.body (vC mf.res r) ⟨iC l,emp⟩
def b7 {T:ba}{c:eh}{K:eT->bc->Prop}{st:bc}(h:wp T c (cw T K []) st):wp T c K st:=pf h
def ev (x:Int)(F:-9223372036854775808<=x:=by omega)(G:x<=9223372036854775807:=by omega):IntKind.i64.wrap x=x:=wrap64 x F G
def e0 {i:Nat}(h:i<1000000000000):IntKind.i64.wrap ((i:Int)+1)=((i+1:Nat):Int):=by rw[wrap64 _ (by omega) (by omega)];omega
end Go.Mini
namespace Go.Mini
open Go Go.ChangeShapes Go.WideShapes
inductive qL where
 |int (k:IntKind)
 |bool
 |str
 |ay (e:qL)
 |st (l:List qL)
mutual
def Fit:qL->List Data->Prop
 |.int k,ds=>∃n,ds=[.int k n]/\(Lit.int k n).wf=true
 |.bool,ds=>∃b,ds=[.bool b]
 |.str,ds=>∃s,ds=[.str s]/\D s<=maxLen
 |.ay e,ds=>∃es,ds=[.ay es]/\D es<=maxLen/\∀x∈es,Fit e x
 |.st l,ds=>Fits l ds
def Fits:List qL->List Data->Prop
 | [],ds=>ds=[]
 |s::r,ds=>∃a b,ds=a++b/\Fit s a/\Fits r b
end
def LC (P:Program):Nat->List Field->Nat->Bool
 |off,[],tot=>off==tot
 |off,f::r,tot=>f.offset==off&&LC P (off+P.cellsOf f.type) r tot
def LD (g:TypeId->Option qL):List Field->Option (List qL)
 | []=>some []
 |f::r=>match g f.type,LD g r with
  |some s,some l=>some (s::l)
  |_,_=>none
def sR (P:Program):Nat->TypeId->Option qL
 |0,_=>none
 |n+1,t=>match P.underlying t with
  |some .bool=>some .bool
  |some (.int k)=>some (.int k)
  |some .string=>some .str
  |some (.slice e)=>if 0<P.cellsOf e then (sR P n e).map .ay else none
  |some (.struct dJ)=>if LC P 0 dJ.toList (P.cellsOf t)=true then (LD (sR P n) dJ.toList).map .st else none
  |_=>none
section
variable {hR:Type} {enc:TypeId×Value->hR} {P:Program} {w:World} {base:Nat}
def LF (enc:TypeId×Value->hR)(P:Program)(w:World)(base:Nat)(S:qL)(fuel:Nat)(t:TypeId)(cs:List Value)(x:DataW hR×List MemPlace):Prop :=
 (∃ds,Fit S ds/\z9 w (λ_=>False) ds cs)/\(∀p∈x.2,p.block<w.heap.size) /\
 ∀(aT:World) (sp:Nat->Bool),(∀p∈x.2,sp p.block=true)->(∀b,b<w.heap.size->aT.heap[b]?=w.heap[b]?)->DataW.trod enc P aT base sp true fuel t cs=some x
def LG {a2:Nat->Prop}{d:Data}{v:Value}(h:Den w a2 d v):z9 w a2 [d] [v]:=by
 refine⟨rfl,λi xb D5 F G=>?_⟩
 cases i with
 |zero=>cases F;cases G;exact h
 |succ i=>simp at F
def aeN (a:Addr)(i:Nat):(a.add i).block=a.block:=by
 unfold Addr.add
 split<;>rfl
def add_plain (b off i:Nat):(Addr.add ⟨b,off,none⟩ i)=⟨b,off+i,none⟩:=by
 unfold Addr.add
 split
 ·rename_i h;subst h;rfl
 ·rfl
def aeO {aT:World}{a:Addr}{n:Nat}{cs:List Value}(h:w.cells? base a n=some cs)(I:∀b,b<w.heap.size->aT.heap[b]?=w.heap[b]?):aT.cells? base a n=some cs:=by
 unfold World.cells? at h ⊢
 split at h
 ·rename_i ad;rw[ab ad,<-h]
  by_cases aq:a.block<w.heap.size
  ·have he:(λi=>aT.cell? (a.add i))=λi=>w.cell? (a.add i):=by
    funext i
    exact World.cell?_of_block (a:=a.add i) (I _ (by rw[aeN];exact aq))
   rw[he]
  ·cases n with
   |zero=>rfl
   |succ n =>
    exfalso
    have:w.cell? (a.add 0)=none:=by
     unfold World.cell?;have:w.heap[(a.add 0).block]?=none:=Array.getElem?_eq_none (by rw[aeN];omega);rw[this]
    rw[List.range_succ_eq_map,kr,this] at h
    cases h
 ·cases h
def W7 {a:Addr}{n:Nat}{cs:List Value}(h:w.cells? base a n=some cs):(D cs)=n/\∀i,i<n->∃v,cs[i]?=some v/\w.cell? (a.add i)=some v:=by
 unfold World.cells? at h
 split at h
 ·obtain⟨F,G⟩:=oM h;rw[uj] at F;refine⟨F,λi J=>?_⟩;have H:=bn (l:=cs) (i:=i) (by omega);exact⟨_,H,G i i _ (by simp[J]) H⟩
 ·cases h
def ats {a:Addr}{v:Value}(h:w.cell? a=some v):a.block<w.heap.size/\a.spot=none:=by
 unfold World.cell? at h
 split at h
 ·rename_i ad;refine⟨(Array.getElem?_eq_some_iff.1 ad).1,?_⟩
  cases X:a.spot with
  |none=>rfl
  |some x=>rw[X] at h;simp at h
 ·cases h
def mapM_congr {α β:Type}{f g:α->Option β}:∀{l:List α},(∀x∈l,f x=g x)->l.mapM f=l.mapM g:=by
 intro l
 induction l with
 |nil=>intro _;rfl
 |cons a r av =>
  intro h;rw[kr,kr,h a (by simp),av λx Q=>h x (by simp[Q])]
def att {β:Type}(len:Nat)(aN:Nat->β->Prop)(h:∀i,i<len->∃y,aN i y):∃l:List β,D l=len/\∀i y,l[i]?=some y->aN i y:=by
 induction len with
 |zero=>exact⟨[],rfl,λi y h=>by simp at h⟩
 |succ n av =>
  obtain⟨l,F,G⟩:=av λi J=>h i (by omega);obtain⟨y,al⟩:=h n (by omega);refine⟨l++[y],by simp[F],λi z aV=>?_⟩
  rw[Hg] at aV
  split at aV
  ·exact G i z aV
  ·rename_i aq
   have:i-D l=0:=by
    have:=(dK.1 aV).1;simp at this;omega
   rw[this] at aV
   cases aV;have:i=n:=by omega
   subst this;exact al
def atu {β:Type}{sz:Nat}:∀(es:List (List β)),(∀e∈es,D e=sz)->0<sz->∀(i:Nat) (d:β),es.flatten[i]?=some d->∃e,es[i/sz]?=some e/\e[i%sz]?=some d:=by
 intro es
 induction es with
 |nil=>intro _ _ i d h;simp at h
 |cons e r av =>
  intro h aV i d Y;have he:=h e (by simp);rw[k5,Hg] at Y
  split at Y
  ·rename_i aq;rw[he] at aq;refine⟨e,by rw[W8 aq];rfl,by rw[LH aq];exact Y⟩
  ·rename_i ca;rw[he] at Y ca;obtain⟨x,F,G⟩:=av (λy al=>h y (by simp[al])) aV _ d Y;have J:i=(i-sz)+sz:=by omega
   refine⟨x,?_,?_⟩
   ·rw[J,Nat.add_div_right _ aV]
    simpa using F
   ·rw[J,Nat.add_mod_right];exact G
def atv {n fuel:Nat}(av:∀t S,sR P n t=some S->∀(cs:List Value) (x:DataW hR×List MemPlace),DataW.trod enc P w base (λ_=>true) true fuel t cs=some x->LF enc P w base S fuel t cs x)(cs:List Value):
  ∀(dJ:List Field) (off:Nat) (l:List qL) (xs:List (DataW hR×List MemPlace)),LD (sR P n) dJ=some l->LC P off dJ (D cs)=true ->
   dJ.mapM (λf=>DataW.trod enc P w base (λ_=>true) true fuel f.type ((cs.drop f.offset).take (P.cellsOf f.type)))=some xs ->
   (∃ds,Fits l ds/\z9 w (λ_=>False) ds (cs.drop off))/\(∀p∈xs.flatMap (·.2),p.block<w.heap.size) /\
   ∀(aT:World) (sp:Nat->Bool),(∀p∈xs.flatMap (·.2),sp p.block=true)->(∀b,b<w.heap.size->aT.heap[b]?=w.heap[b]?) ->
    dJ.mapM (λf=>DataW.trod enc P aT base sp true fuel f.type ((cs.drop f.offset).take (P.cellsOf f.type)))=some xs:=by
 intro dJ
 induction dJ with
 |nil =>
  intro off l xs ak bz Q;simp only[LD,cl] at ak;subst ak;simp only[LC,beq_iff_eq] at bz;simp only[List.mapM_nil,hi,cl] at Q;subst Q;refine⟨⟨[],rfl,?_⟩,by simp,λ_ _ _ _=>rfl⟩
  rw[bz,W9];exact⟨rfl,λi d v h=>by simp at h⟩
 |cons f r ihf =>
  intro off l xs ak bz Q;unfold LD at ak
  split at ak
  ·rename_i s fR X P0
   cases ak;simp only[LC,eQ,beq_iff_eq] at bz;obtain⟨Wq,bz⟩:=bz;rw[kr] at Q;simp only[hi,ho,ek,cl] at Q;obtain⟨x,sS,ys,atw,rfl⟩:=Q;obtain⟨⟨Xa,Xb,HE⟩,atx,aty⟩:=av _ _ X _ _ sS;obtain⟨⟨Eo,lh,eO⟩,atz,atA⟩:=ihf _ _ _ P0 bz atw;refine⟨⟨Xa++Eo,⟨Xa,Eo,rfl,Xb,lh⟩,?_⟩,?_,?_⟩
   ·have adz:cs.drop off=(cs.drop off).take (P.cellsOf f.type)++cs.drop (off+P.cellsOf f.type):=by
     rw[<-Hv,ui]
    rw[Wq] at HE;rw[adz];refine⟨by rw[fO,fO,HE.1,eO.1],λi d v F G=>?_⟩
    rw[Hg] at F G;have hlen:=HE.1
    by_cases aq:i<D Xa
    ·rw[ab aq] at F;rw[ab (by omega)] at G;exact HE.2 i d v F G
    ·rw[ae aq] at F;rw[ae (by omega),hlen] at G;exact eO.2 _ d v F G
   ·intro p aF;rw[qM,iF] at aF;exact aF.elim (atx p) (atz p)
   ·intro aT sp ja I;rw[kr,aty aT sp (λp aF=>ja p (by rw[qM,iF];exact .inl aF)) I];have:=atA aT sp (λp aF=>ja p (by rw[qM,iF];exact .inr aF)) I;simp only[hi,ho,ng];rw[this]
    rfl
  ·cases ak
def atB:∀(n:Nat) (t:TypeId) (S:qL),sR P n t=some S->∀(fuel:Nat) (cs:List Value) (x:DataW hR×List MemPlace),DataW.trod enc P w base (λ_=>true) true fuel t cs=some x->LF enc P w base S fuel t cs x:=by
 intro n
 induction n with
 |zero=>intro t S h;simp[sR] at h
 |succ n av =>
  intro t S cB fuel cs x Q
  cases fuel with
  |zero=>cases Q
  |succ fuel =>
   unfold sR at cB
   split at cB
   ·-- bool
    rename_i hu
    cases cB
    have key:∀(aT:World) (sp:Nat->Bool) (cs:List Value),DataW.trod enc P aT base sp true (fuel+1) t cs=match cs with|[.bool b]=>some (.lit (.bool b),[])|_=>none:=by
     intro aT sp cs;unfold DataW.trod;rw[hu];clear Q
     split<;>simp_all
    rw[key] at Q
    split at Q
    ·cases Q;exact⟨⟨_,⟨_,rfl⟩,LG .bool⟩,by simp,λaT sp _ _=>by rw[key]⟩
    ·cases Q
   ·-- int
    rename_i k hu
    cases cB
    have key:∀(aT:World) (sp:Nat->Bool) (cs:List Value),DataW.trod enc P aT base sp true (fuel+1) t cs=match cs with|[.int k' n]=>if k'=k/\(Lit.int k n).wf=true then some (.lit (.int k n),[]) else none|_=>none:=by
     intro aT sp cs;unfold DataW.trod;rw[hu];clear Q
     split<;>simp_all
    rw[key] at Q
    split at Q
    ·split at Q
     ·rename_i H
      cases Q;obtain⟨rfl,aeP⟩:=H;exact⟨⟨_,⟨_,rfl,aeP⟩,LG .int⟩,by simp,λaT sp _ _=>by rw[key];simp[aeP]⟩
     ·cases Q
    ·cases Q
   ·-- string
    rename_i hu
    cases cB
    have key:∀(aT:World) (sp:Nat->Bool) (cs:List Value),DataW.trod enc P aT base sp true (fuel+1) t cs=match cs with|[.string s]=>if s.size<=maxLen then some (.lit (.string s.data.toList),[]) else none|_=>none:=by
     intro aT sp cs;unfold DataW.trod;rw[hu];clear Q
     split<;>simp_all
    rw[key] at Q
    split at Q
    ·rename_i s
     split at Q
     ·rename_i H
      cases Q;refine⟨⟨[.str s.data.toList],⟨_,rfl,?_⟩,LG ?_⟩,by simp,λaT sp _ _=>by rw[key];simp[H]⟩
      ·rw[Array.length_toList];exact H
      ·have:Den w (λ_=>False) (.str s.data.toList) (.string ⟨s.data.toList.toArray⟩):=.str
       simpa using this
     ·cases Q
    ·cases Q
   ·-- slice
    rename_i e hu
    split at cB
    ·rename_i H;rw[dS] at cB;obtain⟨S,cB,rfl⟩:=cB
     have key:∀(aT:World) (sp:Nat->Bool) (cs:List Value),DataW.trod enc P aT base sp true (fuel+1) t cs=match cs with
      | [.slice none 0 0]=>some (.nil,[])
      | [.slice (some a) len cap] =>
       if base<=a.block/\len<=cap/\cap<=maxLen then
        ((
         dD len).mapM λi=>(aT.cells? base (a.add (i*P.cellsOf e)) (P.cellsOf e)).bind (DataW.trod enc P aT base sp true fuel e)).bind λelems =>
         (if sp a.block then (dD (cap-len)).mapM λj=>(aT.cells? base (a.add ((len+j)*P.cellsOf e)) (P.cellsOf e)).bind (DataW.trod enc P aT base sp true fuel e) else some []).map λrest =>
          (.slice (elems.map (·.1)) (rest.map (·.1)),MemPlace.row a ((D elems+D rest)*P.cellsOf e)++(elems++rest).flatMap (·.2))
       else none
      |_=>none:=by
      intro aT sp cs
      conv=>lhs;unfold DataW.trod
      rw[hu];clear Q
      split<;>simp_all
     rw[key] at Q
     split at Q
     ·cases Q;exact⟨⟨[.ay []],⟨_,rfl,fy _,by simp⟩,LG .l0⟩,by simp,λaT sp _ _=>by rw[key];rfl⟩
     ·rename_i a len cap
      split at Q
      ·rename_i ad;rw[ek] at Q;obtain⟨elems,he,Q⟩:=Q;rw[dS] at Q;obtain⟨rest,aa,rfl⟩:=Q;rw[ab rfl] at aa;obtain⟨k9,atC⟩:=oM he;obtain⟨b0,atD⟩:=oM aa;rw[uj] at k9 b0
       -- each place
       have bH:∀i y,(i<len->elems[i]?=some y)->(¬ i<len->i<cap/\rest[i-len]?=some y)->∃ci,w.cells? base (a.add (i*P.cellsOf e)) (P.cellsOf e)=some ci/\DataW.trod enc P w base (λ_=>true) true fuel e ci=some y:=by
        intro i y F G
        by_cases J:i<len
        ·have:=atC i i y (by simp[J]) (F J);rwa [ek] at this
        ·obtain⟨af,aS⟩:=G J;have:=atD (i-len) (i-len) y (List.getElem?_range (by omega)) aS;rw[show len+(i-len)=i by omega,ek] at this
         exact this
       have fQ:0<D elems+(D rest)->a.block<w.heap.size/\a.spot=none:=by
        intro aF;have au:0<cap:=by omega
        have:∃y,(0<len->elems[0]?=some y)/\(¬ 0<len->0<cap/\rest[0-len]?=some y):=by
         by_cases ak:0<len
         ·exact⟨elems[0],λ_=>bn _,λh=>absurd ak h⟩
         ·exact⟨rest[0],λh=>absurd h ak,λ_=>⟨au,by rw[Nat.zero_sub];exact bn _⟩⟩
        obtain⟨y,F,G⟩:=this;obtain⟨ci,kM,-⟩:=bH 0 y F G;obtain⟨v,-,aA⟩:=(W7 kM).2 0 H;have:=ats aA;rw[Ep] at this;have bZ:(a.add 0).add 0=a:=by unfold Addr.add;simp
        rw[bZ] at this;exact this
       have oR:∀i y,(i<len->elems[i]?=some y)->(¬ i<len->i<cap/\rest[i-len]?=some y)->∃ci,w.cells? base (a.add (i*P.cellsOf e)) (P.cellsOf e)=some ci/\LF enc P w base S fuel e ci y:=by
        intro i y F G;obtain⟨ci,af,aS⟩:=bH i y F G;exact⟨ci,af,av e S cB fuel ci y aS⟩
       have Xc:∀(i:Nat) y,elems[i]?=some y->∃ci,w.cells? base (a.add (i*P.cellsOf e)) (P.cellsOf e)=some ci/\LF enc P w base S fuel e ci y :=
        λi y al=>oR i y (λ_=>al) (λh=>absurd (by have:=(dK.1 al).1;omega) h)
       have aeQ:∀(j:Nat) y,rest[j]?=some y->∃ci,w.cells? base (a.add ((len+j)*P.cellsOf e)) (P.cellsOf e)=some ci/\LF enc P w base S fuel e ci y :=
        λj y al=>oR (len+j) y (λh=>by omega) (λ_=>⟨by have:=(dK.1 al).1;omega,by rwa [HF]⟩)
       refine⟨?_,?_,?_⟩
       ·obtain⟨es,Xd,heq⟩:=att len (λi (ds:List Data)=>∃ci,w.cells? base (a.add (i*P.cellsOf e)) (P.cellsOf e)=some ci/\Fit S ds/\z9 w (λ_=>False) ds ci) λi J=>by
         obtain⟨ci,F,⟨ds,G,af⟩,-,-⟩:=Xc i _ (bn (by omega));exact⟨ds,ci,F,G,af⟩
        refine⟨[.ay es],⟨es,rfl,by omega,λy al=>?_⟩,LG ?_⟩
        ·obtain⟨i,J⟩:=uk.1 al;obtain⟨ci,-,h,-⟩:=heq i y J;exact h
        ·by_cases ak:len=0
         ·rw[ak] at Xd ⊢;rw[tX Xd];exact .l0
         ·obtain⟨lh,eO⟩:=fQ (by omega);obtain⟨b,off,spot⟩:=a;simp only at lh eO;subst eO
          have e6:∀y∈es,D y=P.cellsOf e:=by
           intro y al;obtain⟨i,J⟩:=uk.1 al;obtain⟨ci,F,-,G⟩:=heq i y J;rw[<-G.1,(W7 F).1]
          have hT:∀(i:Nat) (d:Data),es.flatten[i]?=some d->∃v,w.cell? ⟨b,off+i,none⟩=some v/\Den w (λ_=>False) d v:=by
           intro i d Y;obtain⟨y,F,G⟩:=atu es e6 H i d Y;obtain⟨ci,af,-,aS⟩:=heq _ y F;have hm:i%P.cellsOf e<P.cellsOf e:=oS _ H;obtain⟨v,bt,b2⟩:=(W7 af).2 _ hm;rw[add_plain,add_plain,qA,sT,QB] at b2;exact⟨v,b2,aS.2 _ d v G bt⟩
          rw[<-Xd];refine .ay (sz:=P.cellsOf e) (λi=>(w.cell? ⟨b,off+i,none⟩).getD undef) (by omega) (by omega) lh (λh=>h) e6 (λi J=>?_) λi d Y=>?_
          ·have aq:i<D es.flatten:=by rw[PL e6];exact J
           obtain⟨v,aA,-⟩:=hT i _ (bn aq);rw[aA]
           rfl
          ·obtain⟨v,aA,nB⟩:=hT i d Y;rw[aA];exact nB
       ·intro p aF;simp only[iF] at aF;rcases aF with aF|aF
        ·unfold MemPlace.row at aF;rw[ef] at aF;obtain⟨i,J,rfl⟩:=aF;rw[gQ] at J
         have:0<D elems+D rest:=by
          rcases jG (D elems+D rest) with h|h
          ·rw[h,Ep] at J;omega
          ·exact h
         exact (fQ this).1
        ·rw[yE] at aF;obtain⟨y,al,aF⟩:=aF;rw[iF] at al;rcases al with al|al
         ·obtain⟨i,J⟩:=uk.1 al;obtain⟨ci,-,h⟩:=Xc i y J;exact h.2.1 p aF
         ·obtain⟨i,J⟩:=uk.1 al;obtain⟨ci,-,h⟩:=aeQ i y J;exact h.2.1 p aF
       ·intro aT sp ja I;rw[key];simp only;rw[ab ad]
        have fo:0<D elems+(D rest)->sp a.block=true:=by
         intro aF
         have:=ja (.cell a.block (a.off+0)) (by
          rw[iF]
          left
          unfold MemPlace.row;rw[ef];exact⟨0,by rw[gQ];exact Nat.mul_pos aF H,rfl⟩)
         exact this
        have atE:(dD len).mapM (λi=>(aT.cells? base (a.add (i*P.cellsOf e)) (P.cellsOf e)).bind (DataW.trod enc P aT base sp true fuel e))=some elems:=by
         rw[<-he];refine mapM_congr λi J=>?_;rw[gQ] at J;have al:=bn (l:=elems) (i:=i) (by omega);obtain⟨ci,F,G⟩:=Xc i _ al;rw[aeO F I,F];simp only[ng];obtain⟨atF,af,aS⟩:=bH i _ (λ_=>al) (λh=>absurd J h);rw[F] at af
         cases af;rw[aS]
         exact G.2.2 aT sp (λp aF=>ja p (by
          rw[iF];right
          rw[yE];exact⟨_,iF.2 (.inl (dZ al)),aF⟩)) I
        have atG:(dD (cap-len)).mapM (λj=>(aT.cells? base (a.add ((len+j)*P.cellsOf e)) (P.cellsOf e)).bind (DataW.trod enc P aT base sp true fuel e))=some rest:=by
         rw[<-aa];refine mapM_congr λj ag=>?_;rw[gQ] at ag;have al:=bn (l:=rest) (i:=j) (by omega);obtain⟨ci,F,G⟩:=aeQ j _ al;rw[aeO F I,F];simp only[ng];obtain⟨atF,af,aS⟩:=bH (len+j) rest[j] (λh=>by omega) (λ_=>⟨by omega,by rw[HF];exact al⟩);rw[F] at af
         cases af;rw[aS]
         exact G.2.2 aT sp (λp aF=>ja p (by
          rw[iF];right
          rw[yE];exact⟨_,iF.2 (.inr (dZ al)),aF⟩)) I
        rw[atE];simp only[ng]
        cases X:sp a.block with
        |true=>simp only[if_true];rw[atG];rfl
        |false =>
         have aV:¬ 0<D elems+D rest:=λh=>by rw[fo h] at X;cases X
         have:rest=[]:=tX (by omega);subst this
         rfl
      ·cases Q
     ·cases Q
    ·cases cB
   ·-- struct
    rename_i dJ hu
    split at cB
    ·rename_i bz;rw[dS] at cB;obtain⟨l,ak,rfl⟩:=cB
     have key:∀(aT:World) (sp:Nat->Bool),DataW.trod enc P aT base sp true (fuel+1) t cs =
       if (D cs)=P.cellsOf t then (dJ.toList.mapM λf=>DataW.trod enc P aT base sp true fuel f.type ((cs.drop f.offset).take (P.cellsOf f.type))).map λxs=>(.agg (xs.map (·.1)),xs.flatMap (·.2)) else none:=by
      intro aT sp
      conv=>lhs;unfold DataW.trod
      rw[hu]
     rw[key] at Q
     split at Q
     ·rename_i hlen;rw[dS] at Q;obtain⟨xs,B9,rfl⟩:=Q;rw[<-hlen] at bz;obtain⟨F,G,af⟩:=atv (λt S h cs x Q=>av t S h fuel cs x Q) cs dJ.toList 0 l xs ak bz B9;refine⟨?_,G,λaT sp ja I=>?_⟩
      ·obtain⟨ds,aK,Y⟩:=F;exact⟨ds,aK,by simpa using Y⟩
      ·rw[key,ab hlen,af aT sp ja I]
       rfl
     ·cases Q
    ·cases cB
   ·cases cB
end
end Go.Mini
namespace Go.Mini
open Go Go.ChangeShapes Go.WideShapes Go.RowKit
def aeR:qL->Data->Prop
 |.st l,d=>∃cs,d=.agg cs/\Fits l cs
 |s,d=>Fit s [d]
def QC:List qL->List Data->Prop
 | [],ds=>ds=[]
 |s::r,ds=>∃d t,ds=d::t/\aeR s d/\QC r t
section
variable {hR:Type} {enc:TypeId×Value->hR} {P:Program} {w:World}
def atH {a2:Nat->Prop}{d:Data}{v:Value}{ds:List Data}{vs:List Value}(h:Den w a2 d v)(X:z9 w a2 ds vs):z9 w a2 (d::ds) (v::vs):=by
 refine⟨by simp[X.1],λi xb D5 F G=>?_⟩
 cases i with
 |zero=>cases F;cases G;exact h
 |succ i=>exact X.2 i xb D5 (by simpa using F) (by simpa using G)
def atI {n:Nat}{t:TypeId}{S:qL}{v:Value}{d:DataW hR}{ps:List MemPlace}{sU:Nat}(cB:sR P n t=some S)(hT:Value.okWide P w .any sU t v)(h:DataW.Trod enc P w 0 (λ_=>true) true t v d ps):
  (∃b8,aeR S b8/\Den w (λ_=>False) b8 v)/\(∀p∈ps,p.block<w.heap.size) /\
  ∀(aT:World) (sp:Nat->Bool),(∀p∈ps,sp p.block=true)->(∀b,b<w.heap.size->aT.heap[b]?=w.heap[b]?)->DataW.Trod enc P aT 0 sp true t v d ps:=by
 obtain⟨fuel,Q⟩:=h;obtain⟨⟨ds,aK,Y⟩,G,af⟩:=atB n t S cB fuel _ _ Q;refine⟨?_,G,λaT sp ja I=>⟨fuel,af aT sp ja I⟩⟩
 have one:(∀cs,v ≠ .agg cs)->∀d,ds=[d]->Den w (λ_=>False) d v:=by
  intro aA d e;subst e;have:v.cells=#[v]:=by unfold Value.cells;split<;>simp_all
  rw[this] at Y;exact Y.2 0 d v rfl rfl
 cases n with
 |zero=>simp[sR] at cB
 |succ n =>
  unfold sR at cB;unfold Value.okWide at hT
  split at cB
  ·rename_i hu
   cases cB;rw[hu] at hT;obtain⟨b,rfl⟩:=aK;refine⟨_,⟨b,rfl⟩,one ?_ _ rfl⟩;rintro cs rfl;simp[Cell.okWide,Cell.ok,hu] at hT
  ·rename_i k hu
   cases cB;rw[hu] at hT;obtain⟨b,rfl,ad⟩:=aK;refine⟨_,⟨b,rfl,ad⟩,one ?_ _ rfl⟩;rintro cs rfl;simp[Cell.okWide,Cell.ok,hu] at hT
  ·rename_i hu
   cases cB;rw[hu] at hT;obtain⟨b,rfl,ad⟩:=aK;refine⟨_,⟨b,rfl,ad⟩,one ?_ _ rfl⟩;rintro cs rfl;simp[Cell.okWide,Cell.ok,hu] at hT
  ·rename_i e hu
   split at cB
   ·rw[dS] at cB;obtain⟨S,cB,rfl⟩:=cB;rw[hu] at hT;obtain⟨b,rfl,ad⟩:=aK;refine⟨_,⟨b,rfl,ad⟩,one ?_ _ rfl⟩;rintro cs rfl;simp[Cell.okWide,Cell.ok,hu] at hT
   ·cases cB
  ·rename_i dJ hu
   split at cB
   ·rw[dS] at cB;obtain⟨l,ak,rfl⟩:=cB;rw[hu] at hT;obtain⟨cs,rfl,-,-⟩:=hT;refine⟨.agg ds,⟨ds,rfl,aK⟩,?_⟩;have:Den w (λ_=>False) (.agg ds) (.agg cs.toList.toArray):=.agg Y.1 Y.2
    simpa using this
   ·cases cB
  ·cases cB
def Xe {n sU:Nat}:∀{tU:List TypeId} {schs:List qL} {vs:List Value} {ds:List (DataW hR)} {ps:List MemPlace},tU.mapM (sR P n)=some schs->(∀(j:Nat) t v,tU[j]?=some t->vs[j]?=some v->Value.okWide P w .any sU t v) ->
  DataW.TrodAll enc P w 0 (λ_=>true) true tU vs ds ps ->
  (∃sV,QC schs sV/\z9 w (λ_=>False) sV vs)/\(∀p∈ps,p.block<w.heap.size) /\
  ∀(aT:World) (sp:Nat->Bool),(∀p∈ps,sp p.block=true)->(∀b,b<w.heap.size->aT.heap[b]?=w.heap[b]?)->DataW.TrodAll enc P aT 0 sp true tU vs ds ps
 | [],schs,vs,ds,ps,cB,hT,h=>by
  obtain⟨rfl,rfl,rfl⟩:=trodAll_nil h;simp at cB;subst cB;exact⟨⟨[],rfl,rfl,λi d v h=>by simp at h⟩,by simp,λ_ _ _ _=>rfl⟩
 |t::tU,schs,vs,ds,ps,cB,hT,h=>by
  obtain⟨v,atJ,d,atK,a,b,rfl,rfl,rfl,F,G⟩:=trodAll_cons h;rw[kr] at cB;simp only[hi,ho,ek,cl] at cB;obtain⟨S,atL,l,ak,rfl⟩:=cB;obtain⟨⟨b8,mL,atM⟩,iG,bS⟩:=atI atL (hT 0 t v rfl rfl) F;obtain⟨⟨sV,atN,atO⟩,h9,cM⟩:=Xe ak (λj atP D5 bz aA=>hT (j+1) atP D5 (by simpa using bz) (by simpa using aA)) G;refine⟨⟨b8::sV,⟨b8,sV,rfl,mL,atN⟩,atH atM atO⟩,λp aF=>?_,λaT sp ja I=>?_⟩
  ·rw[iF] at aF;exact aF.elim (iG p) (h9 p)
  ·exact trodAll_cons_mk (bS aT sp (λp aF=>ja p (iF.2 (.inl aF))) I) (cM aT sp (λp aF=>ja p (iF.2 (.inr aF))) I)
def atQ {W sW:World}(h:Fr (λ_=>False) W sW)(may:MemPlace->Prop):W.keptBut sW may:=by
 refine⟨h.os,h.output,λi J=>?_⟩;rw[h.block i J id]
 cases ad:W.heap[i]? with
 |none=>trivial
 |some o =>
  cases o with
  |cells c t aE=>exact⟨rfl,rfl,rfl,λ_ _=>rfl⟩
  |map es clock=>exact .inr ⟨rfl,rfl⟩
  |_=>rfl
def atS {f:Func}{s:ChangeSpec}{apart fresh handsOn again:Bool}{W sW:World}{args:Array Value}{ds gs:List (DataW hR)}{before:List MemPlace}{n sU:Nat}{schs:List qL}{LI:TypeId}
  (sX:DataW.Whole enc P f.params.toList s.vars apart W args.toList ds gs before) (aA:s.vars=[]) (cB:f.params.toList.mapM (sR P n)=some schs)
  (hT:∀(j:Nat) t v,f.params[j]?=some t->args[j]?=some v->Value.okWide P W .any sU t v)
  (aa:f.resultTypes=#[LI]) (ad:P.underlying LI=some .bool) (jK:s.fn hR ds={ results:=[.lit (.bool true)],args:=ds }) (aK:Fr (λ_=>False) W sW) :
  s.post enc P f apart fresh handsOn again W args (.bool true) sW:=by
 have Xf:=sX;obtain⟨p,q,dn,r2,rfl,aV,aH⟩:=sX;rw[aA] at r2;obtain⟨rfl,rfl⟩:=trodVars_none r2;obtain⟨-,aq,I⟩:=Xe cB (λj t v bz aA=>hT j t v (by simpa using bz) (by simpa using aA)) dn;have aeS:∀b,b<W.heap.size->sW.heap[b]?=W.heap[b]?:=λb ad=>aK.block b ad id
 have yJ:∀(b:Nat) (sp:Nat->Bool) (Y:Bool),DataW.TrodAll enc P sW b sp Y f.resultTypes.toList ((Value.bool true).resultList f.resultTypes.size) (s.fn hR (ds++[])).results []:=by
  intro b sp Y;rw[fG,jK,aa];exact trodAll_cons_mk (shut_bool ad true) trodAll_mk0
 have og:∀sp:Nat->Bool,(∀x∈p,sp x.block=true)->DataW.TrodAll enc P sW 0 sp true f.params.toList args.toList (s.fn hR (ds++[])).args p:=by
  intro sp ja;rw[fG,jK];exact I sW sp ja aeS
 have aeT:∀sp:Nat->Bool,DataW.TrodVars enc P sW sp s.vars (s.fn hR (ds++[])).vars []:=by
  intro sp;rw[aA,fG,jK]
  rfl
 refine⟨ds,[],p++[],[],p,[],Xf,yJ _ _ _,og _ (λx Q=>by simpa using aq x Q),aeT _,atQ aK _,λ_=>⟨?_,_,_,([]++p)++[],⟨[]++p,[],trodAll_append (og _ (λ_ _=>rfl)) (yJ _ _ _),aeT _,rfl,?_,?_⟩,?_⟩⟩
 ·intro j t r F G;rw[aa] at F G
  cases j with
  |zero =>
   simp[Value.resultList] at F G;subst F G;exact okWide_bool_mk ad true
  |succ j=>simp at F
 ·intro b off aF;have aeU:MemPlace.cell b off∈p:=by simpa using aF
  have ad:=aq _ aeU;have au:=aV b off (by simpa using aeU);unfold World.frozen? at au ⊢;rw[aeS b ad];exact au
 ·intro aO;have:=aH aO
  simpa using this
 ·intro x Q _
  simpa using Q
def atT {f:FuncId}{fn:Func}{s:ChangeSpec}{apart fresh handsOn again:Bool}{aL:List Data->Option dx}{n:Nat}{schs:List qL}{LI:TypeId}(aF:qJ P f aL)(aA:s.vars=[])(cB:fn.params.toList.mapM (sR P n)=some schs)
  (aa:fn.resultTypes=#[LI]) (ad:P.underlying LI=some .bool) (jK:∀ds:List (DataW hR),D ds=(D fn.params.toList)->s.fn hR ds={ results:=[.lit (.bool true)],args:=ds })
  {W:World} {base:Nat} {args:Array Value} {ds gs:List (DataW hR)} {before:List MemPlace}
  (eW:∀sV,QC schs sV->aL sV=some (.same (.bool true)))
  (hT:∀(j:Nat) t v,fn.params[j]?=some t->args[j]?=some v->Value.okWide P W .any base t v)
  (sX:DataW.Whole enc P fn.params.toList s.vars apart W args.toList ds gs before) :
  Calls P f args W λe sW=>∃v,e=.returned v/\s.post enc P fn apart fresh handsOn again W args v sW:=by
 have Xf:=sX;obtain⟨p,q,dn,r2,rfl,aV,aH⟩:=sX;obtain⟨⟨sV,F,G⟩,-,-⟩:=Xe cB (λj t v bz aA=>hT j t v (by simpa using bz) (by simpa using aA)) dn
 have hlen:(D ds)=D fn.params.toList:=by
  have:∀(tU:List TypeId) (vs:List Value) (ds:List (DataW hR)) (ps:List MemPlace),DataW.TrodAll enc P W 0 (λ_=>true) true tU vs ds ps->(D ds)=D tU:=by
   intro tU
   induction tU with
   |nil=>intro vs ds ps h;obtain⟨rfl,rfl,rfl⟩:=trodAll_nil h;rfl
   |cons t r av=>intro vs ds ps h;obtain⟨v,atJ,d,atK,a,b,rfl,rfl,rfl,-,G⟩:=trodAll_cons h;simp[av _ _ _ G]
  exact this _ _ _ _ dn
 have H:=aF.run sV _ (eW sV F) (λ_=>False) W args.toList (λb ad=>ad.elim) G;have aO:args.toList.toArray=args:=by simp
 rw[aO] at H;refine H.mono λe sW ⟨v,he,bw,Y⟩=>⟨v,he,?_⟩
 have:v=.bool true:=by
  have nB:Den sW (λ_=>False) (.bool true) v:=Y
  cases nB
  rfl
 subst this;exact atS Xf aA cB hT aa ad (jK ds hlen) bw
def aeV {α:Type}{l:List α}{n:Nat}(h:(D l)=n+1):∃d t,l=d::t/\D t=n:=by
 cases l with
 |nil=>simp at h
 |cons d t=>exact⟨d,t,rfl,by simpa using h⟩
def Xg {α:Type}{e:α->List Data}{good:α->Prop}:∀{es:List (List Data)},(∀x∈es,∃a,x=e a/\good a)->∃l:List α,es=l.map e/\∀a∈l,good a
 | [],_=>⟨[],rfl,by simp⟩
 |x::r,h=>by
  obtain⟨a,rfl,aO⟩:=h x (by simp);obtain⟨l,rfl,ak⟩:=Xg (es:=r) λy al=>h y (by simp[al]);exact⟨a::l,rfl,λb ad=>(hS.1 ad).elim (λe=>e ▸ aO) (ak b)⟩
end
end Go.Mini
namespace Go.Mini
open Go
def Aa (x:O)(m:Mem):O->Mem->Prop:=λr mem'=>r=x/\mem'=m
@[go_sem high] def aM5 {K:bc->Prop}(x:O)(m:Mem)(d:Option Nat)(st:bc):xc K (some (.rel (Aa x m))) d st=K ⟨put st.tm d x,m⟩:=by
 rw[ar6];apply propext;exact⟨λh=>h x m ⟨rfl,rfl⟩,λh r mem' ⟨az,aD⟩=>by rw[az,aD];exact h⟩
def Ce (bC:List O->Mem->Option (O×Mem))(args:List O)(mem:Mem):Option gB:=(bC args mem).map λx => .rel (Aa x.1 x.2)
@[go_sem] def aM6 (bC:List O->Mem->Option (O×Mem))(args:List O)(mem:Mem):Ce bC args mem=(bC args mem).map λx => .rel (Aa x.1 x.2):=bq
structure LJ (P:Program) (f:FuncId) (bC:List O->Mem->Option (O×Mem)):Prop where
 real:Real P f
 run:∀args mem x,bC args mem=some x->∀A w B vs,fs A w B mem->dg w (b4 A B) B args vs->Wz P f vs A w B mem (.rel (Aa x.1 x.2))
def HG (res:List oJ)(x:O)(m:Mem):eT->bc->Prop
 |.exit _,_=>False
 |.normal,st=>oL st res=some x/\st.mem=m
 |.ret,st=>oL st res=some x/\st.mem=m
@[go_sem] def aM7 {res:List oJ}{st:bc}(x:O)(m:Mem)(id:Nat):HG res x m (.exit id) st=False:=bq
@[go_sem] def aM8 {res:List oJ}{st:bc}(x:O)(m:Mem):HG res x m .normal st=(oL st res=some x/\st.mem=m):=bq
@[go_sem] def aM9 {res:List oJ}{st:bc}(x:O)(m:Mem):HG res x m .ret st=(oL st res=some x/\st.mem=m):=bq
def aeW {P : Program}{T : ba}{kb : Nat}{own : List Nat}(cQ : qF P T)(hm : P.follows .mixedOrders = true){f : FuncId}{fn : Func}{mf : bu}(aK : P.funcs[f]? = some fn)(uh : (fn.name == "runtime.NumGoroutine") = false)(a3 : qz P kb own fn = some { mf with body := erase mf.body })
  {bC:List O->Mem->Option (O×Mem)} (h:∀args mem x,bC args mem=some x->(D args)<=mf.n/\wp T mf.body (HG mf.res x.1 x.2) ⟨iC args,mem⟩):LJ P f bC:=by
 refine⟨?_,λargs mem x pn A w B vs bR aA=>?_⟩
 ·cases ad:fn.body with
  |none=>simp[qz,ad] at a3
  |some c=>exact⟨fn,c,aK,ad,uh⟩
 ·obtain⟨hlen,xg⟩:=h args mem x pn;refine Calls.mono (Hx (Post:=Aa x.1 x.2) cQ hm aK a3 hlen (λe st I=>?_) xg bR aA) λe aT he=>?_
  ·cases e with
   |exit id=>exact I
   |normal=>exact⟨_,I.1,rfl,I.2⟩
   |ret=>exact⟨_,I.1,rfl,I.2⟩
  ·obtain⟨v,m,mem',br,rfl,X,nb,aF⟩:=he;exact⟨v,m,mem',br,rfl,X,nb,aF⟩
def QD:Option (O×Mem)->Option gB->Option gB
 |some x,_=>some (.rel (Aa x.1 x.2))
 |none,e=>e
@[go_sem] def aNa (x:O×Mem)(e:Option gB):QD (some x) e=some (.rel (Aa x.1 x.2)):=bq
@[go_sem] def aNb (e:Option gB):QD none e=e:=bq
def Ab (aL:List Data->Option dx)(bC:List O->Mem->Option (O×Mem))(args:List O)(mem:Mem):Option gB:=QD (bC args mem) (aQ aL args mem)
@[go_sem] def aNc (aL:List Data->Option dx)(bC:List O->Mem->Option (O×Mem))(args:List O)(mem:Mem):Ab aL bC args mem=QD (bC args mem) (aQ aL args mem):=bq
open Classical in
def HH {α:Type}(bb:α->List O->Mem->Prop)(res:α->Mem->O×Mem):List O->Mem->Option (O×Mem):=λargs mem=>if h:∃a,bb a args mem then some (res (vD h) mem) else none
def aeX {α:Type}{bb:α->List O->Mem->Prop}{res:α->Mem->O×Mem}(uniq:∀a b args mem,bb a args mem->bb b args mem->res a mem=res b mem){a:α}{args:List O}{mem:Mem}(h:bb a args mem):HH bb res args mem=some (res a mem):=by
 have Q:∃b,bb b args mem:=⟨a,h⟩;unfold HH;rw[dif_pos Q,uniq _ _ _ _ (oP Q) h]
def Xh {α:Type}{bb:α->List O->Mem->Prop}{res:α->Mem->O×Mem}{args:List O}{mem:Mem}{x:O×Mem}(h:HH bb res args mem=some x):∃a,bb a args mem/\x=res a mem:=by
 unfold HH at h
 split at h
 ·rename_i Q;exact⟨_,oP Q,(mD h).symm⟩
 ·cases h
def yM:Nat->Nat->List Int
 |0,_=>[]
 |f+1,n=>if n=0 then [] else ((n%1048576:Nat):Int)::yM f (n/1048576)
def aZ (n:Nat):List Int:=yM n n
def bg:List Int->Int
 | []=>0
 |d::r=>d+1048576*bg r
def um (d:Int)(r:List Int):bg (d::r)=d+1048576*bg r:=rfl
def eX (l:List Int):Prop:=∀d∈l,0<=d/\d<1048576
def gb:List Int->List Int
 | []=>[]
 |d::r=>if gb r=[] then (if d=0 then [] else [d]) else d::gb r
def aC (n:Int):List Data:=[.int .i64 n]
def iH (b:Int):(aC b).length=1:=rfl
def vE (b:Int):((aC b).map O.M).all O.one=true:=rfl
def fq:∀a b:Int,aC a=aC b->a=b:=by intro a b h;simpa [aC] using h
def atU:∀(f g n:Nat),n<=f->n<=g->yM f n=yM g n:=by
 intro f
 induction f with
 |zero =>
      intro g n h _;obtain rfl:n=0:=by omega
      cases g<;>simp[yM]
 |succ f av =>
  intro g n F G
  cases g with
  |zero =>
       obtain rfl:n=0:=by omega
       simp[yM]
  |succ g =>
   unfold yM
   by_cases aH:n=0
   ·rw[ab aH,ab aH]
   ·rw[ae aH,ae aH,av g (n/1048576) (by omega) (by omega)]
def sY:aZ 0=[]:=rfl
def vF {n:Nat}(h:0<n):aZ n=((n%1048576:Nat):Int)::aZ (n/1048576):=by
 unfold aZ;obtain⟨k,rfl⟩:∃k,n=k+1:=⟨n-1,by omega⟩
 conv=>lhs;unfold yM
 rw[ae (by omega),atU k ((k+1)/1048576) _ (by omega) (by omega)]
def l9 (n:Nat):bg (aZ n)=n:=by
 induction n using Lq with
 |_ n av =>
  rcases jG n with rfl|h
  ·rfl
  ·rw[vF h];unfold bg;rw[av _ (by omega)];omega
def LK {a b:Nat}(h:aZ a=aZ b):a=b:=by
 have:=congrArg bg h;rw[l9,l9] at this;omega
def nh (n:Nat):eX (aZ n):=by
 induction n using Lq with
 |_ n av =>
  rcases jG n with rfl|h
  ·intro d Y;cases Y
  ·rw[vF h];intro d Y;rcases hS.1 Y with rfl|Y
   ·omega
   ·exact av _ (by omega) d Y
def Ac {n:Nat}:aZ n=[]↔n=0:=by
 constructor
 ·intro h;exact LK (b:=0) h
 ·rintro rfl;rfl
def po {l:List Int}(h:eX l):0<=bg l:=by
 induction l with
 |nil=>exact Int.le_refl _
 |cons d r av =>
  have F:=h d (by simp);have G:=av λx Q=>h x (by simp[Q]);unfold bg;omega
def Er {d:Int}{r:List Int}:eX (d::r)↔(0<=d/\d<1048576)/\eX r :=
 ⟨λh=>⟨h d (by simp),λx Q=>h x (by simp[Q])⟩,λh x Q=>(hS.1 Q).elim (λe=>e ▸ h.1) (h.2 x)⟩
def Es {a b:List Int}:eX (a++b)↔eX a/\eX b :=
 ⟨λh=>⟨λx Q=>h x (by simp[Q]),λx Q=>h x (by simp[Q])⟩,λh x Q=>(iF.1 Q).elim (h.1 x) (h.2 x)⟩
def Et (a b:List Int):bg (a++b)=bg a+1048576^(D a)*bg b:=by
 induction a with
 |nil=>simp[bg]
 |cons d r av =>
  simp only[ky,bg,av,hQ,nH];rw[iq]
  have:(1048576:Int)*(1048576^(D r)*bg b)=1048576^(D r)*1048576*bg b:=by
   rw[nI (1048576^(D r)) 1048576,ir]
  omega
def Ad {l:List Int}(h:eX l):bg l<1048576^(D l):=by
 induction l with
 |nil=>simp[bg]
 |cons d r av =>
  rw[Er] at h;have G:=av h.2;simp only[bg,hQ,nH];omega
def aeY (l:List Int):gb (l++[0])=gb l:=by
 induction l with
 |nil=>simp[gb]
 |cons d r av=>simp only[ky,gb,av]
def aeZ (l:List Int){d:Int}(h:d≠0):gb (l++[d])=l++[d]:=by
 induction l with
 |nil=>simp[gb,h]
 |cons x r av=>simp only[ky,gb,av];simp
def Ae {l:List Int}(h:eX l):gb l=aZ (bg l).toNat:=by
 induction l with
 |nil=>rfl
 |cons d r av =>
  rw[Er] at h;have aa:=av h.2;have aA:=po h.2;unfold gb;rw[aa,um]
  by_cases aV:bg r=0
  ·rw[aV]
   by_cases Y:d=0
   ·simp[Y,sY]
   ·rw[ab (by rfl),ae Y];rw[vF (by omega)];rw[show (d+1048576*0).toNat/1048576=0 by omega,sY]
    congr 1
    omega
  ·rw[ae (by rw[Ac];omega)];rw[vF (n:=(d+1048576*bg r).toNat) (by omega)]
   congr 1
   ·omega
   ·congr 1;omega
def ae0 (n:Nat):gb (aZ n)=aZ n:=by
 rw[Ae (nh n),l9];simp
def canon {l:List Int}(h:eX l)(ak:l.getLast?≠some 0):l=aZ (bg l).toNat:=by
 rw[<-Ae h];rcases Eu l with rfl|⟨r,d,rfl⟩
 ·rfl
 ·rw[Ev] at ak ⊢;rw[aeZ];rintro rfl;simp at ak
def ae1 (n:Nat):(aZ n).getLast?≠some 0:=by
 intro h
 obtain⟨r,aa⟩:∃r,aZ n=r++[0]:=by
  rcases Eu (aZ n) with e|⟨r,d,e⟩
  ·rw[e] at h;cases h
  ·rw[Ev] at e;rw[e] at h;simp at h;subst h;exact⟨r,e⟩
 have F:=ae0 n;rw[aa,aeY] at F
 have G:(gb r).length<=D r:=by
  clear F aa h
  induction r with
  |nil=>simp[gb]
  |cons d r av=>unfold gb;split<;>(try split)<;>simp<;>omega
 rw[F] at G;simp at G;omega
def g8 {n k:Nat}:(aZ n).length<=k↔n<1048576^k:=by
 induction k generalizing n with
 |zero =>
      rw[Nat.pow_zero];constructor
      ·intro h;have:=tX (Nat.le_zero.1 h);rw[Ac] at this;omega
      ·intro h;obtain rfl:n=0:=by omega
       simp[sY]
 |succ k av =>
  rcases jG n with rfl|h
  ·simp[sY];exact HI (by simp)
  ·rw[vF h,hQ,xk];have:=av (n:=n/1048576);rw[Nat.add_le_add_iff_right,this];rw[ae2 (by omega)]
def Ew {n:Nat}(h:0<n)(F:n<1048576):aZ n=[(n:Int)]:=by
 rw[vF h,W8 F,LH F];rfl
def LL (l:List Int)(i:Nat):bg l=bg (l.take i)+1048576^(min i (D l))*bg (l.drop i):=by
 conv=>lhs;rw[<-ui i l]
 rw[Et,gE]
def Af (n:Int)(h:0<=n/\n<18446744073709551616):IntKind.u64.wrap n=n:=by
 simp[IntKind.wrap,IntKind.bits,IntKind.signed];omega
def Ag (n:Int):bits .and .i64 n 1048575=n%1048576:=by
 have G:(1048575:Int)=((2^20-1:Nat):Int):=by decide
 have F:n%18446744073709551616%1048576=n%1048576:=by omega
 obtain⟨a,aO⟩:∃a:Nat,(a:Int)=n%18446744073709551616:=⟨(n%18446744073709551616).toNat,by omega⟩
 have e:BitVec.ofInt 64 n=BitVec.ofNat 64 a:=by
  apply BitVec.eq_of_toInt_eq;rw[BitVec.toInt_ofInt,BitVec.toInt_ofNat',aO];simp[ae3,ae4]
 have aD:bits .and .i64 n 1048575=bits .and .i64 (a:Int) 1048575:=by
  simp only[bits];rw[show IntKind.i64.bits=64 from rfl,e,BitVec.ofInt_natCast]
 rw[aD,<-F,<-aO,G];have Xi:a<2^64:=by omega
 simp only[bits,BitVec.ofInt_natCast,BitVec.toNat_and,BitVec.toNat_ofNat,show IntKind.i64.bits=64 from rfl,LH Xi];rw[show (2^20-1:Nat)%2^64=2^20-1 by decide,ae5,wrap64 _ (by omega) (by omega)]
 omega
def ae6 (n:Int)(h:0<=n/\n<18446744073709551616):bits .and .u64 n 1048575=n%1048576:=by
 have:=bits_mask .u64 64 (by decide) (λn F G=>Af n ⟨F,by omega⟩) 20 (by decide) n h.1 (by omega)
 simpa using this
def Xj (x y:Int)(Q:0<=x)(sS:x<8796093022208)(al:0<=y/\y<1048576):bits .or .i64 (x*1048576) y=x*1048576+y:=by
 refine bits_join .i64 63 (by decide) (λn F G=>wrap64 n (by omega) (by omega)) 20 _ _ (by omega) (by omega) (by omega) al.1 (by omega) (by omega)
def atV (n:Int):n.fdiv (2^20)=n/1048576:=by
 rw[Xk _ (by decide)];rfl
def xl (n:Int):n.fdiv (2^min (Ex 20) 64)=n/1048576:=atV n
def Xl:FuncId:=224
def Xm:FuncId:=215
def ma:FuncId:=84
def vG:FuncId:=40
def HJ:FuncId:=19
def Xn:FuncId:=35
def uo:FuncId:=233
def Xo:FuncId:=234
def QF:FuncId:=235
def LM:FuncId:=173
def Xp:FuncId:=225
def Ah:FuncId:=96
def Xq:FuncId:=214
def vH:FuncId:=43
def xm:FuncId:=36
def kP:FuncId:=38
def ll:FuncId:=146
def LN:FuncId:=147
def Xr:FuncId:=148
def Xs:FuncId:=90
def vI:FuncId:=85
def Ey:FuncId:=86
def QG:FuncId:=55
def Xt:FuncId:=82
def QH:FuncId:=83
def Xu:FuncId:=239
def Xv:FuncId:=201
def QI:FuncId:=236
def Xw:FuncId:=237
def LO:FuncId:=152
def QJ:FuncId:=165
def Xx:FuncId:=223
def HK:FuncId:=91
def Ez:FuncId:=88
def Xy:FuncId:=89
def vJ:FuncId:=149
def vK:FuncId:=94
def LP:FuncId:=156
def pq:FuncId:=150
def Xz:FuncId:=189
def XB:FuncId:=161
def HL:FuncId:=151
def vL:FuncId:=141
def QK:FuncId:=142
def XC:FuncId:=143
def QL:FuncId:=144
def vM:FuncId:=145
def LQ:FuncId:=240
def Cf:FuncId:=241
def EA:FuncId:=155
def atW:FuncId:=231
def XD:FuncId:=232
def LR:FuncId:=157
def HM:FuncId:=158
def HN:FuncId:=159
def EB:FuncId:=160
def QM:FuncId:=192
def qN:FuncId:=190
def XE:FuncId:=193
def XF:FuncId:=195
def LS:FuncId:=187
def XG:FuncId:=181
def LU:FuncId:=183
def uq:FuncId:=188
def EC:FuncId:=194
def QN:FuncId:=182
def LV:FuncId:=170
def ur:FuncId:=200
def uu:FuncId:=33
def XH:FuncId:=184
def HO:FuncId:=75
def LW:FuncId:=76
def HP:FuncId:=77
def om:FuncId:=78
def uv:FuncId:=79
def ED:FuncId:=80
def LX:FuncId:=81
def Ai:FuncId:=900234
def XI:FuncId:=175
def QO:FuncId:=900236
def LY:FuncId:=154
def vN:FuncId:=153
def Cg:FuncId:=137
def LZ:FuncId:=138
def L0:FuncId:=139
def EE:FuncId:=106
def Aj:FuncId:=107
def XJ:FuncId:=140
def L1:FuncId:=87
def HR:FuncId:=162
def L2:FuncId:=163
def HS:FuncId:=164
def HT:FuncId:=191
def XK:FuncId:=167
def QP:FuncId:=185
def XM:FuncId:=186
def QQ:FuncId:=28
def XN:FuncId:=63
def XO:FuncId:=64
def XP:FuncId:=65
def XQ:FuncId:=66
def xn:FuncId:=113
def EF:FuncId:=114
def HU:FuncId:=115
def EG:FuncId:=116
def XR:FuncId:=117
def XS:FuncId:=118
def QR:FuncId:=119
def L3:FuncId:=120
def XT:FuncId:=121
def XU:FuncId:=122
def XV:FuncId:=123
def XW:FuncId:=124
def L4:FuncId:=73
def XX:FuncId:=125
def uw:FuncId:=126
def XY:FuncId:=127
def Ch:FuncId:=171
def EH:FuncId:=172
def vO:FuncId:=174
def EI:FuncId:=176
def L5:FuncId:=177
def XZ:FuncId:=178
def L6:FuncId:=135
def EJ:FuncId:=179
def X0:FuncId:=180
def X1:FuncId:=202
def atX:FuncId:=203
def atY:FuncId:=204
def atZ:FuncId:=205
def at0:FuncId:=206
def at1:FuncId:=207
def QS:FuncId:=208
def at2:FuncId:=209
def at3:FuncId:=210
def at4:FuncId:=211
def X2:FuncId:=212
def X3:FuncId:=213
def at5:FuncId:=10
def X4:FuncId:=11
def X5:FuncId:=12
def X6:FuncId:=13
def Ak:FuncId:=14
def EK:FuncId:=16
def yN:FuncId:=20
def QT:FuncId:=21
def EL:FuncId:=22
def L7:FuncId:=24
def QU:FuncId:=50
def HW:FuncId:=51
def EM:FuncId:=52
def sZ:FuncId:=54
def X7:FuncId:=56
def L8:FuncId:=57
def X8:FuncId:=58
def L9:FuncId:=59
def X9:FuncId:=97
def xo:FuncId:=104
def EN:FuncId:=105
abbrev E (a b:Nat):cq:=⟨some a,none,.jm (.t b)⟩
abbrev aJ (a n b:Nat):cq:=⟨some a,none,.load n false (.t b)⟩
abbrev bd (a n b:Nat):cq:=⟨some a,none,.load n true (.t b)⟩
abbrev a0 (a n b:Nat):cq:=⟨some a,none,.yo n (.t b)⟩
abbrev bf (n a b:Nat):cq:=⟨none,none,.store n (.t a) (.t b)⟩
abbrev bk (a:Nat)(n:Int):cq:=⟨some a,none,.jm (.c (.M (.int .i64 n)))⟩
abbrev bl (a n b:Nat):cq:=⟨some a,none,.ext n (.t b)⟩
abbrev bs (a n b c:Nat):cq:=⟨some a,none,.qu n (.t b) (.t c)⟩
abbrev b9 (a b:Nat):cq:=⟨some a,none,.len (.t b)⟩
abbrev cd (a:Nat)(b:Bool):cq:=⟨some a,none,.jm (.c (.M (.bool b)))⟩
abbrev eo (a:Nat):cq:=⟨some a,none,.jm (.c .nil)⟩
abbrev bm (a:Nat)(o:BinOp)(b c:Nat):cq:=⟨some a,none,.bin o (.t b) (.t c)⟩
abbrev a5 (a:Nat)(o:BinOp)(b:Nat)(n:Int):cq:=⟨some a,none,.bin o (.t b) (.c (.M (.int .i64 n)))⟩
abbrev c5 (a b c:Nat):cq:=⟨some a,none,.pick (.t b) (.c (.M (.bool true))) (.t c)⟩
abbrev e9 (a b c:Nat):cq:=⟨some a,none,.pick (.t b) (.t c) (.c (.M (.bool false)))⟩
abbrev db (a k b:Nat):cq:=⟨some a,none,.box k (.t b)⟩
abbrev hj (a b:Nat):cq:=⟨some a,none,.sE (.t b)⟩
abbrev e4 (a b:Nat):cq:=⟨some a,none,.un .not (.t b)⟩
abbrev ew (a g n b:Nat):cq:=⟨some a,some (g,false),.load n false (.t b)⟩
abbrev lG (a g n b:Nat):cq:=⟨some a,some (g,false),.load n true (.t b)⟩
abbrev fY (a g b:Nat):cq:=⟨some a,some (g,false),.jm (.t b)⟩
abbrev fg (a g n b:Nat):cq:=⟨some a,some (g,false),.yo n (.t b)⟩
abbrev jb (a g b:Nat):cq:=⟨some a,some (g,false),.un .not (.t b)⟩
abbrev ln (a g b:Nat):cq:=⟨some a,some (g,false),.len (.t b)⟩
abbrev Ya (a g n b c:Nat):cq:=⟨some a,some (g,false),.qu n (.t b) (.t c)⟩
abbrev p3 (a g:Nat)(o:BinOp)(b c:Nat):cq:=⟨some a,some (g,false),.bin o (.t b) (.t c)⟩
abbrev gu (a g:Nat)(o:BinOp)(b:Nat)(n:Int):cq:=⟨some a,some (g,false),.bin o (.t b) (.c (.M (.int .i64 n)))⟩
abbrev hr (a g n b:Nat):cq:=⟨some a,some (g,true),.load n false (.t b)⟩
abbrev r3 (a g n b:Nat):cq:=⟨some a,some (g,true),.load n true (.t b)⟩
abbrev dv (a g b:Nat):cq:=⟨some a,some (g,true),.jm (.t b)⟩
abbrev lo (a g n b:Nat):cq:=⟨some a,some (g,true),.yo n (.t b)⟩
abbrev xp (a g b:Nat):cq:=⟨some a,some (g,true),.un .not (.t b)⟩
abbrev Ma (a g b:Nat):cq:=⟨some a,some (g,true),.len (.t b)⟩
abbrev qO (a g n b c:Nat):cq:=⟨some a,some (g,true),.qu n (.t b) (.t c)⟩
abbrev vP (a g:Nat)(o:BinOp)(b c:Nat):cq:=⟨some a,some (g,true),.bin o (.t b) (.t c)⟩
abbrev hG (a g:Nat)(o:BinOp)(b:Nat)(n:Int):cq:=⟨some a,some (g,true),.bin o (.t b) (.c (.M (.int .i64 n)))⟩
abbrev bB (n:Int):O:=.M (.int .i64 n)
abbrev Mb:List O:=[.nil,bB 0,.nil,bB 0,.nil]
abbrev dT:List O:=[bB 0,.nil,bB 0,.nil]
abbrev lp:List O:=[bB 0,bB 0,bB 0,bB 0]
abbrev eG:List O:=[bB 0,.nil]
abbrev xq:List O:=[.nil,.nil,.nil]
abbrev cL (a k:Nat)(z:List O):cq:=⟨some a,none,.alloc k z⟩
abbrev dY (i:Nat)(c:eh):eh:=.block i (.loop c)
abbrev du (n i:Nat):eh:=.cond (.t n) .skip (.exit i)
abbrev cx (n:Nat)(l:List cq):eh:=.cond (.t n) (.seq (.ops l) .ret) .skip
abbrev dp (a:Nat)(f:FuncId)(x:Nat):cq:=⟨some a,none,.call f [.t x]⟩
abbrev bV (a:Nat)(f:FuncId)(x y:Nat):cq:=⟨some a,none,.call f [.t x,.t y]⟩
abbrev Al (a:Nat)(f:FuncId)(x y z:Nat):cq:=⟨some a,none,.call f [.t x,.t y,.t z]⟩
abbrev Am (a:Nat)(f:FuncId)(x y z u:Nat):cq:=⟨some a,none,.call f [.t x,.t y,.t z,.t u]⟩
abbrev aM (a:Nat)(o:jF):cq:=⟨some a,none,o⟩
abbrev fH (a b:Nat)(o:jF):cq:=⟨some a,some (b,false),o⟩
abbrev gv (a b:Nat)(o:jF):cq:=⟨some a,some (b,true),o⟩
abbrev bT (n m:Nat)(r:List oJ)(b:eh):bu:=⟨n,m,r,b⟩
abbrev eC (n:Nat)(a b:eh):eh:=.cond (.t n) a b
abbrev R (l:List cq)(c:eh):eh:=.seq (.ops l) c
abbrev eR (l:List cq)(x:List (List Nat))(c:eh):eh:=.seq (.mz l x) c
abbrev ae7:List (List Nat):=[[],[],[],[],[],[]]
abbrev at6:List (List Nat):=[[],[],[],[],[],[],[]]
abbrev ae8:List (List Nat):=[[],[],[],[],[],[],[],[]]
abbrev EO:List (List Nat):=[[],[],[],[],[],[],[],[],[]]
abbrev HX:List (List Nat):=[[],[],[],[],[],[],[],[],[],[]]
abbrev EP:List (List Nat):=[[],[],[],[],[],[],[],[],[],[],[]]
abbrev ae9:List (List Nat):=[[],[],[],[],[],[],[],[],[],[],[],[]]
abbrev Yb:List (List Nat):=[[],[],[],[],[],[],[],[],[],[],[],[],[]]
abbrev Mc:List (List Nat):=[[],[],[],[],[],[],[],[],[],[],[],[],[],[]]
abbrev Yc:List (List Nat):=[[],[],[],[],[],[],[],[],[],[],[],[],[],[],[]]
abbrev ER:List (List Nat):=[[],[],[],[],[],[],[],[],[],[],[],[],[],[],[],[]]
abbrev at7:List (List Nat):=[[],[],[],[],[],[],[],[],[],[],[],[],[],[],[],[],[]]
abbrev Yd:List (List Nat):=[[],[],[],[],[],[],[],[],[],[],[],[],[],[],[],[],[],[]]
abbrev at8:List (List Nat):=[[],[],[],[],[],[],[],[],[],[],[],[],[],[],[],[],[],[],[],[]]
abbrev at9:List (List Nat):=[[],[],[],[],[],[],[],[],[],[],[],[],[],[],[],[],[],[],[],[],[],[],[],[],[],[]]
abbrev aua:List (List Nat):=[[],[],[],[],[],[],[],[],[],[],[],[],[],[],[],[],[],[],[],[],[],[],[],[],[],[],[],[]]
abbrev aub:List (List Nat):=[[],[],[],[],[],[],[],[],[],[],[],[],[],[],[],[],[],[],[],[],[],[],[],[],[],[],[],[],[],[]]
def afa:bu:=bT 49 1 [.t 2] (R [db 1 136001 0,cd 2 false] (R [a0 6 1 1,aJ 7 1 6,b9 8 7,E 3 8] (.seq (R [a0 9 1 1,aJ 10 1 9,b9 11 10,bk 12 0] (dY 0 (R [bm 13 .lss 12 11] (.seq (du 13 0) (.seq (.block 1 (R [bs 14 1 10 12,aJ 15 1 14,E 5 15] (R [E 16 5,a5 17 .lss 16 0,E 18 17,fY 19 18 5,gu 20 18 .gtr 19 1048575,c5 21 18 20] (cx 21 [cd 2 false])))) (.ops [a5 22 .add 12 1,E 12 22])))))) (.seq (R [E 23 3,a5 24 .eql 23 0] (cx 24 [a0 25 0 1,aJ 26 1 25,a5 27 .eql 26 0,E 2 27])) (R [a0 28 0 1,aJ 29 1 28,a5 30 .eql 29 1,E 31 30,fg 32 31 0 1,ew 33 31 1 32,fH 34 31 (.bin .eql (.t 33) (.c (.M (.int .i64 (-1))))),c5 35 31 34,E 36 35,dv 37 36 3,hG 38 36 .leq 37 60,e9 39 36 38,E 40 39,lo 41 40 1 1,hr 42 40 1 41,dv 43 40 3,hG 44 40 .sub 43 1,qO 45 40 1 42 44,hr 46 40 1 45,hG 47 40 .neq 46 0,e9 48 40 47,E 2 48] .ret)))))
def afb:bu:=bT 44 2 [.cell 4 2 true,.t 5] (R [db 2 137002 0,db 3 137003 1,cL 4 137004 eG,bk 5 0] (.seq (R [bd 10 2 2,dp 11 ll 10,e4 12 11,E 13 12,lG 14 13 2 3,fH 15 13 (.call ll [.t 14]),jb 16 13 15,c5 17 13 16] (cx 17 [aM 18 (.build eG []),aM 19 (.call vJ [.c (.M (.bool false)),.t 18]),bl 20 0 19,bl 21 1 19,bf 2 4 20,E 5 21])) (eR [a0 22 1 2,aJ 23 1 22,dp 24 vK 23,a0 25 1 3,aJ 26 1 25,E 6 24,E 7 26] at6 (.seq (dY 0 (.seq (R [E 27 7,b9 28 27,a5 29 .gtr 28 0] (du 29 0)) (.block 1 (R [E 31 6,E 32 7,bV 33 LP 31 32,E 30 33,bl 34 0 30,bl 35 1 30,E 8 34,E 9 35] (.ops [E 36 7,E 37 9,E 6 36,E 7 37]))))) (R [E 38 6,dp 39 vK 38,aM 40 (.call pq [.c (bB 1),.t 39]),aM 41 (.call vJ [.c (.M (.bool true)),.t 40]),bl 42 0 41,bl 43 1 41,bf 2 4 42,E 5 43] .ret)))))
def afc:bu:=bT 32 2 [.cell 4 2 true,.t 5] (R [db 2 140002 0,db 3 140003 1,cL 4 140004 eG,bk 5 0] (.seq (R [bd 6 2 2,dp 7 ll 6,e4 8 7,E 9 8,lG 10 9 2 3,fH 11 9 (.call ll [.t 10]),jb 12 9 11,c5 13 9 12] (cx 13 [aM 14 (.build eG []),aM 15 (.call vJ [.c (.M (.bool false)),.t 14]),bl 16 0 15,bl 17 1 15,bf 2 4 16,E 5 17])) (eR [a0 18 0 2,aJ 19 1 18,a0 20 0 3,aJ 21 1 20,bm 22 .mul 19 21,a0 23 1 2,aJ 24 1 23,a0 25 1 3,aJ 26 1 25,bV 27 HL 24 26,bV 28 pq 22 27,aM 29 (.call vJ [.c (.M (.bool true)),.t 28]),bl 30 0 29,bl 31 1 29,bf 2 4 30,E 5 31] ER .ret)))
def afd:bu:=bT 25 1 [.cell 2 2 true] (R [cL 2 150002 eG] (R [E 6 0,aM 7 (.conv .u64 (.t 6)),bk 3 1,E 4 7] (.seq (R [E 8 0,a5 9 .lss 8 0] (eC 9 (.ops [E 10 4,aM 11 (.un .neg (.t 10)),aM 3 (.jm (.c (.M (.int .i64 (-1))))),E 4 11]) .skip)) (R [eo 5] (.seq (.block 0 (.ghost (.oa 5 150021 1) (.loop  (.seq (R [E 12 4,aM 13 (.bin .gtr (.t 12) (.c (.M (.int .u64 0))))] (du 13 0)) (.seq (.block 1 (.ops [E 16 5,E 17 4,aM 18 (.bin .and (.t 17) (.c (.M (.int .u64 1048575)))),aM 19 (.conv .i64 (.t 18)),aM 20 (.ff 150020 false [bB 0] 1 1 [(0,1,.t 19)]),aM 21 (.app 150021 [bB 0] 8 (.t 16) (.t 20)),E 5 21])) (.ops [E 14 4,aM 15 (.bin .shr (.t 14) (.c (.M (.int .u64 20)))),E 4 15])))))) (.seq (.ghost (.freeze 5) (.ops [E 22 3,E 23 5,bV 24 pq 22 23,bf 2 2 24])) .ret))))))
def afe:bu:=bT 14 1 [.cell 2 2 true] (R [db 1 152001 0,cL 2 152002 eG] (.seq (R [bd 3 2 1,dp 4 ll 3,e4 5 4] (cx 5 [aM 6 (.build eG []),bf 2 2 6])) (eR [a0 7 0 1,aJ 8 1 7,aM 9 (.un .neg (.t 8)),a0 10 1 1,aJ 11 1 10,dp 12 vK 11,bV 13 pq 9 12,bf 2 2 13] ae8 .ret)))
def aff:bu:=bT 67 2 [.cell 4 2 true,.cell 5 2 true,.t 6] (R [db 2 153002 0,db 3 153003 1,cL 4 153004 eG,cL 5 153005 eG,bk 6 0] (.seq (.block 0 (R [bd 10 2 2,dp 11 ll 10,e4 12 11,E 13 12,lG 14 13 2 3,fH 15 13 (.call ll [.t 14]),jb 16 13 15,c5 17 13 16,E 9 17] (eC 9 (R [aM 18 (.build eG []),aM 19 (.build eG []),bf 2 4 18,bf 2 5 19,bk 6 1] .ret) (R [a0 21 0 3,aJ 22 1 21,a5 23 .eql 22 0,E 20 23] (cx 20 [aM 24 (.build eG []),aM 25 (.build eG []),bf 2 4 24,bf 2 5 25,bk 6 15]))))) (R [a0 27 1 2,aJ 28 1 27,a0 29 1 3,aJ 30 1 29,bV 31 LP 28 30,E 26 31,bl 32 0 26,bl 33 1 26,E 7 32,E 8 33] (.seq (R [a0 34 0 2,aJ 35 1 34,a0 36 0 3,aJ 37 1 36,bm 38 .mul 35 37,a5 39 .lss 38 0,E 40 39,dv 41 40 8,Ma 42 40 41,hG 43 40 .gtr 42 0,e9 44 40 43] (eC 44 (eR [E 45 7,aM 46 (.ff 153046 false [bB 0] 1 1 [(0,1,.c (bB 1))]),bV 47 LR 45 46,aM 48 (.call pq [.c (.M (.int .i64 (-1))),.t 47]),a0 49 0 3,aJ 50 1 49,a0 51 1 3,aJ 52 1 51,E 53 8,bV 54 HM 52 53,bV 55 pq 50 54,bf 2 4 48,bf 2 5 55,bk 6 0] Mc .ret) .skip)) (eR [a0 56 0 2,aJ 57 1 56,a0 58 0 3,aJ 59 1 58,bm 60 .mul 57 59,E 61 7,bV 62 pq 60 61,a0 63 0 2,aJ 64 1 63,E 65 8,bV 66 pq 64 65,bf 2 4 62,bf 2 5 66,bk 6 0] Mc .ret)))))
def afg:bu:=bT 31 2 [.t 4] (R [db 2 154002 0,db 3 154003 1,bk 4 0] (.seq (R [bd 5 2 2,dp 6 ll 5,e4 7 6,E 8 7,lG 9 8 2 3,fH 10 8 (.call ll [.t 9]),jb 11 8 10,c5 12 8 11] (cx 12 [bk 4 0])) (.seq (R [a0 13 0 2,aJ 14 1 13,a0 15 0 3,aJ 16 1 15,bm 17 .neq 14 16] (cx 17 [a0 18 0 2,aJ 19 1 18,a0 20 0 3,aJ 21 1 20,bV 22 HN 19 21,E 4 22])) (eR [a0 23 0 2,aJ 24 1 23,a0 25 1 2,aJ 26 1 25,a0 27 1 3,aJ 28 1 27,bV 29 EB 26 28,bm 30 .mul 24 29,E 4 30] EO .ret))))
def afh:bu:=bT 17 2 [.cell 4 2 true,.t 5] (R [db 3 155003 1,cL 4 155004 eG,bk 5 0] (.seq (.block 0 (R [E 7 0,e4 8 7,E 6 8] (eC 6 (R [aM 9 (.build eG []),bf 2 4 9,bk 5 1] .ret) (R [a0 11 1 3,aJ 12 1 11,b9 13 12,a5 14 .gtr 13 60,E 10 14] (cx 10 [aM 15 (.build eG []),bf 2 4 15,bk 5 6]))))) (R [bd 16 2 3,bf 2 4 16,bk 5 0] .ret)))
def afi:bu:=bT 170 2 [.t 4,.t 5] (R [eo 4,eo 5] (.seq (R [E 19 0,E 20 1,bV 21 EB 19 20,a5 22 .lss 21 0] (cx 22 [E 23 0,dp 24 vK 23,eo 4,E 5 24])) (.seq (R [E 25 1,b9 26 25,a5 27 .eql 26 1] (eC 27 (R [E 29 0,E 30 1,aM 31 (.qu 1 (.t 30) (.c (bB 0))),aJ 32 1 31,bV 33 QM 29 32,E 28 33,bl 34 0 28,bl 35 1 28,E 6 34,E 7 35] (R [E 36 6,E 37 7,aM 38 (.ff 157038 false [bB 0] 1 1 [(0,1,.t 37)]),dp 39 qN 38,E 4 36,E 5 39] .ret)) .skip)) (R [bk 8 1] (.seq (dY 0 (.seq (R [E 40 1,E 41 1,b9 42 41,a5 43 .sub 42 1,bs 44 1 40 43,aJ 45 1 44,E 46 8,bm 47 .mul 45 46,a5 48 .lss 47 524288] (du 48 0)) (.block 1 (.ops [E 49 8,a5 50 .mul 49 2,E 8 50])))) (R [E 51 0,E 52 8,aM 53 (.ff 157053 false [bB 0] 1 1 [(0,1,.t 52)]),aM 54 (.m8 157054 1 HL [.t 51,.t 53]),aM 55 (.ff 157055 false [bB 0] 1 1 [(0,1,.c (bB 0))]),aM 56 (.app 157056 [bB 0] 8 (.t 54) (.t 55)),E 57 1,E 58 8,aM 59 (.ff 157059 false [bB 0] 1 1 [(0,1,.t 58)]),bV 60 HL 57 59,E 9 56,E 10 60] (.seq (R [E 61 9,b9 62 61,E 63 0,b9 64 63,bm 65 .eql 62 64] (eC 65 (.ops [E 66 9,aM 67 (.ff 157067 false [bB 0] 1 1 [(0,1,.c (bB 0))]),aM 68 (.app 157068 [bB 0] 8 (.t 66) (.t 67)),E 9 68]) .skip)) (R [E 69 10,b9 70 69,E 11 70] (R [E 71 9,b9 72 71,E 73 11,bm 74 .sub 72 73,aM 75 (.mx 157075 [bB 0] 8 (.t 74) (.t 74)),E 12 75] (.seq (R [E 76 12,b9 77 76,a5 78 .sub 77 1,E 13 78] (dY 2 (.seq (R [E 79 13,a5 80 .geq 79 0] (du 80 2)) (.seq (.block 3 (eR [E 83 9,E 84 13,E 85 11,bm 86 .add 84 85,bs 87 1 83 86,aJ 88 1 87,aM 89 (.bin .shl (.t 88) (.c (.M (.int .u64 20)))),E 90 9,E 91 13,E 92 11,bm 93 .add 91 92,a5 94 .sub 93 1,bs 95 1 90 94,aJ 96 1 95,bm 97 .or 89 96,E 14 97] ER (eR [E 98 14,E 99 10,E 100 11,a5 101 .sub 100 1,bs 102 1 99 101,aJ 103 1 102,bm 104 .quo 98 103,E 105 14,E 106 10,E 107 11,a5 108 .sub 107 1,bs 109 1 106 108,aJ 110 1 109,bm 111 .rem 105 110,E 15 104,E 16 111] ER (.seq (dY 4 (.seq (eR [E 112 15,a5 113 .geq 112 1048576,E 114 113,fY 115 114 16,gu 116 114 .lss 115 1048576,fY 117 114 116,dv 118 117 15,dv 119 117 10,dv 120 117 11,hG 121 117 .sub 120 2,qO 122 117 1 119 121,hr 123 117 1 122,vP 124 117 .mul 118 123,dv 125 117 16,gv 126 117 (.bin .shl (.t 125) (.c (.M (.int .u64 20)))),dv 127 117 9,dv 128 117 13,dv 129 117 11,vP 130 117 .add 128 129,hG 131 117 .sub 130 2,qO 132 117 1 127 131,hr 133 117 1 132,vP 134 117 .or 126 133,vP 135 117 .gtr 124 134,fH 136 114 (.pick (.t 117) (.t 135) (.c (.M (.bool false)))),c5 137 114 136] at9 (du 137 4)) (.block 5 (R [E 138 15,a5 139 .sub 138 1,E 15 139] (.ops [E 140 16,E 141 10,E 142 11,a5 143 .sub 142 1,bs 144 1 141 143,aJ 145 1 144,bm 146 .add 140 145,E 16 146]))))) (.ops [E 147 12,E 148 13,E 149 9,E 150 13,E 151 13,E 152 11,bm 153 .add 151 152,a5 154 .add 153 1,aM 155 (.oI 1 (.t 149) (some (.t 150)) (some (.t 154)) none),E 156 10,E 157 15,Al 158 XE 155 156 157,bs 159 1 147 148,bf 1 159 158]))))) (.ops [E 81 13,a5 82 .sub 81 1,E 13 82]))))) (.seq (.ghost (.freeze 9) (.ops [E 161 9,dp 162 qN 161,E 163 8,bV 164 QM 162 163,E 160 164,bl 165 0 160,bl 166 1 160,E 17 165,E 18 166])) (.seq (.ghost (.freeze 12) (.ops [E 167 12,dp 168 qN 167,E 169 17,E 4 168,E 5 169])) .ret))))))))))))
def afj:bu:=bT 14 2 [.cell 4 2 true] (R [cL 4 158004 eG] (R [E 5 1,dp 6 qN 5,E 1 6] (.seq (R [E 7 1,b9 8 7,a5 9 .eql 8 0] (cx 9 [aM 10 (.build eG []),bf 2 4 10])) (R [E 11 0,E 12 1,aM 13 (.build eG [(0,1,.t 11),(1,1,.t 12)]),bf 2 4 13] .ret))))
def afk:bu:=bT 59 1 [.t 2,.t 3] (R [db 1 159001 0,bk 2 0,cd 3 false] (.seq (R [bd 7 2 1,dp 8 ll 7,e4 9 8,E 10 9,fg 11 10 1 1,ew 12 10 1 11,ln 13 10 12,gu 14 10 .gtr 13 4,c5 15 10 14] (cx 15 [bk 2 0,cd 3 false])) (R [aM 4 (.jm (.c (.M (.int .u64 0))))] (.seq (R [a0 16 1 1,aJ 17 1 16,b9 18 17,bk 19 0] (dY 0 (R [bm 20 .lss 19 18] (.seq (du 20 0) (.seq (.block 1 (R [E 21 19,bs 22 1 17 19,aJ 23 1 22,E 5 21,E 6 23] (.seq (R [E 24 5,a5 25 .eql 24 3,E 26 25,dv 27 26 6,hG 28 26 .gtr 27 8,e9 29 26 28] (cx 29 [bk 2 0,cd 3 false])) (.ops [E 30 4,E 31 6,aM 32 (.conv .u64 (.t 31)),E 33 5,aM 34 (.bin .mul (.c (bB 20)) (.t 33)),bm 35 .shl 32 34,bm 36 .or 30 35,E 4 36])))) (.ops [a5 37 .add 19 1,E 19 37])))))) (.seq (.block 2 (R [a0 39 0 1,aJ 40 1 39,a5 41 .lss 40 0,E 42 41,dv 43 42 4,gv 44 42 (.bin .leq (.t 43) (.c (.M (.int .u64 9223372036854775808)))),e9 45 42 44,E 38 45] (eC 38 (R [E 46 4,aM 47 (.un .neg (.t 46)),aM 48 (.conv .i64 (.t 47)),E 2 48,cd 3 true] .ret) (R [a0 50 0 1,aJ 51 1 50,a5 52 .geq 51 0,E 53 52,dv 54 53 4,gv 55 53 (.bin .lss (.t 54) (.c (.M (.int .u64 9223372036854775808)))),e9 56 53 55,E 49 56] (cx 49 [E 57 4,aM 58 (.conv .i64 (.t 57)),E 2 58,cd 3 true]))))) (R [bk 2 0,cd 3 false] .ret))))))
def afl:bu:=bT 69 2 [.cell 4 2 true,.t 5] (R [db 2 160002 0,db 3 160003 1,cL 4 160004 eG,bk 5 0] (.seq (R [bd 6 2 2,dp 7 ll 6,e4 8 7,E 9 8,lG 10 9 2 3,fH 11 9 (.call ll [.t 10]),jb 12 9 11,c5 13 9 12] (cx 13 [aM 14 (.build eG []),aM 15 (.call vJ [.c (.M (.bool false)),.t 14]),bl 16 0 15,bl 17 1 15,bf 2 4 16,E 5 17])) (.seq (.block 0 (R [a0 19 0 2,aJ 20 1 19,a0 21 0 3,aJ 22 1 21,bm 23 .mul 20 22,a5 24 .geq 23 0,E 18 24] (eC 18 (eR [a0 25 0 2,aJ 26 1 25,a0 27 0 3,aJ 28 1 27,aM 29 (.ff 160029 false [bB 0,bB 0] 1 2 [(0,1,.t 26),(1,1,.t 28)]),dp 30 XF 29,a0 31 1 2,aJ 32 1 31,a0 33 1 3,aJ 34 1 33,bV 35 LR 32 34,bV 36 pq 30 35,aM 37 (.call vJ [.c (.M (.bool true)),.t 36]),bl 38 0 37,bl 39 1 37,bf 2 4 38,E 5 39] at7 .ret) (R [a0 41 1 2,aJ 42 1 41,a0 43 1 3,aJ 44 1 43,bV 45 EB 42 44,a5 46 .lss 45 0,E 40 46] (eC 40 (eR [a0 47 0 3,aJ 48 1 47,a0 49 1 3,aJ 50 1 49,a0 51 1 2,aJ 52 1 51,bV 53 HM 50 52,bV 54 pq 48 53,aM 55 (.call vJ [.c (.M (.bool true)),.t 54]),bl 56 0 55,bl 57 1 55,bf 2 4 56,E 5 57] Yb .ret) .skip))))) (eR [a0 58 0 2,aJ 59 1 58,a0 60 1 2,aJ 61 1 60,a0 62 1 3,aJ 63 1 62,bV 64 HM 61 63,bV 65 pq 59 64,aM 66 (.call vJ [.c (.M (.bool true)),.t 65]),bl 67 0 66,bl 68 1 66,bf 2 4 67,E 5 68] Yb .ret))))
def afm:bu:=bT 67 2 [.t 4] (R [eo 4] (R [E 12 0,b9 13 12,E 14 1,b9 15 14,bm 16 .add 13 15,aM 17 (.mx 161017 [bB 0] 8 (.t 16) (.t 16)),E 5 17] (.seq (R [E 18 0,b9 19 18,bk 20 0] (dY 0 (R [bm 21 .lss 20 19] (.seq (du 21 0) (.seq (.block 1 (R [E 22 20,bs 23 1 18 20,aJ 24 1 23,E 6 22,E 7 24] (R [bk 8 0] (.seq (R [E 25 1,b9 26 25,bk 27 0] (dY 2 (R [bm 28 .lss 27 26] (.seq (du 28 2) (.seq (.block 3 (R [E 29 27,bs 30 1 25 27,aJ 31 1 30,E 9 29,E 10 31] (R [E 32 5,E 33 6,E 34 9,bm 35 .add 33 34,bs 36 1 32 35,aJ 37 1 36,E 38 7,E 39 10,bm 40 .mul 38 39,bm 41 .add 37 40,E 42 8,bm 43 .add 41 42,E 11 43] (.ops [E 44 5,E 45 6,E 46 9,bm 47 .add 45 46,E 48 11,a5 49 .and 48 1048575,E 50 11,aM 51 (.bin .shr (.t 50) (.c (.M (.int .u64 20)))),bs 52 1 44 47,bf 1 52 49,E 8 51])))) (.ops [a5 53 .add 27 1,E 27 53])))))) (.ops [E 54 5,E 55 6,E 56 1,b9 57 56,bm 58 .add 55 57,bs 59 1 54 58,aJ 60 1 59,E 61 8,bm 62 .add 60 61,bs 63 1 54 58,bf 1 63 62]))))) (.ops [a5 64 .add 20 1,E 20 64])))))) (R [E 65 5,dp 66 qN 65,E 4 66] .ret))))
def afn:bu:=bT 55 2 [.t 4] (R [eo 4] (.seq (R [E 9 0,b9 10 9,E 11 1,b9 12 11,bm 13 .lss 10 12] (eC 13 (.ops [E 14 1,E 15 0,E 0 14,E 1 15]) .skip)) (R [E 16 0,b9 17 16,a5 18 .add 17 1,aM 19 (.mx 172019 [bB 0] 8 (.t 18) (.t 18)),E 5 19] (R [bk 6 0] (.seq (R [E 20 0,b9 21 20,bk 22 0] (dY 0 (R [bm 23 .lss 22 21] (.seq (du 23 0) (.seq (.block 1 (R [E 24 22,bs 25 1 20 22,aJ 26 1 25,E 7 24,E 8 26] (R [E 27 6,E 28 8,bm 29 .add 27 28,E 6 29] (.seq (R [E 30 7,E 31 1,b9 32 31,bm 33 .lss 30 32] (eC 33 (.ops [E 34 6,E 35 1,E 36 7,bs 37 1 35 36,aJ 38 1 37,bm 39 .add 34 38,E 6 39]) .skip)) (R [E 40 5,E 41 7,E 42 6,a5 43 .and 42 1048575,bs 44 1 40 41,bf 1 44 43] (.ops [E 45 6,aM 46 (.bin .shr (.t 45) (.c (.M (.int .u64 20)))),E 6 46])))))) (.ops [a5 47 .add 22 1,E 22 47])))))) (R [E 48 5,E 49 0,b9 50 49,E 51 6,bs 52 1 48 50,bf 1 52 51] (R [E 53 5,dp 54 qN 53,E 4 54] .ret)))))))
def afo:bu:=bT 43 2 [.t 4] (R [eo 4] (R [E 9 0,aM 10 (.m8 173010 1 vK [.t 9]),E 5 10] (R [bk 6 0] (.seq (R [E 11 5,b9 12 11,bk 13 0] (dY 0 (R [bm 14 .lss 13 12] (.seq (du 14 0) (.seq (.block 1 (R [E 15 13,E 7 15] (R [E 16 5,E 17 7,bs 18 1 16 17,aJ 19 1 18,E 20 6,bm 21 .sub 19 20,E 8 21] (.seq (R [E 22 7,E 23 1,b9 24 23,bm 25 .lss 22 24] (eC 25 (.ops [E 26 8,E 27 1,E 28 7,bs 29 1 27 28,aJ 30 1 29,bm 31 .sub 26 30,E 8 31]) .skip)) (R [E 32 8,aM 33 (.bin .shr (.t 32) (.c (.M (.int .u64 20)))),a5 34 .and 33 1,E 6 34] (.ops [E 35 5,E 36 7,E 37 8,a5 38 .and 37 1048575,bs 39 1 35 36,bf 1 39 38])))))) (.ops [a5 40 .add 13 1,E 13 40])))))) (R [E 41 5,dp 42 qN 41,E 4 42] .ret)))))
def afp:bu:=bT 41 2 [.t 4] (R [bk 4 0] (.seq (R [E 6 0,b9 7 6,E 8 1,b9 9 8,bm 10 .neq 7 9] (cx 10 [E 11 0,b9 12 11,E 13 1,b9 14 13,bV 15 HN 12 14,E 4 15])) (.seq (R [E 16 0,b9 17 16,a5 18 .sub 17 1,E 5 18] (dY 0 (.seq (R [E 19 5,a5 20 .geq 19 0] (du 20 0)) (.seq (.block 1 (eR [E 23 0,E 24 5,bs 25 1 23 24,aJ 26 1 25,E 27 1,E 28 5,bs 29 1 27 28,aJ 30 1 29,bm 31 .neq 26 30] EO (eC 31 (eR [E 32 0,E 33 5,bs 34 1 32 33,aJ 35 1 34,E 36 1,E 37 5,bs 38 1 36 37,aJ 39 1 38,bV 40 HN 35 39,E 4 40] HX .ret) .skip))) (.ops [E 21 5,a5 22 .sub 21 1,E 5 22]))))) (R [bk 4 0] .ret))))
def afq:bu:=bT 38 2 [.t 4,.t 5] (R [eo 4,bk 5 0] (R [E 9 0,b9 10 9,aM 11 (.mx 176011 [bB 0] 8 (.t 10) (.t 10)),E 6 11] (R [bk 7 0] (.seq (R [E 12 0,b9 13 12,a5 14 .sub 13 1,E 8 14] (dY 0 (.seq (R [E 15 8,a5 16 .geq 15 0] (du 16 0)) (.seq (.block 1 (R [E 19 7,aM 20 (.bin .shl (.t 19) (.c (.M (.int .u64 20)))),E 21 0,E 22 8,bs 23 1 21 22,aJ 24 1 23,bm 25 .or 20 24,E 7 25] (R [E 26 6,E 27 8,E 28 7,E 29 1,bm 30 .quo 28 29,bs 31 1 26 27,bf 1 31 30] (.ops [E 32 7,E 33 1,bm 34 .rem 32 33,E 7 34])))) (.ops [E 17 8,a5 18 .sub 17 1,E 8 18]))))) (.seq (.ghost (.freeze 6) (.ops [E 35 6,dp 36 qN 35,E 37 7,E 4 36,E 5 37])) .ret)))))
def HY:bu:=bT 21 1 [.t 2] (R [eo 2] (R [E 4 0,b9 5 4,E 3 5] (.seq (dY 0 (.seq (R [E 6 3,a5 7 .gtr 6 0,E 8 7,dv 9 8 0,dv 10 8 3,hG 11 8 .sub 10 1,qO 12 8 1 9 11,hr 13 8 1 12,hG 14 8 .eql 13 0,e9 15 8 14] (du 15 0)) (.block 1 (.ops [E 16 3,a5 17 .sub 16 1,E 3 17])))) (R [E 18 0,E 19 3,aM 20 (.oI 1 (.t 18) none (some (.t 19)) none),E 2 20] .ret))))
def QV:bu:=bT 78 3 [.t 6] (R [bk 6 0] (R [bk 7 0] (.seq (R [E 12 0,b9 13 12,bk 14 0] (dY 0 (R [bm 15 .lss 14 13] (.seq (du 15 0) (.seq (.block 1 (R [E 16 14,E 8 16] (R [E 17 0,E 18 8,bs 19 1 17 18,aJ 20 1 19,E 21 7,bm 22 .sub 20 21,E 9 22] (.seq (R [E 23 8,E 24 1,b9 25 24,bm 26 .lss 23 25] (eC 26 (.ops [E 27 9,E 28 2,E 29 1,E 30 8,bs 31 1 29 30,aJ 32 1 31,bm 33 .mul 28 32,bm 34 .sub 27 33,E 9 34]) .skip)) (R [E 35 0,E 36 8,E 37 9,a5 38 .and 37 1048575,bs 39 1 35 36,bf 1 39 38] (.ops [E 40 9,aM 41 (.bin .shr (.t 40) (.c (.M (.int .u64 20)))),aM 42 (.un .neg (.t 41)),E 7 42])))))) (.ops [a5 43 .add 14 1,E 14 43])))))) (.seq (R [E 44 7,a5 45 .eql 44 0] (cx 45 [E 46 2,E 6 46])) (R [bk 10 0] (.seq (R [E 47 0,b9 48 47,bk 49 0] (dY 2 (R [bm 50 .lss 49 48] (.seq (du 50 2) (.seq (.block 3 (R [E 51 49,E 11 51] (R [E 52 10,E 53 0,E 54 11,bs 55 1 53 54,aJ 56 1 55,bm 57 .add 52 56,E 10 57] (.seq (R [E 58 11,E 59 1,b9 60 59,bm 61 .lss 58 60] (eC 61 (.ops [E 62 10,E 63 1,E 64 11,bs 65 1 63 64,aJ 66 1 65,bm 67 .add 62 66,E 10 67]) .skip)) (R [E 68 0,E 69 11,E 70 10,a5 71 .and 70 1048575,bs 72 1 68 69,bf 1 72 71] (.ops [E 73 10,aM 74 (.bin .shr (.t 73) (.c (.M (.int .u64 20)))),E 10 74])))))) (.ops [a5 75 .add 49 1,E 49 75])))))) (R [E 76 2,a5 77 .sub 76 1,E 6 77] .ret)))))))
def afr:bu:=bT 20 2 [.t 4] (R [bk 4 0] (R [E 7 0,dp 8 EC 7,E 5 8] (R [E 9 1,dp 10 EC 9,E 6 10] (.seq (R [E 11 5] (eC 11 (.seq (R [E 12 6] (cx 12 [bk 4 0])) (R [aM 4 (.jm (.c (.M (.int .i64 (-1)))))] .ret)) .skip)) (.seq (R [E 13 6] (cx 13 [bk 4 1])) (.seq (R [E 14 0,E 15 1,bm 16 .lss 14 15] (cx 16 [aM 4 (.jm (.c (.M (.int .i64 (-1)))))])) (.seq (R [E 17 0,E 18 1,bm 19 .gtr 17 18] (cx 19 [bk 4 1])) (R [bk 4 0] .ret))))))))
def afs:bu:=bT 18 1 [.t 2] (R [bk 2 0] (R [bk 3 0] (.seq (R [E 6 0,b9 7 6,bk 8 0] (dY 0 (R [bm 9 .lss 8 7] (.seq (du 9 0) (.seq (.block 1 (R [bs 10 1 6 8,aJ 11 1 10,E 5 11] (R [E 12 5,E 13 3,bm 14 .neq 12 13] (cx 14 [E 15 5,E 2 15])))) (.ops [a5 16 .add 8 1,E 8 16])))))) (R [E 17 3,E 2 17] .ret))))
def aft:bu:=bT 6 1 [.t 2] (R [cd 2 false] (R [E 3 0,E 4 0,bm 5 .neq 3 4,E 2 5] .ret))
def afu:bu:=bT 17 2 [.t 4] (R [cd 4 false] (R [E 5 0,dp 6 EC 5,E 7 6,dv 8 7 1,gv 9 7 (.call EC [.t 8]),xp 10 7 9,e9 11 7 10,E 12 11,fY 13 12 0,fY 14 12 1,p3 15 12 .lss 13 14,c5 16 12 15,E 4 16] .ret))
def afv:bu:=bT 9 2 [.t 4] (R [cd 4 false] (R [E 5 0,E 6 1,bV 7 Xu 5 6,a5 8 .geq 7 0,E 4 8] .ret))
def afw:bu:=bT 9 2 [.t 4] (R [cd 4 false] (R [E 5 0,E 6 1,bV 7 Xv 5 6,a5 8 .geq 7 0,E 4 8] .ret))
def afx:bu:=bT 48 2 [.t 4] (R [eo 4] (.seq (R [E 9 1,a5 10 .lss 9 0] (eC 10 (.ops [aM 11 (.bad),⟨none,none,.bad⟩]) .skip)) (R [E 13 0,b9 14 13,aM 15 (.conv .u64 (.t 14)),E 16 1,aM 17 (.conv .u64 (.t 16)),bV 18 Xx 15 17,E 12 18,bl 19 0 12,bl 20 1 12,E 5 19,E 6 20] (.seq (R [E 21 5,aM 22 (.bin .gtr (.t 21) (.c (.M (.int .u64 0)))),E 23 22,fY 24 23 6,fH 25 23 (.bin .gtr (.t 24) (.c (.M (.int .u64 9223372036854775807)))),c5 26 23 25] (eC 26 (.ops [aM 27 (.bad),⟨none,none,.bad⟩]) .skip)) (R [E 28 6,aM 29 (.conv .i64 (.t 28)),aM 30 (.mx 131030 dT 64 (.t 29) (.t 29)),E 7 30] (R [E 31 7,E 32 0,aM 33 (.sF 4 (.t 31) (.t 32)),E 8 33] (.seq (dY 0 (.seq (R [E 34 8,E 35 7,b9 36 35,bm 37 .lss 34 36] (du 37 0)) (.block 1 (.mz [E 38 8,E 39 7,E 40 8,aM 41 (.oI 4 (.t 39) (some (.t 40)) none none),E 42 7,E 43 8,aM 44 (.oI 4 (.t 42) none (some (.t 43)) none),aM 45 (.sF 4 (.t 41) (.t 44)),bm 46 .add 38 45,E 8 46] HX)))) (R [E 47 7,E 4 47] .ret))))))))
def afy:bu:=bT 19 2 [.t 4] (R [bk 4 0] (.seq (R [E 6 0,b9 7 6,bk 8 0] (dY 0 (R [bm 9 .lss 8 7] (.seq (du 9 0) (.seq (.block 1 (R [E 10 8,E 5 10] (R [E 11 1,E 12 0,E 13 5,bs 14 5 12 13,bd 15 5 14,aM 16 (.jV (.t 11) [.t 15])] (cx 16 [E 17 5,E 4 17])))) (.ops [a5 18 .add 8 1,E 8 18])))))) (R [aM 4 (.jm (.c (.M (.int .i64 (-1)))))] .ret)))
def Md:bu:=bT 19 2 [.t 4] (R [bk 4 0] (.seq (R [E 6 0,b9 7 6,bk 8 0] (dY 0 (R [bm 9 .lss 8 7] (.seq (du 9 0) (.seq (.block 1 (R [E 10 8,E 5 10] (R [E 11 1,E 12 0,E 13 5,bs 14 4 12 13,bd 15 4 14,aM 16 (.jV (.t 11) [.t 15])] (cx 16 [E 17 5,E 4 17])))) (.ops [a5 18 .add 8 1,E 8 18])))))) (R [aM 4 (.jm (.c (.M (.int .i64 (-1)))))] .ret)))
def afz:bu:=bT 8 1 [.t 2] (R [eo 2] (.seq (R [E 3 0,aM 4 (.qt false (.t 3))] (cx 4 [eo 2])) (R [aM 5 (.ff 147005 true [] 4 0 []),E 6 0,aM 7 (.app 147007 dT 64 (.t 5) (.t 6)),E 2 7] .ret)))
def afA:bu:=bT 8 1 [.t 2] (R [eo 2] (.seq (R [E 3 0,aM 4 (.qt false (.t 3))] (cx 4 [eo 2])) (R [aM 5 (.ff 156005 true [] 1 0 []),E 6 0,aM 7 (.app 156007 [bB 0] 8 (.t 5) (.t 6)),E 2 7] .ret)))
def QW:bu:=bT 19 2 [.t 4] (R [bk 4 0] (.seq (R [E 6 0,b9 7 6,bk 8 0] (dY 0 (R [bm 9 .lss 8 7] (.seq (du 9 0) (.seq (.block 1 (R [E 10 8,E 5 10] (R [E 11 1,E 12 0,E 13 5,bs 14 1 12 13,aJ 15 1 14,aM 16 (.jV (.t 11) [.t 15])] (cx 16 [E 17 5,E 4 17])))) (.ops [a5 18 .add 8 1,E 8 18])))))) (R [aM 4 (.jm (.c (.M (.int .i64 (-1)))))] .ret)))
def QX:bu:=bT 32 3 [.t 6] (R [cd 6 false] (.seq (R [E 10 0,b9 11 10,E 12 1,b9 13 12,bm 14 .neq 11 13] (cx 14 [cd 6 false])) (.seq (R [E 15 0,b9 16 15,bk 17 0] (dY 0 (R [bm 18 .lss 17 16] (.seq (du 18 0) (.seq (.block 1 (R [E 19 17,bs 20 4 15 17,bd 21 4 20,cL 8 235008 dT,E 7 19,bf 4 8 21] (R [E 22 1,E 23 7,bs 24 4 22 23,bd 25 4 24,cL 9 235009 dT,bf 4 9 25] (R [E 26 2,bd 27 4 8,bd 28 4 9,aM 29 (.jV (.t 26) [.t 27,.t 28]),e4 30 29] (cx 30 [cd 6 false]))))) (.ops [a5 31 .add 17 1,E 17 31])))))) (R [cd 6 true] .ret))))
def afB:bu:=bT 9 2 [.t 4] (R [cd 4 false] (R [E 5 0,E 6 1,bV 7 uv 5 6,a5 8 .geq 7 0,E 4 8] .ret))
def afC:bu:=bT 9 2 [.t 4] (R [cd 4 false] (R [E 5 0,E 6 1,bV 7 XK 5 6,a5 8 .geq 7 0,E 4 8] .ret))
def QY:bu:=bT 19 2 [.t 4] (R [bk 4 0] (.seq (R [E 6 0,b9 7 6,bk 8 0] (dY 0 (R [bm 9 .lss 8 7] (.seq (du 9 0) (.seq (.block 1 (R [E 10 8,E 5 10] (R [E 11 1,E 12 0,E 13 5,bs 14 4 12 13,bd 15 4 14,aM 16 (.jV (.t 11) [.t 15])] (cx 16 [E 17 5,E 4 17])))) (.ops [a5 18 .add 8 1,E 8 18])))))) (R [aM 4 (.jm (.c (.M (.int .i64 (-1)))))] .ret)))
def QZ:bu:=bT 11 1 [] (R [E 3 0,b9 4 3,E 2 4] (.ops [E 5 0,E 6 2,E 7 2,aM 8 (.conv .u64 (.t 7)),dp 9 XZ 8,aM 10 (.call L5 [.t 5,.c (bB 0),.t 6,.t 9])]))
def afD:bu:=bT 26 2 [.t 4] (R [cd 4 false] (.seq (R [E 6 0,b9 7 6,E 8 1,b9 9 8,bm 10 .neq 7 9] (cx 10 [cd 4 false])) (.seq (R [E 11 0,b9 12 11,bk 13 0] (dY 0 (R [bm 14 .lss 13 12] (.seq (du 14 0) (.seq (.block 1 (R [E 15 13,E 5 15] (eR [E 16 0,E 17 5,bs 18 1 16 17,aJ 19 1 18,E 20 1,E 21 5,bs 22 1 20 21,aJ 23 1 22,bm 24 .neq 19 23] EO (cx 24 [cd 4 false])))) (.ops [a5 25 .add 13 1,E 13 25])))))) (R [cd 4 true] .ret))))
def Q0:bu:=bT 61 1 [.t 2] (R [eo 2] (.seq (R [E 6 0,b9 7 6,a5 8 .lss 7 2] (eC 8 (R [E 9 0,E 2 9] (.ghost (.freeze 2) .ret)) .skip)) (.seq (R [bk 3 1] (dY 0 (.seq (R [E 10 3,E 11 0,b9 12 11,bm 13 .lss 10 12] (du 13 0)) (.seq (.block 1 (eR [E 16 0,E 17 3,bs 18 1 16 17,aJ 19 1 18,E 20 0,E 21 3,a5 22 .sub 21 1,bs 23 1 20 22,aJ 24 1 23,bm 25 .eql 19 24] HX (eC 25 (R [E 26 0,E 27 3,aM 28 (.oI 1 (.t 26) (some (.t 27)) none none),E 4 28] (.seq (R [bk 5 1] (dY 2 (.seq (R [E 29 5,E 30 4,b9 31 30,bm 32 .lss 29 31] (du 32 2)) (.seq (.block 3 (eR [E 35 4,E 36 5,bs 37 1 35 36,aJ 38 1 37,E 39 4,E 40 5,a5 41 .sub 40 1,bs 42 1 39 41,aJ 43 1 42,bm 44 .neq 38 43] HX (eC 44 (R [E 45 0,E 46 3,E 47 4,E 48 5,bs 49 1 47 48,aJ 50 1 49,bs 51 1 45 46,bf 1 51 50] (.ops [E 52 3,a5 53 .add 52 1,E 3 53])) .skip))) (.ops [E 33 5,a5 34 .add 33 1,E 5 34]))))) (R [E 54 0,E 55 3,aM 56 (.oI 1 (.t 54) (some (.t 55)) none none),⟨none,none,.sH [bB 0] (.t 56)⟩] (R [E 57 0,E 58 3,aM 59 (.oI 1 (.t 57) none (some (.t 58)) none),E 2 59] (.ghost (.freeze 2) .ret))))) .skip))) (.ops [E 14 3,a5 15 .add 14 1,E 3 15]))))) (R [E 60 0,E 2 60] (.ghost (.freeze 2) .ret)))))
def Q1:bu:=bT 42 2 [.t 4] (R [eo 4] (R [E 8 0,E 9 1,bV 10 uv 8 9,E 5 10] (.seq (R [E 11 5,aM 12 (.bin .eql (.t 11) (.c (.M (.int .i64 (-1)))))] (cx 12 [E 13 0,E 4 13])) (.seq (R [E 14 5,a5 15 .add 14 1,E 6 15] (dY 0 (.seq (R [E 16 6,E 17 0,b9 18 17,bm 19 .lss 16 18] (du 19 0)) (.seq (.block 1 (R [E 22 0,E 23 6,bs 24 1 22 23,aJ 25 1 24,E 7 25] (R [E 26 1,E 27 7,aM 28 (.jV (.t 26) [.t 27]),e4 29 28] (eC 29 (R [E 30 0,E 31 5,E 32 7,bs 33 1 30 31,bf 1 33 32] (.ops [E 34 5,a5 35 .add 34 1,E 5 35])) .skip)))) (.ops [E 20 6,a5 21 .add 20 1,E 6 21]))))) (R [E 36 0,E 37 5,aM 38 (.oI 1 (.t 36) (some (.t 37)) none none),⟨none,none,.sH [bB 0] (.t 38)⟩] (R [E 39 0,E 40 5,aM 41 (.oI 1 (.t 39) none (some (.t 40)) none),E 4 41] .ret))))))
def Q2:bu:=bT 134 4 [] (R [cd 8 true] (R [cd 9 true] (dY 0 (.block 1 (R [E 19 2,E 20 1,bm 21 .sub 19 20,E 10 21] (.seq (R [E 22 10,a5 23 .leq 22 12] (cx 23 [E 24 0,E 25 1,E 26 2,Al 27 X1 24 25 26])) (.seq (R [E 28 3,a5 29 .eql 28 0] (cx 29 [E 30 0,E 31 1,E 32 2,Al 33 atX 30 31 32])) (.seq (R [E 34 8,e4 35 34] (eC 35 (R [E 36 0,E 37 1,E 38 2,Al 39 atY 36 37 38] (.ops [E 40 3,a5 41 .sub 40 1,E 3 41])) .skip)) (R [E 43 0,E 44 1,E 45 2,Al 46 atZ 43 44 45,E 42 46,bl 47 0 42,bl 48 1 42,E 11 47,E 12 48] (.seq (R [E 49 12,a5 50 .eql 49 2] (eC 50 (R [E 51 0,E 52 1,E 53 2,Al 54 at0 51 52 53] (R [E 55 2,a5 56 .sub 55 1,E 57 11,E 58 1,bm 59 .sub 57 58,bm 60 .sub 56 59,E 11 60] (.ops [bk 12 1]))) .skip)) (.seq (R [E 61 8,E 62 61,dv 63 62 9,e9 64 62 63,E 65 64,dv 66 65 12,hG 67 65 .eql 66 1,e9 68 65 67] (eC 68 (R [E 69 0,E 70 1,E 71 2,Al 72 at1 69 70 71] (eC 72 .ret .skip)) .skip)) (.seq (eR [E 73 1,a5 74 .gtr 73 0,E 75 74,dv 76 75 0,dv 77 75 1,hG 78 75 .sub 77 1,qO 79 75 1 76 78,hr 80 75 1 79,dv 81 75 0,dv 82 75 11,qO 83 75 1 81 82,hr 84 75 1 83,gv 85 75 (.call QS [.t 80,.t 84]),xp 86 75 85,e9 87 75 86] Yc (eC 87 (R [E 88 0,E 89 1,E 90 2,E 91 11,Am 92 at2 88 89 90 91,E 13 92] (R [E 93 13,E 1 93] (.exit 1))) .skip)) (R [E 95 0,E 96 1,E 97 2,E 98 11,Am 99 at3 95 96 97 98,E 94 99,bl 100 0 94,bl 101 1 94,E 14 100,E 15 101] (R [E 102 15,E 9 102] (R [E 103 14,E 104 1,bm 105 .sub 103 104,E 106 2,E 107 14,bm 108 .sub 106 107,E 16 105,E 17 108] (R [E 109 10,a5 110 .quo 109 8,E 18 110] (R [E 111 16,E 112 17,bm 113 .lss 111 112] (eC 113 (R [E 114 16,E 115 18,bm 116 .geq 114 115,E 8 116] (R [E 117 0,E 118 1,E 119 14,E 120 3,Am 121 L5 117 118 119 120] (.ops [E 122 14,a5 123 .add 122 1,E 1 123]))) (R [E 124 17,E 125 18,bm 126 .geq 124 125,E 8 126] (R [E 127 0,E 128 14,a5 129 .add 128 1,E 130 2,E 131 3,Am 132 L5 127 129 130 131] (.ops [E 133 14,E 2 133])))))))))))))))))))))
def afE:bu:=bT 9 2 [.t 4] (R [cd 4 false] (R [E 5 0,E 6 1,bV 7 X3 5 6,a5 8 .geq 7 0,E 4 8] .ret))
def Q3:bu:=bT 49 3 [] (R [E 8 1,a5 9 .add 8 1,E 6 9] (dY 0 (.seq (R [E 10 6,E 11 2,bm 12 .lss 10 11] (du 12 0)) (.seq (.block 1 (R [E 15 6,E 7 15] (dY 2 (.seq (eR [E 16 7,E 17 1,bm 18 .gtr 16 17,E 19 18,dv 20 19 0,dv 21 19 7,qO 22 19 1 20 21,hr 23 19 1 22,dv 24 19 0,dv 25 19 7,hG 26 19 .sub 25 1,qO 27 19 1 24 26,hr 28 19 1 27,gv 29 19 (.call QS [.t 23,.t 28]),e9 30 19 29] Yc (du 30 2)) (.seq (.block 3 (.mz [E 33 0,E 34 7,E 35 0,E 36 7,a5 37 .sub 36 1,E 38 0,E 39 7,a5 40 .sub 39 1,bs 41 1 38 40,aJ 42 1 41,E 43 0,E 44 7,bs 45 1 43 44,aJ 46 1 45,bs 47 1 33 34,bf 1 47 42,bs 48 1 35 37,bf 1 48 46] Yd)) (.ops [E 31 7,a5 32 .sub 31 1,E 7 32])))))) (.ops [E 13 6,a5 14 .add 13 1,E 6 14])))))
def afF:bu:=bT 19 2 [.t 4] (R [bk 4 0] (.seq (R [E 6 0,b9 7 6,bk 8 0] (dY 0 (R [bm 9 .lss 8 7] (.seq (du 9 0) (.seq (.block 1 (R [E 10 8,E 5 10] (R [E 11 1,E 12 0,E 13 5,bs 14 1 12 13,aJ 15 1 14,bm 16 .eql 11 15] (cx 16 [E 17 5,E 4 17])))) (.ops [a5 18 .add 8 1,E 8 18])))))) (R [aM 4 (.jm (.c (.M (.int .i64 (-1)))))] .ret)))
def afG:bu:=bT 8 1 [.t 2] (R [eo 2] (.seq (R [E 3 0,aM 4 (.qt false (.t 3))] (cx 4 [eo 2])) (R [aM 5 (.ff 360005 true [] 4 0 []),E 6 0,aM 7 (.app 360007 lp 32 (.t 5) (.t 6)),E 2 7] .ret)))
def Ye (l:List Int)(n:Nat)(aH:n<D l)(h:l[n]=0):gb (l.take (n+1))=gb (l.take n):=by
 rw[hF,bn aH,h];exact aeY _
def Yf (l:List Int)(n:Nat)(aH:n<D l)(h:l[n]≠0):gb (l.take (n+1))=l.take (n+1):=by
 rw[hF,bn aH];exact aeZ _ h
abbrev yO:List Int->List Data:=λ(l:List Int)=>[.ay (l.map aC)]
def yP:=bU yO λ(l:List Int)=>cp (D l<=1000000) (.same (.ay ((gb l).map aC)))
def Q4:∀a b,yO a=yO b->a=b:=by
  intro eH aI h;exact map_inj fq _ _ (by simpa using h)
@[go_sem] def Q5 (l):=cz yP rfl Q4 l rfl
def auc (T:ba):WF T HY yP:=by
 refine cf λl=>cG λH=>⟨rfl,b7 ?_⟩;simp only[HY,yO,b1];have tW:((l.map aC).all λe=>D e==1)=true:=by simp[aC]
 refine ai ?_;repeat' (intro h<;>simp only[h,go_sem,go_sem_proc,ar]<;>try refine ah ?_ ?_)
 refine da [0] [] (λ(n:Nat) tm mem=>n<=D l/\gb l=gb (l.take n)/\tm 3=.M (.int .i64 n)) (λn=>n) (D l) (by refine⟨bM _,by simp,by simp[go_sem]⟩) ?_;intro vs ms aW aR;simp only[go_sem,go_sem_proc,ar] at aW aR;subst aW aR;rintro n tm mem I-⟨aH,bz,af⟩;simp only[go_sem,go_sem_proc,bh] at I;have au:=I;rcases n with _|n
 ·refine ai ?_;repeat' (intro h<;>simp only[h,go_sem,go_sem_proc,au,af,tW,pr,p4,show ¬ ((0:Int)>0) by omega,decide_false,ar,show (0:Int).toNat=0 from rfl,show (0:Int)<=0 by omega,fy,l3,cR]<;>try refine ah ?_ ?_)
  rw[bz];simp[gb]
 ·have hw:IntKind.i64.wrap (((n+1:Nat):Int)-1)=(n:Int):=by rw[ev _];omega
  have Q:l[n]?=some l[n]:=bn (by omega);have h5:((n+1:Nat):Int)>0:=by omega
  have hle:n+1<=D l:=aH
  by_cases aV:l[n]=0
  ·refine ai ?_;repeat' (intro h<;>simp only[h,go_sem,go_sem_proc,au,af,hw,Q,aV,h5,ar,bo,decide_true,aC,beq_self_eq_true,bh]<;>try refine ah ?_ ?_)
   exact⟨n,by omega,by omega,by rw[bz,Ye l n (by omega) aV],rfl⟩
  ·have r4:(l[n]==0)=false:=by simpa using aV
   refine ai ?_;repeat' (intro h<;>simp only[h,go_sem,go_sem_proc,au,af,hw,Q,r4,h5,tW,hle,aC,ar,bo,decide_true,bh,show (0:Int)<=((n+1:Nat):Int) by omega,g9,fy]<;>try refine ah ?_ ?_)
   rw[bz,Yf l n (by omega) aV,List.map_take]
structure afH where
 l:List Int
 k:Key
 g:Nat
def vQ:List O->Mem->Option (O×Mem):=HH (λ(a:afH) args mem=>args=[.ref a.k a.g 1 0 (D a.l)]/\mem a.k=some (a.g,a6 aC a.l)/\D a.l<=1000000) (λa mem=>(.ref a.k a.g 1 0 (gb a.l).length,mem))
def Yg {α:Type}{enc:α->List Data}{sz:Nat}(h:∀a,(enc a).length=sz)(J:∀a b,enc a=enc b->a=b):∀(l fR:List α),a6 enc l=a6 enc fR->0<sz->l=fR:=by
 intro l
 induction l with
 |nil =>
  intro fR e aV
  cases fR with
  |nil=>rfl
  |cons b r =>
   have:=congrArg D e;rw[lj h,lj h] at this;simp only[lH,hQ,Ep,qs] at this;omega
 |cons a r av =>
  intro fR e aV
  cases fR with
  |nil =>
   have:=congrArg D e;rw[lj h,lj h] at this;simp only[lH,hQ,Ep,qs] at this;omega
  |cons b Hf =>
   rw[yL,yL] at e;have ak:((enc a).map O.M).length=((enc b).map O.M).length:=by simp[h]
   obtain⟨az,aD⟩:=HZ e ak;have bX:=map_inj (λx y (e:O.M x=O.M y)=>by cases e;rfl) _ _ az;rw[J _ _ bX,av Hf aD aV]
def Yh (l:List Int)(k g:Nat)(mem:Mem)(h:mem k=some (g,a6 aC l))(ak:(D l)<=1000000):vQ [.ref k g 1 0 (D l)] mem=some (.ref k g 1 0 (gb l).length,mem):=by
 unfold vQ;refine aeX (a:=(⟨l,k,g⟩:afH)) ?_ ⟨rfl,h,ak⟩;rintro a b args mem ⟨F,G,_⟩ ⟨af,aS,_⟩;rw[F] at af;simp only[bh,O.ref.injEq,true_and,and_true] at af;obtain⟨Me,Q6,_⟩:=af;rw[Me,aS] at G;simp only[cl,e2] at G;have:=Yg iH fq _ _ G.2 (by omega);rw[Me,Q6,this]
@[go_sem] def aNd (d:Data)(mem:Mem):vQ [.M d] mem=none:=by
 cases Q:vQ [.M d] mem with
 |none=>rfl
 |some x =>
  unfold vQ at Q;obtain⟨a,⟨h,_⟩,_⟩:=Xh Q
  cases h
def aud (T:ba)(l:List Int)(k g:Nat)(mem:Mem)(hm:mem k=some (g,a6 aC l))(H:(D l)<=1000000):
  wp T HY.body (HG HY.res (.ref k g 1 0 (gb l).length) mem) ⟨iC [.ref k g 1 0 (D l)],mem⟩:=by
 refine pf ?_;simp only[HY];refine ai ?_;repeat' (intro h<;>simp only[h,go_sem,go_sem_proc,hm]<;>try refine ah ?_ ?_)
 refine da [0] [] (λ(n:Nat) tm mem'=>n<=D l/\gb l=gb (l.take n)/\tm 3=.M (.int .i64 n)/\mem'=mem) (λn=>n) (D l) (by refine⟨bM _,by simp,by simp[go_sem],rfl⟩) ?_;intro vs ms aW aR;simp only[go_sem,go_sem_proc] at aW aR;subst aW aR;rintro n tm _ I-⟨aH,bz,af,rfl⟩;simp only[go_sem,go_sem_proc,bh] at I;have au:=I;rcases n with _|n
 ·refine ai ?_;repeat' (intro h<;>simp only[h,go_sem,go_sem_proc,au,af,hm,pr,p4,show ¬ ((0:Int)>0) by omega,decide_false,show (0:Int).toNat=0 from rfl,show (0:Int)<=0 by omega,fy]<;>try refine ah ?_ ?_)
  rw[bz];simp[gb]
 ·have hw:IntKind.i64.wrap (((n+1:Nat):Int)-1)=(n:Int):=by rw[ev _];omega
  have Q:l[n]?=some l[n]:=bn (by omega);have h5:((n+1:Nat):Int)>0:=by omega
  have hle:n+1<=D l:=aH;have aq:n<D l:=aH;have yz:=Qy iH Q (f:=0) (n:=1) (by omega);have ee:=lj iH l;rw[dy] at ee;have afI:n+1<=(a6 aC l).length:=by omega
  have afJ:fh 1 (ft n (a6 aC l))=[.M (.int .i64 l[n])]:=by
   unfold cut at yz;rw[dy,nE,ab (by omega)] at yz
   simpa [aC] using yz
  by_cases aV:l[n]=0
  ·refine ai ?_;repeat' (intro h<;>simp only[h,go_sem,go_sem_proc,au,af,hm,hw,aq,afI,afJ,aV,h5,decide_true,dy,beq_self_eq_true]<;>try refine ah ?_ ?_)
   exact⟨n,by omega,by omega,by rw[bz,Ye l n (by omega) aV],rfl⟩
  ·have r4:(l[n]==0)=false:=by simpa using aV
   refine ai ?_;repeat' (intro h<;>simp only[h,go_sem,go_sem_proc,au,af,hm,hw,aq,afI,afJ,r4,h5,hle,decide_true,dy,show (0:Int)<=((n+1:Nat):Int) by omega,g9,fy,Nat.sub_zero]<;>try refine ah ?_ ?_)
   rw[bz,Yf l n (by omega) aV];simp;omega
abbrev oo:Int->List Data:=λ(n:Int)=>[.int .i64 n]
def Mf:=bU oo λ(n:Int)=>some (.same (.bool false))
def An:∀a b,oo a=oo b->a=b:=by
  intro h7 iZ h;simp only[bh,Data.int.injEq,Data.agg.injEq,Data.ay.injEq,Data.bool.injEq,Data.str.injEq,Data.ptr.injEq,Data.cP.injEq,e2,true_and,and_true] at h ⊢
  first|exact h|simpa [xr,and_assoc] using h|grind
@[go_sem] def aNe (n):=pk Mf rfl An n rfl
def aue (T:ba):WF T aft Mf:=by
 refine cf λn=>⟨rfl,b7 ?_⟩;simp only[aft,oo,b1];refine ai ?_;repeat' (intro h<;>simp only[h,go_sem,go_sem_proc,beq_self_eq_true]<;>try refine ah ?_ ?_)
def iI (a b:Int):Int:=if decide (a<b)=true then -1 else if decide (a>b)=true then 1 else 0
abbrev yQ:Int×Int->List Data:=λ(a,b)=>[.int .i64 a,.int .i64 b]
def Mg:=bU yQ λ(a,b)=>some (.same (.int .i64 (iI a b)))
def Q7:∀a b,yQ a=yQ b->a=b:=by
  rintro⟨cH,c6⟩ ⟨cY,eB⟩ h;simp only[bh,Data.int.injEq,Data.agg.injEq,Data.ay.injEq,Data.bool.injEq,Data.str.injEq,Data.ptr.injEq,Data.cP.injEq,e2,true_and,and_true] at h ⊢
  first|exact h|simpa [xr,and_assoc] using h|grind
@[go_sem] def aNf (a b):=pk Mg rfl Q7 (a,b) rfl
def auf (T:ba)(Yi:T EC=aQ Mf):WF T afr Mg:=by
 refine cf λ(a,b)=>⟨rfl,b7 ?_⟩;simp only[afr,yQ,b1];refine ai ?_;repeat' (intro h<;>simp only[h,go_sem,go_sem_proc,Yi]<;>try refine ah ?_ ?_)
 all_goals simp only[iI, *,reduceIte,cF,dd,s0,qG,mM,rY,vR,g4,hs,fC,lD,beq_self_eq_true,bne]
def ES:List Int->Int
 | []=>0
 |d::r=>if (d==0)=true then ES r else d
def Q8:=bU yO λ(l:List Int)=>cp (D l<=1000000) (.same (.int .i64 (ES l)))
@[go_sem] def aug (l):=cz Q8 rfl Q4 l rfl
def auh (T:ba):WF T afs Q8:=by
 refine cf λl=>cG λH=>⟨rfl,b7 ?_⟩;simp only[afs,yO,b1];simp only[go_sem,go_sem_proc,ar];repeat' (first|refine ah ?_ ?_|fail)<;>intro h<;>simp only[h,go_sem,go_sem_proc,ar]
 refine da [3,6,7] [] (λi tm mem=>0<=i/\i<=(D l:Int)/\ES l=ES (l.drop i.toNat)/\tm 8=.M (.int .i64 i)) (λi=>(D l-i).toNat) 0 (by refine⟨by omega,by omega,by simp,by simp[go_sem]⟩) ?_;intro vs ms aW aR;simp only[go_sem,go_sem_proc] at aW aR;subst aW aR;rintro i tm mem I-⟨qP,J,aK,cN⟩;simp only[go_sem,go_sem_proc,bh] at I;obtain⟨af,b2,cb⟩:=I;rcases dq (i<D l) with aq|ca
 ·obtain⟨x,Q,Y,-⟩:=aeM l i qP aq;simp only[go_sem,go_sem_proc,af,b2,cb,cN,Q,aq,qP,aC,ar,bo,decide_true,bh];repeat' (first|refine ah ?_ ?_|fail)<;>intro h<;>simp only[h,go_sem,go_sem_proc,af,b2,cb,cN,Q,aq,qP,aC,ar,bo,decide_true,bh]
  ·rw[aK,Y];simp[ES,h]
  ·exact⟨i+1,by omega,by omega,by omega,by rw[aK,Y];simp only[ES, *,reduceIte,cF,dd,s0,qG,mM,rY,vR,g4,hs,fC,lD,beq_self_eq_true,bne],by rw[ev _]⟩
 ·have he:l.drop i.toNat=[]:=j0 (by omega);simp only[go_sem,go_sem_proc,af,b2,cb,cN,ca,decide_false];repeat' (first|refine ah ?_ ?_|fail)<;>intro h<;>simp only[h,go_sem,go_sem_proc,af,b2,cb,cN,ca,decide_false]
  rw[aK,he];rfl
def Q9 (l:List Int):((l.map aC).all λe=>D e==1)=true:=by simp[aC]
def Ao:=bU yO λ(l:List Int)=>cp (D l<=1000000) (.own 1 (l.map aC))
@[go_sem] def afK (l):=cz Ao rfl Q4 l rfl
def aui (T:ba):WF T afA Ao:=by
 refine cf λl=>cG λH=>⟨rfl,b7 ?_⟩;simp only[afA,yO,b1]
 have dN:mA 156005 0 1 0 8 (D l) ((l.map aC).flatten.map .M) (some (0,[]))=some (.ref 156005 1 1 0 (D l),some (156005,1,a6 aC l)):=by
  have:=En iH vE 156005 0 8 [] l (by simp;omega) (by simp;omega)
  simpa [a6] using this
 have hlen:(a6 aC l).length=D l:=by rw[lj iH];omega
 refine ai ?_;repeat' (intro h<;>simp only[h,go_sem,go_sem_proc,Q9,dN,ar]<;>try refine ah ?_ ?_)
 rintro b ad
 cases b
 ·refine ai ?_;repeat' (intro h<;>simp only[h,go_sem,go_sem_proc,Q9,dN,ar,pg,dy,hlen]<;>try refine ah ?_ ?_)
  rw[ab (by omega),dt (by omega)];unfold a6;rw[r1 _ λd=>rfl];have:=xj (sz:=1) (l.map aC) (by simp[aC]);rw[ar] at this;simp[this]
 ·cases l with
  |nil =>
       refine ai ?_;repeat' (intro h<;>simp only[h,go_sem,go_sem_proc,pg,cR]<;>try refine ah ?_ ?_)
  |cons x r=>simp at ad
abbrev Raw:=Int×List Int
def eI (a:Raw):List Data:=[.int .i64 a.1,.ay (a.2.map aC)]
def oq (d:Int):Bool:=!decide (d<0) && !decide (d>1048575)
def dO (a:Raw):Bool:=a.2.all oq&&(if (a.2.length==0)=true then a.1==0 else ((a.1==1||a.1 == -1)&&decide (a.2.length<=60)&&(a.2.getLast? != some 0)))
abbrev s3:Int×(List Int)->List Data:=λ(s,l)=>[.agg [.int .i64 s,.ay (l.map aC)]]
def vS:=bU s3 λ(s,l)=>cp (D l<=1000000) (.same (.bool (dO (s,l))))
def H0:∀a b,s3 a=s3 b->a=b:=by
  rintro⟨s1,eH⟩ ⟨s2,aI⟩ h;simp only[bh,Data.agg.injEq,Data.int.injEq,Data.ay.injEq] at h;exact ej h.1.1.2 (map_inj fq _ _ h.1.2.1)
@[go_sem] def aNg (s l):=cz vS rfl H0 (s,l) rfl
def auj (T:ba):WF T afa vS:=by
 refine cf λ(s,l)=>cG λH=>⟨rfl,b7 ?_⟩;simp only[afa,s3,b1];refine ai ?_;repeat' (intro h<;>simp only[h,go_sem,go_sem_proc,ar]<;>try refine ah ?_ ?_)
 refine da [1,3,10,11] [136001] (λi tm mem=>0<=i/\i<=(D l:Int)/\l.all oq=(l.drop i.toNat).all oq/\tm 12=.M (.int .i64 i)) (λi=>(D l-i).toNat) 0 (by refine⟨by omega,by omega,by simp,by simp[go_sem]⟩) ?_;intro vs ms aW aR;simp only[go_sem,go_sem_proc,ar] at aW aR;subst aW aR;rintro i tm mem I hm ⟨qP,J,aK,ht⟩;simp only[go_sem,go_sem_proc,bh] at I hm;obtain⟨F,af,g3,Ci⟩:=I;rcases dq (i<D l) with aq|ca
 ·obtain⟨x,Q,Y,-⟩:=aeM l i qP aq
  have iJ:∀b,oq x=true->b=(l.drop (i+1).toNat).all oq->l.all oq=b:=by
   intro b F G;rw[aK,Y,BZ,F,G,g4]
  have Mh:oq x=false->dO (s,l)=false:=by
   intro F;unfold dO;rw[aK,Y,BZ,F]
   rfl
  refine ai ?_;repeat' (intro h<;>simp only[h,go_sem,go_sem_proc,F,af,g3,Ci,ht,hm,Q,aq,qP,aC,ar,bo,decide_true,bh]<;>try refine ah ?_ ?_)
  ·rw[Mh (by simp only[oq, *,reduceIte,cF,dd,s0,qG,mM,rY,vR,g4,hs,fC,lD,beq_self_eq_true,bne])]
  ·exact⟨i+1,by omega,by omega,by omega,by refine iJ _ ?_ rfl;simp only[oq, *,reduceIte,cF,dd,s0,qG,mM,rY,vR,g4,hs,fC,lD,beq_self_eq_true,bne],by rw[ev _]⟩
  ·rw[Mh (by simp only[oq, *,reduceIte,cF,dd,s0,qG,mM,rY,vR,g4,hs,fC,lD,beq_self_eq_true,bne])]
 ·have he:l.drop i.toNat=[]:=j0 (by omega);rw[he] at aK;have en:l.all oq=true:=by rw[aK];rfl
  rcases Eu l with rfl|⟨r,x,rfl⟩
  ·have auk:¬ i<(0:Int):=by simpa using ca
   refine ai ?_;repeat' (intro h<;>simp only[h,go_sem,go_sem_proc,F,af,g3,Ci,ht,hm,auk,decide_false,lH,pr,p4,beq_self_eq_true]<;>try refine ah ?_ ?_)
   simp[dO]
  ·rw[Ev] at *;have bE:(((r++[x]).length:Int)==0)=false:=by simp;omega
   have hw:IntKind.i64.wrap (((r++[x]).length:Int)-1)=(D r:Int):=by
    have cC:(r++[x]).length=D r+1:=by simp
    rw[ev _];omega
   have a8:((r++[x]).map aC)[D r]?=some [.int .i64 x]:=by simp[aC]
   have aa:dO (s,r++[x])=((s==1||s == -1)&&decide (((r++[x]).length:Int)<=60)&&(x != 0)):=by
    unfold dO;rw[en];simp only[List.getLast?_append,List.getLast?_singleton];simp;have az:decide (D r<=59)=decide ((D r:Int)+1<=60):=decide_eq_decide.2 (by omega);have aD:(some x != some (0:Int))=(x != 0):=by simp[bne]
    rw[az,aD]
   rw[aa];refine ai ?_;repeat' (intro h<;>simp only[h,go_sem,go_sem_proc,F,af,g3,Ci,ht,hm,ca,bE,hw,a8,decide_false,ar]<;>try refine ah ?_ ?_)
   all_goals simp only[*,reduceIte,cF,dd,s0,qG,mM,rY,vR,g4,hs,fC,lD,beq_self_eq_true,bne]
def mb (s:Int)(l:List Int):Raw:=if (((gb l).length:Int)==0)=true then (0,[]) else (s,gb l)
abbrev H4:Int×(List Int)->List Data:=λ(s,l)=>[.int .i64 s,.ay (l.map aC)]
def Ap:=bU H4 λ(s,l)=>cp (D l<=1000000) (.same (.agg (eI (mb s l))))
def afL:∀a b,H4 a=H4 b->a=b:=by
  rintro⟨s1,eH⟩ ⟨s2,aI⟩ h;simp only[bh,Data.int.injEq,Data.ay.injEq] at h;exact ej h.1.2 (map_inj fq _ _ h.2.1)
@[go_sem] def aNh (s l):=cz Ap rfl afL (s,l) rfl
def aul (T:ba)(fD:T qN=Ab yP vQ):WF T afj Ap:=by
 refine cf λ(s,l)=>cG λH=>⟨rfl,b7 ?_⟩;simp only[afj,H4,b1];refine ai ?_;repeat' (intro h<;>simp only[h,go_sem,go_sem_proc,fD,H,ar]<;>try refine ah ?_ ?_)
 all_goals simp only[mb,eI,cR, *,reduceIte,cF,dd,s0,qG,mM,rY,vR,g4,hs,fC,lD,beq_self_eq_true,bne]
def lI (l:List Int)(i:Nat)(h:i<D l):bg (l.take (i+1))=bg (l.take i)+1048576^i*l[i]:=by
 rw[hF,bn h,Et,gE,oO (by omega)];simp[bg]
def Aq {l:List Int}(h:eX l)(i:Nat):eX (l.take i):=λd Y=>h d (D9 Y)
def afM {l:List Int}(i:Nat)(J:i<D l):eX (l.take (i+1))↔eX (l.take i)/\(0<=l[i]/\l[i]<1048576):=by
 rw[hF,bn J,Es];simp[Er,eX]
def lJ {l:List Int}(h:eX l)(i:Nat)(J:i<D l):0<=l[i]/\l[i]<1048576:=h _ (nC J)
def ET (o:List Int)(i:Nat)(d:Int):(o.set i d).take i=o.take i:=by
 rw[List.take_set,List.set_eq_of_length_le];rw[gE];omega
def qQ (o:List Int):(a6 aC o).length=D o:=by rw[lj iH];omega
def Mi (o:List Int)(i:Nat)(h:i<D o):fh 1 (ft i (a6 aC o))=[.M (.int .i64 o[i])]:=by
 have yz:=Qy iH (bn h) (f:=0) (n:=1) (by omega);unfold cut at yz;have:=qQ o;rw[dy,nE,ab (by omega)] at yz
 simpa [aC] using yz
def yR (o:List Int)(i:Nat)(d:Int)(h:i<D o):fh i (a6 aC o)++[.M (.int .i64 d)]++ft (i+1) (a6 aC o)=a6 aC (o.set i d):=by
 have:=W4 iH h d;unfold k6 at this
 simpa [aC] using this
def H5 (n:Nat):(dH n [O.M (.int .i64 0)]).flatten=a6 aC (dH n 0):=by
 induction n with
 |zero=>rfl
 |succ n av=>rw[qC,qC,k5,yL,av];rfl
def H6 (n:Nat)(h:n<=1000000000):n<=maxLen:=eZ h (by decide)
def afN (l:List Int):(gb l).length<=D l:=by
 induction l with
 |nil=>simp[gb]
 |cons d r av=>unfold gb;split<;>(try split)<;>simp<;>omega
def aum (l:List Int):l.take (gb l).length=gb l:=by
 induction l with
 |nil=>simp[gb]
 |cons d r av =>
  unfold gb
  split
  ·split<;>simp
  ·simp[av]
def aun (l:List Int):∀n:Nat,(a6 aC l).take n=a6 aC (l.take n):=by
 induction l with
 |nil=>intro n;simp[a6]
 |cons d r av=>intro n;cases n with
  |zero=>simp[a6]
  |succ n=>rw[yL,vx,yL,<-av];rfl
def afO {mem:Mem}{k g n:Nat}{o:List Int}(hm:mem k=some (g,a6 aC o))(aH:n<=D o):pg 1 mem (.ref k g 1 0 n)=some ((o.take n).map aC):=by
 unfold pg;dsimp only;rw[hm];simp only[and_self,if_true,dy];rw[qQ,ab ⟨trivial,aH⟩,aun];unfold a6;rw[r1 _ λd=>rfl];have:=xj (sz:=1) ((o.take n).map aC) (by intro e he;rw[ef] at he;obtain⟨x,-,rfl⟩:=he;rfl);rw[ar,gE,oO aH] at this;simp only[Option.map_some,this]
def Yj {mem:Mem}{k g:Nat}{o:List Int}{n:Nat}(hm:mem k=some (g,a6 aC o))(Y:eX o)(aA:bg o=n):pg 1 mem (.ref k g 1 0 (gb o).length)=some ((aZ n).map aC):=by
 rw[afO hm (afN o),aum,Ae Y,aA]
 rfl
def dR (n:Nat):Data:=.ay ((aZ n).map aC)
def afP {x y:Nat}(h:(aZ x).length<(aZ y).length):x<y:=by
 have F:=(g8 (n:=x) (k:=(aZ x).length)).1 (bM _);have G:=mt (g8 (n:=y) (k:=(aZ x).length)).2 (by omega);omega
def afQ {a b:List Int}(aO:eX a)(ad:eX b)(ak:(D a)=D b)(i:Nat)(J:i<D a)(Y:a.drop (i+1)=b.drop (i+1))(h:a[i]<b[i]):bg a<bg b:=by
 rw[LL a (i+1),LL b (i+1),Y,ak,lI a i J,lI b i (by omega)];have F:=Ad (Aq aO i);have G:=po (Aq ad i);rw[gE,oO (by omega)] at F;generalize (1048576:Int)^i=p at *
 have af:p*a[i]+p<=p*b[i]:=by
  have:p*(a[i]+1)<=p*b[i]:=Ar (by omega) (by have:=po (Aq aO i);omega);rw[iq,vT] at this;exact this
 omega
abbrev ni:Nat×Nat->List Data:=λ(x,y)=>[dR x,dR y]
def H7:=bU ni λ(x,y)=>cp ((aZ x).length<=1000000/\(aZ y).length<=1000000) (.same (.int .i64 (iI x y)))
def yS:∀a b,ni a=ni b->a=b:=by
  rintro⟨gR,qR⟩ ⟨fS,nJ⟩ h;simp only[bh,dR,Data.ay.injEq] at h;exact ej (LK (map_inj fq _ _ h.1)) (LK (map_inj fq _ _ h.2.1))
@[go_sem] def Yk (x y):=cz H7 rfl yS (x,y) rfl
def auo (T:ba)(vU:T HN=aQ Mg):WF T afp H7:=by
 refine cf λ(x,y)=>cG λH=>⟨rfl,b7 ?_⟩;simp only[afp,ni,b1];obtain⟨Q,al⟩:=H;have ux:=nh x;have r5:=nh y;have xt:=l9 x;have EU:=l9 y;have aeC:=@afP x y;have lg:=@afP y x
 by_cases ak:(aZ x).length=(aZ y).length
 ·generalize aO:aZ x=a at *;generalize ad:aZ y=b at *;have Yl:((D a:Int)==(D b:Int))=true:=by simp[ak]
  simp only[go_sem,go_sem_proc,vU,dR,aO,ad,Yl,ar];refine da [0,1] [] (λ(n:Nat) tm mem=>n<=D a/\a.drop n=b.drop n/\tm 5=.M (.int .i64 ((n:Int)-1))) (λn=>n) (D a) (by refine⟨bM _,by rw[W9,ak,W9],?_⟩;simp only[e8,reduceIte];rw[ev _]) ?_;intro vs ms aW aR;simp only[go_sem,go_sem_proc,vU,dR,aO,ad] at aW aR;subst aW aR;rintro n tm mem I-⟨aH,Y,bt⟩;simp only[go_sem,go_sem_proc,vU,bh] at I;obtain⟨au,F⟩:=I;rcases n with _|n
  ·have e:a=b:=by simpa using Y
   have j5:(x:Int)=y:=by rw[<-xt,<-EU,e]
   refine ai ?_;repeat' (intro (aw:_=_)<;>simp only[aw,go_sem,go_sem_proc,vU,au,F,bt,pr,p4,show ¬ ((0:Int)-1>=0) by omega,decide_false]<;>try refine ah ?_ ?_)
   rw[j5];simp[iI]
  ·have hw:((n+1:Nat):Int)-1=(n:Int):=by omega
   have qS:a[n]?=some a[n]:=bn (by omega);have qT:b[n]?=some b[n]:=bn (by omega)
   have aa:iI a[n] b[n]=iI x y\/a[n]=b[n]:=by
    by_cases F:a[n]<b[n]
    ·left
     have:=afQ ux r5 ak n aH Y F;simp only[iI];rw[ab (by simpa using F),ab (by simp;omega)]
    ·by_cases G:b[n]<a[n]
     ·left
      have:=afQ r5 ux ak.symm n (by omega) Y.symm G;simp only[iI];rw[ae (by simp;omega),ab (by simp;omega),ae (by simp;omega),ab (by simp;omega)]
     ·right;omega
   by_cases aV:a[n]=b[n]
   ·refine ai ?_;repeat' (intro (aw:_=_)<;>simp only[aw,go_sem,go_sem_proc,vU,au,F,bt,hw,qS,qT,aV,aC,show (n:Int)>=0 by omega,decide_true,bo,beq_self_eq_true,bh]<;>try refine ah ?_ ?_)
    exact⟨n,by omega,by omega,by rw[iE (by omega:n<D a),iE (by omega:n<D b),aV,Y],by rw[ev _]⟩
   ·have r4:(a[n]==b[n])=false:=by simpa using aV
    refine ai ?_;repeat' (intro (aw:_=_)<;>simp only[aw,go_sem,go_sem_proc,vU,au,F,bt,hw,qS,qT,r4,aC,show (n:Int)>=0 by omega,decide_true,bo,bh]<;>try refine ah ?_ ?_)
    rw[aa.resolve_right aV]
 ·have Yl:(((aZ x).length:Int)==((aZ y).length:Int))=false:=by simp;omega
  have aa:iI (aZ x).length (aZ y).length=iI x y:=by
   simp only[iI];rcases iD (aZ x).length (aZ y).length with h|h
   ·have:=aeC h;rw[ab (by simp;omega),ab (by simp;omega)]
   ·have:=lg (by omega);rw[ae (by simp;omega),ab (by simp;omega),ae (by simp;omega),ab (by simp;omega)]
  refine ai ?_;repeat' (intro (aw:_=_)<;>simp only[aw,go_sem,go_sem_proc,vU,dR,Yl,aa,ar]<;>try refine ah ?_ ?_)
def afR (p xu vv sL c a b:Int)(h:xu+p*c=vv+sL):xu+p*((c+a+b)%1048576)+p*1048576*((c+a+b)/1048576)=vv+p*a+(sL+p*b):=by
 have F:=Cj (c+a+b) 1048576
 have G:p*((c+a+b)%1048576)+p*1048576*((c+a+b)/1048576)=p*(c+a+b):=by
  rw[ir,<-iq,F]
 have af:p*(c+a+b)=p*c+p*a+p*b:=by rw[iq,iq]
 omega
def Mj:=bU ni λ(x,y)=>cp ((aZ x).length<=100000/\(aZ y).length<=100000) (.own 1 ((aZ (x+y)).map aC))
@[go_sem] def afS (x y):=cz Mj rfl yS (x,y) rfl
def aup (T:ba)(fD:T qN=Ab yP vQ):WF T afn Mj:=by
 refine cf λ(x,y)=>cG λH=>⟨rfl,b7 ?_⟩;simp only[afn,ni,b1];obtain⟨Q,al⟩:=H;simp only[go_sem,go_sem_proc,fD,dR,ar];refine atn (λst=>∃a b:List Int,eX a/\eX b/\D a<=100000/\D b<=D a/\bg a+bg b=x+y/\st.tm 0=.M (.ay (a.map aC))/\st.tm 1=.M (.ay (b.map aC))/\st.mem 172019=none) (λh=>?_) (λh=>?_) ?_
 ·refine ai ?_;repeat' (intro (aw:_=_)<;>simp only[aw,go_sem,go_sem_proc,fD,dR]<;>try refine ah ?_ ?_)
  refine⟨aZ y,aZ x,nh y,nh x,al,?_,by rw[l9,l9];omega,rfl,rfl⟩
  simp at h;omega
 ·refine ai ?_;repeat' (intro (aw:_=_)<;>simp only[aw,go_sem,go_sem_proc,fD,dR]<;>try refine ah ?_ ?_)
  refine⟨aZ x,aZ y,nh x,nh y,Q,?_,by rw[l9,l9],rfl,rfl⟩
  simp at h;omega
 rintro⟨tm,mem⟩ ⟨a,b,Ym,xv,lk,nK,aA,au,F,hm⟩;dsimp only at au F hm;have qU:IntKind.i64.wrap ((D a:Int)+1)=((D a+1:Nat):Int):=by rw[ev _];rfl
 have lh:8*(D a+1)<=140737488355328:=by omega
 have eO:(D a)+1<=maxLen:=H6 _ (by omega);simp only[go_sem,go_sem_proc,fD,au,F,hm,qU,lh,eO,H5,ar]
 refine da [0,1,5,20,21] [] (λ(i,c,o) tm mem=>i<=D a/\(o:List Int).length=D a+1/\eX (o.take i)/\0<=c/\c<=1/\bg (o.take i)+1048576^i*c=bg (a.take i)+bg (b.take i)/\tm 22=.M (.int .i64 (i:Nat))/\tm 6=.M (.int .i64 c)/\mem 172019=some (0,a6 aC o))
  (λ(i,_)=>D a-i) (0,0,dH (D a+1) 0) (by refine⟨fy _,by simp,by simp[eX],by omega,by omega,by simp[bg],?_,?_,?_⟩<;>rfl) ?_
 intro vs ms aW aR;simp only[go_sem,go_sem_proc,fD,au,F,ar] at aW aR;subst aW aR;rintro⟨i,c,o⟩ tm mem I-⟨J,bx,iK,mN,hC,j4,xw,b2,hm⟩;simp only[go_sem,go_sem_proc,fD,bh] at I;obtain⟨au,F,bt,yT,Yn⟩:=I;rcases dq (i<D a) with aq|ca
 ·have qS:a[i]?=some a[i]:=bn aq;have Cc:=lJ Ym i aq;have hv:IntKind.i64.wrap ((i:Int)+1)=((i+1:Nat):Int):=by rw[ev _];rfl
  have uy:i<D o:=by omega
  have lK:i+1<=(a6 aC o).length:=by rw[qQ];omega
  have nj:IntKind.i64.wrap (c+a[i])=c+a[i]:=wrap64 _ (by omega) (by omega);have iW:=λd=>yR o i d uy
  have fin:∀bi:Int,0<=bi->bi<1048576->bg (b.take (i+1))=bg (b.take i)+1048576^i*bi ->
    ∃bj:Nat×Int×List Int,D a-bj.1<D a-i/\bj.1<=D a/\bj.2.2.length=D a+1/\eX (bj.2.2.take bj.1)/\0<=bj.2.1/\bj.2.1<=1/\bg (bj.2.2.take bj.1)+1048576^bj.1*bj.2.1=bg (a.take bj.1)+bg (b.take bj.1) /\
     O.M (Data.int .i64 ((i+1:Nat):Int))=O.M (Data.int .i64 (bj.1:Int))/\O.M (Data.int .i64 ((c+a[i]+bi)/1048576))=O.M (Data.int .i64 bj.2.1)/\some (0,a6 aC (o.set i ((c+a[i]+bi)%1048576)))=some (0,a6 aC bj.2.2):=by
   intro bi s4 lh EV;refine⟨(i+1,(c+a[i]+bi)/1048576,o.set i ((c+a[i]+bi)%1048576)),by dsimp only;omega,by dsimp only;omega,by simp[bx],?_,by dsimp only;omega,by dsimp only;omega,?_,rfl,rfl,rfl⟩
   ·dsimp only;rw[afM _ (by simpa using uy),ET];refine⟨iK,?_⟩;simp only[As];omega
   ·dsimp only;rw[lI _ _ (by simpa using uy),ET,lI a i aq,EV,nH];simp only[As];exact afR _ _ _ _ _ _ _ j4
  rcases dq (i<D b) with r6|Yo
  ·have qT:b[i]?=some b[i]:=bn r6;have vV:=lJ xv i r6;have oT:IntKind.i64.wrap (c+a[i]+b[i])=c+a[i]+b[i]:=wrap64 _ (by omega) (by omega);have kQ:decide ((i:Int)<(D b:Int))=true:=cX;have nL:decide ((i:Int)<(D a:Int))=true:=cX;refine ai ?_;repeat' (intro (aw:_=_)<;>simp only[aw,go_sem,go_sem_proc,fD,au,F,bt,yT,Yn,xw,b2,hm,qS,qT,hv,nj,oT,kQ,nL,aq,lK,iW,Ag,xl,aC,dy,ar,bo,bh,show i<D a+1 by omega,show ¬ ((20:Int)<0) by omega]<;>try refine ah ?_ ?_)
   exact fin b[i] vV.1 vV.2 (lI b i r6)
  ·have kQ:decide ((i:Int)<(D b:Int))=false:=cA;have nL:decide ((i:Int)<(D a:Int))=true:=cX;refine ai ?_;repeat' (intro (aw:_=_)<;>simp only[aw,go_sem,go_sem_proc,fD,au,F,bt,yT,Yn,xw,b2,hm,qS,hv,nj,kQ,nL,aq,lK,iW,Ag,xl,aC,dy,ar,bo,bh,show i<D a+1 by omega,show ¬ ((20:Int)<0) by omega]<;>try refine ah ?_ ?_)
   have:=fin 0 (by omega) (by omega) (by rw[dt (by omega),dt (by omega)];simp)
   simpa using this
 ·obtain rfl:i=D a:=by omega
  have nL:decide ((D a:Int)<(D a:Int))=false:=cA;have uy:(D a)<D o:=by omega
  have lK:(D a)+1<=(a6 aC o).length:=by rw[qQ];omega
  have iW:=λd=>yR o (D a) d uy
  have Yp:eX (o.set (D a) c):=by
   have:o.set (D a) c=(o.set (D a) c).take (D a+1):=by rw[dt (by simp[bx])]
   rw[this,afM _ (by simpa using uy),ET];refine⟨iK,?_⟩;simp only[As];omega
  have Yq:bg (o.set (D a) c)=x+y:=by
   have:o.set (D a) c=(o.set (D a) c).take (D a+1):=by rw[dt (by simp[bx])]
   rw[this,lI _ _ (by simpa using uy),ET];simp only[As];rw[j4,dt (bM _),dt nK,aA]
  have pn:=Yh (o.set (D a) c) 172019 0 (a4 mem 172019 0 (a6 aC (o.set (D a) c))) (by simp[a4]) (by simp[bx];omega);rw[hL,bx] at pn;have fN:=Yj (mem:=a4 mem 172019 0 (a6 aC (o.set (D a) c))) (k:=172019) (g:=0) (n:=x+y) (by simp[a4]) Yp (by rw[Yq];rfl);refine ai ?_;repeat' (intro (aw:_=_)<;>simp only[aw,go_sem,go_sem_proc,fD,au,F,bt,yT,Yn,xw,b2,hm,nL,lK,iW,pn,fN,dy,ar,show (D a)<D a+1 by omega]<;>try refine ah ?_ ?_)
def afT (n:Int):bits .and .i64 (n/1048576) 1=n/1048576%2:=by
 generalize n/1048576=m;have G:(1:Int)=((2^1-1:Nat):Int):=by decide
 have F:m%18446744073709551616%2=m%2:=by omega
 obtain⟨a,aO⟩:∃a:Nat,(a:Int)=m%18446744073709551616:=⟨(m%18446744073709551616).toNat,by omega⟩
 have e:BitVec.ofInt 64 m=BitVec.ofNat 64 a:=by
  apply BitVec.eq_of_toInt_eq;rw[BitVec.toInt_ofInt,BitVec.toInt_ofNat',aO];simp[ae3,ae4]
 have aD:bits .and .i64 m 1=bits .and .i64 (a:Int) 1:=by
  simp only[bits];rw[show IntKind.i64.bits=64 from rfl,e,BitVec.ofInt_natCast]
 rw[aD,<-F,<-aO];have Xi:a<2^64:=by omega
 conv=>lhs;rw[G]
 simp only[bits,BitVec.ofInt_natCast,BitVec.toNat_and,BitVec.toNat_ofNat,show IntKind.i64.bits=64 from rfl,LH Xi];rw[show (2^1-1:Nat)%2^64=2^1-1 by decide,ae5,wrap64 _ (by omega) (by omega)]
 omega
def Yr (o:List Int)(j:Nat)(d:Int)(h:j<D o):bg (o.set j d)=bg o+1048576^j*(d-o[j]):=by
 induction o generalizing j with
 |nil=>simp at h
 |cons x r av =>
  cases j with
  |zero=>simp[bg];omega
  |succ j =>
   simp only[List.set_cons_succ,um,List.getElem_cons_succ,nH];rw[av j (by simpa using h),iq,<-ir,nI 1048576 (1048576^j)];omega
def At {o:List Int}(h:eX o)(j:Nat){d:Int}(Y:0<=d/\d<1048576):eX (o.set j d):=by
 intro x Q;rcases List.mem_or_eq_of_mem_set Q with F|F
 ·exact h x F
 ·rw[F];exact Y
def auq (p xu vv sL c a b:Int)(h:xu=vv-sL+p*c):xu+p*((a-c-b)%1048576)=vv+p*a-(sL+p*b)-p*1048576*((a-c-b)/1048576):=by
 have F:=Cj (a-c-b) 1048576
 have G:p*((a-c-b)%1048576)+p*1048576*((a-c-b)/1048576)=p*(a-c-b):=by
  rw[ir,<-iq,F]
 have af:p*(a-c-b)=p*a-p*c-p*b:=by rw[H8,H8]
 omega
def Mk:=bU ni λ(x,y)=>cp ((aZ x).length<=100000/\y<=x) (.own 1 ((aZ (x-y)).map aC))
@[go_sem] def Ys (x y):=cz Mk rfl yS (x,y) rfl
def aur (T:ba)(gS:T vK=aQ Ao)(fD:T qN=Ab yP vQ):WF T afo Mk:=by
 refine cf λ(x,y)=>cG λH=>⟨rfl,b7 ?_⟩;simp only[afo,ni,b1];obtain⟨Q,afU⟩:=H;have ux:=nh x;have r5:=nh y;have xt:=l9 x;have EU:=l9 y
 have mO:(aZ y).length<=(aZ x).length:=by
  rw[g8];exact uz afU (g8.1 (bM _))
 generalize aO:aZ x=a at *;generalize ad:aZ y=b at *;have lk:(D a)<=1000000:=by omega
 simp only[go_sem,go_sem_proc,gS,fD,dR,aO,ad,lk,ar]
 refine da [1,5,12] [] (λ(i,c,o) tm mem=>i<=D a/\(o:List Int).length=D a/\eX o/\o.drop i=a.drop i/\(c=0\/c=1)/\bg (o.take i)=bg (a.take i)-bg (b.take i)+1048576^i*c/\tm 13=.M (.int .i64 (i:Nat))/\tm 6=.M (.int .i64 c)/\mem 173010=some (0,a6 aC o))
  (λ(i,_)=>D a-i) (0,0,a) (by refine⟨fy _,rfl,ux,rfl,.inl rfl,by simp[bg],?_,?_,?_⟩<;>rfl) ?_
 intro vs ms aW aR;simp only[go_sem,go_sem_proc,gS,fD,dR,aO,ad,ar] at aW aR;subst aW aR;rintro⟨i,c,o⟩ tm mem I-⟨J,bx,iK,qV,aus,j4,qW,b2,hm⟩;simp only[go_sem,go_sem_proc,gS,fD,bh] at I;obtain⟨F,bt,ht⟩:=I;rcases dq (i<D a) with aq|ca
 ·have uy:i<D o:=by omega
  have aut:o[i]=a[i]:=by
   have F:=iE uy;have G:=iE aq;rw[qV,G] at F;exact (xx F).1.symm
  have Cc:=lJ ux i aq;have hv:IntKind.i64.wrap ((i:Int)+1)=((i+1:Nat):Int):=by rw[ev _];rfl
  have lK:i+1<=(a6 aC o).length:=by rw[qQ];omega
  have kR:=Mi o i uy;rw[aut] at kR;have nj:IntKind.i64.wrap (a[i]-c)=a[i]-c:=wrap64 _ (by omega) (by omega);have iW:=λd=>yR o i d uy
  have fin:∀bi:Int,0<=bi->bi<1048576->bg (b.take (i+1))=bg (b.take i)+1048576^i*bi ->
    ∃bj:Nat×Int×List Int,D a-bj.1<D a-i/\bj.1<=D a/\bj.2.2.length=D a/\eX bj.2.2/\bj.2.2.drop bj.1=a.drop bj.1/\(bj.2.1=0\/bj.2.1=1)/\bg (bj.2.2.take bj.1)=bg (a.take bj.1)-bg (b.take bj.1)+1048576^bj.1*bj.2.1 /\
     O.M (Data.int .i64 ((i+1:Nat):Int))=O.M (Data.int .i64 (bj.1:Int))/\O.M (Data.int .i64 ((a[i]-c-bi)/1048576%2))=O.M (Data.int .i64 bj.2.1)/\some (0,a6 aC (o.set i ((a[i]-c-bi)%1048576)))=some (0,a6 aC bj.2.2):=by
   intro bi s4 lh EV;have aY:(a[i]-c-bi)/1048576=0\/(a[i]-c-bi)/1048576 = -1:=by omega
   refine⟨(i+1,(a[i]-c-bi)/1048576%2,o.set i ((a[i]-c-bi)%1048576)),by dsimp only;omega,by dsimp only;omega,by simp[bx],At iK i (by omega),?_,by dsimp only;omega,?_,rfl,rfl,rfl⟩
   ·dsimp only;rw[ub (by omega)];have F:=iE uy;have G:=iE aq;rw[qV,G] at F;exact (xx F).2.symm
   ·dsimp only;rw[lI _ _ (by simpa using uy),ET,lI a i aq,EV,nH];simp only[As];rw[auq _ _ _ _ _ _ _ j4];rcases aY with e|e<;>rw[e]<;>simp
  have nL:decide ((i:Int)<(D a:Int))=true:=cX;rcases dq (i<D b) with r6|Yo
  ·have qT:b[i]?=some b[i]:=bn r6;have vV:=lJ r5 i r6;have oT:IntKind.i64.wrap (a[i]-c-b[i])=a[i]-c-b[i]:=wrap64 _ (by omega) (by omega);have kQ:decide ((i:Int)<(D b:Int))=true:=cX;refine ai ?_;repeat' (intro h<;>simp only[h,go_sem,go_sem_proc,gS,fD,F,bt,ht,qW,b2,hm,qT,hv,nj,oT,kQ,nL,aq,lK,kR,iW,Ag,afT,xl,aC,dy,ar,bo,bh,show ¬ ((20:Int)<0) by omega]<;>try refine ah ?_ ?_)
   exact fin b[i] vV.1 vV.2 (lI b i r6)
  ·have kQ:decide ((i:Int)<(D b:Int))=false:=cA;refine ai ?_;repeat' (intro h<;>simp only[h,go_sem,go_sem_proc,gS,fD,F,bt,ht,qW,b2,hm,hv,nj,kQ,nL,aq,lK,kR,iW,Ag,afT,xl,aC,dy,ar,bo,bh,show ¬ ((20:Int)<0) by omega]<;>try refine ah ?_ ?_)
   have:=fin 0 (by omega) (by omega) (by rw[dt (by omega),dt (by omega)];simp)
   simpa using this
 ·obtain rfl:i=D a:=by omega
  have nL:decide ((D a:Int)<(D a:Int))=false:=cA;rw[dt (by omega),dt (by omega),dt (by omega),xt,EU] at j4
  have Yq:bg o=((x-y:Nat):Int):=by
   have F:=Ad iK;rw[bx] at F;rcases aus with rfl|rfl
   ·rw[j4];omega
   ·omega
  have pn:=Yh o 173010 0 mem hm (by omega);rw[bx] at pn;have fN:=Yj hm iK Yq;refine ai ?_;repeat' (intro h<;>simp only[h,go_sem,go_sem_proc,gS,fD,F,bt,ht,qW,b2,hm,nL,pn,fN,ar]<;>try refine ah ?_ ?_)
def afV (p xu V c x y Au:Int)(h:xu+p*c=V):xu+p*((Au+x*y+c)%1048576-Au)+p*1048576*((Au+x*y+c)/1048576)=V+p*(x*y):=by
 have F:=Cj (Au+x*y+c) 1048576
 have G:p*((Au+x*y+c)%1048576)+p*1048576*((Au+x*y+c)/1048576)=p*(Au+x*y+c):=by
  rw[ir,<-iq,F]
 have af:p*(Au+x*y+c)=p*Au+p*(x*y)+p*c:=by rw[iq,iq]
 rw[H8];omega
def afW {o x y c:Int}(bx:0<=o/\o<1048576)(Q:0<=x/\x<1048576)(al:0<=y/\y<1048576)(H:0<=c/\c<1048576):
  0<=x*y/\x*y<=1099509530625/\0<=(o+x*y+c)/1048576/\(o+x*y+c)/1048576<1048576:=by
 have F:0<=x*y:=uA Q.1 al.1;have G:x*y<=1048575*1048575:=H9 (by omega) (by omega) al.1 (by omega);omega
def afX {o:List Int}{n j:Nat}(h:o.drop n=dH (D o-n) 0)(ag:n<=j)(aq:j<D o):o[j]=0:=by
 have F:(o.drop n)[j-n]?=some o[j]:=by rw[lE,show n+(j-n)=j by omega,bn aq]
 rw[h,List.getElem?_replicate] at F
 split at F
 ·exact (mD F).symm
 ·cases F
def afY {o:List Int}{n:Nat}{d:Int}(h:o.drop n=dH (D o-n) 0)(aq:n<D o):(o.set n d).drop (n+1)=dH ((o.set n d).length-(n+1)) 0:=by
 rw[ub (by omega),hL];have F:=iE aq;rw[h,show (D o)-n=(D o-(n+1))+1 by omega,qC] at F
 exact (xx F).2.symm
def Ml:=bU ni λ(x,y)=>cp ((aZ x).length<=10000/\(aZ y).length<=10000) (.own 1 ((aZ (x*y)).map aC))
@[go_sem] def Yt (x y):=cz Ml rfl yS (x,y) rfl
def auu (T:ba)(fD:T qN=Ab yP vQ):WF T afm Ml:=by
 refine cf λ(x,y)=>cG λH=>⟨rfl,b7 ?_⟩;simp only[afm,ni,b1];obtain⟨Q,al⟩:=H;have ux:=nh x;have r5:=nh y;have xt:=l9 x;have EU:=l9 y;generalize aO:aZ x=a at *;generalize ad:aZ y=b at *;have qU:IntKind.i64.wrap ((D a:Int)+(D b:Int))=((D a+D b:Nat):Int):=by rw[ev _];rfl
 have lh:8*(D a+D b)<=140737488355328:=by omega
 have eO:(D a)+D b<=maxLen:=H6 _ (by omega);simp only[go_sem,go_sem_proc,fD,dR,aO,ad,qU,lh,eO,H5,ar]
 refine da [1,5,18,19] [] (λ(i,o) tm mem=>i<=D a/\(o:List Int).length=D a+D b/\eX o/\o.drop (i+D b)=dH (D o-(i+D b)) 0/\bg o=bg (a.take i)*y/\tm 20=.M (.int .i64 (i:Nat))/\mem 161017=some (0,a6 aC o))
  (λ(i,_)=>D a-i) (0,dH (D a+D b) 0) (by
   have aV:∀n,bg (dH n 0)=0:=by
    intro n
    induction n with
    |zero=>rfl
    |succ n av=>rw[qC,um,av];rfl
   refine⟨fy _,by simp,λd Y=>by rw[Ia] at Y;omega,by simp,by rw[aV];simp[bg],?_,?_⟩<;>rfl) ?_
 intro vs ms aW aR;simp only[go_sem,go_sem_proc,fD,dR,aO,ad,qU,ar] at aW aR;subst aW aR;rintro⟨i,o⟩ tm mem I-⟨J,bx,iK,s5,j4,yT,hm⟩;simp only[go_sem,go_sem_proc,fD,bh] at I;obtain⟨F,bt,nM,xy⟩:=I;rcases dq (i<D a) with aq|ca
 ·have qS:a[i]?=some a[i]:=bn aq;have Cc:=lJ ux i aq;have uf:=lI a i aq;generalize a[i]=hU at *;have kQ:decide ((i:Int)<(D a:Int))=true:=cX;simp only[go_sem,go_sem_proc,fD,F,bt,nM,xy,yT,qS,kQ,aC,ar,bo,bh]
  refine da [1,5,6,7,18,19,20,25,26] [] (λ((k,c,o):Nat×Int×List Int) tm mem=>k<=D b/\D o=D a+D b/\eX o/\o.drop (i+D b)=dH (D o-(i+D b)) 0/\0<=c/\c<1048576/\bg o+1048576^(i+k)*c=bg (a.take i)*y+1048576^i*(hU*bg (b.take k)) /\
    tm 27=.M (.int .i64 (k:Nat))/\tm 8=.M (.int .i64 c)/\mem 161017=some (0,a6 aC o))
   (λ(k,_)=>D b-k) (0,0,o) (by refine⟨fy _,bx,iK,s5,by omega,by omega,by simp[bg,j4],?_,?_,hm⟩<;>rfl) ?_
  intro vs ms aW aR;simp only[go_sem,go_sem_proc,fD,F,bt,nM,xy,yT,aC,ar] at aW aR;subst aW aR;rintro⟨k,c,o⟩ tm mem I-⟨qH,bx,iK,s5,mN,hC,j4,afZ,cN,hm⟩;simp only[go_sem,go_sem_proc,fD,bh] at I;obtain⟨F,bt,b2,cb,nM,xy,yT,af0,af1⟩:=I;rcases dq (k<D b) with Mm|Mm
  ·have qT:b[k]?=some b[k]:=bn Mm;have Ib:=lJ r5 k Mm;have p5:i+k<D o:=by omega
   have Yu:=lJ iK (i+k) p5;obtain⟨dw,cv,p6,oU⟩:=afW Yu Cc Ib ⟨mN,hC⟩;have kQ:decide ((k:Int)<(D b:Int))=true:=cX;have hv:IntKind.i64.wrap ((k:Int)+1)=((k+1:Nat):Int):=by rw[ev _];rfl
   have nj:IntKind.i64.wrap ((i:Int)+(k:Int))=((i+k:Nat):Int):=by rw[ev _];rfl
   have oT:IntKind.i64.wrap (hU*b[k])=hU*b[k]:=wrap64 _ (by omega) (by omega);have Ic:IntKind.i64.wrap (o[i+k]+hU*b[k])=o[i+k]+hU*b[k]:=wrap64 _ (by omega) (by omega);have Ck:IntKind.i64.wrap (o[i+k]+hU*b[k]+c)=o[i+k]+hU*b[k]+c:=wrap64 _ (by omega) (by omega);have lK:i+k+1<=(a6 aC o).length:=by rw[qQ];omega
   have kR:=Mi o (i+k) p5;have iW:=λd=>yR o (i+k) d p5;have j1:i+k<D a+D b:=by omega
   refine ai ?_;repeat' (intro h<;>simp only[h,go_sem,go_sem_proc,fD,F,bt,b2,cb,nM,xy,yT,af0,af1,afZ,cN,hm,qT,kQ,hv,nj,oT,Ic,Ck,j1,lK,kR,iW,Ag,xl,aC,dy,ar,bo,bh,show ¬ ((20:Int)<0) by omega]<;>try refine ah ?_ ?_)
   refine⟨(k+1,(o[i+k]+hU*b[k]+c)/1048576,o.set (i+k) ((o[i+k]+hU*b[k]+c)%1048576)),by dsimp only;omega,by dsimp only;omega,by simp[bx],At iK _ (by omega),?_,p6,oU,?_,rfl,rfl,rfl⟩
   ·dsimp only;rw[ub (by omega),hL,s5]
   ·dsimp only;rw[Yr _ _ _ p5,lI b k Mm,<-qA,nH,afV _ _ _ _ _ _ _ j4];rw[iq (hU),iq (1048576^i),af2]
    have:(1048576:Int)^i*(hU*(1048576^k*b[k]))=1048576^i*1048576^k*(hU*b[k]):=by
     rw[<-ir (hU),nI (hU) (1048576^k),ir (1048576^k),<-ir]
    omega
  ·obtain rfl:k=D b:=by omega
   have kQ:decide ((D b:Int)<(D b:Int))=false:=cA;have p5:i+D b<D o:=by omega
   have aV:=afX s5 (bM _) p5;have hv:IntKind.i64.wrap ((i:Int)+1)=((i+1:Nat):Int):=by rw[ev _];rfl
   have nj:IntKind.i64.wrap ((i:Int)+(D b:Int))=((i+D b:Nat):Int):=by rw[ev _];rfl
   have oT:IntKind.i64.wrap (0+c)=c:=by rw[Ie];exact wrap64 _ (by omega) (by omega)
   have lK:i+D b+1<=(a6 aC o).length:=by rw[qQ];omega
   have kR:=Mi o (i+D b) p5;rw[aV] at kR;have iW:=λd=>yR o (i+D b) d p5;have j1:i+D b<D a+D b:=by omega
   refine ai ?_;repeat' (intro h<;>simp only[h,go_sem,go_sem_proc,fD,F,bt,b2,cb,nM,xy,yT,af0,af1,afZ,cN,hm,kQ,hv,nj,oT,j1,lK,kR,iW,aC,dy,ar]<;>try refine ah ?_ ?_)
   refine⟨(i+1,o.set (i+D b) c),by dsimp only;omega,by dsimp only;omega,by simp[bx],At iK _ ⟨mN,hC⟩,?_,?_,rfl,rfl⟩
   ·dsimp only;have:=afY (d:=c) s5 p5;rwa [show i+D b+1=i+1+(D b) by omega] at this
   ·dsimp only;rw[Yr _ _ _ p5,aV,uf];rw[dt (bM _),EU] at j4;rw[Mn,j4,uB,ir]
 ·obtain rfl:i=D a:=by omega
  have kQ:decide ((D a:Int)<(D a:Int))=false:=cA;rw[dt (bM _),xt] at j4;have pn:=Yh o 161017 0 mem hm (by omega);rw[bx] at pn;have fN:=Yj hm iK (n:=x*y) (by rw[j4];rfl);refine ai ?_;repeat' (intro h<;>simp only[h,go_sem,go_sem_proc,fD,F,bt,nM,xy,yT,hm,kQ,pn,fN,ar]<;>try refine ah ?_ ?_)
abbrev Ra:Nat×Int->List Data:=λ(x,d)=>[dR x,.int .i64 d]
def Rb:=bU Ra λ(x,d)=>cp ((aZ x).length<=100000/\0<d/\d<1048576) (.same (.cP [dR (x/d.toNat),.int .i64 (x%d.toNat:Nat)]))
def auv:∀a b,Ra a=Ra b->a=b:=by
  rintro⟨gR,d1⟩ ⟨fS,d2⟩ h;simp only[bh,dR,Data.ay.injEq,Data.int.injEq] at h;exact ej (LK (map_inj fq _ _ h.1)) h.2.1.2
@[go_sem] def af3 (x d):=cz Rb rfl auv (x,d) rfl
def auw (T:ba)(fD:T qN=Ab yP vQ):WF T afq Rb:=by
 refine cf λ(x,d)=>cG λH=>⟨rfl,b7 ?_⟩;simp only[afq,Ra,b1];obtain⟨Q,Cl,j7⟩:=H;have ux:=nh x;have xt:=l9 x;generalize aO:aZ x=a at *;have lh:8*D a<=140737488355328:=by omega
 have eO:(D a)<=maxLen:=H6 _ (by omega);have kz:(d=0)=False:=by simp;omega
 simp only[go_sem,go_sem_proc,fD,dR,aO,lh,eO,H5,ar]
 refine da [0,1,6] [] (λ((n,r,o):Nat×Int×List Int) tm mem=>n<=D a/\D o=D a/\eX o/\0<=r/\r<d/\bg (a.drop n)=d*bg (o.drop n)+r/\tm 8=.M (.int .i64 ((n:Nat)-1))/\tm 7=.M (.int .i64 r)/\mem 176011=some (0,a6 aC o))
  (λ(n,_)=>n) (D a,0,dH (D a) 0) (by
   refine⟨bM _,by simp,λd Y=>by rw[Ia] at Y;omega,by omega,by omega,by simp[bg],?_,?_,?_⟩
   ·simp only[e8,reduceIte];rw[ev _]
   ·rfl
   ·rfl) ?_
 intro vs ms aW aR;simp only[go_sem,go_sem_proc,fD,dR,aO,ar] at aW aR;subst aW aR;rintro⟨n,r,o⟩ tm mem I-⟨aH,bx,iK,p7,Cm,aA,cN,cb,hm⟩;simp only[go_sem,go_sem_proc,fD,bh] at I;obtain⟨au,F,b2⟩:=I;rcases n with _|n
 ·have aY:bg o=(x/d.toNat:Nat)/\r=(x%d.toNat:Nat):=by
   rw[nG,nG,xt] at aA;have e:(d.toNat:Int)=d:=by omega
   constructor
   ·rw[Yv,e,aA,yU,af4 _ _ (by omega),Yw p7 Cm];omega
   ·rw[af5,e,aA,yU,af6,Yx p7 Cm]
  have g7:=Q5 o (by omega);rw[Ae iK,aY.1] at g7;have fB:O.ref 176011 0 1 0 (D a)=O.ref 176011 0 1 0 (D o):=by rw[bx]
  rw[fB] at b2;refine ai ?_;repeat' (intro h<;>simp only[h,go_sem,go_sem_proc,fD,au,F,b2,cb,cN,hm,g7,oQ iH,pr,p4,show ¬ ((0:Int)-1>=0) by omega,decide_false,g9]<;>try refine ah ?_ ?_)
  all_goals rw[aY.2]
 ·have qS:a[n]?=some a[n]:=bn (by omega);have Rc:=lJ ux n (by omega);have hw:((n+1:Nat):Int)-1=(n:Int):=by omega
  have fp:n<D o:=by omega
  have hv:IntKind.i64.wrap (r*2^min (Ex 20) 64)=r*1048576:=by
   rw[show min (Ex 20) 64=20 by decide]
   exact wrap64 _ (by omega) (by omega)
  have Cn:bits .or .i64 (r*1048576) a[n]=r*1048576+a[n]:=Xj r a[n] p7 (by omega) Rc;have mP:0<=(r*1048576+a[n])/d:=EW (by omega) (by omega)
  have s6:(r*1048576+a[n])/d<1048576:=af7 Cl (by
   have:(r+1)*1048576<=d*1048576:=nk (by omega) (by omega);rw[nI 1048576 d];omega)
  have s7:(r*1048576+a[n]).tdiv d=(r*1048576+a[n])/d:=Av (by omega);have EX:(r*1048576+a[n]).tmod d=(r*1048576+a[n])%d:=Mo (by omega);have nj:IntKind.i64.wrap ((r*1048576+a[n])/d)=(r*1048576+a[n])/d:=wrap64 _ (by omega) (by omega);have lK:n+1<=(a6 aC o).length:=by rw[qQ];omega
  have iW:=λd=>yR o n d fp;have h6:n<D a:=by omega
  have oT:IntKind.i64.wrap ((n:Int)-1)=(n:Int)-1:=wrap64 _ (by omega) (by omega);refine ai ?_;repeat' (intro h<;>simp only[h,go_sem,go_sem_proc,fD,au,F,b2,cb,cN,hm,hw,qS,hv,Cn,s7,EX,nj,oT,kz,h6,lK,iW,show (n:Int)>=0 by omega,decide_true,aC,dy,ar,bo,bh,show ¬ ((20:Int)<0) by omega]<;>try refine ah ?_ ?_)
  refine⟨(n,(r*1048576+a[n])%d,o.set n ((r*1048576+a[n])/d)),by dsimp only;omega,by dsimp only;omega,by simp[bx],At iK n ⟨mP,s6⟩,Ig _ (by omega),Yy _ Cl,?_,rfl,rfl,rfl⟩
  dsimp only;rw[iE (by omega:n<D a),iE (by simpa using fp:n<(o.set n ((r*1048576+a[n])/d)).length),um,um]
  simp only[As];rw[ub (by omega),aA];have:=Cj (r*1048576+a[n]) d;rw[iq,iq,Yz d 1048576];omega
def pad:Nat->Nat->List Int
 |0,_=>[]
 |n+1,x=>((x%1048576:Nat):Int)::pad n (x/1048576)
def auy (n x:Nat):(pad n x).length=n:=by
 induction n generalizing x with
 |zero=>rfl
 |succ n av=>simp[pad,av]
def auz (n x:Nat):eX (pad n x):=by
 induction n generalizing x with
 |zero=>intro d Y;cases Y
 |succ n av =>
  unfold pad;rw[Er];exact⟨by omega,av _⟩
def af8 {l:List Int}(h:eX l):l=pad (D l) (bg l).toNat:=by
 induction l with
 |nil=>rfl
 |cons d r av =>
  rw[Er] at h;have F:=po h.2;have G:=av h.2;simp only[hQ,pad,um]
  congr 1
  ·omega
  ·rw[show (d+1048576*bg r).toNat/1048576=(bg r).toNat by omega]
   exact G
def auA {n x:Nat}(h:x<1048576^n):bg (pad n x)=x:=by
 induction n generalizing x with
 |zero=>simp at h;subst h;rfl
 |succ n av =>
  unfold pad;rw[um,av (by rw[ae2 (by omega)];rwa [xk] at h)];omega
def Mp {pre u post:List Int}{i:Nat}(h:i<D u):fh 1 (ft (D pre+i) (a6 aC (pre++u++post)))=[.M (.int .i64 u[i])]:=by
 rw[Mi _ _ (by simp;omega)]
 congr 3
 simp[List.getElem_append,h]
def af9 {pre u post:List Int}{i:Nat}(h:i<D u)(d:Int):fh (D pre+i) (a6 aC (pre++u++post))++[.M (.int .i64 d)]++ft (D pre+i+1) (a6 aC (pre++u++post))=a6 aC (pre++u.set i d++post):=by
 rw[yR _ _ _ (by simp;omega)]
 congr 1
 rw[gr,List.set_append_right _ _ (by omega),HF,List.set_append_left _ _ h,gr]
def Rd (mem:Mem)(k g cV:Nat)(a b:List O):a4 (a4 mem k g a) k cV b=a4 mem k cV b:=by
 funext j
 unfold a4
 split<;>rfl
def auB {mem:Mem}{k g:Nat}{a:List O}(h:mem k=some (g,a)):a4 mem k g a=mem:=by
 funext j
 unfold a4
 split
 ·rename_i e;rw[e,h]
 ·rfl
structure Mq where
 pre:List Int
 u:List Int
 post:List Int
 V:Nat
 q:Int
 k:Key
 g:Nat
def Re (u:List Int)(V:Nat)(q:Int):Int:=if bg u-q*V<0 then bg u-q*V+V else bg u-q*V
def Co (u:List Int)(V:Nat)(q:Int):Int:=if bg u-q*V<0 then q-1 else q
def Cp (a:Mq):List O:=a6 aC (a.pre++pad (D a.u) (Re a.u a.V a.q).toNat++a.post)
def YA (a:Mq)(mem:Mem):Prop:=mem a.k=some (a.g,a6 aC (a.pre++a.u++a.post))/\eX a.u/\(aZ a.V).length<=D a.u/\0<=a.q/\a.q<1048576/\0<=bg a.u-a.q*a.V+a.V/\D a.pre+D a.u<=100000
def Mr:List O->Mem->Option (O×Mem):=HH (λ(a:Mq) args mem=>args=[.ref a.k a.g 1 (D a.pre) (D a.u),.M (dR a.V),.M (.int .i64 a.q)]/\YA a mem)
 (λa mem=>(.M (.int .i64 (Co a.u a.V a.q)),a4 mem a.k a.g (Cp a)))
def auC {a b:Nat}(h:dR a=dR b):a=b:=LK (map_inj fq _ _ (by simpa [dR] using h))
def auD (a:Mq)(mem:Mem)(h:YA a mem):Mr [.ref a.k a.g 1 (D a.pre) (D a.u),.M (dR a.V),.M (.int .i64 a.q)] mem=some (.M (.int .i64 (Co a.u a.V a.q)),a4 mem a.k a.g (Cp a)):=by
 unfold Mr;refine aeX (a:=a) ?_ ⟨rfl,h⟩;rintro a b args mem ⟨F,G,_⟩ ⟨af,aS,_⟩;rw[F] at af;simp only[bh,O.ref.injEq,O.M.injEq,Data.int.injEq,true_and,and_true] at af;obtain⟨⟨Me,Q6,Rf,aga⟩,agb,eq⟩:=af;have agc:=auC agb;clear agb;obtain⟨pre,u,post,V,q,k,g⟩:=a;obtain⟨aNi,aNj,aNk,aNl,uC,k',cV⟩:=b;simp only at Me Q6 Rf aga agc eq G aS;subst Me Q6 agc eq;rw[aS] at G;simp only[cl,e2,true_and] at G;have e:=Yg iH fq _ _ G (by omega);rw[gr,gr] at e;obtain⟨az,aD⟩:=HZ e Rf.symm;obtain⟨bX,dE⟩:=HZ aD aga.symm;subst az bX dE
 rfl
def auE (p xu vv sL c a b q:Int)(h:xu=vv-q*sL+p*c):xu+p*((a-c-q*b)%1048576)=vv+p*a-q*(sL+p*b)+p*1048576*(-((a-c-q*b)/1048576)):=by
 have F:=Cj (a-c-q*b) 1048576
 have G:p*((a-c-q*b)%1048576)+p*1048576*((a-c-q*b)/1048576)=p*(a-c-q*b):=by
  rw[ir,<-iq,F]
 have af:p*(a-c-q*b)=p*a-p*c-p*(q*b):=by rw[H8,H8]
 have aS:q*(sL+p*b)=q*sL+p*(q*b):=by rw[iq,Yz]
 rw[Ih];omega
def agd {a c q b:Int}(aO:0<=a/\a<1048576)(H:0<=c/\c<=1048576)(aY:0<=q/\q<1048576)(ad:0<=b/\b<1048576):
  0<=q*b/\q*b<=1099509530625/\0 <= -((a-c-q*b)/1048576) /\ -((a-c-q*b)/1048576)<=1048576:=by
 have F:0<=q*b:=uA aY.1 ad.1;have G:q*b<=1048575*1048575:=H9 (by omega) (by omega) ad.1 (by omega);omega
def auF (T:ba)(a:Mq)(ez:Mem)(H:YA a ez):
  wp T QV.body (HG QV.res (.M (.int .i64 (Co a.u a.V a.q))) (a4 ez a.k a.g (Cp a))) ⟨iC [.ref a.k a.g 1 (D a.pre) (D a.u),.M (dR a.V),.M (.int .i64 a.q)],ez⟩:=by
 obtain⟨pre,u,post,V,q,k,g⟩:=a;obtain⟨kv,vW,Wr,mP,s6,mQ,hlen⟩:=H;simp only at kv vW Wr mP s6 mQ hlen ⊢;have Aw:=nh V;have Lv:=l9 V;have YB:=g8.1 Wr;refine pf ?_;simp only[QV];simp only[go_sem,go_sem_proc,dR];generalize ad:aZ V=v at *
 refine da [0,1,2,13] [] (λ((i,c,w):Nat×Int×List Int) tm mem=>i<=D u/\D w=D u/\eX w/\w.drop i=u.drop i/\(0<=c/\c<=1048576)/\bg (w.take i)=bg (u.take i)-q*bg (v.take i)+1048576^i*c/\tm 14=.M (.int .i64 (i:Nat))/\tm 7=.M (.int .i64 c)/\mem=a4 ez k g (a6 aC (pre++w++post)))
  (λ(i,_)=>D u-i) (0,0,u) (by refine⟨fy _,rfl,vW,rfl,by omega,by simp[bg],rfl,rfl,(auB kv).symm⟩) ?_
 intro vs ms aW aR;simp only[go_sem,go_sem_proc] at aW aR;subst aW aR;rintro⟨i,c,w⟩ tm _ I-⟨J,hw,r7,qV,H,j4,Cq,cb,rfl⟩;simp only[go_sem,go_sem_proc,bh] at I;obtain⟨au,F,G,qW⟩:=I;rcases dq (i<D u) with aq|ca
 ·have yV:i<D w:=by omega
  have auG:w[i]=u[i]:=by
   have F:=iE yV;rw[qV,iE aq] at F;exact (xx F).1.symm
  have qX:w.drop (i+1)=u.drop (i+1):=by
   have F:=iE yV;rw[qV,iE aq] at F;exact (xx F).2.symm
  have kR:=Mp (pre:=pre) (post:=post) yV;rw[auG] at kR;have age:=lJ vW i aq;have uf:=lI u i aq;generalize u[i]=vX at *;have hv:IntKind.i64.wrap ((i:Int)+1)=((i+1:Nat):Int):=by rw[ev _];rfl
  have nj:IntKind.i64.wrap (vX-c)=vX-c:=wrap64 _ (by omega) (by omega);have lK:(D pre)+i+1<=(a6 aC (pre++w++post)).length:=by rw[qQ];simp;omega
  have iW:=λd=>af9 (pre:=pre) (post:=post) yV d;have nL:decide ((i:Int)<(D u:Int))=true:=cX
  have fin:∀bi:Int,0<=bi->bi<1048576->bg (v.take (i+1))=bg (v.take i)+1048576^i*bi ->
    ∃bj:Nat×Int×List Int,D u-bj.1<D u-i/\bj.1<=D u/\bj.2.2.length=D u/\eX bj.2.2/\bj.2.2.drop bj.1=u.drop bj.1/\(0<=bj.2.1/\bj.2.1<=1048576)/\bg (bj.2.2.take bj.1)=bg (u.take bj.1)-q*bg (v.take bj.1)+1048576^bj.1*bj.2.1 /\
     O.M (Data.int .i64 ((i+1:Nat):Int))=O.M (Data.int .i64 (bj.1:Int))/\O.M (Data.int .i64 (-((vX-c-q*bi)/1048576)))=O.M (Data.int .i64 bj.2.1)/\a4 ez k g (a6 aC (pre++w.set i ((vX-c-q*bi)%1048576)++post))=a4 ez k g (a6 aC (pre++bj.2.2++post)):=by
   intro bi s4 lh EV;obtain⟨dw,cv,p6,oU⟩:=agd age H ⟨mP,s6⟩ ⟨s4,lh⟩;refine⟨(i+1,-((vX-c-q*bi)/1048576),w.set i ((vX-c-q*bi)%1048576)),by dsimp only;omega,by dsimp only;omega,by simp[hw],At r7 i (by omega),?_,⟨p6,oU⟩,?_,rfl,rfl,rfl⟩
   ·dsimp only;rw[ub (by omega),qX]
   ·dsimp only;rw[lI _ _ (by simpa using yV),ET,uf,EV,nH];simp only[As];exact auE _ _ _ _ _ _ _ _ j4
  rcases dq (i<D v) with r6|Yo
  ·have qT:v[i]?=some v[i]:=bn r6;have vV:=lJ Aw i r6;have YC:=lI v i r6;generalize v[i]=bi at *;obtain⟨dw,cv,p6,oU⟩:=agd age H ⟨mP,s6⟩ vV;have oT:IntKind.i64.wrap (q*bi)=q*bi:=wrap64 _ (by omega) (by omega);have Ic:IntKind.i64.wrap (vX-c-q*bi)=vX-c-q*bi:=wrap64 _ (by omega) (by omega);have Ck:IntKind.i64.wrap (0-(vX-c-q*bi)/1048576) = -((vX-c-q*bi)/1048576):=by rw[ev _];omega
   have kQ:decide ((i:Int)<(D v:Int))=true:=cX;refine ai ?_;repeat' (intro (aw:_=_)<;>simp only[aw,go_sem,go_sem_proc,au,F,G,qW,Cq,cb,qT,hv,nj,oT,Ic,Ck,kQ,nL,aq,lK,kR,iW,Rd,Ag,xl,aC,dy,ar,bo,bh,show ¬ ((20:Int)<0) by omega]<;>try refine ah ?_ ?_)
   exact fin bi vV.1 vV.2 YC
  ·have kQ:decide ((i:Int)<(D v:Int))=false:=cA;have Ck:IntKind.i64.wrap (0-(vX-c)/1048576) = -((vX-c)/1048576):=by rw[ev _];omega
   refine ai ?_;repeat' (intro (aw:_=_)<;>simp only[aw,go_sem,go_sem_proc,au,F,G,qW,Cq,cb,hv,nj,Ck,kQ,nL,aq,lK,kR,iW,Rd,Ag,xl,aC,dy,ar,bo,bh,show ¬ ((20:Int)<0) by omega]<;>try refine ah ?_ ?_)
   have:=fin 0 (by omega) (by omega) (by rw[dt (by omega),dt (by omega)];simp);simp only[yW,Mn] at this;exact this
 ·obtain rfl:i=D u:=by omega
  have nL:decide ((D u:Int)<(D u:Int))=false:=cA;rw[dt (by omega),dt (by omega),dt (by omega),Lv] at j4;have auH:=Ad r7;have aNm:=po r7;rw[hw] at auH
  have aNn:(V:Int)<1048576^(D u):=by
   have h:=Int.ofNat_lt.2 YB;rw[EY] at h;exact h
  by_cases mN:c=0
  ·subst mN;have YD:bg u-q*V=bg w:=by omega
   have az:Co u V q=q:=by unfold Co;rw[ae (by omega)]
   have aD:Cp ⟨pre,u,post,V,q,k,g⟩=a6 aC (pre++w++post):=by
    unfold Cp Re;simp only;rw[ae (by omega),YD,<-hw,<-af8 r7]
   refine ai ?_;repeat' (intro (aw:_=_)<;>simp only[aw,go_sem,go_sem_proc,au,F,G,qW,Cq,cb,nL,az,aD,beq_self_eq_true]<;>try refine ah ?_ ?_)
  ·have YE:(c==0)=false:=by simpa using mN
   have kS:(1048576:Int)^(D u)<=1048576^(D u)*c:=by
    have:(1048576:Int)^(D u)*1<=1048576^(D u)*c:=Ar (by omega) (by omega);omega
   have lL:bg u-q*V<0:=by omega
   have YF:IntKind.i64.wrap (q-1)=q-1:=wrap64 _ (by omega) (by omega);simp only[go_sem,go_sem_proc,au,F,G,qW,Cq,cb,nL,YE]
   refine da [0,1,2,48] [] (λ((i,d,z):Nat×Int×List Int) tm mem=>i<=D u/\D z=D u/\eX z/\z.drop i=w.drop i/\(0<=d/\d<=1)/\bg (z.take i)+1048576^i*d=bg (w.take i)+bg (v.take i)/\tm 49=.M (.int .i64 (i:Nat))/\tm 10=.M (.int .i64 d)/\mem=a4 ez k g (a6 aC (pre++z++post)))
    (λ(i,_)=>D u-i) (0,0,w) (by refine⟨fy _,hw,r7,rfl,by omega,by simp[bg],rfl,rfl,rfl⟩) ?_
   intro vs ms aW aR;simp only[go_sem,go_sem_proc,au,F,G] at aW aR;subst aW aR;rintro⟨i,d,z⟩ tm _ I-⟨J,aV,Ax,qV,Y,agf,YG,g3,rfl⟩;simp only[go_sem,go_sem_proc,bh] at I;obtain⟨au,F,G,YH⟩:=I;rcases dq (i<D u) with aq|ca
   ·have Ms:i<D z:=by omega
    have yV:i<D w:=by omega
    have auI:z[i]=w[i]:=by
     have F:=iE Ms;rw[qV,iE yV] at F;exact (xx F).1.symm
    have Cr:z.drop (i+1)=w.drop (i+1):=by
     have F:=iE Ms;rw[qV,iE yV] at F;exact (xx F).2.symm
    have kR:=Mp (pre:=pre) (post:=post) Ms;rw[auI] at kR;have Mt:=lJ r7 i yV;have uf:=lI w i yV;generalize w[i]=Cs at *;have hv:IntKind.i64.wrap ((i:Int)+1)=((i+1:Nat):Int):=by rw[ev _];rfl
    have nj:IntKind.i64.wrap (d+Cs)=d+Cs:=wrap64 _ (by omega) (by omega);have lK:(D pre)+i+1<=(a6 aC (pre++z++post)).length:=by rw[qQ];simp;omega
    have iW:=λd=>af9 (pre:=pre) (post:=post) Ms d;have nL:decide ((i:Int)<(D u:Int))=true:=cX
    have fin:∀bi:Int,0<=bi->bi<1048576->bg (v.take (i+1))=bg (v.take i)+1048576^i*bi ->
      ∃bj:Nat×Int×List Int,D u-bj.1<D u-i/\bj.1<=D u/\bj.2.2.length=D u/\eX bj.2.2/\bj.2.2.drop bj.1=w.drop bj.1/\(0<=bj.2.1/\bj.2.1<=1)/\bg (bj.2.2.take bj.1)+1048576^bj.1*bj.2.1=bg (w.take bj.1)+bg (v.take bj.1) /\
       O.M (Data.int .i64 ((i+1:Nat):Int))=O.M (Data.int .i64 (bj.1:Int))/\O.M (Data.int .i64 ((d+Cs+bi)/1048576))=O.M (Data.int .i64 bj.2.1)/\a4 ez k g (a6 aC (pre++z.set i ((d+Cs+bi)%1048576)++post))=a4 ez k g (a6 aC (pre++bj.2.2++post)):=by
     intro bi s4 lh EV;refine⟨(i+1,(d+Cs+bi)/1048576,z.set i ((d+Cs+bi)%1048576)),by dsimp only;omega,by dsimp only;omega,by simp[aV],At Ax i (by omega),?_,by dsimp only;omega,?_,rfl,rfl,rfl⟩
     ·dsimp only;rw[ub (by omega),Cr]
     ·dsimp only;rw[lI _ _ (by simpa using Ms),ET,uf,EV,nH];simp only[As];exact afR _ _ _ _ _ _ _ agf
    rcases dq (i<D v) with r6|Yo
    ·have qT:v[i]?=some v[i]:=bn r6;have vV:=lJ Aw i r6;have YC:=lI v i r6;generalize v[i]=bi at *;have oT:IntKind.i64.wrap (d+Cs+bi)=d+Cs+bi:=wrap64 _ (by omega) (by omega);have kQ:decide ((i:Int)<(D v:Int))=true:=cX;refine ai ?_;repeat' (intro (aw:_=_)<;>simp only[aw,go_sem,go_sem_proc,au,F,G,YH,YG,g3,qT,hv,nj,oT,kQ,nL,aq,lK,kR,iW,Rd,Ag,xl,aC,dy,ar,bo,bh,show ¬ ((20:Int)<0) by omega]<;>try refine ah ?_ ?_)
     exact fin bi vV.1 vV.2 YC
    ·have kQ:decide ((i:Int)<(D v:Int))=false:=cA;refine ai ?_;repeat' (intro (aw:_=_)<;>simp only[aw,go_sem,go_sem_proc,au,F,G,YH,YG,g3,hv,nj,kQ,nL,aq,lK,kR,iW,Rd,Ag,xl,aC,dy,ar,bo,bh,show ¬ ((20:Int)<0) by omega]<;>try refine ah ?_ ?_)
     have:=fin 0 (by omega) (by omega) (by rw[dt (by omega),dt (by omega)];simp);simp only[Ay] at this;exact this
   ·obtain rfl:i=D u:=by omega
    have nL:decide ((D u:Int)<(D u:Int))=false:=cA;rw[dt (by omega),dt (by omega),dt (by omega),Lv] at agf;have auJ:=Ad Ax;have aNo:=po Ax;rw[aV] at auJ
    have YD:bg u-q*V+V=bg z:=by
     have e:bg u-q*V+V-bg z=1048576^(D u)*(d-c):=by rw[H8];omega
     generalize (1048576:Int)^(D u)=p at *;rcases Ct (d-c) 0 with h|h|h
     ·have:p*(d-c)<=p*(-1):=Ar (by omega) (by omega);omega
     ·rw[h,yW] at e;omega
     ·have:p*1<=p*(d-c):=Ar (by omega) (by omega);omega
    have az:Co u V q=q-1:=by unfold Co;rw[ab lL]
    have aD:Cp ⟨pre,u,post,V,q,k,g⟩=a6 aC (pre++z++post):=by
     unfold Cp Re;simp only;rw[ab lL,YD,<-aV,<-af8 Ax]
    refine ai ?_;repeat' (intro (aw:_=_)<;>simp only[aw,go_sem,go_sem_proc,au,F,G,YH,YG,g3,nL,az,aD,YF]<;>try refine ah ?_ ?_)
def auK {T V P yX Ii v1 v2 top jr q r:Int}(r2:V=(v1*1048576+v2)*P+yX)(cQ:T=(top*1048576+jr)*P+Ii)(gw:0<P)(agh:0<=yX)(Rg:Ii<P)(mP:0<=q)(auL:0<=V)
  (YI:T<1048576*V) (EZ:q*v1+r=top) (H:q>=1048576\/q*v2>r*1048576+jr):T<q*V:=by
 rcases H with h|h
 ·have:=nk h auL;omega
 ·have F:(top*1048576+jr+1)*P<=(q*(v1*1048576+v2))*P:=by
   refine nk ?_ (by omega);rw[iq,<-ir];have:q*v1*1048576=(top-r)*1048576:=by rw[<-EZ];congr 1;omega
   omega
  have G:q*V=(q*(v1*1048576+v2))*P+q*yX:=by rw[r2,iq,<-ir]
  have af:0<=q*yX:=uA mP agh;rw[uB _ 1,r8] at F;omega
def agi {T V P yX Ii v1 v2 top jr q r:Int}(r2:V=(v1*1048576+v2)*P+yX)(cQ:T=(top*1048576+jr)*P+Ii)(gw:0<P)(agh:0<=yX/\yX<P)(Rg:0<=Ii)(mP:0<=q)(s6:q<1048576)(pW:524288<=v1)(pX:0<=v2/\v2<1048576)(adK:0<=jr)
  (EZ:q*v1+r=top) (H:r>=1048576\/q*v2<=r*1048576+jr):0<=T-q*V+V:=by
 have G:q*V=(q*(v1*1048576+v2))*P+q*yX:=by rw[r2,iq,<-ir]
 have af:q*yX<=q*P:=Ar (by omega) mP;have aS:q*P<=1048576*P:=nk (by omega) (by omega);have bt:1048576*P<=(v1*1048576+v2)*P:=nk (by omega) (by omega);have e:q*v1*1048576=(top-r)*1048576:=by rw[<-EZ];congr 1;omega
 rcases H with h|h
 ·have b2:q*v2+q<=1048576*1048576:=by
   have cb:q*(v2+1)<=1048576*1048576:=H9 (by omega) (by omega) (by omega) (by omega);rw[iq,vT] at cb;exact cb
  have cN:(q*(v1*1048576+v2)+q)*P<=(top*1048576+jr)*P:=by
   refine nk ?_ (by omega);rw[iq,<-ir];omega
  rw[uB _ q] at cN;omega
 ·have cN:(q*(v1*1048576+v2))*P<=(top*1048576+jr)*P:=by
   refine nk ?_ (by omega);rw[iq,<-ir];omega
  omega
def auM {T V q:Int}(r2:0<V)(F:T<(q+1)*V)(G:0<=T-q*V+V):(if T-q*V<0 then q-1 else q)=T/V/\(if T-q*V<0 then T-q*V+V else T-q*V)=T%V:=by
 have af:(q+1)*V=q*V+V:=by rw[uB,r8]
 have aS:(q-1)*V=q*V-V:=by rw[agj,r8]
 have key:∀d r:Int,T=d*V+r->0<=r->r<V->d=T/V/\r=T%V:=by
  intro d r h au bt
  constructor
  ·rw[h,yU,Int.add_mul_ediv_right _ _ (by omega),Yw au bt];omega
  ·rw[h,yU,Int.add_mul_emod_self_right,Yx au bt]
 split
 ·exact key (q-1) _ (by omega) (by omega) (by omega)
 ·exact key q _ (by omega) (by omega) (by omega)
def agk {v:List Int}{N:Nat}(h:(D v)=N+2):bg v=(v[N+1]*1048576+v[N])*1048576^N+bg (v.take N):=by
 have e:v=v.take (N+1+1):=by rw[dt (by omega)]
 conv=>lhs;rw[e]
 rw[lI v (N+1) (by omega),lI v N (by omega),nH,uB,nI (v[N]),Cu (v[N+1]),nI (v[N+1])];have:(1048576:Int)^N*1048576*v[N+1]=1048576^N*v[N+1]*1048576:=by rw[Cu]
 omega
def auN {v:List Int}{N:Nat}(h:(D v)=N+3):bg v=((v[N+2]*1048576+v[N+1])*1048576+v[N])*1048576^N+bg (v.take N):=by
 have e:v=v.take (N+1+1+1):=by rw[dt (by omega)]
 conv=>lhs;rw[e]
 rw[lI v (N+1+1) (by omega),lI v (N+1) (by omega),lI v N (by omega)];simp only[nH];generalize (1048576:Int)^N=p;rw[uB,uB,uB,Cu (v[N+2]*1048576),Cu (v[N+2]),nI (v[N+2]),Cu (v[N+1]),nI (v[N+1]),nI (v[N])];have F:p*1048576*v[N+1]=p*v[N+1]*1048576:=by rw[Cu]
 have G:p*1048576*1048576*v[N+1+1]=p*v[N+2]*1048576*1048576:=by rw[Cu,Cu p]
 omega
def auO {u:List Int}{i n:Nat}{V:Int}(Y:eX u)(ak:i+n+1<=D u)(gI:bg (u.drop (i+1))<V)(r2:V<1048576^n):
  ∃pre gd post,u=pre++gd++post/\D pre=i/\D gd=n+1/\eX pre/\eX gd/\eX post/\bg post=0/\∃dG,gd[0]?=some dG/\u.take (i+1)=pre++[dG]/\bg gd=dG+1048576*bg (u.drop (i+1))/\0<=bg (u.drop (i+1))/\0<=dG/\dG<1048576:=by
 have e:u=u.take i++(u.drop i).take (n+1)++u.drop (i+n+1):=by
  rw[gr,qA,<-Hv,ui,ui]
 have agl:=e ▸ Y;rw[Es,Es] at agl;obtain⟨⟨d1,d2⟩,d3⟩:=agl;have aq:i<D u:=by omega
 have qV:=iE aq;have Az:((u.drop i).take (n+1)).length=n+1:=by simp;omega
 have agm:bg (u.drop (i+1))=bg ((u.drop (i+1)).take n)+1048576^n*bg (u.drop (i+n+1)):=by
  have:=LL (u.drop (i+1)) n;rw[r0,oO (by omega),Hv] at this;rw[this]
  congr 3
  rw[show i+1+n=i+n+1 by omega]
 have aF:=po d3;have bz:0<=bg ((u.drop (i+1)).take n):=po (λx Q=>Y x (Ij (D9 Q)))
 have qY:bg (u.drop (i+n+1))=0:=by
  rcases dq (0<bg (u.drop (i+n+1))) with h|h
  ·have:(1048576:Int)^n*1<=1048576^n*bg (u.drop (i+n+1)):=Ar (by omega) (Int.pow_nonneg (by omega));omega
  ·omega
 refine⟨_,_,_,e,by simp;omega,Az,d1,d2,d3,qY,u[i],?_,?_,?_,?_,(lJ Y i aq).1,(lJ Y i aq).2⟩
 ·rw[List.getElem?_take_of_lt (by omega),lE];simp[aq]
 ·rw[hF,bn aq];rfl
 ·rw[qV,vx,um,agm,qY];simp
 ·rw[agm,qY];simpa using bz
def auP (l:List Int)(h:(D l)<=1000000):mA 157054 0 1 (D l) 8 1 [.M (.int .i64 0)] (some (0,((l.map aC).flatten.map O.M)))=some (.ref 157054 1 1 0 (D l+1),some (157054,1,a6 aC (l++[0]))) :=
 l8 iH vE 157054 0 8 l 0 rfl (by omega) (by omega)
def Mu:=bU ni λ(x,y)=>cp ((aZ x).length<=1000/\(aZ y).length<=1000/\0<y) (.same (.cP [dR (x/y),dR (x%y)]))
@[go_sem] def agn (x y):=cz Mu rfl yS (x,y) rfl
def auQ (T:ba)(j8:T EB=aQ H7)(gS:T vK=aQ Ao)(pt:T QM=aQ Rb)(fD:T qN=Ab yP vQ)(nm:T HL=aQ Ml)(pv:T XE=Ce Mr):WF T afi Mu:=by
 refine cf λ(x,y)=>cG λH=>⟨rfl,b7 ?_⟩;simp only[afi,ni,b1];obtain⟨Q,al,jc⟩:=H;have hE:(aZ x).length<=1000000/\(aZ y).length<=1000000:=by omega
 have ia:=Yk x y hE;have tT:(aZ x).length<=1000000:=by omega
 by_cases j5:x<y
 ·have uD:iI x y = -1:=by unfold iI;rw[ab (by simpa using j5)]
  have ee:=afK (aZ x) tT;rw[uD] at ia
  change Ao [dR x]=_ at ee
  refine ai ?_;repeat' (intro (aw:_=_)<;>simp only[aw,go_sem,go_sem_proc,j8,gS,pt,fD,nm,pv,ia,ee,show ((-1:Int)<0) by omega,decide_true]<;>try refine ah ?_ ?_)
  rw[W8 j5,LH j5]
  try rfl
 ·have uD:decide (iI x y<0)=false:=by
   unfold iI;rw[ae (by simp;omega)]
   split<;>rfl
  have aNp:aZ y≠[]:=by rw[Ne,Ac];omega
  by_cases F:y<1048576
  ·have r5:=Ew jc F;have kO:=af3 x y ⟨by omega,by omega,by omega⟩
   have a3:=Q5 [((x%y:Nat):Int)] (by simp);have aq:x%y<y:=oS _ jc;rw[g9] at kO
   have s7:gb [((x%y:Nat):Int)]=aZ (x%y):=by
    generalize x%y=r at aq ⊢;rw[Ae (by intro d Y;rw[vY] at Y;omega)];simp only[bg]
    congr 1
   rw[s7] at a3;have Mv:dR y=.ay [[.int .i64 y]]:=by unfold dR;rw[r5];rfl
   change yP [.ay [[.int .i64 _]]]=_ at a3
   rw[Mv] at ia;refine ai ?_;repeat' (intro (aw:_=_)<;>simp only[aw,go_sem,go_sem_proc,j8,gS,pt,fD,nm,pv,Mv,ia,uD,kO,a3,show (((1:Nat):Int)==1)=true from rfl]<;>try refine ah ?_ ?_)
   try rfl
  ·obtain⟨N,gi⟩:∃N,(aZ y).length=N+2:=by
    have:=mt (g8 (n:=y) (k:=1)).1 (by simpa using F);exact⟨(aZ y).length-2,by omega⟩
   have r5:=nh y;have mO:(((aZ y).length:Int)==1)=false:=by simp;omega
   have Az:IntKind.i64.wrap (((aZ y).length:Int)-1)=((N+1:Nat):Int):=by rw[ev _];omega
   have kx:(aZ y)[N+1]?=some (aZ y)[N+1]:=bn (by omega);have ago:=lJ r5 (N+1) (by omega)
   have aNq:(aZ y)[N+1]≠0:=by
    intro h;have:=ae1 y;rw[List.getLast?_eq_getElem?,gi] at this;exact this (by rw[show N+2-1=N+1 by omega,kx,h])
   have YJ:=agk gi;rw[l9] at YJ;have auR:=Ad (Aq r5 N);have aNr:=po (Aq r5 N);have aNs:=lJ r5 N (by omega);rw[gE,oO (by omega)] at auR;generalize (aZ y)[N+1]=c6 at *;generalize (aZ y)[N]=sU at *;generalize bg ((aZ y).take N)=YK at *;have agp:((aZ y).map aC)[N+1]?=some [.int .i64 c6]:=by rw[bo,kx];rfl
   simp only[go_sem,go_sem_proc,j8,gS,pt,fD,nm,pv,dR,ia,uD,mO,ar];have agq:=ia;unfold dR at agq;simp only[go_sem,go_sem_proc,j8,gS,pt,fD,nm,pv,agq,uD,mO,ar];refine da [0,1] [157054,157075] (λ(κ:Nat) tm mem=>c6*2^κ<1048576/\tm 8=.M (.int .i64 (2^κ))) (λκ=>20-κ) 0 (by refine⟨by omega,rfl⟩) ?_;intro vs ms aW aR;simp only[go_sem,go_sem_proc,j8,gS,pt,fD,nm,pv,ar] at aW aR;subst aW aR;rintro κ tm mem I hm ⟨aNt,cN⟩;simp only[go_sem,go_sem_proc,j8,gS,pt,fD,nm,pv,bh] at I hm;obtain⟨au,z8⟩:=I;obtain⟨Mw,nN⟩:=hm;have aNu:(0:Int)<2^κ:=Mx (by omega)
   have aNv:(2:Int)^κ<=c6*2^κ:=by
    have:1*(2:Int)^κ<=c6*2^κ:=nk (by omega) (by omega);omega
   have hκ:κ<20:=by
    rcases iD κ 20 with h|h
    ·exact h
    ·have:(2:Int)^20<=2^κ:=by
      have:=xz (n:=2) (by omega) h;have cj:=Int.ofNat_le.2 this;rwa [EY,EY] at cj
     omega
   have YL:IntKind.i64.wrap (c6*2^κ)=c6*2^κ:=wrap64 _ (by omega) (by omega);have auS:IntKind.i64.wrap (2^κ*2)=2^κ*2:=wrap64 _ (by omega) (by omega);rcases dq (c6*2^κ<524288) with aq|ca
   ·refine ai ?_;repeat' (intro (aw:_=_)<;>simp only[aw,go_sem,go_sem_proc,j8,gS,pt,fD,nm,pv,au,z8,cN,Az,agp,YL,auS,aq,Mw,nN,decide_true,dy,ar]<;>try refine ah ?_ ?_)
    exact⟨κ+1,by omega,by rw[nH,<-ir];omega,by rw[nH]⟩
   ·-- the numbers, shifted
    have auT:(c6+1)*2^κ<=1048576:=by
     have e:(1048576:Int)=2^(20-κ)*2^κ:=by rw[<-af2,show 20-κ+κ=20 by omega];rfl
     have F:c6<2^(20-κ):=by
      rcases dq (c6<2^(20-κ)) with h|h
      ·exact h
      ·have:(2:Int)^(20-κ)*2^κ<=c6*2^κ:=nk (by omega) (by omega);omega
     rw[e];exact nk (by omega) (by omega)
    generalize (2:Int)^κ=s at *;obtain⟨S,rfl⟩:∃S:Nat,s=S:=⟨s.toNat,by omega⟩
    have gw:(0:Int)<1048576^N:=Mx (by omega);have E0:0<S:=by omega
    have YB:y*S<1048576^(N+2):=by
     have F:((y*S:Nat):Int)<1048576^(N+2):=by
      rw[agr,YJ,nH,nH];generalize (1048576:Int)^N=p at *
      have az:((c6*1048576+sU)*p+YK)*S<=((c6+1)*1048576*p)*S:=by
       refine nk ?_ (by omega);have:(c6*1048576+sU+1)*p<=((c6+1)*1048576)*p:=nk (by omega) (by omega);rw[uB _ 1] at this;omega
      have ags:((c6*1048576+sU)*p+YK)*S<((c6+1)*1048576*p)*S:=by
       refine Int.mul_lt_mul_of_pos_right ?_ (by omega);have:(c6*1048576+sU+1)*p<=((c6+1)*1048576)*p:=nk (by omega) (by omega);rw[uB _ 1] at this;omega
      have aD:((c6+1)*1048576*p)*S=((c6+1)*S)*(p*1048576):=by
       rw[ir (c6+1),ir,nI (1048576*p),<-ir,nI 1048576 p]
      have bX:((c6+1)*S)*(p*1048576)<=1048576*(p*1048576):=nk auT (by omega);omega
     have G:((1048576^(N+2):Nat):Int)=1048576^(N+2):=by rw[EY];rfl
     omega
    have aNw:524288*(1048576^N*1048576)<=((y*S:Nat):Int):=by
     rw[agr,YJ];generalize (1048576:Int)^N=p at *
     have az:(c6*1048576)*p*S<=((c6*1048576+sU)*p+YK)*S:=by
      refine nk ?_ (by omega);have:(c6*1048576)*p<=(c6*1048576+sU)*p:=nk (by omega) (by omega);omega
     have aD:(c6*1048576)*p*S=(c6*S)*(p*1048576):=by
      rw[ir c6,ir,nI (1048576*p),<-ir,nI 1048576 p]
     have bX:524288*(p*1048576)<=(c6*S)*(p*1048576):=nk (by omega) (by omega);omega
    have My:(aZ (y*S)).length=N+2:=by
     have F:=g8.2 YB
     have G:=mt (g8 (n:=y*S) (k:=N+1)).1 (by
      have G:((1048576^(N+1):Nat):Int)=1048576^N*1048576:=by rw[EY,nH];rfl
      omega)
     omega
    have aNx:1*x<=x*S:=by rw[sT];exact agt x E0
    have aNy:(aZ x).length<=(aZ (x*S)).length:=by
     rw[g8];have:=g8.1 (bM (aZ (x*S)).length);omega
    have aNz:y*S<=x*S:=sN S (by omega)
    have aNA:N+2<=(aZ (x*S)).length:=by
     rw[<-My,g8];have:=g8.1 (bM (aZ (x*S)).length);omega
    have aNB:(aZ (x*S)).length<=1001:=by
     have:∀k,(aZ x).length<=k->(aZ (x*S)).length<=k+1:=by
      intro k I;rw[g8];have F:=g8.1 I;rw[xk];exact DV (Nat.mul_lt_mul_of_pos_right F E0) (agt _ (by omega))
     exact this 1000 Q
    have h4:=Yt x S ⟨by omega,by rw[Ew E0 (by omega)];simp⟩
    have YM:=Yt y S ⟨by omega,by rw[Ew E0 (by omega)];simp⟩
    have auU:dR S=.ay [[.int .i64 (S:Int)]]:=by unfold dR;rw[Ew E0 (by omega)];rfl
    rw[auU] at h4 YM;simp only[dR] at h4 YM;have dN:=auP (aZ (x*S)) (by omega);have auV:((((aZ (x*S)).length+1:Nat):Int)==((aZ x).length:Int))=false:=by simp;omega
    have auW:=l9 (y*S);have Rh:=nh (y*S);have auX:=l9 (x*S);have agu:=nh (x*S);have auY:dR (y*S)=.ay ((aZ (y*S)).map aC):=rfl;generalize auZ:aZ (y*S)=v at *;generalize aNC:aZ (x*S)=mc at *;have YF:IntKind.i64.wrap (((D mc+1:Nat):Int)-(D v:Int))=((D mc-N-1:Nat):Int):=by rw[ev _];omega
    have s6:8*(D mc-N-1)<=140737488355328:=by omega
    have Ik:(D mc)-N-1<=maxLen:=H6 _ (by omega);have Il:decide (c6*(S:Int)<524288)=false:=lZ ca;simp only[go_sem,go_sem_proc,j8,gS,pt,fD,nm,pv,au,z8,cN,Mw,nN,Az,agp,YL,Il,h4,YM,dN,auV,YF,s6,Ik,H5,dy,ar];have kT:(D mc)-N-1+(N+2)=D mc+1:=by omega
    generalize aND:(D mc)-N-1=bb at *;have ha:(D mc)=bb+N+1:=by omega
    have vZ:=agk My;rw[auW] at vZ;have YN:=Ad (Aq Rh N);have YO:=po (Aq Rh N);rw[gE,oO (by omega)] at YN;have au0:v[N+1]?=some v[N+1]:=bn (by omega);have Ri:v[N]?=some v[N]:=bn (by omega);have Cm:=lJ Rh (N+1) (by omega);have p7:=lJ Rh N (by omega);generalize v[N+1]=v1 at *;generalize v[N]=v0 at *;generalize bg (v.take N)=vlow at *
    have pW:524288<=v1:=by
     generalize (1048576:Int)^N=p at *;rcases dq (524288<=v1) with h|h
     ·exact h
     ·have G:(v1*1048576+v0+1)*p<=(524288*1048576)*p:=nk (by omega) (by omega);rw[uB _ 1,r8] at G;omega
    have au1:((y*S:Nat):Int)<1048576^(N+2):=by
     have G:((1048576^(N+2):Nat):Int)=1048576^(N+2):=by rw[EY];rfl
     omega
    have YP:0<((y*S:Nat):Int):=by
     have:0<1048576^N*(1048576:Int):=Int.mul_pos gw (by omega);omega
    have au2:bg ((mc++[0]).drop bb)<((y*S:Nat):Int):=by
     have e:(mc++[0]).drop bb=mc.drop bb++[0]:=by rw[List.drop_append_of_le_length (by omega)]
     rw[e,Et];have F:=Ad (λd Y=>agu d (Ij Y):eX (mc.drop bb));rw[r0,show (D mc)-bb=N+1 by omega,nH] at F
     simp only[bg];omega
    have au3:((x*S:Nat):Int)=bg ((mc++[0]).take bb)+1048576^bb*bg ((mc++[0]).drop bb):=by
     have:=LL (mc++[0]) bb;rw[Et,auX,oO (by simp;omega)] at this
     simpa [bg] using this
    generalize agv:y*S=hk at *;generalize agw:x*S=Im at *
    refine da [8,9,10,11,12] [] (λ((j,u,eP):Nat×List Int×List Int) tm mem=>j<=bb/\D u=D mc+1/\eX u/\D eP=bb/\eX eP/\bg (u.drop j)<hk/\(Im:Int)=bg (u.take j)+1048576^j*(hk*bg (eP.drop j)+bg (u.drop j)) /\
      tm 13=.M (.int .i64 ((j:Nat)-1))/\mem 157054=some (1,a6 aC u)/\mem 157075=some (0,a6 aC eP)) (λ(j,_)=>j) (bb,mc++[0],dH bb 0)
     (by
      refine⟨bM _,by simp,Es.2 ⟨agu,by intro d Y;rw[vY] at Y;omega⟩,by simp,λd Y=>by rw[Ia] at Y;omega,au2,?_,?_,rfl,rfl⟩
      ·rw[List.drop_of_length_le (by simp)];simp only[bg,yW,Ie];exact au3
      ·simp only[e8,reduceIte];rw[ev _]) ?_
    intro vs ms aW aR;simp only[go_sem,go_sem_proc,j8,gS,pt,fD,nm,pv,au,z8,cN] at aW aR;subst aW aR;rintro⟨j,u,eP⟩ tm mem I-⟨ag,AA,vW,Rj,YQ,gI,nO,qW,Mz,YR⟩;simp only[go_sem,go_sem_proc,j8,gS,pt,fD,nm,pv,bh] at I;obtain⟨cN,jL,g3,Ci,ht⟩:=I;rcases j with _|j
    ·rw[nG,nG] at nO;rw[nG] at gI;simp only[l3,bg,Int.pow_zero,r8,Ie] at nO;have aNE:=po YQ;have E1:=po vW
     have YS:bg eP=((x/y:Nat):Int)/\bg u=((x%y*S:Nat):Int):=by
      have F:Im/hk=x/y:=by rw[<-agw,<-agv];exact Nat.mul_div_mul_right x y E0
      have G:Im%hk=x%y*S:=by rw[<-agw,<-agv];exact Nat.mul_mod_mul_right S x y
      have af:((Im/hk:Nat):Int)=bg eP:=by rw[Yv,nO,yU,af4 _ _ (by omega),Yw E1 gI];omega
      have aS:((Im%hk:Nat):Int)=bg u:=by rw[af5,nO,yU,af6,Yx E1 gI]
      rw[F] at af;rw[G] at aS;exact⟨af.symm,aS.symm⟩
     have agx:=Q5 u (by omega);rw[Ae vW,YS.2,g9] at agx;have agy:=Q5 eP (by omega);rw[Ae YQ,YS.1,g9] at agy
     have hlen:(aZ (x%y*S)).length<=100000:=by
      have:(aZ (x%y*S)).length<=D u:=by
       have:=afN u;rw[Ae vW,YS.2,g9] at this;exact this
      omega
     have kO:=af3 (x%y*S) S ⟨hlen,by omega,by omega⟩
     rw[g9,Nat.mul_div_cancel _ E0] at kO;simp only[dR] at kO;have fI:O.ref 157054 1 1 0 (D mc+1)=O.ref 157054 1 1 0 (D u):=by rw[AA]
     have fU:O.ref 157075 0 1 0 bb=O.ref 157075 0 1 0 (D eP):=by rw[Rj]
     rw[fI] at jL;rw[fU] at ht;refine ai ?_;repeat' (intro (aw:_=_)<;>simp only[aw,go_sem,go_sem_proc,j8,gS,pt,fD,nm,pv,cN,jL,g3,Ci,ht,qW,Mz,YR,agx,agy,kO,oQ iH,dR,pr,p4,show ¬ ((0:Int)-1>=0) by omega,decide_false]<;>try refine ah ?_ ?_)
    ·obtain⟨pre,gd,post,e,yY,agz,YT,r7,au4,au5,dG,Cv,gx,aNF,au6,aNG,aNH⟩:=auO (i:=j) (n:=N+2) vW (by omega) gI au1;have uE:j<bb:=by omega
     rw[gx,Et,yY] at nO;subst e;subst yY;rw[My] at Ci;have agA:((D pre+1:Nat):Int)-1=(D pre:Int):=by omega
     have sS:IntKind.i64.wrap ((D pre:Int)+((N+2:Nat):Int))=((D pre+(N+2):Nat):Int):=by rw[ev _];omega
     have au7:IntKind.i64.wrap (((D pre+(N+2):Nat):Int)-1)=((D pre+(N+1):Nat):Int):=by rw[ev _];omega
     have Rk:IntKind.i64.wrap (((N+2:Nat):Int)-1)=((N+1:Nat):Int):=by rw[ev _];omega
     have agB:IntKind.i64.wrap (((N+2:Nat):Int)-2)=(N:Int):=by rw[ev _];omega
     have agC:IntKind.i64.wrap (((D pre+(N+2):Nat):Int)-2)=((D pre+N:Nat):Int):=by rw[ev _];omega
     have cm:(D pre)+(N+2)<D mc+1:=by omega
     have cC:(D pre)+(N+1)<D mc+1:=by omega
     have ib:(D pre)+N<D mc+1:=by omega
     have au8:(D pre)+(N+2)+1<=(a6 aC (pre++gd++post)).length:=by rw[qQ,AA];omega
     have au9:(D pre)+(N+1)+1<=(a6 aC (pre++gd++post)).length:=by rw[qQ,AA];omega
     have agD:(D pre)+N+1<=(a6 aC (pre++gd++post)).length:=by rw[qQ,AA];omega
     have ava:=Mp (pre:=pre) (post:=post) (show N+2<(D gd) by omega);have Rl:=Mp (pre:=pre) (post:=post) (show N+1<(D gd) by omega);have qY:=Mp (pre:=pre) (post:=post) (show N<(D gd) by omega);have cQ:=auN (N:=N) (by omega:(D gd)=N+3);have Rg:=Ad (Aq r7 N);have agE:=po (Aq r7 N);rw[gE,oO (by omega)] at Rg;have mR:=lJ r7 (N+2) (by omega);have j7:=lJ r7 (N+1) (by omega);have Cl:=lJ r7 N (by omega);generalize gd[N+2]=t2 at *;generalize gd[N+1]=t1 at *;generalize gd[N]=t0 at *;generalize bg (gd.take N)=Ii at *;have avb:IntKind.i64.wrap (t2*2^min (Ex 20) 64)=t2*1048576:=by rw[show min (Ex 20) 64=20 by decide];exact wrap64 _ (by omega) (by omega)
     have avc:bits .or .i64 (t2*1048576) t1=t2*1048576+t1:=Xj t2 t1 mR.1 (by omega) j7;have avd:(v1=0)=False:=by simp;omega
     generalize aNI:t2*1048576+t1=top at *;have aNJ:0<=top/\top<1099511627776:=by omega
     have s7:top.tdiv v1=top/v1:=Av (by omega);have EX:top.tmod v1=top%v1:=Mo (by omega);have mP:0<=top/v1:=EW (by omega) (by omega);have s6:top/v1<=top:=Int.ediv_le_self _ (by omega);have ave:IntKind.i64.wrap (top/v1)=top/v1:=wrap64 _ (by omega) (by omega);have YU:(v.map aC)[N+1]?=some [.int .i64 v1]:=by rw[bo,au0];rfl
     have agF:(v.map aC)[N]?=some [.int .i64 v0]:=by rw[bo,Ri];rfl
     have YI:bg gd<1048576*hk:=by omega
     have avf:bg gd<(top/v1+1)*hk:=by
      have az:top+1<=(top/v1+1)*v1:=by
       have F:=Cj top v1;have G:=Yy top (show 0<v1 by omega);rw[uB,r8,nI (top/v1)];omega
      have aD:(top+1)*1048576*1048576^N<=(top/v1+1)*v1*1048576*1048576^N:=nk (nk az (by omega)) (by omega)
      have bX:(top/v1+1)*v1*1048576*1048576^N<=(top/v1+1)*hk:=by
       rw[ir,ir];refine Ar ?_ (by omega);rw[vZ,<-ir];have:v1*1048576*1048576^N<=(v1*1048576+v0)*1048576^N:=nk (by omega) (by omega);omega
      have dE:(top*1048576+t0+1)*1048576^N<=(top+1)*1048576*1048576^N:=nk (by omega) (by omega);rw[uB _ 1,r8] at dE;omega
     simp only[go_sem,go_sem_proc,j8,gS,pt,fD,nm,pv,cN,jL,g3,Ci,ht,qW,Mz,YR,agA,sS,au7,Rk,cm,cC,au8,au9,ava,Rl,avb,avc,avd,s7,EX,ave,YU,show (D pre:Int)>=0 by omega,decide_true,dy,ar,show ¬ ((20:Int)<0) by omega]
     have YV:∀(mem:Mem),mem 157054=some (1,a6 aC (pre++gd++post))->∀q:Int,0<=q->q<1048576->bg gd<(q+1)*hk->0<=bg gd-q*hk+hk ->
       Mr [.ref 157054 1 1 (D pre) (N+3),.M (.ay (v.map aC)),.M (.int .i64 q)] mem=some (.M (.int .i64 (bg gd/hk)),a4 mem 157054 1 (a6 aC (pre++pad (N+3) (bg gd%hk).toNat++post))):=by
      intro mem Mz q mP avg uF kz;have Mv:=auM YP uF kz;have pn:=auD ⟨pre,gd,post,hk,q,157054,1⟩ mem ⟨Mz,r7,by show (aZ hk).length<=D gd;rw[auZ];omega,mP,avg,kz,by show (D pre)+D gd<=100000;omega⟩
      simp only[Co,Cp,Re] at pn;rw[Mv.1,Mv.2,agz,auY] at pn;exact pn
     have avh:0<=bg gd/hk:=EW (po r7) (by omega);have avi:bg gd/hk<1048576:=af7 YP YI;have aNK:=Ig (bg gd) (show (hk:Int)≠0 by omega);have avj:=Yy (bg gd) YP
     have avk:bg (pad (N+3) (bg gd%hk).toNat)=bg gd%hk:=by
      rw[auA]
      ·omega
      ·have G:((1048576^(N+2):Nat):Int)=1048576^(N+2):=by rw[EY];rfl
       have af:1048576^(N+2)<=1048576^(N+3):=xz (by omega) (by omega);omega
     have iJ:∃bj:Nat×List Int×List Int,bj.1<D pre+1/\bj.1<=bb/\bj.2.1.length=D mc+1/\eX bj.2.1/\bj.2.2.length=bb/\eX bj.2.2/\bg (bj.2.1.drop bj.1)<hk/\(Im:Int)=bg (bj.2.1.take bj.1)+1048576^bj.1*(hk*bg (bj.2.2.drop bj.1)+bg (bj.2.1.drop bj.1)) /\
       O.M (Data.int .i64 ((D pre:Int)-1))=O.M (Data.int .i64 ((bj.1:Int)-1))/\some (1,a6 aC (pre++pad (N+3) (bg gd%hk).toNat++post))=some (1,a6 aC bj.2.1)/\some (0,a6 aC (eP.set (D pre) (bg gd/hk)))=some (0,a6 aC bj.2.2):=by
      have avl:(D eP)=bb:=Rj;have Rj:(D pre)<D eP:=by omega
      have Io:(pre++pad (N+3) (bg gd%hk).toNat++post).drop (D pre)=pad (N+3) (bg gd%hk).toNat++post:=by rw[gr,W6]
      have avm:(pre++pad (N+3) (bg gd%hk).toNat++post).take (D pre)=pre:=by rw[gr,W5]
      have agG:bg (pad (N+3) (bg gd%hk).toNat++post)=bg gd%hk:=by rw[Et,au5,avk];omega
      refine⟨(D pre,pre++pad (N+3) (bg gd%hk).toNat++post,eP.set (D pre) (bg gd/hk)),by dsimp only;omega,by dsimp only;omega,?_,Es.2 ⟨Es.2 ⟨YT,auz _ _⟩,au4⟩,by rw[hL];exact avl,At YQ _ ⟨avh,avi⟩,?_,?_,rfl,rfl,rfl⟩
      ·rw[<-AA];simp[auy,agz]
      ·dsimp only;rw[Io,agG];exact avj
      ·dsimp only;rw[Io,agG,avm,iE (by simpa using Rj),um];simp only[As];rw[ub (by omega)];have F:=Cj (bg gd) hk;have G:(hk:Int)*(bg gd/hk+1048576*bg (eP.drop (D pre+1)))=hk*(bg gd/hk)+1048576*(hk*bg (eP.drop (D pre+1))):=by rw[iq,Yz]
       rw[G,nO,nH,ir];simp only[bg,yW,Ay];rw[Int.add_assoc,<-iq]
       congr 2
       rw[iq];omega
     have nn:(D pre)+(N+2)+1-D pre=N+3:=by omega
     have AB:IntKind.i64.wrap (((D pre+(N+2):Nat):Int)+1)=((D pre+(N+2)+1:Nat):Int):=by rw[ev _];rfl
     have agH:(D pre)<=D pre+(N+2)+1/\D pre+(N+2)+1<=D mc+1:=by omega
     have agI:(D pre)<bb:=uE;have agJ:=λd=>yR eP (D pre) d (by omega);have agK:(D pre)+1<=(a6 aC eP).length:=by rw[qQ];omega
     have Mt:IntKind.i64.wrap ((D pre:Int)-1)=(D pre:Int)-1:=wrap64 _ (by omega) (by omega)
     refine da [8,9,10,11,12,13] [157054,157075] (λ((q,r):Int×Int) tm mem=>0<=q/\0<=r/\q*v1+r=top/\bg gd<(q+1)*hk/\tm 15=.M (.int .i64 q)/\tm 16=.M (.int .i64 r)) (λ(q,_)=>q.toNat) (top/v1,top%v1)
      (by
       refine⟨mP,Ig _ (by omega),?_,avf,rfl,rfl⟩;have:=Cj top v1;rw[nI (top/v1)];omega) ?_
     intro vs ms aW aR;simp only[go_sem,go_sem_proc,j8,gS,pt,fD,nm,pv,cN,jL,g3,Ci,ht,qW,Mz,YR,agA] at aW aR;subst aW aR;rintro⟨q,r⟩ tm mem' I hm ⟨AD,avn,EZ,uF,Cw,yZ⟩;simp only[go_sem,go_sem_proc,j8,gS,pt,fD,nm,pv,bh] at I hm;obtain⟨kU,qZ,r9,uG,uH,E2⟩:=I;obtain⟨Ip,Rm⟩:=hm;have aNL:0<=q*v1:=uA AD (by omega);have aNM:q*524288<=q*v1:=Ar pW AD;have aNN:0<=q*v0:=uA AD p7.1;have aNO:q*v0<=q*1048576:=Ar (by omega) AD;have Iq:IntKind.i64.wrap (q*v0)=q*v0:=wrap64 _ (by omega) (by omega);have agL:IntKind.i64.wrap (q-1)=q-1:=wrap64 _ (by omega) (by omega);have agM:IntKind.i64.wrap (r+v1)=r+v1:=wrap64 _ (by omega) (by omega);have agN:IntKind.i64.wrap (r*2^min (Ex 20) 64)=r*1048576:=by rw[show min (Ex 20) 64=20 by decide];exact wrap64 _ (by omega) (by omega)
     have agO:bits .or .i64 (r*1048576) t0=r*1048576+t0:=Xj r t0 avn (by omega) Cl
     have Qw:(q>=1048576\/q*v0>r*1048576+t0)->∃bj:Int×Int,bj.1.toNat<q.toNat/\0<=bj.1/\0<=bj.2/\bj.1*v1+bj.2=top/\bg gd<(bj.1+1)*hk/\O.M (Data.int .i64 (q-1))=O.M (Data.int .i64 bj.1)/\O.M (Data.int .i64 (r+v1))=O.M (Data.int .i64 bj.2):=by
      intro H;have F:=auK vZ cQ gw YO Rg AD (by omega) YI EZ H
      have YW:0<q:=by
       rcases dq (0<q) with h|h
       ·exact h
       ·obtain rfl:q=0:=by omega
        have:=po r7;omega
      exact⟨(q-1,r+v1),by dsimp only;omega,by dsimp only;omega,by dsimp only;omega,by dsimp only;rw[agj];omega,by dsimp only;rw[Int.sub_add_cancel];exact F,rfl,rfl⟩
     by_cases hC:q>=1048576
     ·refine ai ?_;repeat' (intro (aw:_=_)<;>simp only[aw,go_sem,go_sem_proc,j8,gS,pt,fD,nm,pv,kU,qZ,r9,uG,uH,E2,Ip,Rm,Cw,yZ,hC,agL,agM,Rk,YU,decide_true,dy,ar]<;>try refine ah ?_ ?_)
      exact Qw (.inl hC)
     ·by_cases zW:r<1048576
      ·by_cases sa:q*v0>r*1048576+t0
       ·refine ai ?_;repeat' (intro (aw:_=_)<;>simp only[aw,go_sem,go_sem_proc,j8,gS,pt,fD,nm,pv,kU,qZ,r9,uG,uH,E2,Ip,Rm,Cw,yZ,hC,zW,sa,Iq,agL,agM,agN,agO,sS,Rk,agB,agC,ib,agD,qY,YU,agF,decide_true,decide_false,dy,ar,show ¬ ((20:Int)<0) by omega]<;>try refine ah ?_ ?_)
        exact Qw (.inr sa)
       ·have pn:=YV mem' Ip q AD (by omega) uF (agi vZ cQ gw ⟨YO,YN⟩ agE AD (by omega) pW p7 Cl.1 EZ (.inr (by omega)));refine ai ?_;repeat' (intro (aw:_=_)<;>simp only[aw,go_sem,go_sem_proc,j8,gS,pt,fD,nm,pv,kU,qZ,r9,uG,uH,E2,Ip,Rm,Cw,yZ,hC,zW,sa,Iq,agN,agO,sS,AB,Rk,agB,agC,ib,agD,qY,agF,nn,agH,pn,agI,agK,agJ,Mt,My,decide_true,decide_false,dy,ar,show ¬ ((20:Int)<0) by omega]<;>try refine ah ?_ ?_)
        exact iJ
      ·have pn:=YV mem' Ip q AD (by omega) uF (agi vZ cQ gw ⟨YO,YN⟩ agE AD (by omega) pW p7 Cl.1 EZ (.inl (by omega)));refine ai ?_;repeat' (intro (aw:_=_)<;>simp only[aw,go_sem,go_sem_proc,j8,gS,pt,fD,nm,pv,kU,qZ,r9,uG,uH,E2,Ip,Rm,Cw,yZ,hC,zW,sS,AB,nn,agH,pn,agI,agK,agJ,Mt,My,decide_true,decide_false,dy,ar]<;>try refine ah ?_ ?_)
       exact iJ
def ea:Nat:=1048576^60
def bY (z:Int):Raw:=(z.sign,aZ z.natAbs)
def iu (a:Raw):Int:=a.1*bg a.2
def fT (z:Int):iu (bY z)=z:=by
 unfold iu bY;rw[l9];exact YX z
def MA (d:Int):oq d=true↔0<=d/\d<1048576:=by
 unfold oq;simp;omega
def j9 (a:Raw):dO a=true↔∃z:Int,z.natAbs<ea/\a=bY z:=by
 obtain⟨s,l⟩:=a;unfold dO ea;rw[eQ,ld]
 constructor
 ·rintro⟨F,G⟩;have Y:eX l:=λd Y=>(MA d).1 (F d Y)
  split at G
  ·rename_i h;have ak:l=[]:=tX (by simpa using h);subst ak;have X:s=0:=by simpa using G
   subst X;exact⟨0,by simp,rfl⟩
  ·rename_i h;simp at G;obtain⟨⟨X,hlen⟩,YY⟩:=G;have H:=canon Y (by simpa using YY);have aA:=po Y
   have aNP:bg l≠0:=by
    intro au;rw[au] at H;rw[H] at h;simp[sY] at h
   refine⟨s*bg l,?_,?_⟩
   ·have:(s*bg l).natAbs=(bg l).toNat:=by rw[sb];rcases X with rfl|rfl<;>simp<;>omega
    rw[this,<-g8,<-H];exact hlen
   ·unfold bY;have:(s*bg l).natAbs=(bg l).toNat:=by rw[sb];rcases X with rfl|rfl<;>simp<;>omega
    rw[this,<-H]
    congr 1
    rcases X with rfl|rfl
    ·rw[r8,jM (by omega)]
    ·rw[E3,r8,E4,jM (by omega)]
 ·rintro⟨z,aV,h⟩
  cases h;refine⟨λd Y=>(MA d).2 (nh _ d Y),?_⟩
  by_cases au:z=0
  ·subst au;rfl
  ·have aH:aZ z.natAbs≠[]:=by rw[Ne,Ac];omega
   rw[ae (by simp;exact aH)];have ak:=g8.2 aV;have lk:=ae1 z.natAbs;simp only[eQ,Bool.or_eq_true,beq_iff_eq,decide_eq_true_eq,bne_iff_ne,ne_eq];refine⟨⟨?_,ak⟩,lk⟩;rcases Ct z 0 with h|h|h
   ·exact .inr (q0 h)
   ·exact absurd h au
   ·exact .inl (jM h)
def lq {z:Int}(h:z.natAbs<ea):dO (bY z)=true:=(j9 _).2 ⟨z,h,rfl⟩
def Rn (c:Raw):Raw×Int:=if decide ((c.2.length:Int)>60)=true then ((0,[]),6) else (c,0)
def s8 (z:Int):Raw×Int:=if z.natAbs<ea then (bY z,0) else ((0,[]),6)
def iL (x:Raw×Int):Data:=.cP [.agg (eI x.1),.int .i64 x.2]
def avo (s:Int)(n:Nat):mb s (aZ n)=if n=0 then (0,[]) else (s,aZ n):=by
 unfold mb;rw[ae0]
 by_cases h:n=0
 ·subst h;rfl
 ·have:aZ n≠[]:=by rw[Ne,Ac];exact h
  rw[ae h,ae (by simp;exact this)]
def p8 {s:Int}{n:Nat}{z:Int}(h:z.natAbs=n)(X:n≠0->s=z.sign):mb s (aZ n)=bY z:=by
 rw[avo];subst h
 by_cases au:z.natAbs=0
 ·obtain rfl:z=0:=by omega
  rfl
 ·rw[ae au,X au]
  rfl
def MB (z:Int):Rn (bY z)=s8 z:=by
 unfold Rn s8 bY ea;have:=g8 (n:=z.natAbs) (k:=60)
 by_cases h:z.natAbs<1048576^60
 ·have:=this.2 h;rw[ae (by simp;omega),ab h]
 ·have:=mt this.1 h;rw[ab (by simp;omega),ae h]
abbrev Ro:Bool×Int×(List Int)->List Data:=λ(r,s,l)=>[.bool r,.agg [.int .i64 s,.ay (l.map aC)]]
def Ir:=bU Ro λ(r,s,l)=>some (.same (iL (if r=true then Rn (s,l) else ((0,[]),1))))
def avp:∀a b,Ro a=Ro b->a=b:=by
  rintro⟨eU,s1,eH⟩ ⟨ey,s2,aI⟩ h;simp only[bh,Data.bool.injEq,Data.agg.injEq,Data.int.injEq,Data.ay.injEq] at h;exact ej h.1 (ej h.2.1.1.2 (map_inj fq _ _ h.2.1.2.1))
@[go_sem] def Is (r s l):=pk Ir rfl avp (r,s,l) rfl
def avq (T:ba):WF T afh Ir:=by
 refine cf λ(r,s,l)=>⟨rfl,b7 ?_⟩;simp only[afh,Ro,b1]
 cases r
 ·refine ai ?_;repeat' (intro h<;>simp only[h,go_sem,go_sem_proc,ar]<;>try refine ah ?_ ?_)
  rfl
 ·refine ai ?_;repeat' (intro h<;>simp only[h,go_sem,go_sem_proc,ar]<;>try refine ah ?_ ?_)
  all_goals (simp only[iL,eI,Rn];simp only[cR, *,reduceIte,cF,dd,s0,qG,mM,rY,vR,g4,hs,fC,lD,beq_self_eq_true,bne])
def lM (a:Raw):Raw:=if dO a=true then bY (-iu a) else (0,[])
def agP (z:Int):mb (-z.sign) (aZ z.natAbs)=bY (-z):=p8 (by omega) λ_=>by rw[E4]
def MC:=bU s3 λ(s,l)=>cp (D l<=1000000) (.same (.agg (eI (lM (s,l)))))
@[go_sem] def aNQ (s l):=cz MC rfl H0 (s,l) rfl
def avr (T:ba)(fl:T ll=aQ vS)(gS:T vK=aQ Ao)(hH:T pq=aQ Ap):WF T afe MC:=by
 refine cf λ(s,l)=>cG λH=>⟨rfl,b7 ?_⟩;simp only[afe,s3,b1]
 by_cases aa:dO (s,l)=true
 ·obtain⟨z,aV,e⟩:=(j9 _).1 aa;have az:lM (s,l)=bY (-z):=by unfold lM;rw[ab aa,e,fT]
  cases e
  have hw:IntKind.i64.wrap (0-z.sign) = -z.sign:=by
   have:=agQ z;rw[ev _];omega
  rw[az];refine ai ?_;repeat' (intro h<;>simp only[h,go_sem,go_sem_proc,fl,gS,hH,aa,H,hw,agP,eI]<;>try refine ah ?_ ?_)
 ·have aa:dO (s,l)=false:=by simpa using aa
  have az:lM (s,l)=(0,[]):=by unfold lM;rw[aa];rfl
  rw[az];refine ai ?_;repeat' (intro h<;>simp only[h,go_sem,go_sem_proc,fl,gS,hH,aa,H,eI,cR]<;>try refine ah ?_ ?_)
def v3 (a:Raw):(a.1,a.2)=a:=rfl
def mulR (a b:Raw):Raw×Int:=if (dO a&&dO b)=true then s8 (iu a*iu b) else ((0,[]),1)
def Cx {x y:Int}(Q:x.natAbs<ea)(al:y.natAbs<ea):mulR (bY x) (bY y)=s8 (x*y):=by
 unfold mulR;rw[lq Q,lq al,fT,fT]
 rfl
def sc {z:Int}(h:z.natAbs<ea):(aZ z.natAbs).length<=60:=g8.2 h
def sd (z:Int):-1<=z.sign/\z.sign<=1:=by
 have:=agQ z;omega
abbrev np:Int×(List Int)×Int×(List Int)->List Data:=λ(s,l,s2,aI)=>[.agg [.int .i64 s,.ay (l.map aC)],.agg [.int .i64 s2,.ay (aI.map aC)]]
def E6:=bU np λ(s,l,s2,aI)=>cp (D l<=1000000/\D aI<=1000000) (.same (iL (mulR (s,l) (s2,aI))))
def y0:∀a b,np a=np b->a=b:=by
  rintro⟨s1,eH,E7,E8⟩ ⟨s2,aI,E9,Fa⟩ h;simp only[bh,Data.agg.injEq,Data.int.injEq,Data.ay.injEq] at h;exact ej h.1.1.2 (ej (map_inj fq _ _ h.1.2.1) (ej h.2.1.1.2 (map_inj fq _ _ h.2.1.2.1)))
@[go_sem] def aNR (s l s2 aI):=cz E6 rfl y0 (s,l,s2,aI) rfl
def avs (T:ba)(fl:T ll=aQ vS)(nm:T HL=aQ Ml)(hH:T pq=aQ Ap)(p9:T vJ=aQ Ir):WF T afc E6:=by
 refine cf λ(s,l,s2,aI)=>cG λH=>⟨rfl,b7 ?_⟩;simp only[afc,np,b1];obtain⟨cm,cC⟩:=H
 by_cases aa:dO (s,l)=true
 ·by_cases bL:dO (s2,aI)=true
  ·obtain⟨x,Q,e⟩:=(j9 _).1 aa;obtain⟨y,al,aD⟩:=(j9 _).1 bL;have hm:mulR (s,l) (s2,aI)=s8 (x*y):=by rw[e,aD];exact Cx Q al
   rw[hm];clear hm
   cases e
   cases aD;have F:=sd x;have G:=sd y;have aF:x.sign*y.sign=(x*y).sign:=(q1 x y).symm;have af:=sd (x*y);have hw:IntKind.i64.wrap (x.sign*y.sign)=(x*y).sign:=by rw[aF];exact wrap64 _ (by omega) (by omega)
   have hmul:=Yt x.natAbs y.natAbs ⟨eZ (sc Q) (by omega),eZ (sc al) (by omega)⟩;simp only[dR] at hmul
   have hlen:(aZ (x.natAbs*y.natAbs)).length<=1000000:=by
    refine eZ ((g8 (k:=120)).2 ?_) (by omega);have:(1048576^120:Nat)=ea*ea:=by unfold ea;rw[<-Nat.pow_add]
    rw[this];exact Nat.mul_lt_mul'' Q al
   have X:mb (x*y).sign (aZ (x.natAbs*y.natAbs))=bY (x*y):=p8 (sb x y) λ_=>rfl;refine ai ?_;repeat' (intro h<;>simp only[h,go_sem,go_sem_proc,fl,nm,hH,p9,aa,bL,cm,cC,hw,hmul,hlen,X,MB,eI,iL,v3]<;>try refine ah ?_ ?_)
  ·have bL:dO (s2,aI)=false:=by simpa using bL
   have hm:mulR (s,l) (s2,aI)=((0,[]),1):=by unfold mulR;rw[bL,hs];rfl
   rw[hm];have qa:=Is false 0 [];simp only[cR] at qa;refine ai ?_;repeat' (intro h<;>simp only[h,go_sem,go_sem_proc,fl,nm,hH,p9,aa,bL,cm,cC,qa,eI,iL,cR]<;>try refine ah ?_ ?_)
 ·have aa:dO (s,l)=false:=by simpa using aa
  have hm:mulR (s,l) (s2,aI)=((0,[]),1):=by unfold mulR;rw[aa,fC];rfl
  rw[hm];have qa:=Is false 0 [];simp only[cR] at qa;refine ai ?_;repeat' (intro h<;>simp only[h,go_sem,go_sem_proc,fl,nm,hH,p9,aa,cm,cC,qa,eI,iL,cR]<;>try refine ah ?_ ?_)
def v5 (a b:Raw):Raw×Int:=if (dO a&&dO b)=true then s8 (iu a+iu b) else ((0,[]),1)
def agR {x y:Int}(Q:x.natAbs<ea)(al:y.natAbs<ea):v5 (bY x) (bY y)=s8 (x+y):=by
 unfold v5;rw[lq Q,lq al,fT,fT]
 rfl
def Rp (a b:Nat):(aZ (a-b)).length<=(aZ a).length:=by
 rw[g8];exact uz (Nat.sub_le a b) (g8.1 (bM _))
def Rq:=bU np λ(s,l,s2,aI)=>cp (D l<=1000000/\D aI<=1000000) (.same (iL (v5 (s,l) (s2,aI))))
@[go_sem] def aNS (s l s2 aI):=cz Rq rfl y0 (s,l,s2,aI) rfl
def avt (T:ba)(fl:T ll=aQ vS)(MD:T XF=aQ Q8)(v7:T LR=aQ Mj)(v8:T HM=aQ Mk)(j8:T EB=aQ H7)(hH:T pq=aQ Ap)(p9:T vJ=aQ Ir):WF T afl Rq:=by
 refine cf λ(s,l,s2,aI)=>cG λH=>⟨rfl,b7 ?_⟩;simp only[afl,np,b1];obtain⟨cm,cC⟩:=H
 by_cases aa:dO (s,l)=true
 ·by_cases bL:dO (s2,aI)=true
  ·obtain⟨x,Q,e⟩:=(j9 _).1 aa;obtain⟨y,al,aD⟩:=(j9 _).1 bL;have hm:v5 (s,l) (s2,aI)=s8 (x+y):=by rw[e,aD];exact agR Q al
   rw[hm];clear hm
   cases e
   cases aD;have F:=sd x;have G:=sd y;have md:=sc Q;have mO:=sc al;have Cy:=YX x;have aNT:=YX y
   have Cz:(x.sign=1/\0<x)\/(x.sign=0/\x=0)\/(x.sign = -1/\x<0):=by
    rcases Ct x 0 with h|h|h
    ·exact .inr (.inr ⟨q0 h,h⟩)
    ·exact .inr (.inl ⟨by rw[h];rfl,h⟩)
    ·exact .inl ⟨jM h,h⟩
   have ty:(y.sign=1/\0<y)\/(y.sign=0/\y=0)\/(y.sign = -1/\y<0):=by
    rcases Ct y 0 with h|h|h
    ·exact .inr (.inr ⟨q0 h,h⟩)
    ·exact .inr (.inl ⟨by rw[h];rfl,h⟩)
    ·exact .inl ⟨jM h,h⟩
   have kV:=afS x.natAbs y.natAbs ⟨by omega,by omega⟩
   simp only[dR] at kV
   have hlen:(aZ (x.natAbs+y.natAbs)).length<=1000000:=by
    refine eZ ((g8 (k:=61)).2 ?_) (by omega);have:(1048576^61:Nat)=ea*1048576:=by unfold ea;rw[<-xk]
    omega
   have Cn:=aug [x.sign,y.sign] (by simp);simp only[eu,cR,aC] at Cn;have hq:=Yk x.natAbs y.natAbs ⟨by omega,by omega⟩
   simp only[dR] at hq
   by_cases aF:x.sign*y.sign>=0
   ·have hw:IntKind.i64.wrap (x.sign*y.sign)=x.sign*y.sign:=by
     rcases Cz with ⟨e,_⟩|⟨e,_⟩|⟨e,_⟩<;>rw[e]<;>exact wrap64 _ (by omega) (by omega)
    have X:mb (ES [x.sign,y.sign]) (aZ (x.natAbs+y.natAbs))=bY (x+y):=by
     refine p8 ?_ ?_
     ·rcases Cz with ⟨e,_⟩|⟨e,_⟩|⟨e,_⟩<;>rcases ty with ⟨e',_⟩|⟨e',_⟩|⟨e',_⟩<;>rw[e,e'] at aF<;>omega
     ·intro aH;rcases Cz with ⟨e,_⟩|⟨e,_⟩|⟨e,_⟩<;>rcases ty with ⟨e',_⟩|⟨e',_⟩|⟨e',_⟩<;>rw[e,e'] at aF ⊢
      ·exact (jM (by omega)).symm
      ·exact (jM (by omega)).symm
      ·omega
      ·exact (jM (by omega)).symm
      ·omega
      ·exact (q0 (by omega)).symm
      ·omega
      ·exact (q0 (by omega)).symm
      ·exact (q0 (by omega)).symm
    refine ai ?_;repeat' (intro (aw:_=_)<;>simp only[aw,go_sem,go_sem_proc,fl,MD,v7,v8,j8,hH,p9,aa,bL,cm,cC,hw,aF,decide_true,Cn,kV,hlen,X,MB,eI,iL,v3]<;>try refine ah ?_ ?_)
   ·have hw:IntKind.i64.wrap (x.sign*y.sign)=x.sign*y.sign:=by
     rcases Cz with ⟨e,_⟩|⟨e,_⟩|⟨e,_⟩<;>rw[e]<;>exact wrap64 _ (by omega) (by omega)
    by_cases aq:x.natAbs<y.natAbs
    ·have lN:decide (iI x.natAbs y.natAbs<0)=true:=by unfold iI;rw[ab (by simp;omega)];rfl
     have nn:=Ys y.natAbs x.natAbs ⟨by omega,by omega⟩
     simp only[dR] at nn;have YZ:(aZ (y.natAbs-x.natAbs)).length<=1000000:=eZ (Rp _ _) (by omega)
     have X:mb y.sign (aZ (y.natAbs-x.natAbs))=bY (x+y):=by
      refine p8 ?_ ?_
      ·rcases Cz with ⟨e,_⟩|⟨e,_⟩|⟨e,_⟩<;>rcases ty with ⟨e',_⟩|⟨e',_⟩|⟨e',_⟩<;>rw[e,e'] at aF<;>omega
      ·intro aH;rcases Cz with ⟨e,_⟩|⟨e,_⟩|⟨e,_⟩<;>rcases ty with ⟨e',_⟩|⟨e',_⟩|⟨e',_⟩<;>rw[e,e'] at aF<;>rw[e']<;>first|omega|exact (jM (by omega)).symm|exact (q0 (by omega)).symm
     refine ai ?_;repeat' (intro (aw:_=_)<;>simp only[aw,go_sem,go_sem_proc,fl,MD,v7,v8,j8,hH,p9,aa,bL,cm,cC,hw,aF,decide_false,hq,lN,nn,YZ,X,MB,eI,iL,v3]<;>try refine ah ?_ ?_)
    ·have lN:decide (iI x.natAbs y.natAbs<0)=false:=by unfold iI;rw[ae (by simp;omega)];split<;>rfl
     have nn:=Ys x.natAbs y.natAbs ⟨by omega,by omega⟩
     simp only[dR] at nn;have YZ:(aZ (x.natAbs-y.natAbs)).length<=1000000:=eZ (Rp _ _) (by omega)
     have X:mb x.sign (aZ (x.natAbs-y.natAbs))=bY (x+y):=by
      refine p8 ?_ ?_
      ·rcases Cz with ⟨e,_⟩|⟨e,_⟩|⟨e,_⟩<;>rcases ty with ⟨e',_⟩|⟨e',_⟩|⟨e',_⟩<;>rw[e,e'] at aF<;>omega
      ·intro aH;rcases Cz with ⟨e,_⟩|⟨e,_⟩|⟨e,_⟩<;>rcases ty with ⟨e',_⟩|⟨e',_⟩|⟨e',_⟩<;>rw[e,e'] at aF<;>rw[e]<;>first|omega|exact (jM (by omega)).symm|exact (q0 (by omega)).symm
     refine ai ?_;repeat' (intro (aw:_=_)<;>simp only[aw,go_sem,go_sem_proc,fl,MD,v7,v8,j8,hH,p9,aa,bL,cm,cC,hw,aF,decide_false,hq,lN,nn,YZ,X,MB,eI,iL,v3]<;>try refine ah ?_ ?_)
  ·have bL:dO (s2,aI)=false:=by simpa using bL
   have hm:v5 (s,l) (s2,aI)=((0,[]),1):=by unfold v5;rw[bL,hs];rfl
   rw[hm];have qa:=Is false 0 [];simp only[cR] at qa;refine ai ?_;repeat' (intro (aw:_=_)<;>simp only[aw,go_sem,go_sem_proc,fl,MD,v7,v8,j8,hH,p9,aa,bL,cm,cC,qa,eI,iL,cR]<;>try refine ah ?_ ?_)
 ·have aa:dO (s,l)=false:=by simpa using aa
  have hm:v5 (s,l) (s2,aI)=((0,[]),1):=by unfold v5;rw[aa,fC];rfl
  rw[hm];have qa:=Is false 0 [];simp only[cR] at qa;refine ai ?_;repeat' (intro (aw:_=_)<;>simp only[aw,go_sem,go_sem_proc,fl,MD,v7,v8,j8,hH,p9,aa,cm,cC,qa,eI,iL,cR]<;>try refine ah ?_ ?_)
def mS (x:Int):(x.sign=1/\0<x)\/(x.sign=0/\x=0)\/(x.sign = -1/\x<0):=by
 rcases Ct x 0 with h|h|h
 ·exact .inr (.inr ⟨q0 h,h⟩)
 ·exact .inr (.inl ⟨by rw[h];rfl,h⟩)
 ·exact .inl ⟨jM h,h⟩
def AE (a b:Raw):Int:=if (dO a&&dO b)=true then iI (iu a) (iu b) else 0
def agS {x y:Int}(Q:x.natAbs<ea)(al:y.natAbs<ea):AE (bY x) (bY y)=iI x y:=by
 unfold AE;rw[lq Q,lq al,fT,fT]
 rfl
def ME {x y:Int}(h:x<y):iI x y = -1:=by unfold iI;rw[ab (by simpa using h)]
def MF {x y:Int}(h:y<x):iI x y=1:=by unfold iI;rw[ae (by simp;omega),ab (by simpa using h)]
def Rr (x:Int):iI x x=0:=by unfold iI;simp
def Rs:=bU np λ(s,l,s2,aI)=>cp (D l<=1000000/\D aI<=1000000) (.same (.int .i64 (AE (s,l) (s2,aI))))
@[go_sem] def aNU (s l s2 aI):=cz Rs rfl y0 (s,l,s2,aI) rfl
def avu (T:ba)(fl:T ll=aQ vS)(vU:T HN=aQ Mg)(j8:T EB=aQ H7):WF T afg Rs:=by
 refine cf λ(s,l,s2,aI)=>cG λH=>⟨rfl,b7 ?_⟩;simp only[afg,np,b1];obtain⟨cm,cC⟩:=H
 by_cases aa:dO (s,l)=true
 ·by_cases bL:dO (s2,aI)=true
  ·obtain⟨x,Q,e⟩:=(j9 _).1 aa;obtain⟨y,al,aD⟩:=(j9 _).1 bL;have hm:AE (s,l) (s2,aI)=iI x y:=by rw[e,aD];exact agS Q al
   rw[hm];clear hm
   cases e
   cases aD;have md:=sc Q;have mO:=sc al;have hq:=Yk x.natAbs y.natAbs ⟨by omega,by omega⟩
   simp only[dR] at hq
   by_cases X:x.sign=y.sign
   ·have It:(x.sign==y.sign)=true:=by simpa using X
    have yJ:IntKind.i64.wrap (y.sign*iI x.natAbs y.natAbs)=iI x y:=by
     rcases mS x with ⟨e,F⟩|⟨e,F⟩|⟨e,F⟩<;>rcases mS y with ⟨e',G⟩|⟨e',G⟩|⟨e',G⟩<;>rw[e,e'] at X<;>first|omega|skip
     ·rw[e',r8,show (x.natAbs:Int)=x by omega,show (y.natAbs:Int)=y by omega]
      rcases Ct x y with h|h|h
      ·rw[ME h];rfl
      ·rw[h,Rr];rfl
      ·rw[MF h];rfl
     ·rw[e',F,G];rfl
     ·rw[e'];rcases Ct x y with h|h|h
      ·rw[ME h,MF (by omega)];rfl
      ·rw[h,Rr,Rr];rfl
      ·rw[MF h,ME (by omega)];rfl
    rw[<-X] at yJ;refine ai ?_;repeat' (intro (aw:_=_)<;>simp only[aw,go_sem,go_sem_proc,fl,vU,j8,aa,bL,cm,cC,It,hq,yJ]<;>try refine ah ?_ ?_)
   ·have It:(x.sign==y.sign)=false:=by simpa using X
    have yJ:iI x.sign y.sign=iI x y:=by
     rcases mS x with ⟨e,F⟩|⟨e,F⟩|⟨e,F⟩<;>rcases mS y with ⟨e',G⟩|⟨e',G⟩|⟨e',G⟩<;>rw[e,e'] at X ⊢<;>first|omega|(rw[ME (show x<y by omega)];rfl)|(rw[MF (show y<x by omega)];rfl)
    refine ai ?_;repeat' (intro (aw:_=_)<;>simp only[aw,go_sem,go_sem_proc,fl,vU,j8,aa,bL,cm,cC,It,yJ]<;>try refine ah ?_ ?_)
  ·have bL:dO (s2,aI)=false:=by simpa using bL
   have hm:AE (s,l) (s2,aI)=0:=by unfold AE;rw[bL,hs];rfl
   rw[hm];refine ai ?_;repeat' (intro (aw:_=_)<;>simp only[aw,go_sem,go_sem_proc,fl,vU,j8,aa,bL,cm,cC]<;>try refine ah ?_ ?_)
 ·have aa:dO (s,l)=false:=by simpa using aa
  have hm:AE (s,l) (s2,aI)=0:=by unfold AE;rw[aa,fC];rfl
  rw[hm];refine ai ?_;repeat' (intro (aw:_=_)<;>simp only[aw,go_sem,go_sem_proc,fl,vU,j8,aa,cm,cC]<;>try refine ah ?_ ?_)
def ot (a b:Raw):Raw×Int:=if (dO a&&dO b)=true then (bY (jw (iu a).natAbs (iu b).natAbs:Nat),0) else ((0,[]),1)
def MG {x y:Int}(Q:x.natAbs<ea)(al:y.natAbs<ea):jw x.natAbs y.natAbs<ea:=by
 rcases jG x.natAbs with h|h
 ·rw[h,Nat.gcd_zero_left];exact al
 ·exact uz (Nat.gcd_le_left _ h) Q
def MH:=bU np λ(s,l,s2,aI)=>cp (D l<=1000000/\D aI<=1000000) (.same (iL (ot (s,l) (s2,aI))))
@[go_sem] def aNV (s l s2 aI):=cz MH rfl y0 (s,l,s2,aI) rfl
def avv (T:ba)(fl:T ll=aQ vS)(gS:T vK=aQ Ao)(s9:T LP=aQ Mu)(hH:T pq=aQ Ap)(p9:T vJ=aQ Ir):WF T afb MH:=by
 refine cf λ(s,l,s2,aI)=>cG λH=>⟨rfl,b7 ?_⟩;simp only[afb,np,b1];obtain⟨cm,cC⟩:=H
 by_cases aa:dO (s,l)=true
 ·by_cases bL:dO (s2,aI)=true
  ·obtain⟨x,Q,e⟩:=(j9 _).1 aa;obtain⟨y,al,aD⟩:=(j9 _).1 bL
   have hm:ot (s,l) (s2,aI)=(bY (jw x.natAbs y.natAbs:Nat),0):=by
    rw[e,aD];unfold ot
    rw[lq Q,lq al,fT,fT]
    rfl
   rw[hm];clear hm
   cases e
   cases aD;have md:=sc Q;have mO:=sc al;have a8:=MG Q al;generalize mQ:x.natAbs=cU at *;generalize AF:y.natAbs=gj at *;have Y0:(aZ cU).length<=1000000:=by omega
   simp only[go_sem,go_sem_proc,fl,gS,s9,hH,p9,aa,bL,mQ,AF,cm,cC,Y0,aC,ar];refine da [4] [137004] (λ((a,b):Nat×Nat) tm mem=>a<ea/\b<ea/\jw cU gj=jw a b/\tm 6=.M (.ay ((aZ a).map aC))/\tm 7=.M (.ay ((aZ b).map aC))) (λ(_,b)=>b) (cU,gj) (by refine⟨Q,al,rfl,rfl,rfl⟩) ?_;intro vs ms aW aR;simp only[go_sem,go_sem_proc,fl,gS,s9,hH,p9,mQ,AF] at aW aR;subst aW aR;rintro⟨a,b⟩ tm mem I hm ⟨aO,ad,xA,b2,cb⟩;simp only[go_sem,go_sem_proc,fl,gS,s9,hH,p9,bh] at I hm;have aS:=I;have lk:(aZ a).length<=60:=g8.2 aO;have nK:(aZ b).length<=60:=g8.2 ad;rcases jG b with au|h5
   ·subst au;have aV:aZ 0=[]:=rfl;have Y1:(aZ a).length<=1000000:=by omega
    rw[Nat.gcd_zero_right] at xA;have X:mb 1 (aZ a)=bY ((a:Nat):Int):=p8 (by simp) λaH=>(jM (by omega)).symm;have I:s8 ((a:Nat):Int)=(bY ((a:Nat):Int),0):=by unfold s8;rw[ab (by simpa using aO)]
    rw[xA];refine ai ?_;repeat' (intro h<;>simp only[h,go_sem,go_sem_proc,fl,gS,s9,hH,p9,aS,b2,cb,hm,aV,Y1,X,I,MB,eI,iL,v3,cR,lH,pr,p4,show ¬ ((0:Int)>0) by omega,decide_false]<;>try refine ah ?_ ?_)
   ·have bE:decide (((aZ b).length:Int)>0)=true:=by
     have:aZ b≠[]:=by rw[Ne,Ac];omega
     have:=CA.2 this;exact cX
    have hdiv:=agn a b ⟨by omega,by omega,h5⟩
    simp only[dR] at hdiv;refine ai ?_;repeat' (intro h<;>simp only[h,go_sem,go_sem_proc,fl,gS,s9,hH,p9,aS,b2,cb,hm,bE,hdiv,ar]<;>try refine ah ?_ ?_)
    exact⟨(b,a%b),oS _ h5,ad,uz (Nat.mod_le _ _) aO,by dsimp only;rw[xA,MI a b,Nat.gcd_rec b a,MI],rfl,rfl⟩
  ·have bL:dO (s2,aI)=false:=by simpa using bL
   have hm:ot (s,l) (s2,aI)=((0,[]),1):=by unfold ot;rw[bL,hs];rfl
   rw[hm];have qa:=Is false 0 [];simp only[cR] at qa;refine ai ?_;repeat' (intro h<;>simp only[h,go_sem,go_sem_proc,fl,gS,s9,hH,p9,aa,bL,cm,cC,qa,eI,iL,cR]<;>try refine ah ?_ ?_)
 ·have aa:dO (s,l)=false:=by simpa using aa
  have hm:ot (s,l) (s2,aI)=((0,[]),1):=by unfold ot;rw[aa,fC];rfl
  rw[hm];have qa:=Is false 0 [];simp only[cR] at qa;refine ai ?_;repeat' (intro h<;>simp only[h,go_sem,go_sem_proc,fl,gS,s9,hH,p9,aa,cm,cC,qa,eI,iL,cR]<;>try refine ah ?_ ?_)
def mT (a b:Raw):Raw×Raw×Int :=
 if (dO a&&dO b)=true then
  if iu b=0 then ((0,[]),(0,[]),15) else (bY ((iu a).fdiv (iu b)),bY ((iu a).fmod (iu b)),0)
 else ((0,[]),(0,[]),1)
def mU (x:Raw×Raw×Int):Data:=.cP [.agg (eI x.1),.agg (eI x.2.1),.int .i64 x.2.2]
def agT {x y q r:Int}(h:r+y*q=x)(aa:(0<=r/\r<y)\/(y<r/\r<=0)):x.fdiv y=q/\x.fmod y=r:=by
 rcases aa with ⟨F,G⟩|⟨F,G⟩
 ·exact (Int.fdiv_fmod_unique (by omega)).2 ⟨h,F,G⟩
 ·exact (Int.fdiv_fmod_unique' (by omega)).2 ⟨h,F,G⟩
def Rt {x y:Int}(h:x.sign*y.sign<0)(hm:x.natAbs%y.natAbs≠0):
  x.fdiv y = -((x.natAbs/y.natAbs+1:Nat):Int)/\x.fmod y=y.sign*((y.natAbs-x.natAbs%y.natAbs:Nat):Int):=by
 have G:=QB x.natAbs y.natAbs;generalize e3:x.natAbs/y.natAbs=aN at *;generalize gI:x.natAbs%y.natAbs=bK at *
 have al:0<y.natAbs:=by
  rcases jG y.natAbs with au|au
  ·rw[Int.natAbs_eq_zero.1 au] at h;simp at h
  ·exact au
 have aq:bK<y.natAbs:=by rw[<-gI];exact oS _ al
 have sO:(y.natAbs:Int)*aN+bK=x.natAbs:=by exact_mod_cast G
 refine agT ?_ ?_
 ·rcases mS x with ⟨e,F⟩|⟨e,F⟩|⟨e,F⟩<;>rcases mS y with ⟨e',af⟩|⟨e',af⟩|⟨e',af⟩<;>rw[e,e'] at h<;>first|omega|rw[e']
  ·rw[agU (by omega),agV,Ih,iq];have:(y.natAbs:Int) = -y:=by omega
   rw[this] at sO ⊢;rw[E3] at sO;omega
  ·rw[agU (by omega),agV,Ih,iq];have:(y.natAbs:Int)=y:=by omega
   rw[this] at sO ⊢;omega
 ·rcases mS y with ⟨e',af⟩|⟨e',af⟩|⟨e',af⟩<;>rw[e']<;>omega
def Ru {x y:Int}(al:y≠0)(h:¬ (x.sign*y.sign<0/\x.natAbs%y.natAbs≠0)):
  x.fdiv y=x.sign*y.sign*((x.natAbs/y.natAbs:Nat):Int)/\x.fmod y=x.sign*((x.natAbs%y.natAbs:Nat):Int):=by
 have G:=QB x.natAbs y.natAbs;have aq:x.natAbs%y.natAbs<y.natAbs:=oS _ (by omega);generalize e3:x.natAbs/y.natAbs=aN at *;generalize gI:x.natAbs%y.natAbs=bK at *;have sO:(y.natAbs:Int)*aN+bK=x.natAbs:=by exact_mod_cast G
 refine agT ?_ ?_
 ·rcases mS x with ⟨e,F⟩|⟨e,F⟩|⟨e,F⟩<;>rcases mS y with ⟨e',af⟩|⟨e',af⟩|⟨e',af⟩<;>first|omega|(rw[e,e'])
  ·rw[show (y.natAbs:Int)=y by omega] at sO;simp only[r8];omega
  ·rw[show (y.natAbs:Int) = -y by omega,E3] at sO;simp only[r8,E3,Ih];omega
  ·simp only[AG,yW];omega
  ·simp only[AG,yW];omega
  ·rw[show (y.natAbs:Int)=y by omega] at sO;simp only[r8,E3,Ih,vT];omega
  ·rw[show (y.natAbs:Int) = -y by omega,E3] at sO;simp only[r8,E3,Ih,Int.neg_neg];omega
 ·have au6:x.natAbs=0->bK=0:=by
   intro au;rw[<-gI,au,agW]
  rcases mS x with ⟨e,F⟩|⟨e,F⟩|⟨e,F⟩<;>rcases mS y with ⟨e',af⟩|⟨e',af⟩|⟨e',af⟩<;>rw[e,e'] at h<;>rw[e]<;>omega
def Iu {x y:Int}(Q:x.natAbs<ea)(jc:y≠0):(x.fdiv y).natAbs<ea:=by
 by_cases h:x.sign*y.sign<0/\x.natAbs%y.natAbs≠0
 ·have aK:=(Rt h.1 h.2).1;have G:=QB x.natAbs y.natAbs
  have:x.natAbs/y.natAbs+1<=x.natAbs:=by
   have avw:2<=y.natAbs:=by
    rcases iD y.natAbs 2 with au|au
    ·have:y.natAbs=1:=by omega
     rw[this,Nat.mod_one] at h;exact absurd rfl h.2
    ·exact au
   have af:2*(x.natAbs/y.natAbs)<=y.natAbs*(x.natAbs/y.natAbs):=sN _ avw;omega
  generalize x.natAbs/y.natAbs=aN at *;omega
 ·have aK:=(Ru jc h).1;have af:x.natAbs/y.natAbs<=x.natAbs:=agX _ _
  have aS:(x.fdiv y).natAbs<=x.natAbs/y.natAbs:=by
   rw[aK,sb,sb,mV];have F:x.sign.natAbs<=1:=by have:=sd x;omega
   have G:y.sign.natAbs<=1:=by have:=sd y;omega
   have:=Nat.mul_le_mul F G;have:=sN (x.natAbs/y.natAbs) this;omega
  omega
def agY {x y:Int}(al:y.natAbs<ea)(jc:y≠0):(x.fmod y).natAbs<ea:=by
 by_cases h:x.sign*y.sign<0/\x.natAbs%y.natAbs≠0
 ·have aK:=(Rt h.1 h.2).2;rcases mS y with ⟨e',af⟩|⟨e',af⟩|⟨e',af⟩<;>rw[e'] at aK<;>omega
 ·have aK:=(Ru jc h).2;have aq:x.natAbs%y.natAbs<y.natAbs:=oS _ (by omega);rcases mS x with ⟨e',af⟩|⟨e',af⟩|⟨e',af⟩<;>rw[e'] at aK<;>omega
def Fb {x y:Int}(Q:x.natAbs<ea)(al:y.natAbs<ea)(au:y≠0):mT (bY x) (bY y)=(bY (x.fdiv y),bY (x.fmod y),0):=by
 unfold mT;rw[lq Q,lq al,fT,fT,ab (by rfl),ae au]
def MJ:=bU np λ(s,l,s2,aI)=>cp (D l<=1000000/\D aI<=1000000) (.same (mU (mT (s,l) (s2,aI))))
@[go_sem] def aNW (s l s2 aI):=cz MJ rfl y0 (s,l,s2,aI) rfl
def avx (T:ba)(fl:T ll=aQ vS)(s9:T LP=aQ Mu)(v7:T LR=aQ Mj)(v8:T HM=aQ Mk)(hH:T pq=aQ Ap):WF T aff MJ:=by
 refine cf λ(s,l,s2,aI)=>cG λH=>⟨rfl,b7 ?_⟩;simp only[aff,np,b1];obtain⟨cm,cC⟩:=H
 by_cases aa:dO (s,l)=true
 ·by_cases bL:dO (s2,aI)=true
  ·obtain⟨x,Q,e⟩:=(j9 _).1 aa;obtain⟨y,al,aD⟩:=(j9 _).1 bL
   by_cases jc:y=0
   ·have hm:mT (s,l) (s2,aI)=((0,[]),(0,[]),15):=by
     rw[e,aD];unfold mT
     rw[lq Q,lq al,fT,fT,ab (by rfl),ab jc]
    rw[hm]
    cases e
    cases aD;have au:((y.sign:Int)==0)=true:=by rw[jc];rfl
    refine ai ?_;repeat' (intro (aw:_=_)<;>simp only[aw,go_sem,go_sem_proc,fl,s9,v7,v8,hH,aa,bL,cm,cC,au,eI,mU,cR]<;>try refine ah ?_ ?_)
   ·have hm:mT (s,l) (s2,aI)=(bY (x.fdiv y),bY (x.fmod y),0):=by
     rw[e,aD];exact Fb Q al jc
    rw[hm];clear hm
    cases e
    cases aD;have md:=sc Q;have mO:=sc al;have Fc:(y.sign==0)=false:=by rw[beq_eq_false_iff_ne,Ne,Int.sign_eq_zero_iff_zero];exact jc
    have Fe:0<y.natAbs:=by omega
    have F:=sd x;have G:=sd y;have aF:x.sign*y.sign=(x*y).sign:=(q1 x y).symm;have af:=sd (x*y);have hw:IntKind.i64.wrap (x.sign*y.sign)=x.sign*y.sign:=by rw[aF];exact wrap64 _ (by omega) (by omega)
    have hdiv:=agn x.natAbs y.natAbs ⟨by omega,by omega,Fe⟩
    simp only[dR] at hdiv;have aY:=Iu (y:=y) Q jc;have y1:=agY (x:=x) al jc;have Y2:x.natAbs/y.natAbs<ea:=uz (agX _ _) Q;have avy:(aZ (x.natAbs/y.natAbs)).length<=60:=g8.2 Y2;have Iv:x.natAbs%y.natAbs<ea:=Nat.lt_trans (oS _ Fe) al;have avz:(aZ (x.natAbs%y.natAbs)).length<=60:=g8.2 Iv
    by_cases uI:x.sign*y.sign<0/\x.natAbs%y.natAbs≠0
    ·obtain⟨eq,nP⟩:=Rt uI.1 uI.2
     have bE:decide (((aZ (x.natAbs%y.natAbs)).length:Int)>0)=true:=by
      have:aZ (x.natAbs%y.natAbs)≠[]:=by rw[Ne,Ac];exact uI.2
      have:=CA.2 this;exact cX
     have lL:decide (x.sign*y.sign<0)=true:=h2 uI.1;have j7:aZ 1=[1]:=by simp[aZ,yM]
     have avA:(aZ 1).length=1:=by rw[j7];rfl
     have kV:=afS (x.natAbs/y.natAbs) 1 ⟨by omega,by omega⟩
     simp only[dR,j7,eu,cR,aC] at kV;have nn:=Ys y.natAbs (x.natAbs%y.natAbs) ⟨by omega,MK (oS _ Fe)⟩
     simp only[dR] at nn
     have lk:(aZ (x.natAbs/y.natAbs+1)).length<=1000000:=by
      have:(x.natAbs/y.natAbs+1)<ea:=by rw[eq] at aY;rw[ML,mV] at aY;exact aY
      have:=(g8 (k:=60)).2 this;omega
     have nK:(aZ (y.natAbs-x.natAbs%y.natAbs)).length<=1000000:=by have:=Rp y.natAbs (x.natAbs%y.natAbs);omega
     have hM:mb (-1) (aZ (x.natAbs/y.natAbs+1))=bY (x.fdiv y):=p8 (by rw[eq,ML,mV]) λ_=>by rw[eq,E4,jM (show (0:Int)<((x.natAbs/y.natAbs+1:Nat):Int) by exact CB.2 (Nat.succ_pos _))]
     have jx:mb y.sign (aZ (y.natAbs-x.natAbs%y.natAbs))=bY (x.fmod y):=by
      refine p8 ?_ λaH=>?_
      ·rw[nP];rcases mS y with ⟨e',af⟩|⟨e',af⟩|⟨e',af⟩<;>rw[e']<;>omega
      ·rw[nP,q1,AH,jM (show (0:Int)<((y.natAbs-x.natAbs%y.natAbs:Nat):Int) by omega),vT]
     refine ai ?_;repeat' (intro (aw:_=_)<;>simp only[aw,go_sem,go_sem_proc,fl,s9,v7,v8,hH,aa,bL,cm,cC,Fc,hw,hdiv,bE,lL,kV,nn,lk,nK,hM,jx,aC,ar,eI,mU,v3]<;>try refine ah ?_ ?_)
    ·obtain⟨eq,nP⟩:=Ru jc uI
     have Y3:(decide (x.sign*y.sign<0)=true/\decide (((aZ (x.natAbs%y.natAbs)).length:Int)>0)=false)\/decide (x.sign*y.sign<0)=false:=by
      by_cases aH:x.sign*y.sign<0
      ·left
       have:x.natAbs%y.natAbs=0:=Decidable.not_not.1 λh=>uI ⟨aH,h⟩;rw[this];exact⟨h2 aH,rfl⟩
      ·right;exact lZ aH
     have lk:(aZ (x.natAbs/y.natAbs)).length<=1000000:=by omega
     have nK:(aZ (x.natAbs%y.natAbs)).length<=1000000:=by omega
     have hM:mb (x.sign*y.sign) (aZ (x.natAbs/y.natAbs))=bY (x.fdiv y):=by
      refine p8 ?_ λaH=>?_
      ·rw[eq]
       have Ff:∀aN:Nat,(x=0->aN=0)->(x.sign*y.sign*(aN:Int)).natAbs=aN:=by
        intro aN au;rcases mS x with ⟨e,F⟩|⟨e,F⟩|⟨e,F⟩<;>rcases mS y with ⟨e',af⟩|⟨e',af⟩|⟨e',af⟩<;>rw[e,e']<;>first|omega|(rw[au F];rfl)
       exact Ff _ λau=>by rw[au];exact Nat.zero_div _
      ·rw[eq,aF,q1,q1,q1,AH,AH,jM (show (0:Int)<((x.natAbs/y.natAbs:Nat):Int) from CB.2 (HI aH)),vT]
     have jx:mb x.sign (aZ (x.natAbs%y.natAbs))=bY (x.fmod y):=by
      refine p8 ?_ λaH=>?_
      ·rw[nP]
       have Ff:∀aN:Nat,(x=0->aN=0)->(x.sign*(aN:Int)).natAbs=aN:=by
        intro aN au;rcases mS x with ⟨e,F⟩|⟨e,F⟩|⟨e,F⟩<;>rw[e]<;>first|omega|(rw[au F];rfl)
       exact Ff _ λau=>by rw[au];exact agW _
      ·rw[nP,q1,AH,jM (show (0:Int)<((x.natAbs%y.natAbs:Nat):Int) from CB.2 (HI aH)),vT]
     rcases Y3 with ⟨Fg,Y4⟩|Fg
     ·refine ai ?_;repeat' (intro (aw:_=_)<;>simp only[aw,go_sem,go_sem_proc,fl,s9,v7,v8,hH,aa,bL,cm,cC,Fc,hw,hdiv,Fg,Y4,lk,nK,hM,jx,aC,ar,eI,mU,v3]<;>try refine ah ?_ ?_)
     ·refine ai ?_;repeat' (intro (aw:_=_)<;>simp only[aw,go_sem,go_sem_proc,fl,s9,v7,v8,hH,aa,bL,cm,cC,Fc,hw,hdiv,Fg,lk,nK,hM,jx,aC,ar,eI,mU,v3]<;>try refine ah ?_ ?_)
  ·have bL:dO (s2,aI)=false:=by simpa using bL
   have hm:mT (s,l) (s2,aI)=((0,[]),(0,[]),1):=by unfold mT;rw[bL,hs];rfl
   rw[hm];refine ai ?_;repeat' (intro (aw:_=_)<;>simp only[aw,go_sem,go_sem_proc,fl,s9,v7,v8,hH,aa,bL,cm,cC,eI,mU,cR]<;>try refine ah ?_ ?_)
 ·have aa:dO (s,l)=false:=by simpa using aa
  have hm:mT (s,l) (s2,aI)=((0,[]),(0,[]),1):=by unfold mT;rw[aa,fC];rfl
  rw[hm];refine ai ?_;repeat' (intro (aw:_=_)<;>simp only[aw,go_sem,go_sem_proc,fl,s9,v7,v8,hH,aa,cm,cC,eI,mU,cR]<;>try refine ah ?_ ?_)
def fa (n:Int):Prop:=-9223372036854775808<=n/\n<=9223372036854775807
def avB {n:Nat}(h:n<=9223372036854775808):n<ea:=by
 unfold ea;refine DV (m:=1048576^4) ?_ (xz (by omega) (by omega));omega
def y2 {n:Int}(h:fa n):n.natAbs<ea:=avB (by unfold fa at h;omega)
def Y5 (n:Int)(F:-18446744073709551616<=n)(G:n<0):IntKind.u64.wrap n=n+18446744073709551616:=by
 unfold IntKind.wrap;simp[IntKind.bits,IntKind.signed];omega
def Rv:=bU oo λ(n:Int)=>cp (fa n) (.same (.agg (eI (bY n))))
@[go_sem] def aNX (n):=cz Rv rfl An n rfl
def avC (T:ba)(hH:T pq=aQ Ap):WF T afd Rv:=by
 refine cf λn=>cG λH=>⟨rfl,b7 ?_⟩;simp only[afd,oo,b1];have l4:=H;unfold fa at l4;obtain⟨na,vq⟩:=l4;have X:∀s:Int,(n≠0->s=n.sign)->mb s (aZ n.natAbs)=bY n:=λs h=>p8 rfl λbE=>h (by omega);have hlen:(aZ n.natAbs).length<=60:=g8.2 (y2 H);rcases dq (n<0) with lL|h5
 ·have hw:=Y5 n (by omega) lL
  have hv:IntKind.u64.wrap (0-(n+18446744073709551616))=(n.natAbs:Int):=by
   rw[Y5 _ (by omega) (by omega)];omega
  simp only[go_sem,go_sem_proc,hH,lL,hw,hv,decide_true];refine da [2,3] [150002] (λ((u,g,l):Nat×Nat×List Int) tm mem=>u<=9223372036854775808/\aZ n.natAbs=l++aZ u/\tm 4=.M (.int .u64 u)/\tm 5=.ref 150021 g 1 0 (D l)/\mem 150021=some (g,a6 aC l)) (λ(u,_)=>u) (n.natAbs,0,[]) (by refine⟨by omega,rfl,?_,rfl,rfl⟩;rfl) ?_;intro vs ms aW aR;simp only[go_sem,go_sem_proc,hH] at aW aR;subst aW aR;rintro⟨u,g,l⟩ tm mem I hm ⟨hu,Y,aS,bt,MM⟩;simp only[go_sem,go_sem_proc,hH,bh] at I hm;obtain⟨G,af⟩:=I;rcases jG u with au|uF
  ·subst au;rw[sY,fG] at Y;rw[Y] at X hlen;have CC:(D l)<=1000000:=by omega
   have jI:=X (-1) (λ_=>by exact (q0 lL).symm);refine ai ?_;repeat' (intro (aw:_=_)<;>simp only[aw,go_sem,go_sem_proc,hH,G,af,aS,bt,hm,MM,jI,CC,eI,pr,p4,ar,show ¬ ((0:Int)>0) by omega,decide_false,oQ iH,mW]<;>try refine ah ?_ ?_)
  ·have AA:(D l)<=60:=by
    have:=congrArg D Y;rw[fO] at this;omega
   have kx:decide ((u:Int)>0)=true:=cX;have dN:∀a:Int,mA 150021 g 1 (D l) 8 1 [.M (.int .i64 a)] (some (g,a6 aC l))=_:=λa=>l8 iH vE 150021 g 8 l a rfl (by omega) (by omega);have hand:=ae6 u ⟨by omega,by omega⟩
   have Y6:IntKind.i64.wrap ((u:Int)%1048576)=(u:Int)%1048576:=wrap64 _ (by omega) (by omega);refine ai ?_;repeat' (intro (aw:_=_)<;>simp only[aw,go_sem,go_sem_proc,hH,G,af,aS,bt,hm,MM,kx,dN,hand,Y6,xl,show ((20:Int)<0)=False from by simp,if_false,ar,bh]<;>try refine ah ?_ ?_)
   refine⟨(u/1048576,g+1,l++[(u:Int)%1048576]),by dsimp only;omega,by dsimp only;omega,by dsimp only;rw[gr,Y,vF uF];rfl,by first|rfl|(dsimp only;rw[Af _ ⟨by omega,by omega⟩];rfl),by simp,by simp[go_sem]⟩
 ·have hw:IntKind.u64.wrap n=(n.natAbs:Int):=by rw[Af _ ⟨by omega,by omega⟩];omega
  simp only[go_sem,go_sem_proc,hH,h5,hw,decide_false];refine da [2,3] [150002] (λ((u,g,l):Nat×Nat×List Int) tm mem=>u<=9223372036854775808/\aZ n.natAbs=l++aZ u/\tm 4=.M (.int .u64 u)/\tm 5=.ref 150021 g 1 0 (D l)/\mem 150021=some (g,a6 aC l)) (λ(u,_)=>u) (n.natAbs,0,[]) (by refine⟨by omega,rfl,?_,rfl,rfl⟩;rfl) ?_;intro vs ms aW aR;simp only[go_sem,go_sem_proc,hH] at aW aR;subst aW aR;rintro⟨u,g,l⟩ tm mem I hm ⟨hu,Y,aS,bt,MM⟩;simp only[go_sem,go_sem_proc,hH,bh] at I hm;obtain⟨G,af⟩:=I;rcases jG u with au|uF
  ·subst au;rw[sY,fG] at Y;rw[Y] at X hlen;have CC:(D l)<=1000000:=by omega
   have jI:=X 1 (λ_=>by exact (jM (by omega)).symm);refine ai ?_;repeat' (intro (aw:_=_)<;>simp only[aw,go_sem,go_sem_proc,hH,G,af,aS,bt,hm,MM,jI,CC,eI,pr,p4,ar,show ¬ ((0:Int)>0) by omega,decide_false,oQ iH,mW]<;>try refine ah ?_ ?_)
  ·have AA:(D l)<=60:=by
    have:=congrArg D Y;rw[fO] at this;omega
   have kx:decide ((u:Int)>0)=true:=cX;have dN:∀a:Int,mA 150021 g 1 (D l) 8 1 [.M (.int .i64 a)] (some (g,a6 aC l))=_:=λa=>l8 iH vE 150021 g 8 l a rfl (by omega) (by omega);have hand:=ae6 u ⟨by omega,by omega⟩
   have Y6:IntKind.i64.wrap ((u:Int)%1048576)=(u:Int)%1048576:=wrap64 _ (by omega) (by omega);refine ai ?_;repeat' (intro (aw:_=_)<;>simp only[aw,go_sem,go_sem_proc,hH,G,af,aS,bt,hm,MM,kx,dN,hand,Y6,xl,show ((20:Int)<0)=False from by simp,if_false,ar,bh]<;>try refine ah ?_ ?_)
   refine⟨(u/1048576,g+1,l++[(u:Int)%1048576]),by dsimp only;omega,by dsimp only;omega,by dsimp only;rw[gr,Y,vF uF];rfl,by first|rfl|(dsimp only;rw[Af _ ⟨by omega,by omega⟩];rfl),by simp,by simp[go_sem]⟩
def avD (k:IntKind)(a b:Int):bits .or k a b=bits .or k b a:=by
 simp only[bits,BitVec.or_comm]
def avE (u d:Int)(i:Nat)(J:(2:Int)^i<=1152921504606846976)(hu:0<=u/\u<2^i)(Y:0<=d)(h:d*2^i<18446744073709551616):bits .or .u64 u (d*2^i)=u+d*2^i:=by
 rw[avD,yU];have au:0<=d*2^i:=uA Y (by exact Y7 (Mx (by omega)));refine bits_join .u64 64 (by decide) (λn F G=>Af n ⟨F,by omega⟩) i _ _ au (Int.mul_emod_left _ _) (by omega) hu.1 hu.2 (by omega)
instance (n:Int):Decidable (fa n):=by unfold fa;exact inferInstance
def y3 (a:Raw):Int×Bool:=if dO a=true/\fa (iu a) then (iu a,true) else (0,false)
def Rw:=bU s3 λ(s,l)=>cp (D l<=1000000) (.same (.cP [.int .i64 (y3 (s,l)).1,.bool (y3 (s,l)).2]))
@[go_sem] def aNY (s l):=cz Rw rfl H0 (s,l) rfl
def avF (T:ba)(fl:T ll=aQ vS):WF T afk Rw:=by
 refine cf λ(s,l)=>cG λH=>⟨rfl,b7 ?_⟩;simp only[afk,s3,b1]
 by_cases aa:dO (s,l)=true
 ·obtain⟨z,aV,e⟩:=(j9 _).1 aa
  cases e
  have J:y3 (z.sign,aZ z.natAbs)=if fa z then (z,true) else (0,false):=by
   unfold y3;rw[aa,show iu (z.sign,aZ z.natAbs)=z from fT z];simp
  rw[J];clear J;have X:=mS z
  by_cases aS:(aZ z.natAbs).length<=4
  ·have Y8:decide (((aZ z.natAbs).length:Int)>4)=false:=cA;have jH:=l9 z.natAbs;have mL:=nh z.natAbs;generalize aZ z.natAbs=l at *;simp only[go_sem,go_sem_proc,fl,aa,H,Y8,ar,aC];refine da [1,17,18] [159001] (λ((i,u):Nat×Int) tm mem=>i<=D l/\u=bg (l.take i)/\u<18446744073709551616/\tm 4=.M (.int .u64 u)/\tm 19=.M (.int .i64 i)) (λ(i,_)=>D l-i) (0,0) (by refine⟨by omega,rfl,by omega,rfl,rfl⟩) ?_;intro vs ms aW aR;simp only[go_sem,go_sem_proc,fl] at aW aR;subst aW aR;rintro⟨i,u⟩ tm mem I hm ⟨J,hu,aNZ,CD,CE⟩;simp only[go_sem,go_sem_proc,fl,bh] at I hm;obtain⟨F,qb,nM⟩:=I;have agZ:eX (l.take i):=λd Y=>mL d (D9 Y);have Fh:0<=u:=by rw[hu];exact po agZ
   rcases dq (i<D l) with aq|ca
   ·have Q:=bn aq;have Y:=mL l[i] (nC aq);have rT:=lI l i aq;have Fi:=Ad agZ;rw[gE,oO (MK aq),<-hu] at Fi;rw[<-hu] at rT;generalize l[i]=d at *;have AJ:decide ((i:Int)<(D l:Int))=true:=cX;have qX:IntKind.u64.wrap d=d:=Af d ⟨Y.1,by omega⟩
    have Iq:IntKind.i64.wrap (20*(i:Int))=((20*i:Nat):Int):=by rw[ev _];omega
    have Qf:min (20*i) 64=20*i:=by omega
    have od:(((20*i:Nat):Int)<0)=False:=eq_false (by omega);have Iw:(1048576:Int)^i=2^(20*i):=by rw[Int.pow_mul];rfl
    rw[Iw] at Fi rT
    have nD:(2:Int)^(20*i)<=1152921504606846976:=by
     obtain rfl|rfl|rfl|rfl:i=0\/i=1\/i=2\/i=3:=by omega
     all_goals decide
    by_cases Y9:i=3/\d>8
    ·obtain⟨rfl,Za⟩:=Y9;have avG:decide (d>8)=true:=h2 Za;have Rx:(((3:Nat):Int)==3)=true:=rfl
     have AK:¬ fa z:=by
      have s7:=LL l 4;rw[jH] at s7;have:0<=bg (l.drop 4):=po λd Y=>mL d (Ij Y);have bt:=uA (show (0:Int)<=1048576^(min 4 (D l)) from Y7 (Mx (by omega))) this;unfold fa;simp only[ag0,Nat.reduceAdd,ag1] at rT;rw[rT] at s7;omega
     rw[ae AK];refine ai ?_;repeat' (intro (aw:_=_)<;>simp only[aw,go_sem,go_sem_proc,fl,F,qb,nM,CD,CE,hm,Q,Y.1,Y.2,AJ,qX,avG,Rx,ar,bo,bh,aC]<;>try refine ah ?_ ?_)
    ·have xv:d*2^(20*i)<18446744073709551616:=by
      obtain rfl|rfl|rfl|rfl:i=0\/i=1\/i=2\/i=3:=by omega
      all_goals simp
      all_goals omega
     have Cn:=avE u d (20*i) nD ⟨Fh,Fi⟩ Y.1 xv;have AL:0<=d*2^(20*i):=uA Y.1 (Y7 (Mx (by omega)));have Zb:IntKind.u64.wrap (d*2^(20*i))=d*2^(20*i):=Af _ ⟨AL,xv⟩
     have nO:u+d*2^(20*i)<18446744073709551616:=by
      clear Cn Zb AL Iq od Iw nD rT;obtain rfl|rfl|rfl|rfl:i=0\/i=1\/i=2\/i=3:=by omega
      all_goals simp only[ag0,ag1] at Fi xv ⊢
      all_goals omega
     by_cases af:((i:Int)==3)=true
     ·have Za:decide (d>8)=false:=lZ λh=>Y9 ⟨by simp at af;omega,h⟩
      refine ai ?_;repeat' (intro (aw:_=_)<;>simp only[aw,go_sem,go_sem_proc,fl,F,qb,nM,CD,CE,hm,Q,Y.1,Y.2,AJ,qX,af,Za,Iq,od,if_false,g9,Qf,Zb,Cn,ar,bo,bh,aC]<;>try refine ah ?_ ?_)
      exact⟨(i+1,u+d*2^(20*i)),by dsimp only;omega,by dsimp only;omega,by dsimp only;rw[rT,nI],nO,rfl,by rw[ev _];rfl⟩
     ·have af:((i:Int)==3)=false:=by simpa using af
      refine ai ?_;repeat' (intro (aw:_=_)<;>simp only[aw,go_sem,go_sem_proc,fl,F,qb,nM,CD,CE,hm,Q,Y.1,Y.2,AJ,qX,af,Iq,od,if_false,g9,Qf,Zb,Cn,ar,bo,bh,aC]<;>try refine ah ?_ ?_)
      exact⟨(i+1,u+d*2^(20*i)),by dsimp only;omega,by dsimp only;omega,by dsimp only;rw[rT,nI],nO,rfl,by rw[ev _];rfl⟩
   ·have AJ:decide ((i:Int)<(D l:Int))=false:=cA;have kW:i=D l:=by omega
    rw[kW,mW,jH] at hu;rcases X with ⟨X,kL⟩|⟨X,kL⟩|⟨X,kL⟩
    ·by_cases hr64:u<9223372036854775808
     ·rw[ab (by unfold fa;omega)];have hw:IntKind.i64.wrap u=z:=by rw[wrap64 u (by omega) (by omega)];omega
      refine ai ?_;repeat' (intro (aw:_=_)<;>simp only[aw,go_sem,go_sem_proc,fl,F,qb,nM,CD,CE,hm,AJ,X,hr64,show decide ((1:Int)<0)=false from rfl,show decide ((1:Int)>=0)=true from rfl,show decide ((-1:Int)<0)=true from rfl,show decide ((-1:Int)>=0)=false from rfl,hw,decide_true,decide_false,ar]<;>try refine ah ?_ ?_)
     ·rw[ae (by unfold fa;omega)];refine ai ?_;repeat' (intro (aw:_=_)<;>simp only[aw,go_sem,go_sem_proc,fl,F,qb,nM,CD,CE,hm,AJ,X,hr64,show decide ((1:Int)<0)=false from rfl,show decide ((1:Int)>=0)=true from rfl,show decide ((-1:Int)<0)=true from rfl,show decide ((-1:Int)>=0)=false from rfl,decide_true,decide_false,ar]<;>try refine ah ?_ ?_)
    ·rw[ab (by unfold fa;omega)];have avH:u=0:=by omega
     subst kL;subst avH;refine ai ?_;repeat' (intro (aw:_=_)<;>simp only[aw,go_sem,go_sem_proc,fl,F,qb,nM,CD,CE,hm,AJ,X,show decide ((0:Int)<0)=false from rfl,show decide ((0:Int)>=0)=true from rfl,show decide ((0:Int)<9223372036854775808)=true from rfl,show IntKind.i64.wrap 0=0 from rfl,show (0:Int).sign=0 from rfl,decide_true,decide_false,ar]<;>try refine ah ?_ ?_)
    ·by_cases hr64:u<=9223372036854775808
     ·rw[ab (by unfold fa;omega)];have hw:=Y5 (0-u) (by omega) (by omega)
      have hv:IntKind.i64.wrap (0-u+18446744073709551616)=z:=by
       simp[IntKind.wrap,IntKind.bits,IntKind.signed];omega
      refine ai ?_;repeat' (intro (aw:_=_)<;>simp only[aw,go_sem,go_sem_proc,fl,F,qb,nM,CD,CE,hm,AJ,X,hr64,show decide ((1:Int)<0)=false from rfl,show decide ((1:Int)>=0)=true from rfl,show decide ((-1:Int)<0)=true from rfl,show decide ((-1:Int)>=0)=false from rfl,hw,hv,decide_true,decide_false,ar]<;>try refine ah ?_ ?_)
     ·rw[ae (by unfold fa;omega)];refine ai ?_;repeat' (intro (aw:_=_)<;>simp only[aw,go_sem,go_sem_proc,fl,F,qb,nM,CD,CE,hm,AJ,X,hr64,show decide ((1:Int)<0)=false from rfl,show decide ((1:Int)>=0)=true from rfl,show decide ((-1:Int)<0)=true from rfl,show decide ((-1:Int)>=0)=false from rfl,decide_true,decide_false,ar]<;>try refine ah ?_ ?_)
  ·have Y8:decide (((aZ z.natAbs).length:Int)>4)=true:=cX
   have aH:¬ fa z:=by
    intro h;unfold fa at h;refine aS (g8.2 ?_);omega
   rw[ae aH];refine ai ?_;repeat' (intro (aw:_=_)<;>simp only[aw,go_sem,go_sem_proc,fl,aa,H,Y8,ar]<;>try refine ah ?_ ?_)
 ·have aa:dO (s,l)=false:=by simpa using aa
  have J:y3 (s,l)=(0,false):=by unfold y3;rw[ae];rw[aa];simp
  rw[J];refine ai ?_;repeat' (intro (aw:_=_)<;>simp only[aw,go_sem,go_sem_proc,fl,aa,H]<;>try refine ah ?_ ?_)
def ag2:bu:=bT 35 1 [.t 2] (R [db 1 116001 0,cd 2 false] (.seq (R [a0 5 0 1,bd 6 2 5,dp 7 ll 6,e4 8 7,E 9 8,fg 10 9 2 1,lG 11 9 2 10,fH 12 9 (.call ll [.t 11]),jb 13 9 12,c5 14 9 13,E 15 14,fg 16 15 2 1,fg 17 15 0 16,ew 18 15 1 17,gu 19 15 .neq 18 1,c5 20 15 19] (cx 20 [cd 2 false])) (R [a0 22 0 1,bd 23 2 22,a0 24 2 1,bd 25 2 24,bV 26 LN 23 25,E 21 26,bl 27 0 21,bl 28 1 21,cL 3 116003 eG,bf 2 3 27,E 4 28] (R [E 29 4,a5 30 .eql 29 0,E 31 30,r3 32 31 2 3,gv 33 31 (.call Xr [.t 32]),e9 34 31 33,E 2 34] .ret))))
def ag3:bu:=bT 46 2 [.cell 4 4 true,.t 5] (R [db 2 119002 0,db 3 119003 1,cL 4 119004 dT,bk 5 0] (.seq (R [bd 10 4 2,dp 11 ma 10,e4 12 11,E 13 12,lG 14 13 4 3,fH 15 13 (.call ma [.t 14]),jb 16 13 15,c5 17 13 16] (cx 17 [aM 18 (.build dT []),bf 4 4 18,bk 5 1])) (R [a0 20 0 2,bd 21 2 20,a0 22 2 3,bd 23 2 22,a0 24 0 3,bd 25 2 24,a0 26 2 2,bd 27 2 26,Am 28 Xs 21 23 25 27,E 19 28,bl 29 0 19,bl 30 1 19,cL 6 119006 eG,bf 2 6 29,E 7 30] (R [a0 32 2 2,bd 33 2 32,a0 34 2 3,bd 35 2 34,bV 36 vI 33 35,E 31 36,bl 37 0 31,bl 38 1 31,cL 8 119008 eG,bf 2 8 37,E 9 38] (R [bd 39 2 6,E 40 7,bd 41 2 8,E 42 9,Am 43 Ey 39 40 41 42,bl 44 0 43,bl 45 1 43,bf 4 4 44,E 5 45] .ret)))))
def ag4:bu:=bT 13 2 [.cell 4 4 true,.t 5] (R [cL 4 130004 dT,bk 5 0] (R [E 6 0,dp 7 QJ 6,E 8 1,dp 9 QJ 8,bV 10 LO 7 9,bl 11 0 10,bl 12 1 10,bf 4 4 11,E 5 12] .ret))
def ag5:bu:=bT 25 2 [.cell 4 4 true,.t 5] (R [db 2 132002 0,db 3 132003 1,cL 4 132004 dT,bk 5 0] (.seq (R [bd 6 4 2,dp 7 ma 6,e4 8 7,E 9 8,lG 10 9 4 3,fH 11 9 (.call ma [.t 10]),jb 12 9 11,c5 13 9 12] (cx 13 [aM 14 (.build dT []),bf 4 4 14,bk 5 1])) (eR [bd 15 4 2,a0 16 0 3,bd 17 2 16,dp 18 HK 17,a0 19 2 3,bd 20 2 19,aM 21 (.build dT [(0,2,.t 18),(2,2,.t 20)]),bV 22 vG 15 21,bl 23 0 22,bl 24 1 22,bf 4 4 23,E 5 24] ae9 .ret)))
def ag6:bu:=bT 42 2 [.cell 4 4 true,.t 5] (R [db 2 134002 0,db 3 134003 1,cL 4 134004 dT,bk 5 0] (.seq (R [bd 10 4 2,dp 11 ma 10,e4 12 11,E 13 12,lG 14 13 4 3,fH 15 13 (.call ma [.t 14]),jb 16 13 15,c5 17 13 16] (cx 17 [aM 18 (.build dT []),bf 4 4 18,bk 5 1])) (R [a0 20 0 2,bd 21 2 20,a0 22 0 3,bd 23 2 22,bV 24 vI 21 23,E 19 24,bl 25 0 19,bl 26 1 19,cL 6 134006 eG,bf 2 6 25,E 7 26] (R [a0 28 2 2,bd 29 2 28,a0 30 2 3,bd 31 2 30,bV 32 vI 29 31,E 27 32,bl 33 0 27,bl 34 1 27,cL 8 134008 eG,bf 2 8 33,E 9 34] (R [bd 35 2 6,E 36 7,bd 37 2 8,E 38 9,Am 39 Ey 35 36 37 38,bl 40 0 39,bl 41 1 39,bf 4 4 40,E 5 41] .ret)))))
def ag7:bu:=bT 78 2 [.t 4] (R [db 2 135002 0,db 3 135003 1,bk 4 0] (.seq (R [bd 17 4 2,dp 18 ma 17,e4 19 18,E 20 19,lG 21 20 4 3,fH 22 20 (.call ma [.t 21]),jb 23 20 22,c5 24 20 23] (cx 24 [bk 4 0])) (eR [a0 25 0 2,bd 26 2 25,a0 27 2 2,bd 28 2 27,a0 29 0 3,bd 30 2 29,a0 31 2 3,bd 32 2 31,cL 5 135005 eG,cL 6 135006 eG,cL 7 135007 eG,cL 8 135008 eG,bf 2 5 26,bf 2 6 28,bf 2 7 30,bf 2 8 32] [[],[],[],[],[],[],[],[],[1,3,5,7],[1,3,5,7,8],[1,3,5,7,8,9],[1,3,5,7,8,9,10],[3,5,7],[5,7],[7],[]] (R [bk 9 1] (dY 0 (.seq (.block 1 (R [bd 36 2 5,bd 37 2 6,bV 38 Ez 36 37,E 35 38,bl 39 0 35,bl 40 1 35,bl 41 2 35,cL 10 135010 eG,cL 11 135011 eG,bf 2 10 39,bf 2 11 40,E 12 41] (R [bd 43 2 7,bd 44 2 8,bV 45 Ez 43 44,E 42 45,bl 46 0 42,bl 47 1 42,bl 48 2 42,cL 13 135013 eG,cL 14 135014 eG,bf 2 13 46,bf 2 14 47,E 15 48] (.seq (R [bd 49 2 10,bd 50 2 13,bV 51 Xy 49 50,E 16 51] (.block 2 (R [E 53 16,a5 54 .neq 53 0,E 52 54] (eC 52 (R [E 55 9,E 56 16,bm 57 .mul 55 56,E 4 57] .ret) (R [a0 59 0 11,aJ 60 1 59,a5 61 .eql 60 0,E 62 61,fg 63 62 0 14,ew 64 62 1 63,gu 65 62 .eql 64 0,c5 66 62 65,E 58 66] (cx 58 [E 67 9,a0 68 0 11,aJ 69 1 68,a0 70 0 14,aJ 71 1 70,bm 72 .sub 69 71,bm 73 .mul 67 72,E 4 73])))))) (.mz [bd 74 2 6,bd 75 2 11,bd 76 2 8,bd 77 2 14,bf 2 5 74,bf 2 6 75,bf 2 7 76,bf 2 8 77] [[],[],[],[],[1,2,3],[2,3],[3],[]]))))) (.ops [E 33 9,aM 34 (.un .neg (.t 33)),E 9 34])))))))
def ag8:bu:=bT 15 1 [.t 2] (R [db 1 138001 0,cd 2 false] (R [bd 6 2 1,dp 7 Xz 6,E 5 7,bl 8 0 5,bl 9 1 5,E 3 8,E 4 9] (R [E 10 4,E 11 10,dv 12 11 3,hG 13 11 .eql 12 1,e9 14 11 13,E 2 14] .ret)))
def ag9:bu:=bT 38 4 [.cell 8 2 true,.t 9] (R [db 4 139004 0,db 5 139005 1,db 6 139006 2,db 7 139007 3,cL 8 139008 eG,bk 9 0] (R [bd 14 2 4,bd 15 2 5,bV 16 vI 14 15,E 13 16,bl 17 0 13,bl 18 1 13,cL 10 139010 eG,bf 2 10 17,E 11 18] (.seq (R [E 19 11,a5 20 .neq 19 0] (cx 20 [aM 21 (.build eG []),E 22 11,bf 2 8 21,E 9 22])) (R [bd 24 2 6,bd 25 2 7,bV 26 vI 24 25,E 23 26,bl 27 0 23,bl 28 1 23,cL 12 139012 eG,bf 2 12 27,E 11 28] (.seq (R [E 29 11,a5 30 .neq 29 0] (cx 30 [aM 31 (.build eG []),E 32 11,bf 2 8 31,E 9 32])) (R [bd 33 2 10,bd 34 2 12,bV 35 XB 33 34,bl 36 0 35,bl 37 1 35,bf 2 8 36,E 9 37] .ret))))))
def aha:bu:=bT 22 4 [.cell 8 4 true,.t 9] (R [db 4 141004 0,db 6 141006 2,cL 8 141008 dT,bk 9 0] (.seq (R [E 10 1,a5 11 .neq 10 0,E 12 11,fY 13 12 3,gu 14 12 .neq 13 0,c5 15 12 14] (cx 15 [aM 16 (.build dT []),bf 4 8 16,bk 9 6])) (R [bd 17 2 4,bd 18 2 6,bV 19 LO 17 18,bl 20 0 19,bl 21 1 19,bf 4 8 20,E 9 21] .ret)))
def ahb:bu:=bT 60 2 [.cell 4 4 true,.t 5] (R [db 2 149002 0,db 3 149003 1,cL 4 149004 dT,bk 5 0] (.seq (.block 0 (R [bd 15 2 2,dp 16 ll 15,e4 17 16,E 18 17,lG 19 18 2 3,fH 20 18 (.call ll [.t 19]),jb 21 18 20,c5 22 18 21,E 14 22] (eC 14 (R [aM 23 (.build dT []),bf 4 4 23,bk 5 1] .ret) (R [a0 25 0 3,aJ 26 1 25,a5 27 .eql 26 0,E 24 27] (eC 24 (R [aM 28 (.build dT []),bf 4 4 28,bk 5 15] .ret) (R [a0 30 0 3,aJ 31 1 30,a5 32 .lss 31 0,E 29 32] (eC 29 (.mz [bd 33 2 2,dp 34 HK 33,bd 35 2 3,dp 36 HK 35,bf 2 2 34,bf 2 3 36] ae7) .skip))))))) (R [bd 38 2 2,bd 39 2 3,bV 40 LN 38 39,E 37 40,bl 41 0 37,bl 42 1 37,cL 6 149006 eG,bf 2 6 41,E 7 42] (R [bd 44 2 2,bd 45 2 6,bV 46 Ez 44 45,E 43 46,bl 47 0 43,bl 48 1 43,bl 49 2 43,cL 8 149008 eG,cL 9 149009 eG,bf 2 8 47,bf 2 9 48,E 10 49] (R [bd 51 2 3,bd 52 2 6,bV 53 Ez 51 52,E 50 53,bl 54 0 50,bl 55 1 50,bl 56 2 50,cL 11 149011 eG,cL 12 149012 eG,bf 2 11 54,bf 2 12 55,E 13 56] (R [bd 57 2 8,bd 58 2 11,aM 59 (.build dT [(0,2,.t 57),(2,2,.t 58)]),bf 4 4 59,bk 5 0] .ret))))))
def ahc:bu:=bT 49 2 [.cell 4 4 true,.t 5] (R [db 2 169002 0,db 3 169003 1,cL 4 169004 dT,bk 5 0] (.seq (.block 0 (R [bd 11 4 2,dp 12 ma 11,e4 13 12,E 14 13,lG 15 14 4 3,fH 16 14 (.call ma [.t 15]),jb 17 14 16,c5 18 14 17,E 10 18] (eC 10 (R [aM 19 (.build dT []),bf 4 4 19,bk 5 1] .ret) (R [a0 21 0 3,a0 22 0 21,aJ 23 1 22,a5 24 .eql 23 0,E 20 24] (cx 20 [aM 25 (.build dT []),bf 4 4 25,bk 5 15]))))) (R [a0 27 0 2,bd 28 2 27,a0 29 2 3,bd 30 2 29,bV 31 vI 28 30,E 26 31,bl 32 0 26,bl 33 1 26,cL 6 169006 eG,bf 2 6 32,E 7 33] (R [a0 35 2 2,bd 36 2 35,a0 37 0 3,bd 38 2 37,bV 39 vI 36 38,E 34 39,bl 40 0 34,bl 41 1 34,cL 8 169008 eG,bf 2 8 40,E 9 41] (R [bd 42 2 6,E 43 7,bd 44 2 8,E 45 9,Am 46 Ey 42 43 44 45,bl 47 0 46,bl 48 1 46,bf 4 4 47,E 5 48] .ret)))))
abbrev bF:=Raw×Raw
def aU (f:bF):List Data:=[.int .i64 f.1.1,.ay (f.1.2.map aC),.int .i64 f.2.1,.ay (f.2.2.map aC)]
def gf (x:bF×Int):Data:=.cP [.agg (aU x.1),.int .i64 x.2]
def ax (x:Rat):bF:=(bY x.num,bY x.den)
def dc (x:Rat):Prop:=x.num.natAbs<ea/\x.den<ea
def eA:bF:=((0,[]),(0,[]))
def eY (f:bF):Bool:=dO f.1&&(dO f.2&&(f.2.1==1&&(jw (iu f.1).natAbs (iu f.2).natAbs==1)))
def CF (f:bF):Rat:=lO (iu f.1) (iu f.2)
def Fj (x:Rat):CF (ax x)=x:=by
 unfold CF ax;rw[fT,fT,Rat.num_divInt_den]
def se {x y:Rat}(h:ax x=ax y):x=y:=by rw[<-Fj x,h,Fj]
def den_pos (x:Rat):0<(x.den:Int):=CB.2 x.den_pos
def avI {n:Int}(h:0<n):(bY n).1=1:=jM h
def MN (f:bF):eY f=true↔∃x,dc x/\f=ax x:=by
 unfold eY;simp only[eQ,beq_iff_eq]
 constructor
 ·rintro⟨F,G,af,aS⟩;obtain⟨p,aF,az⟩:=(j9 _).1 F;obtain⟨q,aY,aD⟩:=(j9 _).1 G;obtain⟨f1,f2⟩:=f;simp only at az aD af aS;subst az aD;rw[fT,fT] at aS
  have YW:0<q:=by
   rcases mS q with ⟨_,h⟩|⟨e,_⟩|⟨e,_⟩
   ·exact h
   ·have:q.sign=1:=af;omega
   ·have:q.sign=1:=af;omega
  refine⟨⟨p,q.natAbs,by omega,aS⟩,⟨aF,aY⟩,?_⟩
  unfold ax;rw[show ((q.natAbs:Nat):Int)=q by omega]
 ·rintro⟨x,⟨F,G⟩,rfl⟩;have Y:(x.den:Int).natAbs<ea:=by rw[mV];exact G
  refine⟨lq F,lq Y,avI (den_pos x),?_⟩;unfold ax;rw[fT,fT,mV];exact x.reduced
def y4 {x:Rat}(h:dc x):eY (ax x)=true:=(MN _).2 ⟨x,h,rfl⟩
def xB {x:Rat}(h:dc x):(x.den:Int).natAbs<ea:=by rw[mV];exact h.2
def nQ {z:Int}(h:z.natAbs<ea):(aZ z.natAbs).length<=1000000:=by have:=sc h;omega
def MO (a:Raw):Bool:=(y3 a).2&&((y3 a).1==1)
def avJ {z:Int}(h:z.natAbs<ea):MO (bY z)=decide (z=1):=by
 unfold MO y3;rw[lq h,fT]
 by_cases J:fa z
 ·rw[ab ⟨rfl,J⟩];simp only[g4]
  rfl
 ·rw[ae λh=>J h.2];have:z≠1:=by rintro rfl;exact J (by unfold fa;omega)
  simp[this]
def Ry:=bU s3 λ(s,l)=>cp (D l<=1000000) (.same (.bool (MO (s,l))))
@[go_sem] def aN0 (s l):=cz Ry rfl H0 (s,l) rfl
def avK (T:ba)(Rz:T Xz=aQ Rw):WF T ag8 Ry:=by
 refine cf λ(s,l)=>cG λH=>⟨rfl,b7 ?_⟩;simp only[ag8,s3,b1];unfold MO;rcases h:(y3 (s,l)).2
 ·simp only[go_sem,go_sem_proc,Rz,H,h];repeat' (first|refine ah ?_ ?_|fail)<;>intro h<;>simp only[h,go_sem,go_sem_proc,Rz,H,h]
 ·simp only[go_sem,go_sem_proc,Rz,H,h];repeat' (first|refine ah ?_ ?_|fail)<;>intro h<;>simp only[h,go_sem,go_sem_proc,Rz,H,h]
abbrev xC:Int×(List Int)×Int×(List Int)->List Data:=λ(s,l,s2,aI)=>[.agg [.int .i64 s,.ay (l.map aC),.int .i64 s2,.ay (aI.map aC)]]
def uJ:=bU xC λ(s,l,s2,aI)=>cp (D l<=1000000/\D aI<=1000000) (.same (.bool (eY ((s,l),(s2,aI)))))
def MP:∀a b,xC a=xC b->a=b:=by
  rintro⟨s1,eH,E7,E8⟩ ⟨s2,aI,E9,Fa⟩ h;simp only[bh,Data.agg.injEq,Data.int.injEq,Data.ay.injEq] at h;exact ej h.1.1.2 (ej (map_inj fq _ _ h.1.2.1) (ej h.1.2.2.1.2 (map_inj fq _ _ h.1.2.2.2.1)))
@[go_sem] def avL (s l s2 aI):=cz uJ rfl MP (s,l,s2,aI) rfl
def avM (T:ba)(fl:T ll=aQ vS)(y5:T LN=aQ MH)(RA:T Xr=aQ Ry):WF T ag2 uJ:=by
 refine cf λ(s,l,s2,aI)=>cG λH=>⟨rfl,b7 ?_⟩;simp only[ag2,xC,b1];obtain⟨cm,cC⟩:=H
 by_cases aa:dO (s,l)=true
 ·by_cases bL:dO (s2,aI)=true
  ·by_cases X:s2=1
   ·obtain⟨x,Q,e⟩:=(j9 _).1 aa;obtain⟨y,al,aD⟩:=(j9 _).1 bL
    have a8:ot (s,l) (s2,aI)=(bY ((jw x.natAbs y.natAbs:Nat):Int),0):=by
     unfold ot;rw[aa,bL,e,aD,fT,fT];rfl
    have oV:=MG Q al
    have bx:MO (bY ((jw x.natAbs y.natAbs:Nat):Int))=(jw x.natAbs y.natAbs==1):=by
     rw[avJ (by rw[mV];exact oV)];rw[Bool.eq_iff_iff];simp;omega
    have pW:iu (s,l)=x:=by rw[e,fT]
    have pX:iu (s2,aI)=y:=by rw[aD,fT]
    have gI:eY ((s,l),(s2,aI))=(jw x.natAbs y.natAbs==1):=by
     show (dO (s,l)&&(dO (s2,aI)&&((s2==1)&&(jw (iu (s,l)).natAbs (iu (s2,aI)).natAbs==1))))=_;rw[aa,bL,pW,pX,show (s2==1)=true by simpa using X]
     simp only[g4]
    have avN:((bY ((jw x.natAbs y.natAbs:Nat):Int)).2).length<=1000000:=nQ (by rw[mV];exact oV);rw[gI,<-bx];generalize bY ((jw x.natAbs y.natAbs:Nat):Int)=bC at *;obtain⟨cr,b6⟩:=bC;have jI:(s2==1)=true:=by simpa using X
    refine ai ?_;repeat' (intro h<;>simp only[h,go_sem,go_sem_proc,fl,y5,RA,aa,bL,cm,cC,jI,a8,avN,iL,eI,show ((0:Int)==0)=true from rfl]<;>try refine ah ?_ ?_)
   ·have gI:eY ((s,l),(s2,aI))=false:=by unfold eY;simp[X]
    have jI:(s2==1)=false:=by simpa using X
    rw[gI];refine ai ?_;repeat' (intro h<;>simp only[h,go_sem,go_sem_proc,fl,y5,RA,aa,bL,cm,cC,jI]<;>try refine ah ?_ ?_)
  ·have bL:dO (s2,aI)=false:=by simpa using bL
   have gI:eY ((s,l),(s2,aI))=false:=by unfold eY;simp[bL]
   rw[gI];refine ai ?_;repeat' (intro h<;>simp only[h,go_sem,go_sem_proc,fl,y5,RA,aa,bL,cm,cC]<;>try refine ah ?_ ?_)
 ·have aa:dO (s,l)=false:=by simpa using aa
  have gI:eY ((s,l),(s2,aI))=false:=by unfold eY;simp[aa]
  rw[gI];refine ai ?_;repeat' (intro h<;>simp only[h,go_sem,go_sem_proc,fl,y5,RA,aa,cm,cC]<;>try refine ah ?_ ?_)
def jN (p q:Raw):bF×Int :=
 if (dO p&&dO q)=true then (if iu q=0 then (eA,15) else (ax (lO (iu p) (iu q)),0)) else (eA,1)
def AM {p q:Int}(aF:p.natAbs<ea)(aY:q.natAbs<ea)(au:q≠0):jN (bY p) (bY q)=(ax (lO p q),0):=by
 unfold jN;rw[lq aF,lq aY,fT,fT,ab (by rfl),ae au]
def Zc {p q:Int}(aY:0<q):(lO p q).num=p.fdiv ((jw p.natAbs q.natAbs:Nat):Int)/\((lO p q).den:Int)=q.fdiv ((jw p.natAbs q.natAbs:Nat):Int):=by
 rw[Rat.num_divInt,Rat.den_divInt,ae (by omega),jM aY,r8];have a8:q.gcd p=jw p.natAbs q.natAbs:=by rw[Int.gcd_comm];rfl
 rw[a8];have au:(0:Int)<=((jw p.natAbs q.natAbs:Nat):Int):=Int.natCast_nonneg _;rw[Xk _ au,Xk _ au];refine⟨rfl,?_⟩;rw[Yv]
 congr 1
 omega
def Zd {p q:Int}(aY:q≠0):0<jw p.natAbs q.natAbs:=Nat.gcd_pos_of_pos_right _ (by omega)
def RB {p q:Int}(aF:p.natAbs<ea)(aY:q.natAbs<ea):dc (lO p q):=by
 have main:∀{p q:Int},p.natAbs<ea->q.natAbs<ea->0<q->dc (lO p q):=by
  intro p q aF aY au;obtain⟨F,G⟩:=Zc (p:=p) au;have a8:=Zd (p:=p) (q:=q) (by omega);refine⟨?_,?_⟩
  ·rw[F];exact Iu aF (by omega)
  ·have:=Iu (y:=((jw p.natAbs q.natAbs:Nat):Int)) aY (by omega);rw[<-G,mV] at this;exact this
 rcases Ct q 0 with h|h|h
 ·rw[<-ahd];exact main (by omega) (by omega) (by omega)
 ·subst h;rw[Rat.divInt_zero];unfold dc ea;exact⟨Nat.pow_pos (by omega),Nat.one_lt_pow (by omega) (by omega)⟩
 ·exact main aF aY h
def MQ:=bU np λ(s,l,s2,aI)=>cp (D l<=1000000/\D aI<=1000000) (.same (gf (jN (s,l) (s2,aI))))
@[go_sem] def aN1 (s l s2 aI):=cz MQ rfl y0 (s,l,s2,aI) rfl
def avO (T:ba)(fl:T ll=aQ vS)(AO:T HK=aQ MC)(y5:T LN=aQ MH)(q2:T Ez=aQ MJ):WF T ahb MQ:=by
 refine cf λ(s,l,s2,aI)=>cG λH=>⟨rfl,b7 ?_⟩;simp only[ahb,np,b1];obtain⟨cm,cC⟩:=H
 by_cases aa:dO (s,l)=true
 ·by_cases bL:dO (s2,aI)=true
  ·obtain⟨x,Q,e⟩:=(j9 _).1 aa;obtain⟨y,al,aD⟩:=(j9 _).1 bL
   by_cases au:y=0
   ·have hm:jN (s,l) (s2,aI)=(eA,15):=by
     unfold jN;rw[aa,bL,aD,fT,ab (by rfl),ab au]
    rw[hm]
    cases e
    cases aD;have X:(y.sign==0)=true:=by rw[au];rfl
    refine ai ?_;repeat' (intro h<;>simp only[h,go_sem,go_sem_proc,fl,AO,y5,q2,aa,bL,cm,cC,X,gf,aU,eA,cR]<;>try refine ah ?_ ?_)
   ·have main:∀p q:Int,p.natAbs<ea->q.natAbs<ea->0<q->∃g:Raw,ot (bY p) (bY q)=(g,0)/\g.2.length<=1000000/\mT (bY p) g=(bY (lO p q).num,bY (p.fmod ((jw p.natAbs q.natAbs:Nat):Int)),0)/\mT (bY q) g=(bY (lO p q).den,bY (q.fmod ((jw p.natAbs q.natAbs:Nat):Int)),0):=by
     intro p q aF aY mP;have oV:=MG aF aY;have Fk:((jw p.natAbs q.natAbs:Nat):Int).natAbs<ea:=by rw[mV];exact oV
     have Ri:=Zd (p:=p) (q:=q) (by omega);obtain⟨F,G⟩:=Zc (p:=p) mP;refine⟨bY ((jw p.natAbs q.natAbs:Nat):Int),?_,nQ Fk,?_,?_⟩
     ·unfold ot;rw[lq aF,lq aY,fT,fT];rfl
     ·rw[Fb aF Fk (by omega),F]
     ·rw[Fb aY Fk (by omega),G]
    have q3:(y.sign==0)=false:=by simpa using au
    rcases Int.lt_or_gt_of_ne au with lL|h5
    ·have hM:decide (y.sign<0)=true:=by rw[q0 lL];rfl
     obtain⟨⟨cr,b6⟩,a8,oV,j7,mR⟩:=main (-x) (-y) (by omega) (by omega) (by omega)
     have hm:jN (s,l) (s2,aI)=(ax (lO (-x) (-y)),0):=by
      rw[e,aD,AM Q al au,ahd]
     rw[hm];have na:lM (s,l)=bY (-x):=by unfold lM;rw[ab aa,e,fT]
     have vq:lM (s2,aI)=bY (-y):=by unfold lM;rw[ab bL,aD,fT]
     have Fl:s2=y.sign:=congrArg Prod.fst aD;have ib:(bY (-x)).2.length<=1000000:=nQ (by omega);have jy:(bY (-y)).2.length<=1000000:=nQ (by omega);clear e aD;unfold ax;generalize bY (-x)=cU at *;generalize bY (-y)=gj at *;obtain⟨gR,fS⟩:=cU;obtain⟨qR,nJ⟩:=gj;rw[<-Fl] at q3 hM;refine ai ?_;repeat' (intro h<;>simp only[h,go_sem,go_sem_proc,fl,AO,y5,q2,aa,bL,cm,cC,q3,hM,na,vq,ib,jy,a8,oV,j7,mR,gf,aU,iL,mU,eI]<;>try refine ah ?_ ?_)
    ·have hM:decide (y.sign<0)=false:=by rw[jM h5];rfl
     obtain⟨⟨cr,b6⟩,a8,oV,j7,mR⟩:=main x y Q al h5
     have hm:jN (s,l) (s2,aI)=(ax (lO x y),0):=by
      rw[e,aD,AM Q al au]
     rw[hm];have Fl:s2=y.sign:=congrArg Prod.fst aD;rw[<-e] at a8 j7;rw[<-aD] at a8 mR;rw[<-Fl] at q3 hM;unfold ax;refine ai ?_;repeat' (intro h<;>simp only[h,go_sem,go_sem_proc,fl,AO,y5,q2,aa,bL,cm,cC,q3,hM,a8,oV,j7,mR,gf,aU,iL,mU,eI]<;>try refine ah ?_ ?_)
  ·have bL:dO (s2,aI)=false:=by simpa using bL
   have hm:jN (s,l) (s2,aI)=(eA,1):=by unfold jN;rw[bL,hs];rfl
   rw[hm];refine ai ?_;repeat' (intro h<;>simp only[h,go_sem,go_sem_proc,fl,AO,y5,q2,aa,bL,cm,cC,gf,aU,eA,cR]<;>try refine ah ?_ ?_)
 ·have aa:dO (s,l)=false:=by simpa using aa
  have hm:jN (s,l) (s2,aI)=(eA,1):=by unfold jN;rw[aa,fC];rfl
  rw[hm];refine ai ?_;repeat' (intro h<;>simp only[h,go_sem,go_sem_proc,fl,AO,y5,q2,aa,cm,cC,gf,aU,eA,cR]<;>try refine ah ?_ ?_)
def CG:=bU yQ λ(p,q)=>cp (fa p/\fa q) (.same (gf (jN (bY p) (bY q))))
@[go_sem] def ahe (p q):=cz CG rfl Q7 (p,q) rfl
def avP (T:ba)(avQ:T QJ=aQ Rv)(MR:T LO=aQ MQ):WF T ag4 CG:=by
 refine cf λ(p,q)=>cG λH=>⟨rfl,b7 ?_⟩;simp only[ag4,yQ,b1];obtain⟨F,G⟩:=H;have eH:(bY p).2.length<=1000000:=nQ (y2 F);have aI:(bY q).2.length<=1000000:=nQ (y2 G);generalize gw:bY p=P at *;generalize e3:bY q=aN at *;obtain⟨gR,fS⟩:=P;obtain⟨qR,nJ⟩:=aN;refine ai ?_;repeat' (intro h<;>simp only[h,go_sem,go_sem_proc,avQ,MR,F,G,gw,e3,eH,aI,eI,gf,aU]<;>try refine ah ?_ ?_)
end Go.Mini
