/- A part of the proof. -/
import Derived.Laws.BitsLemmas
import Derived.ChangeSame
import Derived.Handed
import Derived.JoinedOf
import Derived.JoinedCond
import Derived.OpenShut
import Derived.ProofKit
import Derived.Test.YtkfoalgfjchcfaaGreatM01
set_option linter.unusedSimpArgs false
set_option linter.unusedVariables false
set_option maxRecDepth 100000
set_option maxHeartbeats 4000000
noncomputable section
open Bool renaming and_eq_true->e3,and_false->ju,and_true->tD,false_and->ja,false_eq_true->jU,false_or->ye,not_false->dc,not_true->cR,or_false->nL,or_true->tC,true_and->iy,true_or->yd
open Classical renaming choose->yc,choose_spec->oQ
open Decidable renaming em->dX
open Int renaming add_comm->wL,add_mul->sx,add_mul_ediv_left->aaN,add_mul_emod_self_left->aaP,add_zero->tU,bmod_def->aaf,cast_ofNat_Int->kR,ediv_eq_zero_of_lt->R7,ediv_lt_of_lt_mul->aaQ,ediv_nonneg->zY,emod_add_mul_ediv->zW,emod_emod_of_dvd->aag,emod_eq_of_lt->R8,emod_lt_of_pos->Sa,emod_nonneg->BR,lt_trichotomy->wN,mul_add->hP,mul_assoc->hQ,mul_comm->mz,mul_le_mul->Ed,mul_le_mul_of_nonneg_left->tM,mul_le_mul_of_nonneg_right->lY,mul_left_comm->Sb,mul_neg->Eh,mul_nonneg->qw,mul_one->tN,mul_right_comm->z5,mul_sub->Ec,mul_zero->sB,natAbs_mul->qy,natAbs_natCast->l5,natAbs_neg->II,natCast_add->abp,natCast_ediv->aaM,natCast_emod->aaO,natCast_mul->aa9,natCast_pos->Ad,natCast_pow->BS,natCast_zero->ku,neg_mul->BX,ofNat_sub->abo,one_mul->nb,pow_add->aaK,pow_pos->En,pow_succ->my,sign_eq_neg_one_of_neg->pG,sign_eq_one_of_pos->iP,sign_mul->pH,sign_mul_natAbs->Sx,sign_neg->BZ,sign_sign->yE,sign_trichotomy->abk,sub_mul->aa1,sub_zero->It,tdiv_eq_ediv_of_nonneg->yv,tmod_eq_emod_of_nonneg->zZ,toNat->Bz,toNat_natCast->gZ,zero_add->BQ,zero_mul->wW
open List renaming all_cons->DL,all_eq_true->oI,append_assoc->gK,append_inj->D6,append_nil->hO,concat_eq_append->DU,cons_append->lz,drop->hR,drop_append->oc,drop_drop->DH,drop_eq_getElem_cons->hL,drop_eq_nil_of_le->lq,drop_left->Qv,drop_length->Qy,drop_set_of_lt->sa,drop_zero->mv,eq_nil_of_length_eq_zero->r5,eq_nil_or_concat->DT,flatMap_cons->oS,flatten_cons->ko,getElem?_append->Dp,getElem?_drop->uM,getElem?_eq_getElem->bx,getElem?_eq_some_iff->dM,getElem?_map->bd,getElem?_take_of_lt->oO,getElem_set_self->yq,length->D,length_append->hj,length_cons->kJ,length_drop->pA,length_eq_one_iff->ZL,length_map->al,length_nil->mu,length_pos_iff->Ac,length_range->q9,length_set->iM,length_take->g7,mapM_cons->mn,mapM_nil->ZT,map_cons->eY,map_nil->cg,mem_append->iw,mem_attach->ZQ,mem_cons->nM,mem_flatMap->Bo,mem_iff_getElem?->pD,mem_map->fI,mem_of_getElem?->eU,mem_of_mem_drop->Iy,mem_of_mem_take->Dv,mem_range->hn,mem_replicate->Ee,mem_singleton->yz,nil_append->iJ,range->dQ,replicate->ep,replicate_succ->uN,take->ho,take_add_one->lA,take_append_drop->zN,take_left->Qu,take_of_length_le->dE,take_succ_cons->Qm,take_zero->nK
open List.cons renaming inj->u6,injEq->bf
open Nat renaming add_assoc->rZ,add_mul->pk,add_sub_cancel_left->DQ,add_zero->n8,and_two_pow_sub_one_eq_mod->aah,div_add_mod->LC,div_eq_of_lt->Qx,div_le_self->abr,div_lt_iff_lt_mul->aae,eq_zero_or_pos->iU,gcd->iA,gcd_comm->IH,le_refl->bM,le_trans->ey,lt_of_le_of_lt->sw,lt_or_ge->hK,min_eq_left->nE,mod_eq_of_lt->HQ,mod_lt->nN,mul_comm->si,mul_le_mul_left->abb,mul_le_mul_right->q5,mul_one->cI,pos_of_ne_zero->DV,pow_le_pow_right->wP,pow_succ->uZ,strongRecOn->Ql,zero_add->oH,zero_le->fr,zero_mod->abq,zero_mul->LB
open Option renaming bind_eq_bind->g5,bind_eq_some_iff->ej,bind_some->oR,map_eq_some_iff->dV,map_some->iW,pure_def->gX
open Option.some renaming inj->m4,injEq->b8
open Prod renaming ext->eN,ext_iff->BL
open Prod.mk renaming injEq->fv
namespace Go.Mini
open Go
variable {P:Program} {T:bk} {A:Nat->Prop} {dw w:World} {gS B:eH} {mem:Mem} {n kb:Nat} {own:List Nat}
theorem ak3 {a:Act}{st:a2}{r:ResultVar}{ed:nz}{m:M}(Q:g9 n A dw gS a st w B)(aT:Dm P r=some ed)(h:Dg st ed=some m):
  ∃v,((match r with
   |.tmp t=>pure (a.tmps.getD t undef)
   |.cell b t=>do loadVar t (<-asAddr (a.tmps.getD b undef)):Sem Value)).run P w=.ok v w/\bm w (cb A B) B m v:=by
 cases r with
 |tmp t =>
  simp only[Dm,b8] at aT;subst aT;simp only[Dg,b8] at h;subst h;exact⟨_,rfl,Q.tm t⟩
 |cell b t =>
  simp only[Dm] at aT
  split at aT
  ·rename_i s g eP xX;simp only[b8] at aT;subst aT;obtain⟨di,off,ms,vs,aI,aq,bV,bJ,Y⟩:=Yr Q.ok.ed (Q.tm b) h;obtain⟨u,E,H⟩:=Yq (P:=P) eP xX aq bV bJ Y;refine⟨u,?_,H⟩;have:a.tmps.getD b undef=.pointer (some ⟨di,off,none⟩):=aI;simp only[this,asAddr,Sem.run_bind,Sem.run_pure,Result.andThen_ok];exact E
  ·cases aT
theorem ZJ {a:Act}{st:a2}(Q:g9 n A dw gS a st w B):∀{l:List ResultVar} {rs:List nz} {ms:List M},l.mapM (Dm P)=some rs->rs.mapM (Dg st)=some ms ->
  ∃vs:List Value,(l.mapM λr=>((match r with
   |.tmp t=>pure (a.tmps.getD t undef)
   |.cell b t=>do loadVar t (<-asAddr (a.tmps.getD b undef)):Sem Value))).run P w=.ok vs w/\c0 w (cb A B) B ms vs
 | [],rs,ms,E,H=>by
  simp at E;subst E;simp at H;subst H;exact⟨[],rfl,c0.nil⟩
 |r::l,rs,ms,E,H=>by
  simp only[mn,gX,g5,ej,b8] at E;obtain⟨x,O,xs,zJ,rfl⟩:=E;simp only[mn,gX,g5,ej,b8] at H;obtain⟨m,hm,aAG,aS,rfl⟩:=H;obtain⟨v,aI,Y⟩:=ak3 Q O hm;obtain⟨vs,aV,bV⟩:=ZJ Q zJ aS;refine⟨v::vs,?_,c0.cons Y bV⟩;simp only[mn,Sem.run_bind,aI,Result.andThen_ok,aV,Sem.run_pure]
theorem ZK {a:Act}{st:a2}{fn:Func}{rs:List nz}{m:M}(Q:g9 n A dw gS a st w B)(aT:fn.results.toList.mapM (Dm P)=some rs)(h:oF st rs=some m):
  ∃v,(results fn a.tmps).run P w=.ok v w/\bm w (cb A B) B m v:=by
 unfold oF at h
 have main:∀ms,rs.mapM (Dg st)=some ms->∃vs:List Value,(results fn a.tmps).run P w=.ok (if h:vs.toArray.size=1 then vs.toArray[0] else .tuple vs.toArray) w/\c0 w (cb A B) B ms vs:=by
  intro ms aS;obtain⟨vs,E,H⟩:=ZJ Q aT aS;refine⟨vs,?_,H⟩;unfold results;rw[Array.mapM_eq_mapM_toList,map_eq_pure_bind];simp only[Sem.run_bind,Sem.run_pure];have x7:=E;generalize a9:(List.mapM _ fn.results.toList:Sem (List Value))=q;have:q.run P w=.ok vs w:=by rw[<-a9];exact x7
  rw[this]
  rfl
 split at h
 ·rename_i x aS;simp only[b8] at h;subst h;obtain⟨vs,E,H⟩:=main _ aS;have aq:=H.1;simp at aq;obtain⟨v,rfl⟩:=ZL.1 aq;exact⟨v,E,H.2 0 _ v rfl rfl⟩
 ·rename_i ms bP aS;simp only[b8] at h;subst h;obtain⟨vs,E,H⟩:=main _ aS;have aq:=H.1;refine⟨_,E,?_⟩
  have:¬ (vs.toArray.size=1):=λh=>by
   have b2:(D ms)=1:=by rw[<-aq];simpa using h
   obtain⟨x,rfl⟩:=ZL.1 b2;exact bP x rfl
  rw[dif_neg this];exact .cq aq H.2
 ·cases h
def Qi (mf:b5)(Post:M->Mem->Prop):er->a2->Prop
 |.exit _,_=>False
 |_,st=>∃m,oF st mf.res=some m/\Post m st.mem
theorem HJ (cz:qm P T)(hm:P.follows .mixedOrders=true){f:FuncId}{fn:Func}{mf:b5}(aJ:P.funcs[f]?=some fn)(aT:rY P kb own fn=some { mf with body:=erase mf.body }){args:List M}(py:(D args)<=mf.n)
  {Post:M->Mem->Prop} {K:er->a2->Prop} (dp:∀e st,K e st->Qi mf Post e st) (h:wp T mf.body K ⟨mj args,mem⟩) {A:Nat->Prop} {w:World} {B:eH} {vs:List Value} (bO:fj A w B mem) (aI:c0 w (cb A B) B args vs) :
  Calls P f vs.toArray w λe aL=>∃v m mem' bo,e=.returned v/\ez A w B aL bo mem'/\bm aL (cb A bo) bo m v/\Post m mem':=by
 unfold rY at aT
 split at aT
 ·cases aT
 ·rename_i c ad
  split at aT
  ·rename_i b rs G x8;simp only[b8,b5.mk.injEq] at aT;obtain⟨aG,aAH,tB,ak4⟩:=aT;have eP:(D vs)=D args:=aI.1;refine calls_of_wp aJ ad ?_;rw[ak4] at G;refine zI cz hm mf.body c K _ ⟨mj args,mem⟩ _ w B G ⟨.refl bO,λs=>?_,?_,rfl⟩ h λe st a aL bo sf Q=>?_
   ·simp only[mj,Act.eval,Array.getD_eq_getD_getElem?];rcases hK s (D vs) with ao|cf
    ·have E:args[s]?=some args[s]:=bx (by omega)
     have H:(vs.toArray++Array.replicate (fn.ntmps-vs.toArray.size) undef)[s]?=some vs[s]:=by
      rw[Array.getElem?_append_left (by simpa using ao)];simp[ao]
     rw[E,H];exact aI.2 s _ _ E (bx ao)
    ·rw[List.getElem?_eq_none (by omega),Array.getElem?_append_right (by simpa using cf)]
     have:((Array.replicate (fn.ntmps-vs.toArray.size) undef)[s-vs.toArray.size]?).getD undef=undef:=by
      cases a9:(Array.replicate (fn.ntmps-vs.toArray.size) undef)[s-vs.toArray.size]? with
      |none=>rfl
      |some u =>
       have:=Array.mem_of_getElem? a9;simp at this;simp[this.2]
     rw[this];exact .no
   ·simp;omega
   ·have J:=dp e st sf
    cases e with
    |exit id=>cases J
    |normal =>
     obtain⟨m,x4,aC⟩:=J;obtain⟨v,lT,Bh⟩:=ZK Q x8 (by rw[tB];exact x4);exact⟨Q.Hv,v,lT,v,m,_,bo,rfl,Q.ok,Bh,aC⟩
    |ret =>
     obtain⟨m,x4,aC⟩:=J;obtain⟨v,lT,Bh⟩:=ZK Q x8 (by rw[tB];exact x4);exact⟨Q.Hv,v,lT,v,m,_,bo,rfl,Q.ok,Bh,aC⟩
  ·cases aT
inductive et where
 |same (r:Data)
 |own (sz:Nat) (es:List (List Data))
def x9 (w:World)(aP:Nat->Prop)(ds:List Data)(vs:List Value):Prop:=D vs=D ds/\∀(i:Nat) (d:Data) (v:Value),ds[i]?=some d->vs[i]?=some v->Den w aP d v
def ak5 (w aL:World)(aP:Nat->Prop):et->Value->Prop
 |.same r,v=>Den aL aP r v
 |.own sz es,v=>zE w aL aP sz es v
structure sg (P:Program) (f:FuncId) (aO:List Data->Option et):Prop where
 real:Real P f
 run:∀ds r,aO ds=some r->∀(A:Nat->Prop) (w:World) (vs:List Value),(∀b,A b->b<w.heap.size)->x9 w A ds vs ->
  Calls P f vs.toArray w λe aL=>∃v,e=.returned v/\Fr (λ_=>False) w aL/\ak5 w aL A r v
def ZM:et->M->Mem->Prop
 |.same r,m,mem=>∃d,cZ d mem m=some r
 |.own sz es,m,mem=>(m=.nil/\es=[])\/∃k g len cs ds d,m=.ref k g sz 0 len/\mem k=some (g,cs)/\len*sz<=D cs/\(cs.take (len*sz)).mapM (cZ d (kill mem k))=some ds/\es=chunk sz len ds
def oP (sz:Nat)(mem:Mem):M->Option (List (List Data))
 |.nil=>some []
 |.ref k g dU off len=>if dU=sz/\off=0 then (match mem k with
  |some (df,cs)=>if df=g/\len*sz<=(D cs) then ((cs.take (len*sz)).mapM (cZ 6 (kill mem k))).map (chunk sz len) else none
  |none=>none) else none
 |_=>none
def ya (res:List nz):et->a2->Prop
 |.same r,st=>(oF st res).bind (cZ 6 st.mem)=some r
 |.own sz es,st=>(oF st res).bind (oP sz st.mem)=some es
def zK (res:List nz)(r:et):er->a2->Prop
 |.exit _,_=>False
 |.normal,st=>ya res r st
 |.ret,st=>ya res r st
theorem ZN {mf:b5}{r:et}{st:a2}(h:ya mf.res r st):∃m,oF st mf.res=some m/\ZM r m st.mem:=by
 cases r with
 |same r =>
  simp only[ya,ej] at h;obtain⟨m,E,H⟩:=h;exact⟨m,E,6,H⟩
 |own sz es =>
  simp only[ya,ej] at h;obtain⟨m,E,H⟩:=h;refine⟨m,E,?_⟩
  cases m<;>simp only[oP,b8,reduceCtorEq] at H
  ·exact .inl ⟨rfl,H.symm⟩
  ·split at H
   ·rename_i G;obtain⟨rfl,rfl⟩:=G
    split at H
    ·rename_i df cs J
     split at H
     ·rename_i aU;obtain⟨rfl,hle⟩:=aU;simp only[dV] at H;obtain⟨ds,g6,rfl⟩:=H;exact .inr ⟨_,_,_,cs,ds,6,rfl,J,hle,g6,rfl⟩
     ·cases H
    ·cases H
   ·cases H
theorem ak6 {mf:b5}{r:et}{e:er}{st:a2}(h:zK mf.res r e st):Qi mf (ZM r) e st:=by
 cases e with
 |exit id=>exact h
 |normal=>exact ZN h
 |ret=>exact ZN h
theorem Lu (b:Nat):¬ qV (λ_=>none) b:=fun⟨_,_,h,_⟩=>by cases h
theorem ak7 (cz : qm P T)(hm : P.follows .mixedOrders = true){f : FuncId}{fn : Func}{mf : b5}(aJ : P.funcs[f]? = some fn)(uX : (fn.name == "runtime.NumGoroutine") = false)(aT : rY P kb own fn = some { mf with body := erase mf.body })
  {aO:List Data->Option et} (h:∀ds r,aO ds=some r->(D ds)<=mf.n/\wp T mf.body (zK mf.res r) ⟨mj (ds.map .I),emp⟩):sg P f aO:=by
 refine⟨?_,λds r e4 A w vs ao uT=>?_⟩
 ·cases ad:fn.body with
  |none=>simp[rY,ad] at aT
  |some c=>exact⟨fn,c,aJ,ad,uX⟩
 ·obtain⟨hlen,yb⟩:=h ds r e4;have bO:fj A w (λ_=>none) emp:=⟨λ_ _=>rfl,λ_ _ _ _ _ h=>(by cases h),λb _ bu=>Lu b bu,ao,λ_ _ _ h=>(by cases h)⟩;have fB:∀b,cb A (λ_=>none) b->A b:=λb h=>h.elim (λh=>(Lu b h).elim) id;have bV:c0 w (cb A λ_=>none) (λ_=>none) (ds.map .I) vs:=c0.I uT.1 λi d v E H=>(uT.2 i d v E H).less fB;refine Calls.mono (HJ cz hm aJ aT (by simpa using hlen) (λe st=>ak6) yb bO bV) λe aL he=>?_;obtain⟨v,m,mem',bo,rfl,Q,aI,aC⟩:=he;refine⟨v,rfl,⟨Q.ax.os,Q.ax.tape,Q.ax.output,Q.ax.size,λg aU _=>Q.ax.block g aU (Lu g)⟩,?_⟩
  cases r with
  |same r =>
   obtain⟨d,X⟩:=aC;exact snap Q.ed (λb ad=>ad) d m v r X aI
  |own sz es =>
   rcases aC with ⟨rfl,rfl⟩|⟨k,g,len,cs,Lv,d,rfl,J,hle,g6,rfl⟩
   ·cases aI;exact⟨by simp,_,0,rfl,bM _,fr _,.inl rfl⟩
   ·obtain⟨E,H⟩:=nB g6;have Qj:(D Lv)=len*sz:=by rw[E,g7];omega
    refine⟨K7 sz len Lv Qj,?_⟩;rw[K6,K8 sz len Lv Qj]
    cases aI with
    |ref he hgle Y =>
     obtain⟨e,fS,cf,aG,ad⟩:=Q.ed.at_ J;rw[fS] at he;obtain rfl:=m4 he;obtain⟨a,cap,rfl,ab,aM,bj⟩:=Y;refine⟨a,cap,rfl,ab,aM,bj.imp id ?_⟩;rintro⟨b,rfl,bH⟩;obtain⟨bA,bT⟩:=bH cf.symm;obtain⟨nC,ak8,aQ,aR,PX,Bl⟩:=ad b bA;obtain⟨ak9,ob⟩:=kill_shut Q.ed J fS bA;refine⟨b,nC,ak8,rfl,?_,aQ,by simpa [aR] using bT,λi x O=>?_⟩
     ·rcases Q.fresh b ⟨k,_,fS,bA⟩ with h|h
      ·exact (Lu b h).elim
      ·exact h
     ·have ZO:i<D Lv:=(dM.1 O).1;have lu:i<D cs:=by omega
      have mq:(cs.take (len*sz))[i]?=some cs[i]:=by
       rw[oO (by omega)];exact bx lu
      have HE:i<nC.size:=by omega
      refine⟨nC[i],Array.getElem?_eq_getElem HE,snap ak9 (λb ad=>ad) d _ _ x (H i _ x mq O) (ob _ _ (Bl.2 i _ _ (bx lu) ?_))⟩;rw[oO lu,Array.getElem?_toList];exact Array.getElem?_eq_getElem HE
def scalar:Data->Bool
 |.int _ _=>true
 |.bool _=>true
 |.str _=>true
 |.ti=>true
 |.tj=>true
 |.ae []=>true
 |.cq ds=>ds.attach.all fun⟨d,_⟩=>scalar d
 |.agg ds=>ds.attach.all fun⟨d,_⟩=>scalar d
 |_=>false
theorem ZP {aP n1:Nat->Prop}{d:Data}{v:Value}(h:scalar d=true)(X:Den w aP d v):Den w n1 d v:=by
 induction X with
 |int=>exact .int
 |bool=>exact .bool
 |str=>exact .str
 |ti=>exact .ti
 |tj=>exact .tj
 |kI=>exact .kI
 | @ae es b off c sz val aq hm ad fB eP G X aw =>
  cases es with
  |nil=>exact .kI
  |cons=>simp[scalar] at h
 |ptr=>simp[scalar] at h
 |fn=>simp[scalar] at h
 | @agg cs vs aq X aw =>
  simp only[scalar,oI,ZQ,true_imp_iff,Subtype.forall] at h;exact .agg aq λi d v E H=>aw i d v E H (h d (eU E))
 | @cq cs vs aq X aw =>
  simp only[scalar,oI,ZQ,true_imp_iff,Subtype.forall] at h;exact .cq aq λi d v E H=>aw i d v E H (h d (eU E))
theorem Qk {aP:Nat->Prop}:∀(d:Nat) (m:M) (v:Value) (r:Data),cZ d emp m=some r->bm w aP B m v->Den w aP r v:=by
 intro d
 induction d with
 |zero =>
  intro m v r h aI
  cases m<;>simp only[cZ,b8,reduceCtorEq] at h
  ·subst h;cases aI with|I h=>exact h
  ·subst h;cases aI;exact .kI
 |succ d aw =>
  intro m v r h aI
  have lists:∀(cs:List M) (vs:List Value) (ds:List Data),cs.mapM (cZ d emp)=some ds->(D vs)=(D cs)->(∀(i:Nat) (x:M) (u:Value),cs[i]?=some x->vs[i]?=some u->bm w aP B x u) ->
    (D vs)=D ds/\∀(i:Nat) (x:Data) (u:Value),ds[i]?=some x->vs[i]?=some u->Den w aP x u:=by
   intro cs vs ds g6 aq Y;obtain⟨E,H⟩:=nB g6;refine⟨by omega,λi x u O hu=>?_⟩
   have ao:i<D cs:=by have:=(dM.1 O).1;omega
   have mq:=bx ao;exact aw _ u x (H i _ x mq O) (Y i _ u mq hu)
  cases m<;>simp only[cZ,emp,b8,dV,reduceCtorEq] at h
  case I=>subst h;cases aI with|I h=>exact h
  case nil=>subst h;cases aI;exact .kI
  case fR f cs =>
   obtain⟨ds,g6,rfl⟩:=h
   cases aI with
   |fR aq X=>obtain⟨E,H⟩:=lists _ _ _ g6 aq X;exact .fn E H
  case agg cs =>
   obtain⟨ds,g6,rfl⟩:=h
   cases aI with
   |agg aq X=>obtain⟨E,H⟩:=lists _ _ _ g6 aq X;exact .agg E H
  case cq cs =>
   obtain⟨ds,g6,rfl⟩:=h
   cases aI with
   |cq aq X=>obtain⟨E,H⟩:=lists _ _ _ g6 aq X;exact .cq E H
def Lw:et->gO
 |.same r => .same r
 |.own sz es => .own sz es
def DI:et->Option gO
 |.same r=>if scalar r=true then some (.same r) else none
 |.own sz es=>if (es.all λe=>e.all scalar)=true then some (.own sz es) else none
def Lx (aO:List Data->Option et):Option (List Data)->Option gO
 |some ds=>(aO ds).bind DI
 |none=>none
def DJ (aO:List Data->Option et):Option (List Data)->Option (List Data)->Option gO
 |some ds,_=>(aO ds).map Lw
 |none,x=>Lx aO x
def aX (aO:List Data->Option et)(args:List M)(mem:Mem):Option gO:=DJ aO (args.mapM (cZ 6 emp)) (args.mapM (cZ 6 mem))
def zL (kO:FuncId->Option (List Data->Option et)):bk:=λf args mem=>match kO f with
 |some aO=>aX aO args mem
 |none=>none
theorem ZR {aP:Nat->Prop}{g:M->Option Data}{args:List M}{ds:List Data}{vs:List Value}(h:args.mapM g=some ds)(aI:c0 w aP B args vs){n1:Nat->Prop}(X:∀m v r,g m=some r->bm w aP B m v->Den w n1 r v):x9 w n1 ds vs:=by
 obtain⟨E,H⟩:=nB h;refine⟨by rw[aI.1,E],λi d v oG q1=>?_⟩
 have ao:i<D args:=by have:=(dM.1 oG).1;omega
 have zM:=bx ao;exact X _ v d (H i _ d zM oG) (aI.2 i _ v zM q1)
theorem ZS {kO:FuncId->Option (List Data->Option et)}(h:∀f aO,kO f=some aO->sg P f aO):qm P (zL kO):=by
 intro f args mem oK js;unfold zL at js
 split at js
 ·rename_i aO e4;have kM:=h f aO e4;refine⟨kM.real,λA w B vs bO aI=>?_⟩;unfold aX at js
  cases g6:args.mapM (cZ 6 emp) with
  |some ds =>
   rw[g6] at js;simp only[DJ,dV] at js;obtain⟨r,Y,rfl⟩:=js;have G:=kM.run ds r Y (cb A B) w vs (λb ad=>ad.elim (λh=>bO.zl h) (bO.lt b)) (ZR g6 aI λm v r=>Qk 6 m v r)
   cases r with
   |same r=>exact G
   |own sz es=>exact G
  |none =>
   rw[g6] at js;simp only[DJ] at js
   cases g6:args.mapM (cZ 6 mem) with
   |none=>rw[g6] at js;cases js
   |some ds =>
    rw[g6] at js;simp only[Lx,ej] at js;obtain⟨r,Y,aq⟩:=js;have G:=kM.run ds r Y (λ_=>False) w vs (λb ad=>ad.elim) (ZR g6 aI λm v r h aI=>snap bO (λb ad=>ad.elim) 6 m v r h aI)
    cases r with
    |same r =>
     simp only[DI] at aq
     split at aq
     ·rename_i Q
      cases aq;exact Calls.mono G λe aL ⟨v,he,bK,X⟩=>⟨v,he,bK,ZP Q X⟩
     ·cases aq
    |own sz es =>
     simp only[DI] at aq
     split at aq
     ·rename_i Q
      cases aq;refine Calls.mono G λe aL ⟨v,he,bK,X⟩=>⟨v,he,bK,?_⟩;obtain⟨E,a,cap,H,ab,aM,bj⟩:=X;refine⟨E,a,cap,H,ab,aM,bj.imp id ?_⟩;rintro⟨b,vs,T,bH,bA,bT,ix,fH⟩;refine⟨b,vs,T,bH,bA,bT,ix,λi d X=>?_⟩;obtain⟨u,hu,uT⟩:=fH i d X;refine⟨u,hu,ZP ?_ uT⟩;have hm:=eU X;rw[List.mem_flatten] at hm;obtain⟨e,he,ala⟩:=hm;rw[oI] at Q;have:=Q e he;rw[oI] at this;exact this d ala
     ·cases aq
 ·cases js
end Go.Mini
namespace Go.Mini
open Go
def DK {ι:Type}(T:bk)(cP:ι->a2->Prop)(m:ι->Nat)(i:ι)(K:er->a2->Prop)(k:List fU):er->a2->Prop
 |.normal,st=>∃a4,m a4<m i/\cP a4 st
 |.exit id,st=>b7 T K k (.exit id) st
 |.ret,st=>b7 T K k .ret st
@[go_sem] theorem aAI {ι:Type}(T:bk)(cP:ι->a2->Prop)(m:ι->Nat)(i:ι)(K:er->a2->Prop)(k:List fU)(id:Nat)(st:a2):DK T cP m i K k (.exit id) st=b7 T K k (.exit id) st:=bl
@[go_sem] theorem aAJ {ι:Type}(T:bk)(cP:ι->a2->Prop)(m:ι->Nat)(i:ι)(K:er->a2->Prop)(k:List fU)(st:a2):DK T cP m i K k .ret st=b7 T K k .ret st:=bl
@[go_sem] theorem alb {ι:Type}(T:bk)(cP:ι->a2->Prop)(m:ι->Nat)(i:ι)(K:er->a2->Prop)(k:List fU)(st:a2):DK T cP m i K k .normal st=∃a4,m a4<m i/\cP a4 st:=bl
open Classical in
theorem alc {ι:Type}{T:bk}{K:er->a2->Prop}{k:List fU}{st:a2}{c:dY}(cP:ι->a2->Prop)(m:ι->Nat)(i0:ι)(ai:cP i0 st)(h:∀i st,cP i st->wp T c (b7 T (DK T cP m i K k) []) st):
  wp T (.loop c) (b7 T K k) st:=by
 have least:∀st,(∃i,cP i st)->∃i,cP i st/\∀j,cP j st->m i<=m j:=by
  intro st ⟨i,L⟩
  have:∀n i,m i=n->cP i st->∃i,cP i st/\∀j,cP j st->m i<=m j:=by
   intro n
   induction n using Ql with
   |_ n aw =>
    intro i aG L
    by_cases O:∃j,cP j st/\m j<m i
    ·obtain⟨j,ag,ao⟩:=O;exact aw (m j) (by omega) j rfl ag
    ·refine⟨i,L,λj ag=>?_⟩;rcases hK (m j) (m i) with b2|b2
     ·exact absurd ⟨j,ag,b2⟩ O
     ·exact b2
  exact this _ i rfl L
 refine⟨λst=>∃i,cP i st,λst=>if O:∃i,cP i st then m (yc (least st O)) else 0,⟨i0,ai⟩,λst eA=>?_⟩;have kt:=oQ (least st eA);have:=h _ st kt.1
 have J:b7 T (DK T cP m (yc (least st eA)) K k) []=λe dt=>match e with
   |.normal=>(∃i,cP i dt)/\(if O:∃i,cP i dt then m (yc (least dt O)) else 0)<(if O:∃i,cP i st then m (yc (least st O)) else 0)
   |e=>b7 T K k e dt:=by
  funext e dt
  cases e with
  |normal =>
   simp only[aka,alb];apply propext
   constructor
   ·rintro⟨a4,ao,ag⟩;have hex:∃i,cP i dt:=⟨a4,ag⟩;refine⟨hex,?_⟩;rw[dif_pos hex,dif_pos eA];have:=(oQ (least dt hex)).2 a4 ag;omega
   ·rintro⟨hex,ao⟩;rw[dif_pos hex,dif_pos eA] at ao;exact⟨_,ao,(oQ (least dt hex)).1⟩
  |exit id=>rfl
  |ret=>rfl
 rw[J] at this;exact this
section
variable {aO:List Data->Option et} {mem:Mem} {st:a2} {res:List nz}
@[go_sem] theorem aAK (ds:List Data)(x:Option (List Data)):DJ aO (some ds) x=(aO ds).map Lw:=bl
@[go_sem] theorem aAL (x:Option (List Data)):DJ aO none x=Lx aO x:=bl
@[go_sem] theorem aAM (ds:List Data):Lx aO (some ds)=(aO ds).bind DI:=bl
@[go_sem] theorem aAN (r:Data):Lw (.same r)=.same r:=bl
@[go_sem] theorem aAO (sz:Nat)(es:List (List Data)):Lw (.own sz es)=.own sz es:=bl
@[go_sem] theorem aAP (r:Data):DI (.same r)=if scalar r=true then some (.same r) else none:=bl
@[go_sem] theorem Ly (n:Nat)(d:Data):cZ n mem (.I d)=some d:=by cases n<;>rfl
@[go_sem] theorem ald (n:Nat):cZ n mem .nil=some (.ae []):=by cases n<;>rfl
@[go_sem] theorem aAQ (n:Nat)(cs:List M):cZ (n+1) mem (.agg cs)=(cs.mapM (cZ n mem)).map .agg:=bl
@[go_sem] theorem aAR (n:Nat)(cs:List M):cZ (n+1) mem (.cq cs)=(cs.mapM (cZ n mem)).map .cq:=bl
@[go_sem] theorem aAS (n:Nat)(f:FuncId)(cs:List M):cZ (n+1) mem (.fR f cs)=(cs.mapM (cZ n mem)).map (.fn f):=bl
@[go_sem] theorem aAT (r:et)(id:Nat):zK res r (.exit id) st=False:=bl
@[go_sem] theorem aAU (r:et):zK res r .ret st=ya res r st:=bl
@[go_sem] theorem aAV (r:et):zK res r .normal st=ya res r st:=bl
@[go_sem] theorem aAW (r:Data):ya res (.same r) st=((oF st res).bind (cZ 6 st.mem)=some r):=bl
@[go_sem] theorem aAX (sz:Nat)(es:List (List Data)):ya res (.own sz es) st=((oF st res).bind (oP sz st.mem)=some es):=bl
end
@[go_sem] theorem aAY (x:Bool):Ld (.I (.bool x)) true=some x:=by cases x<;>rfl
@[go_sem] theorem aAZ (x:Bool):Ld (.I (.bool x)) false=some (!x):=by cases x<;>rfl
attribute [go_sem] eY cg List.getElem?_cons_zero List.getElem?_cons_succ kJ mu mv Qm nK oR iW Option.map_none oH
 mn ZT gX g5 iJ lz List.drop_succ_cons List.drop_nil List.take_nil cR dc tC yd nL ye tD iy ju ja DL List.all_nil true_and and_true jU bne
section
variable {T:bk} {K:er->a2->Prop} {k:List fU} {st:a2}
theorem ale {x:Bool}{i:cB}{r:List cB}(E:x=false->qk T K k (some true) i r st)(H:x=true->qk T K k (some false) i r st):qk T K k (some (!x)) i r st:=by
 cases x
 ·exact E rfl
 ·exact H rfl
theorem alf {x:Bool}{i:cB}{r:List cB}(E:x=true->qk T K k (some true) i r st)(H:x=false->qk T K k (some false) i r st):qk T K k (some x) i r st:=by
 cases x
 ·exact H rfl
 ·exact E rfl
theorem alg {x:Bool}{n:Nat}{i:cB}{r:List cB}{c:List (List Nat)}{rec:Rec}(E:x=false->ql T K k n (some true) i r c rec st)(H:x=true->ql T K k n (some false) i r c rec st):ql T K k n (some (!x)) i r c rec st:=by
 cases x
 ·exact E rfl
 ·exact H rfl
theorem alh {x:Bool}{n:Nat}{i:cB}{r:List cB}{c:List (List Nat)}{rec:Rec}(E:x=true->ql T K k n (some true) i r c rec st)(H:x=false->ql T K k n (some false) i r c rec st):ql T K k n (some x) i r c rec st:=by
 cases x
 ·exact H rfl
 ·exact E rfl
theorem ali {x:Bool}{a b:dY}(E:x=false->px T K k (.I (.bool true)) a b st)(H:x=true->px T K k (.I (.bool false)) a b st):px T K k (.I (.bool (!x))) a b st:=by
 cases x
 ·exact E rfl
 ·exact H rfl
theorem alj {x:Bool}{a b:dY}(E:x=true->px T K k (.I (.bool true)) a b st)(H:x=false->px T K k (.I (.bool false)) a b st):px T K k (.I (.bool x)) a b st:=by
 cases x
 ·exact H rfl
 ·exact E rfl
end
class Bs (bz:Prop) (A B:outParam Prop):Prop where
 go:A->B->bz
theorem av {bz A B:Prop}[s:Bs bz A B](a:A)(b:B):bz:=s.go a b
theorem a7 {bz:Prop}(h:true=true->bz):bz:=h rfl
instance {T K k i r st} {x:Bool}:Bs (qk T K k (some x) i r st) (x=true->qk T K k (some true) i r st) (x=false->qk T K k (some false) i r st):=⟨alf⟩
instance {T K k i r st} {x:Bool}:Bs (qk T K k (some (!x)) i r st) (x=false->qk T K k (some true) i r st) (x=true->qk T K k (some false) i r st):=⟨ale⟩
instance {T K k st a b} {x:Bool}:Bs (px T K k (.I (.bool x)) a b st) (x=true->px T K k (.I (.bool true)) a b st) (x=false->px T K k (.I (.bool false)) a b st):=⟨alj⟩
instance {T K k st a b} {x:Bool}:Bs (px T K k (.I (.bool (!x))) a b st) (x=false->px T K k (.I (.bool true)) a b st) (x=true->px T K k (.I (.bool false)) a b st):=⟨ali⟩
instance {T K k n i r c rec st} {x:Bool}:Bs (ql T K k n (some x) i r c rec st) (x=true->ql T K k n (some true) i r c rec st) (x=false->ql T K k n (some false) i r c rec st):=⟨alh⟩
instance {T K k n i r c rec st} {x:Bool}:Bs (ql T K k n (some (!x)) i r c rec st) (x=false->ql T K k n (some true) i r c rec st) (x=true->ql T K k n (some false) i r c rec st):=⟨alg⟩
attribute [go_sem] reduceIte Nat.reduceEqDiff Nat.reduceAdd Nat.reduceSub Nat.reduceMul Nat.reduceLeDiff reduceCtorEq Nat.reduceLT Nat.reduceBEq Int.reduceEq
attribute [go_sem] jU
def HK {ι:Type}(T:bk)(gp:List Nat)(pz:List Key)(vs:List M)(ms:List (Option (Nat×List M)))(cP:ι->(Nat->M)->Mem->Prop)(m:ι->Nat)(i:ι)(K:er->a2->Prop)(k:List fU):er->a2->Prop
 |.normal,st=>∃a4,m a4<m i/\gp.map st.tm=vs/\pz.map st.mem=ms/\cP a4 st.tm st.mem
 |.exit id,st=>b7 T K k (.exit id) st
 |.ret,st=>b7 T K k .ret st
section
variable {ι:Type} (T:bk) (gp:List Nat) (pz:List Key) (vs:List M) (ms:List (Option (Nat×List M))) (cP:ι->(Nat->M)->Mem->Prop) (m:ι->Nat) (i:ι) (K:er->a2->Prop) (k:List fU)
@[go_sem] theorem aA0 (id:Nat)(st:a2):HK T gp pz vs ms cP m i K k (.exit id) st=b7 T K k (.exit id) st:=bl
@[go_sem] theorem aA1 (st:a2):HK T gp pz vs ms cP m i K k .ret st=b7 T K k .ret st:=bl
@[go_sem] theorem aA2 (st:a2):HK T gp pz vs ms cP m i K k .normal st=∃a4,m a4<m i/\gp.map st.tm=vs/\pz.map st.mem=ms/\cP a4 st.tm st.mem:=bl
end
theorem dG {ι:Type}{T:bk}{K:er->a2->Prop}{k:List fU}{DM:Nat->M}{eb:Mem}{c:dY}(gp:List Nat)(pz:List Key)(cP:ι->(Nat->M)->Mem->Prop)(m:ι->Nat)(i0:ι)(ai:cP i0 DM eb)
  (h:∀vs ms,gp.map DM=vs->pz.map eb=ms->∀i tm mem,gp.map tm=vs->pz.map mem=ms->cP i tm mem->wp T c (b7 T (HK T gp pz vs ms cP m i K k) []) ⟨tm,mem⟩) :
  wp T (.loop c) (b7 T K k) ⟨DM,eb⟩:=by
 refine alc (λi st=>gp.map st.tm=gp.map DM/\pz.map st.mem=pz.map eb/\cP i st.tm st.mem) m i0 ⟨rfl,rfl,ai⟩ ?_;rintro i ⟨tm,mem⟩ ⟨E,H,ab⟩;have:=h _ _ rfl rfl i tm mem E H ab
 have J:b7 T (HK T gp pz (gp.map DM) (pz.map eb) cP m i K k) []=b7 T (DK T (λi (st:a2)=>gp.map st.tm=gp.map DM/\pz.map st.mem=pz.map eb/\cP i st.tm st.mem) m i K k) []:=by
  funext e dt
  cases e<;>rfl
 rw[J] at this;exact this
theorem wp_mono {T:bk}:∀(c:dY) (K iz:er->a2->Prop),(∀e st,K e st->iz e st)->∀st,wp T c K st->wp T c iz st:=by
 intro c
 induction c with
 |skip=>exact λK iz h st=>h _ _
 |ops l =>
  intro K iz h st hw
  have:∀(l:List cB) (K iz:a2->Prop),(∀st,K st->iz st)->∀st,v7 T K l st->v7 T iz l st:=by
   intro l
   induction l with
   |nil=>exact λK iz h st=>h st
   |cons i r aw =>
    intro K iz h st hw;unfold v7 at hw ⊢
    split
    ·rename_i aU;rw[aU] at hw;exact hw
    ·rename_i g aU;rw[aU] at hw;simp only at hw ⊢
     split
     ·rename_i ic;rw[Z ic] at hw
      have r7:∀(K iz:a2->Prop),(∀st,K st->iz st)->ga T K i st->ga T iz i st:=by
       intro K iz h hw
       have G:∀d f args,tl T K st d f args->tl T iz st d f args:=by
        intro d f args hw;unfold tl at hw ⊢
        split
        ·rename_i aQ;rw[aQ] at hw;exact h _ hw
        ·rename_i aQ;rw[aQ] at hw;exact h _ hw
        ·rename_i aQ;rw[aQ] at hw;exact λr mem' Y=>h _ (hw r mem' Y)
        ·rename_i aQ;rw[aQ] at hw;exact h _ hw
        ·rename_i aQ;rw[aQ] at hw;exact hw
       unfold ga at hw ⊢
       split
       ·rename_i aQ;rw[aQ] at hw;exact G _ _ _ hw
       ·rename_i aQ;rw[aQ] at hw
        simp only at hw
        split
        ·rename_i n2;rw[n2] at hw
         simp only at hw
         split
         ·rename_i Q;rw[Z Q] at hw;exact h _ hw
         ·rename_i Q;rw[aa Q] at hw;exact hw
        ·rename_i n2
         split at hw
         ·rename_i dU es Qn;exact (n2 dU es Qn).elim
         ·exact hw
       ·rename_i aQ;rw[aQ] at hw
        simp only at hw
        split
        ·rename_i n2;rw[n2] at hw;exact G _ _ _ hw
        ·rename_i n2;rw[n2] at hw;exact G _ _ _ hw
        ·rename_i n2 Qn
         split at hw
         ·rename_i Qo;exact (n2 _ _ Qo).elim
         ·rename_i Qo;exact (Qn _ _ Qo).elim
         ·exact hw
       ·rename_i aQ;rw[aQ] at hw
        simp only at hw
        split
        ·rename_i n2;rw[n2] at hw;exact λb ad=>h _ (hw b ad)
        ·rename_i n2;rw[n2] at hw;exact hw
       ·rename_i E H ab aM
        split at hw
        ·rename_i aQ;exact (E _ _ aQ).elim
        ·rename_i aQ;exact (H _ _ _ _ aQ).elim
        ·rename_i aQ;exact (ab _ _ aQ).elim
        ·rename_i aQ;exact (aM _ _ aQ).elim
        ·split
         ·rename_i aQ;rw[aQ] at hw;exact h _ hw
         ·rename_i aQ;rw[aQ] at hw;exact hw
      exact r7 _ _ (aw _ _ h) hw
     ·rename_i ic;rw[aa ic] at hw;exact aw _ _ h _ hw
  exact this l _ _ (λst=>h .normal st) st hw
 |m1 l c =>
  intro K iz h st hw
  have:∀(l:List cB) (n:Nat) (cs:List (List Nat)) (rec:Rec) (K iz:a2->Prop),(∀st,K st->iz st)->∀st,uK T K n l cs rec st->uK T iz n l cs rec st:=by
   intro l
   induction l with
   |nil=>exact λn cs rec K iz h st=>h st
   |cons i r aw =>
    intro n cs rec K iz h st hw;unfold uK at hw ⊢
    split
    ·rename_i aU;rw[aU] at hw;exact hw
    ·rename_i g aU;rw[aU] at hw;simp only at hw ⊢
     split
     ·rename_i ic;rw[Z ic] at hw
      split
      ·rename_i m e Q;rw[Q] at hw;exact⟨hw.1,aw _ _ _ _ _ h _ hw.2⟩
      ·rename_i Q;rw[Q] at hw;exact hw
     ·rename_i ic;rw[aa ic] at hw;exact aw _ _ _ _ _ h _ hw
  exact this l 0 c _ _ _ (λst=>h .normal st) st hw
 |seq a b iha ihb =>
  intro K iz h st hw;refine iha _ _ (λe dt aQ=>?_) st hw
  cases e with
  |normal=>exact ihb _ _ h _ aQ
  |exit id=>exact h _ _ aQ
  |ret=>exact h _ _ aQ
 |cond c a b iha ihb =>
  intro K iz h st hw;unfold wp at hw ⊢
  split
  ·rename_i t G;rw[G] at hw;simp only at hw
   split
   ·rename_i bI;rw[Z bI] at hw;exact iha _ _ h _ hw
   ·rename_i bI;rw[aa bI] at hw;exact ihb _ _ h _ hw
  ·rename_i O
   split at hw
   ·rename_i G;exact (O _ G).elim
   ·exact hw
 |block id c aw =>
  intro K iz h st hw;refine aw _ _ (λe dt aQ=>?_) st hw
  cases e with
  |normal=>exact h _ _ aQ
  |exit j =>
   simp only at aQ ⊢
   split
   ·rename_i ag;rw[Z ag] at aQ;exact h _ _ aQ
   ·rename_i ag;rw[aa ag] at aQ;exact h _ _ aQ
  |ret=>exact h _ _ aQ
 |loop c aw =>
  intro K iz h st hw;obtain⟨uL,μ,ai,HI⟩:=hw;refine⟨uL,μ,ai,λst eA=>aw _ _ (λe dt aQ=>?_) _ (HI st eA)⟩
  cases e with
  |normal=>exact aQ
  |exit id=>exact h _ _ aQ
  |ret=>exact h _ _ aQ
 |exit id=>exact λK iz h st=>h _ _
 |ret=>exact λK iz h st=>h _ _
 |ghost g c aw =>
  intro K iz h st hw
  have:∀(K iz:a2->Prop),(∀st,K st->iz st)->kp K st g->kp iz st g:=by
   intro K iz h hw;unfold kp at hw
   repeat' split at hw
   all_goals first
    |exact hw.elim
    |exact⟨hw.choose,hw.choose_spec.1,h _ hw.choose_spec.2⟩
    |(
      rcases hw with hw|⟨fq,gz,gb,i,k,g,sz,off,len,cs,k',E,H,ab,aM,bj,bH,hw⟩|⟨fq,gz,gb,i,k,g,sz,off,len,cs,d,E,H,ab,aM,bj,bH,hw⟩
      ·exact .inl (h _ hw)
      ·exact .inr (.inl ⟨fq,gz,gb,i,k,g,sz,off,len,cs,k',E,H,ab,aM,bj,bH,h _ hw⟩)
      ·exact .inr (.inr ⟨fq,gz,gb,i,k,g,sz,off,len,cs,d,E,H,ab,aM,bj,bH,h _ hw⟩))
    |(
      have b2:=h _ hw;clear hw h;unfold kp
      simp_all)
  exact this _ _ (aw _ _ h) hw
def DN (T:bk)(K:er->a2->Prop)(k:List fU)(aF:a2->Prop):er->a2->Prop
 |.normal,st=>aF st
 |.exit id,st=>b7 T K k (.exit id) st
 |.ret,st=>b7 T K k .ret st
@[go_sem] theorem aA3 {T:bk}{K:er->a2->Prop}{k:List fU}{aF:a2->Prop}(st:a2):DN T K k aF .normal st=aF st:=bl
@[go_sem] theorem aA4 {T:bk}{K:er->a2->Prop}{k:List fU}{aF:a2->Prop}(id:Nat)(st:a2):DN T K k aF (.exit id) st=b7 T K k (.exit id) st:=bl
@[go_sem] theorem aA5 {T:bk}{K:er->a2->Prop}{k:List fU}{aF:a2->Prop}(st:a2):DN T K k aF .ret st=b7 T K k .ret st:=bl
theorem ZU {T:bk}{K:er->a2->Prop}{k:List fU}{c a:dY}{st:a2}(aF:a2->Prop)(aZ:wp T a (b7 T (DN T K k aF) []) st)(G:∀dt,aF dt->wp T c (b7 T K k) dt):wp T a (b7 T K (.code c::k)) st:=by
 refine wp_mono a _ _ (λe dt aQ=>?_) st aZ
 cases e with
 |normal=>exact G dt aQ
 |exit id=>exact aQ
 |ret=>exact aQ
theorem alk {T:bk}{K:er->a2->Prop}{k:List fU}{x:Bool}{c a b:dY}{st:a2}(aF:a2->Prop)(aZ:x=true->wp T a (b7 T (DN T K k aF) []) st)(ad:x=false->wp T b (b7 T (DN T K k aF) []) st)
  (G:∀dt,aF dt->wp T c (b7 T K k) dt):px T K (.code c::k) (.I (.bool x)) a b st:=by
 cases x
 ·rw[akc];exact ZU aF (ad rfl) G
 ·rw[akb];exact ZU aF (aZ rfl) G
attribute [go_sem] beq_true beq_false Bool.true_beq Bool.false_beq ko List.flatten_nil hO List.headD_cons List.headD_nil List.tail_cons List.tail_nil List.contains_nil List.contains_cons Bool.not_eq_true'
section
variable {T:bk} {K:er->a2->Prop} {k:List fU} {st:a2}
@[go_sem] theorem aA6 (g:KM)(c:dY):wp T (.ghost g c) (b7 T K k) st=kp (wp T c (b7 T K k)) st g:=bl
def Qp (K:a2->Prop)(st:a2)(s k sz:Nat):M->Prop
 |.nil=>K ⟨eK st.tm s (.ref k (bW st.mem k) sz 0 0),a3 st.mem k (bW st.mem k) []⟩
 |_=>False
@[go_sem] theorem aA7 (K:a2->Prop)(s k sz:Nat):kp K st (.po s k sz)=Qp K st s k sz (st.tm s):=by
 unfold kp Qp;rfl
@[go_sem] theorem aA8 (K:a2->Prop)(s k sz:Nat):Qp K st s k sz .nil=K ⟨eK st.tm s (.ref k (bW st.mem k) sz 0 0),a3 st.mem k (bW st.mem k) []⟩:=bl
end
section
variable {K:a2->Prop} {st:a2}
theorem alm (fq i k k':Nat){gz:Nat}{gb:List M}{g sz off len:Nat}{cs:List M}(E:st.mem fq=some (gz,gb))(H:gb[i]?=some (.ref k g sz off len))(ab:st.mem k=some (g,cs))(aM:k≠fq)(bj:k'≠k)(bH:k'≠fq)
  (h:K ⟨st.tm,a3 (a3 (a3 st.mem k (bW st.mem k) []) k' (bW st.mem k') cs) fq gz (gb.set i (.ref k' (bW st.mem k') sz off len))⟩):kp K st .move :=
 .inr (.inl ⟨fq,gz,gb,i,k,g,sz,off,len,cs,k',E,H,ab,aM,bj,bH,h⟩)
def HL (K:a2->Prop)(st:a2)(s k g sz off len:Nat):Option (Nat×List M)->Prop
 |some (df,cs)=>if df=g/\v8 cs=true then (match cut cs off (len*sz) with
  |some part=>(match part.mapM (cZ 0 st.mem) with
   |some ds=>K ⟨eK st.tm s (.I (.ae (chunk sz len ds))),kill st.mem k⟩
   |none=>False)
  |none=>False) else False
 |none=>False
def Qq (K:a2->Prop)(st:a2)(s:Nat):M->Prop
 |.ref k g sz off len=>HL K st s k g sz off len (st.mem k)
 |_=>False
@[go_sem] theorem aA9 (s:Nat):kp K st (.freeze s)=Qq K st s (st.tm s):=by
 unfold kp Qq;dsimp only
 cases hm:st.tm s with
 |ref k g sz off len=>?_
 |_=>rfl
 dsimp only;unfold HL
 cases J:st.mem k with
 |none=>rfl
 |some x =>
  obtain⟨df,cs⟩:=x;simp only
  by_cases G:df=g/\v8 cs=true
  ·rw[Z G,Z G];unfold cZ;rw[J];simp only[G.1,if_true]
   cases wj:cut cs off (len*sz) with
   |none=>rfl
   |some part =>
    simp only
    cases aC:part.mapM (cZ 0 st.mem)<;>rfl
  ·rw[aa G,aa G]
@[go_sem] theorem aBa (s k g sz off len:Nat):Qq K st s (.ref k g sz off len)=HL K st s k g sz off len (st.mem k):=bl
@[go_sem] theorem aBb (mem:Mem)(k:Key):kill mem k=a3 mem k (bW mem k) []:=bl
end
open Classical in
def cy {α:Type}(uY:α->List Data)(f:α->Option et):List Data->Option et:=λds=>if h:∃a,uY a=ds then f (yc h) else none
theorem cK {α:Type}{uY:α->List Data}{f:α->Option et}(inj:∀a b,uY a=uY b->a=b)(a:α):cy uY f (uY a)=f a:=by
 have h:∃b,uY b=uY a:=⟨a,rfl⟩;unfold cy;rw[dif_pos h,inj _ _ (oQ h)]
theorem aln {α:Type}{uY:α->List Data}{f:α->Option et}{ds:List Data}{r:et}(h:cy uY f ds=some r):∃a,ds=uY a/\f a=some r:=by
 unfold cy at h
 split at h
 ·rename_i O;exact⟨_,(oQ O).symm,h⟩
 ·cases h
open Classical in
def cW (c:Prop)(r:et):Option et:=if c then some r else none
theorem c6 {c:Prop}(h:c)(r:et):cW c r=some r:=by unfold cW;rw[Z h]
@[go_sem] theorem aBc (aO:List Data->Option et)(args:List M)(mem:Mem):aX aO args mem=DJ aO (args.mapM (cZ 6 emp)) (args.mapM (cZ 6 mem)):=bl
theorem map_inj {α β:Type}{f:α->β}(h:∀a b,f a=f b->a=b):∀(l fw:List α),l.map f=fw.map f->l=fw:=by
 intro l
 induction l with
 |nil=>intro fw e;cases fw<;>simp_all
 |cons a r aw =>
  intro fw e
  cases fw with
  |nil=>simp at e
  |cons b Hk =>
   simp only[eY,bf] at e;rw[h _ _ e.1,aw _ e.2]
def Lz (l:List (FuncId×(List Data->Option et))):FuncId->Option (List Data->Option et):=λf=>(l.find? λp=>p.1==f).map (·.2)
theorem wz {P:Program}{l:List (FuncId×(List Data->Option et))}(h:∀p∈l,sg P p.1 p.2):∀f aO,Lz l f=some aO->sg P f aO:=by
 intro f aO aJ;unfold Lz at aJ;rw[dV] at aJ;obtain⟨p,aC,rfl⟩:=aJ;have E:=List.mem_of_find?_eq_some aC;have H:=List.find?_some aC;have ab:p.1=f:=by simpa using H
 exact ab ▸ h p E
theorem cu {P:Program}:∀p∈([]:List (FuncId×(List Data->Option et))),sg P p.1 p.2:=by simp
theorem a8 {P:Program}{f:FuncId}{aO:List Data->Option et}{l:List (FuncId×(List Data->Option et))}(h:sg P f aO)(aq:∀p∈l,sg P p.1 p.2):∀p∈(f,aO)::l,sg P p.1 p.2:=by
 intro p aC;rcases nM.1 aC with rfl|aC
 ·exact h
 ·exact aq p aC
theorem ZV {kO:FuncId->Option (List Data->Option et)}{f:FuncId}{aO:List Data->Option et}(h:kO f=some aO):zL kO f=aX aO:=by
 funext args mem
 unfold zL;rw[h]
@[go_sem] theorem aBd (mem:Mem)(k:Key)(z:List M)(b m:Nat)(new:List M):qe mem k z b .nil (some (m,new)) =
  if m*b<=140737488355328/\m<=maxLen/\new.all M.one=true then some (.ref k (bW mem k) (D z) 0 m,some (k,bW mem k,new)) else none:=bl
@[go_sem] theorem aBe (mem:Mem)(k k':Key)(z:List M)(g sz b len m:Nat)(new:List M):qe mem k z b (.ref k' g sz 0 len) (some (m,new)) =
  if sz=(D z) then lQ k' g sz len b m new (mem k') else none:=by
 unfold qe;simp
def aY {α:Type}(enc:α->List Data)(l:List α):List M:=(l.map enc).flatten.map .I
section
variable {α:Type} {enc:α->List Data} {sz:Nat}
theorem alo:aY enc []=[]:=rfl
theorem wA (a:α)(l:List α):aY enc (a::l)=(enc a).map .I++aY enc l:=by simp[aY]
theorem Qr (a b:List α):aY enc (a++b)=aY enc a++aY enc b:=by simp[aY]
theorem kP (h:∀a,(enc a).length=sz)(l:List α):(aY enc l).length=D l*sz:=by
 induction l with
 |nil=>simp[aY]
 |cons a r aw=>rw[wA,hj,aw,al,h,kJ,pk,Nat.one_mul,Nat.add_comm]
theorem Qs (h:∀a,(enc a).length=sz){l:List α}{i:Nat}{a:α}(L:l[i]?=some a):∃p q,aY enc l=p++((enc a).map .I++q)/\D p=i*sz/\∀b,aY enc (l.set i b)=p++((enc b).map .I++q):=by
 have ao:=(dM.1 L).1;have j3:l[i]=a:=(dM.1 L).2
 have e:l=l.take i++a::l.drop (i+1):=by
  rw[<-j3,<-hL ao,zN]
 refine⟨aY enc (l.take i),aY enc (l.drop (i+1)),?_,?_,λb=>?_⟩
 ·conv=>lhs;rw[e]
  rw[Qr,wA]
 ·rw[kP h,g7];congr 1;omega
 ·rw[List.set_eq_take_append_cons_drop,Z ao,Qr,wA]
theorem LA (h:∀a,(enc a).length=sz){l:List α}{i:Nat}{a:α}(L:l[i]?=some a){f n:Nat}(aJ:f+n<=sz):cut (aY enc l) (i*sz+f) n=some ((((enc a).map .I).drop f).take n):=by
 obtain⟨p,q,e,aC,-⟩:=Qs h L;have aZ:=h a;unfold cut;rw[e,Z (by simp only[hj,al];omega),<-aC];rw[oc,lq (by omega)];rw[show (D p)+f-D p=f by omega,iJ,oc,List.take_append]
 have:n-(((enc a).map M.I).drop f).length=0:=by simp only[pA,al];omega
 rw[this,nK,hO]
theorem Qt (h:∀a,(enc a).length=sz){l:List α}{i:Nat}(L:i<D l)(b:α):ln (aY enc l) (i*sz) ((enc b).map .I)=aY enc (l.set i b):=by
 obtain⟨p,q,e,aC,Q⟩:=Qs h (bx L);rw[Q b,e];have aZ:=h l[i];have ad:=h b;unfold ln;rw[<-aC,Qu,gK]
 congr 2
 rw[oc,lq (by omega),iJ,al,show (D p)+(enc b).length-D p=(enc b).length by omega,ad,<-aZ,<-al (f:=M.I),Qv]
theorem alp (bu:∀a,((enc a).map M.I).all M.one=true)(l:List α):(aY enc l).all M.one=true:=by
 induction l with
 |nil=>rfl
 |cons a r aw=>rw[wA,List.all_append,bu,aw];rfl
theorem DO (h:∀a,(enc a).length=sz)(bu:∀a,((enc a).map M.I).all M.one=true)(k g b:Nat)(l new:List α)(ad:(D l+D new)*b<=140737488355328)(hm:(D l)+D new<=1000000000):
  lQ k g sz (D l) b (D new) (aY enc new) (some (g,aY enc l))=some (.ref k (g+1) sz 0 (D l+D new),some (k,g+1,aY enc (l++new))):=by
 unfold lQ;have x4:(D l)+D new<=maxLen:=ey hm (by decide);dsimp only;rw[Z ⟨rfl,by rw[kP h];exact bM _,ad,x4,alp bu new⟩,Qr,dE (by rw[kP h];exact bM _)]
theorem mw (h:∀a,(enc a).length=sz)(bu:∀a,((enc a).map M.I).all M.one=true)(k g b:Nat)(l:List α)(a:α){cs:List M}(G:cs=(enc a).map .I)(ad:(D l+1)*b<=140737488355328)(hm:(D l)+1<=1000000000):
  lQ k g sz (D l) b 1 cs (some (g,aY enc l))=some (.ref k (g+1) sz 0 (D l+1),some (k,g+1,aY enc (l++[a]))):=by
 have:=DO h bu k g b l [a] ad hm;rw[G];rw[wA,alo,hO] at this;exact this
theorem wB (f:M->Option Data)(aJ:∀d,f (.I d)=some d)(l:List Data):(l.map M.I).mapM f=some l:=by
 induction l with
 |nil=>rfl
 |cons a r aw=>simp[aJ,aw]
theorem zO:∀(l:List (List Data)),(∀e∈l,D e=sz)->chunk sz (D l) l.flatten=l:=by
 intro l
 induction l with
 |nil=>intro _;rfl
 |cons e r aw =>
  intro h;have he:=h e (by simp);rw[kJ,ko,chunk];rw[<-he,Qu,Qv,he,aw λx O=>h x (by simp[O])]
theorem pB (h:∀a,(enc a).length=sz){n k g:Nat}{mem:Mem}{l:List α}(hm:mem k=some (g,aY enc l)):cZ (n+1) mem (.ref k g sz 0 (D l))=some (.ae (l.map enc)):=by
 unfold cZ;rw[hm];simp only[if_true];unfold cut;rw[oH,kP h,Z (bM _)];simp only[mv];rw[dE (by rw[kP h];exact bM _)];unfold aY;rw[wB _ λd=>by cases n<;>rfl]
 have:=zO (sz:=sz) (l.map enc) (by simpa using λa _=>h a);rw[al] at this;simp[this]
end
theorem ZW {α:Type}(enc:α->List Data)(l:List α):v8 (aY enc l)=true:=by
 unfold v8 aY;rw[oI];intro m hm;rw[fI] at hm;obtain⟨d,_,rfl⟩:=hm
 rfl
theorem lV {α:Type}{enc:α->List Data}{sz:Nat}(h:∀a,(enc a).length=sz){K:a2->Prop}{st:a2}(s k g:Nat)(l:List α):
  HL K st s k g sz 0 (D l) (some (g,aY enc l))=K ⟨eK st.tm s (.I (.ae (l.map enc))),kill st.mem k⟩:=by
 have Y:=pB (n:=0) h (mem:=a3 st.mem k g (aY enc l)) (k:=k) (g:=g) (l:=l) (by simp[a3]);unfold HL;dsimp only;rw[Z ⟨rfl,ZW enc l⟩];unfold cut;rw[oH,kP h,Z (bM _)];dsimp only;rw[mv,dE (by rw[kP h];exact bM _)];unfold aY;rw[wB _ λd=>rfl];dsimp only;have:=zO (sz:=sz) (l.map enc) (by simpa using λa _=>h a);rw[al] at this;rw[this]
theorem wrap64 (x:Int)(E:-9223372036854775808<=x)(H:x<=9223372036854775807):IntKind.i64.wrap x=x:=by
 rw[IntKind.wrap_i64];omega
theorem ZX {α:Type}(l:List α)(i:Int)(ai:0<=i)(h:i<D l):∃x,l[i.toNat]?=some x/\l.drop i.toNat=x::l.drop (i+1).toNat/\l.take (i+1).toNat=l.take i.toNat++[x]:=by
 have ao:i.toNat<D l:=by omega
 have e:(i+1).toNat=i.toNat+1:=by omega
 refine⟨l[i.toNat],bx ao,?_,?_⟩
 ·rw[e];exact hL ao
 ·rw[e];rw[lA,bx ao];rfl
abbrev WP (T:bk)(mf:b5)(r:et)(l:List M):Prop:=wp T mf.body (zK mf.res r) ⟨mj l,emp⟩
theorem cH {T:bk}{c:dY}{K:er->a2->Prop}{st:a2}(h:wp T c (b7 T K []) st):wp T c K st:=wo h
theorem eC (x:Int)(E:-9223372036854775808<=x:=by omega)(H:x<=9223372036854775807:=by omega):IntKind.i64.wrap x=x:=wrap64 x E H
theorem gu {i:Nat}(h:i<1000000000000):IntKind.i64.wrap ((i:Int)+1)=((i+1:Nat):Int):=by rw[wrap64 _ (by omega) (by omega)];omega
end Go.Mini
namespace Go.Mini
open Go Go.ChangeShapes Go.WideShapes
inductive pC where
 |int (k:IntKind)
 |bool
 |str
 |ae (e:pC)
 |st (l:List pC)
mutual
def Fit:pC->List Data->Prop
 |.int k,ds=>∃n,ds=[.int k n]/\(Lit.int k n).wf=true
 |.bool,ds=>∃b,ds=[.bool b]
 |.str,ds=>∃s,ds=[.str s]/\D s<=maxLen
 |.ae e,ds=>∃es,ds=[.ae es]/\D es<=maxLen/\∀x∈es,Fit e x
 |.st l,ds=>Fits l ds
def Fits:List pC->List Data->Prop
 | [],ds=>ds=[]
 |s::r,ds=>∃a b,ds=a++b/\Fit s a/\Fits r b
end
def HM (P:Program):Nat->List Field->Nat->Bool
 |off,[],tot=>off==tot
 |off,f::r,tot=>f.offset==off&&HM P (off+P.cellsOf f.type) r tot
def HN (g:TypeId->Option pC):List Field->Option (List pC)
 | []=>some []
 |f::r=>match g f.type,HN g r with
  |some s,some l=>some (s::l)
  |_,_=>none
def q8 (P:Program):Nat->TypeId->Option pC
 |0,_=>none
 |n+1,t=>match P.underlying t with
  |some .bool=>some .bool
  |some (.int k)=>some (.int k)
  |some .string=>some .str
  |some (.slice e)=>if 0<P.cellsOf e then (q8 P n e).map .ae else none
  |some (.struct dj)=>if HM P 0 dj.toList (P.cellsOf t)=true then (HN (q8 P n) dj.toList).map .st else none
  |_=>none
section
variable {hk:Type} {enc:TypeId×Value->hk} {P:Program} {w:World} {base:Nat}
def HO (enc:TypeId×Value->hk)(P:Program)(w:World)(base:Nat)(S:pC)(fuel:Nat)(t:TypeId)(cs:List Value)(x:DataW hk×List MemPlace):Prop :=
 (∃ds,Fit S ds/\x9 w (λ_=>False) ds cs)/\(∀p∈x.2,p.block<w.heap.size) /\
 ∀(aL:World) (sp:Nat->Bool),(∀p∈x.2,sp p.block=true)->(∀b,b<w.heap.size->aL.heap[b]?=w.heap[b]?)->DataW.trod enc P aL base sp true fuel t cs=some x
theorem HP {aP:Nat->Prop}{d:Data}{v:Value}(h:Den w aP d v):x9 w aP [d] [v]:=by
 refine⟨rfl,λi wm Bf E H=>?_⟩
 cases i with
 |zero=>cases E;cases H;exact h
 |succ i=>simp at E
theorem ZY (a:Addr)(i:Nat):(a.add i).block=a.block:=by
 unfold Addr.add
 split<;>rfl
theorem add_plain (b off i:Nat):(Addr.add ⟨b,off,none⟩ i)=⟨b,off+i,none⟩:=by
 unfold Addr.add
 split
 ·rename_i h;subst h;rfl
 ·rfl
theorem ZZ {aL:World}{a:Addr}{n:Nat}{cs:List Value}(h:w.cells? base a n=some cs)(J:∀b,b<w.heap.size->aL.heap[b]?=w.heap[b]?):aL.cells? base a n=some cs:=by
 unfold World.cells? at h ⊢
 split at h
 ·rename_i ad;rw[Z ad,<-h]
  by_cases ao:a.block<w.heap.size
  ·have he:(λi=>aL.cell? (a.add i))=λi=>w.cell? (a.add i):=by
    funext i
    exact World.cell?_of_block (a:=a.add i) (J _ (by rw[ZY];exact ao))
   rw[he]
  ·cases n with
   |zero=>rfl
   |succ n =>
    exfalso
    have:w.cell? (a.add 0)=none:=by
     unfold World.cell?;have:w.heap[(a.add 0).block]?=none:=Array.getElem?_eq_none (by rw[ZY];omega);rw[this]
    rw[List.range_succ_eq_map,mn,this] at h
    cases h
 ·cases h
theorem Qw {a:Addr}{n:Nat}{cs:List Value}(h:w.cells? base a n=some cs):(D cs)=n/\∀i,i<n->∃v,cs[i]?=some v/\w.cell? (a.add i)=some v:=by
 unfold World.cells? at h
 split at h
 ·obtain⟨E,H⟩:=nB h;rw[q9] at E;refine⟨E,λi L=>?_⟩;have G:=bx (l:=cs) (i:=i) (by omega);exact⟨_,G,H i i _ (by simp[L]) G⟩
 ·cases h
theorem alq {a:Addr}{v:Value}(h:w.cell? a=some v):a.block<w.heap.size/\a.spot=none:=by
 unfold World.cell? at h
 split at h
 ·rename_i ad;refine⟨(Array.getElem?_eq_some_iff.1 ad).1,?_⟩
  cases Q:a.spot with
  |none=>rfl
  |some x=>rw[Q] at h;simp at h
 ·cases h
theorem mapM_congr {α β:Type}{f g:α->Option β}:∀{l:List α},(∀x∈l,f x=g x)->l.mapM f=l.mapM g:=by
 intro l
 induction l with
 |nil=>intro _;rfl
 |cons a r aw =>
  intro h;rw[mn,mn,h a (by simp),aw λx O=>h x (by simp[O])]
theorem alr {β:Type}(len:Nat)(aF:Nat->β->Prop)(h:∀i,i<len->∃y,aF i y):∃l:List β,D l=len/\∀i y,l[i]?=some y->aF i y:=by
 induction len with
 |zero=>exact⟨[],rfl,λi y h=>by simp at h⟩
 |succ n aw =>
  obtain⟨l,E,H⟩:=aw λi L=>h i (by omega);obtain⟨y,ak⟩:=h n (by omega);refine⟨l++[y],by simp[E],λi z aR=>?_⟩
  rw[Dp] at aR
  split at aR
  ·exact H i z aR
  ·rename_i ao
   have:i-D l=0:=by
    have:=(dM.1 aR).1;simp at this;omega
   rw[this] at aR
   cases aR;have:i=n:=by omega
   subst this;exact ak
theorem als {β:Type}{sz:Nat}:∀(es:List (List β)),(∀e∈es,D e=sz)->0<sz->∀(i:Nat) (d:β),es.flatten[i]?=some d->∃e,es[i/sz]?=some e/\e[i%sz]?=some d:=by
 intro es
 induction es with
 |nil=>intro _ _ i d h;simp at h
 |cons e r aw =>
  intro h aR i d X;have he:=h e (by simp);rw[ko,Dp] at X
  split at X
  ·rename_i ao;rw[he] at ao;refine⟨e,by rw[Qx ao];rfl,by rw[HQ ao];exact X⟩
  ·rename_i cf;rw[he] at X cf;obtain⟨x,E,H⟩:=aw (λy ak=>h y (by simp[ak])) aR _ d X;have L:i=(i-sz)+sz:=by omega
   refine⟨x,?_,?_⟩
   ·rw[L,Nat.add_div_right _ aR]
    simpa using E
   ·rw[L,Nat.add_mod_right];exact H
theorem alu {n fuel:Nat}(aw:∀t S,q8 P n t=some S->∀(cs:List Value) (x:DataW hk×List MemPlace),DataW.trod enc P w base (λ_=>true) true fuel t cs=some x->HO enc P w base S fuel t cs x)(cs:List Value):
  ∀(dj:List Field) (off:Nat) (l:List pC) (xs:List (DataW hk×List MemPlace)),HN (q8 P n) dj=some l->HM P off dj (D cs)=true ->
   dj.mapM (λf=>DataW.trod enc P w base (λ_=>true) true fuel f.type ((cs.drop f.offset).take (P.cellsOf f.type)))=some xs ->
   (∃ds,Fits l ds/\x9 w (λ_=>False) ds (cs.drop off))/\(∀p∈xs.flatMap (·.2),p.block<w.heap.size) /\
   ∀(aL:World) (sp:Nat->Bool),(∀p∈xs.flatMap (·.2),sp p.block=true)->(∀b,b<w.heap.size->aL.heap[b]?=w.heap[b]?) ->
    dj.mapM (λf=>DataW.trod enc P aL base sp true fuel f.type ((cs.drop f.offset).take (P.cellsOf f.type)))=some xs:=by
 intro dj
 induction dj with
 |nil =>
  intro off l xs aq bI O;simp only[HN,b8] at aq;subst aq;simp only[HM,beq_iff_eq] at bI;simp only[ZT,gX,b8] at O;subst O;refine⟨⟨[],rfl,?_⟩,by simp,λ_ _ _ _=>rfl⟩
  rw[bI,Qy];exact⟨rfl,λi d v h=>by simp at h⟩
 |cons f r ihf =>
  intro off l xs aq bI O;unfold HN at aq
  split at aq
  ·rename_i s fw Q KW
   cases aq;simp only[HM,e3,beq_iff_eq] at bI;obtain⟨PS,bI⟩:=bI;rw[mn] at O;simp only[gX,g5,ej,b8] at O;obtain⟨x,lB,ys,alv,rfl⟩:=O;obtain⟨⟨Qz,QA,DP⟩,alw,alx⟩:=aw _ _ Q _ _ lB;obtain⟨⟨Bt,j2,eh⟩,aly,alz⟩:=ihf _ _ _ KW bI alv;refine⟨⟨Qz++Bt,⟨Qz,Bt,rfl,QA,j2⟩,?_⟩,?_,?_⟩
   ·have YR:cs.drop off=(cs.drop off).take (P.cellsOf f.type)++cs.drop (off+P.cellsOf f.type):=by
     rw[<-DH,zN]
    rw[PS] at DP;rw[YR];refine⟨by rw[hj,hj,DP.1,eh.1],λi d v E H=>?_⟩
    rw[Dp] at E H;have hlen:=DP.1
    by_cases ao:i<D Qz
    ·rw[Z ao] at E;rw[Z (by omega)] at H;exact DP.2 i d v E H
    ·rw[aa ao] at E;rw[aa (by omega),hlen] at H;exact eh.2 _ d v E H
   ·intro p aC;rw[oS,iw] at aC;exact aC.elim (alw p) (aly p)
   ·intro aL sp kt J;rw[mn,alx aL sp (λp aC=>kt p (by rw[oS,iw];exact .inl aC)) J];have:=alz aL sp (λp aC=>kt p (by rw[oS,iw];exact .inr aC)) J;simp only[gX,g5,oR];rw[this]
    rfl
  ·cases aq
theorem alA:∀(n:Nat) (t:TypeId) (S:pC),q8 P n t=some S->∀(fuel:Nat) (cs:List Value) (x:DataW hk×List MemPlace),DataW.trod enc P w base (λ_=>true) true fuel t cs=some x->HO enc P w base S fuel t cs x:=by
 intro n
 induction n with
 |zero=>intro t S h;simp[q8] at h
 |succ n aw =>
  intro t S cv fuel cs x O
  cases fuel with
  |zero=>cases O
  |succ fuel =>
   unfold q8 at cv
   split at cv
   ·-- bool
    rename_i hu
    cases cv
    have key:∀(aL:World) (sp:Nat->Bool) (cs:List Value),DataW.trod enc P aL base sp true (fuel+1) t cs=match cs with|[.bool b]=>some (.lit (.bool b),[])|_=>none:=by
     intro aL sp cs;unfold DataW.trod;rw[hu];clear O
     split<;>simp_all
    rw[key] at O
    split at O
    ·cases O;exact⟨⟨_,⟨_,rfl⟩,HP .bool⟩,by simp,λaL sp _ _=>by rw[key]⟩
    ·cases O
   ·-- int
    rename_i k hu
    cases cv
    have key:∀(aL:World) (sp:Nat->Bool) (cs:List Value),DataW.trod enc P aL base sp true (fuel+1) t cs=match cs with|[.int k' n]=>if k'=k/\(Lit.int k n).wf=true then some (.lit (.int k n),[]) else none|_=>none:=by
     intro aL sp cs;unfold DataW.trod;rw[hu];clear O
     split<;>simp_all
    rw[key] at O
    split at O
    ·split at O
     ·rename_i G
      cases O;obtain⟨rfl,Z0⟩:=G;exact⟨⟨_,⟨_,rfl,Z0⟩,HP .int⟩,by simp,λaL sp _ _=>by rw[key];simp[Z0]⟩
     ·cases O
    ·cases O
   ·-- string
    rename_i hu
    cases cv
    have key:∀(aL:World) (sp:Nat->Bool) (cs:List Value),DataW.trod enc P aL base sp true (fuel+1) t cs=match cs with|[.string s]=>if s.size<=maxLen then some (.lit (.string s.data.toList),[]) else none|_=>none:=by
     intro aL sp cs;unfold DataW.trod;rw[hu];clear O
     split<;>simp_all
    rw[key] at O
    split at O
    ·rename_i s
     split at O
     ·rename_i G
      cases O;refine⟨⟨[.str s.data.toList],⟨_,rfl,?_⟩,HP ?_⟩,by simp,λaL sp _ _=>by rw[key];simp[G]⟩
      ·rw[Array.length_toList];exact G
      ·have:Den w (λ_=>False) (.str s.data.toList) (.string ⟨s.data.toList.toArray⟩):=.str
       simpa using this
     ·cases O
    ·cases O
   ·-- slice
    rename_i e hu
    split at cv
    ·rename_i G;rw[dV] at cv;obtain⟨S,cv,rfl⟩:=cv
     have key:∀(aL:World) (sp:Nat->Bool) (cs:List Value),DataW.trod enc P aL base sp true (fuel+1) t cs=match cs with
      | [.slice none 0 0]=>some (.nil,[])
      | [.slice (some a) len cap] =>
       if base<=a.block/\len<=cap/\cap<=maxLen then
        ((
         dQ len).mapM λi=>(aL.cells? base (a.add (i*P.cellsOf e)) (P.cellsOf e)).bind (DataW.trod enc P aL base sp true fuel e)).bind λelems =>
         (if sp a.block then (dQ (cap-len)).mapM λj=>(aL.cells? base (a.add ((len+j)*P.cellsOf e)) (P.cellsOf e)).bind (DataW.trod enc P aL base sp true fuel e) else some []).map λrest =>
          (.slice (elems.map (·.1)) (rest.map (·.1)),MemPlace.row a ((D elems+D rest)*P.cellsOf e)++(elems++rest).flatMap (·.2))
       else none
      |_=>none:=by
      intro aL sp cs
      conv=>lhs;unfold DataW.trod
      rw[hu];clear O
      split<;>simp_all
     rw[key] at O
     split at O
     ·cases O;exact⟨⟨[.ae []],⟨_,rfl,fr _,by simp⟩,HP .kI⟩,by simp,λaL sp _ _=>by rw[key];rfl⟩
     ·rename_i a len cap
      split at O
      ·rename_i ad;rw[ej] at O;obtain⟨elems,he,O⟩:=O;rw[dV] at O;obtain⟨rest,Y,rfl⟩:=O;rw[Z rfl] at Y;obtain⟨jY,alB⟩:=nB he;obtain⟨bV,alC⟩:=nB Y;rw[q9] at jY bV
       -- each place
       have bJ:∀i y,(i<len->elems[i]?=some y)->(¬ i<len->i<cap/\rest[i-len]?=some y)->∃ci,w.cells? base (a.add (i*P.cellsOf e)) (P.cellsOf e)=some ci/\DataW.trod enc P w base (λ_=>true) true fuel e ci=some y:=by
        intro i y E H
        by_cases L:i<len
        ·have:=alB i i y (by simp[L]) (E L);rwa [ej] at this
        ·obtain⟨ab,aM⟩:=H L;have:=alC (i-len) (i-len) y (List.getElem?_range (by omega)) aM;rw[show len+(i-len)=i by omega,ej] at this
         exact this
       have eQ:0<D elems+(D rest)->a.block<w.heap.size/\a.spot=none:=by
        intro aC;have ai:0<cap:=by omega
        have:∃y,(0<len->elems[0]?=some y)/\(¬ 0<len->0<cap/\rest[0-len]?=some y):=by
         by_cases aq:0<len
         ·exact⟨elems[0],λ_=>bx _,λh=>absurd aq h⟩
         ·exact⟨rest[0],λh=>absurd h aq,λ_=>⟨ai,by rw[Nat.zero_sub];exact bx _⟩⟩
        obtain⟨y,E,H⟩:=this;obtain⟨ci,mq,-⟩:=bJ 0 y E H;obtain⟨v,-,aI⟩:=(Qw mq).2 0 G;have:=alq aI;rw[LB] at this;have cw:(a.add 0).add 0=a:=by unfold Addr.add;simp
        rw[cw] at this;exact this
       have Z1:∀i y,(i<len->elems[i]?=some y)->(¬ i<len->i<cap/\rest[i-len]?=some y)->∃ci,w.cells? base (a.add (i*P.cellsOf e)) (P.cellsOf e)=some ci/\HO enc P w base S fuel e ci y:=by
        intro i y E H;obtain⟨ci,ab,aM⟩:=bJ i y E H;exact⟨ci,ab,aw e S cv fuel ci y aM⟩
       have QB:∀(i:Nat) y,elems[i]?=some y->∃ci,w.cells? base (a.add (i*P.cellsOf e)) (P.cellsOf e)=some ci/\HO enc P w base S fuel e ci y :=
        λi y ak=>Z1 i y (λ_=>ak) (λh=>absurd (by have:=(dM.1 ak).1;omega) h)
       have Z2:∀(j:Nat) y,rest[j]?=some y->∃ci,w.cells? base (a.add ((len+j)*P.cellsOf e)) (P.cellsOf e)=some ci/\HO enc P w base S fuel e ci y :=
        λj y ak=>Z1 (len+j) y (λh=>by omega) (λ_=>⟨by have:=(dM.1 ak).1;omega,by rwa [DQ]⟩)
       refine⟨?_,?_,?_⟩
       ·obtain⟨es,QC,heq⟩:=alr len (λi (ds:List Data)=>∃ci,w.cells? base (a.add (i*P.cellsOf e)) (P.cellsOf e)=some ci/\Fit S ds/\x9 w (λ_=>False) ds ci) λi L=>by
         obtain⟨ci,E,⟨ds,H,ab⟩,-,-⟩:=QB i _ (bx (by omega));exact⟨ds,ci,E,H,ab⟩
        refine⟨[.ae es],⟨es,rfl,by omega,λy ak=>?_⟩,HP ?_⟩
        ·obtain⟨i,L⟩:=pD.1 ak;obtain⟨ci,-,h,-⟩:=heq i y L;exact h
        ·by_cases aq:len=0
         ·rw[aq] at QC ⊢;rw[r5 QC];exact .kI
         ·obtain⟨j2,eh⟩:=eQ (by omega);obtain⟨b,off,spot⟩:=a;simp only at j2 eh;subst eh
          have eP:∀y∈es,D y=P.cellsOf e:=by
           intro y ak;obtain⟨i,L⟩:=pD.1 ak;obtain⟨ci,E,-,H⟩:=heq i y L;rw[<-H.1,(Qw E).1]
          have hl:∀(i:Nat) (d:Data),es.flatten[i]?=some d->∃v,w.cell? ⟨b,off+i,none⟩=some v/\Den w (λ_=>False) d v:=by
           intro i d X;obtain⟨y,E,H⟩:=als es eP G i d X;obtain⟨ci,ab,-,aM⟩:=heq _ y E;have hm:i%P.cellsOf e<P.cellsOf e:=nN _ G;obtain⟨v,bj,bH⟩:=(Qw ab).2 _ hm;rw[add_plain,add_plain,rZ,si,LC] at bH;exact⟨v,bH,aM.2 _ d v H bj⟩
          rw[<-QC];refine .ae (sz:=P.cellsOf e) (λi=>(w.cell? ⟨b,off+i,none⟩).getD undef) (by omega) (by omega) j2 (λh=>h) eP (λi L=>?_) λi d X=>?_
          ·have ao:i<D es.flatten:=by rw[KK eP];exact L
           obtain⟨v,aI,-⟩:=hl i _ (bx ao);rw[aI]
           rfl
          ·obtain⟨v,aI,oG⟩:=hl i d X;rw[aI];exact oG
       ·intro p aC;simp only[iw] at aC;rcases aC with aC|aC
        ·unfold MemPlace.row at aC;rw[fI] at aC;obtain⟨i,L,rfl⟩:=aC;rw[hn] at L
         have:0<D elems+D rest:=by
          rcases iU (D elems+D rest) with h|h
          ·rw[h,LB] at L;omega
          ·exact h
         exact (eQ this).1
        ·rw[Bo] at aC;obtain⟨y,ak,aC⟩:=aC;rw[iw] at ak;rcases ak with ak|ak
         ·obtain⟨i,L⟩:=pD.1 ak;obtain⟨ci,-,h⟩:=QB i y L;exact h.2.1 p aC
         ·obtain⟨i,L⟩:=pD.1 ak;obtain⟨ci,-,h⟩:=Z2 i y L;exact h.2.1 p aC
       ·intro aL sp kt J;rw[key];simp only;rw[Z ad]
        have e8:0<D elems+(D rest)->sp a.block=true:=by
         intro aC
         have:=kt (.cell a.block (a.off+0)) (by
          rw[iw]
          left
          unfold MemPlace.row;rw[fI];exact⟨0,by rw[hn];exact Nat.mul_pos aC G,rfl⟩)
         exact this
        have alD:(dQ len).mapM (λi=>(aL.cells? base (a.add (i*P.cellsOf e)) (P.cellsOf e)).bind (DataW.trod enc P aL base sp true fuel e))=some elems:=by
         rw[<-he];refine mapM_congr λi L=>?_;rw[hn] at L;have ak:=bx (l:=elems) (i:=i) (by omega);obtain⟨ci,E,H⟩:=QB i _ ak;rw[ZZ E J,E];simp only[oR];obtain⟨alE,ab,aM⟩:=bJ i _ (λ_=>ak) (λh=>absurd L h);rw[E] at ab
         cases ab;rw[aM]
         exact H.2.2 aL sp (λp aC=>kt p (by
          rw[iw];right
          rw[Bo];exact⟨_,iw.2 (.inl (eU ak)),aC⟩)) J
        have alF:(dQ (cap-len)).mapM (λj=>(aL.cells? base (a.add ((len+j)*P.cellsOf e)) (P.cellsOf e)).bind (DataW.trod enc P aL base sp true fuel e))=some rest:=by
         rw[<-Y];refine mapM_congr λj ag=>?_;rw[hn] at ag;have ak:=bx (l:=rest) (i:=j) (by omega);obtain⟨ci,E,H⟩:=Z2 j _ ak;rw[ZZ E J,E];simp only[oR];obtain⟨alE,ab,aM⟩:=bJ (len+j) rest[j] (λh=>by omega) (λ_=>⟨by omega,by rw[DQ];exact ak⟩);rw[E] at ab
         cases ab;rw[aM]
         exact H.2.2 aL sp (λp aC=>kt p (by
          rw[iw];right
          rw[Bo];exact⟨_,iw.2 (.inr (eU ak)),aC⟩)) J
        rw[alD];simp only[oR]
        cases Q:sp a.block with
        |true=>simp only[if_true];rw[alF];rfl
        |false =>
         have aR:¬ 0<D elems+D rest:=λh=>by rw[e8 h] at Q;cases Q
         have:rest=[]:=r5 (by omega);subst this
         rfl
      ·cases O
     ·cases O
    ·cases cv
   ·-- struct
    rename_i dj hu
    split at cv
    ·rename_i bI;rw[dV] at cv;obtain⟨l,aq,rfl⟩:=cv
     have key:∀(aL:World) (sp:Nat->Bool),DataW.trod enc P aL base sp true (fuel+1) t cs =
       if (D cs)=P.cellsOf t then (dj.toList.mapM λf=>DataW.trod enc P aL base sp true fuel f.type ((cs.drop f.offset).take (P.cellsOf f.type))).map λxs=>(.agg (xs.map (·.1)),xs.flatMap (·.2)) else none:=by
      intro aL sp
      conv=>lhs;unfold DataW.trod
      rw[hu]
     rw[key] at O
     split at O
     ·rename_i hlen;rw[dV] at O;obtain⟨xs,zJ,rfl⟩:=O;rw[<-hlen] at bI;obtain⟨E,H,ab⟩:=alu (λt S h cs x O=>aw t S h fuel cs x O) cs dj.toList 0 l xs aq bI zJ;refine⟨?_,H,λaL sp kt J=>?_⟩
      ·obtain⟨ds,aJ,X⟩:=E;exact⟨ds,aJ,by simpa using X⟩
      ·rw[key,Z hlen,ab aL sp kt J]
       rfl
     ·cases O
    ·cases cv
   ·cases cv
end
end Go.Mini
namespace Go.Mini
open Go Go.ChangeShapes Go.WideShapes Go.RowKit
def Z3:pC->Data->Prop
 |.st l,d=>∃cs,d=.agg cs/\Fits l cs
 |s,d=>Fit s [d]
def LD:List pC->List Data->Prop
 | [],ds=>ds=[]
 |s::r,ds=>∃d t,ds=d::t/\Z3 s d/\LD r t
section
variable {hk:Type} {enc:TypeId×Value->hk} {P:Program} {w:World}
theorem alG {aP:Nat->Prop}{d:Data}{v:Value}{ds:List Data}{vs:List Value}(h:Den w aP d v)(Q:x9 w aP ds vs):x9 w aP (d::ds) (v::vs):=by
 refine⟨by simp[Q.1],λi wm Bf E H=>?_⟩
 cases i with
 |zero=>cases E;cases H;exact h
 |succ i=>exact Q.2 i wm Bf (by simpa using E) (by simpa using H)
theorem alH {n:Nat}{t:TypeId}{S:pC}{v:Value}{d:DataW hk}{cS:List MemPlace}{ra:Nat}(cv:q8 P n t=some S)(hl:Value.okWide P w .any ra t v)(h:DataW.Trod enc P w 0 (λ_=>true) true t v d cS):
  (∃bR,Z3 S bR/\Den w (λ_=>False) bR v)/\(∀p∈cS,p.block<w.heap.size) /\
  ∀(aL:World) (sp:Nat->Bool),(∀p∈cS,sp p.block=true)->(∀b,b<w.heap.size->aL.heap[b]?=w.heap[b]?)->DataW.Trod enc P aL 0 sp true t v d cS:=by
 obtain⟨fuel,O⟩:=h;obtain⟨⟨ds,aJ,X⟩,H,ab⟩:=alA n t S cv fuel _ _ O;refine⟨?_,H,λaL sp kt J=>⟨fuel,ab aL sp kt J⟩⟩
 have one:(∀cs,v ≠ .agg cs)->∀d,ds=[d]->Den w (λ_=>False) d v:=by
  intro aI d e;subst e;have:v.cells=#[v]:=by unfold Value.cells;split<;>simp_all
  rw[this] at X;exact X.2 0 d v rfl rfl
 cases n with
 |zero=>simp[q8] at cv
 |succ n =>
  unfold q8 at cv;unfold Value.okWide at hl
  split at cv
  ·rename_i hu
   cases cv;rw[hu] at hl;obtain⟨b,rfl⟩:=aJ;refine⟨_,⟨b,rfl⟩,one ?_ _ rfl⟩;rintro cs rfl;simp[Cell.okWide,Cell.ok,hu] at hl
  ·rename_i k hu
   cases cv;rw[hu] at hl;obtain⟨b,rfl,ad⟩:=aJ;refine⟨_,⟨b,rfl,ad⟩,one ?_ _ rfl⟩;rintro cs rfl;simp[Cell.okWide,Cell.ok,hu] at hl
  ·rename_i hu
   cases cv;rw[hu] at hl;obtain⟨b,rfl,ad⟩:=aJ;refine⟨_,⟨b,rfl,ad⟩,one ?_ _ rfl⟩;rintro cs rfl;simp[Cell.okWide,Cell.ok,hu] at hl
  ·rename_i e hu
   split at cv
   ·rw[dV] at cv;obtain⟨S,cv,rfl⟩:=cv;rw[hu] at hl;obtain⟨b,rfl,ad⟩:=aJ;refine⟨_,⟨b,rfl,ad⟩,one ?_ _ rfl⟩;rintro cs rfl;simp[Cell.okWide,Cell.ok,hu] at hl
   ·cases cv
  ·rename_i dj hu
   split at cv
   ·rw[dV] at cv;obtain⟨l,aq,rfl⟩:=cv;rw[hu] at hl;obtain⟨cs,rfl,-,-⟩:=hl;refine⟨.agg ds,⟨ds,rfl,aJ⟩,?_⟩;have:Den w (λ_=>False) (.agg ds) (.agg cs.toList.toArray):=.agg X.1 X.2
    simpa using this
   ·cases cv
  ·cases cv
theorem QD {n ra:Nat}:∀{r2:List TypeId} {schs:List pC} {vs:List Value} {ds:List (DataW hk)} {cS:List MemPlace},r2.mapM (q8 P n)=some schs->(∀(j:Nat) t v,r2[j]?=some t->vs[j]?=some v->Value.okWide P w .any ra t v) ->
  DataW.TrodAll enc P w 0 (λ_=>true) true r2 vs ds cS ->
  (∃rb,LD schs rb/\x9 w (λ_=>False) rb vs)/\(∀p∈cS,p.block<w.heap.size) /\
  ∀(aL:World) (sp:Nat->Bool),(∀p∈cS,sp p.block=true)->(∀b,b<w.heap.size->aL.heap[b]?=w.heap[b]?)->DataW.TrodAll enc P aL 0 sp true r2 vs ds cS
 | [],schs,vs,ds,cS,cv,hl,h=>by
  obtain⟨rfl,rfl,rfl⟩:=trodAll_nil h;simp at cv;subst cv;exact⟨⟨[],rfl,rfl,λi d v h=>by simp at h⟩,by simp,λ_ _ _ _=>rfl⟩
 |t::r2,schs,vs,ds,cS,cv,hl,h=>by
  obtain⟨v,alI,d,alJ,a,b,rfl,rfl,rfl,E,H⟩:=trodAll_cons h;rw[mn] at cv;simp only[gX,g5,ej,b8] at cv;obtain⟨S,alK,l,aq,rfl⟩:=cv;obtain⟨⟨bR,jM,alL⟩,nI,cF⟩:=alH alK (hl 0 t v rfl rfl) E;obtain⟨⟨rb,alM,alN⟩,nJ,dk⟩:=QD aq (λj alO Bf bI aI=>hl (j+1) alO Bf (by simpa using bI) (by simpa using aI)) H;refine⟨⟨bR::rb,⟨bR,rb,rfl,jM,alM⟩,alG alL alN⟩,λp aC=>?_,λaL sp kt J=>?_⟩
  ·rw[iw] at aC;exact aC.elim (nI p) (nJ p)
  ·exact trodAll_cons_mk (cF aL sp (λp aC=>kt p (iw.2 (.inl aC))) J) (dk aL sp (λp aC=>kt p (iw.2 (.inr aC))) J)
theorem alP {W re:World}(h:Fr (λ_=>False) W re)(may:MemPlace->Prop):W.keptBut re may:=by
 refine⟨h.os,h.output,λi L=>?_⟩;rw[h.block i L id]
 cases ad:W.heap[i]? with
 |none=>trivial
 |some o =>
  cases o with
  |cells c t ax=>exact⟨rfl,rfl,rfl,λ_ _=>rfl⟩
  |map es clock=>exact .inr ⟨rfl,rfl⟩
  |_=>rfl
theorem alQ {f:Func}{s:ChangeSpec}{apart fresh handsOn again:Bool}{W re:World}{args:Array Value}{ds gs:List (DataW hk)}{before:List MemPlace}{n ra:Nat}{schs:List pC}{HR:TypeId}
  (wC:DataW.Whole enc P f.params.toList s.vars apart W args.toList ds gs before) (aI:s.vars=[]) (cv:f.params.toList.mapM (q8 P n)=some schs)
  (hl:∀(j:Nat) t v,f.params[j]?=some t->args[j]?=some v->Value.okWide P W .any ra t v)
  (Y:f.resultTypes=#[HR]) (ad:P.underlying HR=some .bool) (kM:s.fn hk ds={ results:=[.lit (.bool true)],args:=ds }) (aJ:Fr (λ_=>False) W re) :
  s.post enc P f apart fresh handsOn again W args (.bool true) re:=by
 have QE:=wC;obtain⟨p,q,dh,qq,rfl,aR,aG⟩:=wC;rw[aI] at qq;obtain⟨rfl,rfl⟩:=trodVars_none qq;obtain⟨-,ao,J⟩:=QD cv (λj t v bI aI=>hl j t v (by simpa using bI) (by simpa using aI)) dh;have Z4:∀b,b<W.heap.size->re.heap[b]?=W.heap[b]?:=λb ad=>aJ.block b ad id
 have tB:∀(b:Nat) (sp:Nat->Bool) (X:Bool),DataW.TrodAll enc P re b sp X f.resultTypes.toList ((Value.bool true).resultList f.resultTypes.size) (s.fn hk (ds++[])).results []:=by
  intro b sp X;rw[hO,kM,Y];exact trodAll_cons_mk (shut_bool ad true) trodAll_mk0
 have py:∀sp:Nat->Bool,(∀x∈p,sp x.block=true)->DataW.TrodAll enc P re 0 sp true f.params.toList args.toList (s.fn hk (ds++[])).args p:=by
  intro sp kt;rw[hO,kM];exact J re sp kt Z4
 have Z5:∀sp:Nat->Bool,DataW.TrodVars enc P re sp s.vars (s.fn hk (ds++[])).vars []:=by
  intro sp;rw[aI,hO,kM]
  rfl
 refine⟨ds,[],p++[],[],p,[],QE,tB _ _ _,py _ (λx O=>by simpa using ao x O),Z5 _,alP aJ _,λ_=>⟨?_,_,_,([]++p)++[],⟨[]++p,[],trodAll_append (py _ (λ_ _=>rfl)) (tB _ _ _),Z5 _,rfl,?_,?_⟩,?_⟩⟩
 ·intro j t r E H;rw[Y] at E H
  cases j with
  |zero =>
   simp[Value.resultList] at E H;subst E H;exact okWide_bool_mk ad true
  |succ j=>simp at E
 ·intro b off aC;have Z6:MemPlace.cell b off∈p:=by simpa using aC
  have ad:=ao _ Z6;have ai:=aR b off (by simpa using Z6);unfold World.frozen? at ai ⊢;rw[Z4 b ad];exact ai
 ·intro aZ;have:=aG aZ
  simpa using this
 ·intro x O _
  simpa using O
theorem alR {f:FuncId}{fn:Func}{s:ChangeSpec}{apart fresh handsOn again:Bool}{aO:List Data->Option et}{n:Nat}{schs:List pC}{HR:TypeId}(aC:sg P f aO)(aI:s.vars=[])(cv:fn.params.toList.mapM (q8 P n)=some schs)
  (Y:fn.resultTypes=#[HR]) (ad:P.underlying HR=some .bool) (kM:∀ds:List (DataW hk),D ds=(D fn.params.toList)->s.fn hk ds={ results:=[.lit (.bool true)],args:=ds })
  {W:World} {base:Nat} {args:Array Value} {ds gs:List (DataW hk)} {before:List MemPlace}
  (e4:∀rb,LD schs rb->aO rb=some (.same (.bool true)))
  (hl:∀(j:Nat) t v,fn.params[j]?=some t->args[j]?=some v->Value.okWide P W .any base t v)
  (wC:DataW.Whole enc P fn.params.toList s.vars apart W args.toList ds gs before) :
  Calls P f args W λe re=>∃v,e=.returned v/\s.post enc P fn apart fresh handsOn again W args v re:=by
 have QE:=wC;obtain⟨p,q,dh,qq,rfl,aR,aG⟩:=wC;obtain⟨⟨rb,E,H⟩,-,-⟩:=QD cv (λj t v bI aI=>hl j t v (by simpa using bI) (by simpa using aI)) dh
 have hlen:(D ds)=D fn.params.toList:=by
  have:∀(r2:List TypeId) (vs:List Value) (ds:List (DataW hk)) (cS:List MemPlace),DataW.TrodAll enc P W 0 (λ_=>true) true r2 vs ds cS->(D ds)=D r2:=by
   intro r2
   induction r2 with
   |nil=>intro vs ds cS h;obtain⟨rfl,rfl,rfl⟩:=trodAll_nil h;rfl
   |cons t r aw=>intro vs ds cS h;obtain⟨v,alI,d,alJ,a,b,rfl,rfl,rfl,-,H⟩:=trodAll_cons h;simp[aw _ _ _ H]
  exact this _ _ _ _ dh
 have G:=aC.run rb _ (e4 rb E) (λ_=>False) W args.toList (λb ad=>ad.elim) H;have aZ:args.toList.toArray=args:=by simp
 rw[aZ] at G;refine G.mono λe re ⟨v,he,bK,X⟩=>⟨v,he,?_⟩
 have:v=.bool true:=by
  have oG:Den re (λ_=>False) (.bool true) v:=X
  cases oG
  rfl
 subst this;exact alQ QE aI cv hl Y ad (kM ds hlen) bK
theorem Z7 {α:Type}{l:List α}{n:Nat}(h:(D l)=n+1):∃d t,l=d::t/\D t=n:=by
 cases l with
 |nil=>simp at h
 |cons d t=>exact⟨d,t,rfl,by simpa using h⟩
theorem QF {α:Type}{e:α->List Data}{good:α->Prop}:∀{es:List (List Data)},(∀x∈es,∃a,x=e a/\good a)->∃l:List α,es=l.map e/\∀a∈l,good a
 | [],_=>⟨[],rfl,by simp⟩
 |x::r,h=>by
  obtain⟨a,rfl,aZ⟩:=h x (by simp);obtain⟨l,rfl,aq⟩:=QF (es:=r) λy ak=>h y (by simp[ak]);exact⟨a::l,rfl,λb ad=>(nM.1 ad).elim (λe=>e ▸ aZ) (aq b)⟩
end
end Go.Mini
namespace Go.Mini
open Go
def yf (x:M)(m:Mem):M->Mem->Prop:=λr mem'=>r=x/\mem'=m
@[go_sem high] theorem aBf {K:a2->Prop}(x:M)(m:Mem)(d:Option Nat)(st:a2):wq K (some (.rel (yf x m))) d st=K ⟨put st.tm d x,m⟩:=by
 rw[akd];apply propext;exact⟨λh=>h x m ⟨rfl,rfl⟩,λh r mem' ⟨aA,ay⟩=>by rw[aA,ay];exact h⟩
def zP (bz:List M->Mem->Option (M×Mem))(args:List M)(mem:Mem):Option gO:=(bz args mem).map λx => .rel (yf x.1 x.2)
@[go_sem] theorem aBg (bz:List M->Mem->Option (M×Mem))(args:List M)(mem:Mem):zP bz args mem=(bz args mem).map λx => .rel (yf x.1 x.2):=bl
structure HS (P:Program) (f:FuncId) (bz:List M->Mem->Option (M×Mem)):Prop where
 real:Real P f
 run:∀args mem x,bz args mem=some x->∀A w B vs,fj A w B mem->c0 w (cb A B) B args vs->P1 P f vs A w B mem (.rel (yf x.1 x.2))
def DR (res:List nz)(x:M)(m:Mem):er->a2->Prop
 |.exit _,_=>False
 |.normal,st=>oF st res=some x/\st.mem=m
 |.ret,st=>oF st res=some x/\st.mem=m
@[go_sem] theorem aBh {res:List nz}{st:a2}(x:M)(m:Mem)(id:Nat):DR res x m (.exit id) st=False:=bl
@[go_sem] theorem aBi {res:List nz}{st:a2}(x:M)(m:Mem):DR res x m .normal st=(oF st res=some x/\st.mem=m):=bl
@[go_sem] theorem aBj {res:List nz}{st:a2}(x:M)(m:Mem):DR res x m .ret st=(oF st res=some x/\st.mem=m):=bl
theorem Z8 {P : Program}{T : bk}{kb : Nat}{own : List Nat}(cz : qm P T)(hm : P.follows .mixedOrders = true){f : FuncId}{fn : Func}{mf : b5}(aJ : P.funcs[f]? = some fn)(uX : (fn.name == "runtime.NumGoroutine") = false)(aT : rY P kb own fn = some { mf with body := erase mf.body })
  {bz:List M->Mem->Option (M×Mem)} (h:∀args mem x,bz args mem=some x->(D args)<=mf.n/\wp T mf.body (DR mf.res x.1 x.2) ⟨mj args,mem⟩):HS P f bz:=by
 refine⟨?_,λargs mem x mx A w B vs bO aI=>?_⟩
 ·cases ad:fn.body with
  |none=>simp[rY,ad] at aT
  |some c=>exact⟨fn,c,aJ,ad,uX⟩
 ·obtain⟨hlen,yb⟩:=h args mem x mx;refine Calls.mono (HJ (Post:=yf x.1 x.2) cz hm aJ aT hlen (λe st J=>?_) yb bO aI) λe aL he=>?_
  ·cases e with
   |exit id=>exact J
   |normal=>exact⟨_,J.1,rfl,J.2⟩
   |ret=>exact⟨_,J.1,rfl,J.2⟩
  ·obtain⟨v,m,mem',bo,rfl,Q,q1,aC⟩:=he;exact⟨v,m,mem',bo,rfl,Q,q1,aC⟩
def LF:Option (M×Mem)->Option gO->Option gO
 |some x,_=>some (.rel (yf x.1 x.2))
 |none,e=>e
@[go_sem] theorem aBk (x:M×Mem)(e:Option gO):LF (some x) e=some (.rel (yf x.1 x.2)):=bl
@[go_sem] theorem aBl (e:Option gO):LF none e=e:=bl
def yg (aO:List Data->Option et)(bz:List M->Mem->Option (M×Mem))(args:List M)(mem:Mem):Option gO:=LF (bz args mem) (aX aO args mem)
@[go_sem] theorem aBm (aO:List Data->Option et)(bz:List M->Mem->Option (M×Mem))(args:List M)(mem:Mem):yg aO bz args mem=LF (bz args mem) (aX aO args mem):=bl
open Classical in
def DS {α:Type}(a5:α->List M->Mem->Prop)(res:α->Mem->M×Mem):List M->Mem->Option (M×Mem):=λargs mem=>if h:∃a,a5 a args mem then some (res (yc h) mem) else none
theorem Z9 {α:Type}{a5:α->List M->Mem->Prop}{res:α->Mem->M×Mem}(uniq:∀a b args mem,a5 a args mem->a5 b args mem->res a mem=res b mem){a:α}{args:List M}{mem:Mem}(h:a5 a args mem):DS a5 res args mem=some (res a mem):=by
 have O:∃b,a5 b args mem:=⟨a,h⟩;unfold DS;rw[dif_pos O,uniq _ _ _ _ (oQ O) h]
theorem QG {α:Type}{a5:α->List M->Mem->Prop}{res:α->Mem->M×Mem}{args:List M}{mem:Mem}{x:M×Mem}(h:DS a5 res args mem=some x):∃a,a5 a args mem/\x=res a mem:=by
 unfold DS at h
 split at h
 ·rename_i O;exact⟨_,oQ O,(m4 h).symm⟩
 ·cases h
def wD:Nat->Nat->List Int
 |0,_=>[]
 |f+1,n=>if n=0 then [] else ((n%1048576:Nat):Int)::wD f (n/1048576)
def aD (n:Nat):List Int:=wD n n
def a1:List Int->Int
 | []=>0
 |d::r=>d+1048576*a1 r
theorem sj (d:Int)(r:List Int):a1 (d::r)=d+1048576*a1 r:=rfl
def en (l:List Int):Prop:=∀d∈l,0<=d/\d<1048576
def fk:List Int->List Int
 | []=>[]
 |d::r=>if fk r=[] then (if d=0 then [] else [d]) else d::fk r
def af (n:Int):List Data:=[.int .i64 n]
theorem hF (b:Int):(af b).length=1:=rfl
theorem wE (b:Int):((af b).map M.I).all M.one=true:=rfl
theorem gY:∀a b:Int,af a=af b->a=b:=by intro a b h;simpa [af] using h
theorem alS:∀(f g n:Nat),n<=f->n<=g->wD f n=wD g n:=by
 intro f
 induction f with
 |zero =>
      intro g n h _;obtain rfl:n=0:=by omega
      cases g<;>simp[wD]
 |succ f aw =>
  intro g n E H
  cases g with
  |zero =>
       obtain rfl:n=0:=by omega
       simp[wD]
  |succ g =>
   unfold wD
   by_cases aG:n=0
   ·rw[Z aG,Z aG]
   ·rw[aa aG,aa aG,aw g (n/1048576) (by omega) (by omega)]
theorem rf:aD 0=[]:=rfl
theorem tE {n:Nat}(h:0<n):aD n=((n%1048576:Nat):Int)::aD (n/1048576):=by
 unfold aD;obtain⟨k,rfl⟩:∃k,n=k+1:=⟨n-1,by omega⟩
 conv=>lhs;unfold wD
 rw[aa (by omega),alS k ((k+1)/1048576) _ (by omega) (by omega)]
theorem kQ (n:Nat):a1 (aD n)=n:=by
 induction n using Ql with
 |_ n aw =>
  rcases iU n with rfl|h
  ·rfl
  ·rw[tE h];unfold a1;rw[aw _ (by omega)];omega
theorem HT {a b:Nat}(h:aD a=aD b):a=b:=by
 have:=congrArg a1 h;rw[kQ,kQ] at this;omega
theorem lW (n:Nat):en (aD n):=by
 induction n using Ql with
 |_ n aw =>
  rcases iU n with rfl|h
  ·intro d X;cases X
  ·rw[tE h];intro d X;rcases nM.1 X with rfl|X
   ·omega
   ·exact aw _ (by omega) d X
theorem yh {n:Nat}:aD n=[]↔n=0:=by
 constructor
 ·intro h;exact HT (b:=0) h
 ·rintro rfl;rfl
theorem od {l:List Int}(h:en l):0<=a1 l:=by
 induction l with
 |nil=>exact Int.le_refl _
 |cons d r aw =>
  have E:=h d (by simp);have H:=aw λx O=>h x (by simp[O]);unfold a1;omega
theorem Bu {d:Int}{r:List Int}:en (d::r)↔(0<=d/\d<1048576)/\en r :=
 ⟨λh=>⟨h d (by simp),λx O=>h x (by simp[O])⟩,λh x O=>(nM.1 O).elim (λe=>e ▸ h.1) (h.2 x)⟩
theorem Bv {a b:List Int}:en (a++b)↔en a/\en b :=
 ⟨λh=>⟨λx O=>h x (by simp[O]),λx O=>h x (by simp[O])⟩,λh x O=>(iw.1 O).elim (h.1 x) (h.2 x)⟩
theorem Bw (a b:List Int):a1 (a++b)=a1 a+1048576^(D a)*a1 b:=by
 induction a with
 |nil=>simp[a1]
 |cons d r aw =>
  simp only[lz,a1,aw,kJ,my];rw[hP]
  have:(1048576:Int)*(1048576^(D r)*a1 b)=1048576^(D r)*1048576*a1 b:=by
   rw[mz (1048576^(D r)) 1048576,hQ]
  omega
theorem yi {l:List Int}(h:en l):a1 l<1048576^(D l):=by
 induction l with
 |nil=>simp[a1]
 |cons d r aw =>
  rw[Bu] at h;have H:=aw h.2;simp only[a1,kJ,my];omega
theorem aaa (l:List Int):fk (l++[0])=fk l:=by
 induction l with
 |nil=>simp[fk]
 |cons d r aw=>simp only[lz,fk,aw]
theorem aab (l:List Int){d:Int}(h:d≠0):fk (l++[d])=l++[d]:=by
 induction l with
 |nil=>simp[fk,h]
 |cons x r aw=>simp only[lz,fk,aw];simp
theorem yj {l:List Int}(h:en l):fk l=aD (a1 l).toNat:=by
 induction l with
 |nil=>rfl
 |cons d r aw =>
  rw[Bu] at h;have Y:=aw h.2;have aI:=od h.2;unfold fk;rw[Y,sj]
  by_cases aR:a1 r=0
  ·rw[aR]
   by_cases X:d=0
   ·simp[X,rf]
   ·rw[Z (by rfl),aa X];rw[tE (by omega)];rw[show (d+1048576*0).toNat/1048576=0 by omega,rf]
    congr 1
    omega
  ·rw[aa (by rw[yh];omega)];rw[tE (n:=(d+1048576*a1 r).toNat) (by omega)]
   congr 1
   ·omega
   ·congr 1;omega
theorem aac (n:Nat):fk (aD n)=aD n:=by
 rw[yj (lW n),kQ];simp
theorem canon {l:List Int}(h:en l)(aq:l.getLast?≠some 0):l=aD (a1 l).toNat:=by
 rw[<-yj h];rcases DT l with rfl|⟨r,d,rfl⟩
 ·rfl
 ·rw[DU] at aq ⊢;rw[aab];rintro rfl;simp at aq
theorem aad (n:Nat):(aD n).getLast?≠some 0:=by
 intro h
 obtain⟨r,Y⟩:∃r,aD n=r++[0]:=by
  rcases DT (aD n) with e|⟨r,d,e⟩
  ·rw[e] at h;cases h
  ·rw[DU] at e;rw[e] at h;simp at h;subst h;exact⟨r,e⟩
 have E:=aac n;rw[Y,aaa] at E
 have H:(fk r).length<=D r:=by
  clear E Y h
  induction r with
  |nil=>simp[fk]
  |cons d r aw=>unfold fk;split<;>(try split)<;>simp<;>omega
 rw[E] at H;simp at H;omega
theorem gA {n k:Nat}:(aD n).length<=k↔n<1048576^k:=by
 induction k generalizing n with
 |zero =>
      rw[Nat.pow_zero];constructor
      ·intro h;have:=r5 (Nat.le_zero.1 h);rw[yh] at this;omega
      ·intro h;obtain rfl:n=0:=by omega
       simp[rf]
 |succ k aw =>
  rcases iU n with rfl|h
  ·simp[rf];exact DV (by simp)
  ·rw[tE h,kJ,uZ];have:=aw (n:=n/1048576);rw[Nat.add_le_add_iff_right,this];rw[aae (by omega)]
theorem Bx {n:Nat}(h:0<n)(E:n<1048576):aD n=[(n:Int)]:=by
 rw[tE h,Qx E,HQ E];rfl
theorem HU (l:List Int)(i:Nat):a1 l=a1 (l.take i)+1048576^(min i (D l))*a1 (l.drop i):=by
 conv=>lhs;rw[<-zN i l]
 rw[Bw,g7]
theorem yk (n:Int)(h:0<=n/\n<18446744073709551616):IntKind.u64.wrap n=n:=by
 simp[IntKind.wrap,IntKind.bits,IntKind.signed];omega
theorem qs (n:Int):bits .and .i64 n 1048575=n%1048576:=by
 have H:(1048575:Int)=((2^20-1:Nat):Int):=by decide
 have E:n%18446744073709551616%1048576=n%1048576:=by omega
 obtain⟨a,aZ⟩:∃a:Nat,(a:Int)=n%18446744073709551616:=⟨(n%18446744073709551616).toNat,by omega⟩
 have e:BitVec.ofInt 64 n=BitVec.ofNat 64 a:=by
  apply BitVec.eq_of_toInt_eq;rw[BitVec.toInt_ofInt,BitVec.toInt_ofNat',aZ];simp[aaf,aag]
 have ay:bits .and .i64 n 1048575=bits .and .i64 (a:Int) 1048575:=by
  simp only[bits];rw[show IntKind.i64.bits=64 from rfl,e,BitVec.ofInt_natCast]
 rw[ay,<-E,<-aZ,H];have QH:a<2^64:=by omega
 simp only[bits,BitVec.ofInt_natCast,BitVec.toNat_and,BitVec.toNat_ofNat,show IntKind.i64.bits=64 from rfl,HQ QH];rw[show (2^20-1:Nat)%2^64=2^20-1 by decide,aah,wrap64 _ (by omega) (by omega)]
 omega
theorem aai (n:Int)(h:0<=n/\n<18446744073709551616):bits .and .u64 n 1048575=n%1048576:=by
 have:=bits_mask .u64 64 (by decide) (λn E H=>yk n ⟨E,by omega⟩) 20 (by decide) n h.1 (by omega)
 simpa using this
theorem QI (x y:Int)(O:0<=x)(lB:x<8796093022208)(ak:0<=y/\y<1048576):bits .or .i64 (x*1048576) y=x*1048576+y:=by
 refine bits_join .i64 63 (by decide) (λn E H=>wrap64 n (by omega) (by omega)) 20 _ _ (by omega) (by omega) (by omega) ak.1 (by omega) (by omega)
theorem alT (n:Int):n.fdiv (2^20)=n/1048576:=by
 rw[Int.fdiv_eq_ediv_of_nonneg _ (by decide)];rfl
theorem nO (n:Int):n.fdiv (2^min (Bz 20) 64)=n/1048576:=alT n
def QJ:FuncId:=183
def QK:FuncId:=164
def m6:FuncId:=42
def zQ:FuncId:=28
def QL:FuncId:=15
def QM:FuncId:=23
def mA:FuncId:=196
def QN:FuncId:=197
def zR:FuncId:=198
def QO:FuncId:=142
def QP:FuncId:=184
def BA:FuncId:=94
def QQ:FuncId:=163
def tF:FuncId:=37
def u0:FuncId:=135
def qt:FuncId:=24
def j4:FuncId:=81
def HW:FuncId:=82
def QR:FuncId:=83
def QS:FuncId:=56
def tG:FuncId:=57
def BB:FuncId:=58
def LG:FuncId:=32
def QT:FuncId:=40
def LH:FuncId:=41
def QU:FuncId:=203
def QV:FuncId:=166
def LI:FuncId:=199
def QW:FuncId:=200
def HX:FuncId:=116
def LJ:FuncId:=136
def QX:FuncId:=182
def DW:FuncId:=70
def BC:FuncId:=43
def QY:FuncId:=44
def tH:FuncId:=114
def wF:FuncId:=109
def HY:FuncId:=84
def oe:FuncId:=85
def QZ:FuncId:=128
def Q0:FuncId:=113
def DX:FuncId:=115
def tI:FuncId:=76
def LK:FuncId:=77
def Q1:FuncId:=78
def LL:FuncId:=79
def tJ:FuncId:=80
def HZ:FuncId:=204
def zS:FuncId:=205
def BD:FuncId:=139
def alU:FuncId:=194
def Q2:FuncId:=195
def H0:FuncId:=86
def DY:FuncId:=87
def DZ:FuncId:=88
def BE:FuncId:=89
def LM:FuncId:=129
def pE:FuncId:=130
def Q3:FuncId:=131
def Q4:FuncId:=151
def H2:FuncId:=124
def Q5:FuncId:=125
def H3:FuncId:=126
def sk:FuncId:=127
def LN:FuncId:=132
def LO:FuncId:=161
def H4:FuncId:=122
def sl:FuncId:=162
def BF:FuncId:=26
def Q6:FuncId:=45
def Q7:FuncId:=46
def LP:FuncId:=47
def og:FuncId:=48
def BG:FuncId:=49
def H5:FuncId:=50
def Q8:FuncId:=51
def u1:FuncId:=900234
def Q9:FuncId:=138
def wG:FuncId:=137
def tK:FuncId:=90
def H6:FuncId:=91
def H7:FuncId:=92
def H8:FuncId:=68
def H9:FuncId:=69
def Ra:FuncId:=93
def Rb:FuncId:=95
def aaj:FuncId:=900250
def aak:FuncId:=900252
def D0:FuncId:=165
def Rc:FuncId:=119
def LQ:FuncId:=133
def Rd:FuncId:=134
def alV:FuncId:=4
def Re:FuncId:=7
def Rf:FuncId:=8
def Rg:FuncId:=9
def BH:FuncId:=10
def Ia:FuncId:=12
def yl:FuncId:=16
def BI:FuncId:=18
def Ib:FuncId:=20
def D3:FuncId:=25
def BJ:FuncId:=29
def rh:FuncId:=31
def Rh:FuncId:=33
def Ic:FuncId:=34
def Ri:FuncId:=59
def wH:FuncId:=66
def Ie:FuncId:=67
abbrev F (a b:Nat):cB:=⟨some a,none,.cn (.t b)⟩
abbrev aN (a n b:Nat):cB:=⟨some a,none,.load n false (.t b)⟩
abbrev bp (a n b:Nat):cB:=⟨some a,none,.load n true (.t b)⟩
abbrev aW (a n b:Nat):cB:=⟨some a,none,.eX n (.t b)⟩
abbrev ba (n a b:Nat):cB:=⟨none,none,.store n (.t a) (.t b)⟩
abbrev bs (a:Nat)(n:Int):cB:=⟨some a,none,.cn (.c (.I (.int .i64 n)))⟩
abbrev bt (a n b:Nat):cB:=⟨some a,none,.ext n (.t b)⟩
abbrev bX (a n b c:Nat):cB:=⟨some a,none,.jF n (.t b) (.t c)⟩
abbrev cp (a b:Nat):cB:=⟨some a,none,.len (.t b)⟩
abbrev du (a:Nat)(b:Bool):cB:=⟨some a,none,.cn (.c (.I (.bool b)))⟩
abbrev eD (a:Nat):cB:=⟨some a,none,.cn (.c .nil)⟩
abbrev bC (a:Nat)(o:BinOp)(b c:Nat):cB:=⟨some a,none,.bin o (.t b) (.t c)⟩
abbrev bg (a:Nat)(o:BinOp)(b:Nat)(n:Int):cB:=⟨some a,none,.bin o (.t b) (.c (.I (.int .i64 n)))⟩
abbrev eo (a b c:Nat):cB:=⟨some a,none,.pick (.t b) (.c (.I (.bool true))) (.t c)⟩
abbrev gg (a b c:Nat):cB:=⟨some a,none,.pick (.t b) (.t c) (.c (.I (.bool false)))⟩
abbrev dW (a k b:Nat):cB:=⟨some a,none,.box k (.t b)⟩
abbrev gL (a b:Nat):cB:=⟨some a,none,.qW (.t b)⟩
abbrev gv (a b:Nat):cB:=⟨some a,none,.un .not (.t b)⟩
abbrev ah (n:Int):M:=.I (.int .i64 n)
abbrev dP (a:Nat)(f:FuncId)(x:Nat):cB:=⟨some a,none,.call f [.t x]⟩
abbrev cj (a:Nat)(f:FuncId)(x y:Nat):cB:=⟨some a,none,.call f [.t x,.t y]⟩
abbrev aal (a:Nat)(f:FuncId)(x y z:Nat):cB:=⟨some a,none,.call f [.t x,.t y,.t z]⟩
abbrev Ig (a:Nat)(f:FuncId)(x y z u:Nat):cB:=⟨some a,none,.call f [.t x,.t y,.t z,.t u]⟩
abbrev az (a:Nat)(o:jo):cB:=⟨some a,none,o⟩
abbrev cx (n m:Nat)(r:List nz)(b:dY):b5:=⟨n,m,r,b⟩
abbrev a6 (n:Nat)(a b:dY):dY:=.cond (.t n) a b
abbrev R (l:List cB)(c:dY):dY:=.seq (.ops l) c
abbrev fs (l:List cB)(x:List (List Nat))(c:dY):dY:=.seq (.m1 l x) c
abbrev aam:List (List Nat):=[[],[],[],[],[],[]]
abbrev alW:List (List Nat):=[[],[],[],[],[],[],[]]
abbrev aan:List (List Nat):=[[],[],[],[],[],[],[],[]]
abbrev Rj:List (List Nat):=[[],[],[],[],[],[],[],[],[]]
abbrev Ih:List (List Nat):=[[],[],[],[],[],[],[],[],[],[]]
abbrev D4:List (List Nat):=[[],[],[],[],[],[],[],[],[],[],[]]
abbrev aao:List (List Nat):=[[],[],[],[],[],[],[],[],[],[],[],[]]
abbrev LR:List (List Nat):=[[],[],[],[],[],[],[],[],[],[],[],[],[]]
abbrev Ii:List (List Nat):=[[],[],[],[],[],[],[],[],[],[],[],[],[],[]]
abbrev Ij:List (List Nat):=[[],[],[],[],[],[],[],[],[],[],[],[],[],[],[],[]]
abbrev aap:List (List Nat):=[[],[],[],[],[],[],[],[],[],[],[],[],[],[],[],[],[]]
abbrev alX:List (List Nat):=[[],[],[],[],[],[],[],[],[],[],[],[],[],[],[],[],[],[]]
abbrev alY:List (List Nat):=[[],[],[],[],[],[],[],[],[],[],[],[],[],[],[],[],[],[],[],[]]
abbrev alZ:List (List Nat):=[[],[],[],[],[],[],[],[],[],[],[],[],[],[],[],[],[],[],[],[],[],[],[],[],[],[]]
abbrev al0:List (List Nat):=[[],[],[],[],[],[],[],[],[],[],[],[],[],[],[],[],[],[],[],[],[],[],[],[],[],[],[],[]]
abbrev al1:List (List Nat):=[[],[],[],[],[],[],[],[],[],[],[],[],[],[],[],[],[],[],[],[],[],[],[],[],[],[],[],[],[],[]]
def Rk:b5:=cx 49 1 [.t 2] (R [dW 1 136001 0,du 2 false] (R [aW 6 1 1,aN 7 1 6,cp 8 7,F 3 8] (.seq (R [aW 9 1 1,aN 10 1 9,cp 11 10,bs 12 0] (.block 0 (.loop  (R [bC 13 .lss 12 11] (.seq (a6 13 .skip (.exit 0)) (.seq (.block 1 (R [bX 14 1 10 12,aN 15 1 14,F 5 15] (R [F 16 5,bg 17 .lss 16 0,F 18 17,⟨some 19,some (18,false),.cn (.t 5)⟩,⟨some 20,some (18,false),.bin .gtr (.t 19) (.c (ah 1048575))⟩,eo 21 18 20] (a6 21 (R [du 2 false] .ret) .skip)))) (.ops [bg 22 .add 12 1,F 12 22]))))))) (.seq (R [F 23 3,bg 24 .eql 23 0] (a6 24 (R [aW 25 0 1,aN 26 1 25,bg 27 .eql 26 0,F 2 27] .ret) .skip)) (R [aW 28 0 1,aN 29 1 28,bg 30 .eql 29 1,F 31 30,⟨some 32,some (31,false),.eX 0 (.t 1)⟩,⟨some 33,some (31,false),.load 1 false (.t 32)⟩,⟨some 34,some (31,false),.bin .eql (.t 33) (.c (.I (.int .i64 (-1))))⟩,eo 35 31 34,F 36 35,⟨some 37,some (36,true),.cn (.t 3)⟩,⟨some 38,some (36,true),.bin .leq (.t 37) (.c (ah 60))⟩,gg 39 36 38,F 40 39,⟨some 41,some (40,true),.eX 1 (.t 1)⟩,⟨some 42,some (40,true),.load 1 false (.t 41)⟩,⟨some 43,some (40,true),.cn (.t 3)⟩,⟨some 44,some (40,true),.bin .sub (.t 43) (.c (ah 1))⟩,⟨some 45,some (40,true),.jF 1 (.t 42) (.t 44)⟩,⟨some 46,some (40,true),.load 1 false (.t 45)⟩,⟨some 47,some (40,true),.bin .neq (.t 46) (.c (ah 0))⟩,gg 48 40 47,F 2 48] .ret)))))
def Rl:b5:=cx 44 2 [.cell 4 2 true,.t 5] (R [dW 2 137002 0,dW 3 137003 1,(az 4 (.alloc 137004 [(ah 0),.nil])),bs 5 0] (.seq (R [bp 10 2 2,(dP 11 j4 10),gv 12 11,F 13 12,⟨some 14,some (13,false),.load 2 true (.t 3)⟩,⟨some 15,some (13,false),.call j4 [(.t 14)]⟩,⟨some 16,some (13,false),.un .not (.t 15)⟩,eo 17 13 16] (a6 17 (R [(az 18 (.build [(ah 0),.nil] [])),(az 19 (.call tH [(.c (.I (.bool false))),(.t 18)])),bt 20 0 19,bt 21 1 19,ba 2 4 20,F 5 21] .ret) .skip)) (fs [aW 22 1 2,aN 23 1 22,(dP 24 wF 23),aW 25 1 3,aN 26 1 25,F 6 24,F 7 26] alW (.seq (.block 0 (.loop  (.seq (R [F 27 7,cp 28 27,bg 29 .gtr 28 0] (a6 29 .skip (.exit 0))) (.block 1 (R [F 31 6,F 32 7,(cj 33 HY 31 32),F 30 33,bt 34 0 30,bt 35 1 30,F 8 34,F 9 35] (.ops [F 36 7,F 37 9,F 6 36,F 7 37])))))) (R [F 38 6,(dP 39 wF 38),(az 40 (.call oe [(.c (ah 1)),(.t 39)])),(az 41 (.call tH [(.c (.I (.bool true))),(.t 40)])),bt 42 0 41,bt 43 1 41,ba 2 4 42,F 5 43] .ret)))))
def Rm:b5:=cx 32 2 [.cell 4 2 true,.t 5] (R [dW 2 140002 0,dW 3 140003 1,(az 4 (.alloc 140004 [(ah 0),.nil])),bs 5 0] (.seq (R [bp 6 2 2,(dP 7 j4 6),gv 8 7,F 9 8,⟨some 10,some (9,false),.load 2 true (.t 3)⟩,⟨some 11,some (9,false),.call j4 [(.t 10)]⟩,⟨some 12,some (9,false),.un .not (.t 11)⟩,eo 13 9 12] (a6 13 (R [(az 14 (.build [(ah 0),.nil] [])),(az 15 (.call tH [(.c (.I (.bool false))),(.t 14)])),bt 16 0 15,bt 17 1 15,ba 2 4 16,F 5 17] .ret) .skip)) (fs [aW 18 0 2,aN 19 1 18,aW 20 0 3,aN 21 1 20,bC 22 .mul 19 21,aW 23 1 2,aN 24 1 23,aW 25 1 3,aN 26 1 25,(cj 27 DX 24 26),(cj 28 oe 22 27),(az 29 (.call tH [(.c (.I (.bool true))),(.t 28)])),bt 30 0 29,bt 31 1 29,ba 2 4 30,F 5 31] Ij .ret)))
def Rn:b5:=cx 25 1 [.cell 2 2 true] (R [(az 2 (.alloc 150002 [(ah 0),.nil]))] (R [F 6 0,(az 7 (.conv .u64 (.t 6))),bs 3 1,F 4 7] (.seq (R [F 8 0,bg 9 .lss 8 0] (a6 9 (.ops [F 10 4,(az 11 (.un .neg (.t 10))),(az 3 (.cn (.c (.I (.int .i64 (-1)))))),F 4 11]) .skip)) (R [eD 5] (.seq (.block 0 (.ghost (.po 5 150021 1) (.loop  (.seq (R [F 12 4,(az 13 (.bin .gtr (.t 12) (.c (.I (.int .u64 0)))))] (a6 13 .skip (.exit 0))) (.seq (.block 1 (.ops [F 16 5,F 17 4,(az 18 (.bin .and (.t 17) (.c (.I (.int .u64 1048575))))),(az 19 (.conv .i64 (.t 18))),(az 20 (.e7 150020 false [(ah 0)] 1 1 [(0,1,(.t 19))])),(az 21 (.app 150021 [(ah 0)] 8 (.t 16) (.t 20))),F 5 21])) (.ops [F 14 4,(az 15 (.bin .shr (.t 14) (.c (.I (.int .u64 20))))),F 4 15])))))) (.seq (.ghost (.freeze 5) (.ops [F 22 3,F 23 5,(cj 24 oe 22 23),ba 2 2 24])) .ret))))))
def Ro:b5:=cx 14 1 [.cell 2 2 true] (R [dW 1 152001 0,(az 2 (.alloc 152002 [(ah 0),.nil]))] (.seq (R [bp 3 2 1,(dP 4 j4 3),gv 5 4] (a6 5 (R [(az 6 (.build [(ah 0),.nil] [])),ba 2 2 6] .ret) .skip)) (fs [aW 7 0 1,aN 8 1 7,(az 9 (.un .neg (.t 8))),aW 10 1 1,aN 11 1 10,(dP 12 wF 11),(cj 13 oe 9 12),ba 2 2 13] aan .ret)))
def Rp:b5:=cx 67 2 [.cell 4 2 true,.cell 5 2 true,.t 6] (R [dW 2 153002 0,dW 3 153003 1,(az 4 (.alloc 153004 [(ah 0),.nil])),(az 5 (.alloc 153005 [(ah 0),.nil])),bs 6 0] (.seq (.block 0 (R [bp 10 2 2,(dP 11 j4 10),gv 12 11,F 13 12,⟨some 14,some (13,false),.load 2 true (.t 3)⟩,⟨some 15,some (13,false),.call j4 [(.t 14)]⟩,⟨some 16,some (13,false),.un .not (.t 15)⟩,eo 17 13 16,F 9 17] (a6 9 (R [(az 18 (.build [(ah 0),.nil] [])),(az 19 (.build [(ah 0),.nil] [])),ba 2 4 18,ba 2 5 19,bs 6 1] .ret) (R [aW 21 0 3,aN 22 1 21,bg 23 .eql 22 0,F 20 23] (a6 20 (R [(az 24 (.build [(ah 0),.nil] [])),(az 25 (.build [(ah 0),.nil] [])),ba 2 4 24,ba 2 5 25,bs 6 15] .ret) .skip))))) (R [aW 27 1 2,aN 28 1 27,aW 29 1 3,aN 30 1 29,(cj 31 HY 28 30),F 26 31,bt 32 0 26,bt 33 1 26,F 7 32,F 8 33] (.seq (R [aW 34 0 2,aN 35 1 34,aW 36 0 3,aN 37 1 36,bC 38 .mul 35 37,bg 39 .lss 38 0,F 40 39,⟨some 41,some (40,true),.cn (.t 8)⟩,⟨some 42,some (40,true),.len (.t 41)⟩,⟨some 43,some (40,true),.bin .gtr (.t 42) (.c (ah 0))⟩,gg 44 40 43] (a6 44 (fs [F 45 7,(az 46 (.e7 153046 false [(ah 0)] 1 1 [(0,1,(.c (ah 1)))])),(cj 47 H0 45 46),(az 48 (.call oe [(.c (.I (.int .i64 (-1)))),(.t 47)])),aW 49 0 3,aN 50 1 49,aW 51 1 3,aN 52 1 51,F 53 8,(cj 54 DY 52 53),(cj 55 oe 50 54),ba 2 4 48,ba 2 5 55,bs 6 0] Ii .ret) .skip)) (fs [aW 56 0 2,aN 57 1 56,aW 58 0 3,aN 59 1 58,bC 60 .mul 57 59,F 61 7,(cj 62 oe 60 61),aW 63 0 2,aN 64 1 63,F 65 8,(cj 66 oe 64 65),ba 2 4 62,ba 2 5 66,bs 6 0] Ii .ret)))))
def Rq:b5:=cx 31 2 [.t 4] (R [dW 2 154002 0,dW 3 154003 1,bs 4 0] (.seq (R [bp 5 2 2,(dP 6 j4 5),gv 7 6,F 8 7,⟨some 9,some (8,false),.load 2 true (.t 3)⟩,⟨some 10,some (8,false),.call j4 [(.t 9)]⟩,⟨some 11,some (8,false),.un .not (.t 10)⟩,eo 12 8 11] (a6 12 (R [bs 4 0] .ret) .skip)) (.seq (R [aW 13 0 2,aN 14 1 13,aW 15 0 3,aN 16 1 15,bC 17 .neq 14 16] (a6 17 (R [aW 18 0 2,aN 19 1 18,aW 20 0 3,aN 21 1 20,(cj 22 DZ 19 21),F 4 22] .ret) .skip)) (fs [aW 23 0 2,aN 24 1 23,aW 25 1 2,aN 26 1 25,aW 27 1 3,aN 28 1 27,(cj 29 BE 26 28),bC 30 .mul 24 29,F 4 30] Rj .ret))))
def Rr:b5:=cx 17 2 [.cell 4 2 true,.t 5] (R [dW 3 155003 1,(az 4 (.alloc 155004 [(ah 0),.nil])),bs 5 0] (.seq (.block 0 (R [F 7 0,gv 8 7,F 6 8] (a6 6 (R [(az 9 (.build [(ah 0),.nil] [])),ba 2 4 9,bs 5 1] .ret) (R [aW 11 1 3,aN 12 1 11,cp 13 12,bg 14 .gtr 13 60,F 10 14] (a6 10 (R [(az 15 (.build [(ah 0),.nil] [])),ba 2 4 15,bs 5 6] .ret) .skip))))) (R [bp 16 2 3,ba 2 4 16,bs 5 0] .ret)))
def Rs:b5:=cx 170 2 [.t 4,.t 5] (R [eD 4,eD 5] (.seq (R [F 19 0,F 20 1,(cj 21 BE 19 20),bg 22 .lss 21 0] (a6 22 (R [F 23 0,(dP 24 wF 23),eD 4,F 5 24] .ret) .skip)) (.seq (R [F 25 1,cp 26 25,bg 27 .eql 26 1] (a6 27 (R [F 29 0,F 30 1,(az 31 (.jF 1 (.t 30) (.c (ah 0)))),aN 32 1 31,(cj 33 LM 29 32),F 28 33,bt 34 0 28,bt 35 1 28,F 6 34,F 7 35] (R [F 36 6,F 37 7,(az 38 (.e7 157038 false [(ah 0)] 1 1 [(0,1,(.t 37))])),(dP 39 pE 38),F 4 36,F 5 39] .ret)) .skip)) (R [bs 8 1] (.seq (.block 0 (.loop  (.seq (R [F 40 1,F 41 1,cp 42 41,bg 43 .sub 42 1,bX 44 1 40 43,aN 45 1 44,F 46 8,bC 47 .mul 45 46,bg 48 .lss 47 524288] (a6 48 .skip (.exit 0))) (.block 1 (.ops [F 49 8,bg 50 .mul 49 2,F 8 50]))))) (R [F 51 0,F 52 8,(az 53 (.e7 157053 false [(ah 0)] 1 1 [(0,1,(.t 52))])),(az 54 (.m0 157054 1 DX [(.t 51),(.t 53)])),(az 55 (.e7 157055 false [(ah 0)] 1 1 [(0,1,(.c (ah 0)))])),(az 56 (.app 157056 [(ah 0)] 8 (.t 54) (.t 55))),F 57 1,F 58 8,(az 59 (.e7 157059 false [(ah 0)] 1 1 [(0,1,(.t 58))])),(cj 60 DX 57 59),F 9 56,F 10 60] (.seq (R [F 61 9,cp 62 61,F 63 0,cp 64 63,bC 65 .eql 62 64] (a6 65 (.ops [F 66 9,(az 67 (.e7 157067 false [(ah 0)] 1 1 [(0,1,(.c (ah 0)))])),(az 68 (.app 157068 [(ah 0)] 8 (.t 66) (.t 67))),F 9 68]) .skip)) (R [F 69 10,cp 70 69,F 11 70] (R [F 71 9,cp 72 71,F 73 11,bC 74 .sub 72 73,(az 75 (.lj 157075 [(ah 0)] 8 (.t 74) (.t 74))),F 12 75] (.seq (R [F 76 12,cp 77 76,bg 78 .sub 77 1,F 13 78] (.block 2 (.loop  (.seq (R [F 79 13,bg 80 .geq 79 0] (a6 80 .skip (.exit 2))) (.seq (.block 3 (fs [F 83 9,F 84 13,F 85 11,bC 86 .add 84 85,bX 87 1 83 86,aN 88 1 87,(az 89 (.bin .shl (.t 88) (.c (.I (.int .u64 20))))),F 90 9,F 91 13,F 92 11,bC 93 .add 91 92,bg 94 .sub 93 1,bX 95 1 90 94,aN 96 1 95,bC 97 .or 89 96,F 14 97] Ij (fs [F 98 14,F 99 10,F 100 11,bg 101 .sub 100 1,bX 102 1 99 101,aN 103 1 102,bC 104 .quo 98 103,F 105 14,F 106 10,F 107 11,bg 108 .sub 107 1,bX 109 1 106 108,aN 110 1 109,bC 111 .rem 105 110,F 15 104,F 16 111] Ij (.seq (.block 4 (.loop  (.seq (fs [F 112 15,bg 113 .geq 112 1048576,F 114 113,⟨some 115,some (114,false),.cn (.t 16)⟩,⟨some 116,some (114,false),.bin .lss (.t 115) (.c (ah 1048576))⟩,⟨some 117,some (114,false),.cn (.t 116)⟩,⟨some 118,some (117,true),.cn (.t 15)⟩,⟨some 119,some (117,true),.cn (.t 10)⟩,⟨some 120,some (117,true),.cn (.t 11)⟩,⟨some 121,some (117,true),.bin .sub (.t 120) (.c (ah 2))⟩,⟨some 122,some (117,true),.jF 1 (.t 119) (.t 121)⟩,⟨some 123,some (117,true),.load 1 false (.t 122)⟩,⟨some 124,some (117,true),.bin .mul (.t 118) (.t 123)⟩,⟨some 125,some (117,true),.cn (.t 16)⟩,⟨some 126,some (117,true),.bin .shl (.t 125) (.c (.I (.int .u64 20)))⟩,⟨some 127,some (117,true),.cn (.t 9)⟩,⟨some 128,some (117,true),.cn (.t 13)⟩,⟨some 129,some (117,true),.cn (.t 11)⟩,⟨some 130,some (117,true),.bin .add (.t 128) (.t 129)⟩,⟨some 131,some (117,true),.bin .sub (.t 130) (.c (ah 2))⟩,⟨some 132,some (117,true),.jF 1 (.t 127) (.t 131)⟩,⟨some 133,some (117,true),.load 1 false (.t 132)⟩,⟨some 134,some (117,true),.bin .or (.t 126) (.t 133)⟩,⟨some 135,some (117,true),.bin .gtr (.t 124) (.t 134)⟩,⟨some 136,some (114,false),.pick (.t 117) (.t 135) (.c (.I (.bool false)))⟩,eo 137 114 136] alZ (a6 137 .skip (.exit 4))) (.block 5 (R [F 138 15,bg 139 .sub 138 1,F 15 139] (.ops [F 140 16,F 141 10,F 142 11,bg 143 .sub 142 1,bX 144 1 141 143,aN 145 1 144,bC 146 .add 140 145,F 16 146])))))) (.ops [F 147 12,F 148 13,F 149 9,F 150 13,F 151 13,F 152 11,bC 153 .add 151 152,bg 154 .add 153 1,(az 155 (.qX 1 (.t 149) (some (.t 150)) (some (.t 154)) none)),F 156 10,F 157 15,(aal 158 Q3 155 156 157),bX 159 1 147 148,ba 1 159 158]))))) (.ops [F 81 13,bg 82 .sub 81 1,F 13 82])))))) (.seq (.ghost (.freeze 9) (.ops [F 161 9,(dP 162 pE 161),F 163 8,(cj 164 LM 162 163),F 160 164,bt 165 0 160,bt 166 1 160,F 17 165,F 18 166])) (.seq (.ghost (.freeze 12) (.ops [F 167 12,(dP 168 pE 167),F 169 17,F 4 168,F 5 169])) .ret))))))))))))
def Rt:b5:=cx 14 2 [.cell 4 2 true] (R [(az 4 (.alloc 158004 [(ah 0),.nil]))] (R [F 5 1,(dP 6 pE 5),F 1 6] (.seq (R [F 7 1,cp 8 7,bg 9 .eql 8 0] (a6 9 (R [(az 10 (.build [(ah 0),.nil] [])),ba 2 4 10] .ret) .skip)) (R [F 11 0,F 12 1,(az 13 (.build [(ah 0),.nil] [(0,1,(.t 11)),(1,1,(.t 12))])),ba 2 4 13] .ret))))
def Ru:b5:=cx 59 1 [.t 2,.t 3] (R [dW 1 159001 0,bs 2 0,du 3 false] (.seq (R [bp 7 2 1,(dP 8 j4 7),gv 9 8,F 10 9,⟨some 11,some (10,false),.eX 1 (.t 1)⟩,⟨some 12,some (10,false),.load 1 false (.t 11)⟩,⟨some 13,some (10,false),.len (.t 12)⟩,⟨some 14,some (10,false),.bin .gtr (.t 13) (.c (ah 4))⟩,eo 15 10 14] (a6 15 (R [bs 2 0,du 3 false] .ret) .skip)) (R [(az 4 (.cn (.c (.I (.int .u64 0)))))] (.seq (R [aW 16 1 1,aN 17 1 16,cp 18 17,bs 19 0] (.block 0 (.loop  (R [bC 20 .lss 19 18] (.seq (a6 20 .skip (.exit 0)) (.seq (.block 1 (R [F 21 19,bX 22 1 17 19,aN 23 1 22,F 5 21,F 6 23] (.seq (R [F 24 5,bg 25 .eql 24 3,F 26 25,⟨some 27,some (26,true),.cn (.t 6)⟩,⟨some 28,some (26,true),.bin .gtr (.t 27) (.c (ah 8))⟩,gg 29 26 28] (a6 29 (R [bs 2 0,du 3 false] .ret) .skip)) (.ops [F 30 4,F 31 6,(az 32 (.conv .u64 (.t 31))),F 33 5,(az 34 (.bin .mul (.c (ah 20)) (.t 33))),bC 35 .shl 32 34,bC 36 .or 30 35,F 4 36])))) (.ops [bg 37 .add 19 1,F 19 37]))))))) (.seq (.block 2 (R [aW 39 0 1,aN 40 1 39,bg 41 .lss 40 0,F 42 41,⟨some 43,some (42,true),.cn (.t 4)⟩,⟨some 44,some (42,true),.bin .leq (.t 43) (.c (.I (.int .u64 9223372036854775808)))⟩,gg 45 42 44,F 38 45] (a6 38 (R [F 46 4,(az 47 (.un .neg (.t 46))),(az 48 (.conv .i64 (.t 47))),F 2 48,du 3 true] .ret) (R [aW 50 0 1,aN 51 1 50,bg 52 .geq 51 0,F 53 52,⟨some 54,some (53,true),.cn (.t 4)⟩,⟨some 55,some (53,true),.bin .lss (.t 54) (.c (.I (.int .u64 9223372036854775808)))⟩,gg 56 53 55,F 49 56] (a6 49 (R [F 57 4,(az 58 (.conv .i64 (.t 57))),F 2 58,du 3 true] .ret) .skip))))) (R [bs 2 0,du 3 false] .ret))))))
def Rv:b5:=cx 69 2 [.cell 4 2 true,.t 5] (R [dW 2 160002 0,dW 3 160003 1,(az 4 (.alloc 160004 [(ah 0),.nil])),bs 5 0] (.seq (R [bp 6 2 2,(dP 7 j4 6),gv 8 7,F 9 8,⟨some 10,some (9,false),.load 2 true (.t 3)⟩,⟨some 11,some (9,false),.call j4 [(.t 10)]⟩,⟨some 12,some (9,false),.un .not (.t 11)⟩,eo 13 9 12] (a6 13 (R [(az 14 (.build [(ah 0),.nil] [])),(az 15 (.call tH [(.c (.I (.bool false))),(.t 14)])),bt 16 0 15,bt 17 1 15,ba 2 4 16,F 5 17] .ret) .skip)) (.seq (.block 0 (R [aW 19 0 2,aN 20 1 19,aW 21 0 3,aN 22 1 21,bC 23 .mul 20 22,bg 24 .geq 23 0,F 18 24] (a6 18 (fs [aW 25 0 2,aN 26 1 25,aW 27 0 3,aN 28 1 27,(az 29 (.e7 160029 false [(ah 0),(ah 0)] 1 2 [(0,1,(.t 26)),(1,1,(.t 28))])),(dP 30 Q4 29),aW 31 1 2,aN 32 1 31,aW 33 1 3,aN 34 1 33,(cj 35 H0 32 34),(cj 36 oe 30 35),(az 37 (.call tH [(.c (.I (.bool true))),(.t 36)])),bt 38 0 37,bt 39 1 37,ba 2 4 38,F 5 39] aap .ret) (R [aW 41 1 2,aN 42 1 41,aW 43 1 3,aN 44 1 43,(cj 45 BE 42 44),bg 46 .lss 45 0,F 40 46] (a6 40 (fs [aW 47 0 3,aN 48 1 47,aW 49 1 3,aN 50 1 49,aW 51 1 2,aN 52 1 51,(cj 53 DY 50 52),(cj 54 oe 48 53),(az 55 (.call tH [(.c (.I (.bool true))),(.t 54)])),bt 56 0 55,bt 57 1 55,ba 2 4 56,F 5 57] LR .ret) .skip))))) (fs [aW 58 0 2,aN 59 1 58,aW 60 1 2,aN 61 1 60,aW 62 1 3,aN 63 1 62,(cj 64 DY 61 63),(cj 65 oe 59 64),(az 66 (.call tH [(.c (.I (.bool true))),(.t 65)])),bt 67 0 66,bt 68 1 66,ba 2 4 67,F 5 68] LR .ret))))
def Rw:b5:=cx 67 2 [.t 4] (R [eD 4] (R [F 12 0,cp 13 12,F 14 1,cp 15 14,bC 16 .add 13 15,(az 17 (.lj 161017 [(ah 0)] 8 (.t 16) (.t 16))),F 5 17] (.seq (R [F 18 0,cp 19 18,bs 20 0] (.block 0 (.loop  (R [bC 21 .lss 20 19] (.seq (a6 21 .skip (.exit 0)) (.seq (.block 1 (R [F 22 20,bX 23 1 18 20,aN 24 1 23,F 6 22,F 7 24] (R [bs 8 0] (.seq (R [F 25 1,cp 26 25,bs 27 0] (.block 2 (.loop  (R [bC 28 .lss 27 26] (.seq (a6 28 .skip (.exit 2)) (.seq (.block 3 (R [F 29 27,bX 30 1 25 27,aN 31 1 30,F 9 29,F 10 31] (R [F 32 5,F 33 6,F 34 9,bC 35 .add 33 34,bX 36 1 32 35,aN 37 1 36,F 38 7,F 39 10,bC 40 .mul 38 39,bC 41 .add 37 40,F 42 8,bC 43 .add 41 42,F 11 43] (.ops [F 44 5,F 45 6,F 46 9,bC 47 .add 45 46,F 48 11,bg 49 .and 48 1048575,F 50 11,(az 51 (.bin .shr (.t 50) (.c (.I (.int .u64 20))))),bX 52 1 44 47,ba 1 52 49,F 8 51])))) (.ops [bg 53 .add 27 1,F 27 53]))))))) (.ops [F 54 5,F 55 6,F 56 1,cp 57 56,bC 58 .add 55 57,bX 59 1 54 58,aN 60 1 59,F 61 8,bC 62 .add 60 61,bX 63 1 54 58,ba 1 63 62]))))) (.ops [bg 64 .add 20 1,F 20 64]))))))) (R [F 65 5,(dP 66 pE 65),F 4 66] .ret))))
def Rx:b5:=cx 55 2 [.t 4] (R [eD 4] (.seq (R [F 9 0,cp 10 9,F 11 1,cp 12 11,bC 13 .lss 10 12] (a6 13 (.ops [F 14 1,F 15 0,F 0 14,F 1 15]) .skip)) (R [F 16 0,cp 17 16,bg 18 .add 17 1,(az 19 (.lj 172019 [(ah 0)] 8 (.t 18) (.t 18))),F 5 19] (R [bs 6 0] (.seq (R [F 20 0,cp 21 20,bs 22 0] (.block 0 (.loop  (R [bC 23 .lss 22 21] (.seq (a6 23 .skip (.exit 0)) (.seq (.block 1 (R [F 24 22,bX 25 1 20 22,aN 26 1 25,F 7 24,F 8 26] (R [F 27 6,F 28 8,bC 29 .add 27 28,F 6 29] (.seq (R [F 30 7,F 31 1,cp 32 31,bC 33 .lss 30 32] (a6 33 (.ops [F 34 6,F 35 1,F 36 7,bX 37 1 35 36,aN 38 1 37,bC 39 .add 34 38,F 6 39]) .skip)) (R [F 40 5,F 41 7,F 42 6,bg 43 .and 42 1048575,bX 44 1 40 41,ba 1 44 43] (.ops [F 45 6,(az 46 (.bin .shr (.t 45) (.c (.I (.int .u64 20))))),F 6 46])))))) (.ops [bg 47 .add 22 1,F 22 47]))))))) (R [F 48 5,F 49 0,cp 50 49,F 51 6,bX 52 1 48 50,ba 1 52 51] (R [F 53 5,(dP 54 pE 53),F 4 54] .ret)))))))
def Ry:b5:=cx 43 2 [.t 4] (R [eD 4] (R [F 9 0,(az 10 (.m0 173010 1 wF [(.t 9)])),F 5 10] (R [bs 6 0] (.seq (R [F 11 5,cp 12 11,bs 13 0] (.block 0 (.loop  (R [bC 14 .lss 13 12] (.seq (a6 14 .skip (.exit 0)) (.seq (.block 1 (R [F 15 13,F 7 15] (R [F 16 5,F 17 7,bX 18 1 16 17,aN 19 1 18,F 20 6,bC 21 .sub 19 20,F 8 21] (.seq (R [F 22 7,F 23 1,cp 24 23,bC 25 .lss 22 24] (a6 25 (.ops [F 26 8,F 27 1,F 28 7,bX 29 1 27 28,aN 30 1 29,bC 31 .sub 26 30,F 8 31]) .skip)) (R [F 32 8,(az 33 (.bin .shr (.t 32) (.c (.I (.int .u64 20))))),bg 34 .and 33 1,F 6 34] (.ops [F 35 5,F 36 7,F 37 8,bg 38 .and 37 1048575,bX 39 1 35 36,ba 1 39 38])))))) (.ops [bg 40 .add 13 1,F 13 40]))))))) (R [F 41 5,(dP 42 pE 41),F 4 42] .ret)))))
def Rz:b5:=cx 41 2 [.t 4] (R [bs 4 0] (.seq (R [F 6 0,cp 7 6,F 8 1,cp 9 8,bC 10 .neq 7 9] (a6 10 (R [F 11 0,cp 12 11,F 13 1,cp 14 13,(cj 15 DZ 12 14),F 4 15] .ret) .skip)) (.seq (R [F 16 0,cp 17 16,bg 18 .sub 17 1,F 5 18] (.block 0 (.loop  (.seq (R [F 19 5,bg 20 .geq 19 0] (a6 20 .skip (.exit 0))) (.seq (.block 1 (fs [F 23 0,F 24 5,bX 25 1 23 24,aN 26 1 25,F 27 1,F 28 5,bX 29 1 27 28,aN 30 1 29,bC 31 .neq 26 30] Rj (a6 31 (fs [F 32 0,F 33 5,bX 34 1 32 33,aN 35 1 34,F 36 1,F 37 5,bX 38 1 36 37,aN 39 1 38,(cj 40 DZ 35 39),F 4 40] Ih .ret) .skip))) (.ops [F 21 5,bg 22 .sub 21 1,F 5 22])))))) (R [bs 4 0] .ret))))
def RA:b5:=cx 38 2 [.t 4,.t 5] (R [eD 4,bs 5 0] (R [F 9 0,cp 10 9,(az 11 (.lj 176011 [(ah 0)] 8 (.t 10) (.t 10))),F 6 11] (R [bs 7 0] (.seq (R [F 12 0,cp 13 12,bg 14 .sub 13 1,F 8 14] (.block 0 (.loop  (.seq (R [F 15 8,bg 16 .geq 15 0] (a6 16 .skip (.exit 0))) (.seq (.block 1 (R [F 19 7,(az 20 (.bin .shl (.t 19) (.c (.I (.int .u64 20))))),F 21 0,F 22 8,bX 23 1 21 22,aN 24 1 23,bC 25 .or 20 24,F 7 25] (R [F 26 6,F 27 8,F 28 7,F 29 1,bC 30 .quo 28 29,bX 31 1 26 27,ba 1 31 30] (.ops [F 32 7,F 33 1,bC 34 .rem 32 33,F 7 34])))) (.ops [F 17 8,bg 18 .sub 17 1,F 8 18])))))) (.seq (.ghost (.freeze 6) (.ops [F 35 6,(dP 36 pE 35),F 37 7,F 4 36,F 5 37])) .ret)))))
def BK:b5:=cx 21 1 [.t 2] (R [eD 2] (R [F 4 0,cp 5 4,F 3 5] (.seq (.block 0 (.loop  (.seq (R [F 6 3,bg 7 .gtr 6 0,F 8 7,⟨some 9,some (8,true),.cn (.t 0)⟩,⟨some 10,some (8,true),.cn (.t 3)⟩,⟨some 11,some (8,true),.bin .sub (.t 10) (.c (ah 1))⟩,⟨some 12,some (8,true),.jF 1 (.t 9) (.t 11)⟩,⟨some 13,some (8,true),.load 1 false (.t 12)⟩,⟨some 14,some (8,true),.bin .eql (.t 13) (.c (ah 0))⟩,gg 15 8 14] (a6 15 .skip (.exit 0))) (.block 1 (.ops [F 16 3,bg 17 .sub 16 1,F 3 17]))))) (R [F 18 0,F 19 3,(az 20 (.qX 1 (.t 18) none (some (.t 19)) none)),F 2 20] .ret))))
def LS:b5:=cx 78 3 [.t 6] (R [bs 6 0] (R [bs 7 0] (.seq (R [F 12 0,cp 13 12,bs 14 0] (.block 0 (.loop  (R [bC 15 .lss 14 13] (.seq (a6 15 .skip (.exit 0)) (.seq (.block 1 (R [F 16 14,F 8 16] (R [F 17 0,F 18 8,bX 19 1 17 18,aN 20 1 19,F 21 7,bC 22 .sub 20 21,F 9 22] (.seq (R [F 23 8,F 24 1,cp 25 24,bC 26 .lss 23 25] (a6 26 (.ops [F 27 9,F 28 2,F 29 1,F 30 8,bX 31 1 29 30,aN 32 1 31,bC 33 .mul 28 32,bC 34 .sub 27 33,F 9 34]) .skip)) (R [F 35 0,F 36 8,F 37 9,bg 38 .and 37 1048575,bX 39 1 35 36,ba 1 39 38] (.ops [F 40 9,(az 41 (.bin .shr (.t 40) (.c (.I (.int .u64 20))))),(az 42 (.un .neg (.t 41))),F 7 42])))))) (.ops [bg 43 .add 14 1,F 14 43]))))))) (.seq (R [F 44 7,bg 45 .eql 44 0] (a6 45 (R [F 46 2,F 6 46] .ret) .skip)) (R [bs 10 0] (.seq (R [F 47 0,cp 48 47,bs 49 0] (.block 2 (.loop  (R [bC 50 .lss 49 48] (.seq (a6 50 .skip (.exit 2)) (.seq (.block 3 (R [F 51 49,F 11 51] (R [F 52 10,F 53 0,F 54 11,bX 55 1 53 54,aN 56 1 55,bC 57 .add 52 56,F 10 57] (.seq (R [F 58 11,F 59 1,cp 60 59,bC 61 .lss 58 60] (a6 61 (.ops [F 62 10,F 63 1,F 64 11,bX 65 1 63 64,aN 66 1 65,bC 67 .add 62 66,F 10 67]) .skip)) (R [F 68 0,F 69 11,F 70 10,bg 71 .and 70 1048575,bX 72 1 68 69,ba 1 72 71] (.ops [F 73 10,(az 74 (.bin .shr (.t 73) (.c (.I (.int .u64 20))))),F 10 74])))))) (.ops [bg 75 .add 49 1,F 49 75]))))))) (R [F 76 2,bg 77 .sub 76 1,F 6 77] .ret)))))))
def RB:b5:=cx 20 2 [.t 4] (R [bs 4 0] (R [F 7 0,(dP 8 LN 7),F 5 8] (R [F 9 1,(dP 10 LN 9),F 6 10] (.seq (R [F 11 5] (a6 11 (.seq (R [F 12 6] (a6 12 (R [bs 4 0] .ret) .skip)) (R [(az 4 (.cn (.c (.I (.int .i64 (-1))))))] .ret)) .skip)) (.seq (R [F 13 6] (a6 13 (R [bs 4 1] .ret) .skip)) (.seq (R [F 14 0,F 15 1,bC 16 .lss 14 15] (a6 16 (R [(az 4 (.cn (.c (.I (.int .i64 (-1))))))] .ret) .skip)) (.seq (R [F 17 0,F 18 1,bC 19 .gtr 17 18] (a6 19 (R [bs 4 1] .ret) .skip)) (R [bs 4 0] .ret))))))))
def RC:b5:=cx 18 1 [.t 2] (R [bs 2 0] (R [bs 3 0] (.seq (R [F 6 0,cp 7 6,bs 8 0] (.block 0 (.loop  (R [bC 9 .lss 8 7] (.seq (a6 9 .skip (.exit 0)) (.seq (.block 1 (R [bX 10 1 6 8,aN 11 1 10,F 5 11] (R [F 12 5,F 13 3,bC 14 .neq 12 13] (a6 14 (R [F 15 5,F 2 15] .ret) .skip)))) (.ops [bg 16 .add 8 1,F 8 16]))))))) (R [F 17 3,F 2 17] .ret))))
def RD:b5:=cx 6 1 [.t 2] (R [du 2 false] (R [F 3 0,F 4 0,bC 5 .neq 3 4,F 2 5] .ret))
def RE:b5:=cx 9 2 [.t 4] (R [du 4 false] (R [F 5 0,F 6 1,(cj 7 QU 5 6),bg 8 .geq 7 0,F 4 8] .ret))
def RF:b5:=cx 9 2 [.t 4] (R [du 4 false] (R [F 5 0,F 6 1,(cj 7 QV 5 6),bg 8 .geq 7 0,F 4 8] .ret))
def RG:b5:=cx 48 2 [.t 4] (R [eD 4] (.seq (R [F 9 1,bg 10 .lss 9 0] (a6 10 (.ops [(az 11 (.bad)),⟨none,none,.bad⟩]) .skip)) (R [F 13 0,cp 14 13,(az 15 (.conv .u64 (.t 14))),F 16 1,(az 17 (.conv .u64 (.t 16))),(cj 18 QX 15 17),F 12 18,bt 19 0 12,bt 20 1 12,F 5 19,F 6 20] (.seq (R [F 21 5,(az 22 (.bin .gtr (.t 21) (.c (.I (.int .u64 0))))),F 23 22,⟨some 24,some (23,false),.cn (.t 6)⟩,⟨some 25,some (23,false),.bin .gtr (.t 24) (.c (.I (.int .u64 9223372036854775807)))⟩,eo 26 23 25] (a6 26 (.ops [(az 27 (.bad)),⟨none,none,.bad⟩]) .skip)) (R [F 28 6,(az 29 (.conv .i64 (.t 28))),(az 30 (.lj 131030 [(ah 0),.nil,(ah 0),.nil] 64 (.t 29) (.t 29))),F 7 30] (R [F 31 7,F 32 0,(az 33 (.qY 4 (.t 31) (.t 32))),F 8 33] (.seq (.block 0 (.loop  (.seq (R [F 34 8,F 35 7,cp 36 35,bC 37 .lss 34 36] (a6 37 .skip (.exit 0))) (.block 1 (.m1 [F 38 8,F 39 7,F 40 8,(az 41 (.qX 4 (.t 39) (some (.t 40)) none none)),F 42 7,F 43 8,(az 44 (.qX 4 (.t 42) none (some (.t 43)) none)),(az 45 (.qY 4 (.t 41) (.t 44))),bC 46 .add 38 45,F 8 46] Ih))))) (R [F 47 7,F 4 47] .ret))))))))
def RH:b5:=cx 19 2 [.t 4] (R [bs 4 0] (.seq (R [F 6 0,cp 7 6,bs 8 0] (.block 0 (.loop  (R [bC 9 .lss 8 7] (.seq (a6 9 .skip (.exit 0)) (.seq (.block 1 (R [F 10 8,F 5 10] (R [F 11 1,F 12 0,F 13 5,bX 14 5 12 13,bp 15 5 14,(az 16 (.lk (.t 11) [(.t 15)]))] (a6 16 (R [F 17 5,F 4 17] .ret) .skip)))) (.ops [bg 18 .add 8 1,F 8 18]))))))) (R [(az 4 (.cn (.c (.I (.int .i64 (-1))))))] .ret)))
def RI:b5:=cx 19 2 [.t 4] (R [bs 4 0] (.seq (R [F 6 0,cp 7 6,bs 8 0] (.block 0 (.loop  (R [bC 9 .lss 8 7] (.seq (a6 9 .skip (.exit 0)) (.seq (.block 1 (R [F 10 8,F 5 10] (R [F 11 1,F 12 0,F 13 5,bX 14 4 12 13,bp 15 4 14,(az 16 (.lk (.t 11) [(.t 15)]))] (a6 16 (R [F 17 5,F 4 17] .ret) .skip)))) (.ops [bg 18 .add 8 1,F 8 18]))))))) (R [(az 4 (.cn (.c (.I (.int .i64 (-1))))))] .ret)))
def RJ:b5:=cx 8 1 [.t 2] (R [eD 2] (.seq (R [F 3 0,(az 4 (.pn false (.t 3)))] (a6 4 (R [eD 2] .ret) .skip)) (R [(az 5 (.e7 147005 true [] 4 0 [])),F 6 0,(az 7 (.app 147007 [(ah 0),.nil,(ah 0),.nil] 64 (.t 5) (.t 6))),F 2 7] .ret)))
def RK:b5:=cx 8 1 [.t 2] (R [eD 2] (.seq (R [F 3 0,(az 4 (.pn false (.t 3)))] (a6 4 (R [eD 2] .ret) .skip)) (R [(az 5 (.e7 156005 true [] 1 0 [])),F 6 0,(az 7 (.app 156007 [(ah 0)] 8 (.t 5) (.t 6))),F 2 7] .ret)))
def Ik:b5:=cx 19 2 [.t 4] (R [bs 4 0] (.seq (R [F 6 0,cp 7 6,bs 8 0] (.block 0 (.loop  (R [bC 9 .lss 8 7] (.seq (a6 9 .skip (.exit 0)) (.seq (.block 1 (R [F 10 8,F 5 10] (R [F 11 1,F 12 0,F 13 5,bX 14 1 12 13,aN 15 1 14,(az 16 (.lk (.t 11) [(.t 15)]))] (a6 16 (R [F 17 5,F 4 17] .ret) .skip)))) (.ops [bg 18 .add 8 1,F 8 18]))))))) (R [(az 4 (.cn (.c (.I (.int .i64 (-1))))))] .ret)))
def RL:b5:=cx 9 2 [.t 4] (R [du 4 false] (R [F 5 0,F 6 1,(cj 7 BG 5 6),bg 8 .geq 7 0,F 4 8] .ret))
def RM:b5:=cx 9 2 [.t 4] (R [du 4 false] (R [F 5 0,F 6 1,(cj 7 Rc 5 6),bg 8 .geq 7 0,F 4 8] .ret))
def Il:b5:=cx 19 2 [.t 4] (R [bs 4 0] (.seq (R [F 6 0,cp 7 6,bs 8 0] (.block 0 (.loop  (R [bC 9 .lss 8 7] (.seq (a6 9 .skip (.exit 0)) (.seq (.block 1 (R [F 10 8,F 5 10] (R [F 11 1,F 12 0,F 13 5,bX 14 4 12 13,bp 15 4 14,(az 16 (.lk (.t 11) [(.t 15)]))] (a6 16 (R [F 17 5,F 4 17] .ret) .skip)))) (.ops [bg 18 .add 8 1,F 8 18]))))))) (R [(az 4 (.cn (.c (.I (.int .i64 (-1))))))] .ret)))
theorem RN (l:List Int)(n:Nat)(aG:n<D l)(h:l[n]=0):fk (l.take (n+1))=fk (l.take n):=by
 rw[lA,bx aG,h];exact aaa _
theorem RO (l:List Int)(n:Nat)(aG:n<D l)(h:l[n]≠0):fk (l.take (n+1))=l.take (n+1):=by
 rw[lA,bx aG];exact aab _ h
abbrev D5:List Int->List Data:=λ(l:List Int)=>[.ae (l.map af)]
def ym:=cy D5 λ(l:List Int)=>cW (D l<=1000000) (.same (.ae ((fk l).map af)))
theorem LU:∀a b,D5 a=D5 b->a=b:=by
  intro eE aj h;exact map_inj gY _ _ (by simpa using h)
@[go_sem] theorem LV (l:List Int)(G:(D l)<=1000000):ym [.ae (l.map af)]=some (.same (.ae ((fk l).map af))):=(cK LU l).trans (c6 G _)
theorem al2 (T:bk)  (l:List Int) (G:(D l)<=1000000):WP T BK (.same (.ae ((fk l).map af))) [.I (.ae (l.map af))]:=by
 refine cH ?_;simp only[BK];have r4:((l.map af).all λe=>D e==1)=true:=by simp[af]
 refine a7 ?_;repeat' (intro h<;>simp only[h,go_sem,go_sem_proc,al]<;>try refine av ?_ ?_)
 refine dG [0] [] (λ(n:Nat) tm mem=>n<=D l/\fk l=fk (l.take n)/\tm 3=.I (.int .i64 n)) (λn=>n) (D l) (by refine⟨bM _,by simp,by simp[go_sem]⟩) ?_;intro vs ms aV aS;simp only[go_sem,go_sem_proc,al] at aV aS;subst aV aS;rintro n tm mem J-⟨aG,bI,ab⟩;simp only[go_sem,go_sem_proc,bf] at J;have ai:=J;rcases n with _|n
 ·refine a7 ?_;repeat' (intro h<;>simp only[h,go_sem,go_sem_proc,ai,ab,r4,ku,kR,show ¬ ((0:Int)>0) by omega,decide_false,al,show (0:Int).toNat=0 from rfl,show (0:Int)<=0 by omega,fr,nK,cg]<;>try refine av ?_ ?_)
  rw[bI];simp[fk]
 ·have hw:IntKind.i64.wrap (((n+1:Nat):Int)-1)=(n:Int):=by rw[eC _];omega
  have O:l[n]?=some l[n]:=bx (by omega);have hD:((n+1:Nat):Int)>0:=by omega
  have hle:n+1<=D l:=aG
  by_cases aR:l[n]=0
  ·refine a7 ?_;repeat' (intro h<;>simp only[h,go_sem,go_sem_proc,ai,ab,hw,O,aR,hD,al,bd,decide_true,af,beq_self_eq_true,bf]<;>try refine av ?_ ?_)
   exact⟨n,by omega,by omega,by rw[bI,RN l n (by omega) aR],rfl⟩
  ·have sm:(l[n]==0)=false:=by simpa using aR
   refine a7 ?_;repeat' (intro h<;>simp only[h,go_sem,go_sem_proc,ai,ab,hw,O,sm,hD,r4,hle,af,al,bd,decide_true,bf,show (0:Int)<=((n+1:Nat):Int) by omega,gZ,fr]<;>try refine av ?_ ?_)
   rw[bI,RO l n (by omega) aR,List.map_take]
structure aaq where
 l:List Int
 k:Key
 g:Nat
def tL:List M->Mem->Option (M×Mem):=DS (λ(a:aaq) args mem=>args=[.ref a.k a.g 1 0 (D a.l)]/\mem a.k=some (a.g,aY af a.l)/\D a.l<=1000000) (λa mem=>(.ref a.k a.g 1 0 (fk a.l).length,mem))
theorem RP {α:Type}{enc:α->List Data}{sz:Nat}(h:∀a,(enc a).length=sz)(L:∀a b,enc a=enc b->a=b):∀(l fw:List α),aY enc l=aY enc fw->0<sz->l=fw:=by
 intro l
 induction l with
 |nil =>
  intro fw e aR
  cases fw with
  |nil=>rfl
  |cons b r =>
   have:=congrArg D e;rw[kP h,kP h] at this;simp only[mu,kJ,LB,pk] at this;omega
 |cons a r aw =>
  intro fw e aR
  cases fw with
  |nil =>
   have:=congrArg D e;rw[kP h,kP h] at this;simp only[mu,kJ,LB,pk] at this;omega
  |cons b Hk =>
   rw[wA,wA] at e;have aq:((enc a).map M.I).length=((enc b).map M.I).length:=by simp[h]
   obtain⟨aA,ay⟩:=D6 e aq;have cV:=map_inj (λx y (e:M.I x=M.I y)=>by cases e;rfl) _ _ aA;rw[L _ _ cV,aw Hk ay aR]
theorem RQ (l:List Int)(k g:Nat)(mem:Mem)(h:mem k=some (g,aY af l))(aq:(D l)<=1000000):tL [.ref k g 1 0 (D l)] mem=some (.ref k g 1 0 (fk l).length,mem):=by
 unfold tL;refine Z9 (a:=(⟨l,k,g⟩:aaq)) ?_ ⟨rfl,h,aq⟩;rintro a b args mem ⟨E,H,_⟩ ⟨ab,aM,_⟩;rw[E] at ab;simp only[bf,M.ref.injEq,true_and,and_true] at ab;obtain⟨Im,LW,_⟩:=ab;rw[Im,aM] at H;simp only[b8,fv] at H;have:=RP hF gY _ _ H.2 (by omega);rw[Im,LW,this]
@[go_sem] theorem aBn (d:Data)(mem:Mem):tL [.I d] mem=none:=by
 cases O:tL [.I d] mem with
 |none=>rfl
 |some x =>
  unfold tL at O;obtain⟨a,⟨h,_⟩,_⟩:=QG O
  cases h
theorem al3 (T:bk)(l:List Int)(k g:Nat)(mem:Mem)(hm:mem k=some (g,aY af l))(G:(D l)<=1000000):
  wp T BK.body (DR BK.res (.ref k g 1 0 (fk l).length) mem) ⟨mj [.ref k g 1 0 (D l)],mem⟩:=by
 refine wo ?_;simp only[BK];refine a7 ?_;repeat' (intro h<;>simp only[h,go_sem,go_sem_proc,hm]<;>try refine av ?_ ?_)
 refine dG [0] [] (λ(n:Nat) tm mem'=>n<=D l/\fk l=fk (l.take n)/\tm 3=.I (.int .i64 n)/\mem'=mem) (λn=>n) (D l) (by refine⟨bM _,by simp,by simp[go_sem],rfl⟩) ?_;intro vs ms aV aS;simp only[go_sem,go_sem_proc] at aV aS;subst aV aS;rintro n tm _ J-⟨aG,bI,ab,rfl⟩;simp only[go_sem,go_sem_proc,bf] at J;have ai:=J;rcases n with _|n
 ·refine a7 ?_;repeat' (intro h<;>simp only[h,go_sem,go_sem_proc,ai,ab,hm,ku,kR,show ¬ ((0:Int)>0) by omega,decide_false,show (0:Int).toNat=0 from rfl,show (0:Int)<=0 by omega,fr]<;>try refine av ?_ ?_)
  rw[bI];simp[fk]
 ·have hw:IntKind.i64.wrap (((n+1:Nat):Int)-1)=(n:Int):=by rw[eC _];omega
  have O:l[n]?=some l[n]:=bx (by omega);have hD:((n+1:Nat):Int)>0:=by omega
  have hle:n+1<=D l:=aG;have ao:n<D l:=aG;have wj:=LA hF O (f:=0) (n:=1) (by omega);have dF:=kP hF l;rw[cI] at dF;have aar:n+1<=(aY af l).length:=by omega
  have aas:ho 1 (hR n (aY af l))=[.I (.int .i64 l[n])]:=by
   unfold cut at wj;rw[cI,n8,Z (by omega)] at wj
   simpa [af] using wj
  by_cases aR:l[n]=0
  ·refine a7 ?_;repeat' (intro h<;>simp only[h,go_sem,go_sem_proc,ai,ab,hm,hw,ao,aar,aas,aR,hD,decide_true,cI,beq_self_eq_true]<;>try refine av ?_ ?_)
   exact⟨n,by omega,by omega,by rw[bI,RN l n (by omega) aR],rfl⟩
  ·have sm:(l[n]==0)=false:=by simpa using aR
   refine a7 ?_;repeat' (intro h<;>simp only[h,go_sem,go_sem_proc,ai,ab,hm,hw,ao,aar,aas,sm,hD,hle,decide_true,cI,show (0:Int)<=((n+1:Nat):Int) by omega,gZ,fr,Nat.sub_zero]<;>try refine av ?_ ?_)
   rw[bI,RO l n (by omega) aR];simp;omega
abbrev zT:Int->List Data:=λ(n:Int)=>[.int .i64 n]
def RR:=cy zT λ(n:Int)=>some (.same (.bool false))
theorem D7:∀a b,zT a=zT b->a=b:=by
  intro iv jr h;simp only[bf,Data.int.injEq,Data.agg.injEq,Data.ae.injEq,Data.bool.injEq,Data.str.injEq,Data.ptr.injEq,Data.cq.injEq,fv,true_and,and_true] at h ⊢
  first|exact h|simpa [BL,and_assoc] using h|grind
@[go_sem] theorem aBo (n:Int):RR [.int .i64 n]=some (.same (.bool false)):=cK D7 n
theorem al4 (T:bk)  (n:Int):WP T RD (.same (.bool false)) [.I (.int .i64 n)]:=by
 refine cH ?_;simp only[RD];refine a7 ?_;repeat' (intro h<;>simp only[h,go_sem,go_sem_proc,beq_self_eq_true]<;>try refine av ?_ ?_)
def hb (a b:Int):Int:=if decide (a<b)=true then -1 else if decide (a>b)=true then 1 else 0
abbrev Io:Int×Int->List Data:=λ(a,b)=>[.int .i64 a,.int .i64 b]
def LX:=cy Io λ(a,b)=>some (.same (.int .i64 (hb a b)))
theorem RS:∀a b,Io a=Io b->a=b:=by
  rintro⟨c5,dR⟩ ⟨dK,gQ⟩ h;simp only[bf,Data.int.injEq,Data.agg.injEq,Data.ae.injEq,Data.bool.injEq,Data.str.injEq,Data.ptr.injEq,Data.cq.injEq,fv,true_and,and_true] at h ⊢
  first|exact h|simpa [BL,and_assoc] using h|grind
@[go_sem] theorem aBp (a:Int)(b:Int):LX [.int .i64 a,.int .i64 b]=some (.same (.int .i64 (hb a b))):=cK RS (a,b)
theorem al5 (T:bk)(al6:T LN=aX RR)(a:Int)(b:Int):WP T RB (.same (.int .i64 (hb a b))) [.I (.int .i64 a),.I (.int .i64 b)]:=by
 refine cH ?_;simp only[RB];refine a7 ?_;repeat' (intro h<;>simp only[h,go_sem,go_sem_proc,al6]<;>try refine av ?_ ?_)
 all_goals simp only[hb, *,reduceIte,cR,dc,tC,yd,nL,ye,tD,iy,ju,ja,jU,beq_self_eq_true,bne]
def yn:List Int->Int
 | []=>0
 |d::r=>if (d==0)=true then yn r else d
def RT:=cy D5 λ(l:List Int)=>cW (D l<=1000000) (.same (.int .i64 (yn l)))
@[go_sem] theorem al7 (l:List Int)(G:(D l)<=1000000):RT [.ae (l.map af)]=some (.same (.int .i64 (yn l))):=(cK LU l).trans (c6 G _)
theorem al8 (T:bk)  (l:List Int) (G:(D l)<=1000000):WP T RC (.same (.int .i64 (yn l))) [.I (.ae (l.map af))]:=by
 refine cH ?_;simp only[RC];simp only[go_sem,go_sem_proc,al];repeat' (first|refine av ?_ ?_|fail)<;>intro h<;>simp only[h,go_sem,go_sem_proc,al]
 refine dG [3,6,7] [] (λi tm mem=>0<=i/\i<=(D l:Int)/\yn l=yn (l.drop i.toNat)/\tm 8=.I (.int .i64 i)) (λi=>(D l-i).toNat) 0 (by refine⟨by omega,by omega,by simp,by simp[go_sem]⟩) ?_;intro vs ms aV aS;simp only[go_sem,go_sem_proc] at aV aS;subst aV aS;rintro i tm mem J-⟨sn,L,aJ,bT⟩;simp only[go_sem,go_sem_proc,bf] at J;obtain⟨ab,bH,bA⟩:=J;rcases dX (i<D l) with ao|cf
 ·obtain⟨x,O,X,-⟩:=ZX l i sn ao;simp only[go_sem,go_sem_proc,ab,bH,bA,bT,O,ao,sn,af,al,bd,decide_true,bf];repeat' (first|refine av ?_ ?_|fail)<;>intro h<;>simp only[h,go_sem,go_sem_proc,ab,bH,bA,bT,O,ao,sn,af,al,bd,decide_true,bf]
  ·rw[aJ,X];simp[yn,h]
  ·exact⟨i+1,by omega,by omega,by omega,by rw[aJ,X];simp only[yn, *,reduceIte,cR,dc,tC,yd,nL,ye,tD,iy,ju,ja,jU,beq_self_eq_true,bne],by rw[eC _]⟩
 ·have he:l.drop i.toNat=[]:=lq (by omega);simp only[go_sem,go_sem_proc,ab,bH,bA,bT,cf,decide_false];repeat' (first|refine av ?_ ?_|fail)<;>intro h<;>simp only[h,go_sem,go_sem_proc,ab,bH,bA,bT,cf,decide_false]
  rw[aJ,he];rfl
theorem RU (l:List Int):((l.map af).all λe=>D e==1)=true:=by simp[af]
def BM:=cy D5 λ(l:List Int)=>cW (D l<=1000000) (.own 1 (l.map af))
@[go_sem] theorem al9 (l:List Int)(G:(D l)<=1000000):BM [.ae (l.map af)]=some (.own 1 (l.map af)):=(cK LU l).trans (c6 G _)
theorem ama (T:bk)  (l:List Int) (G:(D l)<=1000000):WP T RK (.own 1 (l.map af)) [.I (.ae (l.map af))]:=by
 refine cH ?_;simp only[RK]
 have dm:lQ 156005 0 1 0 8 (D l) ((l.map af).flatten.map .I) (some (0,[]))=some (.ref 156005 1 1 0 (D l),some (156005,1,aY af l)):=by
  have:=DO hF wE 156005 0 8 [] l (by simp;omega) (by simp;omega)
  simpa [aY] using this
 have hlen:(aY af l).length=D l:=by rw[kP hF];omega
 refine a7 ?_;repeat' (intro h<;>simp only[h,go_sem,go_sem_proc,RU,dm,al]<;>try refine av ?_ ?_)
 rintro b ad
 cases b
 ·refine a7 ?_;repeat' (intro h<;>simp only[h,go_sem,go_sem_proc,RU,dm,al,oP,cI,hlen]<;>try refine av ?_ ?_)
  rw[Z (by omega),dE (by omega)];unfold aY;rw[wB _ λd=>rfl];have:=zO (sz:=1) (l.map af) (by simp[af]);rw[al] at this;simp[this]
 ·cases l with
  |nil =>
       refine a7 ?_;repeat' (intro h<;>simp only[h,go_sem,go_sem_proc,oP,cg]<;>try refine av ?_ ?_)
  |cons x r=>simp at ad
abbrev Raw:=Int×List Int
def cC (a:Raw):List Data:=[.int .i64 a.1,.ae (a.2.map af)]
def m7 (d:Int):Bool:=!decide (d<0) && !decide (d>1048575)
def dd (a:Raw):Bool:=a.2.all m7&&(if (a.2.length==0)=true then a.1==0 else ((a.1==1||a.1 == -1)&&decide (a.2.length<=60)&&(a.2.getLast? != some 0)))
abbrev zU:Int×(List Int)->List Data:=λ(s,l)=>[.agg [.int .i64 s,.ae (l.map af)]]
def u2:=cy zU λ(s,l)=>cW (D l<=1000000) (.same (.bool (dd (s,l))))
theorem D8:∀a b,zU a=zU b->a=b:=by
  rintro⟨s1,eE⟩ ⟨s2,aj⟩ h;simp only[bf,Data.agg.injEq,Data.int.injEq,Data.ae.injEq] at h;exact eN h.1.1.2 (map_inj gY _ _ h.1.2.1)
@[go_sem] theorem aBq (s:Int)(l:List Int)(G:(D l)<=1000000):u2 [.agg [.int .i64 s,.ae (l.map af)]]=some (.same (.bool (dd (s,l)))):=(cK D8 (s,l)).trans (c6 G _)
theorem amb (T:bk)  (s:Int) (l:List Int) (G:(D l)<=1000000):WP T Rk (.same (.bool (dd (s,l)))) [.I (.agg [.int .i64 s,.ae (l.map af)])]:=by
 refine cH ?_;simp only[Rk];refine a7 ?_;repeat' (intro h<;>simp only[h,go_sem,go_sem_proc,al]<;>try refine av ?_ ?_)
 refine dG [1,3,10,11] [136001] (λi tm mem=>0<=i/\i<=(D l:Int)/\l.all m7=(l.drop i.toNat).all m7/\tm 12=.I (.int .i64 i)) (λi=>(D l-i).toNat) 0 (by refine⟨by omega,by omega,by simp,by simp[go_sem]⟩) ?_;intro vs ms aV aS;simp only[go_sem,go_sem_proc,al] at aV aS;subst aV aS;rintro i tm mem J hm ⟨sn,L,aJ,hS⟩;simp only[go_sem,go_sem_proc,bf] at J hm;obtain⟨E,ab,fH,yo⟩:=J;rcases dX (i<D l) with ao|cf
 ·obtain⟨x,O,X,-⟩:=ZX l i sn ao
  have h2:∀b,m7 x=true->b=(l.drop (i+1).toNat).all m7->l.all m7=b:=by
   intro b E H;rw[aJ,X,DL,E,H,iy]
  have Ip:m7 x=false->dd (s,l)=false:=by
   intro E;unfold dd;rw[aJ,X,DL,E]
   rfl
  refine a7 ?_;repeat' (intro h<;>simp only[h,go_sem,go_sem_proc,E,ab,fH,yo,hS,hm,O,ao,sn,af,al,bd,decide_true,bf]<;>try refine av ?_ ?_)
  ·rw[Ip (by simp only[m7, *,reduceIte,cR,dc,tC,yd,nL,ye,tD,iy,ju,ja,jU,beq_self_eq_true,bne])]
  ·exact⟨i+1,by omega,by omega,by omega,by refine h2 _ ?_ rfl;simp only[m7, *,reduceIte,cR,dc,tC,yd,nL,ye,tD,iy,ju,ja,jU,beq_self_eq_true,bne],by rw[eC _]⟩
  ·rw[Ip (by simp only[m7, *,reduceIte,cR,dc,tC,yd,nL,ye,tD,iy,ju,ja,jU,beq_self_eq_true,bne])]
 ·have he:l.drop i.toNat=[]:=lq (by omega);rw[he] at aJ;have e1:l.all m7=true:=by rw[aJ];rfl
  rcases DT l with rfl|⟨r,x,rfl⟩
  ·have amc:¬ i<(0:Int):=by simpa using cf
   refine a7 ?_;repeat' (intro h<;>simp only[h,go_sem,go_sem_proc,E,ab,fH,yo,hS,hm,amc,decide_false,mu,ku,kR,beq_self_eq_true]<;>try refine av ?_ ?_)
   simp[dd]
  ·rw[DU] at *;have bP:(((r++[x]).length:Int)==0)=false:=by simp;omega
   have hw:IntKind.i64.wrap (((r++[x]).length:Int)-1)=(D r:Int):=by
    have b0:(r++[x]).length=D r+1:=by simp
    rw[eC _];omega
   have aU:((r++[x]).map af)[D r]?=some [.int .i64 x]:=by simp[af]
   have Y:dd (s,r++[x])=((s==1||s == -1)&&decide (((r++[x]).length:Int)<=60)&&(x != 0)):=by
    unfold dd;rw[e1];simp only[List.getLast?_append,List.getLast?_singleton];simp;have aA:decide (D r<=59)=decide ((D r:Int)+1<=60):=decide_eq_decide.2 (by omega);have ay:(some x != some (0:Int))=(x != 0):=by simp[bne]
    rw[aA,ay]
   rw[Y];refine a7 ?_;repeat' (intro h<;>simp only[h,go_sem,go_sem_proc,E,ab,fH,yo,hS,hm,cf,bP,hw,aU,decide_false,al]<;>try refine av ?_ ?_)
   all_goals simp only[*,reduceIte,cR,dc,tC,yd,nL,ye,tD,iy,ju,ja,jU,beq_self_eq_true,bne]
def jv (s:Int)(l:List Int):Raw:=if (((fk l).length:Int)==0)=true then (0,[]) else (s,fk l)
abbrev LY:Int×(List Int)->List Data:=λ(s,l)=>[.int .i64 s,.ae (l.map af)]
def zV:=cy LY λ(s,l)=>cW (D l<=1000000) (.same (.agg (cC (jv s l))))
theorem aat:∀a b,LY a=LY b->a=b:=by
  rintro⟨s1,eE⟩ ⟨s2,aj⟩ h;simp only[bf,Data.int.injEq,Data.ae.injEq] at h;exact eN h.1.2 (map_inj gY _ _ h.2.1)
@[go_sem] theorem aBr (s:Int)(l:List Int)(G:(D l)<=1000000):zV [.int .i64 s,.ae (l.map af)]=some (.same (.agg (cC (jv s l)))):=(cK aat (s,l)).trans (c6 G _)
theorem amd (T:bk)(ee:T pE=yg ym tL)(s:Int)(l:List Int)(G:(D l)<=1000000):WP T Rt (.same (.agg (cC (jv s l)))) [.I (.int .i64 s),.I (.ae (l.map af))]:=by
 refine cH ?_;simp only[Rt];refine a7 ?_;repeat' (intro h<;>simp only[h,go_sem,go_sem_proc,ee,G,al]<;>try refine av ?_ ?_)
 all_goals simp only[jv,cC,cg, *,reduceIte,cR,dc,tC,yd,nL,ye,tD,iy,ju,ja,jU,beq_self_eq_true,bne]
theorem kv (l:List Int)(i:Nat)(h:i<D l):a1 (l.take (i+1))=a1 (l.take i)+1048576^i*l[i]:=by
 rw[lA,bx h,Bw,g7,nE (by omega)];simp[a1]
theorem yp {l:List Int}(h:en l)(i:Nat):en (l.take i):=λd X=>h d (Dv X)
theorem aau {l:List Int}(i:Nat)(L:i<D l):en (l.take (i+1))↔en (l.take i)/\(0<=l[i]/\l[i]<1048576):=by
 rw[lA,bx L,Bv];simp[Bu,en]
theorem kx {l:List Int}(h:en l)(i:Nat)(L:i<D l):0<=l[i]/\l[i]<1048576:=h _ (List.getElem_mem L)
theorem BN (o:List Int)(i:Nat)(d:Int):(o.set i d).take i=o.take i:=by
 rw[List.take_set,List.set_eq_of_length_le];rw[g7];omega
theorem pF (o:List Int):(aY af o).length=D o:=by rw[kP hF];omega
theorem Iq (o:List Int)(i:Nat)(h:i<D o):ho 1 (hR i (aY af o))=[.I (.int .i64 o[i])]:=by
 have wj:=LA hF (bx h) (f:=0) (n:=1) (by omega);unfold cut at wj;have:=pF o;rw[cI,n8,Z (by omega)] at wj
 simpa [af] using wj
theorem wI (o:List Int)(i:Nat)(d:Int)(h:i<D o):ho i (aY af o)++[.I (.int .i64 d)]++hR (i+1) (aY af o)=aY af (o.set i d):=by
 have:=Qt hF h d;unfold ln at this
 simpa [af] using this
theorem D9 (n:Nat):(ep n [M.I (.int .i64 0)]).flatten=aY af (ep n 0):=by
 induction n with
 |zero=>rfl
 |succ n aw=>rw[uN,uN,ko,wA,aw];rfl
theorem Ea (n:Nat)(h:n<=1000000000):n<=maxLen:=ey h (by decide)
theorem aav (l:List Int):(fk l).length<=D l:=by
 induction l with
 |nil=>simp[fk]
 |cons d r aw=>unfold fk;split<;>(try split)<;>simp<;>omega
theorem ame (l:List Int):l.take (fk l).length=fk l:=by
 induction l with
 |nil=>simp[fk]
 |cons d r aw =>
  unfold fk
  split
  ·split<;>simp
  ·simp[aw]
theorem amf (l:List Int):∀n:Nat,(aY af l).take n=aY af (l.take n):=by
 induction l with
 |nil=>intro n;simp[aY]
 |cons d r aw=>intro n;cases n with
  |zero=>simp[aY]
  |succ n=>rw[wA,Qm,wA,<-aw];rfl
theorem aaw {mem:Mem}{k g n:Nat}{o:List Int}(hm:mem k=some (g,aY af o))(aG:n<=D o):oP 1 mem (.ref k g 1 0 n)=some ((o.take n).map af):=by
 unfold oP;dsimp only;rw[hm];simp only[and_self,if_true,cI];rw[pF,Z ⟨trivial,aG⟩,amf];unfold aY;rw[wB _ λd=>rfl];have:=zO (sz:=1) ((o.take n).map af) (by intro e he;rw[fI] at he;obtain⟨x,-,rfl⟩:=he;rfl);rw[al,g7,nE aG] at this;simp only[iW,this]
theorem RV {mem:Mem}{k g:Nat}{o:List Int}{n:Nat}(hm:mem k=some (g,aY af o))(X:en o)(aI:a1 o=n):oP 1 mem (.ref k g 1 0 (fk o).length)=some ((aD n).map af):=by
 rw[aaw hm (aav o),ame,yj X,aI]
 rfl
def bN (n:Nat):Data:=.ae ((aD n).map af)
theorem aax {x y:Nat}(h:(aD x).length<(aD y).length):x<y:=by
 have E:=(gA (n:=x) (k:=(aD x).length)).1 (bM _);have H:=mt (gA (n:=y) (k:=(aD x).length)).2 (by omega);omega
theorem aay {a b:List Int}(aZ:en a)(ad:en b)(aq:(D a)=D b)(i:Nat)(L:i<D a)(X:a.drop (i+1)=b.drop (i+1))(h:a[i]<b[i]):a1 a<a1 b:=by
 rw[HU a (i+1),HU b (i+1),X,aq,kv a i L,kv b i (by omega)];have E:=yi (yp aZ i);have H:=od (yp ad i);rw[g7,nE (by omega)] at E;generalize (1048576:Int)^i=p at *
 have ab:p*a[i]+p<=p*b[i]:=by
  have:p*(a[i]+1)<=p*b[i]:=tM (by omega) (by have:=od (yp aZ i);omega);rw[hP,tN] at this;exact this
 omega
abbrev tO:Nat×Nat->List Data:=λ(x,y)=>[bN x,bN y]
def Ir:=cy tO λ(x,y)=>cW ((aD x).length<=1000000/\(aD y).length<=1000000) (.same (.int .i64 (hb x y)))
theorem wJ:∀a b,tO a=tO b->a=b:=by
  rintro⟨bh,sq⟩ ⟨cd,sr⟩ h;simp only[bf,bN,Data.ae.injEq] at h;exact eN (HT (map_inj gY _ _ h.1)) (HT (map_inj gY _ _ h.2.1))
@[go_sem] theorem RW (x:Nat)(y:Nat)(G:(aD x).length<=1000000/\(aD y).length<=1000000):Ir [bN x,bN y]=some (.same (.int .i64 (hb x y))):=(cK wJ (x,y)).trans (c6 G _)
theorem amg (T:bk)(m8:T DZ=aX LX)(x:Nat)(y:Nat)(G:(aD x).length<=1000000/\(aD y).length<=1000000):WP T Rz (.same (.int .i64 (hb x y))) [.I (bN x),.I (bN y)]:=by
 refine cH ?_;simp only[Rz];obtain⟨O,ak⟩:=G;have ss:=lW x;have qu:=lW y;have u3:=kQ x;have BO:=kQ y;have ZO:=@aax x y;have lu:=@aax y x
 by_cases aq:(aD x).length=(aD y).length
 ·generalize aZ:aD x=a at *;generalize ad:aD y=b at *;have LZ:((D a:Int)==(D b:Int))=true:=by simp[aq]
  simp only[go_sem,go_sem_proc,m8,bN,aZ,ad,LZ,al];refine dG [0,1] [] (λ(n:Nat) tm mem=>n<=D a/\a.drop n=b.drop n/\tm 5=.I (.int .i64 ((n:Int)-1))) (λn=>n) (D a) (by refine⟨bM _,by rw[Qy,aq,Qy],?_⟩;simp only[eL,reduceIte];rw[eC _]) ?_;intro vs ms aV aS;simp only[go_sem,go_sem_proc,m8,bN,aZ,ad] at aV aS;subst aV aS;rintro n tm mem J-⟨aG,X,bj⟩;simp only[go_sem,go_sem_proc,m8,bf] at J;obtain⟨ai,E⟩:=J;rcases n with _|n
  ·have e:a=b:=by simpa using X
   have mB:(x:Int)=y:=by rw[<-u3,<-BO,e]
   simp only[go_sem,go_sem_proc,m8,ai,E,bj,ku,kR,show ¬ ((0:Int)-1>=0) by omega,decide_false]
   repeat' (first|refine av ?_ ?_|fail)<;>intro h<;>simp only[h,go_sem,go_sem_proc,m8,ai,E,bj,ku,kR,show ¬ ((0:Int)-1>=0) by omega,decide_false]
   rw[mB];simp[hb]
  ·have hw:((n+1:Nat):Int)-1=(n:Int):=by omega
   have lX:a[n]?=some a[n]:=bx (by omega);have mC:b[n]?=some b[n]:=bx (by omega)
   have Y:hb a[n] b[n]=hb x y\/a[n]=b[n]:=by
    by_cases E:a[n]<b[n]
    ·left
     have:=aay ss qu aq n aG X E;simp only[hb];rw[Z (by simpa using E),Z (by simp;omega)]
    ·by_cases H:b[n]<a[n]
     ·left
      have:=aay qu ss aq.symm n (by omega) X.symm H;simp only[hb];rw[aa (by simp;omega),Z (by simp;omega),aa (by simp;omega),Z (by simp;omega)]
     ·right;omega
   by_cases aR:a[n]=b[n]
   ·simp only[go_sem,go_sem_proc,m8,ai,E,bj,hw,lX,mC,aR,af,show (n:Int)>=0 by omega,decide_true,bd,beq_self_eq_true,bf]
    repeat' (first|refine av ?_ ?_|fail)<;>intro h<;>simp only[h,go_sem,go_sem_proc,m8,ai,E,bj,hw,lX,mC,aR,af,show (n:Int)>=0 by omega,decide_true,bd,beq_self_eq_true,bf]
    exact⟨n,by omega,by omega,by rw[hL (by omega:n<D a),hL (by omega:n<D b),aR,X],by rw[eC _]⟩
   ·have sm:(a[n]==b[n])=false:=by simpa using aR
    simp only[go_sem,go_sem_proc,m8,ai,E,bj,hw,lX,mC,sm,af,show (n:Int)>=0 by omega,decide_true,bd,bf]
    repeat' (first|refine av ?_ ?_|fail)<;>intro h<;>simp only[h,go_sem,go_sem_proc,m8,ai,E,bj,hw,lX,mC,sm,af,show (n:Int)>=0 by omega,decide_true,bd,bf]
    rw[Y.resolve_right aR]
 ·have LZ:(((aD x).length:Int)==((aD y).length:Int))=false:=by simp;omega
  have Y:hb (aD x).length (aD y).length=hb x y:=by
   simp only[hb];rcases hK (aD x).length (aD y).length with h|h
   ·have:=ZO h;rw[Z (by simp;omega),Z (by simp;omega)]
   ·have:=lu (by omega);rw[aa (by simp;omega),Z (by simp;omega),aa (by simp;omega),Z (by simp;omega)]
  simp only[go_sem,go_sem_proc,m8,bN,LZ,Y,al];repeat' (first|refine av ?_ ?_|fail)<;>intro h<;>simp only[h,go_sem,go_sem_proc,m8,bN,LZ,Y,al]
theorem aaz (p u4 tu q2 c a b:Int)(h:u4+p*c=tu+q2):u4+p*((c+a+b)%1048576)+p*1048576*((c+a+b)/1048576)=tu+p*a+(q2+p*b):=by
 have E:=zW (c+a+b) 1048576
 have H:p*((c+a+b)%1048576)+p*1048576*((c+a+b)/1048576)=p*(c+a+b):=by
  rw[hQ,<-hP,E]
 have ab:p*(c+a+b)=p*c+p*a+p*b:=by rw[hP,hP]
 omega
def L0:=cy tO λ(x,y)=>cW ((aD x).length<=100000/\(aD y).length<=100000) (.own 1 ((aD (x+y)).map af))
@[go_sem] theorem aaA (x:Nat)(y:Nat)(G:(aD x).length<=100000/\(aD y).length<=100000):L0 [bN x,bN y]=some (.own 1 ((aD (x+y)).map af)):=(cK wJ (x,y)).trans (c6 G _)
theorem amh (T:bk)(ee:T pE=yg ym tL)(x:Nat)(y:Nat)(G:(aD x).length<=100000/\(aD y).length<=100000):WP T Rx (.own 1 ((aD (x+y)).map af)) [.I (bN x),.I (bN y)]:=by
 refine cH ?_;simp only[Rx];obtain⟨O,ak⟩:=G;simp only[go_sem,go_sem_proc,ee,bN,al];refine alk (λst=>∃a b:List Int,en a/\en b/\D a<=100000/\D b<=D a/\a1 a+a1 b=x+y/\st.tm 0=.I (.ae (a.map af))/\st.tm 1=.I (.ae (b.map af))/\st.mem 172019=none) (λh=>?_) (λh=>?_) ?_
 ·simp only[go_sem,go_sem_proc,ee,bN];repeat' (first|refine av ?_ ?_|fail)<;>intro h<;>simp only[h,go_sem,go_sem_proc,ee,bN]
  refine⟨aD y,aD x,lW y,lW x,ak,?_,by rw[kQ,kQ];omega,rfl,rfl⟩
  simp at h;omega
 ·simp only[go_sem,go_sem_proc,ee,bN];repeat' (first|refine av ?_ ?_|fail)<;>intro h<;>simp only[h,go_sem,go_sem_proc,ee,bN]
  refine⟨aD x,aD y,lW x,lW y,O,?_,by rw[kQ,kQ],rfl,rfl⟩
  simp at h;omega
 rintro⟨tm,mem⟩ ⟨a,b,RX,u5,j3,mD,aI,ai,E,hm⟩;dsimp only at ai E hm;have nP:IntKind.i64.wrap ((D a:Int)+1)=((D a+1:Nat):Int):=by rw[eC _];rfl
 have j2:8*(D a+1)<=140737488355328:=by omega
 have eh:(D a)+1<=maxLen:=Ea _ (by omega);simp only[go_sem,go_sem_proc,ee,ai,E,hm,nP,j2,eh,D9,al]
 refine dG [0,1,5,20,21] [] (λ(i,c,o) tm mem=>i<=D a/\(o:List Int).length=D a+1/\en (o.take i)/\0<=c/\c<=1/\a1 (o.take i)+1048576^i*c=a1 (a.take i)+a1 (b.take i)/\tm 22=.I (.int .i64 (i:Nat))/\tm 6=.I (.int .i64 c)/\mem 172019=some (0,aY af o))
  (λ(i,_)=>D a-i) (0,0,ep (D a+1) 0) (by refine⟨fr _,by simp,by simp[en],by omega,by omega,by simp[a1],?_,?_,?_⟩<;>rfl) ?_
 intro vs ms aV aS;simp only[go_sem,go_sem_proc,ee,ai,E,al] at aV aS;subst aV aS;rintro⟨i,c,o⟩ tm mem J-⟨L,bu,h3,j5,gq,iV,ri,bH,hm⟩;simp only[go_sem,go_sem_proc,ee,bf] at J;obtain⟨ai,E,bj,su,Eb⟩:=J;rcases dX (i<D a) with ao|cf
 ·have lX:a[i]?=some a[i]:=bx ao;have zM:=kx RX i ao;have e9:IntKind.i64.wrap ((i:Int)+1)=((i+1:Nat):Int):=by rw[eC _];rfl
  have sv:i<D o:=by omega
  have hp:i+1<=(aY af o).length:=by rw[pF];omega
  have iK:IntKind.i64.wrap (c+a[i])=c+a[i]:=wrap64 _ (by omega) (by omega);have gd:=λd=>wI o i d sv
  have fin:∀bi:Int,0<=bi->bi<1048576->a1 (b.take (i+1))=a1 (b.take i)+1048576^i*bi ->
    ∃a4:Nat×Int×List Int,D a-a4.1<D a-i/\a4.1<=D a/\a4.2.2.length=D a+1/\en (a4.2.2.take a4.1)/\0<=a4.2.1/\a4.2.1<=1/\a1 (a4.2.2.take a4.1)+1048576^a4.1*a4.2.1=a1 (a.take a4.1)+a1 (b.take a4.1) /\
     M.I (Data.int .i64 ((i+1:Nat):Int))=M.I (Data.int .i64 (a4.1:Int))/\M.I (Data.int .i64 ((c+a[i]+bi)/1048576))=M.I (Data.int .i64 a4.2.1)/\some (0,aY af (o.set i ((c+a[i]+bi)%1048576)))=some (0,aY af a4.2.2):=by
   intro bi rj j2 BP;refine⟨(i+1,(c+a[i]+bi)/1048576,o.set i ((c+a[i]+bi)%1048576)),by dsimp only;omega,by dsimp only;omega,by simp[bu],?_,by dsimp only;omega,by dsimp only;omega,?_,rfl,rfl,rfl⟩
   ·dsimp only;rw[aau _ (by simpa using sv),BN];refine⟨h3,?_⟩;simp only[yq];omega
   ·dsimp only;rw[kv _ _ (by simpa using sv),BN,kv a i ao,BP,my];simp only[yq];exact aaz _ _ _ _ _ _ _ iV
  rcases dX (i<D b) with qv|RY
  ·have mC:b[i]?=some b[i]:=bx qv;have tP:=kx u5 i qv;have j6:IntKind.i64.wrap (c+a[i]+b[i])=c+a[i]+b[i]:=wrap64 _ (by omega) (by omega);have hT:decide ((i:Int)<(D b:Int))=true:=dn;have iL:decide ((i:Int)<(D a:Int))=true:=dn;simp only[go_sem,go_sem_proc,ee,ai,E,bj,su,Eb,ri,bH,hm,lX,mC,e9,iK,j6,hT,iL,ao,hp,gd,qs,nO,af,cI,al,bd,bf,show i<D a+1 by omega,show ¬ ((20:Int)<0) by omega]
   repeat' (first|refine av ?_ ?_|fail)<;>intro h<;>simp only[h,go_sem,go_sem_proc,ee,ai,E,bj,su,Eb,ri,bH,hm,lX,mC,e9,iK,j6,hT,iL,ao,hp,gd,qs,nO,af,cI,al,bd,bf,show i<D a+1 by omega,show ¬ ((20:Int)<0) by omega]
   exact fin b[i] tP.1 tP.2 (kv b i qv)
  ·have hT:decide ((i:Int)<(D b:Int))=false:=dr;have iL:decide ((i:Int)<(D a:Int))=true:=dn;simp only[go_sem,go_sem_proc,ee,ai,E,bj,su,Eb,ri,bH,hm,lX,e9,iK,hT,iL,ao,hp,gd,qs,nO,af,cI,al,bd,bf,show i<D a+1 by omega,show ¬ ((20:Int)<0) by omega]
   repeat' (first|refine av ?_ ?_|fail)<;>intro h<;>simp only[h,go_sem,go_sem_proc,ee,ai,E,bj,su,Eb,ri,bH,hm,lX,e9,iK,hT,iL,ao,hp,gd,qs,nO,af,cI,al,bd,bf,show i<D a+1 by omega,show ¬ ((20:Int)<0) by omega]
   have:=fin 0 (by omega) (by omega) (by rw[dE (by omega),dE (by omega)];simp)
   simpa using this
 ·obtain rfl:i=D a:=by omega
  have iL:decide ((D a:Int)<(D a:Int))=false:=dr;have sv:(D a)<D o:=by omega
  have hp:(D a)+1<=(aY af o).length:=by rw[pF];omega
  have gd:=λd=>wI o (D a) d sv
  have RZ:en (o.set (D a) c):=by
   have:o.set (D a) c=(o.set (D a) c).take (D a+1):=by rw[dE (by simp[bu])]
   rw[this,aau _ (by simpa using sv),BN];refine⟨h3,?_⟩;simp only[yq];omega
  have R0:a1 (o.set (D a) c)=x+y:=by
   have:o.set (D a) c=(o.set (D a) c).take (D a+1):=by rw[dE (by simp[bu])]
   rw[this,kv _ _ (by simpa using sv),BN];simp only[yq];rw[iV,dE (bM _),dE mD,aI]
  have mx:=RQ (o.set (D a) c) 172019 0 (a3 mem 172019 0 (aY af (o.set (D a) c))) (by simp[a3]) (by simp[bu];omega);rw[iM,bu] at mx;have fB:=RV (mem:=a3 mem 172019 0 (aY af (o.set (D a) c))) (k:=172019) (g:=0) (n:=x+y) (by simp[a3]) RZ (by rw[R0];rfl);simp only[go_sem,go_sem_proc,ee,ai,E,bj,su,Eb,ri,bH,hm,iL,hp,gd,mx,fB,cI,al,show (D a)<D a+1 by omega]
  repeat' (first|refine av ?_ ?_|fail)<;>intro h<;>simp only[h,go_sem,go_sem_proc,ee,ai,E,bj,su,Eb,ri,bH,hm,iL,hp,gd,mx,fB,cI,al,show (D a)<D a+1 by omega]
theorem aaB (n:Int):bits .and .i64 (n/1048576) 1=n/1048576%2:=by
 generalize n/1048576=m;have H:(1:Int)=((2^1-1:Nat):Int):=by decide
 have E:m%18446744073709551616%2=m%2:=by omega
 obtain⟨a,aZ⟩:∃a:Nat,(a:Int)=m%18446744073709551616:=⟨(m%18446744073709551616).toNat,by omega⟩
 have e:BitVec.ofInt 64 m=BitVec.ofNat 64 a:=by
  apply BitVec.eq_of_toInt_eq;rw[BitVec.toInt_ofInt,BitVec.toInt_ofNat',aZ];simp[aaf,aag]
 have ay:bits .and .i64 m 1=bits .and .i64 (a:Int) 1:=by
  simp only[bits];rw[show IntKind.i64.bits=64 from rfl,e,BitVec.ofInt_natCast]
 rw[ay,<-E,<-aZ];have QH:a<2^64:=by omega
 conv=>lhs;rw[H]
 simp only[bits,BitVec.ofInt_natCast,BitVec.toNat_and,BitVec.toNat_ofNat,show IntKind.i64.bits=64 from rfl,HQ QH];rw[show (2^1-1:Nat)%2^64=2^1-1 by decide,aah,wrap64 _ (by omega) (by omega)]
 omega
theorem R1 (o:List Int)(j:Nat)(d:Int)(h:j<D o):a1 (o.set j d)=a1 o+1048576^j*(d-o[j]):=by
 induction o generalizing j with
 |nil=>simp at h
 |cons x r aw =>
  cases j with
  |zero=>simp[a1];omega
  |succ j =>
   simp only[List.set_cons_succ,sj,List.getElem_cons_succ,my];rw[aw j (by simpa using h),hP,<-hQ,mz 1048576 (1048576^j)];omega
theorem yr {o:List Int}(h:en o)(j:Nat){d:Int}(X:0<=d/\d<1048576):en (o.set j d):=by
 intro x O;rcases List.mem_or_eq_of_mem_set O with E|E
 ·exact h x E
 ·rw[E];exact X
theorem ami (p u4 tu q2 c a b:Int)(h:u4=tu-q2+p*c):u4+p*((a-c-b)%1048576)=tu+p*a-(q2+p*b)-p*1048576*((a-c-b)/1048576):=by
 have E:=zW (a-c-b) 1048576
 have H:p*((a-c-b)%1048576)+p*1048576*((a-c-b)/1048576)=p*(a-c-b):=by
  rw[hQ,<-hP,E]
 have ab:p*(a-c-b)=p*a-p*c-p*b:=by rw[Ec,Ec]
 omega
def L1:=cy tO λ(x,y)=>cW ((aD x).length<=100000/\y<=x) (.own 1 ((aD (x-y)).map af))
@[go_sem] theorem R2 (x:Nat)(y:Nat)(G:(aD x).length<=100000/\y<=x):L1 [bN x,bN y]=some (.own 1 ((aD (x-y)).map af)):=(cK wJ (x,y)).trans (c6 G _)
theorem amj (T:bk)(fW:T wF=aX BM)(ee:T pE=yg ym tL)(x:Nat)(y:Nat)(G:(aD x).length<=100000/\y<=x):WP T Ry (.own 1 ((aD (x-y)).map af)) [.I (bN x),.I (bN y)]:=by
 refine cH ?_;simp only[Ry];obtain⟨O,aaC⟩:=G;have ss:=lW x;have qu:=lW y;have u3:=kQ x;have BO:=kQ y
 have j7:(aD y).length<=(aD x).length:=by
  rw[gA];exact sw aaC (gA.1 (bM _))
 generalize aZ:aD x=a at *;generalize ad:aD y=b at *;have j3:(D a)<=1000000:=by omega
 simp only[go_sem,go_sem_proc,fW,ee,bN,aZ,ad,j3,al]
 refine dG [1,5,12] [] (λ(i,c,o) tm mem=>i<=D a/\(o:List Int).length=D a/\en o/\o.drop i=a.drop i/\(c=0\/c=1)/\a1 (o.take i)=a1 (a.take i)-a1 (b.take i)+1048576^i*c/\tm 13=.I (.int .i64 (i:Nat))/\tm 6=.I (.int .i64 c)/\mem 173010=some (0,aY af o))
  (λ(i,_)=>D a-i) (0,0,a) (by refine⟨fr _,rfl,ss,rfl,.inl rfl,by simp[a1],?_,?_,?_⟩<;>rfl) ?_
 intro vs ms aV aS;simp only[go_sem,go_sem_proc,fW,ee,bN,aZ,ad,al] at aV aS;subst aV aS;rintro⟨i,c,o⟩ tm mem J-⟨L,bu,h3,wK,amk,iV,m9,bH,hm⟩;simp only[go_sem,go_sem_proc,fW,ee,bf] at J;obtain⟨E,bj,hS⟩:=J;rcases dX (i<D a) with ao|cf
 ·have sv:i<D o:=by omega
  have aml:o[i]=a[i]:=by
   have E:=hL sv;have H:=hL ao;rw[wK,H] at E;exact (u6 E).1.symm
  have zM:=kx ss i ao;have e9:IntKind.i64.wrap ((i:Int)+1)=((i+1:Nat):Int):=by rw[eC _];rfl
  have hp:i+1<=(aY af o).length:=by rw[pF];omega
  have iN:=Iq o i sv;rw[aml] at iN;have iK:IntKind.i64.wrap (a[i]-c)=a[i]-c:=wrap64 _ (by omega) (by omega);have gd:=λd=>wI o i d sv
  have fin:∀bi:Int,0<=bi->bi<1048576->a1 (b.take (i+1))=a1 (b.take i)+1048576^i*bi ->
    ∃a4:Nat×Int×List Int,D a-a4.1<D a-i/\a4.1<=D a/\a4.2.2.length=D a/\en a4.2.2/\a4.2.2.drop a4.1=a.drop a4.1/\(a4.2.1=0\/a4.2.1=1)/\a1 (a4.2.2.take a4.1)=a1 (a.take a4.1)-a1 (b.take a4.1)+1048576^a4.1*a4.2.1 /\
     M.I (Data.int .i64 ((i+1:Nat):Int))=M.I (Data.int .i64 (a4.1:Int))/\M.I (Data.int .i64 ((a[i]-c-bi)/1048576%2))=M.I (Data.int .i64 a4.2.1)/\some (0,aY af (o.set i ((a[i]-c-bi)%1048576)))=some (0,aY af a4.2.2):=by
   intro bi rj j2 BP;have a9:(a[i]-c-bi)/1048576=0\/(a[i]-c-bi)/1048576 = -1:=by omega
   refine⟨(i+1,(a[i]-c-bi)/1048576%2,o.set i ((a[i]-c-bi)%1048576)),by dsimp only;omega,by dsimp only;omega,by simp[bu],yr h3 i (by omega),?_,by dsimp only;omega,?_,rfl,rfl,rfl⟩
   ·dsimp only;rw[sa (by omega)];have E:=hL sv;have H:=hL ao;rw[wK,H] at E;exact (u6 E).2.symm
   ·dsimp only;rw[kv _ _ (by simpa using sv),BN,kv a i ao,BP,my];simp only[yq];rw[ami _ _ _ _ _ _ _ iV];rcases a9 with e|e<;>rw[e]<;>simp
  have iL:decide ((i:Int)<(D a:Int))=true:=dn;rcases dX (i<D b) with qv|RY
  ·have mC:b[i]?=some b[i]:=bx qv;have tP:=kx qu i qv;have j6:IntKind.i64.wrap (a[i]-c-b[i])=a[i]-c-b[i]:=wrap64 _ (by omega) (by omega);have hT:decide ((i:Int)<(D b:Int))=true:=dn;refine a7 ?_;repeat' (intro h<;>simp only[h,go_sem,go_sem_proc,fW,ee,E,bj,hS,m9,bH,hm,mC,e9,iK,j6,hT,iL,ao,hp,iN,gd,qs,aaB,nO,af,cI,al,bd,bf,show ¬ ((20:Int)<0) by omega]<;>try refine av ?_ ?_)
   exact fin b[i] tP.1 tP.2 (kv b i qv)
  ·have hT:decide ((i:Int)<(D b:Int))=false:=dr;refine a7 ?_;repeat' (intro h<;>simp only[h,go_sem,go_sem_proc,fW,ee,E,bj,hS,m9,bH,hm,e9,iK,hT,iL,ao,hp,iN,gd,qs,aaB,nO,af,cI,al,bd,bf,show ¬ ((20:Int)<0) by omega]<;>try refine av ?_ ?_)
   have:=fin 0 (by omega) (by omega) (by rw[dE (by omega),dE (by omega)];simp)
   simpa using this
 ·obtain rfl:i=D a:=by omega
  have iL:decide ((D a:Int)<(D a:Int))=false:=dr;rw[dE (by omega),dE (by omega),dE (by omega),u3,BO] at iV
  have R0:a1 o=((x-y:Nat):Int):=by
   have E:=yi h3;rw[bu] at E;rcases amk with rfl|rfl
   ·rw[iV];omega
   ·omega
  have mx:=RQ o 173010 0 mem hm (by omega);rw[bu] at mx;have fB:=RV hm h3 R0;refine a7 ?_;repeat' (intro h<;>simp only[h,go_sem,go_sem_proc,fW,ee,E,bj,hS,m9,bH,hm,iL,mx,fB,al]<;>try refine av ?_ ?_)
theorem aaD (p u4 V c x y yt:Int)(h:u4+p*c=V):u4+p*((yt+x*y+c)%1048576-yt)+p*1048576*((yt+x*y+c)/1048576)=V+p*(x*y):=by
 have E:=zW (yt+x*y+c) 1048576
 have H:p*((yt+x*y+c)%1048576)+p*1048576*((yt+x*y+c)/1048576)=p*(yt+x*y+c):=by
  rw[hQ,<-hP,E]
 have ab:p*(yt+x*y+c)=p*yt+p*(x*y)+p*c:=by rw[hP,hP]
 rw[Ec];omega
theorem aaE {o x y c:Int}(bu:0<=o/\o<1048576)(O:0<=x/\x<1048576)(ak:0<=y/\y<1048576)(G:0<=c/\c<1048576):
  0<=x*y/\x*y<=1099509530625/\0<=(o+x*y+c)/1048576/\(o+x*y+c)/1048576<1048576:=by
 have E:0<=x*y:=qw O.1 ak.1;have H:x*y<=1048575*1048575:=Ed (by omega) (by omega) ak.1 (by omega);omega
theorem aaF {o:List Int}{n j:Nat}(h:o.drop n=ep (D o-n) 0)(ag:n<=j)(ao:j<D o):o[j]=0:=by
 have E:(o.drop n)[j-n]?=some o[j]:=by rw[uM,show n+(j-n)=j by omega,bx ao]
 rw[h,List.getElem?_replicate] at E
 split at E
 ·exact (m4 E).symm
 ·cases E
theorem aaG {o:List Int}{n:Nat}{d:Int}(h:o.drop n=ep (D o-n) 0)(ao:n<D o):(o.set n d).drop (n+1)=ep ((o.set n d).length-(n+1)) 0:=by
 rw[sa (by omega),iM];have E:=hL ao;rw[h,show (D o)-n=(D o-(n+1))+1 by omega,uN] at E
 exact (u6 E).2.symm
def L2:=cy tO λ(x,y)=>cW ((aD x).length<=10000/\(aD y).length<=10000) (.own 1 ((aD (x*y)).map af))
@[go_sem] theorem R3 (x:Nat)(y:Nat)(G:(aD x).length<=10000/\(aD y).length<=10000):L2 [bN x,bN y]=some (.own 1 ((aD (x*y)).map af)):=(cK wJ (x,y)).trans (c6 G _)
theorem amm (T:bk)(ee:T pE=yg ym tL)(x:Nat)(y:Nat)(G:(aD x).length<=10000/\(aD y).length<=10000):WP T Rw (.own 1 ((aD (x*y)).map af)) [.I (bN x),.I (bN y)]:=by
 refine cH ?_;simp only[Rw];obtain⟨O,ak⟩:=G;have ss:=lW x;have qu:=lW y;have u3:=kQ x;have BO:=kQ y;generalize aZ:aD x=a at *;generalize ad:aD y=b at *;have nP:IntKind.i64.wrap ((D a:Int)+(D b:Int))=((D a+D b:Nat):Int):=by rw[eC _];rfl
 have j2:8*(D a+D b)<=140737488355328:=by omega
 have eh:(D a)+D b<=maxLen:=Ea _ (by omega);simp only[go_sem,go_sem_proc,ee,bN,aZ,ad,nP,j2,eh,D9,al]
 refine dG [1,5,18,19] [] (λ(i,o) tm mem=>i<=D a/\(o:List Int).length=D a+D b/\en o/\o.drop (i+D b)=ep (D o-(i+D b)) 0/\a1 o=a1 (a.take i)*y/\tm 20=.I (.int .i64 (i:Nat))/\mem 161017=some (0,aY af o))
  (λ(i,_)=>D a-i) (0,ep (D a+D b) 0) (by
   have aR:∀n,a1 (ep n 0)=0:=by
    intro n
    induction n with
    |zero=>rfl
    |succ n aw=>rw[uN,sj,aw];rfl
   refine⟨fr _,by simp,λd X=>by rw[Ee] at X;omega,by simp,by rw[aR];simp[a1],?_,?_⟩<;>rfl) ?_
 intro vs ms aV aS;simp only[go_sem,go_sem_proc,ee,bN,aZ,ad,nP,al] at aV aS;subst aV aS;rintro⟨i,o⟩ tm mem J-⟨L,bu,h3,rl,iV,su,hm⟩;simp only[go_sem,go_sem_proc,ee,bf] at J;obtain⟨E,bj,jb,u7⟩:=J;rcases dX (i<D a) with ao|cf
 ·have lX:a[i]?=some a[i]:=bx ao;have zM:=kx ss i ao;have sc:=kv a i ao;generalize a[i]=hq at *;have hT:decide ((i:Int)<(D a:Int))=true:=dn;simp only[go_sem,go_sem_proc,ee,E,bj,jb,u7,su,lX,hT,af,al,bd,bf]
  refine dG [1,5,6,7,18,19,20,25,26] [] (λ((k,c,o):Nat×Int×List Int) tm mem=>k<=D b/\D o=D a+D b/\en o/\o.drop (i+D b)=ep (D o-(i+D b)) 0/\0<=c/\c<1048576/\a1 o+1048576^(i+k)*c=a1 (a.take i)*y+1048576^i*(hq*a1 (b.take k)) /\
    tm 27=.I (.int .i64 (k:Nat))/\tm 8=.I (.int .i64 c)/\mem 161017=some (0,aY af o))
   (λ(k,_)=>D b-k) (0,0,o) (by refine⟨fr _,bu,h3,rl,by omega,by omega,by simp[a1,iV],?_,?_,hm⟩<;>rfl) ?_
  intro vs ms aV aS;simp only[go_sem,go_sem_proc,ee,E,bj,jb,u7,su,af,al] at aV aS;subst aV aS;rintro⟨k,c,o⟩ tm mem J-⟨sb,bu,h3,rl,j5,gq,iV,aaH,bT,hm⟩;simp only[go_sem,go_sem_proc,ee,bf] at J;obtain⟨E,bj,bH,bA,jb,u7,su,aaI,aaJ⟩:=J;rcases dX (k<D b) with Is|Is
  ·have mC:b[k]?=some b[k]:=bx Is;have Ef:=kx qu k Is;have oT:i+k<D o:=by omega
   have R4:=kx h3 (i+k) oT;obtain⟨dD,bY,na,nQ⟩:=aaE R4 zM Ef ⟨j5,gq⟩;have hT:decide ((k:Int)<(D b:Int))=true:=dn;have e9:IntKind.i64.wrap ((k:Int)+1)=((k+1:Nat):Int):=by rw[eC _];rfl
   have iK:IntKind.i64.wrap ((i:Int)+(k:Int))=((i+k:Nat):Int):=by rw[eC _];rfl
   have j6:IntKind.i64.wrap (hq*b[k])=hq*b[k]:=wrap64 _ (by omega) (by omega);have yu:IntKind.i64.wrap (o[i+k]+hq*b[k])=o[i+k]+hq*b[k]:=wrap64 _ (by omega) (by omega);have tQ:IntKind.i64.wrap (o[i+k]+hq*b[k]+c)=o[i+k]+hq*b[k]+c:=wrap64 _ (by omega) (by omega);have hp:i+k+1<=(aY af o).length:=by rw[pF];omega
   have iN:=Iq o (i+k) oT;have gd:=λd=>wI o (i+k) d oT;have jV:i+k<D a+D b:=by omega
   refine a7 ?_;repeat' (intro h<;>simp only[h,go_sem,go_sem_proc,ee,E,bj,bH,bA,jb,u7,su,aaI,aaJ,aaH,bT,hm,mC,hT,e9,iK,j6,yu,tQ,jV,hp,iN,gd,qs,nO,af,cI,al,bd,bf,show ¬ ((20:Int)<0) by omega]<;>try refine av ?_ ?_)
   refine⟨(k+1,(o[i+k]+hq*b[k]+c)/1048576,o.set (i+k) ((o[i+k]+hq*b[k]+c)%1048576)),by dsimp only;omega,by dsimp only;omega,by simp[bu],yr h3 _ (by omega),?_,na,nQ,?_,rfl,rfl,rfl⟩
   ·dsimp only;rw[sa (by omega),iM,rl]
   ·dsimp only;rw[R1 _ _ _ oT,kv b k Is,<-rZ,my,aaD _ _ _ _ _ _ _ iV];rw[hP (hq),hP (1048576^i),aaK]
    have:(1048576:Int)^i*(hq*(1048576^k*b[k]))=1048576^i*1048576^k*(hq*b[k]):=by
     rw[<-hQ (hq),mz (hq) (1048576^k),hQ (1048576^k),<-hQ]
    omega
  ·obtain rfl:k=D b:=by omega
   have hT:decide ((D b:Int)<(D b:Int))=false:=dr;have oT:i+D b<D o:=by omega
   have aR:=aaF rl (bM _) oT;have e9:IntKind.i64.wrap ((i:Int)+1)=((i+1:Nat):Int):=by rw[eC _];rfl
   have iK:IntKind.i64.wrap ((i:Int)+(D b:Int))=((i+D b:Nat):Int):=by rw[eC _];rfl
   have j6:IntKind.i64.wrap (0+c)=c:=by rw[BQ];exact wrap64 _ (by omega) (by omega)
   have hp:i+D b+1<=(aY af o).length:=by rw[pF];omega
   have iN:=Iq o (i+D b) oT;rw[aR] at iN;have gd:=λd=>wI o (i+D b) d oT;have jV:i+D b<D a+D b:=by omega
   refine a7 ?_;repeat' (intro h<;>simp only[h,go_sem,go_sem_proc,ee,E,bj,bH,bA,jb,u7,su,aaI,aaJ,aaH,bT,hm,hT,e9,iK,j6,jV,hp,iN,gd,af,cI,al]<;>try refine av ?_ ?_)
   refine⟨(i+1,o.set (i+D b) c),by dsimp only;omega,by dsimp only;omega,by simp[bu],yr h3 _ ⟨j5,gq⟩,?_,?_,rfl,rfl⟩
   ·dsimp only;have:=aaG (d:=c) rl oT;rwa [show i+D b+1=i+1+(D b) by omega] at this
   ·dsimp only;rw[R1 _ _ _ oT,aR,sc];rw[dE (bM _),BO] at iV;rw[It,iV,sx,hQ]
 ·obtain rfl:i=D a:=by omega
  have hT:decide ((D a:Int)<(D a:Int))=false:=dr;rw[dE (bM _),u3] at iV;have mx:=RQ o 161017 0 mem hm (by omega);rw[bu] at mx;have fB:=RV hm h3 (n:=x*y) (by rw[iV];rfl);refine a7 ?_;repeat' (intro h<;>simp only[h,go_sem,go_sem_proc,ee,E,bj,jb,u7,su,hm,hT,mx,fB,al]<;>try refine av ?_ ?_)
abbrev R5:Nat×Int->List Data:=λ(x,d)=>[bN x,.int .i64 d]
def R6:=cy R5 λ(x,d)=>cW ((aD x).length<=100000/\0<d/\d<1048576) (.same (.cq [bN (x/d.toNat),.int .i64 (x%d.toNat:Nat)]))
theorem amn:∀a b,R5 a=R5 b->a=b:=by
  rintro⟨bh,d1⟩ ⟨cd,d2⟩ h;simp only[bf,bN,Data.ae.injEq,Data.int.injEq] at h;exact eN (HT (map_inj gY _ _ h.1)) h.2.1.2
@[go_sem] theorem aaL (x:Nat)(d:Int)(G:(aD x).length<=100000/\0<d/\d<1048576):R6 [bN x,.int .i64 d]=some (.same (.cq [bN (x/d.toNat),.int .i64 (x%d.toNat:Nat)])):=(cK amn (x,d)).trans (c6 G _)
theorem amo (T:bk)(ee:T pE=yg ym tL)(x:Nat)(d:Int)(G:(aD x).length<=100000/\0<d/\d<1048576):WP T RA (.same (.cq [bN (x/d.toNat),.int .i64 (x%d.toNat:Nat)])) [.I (bN x),.I (.int .i64 d)]:=by
 refine cH ?_;simp only[RA];obtain⟨O,zX,jw⟩:=G;have ss:=lW x;have u3:=kQ x;generalize aZ:aD x=a at *;have j2:8*D a<=140737488355328:=by omega
 have eh:(D a)<=maxLen:=Ea _ (by omega);have kS:(d=0)=False:=by simp;omega
 simp only[go_sem,go_sem_proc,ee,bN,aZ,j2,eh,D9,al]
 refine dG [0,1,6] [] (λ((n,r,o):Nat×Int×List Int) tm mem=>n<=D a/\D o=D a/\en o/\0<=r/\r<d/\a1 (a.drop n)=d*a1 (o.drop n)+r/\tm 8=.I (.int .i64 ((n:Nat)-1))/\tm 7=.I (.int .i64 r)/\mem 176011=some (0,aY af o))
  (λ(n,_)=>n) (D a,0,ep (D a) 0) (by
   refine⟨bM _,by simp,λd X=>by rw[Ee] at X;omega,by omega,by omega,by simp[a1],?_,?_,?_⟩
   ·simp only[eL,reduceIte];rw[eC _]
   ·rfl
   ·rfl) ?_
 intro vs ms aV aS;simp only[go_sem,go_sem_proc,ee,bN,aZ,al] at aV aS;subst aV aS;rintro⟨n,r,o⟩ tm mem J-⟨aG,bu,h3,oU,Eg,aI,bT,bA,hm⟩;simp only[go_sem,go_sem_proc,ee,bf] at J;obtain⟨ai,E,bH⟩:=J;rcases n with _|n
 ·have a9:a1 o=(x/d.toNat:Nat)/\r=(x%d.toNat:Nat):=by
   rw[mv,mv,u3] at aI;have e:(d.toNat:Int)=d:=by omega
   constructor
   ·rw[aaM,e,aI,wL,aaN _ _ (by omega),R7 oU Eg];omega
   ·rw[aaO,e,aI,wL,aaP,R8 oU Eg]
  have iI:=LV o (by omega);rw[yj h3,a9.1] at iI;have fg:M.ref 176011 0 1 0 (D a)=M.ref 176011 0 1 0 (D o):=by rw[bu]
  rw[fg] at bH;refine a7 ?_;repeat' (intro h<;>simp only[h,go_sem,go_sem_proc,ee,ai,E,bH,bA,bT,hm,iI,lV hF,ku,kR,show ¬ ((0:Int)-1>=0) by omega,decide_false,gZ]<;>try refine av ?_ ?_)
  all_goals rw[a9.2]
 ·have lX:a[n]?=some a[n]:=bx (by omega);have L3:=kx ss n (by omega);have hw:((n+1:Nat):Int)-1=(n:Int):=by omega
  have jt:n<D o:=by omega
  have e9:IntKind.i64.wrap (r*2^min (Bz 20) 64)=r*1048576:=by
   rw[show min (Bz 20) 64=20 by decide]
   exact wrap64 _ (by omega) (by omega)
  have u9:bits .or .i64 (r*1048576) a[n]=r*1048576+a[n]:=QI r a[n] oU (by omega) L3;have lC:0<=(r*1048576+a[n])/d:=zY (by omega) (by omega)
  have rm:(r*1048576+a[n])/d<1048576:=aaQ zX (by
   have:(r+1)*1048576<=d*1048576:=lY (by omega) (by omega);rw[mz 1048576 d];omega)
  have tR:(r*1048576+a[n]).tdiv d=(r*1048576+a[n])/d:=yv (by omega);have R9:(r*1048576+a[n]).tmod d=(r*1048576+a[n])%d:=zZ (by omega);have iK:IntKind.i64.wrap ((r*1048576+a[n])/d)=(r*1048576+a[n])/d:=wrap64 _ (by omega) (by omega);have hp:n+1<=(aY af o).length:=by rw[pF];omega
  have gd:=λd=>wI o n d jt;have iX:n<D a:=by omega
  have j6:IntKind.i64.wrap ((n:Int)-1)=(n:Int)-1:=wrap64 _ (by omega) (by omega);refine a7 ?_;repeat' (intro h<;>simp only[h,go_sem,go_sem_proc,ee,ai,E,bH,bA,bT,hm,hw,lX,e9,u9,tR,R9,iK,j6,kS,iX,hp,gd,show (n:Int)>=0 by omega,decide_true,af,cI,al,bd,bf,show ¬ ((20:Int)<0) by omega]<;>try refine av ?_ ?_)
  refine⟨(n,(r*1048576+a[n])%d,o.set n ((r*1048576+a[n])/d)),by dsimp only;omega,by dsimp only;omega,by simp[bu],yr h3 n ⟨lC,rm⟩,BR _ (by omega),Sa _ zX,?_,rfl,rfl,rfl⟩
  dsimp only;rw[hL (by omega:n<D a),hL (by simpa using jt:n<(o.set n ((r*1048576+a[n])/d)).length),sj,sj]
  simp only[yq];rw[sa (by omega),aI];have:=zW (r*1048576+a[n]) d;rw[hP,hP,Sb d 1048576];omega
def pad:Nat->Nat->List Int
 |0,_=>[]
 |n+1,x=>((x%1048576:Nat):Int)::pad n (x/1048576)
theorem amp (n x:Nat):(pad n x).length=n:=by
 induction n generalizing x with
 |zero=>rfl
 |succ n aw=>simp[pad,aw]
theorem amq (n x:Nat):en (pad n x):=by
 induction n generalizing x with
 |zero=>intro d X;cases X
 |succ n aw =>
  unfold pad;rw[Bu];exact⟨by omega,aw _⟩
theorem aaR {l:List Int}(h:en l):l=pad (D l) (a1 l).toNat:=by
 induction l with
 |nil=>rfl
 |cons d r aw =>
  rw[Bu] at h;have E:=od h.2;have H:=aw h.2;simp only[kJ,pad,sj]
  congr 1
  ·omega
  ·rw[show (d+1048576*a1 r).toNat/1048576=(a1 r).toNat by omega]
   exact H
theorem amr {n x:Nat}(h:x<1048576^n):a1 (pad n x)=x:=by
 induction n generalizing x with
 |zero=>simp at h;subst h;rfl
 |succ n aw =>
  unfold pad;rw[sj,aw (by rw[aae (by omega)];rwa [uZ] at h)];omega
theorem Iu {pre u post:List Int}{i:Nat}(h:i<D u):ho 1 (hR (D pre+i) (aY af (pre++u++post)))=[.I (.int .i64 u[i])]:=by
 rw[Iq _ _ (by simp;omega)]
 congr 3
 simp[List.getElem_append,h]
theorem aaS {pre u post:List Int}{i:Nat}(h:i<D u)(d:Int):ho (D pre+i) (aY af (pre++u++post))++[.I (.int .i64 d)]++hR (D pre+i+1) (aY af (pre++u++post))=aY af (pre++u.set i d++post):=by
 rw[wI _ _ _ (by simp;omega)]
 congr 1
 rw[gK,List.set_append_right _ _ (by omega),DQ,List.set_append_left _ _ h,gK]
theorem z0 (mem:Mem)(k g df:Nat)(a b:List M):a3 (a3 mem k g a) k df b=a3 mem k df b:=by
 funext j
 unfold a3
 split<;>rfl
theorem ams {mem:Mem}{k g:Nat}{a:List M}(h:mem k=some (g,a)):a3 mem k g a=mem:=by
 funext j
 unfold a3
 split
 ·rename_i e;rw[e,h]
 ·rfl
structure Iv where
 pre:List Int
 u:List Int
 post:List Int
 V:Nat
 q:Int
 k:Key
 g:Nat
def L4 (u:List Int)(V:Nat)(q:Int):Int:=if a1 u-q*V<0 then a1 u-q*V+V else a1 u-q*V
def z1 (u:List Int)(V:Nat)(q:Int):Int:=if a1 u-q*V<0 then q-1 else q
def z2 (a:Iv):List M:=aY af (a.pre++pad (D a.u) (L4 a.u a.V a.q).toNat++a.post)
def Sc (a:Iv)(mem:Mem):Prop:=mem a.k=some (a.g,aY af (a.pre++a.u++a.post))/\en a.u/\(aD a.V).length<=D a.u/\0<=a.q/\a.q<1048576/\0<=a1 a.u-a.q*a.V+a.V/\D a.pre+D a.u<=100000
def Iw:List M->Mem->Option (M×Mem):=DS (λ(a:Iv) args mem=>args=[.ref a.k a.g 1 (D a.pre) (D a.u),.I (bN a.V),.I (.int .i64 a.q)]/\Sc a mem)
 (λa mem=>(.I (.int .i64 (z1 a.u a.V a.q)),a3 mem a.k a.g (z2 a)))
theorem amt {a b:Nat}(h:bN a=bN b):a=b:=HT (map_inj gY _ _ (by simpa [bN] using h))
theorem amu (a:Iv)(mem:Mem)(h:Sc a mem):Iw [.ref a.k a.g 1 (D a.pre) (D a.u),.I (bN a.V),.I (.int .i64 a.q)] mem=some (.I (.int .i64 (z1 a.u a.V a.q)),a3 mem a.k a.g (z2 a)):=by
 unfold Iw;refine Z9 (a:=a) ?_ ⟨rfl,h⟩;rintro a b args mem ⟨E,H,_⟩ ⟨ab,aM,_⟩;rw[E] at ab;simp only[bf,M.ref.injEq,M.I.injEq,Data.int.injEq,true_and,and_true] at ab;obtain⟨⟨Im,LW,L5,aaT⟩,aaU,eq⟩:=ab;have aaV:=amt aaU;clear aaU;obtain⟨pre,u,post,V,q,k,g⟩:=a;obtain⟨aBs,yw,aBt,aBu,sy,k',df⟩:=b;simp only at Im LW L5 aaT aaV eq H aM;subst Im LW aaV eq;rw[aM] at H;simp only[b8,fv,true_and] at H;have e:=RP hF gY _ _ H (by omega);rw[gK,gK] at e;obtain⟨aA,ay⟩:=D6 e L5.symm;obtain⟨cV,da⟩:=D6 ay aaT.symm;subst aA cV da
 rfl
theorem amv (p u4 tu q2 c a b q:Int)(h:u4=tu-q*q2+p*c):u4+p*((a-c-q*b)%1048576)=tu+p*a-q*(q2+p*b)+p*1048576*(-((a-c-q*b)/1048576)):=by
 have E:=zW (a-c-q*b) 1048576
 have H:p*((a-c-q*b)%1048576)+p*1048576*((a-c-q*b)/1048576)=p*(a-c-q*b):=by
  rw[hQ,<-hP,E]
 have ab:p*(a-c-q*b)=p*a-p*c-p*(q*b):=by rw[Ec,Ec]
 have aM:q*(q2+p*b)=q*q2+p*(q*b):=by rw[hP,Sb]
 rw[Eh];omega
theorem aaW {a c q b:Int}(aZ:0<=a/\a<1048576)(G:0<=c/\c<=1048576)(a9:0<=q/\q<1048576)(ad:0<=b/\b<1048576):
  0<=q*b/\q*b<=1099509530625/\0 <= -((a-c-q*b)/1048576) /\ -((a-c-q*b)/1048576)<=1048576:=by
 have E:0<=q*b:=qw a9.1 ad.1;have H:q*b<=1048575*1048575:=Ed (by omega) (by omega) ad.1 (by omega);omega
theorem amw (T:bk)(a:Iv)(eb:Mem)(G:Sc a eb):
  wp T LS.body (DR LS.res (.I (.int .i64 (z1 a.u a.V a.q))) (a3 eb a.k a.g (z2 a))) ⟨mj [.ref a.k a.g 1 (D a.pre) (D a.u),.I (bN a.V),.I (.int .i64 a.q)],eb⟩:=by
 obtain⟨pre,u,post,V,q,k,g⟩:=a;obtain⟨r6,tS,PT,lC,rm,lZ,hlen⟩:=G;simp only at r6 tS PT lC rm lZ hlen ⊢;have yx:=lW V;have HF:=kQ V;have Sd:=gA.1 PT;refine wo ?_;simp only[LS];simp only[go_sem,go_sem_proc,bN];generalize ad:aD V=v at *
 refine dG [0,1,2,13] [] (λ((i,c,w):Nat×Int×List Int) tm mem=>i<=D u/\D w=D u/\en w/\w.drop i=u.drop i/\(0<=c/\c<=1048576)/\a1 (w.take i)=a1 (u.take i)-q*a1 (v.take i)+1048576^i*c/\tm 14=.I (.int .i64 (i:Nat))/\tm 7=.I (.int .i64 c)/\mem=a3 eb k g (aY af (pre++w++post)))
  (λ(i,_)=>D u-i) (0,0,u) (by refine⟨fr _,rfl,tS,rfl,by omega,by simp[a1],rfl,rfl,(ams r6).symm⟩) ?_
 intro vs ms aV aS;simp only[go_sem,go_sem_proc] at aV aS;subst aV aS;rintro⟨i,c,w⟩ tm _ J-⟨L,hw,qx,wK,G,iV,va,bA,rfl⟩;simp only[go_sem,go_sem_proc,bf] at J;obtain⟨ai,E,H,m9⟩:=J;rcases dX (i<D u) with ao|cf
 ·have wM:i<D w:=by omega
  have amx:w[i]=u[i]:=by
   have E:=hL wM;rw[wK,hL ao] at E;exact (u6 E).1.symm
  have sA:w.drop (i+1)=u.drop (i+1):=by
   have E:=hL wM;rw[wK,hL ao] at E;exact (u6 E).2.symm
  have iN:=Iu (pre:=pre) (post:=post) wM;rw[amx] at iN;have aaX:=kx tS i ao;have sc:=kv u i ao;generalize u[i]=tT at *;have e9:IntKind.i64.wrap ((i:Int)+1)=((i+1:Nat):Int):=by rw[eC _];rfl
  have iK:IntKind.i64.wrap (tT-c)=tT-c:=wrap64 _ (by omega) (by omega);have hp:(D pre)+i+1<=(aY af (pre++w++post)).length:=by rw[pF];simp;omega
  have gd:=λd=>aaS (pre:=pre) (post:=post) wM d;have iL:decide ((i:Int)<(D u:Int))=true:=dn
  have fin:∀bi:Int,0<=bi->bi<1048576->a1 (v.take (i+1))=a1 (v.take i)+1048576^i*bi ->
    ∃a4:Nat×Int×List Int,D u-a4.1<D u-i/\a4.1<=D u/\a4.2.2.length=D u/\en a4.2.2/\a4.2.2.drop a4.1=u.drop a4.1/\(0<=a4.2.1/\a4.2.1<=1048576)/\a1 (a4.2.2.take a4.1)=a1 (u.take a4.1)-q*a1 (v.take a4.1)+1048576^a4.1*a4.2.1 /\
     M.I (Data.int .i64 ((i+1:Nat):Int))=M.I (Data.int .i64 (a4.1:Int))/\M.I (Data.int .i64 (-((tT-c-q*bi)/1048576)))=M.I (Data.int .i64 a4.2.1)/\a3 eb k g (aY af (pre++w.set i ((tT-c-q*bi)%1048576)++post))=a3 eb k g (aY af (pre++a4.2.2++post)):=by
   intro bi rj j2 BP;obtain⟨dD,bY,na,nQ⟩:=aaW aaX G ⟨lC,rm⟩ ⟨rj,j2⟩;refine⟨(i+1,-((tT-c-q*bi)/1048576),w.set i ((tT-c-q*bi)%1048576)),by dsimp only;omega,by dsimp only;omega,by simp[hw],yr qx i (by omega),?_,⟨na,nQ⟩,?_,rfl,rfl,rfl⟩
   ·dsimp only;rw[sa (by omega),sA]
   ·dsimp only;rw[kv _ _ (by simpa using wM),BN,sc,BP,my];simp only[yq];exact amv _ _ _ _ _ _ _ _ iV
  rcases dX (i<D v) with qv|RY
  ·have mC:v[i]?=some v[i]:=bx qv;have tP:=kx yx i qv;have Se:=kv v i qv;generalize v[i]=bi at *;obtain⟨dD,bY,na,nQ⟩:=aaW aaX G ⟨lC,rm⟩ tP;have j6:IntKind.i64.wrap (q*bi)=q*bi:=wrap64 _ (by omega) (by omega);have yu:IntKind.i64.wrap (tT-c-q*bi)=tT-c-q*bi:=wrap64 _ (by omega) (by omega);have tQ:IntKind.i64.wrap (0-(tT-c-q*bi)/1048576) = -((tT-c-q*bi)/1048576):=by rw[eC _];omega
   have hT:decide ((i:Int)<(D v:Int))=true:=dn;simp only[go_sem,go_sem_proc,ai,E,H,m9,va,bA,mC,e9,iK,j6,yu,tQ,hT,iL,ao,hp,iN,gd,z0,qs,nO,af,cI,al,bd,bf,show ¬ ((20:Int)<0) by omega]
   repeat' (first|refine av ?_ ?_|fail)<;>intro h<;>simp only[h,go_sem,go_sem_proc,ai,E,H,m9,va,bA,mC,e9,iK,j6,yu,tQ,hT,iL,ao,hp,iN,gd,z0,qs,nO,af,cI,al,bd,bf,show ¬ ((20:Int)<0) by omega]
   exact fin bi tP.1 tP.2 Se
  ·have hT:decide ((i:Int)<(D v:Int))=false:=dr;have tQ:IntKind.i64.wrap (0-(tT-c)/1048576) = -((tT-c)/1048576):=by rw[eC _];omega
   simp only[go_sem,go_sem_proc,ai,E,H,m9,va,bA,e9,iK,tQ,hT,iL,ao,hp,iN,gd,z0,qs,nO,af,cI,al,bd,bf,show ¬ ((20:Int)<0) by omega]
   repeat' (first|refine av ?_ ?_|fail)<;>intro h<;>simp only[h,go_sem,go_sem_proc,ai,E,H,m9,va,bA,e9,iK,tQ,hT,iL,ao,hp,iN,gd,z0,qs,nO,af,cI,al,bd,bf,show ¬ ((20:Int)<0) by omega]
   have:=fin 0 (by omega) (by omega) (by rw[dE (by omega),dE (by omega)];simp);simp only[sB,It] at this;exact this
 ·obtain rfl:i=D u:=by omega
  have iL:decide ((D u:Int)<(D u:Int))=false:=dr;rw[dE (by omega),dE (by omega),dE (by omega),HF] at iV;have amy:=yi qx;have aBv:=od qx;rw[hw] at amy
  have aBw:(V:Int)<1048576^(D u):=by
   have h:=Int.ofNat_lt.2 Sd;rw[BS] at h;exact h
  by_cases j5:c=0
  ·subst j5;have Sf:a1 u-q*V=a1 w:=by omega
   have aA:z1 u V q=q:=by unfold z1;rw[aa (by omega)]
   have ay:z2 ⟨pre,u,post,V,q,k,g⟩=aY af (pre++w++post):=by
    unfold z2 L4;simp only;rw[aa (by omega),Sf,<-hw,<-aaR qx]
   simp only[go_sem,go_sem_proc,ai,E,H,m9,va,bA,iL,aA,ay,beq_self_eq_true];repeat' (first|refine av ?_ ?_|fail)<;>intro h<;>simp only[h,go_sem,go_sem_proc,ai,E,H,m9,va,bA,iL,aA,ay,beq_self_eq_true]
  ·have Sg:(c==0)=false:=by simpa using j5
   have kT:(1048576:Int)^(D u)<=1048576^(D u)*c:=by
    have:(1048576:Int)^(D u)*1<=1048576^(D u)*c:=tM (by omega) (by omega);omega
   have jN:a1 u-q*V<0:=by omega
   have L6:IntKind.i64.wrap (q-1)=q-1:=wrap64 _ (by omega) (by omega);simp only[go_sem,go_sem_proc,ai,E,H,m9,va,bA,iL,Sg]
   refine dG [0,1,2,48] [] (λ((i,d,z):Nat×Int×List Int) tm mem=>i<=D u/\D z=D u/\en z/\z.drop i=w.drop i/\(0<=d/\d<=1)/\a1 (z.take i)+1048576^i*d=a1 (w.take i)+a1 (v.take i)/\tm 49=.I (.int .i64 (i:Nat))/\tm 10=.I (.int .i64 d)/\mem=a3 eb k g (aY af (pre++z++post)))
    (λ(i,_)=>D u-i) (0,0,w) (by refine⟨fr _,hw,qx,rfl,by omega,by simp[a1],rfl,rfl,rfl⟩) ?_
   intro vs ms aV aS;simp only[go_sem,go_sem_proc,ai,E,H] at aV aS;subst aV aS;rintro⟨i,d,z⟩ tm _ J-⟨L,aR,yy,wK,X,aaY,Ei,fH,rfl⟩;simp only[go_sem,go_sem_proc,bf] at J;obtain⟨ai,E,H,Ej⟩:=J;rcases dX (i<D u) with ao|cf
   ·have Ix:i<D z:=by omega
    have wM:i<D w:=by omega
    have amz:z[i]=w[i]:=by
     have E:=hL Ix;rw[wK,hL wM] at E;exact (u6 E).1.symm
    have Sh:z.drop (i+1)=w.drop (i+1):=by
     have E:=hL Ix;rw[wK,hL wM] at E;exact (u6 E).2.symm
    have iN:=Iu (pre:=pre) (post:=post) Ix;rw[amz] at iN;have z3:=kx qx i wM;have sc:=kv w i wM;generalize w[i]=z4 at *;have e9:IntKind.i64.wrap ((i:Int)+1)=((i+1:Nat):Int):=by rw[eC _];rfl
    have iK:IntKind.i64.wrap (d+z4)=d+z4:=wrap64 _ (by omega) (by omega);have hp:(D pre)+i+1<=(aY af (pre++z++post)).length:=by rw[pF];simp;omega
    have gd:=λd=>aaS (pre:=pre) (post:=post) Ix d;have iL:decide ((i:Int)<(D u:Int))=true:=dn
    have fin:∀bi:Int,0<=bi->bi<1048576->a1 (v.take (i+1))=a1 (v.take i)+1048576^i*bi ->
      ∃a4:Nat×Int×List Int,D u-a4.1<D u-i/\a4.1<=D u/\a4.2.2.length=D u/\en a4.2.2/\a4.2.2.drop a4.1=w.drop a4.1/\(0<=a4.2.1/\a4.2.1<=1)/\a1 (a4.2.2.take a4.1)+1048576^a4.1*a4.2.1=a1 (w.take a4.1)+a1 (v.take a4.1) /\
       M.I (Data.int .i64 ((i+1:Nat):Int))=M.I (Data.int .i64 (a4.1:Int))/\M.I (Data.int .i64 ((d+z4+bi)/1048576))=M.I (Data.int .i64 a4.2.1)/\a3 eb k g (aY af (pre++z.set i ((d+z4+bi)%1048576)++post))=a3 eb k g (aY af (pre++a4.2.2++post)):=by
     intro bi rj j2 BP;refine⟨(i+1,(d+z4+bi)/1048576,z.set i ((d+z4+bi)%1048576)),by dsimp only;omega,by dsimp only;omega,by simp[aR],yr yy i (by omega),?_,by dsimp only;omega,?_,rfl,rfl,rfl⟩
     ·dsimp only;rw[sa (by omega),Sh]
     ·dsimp only;rw[kv _ _ (by simpa using Ix),BN,sc,BP,my];simp only[yq];exact aaz _ _ _ _ _ _ _ aaY
    rcases dX (i<D v) with qv|RY
    ·have mC:v[i]?=some v[i]:=bx qv;have tP:=kx yx i qv;have Se:=kv v i qv;generalize v[i]=bi at *;have j6:IntKind.i64.wrap (d+z4+bi)=d+z4+bi:=wrap64 _ (by omega) (by omega);have hT:decide ((i:Int)<(D v:Int))=true:=dn;simp only[go_sem,go_sem_proc,ai,E,H,Ej,Ei,fH,mC,e9,iK,j6,hT,iL,ao,hp,iN,gd,z0,qs,nO,af,cI,al,bd,bf,show ¬ ((20:Int)<0) by omega]
     repeat' (first|refine av ?_ ?_|fail)<;>intro h<;>simp only[h,go_sem,go_sem_proc,ai,E,H,Ej,Ei,fH,mC,e9,iK,j6,hT,iL,ao,hp,iN,gd,z0,qs,nO,af,cI,al,bd,bf,show ¬ ((20:Int)<0) by omega]
     exact fin bi tP.1 tP.2 Se
    ·have hT:decide ((i:Int)<(D v:Int))=false:=dr;simp only[go_sem,go_sem_proc,ai,E,H,Ej,Ei,fH,e9,iK,hT,iL,ao,hp,iN,gd,z0,qs,nO,af,cI,al,bd,bf,show ¬ ((20:Int)<0) by omega]
     repeat' (first|refine av ?_ ?_|fail)<;>intro h<;>simp only[h,go_sem,go_sem_proc,ai,E,H,Ej,Ei,fH,e9,iK,hT,iL,ao,hp,iN,gd,z0,qs,nO,af,cI,al,bd,bf,show ¬ ((20:Int)<0) by omega]
     have:=fin 0 (by omega) (by omega) (by rw[dE (by omega),dE (by omega)];simp);simp only[tU] at this;exact this
   ·obtain rfl:i=D u:=by omega
    have iL:decide ((D u:Int)<(D u:Int))=false:=dr;rw[dE (by omega),dE (by omega),dE (by omega),HF] at aaY;have amA:=yi yy;have aBx:=od yy;rw[aR] at amA
    have Sf:a1 u-q*V+V=a1 z:=by
     have e:a1 u-q*V+V-a1 z=1048576^(D u)*(d-c):=by rw[Ec];omega
     generalize (1048576:Int)^(D u)=p at *;rcases wN (d-c) 0 with h|h|h
     ·have:p*(d-c)<=p*(-1):=tM (by omega) (by omega);omega
     ·rw[h,sB] at e;omega
     ·have:p*1<=p*(d-c):=tM (by omega) (by omega);omega
    have aA:z1 u V q=q-1:=by unfold z1;rw[Z jN]
    have ay:z2 ⟨pre,u,post,V,q,k,g⟩=aY af (pre++z++post):=by
     unfold z2 L4;simp only;rw[Z jN,Sf,<-aR,<-aaR yy]
    simp only[go_sem,go_sem_proc,ai,E,H,Ej,Ei,fH,iL,aA,ay,L6];repeat' (first|refine av ?_ ?_|fail)<;>intro h<;>simp only[h,go_sem,go_sem_proc,ai,E,H,Ej,Ei,fH,iL,aA,ay,L6]
theorem amB {T V P wO Ek v1 v2 top jJ q r:Int}(qq:V=(v1*1048576+v2)*P+wO)(cz:T=(top*1048576+jJ)*P+Ek)(fN:0<P)(aaZ:0<=wO)(L7:Ek<P)(lC:0<=q)(amC:0<=V)
  (Si:T<1048576*V) (BT:q*v1+r=top) (G:q>=1048576\/q*v2>r*1048576+jJ):T<q*V:=by
 rcases G with h|h
 ·have:=lY h amC;omega
 ·have E:(top*1048576+jJ+1)*P<=(q*(v1*1048576+v2))*P:=by
   refine lY ?_ (by omega);rw[hP,<-hQ];have:q*v1*1048576=(top-r)*1048576:=by rw[<-BT];congr 1;omega
   omega
  have H:q*V=(q*(v1*1048576+v2))*P+q*wO:=by rw[qq,hP,<-hQ]
  have ab:0<=q*wO:=qw lC aaZ;rw[sx _ 1,nb] at E;omega
theorem aa0 {T V P wO Ek v1 v2 top jJ q r:Int}(qq:V=(v1*1048576+v2)*P+wO)(cz:T=(top*1048576+jJ)*P+Ek)(fN:0<P)(aaZ:0<=wO/\wO<P)(L7:0<=Ek)(lC:0<=q)(rm:q<1048576)(wh:524288<=v1)(wi:0<=v2/\v2<1048576)(YY:0<=jJ)
  (BT:q*v1+r=top) (G:r>=1048576\/q*v2<=r*1048576+jJ):0<=T-q*V+V:=by
 have H:q*V=(q*(v1*1048576+v2))*P+q*wO:=by rw[qq,hP,<-hQ]
 have ab:q*wO<=q*P:=tM (by omega) lC;have aM:q*P<=1048576*P:=lY (by omega) (by omega);have bj:1048576*P<=(v1*1048576+v2)*P:=lY (by omega) (by omega);have e:q*v1*1048576=(top-r)*1048576:=by rw[<-BT];congr 1;omega
 rcases G with h|h
 ·have bH:q*v2+q<=1048576*1048576:=by
   have bA:q*(v2+1)<=1048576*1048576:=Ed (by omega) (by omega) (by omega) (by omega);rw[hP,tN] at bA;exact bA
  have bT:(q*(v1*1048576+v2)+q)*P<=(top*1048576+jJ)*P:=by
   refine lY ?_ (by omega);rw[hP,<-hQ];omega
  rw[sx _ q] at bT;omega
 ·have bT:(q*(v1*1048576+v2))*P<=(top*1048576+jJ)*P:=by
   refine lY ?_ (by omega);rw[hP,<-hQ];omega
  omega
theorem amD {T V q:Int}(qq:0<V)(E:T<(q+1)*V)(H:0<=T-q*V+V):(if T-q*V<0 then q-1 else q)=T/V/\(if T-q*V<0 then T-q*V+V else T-q*V)=T%V:=by
 have ab:(q+1)*V=q*V+V:=by rw[sx,nb]
 have aM:(q-1)*V=q*V-V:=by rw[aa1,nb]
 have key:∀d r:Int,T=d*V+r->0<=r->r<V->d=T/V/\r=T%V:=by
  intro d r h ai bj
  constructor
  ·rw[h,wL,Int.add_mul_ediv_right _ _ (by omega),R7 ai bj];omega
  ·rw[h,wL,Int.add_mul_emod_self_right,R8 ai bj]
 split
 ·exact key (q-1) _ (by omega) (by omega) (by omega)
 ·exact key q _ (by omega) (by omega) (by omega)
theorem aa2 {v:List Int}{N:Nat}(h:(D v)=N+2):a1 v=(v[N+1]*1048576+v[N])*1048576^N+a1 (v.take N):=by
 have e:v=v.take (N+1+1):=by rw[dE (by omega)]
 conv=>lhs;rw[e]
 rw[kv v (N+1) (by omega),kv v N (by omega),my,sx,mz (v[N]),z5 (v[N+1]),mz (v[N+1])];have:(1048576:Int)^N*1048576*v[N+1]=1048576^N*v[N+1]*1048576:=by rw[z5]
 omega
theorem amE {v:List Int}{N:Nat}(h:(D v)=N+3):a1 v=((v[N+2]*1048576+v[N+1])*1048576+v[N])*1048576^N+a1 (v.take N):=by
 have e:v=v.take (N+1+1+1):=by rw[dE (by omega)]
 conv=>lhs;rw[e]
 rw[kv v (N+1+1) (by omega),kv v (N+1) (by omega),kv v N (by omega)];simp only[my];generalize (1048576:Int)^N=p;rw[sx,sx,sx,z5 (v[N+2]*1048576),z5 (v[N+2]),mz (v[N+2]),z5 (v[N+1]),mz (v[N+1]),mz (v[N])];have E:p*1048576*v[N+1]=p*v[N+1]*1048576:=by rw[z5]
 have H:p*1048576*1048576*v[N+1+1]=p*v[N+2]*1048576*1048576:=by rw[z5,z5 p]
 omega
theorem amF {u:List Int}{i n:Nat}{V:Int}(X:en u)(aq:i+n+1<=D u)(jK:a1 (u.drop (i+1))<V)(qq:V<1048576^n):
  ∃pre fC post,u=pre++fC++post/\D pre=i/\D fC=n+1/\en pre/\en fC/\en post/\a1 post=0/\∃dw,fC[0]?=some dw/\u.take (i+1)=pre++[dw]/\a1 fC=dw+1048576*a1 (u.drop (i+1))/\0<=a1 (u.drop (i+1))/\0<=dw/\dw<1048576:=by
 have e:u=u.take i++(u.drop i).take (n+1)++u.drop (i+n+1):=by
  rw[gK,rZ,<-DH,zN,zN]
 have aa3:=e ▸ X;rw[Bv,Bv] at aa3;obtain⟨⟨d1,d2⟩,d3⟩:=aa3;have ao:i<D u:=by omega
 have wK:=hL ao;have tV:((u.drop i).take (n+1)).length=n+1:=by simp;omega
 have aa4:a1 (u.drop (i+1))=a1 ((u.drop (i+1)).take n)+1048576^n*a1 (u.drop (i+n+1)):=by
  have:=HU (u.drop (i+1)) n;rw[pA,nE (by omega),DH] at this;rw[this]
  congr 3
  rw[show i+1+n=i+n+1 by omega]
 have aC:=od d3;have bI:0<=a1 ((u.drop (i+1)).take n):=od (λx O=>X x (Iy (Dv O)))
 have oh:a1 (u.drop (i+n+1))=0:=by
  rcases dX (0<a1 (u.drop (i+n+1))) with h|h
  ·have:(1048576:Int)^n*1<=1048576^n*a1 (u.drop (i+n+1)):=tM (by omega) (Int.pow_nonneg (by omega));omega
  ·omega
 refine⟨_,_,_,e,by simp;omega,tV,d1,d2,d3,oh,u[i],?_,?_,?_,?_,(kx X i ao).1,(kx X i ao).2⟩
 ·rw[oO (by omega),uM];simp[ao]
 ·rw[lA,bx ao];rfl
 ·rw[wK,Qm,sj,aa4,oh];simp
 ·rw[aa4,oh];simpa using bI
theorem amG (l:List Int)(h:(D l)<=1000000):lQ 157054 0 1 (D l) 8 1 [.I (.int .i64 0)] (some (0,((l.map af).flatten.map M.I)))=some (.ref 157054 1 1 0 (D l+1),some (157054,1,aY af (l++[0]))) :=
 mw hF wE 157054 0 8 l 0 rfl (by omega) (by omega)
def L8:=cy tO λ(x,y)=>cW ((aD x).length<=1000/\(aD y).length<=1000/\0<y) (.same (.cq [bN (x/y),bN (x%y)]))
@[go_sem] theorem aa5 (x:Nat)(y:Nat)(G:(aD x).length<=1000/\(aD y).length<=1000/\0<y):L8 [bN x,bN y]=some (.same (.cq [bN (x/y),bN (x%y)])):=(cK wJ (x,y)).trans (c6 G _)
theorem amH (T:bk)(fJ:T BE=aX Ir)(fW:T wF=aX BM)(j8:T LM=aX R6)(ee:T pE=yg ym tL)(iO:T DX=aX L2)(j9:T Q3=zP Iw)(x:Nat)(y:Nat)(G:(aD x).length<=1000/\(aD y).length<=1000/\0<y):WP T Rs (.same (.cq [bN (x/y),bN (x%y)])) [.I (bN x),.I (bN y)]:=by
 refine cH ?_;simp only[Rs];obtain⟨O,ak,ie⟩:=G;have mr:(aD x).length<=1000000/\(aD y).length<=1000000:=by omega
 have hc:=RW x y mr;have zu:(aD x).length<=1000000:=by omega
 by_cases mB:x<y
 ·have oi:hb x y = -1:=by unfold hb;rw[Z (by simpa using mB)]
  have dF:=al9 (aD x) zu;rw[oi] at hc
  change BM [bN x]=_ at dF
  simp only[go_sem,go_sem_proc,fJ,fW,j8,ee,iO,j9,hc,dF,show ((-1:Int)<0) by omega,decide_true]
  repeat' (first|refine av ?_ ?_|fail)<;>intro h<;>simp only[h,go_sem,go_sem_proc,fJ,fW,j8,ee,iO,j9,hc,dF,show ((-1:Int)<0) by omega,decide_true]
  rw[Qx mB,HQ mB]
  try rfl
 ·have oi:decide (hb x y<0)=false:=by
   unfold hb;rw[aa (by simp;omega)]
   split<;>rfl
  have aBy:aD y≠[]:=by rw[Ne,yh];omega
  by_cases E:y<1048576
  ·have qu:=Bx ie E;have ob:=aaL x y ⟨by omega,by omega,by omega⟩
   have aT:=LV [((x%y:Nat):Int)] (by simp);have ao:x%y<y:=nN _ ie;rw[gZ] at ob
   have tR:fk [((x%y:Nat):Int)]=aD (x%y):=by
    generalize x%y=r at ao ⊢;rw[yj (by intro d X;rw[yz] at X;omega)];simp only[a1]
    congr 1
   rw[tR] at aT;have El:bN y=.ae [[.int .i64 y]]:=by unfold bN;rw[qu];rfl
   change ym [.ae [[.int .i64 _]]]=_ at aT
   rw[El] at hc;simp only[go_sem,go_sem_proc,fJ,fW,j8,ee,iO,j9,El,hc,oi,ob,aT,show (((1:Nat):Int)==1)=true from rfl];repeat' (first|refine av ?_ ?_|fail)<;>intro h<;>simp only[h,go_sem,go_sem_proc,fJ,fW,j8,ee,iO,j9,El,hc,oi,ob,aT,show (((1:Nat):Int)==1)=true from rfl]
   try rfl
  ·obtain⟨N,gB⟩:∃N,(aD y).length=N+2:=by
    have:=mt (gA (n:=y) (k:=1)).1 (by simpa using E);exact⟨(aD y).length-2,by omega⟩
   have qu:=lW y;have j7:(((aD y).length:Int)==1)=false:=by simp;omega
   have tV:IntKind.i64.wrap (((aD y).length:Int)-1)=((N+1:Nat):Int):=by rw[eC _];omega
   have ic:(aD y)[N+1]?=some (aD y)[N+1]:=bx (by omega);have aa6:=kx qu (N+1) (by omega)
   have aBz:(aD y)[N+1]≠0:=by
    intro h;have:=aad y;rw[List.getLast?_eq_getElem?,gB] at this;exact this (by rw[show N+2-1=N+1 by omega,ic,h])
   have Sj:=aa2 gB;rw[kQ] at Sj;have amI:=yi (yp qu N);have aBA:=od (yp qu N);have aBB:=kx qu N (by omega);rw[g7,nE (by omega)] at amI;generalize (aD y)[N+1]=dR at *;generalize (aD y)[N]=ra at *;generalize a1 ((aD y).take N)=Sk at *;have Sl:((aD y).map af)[N+1]?=some [.int .i64 dR]:=by rw[bd,ic];rfl
   simp only[go_sem,go_sem_proc,fJ,fW,j8,ee,iO,j9,bN,hc,oi,j7,al];have aa7:=hc;unfold bN at aa7;simp only[go_sem,go_sem_proc,fJ,fW,j8,ee,iO,j9,aa7,oi,j7,al];refine dG [0,1] [157054,157075] (λ(κ:Nat) tm mem=>dR*2^κ<1048576/\tm 8=.I (.int .i64 (2^κ))) (λκ=>20-κ) 0 (by refine⟨by omega,rfl⟩) ?_;intro vs ms aV aS;simp only[go_sem,go_sem_proc,fJ,fW,j8,ee,iO,j9,al] at aV aS;subst aV aS;rintro κ tm mem J hm ⟨aBC,bT⟩;simp only[go_sem,go_sem_proc,fJ,fW,j8,ee,iO,j9,bf] at J hm;obtain⟨ai,x7⟩:=J;obtain⟨Em,oj⟩:=hm;have aBD:(0:Int)<2^κ:=En (by omega)
   have aBE:(2:Int)^κ<=dR*2^κ:=by
    have:1*(2:Int)^κ<=dR*2^κ:=lY (by omega) (by omega);omega
   have hκ:κ<20:=by
    rcases hK κ 20 with h|h
    ·exact h
    ·have:(2:Int)^20<=2^κ:=by
      have:=wP (n:=2) (by omega) h;have b2:=Int.ofNat_le.2 this;rwa [BS,BS] at b2
     omega
   have L9:IntKind.i64.wrap (dR*2^κ)=dR*2^κ:=wrap64 _ (by omega) (by omega);have aa8:IntKind.i64.wrap (2^κ*2)=2^κ*2:=wrap64 _ (by omega) (by omega);rcases dX (dR*2^κ<524288) with ao|cf
   ·simp only[go_sem,go_sem_proc,fJ,fW,j8,ee,iO,j9,ai,x7,bT,tV,Sl,L9,aa8,ao,Em,oj,decide_true,cI,al];repeat' (first|refine av ?_ ?_|fail)<;>intro h<;>simp only[h,go_sem,go_sem_proc,fJ,fW,j8,ee,iO,j9,ai,x7,bT,tV,Sl,L9,aa8,ao,Em,oj,decide_true,cI,al]
    exact⟨κ+1,by omega,by rw[my,<-hQ];omega,by rw[my]⟩
   ·-- the numbers, shifted
    have amJ:(dR+1)*2^κ<=1048576:=by
     have e:(1048576:Int)=2^(20-κ)*2^κ:=by rw[<-aaK,show 20-κ+κ=20 by omega];rfl
     have E:dR<2^(20-κ):=by
      rcases dX (dR<2^(20-κ)) with h|h
      ·exact h
      ·have:(2:Int)^(20-κ)*2^κ<=dR*2^κ:=lY (by omega) (by omega);omega
     rw[e];exact lY (by omega) (by omega)
    generalize (2:Int)^κ=s at *;obtain⟨S,rfl⟩:∃S:Nat,s=S:=⟨s.toNat,by omega⟩
    have fN:(0:Int)<1048576^N:=En (by omega);have BU:0<S:=by omega
    have Sd:y*S<1048576^(N+2):=by
     have E:((y*S:Nat):Int)<1048576^(N+2):=by
      rw[aa9,Sj,my,my];generalize (1048576:Int)^N=p at *
      have aA:((dR*1048576+ra)*p+Sk)*S<=((dR+1)*1048576*p)*S:=by
       refine lY ?_ (by omega);have:(dR*1048576+ra+1)*p<=((dR+1)*1048576)*p:=lY (by omega) (by omega);rw[sx _ 1] at this;omega
      have aba:((dR*1048576+ra)*p+Sk)*S<((dR+1)*1048576*p)*S:=by
       refine Int.mul_lt_mul_of_pos_right ?_ (by omega);have:(dR*1048576+ra+1)*p<=((dR+1)*1048576)*p:=lY (by omega) (by omega);rw[sx _ 1] at this;omega
      have ay:((dR+1)*1048576*p)*S=((dR+1)*S)*(p*1048576):=by
       rw[hQ (dR+1),hQ,mz (1048576*p),<-hQ,mz 1048576 p]
      have cV:((dR+1)*S)*(p*1048576)<=1048576*(p*1048576):=lY amJ (by omega);omega
     have H:((1048576^(N+2):Nat):Int)=1048576^(N+2):=by rw[BS];rfl
     omega
    have aBF:524288*(1048576^N*1048576)<=((y*S:Nat):Int):=by
     rw[aa9,Sj];generalize (1048576:Int)^N=p at *
     have aA:(dR*1048576)*p*S<=((dR*1048576+ra)*p+Sk)*S:=by
      refine lY ?_ (by omega);have:(dR*1048576)*p<=(dR*1048576+ra)*p:=lY (by omega) (by omega);omega
     have ay:(dR*1048576)*p*S=(dR*S)*(p*1048576):=by
      rw[hQ dR,hQ,mz (1048576*p),<-hQ,mz 1048576 p]
     have cV:524288*(p*1048576)<=(dR*S)*(p*1048576):=lY (by omega) (by omega);omega
    have BV:(aD (y*S)).length=N+2:=by
     have E:=gA.2 Sd
     have H:=mt (gA (n:=y*S) (k:=N+1)).1 (by
      have H:((1048576^(N+1):Nat):Int)=1048576^N*1048576:=by rw[BS,my];rfl
      omega)
     omega
    have aBG:1*x<=x*S:=by rw[si];exact abb x BU
    have aBH:(aD x).length<=(aD (x*S)).length:=by
     rw[gA];have:=gA.1 (bM (aD (x*S)).length);omega
    have aBI:y*S<=x*S:=q5 S (by omega)
    have aBJ:N+2<=(aD (x*S)).length:=by
     rw[<-BV,gA];have:=gA.1 (bM (aD (x*S)).length);omega
    have aBK:(aD (x*S)).length<=1001:=by
     have:∀k,(aD x).length<=k->(aD (x*S)).length<=k+1:=by
      intro k J;rw[gA];have E:=gA.1 J;rw[uZ];exact Nat.lt_of_lt_of_le (Nat.mul_lt_mul_of_pos_right E BU) (abb _ (by omega))
     exact this 1000 O
    have hC:=R3 x S ⟨by omega,by rw[Bx BU (by omega)];simp⟩
    have Sm:=R3 y S ⟨by omega,by rw[Bx BU (by omega)];simp⟩
    have amK:bN S=.ae [[.int .i64 (S:Int)]]:=by unfold bN;rw[Bx BU (by omega)];rfl
    rw[amK] at hC Sm;simp only[bN] at hC Sm;have dm:=amG (aD (x*S)) (by omega);have amL:((((aD (x*S)).length+1:Nat):Int)==((aD x).length:Int))=false:=by simp;omega
    have amM:=kQ (y*S);have Ma:=lW (y*S);have amN:=kQ (x*S);have abc:=lW (x*S);have amO:bN (y*S)=.ae ((aD (y*S)).map af):=rfl;generalize amP:aD (y*S)=v at *;generalize aBL:aD (x*S)=kU at *;have L6:IntKind.i64.wrap (((D kU+1:Nat):Int)-(D v:Int))=((D kU-N-1:Nat):Int):=by rw[eC _];omega
    have rm:8*(D kU-N-1)<=140737488355328:=by omega
    have Eo:(D kU)-N-1<=maxLen:=Ea _ (by omega);have z6:decide (dR*(S:Int)<524288)=false:=oE cf;simp only[go_sem,go_sem_proc,fJ,fW,j8,ee,iO,j9,ai,x7,bT,Em,oj,tV,Sl,L9,z6,hC,Sm,dm,amL,L6,rm,Eo,D9,cI,al];have l0:(D kU)-N-1+(N+2)=D kU+1:=by omega
    generalize aBM:(D kU)-N-1=a5 at *;have fD:(D kU)=a5+N+1:=by omega
    have tW:=aa2 BV;rw[amM] at tW;have Sn:=yi (yp Ma N);have So:=od (yp Ma N);rw[g7,nE (by omega)] at Sn;have amQ:v[N+1]?=some v[N+1]:=bx (by omega);have Mb:v[N]?=some v[N]:=bx (by omega);have Eg:=kx Ma (N+1) (by omega);have oU:=kx Ma N (by omega);generalize v[N+1]=v1 at *;generalize v[N]=v0 at *;generalize a1 (v.take N)=vlow at *
    have wh:524288<=v1:=by
     generalize (1048576:Int)^N=p at *;rcases dX (524288<=v1) with h|h
     ·exact h
     ·have H:(v1*1048576+v0+1)*p<=(524288*1048576)*p:=lY (by omega) (by omega);rw[sx _ 1,nb] at H;omega
    have amR:((y*S:Nat):Int)<1048576^(N+2):=by
     have H:((1048576^(N+2):Nat):Int)=1048576^(N+2):=by rw[BS];rfl
     omega
    have Sp:0<((y*S:Nat):Int):=by
     have:0<1048576^N*(1048576:Int):=Int.mul_pos fN (by omega);omega
    have amS:a1 ((kU++[0]).drop a5)<((y*S:Nat):Int):=by
     have e:(kU++[0]).drop a5=kU.drop a5++[0]:=by rw[List.drop_append_of_le_length (by omega)]
     rw[e,Bw];have E:=yi (λd X=>abc d (Iy X):en (kU.drop a5));rw[pA,show (D kU)-a5=N+1 by omega,my] at E
     simp only[a1];omega
    have amT:((x*S:Nat):Int)=a1 ((kU++[0]).take a5)+1048576^a5*a1 ((kU++[0]).drop a5):=by
     have:=HU (kU++[0]) a5;rw[Bw,amN,nE (by simp;omega)] at this
     simpa [a1] using this
    generalize abd:y*S=gM at *;generalize abe:x*S=Ep at *
    refine dG [8,9,10,11,12] [] (λ((j,u,dZ):Nat×List Int×List Int) tm mem=>j<=a5/\D u=D kU+1/\en u/\D dZ=a5/\en dZ/\a1 (u.drop j)<gM/\(Ep:Int)=a1 (u.take j)+1048576^j*(gM*a1 (dZ.drop j)+a1 (u.drop j)) /\
      tm 13=.I (.int .i64 ((j:Nat)-1))/\mem 157054=some (1,aY af u)/\mem 157075=some (0,aY af dZ)) (λ(j,_)=>j) (a5,kU++[0],ep a5 0)
     (by
      refine⟨bM _,by simp,Bv.2 ⟨abc,by intro d X;rw[yz] at X;omega⟩,by simp,λd X=>by rw[Ee] at X;omega,amS,?_,?_,rfl,rfl⟩
      ·rw[List.drop_of_length_le (by simp)];simp only[a1,sB,BQ];exact amT
      ·simp only[eL,reduceIte];rw[eC _]) ?_
    intro vs ms aV aS;simp only[go_sem,go_sem_proc,fJ,fW,j8,ee,iO,j9,ai,x7,bT] at aV aS;subst aV aS;rintro⟨j,u,dZ⟩ tm mem J-⟨ag,yA,tS,Mc,Sq,jK,yB,m9,Er,Md⟩;simp only[go_sem,go_sem_proc,fJ,fW,j8,ee,iO,j9,bf] at J;obtain⟨bT,ix,fH,yo,hS⟩:=J;rcases j with _|j
    ·rw[mv,mv] at yB;rw[mv] at jK;simp only[nK,a1,Int.pow_zero,nb,BQ] at yB;have aBN:=od Sq;have wQ:=od tS
     have Sr:a1 dZ=((x/y:Nat):Int)/\a1 u=((x%y*S:Nat):Int):=by
      have E:Ep/gM=x/y:=by rw[<-abe,<-abd];exact Nat.mul_div_mul_right x y BU
      have H:Ep%gM=x%y*S:=by rw[<-abe,<-abd];exact Nat.mul_mod_mul_right S x y
      have ab:((Ep/gM:Nat):Int)=a1 dZ:=by rw[aaM,yB,wL,aaN _ _ (by omega),R7 wQ jK];omega
      have aM:((Ep%gM:Nat):Int)=a1 u:=by rw[aaO,yB,wL,aaP,R8 wQ jK]
      rw[E] at ab;rw[H] at aM;exact⟨ab.symm,aM.symm⟩
     have Ss:=LV u (by omega);rw[yj tS,Sr.2,gZ] at Ss;have St:=LV dZ (by omega);rw[yj Sq,Sr.1,gZ] at St
     have hlen:(aD (x%y*S)).length<=100000:=by
      have:(aD (x%y*S)).length<=D u:=by
       have:=aav u;rw[yj tS,Sr.2,gZ] at this;exact this
      omega
     have ob:=aaL (x%y*S) S ⟨hlen,by omega,by omega⟩
     rw[gZ,Nat.mul_div_cancel _ BU] at ob;simp only[bN] at ob;have fb:M.ref 157054 1 1 0 (D kU+1)=M.ref 157054 1 1 0 (D u):=by rw[yA]
     have h4:M.ref 157075 0 1 0 a5=M.ref 157075 0 1 0 (D dZ):=by rw[Mc]
     rw[fb] at ix;rw[h4] at hS;simp only[go_sem,go_sem_proc,fJ,fW,j8,ee,iO,j9,bT,ix,fH,yo,hS,m9,Er,Md,Ss,St,ob,lV hF,bN,ku,kR,show ¬ ((0:Int)-1>=0) by omega,decide_false]
     repeat' (first|refine av ?_ ?_|fail)<;>intro h<;>simp only[h,go_sem,go_sem_proc,fJ,fW,j8,ee,iO,j9,bT,ix,fH,yo,hS,m9,Er,Md,Ss,St,ob,lV hF,bN,ku,kR,show ¬ ((0:Int)-1>=0) by omega,decide_false]
    ·obtain⟨pre,fC,post,e,Es,abf,Su,qx,amU,amV,dw,z7,l1,aBO,amW,aBP,aBQ⟩:=amF (i:=j) (n:=N+2) tS (by omega) jK amR;have sC:j<a5:=by omega
     rw[l1,Bw,Es] at yB;subst e;subst Es;rw[BV] at yo;have abg:((D pre+1:Nat):Int)-1=(D pre:Int):=by omega
     have lB:IntKind.i64.wrap ((D pre:Int)+((N+2:Nat):Int))=((D pre+(N+2):Nat):Int):=by rw[eC _];omega
     have amX:IntKind.i64.wrap (((D pre+(N+2):Nat):Int)-1)=((D pre+(N+1):Nat):Int):=by rw[eC _];omega
     have BW:IntKind.i64.wrap (((N+2:Nat):Int)-1)=((N+1:Nat):Int):=by rw[eC _];omega
     have Me:IntKind.i64.wrap (((N+2:Nat):Int)-2)=(N:Int):=by rw[eC _];omega
     have Mf:IntKind.i64.wrap (((D pre+(N+2):Nat):Int)-2)=((D pre+N:Nat):Int):=by rw[eC _];omega
     have bU:(D pre)+(N+2)<D kU+1:=by omega
     have b0:(D pre)+(N+1)<D kU+1:=by omega
     have hd:(D pre)+N<D kU+1:=by omega
     have amY:(D pre)+(N+2)+1<=(aY af (pre++fC++post)).length:=by rw[pF,yA];omega
     have amZ:(D pre)+(N+1)+1<=(aY af (pre++fC++post)).length:=by rw[pF,yA];omega
     have Mg:(D pre)+N+1<=(aY af (pre++fC++post)).length:=by rw[pF,yA];omega
     have am0:=Iu (pre:=pre) (post:=post) (show N+2<(D fC) by omega);have Mh:=Iu (pre:=pre) (post:=post) (show N+1<(D fC) by omega);have oh:=Iu (pre:=pre) (post:=post) (show N<(D fC) by omega);have cz:=amE (N:=N) (by omega:(D fC)=N+3);have L7:=yi (yp qx N);have abh:=od (yp qx N);rw[g7,nE (by omega)] at L7;have l2:=kx qx (N+2) (by omega);have jw:=kx qx (N+1) (by omega);have zX:=kx qx N (by omega);generalize fC[N+2]=t2 at *;generalize fC[N+1]=t1 at *;generalize fC[N]=t0 at *;generalize a1 (fC.take N)=Ek at *;have am1:IntKind.i64.wrap (t2*2^min (Bz 20) 64)=t2*1048576:=by rw[show min (Bz 20) 64=20 by decide];exact wrap64 _ (by omega) (by omega)
     have am2:bits .or .i64 (t2*1048576) t1=t2*1048576+t1:=QI t2 t1 l2.1 (by omega) jw;have am3:(v1=0)=False:=by simp;omega
     generalize aBR:t2*1048576+t1=top at *;have aBS:0<=top/\top<1099511627776:=by omega
     have tR:top.tdiv v1=top/v1:=yv (by omega);have R9:top.tmod v1=top%v1:=zZ (by omega);have lC:0<=top/v1:=zY (by omega) (by omega);have rm:top/v1<=top:=Int.ediv_le_self _ (by omega);have am4:IntKind.i64.wrap (top/v1)=top/v1:=wrap64 _ (by omega) (by omega);have Iz:(v.map af)[N+1]?=some [.int .i64 v1]:=by rw[bd,amQ];rfl
     have Mi:(v.map af)[N]?=some [.int .i64 v0]:=by rw[bd,Mb];rfl
     have Si:a1 fC<1048576*gM:=by omega
     have am5:a1 fC<(top/v1+1)*gM:=by
      have aA:top+1<=(top/v1+1)*v1:=by
       have E:=zW top v1;have H:=Sa top (show 0<v1 by omega);rw[sx,nb,mz (top/v1)];omega
      have ay:(top+1)*1048576*1048576^N<=(top/v1+1)*v1*1048576*1048576^N:=lY (lY aA (by omega)) (by omega)
      have cV:(top/v1+1)*v1*1048576*1048576^N<=(top/v1+1)*gM:=by
       rw[hQ,hQ];refine tM ?_ (by omega);rw[tW,<-hQ];have:v1*1048576*1048576^N<=(v1*1048576+v0)*1048576^N:=lY (by omega) (by omega);omega
      have da:(top*1048576+t0+1)*1048576^N<=(top+1)*1048576*1048576^N:=lY (by omega) (by omega);rw[sx _ 1,nb] at da;omega
     simp only[go_sem,go_sem_proc,fJ,fW,j8,ee,iO,j9,bT,ix,fH,yo,hS,m9,Er,Md,abg,lB,amX,BW,bU,b0,amY,amZ,am0,Mh,am1,am2,am3,tR,R9,am4,Iz,show (D pre:Int)>=0 by omega,decide_true,cI,al,show ¬ ((20:Int)<0) by omega]
     have Sv:∀(mem:Mem),mem 157054=some (1,aY af (pre++fC++post))->∀q:Int,0<=q->q<1048576->a1 fC<(q+1)*gM->0<=a1 fC-q*gM+gM ->
       Iw [.ref 157054 1 1 (D pre) (N+3),.I (.ae (v.map af)),.I (.int .i64 q)] mem=some (.I (.int .i64 (a1 fC/gM)),a3 mem 157054 1 (aY af (pre++pad (N+3) (a1 fC%gM).toNat++post))):=by
      intro mem Er q lC am6 wR kS;have El:=amD Sp wR kS;have mx:=amu ⟨pre,fC,post,gM,q,157054,1⟩ mem ⟨Er,qx,by show (aD gM).length<=D fC;rw[amP];omega,lC,am6,kS,by show (D pre)+D fC<=100000;omega⟩
      simp only[z1,z2,L4] at mx;rw[El.1,El.2,abf,amO] at mx;exact mx
     have am7:0<=a1 fC/gM:=zY (od qx) (by omega);have am8:a1 fC/gM<1048576:=aaQ Sp Si;have aBT:=BR (a1 fC) (show (gM:Int)≠0 by omega);have am9:=Sa (a1 fC) Sp
     have ana:a1 (pad (N+3) (a1 fC%gM).toNat)=a1 fC%gM:=by
      rw[amr]
      ·omega
      ·have H:((1048576^(N+2):Nat):Int)=1048576^(N+2):=by rw[BS];rfl
       have ab:1048576^(N+2)<=1048576^(N+3):=wP (by omega) (by omega);omega
     have h2:∃a4:Nat×List Int×List Int,a4.1<D pre+1/\a4.1<=a5/\a4.2.1.length=D kU+1/\en a4.2.1/\a4.2.2.length=a5/\en a4.2.2/\a1 (a4.2.1.drop a4.1)<gM/\(Ep:Int)=a1 (a4.2.1.take a4.1)+1048576^a4.1*(gM*a1 (a4.2.2.drop a4.1)+a1 (a4.2.1.drop a4.1)) /\
       M.I (Data.int .i64 ((D pre:Int)-1))=M.I (Data.int .i64 ((a4.1:Int)-1))/\some (1,aY af (pre++pad (N+3) (a1 fC%gM).toNat++post))=some (1,aY af a4.2.1)/\some (0,aY af (dZ.set (D pre) (a1 fC/gM)))=some (0,aY af a4.2.2):=by
      have anb:(D dZ)=a5:=Mc;have Mc:(D pre)<D dZ:=by omega
      have Et:(pre++pad (N+3) (a1 fC%gM).toNat++post).drop (D pre)=pad (N+3) (a1 fC%gM).toNat++post:=by rw[gK,Qv]
      have anc:(pre++pad (N+3) (a1 fC%gM).toNat++post).take (D pre)=pre:=by rw[gK,Qu]
      have abi:a1 (pad (N+3) (a1 fC%gM).toNat++post)=a1 fC%gM:=by rw[Bw,amV,ana];omega
      refine⟨(D pre,pre++pad (N+3) (a1 fC%gM).toNat++post,dZ.set (D pre) (a1 fC/gM)),by dsimp only;omega,by dsimp only;omega,?_,Bv.2 ⟨Bv.2 ⟨Su,amq _ _⟩,amU⟩,by rw[iM];exact anb,yr Sq _ ⟨am7,am8⟩,?_,?_,rfl,rfl,rfl⟩
      ·rw[<-yA];simp[amp,abf]
      ·dsimp only;rw[Et,abi];exact am9
      ·dsimp only;rw[Et,abi,anc,hL (by simpa using Mc),sj];simp only[yq];rw[sa (by omega)];have E:=zW (a1 fC) gM;have H:(gM:Int)*(a1 fC/gM+1048576*a1 (dZ.drop (D pre+1)))=gM*(a1 fC/gM)+1048576*(gM*a1 (dZ.drop (D pre+1))):=by rw[hP,Sb]
       rw[H,yB,my,hQ];simp only[a1,sB,tU];rw[Int.add_assoc,<-hP]
       congr 2
       rw[hP];omega
     have kV:(D pre)+(N+2)+1-D pre=N+3:=by omega
     have oV:IntKind.i64.wrap (((D pre+(N+2):Nat):Int)+1)=((D pre+(N+2)+1:Nat):Int):=by rw[eC _];rfl
     have Mj:(D pre)<=D pre+(N+2)+1/\D pre+(N+2)+1<=D kU+1:=by omega
     have Mk:(D pre)<a5:=sC;have Ml:=λd=>wI dZ (D pre) d (by omega);have Mm:(D pre)+1<=(aY af dZ).length:=by rw[pF];omega
     have z3:IntKind.i64.wrap ((D pre:Int)-1)=(D pre:Int)-1:=wrap64 _ (by omega) (by omega)
     refine dG [8,9,10,11,12,13] [157054,157075] (λ((q,r):Int×Int) tm mem=>0<=q/\0<=r/\q*v1+r=top/\a1 fC<(q+1)*gM/\tm 15=.I (.int .i64 q)/\tm 16=.I (.int .i64 r)) (λ(q,_)=>q.toNat) (top/v1,top%v1)
      (by
       refine⟨lC,BR _ (by omega),?_,am5,rfl,rfl⟩;have:=zW top v1;rw[mz (top/v1)];omega) ?_
     intro vs ms aV aS;simp only[go_sem,go_sem_proc,fJ,fW,j8,ee,iO,j9,bT,ix,fH,yo,hS,m9,Er,Md,abg] at aV aS;subst aV aS;rintro⟨q,r⟩ tm mem' J hm ⟨yC,ane,BT,wR,tX,rn⟩;simp only[go_sem,go_sem_proc,fJ,fW,j8,ee,iO,j9,bf] at J hm;obtain⟨hr,l3,nc,lD,lE,vb⟩:=J;obtain⟨wS,z8⟩:=hm;have aBU:0<=q*v1:=qw yC (by omega);have aBV:q*524288<=q*v1:=tM wh yC;have aBW:0<=q*v0:=qw yC oU.1;have aBX:q*v0<=q*1048576:=tM (by omega) yC;have wT:IntKind.i64.wrap (q*v0)=q*v0:=wrap64 _ (by omega) (by omega);have Mn:IntKind.i64.wrap (q-1)=q-1:=wrap64 _ (by omega) (by omega);have Mo:IntKind.i64.wrap (r+v1)=r+v1:=wrap64 _ (by omega) (by omega);have Mp:IntKind.i64.wrap (r*2^min (Bz 20) 64)=r*1048576:=by rw[show min (Bz 20) 64=20 by decide];exact wrap64 _ (by omega) (by omega)
     have Mq:bits .or .i64 (r*1048576) t0=r*1048576+t0:=QI r t0 ane (by omega) zX
     have Lt:(q>=1048576\/q*v0>r*1048576+t0)->∃a4:Int×Int,a4.1.toNat<q.toNat/\0<=a4.1/\0<=a4.2/\a4.1*v1+a4.2=top/\a1 fC<(a4.1+1)*gM/\M.I (Data.int .i64 (q-1))=M.I (Data.int .i64 a4.1)/\M.I (Data.int .i64 (r+v1))=M.I (Data.int .i64 a4.2):=by
      intro G;have E:=amB tW cz fN So L7 yC (by omega) Si BT G
      have Sw:0<q:=by
       rcases dX (0<q) with h|h
       ·exact h
       ·obtain rfl:q=0:=by omega
        have:=od qx;omega
      exact⟨(q-1,r+v1),by dsimp only;omega,by dsimp only;omega,by dsimp only;omega,by dsimp only;rw[aa1];omega,by dsimp only;rw[Int.sub_add_cancel];exact E,rfl,rfl⟩
     by_cases gq:q>=1048576
     ·simp only[go_sem,go_sem_proc,fJ,fW,j8,ee,iO,j9,hr,l3,nc,lD,lE,vb,wS,z8,tX,rn,gq,Mn,Mo,BW,Iz,decide_true,cI,al];repeat' (first|refine av ?_ ?_|fail)<;>intro h<;>simp only[h,go_sem,go_sem_proc,fJ,fW,j8,ee,iO,j9,hr,l3,nc,lD,lE,vb,wS,z8,tX,rn,gq,Mn,Mo,BW,Iz,decide_true,cI,al]
      exact Lt (.inl gq)
     ·by_cases tq:r<1048576
      ·by_cases oW:q*v0>r*1048576+t0
       ·simp only[go_sem,go_sem_proc,fJ,fW,j8,ee,iO,j9,hr,l3,nc,lD,lE,vb,wS,z8,tX,rn,gq,tq,oW,wT,Mn,Mo,Mp,Mq,lB,BW,Me,Mf,hd,Mg,oh,Iz,Mi,decide_true,decide_false,cI,al,show ¬ ((20:Int)<0) by omega]
        repeat' (first|refine av ?_ ?_|fail)<;>intro h<;>simp only[h,go_sem,go_sem_proc,fJ,fW,j8,ee,iO,j9,hr,l3,nc,lD,lE,vb,wS,z8,tX,rn,gq,tq,oW,wT,Mn,Mo,Mp,Mq,lB,BW,Me,Mf,hd,Mg,oh,Iz,Mi,decide_true,decide_false,cI,al,show ¬ ((20:Int)<0) by omega]
        exact Lt (.inr oW)
       ·have mx:=Sv mem' wS q yC (by omega) wR (aa0 tW cz fN ⟨So,Sn⟩ abh yC (by omega) wh oU zX.1 BT (.inr (by omega)));simp only[go_sem,go_sem_proc,fJ,fW,j8,ee,iO,j9,hr,l3,nc,lD,lE,vb,wS,z8,tX,rn,gq,tq,oW,wT,Mp,Mq,lB,oV,BW,Me,Mf,hd,Mg,oh,Mi,kV,Mj,mx,Mk,Mm,Ml,z3,BV,decide_true,decide_false,cI,al,show ¬ ((20:Int)<0) by omega]
        repeat' (first|refine av ?_ ?_|fail)<;>intro h<;>simp only[h,go_sem,go_sem_proc,fJ,fW,j8,ee,iO,j9,hr,l3,nc,lD,lE,vb,wS,z8,tX,rn,gq,tq,oW,wT,Mp,Mq,lB,oV,BW,Me,Mf,hd,Mg,oh,Mi,kV,Mj,mx,Mk,Mm,Ml,z3,BV,decide_true,decide_false,cI,al,show ¬ ((20:Int)<0) by omega]
        exact h2
      ·have mx:=Sv mem' wS q yC (by omega) wR (aa0 tW cz fN ⟨So,Sn⟩ abh yC (by omega) wh oU zX.1 BT (.inl (by omega)));simp only[go_sem,go_sem_proc,fJ,fW,j8,ee,iO,j9,hr,l3,nc,lD,lE,vb,wS,z8,tX,rn,gq,tq,lB,oV,kV,Mj,mx,Mk,Mm,Ml,z3,BV,decide_true,decide_false,cI,al];repeat' (first|refine av ?_ ?_|fail)<;>intro h<;>simp only[h,go_sem,go_sem_proc,fJ,fW,j8,ee,iO,j9,hr,l3,nc,lD,lE,vb,wS,z8,tX,rn,gq,tq,lB,oV,kV,Mj,mx,Mk,Mm,Ml,z3,BV,decide_true,decide_false,cI,al]
       exact h2
def dH:Nat:=1048576^60
def bD (z:Int):Raw:=(z.sign,aD z.natAbs)
def hU (a:Raw):Int:=a.1*a1 a.2
theorem ft (z:Int):hU (bD z)=z:=by
 unfold hU bD;rw[kQ];exact Sx z
theorem IA (d:Int):m7 d=true↔0<=d/\d<1048576:=by
 unfold m7;simp;omega
theorem jc (a:Raw):dd a=true↔∃z:Int,z.natAbs<dH/\a=bD z:=by
 obtain⟨s,l⟩:=a;unfold dd dH;rw[e3,oI]
 constructor
 ·rintro⟨E,H⟩;have X:en l:=λd X=>(IA d).1 (E d X)
  split at H
  ·rename_i h;have aq:l=[]:=r5 (by simpa using h);subst aq;have Q:s=0:=by simpa using H
   subst Q;exact⟨0,by simp,rfl⟩
  ·rename_i h;simp at H;obtain⟨⟨Q,hlen⟩,Sy⟩:=H;have G:=canon X (by simpa using Sy);have aI:=od X
   have aBY:a1 l≠0:=by
    intro ai;rw[ai] at G;rw[G] at h;simp[rf] at h
   refine⟨s*a1 l,?_,?_⟩
   ·have:(s*a1 l).natAbs=(a1 l).toNat:=by rw[qy];rcases Q with rfl|rfl<;>simp<;>omega
    rw[this,<-gA,<-G];exact hlen
   ·unfold bD;have:(s*a1 l).natAbs=(a1 l).toNat:=by rw[qy];rcases Q with rfl|rfl<;>simp<;>omega
    rw[this,<-G]
    congr 1
    rcases Q with rfl|rfl
    ·rw[nb,iP (by omega)]
    ·rw[BX,nb,BZ,iP (by omega)]
 ·rintro⟨z,aR,h⟩
  cases h;refine⟨λd X=>(IA d).2 (lW _ d X),?_⟩
  by_cases ai:z=0
  ·subst ai;rfl
  ·have aG:aD z.natAbs≠[]:=by rw[Ne,yh];omega
   rw[aa (by simp;exact aG)];have aq:=gA.2 aR;have j3:=aad z.natAbs;simp only[e3,Bool.or_eq_true,beq_iff_eq,decide_eq_true_eq,bne_iff_ne,ne_eq];refine⟨⟨?_,aq⟩,j3⟩;rcases wN z 0 with h|h|h
   ·exact .inr (pG h)
   ·exact absurd h ai
   ·exact .inl (iP h)
theorem ka {z:Int}(h:z.natAbs<dH):dd (bD z)=true:=(jc _).2 ⟨z,h,rfl⟩
def Eu (c:Raw):Raw×Int:=if decide ((c.2.length:Int)>60)=true then ((0,[]),6) else (c,0)
def rp (z:Int):Raw×Int:=if z.natAbs<dH then (bD z,0) else ((0,[]),6)
def fu (x:Raw×Int):Data:=.cq [.agg (cC x.1),.int .i64 x.2]
theorem anf (s:Int)(n:Nat):jv s (aD n)=if n=0 then (0,[]) else (s,aD n):=by
 unfold jv;rw[aac]
 by_cases h:n=0
 ·subst h;rfl
 ·have:aD n≠[]:=by rw[Ne,yh];exact h
  rw[aa h,aa (by simp;exact this)]
theorem oX {s:Int}{n:Nat}{z:Int}(h:z.natAbs=n)(Q:n≠0->s=z.sign):jv s (aD n)=bD z:=by
 rw[anf];subst h
 by_cases ai:z.natAbs=0
 ·obtain rfl:z=0:=by omega
  rfl
 ·rw[aa ai,Q ai]
  rfl
theorem z9 (z:Int):Eu (bD z)=rp z:=by
 unfold Eu rp bD dH;have:=gA (n:=z.natAbs) (k:=60)
 by_cases h:z.natAbs<1048576^60
 ·have:=this.2 h;rw[aa (by simp;omega),Z h]
 ·have:=mt this.1 h;rw[Z (by simp;omega),aa h]
abbrev Sz:Bool×Int×(List Int)->List Data:=λ(r,s,l)=>[.bool r,.agg [.int .i64 s,.ae (l.map af)]]
def IB:=cy Sz λ(r,s,l)=>some (.same (fu (if r=true then Eu (s,l) else ((0,[]),1))))
theorem ang:∀a b,Sz a=Sz b->a=b:=by
  rintro⟨eT,s1,eE⟩ ⟨ei,s2,aj⟩ h;simp only[bf,Data.bool.injEq,Data.agg.injEq,Data.int.injEq,Data.ae.injEq] at h;exact eN h.1 (eN h.2.1.1.2 (map_inj gY _ _ h.2.1.2.1))
@[go_sem] theorem Ev (r:Bool)(s:Int)(l:List Int):IB [.bool r,.agg [.int .i64 s,.ae (l.map af)]]=some (.same (fu (if r=true then Eu (s,l) else ((0,[]),1)))):=cK ang (r,s,l)
theorem anh (T:bk)  (r:Bool) (s:Int) (l:List Int):WP T Rr (.same (fu (if r=true then Eu (s,l) else ((0,[]),1)))) [.I (.bool r),.I (.agg [.int .i64 s,.ae (l.map af)])]:=by
 refine cH ?_;simp only[Rr]
 cases r
 ·refine a7 ?_;repeat' (intro h<;>simp only[h,go_sem,go_sem_proc,al]<;>try refine av ?_ ?_)
  rfl
 ·refine a7 ?_;repeat' (intro h<;>simp only[h,go_sem,go_sem_proc,al]<;>try refine av ?_ ?_)
  all_goals (simp only[fu,cC,Eu];simp only[cg, *,reduceIte,cR,dc,tC,yd,nL,ye,tD,iy,ju,ja,jU,beq_self_eq_true,bne])
def jd (a:Raw):Raw:=if dd a=true then bD (-hU a) else (0,[])
theorem abj (z:Int):jv (-z.sign) (aD z.natAbs)=bD (-z):=oX (by omega) λ_=>by rw[BZ]
def Mr:=cy zU λ(s,l)=>cW (D l<=1000000) (.same (.agg (cC (jd (s,l)))))
@[go_sem] theorem aBZ (s:Int)(l:List Int)(G:(D l)<=1000000):Mr [.agg [.int .i64 s,.ae (l.map af)]]=some (.same (.agg (cC (jd (s,l))))):=(cK D8 (s,l)).trans (c6 G _)
theorem ani (T:bk)(dg:T j4=aX u2)(fW:T wF=aX BM)(fc:T oe=aX zV)(s:Int)(l:List Int)(G:(D l)<=1000000):WP T Ro (.same (.agg (cC (jd (s,l))))) [.I (.agg [.int .i64 s,.ae (l.map af)])]:=by
 refine cH ?_;simp only[Ro]
 by_cases Y:dd (s,l)=true
 ·obtain⟨z,aR,e⟩:=(jc _).1 Y;have aA:jd (s,l)=bD (-z):=by unfold jd;rw[Z Y,e,ft]
  cases e
  have hw:IntKind.i64.wrap (0-z.sign) = -z.sign:=by
   have:=abk z;rw[eC _];omega
  rw[aA];refine a7 ?_;repeat' (intro h<;>simp only[h,go_sem,go_sem_proc,dg,fW,fc,Y,G,hw,abj,cC]<;>try refine av ?_ ?_)
 ·have Y:dd (s,l)=false:=by simpa using Y
  have aA:jd (s,l)=(0,[]):=by unfold jd;rw[Y];rfl
  rw[aA];refine a7 ?_;repeat' (intro h<;>simp only[h,go_sem,go_sem_proc,dg,fW,fc,Y,G,cC,cg]<;>try refine av ?_ ?_)
theorem mE (a:Raw):(a.1,a.2)=a:=rfl
def mulR (a b:Raw):Raw×Int:=if (dd a&&dd b)=true then rp (hU a*hU b) else ((0,[]),1)
theorem Aa {x y:Int}(O:x.natAbs<dH)(ak:y.natAbs<dH):mulR (bD x) (bD y)=rp (x*y):=by
 unfold mulR;rw[ka O,ka ak,ft,ft]
 rfl
theorem qz {z:Int}(h:z.natAbs<dH):(aD z.natAbs).length<=60:=gA.2 h
theorem qA (z:Int):-1<=z.sign/\z.sign<=1:=by
 have:=abk z;omega
abbrev tY:Int×(List Int)×Int×(List Int)->List Data:=λ(s,l,s2,aj)=>[.agg [.int .i64 s,.ae (l.map af)],.agg [.int .i64 s2,.ae (aj.map af)]]
def Ew:=cy tY λ(s,l,s2,aj)=>cW (D l<=1000000/\D aj<=1000000) (.same (fu (mulR (s,l) (s2,aj))))
theorem wU:∀a b,tY a=tY b->a=b:=by
  rintro⟨s1,eE,Ex,Ey⟩ ⟨s2,aj,Ez,EA⟩ h;simp only[bf,Data.agg.injEq,Data.int.injEq,Data.ae.injEq] at h;exact eN h.1.1.2 (eN (map_inj gY _ _ h.1.2.1) (eN h.2.1.1.2 (map_inj gY _ _ h.2.1.2.1)))
@[go_sem] theorem aB0 (s:Int)(l:List Int)(s2:Int)(aj:List Int)(G:(D l)<=1000000/\D aj<=1000000):Ew [.agg [.int .i64 s,.ae (l.map af)],.agg [.int .i64 s2,.ae (aj.map af)]]=some (.same (fu (mulR (s,l) (s2,aj)))):=(cK wU (s,l,s2,aj)).trans (c6 G _)
theorem anj (T:bk)(dg:T j4=aX u2)(iO:T DX=aX L2)(fc:T oe=aX zV)(l4:T tH=aX IB)(s:Int)(l:List Int)(s2:Int)(aj:List Int)(G:(D l)<=1000000/\D aj<=1000000):WP T Rm (.same (fu (mulR (s,l) (s2,aj)))) [.I (.agg [.int .i64 s,.ae (l.map af)]),.I (.agg [.int .i64 s2,.ae (aj.map af)])]:=by
 refine cH ?_;simp only[Rm];obtain⟨bU,b0⟩:=G
 by_cases Y:dd (s,l)=true
 ·by_cases br:dd (s2,aj)=true
  ·obtain⟨x,O,e⟩:=(jc _).1 Y;obtain⟨y,ak,ay⟩:=(jc _).1 br;have hm:mulR (s,l) (s2,aj)=rp (x*y):=by rw[e,ay];exact Aa O ak
   rw[hm];clear hm
   cases e
   cases ay;have E:=qA x;have H:=qA y;have aC:x.sign*y.sign=(x*y).sign:=(pH x y).symm;have ab:=qA (x*y);have hw:IntKind.i64.wrap (x.sign*y.sign)=(x*y).sign:=by rw[aC];exact wrap64 _ (by omega) (by omega)
   have hmul:=R3 x.natAbs y.natAbs ⟨ey (qz O) (by omega),ey (qz ak) (by omega)⟩;simp only[bN] at hmul
   have hlen:(aD (x.natAbs*y.natAbs)).length<=1000000:=by
    refine ey ((gA (k:=120)).2 ?_) (by omega);have:(1048576^120:Nat)=dH*dH:=by unfold dH;rw[<-Nat.pow_add]
    rw[this];exact Nat.mul_lt_mul'' O ak
   have Q:jv (x*y).sign (aD (x.natAbs*y.natAbs))=bD (x*y):=oX (qy x y) λ_=>rfl;refine a7 ?_;repeat' (intro h<;>simp only[h,go_sem,go_sem_proc,dg,iO,fc,l4,Y,br,bU,b0,hw,hmul,hlen,Q,z9,cC,fu,mE]<;>try refine av ?_ ?_)
  ·have br:dd (s2,aj)=false:=by simpa using br
   have hm:mulR (s,l) (s2,aj)=((0,[]),1):=by unfold mulR;rw[br,ju];rfl
   rw[hm];have nR:=Ev false 0 [];simp only[cg] at nR;refine a7 ?_;repeat' (intro h<;>simp only[h,go_sem,go_sem_proc,dg,iO,fc,l4,Y,br,bU,b0,nR,cC,fu,cg]<;>try refine av ?_ ?_)
 ·have Y:dd (s,l)=false:=by simpa using Y
  have hm:mulR (s,l) (s2,aj)=((0,[]),1):=by unfold mulR;rw[Y,ja];rfl
  rw[hm];have nR:=Ev false 0 [];simp only[cg] at nR;refine a7 ?_;repeat' (intro h<;>simp only[h,go_sem,go_sem_proc,dg,iO,fc,l4,Y,bU,b0,nR,cC,fu,cg]<;>try refine av ?_ ?_)
def rq (a b:Raw):Raw×Int:=if (dd a&&dd b)=true then rp (hU a+hU b) else ((0,[]),1)
theorem abl {x y:Int}(O:x.natAbs<dH)(ak:y.natAbs<dH):rq (bD x) (bD y)=rp (x+y):=by
 unfold rq;rw[ka O,ka ak,ft,ft]
 rfl
theorem Ms (a b:Nat):(aD (a-b)).length<=(aD a).length:=by
 rw[gA];exact sw (Nat.sub_le a b) (gA.1 (bM _))
def SA:=cy tY λ(s,l,s2,aj)=>cW (D l<=1000000/\D aj<=1000000) (.same (fu (rq (s,l) (s2,aj))))
@[go_sem] theorem aB1 (s:Int)(l:List Int)(s2:Int)(aj:List Int)(G:(D l)<=1000000/\D aj<=1000000):SA [.agg [.int .i64 s,.ae (l.map af)],.agg [.int .i64 s2,.ae (aj.map af)]]=some (.same (fu (rq (s,l) (s2,aj)))):=(cK wU (s,l,s2,aj)).trans (c6 G _)
theorem ank (T:bk)(dg:T j4=aX u2)(wV:T Q4=aX RT)(lF:T H0=aX L0)(lG:T DY=aX L1)(fJ:T BE=aX Ir)(fc:T oe=aX zV)(l4:T tH=aX IB)(s:Int)(l:List Int)(s2:Int)(aj:List Int)(G:(D l)<=1000000/\D aj<=1000000):WP T Rv (.same (fu (rq (s,l) (s2,aj)))) [.I (.agg [.int .i64 s,.ae (l.map af)]),.I (.agg [.int .i64 s2,.ae (aj.map af)])]:=by
 refine cH ?_;simp only[Rv];obtain⟨bU,b0⟩:=G
 by_cases Y:dd (s,l)=true
 ·by_cases br:dd (s2,aj)=true
  ·obtain⟨x,O,e⟩:=(jc _).1 Y;obtain⟨y,ak,ay⟩:=(jc _).1 br;have hm:rq (s,l) (s2,aj)=rp (x+y):=by rw[e,ay];exact abl O ak
   rw[hm];clear hm
   cases e
   cases ay;have E:=qA x;have H:=qA y;have nd:=qz O;have j7:=qz ak;have Mt:=Sx x;have aB2:=Sx y
   have Ab:(x.sign=1/\0<x)\/(x.sign=0/\x=0)\/(x.sign = -1/\x<0):=by
    rcases wN x 0 with h|h|h
    ·exact .inr (.inr ⟨pG h,h⟩)
    ·exact .inr (.inl ⟨by rw[h];rfl,h⟩)
    ·exact .inl ⟨iP h,h⟩
   have ty:(y.sign=1/\0<y)\/(y.sign=0/\y=0)\/(y.sign = -1/\y<0):=by
    rcases wN y 0 with h|h|h
    ·exact .inr (.inr ⟨pG h,h⟩)
    ·exact .inr (.inl ⟨by rw[h];rfl,h⟩)
    ·exact .inl ⟨iP h,h⟩
   have nS:=aaA x.natAbs y.natAbs ⟨by omega,by omega⟩
   simp only[bN] at nS
   have hlen:(aD (x.natAbs+y.natAbs)).length<=1000000:=by
    refine ey ((gA (k:=61)).2 ?_) (by omega);have:(1048576^61:Nat)=dH*1048576:=by unfold dH;rw[<-uZ]
    omega
   have u9:=al7 [x.sign,y.sign] (by simp);simp only[eY,cg,af] at u9;have gr:=RW x.natAbs y.natAbs ⟨by omega,by omega⟩
   simp only[bN] at gr
   by_cases aC:x.sign*y.sign>=0
   ·have hw:IntKind.i64.wrap (x.sign*y.sign)=x.sign*y.sign:=by
     rcases Ab with ⟨e,_⟩|⟨e,_⟩|⟨e,_⟩<;>rw[e]<;>exact wrap64 _ (by omega) (by omega)
    have Q:jv (yn [x.sign,y.sign]) (aD (x.natAbs+y.natAbs))=bD (x+y):=by
     refine oX ?_ ?_
     ·rcases Ab with ⟨e,_⟩|⟨e,_⟩|⟨e,_⟩<;>rcases ty with ⟨e',_⟩|⟨e',_⟩|⟨e',_⟩<;>rw[e,e'] at aC<;>omega
     ·intro aG;rcases Ab with ⟨e,_⟩|⟨e,_⟩|⟨e,_⟩<;>rcases ty with ⟨e',_⟩|⟨e',_⟩|⟨e',_⟩<;>rw[e,e'] at aC ⊢
      ·exact (iP (by omega)).symm
      ·exact (iP (by omega)).symm
      ·omega
      ·exact (iP (by omega)).symm
      ·omega
      ·exact (pG (by omega)).symm
      ·omega
      ·exact (pG (by omega)).symm
      ·exact (pG (by omega)).symm
    simp only[go_sem,go_sem_proc,dg,wV,lF,lG,fJ,fc,l4,Y,br,bU,b0,hw,aC,decide_true,u9,nS,hlen,Q,z9,cC,fu,mE];repeat' (first|refine av ?_ ?_|fail)<;>intro h<;>simp only[h,go_sem,go_sem_proc,dg,wV,lF,lG,fJ,fc,l4,Y,br,bU,b0,hw,aC,decide_true,u9,nS,hlen,Q,z9,cC,fu,mE]
   ·have hw:IntKind.i64.wrap (x.sign*y.sign)=x.sign*y.sign:=by
     rcases Ab with ⟨e,_⟩|⟨e,_⟩|⟨e,_⟩<;>rw[e]<;>exact wrap64 _ (by omega) (by omega)
    by_cases ao:x.natAbs<y.natAbs
    ·have nf:decide (hb x.natAbs y.natAbs<0)=true:=by unfold hb;rw[Z (by simp;omega)];rfl
     have kV:=R2 y.natAbs x.natAbs ⟨by omega,by omega⟩
     simp only[bN] at kV;have IC:(aD (y.natAbs-x.natAbs)).length<=1000000:=ey (Ms _ _) (by omega)
     have Q:jv y.sign (aD (y.natAbs-x.natAbs))=bD (x+y):=by
      refine oX ?_ ?_
      ·rcases Ab with ⟨e,_⟩|⟨e,_⟩|⟨e,_⟩<;>rcases ty with ⟨e',_⟩|⟨e',_⟩|⟨e',_⟩<;>rw[e,e'] at aC<;>omega
      ·intro aG;rcases Ab with ⟨e,_⟩|⟨e,_⟩|⟨e,_⟩<;>rcases ty with ⟨e',_⟩|⟨e',_⟩|⟨e',_⟩<;>rw[e,e'] at aC<;>rw[e']<;>first|omega|exact (iP (by omega)).symm|exact (pG (by omega)).symm
     simp only[go_sem,go_sem_proc,dg,wV,lF,lG,fJ,fc,l4,Y,br,bU,b0,hw,aC,decide_false,gr,nf,kV,IC,Q,z9,cC,fu,mE];repeat' (first|refine av ?_ ?_|fail)<;>intro h<;>simp only[h,go_sem,go_sem_proc,dg,wV,lF,lG,fJ,fc,l4,Y,br,bU,b0,hw,aC,decide_false,gr,nf,kV,IC,Q,z9,cC,fu,mE]
    ·have nf:decide (hb x.natAbs y.natAbs<0)=false:=by unfold hb;rw[aa (by simp;omega)];split<;>rfl
     have kV:=R2 x.natAbs y.natAbs ⟨by omega,by omega⟩
     simp only[bN] at kV;have IC:(aD (x.natAbs-y.natAbs)).length<=1000000:=ey (Ms _ _) (by omega)
     have Q:jv x.sign (aD (x.natAbs-y.natAbs))=bD (x+y):=by
      refine oX ?_ ?_
      ·rcases Ab with ⟨e,_⟩|⟨e,_⟩|⟨e,_⟩<;>rcases ty with ⟨e',_⟩|⟨e',_⟩|⟨e',_⟩<;>rw[e,e'] at aC<;>omega
      ·intro aG;rcases Ab with ⟨e,_⟩|⟨e,_⟩|⟨e,_⟩<;>rcases ty with ⟨e',_⟩|⟨e',_⟩|⟨e',_⟩<;>rw[e,e'] at aC<;>rw[e]<;>first|omega|exact (iP (by omega)).symm|exact (pG (by omega)).symm
     simp only[go_sem,go_sem_proc,dg,wV,lF,lG,fJ,fc,l4,Y,br,bU,b0,hw,aC,decide_false,gr,nf,kV,IC,Q,z9,cC,fu,mE];repeat' (first|refine av ?_ ?_|fail)<;>intro h<;>simp only[h,go_sem,go_sem_proc,dg,wV,lF,lG,fJ,fc,l4,Y,br,bU,b0,hw,aC,decide_false,gr,nf,kV,IC,Q,z9,cC,fu,mE]
  ·have br:dd (s2,aj)=false:=by simpa using br
   have hm:rq (s,l) (s2,aj)=((0,[]),1):=by unfold rq;rw[br,ju];rfl
   rw[hm];have nR:=Ev false 0 [];simp only[cg] at nR;simp only[go_sem,go_sem_proc,dg,wV,lF,lG,fJ,fc,l4,Y,br,bU,b0,nR,cC,fu,cg];repeat' (first|refine av ?_ ?_|fail)<;>intro h<;>simp only[h,go_sem,go_sem_proc,dg,wV,lF,lG,fJ,fc,l4,Y,br,bU,b0,nR,cC,fu,cg]
 ·have Y:dd (s,l)=false:=by simpa using Y
  have hm:rq (s,l) (s2,aj)=((0,[]),1):=by unfold rq;rw[Y,ja];rfl
  rw[hm];have nR:=Ev false 0 [];simp only[cg] at nR;simp only[go_sem,go_sem_proc,dg,wV,lF,lG,fJ,fc,l4,Y,bU,b0,nR,cC,fu,cg];repeat' (first|refine av ?_ ?_|fail)<;>intro h<;>simp only[h,go_sem,go_sem_proc,dg,wV,lF,lG,fJ,fc,l4,Y,bU,b0,nR,cC,fu,cg]
theorem lH (x:Int):(x.sign=1/\0<x)\/(x.sign=0/\x=0)\/(x.sign = -1/\x<0):=by
 rcases wN x 0 with h|h|h
 ·exact .inr (.inr ⟨pG h,h⟩)
 ·exact .inr (.inl ⟨by rw[h];rfl,h⟩)
 ·exact .inl ⟨iP h,h⟩
def vc (a b:Raw):Int:=if (dd a&&dd b)=true then hb (hU a) (hU b) else 0
theorem abm {x y:Int}(O:x.natAbs<dH)(ak:y.natAbs<dH):vc (bD x) (bD y)=hb x y:=by
 unfold vc;rw[ka O,ka ak,ft,ft]
 rfl
theorem ID {x y:Int}(h:x<y):hb x y = -1:=by unfold hb;rw[Z (by simpa using h)]
theorem IE {x y:Int}(h:y<x):hb x y=1:=by unfold hb;rw[aa (by simp;omega),Z (by simpa using h)]
theorem Mu (x:Int):hb x x=0:=by unfold hb;simp
def SB:=cy tY λ(s,l,s2,aj)=>cW (D l<=1000000/\D aj<=1000000) (.same (.int .i64 (vc (s,l) (s2,aj))))
@[go_sem] theorem aB3 (s:Int)(l:List Int)(s2:Int)(aj:List Int)(G:(D l)<=1000000/\D aj<=1000000):SB [.agg [.int .i64 s,.ae (l.map af)],.agg [.int .i64 s2,.ae (aj.map af)]]=some (.same (.int .i64 (vc (s,l) (s2,aj)))):=(cK wU (s,l,s2,aj)).trans (c6 G _)
theorem anl (T:bk)(dg:T j4=aX u2)(m8:T DZ=aX LX)(fJ:T BE=aX Ir)(s:Int)(l:List Int)(s2:Int)(aj:List Int)(G:(D l)<=1000000/\D aj<=1000000):WP T Rq (.same (.int .i64 (vc (s,l) (s2,aj)))) [.I (.agg [.int .i64 s,.ae (l.map af)]),.I (.agg [.int .i64 s2,.ae (aj.map af)])]:=by
 refine cH ?_;simp only[Rq];obtain⟨bU,b0⟩:=G
 by_cases Y:dd (s,l)=true
 ·by_cases br:dd (s2,aj)=true
  ·obtain⟨x,O,e⟩:=(jc _).1 Y;obtain⟨y,ak,ay⟩:=(jc _).1 br;have hm:vc (s,l) (s2,aj)=hb x y:=by rw[e,ay];exact abm O ak
   rw[hm];clear hm
   cases e
   cases ay;have nd:=qz O;have j7:=qz ak;have gr:=RW x.natAbs y.natAbs ⟨by omega,by omega⟩
   simp only[bN] at gr
   by_cases Q:x.sign=y.sign
   ·have IF:(x.sign==y.sign)=true:=by simpa using Q
    have tB:IntKind.i64.wrap (y.sign*hb x.natAbs y.natAbs)=hb x y:=by
     rcases lH x with ⟨e,E⟩|⟨e,E⟩|⟨e,E⟩<;>rcases lH y with ⟨e',H⟩|⟨e',H⟩|⟨e',H⟩<;>rw[e,e'] at Q<;>first|omega|skip
     ·rw[e',nb,show (x.natAbs:Int)=x by omega,show (y.natAbs:Int)=y by omega]
      rcases wN x y with h|h|h
      ·rw[ID h];rfl
      ·rw[h,Mu];rfl
      ·rw[IE h];rfl
     ·rw[e',E,H];rfl
     ·rw[e'];rcases wN x y with h|h|h
      ·rw[ID h,IE (by omega)];rfl
      ·rw[h,Mu,Mu];rfl
      ·rw[IE h,ID (by omega)];rfl
    rw[<-Q] at tB;simp only[go_sem,go_sem_proc,dg,m8,fJ,Y,br,bU,b0,IF,gr,tB];repeat' (first|refine av ?_ ?_|fail)<;>intro h<;>simp only[h,go_sem,go_sem_proc,dg,m8,fJ,Y,br,bU,b0,IF,gr,tB]
   ·have IF:(x.sign==y.sign)=false:=by simpa using Q
    have tB:hb x.sign y.sign=hb x y:=by
     rcases lH x with ⟨e,E⟩|⟨e,E⟩|⟨e,E⟩<;>rcases lH y with ⟨e',H⟩|⟨e',H⟩|⟨e',H⟩<;>rw[e,e'] at Q ⊢<;>first|omega|(rw[ID (show x<y by omega)];rfl)|(rw[IE (show y<x by omega)];rfl)
    simp only[go_sem,go_sem_proc,dg,m8,fJ,Y,br,bU,b0,IF,tB];repeat' (first|refine av ?_ ?_|fail)<;>intro h<;>simp only[h,go_sem,go_sem_proc,dg,m8,fJ,Y,br,bU,b0,IF,tB]
  ·have br:dd (s2,aj)=false:=by simpa using br
   have hm:vc (s,l) (s2,aj)=0:=by unfold vc;rw[br,ju];rfl
   rw[hm];simp only[go_sem,go_sem_proc,dg,m8,fJ,Y,br,bU,b0];repeat' (first|refine av ?_ ?_|fail)<;>intro h<;>simp only[h,go_sem,go_sem_proc,dg,m8,fJ,Y,br,bU,b0]
 ·have Y:dd (s,l)=false:=by simpa using Y
  have hm:vc (s,l) (s2,aj)=0:=by unfold vc;rw[Y,ja];rfl
  rw[hm];simp only[go_sem,go_sem_proc,dg,m8,fJ,Y,bU,b0];repeat' (first|refine av ?_ ?_|fail)<;>intro h<;>simp only[h,go_sem,go_sem_proc,dg,m8,fJ,Y,bU,b0]
def kW (a b:Raw):Raw×Int:=if (dd a&&dd b)=true then (bD (iA (hU a).natAbs (hU b).natAbs:Nat),0) else ((0,[]),1)
theorem IG {x y:Int}(O:x.natAbs<dH)(ak:y.natAbs<dH):iA x.natAbs y.natAbs<dH:=by
 rcases iU x.natAbs with h|h
 ·rw[h,Nat.gcd_zero_left];exact ak
 ·exact sw (Nat.gcd_le_left _ h) O
def Mv:=cy tY λ(s,l,s2,aj)=>cW (D l<=1000000/\D aj<=1000000) (.same (fu (kW (s,l) (s2,aj))))
@[go_sem] theorem aB4 (s:Int)(l:List Int)(s2:Int)(aj:List Int)(G:(D l)<=1000000/\D aj<=1000000):Mv [.agg [.int .i64 s,.ae (l.map af)],.agg [.int .i64 s2,.ae (aj.map af)]]=some (.same (fu (kW (s,l) (s2,aj)))):=(cK wU (s,l,s2,aj)).trans (c6 G _)
theorem anm (T:bk)(dg:T j4=aX u2)(fW:T wF=aX BM)(ng:T HY=aX L8)(fc:T oe=aX zV)(l4:T tH=aX IB)(s:Int)(l:List Int)(s2:Int)(aj:List Int)(G:(D l)<=1000000/\D aj<=1000000):WP T Rl (.same (fu (kW (s,l) (s2,aj)))) [.I (.agg [.int .i64 s,.ae (l.map af)]),.I (.agg [.int .i64 s2,.ae (aj.map af)])]:=by
 refine cH ?_;simp only[Rl];obtain⟨bU,b0⟩:=G
 by_cases Y:dd (s,l)=true
 ·by_cases br:dd (s2,aj)=true
  ·obtain⟨x,O,e⟩:=(jc _).1 Y;obtain⟨y,ak,ay⟩:=(jc _).1 br
   have hm:kW (s,l) (s2,aj)=(bD (iA x.natAbs y.natAbs:Nat),0):=by
    rw[e,ay];unfold kW
    rw[ka O,ka ak,ft,ft]
    rfl
   rw[hm];clear hm
   cases e
   cases ay;have nd:=qz O;have j7:=qz ak;have aU:=IG O ak;generalize lZ:x.natAbs=cA at *;generalize yD:y.natAbs=fK at *;have SC:(aD cA).length<=1000000:=by omega
   simp only[go_sem,go_sem_proc,dg,fW,ng,fc,l4,Y,br,lZ,yD,bU,b0,SC,af,al];refine dG [4] [137004] (λ((a,b):Nat×Nat) tm mem=>a<dH/\b<dH/\iA cA fK=iA a b/\tm 6=.I (.ae ((aD a).map af))/\tm 7=.I (.ae ((aD b).map af))) (λ(_,b)=>b) (cA,fK) (by refine⟨O,ak,rfl,rfl,rfl⟩) ?_;intro vs ms aV aS;simp only[go_sem,go_sem_proc,dg,fW,ng,fc,l4,lZ,yD] at aV aS;subst aV aS;rintro⟨a,b⟩ tm mem J hm ⟨aZ,ad,vd,bH,bA⟩;simp only[go_sem,go_sem_proc,dg,fW,ng,fc,l4,bf] at J hm;have aM:=J;have j3:(aD a).length<=60:=gA.2 aZ;have mD:(aD b).length<=60:=gA.2 ad;rcases iU b with ai|hD
   ·subst ai;have aR:aD 0=[]:=rfl;have SD:(aD a).length<=1000000:=by omega
    rw[Nat.gcd_zero_right] at vd;have Q:jv 1 (aD a)=bD ((a:Nat):Int):=oX (by simp) λaG=>(iP (by omega)).symm;have J:rp ((a:Nat):Int)=(bD ((a:Nat):Int),0):=by unfold rp;rw[Z (by simpa using aZ)]
    rw[vd];refine a7 ?_;repeat' (intro h<;>simp only[h,go_sem,go_sem_proc,dg,fW,ng,fc,l4,aM,bH,bA,hm,aR,SD,Q,J,z9,cC,fu,mE,cg,mu,ku,kR,show ¬ ((0:Int)>0) by omega,decide_false]<;>try refine av ?_ ?_)
   ·have bP:decide (((aD b).length:Int)>0)=true:=by
     have:aD b≠[]:=by rw[Ne,yh];omega
     have:=Ac.2 this;exact dn
    have hdiv:=aa5 a b ⟨by omega,by omega,hD⟩
    simp only[bN] at hdiv;refine a7 ?_;repeat' (intro h<;>simp only[h,go_sem,go_sem_proc,dg,fW,ng,fc,l4,aM,bH,bA,hm,bP,hdiv,al]<;>try refine av ?_ ?_)
    exact⟨(b,a%b),nN _ hD,ad,sw (Nat.mod_le _ _) aZ,by dsimp only;rw[vd,IH a b,Nat.gcd_rec b a,IH],rfl,rfl⟩
  ·have br:dd (s2,aj)=false:=by simpa using br
   have hm:kW (s,l) (s2,aj)=((0,[]),1):=by unfold kW;rw[br,ju];rfl
   rw[hm];have nR:=Ev false 0 [];simp only[cg] at nR;refine a7 ?_;repeat' (intro h<;>simp only[h,go_sem,go_sem_proc,dg,fW,ng,fc,l4,Y,br,bU,b0,nR,cC,fu,cg]<;>try refine av ?_ ?_)
 ·have Y:dd (s,l)=false:=by simpa using Y
  have hm:kW (s,l) (s2,aj)=((0,[]),1):=by unfold kW;rw[Y,ja];rfl
  rw[hm];have nR:=Ev false 0 [];simp only[cg] at nR;refine a7 ?_;repeat' (intro h<;>simp only[h,go_sem,go_sem_proc,dg,fW,ng,fc,l4,Y,bU,b0,nR,cC,fu,cg]<;>try refine av ?_ ?_)
def jO (a b:Raw):Raw×Raw×Int :=
 if (dd a&&dd b)=true then
  if hU b=0 then ((0,[]),(0,[]),15) else (bD ((hU a).fdiv (hU b)),bD ((hU a).fmod (hU b)),0)
 else ((0,[]),(0,[]),1)
def gT (x:Raw×Raw×Int):Data:=.cq [.agg (cC x.1),.agg (cC x.2.1),.int .i64 x.2.2]
theorem abn {x y q r:Int}(h:r+y*q=x)(Y:(0<=r/\r<y)\/(y<r/\r<=0)):x.fdiv y=q/\x.fmod y=r:=by
 rcases Y with ⟨E,H⟩|⟨E,H⟩
 ·exact (Int.fdiv_fmod_unique (by omega)).2 ⟨h,E,H⟩
 ·exact (Int.fdiv_fmod_unique' (by omega)).2 ⟨h,E,H⟩
theorem Mw {x y:Int}(h:x.sign*y.sign<0)(hm:x.natAbs%y.natAbs≠0):
  x.fdiv y = -((x.natAbs/y.natAbs+1:Nat):Int)/\x.fmod y=y.sign*((y.natAbs-x.natAbs%y.natAbs:Nat):Int):=by
 have H:=LC x.natAbs y.natAbs;generalize fi:x.natAbs/y.natAbs=aF at *;generalize jK:x.natAbs%y.natAbs=bZ at *
 have ak:0<y.natAbs:=by
  rcases iU y.natAbs with ai|ai
  ·rw[Int.natAbs_eq_zero.1 ai] at h;simp at h
  ·exact ai
 have ao:bZ<y.natAbs:=by rw[<-jK];exact nN _ ak
 have uR:(y.natAbs:Int)*aF+bZ=x.natAbs:=by exact_mod_cast H
 refine abn ?_ ?_
 ·rcases lH x with ⟨e,E⟩|⟨e,E⟩|⟨e,E⟩<;>rcases lH y with ⟨e',ab⟩|⟨e',ab⟩|⟨e',ab⟩<;>rw[e,e'] at h<;>first|omega|rw[e']
  ·rw[abo (by omega),abp,Eh,hP];have:(y.natAbs:Int) = -y:=by omega
   rw[this] at uR ⊢;rw[BX] at uR;omega
  ·rw[abo (by omega),abp,Eh,hP];have:(y.natAbs:Int)=y:=by omega
   rw[this] at uR ⊢;omega
 ·rcases lH y with ⟨e',ab⟩|⟨e',ab⟩|⟨e',ab⟩<;>rw[e']<;>omega
theorem Mx {x y:Int}(ak:y≠0)(h:¬ (x.sign*y.sign<0/\x.natAbs%y.natAbs≠0)):
  x.fdiv y=x.sign*y.sign*((x.natAbs/y.natAbs:Nat):Int)/\x.fmod y=x.sign*((x.natAbs%y.natAbs:Nat):Int):=by
 have H:=LC x.natAbs y.natAbs;have ao:x.natAbs%y.natAbs<y.natAbs:=nN _ (by omega);generalize fi:x.natAbs/y.natAbs=aF at *;generalize jK:x.natAbs%y.natAbs=bZ at *;have uR:(y.natAbs:Int)*aF+bZ=x.natAbs:=by exact_mod_cast H
 refine abn ?_ ?_
 ·rcases lH x with ⟨e,E⟩|⟨e,E⟩|⟨e,E⟩<;>rcases lH y with ⟨e',ab⟩|⟨e',ab⟩|⟨e',ab⟩<;>first|omega|(rw[e,e'])
  ·rw[show (y.natAbs:Int)=y by omega] at uR;simp only[nb];omega
  ·rw[show (y.natAbs:Int) = -y by omega,BX] at uR;simp only[nb,BX,Eh];omega
  ·simp only[wW,sB];omega
  ·simp only[wW,sB];omega
  ·rw[show (y.natAbs:Int)=y by omega] at uR;simp only[nb,BX,Eh,tN];omega
  ·rw[show (y.natAbs:Int) = -y by omega,BX] at uR;simp only[nb,BX,Eh,Int.neg_neg];omega
 ·have amW:x.natAbs=0->bZ=0:=by
   intro ai;rw[<-jK,ai,abq]
  rcases lH x with ⟨e,E⟩|⟨e,E⟩|⟨e,E⟩<;>rcases lH y with ⟨e',ab⟩|⟨e',ab⟩|⟨e',ab⟩<;>rw[e,e'] at h<;>rw[e]<;>omega
theorem EB {x y:Int}(O:x.natAbs<dH)(ie:y≠0):(x.fdiv y).natAbs<dH:=by
 by_cases h:x.sign*y.sign<0/\x.natAbs%y.natAbs≠0
 ·have aJ:=(Mw h.1 h.2).1;have H:=LC x.natAbs y.natAbs
  have:x.natAbs/y.natAbs+1<=x.natAbs:=by
   have ann:2<=y.natAbs:=by
    rcases hK y.natAbs 2 with ai|ai
    ·have:y.natAbs=1:=by omega
     rw[this,Nat.mod_one] at h;exact absurd rfl h.2
    ·exact ai
   have ab:2*(x.natAbs/y.natAbs)<=y.natAbs*(x.natAbs/y.natAbs):=q5 _ ann;omega
  generalize x.natAbs/y.natAbs=aF at *;omega
 ·have aJ:=(Mx ie h).1;have ab:x.natAbs/y.natAbs<=x.natAbs:=abr _ _
  have aM:(x.fdiv y).natAbs<=x.natAbs/y.natAbs:=by
   rw[aJ,qy,qy,l5];have E:x.sign.natAbs<=1:=by have:=qA x;omega
   have H:y.sign.natAbs<=1:=by have:=qA y;omega
   have:=Nat.mul_le_mul E H;have:=q5 (x.natAbs/y.natAbs) this;omega
  omega
theorem abt {x y:Int}(ak:y.natAbs<dH)(ie:y≠0):(x.fmod y).natAbs<dH:=by
 by_cases h:x.sign*y.sign<0/\x.natAbs%y.natAbs≠0
 ·have aJ:=(Mw h.1 h.2).2;rcases lH y with ⟨e',ab⟩|⟨e',ab⟩|⟨e',ab⟩<;>rw[e'] at aJ<;>omega
 ·have aJ:=(Mx ie h).2;have ao:x.natAbs%y.natAbs<y.natAbs:=nN _ (by omega);rcases lH x with ⟨e',ab⟩|⟨e',ab⟩|⟨e',ab⟩<;>rw[e'] at aJ<;>omega
theorem B0 {x y:Int}(O:x.natAbs<dH)(ak:y.natAbs<dH)(ai:y≠0):jO (bD x) (bD y)=(bD (x.fdiv y),bD (x.fmod y),0):=by
 unfold jO;rw[ka O,ka ak,ft,ft,Z (by rfl),aa ai]
def My:=cy tY λ(s,l,s2,aj)=>cW (D l<=1000000/\D aj<=1000000) (.same (gT (jO (s,l) (s2,aj))))
@[go_sem] theorem aB5 (s:Int)(l:List Int)(s2:Int)(aj:List Int)(G:(D l)<=1000000/\D aj<=1000000):My [.agg [.int .i64 s,.ae (l.map af)],.agg [.int .i64 s2,.ae (aj.map af)]]=some (.same (gT (jO (s,l) (s2,aj)))):=(cK wU (s,l,s2,aj)).trans (c6 G _)
theorem ano (T:bk)(dg:T j4=aX u2)(ng:T HY=aX L8)(lF:T H0=aX L0)(lG:T DY=aX L1)(fc:T oe=aX zV)(s:Int)(l:List Int)(s2:Int)(aj:List Int)(G:(D l)<=1000000/\D aj<=1000000):WP T Rp (.same (gT (jO (s,l) (s2,aj)))) [.I (.agg [.int .i64 s,.ae (l.map af)]),.I (.agg [.int .i64 s2,.ae (aj.map af)])]:=by
 refine cH ?_;simp only[Rp];obtain⟨bU,b0⟩:=G
 by_cases Y:dd (s,l)=true
 ·by_cases br:dd (s2,aj)=true
  ·obtain⟨x,O,e⟩:=(jc _).1 Y;obtain⟨y,ak,ay⟩:=(jc _).1 br
   by_cases ie:y=0
   ·have hm:jO (s,l) (s2,aj)=((0,[]),(0,[]),15):=by
     rw[e,ay];unfold jO
     rw[ka O,ka ak,ft,ft,Z (by rfl),Z ie]
    rw[hm]
    cases e
    cases ay;have ai:((y.sign:Int)==0)=true:=by rw[ie];rfl
    simp only[go_sem,go_sem_proc,dg,ng,lF,lG,fc,Y,br,bU,b0,ai,cC,gT,cg];repeat' (first|refine av ?_ ?_|fail)<;>intro h<;>simp only[h,go_sem,go_sem_proc,dg,ng,lF,lG,fc,Y,br,bU,b0,ai,cC,gT,cg]
   ·have hm:jO (s,l) (s2,aj)=(bD (x.fdiv y),bD (x.fmod y),0):=by
     rw[e,ay];exact B0 O ak ie
    rw[hm];clear hm
    cases e
    cases ay;have nd:=qz O;have j7:=qz ak;have sD:(y.sign==0)=false:=by rw[beq_eq_false_iff_ne,Ne,Int.sign_eq_zero_iff_zero];exact ie
    have B1:0<y.natAbs:=by omega
    have E:=qA x;have H:=qA y;have aC:x.sign*y.sign=(x*y).sign:=(pH x y).symm;have ab:=qA (x*y);have hw:IntKind.i64.wrap (x.sign*y.sign)=x.sign*y.sign:=by rw[aC];exact wrap64 _ (by omega) (by omega)
    have hdiv:=aa5 x.natAbs y.natAbs ⟨by omega,by omega,B1⟩
    simp only[bN] at hdiv;have a9:=EB (y:=y) O ie;have wX:=abt (x:=x) ak ie;have SE:x.natAbs/y.natAbs<dH:=sw (abr _ _) O;have anp:(aD (x.natAbs/y.natAbs)).length<=60:=gA.2 SE;have B2:x.natAbs%y.natAbs<dH:=Nat.lt_trans (nN _ B1) ak;have anq:(aD (x.natAbs%y.natAbs)).length<=60:=gA.2 B2
    by_cases sE:x.sign*y.sign<0/\x.natAbs%y.natAbs≠0
    ·obtain⟨eq,sF⟩:=Mw sE.1 sE.2
     have bP:decide (((aD (x.natAbs%y.natAbs)).length:Int)>0)=true:=by
      have:aD (x.natAbs%y.natAbs)≠[]:=by rw[Ne,yh];exact sE.2
      have:=Ac.2 this;exact dn
     have jN:decide (x.sign*y.sign<0)=true:=kH sE.1;have jw:aD 1=[1]:=by simp[aD,wD]
     have anr:(aD 1).length=1:=by rw[jw];rfl
     have nS:=aaA (x.natAbs/y.natAbs) 1 ⟨by omega,by omega⟩
     simp only[bN,jw,eY,cg,af] at nS;have kV:=R2 y.natAbs (x.natAbs%y.natAbs) ⟨by omega,Nat.le_of_lt (nN _ B1)⟩
     simp only[bN] at kV
     have j3:(aD (x.natAbs/y.natAbs+1)).length<=1000000:=by
      have:(x.natAbs/y.natAbs+1)<dH:=by rw[eq] at a9;rw[II,l5] at a9;exact a9
      have:=(gA (k:=60)).2 this;omega
     have mD:(aD (y.natAbs-x.natAbs%y.natAbs)).length<=1000000:=by have:=Ms y.natAbs (x.natAbs%y.natAbs);omega
     have hs:jv (-1) (aD (x.natAbs/y.natAbs+1))=bD (x.fdiv y):=oX (by rw[eq,II,l5]) λ_=>by rw[eq,BZ,iP (show (0:Int)<((x.natAbs/y.natAbs+1:Nat):Int) by exact Ad.2 (Nat.succ_pos _))]
     have h5:jv y.sign (aD (y.natAbs-x.natAbs%y.natAbs))=bD (x.fmod y):=by
      refine oX ?_ λaG=>?_
      ·rw[sF];rcases lH y with ⟨e',ab⟩|⟨e',ab⟩|⟨e',ab⟩<;>rw[e']<;>omega
      ·rw[sF,pH,yE,iP (show (0:Int)<((y.natAbs-x.natAbs%y.natAbs:Nat):Int) by omega),tN]
     simp only[go_sem,go_sem_proc,dg,ng,lF,lG,fc,Y,br,bU,b0,sD,hw,hdiv,bP,jN,nS,kV,j3,mD,hs,h5,af,al,cC,gT,mE];repeat' (first|refine av ?_ ?_|fail)<;>intro h<;>simp only[h,go_sem,go_sem_proc,dg,ng,lF,lG,fc,Y,br,bU,b0,sD,hw,hdiv,bP,jN,nS,kV,j3,mD,hs,h5,af,al,cC,gT,mE]
    ·obtain⟨eq,sF⟩:=Mx ie sE
     have SF:(decide (x.sign*y.sign<0)=true/\decide (((aD (x.natAbs%y.natAbs)).length:Int)>0)=false)\/decide (x.sign*y.sign<0)=false:=by
      by_cases aG:x.sign*y.sign<0
      ·left
       have:x.natAbs%y.natAbs=0:=Decidable.not_not.1 λh=>sE ⟨aG,h⟩;rw[this];exact⟨kH aG,rfl⟩
      ·right;exact oE aG
     have j3:(aD (x.natAbs/y.natAbs)).length<=1000000:=by omega
     have mD:(aD (x.natAbs%y.natAbs)).length<=1000000:=by omega
     have hs:jv (x.sign*y.sign) (aD (x.natAbs/y.natAbs))=bD (x.fdiv y):=by
      refine oX ?_ λaG=>?_
      ·rw[eq]
       have B3:∀aF:Nat,(x=0->aF=0)->(x.sign*y.sign*(aF:Int)).natAbs=aF:=by
        intro aF ai;rcases lH x with ⟨e,E⟩|⟨e,E⟩|⟨e,E⟩<;>rcases lH y with ⟨e',ab⟩|⟨e',ab⟩|⟨e',ab⟩<;>rw[e,e']<;>first|omega|(rw[ai E];rfl)
       exact B3 _ λai=>by rw[ai];exact Nat.zero_div _
      ·rw[eq,aC,pH,pH,pH,yE,yE,iP (show (0:Int)<((x.natAbs/y.natAbs:Nat):Int) from Ad.2 (DV aG)),tN]
     have h5:jv x.sign (aD (x.natAbs%y.natAbs))=bD (x.fmod y):=by
      refine oX ?_ λaG=>?_
      ·rw[sF]
       have B3:∀aF:Nat,(x=0->aF=0)->(x.sign*(aF:Int)).natAbs=aF:=by
        intro aF ai;rcases lH x with ⟨e,E⟩|⟨e,E⟩|⟨e,E⟩<;>rw[e]<;>first|omega|(rw[ai E];rfl)
       exact B3 _ λai=>by rw[ai];exact abq _
      ·rw[sF,pH,yE,iP (show (0:Int)<((x.natAbs%y.natAbs:Nat):Int) from Ad.2 (DV aG)),tN]
     rcases SF with ⟨ve,IJ⟩|ve
     ·simp only[go_sem,go_sem_proc,dg,ng,lF,lG,fc,Y,br,bU,b0,sD,hw,hdiv,ve,IJ,j3,mD,hs,h5,af,al,cC,gT,mE];repeat' (first|refine av ?_ ?_|fail)<;>intro h<;>simp only[h,go_sem,go_sem_proc,dg,ng,lF,lG,fc,Y,br,bU,b0,sD,hw,hdiv,ve,IJ,j3,mD,hs,h5,af,al,cC,gT,mE]
     ·simp only[go_sem,go_sem_proc,dg,ng,lF,lG,fc,Y,br,bU,b0,sD,hw,hdiv,ve,j3,mD,hs,h5,af,al,cC,gT,mE];repeat' (first|refine av ?_ ?_|fail)<;>intro h<;>simp only[h,go_sem,go_sem_proc,dg,ng,lF,lG,fc,Y,br,bU,b0,sD,hw,hdiv,ve,j3,mD,hs,h5,af,al,cC,gT,mE]
  ·have br:dd (s2,aj)=false:=by simpa using br
   have hm:jO (s,l) (s2,aj)=((0,[]),(0,[]),1):=by unfold jO;rw[br,ju];rfl
   rw[hm];simp only[go_sem,go_sem_proc,dg,ng,lF,lG,fc,Y,br,bU,b0,cC,gT,cg];repeat' (first|refine av ?_ ?_|fail)<;>intro h<;>simp only[h,go_sem,go_sem_proc,dg,ng,lF,lG,fc,Y,br,bU,b0,cC,gT,cg]
 ·have Y:dd (s,l)=false:=by simpa using Y
  have hm:jO (s,l) (s2,aj)=((0,[]),(0,[]),1):=by unfold jO;rw[Y,ja];rfl
  rw[hm];simp only[go_sem,go_sem_proc,dg,ng,lF,lG,fc,Y,bU,b0,cC,gT,cg];repeat' (first|refine av ?_ ?_|fail)<;>intro h<;>simp only[h,go_sem,go_sem_proc,dg,ng,lF,lG,fc,Y,bU,b0,cC,gT,cg]
end Go.Mini
