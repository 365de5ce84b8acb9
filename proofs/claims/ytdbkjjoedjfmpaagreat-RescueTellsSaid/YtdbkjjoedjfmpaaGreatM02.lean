/- A part of the proof. -/
import Derived.Laws.BitsLemmas
import Derived.ChangeSame
import Derived.Handed
import Derived.JoinedOf
import Derived.JoinedCond
import Derived.OpenShut
import Derived.ProofKit
import Derived.Test.YtdbkjjoedjfmpaaGreatM01
set_option linter.unusedSimpArgs false
set_option linter.unusedVariables false
set_option maxRecDepth 100000
set_option maxHeartbeats 4000000
noncomputable section
open Bool renaming and_eq_true->gb,and_false->jB,and_true->sU,false_and->fr,false_eq_true->kE,false_or->wD,not_false->cp,not_true->bT,or_false->lA,or_true->pR,true_and->fP,true_or->wC
open Classical renaming choose->zq,choose_spec->r2
open Decidable renaming em->dk
open Int renaming add_comm->zB,add_mul->vi,add_mul_ediv_left->agB,add_mul_emod_self_left->agD,add_zero->k9,bmod_def->af3,cast_ofNat_Int->m3,ediv_eq_zero_of_lt->W9,ediv_lt_of_lt_mul->agE,ediv_nonneg->Xb,emod_add_mul_ediv->CY,emod_emod_of_dvd->af4,emod_eq_of_lt->Xa,emod_lt_of_pos->Xd,emod_nonneg->Xc,lt_trichotomy->vl,mul_add->jl,mul_assoc->jm,mul_comm->oo,mul_le_mul->W4,mul_le_mul_of_nonneg_left->wO,mul_le_mul_of_nonneg_right->mg,mul_left_comm->Xe,mul_neg->Ic,mul_nonneg->vh,mul_one->sY,mul_right_comm->C6,mul_sub->H7,mul_zero->vk,natAbs_mul->ug,natAbs_natCast->lL,natAbs_neg->yj,natCast_add->ag9,natCast_ediv->agA,natCast_emod->agC,natCast_mul->agW,natCast_pos->C9,natCast_pow->E8,natCast_zero->mC,neg_mul->Fg,ofNat_sub->ag8,one_mul->o8,pow_add->agy,pow_pos->Ik,pow_succ->om,sign_eq_neg_one_of_neg->nT,sign_eq_one_of_pos->ht,sign_mul->pa,sign_mul_natAbs->Iq,sign_neg->Fh,sign_sign->Bs,sign_trichotomy->Mb,sub_mul->agP,sub_zero->CZ,tdiv_eq_ediv_of_nonneg->Ib,tmod_eq_emod_of_nonneg->LY,toNat->EO,toNat_natCast->iY,zero_add->Ia,zero_mul->vo
open List renaming all_cons->xW,all_eq_true->qs,append_assoc->hd,append_inj->H0,append_nil->gD,concat_eq_append->zw,cons_append->m0,drop->jn,drop_append->sV,drop_drop->Hz,drop_eq_getElem_cons->iC,drop_eq_nil_of_le->mA,drop_left->Ve,drop_length->Vh,drop_set_of_lt->u0,drop_zero->nP,eq_nil_of_length_eq_zero->uY,eq_nil_or_concat->zv,flatMap_cons->q6,flatten_cons->lZ,getElem?_append->Hk,getElem?_drop->rU,getElem?_eq_getElem->bB,getElem?_eq_some_iff->eg,getElem?_map->aW,getElem?_take_of_lt->q4,getElem_set_self->Bg,length->D,length_append->gj,length_cons->kB,length_drop->oi,length_eq_one_iff->afz,length_map->ah,length_nil->og,length_pos_iff->Me,length_range->sW,length_set->kd,length_take->fU,mapM_cons->oa,mapM_nil->afI,map_cons->eI,map_nil->b6,mem_append->jy,mem_attach->afF,mem_cons->m1,mem_flatMap->EA,mem_iff_getElem?->zs,mem_map->gE,mem_of_getElem?->dS,mem_of_mem_drop->L4,mem_of_mem_take->tM,mem_range->jC,mem_replicate->H8,mem_singleton->ye,nil_append->ir,range->eY,replicate->en,replicate_succ->tN,take->iu,take_add_one->g2,take_append_drop->CK,take_left->Vd,take_of_length_le->dH,take_succ_cons->HE,take_zero->ma
open List.cons renaming inj->x8,injEq->bf
open Nat renaming add_assoc->uU,add_mul->rM,add_sub_cancel_left->HJ,add_zero->l7,and_two_pow_sub_one_eq_mod->af5,div_add_mod->PH,div_eq_of_lt->Vg,div_le_self->ahc,div_lt_iff_lt_mul->af2,eq_zero_or_pos->k3,gcd->hg,gcd_comm->Mf,le_refl->cI,le_trans->eP,lt_of_le_of_lt->vg,lt_or_ge->hn,min_eq_left->pK,mod_eq_of_lt->Lo,mod_lt->pS,mul_comm->tU,mul_le_mul_left->agY,mul_le_mul_right->o0,mul_one->cD,pos_of_ne_zero->HM,pow_le_pow_right->ov,pow_succ->wF,strongRecOn->U4,zero_add->rT,zero_le->fA,zero_mod->aha,zero_mul->PG
open Option renaming bind_eq_bind->ik,bind_eq_some_iff->fg,bind_some->CJ,map_eq_some_iff->e6,map_some->l9,pure_def->h8
open Option.some renaming inj->pL,injEq->cO
open Prod renaming ext->ei,ext_iff->H2
open Prod.mk renaming injEq->fJ
namespace Go.Mini
open Go
variable {P:Program} {T:bm} {A:Nat->Prop} {eQ w:World} {h1 B:ft} {mem:Mem} {n kb:Nat} {own:List Nat}
theorem aqW {a:Act}{st:bg}{r:ResultVar}{e0:pF}{m:R}(Q:iq n A eQ h1 a st w B)(bc:Hi P r=some e0)(h:Hc st e0=some m):
  ∃v,((match r with
   |.tmp t=>pure (a.tmps.getD t undef)
   |.cell b t=>do loadVar t (<-asAddr (a.tmps.getD b undef)):Sem Value)).run P w=.ok v w/\bO w (cU A B) B m v:=by
 cases r with
 |tmp t =>
  simp only[Hi,cO] at bc;subst bc;simp only[Hc,cO] at h;subst h;exact⟨_,rfl,Q.tm t⟩
 |cell b t =>
  simp only[Hi] at bc
  split at bc
  ·rename_i s g fy AQ;simp only[cO] at bc;subst bc;obtain⟨ek,off,ms,vs,aN,az,cg,bW,X⟩:=aeg Q.ok.e0 (Q.tm b) h;obtain⟨u,G,J⟩:=aef (P:=P) fy AQ az cg bW X;refine⟨u,?_,J⟩;have:a.tmps.getD b undef=.pointer (some ⟨ek,off,none⟩):=aN;simp only[this,asAddr,Sem.run_bind,Sem.run_pure,Result.andThen_ok];exact G
  ·cases bc
theorem afx {a:Act}{st:bg}(Q:iq n A eQ h1 a st w B):∀{l:List ResultVar} {rs:List pF} {ms:List R},l.mapM (Hi P)=some rs->rs.mapM (Hc st)=some ms ->
  ∃vs:List Value,(l.mapM λr=>((match r with
   |.tmp t=>pure (a.tmps.getD t undef)
   |.cell b t=>do loadVar t (<-asAddr (a.tmps.getD b undef)):Sem Value))).run P w=.ok vs w/\dR w (cU A B) B ms vs
 | [],rs,ms,G,J=>by
  simp at G;subst G;simp at J;subst J;exact⟨[],rfl,dR.nil⟩
 |r::l,rs,ms,G,J=>by
  simp only[oa,h8,ik,fg,cO] at G;obtain⟨x,M,xs,q5,rfl⟩:=G;simp only[oa,h8,ik,fg,cO] at J;obtain⟨m,hm,aHP,aF,rfl⟩:=J;obtain⟨v,aN,X⟩:=aqW Q M hm;obtain⟨vs,aK,cg⟩:=afx Q q5 aF;refine⟨v::vs,?_,dR.cons X cg⟩;simp only[oa,Sem.run_bind,aN,Result.andThen_ok,aK,Sem.run_pure]
theorem afy {a:Act}{st:bg}{fn:Func}{rs:List pF}{m:R}(Q:iq n A eQ h1 a st w B)(bc:fn.results.toList.mapM (Hi P)=some rs)(h:qW st rs=some m):
  ∃v,(results fn a.tmps).run P w=.ok v w/\bO w (cU A B) B m v:=by
 unfold qW at h
 have main:∀ms,rs.mapM (Hc st)=some ms->∃vs:List Value,(results fn a.tmps).run P w=.ok (if h:vs.toArray.size=1 then vs.toArray[0] else .tuple vs.toArray) w/\dR w (cU A B) B ms vs:=by
  intro ms aF;obtain⟨vs,G,J⟩:=afx Q bc aF;refine⟨vs,?_,J⟩;unfold results;rw[Array.mapM_eq_mapM_toList,map_eq_pure_bind];simp only[Sem.run_bind,Sem.run_pure];have sT:=G;generalize bF:(List.mapM _ fn.results.toList:Sem (List Value))=q;have:q.run P w=.ok vs w:=by rw[<-bF];exact sT
  rw[this]
  rfl
 split at h
 ·rename_i x aF;simp only[cO] at h;subst h;obtain⟨vs,G,J⟩:=main _ aF;have az:=J.1;simp at az;obtain⟨v,rfl⟩:=afz.1 az;exact⟨v,G,J.2 0 _ v rfl rfl⟩
 ·rename_i ms b5 aF;simp only[cO] at h;subst h;obtain⟨vs,G,J⟩:=main _ aF;have az:=J.1;refine⟨_,G,?_⟩
  have:¬ (vs.toArray.size=1):=λh=>by
   have cv:(D ms)=1:=by rw[<-az];simpa using h
   obtain⟨x,rfl⟩:=afz.1 cv;exact b5 x rfl
  rw[dif_neg this];exact .cB az J.2
 ·cases h
def U2 (mf:b1)(Post:R->Mem->Prop):eF->bg->Prop
 |.exit _,_=>False
 |_,st=>∃m,qW st mf.res=some m/\Post m st.mem
theorem Lh (dy:rY P T)(hm:P.follows .mixedOrders=true){f:FuncId}{fn:Func}{mf:b1}(aD:P.funcs[f]?=some fn)(bc:tI P kb own fn=some { mf with body:=erase mf.body }){args:List R}(rZ:(D args)<=mf.n)
  {Post:R->Mem->Prop} {K:eF->bg->Prop} (cX:∀e st,K e st->U2 mf Post e st) (h:wp T mf.body K ⟨l1 args,mem⟩) {A:Nat->Prop} {w:World} {B:ft} {vs:List Value} (cw:gk A w B mem) (aN:dR w (cU A B) B args vs) :
  Calls P f vs.toArray w λe aV=>∃v m mem' bR,e=.returned v/\fm A w B aV bR mem'/\bO aV (cU A bR) bR m v/\Post m mem':=by
 unfold tI at bc
 split at bc
 ·cases bc
 ·rename_i c ai
  split at bc
  ·rename_i b rs H xV;simp only[cO,b1.mk.injEq] at bc;obtain⟨aM,aHQ,jj,aqX⟩:=bc;have fy:(D vs)=D args:=aN.1;refine calls_of_wp aD ai ?_;rw[aqX] at H;refine CG dy hm mf.body c K _ ⟨l1 args,mem⟩ _ w B H ⟨.refl cw,λs=>?_,?_,rfl⟩ h λe st a aV bR EE Q=>?_
   ·simp only[l1,Act.eval,Array.getD_eq_getD_getElem?];rcases hn s (D vs) with av|b4
    ·have G:args[s]?=some args[s]:=bB (by omega)
     have J:(vs.toArray++Array.replicate (fn.ntmps-vs.toArray.size) undef)[s]?=some vs[s]:=by
      rw[Array.getElem?_append_left (by simpa using av)];simp[av]
     rw[G,J];exact aN.2 s _ _ G (bB av)
    ·rw[List.getElem?_eq_none (by omega),Array.getElem?_append_right (by simpa using b4)]
     have:((Array.replicate (fn.ntmps-vs.toArray.size) undef)[s-vs.toArray.size]?).getD undef=undef:=by
      cases bF:(Array.replicate (fn.ntmps-vs.toArray.size) undef)[s-vs.toArray.size]? with
      |none=>rfl
      |some u =>
       have:=Array.mem_of_getElem? bF;simp at this;simp[this.2]
     rw[this];exact .no
   ·simp;omega
   ·have L:=cX e st EE
    cases e with
    |exit id=>cases L
    |normal =>
     obtain⟨m,AY,aC⟩:=L;obtain⟨v,nO,Es⟩:=afy Q xV (by rw[jj];exact AY);exact⟨Q.K1,v,nO,v,m,_,bR,rfl,Q.ok,Es,aC⟩
    |ret =>
     obtain⟨m,AY,aC⟩:=L;obtain⟨v,nO,Es⟩:=afy Q xV (by rw[jj];exact AY);exact⟨Q.K1,v,nO,v,m,_,bR,rfl,Q.ok,Es,aC⟩
  ·cases bc
inductive eM where
 |same (r:Data)
 |own (sz:Nat) (es:List (List Data))
def A1 (w:World)(a0:Nat->Prop)(ds:List Data)(vs:List Value):Prop:=D vs=D ds/\∀(i:Nat) (d:Data) (v:Value),ds[i]?=some d->vs[i]?=some v->Den w a0 d v
def aqY (w aV:World)(a0:Nat->Prop):eM->Value->Prop
 |.same r,v=>Den aV a0 r v
 |.own sz es,v=>CD w aV a0 sz es v
structure r1 (P:Program) (f:FuncId) (aR:List Data->Option eM):Prop where
 real:Real P f
 run:∀ds r,aR ds=some r->∀(A:Nat->Prop) (w:World) (vs:List Value),(∀b,A b->b<w.heap.size)->A1 w A ds vs ->
  Calls P f vs.toArray w λe aV=>∃v,e=.returned v/\Fr (λ_=>False) w aV/\aqY w aV A r v
def afA:eM->R->Mem->Prop
 |.same r,m,mem=>∃d,dx d mem m=some r
 |.own sz es,m,mem=>(m=.nil/\es=[])\/∃k g len cs ds d,m=.ref k g sz 0 len/\mem k=some (g,cs)/\len*sz<=D cs/\(cs.take (len*sz)).mapM (dx d (kill mem k))=some ds/\es=chunk sz len ds
def tS (sz:Nat)(mem:Mem):R->Option (List (List Data))
 |.nil=>some []
 |.ref k g eR off len=>if eR=sz/\off=0 then (match mem k with
  |some (ea,cs)=>if ea=g/\len*sz<=(D cs) then ((cs.take (len*sz)).mapM (dx 6 (kill mem k))).map (chunk sz len) else none
  |none=>none) else none
 |_=>none
def A2 (res:List pF):eM->bg->Prop
 |.same r,st=>(qW st res).bind (dx 6 st.mem)=some r
 |.own sz es,st=>(qW st res).bind (tS sz st.mem)=some es
def A3 (res:List pF)(r:eM):eF->bg->Prop
 |.exit _,_=>False
 |.normal,st=>A2 res r st
 |.ret,st=>A2 res r st
theorem afB {mf:b1}{r:eM}{st:bg}(h:A2 mf.res r st):∃m,qW st mf.res=some m/\afA r m st.mem:=by
 cases r with
 |same r =>
  simp only[A2,fg] at h;obtain⟨m,G,J⟩:=h;exact⟨m,G,6,J⟩
 |own sz es =>
  simp only[A2,fg] at h;obtain⟨m,G,J⟩:=h;refine⟨m,G,?_⟩
  cases m<;>simp only[tS,cO,reduceCtorEq] at J
  ·exact .inl ⟨rfl,J.symm⟩
  ·split at J
   ·rename_i H;obtain⟨rfl,rfl⟩:=H
    split at J
    ·rename_i ea cs L
     split at J
     ·rename_i bq;obtain⟨rfl,hle⟩:=bq;simp only[e6] at J;obtain⟨ds,il,rfl⟩:=J;exact .inr ⟨_,_,_,cs,ds,6,rfl,L,hle,il,rfl⟩
     ·cases J
    ·cases J
   ·cases J
theorem aqZ {mf:b1}{r:eM}{e:eF}{st:bg}(h:A3 mf.res r e st):U2 mf (afA r) e st:=by
 cases e with
 |exit id=>exact h
 |normal=>exact afB h
 |ret=>exact afB h
theorem Pz (b:Nat):¬ tD (λ_=>none) b:=fun⟨_,_,h,_⟩=>by cases h
theorem afC (dy : rY P T)(hm : P.follows .mixedOrders = true){f : FuncId}{fn : Func}{mf : b1}(aD : P.funcs[f]? = some fn)(u5 : (fn.name == "runtime.NumGoroutine") = false)(bc : tI P kb own fn = some { mf with body := erase mf.body })
  {aR:List Data->Option eM} (h:∀ds r,aR ds=some r->(D ds)<=mf.n/\wp T mf.body (A3 mf.res r) ⟨l1 (ds.map .I),emp⟩):r1 P f aR:=by
 refine⟨?_,λds r dw A w vs av wB=>?_⟩
 ·cases ai:fn.body with
  |none=>simp[tI,ai] at bc
  |some c=>exact⟨fn,c,aD,ai,u5⟩
 ·obtain⟨hlen,A4⟩:=h ds r dw;have cw:gk A w (λ_=>none) emp:=⟨λ_ _=>rfl,λ_ _ _ _ _ h=>(by cases h),λb _ bS=>Pz b bS,av,λ_ _ _ h=>(by cases h)⟩;have gi:∀b,cU A (λ_=>none) b->A b:=λb h=>h.elim (λh=>(Pz b h).elim) id;have cg:dR w (cU A λ_=>none) (λ_=>none) (ds.map .I) vs:=dR.I wB.1 λi d v G J=>(wB.2 i d v G J).less gi;refine Calls.mono (Lh dy hm aD bc (by simpa using hlen) (λe st=>aqZ) A4 cw cg) λe aV he=>?_;obtain⟨v,m,mem',bR,rfl,Q,aN,aC⟩:=he;refine⟨v,rfl,⟨Q.aE.os,Q.aE.tape,Q.aE.output,Q.aE.size,λg bq _=>Q.aE.block g bq (Pz g)⟩,?_⟩
  cases r with
  |same r =>
   obtain⟨d,ab⟩:=aC;exact snap Q.e0 (λb ai=>ai) d m v r ab aN
  |own sz es =>
   rcases aC with ⟨rfl,rfl⟩|⟨k,g,len,cs,PA,d,rfl,L,hle,il,rfl⟩
   ·cases aN;exact⟨by simp,_,0,rfl,cI _,fA _,.inl rfl⟩
   ·obtain⟨G,J⟩:=pG il;have EF:(D PA)=len*sz:=by rw[G,fU];omega
    refine⟨Pc sz len PA EF,?_⟩;rw[Pb,Pf sz len PA EF]
    cases aN with
    |ref he hgle X =>
     obtain⟨e,gY,b4,aM,ai⟩:=Q.e0.at_ L;rw[gY] at he;obtain rfl:=pL he;obtain⟨a,cap,rfl,af,aP,bh⟩:=X;refine⟨a,cap,rfl,af,aP,bh.imp id ?_⟩;rintro⟨b,rfl,bK⟩;obtain⟨bE,bP⟩:=bK b4.symm;obtain⟨pI,aq0,aX,a2,UG,Ex⟩:=ai b bE;obtain⟨aq1,o2⟩:=kill_shut Q.e0 L gY bE;refine⟨b,pI,aq0,rfl,?_,aX,by simpa [a2] using bP,λi x M=>?_⟩
     ·rcases Q.fresh b ⟨k,_,gY,bE⟩ with h|h
      ·exact (Pz b h).elim
      ·exact h
     ·have afD:i<D PA:=(eg.1 M).1;have ns:i<D cs:=by omega
      have oc:(cs.take (len*sz))[i]?=some cs[i]:=by
       rw[q4 (by omega)];exact bB ns
      have Lb:i<pI.size:=by omega
      refine⟨pI[i],Array.getElem?_eq_getElem Lb,snap aq1 (λb ai=>ai) d _ _ x (J i _ x oc M) (o2 _ _ (Ex.2 i _ _ (bB ns) ?_))⟩;rw[q4 ns,Array.getElem?_toList];exact Array.getElem?_eq_getElem Lb
def scalar:Data->Bool
 |.int _ _=>true
 |.bool _=>true
 |.str _=>true
 |.we=>true
 |.xH=>true
 |.Y []=>true
 |.cB ds=>ds.attach.all fun⟨d,_⟩=>scalar d
 |.agg ds=>ds.attach.all fun⟨d,_⟩=>scalar d
 |_=>false
theorem afE {a0 qk:Nat->Prop}{d:Data}{v:Value}(h:scalar d=true)(ab:Den w a0 d v):Den w qk d v:=by
 induction ab with
 |int=>exact .int
 |bool=>exact .bool
 |str=>exact .str
 |we=>exact .we
 |xH=>exact .xH
 |mU=>exact .mU
 | @Y es b off c sz val az hm ai gi fy H ab aH =>
  cases es with
  |nil=>exact .mU
  |cons=>simp[scalar] at h
 |ptr=>simp[scalar] at h
 |fn=>simp[scalar] at h
 | @agg cs vs az ab aH =>
  simp only[scalar,qs,afF,true_imp_iff,Subtype.forall] at h;exact .agg az λi d v G J=>aH i d v G J (h d (dS G))
 | @cB cs vs az ab aH =>
  simp only[scalar,qs,afF,true_imp_iff,Subtype.forall] at h;exact .cB az λi d v G J=>aH i d v G J (h d (dS G))
theorem U3 {a0:Nat->Prop}:∀(d:Nat) (m:R) (v:Value) (r:Data),dx d emp m=some r->bO w a0 B m v->Den w a0 r v:=by
 intro d
 induction d with
 |zero =>
  intro m v r h aN
  cases m<;>simp only[dx,cO,reduceCtorEq] at h
  ·subst h;cases aN with|I h=>exact h
  ·subst h;cases aN;exact .mU
 |succ d aH =>
  intro m v r h aN
  have lists:∀(cs:List R) (vs:List Value) (ds:List Data),cs.mapM (dx d emp)=some ds->(D vs)=(D cs)->(∀(i:Nat) (x:R) (u:Value),cs[i]?=some x->vs[i]?=some u->bO w a0 B x u) ->
    (D vs)=D ds/\∀(i:Nat) (x:Data) (u:Value),ds[i]?=some x->vs[i]?=some u->Den w a0 x u:=by
   intro cs vs ds il az X;obtain⟨G,J⟩:=pG il;refine⟨by omega,λi x u M hu=>?_⟩
   have av:i<D cs:=by have:=(eg.1 M).1;omega
   have oc:=bB av;exact aH _ u x (J i _ x oc M) (X i _ u oc hu)
  cases m<;>simp only[dx,emp,cO,e6,reduceCtorEq] at h
  case I=>subst h;cases aN with|I h=>exact h
  case nil=>subst h;cases aN;exact .mU
  case gX f cs =>
   obtain⟨ds,il,rfl⟩:=h
   cases aN with
   |gX az ab=>obtain⟨G,J⟩:=lists _ _ _ il az ab;exact .fn G J
  case agg cs =>
   obtain⟨ds,il,rfl⟩:=h
   cases aN with
   |agg az ab=>obtain⟨G,J⟩:=lists _ _ _ il az ab;exact .agg G J
  case cB cs =>
   obtain⟨ds,il,rfl⟩:=h
   cases aN with
   |cB az ab=>obtain⟨G,J⟩:=lists _ _ _ il az ab;exact .cB G J
def PB:eM->hY
 |.same r => .same r
 |.own sz es => .own sz es
def HB:eM->Option hY
 |.same r=>if scalar r=true then some (.same r) else none
 |.own sz es=>if (es.all λe=>e.all scalar)=true then some (.own sz es) else none
def PC (aR:List Data->Option eM):Option (List Data)->Option hY
 |some ds=>(aR ds).bind HB
 |none=>none
def HC (aR:List Data->Option eM):Option (List Data)->Option (List Data)->Option hY
 |some ds,_=>(aR ds).map PB
 |none,x=>PC aR x
def aO (aR:List Data->Option eM)(args:List R)(mem:Mem):Option hY:=HC aR (args.mapM (dx 6 emp)) (args.mapM (dx 6 mem))
def CH (mZ:FuncId->Option (List Data->Option eM)):bm:=λf args mem=>match mZ f with
 |some aR=>aO aR args mem
 |none=>none
theorem afG {a0:Nat->Prop}{g:R->Option Data}{args:List R}{ds:List Data}{vs:List Value}(h:args.mapM g=some ds)(aN:dR w a0 B args vs){qk:Nat->Prop}(ab:∀m v r,g m=some r->bO w a0 B m v->Den w qk r v):A1 w qk ds vs:=by
 obtain⟨G,J⟩:=pG h;refine⟨by rw[aN.1,G],λi d v qX tK=>?_⟩
 have av:i<D args:=by have:=(eg.1 qX).1;omega
 have CI:=bB av;exact ab _ v d (J i _ d CI qX) (aN.2 i _ v CI tK)
theorem afH {mZ:FuncId->Option (List Data->Option eM)}(h:∀f aR,mZ f=some aR->r1 P f aR):rY P (CH mZ):=by
 intro f args mem q0 k4;unfold CH at k4
 split at k4
 ·rename_i aR dw;have mX:=h f aR dw;refine⟨mX.real,λA w B vs cw aN=>?_⟩;unfold aO at k4
  cases il:args.mapM (dx 6 emp) with
  |some ds =>
   rw[il] at k4;simp only[HC,e6] at k4;obtain⟨r,X,rfl⟩:=k4;have H:=mX.run ds r X (cU A B) w vs (λb ai=>ai.elim (λh=>cw.Cm h) (cw.lt b)) (afG il aN λm v r=>U3 6 m v r)
   cases r with
   |same r=>exact H
   |own sz es=>exact H
  |none =>
   rw[il] at k4;simp only[HC] at k4
   cases il:args.mapM (dx 6 mem) with
   |none=>rw[il] at k4;cases k4
   |some ds =>
    rw[il] at k4;simp only[PC,fg] at k4;obtain⟨r,X,az⟩:=k4;have H:=mX.run ds r X (λ_=>False) w vs (λb ai=>ai.elim) (afG il aN λm v r h aN=>snap cw (λb ai=>ai.elim) 6 m v r h aN)
    cases r with
    |same r =>
     simp only[HB] at az
     split at az
     ·rename_i Q
      cases az;exact Calls.mono H λe aV ⟨v,he,bC,ab⟩=>⟨v,he,bC,afE Q ab⟩
     ·cases az
    |own sz es =>
     simp only[HB] at az
     split at az
     ·rename_i Q
      cases az;refine Calls.mono H λe aV ⟨v,he,bC,ab⟩=>⟨v,he,bC,?_⟩;obtain⟨G,a,cap,J,af,aP,bh⟩:=ab;refine⟨G,a,cap,J,af,aP,bh.imp id ?_⟩;rintro⟨b,vs,T,bK,bE,bP,eA,dj⟩;refine⟨b,vs,T,bK,bE,bP,eA,λi d ab=>?_⟩;obtain⟨u,hu,wB⟩:=dj i d ab;refine⟨u,hu,afE ?_ wB⟩;have hm:=dS ab;rw[List.mem_flatten] at hm;obtain⟨e,he,aq2⟩:=hm;rw[qs] at Q;have:=Q e he;rw[qs] at this;exact this d aq2
     ·cases az
 ·cases k4
end Go.Mini
namespace Go.Mini
open Go
def HD {ι:Type}(T:bm)(dI:ι->bg->Prop)(m:ι->Nat)(i:ι)(K:eF->bg->Prop)(k:List fB):eF->bg->Prop
 |.normal,st=>∃bn,m bn<m i/\dI bn st
 |.exit id,st=>cj T K k (.exit id) st
 |.ret,st=>cj T K k .ret st
@[go_sem] theorem aHR {ι:Type}(T:bm)(dI:ι->bg->Prop)(m:ι->Nat)(i:ι)(K:eF->bg->Prop)(k:List fB)(id:Nat)(st:bg):HD T dI m i K k (.exit id) st=cj T K k (.exit id) st:=bN
@[go_sem] theorem aHS {ι:Type}(T:bm)(dI:ι->bg->Prop)(m:ι->Nat)(i:ι)(K:eF->bg->Prop)(k:List fB)(st:bg):HD T dI m i K k .ret st=cj T K k .ret st:=bN
@[go_sem] theorem aq3 {ι:Type}(T:bm)(dI:ι->bg->Prop)(m:ι->Nat)(i:ι)(K:eF->bg->Prop)(k:List fB)(st:bg):HD T dI m i K k .normal st=∃bn,m bn<m i/\dI bn st:=bN
open Classical in
theorem aq4 {ι:Type}{T:bm}{K:eF->bg->Prop}{k:List fB}{st:bg}{c:ep}(dI:ι->bg->Prop)(m:ι->Nat)(i0:ι)(aj:dI i0 st)(h:∀i st,dI i st->wp T c (cj T (HD T dI m i K k) []) st):
  wp T (.loop c) (cj T K k) st:=by
 have least:∀st,(∃i,dI i st)->∃i,dI i st/\∀j,dI j st->m i<=m j:=by
  intro st ⟨i,U⟩
  have:∀n i,m i=n->dI i st->∃i,dI i st/\∀j,dI j st->m i<=m j:=by
   intro n
   induction n using U4 with
   |_ n aH =>
    intro i aM U
    by_cases M:∃j,dI j st/\m j<m i
    ·obtain⟨j,ax,av⟩:=M;exact aH (m j) (by omega) j rfl ax
    ·refine⟨i,U,λj ax=>?_⟩;rcases hn (m j) (m i) with cv|cv
     ·exact absurd ⟨j,ax,cv⟩ M
     ·exact cv
  exact this _ i rfl U
 refine⟨λst=>∃i,dI i st,λst=>if M:∃i,dI i st then m (zq (least st M)) else 0,⟨i0,aj⟩,λst dq=>?_⟩;have jA:=r2 (least st dq);have:=h _ st jA.1
 have L:cj T (HD T dI m (zq (least st dq)) K k) []=λe er=>match e with
   |.normal=>(∃i,dI i er)/\(if M:∃i,dI i er then m (zq (least er M)) else 0)<(if M:∃i,dI i st then m (zq (least st M)) else 0)
   |e=>cj T K k e er:=by
  funext e er
  cases e with
  |normal =>
   simp only[ap3,aq3];apply propext
   constructor
   ·rintro⟨bn,av,ax⟩;have hex:∃i,dI i er:=⟨bn,ax⟩;refine⟨hex,?_⟩;rw[dif_pos hex,dif_pos dq];have:=(r2 (least er hex)).2 bn ax;omega
   ·rintro⟨hex,av⟩;rw[dif_pos hex,dif_pos dq] at av;exact⟨_,av,(r2 (least er hex)).1⟩
  |exit id=>rfl
  |ret=>rfl
 rw[L] at this;exact this
section
variable {aR:List Data->Option eM} {mem:Mem} {st:bg} {res:List pF}
@[go_sem] theorem aHT (ds:List Data)(x:Option (List Data)):HC aR (some ds) x=(aR ds).map PB:=bN
@[go_sem] theorem aHU (x:Option (List Data)):HC aR none x=PC aR x:=bN
@[go_sem] theorem aHV (ds:List Data):PC aR (some ds)=(aR ds).bind HB:=bN
@[go_sem] theorem aHW (r:Data):PB (.same r)=.same r:=bN
@[go_sem] theorem aHX (sz:Nat)(es:List (List Data)):PB (.own sz es)=.own sz es:=bN
@[go_sem] theorem aHY (r:Data):HB (.same r)=if scalar r=true then some (.same r) else none:=bN
@[go_sem] theorem PD (n:Nat)(d:Data):dx n mem (.I d)=some d:=by cases n<;>rfl
@[go_sem] theorem aq5 (n:Nat):dx n mem .nil=some (.Y []):=by cases n<;>rfl
@[go_sem] theorem aHZ (n:Nat)(cs:List R):dx (n+1) mem (.agg cs)=(cs.mapM (dx n mem)).map .agg:=bN
@[go_sem] theorem aH0 (n:Nat)(cs:List R):dx (n+1) mem (.cB cs)=(cs.mapM (dx n mem)).map .cB:=bN
@[go_sem] theorem aH1 (n:Nat)(f:FuncId)(cs:List R):dx (n+1) mem (.gX f cs)=(cs.mapM (dx n mem)).map (.fn f):=bN
@[go_sem] theorem aH2 (r:eM)(id:Nat):A3 res r (.exit id) st=False:=bN
@[go_sem] theorem aH3 (r:eM):A3 res r .ret st=A2 res r st:=bN
@[go_sem] theorem aH4 (r:eM):A3 res r .normal st=A2 res r st:=bN
@[go_sem] theorem aH5 (r:Data):A2 res (.same r) st=((qW st res).bind (dx 6 st.mem)=some r):=bN
@[go_sem] theorem aH6 (sz:Nat)(es:List (List Data)):A2 res (.own sz es) st=((qW st res).bind (tS sz st.mem)=some es):=bN
end
@[go_sem] theorem aH7 (x:Bool):Pj (.I (.bool x)) true=some x:=by cases x<;>rfl
@[go_sem] theorem aH8 (x:Bool):Pj (.I (.bool x)) false=some (!x):=by cases x<;>rfl
attribute [go_sem] eI b6 List.getElem?_cons_zero List.getElem?_cons_succ kB og nP HE ma CJ l9 Option.map_none rT
 oa afI h8 ik ir m0 List.drop_succ_cons List.drop_nil List.take_nil bT cp pR wC lA wD sU fP jB fr xW List.all_nil true_and and_true kE bne
section
variable {T:bm} {K:eF->bg->Prop} {k:List fB} {st:bg}
theorem aq6 {x:Bool}{i:dp}{r:List dp}(G:x=false->sP T K k (some true) i r st)(J:x=true->sP T K k (some false) i r st):sP T K k (some (!x)) i r st:=by
 cases x
 ·exact G rfl
 ·exact J rfl
theorem aq7 {x:Bool}{i:dp}{r:List dp}(G:x=true->sP T K k (some true) i r st)(J:x=false->sP T K k (some false) i r st):sP T K k (some x) i r st:=by
 cases x
 ·exact J rfl
 ·exact G rfl
theorem aq8 {x:Bool}{n:Nat}{i:dp}{r:List dp}{c:List (List Nat)}{rec:Rec}(G:x=false->sQ T K k n (some true) i r c rec st)(J:x=true->sQ T K k n (some false) i r c rec st):sQ T K k n (some (!x)) i r c rec st:=by
 cases x
 ·exact G rfl
 ·exact J rfl
theorem aq9 {x:Bool}{n:Nat}{i:dp}{r:List dp}{c:List (List Nat)}{rec:Rec}(G:x=true->sQ T K k n (some true) i r c rec st)(J:x=false->sQ T K k n (some false) i r c rec st):sQ T K k n (some x) i r c rec st:=by
 cases x
 ·exact J rfl
 ·exact G rfl
theorem ara {x:Bool}{a b:ep}(G:x=false->rX T K k (.I (.bool true)) a b st)(J:x=true->rX T K k (.I (.bool false)) a b st):rX T K k (.I (.bool (!x))) a b st:=by
 cases x
 ·exact G rfl
 ·exact J rfl
theorem arb {x:Bool}{a b:ep}(G:x=true->rX T K k (.I (.bool true)) a b st)(J:x=false->rX T K k (.I (.bool false)) a b st):rX T K k (.I (.bool x)) a b st:=by
 cases x
 ·exact J rfl
 ·exact G rfl
end
class EG (bD:Prop) (A B:outParam Prop):Prop where
 go:A->B->bD
theorem al {bD A B:Prop}[s:EG bD A B](a:A)(b:B):bD:=s.go a b
theorem a1 {bD:Prop}(h:true=true->bD):bD:=h rfl
instance {T K k i r st} {x:Bool}:EG (sP T K k (some x) i r st) (x=true->sP T K k (some true) i r st) (x=false->sP T K k (some false) i r st):=⟨aq7⟩
instance {T K k i r st} {x:Bool}:EG (sP T K k (some (!x)) i r st) (x=false->sP T K k (some true) i r st) (x=true->sP T K k (some false) i r st):=⟨aq6⟩
instance {T K k st a b} {x:Bool}:EG (rX T K k (.I (.bool x)) a b st) (x=true->rX T K k (.I (.bool true)) a b st) (x=false->rX T K k (.I (.bool false)) a b st):=⟨arb⟩
instance {T K k st a b} {x:Bool}:EG (rX T K k (.I (.bool (!x))) a b st) (x=false->rX T K k (.I (.bool true)) a b st) (x=true->rX T K k (.I (.bool false)) a b st):=⟨ara⟩
instance {T K k n i r c rec st} {x:Bool}:EG (sQ T K k n (some x) i r c rec st) (x=true->sQ T K k n (some true) i r c rec st) (x=false->sQ T K k n (some false) i r c rec st):=⟨aq9⟩
instance {T K k n i r c rec st} {x:Bool}:EG (sQ T K k n (some (!x)) i r c rec st) (x=false->sQ T K k n (some true) i r c rec st) (x=true->sQ T K k n (some false) i r c rec st):=⟨aq8⟩
attribute [go_sem] reduceIte Nat.reduceEqDiff Nat.reduceAdd Nat.reduceSub Nat.reduceMul Nat.reduceLeDiff reduceCtorEq Nat.reduceLT Nat.reduceBEq Int.reduceEq
attribute [go_sem] kE
def Li {ι:Type}(T:bm)(hl:List Nat)(oh:List Key)(vs:List R)(ms:List (Option (Nat×List R)))(dI:ι->(Nat->R)->Mem->Prop)(m:ι->Nat)(i:ι)(K:eF->bg->Prop)(k:List fB):eF->bg->Prop
 |.normal,st=>∃bn,m bn<m i/\hl.map st.tm=vs/\oh.map st.mem=ms/\dI bn st.tm st.mem
 |.exit id,st=>cj T K k (.exit id) st
 |.ret,st=>cj T K k .ret st
section
variable {ι:Type} (T:bm) (hl:List Nat) (oh:List Key) (vs:List R) (ms:List (Option (Nat×List R))) (dI:ι->(Nat->R)->Mem->Prop) (m:ι->Nat) (i:ι) (K:eF->bg->Prop) (k:List fB)
@[go_sem] theorem aH9 (id:Nat)(st:bg):Li T hl oh vs ms dI m i K k (.exit id) st=cj T K k (.exit id) st:=bN
@[go_sem] theorem aIa (st:bg):Li T hl oh vs ms dI m i K k .ret st=cj T K k .ret st:=bN
@[go_sem] theorem aIb (st:bg):Li T hl oh vs ms dI m i K k .normal st=∃bn,m bn<m i/\hl.map st.tm=vs/\oh.map st.mem=ms/\dI bn st.tm st.mem:=bN
end
theorem c9 {ι:Type}{T:bm}{K:eF->bg->Prop}{k:List fB}{HF:Nat->R}{eh:Mem}{c:ep}(hl:List Nat)(oh:List Key)(dI:ι->(Nat->R)->Mem->Prop)(m:ι->Nat)(i0:ι)(aj:dI i0 HF eh)
  (h:∀vs ms,hl.map HF=vs->oh.map eh=ms->∀i tm mem,hl.map tm=vs->oh.map mem=ms->dI i tm mem->wp T c (cj T (Li T hl oh vs ms dI m i K k) []) ⟨tm,mem⟩) :
  wp T (.loop c) (cj T K k) ⟨HF,eh⟩:=by
 refine aq4 (λi st=>hl.map st.tm=hl.map HF/\oh.map st.mem=oh.map eh/\dI i st.tm st.mem) m i0 ⟨rfl,rfl,aj⟩ ?_;rintro i ⟨tm,mem⟩ ⟨G,J,af⟩;have:=h _ _ rfl rfl i tm mem G J af
 have L:cj T (Li T hl oh (hl.map HF) (oh.map eh) dI m i K k) []=cj T (HD T (λi (st:bg)=>hl.map st.tm=hl.map HF/\oh.map st.mem=oh.map eh/\dI i st.tm st.mem) m i K k) []:=by
  funext e er
  cases e<;>rfl
 rw[L] at this;exact this
theorem wp_mono {T:bm}:∀(c:ep) (K j9:eF->bg->Prop),(∀e st,K e st->j9 e st)->∀st,wp T c K st->wp T c j9 st:=by
 intro c
 induction c with
 |skip=>exact λK j9 h st=>h _ _
 |ops l =>
  intro K j9 h st hw
  have:∀(l:List dp) (K j9:bg->Prop),(∀st,K st->j9 st)->∀st,zb T K l st->zb T j9 l st:=by
   intro l
   induction l with
   |nil=>exact λK j9 h st=>h st
   |cons i r aH =>
    intro K j9 h st hw;unfold zb at hw ⊢
    split
    ·rename_i bq;rw[bq] at hw;exact hw
    ·rename_i g bq;rw[bq] at hw;simp only at hw ⊢
     split
     ·rename_i g1;rw[ad g1] at hw
      have sO:∀(K j9:bg->Prop),(∀st,K st->j9 st)->hb T K i st->hb T j9 i st:=by
       intro K j9 h hw
       have H:∀d f args,wh T K st d f args->wh T j9 st d f args:=by
        intro d f args hw;unfold wh at hw ⊢
        split
        ·rename_i aX;rw[aX] at hw;exact h _ hw
        ·rename_i aX;rw[aX] at hw;exact h _ hw
        ·rename_i aX;rw[aX] at hw;exact λr mem' X=>h _ (hw r mem' X)
        ·rename_i aX;rw[aX] at hw;exact h _ hw
        ·rename_i aX;rw[aX] at hw;exact hw
       unfold hb at hw ⊢
       split
       ·rename_i aX;rw[aX] at hw;exact H _ _ _ hw
       ·rename_i aX;rw[aX] at hw
        simp only at hw
        split
        ·rename_i qm;rw[qm] at hw
         simp only at hw
         split
         ·rename_i Q;rw[ad Q] at hw;exact h _ hw
         ·rename_i Q;rw[ag Q] at hw;exact hw
        ·rename_i qm
         split at hw
         ·rename_i eR es U5;exact (qm eR es U5).elim
         ·exact hw
       ·rename_i aX;rw[aX] at hw
        simp only at hw
        split
        ·rename_i qm;rw[qm] at hw;exact H _ _ _ hw
        ·rename_i qm;rw[qm] at hw;exact H _ _ _ hw
        ·rename_i qm U5
         split at hw
         ·rename_i U6;exact (qm _ _ U6).elim
         ·rename_i U6;exact (U5 _ _ U6).elim
         ·exact hw
       ·rename_i aX;rw[aX] at hw
        simp only at hw
        split
        ·rename_i qm;rw[qm] at hw;exact λb ai=>h _ (hw b ai)
        ·rename_i qm;rw[qm] at hw;exact hw
       ·rename_i G J af aP
        split at hw
        ·rename_i aX;exact (G _ _ aX).elim
        ·rename_i aX;exact (J _ _ _ _ aX).elim
        ·rename_i aX;exact (af _ _ aX).elim
        ·rename_i aX;exact (aP _ _ aX).elim
        ·split
         ·rename_i aX;rw[aX] at hw;exact h _ hw
         ·rename_i aX;rw[aX] at hw;exact hw
      exact sO _ _ (aH _ _ h) hw
     ·rename_i g1;rw[ag g1] at hw;exact aH _ _ h _ hw
  exact this l _ _ (λst=>h .normal st) st hw
 |my l c =>
  intro K j9 h st hw
  have:∀(l:List dp) (n:Nat) (cs:List (List Nat)) (rec:Rec) (K j9:bg->Prop),(∀st,K st->j9 st)->∀st,xJ T K n l cs rec st->xJ T j9 n l cs rec st:=by
   intro l
   induction l with
   |nil=>exact λn cs rec K j9 h st=>h st
   |cons i r aH =>
    intro n cs rec K j9 h st hw;unfold xJ at hw ⊢
    split
    ·rename_i bq;rw[bq] at hw;exact hw
    ·rename_i g bq;rw[bq] at hw;simp only at hw ⊢
     split
     ·rename_i g1;rw[ad g1] at hw
      split
      ·rename_i m e Q;rw[Q] at hw;exact⟨hw.1,aH _ _ _ _ _ h _ hw.2⟩
      ·rename_i Q;rw[Q] at hw;exact hw
     ·rename_i g1;rw[ag g1] at hw;exact aH _ _ _ _ _ h _ hw
  exact this l 0 c _ _ _ (λst=>h .normal st) st hw
 |seq a b iha ihb =>
  intro K j9 h st hw;refine iha _ _ (λe er aX=>?_) st hw
  cases e with
  |normal=>exact ihb _ _ h _ aX
  |exit id=>exact h _ _ aX
  |ret=>exact h _ _ aX
 |cond c a b iha ihb =>
  intro K j9 h st hw;unfold wp at hw ⊢
  split
  ·rename_i t H;rw[H] at hw;simp only at hw
   split
   ·rename_i cm;rw[ad cm] at hw;exact iha _ _ h _ hw
   ·rename_i cm;rw[ag cm] at hw;exact ihb _ _ h _ hw
  ·rename_i M
   split at hw
   ·rename_i H;exact (M _ H).elim
   ·exact hw
 |block id c aH =>
  intro K j9 h st hw;refine aH _ _ (λe er aX=>?_) st hw
  cases e with
  |normal=>exact h _ _ aX
  |exit j =>
   simp only at aX ⊢
   split
   ·rename_i ax;rw[ad ax] at aX;exact h _ _ aX
   ·rename_i ax;rw[ag ax] at aX;exact h _ _ aX
  |ret=>exact h _ _ aX
 |loop c aH =>
  intro K j9 h st hw;obtain⟨Ek,μ,aj,Lg⟩:=hw;refine⟨Ek,μ,aj,λst dq=>aH _ _ (λe er aX=>?_) _ (Lg st dq)⟩
  cases e with
  |normal=>exact aX
  |exit id=>exact h _ _ aX
  |ret=>exact h _ _ aX
 |exit id=>exact λK j9 h st=>h _ _
 |ret=>exact λK j9 h st=>h _ _
 |ghost g c aH =>
  intro K j9 h st hw
  have:∀(K j9:bg->Prop),(∀st,K st->j9 st)->k1 K st g->k1 j9 st g:=by
   intro K j9 h hw;unfold k1 at hw
   repeat' split at hw
   all_goals first
    |exact hw.elim
    |exact⟨hw.choose,hw.choose_spec.1,h _ hw.choose_spec.2⟩
    |(
      rcases hw with hw|⟨fI,gB,gC,i,k,g,sz,off,len,cs,k',G,J,af,aP,bh,bK,hw⟩|⟨fI,gB,gC,i,k,g,sz,off,len,cs,d,G,J,af,aP,bh,bK,hw⟩
      ·exact .inl (h _ hw)
      ·exact .inr (.inl ⟨fI,gB,gC,i,k,g,sz,off,len,cs,k',G,J,af,aP,bh,bK,h _ hw⟩)
      ·exact .inr (.inr ⟨fI,gB,gC,i,k,g,sz,off,len,cs,d,G,J,af,aP,bh,bK,h _ hw⟩))
    |(
      have cv:=h _ hw;clear hw h;unfold k1
      simp_all)
  exact this _ _ (aH _ _ h) hw
def HG (T:bm)(K:eF->bg->Prop)(k:List fB)(aU:bg->Prop):eF->bg->Prop
 |.normal,st=>aU st
 |.exit id,st=>cj T K k (.exit id) st
 |.ret,st=>cj T K k .ret st
@[go_sem] theorem aIc {T:bm}{K:eF->bg->Prop}{k:List fB}{aU:bg->Prop}(st:bg):HG T K k aU .normal st=aU st:=bN
@[go_sem] theorem aId {T:bm}{K:eF->bg->Prop}{k:List fB}{aU:bg->Prop}(id:Nat)(st:bg):HG T K k aU (.exit id) st=cj T K k (.exit id) st:=bN
@[go_sem] theorem aIe {T:bm}{K:eF->bg->Prop}{k:List fB}{aU:bg->Prop}(st:bg):HG T K k aU .ret st=cj T K k .ret st:=bN
theorem afJ {T:bm}{K:eF->bg->Prop}{k:List fB}{c a:ep}{st:bg}(aU:bg->Prop)(a4:wp T a (cj T (HG T K k aU) []) st)(H:∀er,aU er->wp T c (cj T K k) er):wp T a (cj T K (.code c::k)) st:=by
 refine wp_mono a _ _ (λe er aX=>?_) st a4
 cases e with
 |normal=>exact H er aX
 |exit id=>exact aX
 |ret=>exact aX
theorem arc {T:bm}{K:eF->bg->Prop}{k:List fB}{x:Bool}{c a b:ep}{st:bg}(aU:bg->Prop)(a4:x=true->wp T a (cj T (HG T K k aU) []) st)(ai:x=false->wp T b (cj T (HG T K k aU) []) st)
  (H:∀er,aU er->wp T c (cj T K k) er):rX T K (.code c::k) (.I (.bool x)) a b st:=by
 cases x
 ·rw[ap5];exact afJ aU (ai rfl) H
 ·rw[ap4];exact afJ aU (a4 rfl) H
attribute [go_sem] beq_true beq_false Bool.true_beq Bool.false_beq lZ List.flatten_nil gD List.headD_cons List.headD_nil List.tail_cons List.tail_nil List.contains_nil List.contains_cons Bool.not_eq_true'
section
variable {T:bm} {K:eF->bg->Prop} {k:List fB} {st:bg}
@[go_sem] theorem aIf (g:OW)(c:ep):wp T (.ghost g c) (cj T K k) st=k1 (wp T c (cj T K k)) st g:=bN
def U7 (K:bg->Prop)(st:bg)(s k sz:Nat):R->Prop
 |.nil=>K ⟨dW st.tm s (.ref k (cA st.mem k) sz 0 0),a5 st.mem k (cA st.mem k) []⟩
 |_=>False
@[go_sem] theorem aIg (K:bg->Prop)(s k sz:Nat):k1 K st (.nn s k sz)=U7 K st s k sz (st.tm s):=by
 unfold k1 U7;rfl
@[go_sem] theorem aIh (K:bg->Prop)(s k sz:Nat):U7 K st s k sz .nil=K ⟨dW st.tm s (.ref k (cA st.mem k) sz 0 0),a5 st.mem k (cA st.mem k) []⟩:=bN
end
section
variable {K:bg->Prop} {st:bg}
theorem ard (h:K st):k1 K st .move:=.inl h
theorem arf (fI i k k':Nat){gB:Nat}{gC:List R}{g sz off len:Nat}{cs:List R}(G:st.mem fI=some (gB,gC))(J:gC[i]?=some (.ref k g sz off len))(af:st.mem k=some (g,cs))(aP:k≠fI)(bh:k'≠k)(bK:k'≠fI)
  (h:K ⟨st.tm,a5 (a5 (a5 st.mem k (cA st.mem k) []) k' (cA st.mem k') cs) fI gB (gC.set i (.ref k' (cA st.mem k') sz off len))⟩):k1 K st .move :=
 .inr (.inl ⟨fI,gB,gC,i,k,g,sz,off,len,cs,k',G,J,af,aP,bh,bK,h⟩)
theorem arh (fI i k:Nat){gB:Nat}{gC:List R}{g sz off len:Nat}{cs:List R}{d:Data}(G:st.mem fI=some (gB,gC))(J:gC[i]?=some (.ref k g sz off len))(af:st.mem k=some (g,cs))(aP:xK cs=true)(bh:k≠fI)(bK:dx 1 st.mem (.ref k g sz off len)=some d)
  (h:K ⟨st.tm,a5 (kill st.mem k) fI gB (gC.set i (.I d))⟩):k1 K st .move :=
 .inr (.inr ⟨fI,gB,gC,i,k,g,sz,off,len,cs,d,G,J,af,aP,bh,bK,h⟩)
def Lj (K:bg->Prop)(st:bg)(s k g sz off len:Nat):Option (Nat×List R)->Prop
 |some (ea,cs)=>if ea=g/\xK cs=true then (match cut cs off (len*sz) with
  |some part=>(match part.mapM (dx 0 st.mem) with
   |some ds=>K ⟨dW st.tm s (.I (.Y (chunk sz len ds))),kill st.mem k⟩
   |none=>False)
  |none=>False) else False
 |none=>False
def U8 (K:bg->Prop)(st:bg)(s:Nat):R->Prop
 |.ref k g sz off len=>Lj K st s k g sz off len (st.mem k)
 |_=>False
@[go_sem] theorem aIi (s:Nat):k1 K st (.freeze s)=U8 K st s (st.tm s):=by
 unfold k1 U8;dsimp only
 cases hm:st.tm s with
 |ref k g sz off len=>?_
 |_=>rfl
 dsimp only;unfold Lj
 cases L:st.mem k with
 |none=>rfl
 |some x =>
  obtain⟨ea,cs⟩:=x;simp only
  by_cases H:ea=g/\xK cs=true
  ·rw[ad H,ad H];unfold dx;rw[L];simp only[H.1,if_true]
   cases tO:cut cs off (len*sz) with
   |none=>rfl
   |some part =>
    simp only
    cases aC:part.mapM (dx 0 st.mem)<;>rfl
  ·rw[ag H,ag H]
@[go_sem] theorem aIj (s k g sz off len:Nat):U8 K st s (.ref k g sz off len)=Lj K st s k g sz off len (st.mem k):=bN
@[go_sem] theorem aIk (mem:Mem)(k:Key):kill mem k=a5 mem k (cA mem k) []:=bN
end
open Classical in
def cy {α:Type}(xX:α->List Data)(f:α->Option eM):List Data->Option eM:=λds=>if h:∃a,xX a=ds then f (zq h) else none
theorem cF {α:Type}{xX:α->List Data}{f:α->Option eM}(inj:∀a b,xX a=xX b->a=b)(a:α):cy xX f (xX a)=f a:=by
 have h:∃b,xX b=xX a:=⟨a,rfl⟩;unfold cy;rw[dif_pos h,inj _ _ (r2 h)]
theorem U9 {α:Type}{xX:α->List Data}{f:α->Option eM}{ds:List Data}{r:eM}(h:cy xX f ds=some r):∃a,ds=xX a/\f a=some r:=by
 unfold cy at h
 split at h
 ·rename_i M;exact⟨_,(r2 M).symm,h⟩
 ·cases h
open Classical in
def cT (c:Prop)(r:eM):Option eM:=if c then some r else none
theorem cY {c:Prop}(h:c)(r:eM):cT c r=some r:=by unfold cT;rw[ad h]
theorem Va {c:Prop}{r AL:eM}(h:cT c r=some AL):c/\AL=r:=by
 unfold cT at h
 split at h
 ·cases h;exact⟨‹_›,rfl⟩
 ·cases h
@[go_sem] theorem aIl (aR:List Data->Option eM)(args:List R)(mem:Mem):aO aR args mem=HC aR (args.mapM (dx 6 emp)) (args.mapM (dx 6 mem)):=bN
theorem map_inj {α β:Type}{f:α->β}(h:∀a b,f a=f b->a=b):∀(l fL:List α),l.map f=fL.map f->l=fL:=by
 intro l
 induction l with
 |nil=>intro fL e;cases fL<;>simp_all
 |cons a r aH =>
  intro fL e
  cases fL with
  |nil=>simp at e
  |cons b AL =>
   simp only[eI,bf] at e;rw[h _ _ e.1,aH _ e.2]
def PE (l:List (FuncId×(List Data->Option eM))):FuncId->Option (List Data->Option eM):=λf=>(l.find? λp=>p.1==f).map (·.2)
theorem r3 {P:Program}{l:List (FuncId×(List Data->Option eM))}(h:∀p∈l,r1 P p.1 p.2):∀f aR,PE l f=some aR->r1 P f aR:=by
 intro f aR aD;unfold PE at aD;rw[e6] at aD;obtain⟨p,aC,rfl⟩:=aD;have G:=List.mem_of_find?_eq_some aC;have J:=List.find?_some aC;have af:p.1=f:=by simpa using J
 exact af ▸ h p G
theorem cn {P:Program}:∀p∈([]:List (FuncId×(List Data->Option eM))),r1 P p.1 p.2:=by simp
theorem a3 {P:Program}{f:FuncId}{aR:List Data->Option eM}{l:List (FuncId×(List Data->Option eM))}(h:r1 P f aR)(az:∀p∈l,r1 P p.1 p.2):∀p∈(f,aR)::l,r1 P p.1 p.2:=by
 intro p aC;rcases m1.1 aC with rfl|aC
 ·exact h
 ·exact az p aC
theorem afK {mZ:FuncId->Option (List Data->Option eM)}{f:FuncId}{aR:List Data->Option eM}(h:mZ f=some aR):CH mZ f=aO aR:=by
 funext args mem
 unfold CH;rw[h]
@[go_sem] theorem aIm (mem:Mem)(k:Key)(z:List R)(b m:Nat)(new:List R):sH mem k z b .nil (some (m,new)) =
  if m*b<=140737488355328/\m<=maxLen/\new.all R.one=true then some (.ref k (cA mem k) (D z) 0 m,some (k,cA mem k,new)) else none:=bN
@[go_sem] theorem aIn (mem:Mem)(k k':Key)(z:List R)(g sz b len m:Nat)(new:List R):sH mem k z b (.ref k' g sz 0 len) (some (m,new)) =
  if sz=(D z) then lr k' g sz len b m new (mem k') else none:=by
 unfold sH;simp
def aS {α:Type}(enc:α->List Data)(l:List α):List R:=(l.map enc).flatten.map .I
section
variable {α:Type} {enc:α->List Data} {sz:Nat}
theorem ari:aS enc []=[]:=rfl
theorem zr (a:α)(l:List α):aS enc (a::l)=(enc a).map .I++aS enc l:=by simp[aS]
theorem Vb (a b:List α):aS enc (a++b)=aS enc a++aS enc b:=by simp[aS]
theorem lB (h:∀a,(enc a).length=sz)(l:List α):(aS enc l).length=D l*sz:=by
 induction l with
 |nil=>simp[aS]
 |cons a r aH=>rw[zr,gj,aH,ah,h,kB,rM,Nat.one_mul,Nat.add_comm]
theorem afL (h:∀a,(enc a).length=sz){l:List α}{i:Nat}{a:α}(U:l[i]?=some a):∃p q,aS enc l=p++((enc a).map .I++q)/\D p=i*sz/\∀b,aS enc (l.set i b)=p++((enc b).map .I++q):=by
 have av:=(eg.1 U).1;have mb:l[i]=a:=(eg.1 U).2
 have e:l=l.take i++a::l.drop (i+1):=by
  rw[<-mb,<-iC av,CK]
 refine⟨aS enc (l.take i),aS enc (l.drop (i+1)),?_,?_,λb=>?_⟩
 ·conv=>lhs;rw[e]
  rw[Vb,zr]
 ·rw[lB h,fU];congr 1;omega
 ·rw[List.set_eq_take_append_cons_drop,ad av,Vb,zr]
theorem PF (h:∀a,(enc a).length=sz){l:List α}{i:Nat}{a:α}(U:l[i]?=some a){f n:Nat}(aD:f+n<=sz):cut (aS enc l) (i*sz+f) n=some ((((enc a).map .I).drop f).take n):=by
 obtain⟨p,q,e,aC,-⟩:=afL h U;have a4:=h a;unfold cut;rw[e,ad (by simp only[gj,ah];omega),<-aC];rw[sV,mA (by omega)];rw[show (D p)+f-D p=f by omega,ir,sV,List.take_append]
 have:n-(((enc a).map R.I).drop f).length=0:=by simp only[oi,ah];omega
 rw[this,ma,gD]
theorem Vc (h:∀a,(enc a).length=sz){l:List α}{i:Nat}(U:i<D l)(b:α):mz (aS enc l) (i*sz) ((enc b).map .I)=aS enc (l.set i b):=by
 obtain⟨p,q,e,aC,Q⟩:=afL h (bB U);rw[Q b,e];have a4:=h l[i];have ai:=h b;unfold mz;rw[<-aC,Vd,hd]
 congr 2
 rw[sV,mA (by omega),ir,ah,show (D p)+(enc b).length-D p=(enc b).length by omega,ai,<-a4,<-ah (f:=R.I),Ve]
theorem arj (bS:∀a,((enc a).map R.I).all R.one=true)(l:List α):(aS enc l).all R.one=true:=by
 induction l with
 |nil=>rfl
 |cons a r aH=>rw[zr,List.all_append,bS,aH];rfl
theorem A5 (h:∀a,(enc a).length=sz)(bS:∀a,((enc a).map R.I).all R.one=true)(k g b:Nat)(l new:List α)(ai:(D l+D new)*b<=140737488355328)(hm:(D l)+D new<=1000000000):
  lr k g sz (D l) b (D new) (aS enc new) (some (g,aS enc l))=some (.ref k (g+1) sz 0 (D l+D new),some (k,g+1,aS enc (l++new))):=by
 unfold lr;have AY:(D l)+D new<=maxLen:=eP hm (by decide);dsimp only;rw[ad ⟨rfl,by rw[lB h];exact cI _,ai,AY,arj bS new⟩,Vb,dH (by rw[lB h];exact cI _)]
theorem ka (h:∀a,(enc a).length=sz)(bS:∀a,((enc a).map R.I).all R.one=true)(k g b:Nat)(l:List α)(a:α){cs:List R}(H:cs=(enc a).map .I)(ai:(D l+1)*b<=140737488355328)(hm:(D l)+1<=1000000000):
  lr k g sz (D l) b 1 cs (some (g,aS enc l))=some (.ref k (g+1) sz 0 (D l+1),some (k,g+1,aS enc (l++[a]))):=by
 have:=A5 h bS k g b l [a] ai hm;rw[H];rw[zr,ari,gD] at this;exact this
theorem EH (f:R->Option Data)(aD:∀d,f (.I d)=some d)(l:List Data):(l.map R.I).mapM f=some l:=by
 induction l with
 |nil=>rfl
 |cons a r aH=>simp[aD,aH]
theorem CL:∀(l:List (List Data)),(∀e∈l,D e=sz)->chunk sz (D l) l.flatten=l:=by
 intro l
 induction l with
 |nil=>intro _;rfl
 |cons e r aH =>
  intro h;have he:=h e (by simp);rw[kB,lZ,chunk];rw[<-he,Vd,Ve,he,aH λx M=>h x (by simp[M])]
theorem kt (h:∀a,(enc a).length=sz){n k g:Nat}{mem:Mem}{l:List α}(hm:mem k=some (g,aS enc l)):dx (n+1) mem (.ref k g sz 0 (D l))=some (.Y (l.map enc)):=by
 unfold dx;rw[hm];simp only[if_true];unfold cut;rw[rT,lB h,ad (cI _)];simp only[nP];rw[dH (by rw[lB h];exact cI _)];unfold aS;rw[EH _ λd=>by cases n<;>rfl]
 have:=CL (sz:=sz) (l.map enc) (by simpa using λa _=>h a);rw[ah] at this;simp[this]
end
theorem HH {α:Type}(enc:α->List Data)(l:List α):xK (aS enc l)=true:=by
 unfold xK aS;rw[qs];intro m hm;rw[gE] at hm;obtain⟨d,_,rfl⟩:=hm
 rfl
theorem k6 {α:Type}{enc:α->List Data}{sz:Nat}(h:∀a,(enc a).length=sz){K:bg->Prop}{st:bg}(s k g:Nat)(l:List α):
  Lj K st s k g sz 0 (D l) (some (g,aS enc l))=K ⟨dW st.tm s (.I (.Y (l.map enc))),kill st.mem k⟩:=by
 have X:=kt (n:=0) h (mem:=a5 st.mem k g (aS enc l)) (k:=k) (g:=g) (l:=l) (by simp[a5]);unfold Lj;dsimp only;rw[ad ⟨rfl,HH enc l⟩];unfold cut;rw[rT,lB h,ad (cI _)];dsimp only;rw[nP,dH (by rw[lB h];exact cI _)];unfold aS;rw[EH _ λd=>rfl];dsimp only;have:=CL (sz:=sz) (l.map enc) (by simpa using λa _=>h a);rw[ah] at this;rw[this]
theorem wrap64 (x:Int)(G:-9223372036854775808<=x)(J:x<=9223372036854775807):IntKind.i64.wrap x=x:=by
 rw[IntKind.wrap_i64];omega
theorem afM {α:Type}(l:List α)(i:Int)(aj:0<=i)(h:i<D l):∃x,l[i.toNat]?=some x/\l.drop i.toNat=x::l.drop (i+1).toNat/\l.take (i+1).toNat=l.take i.toNat++[x]:=by
 have av:i.toNat<D l:=by omega
 have e:(i+1).toNat=i.toNat+1:=by omega
 refine⟨l[i.toNat],bB av,?_,?_⟩
 ·rw[e];exact iC av
 ·rw[e];rw[g2,bB av];rfl
abbrev WP (T:bm)(mf:b1)(r:eM)(l:List R):Prop:=wp T mf.body (A3 mf.res r) ⟨l1 l,emp⟩
theorem cH {T:bm}{c:ep}{K:eF->bg->Prop}{st:bg}(h:wp T c (cj T K []) st):wp T c K st:=tQ h
theorem e7 (x:Int)(G:-9223372036854775808<=x:=by omega)(J:x<=9223372036854775807:=by omega):IntKind.i64.wrap x=x:=wrap64 x G J
theorem eu {i:Nat}(h:i<1000000000000):IntKind.i64.wrap ((i:Int)+1)=((i+1:Nat):Int):=by rw[wrap64 _ (by omega) (by omega)];omega
end Go.Mini
namespace Go.Mini
open Go Go.ChangeShapes Go.WideShapes
inductive r4 where
 |int (k:IntKind)
 |bool
 |str
 |Y (e:r4)
 |st (l:List r4)
mutual
def Fit:r4->List Data->Prop
 |.int k,ds=>∃n,ds=[.int k n]/\(Lit.int k n).wf=true
 |.bool,ds=>∃b,ds=[.bool b]
 |.str,ds=>∃s,ds=[.str s]/\D s<=maxLen
 |.Y e,ds=>∃es,ds=[.Y es]/\D es<=maxLen/\∀x∈es,Fit e x
 |.st l,ds=>Fits l ds
def Fits:List r4->List Data->Prop
 | [],ds=>ds=[]
 |s::r,ds=>∃a b,ds=a++b/\Fit s a/\Fits r b
end
def Lk (P:Program):Nat->List Field->Nat->Bool
 |off,[],tot=>off==tot
 |off,f::r,tot=>f.offset==off&&Lk P (off+P.cellsOf f.type) r tot
def Ll (g:TypeId->Option r4):List Field->Option (List r4)
 | []=>some []
 |f::r=>match g f.type,Ll g r with
  |some s,some l=>some (s::l)
  |_,_=>none
def tT (P:Program):Nat->TypeId->Option r4
 |0,_=>none
 |n+1,t=>match P.underlying t with
  |some .bool=>some .bool
  |some (.int k)=>some (.int k)
  |some .string=>some .str
  |some (.slice e)=>if 0<P.cellsOf e then (tT P n e).map .Y else none
  |some (.struct eb)=>if Lk P 0 eb.toList (P.cellsOf t)=true then (Ll (tT P n) eb.toList).map .st else none
  |_=>none
section
variable {gI:Type} {enc:TypeId×Value->gI} {P:Program} {w:World} {base:Nat}
def Lm (enc:TypeId×Value->gI)(P:Program)(w:World)(base:Nat)(S:r4)(fuel:Nat)(t:TypeId)(cs:List Value)(x:DataW gI×List MemPlace):Prop :=
 (∃ds,Fit S ds/\A1 w (λ_=>False) ds cs)/\(∀p∈x.2,p.block<w.heap.size) /\
 ∀(aV:World) (sp:Nat->Bool),(∀p∈x.2,sp p.block=true)->(∀b,b<w.heap.size->aV.heap[b]?=w.heap[b]?)->DataW.trod enc P aV base sp true fuel t cs=some x
theorem Ln {a0:Nat->Prop}{d:Data}{v:Value}(h:Den w a0 d v):A1 w a0 [d] [v]:=by
 refine⟨rfl,λi zk Eo G J=>?_⟩
 cases i with
 |zero=>cases G;cases J;exact h
 |succ i=>simp at G
theorem afN (a:Addr)(i:Nat):(a.add i).block=a.block:=by
 unfold Addr.add
 split<;>rfl
theorem add_plain (b off i:Nat):(Addr.add ⟨b,off,none⟩ i)=⟨b,off+i,none⟩:=by
 unfold Addr.add
 split
 ·rename_i h;subst h;rfl
 ·rfl
theorem afO {aV:World}{a:Addr}{n:Nat}{cs:List Value}(h:w.cells? base a n=some cs)(L:∀b,b<w.heap.size->aV.heap[b]?=w.heap[b]?):aV.cells? base a n=some cs:=by
 unfold World.cells? at h ⊢
 split at h
 ·rename_i ai;rw[ad ai,<-h]
  by_cases av:a.block<w.heap.size
  ·have he:(λi=>aV.cell? (a.add i))=λi=>w.cell? (a.add i):=by
    funext i
    exact World.cell?_of_block (a:=a.add i) (L _ (by rw[afN];exact av))
   rw[he]
  ·cases n with
   |zero=>rfl
   |succ n =>
    exfalso
    have:w.cell? (a.add 0)=none:=by
     unfold World.cell?;have:w.heap[(a.add 0).block]?=none:=Array.getElem?_eq_none (by rw[afN];omega);rw[this]
    rw[List.range_succ_eq_map,oa,this] at h
    cases h
 ·cases h
theorem Vf {a:Addr}{n:Nat}{cs:List Value}(h:w.cells? base a n=some cs):(D cs)=n/\∀i,i<n->∃v,cs[i]?=some v/\w.cell? (a.add i)=some v:=by
 unfold World.cells? at h
 split at h
 ·obtain⟨G,J⟩:=pG h;rw[sW] at G;refine⟨G,λi U=>?_⟩;have H:=bB (l:=cs) (i:=i) (by omega);exact⟨_,H,J i i _ (by simp[U]) H⟩
 ·cases h
theorem ark {a:Addr}{v:Value}(h:w.cell? a=some v):a.block<w.heap.size/\a.spot=none:=by
 unfold World.cell? at h
 split at h
 ·rename_i ai;refine⟨(Array.getElem?_eq_some_iff.1 ai).1,?_⟩
  cases Q:a.spot with
  |none=>rfl
  |some x=>rw[Q] at h;simp at h
 ·cases h
theorem mapM_congr {α β:Type}{f g:α->Option β}:∀{l:List α},(∀x∈l,f x=g x)->l.mapM f=l.mapM g:=by
 intro l
 induction l with
 |nil=>intro _;rfl
 |cons a r aH =>
  intro h;rw[oa,oa,h a (by simp),aH λx M=>h x (by simp[M])]
theorem arl {β:Type}(len:Nat)(aU:Nat->β->Prop)(h:∀i,i<len->∃y,aU i y):∃l:List β,D l=len/\∀i y,l[i]?=some y->aU i y:=by
 induction len with
 |zero=>exact⟨[],rfl,λi y h=>by simp at h⟩
 |succ n aH =>
  obtain⟨l,G,J⟩:=aH λi U=>h i (by omega);obtain⟨y,ao⟩:=h n (by omega);refine⟨l++[y],by simp[G],λi z a2=>?_⟩
  rw[Hk] at a2
  split at a2
  ·exact J i z a2
  ·rename_i av
   have:i-D l=0:=by
    have:=(eg.1 a2).1;simp at this;omega
   rw[this] at a2
   cases a2;have:i=n:=by omega
   subst this;exact ao
theorem arn {β:Type}{sz:Nat}:∀(es:List (List β)),(∀e∈es,D e=sz)->0<sz->∀(i:Nat) (d:β),es.flatten[i]?=some d->∃e,es[i/sz]?=some e/\e[i%sz]?=some d:=by
 intro es
 induction es with
 |nil=>intro _ _ i d h;simp at h
 |cons e r aH =>
  intro h a2 i d ab;have he:=h e (by simp);rw[lZ,Hk] at ab
  split at ab
  ·rename_i av;rw[he] at av;refine⟨e,by rw[Vg av];rfl,by rw[Lo av];exact ab⟩
  ·rename_i b4;rw[he] at ab b4;obtain⟨x,G,J⟩:=aH (λy ao=>h y (by simp[ao])) a2 _ d ab;have U:i=(i-sz)+sz:=by omega
   refine⟨x,?_,?_⟩
   ·rw[U,Nat.add_div_right _ a2]
    simpa using G
   ·rw[U,Nat.add_mod_right];exact J
theorem aro {n fuel:Nat}(aH:∀t S,tT P n t=some S->∀(cs:List Value) (x:DataW gI×List MemPlace),DataW.trod enc P w base (λ_=>true) true fuel t cs=some x->Lm enc P w base S fuel t cs x)(cs:List Value):
  ∀(eb:List Field) (off:Nat) (l:List r4) (xs:List (DataW gI×List MemPlace)),Ll (tT P n) eb=some l->Lk P off eb (D cs)=true ->
   eb.mapM (λf=>DataW.trod enc P w base (λ_=>true) true fuel f.type ((cs.drop f.offset).take (P.cellsOf f.type)))=some xs ->
   (∃ds,Fits l ds/\A1 w (λ_=>False) ds (cs.drop off))/\(∀p∈xs.flatMap (·.2),p.block<w.heap.size) /\
   ∀(aV:World) (sp:Nat->Bool),(∀p∈xs.flatMap (·.2),sp p.block=true)->(∀b,b<w.heap.size->aV.heap[b]?=w.heap[b]?) ->
    eb.mapM (λf=>DataW.trod enc P aV base sp true fuel f.type ((cs.drop f.offset).take (P.cellsOf f.type)))=some xs:=by
 intro eb
 induction eb with
 |nil =>
  intro off l xs az cm M;simp only[Ll,cO] at az;subst az;simp only[Lk,beq_iff_eq] at cm;simp only[afI,h8,cO] at M;subst M;refine⟨⟨[],rfl,?_⟩,by simp,λ_ _ _ _=>rfl⟩
  rw[cm,Vh];exact⟨rfl,λi d v h=>by simp at h⟩
 |cons f r ihf =>
  intro off l xs az cm M;unfold Ll at az
  split at az
  ·rename_i s fL Q Cv
   cases az;simp only[Lk,gb,beq_iff_eq] at cm;obtain⟨UB,cm⟩:=cm;rw[oa] at M;simp only[h8,ik,fg,cO] at M;obtain⟨x,lC,ys,EI,rfl⟩:=M;obtain⟨⟨Vi,Vj,HI⟩,arp,arq⟩:=aH _ _ Q _ _ lC;obtain⟨⟨afP,k5,e1⟩,ars,art⟩:=ihf _ _ _ Cv cm EI;refine⟨⟨Vi++afP,⟨Vi,afP,rfl,Vj,k5⟩,?_⟩,?_,?_⟩
   ·have aeF:cs.drop off=(cs.drop off).take (P.cellsOf f.type)++cs.drop (off+P.cellsOf f.type):=by
     rw[<-Hz,CK]
    rw[UB] at HI;rw[aeF];refine⟨by rw[gj,gj,HI.1,e1.1],λi d v G J=>?_⟩
    rw[Hk] at G J;have hlen:=HI.1
    by_cases av:i<D Vi
    ·rw[ad av] at G;rw[ad (by omega)] at J;exact HI.2 i d v G J
    ·rw[ag av] at G;rw[ag (by omega),hlen] at J;exact e1.2 _ d v G J
   ·intro p aC;rw[q6,jy] at aC;exact aC.elim (arp p) (ars p)
   ·intro aV sp jA L;rw[oa,arq aV sp (λp aC=>jA p (by rw[q6,jy];exact .inl aC)) L];have:=art aV sp (λp aC=>jA p (by rw[q6,jy];exact .inr aC)) L;simp only[h8,ik,CJ];rw[this]
    rfl
  ·cases az
theorem aru:∀(n:Nat) (t:TypeId) (S:r4),tT P n t=some S->∀(fuel:Nat) (cs:List Value) (x:DataW gI×List MemPlace),DataW.trod enc P w base (λ_=>true) true fuel t cs=some x->Lm enc P w base S fuel t cs x:=by
 intro n
 induction n with
 |zero=>intro t S h;simp[tT] at h
 |succ n aH =>
  intro t S dn fuel cs x M
  cases fuel with
  |zero=>cases M
  |succ fuel =>
   unfold tT at dn
   split at dn
   ·-- bool
    rename_i hu
    cases dn
    have key:∀(aV:World) (sp:Nat->Bool) (cs:List Value),DataW.trod enc P aV base sp true (fuel+1) t cs=match cs with|[.bool b]=>some (.lit (.bool b),[])|_=>none:=by
     intro aV sp cs;unfold DataW.trod;rw[hu];clear M
     split<;>simp_all
    rw[key] at M
    split at M
    ·cases M;exact⟨⟨_,⟨_,rfl⟩,Ln .bool⟩,by simp,λaV sp _ _=>by rw[key]⟩
    ·cases M
   ·-- int
    rename_i k hu
    cases dn
    have key:∀(aV:World) (sp:Nat->Bool) (cs:List Value),DataW.trod enc P aV base sp true (fuel+1) t cs=match cs with|[.int k' n]=>if k'=k/\(Lit.int k n).wf=true then some (.lit (.int k n),[]) else none|_=>none:=by
     intro aV sp cs;unfold DataW.trod;rw[hu];clear M
     split<;>simp_all
    rw[key] at M
    split at M
    ·split at M
     ·rename_i H
      cases M;obtain⟨rfl,afQ⟩:=H;exact⟨⟨_,⟨_,rfl,afQ⟩,Ln .int⟩,by simp,λaV sp _ _=>by rw[key];simp[afQ]⟩
     ·cases M
    ·cases M
   ·-- string
    rename_i hu
    cases dn
    have key:∀(aV:World) (sp:Nat->Bool) (cs:List Value),DataW.trod enc P aV base sp true (fuel+1) t cs=match cs with|[.string s]=>if s.size<=maxLen then some (.lit (.string s.data.toList),[]) else none|_=>none:=by
     intro aV sp cs;unfold DataW.trod;rw[hu];clear M
     split<;>simp_all
    rw[key] at M
    split at M
    ·rename_i s
     split at M
     ·rename_i H
      cases M;refine⟨⟨[.str s.data.toList],⟨_,rfl,?_⟩,Ln ?_⟩,by simp,λaV sp _ _=>by rw[key];simp[H]⟩
      ·rw[Array.length_toList];exact H
      ·have:Den w (λ_=>False) (.str s.data.toList) (.string ⟨s.data.toList.toArray⟩):=.str
       simpa using this
     ·cases M
    ·cases M
   ·-- slice
    rename_i e hu
    split at dn
    ·rename_i H;rw[e6] at dn;obtain⟨S,dn,rfl⟩:=dn
     have key:∀(aV:World) (sp:Nat->Bool) (cs:List Value),DataW.trod enc P aV base sp true (fuel+1) t cs=match cs with
      | [.slice none 0 0]=>some (.nil,[])
      | [.slice (some a) len cap] =>
       if base<=a.block/\len<=cap/\cap<=maxLen then
        ((
         eY len).mapM λi=>(aV.cells? base (a.add (i*P.cellsOf e)) (P.cellsOf e)).bind (DataW.trod enc P aV base sp true fuel e)).bind λelems =>
         (if sp a.block then (eY (cap-len)).mapM λj=>(aV.cells? base (a.add ((len+j)*P.cellsOf e)) (P.cellsOf e)).bind (DataW.trod enc P aV base sp true fuel e) else some []).map λrest =>
          (.slice (elems.map (·.1)) (rest.map (·.1)),MemPlace.row a ((D elems+D rest)*P.cellsOf e)++(elems++rest).flatMap (·.2))
       else none
      |_=>none:=by
      intro aV sp cs
      conv=>lhs;unfold DataW.trod
      rw[hu];clear M
      split<;>simp_all
     rw[key] at M
     split at M
     ·cases M;exact⟨⟨[.Y []],⟨_,rfl,fA _,by simp⟩,Ln .mU⟩,by simp,λaV sp _ _=>by rw[key];rfl⟩
     ·rename_i a len cap
      split at M
      ·rename_i ai;rw[fg] at M;obtain⟨elems,he,M⟩:=M;rw[e6] at M;obtain⟨rest,X,rfl⟩:=M;rw[ad rfl] at X;obtain⟨l4,arv⟩:=pG he;obtain⟨cg,arw⟩:=pG X;rw[sW] at l4 cg
       -- each place
       have bW:∀i y,(i<len->elems[i]?=some y)->(¬ i<len->i<cap/\rest[i-len]?=some y)->∃ci,w.cells? base (a.add (i*P.cellsOf e)) (P.cellsOf e)=some ci/\DataW.trod enc P w base (λ_=>true) true fuel e ci=some y:=by
        intro i y G J
        by_cases U:i<len
        ·have:=arv i i y (by simp[U]) (G U);rwa [fg] at this
        ·obtain⟨af,aP⟩:=J U;have:=arw (i-len) (i-len) y (List.getElem?_range (by omega)) aP;rw[show len+(i-len)=i by omega,fg] at this
         exact this
       have fz:0<D elems+(D rest)->a.block<w.heap.size/\a.spot=none:=by
        intro aC;have aj:0<cap:=by omega
        have:∃y,(0<len->elems[0]?=some y)/\(¬ 0<len->0<cap/\rest[0-len]?=some y):=by
         by_cases az:0<len
         ·exact⟨elems[0],λ_=>bB _,λh=>absurd az h⟩
         ·exact⟨rest[0],λh=>absurd h az,λ_=>⟨aj,by rw[Nat.zero_sub];exact bB _⟩⟩
        obtain⟨y,G,J⟩:=this;obtain⟨ci,oc,-⟩:=bW 0 y G J;obtain⟨v,-,aN⟩:=(Vf oc).2 0 H;have:=ark aN;rw[PG] at this;have bu:(a.add 0).add 0=a:=by unfold Addr.add;simp
        rw[bu] at this;exact this
       have u6:∀i y,(i<len->elems[i]?=some y)->(¬ i<len->i<cap/\rest[i-len]?=some y)->∃ci,w.cells? base (a.add (i*P.cellsOf e)) (P.cellsOf e)=some ci/\Lm enc P w base S fuel e ci y:=by
        intro i y G J;obtain⟨ci,af,aP⟩:=bW i y G J;exact⟨ci,af,aH e S dn fuel ci y aP⟩
       have Vk:∀(i:Nat) y,elems[i]?=some y->∃ci,w.cells? base (a.add (i*P.cellsOf e)) (P.cellsOf e)=some ci/\Lm enc P w base S fuel e ci y :=
        λi y ao=>u6 i y (λ_=>ao) (λh=>absurd (by have:=(eg.1 ao).1;omega) h)
       have afR:∀(j:Nat) y,rest[j]?=some y->∃ci,w.cells? base (a.add ((len+j)*P.cellsOf e)) (P.cellsOf e)=some ci/\Lm enc P w base S fuel e ci y :=
        λj y ao=>u6 (len+j) y (λh=>by omega) (λ_=>⟨by have:=(eg.1 ao).1;omega,by rwa [HJ]⟩)
       refine⟨?_,?_,?_⟩
       ·obtain⟨es,Vl,heq⟩:=arl len (λi (ds:List Data)=>∃ci,w.cells? base (a.add (i*P.cellsOf e)) (P.cellsOf e)=some ci/\Fit S ds/\A1 w (λ_=>False) ds ci) λi U=>by
         obtain⟨ci,G,⟨ds,J,af⟩,-,-⟩:=Vk i _ (bB (by omega));exact⟨ds,ci,G,J,af⟩
        refine⟨[.Y es],⟨es,rfl,by omega,λy ao=>?_⟩,Ln ?_⟩
        ·obtain⟨i,U⟩:=zs.1 ao;obtain⟨ci,-,h,-⟩:=heq i y U;exact h
        ·by_cases az:len=0
         ·rw[az] at Vl ⊢;rw[uY Vl];exact .mU
         ·obtain⟨k5,e1⟩:=fz (by omega);obtain⟨b,off,spot⟩:=a;simp only at k5 e1;subst e1
          have fy:∀y∈es,D y=P.cellsOf e:=by
           intro y ao;obtain⟨i,U⟩:=zs.1 ao;obtain⟨ci,G,-,J⟩:=heq i y U;rw[<-J.1,(Vf G).1]
          have jk:∀(i:Nat) (d:Data),es.flatten[i]?=some d->∃v,w.cell? ⟨b,off+i,none⟩=some v/\Den w (λ_=>False) d v:=by
           intro i d ab;obtain⟨y,G,J⟩:=arn es fy H i d ab;obtain⟨ci,af,-,aP⟩:=heq _ y G;have hm:i%P.cellsOf e<P.cellsOf e:=pS _ H;obtain⟨v,bh,bK⟩:=(Vf af).2 _ hm;rw[add_plain,add_plain,uU,tU,PH] at bK;exact⟨v,bK,aP.2 _ d v J bh⟩
          rw[<-Vl];refine .Y (sz:=P.cellsOf e) (λi=>(w.cell? ⟨b,off+i,none⟩).getD undef) (by omega) (by omega) k5 (λh=>h) fy (λi U=>?_) λi d ab=>?_
          ·have av:i<D es.flatten:=by rw[OU fy];exact U
           obtain⟨v,aN,-⟩:=jk i _ (bB av);rw[aN]
           rfl
          ·obtain⟨v,aN,qX⟩:=jk i d ab;rw[aN];exact qX
       ·intro p aC;simp only[jy] at aC;rcases aC with aC|aC
        ·unfold MemPlace.row at aC;rw[gE] at aC;obtain⟨i,U,rfl⟩:=aC;rw[jC] at U
         have:0<D elems+D rest:=by
          rcases k3 (D elems+D rest) with h|h
          ·rw[h,PG] at U;omega
          ·exact h
         exact (fz this).1
        ·rw[EA] at aC;obtain⟨y,ao,aC⟩:=aC;rw[jy] at ao;rcases ao with ao|ao
         ·obtain⟨i,U⟩:=zs.1 ao;obtain⟨ci,-,h⟩:=Vk i y U;exact h.2.1 p aC
         ·obtain⟨i,U⟩:=zs.1 ao;obtain⟨ci,-,h⟩:=afR i y U;exact h.2.1 p aC
       ·intro aV sp jA L;rw[key];simp only;rw[ad ai]
        have fh:0<D elems+(D rest)->sp a.block=true:=by
         intro aC
         have:=jA (.cell a.block (a.off+0)) (by
          rw[jy]
          left
          unfold MemPlace.row;rw[gE];exact⟨0,by rw[jC];exact Nat.mul_pos aC H,rfl⟩)
         exact this
        have arx:(eY len).mapM (λi=>(aV.cells? base (a.add (i*P.cellsOf e)) (P.cellsOf e)).bind (DataW.trod enc P aV base sp true fuel e))=some elems:=by
         rw[<-he];refine mapM_congr λi U=>?_;rw[jC] at U;have ao:=bB (l:=elems) (i:=i) (by omega);obtain⟨ci,G,J⟩:=Vk i _ ao;rw[afO G L,G];simp only[CJ];obtain⟨ary,af,aP⟩:=bW i _ (λ_=>ao) (λh=>absurd U h);rw[G] at af
         cases af;rw[aP]
         exact J.2.2 aV sp (λp aC=>jA p (by
          rw[jy];right
          rw[EA];exact⟨_,jy.2 (.inl (dS ao)),aC⟩)) L
        have arz:(eY (cap-len)).mapM (λj=>(aV.cells? base (a.add ((len+j)*P.cellsOf e)) (P.cellsOf e)).bind (DataW.trod enc P aV base sp true fuel e))=some rest:=by
         rw[<-X];refine mapM_congr λj ax=>?_;rw[jC] at ax;have ao:=bB (l:=rest) (i:=j) (by omega);obtain⟨ci,G,J⟩:=afR j _ ao;rw[afO G L,G];simp only[CJ];obtain⟨ary,af,aP⟩:=bW (len+j) rest[j] (λh=>by omega) (λ_=>⟨by omega,by rw[HJ];exact ao⟩);rw[G] at af
         cases af;rw[aP]
         exact J.2.2 aV sp (λp aC=>jA p (by
          rw[jy];right
          rw[EA];exact⟨_,jy.2 (.inr (dS ao)),aC⟩)) L
        rw[arx];simp only[CJ]
        cases Q:sp a.block with
        |true=>simp only[if_true];rw[arz];rfl
        |false =>
         have a2:¬ 0<D elems+D rest:=λh=>by rw[fh h] at Q;cases Q
         have:rest=[]:=uY (by omega);subst this
         rfl
      ·cases M
     ·cases M
    ·cases dn
   ·-- struct
    rename_i eb hu
    split at dn
    ·rename_i cm;rw[e6] at dn;obtain⟨l,az,rfl⟩:=dn
     have key:∀(aV:World) (sp:Nat->Bool),DataW.trod enc P aV base sp true (fuel+1) t cs =
       if (D cs)=P.cellsOf t then (eb.toList.mapM λf=>DataW.trod enc P aV base sp true fuel f.type ((cs.drop f.offset).take (P.cellsOf f.type))).map λxs=>(.agg (xs.map (·.1)),xs.flatMap (·.2)) else none:=by
      intro aV sp
      conv=>lhs;unfold DataW.trod
      rw[hu]
     rw[key] at M
     split at M
     ·rename_i hlen;rw[e6] at M;obtain⟨xs,q5,rfl⟩:=M;rw[<-hlen] at cm;obtain⟨G,J,af⟩:=aro (λt S h cs x M=>aH t S h fuel cs x M) cs eb.toList 0 l xs az cm q5;refine⟨?_,J,λaV sp jA L=>?_⟩
      ·obtain⟨ds,aD,ab⟩:=G;exact⟨ds,aD,by simpa using ab⟩
      ·rw[key,ad hlen,af aV sp jA L]
       rfl
     ·cases M
    ·cases dn
   ·cases dn
end
end Go.Mini
namespace Go.Mini
open Go Go.ChangeShapes Go.WideShapes Go.RowKit
def afS:r4->Data->Prop
 |.st l,d=>∃cs,d=.agg cs/\Fits l cs
 |s,d=>Fit s [d]
def PI:List r4->List Data->Prop
 | [],ds=>ds=[]
 |s::r,ds=>∃d t,ds=d::t/\afS s d/\PI r t
section
variable {gI:Type} {enc:TypeId×Value->gI} {P:Program} {w:World}
theorem arA {a0:Nat->Prop}{d:Data}{v:Value}{ds:List Data}{vs:List Value}(h:Den w a0 d v)(Q:A1 w a0 ds vs):A1 w a0 (d::ds) (v::vs):=by
 refine⟨by simp[Q.1],λi zk Eo G J=>?_⟩
 cases i with
 |zero=>cases G;cases J;exact h
 |succ i=>exact Q.2 i zk Eo (by simpa using G) (by simpa using J)
theorem arB {n:Nat}{t:TypeId}{S:r4}{v:Value}{d:DataW gI}{dM:List MemPlace}{tV:Nat}(dn:tT P n t=some S)(jk:Value.okWide P w .any tV t v)(h:DataW.Trod enc P w 0 (λ_=>true) true t v d dM):
  (∃cZ,afS S cZ/\Den w (λ_=>False) cZ v)/\(∀p∈dM,p.block<w.heap.size) /\
  ∀(aV:World) (sp:Nat->Bool),(∀p∈dM,sp p.block=true)->(∀b,b<w.heap.size->aV.heap[b]?=w.heap[b]?)->DataW.Trod enc P aV 0 sp true t v d dM:=by
 obtain⟨fuel,M⟩:=h;obtain⟨⟨ds,aD,ab⟩,J,af⟩:=aru n t S dn fuel _ _ M;refine⟨?_,J,λaV sp jA L=>⟨fuel,af aV sp jA L⟩⟩
 have one:(∀cs,v ≠ .agg cs)->∀d,ds=[d]->Den w (λ_=>False) d v:=by
  intro aN d e;subst e;have:v.cells=#[v]:=by unfold Value.cells;split<;>simp_all
  rw[this] at ab;exact ab.2 0 d v rfl rfl
 cases n with
 |zero=>simp[tT] at dn
 |succ n =>
  unfold tT at dn;unfold Value.okWide at jk
  split at dn
  ·rename_i hu
   cases dn;rw[hu] at jk;obtain⟨b,rfl⟩:=aD;refine⟨_,⟨b,rfl⟩,one ?_ _ rfl⟩;rintro cs rfl;simp[Cell.okWide,Cell.ok,hu] at jk
  ·rename_i k hu
   cases dn;rw[hu] at jk;obtain⟨b,rfl,ai⟩:=aD;refine⟨_,⟨b,rfl,ai⟩,one ?_ _ rfl⟩;rintro cs rfl;simp[Cell.okWide,Cell.ok,hu] at jk
  ·rename_i hu
   cases dn;rw[hu] at jk;obtain⟨b,rfl,ai⟩:=aD;refine⟨_,⟨b,rfl,ai⟩,one ?_ _ rfl⟩;rintro cs rfl;simp[Cell.okWide,Cell.ok,hu] at jk
  ·rename_i e hu
   split at dn
   ·rw[e6] at dn;obtain⟨S,dn,rfl⟩:=dn;rw[hu] at jk;obtain⟨b,rfl,ai⟩:=aD;refine⟨_,⟨b,rfl,ai⟩,one ?_ _ rfl⟩;rintro cs rfl;simp[Cell.okWide,Cell.ok,hu] at jk
   ·cases dn
  ·rename_i eb hu
   split at dn
   ·rw[e6] at dn;obtain⟨l,az,rfl⟩:=dn;rw[hu] at jk;obtain⟨cs,rfl,-,-⟩:=jk;refine⟨.agg ds,⟨ds,rfl,aD⟩,?_⟩;have:Den w (λ_=>False) (.agg ds) (.agg cs.toList.toArray):=.agg ab.1 ab.2
    simpa using this
   ·cases dn
  ·cases dn
theorem Vm {n tV:Nat}:∀{uW:List TypeId} {schs:List r4} {vs:List Value} {ds:List (DataW gI)} {dM:List MemPlace},uW.mapM (tT P n)=some schs->(∀(j:Nat) t v,uW[j]?=some t->vs[j]?=some v->Value.okWide P w .any tV t v) ->
  DataW.TrodAll enc P w 0 (λ_=>true) true uW vs ds dM ->
  (∃tW,PI schs tW/\A1 w (λ_=>False) tW vs)/\(∀p∈dM,p.block<w.heap.size) /\
  ∀(aV:World) (sp:Nat->Bool),(∀p∈dM,sp p.block=true)->(∀b,b<w.heap.size->aV.heap[b]?=w.heap[b]?)->DataW.TrodAll enc P aV 0 sp true uW vs ds dM
 | [],schs,vs,ds,dM,dn,jk,h=>by
  obtain⟨rfl,rfl,rfl⟩:=trodAll_nil h;simp at dn;subst dn;exact⟨⟨[],rfl,rfl,λi d v h=>by simp at h⟩,by simp,λ_ _ _ _=>rfl⟩
 |t::uW,schs,vs,ds,dM,dn,jk,h=>by
  obtain⟨v,arC,d,arD,a,b,rfl,rfl,rfl,G,J⟩:=trodAll_cons h;rw[oa] at dn;simp only[h8,ik,fg,cO] at dn;obtain⟨S,arE,l,az,rfl⟩:=dn;obtain⟨⟨cZ,fC,arF⟩,jz,cL⟩:=arB arE (jk 0 t v rfl rfl) G;obtain⟨⟨tW,arG,arH⟩,kJ,dN⟩:=Vm az (λj arI Eo cm aN=>jk (j+1) arI Eo (by simpa using cm) (by simpa using aN)) J;refine⟨⟨cZ::tW,⟨cZ,tW,rfl,fC,arG⟩,arA arF arH⟩,λp aC=>?_,λaV sp jA L=>?_⟩
  ·rw[jy] at aC;exact aC.elim (jz p) (kJ p)
  ·exact trodAll_cons_mk (cL aV sp (λp aC=>jA p (jy.2 (.inl aC))) L) (dN aV sp (λp aC=>jA p (jy.2 (.inr aC))) L)
theorem arJ {W tX:World}(h:Fr (λ_=>False) W tX)(may:MemPlace->Prop):W.keptBut tX may:=by
 refine⟨h.os,h.output,λi U=>?_⟩;rw[h.block i U id]
 cases ai:W.heap[i]? with
 |none=>trivial
 |some o =>
  cases o with
  |cells c t aE=>exact⟨rfl,rfl,rfl,λ_ _=>rfl⟩
  |map es clock=>exact .inr ⟨rfl,rfl⟩
  |_=>rfl
theorem arK {f:Func}{s:ChangeSpec}{apart fresh handsOn again:Bool}{W tX:World}{args:Array Value}{ds gs:List (DataW gI)}{before:List MemPlace}{n tV:Nat}{schs:List r4}{Lp:TypeId}
  (zt:DataW.Whole enc P f.params.toList s.vars apart W args.toList ds gs before) (aN:s.vars=[]) (dn:f.params.toList.mapM (tT P n)=some schs)
  (jk:∀(j:Nat) t v,f.params[j]?=some t->args[j]?=some v->Value.okWide P W .any tV t v)
  (X:f.resultTypes=#[Lp]) (ai:P.underlying Lp=some .bool) (mX:s.fn gI ds={ results:=[.lit (.bool true)],args:=ds }) (aD:Fr (λ_=>False) W tX) :
  s.post enc P f apart fresh handsOn again W args (.bool true) tX:=by
 have Vn:=zt;obtain⟨p,q,dL,q7,rfl,a2,aM⟩:=zt;rw[aN] at q7;obtain⟨rfl,rfl⟩:=trodVars_none q7;obtain⟨-,av,L⟩:=Vm dn (λj t v cm aN=>jk j t v (by simpa using cm) (by simpa using aN)) dL;have afT:∀b,b<W.heap.size->tX.heap[b]?=W.heap[b]?:=λb ai=>aD.block b ai id
 have jj:∀(b:Nat) (sp:Nat->Bool) (ab:Bool),DataW.TrodAll enc P tX b sp ab f.resultTypes.toList ((Value.bool true).resultList f.resultTypes.size) (s.fn gI (ds++[])).results []:=by
  intro b sp ab;rw[gD,mX,X];exact trodAll_cons_mk (shut_bool ai true) trodAll_mk0
 have rZ:∀sp:Nat->Bool,(∀x∈p,sp x.block=true)->DataW.TrodAll enc P tX 0 sp true f.params.toList args.toList (s.fn gI (ds++[])).args p:=by
  intro sp jA;rw[gD,mX];exact L tX sp jA afT
 have afU:∀sp:Nat->Bool,DataW.TrodVars enc P tX sp s.vars (s.fn gI (ds++[])).vars []:=by
  intro sp;rw[aN,gD,mX]
  rfl
 refine⟨ds,[],p++[],[],p,[],Vn,jj _ _ _,rZ _ (λx M=>by simpa using av x M),afU _,arJ aD _,λ_=>⟨?_,_,_,([]++p)++[],⟨[]++p,[],trodAll_append (rZ _ (λ_ _=>rfl)) (jj _ _ _),afU _,rfl,?_,?_⟩,?_⟩⟩
 ·intro j t r G J;rw[X] at G J
  cases j with
  |zero =>
   simp[Value.resultList] at G J;subst G J;exact okWide_bool_mk ai true
  |succ j=>simp at G
 ·intro b off aC;have afV:MemPlace.cell b off∈p:=by simpa using aC
  have ai:=av _ afV;have aj:=a2 b off (by simpa using afV);unfold World.frozen? at aj ⊢;rw[afT b ai];exact aj
 ·intro a4;have:=aM a4
  simpa using this
 ·intro x M _
  simpa using M
theorem arL {f:FuncId}{fn:Func}{s:ChangeSpec}{apart fresh handsOn again:Bool}{aR:List Data->Option eM}{n:Nat}{schs:List r4}{Lp:TypeId}(aC:r1 P f aR)(aN:s.vars=[])(dn:fn.params.toList.mapM (tT P n)=some schs)
  (X:fn.resultTypes=#[Lp]) (ai:P.underlying Lp=some .bool) (mX:∀ds:List (DataW gI),D ds=(D fn.params.toList)->s.fn gI ds={ results:=[.lit (.bool true)],args:=ds })
  {W:World} {base:Nat} {args:Array Value} {ds gs:List (DataW gI)} {before:List MemPlace}
  (dw:∀tW,PI schs tW->aR tW=some (.same (.bool true)))
  (jk:∀(j:Nat) t v,fn.params[j]?=some t->args[j]?=some v->Value.okWide P W .any base t v)
  (zt:DataW.Whole enc P fn.params.toList s.vars apart W args.toList ds gs before) :
  Calls P f args W λe tX=>∃v,e=.returned v/\s.post enc P fn apart fresh handsOn again W args v tX:=by
 have Vn:=zt;obtain⟨p,q,dL,q7,rfl,a2,aM⟩:=zt;obtain⟨⟨tW,G,J⟩,-,-⟩:=Vm dn (λj t v cm aN=>jk j t v (by simpa using cm) (by simpa using aN)) dL
 have hlen:(D ds)=D fn.params.toList:=by
  have:∀(uW:List TypeId) (vs:List Value) (ds:List (DataW gI)) (dM:List MemPlace),DataW.TrodAll enc P W 0 (λ_=>true) true uW vs ds dM->(D ds)=D uW:=by
   intro uW
   induction uW with
   |nil=>intro vs ds dM h;obtain⟨rfl,rfl,rfl⟩:=trodAll_nil h;rfl
   |cons t r aH=>intro vs ds dM h;obtain⟨v,arC,d,arD,a,b,rfl,rfl,rfl,-,J⟩:=trodAll_cons h;simp[aH _ _ _ J]
  exact this _ _ _ _ dL
 have H:=aC.run tW _ (dw tW G) (λ_=>False) W args.toList (λb ai=>ai.elim) J;have a4:args.toList.toArray=args:=by simp
 rw[a4] at H;refine H.mono λe tX ⟨v,he,bC,ab⟩=>⟨v,he,?_⟩
 have:v=.bool true:=by
  have qX:Den tX (λ_=>False) (.bool true) v:=ab
  cases qX
  rfl
 subst this;exact arK Vn aN dn jk X ai (mX ds hlen) bC
theorem Vo {α:Type}{l:List α}{n:Nat}(h:(D l)=n+1):∃d t,l=d::t/\D t=n:=by
 cases l with
 |nil=>simp at h
 |cons d t=>exact⟨d,t,rfl,by simpa using h⟩
theorem Vp {α:Type}{e:α->List Data}{good:α->Prop}:∀{es:List (List Data)},(∀x∈es,∃a,x=e a/\good a)->∃l:List α,es=l.map e/\∀a∈l,good a
 | [],_=>⟨[],rfl,by simp⟩
 |x::r,h=>by
  obtain⟨a,rfl,a4⟩:=h x (by simp);obtain⟨l,rfl,az⟩:=Vp (es:=r) λy ao=>h y (by simp[ao]);exact⟨a::l,rfl,λb ai=>(m1.1 ai).elim (λe=>e ▸ a4) (az b)⟩
end
end Go.Mini
namespace Go.Mini
open Go
def A6 (x:R)(m:Mem):R->Mem->Prop:=λr mem'=>r=x/\mem'=m
@[go_sem high] theorem aIo {K:bg->Prop}(x:R)(m:Mem)(d:Option Nat)(st:bg):zl K (some (.rel (A6 x m))) d st=K ⟨put st.tm d x,m⟩:=by
 rw[ap6];apply propext;exact⟨λh=>h x m ⟨rfl,rfl⟩,λh r mem' ⟨ay,aA⟩=>by rw[ay,aA];exact h⟩
def CM (bD:List R->Mem->Option (R×Mem))(args:List R)(mem:Mem):Option hY:=(bD args mem).map λx => .rel (A6 x.1 x.2)
@[go_sem] theorem aIp (bD:List R->Mem->Option (R×Mem))(args:List R)(mem:Mem):CM bD args mem=(bD args mem).map λx => .rel (A6 x.1 x.2):=bN
structure Lq (P:Program) (f:FuncId) (bD:List R->Mem->Option (R×Mem)):Prop where
 real:Real P f
 run:∀args mem x,bD args mem=some x->∀A w B vs,gk A w B mem->dR w (cU A B) B args vs->UK P f vs A w B mem (.rel (A6 x.1 x.2))
def HK (res:List pF)(x:R)(m:Mem):eF->bg->Prop
 |.exit _,_=>False
 |.normal,st=>qW st res=some x/\st.mem=m
 |.ret,st=>qW st res=some x/\st.mem=m
@[go_sem] theorem aIq {res:List pF}{st:bg}(x:R)(m:Mem)(id:Nat):HK res x m (.exit id) st=False:=bN
@[go_sem] theorem aIr {res:List pF}{st:bg}(x:R)(m:Mem):HK res x m .normal st=(qW st res=some x/\st.mem=m):=bN
@[go_sem] theorem aIs {res:List pF}{st:bg}(x:R)(m:Mem):HK res x m .ret st=(qW st res=some x/\st.mem=m):=bN
theorem afW {P : Program}{T : bm}{kb : Nat}{own : List Nat}(dy : rY P T)(hm : P.follows .mixedOrders = true){f : FuncId}{fn : Func}{mf : b1}(aD : P.funcs[f]? = some fn)(u5 : (fn.name == "runtime.NumGoroutine") = false)(bc : tI P kb own fn = some { mf with body := erase mf.body })
  {bD:List R->Mem->Option (R×Mem)} (h:∀args mem x,bD args mem=some x->(D args)<=mf.n/\wp T mf.body (HK mf.res x.1 x.2) ⟨l1 args,mem⟩):Lq P f bD:=by
 refine⟨?_,λargs mem x oj A w B vs cw aN=>?_⟩
 ·cases ai:fn.body with
  |none=>simp[tI,ai] at bc
  |some c=>exact⟨fn,c,aD,ai,u5⟩
 ·obtain⟨hlen,A4⟩:=h args mem x oj;refine Calls.mono (Lh (Post:=A6 x.1 x.2) dy hm aD bc hlen (λe st L=>?_) A4 cw aN) λe aV he=>?_
  ·cases e with
   |exit id=>exact L
   |normal=>exact⟨_,L.1,rfl,L.2⟩
   |ret=>exact⟨_,L.1,rfl,L.2⟩
  ·obtain⟨v,m,mem',bR,rfl,Q,tK,aC⟩:=he;exact⟨v,m,mem',bR,rfl,Q,tK,aC⟩
def PJ:Option (R×Mem)->Option hY->Option hY
 |some x,_=>some (.rel (A6 x.1 x.2))
 |none,e=>e
@[go_sem] theorem aIt (x:R×Mem)(e:Option hY):PJ (some x) e=some (.rel (A6 x.1 x.2)):=bN
@[go_sem] theorem aIu (e:Option hY):PJ none e=e:=bN
def A7 (aR:List Data->Option eM)(bD:List R->Mem->Option (R×Mem))(args:List R)(mem:Mem):Option hY:=PJ (bD args mem) (aO aR args mem)
@[go_sem] theorem aIv (aR:List Data->Option eM)(bD:List R->Mem->Option (R×Mem))(args:List R)(mem:Mem):A7 aR bD args mem=PJ (bD args mem) (aO aR args mem):=bN
open Classical in
def HL {α:Type}(bp:α->List R->Mem->Prop)(res:α->Mem->R×Mem):List R->Mem->Option (R×Mem):=λargs mem=>if h:∃a,bp a args mem then some (res (zq h) mem) else none
theorem afX {α:Type}{bp:α->List R->Mem->Prop}{res:α->Mem->R×Mem}(uniq:∀a b args mem,bp a args mem->bp b args mem->res a mem=res b mem){a:α}{args:List R}{mem:Mem}(h:bp a args mem):HL bp res args mem=some (res a mem):=by
 have M:∃b,bp b args mem:=⟨a,h⟩;unfold HL;rw[dif_pos M,uniq _ _ _ _ (r2 M) h]
theorem Vq {α:Type}{bp:α->List R->Mem->Prop}{res:α->Mem->R×Mem}{args:List R}{mem:Mem}{x:R×Mem}(h:HL bp res args mem=some x):∃a,bp a args mem/\x=res a mem:=by
 unfold HL at h
 split at h
 ·rename_i M;exact⟨_,r2 M,(pL h).symm⟩
 ·cases h
def zu:Nat->Nat->List Int
 |0,_=>[]
 |f+1,n=>if n=0 then [] else ((n%1048576:Nat):Int)::zu f (n/1048576)
def aL (n:Nat):List Int:=zu n n
def bs:List Int->Int
 | []=>0
 |d::r=>d+1048576*bs r
theorem u7 (d:Int)(r:List Int):bs (d::r)=d+1048576*bs r:=rfl
def fj (l:List Int):Prop:=∀d∈l,0<=d/\d<1048576
def gl:List Int->List Int
 | []=>[]
 |d::r=>if gl r=[] then (if d=0 then [] else [d]) else d::gl r
def ae (n:Int):List Data:=[.int .i64 n]
theorem hO (b:Int):(ae b).length=1:=rfl
theorem xY (b:Int):((ae b).map R.I).all R.one=true:=rfl
theorem hp:∀a b:Int,ae a=ae b->a=b:=by intro a b h;simpa [ae] using h
theorem arM:∀(f g n:Nat),n<=f->n<=g->zu f n=zu g n:=by
 intro f
 induction f with
 |zero =>
      intro g n h _;obtain rfl:n=0:=by omega
      cases g<;>simp[zu]
 |succ f aH =>
  intro g n G J
  cases g with
  |zero =>
       obtain rfl:n=0:=by omega
       simp[zu]
  |succ g =>
   unfold zu
   by_cases aM:n=0
   ·rw[ad aM,ad aM]
   ·rw[ag aM,ag aM,aH g (n/1048576) (by omega) (by omega)]
theorem tY:aL 0=[]:=rfl
theorem wE {n:Nat}(h:0<n):aL n=((n%1048576:Nat):Int)::aL (n/1048576):=by
 unfold aL;obtain⟨k,rfl⟩:∃k,n=k+1:=⟨n-1,by omega⟩
 conv=>lhs;unfold zu
 rw[ag (by omega),arM k ((k+1)/1048576) _ (by omega) (by omega)]
theorem m2 (n:Nat):bs (aL n)=n:=by
 induction n using U4 with
 |_ n aH =>
  rcases k3 n with rfl|h
  ·rfl
  ·rw[wE h];unfold bs;rw[aH _ (by omega)];omega
theorem Lr {a b:Nat}(h:aL a=aL b):a=b:=by
 have:=congrArg bs h;rw[m2,m2] at this;omega
theorem nQ (n:Nat):fj (aL n):=by
 induction n using U4 with
 |_ n aH =>
  rcases k3 n with rfl|h
  ·intro d ab;cases ab
  ·rw[wE h];intro d ab;rcases m1.1 ab with rfl|ab
   ·omega
   ·exact aH _ (by omega) d ab
theorem A8 {n:Nat}:aL n=[]↔n=0:=by
 constructor
 ·intro h;exact Lr (b:=0) h
 ·rintro rfl;rfl
theorem qv {l:List Int}(h:fj l):0<=bs l:=by
 induction l with
 |nil=>exact Int.le_refl _
 |cons d r aH =>
  have G:=h d (by simp);have J:=aH λx M=>h x (by simp[M]);unfold bs;omega
theorem EJ {d:Int}{r:List Int}:fj (d::r)↔(0<=d/\d<1048576)/\fj r :=
 ⟨λh=>⟨h d (by simp),λx M=>h x (by simp[M])⟩,λh x M=>(m1.1 M).elim (λe=>e ▸ h.1) (h.2 x)⟩
theorem EK {a b:List Int}:fj (a++b)↔fj a/\fj b :=
 ⟨λh=>⟨λx M=>h x (by simp[M]),λx M=>h x (by simp[M])⟩,λh x M=>(jy.1 M).elim (h.1 x) (h.2 x)⟩
theorem EM (a b:List Int):bs (a++b)=bs a+1048576^(D a)*bs b:=by
 induction a with
 |nil=>simp[bs]
 |cons d r aH =>
  simp only[m0,bs,aH,kB,om];rw[jl]
  have:(1048576:Int)*(1048576^(D r)*bs b)=1048576^(D r)*1048576*bs b:=by
   rw[oo (1048576^(D r)) 1048576,jm]
  omega
theorem A9 {l:List Int}(h:fj l):bs l<1048576^(D l):=by
 induction l with
 |nil=>simp[bs]
 |cons d r aH =>
  rw[EJ] at h;have J:=aH h.2;simp only[bs,kB,om];omega
theorem afY (l:List Int):gl (l++[0])=gl l:=by
 induction l with
 |nil=>simp[gl]
 |cons d r aH=>simp only[m0,gl,aH]
theorem afZ (l:List Int){d:Int}(h:d≠0):gl (l++[d])=l++[d]:=by
 induction l with
 |nil=>simp[gl,h]
 |cons x r aH=>simp only[m0,gl,aH];simp
theorem Ba {l:List Int}(h:fj l):gl l=aL (bs l).toNat:=by
 induction l with
 |nil=>rfl
 |cons d r aH =>
  rw[EJ] at h;have X:=aH h.2;have aN:=qv h.2;unfold gl;rw[X,u7]
  by_cases a2:bs r=0
  ·rw[a2]
   by_cases ab:d=0
   ·simp[ab,tY]
   ·rw[ad (by rfl),ag ab];rw[wE (by omega)];rw[show (d+1048576*0).toNat/1048576=0 by omega,tY]
    congr 1
    omega
  ·rw[ag (by rw[A8];omega)];rw[wE (n:=(d+1048576*bs r).toNat) (by omega)]
   congr 1
   ·omega
   ·congr 1;omega
theorem af0 (n:Nat):gl (aL n)=aL n:=by
 rw[Ba (nQ n),m2];simp
theorem canon {l:List Int}(h:fj l)(az:l.getLast?≠some 0):l=aL (bs l).toNat:=by
 rw[<-Ba h];rcases zv l with rfl|⟨r,d,rfl⟩
 ·rfl
 ·rw[zw] at az ⊢;rw[afZ];rintro rfl;simp at az
theorem af1 (n:Nat):(aL n).getLast?≠some 0:=by
 intro h
 obtain⟨r,X⟩:∃r,aL n=r++[0]:=by
  rcases zv (aL n) with e|⟨r,d,e⟩
  ·rw[e] at h;cases h
  ·rw[zw] at e;rw[e] at h;simp at h;subst h;exact⟨r,e⟩
 have G:=af0 n;rw[X,afY] at G
 have J:(gl r).length<=D r:=by
  clear G X h
  induction r with
  |nil=>simp[gl]
  |cons d r aH=>unfold gl;split<;>(try split)<;>simp<;>omega
 rw[G] at J;simp at J;omega
theorem g3 {n k:Nat}:(aL n).length<=k↔n<1048576^k:=by
 induction k generalizing n with
 |zero =>
      rw[Nat.pow_zero];constructor
      ·intro h;have:=uY (Nat.le_zero.1 h);rw[A8] at this;omega
      ·intro h;obtain rfl:n=0:=by omega
       simp[tY]
 |succ k aH =>
  rcases k3 n with rfl|h
  ·simp[tY];exact HM (by simp)
  ·rw[wE h,kB,wF];have:=aH (n:=n/1048576);rw[Nat.add_le_add_iff_right,this];rw[af2 (by omega)]
theorem EN {n:Nat}(h:0<n)(G:n<1048576):aL n=[(n:Int)]:=by
 rw[wE h,Vg G,Lo G];rfl
theorem Ls (l:List Int)(i:Nat):bs l=bs (l.take i)+1048576^(min i (D l))*bs (l.drop i):=by
 conv=>lhs;rw[<-CK i l]
 rw[EM,fU]
theorem Bb (n:Int)(h:0<=n/\n<18446744073709551616):IntKind.u64.wrap n=n:=by
 simp[IntKind.wrap,IntKind.bits,IntKind.signed];omega
theorem sX (n:Int):bits .and .i64 n 1048575=n%1048576:=by
 have J:(1048575:Int)=((2^20-1:Nat):Int):=by decide
 have G:n%18446744073709551616%1048576=n%1048576:=by omega
 obtain⟨a,a4⟩:∃a:Nat,(a:Int)=n%18446744073709551616:=⟨(n%18446744073709551616).toNat,by omega⟩
 have e:BitVec.ofInt 64 n=BitVec.ofNat 64 a:=by
  apply BitVec.eq_of_toInt_eq;rw[BitVec.toInt_ofInt,BitVec.toInt_ofNat',a4];simp[af3,af4]
 have aA:bits .and .i64 n 1048575=bits .and .i64 (a:Int) 1048575:=by
  simp only[bits];rw[show IntKind.i64.bits=64 from rfl,e,BitVec.ofInt_natCast]
 rw[aA,<-G,<-a4,J];have Vr:a<2^64:=by omega
 simp only[bits,BitVec.ofInt_natCast,BitVec.toNat_and,BitVec.toNat_ofNat,show IntKind.i64.bits=64 from rfl,Lo Vr];rw[show (2^20-1:Nat)%2^64=2^20-1 by decide,af5,wrap64 _ (by omega) (by omega)]
 omega
theorem af6 (n:Int)(h:0<=n/\n<18446744073709551616):bits .and .u64 n 1048575=n%1048576:=by
 have:=bits_mask .u64 64 (by decide) (λn G J=>Bb n ⟨G,by omega⟩) 20 (by decide) n h.1 (by omega)
 simpa using this
theorem Vs (x y:Int)(M:0<=x)(lC:x<8796093022208)(ao:0<=y/\y<1048576):bits .or .i64 (x*1048576) y=x*1048576+y:=by
 refine bits_join .i64 63 (by decide) (λn G J=>wrap64 n (by omega) (by omega)) 20 _ _ (by omega) (by omega) (by omega) ao.1 (by omega) (by omega)
theorem arN (n:Int):n.fdiv (2^20)=n/1048576:=by
 rw[Int.fdiv_eq_ediv_of_nonneg _ (by decide)];rfl
theorem pT (n:Int):n.fdiv (2^min (EO 20) 64)=n/1048576:=arN n
def Vt:FuncId:=190
def Vu:FuncId:=172
def HN:FuncId:=193
def nR:FuncId:=52
def CN:FuncId:=30
def EP:FuncId:=19
def wG:FuncId:=64
def oq:FuncId:=203
def Vv:FuncId:=204
def CO:FuncId:=205
def Vw:FuncId:=53
def Vx:FuncId:=191
def zx:FuncId:=62
def Vy:FuncId:=171
def wH:FuncId:=29
def xZ:FuncId:=72
def u9:FuncId:=22
def mc:FuncId:=91
def Lt:FuncId:=92
def Vz:FuncId:=93
def VA:FuncId:=75
def wI:FuncId:=76
def ER:FuncId:=77
def PK:FuncId:=67
def Lu:FuncId:=107
def HO:FuncId:=98
def VB:FuncId:=210
def VC:FuncId:=94
def PM:FuncId:=206
def VD:FuncId:=207
def Lv:FuncId:=105
def PN:FuncId:=106
def VE:FuncId:=189
def HP:FuncId:=74
def ES:FuncId:=68
def VF:FuncId:=69
def wJ:FuncId:=117
def wK:FuncId:=60
def Lw:FuncId:=109
def qw:FuncId:=110
def VG:FuncId:=147
def VH:FuncId:=116
def HQ:FuncId:=118
def md:FuncId:=95
def HR:FuncId:=156
def Lx:FuncId:=96
def ET:FuncId:=142
def qx:FuncId:=149
def Ly:FuncId:=211
def CP:FuncId:=212
def EU:FuncId:=73
def arO:FuncId:=201
def VI:FuncId:=202
def Lz:FuncId:=111
def HS:FuncId:=112
def HT:FuncId:=113
def EV:FuncId:=114
def PO:FuncId:=157
def r5:FuncId:=158
def VJ:FuncId:=159
def VK:FuncId:=161
def LA:FuncId:=148
def LB:FuncId:=154
def CQ:FuncId:=155
def va:FuncId:=175
def PQ:FuncId:=160
def CR:FuncId:=151
def EW:FuncId:=153
def vb:FuncId:=176
def VL:FuncId:=141
def VM:FuncId:=173
def VN:FuncId:=174
def x0:FuncId:=66
def qy:FuncId:=56
def CS:FuncId:=140
def VO:FuncId:=192
def VP:FuncId:=194
def PR:FuncId:=195
def x1:FuncId:=99
def VQ:FuncId:=108
def EX:FuncId:=101
def LC:FuncId:=97
def VR:FuncId:=100
def HU:FuncId:=146
def PS:FuncId:=208
def EY:FuncId:=152
def VS:FuncId:=150
def VT:FuncId:=9
def VU:FuncId:=11
def VV:FuncId:=16
def CT:FuncId:=17
def LD:FuncId:=33
def VW:FuncId:=36
def VX:FuncId:=37
def PT:FuncId:=38
def qz:FuncId:=39
def EZ:FuncId:=40
def LF:FuncId:=41
def VY:FuncId:=42
def vc:FuncId:=51
def HV:FuncId:=58
def VZ:FuncId:=59
def V0:FuncId:=61
def V1:FuncId:=71
def zy:FuncId:=70
def wL:FuncId:=82
def LG:FuncId:=83
def LH:FuncId:=84
def LI:FuncId:=85
def LJ:FuncId:=86
def V3:FuncId:=87
def V4:FuncId:=26
def LK:FuncId:=102
def LL:FuncId:=103
def LM:FuncId:=104
def HW:FuncId:=115
def V5:FuncId:=135
def PU:FuncId:=136
def V6:FuncId:=137
def arP:FuncId:=4
def V7:FuncId:=12
def V8:FuncId:=18
def LN:FuncId:=43
def PV:FuncId:=44
def wM:FuncId:=45
def q8:FuncId:=46
def r6:FuncId:=47
def LO:FuncId:=48
def PW:FuncId:=49
def V9:FuncId:=63
def Wa:FuncId:=65
def Wb:FuncId:=88
def HX:FuncId:=89
def Wc:FuncId:=90
def Wd:FuncId:=138
def PX:FuncId:=139
def We:FuncId:=143
def Wf:FuncId:=144
def CU:FuncId:=145
abbrev F (a b:Nat):dp:=⟨some a,none,.b8 (.t b)⟩
abbrev aG (a n b:Nat):dp:=⟨some a,none,.load n false (.t b)⟩
abbrev aY (a n b:Nat):dp:=⟨some a,none,.load n true (.t b)⟩
abbrev aI (a n b:Nat):dp:=⟨some a,none,.dQ n (.t b)⟩
abbrev aT (n a b:Nat):dp:=⟨none,none,.store n (.t a) (.t b)⟩
abbrev ba (a:Nat)(n:Int):dp:=⟨some a,none,.b8 (.c (.I (.int .i64 n)))⟩
abbrev a6 (a n b:Nat):dp:=⟨some a,none,.ext n (.t b)⟩
abbrev bI (a n b c:Nat):dp:=⟨some a,none,.ij n (.t b) (.t c)⟩
abbrev cC (a b:Nat):dp:=⟨some a,none,.len (.t b)⟩
abbrev dd (a:Nat)(b:Bool):dp:=⟨some a,none,.b8 (.c (.I (.bool b)))⟩
abbrev ec (a:Nat):dp:=⟨some a,none,.b8 (.c .nil)⟩
abbrev bA (a:Nat)(o:BinOp)(b c:Nat):dp:=⟨some a,none,.bin o (.t b) (.t c)⟩
abbrev a7 (a:Nat)(o:BinOp)(b:Nat)(n:Int):dp:=⟨some a,none,.bin o (.t b) (.c (.I (.int .i64 n)))⟩
abbrev c6 (a b c:Nat):dp:=⟨some a,none,.pick (.t b) (.c (.I (.bool true))) (.t c)⟩
abbrev hF (a b c:Nat):dp:=⟨some a,none,.pick (.t b) (.t c) (.c (.I (.bool false)))⟩
abbrev dB (a k b:Nat):dp:=⟨some a,none,.box k (.t b)⟩
abbrev e2 (a b:Nat):dp:=⟨some a,none,.n7 (.t b)⟩
abbrev fu (a b:Nat):dp:=⟨some a,none,.un .not (.t b)⟩
abbrev Z (n:Int):R:=.I (.int .i64 n)
abbrev dT (a:Nat)(f:FuncId)(x:Nat):dp:=⟨some a,none,.call f [.t x]⟩
abbrev b2 (a:Nat)(f:FuncId)(x y:Nat):dp:=⟨some a,none,.call f [.t x,.t y]⟩
abbrev q9 (a:Nat)(f:FuncId)(x y z:Nat):dp:=⟨some a,none,.call f [.t x,.t y,.t z]⟩
abbrev CV (a:Nat)(f:FuncId)(x y z u:Nat):dp:=⟨some a,none,.call f [.t x,.t y,.t z,.t u]⟩
abbrev ar (a:Nat)(o:kZ):dp:=⟨some a,none,o⟩
abbrev cq (n m:Nat)(r:List pF)(b:ep):b1:=⟨n,m,r,b⟩
abbrev aQ (n:Nat)(a b:ep):ep:=.cond (.t n) a b
abbrev O (l:List dp)(c:ep):ep:=.seq (.ops l) c
abbrev eT (l:List dp)(x:List (List Nat))(c:ep):ep:=.seq (.my l x) c
abbrev af7:List (List Nat):=[[],[],[],[],[]]
abbrev Wg:List (List Nat):=[[],[],[],[],[],[]]
abbrev Wh:List (List Nat):=[[],[],[],[],[],[],[]]
abbrev arQ:List (List Nat):=[[],[],[],[],[],[],[],[]]
abbrev PY:List (List Nat):=[[],[],[],[],[],[],[],[],[]]
abbrev LP:List (List Nat):=[[],[],[],[],[],[],[],[],[],[]]
abbrev HY:List (List Nat):=[[],[],[],[],[],[],[],[],[],[],[]]
abbrev af8:List (List Nat):=[[],[],[],[],[],[],[],[],[],[],[],[]]
abbrev E0:List (List Nat):=[[],[],[],[],[],[],[],[],[],[],[],[],[]]
abbrev LQ:List (List Nat):=[[],[],[],[],[],[],[],[],[],[],[],[],[],[]]
abbrev HZ:List (List Nat):=[[],[],[],[],[],[],[],[],[],[],[],[],[],[],[],[]]
abbrev af9:List (List Nat):=[[],[],[],[],[],[],[],[],[],[],[],[],[],[],[],[],[]]
abbrev aga:List (List Nat):=[[],[],[],[],[],[],[],[],[],[],[],[],[],[],[],[],[],[]]
abbrev arR:List (List Nat):=[[],[],[],[],[],[],[],[],[],[],[],[],[],[],[],[],[],[],[],[],[]]
abbrev arS:List (List Nat):=[[],[],[],[],[],[],[],[],[],[],[],[],[],[],[],[],[],[],[],[],[],[],[],[]]
abbrev arT:List (List Nat):=[[],[],[],[],[],[],[],[],[],[],[],[],[],[],[],[],[],[],[],[],[],[],[],[],[],[]]
abbrev arU:List (List Nat):=[[],[],[],[],[],[],[],[],[],[],[],[],[],[],[],[],[],[],[],[],[],[],[],[],[],[],[],[]]
abbrev agb:List (List Nat):=[[],[],[],[],[],[],[],[],[],[],[],[],[],[],[],[],[],[],[],[],[],[],[],[],[],[],[],[],[],[]]
def Wi:b1:=cq 49 1 [.t 2] (O [dB 1 136001 0,dd 2 false] (O [aI 6 1 1,aG 7 1 6,cC 8 7,F 3 8] (.seq (O [aI 9 1 1,aG 10 1 9,cC 11 10,ba 12 0] (.block 0 (.loop  (O [bA 13 .lss 12 11] (.seq (aQ 13 .skip (.exit 0)) (.seq (.block 1 (O [bI 14 1 10 12,aG 15 1 14,F 5 15] (O [F 16 5,a7 17 .lss 16 0,F 18 17,⟨some 19,some (18,false),.b8 (.t 5)⟩,⟨some 20,some (18,false),.bin .gtr (.t 19) (.c (Z 1048575))⟩,c6 21 18 20] (aQ 21 (O [dd 2 false] .ret) .skip)))) (.ops [a7 22 .add 12 1,F 12 22]))))))) (.seq (O [F 23 3,a7 24 .eql 23 0] (aQ 24 (O [aI 25 0 1,aG 26 1 25,a7 27 .eql 26 0,F 2 27] .ret) .skip)) (O [aI 28 0 1,aG 29 1 28,a7 30 .eql 29 1,F 31 30,⟨some 32,some (31,false),.dQ 0 (.t 1)⟩,⟨some 33,some (31,false),.load 1 false (.t 32)⟩,⟨some 34,some (31,false),.bin .eql (.t 33) (.c (.I (.int .i64 (-1))))⟩,c6 35 31 34,F 36 35,⟨some 37,some (36,true),.b8 (.t 3)⟩,⟨some 38,some (36,true),.bin .leq (.t 37) (.c (Z 60))⟩,hF 39 36 38,F 40 39,⟨some 41,some (40,true),.dQ 1 (.t 1)⟩,⟨some 42,some (40,true),.load 1 false (.t 41)⟩,⟨some 43,some (40,true),.b8 (.t 3)⟩,⟨some 44,some (40,true),.bin .sub (.t 43) (.c (Z 1))⟩,⟨some 45,some (40,true),.ij 1 (.t 42) (.t 44)⟩,⟨some 46,some (40,true),.load 1 false (.t 45)⟩,⟨some 47,some (40,true),.bin .neq (.t 46) (.c (Z 0))⟩,hF 48 40 47,F 2 48] .ret)))))
def Wj:b1:=cq 44 2 [.cell 4 2 true,.t 5] (O [dB 2 137002 0,dB 3 137003 1,(ar 4 (.alloc 137004 [(Z 0),.nil])),ba 5 0] (.seq (O [aY 10 2 2,(dT 11 mc 10),fu 12 11,F 13 12,⟨some 14,some (13,false),.load 2 true (.t 3)⟩,⟨some 15,some (13,false),.call mc [(.t 14)]⟩,⟨some 16,some (13,false),.un .not (.t 15)⟩,c6 17 13 16] (aQ 17 (O [(ar 18 (.build [(Z 0),.nil] [])),(ar 19 (.call wJ [(.c (.I (.bool false))),(.t 18)])),a6 20 0 19,a6 21 1 19,aT 2 4 20,F 5 21] .ret) .skip)) (eT [aI 22 1 2,aG 23 1 22,(dT 24 wK 23),aI 25 1 3,aG 26 1 25,F 6 24,F 7 26] Wh (.seq (.block 0 (.loop  (.seq (O [F 27 7,cC 28 27,a7 29 .gtr 28 0] (aQ 29 .skip (.exit 0))) (.block 1 (O [F 31 6,F 32 7,(b2 33 Lw 31 32),F 30 33,a6 34 0 30,a6 35 1 30,F 8 34,F 9 35] (.ops [F 36 7,F 37 9,F 6 36,F 7 37])))))) (O [F 38 6,(dT 39 wK 38),(ar 40 (.call qw [(.c (Z 1)),(.t 39)])),(ar 41 (.call wJ [(.c (.I (.bool true))),(.t 40)])),a6 42 0 41,a6 43 1 41,aT 2 4 42,F 5 43] .ret)))))
def Wk:b1:=cq 32 2 [.cell 4 2 true,.t 5] (O [dB 2 140002 0,dB 3 140003 1,(ar 4 (.alloc 140004 [(Z 0),.nil])),ba 5 0] (.seq (O [aY 6 2 2,(dT 7 mc 6),fu 8 7,F 9 8,⟨some 10,some (9,false),.load 2 true (.t 3)⟩,⟨some 11,some (9,false),.call mc [(.t 10)]⟩,⟨some 12,some (9,false),.un .not (.t 11)⟩,c6 13 9 12] (aQ 13 (O [(ar 14 (.build [(Z 0),.nil] [])),(ar 15 (.call wJ [(.c (.I (.bool false))),(.t 14)])),a6 16 0 15,a6 17 1 15,aT 2 4 16,F 5 17] .ret) .skip)) (eT [aI 18 0 2,aG 19 1 18,aI 20 0 3,aG 21 1 20,bA 22 .mul 19 21,aI 23 1 2,aG 24 1 23,aI 25 1 3,aG 26 1 25,(b2 27 HQ 24 26),(b2 28 qw 22 27),(ar 29 (.call wJ [(.c (.I (.bool true))),(.t 28)])),a6 30 0 29,a6 31 1 29,aT 2 4 30,F 5 31] HZ .ret)))
def Wl:b1:=cq 25 1 [.cell 2 2 true] (O [(ar 2 (.alloc 150002 [(Z 0),.nil]))] (O [F 6 0,(ar 7 (.conv .u64 (.t 6))),ba 3 1,F 4 7] (.seq (O [F 8 0,a7 9 .lss 8 0] (aQ 9 (.ops [F 10 4,(ar 11 (.un .neg (.t 10))),(ar 3 (.b8 (.c (.I (.int .i64 (-1)))))),F 4 11]) .skip)) (O [ec 5] (.seq (.block 0 (.ghost (.nn 5 150021 1) (.loop  (.seq (O [F 12 4,(ar 13 (.bin .gtr (.t 12) (.c (.I (.int .u64 0)))))] (aQ 13 .skip (.exit 0))) (.seq (.block 1 (.ops [F 16 5,F 17 4,(ar 18 (.bin .and (.t 17) (.c (.I (.int .u64 1048575))))),(ar 19 (.conv .i64 (.t 18))),(ar 20 (.eL 150020 false [(Z 0)] 1 1 [(0,1,(.t 19))])),(ar 21 (.app 150021 [(Z 0)] 8 (.t 16) (.t 20))),F 5 21])) (.ops [F 14 4,(ar 15 (.bin .shr (.t 14) (.c (.I (.int .u64 20))))),F 4 15])))))) (.seq (.ghost (.freeze 5) (.ops [F 22 3,F 23 5,(b2 24 qw 22 23),aT 2 2 24])) .ret))))))
def Wm:b1:=cq 14 1 [.cell 2 2 true] (O [dB 1 152001 0,(ar 2 (.alloc 152002 [(Z 0),.nil]))] (.seq (O [aY 3 2 1,(dT 4 mc 3),fu 5 4] (aQ 5 (O [(ar 6 (.build [(Z 0),.nil] [])),aT 2 2 6] .ret) .skip)) (eT [aI 7 0 1,aG 8 1 7,(ar 9 (.un .neg (.t 8))),aI 10 1 1,aG 11 1 10,(dT 12 wK 11),(b2 13 qw 9 12),aT 2 2 13] arQ .ret)))
def Wn:b1:=cq 67 2 [.cell 4 2 true,.cell 5 2 true,.t 6] (O [dB 2 153002 0,dB 3 153003 1,(ar 4 (.alloc 153004 [(Z 0),.nil])),(ar 5 (.alloc 153005 [(Z 0),.nil])),ba 6 0] (.seq (.block 0 (O [aY 10 2 2,(dT 11 mc 10),fu 12 11,F 13 12,⟨some 14,some (13,false),.load 2 true (.t 3)⟩,⟨some 15,some (13,false),.call mc [(.t 14)]⟩,⟨some 16,some (13,false),.un .not (.t 15)⟩,c6 17 13 16,F 9 17] (aQ 9 (O [(ar 18 (.build [(Z 0),.nil] [])),(ar 19 (.build [(Z 0),.nil] [])),aT 2 4 18,aT 2 5 19,ba 6 1] .ret) (O [aI 21 0 3,aG 22 1 21,a7 23 .eql 22 0,F 20 23] (aQ 20 (O [(ar 24 (.build [(Z 0),.nil] [])),(ar 25 (.build [(Z 0),.nil] [])),aT 2 4 24,aT 2 5 25,ba 6 15] .ret) .skip))))) (O [aI 27 1 2,aG 28 1 27,aI 29 1 3,aG 30 1 29,(b2 31 Lw 28 30),F 26 31,a6 32 0 26,a6 33 1 26,F 7 32,F 8 33] (.seq (O [aI 34 0 2,aG 35 1 34,aI 36 0 3,aG 37 1 36,bA 38 .mul 35 37,a7 39 .lss 38 0,F 40 39,⟨some 41,some (40,true),.b8 (.t 8)⟩,⟨some 42,some (40,true),.len (.t 41)⟩,⟨some 43,some (40,true),.bin .gtr (.t 42) (.c (Z 0))⟩,hF 44 40 43] (aQ 44 (eT [F 45 7,(ar 46 (.eL 153046 false [(Z 0)] 1 1 [(0,1,(.c (Z 1)))])),(b2 47 Lz 45 46),(ar 48 (.call qw [(.c (.I (.int .i64 (-1)))),(.t 47)])),aI 49 0 3,aG 50 1 49,aI 51 1 3,aG 52 1 51,F 53 8,(b2 54 HS 52 53),(b2 55 qw 50 54),aT 2 4 48,aT 2 5 55,ba 6 0] LQ .ret) .skip)) (eT [aI 56 0 2,aG 57 1 56,aI 58 0 3,aG 59 1 58,bA 60 .mul 57 59,F 61 7,(b2 62 qw 60 61),aI 63 0 2,aG 64 1 63,F 65 8,(b2 66 qw 64 65),aT 2 4 62,aT 2 5 66,ba 6 0] LQ .ret)))))
def Wo:b1:=cq 31 2 [.t 4] (O [dB 2 154002 0,dB 3 154003 1,ba 4 0] (.seq (O [aY 5 2 2,(dT 6 mc 5),fu 7 6,F 8 7,⟨some 9,some (8,false),.load 2 true (.t 3)⟩,⟨some 10,some (8,false),.call mc [(.t 9)]⟩,⟨some 11,some (8,false),.un .not (.t 10)⟩,c6 12 8 11] (aQ 12 (O [ba 4 0] .ret) .skip)) (.seq (O [aI 13 0 2,aG 14 1 13,aI 15 0 3,aG 16 1 15,bA 17 .neq 14 16] (aQ 17 (O [aI 18 0 2,aG 19 1 18,aI 20 0 3,aG 21 1 20,(b2 22 HT 19 21),F 4 22] .ret) .skip)) (eT [aI 23 0 2,aG 24 1 23,aI 25 1 2,aG 26 1 25,aI 27 1 3,aG 28 1 27,(b2 29 EV 26 28),bA 30 .mul 24 29,F 4 30] PY .ret))))
def Wp:b1:=cq 17 2 [.cell 4 2 true,.t 5] (O [dB 3 155003 1,(ar 4 (.alloc 155004 [(Z 0),.nil])),ba 5 0] (.seq (.block 0 (O [F 7 0,fu 8 7,F 6 8] (aQ 6 (O [(ar 9 (.build [(Z 0),.nil] [])),aT 2 4 9,ba 5 1] .ret) (O [aI 11 1 3,aG 12 1 11,cC 13 12,a7 14 .gtr 13 60,F 10 14] (aQ 10 (O [(ar 15 (.build [(Z 0),.nil] [])),aT 2 4 15,ba 5 6] .ret) .skip))))) (O [aY 16 2 3,aT 2 4 16,ba 5 0] .ret)))
def Wq:b1:=cq 170 2 [.t 4,.t 5] (O [ec 4,ec 5] (.seq (O [F 19 0,F 20 1,(b2 21 EV 19 20),a7 22 .lss 21 0] (aQ 22 (O [F 23 0,(dT 24 wK 23),ec 4,F 5 24] .ret) .skip)) (.seq (O [F 25 1,cC 26 25,a7 27 .eql 26 1] (aQ 27 (O [F 29 0,F 30 1,(ar 31 (.ij 1 (.t 30) (.c (Z 0)))),aG 32 1 31,(b2 33 PO 29 32),F 28 33,a6 34 0 28,a6 35 1 28,F 6 34,F 7 35] (O [F 36 6,F 37 7,(ar 38 (.eL 157038 false [(Z 0)] 1 1 [(0,1,(.t 37))])),(dT 39 r5 38),F 4 36,F 5 39] .ret)) .skip)) (O [ba 8 1] (.seq (.block 0 (.loop  (.seq (O [F 40 1,F 41 1,cC 42 41,a7 43 .sub 42 1,bI 44 1 40 43,aG 45 1 44,F 46 8,bA 47 .mul 45 46,a7 48 .lss 47 524288] (aQ 48 .skip (.exit 0))) (.block 1 (.ops [F 49 8,a7 50 .mul 49 2,F 8 50]))))) (O [F 51 0,F 52 8,(ar 53 (.eL 157053 false [(Z 0)] 1 1 [(0,1,(.t 52))])),(ar 54 (.oX 157054 1 HQ [(.t 51),(.t 53)])),(ar 55 (.eL 157055 false [(Z 0)] 1 1 [(0,1,(.c (Z 0)))])),(ar 56 (.app 157056 [(Z 0)] 8 (.t 54) (.t 55))),F 57 1,F 58 8,(ar 59 (.eL 157059 false [(Z 0)] 1 1 [(0,1,(.t 58))])),(b2 60 HQ 57 59),F 9 56,F 10 60] (.seq (O [F 61 9,cC 62 61,F 63 0,cC 64 63,bA 65 .eql 62 64] (aQ 65 (.ops [F 66 9,(ar 67 (.eL 157067 false [(Z 0)] 1 1 [(0,1,(.c (Z 0)))])),(ar 68 (.app 157068 [(Z 0)] 8 (.t 66) (.t 67))),F 9 68]) .skip)) (O [F 69 10,cC 70 69,F 11 70] (O [F 71 9,cC 72 71,F 73 11,bA 74 .sub 72 73,(ar 75 (.mx 157075 [(Z 0)] 8 (.t 74) (.t 74))),F 12 75] (.seq (O [F 76 12,cC 77 76,a7 78 .sub 77 1,F 13 78] (.block 2 (.loop  (.seq (O [F 79 13,a7 80 .geq 79 0] (aQ 80 .skip (.exit 2))) (.seq (.block 3 (eT [F 83 9,F 84 13,F 85 11,bA 86 .add 84 85,bI 87 1 83 86,aG 88 1 87,(ar 89 (.bin .shl (.t 88) (.c (.I (.int .u64 20))))),F 90 9,F 91 13,F 92 11,bA 93 .add 91 92,a7 94 .sub 93 1,bI 95 1 90 94,aG 96 1 95,bA 97 .or 89 96,F 14 97] HZ (eT [F 98 14,F 99 10,F 100 11,a7 101 .sub 100 1,bI 102 1 99 101,aG 103 1 102,bA 104 .quo 98 103,F 105 14,F 106 10,F 107 11,a7 108 .sub 107 1,bI 109 1 106 108,aG 110 1 109,bA 111 .rem 105 110,F 15 104,F 16 111] HZ (.seq (.block 4 (.loop  (.seq (eT [F 112 15,a7 113 .geq 112 1048576,F 114 113,⟨some 115,some (114,false),.b8 (.t 16)⟩,⟨some 116,some (114,false),.bin .lss (.t 115) (.c (Z 1048576))⟩,⟨some 117,some (114,false),.b8 (.t 116)⟩,⟨some 118,some (117,true),.b8 (.t 15)⟩,⟨some 119,some (117,true),.b8 (.t 10)⟩,⟨some 120,some (117,true),.b8 (.t 11)⟩,⟨some 121,some (117,true),.bin .sub (.t 120) (.c (Z 2))⟩,⟨some 122,some (117,true),.ij 1 (.t 119) (.t 121)⟩,⟨some 123,some (117,true),.load 1 false (.t 122)⟩,⟨some 124,some (117,true),.bin .mul (.t 118) (.t 123)⟩,⟨some 125,some (117,true),.b8 (.t 16)⟩,⟨some 126,some (117,true),.bin .shl (.t 125) (.c (.I (.int .u64 20)))⟩,⟨some 127,some (117,true),.b8 (.t 9)⟩,⟨some 128,some (117,true),.b8 (.t 13)⟩,⟨some 129,some (117,true),.b8 (.t 11)⟩,⟨some 130,some (117,true),.bin .add (.t 128) (.t 129)⟩,⟨some 131,some (117,true),.bin .sub (.t 130) (.c (Z 2))⟩,⟨some 132,some (117,true),.ij 1 (.t 127) (.t 131)⟩,⟨some 133,some (117,true),.load 1 false (.t 132)⟩,⟨some 134,some (117,true),.bin .or (.t 126) (.t 133)⟩,⟨some 135,some (117,true),.bin .gtr (.t 124) (.t 134)⟩,⟨some 136,some (114,false),.pick (.t 117) (.t 135) (.c (.I (.bool false)))⟩,c6 137 114 136] arT (aQ 137 .skip (.exit 4))) (.block 5 (O [F 138 15,a7 139 .sub 138 1,F 15 139] (.ops [F 140 16,F 141 10,F 142 11,a7 143 .sub 142 1,bI 144 1 141 143,aG 145 1 144,bA 146 .add 140 145,F 16 146])))))) (.ops [F 147 12,F 148 13,F 149 9,F 150 13,F 151 13,F 152 11,bA 153 .add 151 152,a7 154 .add 153 1,(ar 155 (.tE 1 (.t 149) (some (.t 150)) (some (.t 154)) none)),F 156 10,F 157 15,(q9 158 VJ 155 156 157),bI 159 1 147 148,aT 1 159 158]))))) (.ops [F 81 13,a7 82 .sub 81 1,F 13 82])))))) (.seq (.ghost (.freeze 9) (.ops [F 161 9,(dT 162 r5 161),F 163 8,(b2 164 PO 162 163),F 160 164,a6 165 0 160,a6 166 1 160,F 17 165,F 18 166])) (.seq (.ghost (.freeze 12) (.ops [F 167 12,(dT 168 r5 167),F 169 17,F 4 168,F 5 169])) .ret))))))))))))
def Wr:b1:=cq 14 2 [.cell 4 2 true] (O [(ar 4 (.alloc 158004 [(Z 0),.nil]))] (O [F 5 1,(dT 6 r5 5),F 1 6] (.seq (O [F 7 1,cC 8 7,a7 9 .eql 8 0] (aQ 9 (O [(ar 10 (.build [(Z 0),.nil] [])),aT 2 4 10] .ret) .skip)) (O [F 11 0,F 12 1,(ar 13 (.build [(Z 0),.nil] [(0,1,(.t 11)),(1,1,(.t 12))])),aT 2 4 13] .ret))))
def Ws:b1:=cq 59 1 [.t 2,.t 3] (O [dB 1 159001 0,ba 2 0,dd 3 false] (.seq (O [aY 7 2 1,(dT 8 mc 7),fu 9 8,F 10 9,⟨some 11,some (10,false),.dQ 1 (.t 1)⟩,⟨some 12,some (10,false),.load 1 false (.t 11)⟩,⟨some 13,some (10,false),.len (.t 12)⟩,⟨some 14,some (10,false),.bin .gtr (.t 13) (.c (Z 4))⟩,c6 15 10 14] (aQ 15 (O [ba 2 0,dd 3 false] .ret) .skip)) (O [(ar 4 (.b8 (.c (.I (.int .u64 0)))))] (.seq (O [aI 16 1 1,aG 17 1 16,cC 18 17,ba 19 0] (.block 0 (.loop  (O [bA 20 .lss 19 18] (.seq (aQ 20 .skip (.exit 0)) (.seq (.block 1 (O [F 21 19,bI 22 1 17 19,aG 23 1 22,F 5 21,F 6 23] (.seq (O [F 24 5,a7 25 .eql 24 3,F 26 25,⟨some 27,some (26,true),.b8 (.t 6)⟩,⟨some 28,some (26,true),.bin .gtr (.t 27) (.c (Z 8))⟩,hF 29 26 28] (aQ 29 (O [ba 2 0,dd 3 false] .ret) .skip)) (.ops [F 30 4,F 31 6,(ar 32 (.conv .u64 (.t 31))),F 33 5,(ar 34 (.bin .mul (.c (Z 20)) (.t 33))),bA 35 .shl 32 34,bA 36 .or 30 35,F 4 36])))) (.ops [a7 37 .add 19 1,F 19 37]))))))) (.seq (.block 2 (O [aI 39 0 1,aG 40 1 39,a7 41 .lss 40 0,F 42 41,⟨some 43,some (42,true),.b8 (.t 4)⟩,⟨some 44,some (42,true),.bin .leq (.t 43) (.c (.I (.int .u64 9223372036854775808)))⟩,hF 45 42 44,F 38 45] (aQ 38 (O [F 46 4,(ar 47 (.un .neg (.t 46))),(ar 48 (.conv .i64 (.t 47))),F 2 48,dd 3 true] .ret) (O [aI 50 0 1,aG 51 1 50,a7 52 .geq 51 0,F 53 52,⟨some 54,some (53,true),.b8 (.t 4)⟩,⟨some 55,some (53,true),.bin .lss (.t 54) (.c (.I (.int .u64 9223372036854775808)))⟩,hF 56 53 55,F 49 56] (aQ 49 (O [F 57 4,(ar 58 (.conv .i64 (.t 57))),F 2 58,dd 3 true] .ret) .skip))))) (O [ba 2 0,dd 3 false] .ret))))))
def Wt:b1:=cq 69 2 [.cell 4 2 true,.t 5] (O [dB 2 160002 0,dB 3 160003 1,(ar 4 (.alloc 160004 [(Z 0),.nil])),ba 5 0] (.seq (O [aY 6 2 2,(dT 7 mc 6),fu 8 7,F 9 8,⟨some 10,some (9,false),.load 2 true (.t 3)⟩,⟨some 11,some (9,false),.call mc [(.t 10)]⟩,⟨some 12,some (9,false),.un .not (.t 11)⟩,c6 13 9 12] (aQ 13 (O [(ar 14 (.build [(Z 0),.nil] [])),(ar 15 (.call wJ [(.c (.I (.bool false))),(.t 14)])),a6 16 0 15,a6 17 1 15,aT 2 4 16,F 5 17] .ret) .skip)) (.seq (.block 0 (O [aI 19 0 2,aG 20 1 19,aI 21 0 3,aG 22 1 21,bA 23 .mul 20 22,a7 24 .geq 23 0,F 18 24] (aQ 18 (eT [aI 25 0 2,aG 26 1 25,aI 27 0 3,aG 28 1 27,(ar 29 (.eL 160029 false [(Z 0),(Z 0)] 1 2 [(0,1,(.t 26)),(1,1,(.t 28))])),(dT 30 VK 29),aI 31 1 2,aG 32 1 31,aI 33 1 3,aG 34 1 33,(b2 35 Lz 32 34),(b2 36 qw 30 35),(ar 37 (.call wJ [(.c (.I (.bool true))),(.t 36)])),a6 38 0 37,a6 39 1 37,aT 2 4 38,F 5 39] af9 .ret) (O [aI 41 1 2,aG 42 1 41,aI 43 1 3,aG 44 1 43,(b2 45 EV 42 44),a7 46 .lss 45 0,F 40 46] (aQ 40 (eT [aI 47 0 3,aG 48 1 47,aI 49 1 3,aG 50 1 49,aI 51 1 2,aG 52 1 51,(b2 53 HS 50 52),(b2 54 qw 48 53),(ar 55 (.call wJ [(.c (.I (.bool true))),(.t 54)])),a6 56 0 55,a6 57 1 55,aT 2 4 56,F 5 57] E0 .ret) .skip))))) (eT [aI 58 0 2,aG 59 1 58,aI 60 1 2,aG 61 1 60,aI 62 1 3,aG 63 1 62,(b2 64 HS 61 63),(b2 65 qw 59 64),(ar 66 (.call wJ [(.c (.I (.bool true))),(.t 65)])),a6 67 0 66,a6 68 1 66,aT 2 4 67,F 5 68] E0 .ret))))
def Wu:b1:=cq 67 2 [.t 4] (O [ec 4] (O [F 12 0,cC 13 12,F 14 1,cC 15 14,bA 16 .add 13 15,(ar 17 (.mx 161017 [(Z 0)] 8 (.t 16) (.t 16))),F 5 17] (.seq (O [F 18 0,cC 19 18,ba 20 0] (.block 0 (.loop  (O [bA 21 .lss 20 19] (.seq (aQ 21 .skip (.exit 0)) (.seq (.block 1 (O [F 22 20,bI 23 1 18 20,aG 24 1 23,F 6 22,F 7 24] (O [ba 8 0] (.seq (O [F 25 1,cC 26 25,ba 27 0] (.block 2 (.loop  (O [bA 28 .lss 27 26] (.seq (aQ 28 .skip (.exit 2)) (.seq (.block 3 (O [F 29 27,bI 30 1 25 27,aG 31 1 30,F 9 29,F 10 31] (O [F 32 5,F 33 6,F 34 9,bA 35 .add 33 34,bI 36 1 32 35,aG 37 1 36,F 38 7,F 39 10,bA 40 .mul 38 39,bA 41 .add 37 40,F 42 8,bA 43 .add 41 42,F 11 43] (.ops [F 44 5,F 45 6,F 46 9,bA 47 .add 45 46,F 48 11,a7 49 .and 48 1048575,F 50 11,(ar 51 (.bin .shr (.t 50) (.c (.I (.int .u64 20))))),bI 52 1 44 47,aT 1 52 49,F 8 51])))) (.ops [a7 53 .add 27 1,F 27 53]))))))) (.ops [F 54 5,F 55 6,F 56 1,cC 57 56,bA 58 .add 55 57,bI 59 1 54 58,aG 60 1 59,F 61 8,bA 62 .add 60 61,bI 63 1 54 58,aT 1 63 62]))))) (.ops [a7 64 .add 20 1,F 20 64]))))))) (O [F 65 5,(dT 66 r5 65),F 4 66] .ret))))
def Wv:b1:=cq 55 2 [.t 4] (O [ec 4] (.seq (O [F 9 0,cC 10 9,F 11 1,cC 12 11,bA 13 .lss 10 12] (aQ 13 (.ops [F 14 1,F 15 0,F 0 14,F 1 15]) .skip)) (O [F 16 0,cC 17 16,a7 18 .add 17 1,(ar 19 (.mx 172019 [(Z 0)] 8 (.t 18) (.t 18))),F 5 19] (O [ba 6 0] (.seq (O [F 20 0,cC 21 20,ba 22 0] (.block 0 (.loop  (O [bA 23 .lss 22 21] (.seq (aQ 23 .skip (.exit 0)) (.seq (.block 1 (O [F 24 22,bI 25 1 20 22,aG 26 1 25,F 7 24,F 8 26] (O [F 27 6,F 28 8,bA 29 .add 27 28,F 6 29] (.seq (O [F 30 7,F 31 1,cC 32 31,bA 33 .lss 30 32] (aQ 33 (.ops [F 34 6,F 35 1,F 36 7,bI 37 1 35 36,aG 38 1 37,bA 39 .add 34 38,F 6 39]) .skip)) (O [F 40 5,F 41 7,F 42 6,a7 43 .and 42 1048575,bI 44 1 40 41,aT 1 44 43] (.ops [F 45 6,(ar 46 (.bin .shr (.t 45) (.c (.I (.int .u64 20))))),F 6 46])))))) (.ops [a7 47 .add 22 1,F 22 47]))))))) (O [F 48 5,F 49 0,cC 50 49,F 51 6,bI 52 1 48 50,aT 1 52 51] (O [F 53 5,(dT 54 r5 53),F 4 54] .ret)))))))
def Ww:b1:=cq 43 2 [.t 4] (O [ec 4] (O [F 9 0,(ar 10 (.oX 173010 1 wK [(.t 9)])),F 5 10] (O [ba 6 0] (.seq (O [F 11 5,cC 12 11,ba 13 0] (.block 0 (.loop  (O [bA 14 .lss 13 12] (.seq (aQ 14 .skip (.exit 0)) (.seq (.block 1 (O [F 15 13,F 7 15] (O [F 16 5,F 17 7,bI 18 1 16 17,aG 19 1 18,F 20 6,bA 21 .sub 19 20,F 8 21] (.seq (O [F 22 7,F 23 1,cC 24 23,bA 25 .lss 22 24] (aQ 25 (.ops [F 26 8,F 27 1,F 28 7,bI 29 1 27 28,aG 30 1 29,bA 31 .sub 26 30,F 8 31]) .skip)) (O [F 32 8,(ar 33 (.bin .shr (.t 32) (.c (.I (.int .u64 20))))),a7 34 .and 33 1,F 6 34] (.ops [F 35 5,F 36 7,F 37 8,a7 38 .and 37 1048575,bI 39 1 35 36,aT 1 39 38])))))) (.ops [a7 40 .add 13 1,F 13 40]))))))) (O [F 41 5,(dT 42 r5 41),F 4 42] .ret)))))
def Wx:b1:=cq 41 2 [.t 4] (O [ba 4 0] (.seq (O [F 6 0,cC 7 6,F 8 1,cC 9 8,bA 10 .neq 7 9] (aQ 10 (O [F 11 0,cC 12 11,F 13 1,cC 14 13,(b2 15 HT 12 14),F 4 15] .ret) .skip)) (.seq (O [F 16 0,cC 17 16,a7 18 .sub 17 1,F 5 18] (.block 0 (.loop  (.seq (O [F 19 5,a7 20 .geq 19 0] (aQ 20 .skip (.exit 0))) (.seq (.block 1 (eT [F 23 0,F 24 5,bI 25 1 23 24,aG 26 1 25,F 27 1,F 28 5,bI 29 1 27 28,aG 30 1 29,bA 31 .neq 26 30] PY (aQ 31 (eT [F 32 0,F 33 5,bI 34 1 32 33,aG 35 1 34,F 36 1,F 37 5,bI 38 1 36 37,aG 39 1 38,(b2 40 HT 35 39),F 4 40] LP .ret) .skip))) (.ops [F 21 5,a7 22 .sub 21 1,F 5 22])))))) (O [ba 4 0] .ret))))
def Wy:b1:=cq 38 2 [.t 4,.t 5] (O [ec 4,ba 5 0] (O [F 9 0,cC 10 9,(ar 11 (.mx 176011 [(Z 0)] 8 (.t 10) (.t 10))),F 6 11] (O [ba 7 0] (.seq (O [F 12 0,cC 13 12,a7 14 .sub 13 1,F 8 14] (.block 0 (.loop  (.seq (O [F 15 8,a7 16 .geq 15 0] (aQ 16 .skip (.exit 0))) (.seq (.block 1 (O [F 19 7,(ar 20 (.bin .shl (.t 19) (.c (.I (.int .u64 20))))),F 21 0,F 22 8,bI 23 1 21 22,aG 24 1 23,bA 25 .or 20 24,F 7 25] (O [F 26 6,F 27 8,F 28 7,F 29 1,bA 30 .quo 28 29,bI 31 1 26 27,aT 1 31 30] (.ops [F 32 7,F 33 1,bA 34 .rem 32 33,F 7 34])))) (.ops [F 17 8,a7 18 .sub 17 1,F 8 18])))))) (.seq (.ghost (.freeze 6) (.ops [F 35 6,(dT 36 r5 35),F 37 7,F 4 36,F 5 37])) .ret)))))
def E1:b1:=cq 21 1 [.t 2] (O [ec 2] (O [F 4 0,cC 5 4,F 3 5] (.seq (.block 0 (.loop  (.seq (O [F 6 3,a7 7 .gtr 6 0,F 8 7,⟨some 9,some (8,true),.b8 (.t 0)⟩,⟨some 10,some (8,true),.b8 (.t 3)⟩,⟨some 11,some (8,true),.bin .sub (.t 10) (.c (Z 1))⟩,⟨some 12,some (8,true),.ij 1 (.t 9) (.t 11)⟩,⟨some 13,some (8,true),.load 1 false (.t 12)⟩,⟨some 14,some (8,true),.bin .eql (.t 13) (.c (Z 0))⟩,hF 15 8 14] (aQ 15 .skip (.exit 0))) (.block 1 (.ops [F 16 3,a7 17 .sub 16 1,F 3 17]))))) (O [F 18 0,F 19 3,(ar 20 (.tE 1 (.t 18) none (some (.t 19)) none)),F 2 20] .ret))))
def PZ:b1:=cq 78 3 [.t 6] (O [ba 6 0] (O [ba 7 0] (.seq (O [F 12 0,cC 13 12,ba 14 0] (.block 0 (.loop  (O [bA 15 .lss 14 13] (.seq (aQ 15 .skip (.exit 0)) (.seq (.block 1 (O [F 16 14,F 8 16] (O [F 17 0,F 18 8,bI 19 1 17 18,aG 20 1 19,F 21 7,bA 22 .sub 20 21,F 9 22] (.seq (O [F 23 8,F 24 1,cC 25 24,bA 26 .lss 23 25] (aQ 26 (.ops [F 27 9,F 28 2,F 29 1,F 30 8,bI 31 1 29 30,aG 32 1 31,bA 33 .mul 28 32,bA 34 .sub 27 33,F 9 34]) .skip)) (O [F 35 0,F 36 8,F 37 9,a7 38 .and 37 1048575,bI 39 1 35 36,aT 1 39 38] (.ops [F 40 9,(ar 41 (.bin .shr (.t 40) (.c (.I (.int .u64 20))))),(ar 42 (.un .neg (.t 41))),F 7 42])))))) (.ops [a7 43 .add 14 1,F 14 43]))))))) (.seq (O [F 44 7,a7 45 .eql 44 0] (aQ 45 (O [F 46 2,F 6 46] .ret) .skip)) (O [ba 10 0] (.seq (O [F 47 0,cC 48 47,ba 49 0] (.block 2 (.loop  (O [bA 50 .lss 49 48] (.seq (aQ 50 .skip (.exit 2)) (.seq (.block 3 (O [F 51 49,F 11 51] (O [F 52 10,F 53 0,F 54 11,bI 55 1 53 54,aG 56 1 55,bA 57 .add 52 56,F 10 57] (.seq (O [F 58 11,F 59 1,cC 60 59,bA 61 .lss 58 60] (aQ 61 (.ops [F 62 10,F 63 1,F 64 11,bI 65 1 63 64,aG 66 1 65,bA 67 .add 62 66,F 10 67]) .skip)) (O [F 68 0,F 69 11,F 70 10,a7 71 .and 70 1048575,bI 72 1 68 69,aT 1 72 71] (.ops [F 73 10,(ar 74 (.bin .shr (.t 73) (.c (.I (.int .u64 20))))),F 10 74])))))) (.ops [a7 75 .add 49 1,F 49 75]))))))) (O [F 76 2,a7 77 .sub 76 1,F 6 77] .ret)))))))
def Wz:b1:=cq 20 2 [.t 4] (O [ba 4 0] (O [F 7 0,(dT 8 PQ 7),F 5 8] (O [F 9 1,(dT 10 PQ 9),F 6 10] (.seq (O [F 11 5] (aQ 11 (.seq (O [F 12 6] (aQ 12 (O [ba 4 0] .ret) .skip)) (O [(ar 4 (.b8 (.c (.I (.int .i64 (-1))))))] .ret)) .skip)) (.seq (O [F 13 6] (aQ 13 (O [ba 4 1] .ret) .skip)) (.seq (O [F 14 0,F 15 1,bA 16 .lss 14 15] (aQ 16 (O [(ar 4 (.b8 (.c (.I (.int .i64 (-1))))))] .ret) .skip)) (.seq (O [F 17 0,F 18 1,bA 19 .gtr 17 18] (aQ 19 (O [ba 4 1] .ret) .skip)) (O [ba 4 0] .ret))))))))
def WA:b1:=cq 18 1 [.t 2] (O [ba 2 0] (O [ba 3 0] (.seq (O [F 6 0,cC 7 6,ba 8 0] (.block 0 (.loop  (O [bA 9 .lss 8 7] (.seq (aQ 9 .skip (.exit 0)) (.seq (.block 1 (O [bI 10 1 6 8,aG 11 1 10,F 5 11] (O [F 12 5,F 13 3,bA 14 .neq 12 13] (aQ 14 (O [F 15 5,F 2 15] .ret) .skip)))) (.ops [a7 16 .add 8 1,F 8 16]))))))) (O [F 17 3,F 2 17] .ret))))
def WB:b1:=cq 6 1 [.t 2] (O [dd 2 false] (O [F 3 0,F 4 0,bA 5 .neq 3 4,F 2 5] .ret))
def WC:b1:=cq 9 2 [.t 4] (O [dd 4 false] (O [F 5 0,F 6 1,(b2 7 VB 5 6),a7 8 .geq 7 0,F 4 8] .ret))
def WD:b1:=cq 9 2 [.t 4] (O [dd 4 false] (O [F 5 0,F 6 1,(b2 7 VC 5 6),a7 8 .geq 7 0,F 4 8] .ret))
def WE:b1:=cq 48 2 [.t 4] (O [ec 4] (.seq (O [F 9 1,a7 10 .lss 9 0] (aQ 10 (.ops [(ar 11 (.bad)),⟨none,none,.bad⟩]) .skip)) (O [F 13 0,cC 14 13,(ar 15 (.conv .u64 (.t 14))),F 16 1,(ar 17 (.conv .u64 (.t 16))),(b2 18 VE 15 17),F 12 18,a6 19 0 12,a6 20 1 12,F 5 19,F 6 20] (.seq (O [F 21 5,(ar 22 (.bin .gtr (.t 21) (.c (.I (.int .u64 0))))),F 23 22,⟨some 24,some (23,false),.b8 (.t 6)⟩,⟨some 25,some (23,false),.bin .gtr (.t 24) (.c (.I (.int .u64 9223372036854775807)))⟩,c6 26 23 25] (aQ 26 (.ops [(ar 27 (.bad)),⟨none,none,.bad⟩]) .skip)) (O [F 28 6,(ar 29 (.conv .i64 (.t 28))),(ar 30 (.mx 131030 [(Z 0),.nil,(Z 0),.nil] 64 (.t 29) (.t 29))),F 7 30] (O [F 31 7,F 32 0,(ar 33 (.tF 4 (.t 31) (.t 32))),F 8 33] (.seq (.block 0 (.loop  (.seq (O [F 34 8,F 35 7,cC 36 35,bA 37 .lss 34 36] (aQ 37 .skip (.exit 0))) (.block 1 (.my [F 38 8,F 39 7,F 40 8,(ar 41 (.tE 4 (.t 39) (some (.t 40)) none none)),F 42 7,F 43 8,(ar 44 (.tE 4 (.t 42) none (some (.t 43)) none)),(ar 45 (.tF 4 (.t 41) (.t 44))),bA 46 .add 38 45,F 8 46] LP))))) (O [F 47 7,F 4 47] .ret))))))))
def WG:b1:=cq 19 2 [.t 4] (O [ba 4 0] (.seq (O [F 6 0,cC 7 6,ba 8 0] (.block 0 (.loop  (O [bA 9 .lss 8 7] (.seq (aQ 9 .skip (.exit 0)) (.seq (.block 1 (O [F 10 8,F 5 10] (O [F 11 1,F 12 0,F 13 5,bI 14 5 12 13,aY 15 5 14,(ar 16 (.nJ (.t 11) [(.t 15)]))] (aQ 16 (O [F 17 5,F 4 17] .ret) .skip)))) (.ops [a7 18 .add 8 1,F 8 18]))))))) (O [(ar 4 (.b8 (.c (.I (.int .i64 (-1))))))] .ret)))
def WH:b1:=cq 19 2 [.t 4] (O [ba 4 0] (.seq (O [F 6 0,cC 7 6,ba 8 0] (.block 0 (.loop  (O [bA 9 .lss 8 7] (.seq (aQ 9 .skip (.exit 0)) (.seq (.block 1 (O [F 10 8,F 5 10] (O [F 11 1,F 12 0,F 13 5,bI 14 4 12 13,aY 15 4 14,(ar 16 (.nJ (.t 11) [(.t 15)]))] (aQ 16 (O [F 17 5,F 4 17] .ret) .skip)))) (.ops [a7 18 .add 8 1,F 8 18]))))))) (O [(ar 4 (.b8 (.c (.I (.int .i64 (-1))))))] .ret)))
def WI:b1:=cq 8 1 [.t 2] (O [ec 2] (.seq (O [F 3 0,(ar 4 (.sF false (.t 3)))] (aQ 4 (O [ec 2] .ret) .skip)) (O [(ar 5 (.eL 147005 true [] 4 0 [])),F 6 0,(ar 7 (.app 147007 [(Z 0),.nil,(Z 0),.nil] 64 (.t 5) (.t 6))),F 2 7] .ret)))
def WJ:b1:=cq 8 1 [.t 2] (O [ec 2] (.seq (O [F 3 0,(ar 4 (.sF false (.t 3)))] (aQ 4 (O [ec 2] .ret) .skip)) (O [(ar 5 (.eL 156005 true [] 1 0 [])),F 6 0,(ar 7 (.app 156007 [(Z 0)] 8 (.t 5) (.t 6))),F 2 7] .ret)))
def WK:b1:=cq 19 2 [.t 4] (O [ba 4 0] (.seq (O [F 6 0,cC 7 6,ba 8 0] (.block 0 (.loop  (O [bA 9 .lss 8 7] (.seq (aQ 9 .skip (.exit 0)) (.seq (.block 1 (O [F 10 8,F 5 10] (O [F 11 1,F 12 0,F 13 5,bI 14 1 12 13,aG 15 1 14,(ar 16 (.nJ (.t 11) [(.t 15)]))] (aQ 16 (O [F 17 5,F 4 17] .ret) .skip)))) (.ops [a7 18 .add 8 1,F 8 18]))))))) (O [(ar 4 (.b8 (.c (.I (.int .i64 (-1))))))] .ret)))
def WL:b1:=cq 25 1 [.t 2] (O [ba 2 0] (.seq (O [F 5 0,cC 6 5,a7 7 .lss 6 1] (aQ 7 (.ops [(ar 8 (.bad)),⟨none,none,.bad⟩]) .skip)) (O [F 9 0,(ar 10 (.ij 1 (.t 9) (.c (Z 0)))),aG 11 1 10,F 3 11] (.seq (O [ba 4 1] (.block 0 (.loop  (.seq (O [F 12 4,F 13 0,cC 14 13,bA 15 .lss 12 14] (aQ 15 .skip (.exit 0))) (.seq (.block 1 (.ops [F 18 3,F 19 0,F 20 4,bI 21 1 19 20,aG 22 1 21,(ar 23 (.jH true (.t 18) (.t 22))),F 3 23])) (.ops [F 16 4,a7 17 .add 16 1,F 4 17])))))) (O [F 24 3,F 2 24] .ret)))))
def WM:b1:=cq 9 2 [.t 4] (O [dd 4 false] (O [F 5 0,F 6 1,(b2 7 EZ 5 6),a7 8 .geq 7 0,F 4 8] .ret))
def WN:b1:=cq 9 2 [.t 4] (O [dd 4 false] (O [F 5 0,F 6 1,(b2 7 V5 5 6),a7 8 .geq 7 0,F 4 8] .ret))
def WO:b1:=cq 19 2 [.t 4] (O [ba 4 0] (.seq (O [F 6 0,cC 7 6,ba 8 0] (.block 0 (.loop  (O [bA 9 .lss 8 7] (.seq (aQ 9 .skip (.exit 0)) (.seq (.block 1 (O [F 10 8,F 5 10] (O [F 11 1,F 12 0,F 13 5,bI 14 4 12 13,aY 15 4 14,(ar 16 (.nJ (.t 11) [(.t 15)]))] (aQ 16 (O [F 17 5,F 4 17] .ret) .skip)))) (.ops [a7 18 .add 8 1,F 8 18]))))))) (O [(ar 4 (.b8 (.c (.I (.int .i64 (-1))))))] .ret)))
theorem WQ (l:List Int)(n:Nat)(aM:n<D l)(h:l[n]=0):gl (l.take (n+1))=gl (l.take n):=by
 rw[g2,bB aM,h];exact afY _
theorem WR (l:List Int)(n:Nat)(aM:n<D l)(h:l[n]≠0):gl (l.take (n+1))=l.take (n+1):=by
 rw[g2,bB aM];exact afZ _ h
abbrev E2:List Int->List Data:=λ(l:List Int)=>[.Y (l.map ae)]
def Bc:=cy E2 λ(l:List Int)=>cT (D l<=1000000) (.same (.Y ((gl l).map ae)))
theorem LR:∀a b,E2 a=E2 b->a=b:=by
  intro dr aa h;exact map_inj hp _ _ (by simpa using h)
@[go_sem] theorem P0 (l:List Int)(H:(D l)<=1000000):Bc [.Y (l.map ae)]=some (.same (.Y ((gl l).map ae))):=(cF LR l).trans (cY H _)
theorem arV (T:bm)  (l:List Int) (H:(D l)<=1000000):WP T E1 (.same (.Y ((gl l).map ae))) [.I (.Y (l.map ae))]:=by
 refine cH ?_;simp only[E1];have pM:((l.map ae).all λe=>D e==1)=true:=by simp[ae]
 refine a1 ?_;repeat' (intro h<;>simp only[h,go_sem,go_sem_proc,ah]<;>try refine al ?_ ?_)
 refine c9 [0] [] (λ(n:Nat) tm mem=>n<=D l/\gl l=gl (l.take n)/\tm 3=.I (.int .i64 n)) (λn=>n) (D l) (by refine⟨cI _,by simp,by simp[go_sem]⟩) ?_;intro vs ms aK aF;simp only[go_sem,go_sem_proc,ah] at aK aF;subst aK aF;rintro n tm mem L-⟨aM,cm,af⟩;simp only[go_sem,go_sem_proc,bf] at L;have aj:=L;rcases n with _|n
 ·refine a1 ?_;repeat' (intro h<;>simp only[h,go_sem,go_sem_proc,aj,af,pM,mC,m3,show ¬ ((0:Int)>0) by omega,decide_false,ah,show (0:Int).toNat=0 from rfl,show (0:Int)<=0 by omega,fA,ma,b6]<;>try refine al ?_ ?_)
  rw[cm];simp[gl]
 ·have hw:IntKind.i64.wrap (((n+1:Nat):Int)-1)=(n:Int):=by rw[e7 _];omega
  have M:l[n]?=some l[n]:=bB (by omega);have iX:((n+1:Nat):Int)>0:=by omega
  have hle:n+1<=D l:=aM
  by_cases a2:l[n]=0
  ·refine a1 ?_;repeat' (intro h<;>simp only[h,go_sem,go_sem_proc,aj,af,hw,M,a2,iX,ah,aW,decide_true,ae,beq_self_eq_true,bf]<;>try refine al ?_ ?_)
   exact⟨n,by omega,by omega,by rw[cm,WQ l n (by omega) a2],rfl⟩
  ·have m4:(l[n]==0)=false:=by simpa using a2
   refine a1 ?_;repeat' (intro h<;>simp only[h,go_sem,go_sem_proc,aj,af,hw,M,m4,iX,pM,hle,ae,ah,aW,decide_true,bf,show (0:Int)<=((n+1:Nat):Int) by omega,iY,fA]<;>try refine al ?_ ?_)
   rw[cm,WR l n (by omega) a2,List.map_take]
structure agc where
 l:List Int
 k:Key
 g:Nat
def wN:List R->Mem->Option (R×Mem):=HL (λ(a:agc) args mem=>args=[.ref a.k a.g 1 0 (D a.l)]/\mem a.k=some (a.g,aS ae a.l)/\D a.l<=1000000) (λa mem=>(.ref a.k a.g 1 0 (gl a.l).length,mem))
theorem WS {α:Type}{enc:α->List Data}{sz:Nat}(h:∀a,(enc a).length=sz)(U:∀a b,enc a=enc b->a=b):∀(l fL:List α),aS enc l=aS enc fL->0<sz->l=fL:=by
 intro l
 induction l with
 |nil =>
  intro fL e a2
  cases fL with
  |nil=>rfl
  |cons b r =>
   have:=congrArg D e;rw[lB h,lB h] at this;simp only[og,kB,PG,rM] at this;omega
 |cons a r aH =>
  intro fL e a2
  cases fL with
  |nil =>
   have:=congrArg D e;rw[lB h,lB h] at this;simp only[og,kB,PG,rM] at this;omega
  |cons b AL =>
   rw[zr,zr] at e;have az:((enc a).map R.I).length=((enc b).map R.I).length:=by simp[h]
   obtain⟨ay,aA⟩:=H0 e az;have bQ:=map_inj (λx y (e:R.I x=R.I y)=>by cases e;rfl) _ _ ay;rw[U _ _ bQ,aH AL aA a2]
theorem WT (l:List Int)(k g:Nat)(mem:Mem)(h:mem k=some (g,aS ae l))(az:(D l)<=1000000):wN [.ref k g 1 0 (D l)] mem=some (.ref k g 1 0 (gl l).length,mem):=by
 unfold wN;refine afX (a:=(⟨l,k,g⟩:agc)) ?_ ⟨rfl,h,az⟩;rintro a b args mem ⟨G,J,_⟩ ⟨af,aP,_⟩;rw[G] at af;simp only[bf,R.ref.injEq,true_and,and_true] at af;obtain⟨LS,P1,_⟩:=af;rw[LS,aP] at J;simp only[cO,fJ] at J;have:=WS hO hp _ _ J.2 (by omega);rw[LS,P1,this]
@[go_sem] theorem aIw (d:Data)(mem:Mem):wN [.I d] mem=none:=by
 cases M:wN [.I d] mem with
 |none=>rfl
 |some x =>
  unfold wN at M;obtain⟨a,⟨h,_⟩,_⟩:=Vq M
  cases h
theorem arW (T:bm)(l:List Int)(k g:Nat)(mem:Mem)(hm:mem k=some (g,aS ae l))(H:(D l)<=1000000):
  wp T E1.body (HK E1.res (.ref k g 1 0 (gl l).length) mem) ⟨l1 [.ref k g 1 0 (D l)],mem⟩:=by
 refine tQ ?_;simp only[E1];refine a1 ?_;repeat' (intro h<;>simp only[h,go_sem,go_sem_proc,hm]<;>try refine al ?_ ?_)
 refine c9 [0] [] (λ(n:Nat) tm mem'=>n<=D l/\gl l=gl (l.take n)/\tm 3=.I (.int .i64 n)/\mem'=mem) (λn=>n) (D l) (by refine⟨cI _,by simp,by simp[go_sem],rfl⟩) ?_;intro vs ms aK aF;simp only[go_sem,go_sem_proc] at aK aF;subst aK aF;rintro n tm _ L-⟨aM,cm,af,rfl⟩;simp only[go_sem,go_sem_proc,bf] at L;have aj:=L;rcases n with _|n
 ·refine a1 ?_;repeat' (intro h<;>simp only[h,go_sem,go_sem_proc,aj,af,hm,mC,m3,show ¬ ((0:Int)>0) by omega,decide_false,show (0:Int).toNat=0 from rfl,show (0:Int)<=0 by omega,fA]<;>try refine al ?_ ?_)
  rw[cm];simp[gl]
 ·have hw:IntKind.i64.wrap (((n+1:Nat):Int)-1)=(n:Int):=by rw[e7 _];omega
  have M:l[n]?=some l[n]:=bB (by omega);have iX:((n+1:Nat):Int)>0:=by omega
  have hle:n+1<=D l:=aM;have av:n<D l:=aM;have tO:=PF hO M (f:=0) (n:=1) (by omega);have eC:=lB hO l;rw[cD] at eC;have agd:n+1<=(aS ae l).length:=by omega
  have age:iu 1 (jn n (aS ae l))=[.I (.int .i64 l[n])]:=by
   unfold cut at tO;rw[cD,l7,ad (by omega)] at tO
   simpa [ae] using tO
  by_cases a2:l[n]=0
  ·refine a1 ?_;repeat' (intro h<;>simp only[h,go_sem,go_sem_proc,aj,af,hm,hw,av,agd,age,a2,iX,decide_true,cD,beq_self_eq_true]<;>try refine al ?_ ?_)
   exact⟨n,by omega,by omega,by rw[cm,WQ l n (by omega) a2],rfl⟩
  ·have m4:(l[n]==0)=false:=by simpa using a2
   refine a1 ?_;repeat' (intro h<;>simp only[h,go_sem,go_sem_proc,aj,af,hm,hw,av,agd,age,m4,iX,hle,decide_true,cD,show (0:Int)<=((n+1:Nat):Int) by omega,iY,fA,Nat.sub_zero]<;>try refine al ?_ ?_)
   rw[cm,WR l n (by omega) a2];simp;omega
abbrev x2:Int->List Data:=λ(n:Int)=>[.int .i64 n]
def WU:=cy x2 λ(n:Int)=>some (.same (.bool false))
theorem Bd:∀a b,x2 a=x2 b->a=b:=by
  intro h0 iE h;simp only[bf,Data.int.injEq,Data.agg.injEq,Data.Y.injEq,Data.bool.injEq,Data.str.injEq,Data.ptr.injEq,Data.cB.injEq,fJ,true_and,and_true] at h ⊢
  first|exact h|simpa [H2,and_assoc] using h|grind
@[go_sem] theorem aIx (n:Int):WU [.int .i64 n]=some (.same (.bool false)):=cF Bd n
theorem arX (T:bm)  (n:Int):WP T WB (.same (.bool false)) [.I (.int .i64 n)]:=by
 refine cH ?_;simp only[WB];refine a1 ?_;repeat' (intro h<;>simp only[h,go_sem,go_sem_proc,beq_self_eq_true]<;>try refine al ?_ ?_)
def gx (a b:Int):Int:=if decide (a<b)=true then -1 else if decide (a>b)=true then 1 else 0
abbrev H3:Int×Int->List Data:=λ(a,b)=>[.int .i64 a,.int .i64 b]
def P2:=cy H3 λ(a,b)=>some (.same (.int .i64 (gx a b)))
theorem P3:∀a b,H3 a=H3 b->a=b:=by
  rintro⟨cE,c0⟩ ⟨cS,et⟩ h;simp only[bf,Data.int.injEq,Data.agg.injEq,Data.Y.injEq,Data.bool.injEq,Data.str.injEq,Data.ptr.injEq,Data.cB.injEq,fJ,true_and,and_true] at h ⊢
  first|exact h|simpa [H2,and_assoc] using h|grind
@[go_sem] theorem aIy (a:Int)(b:Int):P2 [.int .i64 a,.int .i64 b]=some (.same (.int .i64 (gx a b))):=cF P3 (a,b)
theorem arY (T:bm)(arZ:T PQ=aO WU)(a:Int)(b:Int):WP T Wz (.same (.int .i64 (gx a b))) [.I (.int .i64 a),.I (.int .i64 b)]:=by
 refine cH ?_;simp only[Wz];refine a1 ?_;repeat' (intro h<;>simp only[h,go_sem,go_sem_proc,arZ]<;>try refine al ?_ ?_)
 all_goals simp only[gx, *,reduceIte,bT,cp,pR,wC,lA,wD,sU,fP,jB,fr,kE,beq_self_eq_true,bne]
def x3:List Int->Int
 | []=>0
 |d::r=>if (d==0)=true then x3 r else d
def WV:=cy E2 λ(l:List Int)=>cT (D l<=1000000) (.same (.int .i64 (x3 l)))
@[go_sem] theorem ar0 (l:List Int)(H:(D l)<=1000000):WV [.Y (l.map ae)]=some (.same (.int .i64 (x3 l))):=(cF LR l).trans (cY H _)
theorem ar1 (T:bm)  (l:List Int) (H:(D l)<=1000000):WP T WA (.same (.int .i64 (x3 l))) [.I (.Y (l.map ae))]:=by
 refine cH ?_;simp only[WA];simp only[go_sem,go_sem_proc,ah];repeat' (first|refine al ?_ ?_|fail)<;>intro h<;>simp only[h,go_sem,go_sem_proc,ah]
 refine c9 [3,6,7] [] (λi tm mem=>0<=i/\i<=(D l:Int)/\x3 l=x3 (l.drop i.toNat)/\tm 8=.I (.int .i64 i)) (λi=>(D l-i).toNat) 0 (by refine⟨by omega,by omega,by simp,by simp[go_sem]⟩) ?_;intro vs ms aK aF;simp only[go_sem,go_sem_proc] at aK aF;subst aK aF;rintro i tm mem L-⟨tZ,U,aD,bP⟩;simp only[go_sem,go_sem_proc,bf] at L;obtain⟨af,bK,bE⟩:=L;rcases dk (i<D l) with av|b4
 ·obtain⟨x,M,ab,-⟩:=afM l i tZ av;simp only[go_sem,go_sem_proc,af,bK,bE,bP,M,av,tZ,ae,ah,aW,decide_true,bf];repeat' (first|refine al ?_ ?_|fail)<;>intro h<;>simp only[h,go_sem,go_sem_proc,af,bK,bE,bP,M,av,tZ,ae,ah,aW,decide_true,bf]
  ·rw[aD,ab];simp[x3,h]
  ·exact⟨i+1,by omega,by omega,by omega,by rw[aD,ab];simp only[x3, *,reduceIte,bT,cp,pR,wC,lA,wD,sU,fP,jB,fr,kE,beq_self_eq_true,bne],by rw[e7 _]⟩
 ·have he:l.drop i.toNat=[]:=mA (by omega);simp only[go_sem,go_sem_proc,af,bK,bE,bP,b4,decide_false];repeat' (first|refine al ?_ ?_|fail)<;>intro h<;>simp only[h,go_sem,go_sem_proc,af,bK,bE,bP,b4,decide_false]
  rw[aD,he];rfl
theorem P4 (l:List Int):((l.map ae).all λe=>D e==1)=true:=by simp[ae]
def CW:=cy E2 λ(l:List Int)=>cT (D l<=1000000) (.own 1 (l.map ae))
@[go_sem] theorem agf (l:List Int)(H:(D l)<=1000000):CW [.Y (l.map ae)]=some (.own 1 (l.map ae)):=(cF LR l).trans (cY H _)
theorem ar2 (T:bm)  (l:List Int) (H:(D l)<=1000000):WP T WJ (.own 1 (l.map ae)) [.I (.Y (l.map ae))]:=by
 refine cH ?_;simp only[WJ]
 have cW:lr 156005 0 1 0 8 (D l) ((l.map ae).flatten.map .I) (some (0,[]))=some (.ref 156005 1 1 0 (D l),some (156005,1,aS ae l)):=by
  have:=A5 hO xY 156005 0 8 [] l (by simp;omega) (by simp;omega)
  simpa [aS] using this
 have hlen:(aS ae l).length=D l:=by rw[lB hO];omega
 refine a1 ?_;repeat' (intro h<;>simp only[h,go_sem,go_sem_proc,P4,cW,ah]<;>try refine al ?_ ?_)
 rintro b ai
 cases b
 ·refine a1 ?_;repeat' (intro h<;>simp only[h,go_sem,go_sem_proc,P4,cW,ah,tS,cD,hlen]<;>try refine al ?_ ?_)
  rw[ad (by omega),dH (by omega)];unfold aS;rw[EH _ λd=>rfl];have:=CL (sz:=1) (l.map ae) (by simp[ae]);rw[ah] at this;simp[this]
 ·cases l with
  |nil =>
       refine a1 ?_;repeat' (intro h<;>simp only[h,go_sem,go_sem_proc,tS,b6]<;>try refine al ?_ ?_)
  |cons x r=>simp at ai
abbrev Raw:=Int×List Int
def bU (a:Raw):List Data:=[.int .i64 a.1,.Y (a.2.map ae)]
def o3 (d:Int):Bool:=!decide (d<0) && !decide (d>1048575)
def di (a:Raw):Bool:=a.2.all o3&&(if (a.2.length==0)=true then a.1==0 else ((a.1==1||a.1 == -1)&&decide (a.2.length<=60)&&(a.2.getLast? != some 0)))
abbrev Be:Int×(List Int)->List Data:=λ(s,l)=>[.agg [.int .i64 s,.Y (l.map ae)]]
def x4:=cy Be λ(s,l)=>cT (D l<=1000000) (.same (.bool (di (s,l))))
theorem E3:∀a b,Be a=Be b->a=b:=by
  rintro⟨s1,dr⟩ ⟨s2,aa⟩ h;simp only[bf,Data.agg.injEq,Data.int.injEq,Data.Y.injEq] at h;exact ei h.1.1.2 (map_inj hp _ _ h.1.2.1)
@[go_sem] theorem aIz (s:Int)(l:List Int)(H:(D l)<=1000000):x4 [.agg [.int .i64 s,.Y (l.map ae)]]=some (.same (.bool (di (s,l)))):=(cF E3 (s,l)).trans (cY H _)
theorem ar3 (T:bm)  (s:Int) (l:List Int) (H:(D l)<=1000000):WP T Wi (.same (.bool (di (s,l)))) [.I (.agg [.int .i64 s,.Y (l.map ae)])]:=by
 refine cH ?_;simp only[Wi];refine a1 ?_;repeat' (intro h<;>simp only[h,go_sem,go_sem_proc,ah]<;>try refine al ?_ ?_)
 refine c9 [1,3,10,11] [136001] (λi tm mem=>0<=i/\i<=(D l:Int)/\l.all o3=(l.drop i.toNat).all o3/\tm 12=.I (.int .i64 i)) (λi=>(D l-i).toNat) 0 (by refine⟨by omega,by omega,by simp,by simp[go_sem]⟩) ?_;intro vs ms aK aF;simp only[go_sem,go_sem_proc,ah] at aK aF;subst aK aF;rintro i tm mem L hm ⟨tZ,U,aD,eG⟩;simp only[go_sem,go_sem_proc,bf] at L hm;obtain⟨G,af,dj,gy⟩:=L;rcases dk (i<D l) with av|b4
 ·obtain⟨x,M,ab,-⟩:=afM l i tZ av
  have jD:∀b,o3 x=true->b=(l.drop (i+1).toNat).all o3->l.all o3=b:=by
   intro b G J;rw[aD,ab,xW,G,J,fP]
  have x5:o3 x=false->di (s,l)=false:=by
   intro G;unfold di;rw[aD,ab,xW,G]
   rfl
  refine a1 ?_;repeat' (intro h<;>simp only[h,go_sem,go_sem_proc,G,af,dj,gy,eG,hm,M,av,tZ,ae,ah,aW,decide_true,bf]<;>try refine al ?_ ?_)
  ·rw[x5 (by simp only[o3, *,reduceIte,bT,cp,pR,wC,lA,wD,sU,fP,jB,fr,kE,beq_self_eq_true,bne])]
  ·exact⟨i+1,by omega,by omega,by omega,by refine jD _ ?_ rfl;simp only[o3, *,reduceIte,bT,cp,pR,wC,lA,wD,sU,fP,jB,fr,kE,beq_self_eq_true,bne],by rw[e7 _]⟩
  ·rw[x5 (by simp only[o3, *,reduceIte,bT,cp,pR,wC,lA,wD,sU,fP,jB,fr,kE,beq_self_eq_true,bne])]
 ·have he:l.drop i.toNat=[]:=mA (by omega);rw[he] at aD;have dO:l.all o3=true:=by rw[aD];rfl
  rcases zv l with rfl|⟨r,x,rfl⟩
  ·have ar4:¬ i<(0:Int):=by simpa using b4
   refine a1 ?_;repeat' (intro h<;>simp only[h,go_sem,go_sem_proc,G,af,dj,gy,eG,hm,ar4,decide_false,og,mC,m3,beq_self_eq_true]<;>try refine al ?_ ?_)
   simp[di]
  ·rw[zw] at *;have b5:(((r++[x]).length:Int)==0)=false:=by simp;omega
   have hw:IntKind.i64.wrap (((r++[x]).length:Int)-1)=(D r:Int):=by
    have bz:(r++[x]).length=D r+1:=by simp
    rw[e7 _];omega
   have bq:((r++[x]).map ae)[D r]?=some [.int .i64 x]:=by simp[ae]
   have X:di (s,r++[x])=((s==1||s == -1)&&decide (((r++[x]).length:Int)<=60)&&(x != 0)):=by
    unfold di;rw[dO];simp only[List.getLast?_append,List.getLast?_singleton];simp;have ay:decide (D r<=59)=decide ((D r:Int)+1<=60):=decide_eq_decide.2 (by omega);have aA:(some x != some (0:Int))=(x != 0):=by simp[bne]
    rw[ay,aA]
   rw[X];refine a1 ?_;repeat' (intro h<;>simp only[h,go_sem,go_sem_proc,G,af,dj,gy,eG,hm,b4,b5,hw,bq,decide_false,ah]<;>try refine al ?_ ?_)
   all_goals simp only[*,reduceIte,bT,cp,pR,wC,lA,wD,sU,fP,jB,fr,kE,beq_self_eq_true,bne]
def jM (s:Int)(l:List Int):Raw:=if (((gl l).length:Int)==0)=true then (0,[]) else (s,gl l)
abbrev P5:Int×(List Int)->List Data:=λ(s,l)=>[.int .i64 s,.Y (l.map ae)]
def CX:=cy P5 λ(s,l)=>cT (D l<=1000000) (.same (.agg (bU (jM s l))))
theorem agh:∀a b,P5 a=P5 b->a=b:=by
  rintro⟨s1,dr⟩ ⟨s2,aa⟩ h;simp only[bf,Data.int.injEq,Data.Y.injEq] at h;exact ei h.1.2 (map_inj hp _ _ h.2.1)
@[go_sem] theorem aIA (s:Int)(l:List Int)(H:(D l)<=1000000):CX [.int .i64 s,.Y (l.map ae)]=some (.same (.agg (bU (jM s l)))):=(cF agh (s,l)).trans (cY H _)
theorem ar5 (T:bm)(e3:T r5=A7 Bc wN)(s:Int)(l:List Int)(H:(D l)<=1000000):WP T Wr (.same (.agg (bU (jM s l)))) [.I (.int .i64 s),.I (.Y (l.map ae))]:=by
 refine cH ?_;simp only[Wr];refine a1 ?_;repeat' (intro h<;>simp only[h,go_sem,go_sem_proc,e3,H,ah]<;>try refine al ?_ ?_)
 all_goals simp only[jM,bU,b6, *,reduceIte,bT,cp,pR,wC,lA,wD,sU,fP,jB,fr,kE,beq_self_eq_true,bne]
theorem mD (l:List Int)(i:Nat)(h:i<D l):bs (l.take (i+1))=bs (l.take i)+1048576^i*l[i]:=by
 rw[g2,bB h,EM,fU,pK (by omega)];simp[bs]
theorem Bf {l:List Int}(h:fj l)(i:Nat):fj (l.take i):=λd ab=>h d (tM ab)
theorem agi {l:List Int}(i:Nat)(U:i<D l):fj (l.take (i+1))↔fj (l.take i)/\(0<=l[i]/\l[i]<1048576):=by
 rw[g2,bB U,EK];simp[EJ,fj]
theorem mE {l:List Int}(h:fj l)(i:Nat)(U:i<D l):0<=l[i]/\l[i]<1048576:=h _ (List.getElem_mem U)
theorem E4 (o:List Int)(i:Nat)(d:Int):(o.set i d).take i=o.take i:=by
 rw[List.take_set,List.set_eq_of_length_le];rw[fU];omega
theorem r7 (o:List Int):(aS ae o).length=D o:=by rw[lB hO];omega
theorem LU (o:List Int)(i:Nat)(h:i<D o):iu 1 (jn i (aS ae o))=[.I (.int .i64 o[i])]:=by
 have tO:=PF hO (bB h) (f:=0) (n:=1) (by omega);unfold cut at tO;have:=r7 o;rw[cD,l7,ad (by omega)] at tO
 simpa [ae] using tO
theorem zz (o:List Int)(i:Nat)(d:Int)(h:i<D o):iu i (aS ae o)++[.I (.int .i64 d)]++jn (i+1) (aS ae o)=aS ae (o.set i d):=by
 have:=Vc hO h d;unfold mz at this
 simpa [ae] using this
theorem H4 (n:Nat):(en n [R.I (.int .i64 0)]).flatten=aS ae (en n 0):=by
 induction n with
 |zero=>rfl
 |succ n aH=>rw[tN,tN,lZ,zr,aH];rfl
theorem H5 (n:Nat)(h:n<=1000000000):n<=maxLen:=eP h (by decide)
theorem agj (l:List Int):(gl l).length<=D l:=by
 induction l with
 |nil=>simp[gl]
 |cons d r aH=>unfold gl;split<;>(try split)<;>simp<;>omega
theorem ar6 (l:List Int):l.take (gl l).length=gl l:=by
 induction l with
 |nil=>simp[gl]
 |cons d r aH =>
  unfold gl
  split
  ·split<;>simp
  ·simp[aH]
theorem ar7 (l:List Int):∀n:Nat,(aS ae l).take n=aS ae (l.take n):=by
 induction l with
 |nil=>intro n;simp[aS]
 |cons d r aH=>intro n;cases n with
  |zero=>simp[aS]
  |succ n=>rw[zr,HE,zr,<-aH];rfl
theorem agk {mem:Mem}{k g n:Nat}{o:List Int}(hm:mem k=some (g,aS ae o))(aM:n<=D o):tS 1 mem (.ref k g 1 0 n)=some ((o.take n).map ae):=by
 unfold tS;dsimp only;rw[hm];simp only[and_self,if_true,cD];rw[r7,ad ⟨trivial,aM⟩,ar7];unfold aS;rw[EH _ λd=>rfl];have:=CL (sz:=1) ((o.take n).map ae) (by intro e he;rw[gE] at he;obtain⟨x,-,rfl⟩:=he;rfl);rw[ah,fU,pK aM] at this;simp only[l9,this]
theorem WW {mem:Mem}{k g:Nat}{o:List Int}{n:Nat}(hm:mem k=some (g,aS ae o))(ab:fj o)(aN:bs o=n):tS 1 mem (.ref k g 1 0 (gl o).length)=some ((aL n).map ae):=by
 rw[agk hm (agj o),ar6,Ba ab,aN]
 rfl
def cb (n:Nat):Data:=.Y ((aL n).map ae)
theorem agl {x y:Nat}(h:(aL x).length<(aL y).length):x<y:=by
 have G:=(g3 (n:=x) (k:=(aL x).length)).1 (cI _);have J:=mt (g3 (n:=y) (k:=(aL x).length)).2 (by omega);omega
theorem agm {a b:List Int}(a4:fj a)(ai:fj b)(az:(D a)=D b)(i:Nat)(U:i<D a)(ab:a.drop (i+1)=b.drop (i+1))(h:a[i]<b[i]):bs a<bs b:=by
 rw[Ls a (i+1),Ls b (i+1),ab,az,mD a i U,mD b i (by omega)];have G:=A9 (Bf a4 i);have J:=qv (Bf ai i);rw[fU,pK (by omega)] at G;generalize (1048576:Int)^i=p at *
 have af:p*a[i]+p<=p*b[i]:=by
  have:p*(a[i]+1)<=p*b[i]:=wO (by omega) (by have:=qv (Bf a4 i);omega);rw[jl,sY] at this;exact this
 omega
abbrev wP:Nat×Nat->List Data:=λ(x,y)=>[cb x,cb y]
def LV:=cy wP λ(x,y)=>cT ((aL x).length<=1000000/\(aL y).length<=1000000) (.same (.int .i64 (gx x y)))
theorem zA:∀a b,wP a=wP b->a=b:=by
  rintro⟨bb,nv⟩ ⟨b3,o4⟩ h;simp only[bf,cb,Data.Y.injEq] at h;exact ei (Lr (map_inj hp _ _ h.1)) (Lr (map_inj hp _ _ h.2.1))
@[go_sem] theorem WX (x:Nat)(y:Nat)(H:(aL x).length<=1000000/\(aL y).length<=1000000):LV [cb x,cb y]=some (.same (.int .i64 (gx x y))):=(cF zA (x,y)).trans (cY H _)
theorem ar8 (T:bm)(o5:T HT=aO P2)(x:Nat)(y:Nat)(H:(aL x).length<=1000000/\(aL y).length<=1000000):WP T Wx (.same (.int .i64 (gx x y))) [.I (cb x),.I (cb y)]:=by
 refine cH ?_;simp only[Wx];obtain⟨M,ao⟩:=H;have vd:=nQ x;have sZ:=nQ y;have x6:=m2 x;have E5:=m2 y;have afD:=@agl x y;have ns:=@agl y x
 by_cases az:(aL x).length=(aL y).length
 ·generalize a4:aL x=a at *;generalize ai:aL y=b at *;have P6:((D a:Int)==(D b:Int))=true:=by simp[az]
  simp only[go_sem,go_sem_proc,o5,cb,a4,ai,P6,ah];refine c9 [0,1] [] (λ(n:Nat) tm mem=>n<=D a/\a.drop n=b.drop n/\tm 5=.I (.int .i64 ((n:Int)-1))) (λn=>n) (D a) (by refine⟨cI _,by rw[Vh,az,Vh],?_⟩;simp only[dv,reduceIte];rw[e7 _]) ?_;intro vs ms aK aF;simp only[go_sem,go_sem_proc,o5,cb,a4,ai] at aK aF;subst aK aF;rintro n tm mem L-⟨aM,ab,bh⟩;simp only[go_sem,go_sem_proc,o5,bf] at L;obtain⟨aj,G⟩:=L;rcases n with _|n
  ·have e:a=b:=by simpa using ab
   have hf:(x:Int)=y:=by rw[<-x6,<-E5,e]
   simp only[go_sem,go_sem_proc,o5,aj,G,bh,mC,m3,show ¬ ((0:Int)-1>=0) by omega,decide_false]
   repeat' (first|refine al ?_ ?_|fail)<;>intro h<;>simp only[h,go_sem,go_sem_proc,o5,aj,G,bh,mC,m3,show ¬ ((0:Int)-1>=0) by omega,decide_false]
   rw[hf];simp[gx]
  ·have hw:((n+1:Nat):Int)-1=(n:Int):=by omega
   have nS:a[n]?=some a[n]:=bB (by omega);have ot:b[n]?=some b[n]:=bB (by omega)
   have X:gx a[n] b[n]=gx x y\/a[n]=b[n]:=by
    by_cases G:a[n]<b[n]
    ·left
     have:=agm vd sZ az n aM ab G;simp only[gx];rw[ad (by simpa using G),ad (by simp;omega)]
    ·by_cases J:b[n]<a[n]
     ·left
      have:=agm sZ vd az.symm n (by omega) ab.symm J;simp only[gx];rw[ag (by simp;omega),ad (by simp;omega),ag (by simp;omega),ad (by simp;omega)]
     ·right;omega
   by_cases a2:a[n]=b[n]
   ·simp only[go_sem,go_sem_proc,o5,aj,G,bh,hw,nS,ot,a2,ae,show (n:Int)>=0 by omega,decide_true,aW,beq_self_eq_true,bf]
    repeat' (first|refine al ?_ ?_|fail)<;>intro h<;>simp only[h,go_sem,go_sem_proc,o5,aj,G,bh,hw,nS,ot,a2,ae,show (n:Int)>=0 by omega,decide_true,aW,beq_self_eq_true,bf]
    exact⟨n,by omega,by omega,by rw[iC (by omega:n<D a),iC (by omega:n<D b),a2,ab],by rw[e7 _]⟩
   ·have m4:(a[n]==b[n])=false:=by simpa using a2
    simp only[go_sem,go_sem_proc,o5,aj,G,bh,hw,nS,ot,m4,ae,show (n:Int)>=0 by omega,decide_true,aW,bf]
    repeat' (first|refine al ?_ ?_|fail)<;>intro h<;>simp only[h,go_sem,go_sem_proc,o5,aj,G,bh,hw,nS,ot,m4,ae,show (n:Int)>=0 by omega,decide_true,aW,bf]
    rw[X.resolve_right a2]
 ·have P6:(((aL x).length:Int)==((aL y).length:Int))=false:=by simp;omega
  have X:gx (aL x).length (aL y).length=gx x y:=by
   simp only[gx];rcases hn (aL x).length (aL y).length with h|h
   ·have:=afD h;rw[ad (by simp;omega),ad (by simp;omega)]
   ·have:=ns (by omega);rw[ag (by simp;omega),ad (by simp;omega),ag (by simp;omega),ad (by simp;omega)]
  simp only[go_sem,go_sem_proc,o5,cb,P6,X,ah];repeat' (first|refine al ?_ ?_|fail)<;>intro h<;>simp only[h,go_sem,go_sem_proc,o5,cb,P6,X,ah]
theorem agn (p x7 wu tL c a b:Int)(h:x7+p*c=wu+tL):x7+p*((c+a+b)%1048576)+p*1048576*((c+a+b)/1048576)=wu+p*a+(tL+p*b):=by
 have G:=CY (c+a+b) 1048576
 have J:p*((c+a+b)%1048576)+p*1048576*((c+a+b)/1048576)=p*(c+a+b):=by
  rw[jm,<-jl,G]
 have af:p*(c+a+b)=p*c+p*a+p*b:=by rw[jl,jl]
 omega
def P7:=cy wP λ(x,y)=>cT ((aL x).length<=100000/\(aL y).length<=100000) (.own 1 ((aL (x+y)).map ae))
@[go_sem] theorem ago (x:Nat)(y:Nat)(H:(aL x).length<=100000/\(aL y).length<=100000):P7 [cb x,cb y]=some (.own 1 ((aL (x+y)).map ae)):=(cF zA (x,y)).trans (cY H _)
theorem ar9 (T:bm)(e3:T r5=A7 Bc wN)(x:Nat)(y:Nat)(H:(aL x).length<=100000/\(aL y).length<=100000):WP T Wv (.own 1 ((aL (x+y)).map ae)) [.I (cb x),.I (cb y)]:=by
 refine cH ?_;simp only[Wv];obtain⟨M,ao⟩:=H;simp only[go_sem,go_sem_proc,e3,cb,ah];refine arc (λst=>∃a b:List Int,fj a/\fj b/\D a<=100000/\D b<=D a/\bs a+bs b=x+y/\st.tm 0=.I (.Y (a.map ae))/\st.tm 1=.I (.Y (b.map ae))/\st.mem 172019=none) (λh=>?_) (λh=>?_) ?_
 ·simp only[go_sem,go_sem_proc,e3,cb];repeat' (first|refine al ?_ ?_|fail)<;>intro h<;>simp only[h,go_sem,go_sem_proc,e3,cb]
  refine⟨aL y,aL x,nQ y,nQ x,ao,?_,by rw[m2,m2];omega,rfl,rfl⟩
  simp at h;omega
 ·simp only[go_sem,go_sem_proc,e3,cb];repeat' (first|refine al ?_ ?_|fail)<;>intro h<;>simp only[h,go_sem,go_sem_proc,e3,cb]
  refine⟨aL x,aL y,nQ x,nQ y,M,?_,by rw[m2,m2],rfl,rfl⟩
  simp at h;omega
 rintro⟨tm,mem⟩ ⟨a,b,WY,ua,mb,ou,aN,aj,G,hm⟩;dsimp only at aj G hm;have o6:IntKind.i64.wrap ((D a:Int)+1)=((D a+1:Nat):Int):=by rw[e7 _];rfl
 have k5:8*(D a+1)<=140737488355328:=by omega
 have e1:(D a)+1<=maxLen:=H5 _ (by omega);simp only[go_sem,go_sem_proc,e3,aj,G,hm,o6,k5,e1,H4,ah]
 refine c9 [0,1,5,20,21] [] (λ(i,c,o) tm mem=>i<=D a/\(o:List Int).length=D a+1/\fj (o.take i)/\0<=c/\c<=1/\bs (o.take i)+1048576^i*c=bs (a.take i)+bs (b.take i)/\tm 22=.I (.int .i64 (i:Nat))/\tm 6=.I (.int .i64 c)/\mem 172019=some (0,aS ae o))
  (λ(i,_)=>D a-i) (0,0,en (D a+1) 0) (by refine⟨fA _,by simp,by simp[fj],by omega,by omega,by simp[bs],?_,?_,?_⟩<;>rfl) ?_
 intro vs ms aK aF;simp only[go_sem,go_sem_proc,e3,aj,G,ah] at aK aF;subst aK aF;rintro⟨i,c,o⟩ tm mem L-⟨U,bS,hq,iv,gv,kF,ub,bK,hm⟩;simp only[go_sem,go_sem_proc,e3,bf] at L;obtain⟨aj,G,bh,ve,H6⟩:=L;rcases dk (i<D a) with av|b4
 ·have nS:a[i]?=some a[i]:=bB av;have CI:=mE WY i av;have fQ:IntKind.i64.wrap ((i:Int)+1)=((i+1:Nat):Int):=by rw[e7 _];rfl
  have vf:i<D o:=by omega
  have iH:i+1<=(aS ae o).length:=by rw[r7];omega
  have ku:IntKind.i64.wrap (c+a[i])=c+a[i]:=wrap64 _ (by omega) (by omega);have hc:=λd=>zz o i d vf
  have fin:∀bi:Int,0<=bi->bi<1048576->bs (b.take (i+1))=bs (b.take i)+1048576^i*bi ->
    ∃bn:Nat×Int×List Int,D a-bn.1<D a-i/\bn.1<=D a/\bn.2.2.length=D a+1/\fj (bn.2.2.take bn.1)/\0<=bn.2.1/\bn.2.1<=1/\bs (bn.2.2.take bn.1)+1048576^bn.1*bn.2.1=bs (a.take bn.1)+bs (b.take bn.1) /\
     R.I (Data.int .i64 ((i+1:Nat):Int))=R.I (Data.int .i64 (bn.1:Int))/\R.I (Data.int .i64 ((c+a[i]+bi)/1048576))=R.I (Data.int .i64 bn.2.1)/\some (0,aS ae (o.set i ((c+a[i]+bi)%1048576)))=some (0,aS ae bn.2.2):=by
   intro bi uc k5 E6;refine⟨(i+1,(c+a[i]+bi)/1048576,o.set i ((c+a[i]+bi)%1048576)),by dsimp only;omega,by dsimp only;omega,by simp[bS],?_,by dsimp only;omega,by dsimp only;omega,?_,rfl,rfl,rfl⟩
   ·dsimp only;rw[agi _ (by simpa using vf),E4];refine⟨hq,?_⟩;simp only[Bg];omega
   ·dsimp only;rw[mD _ _ (by simpa using vf),E4,mD a i av,E6,om];simp only[Bg];exact agn _ _ _ _ _ _ _ kF
  rcases dk (i<D b) with s0|WZ
  ·have ot:b[i]?=some b[i]:=bB s0;have wQ:=mE ua i s0;have me:IntKind.i64.wrap (c+a[i]+b[i])=c+a[i]+b[i]:=wrap64 _ (by omega) (by omega);have jo:decide ((i:Int)<(D b:Int))=true:=c5;have kv:decide ((i:Int)<(D a:Int))=true:=c5;simp only[go_sem,go_sem_proc,e3,aj,G,bh,ve,H6,ub,bK,hm,nS,ot,fQ,ku,me,jo,kv,av,iH,hc,sX,pT,ae,cD,ah,aW,bf,show i<D a+1 by omega,show ¬ ((20:Int)<0) by omega]
   repeat' (first|refine al ?_ ?_|fail)<;>intro h<;>simp only[h,go_sem,go_sem_proc,e3,aj,G,bh,ve,H6,ub,bK,hm,nS,ot,fQ,ku,me,jo,kv,av,iH,hc,sX,pT,ae,cD,ah,aW,bf,show i<D a+1 by omega,show ¬ ((20:Int)<0) by omega]
   exact fin b[i] wQ.1 wQ.2 (mD b i s0)
  ·have jo:decide ((i:Int)<(D b:Int))=false:=cu;have kv:decide ((i:Int)<(D a:Int))=true:=c5;simp only[go_sem,go_sem_proc,e3,aj,G,bh,ve,H6,ub,bK,hm,nS,fQ,ku,jo,kv,av,iH,hc,sX,pT,ae,cD,ah,aW,bf,show i<D a+1 by omega,show ¬ ((20:Int)<0) by omega]
   repeat' (first|refine al ?_ ?_|fail)<;>intro h<;>simp only[h,go_sem,go_sem_proc,e3,aj,G,bh,ve,H6,ub,bK,hm,nS,fQ,ku,jo,kv,av,iH,hc,sX,pT,ae,cD,ah,aW,bf,show i<D a+1 by omega,show ¬ ((20:Int)<0) by omega]
   have:=fin 0 (by omega) (by omega) (by rw[dH (by omega),dH (by omega)];simp)
   simpa using this
 ·obtain rfl:i=D a:=by omega
  have kv:decide ((D a:Int)<(D a:Int))=false:=cu;have vf:(D a)<D o:=by omega
  have iH:(D a)+1<=(aS ae o).length:=by rw[r7];omega
  have hc:=λd=>zz o (D a) d vf
  have W0:fj (o.set (D a) c):=by
   have:o.set (D a) c=(o.set (D a) c).take (D a+1):=by rw[dH (by simp[bS])]
   rw[this,agi _ (by simpa using vf),E4];refine⟨hq,?_⟩;simp only[Bg];omega
  have W1:bs (o.set (D a) c)=x+y:=by
   have:o.set (D a) c=(o.set (D a) c).take (D a+1):=by rw[dH (by simp[bS])]
   rw[this,mD _ _ (by simpa using vf),E4];simp only[Bg];rw[kF,dH (cI _),dH ou,aN]
  have oj:=WT (o.set (D a) c) 172019 0 (a5 mem 172019 0 (aS ae (o.set (D a) c))) (by simp[a5]) (by simp[bS];omega);rw[kd,bS] at oj;have gi:=WW (mem:=a5 mem 172019 0 (aS ae (o.set (D a) c))) (k:=172019) (g:=0) (n:=x+y) (by simp[a5]) W0 (by rw[W1];rfl);simp only[go_sem,go_sem_proc,e3,aj,G,bh,ve,H6,ub,bK,hm,kv,iH,hc,oj,gi,cD,ah,show (D a)<D a+1 by omega]
  repeat' (first|refine al ?_ ?_|fail)<;>intro h<;>simp only[h,go_sem,go_sem_proc,e3,aj,G,bh,ve,H6,ub,bK,hm,kv,iH,hc,oj,gi,cD,ah,show (D a)<D a+1 by omega]
theorem agp (n:Int):bits .and .i64 (n/1048576) 1=n/1048576%2:=by
 generalize n/1048576=m;have J:(1:Int)=((2^1-1:Nat):Int):=by decide
 have G:m%18446744073709551616%2=m%2:=by omega
 obtain⟨a,a4⟩:∃a:Nat,(a:Int)=m%18446744073709551616:=⟨(m%18446744073709551616).toNat,by omega⟩
 have e:BitVec.ofInt 64 m=BitVec.ofNat 64 a:=by
  apply BitVec.eq_of_toInt_eq;rw[BitVec.toInt_ofInt,BitVec.toInt_ofNat',a4];simp[af3,af4]
 have aA:bits .and .i64 m 1=bits .and .i64 (a:Int) 1:=by
  simp only[bits];rw[show IntKind.i64.bits=64 from rfl,e,BitVec.ofInt_natCast]
 rw[aA,<-G,<-a4];have Vr:a<2^64:=by omega
 conv=>lhs;rw[J]
 simp only[bits,BitVec.ofInt_natCast,BitVec.toNat_and,BitVec.toNat_ofNat,show IntKind.i64.bits=64 from rfl,Lo Vr];rw[show (2^1-1:Nat)%2^64=2^1-1 by decide,af5,wrap64 _ (by omega) (by omega)]
 omega
theorem W2 (o:List Int)(j:Nat)(d:Int)(h:j<D o):bs (o.set j d)=bs o+1048576^j*(d-o[j]):=by
 induction o generalizing j with
 |nil=>simp at h
 |cons x r aH =>
  cases j with
  |zero=>simp[bs];omega
  |succ j =>
   simp only[List.set_cons_succ,u7,List.getElem_cons_succ,om];rw[aH j (by simpa using h),jl,<-jm,oo 1048576 (1048576^j)];omega
theorem Bh {o:List Int}(h:fj o)(j:Nat){d:Int}(ab:0<=d/\d<1048576):fj (o.set j d):=by
 intro x M;rcases List.mem_or_eq_of_mem_set M with G|G
 ·exact h x G
 ·rw[G];exact ab
theorem asa (p x7 wu tL c a b:Int)(h:x7=wu-tL+p*c):x7+p*((a-c-b)%1048576)=wu+p*a-(tL+p*b)-p*1048576*((a-c-b)/1048576):=by
 have G:=CY (a-c-b) 1048576
 have J:p*((a-c-b)%1048576)+p*1048576*((a-c-b)/1048576)=p*(a-c-b):=by
  rw[jm,<-jl,G]
 have af:p*(a-c-b)=p*a-p*c-p*b:=by rw[H7,H7]
 omega
def P8:=cy wP λ(x,y)=>cT ((aL x).length<=100000/\y<=x) (.own 1 ((aL (x-y)).map ae))
@[go_sem] theorem W3 (x:Nat)(y:Nat)(H:(aL x).length<=100000/\y<=x):P8 [cb x,cb y]=some (.own 1 ((aL (x-y)).map ae)):=(cF zA (x,y)).trans (cY H _)
theorem asb (T:bm)(fw:T wK=aO CW)(e3:T r5=A7 Bc wN)(x:Nat)(y:Nat)(H:(aL x).length<=100000/\y<=x):WP T Ww (.own 1 ((aL (x-y)).map ae)) [.I (cb x),.I (cb y)]:=by
 refine cH ?_;simp only[Ww];obtain⟨M,agq⟩:=H;have vd:=nQ x;have sZ:=nQ y;have x6:=m2 x;have E5:=m2 y
 have k7:(aL y).length<=(aL x).length:=by
  rw[g3];exact vg agq (g3.1 (cI _))
 generalize a4:aL x=a at *;generalize ai:aL y=b at *;have mb:(D a)<=1000000:=by omega
 simp only[go_sem,go_sem_proc,fw,e3,cb,a4,ai,mb,ah]
 refine c9 [1,5,12] [] (λ(i,c,o) tm mem=>i<=D a/\(o:List Int).length=D a/\fj o/\o.drop i=a.drop i/\(c=0\/c=1)/\bs (o.take i)=bs (a.take i)-bs (b.take i)+1048576^i*c/\tm 13=.I (.int .i64 (i:Nat))/\tm 6=.I (.int .i64 c)/\mem 173010=some (0,aS ae o))
  (λ(i,_)=>D a-i) (0,0,a) (by refine⟨fA _,rfl,vd,rfl,.inl rfl,by simp[bs],?_,?_,?_⟩<;>rfl) ?_
 intro vs ms aK aF;simp only[go_sem,go_sem_proc,fw,e3,cb,a4,ai,ah] at aK aF;subst aK aF;rintro⟨i,c,o⟩ tm mem L-⟨U,bS,hq,wR,asc,kF,iZ,bK,hm⟩;simp only[go_sem,go_sem_proc,fw,e3,bf] at L;obtain⟨G,bh,eG⟩:=L;rcases dk (i<D a) with av|b4
 ·have vf:i<D o:=by omega
  have LW:o[i]=a[i]:=by
   have G:=iC vf;have J:=iC av;rw[wR,J] at G;exact (x8 G).1.symm
  have CI:=mE vd i av;have fQ:IntKind.i64.wrap ((i:Int)+1)=((i+1:Nat):Int):=by rw[e7 _];rfl
  have iH:i+1<=(aS ae o).length:=by rw[r7];omega
  have hr:=LU o i vf;rw[LW] at hr;have ku:IntKind.i64.wrap (a[i]-c)=a[i]-c:=wrap64 _ (by omega) (by omega);have hc:=λd=>zz o i d vf
  have fin:∀bi:Int,0<=bi->bi<1048576->bs (b.take (i+1))=bs (b.take i)+1048576^i*bi ->
    ∃bn:Nat×Int×List Int,D a-bn.1<D a-i/\bn.1<=D a/\bn.2.2.length=D a/\fj bn.2.2/\bn.2.2.drop bn.1=a.drop bn.1/\(bn.2.1=0\/bn.2.1=1)/\bs (bn.2.2.take bn.1)=bs (a.take bn.1)-bs (b.take bn.1)+1048576^bn.1*bn.2.1 /\
     R.I (Data.int .i64 ((i+1:Nat):Int))=R.I (Data.int .i64 (bn.1:Int))/\R.I (Data.int .i64 ((a[i]-c-bi)/1048576%2))=R.I (Data.int .i64 bn.2.1)/\some (0,aS ae (o.set i ((a[i]-c-bi)%1048576)))=some (0,aS ae bn.2.2):=by
   intro bi uc k5 E6;have bF:(a[i]-c-bi)/1048576=0\/(a[i]-c-bi)/1048576 = -1:=by omega
   refine⟨(i+1,(a[i]-c-bi)/1048576%2,o.set i ((a[i]-c-bi)%1048576)),by dsimp only;omega,by dsimp only;omega,by simp[bS],Bh hq i (by omega),?_,by dsimp only;omega,?_,rfl,rfl,rfl⟩
   ·dsimp only;rw[u0 (by omega)];have G:=iC vf;have J:=iC av;rw[wR,J] at G;exact (x8 G).2.symm
   ·dsimp only;rw[mD _ _ (by simpa using vf),E4,mD a i av,E6,om];simp only[Bg];rw[asa _ _ _ _ _ _ _ kF];rcases bF with e|e<;>rw[e]<;>simp
  have kv:decide ((i:Int)<(D a:Int))=true:=c5;rcases dk (i<D b) with s0|WZ
  ·have ot:b[i]?=some b[i]:=bB s0;have wQ:=mE sZ i s0;have me:IntKind.i64.wrap (a[i]-c-b[i])=a[i]-c-b[i]:=wrap64 _ (by omega) (by omega);have jo:decide ((i:Int)<(D b:Int))=true:=c5;refine a1 ?_;repeat' (intro h<;>simp only[h,go_sem,go_sem_proc,fw,e3,G,bh,eG,iZ,bK,hm,ot,fQ,ku,me,jo,kv,av,iH,hr,hc,sX,agp,pT,ae,cD,ah,aW,bf,show ¬ ((20:Int)<0) by omega]<;>try refine al ?_ ?_)
   exact fin b[i] wQ.1 wQ.2 (mD b i s0)
  ·have jo:decide ((i:Int)<(D b:Int))=false:=cu;refine a1 ?_;repeat' (intro h<;>simp only[h,go_sem,go_sem_proc,fw,e3,G,bh,eG,iZ,bK,hm,fQ,ku,jo,kv,av,iH,hr,hc,sX,agp,pT,ae,cD,ah,aW,bf,show ¬ ((20:Int)<0) by omega]<;>try refine al ?_ ?_)
   have:=fin 0 (by omega) (by omega) (by rw[dH (by omega),dH (by omega)];simp)
   simpa using this
 ·obtain rfl:i=D a:=by omega
  have kv:decide ((D a:Int)<(D a:Int))=false:=cu;rw[dH (by omega),dH (by omega),dH (by omega),x6,E5] at kF
  have W1:bs o=((x-y:Nat):Int):=by
   have G:=A9 hq;rw[bS] at G;rcases asc with rfl|rfl
   ·rw[kF];omega
   ·omega
  have oj:=WT o 173010 0 mem hm (by omega);rw[bS] at oj;have gi:=WW hm hq W1;refine a1 ?_;repeat' (intro h<;>simp only[h,go_sem,go_sem_proc,fw,e3,G,bh,eG,iZ,bK,hm,kv,oj,gi,ah]<;>try refine al ?_ ?_)
theorem agr (p x7 V c x y Bi:Int)(h:x7+p*c=V):x7+p*((Bi+x*y+c)%1048576-Bi)+p*1048576*((Bi+x*y+c)/1048576)=V+p*(x*y):=by
 have G:=CY (Bi+x*y+c) 1048576
 have J:p*((Bi+x*y+c)%1048576)+p*1048576*((Bi+x*y+c)/1048576)=p*(Bi+x*y+c):=by
  rw[jm,<-jl,G]
 have af:p*(Bi+x*y+c)=p*Bi+p*(x*y)+p*c:=by rw[jl,jl]
 rw[H7];omega
theorem ags {o x y c:Int}(bS:0<=o/\o<1048576)(M:0<=x/\x<1048576)(ao:0<=y/\y<1048576)(H:0<=c/\c<1048576):
  0<=x*y/\x*y<=1099509530625/\0<=(o+x*y+c)/1048576/\(o+x*y+c)/1048576<1048576:=by
 have G:0<=x*y:=vh M.1 ao.1;have J:x*y<=1048575*1048575:=W4 (by omega) (by omega) ao.1 (by omega);omega
theorem agt {o:List Int}{n j:Nat}(h:o.drop n=en (D o-n) 0)(ax:n<=j)(av:j<D o):o[j]=0:=by
 have G:(o.drop n)[j-n]?=some o[j]:=by rw[rU,show n+(j-n)=j by omega,bB av]
 rw[h,List.getElem?_replicate] at G
 split at G
 ·exact (pL G).symm
 ·cases G
theorem agu {o:List Int}{n:Nat}{d:Int}(h:o.drop n=en (D o-n) 0)(av:n<D o):(o.set n d).drop (n+1)=en ((o.set n d).length-(n+1)) 0:=by
 rw[u0 (by omega),kd];have G:=iC av;rw[h,show (D o)-n=(D o-(n+1))+1 by omega,tN] at G
 exact (x8 G).2.symm
def P9:=cy wP λ(x,y)=>cT ((aL x).length<=10000/\(aL y).length<=10000) (.own 1 ((aL (x*y)).map ae))
@[go_sem] theorem W5 (x:Nat)(y:Nat)(H:(aL x).length<=10000/\(aL y).length<=10000):P9 [cb x,cb y]=some (.own 1 ((aL (x*y)).map ae)):=(cF zA (x,y)).trans (cY H _)
theorem asd (T:bm)(e3:T r5=A7 Bc wN)(x:Nat)(y:Nat)(H:(aL x).length<=10000/\(aL y).length<=10000):WP T Wu (.own 1 ((aL (x*y)).map ae)) [.I (cb x),.I (cb y)]:=by
 refine cH ?_;simp only[Wu];obtain⟨M,ao⟩:=H;have vd:=nQ x;have sZ:=nQ y;have x6:=m2 x;have E5:=m2 y;generalize a4:aL x=a at *;generalize ai:aL y=b at *;have o6:IntKind.i64.wrap ((D a:Int)+(D b:Int))=((D a+D b:Nat):Int):=by rw[e7 _];rfl
 have k5:8*(D a+D b)<=140737488355328:=by omega
 have e1:(D a)+D b<=maxLen:=H5 _ (by omega);simp only[go_sem,go_sem_proc,e3,cb,a4,ai,o6,k5,e1,H4,ah]
 refine c9 [1,5,18,19] [] (λ(i,o) tm mem=>i<=D a/\(o:List Int).length=D a+D b/\fj o/\o.drop (i+D b)=en (D o-(i+D b)) 0/\bs o=bs (a.take i)*y/\tm 20=.I (.int .i64 (i:Nat))/\mem 161017=some (0,aS ae o))
  (λ(i,_)=>D a-i) (0,en (D a+D b) 0) (by
   have a2:∀n,bs (en n 0)=0:=by
    intro n
    induction n with
    |zero=>rfl
    |succ n aH=>rw[tN,u7,aH];rfl
   refine⟨fA _,by simp,λd ab=>by rw[H8] at ab;omega,by simp,by rw[a2];simp[bs],?_,?_⟩<;>rfl) ?_
 intro vs ms aK aF;simp only[go_sem,go_sem_proc,e3,cb,a4,ai,o6,ah] at aK aF;subst aK aF;rintro⟨i,o⟩ tm mem L-⟨U,bS,hq,ud,kF,ve,hm⟩;simp only[go_sem,go_sem_proc,e3,bf] at L;obtain⟨G,bh,kL,x9⟩:=L;rcases dk (i<D a) with av|b4
 ·have nS:a[i]?=some a[i]:=bB av;have CI:=mE vd i av;have u2:=mD a i av;generalize a[i]=iI at *;have jo:decide ((i:Int)<(D a:Int))=true:=c5;simp only[go_sem,go_sem_proc,e3,G,bh,kL,x9,ve,nS,jo,ae,ah,aW,bf]
  refine c9 [1,5,6,7,18,19,20,25,26] [] (λ((k,c,o):Nat×Int×List Int) tm mem=>k<=D b/\D o=D a+D b/\fj o/\o.drop (i+D b)=en (D o-(i+D b)) 0/\0<=c/\c<1048576/\bs o+1048576^(i+k)*c=bs (a.take i)*y+1048576^i*(iI*bs (b.take k)) /\
    tm 27=.I (.int .i64 (k:Nat))/\tm 8=.I (.int .i64 c)/\mem 161017=some (0,aS ae o))
   (λ(k,_)=>D b-k) (0,0,o) (by refine⟨fA _,bS,hq,ud,by omega,by omega,by simp[bs,kF],?_,?_,hm⟩<;>rfl) ?_
  intro vs ms aK aF;simp only[go_sem,go_sem_proc,e3,G,bh,kL,x9,ve,ae,ah] at aK aF;subst aK aF;rintro⟨k,c,o⟩ tm mem L-⟨tR,bS,hq,ud,iv,gv,kF,agv,bP,hm⟩;simp only[go_sem,go_sem_proc,e3,bf] at L;obtain⟨G,bh,bK,bE,kL,x9,ve,agw,agx⟩:=L;rcases dk (k<D b) with LX|LX
  ·have ot:b[k]?=some b[k]:=bB LX;have H9:=mE sZ k LX;have ra:i+k<D o:=by omega
   have W6:=mE hq (i+k) ra;obtain⟨ef,bX,g4,gf⟩:=ags W6 CI H9 ⟨iv,gv⟩;have jo:decide ((k:Int)<(D b:Int))=true:=c5;have fQ:IntKind.i64.wrap ((k:Int)+1)=((k+1:Nat):Int):=by rw[e7 _];rfl
   have ku:IntKind.i64.wrap ((i:Int)+(k:Int))=((i+k:Nat):Int):=by rw[e7 _];rfl
   have me:IntKind.i64.wrap (iI*b[k])=iI*b[k]:=wrap64 _ (by omega) (by omega);have Bj:IntKind.i64.wrap (o[i+k]+iI*b[k])=o[i+k]+iI*b[k]:=wrap64 _ (by omega) (by omega);have wS:IntKind.i64.wrap (o[i+k]+iI*b[k]+c)=o[i+k]+iI*b[k]+c:=wrap64 _ (by omega) (by omega);have iH:i+k+1<=(aS ae o).length:=by rw[r7];omega
   have hr:=LU o (i+k) ra;have hc:=λd=>zz o (i+k) d ra;have l2:i+k<D a+D b:=by omega
   refine a1 ?_;repeat' (intro h<;>simp only[h,go_sem,go_sem_proc,e3,G,bh,bK,bE,kL,x9,ve,agw,agx,agv,bP,hm,ot,jo,fQ,ku,me,Bj,wS,l2,iH,hr,hc,sX,pT,ae,cD,ah,aW,bf,show ¬ ((20:Int)<0) by omega]<;>try refine al ?_ ?_)
   refine⟨(k+1,(o[i+k]+iI*b[k]+c)/1048576,o.set (i+k) ((o[i+k]+iI*b[k]+c)%1048576)),by dsimp only;omega,by dsimp only;omega,by simp[bS],Bh hq _ (by omega),?_,g4,gf,?_,rfl,rfl,rfl⟩
   ·dsimp only;rw[u0 (by omega),kd,ud]
   ·dsimp only;rw[W2 _ _ _ ra,mD b k LX,<-uU,om,agr _ _ _ _ _ _ _ kF];rw[jl (iI),jl (1048576^i),agy]
    have:(1048576:Int)^i*(iI*(1048576^k*b[k]))=1048576^i*1048576^k*(iI*b[k]):=by
     rw[<-jm (iI),oo (iI) (1048576^k),jm (1048576^k),<-jm]
    omega
  ·obtain rfl:k=D b:=by omega
   have jo:decide ((D b:Int)<(D b:Int))=false:=cu;have ra:i+D b<D o:=by omega
   have a2:=agt ud (cI _) ra;have fQ:IntKind.i64.wrap ((i:Int)+1)=((i+1:Nat):Int):=by rw[e7 _];rfl
   have ku:IntKind.i64.wrap ((i:Int)+(D b:Int))=((i+D b:Nat):Int):=by rw[e7 _];rfl
   have me:IntKind.i64.wrap (0+c)=c:=by rw[Ia];exact wrap64 _ (by omega) (by omega)
   have iH:i+D b+1<=(aS ae o).length:=by rw[r7];omega
   have hr:=LU o (i+D b) ra;rw[a2] at hr;have hc:=λd=>zz o (i+D b) d ra;have l2:i+D b<D a+D b:=by omega
   refine a1 ?_;repeat' (intro h<;>simp only[h,go_sem,go_sem_proc,e3,G,bh,bK,bE,kL,x9,ve,agw,agx,agv,bP,hm,jo,fQ,ku,me,l2,iH,hr,hc,ae,cD,ah]<;>try refine al ?_ ?_)
   refine⟨(i+1,o.set (i+D b) c),by dsimp only;omega,by dsimp only;omega,by simp[bS],Bh hq _ ⟨iv,gv⟩,?_,?_,rfl,rfl⟩
   ·dsimp only;have:=agu (d:=c) ud ra;rwa [show i+D b+1=i+1+(D b) by omega] at this
   ·dsimp only;rw[W2 _ _ _ ra,a2,u2];rw[dH (cI _),E5] at kF;rw[CZ,kF,vi,jm]
 ·obtain rfl:i=D a:=by omega
  have jo:decide ((D a:Int)<(D a:Int))=false:=cu;rw[dH (cI _),x6] at kF;have oj:=WT o 161017 0 mem hm (by omega);rw[bS] at oj;have gi:=WW hm hq (n:=x*y) (by rw[kF];rfl);refine a1 ?_;repeat' (intro h<;>simp only[h,go_sem,go_sem_proc,e3,G,bh,kL,x9,ve,hm,jo,oj,gi,ah]<;>try refine al ?_ ?_)
abbrev W7:Nat×Int->List Data:=λ(x,d)=>[cb x,.int .i64 d]
def W8:=cy W7 λ(x,d)=>cT ((aL x).length<=100000/\0<d/\d<1048576) (.same (.cB [cb (x/d.toNat),.int .i64 (x%d.toNat:Nat)]))
theorem ase:∀a b,W7 a=W7 b->a=b:=by
  rintro⟨bb,d1⟩ ⟨b3,d2⟩ h;simp only[bf,cb,Data.Y.injEq,Data.int.injEq] at h;exact ei (Lr (map_inj hp _ _ h.1)) h.2.1.2
@[go_sem] theorem agz (x:Nat)(d:Int)(H:(aL x).length<=100000/\0<d/\d<1048576):W8 [cb x,.int .i64 d]=some (.same (.cB [cb (x/d.toNat),.int .i64 (x%d.toNat:Nat)])):=(cF ase (x,d)).trans (cY H _)
theorem asf (T:bm)(e3:T r5=A7 Bc wN)(x:Nat)(d:Int)(H:(aL x).length<=100000/\0<d/\d<1048576):WP T Wy (.same (.cB [cb (x/d.toNat),.int .i64 (x%d.toNat:Nat)])) [.I (cb x),.I (.int .i64 d)]:=by
 refine cH ?_;simp only[Wy];obtain⟨M,ya,k8⟩:=H;have vd:=nQ x;have x6:=m2 x;generalize a4:aL x=a at *;have k5:8*D a<=140737488355328:=by omega
 have e1:(D a)<=maxLen:=H5 _ (by omega);have kM:(d=0)=False:=by simp;omega
 simp only[go_sem,go_sem_proc,e3,cb,a4,k5,e1,H4,ah]
 refine c9 [0,1,6] [] (λ((n,r,o):Nat×Int×List Int) tm mem=>n<=D a/\D o=D a/\fj o/\0<=r/\r<d/\bs (a.drop n)=d*bs (o.drop n)+r/\tm 8=.I (.int .i64 ((n:Nat)-1))/\tm 7=.I (.int .i64 r)/\mem 176011=some (0,aS ae o))
  (λ(n,_)=>n) (D a,0,en (D a) 0) (by
   refine⟨cI _,by simp,λd ab=>by rw[H8] at ab;omega,by omega,by omega,by simp[bs],?_,?_,?_⟩
   ·simp only[dv,reduceIte];rw[e7 _]
   ·rfl
   ·rfl) ?_
 intro vs ms aK aF;simp only[go_sem,go_sem_proc,e3,cb,a4,ah] at aK aF;subst aK aF;rintro⟨n,r,o⟩ tm mem L-⟨aM,bS,hq,iw,E7,aN,bP,bE,hm⟩;simp only[go_sem,go_sem_proc,e3,bf] at L;obtain⟨aj,G,bK⟩:=L;rcases n with _|n
 ·have bF:bs o=(x/d.toNat:Nat)/\r=(x%d.toNat:Nat):=by
   rw[nP,nP,x6] at aN;have e:(d.toNat:Int)=d:=by omega
   constructor
   ·rw[agA,e,aN,zB,agB _ _ (by omega),W9 iw E7];omega
   ·rw[agC,e,aN,zB,agD,Xa iw E7]
  have gQ:=P0 o (by omega);rw[Ba hq,bF.1] at gQ;have iW:R.ref 176011 0 1 0 (D a)=R.ref 176011 0 1 0 (D o):=by rw[bS]
  rw[iW] at bK;refine a1 ?_;repeat' (intro h<;>simp only[h,go_sem,go_sem_proc,e3,aj,G,bK,bE,bP,hm,gQ,k6 hO,mC,m3,show ¬ ((0:Int)-1>=0) by omega,decide_false,iY]<;>try refine al ?_ ?_)
  all_goals rw[bF.2]
 ·have nS:a[n]?=some a[n]:=bB (by omega);have Qa:=mE vd n (by omega);have hw:((n+1:Nat):Int)-1=(n:Int):=by omega
  have hE:n<D o:=by omega
  have fQ:IntKind.i64.wrap (r*2^min (EO 20) 64)=r*1048576:=by
   rw[show min (EO 20) 64=20 by decide]
   exact wrap64 _ (by omega) (by omega)
  have qA:bits .or .i64 (r*1048576) a[n]=r*1048576+a[n]:=Vs r a[n] iw (by omega) Qa;have nw:0<=(r*1048576+a[n])/d:=Xb (by omega) (by omega)
  have ue:(r*1048576+a[n])/d<1048576:=agE ya (by
   have:(r+1)*1048576<=d*1048576:=mg (by omega) (by omega);rw[oo 1048576 d];omega)
  have wT:(r*1048576+a[n]).tdiv d=(r*1048576+a[n])/d:=Ib (by omega);have Bk:(r*1048576+a[n]).tmod d=(r*1048576+a[n])%d:=LY (by omega);have ku:IntKind.i64.wrap ((r*1048576+a[n])/d)=(r*1048576+a[n])/d:=wrap64 _ (by omega) (by omega);have iH:n+1<=(aS ae o).length:=by rw[r7];omega
  have hc:=λd=>zz o n d hE;have pN:n<D a:=by omega
  have me:IntKind.i64.wrap ((n:Int)-1)=(n:Int)-1:=wrap64 _ (by omega) (by omega);refine a1 ?_;repeat' (intro h<;>simp only[h,go_sem,go_sem_proc,e3,aj,G,bK,bE,bP,hm,hw,nS,fQ,qA,wT,Bk,ku,me,kM,pN,iH,hc,show (n:Int)>=0 by omega,decide_true,ae,cD,ah,aW,bf,show ¬ ((20:Int)<0) by omega]<;>try refine al ?_ ?_)
  refine⟨(n,(r*1048576+a[n])%d,o.set n ((r*1048576+a[n])/d)),by dsimp only;omega,by dsimp only;omega,by simp[bS],Bh hq n ⟨nw,ue⟩,Xc _ (by omega),Xd _ ya,?_,rfl,rfl,rfl⟩
  dsimp only;rw[iC (by omega:n<D a),iC (by simpa using hE:n<(o.set n ((r*1048576+a[n])/d)).length),u7,u7]
  simp only[Bg];rw[u0 (by omega),aN];have:=CY (r*1048576+a[n]) d;rw[jl,jl,Xe d 1048576];omega
def pad:Nat->Nat->List Int
 |0,_=>[]
 |n+1,x=>((x%1048576:Nat):Int)::pad n (x/1048576)
theorem asg (n x:Nat):(pad n x).length=n:=by
 induction n generalizing x with
 |zero=>rfl
 |succ n aH=>simp[pad,aH]
theorem ash (n x:Nat):fj (pad n x):=by
 induction n generalizing x with
 |zero=>intro d ab;cases ab
 |succ n aH =>
  unfold pad;rw[EJ];exact⟨by omega,aH _⟩
theorem agF {l:List Int}(h:fj l):l=pad (D l) (bs l).toNat:=by
 induction l with
 |nil=>rfl
 |cons d r aH =>
  rw[EJ] at h;have G:=qv h.2;have J:=aH h.2;simp only[kB,pad,u7]
  congr 1
  ·omega
  ·rw[show (d+1048576*bs r).toNat/1048576=(bs r).toNat by omega]
   exact J
theorem asi {n x:Nat}(h:x<1048576^n):bs (pad n x)=x:=by
 induction n generalizing x with
 |zero=>simp at h;subst h;rfl
 |succ n aH =>
  unfold pad;rw[u7,aH (by rw[af2 (by omega)];rwa [wF] at h)];omega
theorem LZ {pre u post:List Int}{i:Nat}(h:i<D u):iu 1 (jn (D pre+i) (aS ae (pre++u++post)))=[.I (.int .i64 u[i])]:=by
 rw[LU _ _ (by simp;omega)]
 congr 3
 simp[List.getElem_append,h]
theorem agG {pre u post:List Int}{i:Nat}(h:i<D u)(d:Int):iu (D pre+i) (aS ae (pre++u++post))++[.I (.int .i64 d)]++jn (D pre+i+1) (aS ae (pre++u++post))=aS ae (pre++u.set i d++post):=by
 rw[zz _ _ _ (by simp;omega)]
 congr 1
 rw[hd,List.set_append_right _ _ (by omega),HJ,List.set_append_left _ _ h,hd]
theorem C0 (mem:Mem)(k g ea:Nat)(a b:List R):a5 (a5 mem k g a) k ea b=a5 mem k ea b:=by
 funext j
 unfold a5
 split<;>rfl
theorem asj {mem:Mem}{k g:Nat}{a:List R}(h:mem k=some (g,a)):a5 mem k g a=mem:=by
 funext j
 unfold a5
 split
 ·rename_i e;rw[e,h]
 ·rfl
structure L0 where
 pre:List Int
 u:List Int
 post:List Int
 V:Nat
 q:Int
 k:Key
 g:Nat
def Qb (u:List Int)(V:Nat)(q:Int):Int:=if bs u-q*V<0 then bs u-q*V+V else bs u-q*V
def C1 (u:List Int)(V:Nat)(q:Int):Int:=if bs u-q*V<0 then q-1 else q
def C2 (a:L0):List R:=aS ae (a.pre++pad (D a.u) (Qb a.u a.V a.q).toNat++a.post)
def Xf (a:L0)(mem:Mem):Prop:=mem a.k=some (a.g,aS ae (a.pre++a.u++a.post))/\fj a.u/\(aL a.V).length<=D a.u/\0<=a.q/\a.q<1048576/\0<=bs a.u-a.q*a.V+a.V/\D a.pre+D a.u<=100000
def L1:List R->Mem->Option (R×Mem):=HL (λ(a:L0) args mem=>args=[.ref a.k a.g 1 (D a.pre) (D a.u),.I (cb a.V),.I (.int .i64 a.q)]/\Xf a mem)
 (λa mem=>(.I (.int .i64 (C1 a.u a.V a.q)),a5 mem a.k a.g (C2 a)))
theorem asl {a b:Nat}(h:cb a=cb b):a=b:=Lr (map_inj hp _ _ (by simpa [cb] using h))
theorem asm (a:L0)(mem:Mem)(h:Xf a mem):L1 [.ref a.k a.g 1 (D a.pre) (D a.u),.I (cb a.V),.I (.int .i64 a.q)] mem=some (.I (.int .i64 (C1 a.u a.V a.q)),a5 mem a.k a.g (C2 a)):=by
 unfold L1;refine afX (a:=a) ?_ ⟨rfl,h⟩;rintro a b args mem ⟨G,J,_⟩ ⟨af,aP,_⟩;rw[G] at af;simp only[bf,R.ref.injEq,R.I.injEq,Data.int.injEq,true_and,and_true] at af;obtain⟨⟨LS,P1,Qc,agH⟩,agI,eq⟩:=af;have agJ:=asl agI;clear agI;obtain⟨pre,u,post,V,q,k,g⟩:=a;obtain⟨aIB,aIC,aID,aIE,vj,k',ea⟩:=b;simp only at LS P1 Qc agH agJ eq J aP;subst LS P1 agJ eq;rw[aP] at J;simp only[cO,fJ,true_and] at J;have e:=WS hO hp _ _ J (by omega);rw[hd,hd] at e;obtain⟨ay,aA⟩:=H0 e Qc.symm;obtain⟨bQ,bL⟩:=H0 aA agH.symm;subst ay bQ bL
 rfl
theorem asn (p x7 wu tL c a b q:Int)(h:x7=wu-q*tL+p*c):x7+p*((a-c-q*b)%1048576)=wu+p*a-q*(tL+p*b)+p*1048576*(-((a-c-q*b)/1048576)):=by
 have G:=CY (a-c-q*b) 1048576
 have J:p*((a-c-q*b)%1048576)+p*1048576*((a-c-q*b)/1048576)=p*(a-c-q*b):=by
  rw[jm,<-jl,G]
 have af:p*(a-c-q*b)=p*a-p*c-p*(q*b):=by rw[H7,H7]
 have aP:q*(tL+p*b)=q*tL+p*(q*b):=by rw[jl,Xe]
 rw[Ic];omega
theorem agK {a c q b:Int}(a4:0<=a/\a<1048576)(H:0<=c/\c<=1048576)(bF:0<=q/\q<1048576)(ai:0<=b/\b<1048576):
  0<=q*b/\q*b<=1099509530625/\0 <= -((a-c-q*b)/1048576) /\ -((a-c-q*b)/1048576)<=1048576:=by
 have G:0<=q*b:=vh bF.1 ai.1;have J:q*b<=1048575*1048575:=W4 (by omega) (by omega) ai.1 (by omega);omega
theorem aso (T:bm)(a:L0)(eh:Mem)(H:Xf a eh):
  wp T PZ.body (HK PZ.res (.I (.int .i64 (C1 a.u a.V a.q))) (a5 eh a.k a.g (C2 a))) ⟨l1 [.ref a.k a.g 1 (D a.pre) (D a.u),.I (cb a.V),.I (.int .i64 a.q)],eh⟩:=by
 obtain⟨pre,u,post,V,q,k,g⟩:=a;obtain⟨qY,wU,UC,nw,ue,jN,hlen⟩:=H;simp only at qY wU UC nw ue jN hlen ⊢;have o7:=nQ V;have Lc:=m2 V;have Xg:=g3.1 UC;refine tQ ?_;simp only[PZ];simp only[go_sem,go_sem_proc,cb];generalize ai:aL V=v at *
 refine c9 [0,1,2,13] [] (λ((i,c,w):Nat×Int×List Int) tm mem=>i<=D u/\D w=D u/\fj w/\w.drop i=u.drop i/\(0<=c/\c<=1048576)/\bs (w.take i)=bs (u.take i)-q*bs (v.take i)+1048576^i*c/\tm 14=.I (.int .i64 (i:Nat))/\tm 7=.I (.int .i64 c)/\mem=a5 eh k g (aS ae (pre++w++post)))
  (λ(i,_)=>D u-i) (0,0,u) (by refine⟨fA _,rfl,wU,rfl,by omega,by simp[bs],rfl,rfl,(asj qY).symm⟩) ?_
 intro vs ms aK aF;simp only[go_sem,go_sem_proc] at aK aF;subst aK aF;rintro⟨i,c,w⟩ tm _ L-⟨U,hw,s3,wR,H,kF,yb,bE,rfl⟩;simp only[go_sem,go_sem_proc,bf] at L;obtain⟨aj,G,J,iZ⟩:=L;rcases dk (i<D u) with av|b4
 ·have zC:i<D w:=by omega
  have asp:w[i]=u[i]:=by
   have G:=iC zC;rw[wR,iC av] at G;exact (x8 G).1.symm
  have C3:w.drop (i+1)=u.drop (i+1):=by
   have G:=iC zC;rw[wR,iC av] at G;exact (x8 G).2.symm
  have hr:=LZ (pre:=pre) (post:=post) zC;rw[asp] at hr;have agL:=mE wU i av;have u2:=mD u i av;generalize u[i]=wV at *;have fQ:IntKind.i64.wrap ((i:Int)+1)=((i+1:Nat):Int):=by rw[e7 _];rfl
  have ku:IntKind.i64.wrap (wV-c)=wV-c:=wrap64 _ (by omega) (by omega);have iH:(D pre)+i+1<=(aS ae (pre++w++post)).length:=by rw[r7];simp;omega
  have hc:=λd=>agG (pre:=pre) (post:=post) zC d;have kv:decide ((i:Int)<(D u:Int))=true:=c5
  have fin:∀bi:Int,0<=bi->bi<1048576->bs (v.take (i+1))=bs (v.take i)+1048576^i*bi ->
    ∃bn:Nat×Int×List Int,D u-bn.1<D u-i/\bn.1<=D u/\bn.2.2.length=D u/\fj bn.2.2/\bn.2.2.drop bn.1=u.drop bn.1/\(0<=bn.2.1/\bn.2.1<=1048576)/\bs (bn.2.2.take bn.1)=bs (u.take bn.1)-q*bs (v.take bn.1)+1048576^bn.1*bn.2.1 /\
     R.I (Data.int .i64 ((i+1:Nat):Int))=R.I (Data.int .i64 (bn.1:Int))/\R.I (Data.int .i64 (-((wV-c-q*bi)/1048576)))=R.I (Data.int .i64 bn.2.1)/\a5 eh k g (aS ae (pre++w.set i ((wV-c-q*bi)%1048576)++post))=a5 eh k g (aS ae (pre++bn.2.2++post)):=by
   intro bi uc k5 E6;obtain⟨ef,bX,g4,gf⟩:=agK agL H ⟨nw,ue⟩ ⟨uc,k5⟩;refine⟨(i+1,-((wV-c-q*bi)/1048576),w.set i ((wV-c-q*bi)%1048576)),by dsimp only;omega,by dsimp only;omega,by simp[hw],Bh s3 i (by omega),?_,⟨g4,gf⟩,?_,rfl,rfl,rfl⟩
   ·dsimp only;rw[u0 (by omega),C3]
   ·dsimp only;rw[mD _ _ (by simpa using zC),E4,u2,E6,om];simp only[Bg];exact asn _ _ _ _ _ _ _ _ kF
  rcases dk (i<D v) with s0|WZ
  ·have ot:v[i]?=some v[i]:=bB s0;have wQ:=mE o7 i s0;have Xh:=mD v i s0;generalize v[i]=bi at *;obtain⟨ef,bX,g4,gf⟩:=agK agL H ⟨nw,ue⟩ wQ;have me:IntKind.i64.wrap (q*bi)=q*bi:=wrap64 _ (by omega) (by omega);have Bj:IntKind.i64.wrap (wV-c-q*bi)=wV-c-q*bi:=wrap64 _ (by omega) (by omega);have wS:IntKind.i64.wrap (0-(wV-c-q*bi)/1048576) = -((wV-c-q*bi)/1048576):=by rw[e7 _];omega
   have jo:decide ((i:Int)<(D v:Int))=true:=c5;simp only[go_sem,go_sem_proc,aj,G,J,iZ,yb,bE,ot,fQ,ku,me,Bj,wS,jo,kv,av,iH,hr,hc,C0,sX,pT,ae,cD,ah,aW,bf,show ¬ ((20:Int)<0) by omega]
   repeat' (first|refine al ?_ ?_|fail)<;>intro h<;>simp only[h,go_sem,go_sem_proc,aj,G,J,iZ,yb,bE,ot,fQ,ku,me,Bj,wS,jo,kv,av,iH,hr,hc,C0,sX,pT,ae,cD,ah,aW,bf,show ¬ ((20:Int)<0) by omega]
   exact fin bi wQ.1 wQ.2 Xh
  ·have jo:decide ((i:Int)<(D v:Int))=false:=cu;have wS:IntKind.i64.wrap (0-(wV-c)/1048576) = -((wV-c)/1048576):=by rw[e7 _];omega
   simp only[go_sem,go_sem_proc,aj,G,J,iZ,yb,bE,fQ,ku,wS,jo,kv,av,iH,hr,hc,C0,sX,pT,ae,cD,ah,aW,bf,show ¬ ((20:Int)<0) by omega]
   repeat' (first|refine al ?_ ?_|fail)<;>intro h<;>simp only[h,go_sem,go_sem_proc,aj,G,J,iZ,yb,bE,fQ,ku,wS,jo,kv,av,iH,hr,hc,C0,sX,pT,ae,cD,ah,aW,bf,show ¬ ((20:Int)<0) by omega]
   have:=fin 0 (by omega) (by omega) (by rw[dH (by omega),dH (by omega)];simp);simp only[vk,CZ] at this;exact this
 ·obtain rfl:i=D u:=by omega
  have kv:decide ((D u:Int)<(D u:Int))=false:=cu;rw[dH (by omega),dH (by omega),dH (by omega),Lc] at kF;have asq:=A9 s3;have aIF:=qv s3;rw[hw] at asq
  have aIG:(V:Int)<1048576^(D u):=by
   have h:=Int.ofNat_lt.2 Xg;rw[E8] at h;exact h
  by_cases iv:c=0
  ·subst iv;have Xi:bs u-q*V=bs w:=by omega
   have ay:C1 u V q=q:=by unfold C1;rw[ag (by omega)]
   have aA:C2 ⟨pre,u,post,V,q,k,g⟩=aS ae (pre++w++post):=by
    unfold C2 Qb;simp only;rw[ag (by omega),Xi,<-hw,<-agF s3]
   simp only[go_sem,go_sem_proc,aj,G,J,iZ,yb,bE,kv,ay,aA,beq_self_eq_true];repeat' (first|refine al ?_ ?_|fail)<;>intro h<;>simp only[h,go_sem,go_sem_proc,aj,G,J,iZ,yb,bE,kv,ay,aA,beq_self_eq_true]
  ·have E9:(c==0)=false:=by simpa using iv
   have yc:(1048576:Int)^(D u)<=1048576^(D u)*c:=by
    have:(1048576:Int)^(D u)*1<=1048576^(D u)*c:=wO (by omega) (by omega);omega
   have lD:bs u-q*V<0:=by omega
   have Qd:IntKind.i64.wrap (q-1)=q-1:=wrap64 _ (by omega) (by omega);simp only[go_sem,go_sem_proc,aj,G,J,iZ,yb,bE,kv,E9]
   refine c9 [0,1,2,48] [] (λ((i,d,z):Nat×Int×List Int) tm mem=>i<=D u/\D z=D u/\fj z/\z.drop i=w.drop i/\(0<=d/\d<=1)/\bs (z.take i)+1048576^i*d=bs (w.take i)+bs (v.take i)/\tm 49=.I (.int .i64 (i:Nat))/\tm 10=.I (.int .i64 d)/\mem=a5 eh k g (aS ae (pre++z++post)))
    (λ(i,_)=>D u-i) (0,0,w) (by refine⟨fA _,hw,s3,rfl,by omega,by simp[bs],rfl,rfl,rfl⟩) ?_
   intro vs ms aK aF;simp only[go_sem,go_sem_proc,aj,G,J] at aK aF;subst aK aF;rintro⟨i,d,z⟩ tm _ L-⟨U,a2,yd,wR,ab,agM,Ie,dj,rfl⟩;simp only[go_sem,go_sem_proc,bf] at L;obtain⟨aj,G,J,Ig⟩:=L;rcases dk (i<D u) with av|b4
   ·have L2:i<D z:=by omega
    have zC:i<D w:=by omega
    have asr:z[i]=w[i]:=by
     have G:=iC L2;rw[wR,iC zC] at G;exact (x8 G).1.symm
    have ass:z.drop (i+1)=w.drop (i+1):=by
     have G:=iC L2;rw[wR,iC zC] at G;exact (x8 G).2.symm
    have hr:=LZ (pre:=pre) (post:=post) L2;rw[asr] at hr;have C4:=mE s3 i zC;have u2:=mD w i zC;generalize w[i]=C5 at *;have fQ:IntKind.i64.wrap ((i:Int)+1)=((i+1:Nat):Int):=by rw[e7 _];rfl
    have ku:IntKind.i64.wrap (d+C5)=d+C5:=wrap64 _ (by omega) (by omega);have iH:(D pre)+i+1<=(aS ae (pre++z++post)).length:=by rw[r7];simp;omega
    have hc:=λd=>agG (pre:=pre) (post:=post) L2 d;have kv:decide ((i:Int)<(D u:Int))=true:=c5
    have fin:∀bi:Int,0<=bi->bi<1048576->bs (v.take (i+1))=bs (v.take i)+1048576^i*bi ->
      ∃bn:Nat×Int×List Int,D u-bn.1<D u-i/\bn.1<=D u/\bn.2.2.length=D u/\fj bn.2.2/\bn.2.2.drop bn.1=w.drop bn.1/\(0<=bn.2.1/\bn.2.1<=1)/\bs (bn.2.2.take bn.1)+1048576^bn.1*bn.2.1=bs (w.take bn.1)+bs (v.take bn.1) /\
       R.I (Data.int .i64 ((i+1:Nat):Int))=R.I (Data.int .i64 (bn.1:Int))/\R.I (Data.int .i64 ((d+C5+bi)/1048576))=R.I (Data.int .i64 bn.2.1)/\a5 eh k g (aS ae (pre++z.set i ((d+C5+bi)%1048576)++post))=a5 eh k g (aS ae (pre++bn.2.2++post)):=by
     intro bi uc k5 E6;refine⟨(i+1,(d+C5+bi)/1048576,z.set i ((d+C5+bi)%1048576)),by dsimp only;omega,by dsimp only;omega,by simp[a2],Bh yd i (by omega),?_,by dsimp only;omega,?_,rfl,rfl,rfl⟩
     ·dsimp only;rw[u0 (by omega),ass]
     ·dsimp only;rw[mD _ _ (by simpa using L2),E4,u2,E6,om];simp only[Bg];exact agn _ _ _ _ _ _ _ agM
    rcases dk (i<D v) with s0|WZ
    ·have ot:v[i]?=some v[i]:=bB s0;have wQ:=mE o7 i s0;have Xh:=mD v i s0;generalize v[i]=bi at *;have me:IntKind.i64.wrap (d+C5+bi)=d+C5+bi:=wrap64 _ (by omega) (by omega);have jo:decide ((i:Int)<(D v:Int))=true:=c5;simp only[go_sem,go_sem_proc,aj,G,J,Ig,Ie,dj,ot,fQ,ku,me,jo,kv,av,iH,hr,hc,C0,sX,pT,ae,cD,ah,aW,bf,show ¬ ((20:Int)<0) by omega]
     repeat' (first|refine al ?_ ?_|fail)<;>intro h<;>simp only[h,go_sem,go_sem_proc,aj,G,J,Ig,Ie,dj,ot,fQ,ku,me,jo,kv,av,iH,hr,hc,C0,sX,pT,ae,cD,ah,aW,bf,show ¬ ((20:Int)<0) by omega]
     exact fin bi wQ.1 wQ.2 Xh
    ·have jo:decide ((i:Int)<(D v:Int))=false:=cu;simp only[go_sem,go_sem_proc,aj,G,J,Ig,Ie,dj,fQ,ku,jo,kv,av,iH,hr,hc,C0,sX,pT,ae,cD,ah,aW,bf,show ¬ ((20:Int)<0) by omega]
     repeat' (first|refine al ?_ ?_|fail)<;>intro h<;>simp only[h,go_sem,go_sem_proc,aj,G,J,Ig,Ie,dj,fQ,ku,jo,kv,av,iH,hr,hc,C0,sX,pT,ae,cD,ah,aW,bf,show ¬ ((20:Int)<0) by omega]
     have:=fin 0 (by omega) (by omega) (by rw[dH (by omega),dH (by omega)];simp);simp only[k9] at this;exact this
   ·obtain rfl:i=D u:=by omega
    have kv:decide ((D u:Int)<(D u:Int))=false:=cu;rw[dH (by omega),dH (by omega),dH (by omega),Lc] at agM;have ast:=A9 yd;have aIH:=qv yd;rw[a2] at ast
    have Xi:bs u-q*V+V=bs z:=by
     have e:bs u-q*V+V-bs z=1048576^(D u)*(d-c):=by rw[H7];omega
     generalize (1048576:Int)^(D u)=p at *;rcases vl (d-c) 0 with h|h|h
     ·have:p*(d-c)<=p*(-1):=wO (by omega) (by omega);omega
     ·rw[h,vk] at e;omega
     ·have:p*1<=p*(d-c):=wO (by omega) (by omega);omega
    have ay:C1 u V q=q-1:=by unfold C1;rw[ad lD]
    have aA:C2 ⟨pre,u,post,V,q,k,g⟩=aS ae (pre++z++post):=by
     unfold C2 Qb;simp only;rw[ad lD,Xi,<-a2,<-agF yd]
    simp only[go_sem,go_sem_proc,aj,G,J,Ig,Ie,dj,kv,ay,aA,Qd];repeat' (first|refine al ?_ ?_|fail)<;>intro h<;>simp only[h,go_sem,go_sem_proc,aj,G,J,Ig,Ie,dj,kv,ay,aA,Qd]
theorem asu {T V P zD Ih v1 v2 top im q r:Int}(q7:V=(v1*1048576+v2)*P+zD)(dy:T=(top*1048576+im)*P+Ih)(fs:0<P)(agN:0<=zD)(Qe:Ih<P)(nw:0<=q)(asv:0<=V)
  (Xj:T<1048576*V) (Fa:q*v1+r=top) (H:q>=1048576\/q*v2>r*1048576+im):T<q*V:=by
 rcases H with h|h
 ·have:=mg h asv;omega
 ·have G:(top*1048576+im+1)*P<=(q*(v1*1048576+v2))*P:=by
   refine mg ?_ (by omega);rw[jl,<-jm];have:q*v1*1048576=(top-r)*1048576:=by rw[<-Fa];congr 1;omega
   omega
  have J:q*V=(q*(v1*1048576+v2))*P+q*zD:=by rw[q7,jl,<-jm]
  have af:0<=q*zD:=vh nw agN;rw[vi _ 1,o8] at G;omega
theorem agO {T V P zD Ih v1 v2 top im q r:Int}(q7:V=(v1*1048576+v2)*P+zD)(dy:T=(top*1048576+im)*P+Ih)(fs:0<P)(agN:0<=zD/\zD<P)(Qe:0<=Ih)(nw:0<=q)(ue:q<1048576)(wv:524288<=v1)(rV:0<=v2/\v2<1048576)(aeN:0<=im)
  (Fa:q*v1+r=top) (H:r>=1048576\/q*v2<=r*1048576+im):0<=T-q*V+V:=by
 have J:q*V=(q*(v1*1048576+v2))*P+q*zD:=by rw[q7,jl,<-jm]
 have af:q*zD<=q*P:=wO (by omega) nw;have aP:q*P<=1048576*P:=mg (by omega) (by omega);have bh:1048576*P<=(v1*1048576+v2)*P:=mg (by omega) (by omega);have e:q*v1*1048576=(top-r)*1048576:=by rw[<-Fa];congr 1;omega
 rcases H with h|h
 ·have bK:q*v2+q<=1048576*1048576:=by
   have bE:q*(v2+1)<=1048576*1048576:=W4 (by omega) (by omega) (by omega) (by omega);rw[jl,sY] at bE;exact bE
  have bP:(q*(v1*1048576+v2)+q)*P<=(top*1048576+im)*P:=by
   refine mg ?_ (by omega);rw[jl,<-jm];omega
  rw[vi _ q] at bP;omega
 ·have bP:(q*(v1*1048576+v2))*P<=(top*1048576+im)*P:=by
   refine mg ?_ (by omega);rw[jl,<-jm];omega
  omega
theorem asw {T V q:Int}(q7:0<V)(G:T<(q+1)*V)(J:0<=T-q*V+V):(if T-q*V<0 then q-1 else q)=T/V/\(if T-q*V<0 then T-q*V+V else T-q*V)=T%V:=by
 have af:(q+1)*V=q*V+V:=by rw[vi,o8]
 have aP:(q-1)*V=q*V-V:=by rw[agP,o8]
 have key:∀d r:Int,T=d*V+r->0<=r->r<V->d=T/V/\r=T%V:=by
  intro d r h aj bh
  constructor
  ·rw[h,zB,Int.add_mul_ediv_right _ _ (by omega),W9 aj bh];omega
  ·rw[h,zB,Int.add_mul_emod_self_right,Xa aj bh]
 split
 ·exact key (q-1) _ (by omega) (by omega) (by omega)
 ·exact key q _ (by omega) (by omega) (by omega)
theorem agQ {v:List Int}{N:Nat}(h:(D v)=N+2):bs v=(v[N+1]*1048576+v[N])*1048576^N+bs (v.take N):=by
 have e:v=v.take (N+1+1):=by rw[dH (by omega)]
 conv=>lhs;rw[e]
 rw[mD v (N+1) (by omega),mD v N (by omega),om,vi,oo (v[N]),C6 (v[N+1]),oo (v[N+1])];have:(1048576:Int)^N*1048576*v[N+1]=1048576^N*v[N+1]*1048576:=by rw[C6]
 omega
theorem asx {v:List Int}{N:Nat}(h:(D v)=N+3):bs v=((v[N+2]*1048576+v[N+1])*1048576+v[N])*1048576^N+bs (v.take N):=by
 have e:v=v.take (N+1+1+1):=by rw[dH (by omega)]
 conv=>lhs;rw[e]
 rw[mD v (N+1+1) (by omega),mD v (N+1) (by omega),mD v N (by omega)];simp only[om];generalize (1048576:Int)^N=p;rw[vi,vi,vi,C6 (v[N+2]*1048576),C6 (v[N+2]),oo (v[N+2]),C6 (v[N+1]),oo (v[N+1]),oo (v[N])];have G:p*1048576*v[N+1]=p*v[N+1]*1048576:=by rw[C6]
 have J:p*1048576*1048576*v[N+1+1]=p*v[N+2]*1048576*1048576:=by rw[C6,C6 p]
 omega
theorem asy {u:List Int}{i n:Nat}{V:Int}(ab:fj u)(az:i+n+1<=D u)(iF:bs (u.drop (i+1))<V)(q7:V<1048576^n):
  ∃pre gJ post,u=pre++gJ++post/\D pre=i/\D gJ=n+1/\fj pre/\fj gJ/\fj post/\bs post=0/\∃eQ,gJ[0]?=some eQ/\u.take (i+1)=pre++[eQ]/\bs gJ=eQ+1048576*bs (u.drop (i+1))/\0<=bs (u.drop (i+1))/\0<=eQ/\eQ<1048576:=by
 have e:u=u.take i++(u.drop i).take (n+1)++u.drop (i+n+1):=by
  rw[hd,uU,<-Hz,CK,CK]
 have agR:=e ▸ ab;rw[EK,EK] at agR;obtain⟨⟨d1,d2⟩,d3⟩:=agR;have av:i<D u:=by omega
 have wR:=iC av;have L3:((u.drop i).take (n+1)).length=n+1:=by simp;omega
 have agS:bs (u.drop (i+1))=bs ((u.drop (i+1)).take n)+1048576^n*bs (u.drop (i+n+1)):=by
  have:=Ls (u.drop (i+1)) n;rw[oi,pK (by omega),Hz] at this;rw[this]
  congr 3
  rw[show i+1+n=i+n+1 by omega]
 have aC:=qv d3;have cm:0<=bs ((u.drop (i+1)).take n):=qv (λx M=>ab x (L4 (tM M)))
 have iJ:bs (u.drop (i+n+1))=0:=by
  rcases dk (0<bs (u.drop (i+n+1))) with h|h
  ·have:(1048576:Int)^n*1<=1048576^n*bs (u.drop (i+n+1)):=wO (by omega) (Int.pow_nonneg (by omega));omega
  ·omega
 refine⟨_,_,_,e,by simp;omega,L3,d1,d2,d3,iJ,u[i],?_,?_,?_,?_,(mE ab i av).1,(mE ab i av).2⟩
 ·rw[q4 (by omega),rU];simp[av]
 ·rw[g2,bB av];rfl
 ·rw[wR,HE,u7,agS,iJ];simp
 ·rw[agS,iJ];simpa using cm
theorem asz (l:List Int)(h:(D l)<=1000000):lr 157054 0 1 (D l) 8 1 [.I (.int .i64 0)] (some (0,((l.map ae).flatten.map R.I)))=some (.ref 157054 1 1 0 (D l+1),some (157054,1,aS ae (l++[0]))) :=
 ka hO xY 157054 0 8 l 0 rfl (by omega) (by omega)
def Qf:=cy wP λ(x,y)=>cT ((aL x).length<=1000/\(aL y).length<=1000/\0<y) (.same (.cB [cb (x/y),cb (x%y)]))
@[go_sem] theorem agT (x:Nat)(y:Nat)(H:(aL x).length<=1000/\(aL y).length<=1000/\0<y):Qf [cb x,cb y]=some (.same (.cB [cb (x/y),cb (x%y)])):=(cF zA (x,y)).trans (cY H _)
theorem asA (T:bm)(gM:T EV=aO LV)(fw:T wK=aO CW)(mh:T PO=aO W8)(e3:T r5=A7 Bc wN)(kx:T HQ=aO P9)(mi:T VJ=CM L1)(x:Nat)(y:Nat)(H:(aL x).length<=1000/\(aL y).length<=1000/\0<y):WP T Wq (.same (.cB [cb (x/y),cb (x%y)])) [.I (cb x),.I (cb y)]:=by
 refine cH ?_;simp only[Wq];obtain⟨M,ao,jO⟩:=H;have oe:(aL x).length<=1000000/\(aL y).length<=1000000:=by omega
 have ix:=WX x y oe;have zg:(aL x).length<=1000000:=by omega
 by_cases hf:x<y
 ·have iy:gx x y = -1:=by unfold gx;rw[ad (by simpa using hf)]
  have eC:=agf (aL x) zg;rw[iy] at ix
  change CW [cb x]=_ at eC
  simp only[go_sem,go_sem_proc,gM,fw,mh,e3,kx,mi,ix,eC,show ((-1:Int)<0) by omega,decide_true]
  repeat' (first|refine al ?_ ?_|fail)<;>intro h<;>simp only[h,go_sem,go_sem_proc,gM,fw,mh,e3,kx,mi,ix,eC,show ((-1:Int)<0) by omega,decide_true]
  rw[Vg hf,Lo hf]
  try rfl
 ·have iy:decide (gx x y<0)=false:=by
   unfold gx;rw[ag (by simp;omega)]
   split<;>rfl
  have aII:aL y≠[]:=by rw[Ne,A8];omega
  by_cases G:y<1048576
  ·have sZ:=EN jO G;have o2:=agz x y ⟨by omega,by omega,by omega⟩
   have bc:=P0 [((x%y:Nat):Int)] (by simp);have av:x%y<y:=pS _ jO;rw[iY] at o2
   have wT:gl [((x%y:Nat):Int)]=aL (x%y):=by
    generalize x%y=r at av ⊢;rw[Ba (by intro d ab;rw[ye] at ab;omega)];simp only[bs]
    congr 1
   rw[wT] at bc;have Ii:cb y=.Y [[.int .i64 y]]:=by unfold cb;rw[sZ];rfl
   change Bc [.Y [[.int .i64 _]]]=_ at bc
   rw[Ii] at ix;simp only[go_sem,go_sem_proc,gM,fw,mh,e3,kx,mi,Ii,ix,iy,o2,bc,show (((1:Nat):Int)==1)=true from rfl];repeat' (first|refine al ?_ ?_|fail)<;>intro h<;>simp only[h,go_sem,go_sem_proc,gM,fw,mh,e3,kx,mi,Ii,ix,iy,o2,bc,show (((1:Nat):Int)==1)=true from rfl]
   try rfl
  ·obtain⟨N,fM⟩:∃N,(aL y).length=N+2:=by
    have:=mt (g3 (n:=y) (k:=1)).1 (by simpa using G);exact⟨(aL y).length-2,by omega⟩
   have sZ:=nQ y;have k7:(((aL y).length:Int)==1)=false:=by simp;omega
   have L3:IntKind.i64.wrap (((aL y).length:Int)-1)=((N+1:Nat):Int):=by rw[e7 _];omega
   have g1:(aL y)[N+1]?=some (aL y)[N+1]:=bB (by omega);have Qg:=mE sZ (N+1) (by omega)
   have aIJ:(aL y)[N+1]≠0:=by
    intro h;have:=af1 y;rw[List.getLast?_eq_getElem?,fM] at this;exact this (by rw[show N+2-1=N+1 by omega,g1,h])
   have Xk:=agQ fM;rw[m2] at Xk;have asB:=A9 (Bf sZ N);have aIK:=qv (Bf sZ N);have aIL:=mE sZ N (by omega);rw[fU,pK (by omega)] at asB;generalize (aL y)[N+1]=c0 at *;generalize (aL y)[N]=tV at *;generalize bs ((aL y).take N)=Xl at *;have Xm:((aL y).map ae)[N+1]?=some [.int .i64 c0]:=by rw[aW,g1];rfl
   simp only[go_sem,go_sem_proc,gM,fw,mh,e3,kx,mi,cb,ix,iy,k7,ah];have agU:=ix;unfold cb at agU;simp only[go_sem,go_sem_proc,gM,fw,mh,e3,kx,mi,agU,iy,k7,ah];refine c9 [0,1] [157054,157075] (λ(κ:Nat) tm mem=>c0*2^κ<1048576/\tm 8=.I (.int .i64 (2^κ))) (λκ=>20-κ) 0 (by refine⟨by omega,rfl⟩) ?_;intro vs ms aK aF;simp only[go_sem,go_sem_proc,gM,fw,mh,e3,kx,mi,ah] at aK aF;subst aK aF;rintro κ tm mem L hm ⟨L5,bP⟩;simp only[go_sem,go_sem_proc,gM,fw,mh,e3,kx,mi,bf] at L hm;obtain⟨aj,sT⟩:=L;obtain⟨Ij,o9⟩:=hm;have aIM:(0:Int)<2^κ:=Ik (by omega)
   have aIN:(2:Int)^κ<=c0*2^κ:=by
    have:1*(2:Int)^κ<=c0*2^κ:=mg (by omega) (by omega);omega
   have hκ:κ<20:=by
    rcases hn κ 20 with h|h
    ·exact h
    ·have:(2:Int)^20<=2^κ:=by
      have:=ov (n:=2) (by omega) h;have cv:=Int.ofNat_le.2 this;rwa [E8,E8] at cv
     omega
   have Il:IntKind.i64.wrap (c0*2^κ)=c0*2^κ:=wrap64 _ (by omega) (by omega);have agV:IntKind.i64.wrap (2^κ*2)=2^κ*2:=wrap64 _ (by omega) (by omega);rcases dk (c0*2^κ<524288) with av|b4
   ·simp only[go_sem,go_sem_proc,gM,fw,mh,e3,kx,mi,aj,sT,bP,L3,Xm,Il,agV,av,Ij,o9,decide_true,cD,ah];repeat' (first|refine al ?_ ?_|fail)<;>intro h<;>simp only[h,go_sem,go_sem_proc,gM,fw,mh,e3,kx,mi,aj,sT,bP,L3,Xm,Il,agV,av,Ij,o9,decide_true,cD,ah]
    exact⟨κ+1,by omega,by rw[om,<-jm];omega,by rw[om]⟩
   ·-- the numbers, shifted
    have asC:(c0+1)*2^κ<=1048576:=by
     have e:(1048576:Int)=2^(20-κ)*2^κ:=by rw[<-agy,show 20-κ+κ=20 by omega];rfl
     have G:c0<2^(20-κ):=by
      rcases dk (c0<2^(20-κ)) with h|h
      ·exact h
      ·have:(2:Int)^(20-κ)*2^κ<=c0*2^κ:=mg (by omega) (by omega);omega
     rw[e];exact mg (by omega) (by omega)
    generalize (2:Int)^κ=s at *;obtain⟨S,rfl⟩:∃S:Nat,s=S:=⟨s.toNat,by omega⟩
    have fs:(0:Int)<1048576^N:=Ik (by omega);have Fb:0<S:=by omega
    have Xg:y*S<1048576^(N+2):=by
     have G:((y*S:Nat):Int)<1048576^(N+2):=by
      rw[agW,Xk,om,om];generalize (1048576:Int)^N=p at *
      have ay:((c0*1048576+tV)*p+Xl)*S<=((c0+1)*1048576*p)*S:=by
       refine mg ?_ (by omega);have:(c0*1048576+tV+1)*p<=((c0+1)*1048576)*p:=mg (by omega) (by omega);rw[vi _ 1] at this;omega
      have agX:((c0*1048576+tV)*p+Xl)*S<((c0+1)*1048576*p)*S:=by
       refine Int.mul_lt_mul_of_pos_right ?_ (by omega);have:(c0*1048576+tV+1)*p<=((c0+1)*1048576)*p:=mg (by omega) (by omega);rw[vi _ 1] at this;omega
      have aA:((c0+1)*1048576*p)*S=((c0+1)*S)*(p*1048576):=by
       rw[jm (c0+1),jm,oo (1048576*p),<-jm,oo 1048576 p]
      have bQ:((c0+1)*S)*(p*1048576)<=1048576*(p*1048576):=mg asC (by omega);omega
     have J:((1048576^(N+2):Nat):Int)=1048576^(N+2):=by rw[E8];rfl
     omega
    have aIO:524288*(1048576^N*1048576)<=((y*S:Nat):Int):=by
     rw[agW,Xk];generalize (1048576:Int)^N=p at *
     have ay:(c0*1048576)*p*S<=((c0*1048576+tV)*p+Xl)*S:=by
      refine mg ?_ (by omega);have:(c0*1048576)*p<=(c0*1048576+tV)*p:=mg (by omega) (by omega);omega
     have aA:(c0*1048576)*p*S=(c0*S)*(p*1048576):=by
      rw[jm c0,jm,oo (1048576*p),<-jm,oo 1048576 p]
     have bQ:524288*(p*1048576)<=(c0*S)*(p*1048576):=mg (by omega) (by omega);omega
    have Fc:(aL (y*S)).length=N+2:=by
     have G:=g3.2 Xg
     have J:=mt (g3 (n:=y*S) (k:=N+1)).1 (by
      have J:((1048576^(N+1):Nat):Int)=1048576^N*1048576:=by rw[E8,om];rfl
      omega)
     omega
    have aIP:1*x<=x*S:=by rw[tU];exact agY x Fb
    have aIQ:(aL x).length<=(aL (x*S)).length:=by
     rw[g3];have:=g3.1 (cI (aL (x*S)).length);omega
    have aIR:y*S<=x*S:=o0 S (by omega)
    have aIS:N+2<=(aL (x*S)).length:=by
     rw[<-Fc,g3];have:=g3.1 (cI (aL (x*S)).length);omega
    have aIT:(aL (x*S)).length<=1001:=by
     have:∀k,(aL x).length<=k->(aL (x*S)).length<=k+1:=by
      intro k L;rw[g3];have G:=g3.1 L;rw[wF];exact Nat.lt_of_lt_of_le (Nat.mul_lt_mul_of_pos_right G Fb) (agY _ (by omega))
     exact this 1000 M
    have ho:=W5 x S ⟨by omega,by rw[EN Fb (by omega)];simp⟩
    have Xn:=W5 y S ⟨by omega,by rw[EN Fb (by omega)];simp⟩
    have asD:cb S=.Y [[.int .i64 (S:Int)]]:=by unfold cb;rw[EN Fb (by omega)];rfl
    rw[asD] at ho Xn;simp only[cb] at ho Xn;have cW:=asz (aL (x*S)) (by omega);have asE:((((aL (x*S)).length+1:Nat):Int)==((aL x).length:Int))=false:=by simp;omega
    have asF:=m2 (y*S);have Qh:=nQ (y*S);have asG:=m2 (x*S);have agZ:=nQ (x*S);have asH:cb (y*S)=.Y ((aL (y*S)).map ae):=rfl;generalize asI:aL (y*S)=v at *;generalize aIU:aL (x*S)=lE at *;have Qd:IntKind.i64.wrap (((D lE+1:Nat):Int)-(D v:Int))=((D lE-N-1:Nat):Int):=by rw[e7 _];omega
    have ue:8*(D lE-N-1)<=140737488355328:=by omega
    have Im:(D lE)-N-1<=maxLen:=H5 _ (by omega);have C7:decide (c0*(S:Int)<524288)=false:=kY b4;simp only[go_sem,go_sem_proc,gM,fw,mh,e3,kx,mi,aj,sT,bP,Ij,o9,L3,Xm,Il,C7,ho,Xn,cW,asE,Qd,ue,Im,H4,cD,ah];have e8:(D lE)-N-1+(N+2)=D lE+1:=by omega
    generalize aIV:(D lE)-N-1=bp at *;have fo:(D lE)=bp+N+1:=by omega
    have mF:=agQ Fc;rw[asF] at mF;have Xo:=A9 (Bf Qh N);have Xp:=qv (Bf Qh N);rw[fU,pK (by omega)] at Xo;have asJ:v[N+1]?=some v[N+1]:=bB (by omega);have yf:v[N]?=some v[N]:=bB (by omega);have E7:=mE Qh (N+1) (by omega);have iw:=mE Qh N (by omega);generalize v[N+1]=v1 at *;generalize v[N]=v0 at *;generalize bs (v.take N)=vlow at *
    have wv:524288<=v1:=by
     generalize (1048576:Int)^N=p at *;rcases dk (524288<=v1) with h|h
     ·exact h
     ·have J:(v1*1048576+v0+1)*p<=(524288*1048576)*p:=mg (by omega) (by omega);rw[vi _ 1,o8] at J;omega
    have asK:((y*S:Nat):Int)<1048576^(N+2):=by
     have J:((1048576^(N+2):Nat):Int)=1048576^(N+2):=by rw[E8];rfl
     omega
    have Xq:0<((y*S:Nat):Int):=by
     have:0<1048576^N*(1048576:Int):=Int.mul_pos fs (by omega);omega
    have asL:bs ((lE++[0]).drop bp)<((y*S:Nat):Int):=by
     have e:(lE++[0]).drop bp=lE.drop bp++[0]:=by rw[List.drop_append_of_le_length (by omega)]
     rw[e,EM];have G:=A9 (λd ab=>agZ d (L4 ab):fj (lE.drop bp));rw[oi,show (D lE)-bp=N+1 by omega,om] at G
     simp only[bs];omega
    have asM:((x*S:Nat):Int)=bs ((lE++[0]).take bp)+1048576^bp*bs ((lE++[0]).drop bp):=by
     have:=Ls (lE++[0]) bp;rw[EM,asG,pK (by simp;omega)] at this
     simpa [bs] using this
    generalize ag0:y*S=hP at *;generalize ag1:x*S=Io at *
    refine c9 [8,9,10,11,12] [] (λ((j,u,eZ):Nat×List Int×List Int) tm mem=>j<=bp/\D u=D lE+1/\fj u/\D eZ=bp/\fj eZ/\bs (u.drop j)<hP/\(Io:Int)=bs (u.take j)+1048576^j*(hP*bs (eZ.drop j)+bs (u.drop j)) /\
      tm 13=.I (.int .i64 ((j:Nat)-1))/\mem 157054=some (1,aS ae u)/\mem 157075=some (0,aS ae eZ)) (λ(j,_)=>j) (bp,lE++[0],en bp 0)
     (by
      refine⟨cI _,by simp,EK.2 ⟨agZ,by intro d ab;rw[ye] at ab;omega⟩,by simp,λd ab=>by rw[H8] at ab;omega,asL,?_,?_,rfl,rfl⟩
      ·rw[List.drop_of_length_le (by simp)];simp only[bs,vk,Ia];exact asM
      ·simp only[dv,reduceIte];rw[e7 _]) ?_
    intro vs ms aK aF;simp only[go_sem,go_sem_proc,gM,fw,mh,e3,kx,mi,aj,sT,bP] at aK aF;subst aK aF;rintro⟨j,u,eZ⟩ tm mem L-⟨ax,Bl,wU,Qi,Xr,iF,yg,iZ,Ip,Qj⟩;simp only[go_sem,go_sem_proc,gM,fw,mh,e3,kx,mi,bf] at L;obtain⟨bP,eA,dj,gy,eG⟩:=L;rcases j with _|j
    ·rw[nP,nP] at yg;rw[nP] at iF;simp only[ma,bs,Int.pow_zero,o8,Ia] at yg;have aIW:=qv Xr;have zE:=qv wU
     have Xs:bs eZ=((x/y:Nat):Int)/\bs u=((x%y*S:Nat):Int):=by
      have G:Io/hP=x/y:=by rw[<-ag1,<-ag0];exact Nat.mul_div_mul_right x y Fb
      have J:Io%hP=x%y*S:=by rw[<-ag1,<-ag0];exact Nat.mul_mod_mul_right S x y
      have af:((Io/hP:Nat):Int)=bs eZ:=by rw[agA,yg,zB,agB _ _ (by omega),W9 zE iF];omega
      have aP:((Io%hP:Nat):Int)=bs u:=by rw[agC,yg,zB,agD,Xa zE iF]
      rw[G] at af;rw[J] at aP;exact⟨af.symm,aP.symm⟩
     have Xt:=P0 u (by omega);rw[Ba wU,Xs.2,iY] at Xt;have Xu:=P0 eZ (by omega);rw[Ba Xr,Xs.1,iY] at Xu
     have hlen:(aL (x%y*S)).length<=100000:=by
      have:(aL (x%y*S)).length<=D u:=by
       have:=agj u;rw[Ba wU,Xs.2,iY] at this;exact this
      omega
     have o2:=agz (x%y*S) S ⟨hlen,by omega,by omega⟩
     rw[iY,Nat.mul_div_cancel _ Fb] at o2;simp only[cb] at o2;have dz:R.ref 157054 1 1 0 (D lE+1)=R.ref 157054 1 1 0 (D u):=by rw[Bl]
     have gq:R.ref 157075 0 1 0 bp=R.ref 157075 0 1 0 (D eZ):=by rw[Qi]
     rw[dz] at eA;rw[gq] at eG;simp only[go_sem,go_sem_proc,gM,fw,mh,e3,kx,mi,bP,eA,dj,gy,eG,iZ,Ip,Qj,Xt,Xu,o2,k6 hO,cb,mC,m3,show ¬ ((0:Int)-1>=0) by omega,decide_false]
     repeat' (first|refine al ?_ ?_|fail)<;>intro h<;>simp only[h,go_sem,go_sem_proc,gM,fw,mh,e3,kx,mi,bP,eA,dj,gy,eG,iZ,Ip,Qj,Xt,Xu,o2,k6 hO,cb,mC,m3,show ¬ ((0:Int)-1>=0) by omega,decide_false]
    ·obtain⟨pre,gJ,post,e,Bm,ag2,Xv,s3,asN,asO,eQ,Bn,fR,aIX,asP,aIY,aIZ⟩:=asy (i:=j) (n:=N+2) wU (by omega) iF asK;have lF:j<bp:=by omega
     rw[fR,EM,Bm] at yg;subst e;subst Bm;rw[Fc] at gy;have ag3:((D pre+1:Nat):Int)-1=(D pre:Int):=by omega
     have lC:IntKind.i64.wrap ((D pre:Int)+((N+2:Nat):Int))=((D pre+(N+2):Nat):Int):=by rw[e7 _];omega
     have asQ:IntKind.i64.wrap (((D pre+(N+2):Nat):Int)-1)=((D pre+(N+1):Nat):Int):=by rw[e7 _];omega
     have Fe:IntKind.i64.wrap (((N+2:Nat):Int)-1)=((N+1:Nat):Int):=by rw[e7 _];omega
     have Qk:IntKind.i64.wrap (((N+2:Nat):Int)-2)=(N:Int):=by rw[e7 _];omega
     have Ql:IntKind.i64.wrap (((D pre+(N+2):Nat):Int)-2)=((D pre+N:Nat):Int):=by rw[e7 _];omega
     have bt:(D pre)+(N+2)<D lE+1:=by omega
     have bz:(D pre)+(N+1)<D lE+1:=by omega
     have eU:(D pre)+N<D lE+1:=by omega
     have asR:(D pre)+(N+2)+1<=(aS ae (pre++gJ++post)).length:=by rw[r7,Bl];omega
     have asS:(D pre)+(N+1)+1<=(aS ae (pre++gJ++post)).length:=by rw[r7,Bl];omega
     have Qm:(D pre)+N+1<=(aS ae (pre++gJ++post)).length:=by rw[r7,Bl];omega
     have asT:=LZ (pre:=pre) (post:=post) (show N+2<(D gJ) by omega);have Ff:=LZ (pre:=pre) (post:=post) (show N+1<(D gJ) by omega);have iJ:=LZ (pre:=pre) (post:=post) (show N<(D gJ) by omega);have dy:=asx (N:=N) (by omega:(D gJ)=N+3);have Qe:=A9 (Bf s3 N);have ag4:=qv (Bf s3 N);rw[fU,pK (by omega)] at Qe;have mG:=mE s3 (N+2) (by omega);have k8:=mE s3 (N+1) (by omega);have ya:=mE s3 N (by omega);generalize gJ[N+2]=t2 at *;generalize gJ[N+1]=t1 at *;generalize gJ[N]=t0 at *;generalize bs (gJ.take N)=Ih at *;have L6:IntKind.i64.wrap (t2*2^min (EO 20) 64)=t2*1048576:=by rw[show min (EO 20) 64=20 by decide];exact wrap64 _ (by omega) (by omega)
     have asU:bits .or .i64 (t2*1048576) t1=t2*1048576+t1:=Vs t2 t1 mG.1 (by omega) k8;have asV:(v1=0)=False:=by simp;omega
     generalize aI0:t2*1048576+t1=top at *;have aI1:0<=top/\top<1099511627776:=by omega
     have wT:top.tdiv v1=top/v1:=Ib (by omega);have Bk:top.tmod v1=top%v1:=LY (by omega);have nw:0<=top/v1:=Xb (by omega) (by omega);have ue:top/v1<=top:=Int.ediv_le_self _ (by omega);have asW:IntKind.i64.wrap (top/v1)=top/v1:=wrap64 _ (by omega) (by omega);have L7:(v.map ae)[N+1]?=some [.int .i64 v1]:=by rw[aW,asJ];rfl
     have Qn:(v.map ae)[N]?=some [.int .i64 v0]:=by rw[aW,yf];rfl
     have Xj:bs gJ<1048576*hP:=by omega
     have L8:bs gJ<(top/v1+1)*hP:=by
      have ay:top+1<=(top/v1+1)*v1:=by
       have G:=CY top v1;have J:=Xd top (show 0<v1 by omega);rw[vi,o8,oo (top/v1)];omega
      have aA:(top+1)*1048576*1048576^N<=(top/v1+1)*v1*1048576*1048576^N:=mg (mg ay (by omega)) (by omega)
      have bQ:(top/v1+1)*v1*1048576*1048576^N<=(top/v1+1)*hP:=by
       rw[jm,jm];refine wO ?_ (by omega);rw[mF,<-jm];have:v1*1048576*1048576^N<=(v1*1048576+v0)*1048576^N:=mg (by omega) (by omega);omega
      have bL:(top*1048576+t0+1)*1048576^N<=(top+1)*1048576*1048576^N:=mg (by omega) (by omega);rw[vi _ 1,o8] at bL;omega
     simp only[go_sem,go_sem_proc,gM,fw,mh,e3,kx,mi,bP,eA,dj,gy,eG,iZ,Ip,Qj,ag3,lC,asQ,Fe,bt,bz,asR,asS,asT,Ff,L6,asU,asV,wT,Bk,asW,L7,show (D pre:Int)>=0 by omega,decide_true,cD,ah,show ¬ ((20:Int)<0) by omega]
     have Xw:∀(mem:Mem),mem 157054=some (1,aS ae (pre++gJ++post))->∀q:Int,0<=q->q<1048576->bs gJ<(q+1)*hP->0<=bs gJ-q*hP+hP ->
       L1 [.ref 157054 1 1 (D pre) (N+3),.I (.Y (v.map ae)),.I (.int .i64 q)] mem=some (.I (.int .i64 (bs gJ/hP)),a5 mem 157054 1 (aS ae (pre++pad (N+3) (bs gJ%hP).toNat++post))):=by
      intro mem Ip q nw asX mj kM;have Ii:=asw Xq mj kM;have oj:=asm ⟨pre,gJ,post,hP,q,157054,1⟩ mem ⟨Ip,s3,by show (aL hP).length<=D gJ;rw[asI];omega,nw,asX,kM,by show (D pre)+D gJ<=100000;omega⟩
      simp only[C1,C2,Qb] at oj;rw[Ii.1,Ii.2,ag2,asH] at oj;exact oj
     have asY:0<=bs gJ/hP:=Xb (qv s3) (by omega);have asZ:bs gJ/hP<1048576:=agE Xq Xj;have aI2:=Xc (bs gJ) (show (hP:Int)≠0 by omega);have as0:=Xd (bs gJ) Xq
     have as1:bs (pad (N+3) (bs gJ%hP).toNat)=bs gJ%hP:=by
      rw[asi]
      ·omega
      ·have J:((1048576^(N+2):Nat):Int)=1048576^(N+2):=by rw[E8];rfl
       have af:1048576^(N+2)<=1048576^(N+3):=ov (by omega) (by omega);omega
     have jD:∃bn:Nat×List Int×List Int,bn.1<D pre+1/\bn.1<=bp/\bn.2.1.length=D lE+1/\fj bn.2.1/\bn.2.2.length=bp/\fj bn.2.2/\bs (bn.2.1.drop bn.1)<hP/\(Io:Int)=bs (bn.2.1.take bn.1)+1048576^bn.1*(hP*bs (bn.2.2.drop bn.1)+bs (bn.2.1.drop bn.1)) /\
       R.I (Data.int .i64 ((D pre:Int)-1))=R.I (Data.int .i64 ((bn.1:Int)-1))/\some (1,aS ae (pre++pad (N+3) (bs gJ%hP).toNat++post))=some (1,aS ae bn.2.1)/\some (0,aS ae (eZ.set (D pre) (bs gJ/hP)))=some (0,aS ae bn.2.2):=by
      have as2:(D eZ)=bp:=Qi;have Qi:(D pre)<D eZ:=by omega
      have vm:(pre++pad (N+3) (bs gJ%hP).toNat++post).drop (D pre)=pad (N+3) (bs gJ%hP).toNat++post:=by rw[hd,Ve]
      have as3:(pre++pad (N+3) (bs gJ%hP).toNat++post).take (D pre)=pre:=by rw[hd,Vd]
      have ag5:bs (pad (N+3) (bs gJ%hP).toNat++post)=bs gJ%hP:=by rw[EM,asO,as1];omega
      refine⟨(D pre,pre++pad (N+3) (bs gJ%hP).toNat++post,eZ.set (D pre) (bs gJ/hP)),by dsimp only;omega,by dsimp only;omega,?_,EK.2 ⟨EK.2 ⟨Xv,ash _ _⟩,asN⟩,by rw[kd];exact as2,Bh Xr _ ⟨asY,asZ⟩,?_,?_,rfl,rfl,rfl⟩
      ·rw[<-Bl];simp[asg,ag2]
      ·dsimp only;rw[vm,ag5];exact as0
      ·dsimp only;rw[vm,ag5,as3,iC (by simpa using Qi),u7];simp only[Bg];rw[u0 (by omega)];have G:=CY (bs gJ) hP;have J:(hP:Int)*(bs gJ/hP+1048576*bs (eZ.drop (D pre+1)))=hP*(bs gJ/hP)+1048576*(hP*bs (eZ.drop (D pre+1))):=by rw[jl,Xe]
       rw[J,yg,om,jm];simp only[bs,vk,k9];rw[Int.add_assoc,<-jl]
       congr 2
       rw[jl];omega
     have jP:(D pre)+(N+2)+1-D pre=N+3:=by omega
     have ow:IntKind.i64.wrap (((D pre+(N+2):Nat):Int)+1)=((D pre+(N+2)+1:Nat):Int):=by rw[e7 _];rfl
     have Qo:(D pre)<=D pre+(N+2)+1/\D pre+(N+2)+1<=D lE+1:=by omega
     have Qp:(D pre)<bp:=lF;have Qq:=λd=>zz eZ (D pre) d (by omega);have Qr:(D pre)+1<=(aS ae eZ).length:=by rw[r7];omega
     have C4:IntKind.i64.wrap ((D pre:Int)-1)=(D pre:Int)-1:=wrap64 _ (by omega) (by omega)
     refine c9 [8,9,10,11,12,13] [157054,157075] (λ((q,r):Int×Int) tm mem=>0<=q/\0<=r/\q*v1+r=top/\bs gJ<(q+1)*hP/\tm 15=.I (.int .i64 q)/\tm 16=.I (.int .i64 r)) (λ(q,_)=>q.toNat) (top/v1,top%v1)
      (by
       refine⟨nw,Xc _ (by omega),?_,L8,rfl,rfl⟩;have:=CY top v1;rw[oo (top/v1)];omega) ?_
     intro vs ms aK aF;simp only[go_sem,go_sem_proc,gM,fw,mh,e3,kx,mi,bP,eA,dj,gy,eG,iZ,Ip,Qj,ag3] at aK aF;subst aK aF;rintro⟨q,r⟩ tm mem' L hm ⟨Bo,as4,Fa,mj,uf,rb⟩;simp only[go_sem,go_sem_proc,gM,fw,mh,e3,kx,mi,bf] at L hm;obtain⟨gR,gS,iK,la,ky,r8⟩:=L;obtain⟨zF,C8⟩:=hm;have aI3:0<=q*v1:=vh Bo (by omega);have aI4:q*524288<=q*v1:=wO wv Bo;have aI5:0<=q*v0:=vh Bo iw.1;have aI6:q*v0<=q*1048576:=wO (by omega) Bo;have zG:IntKind.i64.wrap (q*v0)=q*v0:=wrap64 _ (by omega) (by omega);have Qs:IntKind.i64.wrap (q-1)=q-1:=wrap64 _ (by omega) (by omega);have Qt:IntKind.i64.wrap (r+v1)=r+v1:=wrap64 _ (by omega) (by omega);have Qu:IntKind.i64.wrap (r*2^min (EO 20) 64)=r*1048576:=by rw[show min (EO 20) 64=20 by decide];exact wrap64 _ (by omega) (by omega)
     have Qv:bits .or .i64 (r*1048576) t0=r*1048576+t0:=Vs r t0 as4 (by omega) ya
     have Py:(q>=1048576\/q*v0>r*1048576+t0)->∃bn:Int×Int,bn.1.toNat<q.toNat/\0<=bn.1/\0<=bn.2/\bn.1*v1+bn.2=top/\bs gJ<(bn.1+1)*hP/\R.I (Data.int .i64 (q-1))=R.I (Data.int .i64 bn.1)/\R.I (Data.int .i64 (r+v1))=R.I (Data.int .i64 bn.2):=by
      intro H;have G:=asu mF dy fs Xp Qe Bo (by omega) Xj Fa H
      have Xx:0<q:=by
       rcases dk (0<q) with h|h
       ·exact h
       ·obtain rfl:q=0:=by omega
        have:=qv s3;omega
      exact⟨(q-1,r+v1),by dsimp only;omega,by dsimp only;omega,by dsimp only;omega,by dsimp only;rw[agP];omega,by dsimp only;rw[Int.sub_add_cancel];exact G,rfl,rfl⟩
     by_cases gv:q>=1048576
     ·simp only[go_sem,go_sem_proc,gM,fw,mh,e3,kx,mi,gR,gS,iK,la,ky,r8,zF,C8,uf,rb,gv,Qs,Qt,Fe,L7,decide_true,cD,ah];repeat' (first|refine al ?_ ?_|fail)<;>intro h<;>simp only[h,go_sem,go_sem_proc,gM,fw,mh,e3,kx,mi,gR,gS,iK,la,ky,r8,zF,C8,uf,rb,gv,Qs,Qt,Fe,L7,decide_true,cD,ah]
      exact Py (.inl gv)
     ·by_cases wm:r<1048576
      ·by_cases re:q*v0>r*1048576+t0
       ·simp only[go_sem,go_sem_proc,gM,fw,mh,e3,kx,mi,gR,gS,iK,la,ky,r8,zF,C8,uf,rb,gv,wm,re,zG,Qs,Qt,Qu,Qv,lC,Fe,Qk,Ql,eU,Qm,iJ,L7,Qn,decide_true,decide_false,cD,ah,show ¬ ((20:Int)<0) by omega]
        repeat' (first|refine al ?_ ?_|fail)<;>intro h<;>simp only[h,go_sem,go_sem_proc,gM,fw,mh,e3,kx,mi,gR,gS,iK,la,ky,r8,zF,C8,uf,rb,gv,wm,re,zG,Qs,Qt,Qu,Qv,lC,Fe,Qk,Ql,eU,Qm,iJ,L7,Qn,decide_true,decide_false,cD,ah,show ¬ ((20:Int)<0) by omega]
        exact Py (.inr re)
       ·have oj:=Xw mem' zF q Bo (by omega) mj (agO mF dy fs ⟨Xp,Xo⟩ ag4 Bo (by omega) wv iw ya.1 Fa (.inr (by omega)));simp only[go_sem,go_sem_proc,gM,fw,mh,e3,kx,mi,gR,gS,iK,la,ky,r8,zF,C8,uf,rb,gv,wm,re,zG,Qu,Qv,lC,ow,Fe,Qk,Ql,eU,Qm,iJ,Qn,jP,Qo,oj,Qp,Qr,Qq,C4,Fc,decide_true,decide_false,cD,ah,show ¬ ((20:Int)<0) by omega]
        repeat' (first|refine al ?_ ?_|fail)<;>intro h<;>simp only[h,go_sem,go_sem_proc,gM,fw,mh,e3,kx,mi,gR,gS,iK,la,ky,r8,zF,C8,uf,rb,gv,wm,re,zG,Qu,Qv,lC,ow,Fe,Qk,Ql,eU,Qm,iJ,Qn,jP,Qo,oj,Qp,Qr,Qq,C4,Fc,decide_true,decide_false,cD,ah,show ¬ ((20:Int)<0) by omega]
        exact jD
      ·have oj:=Xw mem' zF q Bo (by omega) mj (agO mF dy fs ⟨Xp,Xo⟩ ag4 Bo (by omega) wv iw ya.1 Fa (.inl (by omega)));simp only[go_sem,go_sem_proc,gM,fw,mh,e3,kx,mi,gR,gS,iK,la,ky,r8,zF,C8,uf,rb,gv,wm,lC,ow,jP,Qo,oj,Qp,Qr,Qq,C4,Fc,decide_true,decide_false,cD,ah];repeat' (first|refine al ?_ ?_|fail)<;>intro h<;>simp only[h,go_sem,go_sem_proc,gM,fw,mh,e3,kx,mi,gR,gS,iK,la,ky,r8,zF,C8,uf,rb,gv,wm,lC,ow,jP,Qo,oj,Qp,Qr,Qq,C4,Fc,decide_true,decide_false,cD,ah]
       exact jD
def dP:Nat:=1048576^60
def bd (z:Int):Raw:=(z.sign,aL z.natAbs)
def hs (a:Raw):Int:=a.1*bs a.2
theorem fe (z:Int):hs (bd z)=z:=by
 unfold hs bd;rw[m2];exact Iq z
theorem L9 (d:Int):o3 d=true↔0<=d/\d<1048576:=by
 unfold o3;simp;omega
theorem ib (a:Raw):di a=true↔∃z:Int,z.natAbs<dP/\a=bd z:=by
 obtain⟨s,l⟩:=a;unfold di dP;rw[gb,qs]
 constructor
 ·rintro⟨G,J⟩;have ab:fj l:=λd ab=>(L9 d).1 (G d ab)
  split at J
  ·rename_i h;have az:l=[]:=uY (by simpa using h);subst az;have Q:s=0:=by simpa using J
   subst Q;exact⟨0,by simp,rfl⟩
  ·rename_i h;simp at J;obtain⟨⟨Q,hlen⟩,Xy⟩:=J;have H:=canon ab (by simpa using Xy);have aN:=qv ab
   have aI7:bs l≠0:=by
    intro aj;rw[aj] at H;rw[H] at h;simp[tY] at h
   refine⟨s*bs l,?_,?_⟩
   ·have:(s*bs l).natAbs=(bs l).toNat:=by rw[ug];rcases Q with rfl|rfl<;>simp<;>omega
    rw[this,<-g3,<-H];exact hlen
   ·unfold bd;have:(s*bs l).natAbs=(bs l).toNat:=by rw[ug];rcases Q with rfl|rfl<;>simp<;>omega
    rw[this,<-H]
    congr 1
    rcases Q with rfl|rfl
    ·rw[o8,ht (by omega)]
    ·rw[Fg,o8,Fh,ht (by omega)]
 ·rintro⟨z,a2,h⟩
  cases h;refine⟨λd ab=>(L9 d).2 (nQ _ d ab),?_⟩
  by_cases aj:z=0
  ·subst aj;rfl
  ·have aM:aL z.natAbs≠[]:=by rw[Ne,A8];omega
   rw[ag (by simp;exact aM)];have az:=g3.2 a2;have mb:=af1 z.natAbs;simp only[gb,Bool.or_eq_true,beq_iff_eq,decide_eq_true_eq,bne_iff_ne,ne_eq];refine⟨⟨?_,az⟩,mb⟩;rcases vl z 0 with h|h|h
   ·exact .inr (nT h)
   ·exact absurd h aj
   ·exact .inl (ht h)
theorem lb {z:Int}(h:z.natAbs<dP):di (bd z)=true:=(ib _).2 ⟨z,h,rfl⟩
def zH (c:Raw):Raw×Int:=if decide ((c.2.length:Int)>60)=true then ((0,[]),6) else (c,0)
def pU (z:Int):Raw×Int:=if z.natAbs<dP then (bd z,0) else ((0,[]),6)
def dD (x:Raw×Int):Data:=.cB [.agg (bU x.1),.int .i64 x.2]
theorem as5 (s:Int)(n:Nat):jM s (aL n)=if n=0 then (0,[]) else (s,aL n):=by
 unfold jM;rw[af0]
 by_cases h:n=0
 ·subst h;rfl
 ·have:aL n≠[]:=by rw[Ne,A8];exact h
  rw[ag h,ag (by simp;exact this)]
theorem ox {s:Int}{n:Nat}{z:Int}(h:z.natAbs=n)(Q:n≠0->s=z.sign):jM s (aL n)=bd z:=by
 rw[as5];subst h
 by_cases aj:z.natAbs=0
 ·obtain rfl:z=0:=by omega
  rfl
 ·rw[ag aj,Q aj]
  rfl
theorem pV (z:Int):zH (bd z)=pU z:=by
 unfold zH pU bd dP;have:=g3 (n:=z.natAbs) (k:=60)
 by_cases h:z.natAbs<1048576^60
 ·have:=this.2 h;rw[ag (by simp;omega),ad h]
 ·have:=mt this.1 h;rw[ad (by simp;omega),ag h]
abbrev Xz:Bool×Int×(List Int)->List Data:=λ(r,s,l)=>[.bool r,.agg [.int .i64 s,.Y (l.map ae)]]
def Ma:=cy Xz λ(r,s,l)=>some (.same (dD (if r=true then zH (s,l) else ((0,[]),1))))
theorem as6:∀a b,Xz a=Xz b->a=b:=by
  rintro⟨eS,s1,dr⟩ ⟨eO,s2,aa⟩ h;simp only[bf,Data.bool.injEq,Data.agg.injEq,Data.int.injEq,Data.Y.injEq] at h;exact ei h.1 (ei h.2.1.1.2 (map_inj hp _ _ h.2.1.2.1))
@[go_sem] theorem Ir (r:Bool)(s:Int)(l:List Int):Ma [.bool r,.agg [.int .i64 s,.Y (l.map ae)]]=some (.same (dD (if r=true then zH (s,l) else ((0,[]),1)))):=cF as6 (r,s,l)
theorem as7 (T:bm)  (r:Bool) (s:Int) (l:List Int):WP T Wp (.same (dD (if r=true then zH (s,l) else ((0,[]),1)))) [.I (.bool r),.I (.agg [.int .i64 s,.Y (l.map ae)])]:=by
 refine cH ?_;simp only[Wp]
 cases r
 ·refine a1 ?_;repeat' (intro h<;>simp only[h,go_sem,go_sem_proc,ah]<;>try refine al ?_ ?_)
  rfl
 ·refine a1 ?_;repeat' (intro h<;>simp only[h,go_sem,go_sem_proc,ah]<;>try refine al ?_ ?_)
  all_goals (simp only[dD,bU,zH];simp only[b6, *,reduceIte,bT,cp,pR,wC,lA,wD,sU,fP,jB,fr,kE,beq_self_eq_true,bne])
def hG (a:Raw):Raw:=if di a=true then bd (-hs a) else (0,[])
theorem ag6 (z:Int):jM (-z.sign) (aL z.natAbs)=bd (-z):=ox (by omega) λ_=>by rw[Fh]
def Qw:=cy Be λ(s,l)=>cT (D l<=1000000) (.same (.agg (bU (hG (s,l)))))
@[go_sem] theorem aI8 (s:Int)(l:List Int)(H:(D l)<=1000000):Qw [.agg [.int .i64 s,.Y (l.map ae)]]=some (.same (.agg (bU (hG (s,l))))):=(cF E3 (s,l)).trans (cY H _)
theorem as8 (T:bm)(ed:T mc=aO x4)(fw:T wK=aO CW)(fV:T qw=aO CX)(s:Int)(l:List Int)(H:(D l)<=1000000):WP T Wm (.same (.agg (bU (hG (s,l))))) [.I (.agg [.int .i64 s,.Y (l.map ae)])]:=by
 refine cH ?_;simp only[Wm]
 by_cases X:di (s,l)=true
 ·obtain⟨z,a2,e⟩:=(ib _).1 X;have ay:hG (s,l)=bd (-z):=by unfold hG;rw[ad X,e,fe]
  cases e
  have hw:IntKind.i64.wrap (0-z.sign) = -z.sign:=by
   have:=Mb z;rw[e7 _];omega
  rw[ay];refine a1 ?_;repeat' (intro h<;>simp only[h,go_sem,go_sem_proc,ed,fw,fV,X,H,hw,ag6,bU]<;>try refine al ?_ ?_)
 ·have X:di (s,l)=false:=by simpa using X
  have ay:hG (s,l)=(0,[]):=by unfold hG;rw[X];rfl
  rw[ay];refine a1 ?_;repeat' (intro h<;>simp only[h,go_sem,go_sem_proc,ed,fw,fV,X,H,bU,b6]<;>try refine al ?_ ?_)
theorem jQ (a:Raw):(a.1,a.2)=a:=rfl
def mulR (a b:Raw):Raw×Int:=if (di a&&di b)=true then pU (hs a*hs b) else ((0,[]),1)
theorem vn {x y:Int}(M:x.natAbs<dP)(ao:y.natAbs<dP):mulR (bd x) (bd y)=pU (x*y):=by
 unfold mulR;rw[lb M,lb ao,fe,fe]
 rfl
theorem oy {z:Int}(h:z.natAbs<dP):(aL z.natAbs).length<=60:=g3.2 h
theorem oz (z:Int):-1<=z.sign/\z.sign<=1:=by
 have:=Mb z;omega
abbrev rf:Int×(List Int)×Int×(List Int)->List Data:=λ(s,l,s2,aa)=>[.agg [.int .i64 s,.Y (l.map ae)],.agg [.int .i64 s2,.Y (aa.map ae)]]
def Is:=cy rf λ(s,l,s2,aa)=>cT (D l<=1000000/\D aa<=1000000) (.same (dD (mulR (s,l) (s2,aa))))
theorem s4:∀a b,rf a=rf b->a=b:=by
  rintro⟨s1,dr,Fi,Fj⟩ ⟨s2,aa,Fk,Fl⟩ h;simp only[bf,Data.agg.injEq,Data.int.injEq,Data.Y.injEq] at h;exact ei h.1.1.2 (ei (map_inj hp _ _ h.1.2.1) (ei h.2.1.1.2 (map_inj hp _ _ h.2.1.2.1)))
@[go_sem] theorem aI9 (s:Int)(l:List Int)(s2:Int)(aa:List Int)(H:(D l)<=1000000/\D aa<=1000000):Is [.agg [.int .i64 s,.Y (l.map ae)],.agg [.int .i64 s2,.Y (aa.map ae)]]=some (.same (dD (mulR (s,l) (s2,aa)))):=(cF s4 (s,l,s2,aa)).trans (cY H _)
theorem as9 (T:bm)(ed:T mc=aO x4)(kx:T HQ=aO P9)(fV:T qw=aO CX)(nU:T wJ=aO Ma)(s:Int)(l:List Int)(s2:Int)(aa:List Int)(H:(D l)<=1000000/\D aa<=1000000):WP T Wk (.same (dD (mulR (s,l) (s2,aa)))) [.I (.agg [.int .i64 s,.Y (l.map ae)]),.I (.agg [.int .i64 s2,.Y (aa.map ae)])]:=by
 refine cH ?_;simp only[Wk];obtain⟨bt,bz⟩:=H
 by_cases X:di (s,l)=true
 ·by_cases aZ:di (s2,aa)=true
  ·obtain⟨x,M,e⟩:=(ib _).1 X;obtain⟨y,ao,aA⟩:=(ib _).1 aZ;have hm:mulR (s,l) (s2,aa)=pU (x*y):=by rw[e,aA];exact vn M ao
   rw[hm];clear hm
   cases e
   cases aA;have G:=oz x;have J:=oz y;have aC:x.sign*y.sign=(x*y).sign:=(pa x y).symm;have af:=oz (x*y);have hw:IntKind.i64.wrap (x.sign*y.sign)=(x*y).sign:=by rw[aC];exact wrap64 _ (by omega) (by omega)
   have hmul:=W5 x.natAbs y.natAbs ⟨eP (oy M) (by omega),eP (oy ao) (by omega)⟩;simp only[cb] at hmul
   have hlen:(aL (x.natAbs*y.natAbs)).length<=1000000:=by
    refine eP ((g3 (k:=120)).2 ?_) (by omega);have:(1048576^120:Nat)=dP*dP:=by unfold dP;rw[<-Nat.pow_add]
    rw[this];exact Nat.mul_lt_mul'' M ao
   have Q:jM (x*y).sign (aL (x.natAbs*y.natAbs))=bd (x*y):=ox (ug x y) λ_=>rfl;refine a1 ?_;repeat' (intro h<;>simp only[h,go_sem,go_sem_proc,ed,kx,fV,nU,X,aZ,bt,bz,hw,hmul,hlen,Q,pV,bU,dD,jQ]<;>try refine al ?_ ?_)
  ·have aZ:di (s2,aa)=false:=by simpa using aZ
   have hm:mulR (s,l) (s2,aa)=((0,[]),1):=by unfold mulR;rw[aZ,jB];rfl
   rw[hm];have pW:=Ir false 0 [];simp only[b6] at pW;refine a1 ?_;repeat' (intro h<;>simp only[h,go_sem,go_sem_proc,ed,kx,fV,nU,X,aZ,bt,bz,pW,bU,dD,b6]<;>try refine al ?_ ?_)
 ·have X:di (s,l)=false:=by simpa using X
  have hm:mulR (s,l) (s2,aa)=((0,[]),1):=by unfold mulR;rw[X,fr];rfl
  rw[hm];have pW:=Ir false 0 [];simp only[b6] at pW;refine a1 ?_;repeat' (intro h<;>simp only[h,go_sem,go_sem_proc,ed,kx,fV,nU,X,bt,bz,pW,bU,dD,b6]<;>try refine al ?_ ?_)
def lG (a b:Raw):Raw×Int:=if (di a&&di b)=true then pU (hs a+hs b) else ((0,[]),1)
theorem Mc {x y:Int}(M:x.natAbs<dP)(ao:y.natAbs<dP):lG (bd x) (bd y)=pU (x+y):=by
 unfold lG;rw[lb M,lb ao,fe,fe]
 rfl
theorem It (a b:Nat):(aL (a-b)).length<=(aL a).length:=by
 rw[g3];exact vg (Nat.sub_le a b) (g3.1 (cI _))
def XA:=cy rf λ(s,l,s2,aa)=>cT (D l<=1000000/\D aa<=1000000) (.same (dD (lG (s,l) (s2,aa))))
@[go_sem] theorem aJa (s:Int)(l:List Int)(s2:Int)(aa:List Int)(H:(D l)<=1000000/\D aa<=1000000):XA [.agg [.int .i64 s,.Y (l.map ae)],.agg [.int .i64 s2,.Y (aa.map ae)]]=some (.same (dD (lG (s,l) (s2,aa)))):=(cF s4 (s,l,s2,aa)).trans (cY H _)
theorem ata (T:bm)(ed:T mc=aO x4)(zI:T VK=aO WV)(nx:T Lz=aO P7)(ny:T HS=aO P8)(gM:T EV=aO LV)(fV:T qw=aO CX)(nU:T wJ=aO Ma)(s:Int)(l:List Int)(s2:Int)(aa:List Int)(H:(D l)<=1000000/\D aa<=1000000):WP T Wt (.same (dD (lG (s,l) (s2,aa)))) [.I (.agg [.int .i64 s,.Y (l.map ae)]),.I (.agg [.int .i64 s2,.Y (aa.map ae)])]:=by
 refine cH ?_;simp only[Wt];obtain⟨bt,bz⟩:=H
 by_cases X:di (s,l)=true
 ·by_cases aZ:di (s2,aa)=true
  ·obtain⟨x,M,e⟩:=(ib _).1 X;obtain⟨y,ao,aA⟩:=(ib _).1 aZ;have hm:lG (s,l) (s2,aa)=pU (x+y):=by rw[e,aA];exact Mc M ao
   rw[hm];clear hm
   cases e
   cases aA;have G:=oz x;have J:=oz y;have lH:=oy M;have k7:=oy ao;have wW:=Iq x;have atb:=Iq y
   have pX:(x.sign=1/\0<x)\/(x.sign=0/\x=0)\/(x.sign = -1/\x<0):=by
    rcases vl x 0 with h|h|h
    ·exact .inr (.inr ⟨nT h,h⟩)
    ·exact .inr (.inl ⟨by rw[h];rfl,h⟩)
    ·exact .inl ⟨ht h,h⟩
   have ty:(y.sign=1/\0<y)\/(y.sign=0/\y=0)\/(y.sign = -1/\y<0):=by
    rcases vl y 0 with h|h|h
    ·exact .inr (.inr ⟨nT h,h⟩)
    ·exact .inr (.inl ⟨by rw[h];rfl,h⟩)
    ·exact .inl ⟨ht h,h⟩
   have lI:=ago x.natAbs y.natAbs ⟨by omega,by omega⟩
   simp only[cb] at lI
   have hlen:(aL (x.natAbs+y.natAbs)).length<=1000000:=by
    refine eP ((g3 (k:=61)).2 ?_) (by omega);have:(1048576^61:Nat)=dP*1048576:=by unfold dP;rw[<-wF]
    omega
   have qA:=ar0 [x.sign,y.sign] (by simp);simp only[eI,b6,ae] at qA;have fc:=WX x.natAbs y.natAbs ⟨by omega,by omega⟩
   simp only[cb] at fc
   by_cases aC:x.sign*y.sign>=0
   ·have hw:IntKind.i64.wrap (x.sign*y.sign)=x.sign*y.sign:=by
     rcases pX with ⟨e,_⟩|⟨e,_⟩|⟨e,_⟩<;>rw[e]<;>exact wrap64 _ (by omega) (by omega)
    have Q:jM (x3 [x.sign,y.sign]) (aL (x.natAbs+y.natAbs))=bd (x+y):=by
     refine ox ?_ ?_
     ·rcases pX with ⟨e,_⟩|⟨e,_⟩|⟨e,_⟩<;>rcases ty with ⟨e',_⟩|⟨e',_⟩|⟨e',_⟩<;>rw[e,e'] at aC<;>omega
     ·intro aM;rcases pX with ⟨e,_⟩|⟨e,_⟩|⟨e,_⟩<;>rcases ty with ⟨e',_⟩|⟨e',_⟩|⟨e',_⟩<;>rw[e,e'] at aC ⊢
      ·exact (ht (by omega)).symm
      ·exact (ht (by omega)).symm
      ·omega
      ·exact (ht (by omega)).symm
      ·omega
      ·exact (nT (by omega)).symm
      ·omega
      ·exact (nT (by omega)).symm
      ·exact (nT (by omega)).symm
    simp only[go_sem,go_sem_proc,ed,zI,nx,ny,gM,fV,nU,X,aZ,bt,bz,hw,aC,decide_true,qA,lI,hlen,Q,pV,bU,dD,jQ];repeat' (first|refine al ?_ ?_|fail)<;>intro h<;>simp only[h,go_sem,go_sem_proc,ed,zI,nx,ny,gM,fV,nU,X,aZ,bt,bz,hw,aC,decide_true,qA,lI,hlen,Q,pV,bU,dD,jQ]
   ·have hw:IntKind.i64.wrap (x.sign*y.sign)=x.sign*y.sign:=by
     rcases pX with ⟨e,_⟩|⟨e,_⟩|⟨e,_⟩<;>rw[e]<;>exact wrap64 _ (by omega) (by omega)
    by_cases av:x.natAbs<y.natAbs
    ·have oA:decide (gx x.natAbs y.natAbs<0)=true:=by unfold gx;rw[ad (by simp;omega)];rfl
     have jP:=W3 y.natAbs x.natAbs ⟨by omega,by omega⟩
     simp only[cb] at jP;have yh:(aL (y.natAbs-x.natAbs)).length<=1000000:=eP (It _ _) (by omega)
     have Q:jM y.sign (aL (y.natAbs-x.natAbs))=bd (x+y):=by
      refine ox ?_ ?_
      ·rcases pX with ⟨e,_⟩|⟨e,_⟩|⟨e,_⟩<;>rcases ty with ⟨e',_⟩|⟨e',_⟩|⟨e',_⟩<;>rw[e,e'] at aC<;>omega
      ·intro aM;rcases pX with ⟨e,_⟩|⟨e,_⟩|⟨e,_⟩<;>rcases ty with ⟨e',_⟩|⟨e',_⟩|⟨e',_⟩<;>rw[e,e'] at aC<;>rw[e']<;>first|omega|exact (ht (by omega)).symm|exact (nT (by omega)).symm
     simp only[go_sem,go_sem_proc,ed,zI,nx,ny,gM,fV,nU,X,aZ,bt,bz,hw,aC,decide_false,fc,oA,jP,yh,Q,pV,bU,dD,jQ];repeat' (first|refine al ?_ ?_|fail)<;>intro h<;>simp only[h,go_sem,go_sem_proc,ed,zI,nx,ny,gM,fV,nU,X,aZ,bt,bz,hw,aC,decide_false,fc,oA,jP,yh,Q,pV,bU,dD,jQ]
    ·have oA:decide (gx x.natAbs y.natAbs<0)=false:=by unfold gx;rw[ag (by simp;omega)];split<;>rfl
     have jP:=W3 x.natAbs y.natAbs ⟨by omega,by omega⟩
     simp only[cb] at jP;have yh:(aL (x.natAbs-y.natAbs)).length<=1000000:=eP (It _ _) (by omega)
     have Q:jM x.sign (aL (x.natAbs-y.natAbs))=bd (x+y):=by
      refine ox ?_ ?_
      ·rcases pX with ⟨e,_⟩|⟨e,_⟩|⟨e,_⟩<;>rcases ty with ⟨e',_⟩|⟨e',_⟩|⟨e',_⟩<;>rw[e,e'] at aC<;>omega
      ·intro aM;rcases pX with ⟨e,_⟩|⟨e,_⟩|⟨e,_⟩<;>rcases ty with ⟨e',_⟩|⟨e',_⟩|⟨e',_⟩<;>rw[e,e'] at aC<;>rw[e]<;>first|omega|exact (ht (by omega)).symm|exact (nT (by omega)).symm
     simp only[go_sem,go_sem_proc,ed,zI,nx,ny,gM,fV,nU,X,aZ,bt,bz,hw,aC,decide_false,fc,oA,jP,yh,Q,pV,bU,dD,jQ];repeat' (first|refine al ?_ ?_|fail)<;>intro h<;>simp only[h,go_sem,go_sem_proc,ed,zI,nx,ny,gM,fV,nU,X,aZ,bt,bz,hw,aC,decide_false,fc,oA,jP,yh,Q,pV,bU,dD,jQ]
  ·have aZ:di (s2,aa)=false:=by simpa using aZ
   have hm:lG (s,l) (s2,aa)=((0,[]),1):=by unfold lG;rw[aZ,jB];rfl
   rw[hm];have pW:=Ir false 0 [];simp only[b6] at pW;simp only[go_sem,go_sem_proc,ed,zI,nx,ny,gM,fV,nU,X,aZ,bt,bz,pW,bU,dD,b6];repeat' (first|refine al ?_ ?_|fail)<;>intro h<;>simp only[h,go_sem,go_sem_proc,ed,zI,nx,ny,gM,fV,nU,X,aZ,bt,bz,pW,bU,dD,b6]
 ·have X:di (s,l)=false:=by simpa using X
  have hm:lG (s,l) (s2,aa)=((0,[]),1):=by unfold lG;rw[X,fr];rfl
  rw[hm];have pW:=Ir false 0 [];simp only[b6] at pW;simp only[go_sem,go_sem_proc,ed,zI,nx,ny,gM,fV,nU,X,bt,bz,pW,bU,dD,b6];repeat' (first|refine al ?_ ?_|fail)<;>intro h<;>simp only[h,go_sem,go_sem_proc,ed,zI,nx,ny,gM,fV,nU,X,bt,bz,pW,bU,dD,b6]
theorem lJ (x:Int):(x.sign=1/\0<x)\/(x.sign=0/\x=0)\/(x.sign = -1/\x<0):=by
 rcases vl x 0 with h|h|h
 ·exact .inr (.inr ⟨nT h,h⟩)
 ·exact .inr (.inl ⟨by rw[h];rfl,h⟩)
 ·exact .inl ⟨ht h,h⟩
def pb (a b:Raw):Int:=if (di a&&di b)=true then gx (hs a) (hs b) else 0
theorem Md {x y:Int}(M:x.natAbs<dP)(ao:y.natAbs<dP):pb (bd x) (bd y)=gx x y:=by
 unfold pb;rw[lb M,lb ao,fe,fe]
 rfl
theorem Bp {x y:Int}(h:x<y):gx x y = -1:=by unfold gx;rw[ad (by simpa using h)]
theorem Fm {x y:Int}(h:y<x):gx x y=1:=by unfold gx;rw[ag (by simp;omega),ad (by simpa using h)]
theorem Iu (x:Int):gx x x=0:=by unfold gx;simp
def XB:=cy rf λ(s,l,s2,aa)=>cT (D l<=1000000/\D aa<=1000000) (.same (.int .i64 (pb (s,l) (s2,aa))))
@[go_sem] theorem aJb (s:Int)(l:List Int)(s2:Int)(aa:List Int)(H:(D l)<=1000000/\D aa<=1000000):XB [.agg [.int .i64 s,.Y (l.map ae)],.agg [.int .i64 s2,.Y (aa.map ae)]]=some (.same (.int .i64 (pb (s,l) (s2,aa)))):=(cF s4 (s,l,s2,aa)).trans (cY H _)
theorem atc (T:bm)(ed:T mc=aO x4)(o5:T HT=aO P2)(gM:T EV=aO LV)(s:Int)(l:List Int)(s2:Int)(aa:List Int)(H:(D l)<=1000000/\D aa<=1000000):WP T Wo (.same (.int .i64 (pb (s,l) (s2,aa)))) [.I (.agg [.int .i64 s,.Y (l.map ae)]),.I (.agg [.int .i64 s2,.Y (aa.map ae)])]:=by
 refine cH ?_;simp only[Wo];obtain⟨bt,bz⟩:=H
 by_cases X:di (s,l)=true
 ·by_cases aZ:di (s2,aa)=true
  ·obtain⟨x,M,e⟩:=(ib _).1 X;obtain⟨y,ao,aA⟩:=(ib _).1 aZ;have hm:pb (s,l) (s2,aa)=gx x y:=by rw[e,aA];exact Md M ao
   rw[hm];clear hm
   cases e
   cases aA;have lH:=oy M;have k7:=oy ao;have fc:=WX x.natAbs y.natAbs ⟨by omega,by omega⟩
   simp only[cb] at fc
   by_cases Q:x.sign=y.sign
   ·have rh:(x.sign==y.sign)=true:=by simpa using Q
    have jj:IntKind.i64.wrap (y.sign*gx x.natAbs y.natAbs)=gx x y:=by
     rcases lJ x with ⟨e,G⟩|⟨e,G⟩|⟨e,G⟩<;>rcases lJ y with ⟨e',J⟩|⟨e',J⟩|⟨e',J⟩<;>rw[e,e'] at Q<;>first|omega|skip
     ·rw[e',o8,show (x.natAbs:Int)=x by omega,show (y.natAbs:Int)=y by omega]
      rcases vl x y with h|h|h
      ·rw[Bp h];rfl
      ·rw[h,Iu];rfl
      ·rw[Fm h];rfl
     ·rw[e',G,J];rfl
     ·rw[e'];rcases vl x y with h|h|h
      ·rw[Bp h,Fm (by omega)];rfl
      ·rw[h,Iu,Iu];rfl
      ·rw[Fm h,Bp (by omega)];rfl
    rw[<-Q] at jj;simp only[go_sem,go_sem_proc,ed,o5,gM,X,aZ,bt,bz,rh,fc,jj];repeat' (first|refine al ?_ ?_|fail)<;>intro h<;>simp only[h,go_sem,go_sem_proc,ed,o5,gM,X,aZ,bt,bz,rh,fc,jj]
   ·have rh:(x.sign==y.sign)=false:=by simpa using Q
    have jj:gx x.sign y.sign=gx x y:=by
     rcases lJ x with ⟨e,G⟩|⟨e,G⟩|⟨e,G⟩<;>rcases lJ y with ⟨e',J⟩|⟨e',J⟩|⟨e',J⟩<;>rw[e,e'] at Q ⊢<;>first|omega|(rw[Bp (show x<y by omega)];rfl)|(rw[Fm (show y<x by omega)];rfl)
    simp only[go_sem,go_sem_proc,ed,o5,gM,X,aZ,bt,bz,rh,jj];repeat' (first|refine al ?_ ?_|fail)<;>intro h<;>simp only[h,go_sem,go_sem_proc,ed,o5,gM,X,aZ,bt,bz,rh,jj]
  ·have aZ:di (s2,aa)=false:=by simpa using aZ
   have hm:pb (s,l) (s2,aa)=0:=by unfold pb;rw[aZ,jB];rfl
   rw[hm];simp only[go_sem,go_sem_proc,ed,o5,gM,X,aZ,bt,bz];repeat' (first|refine al ?_ ?_|fail)<;>intro h<;>simp only[h,go_sem,go_sem_proc,ed,o5,gM,X,aZ,bt,bz]
 ·have X:di (s,l)=false:=by simpa using X
  have hm:pb (s,l) (s2,aa)=0:=by unfold pb;rw[X,fr];rfl
  rw[hm];simp only[go_sem,go_sem_proc,ed,o5,gM,X,bt,bz];repeat' (first|refine al ?_ ?_|fail)<;>intro h<;>simp only[h,go_sem,go_sem_proc,ed,o5,gM,X,bt,bz]
def ml (a b:Raw):Raw×Int:=if (di a&&di b)=true then (bd (hg (hs a).natAbs (hs b).natAbs:Nat),0) else ((0,[]),1)
theorem Iv {x y:Int}(M:x.natAbs<dP)(ao:y.natAbs<dP):hg x.natAbs y.natAbs<dP:=by
 rcases k3 x.natAbs with h|h
 ·rw[h,Nat.gcd_zero_left];exact ao
 ·exact vg (Nat.gcd_le_left _ h) M
def Qx:=cy rf λ(s,l,s2,aa)=>cT (D l<=1000000/\D aa<=1000000) (.same (dD (ml (s,l) (s2,aa))))
@[go_sem] theorem aJc (s:Int)(l:List Int)(s2:Int)(aa:List Int)(H:(D l)<=1000000/\D aa<=1000000):Qx [.agg [.int .i64 s,.Y (l.map ae)],.agg [.int .i64 s2,.Y (aa.map ae)]]=some (.same (dD (ml (s,l) (s2,aa)))):=(cF s4 (s,l,s2,aa)).trans (cY H _)
theorem atd (T:bm)(ed:T mc=aO x4)(fw:T wK=aO CW)(pc:T Lw=aO Qf)(fV:T qw=aO CX)(nU:T wJ=aO Ma)(s:Int)(l:List Int)(s2:Int)(aa:List Int)(H:(D l)<=1000000/\D aa<=1000000):WP T Wj (.same (dD (ml (s,l) (s2,aa)))) [.I (.agg [.int .i64 s,.Y (l.map ae)]),.I (.agg [.int .i64 s2,.Y (aa.map ae)])]:=by
 refine cH ?_;simp only[Wj];obtain⟨bt,bz⟩:=H
 by_cases X:di (s,l)=true
 ·by_cases aZ:di (s2,aa)=true
  ·obtain⟨x,M,e⟩:=(ib _).1 X;obtain⟨y,ao,aA⟩:=(ib _).1 aZ
   have hm:ml (s,l) (s2,aa)=(bd (hg x.natAbs y.natAbs:Nat),0):=by
    rw[e,aA];unfold ml
    rw[lb M,lb ao,fe,fe]
    rfl
   rw[hm];clear hm
   cases e
   cases aA;have lH:=oy M;have k7:=oy ao;have bq:=Iv M ao;generalize jN:x.natAbs=cr at *;generalize Bq:y.natAbs=hQ at *;have Iw:(aL cr).length<=1000000:=by omega
   simp only[go_sem,go_sem_proc,ed,fw,pc,fV,nU,X,aZ,jN,Bq,bt,bz,Iw,ae,ah];refine c9 [4] [137004] (λ((a,b):Nat×Nat) tm mem=>a<dP/\b<dP/\hg cr hQ=hg a b/\tm 6=.I (.Y ((aL a).map ae))/\tm 7=.I (.Y ((aL b).map ae))) (λ(_,b)=>b) (cr,hQ) (by refine⟨M,ao,rfl,rfl,rfl⟩) ?_;intro vs ms aK aF;simp only[go_sem,go_sem_proc,ed,fw,pc,fV,nU,jN,Bq] at aK aF;subst aK aF;rintro⟨a,b⟩ tm mem L hm ⟨a4,ai,yi,bK,bE⟩;simp only[go_sem,go_sem_proc,ed,fw,pc,fV,nU,bf] at L hm;have aP:=L;have mb:(aL a).length<=60:=g3.2 a4;have ou:(aL b).length<=60:=g3.2 ai;rcases k3 b with aj|iX
   ·subst aj;have a2:aL 0=[]:=rfl;have XC:(aL a).length<=1000000:=by omega
    rw[Nat.gcd_zero_right] at yi;have Q:jM 1 (aL a)=bd ((a:Nat):Int):=ox (by simp) λaM=>(ht (by omega)).symm;have L:pU ((a:Nat):Int)=(bd ((a:Nat):Int),0):=by unfold pU;rw[ad (by simpa using a4)]
    rw[yi];refine a1 ?_;repeat' (intro h<;>simp only[h,go_sem,go_sem_proc,ed,fw,pc,fV,nU,aP,bK,bE,hm,a2,XC,Q,L,pV,bU,dD,jQ,b6,og,mC,m3,show ¬ ((0:Int)>0) by omega,decide_false]<;>try refine al ?_ ?_)
   ·have b5:decide (((aL b).length:Int)>0)=true:=by
     have:aL b≠[]:=by rw[Ne,A8];omega
     have:=Me.2 this;exact c5
    have hdiv:=agT a b ⟨by omega,by omega,iX⟩
    simp only[cb] at hdiv;refine a1 ?_;repeat' (intro h<;>simp only[h,go_sem,go_sem_proc,ed,fw,pc,fV,nU,aP,bK,bE,hm,b5,hdiv,ah]<;>try refine al ?_ ?_)
    exact⟨(b,a%b),pS _ iX,ai,vg (Nat.mod_le _ _) a4,by dsimp only;rw[yi,Mf a b,Nat.gcd_rec b a,Mf],rfl,rfl⟩
  ·have aZ:di (s2,aa)=false:=by simpa using aZ
   have hm:ml (s,l) (s2,aa)=((0,[]),1):=by unfold ml;rw[aZ,jB];rfl
   rw[hm];have pW:=Ir false 0 [];simp only[b6] at pW;refine a1 ?_;repeat' (intro h<;>simp only[h,go_sem,go_sem_proc,ed,fw,pc,fV,nU,X,aZ,bt,bz,pW,bU,dD,b6]<;>try refine al ?_ ?_)
 ·have X:di (s,l)=false:=by simpa using X
  have hm:ml (s,l) (s2,aa)=((0,[]),1):=by unfold ml;rw[X,fr];rfl
  rw[hm];have pW:=Ir false 0 [];simp only[b6] at pW;refine a1 ?_;repeat' (intro h<;>simp only[h,go_sem,go_sem_proc,ed,fw,pc,fV,nU,X,bt,bz,pW,bU,dD,b6]<;>try refine al ?_ ?_)
def lK (a b:Raw):Raw×Raw×Int :=
 if (di a&&di b)=true then
  if hs b=0 then ((0,[]),(0,[]),15) else (bd ((hs a).fdiv (hs b)),bd ((hs a).fmod (hs b)),0)
 else ((0,[]),(0,[]),1)
def gK (x:Raw×Raw×Int):Data:=.cB [.agg (bU x.1),.agg (bU x.2.1),.int .i64 x.2.2]
theorem ag7 {x y q r:Int}(h:r+y*q=x)(X:(0<=r/\r<y)\/(y<r/\r<=0)):x.fdiv y=q/\x.fmod y=r:=by
 rcases X with ⟨G,J⟩|⟨G,J⟩
 ·exact (Int.fdiv_fmod_unique (by omega)).2 ⟨h,G,J⟩
 ·exact (Int.fdiv_fmod_unique' (by omega)).2 ⟨h,G,J⟩
theorem Qy {x y:Int}(h:x.sign*y.sign<0)(hm:x.natAbs%y.natAbs≠0):
  x.fdiv y = -((x.natAbs/y.natAbs+1:Nat):Int)/\x.fmod y=y.sign*((y.natAbs-x.natAbs%y.natAbs:Nat):Int):=by
 have J:=PH x.natAbs y.natAbs;generalize fF:x.natAbs/y.natAbs=aU at *;generalize iF:x.natAbs%y.natAbs=bV at *
 have ao:0<y.natAbs:=by
  rcases k3 y.natAbs with aj|aj
  ·rw[Int.natAbs_eq_zero.1 aj] at h;simp at h
  ·exact aj
 have av:bV<y.natAbs:=by rw[<-iF];exact pS _ ao
 have xR:(y.natAbs:Int)*aU+bV=x.natAbs:=by exact_mod_cast J
 refine ag7 ?_ ?_
 ·rcases lJ x with ⟨e,G⟩|⟨e,G⟩|⟨e,G⟩<;>rcases lJ y with ⟨e',af⟩|⟨e',af⟩|⟨e',af⟩<;>rw[e,e'] at h<;>first|omega|rw[e']
  ·rw[ag8 (by omega),ag9,Ic,jl];have:(y.natAbs:Int) = -y:=by omega
   rw[this] at xR ⊢;rw[Fg] at xR;omega
  ·rw[ag8 (by omega),ag9,Ic,jl];have:(y.natAbs:Int)=y:=by omega
   rw[this] at xR ⊢;omega
 ·rcases lJ y with ⟨e',af⟩|⟨e',af⟩|⟨e',af⟩<;>rw[e']<;>omega
theorem Qz {x y:Int}(ao:y≠0)(h:¬ (x.sign*y.sign<0/\x.natAbs%y.natAbs≠0)):
  x.fdiv y=x.sign*y.sign*((x.natAbs/y.natAbs:Nat):Int)/\x.fmod y=x.sign*((x.natAbs%y.natAbs:Nat):Int):=by
 have J:=PH x.natAbs y.natAbs;have av:x.natAbs%y.natAbs<y.natAbs:=pS _ (by omega);generalize fF:x.natAbs/y.natAbs=aU at *;generalize iF:x.natAbs%y.natAbs=bV at *;have xR:(y.natAbs:Int)*aU+bV=x.natAbs:=by exact_mod_cast J
 refine ag7 ?_ ?_
 ·rcases lJ x with ⟨e,G⟩|⟨e,G⟩|⟨e,G⟩<;>rcases lJ y with ⟨e',af⟩|⟨e',af⟩|⟨e',af⟩<;>first|omega|(rw[e,e'])
  ·rw[show (y.natAbs:Int)=y by omega] at xR;simp only[o8];omega
  ·rw[show (y.natAbs:Int) = -y by omega,Fg] at xR;simp only[o8,Fg,Ic];omega
  ·simp only[vo,vk];omega
  ·simp only[vo,vk];omega
  ·rw[show (y.natAbs:Int)=y by omega] at xR;simp only[o8,Fg,Ic,sY];omega
  ·rw[show (y.natAbs:Int) = -y by omega,Fg] at xR;simp only[o8,Fg,Ic,Int.neg_neg];omega
 ·have asP:x.natAbs=0->bV=0:=by
   intro aj;rw[<-iF,aj,aha]
  rcases lJ x with ⟨e,G⟩|⟨e,G⟩|⟨e,G⟩<;>rcases lJ y with ⟨e',af⟩|⟨e',af⟩|⟨e',af⟩<;>rw[e,e'] at h<;>rw[e]<;>omega
theorem Ix {x y:Int}(M:x.natAbs<dP)(jO:y≠0):(x.fdiv y).natAbs<dP:=by
 by_cases h:x.sign*y.sign<0/\x.natAbs%y.natAbs≠0
 ·have aD:=(Qy h.1 h.2).1;have J:=PH x.natAbs y.natAbs
  have:x.natAbs/y.natAbs+1<=x.natAbs:=by
   have ahb:2<=y.natAbs:=by
    rcases hn y.natAbs 2 with aj|aj
    ·have:y.natAbs=1:=by omega
     rw[this,Nat.mod_one] at h;exact absurd rfl h.2
    ·exact aj
   have af:2*(x.natAbs/y.natAbs)<=y.natAbs*(x.natAbs/y.natAbs):=o0 _ ahb;omega
  generalize x.natAbs/y.natAbs=aU at *;omega
 ·have aD:=(Qz jO h).1;have af:x.natAbs/y.natAbs<=x.natAbs:=ahc _ _
  have aP:(x.fdiv y).natAbs<=x.natAbs/y.natAbs:=by
   rw[aD,ug,ug,lL];have G:x.sign.natAbs<=1:=by have:=oz x;omega
   have J:y.sign.natAbs<=1:=by have:=oz y;omega
   have:=Nat.mul_le_mul G J;have:=o0 (x.natAbs/y.natAbs) this;omega
  omega
theorem ahd {x y:Int}(ao:y.natAbs<dP)(jO:y≠0):(x.fmod y).natAbs<dP:=by
 by_cases h:x.sign*y.sign<0/\x.natAbs%y.natAbs≠0
 ·have aD:=(Qy h.1 h.2).2;rcases lJ y with ⟨e',af⟩|⟨e',af⟩|⟨e',af⟩<;>rw[e'] at aD<;>omega
 ·have aD:=(Qz jO h).2;have av:x.natAbs%y.natAbs<y.natAbs:=pS _ (by omega);rcases lJ x with ⟨e',af⟩|⟨e',af⟩|⟨e',af⟩<;>rw[e'] at aD<;>omega
theorem Br {x y:Int}(M:x.natAbs<dP)(ao:y.natAbs<dP)(aj:y≠0):lK (bd x) (bd y)=(bd (x.fdiv y),bd (x.fmod y),0):=by
 unfold lK;rw[lb M,lb ao,fe,fe,ad (by rfl),ag aj]
def QA:=cy rf λ(s,l,s2,aa)=>cT (D l<=1000000/\D aa<=1000000) (.same (gK (lK (s,l) (s2,aa))))
@[go_sem] theorem aJd (s:Int)(l:List Int)(s2:Int)(aa:List Int)(H:(D l)<=1000000/\D aa<=1000000):QA [.agg [.int .i64 s,.Y (l.map ae)],.agg [.int .i64 s2,.Y (aa.map ae)]]=some (.same (gK (lK (s,l) (s2,aa)))):=(cF s4 (s,l,s2,aa)).trans (cY H _)
theorem ate (T:bm)(ed:T mc=aO x4)(pc:T Lw=aO Qf)(nx:T Lz=aO P7)(ny:T HS=aO P8)(fV:T qw=aO CX)(s:Int)(l:List Int)(s2:Int)(aa:List Int)(H:(D l)<=1000000/\D aa<=1000000):WP T Wn (.same (gK (lK (s,l) (s2,aa)))) [.I (.agg [.int .i64 s,.Y (l.map ae)]),.I (.agg [.int .i64 s2,.Y (aa.map ae)])]:=by
 refine cH ?_;simp only[Wn];obtain⟨bt,bz⟩:=H
 by_cases X:di (s,l)=true
 ·by_cases aZ:di (s2,aa)=true
  ·obtain⟨x,M,e⟩:=(ib _).1 X;obtain⟨y,ao,aA⟩:=(ib _).1 aZ
   by_cases jO:y=0
   ·have hm:lK (s,l) (s2,aa)=((0,[]),(0,[]),15):=by
     rw[e,aA];unfold lK
     rw[lb M,lb ao,fe,fe,ad (by rfl),ad jO]
    rw[hm]
    cases e
    cases aA;have aj:((y.sign:Int)==0)=true:=by rw[jO];rfl
    simp only[go_sem,go_sem_proc,ed,pc,nx,ny,fV,X,aZ,bt,bz,aj,bU,gK,b6];repeat' (first|refine al ?_ ?_|fail)<;>intro h<;>simp only[h,go_sem,go_sem_proc,ed,pc,nx,ny,fV,X,aZ,bt,bz,aj,bU,gK,b6]
   ·have hm:lK (s,l) (s2,aa)=(bd (x.fdiv y),bd (x.fmod y),0):=by
     rw[e,aA];exact Br M ao jO
    rw[hm];clear hm
    cases e
    cases aA;have lH:=oy M;have k7:=oy ao;have vp:(y.sign==0)=false:=by rw[beq_eq_false_iff_ne,Ne,Int.sign_eq_zero_iff_zero];exact jO
    have Fo:0<y.natAbs:=by omega
    have G:=oz x;have J:=oz y;have aC:x.sign*y.sign=(x*y).sign:=(pa x y).symm;have af:=oz (x*y);have hw:IntKind.i64.wrap (x.sign*y.sign)=x.sign*y.sign:=by rw[aC];exact wrap64 _ (by omega) (by omega)
    have hdiv:=agT x.natAbs y.natAbs ⟨by omega,by omega,Fo⟩
    simp only[cb] at hdiv;have bF:=Ix (y:=y) M jO;have r9:=ahd (x:=x) ao jO;have XD:x.natAbs/y.natAbs<dP:=vg (ahc _ _) M;have atf:(aL (x.natAbs/y.natAbs)).length<=60:=g3.2 XD;have zJ:x.natAbs%y.natAbs<dP:=Nat.lt_trans (pS _ Fo) ao;have atg:(aL (x.natAbs%y.natAbs)).length<=60:=g3.2 zJ
    by_cases vq:x.sign*y.sign<0/\x.natAbs%y.natAbs≠0
    ·obtain⟨eq,vr⟩:=Qy vq.1 vq.2
     have b5:decide (((aL (x.natAbs%y.natAbs)).length:Int)>0)=true:=by
      have:aL (x.natAbs%y.natAbs)≠[]:=by rw[Ne,A8];exact vq.2
      have:=Me.2 this;exact c5
     have lD:decide (x.sign*y.sign<0)=true:=jw vq.1;have k8:aL 1=[1]:=by simp[aL,zu]
     have ath:(aL 1).length=1:=by rw[k8];rfl
     have lI:=ago (x.natAbs/y.natAbs) 1 ⟨by omega,by omega⟩
     simp only[cb,k8,eI,b6,ae] at lI;have jP:=W3 y.natAbs (x.natAbs%y.natAbs) ⟨by omega,Nat.le_of_lt (pS _ Fo)⟩
     simp only[cb] at jP
     have mb:(aL (x.natAbs/y.natAbs+1)).length<=1000000:=by
      have:(x.natAbs/y.natAbs+1)<dP:=by rw[eq] at bF;rw[yj,lL] at bF;exact bF
      have:=(g3 (k:=60)).2 this;omega
     have ou:(aL (y.natAbs-x.natAbs%y.natAbs)).length<=1000000:=by have:=It y.natAbs (x.natAbs%y.natAbs);omega
     have hR:jM (-1) (aL (x.natAbs/y.natAbs+1))=bd (x.fdiv y):=ox (by rw[eq,yj,lL]) λ_=>by rw[eq,Fh,ht (show (0:Int)<((x.natAbs/y.natAbs+1:Nat):Int) by exact C9.2 (Nat.succ_pos _))]
     have lM:jM y.sign (aL (y.natAbs-x.natAbs%y.natAbs))=bd (x.fmod y):=by
      refine ox ?_ λaM=>?_
      ·rw[vr];rcases lJ y with ⟨e',af⟩|⟨e',af⟩|⟨e',af⟩<;>rw[e']<;>omega
      ·rw[vr,pa,Bs,ht (show (0:Int)<((y.natAbs-x.natAbs%y.natAbs:Nat):Int) by omega),sY]
     simp only[go_sem,go_sem_proc,ed,pc,nx,ny,fV,X,aZ,bt,bz,vp,hw,hdiv,b5,lD,lI,jP,mb,ou,hR,lM,ae,ah,bU,gK,jQ];repeat' (first|refine al ?_ ?_|fail)<;>intro h<;>simp only[h,go_sem,go_sem_proc,ed,pc,nx,ny,fV,X,aZ,bt,bz,vp,hw,hdiv,b5,lD,lI,jP,mb,ou,hR,lM,ae,ah,bU,gK,jQ]
    ·obtain⟨eq,vr⟩:=Qz jO vq
     have XE:(decide (x.sign*y.sign<0)=true/\decide (((aL (x.natAbs%y.natAbs)).length:Int)>0)=false)\/decide (x.sign*y.sign<0)=false:=by
      by_cases aM:x.sign*y.sign<0
      ·left
       have:x.natAbs%y.natAbs=0:=Decidable.not_not.1 λh=>vq ⟨aM,h⟩;rw[this];exact⟨jw aM,rfl⟩
      ·right;exact kY aM
     have mb:(aL (x.natAbs/y.natAbs)).length<=1000000:=by omega
     have ou:(aL (x.natAbs%y.natAbs)).length<=1000000:=by omega
     have hR:jM (x.sign*y.sign) (aL (x.natAbs/y.natAbs))=bd (x.fdiv y):=by
      refine ox ?_ λaM=>?_
      ·rw[eq]
       have Fp:∀aU:Nat,(x=0->aU=0)->(x.sign*y.sign*(aU:Int)).natAbs=aU:=by
        intro aU aj;rcases lJ x with ⟨e,G⟩|⟨e,G⟩|⟨e,G⟩<;>rcases lJ y with ⟨e',af⟩|⟨e',af⟩|⟨e',af⟩<;>rw[e,e']<;>first|omega|(rw[aj G];rfl)
       exact Fp _ λaj=>by rw[aj];exact Nat.zero_div _
      ·rw[eq,aC,pa,pa,pa,Bs,Bs,ht (show (0:Int)<((x.natAbs/y.natAbs:Nat):Int) from C9.2 (HM aM)),sY]
     have lM:jM x.sign (aL (x.natAbs%y.natAbs))=bd (x.fmod y):=by
      refine ox ?_ λaM=>?_
      ·rw[vr]
       have Fp:∀aU:Nat,(x=0->aU=0)->(x.sign*(aU:Int)).natAbs=aU:=by
        intro aU aj;rcases lJ x with ⟨e,G⟩|⟨e,G⟩|⟨e,G⟩<;>rw[e]<;>first|omega|(rw[aj G];rfl)
       exact Fp _ λaj=>by rw[aj];exact aha _
      ·rw[vr,pa,Bs,ht (show (0:Int)<((x.natAbs%y.natAbs:Nat):Int) from C9.2 (HM aM)),sY]
     rcases XE with ⟨yk,Mg⟩|yk
     ·simp only[go_sem,go_sem_proc,ed,pc,nx,ny,fV,X,aZ,bt,bz,vp,hw,hdiv,yk,Mg,mb,ou,hR,lM,ae,ah,bU,gK,jQ];repeat' (first|refine al ?_ ?_|fail)<;>intro h<;>simp only[h,go_sem,go_sem_proc,ed,pc,nx,ny,fV,X,aZ,bt,bz,vp,hw,hdiv,yk,Mg,mb,ou,hR,lM,ae,ah,bU,gK,jQ]
     ·simp only[go_sem,go_sem_proc,ed,pc,nx,ny,fV,X,aZ,bt,bz,vp,hw,hdiv,yk,mb,ou,hR,lM,ae,ah,bU,gK,jQ];repeat' (first|refine al ?_ ?_|fail)<;>intro h<;>simp only[h,go_sem,go_sem_proc,ed,pc,nx,ny,fV,X,aZ,bt,bz,vp,hw,hdiv,yk,mb,ou,hR,lM,ae,ah,bU,gK,jQ]
  ·have aZ:di (s2,aa)=false:=by simpa using aZ
   have hm:lK (s,l) (s2,aa)=((0,[]),(0,[]),1):=by unfold lK;rw[aZ,jB];rfl
   rw[hm];simp only[go_sem,go_sem_proc,ed,pc,nx,ny,fV,X,aZ,bt,bz,bU,gK,b6];repeat' (first|refine al ?_ ?_|fail)<;>intro h<;>simp only[h,go_sem,go_sem_proc,ed,pc,nx,ny,fV,X,aZ,bt,bz,bU,gK,b6]
 ·have X:di (s,l)=false:=by simpa using X
  have hm:lK (s,l) (s2,aa)=((0,[]),(0,[]),1):=by unfold lK;rw[X,fr];rfl
  rw[hm];simp only[go_sem,go_sem_proc,ed,pc,nx,ny,fV,X,bt,bz,bU,gK,b6];repeat' (first|refine al ?_ ?_|fail)<;>intro h<;>simp only[h,go_sem,go_sem_proc,ed,pc,nx,ny,fV,X,bt,bz,bU,gK,b6]
end Go.Mini
