/- A part of the proof. -/
import Derived.Laws.BitsLemmas
import Derived.ChangeSame
import Derived.Handed
import Derived.JoinedOf
import Derived.JoinedCond
import Derived.OpenShut
import Derived.ProofKit
import Derived.Test.YtkfoalgfjchcfaaGreatM01
set_option linter.unusedSimpArgs false
set_option linter.unusedVariables false
set_option maxRecDepth 100000
set_option maxHeartbeats 4000000
noncomputable section
open Bool renaming and_eq_true->e3,and_false->hy,and_true->tE,false_and->fC,false_eq_true->kh,false_or->yk,not_false->cv,not_true->ca,or_false->nT,or_true->tD,true_and->hP,true_or->yj
open Classical renaming choose->yi,choose_spec->oX
open Decidable renaming em->dQ
open Int renaming add_comm->wM,add_mul->sE,add_mul_ediv_left->abh,add_mul_emod_self_left->abj,add_zero->tV,bmod_def->aaJ,cast_ofNat_Int->lg,ediv_eq_zero_of_lt->Ss,ediv_lt_of_lt_mul->abk,ediv_nonneg->B7,emod_add_mul_ediv->z8,emod_emod_of_dvd->aaK,emod_eq_of_lt->St,emod_lt_of_pos->Sv,emod_nonneg->EJ,lt_trichotomy->wO,mul_add->h2,mul_assoc->h3,mul_comm->mN,mul_le_mul->EF,mul_le_mul_of_nonneg_left->yy,mul_le_mul_of_nonneg_right->me,mul_left_comm->Sw,mul_neg->EK,mul_nonneg->qG,mul_one->tO,mul_right_comm->Ag,mul_sub->EE,mul_zero->sH,natAbs_mul->qI,natAbs_natCast->ml,natAbs_neg->I4,natCast_add->abU,natCast_ediv->abg,natCast_emod->abi,natCast_mul->abE,natCast_pos->Aq,natCast_pow->B8,natCast_zero->kR,neg_mul->Cd,ofNat_sub->abT,one_mul->nt,pow_add->abe,pow_pos->ER,pow_succ->mM,sign_eq_neg_one_of_neg->pQ,sign_eq_one_of_pos->jd,sign_mul->pR,sign_mul_natAbs->SS,sign_neg->Ce,sign_sign->yL,sign_trichotomy->abP,sub_mul->abw,sub_zero->II,tdiv_eq_ediv_of_nonneg->yD,tmod_eq_emod_of_nonneg->Aa,toNat->BO,toNat_natCast->gX,zero_add->B6,zero_mul->wX
open List renaming all_cons->Ee,all_eq_true->oj,append_assoc->gN,append_inj->Ey,append_nil->h1,concat_eq_append->En,cons_append->lP,drop->h4,drop_append->pK,drop_drop->D9,drop_eq_getElem_cons->hW,drop_eq_nil_of_le->k7,drop_left->QN,drop_length->QQ,drop_set_of_lt->sj,drop_zero->nk,eq_nil_of_length_eq_zero->sf,eq_nil_or_concat->Em,flatMap_cons->o0,flatten_cons->kL,getElem?_append->DQ,getElem?_drop->uQ,getElem?_eq_getElem->bs,getElem?_eq_some_iff->dK,getElem?_map->a5,getElem?_take_of_lt->oV,getElem_set_self->yz,length->D,length_append->hr,length_cons->kf,length_drop->pL,length_eq_one_iff->aaf,length_map->aj,length_nil->mJ,length_pos_iff->Ap,length_range->rm,length_set->ja,length_take->hh,mapM_cons->oi,mapM_nil->aan,map_cons->e5,map_nil->cl,mem_append->jK,mem_attach->aak,mem_cons->nU,mem_flatMap->BD,mem_iff_getElem?->tF,mem_map->fO,mem_of_getElem?->eL,mem_of_mem_drop->IU,mem_of_mem_take->DW,mem_range->hk,mem_replicate->EG,mem_singleton->yG,nil_append->iM,range->dL,replicate->eu,replicate_succ->uR,take->hA,take_add_one->ks,take_append_drop->zX,take_left->QM,take_of_length_le->dD,take_succ_cons->Ed,take_zero->oY
open List.cons renaming inj->vb,injEq->bh
open Nat renaming add_assoc->sa,add_mul->px,add_sub_cancel_left->Ej,add_zero->om,and_two_pow_sub_one_eq_mod->aaL,div_add_mod->LS,div_eq_of_lt->QP,div_le_self->abW,div_lt_iff_lt_mul->aaI,eq_zero_or_pos->jm,gcd->iO,gcd_comm->I3,le_refl->bP,le_trans->eF,lt_of_le_of_lt->sD,lt_or_ge->hV,min_eq_left->nQ,mod_eq_of_lt->Ia,mod_lt->nV,mul_comm->sr,mul_le_mul_left->abG,mul_le_mul_right->rh,mul_one->cM,pos_of_ne_zero->Eo,pow_le_pow_right->wQ,pow_succ->u3,strongRecOn->QE,zero_add->oP,zero_le->fr,zero_mod->abV,zero_mul->LR
open Option renaming bind_eq_bind->hf,bind_eq_some_iff->eo,bind_some->oZ,map_eq_some_iff->ei,map_some->jo,pure_def->g4
open Option.some renaming inj->ni,injEq->cb
open Prod renaming ext->eS,ext_iff->B1
open Prod.mk renaming injEq->fu
namespace Go.Mini
open Go
variable {P:Program} {T:bk} {A:Nat->Prop} {dt w:World} {gW B:eK} {mem:Mem} {n kb:Nat} {own:List Nat}
theorem alB {a:Act}{st:a2}{r:ResultVar}{ee:nL}{m:M}(Q:hj n A dt gW a st w B)(aU:DO P r=some ee)(h:DI st ee=some m):
  ∃v,((match r with
   |.tmp t=>pure (a.tmps.getD t undef)
   |.cell b t=>do loadVar t (<-asAddr (a.tmps.getD b undef)):Sem Value)).run P w=.ok v w/\bo w (cj A B) B m v:=by
 cases r with
 |tmp t =>
  simp only[DO,cb] at aU;subst aU;simp only[DI,cb] at h;subst h;exact⟨_,rfl,Q.tm t⟩
 |cell b t =>
  simp only[DO] at aU
  split at aU
  ·rename_i s g eU x5;simp only[cb] at aU;subst aU;obtain⟨dp,off,ms,vs,aI,au,bX,bF,Y⟩:=YU Q.ok.ee (Q.tm b) h;obtain⟨u,E,H⟩:=YT (P:=P) eU x5 au bX bF Y;refine⟨u,?_,H⟩;have:a.tmps.getD b undef=.pointer (some ⟨dp,off,none⟩):=aI;simp only[this,asAddr,Sem.run_bind,Sem.run_pure,Result.andThen_ok];exact E
  ·cases aU
theorem aad {a:Act}{st:a2}(Q:hj n A dt gW a st w B):∀{l:List ResultVar} {rs:List nL} {ms:List M},l.mapM (DO P)=some rs->rs.mapM (DI st)=some ms ->
  ∃vs:List Value,(l.mapM λr=>((match r with
   |.tmp t=>pure (a.tmps.getD t undef)
   |.cell b t=>do loadVar t (<-asAddr (a.tmps.getD b undef)):Sem Value))).run P w=.ok vs w/\c9 w (cj A B) B ms vs
 | [],rs,ms,E,H=>by
  simp at E;subst E;simp at H;subst H;exact⟨[],rfl,c9.nil⟩
 |r::l,rs,ms,E,H=>by
  simp only[oi,g4,hf,eo,cb] at E;obtain⟨x,O,xs,zS,rfl⟩:=E;simp only[oi,g4,hf,eo,cb] at H;obtain⟨m,hm,aA5,aR,rfl⟩:=H;obtain⟨v,aI,Y⟩:=alB Q O hm;obtain⟨vs,aV,bX⟩:=aad Q zS aR;refine⟨v::vs,?_,c9.cons Y bX⟩;simp only[oi,Sem.run_bind,aI,Result.andThen_ok,aV,Sem.run_pure]
theorem aae {a:Act}{st:a2}{fn:Func}{rs:List nL}{m:M}(Q:hj n A dt gW a st w B)(aU:fn.results.toList.mapM (DO P)=some rs)(h:oN st rs=some m):
  ∃v,(results fn a.tmps).run P w=.ok v w/\bo w (cj A B) B m v:=by
 unfold oN at h
 have main:∀ms,rs.mapM (DI st)=some ms->∃vs:List Value,(results fn a.tmps).run P w=.ok (if h:vs.toArray.size=1 then vs.toArray[0] else .tuple vs.toArray) w/\c9 w (cj A B) B ms vs:=by
  intro ms aR;obtain⟨vs,E,H⟩:=aad Q aU aR;refine⟨vs,?_,H⟩;unfold results;rw[Array.mapM_eq_mapM_toList,map_eq_pure_bind];simp only[Sem.run_bind,Sem.run_pure];have ye:=E;generalize bd:(List.mapM _ fn.results.toList:Sem (List Value))=q;have:q.run P w=.ok vs w:=by rw[<-bd];exact ye
  rw[this]
  rfl
 split at h
 ·rename_i x aR;simp only[cb] at h;subst h;obtain⟨vs,E,H⟩:=main _ aR;have au:=H.1;simp at au;obtain⟨v,rfl⟩:=aaf.1 au;exact⟨v,E,H.2 0 _ v rfl rfl⟩
 ·rename_i ms bN aR;simp only[cb] at h;subst h;obtain⟨vs,E,H⟩:=main _ aR;have au:=H.1;refine⟨_,E,?_⟩
  have:¬ (vs.toArray.size=1):=λh=>by
   have b2:(D ms)=1:=by rw[<-au];simpa using h
   obtain⟨x,rfl⟩:=aaf.1 b2;exact bN x rfl
  rw[dif_neg this];exact .cw au H.2
 ·cases h
def QB (mf:b1)(Post:M->Mem->Prop):ev->a2->Prop
 |.exit _,_=>False
 |_,st=>∃m,oN st mf.res=some m/\Post m st.mem
theorem H3 (cE:qy P T)(hm:P.follows .mixedOrders=true){f:FuncId}{fn:Func}{mf:b1}(aJ:P.funcs[f]?=some fn)(aU:r9 P kb own fn=some { mf with body:=erase mf.body }){args:List M}(pI:(D args)<=mf.n)
  {Post:M->Mem->Prop} {K:ev->a2->Prop} (du:∀e st,K e st->QB mf Post e st) (h:wp T mf.body K ⟨mA args,mem⟩) {A:Nat->Prop} {w:World} {B:eK} {vs:List Value} (bT:fl A w B mem) (aI:c9 w (cj A B) B args vs) :
  Calls P f vs.toArray w λe aN=>∃v m mem' bq,e=.returned v/\eG A w B aN bq mem'/\bo aN (cj A bq) bq m v/\Post m mem':=by
 unfold r9 at aU
 split at aU
 ·cases aU
 ·rename_i c ae
  split at aU
  ·rename_i b rs G zT;simp only[cb,b1.mk.injEq] at aU;obtain⟨aG,aA6,tC,alC⟩:=aU;have eU:(D vs)=D args:=aI.1;refine calls_of_wp aJ ae ?_;rw[alC] at G;refine zR cE hm mf.body c K _ ⟨mA args,mem⟩ _ w B G ⟨.refl bT,λs=>?_,?_,rfl⟩ h λe st a aN bq ma Q=>?_
   ·simp only[mA,Act.eval,Array.getD_eq_getD_getElem?];rcases hV s (D vs) with aq|ck
    ·have E:args[s]?=some args[s]:=bs (by omega)
     have H:(vs.toArray++Array.replicate (fn.ntmps-vs.toArray.size) undef)[s]?=some vs[s]:=by
      rw[Array.getElem?_append_left (by simpa using aq)];simp[aq]
     rw[E,H];exact aI.2 s _ _ E (bs aq)
    ·rw[List.getElem?_eq_none (by omega),Array.getElem?_append_right (by simpa using ck)]
     have:((Array.replicate (fn.ntmps-vs.toArray.size) undef)[s-vs.toArray.size]?).getD undef=undef:=by
      cases bd:(Array.replicate (fn.ntmps-vs.toArray.size) undef)[s-vs.toArray.size]? with
      |none=>rfl
      |some u =>
       have:=Array.mem_of_getElem? bd;simp at this;simp[this.2]
     rw[this];exact .no
   ·simp;omega
   ·have J:=du e st ma
    cases e with
    |exit id=>cases J
    |normal =>
     obtain⟨m,yb,aB⟩:=J;obtain⟨v,l7,Bu⟩:=aae Q zT (by rw[tC];exact yb);exact⟨Q.HN,v,l7,v,m,_,bq,rfl,Q.ok,Bu,aB⟩
    |ret =>
     obtain⟨m,yb,aB⟩:=J;obtain⟨v,l7,Bu⟩:=aae Q zT (by rw[tC];exact yb);exact⟨Q.HN,v,l7,v,m,_,bq,rfl,Q.ok,Bu,aB⟩
  ·cases aU
inductive ez where
 |same (r:Data)
 |own (sz:Nat) (es:List (List Data))
def yf (w:World)(aO:Nat->Prop)(ds:List Data)(vs:List Value):Prop:=D vs=D ds/\∀(i:Nat) (d:Data) (v:Value),ds[i]?=some d->vs[i]?=some v->Den w aO d v
def alD (w aN:World)(aO:Nat->Prop):ez->Value->Prop
 |.same r,v=>Den aN aO r v
 |.own sz es,v=>zN w aN aO sz es v
structure sq (P:Program) (f:FuncId) (aP:List Data->Option ez):Prop where
 real:Real P f
 run:∀ds r,aP ds=some r->∀(A:Nat->Prop) (w:World) (vs:List Value),(∀b,A b->b<w.heap.size)->yf w A ds vs ->
  Calls P f vs.toArray w λe aN=>∃v,e=.returned v/\Fr (λ_=>False) w aN/\alD w aN A r v
def aag:ez->M->Mem->Prop
 |.same r,m,mem=>∃d,c8 d mem m=some r
 |.own sz es,m,mem=>(m=.nil/\es=[])\/∃k g len cs ds d,m=.ref k g sz 0 len/\mem k=some (g,cs)/\len*sz<=D cs/\(cs.take (len*sz)).mapM (c8 d (kill mem k))=some ds/\es=chunk sz len ds
def oW (sz:Nat)(mem:Mem):M->Option (List (List Data))
 |.nil=>some []
 |.ref k g dX off len=>if dX=sz/\off=0 then (match mem k with
  |some (dh,cs)=>if dh=g/\len*sz<=(D cs) then ((cs.take (len*sz)).mapM (c8 6 (kill mem k))).map (chunk sz len) else none
  |none=>none) else none
 |_=>none
def yg (res:List nL):ez->a2->Prop
 |.same r,st=>(oN st res).bind (c8 6 st.mem)=some r
 |.own sz es,st=>(oN st res).bind (oW sz st.mem)=some es
def zU (res:List nL)(r:ez):ev->a2->Prop
 |.exit _,_=>False
 |.normal,st=>yg res r st
 |.ret,st=>yg res r st
theorem aah {mf:b1}{r:ez}{st:a2}(h:yg mf.res r st):∃m,oN st mf.res=some m/\aag r m st.mem:=by
 cases r with
 |same r =>
  simp only[yg,eo] at h;obtain⟨m,E,H⟩:=h;exact⟨m,E,6,H⟩
 |own sz es =>
  simp only[yg,eo] at h;obtain⟨m,E,H⟩:=h;refine⟨m,E,?_⟩
  cases m<;>simp only[oW,cb,reduceCtorEq] at H
  ·exact .inl ⟨rfl,H.symm⟩
  ·split at H
   ·rename_i G;obtain⟨rfl,rfl⟩:=G
    split at H
    ·rename_i dh cs J
     split at H
     ·rename_i aX;obtain⟨rfl,hle⟩:=aX;simp only[ei] at H;obtain⟨ds,hg,rfl⟩:=H;exact .inr ⟨_,_,_,cs,ds,6,rfl,J,hle,hg,rfl⟩
     ·cases H
    ·cases H
   ·cases H
theorem alE {mf:b1}{r:ez}{e:ev}{st:a2}(h:zU mf.res r e st):QB mf (aag r) e st:=by
 cases e with
 |exit id=>exact h
 |normal=>exact aah h
 |ret=>exact aah h
theorem LK (b:Nat):¬ q4 (λ_=>none) b:=fun⟨_,_,h,_⟩=>by cases h
theorem alF (cE : qy P T)(hm : P.follows .mixedOrders = true){f : FuncId}{fn : Func}{mf : b1}(aJ : P.funcs[f]? = some fn)(u1 : (fn.name == "runtime.NumGoroutine") = false)(aU : r9 P kb own fn = some { mf with body := erase mf.body })
  {aP:List Data->Option ez} (h:∀ds r,aP ds=some r->(D ds)<=mf.n/\wp T mf.body (zU mf.res r) ⟨mA (ds.map .I),emp⟩):sq P f aP:=by
 refine⟨?_,λds r e4 A w vs aq uX=>?_⟩
 ·cases ae:fn.body with
  |none=>simp[r9,ae] at aU
  |some c=>exact⟨fn,c,aJ,ae,u1⟩
 ·obtain⟨hlen,yh⟩:=h ds r e4;have bT:fl A w (λ_=>none) emp:=⟨λ_ _=>rfl,λ_ _ _ _ _ h=>(by cases h),λb _ bx=>LK b bx,aq,λ_ _ _ h=>(by cases h)⟩;have fB:∀b,cj A (λ_=>none) b->A b:=λb h=>h.elim (λh=>(LK b h).elim) id;have bX:c9 w (cj A λ_=>none) (λ_=>none) (ds.map .I) vs:=c9.I uX.1 λi d v E H=>(uX.2 i d v E H).less fB;refine Calls.mono (H3 cE hm aJ aU (by simpa using hlen) (λe st=>alE) yh bT bX) λe aN he=>?_;obtain⟨v,m,mem',bq,rfl,Q,aI,aB⟩:=he;refine⟨v,rfl,⟨Q.az.os,Q.az.tape,Q.az.output,Q.az.size,λg aX _=>Q.az.block g aX (LK g)⟩,?_⟩
  cases r with
  |same r =>
   obtain⟨d,X⟩:=aB;exact snap Q.ee (λb ae=>ae) d m v r X aI
  |own sz es =>
   rcases aB with ⟨rfl,rfl⟩|⟨k,g,len,cs,LL,d,rfl,J,hle,hg,rfl⟩
   ·cases aI;exact⟨by simp,_,0,rfl,bP _,fr _,.inl rfl⟩
   ·obtain⟨E,H⟩:=nN hg;have QC:(D LL)=len*sz:=by rw[E,hh];omega
    refine⟨Lm sz len LL QC,?_⟩;rw[Ll,Ln sz len LL QC]
    cases aI with
    |ref he hgle Y =>
     obtain⟨e,fT,ck,aG,ae⟩:=Q.ee.at_ J;rw[fT] at he;obtain rfl:=ni he;obtain⟨a,cap,rfl,ab,aM,bl⟩:=Y;refine⟨a,cap,rfl,ab,aM,bl.imp id ?_⟩;rintro⟨b,rfl,bI⟩;obtain⟨bC,bW⟩:=bI ck.symm;obtain⟨nO,alG,aS,aQ,Qg,BA⟩:=ae b bC;obtain⟨alH,ou⟩:=kill_shut Q.ee J fT bC;refine⟨b,nO,alG,rfl,?_,aS,by simpa [aQ] using bW,λi x O=>?_⟩
     ·rcases Q.fresh b ⟨k,_,fT,bC⟩ with h|h
      ·exact (LK b h).elim
      ·exact h
     ·have aai:i<D LL:=(dK.1 O).1;have lM:i<D cs:=by omega
      have mG:(cs.take (len*sz))[i]?=some cs[i]:=by
       rw[oV (by omega)];exact bs lM
      have HX:i<nO.size:=by omega
      refine⟨nO[i],Array.getElem?_eq_getElem HX,snap alH (λb ae=>ae) d _ _ x (H i _ x mG O) (ou _ _ (BA.2 i _ _ (bs lM) ?_))⟩;rw[oV lM,Array.getElem?_toList];exact Array.getElem?_eq_getElem HX
def scalar:Data->Bool
 |.int _ _=>true
 |.bool _=>true
 |.str _=>true
 |.tk=>true
 |.tl=>true
 |.af []=>true
 |.cw ds=>ds.attach.all fun⟨d,_⟩=>scalar d
 |.agg ds=>ds.attach.all fun⟨d,_⟩=>scalar d
 |_=>false
theorem aaj {aO oc:Nat->Prop}{d:Data}{v:Value}(h:scalar d=true)(X:Den w aO d v):Den w oc d v:=by
 induction X with
 |int=>exact .int
 |bool=>exact .bool
 |str=>exact .str
 |tk=>exact .tk
 |tl=>exact .tl
 |k6=>exact .k6
 | @af es b off c sz val au hm ae fB eU G X ay =>
  cases es with
  |nil=>exact .k6
  |cons=>simp[scalar] at h
 |ptr=>simp[scalar] at h
 |fn=>simp[scalar] at h
 | @agg cs vs au X ay =>
  simp only[scalar,oj,aak,true_imp_iff,Subtype.forall] at h;exact .agg au λi d v E H=>ay i d v E H (h d (eL E))
 | @cw cs vs au X ay =>
  simp only[scalar,oj,aak,true_imp_iff,Subtype.forall] at h;exact .cw au λi d v E H=>ay i d v E H (h d (eL E))
theorem QD {aO:Nat->Prop}:∀(d:Nat) (m:M) (v:Value) (r:Data),c8 d emp m=some r->bo w aO B m v->Den w aO r v:=by
 intro d
 induction d with
 |zero =>
  intro m v r h aI
  cases m<;>simp only[c8,cb,reduceCtorEq] at h
  ·subst h;cases aI with|I h=>exact h
  ·subst h;cases aI;exact .k6
 |succ d ay =>
  intro m v r h aI
  have lists:∀(cs:List M) (vs:List Value) (ds:List Data),cs.mapM (c8 d emp)=some ds->(D vs)=(D cs)->(∀(i:Nat) (x:M) (u:Value),cs[i]?=some x->vs[i]?=some u->bo w aO B x u) ->
    (D vs)=D ds/\∀(i:Nat) (x:Data) (u:Value),ds[i]?=some x->vs[i]?=some u->Den w aO x u:=by
   intro cs vs ds hg au Y;obtain⟨E,H⟩:=nN hg;refine⟨by omega,λi x u O hu=>?_⟩
   have aq:i<D cs:=by have:=(dK.1 O).1;omega
   have mG:=bs aq;exact ay _ u x (H i _ x mG O) (Y i _ u mG hu)
  cases m<;>simp only[c8,emp,cb,ei,reduceCtorEq] at h
  case I=>subst h;cases aI with|I h=>exact h
  case nil=>subst h;cases aI;exact .k6
  case fS f cs =>
   obtain⟨ds,hg,rfl⟩:=h
   cases aI with
   |fS au X=>obtain⟨E,H⟩:=lists _ _ _ hg au X;exact .fn E H
  case agg cs =>
   obtain⟨ds,hg,rfl⟩:=h
   cases aI with
   |agg au X=>obtain⟨E,H⟩:=lists _ _ _ hg au X;exact .agg E H
  case cw cs =>
   obtain⟨ds,hg,rfl⟩:=h
   cases aI with
   |cw au X=>obtain⟨E,H⟩:=lists _ _ _ hg au X;exact .cw E H
def LM:ez->gT
 |.same r => .same r
 |.own sz es => .own sz es
def Ea:ez->Option gT
 |.same r=>if scalar r=true then some (.same r) else none
 |.own sz es=>if (es.all λe=>e.all scalar)=true then some (.own sz es) else none
def LN (aP:List Data->Option ez):Option (List Data)->Option gT
 |some ds=>(aP ds).bind Ea
 |none=>none
def Eb (aP:List Data->Option ez):Option (List Data)->Option (List Data)->Option gT
 |some ds,_=>(aP ds).map LM
 |none,x=>LN aP x
def aW (aP:List Data->Option ez)(args:List M)(mem:Mem):Option gT:=Eb aP (args.mapM (c8 6 emp)) (args.mapM (c8 6 mem))
def zV (lb:FuncId->Option (List Data->Option ez)):bk:=λf args mem=>match lb f with
 |some aP=>aW aP args mem
 |none=>none
theorem aal {aO:Nat->Prop}{g:M->Option Data}{args:List M}{ds:List Data}{vs:List Value}(h:args.mapM g=some ds)(aI:c9 w aO B args vs){oc:Nat->Prop}(X:∀m v r,g m=some r->bo w aO B m v->Den w oc r v):yf w oc ds vs:=by
 obtain⟨E,H⟩:=nN h;refine⟨by rw[aI.1,E],λi d v oO ra=>?_⟩
 have aq:i<D args:=by have:=(dK.1 oO).1;omega
 have zW:=bs aq;exact X _ v d (H i _ d zW oO) (aI.2 i _ v zW ra)
theorem aam {lb:FuncId->Option (List Data->Option ez)}(h:∀f aP,lb f=some aP->sq P f aP):qy P (zV lb):=by
 intro f args mem oR jJ;unfold zV at jJ
 split at jJ
 ·rename_i aP e4;have k9:=h f aP e4;refine⟨k9.real,λA w B vs bT aI=>?_⟩;unfold aW at jJ
  cases hg:args.mapM (c8 6 emp) with
  |some ds =>
   rw[hg] at jJ;simp only[Eb,ei] at jJ;obtain⟨r,Y,rfl⟩:=jJ;have G:=k9.run ds r Y (cj A B) w vs (λb ae=>ae.elim (λh=>bT.zu h) (bT.lt b)) (aal hg aI λm v r=>QD 6 m v r)
   cases r with
   |same r=>exact G
   |own sz es=>exact G
  |none =>
   rw[hg] at jJ;simp only[Eb] at jJ
   cases hg:args.mapM (c8 6 mem) with
   |none=>rw[hg] at jJ;cases jJ
   |some ds =>
    rw[hg] at jJ;simp only[LN,eo] at jJ;obtain⟨r,Y,au⟩:=jJ;have G:=k9.run ds r Y (λ_=>False) w vs (λb ae=>ae.elim) (aal hg aI λm v r h aI=>snap bT (λb ae=>ae.elim) 6 m v r h aI)
    cases r with
    |same r =>
     simp only[Ea] at au
     split at au
     ·rename_i Q
      cases au;exact Calls.mono G λe aN ⟨v,he,bR,X⟩=>⟨v,he,bR,aaj Q X⟩
     ·cases au
    |own sz es =>
     simp only[Ea] at au
     split at au
     ·rename_i Q
      cases au;refine Calls.mono G λe aN ⟨v,he,bR,X⟩=>⟨v,he,bR,?_⟩;obtain⟨E,a,cap,H,ab,aM,bl⟩:=X;refine⟨E,a,cap,H,ab,aM,bl.imp id ?_⟩;rintro⟨b,vs,T,bI,bC,bW,iL,fI⟩;refine⟨b,vs,T,bI,bC,bW,iL,λi d X=>?_⟩;obtain⟨u,hu,uX⟩:=fI i d X;refine⟨u,hu,aaj ?_ uX⟩;have hm:=eL X;rw[List.mem_flatten] at hm;obtain⟨e,he,alI⟩:=hm;rw[oj] at Q;have:=Q e he;rw[oj] at this;exact this d alI
     ·cases au
 ·cases jJ
end Go.Mini
namespace Go.Mini
open Go
def Ec {ι:Type}(T:bk)(cR:ι->a2->Prop)(m:ι->Nat)(i:ι)(K:ev->a2->Prop)(k:List fV):ev->a2->Prop
 |.normal,st=>∃a6,m a6<m i/\cR a6 st
 |.exit id,st=>b8 T K k (.exit id) st
 |.ret,st=>b8 T K k .ret st
@[go_sem] theorem aA7 {ι:Type}(T:bk)(cR:ι->a2->Prop)(m:ι->Nat)(i:ι)(K:ev->a2->Prop)(k:List fV)(id:Nat)(st:a2):Ec T cR m i K k (.exit id) st=b8 T K k (.exit id) st:=bn
@[go_sem] theorem aA8 {ι:Type}(T:bk)(cR:ι->a2->Prop)(m:ι->Nat)(i:ι)(K:ev->a2->Prop)(k:List fV)(st:a2):Ec T cR m i K k .ret st=b8 T K k .ret st:=bn
@[go_sem] theorem alJ {ι:Type}(T:bk)(cR:ι->a2->Prop)(m:ι->Nat)(i:ι)(K:ev->a2->Prop)(k:List fV)(st:a2):Ec T cR m i K k .normal st=∃a6,m a6<m i/\cR a6 st:=bn
open Classical in
theorem alK {ι:Type}{T:bk}{K:ev->a2->Prop}{k:List fV}{st:a2}{c:dZ}(cR:ι->a2->Prop)(m:ι->Nat)(i0:ι)(ak:cR i0 st)(h:∀i st,cR i st->wp T c (b8 T (Ec T cR m i K k) []) st):
  wp T (.loop c) (b8 T K k) st:=by
 have least:∀st,(∃i,cR i st)->∃i,cR i st/\∀j,cR j st->m i<=m j:=by
  intro st ⟨i,L⟩
  have:∀n i,m i=n->cR i st->∃i,cR i st/\∀j,cR j st->m i<=m j:=by
   intro n
   induction n using QE with
   |_ n ay =>
    intro i aG L
    by_cases O:∃j,cR j st/\m j<m i
    ·obtain⟨j,ai,aq⟩:=O;exact ay (m j) (by omega) j rfl ai
    ·refine⟨i,L,λj ai=>?_⟩;rcases hV (m j) (m i) with b2|b2
     ·exact absurd ⟨j,ai,b2⟩ O
     ·exact b2
  exact this _ i rfl L
 refine⟨λst=>∃i,cR i st,λst=>if O:∃i,cR i st then m (yi (least st O)) else 0,⟨i0,ak⟩,λst ey=>?_⟩;have kQ:=oX (least st ey);have:=h _ st kQ.1
 have J:b8 T (Ec T cR m (yi (least st ey)) K k) []=λe dx=>match e with
   |.normal=>(∃i,cR i dx)/\(if O:∃i,cR i dx then m (yi (least dx O)) else 0)<(if O:∃i,cR i st then m (yi (least st O)) else 0)
   |e=>b8 T K k e dx:=by
  funext e dx
  cases e with
  |normal =>
   simp only[akG,alJ];apply propext
   constructor
   ·rintro⟨a6,aq,ai⟩;have hex:∃i,cR i dx:=⟨a6,ai⟩;refine⟨hex,?_⟩;rw[dif_pos hex,dif_pos ey];have:=(oX (least dx hex)).2 a6 ai;omega
   ·rintro⟨hex,aq⟩;rw[dif_pos hex,dif_pos ey] at aq;exact⟨_,aq,(oX (least dx hex)).1⟩
  |exit id=>rfl
  |ret=>rfl
 rw[J] at this;exact this
section
variable {aP:List Data->Option ez} {mem:Mem} {st:a2} {res:List nL}
@[go_sem] theorem aA9 (ds:List Data)(x:Option (List Data)):Eb aP (some ds) x=(aP ds).map LM:=bn
@[go_sem] theorem aBa (x:Option (List Data)):Eb aP none x=LN aP x:=bn
@[go_sem] theorem aBb (ds:List Data):LN aP (some ds)=(aP ds).bind Ea:=bn
@[go_sem] theorem aBc (r:Data):LM (.same r)=.same r:=bn
@[go_sem] theorem aBd (sz:Nat)(es:List (List Data)):LM (.own sz es)=.own sz es:=bn
@[go_sem] theorem aBe (r:Data):Ea (.same r)=if scalar r=true then some (.same r) else none:=bn
@[go_sem] theorem LO (n:Nat)(d:Data):c8 n mem (.I d)=some d:=by cases n<;>rfl
@[go_sem] theorem alL (n:Nat):c8 n mem .nil=some (.af []):=by cases n<;>rfl
@[go_sem] theorem aBf (n:Nat)(cs:List M):c8 (n+1) mem (.agg cs)=(cs.mapM (c8 n mem)).map .agg:=bn
@[go_sem] theorem aBg (n:Nat)(cs:List M):c8 (n+1) mem (.cw cs)=(cs.mapM (c8 n mem)).map .cw:=bn
@[go_sem] theorem aBh (n:Nat)(f:FuncId)(cs:List M):c8 (n+1) mem (.fS f cs)=(cs.mapM (c8 n mem)).map (.fn f):=bn
@[go_sem] theorem aBi (r:ez)(id:Nat):zU res r (.exit id) st=False:=bn
@[go_sem] theorem aBj (r:ez):zU res r .ret st=yg res r st:=bn
@[go_sem] theorem aBk (r:ez):zU res r .normal st=yg res r st:=bn
@[go_sem] theorem aBl (r:Data):yg res (.same r) st=((oN st res).bind (c8 6 st.mem)=some r):=bn
@[go_sem] theorem aBm (sz:Nat)(es:List (List Data)):yg res (.own sz es) st=((oN st res).bind (oW sz st.mem)=some es):=bn
end
@[go_sem] theorem aBn (x:Bool):Ls (.I (.bool x)) true=some x:=by cases x<;>rfl
@[go_sem] theorem aBo (x:Bool):Ls (.I (.bool x)) false=some (!x):=by cases x<;>rfl
attribute [go_sem] e5 cl List.getElem?_cons_zero List.getElem?_cons_succ kf mJ nk Ed oY oZ jo Option.map_none oP
 oi aan g4 hf iM lP List.drop_succ_cons List.drop_nil List.take_nil ca cv tD yj nT yk tE hP hy fC Ee List.all_nil true_and and_true kh bne
section
variable {T:bk} {K:ev->a2->Prop} {k:List fV} {st:a2}
theorem alM {x:Bool}{i:cG}{r:List cG}(E:x=false->qw T K k (some true) i r st)(H:x=true->qw T K k (some false) i r st):qw T K k (some (!x)) i r st:=by
 cases x
 ·exact E rfl
 ·exact H rfl
theorem alN {x:Bool}{i:cG}{r:List cG}(E:x=true->qw T K k (some true) i r st)(H:x=false->qw T K k (some false) i r st):qw T K k (some x) i r st:=by
 cases x
 ·exact H rfl
 ·exact E rfl
theorem alO {x:Bool}{n:Nat}{i:cG}{r:List cG}{c:List (List Nat)}{rec:Rec}(E:x=false->qx T K k n (some true) i r c rec st)(H:x=true->qx T K k n (some false) i r c rec st):qx T K k n (some (!x)) i r c rec st:=by
 cases x
 ·exact E rfl
 ·exact H rfl
theorem alP {x:Bool}{n:Nat}{i:cG}{r:List cG}{c:List (List Nat)}{rec:Rec}(E:x=true->qx T K k n (some true) i r c rec st)(H:x=false->qx T K k n (some false) i r c rec st):qx T K k n (some x) i r c rec st:=by
 cases x
 ·exact H rfl
 ·exact E rfl
theorem alQ {x:Bool}{a b:dZ}(E:x=false->pH T K k (.I (.bool true)) a b st)(H:x=true->pH T K k (.I (.bool false)) a b st):pH T K k (.I (.bool (!x))) a b st:=by
 cases x
 ·exact E rfl
 ·exact H rfl
theorem alR {x:Bool}{a b:dZ}(E:x=true->pH T K k (.I (.bool true)) a b st)(H:x=false->pH T K k (.I (.bool false)) a b st):pH T K k (.I (.bool x)) a b st:=by
 cases x
 ·exact H rfl
 ·exact E rfl
end
class BI (bA:Prop) (A B:outParam Prop):Prop where
 go:A->B->bA
theorem av {bA A B:Prop}[s:BI bA A B](a:A)(b:B):bA:=s.go a b
theorem a9 {bA:Prop}(h:true=true->bA):bA:=h rfl
instance {T K k i r st} {x:Bool}:BI (qw T K k (some x) i r st) (x=true->qw T K k (some true) i r st) (x=false->qw T K k (some false) i r st):=⟨alN⟩
instance {T K k i r st} {x:Bool}:BI (qw T K k (some (!x)) i r st) (x=false->qw T K k (some true) i r st) (x=true->qw T K k (some false) i r st):=⟨alM⟩
instance {T K k st a b} {x:Bool}:BI (pH T K k (.I (.bool x)) a b st) (x=true->pH T K k (.I (.bool true)) a b st) (x=false->pH T K k (.I (.bool false)) a b st):=⟨alR⟩
instance {T K k st a b} {x:Bool}:BI (pH T K k (.I (.bool (!x))) a b st) (x=false->pH T K k (.I (.bool true)) a b st) (x=true->pH T K k (.I (.bool false)) a b st):=⟨alQ⟩
instance {T K k n i r c rec st} {x:Bool}:BI (qx T K k n (some x) i r c rec st) (x=true->qx T K k n (some true) i r c rec st) (x=false->qx T K k n (some false) i r c rec st):=⟨alP⟩
instance {T K k n i r c rec st} {x:Bool}:BI (qx T K k n (some (!x)) i r c rec st) (x=false->qx T K k n (some true) i r c rec st) (x=true->qx T K k n (some false) i r c rec st):=⟨alO⟩
attribute [go_sem] reduceIte Nat.reduceEqDiff Nat.reduceAdd Nat.reduceSub Nat.reduceMul Nat.reduceLeDiff reduceCtorEq Nat.reduceLT Nat.reduceBEq Int.reduceEq
attribute [go_sem] kh
def H4 {ι:Type}(T:bk)(gx:List Nat)(pJ:List Key)(vs:List M)(ms:List (Option (Nat×List M)))(cR:ι->(Nat->M)->Mem->Prop)(m:ι->Nat)(i:ι)(K:ev->a2->Prop)(k:List fV):ev->a2->Prop
 |.normal,st=>∃a6,m a6<m i/\gx.map st.tm=vs/\pJ.map st.mem=ms/\cR a6 st.tm st.mem
 |.exit id,st=>b8 T K k (.exit id) st
 |.ret,st=>b8 T K k .ret st
section
variable {ι:Type} (T:bk) (gx:List Nat) (pJ:List Key) (vs:List M) (ms:List (Option (Nat×List M))) (cR:ι->(Nat->M)->Mem->Prop) (m:ι->Nat) (i:ι) (K:ev->a2->Prop) (k:List fV)
@[go_sem] theorem aBp (id:Nat)(st:a2):H4 T gx pJ vs ms cR m i K k (.exit id) st=b8 T K k (.exit id) st:=bn
@[go_sem] theorem aBq (st:a2):H4 T gx pJ vs ms cR m i K k .ret st=b8 T K k .ret st:=bn
@[go_sem] theorem aBr (st:a2):H4 T gx pJ vs ms cR m i K k .normal st=∃a6,m a6<m i/\gx.map st.tm=vs/\pJ.map st.mem=ms/\cR a6 st.tm st.mem:=bn
end
theorem dE {ι:Type}{T:bk}{K:ev->a2->Prop}{k:List fV}{Ef:Nat->M}{ec:Mem}{c:dZ}(gx:List Nat)(pJ:List Key)(cR:ι->(Nat->M)->Mem->Prop)(m:ι->Nat)(i0:ι)(ak:cR i0 Ef ec)
  (h:∀vs ms,gx.map Ef=vs->pJ.map ec=ms->∀i tm mem,gx.map tm=vs->pJ.map mem=ms->cR i tm mem->wp T c (b8 T (H4 T gx pJ vs ms cR m i K k) []) ⟨tm,mem⟩) :
  wp T (.loop c) (b8 T K k) ⟨Ef,ec⟩:=by
 refine alK (λi st=>gx.map st.tm=gx.map Ef/\pJ.map st.mem=pJ.map ec/\cR i st.tm st.mem) m i0 ⟨rfl,rfl,ak⟩ ?_;rintro i ⟨tm,mem⟩ ⟨E,H,ab⟩;have:=h _ _ rfl rfl i tm mem E H ab
 have J:b8 T (H4 T gx pJ (gx.map Ef) (pJ.map ec) cR m i K k) []=b8 T (Ec T (λi (st:a2)=>gx.map st.tm=gx.map Ef/\pJ.map st.mem=pJ.map ec/\cR i st.tm st.mem) m i K k) []:=by
  funext e dx
  cases e<;>rfl
 rw[J] at this;exact this
theorem wp_mono {T:bk}:∀(c:dZ) (K iN:ev->a2->Prop),(∀e st,K e st->iN e st)->∀st,wp T c K st->wp T c iN st:=by
 intro c
 induction c with
 |skip=>exact λK iN h st=>h _ _
 |ops l =>
  intro K iN h st hw
  have:∀(l:List cG) (K iN:a2->Prop),(∀st,K st->iN st)->∀st,v8 T K l st->v8 T iN l st:=by
   intro l
   induction l with
   |nil=>exact λK iN h st=>h st
   |cons i r ay =>
    intro K iN h st hw;unfold v8 at hw ⊢
    split
    ·rename_i aX;rw[aX] at hw;exact hw
    ·rename_i g aX;rw[aX] at hw;simp only at hw ⊢
     split
     ·rename_i iB;rw[Z iB] at hw
      have sg:∀(K iN:a2->Prop),(∀st,K st->iN st)->gd T K i st->gd T iN i st:=by
       intro K iN h hw
       have G:∀d f args,tp T K st d f args->tp T iN st d f args:=by
        intro d f args hw;unfold tp at hw ⊢
        split
        ·rename_i aS;rw[aS] at hw;exact h _ hw
        ·rename_i aS;rw[aS] at hw;exact h _ hw
        ·rename_i aS;rw[aS] at hw;exact λr mem' Y=>h _ (hw r mem' Y)
        ·rename_i aS;rw[aS] at hw;exact h _ hw
        ·rename_i aS;rw[aS] at hw;exact hw
       unfold gd at hw ⊢
       split
       ·rename_i aS;rw[aS] at hw;exact G _ _ _ hw
       ·rename_i aS;rw[aS] at hw
        simp only at hw
        split
        ·rename_i od;rw[od] at hw
         simp only at hw
         split
         ·rename_i Q;rw[Z Q] at hw;exact h _ hw
         ·rename_i Q;rw[aa Q] at hw;exact hw
        ·rename_i od
         split at hw
         ·rename_i dX es QF;exact (od dX es QF).elim
         ·exact hw
       ·rename_i aS;rw[aS] at hw
        simp only at hw
        split
        ·rename_i od;rw[od] at hw;exact G _ _ _ hw
        ·rename_i od;rw[od] at hw;exact G _ _ _ hw
        ·rename_i od QF
         split at hw
         ·rename_i QG;exact (od _ _ QG).elim
         ·rename_i QG;exact (QF _ _ QG).elim
         ·exact hw
       ·rename_i aS;rw[aS] at hw
        simp only at hw
        split
        ·rename_i od;rw[od] at hw;exact λb ae=>h _ (hw b ae)
        ·rename_i od;rw[od] at hw;exact hw
       ·rename_i E H ab aM
        split at hw
        ·rename_i aS;exact (E _ _ aS).elim
        ·rename_i aS;exact (H _ _ _ _ aS).elim
        ·rename_i aS;exact (ab _ _ aS).elim
        ·rename_i aS;exact (aM _ _ aS).elim
        ·split
         ·rename_i aS;rw[aS] at hw;exact h _ hw
         ·rename_i aS;rw[aS] at hw;exact hw
      exact sg _ _ (ay _ _ h) hw
     ·rename_i iB;rw[aa iB] at hw;exact ay _ _ h _ hw
  exact this l _ _ (λst=>h .normal st) st hw
 |mz l c =>
  intro K iN h st hw
  have:∀(l:List cG) (n:Nat) (cs:List (List Nat)) (rec:Rec) (K iN:a2->Prop),(∀st,K st->iN st)->∀st,uO T K n l cs rec st->uO T iN n l cs rec st:=by
   intro l
   induction l with
   |nil=>exact λn cs rec K iN h st=>h st
   |cons i r ay =>
    intro n cs rec K iN h st hw;unfold uO at hw ⊢
    split
    ·rename_i aX;rw[aX] at hw;exact hw
    ·rename_i g aX;rw[aX] at hw;simp only at hw ⊢
     split
     ·rename_i iB;rw[Z iB] at hw
      split
      ·rename_i m e Q;rw[Q] at hw;exact⟨hw.1,ay _ _ _ _ _ h _ hw.2⟩
      ·rename_i Q;rw[Q] at hw;exact hw
     ·rename_i iB;rw[aa iB] at hw;exact ay _ _ _ _ _ h _ hw
  exact this l 0 c _ _ _ (λst=>h .normal st) st hw
 |seq a b iha ihb =>
  intro K iN h st hw;refine iha _ _ (λe dx aS=>?_) st hw
  cases e with
  |normal=>exact ihb _ _ h _ aS
  |exit id=>exact h _ _ aS
  |ret=>exact h _ _ aS
 |cond c a b iha ihb =>
  intro K iN h st hw;unfold wp at hw ⊢
  split
  ·rename_i t G;rw[G] at hw;simp only at hw
   split
   ·rename_i bJ;rw[Z bJ] at hw;exact iha _ _ h _ hw
   ·rename_i bJ;rw[aa bJ] at hw;exact ihb _ _ h _ hw
  ·rename_i O
   split at hw
   ·rename_i G;exact (O _ G).elim
   ·exact hw
 |block id c ay =>
  intro K iN h st hw;refine ay _ _ (λe dx aS=>?_) st hw
  cases e with
  |normal=>exact h _ _ aS
  |exit j =>
   simp only at aS ⊢
   split
   ·rename_i ai;rw[Z ai] at aS;exact h _ _ aS
   ·rename_i ai;rw[aa ai] at aS;exact h _ _ aS
  |ret=>exact h _ _ aS
 |loop c ay =>
  intro K iN h st hw;obtain⟨r7,μ,ak,H2⟩:=hw;refine⟨r7,μ,ak,λst ey=>ay _ _ (λe dx aS=>?_) _ (H2 st ey)⟩
  cases e with
  |normal=>exact aS
  |exit id=>exact h _ _ aS
  |ret=>exact h _ _ aS
 |exit id=>exact λK iN h st=>h _ _
 |ret=>exact λK iN h st=>h _ _
 |ghost g c ay =>
  intro K iN h st hw
  have:∀(K iN:a2->Prop),(∀st,K st->iN st)->kM K st g->kM iN st g:=by
   intro K iN h hw;unfold kM at hw
   repeat' split at hw
   all_goals first
    |exact hw.elim
    |exact⟨hw.choose,hw.choose_spec.1,h _ hw.choose_spec.2⟩
    |(
      rcases hw with hw|⟨fq,gE,gf,i,k,g,sz,off,len,cs,k',E,H,ab,aM,bl,bI,hw⟩|⟨fq,gE,gf,i,k,g,sz,off,len,cs,d,E,H,ab,aM,bl,bI,hw⟩
      ·exact .inl (h _ hw)
      ·exact .inr (.inl ⟨fq,gE,gf,i,k,g,sz,off,len,cs,k',E,H,ab,aM,bl,bI,h _ hw⟩)
      ·exact .inr (.inr ⟨fq,gE,gf,i,k,g,sz,off,len,cs,d,E,H,ab,aM,bl,bI,h _ hw⟩))
    |(
      have b2:=h _ hw;clear hw h;unfold kM
      simp_all)
  exact this _ _ (ay _ _ h) hw
def Eg (T:bk)(K:ev->a2->Prop)(k:List fV)(aH:a2->Prop):ev->a2->Prop
 |.normal,st=>aH st
 |.exit id,st=>b8 T K k (.exit id) st
 |.ret,st=>b8 T K k .ret st
@[go_sem] theorem aBs {T:bk}{K:ev->a2->Prop}{k:List fV}{aH:a2->Prop}(st:a2):Eg T K k aH .normal st=aH st:=bn
@[go_sem] theorem aBt {T:bk}{K:ev->a2->Prop}{k:List fV}{aH:a2->Prop}(id:Nat)(st:a2):Eg T K k aH (.exit id) st=b8 T K k (.exit id) st:=bn
@[go_sem] theorem aBu {T:bk}{K:ev->a2->Prop}{k:List fV}{aH:a2->Prop}(st:a2):Eg T K k aH .ret st=b8 T K k .ret st:=bn
theorem aao {T:bk}{K:ev->a2->Prop}{k:List fV}{c a:dZ}{st:a2}(aH:a2->Prop)(a1:wp T a (b8 T (Eg T K k aH) []) st)(G:∀dx,aH dx->wp T c (b8 T K k) dx):wp T a (b8 T K (.code c::k)) st:=by
 refine wp_mono a _ _ (λe dx aS=>?_) st a1
 cases e with
 |normal=>exact G dx aS
 |exit id=>exact aS
 |ret=>exact aS
theorem alS {T:bk}{K:ev->a2->Prop}{k:List fV}{x:Bool}{c a b:dZ}{st:a2}(aH:a2->Prop)(a1:x=true->wp T a (b8 T (Eg T K k aH) []) st)(ae:x=false->wp T b (b8 T (Eg T K k aH) []) st)
  (G:∀dx,aH dx->wp T c (b8 T K k) dx):pH T K (.code c::k) (.I (.bool x)) a b st:=by
 cases x
 ·rw[akI];exact aao aH (ae rfl) G
 ·rw[akH];exact aao aH (a1 rfl) G
attribute [go_sem] beq_true beq_false Bool.true_beq Bool.false_beq kL List.flatten_nil h1 List.headD_cons List.headD_nil List.tail_cons List.tail_nil List.contains_nil List.contains_cons Bool.not_eq_true'
section
variable {T:bk} {K:ev->a2->Prop} {k:List fV} {st:a2}
@[go_sem] theorem aBv (g:K3)(c:dZ):wp T (.ghost g c) (b8 T K k) st=kM (wp T c (b8 T K k)) st g:=bn
def QH (K:a2->Prop)(st:a2)(s k sz:Nat):M->Prop
 |.nil=>K ⟨eP st.tm s (.ref k (bY st.mem k) sz 0 0),a3 st.mem k (bY st.mem k) []⟩
 |_=>False
@[go_sem] theorem aBw (K:a2->Prop)(s k sz:Nat):kM K st (.pz s k sz)=QH K st s k sz (st.tm s):=by
 unfold kM QH;rfl
@[go_sem] theorem aBx (K:a2->Prop)(s k sz:Nat):QH K st s k sz .nil=K ⟨eP st.tm s (.ref k (bY st.mem k) sz 0 0),a3 st.mem k (bY st.mem k) []⟩:=bn
end
section
variable {K:a2->Prop} {st:a2}
theorem alT (fq i k k':Nat){gE:Nat}{gf:List M}{g sz off len:Nat}{cs:List M}(E:st.mem fq=some (gE,gf))(H:gf[i]?=some (.ref k g sz off len))(ab:st.mem k=some (g,cs))(aM:k≠fq)(bl:k'≠k)(bI:k'≠fq)
  (h:K ⟨st.tm,a3 (a3 (a3 st.mem k (bY st.mem k) []) k' (bY st.mem k') cs) fq gE (gf.set i (.ref k' (bY st.mem k') sz off len))⟩):kM K st .move :=
 .inr (.inl ⟨fq,gE,gf,i,k,g,sz,off,len,cs,k',E,H,ab,aM,bl,bI,h⟩)
def H5 (K:a2->Prop)(st:a2)(s k g sz off len:Nat):Option (Nat×List M)->Prop
 |some (dh,cs)=>if dh=g/\v9 cs=true then (match cut cs off (len*sz) with
  |some part=>(match part.mapM (c8 0 st.mem) with
   |some ds=>K ⟨eP st.tm s (.I (.af (chunk sz len ds))),kill st.mem k⟩
   |none=>False)
  |none=>False) else False
 |none=>False
def QI (K:a2->Prop)(st:a2)(s:Nat):M->Prop
 |.ref k g sz off len=>H5 K st s k g sz off len (st.mem k)
 |_=>False
@[go_sem] theorem aBy (s:Nat):kM K st (.freeze s)=QI K st s (st.tm s):=by
 unfold kM QI;dsimp only
 cases hm:st.tm s with
 |ref k g sz off len=>?_
 |_=>rfl
 dsimp only;unfold H5
 cases J:st.mem k with
 |none=>rfl
 |some x =>
  obtain⟨dh,cs⟩:=x;simp only
  by_cases G:dh=g/\v9 cs=true
  ·rw[Z G,Z G];unfold c8;rw[J];simp only[G.1,if_true]
   cases wk:cut cs off (len*sz) with
   |none=>rfl
   |some part =>
    simp only
    cases aB:part.mapM (c8 0 st.mem)<;>rfl
  ·rw[aa G,aa G]
@[go_sem] theorem aBz (s k g sz off len:Nat):QI K st s (.ref k g sz off len)=H5 K st s k g sz off len (st.mem k):=bn
@[go_sem] theorem aBA (mem:Mem)(k:Key):kill mem k=a3 mem k (bY mem k) []:=bn
end
open Classical in
def cy {α:Type}(u2:α->List Data)(f:α->Option ez):List Data->Option ez:=λds=>if h:∃a,u2 a=ds then f (yi h) else none
theorem cI {α:Type}{u2:α->List Data}{f:α->Option ez}(inj:∀a b,u2 a=u2 b->a=b)(a:α):cy u2 f (u2 a)=f a:=by
 have h:∃b,u2 b=u2 a:=⟨a,rfl⟩;unfold cy;rw[dif_pos h,inj _ _ (oX h)]
theorem alU {α:Type}{u2:α->List Data}{f:α->Option ez}{ds:List Data}{r:ez}(h:cy u2 f ds=some r):∃a,ds=u2 a/\f a=some r:=by
 unfold cy at h
 split at h
 ·rename_i O;exact⟨_,(oX O).symm,h⟩
 ·cases h
open Classical in
def cT (c:Prop)(r:ez):Option ez:=if c then some r else none
theorem cY {c:Prop}(h:c)(r:ez):cT c r=some r:=by unfold cT;rw[Z h]
@[go_sem] theorem aBB (aP:List Data->Option ez)(args:List M)(mem:Mem):aW aP args mem=Eb aP (args.mapM (c8 6 emp)) (args.mapM (c8 6 mem)):=bn
theorem map_inj {α β:Type}{f:α->β}(h:∀a b,f a=f b->a=b):∀(l fv:List α),l.map f=fv.map f->l=fv:=by
 intro l
 induction l with
 |nil=>intro fv e;cases fv<;>simp_all
 |cons a r ay =>
  intro fv e
  cases fv with
  |nil=>simp at e
  |cons b HD =>
   simp only[e5,bh] at e;rw[h _ _ e.1,ay _ e.2]
def LP (l:List (FuncId×(List Data->Option ez))):FuncId->Option (List Data->Option ez):=λf=>(l.find? λp=>p.1==f).map (·.2)
theorem wA {P:Program}{l:List (FuncId×(List Data->Option ez))}(h:∀p∈l,sq P p.1 p.2):∀f aP,LP l f=some aP->sq P f aP:=by
 intro f aP aJ;unfold LP at aJ;rw[ei] at aJ;obtain⟨p,aB,rfl⟩:=aJ;have E:=List.mem_of_find?_eq_some aB;have H:=List.find?_some aB;have ab:p.1=f:=by simpa using H
 exact ab ▸ h p E
theorem ct {P:Program}:∀p∈([]:List (FuncId×(List Data->Option ez))),sq P p.1 p.2:=by simp
theorem a7 {P:Program}{f:FuncId}{aP:List Data->Option ez}{l:List (FuncId×(List Data->Option ez))}(h:sq P f aP)(au:∀p∈l,sq P p.1 p.2):∀p∈(f,aP)::l,sq P p.1 p.2:=by
 intro p aB;rcases nU.1 aB with rfl|aB
 ·exact h
 ·exact au p aB
theorem aap {lb:FuncId->Option (List Data->Option ez)}{f:FuncId}{aP:List Data->Option ez}(h:lb f=some aP):zV lb f=aW aP:=by
 funext args mem
 unfold zV;rw[h]
@[go_sem] theorem aBC (mem:Mem)(k:Key)(z:List M)(b m:Nat)(new:List M):qo mem k z b .nil (some (m,new)) =
  if m*b<=140737488355328/\m<=maxLen/\new.all M.one=true then some (.ref k (bY mem k) (D z) 0 m,some (k,bY mem k,new)) else none:=bn
@[go_sem] theorem aBD (mem:Mem)(k k':Key)(z:List M)(g sz b len m:Nat)(new:List M):qo mem k z b (.ref k' g sz 0 len) (some (m,new)) =
  if sz=(D z) then l5 k' g sz len b m new (mem k') else none:=by
 unfold qo;simp
def aY {α:Type}(enc:α->List Data)(l:List α):List M:=(l.map enc).flatten.map .I
section
variable {α:Type} {enc:α->List Data} {sz:Nat}
theorem alV:aY enc []=[]:=rfl
theorem wB (a:α)(l:List α):aY enc (a::l)=(enc a).map .I++aY enc l:=by simp[aY]
theorem QJ (a b:List α):aY enc (a++b)=aY enc a++aY enc b:=by simp[aY]
theorem ld (h:∀a,(enc a).length=sz)(l:List α):(aY enc l).length=D l*sz:=by
 induction l with
 |nil=>simp[aY]
 |cons a r ay=>rw[wB,hr,ay,aj,h,kf,px,Nat.one_mul,Nat.add_comm]
theorem QK (h:∀a,(enc a).length=sz){l:List α}{i:Nat}{a:α}(L:l[i]?=some a):∃p q,aY enc l=p++((enc a).map .I++q)/\D p=i*sz/\∀b,aY enc (l.set i b)=p++((enc b).map .I++q):=by
 have aq:=(dK.1 L).1;have kr:l[i]=a:=(dK.1 L).2
 have e:l=l.take i++a::l.drop (i+1):=by
  rw[<-kr,<-hW aq,zX]
 refine⟨aY enc (l.take i),aY enc (l.drop (i+1)),?_,?_,λb=>?_⟩
 ·conv=>lhs;rw[e]
  rw[QJ,wB]
 ·rw[ld h,hh];congr 1;omega
 ·rw[List.set_eq_take_append_cons_drop,Z aq,QJ,wB]
theorem LQ (h:∀a,(enc a).length=sz){l:List α}{i:Nat}{a:α}(L:l[i]?=some a){f n:Nat}(aJ:f+n<=sz):cut (aY enc l) (i*sz+f) n=some ((((enc a).map .I).drop f).take n):=by
 obtain⟨p,q,e,aB,-⟩:=QK h L;have a1:=h a;unfold cut;rw[e,Z (by simp only[hr,aj];omega),<-aB];rw[pK,k7 (by omega)];rw[show (D p)+f-D p=f by omega,iM,pK,List.take_append]
 have:n-(((enc a).map M.I).drop f).length=0:=by simp only[pL,aj];omega
 rw[this,oY,h1]
theorem QL (h:∀a,(enc a).length=sz){l:List α}{i:Nat}(L:i<D l)(b:α):lI (aY enc l) (i*sz) ((enc b).map .I)=aY enc (l.set i b):=by
 obtain⟨p,q,e,aB,Q⟩:=QK h (bs L);rw[Q b,e];have a1:=h l[i];have ae:=h b;unfold lI;rw[<-aB,QM,gN]
 congr 2
 rw[pK,k7 (by omega),iM,aj,show (D p)+(enc b).length-D p=(enc b).length by omega,ae,<-a1,<-aj (f:=M.I),QN]
theorem alW (bx:∀a,((enc a).map M.I).all M.one=true)(l:List α):(aY enc l).all M.one=true:=by
 induction l with
 |nil=>rfl
 |cons a r ay=>rw[wB,List.all_append,bx,ay];rfl
theorem Eh (h:∀a,(enc a).length=sz)(bx:∀a,((enc a).map M.I).all M.one=true)(k g b:Nat)(l new:List α)(ae:(D l+D new)*b<=140737488355328)(hm:(D l)+D new<=1000000000):
  l5 k g sz (D l) b (D new) (aY enc new) (some (g,aY enc l))=some (.ref k (g+1) sz 0 (D l+D new),some (k,g+1,aY enc (l++new))):=by
 unfold l5;have yb:(D l)+D new<=maxLen:=eF hm (by decide);dsimp only;rw[Z ⟨rfl,by rw[ld h];exact bP _,ae,yb,alW bx new⟩,QJ,dD (by rw[ld h];exact bP _)]
theorem mK (h:∀a,(enc a).length=sz)(bx:∀a,((enc a).map M.I).all M.one=true)(k g b:Nat)(l:List α)(a:α){cs:List M}(G:cs=(enc a).map .I)(ae:(D l+1)*b<=140737488355328)(hm:(D l)+1<=1000000000):
  l5 k g sz (D l) b 1 cs (some (g,aY enc l))=some (.ref k (g+1) sz 0 (D l+1),some (k,g+1,aY enc (l++[a]))):=by
 have:=Eh h bx k g b l [a] ae hm;rw[G];rw[wB,alV,h1] at this;exact this
theorem wC (f:M->Option Data)(aJ:∀d,f (.I d)=some d)(l:List Data):(l.map M.I).mapM f=some l:=by
 induction l with
 |nil=>rfl
 |cons a r ay=>simp[aJ,ay]
theorem zY:∀(l:List (List Data)),(∀e∈l,D e=sz)->chunk sz (D l) l.flatten=l:=by
 intro l
 induction l with
 |nil=>intro _;rfl
 |cons e r ay =>
  intro h;have he:=h e (by simp);rw[kf,kL,chunk];rw[<-he,QM,QN,he,ay λx O=>h x (by simp[O])]
theorem pM (h:∀a,(enc a).length=sz){n k g:Nat}{mem:Mem}{l:List α}(hm:mem k=some (g,aY enc l)):c8 (n+1) mem (.ref k g sz 0 (D l))=some (.af (l.map enc)):=by
 unfold c8;rw[hm];simp only[if_true];unfold cut;rw[oP,ld h,Z (bP _)];simp only[nk];rw[dD (by rw[ld h];exact bP _)];unfold aY;rw[wC _ λd=>by cases n<;>rfl]
 have:=zY (sz:=sz) (l.map enc) (by simpa using λa _=>h a);rw[aj] at this;simp[this]
end
theorem aaq {α:Type}(enc:α->List Data)(l:List α):v9 (aY enc l)=true:=by
 unfold v9 aY;rw[oj];intro m hm;rw[fO] at hm;obtain⟨d,_,rfl⟩:=hm
 rfl
theorem mb {α:Type}{enc:α->List Data}{sz:Nat}(h:∀a,(enc a).length=sz){K:a2->Prop}{st:a2}(s k g:Nat)(l:List α):
  H5 K st s k g sz 0 (D l) (some (g,aY enc l))=K ⟨eP st.tm s (.I (.af (l.map enc))),kill st.mem k⟩:=by
 have Y:=pM (n:=0) h (mem:=a3 st.mem k g (aY enc l)) (k:=k) (g:=g) (l:=l) (by simp[a3]);unfold H5;dsimp only;rw[Z ⟨rfl,aaq enc l⟩];unfold cut;rw[oP,ld h,Z (bP _)];dsimp only;rw[nk,dD (by rw[ld h];exact bP _)];unfold aY;rw[wC _ λd=>rfl];dsimp only;have:=zY (sz:=sz) (l.map enc) (by simpa using λa _=>h a);rw[aj] at this;rw[this]
theorem wrap64 (x:Int)(E:-9223372036854775808<=x)(H:x<=9223372036854775807):IntKind.i64.wrap x=x:=by
 rw[IntKind.wrap_i64];omega
theorem aar {α:Type}(l:List α)(i:Int)(ak:0<=i)(h:i<D l):∃x,l[i.toNat]?=some x/\l.drop i.toNat=x::l.drop (i+1).toNat/\l.take (i+1).toNat=l.take i.toNat++[x]:=by
 have aq:i.toNat<D l:=by omega
 have e:(i+1).toNat=i.toNat+1:=by omega
 refine⟨l[i.toNat],bs aq,?_,?_⟩
 ·rw[e];exact hW aq
 ·rw[e];rw[ks,bs aq];rfl
abbrev WP (T:bk)(mf:b1)(r:ez)(l:List M):Prop:=wp T mf.body (zU mf.res r) ⟨mA l,emp⟩
theorem cC {T:bk}{c:dZ}{K:ev->a2->Prop}{st:a2}(h:wp T c (b8 T K []) st):wp T c K st:=wq h
theorem eA (x:Int)(E:-9223372036854775808<=x:=by omega)(H:x<=9223372036854775807:=by omega):IntKind.i64.wrap x=x:=wrap64 x E H
theorem fW {i:Nat}(h:i<1000000000000):IntKind.i64.wrap ((i:Int)+1)=((i+1:Nat):Int):=by rw[wrap64 _ (by omega) (by omega)];omega
end Go.Mini
namespace Go.Mini
open Go Go.ChangeShapes Go.WideShapes
inductive pN where
 |int (k:IntKind)
 |bool
 |str
 |af (e:pN)
 |st (l:List pN)
mutual
def Fit:pN->List Data->Prop
 |.int k,ds=>∃n,ds=[.int k n]/\(Lit.int k n).wf=true
 |.bool,ds=>∃b,ds=[.bool b]
 |.str,ds=>∃s,ds=[.str s]/\D s<=maxLen
 |.af e,ds=>∃es,ds=[.af es]/\D es<=maxLen/\∀x∈es,Fit e x
 |.st l,ds=>Fits l ds
def Fits:List pN->List Data->Prop
 | [],ds=>ds=[]
 |s::r,ds=>∃a b,ds=a++b/\Fit s a/\Fits r b
end
def H6 (P:Program):Nat->List Field->Nat->Bool
 |off,[],tot=>off==tot
 |off,f::r,tot=>f.offset==off&&H6 P (off+P.cellsOf f.type) r tot
def H7 (g:TypeId->Option pN):List Field->Option (List pN)
 | []=>some []
 |f::r=>match g f.type,H7 g r with
  |some s,some l=>some (s::l)
  |_,_=>none
def rl (P:Program):Nat->TypeId->Option pN
 |0,_=>none
 |n+1,t=>match P.underlying t with
  |some .bool=>some .bool
  |some (.int k)=>some (.int k)
  |some .string=>some .str
  |some (.slice e)=>if 0<P.cellsOf e then (rl P n e).map .af else none
  |some (.struct dq)=>if H6 P 0 dq.toList (P.cellsOf t)=true then (H7 (rl P n) dq.toList).map .st else none
  |_=>none
section
variable {hx:Type} {enc:TypeId×Value->hx} {P:Program} {w:World} {base:Nat}
def H8 (enc:TypeId×Value->hx)(P:Program)(w:World)(base:Nat)(S:pN)(fuel:Nat)(t:TypeId)(cs:List Value)(x:DataW hx×List MemPlace):Prop :=
 (∃ds,Fit S ds/\yf w (λ_=>False) ds cs)/\(∀p∈x.2,p.block<w.heap.size) /\
 ∀(aN:World) (sp:Nat->Bool),(∀p∈x.2,sp p.block=true)->(∀b,b<w.heap.size->aN.heap[b]?=w.heap[b]?)->DataW.trod enc P aN base sp true fuel t cs=some x
theorem H9 {aO:Nat->Prop}{d:Data}{v:Value}(h:Den w aO d v):yf w aO [d] [v]:=by
 refine⟨rfl,λi wo Bs E H=>?_⟩
 cases i with
 |zero=>cases E;cases H;exact h
 |succ i=>simp at E
theorem aas (a:Addr)(i:Nat):(a.add i).block=a.block:=by
 unfold Addr.add
 split<;>rfl
theorem add_plain (b off i:Nat):(Addr.add ⟨b,off,none⟩ i)=⟨b,off+i,none⟩:=by
 unfold Addr.add
 split
 ·rename_i h;subst h;rfl
 ·rfl
theorem aat {aN:World}{a:Addr}{n:Nat}{cs:List Value}(h:w.cells? base a n=some cs)(J:∀b,b<w.heap.size->aN.heap[b]?=w.heap[b]?):aN.cells? base a n=some cs:=by
 unfold World.cells? at h ⊢
 split at h
 ·rename_i ae;rw[Z ae,<-h]
  by_cases aq:a.block<w.heap.size
  ·have he:(λi=>aN.cell? (a.add i))=λi=>w.cell? (a.add i):=by
    funext i
    exact World.cell?_of_block (a:=a.add i) (J _ (by rw[aas];exact aq))
   rw[he]
  ·cases n with
   |zero=>rfl
   |succ n =>
    exfalso
    have:w.cell? (a.add 0)=none:=by
     unfold World.cell?;have:w.heap[(a.add 0).block]?=none:=Array.getElem?_eq_none (by rw[aas];omega);rw[this]
    rw[List.range_succ_eq_map,oi,this] at h
    cases h
 ·cases h
theorem QO {a:Addr}{n:Nat}{cs:List Value}(h:w.cells? base a n=some cs):(D cs)=n/\∀i,i<n->∃v,cs[i]?=some v/\w.cell? (a.add i)=some v:=by
 unfold World.cells? at h
 split at h
 ·obtain⟨E,H⟩:=nN h;rw[rm] at E;refine⟨E,λi L=>?_⟩;have G:=bs (l:=cs) (i:=i) (by omega);exact⟨_,G,H i i _ (by simp[L]) G⟩
 ·cases h
theorem alX {a:Addr}{v:Value}(h:w.cell? a=some v):a.block<w.heap.size/\a.spot=none:=by
 unfold World.cell? at h
 split at h
 ·rename_i ae;refine⟨(Array.getElem?_eq_some_iff.1 ae).1,?_⟩
  cases Q:a.spot with
  |none=>rfl
  |some x=>rw[Q] at h;simp at h
 ·cases h
theorem mapM_congr {α β:Type}{f g:α->Option β}:∀{l:List α},(∀x∈l,f x=g x)->l.mapM f=l.mapM g:=by
 intro l
 induction l with
 |nil=>intro _;rfl
 |cons a r ay =>
  intro h;rw[oi,oi,h a (by simp),ay λx O=>h x (by simp[O])]
theorem alY {β:Type}(len:Nat)(aH:Nat->β->Prop)(h:∀i,i<len->∃y,aH i y):∃l:List β,D l=len/\∀i y,l[i]?=some y->aH i y:=by
 induction len with
 |zero=>exact⟨[],rfl,λi y h=>by simp at h⟩
 |succ n ay =>
  obtain⟨l,E,H⟩:=ay λi L=>h i (by omega);obtain⟨y,ao⟩:=h n (by omega);refine⟨l++[y],by simp[E],λi z aQ=>?_⟩
  rw[DQ] at aQ
  split at aQ
  ·exact H i z aQ
  ·rename_i aq
   have:i-D l=0:=by
    have:=(dK.1 aQ).1;simp at this;omega
   rw[this] at aQ
   cases aQ;have:i=n:=by omega
   subst this;exact ao
theorem alZ {β:Type}{sz:Nat}:∀(es:List (List β)),(∀e∈es,D e=sz)->0<sz->∀(i:Nat) (d:β),es.flatten[i]?=some d->∃e,es[i/sz]?=some e/\e[i%sz]?=some d:=by
 intro es
 induction es with
 |nil=>intro _ _ i d h;simp at h
 |cons e r ay =>
  intro h aQ i d X;have he:=h e (by simp);rw[kL,DQ] at X
  split at X
  ·rename_i aq;rw[he] at aq;refine⟨e,by rw[QP aq];rfl,by rw[Ia aq];exact X⟩
  ·rename_i ck;rw[he] at X ck;obtain⟨x,E,H⟩:=ay (λy ao=>h y (by simp[ao])) aQ _ d X;have L:i=(i-sz)+sz:=by omega
   refine⟨x,?_,?_⟩
   ·rw[L,Nat.add_div_right _ aQ]
    simpa using E
   ·rw[L,Nat.add_mod_right];exact H
theorem al0 {n fuel:Nat}(ay:∀t S,rl P n t=some S->∀(cs:List Value) (x:DataW hx×List MemPlace),DataW.trod enc P w base (λ_=>true) true fuel t cs=some x->H8 enc P w base S fuel t cs x)(cs:List Value):
  ∀(dq:List Field) (off:Nat) (l:List pN) (xs:List (DataW hx×List MemPlace)),H7 (rl P n) dq=some l->H6 P off dq (D cs)=true ->
   dq.mapM (λf=>DataW.trod enc P w base (λ_=>true) true fuel f.type ((cs.drop f.offset).take (P.cellsOf f.type)))=some xs ->
   (∃ds,Fits l ds/\yf w (λ_=>False) ds (cs.drop off))/\(∀p∈xs.flatMap (·.2),p.block<w.heap.size) /\
   ∀(aN:World) (sp:Nat->Bool),(∀p∈xs.flatMap (·.2),sp p.block=true)->(∀b,b<w.heap.size->aN.heap[b]?=w.heap[b]?) ->
    dq.mapM (λf=>DataW.trod enc P aN base sp true fuel f.type ((cs.drop f.offset).take (P.cellsOf f.type)))=some xs:=by
 intro dq
 induction dq with
 |nil =>
  intro off l xs au bJ O;simp only[H7,cb] at au;subst au;simp only[H6,beq_iff_eq] at bJ;simp only[aan,g4,cb] at O;subst O;refine⟨⟨[],rfl,?_⟩,by simp,λ_ _ _ _=>rfl⟩
  rw[bJ,QQ];exact⟨rfl,λi d v h=>by simp at h⟩
 |cons f r ihf =>
  intro off l xs au bJ O;unfold H7 at au
  split at au
  ·rename_i s fv Q Ld
   cases au;simp only[H6,e3,beq_iff_eq] at bJ;obtain⟨Qb,bJ⟩:=bJ;rw[oi] at O;simp only[g4,hf,eo,cb] at O;obtain⟨x,lQ,ys,al1,rfl⟩:=O;obtain⟨⟨QR,QS,Ei⟩,al2,al3⟩:=ay _ _ Q _ _ lQ;obtain⟨⟨BJ,kq,en⟩,al4,al5⟩:=ihf _ _ _ Ld bJ al1;refine⟨⟨QR++BJ,⟨QR,BJ,rfl,QS,kq⟩,?_⟩,?_,?_⟩
   ·have Zk:cs.drop off=(cs.drop off).take (P.cellsOf f.type)++cs.drop (off+P.cellsOf f.type):=by
     rw[<-D9,zX]
    rw[Qb] at Ei;rw[Zk];refine⟨by rw[hr,hr,Ei.1,en.1],λi d v E H=>?_⟩
    rw[DQ] at E H;have hlen:=Ei.1
    by_cases aq:i<D QR
    ·rw[Z aq] at E;rw[Z (by omega)] at H;exact Ei.2 i d v E H
    ·rw[aa aq] at E;rw[aa (by omega),hlen] at H;exact en.2 _ d v E H
   ·intro p aB;rw[o0,jK] at aB;exact aB.elim (al2 p) (al4 p)
   ·intro aN sp kQ J;rw[oi,al3 aN sp (λp aB=>kQ p (by rw[o0,jK];exact .inl aB)) J];have:=al5 aN sp (λp aB=>kQ p (by rw[o0,jK];exact .inr aB)) J;simp only[g4,hf,oZ];rw[this]
    rfl
  ·cases au
theorem al6:∀(n:Nat) (t:TypeId) (S:pN),rl P n t=some S->∀(fuel:Nat) (cs:List Value) (x:DataW hx×List MemPlace),DataW.trod enc P w base (λ_=>true) true fuel t cs=some x->H8 enc P w base S fuel t cs x:=by
 intro n
 induction n with
 |zero=>intro t S h;simp[rl] at h
 |succ n ay =>
  intro t S cB fuel cs x O
  cases fuel with
  |zero=>cases O
  |succ fuel =>
   unfold rl at cB
   split at cB
   ·-- bool
    rename_i hu
    cases cB
    have key:∀(aN:World) (sp:Nat->Bool) (cs:List Value),DataW.trod enc P aN base sp true (fuel+1) t cs=match cs with|[.bool b]=>some (.lit (.bool b),[])|_=>none:=by
     intro aN sp cs;unfold DataW.trod;rw[hu];clear O
     split<;>simp_all
    rw[key] at O
    split at O
    ·cases O;exact⟨⟨_,⟨_,rfl⟩,H9 .bool⟩,by simp,λaN sp _ _=>by rw[key]⟩
    ·cases O
   ·-- int
    rename_i k hu
    cases cB
    have key:∀(aN:World) (sp:Nat->Bool) (cs:List Value),DataW.trod enc P aN base sp true (fuel+1) t cs=match cs with|[.int k' n]=>if k'=k/\(Lit.int k n).wf=true then some (.lit (.int k n),[]) else none|_=>none:=by
     intro aN sp cs;unfold DataW.trod;rw[hu];clear O
     split<;>simp_all
    rw[key] at O
    split at O
    ·split at O
     ·rename_i G
      cases O;obtain⟨rfl,aau⟩:=G;exact⟨⟨_,⟨_,rfl,aau⟩,H9 .int⟩,by simp,λaN sp _ _=>by rw[key];simp[aau]⟩
     ·cases O
    ·cases O
   ·-- string
    rename_i hu
    cases cB
    have key:∀(aN:World) (sp:Nat->Bool) (cs:List Value),DataW.trod enc P aN base sp true (fuel+1) t cs=match cs with|[.string s]=>if s.size<=maxLen then some (.lit (.string s.data.toList),[]) else none|_=>none:=by
     intro aN sp cs;unfold DataW.trod;rw[hu];clear O
     split<;>simp_all
    rw[key] at O
    split at O
    ·rename_i s
     split at O
     ·rename_i G
      cases O;refine⟨⟨[.str s.data.toList],⟨_,rfl,?_⟩,H9 ?_⟩,by simp,λaN sp _ _=>by rw[key];simp[G]⟩
      ·rw[Array.length_toList];exact G
      ·have:Den w (λ_=>False) (.str s.data.toList) (.string ⟨s.data.toList.toArray⟩):=.str
       simpa using this
     ·cases O
    ·cases O
   ·-- slice
    rename_i e hu
    split at cB
    ·rename_i G;rw[ei] at cB;obtain⟨S,cB,rfl⟩:=cB
     have key:∀(aN:World) (sp:Nat->Bool) (cs:List Value),DataW.trod enc P aN base sp true (fuel+1) t cs=match cs with
      | [.slice none 0 0]=>some (.nil,[])
      | [.slice (some a) len cap] =>
       if base<=a.block/\len<=cap/\cap<=maxLen then
        ((
         dL len).mapM λi=>(aN.cells? base (a.add (i*P.cellsOf e)) (P.cellsOf e)).bind (DataW.trod enc P aN base sp true fuel e)).bind λelems =>
         (if sp a.block then (dL (cap-len)).mapM λj=>(aN.cells? base (a.add ((len+j)*P.cellsOf e)) (P.cellsOf e)).bind (DataW.trod enc P aN base sp true fuel e) else some []).map λrest =>
          (.slice (elems.map (·.1)) (rest.map (·.1)),MemPlace.row a ((D elems+D rest)*P.cellsOf e)++(elems++rest).flatMap (·.2))
       else none
      |_=>none:=by
      intro aN sp cs
      conv=>lhs;unfold DataW.trod
      rw[hu];clear O
      split<;>simp_all
     rw[key] at O
     split at O
     ·cases O;exact⟨⟨[.af []],⟨_,rfl,fr _,by simp⟩,H9 .k6⟩,by simp,λaN sp _ _=>by rw[key];rfl⟩
     ·rename_i a len cap
      split at O
      ·rename_i ae;rw[eo] at O;obtain⟨elems,he,O⟩:=O;rw[ei] at O;obtain⟨rest,Y,rfl⟩:=O;rw[Z rfl] at Y;obtain⟨km,al7⟩:=nN he;obtain⟨bX,al8⟩:=nN Y;rw[rm] at km bX
       -- each place
       have bF:∀i y,(i<len->elems[i]?=some y)->(¬ i<len->i<cap/\rest[i-len]?=some y)->∃ci,w.cells? base (a.add (i*P.cellsOf e)) (P.cellsOf e)=some ci/\DataW.trod enc P w base (λ_=>true) true fuel e ci=some y:=by
        intro i y E H
        by_cases L:i<len
        ·have:=al7 i i y (by simp[L]) (E L);rwa [eo] at this
        ·obtain⟨ab,aM⟩:=H L;have:=al8 (i-len) (i-len) y (List.getElem?_range (by omega)) aM;rw[show len+(i-len)=i by omega,eo] at this
         exact this
       have eV:0<D elems+(D rest)->a.block<w.heap.size/\a.spot=none:=by
        intro aB;have ak:0<cap:=by omega
        have:∃y,(0<len->elems[0]?=some y)/\(¬ 0<len->0<cap/\rest[0-len]?=some y):=by
         by_cases au:0<len
         ·exact⟨elems[0],λ_=>bs _,λh=>absurd au h⟩
         ·exact⟨rest[0],λh=>absurd h au,λ_=>⟨ak,by rw[Nat.zero_sub];exact bs _⟩⟩
        obtain⟨y,E,H⟩:=this;obtain⟨ci,mG,-⟩:=bF 0 y E H;obtain⟨v,-,aI⟩:=(QO mG).2 0 G;have:=alX aI;rw[LR] at this;have b6:(a.add 0).add 0=a:=by unfold Addr.add;simp
        rw[b6] at this;exact this
       have aav:∀i y,(i<len->elems[i]?=some y)->(¬ i<len->i<cap/\rest[i-len]?=some y)->∃ci,w.cells? base (a.add (i*P.cellsOf e)) (P.cellsOf e)=some ci/\H8 enc P w base S fuel e ci y:=by
        intro i y E H;obtain⟨ci,ab,aM⟩:=bF i y E H;exact⟨ci,ab,ay e S cB fuel ci y aM⟩
       have QT:∀(i:Nat) y,elems[i]?=some y->∃ci,w.cells? base (a.add (i*P.cellsOf e)) (P.cellsOf e)=some ci/\H8 enc P w base S fuel e ci y :=
        λi y ao=>aav i y (λ_=>ao) (λh=>absurd (by have:=(dK.1 ao).1;omega) h)
       have aaw:∀(j:Nat) y,rest[j]?=some y->∃ci,w.cells? base (a.add ((len+j)*P.cellsOf e)) (P.cellsOf e)=some ci/\H8 enc P w base S fuel e ci y :=
        λj y ao=>aav (len+j) y (λh=>by omega) (λ_=>⟨by have:=(dK.1 ao).1;omega,by rwa [Ej]⟩)
       refine⟨?_,?_,?_⟩
       ·obtain⟨es,QU,heq⟩:=alY len (λi (ds:List Data)=>∃ci,w.cells? base (a.add (i*P.cellsOf e)) (P.cellsOf e)=some ci/\Fit S ds/\yf w (λ_=>False) ds ci) λi L=>by
         obtain⟨ci,E,⟨ds,H,ab⟩,-,-⟩:=QT i _ (bs (by omega));exact⟨ds,ci,E,H,ab⟩
        refine⟨[.af es],⟨es,rfl,by omega,λy ao=>?_⟩,H9 ?_⟩
        ·obtain⟨i,L⟩:=tF.1 ao;obtain⟨ci,-,h,-⟩:=heq i y L;exact h
        ·by_cases au:len=0
         ·rw[au] at QU ⊢;rw[sf QU];exact .k6
         ·obtain⟨kq,en⟩:=eV (by omega);obtain⟨b,off,spot⟩:=a;simp only at kq en;subst en
          have eU:∀y∈es,D y=P.cellsOf e:=by
           intro y ao;obtain⟨i,L⟩:=tF.1 ao;obtain⟨ci,E,-,H⟩:=heq i y L;rw[<-H.1,(QO E).1]
          have hz:∀(i:Nat) (d:Data),es.flatten[i]?=some d->∃v,w.cell? ⟨b,off+i,none⟩=some v/\Den w (λ_=>False) d v:=by
           intro i d X;obtain⟨y,E,H⟩:=alZ es eU G i d X;obtain⟨ci,ab,-,aM⟩:=heq _ y E;have hm:i%P.cellsOf e<P.cellsOf e:=nV _ G;obtain⟨v,bl,bI⟩:=(QO ab).2 _ hm;rw[add_plain,add_plain,sa,sr,LS] at bI;exact⟨v,bI,aM.2 _ d v H bl⟩
          rw[<-QU];refine .af (sz:=P.cellsOf e) (λi=>(w.cell? ⟨b,off+i,none⟩).getD undef) (by omega) (by omega) kq (λh=>h) eU (λi L=>?_) λi d X=>?_
          ·have aq:i<D es.flatten:=by rw[K1 eU];exact L
           obtain⟨v,aI,-⟩:=hz i _ (bs aq);rw[aI]
           rfl
          ·obtain⟨v,aI,oO⟩:=hz i d X;rw[aI];exact oO
       ·intro p aB;simp only[jK] at aB;rcases aB with aB|aB
        ·unfold MemPlace.row at aB;rw[fO] at aB;obtain⟨i,L,rfl⟩:=aB;rw[hk] at L
         have:0<D elems+D rest:=by
          rcases jm (D elems+D rest) with h|h
          ·rw[h,LR] at L;omega
          ·exact h
         exact (eV this).1
        ·rw[BD] at aB;obtain⟨y,ao,aB⟩:=aB;rw[jK] at ao;rcases ao with ao|ao
         ·obtain⟨i,L⟩:=tF.1 ao;obtain⟨ci,-,h⟩:=QT i y L;exact h.2.1 p aB
         ·obtain⟨i,L⟩:=tF.1 ao;obtain⟨ci,-,h⟩:=aaw i y L;exact h.2.1 p aB
       ·intro aN sp kQ J;rw[key];simp only;rw[Z ae]
        have e7:0<D elems+(D rest)->sp a.block=true:=by
         intro aB
         have:=kQ (.cell a.block (a.off+0)) (by
          rw[jK]
          left
          unfold MemPlace.row;rw[fO];exact⟨0,by rw[hk];exact Nat.mul_pos aB G,rfl⟩)
         exact this
        have al9:(dL len).mapM (λi=>(aN.cells? base (a.add (i*P.cellsOf e)) (P.cellsOf e)).bind (DataW.trod enc P aN base sp true fuel e))=some elems:=by
         rw[<-he];refine mapM_congr λi L=>?_;rw[hk] at L;have ao:=bs (l:=elems) (i:=i) (by omega);obtain⟨ci,E,H⟩:=QT i _ ao;rw[aat E J,E];simp only[oZ];obtain⟨ama,ab,aM⟩:=bF i _ (λ_=>ao) (λh=>absurd L h);rw[E] at ab
         cases ab;rw[aM]
         exact H.2.2 aN sp (λp aB=>kQ p (by
          rw[jK];right
          rw[BD];exact⟨_,jK.2 (.inl (eL ao)),aB⟩)) J
        have amb:(dL (cap-len)).mapM (λj=>(aN.cells? base (a.add ((len+j)*P.cellsOf e)) (P.cellsOf e)).bind (DataW.trod enc P aN base sp true fuel e))=some rest:=by
         rw[<-Y];refine mapM_congr λj ai=>?_;rw[hk] at ai;have ao:=bs (l:=rest) (i:=j) (by omega);obtain⟨ci,E,H⟩:=aaw j _ ao;rw[aat E J,E];simp only[oZ];obtain⟨ama,ab,aM⟩:=bF (len+j) rest[j] (λh=>by omega) (λ_=>⟨by omega,by rw[Ej];exact ao⟩);rw[E] at ab
         cases ab;rw[aM]
         exact H.2.2 aN sp (λp aB=>kQ p (by
          rw[jK];right
          rw[BD];exact⟨_,jK.2 (.inr (eL ao)),aB⟩)) J
        rw[al9];simp only[oZ]
        cases Q:sp a.block with
        |true=>simp only[if_true];rw[amb];rfl
        |false =>
         have aQ:¬ 0<D elems+D rest:=λh=>by rw[e7 h] at Q;cases Q
         have:rest=[]:=sf (by omega);subst this
         rfl
      ·cases O
     ·cases O
    ·cases cB
   ·-- struct
    rename_i dq hu
    split at cB
    ·rename_i bJ;rw[ei] at cB;obtain⟨l,au,rfl⟩:=cB
     have key:∀(aN:World) (sp:Nat->Bool),DataW.trod enc P aN base sp true (fuel+1) t cs =
       if (D cs)=P.cellsOf t then (dq.toList.mapM λf=>DataW.trod enc P aN base sp true fuel f.type ((cs.drop f.offset).take (P.cellsOf f.type))).map λxs=>(.agg (xs.map (·.1)),xs.flatMap (·.2)) else none:=by
      intro aN sp
      conv=>lhs;unfold DataW.trod
      rw[hu]
     rw[key] at O
     split at O
     ·rename_i hlen;rw[ei] at O;obtain⟨xs,zS,rfl⟩:=O;rw[<-hlen] at bJ;obtain⟨E,H,ab⟩:=al0 (λt S h cs x O=>ay t S h fuel cs x O) cs dq.toList 0 l xs au bJ zS;refine⟨?_,H,λaN sp kQ J=>?_⟩
      ·obtain⟨ds,aJ,X⟩:=E;exact⟨ds,aJ,by simpa using X⟩
      ·rw[key,Z hlen,ab aN sp kQ J]
       rfl
     ·cases O
    ·cases cB
   ·cases cB
end
end Go.Mini
namespace Go.Mini
open Go Go.ChangeShapes Go.WideShapes Go.RowKit
def aax:pN->Data->Prop
 |.st l,d=>∃cs,d=.agg cs/\Fits l cs
 |s,d=>Fit s [d]
def LU:List pN->List Data->Prop
 | [],ds=>ds=[]
 |s::r,ds=>∃d t,ds=d::t/\aax s d/\LU r t
section
variable {hx:Type} {enc:TypeId×Value->hx} {P:Program} {w:World}
theorem amc {aO:Nat->Prop}{d:Data}{v:Value}{ds:List Data}{vs:List Value}(h:Den w aO d v)(Q:yf w aO ds vs):yf w aO (d::ds) (v::vs):=by
 refine⟨by simp[Q.1],λi wo Bs E H=>?_⟩
 cases i with
 |zero=>cases E;cases H;exact h
 |succ i=>exact Q.2 i wo Bs (by simpa using E) (by simpa using H)
theorem amd {n:Nat}{t:TypeId}{S:pN}{v:Value}{d:DataW hx}{cW:List MemPlace}{rn:Nat}(cB:rl P n t=some S)(hz:Value.okWide P w .any rn t v)(h:DataW.Trod enc P w 0 (λ_=>true) true t v d cW):
  (∃bS,aax S bS/\Den w (λ_=>False) bS v)/\(∀p∈cW,p.block<w.heap.size) /\
  ∀(aN:World) (sp:Nat->Bool),(∀p∈cW,sp p.block=true)->(∀b,b<w.heap.size->aN.heap[b]?=w.heap[b]?)->DataW.Trod enc P aN 0 sp true t v d cW:=by
 obtain⟨fuel,O⟩:=h;obtain⟨⟨ds,aJ,X⟩,H,ab⟩:=al6 n t S cB fuel _ _ O;refine⟨?_,H,λaN sp kQ J=>⟨fuel,ab aN sp kQ J⟩⟩
 have one:(∀cs,v ≠ .agg cs)->∀d,ds=[d]->Den w (λ_=>False) d v:=by
  intro aI d e;subst e;have:v.cells=#[v]:=by unfold Value.cells;split<;>simp_all
  rw[this] at X;exact X.2 0 d v rfl rfl
 cases n with
 |zero=>simp[rl] at cB
 |succ n =>
  unfold rl at cB;unfold Value.okWide at hz
  split at cB
  ·rename_i hu
   cases cB;rw[hu] at hz;obtain⟨b,rfl⟩:=aJ;refine⟨_,⟨b,rfl⟩,one ?_ _ rfl⟩;rintro cs rfl;simp[Cell.okWide,Cell.ok,hu] at hz
  ·rename_i k hu
   cases cB;rw[hu] at hz;obtain⟨b,rfl,ae⟩:=aJ;refine⟨_,⟨b,rfl,ae⟩,one ?_ _ rfl⟩;rintro cs rfl;simp[Cell.okWide,Cell.ok,hu] at hz
  ·rename_i hu
   cases cB;rw[hu] at hz;obtain⟨b,rfl,ae⟩:=aJ;refine⟨_,⟨b,rfl,ae⟩,one ?_ _ rfl⟩;rintro cs rfl;simp[Cell.okWide,Cell.ok,hu] at hz
  ·rename_i e hu
   split at cB
   ·rw[ei] at cB;obtain⟨S,cB,rfl⟩:=cB;rw[hu] at hz;obtain⟨b,rfl,ae⟩:=aJ;refine⟨_,⟨b,rfl,ae⟩,one ?_ _ rfl⟩;rintro cs rfl;simp[Cell.okWide,Cell.ok,hu] at hz
   ·cases cB
  ·rename_i dq hu
   split at cB
   ·rw[ei] at cB;obtain⟨l,au,rfl⟩:=cB;rw[hu] at hz;obtain⟨cs,rfl,-,-⟩:=hz;refine⟨.agg ds,⟨ds,rfl,aJ⟩,?_⟩;have:Den w (λ_=>False) (.agg ds) (.agg cs.toList.toArray):=.agg X.1 X.2
    simpa using this
   ·cases cB
  ·cases cB
theorem QV {n rn:Nat}:∀{sd:List TypeId} {schs:List pN} {vs:List Value} {ds:List (DataW hx)} {cW:List MemPlace},sd.mapM (rl P n)=some schs->(∀(j:Nat) t v,sd[j]?=some t->vs[j]?=some v->Value.okWide P w .any rn t v) ->
  DataW.TrodAll enc P w 0 (λ_=>true) true sd vs ds cW ->
  (∃rp,LU schs rp/\yf w (λ_=>False) rp vs)/\(∀p∈cW,p.block<w.heap.size) /\
  ∀(aN:World) (sp:Nat->Bool),(∀p∈cW,sp p.block=true)->(∀b,b<w.heap.size->aN.heap[b]?=w.heap[b]?)->DataW.TrodAll enc P aN 0 sp true sd vs ds cW
 | [],schs,vs,ds,cW,cB,hz,h=>by
  obtain⟨rfl,rfl,rfl⟩:=trodAll_nil h;simp at cB;subst cB;exact⟨⟨[],rfl,rfl,λi d v h=>by simp at h⟩,by simp,λ_ _ _ _=>rfl⟩
 |t::sd,schs,vs,ds,cW,cB,hz,h=>by
  obtain⟨v,ame,d,amf,a,b,rfl,rfl,rfl,E,H⟩:=trodAll_cons h;rw[oi] at cB;simp only[g4,hf,eo,cb] at cB;obtain⟨S,amg,l,au,rfl⟩:=cB;obtain⟨⟨bS,j2,amh⟩,js,cH⟩:=amd amg (hz 0 t v rfl rfl) E;obtain⟨⟨rp,ami,amj⟩,iX,dc⟩:=QV au (λj amk Bs bJ aI=>hz (j+1) amk Bs (by simpa using bJ) (by simpa using aI)) H;refine⟨⟨bS::rp,⟨bS,rp,rfl,j2,ami⟩,amc amh amj⟩,λp aB=>?_,λaN sp kQ J=>?_⟩
  ·rw[jK] at aB;exact aB.elim (js p) (iX p)
  ·exact trodAll_cons_mk (cH aN sp (λp aB=>kQ p (jK.2 (.inl aB))) J) (dc aN sp (λp aB=>kQ p (jK.2 (.inr aB))) J)
theorem aml {W rq:World}(h:Fr (λ_=>False) W rq)(may:MemPlace->Prop):W.keptBut rq may:=by
 refine⟨h.os,h.output,λi L=>?_⟩;rw[h.block i L id]
 cases ae:W.heap[i]? with
 |none=>trivial
 |some o =>
  cases o with
  |cells c t az=>exact⟨rfl,rfl,rfl,λ_ _=>rfl⟩
  |map es clock=>exact .inr ⟨rfl,rfl⟩
  |_=>rfl
theorem amm {f:Func}{s:ChangeSpec}{apart fresh handsOn again:Bool}{W rq:World}{args:Array Value}{ds gs:List (DataW hx)}{before:List MemPlace}{n rn:Nat}{schs:List pN}{Ib:TypeId}
  (wD:DataW.Whole enc P f.params.toList s.vars apart W args.toList ds gs before) (aI:s.vars=[]) (cB:f.params.toList.mapM (rl P n)=some schs)
  (hz:∀(j:Nat) t v,f.params[j]?=some t->args[j]?=some v->Value.okWide P W .any rn t v)
  (Y:f.resultTypes=#[Ib]) (ae:P.underlying Ib=some .bool) (k9:s.fn hx ds={ results:=[.lit (.bool true)],args:=ds }) (aJ:Fr (λ_=>False) W rq) :
  s.post enc P f apart fresh handsOn again W args (.bool true) rq:=by
 have QW:=wD;obtain⟨p,q,dj,qC,rfl,aQ,aG⟩:=wD;rw[aI] at qC;obtain⟨rfl,rfl⟩:=trodVars_none qC;obtain⟨-,aq,J⟩:=QV cB (λj t v bJ aI=>hz j t v (by simpa using bJ) (by simpa using aI)) dj;have aay:∀b,b<W.heap.size->rq.heap[b]?=W.heap[b]?:=λb ae=>aJ.block b ae id
 have tC:∀(b:Nat) (sp:Nat->Bool) (X:Bool),DataW.TrodAll enc P rq b sp X f.resultTypes.toList ((Value.bool true).resultList f.resultTypes.size) (s.fn hx (ds++[])).results []:=by
  intro b sp X;rw[h1,k9,Y];exact trodAll_cons_mk (shut_bool ae true) trodAll_mk0
 have pI:∀sp:Nat->Bool,(∀x∈p,sp x.block=true)->DataW.TrodAll enc P rq 0 sp true f.params.toList args.toList (s.fn hx (ds++[])).args p:=by
  intro sp kQ;rw[h1,k9];exact J rq sp kQ aay
 have aaz:∀sp:Nat->Bool,DataW.TrodVars enc P rq sp s.vars (s.fn hx (ds++[])).vars []:=by
  intro sp;rw[aI,h1,k9]
  rfl
 refine⟨ds,[],p++[],[],p,[],QW,tC _ _ _,pI _ (λx O=>by simpa using aq x O),aaz _,aml aJ _,λ_=>⟨?_,_,_,([]++p)++[],⟨[]++p,[],trodAll_append (pI _ (λ_ _=>rfl)) (tC _ _ _),aaz _,rfl,?_,?_⟩,?_⟩⟩
 ·intro j t r E H;rw[Y] at E H
  cases j with
  |zero =>
   simp[Value.resultList] at E H;subst E H;exact okWide_bool_mk ae true
  |succ j=>simp at E
 ·intro b off aB;have aaA:MemPlace.cell b off∈p:=by simpa using aB
  have ae:=aq _ aaA;have ak:=aQ b off (by simpa using aaA);unfold World.frozen? at ak ⊢;rw[aay b ae];exact ak
 ·intro a1;have:=aG a1
  simpa using this
 ·intro x O _
  simpa using O
theorem amn {f:FuncId}{fn:Func}{s:ChangeSpec}{apart fresh handsOn again:Bool}{aP:List Data->Option ez}{n:Nat}{schs:List pN}{Ib:TypeId}(aB:sq P f aP)(aI:s.vars=[])(cB:fn.params.toList.mapM (rl P n)=some schs)
  (Y:fn.resultTypes=#[Ib]) (ae:P.underlying Ib=some .bool) (k9:∀ds:List (DataW hx),D ds=(D fn.params.toList)->s.fn hx ds={ results:=[.lit (.bool true)],args:=ds })
  {W:World} {base:Nat} {args:Array Value} {ds gs:List (DataW hx)} {before:List MemPlace}
  (e4:∀rp,LU schs rp->aP rp=some (.same (.bool true)))
  (hz:∀(j:Nat) t v,fn.params[j]?=some t->args[j]?=some v->Value.okWide P W .any base t v)
  (wD:DataW.Whole enc P fn.params.toList s.vars apart W args.toList ds gs before) :
  Calls P f args W λe rq=>∃v,e=.returned v/\s.post enc P fn apart fresh handsOn again W args v rq:=by
 have QW:=wD;obtain⟨p,q,dj,qC,rfl,aQ,aG⟩:=wD;obtain⟨⟨rp,E,H⟩,-,-⟩:=QV cB (λj t v bJ aI=>hz j t v (by simpa using bJ) (by simpa using aI)) dj
 have hlen:(D ds)=D fn.params.toList:=by
  have:∀(sd:List TypeId) (vs:List Value) (ds:List (DataW hx)) (cW:List MemPlace),DataW.TrodAll enc P W 0 (λ_=>true) true sd vs ds cW->(D ds)=D sd:=by
   intro sd
   induction sd with
   |nil=>intro vs ds cW h;obtain⟨rfl,rfl,rfl⟩:=trodAll_nil h;rfl
   |cons t r ay=>intro vs ds cW h;obtain⟨v,ame,d,amf,a,b,rfl,rfl,rfl,-,H⟩:=trodAll_cons h;simp[ay _ _ _ H]
  exact this _ _ _ _ dj
 have G:=aB.run rp _ (e4 rp E) (λ_=>False) W args.toList (λb ae=>ae.elim) H;have a1:args.toList.toArray=args:=by simp
 rw[a1] at G;refine G.mono λe rq ⟨v,he,bR,X⟩=>⟨v,he,?_⟩
 have:v=.bool true:=by
  have oO:Den rq (λ_=>False) (.bool true) v:=X
  cases oO
  rfl
 subst this;exact amm QW aI cB hz Y ae (k9 ds hlen) bR
theorem aaB {α:Type}{l:List α}{n:Nat}(h:(D l)=n+1):∃d t,l=d::t/\D t=n:=by
 cases l with
 |nil=>simp at h
 |cons d t=>exact⟨d,t,rfl,by simpa using h⟩
theorem QX {α:Type}{e:α->List Data}{good:α->Prop}:∀{es:List (List Data)},(∀x∈es,∃a,x=e a/\good a)->∃l:List α,es=l.map e/\∀a∈l,good a
 | [],_=>⟨[],rfl,by simp⟩
 |x::r,h=>by
  obtain⟨a,rfl,a1⟩:=h x (by simp);obtain⟨l,rfl,au⟩:=QX (es:=r) λy ao=>h y (by simp[ao]);exact⟨a::l,rfl,λb ae=>(nU.1 ae).elim (λe=>e ▸ a1) (au b)⟩
end
end Go.Mini
namespace Go.Mini
open Go
def yl (x:M)(m:Mem):M->Mem->Prop:=λr mem'=>r=x/\mem'=m
@[go_sem high] theorem aBE {K:a2->Prop}(x:M)(m:Mem)(d:Option Nat)(st:a2):wu K (some (.rel (yl x m))) d st=K ⟨put st.tm d x,m⟩:=by
 rw[akJ];apply propext;exact⟨λh=>h x m ⟨rfl,rfl⟩,λh r mem' ⟨aw,aC⟩=>by rw[aw,aC];exact h⟩
def zZ (bA:List M->Mem->Option (M×Mem))(args:List M)(mem:Mem):Option gT:=(bA args mem).map λx => .rel (yl x.1 x.2)
@[go_sem] theorem aBF (bA:List M->Mem->Option (M×Mem))(args:List M)(mem:Mem):zZ bA args mem=(bA args mem).map λx => .rel (yl x.1 x.2):=bn
structure Ic (P:Program) (f:FuncId) (bA:List M->Mem->Option (M×Mem)):Prop where
 real:Real P f
 run:∀args mem x,bA args mem=some x->∀A w B vs,fl A w B mem->c9 w (cj A B) B args vs->Qk P f vs A w B mem (.rel (yl x.1 x.2))
def Ek (res:List nL)(x:M)(m:Mem):ev->a2->Prop
 |.exit _,_=>False
 |.normal,st=>oN st res=some x/\st.mem=m
 |.ret,st=>oN st res=some x/\st.mem=m
@[go_sem] theorem aBG {res:List nL}{st:a2}(x:M)(m:Mem)(id:Nat):Ek res x m (.exit id) st=False:=bn
@[go_sem] theorem aBH {res:List nL}{st:a2}(x:M)(m:Mem):Ek res x m .normal st=(oN st res=some x/\st.mem=m):=bn
@[go_sem] theorem aBI {res:List nL}{st:a2}(x:M)(m:Mem):Ek res x m .ret st=(oN st res=some x/\st.mem=m):=bn
theorem aaC {P : Program}{T : bk}{kb : Nat}{own : List Nat}(cE : qy P T)(hm : P.follows .mixedOrders = true){f : FuncId}{fn : Func}{mf : b1}(aJ : P.funcs[f]? = some fn)(u1 : (fn.name == "runtime.NumGoroutine") = false)(aU : r9 P kb own fn = some { mf with body := erase mf.body })
  {bA:List M->Mem->Option (M×Mem)} (h:∀args mem x,bA args mem=some x->(D args)<=mf.n/\wp T mf.body (Ek mf.res x.1 x.2) ⟨mA args,mem⟩):Ic P f bA:=by
 refine⟨?_,λargs mem x mL A w B vs bT aI=>?_⟩
 ·cases ae:fn.body with
  |none=>simp[r9,ae] at aU
  |some c=>exact⟨fn,c,aJ,ae,u1⟩
 ·obtain⟨hlen,yh⟩:=h args mem x mL;refine Calls.mono (H3 (Post:=yl x.1 x.2) cE hm aJ aU hlen (λe st J=>?_) yh bT aI) λe aN he=>?_
  ·cases e with
   |exit id=>exact J
   |normal=>exact⟨_,J.1,rfl,J.2⟩
   |ret=>exact⟨_,J.1,rfl,J.2⟩
  ·obtain⟨v,m,mem',bq,rfl,Q,ra,aB⟩:=he;exact⟨v,m,mem',bq,rfl,Q,ra,aB⟩
def LV:Option (M×Mem)->Option gT->Option gT
 |some x,_=>some (.rel (yl x.1 x.2))
 |none,e=>e
@[go_sem] theorem aBJ (x:M×Mem)(e:Option gT):LV (some x) e=some (.rel (yl x.1 x.2)):=bn
@[go_sem] theorem aBK (e:Option gT):LV none e=e:=bn
def ym (aP:List Data->Option ez)(bA:List M->Mem->Option (M×Mem))(args:List M)(mem:Mem):Option gT:=LV (bA args mem) (aW aP args mem)
@[go_sem] theorem aBL (aP:List Data->Option ez)(bA:List M->Mem->Option (M×Mem))(args:List M)(mem:Mem):ym aP bA args mem=LV (bA args mem) (aW aP args mem):=bn
open Classical in
def El {α:Type}(a8:α->List M->Mem->Prop)(res:α->Mem->M×Mem):List M->Mem->Option (M×Mem):=λargs mem=>if h:∃a,a8 a args mem then some (res (yi h) mem) else none
theorem aaD {α:Type}{a8:α->List M->Mem->Prop}{res:α->Mem->M×Mem}(uniq:∀a b args mem,a8 a args mem->a8 b args mem->res a mem=res b mem){a:α}{args:List M}{mem:Mem}(h:a8 a args mem):El a8 res args mem=some (res a mem):=by
 have O:∃b,a8 b args mem:=⟨a,h⟩;unfold El;rw[dif_pos O,uniq _ _ _ _ (oX O) h]
theorem QY {α:Type}{a8:α->List M->Mem->Prop}{res:α->Mem->M×Mem}{args:List M}{mem:Mem}{x:M×Mem}(h:El a8 res args mem=some x):∃a,a8 a args mem/\x=res a mem:=by
 unfold El at h
 split at h
 ·rename_i O;exact⟨_,oX O,(ni h).symm⟩
 ·cases h
def wE:Nat->Nat->List Int
 |0,_=>[]
 |f+1,n=>if n=0 then [] else ((n%1048576:Nat):Int)::wE f (n/1048576)
def aF (n:Nat):List Int:=wE n n
def a0:List Int->Int
 | []=>0
 |d::r=>d+1048576*a0 r
theorem ss (d:Int)(r:List Int):a0 (d::r)=d+1048576*a0 r:=rfl
def er (l:List Int):Prop:=∀d∈l,0<=d/\d<1048576
def fm:List Int->List Int
 | []=>[]
 |d::r=>if fm r=[] then (if d=0 then [] else [d]) else d::fm r
def ad (n:Int):List Data:=[.int .i64 n]
theorem hQ (b:Int):(ad b).length=1:=rfl
theorem wF (b:Int):((ad b).map M.I).all M.one=true:=rfl
theorem g7:∀a b:Int,ad a=ad b->a=b:=by intro a b h;simpa [ad] using h
theorem amo:∀(f g n:Nat),n<=f->n<=g->wE f n=wE g n:=by
 intro f
 induction f with
 |zero =>
      intro g n h _;obtain rfl:n=0:=by omega
      cases g<;>simp[wE]
 |succ f ay =>
  intro g n E H
  cases g with
  |zero =>
       obtain rfl:n=0:=by omega
       simp[wE]
  |succ g =>
   unfold wE
   by_cases aG:n=0
   ·rw[Z aG,Z aG]
   ·rw[aa aG,aa aG,ay g (n/1048576) (by omega) (by omega)]
theorem rr:aF 0=[]:=rfl
theorem tG {n:Nat}(h:0<n):aF n=((n%1048576:Nat):Int)::aF (n/1048576):=by
 unfold aF;obtain⟨k,rfl⟩:∃k,n=k+1:=⟨n-1,by omega⟩
 conv=>lhs;unfold wE
 rw[aa (by omega),amo k ((k+1)/1048576) _ (by omega) (by omega)]
theorem lf (n:Nat):a0 (aF n)=n:=by
 induction n using QE with
 |_ n ay =>
  rcases jm n with rfl|h
  ·rfl
  ·rw[tG h];unfold a0;rw[ay _ (by omega)];omega
theorem Ie {a b:Nat}(h:aF a=aF b):a=b:=by
 have:=congrArg a0 h;rw[lf,lf] at this;omega
theorem mc (n:Nat):er (aF n):=by
 induction n using QE with
 |_ n ay =>
  rcases jm n with rfl|h
  ·intro d X;cases X
  ·rw[tG h];intro d X;rcases nU.1 X with rfl|X
   ·omega
   ·exact ay _ (by omega) d X
theorem yn {n:Nat}:aF n=[]↔n=0:=by
 constructor
 ·intro h;exact Ie (b:=0) h
 ·rintro rfl;rfl
theorem ov {l:List Int}(h:er l):0<=a0 l:=by
 induction l with
 |nil=>exact Int.le_refl _
 |cons d r ay =>
  have E:=h d (by simp);have H:=ay λx O=>h x (by simp[O]);unfold a0;omega
theorem BK {d:Int}{r:List Int}:er (d::r)↔(0<=d/\d<1048576)/\er r :=
 ⟨λh=>⟨h d (by simp),λx O=>h x (by simp[O])⟩,λh x O=>(nU.1 O).elim (λe=>e ▸ h.1) (h.2 x)⟩
theorem BL {a b:List Int}:er (a++b)↔er a/\er b :=
 ⟨λh=>⟨λx O=>h x (by simp[O]),λx O=>h x (by simp[O])⟩,λh x O=>(jK.1 O).elim (h.1 x) (h.2 x)⟩
theorem BM (a b:List Int):a0 (a++b)=a0 a+1048576^(D a)*a0 b:=by
 induction a with
 |nil=>simp[a0]
 |cons d r ay =>
  simp only[lP,a0,ay,kf,mM];rw[h2]
  have:(1048576:Int)*(1048576^(D r)*a0 b)=1048576^(D r)*1048576*a0 b:=by
   rw[mN (1048576^(D r)) 1048576,h3]
  omega
theorem yo {l:List Int}(h:er l):a0 l<1048576^(D l):=by
 induction l with
 |nil=>simp[a0]
 |cons d r ay =>
  rw[BK] at h;have H:=ay h.2;simp only[a0,kf,mM];omega
theorem aaE (l:List Int):fm (l++[0])=fm l:=by
 induction l with
 |nil=>simp[fm]
 |cons d r ay=>simp only[lP,fm,ay]
theorem aaF (l:List Int){d:Int}(h:d≠0):fm (l++[d])=l++[d]:=by
 induction l with
 |nil=>simp[fm,h]
 |cons x r ay=>simp only[lP,fm,ay];simp
theorem yp {l:List Int}(h:er l):fm l=aF (a0 l).toNat:=by
 induction l with
 |nil=>rfl
 |cons d r ay =>
  rw[BK] at h;have Y:=ay h.2;have aI:=ov h.2;unfold fm;rw[Y,ss]
  by_cases aQ:a0 r=0
  ·rw[aQ]
   by_cases X:d=0
   ·simp[X,rr]
   ·rw[Z (by rfl),aa X];rw[tG (by omega)];rw[show (d+1048576*0).toNat/1048576=0 by omega,rr]
    congr 1
    omega
  ·rw[aa (by rw[yn];omega)];rw[tG (n:=(d+1048576*a0 r).toNat) (by omega)]
   congr 1
   ·omega
   ·congr 1;omega
theorem aaG (n:Nat):fm (aF n)=aF n:=by
 rw[yp (mc n),lf];simp
theorem canon {l:List Int}(h:er l)(au:l.getLast?≠some 0):l=aF (a0 l).toNat:=by
 rw[<-yp h];rcases Em l with rfl|⟨r,d,rfl⟩
 ·rfl
 ·rw[En] at au ⊢;rw[aaF];rintro rfl;simp at au
theorem aaH (n:Nat):(aF n).getLast?≠some 0:=by
 intro h
 obtain⟨r,Y⟩:∃r,aF n=r++[0]:=by
  rcases Em (aF n) with e|⟨r,d,e⟩
  ·rw[e] at h;cases h
  ·rw[En] at e;rw[e] at h;simp at h;subst h;exact⟨r,e⟩
 have E:=aaG n;rw[Y,aaE] at E
 have H:(fm r).length<=D r:=by
  clear E Y h
  induction r with
  |nil=>simp[fm]
  |cons d r ay=>unfold fm;split<;>(try split)<;>simp<;>omega
 rw[E] at H;simp at H;omega
theorem gF {n k:Nat}:(aF n).length<=k↔n<1048576^k:=by
 induction k generalizing n with
 |zero =>
      rw[Nat.pow_zero];constructor
      ·intro h;have:=sf (Nat.le_zero.1 h);rw[yn] at this;omega
      ·intro h;obtain rfl:n=0:=by omega
       simp[rr]
 |succ k ay =>
  rcases jm n with rfl|h
  ·simp[rr];exact Eo (by simp)
  ·rw[tG h,kf,u3];have:=ay (n:=n/1048576);rw[Nat.add_le_add_iff_right,this];rw[aaI (by omega)]
theorem BN {n:Nat}(h:0<n)(E:n<1048576):aF n=[(n:Int)]:=by
 rw[tG h,QP E,Ia E];rfl
theorem Ig (l:List Int)(i:Nat):a0 l=a0 (l.take i)+1048576^(min i (D l))*a0 (l.drop i):=by
 conv=>lhs;rw[<-zX i l]
 rw[BM,hh]
theorem yq (n:Int)(h:0<=n/\n<18446744073709551616):IntKind.u64.wrap n=n:=by
 simp[IntKind.wrap,IntKind.bits,IntKind.signed];omega
theorem qD (n:Int):bits .and .i64 n 1048575=n%1048576:=by
 have H:(1048575:Int)=((2^20-1:Nat):Int):=by decide
 have E:n%18446744073709551616%1048576=n%1048576:=by omega
 obtain⟨a,a1⟩:∃a:Nat,(a:Int)=n%18446744073709551616:=⟨(n%18446744073709551616).toNat,by omega⟩
 have e:BitVec.ofInt 64 n=BitVec.ofNat 64 a:=by
  apply BitVec.eq_of_toInt_eq;rw[BitVec.toInt_ofInt,BitVec.toInt_ofNat',a1];simp[aaJ,aaK]
 have aC:bits .and .i64 n 1048575=bits .and .i64 (a:Int) 1048575:=by
  simp only[bits];rw[show IntKind.i64.bits=64 from rfl,e,BitVec.ofInt_natCast]
 rw[aC,<-E,<-a1,H];have QZ:a<2^64:=by omega
 simp only[bits,BitVec.ofInt_natCast,BitVec.toNat_and,BitVec.toNat_ofNat,show IntKind.i64.bits=64 from rfl,Ia QZ];rw[show (2^20-1:Nat)%2^64=2^20-1 by decide,aaL,wrap64 _ (by omega) (by omega)]
 omega
theorem aaM (n:Int)(h:0<=n/\n<18446744073709551616):bits .and .u64 n 1048575=n%1048576:=by
 have:=bits_mask .u64 64 (by decide) (λn E H=>yq n ⟨E,by omega⟩) 20 (by decide) n h.1 (by omega)
 simpa using this
theorem Q0 (x y:Int)(O:0<=x)(lQ:x<8796093022208)(ao:0<=y/\y<1048576):bits .or .i64 (x*1048576) y=x*1048576+y:=by
 refine bits_join .i64 63 (by decide) (λn E H=>wrap64 n (by omega) (by omega)) 20 _ _ (by omega) (by omega) (by omega) ao.1 (by omega) (by omega)
theorem amp (n:Int):n.fdiv (2^20)=n/1048576:=by
 rw[Int.fdiv_eq_ediv_of_nonneg _ (by decide)];rfl
theorem nW (n:Int):n.fdiv (2^min (BO 20) 64)=n/1048576:=amp n
def Q1:FuncId:=183
def Q2:FuncId:=164
def nm:FuncId:=42
def z0:FuncId:=28
def Q3:FuncId:=15
def Ep:FuncId:=23
def mO:FuncId:=196
def Q4:FuncId:=197
def z1:FuncId:=198
def Q5:FuncId:=142
def Q6:FuncId:=184
def BP:FuncId:=94
def Q7:FuncId:=163
def tH:FuncId:=37
def u4:FuncId:=135
def nn:FuncId:=24
def kt:FuncId:=81
def Ih:FuncId:=82
def Q8:FuncId:=83
def Q9:FuncId:=56
def tI:FuncId:=57
def BQ:FuncId:=58
def LW:FuncId:=32
def Ra:FuncId:=40
def LX:FuncId:=41
def Rb:FuncId:=203
def Rc:FuncId:=166
def LY:FuncId:=199
def Rd:FuncId:=200
def Ii:FuncId:=116
def LZ:FuncId:=136
def Re:FuncId:=182
def Er:FuncId:=70
def BR:FuncId:=43
def Rf:FuncId:=44
def tJ:FuncId:=114
def wG:FuncId:=109
def Ij:FuncId:=84
def ow:FuncId:=85
def Rg:FuncId:=128
def Rh:FuncId:=113
def Es:FuncId:=115
def tK:FuncId:=76
def L0:FuncId:=77
def Ri:FuncId:=78
def L1:FuncId:=79
def tL:FuncId:=80
def Ik:FuncId:=204
def z2:FuncId:=205
def BS:FuncId:=139
def amq:FuncId:=194
def Rj:FuncId:=195
def Il:FuncId:=86
def Et:FuncId:=87
def Eu:FuncId:=88
def BT:FuncId:=89
def L2:FuncId:=129
def pO:FuncId:=130
def Rk:FuncId:=131
def Rl:FuncId:=151
def Im:FuncId:=124
def Rm:FuncId:=125
def Io:FuncId:=126
def su:FuncId:=127
def L3:FuncId:=132
def L4:FuncId:=161
def Ip:FuncId:=122
def sv:FuncId:=162
def BU:FuncId:=26
def Rn:FuncId:=45
def Ro:FuncId:=46
def L5:FuncId:=47
def ox:FuncId:=48
def BV:FuncId:=49
def Iq:FuncId:=50
def Rp:FuncId:=51
def u5:FuncId:=900234
def Rq:FuncId:=138
def wH:FuncId:=137
def tM:FuncId:=90
def Ir:FuncId:=91
def Is:FuncId:=92
def It:FuncId:=68
def Iu:FuncId:=69
def Rr:FuncId:=93
def Rs:FuncId:=95
def aaN:FuncId:=900250
def aaO:FuncId:=900252
def Ev:FuncId:=165
def Rt:FuncId:=119
def L6:FuncId:=133
def Ru:FuncId:=134
def amr:FuncId:=5
def Rv:FuncId:=7
def Rw:FuncId:=8
def Rx:FuncId:=9
def yr:FuncId:=10
def BW:FuncId:=12
def yt:FuncId:=16
def Ry:FuncId:=17
def BX:FuncId:=18
def Rz:FuncId:=20
def RA:FuncId:=22
def z3:FuncId:=25
def BZ:FuncId:=29
def ru:FuncId:=31
def RB:FuncId:=33
def Iv:FuncId:=34
def RC:FuncId:=35
def Iw:FuncId:=36
def RD:FuncId:=59
def wI:FuncId:=66
def Ix:FuncId:=67
abbrev F (a b:Nat):cG:=⟨some a,none,.b3 (.t b)⟩
abbrev aK (a n b:Nat):cG:=⟨some a,none,.load n false (.t b)⟩
abbrev bm (a n b:Nat):cG:=⟨some a,none,.load n true (.t b)⟩
abbrev aT (a n b:Nat):cG:=⟨some a,none,.et n (.t b)⟩
abbrev bb (n a b:Nat):cG:=⟨none,none,.store n (.t a) (.t b)⟩
abbrev bt (a:Nat)(n:Int):cG:=⟨some a,none,.b3 (.c (.I (.int .i64 n)))⟩
abbrev br (a n b:Nat):cG:=⟨some a,none,.ext n (.t b)⟩
abbrev bM (a n b c:Nat):cG:=⟨some a,none,.jj n (.t b) (.t c)⟩
abbrev cp (a b:Nat):cG:=⟨some a,none,.len (.t b)⟩
abbrev c5 (a:Nat)(b:Bool):cG:=⟨some a,none,.b3 (.c (.I (.bool b)))⟩
abbrev eH (a:Nat):cG:=⟨some a,none,.b3 (.c .nil)⟩
abbrev bB (a:Nat)(o:BinOp)(b c:Nat):cG:=⟨some a,none,.bin o (.t b) (.t c)⟩
abbrev bc (a:Nat)(o:BinOp)(b:Nat)(n:Int):cG:=⟨some a,none,.bin o (.t b) (.c (.I (.int .i64 n)))⟩
abbrev dn (a b c:Nat):cG:=⟨some a,none,.pick (.t b) (.c (.I (.bool true))) (.t c)⟩
abbrev gG (a b c:Nat):cG:=⟨some a,none,.pick (.t b) (.t c) (.c (.I (.bool false)))⟩
abbrev dM (a k b:Nat):cG:=⟨some a,none,.box k (.t b)⟩
abbrev gO (a b:Nat):cG:=⟨some a,none,.q5 (.t b)⟩
abbrev gi (a b:Nat):cG:=⟨some a,none,.un .not (.t b)⟩
abbrev ag (n:Int):M:=.I (.int .i64 n)
abbrev dN (a:Nat)(f:FuncId)(x:Nat):cG:=⟨some a,none,.call f [.t x]⟩
abbrev cd (a:Nat)(f:FuncId)(x y:Nat):cG:=⟨some a,none,.call f [.t x,.t y]⟩
abbrev aaP (a:Nat)(f:FuncId)(x y z:Nat):cG:=⟨some a,none,.call f [.t x,.t y,.t z]⟩
abbrev Iy (a:Nat)(f:FuncId)(x y z u:Nat):cG:=⟨some a,none,.call f [.t x,.t y,.t z,.t u]⟩
abbrev ax (a:Nat)(o:jG):cG:=⟨some a,none,o⟩
abbrev cu (n m:Nat)(r:List nL)(b:dZ):b1:=⟨n,m,r,b⟩
abbrev a4 (n:Nat)(a b:dZ):dZ:=.cond (.t n) a b
abbrev R (l:List cG)(c:dZ):dZ:=.seq (.ops l) c
abbrev fc (l:List cG)(x:List (List Nat))(c:dZ):dZ:=.seq (.mz l x) c
abbrev aaQ:List (List Nat):=[[],[],[],[],[],[]]
abbrev ams:List (List Nat):=[[],[],[],[],[],[],[]]
abbrev aaR:List (List Nat):=[[],[],[],[],[],[],[],[]]
abbrev RE:List (List Nat):=[[],[],[],[],[],[],[],[],[]]
abbrev L7:List (List Nat):=[[],[],[],[],[],[],[],[],[],[]]
abbrev z4:List (List Nat):=[[],[],[],[],[],[],[],[],[],[],[]]
abbrev aaS:List (List Nat):=[[],[],[],[],[],[],[],[],[],[],[],[]]
abbrev L8:List (List Nat):=[[],[],[],[],[],[],[],[],[],[],[],[],[]]
abbrev Iz:List (List Nat):=[[],[],[],[],[],[],[],[],[],[],[],[],[],[]]
abbrev Ew:List (List Nat):=[[],[],[],[],[],[],[],[],[],[],[],[],[],[],[],[]]
abbrev amt:List (List Nat):=[[],[],[],[],[],[],[],[],[],[],[],[],[],[],[],[],[]]
abbrev aaT:List (List Nat):=[[],[],[],[],[],[],[],[],[],[],[],[],[],[],[],[],[],[]]
abbrev amu:List (List Nat):=[[],[],[],[],[],[],[],[],[],[],[],[],[],[],[],[],[],[],[],[]]
abbrev amv:List (List Nat):=[[],[],[],[],[],[],[],[],[],[],[],[],[],[],[],[],[],[],[],[],[]]
abbrev amw:List (List Nat):=[[],[],[],[],[],[],[],[],[],[],[],[],[],[],[],[],[],[],[],[],[],[],[],[],[],[]]
abbrev amx:List (List Nat):=[[],[],[],[],[],[],[],[],[],[],[],[],[],[],[],[],[],[],[],[],[],[],[],[],[],[],[],[]]
abbrev amy:List (List Nat):=[[],[],[],[],[],[],[],[],[],[],[],[],[],[],[],[],[],[],[],[],[],[],[],[],[],[],[],[],[],[]]
def RF:b1:=cu 49 1 [.t 2] (R [dM 1 136001 0,c5 2 false] (R [aT 6 1 1,aK 7 1 6,cp 8 7,F 3 8] (.seq (R [aT 9 1 1,aK 10 1 9,cp 11 10,bt 12 0] (.block 0 (.loop  (R [bB 13 .lss 12 11] (.seq (a4 13 .skip (.exit 0)) (.seq (.block 1 (R [bM 14 1 10 12,aK 15 1 14,F 5 15] (R [F 16 5,bc 17 .lss 16 0,F 18 17,⟨some 19,some (18,false),.b3 (.t 5)⟩,⟨some 20,some (18,false),.bin .gtr (.t 19) (.c (ag 1048575))⟩,dn 21 18 20] (a4 21 (R [c5 2 false] .ret) .skip)))) (.ops [bc 22 .add 12 1,F 12 22]))))))) (.seq (R [F 23 3,bc 24 .eql 23 0] (a4 24 (R [aT 25 0 1,aK 26 1 25,bc 27 .eql 26 0,F 2 27] .ret) .skip)) (R [aT 28 0 1,aK 29 1 28,bc 30 .eql 29 1,F 31 30,⟨some 32,some (31,false),.et 0 (.t 1)⟩,⟨some 33,some (31,false),.load 1 false (.t 32)⟩,⟨some 34,some (31,false),.bin .eql (.t 33) (.c (.I (.int .i64 (-1))))⟩,dn 35 31 34,F 36 35,⟨some 37,some (36,true),.b3 (.t 3)⟩,⟨some 38,some (36,true),.bin .leq (.t 37) (.c (ag 60))⟩,gG 39 36 38,F 40 39,⟨some 41,some (40,true),.et 1 (.t 1)⟩,⟨some 42,some (40,true),.load 1 false (.t 41)⟩,⟨some 43,some (40,true),.b3 (.t 3)⟩,⟨some 44,some (40,true),.bin .sub (.t 43) (.c (ag 1))⟩,⟨some 45,some (40,true),.jj 1 (.t 42) (.t 44)⟩,⟨some 46,some (40,true),.load 1 false (.t 45)⟩,⟨some 47,some (40,true),.bin .neq (.t 46) (.c (ag 0))⟩,gG 48 40 47,F 2 48] .ret)))))
def RG:b1:=cu 44 2 [.cell 4 2 true,.t 5] (R [dM 2 137002 0,dM 3 137003 1,(ax 4 (.alloc 137004 [(ag 0),.nil])),bt 5 0] (.seq (R [bm 10 2 2,(dN 11 kt 10),gi 12 11,F 13 12,⟨some 14,some (13,false),.load 2 true (.t 3)⟩,⟨some 15,some (13,false),.call kt [(.t 14)]⟩,⟨some 16,some (13,false),.un .not (.t 15)⟩,dn 17 13 16] (a4 17 (R [(ax 18 (.build [(ag 0),.nil] [])),(ax 19 (.call tJ [(.c (.I (.bool false))),(.t 18)])),br 20 0 19,br 21 1 19,bb 2 4 20,F 5 21] .ret) .skip)) (fc [aT 22 1 2,aK 23 1 22,(dN 24 wG 23),aT 25 1 3,aK 26 1 25,F 6 24,F 7 26] ams (.seq (.block 0 (.loop  (.seq (R [F 27 7,cp 28 27,bc 29 .gtr 28 0] (a4 29 .skip (.exit 0))) (.block 1 (R [F 31 6,F 32 7,(cd 33 Ij 31 32),F 30 33,br 34 0 30,br 35 1 30,F 8 34,F 9 35] (.ops [F 36 7,F 37 9,F 6 36,F 7 37])))))) (R [F 38 6,(dN 39 wG 38),(ax 40 (.call ow [(.c (ag 1)),(.t 39)])),(ax 41 (.call tJ [(.c (.I (.bool true))),(.t 40)])),br 42 0 41,br 43 1 41,bb 2 4 42,F 5 43] .ret)))))
def RH:b1:=cu 32 2 [.cell 4 2 true,.t 5] (R [dM 2 140002 0,dM 3 140003 1,(ax 4 (.alloc 140004 [(ag 0),.nil])),bt 5 0] (.seq (R [bm 6 2 2,(dN 7 kt 6),gi 8 7,F 9 8,⟨some 10,some (9,false),.load 2 true (.t 3)⟩,⟨some 11,some (9,false),.call kt [(.t 10)]⟩,⟨some 12,some (9,false),.un .not (.t 11)⟩,dn 13 9 12] (a4 13 (R [(ax 14 (.build [(ag 0),.nil] [])),(ax 15 (.call tJ [(.c (.I (.bool false))),(.t 14)])),br 16 0 15,br 17 1 15,bb 2 4 16,F 5 17] .ret) .skip)) (fc [aT 18 0 2,aK 19 1 18,aT 20 0 3,aK 21 1 20,bB 22 .mul 19 21,aT 23 1 2,aK 24 1 23,aT 25 1 3,aK 26 1 25,(cd 27 Es 24 26),(cd 28 ow 22 27),(ax 29 (.call tJ [(.c (.I (.bool true))),(.t 28)])),br 30 0 29,br 31 1 29,bb 2 4 30,F 5 31] Ew .ret)))
def RI:b1:=cu 25 1 [.cell 2 2 true] (R [(ax 2 (.alloc 150002 [(ag 0),.nil]))] (R [F 6 0,(ax 7 (.conv .u64 (.t 6))),bt 3 1,F 4 7] (.seq (R [F 8 0,bc 9 .lss 8 0] (a4 9 (.ops [F 10 4,(ax 11 (.un .neg (.t 10))),(ax 3 (.b3 (.c (.I (.int .i64 (-1)))))),F 4 11]) .skip)) (R [eH 5] (.seq (.block 0 (.ghost (.pz 5 150021 1) (.loop  (.seq (R [F 12 4,(ax 13 (.bin .gtr (.t 12) (.c (.I (.int .u64 0)))))] (a4 13 .skip (.exit 0))) (.seq (.block 1 (.ops [F 16 5,F 17 4,(ax 18 (.bin .and (.t 17) (.c (.I (.int .u64 1048575))))),(ax 19 (.conv .i64 (.t 18))),(ax 20 (.e1 150020 false [(ag 0)] 1 1 [(0,1,(.t 19))])),(ax 21 (.app 150021 [(ag 0)] 8 (.t 16) (.t 20))),F 5 21])) (.ops [F 14 4,(ax 15 (.bin .shr (.t 14) (.c (.I (.int .u64 20))))),F 4 15])))))) (.seq (.ghost (.freeze 5) (.ops [F 22 3,F 23 5,(cd 24 ow 22 23),bb 2 2 24])) .ret))))))
def RJ:b1:=cu 14 1 [.cell 2 2 true] (R [dM 1 152001 0,(ax 2 (.alloc 152002 [(ag 0),.nil]))] (.seq (R [bm 3 2 1,(dN 4 kt 3),gi 5 4] (a4 5 (R [(ax 6 (.build [(ag 0),.nil] [])),bb 2 2 6] .ret) .skip)) (fc [aT 7 0 1,aK 8 1 7,(ax 9 (.un .neg (.t 8))),aT 10 1 1,aK 11 1 10,(dN 12 wG 11),(cd 13 ow 9 12),bb 2 2 13] aaR .ret)))
def RK:b1:=cu 67 2 [.cell 4 2 true,.cell 5 2 true,.t 6] (R [dM 2 153002 0,dM 3 153003 1,(ax 4 (.alloc 153004 [(ag 0),.nil])),(ax 5 (.alloc 153005 [(ag 0),.nil])),bt 6 0] (.seq (.block 0 (R [bm 10 2 2,(dN 11 kt 10),gi 12 11,F 13 12,⟨some 14,some (13,false),.load 2 true (.t 3)⟩,⟨some 15,some (13,false),.call kt [(.t 14)]⟩,⟨some 16,some (13,false),.un .not (.t 15)⟩,dn 17 13 16,F 9 17] (a4 9 (R [(ax 18 (.build [(ag 0),.nil] [])),(ax 19 (.build [(ag 0),.nil] [])),bb 2 4 18,bb 2 5 19,bt 6 1] .ret) (R [aT 21 0 3,aK 22 1 21,bc 23 .eql 22 0,F 20 23] (a4 20 (R [(ax 24 (.build [(ag 0),.nil] [])),(ax 25 (.build [(ag 0),.nil] [])),bb 2 4 24,bb 2 5 25,bt 6 15] .ret) .skip))))) (R [aT 27 1 2,aK 28 1 27,aT 29 1 3,aK 30 1 29,(cd 31 Ij 28 30),F 26 31,br 32 0 26,br 33 1 26,F 7 32,F 8 33] (.seq (R [aT 34 0 2,aK 35 1 34,aT 36 0 3,aK 37 1 36,bB 38 .mul 35 37,bc 39 .lss 38 0,F 40 39,⟨some 41,some (40,true),.b3 (.t 8)⟩,⟨some 42,some (40,true),.len (.t 41)⟩,⟨some 43,some (40,true),.bin .gtr (.t 42) (.c (ag 0))⟩,gG 44 40 43] (a4 44 (fc [F 45 7,(ax 46 (.e1 153046 false [(ag 0)] 1 1 [(0,1,(.c (ag 1)))])),(cd 47 Il 45 46),(ax 48 (.call ow [(.c (.I (.int .i64 (-1)))),(.t 47)])),aT 49 0 3,aK 50 1 49,aT 51 1 3,aK 52 1 51,F 53 8,(cd 54 Et 52 53),(cd 55 ow 50 54),bb 2 4 48,bb 2 5 55,bt 6 0] Iz .ret) .skip)) (fc [aT 56 0 2,aK 57 1 56,aT 58 0 3,aK 59 1 58,bB 60 .mul 57 59,F 61 7,(cd 62 ow 60 61),aT 63 0 2,aK 64 1 63,F 65 8,(cd 66 ow 64 65),bb 2 4 62,bb 2 5 66,bt 6 0] Iz .ret)))))
def RL:b1:=cu 31 2 [.t 4] (R [dM 2 154002 0,dM 3 154003 1,bt 4 0] (.seq (R [bm 5 2 2,(dN 6 kt 5),gi 7 6,F 8 7,⟨some 9,some (8,false),.load 2 true (.t 3)⟩,⟨some 10,some (8,false),.call kt [(.t 9)]⟩,⟨some 11,some (8,false),.un .not (.t 10)⟩,dn 12 8 11] (a4 12 (R [bt 4 0] .ret) .skip)) (.seq (R [aT 13 0 2,aK 14 1 13,aT 15 0 3,aK 16 1 15,bB 17 .neq 14 16] (a4 17 (R [aT 18 0 2,aK 19 1 18,aT 20 0 3,aK 21 1 20,(cd 22 Eu 19 21),F 4 22] .ret) .skip)) (fc [aT 23 0 2,aK 24 1 23,aT 25 1 2,aK 26 1 25,aT 27 1 3,aK 28 1 27,(cd 29 BT 26 28),bB 30 .mul 24 29,F 4 30] RE .ret))))
def RM:b1:=cu 17 2 [.cell 4 2 true,.t 5] (R [dM 3 155003 1,(ax 4 (.alloc 155004 [(ag 0),.nil])),bt 5 0] (.seq (.block 0 (R [F 7 0,gi 8 7,F 6 8] (a4 6 (R [(ax 9 (.build [(ag 0),.nil] [])),bb 2 4 9,bt 5 1] .ret) (R [aT 11 1 3,aK 12 1 11,cp 13 12,bc 14 .gtr 13 60,F 10 14] (a4 10 (R [(ax 15 (.build [(ag 0),.nil] [])),bb 2 4 15,bt 5 6] .ret) .skip))))) (R [bm 16 2 3,bb 2 4 16,bt 5 0] .ret)))
def RN:b1:=cu 170 2 [.t 4,.t 5] (R [eH 4,eH 5] (.seq (R [F 19 0,F 20 1,(cd 21 BT 19 20),bc 22 .lss 21 0] (a4 22 (R [F 23 0,(dN 24 wG 23),eH 4,F 5 24] .ret) .skip)) (.seq (R [F 25 1,cp 26 25,bc 27 .eql 26 1] (a4 27 (R [F 29 0,F 30 1,(ax 31 (.jj 1 (.t 30) (.c (ag 0)))),aK 32 1 31,(cd 33 L2 29 32),F 28 33,br 34 0 28,br 35 1 28,F 6 34,F 7 35] (R [F 36 6,F 37 7,(ax 38 (.e1 157038 false [(ag 0)] 1 1 [(0,1,(.t 37))])),(dN 39 pO 38),F 4 36,F 5 39] .ret)) .skip)) (R [bt 8 1] (.seq (.block 0 (.loop  (.seq (R [F 40 1,F 41 1,cp 42 41,bc 43 .sub 42 1,bM 44 1 40 43,aK 45 1 44,F 46 8,bB 47 .mul 45 46,bc 48 .lss 47 524288] (a4 48 .skip (.exit 0))) (.block 1 (.ops [F 49 8,bc 50 .mul 49 2,F 8 50]))))) (R [F 51 0,F 52 8,(ax 53 (.e1 157053 false [(ag 0)] 1 1 [(0,1,(.t 52))])),(ax 54 (.nf 157054 1 Es [(.t 51),(.t 53)])),(ax 55 (.e1 157055 false [(ag 0)] 1 1 [(0,1,(.c (ag 0)))])),(ax 56 (.app 157056 [(ag 0)] 8 (.t 54) (.t 55))),F 57 1,F 58 8,(ax 59 (.e1 157059 false [(ag 0)] 1 1 [(0,1,(.t 58))])),(cd 60 Es 57 59),F 9 56,F 10 60] (.seq (R [F 61 9,cp 62 61,F 63 0,cp 64 63,bB 65 .eql 62 64] (a4 65 (.ops [F 66 9,(ax 67 (.e1 157067 false [(ag 0)] 1 1 [(0,1,(.c (ag 0)))])),(ax 68 (.app 157068 [(ag 0)] 8 (.t 66) (.t 67))),F 9 68]) .skip)) (R [F 69 10,cp 70 69,F 11 70] (R [F 71 9,cp 72 71,F 73 11,bB 74 .sub 72 73,(ax 75 (.lF 157075 [(ag 0)] 8 (.t 74) (.t 74))),F 12 75] (.seq (R [F 76 12,cp 77 76,bc 78 .sub 77 1,F 13 78] (.block 2 (.loop  (.seq (R [F 79 13,bc 80 .geq 79 0] (a4 80 .skip (.exit 2))) (.seq (.block 3 (fc [F 83 9,F 84 13,F 85 11,bB 86 .add 84 85,bM 87 1 83 86,aK 88 1 87,(ax 89 (.bin .shl (.t 88) (.c (.I (.int .u64 20))))),F 90 9,F 91 13,F 92 11,bB 93 .add 91 92,bc 94 .sub 93 1,bM 95 1 90 94,aK 96 1 95,bB 97 .or 89 96,F 14 97] Ew (fc [F 98 14,F 99 10,F 100 11,bc 101 .sub 100 1,bM 102 1 99 101,aK 103 1 102,bB 104 .quo 98 103,F 105 14,F 106 10,F 107 11,bc 108 .sub 107 1,bM 109 1 106 108,aK 110 1 109,bB 111 .rem 105 110,F 15 104,F 16 111] Ew (.seq (.block 4 (.loop  (.seq (fc [F 112 15,bc 113 .geq 112 1048576,F 114 113,⟨some 115,some (114,false),.b3 (.t 16)⟩,⟨some 116,some (114,false),.bin .lss (.t 115) (.c (ag 1048576))⟩,⟨some 117,some (114,false),.b3 (.t 116)⟩,⟨some 118,some (117,true),.b3 (.t 15)⟩,⟨some 119,some (117,true),.b3 (.t 10)⟩,⟨some 120,some (117,true),.b3 (.t 11)⟩,⟨some 121,some (117,true),.bin .sub (.t 120) (.c (ag 2))⟩,⟨some 122,some (117,true),.jj 1 (.t 119) (.t 121)⟩,⟨some 123,some (117,true),.load 1 false (.t 122)⟩,⟨some 124,some (117,true),.bin .mul (.t 118) (.t 123)⟩,⟨some 125,some (117,true),.b3 (.t 16)⟩,⟨some 126,some (117,true),.bin .shl (.t 125) (.c (.I (.int .u64 20)))⟩,⟨some 127,some (117,true),.b3 (.t 9)⟩,⟨some 128,some (117,true),.b3 (.t 13)⟩,⟨some 129,some (117,true),.b3 (.t 11)⟩,⟨some 130,some (117,true),.bin .add (.t 128) (.t 129)⟩,⟨some 131,some (117,true),.bin .sub (.t 130) (.c (ag 2))⟩,⟨some 132,some (117,true),.jj 1 (.t 127) (.t 131)⟩,⟨some 133,some (117,true),.load 1 false (.t 132)⟩,⟨some 134,some (117,true),.bin .or (.t 126) (.t 133)⟩,⟨some 135,some (117,true),.bin .gtr (.t 124) (.t 134)⟩,⟨some 136,some (114,false),.pick (.t 117) (.t 135) (.c (.I (.bool false)))⟩,dn 137 114 136] amw (a4 137 .skip (.exit 4))) (.block 5 (R [F 138 15,bc 139 .sub 138 1,F 15 139] (.ops [F 140 16,F 141 10,F 142 11,bc 143 .sub 142 1,bM 144 1 141 143,aK 145 1 144,bB 146 .add 140 145,F 16 146])))))) (.ops [F 147 12,F 148 13,F 149 9,F 150 13,F 151 13,F 152 11,bB 153 .add 151 152,bc 154 .add 153 1,(ax 155 (.q6 1 (.t 149) (some (.t 150)) (some (.t 154)) none)),F 156 10,F 157 15,(aaP 158 Rk 155 156 157),bM 159 1 147 148,bb 1 159 158]))))) (.ops [F 81 13,bc 82 .sub 81 1,F 13 82])))))) (.seq (.ghost (.freeze 9) (.ops [F 161 9,(dN 162 pO 161),F 163 8,(cd 164 L2 162 163),F 160 164,br 165 0 160,br 166 1 160,F 17 165,F 18 166])) (.seq (.ghost (.freeze 12) (.ops [F 167 12,(dN 168 pO 167),F 169 17,F 4 168,F 5 169])) .ret))))))))))))
def RO:b1:=cu 14 2 [.cell 4 2 true] (R [(ax 4 (.alloc 158004 [(ag 0),.nil]))] (R [F 5 1,(dN 6 pO 5),F 1 6] (.seq (R [F 7 1,cp 8 7,bc 9 .eql 8 0] (a4 9 (R [(ax 10 (.build [(ag 0),.nil] [])),bb 2 4 10] .ret) .skip)) (R [F 11 0,F 12 1,(ax 13 (.build [(ag 0),.nil] [(0,1,(.t 11)),(1,1,(.t 12))])),bb 2 4 13] .ret))))
def RP:b1:=cu 59 1 [.t 2,.t 3] (R [dM 1 159001 0,bt 2 0,c5 3 false] (.seq (R [bm 7 2 1,(dN 8 kt 7),gi 9 8,F 10 9,⟨some 11,some (10,false),.et 1 (.t 1)⟩,⟨some 12,some (10,false),.load 1 false (.t 11)⟩,⟨some 13,some (10,false),.len (.t 12)⟩,⟨some 14,some (10,false),.bin .gtr (.t 13) (.c (ag 4))⟩,dn 15 10 14] (a4 15 (R [bt 2 0,c5 3 false] .ret) .skip)) (R [(ax 4 (.b3 (.c (.I (.int .u64 0)))))] (.seq (R [aT 16 1 1,aK 17 1 16,cp 18 17,bt 19 0] (.block 0 (.loop  (R [bB 20 .lss 19 18] (.seq (a4 20 .skip (.exit 0)) (.seq (.block 1 (R [F 21 19,bM 22 1 17 19,aK 23 1 22,F 5 21,F 6 23] (.seq (R [F 24 5,bc 25 .eql 24 3,F 26 25,⟨some 27,some (26,true),.b3 (.t 6)⟩,⟨some 28,some (26,true),.bin .gtr (.t 27) (.c (ag 8))⟩,gG 29 26 28] (a4 29 (R [bt 2 0,c5 3 false] .ret) .skip)) (.ops [F 30 4,F 31 6,(ax 32 (.conv .u64 (.t 31))),F 33 5,(ax 34 (.bin .mul (.c (ag 20)) (.t 33))),bB 35 .shl 32 34,bB 36 .or 30 35,F 4 36])))) (.ops [bc 37 .add 19 1,F 19 37]))))))) (.seq (.block 2 (R [aT 39 0 1,aK 40 1 39,bc 41 .lss 40 0,F 42 41,⟨some 43,some (42,true),.b3 (.t 4)⟩,⟨some 44,some (42,true),.bin .leq (.t 43) (.c (.I (.int .u64 9223372036854775808)))⟩,gG 45 42 44,F 38 45] (a4 38 (R [F 46 4,(ax 47 (.un .neg (.t 46))),(ax 48 (.conv .i64 (.t 47))),F 2 48,c5 3 true] .ret) (R [aT 50 0 1,aK 51 1 50,bc 52 .geq 51 0,F 53 52,⟨some 54,some (53,true),.b3 (.t 4)⟩,⟨some 55,some (53,true),.bin .lss (.t 54) (.c (.I (.int .u64 9223372036854775808)))⟩,gG 56 53 55,F 49 56] (a4 49 (R [F 57 4,(ax 58 (.conv .i64 (.t 57))),F 2 58,c5 3 true] .ret) .skip))))) (R [bt 2 0,c5 3 false] .ret))))))
def RQ:b1:=cu 69 2 [.cell 4 2 true,.t 5] (R [dM 2 160002 0,dM 3 160003 1,(ax 4 (.alloc 160004 [(ag 0),.nil])),bt 5 0] (.seq (R [bm 6 2 2,(dN 7 kt 6),gi 8 7,F 9 8,⟨some 10,some (9,false),.load 2 true (.t 3)⟩,⟨some 11,some (9,false),.call kt [(.t 10)]⟩,⟨some 12,some (9,false),.un .not (.t 11)⟩,dn 13 9 12] (a4 13 (R [(ax 14 (.build [(ag 0),.nil] [])),(ax 15 (.call tJ [(.c (.I (.bool false))),(.t 14)])),br 16 0 15,br 17 1 15,bb 2 4 16,F 5 17] .ret) .skip)) (.seq (.block 0 (R [aT 19 0 2,aK 20 1 19,aT 21 0 3,aK 22 1 21,bB 23 .mul 20 22,bc 24 .geq 23 0,F 18 24] (a4 18 (fc [aT 25 0 2,aK 26 1 25,aT 27 0 3,aK 28 1 27,(ax 29 (.e1 160029 false [(ag 0),(ag 0)] 1 2 [(0,1,(.t 26)),(1,1,(.t 28))])),(dN 30 Rl 29),aT 31 1 2,aK 32 1 31,aT 33 1 3,aK 34 1 33,(cd 35 Il 32 34),(cd 36 ow 30 35),(ax 37 (.call tJ [(.c (.I (.bool true))),(.t 36)])),br 38 0 37,br 39 1 37,bb 2 4 38,F 5 39] amt .ret) (R [aT 41 1 2,aK 42 1 41,aT 43 1 3,aK 44 1 43,(cd 45 BT 42 44),bc 46 .lss 45 0,F 40 46] (a4 40 (fc [aT 47 0 3,aK 48 1 47,aT 49 1 3,aK 50 1 49,aT 51 1 2,aK 52 1 51,(cd 53 Et 50 52),(cd 54 ow 48 53),(ax 55 (.call tJ [(.c (.I (.bool true))),(.t 54)])),br 56 0 55,br 57 1 55,bb 2 4 56,F 5 57] L8 .ret) .skip))))) (fc [aT 58 0 2,aK 59 1 58,aT 60 1 2,aK 61 1 60,aT 62 1 3,aK 63 1 62,(cd 64 Et 61 63),(cd 65 ow 59 64),(ax 66 (.call tJ [(.c (.I (.bool true))),(.t 65)])),br 67 0 66,br 68 1 66,bb 2 4 67,F 5 68] L8 .ret))))
def RR:b1:=cu 67 2 [.t 4] (R [eH 4] (R [F 12 0,cp 13 12,F 14 1,cp 15 14,bB 16 .add 13 15,(ax 17 (.lF 161017 [(ag 0)] 8 (.t 16) (.t 16))),F 5 17] (.seq (R [F 18 0,cp 19 18,bt 20 0] (.block 0 (.loop  (R [bB 21 .lss 20 19] (.seq (a4 21 .skip (.exit 0)) (.seq (.block 1 (R [F 22 20,bM 23 1 18 20,aK 24 1 23,F 6 22,F 7 24] (R [bt 8 0] (.seq (R [F 25 1,cp 26 25,bt 27 0] (.block 2 (.loop  (R [bB 28 .lss 27 26] (.seq (a4 28 .skip (.exit 2)) (.seq (.block 3 (R [F 29 27,bM 30 1 25 27,aK 31 1 30,F 9 29,F 10 31] (R [F 32 5,F 33 6,F 34 9,bB 35 .add 33 34,bM 36 1 32 35,aK 37 1 36,F 38 7,F 39 10,bB 40 .mul 38 39,bB 41 .add 37 40,F 42 8,bB 43 .add 41 42,F 11 43] (.ops [F 44 5,F 45 6,F 46 9,bB 47 .add 45 46,F 48 11,bc 49 .and 48 1048575,F 50 11,(ax 51 (.bin .shr (.t 50) (.c (.I (.int .u64 20))))),bM 52 1 44 47,bb 1 52 49,F 8 51])))) (.ops [bc 53 .add 27 1,F 27 53]))))))) (.ops [F 54 5,F 55 6,F 56 1,cp 57 56,bB 58 .add 55 57,bM 59 1 54 58,aK 60 1 59,F 61 8,bB 62 .add 60 61,bM 63 1 54 58,bb 1 63 62]))))) (.ops [bc 64 .add 20 1,F 20 64]))))))) (R [F 65 5,(dN 66 pO 65),F 4 66] .ret))))
def RS:b1:=cu 55 2 [.t 4] (R [eH 4] (.seq (R [F 9 0,cp 10 9,F 11 1,cp 12 11,bB 13 .lss 10 12] (a4 13 (.ops [F 14 1,F 15 0,F 0 14,F 1 15]) .skip)) (R [F 16 0,cp 17 16,bc 18 .add 17 1,(ax 19 (.lF 172019 [(ag 0)] 8 (.t 18) (.t 18))),F 5 19] (R [bt 6 0] (.seq (R [F 20 0,cp 21 20,bt 22 0] (.block 0 (.loop  (R [bB 23 .lss 22 21] (.seq (a4 23 .skip (.exit 0)) (.seq (.block 1 (R [F 24 22,bM 25 1 20 22,aK 26 1 25,F 7 24,F 8 26] (R [F 27 6,F 28 8,bB 29 .add 27 28,F 6 29] (.seq (R [F 30 7,F 31 1,cp 32 31,bB 33 .lss 30 32] (a4 33 (.ops [F 34 6,F 35 1,F 36 7,bM 37 1 35 36,aK 38 1 37,bB 39 .add 34 38,F 6 39]) .skip)) (R [F 40 5,F 41 7,F 42 6,bc 43 .and 42 1048575,bM 44 1 40 41,bb 1 44 43] (.ops [F 45 6,(ax 46 (.bin .shr (.t 45) (.c (.I (.int .u64 20))))),F 6 46])))))) (.ops [bc 47 .add 22 1,F 22 47]))))))) (R [F 48 5,F 49 0,cp 50 49,F 51 6,bM 52 1 48 50,bb 1 52 51] (R [F 53 5,(dN 54 pO 53),F 4 54] .ret)))))))
def RT:b1:=cu 43 2 [.t 4] (R [eH 4] (R [F 9 0,(ax 10 (.nf 173010 1 wG [(.t 9)])),F 5 10] (R [bt 6 0] (.seq (R [F 11 5,cp 12 11,bt 13 0] (.block 0 (.loop  (R [bB 14 .lss 13 12] (.seq (a4 14 .skip (.exit 0)) (.seq (.block 1 (R [F 15 13,F 7 15] (R [F 16 5,F 17 7,bM 18 1 16 17,aK 19 1 18,F 20 6,bB 21 .sub 19 20,F 8 21] (.seq (R [F 22 7,F 23 1,cp 24 23,bB 25 .lss 22 24] (a4 25 (.ops [F 26 8,F 27 1,F 28 7,bM 29 1 27 28,aK 30 1 29,bB 31 .sub 26 30,F 8 31]) .skip)) (R [F 32 8,(ax 33 (.bin .shr (.t 32) (.c (.I (.int .u64 20))))),bc 34 .and 33 1,F 6 34] (.ops [F 35 5,F 36 7,F 37 8,bc 38 .and 37 1048575,bM 39 1 35 36,bb 1 39 38])))))) (.ops [bc 40 .add 13 1,F 13 40]))))))) (R [F 41 5,(dN 42 pO 41),F 4 42] .ret)))))
def RU:b1:=cu 41 2 [.t 4] (R [bt 4 0] (.seq (R [F 6 0,cp 7 6,F 8 1,cp 9 8,bB 10 .neq 7 9] (a4 10 (R [F 11 0,cp 12 11,F 13 1,cp 14 13,(cd 15 Eu 12 14),F 4 15] .ret) .skip)) (.seq (R [F 16 0,cp 17 16,bc 18 .sub 17 1,F 5 18] (.block 0 (.loop  (.seq (R [F 19 5,bc 20 .geq 19 0] (a4 20 .skip (.exit 0))) (.seq (.block 1 (fc [F 23 0,F 24 5,bM 25 1 23 24,aK 26 1 25,F 27 1,F 28 5,bM 29 1 27 28,aK 30 1 29,bB 31 .neq 26 30] RE (a4 31 (fc [F 32 0,F 33 5,bM 34 1 32 33,aK 35 1 34,F 36 1,F 37 5,bM 38 1 36 37,aK 39 1 38,(cd 40 Eu 35 39),F 4 40] L7 .ret) .skip))) (.ops [F 21 5,bc 22 .sub 21 1,F 5 22])))))) (R [bt 4 0] .ret))))
def RV:b1:=cu 38 2 [.t 4,.t 5] (R [eH 4,bt 5 0] (R [F 9 0,cp 10 9,(ax 11 (.lF 176011 [(ag 0)] 8 (.t 10) (.t 10))),F 6 11] (R [bt 7 0] (.seq (R [F 12 0,cp 13 12,bc 14 .sub 13 1,F 8 14] (.block 0 (.loop  (.seq (R [F 15 8,bc 16 .geq 15 0] (a4 16 .skip (.exit 0))) (.seq (.block 1 (R [F 19 7,(ax 20 (.bin .shl (.t 19) (.c (.I (.int .u64 20))))),F 21 0,F 22 8,bM 23 1 21 22,aK 24 1 23,bB 25 .or 20 24,F 7 25] (R [F 26 6,F 27 8,F 28 7,F 29 1,bB 30 .quo 28 29,bM 31 1 26 27,bb 1 31 30] (.ops [F 32 7,F 33 1,bB 34 .rem 32 33,F 7 34])))) (.ops [F 17 8,bc 18 .sub 17 1,F 8 18])))))) (.seq (.ghost (.freeze 6) (.ops [F 35 6,(dN 36 pO 35),F 37 7,F 4 36,F 5 37])) .ret)))))
def B0:b1:=cu 21 1 [.t 2] (R [eH 2] (R [F 4 0,cp 5 4,F 3 5] (.seq (.block 0 (.loop  (.seq (R [F 6 3,bc 7 .gtr 6 0,F 8 7,⟨some 9,some (8,true),.b3 (.t 0)⟩,⟨some 10,some (8,true),.b3 (.t 3)⟩,⟨some 11,some (8,true),.bin .sub (.t 10) (.c (ag 1))⟩,⟨some 12,some (8,true),.jj 1 (.t 9) (.t 11)⟩,⟨some 13,some (8,true),.load 1 false (.t 12)⟩,⟨some 14,some (8,true),.bin .eql (.t 13) (.c (ag 0))⟩,gG 15 8 14] (a4 15 .skip (.exit 0))) (.block 1 (.ops [F 16 3,bc 17 .sub 16 1,F 3 17]))))) (R [F 18 0,F 19 3,(ax 20 (.q6 1 (.t 18) none (some (.t 19)) none)),F 2 20] .ret))))
def L9:b1:=cu 78 3 [.t 6] (R [bt 6 0] (R [bt 7 0] (.seq (R [F 12 0,cp 13 12,bt 14 0] (.block 0 (.loop  (R [bB 15 .lss 14 13] (.seq (a4 15 .skip (.exit 0)) (.seq (.block 1 (R [F 16 14,F 8 16] (R [F 17 0,F 18 8,bM 19 1 17 18,aK 20 1 19,F 21 7,bB 22 .sub 20 21,F 9 22] (.seq (R [F 23 8,F 24 1,cp 25 24,bB 26 .lss 23 25] (a4 26 (.ops [F 27 9,F 28 2,F 29 1,F 30 8,bM 31 1 29 30,aK 32 1 31,bB 33 .mul 28 32,bB 34 .sub 27 33,F 9 34]) .skip)) (R [F 35 0,F 36 8,F 37 9,bc 38 .and 37 1048575,bM 39 1 35 36,bb 1 39 38] (.ops [F 40 9,(ax 41 (.bin .shr (.t 40) (.c (.I (.int .u64 20))))),(ax 42 (.un .neg (.t 41))),F 7 42])))))) (.ops [bc 43 .add 14 1,F 14 43]))))))) (.seq (R [F 44 7,bc 45 .eql 44 0] (a4 45 (R [F 46 2,F 6 46] .ret) .skip)) (R [bt 10 0] (.seq (R [F 47 0,cp 48 47,bt 49 0] (.block 2 (.loop  (R [bB 50 .lss 49 48] (.seq (a4 50 .skip (.exit 2)) (.seq (.block 3 (R [F 51 49,F 11 51] (R [F 52 10,F 53 0,F 54 11,bM 55 1 53 54,aK 56 1 55,bB 57 .add 52 56,F 10 57] (.seq (R [F 58 11,F 59 1,cp 60 59,bB 61 .lss 58 60] (a4 61 (.ops [F 62 10,F 63 1,F 64 11,bM 65 1 63 64,aK 66 1 65,bB 67 .add 62 66,F 10 67]) .skip)) (R [F 68 0,F 69 11,F 70 10,bc 71 .and 70 1048575,bM 72 1 68 69,bb 1 72 71] (.ops [F 73 10,(ax 74 (.bin .shr (.t 73) (.c (.I (.int .u64 20))))),F 10 74])))))) (.ops [bc 75 .add 49 1,F 49 75]))))))) (R [F 76 2,bc 77 .sub 76 1,F 6 77] .ret)))))))
def RW:b1:=cu 20 2 [.t 4] (R [bt 4 0] (R [F 7 0,(dN 8 L3 7),F 5 8] (R [F 9 1,(dN 10 L3 9),F 6 10] (.seq (R [F 11 5] (a4 11 (.seq (R [F 12 6] (a4 12 (R [bt 4 0] .ret) .skip)) (R [(ax 4 (.b3 (.c (.I (.int .i64 (-1))))))] .ret)) .skip)) (.seq (R [F 13 6] (a4 13 (R [bt 4 1] .ret) .skip)) (.seq (R [F 14 0,F 15 1,bB 16 .lss 14 15] (a4 16 (R [(ax 4 (.b3 (.c (.I (.int .i64 (-1))))))] .ret) .skip)) (.seq (R [F 17 0,F 18 1,bB 19 .gtr 17 18] (a4 19 (R [bt 4 1] .ret) .skip)) (R [bt 4 0] .ret))))))))
def RX:b1:=cu 18 1 [.t 2] (R [bt 2 0] (R [bt 3 0] (.seq (R [F 6 0,cp 7 6,bt 8 0] (.block 0 (.loop  (R [bB 9 .lss 8 7] (.seq (a4 9 .skip (.exit 0)) (.seq (.block 1 (R [bM 10 1 6 8,aK 11 1 10,F 5 11] (R [F 12 5,F 13 3,bB 14 .neq 12 13] (a4 14 (R [F 15 5,F 2 15] .ret) .skip)))) (.ops [bc 16 .add 8 1,F 8 16]))))))) (R [F 17 3,F 2 17] .ret))))
def RY:b1:=cu 6 1 [.t 2] (R [c5 2 false] (R [F 3 0,F 4 0,bB 5 .neq 3 4,F 2 5] .ret))
def RZ:b1:=cu 9 2 [.t 4] (R [c5 4 false] (R [F 5 0,F 6 1,(cd 7 Rb 5 6),bc 8 .geq 7 0,F 4 8] .ret))
def R0:b1:=cu 9 2 [.t 4] (R [c5 4 false] (R [F 5 0,F 6 1,(cd 7 Rc 5 6),bc 8 .geq 7 0,F 4 8] .ret))
def R1:b1:=cu 48 2 [.t 4] (R [eH 4] (.seq (R [F 9 1,bc 10 .lss 9 0] (a4 10 (.ops [(ax 11 (.bad)),⟨none,none,.bad⟩]) .skip)) (R [F 13 0,cp 14 13,(ax 15 (.conv .u64 (.t 14))),F 16 1,(ax 17 (.conv .u64 (.t 16))),(cd 18 Re 15 17),F 12 18,br 19 0 12,br 20 1 12,F 5 19,F 6 20] (.seq (R [F 21 5,(ax 22 (.bin .gtr (.t 21) (.c (.I (.int .u64 0))))),F 23 22,⟨some 24,some (23,false),.b3 (.t 6)⟩,⟨some 25,some (23,false),.bin .gtr (.t 24) (.c (.I (.int .u64 9223372036854775807)))⟩,dn 26 23 25] (a4 26 (.ops [(ax 27 (.bad)),⟨none,none,.bad⟩]) .skip)) (R [F 28 6,(ax 29 (.conv .i64 (.t 28))),(ax 30 (.lF 131030 [(ag 0),.nil,(ag 0),.nil] 64 (.t 29) (.t 29))),F 7 30] (R [F 31 7,F 32 0,(ax 33 (.q7 4 (.t 31) (.t 32))),F 8 33] (.seq (.block 0 (.loop  (.seq (R [F 34 8,F 35 7,cp 36 35,bB 37 .lss 34 36] (a4 37 .skip (.exit 0))) (.block 1 (.mz [F 38 8,F 39 7,F 40 8,(ax 41 (.q6 4 (.t 39) (some (.t 40)) none none)),F 42 7,F 43 8,(ax 44 (.q6 4 (.t 42) none (some (.t 43)) none)),(ax 45 (.q7 4 (.t 41) (.t 44))),bB 46 .add 38 45,F 8 46] L7))))) (R [F 47 7,F 4 47] .ret))))))))
def R2:b1:=cu 19 2 [.t 4] (R [bt 4 0] (.seq (R [F 6 0,cp 7 6,bt 8 0] (.block 0 (.loop  (R [bB 9 .lss 8 7] (.seq (a4 9 .skip (.exit 0)) (.seq (.block 1 (R [F 10 8,F 5 10] (R [F 11 1,F 12 0,F 13 5,bM 14 5 12 13,bm 15 5 14,(ax 16 (.lG (.t 11) [(.t 15)]))] (a4 16 (R [F 17 5,F 4 17] .ret) .skip)))) (.ops [bc 18 .add 8 1,F 8 18]))))))) (R [(ax 4 (.b3 (.c (.I (.int .i64 (-1))))))] .ret)))
def R3:b1:=cu 19 2 [.t 4] (R [bt 4 0] (.seq (R [F 6 0,cp 7 6,bt 8 0] (.block 0 (.loop  (R [bB 9 .lss 8 7] (.seq (a4 9 .skip (.exit 0)) (.seq (.block 1 (R [F 10 8,F 5 10] (R [F 11 1,F 12 0,F 13 5,bM 14 4 12 13,bm 15 4 14,(ax 16 (.lG (.t 11) [(.t 15)]))] (a4 16 (R [F 17 5,F 4 17] .ret) .skip)))) (.ops [bc 18 .add 8 1,F 8 18]))))))) (R [(ax 4 (.b3 (.c (.I (.int .i64 (-1))))))] .ret)))
def R4:b1:=cu 8 1 [.t 2] (R [eH 2] (.seq (R [F 3 0,(ax 4 (.py false (.t 3)))] (a4 4 (R [eH 2] .ret) .skip)) (R [(ax 5 (.e1 147005 true [] 4 0 [])),F 6 0,(ax 7 (.app 147007 [(ag 0),.nil,(ag 0),.nil] 64 (.t 5) (.t 6))),F 2 7] .ret)))
def R5:b1:=cu 8 1 [.t 2] (R [eH 2] (.seq (R [F 3 0,(ax 4 (.py false (.t 3)))] (a4 4 (R [eH 2] .ret) .skip)) (R [(ax 5 (.e1 156005 true [] 1 0 [])),F 6 0,(ax 7 (.app 156007 [(ag 0)] 8 (.t 5) (.t 6))),F 2 7] .ret)))
def IA:b1:=cu 19 2 [.t 4] (R [bt 4 0] (.seq (R [F 6 0,cp 7 6,bt 8 0] (.block 0 (.loop  (R [bB 9 .lss 8 7] (.seq (a4 9 .skip (.exit 0)) (.seq (.block 1 (R [F 10 8,F 5 10] (R [F 11 1,F 12 0,F 13 5,bM 14 1 12 13,aK 15 1 14,(ax 16 (.lG (.t 11) [(.t 15)]))] (a4 16 (R [F 17 5,F 4 17] .ret) .skip)))) (.ops [bc 18 .add 8 1,F 8 18]))))))) (R [(ax 4 (.b3 (.c (.I (.int .i64 (-1))))))] .ret)))
def R6:b1:=cu 9 2 [.t 4] (R [c5 4 false] (R [F 5 0,F 6 1,(cd 7 BV 5 6),bc 8 .geq 7 0,F 4 8] .ret))
def R7:b1:=cu 9 2 [.t 4] (R [c5 4 false] (R [F 5 0,F 6 1,(cd 7 Rt 5 6),bc 8 .geq 7 0,F 4 8] .ret))
def IB:b1:=cu 19 2 [.t 4] (R [bt 4 0] (.seq (R [F 6 0,cp 7 6,bt 8 0] (.block 0 (.loop  (R [bB 9 .lss 8 7] (.seq (a4 9 .skip (.exit 0)) (.seq (.block 1 (R [F 10 8,F 5 10] (R [F 11 1,F 12 0,F 13 5,bM 14 4 12 13,bm 15 4 14,(ax 16 (.lG (.t 11) [(.t 15)]))] (a4 16 (R [F 17 5,F 4 17] .ret) .skip)))) (.ops [bc 18 .add 8 1,F 8 18]))))))) (R [(ax 4 (.b3 (.c (.I (.int .i64 (-1))))))] .ret)))
theorem R8 (l:List Int)(n:Nat)(aG:n<D l)(h:l[n]=0):fm (l.take (n+1))=fm (l.take n):=by
 rw[ks,bs aG,h];exact aaE _
theorem R9 (l:List Int)(n:Nat)(aG:n<D l)(h:l[n]≠0):fm (l.take (n+1))=l.take (n+1):=by
 rw[ks,bs aG];exact aaF _ h
abbrev Ex:List Int->List Data:=λ(l:List Int)=>[.af (l.map ad)]
def yu:=cy Ex λ(l:List Int)=>cT (D l<=1000000) (.same (.af ((fm l).map ad)))
theorem Ma:∀a b,Ex a=Ex b->a=b:=by
  intro eB al h;exact map_inj g7 _ _ (by simpa using h)
@[go_sem] theorem Mb (l:List Int)(G:(D l)<=1000000):yu [.af (l.map ad)]=some (.same (.af ((fm l).map ad))):=(cI Ma l).trans (cY G _)
theorem amz (T:bk)  (l:List Int) (G:(D l)<=1000000):WP T B0 (.same (.af ((fm l).map ad))) [.I (.af (l.map ad))]:=by
 refine cC ?_;simp only[B0];have se:((l.map ad).all λe=>D e==1)=true:=by simp[ad]
 refine a9 ?_;repeat' (intro h<;>simp only[h,go_sem,go_sem_proc,aj]<;>try refine av ?_ ?_)
 refine dE [0] [] (λ(n:Nat) tm mem=>n<=D l/\fm l=fm (l.take n)/\tm 3=.I (.int .i64 n)) (λn=>n) (D l) (by refine⟨bP _,by simp,by simp[go_sem]⟩) ?_;intro vs ms aV aR;simp only[go_sem,go_sem_proc,aj] at aV aR;subst aV aR;rintro n tm mem J-⟨aG,bJ,ab⟩;simp only[go_sem,go_sem_proc,bh] at J;have ak:=J;rcases n with _|n
 ·refine a9 ?_;repeat' (intro h<;>simp only[h,go_sem,go_sem_proc,ak,ab,se,kR,lg,show ¬ ((0:Int)>0) by omega,decide_false,aj,show (0:Int).toNat=0 from rfl,show (0:Int)<=0 by omega,fr,oY,cl]<;>try refine av ?_ ?_)
  rw[bJ];simp[fm]
 ·have hw:IntKind.i64.wrap (((n+1:Nat):Int)-1)=(n:Int):=by rw[eA _];omega
  have O:l[n]?=some l[n]:=bs (by omega);have hO:((n+1:Nat):Int)>0:=by omega
  have hle:n+1<=D l:=aG
  by_cases aQ:l[n]=0
  ·refine a9 ?_;repeat' (intro h<;>simp only[h,go_sem,go_sem_proc,ak,ab,hw,O,aQ,hO,aj,a5,decide_true,ad,beq_self_eq_true,bh]<;>try refine av ?_ ?_)
   exact⟨n,by omega,by omega,by rw[bJ,R8 l n (by omega) aQ],rfl⟩
  ·have sw:(l[n]==0)=false:=by simpa using aQ
   refine a9 ?_;repeat' (intro h<;>simp only[h,go_sem,go_sem_proc,ak,ab,hw,O,sw,hO,se,hle,ad,aj,a5,decide_true,bh,show (0:Int)<=((n+1:Nat):Int) by omega,gX,fr]<;>try refine av ?_ ?_)
   rw[bJ,R9 l n (by omega) aQ,List.map_take]
structure aaU where
 l:List Int
 k:Key
 g:Nat
def tN:List M->Mem->Option (M×Mem):=El (λ(a:aaU) args mem=>args=[.ref a.k a.g 1 0 (D a.l)]/\mem a.k=some (a.g,aY ad a.l)/\D a.l<=1000000) (λa mem=>(.ref a.k a.g 1 0 (fm a.l).length,mem))
theorem Sa {α:Type}{enc:α->List Data}{sz:Nat}(h:∀a,(enc a).length=sz)(L:∀a b,enc a=enc b->a=b):∀(l fv:List α),aY enc l=aY enc fv->0<sz->l=fv:=by
 intro l
 induction l with
 |nil =>
  intro fv e aQ
  cases fv with
  |nil=>rfl
  |cons b r =>
   have:=congrArg D e;rw[ld h,ld h] at this;simp only[mJ,kf,LR,px] at this;omega
 |cons a r ay =>
  intro fv e aQ
  cases fv with
  |nil =>
   have:=congrArg D e;rw[ld h,ld h] at this;simp only[mJ,kf,LR,px] at this;omega
  |cons b HD =>
   rw[wB,wB] at e;have au:((enc a).map M.I).length=((enc b).map M.I).length:=by simp[h]
   obtain⟨aw,aC⟩:=Ey e au;have cx:=map_inj (λx y (e:M.I x=M.I y)=>by cases e;rfl) _ _ aw;rw[L _ _ cx,ay HD aC aQ]
theorem Sb (l:List Int)(k g:Nat)(mem:Mem)(h:mem k=some (g,aY ad l))(au:(D l)<=1000000):tN [.ref k g 1 0 (D l)] mem=some (.ref k g 1 0 (fm l).length,mem):=by
 unfold tN;refine aaD (a:=(⟨l,k,g⟩:aaU)) ?_ ⟨rfl,h,au⟩;rintro a b args mem ⟨E,H,_⟩ ⟨ab,aM,_⟩;rw[E] at ab;simp only[bh,M.ref.injEq,true_and,and_true] at ab;obtain⟨IC,Mc,_⟩:=ab;rw[IC,aM] at H;simp only[cb,fu] at H;have:=Sa hQ g7 _ _ H.2 (by omega);rw[IC,Mc,this]
@[go_sem] theorem aBM (d:Data)(mem:Mem):tN [.I d] mem=none:=by
 cases O:tN [.I d] mem with
 |none=>rfl
 |some x =>
  unfold tN at O;obtain⟨a,⟨h,_⟩,_⟩:=QY O
  cases h
theorem amA (T:bk)(l:List Int)(k g:Nat)(mem:Mem)(hm:mem k=some (g,aY ad l))(G:(D l)<=1000000):
  wp T B0.body (Ek B0.res (.ref k g 1 0 (fm l).length) mem) ⟨mA [.ref k g 1 0 (D l)],mem⟩:=by
 refine wq ?_;simp only[B0];refine a9 ?_;repeat' (intro h<;>simp only[h,go_sem,go_sem_proc,hm]<;>try refine av ?_ ?_)
 refine dE [0] [] (λ(n:Nat) tm mem'=>n<=D l/\fm l=fm (l.take n)/\tm 3=.I (.int .i64 n)/\mem'=mem) (λn=>n) (D l) (by refine⟨bP _,by simp,by simp[go_sem],rfl⟩) ?_;intro vs ms aV aR;simp only[go_sem,go_sem_proc] at aV aR;subst aV aR;rintro n tm _ J-⟨aG,bJ,ab,rfl⟩;simp only[go_sem,go_sem_proc,bh] at J;have ak:=J;rcases n with _|n
 ·refine a9 ?_;repeat' (intro h<;>simp only[h,go_sem,go_sem_proc,ak,ab,hm,kR,lg,show ¬ ((0:Int)>0) by omega,decide_false,show (0:Int).toNat=0 from rfl,show (0:Int)<=0 by omega,fr]<;>try refine av ?_ ?_)
  rw[bJ];simp[fm]
 ·have hw:IntKind.i64.wrap (((n+1:Nat):Int)-1)=(n:Int):=by rw[eA _];omega
  have O:l[n]?=some l[n]:=bs (by omega);have hO:((n+1:Nat):Int)>0:=by omega
  have hle:n+1<=D l:=aG;have aq:n<D l:=aG;have wk:=LQ hQ O (f:=0) (n:=1) (by omega);have eb:=ld hQ l;rw[cM] at eb;have aaV:n+1<=(aY ad l).length:=by omega
  have aaW:hA 1 (h4 n (aY ad l))=[.I (.int .i64 l[n])]:=by
   unfold cut at wk;rw[cM,om,Z (by omega)] at wk
   simpa [ad] using wk
  by_cases aQ:l[n]=0
  ·refine a9 ?_;repeat' (intro h<;>simp only[h,go_sem,go_sem_proc,ak,ab,hm,hw,aq,aaV,aaW,aQ,hO,decide_true,cM,beq_self_eq_true]<;>try refine av ?_ ?_)
   exact⟨n,by omega,by omega,by rw[bJ,R8 l n (by omega) aQ],rfl⟩
  ·have sw:(l[n]==0)=false:=by simpa using aQ
   refine a9 ?_;repeat' (intro h<;>simp only[h,go_sem,go_sem_proc,ak,ab,hm,hw,aq,aaV,aaW,sw,hO,hle,decide_true,cM,show (0:Int)<=((n+1:Nat):Int) by omega,gX,fr,Nat.sub_zero]<;>try refine av ?_ ?_)
   rw[bJ,R9 l n (by omega) aQ];simp;omega
abbrev z5:Int->List Data:=λ(n:Int)=>[.int .i64 n]
def Sc:=cy z5 λ(n:Int)=>some (.same (.bool false))
theorem Ez:∀a b,z5 a=z5 b->a=b:=by
  intro ht jI h;simp only[bh,Data.int.injEq,Data.agg.injEq,Data.af.injEq,Data.bool.injEq,Data.str.injEq,Data.ptr.injEq,Data.cw.injEq,fu,true_and,and_true] at h ⊢
  first|exact h|simpa [B1,and_assoc] using h|grind
@[go_sem] theorem aBN (n:Int):Sc [.int .i64 n]=some (.same (.bool false)):=cI Ez n
theorem amB (T:bk)  (n:Int):WP T RY (.same (.bool false)) [.I (.int .i64 n)]:=by
 refine cC ?_;simp only[RY];refine a9 ?_;repeat' (intro h<;>simp only[h,go_sem,go_sem_proc,beq_self_eq_true]<;>try refine av ?_ ?_)
def hl (a b:Int):Int:=if decide (a<b)=true then -1 else if decide (a>b)=true then 1 else 0
abbrev ID:Int×Int->List Data:=λ(a,b)=>[.int .i64 a,.int .i64 b]
def Md:=cy ID λ(a,b)=>some (.same (.int .i64 (hl a b)))
theorem Sd:∀a b,ID a=ID b->a=b:=by
  rintro⟨db,dP⟩ ⟨dH,gV⟩ h;simp only[bh,Data.int.injEq,Data.agg.injEq,Data.af.injEq,Data.bool.injEq,Data.str.injEq,Data.ptr.injEq,Data.cw.injEq,fu,true_and,and_true] at h ⊢
  first|exact h|simpa [B1,and_assoc] using h|grind
@[go_sem] theorem aBO (a:Int)(b:Int):Md [.int .i64 a,.int .i64 b]=some (.same (.int .i64 (hl a b))):=cI Sd (a,b)
theorem amC (T:bk)(amD:T L3=aW Sc)(a:Int)(b:Int):WP T RW (.same (.int .i64 (hl a b))) [.I (.int .i64 a),.I (.int .i64 b)]:=by
 refine cC ?_;simp only[RW];refine a9 ?_;repeat' (intro h<;>simp only[h,go_sem,go_sem_proc,amD]<;>try refine av ?_ ?_)
 all_goals simp only[hl, *,reduceIte,ca,cv,tD,yj,nT,yk,tE,hP,hy,fC,kh,beq_self_eq_true,bne]
def yv:List Int->Int
 | []=>0
 |d::r=>if (d==0)=true then yv r else d
def Se:=cy Ex λ(l:List Int)=>cT (D l<=1000000) (.same (.int .i64 (yv l)))
@[go_sem] theorem amE (l:List Int)(G:(D l)<=1000000):Se [.af (l.map ad)]=some (.same (.int .i64 (yv l))):=(cI Ma l).trans (cY G _)
theorem amF (T:bk)  (l:List Int) (G:(D l)<=1000000):WP T RX (.same (.int .i64 (yv l))) [.I (.af (l.map ad))]:=by
 refine cC ?_;simp only[RX];simp only[go_sem,go_sem_proc,aj];repeat' (first|refine av ?_ ?_|fail)<;>intro h<;>simp only[h,go_sem,go_sem_proc,aj]
 refine dE [3,6,7] [] (λi tm mem=>0<=i/\i<=(D l:Int)/\yv l=yv (l.drop i.toNat)/\tm 8=.I (.int .i64 i)) (λi=>(D l-i).toNat) 0 (by refine⟨by omega,by omega,by simp,by simp[go_sem]⟩) ?_;intro vs ms aV aR;simp only[go_sem,go_sem_proc] at aV aR;subst aV aR;rintro i tm mem J-⟨rv,L,aJ,bW⟩;simp only[go_sem,go_sem_proc,bh] at J;obtain⟨ab,bI,bC⟩:=J;rcases dQ (i<D l) with aq|ck
 ·obtain⟨x,O,X,-⟩:=aar l i rv aq;simp only[go_sem,go_sem_proc,ab,bI,bC,bW,O,aq,rv,ad,aj,a5,decide_true,bh];repeat' (first|refine av ?_ ?_|fail)<;>intro h<;>simp only[h,go_sem,go_sem_proc,ab,bI,bC,bW,O,aq,rv,ad,aj,a5,decide_true,bh]
  ·rw[aJ,X];simp[yv,h]
  ·exact⟨i+1,by omega,by omega,by omega,by rw[aJ,X];simp only[yv, *,reduceIte,ca,cv,tD,yj,nT,yk,tE,hP,hy,fC,kh,beq_self_eq_true,bne],by rw[eA _]⟩
 ·have he:l.drop i.toNat=[]:=k7 (by omega);simp only[go_sem,go_sem_proc,ab,bI,bC,bW,ck,decide_false];repeat' (first|refine av ?_ ?_|fail)<;>intro h<;>simp only[h,go_sem,go_sem_proc,ab,bI,bC,bW,ck,decide_false]
  rw[aJ,he];rfl
theorem Sf (l:List Int):((l.map ad).all λe=>D e==1)=true:=by simp[ad]
def B2:=cy Ex λ(l:List Int)=>cT (D l<=1000000) (.own 1 (l.map ad))
@[go_sem] theorem amG (l:List Int)(G:(D l)<=1000000):B2 [.af (l.map ad)]=some (.own 1 (l.map ad)):=(cI Ma l).trans (cY G _)
theorem amH (T:bk)  (l:List Int) (G:(D l)<=1000000):WP T R5 (.own 1 (l.map ad)) [.I (.af (l.map ad))]:=by
 refine cC ?_;simp only[R5]
 have di:l5 156005 0 1 0 8 (D l) ((l.map ad).flatten.map .I) (some (0,[]))=some (.ref 156005 1 1 0 (D l),some (156005,1,aY ad l)):=by
  have:=Eh hQ wF 156005 0 8 [] l (by simp;omega) (by simp;omega)
  simpa [aY] using this
 have hlen:(aY ad l).length=D l:=by rw[ld hQ];omega
 refine a9 ?_;repeat' (intro h<;>simp only[h,go_sem,go_sem_proc,Sf,di,aj]<;>try refine av ?_ ?_)
 rintro b ae
 cases b
 ·refine a9 ?_;repeat' (intro h<;>simp only[h,go_sem,go_sem_proc,Sf,di,aj,oW,cM,hlen]<;>try refine av ?_ ?_)
  rw[Z (by omega),dD (by omega)];unfold aY;rw[wC _ λd=>rfl];have:=zY (sz:=1) (l.map ad) (by simp[ad]);rw[aj] at this;simp[this]
 ·cases l with
  |nil =>
       refine a9 ?_;repeat' (intro h<;>simp only[h,go_sem,go_sem_proc,oW,cl]<;>try refine av ?_ ?_)
  |cons x r=>simp at ae
abbrev Raw:=Int×List Int
def cJ (a:Raw):List Data:=[.int .i64 a.1,.af (a.2.map ad)]
def np (d:Int):Bool:=!decide (d<0) && !decide (d>1048575)
def de (a:Raw):Bool:=a.2.all np&&(if (a.2.length==0)=true then a.1==0 else ((a.1==1||a.1 == -1)&&decide (a.2.length<=60)&&(a.2.getLast? != some 0)))
abbrev z6:Int×(List Int)->List Data:=λ(s,l)=>[.agg [.int .i64 s,.af (l.map ad)]]
def u6:=cy z6 λ(s,l)=>cT (D l<=1000000) (.same (.bool (de (s,l))))
theorem EA:∀a b,z6 a=z6 b->a=b:=by
  rintro⟨s1,eB⟩ ⟨s2,al⟩ h;simp only[bh,Data.agg.injEq,Data.int.injEq,Data.af.injEq] at h;exact eS h.1.1.2 (map_inj g7 _ _ h.1.2.1)
@[go_sem] theorem aBP (s:Int)(l:List Int)(G:(D l)<=1000000):u6 [.agg [.int .i64 s,.af (l.map ad)]]=some (.same (.bool (de (s,l)))):=(cI EA (s,l)).trans (cY G _)
theorem amI (T:bk)  (s:Int) (l:List Int) (G:(D l)<=1000000):WP T RF (.same (.bool (de (s,l)))) [.I (.agg [.int .i64 s,.af (l.map ad)])]:=by
 refine cC ?_;simp only[RF];refine a9 ?_;repeat' (intro h<;>simp only[h,go_sem,go_sem_proc,aj]<;>try refine av ?_ ?_)
 refine dE [1,3,10,11] [136001] (λi tm mem=>0<=i/\i<=(D l:Int)/\l.all np=(l.drop i.toNat).all np/\tm 12=.I (.int .i64 i)) (λi=>(D l-i).toNat) 0 (by refine⟨by omega,by omega,by simp,by simp[go_sem]⟩) ?_;intro vs ms aV aR;simp only[go_sem,go_sem_proc,aj] at aV aR;subst aV aR;rintro i tm mem J hm ⟨rv,L,aJ,hB⟩;simp only[go_sem,go_sem_proc,bh] at J hm;obtain⟨E,ab,fI,yw⟩:=J;rcases dQ (i<D l) with aq|ck
 ·obtain⟨x,O,X,-⟩:=aar l i rv aq
  have ig:∀b,np x=true->b=(l.drop (i+1).toNat).all np->l.all np=b:=by
   intro b E H;rw[aJ,X,Ee,E,H,hP]
  have IE:np x=false->de (s,l)=false:=by
   intro E;unfold de;rw[aJ,X,Ee,E]
   rfl
  refine a9 ?_;repeat' (intro h<;>simp only[h,go_sem,go_sem_proc,E,ab,fI,yw,hB,hm,O,aq,rv,ad,aj,a5,decide_true,bh]<;>try refine av ?_ ?_)
  ·rw[IE (by simp only[np, *,reduceIte,ca,cv,tD,yj,nT,yk,tE,hP,hy,fC,kh,beq_self_eq_true,bne])]
  ·exact⟨i+1,by omega,by omega,by omega,by refine ig _ ?_ rfl;simp only[np, *,reduceIte,ca,cv,tD,yj,nT,yk,tE,hP,hy,fC,kh,beq_self_eq_true,bne],by rw[eA _]⟩
  ·rw[IE (by simp only[np, *,reduceIte,ca,cv,tD,yj,nT,yk,tE,hP,hy,fC,kh,beq_self_eq_true,bne])]
 ·have he:l.drop i.toNat=[]:=k7 (by omega);rw[he] at aJ;have ef:l.all np=true:=by rw[aJ];rfl
  rcases Em l with rfl|⟨r,x,rfl⟩
  ·have amJ:¬ i<(0:Int):=by simpa using ck
   refine a9 ?_;repeat' (intro h<;>simp only[h,go_sem,go_sem_proc,E,ab,fI,yw,hB,hm,amJ,decide_false,mJ,kR,lg,beq_self_eq_true]<;>try refine av ?_ ?_)
   simp[de]
  ·rw[En] at *;have bN:(((r++[x]).length:Int)==0)=false:=by simp;omega
   have hw:IntKind.i64.wrap (((r++[x]).length:Int)-1)=(D r:Int):=by
    have b0:(r++[x]).length=D r+1:=by simp
    rw[eA _];omega
   have aX:((r++[x]).map ad)[D r]?=some [.int .i64 x]:=by simp[ad]
   have Y:de (s,r++[x])=((s==1||s == -1)&&decide (((r++[x]).length:Int)<=60)&&(x != 0)):=by
    unfold de;rw[ef];simp only[List.getLast?_append,List.getLast?_singleton];simp;have aw:decide (D r<=59)=decide ((D r:Int)+1<=60):=decide_eq_decide.2 (by omega);have aC:(some x != some (0:Int))=(x != 0):=by simp[bne]
    rw[aw,aC]
   rw[Y];refine a9 ?_;repeat' (intro h<;>simp only[h,go_sem,go_sem_proc,E,ab,fI,yw,hB,hm,ck,bN,hw,aX,decide_false,aj]<;>try refine av ?_ ?_)
   all_goals simp only[*,reduceIte,ca,cv,tD,yj,nT,yk,tE,hP,hy,fC,kh,beq_self_eq_true,bne]
def jL (s:Int)(l:List Int):Raw:=if (((fm l).length:Int)==0)=true then (0,[]) else (s,fm l)
abbrev Me:Int×(List Int)->List Data:=λ(s,l)=>[.int .i64 s,.af (l.map ad)]
def z7:=cy Me λ(s,l)=>cT (D l<=1000000) (.same (.agg (cJ (jL s l))))
theorem aaX:∀a b,Me a=Me b->a=b:=by
  rintro⟨s1,eB⟩ ⟨s2,al⟩ h;simp only[bh,Data.int.injEq,Data.af.injEq] at h;exact eS h.1.2 (map_inj g7 _ _ h.2.1)
@[go_sem] theorem aBQ (s:Int)(l:List Int)(G:(D l)<=1000000):z7 [.int .i64 s,.af (l.map ad)]=some (.same (.agg (cJ (jL s l)))):=(cI aaX (s,l)).trans (cY G _)
theorem amK (T:bk)(eg:T pO=ym yu tN)(s:Int)(l:List Int)(G:(D l)<=1000000):WP T RO (.same (.agg (cJ (jL s l)))) [.I (.int .i64 s),.I (.af (l.map ad))]:=by
 refine cC ?_;simp only[RO];refine a9 ?_;repeat' (intro h<;>simp only[h,go_sem,go_sem_proc,eg,G,aj]<;>try refine av ?_ ?_)
 all_goals simp only[jL,cJ,cl, *,reduceIte,ca,cv,tD,yj,nT,yk,tE,hP,hy,fC,kh,beq_self_eq_true,bne]
theorem kS (l:List Int)(i:Nat)(h:i<D l):a0 (l.take (i+1))=a0 (l.take i)+1048576^i*l[i]:=by
 rw[ks,bs h,BM,hh,nQ (by omega)];simp[a0]
theorem yx {l:List Int}(h:er l)(i:Nat):er (l.take i):=λd X=>h d (DW X)
theorem aaY {l:List Int}(i:Nat)(L:i<D l):er (l.take (i+1))↔er (l.take i)/\(0<=l[i]/\l[i]<1048576):=by
 rw[ks,bs L,BL];simp[BK,er]
theorem kT {l:List Int}(h:er l)(i:Nat)(L:i<D l):0<=l[i]/\l[i]<1048576:=h _ (List.getElem_mem L)
theorem B3 (o:List Int)(i:Nat)(d:Int):(o.set i d).take i=o.take i:=by
 rw[List.take_set,List.set_eq_of_length_le];rw[hh];omega
theorem pP (o:List Int):(aY ad o).length=D o:=by rw[ld hQ];omega
theorem IF (o:List Int)(i:Nat)(h:i<D o):hA 1 (h4 i (aY ad o))=[.I (.int .i64 o[i])]:=by
 have wk:=LQ hQ (bs h) (f:=0) (n:=1) (by omega);unfold cut at wk;have:=pP o;rw[cM,om,Z (by omega)] at wk
 simpa [ad] using wk
theorem wJ (o:List Int)(i:Nat)(d:Int)(h:i<D o):hA i (aY ad o)++[.I (.int .i64 d)]++h4 (i+1) (aY ad o)=aY ad (o.set i d):=by
 have:=QL hQ h d;unfold lI at this
 simpa [ad] using this
theorem EB (n:Nat):(eu n [M.I (.int .i64 0)]).flatten=aY ad (eu n 0):=by
 induction n with
 |zero=>rfl
 |succ n ay=>rw[uR,uR,kL,wB,ay];rfl
theorem EC (n:Nat)(h:n<=1000000000):n<=maxLen:=eF h (by decide)
theorem aaZ (l:List Int):(fm l).length<=D l:=by
 induction l with
 |nil=>simp[fm]
 |cons d r ay=>unfold fm;split<;>(try split)<;>simp<;>omega
theorem amL (l:List Int):l.take (fm l).length=fm l:=by
 induction l with
 |nil=>simp[fm]
 |cons d r ay =>
  unfold fm
  split
  ·split<;>simp
  ·simp[ay]
theorem amM (l:List Int):∀n:Nat,(aY ad l).take n=aY ad (l.take n):=by
 induction l with
 |nil=>intro n;simp[aY]
 |cons d r ay=>intro n;cases n with
  |zero=>simp[aY]
  |succ n=>rw[wB,Ed,wB,<-ay];rfl
theorem aa0 {mem:Mem}{k g n:Nat}{o:List Int}(hm:mem k=some (g,aY ad o))(aG:n<=D o):oW 1 mem (.ref k g 1 0 n)=some ((o.take n).map ad):=by
 unfold oW;dsimp only;rw[hm];simp only[and_self,if_true,cM];rw[pP,Z ⟨trivial,aG⟩,amM];unfold aY;rw[wC _ λd=>rfl];have:=zY (sz:=1) ((o.take n).map ad) (by intro e he;rw[fO] at he;obtain⟨x,-,rfl⟩:=he;rfl);rw[aj,hh,nQ aG] at this;simp only[jo,this]
theorem Sg {mem:Mem}{k g:Nat}{o:List Int}{n:Nat}(hm:mem k=some (g,aY ad o))(X:er o)(aI:a0 o=n):oW 1 mem (.ref k g 1 0 (fm o).length)=some ((aF n).map ad):=by
 rw[aa0 hm (aaZ o),amL,yp X,aI]
 rfl
def bL (n:Nat):Data:=.af ((aF n).map ad)
theorem aa1 {x y:Nat}(h:(aF x).length<(aF y).length):x<y:=by
 have E:=(gF (n:=x) (k:=(aF x).length)).1 (bP _);have H:=mt (gF (n:=y) (k:=(aF x).length)).2 (by omega);omega
theorem aa2 {a b:List Int}(a1:er a)(ae:er b)(au:(D a)=D b)(i:Nat)(L:i<D a)(X:a.drop (i+1)=b.drop (i+1))(h:a[i]<b[i]):a0 a<a0 b:=by
 rw[Ig a (i+1),Ig b (i+1),X,au,kS a i L,kS b i (by omega)];have E:=yo (yx a1 i);have H:=ov (yx ae i);rw[hh,nQ (by omega)] at E;generalize (1048576:Int)^i=p at *
 have ab:p*a[i]+p<=p*b[i]:=by
  have:p*(a[i]+1)<=p*b[i]:=yy (by omega) (by have:=ov (yx a1 i);omega);rw[h2,tO] at this;exact this
 omega
abbrev tP:Nat×Nat->List Data:=λ(x,y)=>[bL x,bL y]
def IG:=cy tP λ(x,y)=>cT ((aF x).length<=1000000/\(aF y).length<=1000000) (.same (.int .i64 (hl x y)))
theorem wK:∀a b,tP a=tP b->a=b:=by
  rintro⟨bf,sx⟩ ⟨b5,sy⟩ h;simp only[bh,bL,Data.af.injEq] at h;exact eS (Ie (map_inj g7 _ _ h.1)) (Ie (map_inj g7 _ _ h.2.1))
@[go_sem] theorem Sh (x:Nat)(y:Nat)(G:(aF x).length<=1000000/\(aF y).length<=1000000):IG [bL x,bL y]=some (.same (.int .i64 (hl x y))):=(cI wK (x,y)).trans (cY G _)
theorem amN (T:bk)(nq:T Eu=aW Md)(x:Nat)(y:Nat)(G:(aF x).length<=1000000/\(aF y).length<=1000000):WP T RU (.same (.int .i64 (hl x y))) [.I (bL x),.I (bL y)]:=by
 refine cC ?_;simp only[RU];obtain⟨O,ao⟩:=G;have sA:=mc x;have qE:=mc y;have u7:=lf x;have B4:=lf y;have aai:=@aa1 x y;have lM:=@aa1 y x
 by_cases au:(aF x).length=(aF y).length
 ·generalize a1:aF x=a at *;generalize ae:aF y=b at *;have Mf:((D a:Int)==(D b:Int))=true:=by simp[au]
  simp only[go_sem,go_sem_proc,nq,bL,a1,ae,Mf,aj];refine dE [0,1] [] (λ(n:Nat) tm mem=>n<=D a/\a.drop n=b.drop n/\tm 5=.I (.int .i64 ((n:Int)-1))) (λn=>n) (D a) (by refine⟨bP _,by rw[QQ,au,QQ],?_⟩;simp only[eQ,reduceIte];rw[eA _]) ?_;intro vs ms aV aR;simp only[go_sem,go_sem_proc,nq,bL,a1,ae] at aV aR;subst aV aR;rintro n tm mem J-⟨aG,X,bl⟩;simp only[go_sem,go_sem_proc,nq,bh] at J;obtain⟨ak,E⟩:=J;rcases n with _|n
  ·have e:a=b:=by simpa using X
   have mP:(x:Int)=y:=by rw[<-u7,<-B4,e]
   simp only[go_sem,go_sem_proc,nq,ak,E,bl,kR,lg,show ¬ ((0:Int)-1>=0) by omega,decide_false]
   repeat' (first|refine av ?_ ?_|fail)<;>intro h<;>simp only[h,go_sem,go_sem_proc,nq,ak,E,bl,kR,lg,show ¬ ((0:Int)-1>=0) by omega,decide_false]
   rw[mP];simp[hl]
  ·have hw:((n+1:Nat):Int)-1=(n:Int):=by omega
   have md:a[n]?=some a[n]:=bs (by omega);have mQ:b[n]?=some b[n]:=bs (by omega)
   have Y:hl a[n] b[n]=hl x y\/a[n]=b[n]:=by
    by_cases E:a[n]<b[n]
    ·left
     have:=aa2 sA qE au n aG X E;simp only[hl];rw[Z (by simpa using E),Z (by simp;omega)]
    ·by_cases H:b[n]<a[n]
     ·left
      have:=aa2 qE sA au.symm n (by omega) X.symm H;simp only[hl];rw[aa (by simp;omega),Z (by simp;omega),aa (by simp;omega),Z (by simp;omega)]
     ·right;omega
   by_cases aQ:a[n]=b[n]
   ·simp only[go_sem,go_sem_proc,nq,ak,E,bl,hw,md,mQ,aQ,ad,show (n:Int)>=0 by omega,decide_true,a5,beq_self_eq_true,bh]
    repeat' (first|refine av ?_ ?_|fail)<;>intro h<;>simp only[h,go_sem,go_sem_proc,nq,ak,E,bl,hw,md,mQ,aQ,ad,show (n:Int)>=0 by omega,decide_true,a5,beq_self_eq_true,bh]
    exact⟨n,by omega,by omega,by rw[hW (by omega:n<D a),hW (by omega:n<D b),aQ,X],by rw[eA _]⟩
   ·have sw:(a[n]==b[n])=false:=by simpa using aQ
    simp only[go_sem,go_sem_proc,nq,ak,E,bl,hw,md,mQ,sw,ad,show (n:Int)>=0 by omega,decide_true,a5,bh]
    repeat' (first|refine av ?_ ?_|fail)<;>intro h<;>simp only[h,go_sem,go_sem_proc,nq,ak,E,bl,hw,md,mQ,sw,ad,show (n:Int)>=0 by omega,decide_true,a5,bh]
    rw[Y.resolve_right aQ]
 ·have Mf:(((aF x).length:Int)==((aF y).length:Int))=false:=by simp;omega
  have Y:hl (aF x).length (aF y).length=hl x y:=by
   simp only[hl];rcases hV (aF x).length (aF y).length with h|h
   ·have:=aai h;rw[Z (by simp;omega),Z (by simp;omega)]
   ·have:=lM (by omega);rw[aa (by simp;omega),Z (by simp;omega),aa (by simp;omega),Z (by simp;omega)]
  simp only[go_sem,go_sem_proc,nq,bL,Mf,Y,aj];repeat' (first|refine av ?_ ?_|fail)<;>intro h<;>simp only[h,go_sem,go_sem_proc,nq,bL,Mf,Y,aj]
theorem aa3 (p u9 tw rb c a b:Int)(h:u9+p*c=tw+rb):u9+p*((c+a+b)%1048576)+p*1048576*((c+a+b)/1048576)=tw+p*a+(rb+p*b):=by
 have E:=z8 (c+a+b) 1048576
 have H:p*((c+a+b)%1048576)+p*1048576*((c+a+b)/1048576)=p*(c+a+b):=by
  rw[h3,<-h2,E]
 have ab:p*(c+a+b)=p*c+p*a+p*b:=by rw[h2,h2]
 omega
def Mg:=cy tP λ(x,y)=>cT ((aF x).length<=100000/\(aF y).length<=100000) (.own 1 ((aF (x+y)).map ad))
@[go_sem] theorem aa4 (x:Nat)(y:Nat)(G:(aF x).length<=100000/\(aF y).length<=100000):Mg [bL x,bL y]=some (.own 1 ((aF (x+y)).map ad)):=(cI wK (x,y)).trans (cY G _)
theorem amO (T:bk)(eg:T pO=ym yu tN)(x:Nat)(y:Nat)(G:(aF x).length<=100000/\(aF y).length<=100000):WP T RS (.own 1 ((aF (x+y)).map ad)) [.I (bL x),.I (bL y)]:=by
 refine cC ?_;simp only[RS];obtain⟨O,ao⟩:=G;simp only[go_sem,go_sem_proc,eg,bL,aj];refine alS (λst=>∃a b:List Int,er a/\er b/\D a<=100000/\D b<=D a/\a0 a+a0 b=x+y/\st.tm 0=.I (.af (a.map ad))/\st.tm 1=.I (.af (b.map ad))/\st.mem 172019=none) (λh=>?_) (λh=>?_) ?_
 ·simp only[go_sem,go_sem_proc,eg,bL];repeat' (first|refine av ?_ ?_|fail)<;>intro h<;>simp only[h,go_sem,go_sem_proc,eg,bL]
  refine⟨aF y,aF x,mc y,mc x,ao,?_,by rw[lf,lf];omega,rfl,rfl⟩
  simp at h;omega
 ·simp only[go_sem,go_sem_proc,eg,bL];repeat' (first|refine av ?_ ?_|fail)<;>intro h<;>simp only[h,go_sem,go_sem_proc,eg,bL]
  refine⟨aF x,aF y,mc x,mc y,O,?_,by rw[lf,lf],rfl,rfl⟩
  simp at h;omega
 rintro⟨tm,mem⟩ ⟨a,b,Si,va,kr,mR,aI,ak,E,hm⟩;dsimp only at ak E hm;have nX:IntKind.i64.wrap ((D a:Int)+1)=((D a+1:Nat):Int):=by rw[eA _];rfl
 have kq:8*(D a+1)<=140737488355328:=by omega
 have en:(D a)+1<=maxLen:=EC _ (by omega);simp only[go_sem,go_sem_proc,eg,ak,E,hm,nX,kq,en,EB,aj]
 refine dE [0,1,5,20,21] [] (λ(i,c,o) tm mem=>i<=D a/\(o:List Int).length=D a+1/\er (o.take i)/\0<=c/\c<=1/\a0 (o.take i)+1048576^i*c=a0 (a.take i)+a0 (b.take i)/\tm 22=.I (.int .i64 (i:Nat))/\tm 6=.I (.int .i64 c)/\mem 172019=some (0,aY ad o))
  (λ(i,_)=>D a-i) (0,0,eu (D a+1) 0) (by refine⟨fr _,by simp,by simp[er],by omega,by omega,by simp[a0],?_,?_,?_⟩<;>rfl) ?_
 intro vs ms aV aR;simp only[go_sem,go_sem_proc,eg,ak,E,aj] at aV aR;subst aV aR;rintro⟨i,c,o⟩ tm mem J-⟨L,bx,ih,ku,gy,jn,ry,bI,hm⟩;simp only[go_sem,go_sem_proc,eg,bh] at J;obtain⟨ak,E,bl,sB,ED⟩:=J;rcases dQ (i<D a) with aq|ck
 ·have md:a[i]?=some a[i]:=bs aq;have zW:=kT Si i aq;have e8:IntKind.i64.wrap ((i:Int)+1)=((i+1:Nat):Int):=by rw[eA _];rfl
  have sC:i<D o:=by omega
  have hC:i+1<=(aY ad o).length:=by rw[pP];omega
  have iY:IntKind.i64.wrap (c+a[i])=c+a[i]:=wrap64 _ (by omega) (by omega);have gg:=λd=>wJ o i d sC
  have fin:∀bi:Int,0<=bi->bi<1048576->a0 (b.take (i+1))=a0 (b.take i)+1048576^i*bi ->
    ∃a6:Nat×Int×List Int,D a-a6.1<D a-i/\a6.1<=D a/\a6.2.2.length=D a+1/\er (a6.2.2.take a6.1)/\0<=a6.2.1/\a6.2.1<=1/\a0 (a6.2.2.take a6.1)+1048576^a6.1*a6.2.1=a0 (a.take a6.1)+a0 (b.take a6.1) /\
     M.I (Data.int .i64 ((i+1:Nat):Int))=M.I (Data.int .i64 (a6.1:Int))/\M.I (Data.int .i64 ((c+a[i]+bi)/1048576))=M.I (Data.int .i64 a6.2.1)/\some (0,aY ad (o.set i ((c+a[i]+bi)%1048576)))=some (0,aY ad a6.2.2):=by
   intro bi rz kq B5;refine⟨(i+1,(c+a[i]+bi)/1048576,o.set i ((c+a[i]+bi)%1048576)),by dsimp only;omega,by dsimp only;omega,by simp[bx],?_,by dsimp only;omega,by dsimp only;omega,?_,rfl,rfl,rfl⟩
   ·dsimp only;rw[aaY _ (by simpa using sC),B3];refine⟨ih,?_⟩;simp only[yz];omega
   ·dsimp only;rw[kS _ _ (by simpa using sC),B3,kS a i aq,B5,mM];simp only[yz];exact aa3 _ _ _ _ _ _ _ jn
  rcases dQ (i<D b) with qF|Sj
  ·have mQ:b[i]?=some b[i]:=bs qF;have tQ:=kT va i qF;have kv:IntKind.i64.wrap (c+a[i]+b[i])=c+a[i]+b[i]:=wrap64 _ (by omega) (by omega);have h5:decide ((i:Int)<(D b:Int))=true:=dg;have iZ:decide ((i:Int)<(D a:Int))=true:=dg;simp only[go_sem,go_sem_proc,eg,ak,E,bl,sB,ED,ry,bI,hm,md,mQ,e8,iY,kv,h5,iZ,aq,hC,gg,qD,nW,ad,cM,aj,a5,bh,show i<D a+1 by omega,show ¬ ((20:Int)<0) by omega]
   repeat' (first|refine av ?_ ?_|fail)<;>intro h<;>simp only[h,go_sem,go_sem_proc,eg,ak,E,bl,sB,ED,ry,bI,hm,md,mQ,e8,iY,kv,h5,iZ,aq,hC,gg,qD,nW,ad,cM,aj,a5,bh,show i<D a+1 by omega,show ¬ ((20:Int)<0) by omega]
   exact fin b[i] tQ.1 tQ.2 (kS b i qF)
  ·have h5:decide ((i:Int)<(D b:Int))=false:=c1;have iZ:decide ((i:Int)<(D a:Int))=true:=dg;simp only[go_sem,go_sem_proc,eg,ak,E,bl,sB,ED,ry,bI,hm,md,e8,iY,h5,iZ,aq,hC,gg,qD,nW,ad,cM,aj,a5,bh,show i<D a+1 by omega,show ¬ ((20:Int)<0) by omega]
   repeat' (first|refine av ?_ ?_|fail)<;>intro h<;>simp only[h,go_sem,go_sem_proc,eg,ak,E,bl,sB,ED,ry,bI,hm,md,e8,iY,h5,iZ,aq,hC,gg,qD,nW,ad,cM,aj,a5,bh,show i<D a+1 by omega,show ¬ ((20:Int)<0) by omega]
   have:=fin 0 (by omega) (by omega) (by rw[dD (by omega),dD (by omega)];simp)
   simpa using this
 ·obtain rfl:i=D a:=by omega
  have iZ:decide ((D a:Int)<(D a:Int))=false:=c1;have sC:(D a)<D o:=by omega
  have hC:(D a)+1<=(aY ad o).length:=by rw[pP];omega
  have gg:=λd=>wJ o (D a) d sC
  have Sk:er (o.set (D a) c):=by
   have:o.set (D a) c=(o.set (D a) c).take (D a+1):=by rw[dD (by simp[bx])]
   rw[this,aaY _ (by simpa using sC),B3];refine⟨ih,?_⟩;simp only[yz];omega
  have Sl:a0 (o.set (D a) c)=x+y:=by
   have:o.set (D a) c=(o.set (D a) c).take (D a+1):=by rw[dD (by simp[bx])]
   rw[this,kS _ _ (by simpa using sC),B3];simp only[yz];rw[jn,dD (bP _),dD mR,aI]
  have mL:=Sb (o.set (D a) c) 172019 0 (a3 mem 172019 0 (aY ad (o.set (D a) c))) (by simp[a3]) (by simp[bx];omega);rw[ja,bx] at mL;have fB:=Sg (mem:=a3 mem 172019 0 (aY ad (o.set (D a) c))) (k:=172019) (g:=0) (n:=x+y) (by simp[a3]) Sk (by rw[Sl];rfl);simp only[go_sem,go_sem_proc,eg,ak,E,bl,sB,ED,ry,bI,hm,iZ,hC,gg,mL,fB,cM,aj,show (D a)<D a+1 by omega]
  repeat' (first|refine av ?_ ?_|fail)<;>intro h<;>simp only[h,go_sem,go_sem_proc,eg,ak,E,bl,sB,ED,ry,bI,hm,iZ,hC,gg,mL,fB,cM,aj,show (D a)<D a+1 by omega]
theorem aa5 (n:Int):bits .and .i64 (n/1048576) 1=n/1048576%2:=by
 generalize n/1048576=m;have H:(1:Int)=((2^1-1:Nat):Int):=by decide
 have E:m%18446744073709551616%2=m%2:=by omega
 obtain⟨a,a1⟩:∃a:Nat,(a:Int)=m%18446744073709551616:=⟨(m%18446744073709551616).toNat,by omega⟩
 have e:BitVec.ofInt 64 m=BitVec.ofNat 64 a:=by
  apply BitVec.eq_of_toInt_eq;rw[BitVec.toInt_ofInt,BitVec.toInt_ofNat',a1];simp[aaJ,aaK]
 have aC:bits .and .i64 m 1=bits .and .i64 (a:Int) 1:=by
  simp only[bits];rw[show IntKind.i64.bits=64 from rfl,e,BitVec.ofInt_natCast]
 rw[aC,<-E,<-a1];have QZ:a<2^64:=by omega
 conv=>lhs;rw[H]
 simp only[bits,BitVec.ofInt_natCast,BitVec.toNat_and,BitVec.toNat_ofNat,show IntKind.i64.bits=64 from rfl,Ia QZ];rw[show (2^1-1:Nat)%2^64=2^1-1 by decide,aaL,wrap64 _ (by omega) (by omega)]
 omega
theorem Sm (o:List Int)(j:Nat)(d:Int)(h:j<D o):a0 (o.set j d)=a0 o+1048576^j*(d-o[j]):=by
 induction o generalizing j with
 |nil=>simp at h
 |cons x r ay =>
  cases j with
  |zero=>simp[a0];omega
  |succ j =>
   simp only[List.set_cons_succ,ss,List.getElem_cons_succ,mM];rw[ay j (by simpa using h),h2,<-h3,mN 1048576 (1048576^j)];omega
theorem yA {o:List Int}(h:er o)(j:Nat){d:Int}(X:0<=d/\d<1048576):er (o.set j d):=by
 intro x O;rcases List.mem_or_eq_of_mem_set O with E|E
 ·exact h x E
 ·rw[E];exact X
theorem amP (p u9 tw rb c a b:Int)(h:u9=tw-rb+p*c):u9+p*((a-c-b)%1048576)=tw+p*a-(rb+p*b)-p*1048576*((a-c-b)/1048576):=by
 have E:=z8 (a-c-b) 1048576
 have H:p*((a-c-b)%1048576)+p*1048576*((a-c-b)/1048576)=p*(a-c-b):=by
  rw[h3,<-h2,E]
 have ab:p*(a-c-b)=p*a-p*c-p*b:=by rw[EE,EE]
 omega
def Mh:=cy tP λ(x,y)=>cT ((aF x).length<=100000/\y<=x) (.own 1 ((aF (x-y)).map ad))
@[go_sem] theorem Sn (x:Nat)(y:Nat)(G:(aF x).length<=100000/\y<=x):Mh [bL x,bL y]=some (.own 1 ((aF (x-y)).map ad)):=(cI wK (x,y)).trans (cY G _)
theorem amQ (T:bk)(fX:T wG=aW B2)(eg:T pO=ym yu tN)(x:Nat)(y:Nat)(G:(aF x).length<=100000/\y<=x):WP T RT (.own 1 ((aF (x-y)).map ad)) [.I (bL x),.I (bL y)]:=by
 refine cC ?_;simp only[RT];obtain⟨O,aa6⟩:=G;have sA:=mc x;have qE:=mc y;have u7:=lf x;have B4:=lf y
 have kx:(aF y).length<=(aF x).length:=by
  rw[gF];exact sD aa6 (gF.1 (bP _))
 generalize a1:aF x=a at *;generalize ae:aF y=b at *;have kr:(D a)<=1000000:=by omega
 simp only[go_sem,go_sem_proc,fX,eg,bL,a1,ae,kr,aj]
 refine dE [1,5,12] [] (λ(i,c,o) tm mem=>i<=D a/\(o:List Int).length=D a/\er o/\o.drop i=a.drop i/\(c=0\/c=1)/\a0 (o.take i)=a0 (a.take i)-a0 (b.take i)+1048576^i*c/\tm 13=.I (.int .i64 (i:Nat))/\tm 6=.I (.int .i64 c)/\mem 173010=some (0,aY ad o))
  (λ(i,_)=>D a-i) (0,0,a) (by refine⟨fr _,rfl,sA,rfl,.inl rfl,by simp[a0],?_,?_,?_⟩<;>rfl) ?_
 intro vs ms aV aR;simp only[go_sem,go_sem_proc,fX,eg,bL,a1,ae,aj] at aV aR;subst aV aR;rintro⟨i,c,o⟩ tm mem J-⟨L,bx,ih,wL,amR,jn,nr,bI,hm⟩;simp only[go_sem,go_sem_proc,fX,eg,bh] at J;obtain⟨E,bl,hB⟩:=J;rcases dQ (i<D a) with aq|ck
 ·have sC:i<D o:=by omega
  have amS:o[i]=a[i]:=by
   have E:=hW sC;have H:=hW aq;rw[wL,H] at E;exact (vb E).1.symm
  have zW:=kT sA i aq;have e8:IntKind.i64.wrap ((i:Int)+1)=((i+1:Nat):Int):=by rw[eA _];rfl
  have hC:i+1<=(aY ad o).length:=by rw[pP];omega
  have jb:=IF o i sC;rw[amS] at jb;have iY:IntKind.i64.wrap (a[i]-c)=a[i]-c:=wrap64 _ (by omega) (by omega);have gg:=λd=>wJ o i d sC
  have fin:∀bi:Int,0<=bi->bi<1048576->a0 (b.take (i+1))=a0 (b.take i)+1048576^i*bi ->
    ∃a6:Nat×Int×List Int,D a-a6.1<D a-i/\a6.1<=D a/\a6.2.2.length=D a/\er a6.2.2/\a6.2.2.drop a6.1=a.drop a6.1/\(a6.2.1=0\/a6.2.1=1)/\a0 (a6.2.2.take a6.1)=a0 (a.take a6.1)-a0 (b.take a6.1)+1048576^a6.1*a6.2.1 /\
     M.I (Data.int .i64 ((i+1:Nat):Int))=M.I (Data.int .i64 (a6.1:Int))/\M.I (Data.int .i64 ((a[i]-c-bi)/1048576%2))=M.I (Data.int .i64 a6.2.1)/\some (0,aY ad (o.set i ((a[i]-c-bi)%1048576)))=some (0,aY ad a6.2.2):=by
   intro bi rz kq B5;have bd:(a[i]-c-bi)/1048576=0\/(a[i]-c-bi)/1048576 = -1:=by omega
   refine⟨(i+1,(a[i]-c-bi)/1048576%2,o.set i ((a[i]-c-bi)%1048576)),by dsimp only;omega,by dsimp only;omega,by simp[bx],yA ih i (by omega),?_,by dsimp only;omega,?_,rfl,rfl,rfl⟩
   ·dsimp only;rw[sj (by omega)];have E:=hW sC;have H:=hW aq;rw[wL,H] at E;exact (vb E).2.symm
   ·dsimp only;rw[kS _ _ (by simpa using sC),B3,kS a i aq,B5,mM];simp only[yz];rw[amP _ _ _ _ _ _ _ jn];rcases bd with e|e<;>rw[e]<;>simp
  have iZ:decide ((i:Int)<(D a:Int))=true:=dg;rcases dQ (i<D b) with qF|Sj
  ·have mQ:b[i]?=some b[i]:=bs qF;have tQ:=kT qE i qF;have kv:IntKind.i64.wrap (a[i]-c-b[i])=a[i]-c-b[i]:=wrap64 _ (by omega) (by omega);have h5:decide ((i:Int)<(D b:Int))=true:=dg;refine a9 ?_;repeat' (intro h<;>simp only[h,go_sem,go_sem_proc,fX,eg,E,bl,hB,nr,bI,hm,mQ,e8,iY,kv,h5,iZ,aq,hC,jb,gg,qD,aa5,nW,ad,cM,aj,a5,bh,show ¬ ((20:Int)<0) by omega]<;>try refine av ?_ ?_)
   exact fin b[i] tQ.1 tQ.2 (kS b i qF)
  ·have h5:decide ((i:Int)<(D b:Int))=false:=c1;refine a9 ?_;repeat' (intro h<;>simp only[h,go_sem,go_sem_proc,fX,eg,E,bl,hB,nr,bI,hm,e8,iY,h5,iZ,aq,hC,jb,gg,qD,aa5,nW,ad,cM,aj,a5,bh,show ¬ ((20:Int)<0) by omega]<;>try refine av ?_ ?_)
   have:=fin 0 (by omega) (by omega) (by rw[dD (by omega),dD (by omega)];simp)
   simpa using this
 ·obtain rfl:i=D a:=by omega
  have iZ:decide ((D a:Int)<(D a:Int))=false:=c1;rw[dD (by omega),dD (by omega),dD (by omega),u7,B4] at jn
  have Sl:a0 o=((x-y:Nat):Int):=by
   have E:=yo ih;rw[bx] at E;rcases amR with rfl|rfl
   ·rw[jn];omega
   ·omega
  have mL:=Sb o 173010 0 mem hm (by omega);rw[bx] at mL;have fB:=Sg hm ih Sl;refine a9 ?_;repeat' (intro h<;>simp only[h,go_sem,go_sem_proc,fX,eg,E,bl,hB,nr,bI,hm,iZ,mL,fB,aj]<;>try refine av ?_ ?_)
theorem aa7 (p u9 V c x y yB:Int)(h:u9+p*c=V):u9+p*((yB+x*y+c)%1048576-yB)+p*1048576*((yB+x*y+c)/1048576)=V+p*(x*y):=by
 have E:=z8 (yB+x*y+c) 1048576
 have H:p*((yB+x*y+c)%1048576)+p*1048576*((yB+x*y+c)/1048576)=p*(yB+x*y+c):=by
  rw[h3,<-h2,E]
 have ab:p*(yB+x*y+c)=p*yB+p*(x*y)+p*c:=by rw[h2,h2]
 rw[EE];omega
theorem aa8 {o x y c:Int}(bx:0<=o/\o<1048576)(O:0<=x/\x<1048576)(ao:0<=y/\y<1048576)(G:0<=c/\c<1048576):
  0<=x*y/\x*y<=1099509530625/\0<=(o+x*y+c)/1048576/\(o+x*y+c)/1048576<1048576:=by
 have E:0<=x*y:=qG O.1 ao.1;have H:x*y<=1048575*1048575:=EF (by omega) (by omega) ao.1 (by omega);omega
theorem aa9 {o:List Int}{n j:Nat}(h:o.drop n=eu (D o-n) 0)(ai:n<=j)(aq:j<D o):o[j]=0:=by
 have E:(o.drop n)[j-n]?=some o[j]:=by rw[uQ,show n+(j-n)=j by omega,bs aq]
 rw[h,List.getElem?_replicate] at E
 split at E
 ·exact (ni E).symm
 ·cases E
theorem aba {o:List Int}{n:Nat}{d:Int}(h:o.drop n=eu (D o-n) 0)(aq:n<D o):(o.set n d).drop (n+1)=eu ((o.set n d).length-(n+1)) 0:=by
 rw[sj (by omega),ja];have E:=hW aq;rw[h,show (D o)-n=(D o-(n+1))+1 by omega,uR] at E
 exact (vb E).2.symm
def Mi:=cy tP λ(x,y)=>cT ((aF x).length<=10000/\(aF y).length<=10000) (.own 1 ((aF (x*y)).map ad))
@[go_sem] theorem So (x:Nat)(y:Nat)(G:(aF x).length<=10000/\(aF y).length<=10000):Mi [bL x,bL y]=some (.own 1 ((aF (x*y)).map ad)):=(cI wK (x,y)).trans (cY G _)
theorem amT (T:bk)(eg:T pO=ym yu tN)(x:Nat)(y:Nat)(G:(aF x).length<=10000/\(aF y).length<=10000):WP T RR (.own 1 ((aF (x*y)).map ad)) [.I (bL x),.I (bL y)]:=by
 refine cC ?_;simp only[RR];obtain⟨O,ao⟩:=G;have sA:=mc x;have qE:=mc y;have u7:=lf x;have B4:=lf y;generalize a1:aF x=a at *;generalize ae:aF y=b at *;have nX:IntKind.i64.wrap ((D a:Int)+(D b:Int))=((D a+D b:Nat):Int):=by rw[eA _];rfl
 have kq:8*(D a+D b)<=140737488355328:=by omega
 have en:(D a)+D b<=maxLen:=EC _ (by omega);simp only[go_sem,go_sem_proc,eg,bL,a1,ae,nX,kq,en,EB,aj]
 refine dE [1,5,18,19] [] (λ(i,o) tm mem=>i<=D a/\(o:List Int).length=D a+D b/\er o/\o.drop (i+D b)=eu (D o-(i+D b)) 0/\a0 o=a0 (a.take i)*y/\tm 20=.I (.int .i64 (i:Nat))/\mem 161017=some (0,aY ad o))
  (λ(i,_)=>D a-i) (0,eu (D a+D b) 0) (by
   have aQ:∀n,a0 (eu n 0)=0:=by
    intro n
    induction n with
    |zero=>rfl
    |succ n ay=>rw[uR,ss,ay];rfl
   refine⟨fr _,by simp,λd X=>by rw[EG] at X;omega,by simp,by rw[aQ];simp[a0],?_,?_⟩<;>rfl) ?_
 intro vs ms aV aR;simp only[go_sem,go_sem_proc,eg,bL,a1,ae,nX,aj] at aV aR;subst aV aR;rintro⟨i,o⟩ tm mem J-⟨L,bx,ih,rA,jn,sB,hm⟩;simp only[go_sem,go_sem_proc,eg,bh] at J;obtain⟨E,bl,jt,vc⟩:=J;rcases dQ (i<D a) with aq|ck
 ·have md:a[i]?=some a[i]:=bs aq;have zW:=kT sA i aq;have sl:=kS a i aq;generalize a[i]=hD at *;have h5:decide ((i:Int)<(D a:Int))=true:=dg;simp only[go_sem,go_sem_proc,eg,E,bl,jt,vc,sB,md,h5,ad,aj,a5,bh]
  refine dE [1,5,6,7,18,19,20,25,26] [] (λ((k,c,o):Nat×Int×List Int) tm mem=>k<=D b/\D o=D a+D b/\er o/\o.drop (i+D b)=eu (D o-(i+D b)) 0/\0<=c/\c<1048576/\a0 o+1048576^(i+k)*c=a0 (a.take i)*y+1048576^i*(hD*a0 (b.take k)) /\
    tm 27=.I (.int .i64 (k:Nat))/\tm 8=.I (.int .i64 c)/\mem 161017=some (0,aY ad o))
   (λ(k,_)=>D b-k) (0,0,o) (by refine⟨fr _,bx,ih,rA,by omega,by omega,by simp[a0,jn],?_,?_,hm⟩<;>rfl) ?_
  intro vs ms aV aR;simp only[go_sem,go_sem_proc,eg,E,bl,jt,vc,sB,ad,aj] at aV aR;subst aV aR;rintro⟨k,c,o⟩ tm mem J-⟨sk,bx,ih,rA,ku,gy,jn,abb,bW,hm⟩;simp only[go_sem,go_sem_proc,eg,bh] at J;obtain⟨E,bl,bI,bC,jt,vc,sB,abc,abd⟩:=J;rcases dQ (k<D b) with IH|IH
  ·have mQ:b[k]?=some b[k]:=bs IH;have EH:=kT qE k IH;have o1:i+k<D o:=by omega
   have Sp:=kT ih (i+k) o1;obtain⟨dG,cn,ns,nY⟩:=aa8 Sp zW EH ⟨ku,gy⟩;have h5:decide ((k:Int)<(D b:Int))=true:=dg;have e8:IntKind.i64.wrap ((k:Int)+1)=((k+1:Nat):Int):=by rw[eA _];rfl
   have iY:IntKind.i64.wrap ((i:Int)+(k:Int))=((i+k:Nat):Int):=by rw[eA _];rfl
   have kv:IntKind.i64.wrap (hD*b[k])=hD*b[k]:=wrap64 _ (by omega) (by omega);have yC:IntKind.i64.wrap (o[i+k]+hD*b[k])=o[i+k]+hD*b[k]:=wrap64 _ (by omega) (by omega);have tR:IntKind.i64.wrap (o[i+k]+hD*b[k]+c)=o[i+k]+hD*b[k]+c:=wrap64 _ (by omega) (by omega);have hC:i+k+1<=(aY ad o).length:=by rw[pP];omega
   have jb:=IF o (i+k) o1;have gg:=λd=>wJ o (i+k) d o1;have ki:i+k<D a+D b:=by omega
   refine a9 ?_;repeat' (intro h<;>simp only[h,go_sem,go_sem_proc,eg,E,bl,bI,bC,jt,vc,sB,abc,abd,abb,bW,hm,mQ,h5,e8,iY,kv,yC,tR,ki,hC,jb,gg,qD,nW,ad,cM,aj,a5,bh,show ¬ ((20:Int)<0) by omega]<;>try refine av ?_ ?_)
   refine⟨(k+1,(o[i+k]+hD*b[k]+c)/1048576,o.set (i+k) ((o[i+k]+hD*b[k]+c)%1048576)),by dsimp only;omega,by dsimp only;omega,by simp[bx],yA ih _ (by omega),?_,ns,nY,?_,rfl,rfl,rfl⟩
   ·dsimp only;rw[sj (by omega),ja,rA]
   ·dsimp only;rw[Sm _ _ _ o1,kS b k IH,<-sa,mM,aa7 _ _ _ _ _ _ _ jn];rw[h2 (hD),h2 (1048576^i),abe]
    have:(1048576:Int)^i*(hD*(1048576^k*b[k]))=1048576^i*1048576^k*(hD*b[k]):=by
     rw[<-h3 (hD),mN (hD) (1048576^k),h3 (1048576^k),<-h3]
    omega
  ·obtain rfl:k=D b:=by omega
   have h5:decide ((D b:Int)<(D b:Int))=false:=c1;have o1:i+D b<D o:=by omega
   have aQ:=aa9 rA (bP _) o1;have e8:IntKind.i64.wrap ((i:Int)+1)=((i+1:Nat):Int):=by rw[eA _];rfl
   have iY:IntKind.i64.wrap ((i:Int)+(D b:Int))=((i+D b:Nat):Int):=by rw[eA _];rfl
   have kv:IntKind.i64.wrap (0+c)=c:=by rw[B6];exact wrap64 _ (by omega) (by omega)
   have hC:i+D b+1<=(aY ad o).length:=by rw[pP];omega
   have jb:=IF o (i+D b) o1;rw[aQ] at jb;have gg:=λd=>wJ o (i+D b) d o1;have ki:i+D b<D a+D b:=by omega
   refine a9 ?_;repeat' (intro h<;>simp only[h,go_sem,go_sem_proc,eg,E,bl,bI,bC,jt,vc,sB,abc,abd,abb,bW,hm,h5,e8,iY,kv,ki,hC,jb,gg,ad,cM,aj]<;>try refine av ?_ ?_)
   refine⟨(i+1,o.set (i+D b) c),by dsimp only;omega,by dsimp only;omega,by simp[bx],yA ih _ ⟨ku,gy⟩,?_,?_,rfl,rfl⟩
   ·dsimp only;have:=aba (d:=c) rA o1;rwa [show i+D b+1=i+1+(D b) by omega] at this
   ·dsimp only;rw[Sm _ _ _ o1,aQ,sl];rw[dD (bP _),B4] at jn;rw[II,jn,sE,h3]
 ·obtain rfl:i=D a:=by omega
  have h5:decide ((D a:Int)<(D a:Int))=false:=c1;rw[dD (bP _),u7] at jn;have mL:=Sb o 161017 0 mem hm (by omega);rw[bx] at mL;have fB:=Sg hm ih (n:=x*y) (by rw[jn];rfl);refine a9 ?_;repeat' (intro h<;>simp only[h,go_sem,go_sem_proc,eg,E,bl,jt,vc,sB,hm,h5,mL,fB,aj]<;>try refine av ?_ ?_)
abbrev Sq:Nat×Int->List Data:=λ(x,d)=>[bL x,.int .i64 d]
def Sr:=cy Sq λ(x,d)=>cT ((aF x).length<=100000/\0<d/\d<1048576) (.same (.cw [bL (x/d.toNat),.int .i64 (x%d.toNat:Nat)]))
theorem amU:∀a b,Sq a=Sq b->a=b:=by
  rintro⟨bf,d1⟩ ⟨b5,d2⟩ h;simp only[bh,bL,Data.af.injEq,Data.int.injEq] at h;exact eS (Ie (map_inj g7 _ _ h.1)) h.2.1.2
@[go_sem] theorem abf (x:Nat)(d:Int)(G:(aF x).length<=100000/\0<d/\d<1048576):Sr [bL x,.int .i64 d]=some (.same (.cw [bL (x/d.toNat),.int .i64 (x%d.toNat:Nat)])):=(cI amU (x,d)).trans (cY G _)
theorem amV (T:bk)(eg:T pO=ym yu tN)(x:Nat)(d:Int)(G:(aF x).length<=100000/\0<d/\d<1048576):WP T RV (.same (.cw [bL (x/d.toNat),.int .i64 (x%d.toNat:Nat)])) [.I (bL x),.I (.int .i64 d)]:=by
 refine cC ?_;simp only[RV];obtain⟨O,z9,jM⟩:=G;have sA:=mc x;have u7:=lf x;generalize a1:aF x=a at *;have kq:8*D a<=140737488355328:=by omega
 have en:(D a)<=maxLen:=EC _ (by omega);have lh:(d=0)=False:=by simp;omega
 simp only[go_sem,go_sem_proc,eg,bL,a1,kq,en,EB,aj]
 refine dE [0,1,6] [] (λ((n,r,o):Nat×Int×List Int) tm mem=>n<=D a/\D o=D a/\er o/\0<=r/\r<d/\a0 (a.drop n)=d*a0 (o.drop n)+r/\tm 8=.I (.int .i64 ((n:Nat)-1))/\tm 7=.I (.int .i64 r)/\mem 176011=some (0,aY ad o))
  (λ(n,_)=>n) (D a,0,eu (D a) 0) (by
   refine⟨bP _,by simp,λd X=>by rw[EG] at X;omega,by omega,by omega,by simp[a0],?_,?_,?_⟩
   ·simp only[eQ,reduceIte];rw[eA _]
   ·rfl
   ·rfl) ?_
 intro vs ms aV aR;simp only[go_sem,go_sem_proc,eg,bL,a1,aj] at aV aR;subst aV aR;rintro⟨n,r,o⟩ tm mem J-⟨aG,bx,ih,o2,EI,aI,bW,bC,hm⟩;simp only[go_sem,go_sem_proc,eg,bh] at J;obtain⟨ak,E,bI⟩:=J;rcases n with _|n
 ·have bd:a0 o=(x/d.toNat:Nat)/\r=(x%d.toNat:Nat):=by
   rw[nk,nk,u7] at aI;have e:(d.toNat:Int)=d:=by omega
   constructor
   ·rw[abg,e,aI,wM,abh _ _ (by omega),Ss o2 EI];omega
   ·rw[abi,e,aI,wM,abj,St o2 EI]
  have iA:=Mb o (by omega);rw[yp ih,bd.1] at iA;have fa:M.ref 176011 0 1 0 (D a)=M.ref 176011 0 1 0 (D o):=by rw[bx]
  rw[fa] at bI;refine a9 ?_;repeat' (intro h<;>simp only[h,go_sem,go_sem_proc,eg,ak,E,bI,bC,bW,hm,iA,mb hQ,kR,lg,show ¬ ((0:Int)-1>=0) by omega,decide_false,gX]<;>try refine av ?_ ?_)
  all_goals rw[bd.2]
 ·have md:a[n]?=some a[n]:=bs (by omega);have Mj:=kT sA n (by omega);have hw:((n+1:Nat):Int)-1=(n:Int):=by omega
  have ie:n<D o:=by omega
  have e8:IntKind.i64.wrap (r*2^min (BO 20) 64)=r*1048576:=by
   rw[show min (BO 20) 64=20 by decide]
   exact wrap64 _ (by omega) (by omega)
  have vd:bits .or .i64 (r*1048576) a[n]=r*1048576+a[n]:=Q0 r a[n] o2 (by omega) Mj;have lR:0<=(r*1048576+a[n])/d:=B7 (by omega) (by omega)
  have rB:(r*1048576+a[n])/d<1048576:=abk z9 (by
   have:(r+1)*1048576<=d*1048576:=me (by omega) (by omega);rw[mN 1048576 d];omega)
  have tS:(r*1048576+a[n]).tdiv d=(r*1048576+a[n])/d:=yD (by omega);have Su:(r*1048576+a[n]).tmod d=(r*1048576+a[n])%d:=Aa (by omega);have iY:IntKind.i64.wrap ((r*1048576+a[n])/d)=(r*1048576+a[n])/d:=wrap64 _ (by omega) (by omega);have hC:n+1<=(aY ad o).length:=by rw[pP];omega
  have gg:=λd=>wJ o n d ie;have g6:n<D a:=by omega
  have kv:IntKind.i64.wrap ((n:Int)-1)=(n:Int)-1:=wrap64 _ (by omega) (by omega);refine a9 ?_;repeat' (intro h<;>simp only[h,go_sem,go_sem_proc,eg,ak,E,bI,bC,bW,hm,hw,md,e8,vd,tS,Su,iY,kv,lh,g6,hC,gg,show (n:Int)>=0 by omega,decide_true,ad,cM,aj,a5,bh,show ¬ ((20:Int)<0) by omega]<;>try refine av ?_ ?_)
  refine⟨(n,(r*1048576+a[n])%d,o.set n ((r*1048576+a[n])/d)),by dsimp only;omega,by dsimp only;omega,by simp[bx],yA ih n ⟨lR,rB⟩,EJ _ (by omega),Sv _ z9,?_,rfl,rfl,rfl⟩
  dsimp only;rw[hW (by omega:n<D a),hW (by simpa using ie:n<(o.set n ((r*1048576+a[n])/d)).length),ss,ss]
  simp only[yz];rw[sj (by omega),aI];have:=z8 (r*1048576+a[n]) d;rw[h2,h2,Sw d 1048576];omega
def pad:Nat->Nat->List Int
 |0,_=>[]
 |n+1,x=>((x%1048576:Nat):Int)::pad n (x/1048576)
theorem amW (n x:Nat):(pad n x).length=n:=by
 induction n generalizing x with
 |zero=>rfl
 |succ n ay=>simp[pad,ay]
theorem amX (n x:Nat):er (pad n x):=by
 induction n generalizing x with
 |zero=>intro d X;cases X
 |succ n ay =>
  unfold pad;rw[BK];exact⟨by omega,ay _⟩
theorem abl {l:List Int}(h:er l):l=pad (D l) (a0 l).toNat:=by
 induction l with
 |nil=>rfl
 |cons d r ay =>
  rw[BK] at h;have E:=ov h.2;have H:=ay h.2;simp only[kf,pad,ss]
  congr 1
  ·omega
  ·rw[show (d+1048576*a0 r).toNat/1048576=(a0 r).toNat by omega]
   exact H
theorem amY {n x:Nat}(h:x<1048576^n):a0 (pad n x)=x:=by
 induction n generalizing x with
 |zero=>simp at h;subst h;rfl
 |succ n ay =>
  unfold pad;rw[ss,ay (by rw[aaI (by omega)];rwa [u3] at h)];omega
theorem IJ {pre u post:List Int}{i:Nat}(h:i<D u):hA 1 (h4 (D pre+i) (aY ad (pre++u++post)))=[.I (.int .i64 u[i])]:=by
 rw[IF _ _ (by simp;omega)]
 congr 3
 simp[List.getElem_append,h]
theorem abm {pre u post:List Int}{i:Nat}(h:i<D u)(d:Int):hA (D pre+i) (aY ad (pre++u++post))++[.I (.int .i64 d)]++h4 (D pre+i+1) (aY ad (pre++u++post))=aY ad (pre++u.set i d++post):=by
 rw[wJ _ _ _ (by simp;omega)]
 congr 1
 rw[gN,List.set_append_right _ _ (by omega),Ej,List.set_append_left _ _ h,gN]
theorem Ab (mem:Mem)(k g dh:Nat)(a b:List M):a3 (a3 mem k g a) k dh b=a3 mem k dh b:=by
 funext j
 unfold a3
 split<;>rfl
theorem amZ {mem:Mem}{k g:Nat}{a:List M}(h:mem k=some (g,a)):a3 mem k g a=mem:=by
 funext j
 unfold a3
 split
 ·rename_i e;rw[e,h]
 ·rfl
structure IK where
 pre:List Int
 u:List Int
 post:List Int
 V:Nat
 q:Int
 k:Key
 g:Nat
def Mk (u:List Int)(V:Nat)(q:Int):Int:=if a0 u-q*V<0 then a0 u-q*V+V else a0 u-q*V
def Ac (u:List Int)(V:Nat)(q:Int):Int:=if a0 u-q*V<0 then q-1 else q
def Ad (a:IK):List M:=aY ad (a.pre++pad (D a.u) (Mk a.u a.V a.q).toNat++a.post)
def Sx (a:IK)(mem:Mem):Prop:=mem a.k=some (a.g,aY ad (a.pre++a.u++a.post))/\er a.u/\(aF a.V).length<=D a.u/\0<=a.q/\a.q<1048576/\0<=a0 a.u-a.q*a.V+a.V/\D a.pre+D a.u<=100000
def IM:List M->Mem->Option (M×Mem):=El (λ(a:IK) args mem=>args=[.ref a.k a.g 1 (D a.pre) (D a.u),.I (bL a.V),.I (.int .i64 a.q)]/\Sx a mem)
 (λa mem=>(.I (.int .i64 (Ac a.u a.V a.q)),a3 mem a.k a.g (Ad a)))
theorem am0 {a b:Nat}(h:bL a=bL b):a=b:=Ie (map_inj g7 _ _ (by simpa [bL] using h))
theorem am1 (a:IK)(mem:Mem)(h:Sx a mem):IM [.ref a.k a.g 1 (D a.pre) (D a.u),.I (bL a.V),.I (.int .i64 a.q)] mem=some (.I (.int .i64 (Ac a.u a.V a.q)),a3 mem a.k a.g (Ad a)):=by
 unfold IM;refine aaD (a:=a) ?_ ⟨rfl,h⟩;rintro a b args mem ⟨E,H,_⟩ ⟨ab,aM,_⟩;rw[E] at ab;simp only[bh,M.ref.injEq,M.I.injEq,Data.int.injEq,true_and,and_true] at ab;obtain⟨⟨IC,Mc,Ml,abn⟩,abo,eq⟩:=ab;have abp:=am0 abo;clear abo;obtain⟨pre,u,post,V,q,k,g⟩:=a;obtain⟨aBR,aBS,aBT,aBU,sF,k',dh⟩:=b;simp only at IC Mc Ml abn abp eq H aM;subst IC Mc abp eq;rw[aM] at H;simp only[cb,fu,true_and] at H;have e:=Sa hQ g7 _ _ H (by omega);rw[gN,gN] at e;obtain⟨aw,aC⟩:=Ey e Ml.symm;obtain⟨cx,dk⟩:=Ey aC abn.symm;subst aw cx dk
 rfl
theorem am2 (p u9 tw rb c a b q:Int)(h:u9=tw-q*rb+p*c):u9+p*((a-c-q*b)%1048576)=tw+p*a-q*(rb+p*b)+p*1048576*(-((a-c-q*b)/1048576)):=by
 have E:=z8 (a-c-q*b) 1048576
 have H:p*((a-c-q*b)%1048576)+p*1048576*((a-c-q*b)/1048576)=p*(a-c-q*b):=by
  rw[h3,<-h2,E]
 have ab:p*(a-c-q*b)=p*a-p*c-p*(q*b):=by rw[EE,EE]
 have aM:q*(rb+p*b)=q*rb+p*(q*b):=by rw[h2,Sw]
 rw[EK];omega
theorem abq {a c q b:Int}(a1:0<=a/\a<1048576)(G:0<=c/\c<=1048576)(bd:0<=q/\q<1048576)(ae:0<=b/\b<1048576):
  0<=q*b/\q*b<=1099509530625/\0 <= -((a-c-q*b)/1048576) /\ -((a-c-q*b)/1048576)<=1048576:=by
 have E:0<=q*b:=qG bd.1 ae.1;have H:q*b<=1048575*1048575:=EF (by omega) (by omega) ae.1 (by omega);omega
theorem am3 (T:bk)(a:IK)(ec:Mem)(G:Sx a ec):
  wp T L9.body (Ek L9.res (.I (.int .i64 (Ac a.u a.V a.q))) (a3 ec a.k a.g (Ad a))) ⟨mA [.ref a.k a.g 1 (D a.pre) (D a.u),.I (bL a.V),.I (.int .i64 a.q)],ec⟩:=by
 obtain⟨pre,u,post,V,q,k,g⟩:=a;obtain⟨l9,tT,Qc,lR,rB,lS,hlen⟩:=G;simp only at l9 tT Qc lR rB lS hlen ⊢;have yE:=mc V;have HY:=lf V;have Sy:=gF.1 Qc;refine wq ?_;simp only[L9];simp only[go_sem,go_sem_proc,bL];generalize ae:aF V=v at *
 refine dE [0,1,2,13] [] (λ((i,c,w):Nat×Int×List Int) tm mem=>i<=D u/\D w=D u/\er w/\w.drop i=u.drop i/\(0<=c/\c<=1048576)/\a0 (w.take i)=a0 (u.take i)-q*a0 (v.take i)+1048576^i*c/\tm 14=.I (.int .i64 (i:Nat))/\tm 7=.I (.int .i64 c)/\mem=a3 ec k g (aY ad (pre++w++post)))
  (λ(i,_)=>D u-i) (0,0,u) (by refine⟨fr _,rfl,tT,rfl,by omega,by simp[a0],rfl,rfl,(amZ l9).symm⟩) ?_
 intro vs ms aV aR;simp only[go_sem,go_sem_proc] at aV aR;subst aV aR;rintro⟨i,c,w⟩ tm _ J-⟨L,hw,qH,wL,G,jn,ve,bC,rfl⟩;simp only[go_sem,go_sem_proc,bh] at J;obtain⟨ak,E,H,nr⟩:=J;rcases dQ (i<D u) with aq|ck
 ·have wN:i<D w:=by omega
  have am4:w[i]=u[i]:=by
   have E:=hW wN;rw[wL,hW aq] at E;exact (vb E).1.symm
  have sG:w.drop (i+1)=u.drop (i+1):=by
   have E:=hW wN;rw[wL,hW aq] at E;exact (vb E).2.symm
  have jb:=IJ (pre:=pre) (post:=post) wN;rw[am4] at jb;have abr:=kT tT i aq;have sl:=kS u i aq;generalize u[i]=tU at *;have e8:IntKind.i64.wrap ((i:Int)+1)=((i+1:Nat):Int):=by rw[eA _];rfl
  have iY:IntKind.i64.wrap (tU-c)=tU-c:=wrap64 _ (by omega) (by omega);have hC:(D pre)+i+1<=(aY ad (pre++w++post)).length:=by rw[pP];simp;omega
  have gg:=λd=>abm (pre:=pre) (post:=post) wN d;have iZ:decide ((i:Int)<(D u:Int))=true:=dg
  have fin:∀bi:Int,0<=bi->bi<1048576->a0 (v.take (i+1))=a0 (v.take i)+1048576^i*bi ->
    ∃a6:Nat×Int×List Int,D u-a6.1<D u-i/\a6.1<=D u/\a6.2.2.length=D u/\er a6.2.2/\a6.2.2.drop a6.1=u.drop a6.1/\(0<=a6.2.1/\a6.2.1<=1048576)/\a0 (a6.2.2.take a6.1)=a0 (u.take a6.1)-q*a0 (v.take a6.1)+1048576^a6.1*a6.2.1 /\
     M.I (Data.int .i64 ((i+1:Nat):Int))=M.I (Data.int .i64 (a6.1:Int))/\M.I (Data.int .i64 (-((tU-c-q*bi)/1048576)))=M.I (Data.int .i64 a6.2.1)/\a3 ec k g (aY ad (pre++w.set i ((tU-c-q*bi)%1048576)++post))=a3 ec k g (aY ad (pre++a6.2.2++post)):=by
   intro bi rz kq B5;obtain⟨dG,cn,ns,nY⟩:=abq abr G ⟨lR,rB⟩ ⟨rz,kq⟩;refine⟨(i+1,-((tU-c-q*bi)/1048576),w.set i ((tU-c-q*bi)%1048576)),by dsimp only;omega,by dsimp only;omega,by simp[hw],yA qH i (by omega),?_,⟨ns,nY⟩,?_,rfl,rfl,rfl⟩
   ·dsimp only;rw[sj (by omega),sG]
   ·dsimp only;rw[kS _ _ (by simpa using wN),B3,sl,B5,mM];simp only[yz];exact am2 _ _ _ _ _ _ _ _ jn
  rcases dQ (i<D v) with qF|Sj
  ·have mQ:v[i]?=some v[i]:=bs qF;have tQ:=kT yE i qF;have Sz:=kS v i qF;generalize v[i]=bi at *;obtain⟨dG,cn,ns,nY⟩:=abq abr G ⟨lR,rB⟩ tQ;have kv:IntKind.i64.wrap (q*bi)=q*bi:=wrap64 _ (by omega) (by omega);have yC:IntKind.i64.wrap (tU-c-q*bi)=tU-c-q*bi:=wrap64 _ (by omega) (by omega);have tR:IntKind.i64.wrap (0-(tU-c-q*bi)/1048576) = -((tU-c-q*bi)/1048576):=by rw[eA _];omega
   have h5:decide ((i:Int)<(D v:Int))=true:=dg;simp only[go_sem,go_sem_proc,ak,E,H,nr,ve,bC,mQ,e8,iY,kv,yC,tR,h5,iZ,aq,hC,jb,gg,Ab,qD,nW,ad,cM,aj,a5,bh,show ¬ ((20:Int)<0) by omega]
   repeat' (first|refine av ?_ ?_|fail)<;>intro h<;>simp only[h,go_sem,go_sem_proc,ak,E,H,nr,ve,bC,mQ,e8,iY,kv,yC,tR,h5,iZ,aq,hC,jb,gg,Ab,qD,nW,ad,cM,aj,a5,bh,show ¬ ((20:Int)<0) by omega]
   exact fin bi tQ.1 tQ.2 Sz
  ·have h5:decide ((i:Int)<(D v:Int))=false:=c1;have tR:IntKind.i64.wrap (0-(tU-c)/1048576) = -((tU-c)/1048576):=by rw[eA _];omega
   simp only[go_sem,go_sem_proc,ak,E,H,nr,ve,bC,e8,iY,tR,h5,iZ,aq,hC,jb,gg,Ab,qD,nW,ad,cM,aj,a5,bh,show ¬ ((20:Int)<0) by omega]
   repeat' (first|refine av ?_ ?_|fail)<;>intro h<;>simp only[h,go_sem,go_sem_proc,ak,E,H,nr,ve,bC,e8,iY,tR,h5,iZ,aq,hC,jb,gg,Ab,qD,nW,ad,cM,aj,a5,bh,show ¬ ((20:Int)<0) by omega]
   have:=fin 0 (by omega) (by omega) (by rw[dD (by omega),dD (by omega)];simp);simp only[sH,II] at this;exact this
 ·obtain rfl:i=D u:=by omega
  have iZ:decide ((D u:Int)<(D u:Int))=false:=c1;rw[dD (by omega),dD (by omega),dD (by omega),HY] at jn;have am5:=yo qH;have aBV:=ov qH;rw[hw] at am5
  have aBW:(V:Int)<1048576^(D u):=by
   have h:=Int.ofNat_lt.2 Sy;rw[B8] at h;exact h
  by_cases ku:c=0
  ·subst ku;have SA:a0 u-q*V=a0 w:=by omega
   have aw:Ac u V q=q:=by unfold Ac;rw[aa (by omega)]
   have aC:Ad ⟨pre,u,post,V,q,k,g⟩=aY ad (pre++w++post):=by
    unfold Ad Mk;simp only;rw[aa (by omega),SA,<-hw,<-abl qH]
   simp only[go_sem,go_sem_proc,ak,E,H,nr,ve,bC,iZ,aw,aC,beq_self_eq_true];repeat' (first|refine av ?_ ?_|fail)<;>intro h<;>simp only[h,go_sem,go_sem_proc,ak,E,H,nr,ve,bC,iZ,aw,aC,beq_self_eq_true]
  ·have SB:(c==0)=false:=by simpa using ku
   have lj:(1048576:Int)^(D u)<=1048576^(D u)*c:=by
    have:(1048576:Int)^(D u)*1<=1048576^(D u)*c:=yy (by omega) (by omega);omega
   have j3:a0 u-q*V<0:=by omega
   have Mm:IntKind.i64.wrap (q-1)=q-1:=wrap64 _ (by omega) (by omega);simp only[go_sem,go_sem_proc,ak,E,H,nr,ve,bC,iZ,SB]
   refine dE [0,1,2,48] [] (λ((i,d,z):Nat×Int×List Int) tm mem=>i<=D u/\D z=D u/\er z/\z.drop i=w.drop i/\(0<=d/\d<=1)/\a0 (z.take i)+1048576^i*d=a0 (w.take i)+a0 (v.take i)/\tm 49=.I (.int .i64 (i:Nat))/\tm 10=.I (.int .i64 d)/\mem=a3 ec k g (aY ad (pre++z++post)))
    (λ(i,_)=>D u-i) (0,0,w) (by refine⟨fr _,hw,qH,rfl,by omega,by simp[a0],rfl,rfl,rfl⟩) ?_
   intro vs ms aV aR;simp only[go_sem,go_sem_proc,ak,E,H] at aV aR;subst aV aR;rintro⟨i,d,z⟩ tm _ J-⟨L,aQ,yF,wL,X,abt,EL,fI,rfl⟩;simp only[go_sem,go_sem_proc,bh] at J;obtain⟨ak,E,H,EM⟩:=J;rcases dQ (i<D u) with aq|ck
   ·have IP:i<D z:=by omega
    have wN:i<D w:=by omega
    have am6:z[i]=w[i]:=by
     have E:=hW IP;rw[wL,hW wN] at E;exact (vb E).1.symm
    have IQ:z.drop (i+1)=w.drop (i+1):=by
     have E:=hW IP;rw[wL,hW wN] at E;exact (vb E).2.symm
    have jb:=IJ (pre:=pre) (post:=post) IP;rw[am6] at jb;have Ae:=kT qH i wN;have sl:=kS w i wN;generalize w[i]=Af at *;have e8:IntKind.i64.wrap ((i:Int)+1)=((i+1:Nat):Int):=by rw[eA _];rfl
    have iY:IntKind.i64.wrap (d+Af)=d+Af:=wrap64 _ (by omega) (by omega);have hC:(D pre)+i+1<=(aY ad (pre++z++post)).length:=by rw[pP];simp;omega
    have gg:=λd=>abm (pre:=pre) (post:=post) IP d;have iZ:decide ((i:Int)<(D u:Int))=true:=dg
    have fin:∀bi:Int,0<=bi->bi<1048576->a0 (v.take (i+1))=a0 (v.take i)+1048576^i*bi ->
      ∃a6:Nat×Int×List Int,D u-a6.1<D u-i/\a6.1<=D u/\a6.2.2.length=D u/\er a6.2.2/\a6.2.2.drop a6.1=w.drop a6.1/\(0<=a6.2.1/\a6.2.1<=1)/\a0 (a6.2.2.take a6.1)+1048576^a6.1*a6.2.1=a0 (w.take a6.1)+a0 (v.take a6.1) /\
       M.I (Data.int .i64 ((i+1:Nat):Int))=M.I (Data.int .i64 (a6.1:Int))/\M.I (Data.int .i64 ((d+Af+bi)/1048576))=M.I (Data.int .i64 a6.2.1)/\a3 ec k g (aY ad (pre++z.set i ((d+Af+bi)%1048576)++post))=a3 ec k g (aY ad (pre++a6.2.2++post)):=by
     intro bi rz kq B5;refine⟨(i+1,(d+Af+bi)/1048576,z.set i ((d+Af+bi)%1048576)),by dsimp only;omega,by dsimp only;omega,by simp[aQ],yA yF i (by omega),?_,by dsimp only;omega,?_,rfl,rfl,rfl⟩
     ·dsimp only;rw[sj (by omega),IQ]
     ·dsimp only;rw[kS _ _ (by simpa using IP),B3,sl,B5,mM];simp only[yz];exact aa3 _ _ _ _ _ _ _ abt
    rcases dQ (i<D v) with qF|Sj
    ·have mQ:v[i]?=some v[i]:=bs qF;have tQ:=kT yE i qF;have Sz:=kS v i qF;generalize v[i]=bi at *;have kv:IntKind.i64.wrap (d+Af+bi)=d+Af+bi:=wrap64 _ (by omega) (by omega);have h5:decide ((i:Int)<(D v:Int))=true:=dg;simp only[go_sem,go_sem_proc,ak,E,H,EM,EL,fI,mQ,e8,iY,kv,h5,iZ,aq,hC,jb,gg,Ab,qD,nW,ad,cM,aj,a5,bh,show ¬ ((20:Int)<0) by omega]
     repeat' (first|refine av ?_ ?_|fail)<;>intro h<;>simp only[h,go_sem,go_sem_proc,ak,E,H,EM,EL,fI,mQ,e8,iY,kv,h5,iZ,aq,hC,jb,gg,Ab,qD,nW,ad,cM,aj,a5,bh,show ¬ ((20:Int)<0) by omega]
     exact fin bi tQ.1 tQ.2 Sz
    ·have h5:decide ((i:Int)<(D v:Int))=false:=c1;simp only[go_sem,go_sem_proc,ak,E,H,EM,EL,fI,e8,iY,h5,iZ,aq,hC,jb,gg,Ab,qD,nW,ad,cM,aj,a5,bh,show ¬ ((20:Int)<0) by omega]
     repeat' (first|refine av ?_ ?_|fail)<;>intro h<;>simp only[h,go_sem,go_sem_proc,ak,E,H,EM,EL,fI,e8,iY,h5,iZ,aq,hC,jb,gg,Ab,qD,nW,ad,cM,aj,a5,bh,show ¬ ((20:Int)<0) by omega]
     have:=fin 0 (by omega) (by omega) (by rw[dD (by omega),dD (by omega)];simp);simp only[tV] at this;exact this
   ·obtain rfl:i=D u:=by omega
    have iZ:decide ((D u:Int)<(D u:Int))=false:=c1;rw[dD (by omega),dD (by omega),dD (by omega),HY] at abt;have am7:=yo yF;have aBX:=ov yF;rw[aQ] at am7
    have SA:a0 u-q*V+V=a0 z:=by
     have e:a0 u-q*V+V-a0 z=1048576^(D u)*(d-c):=by rw[EE];omega
     generalize (1048576:Int)^(D u)=p at *;rcases wO (d-c) 0 with h|h|h
     ·have:p*(d-c)<=p*(-1):=yy (by omega) (by omega);omega
     ·rw[h,sH] at e;omega
     ·have:p*1<=p*(d-c):=yy (by omega) (by omega);omega
    have aw:Ac u V q=q-1:=by unfold Ac;rw[Z j3]
    have aC:Ad ⟨pre,u,post,V,q,k,g⟩=aY ad (pre++z++post):=by
     unfold Ad Mk;simp only;rw[Z j3,SA,<-aQ,<-abl yF]
    simp only[go_sem,go_sem_proc,ak,E,H,EM,EL,fI,iZ,aw,aC,Mm];repeat' (first|refine av ?_ ?_|fail)<;>intro h<;>simp only[h,go_sem,go_sem_proc,ak,E,H,EM,EL,fI,iZ,aw,aC,Mm]
theorem am8 {T V P wP EN v1 v2 top iy q r:Int}(qC:V=(v1*1048576+v2)*P+wP)(cE:T=(top*1048576+iy)*P+EN)(fP:0<P)(abu:0<=wP)(Mn:EN<P)(lR:0<=q)(am9:0<=V)
  (SC:T<1048576*V) (B9:q*v1+r=top) (G:q>=1048576\/q*v2>r*1048576+iy):T<q*V:=by
 rcases G with h|h
 ·have:=me h am9;omega
 ·have E:(top*1048576+iy+1)*P<=(q*(v1*1048576+v2))*P:=by
   refine me ?_ (by omega);rw[h2,<-h3];have:q*v1*1048576=(top-r)*1048576:=by rw[<-B9];congr 1;omega
   omega
  have H:q*V=(q*(v1*1048576+v2))*P+q*wP:=by rw[qC,h2,<-h3]
  have ab:0<=q*wP:=qG lR abu;rw[sE _ 1,nt] at E;omega
theorem abv {T V P wP EN v1 v2 top iy q r:Int}(qC:V=(v1*1048576+v2)*P+wP)(cE:T=(top*1048576+iy)*P+EN)(fP:0<P)(abu:0<=wP/\wP<P)(Mn:0<=EN)(lR:0<=q)(rB:q<1048576)(wi:524288<=v1)(wj:0<=v2/\v2<1048576)(Zs:0<=iy)
  (B9:q*v1+r=top) (G:r>=1048576\/q*v2<=r*1048576+iy):0<=T-q*V+V:=by
 have H:q*V=(q*(v1*1048576+v2))*P+q*wP:=by rw[qC,h2,<-h3]
 have ab:q*wP<=q*P:=yy (by omega) lR;have aM:q*P<=1048576*P:=me (by omega) (by omega);have bl:1048576*P<=(v1*1048576+v2)*P:=me (by omega) (by omega);have e:q*v1*1048576=(top-r)*1048576:=by rw[<-B9];congr 1;omega
 rcases G with h|h
 ·have bI:q*v2+q<=1048576*1048576:=by
   have bC:q*(v2+1)<=1048576*1048576:=EF (by omega) (by omega) (by omega) (by omega);rw[h2,tO] at bC;exact bC
  have bW:(q*(v1*1048576+v2)+q)*P<=(top*1048576+iy)*P:=by
   refine me ?_ (by omega);rw[h2,<-h3];omega
  rw[sE _ q] at bW;omega
 ·have bW:(q*(v1*1048576+v2))*P<=(top*1048576+iy)*P:=by
   refine me ?_ (by omega);rw[h2,<-h3];omega
  omega
theorem ana {T V q:Int}(qC:0<V)(E:T<(q+1)*V)(H:0<=T-q*V+V):(if T-q*V<0 then q-1 else q)=T/V/\(if T-q*V<0 then T-q*V+V else T-q*V)=T%V:=by
 have ab:(q+1)*V=q*V+V:=by rw[sE,nt]
 have aM:(q-1)*V=q*V-V:=by rw[abw,nt]
 have key:∀d r:Int,T=d*V+r->0<=r->r<V->d=T/V/\r=T%V:=by
  intro d r h ak bl
  constructor
  ·rw[h,wM,Int.add_mul_ediv_right _ _ (by omega),Ss ak bl];omega
  ·rw[h,wM,Int.add_mul_emod_self_right,St ak bl]
 split
 ·exact key (q-1) _ (by omega) (by omega) (by omega)
 ·exact key q _ (by omega) (by omega) (by omega)
theorem abx {v:List Int}{N:Nat}(h:(D v)=N+2):a0 v=(v[N+1]*1048576+v[N])*1048576^N+a0 (v.take N):=by
 have e:v=v.take (N+1+1):=by rw[dD (by omega)]
 conv=>lhs;rw[e]
 rw[kS v (N+1) (by omega),kS v N (by omega),mM,sE,mN (v[N]),Ag (v[N+1]),mN (v[N+1])];have:(1048576:Int)^N*1048576*v[N+1]=1048576^N*v[N+1]*1048576:=by rw[Ag]
 omega
theorem anb {v:List Int}{N:Nat}(h:(D v)=N+3):a0 v=((v[N+2]*1048576+v[N+1])*1048576+v[N])*1048576^N+a0 (v.take N):=by
 have e:v=v.take (N+1+1+1):=by rw[dD (by omega)]
 conv=>lhs;rw[e]
 rw[kS v (N+1+1) (by omega),kS v (N+1) (by omega),kS v N (by omega)];simp only[mM];generalize (1048576:Int)^N=p;rw[sE,sE,sE,Ag (v[N+2]*1048576),Ag (v[N+2]),mN (v[N+2]),Ag (v[N+1]),mN (v[N+1]),mN (v[N])];have E:p*1048576*v[N+1]=p*v[N+1]*1048576:=by rw[Ag]
 have H:p*1048576*1048576*v[N+1+1]=p*v[N+2]*1048576*1048576:=by rw[Ag,Ag p]
 omega
theorem anc {u:List Int}{i n:Nat}{V:Int}(X:er u)(au:i+n+1<=D u)(j0:a0 (u.drop (i+1))<V)(qC:V<1048576^n):
  ∃pre fD post,u=pre++fD++post/\D pre=i/\D fD=n+1/\er pre/\er fD/\er post/\a0 post=0/\∃dt,fD[0]?=some dt/\u.take (i+1)=pre++[dt]/\a0 fD=dt+1048576*a0 (u.drop (i+1))/\0<=a0 (u.drop (i+1))/\0<=dt/\dt<1048576:=by
 have e:u=u.take i++(u.drop i).take (n+1)++u.drop (i+n+1):=by
  rw[gN,sa,<-D9,zX,zX]
 have aby:=e ▸ X;rw[BL,BL] at aby;obtain⟨⟨d1,d2⟩,d3⟩:=aby;have aq:i<D u:=by omega
 have wL:=hW aq;have tW:((u.drop i).take (n+1)).length=n+1:=by simp;omega
 have abz:a0 (u.drop (i+1))=a0 ((u.drop (i+1)).take n)+1048576^n*a0 (u.drop (i+n+1)):=by
  have:=Ig (u.drop (i+1)) n;rw[pL,nQ (by omega),D9] at this;rw[this]
  congr 3
  rw[show i+1+n=i+n+1 by omega]
 have aB:=ov d3;have bJ:0<=a0 ((u.drop (i+1)).take n):=ov (λx O=>X x (IU (DW O)))
 have oy:a0 (u.drop (i+n+1))=0:=by
  rcases dQ (0<a0 (u.drop (i+n+1))) with h|h
  ·have:(1048576:Int)^n*1<=1048576^n*a0 (u.drop (i+n+1)):=yy (by omega) (Int.pow_nonneg (by omega));omega
  ·omega
 refine⟨_,_,_,e,by simp;omega,tW,d1,d2,d3,oy,u[i],?_,?_,?_,?_,(kT X i aq).1,(kT X i aq).2⟩
 ·rw[oV (by omega),uQ];simp[aq]
 ·rw[ks,bs aq];rfl
 ·rw[wL,Ed,ss,abz,oy];simp
 ·rw[abz,oy];simpa using bJ
theorem ane (l:List Int)(h:(D l)<=1000000):l5 157054 0 1 (D l) 8 1 [.I (.int .i64 0)] (some (0,((l.map ad).flatten.map M.I)))=some (.ref 157054 1 1 0 (D l+1),some (157054,1,aY ad (l++[0]))) :=
 mK hQ wF 157054 0 8 l 0 rfl (by omega) (by omega)
def Mo:=cy tP λ(x,y)=>cT ((aF x).length<=1000/\(aF y).length<=1000/\0<y) (.same (.cw [bL (x/y),bL (x%y)]))
@[go_sem] theorem abA (x:Nat)(y:Nat)(G:(aF x).length<=1000/\(aF y).length<=1000/\0<y):Mo [bL x,bL y]=some (.same (.cw [bL (x/y),bL (x%y)])):=(cI wK (x,y)).trans (cY G _)
theorem anf (T:bk)(fJ:T BT=aW IG)(fX:T wG=aW B2)(ky:T L2=aW Sr)(eg:T pO=ym yu tN)(jc:T Es=aW Mi)(kz:T Rk=zZ IM)(x:Nat)(y:Nat)(G:(aF x).length<=1000/\(aF y).length<=1000/\0<y):WP T RN (.same (.cw [bL (x/y),bL (x%y)])) [.I (bL x),.I (bL y)]:=by
 refine cC ?_;simp only[RN];obtain⟨O,ao,iC⟩:=G;have mI:(aF x).length<=1000000/\(aF y).length<=1000000:=by omega
 have hn:=Sh x y mI;have zD:(aF x).length<=1000000:=by omega
 by_cases mP:x<y
 ·have oz:hl x y = -1:=by unfold hl;rw[Z (by simpa using mP)]
  have eb:=amG (aF x) zD;rw[oz] at hn
  change B2 [bL x]=_ at eb
  simp only[go_sem,go_sem_proc,fJ,fX,ky,eg,jc,kz,hn,eb,show ((-1:Int)<0) by omega,decide_true]
  repeat' (first|refine av ?_ ?_|fail)<;>intro h<;>simp only[h,go_sem,go_sem_proc,fJ,fX,ky,eg,jc,kz,hn,eb,show ((-1:Int)<0) by omega,decide_true]
  rw[QP mP,Ia mP]
  try rfl
 ·have oz:decide (hl x y<0)=false:=by
   unfold hl;rw[aa (by simp;omega)]
   split<;>rfl
  have aBY:aF y≠[]:=by rw[Ne,yn];omega
  by_cases E:y<1048576
  ·have qE:=BN iC E;have ou:=abf x y ⟨by omega,by omega,by omega⟩
   have aU:=Mb [((x%y:Nat):Int)] (by simp);have aq:x%y<y:=nV _ iC;rw[gX] at ou
   have tS:fm [((x%y:Nat):Int)]=aF (x%y):=by
    generalize x%y=r at aq ⊢;rw[yp (by intro d X;rw[yG] at X;omega)];simp only[a0]
    congr 1
   rw[tS] at aU;have EO:bL y=.af [[.int .i64 y]]:=by unfold bL;rw[qE];rfl
   change yu [.af [[.int .i64 _]]]=_ at aU
   rw[EO] at hn;simp only[go_sem,go_sem_proc,fJ,fX,ky,eg,jc,kz,EO,hn,oz,ou,aU,show (((1:Nat):Int)==1)=true from rfl];repeat' (first|refine av ?_ ?_|fail)<;>intro h<;>simp only[h,go_sem,go_sem_proc,fJ,fX,ky,eg,jc,kz,EO,hn,oz,ou,aU,show (((1:Nat):Int)==1)=true from rfl]
   try rfl
  ·obtain⟨N,gH⟩:∃N,(aF y).length=N+2:=by
    have:=mt (gF (n:=y) (k:=1)).1 (by simpa using E);exact⟨(aF y).length-2,by omega⟩
   have qE:=mc y;have kx:(((aF y).length:Int)==1)=false:=by simp;omega
   have tW:IntKind.i64.wrap (((aF y).length:Int)-1)=((N+1:Nat):Int):=by rw[eA _];omega
   have iB:(aF y)[N+1]?=some (aF y)[N+1]:=bs (by omega);have abB:=kT qE (N+1) (by omega)
   have aBZ:(aF y)[N+1]≠0:=by
    intro h;have:=aaH y;rw[List.getLast?_eq_getElem?,gH] at this;exact this (by rw[show N+2-1=N+1 by omega,iB,h])
   have SD:=abx gH;rw[lf] at SD;have ang:=yo (yx qE N);have aB0:=ov (yx qE N);have aB1:=kT qE N (by omega);rw[hh,nQ (by omega)] at ang;generalize (aF y)[N+1]=dP at *;generalize (aF y)[N]=rn at *;generalize a0 ((aF y).take N)=SE at *;have SF:((aF y).map ad)[N+1]?=some [.int .i64 dP]:=by rw[a5,iB];rfl
   simp only[go_sem,go_sem_proc,fJ,fX,ky,eg,jc,kz,bL,hn,oz,kx,aj];have abC:=hn;unfold bL at abC;simp only[go_sem,go_sem_proc,fJ,fX,ky,eg,jc,kz,abC,oz,kx,aj];refine dE [0,1] [157054,157075] (λ(κ:Nat) tm mem=>dP*2^κ<1048576/\tm 8=.I (.int .i64 (2^κ))) (λκ=>20-κ) 0 (by refine⟨by omega,rfl⟩) ?_;intro vs ms aV aR;simp only[go_sem,go_sem_proc,fJ,fX,ky,eg,jc,kz,aj] at aV aR;subst aV aR;rintro κ tm mem J hm ⟨aB2,bW⟩;simp only[go_sem,go_sem_proc,fJ,fX,ky,eg,jc,kz,bh] at J hm;obtain⟨ak,ye⟩:=J;obtain⟨EP,nZ⟩:=hm;have aB3:(0:Int)<2^κ:=ER (by omega)
   have aB4:(2:Int)^κ<=dP*2^κ:=by
    have:1*(2:Int)^κ<=dP*2^κ:=me (by omega) (by omega);omega
   have hκ:κ<20:=by
    rcases hV κ 20 with h|h
    ·exact h
    ·have:(2:Int)^20<=2^κ:=by
      have:=wQ (n:=2) (by omega) h;have b2:=Int.ofNat_le.2 this;rwa [B8,B8] at b2
     omega
   have Mp:IntKind.i64.wrap (dP*2^κ)=dP*2^κ:=wrap64 _ (by omega) (by omega);have abD:IntKind.i64.wrap (2^κ*2)=2^κ*2:=wrap64 _ (by omega) (by omega);rcases dQ (dP*2^κ<524288) with aq|ck
   ·simp only[go_sem,go_sem_proc,fJ,fX,ky,eg,jc,kz,ak,ye,bW,tW,SF,Mp,abD,aq,EP,nZ,decide_true,cM,aj];repeat' (first|refine av ?_ ?_|fail)<;>intro h<;>simp only[h,go_sem,go_sem_proc,fJ,fX,ky,eg,jc,kz,ak,ye,bW,tW,SF,Mp,abD,aq,EP,nZ,decide_true,cM,aj]
    exact⟨κ+1,by omega,by rw[mM,<-h3];omega,by rw[mM]⟩
   ·-- the numbers, shifted
    have anh:(dP+1)*2^κ<=1048576:=by
     have e:(1048576:Int)=2^(20-κ)*2^κ:=by rw[<-abe,show 20-κ+κ=20 by omega];rfl
     have E:dP<2^(20-κ):=by
      rcases dQ (dP<2^(20-κ)) with h|h
      ·exact h
      ·have:(2:Int)^(20-κ)*2^κ<=dP*2^κ:=me (by omega) (by omega);omega
     rw[e];exact me (by omega) (by omega)
    generalize (2:Int)^κ=s at *;obtain⟨S,rfl⟩:∃S:Nat,s=S:=⟨s.toNat,by omega⟩
    have fP:(0:Int)<1048576^N:=ER (by omega);have Ca:0<S:=by omega
    have Sy:y*S<1048576^(N+2):=by
     have E:((y*S:Nat):Int)<1048576^(N+2):=by
      rw[abE,SD,mM,mM];generalize (1048576:Int)^N=p at *
      have aw:((dP*1048576+rn)*p+SE)*S<=((dP+1)*1048576*p)*S:=by
       refine me ?_ (by omega);have:(dP*1048576+rn+1)*p<=((dP+1)*1048576)*p:=me (by omega) (by omega);rw[sE _ 1] at this;omega
      have abF:((dP*1048576+rn)*p+SE)*S<((dP+1)*1048576*p)*S:=by
       refine Int.mul_lt_mul_of_pos_right ?_ (by omega);have:(dP*1048576+rn+1)*p<=((dP+1)*1048576)*p:=me (by omega) (by omega);rw[sE _ 1] at this;omega
      have aC:((dP+1)*1048576*p)*S=((dP+1)*S)*(p*1048576):=by
       rw[h3 (dP+1),h3,mN (1048576*p),<-h3,mN 1048576 p]
      have cx:((dP+1)*S)*(p*1048576)<=1048576*(p*1048576):=me anh (by omega);omega
     have H:((1048576^(N+2):Nat):Int)=1048576^(N+2):=by rw[B8];rfl
     omega
    have aB5:524288*(1048576^N*1048576)<=((y*S:Nat):Int):=by
     rw[abE,SD];generalize (1048576:Int)^N=p at *
     have aw:(dP*1048576)*p*S<=((dP*1048576+rn)*p+SE)*S:=by
      refine me ?_ (by omega);have:(dP*1048576)*p<=(dP*1048576+rn)*p:=me (by omega) (by omega);omega
     have aC:(dP*1048576)*p*S=(dP*S)*(p*1048576):=by
      rw[h3 dP,h3,mN (1048576*p),<-h3,mN 1048576 p]
     have cx:524288*(p*1048576)<=(dP*S)*(p*1048576):=me (by omega) (by omega);omega
    have Cb:(aF (y*S)).length=N+2:=by
     have E:=gF.2 Sy
     have H:=mt (gF (n:=y*S) (k:=N+1)).1 (by
      have H:((1048576^(N+1):Nat):Int)=1048576^N*1048576:=by rw[B8,mM];rfl
      omega)
     omega
    have aB6:1*x<=x*S:=by rw[sr];exact abG x Ca
    have aB7:(aF x).length<=(aF (x*S)).length:=by
     rw[gF];have:=gF.1 (bP (aF (x*S)).length);omega
    have aB8:y*S<=x*S:=rh S (by omega)
    have aB9:N+2<=(aF (x*S)).length:=by
     rw[<-Cb,gF];have:=gF.1 (bP (aF (x*S)).length);omega
    have aCa:(aF (x*S)).length<=1001:=by
     have:∀k,(aF x).length<=k->(aF (x*S)).length<=k+1:=by
      intro k J;rw[gF];have E:=gF.1 J;rw[u3];exact Nat.lt_of_lt_of_le (Nat.mul_lt_mul_of_pos_right E Ca) (abG _ (by omega))
     exact this 1000 O
    have hN:=So x S ⟨by omega,by rw[BN Ca (by omega)];simp⟩
    have SG:=So y S ⟨by omega,by rw[BN Ca (by omega)];simp⟩
    have ani:bL S=.af [[.int .i64 (S:Int)]]:=by unfold bL;rw[BN Ca (by omega)];rfl
    rw[ani] at hN SG;simp only[bL] at hN SG;have di:=ane (aF (x*S)) (by omega);have anj:((((aF (x*S)).length+1:Nat):Int)==((aF x).length:Int))=false:=by simp;omega
    have ank:=lf (y*S);have Mq:=mc (y*S);have anl:=lf (x*S);have abH:=mc (x*S);have anm:bL (y*S)=.af ((aF (y*S)).map ad):=rfl;generalize ann:aF (y*S)=v at *;generalize aCb:aF (x*S)=lk at *;have Mm:IntKind.i64.wrap (((D lk+1:Nat):Int)-(D v:Int))=((D lk-N-1:Nat):Int):=by rw[eA _];omega
    have rB:8*(D lk-N-1)<=140737488355328:=by omega
    have ES:(D lk)-N-1<=maxLen:=EC _ (by omega);have Ah:decide (dP*(S:Int)<524288)=false:=ob ck;simp only[go_sem,go_sem_proc,fJ,fX,ky,eg,jc,kz,ak,ye,bW,EP,nZ,tW,SF,Mp,Ah,hN,SG,di,anj,Mm,rB,ES,EB,cM,aj];have mg:(D lk)-N-1+(N+2)=D lk+1:=by omega
    generalize aCc:(D lk)-N-1=a8 at *;have fQ:(D lk)=a8+N+1:=by omega
    have tX:=abx Cb;rw[ank] at tX;have SH:=yo (yx Mq N);have SI:=ov (yx Mq N);rw[hh,nQ (by omega)] at SH;have ano:v[N+1]?=some v[N+1]:=bs (by omega);have Mr:v[N]?=some v[N]:=bs (by omega);have EI:=kT Mq (N+1) (by omega);have o2:=kT Mq N (by omega);generalize v[N+1]=v1 at *;generalize v[N]=v0 at *;generalize a0 (v.take N)=vlow at *
    have wi:524288<=v1:=by
     generalize (1048576:Int)^N=p at *;rcases dQ (524288<=v1) with h|h
     ·exact h
     ·have H:(v1*1048576+v0+1)*p<=(524288*1048576)*p:=me (by omega) (by omega);rw[sE _ 1,nt] at H;omega
    have anp:((y*S:Nat):Int)<1048576^(N+2):=by
     have H:((1048576^(N+2):Nat):Int)=1048576^(N+2):=by rw[B8];rfl
     omega
    have SJ:0<((y*S:Nat):Int):=by
     have:0<1048576^N*(1048576:Int):=Int.mul_pos fP (by omega);omega
    have anq:a0 ((lk++[0]).drop a8)<((y*S:Nat):Int):=by
     have e:(lk++[0]).drop a8=lk.drop a8++[0]:=by rw[List.drop_append_of_le_length (by omega)]
     rw[e,BM];have E:=yo (λd X=>abH d (IU X):er (lk.drop a8));rw[pL,show (D lk)-a8=N+1 by omega,mM] at E
     simp only[a0];omega
    have anr:((x*S:Nat):Int)=a0 ((lk++[0]).take a8)+1048576^a8*a0 ((lk++[0]).drop a8):=by
     have:=Ig (lk++[0]) a8;rw[BM,anl,nQ (by simp;omega)] at this
     simpa [a0] using this
    generalize abI:y*S=gP at *;generalize abJ:x*S=ET at *
    refine dE [8,9,10,11,12] [] (λ((j,u,ea):Nat×List Int×List Int) tm mem=>j<=a8/\D u=D lk+1/\er u/\D ea=a8/\er ea/\a0 (u.drop j)<gP/\(ET:Int)=a0 (u.take j)+1048576^j*(gP*a0 (ea.drop j)+a0 (u.drop j)) /\
      tm 13=.I (.int .i64 ((j:Nat)-1))/\mem 157054=some (1,aY ad u)/\mem 157075=some (0,aY ad ea)) (λ(j,_)=>j) (a8,lk++[0],eu a8 0)
     (by
      refine⟨bP _,by simp,BL.2 ⟨abH,by intro d X;rw[yG] at X;omega⟩,by simp,λd X=>by rw[EG] at X;omega,anq,?_,?_,rfl,rfl⟩
      ·rw[List.drop_of_length_le (by simp)];simp only[a0,sH,B6];exact anr
      ·simp only[eQ,reduceIte];rw[eA _]) ?_
    intro vs ms aV aR;simp only[go_sem,go_sem_proc,fJ,fX,ky,eg,jc,kz,ak,ye,bW] at aV aR;subst aV aR;rintro⟨j,u,ea⟩ tm mem J-⟨ai,yH,tT,Ms,SK,j0,yI,nr,EU,Mt⟩;simp only[go_sem,go_sem_proc,fJ,fX,ky,eg,jc,kz,bh] at J;obtain⟨bW,iL,fI,yw,hB⟩:=J;rcases j with _|j
    ·rw[nk,nk] at yI;rw[nk] at j0;simp only[oY,a0,Int.pow_zero,nt,B6] at yI;have aCd:=ov SK;have wR:=ov tT
     have SM:a0 ea=((x/y:Nat):Int)/\a0 u=((x%y*S:Nat):Int):=by
      have E:ET/gP=x/y:=by rw[<-abJ,<-abI];exact Nat.mul_div_mul_right x y Ca
      have H:ET%gP=x%y*S:=by rw[<-abJ,<-abI];exact Nat.mul_mod_mul_right S x y
      have ab:((ET/gP:Nat):Int)=a0 ea:=by rw[abg,yI,wM,abh _ _ (by omega),Ss wR j0];omega
      have aM:((ET%gP:Nat):Int)=a0 u:=by rw[abi,yI,wM,abj,St wR j0]
      rw[E] at ab;rw[H] at aM;exact⟨ab.symm,aM.symm⟩
     have SN:=Mb u (by omega);rw[yp tT,SM.2,gX] at SN;have SO:=Mb ea (by omega);rw[yp SK,SM.1,gX] at SO
     have hlen:(aF (x%y*S)).length<=100000:=by
      have:(aF (x%y*S)).length<=D u:=by
       have:=aaZ u;rw[yp tT,SM.2,gX] at this;exact this
      omega
     have ou:=abf (x%y*S) S ⟨hlen,by omega,by omega⟩
     rw[gX,Nat.mul_div_cancel _ Ca] at ou;simp only[bL] at ou;have fY:M.ref 157054 1 1 0 (D lk+1)=M.ref 157054 1 1 0 (D u):=by rw[yH]
     have ij:M.ref 157075 0 1 0 a8=M.ref 157075 0 1 0 (D ea):=by rw[Ms]
     rw[fY] at iL;rw[ij] at hB;simp only[go_sem,go_sem_proc,fJ,fX,ky,eg,jc,kz,bW,iL,fI,yw,hB,nr,EU,Mt,SN,SO,ou,mb hQ,bL,kR,lg,show ¬ ((0:Int)-1>=0) by omega,decide_false]
     repeat' (first|refine av ?_ ?_|fail)<;>intro h<;>simp only[h,go_sem,go_sem_proc,fJ,fX,ky,eg,jc,kz,bW,iL,fI,yw,hB,nr,EU,Mt,SN,SO,ou,mb hQ,bL,kR,lg,show ¬ ((0:Int)-1>=0) by omega,decide_false]
    ·obtain⟨pre,fD,post,e,Ai,abK,SP,qH,ans,ant,dt,Aj,ll,aCe,anu,aCf,aCg⟩:=anc (i:=j) (n:=N+2) tT (by omega) j0 anp;have sI:j<a8:=by omega
     rw[ll,BM,Ai] at yI;subst e;subst Ai;rw[Cb] at yw;have abL:((D pre+1:Nat):Int)-1=(D pre:Int):=by omega
     have lQ:IntKind.i64.wrap ((D pre:Int)+((N+2:Nat):Int))=((D pre+(N+2):Nat):Int):=by rw[eA _];omega
     have anv:IntKind.i64.wrap (((D pre+(N+2):Nat):Int)-1)=((D pre+(N+1):Nat):Int):=by rw[eA _];omega
     have Cc:IntKind.i64.wrap (((N+2:Nat):Int)-1)=((N+1:Nat):Int):=by rw[eA _];omega
     have Mu:IntKind.i64.wrap (((N+2:Nat):Int)-2)=(N:Int):=by rw[eA _];omega
     have Mv:IntKind.i64.wrap (((D pre+(N+2):Nat):Int)-2)=((D pre+N:Nat):Int):=by rw[eA _];omega
     have bK:(D pre)+(N+2)<D lk+1:=by omega
     have b0:(D pre)+(N+1)<D lk+1:=by omega
     have ho:(D pre)+N<D lk+1:=by omega
     have anw:(D pre)+(N+2)+1<=(aY ad (pre++fD++post)).length:=by rw[pP,yH];omega
     have anx:(D pre)+(N+1)+1<=(aY ad (pre++fD++post)).length:=by rw[pP,yH];omega
     have Mw:(D pre)+N+1<=(aY ad (pre++fD++post)).length:=by rw[pP,yH];omega
     have anz:=IJ (pre:=pre) (post:=post) (show N+2<(D fD) by omega);have Mx:=IJ (pre:=pre) (post:=post) (show N+1<(D fD) by omega);have oy:=IJ (pre:=pre) (post:=post) (show N<(D fD) by omega);have cE:=anb (N:=N) (by omega:(D fD)=N+3);have Mn:=yo (yx qH N);have abM:=ov (yx qH N);rw[hh,nQ (by omega)] at Mn;have mh:=kT qH (N+2) (by omega);have jM:=kT qH (N+1) (by omega);have z9:=kT qH N (by omega);generalize fD[N+2]=t2 at *;generalize fD[N+1]=t1 at *;generalize fD[N]=t0 at *;generalize a0 (fD.take N)=EN at *;have anA:IntKind.i64.wrap (t2*2^min (BO 20) 64)=t2*1048576:=by rw[show min (BO 20) 64=20 by decide];exact wrap64 _ (by omega) (by omega)
     have anB:bits .or .i64 (t2*1048576) t1=t2*1048576+t1:=Q0 t2 t1 mh.1 (by omega) jM;have anC:(v1=0)=False:=by simp;omega
     generalize aCh:t2*1048576+t1=top at *;have aCi:0<=top/\top<1099511627776:=by omega
     have tS:top.tdiv v1=top/v1:=yD (by omega);have Su:top.tmod v1=top%v1:=Aa (by omega);have lR:0<=top/v1:=B7 (by omega) (by omega);have rB:top/v1<=top:=Int.ediv_le_self _ (by omega);have anD:IntKind.i64.wrap (top/v1)=top/v1:=wrap64 _ (by omega) (by omega);have IV:(v.map ad)[N+1]?=some [.int .i64 v1]:=by rw[a5,ano];rfl
     have My:(v.map ad)[N]?=some [.int .i64 v0]:=by rw[a5,Mr];rfl
     have SC:a0 fD<1048576*gP:=by omega
     have anE:a0 fD<(top/v1+1)*gP:=by
      have aw:top+1<=(top/v1+1)*v1:=by
       have E:=z8 top v1;have H:=Sv top (show 0<v1 by omega);rw[sE,nt,mN (top/v1)];omega
      have aC:(top+1)*1048576*1048576^N<=(top/v1+1)*v1*1048576*1048576^N:=me (me aw (by omega)) (by omega)
      have cx:(top/v1+1)*v1*1048576*1048576^N<=(top/v1+1)*gP:=by
       rw[h3,h3];refine yy ?_ (by omega);rw[tX,<-h3];have:v1*1048576*1048576^N<=(v1*1048576+v0)*1048576^N:=me (by omega) (by omega);omega
      have dk:(top*1048576+t0+1)*1048576^N<=(top+1)*1048576*1048576^N:=me (by omega) (by omega);rw[sE _ 1,nt] at dk;omega
     simp only[go_sem,go_sem_proc,fJ,fX,ky,eg,jc,kz,bW,iL,fI,yw,hB,nr,EU,Mt,abL,lQ,anv,Cc,bK,b0,anw,anx,anz,Mx,anA,anB,anC,tS,Su,anD,IV,show (D pre:Int)>=0 by omega,decide_true,cM,aj,show ¬ ((20:Int)<0) by omega]
     have SQ:∀(mem:Mem),mem 157054=some (1,aY ad (pre++fD++post))->∀q:Int,0<=q->q<1048576->a0 fD<(q+1)*gP->0<=a0 fD-q*gP+gP ->
       IM [.ref 157054 1 1 (D pre) (N+3),.I (.af (v.map ad)),.I (.int .i64 q)] mem=some (.I (.int .i64 (a0 fD/gP)),a3 mem 157054 1 (aY ad (pre++pad (N+3) (a0 fD%gP).toNat++post))):=by
      intro mem EU q lR anF wS lh;have EO:=ana SJ wS lh;have mL:=am1 ⟨pre,fD,post,gP,q,157054,1⟩ mem ⟨EU,qH,by show (aF gP).length<=D fD;rw[ann];omega,lR,anF,lh,by show (D pre)+D fD<=100000;omega⟩
      simp only[Ac,Ad,Mk] at mL;rw[EO.1,EO.2,abK,anm] at mL;exact mL
     have anG:0<=a0 fD/gP:=B7 (ov qH) (by omega);have anH:a0 fD/gP<1048576:=abk SJ SC;have aCj:=EJ (a0 fD) (show (gP:Int)≠0 by omega);have anI:=Sv (a0 fD) SJ
     have anJ:a0 (pad (N+3) (a0 fD%gP).toNat)=a0 fD%gP:=by
      rw[amY]
      ·omega
      ·have H:((1048576^(N+2):Nat):Int)=1048576^(N+2):=by rw[B8];rfl
       have ab:1048576^(N+2)<=1048576^(N+3):=wQ (by omega) (by omega);omega
     have ig:∃a6:Nat×List Int×List Int,a6.1<D pre+1/\a6.1<=a8/\a6.2.1.length=D lk+1/\er a6.2.1/\a6.2.2.length=a8/\er a6.2.2/\a0 (a6.2.1.drop a6.1)<gP/\(ET:Int)=a0 (a6.2.1.take a6.1)+1048576^a6.1*(gP*a0 (a6.2.2.drop a6.1)+a0 (a6.2.1.drop a6.1)) /\
       M.I (Data.int .i64 ((D pre:Int)-1))=M.I (Data.int .i64 ((a6.1:Int)-1))/\some (1,aY ad (pre++pad (N+3) (a0 fD%gP).toNat++post))=some (1,aY ad a6.2.1)/\some (0,aY ad (ea.set (D pre) (a0 fD/gP)))=some (0,aY ad a6.2.2):=by
      have anK:(D ea)=a8:=Ms;have Ms:(D pre)<D ea:=by omega
      have EV:(pre++pad (N+3) (a0 fD%gP).toNat++post).drop (D pre)=pad (N+3) (a0 fD%gP).toNat++post:=by rw[gN,QN]
      have anL:(pre++pad (N+3) (a0 fD%gP).toNat++post).take (D pre)=pre:=by rw[gN,QM]
      have abN:a0 (pad (N+3) (a0 fD%gP).toNat++post)=a0 fD%gP:=by rw[BM,ant,anJ];omega
      refine⟨(D pre,pre++pad (N+3) (a0 fD%gP).toNat++post,ea.set (D pre) (a0 fD/gP)),by dsimp only;omega,by dsimp only;omega,?_,BL.2 ⟨BL.2 ⟨SP,amX _ _⟩,ans⟩,by rw[ja];exact anK,yA SK _ ⟨anG,anH⟩,?_,?_,rfl,rfl,rfl⟩
      ·rw[<-yH];simp[amW,abK]
      ·dsimp only;rw[EV,abN];exact anI
      ·dsimp only;rw[EV,abN,anL,hW (by simpa using Ms),ss];simp only[yz];rw[sj (by omega)];have E:=z8 (a0 fD) gP;have H:(gP:Int)*(a0 fD/gP+1048576*a0 (ea.drop (D pre+1)))=gP*(a0 fD/gP)+1048576*(gP*a0 (ea.drop (D pre+1))):=by rw[h2,Sw]
       rw[H,yI,mM,h3];simp only[a0,sH,tV];rw[Int.add_assoc,<-h2]
       congr 2
       rw[h2];omega
     have ln:(D pre)+(N+2)+1-D pre=N+3:=by omega
     have o3:IntKind.i64.wrap (((D pre+(N+2):Nat):Int)+1)=((D pre+(N+2)+1:Nat):Int):=by rw[eA _];rfl
     have Mz:(D pre)<=D pre+(N+2)+1/\D pre+(N+2)+1<=D lk+1:=by omega
     have MA:(D pre)<a8:=sI;have MB:=λd=>wJ ea (D pre) d (by omega);have MC:(D pre)+1<=(aY ad ea).length:=by rw[pP];omega
     have Ae:IntKind.i64.wrap ((D pre:Int)-1)=(D pre:Int)-1:=wrap64 _ (by omega) (by omega)
     refine dE [8,9,10,11,12,13] [157054,157075] (λ((q,r):Int×Int) tm mem=>0<=q/\0<=r/\q*v1+r=top/\a0 fD<(q+1)*gP/\tm 15=.I (.int .i64 q)/\tm 16=.I (.int .i64 r)) (λ(q,_)=>q.toNat) (top/v1,top%v1)
      (by
       refine⟨lR,EJ _ (by omega),?_,anE,rfl,rfl⟩;have:=z8 top v1;rw[mN (top/v1)];omega) ?_
     intro vs ms aV aR;simp only[go_sem,go_sem_proc,fJ,fX,ky,eg,jc,kz,bW,iL,fI,yw,hB,nr,EU,Mt,abL] at aV aR;subst aV aR;rintro⟨q,r⟩ tm mem' J hm ⟨yJ,anM,B9,wS,tY,rC⟩;simp only[go_sem,go_sem_proc,fJ,fX,ky,eg,jc,kz,bh] at J hm;obtain⟨hE,mi,nu,lT,lU,vf⟩:=J;obtain⟨wT,Ak⟩:=hm;have aCk:0<=q*v1:=qG yJ (by omega);have aCl:q*524288<=q*v1:=yy wi yJ;have aCm:0<=q*v0:=qG yJ o2.1;have aCn:q*v0<=q*1048576:=yy (by omega) yJ;have wU:IntKind.i64.wrap (q*v0)=q*v0:=wrap64 _ (by omega) (by omega);have MD:IntKind.i64.wrap (q-1)=q-1:=wrap64 _ (by omega) (by omega);have ME:IntKind.i64.wrap (r+v1)=r+v1:=wrap64 _ (by omega) (by omega);have MF:IntKind.i64.wrap (r*2^min (BO 20) 64)=r*1048576:=by rw[show min (BO 20) 64=20 by decide];exact wrap64 _ (by omega) (by omega)
     have MG:bits .or .i64 (r*1048576) t0=r*1048576+t0:=Q0 r t0 anM (by omega) z9
     have LJ:(q>=1048576\/q*v0>r*1048576+t0)->∃a6:Int×Int,a6.1.toNat<q.toNat/\0<=a6.1/\0<=a6.2/\a6.1*v1+a6.2=top/\a0 fD<(a6.1+1)*gP/\M.I (Data.int .i64 (q-1))=M.I (Data.int .i64 a6.1)/\M.I (Data.int .i64 (r+v1))=M.I (Data.int .i64 a6.2):=by
      intro G;have E:=am8 tX cE fP SI Mn yJ (by omega) SC B9 G
      have SR:0<q:=by
       rcases dQ (0<q) with h|h
       ·exact h
       ·obtain rfl:q=0:=by omega
        have:=ov qH;omega
      exact⟨(q-1,r+v1),by dsimp only;omega,by dsimp only;omega,by dsimp only;omega,by dsimp only;rw[abw];omega,by dsimp only;rw[Int.sub_add_cancel];exact E,rfl,rfl⟩
     by_cases gy:q>=1048576
     ·simp only[go_sem,go_sem_proc,fJ,fX,ky,eg,jc,kz,hE,mi,nu,lT,lU,vf,wT,Ak,tY,rC,gy,MD,ME,Cc,IV,decide_true,cM,aj];repeat' (first|refine av ?_ ?_|fail)<;>intro h<;>simp only[h,go_sem,go_sem_proc,fJ,fX,ky,eg,jc,kz,hE,mi,nu,lT,lU,vf,wT,Ak,tY,rC,gy,MD,ME,Cc,IV,decide_true,cM,aj]
      exact LJ (.inl gy)
     ·by_cases ts:r<1048576
      ·by_cases o4:q*v0>r*1048576+t0
       ·simp only[go_sem,go_sem_proc,fJ,fX,ky,eg,jc,kz,hE,mi,nu,lT,lU,vf,wT,Ak,tY,rC,gy,ts,o4,wU,MD,ME,MF,MG,lQ,Cc,Mu,Mv,ho,Mw,oy,IV,My,decide_true,decide_false,cM,aj,show ¬ ((20:Int)<0) by omega]
        repeat' (first|refine av ?_ ?_|fail)<;>intro h<;>simp only[h,go_sem,go_sem_proc,fJ,fX,ky,eg,jc,kz,hE,mi,nu,lT,lU,vf,wT,Ak,tY,rC,gy,ts,o4,wU,MD,ME,MF,MG,lQ,Cc,Mu,Mv,ho,Mw,oy,IV,My,decide_true,decide_false,cM,aj,show ¬ ((20:Int)<0) by omega]
        exact LJ (.inr o4)
       ·have mL:=SQ mem' wT q yJ (by omega) wS (abv tX cE fP ⟨SI,SH⟩ abM yJ (by omega) wi o2 z9.1 B9 (.inr (by omega)));simp only[go_sem,go_sem_proc,fJ,fX,ky,eg,jc,kz,hE,mi,nu,lT,lU,vf,wT,Ak,tY,rC,gy,ts,o4,wU,MF,MG,lQ,o3,Cc,Mu,Mv,ho,Mw,oy,My,ln,Mz,mL,MA,MC,MB,Ae,Cb,decide_true,decide_false,cM,aj,show ¬ ((20:Int)<0) by omega]
        repeat' (first|refine av ?_ ?_|fail)<;>intro h<;>simp only[h,go_sem,go_sem_proc,fJ,fX,ky,eg,jc,kz,hE,mi,nu,lT,lU,vf,wT,Ak,tY,rC,gy,ts,o4,wU,MF,MG,lQ,o3,Cc,Mu,Mv,ho,Mw,oy,My,ln,Mz,mL,MA,MC,MB,Ae,Cb,decide_true,decide_false,cM,aj,show ¬ ((20:Int)<0) by omega]
        exact ig
      ·have mL:=SQ mem' wT q yJ (by omega) wS (abv tX cE fP ⟨SI,SH⟩ abM yJ (by omega) wi o2 z9.1 B9 (.inl (by omega)));simp only[go_sem,go_sem_proc,fJ,fX,ky,eg,jc,kz,hE,mi,nu,lT,lU,vf,wT,Ak,tY,rC,gy,ts,lQ,o3,ln,Mz,mL,MA,MC,MB,Ae,Cb,decide_true,decide_false,cM,aj];repeat' (first|refine av ?_ ?_|fail)<;>intro h<;>simp only[h,go_sem,go_sem_proc,fJ,fX,ky,eg,jc,kz,hE,mi,nu,lT,lU,vf,wT,Ak,tY,rC,gy,ts,lQ,o3,ln,Mz,mL,MA,MC,MB,Ae,Cb,decide_true,decide_false,cM,aj]
       exact ig
def dI:Nat:=1048576^60
def bE (z:Int):Raw:=(z.sign,aF z.natAbs)
def h6 (a:Raw):Int:=a.1*a0 a.2
theorem fs (z:Int):h6 (bE z)=z:=by
 unfold h6 bE;rw[lf];exact SS z
theorem IW (d:Int):np d=true↔0<=d/\d<1048576:=by
 unfold np;simp;omega
theorem ju (a:Raw):de a=true↔∃z:Int,z.natAbs<dI/\a=bE z:=by
 obtain⟨s,l⟩:=a;unfold de dI;rw[e3,oj]
 constructor
 ·rintro⟨E,H⟩;have X:er l:=λd X=>(IW d).1 (E d X)
  split at H
  ·rename_i h;have au:l=[]:=sf (by simpa using h);subst au;have Q:s=0:=by simpa using H
   subst Q;exact⟨0,by simp,rfl⟩
  ·rename_i h;simp at H;obtain⟨⟨Q,hlen⟩,SU⟩:=H;have G:=canon X (by simpa using SU);have aI:=ov X
   have aCo:a0 l≠0:=by
    intro ak;rw[ak] at G;rw[G] at h;simp[rr] at h
   refine⟨s*a0 l,?_,?_⟩
   ·have:(s*a0 l).natAbs=(a0 l).toNat:=by rw[qI];rcases Q with rfl|rfl<;>simp<;>omega
    rw[this,<-gF,<-G];exact hlen
   ·unfold bE;have:(s*a0 l).natAbs=(a0 l).toNat:=by rw[qI];rcases Q with rfl|rfl<;>simp<;>omega
    rw[this,<-G]
    congr 1
    rcases Q with rfl|rfl
    ·rw[nt,jd (by omega)]
    ·rw[Cd,nt,Ce,jd (by omega)]
 ·rintro⟨z,aQ,h⟩
  cases h;refine⟨λd X=>(IW d).2 (mc _ d X),?_⟩
  by_cases ak:z=0
  ·subst ak;rfl
  ·have aG:aF z.natAbs≠[]:=by rw[Ne,yn];omega
   rw[aa (by simp;exact aG)];have au:=gF.2 aQ;have kr:=aaH z.natAbs;simp only[e3,Bool.or_eq_true,beq_iff_eq,decide_eq_true_eq,bne_iff_ne,ne_eq];refine⟨⟨?_,au⟩,kr⟩;rcases wO z 0 with h|h|h
   ·exact .inr (pQ h)
   ·exact absurd h ak
   ·exact .inl (jd h)
theorem kA {z:Int}(h:z.natAbs<dI):de (bE z)=true:=(ju _).2 ⟨z,h,rfl⟩
def EW (c:Raw):Raw×Int:=if decide ((c.2.length:Int)>60)=true then ((0,[]),6) else (c,0)
def rD (z:Int):Raw×Int:=if z.natAbs<dI then (bE z,0) else ((0,[]),6)
def ft (x:Raw×Int):Data:=.cw [.agg (cJ x.1),.int .i64 x.2]
theorem anN (s:Int)(n:Nat):jL s (aF n)=if n=0 then (0,[]) else (s,aF n):=by
 unfold jL;rw[aaG]
 by_cases h:n=0
 ·subst h;rfl
 ·have:aF n≠[]:=by rw[Ne,yn];exact h
  rw[aa h,aa (by simp;exact this)]
theorem o5 {s:Int}{n:Nat}{z:Int}(h:z.natAbs=n)(Q:n≠0->s=z.sign):jL s (aF n)=bE z:=by
 rw[anN];subst h
 by_cases ak:z.natAbs=0
 ·obtain rfl:z=0:=by omega
  rfl
 ·rw[aa ak,Q ak]
  rfl
theorem Al (z:Int):EW (bE z)=rD z:=by
 unfold EW rD bE dI;have:=gF (n:=z.natAbs) (k:=60)
 by_cases h:z.natAbs<1048576^60
 ·have:=this.2 h;rw[aa (by simp;omega),Z h]
 ·have:=mt this.1 h;rw[Z (by simp;omega),aa h]
abbrev SV:Bool×Int×(List Int)->List Data:=λ(r,s,l)=>[.bool r,.agg [.int .i64 s,.af (l.map ad)]]
def IX:=cy SV λ(r,s,l)=>some (.same (ft (if r=true then EW (s,l) else ((0,[]),1))))
theorem anO:∀a b,SV a=SV b->a=b:=by
  rintro⟨fb,s1,eB⟩ ⟨ew,s2,al⟩ h;simp only[bh,Data.bool.injEq,Data.agg.injEq,Data.int.injEq,Data.af.injEq] at h;exact eS h.1 (eS h.2.1.1.2 (map_inj g7 _ _ h.2.1.2.1))
@[go_sem] theorem EX (r:Bool)(s:Int)(l:List Int):IX [.bool r,.agg [.int .i64 s,.af (l.map ad)]]=some (.same (ft (if r=true then EW (s,l) else ((0,[]),1)))):=cI anO (r,s,l)
theorem anP (T:bk)  (r:Bool) (s:Int) (l:List Int):WP T RM (.same (ft (if r=true then EW (s,l) else ((0,[]),1)))) [.I (.bool r),.I (.agg [.int .i64 s,.af (l.map ad)])]:=by
 refine cC ?_;simp only[RM]
 cases r
 ·refine a9 ?_;repeat' (intro h<;>simp only[h,go_sem,go_sem_proc,aj]<;>try refine av ?_ ?_)
  rfl
 ·refine a9 ?_;repeat' (intro h<;>simp only[h,go_sem,go_sem_proc,aj]<;>try refine av ?_ ?_)
  all_goals (simp only[ft,cJ,EW];simp only[cl, *,reduceIte,ca,cv,tD,yj,nT,yk,tE,hP,hy,fC,kh,beq_self_eq_true,bne])
def jv (a:Raw):Raw:=if de a=true then bE (-h6 a) else (0,[])
theorem abO (z:Int):jL (-z.sign) (aF z.natAbs)=bE (-z):=o5 (by omega) λ_=>by rw[Ce]
def MH:=cy z6 λ(s,l)=>cT (D l<=1000000) (.same (.agg (cJ (jv (s,l)))))
@[go_sem] theorem aCp (s:Int)(l:List Int)(G:(D l)<=1000000):MH [.agg [.int .i64 s,.af (l.map ad)]]=some (.same (.agg (cJ (jv (s,l))))):=(cI EA (s,l)).trans (cY G _)
theorem anQ (T:bk)(dm:T kt=aW u6)(fX:T wG=aW B2)(fe:T ow=aW z7)(s:Int)(l:List Int)(G:(D l)<=1000000):WP T RJ (.same (.agg (cJ (jv (s,l))))) [.I (.agg [.int .i64 s,.af (l.map ad)])]:=by
 refine cC ?_;simp only[RJ]
 by_cases Y:de (s,l)=true
 ·obtain⟨z,aQ,e⟩:=(ju _).1 Y;have aw:jv (s,l)=bE (-z):=by unfold jv;rw[Z Y,e,fs]
  cases e
  have hw:IntKind.i64.wrap (0-z.sign) = -z.sign:=by
   have:=abP z;rw[eA _];omega
  rw[aw];refine a9 ?_;repeat' (intro h<;>simp only[h,go_sem,go_sem_proc,dm,fX,fe,Y,G,hw,abO,cJ]<;>try refine av ?_ ?_)
 ·have Y:de (s,l)=false:=by simpa using Y
  have aw:jv (s,l)=(0,[]):=by unfold jv;rw[Y];rfl
  rw[aw];refine a9 ?_;repeat' (intro h<;>simp only[h,go_sem,go_sem_proc,dm,fX,fe,Y,G,cJ,cl]<;>try refine av ?_ ?_)
theorem mS (a:Raw):(a.1,a.2)=a:=rfl
def mulR (a b:Raw):Raw×Int:=if (de a&&de b)=true then rD (h6 a*h6 b) else ((0,[]),1)
theorem Am {x y:Int}(O:x.natAbs<dI)(ao:y.natAbs<dI):mulR (bE x) (bE y)=rD (x*y):=by
 unfold mulR;rw[kA O,kA ao,fs,fs]
 rfl
theorem qJ {z:Int}(h:z.natAbs<dI):(aF z.natAbs).length<=60:=gF.2 h
theorem qK (z:Int):-1<=z.sign/\z.sign<=1:=by
 have:=abP z;omega
abbrev tZ:Int×(List Int)×Int×(List Int)->List Data:=λ(s,l,s2,al)=>[.agg [.int .i64 s,.af (l.map ad)],.agg [.int .i64 s2,.af (al.map ad)]]
def EY:=cy tZ λ(s,l,s2,al)=>cT (D l<=1000000/\D al<=1000000) (.same (ft (mulR (s,l) (s2,al))))
theorem wV:∀a b,tZ a=tZ b->a=b:=by
  rintro⟨s1,eB,EZ,E0⟩ ⟨s2,al,E1,E2⟩ h;simp only[bh,Data.agg.injEq,Data.int.injEq,Data.af.injEq] at h;exact eS h.1.1.2 (eS (map_inj g7 _ _ h.1.2.1) (eS h.2.1.1.2 (map_inj g7 _ _ h.2.1.2.1)))
@[go_sem] theorem aCq (s:Int)(l:List Int)(s2:Int)(al:List Int)(G:(D l)<=1000000/\D al<=1000000):EY [.agg [.int .i64 s,.af (l.map ad)],.agg [.int .i64 s2,.af (al.map ad)]]=some (.same (ft (mulR (s,l) (s2,al)))):=(cI wV (s,l,s2,al)).trans (cY G _)
theorem anR (T:bk)(dm:T kt=aW u6)(jc:T Es=aW Mi)(fe:T ow=aW z7)(mj:T tJ=aW IX)(s:Int)(l:List Int)(s2:Int)(al:List Int)(G:(D l)<=1000000/\D al<=1000000):WP T RH (.same (ft (mulR (s,l) (s2,al)))) [.I (.agg [.int .i64 s,.af (l.map ad)]),.I (.agg [.int .i64 s2,.af (al.map ad)])]:=by
 refine cC ?_;simp only[RH];obtain⟨bK,b0⟩:=G
 by_cases Y:de (s,l)=true
 ·by_cases bw:de (s2,al)=true
  ·obtain⟨x,O,e⟩:=(ju _).1 Y;obtain⟨y,ao,aC⟩:=(ju _).1 bw;have hm:mulR (s,l) (s2,al)=rD (x*y):=by rw[e,aC];exact Am O ao
   rw[hm];clear hm
   cases e
   cases aC;have E:=qK x;have H:=qK y;have aB:x.sign*y.sign=(x*y).sign:=(pR x y).symm;have ab:=qK (x*y);have hw:IntKind.i64.wrap (x.sign*y.sign)=(x*y).sign:=by rw[aB];exact wrap64 _ (by omega) (by omega)
   have hmul:=So x.natAbs y.natAbs ⟨eF (qJ O) (by omega),eF (qJ ao) (by omega)⟩;simp only[bL] at hmul
   have hlen:(aF (x.natAbs*y.natAbs)).length<=1000000:=by
    refine eF ((gF (k:=120)).2 ?_) (by omega);have:(1048576^120:Nat)=dI*dI:=by unfold dI;rw[<-Nat.pow_add]
    rw[this];exact Nat.mul_lt_mul'' O ao
   have Q:jL (x*y).sign (aF (x.natAbs*y.natAbs))=bE (x*y):=o5 (qI x y) λ_=>rfl;refine a9 ?_;repeat' (intro h<;>simp only[h,go_sem,go_sem_proc,dm,jc,fe,mj,Y,bw,bK,b0,hw,hmul,hlen,Q,Al,cJ,ft,mS]<;>try refine av ?_ ?_)
  ·have bw:de (s2,al)=false:=by simpa using bw
   have hm:mulR (s,l) (s2,al)=((0,[]),1):=by unfold mulR;rw[bw,hy];rfl
   rw[hm];have n0:=EX false 0 [];simp only[cl] at n0;refine a9 ?_;repeat' (intro h<;>simp only[h,go_sem,go_sem_proc,dm,jc,fe,mj,Y,bw,bK,b0,n0,cJ,ft,cl]<;>try refine av ?_ ?_)
 ·have Y:de (s,l)=false:=by simpa using Y
  have hm:mulR (s,l) (s2,al)=((0,[]),1):=by unfold mulR;rw[Y,fC];rfl
  rw[hm];have n0:=EX false 0 [];simp only[cl] at n0;refine a9 ?_;repeat' (intro h<;>simp only[h,go_sem,go_sem_proc,dm,jc,fe,mj,Y,bK,b0,n0,cJ,ft,cl]<;>try refine av ?_ ?_)
def rE (a b:Raw):Raw×Int:=if (de a&&de b)=true then rD (h6 a+h6 b) else ((0,[]),1)
theorem abQ {x y:Int}(O:x.natAbs<dI)(ao:y.natAbs<dI):rE (bE x) (bE y)=rD (x+y):=by
 unfold rE;rw[kA O,kA ao,fs,fs]
 rfl
theorem MI (a b:Nat):(aF (a-b)).length<=(aF a).length:=by
 rw[gF];exact sD (Nat.sub_le a b) (gF.1 (bP _))
def SW:=cy tZ λ(s,l,s2,al)=>cT (D l<=1000000/\D al<=1000000) (.same (ft (rE (s,l) (s2,al))))
@[go_sem] theorem aCr (s:Int)(l:List Int)(s2:Int)(al:List Int)(G:(D l)<=1000000/\D al<=1000000):SW [.agg [.int .i64 s,.af (l.map ad)],.agg [.int .i64 s2,.af (al.map ad)]]=some (.same (ft (rE (s,l) (s2,al)))):=(cI wV (s,l,s2,al)).trans (cY G _)
theorem anS (T:bk)(dm:T kt=aW u6)(wW:T Rl=aW Se)(lV:T Il=aW Mg)(lW:T Et=aW Mh)(fJ:T BT=aW IG)(fe:T ow=aW z7)(mj:T tJ=aW IX)(s:Int)(l:List Int)(s2:Int)(al:List Int)(G:(D l)<=1000000/\D al<=1000000):WP T RQ (.same (ft (rE (s,l) (s2,al)))) [.I (.agg [.int .i64 s,.af (l.map ad)]),.I (.agg [.int .i64 s2,.af (al.map ad)])]:=by
 refine cC ?_;simp only[RQ];obtain⟨bK,b0⟩:=G
 by_cases Y:de (s,l)=true
 ·by_cases bw:de (s2,al)=true
  ·obtain⟨x,O,e⟩:=(ju _).1 Y;obtain⟨y,ao,aC⟩:=(ju _).1 bw;have hm:rE (s,l) (s2,al)=rD (x+y):=by rw[e,aC];exact abQ O ao
   rw[hm];clear hm
   cases e
   cases aC;have E:=qK x;have H:=qK y;have nv:=qJ O;have kx:=qJ ao;have An:=SS x;have aCs:=SS y
   have Ao:(x.sign=1/\0<x)\/(x.sign=0/\x=0)\/(x.sign = -1/\x<0):=by
    rcases wO x 0 with h|h|h
    ·exact .inr (.inr ⟨pQ h,h⟩)
    ·exact .inr (.inl ⟨by rw[h];rfl,h⟩)
    ·exact .inl ⟨jd h,h⟩
   have ty:(y.sign=1/\0<y)\/(y.sign=0/\y=0)\/(y.sign = -1/\y<0):=by
    rcases wO y 0 with h|h|h
    ·exact .inr (.inr ⟨pQ h,h⟩)
    ·exact .inr (.inl ⟨by rw[h];rfl,h⟩)
    ·exact .inl ⟨jd h,h⟩
   have n1:=aa4 x.natAbs y.natAbs ⟨by omega,by omega⟩
   simp only[bL] at n1
   have hlen:(aF (x.natAbs+y.natAbs)).length<=1000000:=by
    refine eF ((gF (k:=61)).2 ?_) (by omega);have:(1048576^61:Nat)=dI*1048576:=by unfold dI;rw[<-u3]
    omega
   have vd:=amE [x.sign,y.sign] (by simp);simp only[e5,cl,ad] at vd;have gA:=Sh x.natAbs y.natAbs ⟨by omega,by omega⟩
   simp only[bL] at gA
   by_cases aB:x.sign*y.sign>=0
   ·have hw:IntKind.i64.wrap (x.sign*y.sign)=x.sign*y.sign:=by
     rcases Ao with ⟨e,_⟩|⟨e,_⟩|⟨e,_⟩<;>rw[e]<;>exact wrap64 _ (by omega) (by omega)
    have Q:jL (yv [x.sign,y.sign]) (aF (x.natAbs+y.natAbs))=bE (x+y):=by
     refine o5 ?_ ?_
     ·rcases Ao with ⟨e,_⟩|⟨e,_⟩|⟨e,_⟩<;>rcases ty with ⟨e',_⟩|⟨e',_⟩|⟨e',_⟩<;>rw[e,e'] at aB<;>omega
     ·intro aG;rcases Ao with ⟨e,_⟩|⟨e,_⟩|⟨e,_⟩<;>rcases ty with ⟨e',_⟩|⟨e',_⟩|⟨e',_⟩<;>rw[e,e'] at aB ⊢
      ·exact (jd (by omega)).symm
      ·exact (jd (by omega)).symm
      ·omega
      ·exact (jd (by omega)).symm
      ·omega
      ·exact (pQ (by omega)).symm
      ·omega
      ·exact (pQ (by omega)).symm
      ·exact (pQ (by omega)).symm
    simp only[go_sem,go_sem_proc,dm,wW,lV,lW,fJ,fe,mj,Y,bw,bK,b0,hw,aB,decide_true,vd,n1,hlen,Q,Al,cJ,ft,mS];repeat' (first|refine av ?_ ?_|fail)<;>intro h<;>simp only[h,go_sem,go_sem_proc,dm,wW,lV,lW,fJ,fe,mj,Y,bw,bK,b0,hw,aB,decide_true,vd,n1,hlen,Q,Al,cJ,ft,mS]
   ·have hw:IntKind.i64.wrap (x.sign*y.sign)=x.sign*y.sign:=by
     rcases Ao with ⟨e,_⟩|⟨e,_⟩|⟨e,_⟩<;>rw[e]<;>exact wrap64 _ (by omega) (by omega)
    by_cases aq:x.natAbs<y.natAbs
    ·have je:decide (hl x.natAbs y.natAbs<0)=true:=by unfold hl;rw[Z (by simp;omega)];rfl
     have ln:=Sn y.natAbs x.natAbs ⟨by omega,by omega⟩
     simp only[bL] at ln;have IY:(aF (y.natAbs-x.natAbs)).length<=1000000:=eF (MI _ _) (by omega)
     have Q:jL y.sign (aF (y.natAbs-x.natAbs))=bE (x+y):=by
      refine o5 ?_ ?_
      ·rcases Ao with ⟨e,_⟩|⟨e,_⟩|⟨e,_⟩<;>rcases ty with ⟨e',_⟩|⟨e',_⟩|⟨e',_⟩<;>rw[e,e'] at aB<;>omega
      ·intro aG;rcases Ao with ⟨e,_⟩|⟨e,_⟩|⟨e,_⟩<;>rcases ty with ⟨e',_⟩|⟨e',_⟩|⟨e',_⟩<;>rw[e,e'] at aB<;>rw[e']<;>first|omega|exact (jd (by omega)).symm|exact (pQ (by omega)).symm
     simp only[go_sem,go_sem_proc,dm,wW,lV,lW,fJ,fe,mj,Y,bw,bK,b0,hw,aB,decide_false,gA,je,ln,IY,Q,Al,cJ,ft,mS];repeat' (first|refine av ?_ ?_|fail)<;>intro h<;>simp only[h,go_sem,go_sem_proc,dm,wW,lV,lW,fJ,fe,mj,Y,bw,bK,b0,hw,aB,decide_false,gA,je,ln,IY,Q,Al,cJ,ft,mS]
    ·have je:decide (hl x.natAbs y.natAbs<0)=false:=by unfold hl;rw[aa (by simp;omega)];split<;>rfl
     have ln:=Sn x.natAbs y.natAbs ⟨by omega,by omega⟩
     simp only[bL] at ln;have IY:(aF (x.natAbs-y.natAbs)).length<=1000000:=eF (MI _ _) (by omega)
     have Q:jL x.sign (aF (x.natAbs-y.natAbs))=bE (x+y):=by
      refine o5 ?_ ?_
      ·rcases Ao with ⟨e,_⟩|⟨e,_⟩|⟨e,_⟩<;>rcases ty with ⟨e',_⟩|⟨e',_⟩|⟨e',_⟩<;>rw[e,e'] at aB<;>omega
      ·intro aG;rcases Ao with ⟨e,_⟩|⟨e,_⟩|⟨e,_⟩<;>rcases ty with ⟨e',_⟩|⟨e',_⟩|⟨e',_⟩<;>rw[e,e'] at aB<;>rw[e]<;>first|omega|exact (jd (by omega)).symm|exact (pQ (by omega)).symm
     simp only[go_sem,go_sem_proc,dm,wW,lV,lW,fJ,fe,mj,Y,bw,bK,b0,hw,aB,decide_false,gA,je,ln,IY,Q,Al,cJ,ft,mS];repeat' (first|refine av ?_ ?_|fail)<;>intro h<;>simp only[h,go_sem,go_sem_proc,dm,wW,lV,lW,fJ,fe,mj,Y,bw,bK,b0,hw,aB,decide_false,gA,je,ln,IY,Q,Al,cJ,ft,mS]
  ·have bw:de (s2,al)=false:=by simpa using bw
   have hm:rE (s,l) (s2,al)=((0,[]),1):=by unfold rE;rw[bw,hy];rfl
   rw[hm];have n0:=EX false 0 [];simp only[cl] at n0;simp only[go_sem,go_sem_proc,dm,wW,lV,lW,fJ,fe,mj,Y,bw,bK,b0,n0,cJ,ft,cl];repeat' (first|refine av ?_ ?_|fail)<;>intro h<;>simp only[h,go_sem,go_sem_proc,dm,wW,lV,lW,fJ,fe,mj,Y,bw,bK,b0,n0,cJ,ft,cl]
 ·have Y:de (s,l)=false:=by simpa using Y
  have hm:rE (s,l) (s2,al)=((0,[]),1):=by unfold rE;rw[Y,fC];rfl
  rw[hm];have n0:=EX false 0 [];simp only[cl] at n0;simp only[go_sem,go_sem_proc,dm,wW,lV,lW,fJ,fe,mj,Y,bK,b0,n0,cJ,ft,cl];repeat' (first|refine av ?_ ?_|fail)<;>intro h<;>simp only[h,go_sem,go_sem_proc,dm,wW,lV,lW,fJ,fe,mj,Y,bK,b0,n0,cJ,ft,cl]
theorem lX (x:Int):(x.sign=1/\0<x)\/(x.sign=0/\x=0)\/(x.sign = -1/\x<0):=by
 rcases wO x 0 with h|h|h
 ·exact .inr (.inr ⟨pQ h,h⟩)
 ·exact .inr (.inl ⟨by rw[h];rfl,h⟩)
 ·exact .inl ⟨jd h,h⟩
def vg (a b:Raw):Int:=if (de a&&de b)=true then hl (h6 a) (h6 b) else 0
theorem abR {x y:Int}(O:x.natAbs<dI)(ao:y.natAbs<dI):vg (bE x) (bE y)=hl x y:=by
 unfold vg;rw[kA O,kA ao,fs,fs]
 rfl
theorem IZ {x y:Int}(h:x<y):hl x y = -1:=by unfold hl;rw[Z (by simpa using h)]
theorem I0 {x y:Int}(h:y<x):hl x y=1:=by unfold hl;rw[aa (by simp;omega),Z (by simpa using h)]
theorem MJ (x:Int):hl x x=0:=by unfold hl;simp
def SX:=cy tZ λ(s,l,s2,al)=>cT (D l<=1000000/\D al<=1000000) (.same (.int .i64 (vg (s,l) (s2,al))))
@[go_sem] theorem aCt (s:Int)(l:List Int)(s2:Int)(al:List Int)(G:(D l)<=1000000/\D al<=1000000):SX [.agg [.int .i64 s,.af (l.map ad)],.agg [.int .i64 s2,.af (al.map ad)]]=some (.same (.int .i64 (vg (s,l) (s2,al)))):=(cI wV (s,l,s2,al)).trans (cY G _)
theorem anT (T:bk)(dm:T kt=aW u6)(nq:T Eu=aW Md)(fJ:T BT=aW IG)(s:Int)(l:List Int)(s2:Int)(al:List Int)(G:(D l)<=1000000/\D al<=1000000):WP T RL (.same (.int .i64 (vg (s,l) (s2,al)))) [.I (.agg [.int .i64 s,.af (l.map ad)]),.I (.agg [.int .i64 s2,.af (al.map ad)])]:=by
 refine cC ?_;simp only[RL];obtain⟨bK,b0⟩:=G
 by_cases Y:de (s,l)=true
 ·by_cases bw:de (s2,al)=true
  ·obtain⟨x,O,e⟩:=(ju _).1 Y;obtain⟨y,ao,aC⟩:=(ju _).1 bw;have hm:vg (s,l) (s2,al)=hl x y:=by rw[e,aC];exact abR O ao
   rw[hm];clear hm
   cases e
   cases aC;have nv:=qJ O;have kx:=qJ ao;have gA:=Sh x.natAbs y.natAbs ⟨by omega,by omega⟩
   simp only[bL] at gA
   by_cases Q:x.sign=y.sign
   ·have I1:(x.sign==y.sign)=true:=by simpa using Q
    have tC:IntKind.i64.wrap (y.sign*hl x.natAbs y.natAbs)=hl x y:=by
     rcases lX x with ⟨e,E⟩|⟨e,E⟩|⟨e,E⟩<;>rcases lX y with ⟨e',H⟩|⟨e',H⟩|⟨e',H⟩<;>rw[e,e'] at Q<;>first|omega|skip
     ·rw[e',nt,show (x.natAbs:Int)=x by omega,show (y.natAbs:Int)=y by omega]
      rcases wO x y with h|h|h
      ·rw[IZ h];rfl
      ·rw[h,MJ];rfl
      ·rw[I0 h];rfl
     ·rw[e',E,H];rfl
     ·rw[e'];rcases wO x y with h|h|h
      ·rw[IZ h,I0 (by omega)];rfl
      ·rw[h,MJ,MJ];rfl
      ·rw[I0 h,IZ (by omega)];rfl
    rw[<-Q] at tC;simp only[go_sem,go_sem_proc,dm,nq,fJ,Y,bw,bK,b0,I1,gA,tC];repeat' (first|refine av ?_ ?_|fail)<;>intro h<;>simp only[h,go_sem,go_sem_proc,dm,nq,fJ,Y,bw,bK,b0,I1,gA,tC]
   ·have I1:(x.sign==y.sign)=false:=by simpa using Q
    have tC:hl x.sign y.sign=hl x y:=by
     rcases lX x with ⟨e,E⟩|⟨e,E⟩|⟨e,E⟩<;>rcases lX y with ⟨e',H⟩|⟨e',H⟩|⟨e',H⟩<;>rw[e,e'] at Q ⊢<;>first|omega|(rw[IZ (show x<y by omega)];rfl)|(rw[I0 (show y<x by omega)];rfl)
    simp only[go_sem,go_sem_proc,dm,nq,fJ,Y,bw,bK,b0,I1,tC];repeat' (first|refine av ?_ ?_|fail)<;>intro h<;>simp only[h,go_sem,go_sem_proc,dm,nq,fJ,Y,bw,bK,b0,I1,tC]
  ·have bw:de (s2,al)=false:=by simpa using bw
   have hm:vg (s,l) (s2,al)=0:=by unfold vg;rw[bw,hy];rfl
   rw[hm];simp only[go_sem,go_sem_proc,dm,nq,fJ,Y,bw,bK,b0];repeat' (first|refine av ?_ ?_|fail)<;>intro h<;>simp only[h,go_sem,go_sem_proc,dm,nq,fJ,Y,bw,bK,b0]
 ·have Y:de (s,l)=false:=by simpa using Y
  have hm:vg (s,l) (s2,al)=0:=by unfold vg;rw[Y,fC];rfl
  rw[hm];simp only[go_sem,go_sem_proc,dm,nq,fJ,Y,bK,b0];repeat' (first|refine av ?_ ?_|fail)<;>intro h<;>simp only[h,go_sem,go_sem_proc,dm,nq,fJ,Y,bK,b0]
def lo (a b:Raw):Raw×Int:=if (de a&&de b)=true then (bE (iO (h6 a).natAbs (h6 b).natAbs:Nat),0) else ((0,[]),1)
theorem I2 {x y:Int}(O:x.natAbs<dI)(ao:y.natAbs<dI):iO x.natAbs y.natAbs<dI:=by
 rcases jm x.natAbs with h|h
 ·rw[h,Nat.gcd_zero_left];exact ao
 ·exact sD (Nat.gcd_le_left _ h) O
def MK:=cy tZ λ(s,l,s2,al)=>cT (D l<=1000000/\D al<=1000000) (.same (ft (lo (s,l) (s2,al))))
@[go_sem] theorem aCu (s:Int)(l:List Int)(s2:Int)(al:List Int)(G:(D l)<=1000000/\D al<=1000000):MK [.agg [.int .i64 s,.af (l.map ad)],.agg [.int .i64 s2,.af (al.map ad)]]=some (.same (ft (lo (s,l) (s2,al)))):=(cI wV (s,l,s2,al)).trans (cY G _)
theorem anU (T:bk)(dm:T kt=aW u6)(fX:T wG=aW B2)(nw:T Ij=aW Mo)(fe:T ow=aW z7)(mj:T tJ=aW IX)(s:Int)(l:List Int)(s2:Int)(al:List Int)(G:(D l)<=1000000/\D al<=1000000):WP T RG (.same (ft (lo (s,l) (s2,al)))) [.I (.agg [.int .i64 s,.af (l.map ad)]),.I (.agg [.int .i64 s2,.af (al.map ad)])]:=by
 refine cC ?_;simp only[RG];obtain⟨bK,b0⟩:=G
 by_cases Y:de (s,l)=true
 ·by_cases bw:de (s2,al)=true
  ·obtain⟨x,O,e⟩:=(ju _).1 Y;obtain⟨y,ao,aC⟩:=(ju _).1 bw
   have hm:lo (s,l) (s2,al)=(bE (iO x.natAbs y.natAbs:Nat),0):=by
    rw[e,aC];unfold lo
    rw[kA O,kA ao,fs,fs]
    rfl
   rw[hm];clear hm
   cases e
   cases aC;have nv:=qJ O;have kx:=qJ ao;have aX:=I2 O ao;generalize lS:x.natAbs=cA at *;generalize yK:y.natAbs=fK at *;have SY:(aF cA).length<=1000000:=by omega
   simp only[go_sem,go_sem_proc,dm,fX,nw,fe,mj,Y,bw,lS,yK,bK,b0,SY,ad,aj];refine dE [4] [137004] (λ((a,b):Nat×Nat) tm mem=>a<dI/\b<dI/\iO cA fK=iO a b/\tm 6=.I (.af ((aF a).map ad))/\tm 7=.I (.af ((aF b).map ad))) (λ(_,b)=>b) (cA,fK) (by refine⟨O,ao,rfl,rfl,rfl⟩) ?_;intro vs ms aV aR;simp only[go_sem,go_sem_proc,dm,fX,nw,fe,mj,lS,yK] at aV aR;subst aV aR;rintro⟨a,b⟩ tm mem J hm ⟨a1,ae,vh,bI,bC⟩;simp only[go_sem,go_sem_proc,dm,fX,nw,fe,mj,bh] at J hm;have aM:=J;have kr:(aF a).length<=60:=gF.2 a1;have mR:(aF b).length<=60:=gF.2 ae;rcases jm b with ak|hO
   ·subst ak;have aQ:aF 0=[]:=rfl;have SZ:(aF a).length<=1000000:=by omega
    rw[Nat.gcd_zero_right] at vh;have Q:jL 1 (aF a)=bE ((a:Nat):Int):=o5 (by simp) λaG=>(jd (by omega)).symm;have J:rD ((a:Nat):Int)=(bE ((a:Nat):Int),0):=by unfold rD;rw[Z (by simpa using a1)]
    rw[vh];refine a9 ?_;repeat' (intro h<;>simp only[h,go_sem,go_sem_proc,dm,fX,nw,fe,mj,aM,bI,bC,hm,aQ,SZ,Q,J,Al,cJ,ft,mS,cl,mJ,kR,lg,show ¬ ((0:Int)>0) by omega,decide_false]<;>try refine av ?_ ?_)
   ·have bN:decide (((aF b).length:Int)>0)=true:=by
     have:aF b≠[]:=by rw[Ne,yn];omega
     have:=Ap.2 this;exact dg
    have hdiv:=abA a b ⟨by omega,by omega,hO⟩
    simp only[bL] at hdiv;refine a9 ?_;repeat' (intro h<;>simp only[h,go_sem,go_sem_proc,dm,fX,nw,fe,mj,aM,bI,bC,hm,bN,hdiv,aj]<;>try refine av ?_ ?_)
    exact⟨(b,a%b),nV _ hO,ae,sD (Nat.mod_le _ _) a1,by dsimp only;rw[vh,I3 a b,Nat.gcd_rec b a,I3],rfl,rfl⟩
  ·have bw:de (s2,al)=false:=by simpa using bw
   have hm:lo (s,l) (s2,al)=((0,[]),1):=by unfold lo;rw[bw,hy];rfl
   rw[hm];have n0:=EX false 0 [];simp only[cl] at n0;refine a9 ?_;repeat' (intro h<;>simp only[h,go_sem,go_sem_proc,dm,fX,nw,fe,mj,Y,bw,bK,b0,n0,cJ,ft,cl]<;>try refine av ?_ ?_)
 ·have Y:de (s,l)=false:=by simpa using Y
  have hm:lo (s,l) (s2,al)=((0,[]),1):=by unfold lo;rw[Y,fC];rfl
  rw[hm];have n0:=EX false 0 [];simp only[cl] at n0;refine a9 ?_;repeat' (intro h<;>simp only[h,go_sem,go_sem_proc,dm,fX,nw,fe,mj,Y,bK,b0,n0,cJ,ft,cl]<;>try refine av ?_ ?_)
def j4 (a b:Raw):Raw×Raw×Int :=
 if (de a&&de b)=true then
  if h6 b=0 then ((0,[]),(0,[]),15) else (bE ((h6 a).fdiv (h6 b)),bE ((h6 a).fmod (h6 b)),0)
 else ((0,[]),(0,[]),1)
def gY (x:Raw×Raw×Int):Data:=.cw [.agg (cJ x.1),.agg (cJ x.2.1),.int .i64 x.2.2]
theorem abS {x y q r:Int}(h:r+y*q=x)(Y:(0<=r/\r<y)\/(y<r/\r<=0)):x.fdiv y=q/\x.fmod y=r:=by
 rcases Y with ⟨E,H⟩|⟨E,H⟩
 ·exact (Int.fdiv_fmod_unique (by omega)).2 ⟨h,E,H⟩
 ·exact (Int.fdiv_fmod_unique' (by omega)).2 ⟨h,E,H⟩
theorem ML {x y:Int}(h:x.sign*y.sign<0)(hm:x.natAbs%y.natAbs≠0):
  x.fdiv y = -((x.natAbs/y.natAbs+1:Nat):Int)/\x.fmod y=y.sign*((y.natAbs-x.natAbs%y.natAbs:Nat):Int):=by
 have H:=LS x.natAbs y.natAbs;generalize fj:x.natAbs/y.natAbs=aH at *;generalize j0:x.natAbs%y.natAbs=bZ at *
 have ao:0<y.natAbs:=by
  rcases jm y.natAbs with ak|ak
  ·rw[Int.natAbs_eq_zero.1 ak] at h;simp at h
  ·exact ak
 have aq:bZ<y.natAbs:=by rw[<-j0];exact nV _ ao
 have uV:(y.natAbs:Int)*aH+bZ=x.natAbs:=by exact_mod_cast H
 refine abS ?_ ?_
 ·rcases lX x with ⟨e,E⟩|⟨e,E⟩|⟨e,E⟩<;>rcases lX y with ⟨e',ab⟩|⟨e',ab⟩|⟨e',ab⟩<;>rw[e,e'] at h<;>first|omega|rw[e']
  ·rw[abT (by omega),abU,EK,h2];have:(y.natAbs:Int) = -y:=by omega
   rw[this] at uV ⊢;rw[Cd] at uV;omega
  ·rw[abT (by omega),abU,EK,h2];have:(y.natAbs:Int)=y:=by omega
   rw[this] at uV ⊢;omega
 ·rcases lX y with ⟨e',ab⟩|⟨e',ab⟩|⟨e',ab⟩<;>rw[e']<;>omega
theorem MM {x y:Int}(ao:y≠0)(h:¬ (x.sign*y.sign<0/\x.natAbs%y.natAbs≠0)):
  x.fdiv y=x.sign*y.sign*((x.natAbs/y.natAbs:Nat):Int)/\x.fmod y=x.sign*((x.natAbs%y.natAbs:Nat):Int):=by
 have H:=LS x.natAbs y.natAbs;have aq:x.natAbs%y.natAbs<y.natAbs:=nV _ (by omega);generalize fj:x.natAbs/y.natAbs=aH at *;generalize j0:x.natAbs%y.natAbs=bZ at *;have uV:(y.natAbs:Int)*aH+bZ=x.natAbs:=by exact_mod_cast H
 refine abS ?_ ?_
 ·rcases lX x with ⟨e,E⟩|⟨e,E⟩|⟨e,E⟩<;>rcases lX y with ⟨e',ab⟩|⟨e',ab⟩|⟨e',ab⟩<;>first|omega|(rw[e,e'])
  ·rw[show (y.natAbs:Int)=y by omega] at uV;simp only[nt];omega
  ·rw[show (y.natAbs:Int) = -y by omega,Cd] at uV;simp only[nt,Cd,EK];omega
  ·simp only[wX,sH];omega
  ·simp only[wX,sH];omega
  ·rw[show (y.natAbs:Int)=y by omega] at uV;simp only[nt,Cd,EK,tO];omega
  ·rw[show (y.natAbs:Int) = -y by omega,Cd] at uV;simp only[nt,Cd,EK,Int.neg_neg];omega
 ·have anu:x.natAbs=0->bZ=0:=by
   intro ak;rw[<-j0,ak,abV]
  rcases lX x with ⟨e,E⟩|⟨e,E⟩|⟨e,E⟩<;>rcases lX y with ⟨e',ab⟩|⟨e',ab⟩|⟨e',ab⟩<;>rw[e,e'] at h<;>rw[e]<;>omega
theorem E3 {x y:Int}(O:x.natAbs<dI)(iC:y≠0):(x.fdiv y).natAbs<dI:=by
 by_cases h:x.sign*y.sign<0/\x.natAbs%y.natAbs≠0
 ·have aJ:=(ML h.1 h.2).1;have H:=LS x.natAbs y.natAbs
  have:x.natAbs/y.natAbs+1<=x.natAbs:=by
   have anV:2<=y.natAbs:=by
    rcases hV y.natAbs 2 with ak|ak
    ·have:y.natAbs=1:=by omega
     rw[this,Nat.mod_one] at h;exact absurd rfl h.2
    ·exact ak
   have ab:2*(x.natAbs/y.natAbs)<=y.natAbs*(x.natAbs/y.natAbs):=rh _ anV;omega
  generalize x.natAbs/y.natAbs=aH at *;omega
 ·have aJ:=(MM iC h).1;have ab:x.natAbs/y.natAbs<=x.natAbs:=abW _ _
  have aM:(x.fdiv y).natAbs<=x.natAbs/y.natAbs:=by
   rw[aJ,qI,qI,ml];have E:x.sign.natAbs<=1:=by have:=qK x;omega
   have H:y.sign.natAbs<=1:=by have:=qK y;omega
   have:=Nat.mul_le_mul E H;have:=rh (x.natAbs/y.natAbs) this;omega
  omega
theorem abX {x y:Int}(ao:y.natAbs<dI)(iC:y≠0):(x.fmod y).natAbs<dI:=by
 by_cases h:x.sign*y.sign<0/\x.natAbs%y.natAbs≠0
 ·have aJ:=(ML h.1 h.2).2;rcases lX y with ⟨e',ab⟩|⟨e',ab⟩|⟨e',ab⟩<;>rw[e'] at aJ<;>omega
 ·have aJ:=(MM iC h).2;have aq:x.natAbs%y.natAbs<y.natAbs:=nV _ (by omega);rcases lX x with ⟨e',ab⟩|⟨e',ab⟩|⟨e',ab⟩<;>rw[e'] at aJ<;>omega
theorem Cf {x y:Int}(O:x.natAbs<dI)(ao:y.natAbs<dI)(ak:y≠0):j4 (bE x) (bE y)=(bE (x.fdiv y),bE (x.fmod y),0):=by
 unfold j4;rw[kA O,kA ao,fs,fs,Z (by rfl),aa ak]
def MN:=cy tZ λ(s,l,s2,al)=>cT (D l<=1000000/\D al<=1000000) (.same (gY (j4 (s,l) (s2,al))))
@[go_sem] theorem aCv (s:Int)(l:List Int)(s2:Int)(al:List Int)(G:(D l)<=1000000/\D al<=1000000):MN [.agg [.int .i64 s,.af (l.map ad)],.agg [.int .i64 s2,.af (al.map ad)]]=some (.same (gY (j4 (s,l) (s2,al)))):=(cI wV (s,l,s2,al)).trans (cY G _)
theorem anW (T:bk)(dm:T kt=aW u6)(nw:T Ij=aW Mo)(lV:T Il=aW Mg)(lW:T Et=aW Mh)(fe:T ow=aW z7)(s:Int)(l:List Int)(s2:Int)(al:List Int)(G:(D l)<=1000000/\D al<=1000000):WP T RK (.same (gY (j4 (s,l) (s2,al)))) [.I (.agg [.int .i64 s,.af (l.map ad)]),.I (.agg [.int .i64 s2,.af (al.map ad)])]:=by
 refine cC ?_;simp only[RK];obtain⟨bK,b0⟩:=G
 by_cases Y:de (s,l)=true
 ·by_cases bw:de (s2,al)=true
  ·obtain⟨x,O,e⟩:=(ju _).1 Y;obtain⟨y,ao,aC⟩:=(ju _).1 bw
   by_cases iC:y=0
   ·have hm:j4 (s,l) (s2,al)=((0,[]),(0,[]),15):=by
     rw[e,aC];unfold j4
     rw[kA O,kA ao,fs,fs,Z (by rfl),Z iC]
    rw[hm]
    cases e
    cases aC;have ak:((y.sign:Int)==0)=true:=by rw[iC];rfl
    simp only[go_sem,go_sem_proc,dm,nw,lV,lW,fe,Y,bw,bK,b0,ak,cJ,gY,cl];repeat' (first|refine av ?_ ?_|fail)<;>intro h<;>simp only[h,go_sem,go_sem_proc,dm,nw,lV,lW,fe,Y,bw,bK,b0,ak,cJ,gY,cl]
   ·have hm:j4 (s,l) (s2,al)=(bE (x.fdiv y),bE (x.fmod y),0):=by
     rw[e,aC];exact Cf O ao iC
    rw[hm];clear hm
    cases e
    cases aC;have nv:=qJ O;have kx:=qJ ao;have sJ:(y.sign==0)=false:=by rw[beq_eq_false_iff_ne,Ne,Int.sign_eq_zero_iff_zero];exact iC
    have Cg:0<y.natAbs:=by omega
    have E:=qK x;have H:=qK y;have aB:x.sign*y.sign=(x*y).sign:=(pR x y).symm;have ab:=qK (x*y);have hw:IntKind.i64.wrap (x.sign*y.sign)=x.sign*y.sign:=by rw[aB];exact wrap64 _ (by omega) (by omega)
    have hdiv:=abA x.natAbs y.natAbs ⟨by omega,by omega,Cg⟩
    simp only[bL] at hdiv;have bd:=E3 (y:=y) O iC;have wY:=abX (x:=x) ao iC;have S0:x.natAbs/y.natAbs<dI:=sD (abW _ _) O;have anX:(aF (x.natAbs/y.natAbs)).length<=60:=gF.2 S0;have Ch:x.natAbs%y.natAbs<dI:=Nat.lt_trans (nV _ Cg) ao;have anY:(aF (x.natAbs%y.natAbs)).length<=60:=gF.2 Ch
    by_cases sK:x.sign*y.sign<0/\x.natAbs%y.natAbs≠0
    ·obtain⟨eq,sL⟩:=ML sK.1 sK.2
     have bN:decide (((aF (x.natAbs%y.natAbs)).length:Int)>0)=true:=by
      have:aF (x.natAbs%y.natAbs)≠[]:=by rw[Ne,yn];exact sK.2
      have:=Ap.2 this;exact dg
     have j3:decide (x.sign*y.sign<0)=true:=iH sK.1;have jM:aF 1=[1]:=by simp[aF,wE]
     have anZ:(aF 1).length=1:=by rw[jM];rfl
     have n1:=aa4 (x.natAbs/y.natAbs) 1 ⟨by omega,by omega⟩
     simp only[bL,jM,e5,cl,ad] at n1;have ln:=Sn y.natAbs (x.natAbs%y.natAbs) ⟨by omega,Nat.le_of_lt (nV _ Cg)⟩
     simp only[bL] at ln
     have kr:(aF (x.natAbs/y.natAbs+1)).length<=1000000:=by
      have:(x.natAbs/y.natAbs+1)<dI:=by rw[eq] at bd;rw[I4,ml] at bd;exact bd
      have:=(gF (k:=60)).2 this;omega
     have mR:(aF (y.natAbs-x.natAbs%y.natAbs)).length<=1000000:=by have:=MI y.natAbs (x.natAbs%y.natAbs);omega
     have hF:jL (-1) (aF (x.natAbs/y.natAbs+1))=bE (x.fdiv y):=o5 (by rw[eq,I4,ml]) λ_=>by rw[eq,Ce,jd (show (0:Int)<((x.natAbs/y.natAbs+1:Nat):Int) by exact Aq.2 (Nat.succ_pos _))]
     have ik:jL y.sign (aF (y.natAbs-x.natAbs%y.natAbs))=bE (x.fmod y):=by
      refine o5 ?_ λaG=>?_
      ·rw[sL];rcases lX y with ⟨e',ab⟩|⟨e',ab⟩|⟨e',ab⟩<;>rw[e']<;>omega
      ·rw[sL,pR,yL,jd (show (0:Int)<((y.natAbs-x.natAbs%y.natAbs:Nat):Int) by omega),tO]
     simp only[go_sem,go_sem_proc,dm,nw,lV,lW,fe,Y,bw,bK,b0,sJ,hw,hdiv,bN,j3,n1,ln,kr,mR,hF,ik,ad,aj,cJ,gY,mS];repeat' (first|refine av ?_ ?_|fail)<;>intro h<;>simp only[h,go_sem,go_sem_proc,dm,nw,lV,lW,fe,Y,bw,bK,b0,sJ,hw,hdiv,bN,j3,n1,ln,kr,mR,hF,ik,ad,aj,cJ,gY,mS]
    ·obtain⟨eq,sL⟩:=MM iC sK
     have S2:(decide (x.sign*y.sign<0)=true/\decide (((aF (x.natAbs%y.natAbs)).length:Int)>0)=false)\/decide (x.sign*y.sign<0)=false:=by
      by_cases aG:x.sign*y.sign<0
      ·left
       have:x.natAbs%y.natAbs=0:=Decidable.not_not.1 λh=>sK ⟨aG,h⟩;rw[this];exact⟨iH aG,rfl⟩
      ·right;exact ob aG
     have kr:(aF (x.natAbs/y.natAbs)).length<=1000000:=by omega
     have mR:(aF (x.natAbs%y.natAbs)).length<=1000000:=by omega
     have hF:jL (x.sign*y.sign) (aF (x.natAbs/y.natAbs))=bE (x.fdiv y):=by
      refine o5 ?_ λaG=>?_
      ·rw[eq]
       have Ci:∀aH:Nat,(x=0->aH=0)->(x.sign*y.sign*(aH:Int)).natAbs=aH:=by
        intro aH ak;rcases lX x with ⟨e,E⟩|⟨e,E⟩|⟨e,E⟩<;>rcases lX y with ⟨e',ab⟩|⟨e',ab⟩|⟨e',ab⟩<;>rw[e,e']<;>first|omega|(rw[ak E];rfl)
       exact Ci _ λak=>by rw[ak];exact Nat.zero_div _
      ·rw[eq,aB,pR,pR,pR,yL,yL,jd (show (0:Int)<((x.natAbs/y.natAbs:Nat):Int) from Aq.2 (Eo aG)),tO]
     have ik:jL x.sign (aF (x.natAbs%y.natAbs))=bE (x.fmod y):=by
      refine o5 ?_ λaG=>?_
      ·rw[sL]
       have Ci:∀aH:Nat,(x=0->aH=0)->(x.sign*(aH:Int)).natAbs=aH:=by
        intro aH ak;rcases lX x with ⟨e,E⟩|⟨e,E⟩|⟨e,E⟩<;>rw[e]<;>first|omega|(rw[ak E];rfl)
       exact Ci _ λak=>by rw[ak];exact abV _
      ·rw[sL,pR,yL,jd (show (0:Int)<((x.natAbs%y.natAbs:Nat):Int) from Aq.2 (Eo aG)),tO]
     rcases S2 with ⟨vi,I5⟩|vi
     ·simp only[go_sem,go_sem_proc,dm,nw,lV,lW,fe,Y,bw,bK,b0,sJ,hw,hdiv,vi,I5,kr,mR,hF,ik,ad,aj,cJ,gY,mS];repeat' (first|refine av ?_ ?_|fail)<;>intro h<;>simp only[h,go_sem,go_sem_proc,dm,nw,lV,lW,fe,Y,bw,bK,b0,sJ,hw,hdiv,vi,I5,kr,mR,hF,ik,ad,aj,cJ,gY,mS]
     ·simp only[go_sem,go_sem_proc,dm,nw,lV,lW,fe,Y,bw,bK,b0,sJ,hw,hdiv,vi,kr,mR,hF,ik,ad,aj,cJ,gY,mS];repeat' (first|refine av ?_ ?_|fail)<;>intro h<;>simp only[h,go_sem,go_sem_proc,dm,nw,lV,lW,fe,Y,bw,bK,b0,sJ,hw,hdiv,vi,kr,mR,hF,ik,ad,aj,cJ,gY,mS]
  ·have bw:de (s2,al)=false:=by simpa using bw
   have hm:j4 (s,l) (s2,al)=((0,[]),(0,[]),1):=by unfold j4;rw[bw,hy];rfl
   rw[hm];simp only[go_sem,go_sem_proc,dm,nw,lV,lW,fe,Y,bw,bK,b0,cJ,gY,cl];repeat' (first|refine av ?_ ?_|fail)<;>intro h<;>simp only[h,go_sem,go_sem_proc,dm,nw,lV,lW,fe,Y,bw,bK,b0,cJ,gY,cl]
 ·have Y:de (s,l)=false:=by simpa using Y
  have hm:j4 (s,l) (s2,al)=((0,[]),(0,[]),1):=by unfold j4;rw[Y,fC];rfl
  rw[hm];simp only[go_sem,go_sem_proc,dm,nw,lV,lW,fe,Y,bK,b0,cJ,gY,cl];repeat' (first|refine av ?_ ?_|fail)<;>intro h<;>simp only[h,go_sem,go_sem_proc,dm,nw,lV,lW,fe,Y,bK,b0,cJ,gY,cl]
end Go.Mini
