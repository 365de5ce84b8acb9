/- A part of the proof. -/
import Derived.Test.YtgpioapepokkbaaGreatM03
set_option linter.unusedSimpArgs false
set_option linter.unusedVariables false
set_option maxRecDepth 100000
set_option maxHeartbeats 4000000
noncomputable section
open Bool renaming and_eq_true->eM,false_and->fu,false_eq_true->kX,not_eq_true'->rO,or_eq_true->yk,or_false->lW,true_and->g3
open Classical renaming byContradiction->mb,choose->tJ,choose_spec->po
open Decidable renaming em->dF
open Int renaming add_zero->xd,mul_ne_zero->Aq,mul_zero->ua,natAbs_mul->qM,natAbs_natCast->mQ,one_mul->oe,zero_add->D8,zero_mul->Ah
open List renaming all_append->agT,any_eq_false->vX,append_assoc->gW,append_nil->fE,append_of_mem->ah0,cons_append->jT,drop->gL,drop_append->rA,drop_eq_getElem_cons->ij,drop_eq_nil_of_le->kY,drop_zero->lV,ext_getElem?->qx,filter_nil->qg,findIdx_getElem->ail,findIdx_le_length->ahv,flatten_append->EL,flatten_cons->jt,getD_eq_getElem?_getD->ep,getElem?_append_left->qv,getElem?_append_right->rm,getElem?_cons_zero->vl,getElem?_drop->k3,getElem?_eq_getElem->bz,getElem?_eq_none->mB,getElem?_eq_some_iff->dD,getElem?_inj->agW,getElem?_map->bn,getElem?_range->tr,getElem?_set->nE,getElem?_zipIdx->YH,getElem_drop->LV,getElem_mem->ph,length->D,length_append->fr,length_cons->h0,length_drop->rB,length_map->aj,length_nil->jy,length_replicate->CF,length_set->hn,length_take->fI,map->yZ,mapM_cons->ju,map_append->jD,map_congr_left->mI,map_cons->eA,map_map->m6,map_nil->cY,map_replicate->HU,map_set->vV,mem_append->jk,mem_cons->hH,mem_cons_of_mem->gZ,mem_cons_self->gq,mem_filter->xD,mem_iff_getElem?->tL,mem_map->dT,mem_map_of_mem->ta,mem_of_getElem?->ei,mem_of_mem_drop->Lh,mem_or_eq_of_mem_set->yU,mem_range->gX,mem_singleton->ub,nil_append->jm,range->dW,replicate->dG,replicate_append_replicate->Y0,replicate_succ->pO,set_append_right->EH,set_cons_succ->HJ,set_cons_zero->rQ,set_set->ag5,take->gu,take_add_one->hc,take_append_of_le_length->CD,take_of_length_le->dB,zipWith->ZC,zipWith_cons_cons->aie,zip_cons_cons->aid
open List.cons renaming injEq->bf
open Nat renaming add_comm->zp,add_sub_cancel_left->Gu,add_zero->n1,eq_zero_or_pos->k4,exists_eq_add_of_le->ahC,gcd->jo,le_mul_of_pos_right->Kc,le_of_eq->AJ,le_refl->b1,le_trans->eU,lt_or_ge->ih,mul_assoc->ET,mul_comm->rC,mul_le_mul->o5,mul_left_comm->ah9,mul_one->cI,mul_pos->Mr,one_pos->Zz,pow_add->wc,pow_le_pow_right->xe,pow_succ->wW,reduceEqDiff->ed,reduceLeDiff->ag4,sub_self->mC,sub_zero->AL,succ_mul->ts,zero_add->jv,zero_le->fk
open Option renaming map_eq_some_iff->dV,map_some->k5
open Option.some renaming inj->nt,injEq->ca
open Prod renaming ext->dR,fst->Cl
open Prod.mk renaming injEq->fD
open Rat renaming add_zero->o3,divInt->l4,divInt_eq_div->Mu,div_def->HZ,intCast_add->wb,intCast_eq_zero_iff->aiq,intCast_mul->qc,intCast_natCast->ou,intCast_sub->CL,inv_pos->ahM,le_refl->gf,le_trans->wa,mul_comm->uG,mul_eq_zero->ZH,mul_nonneg->ahL,mul_pos->Mi,mul_zero->nH,neg_num->aiu,num_eq_zero->aib,one_mul->Ra,zero_add->wg,zero_den->aiK,zero_mul->CH,zero_num->aiL
namespace Go.Mini
open Go
def Ym:=cu xg λ(s,l,s2,aq)=>cU (D l<=1000000/\D aq<=1000000) (.same (eH (hB (s,l) (s2,aq))))
@[go_sem] theorem aKM (s:Int)(l:List Int)(s2:Int)(aq:List Int)(H:(D l)<=1000000/\D aq<=1000000):Ym [.agg [.int .i64 s,.Y (l.map ae)],.agg [.int .i64 s2,.Y (aq.map ae)]]=some (.same (eH (hB (s,l) (s2,aq)))):=(cD Af (s,l,s2,aq)).trans (cZ H _)
theorem auw (T:bl)(j2:T vu=aW HA)(LP:T OY=aW Yf)(LQ:T Ux=aW Yh)(LR:T OZ=aW Yi)(s:Int)(l:List Int)(s2:Int)(aq:List Int)(H:(D l)<=1000000/\D aq<=1000000):WP T Yl (.same (eH (hB (s,l) (s2,aq)))) [.J (.agg [.int .i64 s,.Y (l.map ae)]),.J (.agg [.int .i64 s2,.Y (aq.map ae)])]:=by
 refine cE ?_;simp only[Yl];obtain⟨cr,cf⟩:=H
 by_cases ab:dI (s,l)=true
 ·by_cases bH:dI (s2,aq)=true
  ·obtain⟨x,O,e⟩:=(jX _).1 ab;obtain⟨y,aw,aD⟩:=(jX _).1 bH
   by_cases ao:y=0
   ·have hm:hB (s,l) (s2,aq)=(fv,15):=by
     unfold hB;rw[ab,bH,aD,fR,ad (by rfl),ad ao]
    rw[hm]
    cases e
    cases aD;have U:(y.sign==0)=true:=by rw[ao];rfl
    refine aZ ?_;repeat' (intro h<;>simp only[h,go_sem,go_sem_proc,j2,LP,LQ,LR,ab,bH,cr,cf,U,eH,aE,fv,cY]<;>try refine ax ?_ ?_)
   ·have main:∀p q:Int,p.natAbs<ee->q.natAbs<ee->0<q->∃g:Raw,l3 (bT p) (bT q)=(g,0)/\g.2.length<=1000000/\kM (bT p) g=(bT (l4 p q).num,bT (p.fmod ((jo p.natAbs q.natAbs:Nat):Int)),0)/\kM (bT q) g=(bT (l4 p q).den,bT (q.fmod ((jo p.natAbs q.natAbs:Nat):Int)),0):=by
     intro p q aG aL mJ;have oY:=Lo aG aL;have Es:((jo p.natAbs q.natAbs:Nat):Int).natAbs<ee:=by rw[mQ];exact oY
     have Pv:=WR (p:=p) (q:=q) (by omega);obtain⟨F,I⟩:=WQ (p:=p) mJ;refine⟨bT ((jo p.natAbs q.natAbs:Nat):Int),?_,nD Es,?_,?_⟩
     ·unfold l3;rw[ld aG,ld aL,fR,fR];rfl
     ·rw[Eg aG Es (by omega),F]
     ·rw[Eg aL Es (by omega),I]
    have qQ:(y.sign==0)=false:=by simpa using ao
    rcases Int.lt_or_gt_of_ne ao with kL|h4
    ·have hA:decide (y.sign<0)=true:=by rw[Int.sign_eq_neg_one_of_neg kL];rfl
     obtain⟨⟨cF,cp⟩,bc,oY,jV,mK⟩:=main (-x) (-y) (by omega) (by omega) (by omega)
     have hm:hB (s,l) (s2,aq)=(av (l4 (-x) (-y)),0):=by
      rw[e,aD,Ak O aw ao,Rat.neg_divInt_neg]
     rw[hm];have wK:jZ (s,l)=bT (-x):=by unfold jZ;rw[ad ab,e,fR]
     have yb:jZ (s2,aq)=bT (-y):=by unfold jZ;rw[ad bH,aD,fR]
     have Et:s2=y.sign:=congrArg Cl aD;have ix:(bT (-x)).2.length<=1000000:=nD (by omega);have kp:(bT (-y)).2.length<=1000000:=nD (by omega);clear e aD;unfold av;generalize bT (-x)=c6 at *;generalize bT (-y)=gi at *;obtain⟨a2,bS⟩:=c6;obtain⟨tS,tT⟩:=gi;rw[<-Et] at qQ hA;refine aZ ?_;repeat' (intro h<;>simp only[h,go_sem,go_sem_proc,j2,LP,LQ,LR,ab,bH,cr,cf,qQ,hA,wK,yb,ix,kp,bc,oY,jV,mK,eH,aE,fS,ho,dc]<;>try refine ax ?_ ?_)
    ·have hA:decide (y.sign<0)=false:=by rw[Int.sign_eq_one_of_pos h4];rfl
     obtain⟨⟨cF,cp⟩,bc,oY,jV,mK⟩:=main x y O aw h4
     have hm:hB (s,l) (s2,aq)=(av (l4 x y),0):=by
      rw[e,aD,Ak O aw ao]
     rw[hm];have Et:s2=y.sign:=congrArg Cl aD;rw[<-e] at bc jV;rw[<-aD] at bc mK;rw[<-Et] at qQ hA;unfold av;refine aZ ?_;repeat' (intro h<;>simp only[h,go_sem,go_sem_proc,j2,LP,LQ,LR,ab,bH,cr,cf,qQ,hA,bc,oY,jV,mK,eH,aE,fS,ho,dc]<;>try refine ax ?_ ?_)
  ·have bH:dI (s2,aq)=false:=by simpa using bH
   have hm:hB (s,l) (s2,aq)=(fv,1):=by unfold hB;rw[bH,Bool.and_false];rfl
   rw[hm];refine aZ ?_;repeat' (intro h<;>simp only[h,go_sem,go_sem_proc,j2,LP,LQ,LR,ab,bH,cr,cf,eH,aE,fv,cY]<;>try refine ax ?_ ?_)
 ·have ab:dI (s,l)=false:=by simpa using ab
  have hm:hB (s,l) (s2,aq)=(fv,1):=by unfold hB;rw[ab,fu];rfl
  rw[hm];refine aZ ?_;repeat' (intro h<;>simp only[h,go_sem,go_sem_proc,j2,LP,LQ,LR,ab,cr,cf,eH,aE,fv,cY]<;>try refine ax ?_ ?_)
def HB:=cu GM λ(p,q)=>cU (dC p/\dC q) (.same (eH (hB (bT p) (bT q))))
@[go_sem] theorem agS (p:Int)(q:Int)(H:dC p/\dC q):HB [.int .i64 p,.int .i64 q]=some (.same (eH (hB (bT p) (bT q)))):=(cD Pg (p,q)).trans (cZ H _)
theorem auy (T:bl)(auz:T OV=aW Yg)(auA:T Up=aW Ym)(p:Int)(q:Int)(H:dC p/\dC q):WP T Yk (.same (eH (hB (bT p) (bT q)))) [.J (.int .i64 p),.J (.int .i64 q)]:=by
 refine cE ?_;simp only[Yk];obtain⟨F,I⟩:=H;have eh:(bT p).2.length<=1000000:=nD (yK F);have aq:(bT q).2.length<=1000000:=nD (yK I);generalize gv:bT p=P at *;generalize fm:bT q=aM at *;obtain⟨a2,bS⟩:=P;obtain⟨tS,tT⟩:=aM;refine aZ ?_;repeat' (intro h<;>simp only[h,go_sem,go_sem_proc,auz,auA,F,I,gv,fm,eh,aq,dc,eH,aE]<;>try refine ax ?_ ?_)
def yT (f:bg)(n:Int):Bool:=decide ((f.1.2.length:Int)<=n)&&decide ((f.2.2.length:Int)<=n)
abbrev Yn:Int×(List Int)×Int×(List Int)×Int->List Data:=λ(s,l,s2,aq,n)=>[.agg [.int .i64 s,.Y (l.map ae),.int .i64 s2,.Y (aq.map ae)],.int .i64 n]
def Yo:=cu Yn λ(s,l,s2,aq,n)=>some (.same (.bool (yT ((s,l),(s2,aq)) n)))
theorem auB:∀a b,Yn a=Yn b->a=b:=by
  rintro⟨s1,eh,Cc,Cd,iR⟩ ⟨s2,aq,Ce,Cf,jR⟩ h;simp only[bf,Data.agg.injEq,Data.int.injEq,Data.Y.injEq] at h;exact dR h.1.1.2 (dR (map_inj fh _ _ h.1.2.1) (dR h.1.2.2.1.2 (dR (map_inj fh _ _ h.1.2.2.2.1) h.2.1.2)))
@[go_sem] theorem aKN (s:Int)(l:List Int)(s2:Int)(aq:List Int)(n:Int):Yo [.agg [.int .i64 s,.Y (l.map ae),.int .i64 s2,.Y (aq.map ae)],.int .i64 n]=some (.same (.bool (yT ((s,l),(s2,aq)) n))):=cD auB (s,l,s2,aq,n)
theorem auC (T:bl)  (s:Int) (l:List Int) (s2:Int) (aq:List Int) (n:Int):WP T Yj (.same (.bool (yT ((s,l),(s2,aq)) n))) [.J (.agg [.int .i64 s,.Y (l.map ae),.int .i64 s2,.Y (aq.map ae)]),.J (.int .i64 n)]:=by
 refine cE ?_;simp only[Yj];unfold yT;rcases F:decide ((D l:Int)<=n)
 ·refine aZ ?_;repeat' (intro h<;>simp only[h,go_sem,go_sem_proc,F,aj,fu]<;>try refine ax ?_ ?_)
 ·refine aZ ?_;repeat' (intro h<;>simp only[h,go_sem,go_sem_proc,F,aj,g3]<;>try refine ax ?_ ?_)


theorem Qq {α:Type}{p:α->Bool}{l:List α}{i:Nat}{x:α}(O:l[i]?=some x):(l.take (i+1)).all p=((l.take i).all p&&p x):=by
 rw[hc,O,agT];simp
end Go.Mini
namespace Go.Mini
open Go
variable {P:Program} {A:Nat->Prop} {w aQ:World} {B bu:Lay} {mem mem':Mem}
structure lj (P:Program) (f:FuncId) (eW:List R->Mem->Option g0):Prop where
 real:Real P f
 run:∀args mem oO,eW args mem=some oO->∀A w B vs,fp A w B mem->dq w (b6 A B) B args vs->Oq P f vs A w B mem oO
def p4 (res:List oH)(cg:R->Mem->Prop):e3->bd->Prop
 |.exit _,_=>False
 |.normal,st=>∃m,pM st res=some m/\cg m st.mem
 |.ret,st=>∃m,pM st res=some m/\cg m st.mem
@[go_sem] theorem aKO {res:List oH}{st:bd}(cg:R->Mem->Prop)(id:Nat):p4 res cg (.exit id) st=False:=bx
@[go_sem] theorem aKP {res:List oH}{st:bd}(cg:R->Mem->Prop):p4 res cg .normal st=∃m,pM st res=some m/\cg m st.mem:=bx
@[go_sem] theorem aKQ {res:List oH}{st:bd}(cg:R->Mem->Prop):p4 res cg .ret st=∃m,pM st res=some m/\cg m st.mem:=bx
theorem Qr {mf:bY}{cg:R->Mem->Prop}{e:e3}{st:bd}(h:p4 mf.res cg e st):TT mf cg e st:=by
 cases e with
 |exit id=>exact h
 |normal=>exact h
 |ret=>exact h
theorem Qs {kb : Nat}{own : List Nat}{f : FuncId}{fn : Func}{mf : bY}(aH : P.funcs[f]? = some fn)(tI : (fn.name == "runtime.NumGoroutine") = false)(aY : sw P kb own fn = some mf): Real P f := by
 cases ag:fn.body with
 |none=>simp[sw,ag] at aY
 |some c=>exact⟨fn,c,aH,ag,tI⟩
def qU (aM:List R->Mem->Option (R->Mem->Prop))(args:List R)(mem:Mem):Option g0:=(aM args mem).map .rel
@[go_sem] theorem aKR (aM:List R->Mem->Option (R->Mem->Prop))(args:List R)(mem:Mem):qU aM args mem=(aM args mem).map .rel:=bx
theorem Qt {T : bl}{kb : Nat}{own : List Nat}(cC : qB P T)(hm : P.follows .mixedOrders = true){f : FuncId}{fn : Func}{mf : bY}(aH : P.funcs[f]? = some fn)(tI : (fn.name == "runtime.NumGoroutine") = false)(aY : sw P kb own fn = some { mf with body := erase mf.body })
  {aM:List R->Mem->Option (R->Mem->Prop)} (h:∀args mem cg,aM args mem=some cg->(D args)<=mf.n/\wp T mf.body (p4 mf.res cg) ⟨lv args,mem⟩):lj P f (qU aM):=by
 refine⟨Qs aH tI aY,λargs mem oO hz A w B vs bW ak=>?_⟩;unfold qU at hz;rw[dV] at hz;obtain⟨cg,gU,rfl⟩:=hz;obtain⟨hlen,wS⟩:=h args mem cg gU;refine Calls.mono (Gm (Post:=cg) cC hm aH aY hlen (λe st Q=>Qr Q) wS bW ak) λe aQ he=>?_;obtain⟨v,m,mem',bu,rfl,U,lx,aG⟩:=he;exact⟨v,m,mem',bu,rfl,U,lx,aG⟩
inductive sQ (db:Key->Prop):R->Prop
 |J {d:Data}:sQ db (.J d)
 |nil:sQ db .nil
 |ref {k g sz off len:Nat} (h:¬ db k):sQ db (.ref k g sz off len)
 |ptr {k g off:Nat} (h:¬ db k):sQ db (.ptr k g off)
 |fz {f:FuncId} {eT:List R} (h:∀(i:Nat) (m:R),eT[i]?=some m->sQ db m):sQ db (.fz f eT)
 |agg {cs:List R} (h:∀(i:Nat) (m:R),cs[i]?=some m->sQ db m):sQ db (.agg cs)
 |cM {cs:List R} (h:∀(i:Nat) (m:R),cs[i]?=some m->sQ db m):sQ db (.cM cs)
 |no:sQ db .no
 |undef:sQ db .undef
theorem clean_of {db:Key->Prop}{aX:Nat->Prop}(um:∀k,db k->B k=none){m:R}{v:Value}(h:bt w aX B m v):sQ db m:=by
 induction h with
 |J h=>exact .J
 |nil=>exact .nil
 |ref he bc ak=>exact .ref λai=>by rw[um _ ai] at he;cases he
 |ptr he bc ak=>exact .ptr λai=>by rw[um _ ai] at he;cases he
 |fz ar aa ay=>exact .fz λi m M=>ay i m _ M (bz (by have aA:=(dD.1 M).1;omega))
 |agg ar aa ay=>exact .agg λi m M=>ay i m _ M (bz (by have aA:=(dD.1 M).1;omega))
 |cM ar aa ay=>exact .cM λi m M=>ay i m _ M (bz (by have aA:=(dD.1 M).1;omega))
 |no=>exact .no
 |undef=>exact .undef
open Classical in
def sR (db:Key->Prop)(B:Lay):Lay:=λk=>if db k then none else B k
theorem EE {db:Key->Prop}{b:Nat}(h:sl (sR db B) b):sl B b:=by
 obtain⟨k,e,he,ag⟩:=h;unfold sR at he
 split at he
 ·cases he
 ·exact⟨k,e,he,ag⟩
theorem auD {db:Key->Prop}{m:R}{v:Value}(h:bt w (b6 A B) B m v)(H:sQ db m):bt w (b6 A (sR db B)) (sR db B) m v:=by
 have at_:∀{k:Key} {e:my},¬ db k->B k=some e->sR db B k=some e:=λQ he=>by unfold sR;rw[ah Q];exact he
 induction h with
 |J h=>exact .J (h.less λb ag=>ag.imp EE id)
 |nil=>exact .nil
 |ref he bc ak=>cases H with|ref Q=>exact .ref (at_ Q he) bc ak
 |ptr he bc ak=>cases H with|ptr Q=>exact .ptr (at_ Q he) bc ak
 |fz ar aa ay=>cases H with|fz H=>exact .fz ar λi d v M ak=>ay i d v M ak (H i d M)
 |agg ar aa ay=>cases H with|agg H=>exact .agg ar λi d v M ak=>ay i d v M ak (H i d M)
 |cM ar aa ay=>cases H with|cM H=>exact .cM ar λi d v M ak=>ay i d v M ak (H i d M)
 |no=>exact .no
 |undef=>exact .undef
theorem eD.drop {db:Key->Prop}{Qu:Mem}(ao:fp A w B mem)(um:∀k,db k->mem k=none)(h:eD A w B aQ bu mem')(F:∀k,db k->Qu k=none)(I:∀k,¬ db k->Qu k=mem' k)
  (H:∀k g cs,Qu k=some (g,cs)->∀m∈cs,(∃d,m=.J d)\/∃fO DD tA,mem fO=some (DD,tA)/\m∈tA):eD A w B aQ (sR db bu) Qu:=by
 have fW:∀k,db k->B k=none:=λk Q=>ao.Bi k (um k Q);have at_:∀{k:Key},¬ db k->sR db bu k=bu k:=λQ=>by unfold sR;rw[ah Q]
 have Yp:∀{k:Key},db k->sR db bu k=none:=λQ=>by unfold sR;rw[ad Q]
 refine⟨⟨λk Q=>?_,λk k' e e' b he gg ag h2=>?_,λb aN bM=>h.dZ.sep b aN (EE bM),h.dZ.lt,λk g cs Q=>?_⟩,⟨h.m2.size,λb ag bM=>?_,λk e he=>?_⟩,h.aF,λb ag=>h.fresh b (EE ag)⟩
 ·by_cases ai:db k
  ·exact Yp ai
  ·rw[at_ ai];exact h.dZ.Bi k (by rw[<-I k ai];exact Q)
 ·by_cases ai:db k
  ·rw[Yp ai] at he;cases he
  ·by_cases pN:db k'
   ·rw[Yp pN] at gg;cases gg
   ·rw[at_ ai] at he;rw[at_ pN] at gg;exact h.dZ.inj k k' e e' b he gg ag h2
 ·by_cases ai:db k
  ·rw[F k ai] at Q;cases Q
  ·obtain⟨e,he,bc,aK,ag⟩:=h.dZ.df k g cs (by rw[<-I k ai];exact Q);refine⟨e,by rw[at_ ai];exact he,bc,aK,λb jL=>?_⟩
   obtain⟨vs,T,aR,aV,hle,ab⟩:=ag b jL;refine⟨vs,T,aR,aV,hle,λi m M=>?_⟩;obtain⟨v,ak,qw⟩:=ab i m M;refine⟨v,ak,auD qw ?_⟩;rcases H k g cs Q m (ei M) with ⟨d,rfl⟩|⟨fO,DD,tA,kH,gp⟩
   ·exact .J
   ·obtain⟨bC,Kt,Pv,lz,qI⟩:=ao.df fO DD tA kH
    cases GV:bC.df with
    |none=>rw[lz GV] at gp;cases gp
    |some sD =>
     obtain⟨aKS,aKT,_,_,_,pY⟩:=qI sD GV;obtain⟨i0,sH⟩:=tL.1 gp;obtain⟨v0,_,auE⟩:=pY i0 m sH;exact clean_of fW auE
 ·obtain⟨af,aO⟩:=h.m2.JC b ag bM;exact⟨af,λO=>aO (EE O)⟩
 ·have ai:¬ db k:=λai=>by rw[fW k ai] at he;cases he
  rw[at_ ai];exact h.m2.key k e he
def Cv (bG:List R->Mem->Option (Data×Key×Nat×Nat×Data))(args:List R)(mem:Mem):Option g0:=(bG args mem).map λx => .e6 x.1 x.2.1 x.2.2.1 x.2.2.2.1 (.J x.2.2.2.2)
@[go_sem] theorem aKU (bG:List R->Mem->Option (Data×Key×Nat×Nat×Data))(args:List R)(mem:Mem):Cv bG args mem=(bG args mem).map λx => .e6 x.1 x.2.1 x.2.2.1 x.2.2.2.1 (.J x.2.2.2.2):=bx
theorem auF {T : bl}{kb : Nat}{own : List Nat}(cC : qB P T)(hm : P.follows .mixedOrders = true){f : FuncId}{fn : Func}{mf : bY}(aH : P.funcs[f]? = some fn)(tI : (fn.name == "runtime.NumGoroutine") = false)(aY : sw P kb own fn = some { mf with body := erase mf.body })
  (db:Key->Prop) {bG:List R->Mem->Option (Data×Key×Nat×Nat×Data)}
  (h:∀args mem r k g i d,bG args mem=some (r,k,g,i,d)->(D args)<=mf.n/\(∀j,db j->mem j=none)/\¬ db k/\(∃cs,mem k=some (g,cs)) /\
   wp T mf.body (p4 mf.res λm mem'=>cl 6 emp m=some r/\∀j,¬ db j->mem' j=a1 mem k g ((ri mem k).set i (.J d)) j) ⟨lv args,mem⟩):lj P f (Cv bG):=by
 refine⟨Qs aH tI aY,λargs mem oO hz A w B vs bW ak=>?_⟩;unfold Cv at hz;rw[dV] at hz;obtain⟨⟨r,k,g,i,d⟩,ot,rfl⟩:=hz;obtain⟨hlen,um,Q,⟨cs,jM⟩,wS⟩:=h args mem r k g i d ot;refine Calls.mono (Gm (Post:=λm mem'=>cl 6 emp m=some r/\∀j,¬ db j->mem' j=a1 mem k g ((ri mem k).set i (.J d)) j) cC hm aH aY hlen (λe st Q=>Qr Q) wS bW ak) λe aQ he=>?_;obtain⟨v,m,mem',bu,rfl,U,lx,aa,gp⟩:=he;refine⟨v,sR db bu,rfl,U.drop bW um (λj ai=>?_) (λj ai=>(gp j ai).symm) ?_,.J ((OL 6 m v r aa lx).less λb ag=>ag.imp EE id)⟩
 ·have:j≠k:=λe=>Q (e ▸ ai);simp only[a1,this,if_false];exact um j ai
 ·intro cS cp n3 I m nB
  by_cases gz:cS=k
  ·subst gz;simp only[a1,if_true,ca,fD] at I;obtain⟨-,rfl⟩:=I;rcases yU nB with O|rfl
   ·refine .inr ⟨cS,g,cs,jM,?_⟩
    simpa [ri,jM] using O
   ·exact .inl ⟨d,rfl⟩
  ·simp only[a1,gz,if_false] at I;exact .inr ⟨cS,cp,n3,I,nB⟩
def Yq:Option g0->Option g0->Option g0
 |some x,_=>some x
 |none,e=>e
@[go_sem] theorem aKV (x:g0)(e:Option g0):Yq (some x) e=some x:=bx
@[go_sem] theorem aKW (e:Option g0):Yq none e=e:=bx
def xt (lU:FuncId->Option (List Data->Option eR))(sS:FuncId->Option (List R->Mem->Option g0)):bl:=λf args mem=>match sS f with
 |some eW=>Yq (eW args mem) (BF lU f args mem)
 |none=>BF lU f args mem
theorem vS {lU:FuncId->Option (List Data->Option eR)}{sS:FuncId->Option (List R->Mem->Option g0)}(h:∀f aP,lU f=some aP->tH P f aP)(ab:∀f eW,sS f=some eW->lj P f eW):qB P (xt lU sS):=by
 intro f args mem oO cC;unfold xt at cC
 split at cC
 ·rename_i eW hz;have U:=ab f eW hz
  cases O:eW args mem with
  |none =>
   rw[O] at cC;exact aew h f args mem oO cC
  |some y =>
   rw[O] at cC
   cases cC;exact⟨U.real,λA w B vs bW ak=>U.run args mem oO O A w B vs bW ak⟩
 ·exact aew h f args mem oO cC
theorem KC.agU {f:FuncId}{bQ:List R->Mem->Option (R×Mem)}(h:KC P f bQ):lj P f (BK bQ):=by
 refine⟨h.real,λargs mem oO hz A w B vs bW ak=>?_⟩;unfold BK at hz;rw[dV] at hz;obtain⟨x,O,rfl⟩:=hz;exact h.run args mem x O A w B vs bW ak
section
variable {lU:FuncId->Option (List Data->Option eR)} {sS:FuncId->Option (List R->Mem->Option g0)} {f:FuncId}
theorem o1 {aP:List Data->Option eR}(h:sS f=none)(cy:lU f=some aP):xt lU sS f=aW aP:=by
 funext args mem
 unfold xt;rw[h];exact congrFun (congrFun (aey cy) args) mem
theorem xu {eW:List R->Mem->Option g0}(h:sS f=some eW)(cy:lU f=none):xt lU sS f=eW:=by
 funext args mem
 unfold xt BF;rw[h,cy];dsimp only
 cases eW args mem<;>rfl
theorem HC {aP:List Data->Option eR}{bQ:List R->Mem->Option (R×Mem)}(h:sS f=some (BK bQ))(cy:lU f=some aP):xt lU sS f=zP aP bQ:=by
 funext args mem
 unfold xt;rw[h];unfold zP BK;rw[show BF lU f args mem=aW aP args mem from congrFun (congrFun (aey cy) args) mem];dsimp only
 cases bQ args mem<;>rfl
end
def Qv (l:List (FuncId×(List R->Mem->Option g0))):FuncId->Option (List R->Mem->Option g0):=λf=>(l.find? λp=>p.1==f).map (·.2)
theorem vT {l:List (FuncId×(List R->Mem->Option g0))}(h:∀p∈l,lj P p.1 p.2):∀f bQ,Qv l f=some bQ->lj P f bQ:=by
 intro f aP aH;unfold Qv at aH;rw[dV] at aH;obtain⟨p,aG,rfl⟩:=aH;have F:=List.mem_of_find?_eq_some aG;have I:=List.find?_some aG;have af:p.1=f:=by simpa using I
 exact af ▸ h p F
theorem nf:∀p∈([]:List (FuncId×(List R->Mem->Option g0))),lj P p.1 p.2:=by simp
theorem p5 {f:FuncId}{aP:List R->Mem->Option g0}{l:List (FuncId×(List R->Mem->Option g0))}(h:lj P f aP)(ar:∀p∈l,lj P p.1 p.2):∀p∈(f,aP)::l,lj P p.1 p.2:=by
 intro p aG;rcases hH.1 aG with rfl|aG
 ·exact h
 ·exact ar p aG
open Classical in
def xv {α:Type}(bk:α->List R->Mem->Prop)(cg:α->Mem->R->Mem->Prop):List R->Mem->Option (R->Mem->Prop):=λargs mem=>if h:∃a,bk a args mem then some (cg (tJ h) mem) else none
theorem Yr {α:Type}{bk:α->List R->Mem->Prop}{cg:α->Mem->R->Mem->Prop}(uniq:∀a b args mem,bk a args mem->bk b args mem->a=b){a:α}{args:List R}{mem:Mem}(h:bk a args mem):xv bk cg args mem=some (cg a mem):=by
 have O:∃b,bk b args mem:=⟨a,h⟩;unfold xv;rw[dif_pos O,uniq _ _ _ _ (po O) h]
theorem LS {α:Type}{bk:α->List R->Mem->Prop}{cg:α->Mem->R->Mem->Prop}{args:List R}{mem:Mem}{x:R->Mem->Prop}(h:xv bk cg args mem=some x):∃a,bk a args mem/\x=cg a mem:=by
 unfold xv at h
 split at h
 ·rename_i O;exact⟨_,po O,(nt h).symm⟩
 ·cases h
end Go.Mini
namespace Go.Mini
open Go
def Qw:=cu Er λ(s,l,s2,aq)=>some (.same (.bool (s==0)))
@[go_sem] theorem aKX (s:Int)(l:List Int)(s2:Int)(aq:List Int):Qw [.agg [.int .i64 s,.Y (l.map ae),.int .i64 s2,.Y (aq.map ae)]]=some (.same (.bool (s==0))):=cD Lv (s,l,s2,aq)
theorem LU (T:bl)  (s:Int) (l:List Int) (s2:Int) (aq:List Int):WP T Xa (.same (.bool (s==0))) [.J (.agg [.int .i64 s,.Y (l.map ae),.int .i64 s2,.Y (aq.map ae)])]:=by
 refine cE ?_;simp only[Xa];refine aZ ?_;repeat' (intro h<;>simp only[h,go_sem,go_sem_proc]<;>try refine ax ?_ ?_)
def Az (args:List R)(mem:Mem):Option (Data×Key×Nat×Nat×Data) :=
 match args with
 | [.ptr k g 0,.J (.agg [.int .i64 s,.Y l,.int .i64 s2,.Y aq]),.J (.int .i64 e)]=>match mem k,mem 168004,mem 168006 with
  |some (c8,[_,_,.J (.bool c)]),none,none=>if c8=g/\k≠168004/\k≠168006 then some (.agg [.int .i64 s,.Y l,.int .i64 s2,.Y aq],k,g,2,.bool (c||e != 0)) else none
  |_,_,_=>none
 |_=>none
def Qx (j:Key):Prop:=j=168004\/j=168006
theorem auG (T:bl)(args:List R)(mem:Mem)(r:Data)(k g i:Nat)(d:Data)(h:Az args mem=some (r,k,g,i,d)):
  (D args)<=19/\(∀j,Qx j->mem j=none)/\¬ Qx k/\(∃cs,mem k=some (g,cs)) /\
   wp T Qc.body (p4 Qc.res λm mem'=>cl 6 emp m=some r/\∀j,¬ Qx j->mem' j=a1 mem k g ((ri mem k).set i (.J d)) j) ⟨lv args,mem⟩:=by
 unfold Az at h
 split at h
 ·rename_i fO DD s l s2 aq e
  split at h
  ·rename_i cF a b c hm aO bR
   split at h
   ·rename_i bc;obtain⟨rfl,vU,n6⟩:=bc;simp only[ca,fD] at h;obtain⟨rfl,rfl,rfl,rfl,rfl⟩:=h;refine⟨by simp,?_,?_,⟨_,hm⟩,?_⟩
    ·rintro j (rfl|rfl)
     ·exact aO
     ·exact bR
    ·rintro (h|h)
     ·exact vU h
     ·exact n6 h
    ·have iE:∀x:Bool,ri mem fO=[a,b,.J (.bool c)]:=λ_=>by simp only[ri,hm]
     have Qy:(fO=168004)=False:=eq_false vU;have Qz:(fO=168006)=False:=eq_false n6;have QA:(168004=fO)=False:=eq_false (Ne.symm vU);have QB:(168006=fO)=False:=eq_false (Ne.symm n6);refine tw ?_;simp only[Qc]
     cases c
     ·simp only[go_sem,go_sem_proc,hm,aO,bR,Qy,Qz,QA,QB];repeat' (first|refine ax ?_ ?_|fail)<;>intro h<;>simp only[h,go_sem,go_sem_proc,hm,aO,bR,Qy,Qz,QA,QB]
      refine⟨_,rfl,by first|rfl|simp[go_sem,cl],λj ai=>?_⟩
      have QC:j≠168004:=λh=>ai (.inl h);have Cw:j≠168006:=λh=>ai (.inr h)
      by_cases ea:j=fO<;>simp[a1,ri,hm,QC,Cw,ea,vU,n6,bne]
     ·simp only[go_sem,go_sem_proc,hm,aO,bR,Qy,Qz,QA,QB];repeat' (first|refine ax ?_ ?_|fail)<;>intro h<;>simp only[h,go_sem,go_sem_proc,hm,aO,bR,Qy,Qz,QA,QB]
      refine⟨_,rfl,by first|rfl|simp[go_sem,cl],λj ai=>?_⟩
      have QC:j≠168004:=λh=>ai (.inl h);have Cw:j≠168006:=λh=>ai (.inr h)
      by_cases ea:j=fO<;>simp[a1,ri,hm,QC,Cw,ea,vU,n6,bne]
   ·cases h
  ·cases h
 ·cases h
abbrev dy:=Nat×Nat×List bg
def refsOf (N:Nat)(rows:List dy):List R:=rows.map λx => .ref (x.1+900000) x.2.1 4 0 (N+1)
structure AA (go N:Nat) (rows:List dy) (bad:Bool) (mem:Mem):Prop where
 m:mem 129015=some (0,[.ref 129035 go 1 0 N,.J (.int .i64 N),.J (.bool bad)])
 o:mem 129035=some (go,refsOf N rows)
 r:∀x∈rows,mem (x.1+900000)=some (x.2.1,a7 aE x.2.2)
structure j3 (N:Nat) (rows:List dy):Prop where
 len:(D rows)=N
 QD:(rows.map (·.1)).Nodup
 row:∀x∈rows,x.2.2.length=N+1/\∀f∈x.2.2,okF f
def HD (k:Nat):Prop:=k<900000/\k≠129015/\k≠129035/\k≠148008/\k≠148010/\k≠148013
def kq (eG:Mem)(go N:Nat)(rows:List dy)(bad:Bool)(mem:Mem):Prop:=AA go N rows bad mem/\∀k,HD k->mem k=eG k
section
variable {eG mem:Mem} {go N:Nat} {rows:List dy} {l5:Bool}
theorem kq.flag (b:Bool)(h:kq eG go N rows l5 mem):kq eG go N rows b (a1 mem 129015 0 [.ref 129035 go 1 0 N,.J (.int .i64 N),.J (.bool b)]):=by
 refine⟨⟨by simp[a1],by simp[a1,h.1.o],λx O=>?_⟩,λk Q=>?_⟩
 ·rw[<-h.1.r x O];exact ah (show ¬ ((x.1+900000:Nat)=129015) by omega)
 ·rw[<-h.2 k Q];exact ah Q.2.1
theorem kq.own {k g:Nat}{cs:List R}(Q:k=148008\/k=148010\/k=148013)(h:kq eG go N rows l5 mem):kq eG go N rows l5 (a1 mem k g cs):=by
 have bE:∀j:Nat,j≠k->a1 mem k g cs j=mem j:=λj ai=>ah ai;refine⟨⟨by rw[bE _ (by omega)];exact h.1.m,by rw[bE _ (by omega)];exact h.1.o,λx O=>by rw[bE _ (by omega)];exact h.1.r x O⟩,λj ai=>?_⟩
 have:=ai.2;rw[bE _ (by omega)];exact h.2 j ai
theorem kq.set {i:Nat}{x:dy}(cW:j3 N rows)(M:rows[i]?=some x)(l:List bg)(h:kq eG go N rows l5 mem):kq eG go N (rows.set i (x.1,x.2.1,l)) l5 (a1 mem (x.1+900000) x.2.1 (a7 aE l)):=by
 have bE:∀j:Nat,j≠x.1+900000->a1 mem (x.1+900000) x.2.1 (a7 aE l) j=mem j:=λj ai=>ah ai;obtain⟨aA,agV⟩:=dD.1 M;refine⟨⟨by rw[bE _ (by omega)];exact h.1.m,?_,λy aw=>?_⟩,λj ai=>?_⟩
 ·rw[bE _ (by omega),h.1.o]
  congr 2
  unfold refsOf;apply qx;intro j;rw[bn,bn,nE]
  by_cases lA:i=j
  ·subst lA;rw[ad rfl,ad aA,M]
   rfl
  ·rw[ah lA]
 ·obtain⟨j,ai⟩:=tL.1 aw;rw[nE] at ai
  by_cases lA:i=j
  ·subst lA;rw[ad rfl,ad aA] at ai
   cases ai;simp[a1]
  ·rw[ah lA] at ai
   have aKY:y.1≠x.1:=by
    intro he;have F:(rows.map (·.1))[j]?=some y.1:=by rw[bn,ai];rfl
    have I:(rows.map (·.1))[i]?=some y.1:=by rw[bn,M,he];rfl
    have ar:i<(rows.map (·.1)).length:=by rw[aj];exact aA
    exact lA ((agW ar cW.QD).1 (I.trans F.symm))
   rw[bE (y.1+900000) (by omega)];exact h.1.r y (ei ai)
 ·have:=ai.1;rw[bE j (by omega)];exact h.2 j ai
theorem kq.swap {i j:Nat}{a b:dy}(M:rows[i]?=some a)(ai:rows[j]?=some b)(h:kq eG go N rows l5 mem):kq eG go N ((rows.set i b).set j a) l5 (a1 (a1 mem 129035 go (refsOf N (rows.set i b))) 129035 go (refsOf N ((rows.set i b).set j a))):=by
 have bE:∀k:Nat,k≠129035->a1 (a1 mem 129035 go (refsOf N (rows.set i b))) 129035 go (refsOf N ((rows.set i b).set j a)) k=mem k:=λk Q=>by simp[a1,Q]
 refine⟨⟨by rw[bE _ (by omega)];exact h.1.m,by simp[a1],λx O=>?_⟩,λk Q=>?_⟩
 ·rw[bE _ (by omega)];apply h.1.r;rcases yU O with O|rfl
  ·rcases yU O with O|rfl
   ·exact O
   ·exact ei ai
  ·exact ei M
 ·rw[bE _ Q.2.2.1];exact h.2 k Q
theorem j3.set {i:Nat}{x:dy}(cW:j3 N rows)(M:rows[i]?=some x){l:List bg}(ar:(D l)=N+1)(aH:∀f∈l,okF f):j3 N (rows.set i (x.1,x.2.1,l)):=by
 obtain⟨aA,agV⟩:=dD.1 M;refine⟨by rw[hn];exact cW.len,?_,λy aw=>?_⟩
 ·have:(rows.set i (x.1,x.2.1,l)).map (·.1)=rows.map (·.1):=by
   rw[vV];apply qx;intro j;rw[nE]
   by_cases lA:i=j
   ·subst lA;rw[ad rfl,aj,ad aA,bn,M];rfl
   ·rw[ah lA]
  rw[this];exact cW.QD
 ·rcases yU aw with aw|rfl
  ·exact cW.row y aw
  ·exact⟨ar,aH⟩
theorem auH {α:Type}{l:List α}{i j:Nat}{a b:α}(M:l[i]?=some a)(ai:l[j]?=some b)(h:l.Nodup):((l.set i b).set j a).Nodup:=by
 obtain⟨hU,sT⟩:=dD.1 M;obtain⟨ik,Og⟩:=dD.1 ai
 have main:∀p q,p<q->q<(D l)->((l.set i b).set j a)[p]?≠((l.set i b).set j a)[q]?:=by
  intro p q QF aL;rw[nE,nE,nE,nE];have inj:∀p q,p<(D l)->l[p]?=l[q]?->p=q:=λp q aG he=>(agW aG h).1 he;simp only[hn]
  by_cases F:j=p
  ·subst F;have I:¬ j=q:=by omega
   rw[ad rfl,ad ik,ah I]
   by_cases af:i=q
   ·subst af;rw[ad rfl,ad hU];intro he;rw[<-M,<-ai] at he;have:=inj _ _ hU he;omega
   ·rw[ah af,<-M];intro he;exact af (inj _ _ hU he)
  ·rw[ah F]
   by_cases af:i=p
   ·subst af;rw[ad rfl,ad hU]
    by_cases I:j=q
    ·subst I;rw[ad rfl,ad ik,<-M,<-ai];intro he;have:=inj _ _ ik he;omega
    ·rw[ah I,ah (by omega),<-ai];intro he;exact I (inj _ _ ik he)
   ·rw[ah af]
    by_cases I:j=q
    ·subst I;rw[ad rfl,ad ik,<-M];intro he;exact af (inj _ _ hU he.symm)
    ·rw[ah I]
     by_cases aO:i=q
     ·subst aO;rw[ad rfl,ad hU,<-ai];intro he;exact F (inj _ _ ik he.symm)
     ·rw[ah aO];intro he;have:=inj _ _ (by omega) he;omega
 refine List.pairwise_iff_getElem.2 λp q aG aL QF he=>?_;simp only[hn] at aG aL;refine main p q QF aL ?_;rw[bz (by simpa using aG),bz (by simpa using aL),he]
theorem j3.swap {i j:Nat}{a b:dy}(cW:j3 N rows)(M:rows[i]?=some a)(ai:rows[j]?=some b):j3 N ((rows.set i b).set j a):=by
 refine⟨by rw[hn,hn];exact cW.len,?_,λx O=>?_⟩
 ·rw[vV,vV];exact auH (by rw[bn,M];rfl) (by rw[bn,ai];rfl) cW.QD
 ·rcases yU O with O|rfl
  ·rcases yU O with O|rfl
   ·exact cW.row x O
   ·exact cW.row _ (ei ai)
  ·exact cW.row _ (ei M)
end
theorem auI {l:List bg}{i:Nat}{a b c d}(h:l[i]?=some ((a,b),(c,d))):cut (a7 aE l) (i*4) 4=some [.J (.int .i64 a),.J (.Y (b.map ae)),.J (.int .i64 c),.J (.Y (d.map ae))]:=by
 have:=T1 kO h (f:=0) (n:=4) (by omega);rw[n1] at this;rw[this]
 rfl
theorem auJ {N:Nat}{rows:List dy}{i:Nat}{x:dy}(h:rows[i]?=some x):cut (refsOf N rows) i 1=some [.ref (x.1+900000) x.2.1 4 0 (N+1)]:=by
 obtain⟨aA,rfl⟩:=dD.1 h;unfold cut refsOf;rw[ad (by rw[aj];omega),<-List.map_drop,ij aA]
 rfl
theorem auK {l m:List bg}(h:a7 aE l=a7 aE m):l=m:=VD kO nd _ _ h (by omega)
def nF (f:bg):Bool:=f.1.1==0
def cellOf (x:dy)(c:Nat):bg:=x.2.2.getD c fv
def findAt (rows:List dy)(r c:Nat):Nat:=r+(rows.drop r).findIdx λx => !nF (cellOf x c)
def jq (fB:bg):List bg->List bg->Bool->List bg×Bool
 |f::dP,p::ps,false=>((pz f (om fB p).1).1::(jq fB dP ps ((om fB p).2 != 0||(pz f (om fB p).1).2 != 0)).1,(jq fB dP ps ((om fB p).2 != 0||(pz f (om fB p).1).2 != 0)).2)
 |dP,_,b=>(dP,b)
def j4 (fY:List bg)(r c:Nat):Nat->List dy->Bool->List dy×Bool
 |_,[],bad=>([],bad)
 |i,x::xs,bad=>if (i==r||nF (cellOf x c))=true then (x::(j4 fY r c (i+1) xs bad).1,(j4 fY r c (i+1) xs bad).2) else
  ((x.1,x.2.1,(jq (cellOf x c) x.2.2 fY bad).1)::(j4 fY r c (i+1) xs (jq (cellOf x c) x.2.2 fY bad).2).1,(j4 fY r c (i+1) xs (jq (cellOf x c) x.2.2 fY bad).2).2)
def hW (LD:bg)(l:List bg):List bg×Bool:=(l.map λf=>(j1 f LD).1,l.any λf=>(j1 f LD).2 != 0)
def rowAt (rows:List dy)(i:Nat):dy:=rows.getD i (0,0,[])
def qV (rows:List dy)(i j:Nat):List dy:=(rows.set i (rowAt rows j)).set j (rowAt rows i)
def EF (rows:List dy)(r c:Nat):List dy:=rows.set r ((rowAt rows r).1,(rowAt rows r).2.1,(hW (cellOf (rowAt rows r) c) (rowAt rows r).2.2).1)
def iK (rows:List dy)(r c:Nat):Bool×List dy×Bool :=
 if findAt rows r c=(D rows) then (true,rows,false) else
  (false,j4 (hW (cellOf (rowAt (qV rows r (findAt rows r c)) r) c) (rowAt (qV rows r (findAt rows r c)) r).2.2).1 r c 0 (EF (qV rows r (findAt rows r c)) r c)
   (hW (cellOf (rowAt (qV rows r (findAt rows r c)) r) c) (rowAt (qV rows r (findAt rows r c)) r).2.2).2)
theorem auL {rows:List dy}{r c i:Nat}{x:dy}(O:rows[i]?=some x)(ab:r<=i)(aV:∀j y,r<=j->j<i->rows[j]?=some y->nF (cellOf y c)=true)(h:nF (cellOf x c)=false):findAt rows r c=i:=by
 unfold findAt;obtain⟨aA,agV⟩:=dD.1 O
 have:(rows.drop r).findIdx (λx => !nF (cellOf x c))=i-r:=by
  rw[List.findIdx_eq (by rw[rB];omega)];refine⟨?_,λj ai=>?_⟩
  ·rw[LV];have:rows[r+(i-r)]?=some x:=by rw[show r+(i-r)=i by omega];exact O
   rw[(dD.1 this).2,h];rfl
  ·rw[LV];have:=aV (r+j) _ (by omega) (by omega) (bz (by omega));rw[this];rfl
 omega
theorem auM {rows:List dy}{r c:Nat}(ab:r<=D rows)(aV:∀j y,r<=j->rows[j]?=some y->nF (cellOf y c)=true):findAt rows r c=D rows:=by
 unfold findAt
 have:(rows.drop r).findIdx (λx => !nF (cellOf x c))=(rows.drop r).length:=by
  rw[List.findIdx_eq_length];intro y aw;obtain⟨j,ai⟩:=tL.1 aw;rw[k3] at ai;rw[aV (r+j) y (by omega) ai];rfl
 rw[this,rB];omega
theorem lH {x:Rat}(h:dv x):okF (av x):=⟨nD h.1,nD (xl h)⟩
theorem uo:okF fv:=⟨by simp[fv],by simp[fv]⟩
theorem auN (p q:Raw):okF (hB p q).1:=by
 unfold hB
 split
 ·rename_i h;rw[eM] at h;obtain⟨x,O,az⟩:=(jX _).1 h.1;obtain⟨y,aw,aD⟩:=(jX _).1 h.2
  split
  ·exact uo
  ·rw[az,aD,fR,fR];exact lH (P4 O aw)
 ·exact uo
theorem Ys (p q:Raw×Int):okF (vM p q).1:=by
 unfold vM
 split
 ·split
  ·exact auN _ _
  ·exact uo
 ·exact uo
theorem auO (a b:bg):okF (vN a b).1:=by
 unfold vN
 split
 ·split
  ·exact Ys _ _
  ·exact uo
 ·exact uo
theorem agX (a b:bg):okF (pz a b).1:=by
 unfold pz
 split
 ·split
  ·exact auO _ _
  ·exact uo
 ·exact uo
theorem auP (a b:bg):okF (om a b).1:=by
 unfold om
 split
 ·split
  ·exact Ys _ _
  ·exact uo
 ·exact uo
theorem agY (a b:bg):okF (j1 a b).1:=by
 unfold j1
 split
 ·split
  ·split
   ·exact uo
   ·exact Ys _ _
  ·exact uo
 ·exact uo
theorem Yt {x:dy}{c:Nat}{f:bg}(h:x.2.2[c]?=some f):cellOf x c=f:=by
 unfold cellOf;rw[ep,h]
 rfl
theorem xw {rows:List dy}{i:Nat}{x:dy}(h:rows[i]?=some x):rowAt rows i=x:=by
 unfold rowAt;rw[ep,h]
 rfl
theorem AB {l:List bg}{k:Nat}(h:k<D l):(k*4+4<=(a7 aE l).length)=True:=eq_true (by rw[oQ kO];omega)
theorem HE {l:List bg}{k:Nat}{a b c d}(h:l[k]?=some ((a,b),(c,d))):gu 4 (gL (k*4) (a7 aE l))=[.J (.int .i64 a),.J (.Y (b.map ae)),.J (.int .i64 c),.J (.Y (d.map ae))]:=by
 have:=auI h;unfold cut at this;rw[ad (by rw[oQ kO];have:=(dD.1 h).1;omega)] at this;exact nt this
theorem HF {l:List bg}{k:Nat}(h:k<D l)(a:Int)(b:List Int)(c:Int)(d:List Int):
  gu (k*4) (a7 aE l)++[R.J (.int .i64 a),.J (.Y (b.map ae)),.J (.int .i64 c),.J (.Y (d.map ae))]++gL (k*4+4) (a7 aE l)=a7 aE (l.set k ((a,b),(c,d))):=by
 rw[<-T2 kO h]
 rfl
theorem EG {N:Nat}{rows:List dy}{i:Nat}(h:i<D rows):(i+1<=(refsOf N rows).length)=True:=eq_true (by unfold refsOf;rw[aj];omega)
theorem HG {N:Nat}{rows:List dy}{i:Nat}{x:dy}(h:rows[i]?=some x):gu 1 (gL i (refsOf N rows))=[.ref (x.1+900000) x.2.1 4 0 (N+1)]:=by
 have:=auJ (N:=N) h;unfold cut at this;rw[ad (by unfold refsOf;rw[aj];have:=(dD.1 h).1;omega)] at this;exact nt this
theorem agZ {N:Nat}{rows:List dy}{i:Nat}(h:i<D rows)(b:dy):gu i (refsOf N rows)++[R.ref (b.1+900000) b.2.1 4 0 (N+1)]++gL (i+1) (refsOf N rows)=refsOf N (rows.set i b):=by
 unfold refsOf;rw[vV,List.set_eq_take_append_cons_drop,ad (by rw[aj];exact h),gW]
 rfl
theorem ag0 (fB:bg):∀(l p:List bg) (b:Bool),(jq fB l p b).1.length=D l
 | [],_,_=>by simp[jq]
 |f::dP,[],b=>by cases b<;>simp[jq]
 |f::dP,p::ps,true=>by simp[jq]
 |f::dP,p::ps,false=>by simp[jq,ag0 fB dP ps]
theorem Yu (fB:bg)(l p:List bg):jq fB l p true=(l,true):=by
 cases l<;>cases p<;>simp[jq]
theorem ag1 (fB:bg)(p:List bg)(b:Bool):jq fB [] p b=([],b):=by
 cases b<;>simp[jq]
theorem auQ {α:Type}(f:α->α){l:List α}{k:Nat}{x:α}(h:l[k]?=some x):((l.take k).map f++l.drop k).set k (f x)=(l.take (k+1)).map f++l.drop (k+1):=by
 obtain⟨aA,O⟩:=dD.1 h;have ar:((l.take k).map f).length=k:=by rw[aj,fI];omega
 rw[EH _ _ (by omega),ar,mC,ij aA,rQ,hc,h,jD,gW]
 rfl
theorem auR {α:Type}(f:α->α){l:List α}{k:Nat}:((l.take k).map f++l.drop k)[k]?=l[k]?:=by
 rcases ih k (D l) with h|h
 ·have ar:((l.take k).map f).length=k:=by rw[aj,fI];omega
  rw[rm (by omega),ar,mC,k3,n1]
 ·rw[mB h,mB (by rw[fr,aj,fI,rB];omega)]
theorem Yv {α:Type}{rows:List α}{r i:Nat}{x xx:α}(O:rows[i]?=some x)(pC:rows[r]?=some xx):((rows.set r x).set i xx)[r]?=some x:=by
 have F:=(dD.1 O).1;have I:=(dD.1 pC).1;rw[nE,nE,hn]
 by_cases h:i=r
 ·subst h;rw[O] at pC
  cases pC;rw[ad rfl,ad F]
 ·rw[ah h,ad rfl,ad I]
theorem Yw {α:Type}{l:List α}{i:Nat}{x:α}(h:l[i]?=some x):l.set i x=l:=by
 obtain⟨aA,O⟩:=dD.1 h;apply qx;intro j;rw[nE]
 by_cases lA:i=j
 ·subst lA;rw[ad rfl,ad aA,h]
 ·rw[ah lA]
theorem auS (a b:Nat):(!(a+900000==129015)||decide (2<b*4))=true:=by
 have:(a+900000==129015)=false:=by simp
 rw[this];rfl
theorem Yx:HD 168004:=by unfold HD;omega
theorem Yy:HD 168006:=by unfold HD;omega
def eC.sub:eC->List Nat->eC
 |.seq a _,0::p=>a.sub p
 |.seq _ b,_::p=>b.sub p
 |.cond _ a _,0::p=>a.sub p
 |.cond _ _ b,_::p=>b.sub p
 |.block _ c,_::p=>c.sub p
 |.ghost _ c,_::p=>c.sub p
 |.loop c,_::p=>c.sub p
 |c,_=>c
def auT (f:bg):List R:=[.J (.int .i64 f.1.1),.J (.Y (f.1.2.map ae)),.J (.int .i64 f.2.1),.J (.Y (f.2.2.map ae))]
theorem auU (T:bl)(xy:T BO=Cv Az)(ng:T yv=aW An)(l6:T wX=aW yO){K:e3->bd->Prop}{kk:List gA}
  (go N r c i2:Nat) (mem:Mem) (Cx:mem 168004=none) (Cy:mem 168006=none) (gD:N<=40) (rR:List dy) (sU:j3 N rR) (x y:dy) (fY:List bg) (yV:rR[i2]?=some y) (bH:rR[r]?=some (x.1,x.2.1,fY)) (EI:i2≠r) (uq:r<N) (l5:Bool)
  (cF:Int) (cp:List Int) (hb:Int) (j5:List Int) (oY:okF ((cF,cp),(hb,j5))) (tm:Nat->R) (m:Mem) (bQ:Nat)
  (bC:tm 0=.ptr 129015 0 0) (az:tm 1=.J (.int .i64 r)) (aD:tm 2=.J (.int .i64 c)) (er:tm 12=.ref (y.1+900000) y.2.1 4 0 (N+1)) (h6:tm 13=.ptr 148013 bQ 0) (p6:tm 112=.ref 129035 go 1 0 N) (LW:tm 113=.J (.int .i64 N)) (LX:tm 114=.J (.int .i64 i2)) (xz:tm 14=.J (.int .i64 0))
  (em:m 148013=some (bQ,[.J (.int .i64 cF),.J (.Y (cp.map ae)),.J (.int .i64 hb),.J (.Y (j5.map ae))])) (gE:kq mem go N rR l5 m)
  (dQ:∀tm' m' l b,tm' 0=.ptr 129015 0 0->tm' 1=.J (.int .i64 r)->tm' 2=.J (.int .i64 c)->tm' 112=.ref 129035 go 1 0 N->tm' 113=.J (.int .i64 N)->tm' 114=.J (.int .i64 i2)->(l,b)=jq ((cF,cp),(hb,j5)) y.2.2 fY l5->j3 N (rR.set i2 (y.1,y.2.1,l))->kq mem go N (rR.set i2 (y.1,y.2.1,l)) b m'->cK T K kk (.exit 6) ⟨tm',m'⟩) :
  wp T (yR.body.sub [1,1,1,1,1,1,1,0,1,0,0,1,1,0,0,1,1,1,1,0]) (cK T K kk) ⟨tm,m⟩:=by
 simp only[yR,eC.sub];have auV:i2<N:=by rw[<-sU.len];exact (dD.1 yV).1
 obtain⟨zy,QG⟩:=sU.row y (ei yV);have auW:rR.set i2 (y.1,y.2.1,[]++y.2.2.drop 0)=rR:=Yw yV
 refine dw [0,1,2,12,13,112,113,114] [148013] (λ((k,pre,b):Nat×List bg×Bool) tm m=>k<=N+1/\D pre=k/\(∀f∈pre,okF f)/\jq ((cF,cp),(hb,j5)) y.2.2 fY l5=(pre++(jq ((cF,cp),(hb,j5)) (y.2.2.drop k) (fY.drop k) b).1,(jq ((cF,cp),(hb,j5)) (y.2.2.drop k) (fY.drop k) b).2)/\tm 14=.J (.int .i64 k)/\kq mem go N (rR.set i2 (y.1,y.2.1,pre++y.2.2.drop k)) b m) (λ(k,_,_)=>N+1-k) (0,[],l5) (by
  refine⟨fk _,rfl,(by simp),rfl,xz,?_⟩;rw[auW];exact gE) ?_
 intro vs ms aT aS;simp only[go_sem,go_sem_proc,bC,az,aD,er,h6,p6,LW,LX,em] at aT aS;subst aT aS;clear bC az aD er h6 p6 LW LX em xz gE tm m;rintro⟨eF,pre,b⟩ tm tX Q hm ⟨aKZ,B7,HH,LY,xc,ur⟩;simp only[go_sem,go_sem_proc,bf] at Q hm;obtain⟨ao,F,I,iV,od,sV,sW,sX⟩:=Q;have auX:(pre++y.2.2.drop eF).length=N+1:=by rw[fr,rB];omega
 have HI:j3 N (rR.set i2 (y.1,y.2.1,pre++y.2.2.drop eF)):=sU.set yV auX λf aH=>by
  rw[jk] at aH;rcases aH with aH|aH
  ·exact HH f aH
  ·exact QG f (Lh aH)
 have ag2:(rR.set i2 (y.1,y.2.1,pre++y.2.2.drop eF))[i2]?=some (y.1,y.2.1,pre++y.2.2.drop eF):=by
  rw[nE,ad rfl,ad (by rw[sU.len];exact auV)]
 have yJ:(rR.set i2 (y.1,y.2.1,pre++y.2.2.drop eF))[r]?=some (x.1,x.2.1,fY):=by
  rw[nE,ah EI];exact bH
 have rS:=ur.1.m;have uu:=ur.1.o;rcases dF (eF<N+1) with auY|aK0
 ·have l7:decide ((eF:Int)<((N+1:Nat):Int))=true:=dp
  cases b
  ·obtain⟨⟨⟨c0,dj⟩,⟨a3,a4⟩⟩,uv⟩:∃f,y.2.2[eF]?=some f:=⟨_,bz (by omega)⟩;have aK1:(D fY)=N+1:=(sU.row _ (ei bH)).1;obtain⟨⟨⟨km,kI⟩,⟨uw,xA⟩⟩,sY⟩:∃f,fY[eF]?=some f:=⟨_,bz (by omega)⟩;have ve:=QG _ (ei uv);have ag3:=(sU.row _ (ei bH)).2 _ (ei sY)
   have Yz:(pre++y.2.2.drop eF)[eF]?=some ((c0,dj),(a3,a4)):=by
    rw[rm (by omega),B7,mC,k3,n1,uv]
   have jV:y.2.2.drop eF=((c0,dj),(a3,a4))::y.2.2.drop (eF+1):=by
    obtain⟨ar,e⟩:=dD.1 uv;rw[ij ar,e]
   have mK:fY.drop eF=((km,kI),(uw,xA))::fY.drop (eF+1):=by
    obtain⟨ar,e⟩:=dD.1 sY;rw[ij ar,e]
   have ly:∀s:bg,(pre++y.2.2.drop eF).set eF s=(pre++[s])++y.2.2.drop (eF+1):=λs=>by
    rw[EH _ _ (by omega),B7,mC,jV,rQ,gW];rfl
   have auZ:=ur.1.r _ (ei ag2);have au0:=ur.1.r _ (ei yJ);have l8:tX 168004=none:=(ur.2 _ Yx).trans Cx;have Cz:tX 168006=none:=(ur.2 _ Yy).trans Cy;have t1:=HG (N:=N) yJ;have t2:=EG (N:=N) (rows:=rR.set i2 (y.1,y.2.1,pre++y.2.2.drop eF)) (i:=r) (by rw[HI.len];exact uq);have t3:=HE Yz;have t4:=AB (l:=pre++y.2.2.drop eF) (k:=eF) (by omega);have t5:=HE sY;have t6:=AB (l:=fY) (k:=eF) (by omega);have jz:=e9 (i:=eF) (by omega);have YA:=auP ((cF,cp),(hb,j5)) ((km,kI),(uw,xA));have yW:=agX ((c0,dj),(a3,a4)) (om ((cF,cp),(hb,j5)) ((km,kI),(uw,xA))).1;have LZ:=LY;rw[jV,mK] at LZ;simp only[jq] at LZ;generalize na:om ((cF,cp),(hb,j5)) ((km,kI),(uw,xA))=bk at *;obtain⟨⟨⟨qy,kF⟩,⟨au1,au2⟩⟩,az⟩:=bk;dsimp only at yW LZ YA;generalize cQ:pz ((c0,dj),(a3,a4)) ((qy,kF),(au1,au2))=S at *;obtain⟨⟨⟨v1,v2⟩,⟨v3,v4⟩⟩,aD⟩:=S;dsimp only at yW LZ;have t7:=HF (l:=pre++y.2.2.drop eF) (k:=eF) (by omega) v1 v2 v3 v4;refine aZ ?_;repeat' (intro h<;>simp only[h,go_sem,go_sem_proc,xy,l6,ng,ao,F,I,iV,od,xc,sV,sW,sX,hm,rS,uu,auZ,au0,l8,Cz,t1,t2,t3,t4,t5,t6,t7,l7,auY,uq,jz,na,cQ,ve.1,ve.2,ag3.1,ag3.2,oY.1,oY.2,YA.1,YA.2,auT,eH,aE,cI,Az,HJ,rQ,decide_true,decide_false,ag4,ne_eq,not_false_eq_true,and_self]<;>try refine ax ?_ ?_)
   have cm:=kq.set HI ag2 ((pre++y.2.2.drop eF).set eF ((v1,v2),(v3,v4))) ((ur.flag (az != 0)).flag (az != 0||aD != 0));rw[ag5,ly] at cm;refine⟨auS _ _,(eF+1,pre++[((v1,v2),(v3,v4))],(az != 0||aD != 0)),by dsimp only;omega,by dsimp only;omega,by simp[B7],?_,?_,rfl,?_⟩
   ·intro f aH;rw[jk,ub] at aH;rcases aH with aH|rfl
    ·exact HH f aH
    ·exact yW
   ·rw[LZ];dsimp only;rw[gW]
    rfl
   ·dsimp only;rw[ly];exact cm
  ·rw[Yu] at LY;refine aZ ?_;repeat' (intro h<;>simp only[h,go_sem,go_sem_proc,ao,F,I,iV,od,xc,sV,sW,sX,rS,uu,l7]<;>try refine ax ?_ ?_)
   refine dQ _ _ (pre++y.2.2.drop eF) true ?_ ?_ ?_ ?_ ?_ ?_ LY.symm HI ur<;>simp only[e7,ed,if_false,ao,F,I,sV,sW,sX]
 ·have l7:decide ((eF:Int)<((N+1:Nat):Int))=false:=dn;have pQ:y.2.2.drop eF=[]:=kY (by omega);rw[pQ,ag1,<-pQ] at LY;refine aZ ?_;repeat' (intro h<;>simp only[h,go_sem,go_sem_proc,ao,F,I,iV,od,xc,sV,sW,sX,rS,uu,l7]<;>try refine ax ?_ ?_)
  refine dQ _ _ (pre++y.2.2.drop eF) b ?_ ?_ ?_ ?_ ?_ ?_ LY.symm HI ur<;>simp only[e7,ed,if_false,ao,F,I,sV,sW,sX]
theorem au3 (T:bl)(yX:T KJ=aW Qw)(xy:T BO=Cv Az)(ng:T yv=aW An)(l6:T wX=aW yO){K:e3->bd->Prop}{kk:List gA}
  (go N r c:Nat) (mem:Mem) (Cx:mem 168004=none) (Cy:mem 168006=none) (gD:N<=40) (uq:r<N) (AD:c<N+1) (iL:List dy) (EJ:j3 N iL) (x:dy) (fY:List bg) (xh:iL[r]?=some (x.1,x.2.1,fY)) (HK:Bool) (tm:Nat->R) (m:Mem)
  (bC:tm 0=.ptr 129015 0 0) (az:tm 1=.J (.int .i64 r)) (aD:tm 2=.J (.int .i64 c)) (p6:tm 112=.ref 129035 go 1 0 N) (LW:tm 113=.J (.int .i64 N)) (LX:tm 114=.J (.int .i64 0)) (gE:kq mem go N iL HK m)
  (dQ:∀tm' m',kq mem go N (j4 fY r c 0 iL HK).1 (j4 fY r c 0 iL HK).2 m'->cK T K kk (.exit 4) ⟨tm',m'⟩) :
  wp T (yR.body.sub [1,1,1,1,1,1,1,0,1,0]) (cK T K kk) ⟨tm,m⟩:=by
 simp only[yR,eC.sub]
 refine dw [0,1,2,112,113] [] (λ((i2,p7,l5):Nat×List dy×Bool) tm m=>i2<=N/\D p7=i2/\j4 fY r c 0 iL HK=(p7++(j4 fY r c i2 (iL.drop i2) l5).1,(j4 fY r c i2 (iL.drop i2) l5).2)/\j3 N (p7++iL.drop i2)/\(p7++iL.drop i2)[r]?=some (x.1,x.2.1,fY)/\tm 114=.J (.int .i64 i2)/\kq mem go N (p7++iL.drop i2) l5 m) (λ(i2,_,_)=>N-i2) (0,[],HK) (by
  exact⟨fk _,rfl,rfl,EJ,xh,LX,gE⟩) ?_
 intro vs ms aT aS;simp only[go_sem,go_sem_proc,bC,az,aD,p6,LW] at aT aS;subst aT aS;clear bC az aD p6 LW LX gE tm m;rintro⟨i2,p7,l5⟩ tm cX Q hm ⟨n0,jB,k0,sU,bH,sX,vW⟩;simp only[go_sem,go_sem_proc,bf] at Q hm;obtain⟨ao,F,I,sV,sW⟩:=Q;have rS:=vW.1.m;have uu:=vW.1.o;have aK2:(D iL)=N:=EJ.len;rcases dF (i2<N) with HL|aK3
 ·obtain⟨y,aw⟩:∃y,iL[i2]?=some y:=⟨_,bz (by omega)⟩
  have Hb:iL.drop i2=y::iL.drop (i2+1):=by
   obtain⟨ar,rfl⟩:=dD.1 aw;exact ij ar
  have yV:(p7++iL.drop i2)[i2]?=some y:=by
   rw[rm (by omega),jB,mC,k3,n1,aw]
  obtain⟨zy,QG⟩:=sU.row y (ei yV);have L0:=vW.1.r y (ei yV);obtain⟨⟨⟨cF,cp⟩,⟨hb,j5⟩⟩,bc⟩:∃f,y.2.2[c]?=some f:=⟨_,bz (by omega)⟩;have xj:=Yt bc;have t1:=HG (N:=N) yV;have t2:=EG (N:=N) (rows:=p7++iL.drop i2) (i:=i2) (by rw[sU.len];exact HL);have t3:=HE bc;have t4:=AB (l:=y.2.2) (k:=c) (by omega);have hU:decide ((i2:Int)<(N:Int))=true:=dp;have hw:=e9 (i:=i2) (by omega)
  have zx:∀z:dy,(p7++[z])++iL.drop (i2+1)=(p7++iL.drop i2).set i2 z:=λz=>by
   rw[EH _ _ (by omega),jB,mC,Hb,rQ,gW];rfl
  have HM:(p7++[y])++iL.drop (i2+1)=p7++iL.drop i2:=by rw[zx];exact Yw yV
  have ag6:∀b:Bool,(b=true->i2=r\/(cF==0)=true)->b=true->j4 fY r c 0 iL HK=((p7++[y])++(j4 fY r c (i2+1) (iL.drop (i2+1)) l5).1,(j4 fY r c (i2+1) (iL.drop (i2+1)) l5).2):=by
   intro b ag X9
   have YB:(i2==r||nF (cellOf y c))=true:=by
    rcases ag X9 with h|h
    ·rw[h,beq_self_eq_true];rfl
    ·rw[xj];have:nF ((cF,cp),(hb,j5))=true:=h;rw[this,Bool.or_true]
   rw[k0,Hb];simp only[j4];rw[ad YB,gW]
   rfl
  rcases p8:((i2:Int)==(r:Int))
  ·have EI:i2≠r:=by intro h;rw[h] at p8;simp at p8
   rcases AE:(cF==0)
   ·have oY:okF ((cF,cp),(hb,j5)):=QG _ (ei bc);simp only[go_sem,go_sem_proc,yX,ao,F,I,sV,sW,sX,rS,uu,L0,t1,t2,t3,t4,HL,hU,AD,p8,AE,cI];refine auU T xy ng l6 go N r c i2 mem Cx Cy gD (p7++iL.drop i2) sU x y fY yV bH EI uq l5 cF cp hb j5 oY _ _ (gB (cX 148013)) ?_ ?_ ?_ ?_ ?_ ?_ ?_ ?_ ?_ ?_ ((vW.own (.inr (.inr rfl))).own (.inr (.inr rfl))) ?_
    ·exact ao
    ·exact F
    ·exact I
    ·rfl
    ·rfl
    ·exact sV
    ·exact sW
    ·exact sX
    ·rfl
    ·simp[a1]
    ·intro tm' m' l b fO cv cS L1 ag7 ag8 kK HI ur;simp only[go_sem,go_sem_proc,ao,F,I,fO,cv,cS,L1,ag7,ag8,hw];repeat' (first|refine ax ?_ ?_|fail)<;>intro h<;>simp only[h,go_sem,go_sem_proc,ao,F,I,fO,cv,cS,L1,ag7,ag8,hw]
     refine⟨(i2+1,p7++[(y.1,y.2.1,l)],b),by dsimp only;omega,by dsimp only;omega,by simp[jB],?_,by dsimp only;rw[zx];exact HI,by dsimp only;rw[zx,nE,ah EI];exact bH,rfl,?_⟩
     ·have YB:¬ (i2==r||nF (cellOf y c))=true:=by
       rw[xj];have F:nF ((cF,cp),(hb,j5))=false:=AE;have I:(i2==r)=false:=by simpa using EI
       rw[F,I];simp
      rw[k0,Hb];simp only[j4];rw[ah YB,xj,<-kK,gW]
      rfl
     ·dsimp only;rw[zx];exact ur
   ·simp only[go_sem,go_sem_proc,yX,ao,F,I,sV,sW,sX,rS,uu,L0,t1,t2,t3,t4,HL,hU,AD,hw,p8,AE,cI];repeat' (first|refine ax ?_ ?_|fail)<;>intro h<;>simp only[h,go_sem,go_sem_proc,yX,ao,F,I,sV,sW,sX,rS,uu,L0,t1,t2,t3,t4,HL,hU,AD,hw,p8,AE,cI]
    refine⟨(i2+1,p7++[y],l5),by dsimp only;omega,by dsimp only;omega,by simp[jB],ag6 true (λ_ => .inr AE) rfl,by dsimp only;rw[HM];exact sU,by dsimp only;rw[HM];exact bH,rfl,?_⟩
    dsimp only;rw[HM];exact (vW.own (.inr (.inr rfl))).own (.inr (.inr rfl))
  ·have EI:i2=r:=by have h:=beq_iff_eq.1 p8;omega
   simp only[go_sem,go_sem_proc,yX,ao,F,I,sV,sW,sX,rS,uu,L0,t1,t2,t3,t4,HL,hU,AD,hw,p8,cI];repeat' (first|refine ax ?_ ?_|fail)<;>intro h<;>simp only[h,go_sem,go_sem_proc,yX,ao,F,I,sV,sW,sX,rS,uu,L0,t1,t2,t3,t4,HL,hU,AD,hw,p8,cI]
   refine⟨(i2+1,p7++[y],l5),by dsimp only;omega,by dsimp only;omega,by simp[jB],ag6 true (λ_ => .inl EI) rfl,by dsimp only;rw[HM];exact sU,by dsimp only;rw[HM];exact bH,rfl,?_⟩
   dsimp only;rw[HM];exact (vW.own (.inr (.inr rfl))).own (.inr (.inr rfl))
 ·have cH:i2=N:=by omega
  have hU:decide ((i2:Int)<(N:Int))=false:=dn;have OH:iL.drop i2=[]:=kY (by omega);rw[OH] at k0 vW;simp only[j4,fE] at k0 vW;rw[k0] at dQ;simp only[go_sem,go_sem_proc,ao,F,I,sV,sW,sX,rS,uu,hU];repeat' (first|refine ax ?_ ?_|fail)<;>intro h<;>simp only[h,go_sem,go_sem_proc,ao,F,I,sV,sW,sX,rS,uu,hU]
  exact dQ _ _ vW
theorem au4 (T:bl)(xy:T BO=Cv Az)(pD:T DR=aW Ex){K:e3->bd->Prop}{kk:List gA}
  (go N r c:Nat) (mem:Mem) (Cx:mem 168004=none) (Cy:mem 168006=none) (gD:N<=40) (uq:r<N) (h7:List dy) (HN:j3 N h7) (x:dy) (yY:h7[r]?=some x) (f1:Int) (f2:List Int) (f3:Int) (f4:List Int) (jQ:okF ((f1,f2),(f3,f4))) (tm:Nat->R) (m:Mem) (bQ:Nat)
  (bC:tm 0=.ptr 129015 0 0) (az:tm 1=.J (.int .i64 r)) (aD:tm 2=.J (.int .i64 c)) (dN:tm 8=.ptr 148008 bQ 0) (ag9:tm 85=.ref (x.1+900000) x.2.1 4 0 (N+1)) (aha:tm 86=.J (.int .i64 ((N+1:Nat):Int))) (ahb:tm 87=.J (.int .i64 0))
  (em:m 148008=some (bQ,[.J (.int .i64 f1),.J (.Y (f2.map ae)),.J (.int .i64 f3),.J (.Y (f4.map ae))])) (gE:kq mem go N h7 false m)
  (dQ:∀tm' m',tm' 0=.ptr 129015 0 0->tm' 1=.J (.int .i64 r)->tm' 2=.J (.int .i64 c)->j3 N (h7.set r (x.1,x.2.1,(hW ((f1,f2),(f3,f4)) x.2.2).1))->kq mem go N (h7.set r (x.1,x.2.1,(hW ((f1,f2),(f3,f4)) x.2.2).1)) (hW ((f1,f2),(f3,f4)) x.2.2).2 m'->cK T K kk (.exit 2) ⟨tm',m'⟩) :
  wp T (yR.body.sub [1,1,1,1,1,1,0,1,0]) (cK T K kk) ⟨tm,m⟩:=by
 simp only[yR,eC.sub];obtain⟨tq,HO⟩:=HN.row x (ei yY)
 have au5:∀l:List bg,(h7.set r (x.1,x.2.1,l))[r]?=some (x.1,x.2.1,l):=λl=>by
  rw[nE,ad rfl,ad (by rw[HN.len];exact uq)]
 refine dw [0,1,2,8,85,86] [148008] (λ(k:Nat) tm m=>k<=N+1/\tm 87=.J (.int .i64 k)/\kq mem go N (h7.set r (x.1,x.2.1,(x.2.2.take k).map (λf=>(j1 f ((f1,f2),(f3,f4))).1)++x.2.2.drop k)) ((x.2.2.take k).any λf=>(j1 f ((f1,f2),(f3,f4))).2 != 0) m) (λk=>N+1-k) 0 (by
  refine⟨fk _,ahb,?_⟩;have e:h7.set r (x.1,x.2.1,(x.2.2.take 0).map (λf=>(j1 f ((f1,f2),(f3,f4))).1)++x.2.2.drop 0)=h7:=Yw yY;rw[e];exact gE) ?_
 intro vs ms aT aS;simp only[go_sem,go_sem_proc,bC,az,aD,dN,ag9,aha,em] at aT aS;subst aT aS;clear bC az aD dN ag9 aha ahb em gE tm m;rintro k tm m Q hm ⟨o2,ahc,gE⟩;simp only[go_sem,go_sem_proc,bf] at Q hm;obtain⟨ao,F,I,cb,ahd,ahe⟩:=Q
 have eL:((x.2.2.take k).map (λf=>(j1 f ((f1,f2),(f3,f4))).1)++x.2.2.drop k).length=N+1:=by
  rw[fr,aj,fI,rB];omega
 have EJ:j3 N (h7.set r (x.1,x.2.1,(x.2.2.take k).map (λf=>(j1 f ((f1,f2),(f3,f4))).1)++x.2.2.drop k)):=by
  refine HN.set yY eL λf aH=>?_;rw[jk] at aH;rcases aH with aH|aH
  ·obtain⟨g6,-,rfl⟩:=dT.1 aH;exact agY _ _
  ·exact HO f (Lh aH)
 have xh:=au5 ((x.2.2.take k).map (λf=>(j1 f ((f1,f2),(f3,f4))).1)++x.2.2.drop k);rcases dF (k<N+1) with L2|ahf
 ·obtain⟨⟨⟨c0,dj⟩,⟨a3,a4⟩⟩,uv⟩:∃f,x.2.2[k]?=some f:=⟨_,bz (by omega)⟩;have Yz:=(auR (λf=>(j1 f ((f1,f2),(f3,f4))).1) (l:=x.2.2) (k:=k)).trans uv;have ly:=auQ (λf=>(j1 f ((f1,f2),(f3,f4))).1) uv
  have Kq:(x.2.2.take (k+1)).any (λf=>(j1 f ((f1,f2),(f3,f4))).2 != 0)=((x.2.2.take k).any (λf=>(j1 f ((f1,f2),(f3,f4))).2 != 0)||(j1 ((c0,dj),(a3,a4)) ((f1,f2),(f3,f4))).2 != 0):=by
   rw[hc,uv,List.any_append];simp
  obtain⟨au6,au7⟩:=HO _ (ei uv);generalize (x.2.2.take k).map (λf=>(j1 f ((f1,f2),(f3,f4))).1)++x.2.2.drop k=cur at *;generalize ((x.2.2.take k).any λf=>(j1 f ((f1,f2),(f3,f4))).2 != 0)=l5 at *;have rS:=gE.1.m;have uu:=gE.1.o;have au8:=gE.1.r _ (ei xh);have l8:m 168004=none:=(gE.2 _ Yx).trans Cx;have Cz:m 168006=none:=(gE.2 _ Yy).trans Cy;have t1:=HG (N:=N) xh;have t2:=EG (N:=N) (rows:=h7.set r (x.1,x.2.1,cur)) (i:=r) (by rw[EJ.len];exact uq);have t3:=HE Yz;have t4:=AB (l:=cur) (k:=k) (by omega);have l7:decide ((k:Int)<((N+1:Nat):Int))=true:=dp;have hw:=e9 (i:=k) (by omega);generalize rE:j1 ((c0,dj),(a3,a4)) ((f1,f2),(f3,f4))=V at *;obtain⟨⟨⟨v1,v2⟩,⟨v3,v4⟩⟩,uh⟩:=V;dsimp only at ly Kq;have t5:=HF (l:=cur) (k:=k) (by omega) v1 v2 v3 v4;refine aZ ?_;repeat' (intro h<;>simp only[h,go_sem,go_sem_proc,xy,pD,ao,F,I,cb,ahd,ahe,ahc,hm,rS,uu,au8,l8,Cz,t1,t2,t3,t4,t5,l7,L2,uq,hw,rE,au6,au7,jQ.1,jQ.2,eH,aE,cI,Az,HJ,rQ,decide_true,decide_false,ag4,ne_eq,not_false_eq_true,and_self]<;>try refine ax ?_ ?_)
  have az:=kq.set EJ xh (cur.set k ((v1,v2),(v3,v4))) (((gE.own (k:=148010) (g:=gB (m 148010)) (cs:=[R.J (Data.int IntKind.i64 0),R.nil,R.J (Data.int IntKind.i64 0),R.nil]) (.inr (.inl rfl))).own (k:=148010) (g:=gB (m 148010)) (cs:=[R.J (Data.int IntKind.i64 c0),R.J (Data.Y (yZ ae dj)),R.J (Data.int IntKind.i64 a3),R.J (Data.Y (yZ ae a4))]) (.inr (.inl rfl))).flag (l5||uh != 0));rw[ag5,ly] at az;refine⟨k+1,by omega,by omega,rfl,?_⟩
  show kq mem go N _ ((x.2.2.take (k+1)).any λf=>(j1 f ((f1,f2),(f3,f4))).2 != 0) _;rw[Kq,ly];exact az
 ·have L3:k=N+1:=by omega
  have au9:(x.2.2.take k).map (λf=>(j1 f ((f1,f2),(f3,f4))).1)++x.2.2.drop k=(hW ((f1,f2),(f3,f4)) x.2.2).1:=by
   unfold hW;rw[dB (by omega),kY (by omega),fE]
  have ava:((x.2.2.take k).any λf=>(j1 f ((f1,f2),(f3,f4))).2 != 0)=(hW ((f1,f2),(f3,f4)) x.2.2).2:=by
   unfold hW;rw[dB (by omega)]
  rw[au9] at EJ gE;rw[ava] at gE;have l7:decide ((k:Int)<((N+1:Nat):Int))=false:=dn;refine aZ ?_;repeat' (intro h<;>simp only[h,go_sem,go_sem_proc,ao,F,I,cb,ahd,ahe,ahc,hm,l7]<;>try refine ax ?_ ?_)
  refine dQ _ _ ?_ ?_ ?_ EJ gE<;>simp only[e7,ed,if_false,ao,F,I]
theorem avb (T:bl)(yX:T KJ=aW Qw)(xy:T BO=Cv Az)(pD:T DR=aW Ex)(ng:T yv=aW An)(l6:T wX=aW yO)
  (go N:Nat) (rows:List dy) (r c:Nat) (eG:Mem) (cW:j3 N rows) (cj:AA go N rows false eG) (Cx:eG 168004=none) (Cy:eG 168006=none) (gD:N<=40) (lR:r<=c) (avc:c<N) :
  wp T yR.body (p4 yR.res λm mem'=>m=.J (.bool (iK rows r c).1)/\kq eG go N (iK rows r c).2.1 (iK rows r c).2.2 mem') ⟨lv [.ptr 129015 0 0,.J (.int .i64 r),.J (.int .i64 c)],eG⟩:=by
 refine tw ?_;simp only[yR];simp only[go_sem,go_sem_proc];refine dw [0,1,2] [] (λ(i:Nat) tm mem=>r<=i/\i<=N/\(∀j y,r<=j->j<i->rows[j]?=some y->nF (cellOf y c)=true)/\tm 7=.J (.int .i64 i)/\mem=eG) (λi=>N-i) r (by refine⟨b1 _,by omega,λj y F I=>by omega,rfl,rfl⟩) ?_;intro vs ms aT aS;simp only[go_sem,go_sem_proc] at aT aS;subst aT aS;rintro i tm mem Q hm ⟨iq,ahg,aV,bN,rfl⟩;simp only[go_sem,go_sem_proc,bf] at Q hm;obtain⟨ao,F,I⟩:=Q;have ux:=cj.m;have L4:=cj.o;have hlen:=cW.len;rcases dF (i<N) with aA|b7
 ·have O:∃x,rows[i]?=some x:=⟨_,bz (by omega)⟩;obtain⟨x,O⟩:=O;obtain⟨tq,HO⟩:=cW.row x (ei O);have CA:=cj.r x (ei O);have aH:∃f,x.2.2[c]?=some f:=⟨_,bz (by omega)⟩;obtain⟨⟨⟨f1,f2⟩,⟨f3,f4⟩⟩,aH⟩:=aH;have ahh:=HG (N:=N) O;have ahi:=EG (N:=N) (rows:=rows) (i:=i) (by omega);have ahj:=HE aH;have ahk:=AB (l:=x.2.2) (k:=c) (by omega);have pg:=Yt aH;have hp:decide ((i:Int)<(N:Int))=true:=dp;have AD:c<N+1:=by omega
  rcases qG:(f1==0)
  ·have avd:findAt rows r c=i:=auL O iq aV (by rw[pg];exact qG);obtain⟨xx,pC⟩:∃x,rows[r]?=some x:=⟨_,bz (by omega)⟩
   have j6:iK rows r c=(false,j4 (hW ((f1,f2),(f3,f4)) x.2.2).1 r c 0 (((rows.set r x).set i xx).set r (x.1,x.2.1,(hW ((f1,f2),(f3,f4)) x.2.2).1)) (hW ((f1,f2),(f3,f4)) x.2.2).2):=by
    unfold iK EF;rw[ah (by omega),avd];have:rowAt (qV rows r i) r=x:=xw (by unfold qV;rw[xw O,xw pC];exact Yv O pC);rw[this,pg];unfold qV;rw[xw O,xw pC]
   rw[j6];clear j6;have HN:j3 N ((rows.set r x).set i xx):=cW.swap pC O;have ave:kq mem go N ((rows.set r x).set i xx) false _:=kq.swap pC O ⟨cj,λ_ _=>rfl⟩;have yY:((rows.set r x).set i xx)[r]?=some x:=Yv O pC;have uq:r<N:=by omega
   have s1:=HG (N:=N) pC;have s2:=EG (N:=N) (rows:=rows) (i:=r) (by omega);have da:=agZ (N:=N) (rows:=rows) (i:=r) (by omega) x;have dd:=EG (N:=N) (rows:=rows.set r x) (i:=i) (by rw[hn];omega);have avf:=agZ (N:=N) (rows:=rows.set r x) (i:=i) (by rw[hn];omega) xx;have avg:=HG (N:=N) yY;have avh:=EG (N:=N) (rows:=(rows.set r x).set i xx) (i:=r) (by rw[hn,hn];omega);generalize AF:(rows.set r x).set i xx=h7 at *;have jQ:=HO _ (ei aH);have aK4:decide ((i:Int)<(N:Int))=true:=hp;have avi:((i:Int)==(N:Int))=false:=by simp;omega
   simp only[go_sem,go_sem_proc,yX,xy,ao,F,I,bN,ux,L4,CA,ahh,ahi,ahj,ahk,aA,hp,AD,qG,cI,uq,s1,s2,da,dd,avf,avg,avh,avi];refine au4 T xy pD go N r c mem Cx Cy gD uq h7 HN x yY f1 f2 f3 f4 jQ _ _ (gB (mem 148008)) ?_ ?_ ?_ ?_ ?_ ?_ ?_ ?_ ((ave.own (.inl rfl)).own (.inl rfl)) ?_
   ·exact ao
   ·exact F
   ·exact I
   ·rfl
   ·rfl
   ·rfl
   ·rfl
   ·simp[a1]
   intro tm' m' fO cv cS sU vW;have rS:=vW.1.m
   have bH:(h7.set r (x.1,x.2.1,(hW ((f1,f2),(f3,f4)) x.2.2).1))[r]?=some (x.1,x.2.1,(hW ((f1,f2),(f3,f4)) x.2.2).1):=by
    rw[nE,ad rfl,ad (by rw[HN.len];exact uq)]
   simp only[go_sem,go_sem_proc,fO,cv,cS,rS];refine au3 T yX xy ng l6 go N r c mem Cx Cy gD uq AD _ sU x _ bH _ _ _ ?_ ?_ ?_ ?_ ?_ ?_ vW ?_
   ·exact fO
   ·exact cv
   ·exact cS
   ·rfl
   ·rfl
   ·rfl
   intro aK5 tX ur;refine aZ ?_;repeat' (intro h<;>simp only[h,go_sem,go_sem_proc]<;>try refine ax ?_ ?_)
   exact⟨_,rfl,rfl,ur⟩
  ·have hw:=e9 (i:=i) (by omega);refine aZ ?_;repeat' (intro h<;>simp only[h,go_sem,go_sem_proc,yX,xy,ao,F,I,bN,ux,L4,CA,ahh,ahi,ahj,ahk,aA,hp,AD,qG,hw,cI]<;>try refine ax ?_ ?_)
   refine⟨i+1,by omega,by omega,by omega,?_,rfl⟩
   intro j y avj vj aw
   by_cases h5:j=i
   ·subst h5;rw[O] at aw
    cases aw
    rw[pg];exact qG
   ·exact aV j y avj (by omega) aw
 ·have avk:i=N:=by omega
  subst avk;have hp:decide ((i:Int)<(i:Int))=false:=dn;have uy:=auM (rows:=rows) (r:=r) (c:=c) (by omega) (λj y ai aw=>aV j y ai (by have:=(dD.1 aw).1;omega) aw);have aG:iK rows r c=(true,rows,false):=by unfold iK;rw[ad uy]
  rw[aG];refine aZ ?_;repeat' (intro h<;>simp only[h,go_sem,go_sem_proc,yX,xy,ao,F,I,bN,ux,L4,hp,beq_self_eq_true]<;>try refine ax ?_ ?_)
  exact⟨_,rfl,rfl,cj,λ_ _=>rfl⟩
structure QH where
 go:Nat
 N:Nat
 rows:List dy
 r:Nat
 c:Nat
def YC (a:QH)(mem:Mem):Prop:=j3 a.N a.rows/\AA a.go a.N a.rows false mem/\mem 168004=none/\mem 168006=none/\a.N<=40/\a.r<=a.c/\a.c<a.N
def YD (a:QH)(mem:Mem):R->Mem->Prop:=λm mem'=>m=.J (.bool (iK a.rows a.r a.c).1)/\kq mem a.go a.N (iK a.rows a.r a.c).2.1 (iK a.rows a.r a.c).2.2 mem'
def L5:List R->Mem->Option (R->Mem->Prop):=xv (λ(a:QH) args mem=>args=[.ptr 129015 0 0,.J (.int .i64 a.r),.J (.int .i64 a.c)]/\YC a mem) YD
theorem avl {N:Nat}{a b:List dy}(h:refsOf N a=refsOf N b):a.map (λx=>(x.1,x.2.1))=b.map λx=>(x.1,x.2.1):=by
 induction a generalizing b with
 |nil=>cases b with
  |nil=>rfl
  |cons y r=>simp[refsOf] at h
 |cons x a ay=>cases b with
  |nil=>simp[refsOf] at h
  |cons y b =>
   simp only[refsOf,eA,bf,R.ref.injEq] at h;have F:x.1=y.1:=by have:=h.1.1;simp only[Key] at this;omega
   simp only[eA,bf,fD];exact⟨⟨F,h.1.2.1⟩,ay h.2⟩
theorem avm (a:QH)(mem:Mem)(h:YC a mem):L5 [.ptr 129015 0 0,.J (.int .i64 a.r),.J (.int .i64 a.c)] mem=some (YD a mem):=by
 unfold L5;refine Yr (a:=a) ?_ ⟨rfl,h⟩;rintro a b args mem ⟨F,I,af,_⟩ ⟨aO,br,bR,_⟩;rw[F] at aO;simp only[bf,R.J.injEq,Data.int.injEq,true_and,and_true] at aO;have hm:=af.m;rw[bR.m] at hm;simp only[ca,fD,bf,R.ref.injEq,true_and,and_true] at hm;obtain⟨⟨bc,aK⟩,-⟩:=hm;have bM:=af.o;rw[bR.o] at bM;simp only[ca,fD] at bM;obtain⟨dY,aK6,YE,c0,dj⟩:=a;obtain⟨aK7,aK8,YF,di,eK⟩:=b;dsimp only at *;subst bc aK
 have ab:YF=YE:=by
  have bN:=avl bM.2;have ar:(D YF)=D YE:=by have:=congrArg D bN;simpa using this
  apply List.ext_getElem ar;intro i rl n0;have cb:(YF.map λx=>(x.1,x.2.1))[i]?=(YE.map λx=>(x.1,x.2.1))[i]?:=by rw[bN]
  rw[bn,bn,bz rl,bz n0] at cb;simp only[k5,ca,fD] at cb;have eX:=bR.r _ (ph rl);have eg:=af.r _ (ph n0);rw[cb.1,eg] at eX;simp only[ca,fD] at eX;have:=auK eX.2;exact dR cb.1 (dR cb.2 this.symm)
 subst ab;have az:c0=di:=by omega
 have aD:dj=eK:=by omega
 subst az aD
 rfl
theorem avn {args:List R}{mem:Mem}{cg:R->Mem->Prop}(h:L5 args mem=some cg):∃a,args=[.ptr 129015 0 0,.J (.int .i64 a.r),.J (.int .i64 a.c)]/\YC a mem/\cg=YD a mem:=by
 obtain⟨a,⟨F,I⟩,af⟩:=LS h;exact⟨a,F,I,af⟩
theorem ahl (l:List bg):((l.map aE).all λe=>D e==4)=true:=by simp[aE]
abbrev YG:List bg->List Data:=λ(l:List bg)=>[.Y (l.map aE)]
def QI:=cu YG λ(l:List bg)=>cU (D l<=1000000) (.own 4 (l.map aE))
theorem avo:∀a b,YG a=YG b->a=b:=by
  intro eh aq h;exact map_inj nd _ _ (by simpa using h)
@[go_sem] theorem aK9 (l:List bg)(H:(D l)<=1000000):QI [.Y (l.map aE)]=some (.own 4 (l.map aE)):=(cD avo l).trans (cZ H _)
theorem avp (T:bl)  (l:List bg) (H:(D l)<=1000000):WP T Vu (.own 4 (l.map aE)) [.J (.Y (l.map aE))]:=by
 refine cE ?_;simp only[Vu]
 have dg:kW 147005 0 4 0 64 (D l) ((l.map aE).flatten.map .J) (some (0,[]))=some (.ref 147005 1 4 0 (D l),some (147005,1,a7 aE l)):=by
  have:=yr kO As 147005 0 64 [] l (by simp;omega) (by simp;omega)
  simpa [a7] using this
 have hlen:(a7 aE l).length=D l*4:=oQ kO l;refine aZ ?_;repeat' (intro h<;>simp only[h,go_sem,go_sem_proc,ahl,dg,aj]<;>try refine ax ?_ ?_)
 rintro b ag
 cases b
 ·refine aZ ?_;repeat' (intro h<;>simp only[h,go_sem,go_sem_proc,ahl,dg,aj,rz,hlen]<;>try refine ax ?_ ?_)
  rw[ad (by omega),dB (by omega)];unfold a7;rw[tK _ λd=>rfl];have:=yt (sz:=4) (l.map aE) (by intro e he;obtain⟨f,-,rfl⟩:=dT.1 he;rfl);rw[aj] at this;simp[this]
 ·cases l with
  |nil =>
       refine aZ ?_;repeat' (intro h<;>simp only[h,go_sem,go_sem_proc,rz,cY]<;>try refine ax ?_ ?_)
  |cons x r=>simp at ag
def hC (rs:List e0):List dy:=rs.zipIdx.map λp=>(p.2,0,p.1.1++[p.1.2])
theorem EK (rs:List e0):(hC rs).length=D rs:=by simp[hC]
theorem ahm {rs:List e0}{i:Nat}{r:e0}(h:rs[i]?=some r):(hC rs)[i]?=some (i,0,r.1++[r.2]):=by
 unfold hC;rw[bn,YH,h];simp
theorem YI {rs:List e0}{i:Nat}{r:e0}(h:rs[i]?=some r):(hC rs).take (i+1)=(hC rs).take i++[(i,0,r.1++[r.2])]:=by
 rw[hc,ahm h]
 rfl
theorem avq {rs:List e0}{i:Nat}{x:dy}(h:x∈(hC rs).take i):x.1<i/\x.2.1=0:=by
 obtain⟨j,ai⟩:=tL.1 h;rw[List.getElem?_take] at ai
 split at ai
 ·rename_i h5;unfold hC at ai;rw[bn,YH] at ai
  cases ab:rs[j]? with
  |none=>rw[ab] at ai;cases ai
  |some r =>
   rw[ab] at ai;simp only[k5,ca] at ai;subst ai;exact⟨by simpa using h5,rfl⟩
 ·cases ai
theorem avr (N:Nat)(a b:List dy):refsOf N (a++b)=refsOf N a++refsOf N b:=by simp[refsOf]
theorem HP (N:Nat)(a:List dy):(refsOf N a).length=D a:=by simp[refsOf]
structure AG (N:Nat) (rs:List e0) (i go:Nat) (mem:Mem):Prop where
 z:i=0->mem 129015=some (0,[.nil,.J (.int .i64 N),.J (.bool false)])
 p:0<i->mem 129015=some (0,[.ref 129035 go 1 0 i,.J (.int .i64 N),.J (.bool false)])/\mem 129035=some (go,refsOf N ((hC rs).take i))
 r:∀x∈(hC rs).take i,mem (x.1+900000)=some (x.2.1,a7 aE x.2.2)
 n:∀j:Nat,i<=j->mem (j+900000)=none
 a:mem 168004=none
 b:mem 168006=none
theorem ahn (l:List bg):(l.map aE).flatten.map R.J=a7 aE l:=rfl
theorem avs (bQ:Nat)(l:List bg)(v1:Int)(v2:List Int)(v3:Int)(v4:List Int)(h:(D l)<=1000000):kW 129029 bQ 4 (D l) 64 1 [.J (.int .i64 v1),.J (.Y (v2.map ae)),.J (.int .i64 v3),.J (.Y (v4.map ae))] (some (bQ,a7 aE l))=some (.ref 129029 (bQ+1) 4 0 (D l+1),some (129029,bQ+1,a7 aE (l++[((v1,v2),(v3,v4))]))) :=
 k6 kO As 129029 bQ 64 l ((v1,v2),(v3,v4)) rfl (by omega) (by omega)
theorem avt (N bQ i g:Nat)(a:List dy)(M:(D a)=i)(h:i<=1000)(m:R)(hm:m=.ref 129029 g 4 0 (N+1)):kW 129035 bQ 1 i 24 1 [m] (some (bQ,refsOf N a))=some (.ref 129035 (bQ+1) 1 0 (i+1),some (129035,bQ+1,refsOf N a++[m])):=by
 subst hm;unfold kW;dsimp only;rw[ad ⟨rfl,by rw[HP];omega,by omega,by unfold maxLen;omega,rfl⟩,dB (by rw[HP];omega)]
theorem avu {N i go go' bQ:Nat}{rs:List e0}{r:e0}{m m':Mem}(ag:AG N rs i go m)(ab:rs[i]?=some r)(vJ:m' 129015=some (0,[.ref 129035 go' 1 0 (i+1),.J (.int .i64 N),.J (.bool false)]))(aH:∀k:Nat,900000<=k\/k=168004\/k=168006->m' k=m k):
  AG N rs (i+1) go' (a1 (a1 (a1 m' 129029 (bX m' 129029) []) (i+900000) (bX m' (i+900000)) (a7 aE (r.1++[r.2]))) 129035 go' ((refsOf N ((hC rs).take i)++[R.ref 129029 bQ 4 0 (N+1)]).set i (R.ref (i+900000) (bX m' (i+900000)) 4 0 (N+1)))):=by
 have aA:=(dD.1 ab).1
 have bc:bX m' (i+900000)=0:=by
  unfold bX;rw[aH _ (.inl (by omega)),ag.n i (b1 _)]
 have sZ:(refsOf N ((hC rs).take i)).length=i:=by rw[HP,fI,EK];omega
 rw[bc]
 have mU:(refsOf N ((hC rs).take i)++[R.ref 129029 bQ 4 0 (N+1)]).set i (.ref (i+900000) 0 4 0 (N+1))=refsOf N ((hC rs).take (i+1)):=by
  rw[EH _ _ (by omega),sZ,mC,rQ,YI ab,avr]
  rfl
 rw[mU];have L6:∀(k:Nat),k≠129029->k≠129035->k≠i+900000->a1 (a1 (a1 m' 129029 (bX m' 129029) []) (i+900000) 0 (a7 aE (r.1++[r.2]))) 129035 go' (refsOf N ((hC rs).take (i+1))) k=m' k:=λk F I af=>by simp[a1,F,I,af]
 refine⟨λh=>by omega,λ_=>⟨by rw[L6 _ (by omega) (by omega) (by omega)];exact vJ,by simp[a1]⟩,λx O=>?_,λj ai=>?_,?_,?_⟩
 ·rw[YI ab,jk,ub] at O;rcases O with O|rfl
  ·obtain⟨oR,ue⟩:=avq O;rw[L6 _ (by omega) (by omega) (by omega),aH _ (.inl (by omega))];exact ag.r x O
  ·have I:(i+900000:Nat)≠129035:=by omega
   simp[a1]
 ·rw[L6 _ (by omega) (by omega) (by omega),aH _ (.inl (by omega))];exact ag.n j (by omega)
 ·rw[L6 _ (by omega) (by omega) (by omega),aH _ (.inr (.inl rfl))];exact ag.a
 ·rw[L6 _ (by omega) (by omega) (by omega),aH _ (.inr (.inr rfl))];exact ag.b
theorem aho {K:bd->Prop}{tm:Nat->R}{N i go:Nat}(go' bQ:Nat){rs:List e0}{r:e0}{m m':Mem}(ag:AG N rs i go m)(ab:rs[i]?=some r)(vJ:m' 129015=some (0,[.ref 129035 go' 1 0 (i+1),.J (.int .i64 N),.J (.bool false)]))
  (QJ:m' 129035=some (go',refsOf N ((hC rs).take i)++[.ref 129029 bQ 4 0 (N+1)])) (QK:m' 129029=some (bQ,a7 aE (r.1++[r.2]))) (aH:∀k:Nat,900000<=k\/k=168004\/k=168006->m' k=m k) (h:∀bk,AG N rs (i+1) go' bk->K ⟨tm,bk⟩):kD K ⟨tm,m'⟩ .move:=by
 have aA:=(dD.1 ab).1;have sZ:(refsOf N ((hC rs).take i)).length=i:=by rw[HP,fI,EK];omega
 exact aqQ 129035 i 129029 (i+900000) QJ (by rw[rm (by omega),sZ,mC];rfl) QK (by omega) (show (i+900000:Nat)≠129029 by omega) (show (i+900000:Nat)≠129035 by omega) (h _ (avu ag ab vJ aH))
theorem lI {m:Mem}{k g:Nat}{cs:List R}{j:Nat}(h:j≠k):a1 m k g cs j=m j:=ah h
theorem avv (T:bl)(l9:T OW=aW QI){K:e3->bd->Prop}{kk:List gA}(N:Nat)(rs:List e0)(stop:Bool)(gD:N<=40)(hlen:(D rs)=N)(BE:∀r∈rs,r.1.length=N/\yS r)(tm:Nat->R)(m:Mem)
  (az:tm 1=.J (.int .i64 N)) (aD:tm 2=.J (.bool stop)) (dN:tm 8=.ptr 129015 0 0) (p9:tm 16=.J (.Y (rs.map iX))) (iB:tm 17=.J (.int .i64 N)) (jE:tm 18=.J (.int .i64 0)) (ag:AG N rs 0 0 m)
  (dQ:∀tm' m' go,tm' 1=.J (.int .i64 N)->tm' 2=.J (.bool stop)->tm' 8=.ptr 129015 0 0->AG N rs N go m'->cK T K kk (.exit 0) ⟨tm',m'⟩) :
  wp T (LG.body.sub [1,1,0,1,0]) (cK T K kk) ⟨tm,m⟩:=by
 simp only[LG,eC.sub];refine dw [1,2,8,16,17] [] (λ((i,go):Nat×Nat) tm m=>i<=N/\tm 18=.J (.int .i64 i)/\AG N rs i go m) (λ(i,_)=>N-i) (0,0) (by exact⟨fk _,jE,ag⟩) ?_;intro vs ms aT aS;simp only[go_sem,go_sem_proc,az,aD,dN,p9,iB] at aT aS;subst aT aS;clear az aD dN p9 iB jE ag tm m;rintro⟨i,go⟩ tm m Q hm ⟨ahg,jU,ag⟩;simp only[go_sem,go_sem_proc,bf] at Q hm;obtain⟨F,I,cb,sK,lF⟩:=Q;rcases dF (i<N) with aA|b7
 ·obtain⟨⟨A,⟨v1,v2⟩,⟨v3,v4⟩⟩,ab⟩:∃r,rs[i]?=some r:=⟨_,bz (by omega)⟩;obtain⟨QL,⟨ahp,avw⟩,avx,vI⟩:=BE _ (ei ab);dsimp only at QL ahp avw avx vI;have hU:decide ((i:Int)<(N:Int))=true:=dp;have hw:=e9 (i:=i) (by omega);have dg:∀bQ,kW 129029 bQ 4 N 64 1 _ _=_:=λbQ=>QL ▸ avs bQ A v1 v2 v3 v4 ahp;have ahq:N<=1000000:=by omega
  have h3:(1<=maxLen)=True:=eq_true (by unfold maxLen;omega);have aLa:=YI ab;have sZ:((hC rs).take i).length=i:=by rw[fI,EK];omega
  rcases k4 i with ao|h4
  ·have ux:=ag.z ao;refine aZ ?_;repeat' (intro h<;>simp only[h,go_sem,go_sem_proc,l9,F,I,cb,sK,lF,jU,ux,hU,ab,hw,ahq,QL,dg,h3,ahn,aj,bn,iX,aE,decide_true,decide_false,ne_eq,not_false_eq_true,and_self]<;>try refine ax ?_ ?_)
   refine aho (gB (m 129035)) (gB (m 129029)+1) ag ab (by simp[a1,ao]) (by simp[a1,ao,refsOf]) (by simp[a1]) (λk Q=>?_) λbk fW=>?_
   ·rw[lI (by omega),lI (by omega),lI (by omega),lI (by omega),lI (by omega),lI (by omega),lI (by omega)]
   ·refine aZ ?_;repeat' (intro h<;>simp only[h,go_sem,go_sem_proc,F,I,cb,sK,lF,jU,hw]<;>try refine ax ?_ ?_)
    exact⟨(i+1,gB (m 129035)),by dsimp only;omega,by dsimp only;omega,rfl,fW⟩
  ·obtain⟨ux,L4⟩:=ag.p h4;have QM:=avt N go i (gB (m 129029)+1) ((hC rs).take i) sZ (by omega) _ rfl;refine aZ ?_;repeat' (intro h<;>simp only[h,go_sem,go_sem_proc,l9,F,I,cb,sK,lF,jU,ux,L4,hU,ab,hw,ahq,QL,dg,QM,ahn,aj,bn,iX,aE,decide_true,decide_false,ne_eq,not_false_eq_true,and_self]<;>try refine ax ?_ ?_)
   refine aho (go+1) (gB (m 129029)+1) ag ab (by simp[a1]) (by simp[a1]) (by simp[a1]) (λk Q=>?_) λbk fW=>?_
   ·rw[lI (by omega),lI (by omega),lI (by omega),lI (by omega),lI (by omega),lI (by omega),lI (by omega)]
   ·refine aZ ?_;repeat' (intro h<;>simp only[h,go_sem,go_sem_proc,F,I,cb,sK,lF,jU,hw]<;>try refine ax ?_ ?_)
    exact⟨(i+1,go+1),by dsimp only;omega,by dsimp only;omega,rfl,fW⟩
 ·have hU:decide ((i:Int)<(N:Int))=false:=dn;obtain rfl:i=N:=by omega
  refine aZ ?_;repeat' (intro h<;>simp only[h,go_sem,go_sem_proc,F,I,cb,sK,lF,jU,hU]<;>try refine ax ?_ ?_)
  refine dQ _ _ go ?_ ?_ ?_ ag<;>simp only[e7,ed,if_false,F,I,cb]
def ma (stop:Bool):Nat->Nat->List dy->List Nat->Bool->List dy×List Nat×Bool
 |0,_,rows,free,bad=>(rows,free,bad)
 |_+1,_,rows,free,true=>(rows,free,true)
 |k+1,c,rows,free,false =>
  if (iK rows (c-D free) c).1=true then
   (if stop=true then ((iK rows (c-D free) c).2.1,free++[c],(iK rows (c-D free) c).2.2) else ma stop k (c+1) (iK rows (c-D free) c).2.1 (free++[c]) (iK rows (c-D free) c).2.2)
  else ma stop k (c+1) (iK rows (c-D free) c).2.1 free (iK rows (c-D free) c).2.2
theorem ahr (stop:Bool)(k c:Nat)(rows:List dy)(free:List Nat):ma stop k c rows free true=(rows,free,true):=by
 cases k<;>rfl
def iC (n:Nat):List Data:=[.int .i64 n]
theorem y0 (n:Nat):(iC n).length=1:=rfl
theorem ahs (n:Nat):((iC n).map R.J).all R.one=true:=rfl
def YJ (N:Nat)(rows:List dy)(bad:Bool):Data:=.ptr [.Y (rows.map λx=>[.Y (x.2.2.map aE)]),.int .i64 N,.bool bad]
def HR (N:Nat)(p:List dy×List Nat×Bool):Data:=.cM [YJ N p.1 p.2.2,.Y (p.2.1.map iC)]
theorem QN (fY:List bg)(r c:Nat):∀(i:Nat) (l:List dy) (b:Bool),(j4 fY r c i l b).1.map (λx=>(x.1,x.2.1,x.2.2.length))=l.map λx=>(x.1,x.2.1,x.2.2.length)
 |_,[],_=>rfl
 |i,x::xs,b=>by
  unfold j4
  split
  ·simp only[eA,QN fY r c (i+1) xs b]
  ·simp only[eA,QN fY r c (i+1) xs,ag0]
theorem aht (fB:bg):∀(l p:List bg) (b:Bool),(∀f∈l,okF f)->∀f∈(jq fB l p b).1,okF f
 | [],p,b,h=>by rw[ag1];exact h
 |f::dP,[],b,h=>by cases b<;>(simp only[jq];exact h)
 |f::dP,p::ps,true,h=>by simp only[jq];exact h
 |f::dP,p::ps,false,h=>by
  simp only[jq];intro g bc;rcases hH.1 bc with rfl|bc
  ·exact agX _ _
  ·exact aht fB dP ps _ (λx O=>h x (gZ _ O)) g bc
theorem YK (fY:List bg)(r c:Nat):∀(i:Nat) (l:List dy) (b:Bool),(∀x∈l,∀f∈x.2.2,okF f)->∀x∈(j4 fY r c i l b).1,∀f∈x.2.2,okF f
 |_,[],_,h=>h
 |i,x::xs,b,h=>by
  unfold j4
  split
  ·intro y aw;rcases hH.1 aw with rfl|aw
   ·exact h _ gq
   ·exact YK fY r c (i+1) xs b (λz aV=>h z (gZ _ aV)) y aw
  ·intro y aw;rcases hH.1 aw with rfl|aw
   ·exact aht _ _ _ _ (h _ gq)
   ·exact YK fY r c (i+1) xs _ (λz aV=>h z (gZ _ aV)) y aw
theorem ahu (rows:List dy)(r c:Nat)(ab:r<=D rows):r<=findAt rows r c/\findAt rows r c<=D rows:=by
 unfold findAt;have:=ahv (p:=λx => !nF (cellOf x c)) (xs:=rows.drop r);rw[rB] at this;omega
theorem j3.piv {N:Nat}{rows:List dy}(h:j3 N rows){r c:Nat}(ab:r<N):j3 N (iK rows r c).2.1:=by
 unfold iK
 split
 ·exact h
 ·rename_i bE;have jQ:=ahu rows r c (by rw[h.len];omega);have ar:=h.len;obtain⟨x,O⟩:∃x,rows[findAt rows r c]?=some x:=⟨_,bz (by omega)⟩;obtain⟨xx,pC⟩:∃x,rows[r]?=some x:=⟨_,bz (by omega)⟩
  have AF:j3 N (qV rows r (findAt rows r c)):=by
   unfold qV;rw[xw O,xw pC];exact h.swap pC O
  have yY:(qV rows r (findAt rows r c))[r]?=some x:=by
   unfold qV;rw[xw O,xw pC];exact Yv O pC
  generalize qV rows r (findAt rows r c)=h7 at *;obtain⟨tq,HO⟩:=AF.row x (ei yY)
  have Ab:j3 N (EF h7 r c):=by
   unfold EF;rw[xw yY];refine AF.set yY (by simp[hW,tq]) λf aH=>?_;obtain⟨g,-,rfl⟩:=dT.1 aH;exact agY _ _
  generalize EF h7 r c=iL at *;have jx:=QN (hW (cellOf (rowAt h7 r) c) (rowAt h7 r).2.2).1 r c 0 iL (hW (cellOf (rowAt h7 r) c) (rowAt h7 r).2.2).2;have cW:=YK (hW (cellOf (rowAt h7 r) c) (rowAt h7 r).2.2).1 r c 0 iL (hW (cellOf (rowAt h7 r) c) (rowAt h7 r).2.2).2 λx O=>(Ab.row x O).2;dsimp only;generalize (j4 (hW (cellOf (rowAt h7 r) c) (rowAt h7 r).2.2).1 r c 0 iL (hW (cellOf (rowAt h7 r) c) (rowAt h7 r).2.2).2).1=el at *;refine⟨?_,?_,λy aw=>⟨?_,cW y aw⟩⟩
  ·have:=congrArg D jx;rw[aj,aj] at this;rw[this,Ab.len]
  ·have F:el.map (·.1)=iL.map (·.1):=by
    have:=congrArg (yZ λp:Nat×Nat×Nat=>p.1) jx
    simpa [m6,Function.comp_def] using this
   rw[F];exact Ab.QD
  ·have F:el.map (λx=>x.2.2.length)=iL.map λx=>x.2.2.length:=by
    have:=congrArg (yZ λp:Nat×Nat×Nat=>p.2.2) jx
    simpa [m6,Function.comp_def] using this
   have I:y.2.2.length∈iL.map λx=>x.2.2.length:=by rw[<-F];exact dT.2 ⟨y,aw,rfl⟩
   obtain⟨z,aV,e⟩:=dT.1 I;rw[<-e];exact (Ab.row z aV).1
theorem avy {n k g N:Nat}{mem:Mem}{l:List bg}(ar:(D l)=N+1)(hm:mem k=some (g,a7 aE l)):cl (n+1) mem (.ref k g 4 0 (N+1))=some (.Y (l.map aE)):=by
 rw[<-ar];exact oa kO hm
theorem avz {n N:Nat}{mem:Mem}{rows:List dy}(h:∀x∈rows,mem (x.1+900000)=some (x.2.1,a7 aE x.2.2))(ar:∀x∈rows,x.2.2.length=N+1):(refsOf N rows).mapM (cl (n+1) mem)=some (rows.map λx => .Y (x.2.2.map aE)):=by
 unfold refsOf
 induction rows with
 |nil=>rfl
 |cons x xs ay =>
  have F:=avy (n:=n) (ar x gq) (h x gq);have I:=ay (λy aw=>h y (gZ _ aw)) λy aw=>ar y (gZ _ aw);simp only[eA,ju,F,I]
  rfl
theorem YL {n N go:Nat}{mem:Mem}{rows:List dy}{bad:Bool}(cW:j3 N rows)(h:AA go N rows bad mem):cl (n+3) mem (.ptr 129015 0 0)=some (YJ N rows bad):=by
 have F:=avz (n:=n) h.r λx O=>(cW.row x O).1
 have I:cl (n+2) mem (.ref 129035 go 1 0 N)=some (.Y (rows.map λx=>[.Y (x.2.2.map aE)])):=by
  unfold cl;rw[h.o];simp only[if_true];unfold cut;rw[ad (by rw[HP,cW.len];omega),lV,dB (by rw[HP,cW.len];omega)];dsimp only;rw[F];have:=yt (sz:=1) (rows.map λx=>[Data.Y (x.2.2.map aE)]) (by intro e he;obtain⟨x,-,rfl⟩:=dT.1 he;rfl);rw[aj,cW.len] at this;simp only[k5,ca,Data.Y.injEq]
  have jQ:∀l:List dy,(l.map λx=>Data.Y (x.2.2.map aE))=(l.map λx=>[Data.Y (x.2.2.map aE)]).flatten:=by
   intro l
   induction l with
   |nil=>rfl
   |cons x xs ay=>simp only[eA,jt,ay];rfl
  rw[jQ,this]
 unfold cl;rw[h.m];simp only[if_true,lV,ju,List.mapM_nil,I,true_and,fk];simp only[BH]
 rfl
theorem AG.avA {N go:Nat}{rs:List e0}{m:Mem}(ar:(D rs)=N)(gD:0<N)(h:AG N rs N go m):AA go N (hC rs) false m:=by
 have bD:(hC rs).take N=hC rs:=dB (by rw[EK];omega);have aG:=h.p gD;rw[bD] at aG;exact⟨aG.1,aG.2,by have:=h.r;rw[bD] at this;exact this⟩
theorem AA.other {go N:Nat}{rows:List dy}{bad:Bool}{mem:Mem}{k g:Nat}{cs:List R}(h:AA go N rows bad mem)(F:k≠129015)(I:k≠129035)(af:k<900000):AA go N rows bad (a1 mem k g cs) :=
 ⟨(lI (Ne.symm F)).trans h.m,(lI (Ne.symm I)).trans h.o,λx O=>(lI (show (x.1+900000:Nat)≠k by omega)).trans (h.r x O)⟩
theorem ahw {N:Nat}{rs:List e0}(ar:(D rs)=N)(h:∀r∈rs,r.1.length=N/\yS r):j3 N (hC rs):=by
 refine⟨by rw[EK,ar],?_,λx O=>?_⟩
 ·have:(hC rs).map (·.1)=dW (D rs):=by
   unfold hC;rw[m6];apply qx;intro i;rw[bn,YH];rcases ih i (D rs) with h|h
   ·rw[bz h];simp[h]
   ·rw[mB h];simp[h]
  rw[this];exact List.nodup_range
 ·unfold hC at O;obtain⟨⟨r,i⟩,aG,rfl⟩:=dT.1 O;have ab:=List.fst_mem_of_mem_zipIdx aG;obtain⟨F,I,af⟩:=h r ab;refine⟨by simp[F],λf aH=>?_⟩
  rw[jk,ub] at aH;rcases aH with aH|rfl
  ·exact I.2 f aH
  ·exact af
abbrev YM:(List e0)×Int×Bool->List Data:=λ(rs,n,stop)=>[.Y (rs.map iX),.int .i64 n,.bool stop]
def QO:=cu YM λ(rs,n,stop)=>cU ((D rs:Int)=n/\D rs<=40/\∀r∈rs,r.1.length=D rs/\yS r) (.same (HR (D rs) (ma stop (D rs) 0 (hC rs) [] false)))
theorem avB:∀a b,YM a=YM b->a=b:=by
  rintro⟨agx,iR,aLb⟩ ⟨agy,jR,aLc⟩ h;simp only[bf,Data.Y.injEq,Data.int.injEq,Data.bool.injEq] at h;exact dR (map_inj XG _ _ h.1) (dR h.2.1.2 h.2.2.1)
@[go_sem] theorem avC (rs:List e0)(n:Int)(stop:Bool)(H:(D rs:Int)=n/\D rs<=40/\∀r∈rs,r.1.length=D rs/\yS r):QO [.Y (rs.map iX),.int .i64 n,.bool stop]=some (.same (HR (D rs) (ma stop (D rs) 0 (hC rs) [] false))):=(cD avB (rs,n,stop)).trans (cZ H _)
theorem avD (T:bl)(l9:T OW=aW QI)(nG:T Us=qU L5)(rs:List e0)(n:Int)(stop:Bool)(H:(D rs:Int)=n/\D rs<=40/\∀r∈rs,r.1.length=D rs/\yS r):WP T LG (.same (HR (D rs) (ma stop (D rs) 0 (hC rs) [] false))) [.J (.Y (rs.map iX)),.J (.int .i64 n),.J (.bool stop)]:=by
 refine cE ?_;simp only[LG];obtain⟨aK,gD,BE⟩:=H;subst aK;simp only[go_sem,go_sem_proc,l9,nG,aj];generalize YN:(D rs)=N at *;refine avv T l9 N rs stop gD YN BE _ _ rfl rfl rfl rfl rfl rfl ⟨λ_=>by simp[a1],λh=>by omega,λx O=>by simp at O,λj _=>lI (show (j+900000:Nat)≠129015 by omega),lI (by omega),lI (by omega)⟩ ?_
 intro tm m go F I cb ag;rcases k4 N with ao|h4
 ·have pY:rs=[]:=List.eq_nil_of_length_eq_zero (by omega);have aV:=ag.z ao;subst ao;subst pY;simp only[go_sem,go_sem_proc,l9,nG,F,I,cb];refine dw [1,2,8] [129015] (λ(_:Unit) tm' m'=>tm' 11=.ref 129061 (gB (m 129061)) 1 0 0/\m' 129061=some (gB (m 129061),[])/\tm' 12=.J (.int .i64 0)) (λ_=>0) () (by refine⟨rfl,?_,rfl⟩;simp[a1]) ?_;intro vs ms aT aS;simp only[go_sem,go_sem_proc,l9,nG,F,I,cb,aV] at aT aS;subst aT aS;rintro _ tm' m' Q hm ⟨mL,HS,mM⟩;simp only[go_sem,go_sem_proc,l9,nG,bf] at Q hm;obtain⟨cv,cS,hT⟩:=Q;simp only[go_sem,go_sem_proc,l9,nG,cv,cS,hT,hm,mL,HS,mM,show decide ((0:Int)<((0:Nat):Int))=false from rfl,cl,nZ,lV];repeat' (first|refine ax ?_ ?_|fail)<;>intro h<;>simp only[h,go_sem,go_sem_proc,l9,nG,cv,cS,hT,hm,mL,HS,mM,show decide ((0:Int)<((0:Nat):Int))=false from rfl,cl,nZ,lV]
  rfl
 ·have AH:=ag.avA YN h4;have cW:=ahw YN BE;have L7:=ag.a;have L8:=ag.b;clear ag;simp only[go_sem,go_sem_proc,l9,nG,F,I,cb]
  refine dw [1,2,8] [] (λ((c,rows,free,bad,g):Nat×List dy×List Nat×Bool×Nat) tm m=>c<=N/\D free<=c/\ma stop N 0 (hC rs) [] false=ma stop (N-c) c rows free bad/\j3 N rows/\AA go N rows bad m/\m 168004=none/\m 168006=none/\tm 11=.ref 129061 g 1 0 (D free)/\m 129061=some (g,a7 iC free)/\tm 12=.J (.int .i64 c)) (λ(c,_,_,_,_)=>N-c) (0,hC rs,[],false,gB (m 129061)) (by
   refine⟨fk _,b1 _,rfl,cW,⟨?_,?_,λx O=>?_⟩,?_,?_,rfl,?_,rfl⟩
   ·rw[lI (by omega)];exact AH.m
   ·rw[lI (by omega)];exact AH.o
   ·rw[lI (show (x.1+900000:Nat)≠129061 by omega)];exact AH.r x O
   ·rw[lI (by omega)];exact L7
   ·rw[lI (by omega)];exact L8
   ·simp[a1,a7]) ?_
  intro vs ms aT aS;simp only[go_sem,go_sem_proc,l9,nG,F,I,cb] at aT aS;subst aT aS;clear F I cb AH L7 L8;rintro⟨c,rows,free,bad,g⟩ tm m Q hm ⟨avc,aLd,k0,cW,AH,L7,L8,mL,HS,mM⟩;simp only[go_sem,go_sem_proc,l9,nG,bf] at Q hm;obtain⟨F,I,cb⟩:=Q;have ux:=AH.m
  have Wj:ma stop N 0 (hC rs) [] false=(rows,free,bad)->((cl 5 m (.ptr 129015 0 0)).bind λd=>(cl 5 m (.ref 129061 g 1 0 (D free))).bind λe=>some (Data.cM [d,e]))=some (HR N (ma stop N 0 (hC rs) [] false)):=by
   intro h;rw[h,YL (n:=2) cW AH,oa y0 HS]
   rfl
  have QP:=YL (n:=2) cW AH;have HT:=oa (n:=4) y0 HS;rcases dF (c<N) with aA|b7
  ·have eL:decide ((c:Int)<(N:Int))=true:=dp
   cases bad
   ·have oV:IntKind.i64.wrap ((c:Int)-(D free:Int))=((c-D free:Nat):Int):=by rw[fc _];omega
    have fy:=e9 (i:=c) (by omega);have fm:=avm ⟨go,N,rows,c-D free,c⟩ m ⟨cW,AH,L7,L8,gD,Nat.sub_le _ _,aA⟩;dsimp only at fm;have YO:N-c=(N-(c+1))+1:=by omega
    rw[YO] at k0;simp only[ma] at k0;have HH:=cW.piv (r:=c-D free) (c:=c) (by omega);simp only[go_sem,go_sem_proc,l9,nG,nG,F,I,cb,mL,mM,ux,eL,oV,fm];intro Cu m' gU;obtain⟨EC,gE⟩:=gU;dsimp only at EC gE;subst EC;have l8:m' 168004=none:=(gE.2 _ Yx).trans L7;have Cz:m' 168006=none:=(gE.2 _ Yy).trans L8;have L9:m' 129061=some (g,a7 iC free):=(gE.2 129061 (by unfold HD;omega)).trans HS;have dg:kW 129061 g 1 (D free) 8 1 [.J (.int .i64 c)] (some (g,a7 iC free))=_:=k6 y0 ahs 129061 g 8 free c rfl (by omega) (by omega);generalize aLe:iK rows (c-D free) c=bI at *;obtain⟨avE,ahx,ahy⟩:=bI;dsimp only at *
    cases avE
    ·simp only[kX,if_false] at k0;simp only[go_sem,go_sem_proc,l9,nG,F,I,cb,mL,mM,fy];repeat' (first|refine ax ?_ ?_|fail)<;>intro h<;>simp only[h,go_sem,go_sem_proc,l9,nG,F,I,cb,mL,mM,fy]
     exact⟨(c+1,ahx,free,ahy,g),by dsimp only;omega,by dsimp only;omega,by dsimp only;omega,k0,HH,gE.1,l8,Cz,rfl,L9,rfl⟩
    ·simp only[if_true] at k0;have ahz:=gE.1.other (k:=129061) (g:=g+1) (cs:=a7 iC (free++[c])) (by omega) (by omega) (by omega)
     cases stop
     ·simp only[kX,if_false] at k0;simp only[go_sem,go_sem_proc,l9,nG,F,I,cb,mL,mM,fy,L9,dg];repeat' (first|refine ax ?_ ?_|fail)<;>intro h<;>simp only[h,go_sem,go_sem_proc,l9,nG,F,I,cb,mL,mM,fy,L9,dg]
      exact⟨(c+1,ahx,free++[c],ahy,g+1),by dsimp only;omega,by dsimp only;omega,by simp;omega,k0,HH,ahz,l8,Cz,by simp,rfl,rfl⟩
     ·simp only[if_true] at k0;simp only[go_sem,go_sem_proc,l9,nG,F,I,cb,mL,mM,fy,L9,dg];repeat' (first|refine ax ?_ ?_|fail)<;>intro h<;>simp only[h,go_sem,go_sem_proc,l9,nG,F,I,cb,mL,mM,fy,L9,dg]
      have rT:(D free)+1=(free++[c]).length:=by simp
      rw[YL (n:=2) HH ahz,rT,oa (n:=4) y0 (g:=g+1) (l:=free++[c]) (by simp[a1]),k0]
      rfl
   ·rw[ahr] at k0;simp only[go_sem,go_sem_proc,l9,nG,F,I,cb,mL,mM,ux,eL,QP,HT];repeat' (first|refine ax ?_ ?_|fail)<;>intro h<;>simp only[h,go_sem,go_sem_proc,l9,nG,F,I,cb,mL,mM,ux,eL,QP,HT]
    rw[k0]
    rfl
  ·have eL:decide ((c:Int)<(N:Int))=false:=dn;have YO:N-c=0:=by omega
   rw[YO] at k0;simp only[ma] at k0;simp only[go_sem,go_sem_proc,l9,nG,F,I,cb,mL,mM,ux,eL,QP,HT];repeat' (first|refine ax ?_ ?_|fail)<;>intro h<;>simp only[h,go_sem,go_sem_proc,l9,nG,F,I,cb,mL,mM,ux,eL,QP,HT]
   rw[k0]
   rfl
theorem YP {rs:List e0}{n:Int}(bM:rN rs)(h:oo rs n=true):(D rs:Int)=n/\D rs<=40/\∀r∈rs,r.1.length=D rs/\yS r:=by
 unfold oo at h;simp only[eM,rO,decide_eq_false_iff_not,beq_iff_eq] at h;obtain⟨F,I,af,aO⟩:=h;refine⟨af,by omega,λr ab=>⟨?_,bM.2 r ab⟩⟩
 rw[vX] at aO;have:=aO r ab;unfold oZ at this;simp at this;omega
theorem YQ {stop:Bool}{N:Nat}:∀(k c:Nat) (rows:List dy) (free:List Nat) (bad:Bool),c+k=N->j3 N rows->j3 N (ma stop k c rows free bad).1
 |0,_,rows,_,_,_,h=>h
 |k+1,c,rows,free,true,H,h=>h
 |k+1,c,rows,free,false,H,h=>by
  have aG:=h.piv (r:=c-D free) (c:=c) (by omega);unfold ma
  split
  ·split
   ·exact aG
   ·exact YQ k (c+1) _ _ _ (by omega) aG
  ·exact YQ k (c+1) _ _ _ (by omega) aG
def qW (stop:Bool)(rs:List e0):List dy×List Nat×Bool:=ma stop (D rs) 0 (hC rs) [] false
theorem YR (stop:Bool):∀(k c:Nat) (rows:List dy) (free:List Nat) (bad:Bool),(ma stop k c rows free bad).2.1.length<=D free+k
 |0,_,_,_,_=>by simp[ma]
 |k+1,c,rows,free,true=>by simp[ma]
 |k+1,c,rows,free,false=>by
  unfold ma
  split
  ·split
   ·simp
   ·have:=YR stop k (c+1) (iK rows (c-D free) c).2.1 (free++[c]) (iK rows (c-D free) c).2.2;simp at this;omega
  ·have:=YR stop k (c+1) (iK rows (c-D free) c).2.1 free (iK rows (c-D free) c).2.2;omega
theorem avF (stop:Bool)(rs:List e0):(qW stop rs).2.1.length<=D rs:=by
 have:=YR stop (D rs) 0 (hC rs) [] false;unfold qW
 simpa using this
theorem avG {rs:List e0}{stop:Bool}(h:∀r∈rs,r.1.length=D rs/\yS r):j3 (D rs) (qW stop rs).1:=YQ _ _ _ _ _ (by omega) (ahw rfl h)
def vY (N:Nat)(x:dy):bg:=x.2.2.getD N fv
def qX (rs:List e0)(n:Int):List bg×Int :=
 if oo rs n=true then (if (qW true rs).2.2=true then ([],6) else if (qW true rs).2.1.length>0 then ([],17) else ((qW true rs).1.map (vY (D rs)),0)) else ([],1)
theorem avH {N:Nat}{x:dy}{f:bg}(h:x.2.2[N]?=some f):vY N x=f:=by
 unfold vY;rw[ep,h]
 rfl
def YS:=cu Qj λ(rs,n)=>cU (rN rs) (.same (.cM [.Y ((qX rs n).1.map aE),.int .i64 (qX rs n).2]))
@[go_sem] theorem avI (rs:List e0)(n:Int)(H:rN rs):YS [.Y (rs.map iX),.int .i64 n]=some (.same (.cM [.Y ((qX rs n).1.map aE),.int .i64 (qX rs n).2])):=(cD agz (rs,n)).trans (cZ H _)
theorem avJ (T:bl)(CB:T Ui=aW XQ)(CC:T Ul=aW QO)(rs:List e0)(n:Int)(H:rN rs):WP T W7 (.same (.cM [.Y ((qX rs n).1.map aE),.int .i64 (qX rs n).2])) [.J (.Y (rs.map iX)),.J (.int .i64 n)]:=by
 refine cE ?_;simp only[W7];unfold qX;rcases ab:oo rs n
 ·refine aZ ?_;repeat' (intro h<;>simp only[h,go_sem,go_sem_proc,CB,CC,H,ab,cY]<;>try refine ax ?_ ?_)
 ·have cW:=avG (stop:=true) (YP H ab).2.2;have e8:QO [.Y (rs.map iX),.int .i64 n,.bool true]=some (.same (HR (D rs) (qW true rs))):=avC rs n true (YP H ab);have jQ:=avF true rs;obtain⟨aK,gD,-⟩:=YP H ab;rcases gv:qW true rs with ⟨rows,free,bad⟩;rw[gv] at jQ cW e8;dsimp only at jQ cW;simp only[HR,YJ] at e8
  cases bad
  ·cases free with
   |nil =>
    simp only[go_sem,go_sem_proc,CB,CC,H,ab,e8,aj,show decide (((0:Nat):Int)>0)=false from rfl,cY];rw[ah (by simp)];refine dw [1,33,34] [] (λ((i,g):Nat×Nat) tm m=>i<=D rs/\tm 35=.J (.int .i64 i)/\tm 8=.ref 109045 g 4 0 i/\m 109045=some (g,a7 aE ((rows.take i).map (vY (D rs))))) (λ(i,_)=>D rs-i) (0,0) (by refine⟨fk _,rfl,rfl,?_⟩;simp[a1,a7,bX,emp]) ?_;intro vs ms aT aS;simp only[go_sem,go_sem_proc,CB,CC] at aT aS;subst aT aS;rintro⟨i,g⟩ tm m Q hm ⟨ahg,QJ,cb,YT⟩;simp only[go_sem,go_sem_proc,CB,CC,bf] at Q hm;obtain⟨F,Ls,ahA⟩:=Q;have b2:=cW.len;rcases dF (i<D rs) with aA|b7
    ·obtain⟨x,O⟩:∃x,rows[i]?=some x:=⟨_,bz (by omega)⟩;obtain⟨tq,HO⟩:=cW.row x (ei O);obtain⟨⟨⟨c0,dj⟩,⟨a3,a4⟩⟩,uv⟩:∃f,x.2.2[D rs]?=some f:=⟨_,bz (by omega)⟩;have iU:=avH uv;have sZ:((rows.take i).map (vY (D rs))).length=i:=by rw[aj,fI];omega
     have dg:=k6 kO As 109045 g 64 ((rows.take i).map (vY (D rs))) ((c0,dj),(a3,a4)) (cs:=[.J (.int .i64 c0),.J (.Y (dj.map ae)),.J (.int .i64 a3),.J (.Y (a4.map ae))]) rfl (by omega) (by omega);rw[sZ] at dg
     have avK:(rows.take (i+1)).map (vY (D rs))=(rows.take i).map (vY (D rs))++[((c0,dj),(a3,a4))]:=by
      rw[hc,O,jD];simp[iU]
     have hU:decide ((i:Int)<(D rs:Int))=true:=dp;have YU:decide ((i:Int)<(D rows:Int))=true:=dp;have hw:=e9 (i:=i) (by omega);have lz:decide (0<=n)=true:=dp;have vZ:n=((D rs:Nat):Int):=aK.symm;refine aZ ?_;repeat' (intro h<;>simp only[h,go_sem,go_sem_proc,CB,CC,F,Ls,ahA,QJ,cb,YT,O,uv,dg,hU,YU,hw,vZ,aj,bn,aE]<;>try refine ax ?_ ?_)
     exact⟨(i+1,g+1),by dsimp only;omega,by dsimp only;omega,rfl,rfl,by dsimp only;rw[avK]⟩
    ·have cH:i=D rs:=by omega
     have YU:decide ((i:Int)<(D rows:Int))=false:=dn;have e4:rows.take i=rows:=dB (by omega);rw[e4] at YT
     have kJ:∀n,cl (n+1) m (.ref 109045 g 4 0 i)=some (.Y ((rows.map (vY (D rs))).map aE)):=λn=>by
      have:=oa (n:=n) kO YT;rw[show (rows.map (vY (D rs))).length=i by rw[aj];omega] at this
      exact this
     have avL:=kJ 4;refine aZ ?_;repeat' (intro h<;>simp only[h,go_sem,go_sem_proc,CB,CC,F,Ls,ahA,QJ,cb,YU,avL]<;>try refine ax ?_ ?_)
   |cons f dP =>
    have iS:decide ((((f::dP).length:Nat):Int)>0)=true:=kf (by simp only[h0];omega);simp only[h0] at iS;refine aZ ?_;repeat' (intro h<;>simp only[h,go_sem,go_sem_proc,CB,CC,H,ab,e8,aj,iS,cY]<;>try refine ax ?_ ?_)
    rw[ad (by omega)]
    rfl
  ·refine aZ ?_;repeat' (intro h<;>simp only[h,go_sem,go_sem_proc,CB,CC,H,ab,e8,aj,cY]<;>try refine ax ?_ ?_)
def YV:bY:=cq 30 2 [.t 4,.t 5] (X [(aC 4 (.cN (.c (.J (.int .u64 0))))),(aC 5 (.cN (.c (.J (.int .u64 0)))))] (.seq (.cond (.c (.J (.bool false))) (X [G 11 0,(aC 12 (.conv .u32 (.t 11))),G 13 1,(aC 14 (.conv .u32 (.t 13))),(cA 15 arp 12 14),G 10 15,bK 16 0 10,bK 17 1 10,G 6 16,G 7 17] (X [G 18 6,(aC 19 (.conv .u64 (.t 18))),G 20 7,(aC 21 (.conv .u64 (.t 20))),G 4 19,G 5 21] .ret)) .skip) (X [G 23 0,G 24 1,(cA 25 Uy 23 24),G 22 25,bK 26 0 22,bK 27 1 22,G 8 26,G 9 27] (X [G 28 8,G 29 9,G 4 28,G 5 29] .ret))))
def YW:bY:=cq 51 2 [.t 4,.t 5] (X [(aC 4 (.cN (.c (.J (.int .u64 0))))),(aC 5 (.cN (.c (.J (.int .u64 0)))))] (X [G 14 0,(aC 15 (.bin .and (.t 14) (.c (.J (.int .u64 4294967295))))),G 6 15] (X [G 16 0,(aC 17 (.bin .shr (.t 16) (.c (.J (.int .u64 32))))),G 7 17] (X [G 18 1,(aC 19 (.bin .and (.t 18) (.c (.J (.int .u64 4294967295))))),G 8 19] (X [G 20 1,(aC 21 (.bin .shr (.t 20) (.c (.J (.int .u64 32))))),G 9 21] (X [G 22 6,G 23 8,bB 24 .mul 22 23,G 10 24] (X [G 25 7,G 26 8,bB 27 .mul 25 26,G 28 10,(aC 29 (.bin .shr (.t 28) (.c (.J (.int .u64 32))))),bB 30 .add 27 29,G 11 30] (X [G 31 11,(aC 32 (.bin .and (.t 31) (.c (.J (.int .u64 4294967295))))),G 12 32] (X [G 33 11,(aC 34 (.bin .shr (.t 33) (.c (.J (.int .u64 32))))),G 13 34] (X [G 35 12,G 36 6,G 37 9,bB 38 .mul 36 37,bB 39 .add 35 38,G 12 39] (X [G 40 7,G 41 9,bB 42 .mul 40 41,G 43 13,bB 44 .add 42 43,G 45 12,(aC 46 (.bin .shr (.t 45) (.c (.J (.int .u64 32))))),bB 47 .add 44 46,G 4 47] (X [G 48 0,G 49 1,bB 50 .mul 48 49,G 5 50] .ret))))))))))))
theorem YX:∀y:Nat,y<41->bits .and .u64 (y:Int) 4294967295=y:=by decide
theorem avM (y:Nat)(h:y<41):(y:Int).fdiv 4294967296=0:=by
 rw[Int.fdiv_eq_ediv_of_nonneg _ (by omega)];omega
abbrev QQ:Nat->List Data:=λ(y:Nat)=>[.int .u64 1,.int .u64 y]
def YY:=cu QQ λ(y:Nat)=>cU (y<41) (.same (.cM [.int .u64 0,.int .u64 y]))
theorem ahB:∀a b,QQ a=QQ b->a=b:=by
  intro tS tT h;simp only[bf,Data.int.injEq] at h;omega
@[go_sem] theorem aLf (y:Nat)(H:y<41):YY [.int .u64 1,.int .u64 y]=some (.same (.cM [.int .u64 0,.int .u64 y])):=(cD ahB y).trans (cZ H _)
theorem avN (T:bl)  (y:Nat) (H:y<41):WP T YW (.same (.cM [.int .u64 0,.int .u64 y])) [.J (.int .u64 1),.J (.int .u64 y)]:=by
 refine cE ?_;simp only[YW];have F:=YX y H;have I:=avM y H;have af:=YX 1 (by omega);have aO:=YX 0 (by omega);have br:((1:Int)).fdiv 4294967296=0:=by decide
 have bR:((0:Int)).fdiv 4294967296=0:=by decide
 have hw:∀x:Int,0<=x/\x<18446744073709551616->IntKind.u64.wrap x=x:=λx h=>zT x h;have ez:=hw 0 (by omega);have w1:=hw y (by omega);simp only[Int.natCast_zero,Int.cast_ofNat_Int,Int.natCast_one] at af aO;simp only[go_sem,go_sem_proc,F,I,af,aO,br,bR,ez,w1,show ((32:Int)<0)=False from by simp,if_false,show (2:Int)^min (Int.toNat 32) 64=4294967296 from rfl,oe,Ah,ua,xd,D8]
 repeat' (first|refine ax ?_ ?_|fail)<;>intro h<;>simp only[h,go_sem,go_sem_proc,F,I,af,aO,br,bR,ez,w1,show ((32:Int)<0)=False from by simp,if_false,show (2:Int)^min (Int.toNat 32) 64=4294967296 from rfl,oe,Ah,ua,xd,D8]
def YZ:=cu QQ λ(y:Nat)=>cU (y<41) (.same (.cM [.int .u64 0,.int .u64 y]))
@[go_sem] theorem aLg (y:Nat)(H:y<41):YZ [.int .u64 1,.int .u64 y]=some (.same (.cM [.int .u64 0,.int .u64 y])):=(cD ahB y).trans (cZ H _)
theorem avO (T:bl)(avP:T Uy=aW YY)(y:Nat)(H:y<41):WP T YV (.same (.cM [.int .u64 0,.int .u64 y])) [.J (.int .u64 1),.J (.int .u64 y)]:=by
 refine cE ?_;simp only[YV];refine aZ ?_;repeat' (intro h<;>simp only[h,go_sem,go_sem_proc,avP,H]<;>try refine ax ?_ ?_)
theorem rU {α:Type}{A:List α}{k:Nat}(ec:(D A)=k)(n:Nat):(dG n A).flatten.length=n*k:=by
 rw[List.length_flatten,HU,ec,List.sum_replicate_nat]
theorem avQ {α:Type}{A:List α}{k:Nat}(ec:(D A)=k){q j:Nat}(h:q<=j):(dG j A).flatten.take (q*k)=(dG q A).flatten:=by
 obtain⟨d,rfl⟩:=ahC h;rw[<-Y0,EL,CD (by rw[rU ec];omega),dB (by rw[rU ec];omega)]
theorem avR {α:Type}{A:List α}{k:Nat}(ec:(D A)=k){q j:Nat}(h:q<=j):(dG j A).flatten.drop (q*k)=(dG (j-q) A).flatten:=by
 obtain⟨d,rfl⟩:=ahC h;rw[<-Y0,EL,rA,kY (by rw[rU ec];omega),rU ec,mC,lV,jm,Gu]
def EM:List R:=[.J (.int .i64 0),.nil,.J (.int .i64 0),.nil]
def qa (A:List R)(N j:Nat):List R:=(dG j A).flatten++(dG (N-j) EM).flatten
theorem ahD {A:List R}(ec:(D A)=4){N j:Nat}(h:j<=N):(qa A N j).length=N*4:=by
 unfold qa;rw[fr,rU ec,rU (show (D EM)=4 from rfl)];omega
theorem ahE {A:List R}(ec:(D A)=4){N j q:Nat}(h:j+q<=N):(qa A N j).take (j*4)++(dG q A).flatten++(qa A N j).drop (j*4+q*4)=qa A N (j+q):=by
 unfold qa;rw[CD (by rw[rU ec];omega),dB (by rw[rU ec];omega),rA,kY (by rw[rU ec];omega),rU ec,Gu,avR (show (D EM)=4 from rfl) (by omega),jm,<-Y0 (n:=j),EL,Nat.sub_sub]
theorem avS {A:List R}(ec:(D A)=4){N j:Nat}:(qa A N j).take (j*4)=(dG j A).flatten:=by
 unfold qa;rw[CD (by rw[rU ec];omega),dB (by rw[rU ec];omega)]
theorem ahF {A:List R}(h:A.all R.one=true)(q:Nat):(dG q A).flatten.all R.one=true:=by
 induction q with
 |zero=>rfl
 |succ n ay=>rw[pO,jt,agT,h,ay];rfl
theorem avT (f:bg)(N:Nat):qa ((aE f).map .J) N N=a7 aE (dG N f):=by
 unfold qa a7;rw[mC,HU];simp only[List.replicate_zero,List.flatten_nil,fE]
 induction N with
 |zero=>rfl
 |succ n ay=>rw[pO,jt,pO,jt,jD,ay]
theorem avU {A:List R}(ec:(D A)=4)(F:A.all R.one=true)(N:Nat):Bl 131030 0 4 0 N 1 A (some (0,(dG N EM).flatten))=some (.J (.int .i64 ((min 1 N:Nat):Int)),some (131030,0,qa A N (min 1 N))):=by
 unfold Bl;dsimp only;rw[ad ⟨rfl,by rw[rU (show (D EM)=4 from rfl)];omega,F⟩]
 have ao:(dG N EM).flatten=qa A N 0:=by simp[qa]
 have bD:A.take (min 1 N*4)=(dG (min 1 N) A).flatten:=by
  rcases k4 N with h|h
  ·subst h;simp
  ·rw[show min 1 N=1 by omega];simp[dB (AJ ec)]
 have:=ahE ec (N:=N) (j:=0) (q:=min 1 N) (by omega);rw[ao,bD];unfold kU;rw[rU ec];simp only[Nat.zero_mul,jv] at this ⊢;rw[this]
theorem avV {A:List R}(ec:(D A)=4)(F:A.all R.one=true){N j:Nat}(h:j<N):Bl 131030 0 4 (j*4) (N-j) j (dG j A).flatten (some (0,qa A N j))=some (.J (.int .i64 ((min j (N-j):Nat):Int)),some (131030,0,qa A N (j+min j (N-j)))):=by
 unfold Bl;dsimp only;rw[ad ⟨rfl,by rw[ahD ec (by omega)];omega,ahF F j⟩]
 rw[avQ ec (show min j (N-j)<=j by omega)];have:=ahE ec (N:=N) (j:=j) (q:=min j (N-j)) (by omega);unfold kU;rw[rU ec,this]
abbrev Y1:Int×(List Int)×Int×(List Int)×Nat->List Data:=λ(s,l,s2,aq,N)=>[.Y [[.int .i64 s,.Y (l.map ae),.int .i64 s2,.Y (aq.map ae)]],.int .i64 N]
def Y2:=cu Y1 λ(s,l,s2,aq,N)=>cU (N<41) (.own 4 (dG N (aE ((s,l),(s2,aq)))))
theorem avW:∀a b,Y1 a=Y1 b->a=b:=by
  rintro⟨s1,eh,Cc,Cd,aLh⟩ ⟨s2,aq,Ce,Cf,aLi⟩ h;simp only[bf,Data.int.injEq,Data.Y.injEq] at h;exact dR h.1.1.1.2 (dR (map_inj fh _ _ h.1.1.2.1) (dR h.1.1.2.2.1.2 (dR (map_inj fh _ _ h.1.1.2.2.2.1) (by have:=h.2.1.2;dsimp only;omega))))
@[go_sem] theorem avX (s:Int)(l:List Int)(s2:Int)(aq:List Int)(N:Nat)(H:N<41):Y2 [.Y [[.int .i64 s,.Y (l.map ae),.int .i64 s2,.Y (aq.map ae)]],.int .i64 N]=some (.own 4 (dG N (aE ((s,l),(s2,aq))))):=(cD avW (s,l,s2,aq,N)).trans (cZ H _)
theorem avY (T:bl)(AK:T Ut=aW YZ)(s:Int)(l:List Int)(s2:Int)(aq:List Int)(N:Nat)(H:N<41):WP T Vs (.own 4 (dG N (aE ((s,l),(s2,aq))))) [.J (.Y [[.int .i64 s,.Y (l.map ae),.int .i64 s2,.Y (aq.map ae)]]),.J (.int .i64 N)]:=by
 refine cE ?_;simp only[Vs];have ao:decide ((N:Int)<0)=false:=dn;have hw:IntKind.u64.wrap (N:Int)=N:=zT _ ⟨by omega,by omega⟩
 have ad0:IntKind.i64.wrap (N:Int)=N:=wrap64 _ (by omega) (by omega);have oV:IntKind.u64.wrap ((1:Nat):Int)=1:=by decide
 have bc:decide ((N:Int)>9223372036854775807)=false:=dn;have HV:(64*N<=140737488355328)=True:=eq_true (by omega);have CE:(N<=maxLen)=True:=eq_true (by unfold maxLen;omega);have ec:((aE ((s,l),(s2,aq))).map R.J).length=4:=rfl;have xB:((aE ((s,l),(s2,aq))).map R.J).all R.one=true:=rfl;have Br:=avU ec xB N;have vi:=λj (h:j<N)=>avV ec xB h;have Ma:(aE ((s,l),(s2,aq))).map R.J=[.J (.int .i64 s),.J (.Y (l.map ae)),.J (.int .i64 s2),.J (.Y (aq.map ae))]:=rfl;simp only[EM] at Br;rw[Ma] at Br;simp only[go_sem,go_sem_proc,AK] at Br;simp only[go_sem,go_sem_proc,AK,ao,hw,ad0,oV,H,bc,HV,CE,show decide ((0:Int)>0)=false from rfl,Br];rw[Ma] at ec xB;have iE:=avT ((s,l),(s2,aq)) N;rw[Ma] at iE;simp only[Ma] at vi;clear Ma Br;generalize [R.J (.int .i64 s),.J (.Y (l.map ae)),.J (.int .i64 s2),.J (.Y (aq.map ae))]=A at *;refine dw [7] [] (λ(j:Nat) tm m=>j<=N/\(0<N->0<j)/\tm 8=.J (.int .i64 j)/\m 131030=some (0,qa A N j)) (λj=>N-j) (min 1 N) (by refine⟨by omega,by omega,rfl,?_⟩;simp[a1]) ?_;intro vs ms aT aS;simp only[go_sem,go_sem_proc,AK] at aT aS;subst aT aS;rintro j tm m Q hm ⟨ahG,avZ,cb,Mb⟩;simp only[go_sem,go_sem_proc,AK,bf] at Q hm;have bN:=Q;rcases dF (j<N) with aA|b7
 ·have ik:decide ((j:Int)<(N:Int))=true:=dp;have aK:=vi j aA;have fb:=avS ec (N:=N) (j:=j);have hlen:(j*4<=(qa A N j).length)=True:=eq_true (by rw[ahD ec ahG];omega);have ahH:(j<=N)=True:=eq_true ahG;have e4:=ahF xB j;simp only[go_sem,go_sem_proc,AK,e4,xB,fb] at aK;have fy:IntKind.i64.wrap ((j:Int)+((min j (N-j):Nat):Int))=((j+min j (N-j):Nat):Int):=by rw[fc _];omega
  simp only[go_sem,go_sem_proc,AK,bN,cb,Mb,ik,fb,hlen,ahH,e4,aK,fy,b1,AL,fk];repeat' (first|refine ax ?_ ?_|fail)<;>intro h<;>simp only[h,go_sem,go_sem_proc,AK,bN,cb,Mb,ik,fb,hlen,ahH,e4,aK,fy,b1,AL,fk]
  exact⟨j+min j (N-j),by have:=avZ (by omega);omega,by omega,by omega,rfl,rfl⟩
 ·have ik:decide ((j:Int)<(N:Int))=false:=dn;obtain rfl:j=N:=by omega
  rw[iE] at Mb;have Ei:=oQ kO (dG j ((s,l),(s2,aq)));rw[CF] at Ei;simp only[go_sem,go_sem_proc,AK,bN,cb,Mb,ik,rz,Ei];repeat' (first|refine ax ?_ ?_|fail)<;>intro h<;>simp only[h,go_sem,go_sem_proc,AK,bN,cb,Mb,ik,rz,Ei]
  rw[ad (b1 _),dB (by omega)];unfold a7;rw[tK _ λd=>rfl];have:=yt (sz:=4) ((dG j ((s,l),(s2,aq))).map aE) (by intro e he;obtain⟨f,-,rfl⟩:=dT.1 he;rfl);rw[aj,CF] at this;rw[k5,this,HU]
def QR:bg:=((0,[]),(1,[1]))
def Y3:bg:=((1,[1]),(1,[1]))
theorem ahI:av 0=QR:=by
 unfold av bT QR;simp[DN,sG]
theorem av0:av 1=Y3:=by
 unfold av bT Y3;simp[DN]
def Mc (rows:List dy)(f N i:Nat):List bg:=(dW N).map λk=>if k<i then (pz QR (cellOf (rowAt rows k) f)).1 else if k=f then Y3 else QR
theorem av1 (rows:List dy)(f N i:Nat):(Mc rows f N i).length=N:=by simp[Mc]
def Y4 (rs:List e0)(n:Int):List bg×Bool :=
 if oo rs n=true then (if ((qW true rs).2.2||(qW true rs).2.1.length==0)=true then ([],false) else (Mc (qW true rs).1 ((qW true rs).2.1.headD 0) (D rs) ((qW true rs).2.1.headD 0),true)) else ([],false)



section
variable {α:Type} {op:α->bg×Int} {e:α->bg}
end
def Y5 (N:Nat)(rows:List e0):Prop:=D rows=N/\∀x∈rows,x.1.length=N/\yS x
theorem Y5.set {N:Nat}{rows:List e0}(h:Y5 N rows){i:Nat}{x:e0}(O:x.1.length=N/\yS x):Y5 N (rows.set i x):=by
 refine⟨by rw[hn];exact h.1,λy aw=>?_⟩
 rcases yU aw with aw|rfl
 ·exact h.2 y aw
 ·exact O




def Y6 (r:e0):List bg:=r.1++[r.2]
def CG (c6:List dy)(cg:List e0):Prop:=c6.map (·.2.2)=cg.map Y6
theorem CG.len {c6:List dy}{cg:List e0}(h:CG c6 cg):(D c6)=D cg:=by
 have:=congrArg D h
 simpa using this
theorem CG.at_ {c6:List dy}{cg:List e0}(h:CG c6 cg){i:Nat}{x:dy}{r:e0}(O:c6[i]?=some x)(ab:cg[i]?=some r):x.2.2=Y6 r:=by
 have:=congrArg (λl:List (List bg)=>l[i]?) h;simp only[bn,O,ab,k5,ca] at this;exact this
theorem CG.set {c6:List dy}{cg:List e0}(h:CG c6 cg){i:Nat}{x:dy}{r:e0}(pC:x.2.2=Y6 r):CG (c6.set i x) (cg.set i r):=by
 unfold CG at h ⊢;rw[vV,vV,h,pC]
def bJ:Nat->(Nat->Rat)->Rat
 |0,_=>0
 |n+1,f=>bJ n f+f n
theorem kr {n:Nat}{f g:Nat->Rat}(h:∀k,k<n->f k=g k):bJ n f=bJ n g:=by
 induction n with
 |zero=>rfl
 |succ n ay=>rw[bJ,bJ,ay λk Q=>h k (by omega),h n (by omega)]
theorem v7 (n:Nat)(f g:Nat->Rat):bJ n (λk=>f k+g k)=bJ n f+bJ n g:=by
 induction n with
 |zero=>simp[bJ,o3]
 |succ n ay=>rw[bJ,bJ,bJ,ay];grind
theorem AM (n:Nat)(c:Rat)(f:Nat->Rat):bJ n (λk=>c*f k)=c*bJ n f:=by
 induction n with
 |zero=>simp[bJ,nH]
 |succ n ay=>rw[bJ,bJ,ay];grind
theorem s0 {n:Nat}{f:Nat->Rat}(h:∀k,k<n->f k=0):bJ n f=0:=by
 induction n with
 |zero=>rfl
 |succ n ay=>rw[bJ,ay λk Q=>h k (by omega),h n (by omega)];exact o3 0
theorem y1 {n:Nat}{f:Nat->Rat}{j:Nat}(ai:j<n)(h:∀k,k<n->k≠j->f k=0):bJ n f=f j:=by
 induction n with
 |zero=>omega
 |succ n ay =>
  rw[bJ]
  by_cases aK:j=n
  ·subst aK;rw[s0 λk Q=>h k (by omega) (by omega)];grind
  ·rw[ay (by omega) λk Q=>h k (by omega),h n (by omega) (by omega)];grind
theorem av2 (n m:Nat)(f:Nat->Nat->Rat):bJ n (λi=>bJ m (λj=>f i j))=bJ m (λj=>bJ n (λi=>f i j)):=by
 induction n with
 |zero=>rw[bJ,s0];intro k Q;rfl
 |succ n ay =>
  rw[bJ,ay,<-v7]
  rfl
abbrev eI:=Nat->Nat->Rat
def mV (N:Nat)(a y:Nat->Rat):Rat:=bJ (N+1) λk=>a k*y k
def hX (N:Nat)(A:eI)(y:Nat->Rat):Prop:=∀i,i<N->mV N (A i) y=0
def hq (A:eI)(r s:Nat):eI:=λi=>if i=s then A r else if i=r then A s else A i
def o4 (A:eI)(r c s:Nat):eI:=λi k=>if i=r then hq A r s r k/hq A r s r c else hq A r s i k-hq A r s i c*(hq A r s r k/hq A r s r c)
theorem QS (A:eI)(r s:Nat):hq A r s r=A s:=by
 unfold hq
 by_cases h:r=s
 ·simp[h]
 ·simp[h]
theorem av3 {N r s:Nat}{A:eI}{y:Nat->Rat}(ab:r<N)(U:s<N):hX N (hq A r s) y↔hX N A y:=by
 unfold hX hq
 constructor
 ·intro h i M
  by_cases F:i=r
  ·have:=h s U;simp at this;rw[F];exact this
  ·by_cases I:i=s
   ·have:=h r ab;rw[I]
    by_cases af:r=s
    ·omega
    ·simp[af] at this;exact this
   ·have:=h i M;simp[F,I] at this;exact this
 ·intro h i M
  by_cases I:i=s
  ·simp[I];exact h r ab
  ·by_cases F:i=r
   ·have:=h s U;rw[ah I,ad F];exact this
   ·simp[F,I];exact h i M
theorem av4 (N:Nat)(a b y:Nat->Rat)(x:Rat):mV N (λk=>a k-x*b k) y=mV N a y-x*mV N b y:=by
 unfold mV;have:(λk=>(a k-x*b k)*y k)=λk=>a k*y k+(-x)*(b k*y k):=by funext k;grind
 rw[this,v7,AM];grind
theorem ahJ (N:Nat)(a y:Nat->Rat)(x:Rat):mV N (λk=>a k/x) y=mV N a y/x:=by
 unfold mV;have:(λk=>(a k/x)*y k)=λk=>(1/x)*(a k*y k):=by funext k;grind
 rw[this,AM];grind
theorem Y7 {N r s c:Nat}{A:eI}{y:Nat->Rat}(ab:r<N)(U:s<N)(bE:A s c≠0):hX N (o4 A r c s) y↔hX N A y:=by
 rw[<-av3 (A:=A) ab U];have aLj:hq A r s r c≠0:=by rw[QS];exact bE
 generalize cQ:hq A r s=S at *
 have d1:∀i,i≠r->mV N (o4 A r c s i) y=mV N (S i) y-S i c*(mV N (S r) y/S r c):=by
  intro i M;have:o4 A r c s i=λk=>S i k-S i c*(S r k/S r c):=by funext k;unfold o4;rw[cQ,ah M]
  rw[this,av4 N (S i) (λk=>S r k/S r c) y (S i c),ahJ]
 have d2:mV N (o4 A r c s r) y=mV N (S r) y/S r c:=by
  have:o4 A r c s r=λk=>S r k/S r c:=by funext k;unfold o4;rw[cQ,ad rfl]
  rw[this,ahJ]
 unfold hX
 constructor
 ·intro h
  have ao:mV N (S r) y=0:=by
   have:=h r ab;rw[d2] at this;generalize mV N (S r) y=d at *;grind
  intro i M
  by_cases p8:i=r
  ·rw[p8];exact ao
  ·have:=h i M;rw[d1 i p8,ao] at this;generalize mV N (S i) y=d at *;grind
 ·intro h i M;have ao:=h r ab
  by_cases p8:i=r
  ·rw[p8,d2,ao];grind
  ·rw[d1 i p8,ao,h i M];grind
structure qY (N:Nat) (aM:eI) (p c:Nat) (bI:Nat->Nat):Prop where
 lT:p<=c
 lt:∀j,j<p->bI j<c
 unit:∀j,j<p->∀i,i<N->aM i (bI j)=if i=j then 1 else 0
 zero:∀i,p<=i->i<N->∀k,k<c->aM i k=0
theorem qY.free {N p c:Nat}{aM:eI}{bI:Nat->Nat}(h:qY N aM p c bI)(aV:∀i,p<=i->i<N->aM i c=0):qY N aM p (c+1) bI :=
 ⟨by have:=h.lT;omega,λj ai=>by have:=h.lt j ai;omega,h.unit,λi M gD k Q=>by
  by_cases Ct:k=c
  ·rw[Ct];exact aV i M gD
  ·exact h.zero i M gD k (by omega)⟩
theorem qY.piv {N p c s:Nat}{aM:eI}{bI:Nat->Nat}(h:qY N aM p c bI)(aG:p<N)(U:p<=s)(AO:s<N)(bE:aM s c≠0):qY N (o4 aM p c s) (p+1) (c+1) (λj=>if j=p then c else bI j):=by
 have cQ:∀i,i<N->∃bp,bp<N/\hq aM p s i=aM bp/\(i<p->bp=i)/\(p<=i->p<=bp):=by
  intro i M;unfold hq
  by_cases F:i=s
  ·exact⟨p,aG,by rw[ad F],by omega,by omega⟩
  ·by_cases I:i=p
   ·exact⟨s,AO,by rw[ah F,ad I],by omega,by omega⟩
   ·exact⟨i,M,by rw[ah F,ah I],by omega,by omega⟩
 have aLk:hq aM p s p c≠0:=by rw[QS];exact bE
 have aV:∀i,p<=i->i<N->∀k,k<c->hq aM p s i k=0:=by
  intro i M gD k Q;obtain⟨bp,F,I,-,aO⟩:=cQ i gD;rw[I];exact h.zero bp (aO M) F k Q
 refine⟨by have:=h.lT;omega,λj ai=>?_,λj ai i M=>?_,λi M gD k Q=>?_⟩
 ·show (if j=p then c else bI j)<c+1
  split
  ·omega
  ·have:=h.lt j (by omega);omega
 ·unfold o4
  by_cases HW:j=p
  ·simp only[HW,if_true]
   by_cases nh:i=p
   ·rw[ad nh,ad nh];grind
   ·rw[ah nh,ah nh];grind
  ·simp only[HW,if_false];have pN:j<p:=by omega
   have az:hq aM p s p (bI j)=0:=aV p (b1 _) aG _ (h.lt j pN);rw[az]
   by_cases nh:i=p
   ·rw[ad nh,ah (by omega)];grind
   ·rw[ah nh];obtain⟨bp,F,I,af,aO⟩:=cQ i M;rw[I,h.unit j pN bp F];rcases ih i p with aA|b7
    ·rw[af aA];grind
    ·rw[ah (by have:=aO b7;omega),ah (by omega)];grind
 ·unfold o4;rw[ah (by omega)]
  by_cases Ct:k=c
  ·subst Ct;grind
  ·rw[aV i (by omega) gD k (by omega),aV p (b1 _) aG k (by omega)];grind
theorem QT (N:Nat)(aM:eI)(bI:Nat->Nat):qY N aM 0 0 bI:=⟨b1 _,λj ai=>by omega,λj ai=>by omega,λi M gD k Q=>by omega⟩
end Go.Mini
namespace Go.Mini
open Classical
structure en where
 aF:Nat
 to:Int
 bw:Nat
 am:Rat
theorem EN {a b:Rat}(h:a=b):a<=b:=by rw[h];exact gf
def cx:List en->(en->Rat)->Rat
 | [],_=>0
 |c::l,aP=>aP c+cx l aP
theorem xC {l:List en}{aP bQ:en->Rat}(h:∀c∈l,aP c=bQ c):cx l aP=cx l bQ:=by
 induction l with
 |nil=>rfl
 |cons c l ay=>rw[cx,cx,h c gq,ay λx O=>h x (gZ _ O)]
theorem QU (l:List en)(aP bQ:en->Rat):cx l (λc=>aP c+bQ c)=cx l aP+cx l bQ:=by
 induction l with
 |nil=>simp only[cx];grind
 |cons c l ay=>rw[cx,cx,cx,ay];grind
theorem Md (l:List en)(aP bQ:en->Rat):cx l (λc=>aP c-bQ c)=cx l aP-cx l bQ:=by
 induction l with
 |nil=>simp only[cx];grind
 |cons c l ay=>rw[cx,cx,cx,ay];grind
theorem QV (l:List en)(a:Rat)(aP:en->Rat):cx l (λc=>a*aP c)=a*cx l aP:=by
 induction l with
 |nil=>simp only[cx];grind
 |cons c l ay=>rw[cx,cx,ay];grind
theorem Me {l:List en}{aP:en->Rat}(h:∀c∈l,aP c=0):cx l aP=0:=by
 induction l with
 |nil=>rfl
 |cons c l ay=>rw[cx,h c gq,ay λx O=>h x (gZ _ O)];grind
theorem EO {l:List en}{aP bQ:en->Rat}(h:∀c∈l,aP c<=bQ c):cx l aP<=cx l bQ:=by
 induction l with
 |nil=>exact gf
 |cons c l ay =>
  have F:=h c gq;have I:=ay λx O=>h x (gZ _ O);rw[cx,cx];grind
theorem y2 {l:List en}{aP:en->Rat}(h:∀c∈l,0<=aP c):0<=cx l aP:=by
 have:=EO (l:=l) (aP:=λ_=>0) (bQ:=aP) h;rwa [Me λ_ _=>rfl] at this
theorem Y8 {l:List en}{aP:en->Rat}(h:∀c∈l,0<=aP c)(U:cx l aP<=0):∀c∈l,aP c=0:=by
 induction l with
 |nil=>intro c H;cases H
 |cons c l ay =>
  rw[cx] at U;have F:=h c gq;have I:=y2 λx O=>h x (gZ c O);intro x O;rcases hH.1 O with rfl|O
  ·grind
  ·exact ay (λy aw=>h y (gZ _ aw)) (by grind) x O
theorem av5 {l:List en}{aP bQ:en->Rat}(h:∀c∈l,aP c<=bQ c){lJ:en}(H:lJ∈l)(aA:aP lJ<bQ lJ):cx l aP<cx l bQ:=by
 by_cases U:cx l aP<cx l bQ
 ·exact U
 ·have:=Y8 (l:=l) (aP:=λc=>bQ c-aP c) (λc H=>by have:=h c H;grind) (by rw[Md];grind) lJ H;grind
theorem Mf {l:List en}{aP:en->Rat}(h:0<cx l aP):∃c∈l,0<aP c:=by
 apply mb;intro aK
 have:=EO (l:=l) (aP:=aP) (bQ:=λ_=>0) λc H=>by
  apply mb;intro I;exact aK ⟨c,H,by grind⟩
 rw[Me (aP:=λ_=>(0:Rat)) λ_ _=>rfl] at this;grind
theorem Mg {n:Nat}{f g:Nat->Rat}(h:∀k,k<n->f k<=g k):bJ n f<=bJ n g:=by
 induction n with
 |zero=>exact gf
 |succ n ay =>
  have F:=h n (by omega);have I:=ay λk Q=>h k (by omega);rw[bJ,bJ];grind
theorem ahK {n:Nat}{f:Nat->Rat}(h:∀k,k<n->0<=f k):0<=bJ n f:=by
 have:=Mg (n:=n) (f:=λ_=>0) (g:=f) h;rwa [s0 λ_ _=>rfl] at this
theorem HX (n:Nat)(f g:Nat->Rat):bJ n (λk=>f k-g k)=bJ n f-bJ n g:=by
 induction n with
 |zero=>simp only[bJ];grind
 |succ n ay=>rw[bJ,bJ,bJ,ay];grind
theorem av6 {n:Nat}{f:Nat->Rat}(h:∀k,k<n->0<=f k)(U:bJ n f<=0):∀k,k<n->f k=0:=by
 induction n with
 |zero=>intro k Q;omega
 |succ n ay =>
  rw[bJ] at U;have F:=h n (by omega);have I:=ahK (n:=n) (f:=f) λk Q=>h k (by omega);intro k Q
  by_cases HY:k=n
  ·subst HY;grind
  ·exact ay (λk Q=>h k (by omega)) (by grind) k (by omega)
def qZ (C:Nat->Prop)(c:en):Prop:=∃i:Nat,c.to=i/\C i
theorem Y9 {n:Nat}(C:Nat->Prop)(g7:∀i,C i->i<n)(l:List en)(a:en->Rat):bJ n (λi=>if C i then cx l (λc=>if c.to=(i:Int) then a c else 0) else 0)=cx l (λc=>if qZ C c then a c else 0):=by
 induction l with
 |nil=>exact s0 λk _=>by split<;>rfl
 |cons c l ay =>
  rw[cx,<-ay]
  have e:(λi:Nat=>if C i then cx (c::l) (λc=>if c.to=(i:Int) then a c else 0) else 0)=λi=>(if C i then (if c.to=(i:Int) then a c else 0) else 0)+(if C i then cx l (λc=>if c.to=(i:Int) then a c else 0) else 0):=by
   funext i
   split
   ·rw[cx]
   ·grind
  rw[e,v7]
  congr 1
  by_cases h:qZ C c
  ·obtain⟨i,M,Za⟩:=h
   rw[y1 (g7 i Za) λk Q pT=>by
    split
    ·rw[ah (by omega)]
    ·rfl]
   rw[ad Za,ad M,ad ⟨i,M,Za⟩]
  ·rw[ah h];refine s0 λk Q=>?_
   split
   ·rw[ah λgz=>h ⟨k,gz,by assumption⟩]
   ·rfl
theorem QW {n:Nat}{l:List en}(ar:∀c∈l,c.aF<n)(b:Nat->en->Rat):bJ n (λk=>cx l (λc=>if c.aF=k then b k c else 0))=cx l (λc=>b c.aF c):=by
 induction l with
 |nil=>exact s0 λk _=>rfl
 |cons c l ay =>
  rw[cx,<-ay λx O=>ar x (gZ _ O)];have e:(λk:Nat=>cx (c::l) (λc=>if c.aF=k then b k c else 0))=λk=>(if c.aF=k then b k c else 0)+cx l (λc=>if c.aF=k then b k c else 0):=rfl;rw[e,v7]
  congr 1
  rw[y1 (ar c gq) λk _ Q=>ah (Ne.symm Q),ad rfl]
structure Day where
 n:Nat
 E:Nat->Rat
 dk:List en
structure Day.dt (d:Day):Prop where
 aF:∀c∈d.dk,c.aF<d.n
 to:∀c∈d.dk,c.to<d.n
 bw:∀c∈d.dk,c.bw<10
 am:∀c∈d.dk,0<=c.am
 E:∀i,i<d.n->0<=d.E i
def Day.bG (d:Day)(k r:Nat):Rat:=cx d.dk λc=>if c.aF=k/\c.bw<r then c.am else 0
def Day.S (d:Day)(k r:Nat):Rat:=cx d.dk λc=>if c.aF=k/\c.bw=r then c.am else 0
theorem Day.QX (d:Day)(k:Nat):d.bG k 0=0:=Me λc _=>ah (by omega)
theorem Day.s3 (d:Day)(k r:Nat):d.bG k (r+1)=d.bG k r+d.S k r:=by
 unfold Day.bG Day.S;rw[<-QU];refine xC λc _=>?_
 by_cases F:c.aF=k/\c.bw<r
 ·rw[ad ⟨F.1,by omega⟩,ad F,ah (by omega)];grind
 ·rw[ah F]
  by_cases I:c.aF=k/\c.bw=r
  ·rw[ad ⟨I.1,by omega⟩,ad I];grind
  ·rw[ah (by omega),ah I];grind
theorem Day.dt.QY {d:Day}(aa:d.dt)(k r:Nat):0<=d.S k r:=y2 λc H=>by
 split
 ·exact aa.am c H
 ·exact gf
theorem Day.dt.uz {d:Day}(aa:d.dt)(k:Nat){r s:Nat}(h:r<=s):d.bG k r<=d.bG k s:=by
 induction s with
 |zero =>
      obtain rfl:r=0:=by omega
      exact gf
 |succ s ay =>
  by_cases ab:r=s+1
  ·rw[ab];exact gf
  ·have F:=ay (by omega);have I:=aa.QY k s;rw[d.s3];grind
theorem Day.dt.av7 {d:Day}(aa:d.dt)(k r:Nat):0<=d.bG k r:=by
 have:=aa.uz k (fk r);rwa [d.QX] at this
theorem Day.dt.QZ {d:Day}(aa:d.dt){c:en}(H:c∈d.dk):c.am<=d.S c.aF c.bw:=by
 have:∀l:List en,(∀x∈l,0<=x.am)->c∈l->c.am<=cx l λx=>if x.aF=c.aF/\x.bw=c.bw then x.am else 0:=by
  intro l
  induction l with
  |nil=>intro _ h;cases h
  |cons x l ay =>
   intro F I;rw[cx]
   have af:0<=cx l λx=>if x.aF=c.aF/\x.bw=c.bw then x.am else 0:=y2 λy aw=>by
    split
    ·exact F y (gZ _ aw)
    ·exact gf
   rcases hH.1 I with rfl|I
   ·rw[ad ⟨rfl,rfl⟩];grind
   ·have aO:=ay (λy aw=>F y (gZ _ aw)) I;have br:=F x gq
    split<;>grind
 exact this d.dk aa.am H
def Day.w (d:Day)(c:en):Rat:=c.am/d.S c.aF c.bw
theorem Day.dt.qb {d:Day}(aa:d.dt){c:en}(H:c∈d.dk):0<=d.w c:=by
 unfold Day.w;have F:=aa.am c H;have I:=aa.QY c.aF c.bw;rw[HZ]
 exact ahL F (by
  rcases Rat.le_iff_lt_or_eq.1 I with h|h
  ·exact Rat.le_of_lt (ahM.2 h)
  ·rw[<-h];exact EN Rat.inv_zero.symm)
theorem Day.dt.Mh {d:Day}(aa:d.dt){c:en}(H:c∈d.dk)(h:0<c.am):0<d.w c:=by
 unfold Day.w;have I:=aa.QZ H;rw[HZ];exact Mi h (ahM.2 (by grind))
theorem Day.LU {d:Day}{c:en}(h:c.am=0):d.w c=0:=by
 unfold Day.w;rw[h,HZ,CH]
theorem Day.CI {d:Day}{c:en}(h:0<d.S c.aF c.bw):d.w c*d.S c.aF c.bw=c.am:=by
 unfold Day.w;grind
theorem Day.dt.Mj {d:Day}(aa:d.dt)(C:Nat->Prop)(f:Nat->Nat)(cQ:∀k,C k->0<d.S k (f k))(x:Nat->Rat):cx d.dk (λc=>if C c.aF/\c.bw=f c.aF then d.w c*x c.aF else 0)=bJ d.n (λk=>if C k then x k else 0):=by
 rw[<-QW aa.aF λk c=>if C k/\c.bw=f k then d.w c*x k else 0];refine kr λk Q=>?_
 by_cases g7:C k
 ·rw[ad g7];have h4:=cQ k g7
  have e:cx d.dk (λc=>if c.aF=k then (if C k/\c.bw=f k then d.w c*x k else 0) else 0)=cx d.dk λc=>(x k/d.S k (f k))*(if c.aF=k/\c.bw=f k then c.am else 0):=by
   refine xC λc _=>?_
   by_cases F:c.aF=k
   ·by_cases I:c.bw=f k
    ·rw[ad F,ad ⟨g7,I⟩,ad ⟨F,I⟩];unfold Day.w;rw[F,I];grind
    ·rw[ad F,ah (λh=>I h.2),ah (λh=>I h.2)];grind
   ·rw[ah F,ah (λh=>F h.1)];grind
  rw[e,QV];show x k/d.S k (f k)*d.S k (f k)=x k;grind
 ·rw[ah g7]
  exact Me λc _=>by
   split
   ·rw[ah λh=>g7 h.1]
   ·rfl
end Go.Mini
namespace Go.Mini
open Classical
def pos (x:Rat):Rat:=if x<=0 then 0 else x
theorem H0 (x:Rat):0<=pos x:=by unfold pos;split<;>grind
theorem Q0 (x:Rat):x<=pos x:=by unfold pos;split<;>grind
theorem Zb {x y:Rat}(h:x<=y):pos x<=pos y:=by unfold pos;split<;>split<;>grind
theorem s4 {x:Rat}(h:0<=x):pos x=x:=by unfold pos;split<;>grind
theorem v8 {x:Rat}(h:x<=0):pos x=0:=ad h
theorem CJ {a x y:Rat}(aN:0<=a)(h:x<=y):a*x<=a*y:=Rat.mul_le_mul_of_nonneg_left h aN
theorem uA {a x:Rat}(aN:0<=a)(h:0<=x):0<=a*x:=ahL aN h
def Day.q (d:Day)(f:Nat->Nat)(h:Nat->Rat)(c:en):Rat:=if c.bw<f c.aF then c.am else if c.bw=f c.aF then d.w c*pos (h c.aF-d.bG c.aF c.bw) else 0
def Day.l (d:Day)(f:Nat->Nat)(P:Nat->Prop)(h:Nat->Rat)(c:en):Rat:=if c.bw<f c.aF then c.am else if c.bw=f c.aF/\P c.aF then d.w c*(h c.aF-d.bG c.aF c.bw) else 0
def Day.fe (d:Day)(a:en->Rat)(i:Nat):Rat:=d.E i+cx d.dk λc=>if c.to=(i:Int) then a c else 0
theorem Day.EP {d:Day}{a b:en->Rat}(h:∀c∈d.dk,a c<=b c)(i:Nat):d.fe a i<=d.fe b i:=by
 unfold Day.fe
 have:=EO (l:=d.dk) (aP:=λc=>if c.to=(i:Int) then a c else 0) (bQ:=λc=>if c.to=(i:Int) then b c else 0) λc H=>by
  try dsimp only
  split
  ·exact h c H
  ·exact gf
 grind
theorem Day.ahN {d:Day}{a b:en->Rat}(h:∀c∈d.dk,a c=b c)(i:Nat):d.fe a i=d.fe b i:=by
 unfold Day.fe
 congr 1
 exact xC λc H=>by rw[h c H]
theorem Day.Q1 (d:Day)(a b:en->Rat)(i:Nat):d.fe a i-d.fe b i=cx d.dk λc=>if c.to=(i:Int) then a c-b c else 0:=by
 unfold Day.fe
 have:(λc:en=>if c.to=(i:Int) then a c-b c else 0)=λc=>(if c.to=(i:Int) then a c else 0)-(if c.to=(i:Int) then b c else 0):=by
  funext c;split<;>grind
 rw[this,Md];grind
def Day.gj (d:Day)(C:Nat->Prop)(x:Nat->Rat):Rat:=bJ d.n λi=>if C i then x i else 0
theorem Day.av8 (d:Day)(C:Nat->Prop)(x y:Nat->Rat):d.gj C (λi=>x i-y i)=d.gj C x-d.gj C y:=by
 unfold Day.gj;rw[<-HX];exact kr λk _=>by split<;>grind
theorem Day.av9 (d:Day)(C:Nat->Prop)(x y:Nat->Rat):d.gj C (λi=>x i+y i)=d.gj C x+d.gj C y:=by
 unfold Day.gj;rw[<-v7];exact kr λk _=>by split<;>grind
theorem Day.ahO {d:Day}{C:Nat->Prop}{x y:Nat->Rat}(h:∀i,i<d.n->C i->x i<=y i):d.gj C x<=d.gj C y:=by
 refine Mg λk Q=>?_
 by_cases H:C k
 ·rw[ad H,ad H];exact h k Q H
 ·rw[ah H,ah H];exact gf
theorem Day.ER {d:Day}{C:Nat->Prop}{x y:Nat->Rat}(h:∀i,i<d.n->C i->x i=y i):d.gj C x=d.gj C y:=by
 refine kr λk Q=>?_
 split
 ·exact h k Q (by assumption)
 ·rfl
theorem Day.Zc {d:Day}{C:Nat->Prop}(g7:∀i,C i->i<d.n)(a:en->Rat):d.gj C (d.fe a)=d.gj C d.E+cx d.dk λc=>if qZ C c then a c else 0:=by
 rw[<-Y9 C g7];show bJ d.n _=bJ d.n _+_;rw[<-v7];refine kr λk _=>?_;unfold Day.fe
 split<;>grind
def Day.closed (d:Day)(f:Nat->Nat)(C:Nat->Prop):Prop:=∀c∈d.dk,C c.aF->c.bw=f c.aF->0<c.am->qZ C c
def Day.cap (d:Day)(f:Nat->Nat)(g:Nat->Rat)(C:Nat->Prop)(k:Nat):Rat:=if C k then d.bG k (f k) else g k
section
variable {d:Day} {f:Nat->Nat} {P:Nat->Prop} {h g:Nat->Rat} {C:Nat->Prop} {c:en}
theorem Day.ahP (F:c.bw<f c.aF):d.l f P h c=c.am:=by unfold Day.l;rw[ad F]
theorem Day.ahQ (F:c.bw=f c.aF)(I:P c.aF):d.l f P h c=d.w c*(h c.aF-d.bG c.aF c.bw):=by
 unfold Day.l;rw[ah (by omega),ad ⟨F,I⟩]
theorem Day.Zd (F:¬ c.bw<f c.aF)(I:¬ (c.bw=f c.aF/\P c.aF)):d.l f P h c=0:=by
 unfold Day.l;rw[ah F,ah I]
theorem Day.awa (F:c.bw<f c.aF):d.q f h c=c.am:=by unfold Day.q;rw[ad F]
theorem Day.awb (F:c.bw=f c.aF):d.q f h c=d.w c*pos (h c.aF-d.bG c.aF c.bw):=by
 unfold Day.q;rw[ah (by omega),ad F]
theorem Day.awc (F:¬ c.bw<f c.aF)(I:¬ c.bw=f c.aF):d.q f h c=0:=by
 unfold Day.q;rw[ah F,ah I]
theorem Mk (h:¬ C c.aF):d.q f (d.cap f g C) c=d.q f g c:=by
 unfold Day.q Day.cap;rw[ah h]
theorem H2 (h:C c.aF):d.q f (d.cap f g C) c=if c.bw<f c.aF then c.am else 0:=by
 by_cases F:c.bw<f c.aF
 ·rw[ad F,Day.awa F]
 ·rw[ah F]
  by_cases I:c.bw=f c.aF
  ·rw[Day.awb I];unfold Day.cap;rw[ad h,I,v8 (by grind),nH]
  ·rw[Day.awc F I]
end
structure Inv (d:Day) (f:Nat->Nat) (g:Nat->Rat):Prop where
 le:∀i,f i<=10
 sup:∀i,i<d.n->d.fe (d.q f g) i<=g i
 cz:∀i,i<d.n->f i<10->d.bG i (f i)<=g i
 M:∀i,i<d.n->f i<10->g i<d.bG i (f i+1)
 dk:∀C:Nat->Prop,(∃i,C i)->(∀i,C i->i<d.n/\f i<10)->d.closed f C->d.gj C (d.fe (d.q f (d.cap f g C)))<d.gj C λi=>d.bG i (f i)
theorem Inv.rV {d:Day}{f:Nat->Nat}{g:Nat->Rat}(h:Inv d f g){i:Nat}(M:i<d.n)(aH:f i<10):0<d.S i (f i):=by
 have F:=h.cz i M aH;have I:=h.M i M aH;rw[d.s3] at I;grind
theorem Inv.start {d:Day}(aa:d.dt):Inv d (λ_=>10) (d.fe λc=>c.am) :=
 ⟨λ_=>b1 _,λi _=>d.EP (λc H=>by
  unfold Day.q;rw[ad (aa.bw c H)];exact gf) i,λi _ h=>absurd h (by omega),λi _ h=>absurd h (by omega),λC ⟨i,M⟩ h=>absurd (h i M).2 (by omega)⟩
theorem Inv.Ze {d:Day}{f:Nat->Nat}{g:Nat->Rat}(M:Inv d f g)(aa:d.dt){C:Nat->Prop}(F:∃i,C i)(I:∀i,C i->i<d.n/\f i<10)(af:d.closed f C)(L:en->Rat)(e:Nat->Rat)(he:∀k,k<d.n->C k->0<=e k)
  (gw:∀c∈d.dk,qZ C c->L c<=d.q f (d.cap f g C) c+if C c.aF/\c.bw=f c.aF then d.w c*e c.aF else 0):d.gj C (d.fe L)<d.gj C λi=>d.bG i (f i)+e i:=by
 have cv:=M.dk C F I af;have g7:∀i,C i->i<d.n:=λi h=>(I i h).1;have cS:=aa.Mj C f (λk Q=>M.rV (I k Q).1 (I k Q).2) e;rw[Day.Zc g7] at cv ⊢;rw[Day.av9]
 have eF:cx d.dk (λc=>if qZ C c then L c else 0)<=cx d.dk λc=>(if qZ C c then d.q f (d.cap f g C) c else 0)+(if C c.aF/\c.bw=f c.aF then d.w c*e c.aF else 0):=by
  refine EO λc H=>?_
  have ao:0<=if C c.aF/\c.bw=f c.aF then d.w c*e c.aF else 0:=by
   split
   ·exact uA (aa.qb H) (he _ (aa.aF c H) (by rename_i h;exact h.1))
   ·exact gf
  by_cases cH:qZ C c
  ·rw[ad cH,ad cH];exact gw c H cH
  ·rw[ah cH,ah cH];grind
 rw[QU,cS] at eF;have ks:d.gj C e=bJ d.n λk=>if C k then e k else 0:=rfl;rw[<-ks] at eF;grind
structure iD (d:Day) (f:Nat->Nat) (g:Nat->Rat) (P:Nat->Prop) (h:Nat->Rat):Prop where
 gG:∀i,P i->i<d.n/\f i<10
 Q2:∀C:Nat->Prop,(∃i,C i)->(∀i,C i->P i)->¬ d.closed f C
 sys:∀i,i<d.n->h i=d.fe (d.l f P h) i
 le:∀i,i<d.n->h i<=g i
 ge:∀i,P i->d.bG i (f i)<h i
theorem Dt {d:Day}{f:Nat->Nat}{g:Nat->Rat}(M:Inv d f g)(aa:d.dt){P:Nat->Prop}(gv:∀i,P i->i<d.n/\f i<10)(bM:∀C:Nat->Prop,(∃i,C i)->(∀i,C i->P i)->¬ d.closed f C)(x:Nat->Rat)
  (O:∀i,i<d.n->(cx d.dk λc=>if c.to=(i:Int) then (if c.bw=f c.aF/\P c.aF then d.w c*x c.aF else 0) else 0)<=x i):∀i,i<d.n->0<=x i:=by
 have key:∀i,P i->0<=x i:=by
  intro i0 sH;apply mb;intro kL;obtain⟨C,uB⟩:∃C:Nat->Prop,∀i,C i↔P i/\x i<0:=⟨λi=>P i/\x i<0,λ_=>Iff.rfl⟩;have g7:∀i,C i->i<d.n:=λi h=>(gv i ((uB i).1 h).1).1;refine bM C ⟨i0,(uB i0).2 ⟨sH,by grind⟩⟩ (λi h=>((uB i).1 h).1) ?_
  have az:=Y9 C g7 d.dk λc=>if c.bw=f c.aF/\P c.aF then d.w c*x c.aF else 0;have aD:=aa.Mj C f (λk Q=>M.rV (gv k ((uB k).1 Q).1).1 (gv k ((uB k).1 Q).1).2) x
  have bZ:bJ d.n (λi=>if C i then cx d.dk (λc=>if c.to=(i:Int) then (if c.bw=f c.aF/\P c.aF then d.w c*x c.aF else 0) else 0) else 0)<=bJ d.n (λk=>if C k then x k else 0):=by
   refine Mg λk Q=>?_
   by_cases H:C k
   ·rw[ad H,ad H];exact O k Q
   ·rw[ah H,ah H];exact gf
  rw[az,<-aD] at bZ;have dr:=Y8 (l:=d.dk) (aP:=λc=>(if qZ C c then (if c.bw=f c.aF/\P c.aF then d.w c*x c.aF else 0) else 0)-(if C c.aF/\c.bw=f c.aF then d.w c*x c.aF else 0)) (λc H=>?_) (by rw[Md];grind)
  ·intro c H gN hY uC;apply mb;intro cH;have:=dr c H
   try dsimp only at this
   rw[ah cH,ad ⟨gN,hY⟩] at this;have F:=aa.Mh H uC;have I:=((uB _).1 gN).2;have af:0<d.w c*(-x c.aF):=Mi F (by grind);grind
  ·try dsimp only
   have F:=aa.qb H
   have fW:((if C c.aF/\c.bw=f c.aF then d.w c*x c.aF else 0)=(if c.bw=f c.aF/\P c.aF then d.w c*x c.aF else 0)/\(if C c.aF/\c.bw=f c.aF then d.w c*x c.aF else 0)<=0)\/((if C c.aF/\c.bw=f c.aF then d.w c*x c.aF else 0)=0/\0<=(if c.bw=f c.aF/\P c.aF then d.w c*x c.aF else 0)):=by
    by_cases gN:C c.aF/\c.bw=f c.aF
    ·left
     have I:=(uB _).1 gN.1;have af:0<=d.w c*(-x c.aF):=uA F (by have:=I.2;grind);have aO:c.bw=f c.aF/\P c.aF:=⟨gN.2,I.1⟩;rw[ad gN,ad aO];exact⟨rfl,by grind⟩
    ·right
     rw[ah gN];refine⟨rfl,?_⟩
     split
     ·rename_i I;refine uA F ?_;apply mb;intro h;exact gN ⟨(uB _).2 ⟨I.2,by grind⟩,I.1⟩
     ·exact gf
   generalize (if C c.aF/\c.bw=f c.aF then d.w c*x c.aF else 0)=B at *;generalize (if c.bw=f c.aF/\P c.aF then d.w c*x c.aF else 0)=A at *;rcases fW with ⟨I,af⟩|⟨I,af⟩<;>split<;>grind
 intro i cH;refine wa ?_ (O i cH);refine y2 λc H=>?_
 split
 ·split
  ·rename_i h;exact uA (aa.qb H) (key _ h.2)
  ·exact gf
 ·exact gf
theorem Day.awd (d:Day)(f:Nat->Nat)(P:Nat->Prop)(h cy:Nat->Rat)(c:en):d.l f P cy c-d.l f P h c=if c.bw=f c.aF/\P c.aF then d.w c*(cy c.aF-h c.aF) else 0:=by
 unfold Day.l
 by_cases F:c.bw<f c.aF
 ·rw[ad F,ad F,ah (by omega)];grind
 ·rw[ah F,ah F]
  split<;>grind
theorem awe {d:Day}{f:Nat->Nat}{g:Nat->Rat}(M:Inv d f g)(aa:d.dt){P:Nat->Prop}(gv:∀i,P i->i<d.n/\f i<10)(bM:∀C:Nat->Prop,(∃i,C i)->(∀i,C i->P i)->¬ d.closed f C){h cy:Nat->Rat}
  (e:∀i,i<d.n->h i=d.fe (d.l f P h) i) (e':∀i,i<d.n->cy i=d.fe (d.l f P cy) i):∀i,i<d.n->h i=cy i:=by
 have main:∀h cy:Nat->Rat,(∀i,i<d.n->h i=d.fe (d.l f P h) i)->(∀i,i<d.n->cy i=d.fe (d.l f P cy) i)->∀i,i<d.n->0<=cy i-h i:=by
  intro h cy e e';refine Dt M aa gv bM (λi=>cy i-h i) λi cH=>?_;rw[e i cH,e' i cH,d.Q1];refine EN (xC λc H=>?_);rw[d.awd]
 intro i cH;have F:=main h cy e e' i cH;have I:=main cy h e' e i cH;grind
theorem awf {d:Day}{f:Nat->Nat}{g:Nat->Rat}(M:Inv d f g)(aa:d.dt){P:Nat->Prop}(gv:∀i,P i->i<d.n/\f i<10)(bM:∀C:Nat->Prop,(∃i,C i)->(∀i,C i->P i)->¬ d.closed f C)(x:Nat->Rat)
  (O:∀i,i<d.n->x i=cx d.dk λc=>if c.to=(i:Int) then (if c.bw=f c.aF/\P c.aF then d.w c*x c.aF else 0) else 0):∀i,i<d.n->x i=0:=by
 intro i cH;have F:=Dt M aa gv bM x (λi cH=>EN (O i cH).symm) i cH;have I:=Dt M aa gv bM (λi => -x i) (λi cH=>?_) i cH
 ·grind
 ·rw[O i cH];refine EN ?_;have:∀aP:en->Rat,-(cx d.dk aP)=cx d.dk λc=>(-1)*aP c:=λaP=>by rw[QV];grind
  rw[this];refine xC λc H=>?_
  split
  ·split<;>grind
  ·grind
theorem Day.awg {d:Day}(aa:d.dt){f:Nat->Nat}{P:Nat->Prop}{h g:Nat->Rat}(hle:∀i,i<d.n->h i<=g i){c:en}(H:c∈d.dk):d.l f P h c<=d.q f g c:=by
 unfold Day.l Day.q
 by_cases F:c.bw<f c.aF
 ·rw[ad F,ad F];exact gf
 ·rw[ah F,ah F]
  by_cases I:c.bw=f c.aF
  ·rw[ad I];have hw:=aa.qb H
   by_cases af:P c.aF
   ·rw[ad ⟨I,af⟩];refine CJ hw (wa ?_ (Q0 _));have:=hle _ (aa.aF c H);grind
   ·rw[ah λh=>af h.2];exact uA hw (H0 _)
  ·rw[ah λh=>I h.1,ah I];exact gf
theorem iD.start {d:Day}(aa:d.dt){f:Nat->Nat}{g:Nat->Rat}(M:Inv d f g){h:Nat->Rat}(U:∀i,i<d.n->h i=d.fe (d.l f (λ_=>False) h) i):iD d f g (λ_=>False) h :=
 ⟨λi h=>h.elim,λC ⟨i,h⟩ cy=>(cy i h).elim,U,λi cH=>by
  rw[U i cH];refine wa (d.EP (b:=d.q f g) (λc H=>?_) i) (M.sup i cH);unfold Day.l Day.q
  by_cases F:c.bw<f c.aF
  ·rw[ad F,ad F];exact gf
  ·rw[ah F,ah F,ah λh=>h.2]
   split
   ·exact uA (aa.qb H) (H0 _)
   ·exact gf,λi h=>h.elim⟩
def s5 (d:Day)(f:Nat->Nat)(P:Nat->Prop)(h:Nat->Rat)(i:Nat):Prop:=P i\/(i<d.n/\f i<10/\d.bG i (f i)<h i)
theorem iD.H3 {d:Day}{f:Nat->Nat}{g:Nat->Rat}{P:Nat->Prop}{h:Nat->Rat}(aG:iD d f g P h):∀i,s5 d f P h i->i<d.n/\f i<10:=λi aK=>aK.elim (aG.gG i) λh=>⟨h.1,h.2.1⟩
theorem iD.Zf {d:Day}{f:Nat->Nat}{g:Nat->Rat}{P:Nat->Prop}{h:Nat->Rat}(aG:iD d f g P h):∀i,s5 d f P h i->d.bG i (f i)<h i:=λi aK=>aK.elim (aG.ge i) λh=>h.2.2
theorem iD.ahR {d:Day}(aa:d.dt){f:Nat->Nat}{g:Nat->Rat}(M:Inv d f g){P:Nat->Prop}{h:Nat->Rat}(aG:iD d f g P h):∀C:Nat->Prop,(∃i,C i)->(∀i,C i->s5 d f P h i)->¬ d.closed f C:=by
 intro C F I af;have aH:∀i,C i->i<d.n/\f i<10:=λi H=>aG.H3 i (I i H)
 have jQ:=M.Ze aa F aH af (d.l f P h) (λk=>if P k then h k-d.bG k (f k) else 0) (λk _ Q=>by
  try dsimp only
  split
  ·have:=aG.ge k (by assumption);grind
  ·exact gf) λc H _=>by
   by_cases eF:C c.aF
   ·rw[H2 eF]
    by_cases cv:c.bw<f c.aF
    ·rw[Day.ahP cv,ad cv,ah (λh=>by have:=h.2;omega)];grind
    ·rw[ah cv]
     by_cases cS:c.bw=f c.aF
     ·have pE:C c.aF/\c.bw=f c.aF:=⟨eF,cS⟩;rw[ad pE]
      by_cases ks:P c.aF
      ·rw[Day.ahQ cS ks,ad ks,cS];grind
      ·rw[Day.Zd cv (λh=>ks h.2),ah ks];grind
     ·rw[Day.Zd cv (λh=>cS h.1),ah λh=>cS h.2];grind
   ·rw[Mk eF,ah λh=>eF h.1];have:=Day.awg aa (P:=P) (f:=f) aG.le H;grind
 have e:d.gj C (d.fe (d.l f P h))=d.gj C h:=Day.ER λi cH _=>(aG.sys i cH).symm;rw[e] at jQ
 have:d.gj C (λi=>d.bG i (f i)+if P i then h i-d.bG i (f i) else 0)<=d.gj C h:=by
  refine Day.ahO λi cH H=>?_;have:=aG.Zf i (I i H)
  split<;>grind
 grind
theorem iD.next {d:Day}(aa:d.dt){f:Nat->Nat}{g:Nat->Rat}(M:Inv d f g){P:Nat->Prop}{h cy:Nat->Rat}(aG:iD d f g P h)(U:∀i,i<d.n->cy i=d.fe (d.l f (s5 d f P h) cy) i):iD d f g (s5 d f P h) cy:=by
 have bM:=aG.ahR aa M
 have ud:∀i,i<d.n->0<=cy i-h i:=by
  refine Dt M aa aG.H3 bM (λi=>cy i-h i) λi cH=>?_;rw[U i cH,aG.sys i cH,d.Q1];refine EO λc H=>?_;have hw:=aa.qb H
  split
  ·unfold Day.l
   by_cases F:c.bw<f c.aF
   ·rw[ad F,ad F,ah (by omega)];grind
   ·rw[ah F,ah F]
    by_cases I:c.bw=f c.aF
    ·by_cases af:s5 d f P h c.aF
     ·rw[ad ⟨I,af⟩,ad ⟨I,af⟩]
      by_cases aO:P c.aF
      ·rw[ad ⟨I,aO⟩];grind
      ·rw[ah λh=>aO h.2];have br:=aG.Zf _ af;have:=uA hw (show 0<=h c.aF-d.bG c.aF c.bw by rw[I];grind);grind
     ·rw[ah λh=>af h.2,ah λh=>af h.2,ah λh=>af (.inl h.2)];grind
    ·rw[ah λh=>I h.1,ah λh=>I h.1,ah λh=>I h.1];grind
  ·exact gf
 have hle:∀i,i<d.n->0<=g i-cy i:=by
  refine Dt M aa aG.H3 bM (λi=>g i-cy i) λi cH=>?_;refine wa ?_ (show d.fe (d.q f g) i-cy i<=g i-cy i by have:=M.sup i cH;grind);rw[U i cH,d.Q1];refine EO λc H=>?_;have hw:=aa.qb H
  split
  ·unfold Day.l Day.q
   by_cases F:c.bw<f c.aF
   ·rw[ad F,ad F,ah (by omega)];grind
   ·rw[ah F,ah F]
    by_cases I:c.bw=f c.aF
    ·rw[ad I]
     by_cases af:s5 d f P h c.aF
     ·rw[ad ⟨I,af⟩,ad ⟨I,af⟩];have:=CJ hw (Q0 (g c.aF-d.bG c.aF c.bw));grind
     ·rw[ah λh=>af h.2,ah λh=>af h.2];have:=uA hw (H0 (g c.aF-d.bG c.aF c.bw));grind
    ·rw[ah λh=>I h.1,ah I,ah λh=>I h.1];grind
  ·exact gf
 exact⟨aG.H3,bM,U,λi cH=>by have:=hle i cH;grind,λi aK=>by
  have F:=aG.Zf i aK;have I:=ud i (aG.H3 i aK).1;grind⟩
theorem iD.stop {d:Day}(aa:d.dt){f:Nat->Nat}{g:Nat->Rat}{P:Nat->Prop}{h:Nat->Rat}(aG:iD d f g P h)(M:Inv d f g)(awh:∀i,i<d.n->f i<10->d.bG i (f i)<h i->P i):∀i,i<d.n->h i=d.fe (d.q f h) i:=by
 intro i cH;rw[aG.sys i cH];refine d.ahN (λc H=>?_) i;unfold Day.l Day.q
 by_cases F:c.bw<f c.aF
 ·rw[ad F,ad F]
 ·rw[ah F,ah F]
  by_cases I:c.bw=f c.aF
  ·rw[ad I]
   by_cases af:P c.aF
   ·rw[ad ⟨I,af⟩,s4];have:=aG.ge _ af;rw[I];grind
   ·rw[ah λh=>af h.2,v8]
    ·grind
    ·apply mb;intro aK;refine af (awh _ (aa.aF c H) (by rw[<-I];exact aa.bw c H) ?_);rw[<-I];grind
  ·rw[ah λh=>I h.1,ah I]
end Go.Mini
namespace Go.Mini
open Classical
def Day.hh (d:Day)(h:Nat->Rat)(c:en):Rat:=if d.bG c.aF (c.bw+1)<=h c.aF then c.am else d.w c*pos (h c.aF-d.bG c.aF c.bw)
theorem Day.dt.Q3 {d:Day}(aa:d.dt){c:en}(H:c∈d.dk){x:Rat}(h:x<=d.S c.aF c.bw):d.w c*x<=c.am:=by
 have ao:=aa.am c H;have F:=aa.QZ H
 by_cases cQ:0<d.S c.aF c.bw
 ·have:=CJ (aa.qb H) h;rw[Day.CI cQ] at this;exact this
 ·rw[Day.LU (by grind),CH];exact ao
theorem Day.dt.Zg {d:Day}(aa:d.dt)(h:Nat->Rat){c:en}(H:c∈d.dk):d.hh h c<=c.am:=by
 unfold Day.hh
 split
 ·exact gf
 ·rename_i aK;refine aa.Q3 H ?_;rw[d.s3] at aK;have:=aa.QY c.aF c.bw;unfold pos
  split<;>grind
theorem Day.dt.Zh {d:Day}(aa:d.dt)(h:Nat->Rat){c:en}(H:c∈d.dk):0<=d.hh h c:=by
 unfold Day.hh
 split
 ·exact aa.am c H
 ·exact uA (aa.qb H) (H0 _)
theorem Day.dt.Q4 {d:Day}(aa:d.dt)(f:Nat->Nat)(h:Nat->Rat){c:en}(H:c∈d.dk):0<=d.q f h c:=by
 unfold Day.q
 split
 ·exact aa.am c H
 ·split
  ·exact uA (aa.qb H) (H0 _)
  ·exact gf
theorem Day.dt.Zi {d:Day}(aa:d.dt){a:en->Rat}(h:∀c∈d.dk,0<=a c){i:Nat}(M:i<d.n):0<=d.fe a i:=by
 unfold Day.fe;have F:=aa.E i M
 have:=y2 (l:=d.dk) (aP:=λc=>if c.to=(i:Int) then a c else 0) λc H=>by
  try dsimp only
  split
  ·exact h c H
  ·exact gf
 grind
theorem Day.dt.ahS {d:Day}(aa:d.dt){f:Nat->Nat}{h g:Nat->Rat}{c:en}(H:c∈d.dk)(hle:h c.aF<=g c.aF):d.q f h c<=d.q f g c:=by
 unfold Day.q
 split
 ·exact gf
 ·split
  ·exact CJ (aa.qb H) (Zb (by grind))
  ·exact gf
def Zj (d:Day)(f:Nat->Nat)(h:Nat->Rat)(g6:Nat->Nat):Prop:=(∀i,g6 i<=10)/\(∀i,i<d.n->h i<d.bG i (f i)->g6 i<f i/\d.bG i (g6 i)<=h i/\h i<d.bG i (g6 i+1))/\∀i,i<d.n->d.bG i (f i)<=h i->g6 i=f i
theorem Zk {d:Day}(aa:d.dt){f g6:Nat->Nat}{h:Nat->Rat}(aH:Zj d f h g6){c:en}(H:c∈d.dk):d.q g6 h c<=d.q f h c:=by
 obtain⟨-,F,I⟩:=aH;have bV:=aa.aF c H
 by_cases e8:h c.aF<d.bG c.aF (f c.aF)
 ·obtain⟨cv,cS,eF⟩:=F _ bV e8;unfold Day.q
  by_cases eX:c.bw<g6 c.aF
  ·rw[ad eX,ad (by omega)];exact gf
  ·rw[ah eX]
   by_cases eg:c.bw=g6 c.aF
   ·rw[ad eg,ad (by omega)];rw[<-eg] at cS eF;rw[d.s3] at eF;exact aa.Q3 H (by rw[s4 (by grind)];grind)
   ·rw[ah eg];exact aa.Q4 f h H
 ·have:=I _ bV (by grind);unfold Day.q;rw[this];exact gf
theorem Inv.Q5 {d:Day}(aa:d.dt){f g6:Nat->Nat}{g h:Nat->Rat}(M:Inv d f g)(y3:∀i,i<d.n->h i=d.fe (d.q f h) i)(hle:∀i,i<d.n->h i<=g i)(aH:Zj d f h g6):Inv d g6 h:=by
 have fV:∀i,i<d.n->g6 i<10->d.bG i (g6 i)<=h i:=by
  intro i cH rT
  by_cases e8:h i<d.bG i (f i)
  ·exact (aH.2.1 i cH e8).2.1
  ·rw[aH.2.2 i cH (by grind)];grind
 have jg:∀i,i<d.n->g6 i<10->h i<d.bG i (g6 i+1):=by
  intro i cH rT
  by_cases e8:h i<d.bG i (f i)
  ·exact (aH.2.1 i cH e8).2.2
  ·have e:=aH.2.2 i cH (by grind);rw[e] at rT ⊢;have:=M.M i cH rT;have:=hle i cH;grind
 have cQ:∀i,i<d.n->g6 i<10->0<d.S i (g6 i):=by
  intro i cH rT;have F:=fV i cH rT;have I:=jg i cH rT;rw[d.s3] at I;grind
 refine⟨aH.1,λi cH=>?_,fV,jg,λC F I af=>?_⟩
 ·exact wa (d.EP (λc H=>Zk aa aH H) i) (EN (y3 i cH).symm)
 ·have g7:∀i,C i->i<d.n:=λi H=>(I i H).1
  by_cases hex:∃k,C k/\h k<d.bG k (f k)
  ·obtain⟨fO,yp,e8⟩:=hex;have ahT:=g7 fO yp;obtain⟨di,eK,j7⟩:=aH.2.1 fO ahT e8;have qQ:=cQ fO ahT (I fO yp).2;obtain⟨lJ,oW,pv⟩:=Mf qQ
   have awi:lJ.aF=fO/\lJ.bw=g6 fO/\0<lJ.am:=by
    by_cases aR:lJ.aF=fO/\lJ.bw=g6 fO
    ·rw[ad aR] at pv;exact⟨aR.1,aR.2,pv⟩
    ·rw[ah aR] at pv;exact absurd pv (by grind)
   obtain⟨c0,dj,a3⟩:=awi;have az:=Day.Zc g7 (d.q f h);have aD:=Day.Zc g7 (d.q g6 (d.cap g6 h C));have bZ:d.gj C (d.fe (d.q f h))=d.gj C h:=Day.ER λi cH _=>(y3 i cH).symm;have dr:=aa.Mj C g6 (λk Q=>cQ k (g7 k Q) (I k Q).2) λk=>h k-d.bG k (g6 k);have cm:d.gj C (λk=>h k-d.bG k (g6 k))=bJ d.n λk=>if C k then h k-d.bG k (g6 k) else 0:=rfl;rw[<-cm,d.av8] at dr
   have bP:cx d.dk (λc=>(if qZ C c then d.q g6 (d.cap g6 h C) c else 0)+(if C c.aF/\c.bw=g6 c.aF then d.w c*(h c.aF-d.bG c.aF (g6 c.aF)) else 0))<cx d.dk (λc=>if qZ C c then d.q f h c else 0):=by
    refine av5 (λc H=>?_) oW ?_
    ·have bV:=aa.aF c H
     by_cases cH:qZ C c
     ·rw[ad cH,ad cH]
      by_cases gN:C c.aF
      ·rw[H2 gN]
       by_cases eX:c.bw<g6 c.aF
       ·rw[ad eX,ah (by omega)]
        have:c.bw<f c.aF:=by
         by_cases e8:h c.aF<d.bG c.aF (f c.aF)
         ·have:=(aH.2.1 _ bV e8).1;omega
         ·rw[<-aH.2.2 _ bV (by grind)];exact eX
        unfold Day.q;rw[ad this];grind
       ·rw[ah eX]
        by_cases eg:c.bw=g6 c.aF
        ·rw[ad ⟨gN,eg⟩]
         by_cases e8:h c.aF<d.bG c.aF (f c.aF)
         ·obtain⟨cv,cS,eF⟩:=aH.2.1 _ bV e8;unfold Day.q;rw[ad (by omega)];rw[d.s3] at eF;have:=aa.Q3 H (x:=h c.aF-d.bG c.aF (g6 c.aF)) (by rw[eg];grind);grind
         ·have e:=aH.2.2 _ bV (by grind);rw[e] at eX eg ⊢;unfold Day.q;rw[ah eX,ad eg,<-eg];have:=CJ (aa.qb H) (Q0 (h c.aF-d.bG c.aF c.bw));grind
        ·rw[ah λh=>eg h.2];have:=aa.Q4 f h H;grind
      ·rw[Mk gN,ah λh=>gN h.1];have:=Zk aa aH H;grind
     ·rw[ah cH,ah cH]
      by_cases gN:C c.aF/\c.bw=g6 c.aF
      ·rw[ad gN]
       have:c.am=0:=by
        have ao:=aa.am c H
        by_cases aG:0<c.am
        ·exact absurd (af c H gN.1 gN.2 aG) cH
        ·grind
       rw[Day.LU this];grind
      ·rw[ah gN];grind
    ·have gN:C lJ.aF:=by rw[c0];exact yp
     have hY:lJ.bw=g6 lJ.aF:=by rw[c0];exact dj
     have cH:=af lJ oW gN hY a3;rw[ad cH,ad cH,H2 gN,ah (by omega),ad ⟨gN,hY⟩];unfold Day.q;rw[ad (by rw[c0];omega)];have hw:=aa.Mh oW a3;have Pt:=d.CI (c:=lJ) (by rw[c0,dj];exact qQ);rw[d.s3] at j7;rw[<-c0,<-hY] at j7;rw[<-hY];have:0<d.w lJ*(d.S lJ.aF lJ.bw-(h lJ.aF-d.bG lJ.aF lJ.bw)):=Mi hw (by rw[c0] at j7 ⊢;grind);grind
   rw[QU,dr] at bP;grind
  ·have x8:∀k,C k->g6 k=f k:=λk Q=>aH.2.2 k (g7 k Q) (by
    apply mb;intro aK;exact hex ⟨k,Q,by grind⟩)
   have cv:=M.dk C F (λi H=>⟨g7 i H,by rw[<-x8 i H];exact (I i H).2⟩) (λc H gN hY uC=>af c H gN (by rw[x8 _ gN];exact hY) uC);have cS:d.gj C (λi=>d.bG i (g6 i))=d.gj C λi=>d.bG i (f i):=Day.ER λi _ H=>by rw[x8 i H]
   rw[cS]
   have eF:d.gj C (d.fe (d.q g6 (d.cap g6 h C)))<=d.gj C (d.fe (d.q f (d.cap f g C))):=by
    refine Day.ahO λi _ _=>d.EP (λc H=>?_) i
    by_cases gN:C c.aF
    ·rw[H2 gN,H2 gN,x8 _ gN];exact gf
    ·rw[Mk gN,Mk gN];exact wa (Zk aa aH H) (aa.ahS H (hle _ (aa.aF c H)))
   grind
def Day.s6 (d:Day)(h:Nat->Rat)(i:Nat):Rat:=d.fe (d.hh h) i
theorem awj {d:Day}(aa:d.dt){f:Nat->Nat}{g z:Nat->Rat}(M:Inv d f g)(aV:∀i,i<d.n->z i<=g i){c:en}(H:c∈d.dk):d.hh z c<=d.q f z c:=by
 have bV:=aa.aF c H;have hY:=aa.bw c H;unfold Day.q
 by_cases eX:c.bw<f c.aF
 ·rw[ad eX];exact aa.Zg z H
 ·rw[ah eX];have gr:f c.aF<10:=by omega
  have F:=M.M _ bV gr;have I:=aV _ bV
  by_cases eg:c.bw=f c.aF
  ·rw[ad eg];unfold Day.hh;rw[ah (by rw[eg];grind)];exact gf
  ·rw[ah eg];have af:=aa.uz c.aF (r:=f c.aF+1) (s:=c.bw) (by omega);have aO:=aa.uz c.aF (r:=c.bw) (s:=c.bw+1) (by omega);unfold Day.hh;rw[ah (by grind),v8 (by grind),nH];exact gf
theorem Inv.Zl {d:Day}(aa:d.dt){f:Nat->Nat}{g h z:Nat->Rat}(M:Inv d f g)(y3:∀i,i<d.n->h i=d.fe (d.q f h) i)(hle:∀i,i<d.n->h i<=g i)(aV:∀i,i<d.n->z i<=d.fe (d.q f z) i):∀i,i<d.n->z i<=h i:=by
 intro i0 sH;apply mb;intro kL;obtain⟨C,uB⟩:∃C:Nat->Prop,∀i,C i↔i<d.n/\h i<z i:=⟨λi=>i<d.n/\h i<z i,λ_=>Iff.rfl⟩;obtain⟨H4,AP⟩:∃awk:Nat->Prop,∀i,awk i↔C i/\f i<10:=⟨λi=>C i/\f i<10,λ_=>Iff.rfl⟩;have g7:∀i,C i->i<d.n:=λi h=>((uB i).1 h).1;have H5:∀i,C i->h i<z i:=λi h=>((uB i).1 h).2;have bE:∃i,C i:=⟨i0,(uB i0).2 ⟨sH,by grind⟩⟩
 have az:=Y9 C g7 d.dk λc=>d.q f z c-d.q f h c;have aD:=aa.Mj H4 f (λk Q=>M.rV (g7 k ((AP k).1 Q).1) ((AP k).1 Q).2) λk=>z k-h k
 have bZ:d.gj C (λi=>z i-h i)<=bJ d.n λi=>if C i then cx d.dk (λc=>if c.to=(i:Int) then d.q f z c-d.q f h c else 0) else 0:=by
  refine Mg λk Q=>?_
  by_cases H:C k
  ·rw[ad H,ad H,<-d.Q1,<-y3 k Q];have F:=aV k Q;grind
  ·rw[ah H,ah H];exact gf
 rw[az] at bZ
 have dr:bJ d.n (λk=>if H4 k then z k-h k else 0)<=d.gj C (λi=>z i-h i):=by
  refine Mg λk Q=>?_
  by_cases H:C k
  ·rw[ad H];have:=H5 k H
   split<;>grind
  ·rw[ah H,ah λh=>H ((AP k).1 h).1];exact gf
 have ahU:∀c∈d.dk,0<=(if H4 c.aF/\c.bw=f c.aF then d.w c*(z c.aF-h c.aF) else 0)-(if qZ C c then d.q f z c-d.q f h c else 0):=by
  intro c H;have hw:=aa.qb H;have bV:=aa.aF c H;have hY:=aa.bw c H
  by_cases F:H4 c.aF/\c.bw=f c.aF
  ·rw[ad F];have I:0<=d.w c*(z c.aF-h c.aF):=uA hw (by have:=H5 _ ((AP _).1 F.1).1;grind)
   have af:d.q f z c-d.q f h c<=d.w c*(z c.aF-h c.aF):=by
    unfold Day.q;rw[ah (by omega),ad F.2,ah (by omega),ad F.2]
    have aO:pos (z c.aF-d.bG c.aF c.bw)-pos (h c.aF-d.bG c.aF c.bw)<=z c.aF-h c.aF:=by
     have:=H5 _ ((AP _).1 F.1).1;unfold pos
     split<;>split<;>grind
    have:=CJ hw aO;grind
   split<;>grind
  ·rw[ah F]
   have af:d.q f z c-d.q f h c<=0:=by
    unfold Day.q
    by_cases eX:c.bw<f c.aF
    ·rw[ad eX,ad eX];grind
    ·rw[ah eX,ah eX]
     by_cases eg:c.bw=f c.aF
     ·rw[ad eg,ad eg]
      have aO:z c.aF<=h c.aF:=by
       apply mb;intro aK;exact F ⟨(AP _).2 ⟨(uB _).2 ⟨bV,by grind⟩,by omega⟩,eg⟩
      have:=CJ hw (Zb (show z c.aF-d.bG c.aF c.bw<=h c.aF-d.bG c.aF c.bw by grind));grind
     ·rw[ah eg,ah eg];grind
   split<;>grind
 have awl:=Y8 ahU (by rw[Md,aD];grind)
 have Zm:∀k,C k->f k<10:=by
  have:bJ d.n (λk=>(if C k then z k-h k else 0)-(if H4 k then z k-h k else 0))<=0:=by
   rw[HX];have:0<=cx d.dk λc=>(if H4 c.aF/\c.bw=f c.aF then d.w c*(z c.aF-h c.aF) else 0)-(if qZ C c then d.q f z c-d.q f h c else 0):=y2 ahU;rw[Md,aD] at this;have br:d.gj C (λi=>z i-h i)=bJ d.n λk=>if C k then z k-h k else 0:=rfl;grind
  have aK:=av6 (λk Q=>by
   try dsimp only
   by_cases H:C k
   ·rw[ad H];have:=H5 k H
    split<;>grind
   ·rw[ah H,ah λh=>H ((AP k).1 h).1];grind) this
  intro k Q;apply mb;intro gr;have:=aK k (g7 k Q)
  try dsimp only at this
  rw[ad Q,ah λh=>gr ((AP k).1 h).2] at this;have:=H5 k Q;grind
 have cH:∀c∈d.dk,C c.aF->c.bw=f c.aF->0<c.am->qZ C c/\d.bG c.aF c.bw<=h c.aF:=by
  intro c H gN hY uC;have ao:=awl c H;have hw:=aa.Mh H uC;have aA:=H5 _ gN
  try dsimp only at ao
  rw[ad ⟨(AP _).2 ⟨gN,Zm _ gN⟩,hY⟩] at ao
  by_cases cH:qZ C c
  ·refine⟨cH,?_⟩;rw[ad cH] at ao;unfold Day.q at ao;rw[ah (by omega),ad hY,ah (by omega),ad hY] at ao;apply mb;intro aK;rw[v8 (x:=h c.aF-d.bG c.aF c.bw) (by grind)] at ao
   have aO:0<z c.aF-h c.aF-pos (z c.aF-d.bG c.aF c.bw):=by
    unfold pos
    split<;>grind
   have:=Mi hw aO;grind
  ·rw[ah cH] at ao;have:0<d.w c*(z c.aF-h c.aF):=Mi hw (by grind);grind
 have ot:∀k,C k->d.bG k (f k)<=h k:=by
  intro k Q;have U:=M.rV (g7 k Q) (Zm k Q);obtain⟨lJ,oW,pv⟩:=Mf U
  by_cases aR:lJ.aF=k/\lJ.bw=f k
  ·rw[ad aR] at pv;have:=(cH lJ oW (by rw[aR.1];exact Q) (by rw[aR.1];exact aR.2) pv).2;rwa [aR.1,aR.2] at this
  ·rw[ah aR] at pv;exact absurd pv (by grind)
 have jQ:=M.Ze aa bE (λi H=>⟨g7 i H,Zm i H⟩) (λc H gN hY uC=>(cH c H gN hY uC).1) (d.q f h) (λk=>h k-d.bG k (f k)) (λk _ Q=>by have:=ot k Q;grind) λc H _=>by
  by_cases gN:C c.aF
  ·rw[H2 gN];unfold Day.q
   by_cases eX:c.bw<f c.aF
   ·rw[ad eX,ad eX,ah (by omega)];grind
   ·rw[ah eX,ah eX]
    by_cases eg:c.bw=f c.aF
    ·rw[ad eg,ad ⟨gN,eg⟩,eg,s4 (by have:=ot _ gN;grind)];grind
    ·rw[ah eg,ah λh=>eg h.2];grind
  ·rw[Mk gN,ah λh=>gN h.1];have:=aa.ahS (f:=f) H (hle _ (aa.aF c H));grind
 have bR:d.gj C (d.fe (d.q f h))=d.gj C h:=Day.ER λi cH _=>(y3 i cH).symm;have bN:d.gj C (λi=>d.bG i (f i)+(h i-d.bG i (f i)))=d.gj C h:=Day.ER λi _ _=>by grind
 rw[bR,bN] at jQ;exact absurd jQ (by grind)
theorem Inv.final {d:Day}(aa:d.dt){f:Nat->Nat}{g h:Nat->Rat}(M:Inv d f g)(y3:∀i,i<d.n->h i=d.fe (d.q f h) i)(hle:∀i,i<d.n->h i<=g i)(gC:∀i,i<d.n->d.bG i (f i)<=h i):(∀i,i<d.n->h i=d.s6 h i)/\∀i,i<d.n->(f i<10↔h i<d.bG i 10):=by
 constructor
 ·intro i cH;rw[y3 i cH];unfold Day.s6;have:∀j,j<d.n->h j=d.fe (d.q f h) j:=y3;refine d.ahN (λc H=>?_) i;have bV:=aa.aF c H;have hY:=aa.bw c H;have ao:=gC _ bV;unfold Day.q Day.hh
  by_cases eX:c.bw<f c.aF
  ·have:=aa.uz c.aF (r:=c.bw+1) (s:=f c.aF) (by omega);rw[ad eX,ad (by grind)]
  ·rw[ah eX];have gr:f c.aF<10:=by omega
   have F:=M.M _ bV gr;have I:=hle _ bV
   by_cases eg:c.bw=f c.aF
   ·rw[ad eg,ah (by rw[eg];grind)]
   ·have af:=aa.uz c.aF (r:=f c.aF+1) (s:=c.bw) (by omega);have aO:=aa.uz c.aF (r:=c.bw) (s:=c.bw+1) (by omega);rw[ah eg,ah (by grind),v8 (by grind),nH]
 ·intro i cH
  constructor
  ·intro gr;have F:=M.M _ cH gr;have I:=hle _ cH;have af:=aa.uz i (r:=f i+1) (s:=10) (by omega);grind
  ·intro F;apply mb;intro I;have af:=M.le i;have aO:f i=10:=by omega
   have br:=gC i cH;rw[aO] at br;grind
end Go.Mini
namespace Go.Mini
open Classical
def nI (d:Day)(f:Nat->Nat)(h:Nat->Rat):Prop:=∃g,Inv d f g/\(∀i,i<d.n->h i=d.fe (d.q f h) i)/\∀i,i<d.n->h i<=g i
theorem nI.unique {d:Day}(aa:d.dt){f:Nat->Nat}{h cy:Nat->Rat}(a:nI d f h)(b:nI d f cy):∀i,i<d.n->h i=cy i:=by
 obtain⟨g,F,I,af⟩:=a;obtain⟨c8,cv,cS,eF⟩:=b;intro i cH;have az:=F.Zl aa I af (z:=cy) (λi M=>EN (cS i M)) i cH;have aD:=cv.Zl aa cS eF (z:=h) (λi M=>EN (I i M)) i cH;grind
def Day.jF (d:Day)(h:Nat->Rat)(i:Nat):Nat->Nat
 |0=>10
 |k+1=>if h i<d.bG i (10-(k+1)+1) then 10-(k+1) else Day.jF d h i k
theorem Zn {d:Day}(aa:d.dt){h:Nat->Rat}{i:Nat}:∀k,k<=10->d.bG i (10-k)<=h i->(d.jF h i k=10/\d.bG i 10<=h i)\/(10-k<=d.jF h i k/\d.jF h i k<10/\d.bG i (d.jF h i k)<=h i/\h i<d.bG i (d.jF h i k+1))
 |0,_,ao => .inl ⟨rfl,ao⟩
 |k+1,Q,ao=>by
  unfold Day.jF
  by_cases F:h i<d.bG i (10-(k+1)+1)
  ·rw[ad F];exact .inr ⟨b1 _,by omega,ao,F⟩
  ·rw[ah F];rcases Zn aa (h:=h) (i:=i) k (by omega) (by rw[show 10-k=10-(k+1)+1 by omega];grind) with e|⟨az,aD⟩
   ·exact .inl e
   ·exact .inr ⟨by omega,aD⟩
def Day.gG (d:Day)(f:Nat->Nat)(h:Nat->Rat)(i:Nat):Nat:=if i<d.n/\h i<d.bG i (f i) then d.jF h i 10 else f i
theorem Zo {d:Day}(aa:d.dt){f:Nat->Nat}{h:Nat->Rat}(hle:∀i,f i<=10)(ao:∀i,i<d.n->0<=h i):Zj d f h (d.gG f h):=by
 have key:∀i,i<d.n->h i<d.bG i (f i)->d.jF h i 10<f i/\d.bG i (d.jF h i 10)<=h i/\h i<d.bG i (d.jF h i 10+1):=by
  intro i cH e8;have hm:=aa.uz i (hle i);rcases Zn aa (h:=h) (i:=i) 10 (b1 _) (by rw[mC,d.QX];exact ao i cH) with ⟨-,e⟩|⟨-,az,aD,bZ⟩
  ·grind
  ·refine⟨?_,aD,bZ⟩;apply mb;intro aK;have:=aa.uz i (r:=f i) (s:=d.jF h i 10) (by omega);grind
 refine⟨λi=>?_,λi cH e8=>?_,λi cH e8=>?_⟩
 ·unfold Day.gG
  split
  ·rename_i aR;have:=(key i aR.1 aR.2).1;have:=hle i;omega
  ·exact hle i
 ·unfold Day.gG;rw[ad ⟨cH,e8⟩];exact key i cH e8
 ·unfold Day.gG;rw[ah λaR=>by have:=aR.2;grind]
theorem nI.Q5 {d:Day}(aa:d.dt){f:Nat->Nat}{h:Nat->Rat}(a:nI d f h):Inv d (d.gG f h) h:=by
 obtain⟨g,F,I,af⟩:=a;exact F.Q5 aa I af (Zo aa F.le λi cH=>by rw[I i cH];exact aa.Zi (λc H=>aa.Q4 f h H) cH)
theorem nI.Q6 {d:Day}(aa:d.dt){f:Nat->Nat}{h:Nat->Rat}(a:nI d f h){i:Nat}(cH:i<d.n):0<=h i:=by
 obtain⟨g,F,I,af⟩:=a;rw[I i cH];exact aa.Zi (λc H=>aa.Q4 f h H) cH
def Day.top (d:Day)(f:Nat->Nat):Nat->Rat:=if h:∃x,nI d f x then tJ h else λ_=>0
def Day.h8 (d:Day)(f:Nat->Nat):List Nat:=(dW d.n).filter λi=>decide (d.top f i<d.bG i (f i))
def Day.rounds (d:Day):Nat->(Nat->Nat)->List (List Nat)×(Nat->Nat)
 |0,f=>([],f)
 |k+1,f=>if d.h8 f=[] then ([],f) else (d.h8 f::(Day.rounds d k (d.gG f (d.top f))).1,(Day.rounds d k (d.gG f (d.top f))).2)
def Reach (d:Day)(f:Nat->Nat):Prop:=∃g,Inv d f g/\∀z,(∀i,i<d.n->z i<=d.s6 z i)->∀i,i<d.n->z i<=g i
theorem Reach.start {d:Day}(aa:d.dt):Reach d λ_=>10:=⟨_,Inv.start aa,λz aV i cH=>wa (aV i cH) (d.EP (λ_ H=>aa.Zg z H) i)⟩
def mW:Nat->(Nat->Nat)->Nat
 |0,_=>0
 |n+1,f=>mW n f+f n
theorem awm {n:Nat}{f g:Nat->Nat}(h:∀i,i<n->f i<=g i):mW n f<=mW n g:=by
 induction n with
 |zero=>exact b1 _
 |succ n ay =>
  have:=ay λi M=>h i (by omega);have:=h n (by omega);simp only[mW];omega
theorem Zp {n:Nat}{f g:Nat->Nat}(h:∀i,i<n->f i<=g i){j:Nat}(ai:j<n)(aA:f j<g j):mW n f<mW n g:=by
 induction n with
 |zero=>omega
 |succ n ay =>
  have F:=h n (by omega);simp only[mW]
  by_cases awn:j=n
  ·subst awn;have:=awm (n:=j) (f:=f) (g:=g) λi M=>h i (by omega);omega
  ·have:=ay (λi M=>h i (by omega)) (by omega);omega
theorem Day.CK {d:Day}{f:Nat->Nat}(h:∃x,nI d f x):nI d f (d.top f):=by
 unfold Day.top;rw[dif_pos h];exact po h
theorem Day.Ml {d:Day}{f:Nat->Nat}{i:Nat}:i∈d.h8 f↔i<d.n/\d.top f i<d.bG i (f i):=by
 unfold Day.h8;rw[xD,gX,decide_eq_true_eq]
section
variable {d:Day} (aa:d.dt) (hex:∀f,Reach d f->∃h,nI d f h)
include aa hex
theorem awo {f:Nat->Nat}(ab:Reach d f){z:Nat->Rat}(aV:∀i,i<d.n->z i<=d.s6 z i):∀i,i<d.n->z i<=d.top f i:=by
 obtain⟨g,F,I,af⟩:=Day.CK (hex f ab);obtain⟨c8,cv,cS⟩:=ab;have bD:nI d f (d.top f):=⟨g,F,I,af⟩
 -- the end of the round below c8
 intro i cH;have Dx:=λk Q=>wa (aV k Q) (d.EP (λ_ H=>awj aa cv (cS z aV) H) k);exact F.Zl aa I af Dx i cH
theorem Reach.next {f:Nat->Nat}(ab:Reach d f):Reach d (d.gG f (d.top f)):=⟨d.top f,(Day.CK (hex f ab)).Q5 aa,λz aV=>awo aa hex ab aV⟩
theorem Zq {f:Nat->Nat}(ab:Reach d f)(bE:d.h8 f≠[]):mW d.n (d.gG f (d.top f))<mW d.n f:=by
 obtain⟨i,M⟩:=List.exists_mem_of_ne_nil _ bE;obtain⟨F,I⟩:=Day.Ml.1 M;have bD:=Day.CK (hex f ab);obtain⟨g,cv,-⟩:=bD;have aH:=Zo aa cv.le (h:=d.top f) λi cH=>(Day.CK (hex f ab)).Q6 aa cH;refine Zp (λj ai=>?_) F (aH.2.1 i F I).1
 by_cases e8:d.top f j<d.bG j (f j)
 ·have:=(aH.2.1 j ai e8).1;omega
 ·rw[aH.2.2 j ai (by grind)];exact b1 _
theorem ahV:∀k (f:Nat->Nat),Reach d f->mW d.n f<=k->Reach d (d.rounds k f).2/\d.h8 (d.rounds k f).2=[]
 |0,f,ab,Q=>by
  refine⟨ab,?_⟩;apply mb;intro bE;have:=Zq aa hex ab bE;omega
 |k+1,f,ab,Q=>by
  unfold Day.rounds
  by_cases bE:d.h8 f=[]
  ·rw[ad bE];exact⟨ab,bE⟩
  ·rw[ah bE];have:=Zq aa hex ab bE;exact ahV k _ (ab.next aa hex) (by omega)
end
theorem Day.awp (d:Day){f:Nat->Nat}(h:d.h8 f=[]):∀k,d.rounds k f=([],f)
 |0=>rfl
 |k+1=>by unfold Day.rounds;rw[ad h]
end Go.Mini
namespace Go.Mini
abbrev au:=Int×Int×Int×Int
def hK (n:Int)(c:au):Bool:=decide (0<=c.1)&&decide (c.1<n)&&decide (-1<=c.2.1)&&decide (c.2.1<n)&&decide (0<=c.2.2.1)&&decide (c.2.2.1<10)&&decide (0<=c.2.2.2)&&decide (c.2.2.2<=1000000000000000)
def jr (E:List Int)(cs:List au):Bool:=decide (D E<=60)&&decide (D cs<=2000)&&E.all (λx=>decide (0<=x)&&decide (x<=1000000000000000))&&cs.all (hK (D E))
def cJ (c:au):en:=⟨c.1.toNat,c.2.1,c.2.2.1.toNat,(c.2.2.2:Rat)⟩
def aB (E:List Int)(cs:List au):Day:=⟨D E,λi=>((E.getD i 0:Int):Rat),cs.map cJ⟩
theorem hD {E:List Int}{cs:List au}:jr E cs=true↔(D E)<=60/\D cs<=2000/\(∀x∈E,0<=x/\x<=1000000000000000)/\∀c∈cs,0<=c.1/\c.1<(D E) /\ -1<=c.2.1/\c.2.1<D E/\0<=c.2.2.1/\c.2.2.1<10/\0<=c.2.2.2/\c.2.2.2<=1000000000000000:=by
 unfold jr hK;simp only[eM,decide_eq_true_eq,List.all_eq_true,and_assoc]
theorem ahW {E:List Int}{cs:List au}(h:jr E cs=true):(aB E cs).dt:=by
 obtain⟨-,-,af,aO⟩:=hD.1 h
 have H:∀x∈(aB E cs).dk,∃c∈cs,x=cJ c:=λx O=>by
  obtain⟨c,H,rfl⟩:=dT.1 O;exact⟨c,H,rfl⟩
 refine⟨λx O=>?_,λx O=>?_,λx O=>?_,λx O=>?_,λi M=>?_⟩
 ·obtain⟨c,H,rfl⟩:=H x O;have:=aO c H;show c.1.toNat<D E;omega
 ·obtain⟨c,H,rfl⟩:=H x O;have:=aO c H;show c.2.1<(D E:Int);omega
 ·obtain⟨c,H,rfl⟩:=H x O;have:=aO c H;show c.2.2.1.toNat<10;omega
 ·obtain⟨c,H,rfl⟩:=H x O;have:=(aO c H).2.2.2.2.2.2.1;show (0:Rat)<=(c.2.2.2:Rat);exact_mod_cast this
 ·show (0:Rat)<=((E.getD i 0:Int):Rat);have kj:i<D E:=M
  have:0<=E.getD i 0:=by
   rw[ep,bz kj];exact (af _ (ph kj)).1
  exact_mod_cast this
def cR:List au->(au->Int)->Int
 | [],_=>0
 |c::l,aP=>aP c+cR l aP
def cT (cs:List au)(dm r:Int):Int:=cR cs λc=>if c.1=dm/\c.2.2.1<r then c.2.2.2 else 0
theorem Q7 (cs:List au)(aP:au->Int)(bQ:en->Rat)(h:∀c∈cs,((aP c:Int):Rat)=bQ (cJ c)):((cR cs aP:Int):Rat)=cx (cs.map cJ) bQ:=by
 induction cs with
 |nil=>rfl
 |cons c l ay=>rw[cR,eA,cx,wb,h c gq,ay λx O=>h x (gZ _ O)]
theorem H6 {cs:List au}{aP bQ:au->Int}(h:∀c∈cs,aP c=bQ c):cR cs aP=cR cs bQ:=by
 induction cs with
 |nil=>rfl
 |cons c l ay=>rw[cR,cR,h c gq,ay λx O=>h x (gZ _ O)]
theorem Q8 {cs:List au}{aP:au->Int}{B:Int}(fW:0<=B)(h:∀c∈cs,0<=aP c/\aP c<=B):0<=cR cs aP/\cR cs aP<=D cs*B:=by
 induction cs with
 |nil=>simp[cR]
 |cons c l ay =>
  have F:=h c gq;have I:=ay λx O=>h x (gZ _ O);simp only[cR,h0]
  have:((D l+1:Nat):Int)*B=D l*B+B:=by
   rw[Int.natCast_add,Int.add_mul];simp
  omega
theorem Mm (a b:List au)(aP:au->Int):cR (a++b) aP=cR a aP+cR b aP:=by
 induction a with
 |nil=>simp[cR]
 |cons c l ay=>simp only[jT,cR,ay];omega
theorem uD {E:List Int}{cs:List au}(h:jr E cs=true)(i r:Nat):((cT cs i r:Int):Rat)=(aB E cs).bG i r:=by
 refine Q7 cs _ (λc=>if c.aF=i/\c.bw<r then c.am else 0) λc H=>?_;have:=(hD.1 h).2.2.2 c H;show ((if c.1=(i:Int)/\c.2.2.1<(r:Int) then c.2.2.2 else 0:Int):Rat)=if c.1.toNat=i/\c.2.2.1.toNat<r then (c.2.2.2:Rat) else 0
 by_cases F:c.1=(i:Int)/\c.2.2.1<(r:Int)
 ·rw[ad F,ad (by omega)]
 ·rw[ah F,ah (by omega)];rfl
theorem Q9 {E:List Int}{cs:List au}(h:jr E cs=true)(i r:Nat):((cT cs i (r+1:Nat)-cT cs i r:Int):Rat)=(aB E cs).S i r:=by
 have F:=uD h i r;have I:=uD h i (r+1);rw[CL,F,I,Day.s3];grind
def lk (E:List Int)(cs:List au)(f:Nat->Nat)(i:Nat):Int:=E.getD i 0+cR cs λc=>if c.2.1=(i:Int)/\c.2.2.1<(f c.1.toNat:Int) then c.2.2.2 else 0
def ext (N:Nat)(y:Nat->Rat)(z:Rat):Nat->Rat:=λk=>if k<N then y k else z
theorem Mn (N:Nat)(a y:Nat->Rat)(z:Rat):mV N a (ext N y z)=bJ N (λk=>a k*y k)+a N*z:=by
 unfold mV ext;rw[bJ]
 congr 1
 ·exact kr λk Q=>by rw[ad Q]
 ·rw[ah (by omega)]
theorem Zr {N:Nat}{aM:eI}{bI:Nat->Nat}(h:qY N aM N N bI)(j6:∀j,j<N->bI j=j){i:Nat}(M:i<N)(y:Nat->Rat)(z:Rat):mV N (aM i) (ext N y z)=y i+aM i N*z:=by
 rw[Mn]
 congr 1
 have:∀k,k<N->aM i k=if i=k then 1 else 0:=λk Q=>by
  have:=h.unit k Q i M;rwa [j6 k Q] at this
 rw[y1 M λk Q pT=>by rw[this k Q,ah (Ne.symm pT),CH],this i M,ad rfl,Ra]
theorem ahX {N:Nat}{aM:eI}{bI:Nat->Nat}(h:qY N aM N N bI)(j6:∀j,j<N->bI j=j)(y:Nat->Rat):hX N aM (ext N y (-1))↔∀i,i<N->y i=aM i N:=by
 unfold hX
 constructor
 ·intro ec i M;have:=ec i M;rw[Zr h j6 M] at this;grind
 ·intro ec i M;rw[Zr h j6 M,ec i M];grind
theorem awq {N:Nat}{aM:eI}{bI:Nat->Nat}(h:qY N aM N N bI)(j6:∀j,j<N->bI j=j)(y:Nat->Rat)(ec:hX N aM (ext N y 0)):∀i,i<N->y i=0:=by
 intro i M;have:=ec i M;rw[Zr h j6 M] at this;grind
def s7 (aM:eI)(c:Nat):Nat->Rat:=λk=>if k<c then 0-aM k c else if k=c then 1 else 0
theorem ahY {N c:Nat}{aM:eI}{bI:Nat->Nat}(h:qY N aM c c bI)(j6:∀j,j<c->bI j=j)(H:c<N)(aV:∀i,c<=i->i<N->aM i c=0):hX N aM (ext N (s7 aM c) 0):=by
 intro i M;rw[Mn]
 have main:∀n,c<n->n<=N->bJ n (λk=>aM i k*s7 aM c k)=bJ (c+1) (λk=>aM i k*s7 aM c k):=by
  intro n
  induction n with
  |zero=>intro h;omega
  |succ n ay =>
   intro F I
   by_cases Kd:c=n
   ·rw[Kd]
   ·rw[bJ,ay (by omega) (by omega)];unfold s7;rw[ah (show ¬ n<c by omega),ah (show ¬ n=c by omega)];grind
 rw[main N H (b1 _),bJ];have Q:s7 aM c c=1:=by unfold s7;rw[ah (by omega),ad rfl]
 rw[Q]
 have hu:∀k,k<c->aM i k=if i=k then 1 else 0:=λk Q=>by
  have:=h.unit k Q i M;rwa [j6 k Q] at this
 rcases ih i c with aA|b7
 ·rw[y1 aA λk Q pT=>by rw[hu k Q,ah (Ne.symm pT),CH],hu i aA,ad rfl]
  unfold s7;rw[ad aA];grind
 ·rw[s0 λk Q=>by rw[hu k Q,ah (by omega),CH],aV i b7 M]
  grind
abbrev fZ:=Nat->Rat
def js (n:Nat)(f:List fZ->Rat):List fZ->List fZ->Rat
 |_,[]=>0
 |pre,c::cs=>c n*f (pre++cs)-js n f (pre++[c]) cs
def gO:Nat->List fZ->Rat
 |0,[]=>1
 |0,_::_=>0
 |n+1,cs=>js n (gO n) [] cs
def CM (x y:fZ)(a:Rat):fZ:=λi=>x i+a*y i
def Zs (f:List fZ->Rat):Prop:=∀A B x y a,f (A++CM x y a::B)=f (A++x::B)+a*f (A++y::B)
def Zt (f:List fZ->Rat):Prop:=∀A B z,f (A++z::z::B)=0
theorem awr {n:Nat}{f:List fZ->Rat}(h:Zs f)(x y:fZ)(a:Rat)(A:List fZ):∀cs nJ,js n f (A++CM x y a::nJ) cs=js n f (A++x::nJ) cs+a*js n f (A++y::nJ) cs:=by
 intro cs
 induction cs with
 |nil=>intro nJ;simp only[js];grind
 |cons c cs ay =>
  intro nJ;have e:=ay (nJ++[c]);simp only[js,gW,jT] at e ⊢;rw[h A (nJ++cs) x y a,e];grind
theorem aws {n:Nat}{f:List fZ->Rat}(h:Zs f)(x y:fZ)(a:Rat)(B:List fZ):∀A pre,js n f pre (A++CM x y a::B)=js n f pre (A++x::B)+a*js n f pre (A++y::B):=by
 intro A
 induction A with
 |nil =>
  intro pre;have e:=awr (n:=n) h x y a pre B [];simp only[jm,js];rw[e];simp only[CM];grind
 |cons c A ay =>
  intro pre;have e:=ay (pre++[c]);have aD:=h (pre++A) B x y a;simp only[gW] at aD;simp only[jT,js];rw[e,aD];grind
theorem ES:∀n,Zs (gO n)
 |0=>by
  intro A B x y a
  cases A<;>simp only[jm,jT,gO]<;>grind
 |n+1=>λA B x y a=>aws (ES n) x y a B A []
theorem awt {n:Nat}{f:List fZ->Rat}(h:Zt f)(z:fZ)(A:List fZ):∀cs nJ,js n f (A++z::z::nJ) cs=0:=by
 intro cs
 induction cs with
 |nil=>intro nJ;rfl
 |cons c cs ay =>
  intro nJ;have e:=ay (nJ++[c]);have aD:=h A (nJ++cs) z;simp only[js,gW,jT] at e aD ⊢;rw[e,aD];grind
theorem awu {n:Nat}{f:List fZ->Rat}(h:Zt f)(z:fZ)(B:List fZ):∀A pre,js n f pre (A++z::z::B)=0:=by
 intro A
 induction A with
 |nil =>
  intro pre;have e:=awt (n:=n) h z pre B [];simp only[jm,js,gW,jT] at e ⊢;rw[e];grind
 |cons c A ay =>
  intro pre;have e:=ay (pre++[c]);have aD:=h (pre++A) B z;simp only[gW] at aD;simp only[jT,js];rw[e,aD];grind
theorem Mo:∀n,Zt (gO n)
 |0=>by
  intro A B z
  cases A<;>rfl
 |n+1=>λA B z=>awu (Mo n) z B A []
theorem awv (n:Nat)(A B:List fZ)(x y:fZ):gO n (A++x::y::B) = -gO n (A++y::x::B):=by
 have ao:=Mo n A B (CM x y 1);have F:=ES n A (CM x y 1::B) x y 1;rw[ao] at F;have I:=ES n (A++[x]) B x y 1;have af:=ES n (A++[y]) B x y 1;simp only[gW,jT,jm] at I af;rw[I,af,Mo n A B x,Mo n A B y] at F;grind
theorem ahZ (n:Nat)(C:List fZ)(z:fZ):∀B A,gO n (A++z::(B++z::C))=0:=by
 intro B
 induction B with
 |nil=>intro A;exact Mo n A C z
 |cons b B ay =>
  intro A;have:=ay (A++[b]);simp only[gW,jT,jm] at this ⊢;rw[awv,this];grind
theorem Zu {n:Nat}{A B:List fZ}{z:fZ}(h:z∈A++B):gO n (A++z::B)=0:=by
 rcases jk.1 h with h|h
 ·obtain⟨Zv,H7,rfl⟩:=ah0 h;have:=ahZ n B z H7 Zv
  simpa only [gW,jT] using this
 ·obtain⟨Bh,Dg,rfl⟩:=ah0 h;exact ahZ n Dg z Bh A
theorem aww {n:Nat}{f:List fZ->Rat}{z:fZ}(aV:z n=0)(h:∀A B,f (A++z::B)=0):(∀cs A nJ,js n f (A++z::nJ) cs=0)/\∀A B pre,js n f pre (A++z::B)=0:=by
 have F:∀cs A nJ,js n f (A++z::nJ) cs=0:=by
  intro cs
  induction cs with
  |nil=>intro A nJ;rfl
  |cons c cs ay =>
   intro A nJ;have e:=ay A (nJ++[c]);have aD:=h A (nJ++cs);simp only[js,gW,jT] at e aD ⊢;rw[e,aD];grind
 refine⟨F,λA=>?_⟩
 induction A with
 |nil =>
  intro B pre;have e:=F B pre [];simp only[jm,js];rw[e,aV];grind
 |cons c A ay =>
  intro B pre;have e:=ay B (pre++[c]);have aD:=h (pre++A) B;simp only[gW] at aD;simp only[jT,js];rw[e,aD];grind
theorem Zw:∀n (z:fZ),(∀i,i<n->z i=0)->∀A B,gO n (A++z::B)=0
 |0,z,_=>λA B=>by cases A<;>rfl
 |n+1,z,h=>λA B=>(aww (h n (by omega)) (Zw n z λi M=>h i (by omega))).2 A B []
theorem ah1 {n:Nat}{e:fZ}(h:∀i,i<n->e i=0)(cs:List fZ):gO (n+1) (e::cs)=e n*gO n cs:=by
 show e n*gO n ([]++cs)-js n (gO n) ([]++[e]) cs=_
 have:∀cs pre,js n (gO n) (e::pre) cs=0:=by
  intro cs
  induction cs with
  |nil=>intro pre;rfl
  |cons c cs ay =>
   intro pre;have az:=ay (pre++[c]);have aD:=Zw n e h [] (pre++cs);simp only[js,jT,jm] at az aD ⊢;rw[az,aD];grind
 simp only[jm];rw[this cs []];grind
theorem awx {n:Nat}{f:List fZ->Rat}{T:fZ->fZ}(cC:∀c,T c n=c n)(h:∀l,f (l.map T)=f l):∀cs pre,js n f (pre.map T) (cs.map T)=js n f pre cs:=by
 intro cs
 induction cs with
 |nil=>intro pre;rfl
 |cons c cs ay =>
  intro pre;have e:=ay (pre++[c]);have aD:=h (pre++cs);simp only[jD,eA,cY] at e aD;simp only[eA,js];rw[e,aD,cC]
theorem Zx:∀n (T:fZ->fZ),(∀c i,i<n->T c i=c i)->∀l,gO n (l.map T)=gO n l
 |0,T,_=>λl=>by cases l<;>rfl
 |n+1,T,h=>λl=>awx (λc=>h c n (by omega)) (Zx n T λc i M=>h c i (by omega)) l []
theorem ah2 {n:Nat}{α:Type}(l:List α)(f g:α->fZ)(h:∀a∈l,∀i,i<n->f a i=g a i):gO n (l.map f)=gO n (l.map g):=by
 rw[<-Zx n (λc i=>if i<n then c i else 0) (λc i M=>ad M),<-Zx n (λc i=>if i<n then c i else 0) (λc i M=>ad M) (l.map g)];rw[m6,m6]
 congr 1
 apply mI;intro a aN
 funext i
 simp only[Function.comp]
 split
 ·exact h a aN i (by assumption)
 ·rfl
theorem Mp (n:Nat)(A B:List fZ)(x:Nat->Rat)(C:Nat->fZ):∀m,gO n (A++(λi=>bJ m λl=>x l*C l i)::B)=bJ m λl=>x l*gO n (A++C l::B)
 |0=>Zw n _ (λi _=>rfl) A B
 |m+1=>by
  have e:=ES n A B (λi=>bJ m λl=>x l*C l i) (C m) (x m);rw[Mp n A B x C m] at e;exact e
def eS (B:Nat)(x:Rat):Prop:=∃z:Int,x=(z:Rat)/\z.natAbs<=B
theorem eS.mono {A B:Nat}{x:Rat}(h:eS A x)(ar:A<=B):eS B x:=by obtain⟨z,F,I⟩:=h;exact⟨z,F,by omega⟩
theorem eS.mul {A B:Nat}{x y:Rat}(O:eS A x)(aw:eS B y):eS (A*B) (x*y):=by
 obtain⟨z,rfl,I⟩:=O;obtain⟨w,rfl,cp⟩:=aw;exact⟨z*w,by rw[qc],by rw[qM];exact o5 I cp⟩
theorem eS.sub {A B:Nat}{x y:Rat}(O:eS A x)(aw:eS B y):eS (A+B) (x-y):=by
 obtain⟨z,rfl,I⟩:=O;obtain⟨w,rfl,cp⟩:=aw;exact⟨z-w,by rw[CL],by omega⟩
theorem eS.add {A B:Nat}{x y:Rat}(O:eS A x)(aw:eS B y):eS (A+B) (x+y):=by
 obtain⟨z,rfl,I⟩:=O;obtain⟨w,rfl,cp⟩:=aw;exact⟨z+w,by rw[wb],by omega⟩
theorem eS.zero {B:Nat}:eS B 0:=⟨0,by rfl,by simp⟩
theorem eS.int (z:Int):eS z.natAbs (z:Rat):=⟨z,rfl,b1 _⟩
theorem eS.sum {B:Nat}{f:Nat->Rat}:∀n,(∀k,k<n->eS B (f k))->eS (n*B) (bJ n f)
 |0,_=>eS.zero
 |n+1,h=>by
  have:=(eS.sum n λk Q=>h k (by omega)).add (h n (by omega));exact this.mono (by rw[ts];exact b1 _)
theorem eS.of {z:Int}{B:Nat}(h:z.natAbs<=B):eS B (z:Rat):=⟨z,rfl,h⟩
theorem eS.nat {z:Nat}{B:Nat}(h:z<=B):eS B (z:Rat):=⟨z,(ou _).symm,by omega⟩
def fi:Nat->(Nat->Nat)->Nat
 |0,_=>0
 |n+1,a=>fi n a+a n
theorem Mq {n:Nat}{a b:Nat->Nat}(h:∀i,i<n->a i=b i):fi n a=fi n b:=by
 induction n with
 |zero=>rfl
 |succ n ay=>rw[fi,fi,ay λi M=>h i (by omega),h n (by omega)]
theorem awy {n:Nat}{a b:Nat->Nat}(h:∀i,i<n->a i<=b i):fi n a<=fi n b:=by
 induction n with
 |zero=>exact b1 _
 |succ n ay=>exact Nat.add_le_add (ay λi M=>h i (by omega)) (h n (by omega))
theorem ah3 {N t:Nat}(b:Nat->Nat)(bD:t<N):fi N b=fi N (λi=>if i=t then 0 else b i)+b t:=by
 induction N with
 |zero=>omega
 |succ N ay =>
  by_cases h:t=N
  ·subst h;rw[fi,fi,ad rfl];have:fi t b=fi t λi=>if i=t then 0 else b i:=Mq λi M=>by rw[ah (by omega)]
   omega
  ·have:=ay (by omega);rw[fi,fi,ah (by omega)];omega
theorem Zy {N:Nat}{τ:Nat->Nat}:∀{n:Nat} (b:Nat->Nat),(∀i,i<n->τ i<N)->(∀i j,i<n->j<n->τ i=τ j->i=j)->fi n (λi=>b (τ i))<=fi N b
 |0,_,_,_=>fk _
 |n+1,b,F,I=>by
  have ay:=Zy (n:=n) (λi=>if i=τ n then 0 else b i) (λi M=>F i (by omega)) λi j M ai=>I i j (by omega) (by omega);rw[ah3 b (F n (by omega)),fi]
  have:fi n (λi=>b (τ i))=fi n λi=>if τ i=τ n then 0 else b (τ i):=Mq λi M=>by
   rw[ah λh=>by have:=I i n (by omega) (by omega) h;omega]
  omega
def iM:Nat->(Nat->Nat)->Nat
 |0,_=>1
 |n+1,b8=>iM n b8*b8 n
theorem ah4 {n:Nat}{b8:Nat->Nat}(h:∀k,k<n->0<b8 k):0<iM n b8:=by
 induction n with
 |zero=>exact Zz
 |succ n ay=>exact Mr (ay λk Q=>h k (by omega)) (h n (by omega))
theorem ZA {n b:Nat}{b8:Nat->Nat}(h:∀k,k<n->b8 k<=2^b):iM n b8<=2^(n*b):=by
 induction n with
 |zero=>simp[iM]
 |succ n ay =>
  rw[ts,wc];exact o5 (ay λk Q=>h k (by omega)) (h n (by omega))
theorem ah5 {n:Nat}{b8:Nat->Nat}{k:Nat}(Q:k<n):∃m,iM n b8=b8 k*m:=by
 induction n with
 |zero=>omega
 |succ n ay =>
  by_cases HY:k=n
  ·subst HY;exact⟨iM k b8,rC _ _⟩
  ·obtain⟨m,hm⟩:=ay (by omega);exact⟨m*b8 n,by rw[iM,hm,ET]⟩
theorem ah6 {p:Nat}{b8:Nat->Nat}(kJ:∀k,0<b8 k):∀{N:Nat},p<=N->∃cg,0<cg/\iM N b8=iM p b8*cg/\∀k,p<=k->k<N->∃m,cg=b8 k*m
 |0,h=>⟨1,Zz,by rw[show p=0 by omega];rfl,λk _ h=>by omega⟩
 |N+1,h=>by
  by_cases aG:p=N+1
  ·exact⟨1,Zz,by rw[aG,cI],λk F I=>by omega⟩
  ·obtain⟨cg,ao,F,I⟩:=ah6 (p:=p) kJ (N:=N) (by omega);refine⟨cg*b8 N,Mr ao (kJ N),by rw[iM,F,ET],λk cv cS=>?_⟩
   by_cases Q:k=N
   ·exact⟨cg,by rw[Q,rC]⟩
   ·obtain⟨m,hm⟩:=I k cv (by omega);exact⟨m*b8 N,by rw[hm,ET]⟩
abbrev H8:=fZ×(Nat->Nat)
def ni (n:Nat):List H8->Nat
 | []=>1
 |p::l=>fi n p.2*ni n l
theorem awz (n:Nat)(a b:List H8):ni n (a++b)=ni n a*ni n b:=by
 induction a with
 |nil=>simp[ni]
 |cons p l ay=>simp only[jT,ni,ay,ET]
theorem ah7 (n:Nat):∀l:List H8,ni n l<=ni (n+1) l
 | []=>b1 _
 |p::l=>o5 (Nat.le_add_right _ _) (ah7 n l)
theorem ah8 {n:Nat}{f:List fZ->Rat}(h:∀l:List H8,(∀p∈l,∀i,i<n->eS (p.2 i) (p.1 i))->eS (ni n l) (f (l.map (·.1)))):
  ∀cs pre:List H8,(∀p∈pre++cs,∀i,i<n+1->eS (p.2 i) (p.1 i))->∃z:Int,js n f (pre.map (·.1)) (cs.map (·.1))=(z:Rat)/\z.natAbs+ni n pre*ni n cs<=ni n pre*ni (n+1) cs
 | [],pre,_=>⟨0,rfl,by simp[ni]⟩
 |c::cs,pre,aG=>by
  obtain⟨z,F,I⟩:=ah8 h cs (pre++[c]) (by simpa using aG);obtain⟨y,cF,cp⟩:=h (pre++cs) λp hm i M=>aG p (by simp only[jk,hH] at hm ⊢;rcases hm with hm|hm<;>simp[hm]) i (by omega)
  obtain⟨x,cv,cS⟩:=aG c (by simp) n (by omega);simp only[jD,eA,cY] at F cF;refine⟨x*y-z,?_,?_⟩
  ·simp only[eA,js];rw[cv,cF,F,CL,qc]
  ·rw[awz] at I cp;simp only[ni,fi,cI] at I ⊢;have c0:(x*y-z).natAbs<=x.natAbs*y.natAbs+z.natAbs:=by rw[<-qM];omega
   have dj:=o5 cS (eU cp (o5 (b1 _) (ah7 n cs)));generalize ni n pre=P at *;generalize ni n cs=s at *;generalize ni (n+1) cs=S at *;generalize fi n c.2=L at *;generalize c.2 n=a at *;have az:P*((L+a)*S)=P*L*S+a*(P*S):=by rw[Nat.add_mul,Nat.mul_add,ET,ah9 a]
   have aD:P*(L*s)=P*L*s:=(ET _ _ _).symm;rw[az,aD];omega
theorem aia:∀n (l:List H8),(∀p∈l,∀i,i<n->eS (p.2 i) (p.1 i))->eS (ni n l) (gO n (l.map (·.1)))
 |0,[],_=>⟨1,by rfl,by simp[ni]⟩
 |0,p::l,_=>eS.zero
 |n+1,l,h=>by
  obtain⟨z,F,I⟩:=ah8 (f:=gO n) (aia n) l [] (by simpa using h);refine⟨z,F,?_⟩;simp only[ni,Nat.one_mul] at I;omega
open Go
def ll (N:Nat)(l:List bg)(q:Nat->Rat):Prop:=l=((dW (N+1)).map q).map av/\∀k,k<=N->dv (q k)
def xE (N:Nat)(rows:List dy)(aM:eI):Prop:=D rows=N/\∀(i:Nat) x,rows[i]?=some x->ll N x.2.2 (aM i)
theorem ll.get {N:Nat}{l:List bg}{q:Nat->Rat}(h:ll N l q){k:Nat}(Q:k<=N):l[k]?=some (av (q k)):=by
 rw[h.1,bn,bn,tr (by omega)]
 rfl
theorem ll.len {N:Nat}{l:List bg}{q:Nat->Rat}(h:ll N l q):(D l)=N+1:=by rw[h.1];simp
theorem ll.ZB {N:Nat}{l:List bg}{q:Nat->Rat}(ar:(D l)=N+1)(h:∀k,k<=N->l[k]?=some (av (q k))/\dv (q k)):ll N l q:=by
 refine⟨?_,λk Q=>(h k Q).2⟩;apply qx;intro k;rcases ih k (N+1) with Q|Q
 ·rw[(h k (by omega)).1,bn,bn,tr Q];rfl
 ·rw[mB (by omega),mB (by simp;omega)]
theorem ll.congr {N:Nat}{l:List bg}{q tZ:Nat->Rat}(h:ll N l q)(aL:∀k,k<=N->q k=tZ k):ll N l tZ :=
 ll.ZB h.len λk Q=>by rw[<-aL k Q];exact⟨h.get Q,h.2 k Q⟩
theorem ll.cell {N:Nat}{x:dy}{q:Nat->Rat}(h:ll N x.2.2 q){k:Nat}(Q:k<=N):cellOf x k=av (q k):=Yt (h.get Q)
theorem Rb (q:Rat):nF (av q)=decide (q=0):=by
 unfold nF av bT;rw[Bool.eq_iff_iff,beq_iff_eq,decide_eq_true_eq,Int.sign_eq_zero_iff_zero,aib]
def rW (fB a b:Rat):Bool:=Ap fB b&&mR a (-(fB*b))
theorem aic {fB a b:Rat}(aH:dv fB)(aN:dv a)(ag:dv b)(h:rW fB a b=true):
  om (av fB) (av b)=(av (fB*b),0)/\pz (av a) (av (fB*b))=(av (a-fB*b),0)/\dv (a-fB*b):=by
 unfold rW at h;rw[eM] at h;refine⟨?_,?_,agf h.2⟩
 ·rw[W1 aH ag,h.1];rfl
 ·rw[P6 aN (agh h.1),h.2];rfl
theorem awA {fB a b:Rat}(aH:dv fB)(aN:dv a)(ag:dv b)(h:rW fB a b=false):
  ((om (av fB) (av b)).2 != 0||(pz (av a) (om (av fB) (av b)).1).2 != 0)=true:=by
 unfold rW at h;rw[W1 aH ag];rcases F:Ap fB b
 ·rfl
 ·rw[F,g3] at h;show ((pz (av a) (av (fB*b))).2 != 0)=true;rw[P6 aN (agh F),h]
  rfl
theorem awB {fB:Rat}(aH:dv fB):∀(xF pl:List Rat),D xF=(D pl)->(∀x∈xF,dv x)->(∀x∈pl,dv x) ->
  ((∀q∈xF.zip pl,rW fB q.1 q.2=true)->jq (av fB) (xF.map av) (pl.map av) false=((ZC (λa b=>a-fB*b) xF pl).map av,false)/\∀x∈ZC (λa b=>a-fB*b) xF pl,dv x) /\
  ((jq (av fB) (xF.map av) (pl.map av) false).2=false->∀q∈xF.zip pl,rW fB q.1 q.2=true):=by
 intro xF
 induction xF with
 |nil=>intro pl ar _ _;cases pl with
  |nil=>exact⟨λ_=>⟨rfl,by simp⟩,λ_=>by simp⟩
  |cons=>cases ar
 |cons a xF ay =>
  intro pl ar F I
  cases pl with
  |nil=>cases ar
  |cons b pl =>
   have aN:=F a gq;have ag:=I b gq;obtain⟨i1,i2⟩:=ay pl (by simpa using ar) (λx O=>F x (gZ _ O)) (λx O=>I x (gZ _ O))
   constructor
   ·intro e4;obtain⟨az,aD,bZ⟩:=aic aH aN ag (e4 (a,b) (by simp));obtain⟨i3,i4⟩:=i1 λq aL=>e4 q (by simp only[aid,hH];exact .inr aL);refine⟨?_,λx O=>?_⟩
    ·simp only[eA,jq,az,aD,aie,bne_self_eq_false,lW,i3]
    ·rw[aie,hH] at O;rcases O with rfl|O
     ·exact bZ
     ·exact i4 x O
   ·intro eJ;simp only[eA,jq] at eJ;rcases U:rW fB a b
    ·rw[awA aH aN ag U,Yu] at eJ
     cases eJ
    ·obtain⟨az,aD,bZ⟩:=aic aH aN ag U;simp only[az,aD,bne_self_eq_false,lW] at eJ;intro q aL;rw[aid,hH] at aL;rcases aL with rfl|aL
     ·exact U
     ·exact i2 eJ q aL
theorem awC (n:Nat)(q p:Nat->Rat):((dW n).map q).zip ((dW n).map p)=(dW n).map λk=>(q k,p k):=by
 rw[List.zip_map',]
theorem awD (n:Nat)(f:Rat->Rat->Rat)(q p:Nat->Rat):ZC f ((dW n).map q) ((dW n).map p)=(dW n).map λk=>f (q k) (p k):=by
 rw[List.zipWith_map,List.zipWith_self]
theorem awE {N:Nat}{fB:Rat}{l aq:List bg}{q p:Nat->Rat}(aH:dv fB)(F:ll N l q)(I:ll N aq p):
  ((∀k,k<=N->rW fB (q k) (p k)=true)->(jq (av fB) l aq false).2=false)/\((jq (av fB) l aq false).2=false->ll N (jq (av fB) l aq false).1 (λk=>q k-fB*p k)):=by
 obtain⟨az,aD⟩:=awB aH ((dW (N+1)).map q) ((dW (N+1)).map p) (by simp) (by
  intro x O;obtain⟨k,Q,rfl⟩:=dT.1 O;exact F.2 k (by have:=gX.1 Q;omega)) (by
  intro x O;obtain⟨k,Q,rfl⟩:=dT.1 O;exact I.2 k (by have:=gX.1 Q;omega))
 rw[<-F.1,<-I.1] at az aD
 have aV:(∀k,k<=N->rW fB (q k) (p k)=true)↔∀x∈((dW (N+1)).map q).zip ((dW (N+1)).map p),rW fB x.1 x.2=true:=by
  rw[awC];simp only[dT,gX]
  constructor
  ·rintro h x ⟨k,Q,rfl⟩;exact h k (by omega)
  ·intro h k Q;exact h (q k,p k) ⟨k,by omega,rfl⟩
 refine⟨λh=>by rw[(az (aV.1 h)).1],λh=>?_⟩
 obtain⟨bZ,dr⟩:=az (aD h);rw[bZ,awD] at *;exact⟨rfl,λk Q=>dr _ (dT.2 ⟨k,gX.2 (by omega),rfl⟩)⟩
theorem Rc (fY:List bg)(r c:Nat):∀(i:Nat) (l:List dy),(j4 fY r c i l true).2=true
 |_,[]=>rfl
 |i,x::xs=>by
  unfold j4
  split
  ·exact Rc fY r c (i+1) xs
  ·rw[Yu];exact Rc fY r c (i+1) xs
theorem aif {N r c:Nat}{fY:List bg}{p:Nat->Rat}(aG:ll N fY p)(H:c<=N):∀(i:Nat) (l:List dy) (b8:eI),(∀(j:Nat) x,l[j]?=some x->ll N x.2.2 (b8 (i+j))) ->
  ((∀j,j<(D l)->i+j≠r->b8 (i+j) c≠0->∀k,k<=N->rW (b8 (i+j) c) (b8 (i+j) k) (p k)=true)->(j4 fY r c i l false).2=false) /\
  ((j4 fY r c i l false).2=false->∀(j:Nat) x,(j4 fY r c i l false).1[j]?=some x->ll N x.2.2 (λk=>if i+j=r then b8 (i+j) k else b8 (i+j) k-b8 (i+j) c*p k))
 |i,[],b8,h=>⟨λ_=>rfl,λ_ j x O=>by simp[j4] at O⟩
 |i,x::xs,b8,h=>by
  have ao:=h 0 x rfl;rw[n1] at ao
  obtain⟨aih,Re⟩:=aif aG H (i+1) xs b8 λj y aw=>by
   have:=h (j+1) y aw;rwa [show i+(j+1)=i+1+j by omega] at this
  have pg:=ao.cell H
  have aii:(∀j,j<(x::xs).length->i+j≠r->b8 (i+j) c≠0->∀k,k<=N->rW (b8 (i+j) c) (b8 (i+j) k) (p k)=true)->∀j,j<(D xs)->i+1+j≠r->b8 (i+1+j) c≠0->∀k,k<=N->rW (b8 (i+1+j) c) (b8 (i+1+j) k) (p k)=true:=by
   intro aR j ai;have:=aR (j+1) (by simpa using ai);rwa [show i+(j+1)=i+1+j by omega] at this
  unfold j4;rw[pg,Rb]
  by_cases aV:(i==r||decide (b8 i c=0))=true
  ·rw[ad aV];refine⟨λaR=>aih (aii aR),λag j y aw=>?_⟩
   cases j with
   |zero =>
    simp only[vl,ca] at aw;subst aw;rw[n1];refine ao.congr λk Q=>?_;simp only[yk,beq_iff_eq,decide_eq_true_eq] at aV
    split
    ·rfl
    ·rcases aV with aV|aV
     ·contradiction
     ·rw[aV];grind
   |succ j =>
    have:=Re ag j y (by simpa using aw);rwa [show i+(j+1)=i+1+j by omega]
  ·rw[ah aV];simp only[yk,beq_iff_eq,decide_eq_true_eq,not_or] at aV;obtain⟨cF,cp⟩:=awE (ao.2 c H) ao aG
   constructor
   ·intro aR;have af:=cF (aR 0 (by simp) (by simpa using aV.1) (by simpa using aV.2));dsimp only;rw[af];exact aih (aii aR)
   ·intro ag j y aw;dsimp only at ag aw;rcases nz:(jq (av (b8 i c)) x.2.2 fY false).2
    ·rw[nz] at ag aw
     cases j with
     |zero =>
      simp only[vl,ca] at aw;subst aw;rw[n1];exact (cp nz).congr λk Q=>by rw[ah aV.1]
     |succ j =>
      have:=Re ag j y (by simpa using aw);rwa [show i+(j+1)=i+1+j by omega]
    ·rw[nz,Rc] at ag
     cases ag
theorem awF {N:Nat}{l:List bg}{q:Nat->Rat}{b:Rat}(h:ll N l q)(ag:dv b)(ao:b≠0):
  ((hW (av b) l).2=false↔∀k,k<=N->xn (q k) b=true)/\((hW (av b) l).2=false->ll N (hW (av b) l).1 (λk=>q k/b)):=by
 have az:(hW (av b) l).2=false↔∀k,k<=N->xn (q k) b=true:=by
  unfold hW;rw[h.1];simp only[vX,dT,gX]
  constructor
  ·intro aR k Q;have:=aR (av (q k)) ⟨q k,⟨k,by omega,rfl⟩,rfl⟩
   rw[P7 (h.2 k Q) ag ao] at this;rcases aa:xn (q k) b
   ·rw[aa] at this;exact absurd rfl this
   ·rfl
  ·rintro aR _ ⟨_,⟨k,Q,rfl⟩,rfl⟩;rw[P7 (h.2 k (by omega)) ag ao,aR k (by omega)];simp[Ao]
 refine⟨az,λaR=>?_⟩;have cW:=az.1 aR;refine ll.ZB (by unfold hW;rw[aj,h.len]) λk Q=>⟨?_,atD (cW k Q)⟩;unfold hW;rw[bn,h.get Q,k5,P7 (h.2 k Q) ag ao,cW k Q]
 rfl
theorem xE.row {N:Nat}{rows:List dy}{aM:eI}(h:xE N rows aM){i:Nat}(M:i<N):∃x,rows[i]?=some x/\rowAt rows i=x/\ll N x.2.2 (aM i):=by
 obtain⟨x,O⟩:∃x,rows[i]?=some x:=⟨_,bz (by have:=h.1;omega)⟩;exact⟨x,O,xw O,h.2 i x O⟩
theorem xE.swap {N:Nat}{rows:List dy}{aM:eI}(h:xE N rows aM){r s:Nat}(ab:r<N)(U:s<N):xE N (qV rows r s) (hq aM r s):=by
 obtain⟨x,O,ex,ov⟩:=h.row ab;obtain⟨y,aw,Tk,awG⟩:=h.row U;unfold qV;rw[ex,Tk];refine⟨by rw[hn,hn];exact h.1,λi z aV=>?_⟩
 rw[nE,nE,hn] at aV;unfold hq
 by_cases F:s=i
 ·rw[ad F,ad (by have:=h.1;omega)] at aV
  cases aV;rw[ad F.symm];exact ov
 ·rw[ah F] at aV;rw[ah (Ne.symm F)]
  by_cases I:r=i
  ·rw[ad I,ad (by have:=h.1;omega)] at aV
   cases aV;rw[ad I.symm];exact awG
  ·rw[ah I] at aV;rw[ah (Ne.symm I)];exact h.2 i z aV
def aij (N:Nat)(S:eI)(r c:Nat):Prop:=(∀k,k<=N->xn (S r k) (S r c)=true)/\∀i,i<N->i≠r->S i c≠0->∀k,k<=N->rW (S i c) (S i k) (S r k/S r c)=true
theorem aik {N:Nat}{rows:List dy}{aM:eI}(h:xE N rows aM){r c:Nat}(ab:r<N)(H:c<N):
  ((iK rows r c).1=true/\(iK rows r c).2.1=rows/\(iK rows r c).2.2=false/\∀i,r<=i->i<N->aM i c=0) \/
  ((iK rows r c).1=false/\∃s,r<=s/\s<N/\aM s c≠0/\((iK rows r c).2.2=false->xE N (iK rows r c).2.1 (o4 aM r c s))/\(aij N (hq aM r s) r c->(iK rows r c).2.2=false)):=by
 have ar:=h.1;have jQ:=ahu rows r c (by omega)
 have mX:∀i x,r<=i->i<findAt rows r c->rows[i]?=some x->nF (cellOf x c)=true:=by
  intro i x rl n0 O;unfold findAt at n0;have aA:i-r<(rows.drop r).findIdx λx => !nF (cellOf x c):=by omega
  have:=List.not_of_lt_findIdx aA
  have bc:(rows.drop r)[i-r]'(Nat.lt_of_lt_of_le aA ahv)=x:=by
   rw[LV];have:=(dD.1 O)
   obtain⟨F,I⟩:=this;simp only[show r+(i-r)=i by omega]
   exact I
  rw[bc] at this
  simpa using this
 unfold iK
 by_cases aH:findAt rows r c=D rows
 ·left
  rw[ad aH];refine⟨rfl,rfl,rfl,λi rl n0=>?_⟩;obtain⟨x,O,-,ov⟩:=h.row n0;have:=mX i x rl (by omega) O;rw[ov.cell (by omega),Rb] at this
  simpa using this
 ·right
  rw[ah aH];refine⟨rfl,findAt rows r c,jQ.1,by omega,?_,?_⟩
  ·obtain⟨x,O,-,ov⟩:=h.row (i:=findAt rows r c) (by omega);have aA:findAt rows r c-r<(rows.drop r).length:=by rw[rB];omega
   have I:(rows.drop r).findIdx (λx => !nF (cellOf x c))<(rows.drop r).length:=by
    unfold findAt at aA;omega
   have af:=ail (w:=I)
   have bc:(rows.drop r)[(rows.drop r).findIdx λx => !nF (cellOf x c)]=x:=by
    rw[LV];exact (dD.1 O).2
   rw[bc,ov.cell (by omega),Rb] at af
   simpa using af
  ·have U:findAt rows r c<N:=by omega
   have AF:=h.swap ab U
   have bE:hq aM r (findAt rows r c) r c≠0:=by
    rw[QS];obtain⟨x,O,-,ov⟩:=h.row U
    have I:(rows.drop r).findIdx (λx => !nF (cellOf x c))<(rows.drop r).length:=by
     rw[rB];unfold findAt at U;omega
    have af:=ail (w:=I)
    have bc:(rows.drop r)[(rows.drop r).findIdx λx => !nF (cellOf x c)]=x:=by
     rw[LV];exact (dD.1 O).2
    rw[bc,ov.cell (by omega),Rb] at af
    simpa using af
   have QF:o4 aM r c (findAt rows r c)=λi k=>if i=r then hq aM r (findAt rows r c) r k/hq aM r (findAt rows r c) r c else hq aM r (findAt rows r c) i k-hq aM r (findAt rows r c) i c*(hq aM r (findAt rows r c) r k/hq aM r (findAt rows r c) r c):=rfl;rw[QF];generalize qV rows r (findAt rows r c)=h7 at *;generalize hq aM r (findAt rows r c)=S at *;obtain⟨x,O,ex,ov⟩:=AF.row ab;rw[ex,ov.cell (by omega)];obtain⟨d1,d2⟩:=awF ov (ov.2 c (by omega)) bE
   have Ab:EF h7 r c=h7.set r (x.1,x.2.1,(hW (av (S r c)) x.2.2).1):=by
    unfold EF;rw[ex,ov.cell (by omega)]
   rw[Ab]
   have ZD:ll N (hW (av (S r c)) x.2.2).1 (λk=>S r k/S r c)->∀(j:Nat) y,(h7.set r (x.1,x.2.1,(hW (av (S r c)) x.2.2).1))[j]?=some y->ll N y.2.2 ((λi=>if i=r then λk=>S r k/S r c else S i) (0+j)):=by
    intro aa j y aw;rw[jv];rw[nE] at aw
    by_cases ai:r=j
    ·rw[ad ai,ad (by have:=AF.1;omega)] at aw
     cases aw
     dsimp only;rw[ad ai.symm];exact aa
    ·rw[ah ai] at aw;dsimp only;rw[ah (Ne.symm ai)];exact AF.2 j y aw
   dsimp only;rcases w8:(hW (av (S r c)) x.2.2).2
   ·have aa:=d2 w8;obtain⟨eX,eg⟩:=aif (r:=r) (c:=c) aa (by omega) 0 (h7.set r (x.1,x.2.1,(hW (av (S r c)) x.2.2).1)) (λi=>if i=r then λk=>S r k/S r c else S i) (ZD aa)
    constructor
    ·intro ag;refine⟨?_,λi z aV=>?_⟩
     ·have:=congrArg D (QN (hW (av (S r c)) x.2.2).1 r c 0 (h7.set r (x.1,x.2.1,(hW (av (S r c)) x.2.2).1)) false);rw[aj,aj,hn] at this;rw[this];exact AF.1
     ·have:=eg ag i z aV;rw[jv] at this;refine this.congr λk Q=>?_
      by_cases p8:i=r
      ·simp only[ad p8]
      ·simp only[ah p8]
    ·intro cW;refine eX λj ai Ms bE k Q=>?_;rw[jv] at *;simp only[ah Ms] at bE ⊢;rw[hn,AF.1] at ai;exact cW.2 j ai Ms bE k Q
   ·constructor
    ·intro ag;rw[Rc] at ag
     cases ag
    ·intro cW;rw[d1.2 cW.1] at w8
     cases w8
structure H9 (N:Nat) (aM we:eI) (rows:List dy) (p c:Nat) (bI:Nat->Nat):Prop where
 enc:xE N rows we
 red:qY N we p c bI
 Ia:∀y,hX N we y↔hX N aM y
theorem awH (stop:Bool)(N:Nat)(aim:eI):∀k c rows free aM p bI,c+k=N->H9 N aim aM rows p c bI->p+D free=c->(stop=true->free=[]/\∀j,j<p->bI j=j) ->
  ∀xG rX,ma stop k c rows free false=(xG,rX,false) ->
  ∃we pn c' uE,H9 N aim we xG pn c' uE/\(stop=false->c'=N/\pn+D rX=N) /\
   (stop=true->(rX=[]/\c'=N/\pn=N/\∀j,j<N->uE j=j)\/(∃f,rX=[f]/\f<N/\pn=f/\c'=f/\(∀j,j<f->uE j=j)/\∀i,f<=i->i<N->we i f=0)):=by
 intro k
 induction k with
 |zero =>
  intro c rows free aM p bI H he aG U xG rX O;simp only[ma,fD,and_true] at O;obtain⟨rfl,rfl⟩:=O;refine⟨aM,p,c,bI,he,λ_=>⟨by omega,by omega⟩,λh=>?_⟩
  obtain⟨F,I⟩:=U h;subst F;simp only[jy,n1] at aG;exact .inl ⟨rfl,by omega,by omega,λj ai=>I j (by omega)⟩
 |succ k ay =>
  intro c rows free aM p bI H he aG U xG rX O;have iH:c-D free=p:=by omega
  unfold ma at O;rw[iH] at O;rcases aik he.enc (r:=p) (c:=c) (by omega) (by omega) with ⟨F,I,af,aO⟩|⟨F,s,hA,ko,s8,aO,br⟩
  ·rw[F,I,af,ad rfl] at O
   cases stop with
   |true =>
    rw[ad rfl] at O;simp only[fD,and_true] at O;obtain⟨rfl,rfl⟩:=O;obtain⟨cF,cp⟩:=U rfl;subst cF;simp only[jy,n1] at aG;subst aG;exact⟨aM,p,p,bI,he,by simp,λ_ => .inr ⟨p,rfl,by omega,rfl,rfl,cp,aO⟩⟩
   |false =>
    rw[ah (by simp)] at O;exact ay (c+1) rows (free++[c]) aM p bI (by omega) ⟨he.enc,he.red.free aO,he.Ia⟩ (by simp;omega) (by simp) xG rX O
  ·rw[F,ah (by simp)] at O;rcases ag:(iK rows p c).2.2
   ·rw[ag] at O;have ZE:=aO ag;refine ay (c+1) _ free (o4 aM p c s) (p+1) (λj=>if j=p then c else bI j) (by omega) ⟨ZE,he.red.piv (by omega) hA ko s8,λy=>(Y7 (by omega) ko s8).trans (he.Ia y)⟩ (by omega) (λh=>?_) xG rX O;obtain⟨cF,cp⟩:=U h;refine⟨cF,λj ai=>?_⟩;subst cF;simp only[jy,n1] at aG;show (if j=p then c else bI j)=j
    split
    ·omega
    ·exact cp j (by omega)
   ·rw[ag,ahr] at O
    cases O
def q0 (rs:List e0):eI:=λi k=>if k<(D rs) then Cj ((rs.getD i ([],fv)).1.getD k fv) else Cj (rs.getD i ([],fv)).2
theorem ain {f:bg}(h:ek f=true):f=av (Cj f)/\dv (Cj f):=by
 obtain⟨x,O,rfl⟩:=(Lu _).1 h;rw[En];exact⟨rfl,O⟩
theorem awI {rs:List e0}{n:Int}(h:oo rs n=true):(D rs:Int)=n/\D rs<=40/\∀r∈rs,r.1.length=D rs/\ek r.2=true/\∀f∈r.1,ek f=true:=by
 unfold oo at h;simp only[eM,rO,decide_eq_false_iff_not,beq_iff_eq] at h;obtain⟨F,I,af,aO⟩:=h;refine⟨af,by omega,λr ab=>?_⟩
 rw[vX] at aO;have:=aO r ab;unfold oZ Hn at this;simp only[rO,Bool.not_eq_true,Bool.not_eq_false',eM,beq_iff_eq,vX,Bool.not_eq_false] at this;obtain⟨gF,eV,qd⟩:=this;exact⟨by omega,eV,λf aH=>by simpa using qd f aH⟩
theorem aio {rs:List e0}{i:Nat}{r:e0}(h:rs[i]?=some r):rs.getD i ([],fv)=r:=by
 rw[ep,h];rfl
theorem aip {rs:List e0}{n:Int}(h:oo rs n=true):xE (D rs) (hC rs) (q0 rs):=by
 obtain⟨aK,aLl,ZD⟩:=awI h;refine⟨EK rs,λi x O=>?_⟩
 have M:i<D rs:=by
  have:=(dD.1 O).1;rwa [EK] at this
 obtain⟨r,ab⟩:∃r,rs[i]?=some r:=⟨_,bz M⟩;rw[ahm ab] at O
 cases O;obtain⟨az,aD,bZ⟩:=ZD r (ei ab);refine ll.ZB (by simp[az]) λk Q=>?_;unfold q0;rw[aio ab]
 by_cases gz:k<D rs
 ·rw[ad gz];obtain⟨f,aH⟩:∃f,r.1[k]?=some f:=⟨_,bz (by omega)⟩;obtain⟨gF,eV⟩:=ain (bZ f (ei aH));rw[qv (by omega),aH,ep,aH];exact⟨congrArg some gF,eV⟩
 ·rw[ah gz];obtain⟨gF,eV⟩:=ain aD;rw[rm (by omega),az,show k-D rs=0 by omega]
  exact⟨congrArg some gF,eV⟩
theorem awJ (stop:Bool){rs:List e0}{n:Int}(h:oo rs n=true){xG:List dy}{rX:List Nat}(O:qW stop rs=(xG,rX,false)):
  ∃we pn c' uE,H9 (D rs) (q0 rs) we xG pn c' uE/\(stop=false->c'=D rs/\pn+D rX=D rs) /\
   (stop=true->(rX=[]/\c'=D rs/\pn=D rs/\∀j,j<(D rs)->uE j=j)\/(∃f,rX=[f]/\f<D rs/\pn=f/\c'=f/\(∀j,j<f->uE j=j)/\∀i,f<=i->i<(D rs)->we i f=0)) :=
 awH stop (D rs) (q0 rs) (D rs) 0 (hC rs) [] (q0 rs) 0 (λj=>j) (by omega) ⟨aip h,QT _ _ _,λ_=>Iff.rfl⟩ rfl (λ_=>⟨rfl,λj ai=>by omega⟩) xG rX O
def Mt (N:Nat)(q:Nat->Rat)(b:Nat):Prop:=∃(v:Nat->Int) (d:Int),d≠0/\d.natAbs<=2^b/\∀k,k<=N->q k*(d:Rat)=(v k:Rat)/\(v k).natAbs<=2^b
theorem Mt.mono {N a b:Nat}{q:Nat->Rat}(h:Mt N q a)(Av:a<=b):Mt N q b:=by
 obtain⟨v,d,F,I,af⟩:=h;have aG:2^a<=2^b:=xe (by omega) Av;exact⟨v,d,F,eU I aG,λk Q=>⟨(af k Q).1,eU (af k Q).2 aG⟩⟩
theorem awK {q:Rat}{v d:Int}(aa:d≠0)(h:q*(d:Rat)=(v:Rat)):q.num*d=v*q.den:=by
 have ns:(d:Rat)≠0:=by rw[Ne,aiq];exact aa
 have e:q=l4 v d:=by rw[Mu];grind
 have aD:l4 q.num q.den=l4 v d:=by rw[Rat.num_divInt_den];exact e
 exact (Rat.divInt_eq_divInt_iff (xo q) aa).1 aD
theorem CN {q:Rat}{v d:Int}(aa:d≠0)(h:q*(d:Rat)=(v:Rat)):q.num.natAbs<=v.natAbs/\q.den<=d.natAbs:=by
 have H:=awK aa h
 have lS:q.num.natAbs*d.natAbs=v.natAbs*q.den:=by
  have:=congrArg Int.natAbs H;rwa [qM,qM,mQ] at this
 have Bo:q.den∣d.natAbs:=(Nat.Coprime.symm q.reduced).dvd_of_dvd_mul_left ⟨v.natAbs,by rw[lS,rC]⟩
 have Wi:0<d.natAbs:=by omega
 have I:=Nat.le_of_dvd Wi Bo;refine⟨?_,I⟩;obtain⟨m,hm⟩:=Bo;rw[hm] at lS;have Wk:=q.den_pos
 have af:q.num.natAbs*m=v.natAbs:=by
  have:q.den*(q.num.natAbs*m)=q.den*v.natAbs:=by rw[rC q.den v.natAbs,<-lS];rw[ah9]
  exact Nat.eq_of_mul_eq_mul_left Wk this
 have kH:0<m:=by
  rcases k4 m with ao|ao
  ·rw[ao,Nat.mul_zero] at hm;omega
  ·exact ao
 rw[<-af];exact Kc _ kH
def dU (b:Nat)(q:Rat):Prop:=q.num.natAbs<=2^b/\q.den<=2^b
theorem Mt.sz {N b:Nat}{q:Nat->Rat}(h:Mt N q b){k:Nat}(Q:k<=N):dU b (q k):=by
 obtain⟨v,d,F,I,af⟩:=h;obtain⟨az,aD⟩:=af k Q;obtain⟨f1,f2⟩:=CN F az;exact⟨eU f1 aD,eU f2 I⟩
theorem awL (a b c:Nat)(h:a=2^b):a^c=2^(b*c):=by rw[h,<-Nat.pow_mul]
theorem air:∃B:Nat,B=1200/\ee=2^B:=⟨20*60,rfl,awL 1048576 20 60 (by decide)⟩
theorem CO {z:Int}{b:Nat}(h:z.natAbs<=2^b)(ag:b<1200):iJ z=true:=by
 obtain⟨B,fW,gw⟩:=air;unfold iJ;rw[gw,decide_eq_true_eq];exact Nat.lt_of_le_of_lt h (Nat.pow_lt_pow_right (by omega) (by omega))
theorem s9 {x y:Int}{a b:Nat}(O:x.natAbs<=2^a)(aw:y.natAbs<=2^b):(x*y).natAbs<=2^(a+b):=by
 rw[qM,wc];exact o5 O aw
theorem ais {x y:Int}{a:Nat}(O:x.natAbs<=2^a)(aw:y.natAbs<=2^a):(x+y).natAbs<=2^(a+1):=by
 have:=Int.natAbs_add_le x y;rw[wW];omega
theorem dU.mono {a b:Nat}{q:Rat}(h:dU a q)(Av:a<=b):dU b q:=by
 have aG:2^a<=2^b:=xe (by omega) Av;exact⟨eU h.1 aG,eU h.2 aG⟩
theorem ZF {x y:Rat}{a b:Nat}(O:dU a x)(aw:dU b y)(h:a+b<1200):Ap x y=true:=by
 unfold Ap;rw[eM];exact⟨CO (s9 O.1 aw.1) h,CO (s9 (x:=(x.den:Int)) (y:=(y.den:Int)) (by simpa using O.2) (by simpa using aw.2)) h⟩
theorem ait {x y:Rat}{a b:Nat}(O:dU a x)(aw:dU b y)(h:a+b<1200):xn x y=true:=by
 unfold xn;rw[eM];exact⟨CO (s9 (y:=(y.den:Int)) O.1 (by simpa using aw.2)) h,CO (s9 (x:=(x.den:Int)) (by simpa using O.2) aw.1) h⟩
theorem y4 {x y:Rat}{a b:Nat}(O:dU a x)(aw:dU b y)(h:a+b+1<1200):mR x y=true:=by
 unfold mR;have F:=s9 (y:=(y.den:Int)) O.1 (by simpa using aw.2);have I:=s9 (y:=(x.den:Int)) aw.1 (by simpa using O.2);rw[zp b a] at I;simp only[eM];exact⟨CO F (by omega),CO I (by omega),CO (ais F I) h,CO (s9 (x:=(x.den:Int)) (y:=(y.den:Int)) (by simpa using O.2) (by simpa using aw.2)) (by omega)⟩
theorem Ib {b:Nat}{q:Rat}(h:dU b q):dU b (-q):=⟨by rw[aiu,Int.natAbs_neg];exact h.1,h.2⟩
theorem ZG {p q:Int}{b:Nat}(F:p.natAbs<=2^b)(I:q.natAbs<=2^b)(aL:q≠0):dU b (l4 p q):=by
 have aLm:(q:Rat)≠0:=by rw[Ne,aiq];exact aL
 have:=CN (q:=l4 p q) (v:=p) aL (by rw[Mu];grind);exact⟨eU this.1 F,eU this.2 I⟩
theorem Mv {x y:Rat}{a b:Nat}(O:dU a x)(aw:dU b y):dU (a+b) (x*y):=by
 rw[<-WY];exact ZG (s9 O.1 aw.1) (s9 (x:=(x.den:Int)) (y:=(y.den:Int)) (by simpa using O.2) (by simpa using aw.2)) (Aq (xo x) (xo y))
theorem Mw {x y:Rat}{a b:Nat}(O:dU a x)(aw:dU b y):dU (a+b+1) (x+y):=by
 rw[<-WX];have F:=s9 (y:=(y.den:Int)) O.1 (by simpa using aw.2);have I:=s9 (y:=(x.den:Int)) aw.1 (by simpa using O.2);rw[zp b a] at I;have af:=s9 (x:=(x.den:Int)) (y:=(y.den:Int)) (a:=a) (b:=b) (by simpa using O.2) (by simpa using aw.2);exact ZG (ais F I) (eU af (xe (by omega) (by omega))) (Aq (xo x) (xo y))
theorem aiv {x y:Rat}{a b:Nat}(O:dU a x)(aw:dU b y)(ao:y≠0):dU (a+b) (x/y):=by
 rw[<-WZ];have aK:y.num≠0:=λh=>ao (aib.1 h);exact ZG (s9 (y:=(y.den:Int)) O.1 (by simpa using aw.2)) (s9 (x:=(x.den:Int)) (by simpa using O.2) aw.1) (Aq (xo x) aK)
def uF (A:eI)(σ:Nat->Nat)(k:Nat):fZ:=λi=>A (σ i) k
def qe:Nat->List Nat
 |0=>[]
 |p+1=>p::qe p
theorem CP {k:Nat}:∀{p:Nat},k∈qe p↔k<p
 |0=>by simp[qe]
 |p+1=>by
  simp only[qe,hH,CP (p:=p)];omega
theorem aiw {l:Nat}:∀{p:Nat},l<p->∃c6 gi,qe p=c6++l::gi/\∀m,m∈c6++gi↔m<p/\m≠l
 |0,h=>by omega
 |p+1,h=>by
  by_cases ar:l=p
  ·subst ar;refine⟨[],qe l,rfl,λm=>?_⟩;rw[jm,CP];omega
  ·obtain⟨c6,gi,F,I⟩:=aiw (l:=l) (p:=p) (by omega);refine⟨p::c6,gi,by simp[qe,F],λm=>?_⟩
   rw[jT,hH,I];omega
def rY (A:eI)(σ:Nat->Nat)(p:Nat):List fZ:=(qe p).map (uF A σ)
theorem Rf {n:Nat}{c c':fZ}(c6 gi:List fZ)(h:∀i,i<n->c i=c' i):gO n (c6++c::gi)=gO n (c6++c'::gi):=by
 have:=ah2 (n:=n) (c6.map (λx=>(x,x))++(c,c')::gi.map (λx=>(x,x))) Cl Prod.snd (λa aN i M=>by
  simp only[jk,hH,dT] at aN;rcases aN with ⟨x,_,rfl⟩|rfl|⟨x,_,rfl⟩
  ·rfl
  ·exact h i M
  ·rfl)
 simpa [Function.comp_def] using this
theorem aix {A:eI}{σ τ:Nat->Nat}{p:Nat}(h:∀i,i<p->σ i=τ i):gO p (rY A σ p)=gO p (rY A τ p) :=
 ah2 _ _ _ λa _ i M=>by unfold uF;rw[h i M]
def Mx (N:Nat)(A aM:eI)(σ:Nat->Nat)(p:Nat):Prop:=∀i,i<N->∀k,p<=k->k<=N->A (σ i) k=(if i<p then 0 else aM i k)+bJ p λl=>A (σ i) l*aM l k
def lK (N:Nat)(A aM:eI)(p:Nat):Prop:=∃σ:Nat->Nat,(∀i,i<N->σ i<N)/\(∀i j,i<N->j<N->σ i=σ j->i=j)/\Mx N A aM σ p/\gO p (rY A σ p)≠0
theorem lK.start (N:Nat)(A:eI):lK N A A 0:=by
 refine⟨λi=>i,λi h=>h,λi j _ _ h=>h,λi M k _ Q=>?_,?_⟩
 ·rw[ah (by omega)];show A i k=A i k+0;grind
 ·show (1:Rat)≠0;decide
theorem awM {p:Nat}(a x y:Nat->Rat)(t:Rat):bJ p (λl=>a l*(x l-y l*t))=bJ p (λl=>a l*x l)-t*bJ p λl=>a l*y l:=by
 have:(λl=>a l*(x l-y l*t))=λl=>a l*x l+(-t)*(a l*y l):=by funext l;grind
 rw[this,v7,AM];grind
theorem lK.step {N p s:Nat}{A aM:eI}(h:lK N A aM p)(aG:p<N)(U:p<=s)(AO:s<N)(bE:aM s p≠0):lK N A (o4 aM p p s) (p+1):=by
 obtain⟨σ,hσ,Ic,ab,aa⟩:=h
 let π:Nat->Nat:=λi=>if i=s then p else if i=p then s else i
 have hπ:∀i,hq aM p s i=aM (π i):=by
  intro i;show (if i=s then aM p else if i=p then aM s else aM i)=aM (if i=s then p else if i=p then s else i)
  split
  ·rfl
  ·split<;>rfl
 have hπN:∀i,i<N->π i<N:=λi M=>by show (if i=s then p else if i=p then s else i)<N;split<;>(try split)<;>omega
 have hπp:∀i,i<p->π i=i:=λi M=>by show (if i=s then p else if i=p then s else i)=i;rw[ah (by omega),ah (by omega)]
 have hπq:∀i,p<=i->p<=π i:=λi M=>by show p<=(if i=s then p else if i=p then s else i);split<;>(try split)<;>omega
 have hπj:∀i j,π i=π j->i=j:=λi j=>by
  show (if i=s then p else if i=p then s else i)=(if j=s then p else if j=p then s else j)->i=j
  (repeat' split)<;>omega
 have aiy:∀i j,i<N->j<N->σ (π i)=σ (π j)->i=j:=λi j M ai h=>hπj i j (Ic _ _ (hπN i M) (hπN j ai) h)
 have cQ:Mx N A (hq aM p s) (λi=>σ (π i)) p:=by
  intro i M k jG gz;have:=ab (π i) (hπN i M) k jG gz;rw[this]
  congr 1
  ·by_cases nh:i<p
   ·rw[ad nh,ad (by rw[hπp i nh];exact nh)]
   ·rw[ah nh,ah (by have:=hπq i (by omega);omega),hπ]
  ·refine kr λl ar=>?_;rw[hπ l,hπp l ar]
 have awN:hq aM p s p p≠0:=by rw[QS];exact bE
 generalize awO:hq aM p s=S at *
 have aL:o4 aM p p s=λi k=>if i=p then S p k/S p p else S i k-S i p*(S p k/S p p):=by
  funext i k;unfold o4;rw[awO]
 rw[aL]
 have ns:gO p (rY A (λi=>σ (π i)) p)≠0:=by
  rw[aix (τ:=σ) λi M=>by show σ (π i)=σ i;rw[hπp i M]]
  exact aa
 have hσ2:∀i,i<N->σ (π i)<N:=λi M=>hσ _ (hπN i M)
 change ∀i,i<N->(λi=>σ (π i)) i<N at hσ2
 change ∀i j,i<N->j<N->(λi=>σ (π i)) i=(λi=>σ (π i)) j->i=j at aiy
 generalize hτ:(λi=>σ (π i))=τ at *;refine⟨τ,hσ2,aiy,λi M k jG gz=>?_,?_⟩
 ·have az:=cQ i M k (by omega) gz;have aD:=cQ i M p (by omega) (by omega);simp only[bJ,if_true];rw[kr (g:=λl=>A (τ i) l*(S l k-S l p*(S p k/S p p))) λl ar=>by rw[ah (by omega)],awM]
  generalize bJ p (λl=>A (τ i) l*S l k)=c6 at *;generalize bJ p (λl=>A (τ i) l*S l p)=gi at *
  by_cases F:i<p
  ·rw[ad F] at az aD;rw[ad (by omega)];grind
  ·rw[ah F] at az aD
   by_cases I:i=p
   ·subst I;rw[ad (by omega)];grind
   ·rw[ah (by omega),ah I];grind
 ·have H:gO (p+1) (rY A τ (p+1))=S p p*gO p (rY A τ p):=by
   show gO (p+1) ([]++uF A τ p::rY A τ p)=_
   rw[Rf (c':=CM (λi=>if i<p then 0 else S i p) (λi=>bJ p λl=>S l p*uF A τ l i) 1) [] _ λi M=>by
    have:=cQ i (by omega) p (by omega) (by omega);show A (τ i) p=(if i<p then 0 else S i p)+1*bJ p λl=>S l p*A (τ i) l;rw[this,Ra]
    congr 1
    exact kr λl _=>uG _ _]
   rw[ES,Mp,s0 λl ar=>by
    rw[Zu (by rw[jm];exact ta (CP.2 ar))];exact nH _]
   rw[jm,ah1 λi M=>ad M,ah (by omega)];grind
  rw[H];intro ao;rcases ZH.1 ao with ao|ao
  ·exact awN ao
  ·exact ns ao
theorem awP {N p l k:Nat}{A aM:eI}{σ:Nat->Nat}(ab:Mx N A aM σ p)(aG:p<=N)(ar:l<p)(jG:p<=k)(gz:k<=N):∃c6 gi:List Nat,qe p=c6++l::gi/\(∀m∈c6++gi,m<p)/\aM l k*gO p (rY A σ p)=gO p ((c6++k::gi).map (uF A σ)):=by
 obtain⟨c6,gi,nA,hm⟩:=aiw ar;refine⟨c6,gi,nA,λm ac8=>((hm m).1 ac8).1,?_⟩
 ·rw[jD,eA]
  rw[Rf (c':=λi=>bJ p λm=>aM m k*uF A σ m i) _ _ λi M=>by
   have:=ab i (by omega) k jG gz;rw[ad M] at this;show A (σ i) k=bJ p λm=>aM m k*A (σ i) m;rw[this,wg];exact kr λl _=>uG _ _]
  rw[Mp,y1 ar λm awQ mD=>by
   rw[Zu (by rw[<-jD];exact ta ((hm m).2 ⟨awQ,mD⟩))];exact nH _]
  unfold rY;rw[nA,jD,eA]
theorem awR {N p i k:Nat}{A aM:eI}{σ:Nat->Nat}(ab:Mx N A aM σ p)(rl:p<=i)(n0:i<N)(jG:p<=k)(gz:k<=N):aM i k*gO p (rY A σ p)=gO (p+1) ((k::qe p).map (uF A λj=>if j=p then σ i else σ j)):=by
 have hτ:∀j,j<p->(λj=>if j=p then σ i else σ j) j=σ j:=λj ai=>ah (by omega);have hτp:(λj=>if j=p then σ i else σ j) p=σ i:=ad rfl;generalize (λj=>if j=p then σ i else σ j)=τ at *;show _=gO (p+1) ([]++uF A τ k::rY A τ p)
 rw[Rf (c':=CM (λj=>if j<p then 0 else aM i k) (λj=>bJ p λl=>aM l k*uF A τ l j) 1) [] _ λj ai=>by
  show A (τ j) k=(if j<p then 0 else aM i k)+1*bJ p λl=>aM l k*A (τ j) l;rw[Ra]
  by_cases HW:j<p
  ·have:=ab j (by omega) k jG gz;rw[ad HW] at this ⊢;rw[hτ j HW,this]
   congr 1
   exact kr λl _=>uG _ _
  ·obtain rfl:j=p:=by omega
   have:=ab i n0 k jG gz;rw[ah (by omega)] at this;rw[ah HW,hτp,this]
   congr 1
   exact kr λl _=>uG _ _]
 rw[ES,Mp,s0 λl ar=>by
  rw[Zu (by rw[jm];exact ta (CP.2 ar))];exact nH _]
 rw[jm,ah1 λi M=>ad M,ah (by omega),aix λj ai=>(hτ j ai).symm];grind
theorem awS (n:Nat)(c6 gi:List fZ)(x:fZ)(a:Rat):gO n (c6++(λi=>a*x i)::gi)=a*gO n (c6++x::gi):=by
 have:=Mp n c6 gi (λ_=>a) (λ_=>x) 1;simp only[bJ] at this;rw[wg] at this;rw[<-this];exact Rf c6 gi λi _=>(wg _).symm
theorem aiz (n:Nat)(b8:Nat->Rat)(C:Nat->fZ):∀(L:List Nat) (c6:List fZ),∃a:Rat,((∀k∈L,b8 k≠0)->a≠0)/\gO n (c6++L.map λk=>λi=>b8 k*C k i)=a*gO n (c6++L.map C)
 | [],c6=>⟨1,λ_=>by decide,by rw[Ra];rfl⟩
 |k::L,c6=>by
  obtain⟨a,F,I⟩:=aiz n b8 C L (c6++[C k]);refine⟨b8 k*a,λh=>?_,?_⟩
  ·intro ao;rcases ZH.1 ao with ao|ao
   ·exact h k gq ao
   ·exact F (λm hm=>h m (gZ _ hm)) ao
  ·simp only[eA,gW,jT,jm] at I ⊢;rw[awS,I,Rat.mul_assoc]
structure uH (N:Nat) (A:eI) (δ v:Nat):Prop where
 ex:∃(b8:Nat->Nat) (u w:Nat->Int),iM N b8<=2^δ/\(∀k,0<b8 k)/\(∀k,k<N->∃b:Nat->Nat,fi N b<=2*b8 k/\∀i,i<N->eS (b i) (b8 k*A i k))/\(∀k,k<N->(u k).natAbs<=2^v)/\∀i,i<N->(w i).natAbs<=2^v/\A i N=bJ N (λk=>A i k*(u k:Rat))+(w i:Rat)
def lL (e:Nat->Nat):List Nat->Nat
 | []=>1
 |m::l=>e m*lL e l
theorem aiA (e:Nat->Nat)(a b:List Nat):lL e (a++b)=lL e a*lL e b:=by
 induction a with
 |nil=>simp[lL]
 |cons p l ay=>simp only[jT,lL,ay,ET]
theorem awT {e f:Nat->Nat}{l:List Nat}(h:∀m∈l,e m=f m):lL e l=lL f l:=by
 induction l with
 |nil=>rfl
 |cons m l ay=>rw[lL,lL,ay λx O=>h x (gZ _ O),h m gq]
theorem aiB (b8:Nat->Nat):∀p,lL (λm=>2*b8 m) (qe p)=2^p*iM p b8
 |0=>rfl
 |p+1=>by
  rw[qe,lL,aiB b8 p,iM,wW];grind
theorem ZI {N n:Nat}{A:eI}{e:Nat->Nat}(ec:∀k,k<=N->∃b:Nat->Nat,fi N b<=e k/\∀i,i<N->eS (b i) (A i k)){τ:Nat->Nat}(F:∀i,i<n->τ i<N)(I:∀i j,i<n->j<n->τ i=τ j->i=j)(L:List Nat)(gw:∀m∈L,m<=N):eS (lL e L) (gO n (L.map (uF A τ))):=by
 have⟨B,fW⟩:∃B:Nat->Nat->Nat,∀k,k<=N->fi N (B k)<=e k/\∀i,i<N->eS (B k i) (A i k):=by
  refine⟨λk=>if h:k<=N then (ec k h).choose else λ_=>0,λk Q=>?_⟩;dsimp only;rw[dif_pos Q];exact (ec k Q).choose_spec
 have h:=aia n (L.map λk=>(uF A τ k,λi=>B k (τ i))) λp aG i M=>by
  obtain⟨m,hm,rfl⟩:=dT.1 aG;exact (fW m (gw m hm)).2 _ (F i M)
 rw[m6] at h;refine eS.mono h ?_;clear h
 induction L with
 |nil=>exact b1 _
 |cons m L ay =>
  rw[eA,ni,lL];exact o5 (eU (Zy (B m) F I) (fW m (gw m gq)).1) (ay λx O=>gw x (gZ _ O))
structure awU (N:Nat) (aM:eI) (δ v p:Nat) (b8:Nat->Nat) (u:Nat->Int) (d:Int):Prop where
 d0:d≠0
 pos:∀k,0<b8 k
 aiC:iM N b8<=2^δ
 aiD:∀k,k<N->(u k).natAbs<=2^v
 DI:d.natAbs<=2^p*iM p b8
 aiE:∀i,i<N->∀k,p<=k->k<N->eS (2^(p+1)*(iM p b8*b8 k)) (aM i k*(b8 k*d))
 val:∀i,i<N->eS (2^p*iM p b8*(N*2^v)) ((aM i N-(if i<p then (u i:Rat) else 0)-bJ N λk=>if p<=k then aM i k*(u k:Rat) else 0)*d)
theorem lK.aiF {N p δ v:Nat}{A aM:eI}(ec:uH N A δ v)(h:lK N A aM p)(aG:p<=N):∃b8 u d,awU N aM δ v p b8 u d:=by
 obtain⟨σ,hσ,Ic,ab,aa⟩:=h;obtain⟨b8,u,w,c0,dj,a3,a4,a5⟩:=ec
 have My:∀m,((b8 m:Nat):Rat)≠0:=λm=>by
  have:=dj m;rw[Ne,Rat.natCast_eq_zero_iff];omega
 -- the scaled matrix, with the whole numbers of the values
 have bH:Mx N (λi k=>if k<N then b8 k*A i k else (w i:Rat)) (λl k=>if k<N then (if l<p then b8 k*aM l k/b8 l else b8 k*aM l k) else (if l<p then (1:Rat)/b8 l else 1)*(aM l N-(if l<p then (u l:Rat) else 0)-bJ N λk=>if p<=k then aM l k*(u k:Rat) else 0)) σ p:=by
  intro i M k jG gz
  by_cases o2:k<N
  ·have:=ab i M k jG gz;dsimp only;rw[ad o2,ad o2,this,Rat.mul_add,<-AM]
   congr 1
   ·split<;>grind
   ·refine kr λl ar=>?_;rw[ad o2,ad (by omega),ad ar];have:=My l;grind
  ·obtain rfl:k=N:=by omega
   dsimp only;rw[ah o2,ah o2];have az:=ab i M k jG gz;have aD:=(a5 (σ i) (hσ i M)).2
   have bZ:(λm=>A (σ i) m*(u m:Rat))=λm=>(if m<p then A (σ i) m*(u m:Rat) else 0)+if p<=m then A (σ i) m*(u m:Rat) else 0:=by
    funext m
    by_cases hm:m<p
    ·rw[ad hm,ah (by omega),o3]
    ·rw[ah hm,ad (by omega),wg]
   have dr:bJ k (λm=>if p<=m then A (σ i) m*(u m:Rat) else 0)=bJ k λm=>(if p<=m then (if i<p then 0 else aM i m*(u m:Rat)) else 0)+bJ p λl=>A (σ i) l*(if p<=m then aM l m*(u m:Rat) else 0):=kr λm hm=>by
    by_cases oP:p<=m
    ·rw[ad oP,ad oP,ab i M m oP (by omega),Rat.add_mul]
     congr 1
     ·split<;>grind
     ·rw[uG,<-AM];refine kr λl _=>?_;rw[ad oP];grind
    ·rw[ah oP,ah oP,wg];exact (s0 λl _=>by rw[ah oP,nH]).symm
   rw[bZ,v7,dr,v7,av2] at aD
   have cm:bJ k (λm=>if m<p then A (σ i) m*(u m:Rat) else 0)=bJ p λl=>A (σ i) l*(u l:Rat):=by
    have:∀n,p<=n->bJ n (λm=>if m<p then A (σ i) m*(u m:Rat) else 0)=bJ p λl=>A (σ i) l*(u l:Rat):=by
     intro n
     induction n with
     |zero =>
          intro h;obtain rfl:p=0:=by omega
          rfl
     |succ n ay =>
      intro h
      by_cases CQ:p=n+1
      ·rw[CQ];exact kr λm hm=>ad hm
      ·rw[bJ,ay (by omega),ah (by omega),o3]
    exact this k aG
   rw[cm] at aD
   have bP:(bJ p λl=>(λi uI=>if uI<k then (b8 uI:Rat)*A i uI else (w i:Rat)) (σ i) l*((if l<p then (1:Rat)/b8 l else 1)*(aM l k-(if l<p then (u l:Rat) else 0)-bJ k λm=>if p<=m then aM l m*(u m:Rat) else 0)))=bJ p (λl=>A (σ i) l*aM l k)-bJ p (λl=>A (σ i) l*(u l:Rat))-bJ p λl=>bJ k λm=>A (σ i) l*(if p<=m then aM l m*(u m:Rat) else 0):=by
    have:∀f g h:Nat->Rat,bJ p (λl=>f l-g l-h l)=bJ p f-bJ p g-bJ p h:=λf g h=>by
     have e:(λl=>f l-g l-h l)=λl=>f l+((-1)*g l+(-1)*h l):=by funext l;grind
     rw[e,v7,v7,AM,AM];grind
    rw[<-this];refine kr λl ar=>?_;dsimp only;rw[ad (by omega),ad ar,ad ar,AM];have:=My l;grind
   have bL:(bJ p λl=>(λi uI=>if uI<k then (b8 uI:Rat)*A i uI else (w i:Rat)) (σ i) l*(λl uI=>if uI<k then (if l<p then (b8 uI:Rat)*aM l uI/b8 l else b8 uI*aM l uI) else (if l<p then (1:Rat)/b8 l else 1)*(aM l k-(if l<p then (u l:Rat) else 0)-bJ k λm=>if p<=m then aM l m*(u m:Rat) else 0)) l k)=bJ p (λl=>A (σ i) l*aM l k)-bJ p (λl=>A (σ i) l*(u l:Rat))-bJ p λl=>bJ k λm=>A (σ i) l*(if p<=m then aM l m*(u m:Rat) else 0):=by
    rw[<-bP];refine kr λl ar=>?_;dsimp only;rw[ah (by omega:¬ k<k)]
   dsimp only at bL;rw[bL]
   by_cases nh:i<p
   ·rw[ad nh] at az ⊢;have dN:bJ k (λm=>if p<=m then (if i<p then 0 else aM i m*(u m:Rat)) else 0)=0:=s0 λm _=>by rw[ad nh];split<;>rfl
    rw[dN] at aD;grind
   ·rw[ah nh] at az ⊢;have dN:bJ k (λm=>if p<=m then (if i<p then 0 else aM i m*(u m:Rat)) else 0)=bJ k λm=>if p<=m then aM i m*(u m:Rat) else 0:=kr λm _=>by rw[ah nh]
    rw[dN] at aD;rw[ah nh,ah nh];grind
 have mK:gO p (rY (λi k=>if k<N then b8 k*A i k else (w i:Rat)) σ p)≠0:=by
  obtain⟨a,F,I⟩:=aiz p (λk=>(b8 k:Rat)) (uF A σ) (qe p) []
  have Mz:rY (λi k=>if k<N then b8 k*A i k else (w i:Rat)) σ p=(qe p).map λk=>λi=>(b8 k:Rat)*uF A σ k i:=by
   unfold rY;refine mI λm hm=>?_;have:=CP.1 hm
   funext i
   show (if m<N then (b8 m:Rat)*A (σ i) m else (w (σ i):Rat))=_;rw[ad (by omega)];rfl
  rw[jm,jm] at I;rw[Mz,I];intro ao;rcases ZH.1 ao with ao|ao
  ·exact F (λm hm=>My m) ao
  ·exact aa ao
 have EU:∀k,k<=N->∃b:Nat->Nat,fi N b<=(if k<N then 2*b8 k else N*2^v)/\∀i,i<N->eS (b i) ((λi k=>if k<N then (b8 k:Rat)*A i k else (w i:Rat)) i k):=by
  intro k Q
  by_cases o2:k<N
  ·obtain⟨b,di,eK⟩:=a3 k o2;refine⟨b,by rw[ad o2];exact di,λi M=>?_⟩
   dsimp only;rw[ad o2];exact eK i M
  ·refine⟨λ_=>2^v,?_,λi M=>?_⟩
   ·rw[ah o2]
    have:∀n,fi n (λ_=>2^v)=n*2^v:=λn=>by
     induction n with
     |zero=>simp[fi]
     |succ n ay=>rw[fi,ay,ts]
    rw[this];exact b1 _
   ·dsimp only;rw[ah o2];exact eS.mono (eS.int _) (a5 i M).1
 generalize aLn:(λ(i k:Nat)=>if k<N then (b8 k:Rat)*A i k else (w i:Rat))=H7 at *;generalize ZJ:(λk=>if k<N then 2*b8 k else N*2^v)=e at *
 have ZK:∀k,k<=N->∃b:Nat->Nat,fi N b<=e k/\∀i,i<N->eS (b i) (H7 i k):=by
  intro k Q;rw[<-ZJ];exact EU k Q
 have ZL:∀m,m<N->e m=2*b8 m:=λm hm=>by rw[<-ZJ];exact ad hm
 have awV:e N=N*2^v:=by rw[<-ZJ];exact ah (by omega)
 have ZM:lL e (qe p)=2^p*iM p b8:=by
  rw[<-aiB];exact awT λm hm=>ZL m (by have:=CP.1 hm;omega)
 have hσp:∀i,i<p->σ i<N:=λi M=>hσ i (by omega);have nh:∀i j,i<p->j<p->σ i=σ j->i=j:=λi j M ai=>Ic i j (by omega) (by omega);have tx:=ZI ZK hσp nh (qe p) λm hm=>by have:=CP.1 hm;omega
 rw[ZM] at tx;obtain⟨d,Ac,w8⟩:=tx
 change gO p (rY H7 σ p)=(d:Rat) at Ac
 have BW:d≠0:=by
  intro ao;rw[Ac,ao] at mK;exact mK (by rfl)
 -- both kinds of rows
 have fV:∀l,l<p->∀k,p<=k->k<=N->∃m:Int,(λl k=>if k<N then (if l<p then (b8 k:Rat)*aM l k/b8 l else b8 k*aM l k) else (if l<p then (1:Rat)/b8 l else 1)*(aM l N-(if l<p then (u l:Rat) else 0)-bJ N λk=>if p<=k then aM l k*(u k:Rat) else 0)) l k*(d:Rat)=(m:Rat)/\b8 l*m.natAbs<=2^p*iM p b8*e k:=by
  intro l ar k jG gz;obtain⟨c6,gi,a2,bS,cP⟩:=awP bH aG ar jG gz
  have ag:=ZI ZK hσp nh (c6++k::gi) λm hm=>by
   have:m=k\/m∈c6++gi:=by
    simp only[jk,hH] at hm ⊢;rcases hm with h|h|h<;>simp[h]
   rcases this with h|h
   ·omega
   ·have:=bS m h;omega
  obtain⟨m,dA,cX⟩:=ag;rw[Ac,dA] at cP;refine⟨m,cP,?_⟩;have az:lL e (c6++k::gi)=lL e c6*(e k*lL e gi):=by rw[aiA,lL]
  have aD:lL e c6*(2*b8 l*lL e gi)=2^p*iM p b8:=by
   rw[<-ZM,a2,aiA,lL,ZL l (by omega)]
  rw[az] at cX;rw[<-aD];generalize lL e c6=x at *;generalize lL e gi=y at *;have cv:=o5 (b1 (b8 l)) cX;have cS:x*(2*b8 l*y)*e k=b8 l*(x*(e k*y))+b8 l*(x*(e k*y)):=by grind
  rw[cS];omega
 have jg:∀i,p<=i->i<N->∀k,p<=k->k<=N->∃m:Int,(λl k=>if k<N then (if l<p then (b8 k:Rat)*aM l k/b8 l else b8 k*aM l k) else (if l<p then (1:Rat)/b8 l else 1)*(aM l N-(if l<p then (u l:Rat) else 0)-bJ N λk=>if p<=k then aM l k*(u k:Rat) else 0)) i k*(d:Rat)=(m:Rat)/\m.natAbs<=2^p*iM p b8*e k:=by
  intro i rl n0 k jG gz;have aiG:=awR bH rl n0 jG gz
  have hτ:∀j,j<p+1->(λj=>if j=p then σ i else σ j) j<N:=λj ai=>by
   show (if j=p then σ i else σ j)<N
   split
   ·exact hσ i n0
   ·exact hσ j (by omega)
  have hτj:∀j k,j<p+1->k<p+1->(λj=>if j=p then σ i else σ j) j=(λj=>if j=p then σ i else σ j) k->j=k:=λj k ai Q=>by
   show (if j=p then σ i else σ j)=(if k=p then σ i else σ k)->j=k;intro h
   by_cases aI:j=p
   ·by_cases c2:k=p
    ·omega
    ·rw[ad aI,ah c2] at h;have:=Ic _ _ n0 (by omega) h;omega
   ·by_cases c2:k=p
    ·rw[ah aI,ad c2] at h;have:=Ic _ _ (by omega) n0 h;omega
    ·rw[ah aI,ah c2] at h;exact Ic _ _ (by omega) (by omega) h
  obtain⟨m,dA,cX⟩:=ZI ZK hτ hτj (k::qe p) λm hm=>by
   rcases hH.1 hm with h|h
   ·omega
   ·have:=CP.1 h;omega
  rw[Ac,dA] at aiG;refine⟨m,aiG,eU cX ?_⟩;rw[lL,ZM,rC];exact b1 _
 refine⟨b8,u,d,BW,dj,c0,a4,w8,λi M k jG gz=>?_,λi M=>?_⟩
 ·have W2:2^(p+1)*(iM p b8*b8 k)=2^p*iM p b8*e k:=by rw[ZL k gz,wW];grind
  rw[W2]
  by_cases aA:i<p
  ·obtain⟨m,dA,cX⟩:=fV i aA k jG (by omega);dsimp only at dA;rw[ad gz,ad aA] at dA;refine⟨b8 i*m,?_,by rw[qM,mQ];exact cX⟩
   rw[qc,<-dA,ou];have:=My i;grind
  ·obtain⟨m,dA,cX⟩:=jg i (by omega) M k jG (by omega);dsimp only at dA;rw[ad gz,ah aA] at dA;refine⟨m,?_,cX⟩;rw[<-dA];grind
 ·rw[<-awV]
  by_cases aA:i<p
  ·obtain⟨m,dA,cX⟩:=fV i aA N aG (b1 _);dsimp only at dA;rw[ah (by omega:¬ N<N),ad aA,ad aA] at dA;refine⟨b8 i*m,?_,by rw[qM,mQ];exact cX⟩
   rw[qc,<-dA,ou,ad aA];have:=My i;grind
  ·obtain⟨m,dA,cX⟩:=jg i (by omega) M N aG (b1 _);dsimp only at dA;rw[ah (by omega:¬ N<N),ah aA,ah aA] at dA;refine⟨m,?_,cX⟩;rw[<-dA,ah aA];grind
def Ie (N:Nat)(A:eI)(eW aP:Nat):Prop:=∀aM p,p<=N->lK N A aM p->∀i k,i<N->p<=k->k<=N->dU eW (aM i k)/\(k<N->dU aP (aM i k))
theorem uH.aiH {N δ v:Nat}{A:eI}(ec:uH N A δ v)(gD:N<=7):Ie N A (N+δ+v+4) (N+δ):=by
 intro aM p aG h i k M jG gz;obtain⟨b8,u,d,aK⟩:=h.aiF ec aG;obtain⟨cg,aLo,eX,eg⟩:=ah6 aK.pos aG;have EV:=aK.aiC;rw[eX] at EV
 have awW:∀k,p<=k->k<N->iM p b8*b8 k<=iM p b8*cg:=λk F I=>by
  obtain⟨m,hm⟩:=eg k F I;refine o5 (b1 _) ?_
  have:0<m:=by
   rcases k4 m with h|h
   ·rw[h] at hm;omega
   ·exact h
  rw[hm];exact Kc _ this
 have Hh:∀q,q<=N->∀x,x<=2^δ->2^q*x<=2^(N+δ):=λq aL x O=>by
  rw[wc];exact o5 (xe (by omega) aL) O
 have e8:∀k,p<=k->k<N->dU (N+δ) (aM i k):=λk jG gz=>by
  obtain⟨z,j0,lf⟩:=aK.aiE i M k jG gz;have aLp:=aK.pos k;obtain⟨f1,f2⟩:=CN (q:=aM i k) (v:=z) (d:=(b8 k:Int)*d) (Aq (by omega) aK.d0) (by rw[<-j0,qc,ou]);have hle:=eU (awW k jG gz) EV;refine⟨eU f1 (eU lf (Hh _ (by omega) _ hle)),eU f2 ?_⟩;rw[qM,mQ];refine eU (o5 (b1 _) aK.DI) (eU ?_ (Hh p aG _ hle));exact AJ (by grind)
 by_cases o2:k<N
 ·exact⟨(e8 k jG o2).mono (by omega),λ_=>e8 k jG o2⟩
 refine⟨?_,λh=>absurd h o2⟩;obtain rfl:k=N:=by omega
 have hQ:=aK.val i M;have fW:∀q,q<=k->2^q*(iM p b8*cg)<=2^(k+δ):=λq aL=>Hh q aL _ EV
 -- the three parts, times d and cg
 have km:eS (k*2^(k+δ+v)) ((aM i k-(if i<p then (u i:Rat) else 0)-bJ k λm=>if p<=m then aM i m*(u m:Rat) else 0)*d*(cg:Rat)):=by
  refine (hQ.mul (eS.nat (b1 cg))).mono ?_;have:=o5 (fW p aG) (b1 (k*2^v));refine eU (AJ ?_) (eU this (AJ ?_))
  ·grind
  ·rw[wc 2 (k+δ) v];grind
 have kI:eS (2^(k+δ+v)) ((if i<p then (u i:Rat) else 0)*d*(cg:Rat)):=by
  have hu:eS (2^v) (if i<p then (u i:Rat) else 0):=by
   split
   ·exact eS.mono (eS.int _) (aK.aiD i M)
   ·exact eS.zero
  refine ((hu.mul (eS.mono (eS.int d) aK.DI)).mul (eS.nat (b1 cg))).mono ?_;have:=o5 (fW p aG) (b1 (2^v));refine eU (AJ ?_) (eU this (AJ ?_))
  ·grind
  ·rw[wc 2 (k+δ) v]
 have uw:eS (k*2^(k+δ+v)) ((bJ k λm=>if p<=m then aM i m*(u m:Rat) else 0)*d*(cg:Rat)):=by
  have e:(bJ k λm=>if p<=m then aM i m*(u m:Rat) else 0)*(d:Rat)*(cg:Rat)=bJ k λm=>((d:Rat)*(cg:Rat))*(if p<=m then aM i m*(u m:Rat) else 0):=by
   rw[AM];grind
  rw[e];refine eS.sum k λm hm=>?_
  by_cases oP:p<=m
  ·rw[ad oP];obtain⟨y,aw⟩:=eg m oP hm
   have aD:(d:Rat)*(cg:Rat)*(aM i m*(u m:Rat))=(aM i m*((b8 m:Rat)*d))*(y:Rat)*(u m:Rat):=by
    rw[aw,Rat.natCast_mul];grind
   rw[aD];refine (((aK.aiE i M m oP hm).mul (eS.nat (b1 y))).mul (eS.mono (eS.int (u m)) (aK.aiD m hm))).mono ?_;have:=o5 (fW (p+1) (by omega)) (b1 (2^v));refine eU (AJ ?_) (eU this (AJ ?_))
   ·rw[aw];grind
   ·rw[wc 2 (k+δ) v]
  ·rw[ah oP,nH];exact eS.zero
 obtain⟨z,j0,lf⟩:=(km.add kI).add uw
 have e:aM i k*((d*(cg:Int):Int):Rat)=(z:Rat):=by
  rw[<-j0,qc,ou];grind
 obtain⟨f1,f2⟩:=CN (Aq aK.d0 (by omega)) e;refine⟨eU f1 (eU lf ?_),eU f2 ?_⟩
 ·rw[wc 2 (k+δ+v) 4];generalize 2^(k+δ+v)=c6 at *;have:k*c6<=7*c6:=Nat.mul_le_mul_right _ gD;omega
 ·rw[qM,mQ];refine eU (o5 aK.DI (b1 cg)) (eU (AJ ?_) (eU (fW p aG) (xe (by omega) (by omega))));grind
theorem lK.awX {N δ v:Nat}{A aM:eI}(ec:uH N A δ v)(h:lK N A aM N):∃bk:Nat,0<bk/\bk<=2^(N+δ)/\∀i,i<N->∃z:Int,aM i N*(bk:Rat)=(z:Rat):=by
 obtain⟨b8,u,d,aK⟩:=h.aiF ec (b1 N)
 have⟨s,U⟩:∃s:Int,(d.natAbs:Int)=s*d:=by
  rcases Int.natAbs_eq d with e|e
  ·exact⟨1,by omega⟩
  ·exact⟨-1,by omega⟩
 have aa:=aK.d0;refine⟨d.natAbs,by omega,eU aK.DI ?_,λi M=>?_⟩
 ·rw[wc];exact o5 (b1 _) aK.aiC
 ·obtain⟨z,j0,-⟩:=aK.val i M;rw[ad M,s0 λk Q=>ah (by omega)] at j0;refine⟨s*(z+u i*d),?_⟩;have e:((d.natAbs:Nat):Rat)=((d.natAbs:Int):Rat):=(ou _).symm;rw[e,U,qc,qc,wb,qc,<-j0];grind
def dK (N:Nat)(x:Nat->Rat):List bg:=((dW N).map x).map av
theorem qf (N:Nat)(x:Nat->Rat):(dK N x).length=N:=by simp[dK]
theorem uJ {N k:Nat}(x:Nat->Rat)(h:k<N):(dK N x)[k]?=some (av (x k)):=by
 unfold dK;rw[bn,bn,tr h];rfl
theorem MA {N:Nat}{l:List bg}{x:Nat->Rat}(ar:(D l)=N)(h:∀k,k<N->l[k]?=some (av (x k))):l=dK N x:=by
 apply qx;intro k;rcases ih k N with Q|Q
 ·rw[h k Q,uJ x Q]
 ·rw[mB (by omega),mB (by rw[qf];omega)]
theorem Ig {N:Nat}{x y:Nat->Rat}(h:∀k,k<N->x k=y k):dK N x=dK N y :=
 MA (qf N x) λk Q=>by rw[uJ x Q,h k Q]
theorem ZN {N:Nat}{x:Nat->Rat}(gD:N<=40)(h:∀k,k<N->dv (x k)):fN (dK N x):=by
 refine⟨by rw[qf];omega,λf aH=>?_⟩
 obtain⟨k,Q⟩:=tL.1 aH;have o2:k<N:=by have:=(dD.1 Q).1;rwa [qf] at this
 rw[uJ x o2] at Q
 cases Q;exact lH (h k o2)
def aiI (N:Nat)(bk:eI)(x:Nat->Rat):Prop:=(∀y,hX N bk (ext N y (-1))↔∀k,k<N->y k=x k)/\∀y,hX N bk (ext N y 0)->∀k,k<N->y k=0
def CR (N:Nat)(bk:eI):Prop:=∃y,hX N bk (ext N y 0)/\∃k,k<N/\y k≠0
theorem awY {N:Nat}{rows:List dy}{aM:eI}(h:xE N rows aM):rows.map (vY N)=dK N (λi=>aM i N) :=
 MA (by rw[aj];exact h.1) λk Q=>by
  obtain⟨x,O,-,ov⟩:=h.row Q;rw[bn,O,k5];unfold vY;rw[ep,ov.get (b1 _)]
  rfl
theorem H9.lim {N:Nat}{aM we:eI}{rows:List dy}{p c:Nat}{bI:Nat->Nat}(h:H9 N aM we rows p c bI){i k:Nat}(M:i<N)(Q:k<=N):dv (we i k):=by
 obtain⟨x,-,-,ov⟩:=h.enc.row M;exact ov.2 k Q
theorem aiJ {q:Rat}(h:dv q):mR 0 (-q)=true:=by
 unfold mR;simp only[eM]
 have F:iJ ((-q).num*((0:Rat).den:Int))=true:=by
  rw[aiu,aiK];unfold iJ;rw[decide_eq_true_eq];have:=h.1;omega
 refine⟨?_,F,?_,?_⟩
 ·rw[aiL,Ah];decide +kernel
 ·rw[aiL,Ah,D8];exact F
 ·rw[aiK,Rat.neg_den];unfold iJ;rw[decide_eq_true_eq];have:=h.2;omega
theorem aiM:dv 0:=⟨by decide +kernel,by decide +kernel⟩
theorem awZ {N f:Nat}{rows:List dy}{aM:eI}(h:xE N rows aM)(aH:f<N):Mc rows f N f=dK N (s7 aM f) :=
 MA (av1 _ _ _ _) λk Q=>by
  unfold Mc;rw[bn,tr Q,k5];unfold s7
  by_cases F:k<f
  ·rw[ad F,ad F];obtain⟨x,-,ex,ov⟩:=h.row (i:=k) (by omega);rw[ex,ov.cell (by omega),<-ahI,P6 aiM (ov.2 f (by omega)),aiJ (ov.2 f (by omega))]
   rfl
  ·rw[ah F,ah F]
   by_cases I:k=f
   ·rw[ad I,ad I,av0]
   ·rw[ah I,ah I,ahI]
theorem ZO {N:Nat}{bk aM:eI}(h:∀y,hX N aM y↔hX N bk y):∀y z,hX N aM (ext N y z)↔hX N bk (ext N y z):=λ_ _=>h _
theorem aw0 {rs:List e0}{n:Int}(h:oo rs n=true):
  (qX rs n=([],6)) \/
  (∃x,qX rs n=(dK (D rs) x,0)/\Y4 rs n=([],false)/\(∀k,k<(D rs)->dv (x k))/\aiI (D rs) (q0 rs) x) \/
  (∃y,qX rs n=([],17)/\Y4 rs n=(dK (D rs) y,true)/\(∀k,k<(D rs)->dv (y k))/\hX (D rs) (q0 rs) (ext (D rs) y 0)/\∃k,k<D rs/\y k=1):=by
 unfold qX Y4;rw[ad h];rcases O:qW true rs with ⟨xG,rX,bad⟩
 cases bad
 ·right
  obtain⟨aM,p,c,bI,he,-,U⟩:=awJ true h O;rw[ad h];rcases U rfl with ⟨rfl,rfl,rfl,j6⟩|⟨f,rfl,aH,rfl,rfl,j6,aV⟩
  ·left
   refine⟨λi=>aM i (D rs),?_,rfl,λk Q=>he.lim Q (b1 _),λy=>?_,λy aw=>?_⟩
   ·rw[ah (by simp),ah (by simp),awY he.enc]
   ·rw[<-ZO he.Ia];exact ahX he.red j6 y
   ·exact awq he.red j6 y ((ZO he.Ia y 0).2 aw)
  ·right
   refine⟨s7 aM c,?_,?_,λk Q=>?_,?_,⟨c,aH,by unfold s7;simp⟩⟩
   ·rw[ah (by simp),ad (by simp)]
   ·rw[ah (by simp)];exact congrArg (λl=>(l,true)) (awZ he.enc aH)
   ·unfold s7
    split
    ·exact agf (aiJ (he.lim Q (by omega)))
    ·split
     ·exact⟨by decide +kernel,by decide +kernel⟩
     ·exact aiM
   ·exact (ZO he.Ia _ _).1 (ahY he.red j6 aH aV)
 ·left
  rw[ad rfl]
theorem aiN (aM:eI){N p s:Nat}(aG:p<N)(U:p<=s)(AO:s<N){i:Nat}(M:i<N):∃bp,bp<N/\hq aM p s i=aM bp:=by
 unfold hq
 by_cases F:i=s
 ·exact⟨p,aG,by rw[ad F]⟩
 ·by_cases I:i=p
  ·exact⟨s,AO,by rw[ah F,ad I]⟩
  ·exact⟨i,M,by rw[ah F,ah I]⟩
theorem aw1 (b:Nat)(p:Prop)[Decidable p]:dU b (if p then 1 else 0):=by
 have ag:1<=2^b:=Nat.one_le_two_pow
 split
 ·exact⟨ag,ag⟩
 ·exact⟨fk _,ag⟩
theorem lK.all {N p eW aP:Nat}{A aM:eI}{bI:Nat->Nat}(fW:Ie N A eW aP)(h:lK N A aM p)(ab:qY N aM p p bI)(j6:∀j,j<p->bI j=j)(aG:p<=N){i k:Nat}(M:i<N)(Q:k<=N):dU eW (aM i k):=by
 by_cases aiO:k<p
 ·have:=ab.unit k aiO i M;rw[j6 k aiO] at this;rw[this];exact aw1 _ _
 ·exact (fW aM p aG h i k M (by omega) Q).1
theorem aw2 {N p s eW aP:Nat}{A aM:eI}{bI:Nat->Nat}(fW:Ie N A eW aP)(h:lK N A aM p)(ab:qY N aM p p bI)(j6:∀j,j<p->bI j=j)(aG:p<N)(U:p<=s)(AO:s<N)(bE:aM s p≠0)(kQ:2*eW+aP+1<1200):aij N (hq aM p s) p p:=by
 have I:=h.step aG U AO bE;have bH:=ab.piv aG U AO bE
 have aw3:∀j,j<p+1->(if j=p then p else bI j)=j:=λj ai=>by
  split
  ·omega
  ·exact j6 j (by omega)
 have e4:∀i,i<N->∀k,k<=N->dU eW (hq aM p s i k):=by
  intro i M k Q;obtain⟨bp,F,e⟩:=aiN aM aG U AO M;rw[e];exact h.all fW ab j6 (by omega) F Q
 have Mz:∀i,i<N->dU aP (hq aM p s i p):=by
  intro i M;obtain⟨bp,F,e⟩:=aiN aM aG U AO M;rw[e];exact (fW aM p (by omega) h bp p F (b1 p) (by omega)).2 aG
 have aiP:∀k,k<=N->dU eW (hq aM p s p k/hq aM p s p p):=by
  intro k Q;have:=I.all fW bH aw3 (by omega) (i:=p) aG Q;unfold o4 at this;rwa [ad rfl] at this
 refine⟨λk Q=>ait (e4 p aG k Q) (Mz p aG) (by omega),λi M _ _ k Q=>?_⟩;unfold rW;rw[eM];exact⟨ZF (Mz i M) (aiP k Q) (by omega),y4 (e4 i M k Q) (Ib (Mv (Mz i M) (aiP k Q))) (by omega)⟩
theorem aw4 {N eW aP:Nat}{A:eI}(fW:Ie N A eW aP)(kQ:2*eW+aP+1<1200):
  ∀k p rows aM bI,p+k=N->H9 N A aM rows p p bI->lK N A aM p->(∀j,j<p->bI j=j)->(ma true k p rows [] false).2.2=false:=by
 intro k
 induction k with
 |zero=>intro p rows aM bI _ _ _ _;rfl
 |succ k ay =>
  intro p rows aM bI aG he aa j6;unfold ma;rw[jy,AL];rcases aik he.enc (r:=p) (c:=p) (by omega) (by omega) with ⟨F,I,af,aO⟩|⟨F,s,hA,ko,s8,aO,br⟩
  ·rw[F,I,af,ad rfl,ad rfl]
  ·have cW:=aw2 fW aa he.red j6 (by omega) hA ko s8 kQ;have ag:=br cW;rw[F,ah (by simp),ag];refine ay (p+1) _ (o4 aM p p s) (λj=>if j=p then p else bI j) (by omega) ⟨aO ag,he.red.piv (by omega) hA ko s8,λy=>(Y7 (by omega) ko s8).trans (he.Ia y)⟩ (aa.step (by omega) hA ko s8) λj ai=>?_;show (if j=p then p else bI j)=j
   split
   ·omega
   ·exact j6 j (by omega)
theorem aw5 {rs:List e0}{n:Int}{eW aP:Nat}(h:oo rs n=true)(fW:Ie (D rs) (q0 rs) eW aP)(kQ:2*eW+aP+1<1200):qX rs n≠([],6):=by
 have O:(qW true rs).2.2=false :=
  aw4 fW kQ (D rs) 0 (hC rs) (q0 rs) (λj=>j) (by omega) ⟨aip h,QT _ _ _,λ_=>Iff.rfl⟩ (lK.start _ _) λj ai=>by omega
 unfold qX;rw[ad h,ah (by rw[O];simp)]
 split
 ·simp
 ·simp
theorem aw6 {rs:List e0}{n:Int}{eW aP:Nat}(h:oo rs n=true)(fW:Ie (D rs) (q0 rs) eW aP)(kQ:2*eW+aP+1<1200)(U:¬ CR (D rs) (q0 rs)):
  ∃x,qX rs n=(dK (D rs) x,0)/\(∀k,k<(D rs)->dv (x k))/\aiI (D rs) (q0 rs) x:=by
 rcases aw0 h with e|⟨x,e,-,F,I⟩|⟨y,-,-,-,F,k,Q,aw⟩
 ·exact absurd e (aw5 h fW kQ)
 ·exact⟨x,e,F,I⟩
 ·exact absurd ⟨y,F,k,Q,by rw[aw];decide⟩ U
theorem lK.full {N:Nat}{A:eI}(U:¬ CR N A):∀k p aM bI,p+k=N->qY N aM p p bI->(∀y,hX N aM y↔hX N A y)->lK N A aM p->(∀j,j<p->bI j=j)->∃aM bI,lK N A aM N/\qY N aM N N bI/\(∀j,j<N->bI j=j)/\∀y,hX N aM y↔hX N A y
 |0,p,aM,bI,aG,ab,aN,aa,j6=>by
  obtain rfl:p=N:=by omega
  exact⟨aM,bI,aa,ab,j6,aN⟩
 |k+1,p,aM,bI,aG,ab,aN,aa,j6=>by
  by_cases aV:∀i,p<=i->i<N->aM i p=0
  ·exfalso
   refine U ⟨s7 aM p,(aN _).1 (ahY ab j6 (by omega) aV),p,by omega,?_⟩
   unfold s7;rw[ah (by omega),ad rfl]
   decide
  ·have⟨s,hA,ko,s8⟩:∃s,p<=s/\s<N/\aM s p≠0:=by
    apply mb;intro h;exact aV λi F I=>mb λaf=>h ⟨i,F,I,af⟩
   refine lK.full U k (p+1) (o4 aM p p s) (λj=>if j=p then p else bI j) (by omega) (ab.piv (by omega) hA ko s8) (λy=>(Y7 (by omega) ko s8).trans (aN y)) (aa.step (by omega) hA ko s8) λj ai=>?_;show (if j=p then p else bI j)=j
   split
   ·omega
   ·exact j6 j (by omega)
theorem aiQ {N δ v:Nat}{A:eI}(U:¬ CR N A)(ec:uH N A δ v){x:Nat->Rat}(O:hX N A (ext N x (-1))):∃bk:Nat,0<bk/\bk<=2^(N+δ)/\∀i,i<N->∃z:Int,x i*(bk:Rat)=(z:Rat):=by
 obtain⟨aM,bI,⟨σ,F,yo,I,af⟩,-⟩:=lK.full U N 0 A (λj=>j) (by omega) (QT _ _ _) (λ_=>Iff.rfl) (lK.start _ _) (λj ai=>by omega);refine lK.awX (aM:=λi _=>x i) ec ⟨σ,F,yo,λi M k jG gz=>?_,af⟩;obtain rfl:k=N:=by omega
 rw[ad M];have:=O (σ i) (F i M);rw[Mn] at this;grind
theorem aw7 {N:Nat}{A:eI}(U:¬ CR N A):∃x,hX N A (ext N x (-1)):=by
 obtain⟨aM,bI,-,F,I,af⟩:=lK.full U N 0 A (λj=>j) (by omega) (QT _ _ _) (λ_=>Iff.rfl) (lK.start _ _) (λj ai=>by omega);exact⟨λi=>aM i N,(af _).1 ((ahX F I _).2 λ_ _=>rfl)⟩
end Go.Mini
namespace Go.Mini
open Classical
def Day.W (d:Day)(f:Nat->Nat)(k i:Nat):Rat:=cx d.dk λc=>if c.to=(i:Int)/\c.aF=k/\c.bw=f k then d.w c else 0
def Day.st (d:Day)(f:Nat->Nat)(i:Nat):Rat:=d.E i+cx d.dk λc=>if c.to=(i:Int)/\c.bw<f c.aF then c.am else 0
theorem Day.dt.aiR {d:Day}(aa:d.dt)(f:Nat->Nat)(P:Nat->Prop)(x:Nat->Rat)(i:Nat):(cx d.dk λc=>if c.to=(i:Int) then (if c.bw=f c.aF/\P c.aF then d.w c*x c.aF else 0) else 0)=bJ d.n λk=>if P k then d.W f k i*x k else 0:=by
 have e:=QW (n:=d.n) aa.aF λk c=>if c.to=(i:Int) then (if c.bw=f k/\P k then d.w c*x k else 0) else 0;rw[<-e];refine kr λk Q=>?_
 by_cases gv:P k
 ·rw[ad gv,uG];unfold Day.W;rw[<-QV];refine xC λc _=>?_
  by_cases F:c.aF=k
  ·by_cases I:c.to=(i:Int)
   ·by_cases af:c.bw=f k
    ·rw[ad F,ad I,ad ⟨af,gv⟩,ad ⟨I,F,af⟩,uG]
    ·rw[ad F,ad I,ah λh=>af h.1,ah λh=>af h.2.2,nH]
   ·rw[ad F,ah I,ah λh=>I h.1,nH]
  ·rw[ah F,ah λh=>F h.2.1,nH]
 ·rw[ah gv];refine Me λc _=>?_
  split
  ·split
   ·rw[ah λh=>gv h.2]
   ·rfl
  ·rfl
theorem Day.dt.Rg {d:Day}(aa:d.dt)(f:Nat->Nat)(P:Nat->Prop)(h:Nat->Rat)(i:Nat):d.fe (d.l f P h) i=d.st f i+bJ d.n λk=>if P k then d.W f k i*(h k-d.bG k (f k)) else 0:=by
 rw[<-aa.aiR f P (λk=>h k-d.bG k (f k)) i];unfold Day.fe Day.st;rw[Rat.add_assoc,<-QU]
 congr 1
 refine xC λc _=>?_;unfold Day.l
 by_cases F:c.to=(i:Int)
 ·rw[ad F,ad F]
  by_cases I:c.bw<f c.aF
  ·have af:c.to=(i:Int)/\c.bw<f c.aF:=⟨F,I⟩;have aO:¬ (c.bw=f c.aF/\P c.aF):=λh=>by have:=h.1;omega
   rw[ad I,ad af,ah aO,o3]
  ·have af:¬ (c.to=(i:Int)/\c.bw<f c.aF):=λh=>I h.2;rw[ah I,ah af,wg]
   by_cases aO:c.bw=f c.aF/\P c.aF
   ·rw[ad aO,ad aO,aO.1]
   ·rw[ah aO,ah aO]
 ·have af:¬ (c.to=(i:Int)/\c.bw<f c.aF):=λh=>F h.1;rw[ah F,ah af,ah F,o3]
def Day.AQ (d:Day)(f:Nat->Nat)(P:Nat->Prop):eI:=λi k=>if k<d.n then (if i=k then 1 else 0)-(if P k then d.W f k i else 0) else d.st f i-bJ d.n λk=>if P k then d.W f k i*d.bG k (f k) else 0
theorem ZP {d:Day}(f:Nat->Nat)(P:Nat->Prop)(x:Nat->Rat)(z:Rat){i:Nat}(M:i<d.n):mV d.n (d.AQ f P i) (ext d.n x z)=x i-(bJ d.n λk=>if P k then d.W f k i*x k else 0)+(d.st f i-bJ d.n λk=>if P k then d.W f k i*d.bG k (f k) else 0)*z:=by
 rw[Mn]
 congr 1
 ·have e:=y1 (n:=d.n) (f:=λk=>if i=k then x k else 0) (j:=i) M λk _ Q=>ah (Ne.symm Q);rw[ad rfl] at e;rw[<-e,<-HX];refine kr λk Q=>?_;unfold Day.AQ;rw[ad Q]
  split<;>split<;>grind
 ·unfold Day.AQ;rw[ah (by omega)]
theorem aiS {d:Day}(aa:d.dt)(f:Nat->Nat)(P:Nat->Prop)(h:Nat->Rat):hX d.n (d.AQ f P) (ext d.n h (-1))↔∀i,i<d.n->h i=d.fe (d.l f P h) i:=by
 have e:∀i,(bJ d.n λk=>if P k then d.W f k i*(h k-d.bG k (f k)) else 0)=(bJ d.n λk=>if P k then d.W f k i*h k else 0)-bJ d.n λk=>if P k then d.W f k i*d.bG k (f k) else 0:=λi=>by
  rw[<-HX];refine kr λk _=>?_
  split<;>grind
 unfold hX
 constructor
 ·intro ec i M;have:=ec i M;rw[ZP f P h _ M] at this;rw[aa.Rg,e];grind
 ·intro ec i M;have:=ec i M;rw[aa.Rg,e] at this;rw[ZP f P h _ M];grind
structure Good (d:Day) (f:Nat->Nat) (P:Nat->Prop):Prop where
 ok:d.dt
 inv:∃g,Inv d f g
 gG:∀i,P i->i<d.n/\f i<10
 Q2:∀C:Nat->Prop,(∃i,C i)->(∀i,C i->P i)->¬ d.closed f C
theorem Good.aiT {d:Day}{f:Nat->Nat}{P:Nat->Prop}(bc:Good d f P){x:Nat->Rat}(O:∀i,i<d.n->x i=bJ d.n λk=>if P k then d.W f k i*x k else 0):∀i,i<d.n->x i=0:=by
 obtain⟨g,M⟩:=bc.inv;exact awf M bc.ok bc.gG bc.Q2 x λi cH=>by rw[bc.ok.aiR f P x i];exact O i cH
theorem Good.aiU {d:Day}{f:Nat->Nat}{P:Nat->Prop}(bc:Good d f P):¬ CR d.n (d.AQ f P):=by
 rintro⟨y,aw,k,Q,bE⟩;refine bE (bc.aiT (x:=y) (λi M=>?_) k Q);have:=aw i M;rw[ZP f P y _ M] at this;grind
theorem Good.ex {d:Day}{f:Nat->Nat}{P:Nat->Prop}(bc:Good d f P):∃h:Nat->Rat,∀i,i<d.n->h i=d.fe (d.l f P h) i:=by
 obtain⟨x,O⟩:=aw7 bc.aiU;exact⟨x,(aiS bc.ok f P x).1 O⟩
theorem Good.uniq {d:Day}{f:Nat->Nat}{P:Nat->Prop}(bc:Good d f P){h cy:Nat->Rat}(e:∀i,i<d.n->h i=d.fe (d.l f P h) i)(e':∀i,i<d.n->cy i=d.fe (d.l f P cy) i):∀i,i<d.n->h i=cy i:=by
 obtain⟨g,M⟩:=bc.inv;exact awe M bc.ok bc.gG bc.Q2 e e'
def Day.ff (d:Day)(f:Nat->Nat)(P:Nat->Prop):Nat->Rat:=if h:∃x:Nat->Rat,∀i,i<d.n->x i=d.fe (d.l f P x) i then tJ h else λ_=>0
theorem Good.ff {d:Day}{f:Nat->Nat}{P:Nat->Prop}(bc:Good d f P):∀i,i<d.n->d.ff f P i=d.fe (d.l f P (d.ff f P)) i:=by
 have h:=bc.ex;unfold Day.ff;rw[dif_pos h];exact po h
theorem aw8 {l:List Nat}{a k:Nat}(h:k<D l):(l++[a]).getD k 0=l.getD k 0:=by
 rw[ep,ep,qv h]
theorem aw9 (l:List Nat)(a:Nat)(aP:Nat->Rat):bJ (l++[a]).length (λk=>aP ((l++[a]).getD k 0))=bJ (D l) (λk=>aP (l.getD k 0))+aP a:=by
 rw[fr,List.length_singleton,bJ]
 congr 1
 ·refine kr λk Q=>?_;rw[aw8 Q]
 ·rw[ep,rm (b1 _),mC];rfl
def c1 (P:Nat->Prop)(n:Nat):List Nat:=(dW n).filter λi=>decide (P i)
theorem Rh (P:Nat->Prop)(aP:Nat->Rat):∀n,bJ (c1 P n).length (λk=>aP ((c1 P n).getD k 0))=bJ n λk=>if P k then aP k else 0
 |0=>rfl
 |n+1=>by
  have ay:=Rh P aP n;unfold c1 at ay ⊢;rw[List.range_succ,List.filter_append]
  by_cases gv:P n
  ·rw[List.filter_cons_of_pos (by simpa using gv),qg,aw9,ay,bJ,ad gv]
  ·rw[List.filter_cons_of_neg (by simpa using gv),qg,fE,ay,bJ,ah gv,o3]
theorem xH {P:Nat->Prop}{n k:Nat}(h:k<(c1 P n).length):(c1 P n).getD k 0<n/\P ((c1 P n).getD k 0):=by
 have hm:(c1 P n).getD k 0∈c1 P n:=by
  rw[ep,bz h];exact ph h
 unfold c1 at hm ⊢;rw[xD,gX,decide_eq_true_eq] at hm;exact hm
def Day.uK (d:Day)(f:Nat->Nat)(p:List Nat):eI:=λi k=>if k<(D p) then (if i=k then 1 else 0)-d.W f (p.getD k 0) (p.getD i 0) else d.st f (p.getD i 0)-d.bG (p.getD i 0) (f (p.getD i 0))
theorem aiV {d:Day}(f:Nat->Nat)(p:List Nat)(x:Nat->Rat)(z:Rat){i:Nat}(M:i<D p):mV (D p) (d.uK f p i) (ext (D p) x z)=x i-(bJ (D p) λk=>d.W f (p.getD k 0) (p.getD i 0)*x k)+(d.st f (p.getD i 0)-d.bG (p.getD i 0) (f (p.getD i 0)))*z:=by
 rw[Mn]
 congr 1
 ·have e:=y1 (n:=D p) (f:=λk=>if i=k then x k else 0) (j:=i) M λk _ Q=>ah (Ne.symm Q);rw[ad rfl] at e;rw[<-e,<-HX];refine kr λk Q=>?_;unfold Day.uK;rw[ad Q]
  split<;>grind
 ·unfold Day.uK;rw[ah (by omega)]
theorem Good.small {d:Day}{f:Nat->Nat}{P:Nat->Prop}(bc:Good d f P):¬ CR (c1 P d.n).length (d.uK f (c1 P d.n)):=by
 rintro⟨y,aw,k,Q,bE⟩
 have F:∀r,r<(c1 P d.n).length->y r=bJ (c1 P d.n).length λk=>d.W f ((c1 P d.n).getD k 0) ((c1 P d.n).getD r 0)*y k:=λr ab=>by
  have:=aw r ab;rw[aiV f _ y _ ab] at this;grind
 have I:=bc.aiT (x:=λi=>bJ (c1 P d.n).length λk=>d.W f ((c1 P d.n).getD k 0) i*y k) (λi M=>by
  rw[<-Rh P (λk=>d.W f k i*bJ (c1 P d.n).length λk'=>d.W f ((c1 P d.n).getD k' 0) k*y k') d.n];exact kr λr ab=>by rw[F r ab]) ((c1 P d.n).getD k 0) (xH Q).1
 refine bE ?_;rw[F k Q];exact I
theorem Good.aiW {d:Day}{f:Nat->Nat}{P:Nat->Prop}(bc:Good d f P):hX (c1 P d.n).length (d.uK f (c1 P d.n)) (ext (c1 P d.n).length (λk=>d.ff f P ((c1 P d.n).getD k 0)-d.bG ((c1 P d.n).getD k 0) (f ((c1 P d.n).getD k 0))) (-1)):=by
 intro r ab;rw[aiV f _ _ _ ab,Rh P (λk=>d.W f k ((c1 P d.n).getD r 0)*(d.ff f P k-d.bG k (f k))) d.n];have:=bc.ff _ (xH ab).1;rw[bc.ok.Rg] at this;grind
theorem Good.aiX {d:Day}{f:Nat->Nat}{P:Nat->Prop}(bc:Good d f P){i:Nat}(M:i<d.n):d.ff f P i=d.st f i+bJ (c1 P d.n).length λk=>d.W f ((c1 P d.n).getD k 0) i*(d.ff f P ((c1 P d.n).getD k 0)-d.bG ((c1 P d.n).getD k 0) (f ((c1 P d.n).getD k 0))):=by
 rw[Rh P (λk=>d.W f k i*(d.ff f P k-d.bG k (f k))) d.n,<-bc.ok.Rg];exact bc.ff i M
theorem iD.good {d:Day}(aa:d.dt){f:Nat->Nat}{g:Nat->Rat}(M:Inv d f g){P:Nat->Prop}{h:Nat->Rat}(aG:iD d f g P h):Good d f P:=⟨aa,⟨g,M⟩,aG.gG,aG.Q2⟩
theorem Good.none {d:Day}(aa:d.dt){f:Nat->Nat}{g:Nat->Rat}(M:Inv d f g):Good d f λ_=>False:=⟨aa,⟨g,M⟩,λ_ h=>h.elim,λ_ ⟨i,h⟩ cy=>(cy i h).elim⟩
theorem iD.first {d:Day}(aa:d.dt){f:Nat->Nat}{g:Nat->Rat}(M:Inv d f g):iD d f g (λ_=>False) (d.ff f λ_=>False):=iD.start aa M (Good.none aa M).ff
theorem iD.succ {d:Day}(aa:d.dt){f:Nat->Nat}{g:Nat->Rat}(M:Inv d f g){P:Nat->Prop}{h:Nat->Rat}(aG:iD d f g P h):iD d f g (s5 d f P h) (d.ff f (s5 d f P h)):=aG.next aa M (Good.ff ⟨aa,⟨g,M⟩,aG.H3,aG.ahR aa M⟩)
def idle (d:Day)(P:Nat->Prop):Nat:=mW d.n λi=>if P i then 0 else 1
theorem aiY {d:Day}{f:Nat->Nat}{P:Nat->Prop}{h:Nat->Rat}{i:Nat}(M:i<d.n)(aH:f i<10)(ot:d.bG i (f i)<h i)(gv:¬ P i):idle d (s5 d f P h)<idle d P:=by
 refine Zp (j:=i) (λj _=>?_) M ?_
 ·by_cases ai:P j
  ·have F:s5 d f P h j:=Or.inl ai;rw[ad F,ad ai];exact b1 _
  ·rw[ah ai];split<;>omega
 ·have F:s5 d f P h i:=Or.inr ⟨M,aH,ot⟩;rw[ad F,ah gv];omega
theorem iD.top {d:Day}(aa:d.dt){f:Nat->Nat}{g:Nat->Rat}(M:Inv d f g):∀m (P:Nat->Prop) (h:Nat->Rat),idle d P<=m->iD d f g P h->∃h,nI d f h
 |m,P,h,hm,aG=>by
  by_cases U:∀i,i<d.n->f i<10->d.bG i (f i)<h i->P i
  ·exact⟨h,g,M,aG.stop aa M U,aG.le⟩
  ·have⟨i,F,I,af,aO⟩:∃i,i<d.n/\f i<10/\d.bG i (f i)<h i/\¬ P i:=by
    apply mb;intro aK;exact U λi F I af=>mb λaO=>aK ⟨i,F,I,af,aO⟩
   have aA:=aiY (h:=h) F I af aO
   cases m with
   |zero=>omega
   |succ m=>exact iD.top aa M m _ _ (by omega) (aG.succ aa M)
theorem axa {d:Day}(aa:d.dt){f:Nat->Nat}(ab:Reach d f):∃h,nI d f h:=by
 obtain⟨g,M,-⟩:=ab;exact iD.top aa M _ _ _ (b1 _) (iD.first aa M)
theorem iD.aiZ {d:Day}(aa:d.dt){f:Nat->Nat}{g:Nat->Rat}(M:Inv d f g){P:Nat->Prop}{h:Nat->Rat}(aG:iD d f g P h)(U:∀i,i<d.n->f i<10->d.bG i (f i)<h i->P i):∀i,i<d.n->h i=d.top f i :=
 have bD:nI d f h:=⟨g,M,aG.stop aa M U,aG.le⟩
 bD.unique aa (Day.CK ⟨h,bD⟩)
end Go.Mini
