/- A part of the proof. -/
import Derived.Test.YtgpioapepokkbaaGreatM03
set_option linter.unusedSimpArgs false
set_option linter.unusedVariables false
set_option maxRecDepth 100000
set_option maxHeartbeats 4000000
noncomputable section
open Bool renaming and_eq_true->eW,eq_iff_iff->xe,false_and->fx,false_eq_true->kR,not_eq_true'->uo,not_false->dD,not_true->cP,or_eq_true->ym,or_false->l1,true_and->gQ
open Classical renaming byContradiction->mc,choose->tN,choose_spec->pn
open Decidable renaming em->dn
open Int renaming add_zero->w5,mul_ne_zero->An,mul_zero->ud,natAbs_mul->qL,natAbs_natCast->mK,one_mul->n8,zero_add->Eh,zero_mul->Ag
open List renaming all_append->ag9,any_eq_false->xw,append_assoc->gb,append_nil->fv,append_of_mem->aie,cons_append->jR,drop->fT,drop_append->oQ,drop_eq_getElem_cons->ir,drop_eq_nil_of_le->jJ,drop_zero->l0,ext_getElem?->pP,filter_nil->ot,findIdx_getElem->aiz,findIdx_le_length->ahJ,flatten_append->EY,flatten_cons->jD,getD_eq_getElem?_getD->dX,getElem?_append_left->qv,getElem?_append_right->ru,getElem?_cons_zero->zI,getElem?_drop->lo,getElem?_eq_getElem->bs,getElem?_eq_none->mr,getElem?_eq_some_iff->dU,getElem?_inj->ahb,getElem?_map->bj,getElem?_range->tx,getElem?_set->nD,getElem?_zipIdx->YQ,getElem_drop->LN,getElem_mem->m2,length->D,length_append->fG,length_cons->h4,length_drop->rG,length_map->ak,length_nil->kZ,length_replicate->AK,length_set->iQ,length_take->gF,map->yZ,mapM_cons->ll,map_append->kG,map_congr_left->m4,map_cons->ev,map_map->m5,map_nil->cZ,map_replicate->HO,map_set->Ay,mem_append->jj,mem_cons->hK,mem_cons_of_mem->g6,mem_cons_self->gv,mem_filter->v5,mem_iff_getElem?->tQ,mem_map->dR,mem_map_of_mem->uK,mem_of_getElem?->ee,mem_of_mem_drop->K6,mem_or_eq_of_mem_set->EN,mem_range->gR,mem_singleton->ue,nil_append->jk,range->dF,replicate->dH,replicate_append_replicate->Za,replicate_succ->qw,set_append_right->ES,set_cons_succ->HE,set_cons_zero->rX,set_set->ahk,take->fJ,take_add_one->g4,take_append_of_le_length->CD,take_of_length_le->dr,zipWith->ZK,zipWith_cons_cons->ait,zip_cons_cons->ais
open List.cons renaming injEq->a3
open Nat renaming add_comm->zp,add_sub_cancel_left->Gv,add_zero->nZ,eq_zero_or_pos->kW,exists_eq_add_of_le->ahQ,gcd->jm,le_mul_of_pos_right->J2,le_of_eq->AH,le_refl->b0,le_trans->eQ,lt_or_ge->iq,mul_assoc->E6,mul_comm->rH,mul_le_mul->o3,mul_left_comm->aio,mul_one->cI,mul_pos->Mr,one_pos->ZH,pow_add->v8,pow_le_pow_right->w6,pow_succ->wQ,reduceEqDiff->dC,reduceLeDiff->ahj,sub_self->mu,sub_zero->CF,succ_mul->tz,zero_add->kv,zero_le->ft
open Option renaming map_eq_some_iff->ea,map_some->mw
open Option.some renaming inj->n0,injEq->cl
open Prod renaming ext->dS,fst->Ci
open Prod.mk renaming injEq->e6
open Rat renaming add_zero->o1,divInt->l7,divInt_eq_div->Mu,div_def->HT,intCast_add->v7,intCast_eq_zero_iff->aiD,intCast_mul->qc,intCast_natCast->oo,intCast_sub->CM,inv_pos->ahZ,le_refl->gg,le_trans->v3,mul_comm->uJ,mul_eq_zero->ZP,mul_nonneg->Mc,mul_pos->Me,mul_zero->nH,neg_num->aiH,num_eq_zero->aiq,one_mul->QU,zero_add->wa,zero_den->aiY,zero_mul->CI,zero_num->aiZ
namespace Go.Mini
open Go
def Yu:=cj vL λ(s,l,s2,ai)=>cM (D l<=1000000/\D ai<=1000000) (.same (eB (hD (s,l) (s2,ai))))
@[go_sem] theorem aLC (s:Int)(l:List Int)(s2:Int)(ai:List Int)(H:(D l)<=1000000/\D ai<=1000000):Yu [.agg [.int .i64 s,.Y (l.map ae)],.agg [.int .i64 s2,.Y (ai.map ae)]]=some (.same (eB (hD (s,l) (s2,ai)))):=(ct yJ (s,l,s2,ai)).trans (cR H _)
theorem auO (T:bb)(j1:T vu=aU Hw)(LG:T OI=aU Yl)(LH:T UC=aU Yn)(LI:T OJ=aU Yo)(s:Int)(l:List Int)(s2:Int)(ai:List Int)(H:(D l)<=1000000/\D ai<=1000000):WP T Yt (.same (eB (hD (s,l) (s2,ai)))) [.J (.agg [.int .i64 s,.Y (l.map ae)]),.J (.agg [.int .i64 s2,.Y (ai.map ae)])]:=by
 refine cu ?_;simp only[Yt];obtain⟨b2,cp⟩:=H
 by_cases ab:dG (s,l)=true
 ·by_cases bB:dG (s2,ai)=true
  ·obtain⟨x,Q,e⟩:=(jV _).1 ab;obtain⟨y,av,aC⟩:=(jV _).1 bB
   by_cases ar:y=0
   ·have hm:hD (s,l) (s2,ai)=(fm,15):=by
     unfold hD;rw[ab,bB,aC,fO,ad (by rfl),ad ar]
    rw[hm]
    cases e
    cases aC;have X:(y.sign==0)=true:=by rw[ar];rfl
    refine aX ?_;repeat' (intro h<;>simp only[h,go_sem,go_sem_proc,j1,LG,LH,LI,ab,bB,b2,cp,X,eB,aH,fm,cZ]<;>try refine ax ?_ ?_)
   ·have main:∀p q:Int,p.natAbs<eb->q.natAbs<eb->0<q->∃g:Raw,l6 (bS p) (bS q)=(g,0)/\g.2.length<=1000000/\kC (bS p) g=(bS (l7 p q).num,bS (p.fmod ((jm p.natAbs q.natAbs:Nat):Int)),0)/\kC (bS q) g=(bS (l7 p q).den,bS (q.fmod ((jm p.natAbs q.natAbs:Nat):Int)),0):=by
     intro p q aE hq mD;have oX:=Ld aE hq;have EB:((jm p.natAbs q.natAbs:Nat):Int).natAbs<eb:=by rw[mK];exact oX
     have G6:=WY (p:=p) (q:=q) (by omega);obtain⟨G,I⟩:=WX (p:=p) mD;refine⟨bS ((jm p.natAbs q.natAbs:Nat):Int),?_,nB EB,?_,?_⟩
     ·unfold l6;rw[k5 aE,k5 hq,fO,fO];rfl
     ·rw[Ep aE EB (by omega),G]
     ·rw[Ep hq EB (by omega),I]
    have qQ:(y.sign==0)=false:=by simpa using ar
    rcases Int.lt_or_gt_of_ne ar with kB|h7
    ·have hC:decide (y.sign<0)=true:=by rw[Int.sign_eq_neg_one_of_neg kB];rfl
     obtain⟨⟨cz,cf⟩,ba,oX,jT,mE⟩:=main (-x) (-y) (by omega) (by omega) (by omega)
     have hm:hD (s,l) (s2,ai)=(ao (l7 (-x) (-y)),0):=by
      rw[e,aC,Aj Q av ar,Rat.neg_divInt_neg]
     rw[hm];have pf:jX (s,l)=bS (-x):=by unfold jX;rw[ad ab,e,fO]
     have va:jX (s2,ai)=bS (-y):=by unfold jX;rw[ad bB,aC,fO]
     have EC:s2=y.sign:=congrArg Ci aC;have hO:(bS (-x)).2.length<=1000000:=nB (by omega);have jn:(bS (-y)).2.length<=1000000:=nB (by omega);clear e aC;unfold ao;generalize bS (-x)=df at *;generalize bS (-y)=gj at *;obtain⟨a6,bY⟩:=df;obtain⟨tX,tY⟩:=gj;rw[<-EC] at qQ hC;refine aX ?_;repeat' (intro h<;>simp only[h,go_sem,go_sem_proc,j1,LG,LH,LI,ab,bB,b2,cp,qQ,hC,pf,va,hO,jn,ba,oX,jT,mE,eB,aH,fP,hr,da]<;>try refine ax ?_ ?_)
    ·have hC:decide (y.sign<0)=false:=by rw[Int.sign_eq_one_of_pos h7];rfl
     obtain⟨⟨cz,cf⟩,ba,oX,jT,mE⟩:=main x y Q av h7
     have hm:hD (s,l) (s2,ai)=(ao (l7 x y),0):=by
      rw[e,aC,Aj Q av ar]
     rw[hm];have EC:s2=y.sign:=congrArg Ci aC;rw[<-e] at ba jT;rw[<-aC] at ba mE;rw[<-EC] at qQ hC;unfold ao;refine aX ?_;repeat' (intro h<;>simp only[h,go_sem,go_sem_proc,j1,LG,LH,LI,ab,bB,b2,cp,qQ,hC,ba,oX,jT,mE,eB,aH,fP,hr,da]<;>try refine ax ?_ ?_)
  ·have bB:dG (s2,ai)=false:=by simpa using bB
   have hm:hD (s,l) (s2,ai)=(fm,1):=by unfold hD;rw[bB,Bool.and_false];rfl
   rw[hm];refine aX ?_;repeat' (intro h<;>simp only[h,go_sem,go_sem_proc,j1,LG,LH,LI,ab,bB,b2,cp,eB,aH,fm,cZ]<;>try refine ax ?_ ?_)
 ·have ab:dG (s,l)=false:=by simpa using ab
  have hm:hD (s,l) (s2,ai)=(fm,1):=by unfold hD;rw[ab,fx];rfl
  rw[hm];refine aX ?_;repeat' (intro h<;>simp only[h,go_sem,go_sem_proc,j1,LG,LH,LI,ab,b2,cp,eB,aH,fm,cZ]<;>try refine ax ?_ ?_)
def EJ:=cj Ed λ(p,q)=>cM (dB p/\dB q) (.same (eB (hD (bS p) (bS q))))
@[go_sem] theorem ag7 (p:Int)(q:Int)(H:dB p/\dB q):EJ [.int .i64 p,.int .i64 q]=some (.same (eB (hD (bS p) (bS q)))):=(ct KU (p,q)).trans (cR H _)
theorem auP (T:bb)(auQ:T OE=aU Ym)(auR:T Uu=aU Yu)(p:Int)(q:Int)(H:dB p/\dB q):WP T Yr (.same (eB (hD (bS p) (bS q)))) [.J (.int .i64 p),.J (.int .i64 q)]:=by
 refine cu ?_;simp only[Yr];obtain⟨G,I⟩:=H;have ei:(bS p).2.length<=1000000:=nB (yM G);have ai:(bS q).2.length<=1000000:=nB (yM I);generalize gx:bS p=P at *;generalize e1:bS q=aM at *;obtain⟨a6,bY⟩:=P;obtain⟨tX,tY⟩:=aM;refine aX ?_;repeat' (intro h<;>simp only[h,go_sem,go_sem_proc,auQ,auR,G,I,gx,e1,ei,ai,da,eB,aH]<;>try refine ax ?_ ?_)
def Yv:=cj vL λ(s,l,s2,ai)=>cM (D l<=1000000/\D ai<=1000000) (.same (.bool (xo (s,l) (s2,ai))))
@[go_sem] theorem aLD (s:Int)(l:List Int)(s2:Int)(ai:List Int)(H:(D l)<=1000000/\D ai<=1000000):Yv [.agg [.int .i64 s,.Y (l.map ae)],.agg [.int .i64 s2,.Y (ai.map ae)]]=some (.same (.bool (xo (s,l) (s2,ai)))):=(ct yJ (s,l,s2,ai)).trans (cR H _)
theorem auS (T:bb)  (s:Int) (l:List Int) (s2:Int) (ai:List Int) (H:(D l)<=1000000/\D ai<=1000000):WP T Ys (.same (.bool (xo (s,l) (s2,ai)))) [.J (.agg [.int .i64 s,.Y (l.map ae)]),.J (.agg [.int .i64 s2,.Y (ai.map ae)])]:=by
 refine cu ?_;simp only[Ys];obtain⟨b2,cp⟩:=H
 by_cases X:s=s2
 ·subst X
  by_cases aw:(D l)=D ai
  ·have ay:(((D l:Nat):Int)==((D ai:Nat):Int))=true:=by simp;omega
   simp only[go_sem,go_sem_proc,beq_self_eq_true,ak,ay,cP,bne];refine dd [2,3] [142002,142003] (λ(i:Nat) tm mem=>i<=D l/\l.take i=ai.take i/\tm 5=.J (.int .i64 i)) (λi=>D l-i) 0 (by refine⟨by omega,by simp,rfl⟩) ?_;intro vs ms aP aO;simp only[go_sem,go_sem_proc,ak] at aP aO;subst aP aO;rintro i tm mem O hm ⟨M,aJ,bm⟩;simp only[go_sem,go_sem_proc,a3] at O hm;obtain⟨I,af⟩:=O;obtain⟨cJ,n7⟩:=hm;rcases dn (i<D l) with az|b4
   ·have Q:l[i]?=some l[i]:=bs az;have av:ai[i]?=some ai[i]:=bs (by omega);have pf:l.take (i+1)=l.take i++[l[i]]:=by rw[g4,Q];rfl
    have va:ai.take (i+1)=ai.take i++[ai[i]]:=by rw[g4,av];rfl
    generalize l[i]=x at *;generalize ai[i]=y at *;have d1:decide ((i:Int)<(D l:Int))=true:=c6;have bT:=eA (i:=i) (by omega)
    by_cases lW:x=y
    ·subst lW;simp only[go_sem,go_sem_proc,I,af,bm,cJ,n7,Q,av,d1,bT,ae,ak,bj,a3,beq_self_eq_true,cP];repeat' (first|refine ax ?_ ?_|fail)<;>intro h<;>simp only[h,go_sem,go_sem_proc,I,af,bm,cJ,n7,Q,av,d1,bT,ae,ak,bj,a3,beq_self_eq_true,cP]
     exact⟨i+1,by omega,by omega,by rw[pf,va,aJ],rfl⟩
    ·have bG:(x==y)=false:=by simpa using lW
     have ab:xo (s,l) (s,ai)=false:=by
      refine lj λh=>lW ?_;rw[e6] at h;rw[h.2,av] at Q;exact (n0 Q).symm
     rw[ab];simp only[go_sem,go_sem_proc,I,af,bm,cJ,n7,Q,av,d1,bT,bG,ae,ak,bj,a3,dD];repeat' (first|refine ax ?_ ?_|fail)<;>intro h<;>simp only[h,go_sem,go_sem_proc,I,af,bm,cJ,n7,Q,av,d1,bT,bG,ae,ak,bj,a3,dD]
   ·have d1:decide ((i:Int)<(D l:Int))=false:=cY
    have ab:xo (s,l) (s,ai)=true:=by
     refine lQ ?_;rw[dr (by omega),dr (by omega)] at aJ;rw[aJ]
    rw[ab];simp only[go_sem,go_sem_proc,I,af,bm,cJ,n7,d1,ak];repeat' (first|refine ax ?_ ?_|fail)<;>intro h<;>simp only[h,go_sem,go_sem_proc,I,af,bm,cJ,n7,d1,ak]
  ·have ay:(((D l:Nat):Int)==((D ai:Nat):Int))=false:=by simp;omega
   have ab:xo (s,l) (s,ai)=false:=by
    refine lj λh=>aw ?_;rw[e6] at h;rw[h.2]
   rw[ab];simp only[go_sem,go_sem_proc,beq_self_eq_true,ak,ay,cP,dD,bne];repeat' (first|refine ax ?_ ?_|fail)<;>intro h<;>simp only[h,go_sem,go_sem_proc,beq_self_eq_true,ak,ay,cP,dD,bne]
 ·have bG:(s==s2)=false:=by simpa using X
  have ab:xo (s,l) (s2,ai)=false:=by
   refine lj λh=>X ?_;rw[e6] at h;exact h.1
  rw[ab];simp only[go_sem,go_sem_proc,bG,ak,cP,dD,bne];repeat' (first|refine ax ?_ ?_|fail)<;>intro h<;>simp only[h,go_sem,go_sem_proc,bG,ak,cP,dD,bne]
def Hx (a b:bc):Bool:=decide (a=b)
def Yw:=cj yP λ(s,l,s2,ai,cQ,bM,cV,b5)=>cM (D l<=1000000/\D ai<=1000000/\D bM<=1000000/\D b5<=1000000) (.same (.bool (Hx ((s,l),(s2,ai)) ((cQ,bM),(cV,b5)))))
@[go_sem] theorem aLE (s:Int)(l:List Int)(s2:Int)(ai:List Int)(cQ:Int)(bM:List Int)(cV:Int)(b5:List Int)(H:(D l)<=1000000/\D ai<=1000000/\D bM<=1000000/\D b5<=1000000):Yw [.agg [.int .i64 s,.Y (l.map ae),.int .i64 s2,.Y (ai.map ae)],.agg [.int .i64 cQ,.Y (bM.map ae),.int .i64 cV,.Y (b5.map ae)]]=some (.same (.bool (Hx ((s,l),(s2,ai)) ((cQ,bM),(cV,b5))))):=(ct Cj (s,l,s2,ai,cQ,bM,cV,b5)).trans (cR H _)
theorem auT (T:bb)(ag8:T OD=aU Yv)(s:Int)(l:List Int)(s2:Int)(ai:List Int)(cQ:Int)(bM:List Int)(cV:Int)(b5:List Int)(H:(D l)<=1000000/\D ai<=1000000/\D bM<=1000000/\D b5<=1000000):WP T Yq (.same (.bool (Hx ((s,l),(s2,ai)) ((cQ,bM),(cV,b5))))) [.J (.agg [.int .i64 s,.Y (l.map ae),.int .i64 s2,.Y (ai.map ae)]),.J (.agg [.int .i64 cQ,.Y (bM.map ae),.int .i64 cV,.Y (b5.map ae)])]:=by
 refine cu ?_;simp only[Yq];obtain⟨b2,cp,hO,jn⟩:=H
 have e:Hx ((s,l),(s2,ai)) ((cQ,bM),(cV,b5))=(xo (s,l) (cQ,bM)&&xo (s2,ai) (cV,b5)):=by
  unfold Hx xo;rw[xe,eW,decide_eq_true_eq,decide_eq_true_eq,decide_eq_true_eq,e6]
 rw[e];rcases G:xo (s,l) (cQ,bM)
 ·refine aX ?_;repeat' (intro h<;>simp only[h,go_sem,go_sem_proc,ag8,b2,cp,hO,jn,G,fx]<;>try refine ax ?_ ?_)
 ·refine aX ?_;repeat' (intro h<;>simp only[h,go_sem,go_sem_proc,ag8,b2,cp,hO,jn,G,gQ]<;>try refine ax ?_ ?_)
def qU (f:bc)(n:Int):Bool:=decide ((f.1.2.length:Int)<=n)&&decide ((f.2.2.length:Int)<=n)
abbrev Yx:Int×(List Int)×Int×(List Int)×Int->List Data:=λ(s,l,s2,ai,n)=>[.agg [.int .i64 s,.Y (l.map ae),.int .i64 s2,.Y (ai.map ae)],.int .i64 n]
def LJ:=cj Yx λ(s,l,s2,ai,n)=>some (.same (.bool (qU ((s,l),(s2,ai)) n)))
theorem auU:∀a b,Yx a=Yx b->a=b:=by
  rintro⟨s1,ei,Ca,Cb,iP⟩ ⟨s2,ai,Cc,Cd,jO⟩ h;simp only[a3,Data.agg.injEq,Data.int.injEq,Data.Y.injEq] at h;exact dS h.1.1.2 (dS (map_inj e9 _ _ h.1.2.1) (dS h.1.2.2.1.2 (dS (map_inj e9 _ _ h.1.2.2.2.1) h.2.1.2)))
@[go_sem] theorem aLF (s:Int)(l:List Int)(s2:Int)(ai:List Int)(n:Int):LJ [.agg [.int .i64 s,.Y (l.map ae),.int .i64 s2,.Y (ai.map ae)],.int .i64 n]=some (.same (.bool (qU ((s,l),(s2,ai)) n))):=ct auU (s,l,s2,ai,n)
theorem auV (T:bb)  (s:Int) (l:List Int) (s2:Int) (ai:List Int) (n:Int):WP T Yp (.same (.bool (qU ((s,l),(s2,ai)) n))) [.J (.agg [.int .i64 s,.Y (l.map ae),.int .i64 s2,.Y (ai.map ae)]),.J (.int .i64 n)]:=by
 refine cu ?_;simp only[Yp];unfold qU;rcases G:decide ((D l:Int)<=n)
 ·refine aX ?_;repeat' (intro h<;>simp only[h,go_sem,go_sem_proc,G,ak,fx]<;>try refine ax ?_ ?_)
 ·refine aX ?_;repeat' (intro h<;>simp only[h,go_sem,go_sem_proc,G,ak,gQ]<;>try refine ax ?_ ?_)


theorem Yy {α:Type}{p:α->Bool}{l:List α}{i:Nat}{x:α}(Q:l[i]?=some x):(l.take (i+1)).all p=((l.take i).all p&&p x):=by
 rw[g4,Q,ag9];simp
def EK (a b:List bc):Bool:=decide (a=b)
end Go.Mini
namespace Go.Mini
open Go
variable {P:Program} {A:Nat->Prop} {w aR:World} {B bu:e4} {mem mem':Mem}
structure kF (P:Program) (f:FuncId) (eK:List R->Mem->Option g7):Prop where
 real:Real P f
 run:∀args mem pj,eK args mem=some pj->∀A w B vs,fs A w B mem->du w (cd A B) B args vs->TI P f vs A w B mem pj
def oi (res:List oJ)(bL:R->Mem->Prop):eT->a8->Prop
 |.exit _,_=>False
 |.normal,st=>∃m,pO st res=some m/\bL m st.mem
 |.ret,st=>∃m,pO st res=some m/\bL m st.mem
@[go_sem] theorem aLG {res:List oJ}{st:a8}(bL:R->Mem->Prop)(id:Nat):oi res bL (.exit id) st=False:=bx
@[go_sem] theorem aLH {res:List oJ}{st:a8}(bL:R->Mem->Prop):oi res bL .normal st=∃m,pO st res=some m/\bL m st.mem:=bx
@[go_sem] theorem aLI {res:List oJ}{st:a8}(bL:R->Mem->Prop):oi res bL .ret st=∃m,pO st res=some m/\bL m st.mem:=bx
theorem Qf {mf:bP}{bL:R->Mem->Prop}{e:eT}{st:a8}(h:oi mf.res bL e st):TY mf bL e st:=by
 cases e with
 |exit id=>exact h
 |normal=>exact h
 |ret=>exact h
theorem Qg {kb : Nat}{own : List Nat}{f : FuncId}{fn : Func}{mf : bP}(aJ : P.funcs[f]? = some fn)(tM : (fn.name == "runtime.NumGoroutine") = false)(a0 : sr P kb own fn = some mf): Real P f := by
 cases ag:fn.body with
 |none=>simp[sr,ag] at a0
 |some c=>exact⟨fn,c,aJ,ag,tM⟩
def pB (aM:List R->Mem->Option (R->Mem->Prop))(args:List R)(mem:Mem):Option g7:=(aM args mem).map .rel
@[go_sem] theorem aLJ (aM:List R->Mem->Option (R->Mem->Prop))(args:List R)(mem:Mem):pB aM args mem=(aM args mem).map .rel:=bx
theorem EL {T : bb}{kb : Nat}{own : List Nat}(cL : qB P T)(hm : P.follows .mixedOrders = true){f : FuncId}{fn : Func}{mf : bP}(aJ : P.funcs[f]? = some fn)(tM : (fn.name == "runtime.NumGoroutine") = false)(a0 : sr P kb own fn = some { mf with body := erase mf.body })
  {aM:List R->Mem->Option (R->Mem->Prop)} (h:∀args mem bL,aM args mem=some bL->(D args)<=mf.n/\wp T mf.body (oi mf.res bL) ⟨ka args,mem⟩):kF P f (pB aM):=by
 refine⟨Qg aJ tM a0,λargs mem pj hT A w B vs b1 aq=>?_⟩;unfold pB at hT;rw[ea] at hT;obtain⟨bL,fZ,rfl⟩:=hT;obtain⟨hlen,wM⟩:=h args mem bL fZ;refine Calls.mono (Gm (Post:=bL) cL hm aJ a0 hlen (λe st O=>Qf O) wM b1 aq) λe aR he=>?_;obtain⟨v,m,mem',bu,rfl,X,ln,aE⟩:=he;exact⟨v,m,mem',bu,rfl,X,ln,aE⟩
inductive sQ (c9:Key->Prop):R->Prop
 |J {d:Data}:sQ c9 (.J d)
 |nil:sQ c9 .nil
 |ref {k g sz off len:Nat} (h:¬ c9 k):sQ c9 (.ref k g sz off len)
 |ptr {k g off:Nat} (h:¬ c9 k):sQ c9 (.ptr k g off)
 |fz {f:FuncId} {eP:List R} (h:∀(i:Nat) (m:R),eP[i]?=some m->sQ c9 m):sQ c9 (.fz f eP)
 |agg {cs:List R} (h:∀(i:Nat) (m:R),cs[i]?=some m->sQ c9 m):sQ c9 (.agg cs)
 |cH {cs:List R} (h:∀(i:Nat) (m:R),cs[i]?=some m->sQ c9 m):sQ c9 (.cH cs)
 |no:sQ c9 .no
 |undef:sQ c9 .undef
theorem clean_of {c9:Key->Prop}{aZ:Nat->Prop}(qV:∀k,c9 k->B k=none){m:R}{v:Value}(h:bt w aZ B m v):sQ c9 m:=by
 induction h with
 |J h=>exact .J
 |nil=>exact .nil
 |ref he ba aq=>exact .ref λaj=>by rw[qV _ aj] at he;cases he
 |ptr he ba aq=>exact .ptr λaj=>by rw[qV _ aj] at he;cases he
 |fz aw aa aA=>exact .fz λi m M=>aA i m _ M (bs (by have az:=(dU.1 M).1;omega))
 |agg aw aa aA=>exact .agg λi m M=>aA i m _ M (bs (by have az:=(dU.1 M).1;omega))
 |cH aw aa aA=>exact .cH λi m M=>aA i m _ M (bs (by have az:=(dU.1 M).1;omega))
 |no=>exact .no
 |undef=>exact .undef
open Classical in
def sR (c9:Key->Prop)(B:e4):e4:=λk=>if c9 k then none else B k
theorem EM {c9:Key->Prop}{b:Nat}(h:sg (sR c9 B) b):sg B b:=by
 obtain⟨k,e,he,ag⟩:=h;unfold sR at he
 split at he
 ·cases he
 ·exact⟨k,e,he,ag⟩
theorem auW {c9:Key->Prop}{m:R}{v:Value}(h:bt w (cd A B) B m v)(H:sQ c9 m):bt w (cd A (sR c9 B)) (sR c9 B) m v:=by
 have at_:∀{k:Key} {e:mm},¬ c9 k->B k=some e->sR c9 B k=some e:=λO he=>by unfold sR;rw[ah O];exact he
 induction h with
 |J h=>exact .J (h.less λb ag=>ag.imp EM id)
 |nil=>exact .nil
 |ref he ba aq=>cases H with|ref O=>exact .ref (at_ O he) ba aq
 |ptr he ba aq=>cases H with|ptr O=>exact .ptr (at_ O he) ba aq
 |fz aw aa aA=>cases H with|fz H=>exact .fz aw λi d v M aq=>aA i d v M aq (H i d M)
 |agg aw aa aA=>cases H with|agg H=>exact .agg aw λi d v M aq=>aA i d v M aq (H i d M)
 |cH aw aa aA=>cases H with|cH H=>exact .cH aw λi d v M aq=>aA i d v M aq (H i d M)
 |no=>exact .no
 |undef=>exact .undef
theorem eF.drop {c9:Key->Prop}{Qh:Mem}(ar:fs A w B mem)(qV:∀k,c9 k->mem k=none)(h:eF A w B aR bu mem')(G:∀k,c9 k->Qh k=none)(I:∀k,¬ c9 k->Qh k=mem' k)
  (H:∀k g cs,Qh k=some (g,cs)->∀m∈cs,(∃d,m=.J d)\/∃fL DH tF,mem fL=some (DH,tF)/\m∈tF):eF A w B aR (sR c9 bu) Qh:=by
 have fS:∀k,c9 k->B k=none:=λk O=>ar.Bh k (qV k O);have at_:∀{k:Key},¬ c9 k->sR c9 bu k=bu k:=λO=>by unfold sR;rw[ah O]
 have Yz:∀{k:Key},c9 k->sR c9 bu k=none:=λO=>by unfold sR;rw[ad O]
 refine⟨⟨λk O=>?_,λk k' e e' b he gC ag ku=>?_,λb aN bO=>h.dW.sep b aN (EM bO),h.dW.lt,λk g cs O=>?_⟩,⟨h.mZ.size,λb ag bO=>?_,λk e he=>?_⟩,h.aG,λb ag=>h.fresh b (EM ag)⟩
 ·by_cases aj:c9 k
  ·exact Yz aj
  ·rw[at_ aj];exact h.dW.Bh k (by rw[<-I k aj];exact O)
 ·by_cases aj:c9 k
  ·rw[Yz aj] at he;cases he
  ·by_cases np:c9 k'
   ·rw[Yz np] at gC;cases gC
   ·rw[at_ aj] at he;rw[at_ np] at gC;exact h.dW.inj k k' e e' b he gC ag ku
 ·by_cases aj:c9 k
  ·rw[G k aj] at O;cases O
  ·obtain⟨e,he,ba,aK,ag⟩:=h.dW.dA k g cs (by rw[<-I k aj];exact O);refine⟨e,by rw[at_ aj];exact he,ba,aK,λb jI=>?_⟩
   obtain⟨vs,T,aT,aW,hle,ab⟩:=ag b jI;refine⟨vs,T,aT,aW,hle,λi m M=>?_⟩;obtain⟨v,aq,vi⟩:=ab i m M;refine⟨v,aq,auW vi ?_⟩;rcases H k g cs O m (ee M) with ⟨d,rfl⟩|⟨fL,DH,tF,kf,gr⟩
   ·exact .J
   ·obtain⟨bl,Kk,G6,kg,sI⟩:=ar.dA fL DH tF kf
    cases GS:bl.dA with
    |none=>rw[kg GS] at gr;cases gr
    |some sB =>
     obtain⟨aLK,aLL,_,_,_,pY⟩:=sI sB GS;obtain⟨i0,sG⟩:=tQ.1 gr;obtain⟨v0,_,auX⟩:=pY i0 m sG;exact clean_of fS auX
 ·obtain⟨af,aS⟩:=h.mZ.Js b ag bO;exact⟨af,λQ=>aS (EM Q)⟩
 ·have aj:¬ c9 k:=λaj=>by rw[fS k aj] at he;cases he
  rw[at_ aj];exact h.mZ.key k e he
def Cs (bD:List R->Mem->Option (Data×Key×Nat×Nat×Data))(args:List R)(mem:Mem):Option g7:=(bD args mem).map λx => .e5 x.1 x.2.1 x.2.2.1 x.2.2.2.1 (.J x.2.2.2.2)
@[go_sem] theorem aLM (bD:List R->Mem->Option (Data×Key×Nat×Nat×Data))(args:List R)(mem:Mem):Cs bD args mem=(bD args mem).map λx => .e5 x.1 x.2.1 x.2.2.1 x.2.2.2.1 (.J x.2.2.2.2):=bx
theorem auY {T : bb}{kb : Nat}{own : List Nat}(cL : qB P T)(hm : P.follows .mixedOrders = true){f : FuncId}{fn : Func}{mf : bP}(aJ : P.funcs[f]? = some fn)(tM : (fn.name == "runtime.NumGoroutine") = false)(a0 : sr P kb own fn = some { mf with body := erase mf.body })
  (c9:Key->Prop) {bD:List R->Mem->Option (Data×Key×Nat×Nat×Data)}
  (h:∀args mem r k g i d,bD args mem=some (r,k,g,i,d)->(D args)<=mf.n/\(∀j,c9 j->mem j=none)/\¬ c9 k/\(∃cs,mem k=some (g,cs)) /\
   wp T mf.body (oi mf.res λm mem'=>cC 6 emp m=some r/\∀j,¬ c9 j->mem' j=a2 mem k g ((rn mem k).set i (.J d)) j) ⟨ka args,mem⟩):kF P f (Cs bD):=by
 refine⟨Qg aJ tM a0,λargs mem pj hT A w B vs b1 aq=>?_⟩;unfold Cs at hT;rw[ea] at hT;obtain⟨⟨r,k,g,i,d⟩,oj,rfl⟩:=hT;obtain⟨hlen,qV,O,⟨cs,kd⟩,wM⟩:=h args mem r k g i d oj;refine Calls.mono (Gm (Post:=λm mem'=>cC 6 emp m=some r/\∀j,¬ c9 j->mem' j=a2 mem k g ((rn mem k).set i (.J d)) j) cL hm aJ a0 hlen (λe st O=>Qf O) wM b1 aq) λe aR he=>?_;obtain⟨v,m,mem',bu,rfl,X,ln,aa,gr⟩:=he;refine⟨v,sR c9 bu,rfl,X.drop b1 qV (λj aj=>?_) (λj aj=>(gr j aj).symm) ?_,.J ((Ov 6 m v r aa ln).less λb ag=>ag.imp EM id)⟩
 ·have:j≠k:=λe=>O (e ▸ aj);simp only[a2,this,if_false];exact qV j aj
 ·intro dc cf nr I m nz
  by_cases fR:dc=k
  ·subst fR;simp only[a2,if_true,cl,e6] at I;obtain⟨-,rfl⟩:=I;rcases EN nz with Q|rfl
   ·refine .inr ⟨dc,g,cs,kd,?_⟩
    simpa [rn,kd] using Q
   ·exact .inl ⟨d,rfl⟩
  ·simp only[a2,fR,if_false] at I;exact .inr ⟨dc,cf,nr,I,nz⟩
def YA:Option g7->Option g7->Option g7
 |some x,_=>some x
 |none,e=>e
@[go_sem] theorem aLN (x:g7)(e:Option g7):YA (some x) e=some x:=bx
@[go_sem] theorem aLO (e:Option g7):YA none e=e:=bx
def xp (lZ:FuncId->Option (List Data->Option eN))(sS:FuncId->Option (List R->Mem->Option g7)):bb:=λf args mem=>match sS f with
 |some eK=>YA (eK args mem) (BE lZ f args mem)
 |none=>BE lZ f args mem
theorem rV {lZ:FuncId->Option (List Data->Option eN)}{sS:FuncId->Option (List R->Mem->Option g7)}(h:∀f aQ,lZ f=some aQ->tL P f aQ)(ab:∀f eK,sS f=some eK->kF P f eK):qB P (xp lZ sS):=by
 intro f args mem pj cL;unfold xp at cL
 split at cL
 ·rename_i eK hT;have X:=ab f eK hT
  cases Q:eK args mem with
  |none =>
   rw[Q] at cL;exact aeH h f args mem pj cL
  |some y =>
   rw[Q] at cL
   cases cL;exact⟨X.real,λA w B vs b1 aq=>X.run args mem pj Q A w B vs b1 aq⟩
 ·exact aeH h f args mem pj cL
theorem Kt.aha {f:FuncId}{bR:List R->Mem->Option (R×Mem)}(h:Kt P f bR):kF P f (BH bR):=by
 refine⟨h.real,λargs mem pj hT A w B vs b1 aq=>?_⟩;unfold BH at hT;rw[ea] at hT;obtain⟨x,Q,rfl⟩:=hT;exact h.run args mem x Q A w B vs b1 aq
section
variable {lZ:FuncId->Option (List Data->Option eN)} {sS:FuncId->Option (List R->Mem->Option g7)} {f:FuncId}
theorem nC {aQ:List Data->Option eN}(h:sS f=none)(cx:lZ f=some aQ):xp lZ sS f=aU aQ:=by
 funext args mem
 unfold xp;rw[h];exact congrFun (congrFun (aeJ cx) args) mem
theorem uq {eK:List R->Mem->Option g7}(h:sS f=some eK)(cx:lZ f=none):xp lZ sS f=eK:=by
 funext args mem
 unfold xp BE;rw[h,cx];dsimp only
 cases eK args mem<;>rfl
theorem Hy {aQ:List Data->Option eN}{bR:List R->Mem->Option (R×Mem)}(h:sS f=some (BH bR))(cx:lZ f=some aQ):xp lZ sS f=zQ aQ bR:=by
 funext args mem
 unfold xp;rw[h];unfold zQ BH;rw[show BE lZ f args mem=aU aQ args mem from congrFun (congrFun (aeJ cx) args) mem];dsimp only
 cases bR args mem<;>rfl
end
def Qi (l:List (FuncId×(List R->Mem->Option g7))):FuncId->Option (List R->Mem->Option g7):=λf=>(l.find? λp=>p.1==f).map (·.2)
theorem rW {l:List (FuncId×(List R->Mem->Option g7))}(h:∀p∈l,kF P p.1 p.2):∀f bR,Qi l f=some bR->kF P f bR:=by
 intro f aQ aJ;unfold Qi at aJ;rw[ea] at aJ;obtain⟨p,aE,rfl⟩:=aJ;have G:=List.mem_of_find?_eq_some aE;have I:=List.find?_some aE;have af:p.1=f:=by simpa using I
 exact af ▸ h p G
theorem lH:∀p∈([]:List (FuncId×(List R->Mem->Option g7))),kF P p.1 p.2:=by simp
theorem oZ {f:FuncId}{aQ:List R->Mem->Option g7}{l:List (FuncId×(List R->Mem->Option g7))}(h:kF P f aQ)(aw:∀p∈l,kF P p.1 p.2):∀p∈(f,aQ)::l,kF P p.1 p.2:=by
 intro p aE;rcases hK.1 aE with rfl|aE
 ·exact h
 ·exact aw p aE
open Classical in
def ur {α:Type}(bg:α->List R->Mem->Prop)(bL:α->Mem->R->Mem->Prop):List R->Mem->Option (R->Mem->Prop):=λargs mem=>if h:∃a,bg a args mem then some (bL (tN h) mem) else none
theorem LK {α:Type}{bg:α->List R->Mem->Prop}{bL:α->Mem->R->Mem->Prop}(uniq:∀a b args mem,bg a args mem->bg b args mem->a=b){a:α}{args:List R}{mem:Mem}(h:bg a args mem):ur bg bL args mem=some (bL a mem):=by
 have Q:∃b,bg b args mem:=⟨a,h⟩;unfold ur;rw[dif_pos Q,uniq _ _ _ _ (pn Q) h]
theorem EO {α:Type}{bg:α->List R->Mem->Prop}{bL:α->Mem->R->Mem->Prop}{args:List R}{mem:Mem}{x:R->Mem->Prop}(h:ur bg bL args mem=some x):∃a,bg a args mem/\x=bL a mem:=by
 unfold ur at h
 split at h
 ·rename_i Q;exact⟨_,pn Q,(n0 h).symm⟩
 ·cases h
end Go.Mini
namespace Go.Mini
open Go
def Qj:=cj EA λ(s,l,s2,ai)=>some (.same (.bool (s==0)))
@[go_sem] theorem aLP (s:Int)(l:List Int)(s2:Int)(ai:List Int):Qj [.agg [.int .i64 s,.Y (l.map ae),.int .i64 s2,.Y (ai.map ae)]]=some (.same (.bool (s==0))):=ct Lk (s,l,s2,ai)
theorem LL (T:bb)  (s:Int) (l:List Int) (s2:Int) (ai:List Int):WP T Xg (.same (.bool (s==0))) [.J (.agg [.int .i64 s,.Y (l.map ae),.int .i64 s2,.Y (ai.map ae)])]:=by
 refine cu ?_;simp only[Xg];refine aX ?_;repeat' (intro h<;>simp only[h,go_sem,go_sem_proc]<;>try refine ax ?_ ?_)
def Aw (args:List R)(mem:Mem):Option (Data×Key×Nat×Nat×Data) :=
 match args with
 | [.ptr k g 0,.J (.agg [.int .i64 s,.Y l,.int .i64 s2,.Y ai]),.J (.int .i64 e)]=>match mem k,mem 168004,mem 168006 with
  |some (c7,[_,_,.J (.bool c)]),none,none=>if c7=g/\k≠168004/\k≠168006 then some (.agg [.int .i64 s,.Y l,.int .i64 s2,.Y ai],k,g,2,.bool (c||e != 0)) else none
  |_,_,_=>none
 |_=>none
def Qk (j:Key):Prop:=j=168004\/j=168006
theorem auZ (T:bb)(args:List R)(mem:Mem)(r:Data)(k g i:Nat)(d:Data)(h:Aw args mem=some (r,k,g,i,d)):
  (D args)<=19/\(∀j,Qk j->mem j=none)/\¬ Qk k/\(∃cs,mem k=some (g,cs)) /\
   wp T P0.body (oi P0.res λm mem'=>cC 6 emp m=some r/\∀j,¬ Qk j->mem' j=a2 mem k g ((rn mem k).set i (.J d)) j) ⟨ka args,mem⟩:=by
 unfold Aw at h
 split at h
 ·rename_i fL DH s l s2 ai e
  split at h
  ·rename_i cz a b c hm aS bV
   split at h
   ·rename_i ba;obtain⟨rfl,vT,LM⟩:=ba;simp only[cl,e6] at h;obtain⟨rfl,rfl,rfl,rfl,rfl⟩:=h;refine⟨by simp,?_,?_,⟨_,hm⟩,?_⟩
    ·rintro j (rfl|rfl)
     ·exact aS
     ·exact bV
    ·rintro (h|h)
     ·exact vT h
     ·exact LM h
    ·have iG:∀x:Bool,rn mem fL=[a,b,.J (.bool c)]:=λ_=>by simp only[rn,hm]
     have Ql:(fL=168004)=False:=eq_false vT;have Qm:(fL=168006)=False:=eq_false LM;have Qn:(168004=fL)=False:=eq_false (Ne.symm vT);have Qo:(168006=fL)=False:=eq_false (Ne.symm LM);refine qz ?_;simp only[P0]
     cases c
     ·simp only[go_sem,go_sem_proc,hm,aS,bV,Ql,Qm,Qn,Qo];repeat' (first|refine ax ?_ ?_|fail)<;>intro h<;>simp only[h,go_sem,go_sem_proc,hm,aS,bV,Ql,Qm,Qn,Qo]
      refine⟨_,rfl,by first|rfl|simp[go_sem,cC],λj aj=>?_⟩
      have Qp:j≠168004:=λh=>aj (.inl h);have Ct:j≠168006:=λh=>aj (.inr h)
      by_cases dZ:j=fL<;>simp[a2,rn,hm,Qp,Ct,dZ,vT,LM,bne]
     ·simp only[go_sem,go_sem_proc,hm,aS,bV,Ql,Qm,Qn,Qo];repeat' (first|refine ax ?_ ?_|fail)<;>intro h<;>simp only[h,go_sem,go_sem_proc,hm,aS,bV,Ql,Qm,Qn,Qo]
      refine⟨_,rfl,by first|rfl|simp[go_sem,cC],λj aj=>?_⟩
      have Qp:j≠168004:=λh=>aj (.inl h);have Ct:j≠168006:=λh=>aj (.inr h)
      by_cases dZ:j=fL<;>simp[a2,rn,hm,Qp,Ct,dZ,vT,LM,bne]
   ·cases h
  ·cases h
 ·cases h
abbrev dx:=Nat×Nat×List bc
def refsOf (N:Nat)(rows:List dx):List R:=rows.map λx => .ref (x.1+900000) x.2.1 4 0 (N+1)
structure Ax (go N:Nat) (rows:List dx) (bad:Bool) (mem:Mem):Prop where
 m:mem 129015=some (0,[.ref 129035 go 1 0 N,.J (.int .i64 N),.J (.bool bad)])
 o:mem 129035=some (go,refsOf N rows)
 r:∀x∈rows,mem (x.1+900000)=some (x.2.1,a9 aH x.2.2)
structure j2 (N:Nat) (rows:List dx):Prop where
 len:(D rows)=N
 Qq:(rows.map (·.1)).Nodup
 row:∀x∈rows,x.2.2.length=N+1/\∀f∈x.2.2,okF f
def Hz (k:Nat):Prop:=k<900000/\k≠129015/\k≠129035/\k≠148008/\k≠148010/\k≠148013
def kl (ez:Mem)(go N:Nat)(rows:List dx)(bad:Bool)(mem:Mem):Prop:=Ax go N rows bad mem/\∀k,Hz k->mem k=ez k
section
variable {ez mem:Mem} {go N:Nat} {rows:List dx} {l9:Bool}
theorem kl.flag (b:Bool)(h:kl ez go N rows l9 mem):kl ez go N rows b (a2 mem 129015 0 [.ref 129035 go 1 0 N,.J (.int .i64 N),.J (.bool b)]):=by
 refine⟨⟨by simp[a2],by simp[a2,h.1.o],λx Q=>?_⟩,λk O=>?_⟩
 ·rw[<-h.1.r x Q];exact ah (show ¬ ((x.1+900000:Nat)=129015) by omega)
 ·rw[<-h.2 k O];exact ah O.2.1
theorem kl.own {k g:Nat}{cs:List R}(O:k=148008\/k=148010\/k=148013)(h:kl ez go N rows l9 mem):kl ez go N rows l9 (a2 mem k g cs):=by
 have bG:∀j:Nat,j≠k->a2 mem k g cs j=mem j:=λj aj=>ah aj;refine⟨⟨by rw[bG _ (by omega)];exact h.1.m,by rw[bG _ (by omega)];exact h.1.o,λx Q=>by rw[bG _ (by omega)];exact h.1.r x Q⟩,λj aj=>?_⟩
 have:=aj.2;rw[bG _ (by omega)];exact h.2 j aj
theorem kl.set {i:Nat}{x:dx}(cU:j2 N rows)(M:rows[i]?=some x)(l:List bc)(h:kl ez go N rows l9 mem):kl ez go N (rows.set i (x.1,x.2.1,l)) l9 (a2 mem (x.1+900000) x.2.1 (a9 aH l)):=by
 have bG:∀j:Nat,j≠x.1+900000->a2 mem (x.1+900000) x.2.1 (a9 aH l) j=mem j:=λj aj=>ah aj;obtain⟨az,HA⟩:=dU.1 M;refine⟨⟨by rw[bG _ (by omega)];exact h.1.m,?_,λy av=>?_⟩,λj aj=>?_⟩
 ·rw[bG _ (by omega),h.1.o]
  congr 2
  unfold refsOf;apply pP;intro j;rw[bj,bj,nD]
  by_cases mB:i=j
  ·subst mB;rw[ad rfl,ad az,M]
   rfl
  ·rw[ah mB]
 ·obtain⟨j,aj⟩:=tQ.1 av;rw[nD] at aj
  by_cases mB:i=j
  ·subst mB;rw[ad rfl,ad az] at aj
   cases aj;simp[a2]
  ·rw[ah mB] at aj
   have aLQ:y.1≠x.1:=by
    intro he;have G:(rows.map (·.1))[j]?=some y.1:=by rw[bj,aj];rfl
    have I:(rows.map (·.1))[i]?=some y.1:=by rw[bj,M,he];rfl
    have aw:i<(rows.map (·.1)).length:=by rw[ak];exact az
    exact mB ((ahb aw cU.Qq).1 (I.trans G.symm))
   rw[bG (y.1+900000) (by omega)];exact h.1.r y (ee aj)
 ·have:=aj.1;rw[bG j (by omega)];exact h.2 j aj
theorem kl.swap {i j:Nat}{a b:dx}(M:rows[i]?=some a)(aj:rows[j]?=some b)(h:kl ez go N rows l9 mem):kl ez go N ((rows.set i b).set j a) l9 (a2 (a2 mem 129035 go (refsOf N (rows.set i b))) 129035 go (refsOf N ((rows.set i b).set j a))):=by
 have bG:∀k:Nat,k≠129035->a2 (a2 mem 129035 go (refsOf N (rows.set i b))) 129035 go (refsOf N ((rows.set i b).set j a)) k=mem k:=λk O=>by simp[a2,O]
 refine⟨⟨by rw[bG _ (by omega)];exact h.1.m,by simp[a2],λx Q=>?_⟩,λk O=>?_⟩
 ·rw[bG _ (by omega)];apply h.1.r;rcases EN Q with Q|rfl
  ·rcases EN Q with Q|rfl
   ·exact Q
   ·exact ee aj
  ·exact ee M
 ·rw[bG _ O.2.2.1];exact h.2 k O
theorem j2.set {i:Nat}{x:dx}(cU:j2 N rows)(M:rows[i]?=some x){l:List bc}(aw:(D l)=N+1)(aJ:∀f∈l,okF f):j2 N (rows.set i (x.1,x.2.1,l)):=by
 obtain⟨az,HA⟩:=dU.1 M;refine⟨by rw[iQ];exact cU.len,?_,λy av=>?_⟩
 ·have:(rows.set i (x.1,x.2.1,l)).map (·.1)=rows.map (·.1):=by
   rw[Ay];apply pP;intro j;rw[nD]
   by_cases mB:i=j
   ·subst mB;rw[ad rfl,ak,ad az,bj,M];rfl
   ·rw[ah mB]
  rw[this];exact cU.Qq
 ·rcases EN av with av|rfl
  ·exact cU.row y av
  ·exact⟨aw,aJ⟩
theorem au0 {α:Type}{l:List α}{i j:Nat}{a b:α}(M:l[i]?=some a)(aj:l[j]?=some b)(h:l.Nodup):((l.set i b).set j a).Nodup:=by
 obtain⟨ha,sT⟩:=dU.1 M;obtain⟨jf,N2⟩:=dU.1 aj
 have main:∀p q,p<q->q<(D l)->((l.set i b).set j a)[p]?≠((l.set i b).set j a)[q]?:=by
  intro p q Qr hq;rw[nD,nD,nD,nD];have inj:∀p q,p<(D l)->l[p]?=l[q]?->p=q:=λp q aE he=>(ahb aE h).1 he;simp only[iQ]
  by_cases G:j=p
  ·subst G;have I:¬ j=q:=by omega
   rw[ad rfl,ad jf,ah I]
   by_cases af:i=q
   ·subst af;rw[ad rfl,ad ha];intro he;rw[<-M,<-aj] at he;have:=inj _ _ ha he;omega
   ·rw[ah af,<-M];intro he;exact af (inj _ _ ha he)
  ·rw[ah G]
   by_cases af:i=p
   ·subst af;rw[ad rfl,ad ha]
    by_cases I:j=q
    ·subst I;rw[ad rfl,ad jf,<-M,<-aj];intro he;have:=inj _ _ jf he;omega
    ·rw[ah I,ah (by omega),<-aj];intro he;exact I (inj _ _ jf he)
   ·rw[ah af]
    by_cases I:j=q
    ·subst I;rw[ad rfl,ad jf,<-M];intro he;exact af (inj _ _ ha he.symm)
    ·rw[ah I]
     by_cases aS:i=q
     ·subst aS;rw[ad rfl,ad ha,<-aj];intro he;exact G (inj _ _ jf he.symm)
     ·rw[ah aS];intro he;have:=inj _ _ (by omega) he;omega
 refine List.pairwise_iff_getElem.2 λp q aE hq Qr he=>?_;simp only[iQ] at aE hq;refine main p q Qr hq ?_;rw[bs (by simpa using aE),bs (by simpa using hq),he]
theorem j2.swap {i j:Nat}{a b:dx}(cU:j2 N rows)(M:rows[i]?=some a)(aj:rows[j]?=some b):j2 N ((rows.set i b).set j a):=by
 refine⟨by rw[iQ,iQ];exact cU.len,?_,λx Q=>?_⟩
 ·rw[Ay,Ay];exact au0 (by rw[bj,M];rfl) (by rw[bj,aj];rfl) cU.Qq
 ·rcases EN Q with Q|rfl
  ·rcases EN Q with Q|rfl
   ·exact cU.row x Q
   ·exact cU.row _ (ee aj)
  ·exact cU.row _ (ee M)
end
theorem au1 {l:List bc}{i:Nat}{a b c d}(h:l[i]?=some ((a,b),(c,d))):cut (a9 aH l) (i*4) 4=some [.J (.int .i64 a),.J (.Y (b.map ae)),.J (.int .i64 c),.J (.Y (d.map ae))]:=by
 have:=T6 lG h (f:=0) (n:=4) (by omega);rw[nZ] at this;rw[this]
 rfl
theorem au2 {N:Nat}{rows:List dx}{i:Nat}{x:dx}(h:rows[i]?=some x):cut (refsOf N rows) i 1=some [.ref (x.1+900000) x.2.1 4 0 (N+1)]:=by
 obtain⟨az,rfl⟩:=dU.1 h;unfold cut refsOf;rw[ad (by rw[ak];omega),<-List.map_drop,ir az]
 rfl
theorem au3 {l m:List bc}(h:a9 aH l=a9 aH m):l=m:=VK lG mM _ _ h (by omega)
def nE (f:bc):Bool:=f.1.1==0
def cellOf (x:dx)(c:Nat):bc:=x.2.2.getD c fm
def findAt (rows:List dx)(r c:Nat):Nat:=r+(rows.drop r).findIdx λx => !nE (cellOf x c)
def jo (fB:bc):List bc->List bc->Bool->List bc×Bool
 |f::dN,p::ps,false=>((py f (od fB p).1).1::(jo fB dN ps ((od fB p).2 != 0||(py f (od fB p).1).2 != 0)).1,(jo fB dN ps ((od fB p).2 != 0||(py f (od fB p).1).2 != 0)).2)
 |dN,_,b=>(dN,b)
def j3 (fV:List bc)(r c:Nat):Nat->List dx->Bool->List dx×Bool
 |_,[],bad=>([],bad)
 |i,x::xs,bad=>if (i==r||nE (cellOf x c))=true then (x::(j3 fV r c (i+1) xs bad).1,(j3 fV r c (i+1) xs bad).2) else
  ((x.1,x.2.1,(jo (cellOf x c) x.2.2 fV bad).1)::(j3 fV r c (i+1) xs (jo (cellOf x c) x.2.2 fV bad).2).1,(j3 fV r c (i+1) xs (jo (cellOf x c) x.2.2 fV bad).2).2)
def hZ (Lu:bc)(l:List bc):List bc×Bool:=(l.map λf=>(jZ f Lu).1,l.any λf=>(jZ f Lu).2 != 0)
def rowAt (rows:List dx)(i:Nat):dx:=rows.getD i (0,0,[])
def qW (rows:List dx)(i j:Nat):List dx:=(rows.set i (rowAt rows j)).set j (rowAt rows i)
def EP (rows:List dx)(r c:Nat):List dx:=rows.set r ((rowAt rows r).1,(rowAt rows r).2.1,(hZ (cellOf (rowAt rows r) c) (rowAt rows r).2.2).1)
def iK (rows:List dx)(r c:Nat):Bool×List dx×Bool :=
 if findAt rows r c=(D rows) then (true,rows,false) else
  (false,j3 (hZ (cellOf (rowAt (qW rows r (findAt rows r c)) r) c) (rowAt (qW rows r (findAt rows r c)) r).2.2).1 r c 0 (EP (qW rows r (findAt rows r c)) r c)
   (hZ (cellOf (rowAt (qW rows r (findAt rows r c)) r) c) (rowAt (qW rows r (findAt rows r c)) r).2.2).2)
theorem au4 {rows:List dx}{r c i:Nat}{x:dx}(Q:rows[i]?=some x)(ab:r<=i)(aW:∀j y,r<=j->j<i->rows[j]?=some y->nE (cellOf y c)=true)(h:nE (cellOf x c)=false):findAt rows r c=i:=by
 unfold findAt;obtain⟨az,HA⟩:=dU.1 Q
 have:(rows.drop r).findIdx (λx => !nE (cellOf x c))=i-r:=by
  rw[List.findIdx_eq (by rw[rG];omega)];refine⟨?_,λj aj=>?_⟩
  ·rw[LN];have:rows[r+(i-r)]?=some x:=by rw[show r+(i-r)=i by omega];exact Q
   rw[(dU.1 this).2,h];rfl
  ·rw[LN];have:=aW (r+j) _ (by omega) (by omega) (bs (by omega));rw[this];rfl
 omega
theorem au5 {rows:List dx}{r c:Nat}(ab:r<=D rows)(aW:∀j y,r<=j->rows[j]?=some y->nE (cellOf y c)=true):findAt rows r c=D rows:=by
 unfold findAt
 have:(rows.drop r).findIdx (λx => !nE (cellOf x c))=(rows.drop r).length:=by
  rw[List.findIdx_eq_length];intro y av;obtain⟨j,aj⟩:=tQ.1 av;rw[lo] at aj;rw[aW (r+j) y (by omega) aj];rfl
 rw[this,rG];omega
theorem k9 {x:Rat}(h:di x):okF (ao x):=⟨nB h.1,nB (xd h)⟩
theorem uu:okF fm:=⟨by simp[fm],by simp[fm]⟩
theorem au6 (p q:Raw):okF (hD p q).1:=by
 unfold hD
 split
 ·rename_i h;rw[eW] at h;obtain⟨x,Q,ay⟩:=(jV _).1 h.1;obtain⟨y,av,aC⟩:=(jV _).1 h.2
  split
  ·exact uu
  ·rw[ay,aC,fO,fO];exact k9 (PS Q av)
 ·exact uu
theorem YB (p q:Raw×Int):okF (vO p q).1:=by
 unfold vO
 split
 ·split
  ·exact au6 _ _
  ·exact uu
 ·exact uu
theorem au7 (a b:bc):okF (vP a b).1:=by
 unfold vP
 split
 ·split
  ·exact YB _ _
  ·exact uu
 ·exact uu
theorem ahc (a b:bc):okF (py a b).1:=by
 unfold py
 split
 ·split
  ·exact au7 _ _
  ·exact uu
 ·exact uu
theorem au8 (a b:bc):okF (od a b).1:=by
 unfold od
 split
 ·split
  ·exact YB _ _
  ·exact uu
 ·exact uu
theorem ahd (a b:bc):okF (jZ a b).1:=by
 unfold jZ
 split
 ·split
  ·split
   ·exact uu
   ·exact YB _ _
  ·exact uu
 ·exact uu
theorem YC {x:dx}{c:Nat}{f:bc}(h:x.2.2[c]?=some f):cellOf x c=f:=by
 unfold cellOf;rw[dX,h]
 rfl
theorem xq {rows:List dx}{i:Nat}{x:dx}(h:rows[i]?=some x):rowAt rows i=x:=by
 unfold rowAt;rw[dX,h]
 rfl
theorem Az {l:List bc}{k:Nat}(h:k<D l):(k*4+4<=(a9 aH l).length)=True:=eq_true (by rw[oP lG];omega)
theorem AA {l:List bc}{k:Nat}{a b c d}(h:l[k]?=some ((a,b),(c,d))):fJ 4 (fT (k*4) (a9 aH l))=[.J (.int .i64 a),.J (.Y (b.map ae)),.J (.int .i64 c),.J (.Y (d.map ae))]:=by
 have:=au1 h;unfold cut at this;rw[ad (by rw[oP lG];have:=(dU.1 h).1;omega)] at this;exact n0 this
theorem LO {l:List bc}{k:Nat}(h:k<D l)(a:Int)(b:List Int)(c:Int)(d:List Int):
  fJ (k*4) (a9 aH l)++[R.J (.int .i64 a),.J (.Y (b.map ae)),.J (.int .i64 c),.J (.Y (d.map ae))]++fT (k*4+4) (a9 aH l)=a9 aH (l.set k ((a,b),(c,d))):=by
 rw[<-aeL lG h]
 rfl
theorem ER {N:Nat}{rows:List dx}{i:Nat}(h:i<D rows):(i+1<=(refsOf N rows).length)=True:=eq_true (by unfold refsOf;rw[ak];omega)
theorem HB {N:Nat}{rows:List dx}{i:Nat}{x:dx}(h:rows[i]?=some x):fJ 1 (fT i (refsOf N rows))=[.ref (x.1+900000) x.2.1 4 0 (N+1)]:=by
 have:=au2 (N:=N) h;unfold cut at this;rw[ad (by unfold refsOf;rw[ak];have:=(dU.1 h).1;omega)] at this;exact n0 this
theorem ahe {N:Nat}{rows:List dx}{i:Nat}(h:i<D rows)(b:dx):fJ i (refsOf N rows)++[R.ref (b.1+900000) b.2.1 4 0 (N+1)]++fT (i+1) (refsOf N rows)=refsOf N (rows.set i b):=by
 unfold refsOf;rw[Ay,List.set_eq_take_append_cons_drop,ad (by rw[ak];exact h),gb]
 rfl
theorem ahf (fB:bc):∀(l p:List bc) (b:Bool),(jo fB l p b).1.length=D l
 | [],_,_=>by simp[jo]
 |f::dN,[],b=>by cases b<;>simp[jo]
 |f::dN,p::ps,true=>by simp[jo]
 |f::dN,p::ps,false=>by simp[jo,ahf fB dN ps]
theorem YD (fB:bc)(l p:List bc):jo fB l p true=(l,true):=by
 cases l<;>cases p<;>simp[jo]
theorem ahg (fB:bc)(p:List bc)(b:Bool):jo fB [] p b=([],b):=by
 cases b<;>simp[jo]
theorem au9 {α:Type}(f:α->α){l:List α}{k:Nat}{x:α}(h:l[k]?=some x):((l.take k).map f++l.drop k).set k (f x)=(l.take (k+1)).map f++l.drop (k+1):=by
 obtain⟨az,Q⟩:=dU.1 h;have aw:((l.take k).map f).length=k:=by rw[ak,gF];omega
 rw[ES _ _ (by omega),aw,mu,ir az,rX,g4,h,kG,gb]
 rfl
theorem ava {α:Type}(f:α->α){l:List α}{k:Nat}:((l.take k).map f++l.drop k)[k]?=l[k]?:=by
 rcases iq k (D l) with h|h
 ·have aw:((l.take k).map f).length=k:=by rw[ak,gF];omega
  rw[ru (by omega),aw,mu,lo,nZ]
 ·rw[mr h,mr (by rw[fG,ak,gF,rG];omega)]
theorem YE {α:Type}{rows:List α}{r i:Nat}{x xr:α}(Q:rows[i]?=some x)(pC:rows[r]?=some xr):((rows.set r x).set i xr)[r]?=some x:=by
 have G:=(dU.1 Q).1;have I:=(dU.1 pC).1;rw[nD,nD,iQ]
 by_cases h:i=r
 ·subst h;rw[Q] at pC
  cases pC;rw[ad rfl,ad G]
 ·rw[ah h,ad rfl,ad I]
theorem YF {α:Type}{l:List α}{i:Nat}{x:α}(h:l[i]?=some x):l.set i x=l:=by
 obtain⟨az,Q⟩:=dU.1 h;apply pP;intro j;rw[nD]
 by_cases mB:i=j
 ·subst mB;rw[ad rfl,ad az,h]
 ·rw[ah mB]
theorem avb (a b:Nat):(!(a+900000==129015)||decide (2<b*4))=true:=by
 have:(a+900000==129015)=false:=by simp
 rw[this];rfl
theorem YG:Hz 168004:=by unfold Hz;omega
theorem YH:Hz 168006:=by unfold Hz;omega
def eu.sub:eu->List Nat->eu
 |.seq a _,0::p=>a.sub p
 |.seq _ b,_::p=>b.sub p
 |.cond _ a _,0::p=>a.sub p
 |.cond _ _ b,_::p=>b.sub p
 |.block _ c,_::p=>c.sub p
 |.ghost _ c,_::p=>c.sub p
 |.loop c,_::p=>c.sub p
 |c,_=>c
def avc (f:bc):List R:=[.J (.int .i64 f.1.1),.J (.Y (f.1.2.map ae)),.J (.int .i64 f.2.1),.J (.Y (f.2.2.map ae))]
theorem avd (T:bb)(xt:T BK=Cs Aw)(nd:T yv=aU Al)(gk:T tS=aU xg){K:eT->a8->Prop}{kk:List gu}
  (go N r c i2:Nat) (mem:Mem) (Cu:mem 168004=none) (Cv:mem 168006=none) (gI:N<=40) (pD:List dx) (sU:j2 N pD) (x y:dx) (fV:List bc) (xu:pD[i2]?=some y) (bB:pD[r]?=some (x.1,x.2.1,fV)) (ET:i2≠r) (uv:r<N) (l9:Bool)
  (cz:Int) (cf:List Int) (g3:Int) (jq:List Int) (oX:okF ((cz,cf),(g3,jq))) (tm:Nat->R) (m:Mem) (bR:Nat)
  (bl:tm 0=.ptr 129015 0 0) (ay:tm 1=.J (.int .i64 r)) (aC:tm 2=.J (.int .i64 c)) (eX:tm 12=.ref (y.1+900000) y.2.1 4 0 (N+1)) (gl:tm 13=.ptr 148013 bR 0) (p5:tm 112=.ref 129035 go 1 0 N) (LP:tm 113=.J (.int .i64 N)) (LQ:tm 114=.J (.int .i64 i2)) (xv:tm 14=.J (.int .i64 0))
  (em:m 148013=some (bR,[.J (.int .i64 cz),.J (.Y (cf.map ae)),.J (.int .i64 g3),.J (.Y (jq.map ae))])) (gJ:kl mem go N pD l9 m)
  (dK:∀tm' m' l b,tm' 0=.ptr 129015 0 0->tm' 1=.J (.int .i64 r)->tm' 2=.J (.int .i64 c)->tm' 112=.ref 129035 go 1 0 N->tm' 113=.J (.int .i64 N)->tm' 114=.J (.int .i64 i2)->(l,b)=jo ((cz,cf),(g3,jq)) y.2.2 fV l9->j2 N (pD.set i2 (y.1,y.2.1,l))->kl mem go N (pD.set i2 (y.1,y.2.1,l)) b m'->cD T K kk (.exit 6) ⟨tm',m'⟩) :
  wp T (yT.body.sub [1,1,1,1,1,1,1,0,1,0,0,1,1,0,0,1,1,1,1,0]) (cD T K kk) ⟨tm,m⟩:=by
 simp only[yT,eu.sub];have ave:i2<N:=by rw[<-sU.len];exact (dU.1 xu).1
 obtain⟨zy,Qs⟩:=sU.row y (ee xu);have avf:pD.set i2 (y.1,y.2.1,[]++y.2.2.drop 0)=pD:=YF xu
 refine dd [0,1,2,12,13,112,113,114] [148013] (λ((k,pre,b):Nat×List bc×Bool) tm m=>k<=N+1/\D pre=k/\(∀f∈pre,okF f)/\jo ((cz,cf),(g3,jq)) y.2.2 fV l9=(pre++(jo ((cz,cf),(g3,jq)) (y.2.2.drop k) (fV.drop k) b).1,(jo ((cz,cf),(g3,jq)) (y.2.2.drop k) (fV.drop k) b).2)/\tm 14=.J (.int .i64 k)/\kl mem go N (pD.set i2 (y.1,y.2.1,pre++y.2.2.drop k)) b m) (λ(k,_,_)=>N+1-k) (0,[],l9) (by
  refine⟨ft _,rfl,(by simp),rfl,xv,?_⟩;rw[avf];exact gJ) ?_
 intro vs ms aP aO;simp only[go_sem,go_sem_proc,bl,ay,aC,eX,gl,p5,LP,LQ,em] at aP aO;subst aP aO;clear bl ay aC eX gl p5 LP LQ em xv gJ tm m;rintro⟨eI,pre,b⟩ tm n7 O hm ⟨aLR,B5,HC,LR,w4,uw⟩;simp only[go_sem,go_sem_proc,a3] at O hm;obtain⟨ar,G,I,iy,n6,sV,sW,sX⟩:=O;have avg:(pre++y.2.2.drop eI).length=N+1:=by rw[fG,rG];omega
 have HD:j2 N (pD.set i2 (y.1,y.2.1,pre++y.2.2.drop eI)):=sU.set xu avg λf aJ=>by
  rw[jj] at aJ;rcases aJ with aJ|aJ
  ·exact HC f aJ
  ·exact Qs f (K6 aJ)
 have ahh:(pD.set i2 (y.1,y.2.1,pre++y.2.2.drop eI))[i2]?=some (y.1,y.2.1,pre++y.2.2.drop eI):=by
  rw[nD,ad rfl,ad (by rw[sU.len];exact ave)]
 have yL:(pD.set i2 (y.1,y.2.1,pre++y.2.2.drop eI))[r]?=some (x.1,x.2.1,fV):=by
  rw[nD,ah ET];exact bB
 have rY:=uw.1.m;have ux:=uw.1.o;rcases dn (eI<N+1) with avh|aLS
 ·have p6:decide ((eI:Int)<((N+1:Nat):Int))=true:=c6
  cases b
  ·obtain⟨⟨⟨cW,de⟩,⟨ej,fa⟩⟩,uy⟩:∃f,y.2.2[eI]?=some f:=⟨_,bs (by omega)⟩;have aLT:(D fV)=N+1:=(sU.row _ (ee bB)).1;obtain⟨⟨⟨ia,iF⟩,⟨qX,sY⟩⟩,p7⟩:∃f,fV[eI]?=some f:=⟨_,bs (by omega)⟩;have vf:=Qs _ (ee uy);have ahi:=(sU.row _ (ee bB)).2 _ (ee p7)
   have YI:(pre++y.2.2.drop eI)[eI]?=some ((cW,de),(ej,fa)):=by
    rw[ru (by omega),B5,mu,lo,nZ,uy]
   have jT:y.2.2.drop eI=((cW,de),(ej,fa))::y.2.2.drop (eI+1):=by
    obtain⟨aw,e⟩:=dU.1 uy;rw[ir aw,e]
   have mE:fV.drop eI=((ia,iF),(qX,sY))::fV.drop (eI+1):=by
    obtain⟨aw,e⟩:=dU.1 p7;rw[ir aw,e]
   have lq:∀s:bc,(pre++y.2.2.drop eI).set eI s=(pre++[s])++y.2.2.drop (eI+1):=λs=>by
    rw[ES _ _ (by omega),B5,mu,jT,rX,gb];rfl
   have avi:=uw.1.r _ (ee ahh);have avj:=uw.1.r _ (ee yL);have om:n7 168004=none:=(uw.2 _ YG).trans Cu;have Cw:n7 168006=none:=(uw.2 _ YH).trans Cv;have t1:=HB (N:=N) yL;have t2:=ER (N:=N) (rows:=pD.set i2 (y.1,y.2.1,pre++y.2.2.drop eI)) (i:=r) (by rw[HD.len];exact uv);have t3:=AA YI;have t4:=Az (l:=pre++y.2.2.drop eI) (k:=eI) (by omega);have t5:=AA p7;have t6:=Az (l:=fV) (k:=eI) (by omega);have jw:=eA (i:=eI) (by omega);have YJ:=au8 ((cz,cf),(g3,jq)) ((ia,iF),(qX,sY));have yW:=ahc ((cW,de),(ej,fa)) (od ((cz,cf),(g3,jq)) ((ia,iF),(qX,sY))).1;have LS:=LR;rw[jT,mE] at LS;simp only[jo] at LS;generalize na:od ((cz,cf),(g3,jq)) ((ia,iF),(qX,sY))=bg at *;obtain⟨⟨⟨qx,kx⟩,⟨avk,avl⟩⟩,ay⟩:=bg;dsimp only at yW LS YJ;generalize cN:py ((cW,de),(ej,fa)) ((qx,kx),(avk,avl))=S at *;obtain⟨⟨⟨v1,v2⟩,⟨vU,v4⟩⟩,aC⟩:=S;dsimp only at yW LS;have t7:=LO (l:=pre++y.2.2.drop eI) (k:=eI) (by omega) v1 v2 vU v4;refine aX ?_;repeat' (intro h<;>simp only[h,go_sem,go_sem_proc,xt,gk,nd,ar,G,I,iy,n6,w4,sV,sW,sX,hm,rY,ux,avi,avj,om,Cw,t1,t2,t3,t4,t5,t6,t7,p6,avh,uv,jw,na,cN,vf.1,vf.2,ahi.1,ahi.2,oX.1,oX.2,YJ.1,YJ.2,avc,eB,aH,cI,Aw,HE,rX,decide_true,decide_false,ahj,ne_eq,not_false_eq_true,and_self]<;>try refine ax ?_ ?_)
   have cX:=kl.set HD ahh ((pre++y.2.2.drop eI).set eI ((v1,v2),(vU,v4))) ((uw.flag (ay != 0)).flag (ay != 0||aC != 0));rw[ahk,lq] at cX;refine⟨avb _ _,(eI+1,pre++[((v1,v2),(vU,v4))],(ay != 0||aC != 0)),by dsimp only;omega,by dsimp only;omega,by simp[B5],?_,?_,rfl,?_⟩
   ·intro f aJ;rw[jj,ue] at aJ;rcases aJ with aJ|rfl
    ·exact HC f aJ
    ·exact yW
   ·rw[LS];dsimp only;rw[gb]
    rfl
   ·dsimp only;rw[lq];exact cX
  ·rw[YD] at LR;refine aX ?_;repeat' (intro h<;>simp only[h,go_sem,go_sem_proc,ar,G,I,iy,n6,w4,sV,sW,sX,rY,ux,p6]<;>try refine ax ?_ ?_)
   refine dK _ _ (pre++y.2.2.drop eI) true ?_ ?_ ?_ ?_ ?_ ?_ LR.symm HD uw<;>simp only[eE,dC,if_false,ar,G,I,sV,sW,sX]
 ·have p6:decide ((eI:Int)<((N+1:Nat):Int))=false:=cY;have pR:y.2.2.drop eI=[]:=jJ (by omega);rw[pR,ahg,<-pR] at LR;refine aX ?_;repeat' (intro h<;>simp only[h,go_sem,go_sem_proc,ar,G,I,iy,n6,w4,sV,sW,sX,rY,ux,p6]<;>try refine ax ?_ ?_)
  refine dK _ _ (pre++y.2.2.drop eI) b ?_ ?_ ?_ ?_ ?_ ?_ LR.symm HD uw<;>simp only[eE,dC,if_false,ar,G,I,sV,sW,sX]
theorem avm (T:bb)(yX:T KA=aU Qj)(xt:T BK=Cs Aw)(nd:T yv=aU Al)(gk:T tS=aU xg){K:eT->a8->Prop}{kk:List gu}
  (go N r c:Nat) (mem:Mem) (Cu:mem 168004=none) (Cv:mem 168006=none) (gI:N<=40) (uv:r<N) (AB:c<N+1) (iL:List dx) (EU:j2 N iL) (x:dx) (fV:List bc) (w8:iL[r]?=some (x.1,x.2.1,fV)) (HF:Bool) (tm:Nat->R) (m:Mem)
  (bl:tm 0=.ptr 129015 0 0) (ay:tm 1=.J (.int .i64 r)) (aC:tm 2=.J (.int .i64 c)) (p5:tm 112=.ref 129035 go 1 0 N) (LP:tm 113=.J (.int .i64 N)) (LQ:tm 114=.J (.int .i64 0)) (gJ:kl mem go N iL HF m)
  (dK:∀tm' m',kl mem go N (j3 fV r c 0 iL HF).1 (j3 fV r c 0 iL HF).2 m'->cD T K kk (.exit 4) ⟨tm',m'⟩) :
  wp T (yT.body.sub [1,1,1,1,1,1,1,0,1,0]) (cD T K kk) ⟨tm,m⟩:=by
 simp only[yT,eu.sub]
 refine dd [0,1,2,112,113] [] (λ((i2,p8,l9):Nat×List dx×Bool) tm m=>i2<=N/\D p8=i2/\j3 fV r c 0 iL HF=(p8++(j3 fV r c i2 (iL.drop i2) l9).1,(j3 fV r c i2 (iL.drop i2) l9).2)/\j2 N (p8++iL.drop i2)/\(p8++iL.drop i2)[r]?=some (x.1,x.2.1,fV)/\tm 114=.J (.int .i64 i2)/\kl mem go N (p8++iL.drop i2) l9 m) (λ(i2,_,_)=>N-i2) (0,[],HF) (by
  exact⟨ft _,rfl,rfl,EU,w8,LQ,gJ⟩) ?_
 intro vs ms aP aO;simp only[go_sem,go_sem_proc,bl,ay,aC,p5,LP] at aP aO;subst aP aO;clear bl ay aC p5 LP LQ gJ tm m;rintro⟨i2,p8,l9⟩ tm cJ O hm ⟨nY,ki,kT,sU,bB,sX,vV⟩;simp only[go_sem,go_sem_proc,a3] at O hm;obtain⟨ar,G,I,sV,sW⟩:=O;have rY:=vV.1.m;have ux:=vV.1.o;have aLU:(D iL)=N:=EU.len;rcases dn (i2<N) with HG|aLV
 ·obtain⟨y,av⟩:∃y,iL[i2]?=some y:=⟨_,bs (by omega)⟩
  have G8:iL.drop i2=y::iL.drop (i2+1):=by
   obtain⟨aw,rfl⟩:=dU.1 av;exact ir aw
  have xu:(p8++iL.drop i2)[i2]?=some y:=by
   rw[ru (by omega),ki,mu,lo,nZ,av]
  obtain⟨zy,Qs⟩:=sU.row y (ee xu);have LU:=vV.1.r y (ee xu);obtain⟨⟨⟨cz,cf⟩,⟨g3,jq⟩⟩,ba⟩:∃f,y.2.2[c]?=some f:=⟨_,bs (by omega)⟩;have xa:=YC ba;have t1:=HB (N:=N) xu;have t2:=ER (N:=N) (rows:=p8++iL.drop i2) (i:=i2) (by rw[sU.len];exact HG);have t3:=AA ba;have t4:=Az (l:=y.2.2) (k:=c) (by omega);have ha:decide ((i2:Int)<(N:Int))=true:=c6;have hw:=eA (i:=i2) (by omega)
  have zx:∀z:dx,(p8++[z])++iL.drop (i2+1)=(p8++iL.drop i2).set i2 z:=λz=>by
   rw[ES _ _ (by omega),ki,mu,G8,rX,gb];rfl
  have HH:(p8++[y])++iL.drop (i2+1)=p8++iL.drop i2:=by rw[zx];exact YF xu
  have ahl:∀b:Bool,(b=true->i2=r\/(cz==0)=true)->b=true->j3 fV r c 0 iL HF=((p8++[y])++(j3 fV r c (i2+1) (iL.drop (i2+1)) l9).1,(j3 fV r c (i2+1) (iL.drop (i2+1)) l9).2):=by
   intro b ag Yf
   have LV:(i2==r||nE (cellOf y c))=true:=by
    rcases ag Yf with h|h
    ·rw[h,beq_self_eq_true];rfl
    ·rw[xa];have:nE ((cz,cf),(g3,jq))=true:=h;rw[this,Bool.or_true]
   rw[kT,G8];simp only[j3];rw[ad LV,gb]
   rfl
  rcases p9:((i2:Int)==(r:Int))
  ·have ET:i2≠r:=by intro h;rw[h] at p9;simp at p9
   rcases AD:(cz==0)
   ·have oX:okF ((cz,cf),(g3,jq)):=Qs _ (ee ba);simp only[go_sem,go_sem_proc,yX,ar,G,I,sV,sW,sX,rY,ux,LU,t1,t2,t3,t4,HG,ha,AB,p9,AD,cI];refine avd T xt nd gk go N r c i2 mem Cu Cv gI (p8++iL.drop i2) sU x y fV xu bB ET uv l9 cz cf g3 jq oX _ _ (gG (cJ 148013)) ?_ ?_ ?_ ?_ ?_ ?_ ?_ ?_ ?_ ?_ ((vV.own (.inr (.inr rfl))).own (.inr (.inr rfl))) ?_
    ·exact ar
    ·exact G
    ·exact I
    ·rfl
    ·rfl
    ·exact sV
    ·exact sW
    ·exact sX
    ·rfl
    ·simp[a2]
    ·intro tm' m' l b fL b9 dc LW ahm ahn kA HD uw;simp only[go_sem,go_sem_proc,ar,G,I,fL,b9,dc,LW,ahm,ahn,hw];repeat' (first|refine ax ?_ ?_|fail)<;>intro h<;>simp only[h,go_sem,go_sem_proc,ar,G,I,fL,b9,dc,LW,ahm,ahn,hw]
     refine⟨(i2+1,p8++[(y.1,y.2.1,l)],b),by dsimp only;omega,by dsimp only;omega,by simp[ki],?_,by dsimp only;rw[zx];exact HD,by dsimp only;rw[zx,nD,ah ET];exact bB,rfl,?_⟩
     ·have LV:¬ (i2==r||nE (cellOf y c))=true:=by
       rw[xa];have G:nE ((cz,cf),(g3,jq))=false:=AD;have I:(i2==r)=false:=by simpa using ET
       rw[G,I];simp
      rw[kT,G8];simp only[j3];rw[ah LV,xa,<-kA,gb]
      rfl
     ·dsimp only;rw[zx];exact uw
   ·simp only[go_sem,go_sem_proc,yX,ar,G,I,sV,sW,sX,rY,ux,LU,t1,t2,t3,t4,HG,ha,AB,hw,p9,AD,cI];repeat' (first|refine ax ?_ ?_|fail)<;>intro h<;>simp only[h,go_sem,go_sem_proc,yX,ar,G,I,sV,sW,sX,rY,ux,LU,t1,t2,t3,t4,HG,ha,AB,hw,p9,AD,cI]
    refine⟨(i2+1,p8++[y],l9),by dsimp only;omega,by dsimp only;omega,by simp[ki],ahl true (λ_ => .inr AD) rfl,by dsimp only;rw[HH];exact sU,by dsimp only;rw[HH];exact bB,rfl,?_⟩
    dsimp only;rw[HH];exact (vV.own (.inr (.inr rfl))).own (.inr (.inr rfl))
  ·have ET:i2=r:=by have h:=beq_iff_eq.1 p9;omega
   simp only[go_sem,go_sem_proc,yX,ar,G,I,sV,sW,sX,rY,ux,LU,t1,t2,t3,t4,HG,ha,AB,hw,p9,cI];repeat' (first|refine ax ?_ ?_|fail)<;>intro h<;>simp only[h,go_sem,go_sem_proc,yX,ar,G,I,sV,sW,sX,rY,ux,LU,t1,t2,t3,t4,HG,ha,AB,hw,p9,cI]
   refine⟨(i2+1,p8++[y],l9),by dsimp only;omega,by dsimp only;omega,by simp[ki],ahl true (λ_ => .inl ET) rfl,by dsimp only;rw[HH];exact sU,by dsimp only;rw[HH];exact bB,rfl,?_⟩
   dsimp only;rw[HH];exact (vV.own (.inr (.inr rfl))).own (.inr (.inr rfl))
 ·have cF:i2=N:=by omega
  have ha:decide ((i2:Int)<(N:Int))=false:=cY;have Oo:iL.drop i2=[]:=jJ (by omega);rw[Oo] at kT vV;simp only[j3,fv] at kT vV;rw[kT] at dK;simp only[go_sem,go_sem_proc,ar,G,I,sV,sW,sX,rY,ux,ha];repeat' (first|refine ax ?_ ?_|fail)<;>intro h<;>simp only[h,go_sem,go_sem_proc,ar,G,I,sV,sW,sX,rY,ux,ha]
  exact dK _ _ vV
theorem avn (T:bb)(xt:T BK=Cs Aw)(pE:T DZ=aU EF){K:eT->a8->Prop}{kk:List gu}
  (go N r c:Nat) (mem:Mem) (Cu:mem 168004=none) (Cv:mem 168006=none) (gI:N<=40) (uv:r<N) (ib:List dx) (HI:j2 N ib) (x:dx) (yY:ib[r]?=some x) (f1:Int) (f2:List Int) (f3:Int) (f4:List Int) (lr:okF ((f1,f2),(f3,f4))) (tm:Nat->R) (m:Mem) (bR:Nat)
  (bl:tm 0=.ptr 129015 0 0) (ay:tm 1=.J (.int .i64 r)) (aC:tm 2=.J (.int .i64 c)) (cE:tm 8=.ptr 148008 bR 0) (aho:tm 85=.ref (x.1+900000) x.2.1 4 0 (N+1)) (ahp:tm 86=.J (.int .i64 ((N+1:Nat):Int))) (ahq:tm 87=.J (.int .i64 0))
  (em:m 148008=some (bR,[.J (.int .i64 f1),.J (.Y (f2.map ae)),.J (.int .i64 f3),.J (.Y (f4.map ae))])) (gJ:kl mem go N ib false m)
  (dK:∀tm' m',tm' 0=.ptr 129015 0 0->tm' 1=.J (.int .i64 r)->tm' 2=.J (.int .i64 c)->j2 N (ib.set r (x.1,x.2.1,(hZ ((f1,f2),(f3,f4)) x.2.2).1))->kl mem go N (ib.set r (x.1,x.2.1,(hZ ((f1,f2),(f3,f4)) x.2.2).1)) (hZ ((f1,f2),(f3,f4)) x.2.2).2 m'->cD T K kk (.exit 2) ⟨tm',m'⟩) :
  wp T (yT.body.sub [1,1,1,1,1,1,0,1,0]) (cD T K kk) ⟨tm,m⟩:=by
 simp only[yT,eu.sub];obtain⟨tw,HJ⟩:=HI.row x (ee yY)
 have avo:∀l:List bc,(ib.set r (x.1,x.2.1,l))[r]?=some (x.1,x.2.1,l):=λl=>by
  rw[nD,ad rfl,ad (by rw[HI.len];exact uv)]
 refine dd [0,1,2,8,85,86] [148008] (λ(k:Nat) tm m=>k<=N+1/\tm 87=.J (.int .i64 k)/\kl mem go N (ib.set r (x.1,x.2.1,(x.2.2.take k).map (λf=>(jZ f ((f1,f2),(f3,f4))).1)++x.2.2.drop k)) ((x.2.2.take k).any λf=>(jZ f ((f1,f2),(f3,f4))).2 != 0) m) (λk=>N+1-k) 0 (by
  refine⟨ft _,ahq,?_⟩;have e:ib.set r (x.1,x.2.1,(x.2.2.take 0).map (λf=>(jZ f ((f1,f2),(f3,f4))).1)++x.2.2.drop 0)=ib:=YF yY;rw[e];exact gJ) ?_
 intro vs ms aP aO;simp only[go_sem,go_sem_proc,bl,ay,aC,cE,aho,ahp,em] at aP aO;subst aP aO;clear bl ay aC cE aho ahp ahq em gJ tm m;rintro k tm m O hm ⟨o0,ahr,gJ⟩;simp only[go_sem,go_sem_proc,a3] at O hm;obtain⟨ar,G,I,ca,ahs,aht⟩:=O
 have eM:((x.2.2.take k).map (λf=>(jZ f ((f1,f2),(f3,f4))).1)++x.2.2.drop k).length=N+1:=by
  rw[fG,ak,gF,rG];omega
 have EU:j2 N (ib.set r (x.1,x.2.1,(x.2.2.take k).map (λf=>(jZ f ((f1,f2),(f3,f4))).1)++x.2.2.drop k)):=by
  refine HI.set yY eM λf aJ=>?_;rw[jj] at aJ;rcases aJ with aJ|aJ
  ·obtain⟨hc,-,rfl⟩:=dR.1 aJ;exact ahd _ _
  ·exact HJ f (K6 aJ)
 have w8:=avo ((x.2.2.take k).map (λf=>(jZ f ((f1,f2),(f3,f4))).1)++x.2.2.drop k);rcases dn (k<N+1) with Cx|YK
 ·obtain⟨⟨⟨cW,de⟩,⟨ej,fa⟩⟩,uy⟩:∃f,x.2.2[k]?=some f:=⟨_,bs (by omega)⟩;have YI:=(ava (λf=>(jZ f ((f1,f2),(f3,f4))).1) (l:=x.2.2) (k:=k)).trans uy;have lq:=au9 (λf=>(jZ f ((f1,f2),(f3,f4))).1) uy
  have Kh:(x.2.2.take (k+1)).any (λf=>(jZ f ((f1,f2),(f3,f4))).2 != 0)=((x.2.2.take k).any (λf=>(jZ f ((f1,f2),(f3,f4))).2 != 0)||(jZ ((cW,de),(ej,fa)) ((f1,f2),(f3,f4))).2 != 0):=by
   rw[g4,uy,List.any_append];simp
  obtain⟨avp,avq⟩:=HJ _ (ee uy);generalize (x.2.2.take k).map (λf=>(jZ f ((f1,f2),(f3,f4))).1)++x.2.2.drop k=cur at *;generalize ((x.2.2.take k).any λf=>(jZ f ((f1,f2),(f3,f4))).2 != 0)=l9 at *;have rY:=gJ.1.m;have ux:=gJ.1.o;have avr:=gJ.1.r _ (ee w8);have om:m 168004=none:=(gJ.2 _ YG).trans Cu;have Cw:m 168006=none:=(gJ.2 _ YH).trans Cv;have t1:=HB (N:=N) w8;have t2:=ER (N:=N) (rows:=ib.set r (x.1,x.2.1,cur)) (i:=r) (by rw[EU.len];exact uv);have t3:=AA YI;have t4:=Az (l:=cur) (k:=k) (by omega);have p6:decide ((k:Int)<((N+1:Nat):Int))=true:=c6;have hw:=eA (i:=k) (by omega);generalize rI:jZ ((cW,de),(ej,fa)) ((f1,f2),(f3,f4))=V at *;obtain⟨⟨⟨v1,v2⟩,⟨vU,v4⟩⟩,uk⟩:=V;dsimp only at lq Kh;have t5:=LO (l:=cur) (k:=k) (by omega) v1 v2 vU v4;refine aX ?_;repeat' (intro h<;>simp only[h,go_sem,go_sem_proc,xt,pE,ar,G,I,ca,ahs,aht,ahr,hm,rY,ux,avr,om,Cw,t1,t2,t3,t4,t5,p6,Cx,uv,hw,rI,avp,avq,lr.1,lr.2,eB,aH,cI,Aw,HE,rX,decide_true,decide_false,ahj,ne_eq,not_false_eq_true,and_self]<;>try refine ax ?_ ?_)
  have ay:=kl.set EU w8 (cur.set k ((v1,v2),(vU,v4))) (((gJ.own (k:=148010) (g:=gG (m 148010)) (cs:=[R.J (Data.int IntKind.i64 0),R.nil,R.J (Data.int IntKind.i64 0),R.nil]) (.inr (.inl rfl))).own (k:=148010) (g:=gG (m 148010)) (cs:=[R.J (Data.int IntKind.i64 cW),R.J (Data.Y (yZ ae de)),R.J (Data.int IntKind.i64 ej),R.J (Data.Y (yZ ae fa))]) (.inr (.inl rfl))).flag (l9||uk != 0));rw[ahk,lq] at ay;refine⟨k+1,by omega,by omega,rfl,?_⟩
  show kl mem go N _ ((x.2.2.take (k+1)).any λf=>(jZ f ((f1,f2),(f3,f4))).2 != 0) _;rw[Kh,lq];exact ay
 ·have LX:k=N+1:=by omega
  have avs:(x.2.2.take k).map (λf=>(jZ f ((f1,f2),(f3,f4))).1)++x.2.2.drop k=(hZ ((f1,f2),(f3,f4)) x.2.2).1:=by
   unfold hZ;rw[dr (by omega),jJ (by omega),fv]
  have avt:((x.2.2.take k).any λf=>(jZ f ((f1,f2),(f3,f4))).2 != 0)=(hZ ((f1,f2),(f3,f4)) x.2.2).2:=by
   unfold hZ;rw[dr (by omega)]
  rw[avs] at EU gJ;rw[avt] at gJ;have p6:decide ((k:Int)<((N+1:Nat):Int))=false:=cY;refine aX ?_;repeat' (intro h<;>simp only[h,go_sem,go_sem_proc,ar,G,I,ca,ahs,aht,ahr,hm,p6]<;>try refine ax ?_ ?_)
  refine dK _ _ ?_ ?_ ?_ EU gJ<;>simp only[eE,dC,if_false,ar,G,I]
theorem avu (T:bb)(yX:T KA=aU Qj)(xt:T BK=Cs Aw)(pE:T DZ=aU EF)(nd:T yv=aU Al)(gk:T tS=aU xg)
  (go N:Nat) (rows:List dx) (r c:Nat) (ez:Mem) (cU:j2 N rows) (cn:Ax go N rows false ez) (Cu:ez 168004=none) (Cv:ez 168006=none) (gI:N<=40) (lp:r<=c) (avv:c<N) :
  wp T yT.body (oi yT.res λm mem'=>m=.J (.bool (iK rows r c).1)/\kl ez go N (iK rows r c).2.1 (iK rows r c).2.2 mem') ⟨ka [.ptr 129015 0 0,.J (.int .i64 r),.J (.int .i64 c)],ez⟩:=by
 refine qz ?_;simp only[yT];simp only[go_sem,go_sem_proc];refine dd [0,1,2] [] (λ(i:Nat) tm mem=>r<=i/\i<=N/\(∀j y,r<=j->j<i->rows[j]?=some y->nE (cellOf y c)=true)/\tm 7=.J (.int .i64 i)/\mem=ez) (λi=>N-i) r (by refine⟨b0 _,by omega,λj y G I=>by omega,rfl,rfl⟩) ?_;intro vs ms aP aO;simp only[go_sem,go_sem_proc] at aP aO;subst aP aO;rintro i tm mem O hm ⟨h8,ahu,aW,bQ,rfl⟩;simp only[go_sem,go_sem_proc,a3] at O hm;obtain⟨ar,G,I⟩:=O;have uz:=cn.m;have LY:=cn.o;have hlen:=cU.len;rcases dn (i<N) with az|b4
 ·have Q:∃x,rows[i]?=some x:=⟨_,bs (by omega)⟩;obtain⟨x,Q⟩:=Q;obtain⟨tw,HJ⟩:=cU.row x (ee Q);have Cy:=cn.r x (ee Q);have aJ:∃f,x.2.2[c]?=some f:=⟨_,bs (by omega)⟩;obtain⟨⟨⟨f1,f2⟩,⟨f3,f4⟩⟩,aJ⟩:=aJ;have ahv:=HB (N:=N) Q;have ahw:=ER (N:=N) (rows:=rows) (i:=i) (by omega);have ahx:=AA aJ;have ahy:=Az (l:=x.2.2) (k:=c) (by omega);have pg:=YC aJ;have hs:decide ((i:Int)<(N:Int))=true:=c6;have AB:c<N+1:=by omega
  rcases qH:(f1==0)
  ·have avw:findAt rows r c=i:=au4 Q h8 aW (by rw[pg];exact qH);obtain⟨xr,pC⟩:∃x,rows[r]?=some x:=⟨_,bs (by omega)⟩
   have j4:iK rows r c=(false,j3 (hZ ((f1,f2),(f3,f4)) x.2.2).1 r c 0 (((rows.set r x).set i xr).set r (x.1,x.2.1,(hZ ((f1,f2),(f3,f4)) x.2.2).1)) (hZ ((f1,f2),(f3,f4)) x.2.2).2):=by
    unfold iK EP;rw[ah (by omega),avw];have:rowAt (qW rows r i) r=x:=xq (by unfold qW;rw[xq Q,xq pC];exact YE Q pC);rw[this,pg];unfold qW;rw[xq Q,xq pC]
   rw[j4];clear j4;have HI:j2 N ((rows.set r x).set i xr):=cU.swap pC Q;have avx:kl mem go N ((rows.set r x).set i xr) false _:=kl.swap pC Q ⟨cn,λ_ _=>rfl⟩;have yY:((rows.set r x).set i xr)[r]?=some x:=YE Q pC;have uv:r<N:=by omega
   have s1:=HB (N:=N) pC;have s2:=ER (N:=N) (rows:=rows) (i:=r) (by omega);have cQ:=ahe (N:=N) (rows:=rows) (i:=r) (by omega) x;have cV:=ER (N:=N) (rows:=rows.set r x) (i:=i) (by rw[iQ];omega);have avy:=ahe (N:=N) (rows:=rows.set r x) (i:=i) (by rw[iQ];omega) xr;have avz:=HB (N:=N) yY;have avA:=ER (N:=N) (rows:=(rows.set r x).set i xr) (i:=r) (by rw[iQ,iQ];omega);generalize AE:(rows.set r x).set i xr=ib at *;have lr:=HJ _ (ee aJ);have aLW:decide ((i:Int)<(N:Int))=true:=hs;have avB:((i:Int)==(N:Int))=false:=by simp;omega
   simp only[go_sem,go_sem_proc,yX,xt,ar,G,I,bQ,uz,LY,Cy,ahv,ahw,ahx,ahy,az,hs,AB,qH,cI,uv,s1,s2,cQ,cV,avy,avz,avA,avB];refine avn T xt pE go N r c mem Cu Cv gI uv ib HI x yY f1 f2 f3 f4 lr _ _ (gG (mem 148008)) ?_ ?_ ?_ ?_ ?_ ?_ ?_ ?_ ((avx.own (.inl rfl)).own (.inl rfl)) ?_
   ·exact ar
   ·exact G
   ·exact I
   ·rfl
   ·rfl
   ·rfl
   ·rfl
   ·simp[a2]
   intro tm' m' fL b9 dc sU vV;have rY:=vV.1.m
   have bB:(ib.set r (x.1,x.2.1,(hZ ((f1,f2),(f3,f4)) x.2.2).1))[r]?=some (x.1,x.2.1,(hZ ((f1,f2),(f3,f4)) x.2.2).1):=by
    rw[nD,ad rfl,ad (by rw[HI.len];exact uv)]
   simp only[go_sem,go_sem_proc,fL,b9,dc,rY];refine avm T yX xt nd gk go N r c mem Cu Cv gI uv AB _ sU x _ bB _ _ _ ?_ ?_ ?_ ?_ ?_ ?_ vV ?_
   ·exact fL
   ·exact b9
   ·exact dc
   ·rfl
   ·rfl
   ·rfl
   intro aLX n7 uw;refine aX ?_;repeat' (intro h<;>simp only[h,go_sem,go_sem_proc]<;>try refine ax ?_ ?_)
   exact⟨_,rfl,rfl,uw⟩
  ·have hw:=eA (i:=i) (by omega);refine aX ?_;repeat' (intro h<;>simp only[h,go_sem,go_sem_proc,yX,xt,ar,G,I,bQ,uz,LY,Cy,ahv,ahw,ahx,ahy,az,hs,AB,qH,hw,cI]<;>try refine ax ?_ ?_)
   refine⟨i+1,by omega,by omega,by omega,?_,rfl⟩
   intro j y avC vk av
   by_cases h9:j=i
   ·subst h9;rw[Q] at av
    cases av;rw[pg];exact qH
   ·exact aW j y avC (by omega) av
 ·have avD:i=N:=by omega
  subst avD;have hs:decide ((i:Int)<(i:Int))=false:=cY;have uA:=au5 (rows:=rows) (r:=r) (c:=c) (by omega) (λj y aj av=>aW j y aj (by have:=(dU.1 av).1;omega) av);have aE:iK rows r c=(true,rows,false):=by unfold iK;rw[ad uA]
  rw[aE];refine aX ?_;repeat' (intro h<;>simp only[h,go_sem,go_sem_proc,yX,xt,ar,G,I,bQ,uz,LY,hs,beq_self_eq_true]<;>try refine ax ?_ ?_)
  exact⟨_,rfl,rfl,cn,λ_ _=>rfl⟩
structure Qt where
 go:Nat
 N:Nat
 rows:List dx
 r:Nat
 c:Nat
def YL (a:Qt)(mem:Mem):Prop:=j2 a.N a.rows/\Ax a.go a.N a.rows false mem/\mem 168004=none/\mem 168006=none/\a.N<=40/\a.r<=a.c/\a.c<a.N
def YM (a:Qt)(mem:Mem):R->Mem->Prop:=λm mem'=>m=.J (.bool (iK a.rows a.r a.c).1)/\kl mem a.go a.N (iK a.rows a.r a.c).2.1 (iK a.rows a.r a.c).2.2 mem'
def LZ:List R->Mem->Option (R->Mem->Prop):=ur (λ(a:Qt) args mem=>args=[.ptr 129015 0 0,.J (.int .i64 a.r),.J (.int .i64 a.c)]/\YL a mem) YM
theorem avE {N:Nat}{a b:List dx}(h:refsOf N a=refsOf N b):a.map (λx=>(x.1,x.2.1))=b.map λx=>(x.1,x.2.1):=by
 induction a generalizing b with
 |nil=>cases b with
  |nil=>rfl
  |cons y r=>simp[refsOf] at h
 |cons x a aA=>cases b with
  |nil=>simp[refsOf] at h
  |cons y b =>
   simp only[refsOf,ev,a3,R.ref.injEq] at h;have G:x.1=y.1:=by have:=h.1.1;simp only[Key] at this;omega
   simp only[ev,a3,e6];exact⟨⟨G,h.1.2.1⟩,aA h.2⟩
theorem avF (a:Qt)(mem:Mem)(h:YL a mem):LZ [.ptr 129015 0 0,.J (.int .i64 a.r),.J (.int .i64 a.c)] mem=some (YM a mem):=by
 unfold LZ;refine LK (a:=a) ?_ ⟨rfl,h⟩;rintro a b args mem ⟨G,I,af,_⟩ ⟨aS,bm,bV,_⟩;rw[G] at aS;simp only[a3,R.J.injEq,Data.int.injEq,true_and,and_true] at aS;have hm:=af.m;rw[bV.m] at hm;simp only[cl,e6,a3,R.ref.injEq,true_and,and_true] at hm;obtain⟨⟨ba,aK⟩,-⟩:=hm;have bO:=af.o;rw[bV.o] at bO;simp only[cl,e6] at bO;obtain⟨dV,aLY,YN,cW,de⟩:=a;obtain⟨aLZ,aL0,YO,dh,eH⟩:=b;dsimp only at *;subst ba aK
 have ab:YO=YN:=by
  have bQ:=avE bO.2;have aw:(D YO)=D YN:=by have:=congrArg D bQ;simpa using this
  apply List.ext_getElem aw;intro i rr nY;have ca:(YO.map λx=>(x.1,x.2.1))[i]?=(YN.map λx=>(x.1,x.2.1))[i]?:=by rw[bQ]
  rw[bj,bj,bs rr,bs nY] at ca;simp only[mw,cl,e6] at ca;have e7:=bV.r _ (m2 rr);have en:=af.r _ (m2 nY);rw[ca.1,en] at e7;simp only[cl,e6] at e7;have:=au3 e7.2;exact dS ca.1 (dS ca.2 this.symm)
 subst ab;have ay:cW=dh:=by omega
 have aC:de=eH:=by omega
 subst ay aC
 rfl
theorem avG {args:List R}{mem:Mem}{bL:R->Mem->Prop}(h:LZ args mem=some bL):∃a,args=[.ptr 129015 0 0,.J (.int .i64 a.r),.J (.int .i64 a.c)]/\YL a mem/\bL=YM a mem:=by
 obtain⟨a,⟨G,I⟩,af⟩:=EO h;exact⟨a,G,I,af⟩
theorem ahz (l:List bc):((l.map aH).all λe=>D e==4)=true:=by simp[aH]
abbrev YP:List bc->List Data:=λ(l:List bc)=>[.Y (l.map aH)]
def Qu:=cj YP λ(l:List bc)=>cM (D l<=1000000) (.own 4 (l.map aH))
theorem avH:∀a b,YP a=YP b->a=b:=by
  intro ei ai h;exact map_inj mM _ _ (by simpa using h)
@[go_sem] theorem aL1 (l:List bc)(H:(D l)<=1000000):Qu [.Y (l.map aH)]=some (.own 4 (l.map aH)):=(ct avH l).trans (cR H _)
theorem avI (T:bb)  (l:List bc) (H:(D l)<=1000000):WP T VB (.own 4 (l.map aH)) [.J (.Y (l.map aH))]:=by
 refine cu ?_;simp only[VB]
 have dz:mq 147005 0 4 0 64 (D l) ((l.map aH).flatten.map .J) (some (0,[]))=some (.ref 147005 1 4 0 (D l),some (147005,1,a9 aH l)):=by
  have:=DO lG Co 147005 0 64 [] l (by simp;omega) (by simp;omega)
  simpa [a9] using this
 have hlen:(a9 aH l).length=D l*4:=oP lG l;refine aX ?_;repeat' (intro h<;>simp only[h,go_sem,go_sem_proc,ahz,dz,ak]<;>try refine ax ?_ ?_)
 rintro b ag
 cases b
 ·refine aX ?_;repeat' (intro h<;>simp only[h,go_sem,go_sem_proc,ahz,dz,ak,rE,hlen]<;>try refine ax ?_ ?_)
  rw[ad (by omega),dr (by omega)];unfold a9;rw[tP _ λd=>rfl];have:=yt (sz:=4) (l.map aH) (by intro e he;obtain⟨f,-,rfl⟩:=dR.1 he;rfl);rw[ak] at this;simp[this]
 ·cases l with
  |nil =>
       refine aX ?_;repeat' (intro h<;>simp only[h,go_sem,go_sem_proc,rE,cZ]<;>try refine ax ?_ ?_)
  |cons x r=>simp at ag
def hE (rs:List eY):List dx:=rs.zipIdx.map λp=>(p.2,0,p.1.1++[p.1.2])
theorem EV (rs:List eY):(hE rs).length=D rs:=by simp[hE]
theorem ahA {rs:List eY}{i:Nat}{r:eY}(h:rs[i]?=some r):(hE rs)[i]?=some (i,0,r.1++[r.2]):=by
 unfold hE;rw[bj,YQ,h];simp
theorem YR {rs:List eY}{i:Nat}{r:eY}(h:rs[i]?=some r):(hE rs).take (i+1)=(hE rs).take i++[(i,0,r.1++[r.2])]:=by
 rw[g4,ahA h]
 rfl
theorem avJ {rs:List eY}{i:Nat}{x:dx}(h:x∈(hE rs).take i):x.1<i/\x.2.1=0:=by
 obtain⟨j,aj⟩:=tQ.1 h;rw[List.getElem?_take] at aj
 split at aj
 ·rename_i h9;unfold hE at aj;rw[bj,YQ] at aj
  cases ab:rs[j]? with
  |none=>rw[ab] at aj;cases aj
  |some r =>
   rw[ab] at aj;simp only[mw,cl] at aj;subst aj;exact⟨by simpa using h9,rfl⟩
 ·cases aj
theorem avK (N:Nat)(a b:List dx):refsOf N (a++b)=refsOf N a++refsOf N b:=by simp[refsOf]
theorem HK (N:Nat)(a:List dx):(refsOf N a).length=D a:=by simp[refsOf]
structure AF (N:Nat) (rs:List eY) (i go:Nat) (mem:Mem):Prop where
 z:i=0->mem 129015=some (0,[.nil,.J (.int .i64 N),.J (.bool false)])
 p:0<i->mem 129015=some (0,[.ref 129035 go 1 0 i,.J (.int .i64 N),.J (.bool false)])/\mem 129035=some (go,refsOf N ((hE rs).take i))
 r:∀x∈(hE rs).take i,mem (x.1+900000)=some (x.2.1,a9 aH x.2.2)
 n:∀j:Nat,i<=j->mem (j+900000)=none
 a:mem 168004=none
 b:mem 168006=none
theorem ahB (l:List bc):(l.map aH).flatten.map R.J=a9 aH l:=rfl
theorem avL (bR:Nat)(l:List bc)(v1:Int)(v2:List Int)(vU:Int)(v4:List Int)(h:(D l)<=1000000):mq 129029 bR 4 (D l) 64 1 [.J (.int .i64 v1),.J (.Y (v2.map ae)),.J (.int .i64 vU),.J (.Y (v4.map ae))] (some (bR,a9 aH l))=some (.ref 129029 (bR+1) 4 0 (D l+1),some (129029,bR+1,a9 aH (l++[((v1,v2),(vU,v4))]))) :=
 lv lG Co 129029 bR 64 l ((v1,v2),(vU,v4)) rfl (by omega) (by omega)
theorem avM (N bR i g:Nat)(a:List dx)(M:(D a)=i)(h:i<=1000)(m:R)(hm:m=.ref 129029 g 4 0 (N+1)):mq 129035 bR 1 i 24 1 [m] (some (bR,refsOf N a))=some (.ref 129035 (bR+1) 1 0 (i+1),some (129035,bR+1,refsOf N a++[m])):=by
 subst hm;unfold mq;dsimp only;rw[ad ⟨rfl,by rw[HK];omega,by omega,by unfold maxLen;omega,rfl⟩,dr (by rw[HK];omega)]
theorem avN {N i go go' bR:Nat}{rs:List eY}{r:eY}{m m':Mem}(ag:AF N rs i go m)(ab:rs[i]?=some r)(vK:m' 129015=some (0,[.ref 129035 go' 1 0 (i+1),.J (.int .i64 N),.J (.bool false)]))(aJ:∀k:Nat,900000<=k\/k=168004\/k=168006->m' k=m k):
  AF N rs (i+1) go' (a2 (a2 (a2 m' 129029 (bZ m' 129029) []) (i+900000) (bZ m' (i+900000)) (a9 aH (r.1++[r.2]))) 129035 go' ((refsOf N ((hE rs).take i)++[R.ref 129029 bR 4 0 (N+1)]).set i (R.ref (i+900000) (bZ m' (i+900000)) 4 0 (N+1)))):=by
 have az:=(dU.1 ab).1
 have ba:bZ m' (i+900000)=0:=by
  unfold bZ;rw[aJ _ (.inl (by omega)),ag.n i (b0 _)]
 have sZ:(refsOf N ((hE rs).take i)).length=i:=by rw[HK,gF,EV];omega
 rw[ba]
 have mP:(refsOf N ((hE rs).take i)++[R.ref 129029 bR 4 0 (N+1)]).set i (.ref (i+900000) 0 4 0 (N+1))=refsOf N ((hE rs).take (i+1)):=by
  rw[ES _ _ (by omega),sZ,mu,rX,YR ab,avK]
  rfl
 rw[mP];have L0:∀(k:Nat),k≠129029->k≠129035->k≠i+900000->a2 (a2 (a2 m' 129029 (bZ m' 129029) []) (i+900000) 0 (a9 aH (r.1++[r.2]))) 129035 go' (refsOf N ((hE rs).take (i+1))) k=m' k:=λk G I af=>by simp[a2,G,I,af]
 refine⟨λh=>by omega,λ_=>⟨by rw[L0 _ (by omega) (by omega) (by omega)];exact vK,by simp[a2]⟩,λx Q=>?_,λj aj=>?_,?_,?_⟩
 ·rw[YR ab,jj,ue] at Q;rcases Q with Q|rfl
  ·obtain⟨oR,uh⟩:=avJ Q;rw[L0 _ (by omega) (by omega) (by omega),aJ _ (.inl (by omega))];exact ag.r x Q
  ·have I:(i+900000:Nat)≠129035:=by omega
   simp[a2]
 ·rw[L0 _ (by omega) (by omega) (by omega),aJ _ (.inl (by omega))];exact ag.n j (by omega)
 ·rw[L0 _ (by omega) (by omega) (by omega),aJ _ (.inr (.inl rfl))];exact ag.a
 ·rw[L0 _ (by omega) (by omega) (by omega),aJ _ (.inr (.inr rfl))];exact ag.b
theorem ahC {K:a8->Prop}{tm:Nat->R}{N i go:Nat}(go' bR:Nat){rs:List eY}{r:eY}{m m':Mem}(ag:AF N rs i go m)(ab:rs[i]?=some r)(vK:m' 129015=some (0,[.ref 129035 go' 1 0 (i+1),.J (.int .i64 N),.J (.bool false)]))
  (Qv:m' 129035=some (go',refsOf N ((hE rs).take i)++[.ref 129029 bR 4 0 (N+1)])) (Qw:m' 129029=some (bR,a9 aH (r.1++[r.2]))) (aJ:∀k:Nat,900000<=k\/k=168004\/k=168006->m' k=m k) (h:∀bg,AF N rs (i+1) go' bg->K ⟨tm,bg⟩):lk K ⟨tm,m'⟩ .move:=by
 have az:=(dU.1 ab).1;have sZ:(refsOf N ((hE rs).take i)).length=i:=by rw[HK,gF,EV];omega
 exact aq0 129035 i 129029 (i+900000) Qv (by rw[ru (by omega),sZ,mu];rfl) Qw (by omega) (show (i+900000:Nat)≠129029 by omega) (show (i+900000:Nat)≠129035 by omega) (h _ (avN ag ab vK aJ))
theorem lI {m:Mem}{k g:Nat}{cs:List R}{j:Nat}(h:j≠k):a2 m k g cs j=m j:=ah h
theorem avO (T:bb)(ma:T OG=aU Qu){K:eT->a8->Prop}{kk:List gu}(N:Nat)(rs:List eY)(stop:Bool)(gI:N<=40)(hlen:(D rs)=N)(BD:∀r∈rs,r.1.length=N/\yU r)(tm:Nat->R)(m:Mem)
  (ay:tm 1=.J (.int .i64 N)) (aC:tm 2=.J (.bool stop)) (cE:tm 8=.ptr 129015 0 0) (km:tm 16=.J (.Y (rs.map j0))) (kH:tm 17=.J (.int .i64 N)) (nF:tm 18=.J (.int .i64 0)) (ag:AF N rs 0 0 m)
  (dK:∀tm' m' go,tm' 1=.J (.int .i64 N)->tm' 2=.J (.bool stop)->tm' 8=.ptr 129015 0 0->AF N rs N go m'->cD T K kk (.exit 0) ⟨tm',m'⟩) :
  wp T (Lw.body.sub [1,1,0,1,0]) (cD T K kk) ⟨tm,m⟩:=by
 simp only[Lw,eu.sub];refine dd [1,2,8,16,17] [] (λ((i,go):Nat×Nat) tm m=>i<=N/\tm 18=.J (.int .i64 i)/\AF N rs i go m) (λ(i,_)=>N-i) (0,0) (by exact⟨ft _,nF,ag⟩) ?_;intro vs ms aP aO;simp only[go_sem,go_sem_proc,ay,aC,cE,km,kH] at aP aO;subst aP aO;clear ay aC cE km kH nF ag tm m;rintro⟨i,go⟩ tm m O hm ⟨ahu,jS,ag⟩;simp only[go_sem,go_sem_proc,a3] at O hm;obtain⟨G,I,ca,sK,lD⟩:=O;rcases dn (i<N) with az|b4
 ·obtain⟨⟨A,⟨v1,v2⟩,⟨vU,v4⟩⟩,ab⟩:∃r,rs[i]?=some r:=⟨_,bs (by omega)⟩;obtain⟨Cz,⟨ahD,avP⟩,avQ,vI⟩:=BD _ (ee ab);dsimp only at Cz ahD avP avQ vI;have ha:decide ((i:Int)<(N:Int))=true:=c6;have hw:=eA (i:=i) (by omega);have dz:∀bR,mq 129029 bR 4 N 64 1 _ _=_:=λbR=>Cz ▸ avL bR A v1 v2 vU v4 ahD;have ahE:N<=1000000:=by omega
  have h6:(1<=maxLen)=True:=eq_true (by unfold maxLen;omega);have aL2:=YR ab;have sZ:((hE rs).take i).length=i:=by rw[gF,EV];omega
  rcases kW i with ar|h7
  ·have uz:=ag.z ar;refine aX ?_;repeat' (intro h<;>simp only[h,go_sem,go_sem_proc,ma,G,I,ca,sK,lD,jS,uz,ha,ab,hw,ahE,Cz,dz,h6,ahB,ak,bj,j0,aH,decide_true,decide_false,ne_eq,not_false_eq_true,and_self]<;>try refine ax ?_ ?_)
   refine ahC (gG (m 129035)) (gG (m 129029)+1) ag ab (by simp[a2,ar]) (by simp[a2,ar,refsOf]) (by simp[a2]) (λk O=>?_) λbg fS=>?_
   ·rw[lI (by omega),lI (by omega),lI (by omega),lI (by omega),lI (by omega),lI (by omega),lI (by omega)]
   ·refine aX ?_;repeat' (intro h<;>simp only[h,go_sem,go_sem_proc,G,I,ca,sK,lD,jS,hw]<;>try refine ax ?_ ?_)
    exact⟨(i+1,gG (m 129035)),by dsimp only;omega,by dsimp only;omega,rfl,fS⟩
  ·obtain⟨uz,LY⟩:=ag.p h7;have avR:=avM N go i (gG (m 129029)+1) ((hE rs).take i) sZ (by omega) _ rfl;refine aX ?_;repeat' (intro h<;>simp only[h,go_sem,go_sem_proc,ma,G,I,ca,sK,lD,jS,uz,LY,ha,ab,hw,ahE,Cz,dz,avR,ahB,ak,bj,j0,aH,decide_true,decide_false,ne_eq,not_false_eq_true,and_self]<;>try refine ax ?_ ?_)
   refine ahC (go+1) (gG (m 129029)+1) ag ab (by simp[a2]) (by simp[a2]) (by simp[a2]) (λk O=>?_) λbg fS=>?_
   ·rw[lI (by omega),lI (by omega),lI (by omega),lI (by omega),lI (by omega),lI (by omega),lI (by omega)]
   ·refine aX ?_;repeat' (intro h<;>simp only[h,go_sem,go_sem_proc,G,I,ca,sK,lD,jS,hw]<;>try refine ax ?_ ?_)
    exact⟨(i+1,go+1),by dsimp only;omega,by dsimp only;omega,rfl,fS⟩
 ·have ha:decide ((i:Int)<(N:Int))=false:=cY;obtain rfl:i=N:=by omega
  refine aX ?_;repeat' (intro h<;>simp only[h,go_sem,go_sem_proc,G,I,ca,sK,lD,jS,ha]<;>try refine ax ?_ ?_)
  refine dK _ _ go ?_ ?_ ?_ ag<;>simp only[eE,dC,if_false,G,I,ca]
def mb (stop:Bool):Nat->Nat->List dx->List Nat->Bool->List dx×List Nat×Bool
 |0,_,rows,free,bad=>(rows,free,bad)
 |_+1,_,rows,free,true=>(rows,free,true)
 |k+1,c,rows,free,false =>
  if (iK rows (c-D free) c).1=true then
   (if stop=true then ((iK rows (c-D free) c).2.1,free++[c],(iK rows (c-D free) c).2.2) else mb stop k (c+1) (iK rows (c-D free) c).2.1 (free++[c]) (iK rows (c-D free) c).2.2)
  else mb stop k (c+1) (iK rows (c-D free) c).2.1 free (iK rows (c-D free) c).2.2
theorem ahF (stop:Bool)(k c:Nat)(rows:List dx)(free:List Nat):mb stop k c rows free true=(rows,free,true):=by
 cases k<;>rfl
def iB (n:Nat):List Data:=[.int .i64 n]
theorem y0 (n:Nat):(iB n).length=1:=rfl
theorem ahG (n:Nat):((iB n).map R.J).all R.one=true:=rfl
def YS (N:Nat)(rows:List dx)(bad:Bool):Data:=.ptr [.Y (rows.map λx=>[.Y (x.2.2.map aH)]),.int .i64 N,.bool bad]
def HL (N:Nat)(p:List dx×List Nat×Bool):Data:=.cH [YS N p.1 p.2.2,.Y (p.2.1.map iB)]
theorem Qx (fV:List bc)(r c:Nat):∀(i:Nat) (l:List dx) (b:Bool),(j3 fV r c i l b).1.map (λx=>(x.1,x.2.1,x.2.2.length))=l.map λx=>(x.1,x.2.1,x.2.2.length)
 |_,[],_=>rfl
 |i,x::xs,b=>by
  unfold j3
  split
  ·simp only[ev,Qx fV r c (i+1) xs b]
  ·simp only[ev,Qx fV r c (i+1) xs,ahf]
theorem ahH (fB:bc):∀(l p:List bc) (b:Bool),(∀f∈l,okF f)->∀f∈(jo fB l p b).1,okF f
 | [],p,b,h=>by rw[ahg];exact h
 |f::dN,[],b,h=>by cases b<;>(simp only[jo];exact h)
 |f::dN,p::ps,true,h=>by simp only[jo];exact h
 |f::dN,p::ps,false,h=>by
  simp only[jo];intro g ba;rcases hK.1 ba with rfl|ba
  ·exact ahc _ _
  ·exact ahH fB dN ps _ (λx Q=>h x (g6 _ Q)) g ba
theorem YT (fV:List bc)(r c:Nat):∀(i:Nat) (l:List dx) (b:Bool),(∀x∈l,∀f∈x.2.2,okF f)->∀x∈(j3 fV r c i l b).1,∀f∈x.2.2,okF f
 |_,[],_,h=>h
 |i,x::xs,b,h=>by
  unfold j3
  split
  ·intro y av;rcases hK.1 av with rfl|av
   ·exact h _ gv
   ·exact YT fV r c (i+1) xs b (λz aW=>h z (g6 _ aW)) y av
  ·intro y av;rcases hK.1 av with rfl|av
   ·exact ahH _ _ _ _ (h _ gv)
   ·exact YT fV r c (i+1) xs _ (λz aW=>h z (g6 _ aW)) y av
theorem ahI (rows:List dx)(r c:Nat)(ab:r<=D rows):r<=findAt rows r c/\findAt rows r c<=D rows:=by
 unfold findAt;have:=ahJ (p:=λx => !nE (cellOf x c)) (xs:=rows.drop r);rw[rG] at this;omega
theorem j2.EW {N:Nat}{rows:List dx}(h:j2 N rows){r c:Nat}(ab:r<N):j2 N (iK rows r c).2.1:=by
 unfold iK
 split
 ·exact h
 ·rename_i bG;have lr:=ahI rows r c (by rw[h.len];omega);have aw:=h.len;obtain⟨x,Q⟩:∃x,rows[findAt rows r c]?=some x:=⟨_,bs (by omega)⟩;obtain⟨xr,pC⟩:∃x,rows[r]?=some x:=⟨_,bs (by omega)⟩
  have AE:j2 N (qW rows r (findAt rows r c)):=by
   unfold qW;rw[xq Q,xq pC];exact h.swap pC Q
  have yY:(qW rows r (findAt rows r c))[r]?=some x:=by
   unfold qW;rw[xq Q,xq pC];exact YE Q pC
  generalize qW rows r (findAt rows r c)=ib at *;obtain⟨tw,HJ⟩:=AE.row x (ee yY)
  have Aa:j2 N (EP ib r c):=by
   unfold EP;rw[xq yY];refine AE.set yY (by simp[hZ,tw]) λf aJ=>?_;obtain⟨g,-,rfl⟩:=dR.1 aJ;exact ahd _ _
  generalize EP ib r c=iL at *;have jQ:=Qx (hZ (cellOf (rowAt ib r) c) (rowAt ib r).2.2).1 r c 0 iL (hZ (cellOf (rowAt ib r) c) (rowAt ib r).2.2).2;have cU:=YT (hZ (cellOf (rowAt ib r) c) (rowAt ib r).2.2).1 r c 0 iL (hZ (cellOf (rowAt ib r) c) (rowAt ib r).2.2).2 λx Q=>(Aa.row x Q).2;dsimp only;generalize (j3 (hZ (cellOf (rowAt ib r) c) (rowAt ib r).2.2).1 r c 0 iL (hZ (cellOf (rowAt ib r) c) (rowAt ib r).2.2).2).1=el at *;refine⟨?_,?_,λy av=>⟨?_,cU y av⟩⟩
  ·have:=congrArg D jQ;rw[ak,ak] at this;rw[this,Aa.len]
  ·have G:el.map (·.1)=iL.map (·.1):=by
    have:=congrArg (yZ λp:Nat×Nat×Nat=>p.1) jQ
    simpa [m5,Function.comp_def] using this
   rw[G];exact Aa.Qq
  ·have G:el.map (λx=>x.2.2.length)=iL.map λx=>x.2.2.length:=by
    have:=congrArg (yZ λp:Nat×Nat×Nat=>p.2.2) jQ
    simpa [m5,Function.comp_def] using this
   have I:y.2.2.length∈iL.map λx=>x.2.2.length:=by rw[<-G];exact dR.2 ⟨y,av,rfl⟩
   obtain⟨z,aW,e⟩:=dR.1 I;rw[<-e];exact (Aa.row z aW).1
theorem avS {n k g N:Nat}{mem:Mem}{l:List bc}(aw:(D l)=N+1)(hm:mem k=some (g,a9 aH l)):cC (n+1) mem (.ref k g 4 0 (N+1))=some (.Y (l.map aH)):=by
 rw[<-aw];exact qD lG hm
theorem avT {n N:Nat}{mem:Mem}{rows:List dx}(h:∀x∈rows,mem (x.1+900000)=some (x.2.1,a9 aH x.2.2))(aw:∀x∈rows,x.2.2.length=N+1):(refsOf N rows).mapM (cC (n+1) mem)=some (rows.map λx => .Y (x.2.2.map aH)):=by
 unfold refsOf
 induction rows with
 |nil=>rfl
 |cons x xs aA =>
  have G:=avS (n:=n) (aw x gv) (h x gv);have I:=aA (λy av=>h y (g6 _ av)) λy av=>aw y (g6 _ av);simp only[ev,ll,G,I]
  rfl
theorem YU {n N go:Nat}{mem:Mem}{rows:List dx}{bad:Bool}(cU:j2 N rows)(h:Ax go N rows bad mem):cC (n+3) mem (.ptr 129015 0 0)=some (YS N rows bad):=by
 have G:=avT (n:=n) h.r λx Q=>(cU.row x Q).1
 have I:cC (n+2) mem (.ref 129035 go 1 0 N)=some (.Y (rows.map λx=>[.Y (x.2.2.map aH)])):=by
  unfold cC;rw[h.o];simp only[if_true];unfold cut;rw[ad (by rw[HK,cU.len];omega),l0,dr (by rw[HK,cU.len];omega)];dsimp only;rw[G];have:=yt (sz:=1) (rows.map λx=>[Data.Y (x.2.2.map aH)]) (by intro e he;obtain⟨x,-,rfl⟩:=dR.1 he;rfl);rw[ak,cU.len] at this;simp only[mw,cl,Data.Y.injEq]
  have lr:∀l:List dx,(l.map λx=>Data.Y (x.2.2.map aH))=(l.map λx=>[Data.Y (x.2.2.map aH)]).flatten:=by
   intro l
   induction l with
   |nil=>rfl
   |cons x xs aA=>simp only[ev,jD,aA];rfl
  rw[lr,this]
 unfold cC;rw[h.m];simp only[if_true,l0,ll,List.mapM_nil,I,true_and,ft];simp only[Oy]
 rfl
theorem AF.avU {N go:Nat}{rs:List eY}{m:Mem}(aw:(D rs)=N)(gI:0<N)(h:AF N rs N go m):Ax go N (hE rs) false m:=by
 have bz:(hE rs).take N=hE rs:=dr (by rw[EV];omega);have aE:=h.p gI;rw[bz] at aE;exact⟨aE.1,aE.2,by have:=h.r;rw[bz] at this;exact this⟩
theorem Ax.other {go N:Nat}{rows:List dx}{bad:Bool}{mem:Mem}{k g:Nat}{cs:List R}(h:Ax go N rows bad mem)(G:k≠129015)(I:k≠129035)(af:k<900000):Ax go N rows bad (a2 mem k g cs) :=
 ⟨(lI (Ne.symm G)).trans h.m,(lI (Ne.symm I)).trans h.o,λx Q=>(lI (show (x.1+900000:Nat)≠k by omega)).trans (h.r x Q)⟩
theorem ahK {N:Nat}{rs:List eY}(aw:(D rs)=N)(h:∀r∈rs,r.1.length=N/\yU r):j2 N (hE rs):=by
 refine⟨by rw[EV,aw],?_,λx Q=>?_⟩
 ·have:(hE rs).map (·.1)=dF (D rs):=by
   unfold hE;rw[m5];apply pP;intro i;rw[bj,YQ];rcases iq i (D rs) with h|h
   ·rw[bs h];simp[h]
   ·rw[mr h];simp[h]
  rw[this];exact List.nodup_range
 ·unfold hE at Q;obtain⟨⟨r,i⟩,aE,rfl⟩:=dR.1 Q;have ab:=List.fst_mem_of_mem_zipIdx aE;obtain⟨G,I,af⟩:=h r ab;refine⟨by simp[G],λf aJ=>?_⟩
  rw[jj,ue] at aJ;rcases aJ with aJ|rfl
  ·exact I.2 f aJ
  ·exact af
abbrev YV:(List eY)×Int×Bool->List Data:=λ(rs,n,stop)=>[.Y (rs.map j0),.int .i64 n,.bool stop]
def Qy:=cj YV λ(rs,n,stop)=>cM ((D rs:Int)=n/\D rs<=40/\∀r∈rs,r.1.length=D rs/\yU r) (.same (HL (D rs) (mb stop (D rs) 0 (hE rs) [] false)))
theorem avV:∀a b,YV a=YV b->a=b:=by
  rintro⟨agM,iP,aL3⟩ ⟨agN,jO,aL4⟩ h;simp only[a3,Data.Y.injEq,Data.int.injEq,Data.bool.injEq] at h;exact dS (map_inj XM _ _ h.1) (dS h.2.1.2 h.2.2.1)
@[go_sem] theorem avW (rs:List eY)(n:Int)(stop:Bool)(H:(D rs:Int)=n/\D rs<=40/\∀r∈rs,r.1.length=D rs/\yU r):Qy [.Y (rs.map j0),.int .i64 n,.bool stop]=some (.same (HL (D rs) (mb stop (D rs) 0 (hE rs) [] false))):=(ct avV (rs,n,stop)).trans (cR H _)
theorem avX (T:bb)(ma:T OG=aU Qu)(nG:T Ux=pB LZ)(rs:List eY)(n:Int)(stop:Bool)(H:(D rs:Int)=n/\D rs<=40/\∀r∈rs,r.1.length=D rs/\yU r):WP T Lw (.same (HL (D rs) (mb stop (D rs) 0 (hE rs) [] false))) [.J (.Y (rs.map j0)),.J (.int .i64 n),.J (.bool stop)]:=by
 refine cu ?_;simp only[Lw];obtain⟨aK,gI,BD⟩:=H;subst aK;simp only[go_sem,go_sem_proc,ma,nG,ak];generalize YW:(D rs)=N at *;refine avO T ma N rs stop gI YW BD _ _ rfl rfl rfl rfl rfl rfl ⟨λ_=>by simp[a2],λh=>by omega,λx Q=>by simp at Q,λj _=>lI (show (j+900000:Nat)≠129015 by omega),lI (by omega),lI (by omega)⟩ ?_
 intro tm m go G I ca ag;rcases kW N with ar|h7
 ·have pY:rs=[]:=List.eq_nil_of_length_eq_zero (by omega);have aW:=ag.z ar;subst ar;subst pY;simp only[go_sem,go_sem_proc,ma,nG,G,I,ca];refine dd [1,2,8] [129015] (λ(_:Unit) tm' m'=>tm' 11=.ref 129061 (gG (m 129061)) 1 0 0/\m' 129061=some (gG (m 129061),[])/\tm' 12=.J (.int .i64 0)) (λ_=>0) () (by refine⟨rfl,?_,rfl⟩;simp[a2]) ?_;intro vs ms aP aO;simp only[go_sem,go_sem_proc,ma,nG,G,I,ca,aW] at aP aO;subst aP aO;rintro _ tm' m' O hm ⟨mF,HM,mG⟩;simp only[go_sem,go_sem_proc,ma,nG,a3] at O hm;obtain⟨b9,dc,hX⟩:=O;simp only[go_sem,go_sem_proc,ma,nG,b9,dc,hX,hm,mF,HM,mG,show decide ((0:Int)<((0:Nat):Int))=false from rfl,cC,nX,l0];repeat' (first|refine ax ?_ ?_|fail)<;>intro h<;>simp only[h,go_sem,go_sem_proc,ma,nG,b9,dc,hX,hm,mF,HM,mG,show decide ((0:Int)<((0:Nat):Int))=false from rfl,cC,nX,l0]
  rfl
 ·have AG:=ag.avU YW h7;have cU:=ahK YW BD;have L1:=ag.a;have L2:=ag.b;clear ag;simp only[go_sem,go_sem_proc,ma,nG,G,I,ca]
  refine dd [1,2,8] [] (λ((c,rows,free,bad,g):Nat×List dx×List Nat×Bool×Nat) tm m=>c<=N/\D free<=c/\mb stop N 0 (hE rs) [] false=mb stop (N-c) c rows free bad/\j2 N rows/\Ax go N rows bad m/\m 168004=none/\m 168006=none/\tm 11=.ref 129061 g 1 0 (D free)/\m 129061=some (g,a9 iB free)/\tm 12=.J (.int .i64 c)) (λ(c,_,_,_,_)=>N-c) (0,hE rs,[],false,gG (m 129061)) (by
   refine⟨ft _,b0 _,rfl,cU,⟨?_,?_,λx Q=>?_⟩,?_,?_,rfl,?_,rfl⟩
   ·rw[lI (by omega)];exact AG.m
   ·rw[lI (by omega)];exact AG.o
   ·rw[lI (show (x.1+900000:Nat)≠129061 by omega)];exact AG.r x Q
   ·rw[lI (by omega)];exact L1
   ·rw[lI (by omega)];exact L2
   ·simp[a2,a9]) ?_
  intro vs ms aP aO;simp only[go_sem,go_sem_proc,ma,nG,G,I,ca] at aP aO;subst aP aO;clear G I ca AG L1 L2;rintro⟨c,rows,free,bad,g⟩ tm m O hm ⟨avv,L3,kT,cU,AG,L1,L2,mF,HM,mG⟩;simp only[go_sem,go_sem_proc,ma,nG,a3] at O hm;obtain⟨G,I,ca⟩:=O;have uz:=AG.m
  have Wq:mb stop N 0 (hE rs) [] false=(rows,free,bad)->((cC 5 m (.ptr 129015 0 0)).bind λd=>(cC 5 m (.ref 129061 g 1 0 (D free))).bind λe=>some (Data.cH [d,e]))=some (HL N (mb stop N 0 (hE rs) [] false)):=by
   intro h;rw[h,YU (n:=2) cU AG,qD y0 HM]
   rfl
  have Qz:=YU (n:=2) cU AG;have HN:=qD (n:=4) y0 HM;rcases dn (c<N) with az|b4
  ·have eM:decide ((c:Int)<(N:Int))=true:=c6
   cases bad
   ·have oU:IntKind.i64.wrap ((c:Int)-(D free:Int))=((c-D free:Nat):Int):=by rw[e2 _];omega
    have fy:=eA (i:=c) (by omega);have e1:=avF ⟨go,N,rows,c-D free,c⟩ m ⟨cU,AG,L1,L2,gI,Nat.sub_le _ _,az⟩;dsimp only at e1;have YX:N-c=(N-(c+1))+1:=by omega
    rw[YX] at kT;simp only[mb] at kT;have HC:=cU.EW (r:=c-D free) (c:=c) (by omega);simp only[go_sem,go_sem_proc,ma,nG,nG,G,I,ca,mF,mG,uz,eM,oU,e1];intro yV m' fZ;obtain⟨xm,gJ⟩:=fZ;dsimp only at xm gJ;subst xm;have om:m' 168004=none:=(gJ.2 _ YG).trans L1;have Cw:m' 168006=none:=(gJ.2 _ YH).trans L2;have L4:m' 129061=some (g,a9 iB free):=(gJ.2 129061 (by unfold Hz;omega)).trans HM;have dz:mq 129061 g 1 (D free) 8 1 [.J (.int .i64 c)] (some (g,a9 iB free))=_:=lv y0 ahG 129061 g 8 free c rfl (by omega) (by omega);generalize aL5:iK rows (c-D free) c=bE at *;obtain⟨avY,ahL,ahM⟩:=bE;dsimp only at *
    cases avY
    ·simp only[kR,if_false] at kT;simp only[go_sem,go_sem_proc,ma,nG,G,I,ca,mF,mG,fy];repeat' (first|refine ax ?_ ?_|fail)<;>intro h<;>simp only[h,go_sem,go_sem_proc,ma,nG,G,I,ca,mF,mG,fy]
     exact⟨(c+1,ahL,free,ahM,g),by dsimp only;omega,by dsimp only;omega,by dsimp only;omega,kT,HC,gJ.1,om,Cw,rfl,L4,rfl⟩
    ·simp only[if_true] at kT;have ahN:=gJ.1.other (k:=129061) (g:=g+1) (cs:=a9 iB (free++[c])) (by omega) (by omega) (by omega)
     cases stop
     ·simp only[kR,if_false] at kT;simp only[go_sem,go_sem_proc,ma,nG,G,I,ca,mF,mG,fy,L4,dz];repeat' (first|refine ax ?_ ?_|fail)<;>intro h<;>simp only[h,go_sem,go_sem_proc,ma,nG,G,I,ca,mF,mG,fy,L4,dz]
      exact⟨(c+1,ahL,free++[c],ahM,g+1),by dsimp only;omega,by dsimp only;omega,by simp;omega,kT,HC,ahN,om,Cw,by simp,rfl,rfl⟩
     ·simp only[if_true] at kT;simp only[go_sem,go_sem_proc,ma,nG,G,I,ca,mF,mG,fy,L4,dz];repeat' (first|refine ax ?_ ?_|fail)<;>intro h<;>simp only[h,go_sem,go_sem_proc,ma,nG,G,I,ca,mF,mG,fy,L4,dz]
      have CA:(D free)+1=(free++[c]).length:=by simp
      rw[YU (n:=2) HC ahN,CA,qD (n:=4) y0 (g:=g+1) (l:=free++[c]) (by simp[a2]),kT]
      rfl
   ·rw[ahF] at kT;simp only[go_sem,go_sem_proc,ma,nG,G,I,ca,mF,mG,uz,eM,Qz,HN];repeat' (first|refine ax ?_ ?_|fail)<;>intro h<;>simp only[h,go_sem,go_sem_proc,ma,nG,G,I,ca,mF,mG,uz,eM,Qz,HN]
    rw[kT]
    rfl
  ·have eM:decide ((c:Int)<(N:Int))=false:=cY;have YX:N-c=0:=by omega
   rw[YX] at kT;simp only[mb] at kT;simp only[go_sem,go_sem_proc,ma,nG,G,I,ca,mF,mG,uz,eM,Qz,HN];repeat' (first|refine ax ?_ ?_|fail)<;>intro h<;>simp only[h,go_sem,go_sem_proc,ma,nG,G,I,ca,mF,mG,uz,eM,Qz,HN]
   rw[kT]
   rfl
theorem YY {rs:List eY}{n:Int}(bO:rU rs)(h:oe rs n=true):(D rs:Int)=n/\D rs<=40/\∀r∈rs,r.1.length=D rs/\yU r:=by
 unfold oe at h;simp only[eW,uo,decide_eq_false_iff_not,beq_iff_eq] at h;obtain⟨G,I,af,aS⟩:=h;refine⟨af,by omega,λr ab=>⟨?_,bO.2 r ab⟩⟩
 rw[xw] at aS;have:=aS r ab;unfold oY at this;simp at this;omega
theorem YZ {stop:Bool}{N:Nat}:∀(k c:Nat) (rows:List dx) (free:List Nat) (bad:Bool),c+k=N->j2 N rows->j2 N (mb stop k c rows free bad).1
 |0,_,rows,_,_,_,h=>h
 |k+1,c,rows,free,true,H,h=>h
 |k+1,c,rows,free,false,H,h=>by
  have aE:=h.EW (r:=c-D free) (c:=c) (by omega);unfold mb
  split
  ·split
   ·exact aE
   ·exact YZ k (c+1) _ _ _ (by omega) aE
  ·exact YZ k (c+1) _ _ _ (by omega) aE
def qY (stop:Bool)(rs:List eY):List dx×List Nat×Bool:=mb stop (D rs) 0 (hE rs) [] false
theorem Y0 (stop:Bool):∀(k c:Nat) (rows:List dx) (free:List Nat) (bad:Bool),(mb stop k c rows free bad).2.1.length<=D free+k
 |0,_,_,_,_=>by simp[mb]
 |k+1,c,rows,free,true=>by simp[mb]
 |k+1,c,rows,free,false=>by
  unfold mb
  split
  ·split
   ·simp
   ·have:=Y0 stop k (c+1) (iK rows (c-D free) c).2.1 (free++[c]) (iK rows (c-D free) c).2.2;simp at this;omega
  ·have:=Y0 stop k (c+1) (iK rows (c-D free) c).2.1 free (iK rows (c-D free) c).2.2;omega
theorem avZ (stop:Bool)(rs:List eY):(qY stop rs).2.1.length<=D rs:=by
 have:=Y0 stop (D rs) 0 (hE rs) [] false;unfold qY
 simpa using this
theorem av0 {rs:List eY}{stop:Bool}(h:∀r∈rs,r.1.length=D rs/\yU r):j2 (D rs) (qY stop rs).1:=YZ _ _ _ _ _ (by omega) (ahK rfl h)
def vW (N:Nat)(x:dx):bc:=x.2.2.getD N fm
def qZ (rs:List eY)(n:Int):List bc×Int :=
 if oe rs n=true then (if (qY true rs).2.2=true then ([],6) else if (qY true rs).2.1.length>0 then ([],17) else ((qY true rs).1.map (vW (D rs)),0)) else ([],1)
theorem av1 {N:Nat}{x:dx}{f:bc}(h:x.2.2[N]?=some f):vW N x=f:=by
 unfold vW;rw[dX,h]
 rfl
def Y1:=cj P7 λ(rs,n)=>cM (rU rs) (.same (.cH [.Y ((qZ rs n).1.map aH),.int .i64 (qZ rs n).2]))
@[go_sem] theorem av2 (rs:List eY)(n:Int)(H:rU rs):Y1 [.Y (rs.map j0),.int .i64 n]=some (.same (.cH [.Y ((qZ rs n).1.map aH),.int .i64 (qZ rs n).2])):=(ct agO (rs,n)).trans (cR H _)
theorem av3 (T:bb)(CB:T Um=aU XW)(CC:T Uq=aU Qy)(rs:List eY)(n:Int)(H:rU rs):WP T Xd (.same (.cH [.Y ((qZ rs n).1.map aH),.int .i64 (qZ rs n).2])) [.J (.Y (rs.map j0)),.J (.int .i64 n)]:=by
 refine cu ?_;simp only[Xd];unfold qZ;rcases ab:oe rs n
 ·refine aX ?_;repeat' (intro h<;>simp only[h,go_sem,go_sem_proc,CB,CC,H,ab,cZ]<;>try refine ax ?_ ?_)
 ·have cU:=av0 (stop:=true) (YY H ab).2.2;have e8:Qy [.Y (rs.map j0),.int .i64 n,.bool true]=some (.same (HL (D rs) (qY true rs))):=avW rs n true (YY H ab);have lr:=avZ true rs;obtain⟨aK,gI,-⟩:=YY H ab;rcases gx:qY true rs with ⟨rows,free,bad⟩;rw[gx] at lr cU e8;dsimp only at lr cU;simp only[HL,YS] at e8
  cases bad
  ·cases free with
   |nil =>
    simp only[go_sem,go_sem_proc,CB,CC,H,ab,e8,ak,show decide (((0:Nat):Int)>0)=false from rfl,cZ];rw[ah (by simp)];refine dd [1,33,34] [] (λ((i,g):Nat×Nat) tm m=>i<=D rs/\tm 35=.J (.int .i64 i)/\tm 8=.ref 109045 g 4 0 i/\m 109045=some (g,a9 aH ((rows.take i).map (vW (D rs))))) (λ(i,_)=>D rs-i) (0,0) (by refine⟨ft _,rfl,rfl,?_⟩;simp[a2,a9,bZ,emp]) ?_;intro vs ms aP aO;simp only[go_sem,go_sem_proc,CB,CC] at aP aO;subst aP aO;rintro⟨i,g⟩ tm m O hm ⟨ahu,Qv,ca,Y2⟩;simp only[go_sem,go_sem_proc,CB,CC,a3] at O hm;obtain⟨G,Lh,ahO⟩:=O;have bW:=cU.len;rcases dn (i<D rs) with az|b4
    ·obtain⟨x,Q⟩:∃x,rows[i]?=some x:=⟨_,bs (by omega)⟩;obtain⟨tw,HJ⟩:=cU.row x (ee Q);obtain⟨⟨⟨cW,de⟩,⟨ej,fa⟩⟩,uy⟩:∃f,x.2.2[D rs]?=some f:=⟨_,bs (by omega)⟩;have iU:=av1 uy;have sZ:((rows.take i).map (vW (D rs))).length=i:=by rw[ak,gF];omega
     have dz:=lv lG Co 109045 g 64 ((rows.take i).map (vW (D rs))) ((cW,de),(ej,fa)) (cs:=[.J (.int .i64 cW),.J (.Y (de.map ae)),.J (.int .i64 ej),.J (.Y (fa.map ae))]) rfl (by omega) (by omega);rw[sZ] at dz
     have av4:(rows.take (i+1)).map (vW (D rs))=(rows.take i).map (vW (D rs))++[((cW,de),(ej,fa))]:=by
      rw[g4,Q,kG];simp[iU]
     have ha:decide ((i:Int)<(D rs:Int))=true:=c6;have EX:decide ((i:Int)<(D rows:Int))=true:=c6;have hw:=eA (i:=i) (by omega);have kg:decide (0<=n)=true:=c6;have vX:n=((D rs:Nat):Int):=aK.symm;refine aX ?_;repeat' (intro h<;>simp only[h,go_sem,go_sem_proc,CB,CC,G,Lh,ahO,Qv,ca,Y2,Q,uy,dz,ha,EX,hw,vX,ak,bj,aH]<;>try refine ax ?_ ?_)
     exact⟨(i+1,g+1),by dsimp only;omega,by dsimp only;omega,rfl,rfl,by dsimp only;rw[av4]⟩
    ·have cF:i=D rs:=by omega
     have EX:decide ((i:Int)<(D rows:Int))=false:=cY;have fg:rows.take i=rows:=dr (by omega);rw[fg] at Y2
     have kz:∀n,cC (n+1) m (.ref 109045 g 4 0 i)=some (.Y ((rows.map (vW (D rs))).map aH)):=λn=>by
      have:=qD (n:=n) lG Y2;rw[show (rows.map (vW (D rs))).length=i by rw[ak];omega] at this
      exact this
     have av5:=kz 4;refine aX ?_;repeat' (intro h<;>simp only[h,go_sem,go_sem_proc,CB,CC,G,Lh,ahO,Qv,ca,EX,av5]<;>try refine ax ?_ ?_)
   |cons f dN =>
    have iR:decide ((((f::dN).length:Nat):Int)>0)=true:=lQ (by simp only[h4];omega);simp only[h4] at iR;refine aX ?_;repeat' (intro h<;>simp only[h,go_sem,go_sem_proc,CB,CC,H,ab,e8,ak,iR,cZ]<;>try refine ax ?_ ?_)
    rw[ad (by omega)]
    rfl
  ·refine aX ?_;repeat' (intro h<;>simp only[h,go_sem,go_sem_proc,CB,CC,H,ab,e8,ak,cZ]<;>try refine ax ?_ ?_)
def Y3:bP:=b8 30 2 [.t 4,.t 5] (U [(aD 4 (.cm (.c (.J (.int .u64 0))))),(aD 5 (.cm (.c (.J (.int .u64 0)))))] (.seq (.cond (.c (.J (.bool false))) (U [F 11 0,(aD 12 (.conv .u32 (.t 11))),F 13 1,(aD 14 (.conv .u32 (.t 13))),(cv 15 arB 12 14),F 10 15,bA 16 0 10,bA 17 1 10,F 6 16,F 7 17] (U [F 18 6,(aD 19 (.conv .u64 (.t 18))),F 20 7,(aD 21 (.conv .u64 (.t 20))),F 4 19,F 5 21] .ret)) .skip) (U [F 23 0,F 24 1,(cv 25 UD 23 24),F 22 25,bA 26 0 22,bA 27 1 22,F 8 26,F 9 27] (U [F 28 8,F 29 9,F 4 28,F 5 29] .ret))))
def Y4:bP:=b8 51 2 [.t 4,.t 5] (U [(aD 4 (.cm (.c (.J (.int .u64 0))))),(aD 5 (.cm (.c (.J (.int .u64 0)))))] (U [F 14 0,(aD 15 (.bin .and (.t 14) (.c (.J (.int .u64 4294967295))))),F 6 15] (U [F 16 0,(aD 17 (.bin .shr (.t 16) (.c (.J (.int .u64 32))))),F 7 17] (U [F 18 1,(aD 19 (.bin .and (.t 18) (.c (.J (.int .u64 4294967295))))),F 8 19] (U [F 20 1,(aD 21 (.bin .shr (.t 20) (.c (.J (.int .u64 32))))),F 9 21] (U [F 22 6,F 23 8,bo 24 .mul 22 23,F 10 24] (U [F 25 7,F 26 8,bo 27 .mul 25 26,F 28 10,(aD 29 (.bin .shr (.t 28) (.c (.J (.int .u64 32))))),bo 30 .add 27 29,F 11 30] (U [F 31 11,(aD 32 (.bin .and (.t 31) (.c (.J (.int .u64 4294967295))))),F 12 32] (U [F 33 11,(aD 34 (.bin .shr (.t 33) (.c (.J (.int .u64 32))))),F 13 34] (U [F 35 12,F 36 6,F 37 9,bo 38 .mul 36 37,bo 39 .add 35 38,F 12 39] (U [F 40 7,F 41 9,bo 42 .mul 40 41,F 43 13,bo 44 .add 42 43,F 45 12,(aD 46 (.bin .shr (.t 45) (.c (.J (.int .u64 32))))),bo 47 .add 44 46,F 4 47] (U [F 48 0,F 49 1,bo 50 .mul 48 49,F 5 50] .ret))))))))))))
def Y5:bP:=b8 8 1 [.t 2] (U [br 2 0] (.seq (.cond (.c (.J (.bool false))) (U [F 3 0,(aD 4 (.conv .u32 (.t 3))),(dQ 5 arJ 4),F 2 5] .ret) .skip) (U [F 6 0,(dQ 7 U5 6),F 2 7] .ret)))
def Y6:bP:=b8 25 1 [.t 2] (U [br 2 0] (.seq (U [F 3 0,(aD 4 (.bin .geq (.t 3) (.c (.J (.int .u64 4294967296)))))] (aY 4 (U [F 5 0,(aD 6 (.bin .shr (.t 5) (.c (.J (.int .u64 32))))),F 0 6] (.ops [br 2 32])) .skip)) (.seq (U [F 7 0,(aD 8 (.bin .geq (.t 7) (.c (.J (.int .u64 65536)))))] (aY 8 (U [F 9 0,(aD 10 (.bin .shr (.t 9) (.c (.J (.int .u64 16))))),F 0 10] (.ops [F 11 2,a5 12 .add 11 16,F 2 12])) .skip)) (.seq (U [F 13 0,(aD 14 (.bin .geq (.t 13) (.c (.J (.int .u64 256)))))] (aY 14 (U [F 15 0,(aD 16 (.bin .shr (.t 15) (.c (.J (.int .u64 8))))),F 0 16] (.ops [F 17 2,a5 18 .add 17 8,F 2 18])) .skip)) (U [F 19 2,F 20 0,(aD 21 (.conv .u8 (.t 20))),(aD 22 (.idxs (.c (.J (.str [0,1,2,2,3,3,3,3,4,4,4,4,4,4,4,4,5,5,5,5,5,5,5,5,5,5,5,5,5,5,5,5,6,6,6,6,6,6,6,6,6,6,6,6,6,6,6,6,6,6,6,6,6,6,6,6,6,6,6,6,6,6,6,6,7,7,7,7,7,7,7,7,7,7,7,7,7,7,7,7,7,7,7,7,7,7,7,7,7,7,7,7,7,7,7,7,7,7,7,7,7,7,7,7,7,7,7,7,7,7,7,7,7,7,7,7,7,7,7,7,7,7,7,7,7,7,7,7,8,8,8,8,8,8,8,8,8,8,8,8,8,8,8,8,8,8,8,8,8,8,8,8,8,8,8,8,8,8,8,8,8,8,8,8,8,8,8,8,8,8,8,8,8,8,8,8,8,8,8,8,8,8,8,8,8,8,8,8,8,8,8,8,8,8,8,8,8,8,8,8,8,8,8,8,8,8,8,8,8,8,8,8,8,8,8,8,8,8,8,8,8,8,8,8,8,8,8,8,8,8,8,8,8,8,8,8,8,8,8,8,8,8,8,8,8,8,8,8,8,8,8,8,8,8,8,8]))) (.t 21))),(aD 23 (.conv .i64 (.t 22))),bo 24 .add 19 23,F 2 24] .ret)))))
theorem Y7:∀y:Nat,y<41->bits .and .u64 (y:Int) 4294967295=y:=by decide
theorem av6 (y:Nat)(h:y<41):(y:Int).fdiv 4294967296=0:=by
 rw[Int.fdiv_eq_ediv_of_nonneg _ (by omega)];omega
abbrev QA:Nat->List Data:=λ(y:Nat)=>[.int .u64 1,.int .u64 y]
def Y8:=cj QA λ(y:Nat)=>cM (y<41) (.same (.cH [.int .u64 0,.int .u64 y]))
theorem ahP:∀a b,QA a=QA b->a=b:=by
  intro tX tY h;simp only[a3,Data.int.injEq] at h;omega
@[go_sem] theorem aL6 (y:Nat)(H:y<41):Y8 [.int .u64 1,.int .u64 y]=some (.same (.cH [.int .u64 0,.int .u64 y])):=(ct ahP y).trans (cR H _)
theorem av7 (T:bb)  (y:Nat) (H:y<41):WP T Y4 (.same (.cH [.int .u64 0,.int .u64 y])) [.J (.int .u64 1),.J (.int .u64 y)]:=by
 refine cu ?_;simp only[Y4];have G:=Y7 y H;have I:=av6 y H;have af:=Y7 1 (by omega);have aS:=Y7 0 (by omega);have bm:((1:Int)).fdiv 4294967296=0:=by decide
 have bV:((0:Int)).fdiv 4294967296=0:=by decide
 have hw:∀x:Int,0<=x/\x<18446744073709551616->IntKind.u64.wrap x=x:=λx h=>zW x h;have et:=hw 0 (by omega);have w1:=hw y (by omega);simp only[Int.natCast_zero,Int.cast_ofNat_Int,Int.natCast_one] at af aS;simp only[go_sem,go_sem_proc,G,I,af,aS,bm,bV,et,w1,show ((32:Int)<0)=False from by simp,if_false,show (2:Int)^min (Int.toNat 32) 64=4294967296 from rfl,n8,Ag,ud,w5,Eh]
 repeat' (first|refine ax ?_ ?_|fail)<;>intro h<;>simp only[h,go_sem,go_sem_proc,G,I,af,aS,bm,bV,et,w1,show ((32:Int)<0)=False from by simp,if_false,show (2:Int)^min (Int.toNat 32) 64=4294967296 from rfl,n8,Ag,ud,w5,Eh]
def Y9:=cj QA λ(y:Nat)=>cM (y<41) (.same (.cH [.int .u64 0,.int .u64 y]))
@[go_sem] theorem aL7 (y:Nat)(H:y<41):Y9 [.int .u64 1,.int .u64 y]=some (.same (.cH [.int .u64 0,.int .u64 y])):=(ct ahP y).trans (cR H _)
theorem av8 (T:bb)(av9:T UD=aU Y8)(y:Nat)(H:y<41):WP T Y3 (.same (.cH [.int .u64 0,.int .u64 y])) [.J (.int .u64 1),.J (.int .u64 y)]:=by
 refine cu ?_;simp only[Y3];refine aX ?_;repeat' (intro h<;>simp only[h,go_sem,go_sem_proc,av9,H]<;>try refine ax ?_ ?_)
theorem rZ {α:Type}{A:List α}{k:Nat}(dP:(D A)=k)(n:Nat):(dH n A).flatten.length=n*k:=by
 rw[List.length_flatten,HO,dP,List.sum_replicate_nat]
theorem awa {α:Type}{A:List α}{k:Nat}(dP:(D A)=k){q j:Nat}(h:q<=j):(dH j A).flatten.take (q*k)=(dH q A).flatten:=by
 obtain⟨d,rfl⟩:=ahQ h;rw[<-Za,EY,CD (by rw[rZ dP];omega),dr (by rw[rZ dP];omega)]
theorem awb {α:Type}{A:List α}{k:Nat}(dP:(D A)=k){q j:Nat}(h:q<=j):(dH j A).flatten.drop (q*k)=(dH (j-q) A).flatten:=by
 obtain⟨d,rfl⟩:=ahQ h;rw[<-Za,EY,oQ,jJ (by rw[rZ dP];omega),rZ dP,mu,l0,jk,Gv]
def EZ:List R:=[.J (.int .i64 0),.nil,.J (.int .i64 0),.nil]
def qa (A:List R)(N j:Nat):List R:=(dH j A).flatten++(dH (N-j) EZ).flatten
theorem ahR {A:List R}(dP:(D A)=4){N j:Nat}(h:j<=N):(qa A N j).length=N*4:=by
 unfold qa;rw[fG,rZ dP,rZ (show (D EZ)=4 from rfl)];omega
theorem ahS {A:List R}(dP:(D A)=4){N j q:Nat}(h:j+q<=N):(qa A N j).take (j*4)++(dH q A).flatten++(qa A N j).drop (j*4+q*4)=qa A N (j+q):=by
 unfold qa;rw[CD (by rw[rZ dP];omega),dr (by rw[rZ dP];omega),oQ,jJ (by rw[rZ dP];omega),rZ dP,Gv,awb (show (D EZ)=4 from rfl) (by omega),jk,<-Za (n:=j),EY,Nat.sub_sub]
theorem awc {A:List R}(dP:(D A)=4){N j:Nat}:(qa A N j).take (j*4)=(dH j A).flatten:=by
 unfold qa;rw[CD (by rw[rZ dP];omega),dr (by rw[rZ dP];omega)]
theorem ahT {A:List R}(h:A.all R.one=true)(q:Nat):(dH q A).flatten.all R.one=true:=by
 induction q with
 |zero=>rfl
 |succ n aA=>rw[qw,jD,ag9,h,aA];rfl
theorem awd (f:bc)(N:Nat):qa ((aH f).map .J) N N=a9 aH (dH N f):=by
 unfold qa a9;rw[mu,HO];simp only[List.replicate_zero,List.flatten_nil,fv]
 induction N with
 |zero=>rfl
 |succ n aA=>rw[qw,jD,qw,jD,kG,aA]
theorem awe {A:List R}(dP:(D A)=4)(G:A.all R.one=true)(N:Nat):Bk 131030 0 4 0 N 1 A (some (0,(dH N EZ).flatten))=some (.J (.int .i64 ((min 1 N:Nat):Int)),some (131030,0,qa A N (min 1 N))):=by
 unfold Bk;dsimp only;rw[ad ⟨rfl,by rw[rZ (show (D EZ)=4 from rfl)];omega,G⟩]
 have ar:(dH N EZ).flatten=qa A N 0:=by simp[qa]
 have bz:A.take (min 1 N*4)=(dH (min 1 N) A).flatten:=by
  rcases kW N with h|h
  ·subst h;simp
  ·rw[show min 1 N=1 by omega];simp[dr (AH dP)]
 have:=ahS dP (N:=N) (j:=0) (q:=min 1 N) (by omega);rw[ar,bz];unfold kP;rw[rZ dP];simp only[Nat.zero_mul,kv] at this ⊢;rw[this]
theorem awf {A:List R}(dP:(D A)=4)(G:A.all R.one=true){N j:Nat}(h:j<N):Bk 131030 0 4 (j*4) (N-j) j (dH j A).flatten (some (0,qa A N j))=some (.J (.int .i64 ((min j (N-j):Nat):Int)),some (131030,0,qa A N (j+min j (N-j)))):=by
 unfold Bk;dsimp only;rw[ad ⟨rfl,by rw[ahR dP (by omega)];omega,ahT G j⟩]
 rw[awa dP (show min j (N-j)<=j by omega)];have:=ahS dP (N:=N) (j:=j) (q:=min j (N-j)) (by omega);unfold kP;rw[rZ dP,this]
abbrev Zb:Int×(List Int)×Int×(List Int)×Nat->List Data:=λ(s,l,s2,ai,N)=>[.Y [[.int .i64 s,.Y (l.map ae),.int .i64 s2,.Y (ai.map ae)]],.int .i64 N]
def Zc:=cj Zb λ(s,l,s2,ai,N)=>cM (N<41) (.own 4 (dH N (aH ((s,l),(s2,ai)))))
theorem awg:∀a b,Zb a=Zb b->a=b:=by
  rintro⟨s1,ei,Ca,Cb,aL8⟩ ⟨s2,ai,Cc,Cd,aL9⟩ h;simp only[a3,Data.int.injEq,Data.Y.injEq] at h;exact dS h.1.1.1.2 (dS (map_inj e9 _ _ h.1.1.2.1) (dS h.1.1.2.2.1.2 (dS (map_inj e9 _ _ h.1.1.2.2.2.1) (by have:=h.2.1.2;dsimp only;omega))))
@[go_sem] theorem awh (s:Int)(l:List Int)(s2:Int)(ai:List Int)(N:Nat)(H:N<41):Zc [.Y [[.int .i64 s,.Y (l.map ae),.int .i64 s2,.Y (ai.map ae)]],.int .i64 N]=some (.own 4 (dH N (aH ((s,l),(s2,ai))))):=(ct awg (s,l,s2,ai,N)).trans (cR H _)
theorem awi (T:bb)(AJ:T Uy=aU Y9)(s:Int)(l:List Int)(s2:Int)(ai:List Int)(N:Nat)(H:N<41):WP T Vz (.own 4 (dH N (aH ((s,l),(s2,ai))))) [.J (.Y [[.int .i64 s,.Y (l.map ae),.int .i64 s2,.Y (ai.map ae)]]),.J (.int .i64 N)]:=by
 refine cu ?_;simp only[Vz];have ar:decide ((N:Int)<0)=false:=cY;have hw:IntKind.u64.wrap (N:Int)=N:=zW _ ⟨by omega,by omega⟩
 have aeb:IntKind.i64.wrap (N:Int)=N:=wrap64 _ (by omega) (by omega);have oU:IntKind.u64.wrap ((1:Nat):Int)=1:=by decide
 have ba:decide ((N:Int)>9223372036854775807)=false:=cY;have HP:(64*N<=140737488355328)=True:=eq_true (by omega);have CE:(N<=maxLen)=True:=eq_true (by unfold maxLen;omega);have dP:((aH ((s,l),(s2,ai))).map R.J).length=4:=rfl;have xx:((aH ((s,l),(s2,ai))).map R.J).all R.one=true:=rfl;have Br:=awe dP xx N;have su:=λj (h:j<N)=>awf dP xx h;have L5:(aH ((s,l),(s2,ai))).map R.J=[.J (.int .i64 s),.J (.Y (l.map ae)),.J (.int .i64 s2),.J (.Y (ai.map ae))]:=rfl;simp only[EZ] at Br;rw[L5] at Br;simp only[go_sem,go_sem_proc,AJ] at Br;simp only[go_sem,go_sem_proc,AJ,ar,hw,aeb,oU,H,ba,HP,CE,show decide ((0:Int)>0)=false from rfl,Br];rw[L5] at dP xx;have iG:=awd ((s,l),(s2,ai)) N;rw[L5] at iG;simp only[L5] at su;clear L5 Br;generalize [R.J (.int .i64 s),.J (.Y (l.map ae)),.J (.int .i64 s2),.J (.Y (ai.map ae))]=A at *;refine dd [7] [] (λ(j:Nat) tm m=>j<=N/\(0<N->0<j)/\tm 8=.J (.int .i64 j)/\m 131030=some (0,qa A N j)) (λj=>N-j) (min 1 N) (by refine⟨by omega,by omega,rfl,?_⟩;simp[a2]) ?_;intro vs ms aP aO;simp only[go_sem,go_sem_proc,AJ] at aP aO;subst aP aO;rintro j tm m O hm ⟨ahU,awj,ca,L6⟩;simp only[go_sem,go_sem_proc,AJ,a3] at O hm;have bQ:=O;rcases dn (j<N) with az|b4
 ·have jf:decide ((j:Int)<(N:Int))=true:=c6;have aK:=su j az;have eS:=awc dP (N:=N) (j:=j);have hlen:(j*4<=(qa A N j).length)=True:=eq_true (by rw[ahR dP ahU];omega);have ahV:(j<=N)=True:=eq_true ahU;have fg:=ahT xx j;simp only[go_sem,go_sem_proc,AJ,fg,xx,eS] at aK;have fy:IntKind.i64.wrap ((j:Int)+((min j (N-j):Nat):Int))=((j+min j (N-j):Nat):Int):=by rw[e2 _];omega
  simp only[go_sem,go_sem_proc,AJ,bQ,ca,L6,jf,eS,hlen,ahV,fg,aK,fy,b0,CF,ft];repeat' (first|refine ax ?_ ?_|fail)<;>intro h<;>simp only[h,go_sem,go_sem_proc,AJ,bQ,ca,L6,jf,eS,hlen,ahV,fg,aK,fy,b0,CF,ft]
  exact⟨j+min j (N-j),by have:=awj (by omega);omega,by omega,by omega,rfl,rfl⟩
 ·have jf:decide ((j:Int)<(N:Int))=false:=cY;obtain rfl:j=N:=by omega
  rw[iG] at L6;have Es:=oP lG (dH j ((s,l),(s2,ai)));rw[AK] at Es;simp only[go_sem,go_sem_proc,AJ,bQ,ca,L6,jf,rE,Es];repeat' (first|refine ax ?_ ?_|fail)<;>intro h<;>simp only[h,go_sem,go_sem_proc,AJ,bQ,ca,L6,jf,rE,Es]
  rw[ad (b0 _),dr (by omega)];unfold a9;rw[tP _ λd=>rfl];have:=yt (sz:=4) ((dH j ((s,l),(s2,ai))).map aH) (by intro e he;obtain⟨f,-,rfl⟩:=dR.1 he;rfl);rw[ak,AK] at this;rw[mw,this,HO]
def QB:bc:=((0,[]),(1,[1]))
def Zd:bc:=((1,[1]),(1,[1]))
theorem ahW:ao 0=QB:=by
 unfold ao bS QB;simp[DU,sF]
theorem awk:ao 1=Zd:=by
 unfold ao bS Zd;simp[DU]
def L7 (rows:List dx)(f N i:Nat):List bc:=(dF N).map λk=>if k<i then (py QB (cellOf (rowAt rows k) f)).1 else if k=f then Zd else QB
theorem awl (rows:List dx)(f N i:Nat):(L7 rows f N i).length=N:=by simp[L7]
def Ze (rs:List eY)(n:Int):List bc×Bool :=
 if oe rs n=true then (if ((qY true rs).2.2||(qY true rs).2.1.length==0)=true then ([],false) else (L7 (qY true rs).1 ((qY true rs).2.1.headD 0) (D rs) ((qY true rs).2.1.headD 0),true)) else ([],false)



section
variable {α:Type} {op:α->bc×Int} {e:α->bc}
end
def Zf (N:Nat)(rows:List eY):Prop:=D rows=N/\∀x∈rows,x.1.length=N/\yU x
theorem Zf.set {N:Nat}{rows:List eY}(h:Zf N rows){i:Nat}{x:eY}(Q:x.1.length=N/\yU x):Zf N (rows.set i x):=by
 refine⟨by rw[iQ];exact h.1,λy av=>?_⟩
 rcases EN av with av|rfl
 ·exact h.2 y av
 ·exact Q




def Zg (r:eY):List bc:=r.1++[r.2]
def CG (df:List dx)(bL:List eY):Prop:=df.map (·.2.2)=bL.map Zg
theorem CG.len {df:List dx}{bL:List eY}(h:CG df bL):(D df)=D bL:=by
 have:=congrArg D h
 simpa using this
theorem CG.at_ {df:List dx}{bL:List eY}(h:CG df bL){i:Nat}{x:dx}{r:eY}(Q:df[i]?=some x)(ab:bL[i]?=some r):x.2.2=Zg r:=by
 have:=congrArg (λl:List (List bc)=>l[i]?) h;simp only[bj,Q,ab,mw,cl] at this;exact this
theorem CG.set {df:List dx}{bL:List eY}(h:CG df bL){i:Nat}{x:dx}{r:eY}(pC:x.2.2=Zg r):CG (df.set i x) (bL.set i r):=by
 unfold CG at h ⊢;rw[Ay,Ay,h,pC]
def bF:Nat->(Nat->Rat)->Rat
 |0,_=>0
 |n+1,f=>bF n f+f n
theorem kn {n:Nat}{f g:Nat->Rat}(h:∀k,k<n->f k=g k):bF n f=bF n g:=by
 induction n with
 |zero=>rfl
 |succ n aA=>rw[bF,bF,aA λk O=>h k (by omega),h n (by omega)]
theorem vY (n:Nat)(f g:Nat->Rat):bF n (λk=>f k+g k)=bF n f+bF n g:=by
 induction n with
 |zero=>simp[bF,o1]
 |succ n aA=>rw[bF,bF,bF,aA];grind
theorem AL (n:Nat)(c:Rat)(f:Nat->Rat):bF n (λk=>c*f k)=c*bF n f:=by
 induction n with
 |zero=>simp[bF,nH]
 |succ n aA=>rw[bF,bF,aA];grind
theorem s0 {n:Nat}{f:Nat->Rat}(h:∀k,k<n->f k=0):bF n f=0:=by
 induction n with
 |zero=>rfl
 |succ n aA=>rw[bF,aA λk O=>h k (by omega),h n (by omega)];exact o1 0
theorem y1 {n:Nat}{f:Nat->Rat}{j:Nat}(aj:j<n)(h:∀k,k<n->k≠j->f k=0):bF n f=f j:=by
 induction n with
 |zero=>omega
 |succ n aA =>
  rw[bF]
  by_cases aK:j=n
  ·subst aK;rw[s0 λk O=>h k (by omega) (by omega)];grind
  ·rw[aA (by omega) λk O=>h k (by omega),h n (by omega) (by omega)];grind
theorem awm (n m:Nat)(f:Nat->Nat->Rat):bF n (λi=>bF m (λj=>f i j))=bF m (λj=>bF n (λi=>f i j)):=by
 induction n with
 |zero=>rw[bF,s0];intro k O;rfl
 |succ n aA =>
  rw[bF,aA,<-vY]
  rfl
abbrev eC:=Nat->Nat->Rat
def mQ (N:Nat)(a y:Nat->Rat):Rat:=bF (N+1) λk=>a k*y k
def h0 (N:Nat)(A:eC)(y:Nat->Rat):Prop:=∀i,i<N->mQ N (A i) y=0
def ht (A:eC)(r s:Nat):eC:=λi=>if i=s then A r else if i=r then A s else A i
def o2 (A:eC)(r c s:Nat):eC:=λi k=>if i=r then ht A r s r k/ht A r s r c else ht A r s i k-ht A r s i c*(ht A r s r k/ht A r s r c)
theorem QC (A:eC)(r s:Nat):ht A r s r=A s:=by
 unfold ht
 by_cases h:r=s
 ·simp[h]
 ·simp[h]
theorem awn {N r s:Nat}{A:eC}{y:Nat->Rat}(ab:r<N)(X:s<N):h0 N (ht A r s) y↔h0 N A y:=by
 unfold h0 ht
 constructor
 ·intro h i M
  by_cases G:i=r
  ·have:=h s X;simp at this;rw[G];exact this
  ·by_cases I:i=s
   ·have:=h r ab;rw[I]
    by_cases af:r=s
    ·omega
    ·simp[af] at this;exact this
   ·have:=h i M;simp[G,I] at this;exact this
 ·intro h i M
  by_cases I:i=s
  ·simp[I];exact h r ab
  ·by_cases G:i=r
   ·have:=h s X;rw[ah I,ad G];exact this
   ·simp[G,I];exact h i M
theorem awo (N:Nat)(a b y:Nat->Rat)(x:Rat):mQ N (λk=>a k-x*b k) y=mQ N a y-x*mQ N b y:=by
 unfold mQ;have:(λk=>(a k-x*b k)*y k)=λk=>a k*y k+(-x)*(b k*y k):=by funext k;grind
 rw[this,vY,AL];grind
theorem ahX (N:Nat)(a y:Nat->Rat)(x:Rat):mQ N (λk=>a k/x) y=mQ N a y/x:=by
 unfold mQ;have:(λk=>(a k/x)*y k)=λk=>(1/x)*(a k*y k):=by funext k;grind
 rw[this,AL];grind
theorem Zh {N r s c:Nat}{A:eC}{y:Nat->Rat}(ab:r<N)(X:s<N)(bG:A s c≠0):h0 N (o2 A r c s) y↔h0 N A y:=by
 rw[<-awn (A:=A) ab X];have aMa:ht A r s r c≠0:=by rw[QC];exact bG
 generalize cN:ht A r s=S at *
 have d1:∀i,i≠r->mQ N (o2 A r c s i) y=mQ N (S i) y-S i c*(mQ N (S r) y/S r c):=by
  intro i M;have:o2 A r c s i=λk=>S i k-S i c*(S r k/S r c):=by funext k;unfold o2;rw[cN,ah M]
  rw[this,awo N (S i) (λk=>S r k/S r c) y (S i c),ahX]
 have d2:mQ N (o2 A r c s r) y=mQ N (S r) y/S r c:=by
  have:o2 A r c s r=λk=>S r k/S r c:=by funext k;unfold o2;rw[cN,ad rfl]
  rw[this,ahX]
 unfold h0
 constructor
 ·intro h
  have ar:mQ N (S r) y=0:=by
   have:=h r ab;rw[d2] at this;generalize mQ N (S r) y=d at *;grind
  intro i M
  by_cases p9:i=r
  ·rw[p9];exact ar
  ·have:=h i M;rw[d1 i p9,ar] at this;generalize mQ N (S i) y=d at *;grind
 ·intro h i M;have ar:=h r ab
  by_cases p9:i=r
  ·rw[p9,d2,ar];grind
  ·rw[d1 i p9,ar,h i M];grind
structure q0 (N:Nat) (aM:eC) (p c:Nat) (bE:Nat->Nat):Prop where
 lY:p<=c
 lt:∀j,j<p->bE j<c
 unit:∀j,j<p->∀i,i<N->aM i (bE j)=if i=j then 1 else 0
 zero:∀i,p<=i->i<N->∀k,k<c->aM i k=0
theorem q0.free {N p c:Nat}{aM:eC}{bE:Nat->Nat}(h:q0 N aM p c bE)(aW:∀i,p<=i->i<N->aM i c=0):q0 N aM p (c+1) bE :=
 ⟨by have:=h.lY;omega,λj aj=>by have:=h.lt j aj;omega,h.unit,λi M gI k O=>by
  by_cases Cr:k=c
  ·rw[Cr];exact aW i M gI
  ·exact h.zero i M gI k (by omega)⟩
theorem q0.EW {N p c s:Nat}{aM:eC}{bE:Nat->Nat}(h:q0 N aM p c bE)(aE:p<N)(X:p<=s)(AM:s<N)(bG:aM s c≠0):q0 N (o2 aM p c s) (p+1) (c+1) (λj=>if j=p then c else bE j):=by
 have cN:∀i,i<N->∃bk,bk<N/\ht aM p s i=aM bk/\(i<p->bk=i)/\(p<=i->p<=bk):=by
  intro i M;unfold ht
  by_cases G:i=s
  ·exact⟨p,aE,by rw[ad G],by omega,by omega⟩
  ·by_cases I:i=p
   ·exact⟨s,AM,by rw[ah G,ad I],by omega,by omega⟩
   ·exact⟨i,M,by rw[ah G,ah I],by omega,by omega⟩
 have aMb:ht aM p s p c≠0:=by rw[QC];exact bG
 have aW:∀i,p<=i->i<N->∀k,k<c->ht aM p s i k=0:=by
  intro i M gI k O;obtain⟨bk,G,I,-,aS⟩:=cN i gI;rw[I];exact h.zero bk (aS M) G k O
 refine⟨by have:=h.lY;omega,λj aj=>?_,λj aj i M=>?_,λi M gI k O=>?_⟩
 ·show (if j=p then c else bE j)<c+1
  split
  ·omega
  ·have:=h.lt j (by omega);omega
 ·unfold o2
  by_cases HQ:j=p
  ·simp only[HQ,if_true]
   by_cases nf:i=p
   ·rw[ad nf,ad nf];grind
   ·rw[ah nf,ah nf];grind
  ·simp only[HQ,if_false];have np:j<p:=by omega
   have ay:ht aM p s p (bE j)=0:=aW p (b0 _) aE _ (h.lt j np);rw[ay]
   by_cases nf:i=p
   ·rw[ad nf,ah (by omega)];grind
   ·rw[ah nf];obtain⟨bk,G,I,af,aS⟩:=cN i M;rw[I,h.unit j np bk G];rcases iq i p with az|b4
    ·rw[af az];grind
    ·rw[ah (by have:=aS b4;omega),ah (by omega)];grind
 ·unfold o2;rw[ah (by omega)]
  by_cases Cr:k=c
  ·subst Cr;grind
  ·rw[aW i (by omega) gI k (by omega),aW p (b0 _) aE k (by omega)];grind
theorem QD (N:Nat)(aM:eC)(bE:Nat->Nat):q0 N aM 0 0 bE:=⟨b0 _,λj aj=>by omega,λj aj=>by omega,λi M gI k O=>by omega⟩
end Go.Mini
namespace Go.Mini
open Classical
structure eg where
 aG:Nat
 to:Int
 bw:Nat
 am:Rat
theorem CH {a b:Rat}(h:a=b):a<=b:=by rw[h];exact gg
def cy:List eg->(eg->Rat)->Rat
 | [],_=>0
 |c::l,aQ=>aQ c+cy l aQ
theorem xy {l:List eg}{aQ bR:eg->Rat}(h:∀c∈l,aQ c=bR c):cy l aQ=cy l bR:=by
 induction l with
 |nil=>rfl
 |cons c l aA=>rw[cy,cy,h c gv,aA λx Q=>h x (g6 _ Q)]
theorem QF (l:List eg)(aQ bR:eg->Rat):cy l (λc=>aQ c+bR c)=cy l aQ+cy l bR:=by
 induction l with
 |nil=>simp only[cy];grind
 |cons c l aA=>rw[cy,cy,cy,aA];grind
theorem L8 (l:List eg)(aQ bR:eg->Rat):cy l (λc=>aQ c-bR c)=cy l aQ-cy l bR:=by
 induction l with
 |nil=>simp only[cy];grind
 |cons c l aA=>rw[cy,cy,cy,aA];grind
theorem QG (l:List eg)(a:Rat)(aQ:eg->Rat):cy l (λc=>a*aQ c)=a*cy l aQ:=by
 induction l with
 |nil=>simp only[cy];grind
 |cons c l aA=>rw[cy,cy,aA];grind
theorem L9 {l:List eg}{aQ:eg->Rat}(h:∀c∈l,aQ c=0):cy l aQ=0:=by
 induction l with
 |nil=>rfl
 |cons c l aA=>rw[cy,h c gv,aA λx Q=>h x (g6 _ Q)];grind
theorem E0 {l:List eg}{aQ bR:eg->Rat}(h:∀c∈l,aQ c<=bR c):cy l aQ<=cy l bR:=by
 induction l with
 |nil=>exact gg
 |cons c l aA =>
  have G:=h c gv;have I:=aA λx Q=>h x (g6 _ Q);rw[cy,cy];grind
theorem y2 {l:List eg}{aQ:eg->Rat}(h:∀c∈l,0<=aQ c):0<=cy l aQ:=by
 have:=E0 (l:=l) (aQ:=λ_=>0) (bR:=aQ) h;rwa [L9 λ_ _=>rfl] at this
theorem Zi {l:List eg}{aQ:eg->Rat}(h:∀c∈l,0<=aQ c)(X:cy l aQ<=0):∀c∈l,aQ c=0:=by
 induction l with
 |nil=>intro c H;cases H
 |cons c l aA =>
  rw[cy] at X;have G:=h c gv;have I:=y2 λx Q=>h x (g6 c Q);intro x Q;rcases hK.1 Q with rfl|Q
  ·grind
  ·exact aA (λy av=>h y (g6 _ av)) (by grind) x Q
theorem awp {l:List eg}{aQ bR:eg->Rat}(h:∀c∈l,aQ c<=bR c){lJ:eg}(H:lJ∈l)(az:aQ lJ<bR lJ):cy l aQ<cy l bR:=by
 by_cases X:cy l aQ<cy l bR
 ·exact X
 ·have:=Zi (l:=l) (aQ:=λc=>bR c-aQ c) (λc H=>by have:=h c H;grind) (by rw[L8];grind) lJ H;grind
theorem Ma {l:List eg}{aQ:eg->Rat}(h:0<cy l aQ):∃c∈l,0<aQ c:=by
 apply mc;intro aK
 have:=E0 (l:=l) (aQ:=aQ) (bR:=λ_=>0) λc H=>by
  apply mc;intro I;exact aK ⟨c,H,by grind⟩
 rw[L9 (aQ:=λ_=>(0:Rat)) λ_ _=>rfl] at this;grind
theorem Mb {n:Nat}{f g:Nat->Rat}(h:∀k,k<n->f k<=g k):bF n f<=bF n g:=by
 induction n with
 |zero=>exact gg
 |succ n aA =>
  have G:=h n (by omega);have I:=aA λk O=>h k (by omega);rw[bF,bF];grind
theorem ahY {n:Nat}{f:Nat->Rat}(h:∀k,k<n->0<=f k):0<=bF n f:=by
 have:=Mb (n:=n) (f:=λ_=>0) (g:=f) h;rwa [s0 λ_ _=>rfl] at this
theorem HR (n:Nat)(f g:Nat->Rat):bF n (λk=>f k-g k)=bF n f-bF n g:=by
 induction n with
 |zero=>simp only[bF];grind
 |succ n aA=>rw[bF,bF,bF,aA];grind
theorem awq {n:Nat}{f:Nat->Rat}(h:∀k,k<n->0<=f k)(X:bF n f<=0):∀k,k<n->f k=0:=by
 induction n with
 |zero=>intro k O;omega
 |succ n aA =>
  rw[bF] at X;have G:=h n (by omega);have I:=ahY (n:=n) (f:=f) λk O=>h k (by omega);intro k O
  by_cases HS:k=n
  ·subst HS;grind
  ·exact aA (λk O=>h k (by omega)) (by grind) k (by omega)
def q1 (C:Nat->Prop)(c:eg):Prop:=∃i:Nat,c.to=i/\C i
theorem Zj {n:Nat}(C:Nat->Prop)(gT:∀i,C i->i<n)(l:List eg)(a:eg->Rat):bF n (λi=>if C i then cy l (λc=>if c.to=(i:Int) then a c else 0) else 0)=cy l (λc=>if q1 C c then a c else 0):=by
 induction l with
 |nil=>exact s0 λk _=>by split<;>rfl
 |cons c l aA =>
  rw[cy,<-aA]
  have e:(λi:Nat=>if C i then cy (c::l) (λc=>if c.to=(i:Int) then a c else 0) else 0)=λi=>(if C i then (if c.to=(i:Int) then a c else 0) else 0)+(if C i then cy l (λc=>if c.to=(i:Int) then a c else 0) else 0):=by
   funext i
   split
   ·rw[cy]
   ·grind
  rw[e,vY]
  congr 1
  by_cases h:q1 C c
  ·obtain⟨i,M,Zk⟩:=h
   rw[y1 (gT i Zk) λk O pk=>by
    split
    ·rw[ah (by omega)]
    ·rfl]
   rw[ad Zk,ad M,ad ⟨i,M,Zk⟩]
  ·rw[ah h];refine s0 λk O=>?_
   split
   ·rw[ah λfR=>h ⟨k,fR,by assumption⟩]
   ·rfl
theorem QH {n:Nat}{l:List eg}(aw:∀c∈l,c.aG<n)(b:Nat->eg->Rat):bF n (λk=>cy l (λc=>if c.aG=k then b k c else 0))=cy l (λc=>b c.aG c):=by
 induction l with
 |nil=>exact s0 λk _=>rfl
 |cons c l aA =>
  rw[cy,<-aA λx Q=>aw x (g6 _ Q)];have e:(λk:Nat=>cy (c::l) (λc=>if c.aG=k then b k c else 0))=λk=>(if c.aG=k then b k c else 0)+cy l (λc=>if c.aG=k then b k c else 0):=rfl;rw[e,vY]
  congr 1
  rw[y1 (aw c gv) λk _ O=>ah (Ne.symm O),ad rfl]
structure Day where
 n:Nat
 E:Nat->Rat
 dj:List eg
structure Day.dt (d:Day):Prop where
 aG:∀c∈d.dj,c.aG<d.n
 to:∀c∈d.dj,c.to<d.n
 bw:∀c∈d.dj,c.bw<10
 am:∀c∈d.dj,0<=c.am
 E:∀i,i<d.n->0<=d.E i
def Day.bD (d:Day)(k r:Nat):Rat:=cy d.dj λc=>if c.aG=k/\c.bw<r then c.am else 0
def Day.S (d:Day)(k r:Nat):Rat:=cy d.dj λc=>if c.aG=k/\c.bw=r then c.am else 0
theorem Day.QI (d:Day)(k:Nat):d.bD k 0=0:=L9 λc _=>ah (by omega)
theorem Day.s3 (d:Day)(k r:Nat):d.bD k (r+1)=d.bD k r+d.S k r:=by
 unfold Day.bD Day.S;rw[<-QF];refine xy λc _=>?_
 by_cases G:c.aG=k/\c.bw<r
 ·rw[ad ⟨G.1,by omega⟩,ad G,ah (by omega)];grind
 ·rw[ah G]
  by_cases I:c.aG=k/\c.bw=r
  ·rw[ad ⟨I.1,by omega⟩,ad I];grind
  ·rw[ah (by omega),ah I];grind
theorem Day.dt.QJ {d:Day}(aa:d.dt)(k r:Nat):0<=d.S k r:=y2 λc H=>by
 split
 ·exact aa.am c H
 ·exact gg
theorem Day.dt.uB {d:Day}(aa:d.dt)(k:Nat){r s:Nat}(h:r<=s):d.bD k r<=d.bD k s:=by
 induction s with
 |zero =>
      obtain rfl:r=0:=by omega
      exact gg
 |succ s aA =>
  by_cases ab:r=s+1
  ·rw[ab];exact gg
  ·have G:=aA (by omega);have I:=aa.QJ k s;rw[d.s3];grind
theorem Day.dt.awr {d:Day}(aa:d.dt)(k r:Nat):0<=d.bD k r:=by
 have:=aa.uB k (ft r);rwa [d.QI] at this
theorem Day.dt.QK {d:Day}(aa:d.dt){c:eg}(H:c∈d.dj):c.am<=d.S c.aG c.bw:=by
 have:∀l:List eg,(∀x∈l,0<=x.am)->c∈l->c.am<=cy l λx=>if x.aG=c.aG/\x.bw=c.bw then x.am else 0:=by
  intro l
  induction l with
  |nil=>intro _ h;cases h
  |cons x l aA =>
   intro G I;rw[cy]
   have af:0<=cy l λx=>if x.aG=c.aG/\x.bw=c.bw then x.am else 0:=y2 λy av=>by
    split
    ·exact G y (g6 _ av)
    ·exact gg
   rcases hK.1 I with rfl|I
   ·rw[ad ⟨rfl,rfl⟩];grind
   ·have aS:=aA (λy av=>G y (g6 _ av)) I;have bm:=G x gv
    split<;>grind
 exact this d.dj aa.am H
def Day.w (d:Day)(c:eg):Rat:=c.am/d.S c.aG c.bw
theorem Day.dt.qb {d:Day}(aa:d.dt){c:eg}(H:c∈d.dj):0<=d.w c:=by
 unfold Day.w;have G:=aa.am c H;have I:=aa.QJ c.aG c.bw;rw[HT]
 exact Mc G (by
  rcases Rat.le_iff_lt_or_eq.1 I with h|h
  ·exact Rat.le_of_lt (ahZ.2 h)
  ·rw[<-h];exact CH Rat.inv_zero.symm)
theorem Day.dt.Md {d:Day}(aa:d.dt){c:eg}(H:c∈d.dj)(h:0<c.am):0<d.w c:=by
 unfold Day.w;have I:=aa.QK H;rw[HT];exact Me h (ahZ.2 (by grind))
theorem Day.LL {d:Day}{c:eg}(h:c.am=0):d.w c=0:=by
 unfold Day.w;rw[h,HT,CI]
theorem Day.CJ {d:Day}{c:eg}(h:0<d.S c.aG c.bw):d.w c*d.S c.aG c.bw=c.am:=by
 unfold Day.w;grind
theorem Day.dt.Mf {d:Day}(aa:d.dt)(C:Nat->Prop)(f:Nat->Nat)(cN:∀k,C k->0<d.S k (f k))(x:Nat->Rat):cy d.dj (λc=>if C c.aG/\c.bw=f c.aG then d.w c*x c.aG else 0)=bF d.n (λk=>if C k then x k else 0):=by
 rw[<-QH aa.aG λk c=>if C k/\c.bw=f k then d.w c*x k else 0];refine kn λk O=>?_
 by_cases gT:C k
 ·rw[ad gT];have h7:=cN k gT
  have e:cy d.dj (λc=>if c.aG=k then (if C k/\c.bw=f k then d.w c*x k else 0) else 0)=cy d.dj λc=>(x k/d.S k (f k))*(if c.aG=k/\c.bw=f k then c.am else 0):=by
   refine xy λc _=>?_
   by_cases G:c.aG=k
   ·by_cases I:c.bw=f k
    ·rw[ad G,ad ⟨gT,I⟩,ad ⟨G,I⟩];unfold Day.w;rw[G,I];grind
    ·rw[ad G,ah (λh=>I h.2),ah (λh=>I h.2)];grind
   ·rw[ah G,ah (λh=>G h.1)];grind
  rw[e,QG];show x k/d.S k (f k)*d.S k (f k)=x k;grind
 ·rw[ah gT]
  exact L9 λc _=>by
   split
   ·rw[ah λh=>gT h.1]
   ·rfl
end Go.Mini
namespace Go.Mini
open Classical
def pos (x:Rat):Rat:=if x<=0 then 0 else x
theorem HU (x:Rat):0<=pos x:=by unfold pos;split<;>grind
theorem QL (x:Rat):x<=pos x:=by unfold pos;split<;>grind
theorem Zl {x y:Rat}(h:x<=y):pos x<=pos y:=by unfold pos;split<;>split<;>grind
theorem s4 {x:Rat}(h:0<=x):pos x=x:=by unfold pos;split<;>grind
theorem vZ {x:Rat}(h:x<=0):pos x=0:=ad h
theorem CK {a x y:Rat}(aN:0<=a)(h:x<=y):a*x<=a*y:=Rat.mul_le_mul_of_nonneg_left h aN
theorem uC {a x:Rat}(aN:0<=a)(h:0<=x):0<=a*x:=Mc aN h
def Day.q (d:Day)(f:Nat->Nat)(h:Nat->Rat)(c:eg):Rat:=if c.bw<f c.aG then c.am else if c.bw=f c.aG then d.w c*pos (h c.aG-d.bD c.aG c.bw) else 0
def Day.l (d:Day)(f:Nat->Nat)(P:Nat->Prop)(h:Nat->Rat)(c:eg):Rat:=if c.bw<f c.aG then c.am else if c.bw=f c.aG/\P c.aG then d.w c*(h c.aG-d.bD c.aG c.bw) else 0
def Day.fb (d:Day)(a:eg->Rat)(i:Nat):Rat:=d.E i+cy d.dj λc=>if c.to=(i:Int) then a c else 0
theorem Day.E1 {d:Day}{a b:eg->Rat}(h:∀c∈d.dj,a c<=b c)(i:Nat):d.fb a i<=d.fb b i:=by
 unfold Day.fb
 have:=E0 (l:=d.dj) (aQ:=λc=>if c.to=(i:Int) then a c else 0) (bR:=λc=>if c.to=(i:Int) then b c else 0) λc H=>by
  try dsimp only
  split
  ·exact h c H
  ·exact gg
 grind
theorem Day.ah0 {d:Day}{a b:eg->Rat}(h:∀c∈d.dj,a c=b c)(i:Nat):d.fb a i=d.fb b i:=by
 unfold Day.fb
 congr 1
 exact xy λc H=>by rw[h c H]
theorem Day.QM (d:Day)(a b:eg->Rat)(i:Nat):d.fb a i-d.fb b i=cy d.dj λc=>if c.to=(i:Int) then a c-b c else 0:=by
 unfold Day.fb
 have:(λc:eg=>if c.to=(i:Int) then a c-b c else 0)=λc=>(if c.to=(i:Int) then a c else 0)-(if c.to=(i:Int) then b c else 0):=by
  funext c;split<;>grind
 rw[this,L8];grind
def Day.gm (d:Day)(C:Nat->Prop)(x:Nat->Rat):Rat:=bF d.n λi=>if C i then x i else 0
theorem Day.aws (d:Day)(C:Nat->Prop)(x y:Nat->Rat):d.gm C (λi=>x i-y i)=d.gm C x-d.gm C y:=by
 unfold Day.gm;rw[<-HR];exact kn λk _=>by split<;>grind
theorem Day.awt (d:Day)(C:Nat->Prop)(x y:Nat->Rat):d.gm C (λi=>x i+y i)=d.gm C x+d.gm C y:=by
 unfold Day.gm;rw[<-vY];exact kn λk _=>by split<;>grind
theorem Day.ah1 {d:Day}{C:Nat->Prop}{x y:Nat->Rat}(h:∀i,i<d.n->C i->x i<=y i):d.gm C x<=d.gm C y:=by
 refine Mb λk O=>?_
 by_cases H:C k
 ·rw[ad H,ad H];exact h k O H
 ·rw[ah H,ah H];exact gg
theorem Day.E2 {d:Day}{C:Nat->Prop}{x y:Nat->Rat}(h:∀i,i<d.n->C i->x i=y i):d.gm C x=d.gm C y:=by
 refine kn λk O=>?_
 split
 ·exact h k O (by assumption)
 ·rfl
theorem Day.Zm {d:Day}{C:Nat->Prop}(gT:∀i,C i->i<d.n)(a:eg->Rat):d.gm C (d.fb a)=d.gm C d.E+cy d.dj λc=>if q1 C c then a c else 0:=by
 rw[<-Zj C gT];show bF d.n _=bF d.n _+_;rw[<-vY];refine kn λk _=>?_;unfold Day.fb
 split<;>grind
def Day.closed (d:Day)(f:Nat->Nat)(C:Nat->Prop):Prop:=∀c∈d.dj,C c.aG->c.bw=f c.aG->0<c.am->q1 C c
def Day.cap (d:Day)(f:Nat->Nat)(g:Nat->Rat)(C:Nat->Prop)(k:Nat):Rat:=if C k then d.bD k (f k) else g k
section
variable {d:Day} {f:Nat->Nat} {P:Nat->Prop} {h g:Nat->Rat} {C:Nat->Prop} {c:eg}
theorem Day.ah2 (G:c.bw<f c.aG):d.l f P h c=c.am:=by unfold Day.l;rw[ad G]
theorem Day.ah3 (G:c.bw=f c.aG)(I:P c.aG):d.l f P h c=d.w c*(h c.aG-d.bD c.aG c.bw):=by
 unfold Day.l;rw[ah (by omega),ad ⟨G,I⟩]
theorem Day.Zn (G:¬ c.bw<f c.aG)(I:¬ (c.bw=f c.aG/\P c.aG)):d.l f P h c=0:=by
 unfold Day.l;rw[ah G,ah I]
theorem Day.awu (G:c.bw<f c.aG):d.q f h c=c.am:=by unfold Day.q;rw[ad G]
theorem Day.awv (G:c.bw=f c.aG):d.q f h c=d.w c*pos (h c.aG-d.bD c.aG c.bw):=by
 unfold Day.q;rw[ah (by omega),ad G]
theorem Day.aww (G:¬ c.bw<f c.aG)(I:¬ c.bw=f c.aG):d.q f h c=0:=by
 unfold Day.q;rw[ah G,ah I]
theorem Mg (h:¬ C c.aG):d.q f (d.cap f g C) c=d.q f g c:=by
 unfold Day.q Day.cap;rw[ah h]
theorem HV (h:C c.aG):d.q f (d.cap f g C) c=if c.bw<f c.aG then c.am else 0:=by
 by_cases G:c.bw<f c.aG
 ·rw[ad G,Day.awu G]
 ·rw[ah G]
  by_cases I:c.bw=f c.aG
  ·rw[Day.awv I];unfold Day.cap;rw[ad h,I,vZ (by grind),nH]
  ·rw[Day.aww G I]
end
structure Inv (d:Day) (f:Nat->Nat) (g:Nat->Rat):Prop where
 le:∀i,f i<=10
 sup:∀i,i<d.n->d.fb (d.q f g) i<=g i
 cB:∀i,i<d.n->f i<10->d.bD i (f i)<=g i
 M:∀i,i<d.n->f i<10->g i<d.bD i (f i+1)
 dj:∀C:Nat->Prop,(∃i,C i)->(∀i,C i->i<d.n/\f i<10)->d.closed f C->d.gm C (d.fb (d.q f (d.cap f g C)))<d.gm C λi=>d.bD i (f i)
theorem Inv.r0 {d:Day}{f:Nat->Nat}{g:Nat->Rat}(h:Inv d f g){i:Nat}(M:i<d.n)(aJ:f i<10):0<d.S i (f i):=by
 have G:=h.cB i M aJ;have I:=h.M i M aJ;rw[d.s3] at I;grind
theorem Inv.start {d:Day}(aa:d.dt):Inv d (λ_=>10) (d.fb λc=>c.am) :=
 ⟨λ_=>b0 _,λi _=>d.E1 (λc H=>by
  unfold Day.q;rw[ad (aa.bw c H)];exact gg) i,λi _ h=>absurd h (by omega),λi _ h=>absurd h (by omega),λC ⟨i,M⟩ h=>absurd (h i M).2 (by omega)⟩
theorem Inv.Zo {d:Day}{f:Nat->Nat}{g:Nat->Rat}(M:Inv d f g)(aa:d.dt){C:Nat->Prop}(G:∃i,C i)(I:∀i,C i->i<d.n/\f i<10)(af:d.closed f C)(L:eg->Rat)(e:Nat->Rat)(he:∀k,k<d.n->C k->0<=e k)
  (gy:∀c∈d.dj,q1 C c->L c<=d.q f (d.cap f g C) c+if C c.aG/\c.bw=f c.aG then d.w c*e c.aG else 0):d.gm C (d.fb L)<d.gm C λi=>d.bD i (f i)+e i:=by
 have b9:=M.dj C G I af;have gT:∀i,C i->i<d.n:=λi h=>(I i h).1;have dc:=aa.Mf C f (λk O=>M.r0 (I k O).1 (I k O).2) e;rw[Day.Zm gT] at b9 ⊢;rw[Day.awt]
 have eI:cy d.dj (λc=>if q1 C c then L c else 0)<=cy d.dj λc=>(if q1 C c then d.q f (d.cap f g C) c else 0)+(if C c.aG/\c.bw=f c.aG then d.w c*e c.aG else 0):=by
  refine E0 λc H=>?_
  have ar:0<=if C c.aG/\c.bw=f c.aG then d.w c*e c.aG else 0:=by
   split
   ·exact uC (aa.qb H) (he _ (aa.aG c H) (by rename_i h;exact h.1))
   ·exact gg
  by_cases cF:q1 C c
  ·rw[ad cF,ad cF];exact gy c H cF
  ·rw[ah cF,ah cF];grind
 rw[QF,dc] at eI;have kI:d.gm C e=bF d.n λk=>if C k then e k else 0:=rfl;rw[<-kI] at eI;grind
structure iC (d:Day) (f:Nat->Nat) (g:Nat->Rat) (P:Nat->Prop) (h:Nat->Rat):Prop where
 gL:∀i,P i->i<d.n/\f i<10
 QN:∀C:Nat->Prop,(∃i,C i)->(∀i,C i->P i)->¬ d.closed f C
 sys:∀i,i<d.n->h i=d.fb (d.l f P h) i
 le:∀i,i<d.n->h i<=g i
 ge:∀i,P i->d.bD i (f i)<h i
theorem Dv {d:Day}{f:Nat->Nat}{g:Nat->Rat}(M:Inv d f g)(aa:d.dt){P:Nat->Prop}(gx:∀i,P i->i<d.n/\f i<10)(bO:∀C:Nat->Prop,(∃i,C i)->(∀i,C i->P i)->¬ d.closed f C)(x:Nat->Rat)
  (Q:∀i,i<d.n->(cy d.dj λc=>if c.to=(i:Int) then (if c.bw=f c.aG/\P c.aG then d.w c*x c.aG else 0) else 0)<=x i):∀i,i<d.n->0<=x i:=by
 have key:∀i,P i->0<=x i:=by
  intro i0 sG;apply mc;intro kB;obtain⟨C,uD⟩:∃C:Nat->Prop,∀i,C i↔P i/\x i<0:=⟨λi=>P i/\x i<0,λ_=>Iff.rfl⟩;have gT:∀i,C i->i<d.n:=λi h=>(gx i ((uD i).1 h).1).1;refine bO C ⟨i0,(uD i0).2 ⟨sG,by grind⟩⟩ (λi h=>((uD i).1 h).1) ?_
  have ay:=Zj C gT d.dj λc=>if c.bw=f c.aG/\P c.aG then d.w c*x c.aG else 0;have aC:=aa.Mf C f (λk O=>M.r0 (gx k ((uD k).1 O).1).1 (gx k ((uD k).1 O).1).2) x
  have cg:bF d.n (λi=>if C i then cy d.dj (λc=>if c.to=(i:Int) then (if c.bw=f c.aG/\P c.aG then d.w c*x c.aG else 0) else 0) else 0)<=bF d.n (λk=>if C k then x k else 0):=by
   refine Mb λk O=>?_
   by_cases H:C k
   ·rw[ad H,ad H];exact Q k O
   ·rw[ah H,ah H];exact gg
  rw[ay,<-aC] at cg;have dw:=Zi (l:=d.dj) (aQ:=λc=>(if q1 C c then (if c.bw=f c.aG/\P c.aG then d.w c*x c.aG else 0) else 0)-(if C c.aG/\c.bw=f c.aG then d.w c*x c.aG else 0)) (λc H=>?_) (by rw[L8];grind)
  ·intro c H gU h1 uE;apply mc;intro cF;have:=dw c H
   try dsimp only at this
   rw[ah cF,ad ⟨gU,h1⟩] at this;have G:=aa.Md H uE;have I:=((uD _).1 gU).2;have af:0<d.w c*(-x c.aG):=Me G (by grind);grind
  ·try dsimp only
   have G:=aa.qb H
   have fS:((if C c.aG/\c.bw=f c.aG then d.w c*x c.aG else 0)=(if c.bw=f c.aG/\P c.aG then d.w c*x c.aG else 0)/\(if C c.aG/\c.bw=f c.aG then d.w c*x c.aG else 0)<=0)\/((if C c.aG/\c.bw=f c.aG then d.w c*x c.aG else 0)=0/\0<=(if c.bw=f c.aG/\P c.aG then d.w c*x c.aG else 0)):=by
    by_cases gU:C c.aG/\c.bw=f c.aG
    ·left
     have I:=(uD _).1 gU.1;have af:0<=d.w c*(-x c.aG):=uC G (by have:=I.2;grind);have aS:c.bw=f c.aG/\P c.aG:=⟨gU.2,I.1⟩;rw[ad gU,ad aS];exact⟨rfl,by grind⟩
    ·right
     rw[ah gU];refine⟨rfl,?_⟩
     split
     ·rename_i I;refine uC G ?_;apply mc;intro h;exact gU ⟨(uD _).2 ⟨I.2,by grind⟩,I.1⟩
     ·exact gg
   generalize (if C c.aG/\c.bw=f c.aG then d.w c*x c.aG else 0)=B at *;generalize (if c.bw=f c.aG/\P c.aG then d.w c*x c.aG else 0)=A at *;rcases fS with ⟨I,af⟩|⟨I,af⟩<;>split<;>grind
 intro i cF;refine v3 ?_ (Q i cF);refine y2 λc H=>?_
 split
 ·split
  ·rename_i h;exact uC (aa.qb H) (key _ h.2)
  ·exact gg
 ·exact gg
theorem Day.awx (d:Day)(f:Nat->Nat)(P:Nat->Prop)(h cx:Nat->Rat)(c:eg):d.l f P cx c-d.l f P h c=if c.bw=f c.aG/\P c.aG then d.w c*(cx c.aG-h c.aG) else 0:=by
 unfold Day.l
 by_cases G:c.bw<f c.aG
 ·rw[ad G,ad G,ah (by omega)];grind
 ·rw[ah G,ah G]
  split<;>grind
theorem awy {d:Day}{f:Nat->Nat}{g:Nat->Rat}(M:Inv d f g)(aa:d.dt){P:Nat->Prop}(gx:∀i,P i->i<d.n/\f i<10)(bO:∀C:Nat->Prop,(∃i,C i)->(∀i,C i->P i)->¬ d.closed f C){h cx:Nat->Rat}
  (e:∀i,i<d.n->h i=d.fb (d.l f P h) i) (e':∀i,i<d.n->cx i=d.fb (d.l f P cx) i):∀i,i<d.n->h i=cx i:=by
 have main:∀h cx:Nat->Rat,(∀i,i<d.n->h i=d.fb (d.l f P h) i)->(∀i,i<d.n->cx i=d.fb (d.l f P cx) i)->∀i,i<d.n->0<=cx i-h i:=by
  intro h cx e e';refine Dv M aa gx bO (λi=>cx i-h i) λi cF=>?_;rw[e i cF,e' i cF,d.QM];refine CH (xy λc H=>?_);rw[d.awx]
 intro i cF;have G:=main h cx e e' i cF;have I:=main cx h e' e i cF;grind
theorem awz {d:Day}{f:Nat->Nat}{g:Nat->Rat}(M:Inv d f g)(aa:d.dt){P:Nat->Prop}(gx:∀i,P i->i<d.n/\f i<10)(bO:∀C:Nat->Prop,(∃i,C i)->(∀i,C i->P i)->¬ d.closed f C)(x:Nat->Rat)
  (Q:∀i,i<d.n->x i=cy d.dj λc=>if c.to=(i:Int) then (if c.bw=f c.aG/\P c.aG then d.w c*x c.aG else 0) else 0):∀i,i<d.n->x i=0:=by
 intro i cF;have G:=Dv M aa gx bO x (λi cF=>CH (Q i cF).symm) i cF;have I:=Dv M aa gx bO (λi => -x i) (λi cF=>?_) i cF
 ·grind
 ·rw[Q i cF];refine CH ?_;have:∀aQ:eg->Rat,-(cy d.dj aQ)=cy d.dj λc=>(-1)*aQ c:=λaQ=>by rw[QG];grind
  rw[this];refine xy λc H=>?_
  split
  ·split<;>grind
  ·grind
theorem Day.awA {d:Day}(aa:d.dt){f:Nat->Nat}{P:Nat->Prop}{h g:Nat->Rat}(hle:∀i,i<d.n->h i<=g i){c:eg}(H:c∈d.dj):d.l f P h c<=d.q f g c:=by
 unfold Day.l Day.q
 by_cases G:c.bw<f c.aG
 ·rw[ad G,ad G];exact gg
 ·rw[ah G,ah G]
  by_cases I:c.bw=f c.aG
  ·rw[ad I];have hw:=aa.qb H
   by_cases af:P c.aG
   ·rw[ad ⟨I,af⟩];refine CK hw (v3 ?_ (QL _));have:=hle _ (aa.aG c H);grind
   ·rw[ah λh=>af h.2];exact uC hw (HU _)
  ·rw[ah λh=>I h.1,ah I];exact gg
theorem iC.start {d:Day}(aa:d.dt){f:Nat->Nat}{g:Nat->Rat}(M:Inv d f g){h:Nat->Rat}(X:∀i,i<d.n->h i=d.fb (d.l f (λ_=>False) h) i):iC d f g (λ_=>False) h :=
 ⟨λi h=>h.elim,λC ⟨i,h⟩ cx=>(cx i h).elim,X,λi cF=>by
  rw[X i cF];refine v3 (d.E1 (b:=d.q f g) (λc H=>?_) i) (M.sup i cF);unfold Day.l Day.q
  by_cases G:c.bw<f c.aG
  ·rw[ad G,ad G];exact gg
  ·rw[ah G,ah G,ah λh=>h.2]
   split
   ·exact uC (aa.qb H) (HU _)
   ·exact gg,λi h=>h.elim⟩
def s5 (d:Day)(f:Nat->Nat)(P:Nat->Prop)(h:Nat->Rat)(i:Nat):Prop:=P i\/(i<d.n/\f i<10/\d.bD i (f i)<h i)
theorem iC.HW {d:Day}{f:Nat->Nat}{g:Nat->Rat}{P:Nat->Prop}{h:Nat->Rat}(aE:iC d f g P h):∀i,s5 d f P h i->i<d.n/\f i<10:=λi aK=>aK.elim (aE.gL i) λh=>⟨h.1,h.2.1⟩
theorem iC.Zp {d:Day}{f:Nat->Nat}{g:Nat->Rat}{P:Nat->Prop}{h:Nat->Rat}(aE:iC d f g P h):∀i,s5 d f P h i->d.bD i (f i)<h i:=λi aK=>aK.elim (aE.ge i) λh=>h.2.2
theorem iC.ah4 {d:Day}(aa:d.dt){f:Nat->Nat}{g:Nat->Rat}(M:Inv d f g){P:Nat->Prop}{h:Nat->Rat}(aE:iC d f g P h):∀C:Nat->Prop,(∃i,C i)->(∀i,C i->s5 d f P h i)->¬ d.closed f C:=by
 intro C G I af;have aJ:∀i,C i->i<d.n/\f i<10:=λi H=>aE.HW i (I i H)
 have lr:=M.Zo aa G aJ af (d.l f P h) (λk=>if P k then h k-d.bD k (f k) else 0) (λk _ O=>by
  try dsimp only
  split
  ·have:=aE.ge k (by assumption);grind
  ·exact gg) λc H _=>by
   by_cases eI:C c.aG
   ·rw[HV eI]
    by_cases b9:c.bw<f c.aG
    ·rw[Day.ah2 b9,ad b9,ah (λh=>by have:=h.2;omega)];grind
    ·rw[ah b9]
     by_cases dc:c.bw=f c.aG
     ·have pF:C c.aG/\c.bw=f c.aG:=⟨eI,dc⟩;rw[ad pF]
      by_cases kI:P c.aG
      ·rw[Day.ah3 dc kI,ad kI,dc];grind
      ·rw[Day.Zn b9 (λh=>kI h.2),ah kI];grind
     ·rw[Day.Zn b9 (λh=>dc h.1),ah λh=>dc h.2];grind
   ·rw[Mg eI,ah λh=>eI h.1];have:=Day.awA aa (P:=P) (f:=f) aE.le H;grind
 have e:d.gm C (d.fb (d.l f P h))=d.gm C h:=Day.E2 λi cF _=>(aE.sys i cF).symm;rw[e] at lr
 have:d.gm C (λi=>d.bD i (f i)+if P i then h i-d.bD i (f i) else 0)<=d.gm C h:=by
  refine Day.ah1 λi cF H=>?_;have:=aE.Zp i (I i H)
  split<;>grind
 grind
theorem iC.next {d:Day}(aa:d.dt){f:Nat->Nat}{g:Nat->Rat}(M:Inv d f g){P:Nat->Prop}{h cx:Nat->Rat}(aE:iC d f g P h)(X:∀i,i<d.n->cx i=d.fb (d.l f (s5 d f P h) cx) i):iC d f g (s5 d f P h) cx:=by
 have bO:=aE.ah4 aa M
 have ug:∀i,i<d.n->0<=cx i-h i:=by
  refine Dv M aa aE.HW bO (λi=>cx i-h i) λi cF=>?_;rw[X i cF,aE.sys i cF,d.QM];refine E0 λc H=>?_;have hw:=aa.qb H
  split
  ·unfold Day.l
   by_cases G:c.bw<f c.aG
   ·rw[ad G,ad G,ah (by omega)];grind
   ·rw[ah G,ah G]
    by_cases I:c.bw=f c.aG
    ·by_cases af:s5 d f P h c.aG
     ·rw[ad ⟨I,af⟩,ad ⟨I,af⟩]
      by_cases aS:P c.aG
      ·rw[ad ⟨I,aS⟩];grind
      ·rw[ah λh=>aS h.2];have bm:=aE.Zp _ af;have:=uC hw (show 0<=h c.aG-d.bD c.aG c.bw by rw[I];grind);grind
     ·rw[ah λh=>af h.2,ah λh=>af h.2,ah λh=>af (.inl h.2)];grind
    ·rw[ah λh=>I h.1,ah λh=>I h.1,ah λh=>I h.1];grind
  ·exact gg
 have hle:∀i,i<d.n->0<=g i-cx i:=by
  refine Dv M aa aE.HW bO (λi=>g i-cx i) λi cF=>?_;refine v3 ?_ (show d.fb (d.q f g) i-cx i<=g i-cx i by have:=M.sup i cF;grind);rw[X i cF,d.QM];refine E0 λc H=>?_;have hw:=aa.qb H
  split
  ·unfold Day.l Day.q
   by_cases G:c.bw<f c.aG
   ·rw[ad G,ad G,ah (by omega)];grind
   ·rw[ah G,ah G]
    by_cases I:c.bw=f c.aG
    ·rw[ad I]
     by_cases af:s5 d f P h c.aG
     ·rw[ad ⟨I,af⟩,ad ⟨I,af⟩];have:=CK hw (QL (g c.aG-d.bD c.aG c.bw));grind
     ·rw[ah λh=>af h.2,ah λh=>af h.2];have:=uC hw (HU (g c.aG-d.bD c.aG c.bw));grind
    ·rw[ah λh=>I h.1,ah I,ah λh=>I h.1];grind
  ·exact gg
 exact⟨aE.HW,bO,X,λi cF=>by have:=hle i cF;grind,λi aK=>by
  have G:=aE.Zp i aK;have I:=ug i (aE.HW i aK).1;grind⟩
theorem iC.stop {d:Day}(aa:d.dt){f:Nat->Nat}{g:Nat->Rat}{P:Nat->Prop}{h:Nat->Rat}(aE:iC d f g P h)(M:Inv d f g)(Mh:∀i,i<d.n->f i<10->d.bD i (f i)<h i->P i):∀i,i<d.n->h i=d.fb (d.q f h) i:=by
 intro i cF;rw[aE.sys i cF];refine d.ah0 (λc H=>?_) i;unfold Day.l Day.q
 by_cases G:c.bw<f c.aG
 ·rw[ad G,ad G]
 ·rw[ah G,ah G]
  by_cases I:c.bw=f c.aG
  ·rw[ad I]
   by_cases af:P c.aG
   ·rw[ad ⟨I,af⟩,s4];have:=aE.ge _ af;rw[I];grind
   ·rw[ah λh=>af h.2,vZ]
    ·grind
    ·apply mc;intro aK;refine af (Mh _ (aa.aG c H) (by rw[<-I];exact aa.bw c H) ?_);rw[<-I];grind
  ·rw[ah λh=>I h.1,ah I]
end Go.Mini
namespace Go.Mini
open Classical
def Day.hk (d:Day)(h:Nat->Rat)(c:eg):Rat:=if d.bD c.aG (c.bw+1)<=h c.aG then c.am else d.w c*pos (h c.aG-d.bD c.aG c.bw)
theorem Day.dt.QO {d:Day}(aa:d.dt){c:eg}(H:c∈d.dj){x:Rat}(h:x<=d.S c.aG c.bw):d.w c*x<=c.am:=by
 have ar:=aa.am c H;have G:=aa.QK H
 by_cases cN:0<d.S c.aG c.bw
 ·have:=CK (aa.qb H) h;rw[Day.CJ cN] at this;exact this
 ·rw[Day.LL (by grind),CI];exact ar
theorem Day.dt.Zq {d:Day}(aa:d.dt)(h:Nat->Rat){c:eg}(H:c∈d.dj):d.hk h c<=c.am:=by
 unfold Day.hk
 split
 ·exact gg
 ·rename_i aK;refine aa.QO H ?_;rw[d.s3] at aK;have:=aa.QJ c.aG c.bw;unfold pos
  split<;>grind
theorem Day.dt.Mi {d:Day}(aa:d.dt)(h:Nat->Rat){c:eg}(H:c∈d.dj):0<=d.hk h c:=by
 unfold Day.hk
 split
 ·exact aa.am c H
 ·exact uC (aa.qb H) (HU _)
theorem Day.dt.QP {d:Day}(aa:d.dt)(f:Nat->Nat)(h:Nat->Rat){c:eg}(H:c∈d.dj):0<=d.q f h c:=by
 unfold Day.q
 split
 ·exact aa.am c H
 ·split
  ·exact uC (aa.qb H) (HU _)
  ·exact gg
theorem Day.dt.Mj {d:Day}(aa:d.dt){a:eg->Rat}(h:∀c∈d.dj,0<=a c){i:Nat}(M:i<d.n):0<=d.fb a i:=by
 unfold Day.fb;have G:=aa.E i M
 have:=y2 (l:=d.dj) (aQ:=λc=>if c.to=(i:Int) then a c else 0) λc H=>by
  try dsimp only
  split
  ·exact h c H
  ·exact gg
 grind
theorem Day.dt.ah5 {d:Day}(aa:d.dt){f:Nat->Nat}{h g:Nat->Rat}{c:eg}(H:c∈d.dj)(hle:h c.aG<=g c.aG):d.q f h c<=d.q f g c:=by
 unfold Day.q
 split
 ·exact gg
 ·split
  ·exact CK (aa.qb H) (Zl (by grind))
  ·exact gg
def Zr (d:Day)(f:Nat->Nat)(h:Nat->Rat)(hc:Nat->Nat):Prop:=(∀i,hc i<=10)/\(∀i,i<d.n->h i<d.bD i (f i)->hc i<f i/\d.bD i (hc i)<=h i/\h i<d.bD i (hc i+1))/\∀i,i<d.n->d.bD i (f i)<=h i->hc i=f i
theorem Zs {d:Day}(aa:d.dt){f hc:Nat->Nat}{h:Nat->Rat}(aJ:Zr d f h hc){c:eg}(H:c∈d.dj):d.q hc h c<=d.q f h c:=by
 obtain⟨-,G,I⟩:=aJ;have bX:=aa.aG c H
 by_cases e8:h c.aG<d.bD c.aG (f c.aG)
 ·obtain⟨b9,dc,eI⟩:=G _ bX e8;unfold Day.q
  by_cases e7:c.bw<hc c.aG
  ·rw[ad e7,ad (by omega)];exact gg
  ·rw[ah e7]
   by_cases en:c.bw=hc c.aG
   ·rw[ad en,ad (by omega)];rw[<-en] at dc eI;rw[d.s3] at eI;exact aa.QO H (by rw[s4 (by grind)];grind)
   ·rw[ah en];exact aa.QP f h H
 ·have:=I _ bX (by grind);unfold Day.q;rw[this];exact gg
theorem Inv.Mk {d:Day}(aa:d.dt){f hc:Nat->Nat}{g h:Nat->Rat}(M:Inv d f g)(y3:∀i,i<d.n->h i=d.fb (d.q f h) i)(hle:∀i,i<d.n->h i<=g i)(aJ:Zr d f h hc):Inv d hc h:=by
 have fQ:∀i,i<d.n->hc i<10->d.bD i (hc i)<=h i:=by
  intro i cF CA
  by_cases e8:h i<d.bD i (f i)
  ·exact (aJ.2.1 i cF e8).2.1
  ·rw[aJ.2.2 i cF (by grind)];grind
 have jg:∀i,i<d.n->hc i<10->h i<d.bD i (hc i+1):=by
  intro i cF CA
  by_cases e8:h i<d.bD i (f i)
  ·exact (aJ.2.1 i cF e8).2.2
  ·have e:=aJ.2.2 i cF (by grind);rw[e] at CA ⊢;have:=M.M i cF CA;have:=hle i cF;grind
 have cN:∀i,i<d.n->hc i<10->0<d.S i (hc i):=by
  intro i cF CA;have G:=fQ i cF CA;have I:=jg i cF CA;rw[d.s3] at I;grind
 refine⟨aJ.1,λi cF=>?_,fQ,jg,λC G I af=>?_⟩
 ·exact v3 (d.E1 (λc H=>Zs aa aJ H) i) (CH (y3 i cF).symm)
 ·have gT:∀i,C i->i<d.n:=λi H=>(I i H).1
  by_cases hex:∃k,C k/\h k<d.bD k (f k)
  ·obtain⟨fL,DM,e8⟩:=hex;have ah6:=gT fL DM;obtain⟨dh,eH,jz⟩:=aJ.2.1 fL ah6 e8;have qQ:=cN fL ah6 (I fL DM).2;obtain⟨lJ,oV,n9⟩:=Ma qQ
   have awB:lJ.aG=fL/\lJ.bw=hc fL/\0<lJ.am:=by
    by_cases aT:lJ.aG=fL/\lJ.bw=hc fL
    ·rw[ad aT] at n9;exact⟨aT.1,aT.2,n9⟩
    ·rw[ah aT] at n9;exact absurd n9 (by grind)
   obtain⟨cW,de,ej⟩:=awB;have ay:=Day.Zm gT (d.q f h);have aC:=Day.Zm gT (d.q hc (d.cap hc h C));have cg:d.gm C (d.fb (d.q f h))=d.gm C h:=Day.E2 λi cF _=>(y3 i cF).symm;have dw:=aa.Mf C hc (λk O=>cN k (gT k O) (I k O).2) λk=>h k-d.bD k (hc k);have cX:d.gm C (λk=>h k-d.bD k (hc k))=bF d.n λk=>if C k then h k-d.bD k (hc k) else 0:=rfl;rw[<-cX,d.aws] at dw
   have bN:cy d.dj (λc=>(if q1 C c then d.q hc (d.cap hc h C) c else 0)+(if C c.aG/\c.bw=hc c.aG then d.w c*(h c.aG-d.bD c.aG (hc c.aG)) else 0))<cy d.dj (λc=>if q1 C c then d.q f h c else 0):=by
    refine awp (λc H=>?_) oV ?_
    ·have bX:=aa.aG c H
     by_cases cF:q1 C c
     ·rw[ad cF,ad cF]
      by_cases gU:C c.aG
      ·rw[HV gU]
       by_cases e7:c.bw<hc c.aG
       ·rw[ad e7,ah (by omega)]
        have:c.bw<f c.aG:=by
         by_cases e8:h c.aG<d.bD c.aG (f c.aG)
         ·have:=(aJ.2.1 _ bX e8).1;omega
         ·rw[<-aJ.2.2 _ bX (by grind)];exact e7
        unfold Day.q;rw[ad this];grind
       ·rw[ah e7]
        by_cases en:c.bw=hc c.aG
        ·rw[ad ⟨gU,en⟩]
         by_cases e8:h c.aG<d.bD c.aG (f c.aG)
         ·obtain⟨b9,dc,eI⟩:=aJ.2.1 _ bX e8;unfold Day.q;rw[ad (by omega)];rw[d.s3] at eI;have:=aa.QO H (x:=h c.aG-d.bD c.aG (hc c.aG)) (by rw[en];grind);grind
         ·have e:=aJ.2.2 _ bX (by grind);rw[e] at e7 en ⊢;unfold Day.q;rw[ah e7,ad en,<-en];have:=CK (aa.qb H) (QL (h c.aG-d.bD c.aG c.bw));grind
        ·rw[ah λh=>en h.2];have:=aa.QP f h H;grind
      ·rw[Mg gU,ah λh=>gU h.1];have:=Zs aa aJ H;grind
     ·rw[ah cF,ah cF]
      by_cases gU:C c.aG/\c.bw=hc c.aG
      ·rw[ad gU]
       have:c.am=0:=by
        have ar:=aa.am c H
        by_cases aE:0<c.am
        ·exact absurd (af c H gU.1 gU.2 aE) cF
        ·grind
       rw[Day.LL this];grind
      ·rw[ah gU];grind
    ·have gU:C lJ.aG:=by rw[cW];exact DM
     have h1:lJ.bw=hc lJ.aG:=by rw[cW];exact de
     have cF:=af lJ oV gU h1 ej;rw[ad cF,ad cF,HV gU,ah (by omega),ad ⟨gU,h1⟩];unfold Day.q;rw[ad (by rw[cW];omega)];have hw:=aa.Md oV ej;have Pk:=d.CJ (c:=lJ) (by rw[cW,de];exact qQ);rw[d.s3] at jz;rw[<-cW,<-h1] at jz;rw[<-h1];have:0<d.w lJ*(d.S lJ.aG lJ.bw-(h lJ.aG-d.bD lJ.aG lJ.bw)):=Me hw (by rw[cW] at jz ⊢;grind);grind
   rw[QF,dw] at bN;grind
  ·have ya:∀k,C k->hc k=f k:=λk O=>aJ.2.2 k (gT k O) (by
    apply mc;intro aK;exact hex ⟨k,O,by grind⟩)
   have b9:=M.dj C G (λi H=>⟨gT i H,by rw[<-ya i H];exact (I i H).2⟩) (λc H gU h1 uE=>af c H gU (by rw[ya _ gU];exact h1) uE);have dc:d.gm C (λi=>d.bD i (hc i))=d.gm C λi=>d.bD i (f i):=Day.E2 λi _ H=>by rw[ya i H]
   rw[dc]
   have eI:d.gm C (d.fb (d.q hc (d.cap hc h C)))<=d.gm C (d.fb (d.q f (d.cap f g C))):=by
    refine Day.ah1 λi _ _=>d.E1 (λc H=>?_) i
    by_cases gU:C c.aG
    ·rw[HV gU,HV gU,ya _ gU];exact gg
    ·rw[Mg gU,Mg gU];exact v3 (Zs aa aJ H) (aa.ah5 H (hle _ (aa.aG c H)))
   grind
def Day.mR (d:Day)(h:Nat->Rat)(i:Nat):Rat:=d.fb (d.hk h) i
theorem awC {d:Day}(aa:d.dt){f:Nat->Nat}{g z:Nat->Rat}(M:Inv d f g)(aW:∀i,i<d.n->z i<=g i){c:eg}(H:c∈d.dj):d.hk z c<=d.q f z c:=by
 have bX:=aa.aG c H;have h1:=aa.bw c H;unfold Day.q
 by_cases e7:c.bw<f c.aG
 ·rw[ad e7];exact aa.Zq z H
 ·rw[ah e7];have gw:f c.aG<10:=by omega
  have G:=M.M _ bX gw;have I:=aW _ bX
  by_cases en:c.bw=f c.aG
  ·rw[ad en];unfold Day.hk;rw[ah (by rw[en];grind)];exact gg
  ·rw[ah en];have af:=aa.uB c.aG (r:=f c.aG+1) (s:=c.bw) (by omega);have aS:=aa.uB c.aG (r:=c.bw) (s:=c.bw+1) (by omega);unfold Day.hk;rw[ah (by grind),vZ (by grind),nH];exact gg
theorem Inv.Zt {d:Day}(aa:d.dt){f:Nat->Nat}{g h z:Nat->Rat}(M:Inv d f g)(y3:∀i,i<d.n->h i=d.fb (d.q f h) i)(hle:∀i,i<d.n->h i<=g i)(aW:∀i,i<d.n->z i<=d.fb (d.q f z) i):∀i,i<d.n->z i<=h i:=by
 intro i0 sG;apply mc;intro kB;obtain⟨C,uD⟩:∃C:Nat->Prop,∀i,C i↔i<d.n/\h i<z i:=⟨λi=>i<d.n/\h i<z i,λ_=>Iff.rfl⟩;obtain⟨HX,AO⟩:∃iW:Nat->Prop,∀i,iW i↔C i/\f i<10:=⟨λi=>C i/\f i<10,λ_=>Iff.rfl⟩;have gT:∀i,C i->i<d.n:=λi h=>((uD i).1 h).1;have HY:∀i,C i->h i<z i:=λi h=>((uD i).1 h).2;have bG:∃i,C i:=⟨i0,(uD i0).2 ⟨sG,by grind⟩⟩
 have ay:=Zj C gT d.dj λc=>d.q f z c-d.q f h c;have aC:=aa.Mf HX f (λk O=>M.r0 (gT k ((AO k).1 O).1) ((AO k).1 O).2) λk=>z k-h k
 have cg:d.gm C (λi=>z i-h i)<=bF d.n λi=>if C i then cy d.dj (λc=>if c.to=(i:Int) then d.q f z c-d.q f h c else 0) else 0:=by
  refine Mb λk O=>?_
  by_cases H:C k
  ·rw[ad H,ad H,<-d.QM,<-y3 k O];have G:=aW k O;grind
  ·rw[ah H,ah H];exact gg
 rw[ay] at cg
 have dw:bF d.n (λk=>if HX k then z k-h k else 0)<=d.gm C (λi=>z i-h i):=by
  refine Mb λk O=>?_
  by_cases H:C k
  ·rw[ad H];have:=HY k H
   split<;>grind
  ·rw[ah H,ah λh=>H ((AO k).1 h).1];exact gg
 have ah7:∀c∈d.dj,0<=(if HX c.aG/\c.bw=f c.aG then d.w c*(z c.aG-h c.aG) else 0)-(if q1 C c then d.q f z c-d.q f h c else 0):=by
  intro c H;have hw:=aa.qb H;have bX:=aa.aG c H;have h1:=aa.bw c H
  by_cases G:HX c.aG/\c.bw=f c.aG
  ·rw[ad G];have I:0<=d.w c*(z c.aG-h c.aG):=uC hw (by have:=HY _ ((AO _).1 G.1).1;grind)
   have af:d.q f z c-d.q f h c<=d.w c*(z c.aG-h c.aG):=by
    unfold Day.q;rw[ah (by omega),ad G.2,ah (by omega),ad G.2]
    have aS:pos (z c.aG-d.bD c.aG c.bw)-pos (h c.aG-d.bD c.aG c.bw)<=z c.aG-h c.aG:=by
     have:=HY _ ((AO _).1 G.1).1;unfold pos
     split<;>split<;>grind
    have:=CK hw aS;grind
   split<;>grind
  ·rw[ah G]
   have af:d.q f z c-d.q f h c<=0:=by
    unfold Day.q
    by_cases e7:c.bw<f c.aG
    ·rw[ad e7,ad e7];grind
    ·rw[ah e7,ah e7]
     by_cases en:c.bw=f c.aG
     ·rw[ad en,ad en]
      have aS:z c.aG<=h c.aG:=by
       apply mc;intro aK;exact G ⟨(AO _).2 ⟨(uD _).2 ⟨bX,by grind⟩,by omega⟩,en⟩
      have:=CK hw (Zl (show z c.aG-d.bD c.aG c.bw<=h c.aG-d.bD c.aG c.bw by grind));grind
     ·rw[ah en,ah en];grind
   split<;>grind
 have awD:=Zi ah7 (by rw[L8,aC];grind)
 have Zu:∀k,C k->f k<10:=by
  have:bF d.n (λk=>(if C k then z k-h k else 0)-(if HX k then z k-h k else 0))<=0:=by
   rw[HR];have:0<=cy d.dj λc=>(if HX c.aG/\c.bw=f c.aG then d.w c*(z c.aG-h c.aG) else 0)-(if q1 C c then d.q f z c-d.q f h c else 0):=y2 ah7;rw[L8,aC] at this;have bm:d.gm C (λi=>z i-h i)=bF d.n λk=>if C k then z k-h k else 0:=rfl;grind
  have aK:=awq (λk O=>by
   try dsimp only
   by_cases H:C k
   ·rw[ad H];have:=HY k H
    split<;>grind
   ·rw[ah H,ah λh=>H ((AO k).1 h).1];grind) this
  intro k O;apply mc;intro gw;have:=aK k (gT k O)
  try dsimp only at this
  rw[ad O,ah λh=>gw ((AO k).1 h).2] at this;have:=HY k O;grind
 have cF:∀c∈d.dj,C c.aG->c.bw=f c.aG->0<c.am->q1 C c/\d.bD c.aG c.bw<=h c.aG:=by
  intro c H gU h1 uE;have ar:=awD c H;have hw:=aa.Md H uE;have az:=HY _ gU
  try dsimp only at ar
  rw[ad ⟨(AO _).2 ⟨gU,Zu _ gU⟩,h1⟩] at ar
  by_cases cF:q1 C c
  ·refine⟨cF,?_⟩;rw[ad cF] at ar;unfold Day.q at ar;rw[ah (by omega),ad h1,ah (by omega),ad h1] at ar;apply mc;intro aK;rw[vZ (x:=h c.aG-d.bD c.aG c.bw) (by grind)] at ar
   have aS:0<z c.aG-h c.aG-pos (z c.aG-d.bD c.aG c.bw):=by
    unfold pos
    split<;>grind
   have:=Me hw aS;grind
  ·rw[ah cF] at ar;have:0<d.w c*(z c.aG-h c.aG):=Me hw (by grind);grind
 have oj:∀k,C k->d.bD k (f k)<=h k:=by
  intro k O;have X:=M.r0 (gT k O) (Zu k O);obtain⟨lJ,oV,n9⟩:=Ma X
  by_cases aT:lJ.aG=k/\lJ.bw=f k
  ·rw[ad aT] at n9;have:=(cF lJ oV (by rw[aT.1];exact O) (by rw[aT.1];exact aT.2) n9).2;rwa [aT.1,aT.2] at this
  ·rw[ah aT] at n9;exact absurd n9 (by grind)
 have lr:=M.Zo aa bG (λi H=>⟨gT i H,Zu i H⟩) (λc H gU h1 uE=>(cF c H gU h1 uE).1) (d.q f h) (λk=>h k-d.bD k (f k)) (λk _ O=>by have:=oj k O;grind) λc H _=>by
  by_cases gU:C c.aG
  ·rw[HV gU];unfold Day.q
   by_cases e7:c.bw<f c.aG
   ·rw[ad e7,ad e7,ah (by omega)];grind
   ·rw[ah e7,ah e7]
    by_cases en:c.bw=f c.aG
    ·rw[ad en,ad ⟨gU,en⟩,en,s4 (by have:=oj _ gU;grind)];grind
    ·rw[ah en,ah λh=>en h.2];grind
  ·rw[Mg gU,ah λh=>gU h.1];have:=aa.ah5 (f:=f) H (hle _ (aa.aG c H));grind
 have bV:d.gm C (d.fb (d.q f h))=d.gm C h:=Day.E2 λi cF _=>(y3 i cF).symm;have bQ:d.gm C (λi=>d.bD i (f i)+(h i-d.bD i (f i)))=d.gm C h:=Day.E2 λi _ _=>by grind
 rw[bV,bQ] at lr;exact absurd lr (by grind)
theorem Inv.final {d:Day}(aa:d.dt){f:Nat->Nat}{g h:Nat->Rat}(M:Inv d f g)(y3:∀i,i<d.n->h i=d.fb (d.q f h) i)(hle:∀i,i<d.n->h i<=g i)(gH:∀i,i<d.n->d.bD i (f i)<=h i):(∀i,i<d.n->h i=d.mR h i)/\∀i,i<d.n->(f i<10↔h i<d.bD i 10):=by
 constructor
 ·intro i cF;rw[y3 i cF];unfold Day.mR;have:∀j,j<d.n->h j=d.fb (d.q f h) j:=y3;refine d.ah0 (λc H=>?_) i;have bX:=aa.aG c H;have h1:=aa.bw c H;have ar:=gH _ bX;unfold Day.q Day.hk
  by_cases e7:c.bw<f c.aG
  ·have:=aa.uB c.aG (r:=c.bw+1) (s:=f c.aG) (by omega);rw[ad e7,ad (by grind)]
  ·rw[ah e7];have gw:f c.aG<10:=by omega
   have G:=M.M _ bX gw;have I:=hle _ bX
   by_cases en:c.bw=f c.aG
   ·rw[ad en,ah (by rw[en];grind)]
   ·have af:=aa.uB c.aG (r:=f c.aG+1) (s:=c.bw) (by omega);have aS:=aa.uB c.aG (r:=c.bw) (s:=c.bw+1) (by omega);rw[ah en,ah (by grind),vZ (by grind),nH]
 ·intro i cF
  constructor
  ·intro gw;have G:=M.M _ cF gw;have I:=hle _ cF;have af:=aa.uB i (r:=f i+1) (s:=10) (by omega);grind
  ·intro G;apply mc;intro I;have af:=M.le i;have aS:f i=10:=by omega
   have bm:=gH i cF;rw[aS] at bm;grind
end Go.Mini
namespace Go.Mini
open Classical
def nI (d:Day)(f:Nat->Nat)(h:Nat->Rat):Prop:=∃g,Inv d f g/\(∀i,i<d.n->h i=d.fb (d.q f h) i)/\∀i,i<d.n->h i<=g i
theorem nI.unique {d:Day}(aa:d.dt){f:Nat->Nat}{h cx:Nat->Rat}(a:nI d f h)(b:nI d f cx):∀i,i<d.n->h i=cx i:=by
 obtain⟨g,G,I,af⟩:=a;obtain⟨c7,b9,dc,eI⟩:=b;intro i cF;have ay:=G.Zt aa I af (z:=cx) (λi M=>CH (dc i M)) i cF;have aC:=b9.Zt aa dc eI (z:=h) (λi M=>CH (I i M)) i cF;grind
def Day.jA (d:Day)(h:Nat->Rat)(i:Nat):Nat->Nat
 |0=>10
 |k+1=>if h i<d.bD i (10-(k+1)+1) then 10-(k+1) else Day.jA d h i k
theorem Zv {d:Day}(aa:d.dt){h:Nat->Rat}{i:Nat}:∀k,k<=10->d.bD i (10-k)<=h i->(d.jA h i k=10/\d.bD i 10<=h i)\/(10-k<=d.jA h i k/\d.jA h i k<10/\d.bD i (d.jA h i k)<=h i/\h i<d.bD i (d.jA h i k+1))
 |0,_,ar => .inl ⟨rfl,ar⟩
 |k+1,O,ar=>by
  unfold Day.jA
  by_cases G:h i<d.bD i (10-(k+1)+1)
  ·rw[ad G];exact .inr ⟨b0 _,by omega,ar,G⟩
  ·rw[ah G];rcases Zv aa (h:=h) (i:=i) k (by omega) (by rw[show 10-k=10-(k+1)+1 by omega];grind) with e|⟨ay,aC⟩
   ·exact .inl e
   ·exact .inr ⟨by omega,aC⟩
def Day.gL (d:Day)(f:Nat->Nat)(h:Nat->Rat)(i:Nat):Nat:=if i<d.n/\h i<d.bD i (f i) then d.jA h i 10 else f i
theorem Zw {d:Day}(aa:d.dt){f:Nat->Nat}{h:Nat->Rat}(hle:∀i,f i<=10)(ar:∀i,i<d.n->0<=h i):Zr d f h (d.gL f h):=by
 have key:∀i,i<d.n->h i<d.bD i (f i)->d.jA h i 10<f i/\d.bD i (d.jA h i 10)<=h i/\h i<d.bD i (d.jA h i 10+1):=by
  intro i cF e8;have hm:=aa.uB i (hle i);rcases Zv aa (h:=h) (i:=i) 10 (b0 _) (by rw[mu,d.QI];exact ar i cF) with ⟨-,e⟩|⟨-,ay,aC,cg⟩
  ·grind
  ·refine⟨?_,aC,cg⟩;apply mc;intro aK;have:=aa.uB i (r:=f i) (s:=d.jA h i 10) (by omega);grind
 refine⟨λi=>?_,λi cF e8=>?_,λi cF e8=>?_⟩
 ·unfold Day.gL
  split
  ·rename_i aT;have:=(key i aT.1 aT.2).1;have:=hle i;omega
  ·exact hle i
 ·unfold Day.gL;rw[ad ⟨cF,e8⟩];exact key i cF e8
 ·unfold Day.gL;rw[ah λaT=>by have:=aT.2;grind]
theorem nI.Mk {d:Day}(aa:d.dt){f:Nat->Nat}{h:Nat->Rat}(a:nI d f h):Inv d (d.gL f h) h:=by
 obtain⟨g,G,I,af⟩:=a;exact G.Mk aa I af (Zw aa G.le λi cF=>by rw[I i cF];exact aa.Mj (λc H=>aa.QP f h H) cF)
theorem nI.QQ {d:Day}(aa:d.dt){f:Nat->Nat}{h:Nat->Rat}(a:nI d f h){i:Nat}(cF:i<d.n):0<=h i:=by
 obtain⟨g,G,I,af⟩:=a;rw[I i cF];exact aa.Mj (λc H=>aa.QP f h H) cF
def Day.top (d:Day)(f:Nat->Nat):Nat->Rat:=if h:∃x,nI d f x then tN h else λ_=>0
def Day.ic (d:Day)(f:Nat->Nat):List Nat:=(dF d.n).filter λi=>decide (d.top f i<d.bD i (f i))
def Day.rounds (d:Day):Nat->(Nat->Nat)->List (List Nat)×(Nat->Nat)
 |0,f=>([],f)
 |k+1,f=>if d.ic f=[] then ([],f) else (d.ic f::(Day.rounds d k (d.gL f (d.top f))).1,(Day.rounds d k (d.gL f (d.top f))).2)
def Reach (d:Day)(f:Nat->Nat):Prop:=∃g,Inv d f g/\∀z,(∀i,i<d.n->z i<=d.mR z i)->∀i,i<d.n->z i<=g i
theorem Reach.start {d:Day}(aa:d.dt):Reach d λ_=>10:=⟨_,Inv.start aa,λz aW i cF=>v3 (aW i cF) (d.E1 (λ_ H=>aa.Zq z H) i)⟩
def mS:Nat->(Nat->Nat)->Nat
 |0,_=>0
 |n+1,f=>mS n f+f n
theorem awE {n:Nat}{f g:Nat->Nat}(h:∀i,i<n->f i<=g i):mS n f<=mS n g:=by
 induction n with
 |zero=>exact b0 _
 |succ n aA =>
  have:=aA λi M=>h i (by omega);have:=h n (by omega);simp only[mS];omega
theorem Zx {n:Nat}{f g:Nat->Nat}(h:∀i,i<n->f i<=g i){j:Nat}(aj:j<n)(az:f j<g j):mS n f<mS n g:=by
 induction n with
 |zero=>omega
 |succ n aA =>
  have G:=h n (by omega);simp only[mS]
  by_cases awF:j=n
  ·subst awF;have:=awE (n:=j) (f:=f) (g:=g) λi M=>h i (by omega);omega
  ·have:=aA (λi M=>h i (by omega)) (by omega);omega
theorem Day.CL {d:Day}{f:Nat->Nat}(h:∃x,nI d f x):nI d f (d.top f):=by
 unfold Day.top;rw[dif_pos h];exact pn h
theorem Day.Ml {d:Day}{f:Nat->Nat}{i:Nat}:i∈d.ic f↔i<d.n/\d.top f i<d.bD i (f i):=by
 unfold Day.ic;rw[v5,gR,decide_eq_true_eq]
section
variable {d:Day} (aa:d.dt) (hex:∀f,Reach d f->∃h,nI d f h)
include aa hex
theorem ah8 {f:Nat->Nat}(ab:Reach d f){z:Nat->Rat}(aW:∀i,i<d.n->z i<=d.mR z i):∀i,i<d.n->z i<=d.top f i:=by
 obtain⟨g,G,I,af⟩:=Day.CL (hex f ab);obtain⟨c7,b9,dc⟩:=ab;have bz:nI d f (d.top f):=⟨g,G,I,af⟩
 -- the end of the round below c7
 intro i cF;have DD:=λk O=>v3 (aW k O) (d.E1 (λ_ H=>awC aa b9 (dc z aW) H) k);exact G.Zt aa I af DD i cF
theorem Reach.next {f:Nat->Nat}(ab:Reach d f):Reach d (d.gL f (d.top f)):=⟨d.top f,(Day.CL (hex f ab)).Mk aa,λz aW=>ah8 aa hex ab aW⟩
theorem Zy {f:Nat->Nat}(ab:Reach d f)(bG:d.ic f≠[]):mS d.n (d.gL f (d.top f))<mS d.n f:=by
 obtain⟨i,M⟩:=List.exists_mem_of_ne_nil _ bG;obtain⟨G,I⟩:=Day.Ml.1 M;have bz:=Day.CL (hex f ab);obtain⟨g,b9,-⟩:=bz;have aJ:=Zw aa b9.le (h:=d.top f) λi cF=>(Day.CL (hex f ab)).QQ aa cF;refine Zx (λj aj=>?_) G (aJ.2.1 i G I).1
 by_cases e8:d.top f j<d.bD j (f j)
 ·have:=(aJ.2.1 j aj e8).1;omega
 ·rw[aJ.2.2 j aj (by grind)];exact b0 _
theorem ah9:∀k (f:Nat->Nat),Reach d f->mS d.n f<=k->Reach d (d.rounds k f).2/\d.ic (d.rounds k f).2=[]
 |0,f,ab,O=>by
  refine⟨ab,?_⟩;apply mc;intro bG;have:=Zy aa hex ab bG;omega
 |k+1,f,ab,O=>by
  unfold Day.rounds
  by_cases bG:d.ic f=[]
  ·rw[ad bG];exact⟨ab,bG⟩
  ·rw[ah bG];have:=Zy aa hex ab bG;exact ah9 k _ (ab.next aa hex) (by omega)
end
theorem Day.awG (d:Day){f:Nat->Nat}(h:d.ic f=[]):∀k,d.rounds k f=([],f)
 |0=>rfl
 |k+1=>by unfold Day.rounds;rw[ad h]
end Go.Mini
namespace Go.Mini
abbrev au:=Int×Int×Int×Int
def hP (n:Int)(c:au):Bool:=decide (0<=c.1)&&decide (c.1<n)&&decide (-1<=c.2.1)&&decide (c.2.1<n)&&decide (0<=c.2.2.1)&&decide (c.2.2.1<10)&&decide (0<=c.2.2.2)&&decide (c.2.2.2<=1000000000000000)
def j5 (E:List Int)(cs:List au):Bool:=decide (D E<=60)&&decide (D cs<=2000)&&E.all (λx=>decide (0<=x)&&decide (x<=1000000000000000))&&cs.all (hP (D E))
def cG (c:au):eg:=⟨c.1.toNat,c.2.1,c.2.2.1.toNat,(c.2.2.2:Rat)⟩
def aB (E:List Int)(cs:List au):Day:=⟨D E,λi=>((E.getD i 0:Int):Rat),cs.map cG⟩
theorem hF {E:List Int}{cs:List au}:j5 E cs=true↔(D E)<=60/\D cs<=2000/\(∀x∈E,0<=x/\x<=1000000000000000)/\∀c∈cs,0<=c.1/\c.1<(D E) /\ -1<=c.2.1/\c.2.1<D E/\0<=c.2.2.1/\c.2.2.1<10/\0<=c.2.2.2/\c.2.2.2<=1000000000000000:=by
 unfold j5 hP;simp only[eW,decide_eq_true_eq,List.all_eq_true,and_assoc]
theorem aia {E:List Int}{cs:List au}(h:j5 E cs=true):(aB E cs).dt:=by
 obtain⟨-,-,af,aS⟩:=hF.1 h
 have H:∀x∈(aB E cs).dj,∃c∈cs,x=cG c:=λx Q=>by
  obtain⟨c,H,rfl⟩:=dR.1 Q;exact⟨c,H,rfl⟩
 refine⟨λx Q=>?_,λx Q=>?_,λx Q=>?_,λx Q=>?_,λi M=>?_⟩
 ·obtain⟨c,H,rfl⟩:=H x Q;have:=aS c H;show c.1.toNat<D E;omega
 ·obtain⟨c,H,rfl⟩:=H x Q;have:=aS c H;show c.2.1<(D E:Int);omega
 ·obtain⟨c,H,rfl⟩:=H x Q;have:=aS c H;show c.2.2.1.toNat<10;omega
 ·obtain⟨c,H,rfl⟩:=H x Q;have:=(aS c H).2.2.2.2.2.2.1;show (0:Rat)<=(c.2.2.2:Rat);exact_mod_cast this
 ·show (0:Rat)<=((E.getD i 0:Int):Rat);have ke:i<D E:=M
  have:0<=E.getD i 0:=by
   rw[dX,bs ke];exact (af _ (m2 ke)).1
  exact_mod_cast this
def cO:List au->(au->Int)->Int
 | [],_=>0
 |c::l,aQ=>aQ c+cO l aQ
def cS (cs:List au)(dk r:Int):Int:=cO cs λc=>if c.1=dk/\c.2.2.1<r then c.2.2.2 else 0
theorem QR (cs:List au)(aQ:au->Int)(bR:eg->Rat)(h:∀c∈cs,((aQ c:Int):Rat)=bR (cG c)):((cO cs aQ:Int):Rat)=cy (cs.map cG) bR:=by
 induction cs with
 |nil=>rfl
 |cons c l aA=>rw[cO,ev,cy,v7,h c gv,aA λx Q=>h x (g6 _ Q)]
theorem HZ {cs:List au}{aQ bR:au->Int}(h:∀c∈cs,aQ c=bR c):cO cs aQ=cO cs bR:=by
 induction cs with
 |nil=>rfl
 |cons c l aA=>rw[cO,cO,h c gv,aA λx Q=>h x (g6 _ Q)]
theorem QS {cs:List au}{aQ:au->Int}{B:Int}(fS:0<=B)(h:∀c∈cs,0<=aQ c/\aQ c<=B):0<=cO cs aQ/\cO cs aQ<=D cs*B:=by
 induction cs with
 |nil=>simp[cO]
 |cons c l aA =>
  have G:=h c gv;have I:=aA λx Q=>h x (g6 _ Q);simp only[cO,h4]
  have:((D l+1:Nat):Int)*B=D l*B+B:=by
   rw[Int.natCast_add,Int.add_mul];simp
  omega
theorem Mm (a b:List au)(aQ:au->Int):cO (a++b) aQ=cO a aQ+cO b aQ:=by
 induction a with
 |nil=>simp[cO]
 |cons c l aA=>simp only[jR,cO,aA];omega
theorem uF {E:List Int}{cs:List au}(h:j5 E cs=true)(i r:Nat):((cS cs i r:Int):Rat)=(aB E cs).bD i r:=by
 refine QR cs _ (λc=>if c.aG=i/\c.bw<r then c.am else 0) λc H=>?_;have:=(hF.1 h).2.2.2 c H;show ((if c.1=(i:Int)/\c.2.2.1<(r:Int) then c.2.2.2 else 0:Int):Rat)=if c.1.toNat=i/\c.2.2.1.toNat<r then (c.2.2.2:Rat) else 0
 by_cases G:c.1=(i:Int)/\c.2.2.1<(r:Int)
 ·rw[ad G,ad (by omega)]
 ·rw[ah G,ah (by omega)];rfl
theorem QT {E:List Int}{cs:List au}(h:j5 E cs=true)(i r:Nat):((cS cs i (r+1:Nat)-cS cs i r:Int):Rat)=(aB E cs).S i r:=by
 have G:=uF h i r;have I:=uF h i (r+1);rw[CM,G,I,Day.s3];grind
def la (E:List Int)(cs:List au)(f:Nat->Nat)(i:Nat):Int:=E.getD i 0+cO cs λc=>if c.2.1=(i:Int)/\c.2.2.1<(f c.1.toNat:Int) then c.2.2.2 else 0
def ext (N:Nat)(y:Nat->Rat)(z:Rat):Nat->Rat:=λk=>if k<N then y k else z
theorem Mn (N:Nat)(a y:Nat->Rat)(z:Rat):mQ N a (ext N y z)=bF N (λk=>a k*y k)+a N*z:=by
 unfold mQ ext;rw[bF]
 congr 1
 ·exact kn λk O=>by rw[ad O]
 ·rw[ah (by omega)]
theorem Zz {N:Nat}{aM:eC}{bE:Nat->Nat}(h:q0 N aM N N bE)(j4:∀j,j<N->bE j=j){i:Nat}(M:i<N)(y:Nat->Rat)(z:Rat):mQ N (aM i) (ext N y z)=y i+aM i N*z:=by
 rw[Mn]
 congr 1
 have:∀k,k<N->aM i k=if i=k then 1 else 0:=λk O=>by
  have:=h.unit k O i M;rwa [j4 k O] at this
 rw[y1 M λk O pk=>by rw[this k O,ah (Ne.symm pk),CI],this i M,ad rfl,QU]
theorem aib {N:Nat}{aM:eC}{bE:Nat->Nat}(h:q0 N aM N N bE)(j4:∀j,j<N->bE j=j)(y:Nat->Rat):h0 N aM (ext N y (-1))↔∀i,i<N->y i=aM i N:=by
 unfold h0
 constructor
 ·intro dP i M;have:=dP i M;rw[Zz h j4 M] at this;grind
 ·intro dP i M;rw[Zz h j4 M,dP i M];grind
theorem awH {N:Nat}{aM:eC}{bE:Nat->Nat}(h:q0 N aM N N bE)(j4:∀j,j<N->bE j=j)(y:Nat->Rat)(dP:h0 N aM (ext N y 0)):∀i,i<N->y i=0:=by
 intro i M;have:=dP i M;rw[Zz h j4 M] at this;grind
def s6 (aM:eC)(c:Nat):Nat->Rat:=λk=>if k<c then 0-aM k c else if k=c then 1 else 0
theorem aic {N c:Nat}{aM:eC}{bE:Nat->Nat}(h:q0 N aM c c bE)(j4:∀j,j<c->bE j=j)(H:c<N)(aW:∀i,c<=i->i<N->aM i c=0):h0 N aM (ext N (s6 aM c) 0):=by
 intro i M;rw[Mn]
 have main:∀n,c<n->n<=N->bF n (λk=>aM i k*s6 aM c k)=bF (c+1) (λk=>aM i k*s6 aM c k):=by
  intro n
  induction n with
  |zero=>intro h;omega
  |succ n aA =>
   intro G I
   by_cases DA:c=n
   ·rw[DA]
   ·rw[bF,aA (by omega) (by omega)];unfold s6;rw[ah (show ¬ n<c by omega),ah (show ¬ n=c by omega)];grind
 rw[main N H (b0 _),bF];have O:s6 aM c c=1:=by unfold s6;rw[ah (by omega),ad rfl]
 rw[O]
 have hu:∀k,k<c->aM i k=if i=k then 1 else 0:=λk O=>by
  have:=h.unit k O i M;rwa [j4 k O] at this
 rcases iq i c with az|b4
 ·rw[y1 az λk O pk=>by rw[hu k O,ah (Ne.symm pk),CI],hu i az,ad rfl]
  unfold s6;rw[ad az];grind
 ·rw[s0 λk O=>by rw[hu k O,ah (by omega),CI],aW i b4 M]
  grind
abbrev fW:=Nat->Rat
def jr (n:Nat)(f:List fW->Rat):List fW->List fW->Rat
 |_,[]=>0
 |pre,c::cs=>c n*f (pre++cs)-jr n f (pre++[c]) cs
def gV:Nat->List fW->Rat
 |0,[]=>1
 |0,_::_=>0
 |n+1,cs=>jr n (gV n) [] cs
def CN (x y:fW)(a:Rat):fW:=λi=>x i+a*y i
def ZA (f:List fW->Rat):Prop:=∀A B x y a,f (A++CN x y a::B)=f (A++x::B)+a*f (A++y::B)
def ZB (f:List fW->Rat):Prop:=∀A B z,f (A++z::z::B)=0
theorem awI {n:Nat}{f:List fW->Rat}(h:ZA f)(x y:fW)(a:Rat)(A:List fW):∀cs e3,jr n f (A++CN x y a::e3) cs=jr n f (A++x::e3) cs+a*jr n f (A++y::e3) cs:=by
 intro cs
 induction cs with
 |nil=>intro e3;simp only[jr];grind
 |cons c cs aA =>
  intro e3;have e:=aA (e3++[c]);simp only[jr,gb,jR] at e ⊢;rw[h A (e3++cs) x y a,e];grind
theorem awJ {n:Nat}{f:List fW->Rat}(h:ZA f)(x y:fW)(a:Rat)(B:List fW):∀A pre,jr n f pre (A++CN x y a::B)=jr n f pre (A++x::B)+a*jr n f pre (A++y::B):=by
 intro A
 induction A with
 |nil =>
  intro pre;have e:=awI (n:=n) h x y a pre B [];simp only[jk,jr];rw[e];simp only[CN];grind
 |cons c A aA =>
  intro pre;have e:=aA (pre++[c]);have aC:=h (pre++A) B x y a;simp only[gb] at aC;simp only[jR,jr];rw[e,aC];grind
theorem E3:∀n,ZA (gV n)
 |0=>by
  intro A B x y a
  cases A<;>simp only[jk,jR,gV]<;>grind
 |n+1=>λA B x y a=>awJ (E3 n) x y a B A []
theorem awK {n:Nat}{f:List fW->Rat}(h:ZB f)(z:fW)(A:List fW):∀cs e3,jr n f (A++z::z::e3) cs=0:=by
 intro cs
 induction cs with
 |nil=>intro e3;rfl
 |cons c cs aA =>
  intro e3;have e:=aA (e3++[c]);have aC:=h A (e3++cs) z;simp only[jr,gb,jR] at e aC ⊢;rw[e,aC];grind
theorem awL {n:Nat}{f:List fW->Rat}(h:ZB f)(z:fW)(B:List fW):∀A pre,jr n f pre (A++z::z::B)=0:=by
 intro A
 induction A with
 |nil =>
  intro pre;have e:=awK (n:=n) h z pre B [];simp only[jk,jr,gb,jR] at e ⊢;rw[e];grind
 |cons c A aA =>
  intro pre;have e:=aA (pre++[c]);have aC:=h (pre++A) B z;simp only[gb] at aC;simp only[jR,jr];rw[e,aC];grind
theorem Mo:∀n,ZB (gV n)
 |0=>by
  intro A B z
  cases A<;>rfl
 |n+1=>λA B z=>awL (Mo n) z B A []
theorem awM (n:Nat)(A B:List fW)(x y:fW):gV n (A++x::y::B) = -gV n (A++y::x::B):=by
 have ar:=Mo n A B (CN x y 1);have G:=E3 n A (CN x y 1::B) x y 1;rw[ar] at G;have I:=E3 n (A++[x]) B x y 1;have af:=E3 n (A++[y]) B x y 1;simp only[gb,jR,jk] at I af;rw[I,af,Mo n A B x,Mo n A B y] at G;grind
theorem aid (n:Nat)(C:List fW)(z:fW):∀B A,gV n (A++z::(B++z::C))=0:=by
 intro B
 induction B with
 |nil=>intro A;exact Mo n A C z
 |cons b B aA =>
  intro A;have:=aA (A++[b]);simp only[gb,jR,jk] at this ⊢;rw[awM,this];grind
theorem ZC {n:Nat}{A B:List fW}{z:fW}(h:z∈A++B):gV n (A++z::B)=0:=by
 rcases jj.1 h with h|h
 ·obtain⟨ZD,H0,rfl⟩:=aie h;have:=aid n B z H0 ZD
  simpa only [gb,jR] using this
 ·obtain⟨Bg,Di,rfl⟩:=aie h;exact aid n Di z Bg A
theorem awN {n:Nat}{f:List fW->Rat}{z:fW}(aW:z n=0)(h:∀A B,f (A++z::B)=0):(∀cs A e3,jr n f (A++z::e3) cs=0)/\∀A B pre,jr n f pre (A++z::B)=0:=by
 have G:∀cs A e3,jr n f (A++z::e3) cs=0:=by
  intro cs
  induction cs with
  |nil=>intro A e3;rfl
  |cons c cs aA =>
   intro A e3;have e:=aA A (e3++[c]);have aC:=h A (e3++cs);simp only[jr,gb,jR] at e aC ⊢;rw[e,aC];grind
 refine⟨G,λA=>?_⟩
 induction A with
 |nil =>
  intro B pre;have e:=G B pre [];simp only[jk,jr];rw[e,aW];grind
 |cons c A aA =>
  intro B pre;have e:=aA B (pre++[c]);have aC:=h (pre++A) B;simp only[gb] at aC;simp only[jR,jr];rw[e,aC];grind
theorem ZE:∀n (z:fW),(∀i,i<n->z i=0)->∀A B,gV n (A++z::B)=0
 |0,z,_=>λA B=>by cases A<;>rfl
 |n+1,z,h=>λA B=>(awN (h n (by omega)) (ZE n z λi M=>h i (by omega))).2 A B []
theorem aif {n:Nat}{e:fW}(h:∀i,i<n->e i=0)(cs:List fW):gV (n+1) (e::cs)=e n*gV n cs:=by
 show e n*gV n ([]++cs)-jr n (gV n) ([]++[e]) cs=_
 have:∀cs pre,jr n (gV n) (e::pre) cs=0:=by
  intro cs
  induction cs with
  |nil=>intro pre;rfl
  |cons c cs aA =>
   intro pre;have ay:=aA (pre++[c]);have aC:=ZE n e h [] (pre++cs);simp only[jr,jR,jk] at ay aC ⊢;rw[ay,aC];grind
 simp only[jk];rw[this cs []];grind
theorem awO {n:Nat}{f:List fW->Rat}{T:fW->fW}(cL:∀c,T c n=c n)(h:∀l,f (l.map T)=f l):∀cs pre,jr n f (pre.map T) (cs.map T)=jr n f pre cs:=by
 intro cs
 induction cs with
 |nil=>intro pre;rfl
 |cons c cs aA =>
  intro pre;have e:=aA (pre++[c]);have aC:=h (pre++cs);simp only[kG,ev,cZ] at e aC;simp only[ev,jr];rw[e,aC,cL]
theorem ZF:∀n (T:fW->fW),(∀c i,i<n->T c i=c i)->∀l,gV n (l.map T)=gV n l
 |0,T,_=>λl=>by cases l<;>rfl
 |n+1,T,h=>λl=>awO (λc=>h c n (by omega)) (ZF n T λc i M=>h c i (by omega)) l []
theorem aih {n:Nat}{α:Type}(l:List α)(f g:α->fW)(h:∀a∈l,∀i,i<n->f a i=g a i):gV n (l.map f)=gV n (l.map g):=by
 rw[<-ZF n (λc i=>if i<n then c i else 0) (λc i M=>ad M),<-ZF n (λc i=>if i<n then c i else 0) (λc i M=>ad M) (l.map g)];rw[m5,m5]
 congr 1
 apply m4;intro a aN
 funext i
 simp only[Function.comp]
 split
 ·exact h a aN i (by assumption)
 ·rfl
theorem Mp (n:Nat)(A B:List fW)(x:Nat->Rat)(C:Nat->fW):∀m,gV n (A++(λi=>bF m λl=>x l*C l i)::B)=bF m λl=>x l*gV n (A++C l::B)
 |0=>ZE n _ (λi _=>rfl) A B
 |m+1=>by
  have e:=E3 n A B (λi=>bF m λl=>x l*C l i) (C m) (x m);rw[Mp n A B x C m] at e;exact e
def eO (B:Nat)(x:Rat):Prop:=∃z:Int,x=(z:Rat)/\z.natAbs<=B
theorem eO.mono {A B:Nat}{x:Rat}(h:eO A x)(aw:A<=B):eO B x:=by obtain⟨z,G,I⟩:=h;exact⟨z,G,by omega⟩
theorem eO.mul {A B:Nat}{x y:Rat}(Q:eO A x)(av:eO B y):eO (A*B) (x*y):=by
 obtain⟨z,rfl,I⟩:=Q;obtain⟨w,rfl,cf⟩:=av;exact⟨z*w,by rw[qc],by rw[qL];exact o3 I cf⟩
theorem eO.sub {A B:Nat}{x y:Rat}(Q:eO A x)(av:eO B y):eO (A+B) (x-y):=by
 obtain⟨z,rfl,I⟩:=Q;obtain⟨w,rfl,cf⟩:=av;exact⟨z-w,by rw[CM],by omega⟩
theorem eO.add {A B:Nat}{x y:Rat}(Q:eO A x)(av:eO B y):eO (A+B) (x+y):=by
 obtain⟨z,rfl,I⟩:=Q;obtain⟨w,rfl,cf⟩:=av;exact⟨z+w,by rw[v7],by omega⟩
theorem eO.zero {B:Nat}:eO B 0:=⟨0,by rfl,by simp⟩
theorem eO.int (z:Int):eO z.natAbs (z:Rat):=⟨z,rfl,b0 _⟩
theorem eO.sum {B:Nat}{f:Nat->Rat}:∀n,(∀k,k<n->eO B (f k))->eO (n*B) (bF n f)
 |0,_=>eO.zero
 |n+1,h=>by
  have:=(eO.sum n λk O=>h k (by omega)).add (h n (by omega));exact this.mono (by rw[tz];exact b0 _)
theorem eO.of {z:Int}{B:Nat}(h:z.natAbs<=B):eO B (z:Rat):=⟨z,rfl,h⟩
theorem eO.nat {z:Nat}{B:Nat}(h:z<=B):eO B (z:Rat):=⟨z,(oo _).symm,by omega⟩
def fj:Nat->(Nat->Nat)->Nat
 |0,_=>0
 |n+1,a=>fj n a+a n
theorem Mq {n:Nat}{a b:Nat->Nat}(h:∀i,i<n->a i=b i):fj n a=fj n b:=by
 induction n with
 |zero=>rfl
 |succ n aA=>rw[fj,fj,aA λi M=>h i (by omega),h n (by omega)]
theorem awP {n:Nat}{a b:Nat->Nat}(h:∀i,i<n->a i<=b i):fj n a<=fj n b:=by
 induction n with
 |zero=>exact b0 _
 |succ n aA=>exact Nat.add_le_add (aA λi M=>h i (by omega)) (h n (by omega))
theorem aii {N t:Nat}(b:Nat->Nat)(bz:t<N):fj N b=fj N (λi=>if i=t then 0 else b i)+b t:=by
 induction N with
 |zero=>omega
 |succ N aA =>
  by_cases h:t=N
  ·subst h;rw[fj,fj,ad rfl];have:fj t b=fj t λi=>if i=t then 0 else b i:=Mq λi M=>by rw[ah (by omega)]
   omega
  ·have:=aA (by omega);rw[fj,fj,ah (by omega)];omega
theorem ZG {N:Nat}{τ:Nat->Nat}:∀{n:Nat} (b:Nat->Nat),(∀i,i<n->τ i<N)->(∀i j,i<n->j<n->τ i=τ j->i=j)->fj n (λi=>b (τ i))<=fj N b
 |0,_,_,_=>ft _
 |n+1,b,G,I=>by
  have aA:=ZG (n:=n) (λi=>if i=τ n then 0 else b i) (λi M=>G i (by omega)) λi j M aj=>I i j (by omega) (by omega);rw[aii b (G n (by omega)),fj]
  have:fj n (λi=>b (τ i))=fj n λi=>if τ i=τ n then 0 else b (τ i):=Mq λi M=>by
   rw[ah λh=>by have:=I i n (by omega) (by omega) h;omega]
  omega
def iM:Nat->(Nat->Nat)->Nat
 |0,_=>1
 |n+1,cb=>iM n cb*cb n
theorem aij {n:Nat}{cb:Nat->Nat}(h:∀k,k<n->0<cb k):0<iM n cb:=by
 induction n with
 |zero=>exact ZH
 |succ n aA=>exact Mr (aA λk O=>h k (by omega)) (h n (by omega))
theorem ZI {n b:Nat}{cb:Nat->Nat}(h:∀k,k<n->cb k<=2^b):iM n cb<=2^(n*b):=by
 induction n with
 |zero=>simp[iM]
 |succ n aA =>
  rw[tz,v8];exact o3 (aA λk O=>h k (by omega)) (h n (by omega))
theorem aik {n:Nat}{cb:Nat->Nat}{k:Nat}(O:k<n):∃m,iM n cb=cb k*m:=by
 induction n with
 |zero=>omega
 |succ n aA =>
  by_cases HS:k=n
  ·subst HS;exact⟨iM k cb,rH _ _⟩
  ·obtain⟨m,hm⟩:=aA (by omega);exact⟨m*cb n,by rw[iM,hm,E6]⟩
theorem ail {p:Nat}{cb:Nat->Nat}(kz:∀k,0<cb k):∀{N:Nat},p<=N->∃bL,0<bL/\iM N cb=iM p cb*bL/\∀k,p<=k->k<N->∃m,bL=cb k*m
 |0,h=>⟨1,ZH,by rw[show p=0 by omega];rfl,λk _ h=>by omega⟩
 |N+1,h=>by
  by_cases aE:p=N+1
  ·exact⟨1,ZH,by rw[aE,cI],λk G I=>by omega⟩
  ·obtain⟨bL,ar,G,I⟩:=ail (p:=p) kz (N:=N) (by omega);refine⟨bL*cb N,Mr ar (kz N),by rw[iM,G,E6],λk b9 dc=>?_⟩
   by_cases O:k=N
   ·exact⟨bL,by rw[O,rH]⟩
   ·obtain⟨m,hm⟩:=I k b9 (by omega);exact⟨m*cb N,by rw[hm,E6]⟩
abbrev H2:=fW×(Nat->Nat)
def ng (n:Nat):List H2->Nat
 | []=>1
 |p::l=>fj n p.2*ng n l
theorem awQ (n:Nat)(a b:List H2):ng n (a++b)=ng n a*ng n b:=by
 induction a with
 |nil=>simp[ng]
 |cons p l aA=>simp only[jR,ng,aA,E6]
theorem aim (n:Nat):∀l:List H2,ng n l<=ng (n+1) l
 | []=>b0 _
 |p::l=>o3 (Nat.le_add_right _ _) (aim n l)
theorem ain {n:Nat}{f:List fW->Rat}(h:∀l:List H2,(∀p∈l,∀i,i<n->eO (p.2 i) (p.1 i))->eO (ng n l) (f (l.map (·.1)))):
  ∀cs pre:List H2,(∀p∈pre++cs,∀i,i<n+1->eO (p.2 i) (p.1 i))->∃z:Int,jr n f (pre.map (·.1)) (cs.map (·.1))=(z:Rat)/\z.natAbs+ng n pre*ng n cs<=ng n pre*ng (n+1) cs
 | [],pre,_=>⟨0,rfl,by simp[ng]⟩
 |c::cs,pre,aE=>by
  obtain⟨z,G,I⟩:=ain h cs (pre++[c]) (by simpa using aE);obtain⟨y,cz,cf⟩:=h (pre++cs) λp hm i M=>aE p (by simp only[jj,hK] at hm ⊢;rcases hm with hm|hm<;>simp[hm]) i (by omega)
  obtain⟨x,b9,dc⟩:=aE c (by simp) n (by omega);simp only[kG,ev,cZ] at G cz;refine⟨x*y-z,?_,?_⟩
  ·simp only[ev,jr];rw[b9,cz,G,CM,qc]
  ·rw[awQ] at I cf;simp only[ng,fj,cI] at I ⊢;have cW:(x*y-z).natAbs<=x.natAbs*y.natAbs+z.natAbs:=by rw[<-qL];omega
   have de:=o3 dc (eQ cf (o3 (b0 _) (aim n cs)));generalize ng n pre=P at *;generalize ng n cs=s at *;generalize ng (n+1) cs=S at *;generalize fj n c.2=L at *;generalize c.2 n=a at *;have ay:P*((L+a)*S)=P*L*S+a*(P*S):=by rw[Nat.add_mul,Nat.mul_add,E6,aio a]
   have aC:P*(L*s)=P*L*s:=(E6 _ _ _).symm;rw[ay,aC];omega
theorem aip:∀n (l:List H2),(∀p∈l,∀i,i<n->eO (p.2 i) (p.1 i))->eO (ng n l) (gV n (l.map (·.1)))
 |0,[],_=>⟨1,by rfl,by simp[ng]⟩
 |0,p::l,_=>eO.zero
 |n+1,l,h=>by
  obtain⟨z,G,I⟩:=ain (f:=gV n) (aip n) l [] (by simpa using h);refine⟨z,G,?_⟩;simp only[ng,Nat.one_mul] at I;omega
open Go
def lb (N:Nat)(l:List bc)(q:Nat->Rat):Prop:=l=((dF (N+1)).map q).map ao/\∀k,k<=N->di (q k)
def xz (N:Nat)(rows:List dx)(aM:eC):Prop:=D rows=N/\∀(i:Nat) x,rows[i]?=some x->lb N x.2.2 (aM i)
theorem lb.get {N:Nat}{l:List bc}{q:Nat->Rat}(h:lb N l q){k:Nat}(O:k<=N):l[k]?=some (ao (q k)):=by
 rw[h.1,bj,bj,tx (by omega)]
 rfl
theorem lb.len {N:Nat}{l:List bc}{q:Nat->Rat}(h:lb N l q):(D l)=N+1:=by rw[h.1];simp
theorem lb.ZJ {N:Nat}{l:List bc}{q:Nat->Rat}(aw:(D l)=N+1)(h:∀k,k<=N->l[k]?=some (ao (q k))/\di (q k)):lb N l q:=by
 refine⟨?_,λk O=>(h k O).2⟩;apply pP;intro k;rcases iq k (N+1) with O|O
 ·rw[(h k (by omega)).1,bj,bj,tx O];rfl
 ·rw[mr (by omega),mr (by simp;omega)]
theorem lb.congr {N:Nat}{l:List bc}{q uc:Nat->Rat}(h:lb N l q)(hq:∀k,k<=N->q k=uc k):lb N l uc :=
 lb.ZJ h.len λk O=>by rw[<-hq k O];exact⟨h.get O,h.2 k O⟩
theorem lb.cell {N:Nat}{x:dx}{q:Nat->Rat}(h:lb N x.2.2 q){k:Nat}(O:k<=N):cellOf x k=ao (q k):=YC (h.get O)
theorem QV (q:Rat):nE (ao q)=decide (q=0):=by
 unfold nE ao bS;rw[xe,beq_iff_eq,decide_eq_true_eq,Int.sign_eq_zero_iff_zero,aiq]
def r1 (fB a b:Rat):Bool:=Am fB b&&lE a (-(fB*b))
theorem air {fB a b:Rat}(aJ:di fB)(aN:di a)(ag:di b)(h:r1 fB a b=true):
  od (ao fB) (ao b)=(ao (fB*b),0)/\py (ao a) (ao (fB*b))=(ao (a-fB*b),0)/\di (a-fB*b):=by
 unfold r1 at h;rw[eW] at h;refine⟨?_,?_,agu h.2⟩
 ·rw[W8 aJ ag,h.1];rfl
 ·rw[PU aN (agv h.1),h.2];rfl
theorem awR {fB a b:Rat}(aJ:di fB)(aN:di a)(ag:di b)(h:r1 fB a b=false):
  ((od (ao fB) (ao b)).2 != 0||(py (ao a) (od (ao fB) (ao b)).1).2 != 0)=true:=by
 unfold r1 at h;rw[W8 aJ ag];rcases G:Am fB b
 ·rfl
 ·rw[G,gQ] at h;show ((py (ao a) (ao (fB*b))).2 != 0)=true;rw[PU aN (agv G),h]
  rfl
theorem awS {fB:Rat}(aJ:di fB):∀(xA pl:List Rat),D xA=(D pl)->(∀x∈xA,di x)->(∀x∈pl,di x) ->
  ((∀q∈xA.zip pl,r1 fB q.1 q.2=true)->jo (ao fB) (xA.map ao) (pl.map ao) false=((ZK (λa b=>a-fB*b) xA pl).map ao,false)/\∀x∈ZK (λa b=>a-fB*b) xA pl,di x) /\
  ((jo (ao fB) (xA.map ao) (pl.map ao) false).2=false->∀q∈xA.zip pl,r1 fB q.1 q.2=true):=by
 intro xA
 induction xA with
 |nil=>intro pl aw _ _;cases pl with
  |nil=>exact⟨λ_=>⟨rfl,by simp⟩,λ_=>by simp⟩
  |cons=>cases aw
 |cons a xA aA =>
  intro pl aw G I
  cases pl with
  |nil=>cases aw
  |cons b pl =>
   have aN:=G a gv;have ag:=I b gv;obtain⟨i1,i2⟩:=aA pl (by simpa using aw) (λx Q=>G x (g6 _ Q)) (λx Q=>I x (g6 _ Q))
   constructor
   ·intro fg;obtain⟨ay,aC,cg⟩:=air aJ aN ag (fg (a,b) (by simp));obtain⟨i3,i4⟩:=i1 λq hq=>fg q (by simp only[ais,hK];exact .inr hq);refine⟨?_,λx Q=>?_⟩
    ·simp only[ev,jo,ay,aC,ait,bne_self_eq_false,l1,i3]
    ·rw[ait,hK] at Q;rcases Q with rfl|Q
     ·exact cg
     ·exact i4 x Q
   ·intro eR;simp only[ev,jo] at eR;rcases X:r1 fB a b
    ·rw[awR aJ aN ag X,YD] at eR
     cases eR
    ·obtain⟨ay,aC,cg⟩:=air aJ aN ag X;simp only[ay,aC,bne_self_eq_false,l1] at eR;intro q hq;rw[ais,hK] at hq;rcases hq with rfl|hq
     ·exact X
     ·exact i2 eR q hq
theorem awT (n:Nat)(q p:Nat->Rat):((dF n).map q).zip ((dF n).map p)=(dF n).map λk=>(q k,p k):=by
 rw[List.zip_map',]
theorem awU (n:Nat)(f:Rat->Rat->Rat)(q p:Nat->Rat):ZK f ((dF n).map q) ((dF n).map p)=(dF n).map λk=>f (q k) (p k):=by
 rw[List.zipWith_map,List.zipWith_self]
theorem awV {N:Nat}{fB:Rat}{l ai:List bc}{q p:Nat->Rat}(aJ:di fB)(G:lb N l q)(I:lb N ai p):
  ((∀k,k<=N->r1 fB (q k) (p k)=true)->(jo (ao fB) l ai false).2=false)/\((jo (ao fB) l ai false).2=false->lb N (jo (ao fB) l ai false).1 (λk=>q k-fB*p k)):=by
 obtain⟨ay,aC⟩:=awS aJ ((dF (N+1)).map q) ((dF (N+1)).map p) (by simp) (by
  intro x Q;obtain⟨k,O,rfl⟩:=dR.1 Q;exact G.2 k (by have:=gR.1 O;omega)) (by
  intro x Q;obtain⟨k,O,rfl⟩:=dR.1 Q;exact I.2 k (by have:=gR.1 O;omega))
 rw[<-G.1,<-I.1] at ay aC
 have aW:(∀k,k<=N->r1 fB (q k) (p k)=true)↔∀x∈((dF (N+1)).map q).zip ((dF (N+1)).map p),r1 fB x.1 x.2=true:=by
  rw[awT];simp only[dR,gR]
  constructor
  ·rintro h x ⟨k,O,rfl⟩;exact h k (by omega)
  ·intro h k O;exact h (q k,p k) ⟨k,by omega,rfl⟩
 refine⟨λh=>by rw[(ay (aW.1 h)).1],λh=>?_⟩
 obtain⟨cg,dw⟩:=ay (aC h);rw[cg,awU] at *;exact⟨rfl,λk O=>dw _ (dR.2 ⟨k,gR.2 (by omega),rfl⟩)⟩
theorem QW (fV:List bc)(r c:Nat):∀(i:Nat) (l:List dx),(j3 fV r c i l true).2=true
 |_,[]=>rfl
 |i,x::xs=>by
  unfold j3
  split
  ·exact QW fV r c (i+1) xs
  ·rw[YD];exact QW fV r c (i+1) xs
theorem aiu {N r c:Nat}{fV:List bc}{p:Nat->Rat}(aE:lb N fV p)(H:c<=N):∀(i:Nat) (l:List dx) (cb:eC),(∀(j:Nat) x,l[j]?=some x->lb N x.2.2 (cb (i+j))) ->
  ((∀j,j<(D l)->i+j≠r->cb (i+j) c≠0->∀k,k<=N->r1 (cb (i+j) c) (cb (i+j) k) (p k)=true)->(j3 fV r c i l false).2=false) /\
  ((j3 fV r c i l false).2=false->∀(j:Nat) x,(j3 fV r c i l false).1[j]?=some x->lb N x.2.2 (λk=>if i+j=r then cb (i+j) k else cb (i+j) k-cb (i+j) c*p k))
 |i,[],cb,h=>⟨λ_=>rfl,λ_ j x Q=>by simp[j3] at Q⟩
 |i,x::xs,cb,h=>by
  have ar:=h 0 x rfl;rw[nZ] at ar
  obtain⟨aiv,QX⟩:=aiu aE H (i+1) xs cb λj y av=>by
   have:=h (j+1) y av;rwa [show i+(j+1)=i+1+j by omega] at this
  have pg:=ar.cell H
  have aiw:(∀j,j<(x::xs).length->i+j≠r->cb (i+j) c≠0->∀k,k<=N->r1 (cb (i+j) c) (cb (i+j) k) (p k)=true)->∀j,j<(D xs)->i+1+j≠r->cb (i+1+j) c≠0->∀k,k<=N->r1 (cb (i+1+j) c) (cb (i+1+j) k) (p k)=true:=by
   intro aT j aj;have:=aT (j+1) (by simpa using aj);rwa [show i+(j+1)=i+1+j by omega] at this
  unfold j3;rw[pg,QV]
  by_cases aW:(i==r||decide (cb i c=0))=true
  ·rw[ad aW];refine⟨λaT=>aiv (aiw aT),λag j y av=>?_⟩
   cases j with
   |zero =>
    simp only[zI,cl] at av;subst av;rw[nZ];refine ar.congr λk O=>?_;simp only[ym,beq_iff_eq,decide_eq_true_eq] at aW
    split
    ·rfl
    ·rcases aW with aW|aW
     ·contradiction
     ·rw[aW];grind
   |succ j =>
    have:=QX ag j y (by simpa using av);rwa [show i+(j+1)=i+1+j by omega]
  ·rw[ah aW];simp only[ym,beq_iff_eq,decide_eq_true_eq,not_or] at aW;obtain⟨cz,cf⟩:=awV (ar.2 c H) ar aE
   constructor
   ·intro aT;have af:=cz (aT 0 (by simp) (by simpa using aW.1) (by simpa using aW.2));dsimp only;rw[af];exact aiv (aiw aT)
   ·intro ag j y av;dsimp only at ag av;rcases nx:(jo (ao (cb i c)) x.2.2 fV false).2
    ·rw[nx] at ag av
     cases j with
     |zero =>
      simp only[zI,cl] at av;subst av;rw[nZ];exact (cf nx).congr λk O=>by rw[ah aW.1]
     |succ j =>
      have:=QX ag j y (by simpa using av);rwa [show i+(j+1)=i+1+j by omega]
    ·rw[nx,QW] at ag
     cases ag
theorem awW {N:Nat}{l:List bc}{q:Nat->Rat}{b:Rat}(h:lb N l q)(ag:di b)(ar:b≠0):
  ((hZ (ao b) l).2=false↔∀k,k<=N->xi (q k) b=true)/\((hZ (ao b) l).2=false->lb N (hZ (ao b) l).1 (λk=>q k/b)):=by
 have ay:(hZ (ao b) l).2=false↔∀k,k<=N->xi (q k) b=true:=by
  unfold hZ;rw[h.1];simp only[xw,dR,gR]
  constructor
  ·intro aT k O;have:=aT (ao (q k)) ⟨q k,⟨k,by omega,rfl⟩,rfl⟩
   rw[PV (h.2 k O) ag ar] at this;rcases aa:xi (q k) b
   ·rw[aa] at this;exact absurd rfl this
   ·rfl
  ·rintro aT _ ⟨_,⟨k,O,rfl⟩,rfl⟩;rw[PV (h.2 k (by omega)) ag ar,aT k (by omega)];simp[xh]
 refine⟨ay,λaT=>?_⟩;have cU:=ay.1 aT;refine lb.ZJ (by unfold hZ;rw[ak,h.len]) λk O=>⟨?_,atV (cU k O)⟩;unfold hZ;rw[bj,h.get O,mw,PV (h.2 k O) ag ar,cU k O]
 rfl
theorem xz.row {N:Nat}{rows:List dx}{aM:eC}(h:xz N rows aM){i:Nat}(M:i<N):∃x,rows[i]?=some x/\rowAt rows i=x/\lb N x.2.2 (aM i):=by
 obtain⟨x,Q⟩:∃x,rows[i]?=some x:=⟨_,bs (by have:=h.1;omega)⟩;exact⟨x,Q,xq Q,h.2 i x Q⟩
theorem xz.swap {N:Nat}{rows:List dx}{aM:eC}(h:xz N rows aM){r s:Nat}(ab:r<N)(X:s<N):xz N (qW rows r s) (ht aM r s):=by
 obtain⟨x,Q,ex,oq⟩:=h.row ab;obtain⟨y,av,Tp,awX⟩:=h.row X;unfold qW;rw[ex,Tp];refine⟨by rw[iQ,iQ];exact h.1,λi z aW=>?_⟩
 rw[nD,nD,iQ] at aW;unfold ht
 by_cases G:s=i
 ·rw[ad G,ad (by have:=h.1;omega)] at aW
  cases aW;rw[ad G.symm];exact oq
 ·rw[ah G] at aW;rw[ah (Ne.symm G)]
  by_cases I:r=i
  ·rw[ad I,ad (by have:=h.1;omega)] at aW
   cases aW;rw[ad I.symm];exact awX
  ·rw[ah I] at aW;rw[ah (Ne.symm I)];exact h.2 i z aW
def aix (N:Nat)(S:eC)(r c:Nat):Prop:=(∀k,k<=N->xi (S r k) (S r c)=true)/\∀i,i<N->i≠r->S i c≠0->∀k,k<=N->r1 (S i c) (S i k) (S r k/S r c)=true
theorem aiy {N:Nat}{rows:List dx}{aM:eC}(h:xz N rows aM){r c:Nat}(ab:r<N)(H:c<N):
  ((iK rows r c).1=true/\(iK rows r c).2.1=rows/\(iK rows r c).2.2=false/\∀i,r<=i->i<N->aM i c=0) \/
  ((iK rows r c).1=false/\∃s,r<=s/\s<N/\aM s c≠0/\((iK rows r c).2.2=false->xz N (iK rows r c).2.1 (o2 aM r c s))/\(aix N (ht aM r s) r c->(iK rows r c).2.2=false)):=by
 have aw:=h.1;have lr:=ahI rows r c (by omega)
 have ld:∀i x,r<=i->i<findAt rows r c->rows[i]?=some x->nE (cellOf x c)=true:=by
  intro i x rr nY Q;unfold findAt at nY;have az:i-r<(rows.drop r).findIdx λx => !nE (cellOf x c):=by omega
  have:=List.not_of_lt_findIdx az
  have ba:(rows.drop r)[i-r]'(Nat.lt_of_lt_of_le az ahJ)=x:=by
   rw[LN];have:=(dU.1 Q)
   obtain⟨G,I⟩:=this;simp only[show r+(i-r)=i by omega]
   exact I
  rw[ba] at this
  simpa using this
 unfold iK
 by_cases aJ:findAt rows r c=D rows
 ·left
  rw[ad aJ];refine⟨rfl,rfl,rfl,λi rr nY=>?_⟩;obtain⟨x,Q,-,oq⟩:=h.row nY;have:=ld i x rr (by omega) Q;rw[oq.cell (by omega),QV] at this
  simpa using this
 ·right
  rw[ah aJ];refine⟨rfl,findAt rows r c,lr.1,by omega,?_,?_⟩
  ·obtain⟨x,Q,-,oq⟩:=h.row (i:=findAt rows r c) (by omega);have az:findAt rows r c-r<(rows.drop r).length:=by rw[rG];omega
   have I:(rows.drop r).findIdx (λx => !nE (cellOf x c))<(rows.drop r).length:=by
    unfold findAt at az;omega
   have af:=aiz (w:=I)
   have ba:(rows.drop r)[(rows.drop r).findIdx λx => !nE (cellOf x c)]=x:=by
    rw[LN];exact (dU.1 Q).2
   rw[ba,oq.cell (by omega),QV] at af
   simpa using af
  ·have X:findAt rows r c<N:=by omega
   have AE:=h.swap ab X
   have bG:ht aM r (findAt rows r c) r c≠0:=by
    rw[QC];obtain⟨x,Q,-,oq⟩:=h.row X
    have I:(rows.drop r).findIdx (λx => !nE (cellOf x c))<(rows.drop r).length:=by
     rw[rG];unfold findAt at X;omega
    have af:=aiz (w:=I)
    have ba:(rows.drop r)[(rows.drop r).findIdx λx => !nE (cellOf x c)]=x:=by
     rw[LN];exact (dU.1 Q).2
    rw[ba,oq.cell (by omega),QV] at af
    simpa using af
   have Qr:o2 aM r c (findAt rows r c)=λi k=>if i=r then ht aM r (findAt rows r c) r k/ht aM r (findAt rows r c) r c else ht aM r (findAt rows r c) i k-ht aM r (findAt rows r c) i c*(ht aM r (findAt rows r c) r k/ht aM r (findAt rows r c) r c):=rfl;rw[Qr];generalize qW rows r (findAt rows r c)=ib at *;generalize ht aM r (findAt rows r c)=S at *;obtain⟨x,Q,ex,oq⟩:=AE.row ab;rw[ex,oq.cell (by omega)];obtain⟨d1,d2⟩:=awW oq (oq.2 c (by omega)) bG
   have Aa:EP ib r c=ib.set r (x.1,x.2.1,(hZ (ao (S r c)) x.2.2).1):=by
    unfold EP;rw[ex,oq.cell (by omega)]
   rw[Aa]
   have ZL:lb N (hZ (ao (S r c)) x.2.2).1 (λk=>S r k/S r c)->∀(j:Nat) y,(ib.set r (x.1,x.2.1,(hZ (ao (S r c)) x.2.2).1))[j]?=some y->lb N y.2.2 ((λi=>if i=r then λk=>S r k/S r c else S i) (0+j)):=by
    intro aa j y av;rw[kv];rw[nD] at av
    by_cases aj:r=j
    ·rw[ad aj,ad (by have:=AE.1;omega)] at av
     cases av;dsimp only;rw[ad aj.symm];exact aa
    ·rw[ah aj] at av;dsimp only;rw[ah (Ne.symm aj)];exact AE.2 j y av
   dsimp only;rcases wZ:(hZ (ao (S r c)) x.2.2).2
   ·have aa:=d2 wZ;obtain⟨e7,en⟩:=aiu (r:=r) (c:=c) aa (by omega) 0 (ib.set r (x.1,x.2.1,(hZ (ao (S r c)) x.2.2).1)) (λi=>if i=r then λk=>S r k/S r c else S i) (ZL aa)
    constructor
    ·intro ag;refine⟨?_,λi z aW=>?_⟩
     ·have:=congrArg D (Qx (hZ (ao (S r c)) x.2.2).1 r c 0 (ib.set r (x.1,x.2.1,(hZ (ao (S r c)) x.2.2).1)) false);rw[ak,ak,iQ] at this;rw[this];exact AE.1
     ·have:=en ag i z aW;rw[kv] at this;refine this.congr λk O=>?_
      by_cases p9:i=r
      ·simp only[ad p9]
      ·simp only[ah p9]
    ·intro cU;refine e7 λj aj Ms bG k O=>?_;rw[kv] at *;simp only[ah Ms] at bG ⊢;rw[iQ,AE.1] at aj;exact cU.2 j aj Ms bG k O
   ·constructor
    ·intro ag;rw[QW] at ag
     cases ag
    ·intro cU;rw[d1.2 cU.1] at wZ
     cases wZ
structure H3 (N:Nat) (aM v9:eC) (rows:List dx) (p c:Nat) (bE:Nat->Nat):Prop where
 enc:xz N rows v9
 red:q0 N v9 p c bE
 H4:∀y,h0 N v9 y↔h0 N aM y
theorem awY (stop:Bool)(N:Nat)(aiA:eC):∀k c rows free aM p bE,c+k=N->H3 N aiA aM rows p c bE->p+D free=c->(stop=true->free=[]/\∀j,j<p->bE j=j) ->
  ∀xB r2,mb stop k c rows free false=(xB,r2,false) ->
  ∃v9 pU c' uG,H3 N aiA v9 xB pU c' uG/\(stop=false->c'=N/\pU+D r2=N) /\
   (stop=true->(r2=[]/\c'=N/\pU=N/\∀j,j<N->uG j=j)\/(∃f,r2=[f]/\f<N/\pU=f/\c'=f/\(∀j,j<f->uG j=j)/\∀i,f<=i->i<N->v9 i f=0)):=by
 intro k
 induction k with
 |zero =>
  intro c rows free aM p bE H he aE X xB r2 Q;simp only[mb,e6,and_true] at Q;obtain⟨rfl,rfl⟩:=Q;refine⟨aM,p,c,bE,he,λ_=>⟨by omega,by omega⟩,λh=>?_⟩
  obtain⟨G,I⟩:=X h;subst G;simp only[kZ,nZ] at aE;exact .inl ⟨rfl,by omega,by omega,λj aj=>I j (by omega)⟩
 |succ k aA =>
  intro c rows free aM p bE H he aE X xB r2 Q;have hM:c-D free=p:=by omega
  unfold mb at Q;rw[hM] at Q;rcases aiy he.enc (r:=p) (c:=c) (by omega) (by omega) with ⟨G,I,af,aS⟩|⟨G,s,hC,kj,s7,aS,bm⟩
  ·rw[G,I,af,ad rfl] at Q
   cases stop with
   |true =>
    rw[ad rfl] at Q;simp only[e6,and_true] at Q;obtain⟨rfl,rfl⟩:=Q;obtain⟨cz,cf⟩:=X rfl;subst cz;simp only[kZ,nZ] at aE;subst aE;exact⟨aM,p,p,bE,he,by simp,λ_ => .inr ⟨p,rfl,by omega,rfl,rfl,cf,aS⟩⟩
   |false =>
    rw[ah (by simp)] at Q;exact aA (c+1) rows (free++[c]) aM p bE (by omega) ⟨he.enc,he.red.free aS,he.H4⟩ (by simp;omega) (by simp) xB r2 Q
  ·rw[G,ah (by simp)] at Q;rcases ag:(iK rows p c).2.2
   ·rw[ag] at Q;have ZM:=aS ag;refine aA (c+1) _ free (o2 aM p c s) (p+1) (λj=>if j=p then c else bE j) (by omega) ⟨ZM,he.red.EW (by omega) hC kj s7,λy=>(Zh (by omega) kj s7).trans (he.H4 y)⟩ (by omega) (λh=>?_) xB r2 Q;obtain⟨cz,cf⟩:=X h;refine⟨cz,λj aj=>?_⟩;subst cz;simp only[kZ,nZ] at aE;show (if j=p then c else bE j)=j
    split
    ·omega
    ·exact cf j (by omega)
   ·rw[ag,ahF] at Q
    cases Q
def q2 (rs:List eY):eC:=λi k=>if k<(D rs) then xc ((rs.getD i ([],fm)).1.getD k fm) else xc (rs.getD i ([],fm)).2
theorem ZN {f:bc}(h:ef f=true):f=ao (xc f)/\di (xc f):=by
 obtain⟨x,Q,rfl⟩:=(Lj _).1 h;rw[Ch];exact⟨rfl,Q⟩
theorem awZ {rs:List eY}{n:Int}(h:oe rs n=true):(D rs:Int)=n/\D rs<=40/\∀r∈rs,r.1.length=D rs/\ef r.2=true/\∀f∈r.1,ef f=true:=by
 unfold oe at h;simp only[eW,uo,decide_eq_false_iff_not,beq_iff_eq] at h;obtain⟨G,I,af,aS⟩:=h;refine⟨af,by omega,λr ab=>?_⟩
 rw[xw] at aS;have:=aS r ab;unfold oY Hj at this;simp only[uo,Bool.not_eq_true,Bool.not_eq_false',eW,beq_iff_eq,xw,Bool.not_eq_false] at this;obtain⟨gA,fi,uH⟩:=this;exact⟨by omega,fi,λf aJ=>by simpa using uH f aJ⟩
theorem aiB {rs:List eY}{i:Nat}{r:eY}(h:rs[i]?=some r):rs.getD i ([],fm)=r:=by
 rw[dX,h];rfl
theorem aiC {rs:List eY}{n:Int}(h:oe rs n=true):xz (D rs) (hE rs) (q2 rs):=by
 obtain⟨aK,aMc,ZL⟩:=awZ h;refine⟨EV rs,λi x Q=>?_⟩
 have M:i<D rs:=by
  have:=(dU.1 Q).1;rwa [EV] at this
 obtain⟨r,ab⟩:∃r,rs[i]?=some r:=⟨_,bs M⟩;rw[ahA ab] at Q
 cases Q;obtain⟨ay,aC,cg⟩:=ZL r (ee ab);refine lb.ZJ (by simp[ay]) λk O=>?_;unfold q2;rw[aiB ab]
 by_cases fR:k<D rs
 ·rw[ad fR];obtain⟨f,aJ⟩:∃f,r.1[k]?=some f:=⟨_,bs (by omega)⟩;obtain⟨gA,fi⟩:=ZN (cg f (ee aJ));rw[qv (by omega),aJ,dX,aJ];exact⟨congrArg some gA,fi⟩
 ·rw[ah fR];obtain⟨gA,fi⟩:=ZN aC;rw[ru (by omega),ay,show k-D rs=0 by omega]
  exact⟨congrArg some gA,fi⟩
theorem aw0 (stop:Bool){rs:List eY}{n:Int}(h:oe rs n=true){xB:List dx}{r2:List Nat}(Q:qY stop rs=(xB,r2,false)):
  ∃v9 pU c' uG,H3 (D rs) (q2 rs) v9 xB pU c' uG/\(stop=false->c'=D rs/\pU+D r2=D rs) /\
   (stop=true->(r2=[]/\c'=D rs/\pU=D rs/\∀j,j<(D rs)->uG j=j)\/(∃f,r2=[f]/\f<D rs/\pU=f/\c'=f/\(∀j,j<f->uG j=j)/\∀i,f<=i->i<(D rs)->v9 i f=0)) :=
 awY stop (D rs) (q2 rs) (D rs) 0 (hE rs) [] (q2 rs) 0 (λj=>j) (by omega) ⟨aiC h,QD _ _ _,λ_=>Iff.rfl⟩ rfl (λ_=>⟨rfl,λj aj=>by omega⟩) xB r2 Q
def Mt (N:Nat)(q:Nat->Rat)(b:Nat):Prop:=∃(v:Nat->Int) (d:Int),d≠0/\d.natAbs<=2^b/\∀k,k<=N->q k*(d:Rat)=(v k:Rat)/\(v k).natAbs<=2^b
theorem Mt.mono {N a b:Nat}{q:Nat->Rat}(h:Mt N q a)(Ar:a<=b):Mt N q b:=by
 obtain⟨v,d,G,I,af⟩:=h;have aE:2^a<=2^b:=w6 (by omega) Ar;exact⟨v,d,G,eQ I aE,λk O=>⟨(af k O).1,eQ (af k O).2 aE⟩⟩
theorem aw1 {q:Rat}{v d:Int}(aa:d≠0)(h:q*(d:Rat)=(v:Rat)):q.num*d=v*q.den:=by
 have nn:(d:Rat)≠0:=by rw[Ne,aiD];exact aa
 have e:q=l7 v d:=by rw[Mu];grind
 have aC:l7 q.num q.den=l7 v d:=by rw[Rat.num_divInt_den];exact e
 exact (Rat.divInt_eq_divInt_iff (xj q) aa).1 aC
theorem CO {q:Rat}{v d:Int}(aa:d≠0)(h:q*(d:Rat)=(v:Rat)):q.num.natAbs<=v.natAbs/\q.den<=d.natAbs:=by
 have H:=aw1 aa h
 have lX:q.num.natAbs*d.natAbs=v.natAbs*q.den:=by
  have:=congrArg Int.natAbs H;rwa [qL,qL,mK] at this
 have yd:q.den∣d.natAbs:=(Nat.Coprime.symm q.reduced).dvd_of_dvd_mul_left ⟨v.natAbs,by rw[lX,rH]⟩
 have Wp:0<d.natAbs:=by omega
 have I:=Nat.le_of_dvd Wp yd;refine⟨?_,I⟩;obtain⟨m,hm⟩:=yd;rw[hm] at lX;have Wr:=q.den_pos
 have af:q.num.natAbs*m=v.natAbs:=by
  have:q.den*(q.num.natAbs*m)=q.den*v.natAbs:=by rw[rH q.den v.natAbs,<-lX];rw[aio]
  exact Nat.eq_of_mul_eq_mul_left Wr this
 have kf:0<m:=by
  rcases kW m with ar|ar
  ·rw[ar,Nat.mul_zero] at hm;omega
  ·exact ar
 rw[<-af];exact J2 _ kf
def dE (b:Nat)(q:Rat):Prop:=q.num.natAbs<=2^b/\q.den<=2^b
theorem Mt.sz {N b:Nat}{q:Nat->Rat}(h:Mt N q b){k:Nat}(O:k<=N):dE b (q k):=by
 obtain⟨v,d,G,I,af⟩:=h;obtain⟨ay,aC⟩:=af k O;obtain⟨f1,f2⟩:=CO G ay;exact⟨eQ f1 aC,eQ f2 I⟩
theorem aw2 (a b c:Nat)(h:a=2^b):a^c=2^(b*c):=by rw[h,<-Nat.pow_mul]
theorem aiE:∃B:Nat,B=1200/\eb=2^B:=⟨20*60,rfl,aw2 1048576 20 60 (by decide)⟩
theorem CP {z:Int}{b:Nat}(h:z.natAbs<=2^b)(ag:b<1200):iJ z=true:=by
 obtain⟨B,fS,gy⟩:=aiE;unfold iJ;rw[gy,decide_eq_true_eq];exact Nat.lt_of_le_of_lt h (Nat.pow_lt_pow_right (by omega) (by omega))
theorem s8 {x y:Int}{a b:Nat}(Q:x.natAbs<=2^a)(av:y.natAbs<=2^b):(x*y).natAbs<=2^(a+b):=by
 rw[qL,v8];exact o3 Q av
theorem aiF {x y:Int}{a:Nat}(Q:x.natAbs<=2^a)(av:y.natAbs<=2^a):(x+y).natAbs<=2^(a+1):=by
 have:=Int.natAbs_add_le x y;rw[wQ];omega
theorem dE.mono {a b:Nat}{q:Rat}(h:dE a q)(Ar:a<=b):dE b q:=by
 have aE:2^a<=2^b:=w6 (by omega) Ar;exact⟨eQ h.1 aE,eQ h.2 aE⟩
theorem QY {x y:Rat}{a b:Nat}(Q:dE a x)(av:dE b y)(h:a+b<1200):Am x y=true:=by
 unfold Am;rw[eW];exact⟨CP (s8 Q.1 av.1) h,CP (s8 (x:=(x.den:Int)) (y:=(y.den:Int)) (by simpa using Q.2) (by simpa using av.2)) h⟩
theorem aiG {x y:Rat}{a b:Nat}(Q:dE a x)(av:dE b y)(h:a+b<1200):xi x y=true:=by
 unfold xi;rw[eW];exact⟨CP (s8 (y:=(y.den:Int)) Q.1 (by simpa using av.2)) h,CP (s8 (x:=(x.den:Int)) (by simpa using Q.2) av.1) h⟩
theorem E7 {x y:Rat}{a b:Nat}(Q:dE a x)(av:dE b y)(h:a+b+1<1200):lE x y=true:=by
 unfold lE;have G:=s8 (y:=(y.den:Int)) Q.1 (by simpa using av.2);have I:=s8 (y:=(x.den:Int)) av.1 (by simpa using Q.2);rw[zp b a] at I;simp only[eW];exact⟨CP G (by omega),CP I (by omega),CP (aiF G I) h,CP (s8 (x:=(x.den:Int)) (y:=(y.den:Int)) (by simpa using Q.2) (by simpa using av.2)) (by omega)⟩
theorem H5 {b:Nat}{q:Rat}(h:dE b q):dE b (-q):=⟨by rw[aiH,Int.natAbs_neg];exact h.1,h.2⟩
theorem ZO {p q:Int}{b:Nat}(G:p.natAbs<=2^b)(I:q.natAbs<=2^b)(hq:q≠0):dE b (l7 p q):=by
 have aMd:(q:Rat)≠0:=by rw[Ne,aiD];exact hq
 have:=CO (q:=l7 p q) (v:=p) hq (by rw[Mu];grind);exact⟨eQ this.1 G,eQ this.2 I⟩
theorem H6 {x y:Rat}{a b:Nat}(Q:dE a x)(av:dE b y):dE (a+b) (x*y):=by
 rw[<-W5];exact ZO (s8 Q.1 av.1) (s8 (x:=(x.den:Int)) (y:=(y.den:Int)) (by simpa using Q.2) (by simpa using av.2)) (An (xj x) (xj y))
theorem aiI {x y:Rat}{a b:Nat}(Q:dE a x)(av:dE b y):dE (a+b+1) (x+y):=by
 rw[<-W4];have G:=s8 (y:=(y.den:Int)) Q.1 (by simpa using av.2);have I:=s8 (y:=(x.den:Int)) av.1 (by simpa using Q.2);rw[zp b a] at I;have af:=s8 (x:=(x.den:Int)) (y:=(y.den:Int)) (a:=a) (b:=b) (by simpa using Q.2) (by simpa using av.2);exact ZO (aiF G I) (eQ af (w6 (by omega) (by omega))) (An (xj x) (xj y))
theorem aiJ {x y:Rat}{a b:Nat}(Q:dE a x)(av:dE b y)(ar:y≠0):dE (a+b) (x/y):=by
 rw[<-W6];have aK:y.num≠0:=λh=>ar (aiq.1 h);exact ZO (s8 (y:=(y.den:Int)) Q.1 (by simpa using av.2)) (s8 (x:=(x.den:Int)) (by simpa using Q.2) av.1) (An (xj x) aK)
def uI (A:eC)(σ:Nat->Nat)(k:Nat):fW:=λi=>A (σ i) k
def qd:Nat->List Nat
 |0=>[]
 |p+1=>p::qd p
theorem CQ {k:Nat}:∀{p:Nat},k∈qd p↔k<p
 |0=>by simp[qd]
 |p+1=>by
  simp only[qd,hK,CQ (p:=p)];omega
theorem aiK {l:Nat}:∀{p:Nat},l<p->∃df gj,qd p=df++l::gj/\∀m,m∈df++gj↔m<p/\m≠l
 |0,h=>by omega
 |p+1,h=>by
  by_cases aw:l=p
  ·subst aw;refine⟨[],qd l,rfl,λm=>?_⟩;rw[jk,CQ];omega
  ·obtain⟨df,gj,G,I⟩:=aiK (l:=l) (p:=p) (by omega);refine⟨p::df,gj,by simp[qd,G],λm=>?_⟩
   rw[jR,hK,I];omega
def r3 (A:eC)(σ:Nat->Nat)(p:Nat):List fW:=(qd p).map (uI A σ)
theorem QZ {n:Nat}{c c':fW}(df gj:List fW)(h:∀i,i<n->c i=c' i):gV n (df++c::gj)=gV n (df++c'::gj):=by
 have:=aih (n:=n) (df.map (λx=>(x,x))++(c,c')::gj.map (λx=>(x,x))) Ci Prod.snd (λa aN i M=>by
  simp only[jj,hK,dR] at aN;rcases aN with ⟨x,_,rfl⟩|rfl|⟨x,_,rfl⟩
  ·rfl
  ·exact h i M
  ·rfl)
 simpa [Function.comp_def] using this
theorem aiL {A:eC}{σ τ:Nat->Nat}{p:Nat}(h:∀i,i<p->σ i=τ i):gV p (r3 A σ p)=gV p (r3 A τ p) :=
 aih _ _ _ λa _ i M=>by unfold uI;rw[h i M]
def Mv (N:Nat)(A aM:eC)(σ:Nat->Nat)(p:Nat):Prop:=∀i,i<N->∀k,p<=k->k<=N->A (σ i) k=(if i<p then 0 else aM i k)+bF p λl=>A (σ i) l*aM l k
def lK (N:Nat)(A aM:eC)(p:Nat):Prop:=∃σ:Nat->Nat,(∀i,i<N->σ i<N)/\(∀i j,i<N->j<N->σ i=σ j->i=j)/\Mv N A aM σ p/\gV p (r3 A σ p)≠0
theorem lK.start (N:Nat)(A:eC):lK N A A 0:=by
 refine⟨λi=>i,λi h=>h,λi j _ _ h=>h,λi M k _ O=>?_,?_⟩
 ·rw[ah (by omega)];show A i k=A i k+0;grind
 ·show (1:Rat)≠0;decide
theorem aw3 {p:Nat}(a x y:Nat->Rat)(t:Rat):bF p (λl=>a l*(x l-y l*t))=bF p (λl=>a l*x l)-t*bF p λl=>a l*y l:=by
 have:(λl=>a l*(x l-y l*t))=λl=>a l*x l+(-t)*(a l*y l):=by funext l;grind
 rw[this,vY,AL];grind
theorem lK.step {N p s:Nat}{A aM:eC}(h:lK N A aM p)(aE:p<N)(X:p<=s)(AM:s<N)(bG:aM s p≠0):lK N A (o2 aM p p s) (p+1):=by
 obtain⟨σ,hσ,H7,ab,aa⟩:=h
 let π:Nat->Nat:=λi=>if i=s then p else if i=p then s else i
 have hπ:∀i,ht aM p s i=aM (π i):=by
  intro i;show (if i=s then aM p else if i=p then aM s else aM i)=aM (if i=s then p else if i=p then s else i)
  split
  ·rfl
  ·split<;>rfl
 have hπN:∀i,i<N->π i<N:=λi M=>by show (if i=s then p else if i=p then s else i)<N;split<;>(try split)<;>omega
 have hπp:∀i,i<p->π i=i:=λi M=>by show (if i=s then p else if i=p then s else i)=i;rw[ah (by omega),ah (by omega)]
 have hπq:∀i,p<=i->p<=π i:=λi M=>by show p<=(if i=s then p else if i=p then s else i);split<;>(try split)<;>omega
 have hπj:∀i j,π i=π j->i=j:=λi j=>by
  show (if i=s then p else if i=p then s else i)=(if j=s then p else if j=p then s else j)->i=j
  (repeat' split)<;>omega
 have aiM:∀i j,i<N->j<N->σ (π i)=σ (π j)->i=j:=λi j M aj h=>hπj i j (H7 _ _ (hπN i M) (hπN j aj) h)
 have cN:Mv N A (ht aM p s) (λi=>σ (π i)) p:=by
  intro i M k kJ fR;have:=ab (π i) (hπN i M) k kJ fR;rw[this]
  congr 1
  ·by_cases nf:i<p
   ·rw[ad nf,ad (by rw[hπp i nf];exact nf)]
   ·rw[ah nf,ah (by have:=hπq i (by omega);omega),hπ]
  ·refine kn λl aw=>?_;rw[hπ l,hπp l aw]
 have aw4:ht aM p s p p≠0:=by rw[QC];exact bG
 generalize aw5:ht aM p s=S at *
 have hq:o2 aM p p s=λi k=>if i=p then S p k/S p p else S i k-S i p*(S p k/S p p):=by
  funext i k;unfold o2;rw[aw5]
 rw[hq]
 have nn:gV p (r3 A (λi=>σ (π i)) p)≠0:=by
  rw[aiL (τ:=σ) λi M=>by show σ (π i)=σ i;rw[hπp i M]]
  exact aa
 have hσ2:∀i,i<N->σ (π i)<N:=λi M=>hσ _ (hπN i M)
 change ∀i,i<N->(λi=>σ (π i)) i<N at hσ2
 change ∀i j,i<N->j<N->(λi=>σ (π i)) i=(λi=>σ (π i)) j->i=j at aiM
 generalize hτ:(λi=>σ (π i))=τ at *;refine⟨τ,hσ2,aiM,λi M k kJ fR=>?_,?_⟩
 ·have ay:=cN i M k (by omega) fR;have aC:=cN i M p (by omega) (by omega);simp only[bF,if_true];rw[kn (g:=λl=>A (τ i) l*(S l k-S l p*(S p k/S p p))) λl aw=>by rw[ah (by omega)],aw3]
  generalize bF p (λl=>A (τ i) l*S l k)=df at *;generalize bF p (λl=>A (τ i) l*S l p)=gj at *
  by_cases G:i<p
  ·rw[ad G] at ay aC;rw[ad (by omega)];grind
  ·rw[ah G] at ay aC
   by_cases I:i=p
   ·subst I;rw[ad (by omega)];grind
   ·rw[ah (by omega),ah I];grind
 ·have H:gV (p+1) (r3 A τ (p+1))=S p p*gV p (r3 A τ p):=by
   show gV (p+1) ([]++uI A τ p::r3 A τ p)=_
   rw[QZ (c':=CN (λi=>if i<p then 0 else S i p) (λi=>bF p λl=>S l p*uI A τ l i) 1) [] _ λi M=>by
    have:=cN i (by omega) p (by omega) (by omega);show A (τ i) p=(if i<p then 0 else S i p)+1*bF p λl=>S l p*A (τ i) l;rw[this,QU]
    congr 1
    exact kn λl _=>uJ _ _]
   rw[E3,Mp,s0 λl aw=>by
    rw[ZC (by rw[jk];exact uK (CQ.2 aw))];exact nH _]
   rw[jk,aif λi M=>ad M,ah (by omega)];grind
  rw[H];intro ar;rcases ZP.1 ar with ar|ar
  ·exact aw4 ar
  ·exact nn ar
theorem aw6 {N p l k:Nat}{A aM:eC}{σ:Nat->Nat}(ab:Mv N A aM σ p)(aE:p<=N)(aw:l<p)(kJ:p<=k)(fR:k<=N):∃df gj:List Nat,qd p=df++l::gj/\(∀m∈df++gj,m<p)/\aM l k*gV p (r3 A σ p)=gV p ((df++k::gj).map (uI A σ)):=by
 obtain⟨df,gj,ny,hm⟩:=aiK aw;refine⟨df,gj,ny,λm NX=>((hm m).1 NX).1,?_⟩
 ·rw[kG,ev]
  rw[QZ (c':=λi=>bF p λm=>aM m k*uI A σ m i) _ _ λi M=>by
   have:=ab i (by omega) k kJ fR;rw[ad M] at this;show A (σ i) k=bF p λm=>aM m k*A (σ i) m;rw[this,wa];exact kn λl _=>uJ _ _]
  rw[Mp,y1 aw λm aw7 mv=>by
   rw[ZC (by rw[<-kG];exact uK ((hm m).2 ⟨aw7,mv⟩))];exact nH _]
  unfold r3;rw[ny,kG,ev]
theorem aw8 {N p i k:Nat}{A aM:eC}{σ:Nat->Nat}(ab:Mv N A aM σ p)(rr:p<=i)(nY:i<N)(kJ:p<=k)(fR:k<=N):aM i k*gV p (r3 A σ p)=gV (p+1) ((k::qd p).map (uI A λj=>if j=p then σ i else σ j)):=by
 have hτ:∀j,j<p->(λj=>if j=p then σ i else σ j) j=σ j:=λj aj=>ah (by omega);have hτp:(λj=>if j=p then σ i else σ j) p=σ i:=ad rfl;generalize (λj=>if j=p then σ i else σ j)=τ at *;show _=gV (p+1) ([]++uI A τ k::r3 A τ p)
 rw[QZ (c':=CN (λj=>if j<p then 0 else aM i k) (λj=>bF p λl=>aM l k*uI A τ l j) 1) [] _ λj aj=>by
  show A (τ j) k=(if j<p then 0 else aM i k)+1*bF p λl=>aM l k*A (τ j) l;rw[QU]
  by_cases HQ:j<p
  ·have:=ab j (by omega) k kJ fR;rw[ad HQ] at this ⊢;rw[hτ j HQ,this]
   congr 1
   exact kn λl _=>uJ _ _
  ·obtain rfl:j=p:=by omega
   have:=ab i nY k kJ fR;rw[ah (by omega)] at this;rw[ah HQ,hτp,this]
   congr 1
   exact kn λl _=>uJ _ _]
 rw[E3,Mp,s0 λl aw=>by
  rw[ZC (by rw[jk];exact uK (CQ.2 aw))];exact nH _]
 rw[jk,aif λi M=>ad M,ah (by omega),aiL λj aj=>(hτ j aj).symm];grind
theorem aw9 (n:Nat)(df gj:List fW)(x:fW)(a:Rat):gV n (df++(λi=>a*x i)::gj)=a*gV n (df++x::gj):=by
 have:=Mp n df gj (λ_=>a) (λ_=>x) 1;simp only[bF] at this;rw[wa] at this;rw[<-this];exact QZ df gj λi _=>(wa _).symm
theorem aiN (n:Nat)(cb:Nat->Rat)(C:Nat->fW):∀(L:List Nat) (df:List fW),∃a:Rat,((∀k∈L,cb k≠0)->a≠0)/\gV n (df++L.map λk=>λi=>cb k*C k i)=a*gV n (df++L.map C)
 | [],df=>⟨1,λ_=>by decide,by rw[QU];rfl⟩
 |k::L,df=>by
  obtain⟨a,G,I⟩:=aiN n cb C L (df++[C k]);refine⟨cb k*a,λh=>?_,?_⟩
  ·intro ar;rcases ZP.1 ar with ar|ar
   ·exact h k gv ar
   ·exact G (λm hm=>h m (g6 _ hm)) ar
  ·simp only[ev,gb,jR,jk] at I ⊢;rw[aw9,I,Rat.mul_assoc]
structure uL (N:Nat) (A:eC) (δ v:Nat):Prop where
 ex:∃(cb:Nat->Nat) (u w:Nat->Int),iM N cb<=2^δ/\(∀k,0<cb k)/\(∀k,k<N->∃b:Nat->Nat,fj N b<=2*cb k/\∀i,i<N->eO (b i) (cb k*A i k))/\(∀k,k<N->(u k).natAbs<=2^v)/\∀i,i<N->(w i).natAbs<=2^v/\A i N=bF N (λk=>A i k*(u k:Rat))+(w i:Rat)
def lL (e:Nat->Nat):List Nat->Nat
 | []=>1
 |m::l=>e m*lL e l
theorem aiO (e:Nat->Nat)(a b:List Nat):lL e (a++b)=lL e a*lL e b:=by
 induction a with
 |nil=>simp[lL]
 |cons p l aA=>simp only[jR,lL,aA,E6]
theorem axa {e f:Nat->Nat}{l:List Nat}(h:∀m∈l,e m=f m):lL e l=lL f l:=by
 induction l with
 |nil=>rfl
 |cons m l aA=>rw[lL,lL,aA λx Q=>h x (g6 _ Q),h m gv]
theorem aiP (cb:Nat->Nat):∀p,lL (λm=>2*cb m) (qd p)=2^p*iM p cb
 |0=>rfl
 |p+1=>by
  rw[qd,lL,aiP cb p,iM,wQ];grind
theorem ZQ {N n:Nat}{A:eC}{e:Nat->Nat}(dP:∀k,k<=N->∃b:Nat->Nat,fj N b<=e k/\∀i,i<N->eO (b i) (A i k)){τ:Nat->Nat}(G:∀i,i<n->τ i<N)(I:∀i j,i<n->j<n->τ i=τ j->i=j)(L:List Nat)(gy:∀m∈L,m<=N):eO (lL e L) (gV n (L.map (uI A τ))):=by
 have⟨B,fS⟩:∃B:Nat->Nat->Nat,∀k,k<=N->fj N (B k)<=e k/\∀i,i<N->eO (B k i) (A i k):=by
  refine⟨λk=>if h:k<=N then (dP k h).choose else λ_=>0,λk O=>?_⟩;dsimp only;rw[dif_pos O];exact (dP k O).choose_spec
 have h:=aip n (L.map λk=>(uI A τ k,λi=>B k (τ i))) λp aE i M=>by
  obtain⟨m,hm,rfl⟩:=dR.1 aE;exact (fS m (gy m hm)).2 _ (G i M)
 rw[m5] at h;refine eO.mono h ?_;clear h
 induction L with
 |nil=>exact b0 _
 |cons m L aA =>
  rw[ev,ng,lL];exact o3 (eQ (ZG (B m) G I) (fS m (gy m gv)).1) (aA λx Q=>gy x (g6 _ Q))
structure axb (N:Nat) (aM:eC) (δ v p:Nat) (cb:Nat->Nat) (u:Nat->Int) (d:Int):Prop where
 d0:d≠0
 pos:∀k,0<cb k
 aiQ:iM N cb<=2^δ
 aiR:∀k,k<N->(u k).natAbs<=2^v
 DP:d.natAbs<=2^p*iM p cb
 aiS:∀i,i<N->∀k,p<=k->k<N->eO (2^(p+1)*(iM p cb*cb k)) (aM i k*(cb k*d))
 val:∀i,i<N->eO (2^p*iM p cb*(N*2^v)) ((aM i N-(if i<p then (u i:Rat) else 0)-bF N λk=>if p<=k then aM i k*(u k:Rat) else 0)*d)
theorem lK.aiT {N p δ v:Nat}{A aM:eC}(dP:uL N A δ v)(h:lK N A aM p)(aE:p<=N):∃cb u d,axb N aM δ v p cb u d:=by
 obtain⟨σ,hσ,H7,ab,aa⟩:=h;obtain⟨cb,u,w,cW,de,ej,fa,o4⟩:=dP
 have Mw:∀m,((cb m:Nat):Rat)≠0:=λm=>by
  have:=de m;rw[Ne,Rat.natCast_eq_zero_iff];omega
 -- the scaled matrix, with the whole numbers of the values
 have bB:Mv N (λi k=>if k<N then cb k*A i k else (w i:Rat)) (λl k=>if k<N then (if l<p then cb k*aM l k/cb l else cb k*aM l k) else (if l<p then (1:Rat)/cb l else 1)*(aM l N-(if l<p then (u l:Rat) else 0)-bF N λk=>if p<=k then aM l k*(u k:Rat) else 0)) σ p:=by
  intro i M k kJ fR
  by_cases o0:k<N
  ·have:=ab i M k kJ fR;dsimp only;rw[ad o0,ad o0,this,Rat.mul_add,<-AL]
   congr 1
   ·split<;>grind
   ·refine kn λl aw=>?_;rw[ad o0,ad (by omega),ad aw];have:=Mw l;grind
  ·obtain rfl:k=N:=by omega
   dsimp only;rw[ah o0,ah o0];have ay:=ab i M k kJ fR;have aC:=(o4 (σ i) (hσ i M)).2
   have cg:(λm=>A (σ i) m*(u m:Rat))=λm=>(if m<p then A (σ i) m*(u m:Rat) else 0)+if p<=m then A (σ i) m*(u m:Rat) else 0:=by
    funext m
    by_cases hm:m<p
    ·rw[ad hm,ah (by omega),o1]
    ·rw[ah hm,ad (by omega),wa]
   have dw:bF k (λm=>if p<=m then A (σ i) m*(u m:Rat) else 0)=bF k λm=>(if p<=m then (if i<p then 0 else aM i m*(u m:Rat)) else 0)+bF p λl=>A (σ i) l*(if p<=m then aM l m*(u m:Rat) else 0):=kn λm hm=>by
    by_cases mC:p<=m
    ·rw[ad mC,ad mC,ab i M m mC (by omega),Rat.add_mul]
     congr 1
     ·split<;>grind
     ·rw[uJ,<-AL];refine kn λl _=>?_;rw[ad mC];grind
    ·rw[ah mC,ah mC,wa];exact (s0 λl _=>by rw[ah mC,nH]).symm
   rw[cg,vY,dw,vY,awm] at aC
   have cX:bF k (λm=>if m<p then A (σ i) m*(u m:Rat) else 0)=bF p λl=>A (σ i) l*(u l:Rat):=by
    have:∀n,p<=n->bF n (λm=>if m<p then A (σ i) m*(u m:Rat) else 0)=bF p λl=>A (σ i) l*(u l:Rat):=by
     intro n
     induction n with
     |zero =>
          intro h;obtain rfl:p=0:=by omega
          rfl
     |succ n aA =>
      intro h
      by_cases CR:p=n+1
      ·rw[CR];exact kn λm hm=>ad hm
      ·rw[bF,aA (by omega),ah (by omega),o1]
    exact this k aE
   rw[cX] at aC
   have bN:(bF p λl=>(λi uM=>if uM<k then (cb uM:Rat)*A i uM else (w i:Rat)) (σ i) l*((if l<p then (1:Rat)/cb l else 1)*(aM l k-(if l<p then (u l:Rat) else 0)-bF k λm=>if p<=m then aM l m*(u m:Rat) else 0)))=bF p (λl=>A (σ i) l*aM l k)-bF p (λl=>A (σ i) l*(u l:Rat))-bF p λl=>bF k λm=>A (σ i) l*(if p<=m then aM l m*(u m:Rat) else 0):=by
    have:∀f g h:Nat->Rat,bF p (λl=>f l-g l-h l)=bF p f-bF p g-bF p h:=λf g h=>by
     have e:(λl=>f l-g l-h l)=λl=>f l+((-1)*g l+(-1)*h l):=by funext l;grind
     rw[e,vY,vY,AL,AL];grind
    rw[<-this];refine kn λl aw=>?_;dsimp only;rw[ad (by omega),ad aw,ad aw,AL];have:=Mw l;grind
   have bq:(bF p λl=>(λi uM=>if uM<k then (cb uM:Rat)*A i uM else (w i:Rat)) (σ i) l*(λl uM=>if uM<k then (if l<p then (cb uM:Rat)*aM l uM/cb l else cb uM*aM l uM) else (if l<p then (1:Rat)/cb l else 1)*(aM l k-(if l<p then (u l:Rat) else 0)-bF k λm=>if p<=m then aM l m*(u m:Rat) else 0)) l k)=bF p (λl=>A (σ i) l*aM l k)-bF p (λl=>A (σ i) l*(u l:Rat))-bF p λl=>bF k λm=>A (σ i) l*(if p<=m then aM l m*(u m:Rat) else 0):=by
    rw[<-bN];refine kn λl aw=>?_;dsimp only;rw[ah (by omega:¬ k<k)]
   dsimp only at bq;rw[bq]
   by_cases nf:i<p
   ·rw[ad nf] at ay ⊢;have cE:bF k (λm=>if p<=m then (if i<p then 0 else aM i m*(u m:Rat)) else 0)=0:=s0 λm _=>by rw[ad nf];split<;>rfl
    rw[cE] at aC;grind
   ·rw[ah nf] at ay ⊢;have cE:bF k (λm=>if p<=m then (if i<p then 0 else aM i m*(u m:Rat)) else 0)=bF k λm=>if p<=m then aM i m*(u m:Rat) else 0:=kn λm _=>by rw[ah nf]
    rw[cE] at aC;rw[ah nf,ah nf];grind
 have mE:gV p (r3 (λi k=>if k<N then cb k*A i k else (w i:Rat)) σ p)≠0:=by
  obtain⟨a,G,I⟩:=aiN p (λk=>(cb k:Rat)) (uI A σ) (qd p) []
  have Mx:r3 (λi k=>if k<N then cb k*A i k else (w i:Rat)) σ p=(qd p).map λk=>λi=>(cb k:Rat)*uI A σ k i:=by
   unfold r3;refine m4 λm hm=>?_;have:=CQ.1 hm
   funext i
   show (if m<N then (cb m:Rat)*A (σ i) m else (w (σ i):Rat))=_;rw[ad (by omega)];rfl
  rw[jk,jk] at I;rw[Mx,I];intro ar;rcases ZP.1 ar with ar|ar
  ·exact G (λm hm=>Mw m) ar
  ·exact aa ar
 have E8:∀k,k<=N->∃b:Nat->Nat,fj N b<=(if k<N then 2*cb k else N*2^v)/\∀i,i<N->eO (b i) ((λi k=>if k<N then (cb k:Rat)*A i k else (w i:Rat)) i k):=by
  intro k O
  by_cases o0:k<N
  ·obtain⟨b,dh,eH⟩:=ej k o0;refine⟨b,by rw[ad o0];exact dh,λi M=>?_⟩
   dsimp only;rw[ad o0];exact eH i M
  ·refine⟨λ_=>2^v,?_,λi M=>?_⟩
   ·rw[ah o0]
    have:∀n,fj n (λ_=>2^v)=n*2^v:=λn=>by
     induction n with
     |zero=>simp[fj]
     |succ n aA=>rw[fj,aA,tz]
    rw[this];exact b0 _
   ·dsimp only;rw[ah o0];exact eO.mono (eO.int _) (o4 i M).1
 generalize aMe:(λ(i k:Nat)=>if k<N then (cb k:Rat)*A i k else (w i:Rat))=H0 at *;generalize ZR:(λk=>if k<N then 2*cb k else N*2^v)=e at *
 have ZS:∀k,k<=N->∃b:Nat->Nat,fj N b<=e k/\∀i,i<N->eO (b i) (H0 i k):=by
  intro k O;rw[<-ZR];exact E8 k O
 have ZT:∀m,m<N->e m=2*cb m:=λm hm=>by rw[<-ZR];exact ad hm
 have axc:e N=N*2^v:=by rw[<-ZR];exact ah (by omega)
 have ZU:lL e (qd p)=2^p*iM p cb:=by
  rw[<-aiP];exact axa λm hm=>ZT m (by have:=CQ.1 hm;omega)
 have hσp:∀i,i<p->σ i<N:=λi M=>hσ i (by omega);have nf:∀i j,i<p->j<p->σ i=σ j->i=j:=λi j M aj=>H7 i j (by omega) (by omega);have tD:=ZQ ZS hσp nf (qd p) λm hm=>by have:=CQ.1 hm;omega
 rw[ZU] at tD;obtain⟨d,Ab,wZ⟩:=tD
 change gV p (r3 H0 σ p)=(d:Rat) at Ab
 have BU:d≠0:=by
  intro ar;rw[Ab,ar] at mE;exact mE (by rfl)
 -- both kinds of rows
 have fQ:∀l,l<p->∀k,p<=k->k<=N->∃m:Int,(λl k=>if k<N then (if l<p then (cb k:Rat)*aM l k/cb l else cb k*aM l k) else (if l<p then (1:Rat)/cb l else 1)*(aM l N-(if l<p then (u l:Rat) else 0)-bF N λk=>if p<=k then aM l k*(u k:Rat) else 0)) l k*(d:Rat)=(m:Rat)/\cb l*m.natAbs<=2^p*iM p cb*e k:=by
  intro l aw k kJ fR;obtain⟨df,gj,a6,bY,c1⟩:=aw6 bB aE aw kJ fR
  have ag:=ZQ ZS hσp nf (df++k::gj) λm hm=>by
   have:m=k\/m∈df++gj:=by
    simp only[jj,hK] at hm ⊢;rcases hm with h|h|h<;>simp[h]
   rcases this with h|h
   ·omega
   ·have:=bY m h;omega
  obtain⟨m,dO,cJ⟩:=ag;rw[Ab,dO] at c1;refine⟨m,c1,?_⟩;have ay:lL e (df++k::gj)=lL e df*(e k*lL e gj):=by rw[aiO,lL]
  have aC:lL e df*(2*cb l*lL e gj)=2^p*iM p cb:=by
   rw[<-ZU,a6,aiO,lL,ZT l (by omega)]
  rw[ay] at cJ;rw[<-aC];generalize lL e df=x at *;generalize lL e gj=y at *;have b9:=o3 (b0 (cb l)) cJ;have dc:x*(2*cb l*y)*e k=cb l*(x*(e k*y))+cb l*(x*(e k*y)):=by grind
  rw[dc];omega
 have jg:∀i,p<=i->i<N->∀k,p<=k->k<=N->∃m:Int,(λl k=>if k<N then (if l<p then (cb k:Rat)*aM l k/cb l else cb k*aM l k) else (if l<p then (1:Rat)/cb l else 1)*(aM l N-(if l<p then (u l:Rat) else 0)-bF N λk=>if p<=k then aM l k*(u k:Rat) else 0)) i k*(d:Rat)=(m:Rat)/\m.natAbs<=2^p*iM p cb*e k:=by
  intro i rr nY k kJ fR;have aiU:=aw8 bB rr nY kJ fR
  have hτ:∀j,j<p+1->(λj=>if j=p then σ i else σ j) j<N:=λj aj=>by
   show (if j=p then σ i else σ j)<N
   split
   ·exact hσ i nY
   ·exact hσ j (by omega)
  have hτj:∀j k,j<p+1->k<p+1->(λj=>if j=p then σ i else σ j) j=(λj=>if j=p then σ i else σ j) k->j=k:=λj k aj O=>by
   show (if j=p then σ i else σ j)=(if k=p then σ i else σ k)->j=k;intro h
   by_cases aI:j=p
   ·by_cases c2:k=p
    ·omega
    ·rw[ad aI,ah c2] at h;have:=H7 _ _ nY (by omega) h;omega
   ·by_cases c2:k=p
    ·rw[ah aI,ad c2] at h;have:=H7 _ _ (by omega) nY h;omega
    ·rw[ah aI,ah c2] at h;exact H7 _ _ (by omega) (by omega) h
  obtain⟨m,dO,cJ⟩:=ZQ ZS hτ hτj (k::qd p) λm hm=>by
   rcases hK.1 hm with h|h
   ·omega
   ·have:=CQ.1 h;omega
  rw[Ab,dO] at aiU;refine⟨m,aiU,eQ cJ ?_⟩;rw[lL,ZU,rH];exact b0 _
 refine⟨cb,u,d,BU,de,cW,fa,wZ,λi M k kJ fR=>?_,λi M=>?_⟩
 ·have W9:2^(p+1)*(iM p cb*cb k)=2^p*iM p cb*e k:=by rw[ZT k fR,wQ];grind
  rw[W9]
  by_cases az:i<p
  ·obtain⟨m,dO,cJ⟩:=fQ i az k kJ (by omega);dsimp only at dO;rw[ad fR,ad az] at dO;refine⟨cb i*m,?_,by rw[qL,mK];exact cJ⟩
   rw[qc,<-dO,oo];have:=Mw i;grind
  ·obtain⟨m,dO,cJ⟩:=jg i (by omega) M k kJ (by omega);dsimp only at dO;rw[ad fR,ah az] at dO;refine⟨m,?_,cJ⟩;rw[<-dO];grind
 ·rw[<-axc]
  by_cases az:i<p
  ·obtain⟨m,dO,cJ⟩:=fQ i az N aE (b0 _);dsimp only at dO;rw[ah (by omega:¬ N<N),ad az,ad az] at dO;refine⟨cb i*m,?_,by rw[qL,mK];exact cJ⟩
   rw[qc,<-dO,oo,ad az];have:=Mw i;grind
  ·obtain⟨m,dO,cJ⟩:=jg i (by omega) M N aE (b0 _);dsimp only at dO;rw[ah (by omega:¬ N<N),ah az,ah az] at dO;refine⟨m,?_,cJ⟩;rw[<-dO,ah az];grind
def H8 (N:Nat)(A:eC)(eK aQ:Nat):Prop:=∀aM p,p<=N->lK N A aM p->∀i k,i<N->p<=k->k<=N->dE eK (aM i k)/\(k<N->dE aQ (aM i k))
theorem uL.aiV {N δ v:Nat}{A:eC}(dP:uL N A δ v)(gI:N<=7):H8 N A (N+δ+v+4) (N+δ):=by
 intro aM p aE h i k M kJ fR;obtain⟨cb,u,d,aK⟩:=h.aiT dP aE;obtain⟨bL,aMf,e7,en⟩:=ail aK.pos aE;have E9:=aK.aiQ;rw[e7] at E9
 have axd:∀k,p<=k->k<N->iM p cb*cb k<=iM p cb*bL:=λk G I=>by
  obtain⟨m,hm⟩:=en k G I;refine o3 (b0 _) ?_
  have:0<m:=by
   rcases kW m with h|h
   ·rw[h] at hm;omega
   ·exact h
  rw[hm];exact J2 _ this
 have He:∀q,q<=N->∀x,x<=2^δ->2^q*x<=2^(N+δ):=λq hq x Q=>by
  rw[v8];exact o3 (w6 (by omega) hq) Q
 have e8:∀k,p<=k->k<N->dE (N+δ) (aM i k):=λk kJ fR=>by
  obtain⟨z,jY,k6⟩:=aK.aiS i M k kJ fR;have aMg:=aK.pos k;obtain⟨f1,f2⟩:=CO (q:=aM i k) (v:=z) (d:=(cb k:Int)*d) (An (by omega) aK.d0) (by rw[<-jY,qc,oo]);have hle:=eQ (axd k kJ fR) E9;refine⟨eQ f1 (eQ k6 (He _ (by omega) _ hle)),eQ f2 ?_⟩;rw[qL,mK];refine eQ (o3 (b0 _) aK.DP) (eQ ?_ (He p aE _ hle));exact AH (by grind)
 by_cases o0:k<N
 ·exact⟨(e8 k kJ o0).mono (by omega),λ_=>e8 k kJ o0⟩
 refine⟨?_,λh=>absurd h o0⟩;obtain rfl:k=N:=by omega
 have hU:=aK.val i M;have fS:∀q,q<=k->2^q*(iM p cb*bL)<=2^(k+δ):=λq hq=>He q hq _ E9
 -- the three parts, times d and bL
 have ia:eO (k*2^(k+δ+v)) ((aM i k-(if i<p then (u i:Rat) else 0)-bF k λm=>if p<=m then aM i m*(u m:Rat) else 0)*d*(bL:Rat)):=by
  refine (hU.mul (eO.nat (b0 bL))).mono ?_;have:=o3 (fS p aE) (b0 (k*2^v));refine eQ (AH ?_) (eQ this (AH ?_))
  ·grind
  ·rw[v8 2 (k+δ) v];grind
 have iF:eO (2^(k+δ+v)) ((if i<p then (u i:Rat) else 0)*d*(bL:Rat)):=by
  have hu:eO (2^v) (if i<p then (u i:Rat) else 0):=by
   split
   ·exact eO.mono (eO.int _) (aK.aiR i M)
   ·exact eO.zero
  refine ((hu.mul (eO.mono (eO.int d) aK.DP)).mul (eO.nat (b0 bL))).mono ?_;have:=o3 (fS p aE) (b0 (2^v));refine eQ (AH ?_) (eQ this (AH ?_))
  ·grind
  ·rw[v8 2 (k+δ) v]
 have qX:eO (k*2^(k+δ+v)) ((bF k λm=>if p<=m then aM i m*(u m:Rat) else 0)*d*(bL:Rat)):=by
  have e:(bF k λm=>if p<=m then aM i m*(u m:Rat) else 0)*(d:Rat)*(bL:Rat)=bF k λm=>((d:Rat)*(bL:Rat))*(if p<=m then aM i m*(u m:Rat) else 0):=by
   rw[AL];grind
  rw[e];refine eO.sum k λm hm=>?_
  by_cases mC:p<=m
  ·rw[ad mC];obtain⟨y,av⟩:=en m mC hm
   have aC:(d:Rat)*(bL:Rat)*(aM i m*(u m:Rat))=(aM i m*((cb m:Rat)*d))*(y:Rat)*(u m:Rat):=by
    rw[av,Rat.natCast_mul];grind
   rw[aC];refine (((aK.aiS i M m mC hm).mul (eO.nat (b0 y))).mul (eO.mono (eO.int (u m)) (aK.aiR m hm))).mono ?_;have:=o3 (fS (p+1) (by omega)) (b0 (2^v));refine eQ (AH ?_) (eQ this (AH ?_))
   ·rw[av];grind
   ·rw[v8 2 (k+δ) v]
  ·rw[ah mC,nH];exact eO.zero
 obtain⟨z,jY,k6⟩:=(ia.add iF).add qX
 have e:aM i k*((d*(bL:Int):Int):Rat)=(z:Rat):=by
  rw[<-jY,qc,oo];grind
 obtain⟨f1,f2⟩:=CO (An aK.d0 (by omega)) e;refine⟨eQ f1 (eQ k6 ?_),eQ f2 ?_⟩
 ·rw[v8 2 (k+δ+v) 4];generalize 2^(k+δ+v)=df at *;have:k*df<=7*df:=Nat.mul_le_mul_right _ gI;omega
 ·rw[qL,mK];refine eQ (o3 aK.DP (b0 bL)) (eQ (AH ?_) (eQ (fS p aE) (w6 (by omega) (by omega))));grind
theorem lK.axe {N δ v:Nat}{A aM:eC}(dP:uL N A δ v)(h:lK N A aM N):∃bg:Nat,0<bg/\bg<=2^(N+δ)/\∀i,i<N->∃z:Int,aM i N*(bg:Rat)=(z:Rat):=by
 obtain⟨cb,u,d,aK⟩:=h.aiT dP (b0 N)
 have⟨s,X⟩:∃s:Int,(d.natAbs:Int)=s*d:=by
  rcases Int.natAbs_eq d with e|e
  ·exact⟨1,by omega⟩
  ·exact⟨-1,by omega⟩
 have aa:=aK.d0;refine⟨d.natAbs,by omega,eQ aK.DP ?_,λi M=>?_⟩
 ·rw[v8];exact o3 (b0 _) aK.aiQ
 ·obtain⟨z,jY,-⟩:=aK.val i M;rw[ad M,s0 λk O=>ah (by omega)] at jY;refine⟨s*(z+u i*d),?_⟩;have e:((d.natAbs:Nat):Rat)=((d.natAbs:Int):Rat):=(oo _).symm;rw[e,X,qc,qc,v7,qc,<-jY];grind
def cT (N:Nat)(x:Nat->Rat):List bc:=((dF N).map x).map ao
theorem mT (N:Nat)(x:Nat->Rat):(cT N x).length=N:=by simp[cT]
theorem pG {N k:Nat}(x:Nat->Rat)(h:k<N):(cT N x)[k]?=some (ao (x k)):=by
 unfold cT;rw[bj,bj,tx h];rfl
theorem My {N:Nat}{l:List bc}{x:Nat->Rat}(aw:(D l)=N)(h:∀k,k<N->l[k]?=some (ao (x k))):l=cT N x:=by
 apply pP;intro k;rcases iq k N with O|O
 ·rw[h k O,pG x O]
 ·rw[mr (by omega),mr (by rw[mT];omega)]
theorem CS {N:Nat}{x y:Nat->Rat}(h:∀k,k<N->x k=y k):cT N x=cT N y :=
 My (mT N x) λk O=>by rw[pG x O,h k O]
theorem Q0 {N:Nat}{x:Nat->Rat}(gI:N<=40)(h:∀k,k<N->di (x k)):fq (cT N x):=by
 refine⟨by rw[mT];omega,λf aJ=>?_⟩
 obtain⟨k,O⟩:=tQ.1 aJ;have o0:k<N:=by have:=(dU.1 O).1;rwa [mT] at this
 rw[pG x o0] at O
 cases O;exact k9 (h k o0)
def aiW (N:Nat)(bg:eC)(x:Nat->Rat):Prop:=(∀y,h0 N bg (ext N y (-1))↔∀k,k<N->y k=x k)/\∀y,h0 N bg (ext N y 0)->∀k,k<N->y k=0
def CT (N:Nat)(bg:eC):Prop:=∃y,h0 N bg (ext N y 0)/\∃k,k<N/\y k≠0
theorem axf {N:Nat}{rows:List dx}{aM:eC}(h:xz N rows aM):rows.map (vW N)=cT N (λi=>aM i N) :=
 My (by rw[ak];exact h.1) λk O=>by
  obtain⟨x,Q,-,oq⟩:=h.row O;rw[bj,Q,mw];unfold vW;rw[dX,oq.get (b0 _)]
  rfl
theorem H3.CU {N:Nat}{aM v9:eC}{rows:List dx}{p c:Nat}{bE:Nat->Nat}(h:H3 N aM v9 rows p c bE){i k:Nat}(M:i<N)(O:k<=N):di (v9 i k):=by
 obtain⟨x,-,-,oq⟩:=h.enc.row M;exact oq.2 k O
theorem aiX {q:Rat}(h:di q):lE 0 (-q)=true:=by
 unfold lE;simp only[eW]
 have G:iJ ((-q).num*((0:Rat).den:Int))=true:=by
  rw[aiH,aiY];unfold iJ;rw[decide_eq_true_eq];have:=h.1;omega
 refine⟨?_,G,?_,?_⟩
 ·rw[aiZ,Ag];decide +kernel
 ·rw[aiZ,Ag,Eh];exact G
 ·rw[aiY,Rat.neg_den];unfold iJ;rw[decide_eq_true_eq];have:=h.2;omega
theorem ai0:di 0:=⟨by decide +kernel,by decide +kernel⟩
theorem axg {N f:Nat}{rows:List dx}{aM:eC}(h:xz N rows aM)(aJ:f<N):L7 rows f N f=cT N (s6 aM f) :=
 My (awl _ _ _ _) λk O=>by
  unfold L7;rw[bj,tx O,mw];unfold s6
  by_cases G:k<f
  ·rw[ad G,ad G];obtain⟨x,-,ex,oq⟩:=h.row (i:=k) (by omega);rw[ex,oq.cell (by omega),<-ahW,PU ai0 (oq.2 f (by omega)),aiX (oq.2 f (by omega))]
   rfl
  ·rw[ah G,ah G]
   by_cases I:k=f
   ·rw[ad I,ad I,awk]
   ·rw[ah I,ah I,ahW]
theorem ZV {N:Nat}{bg aM:eC}(h:∀y,h0 N aM y↔h0 N bg y):∀y z,h0 N aM (ext N y z)↔h0 N bg (ext N y z):=λ_ _=>h _
theorem axh {rs:List eY}{n:Int}(h:oe rs n=true):
  (qZ rs n=([],6)) \/
  (∃x,qZ rs n=(cT (D rs) x,0)/\Ze rs n=([],false)/\(∀k,k<(D rs)->di (x k))/\aiW (D rs) (q2 rs) x) \/
  (∃y,qZ rs n=([],17)/\Ze rs n=(cT (D rs) y,true)/\(∀k,k<(D rs)->di (y k))/\h0 (D rs) (q2 rs) (ext (D rs) y 0)/\∃k,k<D rs/\y k=1):=by
 unfold qZ Ze;rw[ad h];rcases Q:qY true rs with ⟨xB,r2,bad⟩
 cases bad
 ·right
  obtain⟨aM,p,c,bE,he,-,X⟩:=aw0 true h Q;rw[ad h];rcases X rfl with ⟨rfl,rfl,rfl,j4⟩|⟨f,rfl,aJ,rfl,rfl,j4,aW⟩
  ·left
   refine⟨λi=>aM i (D rs),?_,rfl,λk O=>he.CU O (b0 _),λy=>?_,λy av=>?_⟩
   ·rw[ah (by simp),ah (by simp),axf he.enc]
   ·rw[<-ZV he.H4];exact aib he.red j4 y
   ·exact awH he.red j4 y ((ZV he.H4 y 0).2 av)
  ·right
   refine⟨s6 aM c,?_,?_,λk O=>?_,?_,⟨c,aJ,by unfold s6;simp⟩⟩
   ·rw[ah (by simp),ad (by simp)]
   ·rw[ah (by simp)];exact congrArg (λl=>(l,true)) (axg he.enc aJ)
   ·unfold s6
    split
    ·exact agu (aiX (he.CU O (by omega)))
    ·split
     ·exact⟨by decide +kernel,by decide +kernel⟩
     ·exact ai0
   ·exact (ZV he.H4 _ _).1 (aic he.red j4 aJ aW)
 ·left
  rw[ad rfl]
theorem ai1 (aM:eC){N p s:Nat}(aE:p<N)(X:p<=s)(AM:s<N){i:Nat}(M:i<N):∃bk,bk<N/\ht aM p s i=aM bk:=by
 unfold ht
 by_cases G:i=s
 ·exact⟨p,aE,by rw[ad G]⟩
 ·by_cases I:i=p
  ·exact⟨s,AM,by rw[ah G,ad I]⟩
  ·exact⟨i,M,by rw[ah G,ah I]⟩
theorem axi (b:Nat)(p:Prop)[Decidable p]:dE b (if p then 1 else 0):=by
 have ag:1<=2^b:=Nat.one_le_two_pow
 split
 ·exact⟨ag,ag⟩
 ·exact⟨ft _,ag⟩
theorem lK.all {N p eK aQ:Nat}{A aM:eC}{bE:Nat->Nat}(fS:H8 N A eK aQ)(h:lK N A aM p)(ab:q0 N aM p p bE)(j4:∀j,j<p->bE j=j)(aE:p<=N){i k:Nat}(M:i<N)(O:k<=N):dE eK (aM i k):=by
 by_cases ai2:k<p
 ·have:=ab.unit k ai2 i M;rw[j4 k ai2] at this;rw[this];exact axi _ _
 ·exact (fS aM p aE h i k M (by omega) O).1
theorem axj {N p s eK aQ:Nat}{A aM:eC}{bE:Nat->Nat}(fS:H8 N A eK aQ)(h:lK N A aM p)(ab:q0 N aM p p bE)(j4:∀j,j<p->bE j=j)(aE:p<N)(X:p<=s)(AM:s<N)(bG:aM s p≠0)(kK:2*eK+aQ+1<1200):aix N (ht aM p s) p p:=by
 have I:=h.step aE X AM bG;have bB:=ab.EW aE X AM bG
 have axk:∀j,j<p+1->(if j=p then p else bE j)=j:=λj aj=>by
  split
  ·omega
  ·exact j4 j (by omega)
 have fg:∀i,i<N->∀k,k<=N->dE eK (ht aM p s i k):=by
  intro i M k O;obtain⟨bk,G,e⟩:=ai1 aM aE X AM M;rw[e];exact h.all fS ab j4 (by omega) G O
 have Mx:∀i,i<N->dE aQ (ht aM p s i p):=by
  intro i M;obtain⟨bk,G,e⟩:=ai1 aM aE X AM M;rw[e];exact (fS aM p (by omega) h bk p G (b0 p) (by omega)).2 aE
 have ai3:∀k,k<=N->dE eK (ht aM p s p k/ht aM p s p p):=by
  intro k O;have:=I.all fS bB axk (by omega) (i:=p) aE O;unfold o2 at this;rwa [ad rfl] at this
 refine⟨λk O=>aiG (fg p aE k O) (Mx p aE) (by omega),λi M _ _ k O=>?_⟩;unfold r1;rw[eW];exact⟨QY (Mx i M) (ai3 k O) (by omega),E7 (fg i M k O) (H5 (H6 (Mx i M) (ai3 k O))) (by omega)⟩
theorem axl {N eK aQ:Nat}{A:eC}(fS:H8 N A eK aQ)(kK:2*eK+aQ+1<1200):
  ∀k p rows aM bE,p+k=N->H3 N A aM rows p p bE->lK N A aM p->(∀j,j<p->bE j=j)->(mb true k p rows [] false).2.2=false:=by
 intro k
 induction k with
 |zero=>intro p rows aM bE _ _ _ _;rfl
 |succ k aA =>
  intro p rows aM bE aE he aa j4;unfold mb;rw[kZ,CF];rcases aiy he.enc (r:=p) (c:=p) (by omega) (by omega) with ⟨G,I,af,aS⟩|⟨G,s,hC,kj,s7,aS,bm⟩
  ·rw[G,I,af,ad rfl,ad rfl]
  ·have cU:=axj fS aa he.red j4 (by omega) hC kj s7 kK;have ag:=bm cU;rw[G,ah (by simp),ag];refine aA (p+1) _ (o2 aM p p s) (λj=>if j=p then p else bE j) (by omega) ⟨aS ag,he.red.EW (by omega) hC kj s7,λy=>(Zh (by omega) kj s7).trans (he.H4 y)⟩ (aa.step (by omega) hC kj s7) λj aj=>?_;show (if j=p then p else bE j)=j
   split
   ·omega
   ·exact j4 j (by omega)
theorem axm {rs:List eY}{n:Int}{eK aQ:Nat}(h:oe rs n=true)(fS:H8 (D rs) (q2 rs) eK aQ)(kK:2*eK+aQ+1<1200):qZ rs n≠([],6):=by
 have Q:(qY true rs).2.2=false :=
  axl fS kK (D rs) 0 (hE rs) (q2 rs) (λj=>j) (by omega) ⟨aiC h,QD _ _ _,λ_=>Iff.rfl⟩ (lK.start _ _) λj aj=>by omega
 unfold qZ;rw[ad h,ah (by rw[Q];simp)]
 split
 ·simp
 ·simp
theorem axn {rs:List eY}{n:Int}{eK aQ:Nat}(h:oe rs n=true)(fS:H8 (D rs) (q2 rs) eK aQ)(kK:2*eK+aQ+1<1200)(X:¬ CT (D rs) (q2 rs)):
  ∃x,qZ rs n=(cT (D rs) x,0)/\(∀k,k<(D rs)->di (x k))/\aiW (D rs) (q2 rs) x:=by
 rcases axh h with e|⟨x,e,-,G,I⟩|⟨y,-,-,-,G,k,O,av⟩
 ·exact absurd e (axm h fS kK)
 ·exact⟨x,e,G,I⟩
 ·exact absurd ⟨y,G,k,O,by rw[av];decide⟩ X
theorem lK.full {N:Nat}{A:eC}(X:¬ CT N A):∀k p aM bE,p+k=N->q0 N aM p p bE->(∀y,h0 N aM y↔h0 N A y)->lK N A aM p->(∀j,j<p->bE j=j)->∃aM bE,lK N A aM N/\q0 N aM N N bE/\(∀j,j<N->bE j=j)/\∀y,h0 N aM y↔h0 N A y
 |0,p,aM,bE,aE,ab,aN,aa,j4=>by
  obtain rfl:p=N:=by omega
  exact⟨aM,bE,aa,ab,j4,aN⟩
 |k+1,p,aM,bE,aE,ab,aN,aa,j4=>by
  by_cases aW:∀i,p<=i->i<N->aM i p=0
  ·exfalso
   refine X ⟨s6 aM p,(aN _).1 (aic ab j4 (by omega) aW),p,by omega,?_⟩
   unfold s6;rw[ah (by omega),ad rfl]
   decide
  ·have⟨s,hC,kj,s7⟩:∃s,p<=s/\s<N/\aM s p≠0:=by
    apply mc;intro h;exact aW λi G I=>mc λaf=>h ⟨i,G,I,af⟩
   refine lK.full X k (p+1) (o2 aM p p s) (λj=>if j=p then p else bE j) (by omega) (ab.EW (by omega) hC kj s7) (λy=>(Zh (by omega) kj s7).trans (aN y)) (aa.step (by omega) hC kj s7) λj aj=>?_;show (if j=p then p else bE j)=j
   split
   ·omega
   ·exact j4 j (by omega)
theorem ai4 {N δ v:Nat}{A:eC}(X:¬ CT N A)(dP:uL N A δ v){x:Nat->Rat}(Q:h0 N A (ext N x (-1))):∃bg:Nat,0<bg/\bg<=2^(N+δ)/\∀i,i<N->∃z:Int,x i*(bg:Rat)=(z:Rat):=by
 obtain⟨aM,bE,⟨σ,G,yq,I,af⟩,-⟩:=lK.full X N 0 A (λj=>j) (by omega) (QD _ _ _) (λ_=>Iff.rfl) (lK.start _ _) (λj aj=>by omega);refine lK.axe (aM:=λi _=>x i) dP ⟨σ,G,yq,λi M k kJ fR=>?_,af⟩;obtain rfl:k=N:=by omega
 rw[ad M];have:=Q (σ i) (G i M);rw[Mn] at this;grind
theorem axo {N:Nat}{A:eC}(X:¬ CT N A):∃x,h0 N A (ext N x (-1)):=by
 obtain⟨aM,bE,-,G,I,af⟩:=lK.full X N 0 A (λj=>j) (by omega) (QD _ _ _) (λ_=>Iff.rfl) (lK.start _ _) (λj aj=>by omega);exact⟨λi=>aM i N,(af _).1 ((aib G I _).2 λ_ _=>rfl)⟩
end Go.Mini
namespace Go.Mini
open Classical
def Day.W (d:Day)(f:Nat->Nat)(k i:Nat):Rat:=cy d.dj λc=>if c.to=(i:Int)/\c.aG=k/\c.bw=f k then d.w c else 0
def Day.st (d:Day)(f:Nat->Nat)(i:Nat):Rat:=d.E i+cy d.dj λc=>if c.to=(i:Int)/\c.bw<f c.aG then c.am else 0
theorem Day.dt.ai5 {d:Day}(aa:d.dt)(f:Nat->Nat)(P:Nat->Prop)(x:Nat->Rat)(i:Nat):(cy d.dj λc=>if c.to=(i:Int) then (if c.bw=f c.aG/\P c.aG then d.w c*x c.aG else 0) else 0)=bF d.n λk=>if P k then d.W f k i*x k else 0:=by
 have e:=QH (n:=d.n) aa.aG λk c=>if c.to=(i:Int) then (if c.bw=f k/\P k then d.w c*x k else 0) else 0;rw[<-e];refine kn λk O=>?_
 by_cases gx:P k
 ·rw[ad gx,uJ];unfold Day.W;rw[<-QG];refine xy λc _=>?_
  by_cases G:c.aG=k
  ·by_cases I:c.to=(i:Int)
   ·by_cases af:c.bw=f k
    ·rw[ad G,ad I,ad ⟨af,gx⟩,ad ⟨I,G,af⟩,uJ]
    ·rw[ad G,ad I,ah λh=>af h.1,ah λh=>af h.2.2,nH]
   ·rw[ad G,ah I,ah λh=>I h.1,nH]
  ·rw[ah G,ah λh=>G h.2.1,nH]
 ·rw[ah gx];refine L9 λc _=>?_
  split
  ·split
   ·rw[ah λh=>gx h.2]
   ·rfl
  ·rfl
theorem Day.dt.Q1 {d:Day}(aa:d.dt)(f:Nat->Nat)(P:Nat->Prop)(h:Nat->Rat)(i:Nat):d.fb (d.l f P h) i=d.st f i+bF d.n λk=>if P k then d.W f k i*(h k-d.bD k (f k)) else 0:=by
 rw[<-aa.ai5 f P (λk=>h k-d.bD k (f k)) i];unfold Day.fb Day.st;rw[Rat.add_assoc,<-QF]
 congr 1
 refine xy λc _=>?_;unfold Day.l
 by_cases G:c.to=(i:Int)
 ·rw[ad G,ad G]
  by_cases I:c.bw<f c.aG
  ·have af:c.to=(i:Int)/\c.bw<f c.aG:=⟨G,I⟩;have aS:¬ (c.bw=f c.aG/\P c.aG):=λh=>by have:=h.1;omega
   rw[ad I,ad af,ah aS,o1]
  ·have af:¬ (c.to=(i:Int)/\c.bw<f c.aG):=λh=>I h.2;rw[ah I,ah af,wa]
   by_cases aS:c.bw=f c.aG/\P c.aG
   ·rw[ad aS,ad aS,aS.1]
   ·rw[ah aS,ah aS]
 ·have af:¬ (c.to=(i:Int)/\c.bw<f c.aG):=λh=>G h.1;rw[ah G,ah af,ah G,o1]
def Day.AP (d:Day)(f:Nat->Nat)(P:Nat->Prop):eC:=λi k=>if k<d.n then (if i=k then 1 else 0)-(if P k then d.W f k i else 0) else d.st f i-bF d.n λk=>if P k then d.W f k i*d.bD k (f k) else 0
theorem ZW {d:Day}(f:Nat->Nat)(P:Nat->Prop)(x:Nat->Rat)(z:Rat){i:Nat}(M:i<d.n):mQ d.n (d.AP f P i) (ext d.n x z)=x i-(bF d.n λk=>if P k then d.W f k i*x k else 0)+(d.st f i-bF d.n λk=>if P k then d.W f k i*d.bD k (f k) else 0)*z:=by
 rw[Mn]
 congr 1
 ·have e:=y1 (n:=d.n) (f:=λk=>if i=k then x k else 0) (j:=i) M λk _ O=>ah (Ne.symm O);rw[ad rfl] at e;rw[<-e,<-HR];refine kn λk O=>?_;unfold Day.AP;rw[ad O]
  split<;>split<;>grind
 ·unfold Day.AP;rw[ah (by omega)]
theorem ai6 {d:Day}(aa:d.dt)(f:Nat->Nat)(P:Nat->Prop)(h:Nat->Rat):h0 d.n (d.AP f P) (ext d.n h (-1))↔∀i,i<d.n->h i=d.fb (d.l f P h) i:=by
 have e:∀i,(bF d.n λk=>if P k then d.W f k i*(h k-d.bD k (f k)) else 0)=(bF d.n λk=>if P k then d.W f k i*h k else 0)-bF d.n λk=>if P k then d.W f k i*d.bD k (f k) else 0:=λi=>by
  rw[<-HR];refine kn λk _=>?_
  split<;>grind
 unfold h0
 constructor
 ·intro dP i M;have:=dP i M;rw[ZW f P h _ M] at this;rw[aa.Q1,e];grind
 ·intro dP i M;have:=dP i M;rw[aa.Q1,e] at this;rw[ZW f P h _ M];grind
structure Good (d:Day) (f:Nat->Nat) (P:Nat->Prop):Prop where
 ok:d.dt
 inv:∃g,Inv d f g
 gL:∀i,P i->i<d.n/\f i<10
 QN:∀C:Nat->Prop,(∃i,C i)->(∀i,C i->P i)->¬ d.closed f C
theorem Good.ai7 {d:Day}{f:Nat->Nat}{P:Nat->Prop}(ba:Good d f P){x:Nat->Rat}(Q:∀i,i<d.n->x i=bF d.n λk=>if P k then d.W f k i*x k else 0):∀i,i<d.n->x i=0:=by
 obtain⟨g,M⟩:=ba.inv;exact awz M ba.ok ba.gL ba.QN x λi cF=>by rw[ba.ok.ai5 f P x i];exact Q i cF
theorem Good.ai8 {d:Day}{f:Nat->Nat}{P:Nat->Prop}(ba:Good d f P):¬ CT d.n (d.AP f P):=by
 rintro⟨y,av,k,O,bG⟩;refine bG (ba.ai7 (x:=y) (λi M=>?_) k O);have:=av i M;rw[ZW f P y _ M] at this;grind
theorem Good.ex {d:Day}{f:Nat->Nat}{P:Nat->Prop}(ba:Good d f P):∃h:Nat->Rat,∀i,i<d.n->h i=d.fb (d.l f P h) i:=by
 obtain⟨x,Q⟩:=axo ba.ai8;exact⟨x,(ai6 ba.ok f P x).1 Q⟩
theorem Good.uniq {d:Day}{f:Nat->Nat}{P:Nat->Prop}(ba:Good d f P){h cx:Nat->Rat}(e:∀i,i<d.n->h i=d.fb (d.l f P h) i)(e':∀i,i<d.n->cx i=d.fb (d.l f P cx) i):∀i,i<d.n->h i=cx i:=by
 obtain⟨g,M⟩:=ba.inv;exact awy M ba.ok ba.gL ba.QN e e'
def Day.fc (d:Day)(f:Nat->Nat)(P:Nat->Prop):Nat->Rat:=if h:∃x:Nat->Rat,∀i,i<d.n->x i=d.fb (d.l f P x) i then tN h else λ_=>0
theorem Good.fc {d:Day}{f:Nat->Nat}{P:Nat->Prop}(ba:Good d f P):∀i,i<d.n->d.fc f P i=d.fb (d.l f P (d.fc f P)) i:=by
 have h:=ba.ex;unfold Day.fc;rw[dif_pos h];exact pn h
theorem axp {l:List Nat}{a k:Nat}(h:k<D l):(l++[a]).getD k 0=l.getD k 0:=by
 rw[dX,dX,qv h]
theorem axq (l:List Nat)(a:Nat)(aQ:Nat->Rat):bF (l++[a]).length (λk=>aQ ((l++[a]).getD k 0))=bF (D l) (λk=>aQ (l.getD k 0))+aQ a:=by
 rw[fG,List.length_singleton,bF]
 congr 1
 ·refine kn λk O=>?_;rw[axp O]
 ·rw[dX,ru (b0 _),mu];rfl
def c5 (P:Nat->Prop)(n:Nat):List Nat:=(dF n).filter λi=>decide (P i)
theorem Q2 (P:Nat->Prop)(aQ:Nat->Rat):∀n,bF (c5 P n).length (λk=>aQ ((c5 P n).getD k 0))=bF n λk=>if P k then aQ k else 0
 |0=>rfl
 |n+1=>by
  have aA:=Q2 P aQ n;unfold c5 at aA ⊢;rw[List.range_succ,List.filter_append]
  by_cases gx:P n
  ·rw[List.filter_cons_of_pos (by simpa using gx),ot,axq,aA,bF,ad gx]
  ·rw[List.filter_cons_of_neg (by simpa using gx),ot,fv,aA,bF,ah gx,o1]
theorem xC {P:Nat->Prop}{n k:Nat}(h:k<(c5 P n).length):(c5 P n).getD k 0<n/\P ((c5 P n).getD k 0):=by
 have hm:(c5 P n).getD k 0∈c5 P n:=by
  rw[dX,bs h];exact m2 h
 unfold c5 at hm ⊢;rw[v5,gR,decide_eq_true_eq] at hm;exact hm
def Day.uN (d:Day)(f:Nat->Nat)(p:List Nat):eC:=λi k=>if k<(D p) then (if i=k then 1 else 0)-d.W f (p.getD k 0) (p.getD i 0) else d.st f (p.getD i 0)-d.bD (p.getD i 0) (f (p.getD i 0))
theorem ai9 {d:Day}(f:Nat->Nat)(p:List Nat)(x:Nat->Rat)(z:Rat){i:Nat}(M:i<D p):mQ (D p) (d.uN f p i) (ext (D p) x z)=x i-(bF (D p) λk=>d.W f (p.getD k 0) (p.getD i 0)*x k)+(d.st f (p.getD i 0)-d.bD (p.getD i 0) (f (p.getD i 0)))*z:=by
 rw[Mn]
 congr 1
 ·have e:=y1 (n:=D p) (f:=λk=>if i=k then x k else 0) (j:=i) M λk _ O=>ah (Ne.symm O);rw[ad rfl] at e;rw[<-e,<-HR];refine kn λk O=>?_;unfold Day.uN;rw[ad O]
  split<;>grind
 ·unfold Day.uN;rw[ah (by omega)]
theorem Good.small {d:Day}{f:Nat->Nat}{P:Nat->Prop}(ba:Good d f P):¬ CT (c5 P d.n).length (d.uN f (c5 P d.n)):=by
 rintro⟨y,av,k,O,bG⟩
 have G:∀r,r<(c5 P d.n).length->y r=bF (c5 P d.n).length λk=>d.W f ((c5 P d.n).getD k 0) ((c5 P d.n).getD r 0)*y k:=λr ab=>by
  have:=av r ab;rw[ai9 f _ y _ ab] at this;grind
 have I:=ba.ai7 (x:=λi=>bF (c5 P d.n).length λk=>d.W f ((c5 P d.n).getD k 0) i*y k) (λi M=>by
  rw[<-Q2 P (λk=>d.W f k i*bF (c5 P d.n).length λk'=>d.W f ((c5 P d.n).getD k' 0) k*y k') d.n];exact kn λr ab=>by rw[G r ab]) ((c5 P d.n).getD k 0) (xC O).1
 refine bG ?_;rw[G k O];exact I
theorem Good.aja {d:Day}{f:Nat->Nat}{P:Nat->Prop}(ba:Good d f P):h0 (c5 P d.n).length (d.uN f (c5 P d.n)) (ext (c5 P d.n).length (λk=>d.fc f P ((c5 P d.n).getD k 0)-d.bD ((c5 P d.n).getD k 0) (f ((c5 P d.n).getD k 0))) (-1)):=by
 intro r ab;rw[ai9 f _ _ _ ab,Q2 P (λk=>d.W f k ((c5 P d.n).getD r 0)*(d.fc f P k-d.bD k (f k))) d.n];have:=ba.fc _ (xC ab).1;rw[ba.ok.Q1] at this;grind
theorem Good.ajb {d:Day}{f:Nat->Nat}{P:Nat->Prop}(ba:Good d f P){i:Nat}(M:i<d.n):d.fc f P i=d.st f i+bF (c5 P d.n).length λk=>d.W f ((c5 P d.n).getD k 0) i*(d.fc f P ((c5 P d.n).getD k 0)-d.bD ((c5 P d.n).getD k 0) (f ((c5 P d.n).getD k 0))):=by
 rw[Q2 P (λk=>d.W f k i*(d.fc f P k-d.bD k (f k))) d.n,<-ba.ok.Q1];exact ba.fc i M
theorem iC.good {d:Day}(aa:d.dt){f:Nat->Nat}{g:Nat->Rat}(M:Inv d f g){P:Nat->Prop}{h:Nat->Rat}(aE:iC d f g P h):Good d f P:=⟨aa,⟨g,M⟩,aE.gL,aE.QN⟩
theorem Good.none {d:Day}(aa:d.dt){f:Nat->Nat}{g:Nat->Rat}(M:Inv d f g):Good d f λ_=>False:=⟨aa,⟨g,M⟩,λ_ h=>h.elim,λ_ ⟨i,h⟩ cx=>(cx i h).elim⟩
theorem iC.first {d:Day}(aa:d.dt){f:Nat->Nat}{g:Nat->Rat}(M:Inv d f g):iC d f g (λ_=>False) (d.fc f λ_=>False):=iC.start aa M (Good.none aa M).fc
theorem iC.succ {d:Day}(aa:d.dt){f:Nat->Nat}{g:Nat->Rat}(M:Inv d f g){P:Nat->Prop}{h:Nat->Rat}(aE:iC d f g P h):iC d f g (s5 d f P h) (d.fc f (s5 d f P h)):=aE.next aa M (Good.fc ⟨aa,⟨g,M⟩,aE.HW,aE.ah4 aa M⟩)
def idle (d:Day)(P:Nat->Prop):Nat:=mS d.n λi=>if P i then 0 else 1
theorem ajc {d:Day}{f:Nat->Nat}{P:Nat->Prop}{h:Nat->Rat}{i:Nat}(M:i<d.n)(aJ:f i<10)(oj:d.bD i (f i)<h i)(gx:¬ P i):idle d (s5 d f P h)<idle d P:=by
 refine Zx (j:=i) (λj _=>?_) M ?_
 ·by_cases aj:P j
  ·have G:s5 d f P h j:=Or.inl aj;rw[ad G,ad aj];exact b0 _
  ·rw[ah aj];split<;>omega
 ·have G:s5 d f P h i:=Or.inr ⟨M,aJ,oj⟩;rw[ad G,ah gx];omega
theorem iC.top {d:Day}(aa:d.dt){f:Nat->Nat}{g:Nat->Rat}(M:Inv d f g):∀m (P:Nat->Prop) (h:Nat->Rat),idle d P<=m->iC d f g P h->∃h,nI d f h
 |m,P,h,hm,aE=>by
  by_cases X:∀i,i<d.n->f i<10->d.bD i (f i)<h i->P i
  ·exact⟨h,g,M,aE.stop aa M X,aE.le⟩
  ·have⟨i,G,I,af,aS⟩:∃i,i<d.n/\f i<10/\d.bD i (f i)<h i/\¬ P i:=by
    apply mc;intro aK;exact X λi G I af=>mc λaS=>aK ⟨i,G,I,af,aS⟩
   have az:=ajc (h:=h) G I af aS
   cases m with
   |zero=>omega
   |succ m=>exact iC.top aa M m _ _ (by omega) (aE.succ aa M)
theorem axr {d:Day}(aa:d.dt){f:Nat->Nat}(ab:Reach d f):∃h,nI d f h:=by
 obtain⟨g,M,-⟩:=ab;exact iC.top aa M _ _ _ (b0 _) (iC.first aa M)
theorem iC.ajd {d:Day}(aa:d.dt){f:Nat->Nat}{g:Nat->Rat}(M:Inv d f g){P:Nat->Prop}{h:Nat->Rat}(aE:iC d f g P h)(X:∀i,i<d.n->f i<10->d.bD i (f i)<h i->P i):∀i,i<d.n->h i=d.top f i :=
 have bz:nI d f h:=⟨g,M,aE.stop aa M X,aE.le⟩
 bz.unique aa (Day.CL ⟨h,bz⟩)
end Go.Mini
