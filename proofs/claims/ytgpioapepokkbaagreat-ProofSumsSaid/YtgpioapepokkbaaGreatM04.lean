/- A part of the proof. -/
import Derived.Test.YtgpioapepokkbaaGreatM03
set_option linter.unusedSimpArgs false
set_option linter.unusedVariables false
set_option maxRecDepth 100000
set_option maxHeartbeats 4000000
noncomputable section
open Bool renaming and_eq_true->e9,false_and->fB,false_eq_true->k0,not_eq_true'->uf,or_eq_true->x5,or_false->l3,true_and->g1
open Classical renaming byContradiction->mg,choose->tF,choose_spec->ph
open Decidable renaming em->dv
open Int renaming add_zero->wY,mul_ne_zero->z7,mul_zero->tT,natAbs_mul->qJ,natAbs_natCast->mR,one_mul->n6,zero_add->DZ,zero_mul->z0
open List renaming all_append->agY,any_eq_false->xj,append_assoc->gM,append_nil->fG,append_of_mem->ah6,cons_append->j1,drop->fX,drop_append->oN,drop_eq_getElem_cons->iu,drop_eq_nil_of_le->jV,drop_zero->l2,ext_getElem?->pM,filter_nil->qa,findIdx_getElem->air,findIdx_le_length->ahz,flatten_append->EG,flatten_cons->jP,getD_eq_getElem?_getD->dZ,getElem?_append_left->qq,getElem?_append_right->ri,getElem?_cons_zero->zu,getElem?_drop->lB,getElem?_eq_getElem->bu,getElem?_eq_none->mx,getElem?_eq_some_iff->dP,getElem?_inj->ag1,getElem?_map->bh,getElem?_range->tn,getElem?_set->nC,getElem?_zipIdx->YH,getElem_drop->LI,getElem_mem->np,length->D,length_append->fQ,length_cons->h8,length_drop->ry,length_map->ai,length_nil->k9,length_replicate->An,length_set->iY,length_take->gC,map->yH,mapM_cons->lz,map_append->kT,map_congr_left->m3,map_cons->eC,map_map->m4,map_nil->cS,map_replicate->HB,map_set->Ag,mem_append->js,mem_cons->hP,mem_cons_of_mem->hf,mem_cons_self->gF,mem_filter->sY,mem_iff_getElem?->tI,mem_map->dV,mem_map_of_mem->p9,mem_of_getElem?->eg,mem_of_mem_drop->K1,mem_or_eq_of_mem_set->Ex,mem_range->g2,mem_singleton->tU,nil_append->jv,range->dU,replicate->dD,replicate_append_replicate->Y2,replicate_succ->qs,set_append_right->EB,set_cons_succ->Hr,set_cons_zero->rN,set_set->aha,take->fM,take_add_one->hk,take_append_of_le_length->Cr,take_of_length_le->dx,zipWith->ZC,zipWith_cons_cons->ail,zip_cons_cons->aik
open List.cons renaming injEq->a6
open Nat renaming add_comm->zb,add_sub_cancel_left->Gf,add_zero->nX,eq_zero_or_pos->k6,exists_eq_add_of_le->ahG,gcd->jx,le_mul_of_pos_right->JS,le_of_eq->Al,le_refl->bX,le_trans->eQ,lt_or_ge->ir,mul_assoc->EL,mul_comm->rz,mul_le_mul->o1,mul_left_comm->aif,mul_one->cD,mul_pos->Mi,one_pos->Zz,pow_add->vZ,pow_le_pow_right->wZ,pow_succ->wJ,reduceEqDiff->dW,reduceLeDiff->ag9,sub_self->my,sub_zero->Ct,succ_mul->tp,zero_add->kH,zero_le->fs
open Option renaming map_eq_some_iff->dY,map_some->mB
open Option.some renaming inj->pN,injEq->cm
open Prod renaming ext->dQ,fst->B8
open Prod.mk renaming injEq->fo
open Rat renaming add_zero->p5,divInt->l9,divInt_eq_div->Ml,div_def->HG,intCast_add->uz,intCast_eq_zero_iff->aiw,intCast_mul->p7,intCast_natCast->oi,intCast_sub->CA,inv_pos->ahQ,le_refl->gi,le_trans->vY,mul_comm->uE,mul_eq_zero->ZH,mul_nonneg->ahP,mul_pos->L6,mul_zero->nF,neg_num->aiA,num_eq_zero->aii,one_mul->QW,zero_add->As,zero_den->aiQ,zero_mul->Cv,zero_num->aiR
namespace Go.Mini
open Go
def Yl:=cj w2 λ(s,l,s2,al)=>cN (D l<=1000000/\D al<=1000000) (.same (ez (hK (s,l) (s2,al))))
@[go_sem] theorem aLn (s:Int)(l:List Int)(s2:Int)(al:List Int)(G:(D l)<=1000000/\D al<=1000000):Yl [.agg [.int .i64 s,.X (l.map ad)],.agg [.int .i64 s2,.X (al.map ad)]]=some (.same (ez (hK (s,l) (s2,al)))):=(cu zY (s,l,s2,al)).trans (cT G _)
theorem auF (T:bb)(kd:T vq=aV Hj)(LA:T OG=aV Ye)(LB:T Uu=aV Yg)(LC:T OH=aV Yh)(s:Int)(l:List Int)(s2:Int)(al:List Int)(G:(D l)<=1000000/\D al<=1000000):WP T Yk (.same (ez (hK (s,l) (s2,al)))) [.I (.agg [.int .i64 s,.X (l.map ad)]),.I (.agg [.int .i64 s2,.X (al.map ad)])]:=by
 refine cv ?_;simp only[Yk];obtain⟨b5,cw⟩:=G
 by_cases aa:dB (s,l)=true
 ·by_cases bC:dB (s2,al)=true
  ·obtain⟨x,O,e⟩:=(j5 _).1 aa;obtain⟨y,ar,aB⟩:=(j5 _).1 bC
   by_cases ao:y=0
   ·have hm:hK (s,l) (s2,al)=(fj,15):=by
     unfold hK;rw[aa,bC,aB,fT,ab (by rfl),ab ao]
    rw[hm]
    cases e
    cases aB;have U:(y.sign==0)=true:=by rw[ao];rfl
    refine aY ?_;repeat' (intro h<;>simp only[h,go_sem,go_sem_proc,kd,LA,LB,LC,aa,bC,b5,cw,U,ez,aG,fj,cS]<;>try refine ax ?_ ?_)
   ·have main:∀p q:Int,p.natAbs<ea->q.natAbs<ea->0<q->∃g:Raw,l8 (bQ p) (bQ q)=(g,0)/\g.2.length<=1000000/\kN (bQ p) g=(bQ (l9 p q).num,bQ (p.fmod ((jx p.natAbs q.natAbs:Nat):Int)),0)/\kN (bQ q) g=(bQ (l9 p q).den,bQ (q.fmod ((jx p.natAbs q.natAbs:Nat):Int)),0):=by
     intro p q aF aO mK;have ma:=K8 aF aO;have Ek:((jx p.natAbs q.natAbs:Nat):Int).natAbs<ea:=by rw[mR];exact ma
     have Pj:=WQ (p:=p) (q:=q) (by omega);obtain⟨E,H⟩:=WO (p:=p) mK;refine⟨bQ ((jx p.natAbs q.natAbs:Nat):Int),?_,nz Ek,?_,?_⟩
     ·unfold l8;rw[lj aF,lj aO,fT,fT];rfl
     ·rw[D9 aF Ek (by omega),E]
     ·rw[D9 aO Ek (by omega),H]
    have qO:(y.sign==0)=false:=by simpa using ao
    rcases Int.lt_or_gt_of_ne ao with kM|ib
    ·have hJ:decide (y.sign<0)=true:=by rw[Int.sign_eq_neg_one_of_neg kM];rfl
     obtain⟨⟨cE,ck⟩,a9,ma,j3,mL⟩:=main (-x) (-y) (by omega) (by omega) (by omega)
     have hm:hK (s,l) (s2,al)=(aq (l9 (-x) (-y)),0):=by
      rw[e,aB,z3 O ar ao,Rat.neg_divInt_neg]
     rw[hm];have qo:j7 (s,l)=bQ (-x):=by unfold j7;rw[ab aa,e,fT]
     have xX:j7 (s2,al)=bQ (-y):=by unfold j7;rw[ab bC,aB,fT]
     have El:s2=y.sign:=congrArg B8 aB;have h0:(bQ (-x)).2.length<=1000000:=nz (by omega);have jM:(bQ (-y)).2.length<=1000000:=nz (by omega);clear e aB;unfold aq;generalize bQ (-x)=df at *;generalize bQ (-y)=gk at *;obtain⟨a7,b3⟩:=df;obtain⟨oR,oS⟩:=gk;rw[<-El] at qO hJ;refine aY ?_;repeat' (intro h<;>simp only[h,go_sem,go_sem_proc,kd,LA,LB,LC,aa,bC,b5,cw,qO,hJ,qo,xX,h0,jM,a9,ma,j3,mL,ez,aG,fU,hA,da]<;>try refine ax ?_ ?_)
    ·have hJ:decide (y.sign<0)=false:=by rw[Int.sign_eq_one_of_pos ib];rfl
     obtain⟨⟨cE,ck⟩,a9,ma,j3,mL⟩:=main x y O ar ib
     have hm:hK (s,l) (s2,al)=(aq (l9 x y),0):=by
      rw[e,aB,z3 O ar ao]
     rw[hm];have El:s2=y.sign:=congrArg B8 aB;rw[<-e] at a9 j3;rw[<-aB] at a9 mL;rw[<-El] at qO hJ;unfold aq;refine aY ?_;repeat' (intro h<;>simp only[h,go_sem,go_sem_proc,kd,LA,LB,LC,aa,bC,b5,cw,qO,hJ,a9,ma,j3,mL,ez,aG,fU,hA,da]<;>try refine ax ?_ ?_)
  ·have bC:dB (s2,al)=false:=by simpa using bC
   have hm:hK (s,l) (s2,al)=(fj,1):=by unfold hK;rw[bC,Bool.and_false];rfl
   rw[hm];refine aY ?_;repeat' (intro h<;>simp only[h,go_sem,go_sem_proc,kd,LA,LB,LC,aa,bC,b5,cw,ez,aG,fj,cS]<;>try refine ax ?_ ?_)
 ·have aa:dB (s,l)=false:=by simpa using aa
  have hm:hK (s,l) (s2,al)=(fj,1):=by unfold hK;rw[aa,fB];rfl
  rw[hm];refine aY ?_;repeat' (intro h<;>simp only[h,go_sem,go_sem_proc,kd,LA,LB,LC,aa,b5,cw,ez,aG,fj,cS]<;>try refine ax ?_ ?_)
def LD:=cj DV λ(p,q)=>cN (dA p/\dA q) (.same (ez (hK (bQ p) (bQ q))))
@[go_sem] theorem auG (p:Int)(q:Int)(G:dA p/\dA q):LD [.int .i64 p,.int .i64 q]=some (.same (ez (hK (bQ p) (bQ q)))):=(cu KO (p,q)).trans (cT G _)
theorem auH (T:bb)(auI:T OC=aV Yf)(auJ:T Um=aV Yl)(p:Int)(q:Int)(G:dA p/\dA q):WP T Yj (.same (ez (hK (bQ p) (bQ q)))) [.I (.int .i64 p),.I (.int .i64 q)]:=by
 refine cv ?_;simp only[Yj];obtain⟨E,H⟩:=G;have en:(bQ p).2.length<=1000000:=nz (yr E);have al:(bQ q).2.length<=1000000:=nz (yr H);generalize gv:bQ p=P at *;generalize e2:bQ q=aL at *;obtain⟨a7,b3⟩:=P;obtain⟨oR,oS⟩:=aL;refine aY ?_;repeat' (intro h<;>simp only[h,go_sem,go_sem_proc,auI,auJ,E,H,gv,e2,en,al,da,ez,aG]<;>try refine ax ?_ ?_)
def yC (f:bg)(n:Int):Bool:=decide ((f.1.2.length:Int)<=n)&&decide ((f.2.2.length:Int)<=n)
abbrev Ym:Int×(List Int)×Int×(List Int)×Int->List Data:=λ(s,l,s2,al,n)=>[.agg [.int .i64 s,.X (l.map ad),.int .i64 s2,.X (al.map ad)],.int .i64 n]
def Yn:=cj Ym λ(s,l,s2,al,n)=>some (.same (.bool (yC ((s,l),(s2,al)) n)))
theorem auK:∀a b,Ym a=Ym b->a=b:=by
  rintro⟨s1,en,BZ,B0,iw⟩ ⟨s2,al,B1,B2,jr⟩ h;simp only[a6,Data.agg.injEq,Data.int.injEq,Data.X.injEq] at h;exact dQ h.1.1.2 (dQ (map_inj fi _ _ h.1.2.1) (dQ h.1.2.2.1.2 (dQ (map_inj fi _ _ h.1.2.2.2.1) h.2.1.2)))
@[go_sem] theorem aLo (s:Int)(l:List Int)(s2:Int)(al:List Int)(n:Int):Yn [.agg [.int .i64 s,.X (l.map ad),.int .i64 s2,.X (al.map ad)],.int .i64 n]=some (.same (.bool (yC ((s,l),(s2,al)) n))):=cu auK (s,l,s2,al,n)
theorem auL (T:bb)  (s:Int) (l:List Int) (s2:Int) (al:List Int) (n:Int):WP T Yi (.same (.bool (yC ((s,l),(s2,al)) n))) [.I (.agg [.int .i64 s,.X (l.map ad),.int .i64 s2,.X (al.map ad)]),.I (.int .i64 n)]:=by
 refine cv ?_;simp only[Yi];unfold yC;rcases E:decide ((D l:Int)<=n)
 ·refine aY ?_;repeat' (intro h<;>simp only[h,go_sem,go_sem_proc,E,ai,fB]<;>try refine ax ?_ ?_)
 ·refine aY ?_;repeat' (intro h<;>simp only[h,go_sem,go_sem_proc,E,ai,g1]<;>try refine ax ?_ ?_)


theorem Yo {α:Type}{p:α->Bool}{l:List α}{i:Nat}{x:α}(O:l[i]?=some x):(l.take (i+1)).all p=((l.take i).all p&&p x):=by
 rw[hk,O,agY];simp
end Go.Mini
namespace Go.Mini
open Go
variable {P:Program} {A:Nat->Prop} {w aQ:World} {B bs:e5} {mem mem':Mem}
structure kR (P:Program) (f:FuncId) (eT:List Q->Mem->Option g8):Prop where
 real:Real P f
 run:∀args mem pf,eT args mem=some pf->∀A w B vs,fr A w B mem->dq w (cb A B) B args vs->TB P f vs A w B mem pf
def od (res:List oF)(bV:Q->Mem->Prop):eY->ba->Prop
 |.exit _,_=>False
 |.normal,st=>∃m,pK st res=some m/\bV m st.mem
 |.ret,st=>∃m,pK st res=some m/\bV m st.mem
@[go_sem] theorem aLp {res:List oF}{st:ba}(bV:Q->Mem->Prop)(id:Nat):od res bV (.exit id) st=False:=bw
@[go_sem] theorem aLq {res:List oF}{st:ba}(bV:Q->Mem->Prop):od res bV .normal st=∃m,pK st res=some m/\bV m st.mem:=bw
@[go_sem] theorem aLr {res:List oF}{st:ba}(bV:Q->Mem->Prop):od res bV .ret st=∃m,pK st res=some m/\bV m st.mem:=bw
theorem Qf {mf:bT}{bV:Q->Mem->Prop}{e:eY}{st:ba}(h:od mf.res bV e st):TR mf bV e st:=by
 cases e with
 |exit id=>exact h
 |normal=>exact h
 |ret=>exact h
theorem Qg {kb : Nat}{own : List Nat}{f : FuncId}{fn : Func}{mf : bT}(aK : P.funcs[f]? = some fn)(tE : (fn.name == "runtime.NumGoroutine") = false)(a0 : sg P kb own fn = some mf): Real P f := by
 cases ae:fn.body with
 |none=>simp[sg,ae] at a0
 |some c=>exact⟨fn,c,aK,ae,tE⟩
def py (aL:List Q->Mem->Option (Q->Mem->Prop))(args:List Q)(mem:Mem):Option g8:=(aL args mem).map .rel
@[go_sem] theorem aLs (aL:List Q->Mem->Option (Q->Mem->Prop))(args:List Q)(mem:Mem):py aL args mem=(aL args mem).map .rel:=bw
theorem Ev {T : bb}{kb : Nat}{own : List Nat}(cI : qx P T)(hm : P.follows .mixedOrders = true){f : FuncId}{fn : Func}{mf : bT}(aK : P.funcs[f]? = some fn)(tE : (fn.name == "runtime.NumGoroutine") = false)(a0 : sg P kb own fn = some { mf with body := erase mf.body })
  {aL:List Q->Mem->Option (Q->Mem->Prop)} (h:∀args mem bV,aL args mem=some bV->(D args)<=mf.n/\wp T mf.body (od mf.res bV) ⟨kr args,mem⟩):kR P f (py aL):=by
 refine⟨Qg aK tE a0,λargs mem pf iz A w B vs b0 ak=>?_⟩;unfold py at iz;rw[dY] at iz;obtain⟨bV,gf,rfl⟩:=iz;obtain⟨hlen,wF⟩:=h args mem bV gf;refine Calls.mono (F7 (Post:=bV) cI hm aK a0 hlen (λe st M=>Qf M) wF b0 ak) λe aQ he=>?_;obtain⟨v,m,mem',bs,rfl,U,lA,aF⟩:=he;exact⟨v,m,mem',bs,rfl,U,lA,aF⟩
inductive sI (c9:Key->Prop):Q->Prop
 |I {d:Data}:sI c9 (.I d)
 |nil:sI c9 .nil
 |ref {k g sz off len:Nat} (h:¬ c9 k):sI c9 (.ref k g sz off len)
 |ptr {k g off:Nat} (h:¬ c9 k):sI c9 (.ptr k g off)
 |fA {f:FuncId} {eP:List Q} (h:∀(i:Nat) (m:Q),eP[i]?=some m->sI c9 m):sI c9 (.fA f eP)
 |agg {cs:List Q} (h:∀(i:Nat) (m:Q),cs[i]?=some m->sI c9 m):sI c9 (.agg cs)
 |cH {cs:List Q} (h:∀(i:Nat) (m:Q),cs[i]?=some m->sI c9 m):sI c9 (.cH cs)
 |no:sI c9 .no
 |undef:sI c9 .undef
theorem clean_of {c9:Key->Prop}{aX:Nat->Prop}(ug:∀k,c9 k->B k=none){m:Q}{v:Value}(h:bq w aX B m v):sI c9 m:=by
 induction h with
 |I h=>exact .I
 |nil=>exact .nil
 |ref he a9 ak=>exact .ref λah=>by rw[ug _ ah] at he;cases he
 |ptr he a9 ak=>exact .ptr λah=>by rw[ug _ ah] at he;cases he
 |fA av Y aA=>exact .fA λi m J=>aA i m _ J (bu (by have az:=(dP.1 J).1;omega))
 |agg av Y aA=>exact .agg λi m J=>aA i m _ J (bu (by have az:=(dP.1 J).1;omega))
 |cH av Y aA=>exact .cH λi m J=>aA i m _ J (bu (by have az:=(dP.1 J).1;omega))
 |no=>exact .no
 |undef=>exact .undef
open Classical in
def sJ (c9:Key->Prop)(B:e5):e5:=λk=>if c9 k then none else B k
theorem Ew {c9:Key->Prop}{b:Nat}(h:r8 (sJ c9 B) b):r8 B b:=by
 obtain⟨k,e,he,ae⟩:=h;unfold sJ at he
 split at he
 ·cases he
 ·exact⟨k,e,he,ae⟩
theorem auM {c9:Key->Prop}{m:Q}{v:Value}(h:bq w (cb A B) B m v)(G:sI c9 m):bq w (cb A (sJ c9 B)) (sJ c9 B) m v:=by
 have at_:∀{k:Key} {e:mr},¬ c9 k->B k=some e->sJ c9 B k=some e:=λM he=>by unfold sJ;rw[ag M];exact he
 induction h with
 |I h=>exact .I (h.less λb ae=>ae.imp Ew id)
 |nil=>exact .nil
 |ref he a9 ak=>cases G with|ref M=>exact .ref (at_ M he) a9 ak
 |ptr he a9 ak=>cases G with|ptr M=>exact .ptr (at_ M he) a9 ak
 |fA av Y aA=>cases G with|fA G=>exact .fA av λi d v J ak=>aA i d v J ak (G i d J)
 |agg av Y aA=>cases G with|agg G=>exact .agg av λi d v J ak=>aA i d v J ak (G i d J)
 |cH av Y aA=>cases G with|cH G=>exact .cH av λi d v J ak=>aA i d v J ak (G i d J)
 |no=>exact .no
 |undef=>exact .undef
theorem eH.drop {c9:Key->Prop}{Qh:Mem}(ao:fr A w B mem)(ug:∀k,c9 k->mem k=none)(h:eH A w B aQ bs mem')(E:∀k,c9 k->Qh k=none)(H:∀k,¬ c9 k->Qh k=mem' k)
  (G:∀k g cs,Qh k=some (g,cs)->∀m∈cs,(∃d,m=.I d)\/∃fP Ds tw,mem fP=some (Ds,tw)/\m∈tw):eH A w B aQ (sJ c9 bs) Qh:=by
 have fW:∀k,c9 k->B k=none:=λk M=>ao.A2 k (ug k M);have at_:∀{k:Key},¬ c9 k->sJ c9 bs k=bs k:=λM=>by unfold sJ;rw[ag M]
 have Yp:∀{k:Key},c9 k->sJ c9 bs k=none:=λM=>by unfold sJ;rw[ab M]
 refine⟨⟨λk M=>?_,λk k' e e' b he gz ae kG=>?_,λb aM bL=>h.dT.sep b aM (Ew bL),h.dT.lt,λk g cs M=>?_⟩,⟨h.mZ.size,λb ae bL=>?_,λk e he=>?_⟩,h.aE,λb ae=>h.fresh b (Ew ae)⟩
 ·by_cases ah:c9 k
  ·exact Yp ah
  ·rw[at_ ah];exact h.dT.A2 k (by rw[<-H k ah];exact M)
 ·by_cases ah:c9 k
  ·rw[Yp ah] at he;cases he
  ·by_cases pL:c9 k'
   ·rw[Yp pL] at gz;cases gz
   ·rw[at_ ah] at he;rw[at_ pL] at gz;exact h.dT.inj k k' e e' b he gz ae kG
 ·by_cases ah:c9 k
  ·rw[E k ah] at M;cases M
  ·obtain⟨e,he,a9,aH,ae⟩:=h.dT.dz k g cs (by rw[<-H k ah];exact M);refine⟨e,by rw[at_ ah];exact he,a9,aH,λb jU=>?_⟩
   obtain⟨vs,T,aT,aW,hle,aa⟩:=ae b jU;refine⟨vs,T,aT,aW,hle,λi m J=>?_⟩;obtain⟨v,ak,ve⟩:=aa i m J;refine⟨v,ak,auM ve ?_⟩;rcases G k g cs M m (eg J) with ⟨d,rfl⟩|⟨fP,Ds,tw,k8,gp⟩
   ·exact .I
   ·obtain⟨bm,Ka,Pj,jF,sy⟩:=ao.dz fP Ds tw k8
    cases GA:bm.dz with
    |none=>rw[jF GA] at gp;cases gp
    |some sq =>
     obtain⟨aLt,aLu,_,_,_,pV⟩:=sy sq GA;obtain⟨i0,sw⟩:=tI.1 gp;obtain⟨v0,_,auN⟩:=pV i0 m sw;exact clean_of fW auN
 ·obtain⟨af,aP⟩:=h.mZ.Ji b ae bL;exact⟨af,λO=>aP (Ew O)⟩
 ·have ah:¬ c9 k:=λah=>by rw[fW k ah] at he;cases he
  rw[at_ ah];exact h.mZ.key k e he
def Ch (bz:List Q->Mem->Option (Data×Key×Nat×Nat×Data))(args:List Q)(mem:Mem):Option g8:=(bz args mem).map λx => .e6 x.1 x.2.1 x.2.2.1 x.2.2.2.1 (.I x.2.2.2.2)
@[go_sem] theorem aLv (bz:List Q->Mem->Option (Data×Key×Nat×Nat×Data))(args:List Q)(mem:Mem):Ch bz args mem=(bz args mem).map λx => .e6 x.1 x.2.1 x.2.2.1 x.2.2.2.1 (.I x.2.2.2.2):=bw
theorem auO {T : bb}{kb : Nat}{own : List Nat}(cI : qx P T)(hm : P.follows .mixedOrders = true){f : FuncId}{fn : Func}{mf : bT}(aK : P.funcs[f]? = some fn)(tE : (fn.name == "runtime.NumGoroutine") = false)(a0 : sg P kb own fn = some { mf with body := erase mf.body })
  (c9:Key->Prop) {bz:List Q->Mem->Option (Data×Key×Nat×Nat×Data)}
  (h:∀args mem r k g i d,bz args mem=some (r,k,g,i,d)->(D args)<=mf.n/\(∀j,c9 j->mem j=none)/\¬ c9 k/\(∃cs,mem k=some (g,cs)) /\
   wp T mf.body (od mf.res λm mem'=>cy 6 emp m=some r/\∀j,¬ c9 j->mem' j=a1 mem k g ((rb mem k).set i (.I d)) j) ⟨kr args,mem⟩):kR P f (Ch bz):=by
 refine⟨Qg aK tE a0,λargs mem pf iz A w B vs b0 ak=>?_⟩;unfold Ch at iz;rw[dY] at iz;obtain⟨⟨r,k,g,i,d⟩,oe,rfl⟩:=iz;obtain⟨hlen,ug,M,⟨cs,k1⟩,wF⟩:=h args mem r k g i d oe;refine Calls.mono (F7 (Post:=λm mem'=>cy 6 emp m=some r/\∀j,¬ c9 j->mem' j=a1 mem k g ((rb mem k).set i (.I d)) j) cI hm aK a0 hlen (λe st M=>Qf M) wF b0 ak) λe aQ he=>?_;obtain⟨v,m,mem',bs,rfl,U,lA,Y,gp⟩:=he;refine⟨v,sJ c9 bs,rfl,U.drop b0 ug (λj ah=>?_) (λj ah=>(gp j ah).symm) ?_,.I ((Oq 6 m v r Y lA).less λb ae=>ae.imp Ew id)⟩
 ·have:j≠k:=λe=>M (e ▸ ah);simp only[a1,this,if_false];exact ug j ah
 ·intro dd ck n1 H m nx
  by_cases fF:dd=k
  ·subst fF;simp only[a1,if_true,cm,fo] at H;obtain⟨-,rfl⟩:=H;rcases Ex nx with O|rfl
   ·refine .inr ⟨dd,g,cs,k1,?_⟩
    simpa [rb,k1] using O
   ·exact .inl ⟨d,rfl⟩
  ·simp only[a1,fF,if_false] at H;exact .inr ⟨dd,ck,n1,H,nx⟩
def Yq:Option g8->Option g8->Option g8
 |some x,_=>some x
 |none,e=>e
@[go_sem] theorem aLw (x:g8)(e:Option g8):Yq (some x) e=some x:=bw
@[go_sem] theorem aLx (e:Option g8):Yq none e=e:=bw
def xf (l1:FuncId->Option (List Data->Option eJ))(sK:FuncId->Option (List Q->Mem->Option g8)):bb:=λf args mem=>match sK f with
 |some eT=>Yq (eT args mem) (Bq l1 f args mem)
 |none=>Bq l1 f args mem
theorem rL {l1:FuncId->Option (List Data->Option eJ)}{sK:FuncId->Option (List Q->Mem->Option g8)}(h:∀f aS,l1 f=some aS->tD P f aS)(aa:∀f eT,sK f=some eT->kR P f eT):qx P (xf l1 sK):=by
 intro f args mem pf cI;unfold xf at cI
 split at cI
 ·rename_i eT iz;have U:=aa f eT iz
  cases O:eT args mem with
  |none =>
   rw[O] at cI;exact aey h f args mem pf cI
  |some y =>
   rw[O] at cI
   cases cI;exact⟨U.real,λA w B vs b0 ak=>U.run args mem pf O A w B vs b0 ak⟩
 ·exact aey h f args mem pf cI
theorem Kk.agZ {f:FuncId}{bN:List Q->Mem->Option (Q×Mem)}(h:Kk P f bN):kR P f (Bt bN):=by
 refine⟨h.real,λargs mem pf iz A w B vs b0 ak=>?_⟩;unfold Bt at iz;rw[dY] at iz;obtain⟨x,O,rfl⟩:=iz;exact h.run args mem x O A w B vs b0 ak
section
variable {l1:FuncId->Option (List Data->Option eJ)} {sK:FuncId->Option (List Q->Mem->Option g8)} {f:FuncId}
theorem nB {aS:List Data->Option eJ}(h:sK f=none)(cn:l1 f=some aS):xf l1 sK f=aV aS:=by
 funext args mem
 unfold xf;rw[h];exact congrFun (congrFun (aeA cn) args) mem
theorem uh {eT:List Q->Mem->Option g8}(h:sK f=some eT)(cn:l1 f=none):xf l1 sK f=eT:=by
 funext args mem
 unfold xf Bq;rw[h,cn];dsimp only
 cases eT args mem<;>rfl
theorem Hk {aS:List Data->Option eJ}{bN:List Q->Mem->Option (Q×Mem)}(h:sK f=some (Bt bN))(cn:l1 f=some aS):xf l1 sK f=zC aS bN:=by
 funext args mem
 unfold xf;rw[h];unfold zC Bt;rw[show Bq l1 f args mem=aV aS args mem from congrFun (congrFun (aeA cn) args) mem];dsimp only
 cases bN args mem<;>rfl
end
def Qi (l:List (FuncId×(List Q->Mem->Option g8))):FuncId->Option (List Q->Mem->Option g8):=λf=>(l.find? λp=>p.1==f).map (·.2)
theorem rM {l:List (FuncId×(List Q->Mem->Option g8))}(h:∀p∈l,kR P p.1 p.2):∀f bN,Qi l f=some bN->kR P f bN:=by
 intro f aS aK;unfold Qi at aK;rw[dY] at aK;obtain⟨p,aF,rfl⟩:=aK;have E:=List.mem_of_find?_eq_some aF;have H:=List.find?_some aF;have af:p.1=f:=by simpa using H
 exact af ▸ h p E
theorem lN:∀p∈([]:List (FuncId×(List Q->Mem->Option g8))),kR P p.1 p.2:=by simp
theorem oY {f:FuncId}{aS:List Q->Mem->Option g8}{l:List (FuncId×(List Q->Mem->Option g8))}(h:kR P f aS)(av:∀p∈l,kR P p.1 p.2):∀p∈(f,aS)::l,kR P p.1 p.2:=by
 intro p aF;rcases hP.1 aF with rfl|aF
 ·exact h
 ·exact av p aF
open Classical in
def ui {α:Type}(bd:α->List Q->Mem->Prop)(bV:α->Mem->Q->Mem->Prop):List Q->Mem->Option (Q->Mem->Prop):=λargs mem=>if h:∃a,bd a args mem then some (bV (tF h) mem) else none
theorem LF {α:Type}{bd:α->List Q->Mem->Prop}{bV:α->Mem->Q->Mem->Prop}(uniq:∀a b args mem,bd a args mem->bd b args mem->a=b){a:α}{args:List Q}{mem:Mem}(h:bd a args mem):ui bd bV args mem=some (bV a mem):=by
 have O:∃b,bd b args mem:=⟨a,h⟩;unfold ui;rw[dif_pos O,uniq _ _ _ _ (ph O) h]
theorem Ey {α:Type}{bd:α->List Q->Mem->Prop}{bV:α->Mem->Q->Mem->Prop}{args:List Q}{mem:Mem}{x:Q->Mem->Prop}(h:ui bd bV args mem=some x):∃a,bd a args mem/\x=bV a mem:=by
 unfold ui at h
 split at h
 ·rename_i O;exact⟨_,ph O,(pN h).symm⟩
 ·cases h
end Go.Mini
namespace Go.Mini
open Go
def Qj:=cj Ej λ(s,l,s2,al)=>some (.same (.bool (s==0)))
@[go_sem] theorem aLy (s:Int)(l:List Int)(s2:Int)(al:List Int):Qj [.agg [.int .i64 s,.X (l.map ad),.int .i64 s2,.X (al.map ad)]]=some (.same (.bool (s==0))):=cu Lf (s,l,s2,al)
theorem LG (T:bb)  (s:Int) (l:List Int) (s2:Int) (al:List Int):WP T Xa (.same (.bool (s==0))) [.I (.agg [.int .i64 s,.X (l.map ad),.int .i64 s2,.X (al.map ad)])]:=by
 refine cv ?_;simp only[Xa];refine aY ?_;repeat' (intro h<;>simp only[h,go_sem,go_sem_proc]<;>try refine ax ?_ ?_)
def Ae (args:List Q)(mem:Mem):Option (Data×Key×Nat×Nat×Data) :=
 match args with
 | [.ptr k g 0,.I (.agg [.int .i64 s,.X l,.int .i64 s2,.X al]),.I (.int .i64 e)]=>match mem k,mem 168004,mem 168006 with
  |some (c0,[_,_,.I (.bool c)]),none,none=>if c0=g/\k≠168004/\k≠168006 then some (.agg [.int .i64 s,.X l,.int .i64 s2,.X al],k,g,2,.bool (c||e != 0)) else none
  |_,_,_=>none
 |_=>none
def Qk (j:Key):Prop:=j=168004\/j=168006
theorem auP (T:bb)(args:List Q)(mem:Mem)(r:Data)(k g i:Nat)(d:Data)(h:Ae args mem=some (r,k,g,i,d)):
  (D args)<=19/\(∀j,Qk j->mem j=none)/\¬ Qk k/\(∃cs,mem k=some (g,cs)) /\
   wp T P0.body (od P0.res λm mem'=>cy 6 emp m=some r/\∀j,¬ Qk j->mem' j=a1 mem k g ((rb mem k).set i (.I d)) j) ⟨kr args,mem⟩:=by
 unfold Ae at h
 split at h
 ·rename_i fP Ds s l s2 al e
  split at h
  ·rename_i cE a b c hm aP bU
   split at h
   ·rename_i a9;obtain⟨rfl,sL,LH⟩:=a9;simp only[cm,fo] at h;obtain⟨rfl,rfl,rfl,rfl,rfl⟩:=h;refine⟨by simp,?_,?_,⟨_,hm⟩,?_⟩
    ·rintro j (rfl|rfl)
     ·exact aP
     ·exact bU
    ·rintro (h|h)
     ·exact sL h
     ·exact LH h
    ·have iM:∀x:Bool,rb mem fP=[a,b,.I (.bool c)]:=λ_=>by simp only[rb,hm]
     have Ql:(fP=168004)=False:=eq_false sL;have Qm:(fP=168006)=False:=eq_false LH;have Qn:(168004=fP)=False:=eq_false (Ne.symm sL);have Qo:(168006=fP)=False:=eq_false (Ne.symm LH);refine qv ?_;simp only[P0]
     cases c
     ·simp only[go_sem,go_sem_proc,hm,aP,bU,Ql,Qm,Qn,Qo];repeat' (first|refine ax ?_ ?_|fail)<;>intro h<;>simp only[h,go_sem,go_sem_proc,hm,aP,bU,Ql,Qm,Qn,Qo]
      refine⟨_,rfl,by first|rfl|simp[go_sem,cy],λj ah=>?_⟩
      have Qp:j≠168004:=λh=>ah (.inl h);have Ci:j≠168006:=λh=>ah (.inr h)
      by_cases dX:j=fP<;>simp[a1,rb,hm,Qp,Ci,dX,sL,LH,bne]
     ·simp only[go_sem,go_sem_proc,hm,aP,bU,Ql,Qm,Qn,Qo];repeat' (first|refine ax ?_ ?_|fail)<;>intro h<;>simp only[h,go_sem,go_sem_proc,hm,aP,bU,Ql,Qm,Qn,Qo]
      refine⟨_,rfl,by first|rfl|simp[go_sem,cy],λj ah=>?_⟩
      have Qp:j≠168004:=λh=>ah (.inl h);have Ci:j≠168006:=λh=>ah (.inr h)
      by_cases dX:j=fP<;>simp[a1,rb,hm,Qp,Ci,dX,sL,LH,bne]
   ·cases h
  ·cases h
 ·cases h
abbrev dt:=Nat×Nat×List bg
def refsOf (N:Nat)(rows:List dt):List Q:=rows.map λx => .ref (x.1+900000) x.2.1 4 0 (N+1)
structure Af (go N:Nat) (rows:List dt) (bad:Bool) (mem:Mem):Prop where
 m:mem 129015=some (0,[.ref 129035 go 1 0 N,.I (.int .i64 N),.I (.bool bad)])
 o:mem 129035=some (go,refsOf N rows)
 r:∀x∈rows,mem (x.1+900000)=some (x.2.1,a8 aG x.2.2)
structure ke (N:Nat) (rows:List dt):Prop where
 len:(D rows)=N
 Qq:(rows.map (·.1)).Nodup
 row:∀x∈rows,x.2.2.length=N+1/\∀f∈x.2.2,okF f
def Hl (k:Nat):Prop:=k<900000/\k≠129015/\k≠129035/\k≠148008/\k≠148010/\k≠148013
def h3 (eD:Mem)(go N:Nat)(rows:List dt)(bad:Bool)(mem:Mem):Prop:=Af go N rows bad mem/\∀k,Hl k->mem k=eD k
section
variable {eD mem:Mem} {go N:Nat} {rows:List dt} {mb:Bool}
theorem h3.flag (b:Bool)(h:h3 eD go N rows mb mem):h3 eD go N rows b (a1 mem 129015 0 [.ref 129035 go 1 0 N,.I (.int .i64 N),.I (.bool b)]):=by
 refine⟨⟨by simp[a1],by simp[a1,h.1.o],λx O=>?_⟩,λk M=>?_⟩
 ·rw[<-h.1.r x O];exact ag (show ¬ ((x.1+900000:Nat)=129015) by omega)
 ·rw[<-h.2 k M];exact ag M.2.1
theorem h3.own {k g:Nat}{cs:List Q}(M:k=148008\/k=148010\/k=148013)(h:h3 eD go N rows mb mem):h3 eD go N rows mb (a1 mem k g cs):=by
 have bI:∀j:Nat,j≠k->a1 mem k g cs j=mem j:=λj ah=>ag ah;refine⟨⟨by rw[bI _ (by omega)];exact h.1.m,by rw[bI _ (by omega)];exact h.1.o,λx O=>by rw[bI _ (by omega)];exact h.1.r x O⟩,λj ah=>?_⟩
 have:=ah.2;rw[bI _ (by omega)];exact h.2 j ah
theorem h3.set {i:Nat}{x:dt}(cR:ke N rows)(J:rows[i]?=some x)(l:List bg)(h:h3 eD go N rows mb mem):h3 eD go N (rows.set i (x.1,x.2.1,l)) mb (a1 mem (x.1+900000) x.2.1 (a8 aG l)):=by
 have bI:∀j:Nat,j≠x.1+900000->a1 mem (x.1+900000) x.2.1 (a8 aG l) j=mem j:=λj ah=>ag ah;obtain⟨az,ag0⟩:=dP.1 J;refine⟨⟨by rw[bI _ (by omega)];exact h.1.m,?_,λy ar=>?_⟩,λj ah=>?_⟩
 ·rw[bI _ (by omega),h.1.o]
  congr 2
  unfold refsOf;apply pM;intro j;rw[bh,bh,nC]
  by_cases mF:i=j
  ·subst mF;rw[ab rfl,ab az,J]
   rfl
  ·rw[ag mF]
 ·obtain⟨j,ah⟩:=tI.1 ar;rw[nC] at ah
  by_cases mF:i=j
  ·subst mF;rw[ab rfl,ab az] at ah
   cases ah;simp[a1]
  ·rw[ag mF] at ah
   have aLz:y.1≠x.1:=by
    intro he;have E:(rows.map (·.1))[j]?=some y.1:=by rw[bh,ah];rfl
    have H:(rows.map (·.1))[i]?=some y.1:=by rw[bh,J,he];rfl
    have av:i<(rows.map (·.1)).length:=by rw[ai];exact az
    exact mF ((ag1 av cR.Qq).1 (H.trans E.symm))
   rw[bI (y.1+900000) (by omega)];exact h.1.r y (eg ah)
 ·have:=ah.1;rw[bI j (by omega)];exact h.2 j ah
theorem h3.swap {i j:Nat}{a b:dt}(J:rows[i]?=some a)(ah:rows[j]?=some b)(h:h3 eD go N rows mb mem):h3 eD go N ((rows.set i b).set j a) mb (a1 (a1 mem 129035 go (refsOf N (rows.set i b))) 129035 go (refsOf N ((rows.set i b).set j a))):=by
 have bI:∀k:Nat,k≠129035->a1 (a1 mem 129035 go (refsOf N (rows.set i b))) 129035 go (refsOf N ((rows.set i b).set j a)) k=mem k:=λk M=>by simp[a1,M]
 refine⟨⟨by rw[bI _ (by omega)];exact h.1.m,by simp[a1],λx O=>?_⟩,λk M=>?_⟩
 ·rw[bI _ (by omega)];apply h.1.r;rcases Ex O with O|rfl
  ·rcases Ex O with O|rfl
   ·exact O
   ·exact eg ah
  ·exact eg J
 ·rw[bI _ M.2.2.1];exact h.2 k M
theorem ke.set {i:Nat}{x:dt}(cR:ke N rows)(J:rows[i]?=some x){l:List bg}(av:(D l)=N+1)(aK:∀f∈l,okF f):ke N (rows.set i (x.1,x.2.1,l)):=by
 obtain⟨az,ag0⟩:=dP.1 J;refine⟨by rw[iY];exact cR.len,?_,λy ar=>?_⟩
 ·have:(rows.set i (x.1,x.2.1,l)).map (·.1)=rows.map (·.1):=by
   rw[Ag];apply pM;intro j;rw[nC]
   by_cases mF:i=j
   ·subst mF;rw[ab rfl,ai,ab az,bh,J];rfl
   ·rw[ag mF]
  rw[this];exact cR.Qq
 ·rcases Ex ar with ar|rfl
  ·exact cR.row y ar
  ·exact⟨av,aK⟩
theorem auQ {α:Type}{l:List α}{i j:Nat}{a b:α}(J:l[i]?=some a)(ah:l[j]?=some b)(h:l.Nodup):((l.set i b).set j a).Nodup:=by
 obtain⟨iP,sM⟩:=dP.1 J;obtain⟨jm,N0⟩:=dP.1 ah
 have main:∀p q,p<q->q<(D l)->((l.set i b).set j a)[p]?≠((l.set i b).set j a)[q]?:=by
  intro p q Qr aO;rw[nC,nC,nC,nC];have inj:∀p q,p<(D l)->l[p]?=l[q]?->p=q:=λp q aF he=>(ag1 aF h).1 he;simp only[iY]
  by_cases E:j=p
  ·subst E;have H:¬ j=q:=by omega
   rw[ab rfl,ab jm,ag H]
   by_cases af:i=q
   ·subst af;rw[ab rfl,ab iP];intro he;rw[<-J,<-ah] at he;have:=inj _ _ iP he;omega
   ·rw[ag af,<-J];intro he;exact af (inj _ _ iP he)
  ·rw[ag E]
   by_cases af:i=p
   ·subst af;rw[ab rfl,ab iP]
    by_cases H:j=q
    ·subst H;rw[ab rfl,ab jm,<-J,<-ah];intro he;have:=inj _ _ jm he;omega
    ·rw[ag H,ag (by omega),<-ah];intro he;exact H (inj _ _ jm he)
   ·rw[ag af]
    by_cases H:j=q
    ·subst H;rw[ab rfl,ab jm,<-J];intro he;exact af (inj _ _ iP he.symm)
    ·rw[ag H]
     by_cases aP:i=q
     ·subst aP;rw[ab rfl,ab iP,<-ah];intro he;exact E (inj _ _ jm he.symm)
     ·rw[ag aP];intro he;have:=inj _ _ (by omega) he;omega
 refine List.pairwise_iff_getElem.2 λp q aF aO Qr he=>?_;simp only[iY] at aF aO;refine main p q Qr aO ?_;rw[bu (by simpa using aF),bu (by simpa using aO),he]
theorem ke.swap {i j:Nat}{a b:dt}(cR:ke N rows)(J:rows[i]?=some a)(ah:rows[j]?=some b):ke N ((rows.set i b).set j a):=by
 refine⟨by rw[iY,iY];exact cR.len,?_,λx O=>?_⟩
 ·rw[Ag,Ag];exact auQ (by rw[bh,J];rfl) (by rw[bh,ah];rfl) cR.Qq
 ·rcases Ex O with O|rfl
  ·rcases Ex O with O|rfl
   ·exact cR.row x O
   ·exact cR.row _ (eg ah)
  ·exact cR.row _ (eg J)
end
theorem auR {l:List bg}{i:Nat}{a b c d}(h:l[i]?=some ((a,b),(c,d))):cut (a8 aG l) (i*4) 4=some [.I (.int .i64 a),.I (.X (b.map ad)),.I (.int .i64 c),.I (.X (d.map ad))]:=by
 have:=TZ nA h (f:=0) (n:=4) (by omega);rw[nX] at this;rw[this]
 rfl
theorem auS {N:Nat}{rows:List dt}{i:Nat}{x:dt}(h:rows[i]?=some x):cut (refsOf N rows) i 1=some [.ref (x.1+900000) x.2.1 4 0 (N+1)]:=by
 obtain⟨az,rfl⟩:=dP.1 h;unfold cut refsOf;rw[ab (by rw[ai];omega),<-List.map_drop,iu az]
 rfl
theorem auT {l m:List bg}(h:a8 aG l=a8 aG m):l=m:=VC nA nb _ _ h (by omega)
def nD (f:bg):Bool:=f.1.1==0
def cellOf (x:dt)(c:Nat):bg:=x.2.2.getD c fj
def findAt (rows:List dt)(r c:Nat):Nat:=r+(rows.drop r).findIdx λx => !nD (cellOf x c)
def jy (fD:bg):List bg->List bg->Bool->List bg×Bool
 |f::dI,p::ps,false=>((oW f (oa fD p).1).1::(jy fD dI ps ((oa fD p).2 != 0||(oW f (oa fD p).1).2 != 0)).1,(jy fD dI ps ((oa fD p).2 != 0||(oW f (oa fD p).1).2 != 0)).2)
 |dI,_,b=>(dI,b)
def kf (ga:List bg)(r c:Nat):Nat->List dt->Bool->List dt×Bool
 |_,[],bad=>([],bad)
 |i,x::xs,bad=>if (i==r||nD (cellOf x c))=true then (x::(kf ga r c (i+1) xs bad).1,(kf ga r c (i+1) xs bad).2) else
  ((x.1,x.2.1,(jy (cellOf x c) x.2.2 ga bad).1)::(kf ga r c (i+1) xs (jy (cellOf x c) x.2.2 ga bad).2).1,(kf ga r c (i+1) xs (jy (cellOf x c) x.2.2 ga bad).2).2)
def h4 (Lp:bg)(l:List bg):List bg×Bool:=(l.map λf=>(j8 f Lp).1,l.any λf=>(j8 f Lp).2 != 0)
def rowAt (rows:List dt)(i:Nat):dt:=rows.getD i (0,0,[])
def qS (rows:List dt)(i j:Nat):List dt:=(rows.set i (rowAt rows j)).set j (rowAt rows i)
def Ez (rows:List dt)(r c:Nat):List dt:=rows.set r ((rowAt rows r).1,(rowAt rows r).2.1,(h4 (cellOf (rowAt rows r) c) (rowAt rows r).2.2).1)
def iR (rows:List dt)(r c:Nat):Bool×List dt×Bool :=
 if findAt rows r c=(D rows) then (true,rows,false) else
  (false,kf (h4 (cellOf (rowAt (qS rows r (findAt rows r c)) r) c) (rowAt (qS rows r (findAt rows r c)) r).2.2).1 r c 0 (Ez (qS rows r (findAt rows r c)) r c)
   (h4 (cellOf (rowAt (qS rows r (findAt rows r c)) r) c) (rowAt (qS rows r (findAt rows r c)) r).2.2).2)
theorem auU {rows:List dt}{r c i:Nat}{x:dt}(O:rows[i]?=some x)(aa:r<=i)(aW:∀j y,r<=j->j<i->rows[j]?=some y->nD (cellOf y c)=true)(h:nD (cellOf x c)=false):findAt rows r c=i:=by
 unfold findAt;obtain⟨az,ag0⟩:=dP.1 O
 have:(rows.drop r).findIdx (λx => !nD (cellOf x c))=i-r:=by
  rw[List.findIdx_eq (by rw[ry];omega)];refine⟨?_,λj ah=>?_⟩
  ·rw[LI];have:rows[r+(i-r)]?=some x:=by rw[show r+(i-r)=i by omega];exact O
   rw[(dP.1 this).2,h];rfl
  ·rw[LI];have:=aW (r+j) _ (by omega) (by omega) (bu (by omega));rw[this];rfl
 omega
theorem auV {rows:List dt}{r c:Nat}(aa:r<=D rows)(aW:∀j y,r<=j->rows[j]?=some y->nD (cellOf y c)=true):findAt rows r c=D rows:=by
 unfold findAt
 have:(rows.drop r).findIdx (λx => !nD (cellOf x c))=(rows.drop r).length:=by
  rw[List.findIdx_eq_length];intro y ar;obtain⟨j,ah⟩:=tI.1 ar;rw[lB] at ah;rw[aW (r+j) y (by omega) ah];rfl
 rw[this,ry];omega
theorem kS {x:Rat}(h:dg x):okF (aq x):=⟨nz h.1,nz (w6 h)⟩
theorem uj:okF fj:=⟨by simp[fj],by simp[fj]⟩
theorem auW (p q:Raw):okF (hK p q).1:=by
 unfold hK
 split
 ·rename_i h;rw[e9] at h;obtain⟨x,O,ay⟩:=(j5 _).1 h.1;obtain⟨y,ar,aB⟩:=(j5 _).1 h.2
  split
  ·exact uj
  ·rw[ay,aB,fT,fT];exact kS (PT O ar)
 ·exact uj
theorem Yr (p q:Raw×Int):okF (vL p q).1:=by
 unfold vL
 split
 ·split
  ·exact auW _ _
  ·exact uj
 ·exact uj
theorem auX (a b:bg):okF (vM a b).1:=by
 unfold vM
 split
 ·split
  ·exact Yr _ _
  ·exact uj
 ·exact uj
theorem ag2 (a b:bg):okF (oW a b).1:=by
 unfold oW
 split
 ·split
  ·exact auX _ _
  ·exact uj
 ·exact uj
theorem auY (a b:bg):okF (oa a b).1:=by
 unfold oa
 split
 ·split
  ·exact Yr _ _
  ·exact uj
 ·exact uj
theorem ag3 (a b:bg):okF (j8 a b).1:=by
 unfold j8
 split
 ·split
  ·split
   ·exact uj
   ·exact Yr _ _
  ·exact uj
 ·exact uj
theorem Ys {x:dt}{c:Nat}{f:bg}(h:x.2.2[c]?=some f):cellOf x c=f:=by
 unfold cellOf;rw[dZ,h]
 rfl
theorem xg {rows:List dt}{i:Nat}{x:dt}(h:rows[i]?=some x):rowAt rows i=x:=by
 unfold rowAt;rw[dZ,h]
 rfl
theorem Hm {l:List bg}{k:Nat}(h:k<D l):(k*4+4<=(a8 aG l).length)=True:=eq_true (by rw[oM nA];omega)
theorem Hn {l:List bg}{k:Nat}{a b c d}(h:l[k]?=some ((a,b),(c,d))):fM 4 (fX (k*4) (a8 aG l))=[.I (.int .i64 a),.I (.X (b.map ad)),.I (.int .i64 c),.I (.X (d.map ad))]:=by
 have:=auR h;unfold cut at this;rw[ab (by rw[oM nA];have:=(dP.1 h).1;omega)] at this;exact pN this
theorem Yt {l:List bg}{k:Nat}(h:k<D l)(a:Int)(b:List Int)(c:Int)(d:List Int):
  fM (k*4) (a8 aG l)++[Q.I (.int .i64 a),.I (.X (b.map ad)),.I (.int .i64 c),.I (.X (d.map ad))]++fX (k*4+4) (a8 aG l)=a8 aG (l.set k ((a,b),(c,d))):=by
 rw[<-aeC nA h]
 rfl
theorem EA {N:Nat}{rows:List dt}{i:Nat}(h:i<D rows):(i+1<=(refsOf N rows).length)=True:=eq_true (by unfold refsOf;rw[ai];omega)
theorem Ho {N:Nat}{rows:List dt}{i:Nat}{x:dt}(h:rows[i]?=some x):fM 1 (fX i (refsOf N rows))=[.ref (x.1+900000) x.2.1 4 0 (N+1)]:=by
 have:=auS (N:=N) h;unfold cut at this;rw[ab (by unfold refsOf;rw[ai];have:=(dP.1 h).1;omega)] at this;exact pN this
theorem ag4 {N:Nat}{rows:List dt}{i:Nat}(h:i<D rows)(b:dt):fM i (refsOf N rows)++[Q.ref (b.1+900000) b.2.1 4 0 (N+1)]++fX (i+1) (refsOf N rows)=refsOf N (rows.set i b):=by
 unfold refsOf;rw[Ag,List.set_eq_take_append_cons_drop,ab (by rw[ai];exact h),gM]
 rfl
theorem ag5 (fD:bg):∀(l p:List bg) (b:Bool),(jy fD l p b).1.length=D l
 | [],_,_=>by simp[jy]
 |f::dI,[],b=>by cases b<;>simp[jy]
 |f::dI,p::ps,true=>by simp[jy]
 |f::dI,p::ps,false=>by simp[jy,ag5 fD dI ps]
theorem Yu (fD:bg)(l p:List bg):jy fD l p true=(l,true):=by
 cases l<;>cases p<;>simp[jy]
theorem ag6 (fD:bg)(p:List bg)(b:Bool):jy fD [] p b=([],b):=by
 cases b<;>simp[jy]
theorem auZ {α:Type}(f:α->α){l:List α}{k:Nat}{x:α}(h:l[k]?=some x):((l.take k).map f++l.drop k).set k (f x)=(l.take (k+1)).map f++l.drop (k+1):=by
 obtain⟨az,O⟩:=dP.1 h;have av:((l.take k).map f).length=k:=by rw[ai,gC];omega
 rw[EB _ _ (by omega),av,my,iu az,rN,hk,h,kT,gM]
 rfl
theorem au0 {α:Type}(f:α->α){l:List α}{k:Nat}:((l.take k).map f++l.drop k)[k]?=l[k]?:=by
 rcases ir k (D l) with h|h
 ·have av:((l.take k).map f).length=k:=by rw[ai,gC];omega
  rw[ri (by omega),av,my,lB,nX]
 ·rw[mx h,mx (by rw[fQ,ai,gC,ry];omega)]
theorem Yv {α:Type}{rows:List α}{r i:Nat}{x xh:α}(O:rows[i]?=some x)(pz:rows[r]?=some xh):((rows.set r x).set i xh)[r]?=some x:=by
 have E:=(dP.1 O).1;have H:=(dP.1 pz).1;rw[nC,nC,iY]
 by_cases h:i=r
 ·subst h;rw[O] at pz
  cases pz;rw[ab rfl,ab E]
 ·rw[ag h,ab rfl,ab H]
theorem Yw {α:Type}{l:List α}{i:Nat}{x:α}(h:l[i]?=some x):l.set i x=l:=by
 obtain⟨az,O⟩:=dP.1 h;apply pM;intro j;rw[nC]
 by_cases mF:i=j
 ·subst mF;rw[ab rfl,ab az,h]
 ·rw[ag mF]
theorem au1 (a b:Nat):(!(a+900000==129015)||decide (2<b*4))=true:=by
 have:(a+900000==129015)=false:=by simp
 rw[this];rfl
theorem Yx:Hl 168004:=by unfold Hl;omega
theorem Yy:Hl 168006:=by unfold Hl;omega
def eA.sub:eA->List Nat->eA
 |.seq a _,0::p=>a.sub p
 |.seq _ b,_::p=>b.sub p
 |.cond _ a _,0::p=>a.sub p
 |.cond _ _ b,_::p=>b.sub p
 |.block _ c,_::p=>c.sub p
 |.ghost _ c,_::p=>c.sub p
 |.loop c,_::p=>c.sub p
 |c,_=>c
def au2 (f:bg):List Q:=[.I (.int .i64 f.1.1),.I (.X (f.1.2.map ad)),.I (.int .i64 f.2.1),.I (.X (f.2.2.map ad))]
theorem au3 (T:bb)(xi:T Bz=Ch Ae)(eW:T vm=aV w8)(mc:T wK=aV yw){K:eY->ba->Prop}{kk:List gD}
  (go N r c i2:Nat) (mem:Mem) (Cj:mem 168004=none) (Ck:mem 168006=none) (gG:N<=40) (qT:List dt) (sN:ke N qT) (x y:dt) (ga:List bg) (yD:qT[i2]?=some y) (bC:qT[r]?=some (x.1,x.2.1,ga)) (EC:i2≠r) (uk:r<N) (mb:Bool)
  (cE:Int) (ck:List Int) (hj:Int) (kg:List Int) (ma:okF ((cE,ck),(hj,kg))) (tm:Nat->Q) (m:Mem) (bN:Nat)
  (bm:tm 0=.ptr 129015 0 0) (ay:tm 1=.I (.int .i64 r)) (aB:tm 2=.I (.int .i64 c)) (eh:tm 12=.ref (y.1+900000) y.2.1 4 0 (N+1)) (ie:tm 13=.ptr 148013 bN 0) (p1:tm 112=.ref 129035 go 1 0 N) (LJ:tm 113=.I (.int .i64 N)) (LK:tm 114=.I (.int .i64 i2)) (jd:tm 14=.I (.int .i64 0))
  (em:m 148013=some (bN,[.I (.int .i64 cE),.I (.X (ck.map ad)),.I (.int .i64 hj),.I (.X (kg.map ad))])) (gH:h3 mem go N qT mb m)
  (dN:∀tm' m' l b,tm' 0=.ptr 129015 0 0->tm' 1=.I (.int .i64 r)->tm' 2=.I (.int .i64 c)->tm' 112=.ref 129035 go 1 0 N->tm' 113=.I (.int .i64 N)->tm' 114=.I (.int .i64 i2)->(l,b)=jy ((cE,ck),(hj,kg)) y.2.2 ga mb->ke N (qT.set i2 (y.1,y.2.1,l))->h3 mem go N (qT.set i2 (y.1,y.2.1,l)) b m'->cB T K kk (.exit 6) ⟨tm',m'⟩) :
  wp T (yz.body.sub [1,1,1,1,1,1,1,0,1,0,0,1,1,0,0,1,1,1,1,0]) (cB T K kk) ⟨tm,m⟩:=by
 simp only[yz,eA.sub];have au4:i2<N:=by rw[<-sN.len];exact (dP.1 yD).1
 obtain⟨zk,Qs⟩:=sN.row y (eg yD);have au5:qT.set i2 (y.1,y.2.1,[]++y.2.2.drop 0)=qT:=Yw yD
 refine dm [0,1,2,12,13,112,113,114] [148013] (λ((k,pre,b):Nat×List bg×Bool) tm m=>k<=N+1/\D pre=k/\(∀f∈pre,okF f)/\jy ((cE,ck),(hj,kg)) y.2.2 ga mb=(pre++(jy ((cE,ck),(hj,kg)) (y.2.2.drop k) (ga.drop k) b).1,(jy ((cE,ck),(hj,kg)) (y.2.2.drop k) (ga.drop k) b).2)/\tm 14=.I (.int .i64 k)/\h3 mem go N (qT.set i2 (y.1,y.2.1,pre++y.2.2.drop k)) b m) (λ(k,_,_)=>N+1-k) (0,[],mb) (by
  refine⟨fs _,rfl,(by simp),rfl,jd,?_⟩;rw[au5];exact gH) ?_
 intro vs ms aR aN;simp only[go_sem,go_sem_proc,bm,ay,aB,eh,ie,p1,LJ,LK,em] at aR aN;subst aR aN;clear bm ay aB eh ie p1 LJ LK em jd gH tm m;rintro⟨ey,pre,b⟩ tm tQ M hm ⟨aLA,BT,Hp,LL,wX,um⟩;simp only[go_sem,go_sem_proc,a6] at M hm;obtain⟨ao,E,H,jb,n5,sO,sP,sQ⟩:=M;have au6:(pre++y.2.2.drop ey).length=N+1:=by rw[fQ,ry];omega
 have Hq:ke N (qT.set i2 (y.1,y.2.1,pre++y.2.2.drop ey)):=sN.set yD au6 λf aK=>by
  rw[js] at aK;rcases aK with aK|aK
  ·exact Hp f aK
  ·exact Qs f (K1 aK)
 have ag7:(qT.set i2 (y.1,y.2.1,pre++y.2.2.drop ey))[i2]?=some (y.1,y.2.1,pre++y.2.2.drop ey):=by
  rw[nC,ab rfl,ab (by rw[sN.len];exact au4)]
 have yq:(qT.set i2 (y.1,y.2.1,pre++y.2.2.drop ey))[r]?=some (x.1,x.2.1,ga):=by
  rw[nC,ag EC];exact bC
 have rO:=um.1.m;have uo:=um.1.o;rcases dv (ey<N+1) with au7|aLB
 ·have og:decide ((ey:Int)<((N+1:Nat):Int))=true:=dj
  cases b
  ·obtain⟨⟨⟨cQ,de⟩,⟨ep,fe⟩⟩,uq⟩:∃f,y.2.2[ey]?=some f:=⟨_,bu (by omega)⟩;have aLC:(D ga)=N+1:=(sN.row _ (eg bC)).1;obtain⟨⟨⟨iL,ju⟩,⟨sR,vQ⟩⟩,nc⟩:∃f,ga[ey]?=some f:=⟨_,bu (by omega)⟩;have vb:=Qs _ (eg uq);have ag8:=(sN.row _ (eg bC)).2 _ (eg nc)
   have Yz:(pre++y.2.2.drop ey)[ey]?=some ((cQ,de),(ep,fe)):=by
    rw[ri (by omega),BT,my,lB,nX,uq]
   have j3:y.2.2.drop ey=((cQ,de),(ep,fe))::y.2.2.drop (ey+1):=by
    obtain⟨av,e⟩:=dP.1 uq;rw[iu av,e]
   have mL:ga.drop ey=((iL,ju),(sR,vQ))::ga.drop (ey+1):=by
    obtain⟨av,e⟩:=dP.1 nc;rw[iu av,e]
   have lC:∀s:bg,(pre++y.2.2.drop ey).set ey s=(pre++[s])++y.2.2.drop (ey+1):=λs=>by
    rw[EB _ _ (by omega),BT,my,j3,rN,gM];rfl
   have au8:=um.1.r _ (eg ag7);have au9:=um.1.r _ (eg yq);have oh:tQ 168004=none:=(um.2 _ Yx).trans Cj;have Cl:tQ 168006=none:=(um.2 _ Yy).trans Ck;have t1:=Ho (N:=N) yq;have t2:=EA (N:=N) (rows:=qT.set i2 (y.1,y.2.1,pre++y.2.2.drop ey)) (i:=r) (by rw[Hq.len];exact uk);have t3:=Hn Yz;have t4:=Hm (l:=pre++y.2.2.drop ey) (k:=ey) (by omega);have t5:=Hn nc;have t6:=Hm (l:=ga) (k:=ey) (by omega);have jJ:=eZ (i:=ey) (by omega);have YA:=auY ((cE,ck),(hj,kg)) ((iL,ju),(sR,vQ));have yE:=ag2 ((cQ,de),(ep,fe)) (oa ((cE,ck),(hj,kg)) ((iL,ju),(sR,vQ))).1;have LM:=LL;rw[j3,mL] at LM;simp only[jy] at LM;generalize m8:oa ((cE,ck),(hj,kg)) ((iL,ju),(sR,vQ))=bd at *;obtain⟨⟨⟨qt,kJ⟩,⟨ava,avb⟩⟩,ay⟩:=bd;dsimp only at yE LM YA;generalize cJ:oW ((cQ,de),(ep,fe)) ((qt,kJ),(ava,avb))=S at *;obtain⟨⟨⟨v1,v2⟩,⟨vR,v4⟩⟩,aB⟩:=S;dsimp only at yE LM;have t7:=Yt (l:=pre++y.2.2.drop ey) (k:=ey) (by omega) v1 v2 vR v4;refine aY ?_;repeat' (intro h<;>simp only[h,go_sem,go_sem_proc,xi,mc,eW,ao,E,H,jb,n5,wX,sO,sP,sQ,hm,rO,uo,au8,au9,oh,Cl,t1,t2,t3,t4,t5,t6,t7,og,au7,uk,jJ,m8,cJ,vb.1,vb.2,ag8.1,ag8.2,ma.1,ma.2,YA.1,YA.2,au2,ez,aG,cD,Ae,Hr,rN,decide_true,decide_false,ag9,ne_eq,not_false_eq_true,and_self]<;>try refine ax ?_ ?_)
   have cL:=h3.set Hq ag7 ((pre++y.2.2.drop ey).set ey ((v1,v2),(vR,v4))) ((um.flag (ay != 0)).flag (ay != 0||aB != 0));rw[aha,lC] at cL;refine⟨au1 _ _,(ey+1,pre++[((v1,v2),(vR,v4))],(ay != 0||aB != 0)),by dsimp only;omega,by dsimp only;omega,by simp[BT],?_,?_,rfl,?_⟩
   ·intro f aK;rw[js,tU] at aK;rcases aK with aK|rfl
    ·exact Hp f aK
    ·exact yE
   ·rw[LM];dsimp only;rw[gM]
    rfl
   ·dsimp only;rw[lC];exact cL
  ·rw[Yu] at LL;refine aY ?_;repeat' (intro h<;>simp only[h,go_sem,go_sem_proc,ao,E,H,jb,n5,wX,sO,sP,sQ,rO,uo,og]<;>try refine ax ?_ ?_)
   refine dN _ _ (pre++y.2.2.drop ey) true ?_ ?_ ?_ ?_ ?_ ?_ LL.symm Hq um<;>simp only[e7,dW,if_false,ao,E,H,sO,sP,sQ]
 ·have og:decide ((ey:Int)<((N+1:Nat):Int))=false:=c5;have pP:y.2.2.drop ey=[]:=jV (by omega);rw[pP,ag6,<-pP] at LL;refine aY ?_;repeat' (intro h<;>simp only[h,go_sem,go_sem_proc,ao,E,H,jb,n5,wX,sO,sP,sQ,rO,uo,og]<;>try refine ax ?_ ?_)
  refine dN _ _ (pre++y.2.2.drop ey) b ?_ ?_ ?_ ?_ ?_ ?_ LL.symm Hq um<;>simp only[e7,dW,if_false,ao,E,H,sO,sP,sQ]
theorem avc (T:bb)(yF:T Ks=aV Qj)(xi:T Bz=Ch Ae)(eW:T vm=aV w8)(mc:T wK=aV yw){K:eY->ba->Prop}{kk:List gD}
  (go N r c:Nat) (mem:Mem) (Cj:mem 168004=none) (Ck:mem 168006=none) (gG:N<=40) (uk:r<N) (Ah:c<N+1) (iS:List dt) (ED:ke N iS) (x:dt) (ga:List bg) (vI:iS[r]?=some (x.1,x.2.1,ga)) (Hs:Bool) (tm:Nat->Q) (m:Mem)
  (bm:tm 0=.ptr 129015 0 0) (ay:tm 1=.I (.int .i64 r)) (aB:tm 2=.I (.int .i64 c)) (p1:tm 112=.ref 129035 go 1 0 N) (LJ:tm 113=.I (.int .i64 N)) (LK:tm 114=.I (.int .i64 0)) (gH:h3 mem go N iS Hs m)
  (dN:∀tm' m',h3 mem go N (kf ga r c 0 iS Hs).1 (kf ga r c 0 iS Hs).2 m'->cB T K kk (.exit 4) ⟨tm',m'⟩) :
  wp T (yz.body.sub [1,1,1,1,1,1,1,0,1,0]) (cB T K kk) ⟨tm,m⟩:=by
 simp only[yz,eA.sub]
 refine dm [0,1,2,112,113] [] (λ((i2,p2,mb):Nat×List dt×Bool) tm m=>i2<=N/\D p2=i2/\kf ga r c 0 iS Hs=(p2++(kf ga r c i2 (iS.drop i2) mb).1,(kf ga r c i2 (iS.drop i2) mb).2)/\ke N (p2++iS.drop i2)/\(p2++iS.drop i2)[r]?=some (x.1,x.2.1,ga)/\tm 114=.I (.int .i64 i2)/\h3 mem go N (p2++iS.drop i2) mb m) (λ(i2,_,_)=>N-i2) (0,[],Hs) (by
  exact⟨fs _,rfl,rfl,ED,vI,LK,gH⟩) ?_
 intro vs ms aR aN;simp only[go_sem,go_sem_proc,bm,ay,aB,p1,LJ] at aR aN;subst aR aN;clear bm ay aB p1 LJ LK gH tm m;rintro⟨i2,p2,mb⟩ tm cU M hm ⟨nV,kv,k3,sN,bC,sQ,vS⟩;simp only[go_sem,go_sem_proc,a6] at M hm;obtain⟨ao,E,H,sO,sP⟩:=M;have rO:=vS.1.m;have uo:=vS.1.o;have aLD:(D iS)=N:=ED.len;rcases dv (i2<N) with Ht|aLE
 ·obtain⟨y,ar⟩:∃y,iS[i2]?=some y:=⟨_,bu (by omega)⟩
  have GN:iS.drop i2=y::iS.drop (i2+1):=by
   obtain⟨av,rfl⟩:=dP.1 ar;exact iu av
  have yD:(p2++iS.drop i2)[i2]?=some y:=by
   rw[ri (by omega),kv,my,lB,nX,ar]
  obtain⟨zk,Qs⟩:=sN.row y (eg yD);have LN:=vS.1.r y (eg yD);obtain⟨⟨⟨cE,ck⟩,⟨hj,kg⟩⟩,a9⟩:∃f,y.2.2[c]?=some f:=⟨_,bu (by omega)⟩;have w4:=Ys a9;have t1:=Ho (N:=N) yD;have t2:=EA (N:=N) (rows:=p2++iS.drop i2) (i:=i2) (by rw[sN.len];exact Ht);have t3:=Hn a9;have t4:=Hm (l:=y.2.2) (k:=c) (by omega);have iP:decide ((i2:Int)<(N:Int))=true:=dj;have hw:=eZ (i:=i2) (by omega)
  have zj:∀z:dt,(p2++[z])++iS.drop (i2+1)=(p2++iS.drop i2).set i2 z:=λz=>by
   rw[EB _ _ (by omega),kv,my,GN,rN,gM];rfl
  have Hu:(p2++[y])++iS.drop (i2+1)=p2++iS.drop i2:=by rw[zj];exact Yw yD
  have ahb:∀b:Bool,(b=true->i2=r\/(cE==0)=true)->b=true->kf ga r c 0 iS Hs=((p2++[y])++(kf ga r c (i2+1) (iS.drop (i2+1)) mb).1,(kf ga r c (i2+1) (iS.drop (i2+1)) mb).2):=by
   intro b ae X8
   have YB:(i2==r||nD (cellOf y c))=true:=by
    rcases ae X8 with h|h
    ·rw[h,beq_self_eq_true];rfl
    ·rw[w4];have:nD ((cE,ck),(hj,kg))=true:=h;rw[this,Bool.or_true]
   rw[k3,GN];simp only[kf];rw[ab YB,gM]
   rfl
  rcases p3:((i2:Int)==(r:Int))
  ·have EC:i2≠r:=by intro h;rw[h] at p3;simp at p3
   rcases LO:(cE==0)
   ·have ma:okF ((cE,ck),(hj,kg)):=Qs _ (eg a9);simp only[go_sem,go_sem_proc,yF,ao,E,H,sO,sP,sQ,rO,uo,LN,t1,t2,t3,t4,Ht,iP,Ah,p3,LO,cD];refine au3 T xi eW mc go N r c i2 mem Cj Ck gG (p2++iS.drop i2) sN x y ga yD bC EC uk mb cE ck hj kg ma _ _ (gE (cU 148013)) ?_ ?_ ?_ ?_ ?_ ?_ ?_ ?_ ?_ ?_ ((vS.own (.inr (.inr rfl))).own (.inr (.inr rfl))) ?_
    ·exact ao
    ·exact E
    ·exact H
    ·rfl
    ·rfl
    ·exact sO
    ·exact sP
    ·exact sQ
    ·rfl
    ·simp[a1]
    ·intro tm' m' l b fP b6 dd LP ahc ahd kL Hq um;simp only[go_sem,go_sem_proc,ao,E,H,fP,b6,dd,LP,ahc,ahd,hw];repeat' (first|refine ax ?_ ?_|fail)<;>intro h<;>simp only[h,go_sem,go_sem_proc,ao,E,H,fP,b6,dd,LP,ahc,ahd,hw]
     refine⟨(i2+1,p2++[(y.1,y.2.1,l)],b),by dsimp only;omega,by dsimp only;omega,by simp[kv],?_,by dsimp only;rw[zj];exact Hq,by dsimp only;rw[zj,nC,ag EC];exact bC,rfl,?_⟩
     ·have YB:¬ (i2==r||nD (cellOf y c))=true:=by
       rw[w4];have E:nD ((cE,ck),(hj,kg))=false:=LO;have H:(i2==r)=false:=by simpa using EC
       rw[E,H];simp
      rw[k3,GN];simp only[kf];rw[ag YB,w4,<-kL,gM]
      rfl
     ·dsimp only;rw[zj];exact um
   ·simp only[go_sem,go_sem_proc,yF,ao,E,H,sO,sP,sQ,rO,uo,LN,t1,t2,t3,t4,Ht,iP,Ah,hw,p3,LO,cD];repeat' (first|refine ax ?_ ?_|fail)<;>intro h<;>simp only[h,go_sem,go_sem_proc,yF,ao,E,H,sO,sP,sQ,rO,uo,LN,t1,t2,t3,t4,Ht,iP,Ah,hw,p3,LO,cD]
    refine⟨(i2+1,p2++[y],mb),by dsimp only;omega,by dsimp only;omega,by simp[kv],ahb true (λ_ => .inr LO) rfl,by dsimp only;rw[Hu];exact sN,by dsimp only;rw[Hu];exact bC,rfl,?_⟩
    dsimp only;rw[Hu];exact (vS.own (.inr (.inr rfl))).own (.inr (.inr rfl))
  ·have EC:i2=r:=by have h:=beq_iff_eq.1 p3;omega
   simp only[go_sem,go_sem_proc,yF,ao,E,H,sO,sP,sQ,rO,uo,LN,t1,t2,t3,t4,Ht,iP,Ah,hw,p3,cD];repeat' (first|refine ax ?_ ?_|fail)<;>intro h<;>simp only[h,go_sem,go_sem_proc,yF,ao,E,H,sO,sP,sQ,rO,uo,LN,t1,t2,t3,t4,Ht,iP,Ah,hw,p3,cD]
   refine⟨(i2+1,p2++[y],mb),by dsimp only;omega,by dsimp only;omega,by simp[kv],ahb true (λ_ => .inl EC) rfl,by dsimp only;rw[Hu];exact sN,by dsimp only;rw[Hu];exact bC,rfl,?_⟩
   dsimp only;rw[Hu];exact (vS.own (.inr (.inr rfl))).own (.inr (.inr rfl))
 ·have ct:i2=N:=by omega
  have iP:decide ((i2:Int)<(N:Int))=false:=c5;have Ol:iS.drop i2=[]:=jV (by omega);rw[Ol] at k3 vS;simp only[kf,fG] at k3 vS;rw[k3] at dN;simp only[go_sem,go_sem_proc,ao,E,H,sO,sP,sQ,rO,uo,iP];repeat' (first|refine ax ?_ ?_|fail)<;>intro h<;>simp only[h,go_sem,go_sem_proc,ao,E,H,sO,sP,sQ,rO,uo,iP]
  exact dN _ _ vS
theorem avd (T:bb)(xi:T Bz=Ch Ae)(pA:T DJ=aV Ep){K:eY->ba->Prop}{kk:List gD}
  (go N r c:Nat) (mem:Mem) (Cj:mem 168004=none) (Ck:mem 168006=none) (gG:N<=40) (uk:r<N) (ig:List dt) (Hv:ke N ig) (x:dt) (yG:ig[r]?=some x) (f1:Int) (f2:List Int) (f3:Int) (f4:List Int) (lD:okF ((f1,f2),(f3,f4))) (tm:Nat->Q) (m:Mem) (bN:Nat)
  (bm:tm 0=.ptr 129015 0 0) (ay:tm 1=.I (.int .i64 r)) (aB:tm 2=.I (.int .i64 c)) (eb:tm 8=.ptr 148008 bN 0) (ahe:tm 85=.ref (x.1+900000) x.2.1 4 0 (N+1)) (ahf:tm 86=.I (.int .i64 ((N+1:Nat):Int))) (ahg:tm 87=.I (.int .i64 0))
  (em:m 148008=some (bN,[.I (.int .i64 f1),.I (.X (f2.map ad)),.I (.int .i64 f3),.I (.X (f4.map ad))])) (gH:h3 mem go N ig false m)
  (dN:∀tm' m',tm' 0=.ptr 129015 0 0->tm' 1=.I (.int .i64 r)->tm' 2=.I (.int .i64 c)->ke N (ig.set r (x.1,x.2.1,(h4 ((f1,f2),(f3,f4)) x.2.2).1))->h3 mem go N (ig.set r (x.1,x.2.1,(h4 ((f1,f2),(f3,f4)) x.2.2).1)) (h4 ((f1,f2),(f3,f4)) x.2.2).2 m'->cB T K kk (.exit 2) ⟨tm',m'⟩) :
  wp T (yz.body.sub [1,1,1,1,1,1,0,1,0]) (cB T K kk) ⟨tm,m⟩:=by
 simp only[yz,eA.sub];obtain⟨tl,Hw⟩:=Hv.row x (eg yG)
 have ave:∀l:List bg,(ig.set r (x.1,x.2.1,l))[r]?=some (x.1,x.2.1,l):=λl=>by
  rw[nC,ab rfl,ab (by rw[Hv.len];exact uk)]
 refine dm [0,1,2,8,85,86] [148008] (λ(k:Nat) tm m=>k<=N+1/\tm 87=.I (.int .i64 k)/\h3 mem go N (ig.set r (x.1,x.2.1,(x.2.2.take k).map (λf=>(j8 f ((f1,f2),(f3,f4))).1)++x.2.2.drop k)) ((x.2.2.take k).any λf=>(j8 f ((f1,f2),(f3,f4))).2 != 0) m) (λk=>N+1-k) 0 (by
  refine⟨fs _,ahg,?_⟩;have e:ig.set r (x.1,x.2.1,(x.2.2.take 0).map (λf=>(j8 f ((f1,f2),(f3,f4))).1)++x.2.2.drop 0)=ig:=Yw yG;rw[e];exact gH) ?_
 intro vs ms aR aN;simp only[go_sem,go_sem_proc,bm,ay,aB,eb,ahe,ahf,em] at aR aN;subst aR aN;clear bm ay aB eb ahe ahf ahg em gH tm m;rintro k tm m M hm ⟨oZ,ahh,gH⟩;simp only[go_sem,go_sem_proc,a6] at M hm;obtain⟨ao,E,H,cf,ahi,ahj⟩:=M
 have dM:((x.2.2.take k).map (λf=>(j8 f ((f1,f2),(f3,f4))).1)++x.2.2.drop k).length=N+1:=by
  rw[fQ,ai,gC,ry];omega
 have ED:ke N (ig.set r (x.1,x.2.1,(x.2.2.take k).map (λf=>(j8 f ((f1,f2),(f3,f4))).1)++x.2.2.drop k)):=by
  refine Hv.set yG dM λf aK=>?_;rw[js] at aK;rcases aK with aK|aK
  ·obtain⟨hd,-,rfl⟩:=dV.1 aK;exact ag3 _ _
  ·exact Hw f (K1 aK)
 have vI:=ave ((x.2.2.take k).map (λf=>(j8 f ((f1,f2),(f3,f4))).1)++x.2.2.drop k);rcases dv (k<N+1) with Qt|avf
 ·obtain⟨⟨⟨cQ,de⟩,⟨ep,fe⟩⟩,uq⟩:∃f,x.2.2[k]?=some f:=⟨_,bu (by omega)⟩;have Yz:=(au0 (λf=>(j8 f ((f1,f2),(f3,f4))).1) (l:=x.2.2) (k:=k)).trans uq;have lC:=auZ (λf=>(j8 f ((f1,f2),(f3,f4))).1) uq
  have J7:(x.2.2.take (k+1)).any (λf=>(j8 f ((f1,f2),(f3,f4))).2 != 0)=((x.2.2.take k).any (λf=>(j8 f ((f1,f2),(f3,f4))).2 != 0)||(j8 ((cQ,de),(ep,fe)) ((f1,f2),(f3,f4))).2 != 0):=by
   rw[hk,uq,List.any_append];simp
  obtain⟨avg,avh⟩:=Hw _ (eg uq);generalize (x.2.2.take k).map (λf=>(j8 f ((f1,f2),(f3,f4))).1)++x.2.2.drop k=cur at *;generalize ((x.2.2.take k).any λf=>(j8 f ((f1,f2),(f3,f4))).2 != 0)=mb at *;have rO:=gH.1.m;have uo:=gH.1.o;have avi:=gH.1.r _ (eg vI);have oh:m 168004=none:=(gH.2 _ Yx).trans Cj;have Cl:m 168006=none:=(gH.2 _ Yy).trans Ck;have t1:=Ho (N:=N) vI;have t2:=EA (N:=N) (rows:=ig.set r (x.1,x.2.1,cur)) (i:=r) (by rw[ED.len];exact uk);have t3:=Hn Yz;have t4:=Hm (l:=cur) (k:=k) (by omega);have og:decide ((k:Int)<((N+1:Nat):Int))=true:=dj;have hw:=eZ (i:=k) (by omega);generalize rA:j8 ((cQ,de),(ep,fe)) ((f1,f2),(f3,f4))=V at *;obtain⟨⟨⟨v1,v2⟩,⟨vR,v4⟩⟩,ua⟩:=V;dsimp only at lC J7;have t5:=Yt (l:=cur) (k:=k) (by omega) v1 v2 vR v4;refine aY ?_;repeat' (intro h<;>simp only[h,go_sem,go_sem_proc,xi,pA,ao,E,H,cf,ahi,ahj,ahh,hm,rO,uo,avi,oh,Cl,t1,t2,t3,t4,t5,og,Qt,uk,hw,rA,avg,avh,lD.1,lD.2,ez,aG,cD,Ae,Hr,rN,decide_true,decide_false,ag9,ne_eq,not_false_eq_true,and_self]<;>try refine ax ?_ ?_)
  have ay:=h3.set ED vI (cur.set k ((v1,v2),(vR,v4))) (((gH.own (k:=148010) (g:=gE (m 148010)) (cs:=[Q.I (Data.int IntKind.i64 0),Q.nil,Q.I (Data.int IntKind.i64 0),Q.nil]) (.inr (.inl rfl))).own (k:=148010) (g:=gE (m 148010)) (cs:=[Q.I (Data.int IntKind.i64 cQ),Q.I (Data.X (yH ad de)),Q.I (Data.int IntKind.i64 ep),Q.I (Data.X (yH ad fe))]) (.inr (.inl rfl))).flag (mb||ua != 0));rw[aha,lC] at ay;refine⟨k+1,by omega,by omega,rfl,?_⟩
  show h3 mem go N _ ((x.2.2.take (k+1)).any λf=>(j8 f ((f1,f2),(f3,f4))).2 != 0) _;rw[J7,lC];exact ay
 ·have LQ:k=N+1:=by omega
  have avj:(x.2.2.take k).map (λf=>(j8 f ((f1,f2),(f3,f4))).1)++x.2.2.drop k=(h4 ((f1,f2),(f3,f4)) x.2.2).1:=by
   unfold h4;rw[dx (by omega),jV (by omega),fG]
  have avk:((x.2.2.take k).any λf=>(j8 f ((f1,f2),(f3,f4))).2 != 0)=(h4 ((f1,f2),(f3,f4)) x.2.2).2:=by
   unfold h4;rw[dx (by omega)]
  rw[avj] at ED gH;rw[avk] at gH;have og:decide ((k:Int)<((N+1:Nat):Int))=false:=c5;refine aY ?_;repeat' (intro h<;>simp only[h,go_sem,go_sem_proc,ao,E,H,cf,ahi,ahj,ahh,hm,og]<;>try refine ax ?_ ?_)
  refine dN _ _ ?_ ?_ ?_ ED gH<;>simp only[e7,dW,if_false,ao,E,H]
theorem avl (T:bb)(yF:T Ks=aV Qj)(xi:T Bz=Ch Ae)(pA:T DJ=aV Ep)(eW:T vm=aV w8)(mc:T wK=aV yw)
  (go N:Nat) (rows:List dt) (r c:Nat) (eD:Mem) (cR:ke N rows) (cg:Af go N rows false eD) (Cj:eD 168004=none) (Ck:eD 168006=none) (gG:N<=40) (lY:r<=c) (avm:c<N) :
  wp T yz.body (od yz.res λm mem'=>m=.I (.bool (iR rows r c).1)/\h3 eD go N (iR rows r c).2.1 (iR rows r c).2.2 mem') ⟨kr [.ptr 129015 0 0,.I (.int .i64 r),.I (.int .i64 c)],eD⟩:=by
 refine qv ?_;simp only[yz];simp only[go_sem,go_sem_proc];refine dm [0,1,2] [] (λ(i:Nat) tm mem=>r<=i/\i<=N/\(∀j y,r<=j->j<i->rows[j]?=some y->nD (cellOf y c)=true)/\tm 7=.I (.int .i64 i)/\mem=eD) (λi=>N-i) r (by refine⟨bX _,by omega,λj y E H=>by omega,rfl,rfl⟩) ?_;intro vs ms aR aN;simp only[go_sem,go_sem_proc] at aR aN;subst aR aN;rintro i tm mem M hm ⟨iy,ahk,aW,bM,rfl⟩;simp only[go_sem,go_sem_proc,a6] at M hm;obtain⟨ao,E,H⟩:=M;have ur:=cg.m;have LR:=cg.o;have hlen:=cR.len;rcases dv (i<N) with az|b2
 ·have O:∃x,rows[i]?=some x:=⟨_,bu (by omega)⟩;obtain⟨x,O⟩:=O;obtain⟨tl,Hw⟩:=cR.row x (eg O);have Cm:=cg.r x (eg O);have aK:∃f,x.2.2[c]?=some f:=⟨_,bu (by omega)⟩;obtain⟨⟨⟨f1,f2⟩,⟨f3,f4⟩⟩,aK⟩:=aK;have ahl:=Ho (N:=N) O;have ahm:=EA (N:=N) (rows:=rows) (i:=i) (by omega);have ahn:=Hn aK;have aho:=Hm (l:=x.2.2) (k:=c) (by omega);have pd:=Ys aK;have hB:decide ((i:Int)<(N:Int))=true:=dj;have Ah:c<N+1:=by omega
  rcases qD:(f1==0)
  ·have avn:findAt rows r c=i:=auU O iy aW (by rw[pd];exact qD);obtain⟨xh,pz⟩:∃x,rows[r]?=some x:=⟨_,bu (by omega)⟩
   have kh:iR rows r c=(false,kf (h4 ((f1,f2),(f3,f4)) x.2.2).1 r c 0 (((rows.set r x).set i xh).set r (x.1,x.2.1,(h4 ((f1,f2),(f3,f4)) x.2.2).1)) (h4 ((f1,f2),(f3,f4)) x.2.2).2):=by
    unfold iR Ez;rw[ag (by omega),avn];have:rowAt (qS rows r i) r=x:=xg (by unfold qS;rw[xg O,xg pz];exact Yv O pz);rw[this,pd];unfold qS;rw[xg O,xg pz]
   rw[kh];clear kh;have Hv:ke N ((rows.set r x).set i xh):=cR.swap pz O;have avo:h3 mem go N ((rows.set r x).set i xh) false _:=h3.swap pz O ⟨cg,λ_ _=>rfl⟩;have yG:((rows.set r x).set i xh)[r]?=some x:=Yv O pz;have uk:r<N:=by omega
   have s1:=Ho (N:=N) pz;have s2:=EA (N:=N) (rows:=rows) (i:=r) (by omega);have c7:=ag4 (N:=N) (rows:=rows) (i:=r) (by omega) x;have db:=EA (N:=N) (rows:=rows.set r x) (i:=i) (by rw[iY];omega);have avp:=ag4 (N:=N) (rows:=rows.set r x) (i:=i) (by rw[iY];omega) xh;have avq:=Ho (N:=N) yG;have avr:=EA (N:=N) (rows:=(rows.set r x).set i xh) (i:=r) (by rw[iY,iY];omega);generalize Ai:(rows.set r x).set i xh=ig at *;have lD:=Hw _ (eg aK);have aLF:decide ((i:Int)<(N:Int))=true:=hB;have avs:((i:Int)==(N:Int))=false:=by simp;omega
   simp only[go_sem,go_sem_proc,yF,xi,ao,E,H,bM,ur,LR,Cm,ahl,ahm,ahn,aho,az,hB,Ah,qD,cD,uk,s1,s2,c7,db,avp,avq,avr,avs];refine avd T xi pA go N r c mem Cj Ck gG uk ig Hv x yG f1 f2 f3 f4 lD _ _ (gE (mem 148008)) ?_ ?_ ?_ ?_ ?_ ?_ ?_ ?_ ((avo.own (.inl rfl)).own (.inl rfl)) ?_
   ·exact ao
   ·exact E
   ·exact H
   ·rfl
   ·rfl
   ·rfl
   ·rfl
   ·simp[a1]
   intro tm' m' fP b6 dd sN vS;have rO:=vS.1.m
   have bC:(ig.set r (x.1,x.2.1,(h4 ((f1,f2),(f3,f4)) x.2.2).1))[r]?=some (x.1,x.2.1,(h4 ((f1,f2),(f3,f4)) x.2.2).1):=by
    rw[nC,ab rfl,ab (by rw[Hv.len];exact uk)]
   simp only[go_sem,go_sem_proc,fP,b6,dd,rO];refine avc T yF xi eW mc go N r c mem Cj Ck gG uk Ah _ sN x _ bC _ _ _ ?_ ?_ ?_ ?_ ?_ ?_ vS ?_
   ·exact fP
   ·exact b6
   ·exact dd
   ·rfl
   ·rfl
   ·rfl
   intro aLG tQ um;refine aY ?_;repeat' (intro h<;>simp only[h,go_sem,go_sem_proc]<;>try refine ax ?_ ?_)
   exact⟨_,rfl,rfl,um⟩
  ·have hw:=eZ (i:=i) (by omega);refine aY ?_;repeat' (intro h<;>simp only[h,go_sem,go_sem_proc,yF,xi,ao,E,H,bM,ur,LR,Cm,ahl,ahm,ahn,aho,az,hB,Ah,qD,hw,cD]<;>try refine ax ?_ ?_)
   refine⟨i+1,by omega,by omega,by omega,?_,rfl⟩
   intro j y avt vg ar
   by_cases ic:j=i
   ·subst ic;rw[O] at ar
    cases ar;rw[pd];exact qD
   ·exact aW j y avt (by omega) ar
 ·have avu:i=N:=by omega
  subst avu;have hB:decide ((i:Int)<(i:Int))=false:=c5;have uu:=auV (rows:=rows) (r:=r) (c:=c) (by omega) (λj y ah ar=>aW j y ah (by have:=(dP.1 ar).1;omega) ar);have aF:iR rows r c=(true,rows,false):=by unfold iR;rw[ab uu]
  rw[aF];refine aY ?_;repeat' (intro h<;>simp only[h,go_sem,go_sem_proc,yF,xi,ao,E,H,bM,ur,LR,hB,beq_self_eq_true]<;>try refine ax ?_ ?_)
  exact⟨_,rfl,rfl,cg,λ_ _=>rfl⟩
structure Qu where
 go:Nat
 N:Nat
 rows:List dt
 r:Nat
 c:Nat
def YC (a:Qu)(mem:Mem):Prop:=ke a.N a.rows/\Af a.go a.N a.rows false mem/\mem 168004=none/\mem 168006=none/\a.N<=40/\a.r<=a.c/\a.c<a.N
def YD (a:Qu)(mem:Mem):Q->Mem->Prop:=λm mem'=>m=.I (.bool (iR a.rows a.r a.c).1)/\h3 mem a.go a.N (iR a.rows a.r a.c).2.1 (iR a.rows a.r a.c).2.2 mem'
def LS:List Q->Mem->Option (Q->Mem->Prop):=ui (λ(a:Qu) args mem=>args=[.ptr 129015 0 0,.I (.int .i64 a.r),.I (.int .i64 a.c)]/\YC a mem) YD
theorem avv {N:Nat}{a b:List dt}(h:refsOf N a=refsOf N b):a.map (λx=>(x.1,x.2.1))=b.map λx=>(x.1,x.2.1):=by
 induction a generalizing b with
 |nil=>cases b with
  |nil=>rfl
  |cons y r=>simp[refsOf] at h
 |cons x a aA=>cases b with
  |nil=>simp[refsOf] at h
  |cons y b =>
   simp only[refsOf,eC,a6,Q.ref.injEq] at h;have E:x.1=y.1:=by have:=h.1.1;simp only[Key] at this;omega
   simp only[eC,a6,fo];exact⟨⟨E,h.1.2.1⟩,aA h.2⟩
theorem avw (a:Qu)(mem:Mem)(h:YC a mem):LS [.ptr 129015 0 0,.I (.int .i64 a.r),.I (.int .i64 a.c)] mem=some (YD a mem):=by
 unfold LS;refine LF (a:=a) ?_ ⟨rfl,h⟩;rintro a b args mem ⟨E,H,af,_⟩ ⟨aP,bt,bU,_⟩;rw[E] at aP;simp only[a6,Q.I.injEq,Data.int.injEq,true_and,and_true] at aP;have hm:=af.m;rw[bU.m] at hm;simp only[cm,fo,a6,Q.ref.injEq,true_and,and_true] at hm;obtain⟨⟨a9,aH⟩,-⟩:=hm;have bL:=af.o;rw[bU.o] at bL;simp only[cm,fo] at bL;obtain⟨dS,aLH,YE,cQ,de⟩:=a;obtain⟨aLI,aLJ,YF,c1,ee⟩:=b;dsimp only at *;subst a9 aH
 have aa:YF=YE:=by
  have bM:=avv bL.2;have av:(D YF)=D YE:=by have:=congrArg D bM;simpa using this
  apply List.ext_getElem av;intro i rh nV;have cf:(YF.map λx=>(x.1,x.2.1))[i]?=(YE.map λx=>(x.1,x.2.1))[i]?:=by rw[bM]
  rw[bh,bh,bu rh,bu nV] at cf;simp only[mB,cm,fo] at cf;have e8:=bU.r _ (np rh);have et:=af.r _ (np nV);rw[cf.1,et] at e8;simp only[cm,fo] at e8;have:=auT e8.2;exact dQ cf.1 (dQ cf.2 this.symm)
 subst aa;have ay:cQ=c1:=by omega
 have aB:de=ee:=by omega
 subst ay aB
 rfl
theorem avx {args:List Q}{mem:Mem}{bV:Q->Mem->Prop}(h:LS args mem=some bV):∃a,args=[.ptr 129015 0 0,.I (.int .i64 a.r),.I (.int .i64 a.c)]/\YC a mem/\bV=YD a mem:=by
 obtain⟨a,⟨E,H⟩,af⟩:=Ey h;exact⟨a,E,H,af⟩
theorem ahp (l:List bg):((l.map aG).all λe=>D e==4)=true:=by simp[aG]
abbrev YG:List bg->List Data:=λ(l:List bg)=>[.X (l.map aG)]
def Qv:=cj YG λ(l:List bg)=>cN (D l<=1000000) (.own 4 (l.map aG))
theorem avy:∀a b,YG a=YG b->a=b:=by
  intro en al h;exact map_inj nb _ _ (by simpa using h)
@[go_sem] theorem aLK (l:List bg)(G:(D l)<=1000000):Qv [.X (l.map aG)]=some (.own 4 (l.map aG)):=(cu avy l).trans (cT G _)
theorem avz (T:bb)  (l:List bg) (G:(D l)<=1000000):WP T Vt (.own 4 (l.map aG)) [.I (.X (l.map aG))]:=by
 refine cv ?_;simp only[Vt]
 have dG:mw 147005 0 4 0 64 (D l) ((l.map aG).flatten.map .I) (some (0,[]))=some (.ref 147005 1 4 0 (D l),some (147005,1,a8 aG l)):=by
  have:=Dy nA G0 147005 0 64 [] l (by simp;omega) (by simp;omega)
  simpa [a8] using this
 have hlen:(a8 aG l).length=D l*4:=oM nA l;refine aY ?_;repeat' (intro h<;>simp only[h,go_sem,go_sem_proc,ahp,dG,ai]<;>try refine ax ?_ ?_)
 rintro b ae
 cases b
 ·refine aY ?_;repeat' (intro h<;>simp only[h,go_sem,go_sem_proc,ahp,dG,ai,ru,hlen]<;>try refine ax ?_ ?_)
  rw[ab (by omega),dx (by omega)];unfold a8;rw[tH _ λd=>rfl];have:=yb (sz:=4) (l.map aG) (by intro e he;obtain⟨f,-,rfl⟩:=dV.1 he;rfl);rw[ai] at this;simp[this]
 ·cases l with
  |nil =>
       refine aY ?_;repeat' (intro h<;>simp only[h,go_sem,go_sem_proc,ru,cS]<;>try refine ax ?_ ?_)
  |cons x r=>simp at ae
def hL (rs:List e0):List dt:=rs.zipIdx.map λp=>(p.2,0,p.1.1++[p.1.2])
theorem EE (rs:List e0):(hL rs).length=D rs:=by simp[hL]
theorem ahq {rs:List e0}{i:Nat}{r:e0}(h:rs[i]?=some r):(hL rs)[i]?=some (i,0,r.1++[r.2]):=by
 unfold hL;rw[bh,YH,h];simp
theorem YI {rs:List e0}{i:Nat}{r:e0}(h:rs[i]?=some r):(hL rs).take (i+1)=(hL rs).take i++[(i,0,r.1++[r.2])]:=by
 rw[hk,ahq h]
 rfl
theorem avA {rs:List e0}{i:Nat}{x:dt}(h:x∈(hL rs).take i):x.1<i/\x.2.1=0:=by
 obtain⟨j,ah⟩:=tI.1 h;rw[List.getElem?_take] at ah
 split at ah
 ·rename_i ic;unfold hL at ah;rw[bh,YH] at ah
  cases aa:rs[j]? with
  |none=>rw[aa] at ah;cases ah
  |some r =>
   rw[aa] at ah;simp only[mB,cm] at ah;subst ah;exact⟨by simpa using ic,rfl⟩
 ·cases ah
theorem avB (N:Nat)(a b:List dt):refsOf N (a++b)=refsOf N a++refsOf N b:=by simp[refsOf]
theorem Hx (N:Nat)(a:List dt):(refsOf N a).length=D a:=by simp[refsOf]
structure Aj (N:Nat) (rs:List e0) (i go:Nat) (mem:Mem):Prop where
 z:i=0->mem 129015=some (0,[.nil,.I (.int .i64 N),.I (.bool false)])
 p:0<i->mem 129015=some (0,[.ref 129035 go 1 0 i,.I (.int .i64 N),.I (.bool false)])/\mem 129035=some (go,refsOf N ((hL rs).take i))
 r:∀x∈(hL rs).take i,mem (x.1+900000)=some (x.2.1,a8 aG x.2.2)
 n:∀j:Nat,i<=j->mem (j+900000)=none
 a:mem 168004=none
 b:mem 168006=none
theorem ahr (l:List bg):(l.map aG).flatten.map Q.I=a8 aG l:=rfl
theorem avC (bN:Nat)(l:List bg)(v1:Int)(v2:List Int)(vR:Int)(v4:List Int)(h:(D l)<=1000000):mw 129029 bN 4 (D l) 64 1 [.I (.int .i64 v1),.I (.X (v2.map ad)),.I (.int .i64 vR),.I (.X (v4.map ad))] (some (bN,a8 aG l))=some (.ref 129029 (bN+1) 4 0 (D l+1),some (129029,bN+1,a8 aG (l++[((v1,v2),(vR,v4))]))) :=
 mI nA G0 129029 bN 64 l ((v1,v2),(vR,v4)) rfl (by omega) (by omega)
theorem avD (N bN i g:Nat)(a:List dt)(J:(D a)=i)(h:i<=1000)(m:Q)(hm:m=.ref 129029 g 4 0 (N+1)):mw 129035 bN 1 i 24 1 [m] (some (bN,refsOf N a))=some (.ref 129035 (bN+1) 1 0 (i+1),some (129035,bN+1,refsOf N a++[m])):=by
 subst hm;unfold mw;dsimp only;rw[ab ⟨rfl,by rw[Hx];omega,by omega,by unfold maxLen;omega,rfl⟩,dx (by rw[Hx];omega)]
theorem avE {N i go go' bN:Nat}{rs:List e0}{r:e0}{m m':Mem}(ae:Aj N rs i go m)(aa:rs[i]?=some r)(vH:m' 129015=some (0,[.ref 129035 go' 1 0 (i+1),.I (.int .i64 N),.I (.bool false)]))(aK:∀k:Nat,900000<=k\/k=168004\/k=168006->m' k=m k):
  Aj N rs (i+1) go' (a1 (a1 (a1 m' 129029 (bY m' 129029) []) (i+900000) (bY m' (i+900000)) (a8 aG (r.1++[r.2]))) 129035 go' ((refsOf N ((hL rs).take i)++[Q.ref 129029 bN 4 0 (N+1)]).set i (Q.ref (i+900000) (bY m' (i+900000)) 4 0 (N+1)))):=by
 have az:=(dP.1 aa).1
 have a9:bY m' (i+900000)=0:=by
  unfold bY;rw[aK _ (.inl (by omega)),ae.n i (bX _)]
 have sS:(refsOf N ((hL rs).take i)).length=i:=by rw[Hx,gC,EE];omega
 rw[a9]
 have mT:(refsOf N ((hL rs).take i)++[Q.ref 129029 bN 4 0 (N+1)]).set i (.ref (i+900000) 0 4 0 (N+1))=refsOf N ((hL rs).take (i+1)):=by
  rw[EB _ _ (by omega),sS,my,rN,YI aa,avB]
  rfl
 rw[mT];have LU:∀(k:Nat),k≠129029->k≠129035->k≠i+900000->a1 (a1 (a1 m' 129029 (bY m' 129029) []) (i+900000) 0 (a8 aG (r.1++[r.2]))) 129035 go' (refsOf N ((hL rs).take (i+1))) k=m' k:=λk E H af=>by simp[a1,E,H,af]
 refine⟨λh=>by omega,λ_=>⟨by rw[LU _ (by omega) (by omega) (by omega)];exact vH,by simp[a1]⟩,λx O=>?_,λj ah=>?_,?_,?_⟩
 ·rw[YI aa,js,tU] at O;rcases O with O|rfl
  ·obtain⟨oO,tX⟩:=avA O;rw[LU _ (by omega) (by omega) (by omega),aK _ (.inl (by omega))];exact ae.r x O
  ·have H:(i+900000:Nat)≠129035:=by omega
   simp[a1]
 ·rw[LU _ (by omega) (by omega) (by omega),aK _ (.inl (by omega))];exact ae.n j (by omega)
 ·rw[LU _ (by omega) (by omega) (by omega),aK _ (.inr (.inl rfl))];exact ae.a
 ·rw[LU _ (by omega) (by omega) (by omega),aK _ (.inr (.inr rfl))];exact ae.b
theorem ahs {K:ba->Prop}{tm:Nat->Q}{N i go:Nat}(go' bN:Nat){rs:List e0}{r:e0}{m m':Mem}(ae:Aj N rs i go m)(aa:rs[i]?=some r)(vH:m' 129015=some (0,[.ref 129035 go' 1 0 (i+1),.I (.int .i64 N),.I (.bool false)]))
  (Qw:m' 129035=some (go',refsOf N ((hL rs).take i)++[.ref 129029 bN 4 0 (N+1)])) (Qx:m' 129029=some (bN,a8 aG (r.1++[r.2]))) (aK:∀k:Nat,900000<=k\/k=168004\/k=168006->m' k=m k) (h:∀bd,Aj N rs (i+1) go' bd->K ⟨tm,bd⟩):ly K ⟨tm,m'⟩ .move:=by
 have az:=(dP.1 aa).1;have sS:(refsOf N ((hL rs).take i)).length=i:=by rw[Hx,gC,EE];omega
 exact aqU 129035 i 129029 (i+900000) Qw (by rw[ri (by omega),sS,my];rfl) Qx (by omega) (show (i+900000:Nat)≠129029 by omega) (show (i+900000:Nat)≠129035 by omega) (h _ (avE ae aa vH aK))
theorem lO {m:Mem}{k g:Nat}{cs:List Q}{j:Nat}(h:j≠k):a1 m k g cs j=m j:=ag h
theorem avF (T:bb)(md:T OD=aV Qv){K:eY->ba->Prop}{kk:List gD}(N:Nat)(rs:List e0)(stop:Bool)(gG:N<=40)(hlen:(D rs)=N)(Bp:∀r∈rs,r.1.length=N/\yA r)(tm:Nat->Q)(m:Mem)
  (ay:tm 1=.I (.int .i64 N)) (aB:tm 2=.I (.bool stop)) (eb:tm 8=.ptr 129015 0 0) (yI:tm 16=.I (.X (rs.map ka))) (nd:tm 17=.I (.int .i64 N)) (hC:tm 18=.I (.int .i64 0)) (ae:Aj N rs 0 0 m)
  (dN:∀tm' m' go,tm' 1=.I (.int .i64 N)->tm' 2=.I (.bool stop)->tm' 8=.ptr 129015 0 0->Aj N rs N go m'->cB T K kk (.exit 0) ⟨tm',m'⟩) :
  wp T (Lr.body.sub [1,1,0,1,0]) (cB T K kk) ⟨tm,m⟩:=by
 simp only[Lr,eA.sub];refine dm [1,2,8,16,17] [] (λ((i,go):Nat×Nat) tm m=>i<=N/\tm 18=.I (.int .i64 i)/\Aj N rs i go m) (λ(i,_)=>N-i) (0,0) (by exact⟨fs _,hC,ae⟩) ?_;intro vs ms aR aN;simp only[go_sem,go_sem_proc,ay,aB,eb,yI,nd] at aR aN;subst aR aN;clear ay aB eb yI nd hC ae tm m;rintro⟨i,go⟩ tm m M hm ⟨ahk,j2,ae⟩;simp only[go_sem,go_sem_proc,a6] at M hm;obtain⟨E,H,cf,sB,lL⟩:=M;rcases dv (i<N) with az|b2
 ·obtain⟨⟨A,⟨v1,v2⟩,⟨vR,v4⟩⟩,aa⟩:∃r,rs[i]?=some r:=⟨_,bu (by omega)⟩;obtain⟨Cn,⟨aht,avG⟩,avH,vG⟩:=Bp _ (eg aa);dsimp only at Cn aht avG avH vG;have iP:decide ((i:Int)<(N:Int))=true:=dj;have hw:=eZ (i:=i) (by omega);have dG:∀bN,mw 129029 bN 4 N 64 1 _ _=_:=λbN=>Cn ▸ avC bN A v1 v2 vR v4 aht;have ahu:N<=1000000:=by omega
  have ia:(1<=maxLen)=True:=eq_true (by unfold maxLen;omega);have aLL:=YI aa;have sS:((hL rs).take i).length=i:=by rw[gC,EE];omega
  rcases k6 i with ao|ib
  ·have ur:=ae.z ao;refine aY ?_;repeat' (intro h<;>simp only[h,go_sem,go_sem_proc,md,E,H,cf,sB,lL,j2,ur,iP,aa,hw,ahu,Cn,dG,ia,ahr,ai,bh,ka,aG,decide_true,decide_false,ne_eq,not_false_eq_true,and_self]<;>try refine ax ?_ ?_)
   refine ahs (gE (m 129035)) (gE (m 129029)+1) ae aa (by simp[a1,ao]) (by simp[a1,ao,refsOf]) (by simp[a1]) (λk M=>?_) λbd fW=>?_
   ·rw[lO (by omega),lO (by omega),lO (by omega),lO (by omega),lO (by omega),lO (by omega),lO (by omega)]
   ·refine aY ?_;repeat' (intro h<;>simp only[h,go_sem,go_sem_proc,E,H,cf,sB,lL,j2,hw]<;>try refine ax ?_ ?_)
    exact⟨(i+1,gE (m 129035)),by dsimp only;omega,by dsimp only;omega,rfl,fW⟩
  ·obtain⟨ur,LR⟩:=ae.p ib;have avI:=avD N go i (gE (m 129029)+1) ((hL rs).take i) sS (by omega) _ rfl;refine aY ?_;repeat' (intro h<;>simp only[h,go_sem,go_sem_proc,md,E,H,cf,sB,lL,j2,ur,LR,iP,aa,hw,ahu,Cn,dG,avI,ahr,ai,bh,ka,aG,decide_true,decide_false,ne_eq,not_false_eq_true,and_self]<;>try refine ax ?_ ?_)
   refine ahs (go+1) (gE (m 129029)+1) ae aa (by simp[a1]) (by simp[a1]) (by simp[a1]) (λk M=>?_) λbd fW=>?_
   ·rw[lO (by omega),lO (by omega),lO (by omega),lO (by omega),lO (by omega),lO (by omega),lO (by omega)]
   ·refine aY ?_;repeat' (intro h<;>simp only[h,go_sem,go_sem_proc,E,H,cf,sB,lL,j2,hw]<;>try refine ax ?_ ?_)
    exact⟨(i+1,go+1),by dsimp only;omega,by dsimp only;omega,rfl,fW⟩
 ·have iP:decide ((i:Int)<(N:Int))=false:=c5;obtain rfl:i=N:=by omega
  refine aY ?_;repeat' (intro h<;>simp only[h,go_sem,go_sem_proc,E,H,cf,sB,lL,j2,iP]<;>try refine ax ?_ ?_)
  refine dN _ _ go ?_ ?_ ?_ ae<;>simp only[e7,dW,if_false,E,H,cf]
def me (stop:Bool):Nat->Nat->List dt->List Nat->Bool->List dt×List Nat×Bool
 |0,_,rows,free,bad=>(rows,free,bad)
 |_+1,_,rows,free,true=>(rows,free,true)
 |k+1,c,rows,free,false =>
  if (iR rows (c-D free) c).1=true then
   (if stop=true then ((iR rows (c-D free) c).2.1,free++[c],(iR rows (c-D free) c).2.2) else me stop k (c+1) (iR rows (c-D free) c).2.1 (free++[c]) (iR rows (c-D free) c).2.2)
  else me stop k (c+1) (iR rows (c-D free) c).2.1 free (iR rows (c-D free) c).2.2
theorem ahv (stop:Bool)(k c:Nat)(rows:List dt)(free:List Nat):me stop k c rows free true=(rows,free,true):=by
 cases k<;>rfl
def iG (n:Nat):List Data:=[.int .i64 n]
theorem yJ (n:Nat):(iG n).length=1:=rfl
theorem ahw (n:Nat):((iG n).map Q.I).all Q.one=true:=rfl
def YJ (N:Nat)(rows:List dt)(bad:Bool):Data:=.ptr [.X (rows.map λx=>[.X (x.2.2.map aG)]),.int .i64 N,.bool bad]
def Hy (N:Nat)(p:List dt×List Nat×Bool):Data:=.cH [YJ N p.1 p.2.2,.X (p.2.1.map iG)]
theorem Qy (ga:List bg)(r c:Nat):∀(i:Nat) (l:List dt) (b:Bool),(kf ga r c i l b).1.map (λx=>(x.1,x.2.1,x.2.2.length))=l.map λx=>(x.1,x.2.1,x.2.2.length)
 |_,[],_=>rfl
 |i,x::xs,b=>by
  unfold kf
  split
  ·simp only[eC,Qy ga r c (i+1) xs b]
  ·simp only[eC,Qy ga r c (i+1) xs,ag5]
theorem ahx (fD:bg):∀(l p:List bg) (b:Bool),(∀f∈l,okF f)->∀f∈(jy fD l p b).1,okF f
 | [],p,b,h=>by rw[ag6];exact h
 |f::dI,[],b,h=>by cases b<;>(simp only[jy];exact h)
 |f::dI,p::ps,true,h=>by simp only[jy];exact h
 |f::dI,p::ps,false,h=>by
  simp only[jy];intro g a9;rcases hP.1 a9 with rfl|a9
  ·exact ag2 _ _
  ·exact ahx fD dI ps _ (λx O=>h x (hf _ O)) g a9
theorem YK (ga:List bg)(r c:Nat):∀(i:Nat) (l:List dt) (b:Bool),(∀x∈l,∀f∈x.2.2,okF f)->∀x∈(kf ga r c i l b).1,∀f∈x.2.2,okF f
 |_,[],_,h=>h
 |i,x::xs,b,h=>by
  unfold kf
  split
  ·intro y ar;rcases hP.1 ar with rfl|ar
   ·exact h _ gF
   ·exact YK ga r c (i+1) xs b (λz aW=>h z (hf _ aW)) y ar
  ·intro y ar;rcases hP.1 ar with rfl|ar
   ·exact ahx _ _ _ _ (h _ gF)
   ·exact YK ga r c (i+1) xs _ (λz aW=>h z (hf _ aW)) y ar
theorem ahy (rows:List dt)(r c:Nat)(aa:r<=D rows):r<=findAt rows r c/\findAt rows r c<=D rows:=by
 unfold findAt;have:=ahz (p:=λx => !nD (cellOf x c)) (xs:=rows.drop r);rw[ry] at this;omega
theorem ke.EF {N:Nat}{rows:List dt}(h:ke N rows){r c:Nat}(aa:r<N):ke N (iR rows r c).2.1:=by
 unfold iR
 split
 ·exact h
 ·rename_i bI;have lD:=ahy rows r c (by rw[h.len];omega);have av:=h.len;obtain⟨x,O⟩:∃x,rows[findAt rows r c]?=some x:=⟨_,bu (by omega)⟩;obtain⟨xh,pz⟩:∃x,rows[r]?=some x:=⟨_,bu (by omega)⟩
  have Ai:ke N (qS rows r (findAt rows r c)):=by
   unfold qS;rw[xg O,xg pz];exact h.swap pz O
  have yG:(qS rows r (findAt rows r c))[r]?=some x:=by
   unfold qS;rw[xg O,xg pz];exact Yv O pz
  generalize qS rows r (findAt rows r c)=ig at *;obtain⟨tl,Hw⟩:=Ai.row x (eg yG)
  have zU:ke N (Ez ig r c):=by
   unfold Ez;rw[xg yG];refine Ai.set yG (by simp[h4,tl]) λf aK=>?_;obtain⟨g,-,rfl⟩:=dV.1 aK;exact ag3 _ _
  generalize Ez ig r c=iS at *;have j0:=Qy (h4 (cellOf (rowAt ig r) c) (rowAt ig r).2.2).1 r c 0 iS (h4 (cellOf (rowAt ig r) c) (rowAt ig r).2.2).2;have cR:=YK (h4 (cellOf (rowAt ig r) c) (rowAt ig r).2.2).1 r c 0 iS (h4 (cellOf (rowAt ig r) c) (rowAt ig r).2.2).2 λx O=>(zU.row x O).2;dsimp only;generalize (kf (h4 (cellOf (rowAt ig r) c) (rowAt ig r).2.2).1 r c 0 iS (h4 (cellOf (rowAt ig r) c) (rowAt ig r).2.2).2).1=el at *;refine⟨?_,?_,λy ar=>⟨?_,cR y ar⟩⟩
  ·have:=congrArg D j0;rw[ai,ai] at this;rw[this,zU.len]
  ·have E:el.map (·.1)=iS.map (·.1):=by
    have:=congrArg (yH λp:Nat×Nat×Nat=>p.1) j0
    simpa [m4,Function.comp_def] using this
   rw[E];exact zU.Qq
  ·have E:el.map (λx=>x.2.2.length)=iS.map λx=>x.2.2.length:=by
    have:=congrArg (yH λp:Nat×Nat×Nat=>p.2.2) j0
    simpa [m4,Function.comp_def] using this
   have H:y.2.2.length∈iS.map λx=>x.2.2.length:=by rw[<-E];exact dV.2 ⟨y,ar,rfl⟩
   obtain⟨z,aW,e⟩:=dV.1 H;rw[<-e];exact (zU.row z aW).1
theorem avJ {n k g N:Nat}{mem:Mem}{l:List bg}(av:(D l)=N+1)(hm:mem k=some (g,a8 aG l)):cy (n+1) mem (.ref k g 4 0 (N+1))=some (.X (l.map aG)):=by
 rw[<-av];exact qz nA hm
theorem avK {n N:Nat}{mem:Mem}{rows:List dt}(h:∀x∈rows,mem (x.1+900000)=some (x.2.1,a8 aG x.2.2))(av:∀x∈rows,x.2.2.length=N+1):(refsOf N rows).mapM (cy (n+1) mem)=some (rows.map λx => .X (x.2.2.map aG)):=by
 unfold refsOf
 induction rows with
 |nil=>rfl
 |cons x xs aA =>
  have E:=avJ (n:=n) (av x gF) (h x gF);have H:=aA (λy ar=>h y (hf _ ar)) λy ar=>av y (hf _ ar);simp only[eC,lz,E,H]
  rfl
theorem YL {n N go:Nat}{mem:Mem}{rows:List dt}{bad:Bool}(cR:ke N rows)(h:Af go N rows bad mem):cy (n+3) mem (.ptr 129015 0 0)=some (YJ N rows bad):=by
 have E:=avK (n:=n) h.r λx O=>(cR.row x O).1
 have H:cy (n+2) mem (.ref 129035 go 1 0 N)=some (.X (rows.map λx=>[.X (x.2.2.map aG)])):=by
  unfold cy;rw[h.o];simp only[if_true];unfold cut;rw[ab (by rw[Hx,cR.len];omega),l2,dx (by rw[Hx,cR.len];omega)];dsimp only;rw[E];have:=yb (sz:=1) (rows.map λx=>[Data.X (x.2.2.map aG)]) (by intro e he;obtain⟨x,-,rfl⟩:=dV.1 he;rfl);rw[ai,cR.len] at this;simp only[mB,cm,Data.X.injEq]
  have lD:∀l:List dt,(l.map λx=>Data.X (x.2.2.map aG))=(l.map λx=>[Data.X (x.2.2.map aG)]).flatten:=by
   intro l
   induction l with
   |nil=>rfl
   |cons x xs aA=>simp only[eC,jP,aA];rfl
  rw[lD,this]
 unfold cy;rw[h.m];simp only[if_true,l2,lz,List.mapM_nil,H,true_and,fs];simp only[Ov]
 rfl
theorem Aj.avL {N go:Nat}{rs:List e0}{m:Mem}(av:(D rs)=N)(gG:0<N)(h:Aj N rs N go m):Af go N (hL rs) false m:=by
 have bA:(hL rs).take N=hL rs:=dx (by rw[EE];omega);have aF:=h.p gG;rw[bA] at aF;exact⟨aF.1,aF.2,by have:=h.r;rw[bA] at this;exact this⟩
theorem Af.other {go N:Nat}{rows:List dt}{bad:Bool}{mem:Mem}{k g:Nat}{cs:List Q}(h:Af go N rows bad mem)(E:k≠129015)(H:k≠129035)(af:k<900000):Af go N rows bad (a1 mem k g cs) :=
 ⟨(lO (Ne.symm E)).trans h.m,(lO (Ne.symm H)).trans h.o,λx O=>(lO (show (x.1+900000:Nat)≠k by omega)).trans (h.r x O)⟩
theorem ahA {N:Nat}{rs:List e0}(av:(D rs)=N)(h:∀r∈rs,r.1.length=N/\yA r):ke N (hL rs):=by
 refine⟨by rw[EE,av],?_,λx O=>?_⟩
 ·have:(hL rs).map (·.1)=dU (D rs):=by
   unfold hL;rw[m4];apply pM;intro i;rw[bh,YH];rcases ir i (D rs) with h|h
   ·rw[bu h];simp[h]
   ·rw[mx h];simp[h]
  rw[this];exact List.nodup_range
 ·unfold hL at O;obtain⟨⟨r,i⟩,aF,rfl⟩:=dV.1 O;have aa:=List.fst_mem_of_mem_zipIdx aF;obtain⟨E,H,af⟩:=h r aa;refine⟨by simp[E],λf aK=>?_⟩
  rw[js,tU] at aK;rcases aK with aK|rfl
  ·exact H.2 f aK
  ·exact af
abbrev YM:(List e0)×Int×Bool->List Data:=λ(rs,n,stop)=>[.X (rs.map ka),.int .i64 n,.bool stop]
def Qz:=cj YM λ(rs,n,stop)=>cN ((D rs:Int)=n/\D rs<=40/\∀r∈rs,r.1.length=D rs/\yA r) (.same (Hy (D rs) (me stop (D rs) 0 (hL rs) [] false)))
theorem avM:∀a b,YM a=YM b->a=b:=by
  rintro⟨agD,iw,aLM⟩ ⟨agE,jr,aLN⟩ h;simp only[a6,Data.X.injEq,Data.int.injEq,Data.bool.injEq] at h;exact dQ (map_inj XF _ _ h.1) (dQ h.2.1.2 h.2.2.1)
@[go_sem] theorem avN (rs:List e0)(n:Int)(stop:Bool)(G:(D rs:Int)=n/\D rs<=40/\∀r∈rs,r.1.length=D rs/\yA r):Qz [.X (rs.map ka),.int .i64 n,.bool stop]=some (.same (Hy (D rs) (me stop (D rs) 0 (hL rs) [] false))):=(cu avM (rs,n,stop)).trans (cT G _)
theorem avO (T:bb)(md:T OD=aV Qv)(nE:T Up=py LS)(rs:List e0)(n:Int)(stop:Bool)(G:(D rs:Int)=n/\D rs<=40/\∀r∈rs,r.1.length=D rs/\yA r):WP T Lr (.same (Hy (D rs) (me stop (D rs) 0 (hL rs) [] false))) [.I (.X (rs.map ka)),.I (.int .i64 n),.I (.bool stop)]:=by
 refine cv ?_;simp only[Lr];obtain⟨aH,gG,Bp⟩:=G;subst aH;simp only[go_sem,go_sem_proc,md,nE,ai];generalize YN:(D rs)=N at *;refine avF T md N rs stop gG YN Bp _ _ rfl rfl rfl rfl rfl rfl ⟨λ_=>by simp[a1],λh=>by omega,λx O=>by simp at O,λj _=>lO (show (j+900000:Nat)≠129015 by omega),lO (by omega),lO (by omega)⟩ ?_
 intro tm m go E H cf ae;rcases k6 N with ao|ib
 ·have pV:rs=[]:=List.eq_nil_of_length_eq_zero (by omega);have aW:=ae.z ao;subst ao;subst pV;simp only[go_sem,go_sem_proc,md,nE,E,H,cf];refine dm [1,2,8] [129015] (λ(_:Unit) tm' m'=>tm' 11=.ref 129061 (gE (m 129061)) 1 0 0/\m' 129061=some (gE (m 129061),[])/\tm' 12=.I (.int .i64 0)) (λ_=>0) () (by refine⟨rfl,?_,rfl⟩;simp[a1]) ?_;intro vs ms aR aN;simp only[go_sem,go_sem_proc,md,nE,E,H,cf,aW] at aR aN;subst aR aN;rintro _ tm' m' M hm ⟨mM,Hz,mN⟩;simp only[go_sem,go_sem_proc,md,nE,a6] at M hm;obtain⟨b6,dd,h1⟩:=M;simp only[go_sem,go_sem_proc,md,nE,b6,dd,h1,hm,mM,Hz,mN,show decide ((0:Int)<((0:Nat):Int))=false from rfl,cy,nU,l2];repeat' (first|refine ax ?_ ?_|fail)<;>intro h<;>simp only[h,go_sem,go_sem_proc,md,nE,b6,dd,h1,hm,mM,Hz,mN,show decide ((0:Int)<((0:Nat):Int))=false from rfl,cy,nU,l2]
  rfl
 ·have Ak:=ae.avL YN ib;have cR:=ahA YN Bp;have LV:=ae.a;have LW:=ae.b;clear ae;simp only[go_sem,go_sem_proc,md,nE,E,H,cf]
  refine dm [1,2,8] [] (λ((c,rows,free,bad,g):Nat×List dt×List Nat×Bool×Nat) tm m=>c<=N/\D free<=c/\me stop N 0 (hL rs) [] false=me stop (N-c) c rows free bad/\ke N rows/\Af go N rows bad m/\m 168004=none/\m 168006=none/\tm 11=.ref 129061 g 1 0 (D free)/\m 129061=some (g,a8 iG free)/\tm 12=.I (.int .i64 c)) (λ(c,_,_,_,_)=>N-c) (0,hL rs,[],false,gE (m 129061)) (by
   refine⟨fs _,bX _,rfl,cR,⟨?_,?_,λx O=>?_⟩,?_,?_,rfl,?_,rfl⟩
   ·rw[lO (by omega)];exact Ak.m
   ·rw[lO (by omega)];exact Ak.o
   ·rw[lO (show (x.1+900000:Nat)≠129061 by omega)];exact Ak.r x O
   ·rw[lO (by omega)];exact LV
   ·rw[lO (by omega)];exact LW
   ·simp[a1,a8]) ?_
  intro vs ms aR aN;simp only[go_sem,go_sem_proc,md,nE,E,H,cf] at aR aN;subst aR aN;clear E H cf Ak LV LW;rintro⟨c,rows,free,bad,g⟩ tm m M hm ⟨avm,aLO,k3,cR,Ak,LV,LW,mM,Hz,mN⟩;simp only[go_sem,go_sem_proc,md,nE,a6] at M hm;obtain⟨E,H,cf⟩:=M;have ur:=Ak.m
  have Wi:me stop N 0 (hL rs) [] false=(rows,free,bad)->((cy 5 m (.ptr 129015 0 0)).bind λd=>(cy 5 m (.ref 129061 g 1 0 (D free))).bind λe=>some (Data.cH [d,e]))=some (Hy N (me stop N 0 (hL rs) [] false)):=by
   intro h;rw[h,YL (n:=2) cR Ak,qz yJ Hz]
   rfl
  have QA:=YL (n:=2) cR Ak;have HA:=qz (n:=4) yJ Hz;rcases dv (c<N) with az|b2
  ·have dM:decide ((c:Int)<(N:Int))=true:=dj
   cases bad
   ·have oT:IntKind.i64.wrap ((c:Int)-(D free:Int))=((c-D free:Nat):Int):=by rw[eM _];omega
    have fy:=eZ (i:=c) (by omega);have e2:=avw ⟨go,N,rows,c-D free,c⟩ m ⟨cR,Ak,LV,LW,gG,Nat.sub_le _ _,az⟩;dsimp only at e2;have YO:N-c=(N-(c+1))+1:=by omega
    rw[YO] at k3;simp only[me] at k3;have Hp:=cR.EF (r:=c-D free) (c:=c) (by omega);simp only[go_sem,go_sem_proc,md,nE,nE,E,H,cf,mM,mN,ur,dM,oT,e2];intro yB m' gf;obtain⟨xd,gH⟩:=gf;dsimp only at xd gH;subst xd;have oh:m' 168004=none:=(gH.2 _ Yx).trans LV;have Cl:m' 168006=none:=(gH.2 _ Yy).trans LW;have LX:m' 129061=some (g,a8 iG free):=(gH.2 129061 (by unfold Hl;omega)).trans Hz;have dG:mw 129061 g 1 (D free) 8 1 [.I (.int .i64 c)] (some (g,a8 iG free))=_:=mI yJ ahw 129061 g 8 free c rfl (by omega) (by omega);generalize aLP:iR rows (c-D free) c=bE at *;obtain⟨avP,ahB,ahC⟩:=bE;dsimp only at *
    cases avP
    ·simp only[k0,if_false] at k3;simp only[go_sem,go_sem_proc,md,nE,E,H,cf,mM,mN,fy];repeat' (first|refine ax ?_ ?_|fail)<;>intro h<;>simp only[h,go_sem,go_sem_proc,md,nE,E,H,cf,mM,mN,fy]
     exact⟨(c+1,ahB,free,ahC,g),by dsimp only;omega,by dsimp only;omega,by dsimp only;omega,k3,Hp,gH.1,oh,Cl,rfl,LX,rfl⟩
    ·simp only[if_true] at k3;have ahD:=gH.1.other (k:=129061) (g:=g+1) (cs:=a8 iG (free++[c])) (by omega) (by omega) (by omega)
     cases stop
     ·simp only[k0,if_false] at k3;simp only[go_sem,go_sem_proc,md,nE,E,H,cf,mM,mN,fy,LX,dG];repeat' (first|refine ax ?_ ?_|fail)<;>intro h<;>simp only[h,go_sem,go_sem_proc,md,nE,E,H,cf,mM,mN,fy,LX,dG]
      exact⟨(c+1,ahB,free++[c],ahC,g+1),by dsimp only;omega,by dsimp only;omega,by simp;omega,k3,Hp,ahD,oh,Cl,by simp,rfl,rfl⟩
     ·simp only[if_true] at k3;simp only[go_sem,go_sem_proc,md,nE,E,H,cf,mM,mN,fy,LX,dG];repeat' (first|refine ax ?_ ?_|fail)<;>intro h<;>simp only[h,go_sem,go_sem_proc,md,nE,E,H,cf,mM,mN,fy,LX,dG]
      have Co:(D free)+1=(free++[c]).length:=by simp
      rw[YL (n:=2) Hp ahD,Co,qz (n:=4) yJ (g:=g+1) (l:=free++[c]) (by simp[a1]),k3]
      rfl
   ·rw[ahv] at k3;simp only[go_sem,go_sem_proc,md,nE,E,H,cf,mM,mN,ur,dM,QA,HA];repeat' (first|refine ax ?_ ?_|fail)<;>intro h<;>simp only[h,go_sem,go_sem_proc,md,nE,E,H,cf,mM,mN,ur,dM,QA,HA]
    rw[k3]
    rfl
  ·have dM:decide ((c:Int)<(N:Int))=false:=c5;have YO:N-c=0:=by omega
   rw[YO] at k3;simp only[me] at k3;simp only[go_sem,go_sem_proc,md,nE,E,H,cf,mM,mN,ur,dM,QA,HA];repeat' (first|refine ax ?_ ?_|fail)<;>intro h<;>simp only[h,go_sem,go_sem_proc,md,nE,E,H,cf,mM,mN,ur,dM,QA,HA]
   rw[k3]
   rfl
theorem YP {rs:List e0}{n:Int}(bL:rJ rs)(h:ob rs n=true):(D rs:Int)=n/\D rs<=40/\∀r∈rs,r.1.length=D rs/\yA r:=by
 unfold ob at h;simp only[e9,uf,decide_eq_false_iff_not,beq_iff_eq] at h;obtain⟨E,H,af,aP⟩:=h;refine⟨af,by omega,λr aa=>⟨?_,bL.2 r aa⟩⟩
 rw[xj] at aP;have:=aP r aa;unfold oX at this;simp at this;omega
theorem YQ {stop:Bool}{N:Nat}:∀(k c:Nat) (rows:List dt) (free:List Nat) (bad:Bool),c+k=N->ke N rows->ke N (me stop k c rows free bad).1
 |0,_,rows,_,_,_,h=>h
 |k+1,c,rows,free,true,G,h=>h
 |k+1,c,rows,free,false,G,h=>by
  have aF:=h.EF (r:=c-D free) (c:=c) (by omega);unfold me
  split
  ·split
   ·exact aF
   ·exact YQ k (c+1) _ _ _ (by omega) aF
  ·exact YQ k (c+1) _ _ _ (by omega) aF
def qU (stop:Bool)(rs:List e0):List dt×List Nat×Bool:=me stop (D rs) 0 (hL rs) [] false
theorem YR (stop:Bool):∀(k c:Nat) (rows:List dt) (free:List Nat) (bad:Bool),(me stop k c rows free bad).2.1.length<=D free+k
 |0,_,_,_,_=>by simp[me]
 |k+1,c,rows,free,true=>by simp[me]
 |k+1,c,rows,free,false=>by
  unfold me
  split
  ·split
   ·simp
   ·have:=YR stop k (c+1) (iR rows (c-D free) c).2.1 (free++[c]) (iR rows (c-D free) c).2.2;simp at this;omega
  ·have:=YR stop k (c+1) (iR rows (c-D free) c).2.1 free (iR rows (c-D free) c).2.2;omega
theorem avQ (stop:Bool)(rs:List e0):(qU stop rs).2.1.length<=D rs:=by
 have:=YR stop (D rs) 0 (hL rs) [] false;unfold qU
 simpa using this
theorem avR {rs:List e0}{stop:Bool}(h:∀r∈rs,r.1.length=D rs/\yA r):ke (D rs) (qU stop rs).1:=YQ _ _ _ _ _ (by omega) (ahA rfl h)
def vT (N:Nat)(x:dt):bg:=x.2.2.getD N fj
def qV (rs:List e0)(n:Int):List bg×Int :=
 if ob rs n=true then (if (qU true rs).2.2=true then ([],6) else if (qU true rs).2.1.length>0 then ([],17) else ((qU true rs).1.map (vT (D rs)),0)) else ([],1)
theorem avS {N:Nat}{x:dt}{f:bg}(h:x.2.2[N]?=some f):vT N x=f:=by
 unfold vT;rw[dZ,h]
 rfl
def YS:=cj P7 λ(rs,n)=>cN (rJ rs) (.same (.cH [.X ((qV rs n).1.map aG),.int .i64 (qV rs n).2]))
@[go_sem] theorem avT (rs:List e0)(n:Int)(G:rJ rs):YS [.X (rs.map ka),.int .i64 n]=some (.same (.cH [.X ((qV rs n).1.map aG),.int .i64 (qV rs n).2])):=(cu agF (rs,n)).trans (cT G _)
theorem avU (T:bb)(Cp:T Uf=aV XP)(Cq:T Ui=aV Qz)(rs:List e0)(n:Int)(G:rJ rs):WP T W7 (.same (.cH [.X ((qV rs n).1.map aG),.int .i64 (qV rs n).2])) [.I (.X (rs.map ka)),.I (.int .i64 n)]:=by
 refine cv ?_;simp only[W7];unfold qV;rcases aa:ob rs n
 ·refine aY ?_;repeat' (intro h<;>simp only[h,go_sem,go_sem_proc,Cp,Cq,G,aa,cS]<;>try refine ax ?_ ?_)
 ·have cR:=avR (stop:=true) (YP G aa).2.2;have fa:Qz [.X (rs.map ka),.int .i64 n,.bool true]=some (.same (Hy (D rs) (qU true rs))):=avN rs n true (YP G aa);have lD:=avQ true rs;obtain⟨aH,gG,-⟩:=YP G aa;rcases gv:qU true rs with ⟨rows,free,bad⟩;rw[gv] at lD cR fa;dsimp only at lD cR;simp only[Hy,YJ] at fa
  cases bad
  ·cases free with
   |nil =>
    simp only[go_sem,go_sem_proc,Cp,Cq,G,aa,fa,ai,show decide (((0:Nat):Int)>0)=false from rfl,cS];rw[ag (by simp)];refine dm [1,33,34] [] (λ((i,g):Nat×Nat) tm m=>i<=D rs/\tm 35=.I (.int .i64 i)/\tm 8=.ref 109045 g 4 0 i/\m 109045=some (g,a8 aG ((rows.take i).map (vT (D rs))))) (λ(i,_)=>D rs-i) (0,0) (by refine⟨fs _,rfl,rfl,?_⟩;simp[a1,a8,bY,emp]) ?_;intro vs ms aR aN;simp only[go_sem,go_sem_proc,Cp,Cq] at aR aN;subst aR aN;rintro⟨i,g⟩ tm m M hm ⟨ahk,Qw,cf,YT⟩;simp only[go_sem,go_sem_proc,Cp,Cq,a6] at M hm;obtain⟨E,Lc,ahE⟩:=M;have bZ:=cR.len;rcases dv (i<D rs) with az|b2
    ·obtain⟨x,O⟩:∃x,rows[i]?=some x:=⟨_,bu (by omega)⟩;obtain⟨tl,Hw⟩:=cR.row x (eg O);obtain⟨⟨⟨cQ,de⟩,⟨ep,fe⟩⟩,uq⟩:∃f,x.2.2[D rs]?=some f:=⟨_,bu (by omega)⟩;have ja:=avS uq;have sS:((rows.take i).map (vT (D rs))).length=i:=by rw[ai,gC];omega
     have dG:=mI nA G0 109045 g 64 ((rows.take i).map (vT (D rs))) ((cQ,de),(ep,fe)) (cs:=[.I (.int .i64 cQ),.I (.X (de.map ad)),.I (.int .i64 ep),.I (.X (fe.map ad))]) rfl (by omega) (by omega);rw[sS] at dG
     have avV:(rows.take (i+1)).map (vT (D rs))=(rows.take i).map (vT (D rs))++[((cQ,de),(ep,fe))]:=by
      rw[hk,O,kT];simp[ja]
     have iP:decide ((i:Int)<(D rs:Int))=true:=dj;have YU:decide ((i:Int)<(D rows:Int))=true:=dj;have hw:=eZ (i:=i) (by omega);have jF:decide (0<=n)=true:=dj;have vU:n=((D rs:Nat):Int):=aH.symm;refine aY ?_;repeat' (intro h<;>simp only[h,go_sem,go_sem_proc,Cp,Cq,E,Lc,ahE,Qw,cf,YT,O,uq,dG,iP,YU,hw,vU,ai,bh,aG]<;>try refine ax ?_ ?_)
     exact⟨(i+1,g+1),by dsimp only;omega,by dsimp only;omega,rfl,rfl,by dsimp only;rw[avV]⟩
    ·have ct:i=D rs:=by omega
     have YU:decide ((i:Int)<(D rows:Int))=false:=c5;have fh:rows.take i=rows:=dx (by omega);rw[fh] at YT
     have kK:∀n,cy (n+1) m (.ref 109045 g 4 0 i)=some (.X ((rows.map (vT (D rs))).map aG)):=λn=>by
      have:=qz (n:=n) nA YT;rw[show (rows.map (vT (D rs))).length=i by rw[ai];omega] at this
      exact this
     have avW:=kK 4;refine aY ?_;repeat' (intro h<;>simp only[h,go_sem,go_sem_proc,Cp,Cq,E,Lc,ahE,Qw,cf,YU,avW]<;>try refine ax ?_ ?_)
   |cons f dI =>
    have gr:decide ((((f::dI).length:Nat):Int)>0)=true:=lU (by simp only[h8];omega);simp only[h8] at gr;refine aY ?_;repeat' (intro h<;>simp only[h,go_sem,go_sem_proc,Cp,Cq,G,aa,fa,ai,gr,cS]<;>try refine ax ?_ ?_)
    rw[ab (by omega)]
    rfl
  ·refine aY ?_;repeat' (intro h<;>simp only[h,go_sem,go_sem_proc,Cp,Cq,G,aa,fa,ai,cS]<;>try refine ax ?_ ?_)
def YV:bT:=cd 30 2 [.t 4,.t 5] (R [(aC 4 (.cp (.c (.I (.int .u64 0))))),(aC 5 (.cp (.c (.I (.int .u64 0)))))] (.seq (.cond (.c (.I (.bool false))) (R [F 11 0,(aC 12 (.conv .u32 (.t 11))),F 13 1,(aC 14 (.conv .u32 (.t 13))),(cq 15 aru 12 14),F 10 15,bB 16 0 10,bB 17 1 10,F 6 16,F 7 17] (R [F 18 6,(aC 19 (.conv .u64 (.t 18))),F 20 7,(aC 21 (.conv .u64 (.t 20))),F 4 19,F 5 21] .ret)) .skip) (R [F 23 0,F 24 1,(cq 25 Uv 23 24),F 22 25,bB 26 0 22,bB 27 1 22,F 8 26,F 9 27] (R [F 28 8,F 29 9,F 4 28,F 5 29] .ret))))
def YW:bT:=cd 51 2 [.t 4,.t 5] (R [(aC 4 (.cp (.c (.I (.int .u64 0))))),(aC 5 (.cp (.c (.I (.int .u64 0)))))] (R [F 14 0,(aC 15 (.bin .and (.t 14) (.c (.I (.int .u64 4294967295))))),F 6 15] (R [F 16 0,(aC 17 (.bin .shr (.t 16) (.c (.I (.int .u64 32))))),F 7 17] (R [F 18 1,(aC 19 (.bin .and (.t 18) (.c (.I (.int .u64 4294967295))))),F 8 19] (R [F 20 1,(aC 21 (.bin .shr (.t 20) (.c (.I (.int .u64 32))))),F 9 21] (R [F 22 6,F 23 8,bn 24 .mul 22 23,F 10 24] (R [F 25 7,F 26 8,bn 27 .mul 25 26,F 28 10,(aC 29 (.bin .shr (.t 28) (.c (.I (.int .u64 32))))),bn 30 .add 27 29,F 11 30] (R [F 31 11,(aC 32 (.bin .and (.t 31) (.c (.I (.int .u64 4294967295))))),F 12 32] (R [F 33 11,(aC 34 (.bin .shr (.t 33) (.c (.I (.int .u64 32))))),F 13 34] (R [F 35 12,F 36 6,F 37 9,bn 38 .mul 36 37,bn 39 .add 35 38,F 12 39] (R [F 40 7,F 41 9,bn 42 .mul 40 41,F 43 13,bn 44 .add 42 43,F 45 12,(aC 46 (.bin .shr (.t 45) (.c (.I (.int .u64 32))))),bn 47 .add 44 46,F 4 47] (R [F 48 0,F 49 1,bn 50 .mul 48 49,F 5 50] .ret))))))))))))
def YX:bT:=cd 8 1 [.t 2] (R [br 2 0] (.seq (.cond (.c (.I (.bool false))) (R [F 3 0,(aC 4 (.conv .u32 (.t 3))),(dL 5 arC 4),F 2 5] .ret) .skip) (R [F 6 0,(dL 7 UW 6),F 2 7] .ret)))
def YY:bT:=cd 25 1 [.t 2] (R [br 2 0] (.seq (R [F 3 0,(aC 4 (.bin .geq (.t 3) (.c (.I (.int .u64 4294967296)))))] (aZ 4 (R [F 5 0,(aC 6 (.bin .shr (.t 5) (.c (.I (.int .u64 32))))),F 0 6] (.ops [br 2 32])) .skip)) (.seq (R [F 7 0,(aC 8 (.bin .geq (.t 7) (.c (.I (.int .u64 65536)))))] (aZ 8 (R [F 9 0,(aC 10 (.bin .shr (.t 9) (.c (.I (.int .u64 16))))),F 0 10] (.ops [F 11 2,a5 12 .add 11 16,F 2 12])) .skip)) (.seq (R [F 13 0,(aC 14 (.bin .geq (.t 13) (.c (.I (.int .u64 256)))))] (aZ 14 (R [F 15 0,(aC 16 (.bin .shr (.t 15) (.c (.I (.int .u64 8))))),F 0 16] (.ops [F 17 2,a5 18 .add 17 8,F 2 18])) .skip)) (R [F 19 2,F 20 0,(aC 21 (.conv .u8 (.t 20))),(aC 22 (.idxs (.c (.I (.str [0,1,2,2,3,3,3,3,4,4,4,4,4,4,4,4,5,5,5,5,5,5,5,5,5,5,5,5,5,5,5,5,6,6,6,6,6,6,6,6,6,6,6,6,6,6,6,6,6,6,6,6,6,6,6,6,6,6,6,6,6,6,6,6,7,7,7,7,7,7,7,7,7,7,7,7,7,7,7,7,7,7,7,7,7,7,7,7,7,7,7,7,7,7,7,7,7,7,7,7,7,7,7,7,7,7,7,7,7,7,7,7,7,7,7,7,7,7,7,7,7,7,7,7,7,7,7,7,8,8,8,8,8,8,8,8,8,8,8,8,8,8,8,8,8,8,8,8,8,8,8,8,8,8,8,8,8,8,8,8,8,8,8,8,8,8,8,8,8,8,8,8,8,8,8,8,8,8,8,8,8,8,8,8,8,8,8,8,8,8,8,8,8,8,8,8,8,8,8,8,8,8,8,8,8,8,8,8,8,8,8,8,8,8,8,8,8,8,8,8,8,8,8,8,8,8,8,8,8,8,8,8,8,8,8,8,8,8,8,8,8,8,8,8,8,8,8,8,8,8,8,8,8,8,8,8]))) (.t 21))),(aC 23 (.conv .i64 (.t 22))),bn 24 .add 19 23,F 2 24] .ret)))))
theorem YZ:∀y:Nat,y<41->bits .and .u64 (y:Int) 4294967295=y:=by decide
theorem avX (y:Nat)(h:y<41):(y:Int).fdiv 4294967296=0:=by
 rw[Int.fdiv_eq_ediv_of_nonneg _ (by omega)];omega
abbrev QB:Nat->List Data:=λ(y:Nat)=>[.int .u64 1,.int .u64 y]
def Y0:=cj QB λ(y:Nat)=>cN (y<41) (.same (.cH [.int .u64 0,.int .u64 y]))
theorem ahF:∀a b,QB a=QB b->a=b:=by
  intro oR oS h;simp only[a6,Data.int.injEq] at h;omega
@[go_sem] theorem aLQ (y:Nat)(G:y<41):Y0 [.int .u64 1,.int .u64 y]=some (.same (.cH [.int .u64 0,.int .u64 y])):=(cu ahF y).trans (cT G _)
theorem avY (T:bb)  (y:Nat) (G:y<41):WP T YW (.same (.cH [.int .u64 0,.int .u64 y])) [.I (.int .u64 1),.I (.int .u64 y)]:=by
 refine cv ?_;simp only[YW];have E:=YZ y G;have H:=avX y G;have af:=YZ 1 (by omega);have aP:=YZ 0 (by omega);have bt:((1:Int)).fdiv 4294967296=0:=by decide
 have bU:((0:Int)).fdiv 4294967296=0:=by decide
 have hw:∀x:Int,0<=x/\x<18446744073709551616->IntKind.u64.wrap x=x:=λx h=>zG x h;have ew:=hw 0 (by omega);have w1:=hw y (by omega);simp only[Int.natCast_zero,Int.cast_ofNat_Int,Int.natCast_one] at af aP;simp only[go_sem,go_sem_proc,E,H,af,aP,bt,bU,ew,w1,show ((32:Int)<0)=False from by simp,if_false,show (2:Int)^min (Int.toNat 32) 64=4294967296 from rfl,n6,z0,tT,wY,DZ]
 repeat' (first|refine ax ?_ ?_|fail)<;>intro h<;>simp only[h,go_sem,go_sem_proc,E,H,af,aP,bt,bU,ew,w1,show ((32:Int)<0)=False from by simp,if_false,show (2:Int)^min (Int.toNat 32) 64=4294967296 from rfl,n6,z0,tT,wY,DZ]
def Y1:=cj QB λ(y:Nat)=>cN (y<41) (.same (.cH [.int .u64 0,.int .u64 y]))
@[go_sem] theorem aLR (y:Nat)(G:y<41):Y1 [.int .u64 1,.int .u64 y]=some (.same (.cH [.int .u64 0,.int .u64 y])):=(cu ahF y).trans (cT G _)
theorem avZ (T:bb)(av0:T Uv=aV Y0)(y:Nat)(G:y<41):WP T YV (.same (.cH [.int .u64 0,.int .u64 y])) [.I (.int .u64 1),.I (.int .u64 y)]:=by
 refine cv ?_;simp only[YV];refine aY ?_;repeat' (intro h<;>simp only[h,go_sem,go_sem_proc,av0,G]<;>try refine ax ?_ ?_)
theorem rP {α:Type}{A:List α}{k:Nat}(dK:(D A)=k)(n:Nat):(dD n A).flatten.length=n*k:=by
 rw[List.length_flatten,HB,dK,List.sum_replicate_nat]
theorem av1 {α:Type}{A:List α}{k:Nat}(dK:(D A)=k){q j:Nat}(h:q<=j):(dD j A).flatten.take (q*k)=(dD q A).flatten:=by
 obtain⟨d,rfl⟩:=ahG h;rw[<-Y2,EG,Cr (by rw[rP dK];omega),dx (by rw[rP dK];omega)]
theorem av2 {α:Type}{A:List α}{k:Nat}(dK:(D A)=k){q j:Nat}(h:q<=j):(dD j A).flatten.drop (q*k)=(dD (j-q) A).flatten:=by
 obtain⟨d,rfl⟩:=ahG h;rw[<-Y2,EG,oN,jV (by rw[rP dK];omega),rP dK,my,l2,jv,Gf]
def EH:List Q:=[.I (.int .i64 0),.nil,.I (.int .i64 0),.nil]
def p4 (A:List Q)(N j:Nat):List Q:=(dD j A).flatten++(dD (N-j) EH).flatten
theorem ahH {A:List Q}(dK:(D A)=4){N j:Nat}(h:j<=N):(p4 A N j).length=N*4:=by
 unfold p4;rw[fQ,rP dK,rP (show (D EH)=4 from rfl)];omega
theorem ahI {A:List Q}(dK:(D A)=4){N j q:Nat}(h:j+q<=N):(p4 A N j).take (j*4)++(dD q A).flatten++(p4 A N j).drop (j*4+q*4)=p4 A N (j+q):=by
 unfold p4;rw[Cr (by rw[rP dK];omega),dx (by rw[rP dK];omega),oN,jV (by rw[rP dK];omega),rP dK,Gf,av2 (show (D EH)=4 from rfl) (by omega),jv,<-Y2 (n:=j),EG,Nat.sub_sub]
theorem av3 {A:List Q}(dK:(D A)=4){N j:Nat}:(p4 A N j).take (j*4)=(dD j A).flatten:=by
 unfold p4;rw[Cr (by rw[rP dK];omega),dx (by rw[rP dK];omega)]
theorem ahJ {A:List Q}(h:A.all Q.one=true)(q:Nat):(dD q A).flatten.all Q.one=true:=by
 induction q with
 |zero=>rfl
 |succ n aA=>rw[qs,jP,agY,h,aA];rfl
theorem av4 (f:bg)(N:Nat):p4 ((aG f).map .I) N N=a8 aG (dD N f):=by
 unfold p4 a8;rw[my,HB];simp only[List.replicate_zero,List.flatten_nil,fG]
 induction N with
 |zero=>rfl
 |succ n aA=>rw[qs,jP,qs,jP,kT,aA]
theorem av5 {A:List Q}(dK:(D A)=4)(E:A.all Q.one=true)(N:Nat):A7 131030 0 4 0 N 1 A (some (0,(dD N EH).flatten))=some (.I (.int .i64 ((min 1 N:Nat):Int)),some (131030,0,p4 A N (min 1 N))):=by
 unfold A7;dsimp only;rw[ab ⟨rfl,by rw[rP (show (D EH)=4 from rfl)];omega,E⟩]
 have ao:(dD N EH).flatten=p4 A N 0:=by simp[p4]
 have bA:A.take (min 1 N*4)=(dD (min 1 N) A).flatten:=by
  rcases k6 N with h|h
  ·subst h;simp
  ·rw[show min 1 N=1 by omega];simp[dx (Al dK)]
 have:=ahI dK (N:=N) (j:=0) (q:=min 1 N) (by omega);rw[ao,bA];unfold kY;rw[rP dK];simp only[Nat.zero_mul,kH] at this ⊢;rw[this]
theorem av6 {A:List Q}(dK:(D A)=4)(E:A.all Q.one=true){N j:Nat}(h:j<N):A7 131030 0 4 (j*4) (N-j) j (dD j A).flatten (some (0,p4 A N j))=some (.I (.int .i64 ((min j (N-j):Nat):Int)),some (131030,0,p4 A N (j+min j (N-j)))):=by
 unfold A7;dsimp only;rw[ab ⟨rfl,by rw[ahH dK (by omega)];omega,ahJ E j⟩]
 rw[av1 dK (show min j (N-j)<=j by omega)];have:=ahI dK (N:=N) (j:=j) (q:=min j (N-j)) (by omega);unfold kY;rw[rP dK,this]
abbrev Y3:Int×(List Int)×Int×(List Int)×Nat->List Data:=λ(s,l,s2,al,N)=>[.X [[.int .i64 s,.X (l.map ad),.int .i64 s2,.X (al.map ad)]],.int .i64 N]
def Y4:=cj Y3 λ(s,l,s2,al,N)=>cN (N<41) (.own 4 (dD N (aG ((s,l),(s2,al)))))
theorem av7:∀a b,Y3 a=Y3 b->a=b:=by
  rintro⟨s1,en,BZ,B0,aLS⟩ ⟨s2,al,B1,B2,aLT⟩ h;simp only[a6,Data.int.injEq,Data.X.injEq] at h;exact dQ h.1.1.1.2 (dQ (map_inj fi _ _ h.1.1.2.1) (dQ h.1.1.2.2.1.2 (dQ (map_inj fi _ _ h.1.1.2.2.2.1) (by have:=h.2.1.2;dsimp only;omega))))
@[go_sem] theorem av8 (s:Int)(l:List Int)(s2:Int)(al:List Int)(N:Nat)(G:N<41):Y4 [.X [[.int .i64 s,.X (l.map ad),.int .i64 s2,.X (al.map ad)]],.int .i64 N]=some (.own 4 (dD N (aG ((s,l),(s2,al))))):=(cu av7 (s,l,s2,al,N)).trans (cT G _)
theorem av9 (T:bb)(Am:T Uq=aV Y1)(s:Int)(l:List Int)(s2:Int)(al:List Int)(N:Nat)(G:N<41):WP T Vr (.own 4 (dD N (aG ((s,l),(s2,al))))) [.I (.X [[.int .i64 s,.X (l.map ad),.int .i64 s2,.X (al.map ad)]]),.I (.int .i64 N)]:=by
 refine cv ?_;simp only[Vr];have ao:decide ((N:Int)<0)=false:=c5;have hw:IntKind.u64.wrap (N:Int)=N:=zG _ ⟨by omega,by omega⟩
 have ad1:IntKind.i64.wrap (N:Int)=N:=wrap64 _ (by omega) (by omega);have oT:IntKind.u64.wrap ((1:Nat):Int)=1:=by decide
 have a9:decide ((N:Int)>9223372036854775807)=false:=c5;have HC:(64*N<=140737488355328)=True:=eq_true (by omega);have Cs:(N<=maxLen)=True:=eq_true (by unfold maxLen;omega);have dK:((aG ((s,l),(s2,al))).map Q.I).length=4:=rfl;have xk:((aG ((s,l),(s2,al))).map Q.I).all Q.one=true:=rfl;have Be:=av5 dK xk N;have vf:=λj (h:j<N)=>av6 dK xk h;have LY:(aG ((s,l),(s2,al))).map Q.I=[.I (.int .i64 s),.I (.X (l.map ad)),.I (.int .i64 s2),.I (.X (al.map ad))]:=rfl;simp only[EH] at Be;rw[LY] at Be;simp only[go_sem,go_sem_proc,Am] at Be;simp only[go_sem,go_sem_proc,Am,ao,hw,ad1,oT,G,a9,HC,Cs,show decide ((0:Int)>0)=false from rfl,Be];rw[LY] at dK xk;have iM:=av4 ((s,l),(s2,al)) N;rw[LY] at iM;simp only[LY] at vf;clear LY Be;generalize [Q.I (.int .i64 s),.I (.X (l.map ad)),.I (.int .i64 s2),.I (.X (al.map ad))]=A at *;refine dm [7] [] (λ(j:Nat) tm m=>j<=N/\(0<N->0<j)/\tm 8=.I (.int .i64 j)/\m 131030=some (0,p4 A N j)) (λj=>N-j) (min 1 N) (by refine⟨by omega,by omega,rfl,?_⟩;simp[a1]) ?_;intro vs ms aR aN;simp only[go_sem,go_sem_proc,Am] at aR aN;subst aR aN;rintro j tm m M hm ⟨ahK,awa,cf,LZ⟩;simp only[go_sem,go_sem_proc,Am,a6] at M hm;have bM:=M;rcases dv (j<N) with az|b2
 ·have jm:decide ((j:Int)<(N:Int))=true:=dj;have aH:=vf j az;have eS:=av3 dK (N:=N) (j:=j);have hlen:(j*4<=(p4 A N j).length)=True:=eq_true (by rw[ahH dK ahK];omega);have ahL:(j<=N)=True:=eq_true ahK;have fh:=ahJ xk j;simp only[go_sem,go_sem_proc,Am,fh,xk,eS] at aH;have fy:IntKind.i64.wrap ((j:Int)+((min j (N-j):Nat):Int))=((j+min j (N-j):Nat):Int):=by rw[eM _];omega
  simp only[go_sem,go_sem_proc,Am,bM,cf,LZ,jm,eS,hlen,ahL,fh,aH,fy,bX,Ct,fs];repeat' (first|refine ax ?_ ?_|fail)<;>intro h<;>simp only[h,go_sem,go_sem_proc,Am,bM,cf,LZ,jm,eS,hlen,ahL,fh,aH,fy,bX,Ct,fs]
  exact⟨j+min j (N-j),by have:=awa (by omega);omega,by omega,by omega,rfl,rfl⟩
 ·have jm:decide ((j:Int)<(N:Int))=false:=c5;obtain rfl:j=N:=by omega
  rw[iM] at LZ;have Eb:=oM nA (dD j ((s,l),(s2,al)));rw[An] at Eb;simp only[go_sem,go_sem_proc,Am,bM,cf,LZ,jm,ru,Eb];repeat' (first|refine ax ?_ ?_|fail)<;>intro h<;>simp only[h,go_sem,go_sem_proc,Am,bM,cf,LZ,jm,ru,Eb]
  rw[ab (bX _),dx (by omega)];unfold a8;rw[tH _ λd=>rfl];have:=yb (sz:=4) ((dD j ((s,l),(s2,al))).map aG) (by intro e he;obtain⟨f,-,rfl⟩:=dV.1 he;rfl);rw[ai,An] at this;rw[mB,this,HB]
def QC:bg:=((0,[]),(1,[1]))
def Y5:bg:=((1,[1]),(1,[1]))
theorem ahM:aq 0=QC:=by
 unfold aq bQ QC;simp[DF,sv]
theorem awb:aq 1=Y5:=by
 unfold aq bQ Y5;simp[DF]
def L0 (rows:List dt)(f N i:Nat):List bg:=(dU N).map λk=>if k<i then (oW QC (cellOf (rowAt rows k) f)).1 else if k=f then Y5 else QC
theorem awc (rows:List dt)(f N i:Nat):(L0 rows f N i).length=N:=by simp[L0]
def Y6 (rs:List e0)(n:Int):List bg×Bool :=
 if ob rs n=true then (if ((qU true rs).2.2||(qU true rs).2.1.length==0)=true then ([],false) else (L0 (qU true rs).1 ((qU true rs).2.1.headD 0) (D rs) ((qU true rs).2.1.headD 0),true)) else ([],false)



section
variable {α:Type} {op:α->bg×Int} {e:α->bg}
end
def Y7 (N:Nat)(rows:List e0):Prop:=D rows=N/\∀x∈rows,x.1.length=N/\yA x
theorem Y7.set {N:Nat}{rows:List e0}(h:Y7 N rows){i:Nat}{x:e0}(O:x.1.length=N/\yA x):Y7 N (rows.set i x):=by
 refine⟨by rw[iY];exact h.1,λy ar=>?_⟩
 rcases Ex ar with ar|rfl
 ·exact h.2 y ar
 ·exact O




def Y8 (r:e0):List bg:=r.1++[r.2]
def Cu (df:List dt)(bV:List e0):Prop:=df.map (·.2.2)=bV.map Y8
theorem Cu.len {df:List dt}{bV:List e0}(h:Cu df bV):(D df)=D bV:=by
 have:=congrArg D h
 simpa using this
theorem Cu.at_ {df:List dt}{bV:List e0}(h:Cu df bV){i:Nat}{x:dt}{r:e0}(O:df[i]?=some x)(aa:bV[i]?=some r):x.2.2=Y8 r:=by
 have:=congrArg (λl:List (List bg)=>l[i]?) h;simp only[bh,O,aa,mB,cm] at this;exact this
theorem Cu.set {df:List dt}{bV:List e0}(h:Cu df bV){i:Nat}{x:dt}{r:e0}(pz:x.2.2=Y8 r):Cu (df.set i x) (bV.set i r):=by
 unfold Cu at h ⊢;rw[Ag,Ag,h,pz]
def bx:Nat->(Nat->Rat)->Rat
 |0,_=>0
 |n+1,f=>bx n f+f n
theorem ki {n:Nat}{f g:Nat->Rat}(h:∀k,k<n->f k=g k):bx n f=bx n g:=by
 induction n with
 |zero=>rfl
 |succ n aA=>rw[bx,bx,aA λk M=>h k (by omega),h n (by omega)]
theorem vV (n:Nat)(f g:Nat->Rat):bx n (λk=>f k+g k)=bx n f+bx n g:=by
 induction n with
 |zero=>simp[bx,p5]
 |succ n aA=>rw[bx,bx,bx,aA];grind
theorem Ao (n:Nat)(c:Rat)(f:Nat->Rat):bx n (λk=>c*f k)=c*bx n f:=by
 induction n with
 |zero=>simp[bx,nF]
 |succ n aA=>rw[bx,bx,aA];grind
theorem sT {n:Nat}{f:Nat->Rat}(h:∀k,k<n->f k=0):bx n f=0:=by
 induction n with
 |zero=>rfl
 |succ n aA=>rw[bx,aA λk M=>h k (by omega),h n (by omega)];exact p5 0
theorem yK {n:Nat}{f:Nat->Rat}{j:Nat}(ah:j<n)(h:∀k,k<n->k≠j->f k=0):bx n f=f j:=by
 induction n with
 |zero=>omega
 |succ n aA =>
  rw[bx]
  by_cases aH:j=n
  ·subst aH;rw[sT λk M=>h k (by omega) (by omega)];grind
  ·rw[aA (by omega) λk M=>h k (by omega),h n (by omega) (by omega)];grind
theorem awd (n m:Nat)(f:Nat->Nat->Rat):bx n (λi=>bx m (λj=>f i j))=bx m (λj=>bx n (λi=>f i j)):=by
 induction n with
 |zero=>rw[bx,sT];intro k M;rfl
 |succ n aA =>
  rw[bx,aA,<-vV]
  rfl
abbrev eF:=Nat->Nat->Rat
def mU (N:Nat)(a y:Nat->Rat):Rat:=bx (N+1) λk=>a k*y k
def h5 (N:Nat)(A:eF)(y:Nat->Rat):Prop:=∀i,i<N->mU N (A i) y=0
def hD (A:eF)(r s:Nat):eF:=λi=>if i=s then A r else if i=r then A s else A i
def o0 (A:eF)(r c s:Nat):eF:=λi k=>if i=r then hD A r s r k/hD A r s r c else hD A r s i k-hD A r s i c*(hD A r s r k/hD A r s r c)
theorem QD (A:eF)(r s:Nat):hD A r s r=A s:=by
 unfold hD
 by_cases h:r=s
 ·simp[h]
 ·simp[h]
theorem awe {N r s:Nat}{A:eF}{y:Nat->Rat}(aa:r<N)(U:s<N):h5 N (hD A r s) y↔h5 N A y:=by
 unfold h5 hD
 constructor
 ·intro h i J
  by_cases E:i=r
  ·have:=h s U;simp at this;rw[E];exact this
  ·by_cases H:i=s
   ·have:=h r aa;rw[H]
    by_cases af:r=s
    ·omega
    ·simp[af] at this;exact this
   ·have:=h i J;simp[E,H] at this;exact this
 ·intro h i J
  by_cases H:i=s
  ·simp[H];exact h r aa
  ·by_cases E:i=r
   ·have:=h s U;rw[ag H,ab E];exact this
   ·simp[E,H];exact h i J
theorem awf (N:Nat)(a b y:Nat->Rat)(x:Rat):mU N (λk=>a k-x*b k) y=mU N a y-x*mU N b y:=by
 unfold mU;have:(λk=>(a k-x*b k)*y k)=λk=>a k*y k+(-x)*(b k*y k):=by funext k;grind
 rw[this,vV,Ao];grind
theorem ahN (N:Nat)(a y:Nat->Rat)(x:Rat):mU N (λk=>a k/x) y=mU N a y/x:=by
 unfold mU;have:(λk=>(a k/x)*y k)=λk=>(1/x)*(a k*y k):=by funext k;grind
 rw[this,Ao];grind
theorem Y9 {N r s c:Nat}{A:eF}{y:Nat->Rat}(aa:r<N)(U:s<N)(bI:A s c≠0):h5 N (o0 A r c s) y↔h5 N A y:=by
 rw[<-awe (A:=A) aa U];have aLU:hD A r s r c≠0:=by rw[QD];exact bI
 generalize cJ:hD A r s=S at *
 have d1:∀i,i≠r->mU N (o0 A r c s i) y=mU N (S i) y-S i c*(mU N (S r) y/S r c):=by
  intro i J;have:o0 A r c s i=λk=>S i k-S i c*(S r k/S r c):=by funext k;unfold o0;rw[cJ,ag J]
  rw[this,awf N (S i) (λk=>S r k/S r c) y (S i c),ahN]
 have d2:mU N (o0 A r c s r) y=mU N (S r) y/S r c:=by
  have:o0 A r c s r=λk=>S r k/S r c:=by funext k;unfold o0;rw[cJ,ab rfl]
  rw[this,ahN]
 unfold h5
 constructor
 ·intro h
  have ao:mU N (S r) y=0:=by
   have:=h r aa;rw[d2] at this;generalize mU N (S r) y=d at *;grind
  intro i J
  by_cases p3:i=r
  ·rw[p3];exact ao
  ·have:=h i J;rw[d1 i p3,ao] at this;generalize mU N (S i) y=d at *;grind
 ·intro h i J;have ao:=h r aa
  by_cases p3:i=r
  ·rw[p3,d2,ao];grind
  ·rw[d1 i p3,ao,h i J];grind
structure qW (N:Nat) (aL:eF) (p c:Nat) (bE:Nat->Nat):Prop where
 l0:p<=c
 lt:∀j,j<p->bE j<c
 unit:∀j,j<p->∀i,i<N->aL i (bE j)=if i=j then 1 else 0
 zero:∀i,p<=i->i<N->∀k,k<c->aL i k=0
theorem qW.free {N p c:Nat}{aL:eF}{bE:Nat->Nat}(h:qW N aL p c bE)(aW:∀i,p<=i->i<N->aL i c=0):qW N aL p (c+1) bE :=
 ⟨by have:=h.l0;omega,λj ah=>by have:=h.lt j ah;omega,h.unit,λi J gG k M=>by
  by_cases Cf:k=c
  ·rw[Cf];exact aW i J gG
  ·exact h.zero i J gG k (by omega)⟩
theorem qW.EF {N p c s:Nat}{aL:eF}{bE:Nat->Nat}(h:qW N aL p c bE)(aF:p<N)(U:p<=s)(Ap:s<N)(bI:aL s c≠0):qW N (o0 aL p c s) (p+1) (c+1) (λj=>if j=p then c else bE j):=by
 have cJ:∀i,i<N->∃bk,bk<N/\hD aL p s i=aL bk/\(i<p->bk=i)/\(p<=i->p<=bk):=by
  intro i J;unfold hD
  by_cases E:i=s
  ·exact⟨p,aF,by rw[ab E],by omega,by omega⟩
  ·by_cases H:i=p
   ·exact⟨s,Ap,by rw[ag E,ab H],by omega,by omega⟩
   ·exact⟨i,J,by rw[ag E,ag H],by omega,by omega⟩
 have aLV:hD aL p s p c≠0:=by rw[QD];exact bI
 have aW:∀i,p<=i->i<N->∀k,k<c->hD aL p s i k=0:=by
  intro i J gG k M;obtain⟨bk,E,H,-,aP⟩:=cJ i gG;rw[H];exact h.zero bk (aP J) E k M
 refine⟨by have:=h.l0;omega,λj ah=>?_,λj ah i J=>?_,λi J gG k M=>?_⟩
 ·show (if j=p then c else bE j)<c+1
  split
  ·omega
  ·have:=h.lt j (by omega);omega
 ·unfold o0
  by_cases HD:j=p
  ·simp only[HD,if_true]
   by_cases nf:i=p
   ·rw[ab nf,ab nf];grind
   ·rw[ag nf,ag nf];grind
  ·simp only[HD,if_false];have pL:j<p:=by omega
   have ay:hD aL p s p (bE j)=0:=aW p (bX _) aF _ (h.lt j pL);rw[ay]
   by_cases nf:i=p
   ·rw[ab nf,ag (by omega)];grind
   ·rw[ag nf];obtain⟨bk,E,H,af,aP⟩:=cJ i J;rw[H,h.unit j pL bk E];rcases ir i p with az|b2
    ·rw[af az];grind
    ·rw[ag (by have:=aP b2;omega),ag (by omega)];grind
 ·unfold o0;rw[ag (by omega)]
  by_cases Cf:k=c
  ·subst Cf;grind
  ·rw[aW i (by omega) gG k (by omega),aW p (bX _) aF k (by omega)];grind
theorem QF (N:Nat)(aL:eF)(bE:Nat->Nat):qW N aL 0 0 bE:=⟨bX _,λj ah=>by omega,λj ah=>by omega,λi J gG k M=>by omega⟩
end Go.Mini
namespace Go.Mini
open Classical
structure ej where
 aE:Nat
 to:Int
 bp:Nat
 am:Rat
theorem EI {a b:Rat}(h:a=b):a<=b:=by rw[h];exact gi
def cF:List ej->(ej->Rat)->Rat
 | [],_=>0
 |c::l,aS=>aS c+cF l aS
theorem vW {l:List ej}{aS bN:ej->Rat}(h:∀c∈l,aS c=bN c):cF l aS=cF l bN:=by
 induction l with
 |nil=>rfl
 |cons c l aA=>rw[cF,cF,h c gF,aA λx O=>h x (hf _ O)]
theorem QG (l:List ej)(aS bN:ej->Rat):cF l (λc=>aS c+bN c)=cF l aS+cF l bN:=by
 induction l with
 |nil=>simp only[cF];grind
 |cons c l aA=>rw[cF,cF,cF,aA];grind
theorem L1 (l:List ej)(aS bN:ej->Rat):cF l (λc=>aS c-bN c)=cF l aS-cF l bN:=by
 induction l with
 |nil=>simp only[cF];grind
 |cons c l aA=>rw[cF,cF,cF,aA];grind
theorem QH (l:List ej)(a:Rat)(aS:ej->Rat):cF l (λc=>a*aS c)=a*cF l aS:=by
 induction l with
 |nil=>simp only[cF];grind
 |cons c l aA=>rw[cF,cF,aA];grind
theorem L2 {l:List ej}{aS:ej->Rat}(h:∀c∈l,aS c=0):cF l aS=0:=by
 induction l with
 |nil=>rfl
 |cons c l aA=>rw[cF,h c gF,aA λx O=>h x (hf _ O)];grind
theorem EJ {l:List ej}{aS bN:ej->Rat}(h:∀c∈l,aS c<=bN c):cF l aS<=cF l bN:=by
 induction l with
 |nil=>exact gi
 |cons c l aA =>
  have E:=h c gF;have H:=aA λx O=>h x (hf _ O);rw[cF,cF];grind
theorem yL {l:List ej}{aS:ej->Rat}(h:∀c∈l,0<=aS c):0<=cF l aS:=by
 have:=EJ (l:=l) (aS:=λ_=>0) (bN:=aS) h;rwa [L2 λ_ _=>rfl] at this
theorem Za {l:List ej}{aS:ej->Rat}(h:∀c∈l,0<=aS c)(U:cF l aS<=0):∀c∈l,aS c=0:=by
 induction l with
 |nil=>intro c G;cases G
 |cons c l aA =>
  rw[cF] at U;have E:=h c gF;have H:=yL λx O=>h x (hf c O);intro x O;rcases hP.1 O with rfl|O
  ·grind
  ·exact aA (λy ar=>h y (hf _ ar)) (by grind) x O
theorem awg {l:List ej}{aS bN:ej->Rat}(h:∀c∈l,aS c<=bN c){lP:ej}(G:lP∈l)(az:aS lP<bN lP):cF l aS<cF l bN:=by
 by_cases U:cF l aS<cF l bN
 ·exact U
 ·have:=Za (l:=l) (aS:=λc=>bN c-aS c) (λc G=>by have:=h c G;grind) (by rw[L1];grind) lP G;grind
theorem L3 {l:List ej}{aS:ej->Rat}(h:0<cF l aS):∃c∈l,0<aS c:=by
 apply mg;intro aH
 have:=EJ (l:=l) (aS:=aS) (bN:=λ_=>0) λc G=>by
  apply mg;intro H;exact aH ⟨c,G,by grind⟩
 rw[L2 (aS:=λ_=>(0:Rat)) λ_ _=>rfl] at this;grind
theorem L4 {n:Nat}{f g:Nat->Rat}(h:∀k,k<n->f k<=g k):bx n f<=bx n g:=by
 induction n with
 |zero=>exact gi
 |succ n aA =>
  have E:=h n (by omega);have H:=aA λk M=>h k (by omega);rw[bx,bx];grind
theorem ahO {n:Nat}{f:Nat->Rat}(h:∀k,k<n->0<=f k):0<=bx n f:=by
 have:=L4 (n:=n) (f:=λ_=>0) (g:=f) h;rwa [sT λ_ _=>rfl] at this
theorem HE (n:Nat)(f g:Nat->Rat):bx n (λk=>f k-g k)=bx n f-bx n g:=by
 induction n with
 |zero=>simp only[bx];grind
 |succ n aA=>rw[bx,bx,bx,aA];grind
theorem awh {n:Nat}{f:Nat->Rat}(h:∀k,k<n->0<=f k)(U:bx n f<=0):∀k,k<n->f k=0:=by
 induction n with
 |zero=>intro k M;omega
 |succ n aA =>
  rw[bx] at U;have E:=h n (by omega);have H:=ahO (n:=n) (f:=f) λk M=>h k (by omega);intro k M
  by_cases HF:k=n
  ·subst HF;grind
  ·exact aA (λk M=>h k (by omega)) (by grind) k (by omega)
def p6 (C:Nat->Prop)(c:ej):Prop:=∃i:Nat,c.to=i/\C i
theorem Zb {n:Nat}(C:Nat->Prop)(gO:∀i,C i->i<n)(l:List ej)(a:ej->Rat):bx n (λi=>if C i then cF l (λc=>if c.to=(i:Int) then a c else 0) else 0)=cF l (λc=>if p6 C c then a c else 0):=by
 induction l with
 |nil=>exact sT λk _=>by split<;>rfl
 |cons c l aA =>
  rw[cF,<-aA]
  have e:(λi:Nat=>if C i then cF (c::l) (λc=>if c.to=(i:Int) then a c else 0) else 0)=λi=>(if C i then (if c.to=(i:Int) then a c else 0) else 0)+(if C i then cF l (λc=>if c.to=(i:Int) then a c else 0) else 0):=by
   funext i
   split
   ·rw[cF]
   ·grind
  rw[e,vV]
  congr 1
  by_cases h:p6 C c
  ·obtain⟨i,J,Zc⟩:=h
   rw[yK (gO i Zc) λk M pg=>by
    split
    ·rw[ag (by omega)]
    ·rfl]
   rw[ab Zc,ab J,ab ⟨i,J,Zc⟩]
  ·rw[ag h];refine sT λk M=>?_
   split
   ·rw[ag λfF=>h ⟨k,fF,by assumption⟩]
   ·rfl
theorem Zd {n:Nat}{l:List ej}(av:∀c∈l,c.aE<n)(b:Nat->ej->Rat):bx n (λk=>cF l (λc=>if c.aE=k then b k c else 0))=cF l (λc=>b c.aE c):=by
 induction l with
 |nil=>exact sT λk _=>rfl
 |cons c l aA =>
  rw[cF,<-aA λx O=>av x (hf _ O)];have e:(λk:Nat=>cF (c::l) (λc=>if c.aE=k then b k c else 0))=λk=>(if c.aE=k then b k c else 0)+cF l (λc=>if c.aE=k then b k c else 0):=rfl;rw[e,vV]
  congr 1
  rw[yK (av c gF) λk _ M=>ag (Ne.symm M),ab rfl]
structure Day where
 n:Nat
 cash:Nat->Rat
 cX:List ej
structure Day.dk (d:Day):Prop where
 aE:∀c∈d.cX,c.aE<d.n
 to:∀c∈d.cX,c.to<d.n
 bp:∀c∈d.cX,c.bp<10
 am:∀c∈d.cX,0<=c.am
 cash:∀i,i<d.n->0<=d.cash i
def Day.bz (d:Day)(k r:Nat):Rat:=cF d.cX λc=>if c.aE=k/\c.bp<r then c.am else 0
def Day.S (d:Day)(k r:Nat):Rat:=cF d.cX λc=>if c.aE=k/\c.bp=r then c.am else 0
theorem Day.QI (d:Day)(k:Nat):d.bz k 0=0:=L2 λc _=>ag (by omega)
theorem Day.sU (d:Day)(k r:Nat):d.bz k (r+1)=d.bz k r+d.S k r:=by
 unfold Day.bz Day.S;rw[<-QG];refine vW λc _=>?_
 by_cases E:c.aE=k/\c.bp<r
 ·rw[ab ⟨E.1,by omega⟩,ab E,ag (by omega)];grind
 ·rw[ag E]
  by_cases H:c.aE=k/\c.bp=r
  ·rw[ab ⟨H.1,by omega⟩,ab H];grind
  ·rw[ag (by omega),ag H];grind
theorem Day.dk.QJ {d:Day}(Y:d.dk)(k r:Nat):0<=d.S k r:=yL λc G=>by
 split
 ·exact Y.am c G
 ·exact gi
theorem Day.dk.sV {d:Day}(Y:d.dk)(k:Nat){r s:Nat}(h:r<=s):d.bz k r<=d.bz k s:=by
 induction s with
 |zero =>
      obtain rfl:r=0:=by omega
      exact gi
 |succ s aA =>
  by_cases aa:r=s+1
  ·rw[aa];exact gi
  ·have E:=aA (by omega);have H:=Y.QJ k s;rw[d.sU];grind
theorem Day.dk.awi {d:Day}(Y:d.dk)(k r:Nat):0<=d.bz k r:=by
 have:=Y.sV k (fs r);rwa [d.QI] at this
theorem Day.dk.QK {d:Day}(Y:d.dk){c:ej}(G:c∈d.cX):c.am<=d.S c.aE c.bp:=by
 have:∀l:List ej,(∀x∈l,0<=x.am)->c∈l->c.am<=cF l λx=>if x.aE=c.aE/\x.bp=c.bp then x.am else 0:=by
  intro l
  induction l with
  |nil=>intro _ h;cases h
  |cons x l aA =>
   intro E H;rw[cF]
   have af:0<=cF l λx=>if x.aE=c.aE/\x.bp=c.bp then x.am else 0:=yL λy ar=>by
    split
    ·exact E y (hf _ ar)
    ·exact gi
   rcases hP.1 H with rfl|H
   ·rw[ab ⟨rfl,rfl⟩];grind
   ·have aP:=aA (λy ar=>E y (hf _ ar)) H;have bt:=E x gF
    split<;>grind
 exact this d.cX Y.am G
def Day.w (d:Day)(c:ej):Rat:=c.am/d.S c.aE c.bp
theorem Day.dk.pB {d:Day}(Y:d.dk){c:ej}(G:c∈d.cX):0<=d.w c:=by
 unfold Day.w;have E:=Y.am c G;have H:=Y.QJ c.aE c.bp;rw[HG]
 exact ahP E (by
  rcases Rat.le_iff_lt_or_eq.1 H with h|h
  ·exact Rat.le_of_lt (ahQ.2 h)
  ·rw[<-h];exact EI Rat.inv_zero.symm)
theorem Day.dk.L5 {d:Day}(Y:d.dk){c:ej}(G:c∈d.cX)(h:0<c.am):0<d.w c:=by
 unfold Day.w;have H:=Y.QK G;rw[HG];exact L6 h (ahQ.2 (by grind))
theorem Day.LG {d:Day}{c:ej}(h:c.am=0):d.w c=0:=by
 unfold Day.w;rw[h,HG,Cv]
theorem Day.Cw {d:Day}{c:ej}(h:0<d.S c.aE c.bp):d.w c*d.S c.aE c.bp=c.am:=by
 unfold Day.w;grind
theorem Day.dk.L7 {d:Day}(Y:d.dk)(C:Nat->Prop)(f:Nat->Nat)(cJ:∀k,C k->0<d.S k (f k))(x:Nat->Rat):cF d.cX (λc=>if C c.aE/\c.bp=f c.aE then d.w c*x c.aE else 0)=bx d.n (λk=>if C k then x k else 0):=by
 rw[<-Zd Y.aE λk c=>if C k/\c.bp=f k then d.w c*x k else 0];refine ki λk M=>?_
 by_cases gO:C k
 ·rw[ab gO];have ib:=cJ k gO
  have e:cF d.cX (λc=>if c.aE=k then (if C k/\c.bp=f k then d.w c*x k else 0) else 0)=cF d.cX λc=>(x k/d.S k (f k))*(if c.aE=k/\c.bp=f k then c.am else 0):=by
   refine vW λc _=>?_
   by_cases E:c.aE=k
   ·by_cases H:c.bp=f k
    ·rw[ab E,ab ⟨gO,H⟩,ab ⟨E,H⟩];unfold Day.w;rw[E,H];grind
    ·rw[ab E,ag (λh=>H h.2),ag (λh=>H h.2)];grind
   ·rw[ag E,ag (λh=>E h.1)];grind
  rw[e,QH];show x k/d.S k (f k)*d.S k (f k)=x k;grind
 ·rw[ag gO]
  exact L2 λc _=>by
   split
   ·rw[ag λh=>gO h.1]
   ·rfl
end Go.Mini
namespace Go.Mini
open Classical
def pos (x:Rat):Rat:=if x<=0 then 0 else x
theorem HH (x:Rat):0<=pos x:=by unfold pos;split<;>grind
theorem QL (x:Rat):x<=pos x:=by unfold pos;split<;>grind
theorem QM {x y:Rat}(h:x<=y):pos x<=pos y:=by unfold pos;split<;>split<;>grind
theorem sW {x:Rat}(h:0<=x):pos x=x:=by unfold pos;split<;>grind
theorem vX {x:Rat}(h:x<=0):pos x=0:=ab h
theorem Aq {a x y:Rat}(aM:0<=a)(h:x<=y):a*x<=a*y:=Rat.mul_le_mul_of_nonneg_left h aM
theorem uv {a x:Rat}(aM:0<=a)(h:0<=x):0<=a*x:=ahP aM h
def Day.q (d:Day)(f:Nat->Nat)(h:Nat->Rat)(c:ej):Rat:=if c.bp<f c.aE then c.am else if c.bp=f c.aE then d.w c*pos (h c.aE-d.bz c.aE c.bp) else 0
def Day.l (d:Day)(f:Nat->Nat)(P:Nat->Prop)(h:Nat->Rat)(c:ej):Rat:=if c.bp<f c.aE then c.am else if c.bp=f c.aE/\P c.aE then d.w c*(h c.aE-d.bz c.aE c.bp) else 0
def Day.eX (d:Day)(a:ej->Rat)(i:Nat):Rat:=d.cash i+cF d.cX λc=>if c.to=(i:Int) then a c else 0
theorem Day.Cx {d:Day}{a b:ej->Rat}(h:∀c∈d.cX,a c<=b c)(i:Nat):d.eX a i<=d.eX b i:=by
 unfold Day.eX
 have:=EJ (l:=d.cX) (aS:=λc=>if c.to=(i:Int) then a c else 0) (bN:=λc=>if c.to=(i:Int) then b c else 0) λc G=>by
  try dsimp only
  split
  ·exact h c G
  ·exact gi
 grind
theorem Day.ahR {d:Day}{a b:ej->Rat}(h:∀c∈d.cX,a c=b c)(i:Nat):d.eX a i=d.eX b i:=by
 unfold Day.eX
 congr 1
 exact vW λc G=>by rw[h c G]
theorem Day.QN (d:Day)(a b:ej->Rat)(i:Nat):d.eX a i-d.eX b i=cF d.cX λc=>if c.to=(i:Int) then a c-b c else 0:=by
 unfold Day.eX
 have:(λc:ej=>if c.to=(i:Int) then a c-b c else 0)=λc=>(if c.to=(i:Int) then a c else 0)-(if c.to=(i:Int) then b c else 0):=by
  funext c;split<;>grind
 rw[this,L1];grind
def Day.gb (d:Day)(C:Nat->Prop)(x:Nat->Rat):Rat:=bx d.n λi=>if C i then x i else 0
theorem Day.awj (d:Day)(C:Nat->Prop)(x y:Nat->Rat):d.gb C (λi=>x i-y i)=d.gb C x-d.gb C y:=by
 unfold Day.gb;rw[<-HE];exact ki λk _=>by split<;>grind
theorem Day.awk (d:Day)(C:Nat->Prop)(x y:Nat->Rat):d.gb C (λi=>x i+y i)=d.gb C x+d.gb C y:=by
 unfold Day.gb;rw[<-vV];exact ki λk _=>by split<;>grind
theorem Day.ahS {d:Day}{C:Nat->Prop}{x y:Nat->Rat}(h:∀i,i<d.n->C i->x i<=y i):d.gb C x<=d.gb C y:=by
 refine L4 λk M=>?_
 by_cases G:C k
 ·rw[ab G,ab G];exact h k M G
 ·rw[ag G,ag G];exact gi
theorem Day.Cy {d:Day}{C:Nat->Prop}{x y:Nat->Rat}(h:∀i,i<d.n->C i->x i=y i):d.gb C x=d.gb C y:=by
 refine ki λk M=>?_
 split
 ·exact h k M (by assumption)
 ·rfl
theorem Day.QO {d:Day}{C:Nat->Prop}(gO:∀i,C i->i<d.n)(a:ej->Rat):d.gb C (d.eX a)=d.gb C d.cash+cF d.cX λc=>if p6 C c then a c else 0:=by
 rw[<-Zb C gO];show bx d.n _=bx d.n _+_;rw[<-vV];refine ki λk _=>?_;unfold Day.eX
 split<;>grind
def Day.closed (d:Day)(f:Nat->Nat)(C:Nat->Prop):Prop:=∀c∈d.cX,C c.aE->c.bp=f c.aE->0<c.am->p6 C c
def Day.cap (d:Day)(f:Nat->Nat)(g:Nat->Rat)(C:Nat->Prop)(k:Nat):Rat:=if C k then d.bz k (f k) else g k
section
variable {d:Day} {f:Nat->Nat} {P:Nat->Prop} {h g:Nat->Rat} {C:Nat->Prop} {c:ej}
theorem Day.ahT (E:c.bp<f c.aE):d.l f P h c=c.am:=by unfold Day.l;rw[ab E]
theorem Day.ahU (E:c.bp=f c.aE)(H:P c.aE):d.l f P h c=d.w c*(h c.aE-d.bz c.aE c.bp):=by
 unfold Day.l;rw[ag (by omega),ab ⟨E,H⟩]
theorem Day.Ze (E:¬ c.bp<f c.aE)(H:¬ (c.bp=f c.aE/\P c.aE)):d.l f P h c=0:=by
 unfold Day.l;rw[ag E,ag H]
theorem Day.awl (E:c.bp<f c.aE):d.q f h c=c.am:=by unfold Day.q;rw[ab E]
theorem Day.awm (E:c.bp=f c.aE):d.q f h c=d.w c*pos (h c.aE-d.bz c.aE c.bp):=by
 unfold Day.q;rw[ag (by omega),ab E]
theorem Day.awn (E:¬ c.bp<f c.aE)(H:¬ c.bp=f c.aE):d.q f h c=0:=by
 unfold Day.q;rw[ag E,ag H]
theorem L8 (h:¬ C c.aE):d.q f (d.cap f g C) c=d.q f g c:=by
 unfold Day.q Day.cap;rw[ag h]
theorem HI (h:C c.aE):d.q f (d.cap f g C) c=if c.bp<f c.aE then c.am else 0:=by
 by_cases E:c.bp<f c.aE
 ·rw[ab E,Day.awl E]
 ·rw[ag E]
  by_cases H:c.bp=f c.aE
  ·rw[Day.awm H];unfold Day.cap;rw[ab h,H,vX (by grind),nF]
  ·rw[Day.awn E H]
end
structure Inv (d:Day) (f:Nat->Nat) (g:Nat->Rat):Prop where
 le:∀i,f i<=10
 sup:∀i,i<d.n->d.eX (d.q f g) i<=g i
 cx:∀i,i<d.n->f i<10->d.bz i (f i)<=g i
 J:∀i,i<d.n->f i<10->g i<d.bz i (f i+1)
 cX:∀C:Nat->Prop,(∃i,C i)->(∀i,C i->i<d.n/\f i<10)->d.closed f C->d.gb C (d.eX (d.q f (d.cap f g C)))<d.gb C λi=>d.bz i (f i)
theorem Inv.rQ {d:Day}{f:Nat->Nat}{g:Nat->Rat}(h:Inv d f g){i:Nat}(J:i<d.n)(aK:f i<10):0<d.S i (f i):=by
 have E:=h.cx i J aK;have H:=h.J i J aK;rw[d.sU] at H;grind
theorem Inv.start {d:Day}(Y:d.dk):Inv d (λ_=>10) (d.eX λc=>c.am) :=
 ⟨λ_=>bX _,λi _=>d.Cx (λc G=>by
  unfold Day.q;rw[ab (Y.bp c G)];exact gi) i,λi _ h=>absurd h (by omega),λi _ h=>absurd h (by omega),λC ⟨i,J⟩ h=>absurd (h i J).2 (by omega)⟩
theorem Inv.Zf {d:Day}{f:Nat->Nat}{g:Nat->Rat}(J:Inv d f g)(Y:d.dk){C:Nat->Prop}(E:∃i,C i)(H:∀i,C i->i<d.n/\f i<10)(af:d.closed f C)(L:ej->Rat)(e:Nat->Rat)(he:∀k,k<d.n->C k->0<=e k)
  (gw:∀c∈d.cX,p6 C c->L c<=d.q f (d.cap f g C) c+if C c.aE/\c.bp=f c.aE then d.w c*e c.aE else 0):d.gb C (d.eX L)<d.gb C λi=>d.bz i (f i)+e i:=by
 have b6:=J.cX C E H af;have gO:∀i,C i->i<d.n:=λi h=>(H i h).1;have dd:=Y.L7 C f (λk M=>J.rQ (H k M).1 (H k M).2) e;rw[Day.QO gO] at b6 ⊢;rw[Day.awk]
 have ey:cF d.cX (λc=>if p6 C c then L c else 0)<=cF d.cX λc=>(if p6 C c then d.q f (d.cap f g C) c else 0)+(if C c.aE/\c.bp=f c.aE then d.w c*e c.aE else 0):=by
  refine EJ λc G=>?_
  have ao:0<=if C c.aE/\c.bp=f c.aE then d.w c*e c.aE else 0:=by
   split
   ·exact uv (Y.pB G) (he _ (Y.aE c G) (by rename_i h;exact h.1))
   ·exact gi
  by_cases ct:p6 C c
  ·rw[ab ct,ab ct];exact gw c G ct
  ·rw[ag ct,ag ct];grind
 rw[QG,dd] at ey;have kj:d.gb C e=bx d.n λk=>if C k then e k else 0:=rfl;rw[<-kj] at ey;grind
structure iH (d:Day) (f:Nat->Nat) (g:Nat->Rat) (P:Nat->Prop) (h:Nat->Rat):Prop where
 gI:∀i,P i->i<d.n/\f i<10
 QP:∀C:Nat->Prop,(∃i,C i)->(∀i,C i->P i)->¬ d.closed f C
 sys:∀i,i<d.n->h i=d.eX (d.l f P h) i
 le:∀i,i<d.n->h i<=g i
 ge:∀i,P i->d.bz i (f i)<h i
theorem Di {d:Day}{f:Nat->Nat}{g:Nat->Rat}(J:Inv d f g)(Y:d.dk){P:Nat->Prop}(gv:∀i,P i->i<d.n/\f i<10)(bL:∀C:Nat->Prop,(∃i,C i)->(∀i,C i->P i)->¬ d.closed f C)(x:Nat->Rat)
  (O:∀i,i<d.n->(cF d.cX λc=>if c.to=(i:Int) then (if c.bp=f c.aE/\P c.aE then d.w c*x c.aE else 0) else 0)<=x i):∀i,i<d.n->0<=x i:=by
 have key:∀i,P i->0<=x i:=by
  intro i0 sw;apply mg;intro kM;obtain⟨C,uw⟩:∃C:Nat->Prop,∀i,C i↔P i/\x i<0:=⟨λi=>P i/\x i<0,λ_=>Iff.rfl⟩;have gO:∀i,C i->i<d.n:=λi h=>(gv i ((uw i).1 h).1).1;refine bL C ⟨i0,(uw i0).2 ⟨sw,by grind⟩⟩ (λi h=>((uw i).1 h).1) ?_
  have ay:=Zb C gO d.cX λc=>if c.bp=f c.aE/\P c.aE then d.w c*x c.aE else 0;have aB:=Y.L7 C f (λk M=>J.rQ (gv k ((uw k).1 M).1).1 (gv k ((uw k).1 M).1).2) x
  have bG:bx d.n (λi=>if C i then cF d.cX (λc=>if c.to=(i:Int) then (if c.bp=f c.aE/\P c.aE then d.w c*x c.aE else 0) else 0) else 0)<=bx d.n (λk=>if C k then x k else 0):=by
   refine L4 λk M=>?_
   by_cases G:C k
   ·rw[ab G,ab G];exact O k M
   ·rw[ag G,ag G];exact gi
  rw[ay,<-aB] at bG;have dp:=Za (l:=d.cX) (aS:=λc=>(if p6 C c then (if c.bp=f c.aE/\P c.aE then d.w c*x c.aE else 0) else 0)-(if C c.aE/\c.bp=f c.aE then d.w c*x c.aE else 0)) (λc G=>?_) (by rw[L1];grind)
  ·intro c G gP h6 ux;apply mg;intro ct;have:=dp c G
   try dsimp only at this
   rw[ag ct,ab ⟨gP,h6⟩] at this;have E:=Y.L5 G ux;have H:=((uw _).1 gP).2;have af:0<d.w c*(-x c.aE):=L6 E (by grind);grind
  ·try dsimp only
   have E:=Y.pB G
   have fW:((if C c.aE/\c.bp=f c.aE then d.w c*x c.aE else 0)=(if c.bp=f c.aE/\P c.aE then d.w c*x c.aE else 0)/\(if C c.aE/\c.bp=f c.aE then d.w c*x c.aE else 0)<=0)\/((if C c.aE/\c.bp=f c.aE then d.w c*x c.aE else 0)=0/\0<=(if c.bp=f c.aE/\P c.aE then d.w c*x c.aE else 0)):=by
    by_cases gP:C c.aE/\c.bp=f c.aE
    ·left
     have H:=(uw _).1 gP.1;have af:0<=d.w c*(-x c.aE):=uv E (by have:=H.2;grind);have aP:c.bp=f c.aE/\P c.aE:=⟨gP.2,H.1⟩;rw[ab gP,ab aP];exact⟨rfl,by grind⟩
    ·right
     rw[ag gP];refine⟨rfl,?_⟩
     split
     ·rename_i H;refine uv E ?_;apply mg;intro h;exact gP ⟨(uw _).2 ⟨H.2,by grind⟩,H.1⟩
     ·exact gi
   generalize (if C c.aE/\c.bp=f c.aE then d.w c*x c.aE else 0)=B at *;generalize (if c.bp=f c.aE/\P c.aE then d.w c*x c.aE else 0)=A at *;rcases fW with ⟨H,af⟩|⟨H,af⟩<;>split<;>grind
 intro i ct;refine vY ?_ (O i ct);refine yL λc G=>?_
 split
 ·split
  ·rename_i h;exact uv (Y.pB G) (key _ h.2)
  ·exact gi
 ·exact gi
theorem Day.awo (d:Day)(f:Nat->Nat)(P:Nat->Prop)(h cn:Nat->Rat)(c:ej):d.l f P cn c-d.l f P h c=if c.bp=f c.aE/\P c.aE then d.w c*(cn c.aE-h c.aE) else 0:=by
 unfold Day.l
 by_cases E:c.bp<f c.aE
 ·rw[ab E,ab E,ag (by omega)];grind
 ·rw[ag E,ag E]
  split<;>grind
theorem awp {d:Day}{f:Nat->Nat}{g:Nat->Rat}(J:Inv d f g)(Y:d.dk){P:Nat->Prop}(gv:∀i,P i->i<d.n/\f i<10)(bL:∀C:Nat->Prop,(∃i,C i)->(∀i,C i->P i)->¬ d.closed f C){h cn:Nat->Rat}
  (e:∀i,i<d.n->h i=d.eX (d.l f P h) i) (e':∀i,i<d.n->cn i=d.eX (d.l f P cn) i):∀i,i<d.n->h i=cn i:=by
 have main:∀h cn:Nat->Rat,(∀i,i<d.n->h i=d.eX (d.l f P h) i)->(∀i,i<d.n->cn i=d.eX (d.l f P cn) i)->∀i,i<d.n->0<=cn i-h i:=by
  intro h cn e e';refine Di J Y gv bL (λi=>cn i-h i) λi ct=>?_;rw[e i ct,e' i ct,d.QN];refine EI (vW λc G=>?_);rw[d.awo]
 intro i ct;have E:=main h cn e e' i ct;have H:=main cn h e' e i ct;grind
theorem awq {d:Day}{f:Nat->Nat}{g:Nat->Rat}(J:Inv d f g)(Y:d.dk){P:Nat->Prop}(gv:∀i,P i->i<d.n/\f i<10)(bL:∀C:Nat->Prop,(∃i,C i)->(∀i,C i->P i)->¬ d.closed f C)(x:Nat->Rat)
  (O:∀i,i<d.n->x i=cF d.cX λc=>if c.to=(i:Int) then (if c.bp=f c.aE/\P c.aE then d.w c*x c.aE else 0) else 0):∀i,i<d.n->x i=0:=by
 intro i ct;have E:=Di J Y gv bL x (λi ct=>EI (O i ct).symm) i ct;have H:=Di J Y gv bL (λi => -x i) (λi ct=>?_) i ct
 ·grind
 ·rw[O i ct];refine EI ?_;have:∀aS:ej->Rat,-(cF d.cX aS)=cF d.cX λc=>(-1)*aS c:=λaS=>by rw[QH];grind
  rw[this];refine vW λc G=>?_
  split
  ·split<;>grind
  ·grind
theorem Day.awr {d:Day}(Y:d.dk){f:Nat->Nat}{P:Nat->Prop}{h g:Nat->Rat}(hle:∀i,i<d.n->h i<=g i){c:ej}(G:c∈d.cX):d.l f P h c<=d.q f g c:=by
 unfold Day.l Day.q
 by_cases E:c.bp<f c.aE
 ·rw[ab E,ab E];exact gi
 ·rw[ag E,ag E]
  by_cases H:c.bp=f c.aE
  ·rw[ab H];have hw:=Y.pB G
   by_cases af:P c.aE
   ·rw[ab ⟨H,af⟩];refine Aq hw (vY ?_ (QL _));have:=hle _ (Y.aE c G);grind
   ·rw[ag λh=>af h.2];exact uv hw (HH _)
  ·rw[ag λh=>H h.1,ag H];exact gi
theorem iH.start {d:Day}(Y:d.dk){f:Nat->Nat}{g:Nat->Rat}(J:Inv d f g){h:Nat->Rat}(U:∀i,i<d.n->h i=d.eX (d.l f (λ_=>False) h) i):iH d f g (λ_=>False) h :=
 ⟨λi h=>h.elim,λC ⟨i,h⟩ cn=>(cn i h).elim,U,λi ct=>by
  rw[U i ct];refine vY (d.Cx (b:=d.q f g) (λc G=>?_) i) (J.sup i ct);unfold Day.l Day.q
  by_cases E:c.bp<f c.aE
  ·rw[ab E,ab E];exact gi
  ·rw[ag E,ag E,ag λh=>h.2]
   split
   ·exact uv (Y.pB G) (HH _)
   ·exact gi,λi h=>h.elim⟩
def sX (d:Day)(f:Nat->Nat)(P:Nat->Prop)(h:Nat->Rat)(i:Nat):Prop:=P i\/(i<d.n/\f i<10/\d.bz i (f i)<h i)
theorem iH.HJ {d:Day}{f:Nat->Nat}{g:Nat->Rat}{P:Nat->Prop}{h:Nat->Rat}(aF:iH d f g P h):∀i,sX d f P h i->i<d.n/\f i<10:=λi aH=>aH.elim (aF.gI i) λh=>⟨h.1,h.2.1⟩
theorem iH.Zg {d:Day}{f:Nat->Nat}{g:Nat->Rat}{P:Nat->Prop}{h:Nat->Rat}(aF:iH d f g P h):∀i,sX d f P h i->d.bz i (f i)<h i:=λi aH=>aH.elim (aF.ge i) λh=>h.2.2
theorem iH.ahV {d:Day}(Y:d.dk){f:Nat->Nat}{g:Nat->Rat}(J:Inv d f g){P:Nat->Prop}{h:Nat->Rat}(aF:iH d f g P h):∀C:Nat->Prop,(∃i,C i)->(∀i,C i->sX d f P h i)->¬ d.closed f C:=by
 intro C E H af;have aK:∀i,C i->i<d.n/\f i<10:=λi G=>aF.HJ i (H i G)
 have lD:=J.Zf Y E aK af (d.l f P h) (λk=>if P k then h k-d.bz k (f k) else 0) (λk _ M=>by
  try dsimp only
  split
  ·have:=aF.ge k (by assumption);grind
  ·exact gi) λc G _=>by
   by_cases ey:C c.aE
   ·rw[HI ey]
    by_cases b6:c.bp<f c.aE
    ·rw[Day.ahT b6,ab b6,ag (λh=>by have:=h.2;omega)];grind
    ·rw[ag b6]
     by_cases dd:c.bp=f c.aE
     ·have pC:C c.aE/\c.bp=f c.aE:=⟨ey,dd⟩;rw[ab pC]
      by_cases kj:P c.aE
      ·rw[Day.ahU dd kj,ab kj,dd];grind
      ·rw[Day.Ze b6 (λh=>kj h.2),ag kj];grind
     ·rw[Day.Ze b6 (λh=>dd h.1),ag λh=>dd h.2];grind
   ·rw[L8 ey,ag λh=>ey h.1];have:=Day.awr Y (P:=P) (f:=f) aF.le G;grind
 have e:d.gb C (d.eX (d.l f P h))=d.gb C h:=Day.Cy λi ct _=>(aF.sys i ct).symm;rw[e] at lD
 have:d.gb C (λi=>d.bz i (f i)+if P i then h i-d.bz i (f i) else 0)<=d.gb C h:=by
  refine Day.ahS λi ct G=>?_;have:=aF.Zg i (H i G)
  split<;>grind
 grind
theorem iH.next {d:Day}(Y:d.dk){f:Nat->Nat}{g:Nat->Rat}(J:Inv d f g){P:Nat->Prop}{h cn:Nat->Rat}(aF:iH d f g P h)(U:∀i,i<d.n->cn i=d.eX (d.l f (sX d f P h) cn) i):iH d f g (sX d f P h) cn:=by
 have bL:=aF.ahV Y J
 have tW:∀i,i<d.n->0<=cn i-h i:=by
  refine Di J Y aF.HJ bL (λi=>cn i-h i) λi ct=>?_;rw[U i ct,aF.sys i ct,d.QN];refine EJ λc G=>?_;have hw:=Y.pB G
  split
  ·unfold Day.l
   by_cases E:c.bp<f c.aE
   ·rw[ab E,ab E,ag (by omega)];grind
   ·rw[ag E,ag E]
    by_cases H:c.bp=f c.aE
    ·by_cases af:sX d f P h c.aE
     ·rw[ab ⟨H,af⟩,ab ⟨H,af⟩]
      by_cases aP:P c.aE
      ·rw[ab ⟨H,aP⟩];grind
      ·rw[ag λh=>aP h.2];have bt:=aF.Zg _ af;have:=uv hw (show 0<=h c.aE-d.bz c.aE c.bp by rw[H];grind);grind
     ·rw[ag λh=>af h.2,ag λh=>af h.2,ag λh=>af (.inl h.2)];grind
    ·rw[ag λh=>H h.1,ag λh=>H h.1,ag λh=>H h.1];grind
  ·exact gi
 have hle:∀i,i<d.n->0<=g i-cn i:=by
  refine Di J Y aF.HJ bL (λi=>g i-cn i) λi ct=>?_;refine vY ?_ (show d.eX (d.q f g) i-cn i<=g i-cn i by have:=J.sup i ct;grind);rw[U i ct,d.QN];refine EJ λc G=>?_;have hw:=Y.pB G
  split
  ·unfold Day.l Day.q
   by_cases E:c.bp<f c.aE
   ·rw[ab E,ab E,ag (by omega)];grind
   ·rw[ag E,ag E]
    by_cases H:c.bp=f c.aE
    ·rw[ab H]
     by_cases af:sX d f P h c.aE
     ·rw[ab ⟨H,af⟩,ab ⟨H,af⟩];have:=Aq hw (QL (g c.aE-d.bz c.aE c.bp));grind
     ·rw[ag λh=>af h.2,ag λh=>af h.2];have:=uv hw (HH (g c.aE-d.bz c.aE c.bp));grind
    ·rw[ag λh=>H h.1,ag H,ag λh=>H h.1];grind
  ·exact gi
 exact⟨aF.HJ,bL,U,λi ct=>by have:=hle i ct;grind,λi aH=>by
  have E:=aF.Zg i aH;have H:=tW i (aF.HJ i aH).1;grind⟩
theorem iH.stop {d:Day}(Y:d.dk){f:Nat->Nat}{g:Nat->Rat}{P:Nat->Prop}{h:Nat->Rat}(aF:iH d f g P h)(J:Inv d f g)(L9:∀i,i<d.n->f i<10->d.bz i (f i)<h i->P i):∀i,i<d.n->h i=d.eX (d.q f h) i:=by
 intro i ct;rw[aF.sys i ct];refine d.ahR (λc G=>?_) i;unfold Day.l Day.q
 by_cases E:c.bp<f c.aE
 ·rw[ab E,ab E]
 ·rw[ag E,ag E]
  by_cases H:c.bp=f c.aE
  ·rw[ab H]
   by_cases af:P c.aE
   ·rw[ab ⟨H,af⟩,sW];have:=aF.ge _ af;rw[H];grind
   ·rw[ag λh=>af h.2,vX]
    ·grind
    ·apply mg;intro aH;refine af (L9 _ (Y.aE c G) (by rw[<-H];exact Y.bp c G) ?_);rw[<-H];grind
  ·rw[ag λh=>H h.1,ag H]
end Go.Mini
namespace Go.Mini
open Classical
def Day.fv (d:Day)(h:Nat->Rat)(c:ej):Rat:=if d.bz c.aE (c.bp+1)<=h c.aE then c.am else d.w c*pos (h c.aE-d.bz c.aE c.bp)
theorem Day.dk.QQ {d:Day}(Y:d.dk){c:ej}(G:c∈d.cX){x:Rat}(h:x<=d.S c.aE c.bp):d.w c*x<=c.am:=by
 have ao:=Y.am c G;have E:=Y.QK G
 by_cases cJ:0<d.S c.aE c.bp
 ·have:=Aq (Y.pB G) h;rw[Day.Cw cJ] at this;exact this
 ·rw[Day.LG (by grind),Cv];exact ao
theorem Day.dk.Ma {d:Day}(Y:d.dk)(h:Nat->Rat){c:ej}(G:c∈d.cX):d.fv h c<=c.am:=by
 unfold Day.fv
 split
 ·exact gi
 ·rename_i aH;refine Y.QQ G ?_;rw[d.sU] at aH;have:=Y.QJ c.aE c.bp;unfold pos
  split<;>grind
theorem Day.dk.Zh {d:Day}(Y:d.dk)(h:Nat->Rat){c:ej}(G:c∈d.cX):0<=d.fv h c:=by
 unfold Day.fv
 split
 ·exact Y.am c G
 ·exact uv (Y.pB G) (HH _)
theorem Day.dk.ahW {d:Day}(Y:d.dk){h cn:Nat->Rat}{c:ej}(G:c∈d.cX)(hle:h c.aE<=cn c.aE):d.fv h c<=d.fv cn c:=by
 by_cases E:d.bz c.aE (c.bp+1)<=cn c.aE
 ·have:=Y.Ma h G;unfold Day.fv at this ⊢;rw[ab E];exact this
 ·unfold Day.fv;rw[ag E,ag (by grind)];exact Aq (Y.pB G) (QM (by grind))
theorem Day.dk.QR {d:Day}(Y:d.dk)(f:Nat->Nat)(h:Nat->Rat){c:ej}(G:c∈d.cX):0<=d.q f h c:=by
 unfold Day.q
 split
 ·exact Y.am c G
 ·split
  ·exact uv (Y.pB G) (HH _)
  ·exact gi
theorem Day.dk.Zi {d:Day}(Y:d.dk){a:ej->Rat}(h:∀c∈d.cX,0<=a c){i:Nat}(J:i<d.n):0<=d.eX a i:=by
 unfold Day.eX;have E:=Y.cash i J
 have:=yL (l:=d.cX) (aS:=λc=>if c.to=(i:Int) then a c else 0) λc G=>by
  try dsimp only
  split
  ·exact h c G
  ·exact gi
 grind
theorem Day.dk.ahX {d:Day}(Y:d.dk){f:Nat->Nat}{h g:Nat->Rat}{c:ej}(G:c∈d.cX)(hle:h c.aE<=g c.aE):d.q f h c<=d.q f g c:=by
 unfold Day.q
 split
 ·exact gi
 ·split
  ·exact Aq (Y.pB G) (QM (by grind))
  ·exact gi
def Zj (d:Day)(f:Nat->Nat)(h:Nat->Rat)(hd:Nat->Nat):Prop:=(∀i,hd i<=10)/\(∀i,i<d.n->h i<d.bz i (f i)->hd i<f i/\d.bz i (hd i)<=h i/\h i<d.bz i (hd i+1))/\∀i,i<d.n->d.bz i (f i)<=h i->hd i=f i
theorem Zk {d:Day}(Y:d.dk){f hd:Nat->Nat}{h:Nat->Rat}(aK:Zj d f h hd){c:ej}(G:c∈d.cX):d.q hd h c<=d.q f h c:=by
 obtain⟨-,E,H⟩:=aK;have bW:=Y.aE c G
 by_cases fa:h c.aE<d.bz c.aE (f c.aE)
 ·obtain⟨b6,dd,ey⟩:=E _ bW fa;unfold Day.q
  by_cases e8:c.bp<hd c.aE
  ·rw[ab e8,ab (by omega)];exact gi
  ·rw[ag e8]
   by_cases et:c.bp=hd c.aE
   ·rw[ab et,ab (by omega)];rw[<-et] at dd ey;rw[d.sU] at ey;exact Y.QQ G (by rw[sW (by grind)];grind)
   ·rw[ag et];exact Y.QR f h G
 ·have:=H _ bW (by grind);unfold Day.q;rw[this];exact gi
theorem Inv.Mb {d:Day}(Y:d.dk){f hd:Nat->Nat}{g h:Nat->Rat}(J:Inv d f g)(yM:∀i,i<d.n->h i=d.eX (d.q f h) i)(hle:∀i,i<d.n->h i<=g i)(aK:Zj d f h hd):Inv d hd h:=by
 have fV:∀i,i<d.n->hd i<10->d.bz i (hd i)<=h i:=by
  intro i ct Co
  by_cases fa:h i<d.bz i (f i)
  ·exact (aK.2.1 i ct fa).2.1
  ·rw[aK.2.2 i ct (by grind)];grind
 have jn:∀i,i<d.n->hd i<10->h i<d.bz i (hd i+1):=by
  intro i ct Co
  by_cases fa:h i<d.bz i (f i)
  ·exact (aK.2.1 i ct fa).2.2
  ·have e:=aK.2.2 i ct (by grind);rw[e] at Co ⊢;have:=J.J i ct Co;have:=hle i ct;grind
 have cJ:∀i,i<d.n->hd i<10->0<d.S i (hd i):=by
  intro i ct Co;have E:=fV i ct Co;have H:=jn i ct Co;rw[d.sU] at H;grind
 refine⟨aK.1,λi ct=>?_,fV,jn,λC E H af=>?_⟩
 ·exact vY (d.Cx (λc G=>Zk Y aK G) i) (EI (yM i ct).symm)
 ·have gO:∀i,C i->i<d.n:=λi G=>(H i G).1
  by_cases hex:∃k,C k/\h k<d.bz k (f k)
  ·obtain⟨fP,Dw,fa⟩:=hex;have ahY:=gO fP Dw;obtain⟨c1,ee,jz⟩:=aK.2.1 fP ahY fa;have qO:=cJ fP ahY (H fP Dw).2;obtain⟨lP,oU,pq⟩:=L3 qO
   have aws:lP.aE=fP/\lP.bp=hd fP/\0<lP.am:=by
    by_cases aT:lP.aE=fP/\lP.bp=hd fP
    ·rw[ab aT] at pq;exact⟨aT.1,aT.2,pq⟩
    ·rw[ag aT] at pq;exact absurd pq (by grind)
   obtain⟨cQ,de,ep⟩:=aws;have ay:=Day.QO gO (d.q f h);have aB:=Day.QO gO (d.q hd (d.cap hd h C));have bG:d.gb C (d.eX (d.q f h))=d.gb C h:=Day.Cy λi ct _=>(yM i ct).symm;have dp:=Y.L7 C hd (λk M=>cJ k (gO k M) (H k M).2) λk=>h k-d.bz k (hd k);have cL:d.gb C (λk=>h k-d.bz k (hd k))=bx d.n λk=>if C k then h k-d.bz k (hd k) else 0:=rfl;rw[<-cL,d.awj] at dp
   have bK:cF d.cX (λc=>(if p6 C c then d.q hd (d.cap hd h C) c else 0)+(if C c.aE/\c.bp=hd c.aE then d.w c*(h c.aE-d.bz c.aE (hd c.aE)) else 0))<cF d.cX (λc=>if p6 C c then d.q f h c else 0):=by
    refine awg (λc G=>?_) oU ?_
    ·have bW:=Y.aE c G
     by_cases ct:p6 C c
     ·rw[ab ct,ab ct]
      by_cases gP:C c.aE
      ·rw[HI gP]
       by_cases e8:c.bp<hd c.aE
       ·rw[ab e8,ag (by omega)]
        have:c.bp<f c.aE:=by
         by_cases fa:h c.aE<d.bz c.aE (f c.aE)
         ·have:=(aK.2.1 _ bW fa).1;omega
         ·rw[<-aK.2.2 _ bW (by grind)];exact e8
        unfold Day.q;rw[ab this];grind
       ·rw[ag e8]
        by_cases et:c.bp=hd c.aE
        ·rw[ab ⟨gP,et⟩]
         by_cases fa:h c.aE<d.bz c.aE (f c.aE)
         ·obtain⟨b6,dd,ey⟩:=aK.2.1 _ bW fa;unfold Day.q;rw[ab (by omega)];rw[d.sU] at ey;have:=Y.QQ G (x:=h c.aE-d.bz c.aE (hd c.aE)) (by rw[et];grind);grind
         ·have e:=aK.2.2 _ bW (by grind);rw[e] at e8 et ⊢;unfold Day.q;rw[ag e8,ab et,<-et];have:=Aq (Y.pB G) (QL (h c.aE-d.bz c.aE c.bp));grind
        ·rw[ag λh=>et h.2];have:=Y.QR f h G;grind
      ·rw[L8 gP,ag λh=>gP h.1];have:=Zk Y aK G;grind
     ·rw[ag ct,ag ct]
      by_cases gP:C c.aE/\c.bp=hd c.aE
      ·rw[ab gP]
       have:c.am=0:=by
        have ao:=Y.am c G
        by_cases aF:0<c.am
        ·exact absurd (af c G gP.1 gP.2 aF) ct
        ·grind
       rw[Day.LG this];grind
      ·rw[ag gP];grind
    ·have gP:C lP.aE:=by rw[cQ];exact Dw
     have h6:lP.bp=hd lP.aE:=by rw[cQ];exact de
     have ct:=af lP oU gP h6 ep;rw[ab ct,ab ct,HI gP,ag (by omega),ab ⟨gP,h6⟩];unfold Day.q;rw[ab (by rw[cQ];omega)];have hw:=Y.L5 oU ep;have Pg:=d.Cw (c:=lP) (by rw[cQ,de];exact qO);rw[d.sU] at jz;rw[<-cQ,<-h6] at jz;rw[<-h6];have:0<d.w lP*(d.S lP.aE lP.bp-(h lP.aE-d.bz lP.aE lP.bp)):=L6 hw (by rw[cQ] at jz ⊢;grind);grind
   rw[QG,dp] at bK;grind
  ·have xU:∀k,C k->hd k=f k:=λk M=>aK.2.2 k (gO k M) (by
    apply mg;intro aH;exact hex ⟨k,M,by grind⟩)
   have b6:=J.cX C E (λi G=>⟨gO i G,by rw[<-xU i G];exact (H i G).2⟩) (λc G gP h6 ux=>af c G gP (by rw[xU _ gP];exact h6) ux);have dd:d.gb C (λi=>d.bz i (hd i))=d.gb C λi=>d.bz i (f i):=Day.Cy λi _ G=>by rw[xU i G]
   rw[dd]
   have ey:d.gb C (d.eX (d.q hd (d.cap hd h C)))<=d.gb C (d.eX (d.q f (d.cap f g C))):=by
    refine Day.ahS λi _ _=>d.Cx (λc G=>?_) i
    by_cases gP:C c.aE
    ·rw[HI gP,HI gP,xU _ gP];exact gi
    ·rw[L8 gP,L8 gP];exact vY (Zk Y aK G) (Y.ahX G (hle _ (Y.aE c G)))
   grind
def Day.uy (d:Day)(h:Nat->Rat)(i:Nat):Rat:=d.eX (d.fv h) i
theorem awt {d:Day}(Y:d.dk){f:Nat->Nat}{g z:Nat->Rat}(J:Inv d f g)(aW:∀i,i<d.n->z i<=g i){c:ej}(G:c∈d.cX):d.fv z c<=d.q f z c:=by
 have bW:=Y.aE c G;have h6:=Y.bp c G;unfold Day.q
 by_cases e8:c.bp<f c.aE
 ·rw[ab e8];exact Y.Ma z G
 ·rw[ag e8];have gu:f c.aE<10:=by omega
  have E:=J.J _ bW gu;have H:=aW _ bW
  by_cases et:c.bp=f c.aE
  ·rw[ab et];unfold Day.fv;rw[ag (by rw[et];grind)];exact gi
  ·rw[ag et];have af:=Y.sV c.aE (r:=f c.aE+1) (s:=c.bp) (by omega);have aP:=Y.sV c.aE (r:=c.bp) (s:=c.bp+1) (by omega);unfold Day.fv;rw[ag (by grind),vX (by grind),nF];exact gi
theorem Inv.Zl {d:Day}(Y:d.dk){f:Nat->Nat}{g h z:Nat->Rat}(J:Inv d f g)(yM:∀i,i<d.n->h i=d.eX (d.q f h) i)(hle:∀i,i<d.n->h i<=g i)(aW:∀i,i<d.n->z i<=d.eX (d.q f z) i):∀i,i<d.n->z i<=h i:=by
 intro i0 sw;apply mg;intro kM;obtain⟨C,uw⟩:∃C:Nat->Prop,∀i,C i↔i<d.n/\h i<z i:=⟨λi=>i<d.n/\h i<z i,λ_=>Iff.rfl⟩;obtain⟨HK,Ar⟩:∃je:Nat->Prop,∀i,je i↔C i/\f i<10:=⟨λi=>C i/\f i<10,λ_=>Iff.rfl⟩;have gO:∀i,C i->i<d.n:=λi h=>((uw i).1 h).1;have HL:∀i,C i->h i<z i:=λi h=>((uw i).1 h).2;have bI:∃i,C i:=⟨i0,(uw i0).2 ⟨sw,by grind⟩⟩
 have ay:=Zb C gO d.cX λc=>d.q f z c-d.q f h c;have aB:=Y.L7 HK f (λk M=>J.rQ (gO k ((Ar k).1 M).1) ((Ar k).1 M).2) λk=>z k-h k
 have bG:d.gb C (λi=>z i-h i)<=bx d.n λi=>if C i then cF d.cX (λc=>if c.to=(i:Int) then d.q f z c-d.q f h c else 0) else 0:=by
  refine L4 λk M=>?_
  by_cases G:C k
  ·rw[ab G,ab G,<-d.QN,<-yM k M];have E:=aW k M;grind
  ·rw[ag G,ag G];exact gi
 rw[ay] at bG
 have dp:bx d.n (λk=>if HK k then z k-h k else 0)<=d.gb C (λi=>z i-h i):=by
  refine L4 λk M=>?_
  by_cases G:C k
  ·rw[ab G];have:=HL k G
   split<;>grind
  ·rw[ag G,ag λh=>G ((Ar k).1 h).1];exact gi
 have ahZ:∀c∈d.cX,0<=(if HK c.aE/\c.bp=f c.aE then d.w c*(z c.aE-h c.aE) else 0)-(if p6 C c then d.q f z c-d.q f h c else 0):=by
  intro c G;have hw:=Y.pB G;have bW:=Y.aE c G;have h6:=Y.bp c G
  by_cases E:HK c.aE/\c.bp=f c.aE
  ·rw[ab E];have H:0<=d.w c*(z c.aE-h c.aE):=uv hw (by have:=HL _ ((Ar _).1 E.1).1;grind)
   have af:d.q f z c-d.q f h c<=d.w c*(z c.aE-h c.aE):=by
    unfold Day.q;rw[ag (by omega),ab E.2,ag (by omega),ab E.2]
    have aP:pos (z c.aE-d.bz c.aE c.bp)-pos (h c.aE-d.bz c.aE c.bp)<=z c.aE-h c.aE:=by
     have:=HL _ ((Ar _).1 E.1).1;unfold pos
     split<;>split<;>grind
    have:=Aq hw aP;grind
   split<;>grind
  ·rw[ag E]
   have af:d.q f z c-d.q f h c<=0:=by
    unfold Day.q
    by_cases e8:c.bp<f c.aE
    ·rw[ab e8,ab e8];grind
    ·rw[ag e8,ag e8]
     by_cases et:c.bp=f c.aE
     ·rw[ab et,ab et]
      have aP:z c.aE<=h c.aE:=by
       apply mg;intro aH;exact E ⟨(Ar _).2 ⟨(uw _).2 ⟨bW,by grind⟩,by omega⟩,et⟩
      have:=Aq hw (QM (show z c.aE-d.bz c.aE c.bp<=h c.aE-d.bz c.aE c.bp by grind));grind
     ·rw[ag et,ag et];grind
   split<;>grind
 have awu:=Za ahZ (by rw[L1,aB];grind)
 have Zm:∀k,C k->f k<10:=by
  have:bx d.n (λk=>(if C k then z k-h k else 0)-(if HK k then z k-h k else 0))<=0:=by
   rw[HE];have:0<=cF d.cX λc=>(if HK c.aE/\c.bp=f c.aE then d.w c*(z c.aE-h c.aE) else 0)-(if p6 C c then d.q f z c-d.q f h c else 0):=yL ahZ;rw[L1,aB] at this;have bt:d.gb C (λi=>z i-h i)=bx d.n λk=>if C k then z k-h k else 0:=rfl;grind
  have aH:=awh (λk M=>by
   try dsimp only
   by_cases G:C k
   ·rw[ab G];have:=HL k G
    split<;>grind
   ·rw[ag G,ag λh=>G ((Ar k).1 h).1];grind) this
  intro k M;apply mg;intro gu;have:=aH k (gO k M)
  try dsimp only at this
  rw[ab M,ag λh=>gu ((Ar k).1 h).2] at this;have:=HL k M;grind
 have ct:∀c∈d.cX,C c.aE->c.bp=f c.aE->0<c.am->p6 C c/\d.bz c.aE c.bp<=h c.aE:=by
  intro c G gP h6 ux;have ao:=awu c G;have hw:=Y.L5 G ux;have az:=HL _ gP
  try dsimp only at ao
  rw[ab ⟨(Ar _).2 ⟨gP,Zm _ gP⟩,h6⟩] at ao
  by_cases ct:p6 C c
  ·refine⟨ct,?_⟩;rw[ab ct] at ao;unfold Day.q at ao;rw[ag (by omega),ab h6,ag (by omega),ab h6] at ao;apply mg;intro aH;rw[vX (x:=h c.aE-d.bz c.aE c.bp) (by grind)] at ao
   have aP:0<z c.aE-h c.aE-pos (z c.aE-d.bz c.aE c.bp):=by
    unfold pos
    split<;>grind
   have:=L6 hw aP;grind
  ·rw[ag ct] at ao;have:0<d.w c*(z c.aE-h c.aE):=L6 hw (by grind);grind
 have oe:∀k,C k->d.bz k (f k)<=h k:=by
  intro k M;have U:=J.rQ (gO k M) (Zm k M);obtain⟨lP,oU,pq⟩:=L3 U
  by_cases aT:lP.aE=k/\lP.bp=f k
  ·rw[ab aT] at pq;have:=(ct lP oU (by rw[aT.1];exact M) (by rw[aT.1];exact aT.2) pq).2;rwa [aT.1,aT.2] at this
  ·rw[ag aT] at pq;exact absurd pq (by grind)
 have lD:=J.Zf Y bI (λi G=>⟨gO i G,Zm i G⟩) (λc G gP h6 ux=>(ct c G gP h6 ux).1) (d.q f h) (λk=>h k-d.bz k (f k)) (λk _ M=>by have:=oe k M;grind) λc G _=>by
  by_cases gP:C c.aE
  ·rw[HI gP];unfold Day.q
   by_cases e8:c.bp<f c.aE
   ·rw[ab e8,ab e8,ag (by omega)];grind
   ·rw[ag e8,ag e8]
    by_cases et:c.bp=f c.aE
    ·rw[ab et,ab ⟨gP,et⟩,et,sW (by have:=oe _ gP;grind)];grind
    ·rw[ag et,ag λh=>et h.2];grind
  ·rw[L8 gP,ag λh=>gP h.1];have:=Y.ahX (f:=f) G (hle _ (Y.aE c G));grind
 have bU:d.gb C (d.eX (d.q f h))=d.gb C h:=Day.Cy λi ct _=>(yM i ct).symm;have bM:d.gb C (λi=>d.bz i (f i)+(h i-d.bz i (f i)))=d.gb C h:=Day.Cy λi _ _=>by grind
 rw[bU,bM] at lD;exact absurd lD (by grind)
theorem Inv.final {d:Day}(Y:d.dk){f:Nat->Nat}{g h:Nat->Rat}(J:Inv d f g)(yM:∀i,i<d.n->h i=d.eX (d.q f h) i)(hle:∀i,i<d.n->h i<=g i)(gq:∀i,i<d.n->d.bz i (f i)<=h i):(∀i,i<d.n->h i=d.uy h i)/\∀i,i<d.n->(f i<10↔h i<d.bz i 10):=by
 constructor
 ·intro i ct;rw[yM i ct];unfold Day.uy;have:∀j,j<d.n->h j=d.eX (d.q f h) j:=yM;refine d.ahR (λc G=>?_) i;have bW:=Y.aE c G;have h6:=Y.bp c G;have ao:=gq _ bW;unfold Day.q Day.fv
  by_cases e8:c.bp<f c.aE
  ·have:=Y.sV c.aE (r:=c.bp+1) (s:=f c.aE) (by omega);rw[ab e8,ab (by grind)]
  ·rw[ag e8];have gu:f c.aE<10:=by omega
   have E:=J.J _ bW gu;have H:=hle _ bW
   by_cases et:c.bp=f c.aE
   ·rw[ab et,ag (by rw[et];grind)]
   ·have af:=Y.sV c.aE (r:=f c.aE+1) (s:=c.bp) (by omega);have aP:=Y.sV c.aE (r:=c.bp) (s:=c.bp+1) (by omega);rw[ag et,ag (by grind),vX (by grind),nF]
 ·intro i ct
  constructor
  ·intro gu;have E:=J.J _ ct gu;have H:=hle _ ct;have af:=Y.sV i (r:=f i+1) (s:=10) (by omega);grind
  ·intro E;apply mg;intro H;have af:=J.le i;have aP:f i=10:=by omega
   have bt:=gq i ct;rw[aP] at bt;grind
end Go.Mini
namespace Go.Mini
open Classical
def nG (d:Day)(f:Nat->Nat)(h:Nat->Rat):Prop:=∃g,Inv d f g/\(∀i,i<d.n->h i=d.eX (d.q f h) i)/\∀i,i<d.n->h i<=g i
theorem nG.unique {d:Day}(Y:d.dk){f:Nat->Nat}{h cn:Nat->Rat}(a:nG d f h)(b:nG d f cn):∀i,i<d.n->h i=cn i:=by
 obtain⟨g,E,H,af⟩:=a;obtain⟨c0,b6,dd,ey⟩:=b;intro i ct;have ay:=E.Zl Y H af (z:=cn) (λi J=>EI (dd i J)) i ct;have aB:=b6.Zl Y dd ey (z:=h) (λi J=>EI (H i J)) i ct;grind
def Day.jO (d:Day)(h:Nat->Rat)(i:Nat):Nat->Nat
 |0=>10
 |k+1=>if h i<d.bz i (10-(k+1)+1) then 10-(k+1) else Day.jO d h i k
theorem Zn {d:Day}(Y:d.dk){h:Nat->Rat}{i:Nat}:∀k,k<=10->d.bz i (10-k)<=h i->(d.jO h i k=10/\d.bz i 10<=h i)\/(10-k<=d.jO h i k/\d.jO h i k<10/\d.bz i (d.jO h i k)<=h i/\h i<d.bz i (d.jO h i k+1))
 |0,_,ao => .inl ⟨rfl,ao⟩
 |k+1,M,ao=>by
  unfold Day.jO
  by_cases E:h i<d.bz i (10-(k+1)+1)
  ·rw[ab E];exact .inr ⟨bX _,by omega,ao,E⟩
  ·rw[ag E];rcases Zn Y (h:=h) (i:=i) k (by omega) (by rw[show 10-k=10-(k+1)+1 by omega];grind) with e|⟨ay,aB⟩
   ·exact .inl e
   ·exact .inr ⟨by omega,aB⟩
def Day.gI (d:Day)(f:Nat->Nat)(h:Nat->Rat)(i:Nat):Nat:=if i<d.n/\h i<d.bz i (f i) then d.jO h i 10 else f i
theorem Zo {d:Day}(Y:d.dk){f:Nat->Nat}{h:Nat->Rat}(hle:∀i,f i<=10)(ao:∀i,i<d.n->0<=h i):Zj d f h (d.gI f h):=by
 have key:∀i,i<d.n->h i<d.bz i (f i)->d.jO h i 10<f i/\d.bz i (d.jO h i 10)<=h i/\h i<d.bz i (d.jO h i 10+1):=by
  intro i ct fa;have hm:=Y.sV i (hle i);rcases Zn Y (h:=h) (i:=i) 10 (bX _) (by rw[my,d.QI];exact ao i ct) with ⟨-,e⟩|⟨-,ay,aB,bG⟩
  ·grind
  ·refine⟨?_,aB,bG⟩;apply mg;intro aH;have:=Y.sV i (r:=f i) (s:=d.jO h i 10) (by omega);grind
 refine⟨λi=>?_,λi ct fa=>?_,λi ct fa=>?_⟩
 ·unfold Day.gI
  split
  ·rename_i aT;have:=(key i aT.1 aT.2).1;have:=hle i;omega
  ·exact hle i
 ·unfold Day.gI;rw[ab ⟨ct,fa⟩];exact key i ct fa
 ·unfold Day.gI;rw[ag λaT=>by have:=aT.2;grind]
theorem nG.Mb {d:Day}(Y:d.dk){f:Nat->Nat}{h:Nat->Rat}(a:nG d f h):Inv d (d.gI f h) h:=by
 obtain⟨g,E,H,af⟩:=a;exact E.Mb Y H af (Zo Y E.le λi ct=>by rw[H i ct];exact Y.Zi (λc G=>Y.QR f h G) ct)
theorem nG.QS {d:Day}(Y:d.dk){f:Nat->Nat}{h:Nat->Rat}(a:nG d f h){i:Nat}(ct:i<d.n):0<=h i:=by
 obtain⟨g,E,H,af⟩:=a;rw[H i ct];exact Y.Zi (λc G=>Y.QR f h G) ct
def Day.top (d:Day)(f:Nat->Nat):Nat->Rat:=if h:∃x,nG d f x then tF h else λ_=>0
def Day.ih (d:Day)(f:Nat->Nat):List Nat:=(dU d.n).filter λi=>decide (d.top f i<d.bz i (f i))
def Day.rounds (d:Day):Nat->(Nat->Nat)->List (List Nat)×(Nat->Nat)
 |0,f=>([],f)
 |k+1,f=>if d.ih f=[] then ([],f) else (d.ih f::(Day.rounds d k (d.gI f (d.top f))).1,(Day.rounds d k (d.gI f (d.top f))).2)
def Reach (d:Day)(f:Nat->Nat):Prop:=∃g,Inv d f g/\∀z,(∀i,i<d.n->z i<=d.uy z i)->∀i,i<d.n->z i<=g i
theorem Reach.start {d:Day}(Y:d.dk):Reach d λ_=>10:=⟨_,Inv.start Y,λz aW i ct=>vY (aW i ct) (d.Cx (λ_ G=>Y.Ma z G) i)⟩
def mV:Nat->(Nat->Nat)->Nat
 |0,_=>0
 |n+1,f=>mV n f+f n
theorem awv {n:Nat}{f g:Nat->Nat}(h:∀i,i<n->f i<=g i):mV n f<=mV n g:=by
 induction n with
 |zero=>exact bX _
 |succ n aA =>
  have:=aA λi J=>h i (by omega);have:=h n (by omega);simp only[mV];omega
theorem Zp {n:Nat}{f g:Nat->Nat}(h:∀i,i<n->f i<=g i){j:Nat}(ah:j<n)(az:f j<g j):mV n f<mV n g:=by
 induction n with
 |zero=>omega
 |succ n aA =>
  have E:=h n (by omega);simp only[mV]
  by_cases aww:j=n
  ·subst aww;have:=awv (n:=j) (f:=f) (g:=g) λi J=>h i (by omega);omega
  ·have:=aA (λi J=>h i (by omega)) (by omega);omega
theorem Day.Cz {d:Day}{f:Nat->Nat}(h:∃x,nG d f x):nG d f (d.top f):=by
 unfold Day.top;rw[dif_pos h];exact ph h
theorem Day.Mc {d:Day}{f:Nat->Nat}{i:Nat}:i∈d.ih f↔i<d.n/\d.top f i<d.bz i (f i):=by
 unfold Day.ih;rw[sY,g2,decide_eq_true_eq]
section
variable {d:Day} (Y:d.dk) (hex:∀f,Reach d f->∃h,nG d f h)
include Y hex
theorem ah0 {f:Nat->Nat}(aa:Reach d f){z:Nat->Rat}(aW:∀i,i<d.n->z i<=d.uy z i):∀i,i<d.n->z i<=d.top f i:=by
 obtain⟨g,E,H,af⟩:=Day.Cz (hex f aa);obtain⟨c0,b6,dd⟩:=aa;have bA:nG d f (d.top f):=⟨g,E,H,af⟩
 -- the end of the round below c0
 intro i ct;have Dn:=λk M=>vY (aW k M) (d.Cx (λ_ G=>awt Y b6 (dd z aW) G) k);exact E.Zl Y H af Dn i ct
theorem Reach.next {f:Nat->Nat}(aa:Reach d f):Reach d (d.gI f (d.top f)):=⟨d.top f,(Day.Cz (hex f aa)).Mb Y,λz aW=>ah0 Y hex aa aW⟩
theorem Zq {f:Nat->Nat}(aa:Reach d f)(bI:d.ih f≠[]):mV d.n (d.gI f (d.top f))<mV d.n f:=by
 obtain⟨i,J⟩:=List.exists_mem_of_ne_nil _ bI;obtain⟨E,H⟩:=Day.Mc.1 J;have bA:=Day.Cz (hex f aa);obtain⟨g,b6,-⟩:=bA;have aK:=Zo Y b6.le (h:=d.top f) λi ct=>(Day.Cz (hex f aa)).QS Y ct;refine Zp (λj ah=>?_) E (aK.2.1 i E H).1
 by_cases fa:d.top f j<d.bz j (f j)
 ·have:=(aK.2.1 j ah fa).1;omega
 ·rw[aK.2.2 j ah (by grind)];exact bX _
theorem ah1:∀k (f:Nat->Nat),Reach d f->mV d.n f<=k->Reach d (d.rounds k f).2/\d.ih (d.rounds k f).2=[]
 |0,f,aa,M=>by
  refine⟨aa,?_⟩;apply mg;intro bI;have:=Zq Y hex aa bI;omega
 |k+1,f,aa,M=>by
  unfold Day.rounds
  by_cases bI:d.ih f=[]
  ·rw[ab bI];exact⟨aa,bI⟩
  ·rw[ag bI];have:=Zq Y hex aa bI;exact ah1 k _ (aa.next Y hex) (by omega)
end
theorem Day.awx (d:Day){f:Nat->Nat}(h:d.ih f=[]):∀k,d.rounds k f=([],f)
 |0=>rfl
 |k+1=>by unfold Day.rounds;rw[ab h]
end Go.Mini
namespace Go.Mini
abbrev aw:=Int×Int×Int×Int
def hS (n:Int)(c:aw):Bool:=decide (0<=c.1)&&decide (c.1<n)&&decide (-1<=c.2.1)&&decide (c.2.1<n)&&decide (0<=c.2.2.1)&&decide (c.2.2.1<10)&&decide (0<=c.2.2.2)&&decide (c.2.2.2<=1000000000000000)
def kx (cash:List Int)(cs:List aw):Bool:=decide (D cash<=60)&&decide (D cs<=2000)&&cash.all (λx=>decide (0<=x)&&decide (x<=1000000000000000))&&cs.all (hS (D cash))
def cA (c:aw):ej:=⟨c.1.toNat,c.2.1,c.2.2.1.toNat,(c.2.2.2:Rat)⟩
def au (cash:List Int)(cs:List aw):Day:=⟨D cash,λi=>((cash.getD i 0:Int):Rat),cs.map cA⟩
theorem gQ {cash:List Int}{cs:List aw}:kx cash cs=true↔(D cash)<=60/\D cs<=2000/\(∀x∈cash,0<=x/\x<=1000000000000000)/\∀c∈cs,0<=c.1/\c.1<(D cash) /\ -1<=c.2.1/\c.2.1<D cash/\0<=c.2.2.1/\c.2.2.1<10/\0<=c.2.2.2/\c.2.2.2<=1000000000000000:=by
 unfold kx hS;simp only[e9,decide_eq_true_eq,List.all_eq_true,and_assoc]
theorem ah2 {cash:List Int}{cs:List aw}(h:kx cash cs=true):(au cash cs).dk:=by
 obtain⟨-,-,af,aP⟩:=gQ.1 h
 have G:∀x∈(au cash cs).cX,∃c∈cs,x=cA c:=λx O=>by
  obtain⟨c,G,rfl⟩:=dV.1 O;exact⟨c,G,rfl⟩
 refine⟨λx O=>?_,λx O=>?_,λx O=>?_,λx O=>?_,λi J=>?_⟩
 ·obtain⟨c,G,rfl⟩:=G x O;have:=aP c G;show c.1.toNat<D cash;omega
 ·obtain⟨c,G,rfl⟩:=G x O;have:=aP c G;show c.2.1<(D cash:Int);omega
 ·obtain⟨c,G,rfl⟩:=G x O;have:=aP c G;show c.2.2.1.toNat<10;omega
 ·obtain⟨c,G,rfl⟩:=G x O;have:=(aP c G).2.2.2.2.2.2.1;show (0:Rat)<=(c.2.2.2:Rat);exact_mod_cast this
 ·show (0:Rat)<=((cash.getD i 0:Int):Rat);have ks:i<D cash:=J
  have:0<=cash.getD i 0:=by
   rw[dZ,bu ks];exact (af _ (np ks)).1
  exact_mod_cast this
def cK:List aw->(aw->Int)->Int
 | [],_=>0
 |c::l,aS=>aS c+cK l aS
def cO (cs:List aw)(dh r:Int):Int:=cK cs λc=>if c.1=dh/\c.2.2.1<r then c.2.2.2 else 0
theorem QT (cs:List aw)(aS:aw->Int)(bN:ej->Rat)(h:∀c∈cs,((aS c:Int):Rat)=bN (cA c)):((cK cs aS:Int):Rat)=cF (cs.map cA) bN:=by
 induction cs with
 |nil=>rfl
 |cons c l aA=>rw[cK,eC,cF,uz,h c gF,aA λx O=>h x (hf _ O)]
theorem HM {cs:List aw}{aS bN:aw->Int}(h:∀c∈cs,aS c=bN c):cK cs aS=cK cs bN:=by
 induction cs with
 |nil=>rfl
 |cons c l aA=>rw[cK,cK,h c gF,aA λx O=>h x (hf _ O)]
theorem QU {cs:List aw}{aS:aw->Int}{B:Int}(fW:0<=B)(h:∀c∈cs,0<=aS c/\aS c<=B):0<=cK cs aS/\cK cs aS<=D cs*B:=by
 induction cs with
 |nil=>simp[cK]
 |cons c l aA =>
  have E:=h c gF;have H:=aA λx O=>h x (hf _ O);simp only[cK,h8]
  have:((D l+1:Nat):Int)*B=D l*B+B:=by
   rw[Int.natCast_add,Int.add_mul];simp
  omega
theorem Md (a b:List aw)(aS:aw->Int):cK (a++b) aS=cK a aS+cK b aS:=by
 induction a with
 |nil=>simp[cK]
 |cons c l aA=>simp only[j1,cK,aA];omega
theorem uA {cash:List Int}{cs:List aw}(h:kx cash cs=true)(i r:Nat):((cO cs i r:Int):Rat)=(au cash cs).bz i r:=by
 refine QT cs _ (λc=>if c.aE=i/\c.bp<r then c.am else 0) λc G=>?_;have:=(gQ.1 h).2.2.2 c G;show ((if c.1=(i:Int)/\c.2.2.1<(r:Int) then c.2.2.2 else 0:Int):Rat)=if c.1.toNat=i/\c.2.2.1.toNat<r then (c.2.2.2:Rat) else 0
 by_cases E:c.1=(i:Int)/\c.2.2.1<(r:Int)
 ·rw[ab E,ab (by omega)]
 ·rw[ag E,ag (by omega)];rfl
theorem QV {cash:List Int}{cs:List aw}(h:kx cash cs=true)(i r:Nat):((cO cs i (r+1:Nat)-cO cs i r:Int):Rat)=(au cash cs).S i r:=by
 have E:=uA h i r;have H:=uA h i (r+1);rw[CA,E,H,Day.sU];grind
def lo (cash:List Int)(cs:List aw)(f:Nat->Nat)(i:Nat):Int:=cash.getD i 0+cK cs λc=>if c.2.1=(i:Int)/\c.2.2.1<(f c.1.toNat:Int) then c.2.2.2 else 0
def ext (N:Nat)(y:Nat->Rat)(z:Rat):Nat->Rat:=λk=>if k<N then y k else z
theorem Me (N:Nat)(a y:Nat->Rat)(z:Rat):mU N a (ext N y z)=bx N (λk=>a k*y k)+a N*z:=by
 unfold mU ext;rw[bx]
 congr 1
 ·exact ki λk M=>by rw[ab M]
 ·rw[ag (by omega)]
theorem Zr {N:Nat}{aL:eF}{bE:Nat->Nat}(h:qW N aL N N bE)(kh:∀j,j<N->bE j=j){i:Nat}(J:i<N)(y:Nat->Rat)(z:Rat):mU N (aL i) (ext N y z)=y i+aL i N*z:=by
 rw[Me]
 congr 1
 have:∀k,k<N->aL i k=if i=k then 1 else 0:=λk M=>by
  have:=h.unit k M i J;rwa [kh k M] at this
 rw[yK J λk M pg=>by rw[this k M,ag (Ne.symm pg),Cv],this i J,ab rfl,QW]
theorem ah3 {N:Nat}{aL:eF}{bE:Nat->Nat}(h:qW N aL N N bE)(kh:∀j,j<N->bE j=j)(y:Nat->Rat):h5 N aL (ext N y (-1))↔∀i,i<N->y i=aL i N:=by
 unfold h5
 constructor
 ·intro dK i J;have:=dK i J;rw[Zr h kh J] at this;grind
 ·intro dK i J;rw[Zr h kh J,dK i J];grind
theorem awy {N:Nat}{aL:eF}{bE:Nat->Nat}(h:qW N aL N N bE)(kh:∀j,j<N->bE j=j)(y:Nat->Rat)(dK:h5 N aL (ext N y 0)):∀i,i<N->y i=0:=by
 intro i J;have:=dK i J;rw[Zr h kh J] at this;grind
def sZ (aL:eF)(c:Nat):Nat->Rat:=λk=>if k<c then 0-aL k c else if k=c then 1 else 0
theorem ah4 {N c:Nat}{aL:eF}{bE:Nat->Nat}(h:qW N aL c c bE)(kh:∀j,j<c->bE j=j)(G:c<N)(aW:∀i,c<=i->i<N->aL i c=0):h5 N aL (ext N (sZ aL c) 0):=by
 intro i J;rw[Me]
 have main:∀n,c<n->n<=N->bx n (λk=>aL i k*sZ aL c k)=bx (c+1) (λk=>aL i k*sZ aL c k):=by
  intro n
  induction n with
  |zero=>intro h;omega
  |succ n aA =>
   intro E H
   by_cases JT:c=n
   ·rw[JT]
   ·rw[bx,aA (by omega) (by omega)];unfold sZ;rw[ag (show ¬ n<c by omega),ag (show ¬ n=c by omega)];grind
 rw[main N G (bX _),bx];have M:sZ aL c c=1:=by unfold sZ;rw[ag (by omega),ab rfl]
 rw[M]
 have hu:∀k,k<c->aL i k=if i=k then 1 else 0:=λk M=>by
  have:=h.unit k M i J;rwa [kh k M] at this
 rcases ir i c with az|b2
 ·rw[yK az λk M pg=>by rw[hu k M,ag (Ne.symm pg),Cv],hu i az,ab rfl]
  unfold sZ;rw[ab az];grind
 ·rw[sT λk M=>by rw[hu k M,ag (by omega),Cv],aW i b2 J]
  grind
abbrev gd:=Nat->Rat
def jA (n:Nat)(f:List gd->Rat):List gd->List gd->Rat
 |_,[]=>0
 |pre,c::cs=>c n*f (pre++cs)-jA n f (pre++[c]) cs
def gR:Nat->List gd->Rat
 |0,[]=>1
 |0,_::_=>0
 |n+1,cs=>jA n (gR n) [] cs
def CB (x y:gd)(a:Rat):gd:=λi=>x i+a*y i
def Zs (f:List gd->Rat):Prop:=∀A B x y a,f (A++CB x y a::B)=f (A++x::B)+a*f (A++y::B)
def Zt (f:List gd->Rat):Prop:=∀A B z,f (A++z::z::B)=0
theorem awz {n:Nat}{f:List gd->Rat}(h:Zs f)(x y:gd)(a:Rat)(A:List gd):∀cs e3,jA n f (A++CB x y a::e3) cs=jA n f (A++x::e3) cs+a*jA n f (A++y::e3) cs:=by
 intro cs
 induction cs with
 |nil=>intro e3;simp only[jA];grind
 |cons c cs aA =>
  intro e3;have e:=aA (e3++[c]);simp only[jA,gM,j1] at e ⊢;rw[h A (e3++cs) x y a,e];grind
theorem awA {n:Nat}{f:List gd->Rat}(h:Zs f)(x y:gd)(a:Rat)(B:List gd):∀A pre,jA n f pre (A++CB x y a::B)=jA n f pre (A++x::B)+a*jA n f pre (A++y::B):=by
 intro A
 induction A with
 |nil =>
  intro pre;have e:=awz (n:=n) h x y a pre B [];simp only[jv,jA];rw[e];simp only[CB];grind
 |cons c A aA =>
  intro pre;have e:=aA (pre++[c]);have aB:=h (pre++A) B x y a;simp only[gM] at aB;simp only[j1,jA];rw[e,aB];grind
theorem EK:∀n,Zs (gR n)
 |0=>by
  intro A B x y a
  cases A<;>simp only[jv,j1,gR]<;>grind
 |n+1=>λA B x y a=>awA (EK n) x y a B A []
theorem awB {n:Nat}{f:List gd->Rat}(h:Zt f)(z:gd)(A:List gd):∀cs e3,jA n f (A++z::z::e3) cs=0:=by
 intro cs
 induction cs with
 |nil=>intro e3;rfl
 |cons c cs aA =>
  intro e3;have e:=aA (e3++[c]);have aB:=h A (e3++cs) z;simp only[jA,gM,j1] at e aB ⊢;rw[e,aB];grind
theorem awC {n:Nat}{f:List gd->Rat}(h:Zt f)(z:gd)(B:List gd):∀A pre,jA n f pre (A++z::z::B)=0:=by
 intro A
 induction A with
 |nil =>
  intro pre;have e:=awB (n:=n) h z pre B [];simp only[jv,jA,gM,j1] at e ⊢;rw[e];grind
 |cons c A aA =>
  intro pre;have e:=aA (pre++[c]);have aB:=h (pre++A) B z;simp only[gM] at aB;simp only[j1,jA];rw[e,aB];grind
theorem Mf:∀n,Zt (gR n)
 |0=>by
  intro A B z
  cases A<;>rfl
 |n+1=>λA B z=>awC (Mf n) z B A []
theorem awD (n:Nat)(A B:List gd)(x y:gd):gR n (A++x::y::B) = -gR n (A++y::x::B):=by
 have ao:=Mf n A B (CB x y 1);have E:=EK n A (CB x y 1::B) x y 1;rw[ao] at E;have H:=EK n (A++[x]) B x y 1;have af:=EK n (A++[y]) B x y 1;simp only[gM,j1,jv] at H af;rw[H,af,Mf n A B x,Mf n A B y] at E;grind
theorem ah5 (n:Nat)(C:List gd)(z:gd):∀B A,gR n (A++z::(B++z::C))=0:=by
 intro B
 induction B with
 |nil=>intro A;exact Mf n A C z
 |cons b B aA =>
  intro A;have:=aA (A++[b]);simp only[gM,j1,jv] at this ⊢;rw[awD,this];grind
theorem Zu {n:Nat}{A B:List gd}{z:gd}(h:z∈A++B):gR n (A++z::B)=0:=by
 rcases js.1 h with h|h
 ·obtain⟨Zv,HN,rfl⟩:=ah6 h;have:=ah5 n B z HN Zv
  simpa only [gM,j1] using this
 ·obtain⟨A1,C6,rfl⟩:=ah6 h;exact ah5 n C6 z A1 A
theorem awE {n:Nat}{f:List gd->Rat}{z:gd}(aW:z n=0)(h:∀A B,f (A++z::B)=0):(∀cs A e3,jA n f (A++z::e3) cs=0)/\∀A B pre,jA n f pre (A++z::B)=0:=by
 have E:∀cs A e3,jA n f (A++z::e3) cs=0:=by
  intro cs
  induction cs with
  |nil=>intro A e3;rfl
  |cons c cs aA =>
   intro A e3;have e:=aA A (e3++[c]);have aB:=h A (e3++cs);simp only[jA,gM,j1] at e aB ⊢;rw[e,aB];grind
 refine⟨E,λA=>?_⟩
 induction A with
 |nil =>
  intro B pre;have e:=E B pre [];simp only[jv,jA];rw[e,aW];grind
 |cons c A aA =>
  intro B pre;have e:=aA B (pre++[c]);have aB:=h (pre++A) B;simp only[gM] at aB;simp only[j1,jA];rw[e,aB];grind
theorem Zw:∀n (z:gd),(∀i,i<n->z i=0)->∀A B,gR n (A++z::B)=0
 |0,z,_=>λA B=>by cases A<;>rfl
 |n+1,z,h=>λA B=>(awE (h n (by omega)) (Zw n z λi J=>h i (by omega))).2 A B []
theorem ah7 {n:Nat}{e:gd}(h:∀i,i<n->e i=0)(cs:List gd):gR (n+1) (e::cs)=e n*gR n cs:=by
 show e n*gR n ([]++cs)-jA n (gR n) ([]++[e]) cs=_
 have:∀cs pre,jA n (gR n) (e::pre) cs=0:=by
  intro cs
  induction cs with
  |nil=>intro pre;rfl
  |cons c cs aA =>
   intro pre;have ay:=aA (pre++[c]);have aB:=Zw n e h [] (pre++cs);simp only[jA,j1,jv] at ay aB ⊢;rw[ay,aB];grind
 simp only[jv];rw[this cs []];grind
theorem awF {n:Nat}{f:List gd->Rat}{T:gd->gd}(cI:∀c,T c n=c n)(h:∀l,f (l.map T)=f l):∀cs pre,jA n f (pre.map T) (cs.map T)=jA n f pre cs:=by
 intro cs
 induction cs with
 |nil=>intro pre;rfl
 |cons c cs aA =>
  intro pre;have e:=aA (pre++[c]);have aB:=h (pre++cs);simp only[kT,eC,cS] at e aB;simp only[eC,jA];rw[e,aB,cI]
theorem Zx:∀n (T:gd->gd),(∀c i,i<n->T c i=c i)->∀l,gR n (l.map T)=gR n l
 |0,T,_=>λl=>by cases l<;>rfl
 |n+1,T,h=>λl=>awF (λc=>h c n (by omega)) (Zx n T λc i J=>h c i (by omega)) l []
theorem ah8 {n:Nat}{α:Type}(l:List α)(f g:α->gd)(h:∀a∈l,∀i,i<n->f a i=g a i):gR n (l.map f)=gR n (l.map g):=by
 rw[<-Zx n (λc i=>if i<n then c i else 0) (λc i J=>ab J),<-Zx n (λc i=>if i<n then c i else 0) (λc i J=>ab J) (l.map g)];rw[m4,m4]
 congr 1
 apply m3;intro a aM
 funext i
 simp only[Function.comp]
 split
 ·exact h a aM i (by assumption)
 ·rfl
theorem Mg (n:Nat)(A B:List gd)(x:Nat->Rat)(C:Nat->gd):∀m,gR n (A++(λi=>bx m λl=>x l*C l i)::B)=bx m λl=>x l*gR n (A++C l::B)
 |0=>Zw n _ (λi _=>rfl) A B
 |m+1=>by
  have e:=EK n A B (λi=>bx m λl=>x l*C l i) (C m) (x m);rw[Mg n A B x C m] at e;exact e
def eO (B:Nat)(x:Rat):Prop:=∃z:Int,x=(z:Rat)/\z.natAbs<=B
theorem eO.mono {A B:Nat}{x:Rat}(h:eO A x)(av:A<=B):eO B x:=by obtain⟨z,E,H⟩:=h;exact⟨z,E,by omega⟩
theorem eO.mul {A B:Nat}{x y:Rat}(O:eO A x)(ar:eO B y):eO (A*B) (x*y):=by
 obtain⟨z,rfl,H⟩:=O;obtain⟨w,rfl,ck⟩:=ar;exact⟨z*w,by rw[p7],by rw[qJ];exact o1 H ck⟩
theorem eO.sub {A B:Nat}{x y:Rat}(O:eO A x)(ar:eO B y):eO (A+B) (x-y):=by
 obtain⟨z,rfl,H⟩:=O;obtain⟨w,rfl,ck⟩:=ar;exact⟨z-w,by rw[CA],by omega⟩
theorem eO.add {A B:Nat}{x y:Rat}(O:eO A x)(ar:eO B y):eO (A+B) (x+y):=by
 obtain⟨z,rfl,H⟩:=O;obtain⟨w,rfl,ck⟩:=ar;exact⟨z+w,by rw[uz],by omega⟩
theorem eO.zero {B:Nat}:eO B 0:=⟨0,by rfl,by simp⟩
theorem eO.int (z:Int):eO z.natAbs (z:Rat):=⟨z,rfl,bX _⟩
theorem eO.sum {B:Nat}{f:Nat->Rat}:∀n,(∀k,k<n->eO B (f k))->eO (n*B) (bx n f)
 |0,_=>eO.zero
 |n+1,h=>by
  have:=(eO.sum n λk M=>h k (by omega)).add (h n (by omega));exact this.mono (by rw[tp];exact bX _)
theorem eO.of {z:Int}{B:Nat}(h:z.natAbs<=B):eO B (z:Rat):=⟨z,rfl,h⟩
theorem eO.nat {z:Nat}{B:Nat}(h:z<=B):eO B (z:Rat):=⟨z,(oi _).symm,by omega⟩
def fk:Nat->(Nat->Nat)->Nat
 |0,_=>0
 |n+1,a=>fk n a+a n
theorem Mh {n:Nat}{a b:Nat->Nat}(h:∀i,i<n->a i=b i):fk n a=fk n b:=by
 induction n with
 |zero=>rfl
 |succ n aA=>rw[fk,fk,aA λi J=>h i (by omega),h n (by omega)]
theorem awG {n:Nat}{a b:Nat->Nat}(h:∀i,i<n->a i<=b i):fk n a<=fk n b:=by
 induction n with
 |zero=>exact bX _
 |succ n aA=>exact Nat.add_le_add (aA λi J=>h i (by omega)) (h n (by omega))
theorem ah9 {N t:Nat}(b:Nat->Nat)(bA:t<N):fk N b=fk N (λi=>if i=t then 0 else b i)+b t:=by
 induction N with
 |zero=>omega
 |succ N aA =>
  by_cases h:t=N
  ·subst h;rw[fk,fk,ab rfl];have:fk t b=fk t λi=>if i=t then 0 else b i:=Mh λi J=>by rw[ag (by omega)]
   omega
  ·have:=aA (by omega);rw[fk,fk,ag (by omega)];omega
theorem Zy {N:Nat}{τ:Nat->Nat}:∀{n:Nat} (b:Nat->Nat),(∀i,i<n->τ i<N)->(∀i j,i<n->j<n->τ i=τ j->i=j)->fk n (λi=>b (τ i))<=fk N b
 |0,_,_,_=>fs _
 |n+1,b,E,H=>by
  have aA:=Zy (n:=n) (λi=>if i=τ n then 0 else b i) (λi J=>E i (by omega)) λi j J ah=>H i j (by omega) (by omega);rw[ah9 b (E n (by omega)),fk]
  have:fk n (λi=>b (τ i))=fk n λi=>if τ i=τ n then 0 else b (τ i):=Mh λi J=>by
   rw[ag λh=>by have:=H i n (by omega) (by omega) h;omega]
  omega
def iT:Nat->(Nat->Nat)->Nat
 |0,_=>1
 |n+1,b9=>iT n b9*b9 n
theorem aia {n:Nat}{b9:Nat->Nat}(h:∀k,k<n->0<b9 k):0<iT n b9:=by
 induction n with
 |zero=>exact Zz
 |succ n aA=>exact Mi (aA λk M=>h k (by omega)) (h n (by omega))
theorem ZA {n b:Nat}{b9:Nat->Nat}(h:∀k,k<n->b9 k<=2^b):iT n b9<=2^(n*b):=by
 induction n with
 |zero=>simp[iT]
 |succ n aA =>
  rw[tp,vZ];exact o1 (aA λk M=>h k (by omega)) (h n (by omega))
theorem aib {n:Nat}{b9:Nat->Nat}{k:Nat}(M:k<n):∃m,iT n b9=b9 k*m:=by
 induction n with
 |zero=>omega
 |succ n aA =>
  by_cases HF:k=n
  ·subst HF;exact⟨iT k b9,rz _ _⟩
  ·obtain⟨m,hm⟩:=aA (by omega);exact⟨m*b9 n,by rw[iT,hm,EL]⟩
theorem aic {p:Nat}{b9:Nat->Nat}(kK:∀k,0<b9 k):∀{N:Nat},p<=N->∃bV,0<bV/\iT N b9=iT p b9*bV/\∀k,p<=k->k<N->∃m,bV=b9 k*m
 |0,h=>⟨1,Zz,by rw[show p=0 by omega];rfl,λk _ h=>by omega⟩
 |N+1,h=>by
  by_cases aF:p=N+1
  ·exact⟨1,Zz,by rw[aF,cD],λk E H=>by omega⟩
  ·obtain⟨bV,ao,E,H⟩:=aic (p:=p) kK (N:=N) (by omega);refine⟨bV*b9 N,Mi ao (kK N),by rw[iT,E,EL],λk b6 dd=>?_⟩
   by_cases M:k=N
   ·exact⟨bV,by rw[M,rz]⟩
   ·obtain⟨m,hm⟩:=H k b6 (by omega);exact⟨m*b9 N,by rw[hm,EL]⟩
abbrev HO:=gd×(Nat->Nat)
def ng (n:Nat):List HO->Nat
 | []=>1
 |p::l=>fk n p.2*ng n l
theorem awH (n:Nat)(a b:List HO):ng n (a++b)=ng n a*ng n b:=by
 induction a with
 |nil=>simp[ng]
 |cons p l aA=>simp only[j1,ng,aA,EL]
theorem aid (n:Nat):∀l:List HO,ng n l<=ng (n+1) l
 | []=>bX _
 |p::l=>o1 (Nat.le_add_right _ _) (aid n l)
theorem aie {n:Nat}{f:List gd->Rat}(h:∀l:List HO,(∀p∈l,∀i,i<n->eO (p.2 i) (p.1 i))->eO (ng n l) (f (l.map (·.1)))):
  ∀cs pre:List HO,(∀p∈pre++cs,∀i,i<n+1->eO (p.2 i) (p.1 i))->∃z:Int,jA n f (pre.map (·.1)) (cs.map (·.1))=(z:Rat)/\z.natAbs+ng n pre*ng n cs<=ng n pre*ng (n+1) cs
 | [],pre,_=>⟨0,rfl,by simp[ng]⟩
 |c::cs,pre,aF=>by
  obtain⟨z,E,H⟩:=aie h cs (pre++[c]) (by simpa using aF);obtain⟨y,cE,ck⟩:=h (pre++cs) λp hm i J=>aF p (by simp only[js,hP] at hm ⊢;rcases hm with hm|hm<;>simp[hm]) i (by omega)
  obtain⟨x,b6,dd⟩:=aF c (by simp) n (by omega);simp only[kT,eC,cS] at E cE;refine⟨x*y-z,?_,?_⟩
  ·simp only[eC,jA];rw[b6,cE,E,CA,p7]
  ·rw[awH] at H ck;simp only[ng,fk,cD] at H ⊢;have cQ:(x*y-z).natAbs<=x.natAbs*y.natAbs+z.natAbs:=by rw[<-qJ];omega
   have de:=o1 dd (eQ ck (o1 (bX _) (aid n cs)));generalize ng n pre=P at *;generalize ng n cs=s at *;generalize ng (n+1) cs=S at *;generalize fk n c.2=L at *;generalize c.2 n=a at *;have ay:P*((L+a)*S)=P*L*S+a*(P*S):=by rw[Nat.add_mul,Nat.mul_add,EL,aif a]
   have aB:P*(L*s)=P*L*s:=(EL _ _ _).symm;rw[ay,aB];omega
theorem aih:∀n (l:List HO),(∀p∈l,∀i,i<n->eO (p.2 i) (p.1 i))->eO (ng n l) (gR n (l.map (·.1)))
 |0,[],_=>⟨1,by rfl,by simp[ng]⟩
 |0,p::l,_=>eO.zero
 |n+1,l,h=>by
  obtain⟨z,E,H⟩:=aie (f:=gR n) (aih n) l [] (by simpa using h);refine⟨z,E,?_⟩;simp only[ng,Nat.one_mul] at H;omega
open Go
def lp (N:Nat)(l:List bg)(q:Nat->Rat):Prop:=l=((dU (N+1)).map q).map aq/\∀k,k<=N->dg (q k)
def xl (N:Nat)(rows:List dt)(aL:eF):Prop:=D rows=N/\∀(i:Nat) x,rows[i]?=some x->lp N x.2.2 (aL i)
theorem lp.get {N:Nat}{l:List bg}{q:Nat->Rat}(h:lp N l q){k:Nat}(M:k<=N):l[k]?=some (aq (q k)):=by
 rw[h.1,bh,bh,tn (by omega)]
 rfl
theorem lp.len {N:Nat}{l:List bg}{q:Nat->Rat}(h:lp N l q):(D l)=N+1:=by rw[h.1];simp
theorem lp.ZB {N:Nat}{l:List bg}{q:Nat->Rat}(av:(D l)=N+1)(h:∀k,k<=N->l[k]?=some (aq (q k))/\dg (q k)):lp N l q:=by
 refine⟨?_,λk M=>(h k M).2⟩;apply pM;intro k;rcases ir k (N+1) with M|M
 ·rw[(h k (by omega)).1,bh,bh,tn M];rfl
 ·rw[mx (by omega),mx (by simp;omega)]
theorem lp.congr {N:Nat}{l:List bg}{q tS:Nat->Rat}(h:lp N l q)(aO:∀k,k<=N->q k=tS k):lp N l tS :=
 lp.ZB h.len λk M=>by rw[<-aO k M];exact⟨h.get M,h.2 k M⟩
theorem lp.cell {N:Nat}{x:dt}{q:Nat->Rat}(h:lp N x.2.2 q){k:Nat}(M:k<=N):cellOf x k=aq (q k):=Ys (h.get M)
theorem QX (q:Rat):nD (aq q)=decide (q=0):=by
 unfold nD aq bQ;rw[Bool.eq_iff_iff,beq_iff_eq,decide_eq_true_eq,Int.sign_eq_zero_iff_zero,aii]
def rR (fD a b:Rat):Bool:=z6 fD b&&lk a (-(fD*b))
theorem aij {fD a b:Rat}(aK:dg fD)(aM:dg a)(ae:dg b)(h:rR fD a b=true):
  oa (aq fD) (aq b)=(aq (fD*b),0)/\oW (aq a) (aq (fD*b))=(aq (a-fD*b),0)/\dg (a-fD*b):=by
 unfold rR at h;rw[e9] at h;refine⟨?_,?_,agm h.2⟩
 ·rw[W0 aK ae,h.1];rfl
 ·rw[Li aM (agn h.1),h.2];rfl
theorem awI {fD a b:Rat}(aK:dg fD)(aM:dg a)(ae:dg b)(h:rR fD a b=false):
  ((oa (aq fD) (aq b)).2 != 0||(oW (aq a) (oa (aq fD) (aq b)).1).2 != 0)=true:=by
 unfold rR at h;rw[W0 aK ae];rcases E:z6 fD b
 ·rfl
 ·rw[E,g1] at h;show ((oW (aq a) (aq (fD*b))).2 != 0)=true;rw[Li aM (agn E),h]
  rfl
theorem awJ {fD:Rat}(aK:dg fD):∀(xm pl:List Rat),D xm=(D pl)->(∀x∈xm,dg x)->(∀x∈pl,dg x) ->
  ((∀q∈xm.zip pl,rR fD q.1 q.2=true)->jy (aq fD) (xm.map aq) (pl.map aq) false=((ZC (λa b=>a-fD*b) xm pl).map aq,false)/\∀x∈ZC (λa b=>a-fD*b) xm pl,dg x) /\
  ((jy (aq fD) (xm.map aq) (pl.map aq) false).2=false->∀q∈xm.zip pl,rR fD q.1 q.2=true):=by
 intro xm
 induction xm with
 |nil=>intro pl av _ _;cases pl with
  |nil=>exact⟨λ_=>⟨rfl,by simp⟩,λ_=>by simp⟩
  |cons=>cases av
 |cons a xm aA =>
  intro pl av E H
  cases pl with
  |nil=>cases av
  |cons b pl =>
   have aM:=E a gF;have ae:=H b gF;obtain⟨i1,i2⟩:=aA pl (by simpa using av) (λx O=>E x (hf _ O)) (λx O=>H x (hf _ O))
   constructor
   ·intro fh;obtain⟨ay,aB,bG⟩:=aij aK aM ae (fh (a,b) (by simp));obtain⟨i3,i4⟩:=i1 λq aO=>fh q (by simp only[aik,hP];exact .inr aO);refine⟨?_,λx O=>?_⟩
    ·simp only[eC,jy,ay,aB,ail,bne_self_eq_false,l3,i3]
    ·rw[ail,hP] at O;rcases O with rfl|O
     ·exact bG
     ·exact i4 x O
   ·intro eR;simp only[eC,jy] at eR;rcases U:rR fD a b
    ·rw[awI aK aM ae U,Yu] at eR
     cases eR
    ·obtain⟨ay,aB,bG⟩:=aij aK aM ae U;simp only[ay,aB,bne_self_eq_false,l3] at eR;intro q aO;rw[aik,hP] at aO;rcases aO with rfl|aO
     ·exact U
     ·exact i2 eR q aO
theorem awK (n:Nat)(q p:Nat->Rat):((dU n).map q).zip ((dU n).map p)=(dU n).map λk=>(q k,p k):=by
 rw[List.zip_map',]
theorem awL (n:Nat)(f:Rat->Rat->Rat)(q p:Nat->Rat):ZC f ((dU n).map q) ((dU n).map p)=(dU n).map λk=>f (q k) (p k):=by
 rw[List.zipWith_map,List.zipWith_self]
theorem awM {N:Nat}{fD:Rat}{l al:List bg}{q p:Nat->Rat}(aK:dg fD)(E:lp N l q)(H:lp N al p):
  ((∀k,k<=N->rR fD (q k) (p k)=true)->(jy (aq fD) l al false).2=false)/\((jy (aq fD) l al false).2=false->lp N (jy (aq fD) l al false).1 (λk=>q k-fD*p k)):=by
 obtain⟨ay,aB⟩:=awJ aK ((dU (N+1)).map q) ((dU (N+1)).map p) (by simp) (by
  intro x O;obtain⟨k,M,rfl⟩:=dV.1 O;exact E.2 k (by have:=g2.1 M;omega)) (by
  intro x O;obtain⟨k,M,rfl⟩:=dV.1 O;exact H.2 k (by have:=g2.1 M;omega))
 rw[<-E.1,<-H.1] at ay aB
 have aW:(∀k,k<=N->rR fD (q k) (p k)=true)↔∀x∈((dU (N+1)).map q).zip ((dU (N+1)).map p),rR fD x.1 x.2=true:=by
  rw[awK];simp only[dV,g2]
  constructor
  ·rintro h x ⟨k,M,rfl⟩;exact h k (by omega)
  ·intro h k M;exact h (q k,p k) ⟨k,by omega,rfl⟩
 refine⟨λh=>by rw[(ay (aW.1 h)).1],λh=>?_⟩
 obtain⟨bG,dp⟩:=ay (aB h);rw[bG,awL] at *;exact⟨rfl,λk M=>dp _ (dV.2 ⟨k,g2.2 (by omega),rfl⟩)⟩
theorem QY (ga:List bg)(r c:Nat):∀(i:Nat) (l:List dt),(kf ga r c i l true).2=true
 |_,[]=>rfl
 |i,x::xs=>by
  unfold kf
  split
  ·exact QY ga r c (i+1) xs
  ·rw[Yu];exact QY ga r c (i+1) xs
theorem aim {N r c:Nat}{ga:List bg}{p:Nat->Rat}(aF:lp N ga p)(G:c<=N):∀(i:Nat) (l:List dt) (b9:eF),(∀(j:Nat) x,l[j]?=some x->lp N x.2.2 (b9 (i+j))) ->
  ((∀j,j<(D l)->i+j≠r->b9 (i+j) c≠0->∀k,k<=N->rR (b9 (i+j) c) (b9 (i+j) k) (p k)=true)->(kf ga r c i l false).2=false) /\
  ((kf ga r c i l false).2=false->∀(j:Nat) x,(kf ga r c i l false).1[j]?=some x->lp N x.2.2 (λk=>if i+j=r then b9 (i+j) k else b9 (i+j) k-b9 (i+j) c*p k))
 |i,[],b9,h=>⟨λ_=>rfl,λ_ j x O=>by simp[kf] at O⟩
 |i,x::xs,b9,h=>by
  have ao:=h 0 x rfl;rw[nX] at ao
  obtain⟨ain,QZ⟩:=aim aF G (i+1) xs b9 λj y ar=>by
   have:=h (j+1) y ar;rwa [show i+(j+1)=i+1+j by omega] at this
  have pd:=ao.cell G
  have aio:(∀j,j<(x::xs).length->i+j≠r->b9 (i+j) c≠0->∀k,k<=N->rR (b9 (i+j) c) (b9 (i+j) k) (p k)=true)->∀j,j<(D xs)->i+1+j≠r->b9 (i+1+j) c≠0->∀k,k<=N->rR (b9 (i+1+j) c) (b9 (i+1+j) k) (p k)=true:=by
   intro aT j ah;have:=aT (j+1) (by simpa using ah);rwa [show i+(j+1)=i+1+j by omega] at this
  unfold kf;rw[pd,QX]
  by_cases aW:(i==r||decide (b9 i c=0))=true
  ·rw[ab aW];refine⟨λaT=>ain (aio aT),λae j y ar=>?_⟩
   cases j with
   |zero =>
    simp only[zu,cm] at ar;subst ar;rw[nX];refine ao.congr λk M=>?_;simp only[x5,beq_iff_eq,decide_eq_true_eq] at aW
    split
    ·rfl
    ·rcases aW with aW|aW
     ·contradiction
     ·rw[aW];grind
   |succ j =>
    have:=QZ ae j y (by simpa using ar);rwa [show i+(j+1)=i+1+j by omega]
  ·rw[ag aW];simp only[x5,beq_iff_eq,decide_eq_true_eq,not_or] at aW;obtain⟨cE,ck⟩:=awM (ao.2 c G) ao aF
   constructor
   ·intro aT;have af:=cE (aT 0 (by simp) (by simpa using aW.1) (by simpa using aW.2));dsimp only;rw[af];exact ain (aio aT)
   ·intro ae j y ar;dsimp only at ae ar;rcases nv:(jy (aq (b9 i c)) x.2.2 ga false).2
    ·rw[nv] at ae ar
     cases j with
     |zero =>
      simp only[zu,cm] at ar;subst ar;rw[nX];exact (ck nv).congr λk M=>by rw[ag aW.1]
     |succ j =>
      have:=QZ ae j y (by simpa using ar);rwa [show i+(j+1)=i+1+j by omega]
    ·rw[nv,QY] at ae
     cases ae
theorem awN {N:Nat}{l:List bg}{q:Nat->Rat}{b:Rat}(h:lp N l q)(ae:dg b)(ao:b≠0):
  ((h4 (aq b) l).2=false↔∀k,k<=N->w9 (q k) b=true)/\((h4 (aq b) l).2=false->lp N (h4 (aq b) l).1 (λk=>q k/b)):=by
 have ay:(h4 (aq b) l).2=false↔∀k,k<=N->w9 (q k) b=true:=by
  unfold h4;rw[h.1];simp only[xj,dV,g2]
  constructor
  ·intro aT k M;have:=aT (aq (q k)) ⟨q k,⟨k,by omega,rfl⟩,rfl⟩
   rw[PV (h.2 k M) ae ao] at this;rcases Y:w9 (q k) b
   ·rw[Y] at this;exact absurd rfl this
   ·rfl
  ·rintro aT _ ⟨_,⟨k,M,rfl⟩,rfl⟩;rw[PV (h.2 k (by omega)) ae ao,aT k (by omega)];simp[ud]
 refine⟨ay,λaT=>?_⟩;have cR:=ay.1 aT;refine lp.ZB (by unfold h4;rw[ai,h.len]) λk M=>⟨?_,atL (cR k M)⟩;unfold h4;rw[bh,h.get M,mB,PV (h.2 k M) ae ao,cR k M]
 rfl
theorem xl.row {N:Nat}{rows:List dt}{aL:eF}(h:xl N rows aL){i:Nat}(J:i<N):∃x,rows[i]?=some x/\rowAt rows i=x/\lp N x.2.2 (aL i):=by
 obtain⟨x,O⟩:∃x,rows[i]?=some x:=⟨_,bu (by have:=h.1;omega)⟩;exact⟨x,O,xg O,h.2 i x O⟩
theorem xl.swap {N:Nat}{rows:List dt}{aL:eF}(h:xl N rows aL){r s:Nat}(aa:r<N)(U:s<N):xl N (qS rows r s) (hD aL r s):=by
 obtain⟨x,O,ex,oj⟩:=h.row aa;obtain⟨y,ar,Th,awO⟩:=h.row U;unfold qS;rw[ex,Th];refine⟨by rw[iY,iY];exact h.1,λi z aW=>?_⟩
 rw[nC,nC,iY] at aW;unfold hD
 by_cases E:s=i
 ·rw[ab E,ab (by have:=h.1;omega)] at aW
  cases aW;rw[ab E.symm];exact oj
 ·rw[ag E] at aW;rw[ag (Ne.symm E)]
  by_cases H:r=i
  ·rw[ab H,ab (by have:=h.1;omega)] at aW
   cases aW;rw[ab H.symm];exact awO
  ·rw[ag H] at aW;rw[ag (Ne.symm H)];exact h.2 i z aW
def aip (N:Nat)(S:eF)(r c:Nat):Prop:=(∀k,k<=N->w9 (S r k) (S r c)=true)/\∀i,i<N->i≠r->S i c≠0->∀k,k<=N->rR (S i c) (S i k) (S r k/S r c)=true
theorem aiq {N:Nat}{rows:List dt}{aL:eF}(h:xl N rows aL){r c:Nat}(aa:r<N)(G:c<N):
  ((iR rows r c).1=true/\(iR rows r c).2.1=rows/\(iR rows r c).2.2=false/\∀i,r<=i->i<N->aL i c=0) \/
  ((iR rows r c).1=false/\∃s,r<=s/\s<N/\aL s c≠0/\((iR rows r c).2.2=false->xl N (iR rows r c).2.1 (o0 aL r c s))/\(aip N (hD aL r s) r c->(iR rows r c).2.2=false)):=by
 have av:=h.1;have lD:=ahy rows r c (by omega)
 have kl:∀i x,r<=i->i<findAt rows r c->rows[i]?=some x->nD (cellOf x c)=true:=by
  intro i x rh nV O;unfold findAt at nV;have az:i-r<(rows.drop r).findIdx λx => !nD (cellOf x c):=by omega
  have:=List.not_of_lt_findIdx az
  have a9:(rows.drop r)[i-r]'(Nat.lt_of_lt_of_le az ahz)=x:=by
   rw[LI];have:=(dP.1 O)
   obtain⟨E,H⟩:=this;simp only[show r+(i-r)=i by omega]
   exact H
  rw[a9] at this
  simpa using this
 unfold iR
 by_cases aK:findAt rows r c=D rows
 ·left
  rw[ab aK];refine⟨rfl,rfl,rfl,λi rh nV=>?_⟩;obtain⟨x,O,-,oj⟩:=h.row nV;have:=kl i x rh (by omega) O;rw[oj.cell (by omega),QX] at this
  simpa using this
 ·right
  rw[ag aK];refine⟨rfl,findAt rows r c,lD.1,by omega,?_,?_⟩
  ·obtain⟨x,O,-,oj⟩:=h.row (i:=findAt rows r c) (by omega);have az:findAt rows r c-r<(rows.drop r).length:=by rw[ry];omega
   have H:(rows.drop r).findIdx (λx => !nD (cellOf x c))<(rows.drop r).length:=by
    unfold findAt at az;omega
   have af:=air (w:=H)
   have a9:(rows.drop r)[(rows.drop r).findIdx λx => !nD (cellOf x c)]=x:=by
    rw[LI];exact (dP.1 O).2
   rw[a9,oj.cell (by omega),QX] at af
   simpa using af
  ·have U:findAt rows r c<N:=by omega
   have Ai:=h.swap aa U
   have bI:hD aL r (findAt rows r c) r c≠0:=by
    rw[QD];obtain⟨x,O,-,oj⟩:=h.row U
    have H:(rows.drop r).findIdx (λx => !nD (cellOf x c))<(rows.drop r).length:=by
     rw[ry];unfold findAt at U;omega
    have af:=air (w:=H)
    have a9:(rows.drop r)[(rows.drop r).findIdx λx => !nD (cellOf x c)]=x:=by
     rw[LI];exact (dP.1 O).2
    rw[a9,oj.cell (by omega),QX] at af
    simpa using af
   have Qr:o0 aL r c (findAt rows r c)=λi k=>if i=r then hD aL r (findAt rows r c) r k/hD aL r (findAt rows r c) r c else hD aL r (findAt rows r c) i k-hD aL r (findAt rows r c) i c*(hD aL r (findAt rows r c) r k/hD aL r (findAt rows r c) r c):=rfl;rw[Qr];generalize qS rows r (findAt rows r c)=ig at *;generalize hD aL r (findAt rows r c)=S at *;obtain⟨x,O,ex,oj⟩:=Ai.row aa;rw[ex,oj.cell (by omega)];obtain⟨d1,d2⟩:=awN oj (oj.2 c (by omega)) bI
   have zU:Ez ig r c=ig.set r (x.1,x.2.1,(h4 (aq (S r c)) x.2.2).1):=by
    unfold Ez;rw[ex,oj.cell (by omega)]
   rw[zU]
   have ZD:lp N (h4 (aq (S r c)) x.2.2).1 (λk=>S r k/S r c)->∀(j:Nat) y,(ig.set r (x.1,x.2.1,(h4 (aq (S r c)) x.2.2).1))[j]?=some y->lp N y.2.2 ((λi=>if i=r then λk=>S r k/S r c else S i) (0+j)):=by
    intro Y j y ar;rw[kH];rw[nC] at ar
    by_cases ah:r=j
    ·rw[ab ah,ab (by have:=Ai.1;omega)] at ar
     cases ar;dsimp only;rw[ab ah.symm];exact Y
    ·rw[ag ah] at ar;dsimp only;rw[ag (Ne.symm ah)];exact Ai.2 j y ar
   dsimp only;rcases wT:(h4 (aq (S r c)) x.2.2).2
   ·have Y:=d2 wT;obtain⟨e8,et⟩:=aim (r:=r) (c:=c) Y (by omega) 0 (ig.set r (x.1,x.2.1,(h4 (aq (S r c)) x.2.2).1)) (λi=>if i=r then λk=>S r k/S r c else S i) (ZD Y)
    constructor
    ·intro ae;refine⟨?_,λi z aW=>?_⟩
     ·have:=congrArg D (Qy (h4 (aq (S r c)) x.2.2).1 r c 0 (ig.set r (x.1,x.2.1,(h4 (aq (S r c)) x.2.2).1)) false);rw[ai,ai,iY] at this;rw[this];exact Ai.1
     ·have:=et ae i z aW;rw[kH] at this;refine this.congr λk M=>?_
      by_cases p3:i=r
      ·simp only[ab p3]
      ·simp only[ag p3]
    ·intro cR;refine e8 λj ah Mj bI k M=>?_;rw[kH] at *;simp only[ag Mj] at bI ⊢;rw[iY,Ai.1] at ah;exact cR.2 j ah Mj bI k M
   ·constructor
    ·intro ae;rw[QY] at ae
     cases ae
    ·intro cR;rw[d1.2 cR.1] at wT
     cases wT
structure HP (N:Nat) (aL v3:eF) (rows:List dt) (p c:Nat) (bE:Nat->Nat):Prop where
 enc:xl N rows v3
 red:qW N v3 p c bE
 HR:∀y,h5 N v3 y↔h5 N aL y
theorem awP (stop:Bool)(N:Nat)(ais:eF):∀k c rows free aL p bE,c+k=N->HP N ais aL rows p c bE->p+D free=c->(stop=true->free=[]/\∀j,j<p->bE j=j) ->
  ∀xn rS,me stop k c rows free false=(xn,rS,false) ->
  ∃v3 oL c' uB,HP N ais v3 xn oL c' uB/\(stop=false->c'=N/\oL+D rS=N) /\
   (stop=true->(rS=[]/\c'=N/\oL=N/\∀j,j<N->uB j=j)\/(∃f,rS=[f]/\f<N/\oL=f/\c'=f/\(∀j,j<f->uB j=j)/\∀i,f<=i->i<N->v3 i f=0)):=by
 intro k
 induction k with
 |zero =>
  intro c rows free aL p bE G he aF U xn rS O;simp only[me,fo,and_true] at O;obtain⟨rfl,rfl⟩:=O;refine⟨aL,p,c,bE,he,λ_=>⟨by omega,by omega⟩,λh=>?_⟩
  obtain⟨E,H⟩:=U h;subst E;simp only[k9,nX] at aF;exact .inl ⟨rfl,by omega,by omega,λj ah=>H j (by omega)⟩
 |succ k aA =>
  intro c rows free aL p bE G he aF U xn rS O;have fu:c-D free=p:=by omega
  unfold me at O;rw[fu] at O;rcases aiq he.enc (r:=p) (c:=c) (by omega) (by omega) with ⟨E,H,af,aP⟩|⟨E,s,hJ,iE,s0,aP,bt⟩
  ·rw[E,H,af,ab rfl] at O
   cases stop with
   |true =>
    rw[ab rfl] at O;simp only[fo,and_true] at O;obtain⟨rfl,rfl⟩:=O;obtain⟨cE,ck⟩:=U rfl;subst cE;simp only[k9,nX] at aF;subst aF;exact⟨aL,p,p,bE,he,by simp,λ_ => .inr ⟨p,rfl,by omega,rfl,rfl,ck,aP⟩⟩
   |false =>
    rw[ag (by simp)] at O;exact aA (c+1) rows (free++[c]) aL p bE (by omega) ⟨he.enc,he.red.free aP,he.HR⟩ (by simp;omega) (by simp) xn rS O
  ·rw[E,ag (by simp)] at O;rcases ae:(iR rows p c).2.2
   ·rw[ae] at O;have ZE:=aP ae;refine aA (c+1) _ free (o0 aL p c s) (p+1) (λj=>if j=p then c else bE j) (by omega) ⟨ZE,he.red.EF (by omega) hJ iE s0,λy=>(Y9 (by omega) iE s0).trans (he.HR y)⟩ (by omega) (λh=>?_) xn rS O;obtain⟨cE,ck⟩:=U h;refine⟨cE,λj ah=>?_⟩;subst cE;simp only[k9,nX] at aF;show (if j=p then c else bE j)=j
    split
    ·omega
    ·exact ck j (by omega)
   ·rw[ae,ahv] at O
    cases O
def qX (rs:List e0):eF:=λi k=>if k<(D rs) then B6 ((rs.getD i ([],fj)).1.getD k fj) else B6 (rs.getD i ([],fj)).2
theorem ait {f:bg}(h:ei f=true):f=aq (B6 f)/\dg (B6 f):=by
 obtain⟨x,O,rfl⟩:=(Le _).1 h;rw[Eg];exact⟨rfl,O⟩
theorem awQ {rs:List e0}{n:Int}(h:ob rs n=true):(D rs:Int)=n/\D rs<=40/\∀r∈rs,r.1.length=D rs/\ei r.2=true/\∀f∈r.1,ei f=true:=by
 unfold ob at h;simp only[e9,uf,decide_eq_false_iff_not,beq_iff_eq] at h;obtain⟨E,H,af,aP⟩:=h;refine⟨af,by omega,λr aa=>?_⟩
 rw[xj] at aP;have:=aP r aa;unfold oX G6 at this;simp only[uf,Bool.not_eq_true,Bool.not_eq_false',e9,beq_iff_eq,xj,Bool.not_eq_false] at this;obtain⟨hp,fb,uC⟩:=this;exact⟨by omega,fb,λf aK=>by simpa using uC f aK⟩
theorem aiu {rs:List e0}{i:Nat}{r:e0}(h:rs[i]?=some r):rs.getD i ([],fj)=r:=by
 rw[dZ,h];rfl
theorem aiv {rs:List e0}{n:Int}(h:ob rs n=true):xl (D rs) (hL rs) (qX rs):=by
 obtain⟨aH,aLW,ZD⟩:=awQ h;refine⟨EE rs,λi x O=>?_⟩
 have J:i<D rs:=by
  have:=(dP.1 O).1;rwa [EE] at this
 obtain⟨r,aa⟩:∃r,rs[i]?=some r:=⟨_,bu J⟩;rw[ahq aa] at O
 cases O;obtain⟨ay,aB,bG⟩:=ZD r (eg aa);refine lp.ZB (by simp[ay]) λk M=>?_;unfold qX;rw[aiu aa]
 by_cases fF:k<D rs
 ·rw[ab fF];obtain⟨f,aK⟩:∃f,r.1[k]?=some f:=⟨_,bu (by omega)⟩;obtain⟨hp,fb⟩:=ait (bG f (eg aK));rw[qq (by omega),aK,dZ,aK];exact⟨congrArg some hp,fb⟩
 ·rw[ag fF];obtain⟨hp,fb⟩:=ait aB;rw[ri (by omega),ay,show k-D rs=0 by omega]
  exact⟨congrArg some hp,fb⟩
theorem awR (stop:Bool){rs:List e0}{n:Int}(h:ob rs n=true){xn:List dt}{rS:List Nat}(O:qU stop rs=(xn,rS,false)):
  ∃v3 oL c' uB,HP (D rs) (qX rs) v3 xn oL c' uB/\(stop=false->c'=D rs/\oL+D rS=D rs) /\
   (stop=true->(rS=[]/\c'=D rs/\oL=D rs/\∀j,j<(D rs)->uB j=j)\/(∃f,rS=[f]/\f<D rs/\oL=f/\c'=f/\(∀j,j<f->uB j=j)/\∀i,f<=i->i<(D rs)->v3 i f=0)) :=
 awP stop (D rs) (qX rs) (D rs) 0 (hL rs) [] (qX rs) 0 (λj=>j) (by omega) ⟨aiv h,QF _ _ _,λ_=>Iff.rfl⟩ rfl (λ_=>⟨rfl,λj ah=>by omega⟩) xn rS O
def Mk (N:Nat)(q:Nat->Rat)(b:Nat):Prop:=∃(v:Nat->Int) (d:Int),d≠0/\d.natAbs<=2^b/\∀k,k<=N->q k*(d:Rat)=(v k:Rat)/\(v k).natAbs<=2^b
theorem Mk.mono {N a b:Nat}{q:Nat->Rat}(h:Mk N q a)(Aa:a<=b):Mk N q b:=by
 obtain⟨v,d,E,H,af⟩:=h;have aF:2^a<=2^b:=wZ (by omega) Aa;exact⟨v,d,E,eQ H aF,λk M=>⟨(af k M).1,eQ (af k M).2 aF⟩⟩
theorem awS {q:Rat}{v d:Int}(Y:d≠0)(h:q*(d:Rat)=(v:Rat)):q.num*d=v*q.den:=by
 have nn:(d:Rat)≠0:=by rw[Ne,aiw];exact Y
 have e:q=l9 v d:=by rw[Ml];grind
 have aB:l9 q.num q.den=l9 v d:=by rw[Rat.num_divInt_den];exact e
 exact (Rat.divInt_eq_divInt_iff (xa q) Y).1 aB
theorem CC {q:Rat}{v d:Int}(Y:d≠0)(h:q*(d:Rat)=(v:Rat)):q.num.natAbs<=v.natAbs/\q.den<=d.natAbs:=by
 have G:=awS Y h
 have lZ:q.num.natAbs*d.natAbs=v.natAbs*q.den:=by
  have:=congrArg Int.natAbs G;rwa [qJ,qJ,mR] at this
 have Ba:q.den∣d.natAbs:=(Nat.Coprime.symm q.reduced).dvd_of_dvd_mul_left ⟨v.natAbs,by rw[lZ,rz]⟩
 have Wh:0<d.natAbs:=by omega
 have H:=Nat.le_of_dvd Wh Ba;refine⟨?_,H⟩;obtain⟨m,hm⟩:=Ba;rw[hm] at lZ;have Wj:=q.den_pos
 have af:q.num.natAbs*m=v.natAbs:=by
  have:q.den*(q.num.natAbs*m)=q.den*v.natAbs:=by rw[rz q.den v.natAbs,<-lZ];rw[aif]
  exact Nat.eq_of_mul_eq_mul_left Wj this
 have k8:0<m:=by
  rcases k6 m with ao|ao
  ·rw[ao,Nat.mul_zero] at hm;omega
  ·exact ao
 rw[<-af];exact JS _ k8
def ec (b:Nat)(q:Rat):Prop:=q.num.natAbs<=2^b/\q.den<=2^b
theorem Mk.sz {N b:Nat}{q:Nat->Rat}(h:Mk N q b){k:Nat}(M:k<=N):ec b (q k):=by
 obtain⟨v,d,E,H,af⟩:=h;obtain⟨ay,aB⟩:=af k M;obtain⟨f1,f2⟩:=CC E ay;exact⟨eQ f1 aB,eQ f2 H⟩
theorem awT (a b c:Nat)(h:a=2^b):a^c=2^(b*c):=by rw[h,<-Nat.pow_mul]
theorem aix:∃B:Nat,B=1200/\ea=2^B:=⟨20*60,rfl,awT 1048576 20 60 (by decide)⟩
theorem CD {z:Int}{b:Nat}(h:z.natAbs<=2^b)(ae:b<1200):iQ z=true:=by
 obtain⟨B,fW,gw⟩:=aix;unfold iQ;rw[gw,decide_eq_true_eq];exact Nat.lt_of_le_of_lt h (Nat.pow_lt_pow_right (by omega) (by omega))
theorem s3 {x y:Int}{a b:Nat}(O:x.natAbs<=2^a)(ar:y.natAbs<=2^b):(x*y).natAbs<=2^(a+b):=by
 rw[qJ,vZ];exact o1 O ar
theorem aiy {x y:Int}{a:Nat}(O:x.natAbs<=2^a)(ar:y.natAbs<=2^a):(x+y).natAbs<=2^(a+1):=by
 have:=Int.natAbs_add_le x y;rw[wJ];omega
theorem ec.mono {a b:Nat}{q:Rat}(h:ec a q)(Aa:a<=b):ec b q:=by
 have aF:2^a<=2^b:=wZ (by omega) Aa;exact⟨eQ h.1 aF,eQ h.2 aF⟩
theorem ZF {x y:Rat}{a b:Nat}(O:ec a x)(ar:ec b y)(h:a+b<1200):z6 x y=true:=by
 unfold z6;rw[e9];exact⟨CD (s3 O.1 ar.1) h,CD (s3 (x:=(x.den:Int)) (y:=(y.den:Int)) (by simpa using O.2) (by simpa using ar.2)) h⟩
theorem aiz {x y:Rat}{a b:Nat}(O:ec a x)(ar:ec b y)(h:a+b<1200):w9 x y=true:=by
 unfold w9;rw[e9];exact⟨CD (s3 (y:=(y.den:Int)) O.1 (by simpa using ar.2)) h,CD (s3 (x:=(x.den:Int)) (by simpa using O.2) ar.1) h⟩
theorem EM {x y:Rat}{a b:Nat}(O:ec a x)(ar:ec b y)(h:a+b+1<1200):lk x y=true:=by
 unfold lk;have E:=s3 (y:=(y.den:Int)) O.1 (by simpa using ar.2);have H:=s3 (y:=(x.den:Int)) ar.1 (by simpa using O.2);rw[zb b a] at H;simp only[e9];exact⟨CD E (by omega),CD H (by omega),CD (aiy E H) h,CD (s3 (x:=(x.den:Int)) (y:=(y.den:Int)) (by simpa using O.2) (by simpa using ar.2)) (by omega)⟩
theorem HS {b:Nat}{q:Rat}(h:ec b q):ec b (-q):=⟨by rw[aiA,Int.natAbs_neg];exact h.1,h.2⟩
theorem ZG {p q:Int}{b:Nat}(E:p.natAbs<=2^b)(H:q.natAbs<=2^b)(aO:q≠0):ec b (l9 p q):=by
 have aLX:(q:Rat)≠0:=by rw[Ne,aiw];exact aO
 have:=CC (q:=l9 p q) (v:=p) aO (by rw[Ml];grind);exact⟨eQ this.1 E,eQ this.2 H⟩
theorem Mm {x y:Rat}{a b:Nat}(O:ec a x)(ar:ec b y):ec (a+b) (x*y):=by
 rw[<-WX];exact ZG (s3 O.1 ar.1) (s3 (x:=(x.den:Int)) (y:=(y.den:Int)) (by simpa using O.2) (by simpa using ar.2)) (z7 (xa x) (xa y))
theorem aiB {x y:Rat}{a b:Nat}(O:ec a x)(ar:ec b y):ec (a+b+1) (x+y):=by
 rw[<-WW];have E:=s3 (y:=(y.den:Int)) O.1 (by simpa using ar.2);have H:=s3 (y:=(x.den:Int)) ar.1 (by simpa using O.2);rw[zb b a] at H;have af:=s3 (x:=(x.den:Int)) (y:=(y.den:Int)) (a:=a) (b:=b) (by simpa using O.2) (by simpa using ar.2);exact ZG (aiy E H) (eQ af (wZ (by omega) (by omega))) (z7 (xa x) (xa y))
theorem awU {x y:Rat}{a b:Nat}(O:ec a x)(ar:ec b y)(ao:y≠0):ec (a+b) (x/y):=by
 rw[<-WY];have aH:y.num≠0:=λh=>ao (aii.1 h);exact ZG (s3 (y:=(y.den:Int)) O.1 (by simpa using ar.2)) (s3 (x:=(x.den:Int)) (by simpa using O.2) ar.1) (z7 (xa x) aH)
def uD (A:eF)(σ:Nat->Nat)(k:Nat):gd:=λi=>A (σ i) k
def p8:Nat->List Nat
 |0=>[]
 |p+1=>p::p8 p
theorem CE {k:Nat}:∀{p:Nat},k∈p8 p↔k<p
 |0=>by simp[p8]
 |p+1=>by
  simp only[p8,hP,CE (p:=p)];omega
theorem aiC {l:Nat}:∀{p:Nat},l<p->∃df gk,p8 p=df++l::gk/\∀m,m∈df++gk↔m<p/\m≠l
 |0,h=>by omega
 |p+1,h=>by
  by_cases av:l=p
  ·subst av;refine⟨[],p8 l,rfl,λm=>?_⟩;rw[jv,CE];omega
  ·obtain⟨df,gk,E,H⟩:=aiC (l:=l) (p:=p) (by omega);refine⟨p::df,gk,by simp[p8,E],λm=>?_⟩
   rw[j1,hP,H];omega
def rT (A:eF)(σ:Nat->Nat)(p:Nat):List gd:=(p8 p).map (uD A σ)
theorem Q0 {n:Nat}{c c':gd}(df gk:List gd)(h:∀i,i<n->c i=c' i):gR n (df++c::gk)=gR n (df++c'::gk):=by
 have:=ah8 (n:=n) (df.map (λx=>(x,x))++(c,c')::gk.map (λx=>(x,x))) B8 Prod.snd (λa aM i J=>by
  simp only[js,hP,dV] at aM;rcases aM with ⟨x,_,rfl⟩|rfl|⟨x,_,rfl⟩
  ·rfl
  ·exact h i J
  ·rfl)
 simpa [Function.comp_def] using this
theorem aiD {A:eF}{σ τ:Nat->Nat}{p:Nat}(h:∀i,i<p->σ i=τ i):gR p (rT A σ p)=gR p (rT A τ p) :=
 ah8 _ _ _ λa _ i J=>by unfold uD;rw[h i J]
def Mn (N:Nat)(A aL:eF)(σ:Nat->Nat)(p:Nat):Prop:=∀i,i<N->∀k,p<=k->k<=N->A (σ i) k=(if i<p then 0 else aL i k)+bx p λl=>A (σ i) l*aL l k
def lQ (N:Nat)(A aL:eF)(p:Nat):Prop:=∃σ:Nat->Nat,(∀i,i<N->σ i<N)/\(∀i j,i<N->j<N->σ i=σ j->i=j)/\Mn N A aL σ p/\gR p (rT A σ p)≠0
theorem lQ.start (N:Nat)(A:eF):lQ N A A 0:=by
 refine⟨λi=>i,λi h=>h,λi j _ _ h=>h,λi J k _ M=>?_,?_⟩
 ·rw[ag (by omega)];show A i k=A i k+0;grind
 ·show (1:Rat)≠0;decide
theorem awV {p:Nat}(a x y:Nat->Rat)(t:Rat):bx p (λl=>a l*(x l-y l*t))=bx p (λl=>a l*x l)-t*bx p λl=>a l*y l:=by
 have:(λl=>a l*(x l-y l*t))=λl=>a l*x l+(-t)*(a l*y l):=by funext l;grind
 rw[this,vV,Ao];grind
theorem lQ.step {N p s:Nat}{A aL:eF}(h:lQ N A aL p)(aF:p<N)(U:p<=s)(Ap:s<N)(bI:aL s p≠0):lQ N A (o0 aL p p s) (p+1):=by
 obtain⟨σ,hσ,HT,aa,Y⟩:=h
 let π:Nat->Nat:=λi=>if i=s then p else if i=p then s else i
 have hπ:∀i,hD aL p s i=aL (π i):=by
  intro i;show (if i=s then aL p else if i=p then aL s else aL i)=aL (if i=s then p else if i=p then s else i)
  split
  ·rfl
  ·split<;>rfl
 have hπN:∀i,i<N->π i<N:=λi J=>by show (if i=s then p else if i=p then s else i)<N;split<;>(try split)<;>omega
 have hπp:∀i,i<p->π i=i:=λi J=>by show (if i=s then p else if i=p then s else i)=i;rw[ag (by omega),ag (by omega)]
 have hπq:∀i,p<=i->p<=π i:=λi J=>by show p<=(if i=s then p else if i=p then s else i);split<;>(try split)<;>omega
 have hπj:∀i j,π i=π j->i=j:=λi j=>by
  show (if i=s then p else if i=p then s else i)=(if j=s then p else if j=p then s else j)->i=j
  (repeat' split)<;>omega
 have aiE:∀i j,i<N->j<N->σ (π i)=σ (π j)->i=j:=λi j J ah h=>hπj i j (HT _ _ (hπN i J) (hπN j ah) h)
 have cJ:Mn N A (hD aL p s) (λi=>σ (π i)) p:=by
  intro i J k kU fF;have:=aa (π i) (hπN i J) k kU fF;rw[this]
  congr 1
  ·by_cases nf:i<p
   ·rw[ab nf,ab (by rw[hπp i nf];exact nf)]
   ·rw[ag nf,ag (by have:=hπq i (by omega);omega),hπ]
  ·refine ki λl av=>?_;rw[hπ l,hπp l av]
 have awW:hD aL p s p p≠0:=by rw[QD];exact bI
 generalize awX:hD aL p s=S at *
 have aO:o0 aL p p s=λi k=>if i=p then S p k/S p p else S i k-S i p*(S p k/S p p):=by
  funext i k;unfold o0;rw[awX]
 rw[aO]
 have nn:gR p (rT A (λi=>σ (π i)) p)≠0:=by
  rw[aiD (τ:=σ) λi J=>by show σ (π i)=σ i;rw[hπp i J]]
  exact Y
 have hσ2:∀i,i<N->σ (π i)<N:=λi J=>hσ _ (hπN i J)
 change ∀i,i<N->(λi=>σ (π i)) i<N at hσ2
 change ∀i j,i<N->j<N->(λi=>σ (π i)) i=(λi=>σ (π i)) j->i=j at aiE
 generalize hτ:(λi=>σ (π i))=τ at *;refine⟨τ,hσ2,aiE,λi J k kU fF=>?_,?_⟩
 ·have ay:=cJ i J k (by omega) fF;have aB:=cJ i J p (by omega) (by omega);simp only[bx,if_true];rw[ki (g:=λl=>A (τ i) l*(S l k-S l p*(S p k/S p p))) λl av=>by rw[ag (by omega)],awV]
  generalize bx p (λl=>A (τ i) l*S l k)=df at *;generalize bx p (λl=>A (τ i) l*S l p)=gk at *
  by_cases E:i<p
  ·rw[ab E] at ay aB;rw[ab (by omega)];grind
  ·rw[ag E] at ay aB
   by_cases H:i=p
   ·subst H;rw[ab (by omega)];grind
   ·rw[ag (by omega),ag H];grind
 ·have G:gR (p+1) (rT A τ (p+1))=S p p*gR p (rT A τ p):=by
   show gR (p+1) ([]++uD A τ p::rT A τ p)=_
   rw[Q0 (c':=CB (λi=>if i<p then 0 else S i p) (λi=>bx p λl=>S l p*uD A τ l i) 1) [] _ λi J=>by
    have:=cJ i (by omega) p (by omega) (by omega);show A (τ i) p=(if i<p then 0 else S i p)+1*bx p λl=>S l p*A (τ i) l;rw[this,QW]
    congr 1
    exact ki λl _=>uE _ _]
   rw[EK,Mg,sT λl av=>by
    rw[Zu (by rw[jv];exact p9 (CE.2 av))];exact nF _]
   rw[jv,ah7 λi J=>ab J,ag (by omega)];grind
  rw[G];intro ao;rcases ZH.1 ao with ao|ao
  ·exact awW ao
  ·exact nn ao
theorem awY {N p l k:Nat}{A aL:eF}{σ:Nat->Nat}(aa:Mn N A aL σ p)(aF:p<=N)(av:l<p)(kU:p<=k)(fF:k<=N):∃df gk:List Nat,p8 p=df++l::gk/\(∀m∈df++gk,m<p)/\aL l k*gR p (rT A σ p)=gR p ((df++k::gk).map (uD A σ)):=by
 obtain⟨df,gk,nw,hm⟩:=aiC av;refine⟨df,gk,nw,λm ac7=>((hm m).1 ac7).1,?_⟩
 ·rw[kT,eC]
  rw[Q0 (c':=λi=>bx p λm=>aL m k*uD A σ m i) _ _ λi J=>by
   have:=aa i (by omega) k kU fF;rw[ab J] at this;show A (σ i) k=bx p λm=>aL m k*A (σ i) m;rw[this,As];exact ki λl _=>uE _ _]
  rw[Mg,yK av λm awZ mz=>by
   rw[Zu (by rw[<-kT];exact p9 ((hm m).2 ⟨awZ,mz⟩))];exact nF _]
  unfold rT;rw[nw,kT,eC]
theorem aw0 {N p i k:Nat}{A aL:eF}{σ:Nat->Nat}(aa:Mn N A aL σ p)(rh:p<=i)(nV:i<N)(kU:p<=k)(fF:k<=N):aL i k*gR p (rT A σ p)=gR (p+1) ((k::p8 p).map (uD A λj=>if j=p then σ i else σ j)):=by
 have hτ:∀j,j<p->(λj=>if j=p then σ i else σ j) j=σ j:=λj ah=>ag (by omega);have hτp:(λj=>if j=p then σ i else σ j) p=σ i:=ab rfl;generalize (λj=>if j=p then σ i else σ j)=τ at *;show _=gR (p+1) ([]++uD A τ k::rT A τ p)
 rw[Q0 (c':=CB (λj=>if j<p then 0 else aL i k) (λj=>bx p λl=>aL l k*uD A τ l j) 1) [] _ λj ah=>by
  show A (τ j) k=(if j<p then 0 else aL i k)+1*bx p λl=>aL l k*A (τ j) l;rw[QW]
  by_cases HD:j<p
  ·have:=aa j (by omega) k kU fF;rw[ab HD] at this ⊢;rw[hτ j HD,this]
   congr 1
   exact ki λl _=>uE _ _
  ·obtain rfl:j=p:=by omega
   have:=aa i nV k kU fF;rw[ag (by omega)] at this;rw[ag HD,hτp,this]
   congr 1
   exact ki λl _=>uE _ _]
 rw[EK,Mg,sT λl av=>by
  rw[Zu (by rw[jv];exact p9 (CE.2 av))];exact nF _]
 rw[jv,ah7 λi J=>ab J,ag (by omega),aiD λj ah=>(hτ j ah).symm];grind
theorem aw1 (n:Nat)(df gk:List gd)(x:gd)(a:Rat):gR n (df++(λi=>a*x i)::gk)=a*gR n (df++x::gk):=by
 have:=Mg n df gk (λ_=>a) (λ_=>x) 1;simp only[bx] at this;rw[As] at this;rw[<-this];exact Q0 df gk λi _=>(As _).symm
theorem aiF (n:Nat)(b9:Nat->Rat)(C:Nat->gd):∀(L:List Nat) (df:List gd),∃a:Rat,((∀k∈L,b9 k≠0)->a≠0)/\gR n (df++L.map λk=>λi=>b9 k*C k i)=a*gR n (df++L.map C)
 | [],df=>⟨1,λ_=>by decide,by rw[QW];rfl⟩
 |k::L,df=>by
  obtain⟨a,E,H⟩:=aiF n b9 C L (df++[C k]);refine⟨b9 k*a,λh=>?_,?_⟩
  ·intro ao;rcases ZH.1 ao with ao|ao
   ·exact h k gF ao
   ·exact E (λm hm=>h m (hf _ hm)) ao
  ·simp only[eC,gM,j1,jv] at H ⊢;rw[aw1,H,Rat.mul_assoc]
structure uF (N:Nat) (A:eF) (δ v:Nat):Prop where
 ex:∃(b9:Nat->Nat) (u w:Nat->Int),iT N b9<=2^δ/\(∀k,0<b9 k)/\(∀k,k<N->∃b:Nat->Nat,fk N b<=2*b9 k/\∀i,i<N->eO (b i) (b9 k*A i k))/\(∀k,k<N->(u k).natAbs<=2^v)/\∀i,i<N->(w i).natAbs<=2^v/\A i N=bx N (λk=>A i k*(u k:Rat))+(w i:Rat)
def lR (e:Nat->Nat):List Nat->Nat
 | []=>1
 |m::l=>e m*lR e l
theorem aiG (e:Nat->Nat)(a b:List Nat):lR e (a++b)=lR e a*lR e b:=by
 induction a with
 |nil=>simp[lR]
 |cons p l aA=>simp only[j1,lR,aA,EL]
theorem aw2 {e f:Nat->Nat}{l:List Nat}(h:∀m∈l,e m=f m):lR e l=lR f l:=by
 induction l with
 |nil=>rfl
 |cons m l aA=>rw[lR,lR,aA λx O=>h x (hf _ O),h m gF]
theorem aiH (b9:Nat->Nat):∀p,lR (λm=>2*b9 m) (p8 p)=2^p*iT p b9
 |0=>rfl
 |p+1=>by
  rw[p8,lR,aiH b9 p,iT,wJ];grind
theorem ZI {N n:Nat}{A:eF}{e:Nat->Nat}(dK:∀k,k<=N->∃b:Nat->Nat,fk N b<=e k/\∀i,i<N->eO (b i) (A i k)){τ:Nat->Nat}(E:∀i,i<n->τ i<N)(H:∀i j,i<n->j<n->τ i=τ j->i=j)(L:List Nat)(gw:∀m∈L,m<=N):eO (lR e L) (gR n (L.map (uD A τ))):=by
 have⟨B,fW⟩:∃B:Nat->Nat->Nat,∀k,k<=N->fk N (B k)<=e k/\∀i,i<N->eO (B k i) (A i k):=by
  refine⟨λk=>if h:k<=N then (dK k h).choose else λ_=>0,λk M=>?_⟩;dsimp only;rw[dif_pos M];exact (dK k M).choose_spec
 have h:=aih n (L.map λk=>(uD A τ k,λi=>B k (τ i))) λp aF i J=>by
  obtain⟨m,hm,rfl⟩:=dV.1 aF;exact (fW m (gw m hm)).2 _ (E i J)
 rw[m4] at h;refine eO.mono h ?_;clear h
 induction L with
 |nil=>exact bX _
 |cons m L aA =>
  rw[eC,ng,lR];exact o1 (eQ (Zy (B m) E H) (fW m (gw m gF)).1) (aA λx O=>gw x (hf _ O))
structure aw3 (N:Nat) (aL:eF) (δ v p:Nat) (b9:Nat->Nat) (u:Nat->Int) (d:Int):Prop where
 d0:d≠0
 pos:∀k,0<b9 k
 aiI:iT N b9<=2^δ
 aiJ:∀k,k<N->(u k).natAbs<=2^v
 Dz:d.natAbs<=2^p*iT p b9
 aiK:∀i,i<N->∀k,p<=k->k<N->eO (2^(p+1)*(iT p b9*b9 k)) (aL i k*(b9 k*d))
 val:∀i,i<N->eO (2^p*iT p b9*(N*2^v)) ((aL i N-(if i<p then (u i:Rat) else 0)-bx N λk=>if p<=k then aL i k*(u k:Rat) else 0)*d)
theorem lQ.aiL {N p δ v:Nat}{A aL:eF}(dK:uF N A δ v)(h:lQ N A aL p)(aF:p<=N):∃b9 u d,aw3 N aL δ v p b9 u d:=by
 obtain⟨σ,hσ,HT,aa,Y⟩:=h;obtain⟨b9,u,w,cQ,de,ep,fe,o2⟩:=dK
 have Mo:∀m,((b9 m:Nat):Rat)≠0:=λm=>by
  have:=de m;rw[Ne,Rat.natCast_eq_zero_iff];omega
 -- the scaled matrix, with the whole numbers of the values
 have bC:Mn N (λi k=>if k<N then b9 k*A i k else (w i:Rat)) (λl k=>if k<N then (if l<p then b9 k*aL l k/b9 l else b9 k*aL l k) else (if l<p then (1:Rat)/b9 l else 1)*(aL l N-(if l<p then (u l:Rat) else 0)-bx N λk=>if p<=k then aL l k*(u k:Rat) else 0)) σ p:=by
  intro i J k kU fF
  by_cases oZ:k<N
  ·have:=aa i J k kU fF;dsimp only;rw[ab oZ,ab oZ,this,Rat.mul_add,<-Ao]
   congr 1
   ·split<;>grind
   ·refine ki λl av=>?_;rw[ab oZ,ab (by omega),ab av];have:=Mo l;grind
  ·obtain rfl:k=N:=by omega
   dsimp only;rw[ag oZ,ag oZ];have ay:=aa i J k kU fF;have aB:=(o2 (σ i) (hσ i J)).2
   have bG:(λm=>A (σ i) m*(u m:Rat))=λm=>(if m<p then A (σ i) m*(u m:Rat) else 0)+if p<=m then A (σ i) m*(u m:Rat) else 0:=by
    funext m
    by_cases hm:m<p
    ·rw[ab hm,ag (by omega),p5]
    ·rw[ag hm,ab (by omega),As]
   have dp:bx k (λm=>if p<=m then A (σ i) m*(u m:Rat) else 0)=bx k λm=>(if p<=m then (if i<p then 0 else aL i m*(u m:Rat)) else 0)+bx p λl=>A (σ i) l*(if p<=m then aL l m*(u m:Rat) else 0):=ki λm hm=>by
    by_cases mG:p<=m
    ·rw[ab mG,ab mG,aa i J m mG (by omega),Rat.add_mul]
     congr 1
     ·split<;>grind
     ·rw[uE,<-Ao];refine ki λl _=>?_;rw[ab mG];grind
    ·rw[ag mG,ag mG,As];exact (sT λl _=>by rw[ag mG,nF]).symm
   rw[bG,vV,dp,vV,awd] at aB
   have cL:bx k (λm=>if m<p then A (σ i) m*(u m:Rat) else 0)=bx p λl=>A (σ i) l*(u l:Rat):=by
    have:∀n,p<=n->bx n (λm=>if m<p then A (σ i) m*(u m:Rat) else 0)=bx p λl=>A (σ i) l*(u l:Rat):=by
     intro n
     induction n with
     |zero =>
          intro h;obtain rfl:p=0:=by omega
          rfl
     |succ n aA =>
      intro h
      by_cases yN:p=n+1
      ·rw[yN];exact ki λm hm=>ab hm
      ·rw[bx,aA (by omega),ag (by omega),p5]
    exact this k aF
   rw[cL] at aB
   have bK:(bx p λl=>(λi uG=>if uG<k then (b9 uG:Rat)*A i uG else (w i:Rat)) (σ i) l*((if l<p then (1:Rat)/b9 l else 1)*(aL l k-(if l<p then (u l:Rat) else 0)-bx k λm=>if p<=m then aL l m*(u m:Rat) else 0)))=bx p (λl=>A (σ i) l*aL l k)-bx p (λl=>A (σ i) l*(u l:Rat))-bx p λl=>bx k λm=>A (σ i) l*(if p<=m then aL l m*(u m:Rat) else 0):=by
    have:∀f g h:Nat->Rat,bx p (λl=>f l-g l-h l)=bx p f-bx p g-bx p h:=λf g h=>by
     have e:(λl=>f l-g l-h l)=λl=>f l+((-1)*g l+(-1)*h l):=by funext l;grind
     rw[e,vV,vV,Ao,Ao];grind
    rw[<-this];refine ki λl av=>?_;dsimp only;rw[ab (by omega),ab av,ab av,Ao];have:=Mo l;grind
   have bH:(bx p λl=>(λi uG=>if uG<k then (b9 uG:Rat)*A i uG else (w i:Rat)) (σ i) l*(λl uG=>if uG<k then (if l<p then (b9 uG:Rat)*aL l uG/b9 l else b9 uG*aL l uG) else (if l<p then (1:Rat)/b9 l else 1)*(aL l k-(if l<p then (u l:Rat) else 0)-bx k λm=>if p<=m then aL l m*(u m:Rat) else 0)) l k)=bx p (λl=>A (σ i) l*aL l k)-bx p (λl=>A (σ i) l*(u l:Rat))-bx p λl=>bx k λm=>A (σ i) l*(if p<=m then aL l m*(u m:Rat) else 0):=by
    rw[<-bK];refine ki λl av=>?_;dsimp only;rw[ag (by omega:¬ k<k)]
   dsimp only at bH;rw[bH]
   by_cases nf:i<p
   ·rw[ab nf] at ay ⊢;have eb:bx k (λm=>if p<=m then (if i<p then 0 else aL i m*(u m:Rat)) else 0)=0:=sT λm _=>by rw[ab nf];split<;>rfl
    rw[eb] at aB;grind
   ·rw[ag nf] at ay ⊢;have eb:bx k (λm=>if p<=m then (if i<p then 0 else aL i m*(u m:Rat)) else 0)=bx k λm=>if p<=m then aL i m*(u m:Rat) else 0:=ki λm _=>by rw[ag nf]
    rw[eb] at aB;rw[ag nf,ag nf];grind
 have mL:gR p (rT (λi k=>if k<N then b9 k*A i k else (w i:Rat)) σ p)≠0:=by
  obtain⟨a,E,H⟩:=aiF p (λk=>(b9 k:Rat)) (uD A σ) (p8 p) []
  have Mp:rT (λi k=>if k<N then b9 k*A i k else (w i:Rat)) σ p=(p8 p).map λk=>λi=>(b9 k:Rat)*uD A σ k i:=by
   unfold rT;refine m3 λm hm=>?_;have:=CE.1 hm
   funext i
   show (if m<N then (b9 m:Rat)*A (σ i) m else (w (σ i):Rat))=_;rw[ab (by omega)];rfl
  rw[jv,jv] at H;rw[Mp,H];intro ao;rcases ZH.1 ao with ao|ao
  ·exact E (λm hm=>Mo m) ao
  ·exact Y ao
 have EN:∀k,k<=N->∃b:Nat->Nat,fk N b<=(if k<N then 2*b9 k else N*2^v)/\∀i,i<N->eO (b i) ((λi k=>if k<N then (b9 k:Rat)*A i k else (w i:Rat)) i k):=by
  intro k M
  by_cases oZ:k<N
  ·obtain⟨b,c1,ee⟩:=ep k oZ;refine⟨b,by rw[ab oZ];exact c1,λi J=>?_⟩
   dsimp only;rw[ab oZ];exact ee i J
  ·refine⟨λ_=>2^v,?_,λi J=>?_⟩
   ·rw[ag oZ]
    have:∀n,fk n (λ_=>2^v)=n*2^v:=λn=>by
     induction n with
     |zero=>simp[fk]
     |succ n aA=>rw[fk,aA,tp]
    rw[this];exact bX _
   ·dsimp only;rw[ag oZ];exact eO.mono (eO.int _) (o2 i J).1
 generalize aLY:(λ(i k:Nat)=>if k<N then (b9 k:Rat)*A i k else (w i:Rat))=HN at *;generalize ZJ:(λk=>if k<N then 2*b9 k else N*2^v)=e at *
 have ZK:∀k,k<=N->∃b:Nat->Nat,fk N b<=e k/\∀i,i<N->eO (b i) (HN i k):=by
  intro k M;rw[<-ZJ];exact EN k M
 have ZL:∀m,m<N->e m=2*b9 m:=λm hm=>by rw[<-ZJ];exact ab hm
 have aw4:e N=N*2^v:=by rw[<-ZJ];exact ag (by omega)
 have ZM:lR e (p8 p)=2^p*iT p b9:=by
  rw[<-aiH];exact aw2 λm hm=>ZL m (by have:=CE.1 hm;omega)
 have hσp:∀i,i<p->σ i<N:=λi J=>hσ i (by omega);have nf:∀i j,i<p->j<p->σ i=σ j->i=j:=λi j J ah=>HT i j (by omega) (by omega);have tu:=ZI ZK hσp nf (p8 p) λm hm=>by have:=CE.1 hm;omega
 rw[ZM] at tu;obtain⟨d,zV,wT⟩:=tu
 change gR p (rT HN σ p)=(d:Rat) at zV
 have BI:d≠0:=by
  intro ao;rw[zV,ao] at mL;exact mL (by rfl)
 -- both kinds of rows
 have fV:∀l,l<p->∀k,p<=k->k<=N->∃m:Int,(λl k=>if k<N then (if l<p then (b9 k:Rat)*aL l k/b9 l else b9 k*aL l k) else (if l<p then (1:Rat)/b9 l else 1)*(aL l N-(if l<p then (u l:Rat) else 0)-bx N λk=>if p<=k then aL l k*(u k:Rat) else 0)) l k*(d:Rat)=(m:Rat)/\b9 l*m.natAbs<=2^p*iT p b9*e k:=by
  intro l av k kU fF;obtain⟨df,gk,a7,b3,cZ⟩:=awY bC aF av kU fF
  have ae:=ZI ZK hσp nf (df++k::gk) λm hm=>by
   have:m=k\/m∈df++gk:=by
    simp only[js,hP] at hm ⊢;rcases hm with h|h|h<;>simp[h]
   rcases this with h|h
   ·omega
   ·have:=b3 m h;omega
  obtain⟨m,dJ,cU⟩:=ae;rw[zV,dJ] at cZ;refine⟨m,cZ,?_⟩;have ay:lR e (df++k::gk)=lR e df*(e k*lR e gk):=by rw[aiG,lR]
  have aB:lR e df*(2*b9 l*lR e gk)=2^p*iT p b9:=by
   rw[<-ZM,a7,aiG,lR,ZL l (by omega)]
  rw[ay] at cU;rw[<-aB];generalize lR e df=x at *;generalize lR e gk=y at *;have b6:=o1 (bX (b9 l)) cU;have dd:x*(2*b9 l*y)*e k=b9 l*(x*(e k*y))+b9 l*(x*(e k*y)):=by grind
  rw[dd];omega
 have jn:∀i,p<=i->i<N->∀k,p<=k->k<=N->∃m:Int,(λl k=>if k<N then (if l<p then (b9 k:Rat)*aL l k/b9 l else b9 k*aL l k) else (if l<p then (1:Rat)/b9 l else 1)*(aL l N-(if l<p then (u l:Rat) else 0)-bx N λk=>if p<=k then aL l k*(u k:Rat) else 0)) i k*(d:Rat)=(m:Rat)/\m.natAbs<=2^p*iT p b9*e k:=by
  intro i rh nV k kU fF;have aiM:=aw0 bC rh nV kU fF
  have hτ:∀j,j<p+1->(λj=>if j=p then σ i else σ j) j<N:=λj ah=>by
   show (if j=p then σ i else σ j)<N
   split
   ·exact hσ i nV
   ·exact hσ j (by omega)
  have hτj:∀j k,j<p+1->k<p+1->(λj=>if j=p then σ i else σ j) j=(λj=>if j=p then σ i else σ j) k->j=k:=λj k ah M=>by
   show (if j=p then σ i else σ j)=(if k=p then σ i else σ k)->j=k;intro h
   by_cases aI:j=p
   ·by_cases c2:k=p
    ·omega
    ·rw[ab aI,ag c2] at h;have:=HT _ _ nV (by omega) h;omega
   ·by_cases c2:k=p
    ·rw[ag aI,ab c2] at h;have:=HT _ _ (by omega) nV h;omega
    ·rw[ag aI,ag c2] at h;exact HT _ _ (by omega) (by omega) h
  obtain⟨m,dJ,cU⟩:=ZI ZK hτ hτj (k::p8 p) λm hm=>by
   rcases hP.1 hm with h|h
   ·omega
   ·have:=CE.1 h;omega
  rw[zV,dJ] at aiM;refine⟨m,aiM,eQ cU ?_⟩;rw[lR,ZM,rz];exact bX _
 refine⟨b9,u,d,BI,de,cQ,fe,wT,λi J k kU fF=>?_,λi J=>?_⟩
 ·have W2:2^(p+1)*(iT p b9*b9 k)=2^p*iT p b9*e k:=by rw[ZL k fF,wJ];grind
  rw[W2]
  by_cases az:i<p
  ·obtain⟨m,dJ,cU⟩:=fV i az k kU (by omega);dsimp only at dJ;rw[ab fF,ab az] at dJ;refine⟨b9 i*m,?_,by rw[qJ,mR];exact cU⟩
   rw[p7,<-dJ,oi];have:=Mo i;grind
  ·obtain⟨m,dJ,cU⟩:=jn i (by omega) J k kU (by omega);dsimp only at dJ;rw[ab fF,ag az] at dJ;refine⟨m,?_,cU⟩;rw[<-dJ];grind
 ·rw[<-aw4]
  by_cases az:i<p
  ·obtain⟨m,dJ,cU⟩:=fV i az N aF (bX _);dsimp only at dJ;rw[ag (by omega:¬ N<N),ab az,ab az] at dJ;refine⟨b9 i*m,?_,by rw[qJ,mR];exact cU⟩
   rw[p7,<-dJ,oi,ab az];have:=Mo i;grind
  ·obtain⟨m,dJ,cU⟩:=jn i (by omega) J N aF (bX _);dsimp only at dJ;rw[ag (by omega:¬ N<N),ag az,ag az] at dJ;refine⟨m,?_,cU⟩;rw[<-dJ,ag az];grind
def HU (N:Nat)(A:eF)(eT aS:Nat):Prop:=∀aL p,p<=N->lQ N A aL p->∀i k,i<N->p<=k->k<=N->ec eT (aL i k)/\(k<N->ec aS (aL i k))
theorem uF.aiN {N δ v:Nat}{A:eF}(dK:uF N A δ v)(gG:N<=7):HU N A (N+δ+v+4) (N+δ):=by
 intro aL p aF h i k J kU fF;obtain⟨b9,u,d,aH⟩:=h.aiL dK aF;obtain⟨bV,aLZ,e8,et⟩:=aic aH.pos aF;have EO:=aH.aiI;rw[e8] at EO
 have aw5:∀k,p<=k->k<N->iT p b9*b9 k<=iT p b9*bV:=λk E H=>by
  obtain⟨m,hm⟩:=et k E H;refine o1 (bX _) ?_
  have:0<m:=by
   rcases k6 m with h|h
   ·rw[h] at hm;omega
   ·exact h
  rw[hm];exact JS _ this
 have GU:∀q,q<=N->∀x,x<=2^δ->2^q*x<=2^(N+δ):=λq aO x O=>by
  rw[vZ];exact o1 (wZ (by omega) aO) O
 have fa:∀k,p<=k->k<N->ec (N+δ) (aL i k):=λk kU fF=>by
  obtain⟨z,jN,kO⟩:=aH.aiK i J k kU fF;have aL0:=aH.pos k;obtain⟨f1,f2⟩:=CC (q:=aL i k) (v:=z) (d:=(b9 k:Int)*d) (z7 (by omega) aH.d0) (by rw[<-jN,p7,oi]);have hle:=eQ (aw5 k kU fF) EO;refine⟨eQ f1 (eQ kO (GU _ (by omega) _ hle)),eQ f2 ?_⟩;rw[qJ,mR];refine eQ (o1 (bX _) aH.Dz) (eQ ?_ (GU p aF _ hle));exact Al (by grind)
 by_cases oZ:k<N
 ·exact⟨(fa k kU oZ).mono (by omega),λ_=>fa k kU oZ⟩
 refine⟨?_,λh=>absurd h oZ⟩;obtain rfl:k=N:=by omega
 have hX:=aH.val i J;have fW:∀q,q<=k->2^q*(iT p b9*bV)<=2^(k+δ):=λq aO=>GU q aO _ EO
 -- the three parts, times d and bV
 have iL:eO (k*2^(k+δ+v)) ((aL i k-(if i<p then (u i:Rat) else 0)-bx k λm=>if p<=m then aL i m*(u m:Rat) else 0)*d*(bV:Rat)):=by
  refine (hX.mul (eO.nat (bX bV))).mono ?_;have:=o1 (fW p aF) (bX (k*2^v));refine eQ (Al ?_) (eQ this (Al ?_))
  ·grind
  ·rw[vZ 2 (k+δ) v];grind
 have ju:eO (2^(k+δ+v)) ((if i<p then (u i:Rat) else 0)*d*(bV:Rat)):=by
  have hu:eO (2^v) (if i<p then (u i:Rat) else 0):=by
   split
   ·exact eO.mono (eO.int _) (aH.aiJ i J)
   ·exact eO.zero
  refine ((hu.mul (eO.mono (eO.int d) aH.Dz)).mul (eO.nat (bX bV))).mono ?_;have:=o1 (fW p aF) (bX (2^v));refine eQ (Al ?_) (eQ this (Al ?_))
  ·grind
  ·rw[vZ 2 (k+δ) v]
 have sR:eO (k*2^(k+δ+v)) ((bx k λm=>if p<=m then aL i m*(u m:Rat) else 0)*d*(bV:Rat)):=by
  have e:(bx k λm=>if p<=m then aL i m*(u m:Rat) else 0)*(d:Rat)*(bV:Rat)=bx k λm=>((d:Rat)*(bV:Rat))*(if p<=m then aL i m*(u m:Rat) else 0):=by
   rw[Ao];grind
  rw[e];refine eO.sum k λm hm=>?_
  by_cases mG:p<=m
  ·rw[ab mG];obtain⟨y,ar⟩:=et m mG hm
   have aB:(d:Rat)*(bV:Rat)*(aL i m*(u m:Rat))=(aL i m*((b9 m:Rat)*d))*(y:Rat)*(u m:Rat):=by
    rw[ar,Rat.natCast_mul];grind
   rw[aB];refine (((aH.aiK i J m mG hm).mul (eO.nat (bX y))).mul (eO.mono (eO.int (u m)) (aH.aiJ m hm))).mono ?_;have:=o1 (fW (p+1) (by omega)) (bX (2^v));refine eQ (Al ?_) (eQ this (Al ?_))
   ·rw[ar];grind
   ·rw[vZ 2 (k+δ) v]
  ·rw[ag mG,nF];exact eO.zero
 obtain⟨z,jN,kO⟩:=(iL.add ju).add sR
 have e:aL i k*((d*(bV:Int):Int):Rat)=(z:Rat):=by
  rw[<-jN,p7,oi];grind
 obtain⟨f1,f2⟩:=CC (z7 aH.d0 (by omega)) e;refine⟨eQ f1 (eQ kO ?_),eQ f2 ?_⟩
 ·rw[vZ 2 (k+δ+v) 4];generalize 2^(k+δ+v)=df at *;have:k*df<=7*df:=Nat.mul_le_mul_right _ gG;omega
 ·rw[qJ,mR];refine eQ (o1 aH.Dz (bX bV)) (eQ (Al ?_) (eQ (fW p aF) (wZ (by omega) (by omega))));grind
theorem lQ.aw6 {N δ v:Nat}{A aL:eF}(dK:uF N A δ v)(h:lQ N A aL N):∃bd:Nat,0<bd/\bd<=2^(N+δ)/\∀i,i<N->∃z:Int,aL i N*(bd:Rat)=(z:Rat):=by
 obtain⟨b9,u,d,aH⟩:=h.aiL dK (bX N)
 have⟨s,U⟩:∃s:Int,(d.natAbs:Int)=s*d:=by
  rcases Int.natAbs_eq d with e|e
  ·exact⟨1,by omega⟩
  ·exact⟨-1,by omega⟩
 have Y:=aH.d0;refine⟨d.natAbs,by omega,eQ aH.Dz ?_,λi J=>?_⟩
 ·rw[vZ];exact o1 (bX _) aH.aiI
 ·obtain⟨z,jN,-⟩:=aH.val i J;rw[ab J,sT λk M=>ag (by omega)] at jN;refine⟨s*(z+u i*d),?_⟩;have e:((d.natAbs:Nat):Rat)=((d.natAbs:Int):Rat):=(oi _).symm;rw[e,U,p7,p7,uz,p7,<-jN];grind
def dC (N:Nat)(x:Nat->Rat):List bg:=((dU N).map x).map aq
theorem pD (N:Nat)(x:Nat->Rat):(dC N x).length=N:=by simp[dC]
theorem s4 {N k:Nat}(x:Nat->Rat)(h:k<N):(dC N x)[k]?=some (aq (x k)):=by
 unfold dC;rw[bh,bh,tn h];rfl
theorem Mq {N:Nat}{l:List bg}{x:Nat->Rat}(av:(D l)=N)(h:∀k,k<N->l[k]?=some (aq (x k))):l=dC N x:=by
 apply pM;intro k;rcases ir k N with M|M
 ·rw[h k M,s4 x M]
 ·rw[mx (by omega),mx (by rw[pD];omega)]
theorem HV {N:Nat}{x y:Nat->Rat}(h:∀k,k<N->x k=y k):dC N x=dC N y :=
 Mq (pD N x) λk M=>by rw[s4 x M,h k M]
theorem ZN {N:Nat}{x:Nat->Rat}(gG:N<=40)(h:∀k,k<N->dg (x k)):fY (dC N x):=by
 refine⟨by rw[pD];omega,λf aK=>?_⟩
 obtain⟨k,M⟩:=tI.1 aK;have oZ:k<N:=by have:=(dP.1 M).1;rwa [pD] at this
 rw[s4 x oZ] at M
 cases M;exact kS (h k oZ)
def aiO (N:Nat)(bd:eF)(x:Nat->Rat):Prop:=(∀y,h5 N bd (ext N y (-1))↔∀k,k<N->y k=x k)/\∀y,h5 N bd (ext N y 0)->∀k,k<N->y k=0
def CF (N:Nat)(bd:eF):Prop:=∃y,h5 N bd (ext N y 0)/\∃k,k<N/\y k≠0
theorem aw7 {N:Nat}{rows:List dt}{aL:eF}(h:xl N rows aL):rows.map (vT N)=dC N (λi=>aL i N) :=
 Mq (by rw[ai];exact h.1) λk M=>by
  obtain⟨x,O,-,oj⟩:=h.row M;rw[bh,O,mB];unfold vT;rw[dZ,oj.get (bX _)]
  rfl
theorem HP.CG {N:Nat}{aL v3:eF}{rows:List dt}{p c:Nat}{bE:Nat->Nat}(h:HP N aL v3 rows p c bE){i k:Nat}(J:i<N)(M:k<=N):dg (v3 i k):=by
 obtain⟨x,-,-,oj⟩:=h.enc.row J;exact oj.2 k M
theorem aiP {q:Rat}(h:dg q):lk 0 (-q)=true:=by
 unfold lk;simp only[e9]
 have E:iQ ((-q).num*((0:Rat).den:Int))=true:=by
  rw[aiA,aiQ];unfold iQ;rw[decide_eq_true_eq];have:=h.1;omega
 refine⟨?_,E,?_,?_⟩
 ·rw[aiR,z0];decide +kernel
 ·rw[aiR,z0,DZ];exact E
 ·rw[aiQ,Rat.neg_den];unfold iQ;rw[decide_eq_true_eq];have:=h.2;omega
theorem aiS:dg 0:=⟨by decide +kernel,by decide +kernel⟩
theorem aw8 {N f:Nat}{rows:List dt}{aL:eF}(h:xl N rows aL)(aK:f<N):L0 rows f N f=dC N (sZ aL f) :=
 Mq (awc _ _ _ _) λk M=>by
  unfold L0;rw[bh,tn M,mB];unfold sZ
  by_cases E:k<f
  ·rw[ab E,ab E];obtain⟨x,-,ex,oj⟩:=h.row (i:=k) (by omega);rw[ex,oj.cell (by omega),<-ahM,Li aiS (oj.2 f (by omega)),aiP (oj.2 f (by omega))]
   rfl
  ·rw[ag E,ag E]
   by_cases H:k=f
   ·rw[ab H,ab H,awb]
   ·rw[ag H,ag H,ahM]
theorem ZO {N:Nat}{bd aL:eF}(h:∀y,h5 N aL y↔h5 N bd y):∀y z,h5 N aL (ext N y z)↔h5 N bd (ext N y z):=λ_ _=>h _
theorem aw9 {rs:List e0}{n:Int}(h:ob rs n=true):
  (qV rs n=([],6)) \/
  (∃x,qV rs n=(dC (D rs) x,0)/\Y6 rs n=([],false)/\(∀k,k<(D rs)->dg (x k))/\aiO (D rs) (qX rs) x) \/
  (∃y,qV rs n=([],17)/\Y6 rs n=(dC (D rs) y,true)/\(∀k,k<(D rs)->dg (y k))/\h5 (D rs) (qX rs) (ext (D rs) y 0)/\∃k,k<D rs/\y k=1):=by
 unfold qV Y6;rw[ab h];rcases O:qU true rs with ⟨xn,rS,bad⟩
 cases bad
 ·right
  obtain⟨aL,p,c,bE,he,-,U⟩:=awR true h O;rw[ab h];rcases U rfl with ⟨rfl,rfl,rfl,kh⟩|⟨f,rfl,aK,rfl,rfl,kh,aW⟩
  ·left
   refine⟨λi=>aL i (D rs),?_,rfl,λk M=>he.CG M (bX _),λy=>?_,λy ar=>?_⟩
   ·rw[ag (by simp),ag (by simp),aw7 he.enc]
   ·rw[<-ZO he.HR];exact ah3 he.red kh y
   ·exact awy he.red kh y ((ZO he.HR y 0).2 ar)
  ·right
   refine⟨sZ aL c,?_,?_,λk M=>?_,?_,⟨c,aK,by unfold sZ;simp⟩⟩
   ·rw[ag (by simp),ab (by simp)]
   ·rw[ag (by simp)];exact congrArg (λl=>(l,true)) (aw8 he.enc aK)
   ·unfold sZ
    split
    ·exact agm (aiP (he.CG M (by omega)))
    ·split
     ·exact⟨by decide +kernel,by decide +kernel⟩
     ·exact aiS
   ·exact (ZO he.HR _ _).1 (ah4 he.red kh aK aW)
 ·left
  rw[ab rfl]
theorem aiT (aL:eF){N p s:Nat}(aF:p<N)(U:p<=s)(Ap:s<N){i:Nat}(J:i<N):∃bk,bk<N/\hD aL p s i=aL bk:=by
 unfold hD
 by_cases E:i=s
 ·exact⟨p,aF,by rw[ab E]⟩
 ·by_cases H:i=p
  ·exact⟨s,Ap,by rw[ag E,ab H]⟩
  ·exact⟨i,J,by rw[ag E,ag H]⟩
theorem axa (b:Nat)(p:Prop)[Decidable p]:ec b (if p then 1 else 0):=by
 have ae:1<=2^b:=Nat.one_le_two_pow
 split
 ·exact⟨ae,ae⟩
 ·exact⟨fs _,ae⟩
theorem lQ.all {N p eT aS:Nat}{A aL:eF}{bE:Nat->Nat}(fW:HU N A eT aS)(h:lQ N A aL p)(aa:qW N aL p p bE)(kh:∀j,j<p->bE j=j)(aF:p<=N){i k:Nat}(J:i<N)(M:k<=N):ec eT (aL i k):=by
 by_cases aiU:k<p
 ·have:=aa.unit k aiU i J;rw[kh k aiU] at this;rw[this];exact axa _ _
 ·exact (fW aL p aF h i k J (by omega) M).1
theorem axb {N p s eT aS:Nat}{A aL:eF}{bE:Nat->Nat}(fW:HU N A eT aS)(h:lQ N A aL p)(aa:qW N aL p p bE)(kh:∀j,j<p->bE j=j)(aF:p<N)(U:p<=s)(Ap:s<N)(bI:aL s p≠0)(kV:2*eT+aS+1<1200):aip N (hD aL p s) p p:=by
 have H:=h.step aF U Ap bI;have bC:=aa.EF aF U Ap bI
 have axc:∀j,j<p+1->(if j=p then p else bE j)=j:=λj ah=>by
  split
  ·omega
  ·exact kh j (by omega)
 have fh:∀i,i<N->∀k,k<=N->ec eT (hD aL p s i k):=by
  intro i J k M;obtain⟨bk,E,e⟩:=aiT aL aF U Ap J;rw[e];exact h.all fW aa kh (by omega) E M
 have Mp:∀i,i<N->ec aS (hD aL p s i p):=by
  intro i J;obtain⟨bk,E,e⟩:=aiT aL aF U Ap J;rw[e];exact (fW aL p (by omega) h bk p E (bX p) (by omega)).2 aF
 have aiV:∀k,k<=N->ec eT (hD aL p s p k/hD aL p s p p):=by
  intro k M;have:=H.all fW bC axc (by omega) (i:=p) aF M;unfold o0 at this;rwa [ab rfl] at this
 refine⟨λk M=>aiz (fh p aF k M) (Mp p aF) (by omega),λi J _ _ k M=>?_⟩;unfold rR;rw[e9];exact⟨ZF (Mp i J) (aiV k M) (by omega),EM (fh i J k M) (HS (Mm (Mp i J) (aiV k M))) (by omega)⟩
theorem axd {N eT aS:Nat}{A:eF}(fW:HU N A eT aS)(kV:2*eT+aS+1<1200):
  ∀k p rows aL bE,p+k=N->HP N A aL rows p p bE->lQ N A aL p->(∀j,j<p->bE j=j)->(me true k p rows [] false).2.2=false:=by
 intro k
 induction k with
 |zero=>intro p rows aL bE _ _ _ _;rfl
 |succ k aA =>
  intro p rows aL bE aF he Y kh;unfold me;rw[k9,Ct];rcases aiq he.enc (r:=p) (c:=p) (by omega) (by omega) with ⟨E,H,af,aP⟩|⟨E,s,hJ,iE,s0,aP,bt⟩
  ·rw[E,H,af,ab rfl,ab rfl]
  ·have cR:=axb fW Y he.red kh (by omega) hJ iE s0 kV;have ae:=bt cR;rw[E,ag (by simp),ae];refine aA (p+1) _ (o0 aL p p s) (λj=>if j=p then p else bE j) (by omega) ⟨aP ae,he.red.EF (by omega) hJ iE s0,λy=>(Y9 (by omega) iE s0).trans (he.HR y)⟩ (Y.step (by omega) hJ iE s0) λj ah=>?_;show (if j=p then p else bE j)=j
   split
   ·omega
   ·exact kh j (by omega)
theorem axe {rs:List e0}{n:Int}{eT aS:Nat}(h:ob rs n=true)(fW:HU (D rs) (qX rs) eT aS)(kV:2*eT+aS+1<1200):qV rs n≠([],6):=by
 have O:(qU true rs).2.2=false :=
  axd fW kV (D rs) 0 (hL rs) (qX rs) (λj=>j) (by omega) ⟨aiv h,QF _ _ _,λ_=>Iff.rfl⟩ (lQ.start _ _) λj ah=>by omega
 unfold qV;rw[ab h,ag (by rw[O];simp)]
 split
 ·simp
 ·simp
theorem axf {rs:List e0}{n:Int}{eT aS:Nat}(h:ob rs n=true)(fW:HU (D rs) (qX rs) eT aS)(kV:2*eT+aS+1<1200)(U:¬ CF (D rs) (qX rs)):
  ∃x,qV rs n=(dC (D rs) x,0)/\(∀k,k<(D rs)->dg (x k))/\aiO (D rs) (qX rs) x:=by
 rcases aw9 h with e|⟨x,e,-,E,H⟩|⟨y,-,-,-,E,k,M,ar⟩
 ·exact absurd e (axe h fW kV)
 ·exact⟨x,e,E,H⟩
 ·exact absurd ⟨y,E,k,M,by rw[ar];decide⟩ U
theorem lQ.full {N:Nat}{A:eF}(U:¬ CF N A):∀k p aL bE,p+k=N->qW N aL p p bE->(∀y,h5 N aL y↔h5 N A y)->lQ N A aL p->(∀j,j<p->bE j=j)->∃aL bE,lQ N A aL N/\qW N aL N N bE/\(∀j,j<N->bE j=j)/\∀y,h5 N aL y↔h5 N A y
 |0,p,aL,bE,aF,aa,aM,Y,kh=>by
  obtain rfl:p=N:=by omega
  exact⟨aL,bE,Y,aa,kh,aM⟩
 |k+1,p,aL,bE,aF,aa,aM,Y,kh=>by
  by_cases aW:∀i,p<=i->i<N->aL i p=0
  ·exfalso
   refine U ⟨sZ aL p,(aM _).1 (ah4 aa kh (by omega) aW),p,by omega,?_⟩
   unfold sZ;rw[ag (by omega),ab rfl]
   decide
  ·have⟨s,hJ,iE,s0⟩:∃s,p<=s/\s<N/\aL s p≠0:=by
    apply mg;intro h;exact aW λi E H=>mg λaf=>h ⟨i,E,H,af⟩
   refine lQ.full U k (p+1) (o0 aL p p s) (λj=>if j=p then p else bE j) (by omega) (aa.EF (by omega) hJ iE s0) (λy=>(Y9 (by omega) iE s0).trans (aM y)) (Y.step (by omega) hJ iE s0) λj ah=>?_;show (if j=p then p else bE j)=j
   split
   ·omega
   ·exact kh j (by omega)
theorem aiW {N δ v:Nat}{A:eF}(U:¬ CF N A)(dK:uF N A δ v){x:Nat->Rat}(O:h5 N A (ext N x (-1))):∃bd:Nat,0<bd/\bd<=2^(N+δ)/\∀i,i<N->∃z:Int,x i*(bd:Rat)=(z:Rat):=by
 obtain⟨aL,bE,⟨σ,E,x9,H,af⟩,-⟩:=lQ.full U N 0 A (λj=>j) (by omega) (QF _ _ _) (λ_=>Iff.rfl) (lQ.start _ _) (λj ah=>by omega);refine lQ.aw6 (aL:=λi _=>x i) dK ⟨σ,E,x9,λi J k kU fF=>?_,af⟩;obtain rfl:k=N:=by omega
 rw[ab J];have:=O (σ i) (E i J);rw[Me] at this;grind
theorem axg {N:Nat}{A:eF}(U:¬ CF N A):∃x,h5 N A (ext N x (-1)):=by
 obtain⟨aL,bE,-,E,H,af⟩:=lQ.full U N 0 A (λj=>j) (by omega) (QF _ _ _) (λ_=>Iff.rfl) (lQ.start _ _) (λj ah=>by omega);exact⟨λi=>aL i N,(af _).1 ((ah3 E H _).2 λ_ _=>rfl)⟩
end Go.Mini
namespace Go.Mini
open Classical
def Day.W (d:Day)(f:Nat->Nat)(k i:Nat):Rat:=cF d.cX λc=>if c.to=(i:Int)/\c.aE=k/\c.bp=f k then d.w c else 0
def Day.st (d:Day)(f:Nat->Nat)(i:Nat):Rat:=d.cash i+cF d.cX λc=>if c.to=(i:Int)/\c.bp<f c.aE then c.am else 0
theorem Day.dk.aiX {d:Day}(Y:d.dk)(f:Nat->Nat)(P:Nat->Prop)(x:Nat->Rat)(i:Nat):(cF d.cX λc=>if c.to=(i:Int) then (if c.bp=f c.aE/\P c.aE then d.w c*x c.aE else 0) else 0)=bx d.n λk=>if P k then d.W f k i*x k else 0:=by
 have e:=Zd (n:=d.n) Y.aE λk c=>if c.to=(i:Int) then (if c.bp=f k/\P k then d.w c*x k else 0) else 0;rw[<-e];refine ki λk M=>?_
 by_cases gv:P k
 ·rw[ab gv,uE];unfold Day.W;rw[<-QH];refine vW λc _=>?_
  by_cases E:c.aE=k
  ·by_cases H:c.to=(i:Int)
   ·by_cases af:c.bp=f k
    ·rw[ab E,ab H,ab ⟨af,gv⟩,ab ⟨H,E,af⟩,uE]
    ·rw[ab E,ab H,ag λh=>af h.1,ag λh=>af h.2.2,nF]
   ·rw[ab E,ag H,ag λh=>H h.1,nF]
  ·rw[ag E,ag λh=>E h.2.1,nF]
 ·rw[ag gv];refine L2 λc _=>?_
  split
  ·split
   ·rw[ag λh=>gv h.2]
   ·rfl
  ·rfl
theorem Day.dk.Q1 {d:Day}(Y:d.dk)(f:Nat->Nat)(P:Nat->Prop)(h:Nat->Rat)(i:Nat):d.eX (d.l f P h) i=d.st f i+bx d.n λk=>if P k then d.W f k i*(h k-d.bz k (f k)) else 0:=by
 rw[<-Y.aiX f P (λk=>h k-d.bz k (f k)) i];unfold Day.eX Day.st;rw[Rat.add_assoc,<-QG]
 congr 1
 refine vW λc _=>?_;unfold Day.l
 by_cases E:c.to=(i:Int)
 ·rw[ab E,ab E]
  by_cases H:c.bp<f c.aE
  ·have af:c.to=(i:Int)/\c.bp<f c.aE:=⟨E,H⟩;have aP:¬ (c.bp=f c.aE/\P c.aE):=λh=>by have:=h.1;omega
   rw[ab H,ab af,ag aP,p5]
  ·have af:¬ (c.to=(i:Int)/\c.bp<f c.aE):=λh=>H h.2;rw[ag H,ag af,As]
   by_cases aP:c.bp=f c.aE/\P c.aE
   ·rw[ab aP,ab aP,aP.1]
   ·rw[ag aP,ag aP]
 ·have af:¬ (c.to=(i:Int)/\c.bp<f c.aE):=λh=>E h.1;rw[ag E,ag af,ag E,p5]
def Day.At (d:Day)(f:Nat->Nat)(P:Nat->Prop):eF:=λi k=>if k<d.n then (if i=k then 1 else 0)-(if P k then d.W f k i else 0) else d.st f i-bx d.n λk=>if P k then d.W f k i*d.bz k (f k) else 0
theorem ZP {d:Day}(f:Nat->Nat)(P:Nat->Prop)(x:Nat->Rat)(z:Rat){i:Nat}(J:i<d.n):mU d.n (d.At f P i) (ext d.n x z)=x i-(bx d.n λk=>if P k then d.W f k i*x k else 0)+(d.st f i-bx d.n λk=>if P k then d.W f k i*d.bz k (f k) else 0)*z:=by
 rw[Me]
 congr 1
 ·have e:=yK (n:=d.n) (f:=λk=>if i=k then x k else 0) (j:=i) J λk _ M=>ag (Ne.symm M);rw[ab rfl] at e;rw[<-e,<-HE];refine ki λk M=>?_;unfold Day.At;rw[ab M]
  split<;>split<;>grind
 ·unfold Day.At;rw[ag (by omega)]
theorem aiY {d:Day}(Y:d.dk)(f:Nat->Nat)(P:Nat->Prop)(h:Nat->Rat):h5 d.n (d.At f P) (ext d.n h (-1))↔∀i,i<d.n->h i=d.eX (d.l f P h) i:=by
 have e:∀i,(bx d.n λk=>if P k then d.W f k i*(h k-d.bz k (f k)) else 0)=(bx d.n λk=>if P k then d.W f k i*h k else 0)-bx d.n λk=>if P k then d.W f k i*d.bz k (f k) else 0:=λi=>by
  rw[<-HE];refine ki λk _=>?_
  split<;>grind
 unfold h5
 constructor
 ·intro dK i J;have:=dK i J;rw[ZP f P h _ J] at this;rw[Y.Q1,e];grind
 ·intro dK i J;have:=dK i J;rw[Y.Q1,e] at this;rw[ZP f P h _ J];grind
structure Good (d:Day) (f:Nat->Nat) (P:Nat->Prop):Prop where
 ok:d.dk
 inv:∃g,Inv d f g
 gI:∀i,P i->i<d.n/\f i<10
 QP:∀C:Nat->Prop,(∃i,C i)->(∀i,C i->P i)->¬ d.closed f C
theorem Good.aiZ {d:Day}{f:Nat->Nat}{P:Nat->Prop}(a9:Good d f P){x:Nat->Rat}(O:∀i,i<d.n->x i=bx d.n λk=>if P k then d.W f k i*x k else 0):∀i,i<d.n->x i=0:=by
 obtain⟨g,J⟩:=a9.inv;exact awq J a9.ok a9.gI a9.QP x λi ct=>by rw[a9.ok.aiX f P x i];exact O i ct
theorem Good.ai0 {d:Day}{f:Nat->Nat}{P:Nat->Prop}(a9:Good d f P):¬ CF d.n (d.At f P):=by
 rintro⟨y,ar,k,M,bI⟩;refine bI (a9.aiZ (x:=y) (λi J=>?_) k M);have:=ar i J;rw[ZP f P y _ J] at this;grind
theorem Good.ex {d:Day}{f:Nat->Nat}{P:Nat->Prop}(a9:Good d f P):∃h:Nat->Rat,∀i,i<d.n->h i=d.eX (d.l f P h) i:=by
 obtain⟨x,O⟩:=axg a9.ai0;exact⟨x,(aiY a9.ok f P x).1 O⟩
theorem Good.uniq {d:Day}{f:Nat->Nat}{P:Nat->Prop}(a9:Good d f P){h cn:Nat->Rat}(e:∀i,i<d.n->h i=d.eX (d.l f P h) i)(e':∀i,i<d.n->cn i=d.eX (d.l f P cn) i):∀i,i<d.n->h i=cn i:=by
 obtain⟨g,J⟩:=a9.inv;exact awp J a9.ok a9.gI a9.QP e e'
def Day.ff (d:Day)(f:Nat->Nat)(P:Nat->Prop):Nat->Rat:=if h:∃x:Nat->Rat,∀i,i<d.n->x i=d.eX (d.l f P x) i then tF h else λ_=>0
theorem Good.ff {d:Day}{f:Nat->Nat}{P:Nat->Prop}(a9:Good d f P):∀i,i<d.n->d.ff f P i=d.eX (d.l f P (d.ff f P)) i:=by
 have h:=a9.ex;unfold Day.ff;rw[dif_pos h];exact ph h
theorem axh {l:List Nat}{a k:Nat}(h:k<D l):(l++[a]).getD k 0=l.getD k 0:=by
 rw[dZ,dZ,qq h]
theorem axi (l:List Nat)(a:Nat)(aS:Nat->Rat):bx (l++[a]).length (λk=>aS ((l++[a]).getD k 0))=bx (D l) (λk=>aS (l.getD k 0))+aS a:=by
 rw[fQ,List.length_singleton,bx]
 congr 1
 ·refine ki λk M=>?_;rw[axh M]
 ·rw[dZ,ri (bX _),my];rfl
def cV (P:Nat->Prop)(n:Nat):List Nat:=(dU n).filter λi=>decide (P i)
theorem Q2 (P:Nat->Prop)(aS:Nat->Rat):∀n,bx (cV P n).length (λk=>aS ((cV P n).getD k 0))=bx n λk=>if P k then aS k else 0
 |0=>rfl
 |n+1=>by
  have aA:=Q2 P aS n;unfold cV at aA ⊢;rw[List.range_succ,List.filter_append]
  by_cases gv:P n
  ·rw[List.filter_cons_of_pos (by simpa using gv),qa,axi,aA,bx,ab gv]
  ·rw[List.filter_cons_of_neg (by simpa using gv),qa,fG,aA,bx,ag gv,p5]
theorem xo {P:Nat->Prop}{n k:Nat}(h:k<(cV P n).length):(cV P n).getD k 0<n/\P ((cV P n).getD k 0):=by
 have hm:(cV P n).getD k 0∈cV P n:=by
  rw[dZ,bu h];exact np h
 unfold cV at hm ⊢;rw[sY,g2,decide_eq_true_eq] at hm;exact hm
def Day.uH (d:Day)(f:Nat->Nat)(p:List Nat):eF:=λi k=>if k<(D p) then (if i=k then 1 else 0)-d.W f (p.getD k 0) (p.getD i 0) else d.st f (p.getD i 0)-d.bz (p.getD i 0) (f (p.getD i 0))
theorem ai1 {d:Day}(f:Nat->Nat)(p:List Nat)(x:Nat->Rat)(z:Rat){i:Nat}(J:i<D p):mU (D p) (d.uH f p i) (ext (D p) x z)=x i-(bx (D p) λk=>d.W f (p.getD k 0) (p.getD i 0)*x k)+(d.st f (p.getD i 0)-d.bz (p.getD i 0) (f (p.getD i 0)))*z:=by
 rw[Me]
 congr 1
 ·have e:=yK (n:=D p) (f:=λk=>if i=k then x k else 0) (j:=i) J λk _ M=>ag (Ne.symm M);rw[ab rfl] at e;rw[<-e,<-HE];refine ki λk M=>?_;unfold Day.uH;rw[ab M]
  split<;>grind
 ·unfold Day.uH;rw[ag (by omega)]
theorem Good.small {d:Day}{f:Nat->Nat}{P:Nat->Prop}(a9:Good d f P):¬ CF (cV P d.n).length (d.uH f (cV P d.n)):=by
 rintro⟨y,ar,k,M,bI⟩
 have E:∀r,r<(cV P d.n).length->y r=bx (cV P d.n).length λk=>d.W f ((cV P d.n).getD k 0) ((cV P d.n).getD r 0)*y k:=λr aa=>by
  have:=ar r aa;rw[ai1 f _ y _ aa] at this;grind
 have H:=a9.aiZ (x:=λi=>bx (cV P d.n).length λk=>d.W f ((cV P d.n).getD k 0) i*y k) (λi J=>by
  rw[<-Q2 P (λk=>d.W f k i*bx (cV P d.n).length λk'=>d.W f ((cV P d.n).getD k' 0) k*y k') d.n];exact ki λr aa=>by rw[E r aa]) ((cV P d.n).getD k 0) (xo M).1
 refine bI ?_;rw[E k M];exact H
theorem Good.ai2 {d:Day}{f:Nat->Nat}{P:Nat->Prop}(a9:Good d f P):h5 (cV P d.n).length (d.uH f (cV P d.n)) (ext (cV P d.n).length (λk=>d.ff f P ((cV P d.n).getD k 0)-d.bz ((cV P d.n).getD k 0) (f ((cV P d.n).getD k 0))) (-1)):=by
 intro r aa;rw[ai1 f _ _ _ aa,Q2 P (λk=>d.W f k ((cV P d.n).getD r 0)*(d.ff f P k-d.bz k (f k))) d.n];have:=a9.ff _ (xo aa).1;rw[a9.ok.Q1] at this;grind
theorem Good.ai3 {d:Day}{f:Nat->Nat}{P:Nat->Prop}(a9:Good d f P){i:Nat}(J:i<d.n):d.ff f P i=d.st f i+bx (cV P d.n).length λk=>d.W f ((cV P d.n).getD k 0) i*(d.ff f P ((cV P d.n).getD k 0)-d.bz ((cV P d.n).getD k 0) (f ((cV P d.n).getD k 0))):=by
 rw[Q2 P (λk=>d.W f k i*(d.ff f P k-d.bz k (f k))) d.n,<-a9.ok.Q1];exact a9.ff i J
theorem iH.good {d:Day}(Y:d.dk){f:Nat->Nat}{g:Nat->Rat}(J:Inv d f g){P:Nat->Prop}{h:Nat->Rat}(aF:iH d f g P h):Good d f P:=⟨Y,⟨g,J⟩,aF.gI,aF.QP⟩
theorem Good.none {d:Day}(Y:d.dk){f:Nat->Nat}{g:Nat->Rat}(J:Inv d f g):Good d f λ_=>False:=⟨Y,⟨g,J⟩,λ_ h=>h.elim,λ_ ⟨i,h⟩ cn=>(cn i h).elim⟩
theorem iH.first {d:Day}(Y:d.dk){f:Nat->Nat}{g:Nat->Rat}(J:Inv d f g):iH d f g (λ_=>False) (d.ff f λ_=>False):=iH.start Y J (Good.none Y J).ff
theorem iH.succ {d:Day}(Y:d.dk){f:Nat->Nat}{g:Nat->Rat}(J:Inv d f g){P:Nat->Prop}{h:Nat->Rat}(aF:iH d f g P h):iH d f g (sX d f P h) (d.ff f (sX d f P h)):=aF.next Y J (Good.ff ⟨Y,⟨g,J⟩,aF.HJ,aF.ahV Y J⟩)
def idle (d:Day)(P:Nat->Prop):Nat:=mV d.n λi=>if P i then 0 else 1
theorem ai4 {d:Day}{f:Nat->Nat}{P:Nat->Prop}{h:Nat->Rat}{i:Nat}(J:i<d.n)(aK:f i<10)(oe:d.bz i (f i)<h i)(gv:¬ P i):idle d (sX d f P h)<idle d P:=by
 refine Zp (j:=i) (λj _=>?_) J ?_
 ·by_cases ah:P j
  ·have E:sX d f P h j:=Or.inl ah;rw[ab E,ab ah];exact bX _
  ·rw[ag ah];split<;>omega
 ·have E:sX d f P h i:=Or.inr ⟨J,aK,oe⟩;rw[ab E,ag gv];omega
theorem iH.top {d:Day}(Y:d.dk){f:Nat->Nat}{g:Nat->Rat}(J:Inv d f g):∀m (P:Nat->Prop) (h:Nat->Rat),idle d P<=m->iH d f g P h->∃h,nG d f h
 |m,P,h,hm,aF=>by
  by_cases U:∀i,i<d.n->f i<10->d.bz i (f i)<h i->P i
  ·exact⟨h,g,J,aF.stop Y J U,aF.le⟩
  ·have⟨i,E,H,af,aP⟩:∃i,i<d.n/\f i<10/\d.bz i (f i)<h i/\¬ P i:=by
    apply mg;intro aH;exact U λi E H af=>mg λaP=>aH ⟨i,E,H,af,aP⟩
   have az:=ai4 (h:=h) E H af aP
   cases m with
   |zero=>omega
   |succ m=>exact iH.top Y J m _ _ (by omega) (aF.succ Y J)
theorem axj {d:Day}(Y:d.dk){f:Nat->Nat}(aa:Reach d f):∃h,nG d f h:=by
 obtain⟨g,J,-⟩:=aa;exact iH.top Y J _ _ _ (bX _) (iH.first Y J)
theorem iH.ai5 {d:Day}(Y:d.dk){f:Nat->Nat}{g:Nat->Rat}(J:Inv d f g){P:Nat->Prop}{h:Nat->Rat}(aF:iH d f g P h)(U:∀i,i<d.n->f i<10->d.bz i (f i)<h i->P i):∀i,i<d.n->h i=d.top f i :=
 have bA:nG d f h:=⟨g,J,aF.stop Y J U,aF.le⟩
 bA.unique Y (Day.Cz ⟨h,bA⟩)
end Go.Mini
