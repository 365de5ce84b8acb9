/- A part of the proof. -/
import Derived.Test.YtgpioapepokkbaaGreatM03
set_option linter.unusedSimpArgs false
set_option linter.unusedVariables false
set_option maxRecDepth 100000
set_option maxHeartbeats 4000000
noncomputable section
open Bool renaming and_eq_true->e4,eq_iff_iff->qL,false_and->fS,false_eq_true->kX,not_eq_true'->pU,not_false->dt,not_true->cK,or_eq_true->yg,or_false->l2,true_and->gW
open Classical renaming byContradiction->me,choose->tO,choose_spec->o7
open Decidable renaming em->dA
open Int renaming add_zero->sL,mul_ne_zero->Af,mul_zero->ub,natAbs_mul->qH,natAbs_natCast->mL,one_mul->n8,zero_add->DY,zero_mul->z7
open List renaming all_append->ahp,any_eq_false->xu,append_assoc->gM,append_nil->fC,append_of_mem->aiw,cons_append->jW,drop->fT,drop_append->oG,drop_eq_getElem_cons->im,drop_eq_nil_of_le->jQ,drop_zero->l1,ext_getElem?->pH,filter_nil->oR,findIdx_getElem->aiQ,findIdx_le_length->ah1,flatten_append->HX,flatten_cons->jL,getD_eq_getElem?_getD->dY,getElem?_append_left->rj,getElem?_append_right->ss,getElem?_cons_zero->zB,getElem?_drop->lv,getElem?_eq_getElem->bx,getElem?_eq_none->kF,getElem?_eq_some_iff->dP,getElem?_inj->aht,getElem?_map->bl,getElem?_range->tv,getElem?_set->nE,getElem?_zipIdx->YZ,getElem_drop->LZ,getElem_mem->o1,length->D,length_append->fH,length_cons->hN,length_drop->ry,length_map->al,length_nil->lD,length_replicate->Au,length_set->hP,length_take->gf,map->yV,mapM_cons->lu,map_append->kR,map_congr_left->lY,map_cons->eG,map_map->nq,map_nil->cV,map_replicate->HW,map_set->HE,mem_append->ko,mem_cons->hj,mem_cons_of_mem->gx,mem_cons_self->fZ,mem_filter->s9,mem_iff_getElem?->qz,mem_map->ek,mem_map_of_mem->p5,mem_of_getElem?->ec,mem_of_mem_drop->Lk,mem_or_eq_of_mem_set->Ex,mem_range->ha,mem_singleton->uc,nil_append->jo,range->dS,replicate->dG,replicate_append_replicate->Zk,replicate_succ->qo,set_append_right->EB,set_cons_succ->L4,set_cons_zero->v5,set_set->ahC,take->fN,take_add_one->hv,take_append_of_le_length->Cl,take_of_length_le->dy,zipWith->ZW,zipWith_cons_cons->aiK,zip_cons_cons->aiJ
open List.cons renaming injEq->ba
open Nat renaming add_comm->A1,add_sub_cancel_left->Gu,add_zero->nZ,eq_zero_or_pos->k4,exists_eq_add_of_le->ah7,gcd->jr,le_mul_of_pos_right->Kf,le_of_eq->As,le_refl->bZ,le_trans->eQ,lt_or_ge->il,mul_assoc->EO,mul_comm->rz,mul_le_mul->oP,mul_left_comm->aiF,mul_one->cL,mul_pos->MD,one_pos->ZT,pow_add->wg,pow_le_pow_right->w7,pow_succ->wR,reduceEqDiff->dJ,reduceLeDiff->ahB,sub_self->lV,sub_zero->Cn,succ_mul->tx,zero_add->kY,zero_le->fv
open Option renaming map_eq_some_iff->eb,map_some->lB
open Option.some renaming inj->o3,injEq->cn
open Prod renaming ext->dT,fst->B0
open Prod.mk renaming injEq->fb
open Rat renaming add_zero->nI,divInt->l9,divInt_eq_div->MG,div_def->H3,intCast_add->uD,intCast_eq_zero_iff->aiV,intCast_mul->p3,intCast_natCast->oh,intCast_sub->Ct,inv_pos->aii,le_refl->gb,le_trans->we,mul_comm->uF,mul_eq_zero->Z2,mul_nonneg->aih,mul_pos->Mp,mul_zero->og,neg_num->aiZ,num_eq_zero->aiH,one_mul->QY,zero_add->wi,zero_den->aje,zero_mul->Cp,zero_num->ajf
namespace Go.Mini
open Go
def YE:=ck vS λ(s,l,s2,ak)=>cR (D l<=1000000/\D ak<=1000000) (.same (ew (hz (s,l) (s2,ak))))
@[go_sem] theorem aLr (s:Int)(l:List Int)(s2:Int)(ak:List Int)(H:(D l)<=1000000/\D ak<=1000000):YE [.agg [.int .i64 s,.Y (l.map ae)],.agg [.int .i64 s2,.Y (ak.map ae)]]=some (.same (ew (hz (s,l) (s2,ak)))):=(cx yD (s,l,s2,ak)).trans (cW H _)
theorem auP (T:bd)(j7:T vA=aW Hz)(LR:T OO=aW Yw)(LS:T UI=aW Yy)(LU:T OP=aW Yz)(s:Int)(l:List Int)(s2:Int)(ak:List Int)(H:(D l)<=1000000/\D ak<=1000000):WP T YD (.same (ew (hz (s,l) (s2,ak)))) [.J (.agg [.int .i64 s,.Y (l.map ae)]),.J (.agg [.int .i64 s2,.Y (ak.map ae)])]:=by
 refine cy ?_;simp only[YD];obtain⟨cb,cB⟩:=H
 by_cases ab:dD (s,l)=true
 ·by_cases bC:dD (s2,ak)=true
  ·obtain⟨x,Q,e⟩:=(j2 _).1 ab;obtain⟨y,av,aD⟩:=(j2 _).1 bC
   by_cases ao:y=0
   ·have hm:hz (s,l) (s2,ak)=(er,15):=by
     unfold hz;rw[ab,bC,aD,fQ,ad (by rfl),ad ao]
    rw[hm]
    cases e
    cases aD;have X:(y.sign==0)=true:=by rw[ao];rfl
    refine a0 ?_;repeat' (intro h<;>simp only[h,go_sem,go_sem_proc,j7,LR,LS,LU,ab,bC,cb,cB,X,ew,aH,er,cV]<;>try refine aw ?_ ?_)
   ·have main:∀p q:Int,p.natAbs<ee->q.natAbs<ee->0<q->∃g:Raw,l8 (bQ p) (bQ q)=(g,0)/\g.2.length<=1000000/\kO (bQ p) g=(bQ (l9 p q).num,bQ (p.fmod ((jr p.natAbs q.natAbs:Nat):Int)),0)/\kO (bQ q) g=(bQ (l9 p q).den,bQ (q.fmod ((jr p.natAbs q.natAbs:Nat):Int)),0):=by
     intro p q aF aT mE;have mM:=Lr aF aT;have Em:((jr p.natAbs q.natAbs:Nat):Int).natAbs<ee:=by rw[mL];exact mM
     have Pp:=Xa (p:=p) (q:=q) (by omega);obtain⟨F,I⟩:=W9 (p:=p) mE;refine⟨bQ ((jr p.natAbs q.natAbs:Nat):Int),?_,nB Em,?_,?_⟩
     ·unfold l8;rw[ld aF,ld aT,fQ,fQ];rfl
     ·rw[Eb aF Em (by omega),F]
     ·rw[Eb aT Em (by omega),I]
    have qN:(y.sign==0)=false:=by simpa using ao
    rcases Int.lt_or_gt_of_ne ao with kM|h3
    ·have hx:decide (y.sign<0)=true:=by rw[Int.sign_eq_neg_one_of_neg kM];rfl
     obtain⟨⟨cq,cr⟩,a7,mM,jZ,mF⟩:=main (-x) (-y) (by omega) (by omega) (by omega)
     have hm:hz (s,l) (s2,ak)=(au (l9 (-x) (-y)),0):=by
      rw[e,aD,Aa Q av ao,Rat.neg_divInt_neg]
     rw[hm];have oC:j4 (s,l)=bQ (-x):=by unfold j4;rw[ad ab,e,fQ]
     have vf:j4 (s2,ak)=bQ (-y):=by unfold j4;rw[ad bC,aD,fQ]
     have En:s2=y.sign:=congrArg B0 aD;have hJ:(bQ (-x)).2.length<=1000000:=nB (by omega);have js:(bQ (-y)).2.length<=1000000:=nB (by omega);clear e aD;unfold au;generalize bQ (-x)=dd at *;generalize bQ (-y)=gi at *;obtain⟨a8,bY⟩:=dd;obtain⟨tV,tW⟩:=gi;rw[<-En] at qN hx;refine a0 ?_;repeat' (intro h<;>simp only[h,go_sem,go_sem_proc,j7,LR,LS,LU,ab,bC,cb,cB,qN,hx,oC,vf,hJ,js,a7,mM,jZ,mF,ew,aH,fR,hl,db]<;>try refine aw ?_ ?_)
    ·have hx:decide (y.sign<0)=false:=by rw[Int.sign_eq_one_of_pos h3];rfl
     obtain⟨⟨cq,cr⟩,a7,mM,jZ,mF⟩:=main x y Q av h3
     have hm:hz (s,l) (s2,ak)=(au (l9 x y),0):=by
      rw[e,aD,Aa Q av ao]
     rw[hm];have En:s2=y.sign:=congrArg B0 aD;rw[<-e] at a7 jZ;rw[<-aD] at a7 mF;rw[<-En] at qN hx;unfold au;refine a0 ?_;repeat' (intro h<;>simp only[h,go_sem,go_sem_proc,j7,LR,LS,LU,ab,bC,cb,cB,qN,hx,a7,mM,jZ,mF,ew,aH,fR,hl,db]<;>try refine aw ?_ ?_)
  ·have bC:dD (s2,ak)=false:=by simpa using bC
   have hm:hz (s,l) (s2,ak)=(er,1):=by unfold hz;rw[bC,Bool.and_false];rfl
   rw[hm];refine a0 ?_;repeat' (intro h<;>simp only[h,go_sem,go_sem_proc,j7,LR,LS,LU,ab,bC,cb,cB,ew,aH,er,cV]<;>try refine aw ?_ ?_)
 ·have ab:dD (s,l)=false:=by simpa using ab
  have hm:hz (s,l) (s2,ak)=(er,1):=by unfold hz;rw[ab,fS];rfl
  rw[hm];refine a0 ?_;repeat' (intro h<;>simp only[h,go_sem,go_sem_proc,j7,LR,LS,LU,ab,cb,cB,ew,aH,er,cV]<;>try refine aw ?_ ?_)
def YF:=ck GL λ(p,q)=>cR (dw p/\dw q) (.same (ew (hz (bQ p) (bQ q))))
@[go_sem] theorem aLs (p:Int)(q:Int)(H:dw p/\dw q):YF [.int .i64 p,.int .i64 q]=some (.same (ew (hz (bQ p) (bQ q)))):=(cx O8 (p,q)).trans (cW H _)
theorem auQ (T:bd)(auR:T OL=aW Yx)(auS:T UA=aW YE)(p:Int)(q:Int)(H:dw p/\dw q):WP T YB (.same (ew (hz (bQ p) (bQ q)))) [.J (.int .i64 p),.J (.int .i64 q)]:=by
 refine cy ?_;simp only[YB];obtain⟨F,I⟩:=H;have dW:(bQ p).2.length<=1000000:=nB (yG F);have ak:(bQ q).2.length<=1000000:=nB (yG I);generalize gr:bQ p=P at *;generalize e5:bQ q=aN at *;obtain⟨a8,bY⟩:=P;obtain⟨tV,tW⟩:=aN;refine a0 ?_;repeat' (intro h<;>simp only[h,go_sem,go_sem_proc,auR,auS,F,I,gr,e5,dW,ak,db,ew,aH]<;>try refine aw ?_ ?_)
def YG:=ck vS λ(s,l,s2,ak)=>cR (D l<=1000000/\D ak<=1000000) (.same (.bool (xn (s,l) (s2,ak))))
@[go_sem] theorem aLt (s:Int)(l:List Int)(s2:Int)(ak:List Int)(H:(D l)<=1000000/\D ak<=1000000):YG [.agg [.int .i64 s,.Y (l.map ae)],.agg [.int .i64 s2,.Y (ak.map ae)]]=some (.same (.bool (xn (s,l) (s2,ak)))):=(cx yD (s,l,s2,ak)).trans (cW H _)
theorem auT (T:bd)  (s:Int) (l:List Int) (s2:Int) (ak:List Int) (H:(D l)<=1000000/\D ak<=1000000):WP T YC (.same (.bool (xn (s,l) (s2,ak)))) [.J (.agg [.int .i64 s,.Y (l.map ae)]),.J (.agg [.int .i64 s2,.Y (ak.map ae)])]:=by
 refine cy ?_;simp only[YC];obtain⟨cb,cB⟩:=H
 by_cases X:s=s2
 ·subst X
  by_cases ar:(D l)=D ak
  ·have aC:(((D l:Nat):Int)==((D ak:Nat):Int))=true:=by simp;omega
   simp only[go_sem,go_sem_proc,beq_self_eq_true,al,aC,cK,bne];refine dn [2,3] [142002,142003] (λ(i:Nat) tm mem=>i<=D l/\l.take i=ak.take i/\tm 5=.J (.int .i64 i)) (λi=>D l-i) 0 (by refine⟨by omega,by simp,rfl⟩) ?_;intro vs ms aV aS;simp only[go_sem,go_sem_proc,al] at aV aS;subst aV aS;rintro i tm mem O hm ⟨M,aI,bm⟩;simp only[go_sem,go_sem_proc,ba] at O hm;obtain⟨I,af⟩:=O;obtain⟨cO,n7⟩:=hm;rcases dA (i<D l) with ay|cj
   ·have Q:l[i]?=some l[i]:=bx ay;have av:ak[i]?=some ak[i]:=bx (by omega);have oC:l.take (i+1)=l.take i++[l[i]]:=by rw[hv,Q];rfl
    have vf:ak.take (i+1)=ak.take i++[ak[i]]:=by rw[hv,av];rfl
    generalize l[i]=x at *;generalize ak[i]=y at *;have d1:decide ((i:Int)<(D l:Int))=true:=di;have bX:=ff (i:=i) (by omega)
    by_cases jk:x=y
    ·subst jk;simp only[go_sem,go_sem_proc,I,af,bm,cO,n7,Q,av,d1,bX,ae,al,bl,ba,beq_self_eq_true,cK];repeat' (first|refine aw ?_ ?_|fail)<;>intro h<;>simp only[h,go_sem,go_sem_proc,I,af,bm,cO,n7,Q,av,d1,bX,ae,al,bl,ba,beq_self_eq_true,cK]
     exact⟨i+1,by omega,by omega,by rw[oC,vf,aI],rfl⟩
    ·have bG:(x==y)=false:=by simpa using jk
     have ab:xn (s,l) (s,ak)=false:=by
      refine mq λh=>jk ?_;rw[fb] at h;rw[h.2,av] at Q;exact (o3 Q).symm
     rw[ab];simp only[go_sem,go_sem_proc,I,af,bm,cO,n7,Q,av,d1,bX,bG,ae,al,bl,ba,dt];repeat' (first|refine aw ?_ ?_|fail)<;>intro h<;>simp only[h,go_sem,go_sem_proc,I,af,bm,cO,n7,Q,av,d1,bX,bG,ae,al,bl,ba,dt]
   ·have d1:decide ((i:Int)<(D l:Int))=false:=c9
    have ab:xn (s,l) (s,ak)=true:=by
     refine lq ?_;rw[dy (by omega),dy (by omega)] at aI;rw[aI]
    rw[ab];simp only[go_sem,go_sem_proc,I,af,bm,cO,n7,d1,al];repeat' (first|refine aw ?_ ?_|fail)<;>intro h<;>simp only[h,go_sem,go_sem_proc,I,af,bm,cO,n7,d1,al]
  ·have aC:(((D l:Nat):Int)==((D ak:Nat):Int))=false:=by simp;omega
   have ab:xn (s,l) (s,ak)=false:=by
    refine mq λh=>ar ?_;rw[fb] at h;rw[h.2]
   rw[ab];simp only[go_sem,go_sem_proc,beq_self_eq_true,al,aC,cK,dt,bne];repeat' (first|refine aw ?_ ?_|fail)<;>intro h<;>simp only[h,go_sem,go_sem_proc,beq_self_eq_true,al,aC,cK,dt,bne]
 ·have bG:(s==s2)=false:=by simpa using X
  have ab:xn (s,l) (s2,ak)=false:=by
   refine mq λh=>X ?_;rw[fb] at h;exact h.1
  rw[ab];simp only[go_sem,go_sem_proc,bG,al,cK,dt,bne];repeat' (first|refine aw ?_ ?_|fail)<;>intro h<;>simp only[h,go_sem,go_sem_proc,bG,al,cK,dt,bne]
def HA (a b:bo):Bool:=decide (a=b)
def LV:=ck yJ λ(s,l,s2,ak,cM,bJ,cX,b3)=>cR (D l<=1000000/\D ak<=1000000/\D bJ<=1000000/\D b3<=1000000) (.same (.bool (HA ((s,l),(s2,ak)) ((cM,bJ),(cX,b3)))))
@[go_sem] theorem auU (s:Int)(l:List Int)(s2:Int)(ak:List Int)(cM:Int)(bJ:List Int)(cX:Int)(b3:List Int)(H:(D l)<=1000000/\D ak<=1000000/\D bJ<=1000000/\D b3<=1000000):LV [.agg [.int .i64 s,.Y (l.map ae),.int .i64 s2,.Y (ak.map ae)],.agg [.int .i64 cM,.Y (bJ.map ae),.int .i64 cX,.Y (b3.map ae)]]=some (.same (.bool (HA ((s,l),(s2,ak)) ((cM,bJ),(cX,b3))))):=(cx B2 (s,l,s2,ak,cM,bJ,cX,b3)).trans (cW H _)
theorem auV (T:bd)(aho:T OK=aW YG)(s:Int)(l:List Int)(s2:Int)(ak:List Int)(cM:Int)(bJ:List Int)(cX:Int)(b3:List Int)(H:(D l)<=1000000/\D ak<=1000000/\D bJ<=1000000/\D b3<=1000000):WP T YA (.same (.bool (HA ((s,l),(s2,ak)) ((cM,bJ),(cX,b3))))) [.J (.agg [.int .i64 s,.Y (l.map ae),.int .i64 s2,.Y (ak.map ae)]),.J (.agg [.int .i64 cM,.Y (bJ.map ae),.int .i64 cX,.Y (b3.map ae)])]:=by
 refine cy ?_;simp only[YA];obtain⟨cb,cB,hJ,js⟩:=H
 have e:HA ((s,l),(s2,ak)) ((cM,bJ),(cX,b3))=(xn (s,l) (cM,bJ)&&xn (s2,ak) (cX,b3)):=by
  unfold HA xn;rw[qL,e4,decide_eq_true_eq,decide_eq_true_eq,decide_eq_true_eq,fb]
 rw[e];rcases F:xn (s,l) (cM,bJ)
 ·refine a0 ?_;repeat' (intro h<;>simp only[h,go_sem,go_sem_proc,aho,cb,cB,hJ,js,F,fS]<;>try refine aw ?_ ?_)
 ·refine a0 ?_;repeat' (intro h<;>simp only[h,go_sem,go_sem_proc,aho,cb,cB,hJ,js,F,gW]<;>try refine aw ?_ ?_)


theorem HB {α:Type}{p:α->Bool}{l:List α}{i:Nat}{x:α}(Q:l[i]?=some x):(l.take (i+1)).all p=((l.take i).all p&&p x):=by
 rw[hv,Q,ahp];simp
theorem ahq {α:Type}{p:α->Bool}{l:List α}{i:Nat}{x:α}(Q:l[i]?=some x)(h:p x=false):l.all p=false:=by
 rw[List.all_eq_false];exact⟨x,ec Q,by simp[h]⟩
end Go.Mini
namespace Go.Mini
open Go
variable {P:Program} {A:Nat->Prop} {w aR:World} {B bu:e9} {mem mem':Mem}
structure kQ (P:Program) (f:FuncId) (eT:List R->Mem->Option gZ):Prop where
 real:Real P f
 run:∀args mem o6,eT args mem=some o6->∀A w B vs,fr A w B mem->dp w (cg A B) B args vs->TO P f vs A w B mem o6
def oe (res:List oA)(bU:R->Mem->Prop):eW->bb->Prop
 |.exit _,_=>False
 |.normal,st=>∃m,pF st res=some m/\bU m st.mem
 |.ret,st=>∃m,pF st res=some m/\bU m st.mem
@[go_sem] theorem aLu {res:List oA}{st:bb}(bU:R->Mem->Prop)(id:Nat):oe res bU (.exit id) st=False:=bw
@[go_sem] theorem aLv {res:List oA}{st:bb}(bU:R->Mem->Prop):oe res bU .normal st=∃m,pF st res=some m/\bU m st.mem:=bw
@[go_sem] theorem aLw {res:List oA}{st:bb}(bU:R->Mem->Prop):oe res bU .ret st=∃m,pF st res=some m/\bU m st.mem:=bw
theorem Qn {mf:bN}{bU:R->Mem->Prop}{e:eW}{st:bb}(h:oe mf.res bU e st):T4 mf bU e st:=by
 cases e with
 |exit id=>exact h
 |normal=>exact h
 |ret=>exact h
theorem Qo {kb : Nat}{own : List Nat}{f : FuncId}{fn : Func}{mf : bN}(aI : P.funcs[f]? = some fn)(tN : (fn.name == "runtime.NumGoroutine") = false)(a1 : sq P kb own fn = some mf): Real P f := by
 cases ah:fn.body with
 |none=>simp[sq,ah] at a1
 |some c=>exact⟨fn,c,aI,ah,tN⟩
def pj (aN:List R->Mem->Option (R->Mem->Prop))(args:List R)(mem:Mem):Option gZ:=(aN args mem).map .rel
@[go_sem] theorem aLx (aN:List R->Mem->Option (R->Mem->Prop))(args:List R)(mem:Mem):pj aN args mem=(aN args mem).map .rel:=bw
theorem Ev {T : bd}{kb : Nat}{own : List Nat}(cQ : qu P T)(hm : P.follows .mixedOrders = true){f : FuncId}{fn : Func}{mf : bN}(aI : P.funcs[f]? = some fn)(tN : (fn.name == "runtime.NumGoroutine") = false)(a1 : sq P kb own fn = some { mf with body := erase mf.body })
  {aN:List R->Mem->Option (R->Mem->Prop)} (h:∀args mem bU,aN args mem=some bU->(D args)<=mf.n/\wp T mf.body (oe mf.res bU) ⟨km args,mem⟩):kQ P f (pj aN):=by
 refine⟨Qo aI tN a1,λargs mem o6 iw A w B vs b2 aA=>?_⟩;unfold pj at iw;rw[eb] at iw;obtain⟨bU,gE,rfl⟩:=iw;obtain⟨hlen,wN⟩:=h args mem bU gE;refine Calls.mono (Gl (Post:=bU) cQ hm aI a1 hlen (λe st O=>Qn O) wN b2 aA) λe aR he=>?_;obtain⟨v,m,mem',bu,rfl,X,mW,aF⟩:=he;exact⟨v,m,mem',bu,rfl,X,mW,aF⟩
inductive sT (da:Key->Prop):R->Prop
 |J {d:Data}:sT da (.J d)
 |nil:sT da .nil
 |ref {k g sz off len:Nat} (h:¬ da k):sT da (.ref k g sz off len)
 |ptr {k g off:Nat} (h:¬ da k):sT da (.ptr k g off)
 |fu {f:FuncId} {eP:List R} (h:∀(i:Nat) (m:R),eP[i]?=some m->sT da m):sT da (.fu f eP)
 |agg {cs:List R} (h:∀(i:Nat) (m:R),cs[i]?=some m->sT da m):sT da (.agg cs)
 |cI {cs:List R} (h:∀(i:Nat) (m:R),cs[i]?=some m->sT da m):sT da (.cI cs)
 |no:sT da .no
 |undef:sT da .undef
theorem clean_of {da:Key->Prop}{aZ:Nat->Prop}(um:∀k,da k->B k=none){m:R}{v:Value}(h:bs w aZ B m v):sT da m:=by
 induction h with
 |J h=>exact .J
 |nil=>exact .nil
 |ref he a7 aA=>exact .ref λai=>by rw[um _ ai] at he;cases he
 |ptr he a7 aA=>exact .ptr λai=>by rw[um _ ai] at he;cases he
 |fu ar aa az=>exact .fu λi m M=>az i m _ M (bx (by have ay:=(dP.1 M).1;omega))
 |agg ar aa az=>exact .agg λi m M=>az i m _ M (bx (by have ay:=(dP.1 M).1;omega))
 |cI ar aa az=>exact .cI λi m M=>az i m _ M (bx (by have ay:=(dP.1 M).1;omega))
 |no=>exact .no
 |undef=>exact .undef
open Classical in
def sU (da:Key->Prop)(B:e9):e9:=λk=>if da k then none else B k
theorem Ew {da:Key->Prop}{b:Nat}(h:sf (sU da B) b):sf B b:=by
 obtain⟨k,e,he,ah⟩:=h;unfold sU at he
 split at he
 ·cases he
 ·exact⟨k,e,he,ah⟩
theorem auW {da:Key->Prop}{m:R}{v:Value}(h:bs w (cg A B) B m v)(H:sT da m):bs w (cg A (sU da B)) (sU da B) m v:=by
 have at_:∀{k:Key} {e:mu},¬ da k->B k=some e->sU da B k=some e:=λO he=>by unfold sU;rw[ag O];exact he
 induction h with
 |J h=>exact .J (h.less λb ah=>ah.imp Ew id)
 |nil=>exact .nil
 |ref he a7 aA=>cases H with|ref O=>exact .ref (at_ O he) a7 aA
 |ptr he a7 aA=>cases H with|ptr O=>exact .ptr (at_ O he) a7 aA
 |fu ar aa az=>cases H with|fu H=>exact .fu ar λi d v M aA=>az i d v M aA (H i d M)
 |agg ar aa az=>cases H with|agg H=>exact .agg ar λi d v M aA=>az i d v M aA (H i d M)
 |cI ar aa az=>cases H with|cI H=>exact .cI ar λi d v M aA=>az i d v M aA (H i d M)
 |no=>exact .no
 |undef=>exact .undef
theorem eE.drop {da:Key->Prop}{Qp:Mem}(ao:fr A w B mem)(um:∀k,da k->mem k=none)(h:eE A w B aR bu mem')(F:∀k,da k->Qp k=none)(I:∀k,¬ da k->Qp k=mem' k)
  (H:∀k g cs,Qp k=some (g,cs)->∀m∈cs,(∃d,m=.J d)\/∃fE ye tF,mem fE=some (ye,tF)/\m∈tF):eE A w B aR (sU da bu) Qp:=by
 have fw:∀k,da k->B k=none:=λk O=>ao.A5 k (um k O);have at_:∀{k:Key},¬ da k->sU da bu k=bu k:=λO=>by unfold sU;rw[ag O]
 have YH:∀{k:Key},da k->sU da bu k=none:=λO=>by unfold sU;rw[ad O]
 refine⟨⟨λk O=>?_,λk k' e e' b he gz ah kE=>?_,λb aP bO=>h.dV.sep b aP (Ew bO),h.dV.lt,λk g cs O=>?_⟩,⟨h.mV.size,λb ah bO=>?_,λk e he=>?_⟩,h.aE,λb ah=>h.fresh b (Ew ah)⟩
 ·by_cases ai:da k
  ·exact YH ai
  ·rw[at_ ai];exact h.dV.A5 k (by rw[<-I k ai];exact O)
 ·by_cases ai:da k
  ·rw[YH ai] at he;cases he
  ·by_cases pG:da k'
   ·rw[YH pG] at gz;cases gz
   ·rw[at_ ai] at he;rw[at_ pG] at gz;exact h.dV.inj k k' e e' b he gz ah kE
 ·by_cases ai:da k
  ·rw[F k ai] at O;cases O
  ·obtain⟨e,he,a7,aL,ah⟩:=h.dV.dx k g cs (by rw[<-I k ai];exact O);refine⟨e,by rw[at_ ai];exact he,a7,aL,λb iS=>?_⟩
   obtain⟨vs,T,aU,aX,hle,ab⟩:=ah b iS;refine⟨vs,T,aU,aX,hle,λi m M=>?_⟩;obtain⟨v,aA,vm⟩:=ab i m M;refine⟨v,aA,auW vm ?_⟩;rcases H k g cs O m (ec M) with ⟨d,rfl⟩|⟨fE,ye,tF,k6,gm⟩
   ·exact .J
   ·obtain⟨bI,Kx,Pp,iU,sJ⟩:=ao.dx fE ye tF k6
    cases GS:bI.dx with
    |none=>rw[iU GS] at gm;cases gm
    |some sB =>
     obtain⟨aLy,aLz,_,_,_,pO⟩:=sJ sB GS;obtain⟨i0,sH⟩:=qz.1 gm;obtain⟨v0,_,auX⟩:=pO i0 m sH;exact clean_of fw auX
 ·obtain⟨af,aO⟩:=h.mV.JF b ah bO;exact⟨af,λQ=>aO (Ew Q)⟩
 ·have ai:¬ da k:=λai=>by rw[fw k ai] at he;cases he
  rw[at_ ai];exact h.mV.key k e he
def Cc (bt:List R->Mem->Option (Data×Key×Nat×Nat×Data))(args:List R)(mem:Mem):Option gZ:=(bt args mem).map λx => .fa x.1 x.2.1 x.2.2.1 x.2.2.2.1 (.J x.2.2.2.2)
@[go_sem] theorem aLA (bt:List R->Mem->Option (Data×Key×Nat×Nat×Data))(args:List R)(mem:Mem):Cc bt args mem=(bt args mem).map λx => .fa x.1 x.2.1 x.2.2.1 x.2.2.2.1 (.J x.2.2.2.2):=bw
theorem auY {T : bd}{kb : Nat}{own : List Nat}(cQ : qu P T)(hm : P.follows .mixedOrders = true){f : FuncId}{fn : Func}{mf : bN}(aI : P.funcs[f]? = some fn)(tN : (fn.name == "runtime.NumGoroutine") = false)(a1 : sq P kb own fn = some { mf with body := erase mf.body })
  (da:Key->Prop) {bt:List R->Mem->Option (Data×Key×Nat×Nat×Data)}
  (h:∀args mem r k g i d,bt args mem=some (r,k,g,i,d)->(D args)<=mf.n/\(∀j,da j->mem j=none)/\¬ da k/\(∃cs,mem k=some (g,cs)) /\
   wp T mf.body (oe mf.res λm mem'=>cE 6 emp m=some r/\∀j,¬ da j->mem' j=a4 mem k g ((re mem k).set i (.J d)) j) ⟨km args,mem⟩):kQ P f (Cc bt):=by
 refine⟨Qo aI tN a1,λargs mem o6 iw A w B vs b2 aA=>?_⟩;unfold Cc at iw;rw[eb] at iw;obtain⟨⟨r,k,g,i,d⟩,m8,rfl⟩:=iw;obtain⟨hlen,um,O,⟨cs,kZ⟩,wN⟩:=h args mem r k g i d m8;refine Calls.mono (Gl (Post:=λm mem'=>cE 6 emp m=some r/\∀j,¬ da j->mem' j=a4 mem k g ((re mem k).set i (.J d)) j) cQ hm aI a1 hlen (λe st O=>Qn O) wN b2 aA) λe aR he=>?_;obtain⟨v,m,mem',bu,rfl,X,mW,aa,gm⟩:=he;refine⟨v,sU da bu,rfl,X.drop b2 um (λj ai=>?_) (λj ai=>(gm j ai).symm) ?_,.J ((OB 6 m v r aa mW).less λb ah=>ah.imp Ew id)⟩
 ·have:j≠k:=λe=>O (e ▸ ai);simp only[a4,this,if_false];exact um j ai
 ·intro c0 cr n1 I m nz
  by_cases gC:c0=k
  ·subst gC;simp only[a4,if_true,cn,fb] at I;obtain⟨-,rfl⟩:=I;rcases Ex nz with Q|rfl
   ·refine .inr ⟨c0,g,cs,kZ,?_⟩
    simpa [re,kZ] using Q
   ·exact .inl ⟨d,rfl⟩
  ·simp only[a4,gC,if_false] at I;exact .inr ⟨c0,cr,n1,I,nz⟩
def YI:Option gZ->Option gZ->Option gZ
 |some x,_=>some x
 |none,e=>e
@[go_sem] theorem aLB (x:gZ)(e:Option gZ):YI (some x) e=some x:=bw
@[go_sem] theorem aLC (e:Option gZ):YI none e=e:=bw
def xo (l0:FuncId->Option (List Data->Option eL))(sV:FuncId->Option (List R->Mem->Option gZ)):bd:=λf args mem=>match sV f with
 |some eT=>YI (eT args mem) (Bq l0 f args mem)
 |none=>Bq l0 f args mem
theorem rL {l0:FuncId->Option (List Data->Option eL)}{sV:FuncId->Option (List R->Mem->Option gZ)}(h:∀f aQ,l0 f=some aQ->tM P f aQ)(ab:∀f eT,sV f=some eT->kQ P f eT):qu P (xo l0 sV):=by
 intro f args mem o6 cQ;unfold xo at cQ
 split at cQ
 ·rename_i eT iw;have X:=ab f eT iw
  cases Q:eT args mem with
  |none =>
   rw[Q] at cQ;exact aeX h f args mem o6 cQ
  |some y =>
   rw[Q] at cQ
   cases cQ;exact⟨X.real,λA w B vs b2 aA=>X.run args mem o6 Q A w B vs b2 aA⟩
 ·exact aeX h f args mem o6 cQ
theorem KG.ahr {f:FuncId}{bL:List R->Mem->Option (R×Mem)}(h:KG P f bL):kQ P f (Bt bL):=by
 refine⟨h.real,λargs mem o6 iw A w B vs b2 aA=>?_⟩;unfold Bt at iw;rw[eb] at iw;obtain⟨x,Q,rfl⟩:=iw;exact h.run args mem x Q A w B vs b2 aA
section
variable {l0:FuncId->Option (List Data->Option eL)} {sV:FuncId->Option (List R->Mem->Option gZ)} {f:FuncId}
theorem nD {aQ:List Data->Option eL}(h:sV f=none)(cG:l0 f=some aQ):xo l0 sV f=aW aQ:=by
 funext args mem
 unfold xo;rw[h];exact congrFun (congrFun (aeZ cG) args) mem
theorem uo {eT:List R->Mem->Option gZ}(h:sV f=some eT)(cG:l0 f=none):xo l0 sV f=eT:=by
 funext args mem
 unfold xo Bq;rw[h,cG];dsimp only
 cases eT args mem<;>rfl
theorem HC {aQ:List Data->Option eL}{bL:List R->Mem->Option (R×Mem)}(h:sV f=some (Bt bL))(cG:l0 f=some aQ):xo l0 sV f=zI aQ bL:=by
 funext args mem
 unfold xo;rw[h];unfold zI Bt;rw[show Bq l0 f args mem=aW aQ args mem from congrFun (congrFun (aeZ cG) args) mem];dsimp only
 cases bL args mem<;>rfl
end
def Qq (l:List (FuncId×(List R->Mem->Option gZ))):FuncId->Option (List R->Mem->Option gZ):=λf=>(l.find? λp=>p.1==f).map (·.2)
theorem rM {l:List (FuncId×(List R->Mem->Option gZ))}(h:∀p∈l,kQ P p.1 p.2):∀f bL,Qq l f=some bL->kQ P f bL:=by
 intro f aQ aI;unfold Qq at aI;rw[eb] at aI;obtain⟨p,aF,rfl⟩:=aI;have F:=List.mem_of_find?_eq_some aF;have I:=List.find?_some aF;have af:p.1=f:=by simpa using I
 exact af ▸ h p F
theorem lL:∀p∈([]:List (FuncId×(List R->Mem->Option gZ))),kQ P p.1 p.2:=by simp
theorem oM {f:FuncId}{aQ:List R->Mem->Option gZ}{l:List (FuncId×(List R->Mem->Option gZ))}(h:kQ P f aQ)(ar:∀p∈l,kQ P p.1 p.2):∀p∈(f,aQ)::l,kQ P p.1 p.2:=by
 intro p aF;rcases hj.1 aF with rfl|aF
 ·exact h
 ·exact ar p aF
open Classical in
def uq {α:Type}(bh:α->List R->Mem->Prop)(bU:α->Mem->R->Mem->Prop):List R->Mem->Option (R->Mem->Prop):=λargs mem=>if h:∃a,bh a args mem then some (bU (tO h) mem) else none
theorem LW {α:Type}{bh:α->List R->Mem->Prop}{bU:α->Mem->R->Mem->Prop}(uniq:∀a b args mem,bh a args mem->bh b args mem->a=b){a:α}{args:List R}{mem:Mem}(h:bh a args mem):uq bh bU args mem=some (bU a mem):=by
 have Q:∃b,bh b args mem:=⟨a,h⟩;unfold uq;rw[dif_pos Q,uniq _ _ _ _ (o7 Q) h]
theorem Ey {α:Type}{bh:α->List R->Mem->Prop}{bU:α->Mem->R->Mem->Prop}{args:List R}{mem:Mem}{x:R->Mem->Prop}(h:uq bh bU args mem=some x):∃a,bh a args mem/\x=bU a mem:=by
 unfold uq at h
 split at h
 ·rename_i Q;exact⟨_,o7 Q,(o3 h).symm⟩
 ·cases h
end Go.Mini
namespace Go.Mini
open Go
def Qr:=ck El λ(s,l,s2,ak)=>some (.same (.bool (s==0)))
@[go_sem] theorem aLD (s:Int)(l:List Int)(s2:Int)(ak:List Int):Qr [.agg [.int .i64 s,.Y (l.map ae),.int .i64 s2,.Y (ak.map ae)]]=some (.same (.bool (s==0))):=cx Ly (s,l,s2,ak)
theorem LX (T:bd)  (s:Int) (l:List Int) (s2:Int) (ak:List Int):WP T Xt (.same (.bool (s==0))) [.J (.agg [.int .i64 s,.Y (l.map ae),.int .i64 s2,.Y (ak.map ae)])]:=by
 refine cy ?_;simp only[Xt];refine a0 ?_;repeat' (intro h<;>simp only[h,go_sem,go_sem_proc]<;>try refine aw ?_ ?_)
def Am (args:List R)(mem:Mem):Option (Data×Key×Nat×Nat×Data) :=
 match args with
 | [.ptr k g 0,.J (.agg [.int .i64 s,.Y l,.int .i64 s2,.Y ak]),.J (.int .i64 e)]=>match mem k,mem 168004,mem 168006 with
  |some (c6,[_,_,.J (.bool c)]),none,none=>if c6=g/\k≠168004/\k≠168006 then some (.agg [.int .i64 s,.Y l,.int .i64 s2,.Y ak],k,g,2,.bool (c||e != 0)) else none
  |_,_,_=>none
 |_=>none
def Qs (j:Key):Prop:=j=168004\/j=168006
theorem auZ (T:bd)(args:List R)(mem:Mem)(r:Data)(k g i:Nat)(d:Data)(h:Am args mem=some (r,k,g,i,d)):
  (D args)<=19/\(∀j,Qs j->mem j=none)/\¬ Qs k/\(∃cs,mem k=some (g,cs)) /\
   wp T P8.body (oe P8.res λm mem'=>cE 6 emp m=some r/\∀j,¬ Qs j->mem' j=a4 mem k g ((re mem k).set i (.J d)) j) ⟨km args,mem⟩:=by
 unfold Am at h
 split at h
 ·rename_i fE ye s l s2 ak e
  split at h
  ·rename_i cq a b c hm aO bK
   split at h
   ·rename_i a7;obtain⟨rfl,v3,LY⟩:=a7;simp only[cn,fb] at h;obtain⟨rfl,rfl,rfl,rfl,rfl⟩:=h;refine⟨by simp,?_,?_,⟨_,hm⟩,?_⟩
    ·rintro j (rfl|rfl)
     ·exact aO
     ·exact bK
    ·rintro (h|h)
     ·exact v3 h
     ·exact LY h
    ·have iI:∀x:Bool,re mem fE=[a,b,.J (.bool c)]:=λ_=>by simp only[re,hm]
     have Qt:(fE=168004)=False:=eq_false v3;have Qu:(fE=168006)=False:=eq_false LY;have Qv:(168004=fE)=False:=eq_false (Ne.symm v3);have Qw:(168006=fE)=False:=eq_false (Ne.symm LY);refine qs ?_;simp only[P8]
     cases c
     ·simp only[go_sem,go_sem_proc,hm,aO,bK,Qt,Qu,Qv,Qw];repeat' (first|refine aw ?_ ?_|fail)<;>intro h<;>simp only[h,go_sem,go_sem_proc,hm,aO,bK,Qt,Qu,Qv,Qw]
      refine⟨_,rfl,by first|rfl|simp[go_sem,cE],λj ai=>?_⟩
      have Qx:j≠168004:=λh=>ai (.inl h);have Cd:j≠168006:=λh=>ai (.inr h)
      by_cases ea:j=fE<;>simp[a4,re,hm,Qx,Cd,ea,v3,LY,bne]
     ·simp only[go_sem,go_sem_proc,hm,aO,bK,Qt,Qu,Qv,Qw];repeat' (first|refine aw ?_ ?_|fail)<;>intro h<;>simp only[h,go_sem,go_sem_proc,hm,aO,bK,Qt,Qu,Qv,Qw]
      refine⟨_,rfl,by first|rfl|simp[go_sem,cE],λj ai=>?_⟩
      have Qx:j≠168004:=λh=>ai (.inl h);have Cd:j≠168006:=λh=>ai (.inr h)
      by_cases ea:j=fE<;>simp[a4,re,hm,Qx,Cd,ea,v3,LY,bne]
   ·cases h
  ·cases h
 ·cases h
abbrev dr:=Nat×Nat×List bo
def refsOf (N:Nat)(rows:List dr):List R:=rows.map λx => .ref (x.1+900000) x.2.1 4 0 (N+1)
structure An (go N:Nat) (rows:List dr) (bad:Bool) (mem:Mem):Prop where
 m:mem 129015=some (0,[.ref 129035 go 1 0 N,.J (.int .i64 N),.J (.bool bad)])
 o:mem 129035=some (go,refsOf N rows)
 r:∀x∈rows,mem (x.1+900000)=some (x.2.1,bc aH x.2.2)
structure j8 (N:Nat) (rows:List dr):Prop where
 len:(D rows)=N
 Qy:(rows.map (·.1)).Nodup
 row:∀x∈rows,x.2.2.length=N+1/\∀f∈x.2.2,okF f
def HD (k:Nat):Prop:=k<900000/\k≠129015/\k≠129035/\k≠148008/\k≠148010/\k≠148013
def kr (eC:Mem)(go N:Nat)(rows:List dr)(bad:Bool)(mem:Mem):Prop:=An go N rows bad mem/\∀k,HD k->mem k=eC k
section
variable {eC mem:Mem} {go N:Nat} {rows:List dr} {ma:Bool}
theorem kr.flag (b:Bool)(h:kr eC go N rows ma mem):kr eC go N rows b (a4 mem 129015 0 [.ref 129035 go 1 0 N,.J (.int .i64 N),.J (.bool b)]):=by
 refine⟨⟨by simp[a4],by simp[a4,h.1.o],λx Q=>?_⟩,λk O=>?_⟩
 ·rw[<-h.1.r x Q];exact ag (show ¬ ((x.1+900000:Nat)=129015) by omega)
 ·rw[<-h.2 k O];exact ag O.2.1
theorem kr.own {k g:Nat}{cs:List R}(O:k=148008\/k=148010\/k=148013)(h:kr eC go N rows ma mem):kr eC go N rows ma (a4 mem k g cs):=by
 have bG:∀j:Nat,j≠k->a4 mem k g cs j=mem j:=λj ai=>ag ai;refine⟨⟨by rw[bG _ (by omega)];exact h.1.m,by rw[bG _ (by omega)];exact h.1.o,λx Q=>by rw[bG _ (by omega)];exact h.1.r x Q⟩,λj ai=>?_⟩
 have:=ai.2;rw[bG _ (by omega)];exact h.2 j ai
theorem kr.set {i:Nat}{x:dr}(c1:j8 N rows)(M:rows[i]?=some x)(l:List bo)(h:kr eC go N rows ma mem):kr eC go N (rows.set i (x.1,x.2.1,l)) ma (a4 mem (x.1+900000) x.2.1 (bc aH l)):=by
 have bG:∀j:Nat,j≠x.1+900000->a4 mem (x.1+900000) x.2.1 (bc aH l) j=mem j:=λj ai=>ag ai;obtain⟨ay,ahs⟩:=dP.1 M;refine⟨⟨by rw[bG _ (by omega)];exact h.1.m,?_,λy av=>?_⟩,λj ai=>?_⟩
 ·rw[bG _ (by omega),h.1.o]
  congr 2
  unfold refsOf;apply pH;intro j;rw[bl,bl,nE]
  by_cases mC:i=j
  ·subst mC;rw[ad rfl,ad ay,M]
   rfl
  ·rw[ag mC]
 ·obtain⟨j,ai⟩:=qz.1 av;rw[nE] at ai
  by_cases mC:i=j
  ·subst mC;rw[ad rfl,ad ay] at ai
   cases ai;simp[a4]
  ·rw[ag mC] at ai
   have aLE:y.1≠x.1:=by
    intro he;have F:(rows.map (·.1))[j]?=some y.1:=by rw[bl,ai];rfl
    have I:(rows.map (·.1))[i]?=some y.1:=by rw[bl,M,he];rfl
    have ar:i<(rows.map (·.1)).length:=by rw[al];exact ay
    exact mC ((aht ar c1.Qy).1 (I.trans F.symm))
   rw[bG (y.1+900000) (by omega)];exact h.1.r y (ec ai)
 ·have:=ai.1;rw[bG j (by omega)];exact h.2 j ai
theorem kr.swap {i j:Nat}{a b:dr}(M:rows[i]?=some a)(ai:rows[j]?=some b)(h:kr eC go N rows ma mem):kr eC go N ((rows.set i b).set j a) ma (a4 (a4 mem 129035 go (refsOf N (rows.set i b))) 129035 go (refsOf N ((rows.set i b).set j a))):=by
 have bG:∀k:Nat,k≠129035->a4 (a4 mem 129035 go (refsOf N (rows.set i b))) 129035 go (refsOf N ((rows.set i b).set j a)) k=mem k:=λk O=>by simp[a4,O]
 refine⟨⟨by rw[bG _ (by omega)];exact h.1.m,by simp[a4],λx Q=>?_⟩,λk O=>?_⟩
 ·rw[bG _ (by omega)];apply h.1.r;rcases Ex Q with Q|rfl
  ·rcases Ex Q with Q|rfl
   ·exact Q
   ·exact ec ai
  ·exact ec M
 ·rw[bG _ O.2.2.1];exact h.2 k O
theorem j8.set {i:Nat}{x:dr}(c1:j8 N rows)(M:rows[i]?=some x){l:List bo}(ar:(D l)=N+1)(aI:∀f∈l,okF f):j8 N (rows.set i (x.1,x.2.1,l)):=by
 obtain⟨ay,ahs⟩:=dP.1 M;refine⟨by rw[hP];exact c1.len,?_,λy av=>?_⟩
 ·have:(rows.set i (x.1,x.2.1,l)).map (·.1)=rows.map (·.1):=by
   rw[HE];apply pH;intro j;rw[nE]
   by_cases mC:i=j
   ·subst mC;rw[ad rfl,al,ad ay,bl,M];rfl
   ·rw[ag mC]
  rw[this];exact c1.Qy
 ·rcases Ex av with av|rfl
  ·exact c1.row y av
  ·exact⟨ar,aI⟩
theorem au0 {α:Type}{l:List α}{i j:Nat}{a b:α}(M:l[i]?=some a)(ai:l[j]?=some b)(h:l.Nodup):((l.set i b).set j a).Nodup:=by
 obtain⟨hU,sW⟩:=dP.1 M;obtain⟨ji,N9⟩:=dP.1 ai
 have main:∀p q,p<q->q<(D l)->((l.set i b).set j a)[p]?≠((l.set i b).set j a)[q]?:=by
  intro p q Qz aT;rw[nE,nE,nE,nE];have inj:∀p q,p<(D l)->l[p]?=l[q]?->p=q:=λp q aF he=>(aht aF h).1 he;simp only[hP]
  by_cases F:j=p
  ·subst F;have I:¬ j=q:=by omega
   rw[ad rfl,ad ji,ag I]
   by_cases af:i=q
   ·subst af;rw[ad rfl,ad hU];intro he;rw[<-M,<-ai] at he;have:=inj _ _ hU he;omega
   ·rw[ag af,<-M];intro he;exact af (inj _ _ hU he)
  ·rw[ag F]
   by_cases af:i=p
   ·subst af;rw[ad rfl,ad hU]
    by_cases I:j=q
    ·subst I;rw[ad rfl,ad ji,<-M,<-ai];intro he;have:=inj _ _ ji he;omega
    ·rw[ag I,ag (by omega),<-ai];intro he;exact I (inj _ _ ji he)
   ·rw[ag af]
    by_cases I:j=q
    ·subst I;rw[ad rfl,ad ji,<-M];intro he;exact af (inj _ _ hU he.symm)
    ·rw[ag I]
     by_cases aO:i=q
     ·subst aO;rw[ad rfl,ad hU,<-ai];intro he;exact F (inj _ _ ji he.symm)
     ·rw[ag aO];intro he;have:=inj _ _ (by omega) he;omega
 refine List.pairwise_iff_getElem.2 λp q aF aT Qz he=>?_;simp only[hP] at aF aT;refine main p q Qz aT ?_;rw[bx (by simpa using aF),bx (by simpa using aT),he]
theorem j8.swap {i j:Nat}{a b:dr}(c1:j8 N rows)(M:rows[i]?=some a)(ai:rows[j]?=some b):j8 N ((rows.set i b).set j a):=by
 refine⟨by rw[hP,hP];exact c1.len,?_,λx Q=>?_⟩
 ·rw[HE,HE];exact au0 (by rw[bl,M];rfl) (by rw[bl,ai];rfl) c1.Qy
 ·rcases Ex Q with Q|rfl
  ·rcases Ex Q with Q|rfl
   ·exact c1.row x Q
   ·exact c1.row _ (ec ai)
  ·exact c1.row _ (ec M)
end
theorem au1 {l:List bo}{i:Nat}{a b c d}(h:l[i]?=some ((a,b),(c,d))):cut (bc aH l) (i*4) 4=some [.J (.int .i64 a),.J (.Y (b.map ae)),.J (.int .i64 c),.J (.Y (d.map ae))]:=by
 have:=Uc nC h (f:=0) (n:=4) (by omega);rw[nZ] at this;rw[this]
 rfl
theorem au2 {N:Nat}{rows:List dr}{i:Nat}{x:dr}(h:rows[i]?=some x):cut (refsOf N rows) i 1=some [.ref (x.1+900000) x.2.1 4 0 (N+1)]:=by
 obtain⟨ay,rfl⟩:=dP.1 h;unfold cut refsOf;rw[ad (by rw[al];omega),<-List.map_drop,im ay]
 rfl
theorem au3 {l m:List bo}(h:bc aH l=bc aH m):l=m:=VU nC m7 _ _ h (by omega)
def nF (f:bo):Bool:=f.1.1==0
def cellOf (x:dr)(c:Nat):bo:=x.2.2.getD c er
def findAt (rows:List dr)(r c:Nat):Nat:=r+(rows.drop r).findIdx λx => !nF (cellOf x c)
def jt (fF:bo):List bo->List bo->Bool->List bo×Bool
 |f::dM,p::ps,false=>((pf f (ob fF p).1).1::(jt fF dM ps ((ob fF p).2 != 0||(pf f (ob fF p).1).2 != 0)).1,(jt fF dM ps ((ob fF p).2 != 0||(pf f (ob fF p).1).2 != 0)).2)
 |dM,_,b=>(dM,b)
def j9 (fV:List bo)(r c:Nat):Nat->List dr->Bool->List dr×Bool
 |_,[],bad=>([],bad)
 |i,x::xs,bad=>if (i==r||nF (cellOf x c))=true then (x::(j9 fV r c (i+1) xs bad).1,(j9 fV r c (i+1) xs bad).2) else
  ((x.1,x.2.1,(jt (cellOf x c) x.2.2 fV bad).1)::(j9 fV r c (i+1) xs (jt (cellOf x c) x.2.2 fV bad).2).1,(j9 fV r c (i+1) xs (jt (cellOf x c) x.2.2 fV bad).2).2)
def hW (LG:bo)(l:List bo):List bo×Bool:=(l.map λf=>(j5 f LG).1,l.any λf=>(j5 f LG).2 != 0)
def rowAt (rows:List dr)(i:Nat):dr:=rows.getD i (0,0,[])
def qR (rows:List dr)(i j:Nat):List dr:=(rows.set i (rowAt rows j)).set j (rowAt rows i)
def Ez (rows:List dr)(r c:Nat):List dr:=rows.set r ((rowAt rows r).1,(rowAt rows r).2.1,(hW (cellOf (rowAt rows r) c) (rowAt rows r).2.2).1)
def iN (rows:List dr)(r c:Nat):Bool×List dr×Bool :=
 if findAt rows r c=(D rows) then (true,rows,false) else
  (false,j9 (hW (cellOf (rowAt (qR rows r (findAt rows r c)) r) c) (rowAt (qR rows r (findAt rows r c)) r).2.2).1 r c 0 (Ez (qR rows r (findAt rows r c)) r c)
   (hW (cellOf (rowAt (qR rows r (findAt rows r c)) r) c) (rowAt (qR rows r (findAt rows r c)) r).2.2).2)
theorem au4 {rows:List dr}{r c i:Nat}{x:dr}(Q:rows[i]?=some x)(ab:r<=i)(aX:∀j y,r<=j->j<i->rows[j]?=some y->nF (cellOf y c)=true)(h:nF (cellOf x c)=false):findAt rows r c=i:=by
 unfold findAt;obtain⟨ay,ahs⟩:=dP.1 Q
 have:(rows.drop r).findIdx (λx => !nF (cellOf x c))=i-r:=by
  rw[List.findIdx_eq (by rw[ry];omega)];refine⟨?_,λj ai=>?_⟩
  ·rw[LZ];have:rows[r+(i-r)]?=some x:=by rw[show r+(i-r)=i by omega];exact Q
   rw[(dP.1 this).2,h];rfl
  ·rw[LZ];have:=aX (r+j) _ (by omega) (by omega) (bx (by omega));rw[this];rfl
 omega
theorem au5 {rows:List dr}{r c:Nat}(ab:r<=D rows)(aX:∀j y,r<=j->rows[j]?=some y->nF (cellOf y c)=true):findAt rows r c=D rows:=by
 unfold findAt
 have:(rows.drop r).findIdx (λx => !nF (cellOf x c))=(rows.drop r).length:=by
  rw[List.findIdx_eq_length];intro y av;obtain⟨j,ai⟩:=qz.1 av;rw[lv] at ai;rw[aX (r+j) y (by omega) ai];rfl
 rw[this,ry];omega
theorem mO {x:Rat}(h:dj x):okF (au x):=⟨nB h.1,nB (xd h)⟩
theorem ur:okF er:=⟨by simp[er],by simp[er]⟩
theorem au6 (p q:Raw):okF (hz p q).1:=by
 unfold hz
 split
 ·rename_i h;rw[e4] at h;obtain⟨x,Q,aC⟩:=(j2 _).1 h.1;obtain⟨y,av,aD⟩:=(j2 _).1 h.2
  split
  ·exact ur
  ·rw[aC,aD,fQ,fQ];exact mO (P1 Q av)
 ·exact ur
theorem YJ (p q:Raw×Int):okF (vV p q).1:=by
 unfold vV
 split
 ·split
  ·exact au6 _ _
  ·exact ur
 ·exact ur
theorem au7 (a b:bo):okF (vW a b).1:=by
 unfold vW
 split
 ·split
  ·exact YJ _ _
  ·exact ur
 ·exact ur
theorem ahu (a b:bo):okF (pf a b).1:=by
 unfold pf
 split
 ·split
  ·exact au7 _ _
  ·exact ur
 ·exact ur
theorem au8 (a b:bo):okF (ob a b).1:=by
 unfold ob
 split
 ·split
  ·exact YJ _ _
  ·exact ur
 ·exact ur
theorem ahv (a b:bo):okF (j5 a b).1:=by
 unfold j5
 split
 ·split
  ·split
   ·exact ur
   ·exact YJ _ _
  ·exact ur
 ·exact ur
theorem YK {x:dr}{c:Nat}{f:bo}(h:x.2.2[c]?=some f):cellOf x c=f:=by
 unfold cellOf;rw[dY,h]
 rfl
theorem xp {rows:List dr}{i:Nat}{x:dr}(h:rows[i]?=some x):rowAt rows i=x:=by
 unfold rowAt;rw[dY,h]
 rfl
theorem HF {l:List bo}{k:Nat}(h:k<D l):(k*4+4<=(bc aH l).length)=True:=eq_true (by rw[oF nC];omega)
theorem HG {l:List bo}{k:Nat}{a b c d}(h:l[k]?=some ((a,b),(c,d))):fN 4 (fT (k*4) (bc aH l))=[.J (.int .i64 a),.J (.Y (b.map ae)),.J (.int .i64 c),.J (.Y (d.map ae))]:=by
 have:=au1 h;unfold cut at this;rw[ad (by rw[oF nC];have:=(dP.1 h).1;omega)] at this;exact o3 this
theorem YL {l:List bo}{k:Nat}(h:k<D l)(a:Int)(b:List Int)(c:Int)(d:List Int):
  fN (k*4) (bc aH l)++[R.J (.int .i64 a),.J (.Y (b.map ae)),.J (.int .i64 c),.J (.Y (d.map ae))]++fT (k*4+4) (bc aH l)=bc aH (l.set k ((a,b),(c,d))):=by
 rw[<-ae1 nC h]
 rfl
theorem EA {N:Nat}{rows:List dr}{i:Nat}(h:i<D rows):(i+1<=(refsOf N rows).length)=True:=eq_true (by unfold refsOf;rw[al];omega)
theorem HH {N:Nat}{rows:List dr}{i:Nat}{x:dr}(h:rows[i]?=some x):fN 1 (fT i (refsOf N rows))=[.ref (x.1+900000) x.2.1 4 0 (N+1)]:=by
 have:=au2 (N:=N) h;unfold cut at this;rw[ad (by unfold refsOf;rw[al];have:=(dP.1 h).1;omega)] at this;exact o3 this
theorem ahw {N:Nat}{rows:List dr}{i:Nat}(h:i<D rows)(b:dr):fN i (refsOf N rows)++[R.ref (b.1+900000) b.2.1 4 0 (N+1)]++fT (i+1) (refsOf N rows)=refsOf N (rows.set i b):=by
 unfold refsOf;rw[HE,List.set_eq_take_append_cons_drop,ad (by rw[al];exact h),gM]
 rfl
theorem ahx (fF:bo):∀(l p:List bo) (b:Bool),(jt fF l p b).1.length=D l
 | [],_,_=>by simp[jt]
 |f::dM,[],b=>by cases b<;>simp[jt]
 |f::dM,p::ps,true=>by simp[jt]
 |f::dM,p::ps,false=>by simp[jt,ahx fF dM ps]
theorem YM (fF:bo)(l p:List bo):jt fF l p true=(l,true):=by
 cases l<;>cases p<;>simp[jt]
theorem ahy (fF:bo)(p:List bo)(b:Bool):jt fF [] p b=([],b):=by
 cases b<;>simp[jt]
theorem au9 {α:Type}(f:α->α){l:List α}{k:Nat}{x:α}(h:l[k]?=some x):((l.take k).map f++l.drop k).set k (f x)=(l.take (k+1)).map f++l.drop (k+1):=by
 obtain⟨ay,Q⟩:=dP.1 h;have ar:((l.take k).map f).length=k:=by rw[al,gf];omega
 rw[EB _ _ (by omega),ar,lV,im ay,v5,hv,h,kR,gM]
 rfl
theorem ava {α:Type}(f:α->α){l:List α}{k:Nat}:((l.take k).map f++l.drop k)[k]?=l[k]?:=by
 rcases il k (D l) with h|h
 ·have ar:((l.take k).map f).length=k:=by rw[al,gf];omega
  rw[ss (by omega),ar,lV,lv,nZ]
 ·rw[kF h,kF (by rw[fH,al,gf,ry];omega)]
theorem YN {α:Type}{rows:List α}{r i:Nat}{x xq:α}(Q:rows[i]?=some x)(pk:rows[r]?=some xq):((rows.set r x).set i xq)[r]?=some x:=by
 have F:=(dP.1 Q).1;have I:=(dP.1 pk).1;rw[nE,nE,hP]
 by_cases h:i=r
 ·subst h;rw[Q] at pk
  cases pk;rw[ad rfl,ad F]
 ·rw[ag h,ad rfl,ad I]
theorem YO {α:Type}{l:List α}{i:Nat}{x:α}(h:l[i]?=some x):l.set i x=l:=by
 obtain⟨ay,Q⟩:=dP.1 h;apply pH;intro j;rw[nE]
 by_cases mC:i=j
 ·subst mC;rw[ad rfl,ad ay,h]
 ·rw[ag mC]
theorem avb (a b:Nat):(!(a+900000==129015)||decide (2<b*4))=true:=by
 have:(a+900000==129015)=false:=by simp
 rw[this];rfl
theorem YP:HD 168004:=by unfold HD;omega
theorem YQ:HD 168006:=by unfold HD;omega
def ez.sub:ez->List Nat->ez
 |.seq a _,0::p=>a.sub p
 |.seq _ b,_::p=>b.sub p
 |.cond _ a _,0::p=>a.sub p
 |.cond _ _ b,_::p=>b.sub p
 |.block _ c,_::p=>c.sub p
 |.ghost _ c,_::p=>c.sub p
 |.loop c,_::p=>c.sub p
 |c,_=>c
def avc (f:bo):List R:=[.J (.int .i64 f.1.1),.J (.Y (f.1.2.map ae)),.J (.int .i64 f.2.1),.J (.Y (f.2.2.map ae))]
theorem avd (T:bd)(xr:T Bx=Cc Am)(hX:T vx=aW yK)(mb:T wS=aW yL){K:eW->bb->Prop}{kk:List gn}
  (go N r c i2:Nat) (mem:Mem) (Ce:mem 168004=none) (Cf:mem 168006=none) (gF:N<=40) (pW:List dr) (sX:j8 N pW) (x y:dr) (fV:List bo) (yR:pW[i2]?=some y) (bC:pW[r]?=some (x.1,x.2.1,fV)) (EC:i2≠r) (uu:r<N) (ma:Bool)
  (cq:Int) (cr:List Int) (g2:Int) (jH:List Int) (mM:okF ((cq,cr),(g2,jH))) (tm:Nat->R) (m:Mem) (bL:Nat)
  (bI:tm 0=.ptr 129015 0 0) (aC:tm 1=.J (.int .i64 r)) (aD:tm 2=.J (.int .i64 c)) (gh:tm 12=.ref (y.1+900000) y.2.1 4 0 (N+1)) (h9:tm 13=.ptr 148013 bL 0) (pX:tm 112=.ref 129035 go 1 0 N) (L0:tm 113=.J (.int .i64 N)) (L1:tm 114=.J (.int .i64 i2)) (HI:tm 14=.J (.int .i64 0))
  (em:m 148013=some (bL,[.J (.int .i64 cq),.J (.Y (cr.map ae)),.J (.int .i64 g2),.J (.Y (jH.map ae))])) (gG:kr mem go N pW ma m)
  (dK:∀tm' m' l b,tm' 0=.ptr 129015 0 0->tm' 1=.J (.int .i64 r)->tm' 2=.J (.int .i64 c)->tm' 112=.ref 129035 go 1 0 N->tm' 113=.J (.int .i64 N)->tm' 114=.J (.int .i64 i2)->(l,b)=jt ((cq,cr),(g2,jH)) y.2.2 fV ma->j8 N (pW.set i2 (y.1,y.2.1,l))->kr mem go N (pW.set i2 (y.1,y.2.1,l)) b m'->cJ T K kk (.exit 6) ⟨tm',m'⟩) :
  wp T (yO.body.sub [1,1,1,1,1,1,1,0,1,0,0,1,1,0,0,1,1,1,1,0]) (cJ T K kk) ⟨tm,m⟩:=by
 simp only[yO,ez.sub];have ave:i2<N:=by rw[<-sX.len];exact (dP.1 yR).1
 obtain⟨zr,QA⟩:=sX.row y (ec yR);have avf:pW.set i2 (y.1,y.2.1,[]++y.2.2.drop 0)=pW:=YO yR
 refine dn [0,1,2,12,13,112,113,114] [148013] (λ((k,pre,b):Nat×List bo×Bool) tm m=>k<=N+1/\D pre=k/\(∀f∈pre,okF f)/\jt ((cq,cr),(g2,jH)) y.2.2 fV ma=(pre++(jt ((cq,cr),(g2,jH)) (y.2.2.drop k) (fV.drop k) b).1,(jt ((cq,cr),(g2,jH)) (y.2.2.drop k) (fV.drop k) b).2)/\tm 14=.J (.int .i64 k)/\kr mem go N (pW.set i2 (y.1,y.2.1,pre++y.2.2.drop k)) b m) (λ(k,_,_)=>N+1-k) (0,[],ma) (by
  refine⟨fv _,rfl,(by simp),rfl,HI,?_⟩;rw[avf];exact gG) ?_
 intro vs ms aV aS;simp only[go_sem,go_sem_proc,bI,aC,aD,gh,h9,pX,L0,L1,em] at aV aS;subst aV aS;clear bI aC aD gh h9 pX L0 L1 em HI gG tm m;rintro⟨ev,pre,b⟩ tm n7 O hm ⟨aLF,BR,HJ,L2,w6,uv⟩;simp only[go_sem,go_sem_proc,ba] at O hm;obtain⟨ao,F,I,h8,n6,sY,sZ,s0⟩:=O;have avg:(pre++y.2.2.drop ev).length=N+1:=by rw[fH,ry];omega
 have HK:j8 N (pW.set i2 (y.1,y.2.1,pre++y.2.2.drop ev)):=sX.set yR avg λf aI=>by
  rw[ko] at aI;rcases aI with aI|aI
  ·exact HJ f aI
  ·exact QA f (Lk aI)
 have ahz:(pW.set i2 (y.1,y.2.1,pre++y.2.2.drop ev))[i2]?=some (y.1,y.2.1,pre++y.2.2.drop ev):=by
  rw[nE,ad rfl,ad (by rw[sX.len];exact ave)]
 have yF:(pW.set i2 (y.1,y.2.1,pre++y.2.2.drop ev))[r]?=some (x.1,x.2.1,fV):=by
  rw[nE,ag EC];exact bC
 have rN:=uv.1.m;have uw:=uv.1.o;rcases dA (ev<N+1) with avh|aLG
 ·have s3:decide ((ev:Int)<((N+1:Nat):Int))=true:=di
  cases b
  ·obtain⟨⟨⟨cT,c7⟩,⟨dZ,fm⟩⟩,ux⟩:∃f,y.2.2[ev]?=some f:=⟨_,bx (by omega)⟩;have aLH:(D fV)=N+1:=(sX.row _ (ec bC)).1;obtain⟨⟨⟨jB,jC⟩,⟨s4,v7⟩⟩,pY⟩:∃f,fV[ev]?=some f:=⟨_,bx (by omega)⟩;have vj:=QA _ (ec ux);have ahA:=(sX.row _ (ec bC)).2 _ (ec pY)
   have YR:(pre++y.2.2.drop ev)[ev]?=some ((cT,c7),(dZ,fm)):=by
    rw[ss (by omega),BR,lV,lv,nZ,ux]
   have jZ:y.2.2.drop ev=((cT,c7),(dZ,fm))::y.2.2.drop (ev+1):=by
    obtain⟨ar,e⟩:=dP.1 ux;rw[im ar,e]
   have mF:fV.drop ev=((jB,jC),(s4,v7))::fV.drop (ev+1):=by
    obtain⟨ar,e⟩:=dP.1 pY;rw[im ar,e]
   have ly:∀s:bo,(pre++y.2.2.drop ev).set ev s=(pre++[s])++y.2.2.drop (ev+1):=λs=>by
    rw[EB _ _ (by omega),BR,lV,jZ,v5,gM];rfl
   have avi:=uv.1.r _ (ec ahz);have avj:=uv.1.r _ (ec yF);have m9:n7 168004=none:=(uv.2 _ YP).trans Ce;have rO:n7 168006=none:=(uv.2 _ YQ).trans Cf;have t1:=HH (N:=N) yF;have t2:=EA (N:=N) (rows:=pW.set i2 (y.1,y.2.1,pre++y.2.2.drop ev)) (i:=r) (by rw[HK.len];exact uu);have t3:=HG YR;have t4:=HF (l:=pre++y.2.2.drop ev) (k:=ev) (by omega);have t5:=HG pY;have t6:=HF (l:=fV) (k:=ev) (by omega);have jE:=ff (i:=ev) (by omega);have YS:=au8 ((cq,cr),(g2,jH)) ((jB,jC),(s4,v7));have yS:=ahu ((cT,c7),(dZ,fm)) (ob ((cq,cr),(g2,jH)) ((jB,jC),(s4,v7))).1;have L3:=L2;rw[jZ,mF] at L3;simp only[jt] at L3;generalize m4:ob ((cq,cr),(g2,jH)) ((jB,jC),(s4,v7))=bh at *;obtain⟨⟨⟨qp,kI⟩,⟨avk,avl⟩⟩,aC⟩:=bh;dsimp only at yS L3 YS;generalize cS:pf ((cT,c7),(dZ,fm)) ((qp,kI),(avk,avl))=S at *;obtain⟨⟨⟨v1,v2⟩,⟨v8,v4⟩⟩,aD⟩:=S;dsimp only at yS L3;have t7:=YL (l:=pre++y.2.2.drop ev) (k:=ev) (by omega) v1 v2 v8 v4;refine a0 ?_;repeat' (intro h<;>simp only[h,go_sem,go_sem_proc,xr,mb,hX,ao,F,I,h8,n6,w6,sY,sZ,s0,hm,rN,uw,avi,avj,m9,rO,t1,t2,t3,t4,t5,t6,t7,s3,avh,uu,jE,m4,cS,vj.1,vj.2,ahA.1,ahA.2,mM.1,mM.2,YS.1,YS.2,avc,ew,aH,cL,Am,L4,v5,decide_true,decide_false,ahB,ne_eq,not_false_eq_true,and_self]<;>try refine aw ?_ ?_)
   have dk:=kr.set HK ahz ((pre++y.2.2.drop ev).set ev ((v1,v2),(v8,v4))) ((uv.flag (aC != 0)).flag (aC != 0||aD != 0));rw[ahC,ly] at dk;refine⟨avb _ _,(ev+1,pre++[((v1,v2),(v8,v4))],(aC != 0||aD != 0)),by dsimp only;omega,by dsimp only;omega,by simp[BR],?_,?_,rfl,?_⟩
   ·intro f aI;rw[ko,uc] at aI;rcases aI with aI|rfl
    ·exact HJ f aI
    ·exact yS
   ·rw[L3];dsimp only;rw[gM]
    rfl
   ·dsimp only;rw[ly];exact dk
  ·rw[YM] at L2;refine a0 ?_;repeat' (intro h<;>simp only[h,go_sem,go_sem_proc,ao,F,I,h8,n6,w6,sY,sZ,s0,rN,uw,s3]<;>try refine aw ?_ ?_)
   refine dK _ _ (pre++y.2.2.drop ev) true ?_ ?_ ?_ ?_ ?_ ?_ L2.symm HK uv<;>simp only[eV,dJ,if_false,ao,F,I,sY,sZ,s0]
 ·have s3:decide ((ev:Int)<((N+1:Nat):Int))=false:=c9;have o5:y.2.2.drop ev=[]:=jQ (by omega);rw[o5,ahy,<-o5] at L2;refine a0 ?_;repeat' (intro h<;>simp only[h,go_sem,go_sem_proc,ao,F,I,h8,n6,w6,sY,sZ,s0,rN,uw,s3]<;>try refine aw ?_ ?_)
  refine dK _ _ (pre++y.2.2.drop ev) b ?_ ?_ ?_ ?_ ?_ ?_ L2.symm HK uv<;>simp only[eV,dJ,if_false,ao,F,I,sY,sZ,s0]
theorem avm (T:bd)(yT:T KN=aW Qr)(xr:T Bx=Cc Am)(hX:T vx=aW yK)(mb:T wS=aW yL){K:eW->bb->Prop}{kk:List gn}
  (go N r c:Nat) (mem:Mem) (Ce:mem 168004=none) (Cf:mem 168006=none) (gF:N<=40) (uu:r<N) (Ao:c<N+1) (iO:List dr) (ED:j8 N iO) (x:dr) (fV:List bo) (w9:iO[r]?=some (x.1,x.2.1,fV)) (HL:Bool) (tm:Nat->R) (m:Mem)
  (bI:tm 0=.ptr 129015 0 0) (aC:tm 1=.J (.int .i64 r)) (aD:tm 2=.J (.int .i64 c)) (pX:tm 112=.ref 129035 go 1 0 N) (L0:tm 113=.J (.int .i64 N)) (L1:tm 114=.J (.int .i64 0)) (gG:kr mem go N iO HL m)
  (dK:∀tm' m',kr mem go N (j9 fV r c 0 iO HL).1 (j9 fV r c 0 iO HL).2 m'->cJ T K kk (.exit 4) ⟨tm',m'⟩) :
  wp T (yO.body.sub [1,1,1,1,1,1,1,0,1,0]) (cJ T K kk) ⟨tm,m⟩:=by
 simp only[yO,ez.sub]
 refine dn [0,1,2,112,113] [] (λ((i2,pZ,ma):Nat×List dr×Bool) tm m=>i2<=N/\D pZ=i2/\j9 fV r c 0 iO HL=(pZ++(j9 fV r c i2 (iO.drop i2) ma).1,(j9 fV r c i2 (iO.drop i2) ma).2)/\j8 N (pZ++iO.drop i2)/\(pZ++iO.drop i2)[r]?=some (x.1,x.2.1,fV)/\tm 114=.J (.int .i64 i2)/\kr mem go N (pZ++iO.drop i2) ma m) (λ(i2,_,_)=>N-i2) (0,[],HL) (by
  exact⟨fv _,rfl,rfl,ED,w9,L1,gG⟩) ?_
 intro vs ms aV aS;simp only[go_sem,go_sem_proc,bI,aC,aD,pX,L0] at aV aS;subst aV aS;clear bI aC aD pX L0 L1 gG tm m;rintro⟨i2,pZ,ma⟩ tm cO O hm ⟨nW,kq,k1,sX,bC,s0,v9⟩;simp only[go_sem,go_sem_proc,ba] at O hm;obtain⟨ao,F,I,sY,sZ⟩:=O;have rN:=v9.1.m;have uw:=v9.1.o;have aLI:(D iO)=N:=ED.len;rcases dA (i2<N) with HM|aLJ
 ·obtain⟨y,av⟩:∃y,iO[i2]?=some y:=⟨_,bx (by omega)⟩
  have G9:iO.drop i2=y::iO.drop (i2+1):=by
   obtain⟨ar,rfl⟩:=dP.1 av;exact im ar
  have yR:(pZ++iO.drop i2)[i2]?=some y:=by
   rw[ss (by omega),kq,lV,lv,nZ,av]
  obtain⟨zr,QA⟩:=sX.row y (ec yR);have L5:=v9.1.r y (ec yR);obtain⟨⟨⟨cq,cr⟩,⟨g2,jH⟩⟩,a7⟩:∃f,y.2.2[c]?=some f:=⟨_,bx (by omega)⟩;have xb:=YK a7;have t1:=HH (N:=N) yR;have t2:=EA (N:=N) (rows:=pZ++iO.drop i2) (i:=i2) (by rw[sX.len];exact HM);have t3:=HG a7;have t4:=HF (l:=y.2.2) (k:=c) (by omega);have hU:decide ((i2:Int)<(N:Int))=true:=di;have hw:=ff (i:=i2) (by omega)
  have zq:∀z:dr,(pZ++[z])++iO.drop (i2+1)=(pZ++iO.drop i2).set i2 z:=λz=>by
   rw[EB _ _ (by omega),kq,lV,G9,v5,gM];rfl
  have HN:(pZ++[y])++iO.drop (i2+1)=pZ++iO.drop i2:=by rw[zq];exact YO yR
  have ahD:∀b:Bool,(b=true->i2=r\/(cq==0)=true)->b=true->j9 fV r c 0 iO HL=((pZ++[y])++(j9 fV r c (i2+1) (iO.drop (i2+1)) ma).1,(j9 fV r c (i2+1) (iO.drop (i2+1)) ma).2):=by
   intro b ah Yq
   have YT:(i2==r||nF (cellOf y c))=true:=by
    rcases ah Yq with h|h
    ·rw[h,beq_self_eq_true];rfl
    ·rw[xb];have:nF ((cq,cr),(g2,jH))=true:=h;rw[this,Bool.or_true]
   rw[k1,G9];simp only[j9];rw[ad YT,gM]
   rfl
  rcases p0:((i2:Int)==(r:Int))
  ·have EC:i2≠r:=by intro h;rw[h] at p0;simp at p0
   rcases L6:(cq==0)
   ·have mM:okF ((cq,cr),(g2,jH)):=QA _ (ec a7);simp only[go_sem,go_sem_proc,yT,ao,F,I,sY,sZ,s0,rN,uw,L5,t1,t2,t3,t4,HM,hU,Ao,p0,L6,cL];refine avd T xr hX mb go N r c i2 mem Ce Cf gF (pZ++iO.drop i2) sX x y fV yR bC EC uu ma cq cr g2 jH mM _ _ (gD (cO 148013)) ?_ ?_ ?_ ?_ ?_ ?_ ?_ ?_ ?_ ?_ ((v9.own (.inr (.inr rfl))).own (.inr (.inr rfl))) ?_
    ·exact ao
    ·exact F
    ·exact I
    ·rfl
    ·rfl
    ·exact sY
    ·exact sZ
    ·exact s0
    ·rfl
    ·simp[a4]
    ·intro tm' m' l b fE cd c0 L7 ahE ahF kL HK uv;simp only[go_sem,go_sem_proc,ao,F,I,fE,cd,c0,L7,ahE,ahF,hw];repeat' (first|refine aw ?_ ?_|fail)<;>intro h<;>simp only[h,go_sem,go_sem_proc,ao,F,I,fE,cd,c0,L7,ahE,ahF,hw]
     refine⟨(i2+1,pZ++[(y.1,y.2.1,l)],b),by dsimp only;omega,by dsimp only;omega,by simp[kq],?_,by dsimp only;rw[zq];exact HK,by dsimp only;rw[zq,nE,ag EC];exact bC,rfl,?_⟩
     ·have YT:¬ (i2==r||nF (cellOf y c))=true:=by
       rw[xb];have F:nF ((cq,cr),(g2,jH))=false:=L6;have I:(i2==r)=false:=by simpa using EC
       rw[F,I];simp
      rw[k1,G9];simp only[j9];rw[ag YT,xb,<-kL,gM]
      rfl
     ·dsimp only;rw[zq];exact uv
   ·simp only[go_sem,go_sem_proc,yT,ao,F,I,sY,sZ,s0,rN,uw,L5,t1,t2,t3,t4,HM,hU,Ao,hw,p0,L6,cL];repeat' (first|refine aw ?_ ?_|fail)<;>intro h<;>simp only[h,go_sem,go_sem_proc,yT,ao,F,I,sY,sZ,s0,rN,uw,L5,t1,t2,t3,t4,HM,hU,Ao,hw,p0,L6,cL]
    refine⟨(i2+1,pZ++[y],ma),by dsimp only;omega,by dsimp only;omega,by simp[kq],ahD true (λ_ => .inr L6) rfl,by dsimp only;rw[HN];exact sX,by dsimp only;rw[HN];exact bC,rfl,?_⟩
    dsimp only;rw[HN];exact (v9.own (.inr (.inr rfl))).own (.inr (.inr rfl))
  ·have EC:i2=r:=by have h:=beq_iff_eq.1 p0;omega
   simp only[go_sem,go_sem_proc,yT,ao,F,I,sY,sZ,s0,rN,uw,L5,t1,t2,t3,t4,HM,hU,Ao,hw,p0,cL];repeat' (first|refine aw ?_ ?_|fail)<;>intro h<;>simp only[h,go_sem,go_sem_proc,yT,ao,F,I,sY,sZ,s0,rN,uw,L5,t1,t2,t3,t4,HM,hU,Ao,hw,p0,cL]
   refine⟨(i2+1,pZ++[y],ma),by dsimp only;omega,by dsimp only;omega,by simp[kq],ahD true (λ_ => .inl EC) rfl,by dsimp only;rw[HN];exact sX,by dsimp only;rw[HN];exact bC,rfl,?_⟩
   dsimp only;rw[HN];exact (v9.own (.inr (.inr rfl))).own (.inr (.inr rfl))
 ·have cD:i2=N:=by omega
  have hU:decide ((i2:Int)<(N:Int))=false:=c9;have Ox:iO.drop i2=[]:=jQ (by omega);rw[Ox] at k1 v9;simp only[j9,fC] at k1 v9;rw[k1] at dK;simp only[go_sem,go_sem_proc,ao,F,I,sY,sZ,s0,rN,uw,hU];repeat' (first|refine aw ?_ ?_|fail)<;>intro h<;>simp only[h,go_sem,go_sem_proc,ao,F,I,sY,sZ,s0,rN,uw,hU]
  exact dK _ _ v9
theorem avn (T:bd)(xr:T Bx=Cc Am)(pn:T DJ=aW Ep){K:eW->bb->Prop}{kk:List gn}
  (go N r c:Nat) (mem:Mem) (Ce:mem 168004=none) (Cf:mem 168006=none) (gF:N<=40) (uu:r<N) (ia:List dr) (HO:j8 N ia) (x:dr) (yU:ia[r]?=some x) (f1:Int) (f2:List Int) (f3:Int) (f4:List Int) (lA:okF ((f1,f2),(f3,f4))) (tm:Nat->R) (m:Mem) (bL:Nat)
  (bI:tm 0=.ptr 129015 0 0) (aC:tm 1=.J (.int .i64 r)) (aD:tm 2=.J (.int .i64 c)) (dE:tm 8=.ptr 148008 bL 0) (ahG:tm 85=.ref (x.1+900000) x.2.1 4 0 (N+1)) (ahH:tm 86=.J (.int .i64 ((N+1:Nat):Int))) (ahI:tm 87=.J (.int .i64 0))
  (em:m 148008=some (bL,[.J (.int .i64 f1),.J (.Y (f2.map ae)),.J (.int .i64 f3),.J (.Y (f4.map ae))])) (gG:kr mem go N ia false m)
  (dK:∀tm' m',tm' 0=.ptr 129015 0 0->tm' 1=.J (.int .i64 r)->tm' 2=.J (.int .i64 c)->j8 N (ia.set r (x.1,x.2.1,(hW ((f1,f2),(f3,f4)) x.2.2).1))->kr mem go N (ia.set r (x.1,x.2.1,(hW ((f1,f2),(f3,f4)) x.2.2).1)) (hW ((f1,f2),(f3,f4)) x.2.2).2 m'->cJ T K kk (.exit 2) ⟨tm',m'⟩) :
  wp T (yO.body.sub [1,1,1,1,1,1,0,1,0]) (cJ T K kk) ⟨tm,m⟩:=by
 simp only[yO,ez.sub];obtain⟨tu,HP⟩:=HO.row x (ec yU)
 have avo:∀l:List bo,(ia.set r (x.1,x.2.1,l))[r]?=some (x.1,x.2.1,l):=λl=>by
  rw[nE,ad rfl,ad (by rw[HO.len];exact uu)]
 refine dn [0,1,2,8,85,86] [148008] (λ(k:Nat) tm m=>k<=N+1/\tm 87=.J (.int .i64 k)/\kr mem go N (ia.set r (x.1,x.2.1,(x.2.2.take k).map (λf=>(j5 f ((f1,f2),(f3,f4))).1)++x.2.2.drop k)) ((x.2.2.take k).any λf=>(j5 f ((f1,f2),(f3,f4))).2 != 0) m) (λk=>N+1-k) 0 (by
  refine⟨fv _,ahI,?_⟩;have e:ia.set r (x.1,x.2.1,(x.2.2.take 0).map (λf=>(j5 f ((f1,f2),(f3,f4))).1)++x.2.2.drop 0)=ia:=YO yU;rw[e];exact gG) ?_
 intro vs ms aV aS;simp only[go_sem,go_sem_proc,bI,aC,aD,dE,ahG,ahH,em] at aV aS;subst aV aS;clear bI aC aD dE ahG ahH ahI em gG tm m;rintro k tm m O hm ⟨oN,ahJ,gG⟩;simp only[go_sem,go_sem_proc,ba] at O hm;obtain⟨ao,F,I,cl,ahK,ahL⟩:=O
 have dq:((x.2.2.take k).map (λf=>(j5 f ((f1,f2),(f3,f4))).1)++x.2.2.drop k).length=N+1:=by
  rw[fH,al,gf,ry];omega
 have ED:j8 N (ia.set r (x.1,x.2.1,(x.2.2.take k).map (λf=>(j5 f ((f1,f2),(f3,f4))).1)++x.2.2.drop k)):=by
  refine HO.set yU dq λf aI=>?_;rw[ko] at aI;rcases aI with aI|aI
  ·obtain⟨g6,-,rfl⟩:=ek.1 aI;exact ahv _ _
  ·exact HP f (Lk aI)
 have w9:=avo ((x.2.2.take k).map (λf=>(j5 f ((f1,f2),(f3,f4))).1)++x.2.2.drop k);rcases dA (k<N+1) with QB|avp
 ·obtain⟨⟨⟨cT,c7⟩,⟨dZ,fm⟩⟩,ux⟩:∃f,x.2.2[k]?=some f:=⟨_,bx (by omega)⟩;have YR:=(ava (λf=>(j5 f ((f1,f2),(f3,f4))).1) (l:=x.2.2) (k:=k)).trans ux;have ly:=au9 (λf=>(j5 f ((f1,f2),(f3,f4))).1) ux
  have Ku:(x.2.2.take (k+1)).any (λf=>(j5 f ((f1,f2),(f3,f4))).2 != 0)=((x.2.2.take k).any (λf=>(j5 f ((f1,f2),(f3,f4))).2 != 0)||(j5 ((cT,c7),(dZ,fm)) ((f1,f2),(f3,f4))).2 != 0):=by
   rw[hv,ux,List.any_append];simp
  obtain⟨avq,avr⟩:=HP _ (ec ux);generalize (x.2.2.take k).map (λf=>(j5 f ((f1,f2),(f3,f4))).1)++x.2.2.drop k=cur at *;generalize ((x.2.2.take k).any λf=>(j5 f ((f1,f2),(f3,f4))).2 != 0)=ma at *;have rN:=gG.1.m;have uw:=gG.1.o;have avs:=gG.1.r _ (ec w9);have m9:m 168004=none:=(gG.2 _ YP).trans Ce;have rO:m 168006=none:=(gG.2 _ YQ).trans Cf;have t1:=HH (N:=N) w9;have t2:=EA (N:=N) (rows:=ia.set r (x.1,x.2.1,cur)) (i:=r) (by rw[ED.len];exact uu);have t3:=HG YR;have t4:=HF (l:=cur) (k:=k) (by omega);have s3:decide ((k:Int)<((N+1:Nat):Int))=true:=di;have hw:=ff (i:=k) (by omega);generalize rA:j5 ((cT,c7),(dZ,fm)) ((f1,f2),(f3,f4))=V at *;obtain⟨⟨⟨v1,v2⟩,⟨v8,v4⟩⟩,ui⟩:=V;dsimp only at ly Ku;have t5:=YL (l:=cur) (k:=k) (by omega) v1 v2 v8 v4;refine a0 ?_;repeat' (intro h<;>simp only[h,go_sem,go_sem_proc,xr,pn,ao,F,I,cl,ahK,ahL,ahJ,hm,rN,uw,avs,m9,rO,t1,t2,t3,t4,t5,s3,QB,uu,hw,rA,avq,avr,lA.1,lA.2,ew,aH,cL,Am,L4,v5,decide_true,decide_false,ahB,ne_eq,not_false_eq_true,and_self]<;>try refine aw ?_ ?_)
  have aC:=kr.set ED w9 (cur.set k ((v1,v2),(v8,v4))) (((gG.own (k:=148010) (g:=gD (m 148010)) (cs:=[R.J (Data.int IntKind.i64 0),R.nil,R.J (Data.int IntKind.i64 0),R.nil]) (.inr (.inl rfl))).own (k:=148010) (g:=gD (m 148010)) (cs:=[R.J (Data.int IntKind.i64 cT),R.J (Data.Y (yV ae c7)),R.J (Data.int IntKind.i64 dZ),R.J (Data.Y (yV ae fm))]) (.inr (.inl rfl))).flag (ma||ui != 0));rw[ahC,ly] at aC;refine⟨k+1,by omega,by omega,rfl,?_⟩
  show kr mem go N _ ((x.2.2.take (k+1)).any λf=>(j5 f ((f1,f2),(f3,f4))).2 != 0) _;rw[Ku,ly];exact aC
 ·have L8:k=N+1:=by omega
  have avt:(x.2.2.take k).map (λf=>(j5 f ((f1,f2),(f3,f4))).1)++x.2.2.drop k=(hW ((f1,f2),(f3,f4)) x.2.2).1:=by
   unfold hW;rw[dy (by omega),jQ (by omega),fC]
  have avu:((x.2.2.take k).any λf=>(j5 f ((f1,f2),(f3,f4))).2 != 0)=(hW ((f1,f2),(f3,f4)) x.2.2).2:=by
   unfold hW;rw[dy (by omega)]
  rw[avt] at ED gG;rw[avu] at gG;have s3:decide ((k:Int)<((N+1:Nat):Int))=false:=c9;refine a0 ?_;repeat' (intro h<;>simp only[h,go_sem,go_sem_proc,ao,F,I,cl,ahK,ahL,ahJ,hm,s3]<;>try refine aw ?_ ?_)
  refine dK _ _ ?_ ?_ ?_ ED gG<;>simp only[eV,dJ,if_false,ao,F,I]
theorem avv (T:bd)(yT:T KN=aW Qr)(xr:T Bx=Cc Am)(pn:T DJ=aW Ep)(hX:T vx=aW yK)(mb:T wS=aW yL)
  (go N:Nat) (rows:List dr) (r c:Nat) (eC:Mem) (c1:j8 N rows) (cp:An go N rows false eC) (Ce:eC 168004=none) (Cf:eC 168006=none) (gF:N<=40) (lx:r<=c) (avw:c<N) :
  wp T yO.body (oe yO.res λm mem'=>m=.J (.bool (iN rows r c).1)/\kr eC go N (iN rows r c).2.1 (iN rows r c).2.2 mem') ⟨km [.ptr 129015 0 0,.J (.int .i64 r),.J (.int .i64 c)],eC⟩:=by
 refine qs ?_;simp only[yO];simp only[go_sem,go_sem_proc];refine dn [0,1,2] [] (λ(i:Nat) tm mem=>r<=i/\i<=N/\(∀j y,r<=j->j<i->rows[j]?=some y->nF (cellOf y c)=true)/\tm 7=.J (.int .i64 i)/\mem=eC) (λi=>N-i) r (by refine⟨bZ _,by omega,λj y F I=>by omega,rfl,rfl⟩) ?_;intro vs ms aV aS;simp only[go_sem,go_sem_proc] at aV aS;subst aV aS;rintro i tm mem O hm ⟨iv,ahM,aX,bP,rfl⟩;simp only[go_sem,go_sem_proc,ba] at O hm;obtain⟨ao,F,I⟩:=O;have uy:=cp.m;have L9:=cp.o;have hlen:=c1.len;rcases dA (i<N) with ay|cj
 ·have Q:∃x,rows[i]?=some x:=⟨_,bx (by omega)⟩;obtain⟨x,Q⟩:=Q;obtain⟨tu,HP⟩:=c1.row x (ec Q);have Cg:=cp.r x (ec Q);have aI:∃f,x.2.2[c]?=some f:=⟨_,bx (by omega)⟩;obtain⟨⟨⟨f1,f2⟩,⟨f3,f4⟩⟩,aI⟩:=aI;have ahN:=HH (N:=N) Q;have ahO:=EA (N:=N) (rows:=rows) (i:=i) (by omega);have ahP:=HG aI;have ahQ:=HF (l:=x.2.2) (k:=c) (by omega);have o0:=YK aI;have hn:decide ((i:Int)<(N:Int))=true:=di;have Ao:c<N+1:=by omega
  rcases qB:(f1==0)
  ·have avx:findAt rows r c=i:=au4 Q iv aX (by rw[o0];exact qB);obtain⟨xq,pk⟩:∃x,rows[r]?=some x:=⟨_,bx (by omega)⟩
   have ka:iN rows r c=(false,j9 (hW ((f1,f2),(f3,f4)) x.2.2).1 r c 0 (((rows.set r x).set i xq).set r (x.1,x.2.1,(hW ((f1,f2),(f3,f4)) x.2.2).1)) (hW ((f1,f2),(f3,f4)) x.2.2).2):=by
    unfold iN Ez;rw[ag (by omega),avx];have:rowAt (qR rows r i) r=x:=xp (by unfold qR;rw[xp Q,xp pk];exact YN Q pk);rw[this,o0];unfold qR;rw[xp Q,xp pk]
   rw[ka];clear ka;have HO:j8 N ((rows.set r x).set i xq):=c1.swap pk Q;have avy:kr mem go N ((rows.set r x).set i xq) false _:=kr.swap pk Q ⟨cp,λ_ _=>rfl⟩;have yU:((rows.set r x).set i xq)[r]?=some x:=YN Q pk;have uu:r<N:=by omega
   have s1:=HH (N:=N) pk;have s2:=EA (N:=N) (rows:=rows) (i:=r) (by omega);have cM:=ahw (N:=N) (rows:=rows) (i:=r) (by omega) x;have cX:=EA (N:=N) (rows:=rows.set r x) (i:=i) (by rw[hP];omega);have avz:=ahw (N:=N) (rows:=rows.set r x) (i:=i) (by rw[hP];omega) xq;have avA:=HH (N:=N) yU;have avB:=EA (N:=N) (rows:=(rows.set r x).set i xq) (i:=r) (by rw[hP,hP];omega);generalize Ap:(rows.set r x).set i xq=ia at *;have lA:=HP _ (ec aI);have aLK:decide ((i:Int)<(N:Int))=true:=hn;have avC:((i:Int)==(N:Int))=false:=by simp;omega
   simp only[go_sem,go_sem_proc,yT,xr,ao,F,I,bP,uy,L9,Cg,ahN,ahO,ahP,ahQ,ay,hn,Ao,qB,cL,uu,s1,s2,cM,cX,avz,avA,avB,avC];refine avn T xr pn go N r c mem Ce Cf gF uu ia HO x yU f1 f2 f3 f4 lA _ _ (gD (mem 148008)) ?_ ?_ ?_ ?_ ?_ ?_ ?_ ?_ ((avy.own (.inl rfl)).own (.inl rfl)) ?_
   ·exact ao
   ·exact F
   ·exact I
   ·rfl
   ·rfl
   ·rfl
   ·rfl
   ·simp[a4]
   intro tm' m' fE cd c0 sX v9;have rN:=v9.1.m
   have bC:(ia.set r (x.1,x.2.1,(hW ((f1,f2),(f3,f4)) x.2.2).1))[r]?=some (x.1,x.2.1,(hW ((f1,f2),(f3,f4)) x.2.2).1):=by
    rw[nE,ad rfl,ad (by rw[HO.len];exact uu)]
   simp only[go_sem,go_sem_proc,fE,cd,c0,rN];refine avm T yT xr hX mb go N r c mem Ce Cf gF uu Ao _ sX x _ bC _ _ _ ?_ ?_ ?_ ?_ ?_ ?_ v9 ?_
   ·exact fE
   ·exact cd
   ·exact c0
   ·rfl
   ·rfl
   ·rfl
   intro aLL n7 uv;refine a0 ?_;repeat' (intro h<;>simp only[h,go_sem,go_sem_proc]<;>try refine aw ?_ ?_)
   exact⟨_,rfl,rfl,uv⟩
  ·have hw:=ff (i:=i) (by omega);refine a0 ?_;repeat' (intro h<;>simp only[h,go_sem,go_sem_proc,yT,xr,ao,F,I,bP,uy,L9,Cg,ahN,ahO,ahP,ahQ,ay,hn,Ao,qB,hw,cL]<;>try refine aw ?_ ?_)
   refine⟨i+1,by omega,by omega,by omega,?_,rfl⟩
   intro j y avD vp av
   by_cases h4:j=i
   ·subst h4;rw[Q] at av
    cases av;rw[o0];exact qB
   ·exact aX j y avD (by omega) av
 ·have avE:i=N:=by omega
  subst avE;have hn:decide ((i:Int)<(i:Int))=false:=c9;have uz:=au5 (rows:=rows) (r:=r) (c:=c) (by omega) (λj y ai av=>aX j y ai (by have:=(dP.1 av).1;omega) av);have aF:iN rows r c=(true,rows,false):=by unfold iN;rw[ad uz]
  rw[aF];refine a0 ?_;repeat' (intro h<;>simp only[h,go_sem,go_sem_proc,yT,xr,ao,F,I,bP,uy,L9,hn,beq_self_eq_true]<;>try refine aw ?_ ?_)
  exact⟨_,rfl,rfl,cp,λ_ _=>rfl⟩
structure QC where
 go:Nat
 N:Nat
 rows:List dr
 r:Nat
 c:Nat
def YU (a:QC)(mem:Mem):Prop:=j8 a.N a.rows/\An a.go a.N a.rows false mem/\mem 168004=none/\mem 168006=none/\a.N<=40/\a.r<=a.c/\a.c<a.N
def YV (a:QC)(mem:Mem):R->Mem->Prop:=λm mem'=>m=.J (.bool (iN a.rows a.r a.c).1)/\kr mem a.go a.N (iN a.rows a.r a.c).2.1 (iN a.rows a.r a.c).2.2 mem'
def Ma:List R->Mem->Option (R->Mem->Prop):=uq (λ(a:QC) args mem=>args=[.ptr 129015 0 0,.J (.int .i64 a.r),.J (.int .i64 a.c)]/\YU a mem) YV
theorem avF {N:Nat}{a b:List dr}(h:refsOf N a=refsOf N b):a.map (λx=>(x.1,x.2.1))=b.map λx=>(x.1,x.2.1):=by
 induction a generalizing b with
 |nil=>cases b with
  |nil=>rfl
  |cons y r=>simp[refsOf] at h
 |cons x a az=>cases b with
  |nil=>simp[refsOf] at h
  |cons y b =>
   simp only[refsOf,eG,ba,R.ref.injEq] at h;have F:x.1=y.1:=by have:=h.1.1;simp only[Key] at this;omega
   simp only[eG,ba,fb];exact⟨⟨F,h.1.2.1⟩,az h.2⟩
theorem avG (a:QC)(mem:Mem)(h:YU a mem):Ma [.ptr 129015 0 0,.J (.int .i64 a.r),.J (.int .i64 a.c)] mem=some (YV a mem):=by
 unfold Ma;refine LW (a:=a) ?_ ⟨rfl,h⟩;rintro a b args mem ⟨F,I,af,_⟩ ⟨aO,bm,bK,_⟩;rw[F] at aO;simp only[ba,R.J.injEq,Data.int.injEq,true_and,and_true] at aO;have hm:=af.m;rw[bK.m] at hm;simp only[cn,fb,ba,R.ref.injEq,true_and,and_true] at hm;obtain⟨⟨a7,aL⟩,-⟩:=hm;have bO:=af.o;rw[bK.o] at bO;simp only[cn,fb] at bO;obtain⟨dU,aLM,YW,cT,c7⟩:=a;obtain⟨aLN,aLO,YX,dh,eK⟩:=b;dsimp only at *;subst a7 aL
 have ab:YX=YW:=by
  have bP:=avF bO.2;have ar:(D YX)=D YW:=by have:=congrArg D bP;simpa using this
  apply List.ext_getElem ar;intro i ri nW;have cl:(YX.map λx=>(x.1,x.2.1))[i]?=(YW.map λx=>(x.1,x.2.1))[i]?:=by rw[bP]
  rw[bl,bl,bx ri,bx nW] at cl;simp only[lB,cn,fb] at cl;have fc:=bK.r _ (o1 ri);have ep:=af.r _ (o1 nW);rw[cl.1,ep] at fc;simp only[cn,fb] at fc;have:=au3 fc.2;exact dT cl.1 (dT cl.2 this.symm)
 subst ab;have aC:cT=dh:=by omega
 have aD:c7=eK:=by omega
 subst aC aD
 rfl
theorem avH {args:List R}{mem:Mem}{bU:R->Mem->Prop}(h:Ma args mem=some bU):∃a,args=[.ptr 129015 0 0,.J (.int .i64 a.r),.J (.int .i64 a.c)]/\YU a mem/\bU=YV a mem:=by
 obtain⟨a,⟨F,I⟩,af⟩:=Ey h;exact⟨a,F,I,af⟩
theorem ahR (l:List bo):((l.map aH).all λe=>D e==4)=true:=by simp[aH]
abbrev YY:List bo->List Data:=λ(l:List bo)=>[.Y (l.map aH)]
def QD:=ck YY λ(l:List bo)=>cR (D l<=1000000) (.own 4 (l.map aH))
theorem avI:∀a b,YY a=YY b->a=b:=by
  intro dW ak h;exact map_inj m7 _ _ (by simpa using h)
@[go_sem] theorem aLP (l:List bo)(H:(D l)<=1000000):QD [.Y (l.map aH)]=some (.own 4 (l.map aH)):=(cx avI l).trans (cW H _)
theorem avJ (T:bd)  (l:List bo) (H:(D l)<=1000000):WP T VK (.own 4 (l.map aH)) [.J (.Y (l.map aH))]:=by
 refine cy ?_;simp only[VK]
 have dC:mx 147005 0 4 0 64 (D l) ((l.map aH).flatten.map .J) (some (0,[]))=some (.ref 147005 1 4 0 (D l),some (147005,1,bc aH l)):=by
  have:=Dx nC Hl 147005 0 64 [] l (by simp;omega) (by simp;omega)
  simpa [bc] using this
 have hlen:(bc aH l).length=D l*4:=oF nC l;refine a0 ?_;repeat' (intro h<;>simp only[h,go_sem,go_sem_proc,ahR,dC,al]<;>try refine aw ?_ ?_)
 rintro b ah
 cases b
 ·refine a0 ?_;repeat' (intro h<;>simp only[h,go_sem,go_sem_proc,ahR,dC,al,rr,hlen]<;>try refine aw ?_ ?_)
  rw[ad (by omega),dy (by omega)];unfold bc;rw[tP _ λd=>rfl];have:=ym (sz:=4) (l.map aH) (by intro e he;obtain⟨f,-,rfl⟩:=ek.1 he;rfl);rw[al] at this;simp[this]
 ·cases l with
  |nil =>
       refine a0 ?_;repeat' (intro h<;>simp only[h,go_sem,go_sem_proc,rr,cV]<;>try refine aw ?_ ?_)
  |cons x r=>simp at ah
def hA (rs:List e1):List dr:=rs.zipIdx.map λp=>(p.2,0,p.1.1++[p.1.2])
theorem EE (rs:List e1):(hA rs).length=D rs:=by simp[hA]
theorem ahS {rs:List e1}{i:Nat}{r:e1}(h:rs[i]?=some r):(hA rs)[i]?=some (i,0,r.1++[r.2]):=by
 unfold hA;rw[bl,YZ,h];simp
theorem Y0 {rs:List e1}{i:Nat}{r:e1}(h:rs[i]?=some r):(hA rs).take (i+1)=(hA rs).take i++[(i,0,r.1++[r.2])]:=by
 rw[hv,ahS h]
 rfl
theorem avK {rs:List e1}{i:Nat}{x:dr}(h:x∈(hA rs).take i):x.1<i/\x.2.1=0:=by
 obtain⟨j,ai⟩:=qz.1 h;rw[List.getElem?_take] at ai
 split at ai
 ·rename_i h4;unfold hA at ai;rw[bl,YZ] at ai
  cases ab:rs[j]? with
  |none=>rw[ab] at ai;cases ai
  |some r =>
   rw[ab] at ai;simp only[lB,cn] at ai;subst ai;exact⟨by simpa using h4,rfl⟩
 ·cases ai
theorem avL (N:Nat)(a b:List dr):refsOf N (a++b)=refsOf N a++refsOf N b:=by simp[refsOf]
theorem HR (N:Nat)(a:List dr):(refsOf N a).length=D a:=by simp[refsOf]
structure Aq (N:Nat) (rs:List e1) (i go:Nat) (mem:Mem):Prop where
 z:i=0->mem 129015=some (0,[.nil,.J (.int .i64 N),.J (.bool false)])
 p:0<i->mem 129015=some (0,[.ref 129035 go 1 0 i,.J (.int .i64 N),.J (.bool false)])/\mem 129035=some (go,refsOf N ((hA rs).take i))
 r:∀x∈(hA rs).take i,mem (x.1+900000)=some (x.2.1,bc aH x.2.2)
 n:∀j:Nat,i<=j->mem (j+900000)=none
 a:mem 168004=none
 b:mem 168006=none
theorem ahT (l:List bo):(l.map aH).flatten.map R.J=bc aH l:=rfl
theorem avM (bL:Nat)(l:List bo)(v1:Int)(v2:List Int)(v8:Int)(v4:List Int)(h:(D l)<=1000000):mx 129029 bL 4 (D l) 64 1 [.J (.int .i64 v1),.J (.Y (v2.map ae)),.J (.int .i64 v8),.J (.Y (v4.map ae))] (some (bL,bc aH l))=some (.ref 129029 (bL+1) 4 0 (D l+1),some (129029,bL+1,bc aH (l++[((v1,v2),(v8,v4))]))) :=
 l3 nC Hl 129029 bL 64 l ((v1,v2),(v8,v4)) rfl (by omega) (by omega)
theorem avN (N bL i g:Nat)(a:List dr)(M:(D a)=i)(h:i<=1000)(m:R)(hm:m=.ref 129029 g 4 0 (N+1)):mx 129035 bL 1 i 24 1 [m] (some (bL,refsOf N a))=some (.ref 129035 (bL+1) 1 0 (i+1),some (129035,bL+1,refsOf N a++[m])):=by
 subst hm;unfold mx;dsimp only;rw[ad ⟨rfl,by rw[HR];omega,by omega,by unfold maxLen;omega,rfl⟩,dy (by rw[HR];omega)]
theorem avO {N i go go' bL:Nat}{rs:List e1}{r:e1}{m m':Mem}(ah:Aq N rs i go m)(ab:rs[i]?=some r)(vR:m' 129015=some (0,[.ref 129035 go' 1 0 (i+1),.J (.int .i64 N),.J (.bool false)]))(aI:∀k:Nat,900000<=k\/k=168004\/k=168006->m' k=m k):
  Aq N rs (i+1) go' (a4 (a4 (a4 m' 129029 (bV m' 129029) []) (i+900000) (bV m' (i+900000)) (bc aH (r.1++[r.2]))) 129035 go' ((refsOf N ((hA rs).take i)++[R.ref 129029 bL 4 0 (N+1)]).set i (R.ref (i+900000) (bV m' (i+900000)) 4 0 (N+1)))):=by
 have ay:=(dP.1 ab).1
 have a7:bV m' (i+900000)=0:=by
  unfold bV;rw[aI _ (.inl (by omega)),ah.n i (bZ _)]
 have po:(refsOf N ((hA rs).take i)).length=i:=by rw[HR,gf,EE];omega
 rw[a7]
 have mP:(refsOf N ((hA rs).take i)++[R.ref 129029 bL 4 0 (N+1)]).set i (.ref (i+900000) 0 4 0 (N+1))=refsOf N ((hA rs).take (i+1)):=by
  rw[EB _ _ (by omega),po,lV,v5,Y0 ab,avL]
  rfl
 rw[mP];have Mb:∀(k:Nat),k≠129029->k≠129035->k≠i+900000->a4 (a4 (a4 m' 129029 (bV m' 129029) []) (i+900000) 0 (bc aH (r.1++[r.2]))) 129035 go' (refsOf N ((hA rs).take (i+1))) k=m' k:=λk F I af=>by simp[a4,F,I,af]
 refine⟨λh=>by omega,λ_=>⟨by rw[Mb _ (by omega) (by omega) (by omega)];exact vR,by simp[a4]⟩,λx Q=>?_,λj ai=>?_,?_,?_⟩
 ·rw[Y0 ab,ko,uc] at Q;rcases Q with Q|rfl
  ·obtain⟨oH,uf⟩:=avK Q;rw[Mb _ (by omega) (by omega) (by omega),aI _ (.inl (by omega))];exact ah.r x Q
  ·have I:(i+900000:Nat)≠129035:=by omega
   simp[a4]
 ·rw[Mb _ (by omega) (by omega) (by omega),aI _ (.inl (by omega))];exact ah.n j (by omega)
 ·rw[Mb _ (by omega) (by omega) (by omega),aI _ (.inr (.inl rfl))];exact ah.a
 ·rw[Mb _ (by omega) (by omega) (by omega),aI _ (.inr (.inr rfl))];exact ah.b
theorem ahU {K:bb->Prop}{tm:Nat->R}{N i go:Nat}(go' bL:Nat){rs:List e1}{r:e1}{m m':Mem}(ah:Aq N rs i go m)(ab:rs[i]?=some r)(vR:m' 129015=some (0,[.ref 129035 go' 1 0 (i+1),.J (.int .i64 N),.J (.bool false)]))
  (QF:m' 129035=some (go',refsOf N ((hA rs).take i)++[.ref 129029 bL 4 0 (N+1)])) (QG:m' 129029=some (bL,bc aH (r.1++[r.2]))) (aI:∀k:Nat,900000<=k\/k=168004\/k=168006->m' k=m k) (h:∀bh,Aq N rs (i+1) go' bh->K ⟨tm,bh⟩):lr K ⟨tm,m'⟩ .move:=by
 have ay:=(dP.1 ab).1;have po:(refsOf N ((hA rs).take i)).length=i:=by rw[HR,gf,EE];omega
 exact aq4 129035 i 129029 (i+900000) QF (by rw[ss (by omega),po,lV];rfl) QG (by omega) (show (i+900000:Nat)≠129029 by omega) (show (i+900000:Nat)≠129035 by omega) (h _ (avO ah ab vR aI))
theorem lM {m:Mem}{k g:Nat}{cs:List R}{j:Nat}(h:j≠k):a4 m k g cs j=m j:=ag h
theorem avP (T:bd)(mc:T OM=aW QD){K:eW->bb->Prop}{kk:List gn}(N:Nat)(rs:List e1)(stop:Bool)(gF:N<=40)(hlen:(D rs)=N)(Bp:∀r∈rs,r.1.length=N/\yP r)(tm:Nat->R)(m:Mem)
  (aC:tm 1=.J (.int .i64 N)) (aD:tm 2=.J (.bool stop)) (dE:tm 8=.ptr 129015 0 0) (yW:tm 16=.J (.Y (rs.map j6))) (na:tm 17=.J (.int .i64 N)) (nG:tm 18=.J (.int .i64 0)) (ah:Aq N rs 0 0 m)
  (dK:∀tm' m' go,tm' 1=.J (.int .i64 N)->tm' 2=.J (.bool stop)->tm' 8=.ptr 129015 0 0->Aq N rs N go m'->cJ T K kk (.exit 0) ⟨tm',m'⟩) :
  wp T (LI.body.sub [1,1,0,1,0]) (cJ T K kk) ⟨tm,m⟩:=by
 simp only[LI,ez.sub];refine dn [1,2,8,16,17] [] (λ((i,go):Nat×Nat) tm m=>i<=N/\tm 18=.J (.int .i64 i)/\Aq N rs i go m) (λ(i,_)=>N-i) (0,0) (by exact⟨fv _,nG,ah⟩) ?_;intro vs ms aV aS;simp only[go_sem,go_sem_proc,aC,aD,dE,yW,na] at aV aS;subst aV aS;clear aC aD dE yW na nG ah tm m;rintro⟨i,go⟩ tm m O hm ⟨ahM,jY,ah⟩;simp only[go_sem,go_sem_proc,ba] at O hm;obtain⟨F,I,cl,sM,lI⟩:=O;rcases dA (i<N) with ay|cj
 ·obtain⟨⟨A,⟨v1,v2⟩,⟨v8,v4⟩⟩,ab⟩:∃r,rs[i]?=some r:=⟨_,bx (by omega)⟩;obtain⟨Ch,⟨ahV,avQ⟩,avR,vQ⟩:=Bp _ (ec ab);dsimp only at Ch ahV avQ avR vQ;have hU:decide ((i:Int)<(N:Int))=true:=di;have hw:=ff (i:=i) (by omega);have dC:∀bL,mx 129029 bL 4 N 64 1 _ _=_:=λbL=>Ch ▸ avM bL A v1 v2 v8 v4 ahV;have ahW:N<=1000000:=by omega
  have gV:(1<=maxLen)=True:=eq_true (by unfold maxLen;omega);have aLQ:=Y0 ab;have po:((hA rs).take i).length=i:=by rw[gf,EE];omega
  rcases k4 i with ao|h3
  ·have uy:=ah.z ao;refine a0 ?_;repeat' (intro h<;>simp only[h,go_sem,go_sem_proc,mc,F,I,cl,sM,lI,jY,uy,hU,ab,hw,ahW,Ch,dC,gV,ahT,al,bl,j6,aH,decide_true,decide_false,ne_eq,not_false_eq_true,and_self]<;>try refine aw ?_ ?_)
   refine ahU (gD (m 129035)) (gD (m 129029)+1) ah ab (by simp[a4,ao]) (by simp[a4,ao,refsOf]) (by simp[a4]) (λk O=>?_) λbh fw=>?_
   ·rw[lM (by omega),lM (by omega),lM (by omega),lM (by omega),lM (by omega),lM (by omega),lM (by omega)]
   ·refine a0 ?_;repeat' (intro h<;>simp only[h,go_sem,go_sem_proc,F,I,cl,sM,lI,jY,hw]<;>try refine aw ?_ ?_)
    exact⟨(i+1,gD (m 129035)),by dsimp only;omega,by dsimp only;omega,rfl,fw⟩
  ·obtain⟨uy,L9⟩:=ah.p h3;have avS:=avN N go i (gD (m 129029)+1) ((hA rs).take i) po (by omega) _ rfl;refine a0 ?_;repeat' (intro h<;>simp only[h,go_sem,go_sem_proc,mc,F,I,cl,sM,lI,jY,uy,L9,hU,ab,hw,ahW,Ch,dC,avS,ahT,al,bl,j6,aH,decide_true,decide_false,ne_eq,not_false_eq_true,and_self]<;>try refine aw ?_ ?_)
   refine ahU (go+1) (gD (m 129029)+1) ah ab (by simp[a4]) (by simp[a4]) (by simp[a4]) (λk O=>?_) λbh fw=>?_
   ·rw[lM (by omega),lM (by omega),lM (by omega),lM (by omega),lM (by omega),lM (by omega),lM (by omega)]
   ·refine a0 ?_;repeat' (intro h<;>simp only[h,go_sem,go_sem_proc,F,I,cl,sM,lI,jY,hw]<;>try refine aw ?_ ?_)
    exact⟨(i+1,go+1),by dsimp only;omega,by dsimp only;omega,rfl,fw⟩
 ·have hU:decide ((i:Int)<(N:Int))=false:=c9;obtain rfl:i=N:=by omega
  refine a0 ?_;repeat' (intro h<;>simp only[h,go_sem,go_sem_proc,F,I,cl,sM,lI,jY,hU]<;>try refine aw ?_ ?_)
  refine dK _ _ go ?_ ?_ ?_ ah<;>simp only[eV,dJ,if_false,F,I,cl]
def md (stop:Bool):Nat->Nat->List dr->List Nat->Bool->List dr×List Nat×Bool
 |0,_,rows,free,bad=>(rows,free,bad)
 |_+1,_,rows,free,true=>(rows,free,true)
 |k+1,c,rows,free,false =>
  if (iN rows (c-D free) c).1=true then
   (if stop=true then ((iN rows (c-D free) c).2.1,free++[c],(iN rows (c-D free) c).2.2) else md stop k (c+1) (iN rows (c-D free) c).2.1 (free++[c]) (iN rows (c-D free) c).2.2)
  else md stop k (c+1) (iN rows (c-D free) c).2.1 free (iN rows (c-D free) c).2.2
theorem ahX (stop:Bool)(k c:Nat)(rows:List dr)(free:List Nat):md stop k c rows free true=(rows,free,true):=by
 cases k<;>rfl
def iC (n:Nat):List Data:=[.int .i64 n]
theorem yX (n:Nat):(iC n).length=1:=rfl
theorem ahY (n:Nat):((iC n).map R.J).all R.one=true:=rfl
def Y1 (N:Nat)(rows:List dr)(bad:Bool):Data:=.ptr [.Y (rows.map λx=>[.Y (x.2.2.map aH)]),.int .i64 N,.bool bad]
def HS (N:Nat)(p:List dr×List Nat×Bool):Data:=.cI [Y1 N p.1 p.2.2,.Y (p.2.1.map iC)]
theorem QH (fV:List bo)(r c:Nat):∀(i:Nat) (l:List dr) (b:Bool),(j9 fV r c i l b).1.map (λx=>(x.1,x.2.1,x.2.2.length))=l.map λx=>(x.1,x.2.1,x.2.2.length)
 |_,[],_=>rfl
 |i,x::xs,b=>by
  unfold j9
  split
  ·simp only[eG,QH fV r c (i+1) xs b]
  ·simp only[eG,QH fV r c (i+1) xs,ahx]
theorem ahZ (fF:bo):∀(l p:List bo) (b:Bool),(∀f∈l,okF f)->∀f∈(jt fF l p b).1,okF f
 | [],p,b,h=>by rw[ahy];exact h
 |f::dM,[],b,h=>by cases b<;>(simp only[jt];exact h)
 |f::dM,p::ps,true,h=>by simp only[jt];exact h
 |f::dM,p::ps,false,h=>by
  simp only[jt];intro g a7;rcases hj.1 a7 with rfl|a7
  ·exact ahu _ _
  ·exact ahZ fF dM ps _ (λx Q=>h x (gx _ Q)) g a7
theorem Y2 (fV:List bo)(r c:Nat):∀(i:Nat) (l:List dr) (b:Bool),(∀x∈l,∀f∈x.2.2,okF f)->∀x∈(j9 fV r c i l b).1,∀f∈x.2.2,okF f
 |_,[],_,h=>h
 |i,x::xs,b,h=>by
  unfold j9
  split
  ·intro y av;rcases hj.1 av with rfl|av
   ·exact h _ fZ
   ·exact Y2 fV r c (i+1) xs b (λz aX=>h z (gx _ aX)) y av
  ·intro y av;rcases hj.1 av with rfl|av
   ·exact ahZ _ _ _ _ (h _ fZ)
   ·exact Y2 fV r c (i+1) xs _ (λz aX=>h z (gx _ aX)) y av
theorem ah0 (rows:List dr)(r c:Nat)(ab:r<=D rows):r<=findAt rows r c/\findAt rows r c<=D rows:=by
 unfold findAt;have:=ah1 (p:=λx => !nF (cellOf x c)) (xs:=rows.drop r);rw[ry] at this;omega
theorem j8.EF {N:Nat}{rows:List dr}(h:j8 N rows){r c:Nat}(ab:r<N):j8 N (iN rows r c).2.1:=by
 unfold iN
 split
 ·exact h
 ·rename_i bG;have lA:=ah0 rows r c (by rw[h.len];omega);have ar:=h.len;obtain⟨x,Q⟩:∃x,rows[findAt rows r c]?=some x:=⟨_,bx (by omega)⟩;obtain⟨xq,pk⟩:∃x,rows[r]?=some x:=⟨_,bx (by omega)⟩
  have Ap:j8 N (qR rows r (findAt rows r c)):=by
   unfold qR;rw[xp Q,xp pk];exact h.swap pk Q
  have yU:(qR rows r (findAt rows r c))[r]?=some x:=by
   unfold qR;rw[xp Q,xp pk];exact YN Q pk
  generalize qR rows r (findAt rows r c)=ia at *;obtain⟨tu,HP⟩:=Ap.row x (ec yU)
  have z1:j8 N (Ez ia r c):=by
   unfold Ez;rw[xp yU];refine Ap.set yU (by simp[hW,tu]) λf aI=>?_;obtain⟨g,-,rfl⟩:=ek.1 aI;exact ahv _ _
  generalize Ez ia r c=iO at *;have jV:=QH (hW (cellOf (rowAt ia r) c) (rowAt ia r).2.2).1 r c 0 iO (hW (cellOf (rowAt ia r) c) (rowAt ia r).2.2).2;have c1:=Y2 (hW (cellOf (rowAt ia r) c) (rowAt ia r).2.2).1 r c 0 iO (hW (cellOf (rowAt ia r) c) (rowAt ia r).2.2).2 λx Q=>(z1.row x Q).2;dsimp only;generalize (j9 (hW (cellOf (rowAt ia r) c) (rowAt ia r).2.2).1 r c 0 iO (hW (cellOf (rowAt ia r) c) (rowAt ia r).2.2).2).1=el at *;refine⟨?_,?_,λy av=>⟨?_,c1 y av⟩⟩
  ·have:=congrArg D jV;rw[al,al] at this;rw[this,z1.len]
  ·have F:el.map (·.1)=iO.map (·.1):=by
    have:=congrArg (yV λp:Nat×Nat×Nat=>p.1) jV
    simpa [nq,Function.comp_def] using this
   rw[F];exact z1.Qy
  ·have F:el.map (λx=>x.2.2.length)=iO.map λx=>x.2.2.length:=by
    have:=congrArg (yV λp:Nat×Nat×Nat=>p.2.2) jV
    simpa [nq,Function.comp_def] using this
   have I:y.2.2.length∈iO.map λx=>x.2.2.length:=by rw[<-F];exact ek.2 ⟨y,av,rfl⟩
   obtain⟨z,aX,e⟩:=ek.1 I;rw[<-e];exact (z1.row z aX).1
theorem avT {n k g N:Nat}{mem:Mem}{l:List bo}(ar:(D l)=N+1)(hm:mem k=some (g,bc aH l)):cE (n+1) mem (.ref k g 4 0 (N+1))=some (.Y (l.map aH)):=by
 rw[<-ar];exact pM nC hm
theorem avU {n N:Nat}{mem:Mem}{rows:List dr}(h:∀x∈rows,mem (x.1+900000)=some (x.2.1,bc aH x.2.2))(ar:∀x∈rows,x.2.2.length=N+1):(refsOf N rows).mapM (cE (n+1) mem)=some (rows.map λx => .Y (x.2.2.map aH)):=by
 unfold refsOf
 induction rows with
 |nil=>rfl
 |cons x xs az =>
  have F:=avT (n:=n) (ar x fZ) (h x fZ);have I:=az (λy av=>h y (gx _ av)) λy av=>ar y (gx _ av);simp only[eG,lu,F,I]
  rfl
theorem Y3 {n N go:Nat}{mem:Mem}{rows:List dr}{bad:Bool}(c1:j8 N rows)(h:An go N rows bad mem):cE (n+3) mem (.ptr 129015 0 0)=some (Y1 N rows bad):=by
 have F:=avU (n:=n) h.r λx Q=>(c1.row x Q).1
 have I:cE (n+2) mem (.ref 129035 go 1 0 N)=some (.Y (rows.map λx=>[.Y (x.2.2.map aH)])):=by
  unfold cE;rw[h.o];simp only[if_true];unfold cut;rw[ad (by rw[HR,c1.len];omega),l1,dy (by rw[HR,c1.len];omega)];dsimp only;rw[F];have:=ym (sz:=1) (rows.map λx=>[Data.Y (x.2.2.map aH)]) (by intro e he;obtain⟨x,-,rfl⟩:=ek.1 he;rfl);rw[al,c1.len] at this;simp only[lB,cn,Data.Y.injEq]
  have lA:∀l:List dr,(l.map λx=>Data.Y (x.2.2.map aH))=(l.map λx=>[Data.Y (x.2.2.map aH)]).flatten:=by
   intro l
   induction l with
   |nil=>rfl
   |cons x xs az=>simp only[eG,jL,az];rfl
  rw[lA,this]
 unfold cE;rw[h.m];simp only[if_true,l1,lu,List.mapM_nil,I,true_and,fv];simp only[OE]
 rfl
theorem Aq.avV {N go:Nat}{rs:List e1}{m:Mem}(ar:(D rs)=N)(gF:0<N)(h:Aq N rs N go m):An go N (hA rs) false m:=by
 have bF:(hA rs).take N=hA rs:=dy (by rw[EE];omega);have aF:=h.p gF;rw[bF] at aF;exact⟨aF.1,aF.2,by have:=h.r;rw[bF] at this;exact this⟩
theorem An.other {go N:Nat}{rows:List dr}{bad:Bool}{mem:Mem}{k g:Nat}{cs:List R}(h:An go N rows bad mem)(F:k≠129015)(I:k≠129035)(af:k<900000):An go N rows bad (a4 mem k g cs) :=
 ⟨(lM (Ne.symm F)).trans h.m,(lM (Ne.symm I)).trans h.o,λx Q=>(lM (show (x.1+900000:Nat)≠k by omega)).trans (h.r x Q)⟩
theorem ah2 {N:Nat}{rs:List e1}(ar:(D rs)=N)(h:∀r∈rs,r.1.length=N/\yP r):j8 N (hA rs):=by
 refine⟨by rw[EE,ar],?_,λx Q=>?_⟩
 ·have:(hA rs).map (·.1)=dS (D rs):=by
   unfold hA;rw[nq];apply pH;intro i;rw[bl,YZ];rcases il i (D rs) with h|h
   ·rw[bx h];simp[h]
   ·rw[kF h];simp[h]
  rw[this];exact List.nodup_range
 ·unfold hA at Q;obtain⟨⟨r,i⟩,aF,rfl⟩:=ek.1 Q;have ab:=List.fst_mem_of_mem_zipIdx aF;obtain⟨F,I,af⟩:=h r ab;refine⟨by simp[F],λf aI=>?_⟩
  rw[ko,uc] at aI;rcases aI with aI|rfl
  ·exact I.2 f aI
  ·exact af
abbrev Y4:(List e1)×Int×Bool->List Data:=λ(rs,n,stop)=>[.Y (rs.map j6),.int .i64 n,.bool stop]
def QI:=ck Y4 λ(rs,n,stop)=>cR ((D rs:Int)=n/\D rs<=40/\∀r∈rs,r.1.length=D rs/\yP r) (.same (HS (D rs) (md stop (D rs) 0 (hA rs) [] false)))
theorem avW:∀a b,Y4 a=Y4 b->a=b:=by
  rintro⟨ag3,hF,aLR⟩ ⟨ag4,ir,aLS⟩ h;simp only[ba,Data.Y.injEq,Data.int.injEq,Data.bool.injEq] at h;exact dT (map_inj XX _ _ h.1) (dT h.2.1.2 h.2.2.1)
@[go_sem] theorem avX (rs:List e1)(n:Int)(stop:Bool)(H:(D rs:Int)=n/\D rs<=40/\∀r∈rs,r.1.length=D rs/\yP r):QI [.Y (rs.map j6),.int .i64 n,.bool stop]=some (.same (HS (D rs) (md stop (D rs) 0 (hA rs) [] false))):=(cx avW (rs,n,stop)).trans (cW H _)
theorem avY (T:bd)(mc:T OM=aW QD)(nH:T UD=pj Ma)(rs:List e1)(n:Int)(stop:Bool)(H:(D rs:Int)=n/\D rs<=40/\∀r∈rs,r.1.length=D rs/\yP r):WP T LI (.same (HS (D rs) (md stop (D rs) 0 (hA rs) [] false))) [.J (.Y (rs.map j6)),.J (.int .i64 n),.J (.bool stop)]:=by
 refine cy ?_;simp only[LI];obtain⟨aL,gF,Bp⟩:=H;subst aL;simp only[go_sem,go_sem_proc,mc,nH,al];generalize Y5:(D rs)=N at *;refine avP T mc N rs stop gF Y5 Bp _ _ rfl rfl rfl rfl rfl rfl ⟨λ_=>by simp[a4],λh=>by omega,λx Q=>by simp at Q,λj _=>lM (show (j+900000:Nat)≠129015 by omega),lM (by omega),lM (by omega)⟩ ?_
 intro tm m go F I cl ah;rcases k4 N with ao|h3
 ·have pO:rs=[]:=List.eq_nil_of_length_eq_zero (by omega);have aX:=ah.z ao;subst ao;subst pO;simp only[go_sem,go_sem_proc,mc,nH,F,I,cl];refine dn [1,2,8] [129015] (λ(_:Unit) tm' m'=>tm' 11=.ref 129061 (gD (m 129061)) 1 0 0/\m' 129061=some (gD (m 129061),[])/\tm' 12=.J (.int .i64 0)) (λ_=>0) () (by refine⟨rfl,?_,rfl⟩;simp[a4]) ?_;intro vs ms aV aS;simp only[go_sem,go_sem_proc,mc,nH,F,I,cl,aX] at aV aS;subst aV aS;rintro _ tm' m' O hm ⟨mG,HT,mH⟩;simp only[go_sem,go_sem_proc,mc,nH,ba] at O hm;obtain⟨cd,c0,gN⟩:=O;simp only[go_sem,go_sem_proc,mc,nH,cd,c0,gN,hm,mG,HT,mH,show decide ((0:Int)<((0:Nat):Int))=false from rfl,cE,nV,l1];repeat' (first|refine aw ?_ ?_|fail)<;>intro h<;>simp only[h,go_sem,go_sem_proc,mc,nH,cd,c0,gN,hm,mG,HT,mH,show decide ((0:Int)<((0:Nat):Int))=false from rfl,cE,nV,l1]
  rfl
 ·have Ar:=ah.avV Y5 h3;have c1:=ah2 Y5 Bp;have Mc:=ah.a;have Md:=ah.b;clear ah;simp only[go_sem,go_sem_proc,mc,nH,F,I,cl]
  refine dn [1,2,8] [] (λ((c,rows,free,bad,g):Nat×List dr×List Nat×Bool×Nat) tm m=>c<=N/\D free<=c/\md stop N 0 (hA rs) [] false=md stop (N-c) c rows free bad/\j8 N rows/\An go N rows bad m/\m 168004=none/\m 168006=none/\tm 11=.ref 129061 g 1 0 (D free)/\m 129061=some (g,bc iC free)/\tm 12=.J (.int .i64 c)) (λ(c,_,_,_,_)=>N-c) (0,hA rs,[],false,gD (m 129061)) (by
   refine⟨fv _,bZ _,rfl,c1,⟨?_,?_,λx Q=>?_⟩,?_,?_,rfl,?_,rfl⟩
   ·rw[lM (by omega)];exact Ar.m
   ·rw[lM (by omega)];exact Ar.o
   ·rw[lM (show (x.1+900000:Nat)≠129061 by omega)];exact Ar.r x Q
   ·rw[lM (by omega)];exact Mc
   ·rw[lM (by omega)];exact Md
   ·simp[a4,bc]) ?_
  intro vs ms aV aS;simp only[go_sem,go_sem_proc,mc,nH,F,I,cl] at aV aS;subst aV aS;clear F I cl Ar Mc Md;rintro⟨c,rows,free,bad,g⟩ tm m O hm ⟨avw,aLT,k1,c1,Ar,Mc,Md,mG,HT,mH⟩;simp only[go_sem,go_sem_proc,mc,nH,ba] at O hm;obtain⟨F,I,cl⟩:=O;have uy:=Ar.m
  have WC:md stop N 0 (hA rs) [] false=(rows,free,bad)->((cE 5 m (.ptr 129015 0 0)).bind λd=>(cE 5 m (.ref 129061 g 1 0 (D free))).bind λe=>some (Data.cI [d,e]))=some (HS N (md stop N 0 (hA rs) [] false)):=by
   intro h;rw[h,Y3 (n:=2) c1 Ar,pM yX HT]
   rfl
  have QJ:=Y3 (n:=2) c1 Ar;have HU:=pM (n:=4) yX HT;rcases dA (c<N) with ay|cj
  ·have dq:decide ((c:Int)<(N:Int))=true:=di
   cases bad
   ·have n5:IntKind.i64.wrap ((c:Int)-(D free:Int))=((c-D free:Nat):Int):=by rw[eS _];omega
    have fz:=ff (i:=c) (by omega);have e5:=avG ⟨go,N,rows,c-D free,c⟩ m ⟨c1,Ar,Mc,Md,gF,Nat.sub_le _ _,ay⟩;dsimp only at e5;have Y6:N-c=(N-(c+1))+1:=by omega
    rw[Y6] at k1;simp only[md] at k1;have HJ:=c1.EF (r:=c-D free) (c:=c) (by omega);simp only[go_sem,go_sem_proc,mc,nH,nH,F,I,cl,mG,mH,uy,dq,n5,e5];intro yQ m' gE;obtain⟨xl,gG⟩:=gE;dsimp only at xl gG;subst xl;have m9:m' 168004=none:=(gG.2 _ YP).trans Mc;have rO:m' 168006=none:=(gG.2 _ YQ).trans Md;have Me:m' 129061=some (g,bc iC free):=(gG.2 129061 (by unfold HD;omega)).trans HT;have dC:mx 129061 g 1 (D free) 8 1 [.J (.int .i64 c)] (some (g,bc iC free))=_:=l3 yX ahY 129061 g 8 free c rfl (by omega) (by omega);generalize aLU:iN rows (c-D free) c=cu at *;obtain⟨avZ,ah3,ah4⟩:=cu;dsimp only at *
    cases avZ
    ·simp only[kX,if_false] at k1;simp only[go_sem,go_sem_proc,mc,nH,F,I,cl,mG,mH,fz];repeat' (first|refine aw ?_ ?_|fail)<;>intro h<;>simp only[h,go_sem,go_sem_proc,mc,nH,F,I,cl,mG,mH,fz]
     exact⟨(c+1,ah3,free,ah4,g),by dsimp only;omega,by dsimp only;omega,by dsimp only;omega,k1,HJ,gG.1,m9,rO,rfl,Me,rfl⟩
    ·simp only[if_true] at k1;have xt:=gG.1.other (k:=129061) (g:=g+1) (cs:=bc iC (free++[c])) (by omega) (by omega) (by omega)
     cases stop
     ·simp only[kX,if_false] at k1;simp only[go_sem,go_sem_proc,mc,nH,F,I,cl,mG,mH,fz,Me,dC];repeat' (first|refine aw ?_ ?_|fail)<;>intro h<;>simp only[h,go_sem,go_sem_proc,mc,nH,F,I,cl,mG,mH,fz,Me,dC]
      exact⟨(c+1,ah3,free++[c],ah4,g+1),by dsimp only;omega,by dsimp only;omega,by simp;omega,k1,HJ,xt,m9,rO,by simp,rfl,rfl⟩
     ·simp only[if_true] at k1;simp only[go_sem,go_sem_proc,mc,nH,F,I,cl,mG,mH,fz,Me,dC];repeat' (first|refine aw ?_ ?_|fail)<;>intro h<;>simp only[h,go_sem,go_sem_proc,mc,nH,F,I,cl,mG,mH,fz,Me,dC]
      have Ci:(D free)+1=(free++[c]).length:=by simp
      rw[Y3 (n:=2) HJ xt,Ci,pM (n:=4) yX (g:=g+1) (l:=free++[c]) (by simp[a4]),k1]
      rfl
   ·rw[ahX] at k1;simp only[go_sem,go_sem_proc,mc,nH,F,I,cl,mG,mH,uy,dq,QJ,HU];repeat' (first|refine aw ?_ ?_|fail)<;>intro h<;>simp only[h,go_sem,go_sem_proc,mc,nH,F,I,cl,mG,mH,uy,dq,QJ,HU]
    rw[k1]
    rfl
  ·have dq:decide ((c:Int)<(N:Int))=false:=c9;have Y6:N-c=0:=by omega
   rw[Y6] at k1;simp only[md] at k1;simp only[go_sem,go_sem_proc,mc,nH,F,I,cl,mG,mH,uy,dq,QJ,HU];repeat' (first|refine aw ?_ ?_|fail)<;>intro h<;>simp only[h,go_sem,go_sem_proc,mc,nH,F,I,cl,mG,mH,uy,dq,QJ,HU]
   rw[k1]
   rfl
theorem Y7 {rs:List e1}{n:Int}(bO:rK rs)(h:oc rs n=true):(D rs:Int)=n/\D rs<=40/\∀r∈rs,r.1.length=D rs/\yP r:=by
 unfold oc at h;simp only[e4,pU,decide_eq_false_iff_not,beq_iff_eq] at h;obtain⟨F,I,af,aO⟩:=h;refine⟨af,by omega,λr ab=>⟨?_,bO.2 r ab⟩⟩
 rw[xu] at aO;have:=aO r ab;unfold oL at this;simp at this;omega
theorem Y8 {stop:Bool}{N:Nat}:∀(k c:Nat) (rows:List dr) (free:List Nat) (bad:Bool),c+k=N->j8 N rows->j8 N (md stop k c rows free bad).1
 |0,_,rows,_,_,_,h=>h
 |k+1,c,rows,free,true,H,h=>h
 |k+1,c,rows,free,false,H,h=>by
  have aF:=h.EF (r:=c-D free) (c:=c) (by omega);unfold md
  split
  ·split
   ·exact aF
   ·exact Y8 k (c+1) _ _ _ (by omega) aF
  ·exact Y8 k (c+1) _ _ _ (by omega) aF
def qS (stop:Bool)(rs:List e1):List dr×List Nat×Bool:=md stop (D rs) 0 (hA rs) [] false
theorem Y9 (stop:Bool):∀(k c:Nat) (rows:List dr) (free:List Nat) (bad:Bool),(md stop k c rows free bad).2.1.length<=D free+k
 |0,_,_,_,_=>by simp[md]
 |k+1,c,rows,free,true=>by simp[md]
 |k+1,c,rows,free,false=>by
  unfold md
  split
  ·split
   ·simp
   ·have:=Y9 stop k (c+1) (iN rows (c-D free) c).2.1 (free++[c]) (iN rows (c-D free) c).2.2;simp at this;omega
  ·have:=Y9 stop k (c+1) (iN rows (c-D free) c).2.1 free (iN rows (c-D free) c).2.2;omega
theorem av0 (stop:Bool)(rs:List e1):(qS stop rs).2.1.length<=D rs:=by
 have:=Y9 stop (D rs) 0 (hA rs) [] false;unfold qS
 simpa using this
theorem av1 {rs:List e1}{stop:Bool}(h:∀r∈rs,r.1.length=D rs/\yP r):j8 (D rs) (qS stop rs).1:=Y8 _ _ _ _ _ (by omega) (ah2 rfl h)
def wa (N:Nat)(x:dr):bo:=x.2.2.getD N er
def qT (rs:List e1)(n:Int):List bo×Int :=
 if oc rs n=true then (if (qS true rs).2.2=true then ([],6) else if (qS true rs).2.1.length>0 then ([],17) else ((qS true rs).1.map (wa (D rs)),0)) else ([],1)
theorem av2 {N:Nat}{x:dr}{f:bo}(h:x.2.2[N]?=some f):wa N x=f:=by
 unfold wa;rw[dY,h]
 rfl
def Za:=ck Qf λ(rs,n)=>cR (rK rs) (.same (.cI [.Y ((qT rs n).1.map aH),.int .i64 (qT rs n).2]))
@[go_sem] theorem av3 (rs:List e1)(n:Int)(H:rK rs):Za [.Y (rs.map j6),.int .i64 n]=some (.same (.cI [.Y ((qT rs n).1.map aH),.int .i64 (qT rs n).2])):=(cx ag5 (rs,n)).trans (cW H _)
theorem av4 (T:bd)(Cj:T Us=aW X7)(Ck:T Uw=aW QI)(rs:List e1)(n:Int)(H:rK rs):WP T Xq (.same (.cI [.Y ((qT rs n).1.map aH),.int .i64 (qT rs n).2])) [.J (.Y (rs.map j6)),.J (.int .i64 n)]:=by
 refine cy ?_;simp only[Xq];unfold qT;rcases ab:oc rs n
 ·refine a0 ?_;repeat' (intro h<;>simp only[h,go_sem,go_sem_proc,Cj,Ck,H,ab,cV]<;>try refine aw ?_ ?_)
 ·have c1:=av1 (stop:=true) (Y7 H ab).2.2;have eA:QI [.Y (rs.map j6),.int .i64 n,.bool true]=some (.same (HS (D rs) (qS true rs))):=avX rs n true (Y7 H ab);have lA:=av0 true rs;obtain⟨aL,gF,-⟩:=Y7 H ab;rcases gr:qS true rs with ⟨rows,free,bad⟩;rw[gr] at lA c1 eA;dsimp only at lA c1;simp only[HS,Y1] at eA
  cases bad
  ·cases free with
   |nil =>
    simp only[go_sem,go_sem_proc,Cj,Ck,H,ab,eA,al,show decide (((0:Nat):Int)>0)=false from rfl,cV];rw[ag (by simp)];refine dn [1,33,34] [] (λ((i,g):Nat×Nat) tm m=>i<=D rs/\tm 35=.J (.int .i64 i)/\tm 8=.ref 109045 g 4 0 i/\m 109045=some (g,bc aH ((rows.take i).map (wa (D rs))))) (λ(i,_)=>D rs-i) (0,0) (by refine⟨fv _,rfl,rfl,?_⟩;simp[a4,bc,bV,emp]) ?_;intro vs ms aV aS;simp only[go_sem,go_sem_proc,Cj,Ck] at aV aS;subst aV aS;rintro⟨i,g⟩ tm m O hm ⟨ahM,QF,cl,Zb⟩;simp only[go_sem,go_sem_proc,Cj,Ck,ba] at O hm;obtain⟨F,Lv,ah5⟩:=O;have b0:=c1.len;rcases dA (i<D rs) with ay|cj
    ·obtain⟨x,Q⟩:∃x,rows[i]?=some x:=⟨_,bx (by omega)⟩;obtain⟨tu,HP⟩:=c1.row x (ec Q);obtain⟨⟨⟨cT,c7⟩,⟨dZ,fm⟩⟩,ux⟩:∃f,x.2.2[D rs]?=some f:=⟨_,bx (by omega)⟩;have iX:=av2 ux;have po:((rows.take i).map (wa (D rs))).length=i:=by rw[al,gf];omega
     have dC:=l3 nC Hl 109045 g 64 ((rows.take i).map (wa (D rs))) ((cT,c7),(dZ,fm)) (cs:=[.J (.int .i64 cT),.J (.Y (c7.map ae)),.J (.int .i64 dZ),.J (.Y (fm.map ae))]) rfl (by omega) (by omega);rw[po] at dC
     have av5:(rows.take (i+1)).map (wa (D rs))=(rows.take i).map (wa (D rs))++[((cT,c7),(dZ,fm))]:=by
      rw[hv,Q,kR];simp[iX]
     have hU:decide ((i:Int)<(D rs:Int))=true:=di;have Zc:decide ((i:Int)<(D rows:Int))=true:=di;have hw:=ff (i:=i) (by omega);have iU:decide (0<=n)=true:=di;have wb:n=((D rs:Nat):Int):=aL.symm;refine a0 ?_;repeat' (intro h<;>simp only[h,go_sem,go_sem_proc,Cj,Ck,F,Lv,ah5,QF,cl,Zb,Q,ux,dC,hU,Zc,hw,wb,al,bl,aH]<;>try refine aw ?_ ?_)
     exact⟨(i+1,g+1),by dsimp only;omega,by dsimp only;omega,rfl,rfl,by dsimp only;rw[av5]⟩
    ·have cD:i=D rs:=by omega
     have Zc:decide ((i:Int)<(D rows:Int))=false:=c9;have fi:rows.take i=rows:=dy (by omega);rw[fi] at Zb
     have h7:∀n,cE (n+1) m (.ref 109045 g 4 0 i)=some (.Y ((rows.map (wa (D rs))).map aH)):=λn=>by
      have:=pM (n:=n) nC Zb;rw[show (rows.map (wa (D rs))).length=i by rw[al];omega] at this
      exact this
     have av6:=h7 4;refine a0 ?_;repeat' (intro h<;>simp only[h,go_sem,go_sem_proc,Cj,Ck,F,Lv,ah5,QF,cl,Zc,av6]<;>try refine aw ?_ ?_)
   |cons f dM =>
    have iW:decide ((((f::dM).length:Nat):Int)>0)=true:=lq (by simp only[hN];omega);simp only[hN] at iW;refine a0 ?_;repeat' (intro h<;>simp only[h,go_sem,go_sem_proc,Cj,Ck,H,ab,eA,al,iW,cV]<;>try refine aw ?_ ?_)
    rw[ad (by omega)]
    rfl
  ·refine a0 ?_;repeat' (intro h<;>simp only[h,go_sem,go_sem_proc,Cj,Ck,H,ab,eA,al,cV]<;>try refine aw ?_ ?_)
def Zd:bN:=ca 30 2 [.t 4,.t 5] (U [(aB 4 (.b6 (.c (.J (.int .u64 0))))),(aB 5 (.b6 (.c (.J (.int .u64 0)))))] (.seq (.cond (.c (.J (.bool false))) (U [G 11 0,(aB 12 (.conv .u32 (.t 11))),G 13 1,(aB 14 (.conv .u32 (.t 13))),(cA 15 arF 12 14),G 10 15,bB 16 0 10,bB 17 1 10,G 6 16,G 7 17] (U [G 18 6,(aB 19 (.conv .u64 (.t 18))),G 20 7,(aB 21 (.conv .u64 (.t 20))),G 4 19,G 5 21] .ret)) .skip) (U [G 23 0,G 24 1,(cA 25 UJ 23 24),G 22 25,bB 26 0 22,bB 27 1 22,G 8 26,G 9 27] (U [G 28 8,G 29 9,G 4 28,G 5 29] .ret))))
def Ze:bN:=ca 51 2 [.t 4,.t 5] (U [(aB 4 (.b6 (.c (.J (.int .u64 0))))),(aB 5 (.b6 (.c (.J (.int .u64 0)))))] (U [G 14 0,(aB 15 (.bin .and (.t 14) (.c (.J (.int .u64 4294967295))))),G 6 15] (U [G 16 0,(aB 17 (.bin .shr (.t 16) (.c (.J (.int .u64 32))))),G 7 17] (U [G 18 1,(aB 19 (.bin .and (.t 18) (.c (.J (.int .u64 4294967295))))),G 8 19] (U [G 20 1,(aB 21 (.bin .shr (.t 20) (.c (.J (.int .u64 32))))),G 9 21] (U [G 22 6,G 23 8,bq 24 .mul 22 23,G 10 24] (U [G 25 7,G 26 8,bq 27 .mul 25 26,G 28 10,(aB 29 (.bin .shr (.t 28) (.c (.J (.int .u64 32))))),bq 30 .add 27 29,G 11 30] (U [G 31 11,(aB 32 (.bin .and (.t 31) (.c (.J (.int .u64 4294967295))))),G 12 32] (U [G 33 11,(aB 34 (.bin .shr (.t 33) (.c (.J (.int .u64 32))))),G 13 34] (U [G 35 12,G 36 6,G 37 9,bq 38 .mul 36 37,bq 39 .add 35 38,G 12 39] (U [G 40 7,G 41 9,bq 42 .mul 40 41,G 43 13,bq 44 .add 42 43,G 45 12,(aB 46 (.bin .shr (.t 45) (.c (.J (.int .u64 32))))),bq 47 .add 44 46,G 4 47] (U [G 48 0,G 49 1,bq 50 .mul 48 49,G 5 50] .ret))))))))))))
def Zf:bN:=ca 8 1 [.t 2] (U [bp 2 0] (.seq (.cond (.c (.J (.bool false))) (U [G 3 0,(aB 4 (.conv .u32 (.t 3))),(dQ 5 arO 4),G 2 5] .ret) .skip) (U [G 6 0,(dQ 7 Vi 6),G 2 7] .ret)))
def Zg:bN:=ca 25 1 [.t 2] (U [bp 2 0] (.seq (U [G 3 0,(aB 4 (.bin .geq (.t 3) (.c (.J (.int .u64 4294967296)))))] (a2 4 (U [G 5 0,(aB 6 (.bin .shr (.t 5) (.c (.J (.int .u64 32))))),G 0 6] (.ops [bp 2 32])) .skip)) (.seq (U [G 7 0,(aB 8 (.bin .geq (.t 7) (.c (.J (.int .u64 65536)))))] (a2 8 (U [G 9 0,(aB 10 (.bin .shr (.t 9) (.c (.J (.int .u64 16))))),G 0 10] (.ops [G 11 2,a9 12 .add 11 16,G 2 12])) .skip)) (.seq (U [G 13 0,(aB 14 (.bin .geq (.t 13) (.c (.J (.int .u64 256)))))] (a2 14 (U [G 15 0,(aB 16 (.bin .shr (.t 15) (.c (.J (.int .u64 8))))),G 0 16] (.ops [G 17 2,a9 18 .add 17 8,G 2 18])) .skip)) (U [G 19 2,G 20 0,(aB 21 (.conv .u8 (.t 20))),(aB 22 (.idxs (.c (.J (.str [0,1,2,2,3,3,3,3,4,4,4,4,4,4,4,4,5,5,5,5,5,5,5,5,5,5,5,5,5,5,5,5,6,6,6,6,6,6,6,6,6,6,6,6,6,6,6,6,6,6,6,6,6,6,6,6,6,6,6,6,6,6,6,6,7,7,7,7,7,7,7,7,7,7,7,7,7,7,7,7,7,7,7,7,7,7,7,7,7,7,7,7,7,7,7,7,7,7,7,7,7,7,7,7,7,7,7,7,7,7,7,7,7,7,7,7,7,7,7,7,7,7,7,7,7,7,7,7,8,8,8,8,8,8,8,8,8,8,8,8,8,8,8,8,8,8,8,8,8,8,8,8,8,8,8,8,8,8,8,8,8,8,8,8,8,8,8,8,8,8,8,8,8,8,8,8,8,8,8,8,8,8,8,8,8,8,8,8,8,8,8,8,8,8,8,8,8,8,8,8,8,8,8,8,8,8,8,8,8,8,8,8,8,8,8,8,8,8,8,8,8,8,8,8,8,8,8,8,8,8,8,8,8,8,8,8,8,8,8,8,8,8,8,8,8,8,8,8,8,8,8,8,8,8,8,8]))) (.t 21))),(aB 23 (.conv .i64 (.t 22))),bq 24 .add 19 23,G 2 24] .ret)))))
theorem Zh:∀y:Nat,y<41->bits .and .u64 (y:Int) 4294967295=y:=by decide
theorem av7 (y:Nat)(h:y<41):(y:Int).fdiv 4294967296=0:=by
 rw[Int.fdiv_eq_ediv_of_nonneg _ (by omega)];omega
abbrev QK:Nat->List Data:=λ(y:Nat)=>[.int .u64 1,.int .u64 y]
def Zi:=ck QK λ(y:Nat)=>cR (y<41) (.same (.cI [.int .u64 0,.int .u64 y]))
theorem ah6:∀a b,QK a=QK b->a=b:=by
  intro tV tW h;simp only[ba,Data.int.injEq] at h;omega
@[go_sem] theorem aLV (y:Nat)(H:y<41):Zi [.int .u64 1,.int .u64 y]=some (.same (.cI [.int .u64 0,.int .u64 y])):=(cx ah6 y).trans (cW H _)
theorem av8 (T:bd)  (y:Nat) (H:y<41):WP T Ze (.same (.cI [.int .u64 0,.int .u64 y])) [.J (.int .u64 1),.J (.int .u64 y)]:=by
 refine cy ?_;simp only[Ze];have F:=Zh y H;have I:=av7 y H;have af:=Zh 1 (by omega);have aO:=Zh 0 (by omega);have bm:((1:Int)).fdiv 4294967296=0:=by decide
 have bK:((0:Int)).fdiv 4294967296=0:=by decide
 have hw:∀x:Int,0<=x/\x<18446744073709551616->IntKind.u64.wrap x=x:=λx h=>zM x h;have en:=hw 0 (by omega);have w1:=hw y (by omega);simp only[Int.natCast_zero,Int.cast_ofNat_Int,Int.natCast_one] at af aO;simp only[go_sem,go_sem_proc,F,I,af,aO,bm,bK,en,w1,show ((32:Int)<0)=False from by simp,if_false,show (2:Int)^min (Int.toNat 32) 64=4294967296 from rfl,n8,z7,ub,sL,DY]
 repeat' (first|refine aw ?_ ?_|fail)<;>intro h<;>simp only[h,go_sem,go_sem_proc,F,I,af,aO,bm,bK,en,w1,show ((32:Int)<0)=False from by simp,if_false,show (2:Int)^min (Int.toNat 32) 64=4294967296 from rfl,n8,z7,ub,sL,DY]
def Zj:=ck QK λ(y:Nat)=>cR (y<41) (.same (.cI [.int .u64 0,.int .u64 y]))
@[go_sem] theorem aLW (y:Nat)(H:y<41):Zj [.int .u64 1,.int .u64 y]=some (.same (.cI [.int .u64 0,.int .u64 y])):=(cx ah6 y).trans (cW H _)
theorem av9 (T:bd)(awa:T UJ=aW Zi)(y:Nat)(H:y<41):WP T Zd (.same (.cI [.int .u64 0,.int .u64 y])) [.J (.int .u64 1),.J (.int .u64 y)]:=by
 refine cy ?_;simp only[Zd];refine a0 ?_;repeat' (intro h<;>simp only[h,go_sem,go_sem_proc,awa,H]<;>try refine aw ?_ ?_)
theorem rP {α:Type}{A:List α}{k:Nat}(dz:(D A)=k)(n:Nat):(dG n A).flatten.length=n*k:=by
 rw[List.length_flatten,HW,dz,List.sum_replicate_nat]
theorem awb {α:Type}{A:List α}{k:Nat}(dz:(D A)=k){q j:Nat}(h:q<=j):(dG j A).flatten.take (q*k)=(dG q A).flatten:=by
 obtain⟨d,rfl⟩:=ah7 h;rw[<-Zk,HX,Cl (by rw[rP dz];omega),dy (by rw[rP dz];omega)]
theorem awc {α:Type}{A:List α}{k:Nat}(dz:(D A)=k){q j:Nat}(h:q<=j):(dG j A).flatten.drop (q*k)=(dG (j-q) A).flatten:=by
 obtain⟨d,rfl⟩:=ah7 h;rw[<-Zk,HX,oG,jQ (by rw[rP dz];omega),rP dz,lV,l1,jo,Gu]
def EG:List R:=[.J (.int .i64 0),.nil,.J (.int .i64 0),.nil]
def p1 (A:List R)(N j:Nat):List R:=(dG j A).flatten++(dG (N-j) EG).flatten
theorem ah8 {A:List R}(dz:(D A)=4){N j:Nat}(h:j<=N):(p1 A N j).length=N*4:=by
 unfold p1;rw[fH,rP dz,rP (show (D EG)=4 from rfl)];omega
theorem ah9 {A:List R}(dz:(D A)=4){N j q:Nat}(h:j+q<=N):(p1 A N j).take (j*4)++(dG q A).flatten++(p1 A N j).drop (j*4+q*4)=p1 A N (j+q):=by
 unfold p1;rw[Cl (by rw[rP dz];omega),dy (by rw[rP dz];omega),oG,jQ (by rw[rP dz];omega),rP dz,Gu,awc (show (D EG)=4 from rfl) (by omega),jo,<-Zk (n:=j),HX,Nat.sub_sub]
theorem awd {A:List R}(dz:(D A)=4){N j:Nat}:(p1 A N j).take (j*4)=(dG j A).flatten:=by
 unfold p1;rw[Cl (by rw[rP dz];omega),dy (by rw[rP dz];omega)]
theorem aia {A:List R}(h:A.all R.one=true)(q:Nat):(dG q A).flatten.all R.one=true:=by
 induction q with
 |zero=>rfl
 |succ n az=>rw[qo,jL,ahp,h,az];rfl
theorem awe (f:bo)(N:Nat):p1 ((aH f).map .J) N N=bc aH (dG N f):=by
 unfold p1 bc;rw[lV,HW];simp only[List.replicate_zero,List.flatten_nil,fC]
 induction N with
 |zero=>rfl
 |succ n az=>rw[qo,jL,qo,jL,kR,az]
theorem awf {A:List R}(dz:(D A)=4)(F:A.all R.one=true)(N:Nat):A8 131030 0 4 0 N 1 A (some (0,(dG N EG).flatten))=some (.J (.int .i64 ((min 1 N:Nat):Int)),some (131030,0,p1 A N (min 1 N))):=by
 unfold A8;dsimp only;rw[ad ⟨rfl,by rw[rP (show (D EG)=4 from rfl)];omega,F⟩]
 have ao:(dG N EG).flatten=p1 A N 0:=by simp[p1]
 have bF:A.take (min 1 N*4)=(dG (min 1 N) A).flatten:=by
  rcases k4 N with h|h
  ·subst h;simp
  ·rw[show min 1 N=1 by omega];simp[dy (As dz)]
 have:=ah9 dz (N:=N) (j:=0) (q:=min 1 N) (by omega);rw[ao,bF];unfold kV;rw[rP dz];simp only[Nat.zero_mul,kY] at this ⊢;rw[this]
theorem awg {A:List R}(dz:(D A)=4)(F:A.all R.one=true){N j:Nat}(h:j<N):A8 131030 0 4 (j*4) (N-j) j (dG j A).flatten (some (0,p1 A N j))=some (.J (.int .i64 ((min j (N-j):Nat):Int)),some (131030,0,p1 A N (j+min j (N-j)))):=by
 unfold A8;dsimp only;rw[ad ⟨rfl,by rw[ah8 dz (by omega)];omega,aia F j⟩]
 rw[awb dz (show min j (N-j)<=j by omega)];have:=ah9 dz (N:=N) (j:=j) (q:=min j (N-j)) (by omega);unfold kV;rw[rP dz,this]
abbrev Zl:Int×(List Int)×Int×(List Int)×Nat->List Data:=λ(s,l,s2,ak,N)=>[.Y [[.int .i64 s,.Y (l.map ae),.int .i64 s2,.Y (ak.map ae)]],.int .i64 N]
def Zm:=ck Zl λ(s,l,s2,ak,N)=>cR (N<41) (.own 4 (dG N (aH ((s,l),(s2,ak)))))
theorem awh:∀a b,Zl a=Zl b->a=b:=by
  rintro⟨s1,dW,D7,D8,aLX⟩ ⟨s2,ak,D9,Ea,aLY⟩ h;simp only[ba,Data.int.injEq,Data.Y.injEq] at h;exact dT h.1.1.1.2 (dT (map_inj fp _ _ h.1.1.2.1) (dT h.1.1.2.2.1.2 (dT (map_inj fp _ _ h.1.1.2.2.2.1) (by have:=h.2.1.2;dsimp only;omega))))
@[go_sem] theorem awi (s:Int)(l:List Int)(s2:Int)(ak:List Int)(N:Nat)(H:N<41):Zm [.Y [[.int .i64 s,.Y (l.map ae),.int .i64 s2,.Y (ak.map ae)]],.int .i64 N]=some (.own 4 (dG N (aH ((s,l),(s2,ak))))):=(cx awh (s,l,s2,ak,N)).trans (cW H _)
theorem awj (T:bd)(At:T UE=aW Zj)(s:Int)(l:List Int)(s2:Int)(ak:List Int)(N:Nat)(H:N<41):WP T VI (.own 4 (dG N (aH ((s,l),(s2,ak))))) [.J (.Y [[.int .i64 s,.Y (l.map ae),.int .i64 s2,.Y (ak.map ae)]]),.J (.int .i64 N)]:=by
 refine cy ?_;simp only[VI];have ao:decide ((N:Int)<0)=false:=c9;have hw:IntKind.u64.wrap (N:Int)=N:=zM _ ⟨by omega,by omega⟩
 have aeq:IntKind.i64.wrap (N:Int)=N:=wrap64 _ (by omega) (by omega);have n5:IntKind.u64.wrap ((1:Nat):Int)=1:=by decide
 have a7:decide ((N:Int)>9223372036854775807)=false:=c9;have HY:(64*N<=140737488355328)=True:=eq_true (by omega);have Cm:(N<=maxLen)=True:=eq_true (by unfold maxLen;omega);have dz:((aH ((s,l),(s2,ak))).map R.J).length=4:=rfl;have xv:((aH ((s,l),(s2,ak))).map R.J).all R.one=true:=rfl;have Be:=awf dz xv N;have vo:=λj (h:j<N)=>awg dz xv h;have Mf:(aH ((s,l),(s2,ak))).map R.J=[.J (.int .i64 s),.J (.Y (l.map ae)),.J (.int .i64 s2),.J (.Y (ak.map ae))]:=rfl;simp only[EG] at Be;rw[Mf] at Be;simp only[go_sem,go_sem_proc,At] at Be;simp only[go_sem,go_sem_proc,At,ao,hw,aeq,n5,H,a7,HY,Cm,show decide ((0:Int)>0)=false from rfl,Be];rw[Mf] at dz xv;have iI:=awe ((s,l),(s2,ak)) N;rw[Mf] at iI;simp only[Mf] at vo;clear Mf Be;generalize [R.J (.int .i64 s),.J (.Y (l.map ae)),.J (.int .i64 s2),.J (.Y (ak.map ae))]=A at *;refine dn [7] [] (λ(j:Nat) tm m=>j<=N/\(0<N->0<j)/\tm 8=.J (.int .i64 j)/\m 131030=some (0,p1 A N j)) (λj=>N-j) (min 1 N) (by refine⟨by omega,by omega,rfl,?_⟩;simp[a4]) ?_;intro vs ms aV aS;simp only[go_sem,go_sem_proc,At] at aV aS;subst aV aS;rintro j tm m O hm ⟨aib,awk,cl,Mg⟩;simp only[go_sem,go_sem_proc,At,ba] at O hm;have bP:=O;rcases dA (j<N) with ay|cj
 ·have ji:decide ((j:Int)<(N:Int))=true:=di;have aL:=vo j ay;have eR:=awd dz (N:=N) (j:=j);have hlen:(j*4<=(p1 A N j).length)=True:=eq_true (by rw[ah8 dz aib];omega);have aic:(j<=N)=True:=eq_true aib;have fi:=aia xv j;simp only[go_sem,go_sem_proc,At,fi,xv,eR] at aL;have fz:IntKind.i64.wrap ((j:Int)+((min j (N-j):Nat):Int))=((j+min j (N-j):Nat):Int):=by rw[eS _];omega
  simp only[go_sem,go_sem_proc,At,bP,cl,Mg,ji,eR,hlen,aic,fi,aL,fz,bZ,Cn,fv];repeat' (first|refine aw ?_ ?_|fail)<;>intro h<;>simp only[h,go_sem,go_sem_proc,At,bP,cl,Mg,ji,eR,hlen,aic,fi,aL,fz,bZ,Cn,fv]
  exact⟨j+min j (N-j),by have:=awk (by omega);omega,by omega,by omega,rfl,rfl⟩
 ·have ji:decide ((j:Int)<(N:Int))=false:=c9;obtain rfl:j=N:=by omega
  rw[iI] at Mg;have Ed:=oF nC (dG j ((s,l),(s2,ak)));rw[Au] at Ed;simp only[go_sem,go_sem_proc,At,bP,cl,Mg,ji,rr,Ed];repeat' (first|refine aw ?_ ?_|fail)<;>intro h<;>simp only[h,go_sem,go_sem_proc,At,bP,cl,Mg,ji,rr,Ed]
  rw[ad (bZ _),dy (by omega)];unfold bc;rw[tP _ λd=>rfl];have:=ym (sz:=4) ((dG j ((s,l),(s2,ak))).map aH) (by intro e he;obtain⟨f,-,rfl⟩:=ek.1 he;rfl);rw[al,Au] at this;rw[lB,this,HW]
def QL:bo:=((0,[]),(1,[1]))
def Zn:bo:=((1,[1]),(1,[1]))
theorem aid:au 0=QL:=by
 unfold au bQ QL;simp[DE,sF]
theorem awl:au 1=Zn:=by
 unfold au bQ Zn;simp[DE]
def Mh (rows:List dr)(f N i:Nat):List bo:=(dS N).map λk=>if k<i then (pf QL (cellOf (rowAt rows k) f)).1 else if k=f then Zn else QL
theorem awm (rows:List dr)(f N i:Nat):(Mh rows f N i).length=N:=by simp[Mh]
def Zo (rs:List e1)(n:Int):List bo×Bool :=
 if oc rs n=true then (if ((qS true rs).2.2||(qS true rs).2.1.length==0)=true then ([],false) else (Mh (qS true rs).1 ((qS true rs).2.1.headD 0) (D rs) ((qS true rs).2.1.headD 0),true)) else ([],false)



section
variable {α:Type} {op:α->bo×Int} {e:α->bo}
end
def Zp (N:Nat)(rows:List e1):Prop:=D rows=N/\∀x∈rows,x.1.length=N/\yP x
theorem Zp.set {N:Nat}{rows:List e1}(h:Zp N rows){i:Nat}{x:e1}(Q:x.1.length=N/\yP x):Zp N (rows.set i x):=by
 refine⟨by rw[hP];exact h.1,λy av=>?_⟩
 rcases Ex av with av|rfl
 ·exact h.2 y av
 ·exact Q




def Zq (r:e1):List bo:=r.1++[r.2]
def Co (dd:List dr)(bU:List e1):Prop:=dd.map (·.2.2)=bU.map Zq
theorem Co.len {dd:List dr}{bU:List e1}(h:Co dd bU):(D dd)=D bU:=by
 have:=congrArg D h
 simpa using this
theorem Co.at_ {dd:List dr}{bU:List e1}(h:Co dd bU){i:Nat}{x:dr}{r:e1}(Q:dd[i]?=some x)(ab:bU[i]?=some r):x.2.2=Zq r:=by
 have:=congrArg (λl:List (List bo)=>l[i]?) h;simp only[bl,Q,ab,lB,cn] at this;exact this
theorem Co.set {dd:List dr}{bU:List e1}(h:Co dd bU){i:Nat}{x:dr}{r:e1}(pk:x.2.2=Zq r):Co (dd.set i x) (bU.set i r):=by
 unfold Co at h ⊢;rw[HE,HE,h,pk]
def bH:Nat->(Nat->Rat)->Rat
 |0,_=>0
 |n+1,f=>bH n f+f n
theorem ks {n:Nat}{f g:Nat->Rat}(h:∀k,k<n->f k=g k):bH n f=bH n g:=by
 induction n with
 |zero=>rfl
 |succ n az=>rw[bH,bH,az λk O=>h k (by omega),h n (by omega)]
theorem wc (n:Nat)(f g:Nat->Rat):bH n (λk=>f k+g k)=bH n f+bH n g:=by
 induction n with
 |zero=>simp[bH,nI]
 |succ n az=>rw[bH,bH,bH,az];grind
theorem Av (n:Nat)(c:Rat)(f:Nat->Rat):bH n (λk=>c*f k)=c*bH n f:=by
 induction n with
 |zero=>simp[bH,og]
 |succ n az=>rw[bH,bH,az];grind
theorem s5 {n:Nat}{f:Nat->Rat}(h:∀k,k<n->f k=0):bH n f=0:=by
 induction n with
 |zero=>rfl
 |succ n az=>rw[bH,az λk O=>h k (by omega),h n (by omega)];exact nI 0
theorem yY {n:Nat}{f:Nat->Rat}{j:Nat}(ai:j<n)(h:∀k,k<n->k≠j->f k=0):bH n f=f j:=by
 induction n with
 |zero=>omega
 |succ n az =>
  rw[bH]
  by_cases aL:j=n
  ·subst aL;rw[s5 λk O=>h k (by omega) (by omega)];grind
  ·rw[az (by omega) λk O=>h k (by omega),h n (by omega) (by omega)];grind
theorem awn (n m:Nat)(f:Nat->Nat->Rat):bH n (λi=>bH m (λj=>f i j))=bH m (λj=>bH n (λi=>f i j)):=by
 induction n with
 |zero=>rw[bH,s5];intro k O;rfl
 |succ n az =>
  rw[bH,az,<-wc]
  rfl
abbrev eD:=Nat->Nat->Rat
def mQ (N:Nat)(a y:Nat->Rat):Rat:=bH (N+1) λk=>a k*y k
def hY (N:Nat)(A:eD)(y:Nat->Rat):Prop:=∀i,i<N->mQ N (A i) y=0
def ho (A:eD)(r s:Nat):eD:=λi=>if i=s then A r else if i=r then A s else A i
def oO (A:eD)(r c s:Nat):eD:=λi k=>if i=r then ho A r s r k/ho A r s r c else ho A r s i k-ho A r s i c*(ho A r s r k/ho A r s r c)
theorem QM (A:eD)(r s:Nat):ho A r s r=A s:=by
 unfold ho
 by_cases h:r=s
 ·simp[h]
 ·simp[h]
theorem awo {N r s:Nat}{A:eD}{y:Nat->Rat}(ab:r<N)(X:s<N):hY N (ho A r s) y↔hY N A y:=by
 unfold hY ho
 constructor
 ·intro h i M
  by_cases F:i=r
  ·have:=h s X;simp at this;rw[F];exact this
  ·by_cases I:i=s
   ·have:=h r ab;rw[I]
    by_cases af:r=s
    ·omega
    ·simp[af] at this;exact this
   ·have:=h i M;simp[F,I] at this;exact this
 ·intro h i M
  by_cases I:i=s
  ·simp[I];exact h r ab
  ·by_cases F:i=r
   ·have:=h s X;rw[ag I,ad F];exact this
   ·simp[F,I];exact h i M
theorem awp (N:Nat)(a b y:Nat->Rat)(x:Rat):mQ N (λk=>a k-x*b k) y=mQ N a y-x*mQ N b y:=by
 unfold mQ;have:(λk=>(a k-x*b k)*y k)=λk=>a k*y k+(-x)*(b k*y k):=by funext k;grind
 rw[this,wc,Av];grind
theorem aie (N:Nat)(a y:Nat->Rat)(x:Rat):mQ N (λk=>a k/x) y=mQ N a y/x:=by
 unfold mQ;have:(λk=>(a k/x)*y k)=λk=>(1/x)*(a k*y k):=by funext k;grind
 rw[this,Av];grind
theorem Zr {N r s c:Nat}{A:eD}{y:Nat->Rat}(ab:r<N)(X:s<N)(bG:A s c≠0):hY N (oO A r c s) y↔hY N A y:=by
 rw[<-awo (A:=A) ab X];have aLZ:ho A r s r c≠0:=by rw[QM];exact bG
 generalize cS:ho A r s=S at *
 have d1:∀i,i≠r->mQ N (oO A r c s i) y=mQ N (S i) y-S i c*(mQ N (S r) y/S r c):=by
  intro i M;have:oO A r c s i=λk=>S i k-S i c*(S r k/S r c):=by funext k;unfold oO;rw[cS,ag M]
  rw[this,awp N (S i) (λk=>S r k/S r c) y (S i c),aie]
 have d2:mQ N (oO A r c s r) y=mQ N (S r) y/S r c:=by
  have:oO A r c s r=λk=>S r k/S r c:=by funext k;unfold oO;rw[cS,ad rfl]
  rw[this,aie]
 unfold hY
 constructor
 ·intro h
  have ao:mQ N (S r) y=0:=by
   have:=h r ab;rw[d2] at this;generalize mQ N (S r) y=d at *;grind
  intro i M
  by_cases p0:i=r
  ·rw[p0];exact ao
  ·have:=h i M;rw[d1 i p0,ao] at this;generalize mQ N (S i) y=d at *;grind
 ·intro h i M;have ao:=h r ab
  by_cases p0:i=r
  ·rw[p0,d2,ao];grind
  ·rw[d1 i p0,ao,h i M];grind
structure qU (N:Nat) (aN:eD) (p c:Nat) (cu:Nat->Nat):Prop where
 lZ:p<=c
 lt:∀j,j<p->cu j<c
 unit:∀j,j<p->∀i,i<N->aN i (cu j)=if i=j then 1 else 0
 zero:∀i,p<=i->i<N->∀k,k<c->aN i k=0
theorem qU.free {N p c:Nat}{aN:eD}{cu:Nat->Nat}(h:qU N aN p c cu)(aX:∀i,p<=i->i<N->aN i c=0):qU N aN p (c+1) cu :=
 ⟨by have:=h.lZ;omega,λj ai=>by have:=h.lt j ai;omega,h.unit,λi M gF k O=>by
  by_cases Ca:k=c
  ·rw[Ca];exact aX i M gF
  ·exact h.zero i M gF k (by omega)⟩
theorem qU.EF {N p c s:Nat}{aN:eD}{cu:Nat->Nat}(h:qU N aN p c cu)(aF:p<N)(X:p<=s)(Aw:s<N)(bG:aN s c≠0):qU N (oO aN p c s) (p+1) (c+1) (λj=>if j=p then c else cu j):=by
 have cS:∀i,i<N->∃bk,bk<N/\ho aN p s i=aN bk/\(i<p->bk=i)/\(p<=i->p<=bk):=by
  intro i M;unfold ho
  by_cases F:i=s
  ·exact⟨p,aF,by rw[ad F],by omega,by omega⟩
  ·by_cases I:i=p
   ·exact⟨s,Aw,by rw[ag F,ad I],by omega,by omega⟩
   ·exact⟨i,M,by rw[ag F,ag I],by omega,by omega⟩
 have aL0:ho aN p s p c≠0:=by rw[QM];exact bG
 have aX:∀i,p<=i->i<N->∀k,k<c->ho aN p s i k=0:=by
  intro i M gF k O;obtain⟨bk,F,I,-,aO⟩:=cS i gF;rw[I];exact h.zero bk (aO M) F k O
 refine⟨by have:=h.lZ;omega,λj ai=>?_,λj ai i M=>?_,λi M gF k O=>?_⟩
 ·show (if j=p then c else cu j)<c+1
  split
  ·omega
  ·have:=h.lt j (by omega);omega
 ·unfold oO
  by_cases HZ:j=p
  ·simp only[HZ,if_true]
   by_cases nb:i=p
   ·rw[ad nb,ad nb];grind
   ·rw[ag nb,ag nb];grind
  ·simp only[HZ,if_false];have pG:j<p:=by omega
   have aC:ho aN p s p (cu j)=0:=aX p (bZ _) aF _ (h.lt j pG);rw[aC]
   by_cases nb:i=p
   ·rw[ad nb,ag (by omega)];grind
   ·rw[ag nb];obtain⟨bk,F,I,af,aO⟩:=cS i M;rw[I,h.unit j pG bk F];rcases il i p with ay|cj
    ·rw[af ay];grind
    ·rw[ag (by have:=aO cj;omega),ag (by omega)];grind
 ·unfold oO;rw[ag (by omega)]
  by_cases Ca:k=c
  ·subst Ca;grind
  ·rw[aX i (by omega) gF k (by omega),aX p (bZ _) aF k (by omega)];grind
theorem QN (N:Nat)(aN:eD)(cu:Nat->Nat):qU N aN 0 0 cu:=⟨bZ _,λj ai=>by omega,λj ai=>by omega,λi M gF k O=>by omega⟩
end Go.Mini
namespace Go.Mini
open Classical
structure eg where
 aE:Nat
 to:Int
 br:Nat
 am:Rat
theorem EH {a b:Rat}(h:a=b):a<=b:=by rw[h];exact gb
def b8:List eg->(eg->Rat)->Rat
 | [],_=>0
 |c::l,aQ=>aQ c+b8 l aQ
theorem rQ {l:List eg}{aQ bL:eg->Rat}(h:∀c∈l,aQ c=bL c):b8 l aQ=b8 l bL:=by
 induction l with
 |nil=>rfl
 |cons c l az=>rw[b8,b8,h c fZ,az λx Q=>h x (gx _ Q)]
theorem Mi (l:List eg)(aQ bL:eg->Rat):b8 l (λc=>aQ c+bL c)=b8 l aQ+b8 l bL:=by
 induction l with
 |nil=>simp only[b8];grind
 |cons c l az=>rw[b8,b8,b8,az];grind
theorem Mj (l:List eg)(aQ bL:eg->Rat):b8 l (λc=>aQ c-bL c)=b8 l aQ-b8 l bL:=by
 induction l with
 |nil=>simp only[b8];grind
 |cons c l az=>rw[b8,b8,b8,az];grind
theorem QO (l:List eg)(a:Rat)(aQ:eg->Rat):b8 l (λc=>a*aQ c)=a*b8 l aQ:=by
 induction l with
 |nil=>simp only[b8];grind
 |cons c l az=>rw[b8,b8,az];grind
theorem Mk {l:List eg}{aQ:eg->Rat}(h:∀c∈l,aQ c=0):b8 l aQ=0:=by
 induction l with
 |nil=>rfl
 |cons c l az=>rw[b8,h c fZ,az λx Q=>h x (gx _ Q)];grind
theorem EI {l:List eg}{aQ bL:eg->Rat}(h:∀c∈l,aQ c<=bL c):b8 l aQ<=b8 l bL:=by
 induction l with
 |nil=>exact gb
 |cons c l az =>
  have F:=h c fZ;have I:=az λx Q=>h x (gx _ Q);rw[b8,b8];grind
theorem xw {l:List eg}{aQ:eg->Rat}(h:∀c∈l,0<=aQ c):0<=b8 l aQ:=by
 have:=EI (l:=l) (aQ:=λ_=>0) (bL:=aQ) h;rwa [Mk λ_ _=>rfl] at this
theorem Zs {l:List eg}{aQ:eg->Rat}(h:∀c∈l,0<=aQ c)(X:b8 l aQ<=0):∀c∈l,aQ c=0:=by
 induction l with
 |nil=>intro c H;cases H
 |cons c l az =>
  rw[b8] at X;have F:=h c fZ;have I:=xw λx Q=>h x (gx c Q);intro x Q;rcases hj.1 Q with rfl|Q
  ·grind
  ·exact az (λy av=>h y (gx _ av)) (by grind) x Q
theorem awq {l:List eg}{aQ bL:eg->Rat}(h:∀c∈l,aQ c<=bL c){lN:eg}(H:lN∈l)(ay:aQ lN<bL lN):b8 l aQ<b8 l bL:=by
 by_cases X:b8 l aQ<b8 l bL
 ·exact X
 ·have:=Zs (l:=l) (aQ:=λc=>bL c-aQ c) (λc H=>by have:=h c H;grind) (by rw[Mj];grind) lN H;grind
theorem Ml {l:List eg}{aQ:eg->Rat}(h:0<b8 l aQ):∃c∈l,0<aQ c:=by
 apply me;intro aL
 have:=EI (l:=l) (aQ:=aQ) (bL:=λ_=>0) λc H=>by
  apply me;intro I;exact aL ⟨c,H,by grind⟩
 rw[Mk (aQ:=λ_=>(0:Rat)) λ_ _=>rfl] at this;grind
theorem Mm {n:Nat}{f g:Nat->Rat}(h:∀k,k<n->f k<=g k):bH n f<=bH n g:=by
 induction n with
 |zero=>exact gb
 |succ n az =>
  have F:=h n (by omega);have I:=az λk O=>h k (by omega);rw[bH,bH];grind
theorem aif {n:Nat}{f:Nat->Rat}(h:∀k,k<n->0<=f k):0<=bH n f:=by
 have:=Mm (n:=n) (f:=λ_=>0) (g:=f) h;rwa [s5 λ_ _=>rfl] at this
theorem H0 (n:Nat)(f g:Nat->Rat):bH n (λk=>f k-g k)=bH n f-bH n g:=by
 induction n with
 |zero=>simp only[bH];grind
 |succ n az=>rw[bH,bH,bH,az];grind
theorem awr {n:Nat}{f:Nat->Rat}(h:∀k,k<n->0<=f k)(X:bH n f<=0):∀k,k<n->f k=0:=by
 induction n with
 |zero=>intro k O;omega
 |succ n az =>
  rw[bH] at X;have F:=h n (by omega);have I:=aif (n:=n) (f:=f) λk O=>h k (by omega);intro k O
  by_cases H2:k=n
  ·subst H2;grind
  ·exact az (λk O=>h k (by omega)) (by grind) k (by omega)
def qV (C:Nat->Prop)(c:eg):Prop:=∃i:Nat,c.to=i/\C i
theorem Zt {n:Nat}(C:Nat->Prop)(gO:∀i,C i->i<n)(l:List eg)(a:eg->Rat):bH n (λi=>if C i then b8 l (λc=>if c.to=(i:Int) then a c else 0) else 0)=b8 l (λc=>if qV C c then a c else 0):=by
 induction l with
 |nil=>exact s5 λk _=>by split<;>rfl
 |cons c l az =>
  rw[b8,<-az]
  have e:(λi:Nat=>if C i then b8 (c::l) (λc=>if c.to=(i:Int) then a c else 0) else 0)=λi=>(if C i then (if c.to=(i:Int) then a c else 0) else 0)+(if C i then b8 l (λc=>if c.to=(i:Int) then a c else 0) else 0):=by
   funext i
   split
   ·rw[b8]
   ·grind
  rw[e,wc]
  congr 1
  by_cases h:qV C c
  ·obtain⟨i,M,Zu⟩:=h
   rw[yY (gO i Zu) λk O qv=>by
    split
    ·rw[ag (by omega)]
    ·rfl]
   rw[ad Zu,ad M,ad ⟨i,M,Zu⟩]
  ·rw[ag h];refine s5 λk O=>?_
   split
   ·rw[ag λgC=>h ⟨k,gC,by assumption⟩]
   ·rfl
theorem Zv {n:Nat}{l:List eg}(ar:∀c∈l,c.aE<n)(b:Nat->eg->Rat):bH n (λk=>b8 l (λc=>if c.aE=k then b k c else 0))=b8 l (λc=>b c.aE c):=by
 induction l with
 |nil=>exact s5 λk _=>rfl
 |cons c l az =>
  rw[b8,<-az λx Q=>ar x (gx _ Q)];have e:(λk:Nat=>b8 (c::l) (λc=>if c.aE=k then b k c else 0))=λk=>(if c.aE=k then b k c else 0)+b8 l (λc=>if c.aE=k then b k c else 0):=rfl;rw[e,wc]
  congr 1
  rw[yY (ar c fZ) λk _ O=>ag (Ne.symm O),ad rfl]
structure Day where
 n:Nat
 E:Nat->Rat
 cF:List eg
structure Day.de (d:Day):Prop where
 aE:∀c∈d.cF,c.aE<d.n
 to:∀c∈d.cF,c.to<d.n
 br:∀c∈d.cF,c.br<10
 am:∀c∈d.cF,0<=c.am
 E:∀i,i<d.n->0<=d.E i
def Day.bt (d:Day)(k r:Nat):Rat:=b8 d.cF λc=>if c.aE=k/\c.br<r then c.am else 0
def Day.S (d:Day)(k r:Nat):Rat:=b8 d.cF λc=>if c.aE=k/\c.br=r then c.am else 0
theorem Day.Mn (d:Day)(k:Nat):d.bt k 0=0:=Mk λc _=>ag (by omega)
theorem Day.s6 (d:Day)(k r:Nat):d.bt k (r+1)=d.bt k r+d.S k r:=by
 unfold Day.bt Day.S;rw[<-Mi];refine rQ λc _=>?_
 by_cases F:c.aE=k/\c.br<r
 ·rw[ad ⟨F.1,by omega⟩,ad F,ag (by omega)];grind
 ·rw[ag F]
  by_cases I:c.aE=k/\c.br=r
  ·rw[ad ⟨I.1,by omega⟩,ad I];grind
  ·rw[ag (by omega),ag I];grind
theorem Day.de.QP {d:Day}(aa:d.de)(k r:Nat):0<=d.S k r:=xw λc H=>by
 split
 ·exact aa.am c H
 ·exact gb
theorem Day.de.s7 {d:Day}(aa:d.de)(k:Nat){r s:Nat}(h:r<=s):d.bt k r<=d.bt k s:=by
 induction s with
 |zero =>
      obtain rfl:r=0:=by omega
      exact gb
 |succ s az =>
  by_cases ab:r=s+1
  ·rw[ab];exact gb
  ·have F:=az (by omega);have I:=aa.QP k s;rw[d.s6];grind
theorem Day.de.aws {d:Day}(aa:d.de)(k r:Nat):0<=d.bt k r:=by
 have:=aa.s7 k (fv r);rwa [d.Mn] at this
theorem Day.de.QQ {d:Day}(aa:d.de){c:eg}(H:c∈d.cF):c.am<=d.S c.aE c.br:=by
 have:∀l:List eg,(∀x∈l,0<=x.am)->c∈l->c.am<=b8 l λx=>if x.aE=c.aE/\x.br=c.br then x.am else 0:=by
  intro l
  induction l with
  |nil=>intro _ h;cases h
  |cons x l az =>
   intro F I;rw[b8]
   have af:0<=b8 l λx=>if x.aE=c.aE/\x.br=c.br then x.am else 0:=xw λy av=>by
    split
    ·exact F y (gx _ av)
    ·exact gb
   rcases hj.1 I with rfl|I
   ·rw[ad ⟨rfl,rfl⟩];grind
   ·have aO:=az (λy av=>F y (gx _ av)) I;have bm:=F x fZ
    split<;>grind
 exact this d.cF aa.am H
def Day.w (d:Day)(c:eg):Rat:=c.am/d.S c.aE c.br
theorem Day.de.p2 {d:Day}(aa:d.de){c:eg}(H:c∈d.cF):0<=d.w c:=by
 unfold Day.w;have F:=aa.am c H;have I:=aa.QP c.aE c.br;rw[H3]
 exact aih F (by
  rcases Rat.le_iff_lt_or_eq.1 I with h|h
  ·exact Rat.le_of_lt (aii.2 h)
  ·rw[<-h];exact EH Rat.inv_zero.symm)
theorem Day.de.Mo {d:Day}(aa:d.de){c:eg}(H:c∈d.cF)(h:0<c.am):0<d.w c:=by
 unfold Day.w;have I:=aa.QQ H;rw[H3];exact Mp h (aii.2 (by grind))
theorem Day.LX {d:Day}{c:eg}(h:c.am=0):d.w c=0:=by
 unfold Day.w;rw[h,H3,Cp]
theorem Day.Cq {d:Day}{c:eg}(h:0<d.S c.aE c.br):d.w c*d.S c.aE c.br=c.am:=by
 unfold Day.w;grind
theorem Day.de.Mq {d:Day}(aa:d.de)(C:Nat->Prop)(f:Nat->Nat)(cS:∀k,C k->0<d.S k (f k))(x:Nat->Rat):b8 d.cF (λc=>if C c.aE/\c.br=f c.aE then d.w c*x c.aE else 0)=bH d.n (λk=>if C k then x k else 0):=by
 rw[<-Zv aa.aE λk c=>if C k/\c.br=f k then d.w c*x k else 0];refine ks λk O=>?_
 by_cases gO:C k
 ·rw[ad gO];have h3:=cS k gO
  have e:b8 d.cF (λc=>if c.aE=k then (if C k/\c.br=f k then d.w c*x k else 0) else 0)=b8 d.cF λc=>(x k/d.S k (f k))*(if c.aE=k/\c.br=f k then c.am else 0):=by
   refine rQ λc _=>?_
   by_cases F:c.aE=k
   ·by_cases I:c.br=f k
    ·rw[ad F,ad ⟨gO,I⟩,ad ⟨F,I⟩];unfold Day.w;rw[F,I];grind
    ·rw[ad F,ag (λh=>I h.2),ag (λh=>I h.2)];grind
   ·rw[ag F,ag (λh=>F h.1)];grind
  rw[e,QO];show x k/d.S k (f k)*d.S k (f k)=x k;grind
 ·rw[ag gO]
  exact Mk λc _=>by
   split
   ·rw[ag λh=>gO h.1]
   ·rfl
end Go.Mini
namespace Go.Mini
open Classical
def pos (x:Rat):Rat:=if x<=0 then 0 else x
theorem EJ (x:Rat):0<=pos x:=by unfold pos;split<;>grind
theorem Mr (x:Rat):x<=pos x:=by unfold pos;split<;>grind
theorem Zw {x y:Rat}(h:x<=y):pos x<=pos y:=by unfold pos;split<;>split<;>grind
theorem rR {x:Rat}(h:0<=x):pos x=x:=by unfold pos;split<;>grind
theorem uA {x:Rat}(h:x<=0):pos x=0:=ad h
theorem Cr {a x y:Rat}(aP:0<=a)(h:x<=y):a*x<=a*y:=Rat.mul_le_mul_of_nonneg_left h aP
theorem uB {a x:Rat}(aP:0<=a)(h:0<=x):0<=a*x:=aih aP h
def Day.q (d:Day)(f:Nat->Nat)(h:Nat->Rat)(c:eg):Rat:=if c.br<f c.aE then c.am else if c.br=f c.aE then d.w c*pos (h c.aE-d.bt c.aE c.br) else 0
def Day.l (d:Day)(f:Nat->Nat)(P:Nat->Prop)(h:Nat->Rat)(c:eg):Rat:=if c.br<f c.aE then c.am else if c.br=f c.aE/\P c.aE then d.w c*(h c.aE-d.bt c.aE c.br) else 0
def Day.eZ (d:Day)(a:eg->Rat)(i:Nat):Rat:=d.E i+b8 d.cF λc=>if c.to=(i:Int) then a c else 0
theorem Day.EK {d:Day}{a b:eg->Rat}(h:∀c∈d.cF,a c<=b c)(i:Nat):d.eZ a i<=d.eZ b i:=by
 unfold Day.eZ
 have:=EI (l:=d.cF) (aQ:=λc=>if c.to=(i:Int) then a c else 0) (bL:=λc=>if c.to=(i:Int) then b c else 0) λc H=>by
  try dsimp only
  split
  ·exact h c H
  ·exact gb
 grind
theorem Day.aij {d:Day}{a b:eg->Rat}(h:∀c∈d.cF,a c=b c)(i:Nat):d.eZ a i=d.eZ b i:=by
 unfold Day.eZ
 congr 1
 exact rQ λc H=>by rw[h c H]
theorem Day.QR (d:Day)(a b:eg->Rat)(i:Nat):d.eZ a i-d.eZ b i=b8 d.cF λc=>if c.to=(i:Int) then a c-b c else 0:=by
 unfold Day.eZ
 have:(λc:eg=>if c.to=(i:Int) then a c-b c else 0)=λc=>(if c.to=(i:Int) then a c else 0)-(if c.to=(i:Int) then b c else 0):=by
  funext c;split<;>grind
 rw[this,Mj];grind
def Day.gj (d:Day)(C:Nat->Prop)(x:Nat->Rat):Rat:=bH d.n λi=>if C i then x i else 0
theorem Day.awt (d:Day)(C:Nat->Prop)(x y:Nat->Rat):d.gj C (λi=>x i-y i)=d.gj C x-d.gj C y:=by
 unfold Day.gj;rw[<-H0];exact ks λk _=>by split<;>grind
theorem Day.awu (d:Day)(C:Nat->Prop)(x y:Nat->Rat):d.gj C (λi=>x i+y i)=d.gj C x+d.gj C y:=by
 unfold Day.gj;rw[<-wc];exact ks λk _=>by split<;>grind
theorem Day.aik {d:Day}{C:Nat->Prop}{x y:Nat->Rat}(h:∀i,i<d.n->C i->x i<=y i):d.gj C x<=d.gj C y:=by
 refine Mm λk O=>?_
 by_cases H:C k
 ·rw[ad H,ad H];exact h k O H
 ·rw[ag H,ag H];exact gb
theorem Day.EM {d:Day}{C:Nat->Prop}{x y:Nat->Rat}(h:∀i,i<d.n->C i->x i=y i):d.gj C x=d.gj C y:=by
 refine ks λk O=>?_
 split
 ·exact h k O (by assumption)
 ·rfl
theorem Day.Zx {d:Day}{C:Nat->Prop}(gO:∀i,C i->i<d.n)(a:eg->Rat):d.gj C (d.eZ a)=d.gj C d.E+b8 d.cF λc=>if qV C c then a c else 0:=by
 rw[<-Zt C gO];show bH d.n _=bH d.n _+_;rw[<-wc];refine ks λk _=>?_;unfold Day.eZ
 split<;>grind
def Day.closed (d:Day)(f:Nat->Nat)(C:Nat->Prop):Prop:=∀c∈d.cF,C c.aE->c.br=f c.aE->0<c.am->qV C c
def Day.cap (d:Day)(f:Nat->Nat)(g:Nat->Rat)(C:Nat->Prop)(k:Nat):Rat:=if C k then d.bt k (f k) else g k
section
variable {d:Day} {f:Nat->Nat} {P:Nat->Prop} {h g:Nat->Rat} {C:Nat->Prop} {c:eg}
theorem Day.ail (F:c.br<f c.aE):d.l f P h c=c.am:=by unfold Day.l;rw[ad F]
theorem Day.aim (F:c.br=f c.aE)(I:P c.aE):d.l f P h c=d.w c*(h c.aE-d.bt c.aE c.br):=by
 unfold Day.l;rw[ag (by omega),ad ⟨F,I⟩]
theorem Day.Zy (F:¬ c.br<f c.aE)(I:¬ (c.br=f c.aE/\P c.aE)):d.l f P h c=0:=by
 unfold Day.l;rw[ag F,ag I]
theorem Day.awv (F:c.br<f c.aE):d.q f h c=c.am:=by unfold Day.q;rw[ad F]
theorem Day.aww (F:c.br=f c.aE):d.q f h c=d.w c*pos (h c.aE-d.bt c.aE c.br):=by
 unfold Day.q;rw[ag (by omega),ad F]
theorem Day.awx (F:¬ c.br<f c.aE)(I:¬ c.br=f c.aE):d.q f h c=0:=by
 unfold Day.q;rw[ag F,ag I]
theorem Ms (h:¬ C c.aE):d.q f (d.cap f g C) c=d.q f g c:=by
 unfold Day.q Day.cap;rw[ag h]
theorem H4 (h:C c.aE):d.q f (d.cap f g C) c=if c.br<f c.aE then c.am else 0:=by
 by_cases F:c.br<f c.aE
 ·rw[ad F,Day.awv F]
 ·rw[ag F]
  by_cases I:c.br=f c.aE
  ·rw[Day.aww I];unfold Day.cap;rw[ad h,I,uA (by grind),og]
  ·rw[Day.awx F I]
end
structure Inv (d:Day) (f:Nat->Nat) (g:Nat->Rat):Prop where
 le:∀i,f i<=10
 sup:∀i,i<d.n->d.eZ (d.q f g) i<=g i
 cH:∀i,i<d.n->f i<10->d.bt i (f i)<=g i
 M:∀i,i<d.n->f i<10->g i<d.bt i (f i+1)
 cF:∀C:Nat->Prop,(∃i,C i)->(∀i,C i->i<d.n/\f i<10)->d.closed f C->d.gj C (d.eZ (d.q f (d.cap f g C)))<d.gj C λi=>d.bt i (f i)
theorem Inv.rS {d:Day}{f:Nat->Nat}{g:Nat->Rat}(h:Inv d f g){i:Nat}(M:i<d.n)(aI:f i<10):0<d.S i (f i):=by
 have F:=h.cH i M aI;have I:=h.M i M aI;rw[d.s6] at I;grind
theorem Inv.start {d:Day}(aa:d.de):Inv d (λ_=>10) (d.eZ λc=>c.am) :=
 ⟨λ_=>bZ _,λi _=>d.EK (λc H=>by
  unfold Day.q;rw[ad (aa.br c H)];exact gb) i,λi _ h=>absurd h (by omega),λi _ h=>absurd h (by omega),λC ⟨i,M⟩ h=>absurd (h i M).2 (by omega)⟩
theorem Inv.Zz {d:Day}{f:Nat->Nat}{g:Nat->Rat}(M:Inv d f g)(aa:d.de){C:Nat->Prop}(F:∃i,C i)(I:∀i,C i->i<d.n/\f i<10)(af:d.closed f C)(L:eg->Rat)(e:Nat->Rat)(he:∀k,k<d.n->C k->0<=e k)
  (gu:∀c∈d.cF,qV C c->L c<=d.q f (d.cap f g C) c+if C c.aE/\c.br=f c.aE then d.w c*e c.aE else 0):d.gj C (d.eZ L)<d.gj C λi=>d.bt i (f i)+e i:=by
 have cd:=M.cF C F I af;have gO:∀i,C i->i<d.n:=λi h=>(I i h).1;have c0:=aa.Mq C f (λk O=>M.rS (I k O).1 (I k O).2) e;rw[Day.Zx gO] at cd ⊢;rw[Day.awu]
 have ev:b8 d.cF (λc=>if qV C c then L c else 0)<=b8 d.cF λc=>(if qV C c then d.q f (d.cap f g C) c else 0)+(if C c.aE/\c.br=f c.aE then d.w c*e c.aE else 0):=by
  refine EI λc H=>?_
  have ao:0<=if C c.aE/\c.br=f c.aE then d.w c*e c.aE else 0:=by
   split
   ·exact uB (aa.p2 H) (he _ (aa.aE c H) (by rename_i h;exact h.1))
   ·exact gb
  by_cases cD:qV C c
  ·rw[ad cD,ad cD];exact gu c H cD
  ·rw[ag cD,ag cD];grind
 rw[Mi,c0] at ev;have jI:d.gj C e=bH d.n λk=>if C k then e k else 0:=rfl;rw[<-jI] at ev;grind
structure iD (d:Day) (f:Nat->Nat) (g:Nat->Rat) (P:Nat->Prop) (h:Nat->Rat):Prop where
 gH:∀i,P i->i<d.n/\f i<10
 QS:∀C:Nat->Prop,(∃i,C i)->(∀i,C i->P i)->¬ d.closed f C
 sys:∀i,i<d.n->h i=d.eZ (d.l f P h) i
 le:∀i,i<d.n->h i<=g i
 ge:∀i,P i->d.bt i (f i)<h i
theorem Dh {d:Day}{f:Nat->Nat}{g:Nat->Rat}(M:Inv d f g)(aa:d.de){P:Nat->Prop}(gr:∀i,P i->i<d.n/\f i<10)(bO:∀C:Nat->Prop,(∃i,C i)->(∀i,C i->P i)->¬ d.closed f C)(x:Nat->Rat)
  (Q:∀i,i<d.n->(b8 d.cF λc=>if c.to=(i:Int) then (if c.br=f c.aE/\P c.aE then d.w c*x c.aE else 0) else 0)<=x i):∀i,i<d.n->0<=x i:=by
 have key:∀i,P i->0<=x i:=by
  intro i0 sH;apply me;intro kM;obtain⟨C,uC⟩:∃C:Nat->Prop,∀i,C i↔P i/\x i<0:=⟨λi=>P i/\x i<0,λ_=>Iff.rfl⟩;have gO:∀i,C i->i<d.n:=λi h=>(gr i ((uC i).1 h).1).1;refine bO C ⟨i0,(uC i0).2 ⟨sH,by grind⟩⟩ (λi h=>((uC i).1 h).1) ?_
  have aC:=Zt C gO d.cF λc=>if c.br=f c.aE/\P c.aE then d.w c*x c.aE else 0;have aD:=aa.Mq C f (λk O=>M.rS (gr k ((uC k).1 O).1).1 (gr k ((uC k).1 O).1).2) x
  have b9:bH d.n (λi=>if C i then b8 d.cF (λc=>if c.to=(i:Int) then (if c.br=f c.aE/\P c.aE then d.w c*x c.aE else 0) else 0) else 0)<=bH d.n (λk=>if C k then x k else 0):=by
   refine Mm λk O=>?_
   by_cases H:C k
   ·rw[ad H,ad H];exact Q k O
   ·rw[ag H,ag H];exact gb
  rw[aC,<-aD] at b9;have dg:=Zs (l:=d.cF) (aQ:=λc=>(if qV C c then (if c.br=f c.aE/\P c.aE then d.w c*x c.aE else 0) else 0)-(if C c.aE/\c.br=f c.aE then d.w c*x c.aE else 0)) (λc H=>?_) (by rw[Mj];grind)
  ·intro c H gP hZ rT;apply me;intro cD;have:=dg c H
   try dsimp only at this
   rw[ag cD,ad ⟨gP,hZ⟩] at this;have F:=aa.Mo H rT;have I:=((uC _).1 gP).2;have af:0<d.w c*(-x c.aE):=Mp F (by grind);grind
  ·try dsimp only
   have F:=aa.p2 H
   have fw:((if C c.aE/\c.br=f c.aE then d.w c*x c.aE else 0)=(if c.br=f c.aE/\P c.aE then d.w c*x c.aE else 0)/\(if C c.aE/\c.br=f c.aE then d.w c*x c.aE else 0)<=0)\/((if C c.aE/\c.br=f c.aE then d.w c*x c.aE else 0)=0/\0<=(if c.br=f c.aE/\P c.aE then d.w c*x c.aE else 0)):=by
    by_cases gP:C c.aE/\c.br=f c.aE
    ·left
     have I:=(uC _).1 gP.1;have af:0<=d.w c*(-x c.aE):=uB F (by have:=I.2;grind);have aO:c.br=f c.aE/\P c.aE:=⟨gP.2,I.1⟩;rw[ad gP,ad aO];exact⟨rfl,by grind⟩
    ·right
     rw[ag gP];refine⟨rfl,?_⟩
     split
     ·rename_i I;refine uB F ?_;apply me;intro h;exact gP ⟨(uC _).2 ⟨I.2,by grind⟩,I.1⟩
     ·exact gb
   generalize (if C c.aE/\c.br=f c.aE then d.w c*x c.aE else 0)=B at *;generalize (if c.br=f c.aE/\P c.aE then d.w c*x c.aE else 0)=A at *;rcases fw with ⟨I,af⟩|⟨I,af⟩<;>split<;>grind
 intro i cD;refine we ?_ (Q i cD);refine xw λc H=>?_
 split
 ·split
  ·rename_i h;exact uB (aa.p2 H) (key _ h.2)
  ·exact gb
 ·exact gb
theorem Day.awy (d:Day)(f:Nat->Nat)(P:Nat->Prop)(h cG:Nat->Rat)(c:eg):d.l f P cG c-d.l f P h c=if c.br=f c.aE/\P c.aE then d.w c*(cG c.aE-h c.aE) else 0:=by
 unfold Day.l
 by_cases F:c.br<f c.aE
 ·rw[ad F,ad F,ag (by omega)];grind
 ·rw[ag F,ag F]
  split<;>grind
theorem awz {d:Day}{f:Nat->Nat}{g:Nat->Rat}(M:Inv d f g)(aa:d.de){P:Nat->Prop}(gr:∀i,P i->i<d.n/\f i<10)(bO:∀C:Nat->Prop,(∃i,C i)->(∀i,C i->P i)->¬ d.closed f C){h cG:Nat->Rat}
  (e:∀i,i<d.n->h i=d.eZ (d.l f P h) i) (e':∀i,i<d.n->cG i=d.eZ (d.l f P cG) i):∀i,i<d.n->h i=cG i:=by
 have main:∀h cG:Nat->Rat,(∀i,i<d.n->h i=d.eZ (d.l f P h) i)->(∀i,i<d.n->cG i=d.eZ (d.l f P cG) i)->∀i,i<d.n->0<=cG i-h i:=by
  intro h cG e e';refine Dh M aa gr bO (λi=>cG i-h i) λi cD=>?_;rw[e i cD,e' i cD,d.QR];refine EH (rQ λc H=>?_);rw[d.awy]
 intro i cD;have F:=main h cG e e' i cD;have I:=main cG h e' e i cD;grind
theorem awA {d:Day}{f:Nat->Nat}{g:Nat->Rat}(M:Inv d f g)(aa:d.de){P:Nat->Prop}(gr:∀i,P i->i<d.n/\f i<10)(bO:∀C:Nat->Prop,(∃i,C i)->(∀i,C i->P i)->¬ d.closed f C)(x:Nat->Rat)
  (Q:∀i,i<d.n->x i=b8 d.cF λc=>if c.to=(i:Int) then (if c.br=f c.aE/\P c.aE then d.w c*x c.aE else 0) else 0):∀i,i<d.n->x i=0:=by
 intro i cD;have F:=Dh M aa gr bO x (λi cD=>EH (Q i cD).symm) i cD;have I:=Dh M aa gr bO (λi => -x i) (λi cD=>?_) i cD
 ·grind
 ·rw[Q i cD];refine EH ?_;have:∀aQ:eg->Rat,-(b8 d.cF aQ)=b8 d.cF λc=>(-1)*aQ c:=λaQ=>by rw[QO];grind
  rw[this];refine rQ λc H=>?_
  split
  ·split<;>grind
  ·grind
theorem Day.awB {d:Day}(aa:d.de){f:Nat->Nat}{P:Nat->Prop}{h g:Nat->Rat}(hle:∀i,i<d.n->h i<=g i){c:eg}(H:c∈d.cF):d.l f P h c<=d.q f g c:=by
 unfold Day.l Day.q
 by_cases F:c.br<f c.aE
 ·rw[ad F,ad F];exact gb
 ·rw[ag F,ag F]
  by_cases I:c.br=f c.aE
  ·rw[ad I];have hw:=aa.p2 H
   by_cases af:P c.aE
   ·rw[ad ⟨I,af⟩];refine Cr hw (we ?_ (Mr _));have:=hle _ (aa.aE c H);grind
   ·rw[ag λh=>af h.2];exact uB hw (EJ _)
  ·rw[ag λh=>I h.1,ag I];exact gb
theorem iD.start {d:Day}(aa:d.de){f:Nat->Nat}{g:Nat->Rat}(M:Inv d f g){h:Nat->Rat}(X:∀i,i<d.n->h i=d.eZ (d.l f (λ_=>False) h) i):iD d f g (λ_=>False) h :=
 ⟨λi h=>h.elim,λC ⟨i,h⟩ cG=>(cG i h).elim,X,λi cD=>by
  rw[X i cD];refine we (d.EK (b:=d.q f g) (λc H=>?_) i) (M.sup i cD);unfold Day.l Day.q
  by_cases F:c.br<f c.aE
  ·rw[ad F,ad F];exact gb
  ·rw[ag F,ag F,ag λh=>h.2]
   split
   ·exact uB (aa.p2 H) (EJ _)
   ·exact gb,λi h=>h.elim⟩
def s8 (d:Day)(f:Nat->Nat)(P:Nat->Prop)(h:Nat->Rat)(i:Nat):Prop:=P i\/(i<d.n/\f i<10/\d.bt i (f i)<h i)
theorem iD.H5 {d:Day}{f:Nat->Nat}{g:Nat->Rat}{P:Nat->Prop}{h:Nat->Rat}(aF:iD d f g P h):∀i,s8 d f P h i->i<d.n/\f i<10:=λi aL=>aL.elim (aF.gH i) λh=>⟨h.1,h.2.1⟩
theorem iD.ZA {d:Day}{f:Nat->Nat}{g:Nat->Rat}{P:Nat->Prop}{h:Nat->Rat}(aF:iD d f g P h):∀i,s8 d f P h i->d.bt i (f i)<h i:=λi aL=>aL.elim (aF.ge i) λh=>h.2.2
theorem iD.ain {d:Day}(aa:d.de){f:Nat->Nat}{g:Nat->Rat}(M:Inv d f g){P:Nat->Prop}{h:Nat->Rat}(aF:iD d f g P h):∀C:Nat->Prop,(∃i,C i)->(∀i,C i->s8 d f P h i)->¬ d.closed f C:=by
 intro C F I af;have aI:∀i,C i->i<d.n/\f i<10:=λi H=>aF.H5 i (I i H)
 have lA:=M.Zz aa F aI af (d.l f P h) (λk=>if P k then h k-d.bt k (f k) else 0) (λk _ O=>by
  try dsimp only
  split
  ·have:=aF.ge k (by assumption);grind
  ·exact gb) λc H _=>by
   by_cases ev:C c.aE
   ·rw[H4 ev]
    by_cases cd:c.br<f c.aE
    ·rw[Day.ail cd,ad cd,ag (λh=>by have:=h.2;omega)];grind
    ·rw[ag cd]
     by_cases c0:c.br=f c.aE
     ·have pq:C c.aE/\c.br=f c.aE:=⟨ev,c0⟩;rw[ad pq]
      by_cases jI:P c.aE
      ·rw[Day.aim c0 jI,ad jI,c0];grind
      ·rw[Day.Zy cd (λh=>jI h.2),ag jI];grind
     ·rw[Day.Zy cd (λh=>c0 h.1),ag λh=>c0 h.2];grind
   ·rw[Ms ev,ag λh=>ev h.1];have:=Day.awB aa (P:=P) (f:=f) aF.le H;grind
 have e:d.gj C (d.eZ (d.l f P h))=d.gj C h:=Day.EM λi cD _=>(aF.sys i cD).symm;rw[e] at lA
 have:d.gj C (λi=>d.bt i (f i)+if P i then h i-d.bt i (f i) else 0)<=d.gj C h:=by
  refine Day.aik λi cD H=>?_;have:=aF.ZA i (I i H)
  split<;>grind
 grind
theorem iD.next {d:Day}(aa:d.de){f:Nat->Nat}{g:Nat->Rat}(M:Inv d f g){P:Nat->Prop}{h cG:Nat->Rat}(aF:iD d f g P h)(X:∀i,i<d.n->cG i=d.eZ (d.l f (s8 d f P h) cG) i):iD d f g (s8 d f P h) cG:=by
 have bO:=aF.ain aa M
 have ue:∀i,i<d.n->0<=cG i-h i:=by
  refine Dh M aa aF.H5 bO (λi=>cG i-h i) λi cD=>?_;rw[X i cD,aF.sys i cD,d.QR];refine EI λc H=>?_;have hw:=aa.p2 H
  split
  ·unfold Day.l
   by_cases F:c.br<f c.aE
   ·rw[ad F,ad F,ag (by omega)];grind
   ·rw[ag F,ag F]
    by_cases I:c.br=f c.aE
    ·by_cases af:s8 d f P h c.aE
     ·rw[ad ⟨I,af⟩,ad ⟨I,af⟩]
      by_cases aO:P c.aE
      ·rw[ad ⟨I,aO⟩];grind
      ·rw[ag λh=>aO h.2];have bm:=aF.ZA _ af;have:=uB hw (show 0<=h c.aE-d.bt c.aE c.br by rw[I];grind);grind
     ·rw[ag λh=>af h.2,ag λh=>af h.2,ag λh=>af (.inl h.2)];grind
    ·rw[ag λh=>I h.1,ag λh=>I h.1,ag λh=>I h.1];grind
  ·exact gb
 have hle:∀i,i<d.n->0<=g i-cG i:=by
  refine Dh M aa aF.H5 bO (λi=>g i-cG i) λi cD=>?_;refine we ?_ (show d.eZ (d.q f g) i-cG i<=g i-cG i by have:=M.sup i cD;grind);rw[X i cD,d.QR];refine EI λc H=>?_;have hw:=aa.p2 H
  split
  ·unfold Day.l Day.q
   by_cases F:c.br<f c.aE
   ·rw[ad F,ad F,ag (by omega)];grind
   ·rw[ag F,ag F]
    by_cases I:c.br=f c.aE
    ·rw[ad I]
     by_cases af:s8 d f P h c.aE
     ·rw[ad ⟨I,af⟩,ad ⟨I,af⟩];have:=Cr hw (Mr (g c.aE-d.bt c.aE c.br));grind
     ·rw[ag λh=>af h.2,ag λh=>af h.2];have:=uB hw (EJ (g c.aE-d.bt c.aE c.br));grind
    ·rw[ag λh=>I h.1,ag I,ag λh=>I h.1];grind
  ·exact gb
 exact⟨aF.H5,bO,X,λi cD=>by have:=hle i cD;grind,λi aL=>by
  have F:=aF.ZA i aL;have I:=ue i (aF.H5 i aL).1;grind⟩
theorem iD.stop {d:Day}(aa:d.de){f:Nat->Nat}{g:Nat->Rat}{P:Nat->Prop}{h:Nat->Rat}(aF:iD d f g P h)(M:Inv d f g)(Mt:∀i,i<d.n->f i<10->d.bt i (f i)<h i->P i):∀i,i<d.n->h i=d.eZ (d.q f h) i:=by
 intro i cD;rw[aF.sys i cD];refine d.aij (λc H=>?_) i;unfold Day.l Day.q
 by_cases F:c.br<f c.aE
 ·rw[ad F,ad F]
 ·rw[ag F,ag F]
  by_cases I:c.br=f c.aE
  ·rw[ad I]
   by_cases af:P c.aE
   ·rw[ad ⟨I,af⟩,rR];have:=aF.ge _ af;rw[I];grind
   ·rw[ag λh=>af h.2,uA]
    ·grind
    ·apply me;intro aL;refine af (Mt _ (aa.aE c H) (by rw[<-I];exact aa.br c H) ?_);rw[<-I];grind
  ·rw[ag λh=>I h.1,ag I]
end Go.Mini
namespace Go.Mini
open Classical
def Day.fA (d:Day)(h:Nat->Rat)(c:eg):Rat:=if d.bt c.aE (c.br+1)<=h c.aE then c.am else d.w c*pos (h c.aE-d.bt c.aE c.br)
theorem Day.de.QT {d:Day}(aa:d.de){c:eg}(H:c∈d.cF){x:Rat}(h:x<=d.S c.aE c.br):d.w c*x<=c.am:=by
 have ao:=aa.am c H;have F:=aa.QQ H
 by_cases cS:0<d.S c.aE c.br
 ·have:=Cr (aa.p2 H) h;rw[Day.Cq cS] at this;exact this
 ·rw[Day.LX (by grind),Cp];exact ao
theorem Day.de.QU {d:Day}(aa:d.de)(h:Nat->Rat){c:eg}(H:c∈d.cF):d.fA h c<=c.am:=by
 unfold Day.fA
 split
 ·exact gb
 ·rename_i aL;refine aa.QT H ?_;rw[d.s6] at aL;have:=aa.QP c.aE c.br;unfold pos
  split<;>grind
theorem Day.de.ZB {d:Day}(aa:d.de)(h:Nat->Rat){c:eg}(H:c∈d.cF):0<=d.fA h c:=by
 unfold Day.fA
 split
 ·exact aa.am c H
 ·exact uB (aa.p2 H) (EJ _)
theorem Day.de.QV {d:Day}(aa:d.de)(f:Nat->Nat)(h:Nat->Rat){c:eg}(H:c∈d.cF):0<=d.q f h c:=by
 unfold Day.q
 split
 ·exact aa.am c H
 ·split
  ·exact uB (aa.p2 H) (EJ _)
  ·exact gb
theorem Day.de.ZC {d:Day}(aa:d.de){a:eg->Rat}(h:∀c∈d.cF,0<=a c){i:Nat}(M:i<d.n):0<=d.eZ a i:=by
 unfold Day.eZ;have F:=aa.E i M
 have:=xw (l:=d.cF) (aQ:=λc=>if c.to=(i:Int) then a c else 0) λc H=>by
  try dsimp only
  split
  ·exact h c H
  ·exact gb
 grind
theorem Day.de.aio {d:Day}(aa:d.de){f:Nat->Nat}{h g:Nat->Rat}{c:eg}(H:c∈d.cF)(hle:h c.aE<=g c.aE):d.q f h c<=d.q f g c:=by
 unfold Day.q
 split
 ·exact gb
 ·split
  ·exact Cr (aa.p2 H) (Zw (by grind))
  ·exact gb
def ZD (d:Day)(f:Nat->Nat)(h:Nat->Rat)(g6:Nat->Nat):Prop:=(∀i,g6 i<=10)/\(∀i,i<d.n->h i<d.bt i (f i)->g6 i<f i/\d.bt i (g6 i)<=h i/\h i<d.bt i (g6 i+1))/\∀i,i<d.n->d.bt i (f i)<=h i->g6 i=f i
theorem ZE {d:Day}(aa:d.de){f g6:Nat->Nat}{h:Nat->Rat}(aI:ZD d f h g6){c:eg}(H:c∈d.cF):d.q g6 h c<=d.q f h c:=by
 obtain⟨-,F,I⟩:=aI;have bT:=aa.aE c H
 by_cases eA:h c.aE<d.bt c.aE (f c.aE)
 ·obtain⟨cd,c0,ev⟩:=F _ bT eA;unfold Day.q
  by_cases fc:c.br<g6 c.aE
  ·rw[ad fc,ad (by omega)];exact gb
  ·rw[ag fc]
   by_cases ep:c.br=g6 c.aE
   ·rw[ad ep,ad (by omega)];rw[<-ep] at c0 ev;rw[d.s6] at ev;exact aa.QT H (by rw[rR (by grind)];grind)
   ·rw[ag ep];exact aa.QV f h H
 ·have:=I _ bT (by grind);unfold Day.q;rw[this];exact gb
theorem Inv.Mu {d:Day}(aa:d.de){f g6:Nat->Nat}{g h:Nat->Rat}(M:Inv d f g)(yZ:∀i,i<d.n->h i=d.eZ (d.q f h) i)(hle:∀i,i<d.n->h i<=g i)(aI:ZD d f h g6):Inv d g6 h:=by
 have hh:∀i,i<d.n->g6 i<10->d.bt i (g6 i)<=h i:=by
  intro i cD Ci
  by_cases eA:h i<d.bt i (f i)
  ·exact (aI.2.1 i cD eA).2.1
  ·rw[aI.2.2 i cD (by grind)];grind
 have jj:∀i,i<d.n->g6 i<10->h i<d.bt i (g6 i+1):=by
  intro i cD Ci
  by_cases eA:h i<d.bt i (f i)
  ·exact (aI.2.1 i cD eA).2.2
  ·have e:=aI.2.2 i cD (by grind);rw[e] at Ci ⊢;have:=M.M i cD Ci;have:=hle i cD;grind
 have cS:∀i,i<d.n->g6 i<10->0<d.S i (g6 i):=by
  intro i cD Ci;have F:=hh i cD Ci;have I:=jj i cD Ci;rw[d.s6] at I;grind
 refine⟨aI.1,λi cD=>?_,hh,jj,λC F I af=>?_⟩
 ·exact we (d.EK (λc H=>ZE aa aI H) i) (EH (yZ i cD).symm)
 ·have gO:∀i,C i->i<d.n:=λi H=>(I i H).1
  by_cases hex:∃k,C k/\h k<d.bt k (f k)
  ·obtain⟨fE,Dv,eA⟩:=hex;have aip:=gO fE Dv;obtain⟨dh,eK,kd⟩:=aI.2.1 fE aip eA;have qN:=cS fE aip (I fE Dv).2;obtain⟨lN,nx,pb⟩:=Ml qN
   have awC:lN.aE=fE/\lN.br=g6 fE/\0<lN.am:=by
    by_cases aU:lN.aE=fE/\lN.br=g6 fE
    ·rw[ad aU] at pb;exact⟨aU.1,aU.2,pb⟩
    ·rw[ag aU] at pb;exact absurd pb (by grind)
   obtain⟨cT,c7,dZ⟩:=awC;have aC:=Day.Zx gO (d.q f h);have aD:=Day.Zx gO (d.q g6 (d.cap g6 h C));have b9:d.gj C (d.eZ (d.q f h))=d.gj C h:=Day.EM λi cD _=>(yZ i cD).symm;have dg:=aa.Mq C g6 (λk O=>cS k (gO k O) (I k O).2) λk=>h k-d.bt k (g6 k);have dk:d.gj C (λk=>h k-d.bt k (g6 k))=bH d.n λk=>if C k then h k-d.bt k (g6 k) else 0:=rfl;rw[<-dk,d.awt] at dg
   have bE:b8 d.cF (λc=>(if qV C c then d.q g6 (d.cap g6 h C) c else 0)+(if C c.aE/\c.br=g6 c.aE then d.w c*(h c.aE-d.bt c.aE (g6 c.aE)) else 0))<b8 d.cF (λc=>if qV C c then d.q f h c else 0):=by
    refine awq (λc H=>?_) nx ?_
    ·have bT:=aa.aE c H
     by_cases cD:qV C c
     ·rw[ad cD,ad cD]
      by_cases gP:C c.aE
      ·rw[H4 gP]
       by_cases fc:c.br<g6 c.aE
       ·rw[ad fc,ag (by omega)]
        have:c.br<f c.aE:=by
         by_cases eA:h c.aE<d.bt c.aE (f c.aE)
         ·have:=(aI.2.1 _ bT eA).1;omega
         ·rw[<-aI.2.2 _ bT (by grind)];exact fc
        unfold Day.q;rw[ad this];grind
       ·rw[ag fc]
        by_cases ep:c.br=g6 c.aE
        ·rw[ad ⟨gP,ep⟩]
         by_cases eA:h c.aE<d.bt c.aE (f c.aE)
         ·obtain⟨cd,c0,ev⟩:=aI.2.1 _ bT eA;unfold Day.q;rw[ad (by omega)];rw[d.s6] at ev;have:=aa.QT H (x:=h c.aE-d.bt c.aE (g6 c.aE)) (by rw[ep];grind);grind
         ·have e:=aI.2.2 _ bT (by grind);rw[e] at fc ep ⊢;unfold Day.q;rw[ag fc,ad ep,<-ep];have:=Cr (aa.p2 H) (Mr (h c.aE-d.bt c.aE c.br));grind
        ·rw[ag λh=>ep h.2];have:=aa.QV f h H;grind
      ·rw[Ms gP,ag λh=>gP h.1];have:=ZE aa aI H;grind
     ·rw[ag cD,ag cD]
      by_cases gP:C c.aE/\c.br=g6 c.aE
      ·rw[ad gP]
       have:c.am=0:=by
        have ao:=aa.am c H
        by_cases aF:0<c.am
        ·exact absurd (af c H gP.1 gP.2 aF) cD
        ·grind
       rw[Day.LX this];grind
      ·rw[ag gP];grind
    ·have gP:C lN.aE:=by rw[cT];exact Dv
     have hZ:lN.br=g6 lN.aE:=by rw[cT];exact c7
     have cD:=af lN nx gP hZ dZ;rw[ad cD,ad cD,H4 gP,ag (by omega),ad ⟨gP,hZ⟩];unfold Day.q;rw[ad (by rw[cT];omega)];have hw:=aa.Mo nx dZ;have G6:=d.Cq (c:=lN) (by rw[cT,c7];exact qN);rw[d.s6] at kd;rw[<-cT,<-hZ] at kd;rw[<-hZ];have:0<d.w lN*(d.S lN.aE lN.br-(h lN.aE-d.bt lN.aE lN.br)):=Mp hw (by rw[cT] at kd ⊢;grind);grind
   rw[Mi,dg] at bE;grind
  ·have x5:∀k,C k->g6 k=f k:=λk O=>aI.2.2 k (gO k O) (by
    apply me;intro aL;exact hex ⟨k,O,by grind⟩)
   have cd:=M.cF C F (λi H=>⟨gO i H,by rw[<-x5 i H];exact (I i H).2⟩) (λc H gP hZ rT=>af c H gP (by rw[x5 _ gP];exact hZ) rT);have c0:d.gj C (λi=>d.bt i (g6 i))=d.gj C λi=>d.bt i (f i):=Day.EM λi _ H=>by rw[x5 i H]
   rw[c0]
   have ev:d.gj C (d.eZ (d.q g6 (d.cap g6 h C)))<=d.gj C (d.eZ (d.q f (d.cap f g C))):=by
    refine Day.aik λi _ _=>d.EK (λc H=>?_) i
    by_cases gP:C c.aE
    ·rw[H4 gP,H4 gP,x5 _ gP];exact gb
    ·rw[Ms gP,Ms gP];exact we (ZE aa aI H) (aa.aio H (hle _ (aa.aE c H)))
   grind
def Day.pr (d:Day)(h:Nat->Rat)(i:Nat):Rat:=d.eZ (d.fA h) i
theorem awD {d:Day}(aa:d.de){f:Nat->Nat}{g z:Nat->Rat}(M:Inv d f g)(aX:∀i,i<d.n->z i<=g i){c:eg}(H:c∈d.cF):d.fA z c<=d.q f z c:=by
 have bT:=aa.aE c H;have hZ:=aa.br c H;unfold Day.q
 by_cases fc:c.br<f c.aE
 ·rw[ad fc];exact aa.QU z H
 ·rw[ag fc];have gq:f c.aE<10:=by omega
  have F:=M.M _ bT gq;have I:=aX _ bT
  by_cases ep:c.br=f c.aE
  ·rw[ad ep];unfold Day.fA;rw[ag (by rw[ep];grind)];exact gb
  ·rw[ag ep];have af:=aa.s7 c.aE (r:=f c.aE+1) (s:=c.br) (by omega);have aO:=aa.s7 c.aE (r:=c.br) (s:=c.br+1) (by omega);unfold Day.fA;rw[ag (by grind),uA (by grind),og];exact gb
theorem Inv.ZF {d:Day}(aa:d.de){f:Nat->Nat}{g h z:Nat->Rat}(M:Inv d f g)(yZ:∀i,i<d.n->h i=d.eZ (d.q f h) i)(hle:∀i,i<d.n->h i<=g i)(aX:∀i,i<d.n->z i<=d.eZ (d.q f z) i):∀i,i<d.n->z i<=h i:=by
 intro i0 sH;apply me;intro kM;obtain⟨C,uC⟩:∃C:Nat->Prop,∀i,C i↔i<d.n/\h i<z i:=⟨λi=>i<d.n/\h i<z i,λ_=>Iff.rfl⟩;obtain⟨H6,Ax⟩:∃ja:Nat->Prop,∀i,ja i↔C i/\f i<10:=⟨λi=>C i/\f i<10,λ_=>Iff.rfl⟩;have gO:∀i,C i->i<d.n:=λi h=>((uC i).1 h).1;have H7:∀i,C i->h i<z i:=λi h=>((uC i).1 h).2;have bG:∃i,C i:=⟨i0,(uC i0).2 ⟨sH,by grind⟩⟩
 have aC:=Zt C gO d.cF λc=>d.q f z c-d.q f h c;have aD:=aa.Mq H6 f (λk O=>M.rS (gO k ((Ax k).1 O).1) ((Ax k).1 O).2) λk=>z k-h k
 have b9:d.gj C (λi=>z i-h i)<=bH d.n λi=>if C i then b8 d.cF (λc=>if c.to=(i:Int) then d.q f z c-d.q f h c else 0) else 0:=by
  refine Mm λk O=>?_
  by_cases H:C k
  ·rw[ad H,ad H,<-d.QR,<-yZ k O];have F:=aX k O;grind
  ·rw[ag H,ag H];exact gb
 rw[aC] at b9
 have dg:bH d.n (λk=>if H6 k then z k-h k else 0)<=d.gj C (λi=>z i-h i):=by
  refine Mm λk O=>?_
  by_cases H:C k
  ·rw[ad H];have:=H7 k H
   split<;>grind
  ·rw[ag H,ag λh=>H ((Ax k).1 h).1];exact gb
 have aiq:∀c∈d.cF,0<=(if H6 c.aE/\c.br=f c.aE then d.w c*(z c.aE-h c.aE) else 0)-(if qV C c then d.q f z c-d.q f h c else 0):=by
  intro c H;have hw:=aa.p2 H;have bT:=aa.aE c H;have hZ:=aa.br c H
  by_cases F:H6 c.aE/\c.br=f c.aE
  ·rw[ad F];have I:0<=d.w c*(z c.aE-h c.aE):=uB hw (by have:=H7 _ ((Ax _).1 F.1).1;grind)
   have af:d.q f z c-d.q f h c<=d.w c*(z c.aE-h c.aE):=by
    unfold Day.q;rw[ag (by omega),ad F.2,ag (by omega),ad F.2]
    have aO:pos (z c.aE-d.bt c.aE c.br)-pos (h c.aE-d.bt c.aE c.br)<=z c.aE-h c.aE:=by
     have:=H7 _ ((Ax _).1 F.1).1;unfold pos
     split<;>split<;>grind
    have:=Cr hw aO;grind
   split<;>grind
  ·rw[ag F]
   have af:d.q f z c-d.q f h c<=0:=by
    unfold Day.q
    by_cases fc:c.br<f c.aE
    ·rw[ad fc,ad fc];grind
    ·rw[ag fc,ag fc]
     by_cases ep:c.br=f c.aE
     ·rw[ad ep,ad ep]
      have aO:z c.aE<=h c.aE:=by
       apply me;intro aL;exact F ⟨(Ax _).2 ⟨(uC _).2 ⟨bT,by grind⟩,by omega⟩,ep⟩
      have:=Cr hw (Zw (show z c.aE-d.bt c.aE c.br<=h c.aE-d.bt c.aE c.br by grind));grind
     ·rw[ag ep,ag ep];grind
   split<;>grind
 have awE:=Zs aiq (by rw[Mj,aD];grind)
 have ZG:∀k,C k->f k<10:=by
  have:bH d.n (λk=>(if C k then z k-h k else 0)-(if H6 k then z k-h k else 0))<=0:=by
   rw[H0];have:0<=b8 d.cF λc=>(if H6 c.aE/\c.br=f c.aE then d.w c*(z c.aE-h c.aE) else 0)-(if qV C c then d.q f z c-d.q f h c else 0):=xw aiq;rw[Mj,aD] at this;have bm:d.gj C (λi=>z i-h i)=bH d.n λk=>if C k then z k-h k else 0:=rfl;grind
  have aL:=awr (λk O=>by
   try dsimp only
   by_cases H:C k
   ·rw[ad H];have:=H7 k H
    split<;>grind
   ·rw[ag H,ag λh=>H ((Ax k).1 h).1];grind) this
  intro k O;apply me;intro gq;have:=aL k (gO k O)
  try dsimp only at this
  rw[ad O,ag λh=>gq ((Ax k).1 h).2] at this;have:=H7 k O;grind
 have cD:∀c∈d.cF,C c.aE->c.br=f c.aE->0<c.am->qV C c/\d.bt c.aE c.br<=h c.aE:=by
  intro c H gP hZ rT;have ao:=awE c H;have hw:=aa.Mo H rT;have ay:=H7 _ gP
  try dsimp only at ao
  rw[ad ⟨(Ax _).2 ⟨gP,ZG _ gP⟩,hZ⟩] at ao
  by_cases cD:qV C c
  ·refine⟨cD,?_⟩;rw[ad cD] at ao;unfold Day.q at ao;rw[ag (by omega),ad hZ,ag (by omega),ad hZ] at ao;apply me;intro aL;rw[uA (x:=h c.aE-d.bt c.aE c.br) (by grind)] at ao
   have aO:0<z c.aE-h c.aE-pos (z c.aE-d.bt c.aE c.br):=by
    unfold pos
    split<;>grind
   have:=Mp hw aO;grind
  ·rw[ag cD] at ao;have:0<d.w c*(z c.aE-h c.aE):=Mp hw (by grind);grind
 have m8:∀k,C k->d.bt k (f k)<=h k:=by
  intro k O;have X:=M.rS (gO k O) (ZG k O);obtain⟨lN,nx,pb⟩:=Ml X
  by_cases aU:lN.aE=k/\lN.br=f k
  ·rw[ad aU] at pb;have:=(cD lN nx (by rw[aU.1];exact O) (by rw[aU.1];exact aU.2) pb).2;rwa [aU.1,aU.2] at this
  ·rw[ag aU] at pb;exact absurd pb (by grind)
 have lA:=M.Zz aa bG (λi H=>⟨gO i H,ZG i H⟩) (λc H gP hZ rT=>(cD c H gP hZ rT).1) (d.q f h) (λk=>h k-d.bt k (f k)) (λk _ O=>by have:=m8 k O;grind) λc H _=>by
  by_cases gP:C c.aE
  ·rw[H4 gP];unfold Day.q
   by_cases fc:c.br<f c.aE
   ·rw[ad fc,ad fc,ag (by omega)];grind
   ·rw[ag fc,ag fc]
    by_cases ep:c.br=f c.aE
    ·rw[ad ep,ad ⟨gP,ep⟩,ep,rR (by have:=m8 _ gP;grind)];grind
    ·rw[ag ep,ag λh=>ep h.2];grind
  ·rw[Ms gP,ag λh=>gP h.1];have:=aa.aio (f:=f) H (hle _ (aa.aE c H));grind
 have bK:d.gj C (d.eZ (d.q f h))=d.gj C h:=Day.EM λi cD _=>(yZ i cD).symm;have bP:d.gj C (λi=>d.bt i (f i)+(h i-d.bt i (f i)))=d.gj C h:=Day.EM λi _ _=>by grind
 rw[bK,bP] at lA;exact absurd lA (by grind)
theorem Inv.final {d:Day}(aa:d.de){f:Nat->Nat}{g h:Nat->Rat}(M:Inv d f g)(yZ:∀i,i<d.n->h i=d.eZ (d.q f h) i)(hle:∀i,i<d.n->h i<=g i)(h5:∀i,i<d.n->d.bt i (f i)<=h i):(∀i,i<d.n->h i=d.pr h i)/\∀i,i<d.n->(f i<10↔h i<d.bt i 10):=by
 constructor
 ·intro i cD;rw[yZ i cD];unfold Day.pr;have:∀j,j<d.n->h j=d.eZ (d.q f h) j:=yZ;refine d.aij (λc H=>?_) i;have bT:=aa.aE c H;have hZ:=aa.br c H;have ao:=h5 _ bT;unfold Day.q Day.fA
  by_cases fc:c.br<f c.aE
  ·have:=aa.s7 c.aE (r:=c.br+1) (s:=f c.aE) (by omega);rw[ad fc,ad (by grind)]
  ·rw[ag fc];have gq:f c.aE<10:=by omega
   have F:=M.M _ bT gq;have I:=hle _ bT
   by_cases ep:c.br=f c.aE
   ·rw[ad ep,ag (by rw[ep];grind)]
   ·have af:=aa.s7 c.aE (r:=f c.aE+1) (s:=c.br) (by omega);have aO:=aa.s7 c.aE (r:=c.br) (s:=c.br+1) (by omega);rw[ag ep,ag (by grind),uA (by grind),og]
 ·intro i cD
  constructor
  ·intro gq;have F:=M.M _ cD gq;have I:=hle _ cD;have af:=aa.s7 i (r:=f i+1) (s:=10) (by omega);grind
  ·intro F;apply me;intro I;have af:=M.le i;have aO:f i=10:=by omega
   have bm:=h5 i cD;rw[aO] at bm;grind
end Go.Mini
namespace Go.Mini
open Classical
def nJ (d:Day)(f:Nat->Nat)(h:Nat->Rat):Prop:=∃g,Inv d f g/\(∀i,i<d.n->h i=d.eZ (d.q f h) i)/\∀i,i<d.n->h i<=g i
theorem nJ.unique {d:Day}(aa:d.de){f:Nat->Nat}{h cG:Nat->Rat}(a:nJ d f h)(b:nJ d f cG):∀i,i<d.n->h i=cG i:=by
 obtain⟨g,F,I,af⟩:=a;obtain⟨c6,cd,c0,ev⟩:=b;intro i cD;have aC:=F.ZF aa I af (z:=cG) (λi M=>EH (c0 i M)) i cD;have aD:=cd.ZF aa c0 ev (z:=h) (λi M=>EH (I i M)) i cD;grind
def Day.jJ (d:Day)(h:Nat->Rat)(i:Nat):Nat->Nat
 |0=>10
 |k+1=>if h i<d.bt i (10-(k+1)+1) then 10-(k+1) else Day.jJ d h i k
theorem ZH {d:Day}(aa:d.de){h:Nat->Rat}{i:Nat}:∀k,k<=10->d.bt i (10-k)<=h i->(d.jJ h i k=10/\d.bt i 10<=h i)\/(10-k<=d.jJ h i k/\d.jJ h i k<10/\d.bt i (d.jJ h i k)<=h i/\h i<d.bt i (d.jJ h i k+1))
 |0,_,ao => .inl ⟨rfl,ao⟩
 |k+1,O,ao=>by
  unfold Day.jJ
  by_cases F:h i<d.bt i (10-(k+1)+1)
  ·rw[ad F];exact .inr ⟨bZ _,by omega,ao,F⟩
  ·rw[ag F];rcases ZH aa (h:=h) (i:=i) k (by omega) (by rw[show 10-k=10-(k+1)+1 by omega];grind) with e|⟨aC,aD⟩
   ·exact .inl e
   ·exact .inr ⟨by omega,aD⟩
def Day.gH (d:Day)(f:Nat->Nat)(h:Nat->Rat)(i:Nat):Nat:=if i<d.n/\h i<d.bt i (f i) then d.jJ h i 10 else f i
theorem ZI {d:Day}(aa:d.de){f:Nat->Nat}{h:Nat->Rat}(hle:∀i,f i<=10)(ao:∀i,i<d.n->0<=h i):ZD d f h (d.gH f h):=by
 have key:∀i,i<d.n->h i<d.bt i (f i)->d.jJ h i 10<f i/\d.bt i (d.jJ h i 10)<=h i/\h i<d.bt i (d.jJ h i 10+1):=by
  intro i cD eA;have hm:=aa.s7 i (hle i);rcases ZH aa (h:=h) (i:=i) 10 (bZ _) (by rw[lV,d.Mn];exact ao i cD) with ⟨-,e⟩|⟨-,aC,aD,b9⟩
  ·grind
  ·refine⟨?_,aD,b9⟩;apply me;intro aL;have:=aa.s7 i (r:=f i) (s:=d.jJ h i 10) (by omega);grind
 refine⟨λi=>?_,λi cD eA=>?_,λi cD eA=>?_⟩
 ·unfold Day.gH
  split
  ·rename_i aU;have:=(key i aU.1 aU.2).1;have:=hle i;omega
  ·exact hle i
 ·unfold Day.gH;rw[ad ⟨cD,eA⟩];exact key i cD eA
 ·unfold Day.gH;rw[ag λaU=>by have:=aU.2;grind]
theorem nJ.Mu {d:Day}(aa:d.de){f:Nat->Nat}{h:Nat->Rat}(a:nJ d f h):Inv d (d.gH f h) h:=by
 obtain⟨g,F,I,af⟩:=a;exact F.Mu aa I af (ZI aa F.le λi cD=>by rw[I i cD];exact aa.ZC (λc H=>aa.QV f h H) cD)
theorem nJ.QW {d:Day}(aa:d.de){f:Nat->Nat}{h:Nat->Rat}(a:nJ d f h){i:Nat}(cD:i<d.n):0<=h i:=by
 obtain⟨g,F,I,af⟩:=a;rw[I i cD];exact aa.ZC (λc H=>aa.QV f h H) cD
def Day.top (d:Day)(f:Nat->Nat):Nat->Rat:=if h:∃x,nJ d f x then tO h else λ_=>0
def Day.ib (d:Day)(f:Nat->Nat):List Nat:=(dS d.n).filter λi=>decide (d.top f i<d.bt i (f i))
def Day.rounds (d:Day):Nat->(Nat->Nat)->List (List Nat)×(Nat->Nat)
 |0,f=>([],f)
 |k+1,f=>if d.ib f=[] then ([],f) else (d.ib f::(Day.rounds d k (d.gH f (d.top f))).1,(Day.rounds d k (d.gH f (d.top f))).2)
def Reach (d:Day)(f:Nat->Nat):Prop:=∃g,Inv d f g/\∀z,(∀i,i<d.n->z i<=d.pr z i)->∀i,i<d.n->z i<=g i
theorem Reach.start {d:Day}(aa:d.de):Reach d λ_=>10:=⟨_,Inv.start aa,λz aX i cD=>we (aX i cD) (d.EK (λ_ H=>aa.QU z H) i)⟩
def mR:Nat->(Nat->Nat)->Nat
 |0,_=>0
 |n+1,f=>mR n f+f n
theorem awF {n:Nat}{f g:Nat->Nat}(h:∀i,i<n->f i<=g i):mR n f<=mR n g:=by
 induction n with
 |zero=>exact bZ _
 |succ n az =>
  have:=az λi M=>h i (by omega);have:=h n (by omega);simp only[mR];omega
theorem ZJ {n:Nat}{f g:Nat->Nat}(h:∀i,i<n->f i<=g i){j:Nat}(ai:j<n)(ay:f j<g j):mR n f<mR n g:=by
 induction n with
 |zero=>omega
 |succ n az =>
  have F:=h n (by omega);simp only[mR]
  by_cases awG:j=n
  ·subst awG;have:=awF (n:=j) (f:=f) (g:=g) λi M=>h i (by omega);omega
  ·have:=az (λi M=>h i (by omega)) (by omega);omega
theorem Day.Cs {d:Day}{f:Nat->Nat}(h:∃x,nJ d f x):nJ d f (d.top f):=by
 unfold Day.top;rw[dif_pos h];exact o7 h
theorem Day.Mv {d:Day}{f:Nat->Nat}{i:Nat}:i∈d.ib f↔i<d.n/\d.top f i<d.bt i (f i):=by
 unfold Day.ib;rw[s9,ha,decide_eq_true_eq]
section
variable {d:Day} (aa:d.de) (hex:∀f,Reach d f->∃h,nJ d f h)
include aa hex
theorem air {f:Nat->Nat}(ab:Reach d f){z:Nat->Rat}(aX:∀i,i<d.n->z i<=d.pr z i):∀i,i<d.n->z i<=d.top f i:=by
 obtain⟨g,F,I,af⟩:=Day.Cs (hex f ab);obtain⟨c6,cd,c0⟩:=ab;have bF:nJ d f (d.top f):=⟨g,F,I,af⟩
 -- the end of the round below c6
 intro i cD;have Dn:=λk O=>we (aX k O) (d.EK (λ_ H=>awD aa cd (c0 z aX) H) k);exact F.ZF aa I af Dn i cD
theorem Reach.next {f:Nat->Nat}(ab:Reach d f):Reach d (d.gH f (d.top f)):=⟨d.top f,(Day.Cs (hex f ab)).Mu aa,λz aX=>air aa hex ab aX⟩
theorem ZK {f:Nat->Nat}(ab:Reach d f)(bG:d.ib f≠[]):mR d.n (d.gH f (d.top f))<mR d.n f:=by
 obtain⟨i,M⟩:=List.exists_mem_of_ne_nil _ bG;obtain⟨F,I⟩:=Day.Mv.1 M;have bF:=Day.Cs (hex f ab);obtain⟨g,cd,-⟩:=bF;have aI:=ZI aa cd.le (h:=d.top f) λi cD=>(Day.Cs (hex f ab)).QW aa cD;refine ZJ (λj ai=>?_) F (aI.2.1 i F I).1
 by_cases eA:d.top f j<d.bt j (f j)
 ·have:=(aI.2.1 j ai eA).1;omega
 ·rw[aI.2.2 j ai (by grind)];exact bZ _
theorem ais:∀k (f:Nat->Nat),Reach d f->mR d.n f<=k->Reach d (d.rounds k f).2/\d.ib (d.rounds k f).2=[]
 |0,f,ab,O=>by
  refine⟨ab,?_⟩;apply me;intro bG;have:=ZK aa hex ab bG;omega
 |k+1,f,ab,O=>by
  unfold Day.rounds
  by_cases bG:d.ib f=[]
  ·rw[ad bG];exact⟨ab,bG⟩
  ·rw[ag bG];have:=ZK aa hex ab bG;exact ais k _ (ab.next aa hex) (by omega)
end
theorem Day.awH (d:Day){f:Nat->Nat}(h:d.ib f=[]):∀k,d.rounds k f=([],f)
 |0=>rfl
 |k+1=>by unfold Day.rounds;rw[ad h]
end Go.Mini
namespace Go.Mini
abbrev aq:=Int×Int×Int×Int
def hp (n:Int)(c:aq):Bool:=decide (0<=c.1)&&decide (c.1<n)&&decide (-1<=c.2.1)&&decide (c.2.1<n)&&decide (0<=c.2.2.1)&&decide (c.2.2.1<10)&&decide (0<=c.2.2.2)&&decide (c.2.2.2<=1000000000000000)
def hL (E:List Int)(cs:List aq):Bool:=decide (D E<=60)&&decide (D cs<=2000)&&E.all (λx=>decide (0<=x)&&decide (x<=1000000000000000))&&cs.all (hp (D E))
def cC (c:aq):eg:=⟨c.1.toNat,c.2.1,c.2.2.1.toNat,(c.2.2.2:Rat)⟩
def ax (E:List Int)(cs:List aq):Day:=⟨D E,λi=>((E.getD i 0:Int):Rat),cs.map cC⟩
theorem gd {E:List Int}{cs:List aq}:hL E cs=true↔(D E)<=60/\D cs<=2000/\(∀x∈E,0<=x/\x<=1000000000000000)/\∀c∈cs,0<=c.1/\c.1<(D E) /\ -1<=c.2.1/\c.2.1<D E/\0<=c.2.2.1/\c.2.2.1<10/\0<=c.2.2.2/\c.2.2.2<=1000000000000000:=by
 unfold hL hp;simp only[e4,decide_eq_true_eq,List.all_eq_true,and_assoc]
theorem Mw {E:List Int}{cs:List aq}(h:hL E cs=true):(ax E cs).de:=by
 obtain⟨-,-,af,aO⟩:=gd.1 h
 have H:∀x∈(ax E cs).cF,∃c∈cs,x=cC c:=λx Q=>by
  obtain⟨c,H,rfl⟩:=ek.1 Q;exact⟨c,H,rfl⟩
 refine⟨λx Q=>?_,λx Q=>?_,λx Q=>?_,λx Q=>?_,λi M=>?_⟩
 ·obtain⟨c,H,rfl⟩:=H x Q;have:=aO c H;show c.1.toNat<D E;omega
 ·obtain⟨c,H,rfl⟩:=H x Q;have:=aO c H;show c.2.1<(D E:Int);omega
 ·obtain⟨c,H,rfl⟩:=H x Q;have:=aO c H;show c.2.2.1.toNat<10;omega
 ·obtain⟨c,H,rfl⟩:=H x Q;have:=(aO c H).2.2.2.2.2.2.1;show (0:Rat)<=(c.2.2.2:Rat);exact_mod_cast this
 ·show (0:Rat)<=((E.getD i 0:Int):Rat);have kn:i<D E:=M
  have:0<=E.getD i 0:=by
   rw[dY,bx kn];exact (af _ (o1 kn)).1
  exact_mod_cast this
def cv:List aq->(aq->Int)->Int
 | [],_=>0
 |c::l,aQ=>aQ c+cv l aQ
def cU (cs:List aq)(aG r:Int):Int:=cv cs λc=>if c.1=aG/\c.2.2.1<r then c.2.2.2 else 0
theorem Mx (cs:List aq)(aQ:aq->Int)(bL:eg->Rat)(h:∀c∈cs,((aQ c:Int):Rat)=bL (cC c)):((cv cs aQ:Int):Rat)=b8 (cs.map cC) bL:=by
 induction cs with
 |nil=>rfl
 |cons c l az=>rw[cv,eG,b8,uD,h c fZ,az λx Q=>h x (gx _ Q)]
theorem H8 {cs:List aq}{aQ bL:aq->Int}(h:∀c∈cs,aQ c=bL c):cv cs aQ=cv cs bL:=by
 induction cs with
 |nil=>rfl
 |cons c l az=>rw[cv,cv,h c fZ,az λx Q=>h x (gx _ Q)]
theorem H9 {cs:List aq}{aQ:aq->Int}{B:Int}(fw:0<=B)(h:∀c∈cs,0<=aQ c/\aQ c<=B):0<=cv cs aQ/\cv cs aQ<=D cs*B:=by
 induction cs with
 |nil=>simp[cv]
 |cons c l az =>
  have F:=h c fZ;have I:=az λx Q=>h x (gx _ Q);simp only[cv,hN]
  have:((D l+1:Nat):Int)*B=D l*B+B:=by
   rw[Int.natCast_add,Int.add_mul];simp
  omega
theorem My (a b:List aq)(aQ:aq->Int):cv (a++b) aQ=cv a aQ+cv b aQ:=by
 induction a with
 |nil=>simp[cv]
 |cons c l az=>simp only[jW,cv,az];omega
theorem rU {E:List Int}{cs:List aq}(h:hL E cs=true)(i r:Nat):((cU cs i r:Int):Rat)=(ax E cs).bt i r:=by
 refine Mx cs _ (λc=>if c.aE=i/\c.br<r then c.am else 0) λc H=>?_;have:=(gd.1 h).2.2.2 c H;show ((if c.1=(i:Int)/\c.2.2.1<(r:Int) then c.2.2.2 else 0:Int):Rat)=if c.1.toNat=i/\c.2.2.1.toNat<r then (c.2.2.2:Rat) else 0
 by_cases F:c.1=(i:Int)/\c.2.2.1<(r:Int)
 ·rw[ad F,ad (by omega)]
 ·rw[ag F,ag (by omega)];rfl
theorem QX {E:List Int}{cs:List aq}(h:hL E cs=true)(i r:Nat):((cU cs i (r+1:Nat)-cU cs i r:Int):Rat)=(ax E cs).S i r:=by
 have F:=rU h i r;have I:=rU h i (r+1);rw[Ct,F,I,Day.s6];grind
def lk (E:List Int)(cs:List aq)(f:Nat->Nat)(i:Nat):Int:=E.getD i 0+cv cs λc=>if c.2.1=(i:Int)/\c.2.2.1<(f c.1.toNat:Int) then c.2.2.2 else 0
def ext (N:Nat)(y:Nat->Rat)(z:Rat):Nat->Rat:=λk=>if k<N then y k else z
theorem Mz (N:Nat)(a y:Nat->Rat)(z:Rat):mQ N a (ext N y z)=bH N (λk=>a k*y k)+a N*z:=by
 unfold mQ ext;rw[bH]
 congr 1
 ·exact ks λk O=>by rw[ad O]
 ·rw[ag (by omega)]
theorem ZL {N:Nat}{aN:eD}{cu:Nat->Nat}(h:qU N aN N N cu)(ka:∀j,j<N->cu j=j){i:Nat}(M:i<N)(y:Nat->Rat)(z:Rat):mQ N (aN i) (ext N y z)=y i+aN i N*z:=by
 rw[Mz]
 congr 1
 have:∀k,k<N->aN i k=if i=k then 1 else 0:=λk O=>by
  have:=h.unit k O i M;rwa [ka k O] at this
 rw[yY M λk O qv=>by rw[this k O,ag (Ne.symm qv),Cp],this i M,ad rfl,QY]
theorem ait {N:Nat}{aN:eD}{cu:Nat->Nat}(h:qU N aN N N cu)(ka:∀j,j<N->cu j=j)(y:Nat->Rat):hY N aN (ext N y (-1))↔∀i,i<N->y i=aN i N:=by
 unfold hY
 constructor
 ·intro dz i M;have:=dz i M;rw[ZL h ka M] at this;grind
 ·intro dz i M;rw[ZL h ka M,dz i M];grind
theorem awI {N:Nat}{aN:eD}{cu:Nat->Nat}(h:qU N aN N N cu)(ka:∀j,j<N->cu j=j)(y:Nat->Rat)(dz:hY N aN (ext N y 0)):∀i,i<N->y i=0:=by
 intro i M;have:=dz i M;rw[ZL h ka M] at this;grind
def ta (aN:eD)(c:Nat):Nat->Rat:=λk=>if k<c then 0-aN k c else if k=c then 1 else 0
theorem aiu {N c:Nat}{aN:eD}{cu:Nat->Nat}(h:qU N aN c c cu)(ka:∀j,j<c->cu j=j)(H:c<N)(aX:∀i,c<=i->i<N->aN i c=0):hY N aN (ext N (ta aN c) 0):=by
 intro i M;rw[Mz]
 have main:∀n,c<n->n<=N->bH n (λk=>aN i k*ta aN c k)=bH (c+1) (λk=>aN i k*ta aN c k):=by
  intro n
  induction n with
  |zero=>intro h;omega
  |succ n az =>
   intro F I
   by_cases Kg:c=n
   ·rw[Kg]
   ·rw[bH,az (by omega) (by omega)];unfold ta;rw[ag (show ¬ n<c by omega),ag (show ¬ n=c by omega)];grind
 rw[main N H (bZ _),bH];have O:ta aN c c=1:=by unfold ta;rw[ag (by omega),ad rfl]
 rw[O]
 have hu:∀k,k<c->aN i k=if i=k then 1 else 0:=λk O=>by
  have:=h.unit k O i M;rwa [ka k O] at this
 rcases il i c with ay|cj
 ·rw[yY ay λk O qv=>by rw[hu k O,ag (Ne.symm qv),Cp],hu i ay,ad rfl]
  unfold ta;rw[ad ay];grind
 ·rw[s5 λk O=>by rw[hu k O,ag (by omega),Cp],aX i cj M]
  grind
abbrev fW:=Nat->Rat
def ju (n:Nat)(f:List fW->Rat):List fW->List fW->Rat
 |_,[]=>0
 |pre,c::cs=>c n*f (pre++cs)-ju n f (pre++[c]) cs
def gQ:Nat->List fW->Rat
 |0,[]=>1
 |0,_::_=>0
 |n+1,cs=>ju n (gQ n) [] cs
def Cu (x y:fW)(a:Rat):fW:=λi=>x i+a*y i
def ZM (f:List fW->Rat):Prop:=∀A B x y a,f (A++Cu x y a::B)=f (A++x::B)+a*f (A++y::B)
def ZN (f:List fW->Rat):Prop:=∀A B z,f (A++z::z::B)=0
theorem awJ {n:Nat}{f:List fW->Rat}(h:ZM f)(x y:fW)(a:Rat)(A:List fW):∀cs e7,ju n f (A++Cu x y a::e7) cs=ju n f (A++x::e7) cs+a*ju n f (A++y::e7) cs:=by
 intro cs
 induction cs with
 |nil=>intro e7;simp only[ju];grind
 |cons c cs az =>
  intro e7;have e:=az (e7++[c]);simp only[ju,gM,jW] at e ⊢;rw[h A (e7++cs) x y a,e];grind
theorem awK {n:Nat}{f:List fW->Rat}(h:ZM f)(x y:fW)(a:Rat)(B:List fW):∀A pre,ju n f pre (A++Cu x y a::B)=ju n f pre (A++x::B)+a*ju n f pre (A++y::B):=by
 intro A
 induction A with
 |nil =>
  intro pre;have e:=awJ (n:=n) h x y a pre B [];simp only[jo,ju];rw[e];simp only[Cu];grind
 |cons c A az =>
  intro pre;have e:=az (pre++[c]);have aD:=h (pre++A) B x y a;simp only[gM] at aD;simp only[jW,ju];rw[e,aD];grind
theorem EN:∀n,ZM (gQ n)
 |0=>by
  intro A B x y a
  cases A<;>simp only[jo,jW,gQ]<;>grind
 |n+1=>λA B x y a=>awK (EN n) x y a B A []
theorem awL {n:Nat}{f:List fW->Rat}(h:ZN f)(z:fW)(A:List fW):∀cs e7,ju n f (A++z::z::e7) cs=0:=by
 intro cs
 induction cs with
 |nil=>intro e7;rfl
 |cons c cs az =>
  intro e7;have e:=az (e7++[c]);have aD:=h A (e7++cs) z;simp only[ju,gM,jW] at e aD ⊢;rw[e,aD];grind
theorem awM {n:Nat}{f:List fW->Rat}(h:ZN f)(z:fW)(B:List fW):∀A pre,ju n f pre (A++z::z::B)=0:=by
 intro A
 induction A with
 |nil =>
  intro pre;have e:=awL (n:=n) h z pre B [];simp only[jo,ju,gM,jW] at e ⊢;rw[e];grind
 |cons c A az =>
  intro pre;have e:=az (pre++[c]);have aD:=h (pre++A) B z;simp only[gM] at aD;simp only[jW,ju];rw[e,aD];grind
theorem MA:∀n,ZN (gQ n)
 |0=>by
  intro A B z
  cases A<;>rfl
 |n+1=>λA B z=>awM (MA n) z B A []
theorem awN (n:Nat)(A B:List fW)(x y:fW):gQ n (A++x::y::B) = -gQ n (A++y::x::B):=by
 have ao:=MA n A B (Cu x y 1);have F:=EN n A (Cu x y 1::B) x y 1;rw[ao] at F;have I:=EN n (A++[x]) B x y 1;have af:=EN n (A++[y]) B x y 1;simp only[gM,jW,jo] at I af;rw[I,af,MA n A B x,MA n A B y] at F;grind
theorem aiv (n:Nat)(C:List fW)(z:fW):∀B A,gQ n (A++z::(B++z::C))=0:=by
 intro B
 induction B with
 |nil=>intro A;exact MA n A C z
 |cons b B az =>
  intro A;have:=az (A++[b]);simp only[gM,jW,jo] at this ⊢;rw[awN,this];grind
theorem ZO {n:Nat}{A B:List fW}{z:fW}(h:z∈A++B):gQ n (A++z::B)=0:=by
 rcases ko.1 h with h|h
 ·obtain⟨ZP,Ia,rfl⟩:=aiw h;have:=aiv n B z Ia ZP
  simpa only [gM,jW] using this
 ·obtain⟨A2,C5,rfl⟩:=aiw h;exact aiv n C5 z A2 A
theorem awO {n:Nat}{f:List fW->Rat}{z:fW}(aX:z n=0)(h:∀A B,f (A++z::B)=0):(∀cs A e7,ju n f (A++z::e7) cs=0)/\∀A B pre,ju n f pre (A++z::B)=0:=by
 have F:∀cs A e7,ju n f (A++z::e7) cs=0:=by
  intro cs
  induction cs with
  |nil=>intro A e7;rfl
  |cons c cs az =>
   intro A e7;have e:=az A (e7++[c]);have aD:=h A (e7++cs);simp only[ju,gM,jW] at e aD ⊢;rw[e,aD];grind
 refine⟨F,λA=>?_⟩
 induction A with
 |nil =>
  intro B pre;have e:=F B pre [];simp only[jo,ju];rw[e,aX];grind
 |cons c A az =>
  intro B pre;have e:=az B (pre++[c]);have aD:=h (pre++A) B;simp only[gM] at aD;simp only[jW,ju];rw[e,aD];grind
theorem ZQ:∀n (z:fW),(∀i,i<n->z i=0)->∀A B,gQ n (A++z::B)=0
 |0,z,_=>λA B=>by cases A<;>rfl
 |n+1,z,h=>λA B=>(awO (h n (by omega)) (ZQ n z λi M=>h i (by omega))).2 A B []
theorem aix {n:Nat}{e:fW}(h:∀i,i<n->e i=0)(cs:List fW):gQ (n+1) (e::cs)=e n*gQ n cs:=by
 show e n*gQ n ([]++cs)-ju n (gQ n) ([]++[e]) cs=_
 have:∀cs pre,ju n (gQ n) (e::pre) cs=0:=by
  intro cs
  induction cs with
  |nil=>intro pre;rfl
  |cons c cs az =>
   intro pre;have aC:=az (pre++[c]);have aD:=ZQ n e h [] (pre++cs);simp only[ju,jW,jo] at aC aD ⊢;rw[aC,aD];grind
 simp only[jo];rw[this cs []];grind
theorem awP {n:Nat}{f:List fW->Rat}{T:fW->fW}(cQ:∀c,T c n=c n)(h:∀l,f (l.map T)=f l):∀cs pre,ju n f (pre.map T) (cs.map T)=ju n f pre cs:=by
 intro cs
 induction cs with
 |nil=>intro pre;rfl
 |cons c cs az =>
  intro pre;have e:=az (pre++[c]);have aD:=h (pre++cs);simp only[kR,eG,cV] at e aD;simp only[eG,ju];rw[e,aD,cQ]
theorem ZR:∀n (T:fW->fW),(∀c i,i<n->T c i=c i)->∀l,gQ n (l.map T)=gQ n l
 |0,T,_=>λl=>by cases l<;>rfl
 |n+1,T,h=>λl=>awP (λc=>h c n (by omega)) (ZR n T λc i M=>h c i (by omega)) l []
theorem aiy {n:Nat}{α:Type}(l:List α)(f g:α->fW)(h:∀a∈l,∀i,i<n->f a i=g a i):gQ n (l.map f)=gQ n (l.map g):=by
 rw[<-ZR n (λc i=>if i<n then c i else 0) (λc i M=>ad M),<-ZR n (λc i=>if i<n then c i else 0) (λc i M=>ad M) (l.map g)];rw[nq,nq]
 congr 1
 apply lY;intro a aP
 funext i
 simp only[Function.comp]
 split
 ·exact h a aP i (by assumption)
 ·rfl
theorem MB (n:Nat)(A B:List fW)(x:Nat->Rat)(C:Nat->fW):∀m,gQ n (A++(λi=>bH m λl=>x l*C l i)::B)=bH m λl=>x l*gQ n (A++C l::B)
 |0=>ZQ n _ (λi _=>rfl) A B
 |m+1=>by
  have e:=EN n A B (λi=>bH m λl=>x l*C l i) (C m) (x m);rw[MB n A B x C m] at e;exact e
def eO (B:Nat)(x:Rat):Prop:=∃z:Int,x=(z:Rat)/\z.natAbs<=B
theorem eO.mono {A B:Nat}{x:Rat}(h:eO A x)(ar:A<=B):eO B x:=by obtain⟨z,F,I⟩:=h;exact⟨z,F,by omega⟩
theorem eO.mul {A B:Nat}{x y:Rat}(Q:eO A x)(av:eO B y):eO (A*B) (x*y):=by
 obtain⟨z,rfl,I⟩:=Q;obtain⟨w,rfl,cr⟩:=av;exact⟨z*w,by rw[p3],by rw[qH];exact oP I cr⟩
theorem eO.sub {A B:Nat}{x y:Rat}(Q:eO A x)(av:eO B y):eO (A+B) (x-y):=by
 obtain⟨z,rfl,I⟩:=Q;obtain⟨w,rfl,cr⟩:=av;exact⟨z-w,by rw[Ct],by omega⟩
theorem eO.add {A B:Nat}{x y:Rat}(Q:eO A x)(av:eO B y):eO (A+B) (x+y):=by
 obtain⟨z,rfl,I⟩:=Q;obtain⟨w,rfl,cr⟩:=av;exact⟨z+w,by rw[uD],by omega⟩
theorem eO.zero {B:Nat}:eO B 0:=⟨0,by rfl,by simp⟩
theorem eO.int (z:Int):eO z.natAbs (z:Rat):=⟨z,rfl,bZ _⟩
theorem eO.sum {B:Nat}{f:Nat->Rat}:∀n,(∀k,k<n->eO B (f k))->eO (n*B) (bH n f)
 |0,_=>eO.zero
 |n+1,h=>by
  have:=(eO.sum n λk O=>h k (by omega)).add (h n (by omega));exact this.mono (by rw[tx];exact bZ _)
theorem eO.of {z:Int}{B:Nat}(h:z.natAbs<=B):eO B (z:Rat):=⟨z,rfl,h⟩
theorem eO.nat {z:Nat}{B:Nat}(h:z<=B):eO B (z:Rat):=⟨z,(oh _).symm,by omega⟩
def fj:Nat->(Nat->Nat)->Nat
 |0,_=>0
 |n+1,a=>fj n a+a n
theorem MC {n:Nat}{a b:Nat->Nat}(h:∀i,i<n->a i=b i):fj n a=fj n b:=by
 induction n with
 |zero=>rfl
 |succ n az=>rw[fj,fj,az λi M=>h i (by omega),h n (by omega)]
theorem awQ {n:Nat}{a b:Nat->Nat}(h:∀i,i<n->a i<=b i):fj n a<=fj n b:=by
 induction n with
 |zero=>exact bZ _
 |succ n az=>exact Nat.add_le_add (az λi M=>h i (by omega)) (h n (by omega))
theorem aiz {N t:Nat}(b:Nat->Nat)(bF:t<N):fj N b=fj N (λi=>if i=t then 0 else b i)+b t:=by
 induction N with
 |zero=>omega
 |succ N az =>
  by_cases h:t=N
  ·subst h;rw[fj,fj,ad rfl];have:fj t b=fj t λi=>if i=t then 0 else b i:=MC λi M=>by rw[ag (by omega)]
   omega
  ·have:=az (by omega);rw[fj,fj,ag (by omega)];omega
theorem ZS {N:Nat}{τ:Nat->Nat}:∀{n:Nat} (b:Nat->Nat),(∀i,i<n->τ i<N)->(∀i j,i<n->j<n->τ i=τ j->i=j)->fj n (λi=>b (τ i))<=fj N b
 |0,_,_,_=>fv _
 |n+1,b,F,I=>by
  have az:=ZS (n:=n) (λi=>if i=τ n then 0 else b i) (λi M=>F i (by omega)) λi j M ai=>I i j (by omega) (by omega);rw[aiz b (F n (by omega)),fj]
  have:fj n (λi=>b (τ i))=fj n λi=>if τ i=τ n then 0 else b (τ i):=MC λi M=>by
   rw[ag λh=>by have:=I i n (by omega) (by omega) h;omega]
  omega
def iP:Nat->(Nat->Nat)->Nat
 |0,_=>1
 |n+1,cf=>iP n cf*cf n
theorem aiA {n:Nat}{cf:Nat->Nat}(h:∀k,k<n->0<cf k):0<iP n cf:=by
 induction n with
 |zero=>exact ZT
 |succ n az=>exact MD (az λk O=>h k (by omega)) (h n (by omega))
theorem ZU {n b:Nat}{cf:Nat->Nat}(h:∀k,k<n->cf k<=2^b):iP n cf<=2^(n*b):=by
 induction n with
 |zero=>simp[iP]
 |succ n az =>
  rw[tx,wg];exact oP (az λk O=>h k (by omega)) (h n (by omega))
theorem aiB {n:Nat}{cf:Nat->Nat}{k:Nat}(O:k<n):∃m,iP n cf=cf k*m:=by
 induction n with
 |zero=>omega
 |succ n az =>
  by_cases H2:k=n
  ·subst H2;exact⟨iP k cf,rz _ _⟩
  ·obtain⟨m,hm⟩:=az (by omega);exact⟨m*cf n,by rw[iP,hm,EO]⟩
theorem aiC {p:Nat}{cf:Nat->Nat}(h7:∀k,0<cf k):∀{N:Nat},p<=N->∃bU,0<bU/\iP N cf=iP p cf*bU/\∀k,p<=k->k<N->∃m,bU=cf k*m
 |0,h=>⟨1,ZT,by rw[show p=0 by omega];rfl,λk _ h=>by omega⟩
 |N+1,h=>by
  by_cases aF:p=N+1
  ·exact⟨1,ZT,by rw[aF,cL],λk F I=>by omega⟩
  ·obtain⟨bU,ao,F,I⟩:=aiC (p:=p) h7 (N:=N) (by omega);refine⟨bU*cf N,MD ao (h7 N),by rw[iP,F,EO],λk cd c0=>?_⟩
   by_cases O:k=N
   ·exact⟨bU,by rw[O,rz]⟩
   ·obtain⟨m,hm⟩:=I k cd (by omega);exact⟨m*cf N,by rw[hm,EO]⟩
abbrev Ib:=fW×(Nat->Nat)
def nc (n:Nat):List Ib->Nat
 | []=>1
 |p::l=>fj n p.2*nc n l
theorem awR (n:Nat)(a b:List Ib):nc n (a++b)=nc n a*nc n b:=by
 induction a with
 |nil=>simp[nc]
 |cons p l az=>simp only[jW,nc,az,EO]
theorem aiD (n:Nat):∀l:List Ib,nc n l<=nc (n+1) l
 | []=>bZ _
 |p::l=>oP (Nat.le_add_right _ _) (aiD n l)
theorem aiE {n:Nat}{f:List fW->Rat}(h:∀l:List Ib,(∀p∈l,∀i,i<n->eO (p.2 i) (p.1 i))->eO (nc n l) (f (l.map (·.1)))):
  ∀cs pre:List Ib,(∀p∈pre++cs,∀i,i<n+1->eO (p.2 i) (p.1 i))->∃z:Int,ju n f (pre.map (·.1)) (cs.map (·.1))=(z:Rat)/\z.natAbs+nc n pre*nc n cs<=nc n pre*nc (n+1) cs
 | [],pre,_=>⟨0,rfl,by simp[nc]⟩
 |c::cs,pre,aF=>by
  obtain⟨z,F,I⟩:=aiE h cs (pre++[c]) (by simpa using aF);obtain⟨y,cq,cr⟩:=h (pre++cs) λp hm i M=>aF p (by simp only[ko,hj] at hm ⊢;rcases hm with hm|hm<;>simp[hm]) i (by omega)
  obtain⟨x,cd,c0⟩:=aF c (by simp) n (by omega);simp only[kR,eG,cV] at F cq;refine⟨x*y-z,?_,?_⟩
  ·simp only[eG,ju];rw[cd,cq,F,Ct,p3]
  ·rw[awR] at I cr;simp only[nc,fj,cL] at I ⊢;have cT:(x*y-z).natAbs<=x.natAbs*y.natAbs+z.natAbs:=by rw[<-qH];omega
   have c7:=oP c0 (eQ cr (oP (bZ _) (aiD n cs)));generalize nc n pre=P at *;generalize nc n cs=s at *;generalize nc (n+1) cs=S at *;generalize fj n c.2=L at *;generalize c.2 n=a at *;have aC:P*((L+a)*S)=P*L*S+a*(P*S):=by rw[Nat.add_mul,Nat.mul_add,EO,aiF a]
   have aD:P*(L*s)=P*L*s:=(EO _ _ _).symm;rw[aC,aD];omega
theorem aiG:∀n (l:List Ib),(∀p∈l,∀i,i<n->eO (p.2 i) (p.1 i))->eO (nc n l) (gQ n (l.map (·.1)))
 |0,[],_=>⟨1,by rfl,by simp[nc]⟩
 |0,p::l,_=>eO.zero
 |n+1,l,h=>by
  obtain⟨z,F,I⟩:=aiE (f:=gQ n) (aiG n) l [] (by simpa using h);refine⟨z,F,?_⟩;simp only[nc,Nat.one_mul] at I;omega
open Go
def ll (N:Nat)(l:List bo)(q:Nat->Rat):Prop:=l=((dS (N+1)).map q).map au/\∀k,k<=N->dj (q k)
def xx (N:Nat)(rows:List dr)(aN:eD):Prop:=D rows=N/\∀(i:Nat) x,rows[i]?=some x->ll N x.2.2 (aN i)
theorem ll.get {N:Nat}{l:List bo}{q:Nat->Rat}(h:ll N l q){k:Nat}(O:k<=N):l[k]?=some (au (q k)):=by
 rw[h.1,bl,bl,tv (by omega)]
 rfl
theorem ll.len {N:Nat}{l:List bo}{q:Nat->Rat}(h:ll N l q):(D l)=N+1:=by rw[h.1];simp
theorem ll.ZV {N:Nat}{l:List bo}{q:Nat->Rat}(ar:(D l)=N+1)(h:∀k,k<=N->l[k]?=some (au (q k))/\dj (q k)):ll N l q:=by
 refine⟨?_,λk O=>(h k O).2⟩;apply pH;intro k;rcases il k (N+1) with O|O
 ·rw[(h k (by omega)).1,bl,bl,tv O];rfl
 ·rw[kF (by omega),kF (by simp;omega)]
theorem ll.congr {N:Nat}{l:List bo}{q ua:Nat->Rat}(h:ll N l q)(aT:∀k,k<=N->q k=ua k):ll N l ua :=
 ll.ZV h.len λk O=>by rw[<-aT k O];exact⟨h.get O,h.2 k O⟩
theorem ll.cell {N:Nat}{x:dr}{q:Nat->Rat}(h:ll N x.2.2 q){k:Nat}(O:k<=N):cellOf x k=au (q k):=YK (h.get O)
theorem QZ (q:Rat):nF (au q)=decide (q=0):=by
 unfold nF au bQ;rw[qL,beq_iff_eq,decide_eq_true_eq,Int.sign_eq_zero_iff_zero,aiH]
def rV (fF a b:Rat):Bool:=Ae fF b&&m6 a (-(fF*b))
theorem aiI {fF a b:Rat}(aI:dj fF)(aP:dj a)(ah:dj b)(h:rV fF a b=true):
  ob (au fF) (au b)=(au (fF*b),0)/\pf (au a) (au (fF*b))=(au (a-fF*b),0)/\dj (a-fF*b):=by
 unfold rV at h;rw[e4] at h;refine⟨?_,?_,agL h.2⟩
 ·rw[Xk aI ah,h.1];rfl
 ·rw[P3 aP (agM h.1),h.2];rfl
theorem awS {fF a b:Rat}(aI:dj fF)(aP:dj a)(ah:dj b)(h:rV fF a b=false):
  ((ob (au fF) (au b)).2 != 0||(pf (au a) (ob (au fF) (au b)).1).2 != 0)=true:=by
 unfold rV at h;rw[Xk aI ah];rcases F:Ae fF b
 ·rfl
 ·rw[F,gW] at h;show ((pf (au a) (au (fF*b))).2 != 0)=true;rw[P3 aP (agM F),h]
  rfl
theorem awT {fF:Rat}(aI:dj fF):∀(xy pl:List Rat),D xy=(D pl)->(∀x∈xy,dj x)->(∀x∈pl,dj x) ->
  ((∀q∈xy.zip pl,rV fF q.1 q.2=true)->jt (au fF) (xy.map au) (pl.map au) false=((ZW (λa b=>a-fF*b) xy pl).map au,false)/\∀x∈ZW (λa b=>a-fF*b) xy pl,dj x) /\
  ((jt (au fF) (xy.map au) (pl.map au) false).2=false->∀q∈xy.zip pl,rV fF q.1 q.2=true):=by
 intro xy
 induction xy with
 |nil=>intro pl ar _ _;cases pl with
  |nil=>exact⟨λ_=>⟨rfl,by simp⟩,λ_=>by simp⟩
  |cons=>cases ar
 |cons a xy az =>
  intro pl ar F I
  cases pl with
  |nil=>cases ar
  |cons b pl =>
   have aP:=F a fZ;have ah:=I b fZ;obtain⟨i1,i2⟩:=az pl (by simpa using ar) (λx Q=>F x (gx _ Q)) (λx Q=>I x (gx _ Q))
   constructor
   ·intro fi;obtain⟨aC,aD,b9⟩:=aiI aI aP ah (fi (a,b) (by simp));obtain⟨i3,i4⟩:=i1 λq aT=>fi q (by simp only[aiJ,hj];exact .inr aT);refine⟨?_,λx Q=>?_⟩
    ·simp only[eG,jt,aC,aD,aiK,bne_self_eq_false,l2,i3]
    ·rw[aiK,hj] at Q;rcases Q with rfl|Q
     ·exact b9
     ·exact i4 x Q
   ·intro eJ;simp only[eG,jt] at eJ;rcases X:rV fF a b
    ·rw[awS aI aP ah X,YM] at eJ
     cases eJ
    ·obtain⟨aC,aD,b9⟩:=aiI aI aP ah X;simp only[aC,aD,bne_self_eq_false,l2] at eJ;intro q aT;rw[aiJ,hj] at aT;rcases aT with rfl|aT
     ·exact X
     ·exact i2 eJ q aT
theorem awU (n:Nat)(q p:Nat->Rat):((dS n).map q).zip ((dS n).map p)=(dS n).map λk=>(q k,p k):=by
 rw[List.zip_map',]
theorem awV (n:Nat)(f:Rat->Rat->Rat)(q p:Nat->Rat):ZW f ((dS n).map q) ((dS n).map p)=(dS n).map λk=>f (q k) (p k):=by
 rw[List.zipWith_map,List.zipWith_self]
theorem awW {N:Nat}{fF:Rat}{l ak:List bo}{q p:Nat->Rat}(aI:dj fF)(F:ll N l q)(I:ll N ak p):
  ((∀k,k<=N->rV fF (q k) (p k)=true)->(jt (au fF) l ak false).2=false)/\((jt (au fF) l ak false).2=false->ll N (jt (au fF) l ak false).1 (λk=>q k-fF*p k)):=by
 obtain⟨aC,aD⟩:=awT aI ((dS (N+1)).map q) ((dS (N+1)).map p) (by simp) (by
  intro x Q;obtain⟨k,O,rfl⟩:=ek.1 Q;exact F.2 k (by have:=ha.1 O;omega)) (by
  intro x Q;obtain⟨k,O,rfl⟩:=ek.1 Q;exact I.2 k (by have:=ha.1 O;omega))
 rw[<-F.1,<-I.1] at aC aD
 have aX:(∀k,k<=N->rV fF (q k) (p k)=true)↔∀x∈((dS (N+1)).map q).zip ((dS (N+1)).map p),rV fF x.1 x.2=true:=by
  rw[awU];simp only[ek,ha]
  constructor
  ·rintro h x ⟨k,O,rfl⟩;exact h k (by omega)
  ·intro h k O;exact h (q k,p k) ⟨k,by omega,rfl⟩
 refine⟨λh=>by rw[(aC (aX.1 h)).1],λh=>?_⟩
 obtain⟨b9,dg⟩:=aC (aD h);rw[b9,awV] at *;exact⟨rfl,λk O=>dg _ (ek.2 ⟨k,ha.2 (by omega),rfl⟩)⟩
theorem Q0 (fV:List bo)(r c:Nat):∀(i:Nat) (l:List dr),(j9 fV r c i l true).2=true
 |_,[]=>rfl
 |i,x::xs=>by
  unfold j9
  split
  ·exact Q0 fV r c (i+1) xs
  ·rw[YM];exact Q0 fV r c (i+1) xs
theorem aiL {N r c:Nat}{fV:List bo}{p:Nat->Rat}(aF:ll N fV p)(H:c<=N):∀(i:Nat) (l:List dr) (cf:eD),(∀(j:Nat) x,l[j]?=some x->ll N x.2.2 (cf (i+j))) ->
  ((∀j,j<(D l)->i+j≠r->cf (i+j) c≠0->∀k,k<=N->rV (cf (i+j) c) (cf (i+j) k) (p k)=true)->(j9 fV r c i l false).2=false) /\
  ((j9 fV r c i l false).2=false->∀(j:Nat) x,(j9 fV r c i l false).1[j]?=some x->ll N x.2.2 (λk=>if i+j=r then cf (i+j) k else cf (i+j) k-cf (i+j) c*p k))
 |i,[],cf,h=>⟨λ_=>rfl,λ_ j x Q=>by simp[j9] at Q⟩
 |i,x::xs,cf,h=>by
  have ao:=h 0 x rfl;rw[nZ] at ao
  obtain⟨aiM,Q1⟩:=aiL aF H (i+1) xs cf λj y av=>by
   have:=h (j+1) y av;rwa [show i+(j+1)=i+1+j by omega] at this
  have o0:=ao.cell H
  have aiN:(∀j,j<(x::xs).length->i+j≠r->cf (i+j) c≠0->∀k,k<=N->rV (cf (i+j) c) (cf (i+j) k) (p k)=true)->∀j,j<(D xs)->i+1+j≠r->cf (i+1+j) c≠0->∀k,k<=N->rV (cf (i+1+j) c) (cf (i+1+j) k) (p k)=true:=by
   intro aU j ai;have:=aU (j+1) (by simpa using ai);rwa [show i+(j+1)=i+1+j by omega] at this
  unfold j9;rw[o0,QZ]
  by_cases aX:(i==r||decide (cf i c=0))=true
  ·rw[ad aX];refine⟨λaU=>aiM (aiN aU),λah j y av=>?_⟩
   cases j with
   |zero =>
    simp only[zB,cn] at av;subst av;rw[nZ];refine ao.congr λk O=>?_;simp only[yg,beq_iff_eq,decide_eq_true_eq] at aX
    split
    ·rfl
    ·rcases aX with aX|aX
     ·contradiction
     ·rw[aX];grind
   |succ j =>
    have:=Q1 ah j y (by simpa using av);rwa [show i+(j+1)=i+1+j by omega]
  ·rw[ag aX];simp only[yg,beq_iff_eq,decide_eq_true_eq,not_or] at aX;obtain⟨cq,cr⟩:=awW (ao.2 c H) ao aF
   constructor
   ·intro aU;have af:=cq (aU 0 (by simp) (by simpa using aX.1) (by simpa using aX.2));dsimp only;rw[af];exact aiM (aiN aU)
   ·intro ah j y av;dsimp only at ah av;rcases nw:(jt (au (cf i c)) x.2.2 fV false).2
    ·rw[nw] at ah av
     cases j with
     |zero =>
      simp only[zB,cn] at av;subst av;rw[nZ];exact (cr nw).congr λk O=>by rw[ag aX.1]
     |succ j =>
      have:=Q1 ah j y (by simpa using av);rwa [show i+(j+1)=i+1+j by omega]
    ·rw[nw,Q0] at ah
     cases ah
theorem awX {N:Nat}{l:List bo}{q:Nat->Rat}{b:Rat}(h:ll N l q)(ah:dj b)(ao:b≠0):
  ((hW (au b) l).2=false↔∀k,k<=N->xf (q k) b=true)/\((hW (au b) l).2=false->ll N (hW (au b) l).1 (λk=>q k/b)):=by
 have aC:(hW (au b) l).2=false↔∀k,k<=N->xf (q k) b=true:=by
  unfold hW;rw[h.1];simp only[xu,ek,ha]
  constructor
  ·intro aU k O;have:=aU (au (q k)) ⟨q k,⟨k,by omega,rfl⟩,rfl⟩
   rw[P4 (h.2 k O) ah ao] at this;rcases aa:xf (q k) b
   ·rw[aa] at this;exact absurd rfl this
   ·rfl
  ·rintro aU _ ⟨_,⟨k,O,rfl⟩,rfl⟩;rw[P4 (h.2 k (by omega)) ah ao,aU k (by omega)];simp[Ad]
 refine⟨aC,λaU=>?_⟩;have c1:=aC.1 aU;refine ll.ZV (by unfold hW;rw[al,h.len]) λk O=>⟨?_,atX (c1 k O)⟩;unfold hW;rw[bl,h.get O,lB,P4 (h.2 k O) ah ao,c1 k O]
 rfl
theorem xx.row {N:Nat}{rows:List dr}{aN:eD}(h:xx N rows aN){i:Nat}(M:i<N):∃x,rows[i]?=some x/\rowAt rows i=x/\ll N x.2.2 (aN i):=by
 obtain⟨x,Q⟩:∃x,rows[i]?=some x:=⟨_,bx (by have:=h.1;omega)⟩;exact⟨x,Q,xp Q,h.2 i x Q⟩
theorem xx.swap {N:Nat}{rows:List dr}{aN:eD}(h:xx N rows aN){r s:Nat}(ab:r<N)(X:s<N):xx N (qR rows r s) (ho aN r s):=by
 obtain⟨x,Q,ex,oi⟩:=h.row ab;obtain⟨y,av,Tw,awY⟩:=h.row X;unfold qR;rw[ex,Tw];refine⟨by rw[hP,hP];exact h.1,λi z aX=>?_⟩
 rw[nE,nE,hP] at aX;unfold ho
 by_cases F:s=i
 ·rw[ad F,ad (by have:=h.1;omega)] at aX
  cases aX;rw[ad F.symm];exact oi
 ·rw[ag F] at aX;rw[ag (Ne.symm F)]
  by_cases I:r=i
  ·rw[ad I,ad (by have:=h.1;omega)] at aX
   cases aX;rw[ad I.symm];exact awY
  ·rw[ag I] at aX;rw[ag (Ne.symm I)];exact h.2 i z aX
def aiO (N:Nat)(S:eD)(r c:Nat):Prop:=(∀k,k<=N->xf (S r k) (S r c)=true)/\∀i,i<N->i≠r->S i c≠0->∀k,k<=N->rV (S i c) (S i k) (S r k/S r c)=true
theorem aiP {N:Nat}{rows:List dr}{aN:eD}(h:xx N rows aN){r c:Nat}(ab:r<N)(H:c<N):
  ((iN rows r c).1=true/\(iN rows r c).2.1=rows/\(iN rows r c).2.2=false/\∀i,r<=i->i<N->aN i c=0) \/
  ((iN rows r c).1=false/\∃s,r<=s/\s<N/\aN s c≠0/\((iN rows r c).2.2=false->xx N (iN rows r c).2.1 (oO aN r c s))/\(aiO N (ho aN r s) r c->(iN rows r c).2.2=false)):=by
 have ar:=h.1;have lA:=ah0 rows r c (by omega)
 have ke:∀i x,r<=i->i<findAt rows r c->rows[i]?=some x->nF (cellOf x c)=true:=by
  intro i x ri nW Q;unfold findAt at nW;have ay:i-r<(rows.drop r).findIdx λx => !nF (cellOf x c):=by omega
  have:=List.not_of_lt_findIdx ay
  have a7:(rows.drop r)[i-r]'(Nat.lt_of_lt_of_le ay ah1)=x:=by
   rw[LZ];have:=(dP.1 Q)
   obtain⟨F,I⟩:=this;simp only[show r+(i-r)=i by omega]
   exact I
  rw[a7] at this
  simpa using this
 unfold iN
 by_cases aI:findAt rows r c=D rows
 ·left
  rw[ad aI];refine⟨rfl,rfl,rfl,λi ri nW=>?_⟩;obtain⟨x,Q,-,oi⟩:=h.row nW;have:=ke i x ri (by omega) Q;rw[oi.cell (by omega),QZ] at this
  simpa using this
 ·right
  rw[ag aI];refine⟨rfl,findAt rows r c,lA.1,by omega,?_,?_⟩
  ·obtain⟨x,Q,-,oi⟩:=h.row (i:=findAt rows r c) (by omega);have ay:findAt rows r c-r<(rows.drop r).length:=by rw[ry];omega
   have I:(rows.drop r).findIdx (λx => !nF (cellOf x c))<(rows.drop r).length:=by
    unfold findAt at ay;omega
   have af:=aiQ (w:=I)
   have a7:(rows.drop r)[(rows.drop r).findIdx λx => !nF (cellOf x c)]=x:=by
    rw[LZ];exact (dP.1 Q).2
   rw[a7,oi.cell (by omega),QZ] at af
   simpa using af
  ·have X:findAt rows r c<N:=by omega
   have Ap:=h.swap ab X
   have bG:ho aN r (findAt rows r c) r c≠0:=by
    rw[QM];obtain⟨x,Q,-,oi⟩:=h.row X
    have I:(rows.drop r).findIdx (λx => !nF (cellOf x c))<(rows.drop r).length:=by
     rw[ry];unfold findAt at X;omega
    have af:=aiQ (w:=I)
    have a7:(rows.drop r)[(rows.drop r).findIdx λx => !nF (cellOf x c)]=x:=by
     rw[LZ];exact (dP.1 Q).2
    rw[a7,oi.cell (by omega),QZ] at af
    simpa using af
   have Qz:oO aN r c (findAt rows r c)=λi k=>if i=r then ho aN r (findAt rows r c) r k/ho aN r (findAt rows r c) r c else ho aN r (findAt rows r c) i k-ho aN r (findAt rows r c) i c*(ho aN r (findAt rows r c) r k/ho aN r (findAt rows r c) r c):=rfl;rw[Qz];generalize qR rows r (findAt rows r c)=ia at *;generalize ho aN r (findAt rows r c)=S at *;obtain⟨x,Q,ex,oi⟩:=Ap.row ab;rw[ex,oi.cell (by omega)];obtain⟨d1,d2⟩:=awX oi (oi.2 c (by omega)) bG
   have z1:Ez ia r c=ia.set r (x.1,x.2.1,(hW (au (S r c)) x.2.2).1):=by
    unfold Ez;rw[ex,oi.cell (by omega)]
   rw[z1]
   have ZX:ll N (hW (au (S r c)) x.2.2).1 (λk=>S r k/S r c)->∀(j:Nat) y,(ia.set r (x.1,x.2.1,(hW (au (S r c)) x.2.2).1))[j]?=some y->ll N y.2.2 ((λi=>if i=r then λk=>S r k/S r c else S i) (0+j)):=by
    intro aa j y av;rw[kY];rw[nE] at av
    by_cases ai:r=j
    ·rw[ad ai,ad (by have:=Ap.1;omega)] at av
     cases av;dsimp only;rw[ad ai.symm];exact aa
    ·rw[ag ai] at av;dsimp only;rw[ag (Ne.symm ai)];exact Ap.2 j y av
   dsimp only;rcases w0:(hW (au (S r c)) x.2.2).2
   ·have aa:=d2 w0;obtain⟨fc,ep⟩:=aiL (r:=r) (c:=c) aa (by omega) 0 (ia.set r (x.1,x.2.1,(hW (au (S r c)) x.2.2).1)) (λi=>if i=r then λk=>S r k/S r c else S i) (ZX aa)
    constructor
    ·intro ah;refine⟨?_,λi z aX=>?_⟩
     ·have:=congrArg D (QH (hW (au (S r c)) x.2.2).1 r c 0 (ia.set r (x.1,x.2.1,(hW (au (S r c)) x.2.2).1)) false);rw[al,al,hP] at this;rw[this];exact Ap.1
     ·have:=ep ah i z aX;rw[kY] at this;refine this.congr λk O=>?_
      by_cases p0:i=r
      ·simp only[ad p0]
      ·simp only[ag p0]
    ·intro c1;refine fc λj ai ME bG k O=>?_;rw[kY] at *;simp only[ag ME] at bG ⊢;rw[hP,Ap.1] at ai;exact c1.2 j ai ME bG k O
   ·constructor
    ·intro ah;rw[Q0] at ah
     cases ah
    ·intro c1;rw[d1.2 c1.1] at w0
     cases w0
structure Ic (N:Nat) (aN wh:eD) (rows:List dr) (p c:Nat) (cu:Nat->Nat):Prop where
 enc:xx N rows wh
 red:qU N wh p c cu
 Ie:∀y,hY N wh y↔hY N aN y
theorem awZ (stop:Bool)(N:Nat)(aiR:eD):∀k c rows free aN p cu,c+k=N->Ic N aiR aN rows p c cu->p+D free=c->(stop=true->free=[]/\∀j,j<p->cu j=j) ->
  ∀xz rW,md stop k c rows free false=(xz,rW,false) ->
  ∃wh pK c' y0,Ic N aiR wh xz pK c' y0/\(stop=false->c'=N/\pK+D rW=N) /\
   (stop=true->(rW=[]/\c'=N/\pK=N/\∀j,j<N->y0 j=j)\/(∃f,rW=[f]/\f<N/\pK=f/\c'=f/\(∀j,j<f->y0 j=j)/\∀i,f<=i->i<N->wh i f=0)):=by
 intro k
 induction k with
 |zero =>
  intro c rows free aN p cu H he aF X xz rW Q;simp only[md,fb,and_true] at Q;obtain⟨rfl,rfl⟩:=Q;refine⟨aN,p,c,cu,he,λ_=>⟨by omega,by omega⟩,λh=>?_⟩
  obtain⟨F,I⟩:=X h;subst F;simp only[lD,nZ] at aF;exact .inl ⟨rfl,by omega,by omega,λj ai=>I j (by omega)⟩
 |succ k az =>
  intro c rows free aN p cu H he aF X xz rW Q;have iK:c-D free=p:=by omega
  unfold md at Q;rw[iK] at Q;rcases aiP he.enc (r:=p) (c:=c) (by omega) (by omega) with ⟨F,I,af,aO⟩|⟨F,s,hx,hy,tb,aO,bm⟩
  ·rw[F,I,af,ad rfl] at Q
   cases stop with
   |true =>
    rw[ad rfl] at Q;simp only[fb,and_true] at Q;obtain⟨rfl,rfl⟩:=Q;obtain⟨cq,cr⟩:=X rfl;subst cq;simp only[lD,nZ] at aF;subst aF;exact⟨aN,p,p,cu,he,by simp,λ_ => .inr ⟨p,rfl,by omega,rfl,rfl,cr,aO⟩⟩
   |false =>
    rw[ag (by simp)] at Q;exact az (c+1) rows (free++[c]) aN p cu (by omega) ⟨he.enc,he.red.free aO,he.Ie⟩ (by simp;omega) (by simp) xz rW Q
  ·rw[F,ag (by simp)] at Q;rcases ah:(iN rows p c).2.2
   ·rw[ah] at Q;have ZY:=aO ah;refine az (c+1) _ free (oO aN p c s) (p+1) (λj=>if j=p then c else cu j) (by omega) ⟨ZY,he.red.EF (by omega) hx hy tb,λy=>(Zr (by omega) hy tb).trans (he.Ie y)⟩ (by omega) (λh=>?_) xz rW Q;obtain⟨cq,cr⟩:=X h;refine⟨cq,λj ai=>?_⟩;subst cq;simp only[lD,nZ] at aF;show (if j=p then c else cu j)=j
    split
    ·omega
    ·exact cr j (by omega)
   ·rw[ah,ahX] at Q
    cases Q
def qW (rs:List e1):eD:=λi k=>if k<(D rs) then BZ ((rs.getD i ([],er)).1.getD k er) else BZ (rs.getD i ([],er)).2
theorem aiS {f:bo}(h:ej f=true):f=au (BZ f)/\dj (BZ f):=by
 obtain⟨x,Q,rfl⟩:=(Lx _).1 h;rw[Ei];exact⟨rfl,Q⟩
theorem aw0 {rs:List e1}{n:Int}(h:oc rs n=true):(D rs:Int)=n/\D rs<=40/\∀r∈rs,r.1.length=D rs/\ej r.2=true/\∀f∈r.1,ej f=true:=by
 unfold oc at h;simp only[e4,pU,decide_eq_false_iff_not,beq_iff_eq] at h;obtain⟨F,I,af,aO⟩:=h;refine⟨af,by omega,λr ab=>?_⟩
 rw[xu] at aO;have:=aO r ab;unfold oL Hm at this;simp only[pU,Bool.not_eq_true,Bool.not_eq_false',e4,beq_iff_eq,xu,Bool.not_eq_false] at this;obtain⟨fl,e6,rX⟩:=this;exact⟨by omega,e6,λf aI=>by simpa using rX f aI⟩
theorem aiT {rs:List e1}{i:Nat}{r:e1}(h:rs[i]?=some r):rs.getD i ([],er)=r:=by
 rw[dY,h];rfl
theorem aiU {rs:List e1}{n:Int}(h:oc rs n=true):xx (D rs) (hA rs) (qW rs):=by
 obtain⟨aL,aL1,ZX⟩:=aw0 h;refine⟨EE rs,λi x Q=>?_⟩
 have M:i<D rs:=by
  have:=(dP.1 Q).1;rwa [EE] at this
 obtain⟨r,ab⟩:∃r,rs[i]?=some r:=⟨_,bx M⟩;rw[ahS ab] at Q
 cases Q;obtain⟨aC,aD,b9⟩:=ZX r (ec ab);refine ll.ZV (by simp[aC]) λk O=>?_;unfold qW;rw[aiT ab]
 by_cases gC:k<D rs
 ·rw[ad gC];obtain⟨f,aI⟩:∃f,r.1[k]?=some f:=⟨_,bx (by omega)⟩;obtain⟨fl,e6⟩:=aiS (b9 f (ec aI));rw[rj (by omega),aI,dY,aI];exact⟨congrArg some fl,e6⟩
 ·rw[ag gC];obtain⟨fl,e6⟩:=aiS aD;rw[ss (by omega),aC,show k-D rs=0 by omega]
  exact⟨congrArg some fl,e6⟩
theorem aw1 (stop:Bool){rs:List e1}{n:Int}(h:oc rs n=true){xz:List dr}{rW:List Nat}(Q:qS stop rs=(xz,rW,false)):
  ∃wh pK c' y0,Ic (D rs) (qW rs) wh xz pK c' y0/\(stop=false->c'=D rs/\pK+D rW=D rs) /\
   (stop=true->(rW=[]/\c'=D rs/\pK=D rs/\∀j,j<(D rs)->y0 j=j)\/(∃f,rW=[f]/\f<D rs/\pK=f/\c'=f/\(∀j,j<f->y0 j=j)/\∀i,f<=i->i<(D rs)->wh i f=0)) :=
 awZ stop (D rs) (qW rs) (D rs) 0 (hA rs) [] (qW rs) 0 (λj=>j) (by omega) ⟨aiU h,QN _ _ _,λ_=>Iff.rfl⟩ rfl (λ_=>⟨rfl,λj ai=>by omega⟩) xz rW Q
def MF (N:Nat)(q:Nat->Rat)(b:Nat):Prop:=∃(v:Nat->Int) (d:Int),d≠0/\d.natAbs<=2^b/\∀k,k<=N->q k*(d:Rat)=(v k:Rat)/\(v k).natAbs<=2^b
theorem MF.mono {N a b:Nat}{q:Nat->Rat}(h:MF N q a)(Ai:a<=b):MF N q b:=by
 obtain⟨v,d,F,I,af⟩:=h;have aF:2^a<=2^b:=w7 (by omega) Ai;exact⟨v,d,F,eQ I aF,λk O=>⟨(af k O).1,eQ (af k O).2 aF⟩⟩
theorem aw2 {q:Rat}{v d:Int}(aa:d≠0)(h:q*(d:Rat)=(v:Rat)):q.num*d=v*q.den:=by
 have nn:(d:Rat)≠0:=by rw[Ne,aiV];exact aa
 have e:q=l9 v d:=by rw[MG];grind
 have aD:l9 q.num q.den=l9 v d:=by rw[Rat.num_divInt_den];exact e
 exact (Rat.divInt_eq_divInt_iff (xg q) aa).1 aD
theorem Cv {q:Rat}{v d:Int}(aa:d≠0)(h:q*(d:Rat)=(v:Rat)):q.num.natAbs<=v.natAbs/\q.den<=d.natAbs:=by
 have H:=aw2 aa h
 have lX:q.num.natAbs*d.natAbs=v.natAbs*q.den:=by
  have:=congrArg Int.natAbs H;rwa [qH,qH,mL] at this
 have Bb:q.den∣d.natAbs:=(Nat.Coprime.symm q.reduced).dvd_of_dvd_mul_left ⟨v.natAbs,by rw[lX,rz]⟩
 have WB:0<d.natAbs:=by omega
 have I:=Nat.le_of_dvd WB Bb;refine⟨?_,I⟩;obtain⟨m,hm⟩:=Bb;rw[hm] at lX;have WD:=q.den_pos
 have af:q.num.natAbs*m=v.natAbs:=by
  have:q.den*(q.num.natAbs*m)=q.den*v.natAbs:=by rw[rz q.den v.natAbs,<-lX];rw[aiF]
  exact Nat.eq_of_mul_eq_mul_left WD this
 have k6:0<m:=by
  rcases k4 m with ao|ao
  ·rw[ao,Nat.mul_zero] at hm;omega
  ·exact ao
 rw[<-af];exact Kf _ k6
def dX (b:Nat)(q:Rat):Prop:=q.num.natAbs<=2^b/\q.den<=2^b
theorem MF.sz {N b:Nat}{q:Nat->Rat}(h:MF N q b){k:Nat}(O:k<=N):dX b (q k):=by
 obtain⟨v,d,F,I,af⟩:=h;obtain⟨aC,aD⟩:=af k O;obtain⟨f1,f2⟩:=Cv F aC;exact⟨eQ f1 aD,eQ f2 I⟩
theorem aw3 (a b c:Nat)(h:a=2^b):a^c=2^(b*c):=by rw[h,<-Nat.pow_mul]
theorem aiW:∃B:Nat,B=1200/\ee=2^B:=⟨20*60,rfl,aw3 1048576 20 60 (by decide)⟩
theorem Cw {z:Int}{b:Nat}(h:z.natAbs<=2^b)(ah:b<1200):iM z=true:=by
 obtain⟨B,fw,gu⟩:=aiW;unfold iM;rw[gu,decide_eq_true_eq];exact Nat.lt_of_le_of_lt h (Nat.pow_lt_pow_right (by omega) (by omega))
theorem tc {x y:Int}{a b:Nat}(Q:x.natAbs<=2^a)(av:y.natAbs<=2^b):(x*y).natAbs<=2^(a+b):=by
 rw[qH,wg];exact oP Q av
theorem aiX {x y:Int}{a:Nat}(Q:x.natAbs<=2^a)(av:y.natAbs<=2^a):(x+y).natAbs<=2^(a+1):=by
 have:=Int.natAbs_add_le x y;rw[wR];omega
theorem dX.mono {a b:Nat}{q:Rat}(h:dX a q)(Ai:a<=b):dX b q:=by
 have aF:2^a<=2^b:=w7 (by omega) Ai;exact⟨eQ h.1 aF,eQ h.2 aF⟩
theorem ZZ {x y:Rat}{a b:Nat}(Q:dX a x)(av:dX b y)(h:a+b<1200):Ae x y=true:=by
 unfold Ae;rw[e4];exact⟨Cw (tc Q.1 av.1) h,Cw (tc (x:=(x.den:Int)) (y:=(y.den:Int)) (by simpa using Q.2) (by simpa using av.2)) h⟩
theorem aiY {x y:Rat}{a b:Nat}(Q:dX a x)(av:dX b y)(h:a+b<1200):xf x y=true:=by
 unfold xf;rw[e4];exact⟨Cw (tc (y:=(y.den:Int)) Q.1 (by simpa using av.2)) h,Cw (tc (x:=(x.den:Int)) (by simpa using Q.2) av.1) h⟩
theorem Cx {x y:Rat}{a b:Nat}(Q:dX a x)(av:dX b y)(h:a+b+1<1200):m6 x y=true:=by
 unfold m6;have F:=tc (y:=(y.den:Int)) Q.1 (by simpa using av.2);have I:=tc (y:=(x.den:Int)) av.1 (by simpa using Q.2);rw[A1 b a] at I;simp only[e4];exact⟨Cw F (by omega),Cw I (by omega),Cw (aiX F I) h,Cw (tc (x:=(x.den:Int)) (y:=(y.den:Int)) (by simpa using Q.2) (by simpa using av.2)) (by omega)⟩
theorem Cy {b:Nat}{q:Rat}(h:dX b q):dX b (-q):=⟨by rw[aiZ,Int.natAbs_neg];exact h.1,h.2⟩
theorem Z0 {p q:Int}{b:Nat}(F:p.natAbs<=2^b)(I:q.natAbs<=2^b)(aT:q≠0):dX b (l9 p q):=by
 have aL2:(q:Rat)≠0:=by rw[Ne,aiV];exact aT
 have:=Cv (q:=l9 p q) (v:=p) aT (by rw[MG];grind);exact⟨eQ this.1 F,eQ this.2 I⟩
theorem MH {x y:Rat}{a b:Nat}(Q:dX a x)(av:dX b y):dX (a+b) (x*y):=by
 rw[<-Xh];exact Z0 (tc Q.1 av.1) (tc (x:=(x.den:Int)) (y:=(y.den:Int)) (by simpa using Q.2) (by simpa using av.2)) (Af (xg x) (xg y))
theorem Z1 {x y:Rat}{a b:Nat}(Q:dX a x)(av:dX b y):dX (a+b+1) (x+y):=by
 rw[<-Xg];have F:=tc (y:=(y.den:Int)) Q.1 (by simpa using av.2);have I:=tc (y:=(x.den:Int)) av.1 (by simpa using Q.2);rw[A1 b a] at I;have af:=tc (x:=(x.den:Int)) (y:=(y.den:Int)) (a:=a) (b:=b) (by simpa using Q.2) (by simpa using av.2);exact Z0 (aiX F I) (eQ af (w7 (by omega) (by omega))) (Af (xg x) (xg y))
theorem aw4 {x y:Rat}{a b:Nat}(Q:dX a x)(av:dX b y)(ao:y≠0):dX (a+b) (x/y):=by
 rw[<-Xi];have aL:y.num≠0:=λh=>ao (aiH.1 h);exact Z0 (tc (y:=(y.den:Int)) Q.1 (by simpa using av.2)) (tc (x:=(x.den:Int)) (by simpa using Q.2) av.1) (Af (xg x) aL)
def uE (A:eD)(σ:Nat->Nat)(k:Nat):fW:=λi=>A (σ i) k
def p4:Nat->List Nat
 |0=>[]
 |p+1=>p::p4 p
theorem Cz {k:Nat}:∀{p:Nat},k∈p4 p↔k<p
 |0=>by simp[p4]
 |p+1=>by
  simp only[p4,hj,Cz (p:=p)];omega
theorem ai0 {l:Nat}:∀{p:Nat},l<p->∃dd gi,p4 p=dd++l::gi/\∀m,m∈dd++gi↔m<p/\m≠l
 |0,h=>by omega
 |p+1,h=>by
  by_cases ar:l=p
  ·subst ar;refine⟨[],p4 l,rfl,λm=>?_⟩;rw[jo,Cz];omega
  ·obtain⟨dd,gi,F,I⟩:=ai0 (l:=l) (p:=p) (by omega);refine⟨p::dd,gi,by simp[p4,F],λm=>?_⟩
   rw[jW,hj,I];omega
def rY (A:eD)(σ:Nat->Nat)(p:Nat):List fW:=(p4 p).map (uE A σ)
theorem Q2 {n:Nat}{c c':fW}(dd gi:List fW)(h:∀i,i<n->c i=c' i):gQ n (dd++c::gi)=gQ n (dd++c'::gi):=by
 have:=aiy (n:=n) (dd.map (λx=>(x,x))++(c,c')::gi.map (λx=>(x,x))) B0 Prod.snd (λa aP i M=>by
  simp only[ko,hj,ek] at aP;rcases aP with ⟨x,_,rfl⟩|rfl|⟨x,_,rfl⟩
  ·rfl
  ·exact h i M
  ·rfl)
 simpa [Function.comp_def] using this
theorem ai1 {A:eD}{σ τ:Nat->Nat}{p:Nat}(h:∀i,i<p->σ i=τ i):gQ p (rY A σ p)=gQ p (rY A τ p) :=
 aiy _ _ _ λa _ i M=>by unfold uE;rw[h i M]
def MI (N:Nat)(A aN:eD)(σ:Nat->Nat)(p:Nat):Prop:=∀i,i<N->∀k,p<=k->k<=N->A (σ i) k=(if i<p then 0 else aN i k)+bH p λl=>A (σ i) l*aN l k
def lO (N:Nat)(A aN:eD)(p:Nat):Prop:=∃σ:Nat->Nat,(∀i,i<N->σ i<N)/\(∀i j,i<N->j<N->σ i=σ j->i=j)/\MI N A aN σ p/\gQ p (rY A σ p)≠0
theorem lO.start (N:Nat)(A:eD):lO N A A 0:=by
 refine⟨λi=>i,λi h=>h,λi j _ _ h=>h,λi M k _ O=>?_,?_⟩
 ·rw[ag (by omega)];show A i k=A i k+0;grind
 ·show (1:Rat)≠0;decide
theorem aw5 {p:Nat}(a x y:Nat->Rat)(t:Rat):bH p (λl=>a l*(x l-y l*t))=bH p (λl=>a l*x l)-t*bH p λl=>a l*y l:=by
 have:(λl=>a l*(x l-y l*t))=λl=>a l*x l+(-t)*(a l*y l):=by funext l;grind
 rw[this,wc,Av];grind
theorem lO.step {N p s:Nat}{A aN:eD}(h:lO N A aN p)(aF:p<N)(X:p<=s)(Aw:s<N)(bG:aN s p≠0):lO N A (oO aN p p s) (p+1):=by
 obtain⟨σ,hσ,Ig,ab,aa⟩:=h
 let π:Nat->Nat:=λi=>if i=s then p else if i=p then s else i
 have hπ:∀i,ho aN p s i=aN (π i):=by
  intro i;show (if i=s then aN p else if i=p then aN s else aN i)=aN (if i=s then p else if i=p then s else i)
  split
  ·rfl
  ·split<;>rfl
 have hπN:∀i,i<N->π i<N:=λi M=>by show (if i=s then p else if i=p then s else i)<N;split<;>(try split)<;>omega
 have hπp:∀i,i<p->π i=i:=λi M=>by show (if i=s then p else if i=p then s else i)=i;rw[ag (by omega),ag (by omega)]
 have hπq:∀i,p<=i->p<=π i:=λi M=>by show p<=(if i=s then p else if i=p then s else i);split<;>(try split)<;>omega
 have hπj:∀i j,π i=π j->i=j:=λi j=>by
  show (if i=s then p else if i=p then s else i)=(if j=s then p else if j=p then s else j)->i=j
  (repeat' split)<;>omega
 have ai2:∀i j,i<N->j<N->σ (π i)=σ (π j)->i=j:=λi j M ai h=>hπj i j (Ig _ _ (hπN i M) (hπN j ai) h)
 have cS:MI N A (ho aN p s) (λi=>σ (π i)) p:=by
  intro i M k kS gC;have:=ab (π i) (hπN i M) k kS gC;rw[this]
  congr 1
  ·by_cases nb:i<p
   ·rw[ad nb,ad (by rw[hπp i nb];exact nb)]
   ·rw[ag nb,ag (by have:=hπq i (by omega);omega),hπ]
  ·refine ks λl ar=>?_;rw[hπ l,hπp l ar]
 have aw6:ho aN p s p p≠0:=by rw[QM];exact bG
 generalize aw7:ho aN p s=S at *
 have aT:oO aN p p s=λi k=>if i=p then S p k/S p p else S i k-S i p*(S p k/S p p):=by
  funext i k;unfold oO;rw[aw7]
 rw[aT]
 have nn:gQ p (rY A (λi=>σ (π i)) p)≠0:=by
  rw[ai1 (τ:=σ) λi M=>by show σ (π i)=σ i;rw[hπp i M]]
  exact aa
 have hσ2:∀i,i<N->σ (π i)<N:=λi M=>hσ _ (hπN i M)
 change ∀i,i<N->(λi=>σ (π i)) i<N at hσ2
 change ∀i j,i<N->j<N->(λi=>σ (π i)) i=(λi=>σ (π i)) j->i=j at ai2
 generalize hτ:(λi=>σ (π i))=τ at *;refine⟨τ,hσ2,ai2,λi M k kS gC=>?_,?_⟩
 ·have aC:=cS i M k (by omega) gC;have aD:=cS i M p (by omega) (by omega);simp only[bH,if_true];rw[ks (g:=λl=>A (τ i) l*(S l k-S l p*(S p k/S p p))) λl ar=>by rw[ag (by omega)],aw5]
  generalize bH p (λl=>A (τ i) l*S l k)=dd at *;generalize bH p (λl=>A (τ i) l*S l p)=gi at *
  by_cases F:i<p
  ·rw[ad F] at aC aD;rw[ad (by omega)];grind
  ·rw[ag F] at aC aD
   by_cases I:i=p
   ·subst I;rw[ad (by omega)];grind
   ·rw[ag (by omega),ag I];grind
 ·have H:gQ (p+1) (rY A τ (p+1))=S p p*gQ p (rY A τ p):=by
   show gQ (p+1) ([]++uE A τ p::rY A τ p)=_
   rw[Q2 (c':=Cu (λi=>if i<p then 0 else S i p) (λi=>bH p λl=>S l p*uE A τ l i) 1) [] _ λi M=>by
    have:=cS i (by omega) p (by omega) (by omega);show A (τ i) p=(if i<p then 0 else S i p)+1*bH p λl=>S l p*A (τ i) l;rw[this,QY]
    congr 1
    exact ks λl _=>uF _ _]
   rw[EN,MB,s5 λl ar=>by
    rw[ZO (by rw[jo];exact p5 (Cz.2 ar))];exact og _]
   rw[jo,aix λi M=>ad M,ag (by omega)];grind
  rw[H];intro ao;rcases Z2.1 ao with ao|ao
  ·exact aw6 ao
  ·exact nn ao
theorem aw8 {N p l k:Nat}{A aN:eD}{σ:Nat->Nat}(ab:MI N A aN σ p)(aF:p<=N)(ar:l<p)(kS:p<=k)(gC:k<=N):∃dd gi:List Nat,p4 p=dd++l::gi/\(∀m∈dd++gi,m<p)/\aN l k*gQ p (rY A σ p)=gQ p ((dd++k::gi).map (uE A σ)):=by
 obtain⟨dd,gi,ny,hm⟩:=ai0 ar;refine⟨dd,gi,ny,λm ady=>((hm m).1 ady).1,?_⟩
 ·rw[kR,eG]
  rw[Q2 (c':=λi=>bH p λm=>aN m k*uE A σ m i) _ _ λi M=>by
   have:=ab i (by omega) k kS gC;rw[ad M] at this;show A (σ i) k=bH p λm=>aN m k*A (σ i) m;rw[this,wi];exact ks λl _=>uF _ _]
  rw[MB,yY ar λm aw9 my=>by
   rw[ZO (by rw[<-kR];exact p5 ((hm m).2 ⟨aw9,my⟩))];exact og _]
  unfold rY;rw[ny,kR,eG]
theorem axa {N p i k:Nat}{A aN:eD}{σ:Nat->Nat}(ab:MI N A aN σ p)(ri:p<=i)(nW:i<N)(kS:p<=k)(gC:k<=N):aN i k*gQ p (rY A σ p)=gQ (p+1) ((k::p4 p).map (uE A λj=>if j=p then σ i else σ j)):=by
 have hτ:∀j,j<p->(λj=>if j=p then σ i else σ j) j=σ j:=λj ai=>ag (by omega);have hτp:(λj=>if j=p then σ i else σ j) p=σ i:=ad rfl;generalize (λj=>if j=p then σ i else σ j)=τ at *;show _=gQ (p+1) ([]++uE A τ k::rY A τ p)
 rw[Q2 (c':=Cu (λj=>if j<p then 0 else aN i k) (λj=>bH p λl=>aN l k*uE A τ l j) 1) [] _ λj ai=>by
  show A (τ j) k=(if j<p then 0 else aN i k)+1*bH p λl=>aN l k*A (τ j) l;rw[QY]
  by_cases HZ:j<p
  ·have:=ab j (by omega) k kS gC;rw[ad HZ] at this ⊢;rw[hτ j HZ,this]
   congr 1
   exact ks λl _=>uF _ _
  ·obtain rfl:j=p:=by omega
   have:=ab i nW k kS gC;rw[ag (by omega)] at this;rw[ag HZ,hτp,this]
   congr 1
   exact ks λl _=>uF _ _]
 rw[EN,MB,s5 λl ar=>by
  rw[ZO (by rw[jo];exact p5 (Cz.2 ar))];exact og _]
 rw[jo,aix λi M=>ad M,ag (by omega),ai1 λj ai=>(hτ j ai).symm];grind
theorem axb (n:Nat)(dd gi:List fW)(x:fW)(a:Rat):gQ n (dd++(λi=>a*x i)::gi)=a*gQ n (dd++x::gi):=by
 have:=MB n dd gi (λ_=>a) (λ_=>x) 1;simp only[bH] at this;rw[wi] at this;rw[<-this];exact Q2 dd gi λi _=>(wi _).symm
theorem ai3 (n:Nat)(cf:Nat->Rat)(C:Nat->fW):∀(L:List Nat) (dd:List fW),∃a:Rat,((∀k∈L,cf k≠0)->a≠0)/\gQ n (dd++L.map λk=>λi=>cf k*C k i)=a*gQ n (dd++L.map C)
 | [],dd=>⟨1,λ_=>by decide,by rw[QY];rfl⟩
 |k::L,dd=>by
  obtain⟨a,F,I⟩:=ai3 n cf C L (dd++[C k]);refine⟨cf k*a,λh=>?_,?_⟩
  ·intro ao;rcases Z2.1 ao with ao|ao
   ·exact h k fZ ao
   ·exact F (λm hm=>h m (gx _ hm)) ao
  ·simp only[eG,gM,jW,jo] at I ⊢;rw[axb,I,Rat.mul_assoc]
structure uG (N:Nat) (A:eD) (δ v:Nat):Prop where
 ex:∃(cf:Nat->Nat) (u w:Nat->Int),iP N cf<=2^δ/\(∀k,0<cf k)/\(∀k,k<N->∃b:Nat->Nat,fj N b<=2*cf k/\∀i,i<N->eO (b i) (cf k*A i k))/\(∀k,k<N->(u k).natAbs<=2^v)/\∀i,i<N->(w i).natAbs<=2^v/\A i N=bH N (λk=>A i k*(u k:Rat))+(w i:Rat)
def lP (e:Nat->Nat):List Nat->Nat
 | []=>1
 |m::l=>e m*lP e l
theorem ai4 (e:Nat->Nat)(a b:List Nat):lP e (a++b)=lP e a*lP e b:=by
 induction a with
 |nil=>simp[lP]
 |cons p l az=>simp only[jW,lP,az,EO]
theorem axc {e f:Nat->Nat}{l:List Nat}(h:∀m∈l,e m=f m):lP e l=lP f l:=by
 induction l with
 |nil=>rfl
 |cons m l az=>rw[lP,lP,az λx Q=>h x (gx _ Q),h m fZ]
theorem ai5 (cf:Nat->Nat):∀p,lP (λm=>2*cf m) (p4 p)=2^p*iP p cf
 |0=>rfl
 |p+1=>by
  rw[p4,lP,ai5 cf p,iP,wR];grind
theorem Z3 {N n:Nat}{A:eD}{e:Nat->Nat}(dz:∀k,k<=N->∃b:Nat->Nat,fj N b<=e k/\∀i,i<N->eO (b i) (A i k)){τ:Nat->Nat}(F:∀i,i<n->τ i<N)(I:∀i j,i<n->j<n->τ i=τ j->i=j)(L:List Nat)(gu:∀m∈L,m<=N):eO (lP e L) (gQ n (L.map (uE A τ))):=by
 have⟨B,fw⟩:∃B:Nat->Nat->Nat,∀k,k<=N->fj N (B k)<=e k/\∀i,i<N->eO (B k i) (A i k):=by
  refine⟨λk=>if h:k<=N then (dz k h).choose else λ_=>0,λk O=>?_⟩;dsimp only;rw[dif_pos O];exact (dz k O).choose_spec
 have h:=aiG n (L.map λk=>(uE A τ k,λi=>B k (τ i))) λp aF i M=>by
  obtain⟨m,hm,rfl⟩:=ek.1 aF;exact (fw m (gu m hm)).2 _ (F i M)
 rw[nq] at h;refine eO.mono h ?_;clear h
 induction L with
 |nil=>exact bZ _
 |cons m L az =>
  rw[eG,nc,lP];exact oP (eQ (ZS (B m) F I) (fw m (gu m fZ)).1) (az λx Q=>gu x (gx _ Q))
structure axd (N:Nat) (aN:eD) (δ v p:Nat) (cf:Nat->Nat) (u:Nat->Int) (d:Int):Prop where
 d0:d≠0
 pos:∀k,0<cf k
 ai6:iP N cf<=2^δ
 ai7:∀k,k<N->(u k).natAbs<=2^v
 Dy:d.natAbs<=2^p*iP p cf
 ai8:∀i,i<N->∀k,p<=k->k<N->eO (2^(p+1)*(iP p cf*cf k)) (aN i k*(cf k*d))
 val:∀i,i<N->eO (2^p*iP p cf*(N*2^v)) ((aN i N-(if i<p then (u i:Rat) else 0)-bH N λk=>if p<=k then aN i k*(u k:Rat) else 0)*d)
theorem lO.ai9 {N p δ v:Nat}{A aN:eD}(dz:uG N A δ v)(h:lO N A aN p)(aF:p<=N):∃cf u d,axd N aN δ v p cf u d:=by
 obtain⟨σ,hσ,Ig,ab,aa⟩:=h;obtain⟨cf,u,w,cT,c7,dZ,fm,oQ⟩:=dz
 have MJ:∀m,((cf m:Nat):Rat)≠0:=λm=>by
  have:=c7 m;rw[Ne,Rat.natCast_eq_zero_iff];omega
 -- the scaled matrix, with the whole numbers of the values
 have bC:MI N (λi k=>if k<N then cf k*A i k else (w i:Rat)) (λl k=>if k<N then (if l<p then cf k*aN l k/cf l else cf k*aN l k) else (if l<p then (1:Rat)/cf l else 1)*(aN l N-(if l<p then (u l:Rat) else 0)-bH N λk=>if p<=k then aN l k*(u k:Rat) else 0)) σ p:=by
  intro i M k kS gC
  by_cases oN:k<N
  ·have:=ab i M k kS gC;dsimp only;rw[ad oN,ad oN,this,Rat.mul_add,<-Av]
   congr 1
   ·split<;>grind
   ·refine ks λl ar=>?_;rw[ad oN,ad (by omega),ad ar];have:=MJ l;grind
  ·obtain rfl:k=N:=by omega
   dsimp only;rw[ag oN,ag oN];have aC:=ab i M k kS gC;have aD:=(oQ (σ i) (hσ i M)).2
   have b9:(λm=>A (σ i) m*(u m:Rat))=λm=>(if m<p then A (σ i) m*(u m:Rat) else 0)+if p<=m then A (σ i) m*(u m:Rat) else 0:=by
    funext m
    by_cases hm:m<p
    ·rw[ad hm,ag (by omega),nI]
    ·rw[ag hm,ad (by omega),wi]
   have dg:bH k (λm=>if p<=m then A (σ i) m*(u m:Rat) else 0)=bH k λm=>(if p<=m then (if i<p then 0 else aN i m*(u m:Rat)) else 0)+bH p λl=>A (σ i) l*(if p<=m then aN l m*(u m:Rat) else 0):=ks λm hm=>by
    by_cases mD:p<=m
    ·rw[ad mD,ad mD,ab i M m mD (by omega),Rat.add_mul]
     congr 1
     ·split<;>grind
     ·rw[uF,<-Av];refine ks λl _=>?_;rw[ad mD];grind
    ·rw[ag mD,ag mD,wi];exact (s5 λl _=>by rw[ag mD,og]).symm
   rw[b9,wc,dg,wc,awn] at aD
   have dk:bH k (λm=>if m<p then A (σ i) m*(u m:Rat) else 0)=bH p λl=>A (σ i) l*(u l:Rat):=by
    have:∀n,p<=n->bH n (λm=>if m<p then A (σ i) m*(u m:Rat) else 0)=bH p λl=>A (σ i) l*(u l:Rat):=by
     intro n
     induction n with
     |zero =>
          intro h;obtain rfl:p=0:=by omega
          rfl
     |succ n az =>
      intro h
      by_cases CA:p=n+1
      ·rw[CA];exact ks λm hm=>ad hm
      ·rw[bH,az (by omega),ag (by omega),nI]
    exact this k aF
   rw[dk] at aD
   have bE:(bH p λl=>(λi uH=>if uH<k then (cf uH:Rat)*A i uH else (w i:Rat)) (σ i) l*((if l<p then (1:Rat)/cf l else 1)*(aN l k-(if l<p then (u l:Rat) else 0)-bH k λm=>if p<=m then aN l m*(u m:Rat) else 0)))=bH p (λl=>A (σ i) l*aN l k)-bH p (λl=>A (σ i) l*(u l:Rat))-bH p λl=>bH k λm=>A (σ i) l*(if p<=m then aN l m*(u m:Rat) else 0):=by
    have:∀f g h:Nat->Rat,bH p (λl=>f l-g l-h l)=bH p f-bH p g-bH p h:=λf g h=>by
     have e:(λl=>f l-g l-h l)=λl=>f l+((-1)*g l+(-1)*h l):=by funext l;grind
     rw[e,wc,wc,Av,Av];grind
    rw[<-this];refine ks λl ar=>?_;dsimp only;rw[ad (by omega),ad ar,ad ar,Av];have:=MJ l;grind
   have bR:(bH p λl=>(λi uH=>if uH<k then (cf uH:Rat)*A i uH else (w i:Rat)) (σ i) l*(λl uH=>if uH<k then (if l<p then (cf uH:Rat)*aN l uH/cf l else cf uH*aN l uH) else (if l<p then (1:Rat)/cf l else 1)*(aN l k-(if l<p then (u l:Rat) else 0)-bH k λm=>if p<=m then aN l m*(u m:Rat) else 0)) l k)=bH p (λl=>A (σ i) l*aN l k)-bH p (λl=>A (σ i) l*(u l:Rat))-bH p λl=>bH k λm=>A (σ i) l*(if p<=m then aN l m*(u m:Rat) else 0):=by
    rw[<-bE];refine ks λl ar=>?_;dsimp only;rw[ag (by omega:¬ k<k)]
   dsimp only at bR;rw[bR]
   by_cases nb:i<p
   ·rw[ad nb] at aC ⊢;have dE:bH k (λm=>if p<=m then (if i<p then 0 else aN i m*(u m:Rat)) else 0)=0:=s5 λm _=>by rw[ad nb];split<;>rfl
    rw[dE] at aD;grind
   ·rw[ag nb] at aC ⊢;have dE:bH k (λm=>if p<=m then (if i<p then 0 else aN i m*(u m:Rat)) else 0)=bH k λm=>if p<=m then aN i m*(u m:Rat) else 0:=ks λm _=>by rw[ag nb]
    rw[dE] at aD;rw[ag nb,ag nb];grind
 have mF:gQ p (rY (λi k=>if k<N then cf k*A i k else (w i:Rat)) σ p)≠0:=by
  obtain⟨a,F,I⟩:=ai3 p (λk=>(cf k:Rat)) (uE A σ) (p4 p) []
  have MK:rY (λi k=>if k<N then cf k*A i k else (w i:Rat)) σ p=(p4 p).map λk=>λi=>(cf k:Rat)*uE A σ k i:=by
   unfold rY;refine lY λm hm=>?_;have:=Cz.1 hm
   funext i
   show (if m<N then (cf m:Rat)*A (σ i) m else (w (σ i):Rat))=_;rw[ad (by omega)];rfl
  rw[jo,jo] at I;rw[MK,I];intro ao;rcases Z2.1 ao with ao|ao
  ·exact F (λm hm=>MJ m) ao
  ·exact aa ao
 have EP:∀k,k<=N->∃b:Nat->Nat,fj N b<=(if k<N then 2*cf k else N*2^v)/\∀i,i<N->eO (b i) ((λi k=>if k<N then (cf k:Rat)*A i k else (w i:Rat)) i k):=by
  intro k O
  by_cases oN:k<N
  ·obtain⟨b,dh,eK⟩:=dZ k oN;refine⟨b,by rw[ad oN];exact dh,λi M=>?_⟩
   dsimp only;rw[ad oN];exact eK i M
  ·refine⟨λ_=>2^v,?_,λi M=>?_⟩
   ·rw[ag oN]
    have:∀n,fj n (λ_=>2^v)=n*2^v:=λn=>by
     induction n with
     |zero=>simp[fj]
     |succ n az=>rw[fj,az,tx]
    rw[this];exact bZ _
   ·dsimp only;rw[ag oN];exact eO.mono (eO.int _) (oQ i M).1
 generalize aL3:(λ(i k:Nat)=>if k<N then (cf k:Rat)*A i k else (w i:Rat))=Ia at *;generalize Z4:(λk=>if k<N then 2*cf k else N*2^v)=e at *
 have Z5:∀k,k<=N->∃b:Nat->Nat,fj N b<=e k/\∀i,i<N->eO (b i) (Ia i k):=by
  intro k O;rw[<-Z4];exact EP k O
 have Z6:∀m,m<N->e m=2*cf m:=λm hm=>by rw[<-Z4];exact ad hm
 have axe:e N=N*2^v:=by rw[<-Z4];exact ag (by omega)
 have Z7:lP e (p4 p)=2^p*iP p cf:=by
  rw[<-ai5];exact axc λm hm=>Z6 m (by have:=Cz.1 hm;omega)
 have hσp:∀i,i<p->σ i<N:=λi M=>hσ i (by omega);have nb:∀i j,i<p->j<p->σ i=σ j->i=j:=λi j M ai=>Ig i j (by omega) (by omega);have tD:=Z3 Z5 hσp nb (p4 p) λm hm=>by have:=Cz.1 hm;omega
 rw[Z7] at tD;obtain⟨d,z2,w0⟩:=tD
 change gQ p (rY Ia σ p)=(d:Rat) at z2
 have BG:d≠0:=by
  intro ao;rw[z2,ao] at mF;exact mF (by rfl)
 -- both kinds of rows
 have hh:∀l,l<p->∀k,p<=k->k<=N->∃m:Int,(λl k=>if k<N then (if l<p then (cf k:Rat)*aN l k/cf l else cf k*aN l k) else (if l<p then (1:Rat)/cf l else 1)*(aN l N-(if l<p then (u l:Rat) else 0)-bH N λk=>if p<=k then aN l k*(u k:Rat) else 0)) l k*(d:Rat)=(m:Rat)/\cf l*m.natAbs<=2^p*iP p cf*e k:=by
  intro l ar k kS gC;obtain⟨dd,gi,a8,bY,c5⟩:=aw8 bC aF ar kS gC
  have ah:=Z3 Z5 hσp nb (dd++k::gi) λm hm=>by
   have:m=k\/m∈dd++gi:=by
    simp only[ko,hj] at hm ⊢;rcases hm with h|h|h<;>simp[h]
   rcases this with h|h
   ·omega
   ·have:=bY m h;omega
  obtain⟨m,dN,cO⟩:=ah;rw[z2,dN] at c5;refine⟨m,c5,?_⟩;have aC:lP e (dd++k::gi)=lP e dd*(e k*lP e gi):=by rw[ai4,lP]
  have aD:lP e dd*(2*cf l*lP e gi)=2^p*iP p cf:=by
   rw[<-Z7,a8,ai4,lP,Z6 l (by omega)]
  rw[aC] at cO;rw[<-aD];generalize lP e dd=x at *;generalize lP e gi=y at *;have cd:=oP (bZ (cf l)) cO;have c0:x*(2*cf l*y)*e k=cf l*(x*(e k*y))+cf l*(x*(e k*y)):=by grind
  rw[c0];omega
 have jj:∀i,p<=i->i<N->∀k,p<=k->k<=N->∃m:Int,(λl k=>if k<N then (if l<p then (cf k:Rat)*aN l k/cf l else cf k*aN l k) else (if l<p then (1:Rat)/cf l else 1)*(aN l N-(if l<p then (u l:Rat) else 0)-bH N λk=>if p<=k then aN l k*(u k:Rat) else 0)) i k*(d:Rat)=(m:Rat)/\m.natAbs<=2^p*iP p cf*e k:=by
  intro i ri nW k kS gC;have aja:=axa bC ri nW kS gC
  have hτ:∀j,j<p+1->(λj=>if j=p then σ i else σ j) j<N:=λj ai=>by
   show (if j=p then σ i else σ j)<N
   split
   ·exact hσ i nW
   ·exact hσ j (by omega)
  have hτj:∀j k,j<p+1->k<p+1->(λj=>if j=p then σ i else σ j) j=(λj=>if j=p then σ i else σ j) k->j=k:=λj k ai O=>by
   show (if j=p then σ i else σ j)=(if k=p then σ i else σ k)->j=k;intro h
   by_cases aJ:j=p
   ·by_cases c2:k=p
    ·omega
    ·rw[ad aJ,ag c2] at h;have:=Ig _ _ nW (by omega) h;omega
   ·by_cases c2:k=p
    ·rw[ag aJ,ad c2] at h;have:=Ig _ _ (by omega) nW h;omega
    ·rw[ag aJ,ag c2] at h;exact Ig _ _ (by omega) (by omega) h
  obtain⟨m,dN,cO⟩:=Z3 Z5 hτ hτj (k::p4 p) λm hm=>by
   rcases hj.1 hm with h|h
   ·omega
   ·have:=Cz.1 h;omega
  rw[z2,dN] at aja;refine⟨m,aja,eQ cO ?_⟩;rw[lP,Z7,rz];exact bZ _
 refine⟨cf,u,d,BG,c7,cT,fm,w0,λi M k kS gC=>?_,λi M=>?_⟩
 ·have Xl:2^(p+1)*(iP p cf*cf k)=2^p*iP p cf*e k:=by rw[Z6 k gC,wR];grind
  rw[Xl]
  by_cases ay:i<p
  ·obtain⟨m,dN,cO⟩:=hh i ay k kS (by omega);dsimp only at dN;rw[ad gC,ad ay] at dN;refine⟨cf i*m,?_,by rw[qH,mL];exact cO⟩
   rw[p3,<-dN,oh];have:=MJ i;grind
  ·obtain⟨m,dN,cO⟩:=jj i (by omega) M k kS (by omega);dsimp only at dN;rw[ad gC,ag ay] at dN;refine⟨m,?_,cO⟩;rw[<-dN];grind
 ·rw[<-axe]
  by_cases ay:i<p
  ·obtain⟨m,dN,cO⟩:=hh i ay N aF (bZ _);dsimp only at dN;rw[ag (by omega:¬ N<N),ad ay,ad ay] at dN;refine⟨cf i*m,?_,by rw[qH,mL];exact cO⟩
   rw[p3,<-dN,oh,ad ay];have:=MJ i;grind
  ·obtain⟨m,dN,cO⟩:=jj i (by omega) M N aF (bZ _);dsimp only at dN;rw[ag (by omega:¬ N<N),ag ay,ag ay] at dN;refine⟨m,?_,cO⟩;rw[<-dN,ag ay];grind
def Ih (N:Nat)(A:eD)(eT aQ:Nat):Prop:=∀aN p,p<=N->lO N A aN p->∀i k,i<N->p<=k->k<=N->dX eT (aN i k)/\(k<N->dX aQ (aN i k))
theorem uG.ajb {N δ v:Nat}{A:eD}(dz:uG N A δ v)(gF:N<=7):Ih N A (N+δ+v+4) (N+δ):=by
 intro aN p aF h i k M kS gC;obtain⟨cf,u,d,aL⟩:=h.ai9 dz aF;obtain⟨bU,aL4,fc,ep⟩:=aiC aL.pos aF;have ER:=aL.ai6;rw[fc] at ER
 have axf:∀k,p<=k->k<N->iP p cf*cf k<=iP p cf*bU:=λk F I=>by
  obtain⟨m,hm⟩:=ep k F I;refine oP (bZ _) ?_
  have:0<m:=by
   rcases k4 m with h|h
   ·rw[h] at hm;omega
   ·exact h
  rw[hm];exact Kf _ this
 have Hf:∀q,q<=N->∀x,x<=2^δ->2^q*x<=2^(N+δ):=λq aT x Q=>by
  rw[wg];exact oP (w7 (by omega) aT) Q
 have eA:∀k,p<=k->k<N->dX (N+δ) (aN i k):=λk kS gC=>by
  obtain⟨z,iB,iZ⟩:=aL.ai8 i M k kS gC;have aL5:=aL.pos k;obtain⟨f1,f2⟩:=Cv (q:=aN i k) (v:=z) (d:=(cf k:Int)*d) (Af (by omega) aL.d0) (by rw[<-iB,p3,oh]);have hle:=eQ (axf k kS gC) ER;refine⟨eQ f1 (eQ iZ (Hf _ (by omega) _ hle)),eQ f2 ?_⟩;rw[qH,mL];refine eQ (oP (bZ _) aL.Dy) (eQ ?_ (Hf p aF _ hle));exact As (by grind)
 by_cases oN:k<N
 ·exact⟨(eA k kS oN).mono (by omega),λ_=>eA k kS oN⟩
 refine⟨?_,λh=>absurd h oN⟩;obtain rfl:k=N:=by omega
 have hR:=aL.val i M;have fw:∀q,q<=k->2^q*(iP p cf*bU)<=2^(k+δ):=λq aT=>Hf q aT _ ER
 -- the three parts, times d and bU
 have jB:eO (k*2^(k+δ+v)) ((aN i k-(if i<p then (u i:Rat) else 0)-bH k λm=>if p<=m then aN i m*(u m:Rat) else 0)*d*(bU:Rat)):=by
  refine (hR.mul (eO.nat (bZ bU))).mono ?_;have:=oP (fw p aF) (bZ (k*2^v));refine eQ (As ?_) (eQ this (As ?_))
  ·grind
  ·rw[wg 2 (k+δ) v];grind
 have jC:eO (2^(k+δ+v)) ((if i<p then (u i:Rat) else 0)*d*(bU:Rat)):=by
  have hu:eO (2^v) (if i<p then (u i:Rat) else 0):=by
   split
   ·exact eO.mono (eO.int _) (aL.ai7 i M)
   ·exact eO.zero
  refine ((hu.mul (eO.mono (eO.int d) aL.Dy)).mul (eO.nat (bZ bU))).mono ?_;have:=oP (fw p aF) (bZ (2^v));refine eQ (As ?_) (eQ this (As ?_))
  ·grind
  ·rw[wg 2 (k+δ) v]
 have s4:eO (k*2^(k+δ+v)) ((bH k λm=>if p<=m then aN i m*(u m:Rat) else 0)*d*(bU:Rat)):=by
  have e:(bH k λm=>if p<=m then aN i m*(u m:Rat) else 0)*(d:Rat)*(bU:Rat)=bH k λm=>((d:Rat)*(bU:Rat))*(if p<=m then aN i m*(u m:Rat) else 0):=by
   rw[Av];grind
  rw[e];refine eO.sum k λm hm=>?_
  by_cases mD:p<=m
  ·rw[ad mD];obtain⟨y,av⟩:=ep m mD hm
   have aD:(d:Rat)*(bU:Rat)*(aN i m*(u m:Rat))=(aN i m*((cf m:Rat)*d))*(y:Rat)*(u m:Rat):=by
    rw[av,Rat.natCast_mul];grind
   rw[aD];refine (((aL.ai8 i M m mD hm).mul (eO.nat (bZ y))).mul (eO.mono (eO.int (u m)) (aL.ai7 m hm))).mono ?_;have:=oP (fw (p+1) (by omega)) (bZ (2^v));refine eQ (As ?_) (eQ this (As ?_))
   ·rw[av];grind
   ·rw[wg 2 (k+δ) v]
  ·rw[ag mD,og];exact eO.zero
 obtain⟨z,iB,iZ⟩:=(jB.add jC).add s4
 have e:aN i k*((d*(bU:Int):Int):Rat)=(z:Rat):=by
  rw[<-iB,p3,oh];grind
 obtain⟨f1,f2⟩:=Cv (Af aL.d0 (by omega)) e;refine⟨eQ f1 (eQ iZ ?_),eQ f2 ?_⟩
 ·rw[wg 2 (k+δ+v) 4];generalize 2^(k+δ+v)=dd at *;have:k*dd<=7*dd:=Nat.mul_le_mul_right _ gF;omega
 ·rw[qH,mL];refine eQ (oP aL.Dy (bZ bU)) (eQ (As ?_) (eQ (fw p aF) (w7 (by omega) (by omega))));grind
theorem lO.Z8 {N δ v:Nat}{A aN:eD}(dz:uG N A δ v)(h:lO N A aN N):∃bh:Nat,0<bh/\bh<=2^(N+δ)/\∀i,i<N->∃z:Int,aN i N*(bh:Rat)=(z:Rat):=by
 obtain⟨cf,u,d,aL⟩:=h.ai9 dz (bZ N)
 have⟨s,X⟩:∃s:Int,(d.natAbs:Int)=s*d:=by
  rcases Int.natAbs_eq d with e|e
  ·exact⟨1,by omega⟩
  ·exact⟨-1,by omega⟩
 have aa:=aL.d0;refine⟨d.natAbs,by omega,eQ aL.Dy ?_,λi M=>?_⟩
 ·rw[wg];exact oP (bZ _) aL.ai6
 ·obtain⟨z,iB,-⟩:=aL.val i M;rw[ad M,s5 λk O=>ag (by omega)] at iB;refine⟨s*(z+u i*d),?_⟩;have e:((d.natAbs:Nat):Rat)=((d.natAbs:Int):Rat):=(oh _).symm;rw[e,X,p3,p3,uD,p3,<-iB];grind
def dF (N:Nat)(x:Nat->Rat):List bo:=((dS N).map x).map au
theorem p6 (N:Nat)(x:Nat->Rat):(dF N x).length=N:=by simp[dF]
theorem uI {N k:Nat}(x:Nat->Rat)(h:k<N):(dF N x)[k]?=some (au (x k)):=by
 unfold dF;rw[bl,bl,tv h];rfl
theorem ML {N:Nat}{l:List bo}{x:Nat->Rat}(ar:(D l)=N)(h:∀k,k<N->l[k]?=some (au (x k))):l=dF N x:=by
 apply pH;intro k;rcases il k N with O|O
 ·rw[h k O,uI x O]
 ·rw[kF (by omega),kF (by rw[p6];omega)]
theorem Ii {N:Nat}{x y:Nat->Rat}(h:∀k,k<N->x k=y k):dF N x=dF N y :=
 ML (p6 N x) λk O=>by rw[uI x O,h k O]
theorem Z9 {N:Nat}{x:Nat->Rat}(gF:N<=40)(h:∀k,k<N->dj (x k)):gv (dF N x):=by
 refine⟨by rw[p6];omega,λf aI=>?_⟩
 obtain⟨k,O⟩:=qz.1 aI;have oN:k<N:=by have:=(dP.1 O).1;rwa [p6] at this
 rw[uI x oN] at O
 cases O;exact mO (h k oN)
def ajc (N:Nat)(bh:eD)(x:Nat->Rat):Prop:=(∀y,hY N bh (ext N y (-1))↔∀k,k<N->y k=x k)/\∀y,hY N bh (ext N y 0)->∀k,k<N->y k=0
def CB (N:Nat)(bh:eD):Prop:=∃y,hY N bh (ext N y 0)/\∃k,k<N/\y k≠0
theorem axg {N:Nat}{rows:List dr}{aN:eD}(h:xx N rows aN):rows.map (wa N)=dF N (λi=>aN i N) :=
 ML (by rw[al];exact h.1) λk O=>by
  obtain⟨x,Q,-,oi⟩:=h.row O;rw[bl,Q,lB];unfold wa;rw[dY,oi.get (bZ _)]
  rfl
theorem Ic.Ay {N:Nat}{aN wh:eD}{rows:List dr}{p c:Nat}{cu:Nat->Nat}(h:Ic N aN wh rows p c cu){i k:Nat}(M:i<N)(O:k<=N):dj (wh i k):=by
 obtain⟨x,-,-,oi⟩:=h.enc.row M;exact oi.2 k O
theorem ajd {q:Rat}(h:dj q):m6 0 (-q)=true:=by
 unfold m6;simp only[e4]
 have F:iM ((-q).num*((0:Rat).den:Int))=true:=by
  rw[aiZ,aje];unfold iM;rw[decide_eq_true_eq];have:=h.1;omega
 refine⟨?_,F,?_,?_⟩
 ·rw[ajf,z7];decide +kernel
 ·rw[ajf,z7,DY];exact F
 ·rw[aje,Rat.neg_den];unfold iM;rw[decide_eq_true_eq];have:=h.2;omega
theorem ajg:dj 0:=⟨by decide +kernel,by decide +kernel⟩
theorem axh {N f:Nat}{rows:List dr}{aN:eD}(h:xx N rows aN)(aI:f<N):Mh rows f N f=dF N (ta aN f) :=
 ML (awm _ _ _ _) λk O=>by
  unfold Mh;rw[bl,tv O,lB];unfold ta
  by_cases F:k<f
  ·rw[ad F,ad F];obtain⟨x,-,ex,oi⟩:=h.row (i:=k) (by omega);rw[ex,oi.cell (by omega),<-aid,P3 ajg (oi.2 f (by omega)),ajd (oi.2 f (by omega))]
   rfl
  ·rw[ag F,ag F]
   by_cases I:k=f
   ·rw[ad I,ad I,awl]
   ·rw[ag I,ag I,aid]
theorem aaa {N:Nat}{bh aN:eD}(h:∀y,hY N aN y↔hY N bh y):∀y z,hY N aN (ext N y z)↔hY N bh (ext N y z):=λ_ _=>h _
theorem axi {rs:List e1}{n:Int}(h:oc rs n=true):
  (qT rs n=([],6)) \/
  (∃x,qT rs n=(dF (D rs) x,0)/\Zo rs n=([],false)/\(∀k,k<(D rs)->dj (x k))/\ajc (D rs) (qW rs) x) \/
  (∃y,qT rs n=([],17)/\Zo rs n=(dF (D rs) y,true)/\(∀k,k<(D rs)->dj (y k))/\hY (D rs) (qW rs) (ext (D rs) y 0)/\∃k,k<D rs/\y k=1):=by
 unfold qT Zo;rw[ad h];rcases Q:qS true rs with ⟨xz,rW,bad⟩
 cases bad
 ·right
  obtain⟨aN,p,c,cu,he,-,X⟩:=aw1 true h Q;rw[ad h];rcases X rfl with ⟨rfl,rfl,rfl,ka⟩|⟨f,rfl,aI,rfl,rfl,ka,aX⟩
  ·left
   refine⟨λi=>aN i (D rs),?_,rfl,λk O=>he.Ay O (bZ _),λy=>?_,λy av=>?_⟩
   ·rw[ag (by simp),ag (by simp),axg he.enc]
   ·rw[<-aaa he.Ie];exact ait he.red ka y
   ·exact awI he.red ka y ((aaa he.Ie y 0).2 av)
  ·right
   refine⟨ta aN c,?_,?_,λk O=>?_,?_,⟨c,aI,by unfold ta;simp⟩⟩
   ·rw[ag (by simp),ad (by simp)]
   ·rw[ag (by simp)];exact congrArg (λl=>(l,true)) (axh he.enc aI)
   ·unfold ta
    split
    ·exact agL (ajd (he.Ay O (by omega)))
    ·split
     ·exact⟨by decide +kernel,by decide +kernel⟩
     ·exact ajg
   ·exact (aaa he.Ie _ _).1 (aiu he.red ka aI aX)
 ·left
  rw[ad rfl]
theorem ajh (aN:eD){N p s:Nat}(aF:p<N)(X:p<=s)(Aw:s<N){i:Nat}(M:i<N):∃bk,bk<N/\ho aN p s i=aN bk:=by
 unfold ho
 by_cases F:i=s
 ·exact⟨p,aF,by rw[ad F]⟩
 ·by_cases I:i=p
  ·exact⟨s,Aw,by rw[ag F,ad I]⟩
  ·exact⟨i,M,by rw[ag F,ag I]⟩
theorem axj (b:Nat)(p:Prop)[Decidable p]:dX b (if p then 1 else 0):=by
 have ah:1<=2^b:=Nat.one_le_two_pow
 split
 ·exact⟨ah,ah⟩
 ·exact⟨fv _,ah⟩
theorem lO.all {N p eT aQ:Nat}{A aN:eD}{cu:Nat->Nat}(fw:Ih N A eT aQ)(h:lO N A aN p)(ab:qU N aN p p cu)(ka:∀j,j<p->cu j=j)(aF:p<=N){i k:Nat}(M:i<N)(O:k<=N):dX eT (aN i k):=by
 by_cases aji:k<p
 ·have:=ab.unit k aji i M;rw[ka k aji] at this;rw[this];exact axj _ _
 ·exact (fw aN p aF h i k M (by omega) O).1
theorem axk {N p s eT aQ:Nat}{A aN:eD}{cu:Nat->Nat}(fw:Ih N A eT aQ)(h:lO N A aN p)(ab:qU N aN p p cu)(ka:∀j,j<p->cu j=j)(aF:p<N)(X:p<=s)(Aw:s<N)(bG:aN s p≠0)(kf:2*eT+aQ+1<1200):aiO N (ho aN p s) p p:=by
 have I:=h.step aF X Aw bG;have bC:=ab.EF aF X Aw bG
 have axl:∀j,j<p+1->(if j=p then p else cu j)=j:=λj ai=>by
  split
  ·omega
  ·exact ka j (by omega)
 have fi:∀i,i<N->∀k,k<=N->dX eT (ho aN p s i k):=by
  intro i M k O;obtain⟨bk,F,e⟩:=ajh aN aF X Aw M;rw[e];exact h.all fw ab ka (by omega) F O
 have MK:∀i,i<N->dX aQ (ho aN p s i p):=by
  intro i M;obtain⟨bk,F,e⟩:=ajh aN aF X Aw M;rw[e];exact (fw aN p (by omega) h bk p F (bZ p) (by omega)).2 aF
 have ajj:∀k,k<=N->dX eT (ho aN p s p k/ho aN p s p p):=by
  intro k O;have:=I.all fw bC axl (by omega) (i:=p) aF O;unfold oO at this;rwa [ad rfl] at this
 refine⟨λk O=>aiY (fi p aF k O) (MK p aF) (by omega),λi M _ _ k O=>?_⟩;unfold rV;rw[e4];exact⟨ZZ (MK i M) (ajj k O) (by omega),Cx (fi i M k O) (Cy (MH (MK i M) (ajj k O))) (by omega)⟩
theorem axm {N eT aQ:Nat}{A:eD}(fw:Ih N A eT aQ)(kf:2*eT+aQ+1<1200):
  ∀k p rows aN cu,p+k=N->Ic N A aN rows p p cu->lO N A aN p->(∀j,j<p->cu j=j)->(md true k p rows [] false).2.2=false:=by
 intro k
 induction k with
 |zero=>intro p rows aN cu _ _ _ _;rfl
 |succ k az =>
  intro p rows aN cu aF he aa ka;unfold md;rw[lD,Cn];rcases aiP he.enc (r:=p) (c:=p) (by omega) (by omega) with ⟨F,I,af,aO⟩|⟨F,s,hx,hy,tb,aO,bm⟩
  ·rw[F,I,af,ad rfl,ad rfl]
  ·have c1:=axk fw aa he.red ka (by omega) hx hy tb kf;have ah:=bm c1;rw[F,ag (by simp),ah];refine az (p+1) _ (oO aN p p s) (λj=>if j=p then p else cu j) (by omega) ⟨aO ah,he.red.EF (by omega) hx hy tb,λy=>(Zr (by omega) hy tb).trans (he.Ie y)⟩ (aa.step (by omega) hx hy tb) λj ai=>?_;show (if j=p then p else cu j)=j
   split
   ·omega
   ·exact ka j (by omega)
theorem axn {rs:List e1}{n:Int}{eT aQ:Nat}(h:oc rs n=true)(fw:Ih (D rs) (qW rs) eT aQ)(kf:2*eT+aQ+1<1200):qT rs n≠([],6):=by
 have Q:(qS true rs).2.2=false :=
  axm fw kf (D rs) 0 (hA rs) (qW rs) (λj=>j) (by omega) ⟨aiU h,QN _ _ _,λ_=>Iff.rfl⟩ (lO.start _ _) λj ai=>by omega
 unfold qT;rw[ad h,ag (by rw[Q];simp)]
 split
 ·simp
 ·simp
theorem axo {rs:List e1}{n:Int}{eT aQ:Nat}(h:oc rs n=true)(fw:Ih (D rs) (qW rs) eT aQ)(kf:2*eT+aQ+1<1200)(X:¬ CB (D rs) (qW rs)):
  ∃x,qT rs n=(dF (D rs) x,0)/\(∀k,k<(D rs)->dj (x k))/\ajc (D rs) (qW rs) x:=by
 rcases axi h with e|⟨x,e,-,F,I⟩|⟨y,-,-,-,F,k,O,av⟩
 ·exact absurd e (axn h fw kf)
 ·exact⟨x,e,F,I⟩
 ·exact absurd ⟨y,F,k,O,by rw[av];decide⟩ X
theorem lO.full {N:Nat}{A:eD}(X:¬ CB N A):∀k p aN cu,p+k=N->qU N aN p p cu->(∀y,hY N aN y↔hY N A y)->lO N A aN p->(∀j,j<p->cu j=j)->∃aN cu,lO N A aN N/\qU N aN N N cu/\(∀j,j<N->cu j=j)/\∀y,hY N aN y↔hY N A y
 |0,p,aN,cu,aF,ab,aP,aa,ka=>by
  obtain rfl:p=N:=by omega
  exact⟨aN,cu,aa,ab,ka,aP⟩
 |k+1,p,aN,cu,aF,ab,aP,aa,ka=>by
  by_cases aX:∀i,p<=i->i<N->aN i p=0
  ·exfalso
   refine X ⟨ta aN p,(aP _).1 (aiu ab ka (by omega) aX),p,by omega,?_⟩
   unfold ta;rw[ag (by omega),ad rfl]
   decide
  ·have⟨s,hx,hy,tb⟩:∃s,p<=s/\s<N/\aN s p≠0:=by
    apply me;intro h;exact aX λi F I=>me λaf=>h ⟨i,F,I,af⟩
   refine lO.full X k (p+1) (oO aN p p s) (λj=>if j=p then p else cu j) (by omega) (ab.EF (by omega) hx hy tb) (λy=>(Zr (by omega) hy tb).trans (aP y)) (aa.step (by omega) hx hy tb) λj ai=>?_;show (if j=p then p else cu j)=j
   split
   ·omega
   ·exact ka j (by omega)
theorem ajk {N δ v:Nat}{A:eD}(X:¬ CB N A)(dz:uG N A δ v){x:Nat->Rat}(Q:hY N A (ext N x (-1))):∃bh:Nat,0<bh/\bh<=2^(N+δ)/\∀i,i<N->∃z:Int,x i*(bh:Rat)=(z:Rat):=by
 obtain⟨aN,cu,⟨σ,F,yk,I,af⟩,-⟩:=lO.full X N 0 A (λj=>j) (by omega) (QN _ _ _) (λ_=>Iff.rfl) (lO.start _ _) (λj ai=>by omega);refine lO.Z8 (aN:=λi _=>x i) dz ⟨σ,F,yk,λi M k kS gC=>?_,af⟩;obtain rfl:k=N:=by omega
 rw[ad M];have:=Q (σ i) (F i M);rw[Mz] at this;grind
theorem axp {N:Nat}{A:eD}(X:¬ CB N A):∃x,hY N A (ext N x (-1)):=by
 obtain⟨aN,cu,-,F,I,af⟩:=lO.full X N 0 A (λj=>j) (by omega) (QN _ _ _) (λ_=>Iff.rfl) (lO.start _ _) (λj ai=>by omega);exact⟨λi=>aN i N,(af _).1 ((ait F I _).2 λ_ _=>rfl)⟩
end Go.Mini
namespace Go.Mini
open Classical
def Day.W (d:Day)(f:Nat->Nat)(k i:Nat):Rat:=b8 d.cF λc=>if c.to=(i:Int)/\c.aE=k/\c.br=f k then d.w c else 0
def Day.st (d:Day)(f:Nat->Nat)(i:Nat):Rat:=d.E i+b8 d.cF λc=>if c.to=(i:Int)/\c.br<f c.aE then c.am else 0
theorem Day.de.ajl {d:Day}(aa:d.de)(f:Nat->Nat)(P:Nat->Prop)(x:Nat->Rat)(i:Nat):(b8 d.cF λc=>if c.to=(i:Int) then (if c.br=f c.aE/\P c.aE then d.w c*x c.aE else 0) else 0)=bH d.n λk=>if P k then d.W f k i*x k else 0:=by
 have e:=Zv (n:=d.n) aa.aE λk c=>if c.to=(i:Int) then (if c.br=f k/\P k then d.w c*x k else 0) else 0;rw[<-e];refine ks λk O=>?_
 by_cases gr:P k
 ·rw[ad gr,uF];unfold Day.W;rw[<-QO];refine rQ λc _=>?_
  by_cases F:c.aE=k
  ·by_cases I:c.to=(i:Int)
   ·by_cases af:c.br=f k
    ·rw[ad F,ad I,ad ⟨af,gr⟩,ad ⟨I,F,af⟩,uF]
    ·rw[ad F,ad I,ag λh=>af h.1,ag λh=>af h.2.2,og]
   ·rw[ad F,ag I,ag λh=>I h.1,og]
  ·rw[ag F,ag λh=>F h.2.1,og]
 ·rw[ag gr];refine Mk λc _=>?_
  split
  ·split
   ·rw[ag λh=>gr h.2]
   ·rfl
  ·rfl
theorem Day.de.Q3 {d:Day}(aa:d.de)(f:Nat->Nat)(P:Nat->Prop)(h:Nat->Rat)(i:Nat):d.eZ (d.l f P h) i=d.st f i+bH d.n λk=>if P k then d.W f k i*(h k-d.bt k (f k)) else 0:=by
 rw[<-aa.ajl f P (λk=>h k-d.bt k (f k)) i];unfold Day.eZ Day.st;rw[Rat.add_assoc,<-Mi]
 congr 1
 refine rQ λc _=>?_;unfold Day.l
 by_cases F:c.to=(i:Int)
 ·rw[ad F,ad F]
  by_cases I:c.br<f c.aE
  ·have af:c.to=(i:Int)/\c.br<f c.aE:=⟨F,I⟩;have aO:¬ (c.br=f c.aE/\P c.aE):=λh=>by have:=h.1;omega
   rw[ad I,ad af,ag aO,nI]
  ·have af:¬ (c.to=(i:Int)/\c.br<f c.aE):=λh=>I h.2;rw[ag I,ag af,wi]
   by_cases aO:c.br=f c.aE/\P c.aE
   ·rw[ad aO,ad aO,aO.1]
   ·rw[ag aO,ag aO]
 ·have af:¬ (c.to=(i:Int)/\c.br<f c.aE):=λh=>F h.1;rw[ag F,ag af,ag F,nI]
def Day.Az (d:Day)(f:Nat->Nat)(P:Nat->Prop):eD:=λi k=>if k<d.n then (if i=k then 1 else 0)-(if P k then d.W f k i else 0) else d.st f i-bH d.n λk=>if P k then d.W f k i*d.bt k (f k) else 0
theorem aab {d:Day}(f:Nat->Nat)(P:Nat->Prop)(x:Nat->Rat)(z:Rat){i:Nat}(M:i<d.n):mQ d.n (d.Az f P i) (ext d.n x z)=x i-(bH d.n λk=>if P k then d.W f k i*x k else 0)+(d.st f i-bH d.n λk=>if P k then d.W f k i*d.bt k (f k) else 0)*z:=by
 rw[Mz]
 congr 1
 ·have e:=yY (n:=d.n) (f:=λk=>if i=k then x k else 0) (j:=i) M λk _ O=>ag (Ne.symm O);rw[ad rfl] at e;rw[<-e,<-H0];refine ks λk O=>?_;unfold Day.Az;rw[ad O]
  split<;>split<;>grind
 ·unfold Day.Az;rw[ag (by omega)]
theorem ajm {d:Day}(aa:d.de)(f:Nat->Nat)(P:Nat->Prop)(h:Nat->Rat):hY d.n (d.Az f P) (ext d.n h (-1))↔∀i,i<d.n->h i=d.eZ (d.l f P h) i:=by
 have e:∀i,(bH d.n λk=>if P k then d.W f k i*(h k-d.bt k (f k)) else 0)=(bH d.n λk=>if P k then d.W f k i*h k else 0)-bH d.n λk=>if P k then d.W f k i*d.bt k (f k) else 0:=λi=>by
  rw[<-H0];refine ks λk _=>?_
  split<;>grind
 unfold hY
 constructor
 ·intro dz i M;have:=dz i M;rw[aab f P h _ M] at this;rw[aa.Q3,e];grind
 ·intro dz i M;have:=dz i M;rw[aa.Q3,e] at this;rw[aab f P h _ M];grind
structure Good (d:Day) (f:Nat->Nat) (P:Nat->Prop):Prop where
 ok:d.de
 inv:∃g,Inv d f g
 gH:∀i,P i->i<d.n/\f i<10
 QS:∀C:Nat->Prop,(∃i,C i)->(∀i,C i->P i)->¬ d.closed f C
theorem Good.ajn {d:Day}{f:Nat->Nat}{P:Nat->Prop}(a7:Good d f P){x:Nat->Rat}(Q:∀i,i<d.n->x i=bH d.n λk=>if P k then d.W f k i*x k else 0):∀i,i<d.n->x i=0:=by
 obtain⟨g,M⟩:=a7.inv;exact awA M a7.ok a7.gH a7.QS x λi cD=>by rw[a7.ok.ajl f P x i];exact Q i cD
theorem Good.ajo {d:Day}{f:Nat->Nat}{P:Nat->Prop}(a7:Good d f P):¬ CB d.n (d.Az f P):=by
 rintro⟨y,av,k,O,bG⟩;refine bG (a7.ajn (x:=y) (λi M=>?_) k O);have:=av i M;rw[aab f P y _ M] at this;grind
theorem Good.ex {d:Day}{f:Nat->Nat}{P:Nat->Prop}(a7:Good d f P):∃h:Nat->Rat,∀i,i<d.n->h i=d.eZ (d.l f P h) i:=by
 obtain⟨x,Q⟩:=axp a7.ajo;exact⟨x,(ajm a7.ok f P x).1 Q⟩
theorem Good.uniq {d:Day}{f:Nat->Nat}{P:Nat->Prop}(a7:Good d f P){h cG:Nat->Rat}(e:∀i,i<d.n->h i=d.eZ (d.l f P h) i)(e':∀i,i<d.n->cG i=d.eZ (d.l f P cG) i):∀i,i<d.n->h i=cG i:=by
 obtain⟨g,M⟩:=a7.inv;exact awz M a7.ok a7.gH a7.QS e e'
def Day.fg (d:Day)(f:Nat->Nat)(P:Nat->Prop):Nat->Rat:=if h:∃x:Nat->Rat,∀i,i<d.n->x i=d.eZ (d.l f P x) i then tO h else λ_=>0
theorem Good.fg {d:Day}{f:Nat->Nat}{P:Nat->Prop}(a7:Good d f P):∀i,i<d.n->d.fg f P i=d.eZ (d.l f P (d.fg f P)) i:=by
 have h:=a7.ex;unfold Day.fg;rw[dif_pos h];exact o7 h
theorem axq {l:List Nat}{a k:Nat}(h:k<D l):(l++[a]).getD k 0=l.getD k 0:=by
 rw[dY,dY,rj h]
theorem axr (l:List Nat)(a:Nat)(aQ:Nat->Rat):bH (l++[a]).length (λk=>aQ ((l++[a]).getD k 0))=bH (D l) (λk=>aQ (l.getD k 0))+aQ a:=by
 rw[fH,List.length_singleton,bH]
 congr 1
 ·refine ks λk O=>?_;rw[axq O]
 ·rw[dY,ss (bZ _),lV];rfl
def cZ (P:Nat->Prop)(n:Nat):List Nat:=(dS n).filter λi=>decide (P i)
theorem Q4 (P:Nat->Prop)(aQ:Nat->Rat):∀n,bH (cZ P n).length (λk=>aQ ((cZ P n).getD k 0))=bH n λk=>if P k then aQ k else 0
 |0=>rfl
 |n+1=>by
  have az:=Q4 P aQ n;unfold cZ at az ⊢;rw[List.range_succ,List.filter_append]
  by_cases gr:P n
  ·rw[List.filter_cons_of_pos (by simpa using gr),oR,axr,az,bH,ad gr]
  ·rw[List.filter_cons_of_neg (by simpa using gr),oR,fC,az,bH,ag gr,nI]
theorem xA {P:Nat->Prop}{n k:Nat}(h:k<(cZ P n).length):(cZ P n).getD k 0<n/\P ((cZ P n).getD k 0):=by
 have hm:(cZ P n).getD k 0∈cZ P n:=by
  rw[dY,bx h];exact o1 h
 unfold cZ at hm ⊢;rw[s9,ha,decide_eq_true_eq] at hm;exact hm
def Day.uJ (d:Day)(f:Nat->Nat)(p:List Nat):eD:=λi k=>if k<(D p) then (if i=k then 1 else 0)-d.W f (p.getD k 0) (p.getD i 0) else d.st f (p.getD i 0)-d.bt (p.getD i 0) (f (p.getD i 0))
theorem ajp {d:Day}(f:Nat->Nat)(p:List Nat)(x:Nat->Rat)(z:Rat){i:Nat}(M:i<D p):mQ (D p) (d.uJ f p i) (ext (D p) x z)=x i-(bH (D p) λk=>d.W f (p.getD k 0) (p.getD i 0)*x k)+(d.st f (p.getD i 0)-d.bt (p.getD i 0) (f (p.getD i 0)))*z:=by
 rw[Mz]
 congr 1
 ·have e:=yY (n:=D p) (f:=λk=>if i=k then x k else 0) (j:=i) M λk _ O=>ag (Ne.symm O);rw[ad rfl] at e;rw[<-e,<-H0];refine ks λk O=>?_;unfold Day.uJ;rw[ad O]
  split<;>grind
 ·unfold Day.uJ;rw[ag (by omega)]
theorem Good.small {d:Day}{f:Nat->Nat}{P:Nat->Prop}(a7:Good d f P):¬ CB (cZ P d.n).length (d.uJ f (cZ P d.n)):=by
 rintro⟨y,av,k,O,bG⟩
 have F:∀r,r<(cZ P d.n).length->y r=bH (cZ P d.n).length λk=>d.W f ((cZ P d.n).getD k 0) ((cZ P d.n).getD r 0)*y k:=λr ab=>by
  have:=av r ab;rw[ajp f _ y _ ab] at this;grind
 have I:=a7.ajn (x:=λi=>bH (cZ P d.n).length λk=>d.W f ((cZ P d.n).getD k 0) i*y k) (λi M=>by
  rw[<-Q4 P (λk=>d.W f k i*bH (cZ P d.n).length λk'=>d.W f ((cZ P d.n).getD k' 0) k*y k') d.n];exact ks λr ab=>by rw[F r ab]) ((cZ P d.n).getD k 0) (xA O).1
 refine bG ?_;rw[F k O];exact I
theorem Good.ajq {d:Day}{f:Nat->Nat}{P:Nat->Prop}(a7:Good d f P):hY (cZ P d.n).length (d.uJ f (cZ P d.n)) (ext (cZ P d.n).length (λk=>d.fg f P ((cZ P d.n).getD k 0)-d.bt ((cZ P d.n).getD k 0) (f ((cZ P d.n).getD k 0))) (-1)):=by
 intro r ab;rw[ajp f _ _ _ ab,Q4 P (λk=>d.W f k ((cZ P d.n).getD r 0)*(d.fg f P k-d.bt k (f k))) d.n];have:=a7.fg _ (xA ab).1;rw[a7.ok.Q3] at this;grind
theorem Good.ajr {d:Day}{f:Nat->Nat}{P:Nat->Prop}(a7:Good d f P){i:Nat}(M:i<d.n):d.fg f P i=d.st f i+bH (cZ P d.n).length λk=>d.W f ((cZ P d.n).getD k 0) i*(d.fg f P ((cZ P d.n).getD k 0)-d.bt ((cZ P d.n).getD k 0) (f ((cZ P d.n).getD k 0))):=by
 rw[Q4 P (λk=>d.W f k i*(d.fg f P k-d.bt k (f k))) d.n,<-a7.ok.Q3];exact a7.fg i M
theorem iD.good {d:Day}(aa:d.de){f:Nat->Nat}{g:Nat->Rat}(M:Inv d f g){P:Nat->Prop}{h:Nat->Rat}(aF:iD d f g P h):Good d f P:=⟨aa,⟨g,M⟩,aF.gH,aF.QS⟩
theorem Good.none {d:Day}(aa:d.de){f:Nat->Nat}{g:Nat->Rat}(M:Inv d f g):Good d f λ_=>False:=⟨aa,⟨g,M⟩,λ_ h=>h.elim,λ_ ⟨i,h⟩ cG=>(cG i h).elim⟩
theorem iD.first {d:Day}(aa:d.de){f:Nat->Nat}{g:Nat->Rat}(M:Inv d f g):iD d f g (λ_=>False) (d.fg f λ_=>False):=iD.start aa M (Good.none aa M).fg
theorem iD.succ {d:Day}(aa:d.de){f:Nat->Nat}{g:Nat->Rat}(M:Inv d f g){P:Nat->Prop}{h:Nat->Rat}(aF:iD d f g P h):iD d f g (s8 d f P h) (d.fg f (s8 d f P h)):=aF.next aa M (Good.fg ⟨aa,⟨g,M⟩,aF.H5,aF.ain aa M⟩)
def idle (d:Day)(P:Nat->Prop):Nat:=mR d.n λi=>if P i then 0 else 1
theorem ajs {d:Day}{f:Nat->Nat}{P:Nat->Prop}{h:Nat->Rat}{i:Nat}(M:i<d.n)(aI:f i<10)(m8:d.bt i (f i)<h i)(gr:¬ P i):idle d (s8 d f P h)<idle d P:=by
 refine ZJ (j:=i) (λj _=>?_) M ?_
 ·by_cases ai:P j
  ·have F:s8 d f P h j:=Or.inl ai;rw[ad F,ad ai];exact bZ _
  ·rw[ag ai];split<;>omega
 ·have F:s8 d f P h i:=Or.inr ⟨M,aI,m8⟩;rw[ad F,ag gr];omega
theorem iD.top {d:Day}(aa:d.de){f:Nat->Nat}{g:Nat->Rat}(M:Inv d f g):∀m (P:Nat->Prop) (h:Nat->Rat),idle d P<=m->iD d f g P h->∃h,nJ d f h
 |m,P,h,hm,aF=>by
  by_cases X:∀i,i<d.n->f i<10->d.bt i (f i)<h i->P i
  ·exact⟨h,g,M,aF.stop aa M X,aF.le⟩
  ·have⟨i,F,I,af,aO⟩:∃i,i<d.n/\f i<10/\d.bt i (f i)<h i/\¬ P i:=by
    apply me;intro aL;exact X λi F I af=>me λaO=>aL ⟨i,F,I,af,aO⟩
   have ay:=ajs (h:=h) F I af aO
   cases m with
   |zero=>omega
   |succ m=>exact iD.top aa M m _ _ (by omega) (aF.succ aa M)
theorem axs {d:Day}(aa:d.de){f:Nat->Nat}(ab:Reach d f):∃h,nJ d f h:=by
 obtain⟨g,M,-⟩:=ab;exact iD.top aa M _ _ _ (bZ _) (iD.first aa M)
theorem iD.ajt {d:Day}(aa:d.de){f:Nat->Nat}{g:Nat->Rat}(M:Inv d f g){P:Nat->Prop}{h:Nat->Rat}(aF:iD d f g P h)(X:∀i,i<d.n->f i<10->d.bt i (f i)<h i->P i):∀i,i<d.n->h i=d.top f i :=
 have bF:nJ d f h:=⟨g,M,aF.stop aa M X,aF.le⟩
 bF.unique aa (Day.Cs ⟨h,bF⟩)
end Go.Mini
