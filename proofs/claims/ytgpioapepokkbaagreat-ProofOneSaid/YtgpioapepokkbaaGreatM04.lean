/- A part of the proof. -/
import Derived.Test.YtgpioapepokkbaaGreatM03
set_option linter.unusedSimpArgs false
set_option linter.unusedVariables false
set_option maxRecDepth 100000
set_option maxHeartbeats 4000000
noncomputable section
open Bool renaming and_eq_true->ec,eq_iff_iff->w2,false_and->fz,false_eq_true->kO,not_eq_true'->pj,not_false->dD,not_true->c8,or_eq_true->x3,or_false->lR,true_and->gT
open Classical renaming byContradiction->kn,choose->tB,choose_spec->o7
open Decidable renaming em->dA
open Int renaming add_zero->wS,mul_ne_zero->z7,mul_zero->tO,natAbs_mul->qG,natAbs_natCast->mC,one_mul->nY,zero_add->DN,zero_mul->zT
open List renaming all_append->agx,any_eq_false->ug,append_assoc->gU,append_nil->fJ,append_of_mem->ahF,cons_append->jO,drop->gI,drop_append->rn,drop_eq_getElem_cons->ia,drop_eq_nil_of_le->kP,drop_zero->lQ,ext_getElem?->o4,filter_nil->p9,findIdx_getElem->ahZ,findIdx_le_length->ag8,flatten_append->Hz,flatten_cons->jC,getD_eq_getElem?_getD->en,getElem?_append_left->qo,getElem?_append_right->rb,getElem?_cons_zero->u0,getElem?_drop->kU,getElem?_eq_getElem->bx,getElem?_eq_none->ke,getElem?_eq_some_iff->dz,getElem?_inj->agA,getElem?_map->bq,getElem?_range->th,getElem?_set->nr,getElem?_zipIdx->Ym,getElem_drop->Lt,getElem_mem->nc,length->D,length_append->fE,length_cons->hV,length_drop->rp,length_map->ak,length_nil->lq,length_replicate->Cq,length_set->jf,length_take->fR,map->yG,mapM_cons->lg,map_append->kI,map_congr_left->jM,map_cons->eE,map_map->lo,map_nil->c1,map_replicate->Hy,map_set->Ai,mem_append->kg,mem_cons->hE,mem_cons_of_mem->gX,mem_cons_self->gn,mem_filter->rP,mem_iff_getElem?->tD,mem_map->dS,mem_map_of_mem->pt,mem_of_getElem?->ep,mem_of_mem_drop->KQ,mem_or_eq_of_mem_set->Ek,mem_range->gV,mem_singleton->tP,nil_append->jg,range->dP,replicate->dC,replicate_append_replicate->YF,replicate_succ->pG,set_append_right->En,set_cons_succ->Ho,set_cons_zero->rJ,set_set->agJ,take->gq,take_add_one->g1,take_append_of_le_length->Co,take_of_length_le->dt,zipWith->Ze,zipWith_cons_cons->ahT,zip_cons_cons->ahS
open List.cons renaming injEq->bb
open Nat renaming add_comm->y6,add_sub_cancel_left->F7,add_zero->nQ,eq_zero_or_pos->kV,exists_eq_add_of_le->ahf,gcd->jk,le_mul_of_pos_right->JM,le_of_eq->An,le_refl->bW,le_trans->eP,lt_or_ge->h9,mul_assoc->Ew,mul_comm->rq,mul_le_mul->oS,mul_left_comm->ahO,mul_one->cK,mul_pos->L1,one_pos->Zb,pow_add->vK,pow_le_pow_right->wT,pow_succ->wD,reduceEqDiff->eb,reduceLeDiff->agI,sub_self->mg,sub_zero->Ap,succ_mul->ti,zero_add->kx,zero_le->fg
open Option renaming map_eq_some_iff->dR,map_some->ll
open Option.some renaming inj->mj,injEq->cj
open Prod renaming ext->ed,fst->B3
open Prod.mk renaming injEq->fp
open Rat renaming add_zero->oQ,divInt->lX,divInt_eq_div->L4,div_def->HE,intCast_add->vJ,intCast_eq_zero_iff->ah3,intCast_mul->p6,intCast_natCast->ob,intCast_sub->Cx,inv_pos->ahp,le_refl->gd,le_trans->vI,mul_comm->ur,mul_eq_zero->Zj,mul_nonneg->aho,mul_pos->LR,mul_zero->nu,neg_num->ah7,num_eq_zero->ahQ,one_mul->Qx,zero_add->vM,zero_den->aio,zero_mul->Cv,zero_num->aip
namespace Go.Mini
open Go
def XX:=cp vr λ(s,l,s2,ai)=>cV (D l<=1000000/\D ai<=1000000) (.same (eG (ht (s,l) (s2,ai))))
@[go_sem] theorem aKs (s:Int)(l:List Int)(s2:Int)(ai:List Int)(G:(D l)<=1000000/\D ai<=1000000):XX [.agg [.int .i64 s,.Y (l.map ag)],.agg [.int .i64 s2,.Y (ai.map ag)]]=some (.same (eG (ht (s,l) (s2,ai)))):=(cA yp (s,l,s2,ai)).trans (cY G _)
theorem at1 (T:bh)(jV:T vb=aV He)(Lo:T Og=aV XO)(Lp:T T8=aV XQ)(Lq:T Oh=aV XR)(s:Int)(l:List Int)(s2:Int)(ai:List Int)(G:(D l)<=1000000/\D ai<=1000000):WP T XW (.same (eG (ht (s,l) (s2,ai)))) [.J (.agg [.int .i64 s,.Y (l.map ag)]),.J (.agg [.int .i64 s2,.Y (ai.map ag)])]:=by
 refine cB ?_;simp only[XW];obtain⟨ck,cq⟩:=G
 by_cases ab:dE (s,l)=true
 ·by_cases bG:dE (s2,ai)=true
  ·obtain⟨x,O,e⟩:=(jR _).1 ab;obtain⟨y,ar,aC⟩:=(jR _).1 bG
   by_cases al:y=0
   ·have hm:ht (s,l) (s2,ai)=(ft,15):=by
     unfold ht;rw[ab,bG,aC,fS,ad (by rfl),ad al]
    rw[hm]
    cases e
    cases aC;have U:(y.sign==0)=true:=by rw[al];rfl
    refine aX ?_;repeat' (intro h<;>simp only[h,go_sem,go_sem_proc,jV,Lo,Lp,Lq,ab,bG,ck,cq,U,eG,aH,ft,c1]<;>try refine aw ?_ ?_)
   ·have main:∀p q:Int,p.natAbs<ee->q.natAbs<ee->0<q->∃g:Raw,lW (bO p) (bO q)=(g,0)/\g.2.length<=1000000/\kF (bO p) g=(bO (lX p q).num,bO (p.fmod ((jk p.natAbs q.natAbs:Nat):Int)),0)/\kF (bO q) g=(bO (lX p q).den,bO (q.fmod ((jk p.natAbs q.natAbs:Nat):Int)),0):=by
     intro p q aE aG mv;have oM:=KX aE aG;have D9:((jk p.natAbs q.natAbs:Nat):Int).natAbs<ee:=by rw[mC];exact oM
     have GG:=Wo (p:=p) (q:=q) (by omega);obtain⟨F,I⟩:=Wn (p:=p) mv;refine⟨bO ((jk p.natAbs q.natAbs:Nat):Int),?_,np D9,?_,?_⟩
     ·unfold lW;rw[k2 aE,k2 aG,fS,fS];rfl
     ·rw[DW aE D9 (by omega),F]
     ·rw[DW aG D9 (by omega),I]
    have qL:(y.sign==0)=false:=by simpa using al
    rcases Int.lt_or_gt_of_ne al with kE|hZ
    ·have hs:decide (y.sign<0)=true:=by rw[Int.sign_eq_neg_one_of_neg kE];rfl
     obtain⟨⟨cD,cf⟩,bc,oM,jQ,mw⟩:=main (-x) (-y) (by omega) (by omega) (by omega)
     have hm:ht (s,l) (s2,ai)=(av (lX (-x) (-y)),0):=by
      rw[e,aC,zX O ar al,Rat.neg_divInt_neg]
     rw[hm];have tg:jT (s,l)=bO (-x):=by unfold jT;rw[ad ab,e,fS]
     have uP:jT (s2,ai)=bO (-y):=by unfold jT;rw[ad bG,aC,fS]
     have Ea:s2=y.sign:=congrArg B3 aC;have hH:(bO (-x)).2.length<=1000000:=np (by omega);have jl:(bO (-y)).2.length<=1000000:=np (by omega);clear e aC;unfold av;generalize bO (-x)=dg at *;generalize bO (-y)=gi at *;obtain⟨a8,bV⟩:=dg;obtain⟨tI,tJ⟩:=gi;rw[<-Ea] at qL hs;refine aX ?_;repeat' (intro h<;>simp only[h,go_sem,go_sem_proc,jV,Lo,Lp,Lq,ab,bG,ck,cq,qL,hs,tg,uP,hH,jl,bc,oM,jQ,mw,eG,aH,fT,hh,db]<;>try refine aw ?_ ?_)
    ·have hs:decide (y.sign<0)=false:=by rw[Int.sign_eq_one_of_pos hZ];rfl
     obtain⟨⟨cD,cf⟩,bc,oM,jQ,mw⟩:=main x y O ar hZ
     have hm:ht (s,l) (s2,ai)=(av (lX x y),0):=by
      rw[e,aC,zX O ar al]
     rw[hm];have Ea:s2=y.sign:=congrArg B3 aC;rw[<-e] at bc jQ;rw[<-aC] at bc mw;rw[<-Ea] at qL hs;unfold av;refine aX ?_;repeat' (intro h<;>simp only[h,go_sem,go_sem_proc,jV,Lo,Lp,Lq,ab,bG,ck,cq,qL,hs,bc,oM,jQ,mw,eG,aH,fT,hh,db]<;>try refine aw ?_ ?_)
  ·have bG:dE (s2,ai)=false:=by simpa using bG
   have hm:ht (s,l) (s2,ai)=(ft,1):=by unfold ht;rw[bG,Bool.and_false];rfl
   rw[hm];refine aX ?_;repeat' (intro h<;>simp only[h,go_sem,go_sem_proc,jV,Lo,Lp,Lq,ab,bG,ck,cq,eG,aH,ft,c1]<;>try refine aw ?_ ?_)
 ·have ab:dE (s,l)=false:=by simpa using ab
  have hm:ht (s,l) (s2,ai)=(ft,1):=by unfold ht;rw[ab,fz];rfl
  rw[hm];refine aX ?_;repeat' (intro h<;>simp only[h,go_sem,go_sem_proc,jV,Lo,Lp,Lq,ab,ck,cq,eG,aH,ft,c1]<;>try refine aw ?_ ?_)
def PO:=cp Gn λ(p,q)=>cV (dB p/\dB q) (.same (eG (ht (bO p) (bO q))))
@[go_sem] theorem at2 (p:Int)(q:Int)(G:dB p/\dB q):PO [.int .i64 p,.int .i64 q]=some (.same (eG (ht (bO p) (bO q)))):=(cA OC (p,q)).trans (cY G _)
theorem at3 (T:bh)(at4:T Od=aV XP)(at5:T T0=aV XX)(p:Int)(q:Int)(G:dB p/\dB q):WP T XU (.same (eG (ht (bO p) (bO q)))) [.J (.int .i64 p),.J (.int .i64 q)]:=by
 refine cB ?_;simp only[XU];obtain⟨F,I⟩:=G;have dY:(bO p).2.length<=1000000:=np (yt F);have ai:(bO q).2.length<=1000000:=np (yt I);generalize gr:bO p=P at *;generalize fh:bO q=aL at *;obtain⟨a8,bV⟩:=P;obtain⟨tI,tJ⟩:=aL;refine aX ?_;repeat' (intro h<;>simp only[h,go_sem,go_sem_proc,at4,at5,F,I,gr,fh,dY,ai,db,eG,aH]<;>try refine aw ?_ ?_)
def XY:=cp vr λ(s,l,s2,ai)=>cV (D l<=1000000/\D ai<=1000000) (.same (.bool (w9 (s,l) (s2,ai))))
@[go_sem] theorem aKt (s:Int)(l:List Int)(s2:Int)(ai:List Int)(G:(D l)<=1000000/\D ai<=1000000):XY [.agg [.int .i64 s,.Y (l.map ag)],.agg [.int .i64 s2,.Y (ai.map ag)]]=some (.same (.bool (w9 (s,l) (s2,ai)))):=(cA yp (s,l,s2,ai)).trans (cY G _)
theorem at6 (T:bh)  (s:Int) (l:List Int) (s2:Int) (ai:List Int) (G:(D l)<=1000000/\D ai<=1000000):WP T XV (.same (.bool (w9 (s,l) (s2,ai)))) [.J (.agg [.int .i64 s,.Y (l.map ag)]),.J (.agg [.int .i64 s2,.Y (ai.map ag)])]:=by
 refine cB ?_;simp only[XV];obtain⟨ck,cq⟩:=G
 by_cases U:s=s2
 ·subst U
  by_cases aq:(D l)=D ai
  ·have aA:(((D l:Nat):Int)==((D ai:Nat):Int))=true:=by simp;omega
   simp only[go_sem,go_sem_proc,beq_self_eq_true,ak,aA,c8,bne];refine dv [2,3] [142002,142003] (λ(i:Nat) tm mem=>i<=D l/\l.take i=ai.take i/\tm 5=.J (.int .i64 i)) (λi=>D l-i) 0 (by refine⟨by omega,by simp,rfl⟩) ?_;intro vs ms aT aR;simp only[go_sem,go_sem_proc,ak] at aT aR;subst aT aR;rintro i tm mem Q hm ⟨M,aF,bk⟩;simp only[go_sem,go_sem_proc,bb] at Q hm;obtain⟨I,af⟩:=Q;obtain⟨cM,nX⟩:=hm;rcases dA (i<D l) with ay|b9
   ·have O:l[i]?=some l[i]:=bx ay;have ar:ai[i]?=some ai[i]:=bx (by omega);have tg:l.take (i+1)=l.take i++[l[i]]:=by rw[g1,O];rfl
    have uP:ai.take (i+1)=ai.take i++[ai[i]]:=by rw[g1,ar];rfl
    generalize l[i]=x at *;generalize ai[i]=y at *;have d1:decide ((i:Int)<(D l:Int))=true:=dn;have b4:=e9 (i:=i) (by omega)
    by_cases mn:x=y
    ·subst mn;simp only[go_sem,go_sem_proc,I,af,bk,cM,nX,O,ar,d1,b4,ag,ak,bq,bb,beq_self_eq_true,c8];repeat' (first|refine aw ?_ ?_|fail)<;>intro h<;>simp only[h,go_sem,go_sem_proc,I,af,bk,cM,nX,O,ar,d1,b4,ag,ak,bq,bb,beq_self_eq_true,c8]
     exact⟨i+1,by omega,by omega,by rw[tg,uP,aF],rfl⟩
    ·have bC:(x==y)=false:=by simpa using mn
     have ab:w9 (s,l) (s,ai)=false:=by
      refine j9 λh=>mn ?_;rw[fp] at h;rw[h.2,ar] at O;exact (mj O).symm
     rw[ab];simp only[go_sem,go_sem_proc,I,af,bk,cM,nX,O,ar,d1,b4,bC,ag,ak,bq,bb,dD];repeat' (first|refine aw ?_ ?_|fail)<;>intro h<;>simp only[h,go_sem,go_sem_proc,I,af,bk,cM,nX,O,ar,d1,b4,bC,ag,ak,bq,bb,dD]
   ·have d1:decide ((i:Int)<(D l:Int))=false:=dk
    have ab:w9 (s,l) (s,ai)=true:=by
     refine iw ?_;rw[dt (by omega),dt (by omega)] at aF;rw[aF]
    rw[ab];simp only[go_sem,go_sem_proc,I,af,bk,cM,nX,d1,ak];repeat' (first|refine aw ?_ ?_|fail)<;>intro h<;>simp only[h,go_sem,go_sem_proc,I,af,bk,cM,nX,d1,ak]
  ·have aA:(((D l:Nat):Int)==((D ai:Nat):Int))=false:=by simp;omega
   have ab:w9 (s,l) (s,ai)=false:=by
    refine j9 λh=>aq ?_;rw[fp] at h;rw[h.2]
   rw[ab];simp only[go_sem,go_sem_proc,beq_self_eq_true,ak,aA,c8,dD,bne];repeat' (first|refine aw ?_ ?_|fail)<;>intro h<;>simp only[h,go_sem,go_sem_proc,beq_self_eq_true,ak,aA,c8,dD,bne]
 ·have bC:(s==s2)=false:=by simpa using U
  have ab:w9 (s,l) (s2,ai)=false:=by
   refine j9 λh=>U ?_;rw[fp] at h;exact h.1
  rw[ab];simp only[go_sem,go_sem_proc,bC,ak,c8,dD,bne];repeat' (first|refine aw ?_ ?_|fail)<;>intro h<;>simp only[h,go_sem,go_sem_proc,bC,ak,c8,dD,bne]
def Hf (a b:a1):Bool:=decide (a=b)
def XZ:=cp yw λ(s,l,s2,ai,cR,bL,cW,b3)=>cV (D l<=1000000/\D ai<=1000000/\D bL<=1000000/\D b3<=1000000) (.same (.bool (Hf ((s,l),(s2,ai)) ((cR,bL),(cW,b3)))))
@[go_sem] theorem aKu (s:Int)(l:List Int)(s2:Int)(ai:List Int)(cR:Int)(bL:List Int)(cW:Int)(b3:List Int)(G:(D l)<=1000000/\D ai<=1000000/\D bL<=1000000/\D b3<=1000000):XZ [.agg [.int .i64 s,.Y (l.map ag),.int .i64 s2,.Y (ai.map ag)],.agg [.int .i64 cR,.Y (bL.map ag),.int .i64 cW,.Y (b3.map ag)]]=some (.same (.bool (Hf ((s,l),(s2,ai)) ((cR,bL),(cW,b3))))):=(cA B4 (s,l,s2,ai,cR,bL,cW,b3)).trans (cY G _)
theorem at7 (T:bh)(agw:T Oc=aV XY)(s:Int)(l:List Int)(s2:Int)(ai:List Int)(cR:Int)(bL:List Int)(cW:Int)(b3:List Int)(G:(D l)<=1000000/\D ai<=1000000/\D bL<=1000000/\D b3<=1000000):WP T XT (.same (.bool (Hf ((s,l),(s2,ai)) ((cR,bL),(cW,b3))))) [.J (.agg [.int .i64 s,.Y (l.map ag),.int .i64 s2,.Y (ai.map ag)]),.J (.agg [.int .i64 cR,.Y (bL.map ag),.int .i64 cW,.Y (b3.map ag)])]:=by
 refine cB ?_;simp only[XT];obtain⟨ck,cq,hH,jl⟩:=G
 have e:Hf ((s,l),(s2,ai)) ((cR,bL),(cW,b3))=(w9 (s,l) (cR,bL)&&w9 (s2,ai) (cW,b3)):=by
  unfold Hf w9;rw[w2,ec,decide_eq_true_eq,decide_eq_true_eq,decide_eq_true_eq,fp]
 rw[e];rcases F:w9 (s,l) (cR,bL)
 ·refine aX ?_;repeat' (intro h<;>simp only[h,go_sem,go_sem_proc,agw,ck,cq,hH,jl,F,fz]<;>try refine aw ?_ ?_)
 ·refine aX ?_;repeat' (intro h<;>simp only[h,go_sem,go_sem_proc,agw,ck,cq,hH,jl,F,gT]<;>try refine aw ?_ ?_)
def pU (f:a1)(n:Int):Bool:=decide ((f.1.2.length:Int)<=n)&&decide ((f.2.2.length:Int)<=n)
abbrev X0:Int×(List Int)×Int×(List Int)×Int->List Data:=λ(s,l,s2,ai,n)=>[.agg [.int .i64 s,.Y (l.map ag),.int .i64 s2,.Y (ai.map ag)],.int .i64 n]
def X1:=cp X0 λ(s,l,s2,ai,n)=>some (.same (.bool (pU ((s,l),(s2,ai)) n)))
theorem at8:∀a b,X0 a=X0 b->a=b:=by
  rintro⟨s1,dY,BV,BW,hC⟩ ⟨s2,ai,BX,BZ,ie⟩ h;simp only[bb,Data.agg.injEq,Data.int.injEq,Data.Y.injEq] at h;exact ed h.1.1.2 (ed (map_inj fj _ _ h.1.2.1) (ed h.1.2.2.1.2 (ed (map_inj fj _ _ h.1.2.2.2.1) h.2.1.2)))
@[go_sem] theorem aKv (s:Int)(l:List Int)(s2:Int)(ai:List Int)(n:Int):X1 [.agg [.int .i64 s,.Y (l.map ag),.int .i64 s2,.Y (ai.map ag)],.int .i64 n]=some (.same (.bool (pU ((s,l),(s2,ai)) n))):=cA at8 (s,l,s2,ai,n)
theorem at9 (T:bh)  (s:Int) (l:List Int) (s2:Int) (ai:List Int) (n:Int):WP T XS (.same (.bool (pU ((s,l),(s2,ai)) n))) [.J (.agg [.int .i64 s,.Y (l.map ag),.int .i64 s2,.Y (ai.map ag)]),.J (.int .i64 n)]:=by
 refine cB ?_;simp only[XS];unfold pU;rcases F:decide ((D l:Int)<=n)
 ·refine aX ?_;repeat' (intro h<;>simp only[h,go_sem,go_sem_proc,F,ak,fz]<;>try refine aw ?_ ?_)
 ·refine aX ?_;repeat' (intro h<;>simp only[h,go_sem,go_sem_proc,F,ak,gT]<;>try refine aw ?_ ?_)


theorem PQ {α:Type}{p:α->Bool}{l:List α}{i:Nat}{x:α}(O:l[i]?=some x):(l.take (i+1)).all p=((l.take i).all p&&p x):=by
 rw[g1,O,agx];simp
def Ce (a b:List a1):Bool:=decide (a=b)
end Go.Mini
namespace Go.Mini
open Go
variable {P:Program} {A:Nat->Prop} {w aP:World} {B bt:Lay} {mem mem':Mem}
structure k7 (P:Program) (f:FuncId) (eR:List R->Mem->Option gY):Prop where
 real:Real P f
 run:∀args mem oB,eR args mem=some oB->∀A w B vs,fm A w B mem->dp w (b7 A B) B args vs->NL P f vs A w B mem oB
def pV (res:List ox)(cg:R->Mem->Prop):eX->bd->Prop
 |.exit _,_=>False
 |.normal,st=>∃m,pE st res=some m/\cg m st.mem
 |.ret,st=>∃m,pE st res=some m/\cg m st.mem
@[go_sem] theorem aKw {res:List ox}{st:bd}(cg:R->Mem->Prop)(id:Nat):pV res cg (.exit id) st=False:=bz
@[go_sem] theorem aKx {res:List ox}{st:bd}(cg:R->Mem->Prop):pV res cg .normal st=∃m,pE st res=some m/\cg m st.mem:=bz
@[go_sem] theorem aKy {res:List ox}{st:bd}(cg:R->Mem->Prop):pV res cg .ret st=∃m,pE st res=some m/\cg m st.mem:=bz
theorem PR {mf:bT}{cg:R->Mem->Prop}{e:eX}{st:bd}(h:pV mf.res cg e st):Tu mf cg e st:=by
 cases e with
 |exit id=>exact h
 |normal=>exact h
 |ret=>exact h
theorem PS {kb : Nat}{own : List Nat}{f : FuncId}{fn : Func}{mf : bT}(aF : P.funcs[f]? = some fn)(tA : (fn.name == "runtime.NumGoroutine") = false)(aY : sl P kb own fn = some mf): Real P f := by
 cases ah:fn.body with
 |none=>simp[sl,ah] at aY
 |some c=>exact⟨fn,c,aF,ah,tA⟩
def qP (aL:List R->Mem->Option (R->Mem->Prop))(args:List R)(mem:Mem):Option gY:=(aL args mem).map .rel
@[go_sem] theorem aKz (aL:List R->Mem->Option (R->Mem->Prop))(args:List R)(mem:Mem):qP aL args mem=(aL args mem).map .rel:=bz
theorem PT {T : bh}{kb : Nat}{own : List Nat}(cN : qv P T)(hm : P.follows .mixedOrders = true){f : FuncId}{fn : Func}{mf : bT}(aF : P.funcs[f]? = some fn)(tA : (fn.name == "runtime.NumGoroutine") = false)(aY : sl P kb own fn = some { mf with body := erase mf.body })
  {aL:List R->Mem->Option (R->Mem->Prop)} (h:∀args mem cg,aL args mem=some cg->(D args)<=mf.n/\wp T mf.body (pV mf.res cg) ⟨lf args,mem⟩):k7 P f (qP aL):=by
 refine⟨PS aF tA aY,λargs mem oB hq A w B vs bS hv=>?_⟩;unfold qP at hq;rw[dR] at hq;obtain⟨cg,eS,rfl⟩:=hq;obtain⟨hlen,wz⟩:=h args mem cg eS;refine Calls.mono (FT (Post:=cg) cN hm aF aY hlen (λe st Q=>PR Q) wz bS hv) λe aP he=>?_;obtain⟨v,m,mem',bt,rfl,U,lh,aE⟩:=he;exact⟨v,m,mem',bt,rfl,U,lh,aE⟩
inductive sJ (da:Key->Prop):R->Prop
 |J {d:Data}:sJ da (.J d)
 |nil:sJ da .nil
 |ref {k g sz off len:Nat} (h:¬ da k):sJ da (.ref k g sz off len)
 |ptr {k g off:Nat} (h:¬ da k):sJ da (.ptr k g off)
 |fy {f:FuncId} {eO:List R} (h:∀(i:Nat) (m:R),eO[i]?=some m->sJ da m):sJ da (.fy f eO)
 |agg {cs:List R} (h:∀(i:Nat) (m:R),cs[i]?=some m->sJ da m):sJ da (.agg cs)
 |cI {cs:List R} (h:∀(i:Nat) (m:R),cs[i]?=some m->sJ da m):sJ da (.cI cs)
 |no:sJ da .no
 |undef:sJ da .undef
theorem clean_of {da:Key->Prop}{aW:Nat->Prop}(tX:∀k,da k->B k=none){m:R}{v:Value}(h:bs w aW B m v):sJ da m:=by
 induction h with
 |J h=>exact .J
 |nil=>exact .nil
 |ref he bc hv=>exact .ref λaj=>by rw[tX _ aj] at he;cases he
 |ptr he bc hv=>exact .ptr λaj=>by rw[tX _ aj] at he;cases he
 |fy aq aa ax=>exact .fy λi m M=>ax i m _ M (bx (by have ay:=(dz.1 M).1;omega))
 |agg aq aa ax=>exact .agg λi m M=>ax i m _ M (bx (by have ay:=(dz.1 M).1;omega))
 |cI aq aa ax=>exact .cI λi m M=>ax i m _ M (bx (by have ay:=(dz.1 M).1;omega))
 |no=>exact .no
 |undef=>exact .undef
open Classical in
def sK (da:Key->Prop)(B:Lay):Lay:=λk=>if da k then none else B k
theorem Ej {da:Key->Prop}{b:Nat}(h:sc (sK da B) b):sc B b:=by
 obtain⟨k,e,he,ah⟩:=h;unfold sK at he
 split at he
 ·cases he
 ·exact⟨k,e,he,ah⟩
theorem aua {da:Key->Prop}{m:R}{v:Value}(h:bs w (b7 A B) B m v)(G:sJ da m):bs w (b7 A (sK da B)) (sK da B) m v:=by
 have at_:∀{k:Key} {e:mb},¬ da k->B k=some e->sK da B k=some e:=λQ he=>by unfold sK;rw[ae Q];exact he
 induction h with
 |J h=>exact .J (h.less λb ah=>ah.imp Ej id)
 |nil=>exact .nil
 |ref he bc hv=>cases G with|ref Q=>exact .ref (at_ Q he) bc hv
 |ptr he bc hv=>cases G with|ptr Q=>exact .ptr (at_ Q he) bc hv
 |fy aq aa ax=>cases G with|fy G=>exact .fy aq λi d v M hv=>ax i d v M hv (G i d M)
 |agg aq aa ax=>cases G with|agg G=>exact .agg aq λi d v M hv=>ax i d v M hv (G i d M)
 |cI aq aa ax=>cases G with|cI G=>exact .cI aq λi d v M hv=>ax i d v M hv (G i d M)
 |no=>exact .no
 |undef=>exact .undef
theorem eB.drop {da:Key->Prop}{PU:Mem}(al:fm A w B mem)(tX:∀k,da k->mem k=none)(h:eB A w B aP bt mem')(F:∀k,da k->PU k=none)(I:∀k,¬ da k->PU k=mem' k)
  (G:∀k g cs,PU k=some (g,cs)->∀m∈cs,(∃d,m=.J d)\/∃fM Dj tr,mem fM=some (Dj,tr)/\m∈tr):eB A w B aP (sK da bt) PU:=by
 have fU:∀k,da k->B k=none:=λk Q=>al.A2 k (tX k Q);have at_:∀{k:Key},¬ da k->sK da bt k=bt k:=λQ=>by unfold sK;rw[ae Q]
 have X2:∀{k:Key},da k->sK da bt k=none:=λQ=>by unfold sK;rw[ad Q]
 refine⟨⟨λk Q=>?_,λk k' e e' b he gf ah hX=>?_,λb aN bJ=>h.dV.sep b aN (Ej bJ),h.dV.lt,λk g cs Q=>?_⟩,⟨h.mO.size,λb ah bJ=>?_,λk e he=>?_⟩,h.az,λb ah=>h.fresh b (Ej ah)⟩
 ·by_cases aj:da k
  ·exact X2 aj
  ·rw[at_ aj];exact h.dV.A2 k (by rw[<-I k aj];exact Q)
 ·by_cases aj:da k
  ·rw[X2 aj] at he;cases he
  ·by_cases pF:da k'
   ·rw[X2 pF] at gf;cases gf
   ·rw[at_ aj] at he;rw[at_ pF] at gf;exact h.dV.inj k k' e e' b he gf ah hX
 ·by_cases aj:da k
  ·rw[F k aj] at Q;cases Q
  ·obtain⟨e,he,bc,aK,ah⟩:=h.dV.dd k g cs (by rw[<-I k aj];exact Q);refine⟨e,by rw[at_ aj];exact he,bc,aK,λb jH=>?_⟩
   obtain⟨vs,T,aQ,aS,hle,ab⟩:=ah b jH;refine⟨vs,T,aQ,aS,hle,λi m M=>?_⟩;obtain⟨v,hv,qp⟩:=ab i m M;refine⟨v,hv,aua qp ?_⟩;rcases G k g cs Q m (ep M) with ⟨d,rfl⟩|⟨fM,Dj,tr,ml,fZ⟩
   ·exact .J
   ·obtain⟨b0,J2,GG,mm,sA⟩:=al.dd fM Dj tr ml
    cases Gv:b0.dd with
    |none=>rw[mm Gv] at fZ;cases fZ
    |some su =>
     obtain⟨aKA,aKB,_,_,_,pO⟩:=sA su Gv;obtain⟨i0,pM⟩:=tD.1 fZ;obtain⟨v0,_,aub⟩:=pO i0 m pM;exact clean_of fU aub
 ·obtain⟨af,aM⟩:=h.mO.Jc b ah bJ;exact⟨af,λO=>aM (Ej O)⟩
 ·have aj:¬ da k:=λaj=>by rw[fU k aj] at he;cases he
  rw[at_ aj];exact h.mO.key k e he
def Cf (br:List R->Mem->Option (Data×Key×Nat×Nat×Data))(args:List R)(mem:Mem):Option gY:=(br args mem).map λx => .e3 x.1 x.2.1 x.2.2.1 x.2.2.2.1 (.J x.2.2.2.2)
@[go_sem] theorem aKC (br:List R->Mem->Option (Data×Key×Nat×Nat×Data))(args:List R)(mem:Mem):Cf br args mem=(br args mem).map λx => .e3 x.1 x.2.1 x.2.2.1 x.2.2.2.1 (.J x.2.2.2.2):=bz
theorem auc {T : bh}{kb : Nat}{own : List Nat}(cN : qv P T)(hm : P.follows .mixedOrders = true){f : FuncId}{fn : Func}{mf : bT}(aF : P.funcs[f]? = some fn)(tA : (fn.name == "runtime.NumGoroutine") = false)(aY : sl P kb own fn = some { mf with body := erase mf.body })
  (da:Key->Prop) {br:List R->Mem->Option (Data×Key×Nat×Nat×Data)}
  (h:∀args mem r k g i d,br args mem=some (r,k,g,i,d)->(D args)<=mf.n/\(∀j,da j->mem j=none)/\¬ da k/\(∃cs,mem k=some (g,cs)) /\
   wp T mf.body (pV mf.res λm mem'=>cz 6 emp m=some r/\∀j,¬ da j->mem' j=aZ mem k g ((q7 mem k).set i (.J d)) j) ⟨lf args,mem⟩):k7 P f (Cf br):=by
 refine⟨PS aF tA aY,λargs mem oB hq A w B vs bS hv=>?_⟩;unfold Cf at hq;rw[dR] at hq;obtain⟨⟨r,k,g,i,d⟩,mG,rfl⟩:=hq;obtain⟨hlen,tX,Q,⟨cs,jI⟩,wz⟩:=h args mem r k g i d mG;refine Calls.mono (FT (Post:=λm mem'=>cz 6 emp m=some r/\∀j,¬ da j->mem' j=aZ mem k g ((q7 mem k).set i (.J d)) j) cN hm aF aY hlen (λe st Q=>PR Q) wz bS hv) λe aP he=>?_;obtain⟨v,m,mem',bt,rfl,U,lh,aa,fZ⟩:=he;refine⟨v,sK da bt,rfl,U.drop bS tX (λj aj=>?_) (λj aj=>(fZ j aj).symm) ?_,.J ((N3 6 m v r aa lh).less λb ah=>ah.imp Ej id)⟩
 ·have:j≠k:=λe=>Q (e ▸ aj);simp only[aZ,this,if_false];exact tX j aj
 ·intro c7 cf oC I m nm
  by_cases gy:c7=k
  ·subst gy;simp only[aZ,if_true,cj,fp] at I;obtain⟨-,rfl⟩:=I;rcases Ek nm with O|rfl
   ·refine .inr ⟨c7,g,cs,jI,?_⟩
    simpa [q7,jI] using O
   ·exact .inl ⟨d,rfl⟩
  ·simp only[aZ,gy,if_false] at I;exact .inr ⟨c7,cf,oC,I,nm⟩
def X3:Option gY->Option gY->Option gY
 |some x,_=>some x
 |none,e=>e
@[go_sem] theorem aKD (x:gY)(e:Option gY):X3 (some x) e=some x:=bz
@[go_sem] theorem aKE (e:Option gY):X3 none e=e:=bz
def xa (lP:FuncId->Option (List Data->Option eL))(sL:FuncId->Option (List R->Mem->Option gY)):bh:=λf args mem=>match sL f with
 |some eR=>X3 (eR args mem) (Bp lP f args mem)
 |none=>Bp lP f args mem
theorem vB {lP:FuncId->Option (List Data->Option eL)}{sL:FuncId->Option (List R->Mem->Option gY)}(h:∀f aO,lP f=some aO->tz P f aO)(ab:∀f eR,sL f=some eR->k7 P f eR):qv P (xa lP sL):=by
 intro f args mem oB cN;unfold xa at cN
 split at cN
 ·rename_i eR hq;have U:=ab f eR hq
  cases O:eR args mem with
  |none =>
   rw[O] at cN;exact ad8 h f args mem oB cN
  |some y =>
   rw[O] at cN
   cases cN;exact⟨U.real,λA w B vs bS hv=>U.run args mem oB O A w B vs bS hv⟩
 ·exact ad8 h f args mem oB cN
theorem Kd.agy {f:FuncId}{bM:List R->Mem->Option (R×Mem)}(h:Kd P f bM):k7 P f (Bu bM):=by
 refine⟨h.real,λargs mem oB hq A w B vs bS hv=>?_⟩;unfold Bu at hq;rw[dR] at hq;obtain⟨x,O,rfl⟩:=hq;exact h.run args mem x O A w B vs bS hv
section
variable {lP:FuncId->Option (List Data->Option eL)} {sL:FuncId->Option (List R->Mem->Option gY)} {f:FuncId}
theorem oO {aO:List Data->Option eL}(h:sL f=none)(ct:lP f=some aO):xa lP sL f=aV aO:=by
 funext args mem
 unfold xa;rw[h];exact congrFun (congrFun (aea ct) args) mem
theorem xb {eR:List R->Mem->Option gY}(h:sL f=some eR)(ct:lP f=none):xa lP sL f=eR:=by
 funext args mem
 unfold xa Bp;rw[h,ct];dsimp only
 cases eR args mem<;>rfl
theorem Hg {aO:List Data->Option eL}{bM:List R->Mem->Option (R×Mem)}(h:sL f=some (Bu bM))(ct:lP f=some aO):xa lP sL f=zw aO bM:=by
 funext args mem
 unfold xa;rw[h];unfold zw Bu;rw[show Bp lP f args mem=aV aO args mem from congrFun (congrFun (aea ct) args) mem];dsimp only
 cases bM args mem<;>rfl
end
def PV (l:List (FuncId×(List R->Mem->Option gY))):FuncId->Option (List R->Mem->Option gY):=λf=>(l.find? λp=>p.1==f).map (·.2)
theorem vC {l:List (FuncId×(List R->Mem->Option gY))}(h:∀p∈l,k7 P p.1 p.2):∀f bM,PV l f=some bM->k7 P f bM:=by
 intro f aO aF;unfold PV at aF;rw[dR] at aF;obtain⟨p,aE,rfl⟩:=aF;have F:=List.mem_of_find?_eq_some aE;have I:=List.find?_some aE;have af:p.1=f:=by simpa using I
 exact af ▸ h p F
theorem m1:∀p∈([]:List (FuncId×(List R->Mem->Option gY))),k7 P p.1 p.2:=by simp
theorem pW {f:FuncId}{aO:List R->Mem->Option gY}{l:List (FuncId×(List R->Mem->Option gY))}(h:k7 P f aO)(aq:∀p∈l,k7 P p.1 p.2):∀p∈(f,aO)::l,k7 P p.1 p.2:=by
 intro p aE;rcases hE.1 aE with rfl|aE
 ·exact h
 ·exact aq p aE
open Classical in
def xc {α:Type}(bj:α->List R->Mem->Prop)(cg:α->Mem->R->Mem->Prop):List R->Mem->Option (R->Mem->Prop):=λargs mem=>if h:∃a,bj a args mem then some (cg (tB h) mem) else none
theorem X4 {α:Type}{bj:α->List R->Mem->Prop}{cg:α->Mem->R->Mem->Prop}(uniq:∀a b args mem,bj a args mem->bj b args mem->a=b){a:α}{args:List R}{mem:Mem}(h:bj a args mem):xc bj cg args mem=some (cg a mem):=by
 have O:∃b,bj b args mem:=⟨a,h⟩;unfold xc;rw[dif_pos O,uniq _ _ _ _ (o7 O) h]
theorem Lr {α:Type}{bj:α->List R->Mem->Prop}{cg:α->Mem->R->Mem->Prop}{args:List R}{mem:Mem}{x:R->Mem->Prop}(h:xc bj cg args mem=some x):∃a,bj a args mem/\x=cg a mem:=by
 unfold xc at h
 split at h
 ·rename_i O;exact⟨_,o7 O,(mj h).symm⟩
 ·cases h
end Go.Mini
namespace Go.Mini
open Go
def PW:=cp D8 λ(s,l,s2,ai)=>some (.same (.bool (s==0)))
@[go_sem] theorem aKF (s:Int)(l:List Int)(s2:Int)(ai:List Int):PW [.agg [.int .i64 s,.Y (l.map ag),.int .i64 s2,.Y (ai.map ag)]]=some (.same (.bool (s==0))):=cA K4 (s,l,s2,ai)
theorem Ls (T:bh)  (s:Int) (l:List Int) (s2:Int) (ai:List Int):WP T WI (.same (.bool (s==0))) [.J (.agg [.int .i64 s,.Y (l.map ag),.int .i64 s2,.Y (ai.map ag)])]:=by
 refine cB ?_;simp only[WI];refine aX ?_;repeat' (intro h<;>simp only[h,go_sem,go_sem_proc]<;>try refine aw ?_ ?_)
def Ag (args:List R)(mem:Mem):Option (Data×Key×Nat×Nat×Data) :=
 match args with
 | [.ptr k g 0,.J (.agg [.int .i64 s,.Y l,.int .i64 s2,.Y ai]),.J (.int .i64 e)]=>match mem k,mem 168004,mem 168006 with
  |some (c6,[_,_,.J (.bool c)]),none,none=>if c6=g/\k≠168004/\k≠168006 then some (.agg [.int .i64 s,.Y l,.int .i64 s2,.Y ai],k,g,2,.bool (c||e != 0)) else none
  |_,_,_=>none
 |_=>none
def PX (j:Key):Prop:=j=168004\/j=168006
theorem aud (T:bh)(args:List R)(mem:Mem)(r:Data)(k g i:Nat)(d:Data)(h:Ag args mem=some (r,k,g,i,d)):
  (D args)<=19/\(∀j,PX j->mem j=none)/\¬ PX k/\(∃cs,mem k=some (g,cs)) /\
   wp T Py.body (pV Py.res λm mem'=>cz 6 emp m=some r/\∀j,¬ PX j->mem' j=aZ mem k g ((q7 mem k).set i (.J d)) j) ⟨lf args,mem⟩:=by
 unfold Ag at h
 split at h
 ·rename_i fM Dj s l s2 ai e
  split at h
  ·rename_i cD a b c hm aM bI
   split at h
   ·rename_i bc;obtain⟨rfl,vD,n6⟩:=bc;simp only[cj,fp] at h;obtain⟨rfl,rfl,rfl,rfl,rfl⟩:=h;refine⟨by simp,?_,?_,⟨_,hm⟩,?_⟩
    ·rintro j (rfl|rfl)
     ·exact aM
     ·exact bI
    ·rintro (h|h)
     ·exact vD h
     ·exact n6 h
    ·have ix:∀x:Bool,q7 mem fM=[a,b,.J (.bool c)]:=λ_=>by simp only[q7,hm]
     have PY:(fM=168004)=False:=eq_false vD;have PZ:(fM=168006)=False:=eq_false n6;have P0:(168004=fM)=False:=eq_false (Ne.symm vD);have P1:(168006=fM)=False:=eq_false (Ne.symm n6);refine tn ?_;simp only[Py]
     cases c
     ·simp only[go_sem,go_sem_proc,hm,aM,bI,PY,PZ,P0,P1];repeat' (first|refine aw ?_ ?_|fail)<;>intro h<;>simp only[h,go_sem,go_sem_proc,hm,aM,bI,PY,PZ,P0,P1]
      refine⟨_,rfl,by first|rfl|simp[go_sem,cz],λj aj=>?_⟩
      have P2:j≠168004:=λh=>aj (.inl h);have Cg:j≠168006:=λh=>aj (.inr h)
      by_cases dW:j=fM<;>simp[aZ,q7,hm,P2,Cg,dW,vD,n6,bne]
     ·simp only[go_sem,go_sem_proc,hm,aM,bI,PY,PZ,P0,P1];repeat' (first|refine aw ?_ ?_|fail)<;>intro h<;>simp only[h,go_sem,go_sem_proc,hm,aM,bI,PY,PZ,P0,P1]
      refine⟨_,rfl,by first|rfl|simp[go_sem,cz],λj aj=>?_⟩
      have P2:j≠168004:=λh=>aj (.inl h);have Cg:j≠168006:=λh=>aj (.inr h)
      by_cases dW:j=fM<;>simp[aZ,q7,hm,P2,Cg,dW,vD,n6,bne]
   ·cases h
  ·cases h
 ·cases h
abbrev du:=Nat×Nat×List a1
def refsOf (N:Nat)(rows:List du):List R:=rows.map λx => .ref (x.1+900000) x.2.1 4 0 (N+1)
structure Ah (go N:Nat) (rows:List du) (bad:Bool) (mem:Mem):Prop where
 m:mem 129015=some (0,[.ref 129035 go 1 0 N,.J (.int .i64 N),.J (.bool bad)])
 o:mem 129035=some (go,refsOf N rows)
 r:∀x∈rows,mem (x.1+900000)=some (x.2.1,bf aH x.2.2)
structure jW (N:Nat) (rows:List du):Prop where
 len:(D rows)=N
 P3:(rows.map (·.1)).Nodup
 row:∀x∈rows,x.2.2.length=N+1/\∀f∈x.2.2,okF f
def Hh (k:Nat):Prop:=k<900000/\k≠129015/\k≠129035/\k≠148008/\k≠148010/\k≠148013
def km (eF:Mem)(go N:Nat)(rows:List du)(bad:Bool)(mem:Mem):Prop:=Ah go N rows bad mem/\∀k,Hh k->mem k=eF k
section
variable {eF mem:Mem} {go N:Nat} {rows:List du} {lY:Bool}
theorem km.flag (b:Bool)(h:km eF go N rows lY mem):km eF go N rows b (aZ mem 129015 0 [.ref 129035 go 1 0 N,.J (.int .i64 N),.J (.bool b)]):=by
 refine⟨⟨by simp[aZ],by simp[aZ,h.1.o],λx O=>?_⟩,λk Q=>?_⟩
 ·rw[<-h.1.r x O];exact ae (show ¬ ((x.1+900000:Nat)=129015) by omega)
 ·rw[<-h.2 k Q];exact ae Q.2.1
theorem km.own {k g:Nat}{cs:List R}(Q:k=148008\/k=148010\/k=148013)(h:km eF go N rows lY mem):km eF go N rows lY (aZ mem k g cs):=by
 have bC:∀j:Nat,j≠k->aZ mem k g cs j=mem j:=λj aj=>ae aj;refine⟨⟨by rw[bC _ (by omega)];exact h.1.m,by rw[bC _ (by omega)];exact h.1.o,λx O=>by rw[bC _ (by omega)];exact h.1.r x O⟩,λj aj=>?_⟩
 have:=aj.2;rw[bC _ (by omega)];exact h.2 j aj
theorem km.set {i:Nat}{x:du}(cX:jW N rows)(M:rows[i]?=some x)(l:List a1)(h:km eF go N rows lY mem):km eF go N (rows.set i (x.1,x.2.1,l)) lY (aZ mem (x.1+900000) x.2.1 (bf aH l)):=by
 have bC:∀j:Nat,j≠x.1+900000->aZ mem (x.1+900000) x.2.1 (bf aH l) j=mem j:=λj aj=>ae aj;obtain⟨ay,agz⟩:=dz.1 M;refine⟨⟨by rw[bC _ (by omega)];exact h.1.m,?_,λy ar=>?_⟩,λj aj=>?_⟩
 ·rw[bC _ (by omega),h.1.o]
  congr 2
  unfold refsOf;apply o4;intro j;rw[bq,bq,nr]
  by_cases ln:i=j
  ·subst ln;rw[ad rfl,ad ay,M]
   rfl
  ·rw[ae ln]
 ·obtain⟨j,aj⟩:=tD.1 ar;rw[nr] at aj
  by_cases ln:i=j
  ·subst ln;rw[ad rfl,ad ay] at aj
   cases aj;simp[aZ]
  ·rw[ae ln] at aj
   have aKG:y.1≠x.1:=by
    intro he;have F:(rows.map (·.1))[j]?=some y.1:=by rw[bq,aj];rfl
    have I:(rows.map (·.1))[i]?=some y.1:=by rw[bq,M,he];rfl
    have aq:i<(rows.map (·.1)).length:=by rw[ak];exact ay
    exact ln ((agA aq cX.P3).1 (I.trans F.symm))
   rw[bC (y.1+900000) (by omega)];exact h.1.r y (ep aj)
 ·have:=aj.1;rw[bC j (by omega)];exact h.2 j aj
theorem km.swap {i j:Nat}{a b:du}(M:rows[i]?=some a)(aj:rows[j]?=some b)(h:km eF go N rows lY mem):km eF go N ((rows.set i b).set j a) lY (aZ (aZ mem 129035 go (refsOf N (rows.set i b))) 129035 go (refsOf N ((rows.set i b).set j a))):=by
 have bC:∀k:Nat,k≠129035->aZ (aZ mem 129035 go (refsOf N (rows.set i b))) 129035 go (refsOf N ((rows.set i b).set j a)) k=mem k:=λk Q=>by simp[aZ,Q]
 refine⟨⟨by rw[bC _ (by omega)];exact h.1.m,by simp[aZ],λx O=>?_⟩,λk Q=>?_⟩
 ·rw[bC _ (by omega)];apply h.1.r;rcases Ek O with O|rfl
  ·rcases Ek O with O|rfl
   ·exact O
   ·exact ep aj
  ·exact ep M
 ·rw[bC _ Q.2.2.1];exact h.2 k Q
theorem jW.set {i:Nat}{x:du}(cX:jW N rows)(M:rows[i]?=some x){l:List a1}(aq:(D l)=N+1)(aF:∀f∈l,okF f):jW N (rows.set i (x.1,x.2.1,l)):=by
 obtain⟨ay,agz⟩:=dz.1 M;refine⟨by rw[jf];exact cX.len,?_,λy ar=>?_⟩
 ·have:(rows.set i (x.1,x.2.1,l)).map (·.1)=rows.map (·.1):=by
   rw[Ai];apply o4;intro j;rw[nr]
   by_cases ln:i=j
   ·subst ln;rw[ad rfl,ak,ad ay,bq,M];rfl
   ·rw[ae ln]
  rw[this];exact cX.P3
 ·rcases Ek ar with ar|rfl
  ·exact cX.row y ar
  ·exact⟨aq,aF⟩
theorem aue {α:Type}{l:List α}{i j:Nat}{a b:α}(M:l[i]?=some a)(aj:l[j]?=some b)(h:l.Nodup):((l.set i b).set j a).Nodup:=by
 obtain⟨hQ,sM⟩:=dz.1 M;obtain⟨ib,NA⟩:=dz.1 aj
 have main:∀p q,p<q->q<(D l)->((l.set i b).set j a)[p]?≠((l.set i b).set j a)[q]?:=by
  intro p q P4 aG;rw[nr,nr,nr,nr];have inj:∀p q,p<(D l)->l[p]?=l[q]?->p=q:=λp q aE he=>(agA aE h).1 he;simp only[jf]
  by_cases F:j=p
  ·subst F;have I:¬ j=q:=by omega
   rw[ad rfl,ad ib,ae I]
   by_cases af:i=q
   ·subst af;rw[ad rfl,ad hQ];intro he;rw[<-M,<-aj] at he;have:=inj _ _ hQ he;omega
   ·rw[ae af,<-M];intro he;exact af (inj _ _ hQ he)
  ·rw[ae F]
   by_cases af:i=p
   ·subst af;rw[ad rfl,ad hQ]
    by_cases I:j=q
    ·subst I;rw[ad rfl,ad ib,<-M,<-aj];intro he;have:=inj _ _ ib he;omega
    ·rw[ae I,ae (by omega),<-aj];intro he;exact I (inj _ _ ib he)
   ·rw[ae af]
    by_cases I:j=q
    ·subst I;rw[ad rfl,ad ib,<-M];intro he;exact af (inj _ _ hQ he.symm)
    ·rw[ae I]
     by_cases aM:i=q
     ·subst aM;rw[ad rfl,ad hQ,<-aj];intro he;exact F (inj _ _ ib he.symm)
     ·rw[ae aM];intro he;have:=inj _ _ (by omega) he;omega
 refine List.pairwise_iff_getElem.2 λp q aE aG P4 he=>?_;simp only[jf] at aE aG;refine main p q P4 aG ?_;rw[bx (by simpa using aE),bx (by simpa using aG),he]
theorem jW.swap {i j:Nat}{a b:du}(cX:jW N rows)(M:rows[i]?=some a)(aj:rows[j]?=some b):jW N ((rows.set i b).set j a):=by
 refine⟨by rw[jf,jf];exact cX.len,?_,λx O=>?_⟩
 ·rw[Ai,Ai];exact aue (by rw[bq,M];rfl) (by rw[bq,aj];rfl) cX.P3
 ·rcases Ek O with O|rfl
  ·rcases Ek O with O|rfl
   ·exact cX.row x O
   ·exact cX.row _ (ep aj)
  ·exact cX.row _ (ep M)
end
theorem auf {l:List a1}{i:Nat}{a b c d}(h:l[i]?=some ((a,b),(c,d))):cut (bf aH l) (i*4) 4=some [.J (.int .i64 a),.J (.Y (b.map ag)),.J (.int .i64 c),.J (.Y (d.map ag))]:=by
 have:=TC nq h (f:=0) (n:=4) (by omega);rw[nQ] at this;rw[this]
 rfl
theorem aug {N:Nat}{rows:List du}{i:Nat}{x:du}(h:rows[i]?=some x):cut (refsOf N rows) i 1=some [.ref (x.1+900000) x.2.1 4 0 (N+1)]:=by
 obtain⟨ay,rfl⟩:=dz.1 h;unfold cut refsOf;rw[ad (by rw[ak];omega),<-List.map_drop,ia ay]
 rfl
theorem auh {l m:List a1}(h:bf aH l=bf aH m):l=m:=Vc nq m0 _ _ h (by omega)
def ns (f:a1):Bool:=f.1.1==0
def cellOf (x:du)(c:Nat):a1:=x.2.2.getD c ft
def findAt (rows:List du)(r c:Nat):Nat:=r+(rows.drop r).findIdx λx => !ns (cellOf x c)
def jn (fC:a1):List a1->List a1->Bool->List a1×Bool
 |f::dK,p::ps,false=>((pf f (n2 fC p).1).1::(jn fC dK ps ((n2 fC p).2 != 0||(pf f (n2 fC p).1).2 != 0)).1,(jn fC dK ps ((n2 fC p).2 != 0||(pf f (n2 fC p).1).2 != 0)).2)
 |dK,_,b=>(dK,b)
def jX (fX:List a1)(r c:Nat):Nat->List du->Bool->List du×Bool
 |_,[],bad=>([],bad)
 |i,x::xs,bad=>if (i==r||ns (cellOf x c))=true then (x::(jX fX r c (i+1) xs bad).1,(jX fX r c (i+1) xs bad).2) else
  ((x.1,x.2.1,(jn (cellOf x c) x.2.2 fX bad).1)::(jX fX r c (i+1) xs (jn (cellOf x c) x.2.2 fX bad).2).1,(jX fX r c (i+1) xs (jn (cellOf x c) x.2.2 fX bad).2).2)
def hS (Ld:a1)(l:List a1):List a1×Bool:=(l.map λf=>(jU f Ld).1,l.any λf=>(jU f Ld).2 != 0)
def rowAt (rows:List du)(i:Nat):du:=rows.getD i (0,0,[])
def qQ (rows:List du)(i j:Nat):List du:=(rows.set i (rowAt rows j)).set j (rowAt rows i)
def El (rows:List du)(r c:Nat):List du:=rows.set r ((rowAt rows r).1,(rowAt rows r).2.1,(hS (cellOf (rowAt rows r) c) (rowAt rows r).2.2).1)
def iD (rows:List du)(r c:Nat):Bool×List du×Bool :=
 if findAt rows r c=(D rows) then (true,rows,false) else
  (false,jX (hS (cellOf (rowAt (qQ rows r (findAt rows r c)) r) c) (rowAt (qQ rows r (findAt rows r c)) r).2.2).1 r c 0 (El (qQ rows r (findAt rows r c)) r c)
   (hS (cellOf (rowAt (qQ rows r (findAt rows r c)) r) c) (rowAt (qQ rows r (findAt rows r c)) r).2.2).2)
theorem aui {rows:List du}{r c i:Nat}{x:du}(O:rows[i]?=some x)(ab:r<=i)(aS:∀j y,r<=j->j<i->rows[j]?=some y->ns (cellOf y c)=true)(h:ns (cellOf x c)=false):findAt rows r c=i:=by
 unfold findAt;obtain⟨ay,agz⟩:=dz.1 O
 have:(rows.drop r).findIdx (λx => !ns (cellOf x c))=i-r:=by
  rw[List.findIdx_eq (by rw[rp];omega)];refine⟨?_,λj aj=>?_⟩
  ·rw[Lt];have:rows[r+(i-r)]?=some x:=by rw[show r+(i-r)=i by omega];exact O
   rw[(dz.1 this).2,h];rfl
  ·rw[Lt];have:=aS (r+j) _ (by omega) (by omega) (bx (by omega));rw[this];rfl
 omega
theorem auj {rows:List du}{r c:Nat}(ab:r<=D rows)(aS:∀j y,r<=j->rows[j]?=some y->ns (cellOf y c)=true):findAt rows r c=D rows:=by
 unfold findAt
 have:(rows.drop r).findIdx (λx => !ns (cellOf x c))=(rows.drop r).length:=by
  rw[List.findIdx_eq_length];intro y ar;obtain⟨j,aj⟩:=tD.1 ar;rw[kU] at aj;rw[aS (r+j) y (by omega) aj];rfl
 rw[this,rp];omega
theorem lA {x:Rat}(h:dm x):okF (av x):=⟨np h.1,np (w0 h)⟩
theorem tY:okF ft:=⟨by simp[ft],by simp[ft]⟩
theorem auk (p q:Raw):okF (ht p q).1:=by
 unfold ht
 split
 ·rename_i h;rw[ec] at h;obtain⟨x,O,aA⟩:=(jR _).1 h.1;obtain⟨y,ar,aC⟩:=(jR _).1 h.2
  split
  ·exact tY
  ·rw[aA,aC,fS,fS];exact lA (Pq O ar)
 ·exact tY
theorem X5 (p q:Raw×Int):okF (vv p q).1:=by
 unfold vv
 split
 ·split
  ·exact auk _ _
  ·exact tY
 ·exact tY
theorem aul (a b:a1):okF (vw a b).1:=by
 unfold vw
 split
 ·split
  ·exact X5 _ _
  ·exact tY
 ·exact tY
theorem agB (a b:a1):okF (pf a b).1:=by
 unfold pf
 split
 ·split
  ·exact aul _ _
  ·exact tY
 ·exact tY
theorem aum (a b:a1):okF (n2 a b).1:=by
 unfold n2
 split
 ·split
  ·exact X5 _ _
  ·exact tY
 ·exact tY
theorem agC (a b:a1):okF (jU a b).1:=by
 unfold jU
 split
 ·split
  ·split
   ·exact tY
   ·exact X5 _ _
  ·exact tY
 ·exact tY
theorem X6 {x:du}{c:Nat}{f:a1}(h:x.2.2[c]?=some f):cellOf x c=f:=by
 unfold cellOf;rw[en,h]
 rfl
theorem xd {rows:List du}{i:Nat}{x:du}(h:rows[i]?=some x):rowAt rows i=x:=by
 unfold rowAt;rw[en,h]
 rfl
theorem Hi {l:List a1}{k:Nat}(h:k<D l):(k*4+4<=(bf aH l).length)=True:=eq_true (by rw[oE nq];omega)
theorem Hj {l:List a1}{k:Nat}{a b c d}(h:l[k]?=some ((a,b),(c,d))):gq 4 (gI (k*4) (bf aH l))=[.J (.int .i64 a),.J (.Y (b.map ag)),.J (.int .i64 c),.J (.Y (d.map ag))]:=by
 have:=auf h;unfold cut at this;rw[ad (by rw[oE nq];have:=(dz.1 h).1;omega)] at this;exact mj this
theorem X7 {l:List a1}{k:Nat}(h:k<D l)(a:Int)(b:List Int)(c:Int)(d:List Int):
  gq (k*4) (bf aH l)++[R.J (.int .i64 a),.J (.Y (b.map ag)),.J (.int .i64 c),.J (.Y (d.map ag))]++gI (k*4+4) (bf aH l)=bf aH (l.set k ((a,b),(c,d))):=by
 rw[<-TD nq h]
 rfl
theorem Em {N:Nat}{rows:List du}{i:Nat}(h:i<D rows):(i+1<=(refsOf N rows).length)=True:=eq_true (by unfold refsOf;rw[ak];omega)
theorem Hk {N:Nat}{rows:List du}{i:Nat}{x:du}(h:rows[i]?=some x):gq 1 (gI i (refsOf N rows))=[.ref (x.1+900000) x.2.1 4 0 (N+1)]:=by
 have:=aug (N:=N) h;unfold cut at this;rw[ad (by unfold refsOf;rw[ak];have:=(dz.1 h).1;omega)] at this;exact mj this
theorem agD {N:Nat}{rows:List du}{i:Nat}(h:i<D rows)(b:du):gq i (refsOf N rows)++[R.ref (b.1+900000) b.2.1 4 0 (N+1)]++gI (i+1) (refsOf N rows)=refsOf N (rows.set i b):=by
 unfold refsOf;rw[Ai,List.set_eq_take_append_cons_drop,ad (by rw[ak];exact h),gU]
 rfl
theorem agE (fC:a1):∀(l p:List a1) (b:Bool),(jn fC l p b).1.length=D l
 | [],_,_=>by simp[jn]
 |f::dK,[],b=>by cases b<;>simp[jn]
 |f::dK,p::ps,true=>by simp[jn]
 |f::dK,p::ps,false=>by simp[jn,agE fC dK ps]
theorem X8 (fC:a1)(l p:List a1):jn fC l p true=(l,true):=by
 cases l<;>cases p<;>simp[jn]
theorem agF (fC:a1)(p:List a1)(b:Bool):jn fC [] p b=([],b):=by
 cases b<;>simp[jn]
theorem aun {α:Type}(f:α->α){l:List α}{k:Nat}{x:α}(h:l[k]?=some x):((l.take k).map f++l.drop k).set k (f x)=(l.take (k+1)).map f++l.drop (k+1):=by
 obtain⟨ay,O⟩:=dz.1 h;have aq:((l.take k).map f).length=k:=by rw[ak,fR];omega
 rw[En _ _ (by omega),aq,mg,ia ay,rJ,g1,h,kI,gU]
 rfl
theorem auo {α:Type}(f:α->α){l:List α}{k:Nat}:((l.take k).map f++l.drop k)[k]?=l[k]?:=by
 rcases h9 k (D l) with h|h
 ·have aq:((l.take k).map f).length=k:=by rw[ak,fR];omega
  rw[rb (by omega),aq,mg,kU,nQ]
 ·rw[ke h,ke (by rw[fE,ak,fR,rp];omega)]
theorem X9 {α:Type}{rows:List α}{r i:Nat}{x xe:α}(O:rows[i]?=some x)(pk:rows[r]?=some xe):((rows.set r x).set i xe)[r]?=some x:=by
 have F:=(dz.1 O).1;have I:=(dz.1 pk).1;rw[nr,nr,jf]
 by_cases h:i=r
 ·subst h;rw[O] at pk
  cases pk;rw[ad rfl,ad F]
 ·rw[ae h,ad rfl,ad I]
theorem Ya {α:Type}{l:List α}{i:Nat}{x:α}(h:l[i]?=some x):l.set i x=l:=by
 obtain⟨ay,O⟩:=dz.1 h;apply o4;intro j;rw[nr]
 by_cases ln:i=j
 ·subst ln;rw[ad rfl,ad ay,h]
 ·rw[ae ln]
theorem aup (a b:Nat):(!(a+900000==129015)||decide (2<b*4))=true:=by
 have:(a+900000==129015)=false:=by simp
 rw[this];rfl
theorem Yb:Hh 168004:=by unfold Hh;omega
theorem Yc:Hh 168006:=by unfold Hh;omega
def eA.sub:eA->List Nat->eA
 |.seq a _,0::p=>a.sub p
 |.seq _ b,_::p=>b.sub p
 |.cond _ a _,0::p=>a.sub p
 |.cond _ _ b,_::p=>b.sub p
 |.block _ c,_::p=>c.sub p
 |.ghost _ c,_::p=>c.sub p
 |.loop c,_::p=>c.sub p
 |c,_=>c
def auq (f:a1):List R:=[.J (.int .i64 f.1.1),.J (.Y (f.1.2.map ag)),.J (.int .i64 f.2.1),.J (.Y (f.2.2.map ag))]
theorem aur (T:bh)(xf:T Bz=Cf Ag)(m2:T yc=aV z1)(lZ:T wE=aV yx){K:eX->bd->Prop}{kk:List gz}
  (go N r c i2:Nat) (mem:Mem) (Ch:mem 168004=none) (Ci:mem 168006=none) (gB:N<=40) (rK:List du) (sN:jW N rK) (x y:du) (fX:List a1) (yC:rK[i2]?=some y) (bG:rK[r]?=some (x.1,x.2.1,fX)) (Eo:i2≠r) (tZ:r<N) (lY:Bool)
  (cD:Int) (cf:List Int) (gS:Int) (jY:List Int) (oM:okF ((cD,cf),(gS,jY))) (tm:Nat->R) (m:Mem) (bM:Nat)
  (b0:tm 0=.ptr 129015 0 0) (aA:tm 1=.J (.int .i64 r)) (aC:tm 2=.J (.int .i64 c)) (fA:tm 12=.ref (y.1+900000) y.2.1 4 0 (N+1)) (h1:tm 13=.ptr 148013 bM 0) (pX:tm 112=.ref 129035 go 1 0 N) (Lu:tm 113=.J (.int .i64 N)) (Lv:tm 114=.J (.int .i64 i2)) (Hl:tm 14=.J (.int .i64 0))
  (em:m 148013=some (bM,[.J (.int .i64 cD),.J (.Y (cf.map ag)),.J (.int .i64 gS),.J (.Y (jY.map ag))])) (fW:km mem go N rK lY m)
  (dN:∀tm' m' l b,tm' 0=.ptr 129015 0 0->tm' 1=.J (.int .i64 r)->tm' 2=.J (.int .i64 c)->tm' 112=.ref 129035 go 1 0 N->tm' 113=.J (.int .i64 N)->tm' 114=.J (.int .i64 i2)->(l,b)=jn ((cD,cf),(gS,jY)) y.2.2 fX lY->jW N (rK.set i2 (y.1,y.2.1,l))->km mem go N (rK.set i2 (y.1,y.2.1,l)) b m'->cG T K kk (.exit 6) ⟨tm',m'⟩) :
  wp T (yA.body.sub [1,1,1,1,1,1,1,0,1,0,0,1,1,0,0,1,1,1,1,0]) (cG T K kk) ⟨tm,m⟩:=by
 simp only[yA,eA.sub];have aus:i2<N:=by rw[<-sN.len];exact (dz.1 yC).1
 obtain⟨zf,P5⟩:=sN.row y (ep yC);have aut:rK.set i2 (y.1,y.2.1,[]++y.2.2.drop 0)=rK:=Ya yC
 refine dv [0,1,2,12,13,112,113,114] [148013] (λ((k,pre,b):Nat×List a1×Bool) tm m=>k<=N+1/\D pre=k/\(∀f∈pre,okF f)/\jn ((cD,cf),(gS,jY)) y.2.2 fX lY=(pre++(jn ((cD,cf),(gS,jY)) (y.2.2.drop k) (fX.drop k) b).1,(jn ((cD,cf),(gS,jY)) (y.2.2.drop k) (fX.drop k) b).2)/\tm 14=.J (.int .i64 k)/\km mem go N (rK.set i2 (y.1,y.2.1,pre++y.2.2.drop k)) b m) (λ(k,_,_)=>N+1-k) (0,[],lY) (by
  refine⟨fg _,rfl,(by simp),rfl,Hl,?_⟩;rw[aut];exact fW) ?_
 intro vs ms aT aR;simp only[go_sem,go_sem_proc,b0,aA,aC,fA,h1,pX,Lu,Lv,em] at aT aR;subst aT aR;clear b0 aA aC fA h1 pX Lu Lv em Hl fW tm m;rintro⟨ey,pre,b⟩ tm nX Q hm ⟨aKH,BQ,Hm,Lw,wR,ua⟩;simp only[go_sem,go_sem_proc,bb] at Q hm;obtain⟨al,F,I,ji,nW,sO,sP,sQ⟩:=Q;have auu:(pre++y.2.2.drop ey).length=N+1:=by rw[fE,rp];omega
 have Hn:jW N (rK.set i2 (y.1,y.2.1,pre++y.2.2.drop ey)):=sN.set yC auu λf aF=>by
  rw[kg] at aF;rcases aF with aF|aF
  ·exact Hm f aF
  ·exact P5 f (KQ aF)
 have agG:(rK.set i2 (y.1,y.2.1,pre++y.2.2.drop ey))[i2]?=some (y.1,y.2.1,pre++y.2.2.drop ey):=by
  rw[nr,ad rfl,ad (by rw[sN.len];exact aus)]
 have yr:(rK.set i2 (y.1,y.2.1,pre++y.2.2.drop ey))[r]?=some (x.1,x.2.1,fX):=by
  rw[nr,ae Eo];exact bG
 have rL:=ua.1.m;have ub:=ua.1.o;rcases dA (ey<N+1) with auv|aKI
 ·have rM:decide ((ey:Int)<((N+1:Nat):Int))=true:=dn
  cases b
  ·obtain⟨⟨⟨cU,de⟩,⟨a3,a4⟩⟩,uc⟩:∃f,y.2.2[ey]?=some f:=⟨_,bx (by omega)⟩;have aKJ:(D fX)=N+1:=(sN.row _ (ep bG)).1;obtain⟨⟨⟨iO,ju⟩,⟨ud,xg⟩⟩,sR⟩:∃f,fX[ey]?=some f:=⟨_,bx (by omega)⟩;have uT:=P5 _ (ep uc);have agH:=(sN.row _ (ep bG)).2 _ (ep sR)
   have Yd:(pre++y.2.2.drop ey)[ey]?=some ((cU,de),(a3,a4)):=by
    rw[rb (by omega),BQ,mg,kU,nQ,uc]
   have jQ:y.2.2.drop ey=((cU,de),(a3,a4))::y.2.2.drop (ey+1):=by
    obtain⟨aq,e⟩:=dz.1 uc;rw[ia aq,e]
   have mw:fX.drop ey=((iO,ju),(ud,xg))::fX.drop (ey+1):=by
    obtain⟨aq,e⟩:=dz.1 sR;rw[ia aq,e]
   have lk:∀s:a1,(pre++y.2.2.drop ey).set ey s=(pre++[s])++y.2.2.drop (ey+1):=λs=>by
    rw[En _ _ (by omega),BQ,mg,jQ,rJ,gU];rfl
   have auw:=ua.1.r _ (ep agG);have auy:=ua.1.r _ (ep yr);have oa:nX 168004=none:=(ua.2 _ Yb).trans Ch;have Cj:nX 168006=none:=(ua.2 _ Yc).trans Ci;have t1:=Hk (N:=N) yr;have t2:=Em (N:=N) (rows:=rK.set i2 (y.1,y.2.1,pre++y.2.2.drop ey)) (i:=r) (by rw[Hn.len];exact tZ);have t3:=Hj Yd;have t4:=Hi (l:=pre++y.2.2.drop ey) (k:=ey) (by omega);have t5:=Hj sR;have t6:=Hi (l:=fX) (k:=ey) (by omega);have jw:=e9 (i:=ey) (by omega);have Ye:=aum ((cD,cf),(gS,jY)) ((iO,ju),(ud,xg));have yD:=agB ((cU,de),(a3,a4)) (n2 ((cD,cf),(gS,jY)) ((iO,ju),(ud,xg))).1;have Lx:=Lw;rw[jQ,mw] at Lx;simp only[jn] at Lx;generalize mW:n2 ((cD,cf),(gS,jY)) ((iO,ju),(ud,xg))=bj at *;obtain⟨⟨⟨qq,ky⟩,⟨auz,auA⟩⟩,aA⟩:=bj;dsimp only at yD Lx Ye;generalize cJ:pf ((cU,de),(a3,a4)) ((qq,ky),(auz,auA))=S at *;obtain⟨⟨⟨v1,v2⟩,⟨v3,v4⟩⟩,aC⟩:=S;dsimp only at yD Lx;have t7:=X7 (l:=pre++y.2.2.drop ey) (k:=ey) (by omega) v1 v2 v3 v4;refine aX ?_;repeat' (intro h<;>simp only[h,go_sem,go_sem_proc,xf,lZ,m2,al,F,I,ji,nW,wR,sO,sP,sQ,hm,rL,ub,auw,auy,oa,Cj,t1,t2,t3,t4,t5,t6,t7,rM,auv,tZ,jw,mW,cJ,uT.1,uT.2,agH.1,agH.2,oM.1,oM.2,Ye.1,Ye.2,auq,eG,aH,cK,Ag,Ho,rJ,decide_true,decide_false,agI,ne_eq,not_false_eq_true,and_self]<;>try refine aw ?_ ?_)
   have cL:=km.set Hn agG ((pre++y.2.2.drop ey).set ey ((v1,v2),(v3,v4))) ((ua.flag (aA != 0)).flag (aA != 0||aC != 0));rw[agJ,lk] at cL;refine⟨aup _ _,(ey+1,pre++[((v1,v2),(v3,v4))],(aA != 0||aC != 0)),by dsimp only;omega,by dsimp only;omega,by simp[BQ],?_,?_,rfl,?_⟩
   ·intro f aF;rw[kg,tP] at aF;rcases aF with aF|rfl
    ·exact Hm f aF
    ·exact yD
   ·rw[Lx];dsimp only;rw[gU]
    rfl
   ·dsimp only;rw[lk];exact cL
  ·rw[X8] at Lw;refine aX ?_;repeat' (intro h<;>simp only[h,go_sem,go_sem_proc,al,F,I,ji,nW,wR,sO,sP,sQ,rL,ub,rM]<;>try refine aw ?_ ?_)
   refine dN _ _ (pre++y.2.2.drop ey) true ?_ ?_ ?_ ?_ ?_ ?_ Lw.symm Hn ua<;>simp only[e4,eb,if_false,al,F,I,sO,sP,sQ]
 ·have rM:decide ((ey:Int)<((N+1:Nat):Int))=false:=dk;have pI:y.2.2.drop ey=[]:=kP (by omega);rw[pI,agF,<-pI] at Lw;refine aX ?_;repeat' (intro h<;>simp only[h,go_sem,go_sem_proc,al,F,I,ji,nW,wR,sO,sP,sQ,rL,ub,rM]<;>try refine aw ?_ ?_)
  refine dN _ _ (pre++y.2.2.drop ey) b ?_ ?_ ?_ ?_ ?_ ?_ Lw.symm Hn ua<;>simp only[e4,eb,if_false,al,F,I,sO,sP,sQ]
theorem auB (T:bh)(yE:T Kk=aV PW)(xf:T Bz=Cf Ag)(m2:T yc=aV z1)(lZ:T wE=aV yx){K:eX->bd->Prop}{kk:List gz}
  (go N r c:Nat) (mem:Mem) (Ch:mem 168004=none) (Ci:mem 168006=none) (gB:N<=40) (tZ:r<N) (Aj:c<N+1) (iE:List du) (Ep:jW N iE) (x:du) (fX:List a1) (wV:iE[r]?=some (x.1,x.2.1,fX)) (Hp:Bool) (tm:Nat->R) (m:Mem)
  (b0:tm 0=.ptr 129015 0 0) (aA:tm 1=.J (.int .i64 r)) (aC:tm 2=.J (.int .i64 c)) (pX:tm 112=.ref 129035 go 1 0 N) (Lu:tm 113=.J (.int .i64 N)) (Lv:tm 114=.J (.int .i64 0)) (fW:km mem go N iE Hp m)
  (dN:∀tm' m',km mem go N (jX fX r c 0 iE Hp).1 (jX fX r c 0 iE Hp).2 m'->cG T K kk (.exit 4) ⟨tm',m'⟩) :
  wp T (yA.body.sub [1,1,1,1,1,1,1,0,1,0]) (cG T K kk) ⟨tm,m⟩:=by
 simp only[yA,eA.sub]
 refine dv [0,1,2,112,113] [] (λ((i2,pY,lY):Nat×List du×Bool) tm m=>i2<=N/\D pY=i2/\jX fX r c 0 iE Hp=(pY++(jX fX r c i2 (iE.drop i2) lY).1,(jX fX r c i2 (iE.drop i2) lY).2)/\jW N (pY++iE.drop i2)/\(pY++iE.drop i2)[r]?=some (x.1,x.2.1,fX)/\tm 114=.J (.int .i64 i2)/\km mem go N (pY++iE.drop i2) lY m) (λ(i2,_,_)=>N-i2) (0,[],Hp) (by
  exact⟨fg _,rfl,rfl,Ep,wV,Lv,fW⟩) ?_
 intro vs ms aT aR;simp only[go_sem,go_sem_proc,b0,aA,aC,pX,Lu] at aT aR;subst aT aR;clear b0 aA aC pX Lu Lv fW tm m;rintro⟨i2,pY,lY⟩ tm cM Q hm ⟨nN,ki,kR,sN,bG,sQ,vE⟩;simp only[go_sem,go_sem_proc,bb] at Q hm;obtain⟨al,F,I,sO,sP⟩:=Q;have rL:=vE.1.m;have ub:=vE.1.o;have aKK:(D iE)=N:=Ep.len;rcases dA (i2<N) with Hq|aKL
 ·obtain⟨y,ar⟩:∃y,iE[i2]?=some y:=⟨_,bx (by omega)⟩
  have GJ:iE.drop i2=y::iE.drop (i2+1):=by
   obtain⟨aq,rfl⟩:=dz.1 ar;exact ia aq
  have yC:(pY++iE.drop i2)[i2]?=some y:=by
   rw[rb (by omega),ki,mg,kU,nQ,ar]
  obtain⟨zf,P5⟩:=sN.row y (ep yC);have Ly:=vE.1.r y (ep yC);obtain⟨⟨⟨cD,cf⟩,⟨gS,jY⟩⟩,bc⟩:∃f,y.2.2[c]?=some f:=⟨_,bx (by omega)⟩;have wX:=X6 bc;have t1:=Hk (N:=N) yC;have t2:=Em (N:=N) (rows:=pY++iE.drop i2) (i:=i2) (by rw[sN.len];exact Hq);have t3:=Hj bc;have t4:=Hi (l:=y.2.2) (k:=c) (by omega);have hQ:decide ((i2:Int)<(N:Int))=true:=dn;have hw:=e9 (i:=i2) (by omega)
  have ze:∀z:du,(pY++[z])++iE.drop (i2+1)=(pY++iE.drop i2).set i2 z:=λz=>by
   rw[En _ _ (by omega),ki,mg,GJ,rJ,gU];rfl
  have Hr:(pY++[y])++iE.drop (i2+1)=pY++iE.drop i2:=by rw[ze];exact Ya yC
  have agK:∀b:Bool,(b=true->i2=r\/(cD==0)=true)->b=true->jX fX r c 0 iE Hp=((pY++[y])++(jX fX r c (i2+1) (iE.drop (i2+1)) lY).1,(jX fX r c (i2+1) (iE.drop (i2+1)) lY).2):=by
   intro b ah XI
   have Yf:(i2==r||ns (cellOf y c))=true:=by
    rcases ah XI with h|h
    ·rw[h,beq_self_eq_true];rfl
    ·rw[wX];have:ns ((cD,cf),(gS,jY))=true:=h;rw[this,Bool.or_true]
   rw[kR,GJ];simp only[jX];rw[ad Yf,gU]
   rfl
  rcases pZ:((i2:Int)==(r:Int))
  ·have Eo:i2≠r:=by intro h;rw[h] at pZ;simp at pZ
   rcases Lz:(cD==0)
   ·have oM:okF ((cD,cf),(gS,jY)):=P5 _ (ep bc);simp only[go_sem,go_sem_proc,yE,al,F,I,sO,sP,sQ,rL,ub,Ly,t1,t2,t3,t4,Hq,hQ,Aj,pZ,Lz,cK];refine aur T xf m2 lZ go N r c i2 mem Ch Ci gB (pY++iE.drop i2) sN x y fX yC bG Eo tZ lY cD cf gS jY oM _ _ (gA (cM 148013)) ?_ ?_ ?_ ?_ ?_ ?_ ?_ ?_ ?_ ?_ ((vE.own (.inr (.inr rfl))).own (.inr (.inr rfl))) ?_
    ·exact al
    ·exact F
    ·exact I
    ·rfl
    ·rfl
    ·exact sO
    ·exact sP
    ·exact sQ
    ·rfl
    ·simp[aZ]
    ·intro tm' m' l b fM ca c7 LA agL agM kD Hn ua;simp only[go_sem,go_sem_proc,al,F,I,fM,ca,c7,LA,agL,agM,hw];repeat' (first|refine aw ?_ ?_|fail)<;>intro h<;>simp only[h,go_sem,go_sem_proc,al,F,I,fM,ca,c7,LA,agL,agM,hw]
     refine⟨(i2+1,pY++[(y.1,y.2.1,l)],b),by dsimp only;omega,by dsimp only;omega,by simp[ki],?_,by dsimp only;rw[ze];exact Hn,by dsimp only;rw[ze,nr,ae Eo];exact bG,rfl,?_⟩
     ·have Yf:¬ (i2==r||ns (cellOf y c))=true:=by
       rw[wX];have F:ns ((cD,cf),(gS,jY))=false:=Lz;have I:(i2==r)=false:=by simpa using Eo
       rw[F,I];simp
      rw[kR,GJ];simp only[jX];rw[ae Yf,wX,<-kD,gU]
      rfl
     ·dsimp only;rw[ze];exact ua
   ·simp only[go_sem,go_sem_proc,yE,al,F,I,sO,sP,sQ,rL,ub,Ly,t1,t2,t3,t4,Hq,hQ,Aj,hw,pZ,Lz,cK];repeat' (first|refine aw ?_ ?_|fail)<;>intro h<;>simp only[h,go_sem,go_sem_proc,yE,al,F,I,sO,sP,sQ,rL,ub,Ly,t1,t2,t3,t4,Hq,hQ,Aj,hw,pZ,Lz,cK]
    refine⟨(i2+1,pY++[y],lY),by dsimp only;omega,by dsimp only;omega,by simp[ki],agK true (λ_ => .inr Lz) rfl,by dsimp only;rw[Hr];exact sN,by dsimp only;rw[Hr];exact bG,rfl,?_⟩
    dsimp only;rw[Hr];exact (vE.own (.inr (.inr rfl))).own (.inr (.inr rfl))
  ·have Eo:i2=r:=by have h:=beq_iff_eq.1 pZ;omega
   simp only[go_sem,go_sem_proc,yE,al,F,I,sO,sP,sQ,rL,ub,Ly,t1,t2,t3,t4,Hq,hQ,Aj,hw,pZ,cK];repeat' (first|refine aw ?_ ?_|fail)<;>intro h<;>simp only[h,go_sem,go_sem_proc,yE,al,F,I,sO,sP,sQ,rL,ub,Ly,t1,t2,t3,t4,Hq,hQ,Aj,hw,pZ,cK]
   refine⟨(i2+1,pY++[y],lY),by dsimp only;omega,by dsimp only;omega,by simp[ki],agK true (λ_ => .inl Eo) rfl,by dsimp only;rw[Hr];exact sN,by dsimp only;rw[Hr];exact bG,rfl,?_⟩
   dsimp only;rw[Hr];exact (vE.own (.inr (.inr rfl))).own (.inr (.inr rfl))
 ·have cw:i2=N:=by omega
  have hQ:decide ((i2:Int)<(N:Int))=false:=dk;have NZ:iE.drop i2=[]:=kP (by omega);rw[NZ] at kR vE;simp only[jX,fJ] at kR vE;rw[kR] at dN;simp only[go_sem,go_sem_proc,al,F,I,sO,sP,sQ,rL,ub,hQ];repeat' (first|refine aw ?_ ?_|fail)<;>intro h<;>simp only[h,go_sem,go_sem_proc,al,F,I,sO,sP,sQ,rL,ub,hQ]
  exact dN _ _ vE
theorem auC (T:bh)(xf:T Bz=Cf Ag)(pn:T Dy=aV Ed){K:eX->bd->Prop}{kk:List gz}
  (go N r c:Nat) (mem:Mem) (Ch:mem 168004=none) (Ci:mem 168006=none) (gB:N<=40) (tZ:r<N) (h2:List du) (Hs:jW N h2) (x:du) (yF:h2[r]?=some x) (f1:Int) (f2:List Int) (f3:Int) (f4:List Int) (kA:okF ((f1,f2),(f3,f4))) (tm:Nat->R) (m:Mem) (bM:Nat)
  (b0:tm 0=.ptr 129015 0 0) (aA:tm 1=.J (.int .i64 r)) (aC:tm 2=.J (.int .i64 c)) (ef:tm 8=.ptr 148008 bM 0) (agN:tm 85=.ref (x.1+900000) x.2.1 4 0 (N+1)) (agO:tm 86=.J (.int .i64 ((N+1:Nat):Int))) (agP:tm 87=.J (.int .i64 0))
  (em:m 148008=some (bM,[.J (.int .i64 f1),.J (.Y (f2.map ag)),.J (.int .i64 f3),.J (.Y (f4.map ag))])) (fW:km mem go N h2 false m)
  (dN:∀tm' m',tm' 0=.ptr 129015 0 0->tm' 1=.J (.int .i64 r)->tm' 2=.J (.int .i64 c)->jW N (h2.set r (x.1,x.2.1,(hS ((f1,f2),(f3,f4)) x.2.2).1))->km mem go N (h2.set r (x.1,x.2.1,(hS ((f1,f2),(f3,f4)) x.2.2).1)) (hS ((f1,f2),(f3,f4)) x.2.2).2 m'->cG T K kk (.exit 2) ⟨tm',m'⟩) :
  wp T (yA.body.sub [1,1,1,1,1,1,0,1,0]) (cG T K kk) ⟨tm,m⟩:=by
 simp only[yA,eA.sub];obtain⟨tf,Ht⟩:=Hs.row x (ep yF)
 have auD:∀l:List a1,(h2.set r (x.1,x.2.1,l))[r]?=some (x.1,x.2.1,l):=λl=>by
  rw[nr,ad rfl,ad (by rw[Hs.len];exact tZ)]
 refine dv [0,1,2,8,85,86] [148008] (λ(k:Nat) tm m=>k<=N+1/\tm 87=.J (.int .i64 k)/\km mem go N (h2.set r (x.1,x.2.1,(x.2.2.take k).map (λf=>(jU f ((f1,f2),(f3,f4))).1)++x.2.2.drop k)) ((x.2.2.take k).any λf=>(jU f ((f1,f2),(f3,f4))).2 != 0) m) (λk=>N+1-k) 0 (by
  refine⟨fg _,agP,?_⟩;have e:h2.set r (x.1,x.2.1,(x.2.2.take 0).map (λf=>(jU f ((f1,f2),(f3,f4))).1)++x.2.2.drop 0)=h2:=Ya yF;rw[e];exact fW) ?_
 intro vs ms aT aR;simp only[go_sem,go_sem_proc,b0,aA,aC,ef,agN,agO,em] at aT aR;subst aT aR;clear b0 aA aC ef agN agO agP em fW tm m;rintro k tm m Q hm ⟨oP,agQ,fW⟩;simp only[go_sem,go_sem_proc,bb] at Q hm;obtain⟨al,F,I,b6,agR,agS⟩:=Q
 have ew:((x.2.2.take k).map (λf=>(jU f ((f1,f2),(f3,f4))).1)++x.2.2.drop k).length=N+1:=by
  rw[fE,ak,fR,rp];omega
 have Ep:jW N (h2.set r (x.1,x.2.1,(x.2.2.take k).map (λf=>(jU f ((f1,f2),(f3,f4))).1)++x.2.2.drop k)):=by
  refine Hs.set yF ew λf aF=>?_;rw[kg] at aF;rcases aF with aF|aF
  ·obtain⟨g4,-,rfl⟩:=dS.1 aF;exact agC _ _
  ·exact Ht f (KQ aF)
 have wV:=auD ((x.2.2.take k).map (λf=>(jU f ((f1,f2),(f3,f4))).1)++x.2.2.drop k);rcases dA (k<N+1) with Yg|auE
 ·obtain⟨⟨⟨cU,de⟩,⟨a3,a4⟩⟩,uc⟩:∃f,x.2.2[k]?=some f:=⟨_,bx (by omega)⟩;have Yd:=(auo (λf=>(jU f ((f1,f2),(f3,f4))).1) (l:=x.2.2) (k:=k)).trans uc;have lk:=aun (λf=>(jU f ((f1,f2),(f3,f4))).1) uc
  have JZ:(x.2.2.take (k+1)).any (λf=>(jU f ((f1,f2),(f3,f4))).2 != 0)=((x.2.2.take k).any (λf=>(jU f ((f1,f2),(f3,f4))).2 != 0)||(jU ((cU,de),(a3,a4)) ((f1,f2),(f3,f4))).2 != 0):=by
   rw[g1,uc,List.any_append];simp
  obtain⟨auF,auG⟩:=Ht _ (ep uc);generalize (x.2.2.take k).map (λf=>(jU f ((f1,f2),(f3,f4))).1)++x.2.2.drop k=cur at *;generalize ((x.2.2.take k).any λf=>(jU f ((f1,f2),(f3,f4))).2 != 0)=lY at *;have rL:=fW.1.m;have ub:=fW.1.o;have auH:=fW.1.r _ (ep wV);have oa:m 168004=none:=(fW.2 _ Yb).trans Ch;have Cj:m 168006=none:=(fW.2 _ Yc).trans Ci;have t1:=Hk (N:=N) wV;have t2:=Em (N:=N) (rows:=h2.set r (x.1,x.2.1,cur)) (i:=r) (by rw[Ep.len];exact tZ);have t3:=Hj Yd;have t4:=Hi (l:=cur) (k:=k) (by omega);have rM:decide ((k:Int)<((N+1:Nat):Int))=true:=dn;have hw:=e9 (i:=k) (by omega);generalize ru:jU ((cU,de),(a3,a4)) ((f1,f2),(f3,f4))=V at *;obtain⟨⟨⟨v1,v2⟩,⟨v3,v4⟩⟩,tU⟩:=V;dsimp only at lk JZ;have t5:=X7 (l:=cur) (k:=k) (by omega) v1 v2 v3 v4;refine aX ?_;repeat' (intro h<;>simp only[h,go_sem,go_sem_proc,xf,pn,al,F,I,b6,agR,agS,agQ,hm,rL,ub,auH,oa,Cj,t1,t2,t3,t4,t5,rM,Yg,tZ,hw,ru,auF,auG,kA.1,kA.2,eG,aH,cK,Ag,Ho,rJ,decide_true,decide_false,agI,ne_eq,not_false_eq_true,and_self]<;>try refine aw ?_ ?_)
  have aA:=km.set Ep wV (cur.set k ((v1,v2),(v3,v4))) (((fW.own (k:=148010) (g:=gA (m 148010)) (cs:=[R.J (Data.int IntKind.i64 0),R.nil,R.J (Data.int IntKind.i64 0),R.nil]) (.inr (.inl rfl))).own (k:=148010) (g:=gA (m 148010)) (cs:=[R.J (Data.int IntKind.i64 cU),R.J (Data.Y (yG ag de)),R.J (Data.int IntKind.i64 a3),R.J (Data.Y (yG ag a4))]) (.inr (.inl rfl))).flag (lY||tU != 0));rw[agJ,lk] at aA;refine⟨k+1,by omega,by omega,rfl,?_⟩
  show km mem go N _ ((x.2.2.take (k+1)).any λf=>(jU f ((f1,f2),(f3,f4))).2 != 0) _;rw[JZ,lk];exact aA
 ·have LB:k=N+1:=by omega
  have auI:(x.2.2.take k).map (λf=>(jU f ((f1,f2),(f3,f4))).1)++x.2.2.drop k=(hS ((f1,f2),(f3,f4)) x.2.2).1:=by
   unfold hS;rw[dt (by omega),kP (by omega),fJ]
  have auJ:((x.2.2.take k).any λf=>(jU f ((f1,f2),(f3,f4))).2 != 0)=(hS ((f1,f2),(f3,f4)) x.2.2).2:=by
   unfold hS;rw[dt (by omega)]
  rw[auI] at Ep fW;rw[auJ] at fW;have rM:decide ((k:Int)<((N+1:Nat):Int))=false:=dk;refine aX ?_;repeat' (intro h<;>simp only[h,go_sem,go_sem_proc,al,F,I,b6,agR,agS,agQ,hm,rM]<;>try refine aw ?_ ?_)
  refine dN _ _ ?_ ?_ ?_ Ep fW<;>simp only[e4,eb,if_false,al,F,I]
theorem auK (T:bh)(yE:T Kk=aV PW)(xf:T Bz=Cf Ag)(pn:T Dy=aV Ed)(m2:T yc=aV z1)(lZ:T wE=aV yx)
  (go N:Nat) (rows:List du) (r c:Nat) (eF:Mem) (cX:jW N rows) (b8:Ah go N rows false eF) (Ch:eF 168004=none) (Ci:eF 168006=none) (gB:N<=40) (lj:r<=c) (auL:c<N) :
  wp T yA.body (pV yA.res λm mem'=>m=.J (.bool (iD rows r c).1)/\km eF go N (iD rows r c).2.1 (iD rows r c).2.2 mem') ⟨lf [.ptr 129015 0 0,.J (.int .i64 r),.J (.int .i64 c)],eF⟩:=by
 refine tn ?_;simp only[yA];simp only[go_sem,go_sem_proc];refine dv [0,1,2] [] (λ(i:Nat) tm mem=>r<=i/\i<=N/\(∀j y,r<=j->j<i->rows[j]?=some y->ns (cellOf y c)=true)/\tm 7=.J (.int .i64 i)/\mem=eF) (λi=>N-i) r (by refine⟨bW _,by omega,λj y F I=>by omega,rfl,rfl⟩) ?_;intro vs ms aT aR;simp only[go_sem,go_sem_proc] at aT aR;subst aT aR;rintro i tm mem Q hm ⟨ih,agT,aS,bH,rfl⟩;simp only[go_sem,go_sem_proc,bb] at Q hm;obtain⟨al,F,I⟩:=Q;have ue:=b8.m;have LC:=b8.o;have hlen:=cX.len;rcases dA (i<N) with ay|b9
 ·have O:∃x,rows[i]?=some x:=⟨_,bx (by omega)⟩;obtain⟨x,O⟩:=O;obtain⟨tf,Ht⟩:=cX.row x (ep O);have Ck:=b8.r x (ep O);have aF:∃f,x.2.2[c]?=some f:=⟨_,bx (by omega)⟩;obtain⟨⟨⟨f1,f2⟩,⟨f3,f4⟩⟩,aF⟩:=aF;have agU:=Hk (N:=N) O;have agV:=Em (N:=N) (rows:=rows) (i:=i) (by omega);have agW:=Hj aF;have agX:=Hi (l:=x.2.2) (k:=c) (by omega);have o2:=X6 aF;have hi:decide ((i:Int)<(N:Int))=true:=dn;have Aj:c<N+1:=by omega
  rcases qC:(f1==0)
  ·have auM:findAt rows r c=i:=aui O ih aS (by rw[o2];exact qC);obtain⟨xe,pk⟩:∃x,rows[r]?=some x:=⟨_,bx (by omega)⟩
   have jZ:iD rows r c=(false,jX (hS ((f1,f2),(f3,f4)) x.2.2).1 r c 0 (((rows.set r x).set i xe).set r (x.1,x.2.1,(hS ((f1,f2),(f3,f4)) x.2.2).1)) (hS ((f1,f2),(f3,f4)) x.2.2).2):=by
    unfold iD El;rw[ae (by omega),auM];have:rowAt (qQ rows r i) r=x:=xd (by unfold qQ;rw[xd O,xd pk];exact X9 O pk);rw[this,o2];unfold qQ;rw[xd O,xd pk]
   rw[jZ];clear jZ;have Hs:jW N ((rows.set r x).set i xe):=cX.swap pk O;have auN:km mem go N ((rows.set r x).set i xe) false _:=km.swap pk O ⟨b8,λ_ _=>rfl⟩;have yF:((rows.set r x).set i xe)[r]?=some x:=X9 O pk;have tZ:r<N:=by omega
   have s1:=Hk (N:=N) pk;have s2:=Em (N:=N) (rows:=rows) (i:=r) (by omega);have cR:=agD (N:=N) (rows:=rows) (i:=r) (by omega) x;have cW:=Em (N:=N) (rows:=rows.set r x) (i:=i) (by rw[jf];omega);have auO:=agD (N:=N) (rows:=rows.set r x) (i:=i) (by rw[jf];omega) xe;have auP:=Hk (N:=N) yF;have auQ:=Em (N:=N) (rows:=(rows.set r x).set i xe) (i:=r) (by rw[jf,jf];omega);generalize Ak:(rows.set r x).set i xe=h2 at *;have kA:=Ht _ (ep aF);have aKM:decide ((i:Int)<(N:Int))=true:=hi;have auR:((i:Int)==(N:Int))=false:=by simp;omega
   simp only[go_sem,go_sem_proc,yE,xf,al,F,I,bH,ue,LC,Ck,agU,agV,agW,agX,ay,hi,Aj,qC,cK,tZ,s1,s2,cR,cW,auO,auP,auQ,auR];refine auC T xf pn go N r c mem Ch Ci gB tZ h2 Hs x yF f1 f2 f3 f4 kA _ _ (gA (mem 148008)) ?_ ?_ ?_ ?_ ?_ ?_ ?_ ?_ ((auN.own (.inl rfl)).own (.inl rfl)) ?_
   ·exact al
   ·exact F
   ·exact I
   ·rfl
   ·rfl
   ·rfl
   ·rfl
   ·simp[aZ]
   intro tm' m' fM ca c7 sN vE;have rL:=vE.1.m
   have bG:(h2.set r (x.1,x.2.1,(hS ((f1,f2),(f3,f4)) x.2.2).1))[r]?=some (x.1,x.2.1,(hS ((f1,f2),(f3,f4)) x.2.2).1):=by
    rw[nr,ad rfl,ad (by rw[Hs.len];exact tZ)]
   simp only[go_sem,go_sem_proc,fM,ca,c7,rL];refine auB T yE xf m2 lZ go N r c mem Ch Ci gB tZ Aj _ sN x _ bG _ _ _ ?_ ?_ ?_ ?_ ?_ ?_ vE ?_
   ·exact fM
   ·exact ca
   ·exact c7
   ·rfl
   ·rfl
   ·rfl
   intro aKN nX ua;refine aX ?_;repeat' (intro h<;>simp only[h,go_sem,go_sem_proc]<;>try refine aw ?_ ?_)
   exact⟨_,rfl,rfl,ua⟩
  ·have hw:=e9 (i:=i) (by omega);refine aX ?_;repeat' (intro h<;>simp only[h,go_sem,go_sem_proc,yE,xf,al,F,I,bH,ue,LC,Ck,agU,agV,agW,agX,ay,hi,Aj,qC,hw,cK]<;>try refine aw ?_ ?_)
   refine⟨i+1,by omega,by omega,by omega,?_,rfl⟩
   intro j y auS uY ar
   by_cases h0:j=i
   ·subst h0;rw[O] at ar
    cases ar;rw[o2];exact qC
   ·exact aS j y auS (by omega) ar
 ·have auT:i=N:=by omega
  subst auT;have hi:decide ((i:Int)<(i:Int))=false:=dk;have uf:=auj (rows:=rows) (r:=r) (c:=c) (by omega) (λj y aj ar=>aS j y aj (by have:=(dz.1 ar).1;omega) ar);have aE:iD rows r c=(true,rows,false):=by unfold iD;rw[ad uf]
  rw[aE];refine aX ?_;repeat' (intro h<;>simp only[h,go_sem,go_sem_proc,yE,xf,al,F,I,bH,ue,LC,hi,beq_self_eq_true]<;>try refine aw ?_ ?_)
  exact⟨_,rfl,rfl,b8,λ_ _=>rfl⟩
structure P6 where
 go:Nat
 N:Nat
 rows:List du
 r:Nat
 c:Nat
def Yh (a:P6)(mem:Mem):Prop:=jW a.N a.rows/\Ah a.go a.N a.rows false mem/\mem 168004=none/\mem 168006=none/\a.N<=40/\a.r<=a.c/\a.c<a.N
def Yi (a:P6)(mem:Mem):R->Mem->Prop:=λm mem'=>m=.J (.bool (iD a.rows a.r a.c).1)/\km mem a.go a.N (iD a.rows a.r a.c).2.1 (iD a.rows a.r a.c).2.2 mem'
def LD:List R->Mem->Option (R->Mem->Prop):=xc (λ(a:P6) args mem=>args=[.ptr 129015 0 0,.J (.int .i64 a.r),.J (.int .i64 a.c)]/\Yh a mem) Yi
theorem auU {N:Nat}{a b:List du}(h:refsOf N a=refsOf N b):a.map (λx=>(x.1,x.2.1))=b.map λx=>(x.1,x.2.1):=by
 induction a generalizing b with
 |nil=>cases b with
  |nil=>rfl
  |cons y r=>simp[refsOf] at h
 |cons x a ax=>cases b with
  |nil=>simp[refsOf] at h
  |cons y b =>
   simp only[refsOf,eE,bb,R.ref.injEq] at h;have F:x.1=y.1:=by have:=h.1.1;simp only[Key] at this;omega
   simp only[eE,bb,fp];exact⟨⟨F,h.1.2.1⟩,ax h.2⟩
theorem auV (a:P6)(mem:Mem)(h:Yh a mem):LD [.ptr 129015 0 0,.J (.int .i64 a.r),.J (.int .i64 a.c)] mem=some (Yi a mem):=by
 unfold LD;refine X4 (a:=a) ?_ ⟨rfl,h⟩;rintro a b args mem ⟨F,I,af,_⟩ ⟨aM,bk,bI,_⟩;rw[F] at aM;simp only[bb,R.J.injEq,Data.int.injEq,true_and,and_true] at aM;have hm:=af.m;rw[bI.m] at hm;simp only[cj,fp,bb,R.ref.injEq,true_and,and_true] at hm;obtain⟨⟨bc,aK⟩,-⟩:=hm;have bJ:=af.o;rw[bI.o] at bJ;simp only[cj,fp] at bJ;obtain⟨dU,aKO,Yj,cU,de⟩:=a;obtain⟨aKP,aKQ,Yk,df,eD⟩:=b;dsimp only at *;subst bc aK
 have ab:Yk=Yj:=by
  have bH:=auU bJ.2;have aq:(D Yk)=D Yj:=by have:=congrArg D bH;simpa using this
  apply List.ext_getElem aq;intro i ra nN;have b6:(Yk.map λx=>(x.1,x.2.1))[i]?=(Yj.map λx=>(x.1,x.2.1))[i]?:=by rw[bH]
  rw[bq,bq,bx ra,bx nN] at b6;simp only[ll,cj,fp] at b6;have eY:=bI.r _ (nc ra);have eh:=af.r _ (nc nN);rw[b6.1,eh] at eY;simp only[cj,fp] at eY;have:=auh eY.2;exact ed b6.1 (ed b6.2 this.symm)
 subst ab;have aA:cU=df:=by omega
 have aC:de=eD:=by omega
 subst aA aC
 rfl
theorem auW {args:List R}{mem:Mem}{cg:R->Mem->Prop}(h:LD args mem=some cg):∃a,args=[.ptr 129015 0 0,.J (.int .i64 a.r),.J (.int .i64 a.c)]/\Yh a mem/\cg=Yi a mem:=by
 obtain⟨a,⟨F,I⟩,af⟩:=Lr h;exact⟨a,F,I,af⟩
theorem agY (l:List a1):((l.map aH).all λe=>D e==4)=true:=by simp[aH]
abbrev Yl:List a1->List Data:=λ(l:List a1)=>[.Y (l.map aH)]
def P7:=cp Yl λ(l:List a1)=>cV (D l<=1000000) (.own 4 (l.map aH))
theorem auX:∀a b,Yl a=Yl b->a=b:=by
  intro dY ai h;exact map_inj m0 _ _ (by simpa using h)
@[go_sem] theorem aKR (l:List a1)(G:(D l)<=1000000):P7 [.Y (l.map aH)]=some (.own 4 (l.map aH)):=(cA auX l).trans (cY G _)
theorem auY (T:bh)  (l:List a1) (G:(D l)<=1000000):WP T U3 (.own 4 (l.map aH)) [.J (.Y (l.map aH))]:=by
 refine cB ?_;simp only[U3]
 have dL:mN 147005 0 4 0 64 (D l) ((l.map aH).flatten.map .J) (some (0,[]))=some (.ref 147005 1 4 0 (D l),some (147005,1,bf aH l)):=by
  have:=F6 nq GV 147005 0 64 [] l (by simp;omega) (by simp;omega)
  simpa [bf] using this
 have hlen:(bf aH l).length=D l*4:=oE nq l;refine aX ?_;repeat' (intro h<;>simp only[h,go_sem,go_sem_proc,agY,dL,ak]<;>try refine aw ?_ ?_)
 rintro b ah
 cases b
 ·refine aX ?_;repeat' (intro h<;>simp only[h,go_sem,go_sem_proc,agY,dL,ak,rm,hlen]<;>try refine aw ?_ ?_)
  rw[ad (by omega),dt (by omega)];unfold bf;rw[tC _ λd=>rfl];have:=x9 (sz:=4) (l.map aH) (by intro e he;obtain⟨f,-,rfl⟩:=dS.1 he;rfl);rw[ak] at this;simp[this]
 ·cases l with
  |nil =>
       refine aX ?_;repeat' (intro h<;>simp only[h,go_sem,go_sem_proc,rm,c1]<;>try refine aw ?_ ?_)
  |cons x r=>simp at ah
def hx (rs:List eV):List du:=rs.zipIdx.map λp=>(p.2,0,p.1.1++[p.1.2])
theorem Er (rs:List eV):(hx rs).length=D rs:=by simp[hx]
theorem agZ {rs:List eV}{i:Nat}{r:eV}(h:rs[i]?=some r):(hx rs)[i]?=some (i,0,r.1++[r.2]):=by
 unfold hx;rw[bq,Ym,h];simp
theorem Yn {rs:List eV}{i:Nat}{r:eV}(h:rs[i]?=some r):(hx rs).take (i+1)=(hx rs).take i++[(i,0,r.1++[r.2])]:=by
 rw[g1,agZ h]
 rfl
theorem auZ {rs:List eV}{i:Nat}{x:du}(h:x∈(hx rs).take i):x.1<i/\x.2.1=0:=by
 obtain⟨j,aj⟩:=tD.1 h;rw[List.getElem?_take] at aj
 split at aj
 ·rename_i h0;unfold hx at aj;rw[bq,Ym] at aj
  cases ab:rs[j]? with
  |none=>rw[ab] at aj;cases aj
  |some r =>
   rw[ab] at aj;simp only[ll,cj] at aj;subst aj;exact⟨by simpa using h0,rfl⟩
 ·cases aj
theorem au0 (N:Nat)(a b:List du):refsOf N (a++b)=refsOf N a++refsOf N b:=by simp[refsOf]
theorem Hu (N:Nat)(a:List du):(refsOf N a).length=D a:=by simp[refsOf]
structure Al (N:Nat) (rs:List eV) (i go:Nat) (mem:Mem):Prop where
 z:i=0->mem 129015=some (0,[.nil,.J (.int .i64 N),.J (.bool false)])
 p:0<i->mem 129015=some (0,[.ref 129035 go 1 0 i,.J (.int .i64 N),.J (.bool false)])/\mem 129035=some (go,refsOf N ((hx rs).take i))
 r:∀x∈(hx rs).take i,mem (x.1+900000)=some (x.2.1,bf aH x.2.2)
 n:∀j:Nat,i<=j->mem (j+900000)=none
 a:mem 168004=none
 b:mem 168006=none
theorem ag0 (l:List a1):(l.map aH).flatten.map R.J=bf aH l:=rfl
theorem au1 (bM:Nat)(l:List a1)(v1:Int)(v2:List Int)(v3:Int)(v4:List Int)(h:(D l)<=1000000):mN 129029 bM 4 (D l) 64 1 [.J (.int .i64 v1),.J (.Y (v2.map ag)),.J (.int .i64 v3),.J (.Y (v4.map ag))] (some (bM,bf aH l))=some (.ref 129029 (bM+1) 4 0 (D l+1),some (129029,bM+1,bf aH (l++[((v1,v2),(v3,v4))]))) :=
 mu nq GV 129029 bM 64 l ((v1,v2),(v3,v4)) rfl (by omega) (by omega)
theorem au2 (N bM i g:Nat)(a:List du)(M:(D a)=i)(h:i<=1000)(m:R)(hm:m=.ref 129029 g 4 0 (N+1)):mN 129035 bM 1 i 24 1 [m] (some (bM,refsOf N a))=some (.ref 129035 (bM+1) 1 0 (i+1),some (129035,bM+1,refsOf N a++[m])):=by
 subst hm;unfold mN;dsimp only;rw[ad ⟨rfl,by rw[Hu];omega,by omega,by unfold maxLen;omega,rfl⟩,dt (by rw[Hu];omega)]
theorem au3 {N i go go' bM:Nat}{rs:List eV}{r:eV}{m m':Mem}(ah:Al N rs i go m)(ab:rs[i]?=some r)(vq:m' 129015=some (0,[.ref 129035 go' 1 0 (i+1),.J (.int .i64 N),.J (.bool false)]))(aF:∀k:Nat,900000<=k\/k=168004\/k=168006->m' k=m k):
  Al N rs (i+1) go' (aZ (aZ (aZ m' 129029 (bU m' 129029) []) (i+900000) (bU m' (i+900000)) (bf aH (r.1++[r.2]))) 129035 go' ((refsOf N ((hx rs).take i)++[R.ref 129029 bM 4 0 (N+1)]).set i (R.ref (i+900000) (bU m' (i+900000)) 4 0 (N+1)))):=by
 have ay:=(dz.1 ab).1
 have bc:bU m' (i+900000)=0:=by
  unfold bU;rw[aF _ (.inl (by omega)),ah.n i (bW _)]
 have sS:(refsOf N ((hx rs).take i)).length=i:=by rw[Hu,fR,Er];omega
 rw[bc]
 have mH:(refsOf N ((hx rs).take i)++[R.ref 129029 bM 4 0 (N+1)]).set i (.ref (i+900000) 0 4 0 (N+1))=refsOf N ((hx rs).take (i+1)):=by
  rw[En _ _ (by omega),sS,mg,rJ,Yn ab,au0]
  rfl
 rw[mH];have LF:∀(k:Nat),k≠129029->k≠129035->k≠i+900000->aZ (aZ (aZ m' 129029 (bU m' 129029) []) (i+900000) 0 (bf aH (r.1++[r.2]))) 129035 go' (refsOf N ((hx rs).take (i+1))) k=m' k:=λk F I af=>by simp[aZ,F,I,af]
 refine⟨λh=>by omega,λ_=>⟨by rw[LF _ (by omega) (by omega) (by omega)];exact vq,by simp[aZ]⟩,λx O=>?_,λj aj=>?_,?_,?_⟩
 ·rw[Yn ab,kg,tP] at O;rcases O with O|rfl
  ·obtain⟨oF,tR⟩:=auZ O;rw[LF _ (by omega) (by omega) (by omega),aF _ (.inl (by omega))];exact ah.r x O
  ·have I:(i+900000:Nat)≠129035:=by omega
   simp[aZ]
 ·rw[LF _ (by omega) (by omega) (by omega),aF _ (.inl (by omega))];exact ah.n j (by omega)
 ·rw[LF _ (by omega) (by omega) (by omega),aF _ (.inr (.inl rfl))];exact ah.a
 ·rw[LF _ (by omega) (by omega) (by omega),aF _ (.inr (.inr rfl))];exact ah.b
theorem ag1 {K:bd->Prop}{tm:Nat->R}{N i go:Nat}(go' bM:Nat){rs:List eV}{r:eV}{m m':Mem}(ah:Al N rs i go m)(ab:rs[i]?=some r)(vq:m' 129015=some (0,[.ref 129035 go' 1 0 (i+1),.J (.int .i64 N),.J (.bool false)]))
  (P8:m' 129035=some (go',refsOf N ((hx rs).take i)++[.ref 129029 bM 4 0 (N+1)])) (P9:m' 129029=some (bM,bf aH (r.1++[r.2]))) (aF:∀k:Nat,900000<=k\/k=168004\/k=168006->m' k=m k) (h:∀bj,Al N rs (i+1) go' bj->K ⟨tm,bj⟩):ld K ⟨tm,m'⟩ .move:=by
 have ay:=(dz.1 ab).1;have sS:(refsOf N ((hx rs).take i)).length=i:=by rw[Hu,fR,Er];omega
 exact aql 129035 i 129029 (i+900000) P8 (by rw[rb (by omega),sS,mg];rfl) P9 (by omega) (show (i+900000:Nat)≠129029 by omega) (show (i+900000:Nat)≠129035 by omega) (h _ (au3 ah ab vq aF))
theorem lB {m:Mem}{k g:Nat}{cs:List R}{j:Nat}(h:j≠k):aZ m k g cs j=m j:=ae h
theorem au4 (T:bh)(l0:T Oe=aV P7){K:eX->bd->Prop}{kk:List gz}(N:Nat)(rs:List eV)(stop:Bool)(gB:N<=40)(hlen:(D rs)=N)(Bo:∀r∈rs,r.1.length=N/\yB r)(tm:Nat->R)(m:Mem)
  (aA:tm 1=.J (.int .i64 N)) (aC:tm 2=.J (.bool stop)) (ef:tm 8=.ptr 129015 0 0) (p0:tm 16=.J (.Y (rs.map iT))) (j0:tm 17=.J (.int .i64 N)) (jz:tm 18=.J (.int .i64 0)) (ah:Al N rs 0 0 m)
  (dN:∀tm' m' go,tm' 1=.J (.int .i64 N)->tm' 2=.J (.bool stop)->tm' 8=.ptr 129015 0 0->Al N rs N go m'->cG T K kk (.exit 0) ⟨tm',m'⟩) :
  wp T (Lf.body.sub [1,1,0,1,0]) (cG T K kk) ⟨tm,m⟩:=by
 simp only[Lf,eA.sub];refine dv [1,2,8,16,17] [] (λ((i,go):Nat×Nat) tm m=>i<=N/\tm 18=.J (.int .i64 i)/\Al N rs i go m) (λ(i,_)=>N-i) (0,0) (by exact⟨fg _,jz,ah⟩) ?_;intro vs ms aT aR;simp only[go_sem,go_sem_proc,aA,aC,ef,p0,j0] at aT aR;subst aT aR;clear aA aC ef p0 j0 jz ah tm m;rintro⟨i,go⟩ tm m Q hm ⟨agT,jP,ah⟩;simp only[go_sem,go_sem_proc,bb] at Q hm;obtain⟨F,I,b6,sD,ly⟩:=Q;rcases dA (i<N) with ay|b9
 ·obtain⟨⟨A,⟨v1,v2⟩,⟨v3,v4⟩⟩,ab⟩:∃r,rs[i]?=some r:=⟨_,bx (by omega)⟩;obtain⟨Qa,⟨ag2,au5⟩,au6,vp⟩:=Bo _ (ep ab);dsimp only at Qa ag2 au5 au6 vp;have hQ:decide ((i:Int)<(N:Int))=true:=dn;have hw:=e9 (i:=i) (by omega);have dL:∀bM,mN 129029 bM 4 N 64 1 _ _=_:=λbM=>Qa ▸ au1 bM A v1 v2 v3 v4 ag2;have ag3:N<=1000000:=by omega
  have hY:(1<=maxLen)=True:=eq_true (by unfold maxLen;omega);have aKS:=Yn ab;have sS:((hx rs).take i).length=i:=by rw[fR,Er];omega
  rcases kV i with al|hZ
  ·have ue:=ah.z al;refine aX ?_;repeat' (intro h<;>simp only[h,go_sem,go_sem_proc,l0,F,I,b6,sD,ly,jP,ue,hQ,ab,hw,ag3,Qa,dL,hY,ag0,ak,bq,iT,aH,decide_true,decide_false,ne_eq,not_false_eq_true,and_self]<;>try refine aw ?_ ?_)
   refine ag1 (gA (m 129035)) (gA (m 129029)+1) ah ab (by simp[aZ,al]) (by simp[aZ,al,refsOf]) (by simp[aZ]) (λk Q=>?_) λbj fU=>?_
   ·rw[lB (by omega),lB (by omega),lB (by omega),lB (by omega),lB (by omega),lB (by omega),lB (by omega)]
   ·refine aX ?_;repeat' (intro h<;>simp only[h,go_sem,go_sem_proc,F,I,b6,sD,ly,jP,hw]<;>try refine aw ?_ ?_)
    exact⟨(i+1,gA (m 129035)),by dsimp only;omega,by dsimp only;omega,rfl,fU⟩
  ·obtain⟨ue,LC⟩:=ah.p hZ;have au7:=au2 N go i (gA (m 129029)+1) ((hx rs).take i) sS (by omega) _ rfl;refine aX ?_;repeat' (intro h<;>simp only[h,go_sem,go_sem_proc,l0,F,I,b6,sD,ly,jP,ue,LC,hQ,ab,hw,ag3,Qa,dL,au7,ag0,ak,bq,iT,aH,decide_true,decide_false,ne_eq,not_false_eq_true,and_self]<;>try refine aw ?_ ?_)
   refine ag1 (go+1) (gA (m 129029)+1) ah ab (by simp[aZ]) (by simp[aZ]) (by simp[aZ]) (λk Q=>?_) λbj fU=>?_
   ·rw[lB (by omega),lB (by omega),lB (by omega),lB (by omega),lB (by omega),lB (by omega),lB (by omega)]
   ·refine aX ?_;repeat' (intro h<;>simp only[h,go_sem,go_sem_proc,F,I,b6,sD,ly,jP,hw]<;>try refine aw ?_ ?_)
    exact⟨(i+1,go+1),by dsimp only;omega,by dsimp only;omega,rfl,fU⟩
 ·have hQ:decide ((i:Int)<(N:Int))=false:=dk;obtain rfl:i=N:=by omega
  refine aX ?_;repeat' (intro h<;>simp only[h,go_sem,go_sem_proc,F,I,b6,sD,ly,jP,hQ]<;>try refine aw ?_ ?_)
  refine dN _ _ go ?_ ?_ ?_ ah<;>simp only[e4,eb,if_false,F,I,b6]
def l1 (stop:Bool):Nat->Nat->List du->List Nat->Bool->List du×List Nat×Bool
 |0,_,rows,free,bad=>(rows,free,bad)
 |_+1,_,rows,free,true=>(rows,free,true)
 |k+1,c,rows,free,false =>
  if (iD rows (c-D free) c).1=true then
   (if stop=true then ((iD rows (c-D free) c).2.1,free++[c],(iD rows (c-D free) c).2.2) else l1 stop k (c+1) (iD rows (c-D free) c).2.1 (free++[c]) (iD rows (c-D free) c).2.2)
  else l1 stop k (c+1) (iD rows (c-D free) c).2.1 free (iD rows (c-D free) c).2.2
theorem ag4 (stop:Bool)(k c:Nat)(rows:List du)(free:List Nat):l1 stop k c rows free true=(rows,free,true):=by
 cases k<;>rfl
def ir (n:Nat):List Data:=[.int .i64 n]
theorem yH (n:Nat):(ir n).length=1:=rfl
theorem ag5 (n:Nat):((ir n).map R.J).all R.one=true:=rfl
def Yo (N:Nat)(rows:List du)(bad:Bool):Data:=.ptr [.Y (rows.map λx=>[.Y (x.2.2.map aH)]),.int .i64 N,.bool bad]
def Hv (N:Nat)(p:List du×List Nat×Bool):Data:=.cI [Yo N p.1 p.2.2,.Y (p.2.1.map ir)]
theorem Qb (fX:List a1)(r c:Nat):∀(i:Nat) (l:List du) (b:Bool),(jX fX r c i l b).1.map (λx=>(x.1,x.2.1,x.2.2.length))=l.map λx=>(x.1,x.2.1,x.2.2.length)
 |_,[],_=>rfl
 |i,x::xs,b=>by
  unfold jX
  split
  ·simp only[eE,Qb fX r c (i+1) xs b]
  ·simp only[eE,Qb fX r c (i+1) xs,agE]
theorem ag6 (fC:a1):∀(l p:List a1) (b:Bool),(∀f∈l,okF f)->∀f∈(jn fC l p b).1,okF f
 | [],p,b,h=>by rw[agF];exact h
 |f::dK,[],b,h=>by cases b<;>(simp only[jn];exact h)
 |f::dK,p::ps,true,h=>by simp only[jn];exact h
 |f::dK,p::ps,false,h=>by
  simp only[jn];intro g bc;rcases hE.1 bc with rfl|bc
  ·exact agB _ _
  ·exact ag6 fC dK ps _ (λx O=>h x (gX _ O)) g bc
theorem Yp (fX:List a1)(r c:Nat):∀(i:Nat) (l:List du) (b:Bool),(∀x∈l,∀f∈x.2.2,okF f)->∀x∈(jX fX r c i l b).1,∀f∈x.2.2,okF f
 |_,[],_,h=>h
 |i,x::xs,b,h=>by
  unfold jX
  split
  ·intro y ar;rcases hE.1 ar with rfl|ar
   ·exact h _ gn
   ·exact Yp fX r c (i+1) xs b (λz aS=>h z (gX _ aS)) y ar
  ·intro y ar;rcases hE.1 ar with rfl|ar
   ·exact ag6 _ _ _ _ (h _ gn)
   ·exact Yp fX r c (i+1) xs _ (λz aS=>h z (gX _ aS)) y ar
theorem ag7 (rows:List du)(r c:Nat)(ab:r<=D rows):r<=findAt rows r c/\findAt rows r c<=D rows:=by
 unfold findAt;have:=ag8 (p:=λx => !ns (cellOf x c)) (xs:=rows.drop r);rw[rp] at this;omega
theorem jW.piv {N:Nat}{rows:List du}(h:jW N rows){r c:Nat}(ab:r<N):jW N (iD rows r c).2.1:=by
 unfold iD
 split
 ·exact h
 ·rename_i bC;have kA:=ag7 rows r c (by rw[h.len];omega);have aq:=h.len;obtain⟨x,O⟩:∃x,rows[findAt rows r c]?=some x:=⟨_,bx (by omega)⟩;obtain⟨xe,pk⟩:∃x,rows[r]?=some x:=⟨_,bx (by omega)⟩
  have Ak:jW N (qQ rows r (findAt rows r c)):=by
   unfold qQ;rw[xd O,xd pk];exact h.swap pk O
  have yF:(qQ rows r (findAt rows r c))[r]?=some x:=by
   unfold qQ;rw[xd O,xd pk];exact X9 O pk
  generalize qQ rows r (findAt rows r c)=h2 at *;obtain⟨tf,Ht⟩:=Ak.row x (ep yF)
  have zO:jW N (El h2 r c):=by
   unfold El;rw[xd yF];refine Ak.set yF (by simp[hS,tf]) λf aF=>?_;obtain⟨g,-,rfl⟩:=dS.1 aF;exact agC _ _
  generalize El h2 r c=iE at *;have jv:=Qb (hS (cellOf (rowAt h2 r) c) (rowAt h2 r).2.2).1 r c 0 iE (hS (cellOf (rowAt h2 r) c) (rowAt h2 r).2.2).2;have cX:=Yp (hS (cellOf (rowAt h2 r) c) (rowAt h2 r).2.2).1 r c 0 iE (hS (cellOf (rowAt h2 r) c) (rowAt h2 r).2.2).2 λx O=>(zO.row x O).2;dsimp only;generalize (jX (hS (cellOf (rowAt h2 r) c) (rowAt h2 r).2.2).1 r c 0 iE (hS (cellOf (rowAt h2 r) c) (rowAt h2 r).2.2).2).1=el at *;refine⟨?_,?_,λy ar=>⟨?_,cX y ar⟩⟩
  ·have:=congrArg D jv;rw[ak,ak] at this;rw[this,zO.len]
  ·have F:el.map (·.1)=iE.map (·.1):=by
    have:=congrArg (yG λp:Nat×Nat×Nat=>p.1) jv
    simpa [lo,Function.comp_def] using this
   rw[F];exact zO.P3
  ·have F:el.map (λx=>x.2.2.length)=iE.map λx=>x.2.2.length:=by
    have:=congrArg (yG λp:Nat×Nat×Nat=>p.2.2) jv
    simpa [lo,Function.comp_def] using this
   have I:y.2.2.length∈iE.map λx=>x.2.2.length:=by rw[<-F];exact dS.2 ⟨y,ar,rfl⟩
   obtain⟨z,aS,e⟩:=dS.1 I;rw[<-e];exact (zO.row z aS).1
theorem au8 {n k g N:Nat}{mem:Mem}{l:List a1}(aq:(D l)=N+1)(hm:mem k=some (g,bf aH l)):cz (n+1) mem (.ref k g 4 0 (N+1))=some (.Y (l.map aH)):=by
 rw[<-aq];exact qy nq hm
theorem au9 {n N:Nat}{mem:Mem}{rows:List du}(h:∀x∈rows,mem (x.1+900000)=some (x.2.1,bf aH x.2.2))(aq:∀x∈rows,x.2.2.length=N+1):(refsOf N rows).mapM (cz (n+1) mem)=some (rows.map λx => .Y (x.2.2.map aH)):=by
 unfold refsOf
 induction rows with
 |nil=>rfl
 |cons x xs ax =>
  have F:=au8 (n:=n) (aq x gn) (h x gn);have I:=ax (λy ar=>h y (gX _ ar)) λy ar=>aq y (gX _ ar);simp only[eE,lg,F,I]
  rfl
theorem Yq {n N go:Nat}{mem:Mem}{rows:List du}{bad:Bool}(cX:jW N rows)(h:Ah go N rows bad mem):cz (n+3) mem (.ptr 129015 0 0)=some (Yo N rows bad):=by
 have F:=au9 (n:=n) h.r λx O=>(cX.row x O).1
 have I:cz (n+2) mem (.ref 129035 go 1 0 N)=some (.Y (rows.map λx=>[.Y (x.2.2.map aH)])):=by
  unfold cz;rw[h.o];simp only[if_true];unfold cut;rw[ad (by rw[Hu,cX.len];omega),lQ,dt (by rw[Hu,cX.len];omega)];dsimp only;rw[F];have:=x9 (sz:=1) (rows.map λx=>[Data.Y (x.2.2.map aH)]) (by intro e he;obtain⟨x,-,rfl⟩:=dS.1 he;rfl);rw[ak,cX.len] at this;simp only[ll,cj,Data.Y.injEq]
  have kA:∀l:List du,(l.map λx=>Data.Y (x.2.2.map aH))=(l.map λx=>[Data.Y (x.2.2.map aH)]).flatten:=by
   intro l
   induction l with
   |nil=>rfl
   |cons x xs ax=>simp only[eE,jC,ax];rfl
  rw[kA,this]
 unfold cz;rw[h.m];simp only[if_true,lQ,lg,List.mapM_nil,I,true_and,fg];simp only[N6]
 rfl
theorem Al.ava {N go:Nat}{rs:List eV}{m:Mem}(aq:(D rs)=N)(gB:0<N)(h:Al N rs N go m):Ah go N (hx rs) false m:=by
 have bD:(hx rs).take N=hx rs:=dt (by rw[Er];omega);have aE:=h.p gB;rw[bD] at aE;exact⟨aE.1,aE.2,by have:=h.r;rw[bD] at this;exact this⟩
theorem Ah.other {go N:Nat}{rows:List du}{bad:Bool}{mem:Mem}{k g:Nat}{cs:List R}(h:Ah go N rows bad mem)(F:k≠129015)(I:k≠129035)(af:k<900000):Ah go N rows bad (aZ mem k g cs) :=
 ⟨(lB (Ne.symm F)).trans h.m,(lB (Ne.symm I)).trans h.o,λx O=>(lB (show (x.1+900000:Nat)≠k by omega)).trans (h.r x O)⟩
theorem ag9 {N:Nat}{rs:List eV}(aq:(D rs)=N)(h:∀r∈rs,r.1.length=N/\yB r):jW N (hx rs):=by
 refine⟨by rw[Er,aq],?_,λx O=>?_⟩
 ·have:(hx rs).map (·.1)=dP (D rs):=by
   unfold hx;rw[lo];apply o4;intro i;rw[bq,Ym];rcases h9 i (D rs) with h|h
   ·rw[bx h];simp[h]
   ·rw[ke h];simp[h]
  rw[this];exact List.nodup_range
 ·unfold hx at O;obtain⟨⟨r,i⟩,aE,rfl⟩:=dS.1 O;have ab:=List.fst_mem_of_mem_zipIdx aE;obtain⟨F,I,af⟩:=h r ab;refine⟨by simp[F],λf aF=>?_⟩
  rw[kg,tP] at aF;rcases aF with aF|rfl
  ·exact I.2 f aF
  ·exact af
abbrev Yr:(List eV)×Int×Bool->List Data:=λ(rs,n,stop)=>[.Y (rs.map iT),.int .i64 n,.bool stop]
def Qc:=cp Yr λ(rs,n,stop)=>cV ((D rs:Int)=n/\D rs<=40/\∀r∈rs,r.1.length=D rs/\yB r) (.same (Hv (D rs) (l1 stop (D rs) 0 (hx rs) [] false)))
theorem avb:∀a b,Yr a=Yr b->a=b:=by
  rintro⟨af8,hC,aKT⟩ ⟨af9,ie,aKU⟩ h;simp only[bb,Data.Y.injEq,Data.int.injEq,Data.bool.injEq] at h;exact ed (map_inj Xf _ _ h.1) (ed h.2.1.2 h.2.2.1)
@[go_sem] theorem avc (rs:List eV)(n:Int)(stop:Bool)(G:(D rs:Int)=n/\D rs<=40/\∀r∈rs,r.1.length=D rs/\yB r):Qc [.Y (rs.map iT),.int .i64 n,.bool stop]=some (.same (Hv (D rs) (l1 stop (D rs) 0 (hx rs) [] false))):=(cA avb (rs,n,stop)).trans (cY G _)
theorem avd (T:bh)(l0:T Oe=aV P7)(nt:T T3=qP LD)(rs:List eV)(n:Int)(stop:Bool)(G:(D rs:Int)=n/\D rs<=40/\∀r∈rs,r.1.length=D rs/\yB r):WP T Lf (.same (Hv (D rs) (l1 stop (D rs) 0 (hx rs) [] false))) [.J (.Y (rs.map iT)),.J (.int .i64 n),.J (.bool stop)]:=by
 refine cB ?_;simp only[Lf];obtain⟨aK,gB,Bo⟩:=G;subst aK;simp only[go_sem,go_sem_proc,l0,nt,ak];generalize Ys:(D rs)=N at *;refine au4 T l0 N rs stop gB Ys Bo _ _ rfl rfl rfl rfl rfl rfl ⟨λ_=>by simp[aZ],λh=>by omega,λx O=>by simp at O,λj _=>lB (show (j+900000:Nat)≠129015 by omega),lB (by omega),lB (by omega)⟩ ?_
 intro tm m go F I b6 ah;rcases kV N with al|hZ
 ·have pO:rs=[]:=List.eq_nil_of_length_eq_zero (by omega);have aS:=ah.z al;subst al;subst pO;simp only[go_sem,go_sem_proc,l0,nt,F,I,b6];refine dv [1,2,8] [129015] (λ(_:Unit) tm' m'=>tm' 11=.ref 129061 (gA (m 129061)) 1 0 0/\m' 129061=some (gA (m 129061),[])/\tm' 12=.J (.int .i64 0)) (λ_=>0) () (by refine⟨rfl,?_,rfl⟩;simp[aZ]) ?_;intro vs ms aT aR;simp only[go_sem,go_sem_proc,l0,nt,F,I,b6,aS] at aT aR;subst aT aR;rintro _ tm' m' Q hm ⟨mx,Hw,my⟩;simp only[go_sem,go_sem_proc,l0,nt,bb] at Q hm;obtain⟨ca,c7,hP⟩:=Q;simp only[go_sem,go_sem_proc,l0,nt,ca,c7,hP,hm,mx,Hw,my,show decide ((0:Int)<((0:Nat):Int))=false from rfl,cz,nM,lQ];repeat' (first|refine aw ?_ ?_|fail)<;>intro h<;>simp only[h,go_sem,go_sem_proc,l0,nt,ca,c7,hP,hm,mx,Hw,my,show decide ((0:Int)<((0:Nat):Int))=false from rfl,cz,nM,lQ]
  rfl
 ·have Am:=ah.ava Ys hZ;have cX:=ag9 Ys Bo;have LG:=ah.a;have LH:=ah.b;clear ah;simp only[go_sem,go_sem_proc,l0,nt,F,I,b6]
  refine dv [1,2,8] [] (λ((c,rows,free,bad,g):Nat×List du×List Nat×Bool×Nat) tm m=>c<=N/\D free<=c/\l1 stop N 0 (hx rs) [] false=l1 stop (N-c) c rows free bad/\jW N rows/\Ah go N rows bad m/\m 168004=none/\m 168006=none/\tm 11=.ref 129061 g 1 0 (D free)/\m 129061=some (g,bf ir free)/\tm 12=.J (.int .i64 c)) (λ(c,_,_,_,_)=>N-c) (0,hx rs,[],false,gA (m 129061)) (by
   refine⟨fg _,bW _,rfl,cX,⟨?_,?_,λx O=>?_⟩,?_,?_,rfl,?_,rfl⟩
   ·rw[lB (by omega)];exact Am.m
   ·rw[lB (by omega)];exact Am.o
   ·rw[lB (show (x.1+900000:Nat)≠129061 by omega)];exact Am.r x O
   ·rw[lB (by omega)];exact LG
   ·rw[lB (by omega)];exact LH
   ·simp[aZ,bf]) ?_
  intro vs ms aT aR;simp only[go_sem,go_sem_proc,l0,nt,F,I,b6] at aT aR;subst aT aR;clear F I b6 Am LG LH;rintro⟨c,rows,free,bad,g⟩ tm m Q hm ⟨auL,aKV,kR,cX,Am,LG,LH,mx,Hw,my⟩;simp only[go_sem,go_sem_proc,l0,nt,bb] at Q hm;obtain⟨F,I,b6⟩:=Q;have ue:=Am.m
  have VR:l1 stop N 0 (hx rs) [] false=(rows,free,bad)->((cz 5 m (.ptr 129015 0 0)).bind λd=>(cz 5 m (.ref 129061 g 1 0 (D free))).bind λe=>some (Data.cI [d,e]))=some (Hv N (l1 stop N 0 (hx rs) [] false)):=by
   intro h;rw[h,Yq (n:=2) cX Am,qy yH Hw]
   rfl
  have Qd:=Yq (n:=2) cX Am;have Hx:=qy (n:=4) yH Hw;rcases dA (c<N) with ay|b9
  ·have ew:decide ((c:Int)<(N:Int))=true:=dn
   cases bad
   ·have oJ:IntKind.i64.wrap ((c:Int)-(D free:Int))=((c-D free:Nat):Int):=by rw[fi _];omega
    have fw:=e9 (i:=c) (by omega);have fh:=auV ⟨go,N,rows,c-D free,c⟩ m ⟨cX,Am,LG,LH,gB,Nat.sub_le _ _,ay⟩;dsimp only at fh;have Yt:N-c=(N-(c+1))+1:=by omega
    rw[Yt] at kR;simp only[l1] at kR;have Hm:=cX.piv (r:=c-D free) (c:=c) (by omega);simp only[go_sem,go_sem_proc,l0,nt,nt,F,I,b6,mx,my,ue,ew,oJ,fh];intro Cd m' eS;obtain⟨Ei,fW⟩:=eS;dsimp only at Ei fW;subst Ei;have oa:m' 168004=none:=(fW.2 _ Yb).trans LG;have Cj:m' 168006=none:=(fW.2 _ Yc).trans LH;have LI:m' 129061=some (g,bf ir free):=(fW.2 129061 (by unfold Hh;omega)).trans Hw;have dL:mN 129061 g 1 (D free) 8 1 [.J (.int .i64 c)] (some (g,bf ir free))=_:=mu yH ag5 129061 g 8 free c rfl (by omega) (by omega);generalize aKW:iD rows (c-D free) c=pv at *;obtain⟨ave,aha,ahb⟩:=pv;dsimp only at *
    cases ave
    ·simp only[kO,if_false] at kR;simp only[go_sem,go_sem_proc,l0,nt,F,I,b6,mx,my,fw];repeat' (first|refine aw ?_ ?_|fail)<;>intro h<;>simp only[h,go_sem,go_sem_proc,l0,nt,F,I,b6,mx,my,fw]
     exact⟨(c+1,aha,free,ahb,g),by dsimp only;omega,by dsimp only;omega,by dsimp only;omega,kR,Hm,fW.1,oa,Cj,rfl,LI,rfl⟩
    ·simp only[if_true] at kR;have ahc:=fW.1.other (k:=129061) (g:=g+1) (cs:=bf ir (free++[c])) (by omega) (by omega) (by omega)
     cases stop
     ·simp only[kO,if_false] at kR;simp only[go_sem,go_sem_proc,l0,nt,F,I,b6,mx,my,fw,LI,dL];repeat' (first|refine aw ?_ ?_|fail)<;>intro h<;>simp only[h,go_sem,go_sem_proc,l0,nt,F,I,b6,mx,my,fw,LI,dL]
      exact⟨(c+1,aha,free++[c],ahb,g+1),by dsimp only;omega,by dsimp only;omega,by simp;omega,kR,Hm,ahc,oa,Cj,by simp,rfl,rfl⟩
     ·simp only[if_true] at kR;simp only[go_sem,go_sem_proc,l0,nt,F,I,b6,mx,my,fw,LI,dL];repeat' (first|refine aw ?_ ?_|fail)<;>intro h<;>simp only[h,go_sem,go_sem_proc,l0,nt,F,I,b6,mx,my,fw,LI,dL]
      have Cl:(D free)+1=(free++[c]).length:=by simp
      rw[Yq (n:=2) Hm ahc,Cl,qy (n:=4) yH (g:=g+1) (l:=free++[c]) (by simp[aZ]),kR]
      rfl
   ·rw[ag4] at kR;simp only[go_sem,go_sem_proc,l0,nt,F,I,b6,mx,my,ue,ew,Qd,Hx];repeat' (first|refine aw ?_ ?_|fail)<;>intro h<;>simp only[h,go_sem,go_sem_proc,l0,nt,F,I,b6,mx,my,ue,ew,Qd,Hx]
    rw[kR]
    rfl
  ·have ew:decide ((c:Int)<(N:Int))=false:=dk;have Yt:N-c=0:=by omega
   rw[Yt] at kR;simp only[l1] at kR;simp only[go_sem,go_sem_proc,l0,nt,F,I,b6,mx,my,ue,ew,Qd,Hx];repeat' (first|refine aw ?_ ?_|fail)<;>intro h<;>simp only[h,go_sem,go_sem_proc,l0,nt,F,I,b6,mx,my,ue,ew,Qd,Hx]
   rw[kR]
   rfl
theorem Yu {rs:List eV}{n:Int}(bJ:rH rs)(h:n3 rs n=true):(D rs:Int)=n/\D rs<=40/\∀r∈rs,r.1.length=D rs/\yB r:=by
 unfold n3 at h;simp only[ec,pj,decide_eq_false_iff_not,beq_iff_eq] at h;obtain⟨F,I,af,aM⟩:=h;refine⟨af,by omega,λr ab=>⟨?_,bJ.2 r ab⟩⟩
 rw[ug] at aM;have:=aM r ab;unfold oN at this;simp at this;omega
theorem Yv {stop:Bool}{N:Nat}:∀(k c:Nat) (rows:List du) (free:List Nat) (bad:Bool),c+k=N->jW N rows->jW N (l1 stop k c rows free bad).1
 |0,_,rows,_,_,_,h=>h
 |k+1,c,rows,free,true,G,h=>h
 |k+1,c,rows,free,false,G,h=>by
  have aE:=h.piv (r:=c-D free) (c:=c) (by omega);unfold l1
  split
  ·split
   ·exact aE
   ·exact Yv k (c+1) _ _ _ (by omega) aE
  ·exact Yv k (c+1) _ _ _ (by omega) aE
def qR (stop:Bool)(rs:List eV):List du×List Nat×Bool:=l1 stop (D rs) 0 (hx rs) [] false
theorem Yw (stop:Bool):∀(k c:Nat) (rows:List du) (free:List Nat) (bad:Bool),(l1 stop k c rows free bad).2.1.length<=D free+k
 |0,_,_,_,_=>by simp[l1]
 |k+1,c,rows,free,true=>by simp[l1]
 |k+1,c,rows,free,false=>by
  unfold l1
  split
  ·split
   ·simp
   ·have:=Yw stop k (c+1) (iD rows (c-D free) c).2.1 (free++[c]) (iD rows (c-D free) c).2.2;simp at this;omega
  ·have:=Yw stop k (c+1) (iD rows (c-D free) c).2.1 free (iD rows (c-D free) c).2.2;omega
theorem avf (stop:Bool)(rs:List eV):(qR stop rs).2.1.length<=D rs:=by
 have:=Yw stop (D rs) 0 (hx rs) [] false;unfold qR
 simpa using this
theorem avg {rs:List eV}{stop:Bool}(h:∀r∈rs,r.1.length=D rs/\yB r):jW (D rs) (qR stop rs).1:=Yv _ _ _ _ _ (by omega) (ag9 rfl h)
def vF (N:Nat)(x:du):a1:=x.2.2.getD N ft
def qS (rs:List eV)(n:Int):List a1×Int :=
 if n3 rs n=true then (if (qR true rs).2.2=true then ([],6) else if (qR true rs).2.1.length>0 then ([],17) else ((qR true rs).1.map (vF (D rs)),0)) else ([],1)
theorem avh {N:Nat}{x:du}{f:a1}(h:x.2.2[N]?=some f):vF N x=f:=by
 unfold vF;rw[en,h]
 rfl
def Yx:=cp PF λ(rs,n)=>cV (rH rs) (.same (.cI [.Y ((qS rs n).1.map aH),.int .i64 (qS rs n).2]))
@[go_sem] theorem avi (rs:List eV)(n:Int)(G:rH rs):Yx [.Y (rs.map iT),.int .i64 n]=some (.same (.cI [.Y ((qS rs n).1.map aH),.int .i64 (qS rs n).2])):=(cA aga (rs,n)).trans (cY G _)
theorem avj (T:bh)(Cm:T TS=aV Xp)(Cn:T TW=aV Qc)(rs:List eV)(n:Int)(G:rH rs):WP T WE (.same (.cI [.Y ((qS rs n).1.map aH),.int .i64 (qS rs n).2])) [.J (.Y (rs.map iT)),.J (.int .i64 n)]:=by
 refine cB ?_;simp only[WE];unfold qS;rcases ab:n3 rs n
 ·refine aX ?_;repeat' (intro h<;>simp only[h,go_sem,go_sem_proc,Cm,Cn,G,ab,c1]<;>try refine aw ?_ ?_)
 ·have cX:=avg (stop:=true) (Yu G ab).2.2;have e5:Qc [.Y (rs.map iT),.int .i64 n,.bool true]=some (.same (Hv (D rs) (qR true rs))):=avc rs n true (Yu G ab);have kA:=avf true rs;obtain⟨aK,gB,-⟩:=Yu G ab;rcases gr:qR true rs with ⟨rows,free,bad⟩;rw[gr] at kA cX e5;dsimp only at kA cX;simp only[Hv,Yo] at e5
  cases bad
  ·cases free with
   |nil =>
    simp only[go_sem,go_sem_proc,Cm,Cn,G,ab,e5,ak,show decide (((0:Nat):Int)>0)=false from rfl,c1];rw[ae (by simp)];refine dv [1,33,34] [] (λ((i,g):Nat×Nat) tm m=>i<=D rs/\tm 35=.J (.int .i64 i)/\tm 8=.ref 109045 g 4 0 i/\m 109045=some (g,bf aH ((rows.take i).map (vF (D rs))))) (λ(i,_)=>D rs-i) (0,0) (by refine⟨fg _,rfl,rfl,?_⟩;simp[aZ,bf,bU,emp]) ?_;intro vs ms aT aR;simp only[go_sem,go_sem_proc,Cm,Cn] at aT aR;subst aT aR;rintro⟨i,g⟩ tm m Q hm ⟨agT,P8,b6,Yy⟩;simp only[go_sem,go_sem_proc,Cm,Cn,bb] at Q hm;obtain⟨F,K1,ahd⟩:=Q;have bX:=cX.len;rcases dA (i<D rs) with ay|b9
    ·obtain⟨x,O⟩:∃x,rows[i]?=some x:=⟨_,bx (by omega)⟩;obtain⟨tf,Ht⟩:=cX.row x (ep O);obtain⟨⟨⟨cU,de⟩,⟨a3,a4⟩⟩,uc⟩:∃f,x.2.2[D rs]?=some f:=⟨_,bx (by omega)⟩;have iR:=avh uc;have sS:((rows.take i).map (vF (D rs))).length=i:=by rw[ak,fR];omega
     have dL:=mu nq GV 109045 g 64 ((rows.take i).map (vF (D rs))) ((cU,de),(a3,a4)) (cs:=[.J (.int .i64 cU),.J (.Y (de.map ag)),.J (.int .i64 a3),.J (.Y (a4.map ag))]) rfl (by omega) (by omega);rw[sS] at dL
     have avk:(rows.take (i+1)).map (vF (D rs))=(rows.take i).map (vF (D rs))++[((cU,de),(a3,a4))]:=by
      rw[g1,O,kI];simp[iR]
     have hQ:decide ((i:Int)<(D rs:Int))=true:=dn;have Yz:decide ((i:Int)<(D rows:Int))=true:=dn;have hw:=e9 (i:=i) (by omega);have mm:decide (0<=n)=true:=dn;have vG:n=((D rs:Nat):Int):=aK.symm;refine aX ?_;repeat' (intro h<;>simp only[h,go_sem,go_sem_proc,Cm,Cn,F,K1,ahd,P8,b6,Yy,O,uc,dL,hQ,Yz,hw,vG,ak,bq,aH]<;>try refine aw ?_ ?_)
     exact⟨(i+1,g+1),by dsimp only;omega,by dsimp only;omega,rfl,rfl,by dsimp only;rw[avk]⟩
    ·have cw:i=D rs:=by omega
     have Yz:decide ((i:Int)<(D rows:Int))=false:=dk;have eZ:rows.take i=rows:=dt (by omega);rw[eZ] at Yy
     have kC:∀n,cz (n+1) m (.ref 109045 g 4 0 i)=some (.Y ((rows.map (vF (D rs))).map aH)):=λn=>by
      have:=qy (n:=n) nq Yy;rw[show (rows.map (vF (D rs))).length=i by rw[ak];omega] at this
      exact this
     have avl:=kC 4;refine aX ?_;repeat' (intro h<;>simp only[h,go_sem,go_sem_proc,Cm,Cn,F,K1,ahd,P8,b6,Yz,avl]<;>try refine aw ?_ ?_)
   |cons f dK =>
    have iM:decide ((((f::dK).length:Nat):Int)>0)=true:=iw (by simp only[hV];omega);simp only[hV] at iM;refine aX ?_;repeat' (intro h<;>simp only[h,go_sem,go_sem_proc,Cm,Cn,G,ab,e5,ak,iM,c1]<;>try refine aw ?_ ?_)
    rw[ad (by omega)]
    rfl
  ·refine aX ?_;repeat' (intro h<;>simp only[h,go_sem,go_sem_proc,Cm,Cn,G,ab,e5,ak,c1]<;>try refine aw ?_ ?_)
def YA:bT:=cn 30 2 [.t 4,.t 5] (X [(aD 4 (.cQ (.c (.J (.int .u64 0))))),(aD 5 (.cQ (.c (.J (.int .u64 0)))))] (.seq (.cond (.c (.J (.bool false))) (X [H 11 0,(aD 12 (.conv .u32 (.t 11))),H 13 1,(aD 14 (.conv .u32 (.t 13))),(cE 15 aqS 12 14),H 10 15,bN 16 0 10,bN 17 1 10,H 6 16,H 7 17] (X [H 18 6,(aD 19 (.conv .u64 (.t 18))),H 20 7,(aD 21 (.conv .u64 (.t 20))),H 4 19,H 5 21] .ret)) .skip) (X [H 23 0,H 24 1,(cE 25 T9 23 24),H 22 25,bN 26 0 22,bN 27 1 22,H 8 26,H 9 27] (X [H 28 8,H 29 9,H 4 28,H 5 29] .ret))))
def YB:bT:=cn 51 2 [.t 4,.t 5] (X [(aD 4 (.cQ (.c (.J (.int .u64 0))))),(aD 5 (.cQ (.c (.J (.int .u64 0)))))] (X [H 14 0,(aD 15 (.bin .and (.t 14) (.c (.J (.int .u64 4294967295))))),H 6 15] (X [H 16 0,(aD 17 (.bin .shr (.t 16) (.c (.J (.int .u64 32))))),H 7 17] (X [H 18 1,(aD 19 (.bin .and (.t 18) (.c (.J (.int .u64 4294967295))))),H 8 19] (X [H 20 1,(aD 21 (.bin .shr (.t 20) (.c (.J (.int .u64 32))))),H 9 21] (X [H 22 6,H 23 8,bB 24 .mul 22 23,H 10 24] (X [H 25 7,H 26 8,bB 27 .mul 25 26,H 28 10,(aD 29 (.bin .shr (.t 28) (.c (.J (.int .u64 32))))),bB 30 .add 27 29,H 11 30] (X [H 31 11,(aD 32 (.bin .and (.t 31) (.c (.J (.int .u64 4294967295))))),H 12 32] (X [H 33 11,(aD 34 (.bin .shr (.t 33) (.c (.J (.int .u64 32))))),H 13 34] (X [H 35 12,H 36 6,H 37 9,bB 38 .mul 36 37,bB 39 .add 35 38,H 12 39] (X [H 40 7,H 41 9,bB 42 .mul 40 41,H 43 13,bB 44 .add 42 43,H 45 12,(aD 46 (.bin .shr (.t 45) (.c (.J (.int .u64 32))))),bB 47 .add 44 46,H 4 47] (X [H 48 0,H 49 1,bB 50 .mul 48 49,H 5 50] .ret))))))))))))
theorem YC:∀y:Nat,y<41->bits .and .u64 (y:Int) 4294967295=y:=by decide
theorem avm (y:Nat)(h:y<41):(y:Int).fdiv 4294967296=0:=by
 rw[Int.fdiv_eq_ediv_of_nonneg _ (by omega)];omega
abbrev Qe:Nat->List Data:=λ(y:Nat)=>[.int .u64 1,.int .u64 y]
def YD:=cp Qe λ(y:Nat)=>cV (y<41) (.same (.cI [.int .u64 0,.int .u64 y]))
theorem ahe:∀a b,Qe a=Qe b->a=b:=by
  intro tI tJ h;simp only[bb,Data.int.injEq] at h;omega
@[go_sem] theorem aKX (y:Nat)(G:y<41):YD [.int .u64 1,.int .u64 y]=some (.same (.cI [.int .u64 0,.int .u64 y])):=(cA ahe y).trans (cY G _)
theorem avn (T:bh)  (y:Nat) (G:y<41):WP T YB (.same (.cI [.int .u64 0,.int .u64 y])) [.J (.int .u64 1),.J (.int .u64 y)]:=by
 refine cB ?_;simp only[YB];have F:=YC y G;have I:=avm y G;have af:=YC 1 (by omega);have aM:=YC 0 (by omega);have bk:((1:Int)).fdiv 4294967296=0:=by decide
 have bI:((0:Int)).fdiv 4294967296=0:=by decide
 have hw:∀x:Int,0<=x/\x<18446744073709551616->IntKind.u64.wrap x=x:=λx h=>zA x h;have ev:=hw 0 (by omega);have w1:=hw y (by omega);simp only[Int.natCast_zero,Int.cast_ofNat_Int,Int.natCast_one] at af aM;simp only[go_sem,go_sem_proc,F,I,af,aM,bk,bI,ev,w1,show ((32:Int)<0)=False from by simp,if_false,show (2:Int)^min (Int.toNat 32) 64=4294967296 from rfl,nY,zT,tO,wS,DN]
 repeat' (first|refine aw ?_ ?_|fail)<;>intro h<;>simp only[h,go_sem,go_sem_proc,F,I,af,aM,bk,bI,ev,w1,show ((32:Int)<0)=False from by simp,if_false,show (2:Int)^min (Int.toNat 32) 64=4294967296 from rfl,nY,zT,tO,wS,DN]
def YE:=cp Qe λ(y:Nat)=>cV (y<41) (.same (.cI [.int .u64 0,.int .u64 y]))
@[go_sem] theorem aKY (y:Nat)(G:y<41):YE [.int .u64 1,.int .u64 y]=some (.same (.cI [.int .u64 0,.int .u64 y])):=(cA ahe y).trans (cY G _)
theorem avo (T:bh)(avp:T T9=aV YD)(y:Nat)(G:y<41):WP T YA (.same (.cI [.int .u64 0,.int .u64 y])) [.J (.int .u64 1),.J (.int .u64 y)]:=by
 refine cB ?_;simp only[YA];refine aX ?_;repeat' (intro h<;>simp only[h,go_sem,go_sem_proc,avp,G]<;>try refine aw ?_ ?_)
theorem rN {α:Type}{A:List α}{k:Nat}(dZ:(D A)=k)(n:Nat):(dC n A).flatten.length=n*k:=by
 rw[List.length_flatten,Hy,dZ,List.sum_replicate_nat]
theorem avq {α:Type}{A:List α}{k:Nat}(dZ:(D A)=k){q j:Nat}(h:q<=j):(dC j A).flatten.take (q*k)=(dC q A).flatten:=by
 obtain⟨d,rfl⟩:=ahf h;rw[<-YF,Hz,Co (by rw[rN dZ];omega),dt (by rw[rN dZ];omega)]
theorem avr {α:Type}{A:List α}{k:Nat}(dZ:(D A)=k){q j:Nat}(h:q<=j):(dC j A).flatten.drop (q*k)=(dC (j-q) A).flatten:=by
 obtain⟨d,rfl⟩:=ahf h;rw[<-YF,Hz,rn,kP (by rw[rN dZ];omega),rN dZ,mg,lQ,jg,F7]
def Es:List R:=[.J (.int .i64 0),.nil,.J (.int .i64 0),.nil]
def p1 (A:List R)(N j:Nat):List R:=(dC j A).flatten++(dC (N-j) Es).flatten
theorem ahg {A:List R}(dZ:(D A)=4){N j:Nat}(h:j<=N):(p1 A N j).length=N*4:=by
 unfold p1;rw[fE,rN dZ,rN (show (D Es)=4 from rfl)];omega
theorem ahh {A:List R}(dZ:(D A)=4){N j q:Nat}(h:j+q<=N):(p1 A N j).take (j*4)++(dC q A).flatten++(p1 A N j).drop (j*4+q*4)=p1 A N (j+q):=by
 unfold p1;rw[Co (by rw[rN dZ];omega),dt (by rw[rN dZ];omega),rn,kP (by rw[rN dZ];omega),rN dZ,F7,avr (show (D Es)=4 from rfl) (by omega),jg,<-YF (n:=j),Hz,Nat.sub_sub]
theorem avs {A:List R}(dZ:(D A)=4){N j:Nat}:(p1 A N j).take (j*4)=(dC j A).flatten:=by
 unfold p1;rw[Co (by rw[rN dZ];omega),dt (by rw[rN dZ];omega)]
theorem ahi {A:List R}(h:A.all R.one=true)(q:Nat):(dC q A).flatten.all R.one=true:=by
 induction q with
 |zero=>rfl
 |succ n ax=>rw[pG,jC,agx,h,ax];rfl
theorem avt (f:a1)(N:Nat):p1 ((aH f).map .J) N N=bf aH (dC N f):=by
 unfold p1 bf;rw[mg,Hy];simp only[List.replicate_zero,List.flatten_nil,fJ]
 induction N with
 |zero=>rfl
 |succ n ax=>rw[pG,jC,pG,jC,kI,ax]
theorem avu {A:List R}(dZ:(D A)=4)(F:A.all R.one=true)(N:Nat):A7 131030 0 4 0 N 1 A (some (0,(dC N Es).flatten))=some (.J (.int .i64 ((min 1 N:Nat):Int)),some (131030,0,p1 A N (min 1 N))):=by
 unfold A7;dsimp only;rw[ad ⟨rfl,by rw[rN (show (D Es)=4 from rfl)];omega,F⟩]
 have al:(dC N Es).flatten=p1 A N 0:=by simp[p1]
 have bD:A.take (min 1 N*4)=(dC (min 1 N) A).flatten:=by
  rcases kV N with h|h
  ·subst h;simp
  ·rw[show min 1 N=1 by omega];simp[dt (An dZ)]
 have:=ahh dZ (N:=N) (j:=0) (q:=min 1 N) (by omega);rw[al,bD];unfold kM;rw[rN dZ];simp only[Nat.zero_mul,kx] at this ⊢;rw[this]
theorem avv {A:List R}(dZ:(D A)=4)(F:A.all R.one=true){N j:Nat}(h:j<N):A7 131030 0 4 (j*4) (N-j) j (dC j A).flatten (some (0,p1 A N j))=some (.J (.int .i64 ((min j (N-j):Nat):Int)),some (131030,0,p1 A N (j+min j (N-j)))):=by
 unfold A7;dsimp only;rw[ad ⟨rfl,by rw[ahg dZ (by omega)];omega,ahi F j⟩]
 rw[avq dZ (show min j (N-j)<=j by omega)];have:=ahh dZ (N:=N) (j:=j) (q:=min j (N-j)) (by omega);unfold kM;rw[rN dZ,this]
abbrev YG:Int×(List Int)×Int×(List Int)×Nat->List Data:=λ(s,l,s2,ai,N)=>[.Y [[.int .i64 s,.Y (l.map ag),.int .i64 s2,.Y (ai.map ag)]],.int .i64 N]
def YH:=cp YG λ(s,l,s2,ai,N)=>cV (N<41) (.own 4 (dC N (aH ((s,l),(s2,ai)))))
theorem avw:∀a b,YG a=YG b->a=b:=by
  rintro⟨s1,dY,BV,BW,aKZ⟩ ⟨s2,ai,BX,BZ,aK0⟩ h;simp only[bb,Data.int.injEq,Data.Y.injEq] at h;exact ed h.1.1.1.2 (ed (map_inj fj _ _ h.1.1.2.1) (ed h.1.1.2.2.1.2 (ed (map_inj fj _ _ h.1.1.2.2.2.1) (by have:=h.2.1.2;dsimp only;omega))))
@[go_sem] theorem avx (s:Int)(l:List Int)(s2:Int)(ai:List Int)(N:Nat)(G:N<41):YH [.Y [[.int .i64 s,.Y (l.map ag),.int .i64 s2,.Y (ai.map ag)]],.int .i64 N]=some (.own 4 (dC N (aH ((s,l),(s2,ai))))):=(cA avw (s,l,s2,ai,N)).trans (cY G _)
theorem avy (T:bh)(Ao:T T4=aV YE)(s:Int)(l:List Int)(s2:Int)(ai:List Int)(N:Nat)(G:N<41):WP T U1 (.own 4 (dC N (aH ((s,l),(s2,ai))))) [.J (.Y [[.int .i64 s,.Y (l.map ag),.int .i64 s2,.Y (ai.map ag)]]),.J (.int .i64 N)]:=by
 refine cB ?_;simp only[U1];have al:decide ((N:Int)<0)=false:=dk;have hw:IntKind.u64.wrap (N:Int)=N:=zA _ ⟨by omega,by omega⟩
 have adB:IntKind.i64.wrap (N:Int)=N:=wrap64 _ (by omega) (by omega);have oJ:IntKind.u64.wrap ((1:Nat):Int)=1:=by decide
 have bc:decide ((N:Int)>9223372036854775807)=false:=dk;have HA:(64*N<=140737488355328)=True:=eq_true (by omega);have Cp:(N<=maxLen)=True:=eq_true (by unfold maxLen;omega);have dZ:((aH ((s,l),(s2,ai))).map R.J).length=4:=rfl;have xh:((aH ((s,l),(s2,ai))).map R.J).all R.one=true:=rfl;have Bd:=avu dZ xh N;have uX:=λj (h:j<N)=>avv dZ xh h;have LJ:(aH ((s,l),(s2,ai))).map R.J=[.J (.int .i64 s),.J (.Y (l.map ag)),.J (.int .i64 s2),.J (.Y (ai.map ag))]:=rfl;simp only[Es] at Bd;rw[LJ] at Bd;simp only[go_sem,go_sem_proc,Ao] at Bd;simp only[go_sem,go_sem_proc,Ao,al,hw,adB,oJ,G,bc,HA,Cp,show decide ((0:Int)>0)=false from rfl,Bd];rw[LJ] at dZ xh;have ix:=avt ((s,l),(s2,ai)) N;rw[LJ] at ix;simp only[LJ] at uX;clear LJ Bd;generalize [R.J (.int .i64 s),.J (.Y (l.map ag)),.J (.int .i64 s2),.J (.Y (ai.map ag))]=A at *;refine dv [7] [] (λ(j:Nat) tm m=>j<=N/\(0<N->0<j)/\tm 8=.J (.int .i64 j)/\m 131030=some (0,p1 A N j)) (λj=>N-j) (min 1 N) (by refine⟨by omega,by omega,rfl,?_⟩;simp[aZ]) ?_;intro vs ms aT aR;simp only[go_sem,go_sem_proc,Ao] at aT aR;subst aT aR;rintro j tm m Q hm ⟨ahj,avz,b6,LK⟩;simp only[go_sem,go_sem_proc,Ao,bb] at Q hm;have bH:=Q;rcases dA (j<N) with ay|b9
 ·have ib:decide ((j:Int)<(N:Int))=true:=dn;have aK:=uX j ay;have e8:=avs dZ (N:=N) (j:=j);have hlen:(j*4<=(p1 A N j).length)=True:=eq_true (by rw[ahg dZ ahj];omega);have ahk:(j<=N)=True:=eq_true ahj;have eZ:=ahi xh j;simp only[go_sem,go_sem_proc,Ao,eZ,xh,e8] at aK;have fw:IntKind.i64.wrap ((j:Int)+((min j (N-j):Nat):Int))=((j+min j (N-j):Nat):Int):=by rw[fi _];omega
  simp only[go_sem,go_sem_proc,Ao,bH,b6,LK,ib,e8,hlen,ahk,eZ,aK,fw,bW,Ap,fg];repeat' (first|refine aw ?_ ?_|fail)<;>intro h<;>simp only[h,go_sem,go_sem_proc,Ao,bH,b6,LK,ib,e8,hlen,ahk,eZ,aK,fw,bW,Ap,fg]
  exact⟨j+min j (N-j),by have:=avz (by omega);omega,by omega,by omega,rfl,rfl⟩
 ·have ib:decide ((j:Int)<(N:Int))=false:=dk;obtain rfl:j=N:=by omega
  rw[ix] at LK;have DY:=oE nq (dC j ((s,l),(s2,ai)));rw[Cq] at DY;simp only[go_sem,go_sem_proc,Ao,bH,b6,LK,ib,rm,DY];repeat' (first|refine aw ?_ ?_|fail)<;>intro h<;>simp only[h,go_sem,go_sem_proc,Ao,bH,b6,LK,ib,rm,DY]
  rw[ad (bW _),dt (by omega)];unfold bf;rw[tC _ λd=>rfl];have:=x9 (sz:=4) ((dC j ((s,l),(s2,ai))).map aH) (by intro e he;obtain⟨f,-,rfl⟩:=dS.1 he;rfl);rw[ak,Cq] at this;rw[ll,this,Hy]
def Qf:a1:=((0,[]),(1,[1]))
def YI:a1:=((1,[1]),(1,[1]))
theorem ahl:av 0=Qf:=by
 unfold av bO Qf;simp[Du,sx]
theorem avA:av 1=YI:=by
 unfold av bO YI;simp[Du]
def LL (rows:List du)(f N i:Nat):List a1:=(dP N).map λk=>if k<i then (pf Qf (cellOf (rowAt rows k) f)).1 else if k=f then YI else Qf
theorem avB (rows:List du)(f N i:Nat):(LL rows f N i).length=N:=by simp[LL]
def YJ (rs:List eV)(n:Int):List a1×Bool :=
 if n3 rs n=true then (if ((qR true rs).2.2||(qR true rs).2.1.length==0)=true then ([],false) else (LL (qR true rs).1 ((qR true rs).2.1.headD 0) (D rs) ((qR true rs).2.1.headD 0),true)) else ([],false)



section
variable {α:Type} {op:α->a1×Int} {e:α->a1}
end
def YK (N:Nat)(rows:List eV):Prop:=D rows=N/\∀x∈rows,x.1.length=N/\yB x
theorem YK.set {N:Nat}{rows:List eV}(h:YK N rows){i:Nat}{x:eV}(O:x.1.length=N/\yB x):YK N (rows.set i x):=by
 refine⟨by rw[jf];exact h.1,λy ar=>?_⟩
 rcases Ek ar with ar|rfl
 ·exact h.2 y ar
 ·exact O




def YL (r:eV):List a1:=r.1++[r.2]
def Cr (dg:List du)(cg:List eV):Prop:=dg.map (·.2.2)=cg.map YL
theorem Cr.len {dg:List du}{cg:List eV}(h:Cr dg cg):(D dg)=D cg:=by
 have:=congrArg D h
 simpa using this
theorem Cr.at_ {dg:List du}{cg:List eV}(h:Cr dg cg){i:Nat}{x:du}{r:eV}(O:dg[i]?=some x)(ab:cg[i]?=some r):x.2.2=YL r:=by
 have:=congrArg (λl:List (List a1)=>l[i]?) h;simp only[bq,O,ab,ll,cj] at this;exact this
theorem Cr.set {dg:List du}{cg:List eV}(h:Cr dg cg){i:Nat}{x:du}{r:eV}(pk:x.2.2=YL r):Cr (dg.set i x) (cg.set i r):=by
 unfold Cr at h ⊢;rw[Ai,Ai,h,pk]
def bE:Nat->(Nat->Rat)->Rat
 |0,_=>0
 |n+1,f=>bE n f+f n
theorem j1 {n:Nat}{f g:Nat->Rat}(h:∀k,k<n->f k=g k):bE n f=bE n g:=by
 induction n with
 |zero=>rfl
 |succ n ax=>rw[bE,bE,ax λk Q=>h k (by omega),h n (by omega)]
theorem vH (n:Nat)(f g:Nat->Rat):bE n (λk=>f k+g k)=bE n f+bE n g:=by
 induction n with
 |zero=>simp[bE,oQ]
 |succ n ax=>rw[bE,bE,bE,ax];grind
theorem Aq (n:Nat)(c:Rat)(f:Nat->Rat):bE n (λk=>c*f k)=c*bE n f:=by
 induction n with
 |zero=>simp[bE,nu]
 |succ n ax=>rw[bE,bE,ax];grind
theorem sT {n:Nat}{f:Nat->Rat}(h:∀k,k<n->f k=0):bE n f=0:=by
 induction n with
 |zero=>rfl
 |succ n ax=>rw[bE,ax λk Q=>h k (by omega),h n (by omega)];exact oQ 0
theorem xi {n:Nat}{f:Nat->Rat}{j:Nat}(aj:j<n)(h:∀k,k<n->k≠j->f k=0):bE n f=f j:=by
 induction n with
 |zero=>omega
 |succ n ax =>
  rw[bE]
  by_cases aK:j=n
  ·subst aK;rw[sT λk Q=>h k (by omega) (by omega)];grind
  ·rw[ax (by omega) λk Q=>h k (by omega),h n (by omega) (by omega)];grind
theorem avC (n m:Nat)(f:Nat->Nat->Rat):bE n (λi=>bE m (λj=>f i j))=bE m (λj=>bE n (λi=>f i j)):=by
 induction n with
 |zero=>rw[bE,sT];intro k Q;rfl
 |succ n ax =>
  rw[bE,ax,<-vH]
  rfl
abbrev eH:=Nat->Nat->Rat
def mI (N:Nat)(a y:Nat->Rat):Rat:=bE (N+1) λk=>a k*y k
def hT (N:Nat)(A:eH)(y:Nat->Rat):Prop:=∀i,i<N->mI N (A i) y=0
def hj (A:eH)(r s:Nat):eH:=λi=>if i=s then A r else if i=r then A s else A i
def oR (A:eH)(r c s:Nat):eH:=λi k=>if i=r then hj A r s r k/hj A r s r c else hj A r s i k-hj A r s i c*(hj A r s r k/hj A r s r c)
theorem Qg (A:eH)(r s:Nat):hj A r s r=A s:=by
 unfold hj
 by_cases h:r=s
 ·simp[h]
 ·simp[h]
theorem avD {N r s:Nat}{A:eH}{y:Nat->Rat}(ab:r<N)(U:s<N):hT N (hj A r s) y↔hT N A y:=by
 unfold hT hj
 constructor
 ·intro h i M
  by_cases F:i=r
  ·have:=h s U;simp at this;rw[F];exact this
  ·by_cases I:i=s
   ·have:=h r ab;rw[I]
    by_cases af:r=s
    ·omega
    ·simp[af] at this;exact this
   ·have:=h i M;simp[F,I] at this;exact this
 ·intro h i M
  by_cases I:i=s
  ·simp[I];exact h r ab
  ·by_cases F:i=r
   ·have:=h s U;rw[ae I,ad F];exact this
   ·simp[F,I];exact h i M
theorem avE (N:Nat)(a b y:Nat->Rat)(x:Rat):mI N (λk=>a k-x*b k) y=mI N a y-x*mI N b y:=by
 unfold mI;have:(λk=>(a k-x*b k)*y k)=λk=>a k*y k+(-x)*(b k*y k):=by funext k;grind
 rw[this,vH,Aq];grind
theorem ahm (N:Nat)(a y:Nat->Rat)(x:Rat):mI N (λk=>a k/x) y=mI N a y/x:=by
 unfold mI;have:(λk=>(a k/x)*y k)=λk=>(1/x)*(a k*y k):=by funext k;grind
 rw[this,Aq];grind
theorem YM {N r s c:Nat}{A:eH}{y:Nat->Rat}(ab:r<N)(U:s<N)(bC:A s c≠0):hT N (oR A r c s) y↔hT N A y:=by
 rw[<-avD (A:=A) ab U];have aK1:hj A r s r c≠0:=by rw[Qg];exact bC
 generalize cJ:hj A r s=S at *
 have d1:∀i,i≠r->mI N (oR A r c s i) y=mI N (S i) y-S i c*(mI N (S r) y/S r c):=by
  intro i M;have:oR A r c s i=λk=>S i k-S i c*(S r k/S r c):=by funext k;unfold oR;rw[cJ,ae M]
  rw[this,avE N (S i) (λk=>S r k/S r c) y (S i c),ahm]
 have d2:mI N (oR A r c s r) y=mI N (S r) y/S r c:=by
  have:oR A r c s r=λk=>S r k/S r c:=by funext k;unfold oR;rw[cJ,ad rfl]
  rw[this,ahm]
 unfold hT
 constructor
 ·intro h
  have al:mI N (S r) y=0:=by
   have:=h r ab;rw[d2] at this;generalize mI N (S r) y=d at *;grind
  intro i M
  by_cases pZ:i=r
  ·rw[pZ];exact al
  ·have:=h i M;rw[d1 i pZ,al] at this;generalize mI N (S i) y=d at *;grind
 ·intro h i M;have al:=h r ab
  by_cases pZ:i=r
  ·rw[pZ,d2,al];grind
  ·rw[d1 i pZ,al,h i M];grind
structure qT (N:Nat) (aL:eH) (p c:Nat) (pv:Nat->Nat):Prop where
 lO:p<=c
 lt:∀j,j<p->pv j<c
 unit:∀j,j<p->∀i,i<N->aL i (pv j)=if i=j then 1 else 0
 zero:∀i,p<=i->i<N->∀k,k<c->aL i k=0
theorem qT.free {N p c:Nat}{aL:eH}{pv:Nat->Nat}(h:qT N aL p c pv)(aS:∀i,p<=i->i<N->aL i c=0):qT N aL p (c+1) pv :=
 ⟨by have:=h.lO;omega,λj aj=>by have:=h.lt j aj;omega,h.unit,λi M gB k Q=>by
  by_cases Cc:k=c
  ·rw[Cc];exact aS i M gB
  ·exact h.zero i M gB k (by omega)⟩
theorem qT.piv {N p c s:Nat}{aL:eH}{pv:Nat->Nat}(h:qT N aL p c pv)(aE:p<N)(U:p<=s)(Ar:s<N)(bC:aL s c≠0):qT N (oR aL p c s) (p+1) (c+1) (λj=>if j=p then c else pv j):=by
 have cJ:∀i,i<N->∃bo,bo<N/\hj aL p s i=aL bo/\(i<p->bo=i)/\(p<=i->p<=bo):=by
  intro i M;unfold hj
  by_cases F:i=s
  ·exact⟨p,aE,by rw[ad F],by omega,by omega⟩
  ·by_cases I:i=p
   ·exact⟨s,Ar,by rw[ae F,ad I],by omega,by omega⟩
   ·exact⟨i,M,by rw[ae F,ae I],by omega,by omega⟩
 have aK2:hj aL p s p c≠0:=by rw[Qg];exact bC
 have aS:∀i,p<=i->i<N->∀k,k<c->hj aL p s i k=0:=by
  intro i M gB k Q;obtain⟨bo,F,I,-,aM⟩:=cJ i gB;rw[I];exact h.zero bo (aM M) F k Q
 refine⟨by have:=h.lO;omega,λj aj=>?_,λj aj i M=>?_,λi M gB k Q=>?_⟩
 ·show (if j=p then c else pv j)<c+1
  split
  ·omega
  ·have:=h.lt j (by omega);omega
 ·unfold oR
  by_cases HB:j=p
  ·simp only[HB,if_true]
   by_cases m3:i=p
   ·rw[ad m3,ad m3];grind
   ·rw[ae m3,ae m3];grind
  ·simp only[HB,if_false];have pF:j<p:=by omega
   have aA:hj aL p s p (pv j)=0:=aS p (bW _) aE _ (h.lt j pF);rw[aA]
   by_cases m3:i=p
   ·rw[ad m3,ae (by omega)];grind
   ·rw[ae m3];obtain⟨bo,F,I,af,aM⟩:=cJ i M;rw[I,h.unit j pF bo F];rcases h9 i p with ay|b9
    ·rw[af ay];grind
    ·rw[ae (by have:=aM b9;omega),ae (by omega)];grind
 ·unfold oR;rw[ae (by omega)]
  by_cases Cc:k=c
  ·subst Cc;grind
  ·rw[aS i (by omega) gB k (by omega),aS p (bW _) aE k (by omega)];grind
theorem Qh (N:Nat)(aL:eH)(pv:Nat->Nat):qT N aL 0 0 pv:=⟨bW _,λj aj=>by omega,λj aj=>by omega,λi M gB k Q=>by omega⟩
end Go.Mini
namespace Go.Mini
open Classical
structure dM where
 az:Nat
 to:Int
 bm:Nat
 am:Rat
theorem Cs {a b:Rat}(h:a=b):a<=b:=by rw[h];exact gd
def b5:List dM->(dM->Rat)->Rat
 | [],_=>0
 |c::l,aO=>aO c+b5 l aO
theorem po {l:List dM}{aO bM:dM->Rat}(h:∀c∈l,aO c=bM c):b5 l aO=b5 l bM:=by
 induction l with
 |nil=>rfl
 |cons c l ax=>rw[b5,b5,h c gn,ax λx O=>h x (gX _ O)]
theorem LM (l:List dM)(aO bM:dM->Rat):b5 l (λc=>aO c+bM c)=b5 l aO+b5 l bM:=by
 induction l with
 |nil=>simp only[b5];grind
 |cons c l ax=>rw[b5,b5,b5,ax];grind
theorem As (l:List dM)(aO bM:dM->Rat):b5 l (λc=>aO c-bM c)=b5 l aO-b5 l bM:=by
 induction l with
 |nil=>simp only[b5];grind
 |cons c l ax=>rw[b5,b5,b5,ax];grind
theorem Qi (l:List dM)(a:Rat)(aO:dM->Rat):b5 l (λc=>a*aO c)=a*b5 l aO:=by
 induction l with
 |nil=>simp only[b5];grind
 |cons c l ax=>rw[b5,b5,ax];grind
theorem Ct {l:List dM}{aO:dM->Rat}(h:∀c∈l,aO c=0):b5 l aO=0:=by
 induction l with
 |nil=>rfl
 |cons c l ax=>rw[b5,h c gn,ax λx O=>h x (gX _ O)];grind
theorem Et {l:List dM}{aO bM:dM->Rat}(h:∀c∈l,aO c<=bM c):b5 l aO<=b5 l bM:=by
 induction l with
 |nil=>exact gd
 |cons c l ax =>
  have F:=h c gn;have I:=ax λx O=>h x (gX _ O);rw[b5,b5];grind
theorem xj {l:List dM}{aO:dM->Rat}(h:∀c∈l,0<=aO c):0<=b5 l aO:=by
 have:=Et (l:=l) (aO:=λ_=>0) (bM:=aO) h;rwa [Ct λ_ _=>rfl] at this
theorem Qj {l:List dM}{aO:dM->Rat}(h:∀c∈l,0<=aO c)(U:b5 l aO<=0):∀c∈l,aO c=0:=by
 induction l with
 |nil=>intro c G;cases G
 |cons c l ax =>
  rw[b5] at U;have F:=h c gn;have I:=xj λx O=>h x (gX c O);intro x O;rcases hE.1 O with rfl|O
  ·grind
  ·exact ax (λy ar=>h y (gX _ ar)) (by grind) x O
theorem avF {l:List dM}{aO bM:dM->Rat}(h:∀c∈l,aO c<=bM c){lC:dM}(G:lC∈l)(ay:aO lC<bM lC):b5 l aO<b5 l bM:=by
 by_cases U:b5 l aO<b5 l bM
 ·exact U
 ·have:=Qj (l:=l) (aO:=λc=>bM c-aO c) (λc G=>by have:=h c G;grind) (by rw[As];grind) lC G;grind
theorem LN {l:List dM}{aO:dM->Rat}(h:0<b5 l aO):∃c∈l,0<aO c:=by
 apply kn;intro aK
 have:=Et (l:=l) (aO:=aO) (bM:=λ_=>0) λc G=>by
  apply kn;intro I;exact aK ⟨c,G,by grind⟩
 rw[Ct (aO:=λ_=>(0:Rat)) λ_ _=>rfl] at this;grind
theorem LO {n:Nat}{f g:Nat->Rat}(h:∀k,k<n->f k<=g k):bE n f<=bE n g:=by
 induction n with
 |zero=>exact gd
 |succ n ax =>
  have F:=h n (by omega);have I:=ax λk Q=>h k (by omega);rw[bE,bE];grind
theorem YN {n:Nat}{f:Nat->Rat}(h:∀k,k<n->0<=f k):0<=bE n f:=by
 have:=LO (n:=n) (f:=λ_=>0) (g:=f) h;rwa [sT λ_ _=>rfl] at this
theorem Cu (n:Nat)(f g:Nat->Rat):bE n (λk=>f k-g k)=bE n f-bE n g:=by
 induction n with
 |zero=>simp only[bE];grind
 |succ n ax=>rw[bE,bE,bE,ax];grind
theorem ahn {n:Nat}{f:Nat->Rat}(h:∀k,k<n->0<=f k)(U:bE n f<=0):∀k,k<n->f k=0:=by
 induction n with
 |zero=>intro k Q;omega
 |succ n ax =>
  rw[bE] at U;have F:=h n (by omega);have I:=YN (n:=n) (f:=f) λk Q=>h k (by omega);intro k Q
  by_cases HC:k=n
  ·subst HC;grind
  ·exact ax (λk Q=>h k (by omega)) (by grind) k (by omega)
def lD (C:Nat->Prop)(c:dM):Prop:=∃i:Nat,c.to=i/\C i
theorem YO {n:Nat}(C:Nat->Prop)(fN:∀i,C i->i<n)(l:List dM)(a:dM->Rat):bE n (λi=>if C i then b5 l (λc=>if c.to=(i:Int) then a c else 0) else 0)=b5 l (λc=>if lD C c then a c else 0):=by
 induction l with
 |nil=>exact sT λk _=>by split<;>rfl
 |cons c l ax =>
  rw[b5,<-ax]
  have e:(λi:Nat=>if C i then b5 (c::l) (λc=>if c.to=(i:Int) then a c else 0) else 0)=λi=>(if C i then (if c.to=(i:Int) then a c else 0) else 0)+(if C i then b5 l (λc=>if c.to=(i:Int) then a c else 0) else 0):=by
   funext i
   split
   ·rw[b5]
   ·grind
  rw[e,vH]
  congr 1
  by_cases h:lD C c
  ·obtain⟨i,M,YP⟩:=h
   rw[xi (fN i YP) λk Q qw=>by
    split
    ·rw[ae (by omega)]
    ·rfl]
   rw[ad YP,ad M,ad ⟨i,M,YP⟩]
  ·rw[ae h];refine sT λk Q=>?_
   split
   ·rw[ae λgy=>h ⟨k,gy,by assumption⟩]
   ·rfl
theorem LP {n:Nat}{l:List dM}(aq:∀c∈l,c.az<n)(b:Nat->dM->Rat):bE n (λk=>b5 l (λc=>if c.az=k then b k c else 0))=b5 l (λc=>b c.az c):=by
 induction l with
 |nil=>exact sT λk _=>rfl
 |cons c l ax =>
  rw[b5,<-ax λx O=>aq x (gX _ O)];have e:(λk:Nat=>b5 (c::l) (λc=>if c.az=k then b k c else 0))=λk=>(if c.az=k then b k c else 0)+b5 l (λc=>if c.az=k then b k c else 0):=rfl;rw[e,vH]
  congr 1
  rw[xi (aq c gn) λk _ Q=>ae (Ne.symm Q),ad rfl]
structure Day where
 n:Nat
 E:Nat->Rat
 cO:List dM
structure Day.dj (d:Day):Prop where
 az:∀c∈d.cO,c.az<d.n
 to:∀c∈d.cO,c.to<d.n
 bm:∀c∈d.cO,c.bm<10
 am:∀c∈d.cO,0<=c.am
 E:∀i,i<d.n->0<=d.E i
def Day.br (d:Day)(k r:Nat):Rat:=b5 d.cO λc=>if c.az=k/\c.bm<r then c.am else 0
def Day.S (d:Day)(k r:Nat):Rat:=b5 d.cO λc=>if c.az=k/\c.bm=r then c.am else 0
theorem Day.LQ (d:Day)(k:Nat):d.br k 0=0:=Ct λc _=>ae (by omega)
theorem Day.p2 (d:Day)(k r:Nat):d.br k (r+1)=d.br k r+d.S k r:=by
 unfold Day.br Day.S;rw[<-LM];refine po λc _=>?_
 by_cases F:c.az=k/\c.bm<r
 ·rw[ad ⟨F.1,by omega⟩,ad F,ae (by omega)];grind
 ·rw[ae F]
  by_cases I:c.az=k/\c.bm=r
  ·rw[ad ⟨I.1,by omega⟩,ad I];grind
  ·rw[ae (by omega),ae I];grind
theorem Day.dj.HD {d:Day}(aa:d.dj)(k r:Nat):0<=d.S k r:=xj λc G=>by
 split
 ·exact aa.am c G
 ·exact gd
theorem Day.dj.uh {d:Day}(aa:d.dj)(k:Nat){r s:Nat}(h:r<=s):d.br k r<=d.br k s:=by
 induction s with
 |zero =>
      obtain rfl:r=0:=by omega
      exact gd
 |succ s ax =>
  by_cases ab:r=s+1
  ·rw[ab];exact gd
  ·have F:=ax (by omega);have I:=aa.HD k s;rw[d.p2];grind
theorem Day.dj.avG {d:Day}(aa:d.dj)(k r:Nat):0<=d.br k r:=by
 have:=aa.uh k (fg r);rwa [d.LQ] at this
theorem Day.dj.Qk {d:Day}(aa:d.dj){c:dM}(G:c∈d.cO):c.am<=d.S c.az c.bm:=by
 have:∀l:List dM,(∀x∈l,0<=x.am)->c∈l->c.am<=b5 l λx=>if x.az=c.az/\x.bm=c.bm then x.am else 0:=by
  intro l
  induction l with
  |nil=>intro _ h;cases h
  |cons x l ax =>
   intro F I;rw[b5]
   have af:0<=b5 l λx=>if x.az=c.az/\x.bm=c.bm then x.am else 0:=xj λy ar=>by
    split
    ·exact F y (gX _ ar)
    ·exact gd
   rcases hE.1 I with rfl|I
   ·rw[ad ⟨rfl,rfl⟩];grind
   ·have aM:=ax (λy ar=>F y (gX _ ar)) I;have bk:=F x gn
    split<;>grind
 exact this d.cO aa.am G
def Day.w (d:Day)(c:dM):Rat:=c.am/d.S c.az c.bm
theorem Day.dj.pq {d:Day}(aa:d.dj){c:dM}(G:c∈d.cO):0<=d.w c:=by
 unfold Day.w;have F:=aa.am c G;have I:=aa.HD c.az c.bm;rw[HE]
 exact aho F (by
  rcases Rat.le_iff_lt_or_eq.1 I with h|h
  ·exact Rat.le_of_lt (ahp.2 h)
  ·rw[<-h];exact Cs Rat.inv_zero.symm)
theorem Day.dj.HF {d:Day}(aa:d.dj){c:dM}(G:c∈d.cO)(h:0<c.am):0<d.w c:=by
 unfold Day.w;have I:=aa.Qk G;rw[HE];exact LR h (ahp.2 (by grind))
theorem Day.Ls {d:Day}{c:dM}(h:c.am=0):d.w c=0:=by
 unfold Day.w;rw[h,HE,Cv]
theorem Day.Au {d:Day}{c:dM}(h:0<d.S c.az c.bm):d.w c*d.S c.az c.bm=c.am:=by
 unfold Day.w;grind
theorem Day.dj.HG {d:Day}(aa:d.dj)(C:Nat->Prop)(f:Nat->Nat)(cJ:∀k,C k->0<d.S k (f k))(x:Nat->Rat):b5 d.cO (λc=>if C c.az/\c.bm=f c.az then d.w c*x c.az else 0)=bE d.n (λk=>if C k then x k else 0):=by
 rw[<-LP aa.az λk c=>if C k/\c.bm=f k then d.w c*x k else 0];refine j1 λk Q=>?_
 by_cases fN:C k
 ·rw[ad fN];have hZ:=cJ k fN
  have e:b5 d.cO (λc=>if c.az=k then (if C k/\c.bm=f k then d.w c*x k else 0) else 0)=b5 d.cO λc=>(x k/d.S k (f k))*(if c.az=k/\c.bm=f k then c.am else 0):=by
   refine po λc _=>?_
   by_cases F:c.az=k
   ·by_cases I:c.bm=f k
    ·rw[ad F,ad ⟨fN,I⟩,ad ⟨F,I⟩];unfold Day.w;rw[F,I];grind
    ·rw[ad F,ae (λh=>I h.2),ae (λh=>I h.2)];grind
   ·rw[ae F,ae (λh=>F h.1)];grind
  rw[e,Qi];show x k/d.S k (f k)*d.S k (f k)=x k;grind
 ·rw[ae fN]
  exact Ct λc _=>by
   split
   ·rw[ae λh=>fN h.1]
   ·rfl
end Go.Mini
namespace Go.Mini
open Classical
def pos (x:Rat):Rat:=if x<=0 then 0 else x
theorem HH (x:Rat):0<=pos x:=by unfold pos;split<;>grind
theorem Ql (x:Rat):x<=pos x:=by unfold pos;split<;>grind
theorem Qm {x y:Rat}(h:x<=y):pos x<=pos y:=by unfold pos;split<;>split<;>grind
theorem p3 {x:Rat}(h:0<=x):pos x=x:=by unfold pos;split<;>grind
theorem sU {x:Rat}(h:x<=0):pos x=0:=ad h
theorem Av {a x y:Rat}(aN:0<=a)(h:x<=y):a*x<=a*y:=Rat.mul_le_mul_of_nonneg_left h aN
theorem ui {a x:Rat}(aN:0<=a)(h:0<=x):0<=a*x:=aho aN h
def Day.q (d:Day)(f:Nat->Nat)(h:Nat->Rat)(c:dM):Rat:=if c.bm<f c.az then c.am else if c.bm=f c.az then d.w c*pos (h c.az-d.br c.az c.bm) else 0
def Day.l (d:Day)(f:Nat->Nat)(P:Nat->Prop)(h:Nat->Rat)(c:dM):Rat:=if c.bm<f c.az then c.am else if c.bm=f c.az/\P c.az then d.w c*(h c.az-d.br c.az c.bm) else 0
def Day.e1 (d:Day)(a:dM->Rat)(i:Nat):Rat:=d.E i+b5 d.cO λc=>if c.to=(i:Int) then a c else 0
theorem Day.Eu {d:Day}{a b:dM->Rat}(h:∀c∈d.cO,a c<=b c)(i:Nat):d.e1 a i<=d.e1 b i:=by
 unfold Day.e1
 have:=Et (l:=d.cO) (aO:=λc=>if c.to=(i:Int) then a c else 0) (bM:=λc=>if c.to=(i:Int) then b c else 0) λc G=>by
  try dsimp only
  split
  ·exact h c G
  ·exact gd
 grind
theorem Day.ahq {d:Day}{a b:dM->Rat}(h:∀c∈d.cO,a c=b c)(i:Nat):d.e1 a i=d.e1 b i:=by
 unfold Day.e1
 congr 1
 exact po λc G=>by rw[h c G]
theorem Day.Qn (d:Day)(a b:dM->Rat)(i:Nat):d.e1 a i-d.e1 b i=b5 d.cO λc=>if c.to=(i:Int) then a c-b c else 0:=by
 unfold Day.e1
 have:(λc:dM=>if c.to=(i:Int) then a c-b c else 0)=λc=>(if c.to=(i:Int) then a c else 0)-(if c.to=(i:Int) then b c else 0):=by
  funext c;split<;>grind
 rw[this,As];grind
def Day.fx (d:Day)(C:Nat->Prop)(x:Nat->Rat):Rat:=bE d.n λi=>if C i then x i else 0
theorem Day.ahr (d:Day)(C:Nat->Prop)(x y:Nat->Rat):d.fx C (λi=>x i-y i)=d.fx C x-d.fx C y:=by
 unfold Day.fx;rw[<-Cu];exact j1 λk _=>by split<;>grind
theorem Day.avH (d:Day)(C:Nat->Prop)(x y:Nat->Rat):d.fx C (λi=>x i+y i)=d.fx C x+d.fx C y:=by
 unfold Day.fx;rw[<-vH];exact j1 λk _=>by split<;>grind
theorem Day.ahs {d:Day}{C:Nat->Prop}{x y:Nat->Rat}(h:∀i,i<d.n->C i->x i<=y i):d.fx C x<=d.fx C y:=by
 refine LO λk Q=>?_
 by_cases G:C k
 ·rw[ad G,ad G];exact h k Q G
 ·rw[ae G,ae G];exact gd
theorem Day.Aw {d:Day}{C:Nat->Prop}{x y:Nat->Rat}(h:∀i,i<d.n->C i->x i=y i):d.fx C x=d.fx C y:=by
 refine j1 λk Q=>?_
 split
 ·exact h k Q (by assumption)
 ·rfl
theorem Day.LS {d:Day}{C:Nat->Prop}(fN:∀i,C i->i<d.n)(a:dM->Rat):d.fx C (d.e1 a)=d.fx C d.E+b5 d.cO λc=>if lD C c then a c else 0:=by
 rw[<-YO C fN];show bE d.n _=bE d.n _+_;rw[<-vH];refine j1 λk _=>?_;unfold Day.e1
 split<;>grind
def Day.closed (d:Day)(f:Nat->Nat)(C:Nat->Prop):Prop:=∀c∈d.cO,C c.az->c.bm=f c.az->0<c.am->lD C c
def Day.cap (d:Day)(f:Nat->Nat)(g:Nat->Rat)(C:Nat->Prop)(k:Nat):Rat:=if C k then d.br k (f k) else g k
section
variable {d:Day} {f:Nat->Nat} {P:Nat->Prop} {h g:Nat->Rat} {C:Nat->Prop} {c:dM}
theorem Day.aht (F:c.bm<f c.az):d.l f P h c=c.am:=by unfold Day.l;rw[ad F]
theorem Day.ahu (F:c.bm=f c.az)(I:P c.az):d.l f P h c=d.w c*(h c.az-d.br c.az c.bm):=by
 unfold Day.l;rw[ae (by omega),ad ⟨F,I⟩]
theorem Day.YQ (F:¬ c.bm<f c.az)(I:¬ (c.bm=f c.az/\P c.az)):d.l f P h c=0:=by
 unfold Day.l;rw[ae F,ae I]
theorem Day.avI (F:c.bm<f c.az):d.q f h c=c.am:=by unfold Day.q;rw[ad F]
theorem Day.avJ (F:c.bm=f c.az):d.q f h c=d.w c*pos (h c.az-d.br c.az c.bm):=by
 unfold Day.q;rw[ae (by omega),ad F]
theorem Day.avK (F:¬ c.bm<f c.az)(I:¬ c.bm=f c.az):d.q f h c=0:=by
 unfold Day.q;rw[ae F,ae I]
theorem LU (h:¬ C c.az):d.q f (d.cap f g C) c=d.q f g c:=by
 unfold Day.q Day.cap;rw[ae h]
theorem HI (h:C c.az):d.q f (d.cap f g C) c=if c.bm<f c.az then c.am else 0:=by
 by_cases F:c.bm<f c.az
 ·rw[ad F,Day.avI F]
 ·rw[ae F]
  by_cases I:c.bm=f c.az
  ·rw[Day.avJ I];unfold Day.cap;rw[ad h,I,sU (by grind),nu]
  ·rw[Day.avK F I]
end
structure Inv (d:Day) (f:Nat->Nat) (g:Nat->Rat):Prop where
 le:∀i,f i<=10
 sup:∀i,i<d.n->d.e1 (d.q f g) i<=g i
 cy:∀i,i<d.n->f i<10->d.br i (f i)<=g i
 M:∀i,i<d.n->f i<10->g i<d.br i (f i+1)
 cO:∀C:Nat->Prop,(∃i,C i)->(∀i,C i->i<d.n/\f i<10)->d.closed f C->d.fx C (d.e1 (d.q f (d.cap f g C)))<d.fx C λi=>d.br i (f i)
theorem Inv.rO {d:Day}{f:Nat->Nat}{g:Nat->Rat}(h:Inv d f g){i:Nat}(M:i<d.n)(aF:f i<10):0<d.S i (f i):=by
 have F:=h.cy i M aF;have I:=h.M i M aF;rw[d.p2] at I;grind
theorem Inv.start {d:Day}(aa:d.dj):Inv d (λ_=>10) (d.e1 λc=>c.am) :=
 ⟨λ_=>bW _,λi _=>d.Eu (λc G=>by
  unfold Day.q;rw[ad (aa.bm c G)];exact gd) i,λi _ h=>absurd h (by omega),λi _ h=>absurd h (by omega),λC ⟨i,M⟩ h=>absurd (h i M).2 (by omega)⟩
theorem Inv.YR {d:Day}{f:Nat->Nat}{g:Nat->Rat}(M:Inv d f g)(aa:d.dj){C:Nat->Prop}(F:∃i,C i)(I:∀i,C i->i<d.n/\f i<10)(af:d.closed f C)(L:dM->Rat)(e:Nat->Rat)(he:∀k,k<d.n->C k->0<=e k)
  (gu:∀c∈d.cO,lD C c->L c<=d.q f (d.cap f g C) c+if C c.az/\c.bm=f c.az then d.w c*e c.az else 0):d.fx C (d.e1 L)<d.fx C λi=>d.br i (f i)+e i:=by
 have ca:=M.cO C F I af;have fN:∀i,C i->i<d.n:=λi h=>(I i h).1;have c7:=aa.HG C f (λk Q=>M.rO (I k Q).1 (I k Q).2) e;rw[Day.LS fN] at ca ⊢;rw[Day.avH]
 have ey:b5 d.cO (λc=>if lD C c then L c else 0)<=b5 d.cO λc=>(if lD C c then d.q f (d.cap f g C) c else 0)+(if C c.az/\c.bm=f c.az then d.w c*e c.az else 0):=by
  refine Et λc G=>?_
  have al:0<=if C c.az/\c.bm=f c.az then d.w c*e c.az else 0:=by
   split
   ·exact ui (aa.pq G) (he _ (aa.az c G) (by rename_i h;exact h.1))
   ·exact gd
  by_cases cw:lD C c
  ·rw[ad cw,ad cw];exact gu c G cw
  ·rw[ae cw,ae cw];grind
 rw[LM,c7] at ey;have j2:d.fx C e=bE d.n λk=>if C k then e k else 0:=rfl;rw[<-j2] at ey;grind
structure iu (d:Day) (f:Nat->Nat) (g:Nat->Rat) (P:Nat->Prop) (h:Nat->Rat):Prop where
 gC:∀i,P i->i<d.n/\f i<10
 Qo:∀C:Nat->Prop,(∃i,C i)->(∀i,C i->P i)->¬ d.closed f C
 sys:∀i,i<d.n->h i=d.e1 (d.l f P h) i
 le:∀i,i<d.n->h i<=g i
 ge:∀i,P i->d.br i (f i)<h i
theorem C9 {d:Day}{f:Nat->Nat}{g:Nat->Rat}(M:Inv d f g)(aa:d.dj){P:Nat->Prop}(gr:∀i,P i->i<d.n/\f i<10)(bJ:∀C:Nat->Prop,(∃i,C i)->(∀i,C i->P i)->¬ d.closed f C)(x:Nat->Rat)
  (O:∀i,i<d.n->(b5 d.cO λc=>if c.to=(i:Int) then (if c.bm=f c.az/\P c.az then d.w c*x c.az else 0) else 0)<=x i):∀i,i<d.n->0<=x i:=by
 have key:∀i,P i->0<=x i:=by
  intro i0 pM;apply kn;intro kE;obtain⟨C,uj⟩:∃C:Nat->Prop,∀i,C i↔P i/\x i<0:=⟨λi=>P i/\x i<0,λ_=>Iff.rfl⟩;have fN:∀i,C i->i<d.n:=λi h=>(gr i ((uj i).1 h).1).1;refine bJ C ⟨i0,(uj i0).2 ⟨pM,by grind⟩⟩ (λi h=>((uj i).1 h).1) ?_
  have aA:=YO C fN d.cO λc=>if c.bm=f c.az/\P c.az then d.w c*x c.az else 0;have aC:=aa.HG C f (λk Q=>M.rO (gr k ((uj k).1 Q).1).1 (gr k ((uj k).1 Q).1).2) x
  have bZ:bE d.n (λi=>if C i then b5 d.cO (λc=>if c.to=(i:Int) then (if c.bm=f c.az/\P c.az then d.w c*x c.az else 0) else 0) else 0)<=bE d.n (λk=>if C k then x k else 0):=by
   refine LO λk Q=>?_
   by_cases G:C k
   ·rw[ad G,ad G];exact O k Q
   ·rw[ae G,ae G];exact gd
  rw[aA,<-aC] at bZ;have dq:=Qj (l:=d.cO) (aO:=λc=>(if lD C c then (if c.bm=f c.az/\P c.az then d.w c*x c.az else 0) else 0)-(if C c.az/\c.bm=f c.az then d.w c*x c.az else 0)) (λc G=>?_) (by rw[As];grind)
  ·intro c G gJ hk p4;apply kn;intro cw;have:=dq c G
   try dsimp only at this
   rw[ae cw,ad ⟨gJ,hk⟩] at this;have F:=aa.HF G p4;have I:=((uj _).1 gJ).2;have af:0<d.w c*(-x c.az):=LR F (by grind);grind
  ·try dsimp only
   have F:=aa.pq G
   have fU:((if C c.az/\c.bm=f c.az then d.w c*x c.az else 0)=(if c.bm=f c.az/\P c.az then d.w c*x c.az else 0)/\(if C c.az/\c.bm=f c.az then d.w c*x c.az else 0)<=0)\/((if C c.az/\c.bm=f c.az then d.w c*x c.az else 0)=0/\0<=(if c.bm=f c.az/\P c.az then d.w c*x c.az else 0)):=by
    by_cases gJ:C c.az/\c.bm=f c.az
    ·left
     have I:=(uj _).1 gJ.1;have af:0<=d.w c*(-x c.az):=ui F (by have:=I.2;grind);have aM:c.bm=f c.az/\P c.az:=⟨gJ.2,I.1⟩;rw[ad gJ,ad aM];exact⟨rfl,by grind⟩
    ·right
     rw[ae gJ];refine⟨rfl,?_⟩
     split
     ·rename_i I;refine ui F ?_;apply kn;intro h;exact gJ ⟨(uj _).2 ⟨I.2,by grind⟩,I.1⟩
     ·exact gd
   generalize (if C c.az/\c.bm=f c.az then d.w c*x c.az else 0)=B at *;generalize (if c.bm=f c.az/\P c.az then d.w c*x c.az else 0)=A at *;rcases fU with ⟨I,af⟩|⟨I,af⟩<;>split<;>grind
 intro i cw;refine vI ?_ (O i cw);refine xj λc G=>?_
 split
 ·split
  ·rename_i h;exact ui (aa.pq G) (key _ h.2)
  ·exact gd
 ·exact gd
theorem Day.avL (d:Day)(f:Nat->Nat)(P:Nat->Prop)(h ct:Nat->Rat)(c:dM):d.l f P ct c-d.l f P h c=if c.bm=f c.az/\P c.az then d.w c*(ct c.az-h c.az) else 0:=by
 unfold Day.l
 by_cases F:c.bm<f c.az
 ·rw[ad F,ad F,ae (by omega)];grind
 ·rw[ae F,ae F]
  split<;>grind
theorem avM {d:Day}{f:Nat->Nat}{g:Nat->Rat}(M:Inv d f g)(aa:d.dj){P:Nat->Prop}(gr:∀i,P i->i<d.n/\f i<10)(bJ:∀C:Nat->Prop,(∃i,C i)->(∀i,C i->P i)->¬ d.closed f C){h ct:Nat->Rat}
  (e:∀i,i<d.n->h i=d.e1 (d.l f P h) i) (e':∀i,i<d.n->ct i=d.e1 (d.l f P ct) i):∀i,i<d.n->h i=ct i:=by
 have main:∀h ct:Nat->Rat,(∀i,i<d.n->h i=d.e1 (d.l f P h) i)->(∀i,i<d.n->ct i=d.e1 (d.l f P ct) i)->∀i,i<d.n->0<=ct i-h i:=by
  intro h ct e e';refine C9 M aa gr bJ (λi=>ct i-h i) λi cw=>?_;rw[e i cw,e' i cw,d.Qn];refine Cs (po λc G=>?_);rw[d.avL]
 intro i cw;have F:=main h ct e e' i cw;have I:=main ct h e' e i cw;grind
theorem avN {d:Day}{f:Nat->Nat}{g:Nat->Rat}(M:Inv d f g)(aa:d.dj){P:Nat->Prop}(gr:∀i,P i->i<d.n/\f i<10)(bJ:∀C:Nat->Prop,(∃i,C i)->(∀i,C i->P i)->¬ d.closed f C)(x:Nat->Rat)
  (O:∀i,i<d.n->x i=b5 d.cO λc=>if c.to=(i:Int) then (if c.bm=f c.az/\P c.az then d.w c*x c.az else 0) else 0):∀i,i<d.n->x i=0:=by
 intro i cw;have F:=C9 M aa gr bJ x (λi cw=>Cs (O i cw).symm) i cw;have I:=C9 M aa gr bJ (λi => -x i) (λi cw=>?_) i cw
 ·grind
 ·rw[O i cw];refine Cs ?_;have:∀aO:dM->Rat,-(b5 d.cO aO)=b5 d.cO λc=>(-1)*aO c:=λaO=>by rw[Qi];grind
  rw[this];refine po λc G=>?_
  split
  ·split<;>grind
  ·grind
theorem Day.avO {d:Day}(aa:d.dj){f:Nat->Nat}{P:Nat->Prop}{h g:Nat->Rat}(hle:∀i,i<d.n->h i<=g i){c:dM}(G:c∈d.cO):d.l f P h c<=d.q f g c:=by
 unfold Day.l Day.q
 by_cases F:c.bm<f c.az
 ·rw[ad F,ad F];exact gd
 ·rw[ae F,ae F]
  by_cases I:c.bm=f c.az
  ·rw[ad I];have hw:=aa.pq G
   by_cases af:P c.az
   ·rw[ad ⟨I,af⟩];refine Av hw (vI ?_ (Ql _));have:=hle _ (aa.az c G);grind
   ·rw[ae λh=>af h.2];exact ui hw (HH _)
  ·rw[ae λh=>I h.1,ae I];exact gd
theorem iu.start {d:Day}(aa:d.dj){f:Nat->Nat}{g:Nat->Rat}(M:Inv d f g){h:Nat->Rat}(U:∀i,i<d.n->h i=d.e1 (d.l f (λ_=>False) h) i):iu d f g (λ_=>False) h :=
 ⟨λi h=>h.elim,λC ⟨i,h⟩ ct=>(ct i h).elim,U,λi cw=>by
  rw[U i cw];refine vI (d.Eu (b:=d.q f g) (λc G=>?_) i) (M.sup i cw);unfold Day.l Day.q
  by_cases F:c.bm<f c.az
  ·rw[ad F,ad F];exact gd
  ·rw[ae F,ae F,ae λh=>h.2]
   split
   ·exact ui (aa.pq G) (HH _)
   ·exact gd,λi h=>h.elim⟩
def sV (d:Day)(f:Nat->Nat)(P:Nat->Prop)(h:Nat->Rat)(i:Nat):Prop:=P i\/(i<d.n/\f i<10/\d.br i (f i)<h i)
theorem iu.HJ {d:Day}{f:Nat->Nat}{g:Nat->Rat}{P:Nat->Prop}{h:Nat->Rat}(aE:iu d f g P h):∀i,sV d f P h i->i<d.n/\f i<10:=λi aK=>aK.elim (aE.gC i) λh=>⟨h.1,h.2.1⟩
theorem iu.YS {d:Day}{f:Nat->Nat}{g:Nat->Rat}{P:Nat->Prop}{h:Nat->Rat}(aE:iu d f g P h):∀i,sV d f P h i->d.br i (f i)<h i:=λi aK=>aK.elim (aE.ge i) λh=>h.2.2
theorem iu.ahv {d:Day}(aa:d.dj){f:Nat->Nat}{g:Nat->Rat}(M:Inv d f g){P:Nat->Prop}{h:Nat->Rat}(aE:iu d f g P h):∀C:Nat->Prop,(∃i,C i)->(∀i,C i->sV d f P h i)->¬ d.closed f C:=by
 intro C F I af;have aF:∀i,C i->i<d.n/\f i<10:=λi G=>aE.HJ i (I i G)
 have kA:=M.YR aa F aF af (d.l f P h) (λk=>if P k then h k-d.br k (f k) else 0) (λk _ Q=>by
  try dsimp only
  split
  ·have:=aE.ge k (by assumption);grind
  ·exact gd) λc G _=>by
   by_cases ey:C c.az
   ·rw[HI ey]
    by_cases ca:c.bm<f c.az
    ·rw[Day.aht ca,ad ca,ae (λh=>by have:=h.2;omega)];grind
    ·rw[ae ca]
     by_cases c7:c.bm=f c.az
     ·have pr:C c.az/\c.bm=f c.az:=⟨ey,c7⟩;rw[ad pr]
      by_cases j2:P c.az
      ·rw[Day.ahu c7 j2,ad j2,c7];grind
      ·rw[Day.YQ ca (λh=>j2 h.2),ae j2];grind
     ·rw[Day.YQ ca (λh=>c7 h.1),ae λh=>c7 h.2];grind
   ·rw[LU ey,ae λh=>ey h.1];have:=Day.avO aa (P:=P) (f:=f) aE.le G;grind
 have e:d.fx C (d.e1 (d.l f P h))=d.fx C h:=Day.Aw λi cw _=>(aE.sys i cw).symm;rw[e] at kA
 have:d.fx C (λi=>d.br i (f i)+if P i then h i-d.br i (f i) else 0)<=d.fx C h:=by
  refine Day.ahs λi cw G=>?_;have:=aE.YS i (I i G)
  split<;>grind
 grind
theorem iu.next {d:Day}(aa:d.dj){f:Nat->Nat}{g:Nat->Rat}(M:Inv d f g){P:Nat->Prop}{h ct:Nat->Rat}(aE:iu d f g P h)(U:∀i,i<d.n->ct i=d.e1 (d.l f (sV d f P h) ct) i):iu d f g (sV d f P h) ct:=by
 have bJ:=aE.ahv aa M
 have sC:∀i,i<d.n->0<=ct i-h i:=by
  refine C9 M aa aE.HJ bJ (λi=>ct i-h i) λi cw=>?_;rw[U i cw,aE.sys i cw,d.Qn];refine Et λc G=>?_;have hw:=aa.pq G
  split
  ·unfold Day.l
   by_cases F:c.bm<f c.az
   ·rw[ad F,ad F,ae (by omega)];grind
   ·rw[ae F,ae F]
    by_cases I:c.bm=f c.az
    ·by_cases af:sV d f P h c.az
     ·rw[ad ⟨I,af⟩,ad ⟨I,af⟩]
      by_cases aM:P c.az
      ·rw[ad ⟨I,aM⟩];grind
      ·rw[ae λh=>aM h.2];have bk:=aE.YS _ af;have:=ui hw (show 0<=h c.az-d.br c.az c.bm by rw[I];grind);grind
     ·rw[ae λh=>af h.2,ae λh=>af h.2,ae λh=>af (.inl h.2)];grind
    ·rw[ae λh=>I h.1,ae λh=>I h.1,ae λh=>I h.1];grind
  ·exact gd
 have hle:∀i,i<d.n->0<=g i-ct i:=by
  refine C9 M aa aE.HJ bJ (λi=>g i-ct i) λi cw=>?_;refine vI ?_ (show d.e1 (d.q f g) i-ct i<=g i-ct i by have:=M.sup i cw;grind);rw[U i cw,d.Qn];refine Et λc G=>?_;have hw:=aa.pq G
  split
  ·unfold Day.l Day.q
   by_cases F:c.bm<f c.az
   ·rw[ad F,ad F,ae (by omega)];grind
   ·rw[ae F,ae F]
    by_cases I:c.bm=f c.az
    ·rw[ad I]
     by_cases af:sV d f P h c.az
     ·rw[ad ⟨I,af⟩,ad ⟨I,af⟩];have:=Av hw (Ql (g c.az-d.br c.az c.bm));grind
     ·rw[ae λh=>af h.2,ae λh=>af h.2];have:=ui hw (HH (g c.az-d.br c.az c.bm));grind
    ·rw[ae λh=>I h.1,ae I,ae λh=>I h.1];grind
  ·exact gd
 exact⟨aE.HJ,bJ,U,λi cw=>by have:=hle i cw;grind,λi aK=>by
  have F:=aE.YS i aK;have I:=sC i (aE.HJ i aK).1;grind⟩
theorem iu.stop {d:Day}(aa:d.dj){f:Nat->Nat}{g:Nat->Rat}{P:Nat->Prop}{h:Nat->Rat}(aE:iu d f g P h)(M:Inv d f g)(avP:∀i,i<d.n->f i<10->d.br i (f i)<h i->P i):∀i,i<d.n->h i=d.e1 (d.q f h) i:=by
 intro i cw;rw[aE.sys i cw];refine d.ahq (λc G=>?_) i;unfold Day.l Day.q
 by_cases F:c.bm<f c.az
 ·rw[ad F,ad F]
 ·rw[ae F,ae F]
  by_cases I:c.bm=f c.az
  ·rw[ad I]
   by_cases af:P c.az
   ·rw[ad ⟨I,af⟩,p3];have:=aE.ge _ af;rw[I];grind
   ·rw[ae λh=>af h.2,sU]
    ·grind
    ·apply kn;intro aK;refine af (avP _ (aa.az c G) (by rw[<-I];exact aa.bm c G) ?_);rw[<-I];grind
  ·rw[ae λh=>I h.1,ae I]
end Go.Mini
namespace Go.Mini
open Classical
def Day.ez (d:Day)(h:Nat->Rat)(c:dM):Rat:=if d.br c.az (c.bm+1)<=h c.az then c.am else d.w c*pos (h c.az-d.br c.az c.bm)
theorem Day.dj.Qp {d:Day}(aa:d.dj){c:dM}(G:c∈d.cO){x:Rat}(h:x<=d.S c.az c.bm):d.w c*x<=c.am:=by
 have al:=aa.am c G;have F:=aa.Qk G
 by_cases cJ:0<d.S c.az c.bm
 ·have:=Av (aa.pq G) h;rw[Day.Au cJ] at this;exact this
 ·rw[Day.Ls (by grind),Cv];exact al
theorem Day.dj.Qq {d:Day}(aa:d.dj)(h:Nat->Rat){c:dM}(G:c∈d.cO):d.ez h c<=c.am:=by
 unfold Day.ez
 split
 ·exact gd
 ·rename_i aK;refine aa.Qp G ?_;rw[d.p2] at aK;have:=aa.HD c.az c.bm;unfold pos
  split<;>grind
theorem Day.dj.YT {d:Day}(aa:d.dj)(h:Nat->Rat){c:dM}(G:c∈d.cO):0<=d.ez h c:=by
 unfold Day.ez
 split
 ·exact aa.am c G
 ·exact ui (aa.pq G) (HH _)
theorem Day.dj.avQ {d:Day}(aa:d.dj){h ct:Nat->Rat}{c:dM}(G:c∈d.cO)(hle:h c.az<=ct c.az):d.ez h c<=d.ez ct c:=by
 by_cases F:d.br c.az (c.bm+1)<=ct c.az
 ·have:=aa.Qq h G;unfold Day.ez at this ⊢;rw[ad F];exact this
 ·unfold Day.ez;rw[ae F,ae (by grind)];exact Av (aa.pq G) (Qm (by grind))
theorem Day.dj.Qr {d:Day}(aa:d.dj)(f:Nat->Nat)(h:Nat->Rat){c:dM}(G:c∈d.cO):0<=d.q f h c:=by
 unfold Day.q
 split
 ·exact aa.am c G
 ·split
  ·exact ui (aa.pq G) (HH _)
  ·exact gd
theorem Day.dj.YU {d:Day}(aa:d.dj){a:dM->Rat}(h:∀c∈d.cO,0<=a c){i:Nat}(M:i<d.n):0<=d.e1 a i:=by
 unfold Day.e1;have F:=aa.E i M
 have:=xj (l:=d.cO) (aO:=λc=>if c.to=(i:Int) then a c else 0) λc G=>by
  try dsimp only
  split
  ·exact h c G
  ·exact gd
 grind
theorem Day.dj.ahw {d:Day}(aa:d.dj){f:Nat->Nat}{h g:Nat->Rat}{c:dM}(G:c∈d.cO)(hle:h c.az<=g c.az):d.q f h c<=d.q f g c:=by
 unfold Day.q
 split
 ·exact gd
 ·split
  ·exact Av (aa.pq G) (Qm (by grind))
  ·exact gd
def YV (d:Day)(f:Nat->Nat)(h:Nat->Rat)(g4:Nat->Nat):Prop:=(∀i,g4 i<=10)/\(∀i,i<d.n->h i<d.br i (f i)->g4 i<f i/\d.br i (g4 i)<=h i/\h i<d.br i (g4 i+1))/\∀i,i<d.n->d.br i (f i)<=h i->g4 i=f i
theorem YW {d:Day}(aa:d.dj){f g4:Nat->Nat}{h:Nat->Rat}(aF:YV d f h g4){c:dM}(G:c∈d.cO):d.q g4 h c<=d.q f h c:=by
 obtain⟨-,F,I⟩:=aF;have bQ:=aa.az c G
 by_cases e5:h c.az<d.br c.az (f c.az)
 ·obtain⟨ca,c7,ey⟩:=F _ bQ e5;unfold Day.q
  by_cases eY:c.bm<g4 c.az
  ·rw[ad eY,ad (by omega)];exact gd
  ·rw[ae eY]
   by_cases eh:c.bm=g4 c.az
   ·rw[ad eh,ad (by omega)];rw[<-eh] at c7 ey;rw[d.p2] at ey;exact aa.Qp G (by rw[p3 (by grind)];grind)
   ·rw[ae eh];exact aa.Qr f h G
 ·have:=I _ bQ (by grind);unfold Day.q;rw[this];exact gd
theorem Inv.Qs {d:Day}(aa:d.dj){f g4:Nat->Nat}{g h:Nat->Rat}(M:Inv d f g)(yI:∀i,i<d.n->h i=d.e1 (d.q f h) i)(hle:∀i,i<d.n->h i<=g i)(aF:YV d f h g4):Inv d g4 h:=by
 have fQ:∀i,i<d.n->g4 i<10->d.br i (g4 i)<=h i:=by
  intro i cw Cl
  by_cases e5:h i<d.br i (f i)
  ·exact (aF.2.1 i cw e5).2.1
  ·rw[aF.2.2 i cw (by grind)];grind
 have jb:∀i,i<d.n->g4 i<10->h i<d.br i (g4 i+1):=by
  intro i cw Cl
  by_cases e5:h i<d.br i (f i)
  ·exact (aF.2.1 i cw e5).2.2
  ·have e:=aF.2.2 i cw (by grind);rw[e] at Cl ⊢;have:=M.M i cw Cl;have:=hle i cw;grind
 have cJ:∀i,i<d.n->g4 i<10->0<d.S i (g4 i):=by
  intro i cw Cl;have F:=fQ i cw Cl;have I:=jb i cw Cl;rw[d.p2] at I;grind
 refine⟨aF.1,λi cw=>?_,fQ,jb,λC F I af=>?_⟩
 ·exact vI (d.Eu (λc G=>YW aa aF G) i) (Cs (yI i cw).symm)
 ·have fN:∀i,C i->i<d.n:=λi G=>(I i G).1
  by_cases hex:∃k,C k/\h k<d.br k (f k)
  ·obtain⟨fM,x7,e5⟩:=hex;have ahx:=fN fM x7;obtain⟨df,eD,j3⟩:=aF.2.1 fM ahx e5;have qL:=cJ fM ahx (I fM x7).2;obtain⟨lC,oK,pb⟩:=LN qL
   have avR:lC.az=fM/\lC.bm=g4 fM/\0<lC.am:=by
    by_cases aQ:lC.az=fM/\lC.bm=g4 fM
    ·rw[ad aQ] at pb;exact⟨aQ.1,aQ.2,pb⟩
    ·rw[ae aQ] at pb;exact absurd pb (by grind)
   obtain⟨cU,de,a3⟩:=avR;have aA:=Day.LS fN (d.q f h);have aC:=Day.LS fN (d.q g4 (d.cap g4 h C));have bZ:d.fx C (d.e1 (d.q f h))=d.fx C h:=Day.Aw λi cw _=>(yI i cw).symm;have dq:=aa.HG C g4 (λk Q=>cJ k (fN k Q) (I k Q).2) λk=>h k-d.br k (g4 k);have cL:d.fx C (λk=>h k-d.br k (g4 k))=bE d.n λk=>if C k then h k-d.br k (g4 k) else 0:=rfl;rw[<-cL,d.ahr] at dq
   have bY:b5 d.cO (λc=>(if lD C c then d.q g4 (d.cap g4 h C) c else 0)+(if C c.az/\c.bm=g4 c.az then d.w c*(h c.az-d.br c.az (g4 c.az)) else 0))<b5 d.cO (λc=>if lD C c then d.q f h c else 0):=by
    refine avF (λc G=>?_) oK ?_
    ·have bQ:=aa.az c G
     by_cases cw:lD C c
     ·rw[ad cw,ad cw]
      by_cases gJ:C c.az
      ·rw[HI gJ]
       by_cases eY:c.bm<g4 c.az
       ·rw[ad eY,ae (by omega)]
        have:c.bm<f c.az:=by
         by_cases e5:h c.az<d.br c.az (f c.az)
         ·have:=(aF.2.1 _ bQ e5).1;omega
         ·rw[<-aF.2.2 _ bQ (by grind)];exact eY
        unfold Day.q;rw[ad this];grind
       ·rw[ae eY]
        by_cases eh:c.bm=g4 c.az
        ·rw[ad ⟨gJ,eh⟩]
         by_cases e5:h c.az<d.br c.az (f c.az)
         ·obtain⟨ca,c7,ey⟩:=aF.2.1 _ bQ e5;unfold Day.q;rw[ad (by omega)];rw[d.p2] at ey;have:=aa.Qp G (x:=h c.az-d.br c.az (g4 c.az)) (by rw[eh];grind);grind
         ·have e:=aF.2.2 _ bQ (by grind);rw[e] at eY eh ⊢;unfold Day.q;rw[ae eY,ad eh,<-eh];have:=Av (aa.pq G) (Ql (h c.az-d.br c.az c.bm));grind
        ·rw[ae λh=>eh h.2];have:=aa.Qr f h G;grind
      ·rw[LU gJ,ae λh=>gJ h.1];have:=YW aa aF G;grind
     ·rw[ae cw,ae cw]
      by_cases gJ:C c.az/\c.bm=g4 c.az
      ·rw[ad gJ]
       have:c.am=0:=by
        have al:=aa.am c G
        by_cases aE:0<c.am
        ·exact absurd (af c G gJ.1 gJ.2 aE) cw
        ·grind
       rw[Day.Ls this];grind
      ·rw[ae gJ];grind
    ·have gJ:C lC.az:=by rw[cU];exact x7
     have hk:lC.bm=g4 lC.az:=by rw[cU];exact de
     have cw:=af lC oK gJ hk a3;rw[ad cw,ad cw,HI gJ,ae (by omega),ad ⟨gJ,hk⟩];unfold Day.q;rw[ad (by rw[cU];omega)];have hw:=aa.HF oK a3;have OP:=d.Au (c:=lC) (by rw[cU,de];exact qL);rw[d.p2] at j3;rw[<-cU,<-hk] at j3;rw[<-hk];have:0<d.w lC*(d.S lC.az lC.bm-(h lC.az-d.br lC.az lC.bm)):=LR hw (by rw[cU] at j3 ⊢;grind);grind
   rw[LM,dq] at bY;grind
  ·have xT:∀k,C k->g4 k=f k:=λk Q=>aF.2.2 k (fN k Q) (by
    apply kn;intro aK;exact hex ⟨k,Q,by grind⟩)
   have ca:=M.cO C F (λi G=>⟨fN i G,by rw[<-xT i G];exact (I i G).2⟩) (λc G gJ hk p4=>af c G gJ (by rw[xT _ gJ];exact hk) p4);have c7:d.fx C (λi=>d.br i (g4 i))=d.fx C λi=>d.br i (f i):=Day.Aw λi _ G=>by rw[xT i G]
   rw[c7]
   have ey:d.fx C (d.e1 (d.q g4 (d.cap g4 h C)))<=d.fx C (d.e1 (d.q f (d.cap f g C))):=by
    refine Day.ahs λi _ _=>d.Eu (λc G=>?_) i
    by_cases gJ:C c.az
    ·rw[HI gJ,HI gJ,xT _ gJ];exact gd
    ·rw[LU gJ,LU gJ];exact vI (YW aa aF G) (aa.ahw G (hle _ (aa.az c G)))
   grind
def Day.p5 (d:Day)(h:Nat->Rat)(i:Nat):Rat:=d.e1 (d.ez h) i
theorem avS {d:Day}(aa:d.dj){f:Nat->Nat}{g z:Nat->Rat}(M:Inv d f g)(aS:∀i,i<d.n->z i<=g i){c:dM}(G:c∈d.cO):d.ez z c<=d.q f z c:=by
 have bQ:=aa.az c G;have hk:=aa.bm c G;unfold Day.q
 by_cases eY:c.bm<f c.az
 ·rw[ad eY];exact aa.Qq z G
 ·rw[ae eY];have gp:f c.az<10:=by omega
  have F:=M.M _ bQ gp;have I:=aS _ bQ
  by_cases eh:c.bm=f c.az
  ·rw[ad eh];unfold Day.ez;rw[ae (by rw[eh];grind)];exact gd
  ·rw[ae eh];have af:=aa.uh c.az (r:=f c.az+1) (s:=c.bm) (by omega);have aM:=aa.uh c.az (r:=c.bm) (s:=c.bm+1) (by omega);unfold Day.ez;rw[ae (by grind),sU (by grind),nu];exact gd
theorem Inv.YX {d:Day}(aa:d.dj){f:Nat->Nat}{g h z:Nat->Rat}(M:Inv d f g)(yI:∀i,i<d.n->h i=d.e1 (d.q f h) i)(hle:∀i,i<d.n->h i<=g i)(aS:∀i,i<d.n->z i<=d.e1 (d.q f z) i):∀i,i<d.n->z i<=h i:=by
 intro i0 pM;apply kn;intro kE;obtain⟨C,uj⟩:∃C:Nat->Prop,∀i,C i↔i<d.n/\h i<z i:=⟨λi=>i<d.n/\h i<z i,λ_=>Iff.rfl⟩;obtain⟨HK,Ax⟩:∃avT:Nat->Prop,∀i,avT i↔C i/\f i<10:=⟨λi=>C i/\f i<10,λ_=>Iff.rfl⟩;have fN:∀i,C i->i<d.n:=λi h=>((uj i).1 h).1;have xk:∀i,C i->h i<z i:=λi h=>((uj i).1 h).2;have bC:∃i,C i:=⟨i0,(uj i0).2 ⟨pM,by grind⟩⟩
 have aA:=YO C fN d.cO λc=>d.q f z c-d.q f h c;have aC:=aa.HG HK f (λk Q=>M.rO (fN k ((Ax k).1 Q).1) ((Ax k).1 Q).2) λk=>z k-h k
 have bZ:d.fx C (λi=>z i-h i)<=bE d.n λi=>if C i then b5 d.cO (λc=>if c.to=(i:Int) then d.q f z c-d.q f h c else 0) else 0:=by
  refine LO λk Q=>?_
  by_cases G:C k
  ·rw[ad G,ad G,<-d.Qn,<-yI k Q];have F:=aS k Q;grind
  ·rw[ae G,ae G];exact gd
 rw[aA] at bZ
 have dq:bE d.n (λk=>if HK k then z k-h k else 0)<=d.fx C (λi=>z i-h i):=by
  refine LO λk Q=>?_
  by_cases G:C k
  ·rw[ad G];have:=xk k G
   split<;>grind
  ·rw[ae G,ae λh=>G ((Ax k).1 h).1];exact gd
 have ahy:∀c∈d.cO,0<=(if HK c.az/\c.bm=f c.az then d.w c*(z c.az-h c.az) else 0)-(if lD C c then d.q f z c-d.q f h c else 0):=by
  intro c G;have hw:=aa.pq G;have bQ:=aa.az c G;have hk:=aa.bm c G
  by_cases F:HK c.az/\c.bm=f c.az
  ·rw[ad F];have I:0<=d.w c*(z c.az-h c.az):=ui hw (by have:=xk _ ((Ax _).1 F.1).1;grind)
   have af:d.q f z c-d.q f h c<=d.w c*(z c.az-h c.az):=by
    unfold Day.q;rw[ae (by omega),ad F.2,ae (by omega),ad F.2]
    have aM:pos (z c.az-d.br c.az c.bm)-pos (h c.az-d.br c.az c.bm)<=z c.az-h c.az:=by
     have:=xk _ ((Ax _).1 F.1).1;unfold pos
     split<;>split<;>grind
    have:=Av hw aM;grind
   split<;>grind
  ·rw[ae F]
   have af:d.q f z c-d.q f h c<=0:=by
    unfold Day.q
    by_cases eY:c.bm<f c.az
    ·rw[ad eY,ad eY];grind
    ·rw[ae eY,ae eY]
     by_cases eh:c.bm=f c.az
     ·rw[ad eh,ad eh]
      have aM:z c.az<=h c.az:=by
       apply kn;intro aK;exact F ⟨(Ax _).2 ⟨(uj _).2 ⟨bQ,by grind⟩,by omega⟩,eh⟩
      have:=Av hw (Qm (show z c.az-d.br c.az c.bm<=h c.az-d.br c.az c.bm by grind));grind
     ·rw[ae eh,ae eh];grind
   split<;>grind
 have avU:=Qj ahy (by rw[As,aC];grind)
 have YY:∀k,C k->f k<10:=by
  have:bE d.n (λk=>(if C k then z k-h k else 0)-(if HK k then z k-h k else 0))<=0:=by
   rw[Cu];have:0<=b5 d.cO λc=>(if HK c.az/\c.bm=f c.az then d.w c*(z c.az-h c.az) else 0)-(if lD C c then d.q f z c-d.q f h c else 0):=xj ahy;rw[As,aC] at this;have bk:d.fx C (λi=>z i-h i)=bE d.n λk=>if C k then z k-h k else 0:=rfl;grind
  have aK:=ahn (λk Q=>by
   try dsimp only
   by_cases G:C k
   ·rw[ad G];have:=xk k G
    split<;>grind
   ·rw[ae G,ae λh=>G ((Ax k).1 h).1];grind) this
  intro k Q;apply kn;intro gp;have:=aK k (fN k Q)
  try dsimp only at this
  rw[ad Q,ae λh=>gp ((Ax k).1 h).2] at this;have:=xk k Q;grind
 have cw:∀c∈d.cO,C c.az->c.bm=f c.az->0<c.am->lD C c/\d.br c.az c.bm<=h c.az:=by
  intro c G gJ hk p4;have al:=avU c G;have hw:=aa.HF G p4;have ay:=xk _ gJ
  try dsimp only at al
  rw[ad ⟨(Ax _).2 ⟨gJ,YY _ gJ⟩,hk⟩] at al
  by_cases cw:lD C c
  ·refine⟨cw,?_⟩;rw[ad cw] at al;unfold Day.q at al;rw[ae (by omega),ad hk,ae (by omega),ad hk] at al;apply kn;intro aK;rw[sU (x:=h c.az-d.br c.az c.bm) (by grind)] at al
   have aM:0<z c.az-h c.az-pos (z c.az-d.br c.az c.bm):=by
    unfold pos
    split<;>grind
   have:=LR hw aM;grind
  ·rw[ae cw] at al;have:0<d.w c*(z c.az-h c.az):=LR hw (by grind);grind
 have mG:∀k,C k->d.br k (f k)<=h k:=by
  intro k Q;have U:=M.rO (fN k Q) (YY k Q);obtain⟨lC,oK,pb⟩:=LN U
  by_cases aQ:lC.az=k/\lC.bm=f k
  ·rw[ad aQ] at pb;have:=(cw lC oK (by rw[aQ.1];exact Q) (by rw[aQ.1];exact aQ.2) pb).2;rwa [aQ.1,aQ.2] at this
  ·rw[ae aQ] at pb;exact absurd pb (by grind)
 have kA:=M.YR aa bC (λi G=>⟨fN i G,YY i G⟩) (λc G gJ hk p4=>(cw c G gJ hk p4).1) (d.q f h) (λk=>h k-d.br k (f k)) (λk _ Q=>by have:=mG k Q;grind) λc G _=>by
  by_cases gJ:C c.az
  ·rw[HI gJ];unfold Day.q
   by_cases eY:c.bm<f c.az
   ·rw[ad eY,ad eY,ae (by omega)];grind
   ·rw[ae eY,ae eY]
    by_cases eh:c.bm=f c.az
    ·rw[ad eh,ad ⟨gJ,eh⟩,eh,p3 (by have:=mG _ gJ;grind)];grind
    ·rw[ae eh,ae λh=>eh h.2];grind
  ·rw[LU gJ,ae λh=>gJ h.1];have:=aa.ahw (f:=f) G (hle _ (aa.az c G));grind
 have bI:d.fx C (d.e1 (d.q f h))=d.fx C h:=Day.Aw λi cw _=>(yI i cw).symm;have bH:d.fx C (λi=>d.br i (f i)+(h i-d.br i (f i)))=d.fx C h:=Day.Aw λi _ _=>by grind
 rw[bI,bH] at kA;exact absurd kA (by grind)
theorem Inv.final {d:Day}(aa:d.dj){f:Nat->Nat}{g h:Nat->Rat}(M:Inv d f g)(yI:∀i,i<d.n->h i=d.e1 (d.q f h) i)(hle:∀i,i<d.n->h i<=g i)(gg:∀i,i<d.n->d.br i (f i)<=h i):(∀i,i<d.n->h i=d.p5 h i)/\∀i,i<d.n->(f i<10↔h i<d.br i 10):=by
 constructor
 ·intro i cw;rw[yI i cw];unfold Day.p5;have:∀j,j<d.n->h j=d.e1 (d.q f h) j:=yI;refine d.ahq (λc G=>?_) i;have bQ:=aa.az c G;have hk:=aa.bm c G;have al:=gg _ bQ;unfold Day.q Day.ez
  by_cases eY:c.bm<f c.az
  ·have:=aa.uh c.az (r:=c.bm+1) (s:=f c.az) (by omega);rw[ad eY,ad (by grind)]
  ·rw[ae eY];have gp:f c.az<10:=by omega
   have F:=M.M _ bQ gp;have I:=hle _ bQ
   by_cases eh:c.bm=f c.az
   ·rw[ad eh,ae (by rw[eh];grind)]
   ·have af:=aa.uh c.az (r:=f c.az+1) (s:=c.bm) (by omega);have aM:=aa.uh c.az (r:=c.bm) (s:=c.bm+1) (by omega);rw[ae eh,ae (by grind),sU (by grind),nu]
 ·intro i cw
  constructor
  ·intro gp;have F:=M.M _ cw gp;have I:=hle _ cw;have af:=aa.uh i (r:=f i+1) (s:=10) (by omega);grind
  ·intro F;apply kn;intro I;have af:=M.le i;have aM:f i=10:=by omega
   have bk:=gg i cw;rw[aM] at bk;grind
end Go.Mini
namespace Go.Mini
open Classical
def nv (d:Day)(f:Nat->Nat)(h:Nat->Rat):Prop:=∃g,Inv d f g/\(∀i,i<d.n->h i=d.e1 (d.q f h) i)/\∀i,i<d.n->h i<=g i
theorem nv.unique {d:Day}(aa:d.dj){f:Nat->Nat}{h ct:Nat->Rat}(a:nv d f h)(b:nv d f ct):∀i,i<d.n->h i=ct i:=by
 obtain⟨g,F,I,af⟩:=a;obtain⟨c6,ca,c7,ey⟩:=b;intro i cw;have aA:=F.YX aa I af (z:=ct) (λi M=>Cs (c7 i M)) i cw;have aC:=ca.YX aa c7 ey (z:=h) (λi M=>Cs (I i M)) i cw;grind
def Day.jA (d:Day)(h:Nat->Rat)(i:Nat):Nat->Nat
 |0=>10
 |k+1=>if h i<d.br i (10-(k+1)+1) then 10-(k+1) else Day.jA d h i k
theorem YZ {d:Day}(aa:d.dj){h:Nat->Rat}{i:Nat}:∀k,k<=10->d.br i (10-k)<=h i->(d.jA h i k=10/\d.br i 10<=h i)\/(10-k<=d.jA h i k/\d.jA h i k<10/\d.br i (d.jA h i k)<=h i/\h i<d.br i (d.jA h i k+1))
 |0,_,al => .inl ⟨rfl,al⟩
 |k+1,Q,al=>by
  unfold Day.jA
  by_cases F:h i<d.br i (10-(k+1)+1)
  ·rw[ad F];exact .inr ⟨bW _,by omega,al,F⟩
  ·rw[ae F];rcases YZ aa (h:=h) (i:=i) k (by omega) (by rw[show 10-k=10-(k+1)+1 by omega];grind) with e|⟨aA,aC⟩
   ·exact .inl e
   ·exact .inr ⟨by omega,aC⟩
def Day.gC (d:Day)(f:Nat->Nat)(h:Nat->Rat)(i:Nat):Nat:=if i<d.n/\h i<d.br i (f i) then d.jA h i 10 else f i
theorem Y0 {d:Day}(aa:d.dj){f:Nat->Nat}{h:Nat->Rat}(hle:∀i,f i<=10)(al:∀i,i<d.n->0<=h i):YV d f h (d.gC f h):=by
 have key:∀i,i<d.n->h i<d.br i (f i)->d.jA h i 10<f i/\d.br i (d.jA h i 10)<=h i/\h i<d.br i (d.jA h i 10+1):=by
  intro i cw e5;have hm:=aa.uh i (hle i);rcases YZ aa (h:=h) (i:=i) 10 (bW _) (by rw[mg,d.LQ];exact al i cw) with ⟨-,e⟩|⟨-,aA,aC,bZ⟩
  ·grind
  ·refine⟨?_,aC,bZ⟩;apply kn;intro aK;have:=aa.uh i (r:=f i) (s:=d.jA h i 10) (by omega);grind
 refine⟨λi=>?_,λi cw e5=>?_,λi cw e5=>?_⟩
 ·unfold Day.gC
  split
  ·rename_i aQ;have:=(key i aQ.1 aQ.2).1;have:=hle i;omega
  ·exact hle i
 ·unfold Day.gC;rw[ad ⟨cw,e5⟩];exact key i cw e5
 ·unfold Day.gC;rw[ae λaQ=>by have:=aQ.2;grind]
theorem nv.Qs {d:Day}(aa:d.dj){f:Nat->Nat}{h:Nat->Rat}(a:nv d f h):Inv d (d.gC f h) h:=by
 obtain⟨g,F,I,af⟩:=a;exact F.Qs aa I af (Y0 aa F.le λi cw=>by rw[I i cw];exact aa.YU (λc G=>aa.Qr f h G) cw)
theorem nv.Qt {d:Day}(aa:d.dj){f:Nat->Nat}{h:Nat->Rat}(a:nv d f h){i:Nat}(cw:i<d.n):0<=h i:=by
 obtain⟨g,F,I,af⟩:=a;rw[I i cw];exact aa.YU (λc G=>aa.Qr f h G) cw
def Day.top (d:Day)(f:Nat->Nat):Nat->Rat:=if h:∃x,nv d f x then tB h else λ_=>0
def Day.h3 (d:Day)(f:Nat->Nat):List Nat:=(dP d.n).filter λi=>decide (d.top f i<d.br i (f i))
def Day.rounds (d:Day):Nat->(Nat->Nat)->List (List Nat)×(Nat->Nat)
 |0,f=>([],f)
 |k+1,f=>if d.h3 f=[] then ([],f) else (d.h3 f::(Day.rounds d k (d.gC f (d.top f))).1,(Day.rounds d k (d.gC f (d.top f))).2)
def Reach (d:Day)(f:Nat->Nat):Prop:=∃g,Inv d f g/\∀z,(∀i,i<d.n->z i<=d.p5 z i)->∀i,i<d.n->z i<=g i
theorem Reach.start {d:Day}(aa:d.dj):Reach d λ_=>10:=⟨_,Inv.start aa,λz aS i cw=>vI (aS i cw) (d.Eu (λ_ G=>aa.Qq z G) i)⟩
def mJ:Nat->(Nat->Nat)->Nat
 |0,_=>0
 |n+1,f=>mJ n f+f n
theorem avV {n:Nat}{f g:Nat->Nat}(h:∀i,i<n->f i<=g i):mJ n f<=mJ n g:=by
 induction n with
 |zero=>exact bW _
 |succ n ax =>
  have:=ax λi M=>h i (by omega);have:=h n (by omega);simp only[mJ];omega
theorem Y1 {n:Nat}{f g:Nat->Nat}(h:∀i,i<n->f i<=g i){j:Nat}(aj:j<n)(ay:f j<g j):mJ n f<mJ n g:=by
 induction n with
 |zero=>omega
 |succ n ax =>
  have F:=h n (by omega);simp only[mJ]
  by_cases avW:j=n
  ·subst avW;have:=avV (n:=j) (f:=f) (g:=g) λi M=>h i (by omega);omega
  ·have:=ax (λi M=>h i (by omega)) (by omega);omega
theorem Day.Cw {d:Day}{f:Nat->Nat}(h:∃x,nv d f x):nv d f (d.top f):=by
 unfold Day.top;rw[dif_pos h];exact o7 h
theorem Day.LV {d:Day}{f:Nat->Nat}{i:Nat}:i∈d.h3 f↔i<d.n/\d.top f i<d.br i (f i):=by
 unfold Day.h3;rw[rP,gV,decide_eq_true_eq]
section
variable {d:Day} (aa:d.dj) (hex:∀f,Reach d f->∃h,nv d f h)
include aa hex
theorem ahz {f:Nat->Nat}(ab:Reach d f){z:Nat->Rat}(aS:∀i,i<d.n->z i<=d.p5 z i):∀i,i<d.n->z i<=d.top f i:=by
 obtain⟨g,F,I,af⟩:=Day.Cw (hex f ab);obtain⟨c6,ca,c7⟩:=ab;have bD:nv d f (d.top f):=⟨g,F,I,af⟩
 -- the end of the round below c6
 intro i cw;have De:=λk Q=>vI (aS k Q) (d.Eu (λ_ G=>avS aa ca (c7 z aS) G) k);exact F.YX aa I af De i cw
theorem Reach.next {f:Nat->Nat}(ab:Reach d f):Reach d (d.gC f (d.top f)):=⟨d.top f,(Day.Cw (hex f ab)).Qs aa,λz aS=>ahz aa hex ab aS⟩
theorem Y2 {f:Nat->Nat}(ab:Reach d f)(bC:d.h3 f≠[]):mJ d.n (d.gC f (d.top f))<mJ d.n f:=by
 obtain⟨i,M⟩:=List.exists_mem_of_ne_nil _ bC;obtain⟨F,I⟩:=Day.LV.1 M;have bD:=Day.Cw (hex f ab);obtain⟨g,ca,-⟩:=bD;have aF:=Y0 aa ca.le (h:=d.top f) λi cw=>(Day.Cw (hex f ab)).Qt aa cw;refine Y1 (λj aj=>?_) F (aF.2.1 i F I).1
 by_cases e5:d.top f j<d.br j (f j)
 ·have:=(aF.2.1 j aj e5).1;omega
 ·rw[aF.2.2 j aj (by grind)];exact bW _
theorem ahA:∀k (f:Nat->Nat),Reach d f->mJ d.n f<=k->Reach d (d.rounds k f).2/\d.h3 (d.rounds k f).2=[]
 |0,f,ab,Q=>by
  refine⟨ab,?_⟩;apply kn;intro bC;have:=Y2 aa hex ab bC;omega
 |k+1,f,ab,Q=>by
  unfold Day.rounds
  by_cases bC:d.h3 f=[]
  ·rw[ad bC];exact⟨ab,bC⟩
  ·rw[ae bC];have:=Y2 aa hex ab bC;exact ahA k _ (ab.next aa hex) (by omega)
end
theorem Day.avX (d:Day){f:Nat->Nat}(h:d.h3 f=[]):∀k,d.rounds k f=([],f)
 |0=>rfl
 |k+1=>by unfold Day.rounds;rw[ad h]
end Go.Mini
namespace Go.Mini
abbrev ao:=Int×Int×Int×Int
def hI (n:Int)(c:ao):Bool:=decide (0<=c.1)&&decide (c.1<n)&&decide (-1<=c.2.1)&&decide (c.2.1<n)&&decide (0<=c.2.2.1)&&decide (c.2.2.1<10)&&decide (0<=c.2.2.2)&&decide (c.2.2.2<=1000000000000000)
def iF (E:List Int)(cs:List ao):Bool:=decide (D E<=60)&&decide (D cs<=2000)&&E.all (λx=>decide (0<=x)&&decide (x<=1000000000000000))&&cs.all (hI (D E))
def cv (c:ao):dM:=⟨c.1.toNat,c.2.1,c.2.2.1.toNat,(c.2.2.2:Rat)⟩
def aB (E:List Int)(cs:List ao):Day:=⟨D E,λi=>((E.getD i 0:Int):Rat),cs.map cv⟩
theorem hy {E:List Int}{cs:List ao}:iF E cs=true↔(D E)<=60/\D cs<=2000/\(∀x∈E,0<=x/\x<=1000000000000000)/\∀c∈cs,0<=c.1/\c.1<(D E) /\ -1<=c.2.1/\c.2.1<D E/\0<=c.2.2.1/\c.2.2.1<10/\0<=c.2.2.2/\c.2.2.2<=1000000000000000:=by
 unfold iF hI;simp only[ec,decide_eq_true_eq,List.all_eq_true,and_assoc]
theorem ahB {E:List Int}{cs:List ao}(h:iF E cs=true):(aB E cs).dj:=by
 obtain⟨-,-,af,aM⟩:=hy.1 h
 have G:∀x∈(aB E cs).cO,∃c∈cs,x=cv c:=λx O=>by
  obtain⟨c,G,rfl⟩:=dS.1 O;exact⟨c,G,rfl⟩
 refine⟨λx O=>?_,λx O=>?_,λx O=>?_,λx O=>?_,λi M=>?_⟩
 ·obtain⟨c,G,rfl⟩:=G x O;have:=aM c G;show c.1.toNat<D E;omega
 ·obtain⟨c,G,rfl⟩:=G x O;have:=aM c G;show c.2.1<(D E:Int);omega
 ·obtain⟨c,G,rfl⟩:=G x O;have:=aM c G;show c.2.2.1.toNat<10;omega
 ·obtain⟨c,G,rfl⟩:=G x O;have:=(aM c G).2.2.2.2.2.2.1;show (0:Rat)<=(c.2.2.2:Rat);exact_mod_cast this
 ·show (0:Rat)<=((E.getD i 0:Int):Rat);have kf:i<D E:=M
  have:0<=E.getD i 0:=by
   rw[en,bx kf];exact (af _ (nc kf)).1
  exact_mod_cast this
def cP:List ao->(ao->Int)->Int
 | [],_=>0
 |c::l,aO=>aO c+cP l aO
def cS (cs:List ao)(di r:Int):Int:=cP cs λc=>if c.1=di/\c.2.2.1<r then c.2.2.2 else 0
theorem Qu (cs:List ao)(aO:ao->Int)(bM:dM->Rat)(h:∀c∈cs,((aO c:Int):Rat)=bM (cv c)):((cP cs aO:Int):Rat)=b5 (cs.map cv) bM:=by
 induction cs with
 |nil=>rfl
 |cons c l ax=>rw[cP,eE,b5,vJ,h c gn,ax λx O=>h x (gX _ O)]
theorem HL {cs:List ao}{aO bM:ao->Int}(h:∀c∈cs,aO c=bM c):cP cs aO=cP cs bM:=by
 induction cs with
 |nil=>rfl
 |cons c l ax=>rw[cP,cP,h c gn,ax λx O=>h x (gX _ O)]
theorem Qv {cs:List ao}{aO:ao->Int}{B:Int}(fU:0<=B)(h:∀c∈cs,0<=aO c/\aO c<=B):0<=cP cs aO/\cP cs aO<=D cs*B:=by
 induction cs with
 |nil=>simp[cP]
 |cons c l ax =>
  have F:=h c gn;have I:=ax λx O=>h x (gX _ O);simp only[cP,hV]
  have:((D l+1:Nat):Int)*B=D l*B+B:=by
   rw[Int.natCast_add,Int.add_mul];simp
  omega
theorem LW (a b:List ao)(aO:ao->Int):cP (a++b) aO=cP a aO+cP b aO:=by
 induction a with
 |nil=>simp[cP]
 |cons c l ax=>simp only[jO,cP,ax];omega
theorem uk {E:List Int}{cs:List ao}(h:iF E cs=true)(i r:Nat):((cS cs i r:Int):Rat)=(aB E cs).br i r:=by
 refine Qu cs _ (λc=>if c.az=i/\c.bm<r then c.am else 0) λc G=>?_;have:=(hy.1 h).2.2.2 c G;show ((if c.1=(i:Int)/\c.2.2.1<(r:Int) then c.2.2.2 else 0:Int):Rat)=if c.1.toNat=i/\c.2.2.1.toNat<r then (c.2.2.2:Rat) else 0
 by_cases F:c.1=(i:Int)/\c.2.2.1<(r:Int)
 ·rw[ad F,ad (by omega)]
 ·rw[ae F,ae (by omega)];rfl
theorem Qw {E:List Int}{cs:List ao}(h:iF E cs=true)(i r:Nat):((cS cs i (r+1:Nat)-cS cs i r:Int):Rat)=(aB E cs).S i r:=by
 have F:=uk h i r;have I:=uk h i (r+1);rw[Cx,F,I,Day.p2];grind
def k8 (E:List Int)(cs:List ao)(f:Nat->Nat)(i:Nat):Int:=E.getD i 0+cP cs λc=>if c.2.1=(i:Int)/\c.2.2.1<(f c.1.toNat:Int) then c.2.2.2 else 0
def ext (N:Nat)(y:Nat->Rat)(z:Rat):Nat->Rat:=λk=>if k<N then y k else z
theorem LX (N:Nat)(a y:Nat->Rat)(z:Rat):mI N a (ext N y z)=bE N (λk=>a k*y k)+a N*z:=by
 unfold mI ext;rw[bE]
 congr 1
 ·exact j1 λk Q=>by rw[ad Q]
 ·rw[ae (by omega)]
theorem Y3 {N:Nat}{aL:eH}{pv:Nat->Nat}(h:qT N aL N N pv)(jZ:∀j,j<N->pv j=j){i:Nat}(M:i<N)(y:Nat->Rat)(z:Rat):mI N (aL i) (ext N y z)=y i+aL i N*z:=by
 rw[LX]
 congr 1
 have:∀k,k<N->aL i k=if i=k then 1 else 0:=λk Q=>by
  have:=h.unit k Q i M;rwa [jZ k Q] at this
 rw[xi M λk Q qw=>by rw[this k Q,ae (Ne.symm qw),Cv],this i M,ad rfl,Qx]
theorem ahC {N:Nat}{aL:eH}{pv:Nat->Nat}(h:qT N aL N N pv)(jZ:∀j,j<N->pv j=j)(y:Nat->Rat):hT N aL (ext N y (-1))↔∀i,i<N->y i=aL i N:=by
 unfold hT
 constructor
 ·intro dZ i M;have:=dZ i M;rw[Y3 h jZ M] at this;grind
 ·intro dZ i M;rw[Y3 h jZ M,dZ i M];grind
theorem avY {N:Nat}{aL:eH}{pv:Nat->Nat}(h:qT N aL N N pv)(jZ:∀j,j<N->pv j=j)(y:Nat->Rat)(dZ:hT N aL (ext N y 0)):∀i,i<N->y i=0:=by
 intro i M;have:=dZ i M;rw[Y3 h jZ M] at this;grind
def sW (aL:eH)(c:Nat):Nat->Rat:=λk=>if k<c then 0-aL k c else if k=c then 1 else 0
theorem ahD {N c:Nat}{aL:eH}{pv:Nat->Nat}(h:qT N aL c c pv)(jZ:∀j,j<c->pv j=j)(G:c<N)(aS:∀i,c<=i->i<N->aL i c=0):hT N aL (ext N (sW aL c) 0):=by
 intro i M;rw[LX]
 have main:∀n,c<n->n<=N->bE n (λk=>aL i k*sW aL c k)=bE (c+1) (λk=>aL i k*sW aL c k):=by
  intro n
  induction n with
  |zero=>intro h;omega
  |succ n ax =>
   intro F I
   by_cases JN:c=n
   ·rw[JN]
   ·rw[bE,ax (by omega) (by omega)];unfold sW;rw[ae (show ¬ n<c by omega),ae (show ¬ n=c by omega)];grind
 rw[main N G (bW _),bE];have Q:sW aL c c=1:=by unfold sW;rw[ae (by omega),ad rfl]
 rw[Q]
 have hu:∀k,k<c->aL i k=if i=k then 1 else 0:=λk Q=>by
  have:=h.unit k Q i M;rwa [jZ k Q] at this
 rcases h9 i c with ay|b9
 ·rw[xi ay λk Q qw=>by rw[hu k Q,ae (Ne.symm qw),Cv],hu i ay,ad rfl]
  unfold sW;rw[ad ay];grind
 ·rw[sT λk Q=>by rw[hu k Q,ae (by omega),Cv],aS i b9 M]
  grind
abbrev fY:=Nat->Rat
def jo (n:Nat)(f:List fY->Rat):List fY->List fY->Rat
 |_,[]=>0
 |pre,c::cs=>c n*f (pre++cs)-jo n f (pre++[c]) cs
def gK:Nat->List fY->Rat
 |0,[]=>1
 |0,_::_=>0
 |n+1,cs=>jo n (gK n) [] cs
def Cy (x y:fY)(a:Rat):fY:=λi=>x i+a*y i
def Y4 (f:List fY->Rat):Prop:=∀A B x y a,f (A++Cy x y a::B)=f (A++x::B)+a*f (A++y::B)
def Y5 (f:List fY->Rat):Prop:=∀A B z,f (A++z::z::B)=0
theorem avZ {n:Nat}{f:List fY->Rat}(h:Y4 f)(x y:fY)(a:Rat)(A:List fY):∀cs nw,jo n f (A++Cy x y a::nw) cs=jo n f (A++x::nw) cs+a*jo n f (A++y::nw) cs:=by
 intro cs
 induction cs with
 |nil=>intro nw;simp only[jo];grind
 |cons c cs ax =>
  intro nw;have e:=ax (nw++[c]);simp only[jo,gU,jO] at e ⊢;rw[h A (nw++cs) x y a,e];grind
theorem av0 {n:Nat}{f:List fY->Rat}(h:Y4 f)(x y:fY)(a:Rat)(B:List fY):∀A pre,jo n f pre (A++Cy x y a::B)=jo n f pre (A++x::B)+a*jo n f pre (A++y::B):=by
 intro A
 induction A with
 |nil =>
  intro pre;have e:=avZ (n:=n) h x y a pre B [];simp only[jg,jo];rw[e];simp only[Cy];grind
 |cons c A ax =>
  intro pre;have e:=ax (pre++[c]);have aC:=h (pre++A) B x y a;simp only[gU] at aC;simp only[jO,jo];rw[e,aC];grind
theorem Ev:∀n,Y4 (gK n)
 |0=>by
  intro A B x y a
  cases A<;>simp only[jg,jO,gK]<;>grind
 |n+1=>λA B x y a=>av0 (Ev n) x y a B A []
theorem av1 {n:Nat}{f:List fY->Rat}(h:Y5 f)(z:fY)(A:List fY):∀cs nw,jo n f (A++z::z::nw) cs=0:=by
 intro cs
 induction cs with
 |nil=>intro nw;rfl
 |cons c cs ax =>
  intro nw;have e:=ax (nw++[c]);have aC:=h A (nw++cs) z;simp only[jo,gU,jO] at e aC ⊢;rw[e,aC];grind
theorem av2 {n:Nat}{f:List fY->Rat}(h:Y5 f)(z:fY)(B:List fY):∀A pre,jo n f pre (A++z::z::B)=0:=by
 intro A
 induction A with
 |nil =>
  intro pre;have e:=av1 (n:=n) h z pre B [];simp only[jg,jo,gU,jO] at e ⊢;rw[e];grind
 |cons c A ax =>
  intro pre;have e:=ax (pre++[c]);have aC:=h (pre++A) B z;simp only[gU] at aC;simp only[jO,jo];rw[e,aC];grind
theorem LY:∀n,Y5 (gK n)
 |0=>by
  intro A B z
  cases A<;>rfl
 |n+1=>λA B z=>av2 (LY n) z B A []
theorem av3 (n:Nat)(A B:List fY)(x y:fY):gK n (A++x::y::B) = -gK n (A++y::x::B):=by
 have al:=LY n A B (Cy x y 1);have F:=Ev n A (Cy x y 1::B) x y 1;rw[al] at F;have I:=Ev n (A++[x]) B x y 1;have af:=Ev n (A++[y]) B x y 1;simp only[gU,jO,jg] at I af;rw[I,af,LY n A B x,LY n A B y] at F;grind
theorem ahE (n:Nat)(C:List fY)(z:fY):∀B A,gK n (A++z::(B++z::C))=0:=by
 intro B
 induction B with
 |nil=>intro A;exact LY n A C z
 |cons b B ax =>
  intro A;have:=ax (A++[b]);simp only[gU,jO,jg] at this ⊢;rw[av3,this];grind
theorem Y6 {n:Nat}{A B:List fY}{z:fY}(h:z∈A++B):gK n (A++z::B)=0:=by
 rcases kg.1 h with h|h
 ·obtain⟨Y7,HM,rfl⟩:=ahF h;have:=ahE n B z HM Y7
  simpa only [gU,jO] using this
 ·obtain⟨A1,CX,rfl⟩:=ahF h;exact ahE n CX z A1 A
theorem av4 {n:Nat}{f:List fY->Rat}{z:fY}(aS:z n=0)(h:∀A B,f (A++z::B)=0):(∀cs A nw,jo n f (A++z::nw) cs=0)/\∀A B pre,jo n f pre (A++z::B)=0:=by
 have F:∀cs A nw,jo n f (A++z::nw) cs=0:=by
  intro cs
  induction cs with
  |nil=>intro A nw;rfl
  |cons c cs ax =>
   intro A nw;have e:=ax A (nw++[c]);have aC:=h A (nw++cs);simp only[jo,gU,jO] at e aC ⊢;rw[e,aC];grind
 refine⟨F,λA=>?_⟩
 induction A with
 |nil =>
  intro B pre;have e:=F B pre [];simp only[jg,jo];rw[e,aS];grind
 |cons c A ax =>
  intro B pre;have e:=ax B (pre++[c]);have aC:=h (pre++A) B;simp only[gU] at aC;simp only[jO,jo];rw[e,aC];grind
theorem Y8:∀n (z:fY),(∀i,i<n->z i=0)->∀A B,gK n (A++z::B)=0
 |0,z,_=>λA B=>by cases A<;>rfl
 |n+1,z,h=>λA B=>(av4 (h n (by omega)) (Y8 n z λi M=>h i (by omega))).2 A B []
theorem ahG {n:Nat}{e:fY}(h:∀i,i<n->e i=0)(cs:List fY):gK (n+1) (e::cs)=e n*gK n cs:=by
 show e n*gK n ([]++cs)-jo n (gK n) ([]++[e]) cs=_
 have:∀cs pre,jo n (gK n) (e::pre) cs=0:=by
  intro cs
  induction cs with
  |nil=>intro pre;rfl
  |cons c cs ax =>
   intro pre;have aA:=ax (pre++[c]);have aC:=Y8 n e h [] (pre++cs);simp only[jo,jO,jg] at aA aC ⊢;rw[aA,aC];grind
 simp only[jg];rw[this cs []];grind
theorem av5 {n:Nat}{f:List fY->Rat}{T:fY->fY}(cN:∀c,T c n=c n)(h:∀l,f (l.map T)=f l):∀cs pre,jo n f (pre.map T) (cs.map T)=jo n f pre cs:=by
 intro cs
 induction cs with
 |nil=>intro pre;rfl
 |cons c cs ax =>
  intro pre;have e:=ax (pre++[c]);have aC:=h (pre++cs);simp only[kI,eE,c1] at e aC;simp only[eE,jo];rw[e,aC,cN]
theorem Y9:∀n (T:fY->fY),(∀c i,i<n->T c i=c i)->∀l,gK n (l.map T)=gK n l
 |0,T,_=>λl=>by cases l<;>rfl
 |n+1,T,h=>λl=>av5 (λc=>h c n (by omega)) (Y9 n T λc i M=>h c i (by omega)) l []
theorem ahH {n:Nat}{α:Type}(l:List α)(f g:α->fY)(h:∀a∈l,∀i,i<n->f a i=g a i):gK n (l.map f)=gK n (l.map g):=by
 rw[<-Y9 n (λc i=>if i<n then c i else 0) (λc i M=>ad M),<-Y9 n (λc i=>if i<n then c i else 0) (λc i M=>ad M) (l.map g)];rw[lo,lo]
 congr 1
 apply jM;intro a aN
 funext i
 simp only[Function.comp]
 split
 ·exact h a aN i (by assumption)
 ·rfl
theorem LZ (n:Nat)(A B:List fY)(x:Nat->Rat)(C:Nat->fY):∀m,gK n (A++(λi=>bE m λl=>x l*C l i)::B)=bE m λl=>x l*gK n (A++C l::B)
 |0=>Y8 n _ (λi _=>rfl) A B
 |m+1=>by
  have e:=Ev n A B (λi=>bE m λl=>x l*C l i) (C m) (x m);rw[LZ n A B x C m] at e;exact e
def eN (B:Nat)(x:Rat):Prop:=∃z:Int,x=(z:Rat)/\z.natAbs<=B
theorem eN.mono {A B:Nat}{x:Rat}(h:eN A x)(aq:A<=B):eN B x:=by obtain⟨z,F,I⟩:=h;exact⟨z,F,by omega⟩
theorem eN.mul {A B:Nat}{x y:Rat}(O:eN A x)(ar:eN B y):eN (A*B) (x*y):=by
 obtain⟨z,rfl,I⟩:=O;obtain⟨w,rfl,cf⟩:=ar;exact⟨z*w,by rw[p6],by rw[qG];exact oS I cf⟩
theorem eN.sub {A B:Nat}{x y:Rat}(O:eN A x)(ar:eN B y):eN (A+B) (x-y):=by
 obtain⟨z,rfl,I⟩:=O;obtain⟨w,rfl,cf⟩:=ar;exact⟨z-w,by rw[Cx],by omega⟩
theorem eN.add {A B:Nat}{x y:Rat}(O:eN A x)(ar:eN B y):eN (A+B) (x+y):=by
 obtain⟨z,rfl,I⟩:=O;obtain⟨w,rfl,cf⟩:=ar;exact⟨z+w,by rw[vJ],by omega⟩
theorem eN.zero {B:Nat}:eN B 0:=⟨0,by rfl,by simp⟩
theorem eN.int (z:Int):eN z.natAbs (z:Rat):=⟨z,rfl,bW _⟩
theorem eN.sum {B:Nat}{f:Nat->Rat}:∀n,(∀k,k<n->eN B (f k))->eN (n*B) (bE n f)
 |0,_=>eN.zero
 |n+1,h=>by
  have:=(eN.sum n λk Q=>h k (by omega)).add (h n (by omega));exact this.mono (by rw[ti];exact bW _)
theorem eN.of {z:Int}{B:Nat}(h:z.natAbs<=B):eN B (z:Rat):=⟨z,rfl,h⟩
theorem eN.nat {z:Nat}{B:Nat}(h:z<=B):eN B (z:Rat):=⟨z,(ob _).symm,by omega⟩
def fe:Nat->(Nat->Nat)->Nat
 |0,_=>0
 |n+1,a=>fe n a+a n
theorem L0 {n:Nat}{a b:Nat->Nat}(h:∀i,i<n->a i=b i):fe n a=fe n b:=by
 induction n with
 |zero=>rfl
 |succ n ax=>rw[fe,fe,ax λi M=>h i (by omega),h n (by omega)]
theorem av6 {n:Nat}{a b:Nat->Nat}(h:∀i,i<n->a i<=b i):fe n a<=fe n b:=by
 induction n with
 |zero=>exact bW _
 |succ n ax=>exact Nat.add_le_add (ax λi M=>h i (by omega)) (h n (by omega))
theorem ahI {N t:Nat}(b:Nat->Nat)(bD:t<N):fe N b=fe N (λi=>if i=t then 0 else b i)+b t:=by
 induction N with
 |zero=>omega
 |succ N ax =>
  by_cases h:t=N
  ·subst h;rw[fe,fe,ad rfl];have:fe t b=fe t λi=>if i=t then 0 else b i:=L0 λi M=>by rw[ae (by omega)]
   omega
  ·have:=ax (by omega);rw[fe,fe,ae (by omega)];omega
theorem Za {N:Nat}{τ:Nat->Nat}:∀{n:Nat} (b:Nat->Nat),(∀i,i<n->τ i<N)->(∀i j,i<n->j<n->τ i=τ j->i=j)->fe n (λi=>b (τ i))<=fe N b
 |0,_,_,_=>fg _
 |n+1,b,F,I=>by
  have ax:=Za (n:=n) (λi=>if i=τ n then 0 else b i) (λi M=>F i (by omega)) λi j M aj=>I i j (by omega) (by omega);rw[ahI b (F n (by omega)),fe]
  have:fe n (λi=>b (τ i))=fe n λi=>if τ i=τ n then 0 else b (τ i):=L0 λi M=>by
   rw[ae λh=>by have:=I i n (by omega) (by omega) h;omega]
  omega
def iG:Nat->(Nat->Nat)->Nat
 |0,_=>1
 |n+1,cb=>iG n cb*cb n
theorem ahJ {n:Nat}{cb:Nat->Nat}(h:∀k,k<n->0<cb k):0<iG n cb:=by
 induction n with
 |zero=>exact Zb
 |succ n ax=>exact L1 (ax λk Q=>h k (by omega)) (h n (by omega))
theorem Zc {n b:Nat}{cb:Nat->Nat}(h:∀k,k<n->cb k<=2^b):iG n cb<=2^(n*b):=by
 induction n with
 |zero=>simp[iG]
 |succ n ax =>
  rw[ti,vK];exact oS (ax λk Q=>h k (by omega)) (h n (by omega))
theorem ahK {n:Nat}{cb:Nat->Nat}{k:Nat}(Q:k<n):∃m,iG n cb=cb k*m:=by
 induction n with
 |zero=>omega
 |succ n ax =>
  by_cases HC:k=n
  ·subst HC;exact⟨iG k cb,rq _ _⟩
  ·obtain⟨m,hm⟩:=ax (by omega);exact⟨m*cb n,by rw[iG,hm,Ew]⟩
theorem ahL {p:Nat}{cb:Nat->Nat}(kC:∀k,0<cb k):∀{N:Nat},p<=N->∃cg,0<cg/\iG N cb=iG p cb*cg/\∀k,p<=k->k<N->∃m,cg=cb k*m
 |0,h=>⟨1,Zb,by rw[show p=0 by omega];rfl,λk _ h=>by omega⟩
 |N+1,h=>by
  by_cases aE:p=N+1
  ·exact⟨1,Zb,by rw[aE,cK],λk F I=>by omega⟩
  ·obtain⟨cg,al,F,I⟩:=ahL (p:=p) kC (N:=N) (by omega);refine⟨cg*cb N,L1 al (kC N),by rw[iG,F,Ew],λk ca c7=>?_⟩
   by_cases Q:k=N
   ·exact⟨cg,by rw[Q,rq]⟩
   ·obtain⟨m,hm⟩:=I k ca (by omega);exact⟨m*cb N,by rw[hm,Ew]⟩
abbrev HN:=fY×(Nat->Nat)
def m4 (n:Nat):List HN->Nat
 | []=>1
 |p::l=>fe n p.2*m4 n l
theorem av7 (n:Nat)(a b:List HN):m4 n (a++b)=m4 n a*m4 n b:=by
 induction a with
 |nil=>simp[m4]
 |cons p l ax=>simp only[jO,m4,ax,Ew]
theorem ahM (n:Nat):∀l:List HN,m4 n l<=m4 (n+1) l
 | []=>bW _
 |p::l=>oS (Nat.le_add_right _ _) (ahM n l)
theorem ahN {n:Nat}{f:List fY->Rat}(h:∀l:List HN,(∀p∈l,∀i,i<n->eN (p.2 i) (p.1 i))->eN (m4 n l) (f (l.map (·.1)))):
  ∀cs pre:List HN,(∀p∈pre++cs,∀i,i<n+1->eN (p.2 i) (p.1 i))->∃z:Int,jo n f (pre.map (·.1)) (cs.map (·.1))=(z:Rat)/\z.natAbs+m4 n pre*m4 n cs<=m4 n pre*m4 (n+1) cs
 | [],pre,_=>⟨0,rfl,by simp[m4]⟩
 |c::cs,pre,aE=>by
  obtain⟨z,F,I⟩:=ahN h cs (pre++[c]) (by simpa using aE);obtain⟨y,cD,cf⟩:=h (pre++cs) λp hm i M=>aE p (by simp only[kg,hE] at hm ⊢;rcases hm with hm|hm<;>simp[hm]) i (by omega)
  obtain⟨x,ca,c7⟩:=aE c (by simp) n (by omega);simp only[kI,eE,c1] at F cD;refine⟨x*y-z,?_,?_⟩
  ·simp only[eE,jo];rw[ca,cD,F,Cx,p6]
  ·rw[av7] at I cf;simp only[m4,fe,cK] at I ⊢;have cU:(x*y-z).natAbs<=x.natAbs*y.natAbs+z.natAbs:=by rw[<-qG];omega
   have de:=oS c7 (eP cf (oS (bW _) (ahM n cs)));generalize m4 n pre=P at *;generalize m4 n cs=s at *;generalize m4 (n+1) cs=S at *;generalize fe n c.2=L at *;generalize c.2 n=a at *;have aA:P*((L+a)*S)=P*L*S+a*(P*S):=by rw[Nat.add_mul,Nat.mul_add,Ew,ahO a]
   have aC:P*(L*s)=P*L*s:=(Ew _ _ _).symm;rw[aA,aC];omega
theorem ahP:∀n (l:List HN),(∀p∈l,∀i,i<n->eN (p.2 i) (p.1 i))->eN (m4 n l) (gK n (l.map (·.1)))
 |0,[],_=>⟨1,by rfl,by simp[m4]⟩
 |0,p::l,_=>eN.zero
 |n+1,l,h=>by
  obtain⟨z,F,I⟩:=ahN (f:=gK n) (ahP n) l [] (by simpa using h);refine⟨z,F,?_⟩;simp only[m4,Nat.one_mul] at I;omega
open Go
def k9 (N:Nat)(l:List a1)(q:Nat->Rat):Prop:=l=((dP (N+1)).map q).map av/\∀k,k<=N->dm (q k)
def xl (N:Nat)(rows:List du)(aL:eH):Prop:=D rows=N/\∀(i:Nat) x,rows[i]?=some x->k9 N x.2.2 (aL i)
theorem k9.get {N:Nat}{l:List a1}{q:Nat->Rat}(h:k9 N l q){k:Nat}(Q:k<=N):l[k]?=some (av (q k)):=by
 rw[h.1,bq,bq,th (by omega)]
 rfl
theorem k9.len {N:Nat}{l:List a1}{q:Nat->Rat}(h:k9 N l q):(D l)=N+1:=by rw[h.1];simp
theorem k9.Zd {N:Nat}{l:List a1}{q:Nat->Rat}(aq:(D l)=N+1)(h:∀k,k<=N->l[k]?=some (av (q k))/\dm (q k)):k9 N l q:=by
 refine⟨?_,λk Q=>(h k Q).2⟩;apply o4;intro k;rcases h9 k (N+1) with Q|Q
 ·rw[(h k (by omega)).1,bq,bq,th Q];rfl
 ·rw[ke (by omega),ke (by simp;omega)]
theorem k9.congr {N:Nat}{l:List a1}{q tN:Nat->Rat}(h:k9 N l q)(aG:∀k,k<=N->q k=tN k):k9 N l tN :=
 k9.Zd h.len λk Q=>by rw[<-aG k Q];exact⟨h.get Q,h.2 k Q⟩
theorem k9.cell {N:Nat}{x:du}{q:Nat->Rat}(h:k9 N x.2.2 q){k:Nat}(Q:k<=N):cellOf x k=av (q k):=X6 (h.get Q)
theorem Qy (q:Rat):ns (av q)=decide (q=0):=by
 unfold ns av bO;rw[w2,beq_iff_eq,decide_eq_true_eq,Int.sign_eq_zero_iff_zero,ahQ]
def rQ (fC a b:Rat):Bool:=z6 fC b&&mD a (-(fC*b))
theorem ahR {fC a b:Rat}(aF:dm fC)(aN:dm a)(ah:dm b)(h:rQ fC a b=true):
  n2 (av fC) (av b)=(av (fC*b),0)/\pf (av a) (av (fC*b))=(av (a-fC*b),0)/\dm (a-fC*b):=by
 unfold rQ at h;rw[ec] at h;refine⟨?_,?_,afR h.2⟩
 ·rw[Wy aF ah,h.1];rfl
 ·rw[Ps aN (afS h.1),h.2];rfl
theorem av8 {fC a b:Rat}(aF:dm fC)(aN:dm a)(ah:dm b)(h:rQ fC a b=false):
  ((n2 (av fC) (av b)).2 != 0||(pf (av a) (n2 (av fC) (av b)).1).2 != 0)=true:=by
 unfold rQ at h;rw[Wy aF ah];rcases F:z6 fC b
 ·rfl
 ·rw[F,gT] at h;show ((pf (av a) (av (fC*b))).2 != 0)=true;rw[Ps aN (afS F),h]
  rfl
theorem av9 {fC:Rat}(aF:dm fC):∀(xm pl:List Rat),D xm=(D pl)->(∀x∈xm,dm x)->(∀x∈pl,dm x) ->
  ((∀q∈xm.zip pl,rQ fC q.1 q.2=true)->jn (av fC) (xm.map av) (pl.map av) false=((Ze (λa b=>a-fC*b) xm pl).map av,false)/\∀x∈Ze (λa b=>a-fC*b) xm pl,dm x) /\
  ((jn (av fC) (xm.map av) (pl.map av) false).2=false->∀q∈xm.zip pl,rQ fC q.1 q.2=true):=by
 intro xm
 induction xm with
 |nil=>intro pl aq _ _;cases pl with
  |nil=>exact⟨λ_=>⟨rfl,by simp⟩,λ_=>by simp⟩
  |cons=>cases aq
 |cons a xm ax =>
  intro pl aq F I
  cases pl with
  |nil=>cases aq
  |cons b pl =>
   have aN:=F a gn;have ah:=I b gn;obtain⟨i1,i2⟩:=ax pl (by simpa using aq) (λx O=>F x (gX _ O)) (λx O=>I x (gX _ O))
   constructor
   ·intro eZ;obtain⟨aA,aC,bZ⟩:=ahR aF aN ah (eZ (a,b) (by simp));obtain⟨i3,i4⟩:=i1 λq aG=>eZ q (by simp only[ahS,hE];exact .inr aG);refine⟨?_,λx O=>?_⟩
    ·simp only[eE,jn,aA,aC,ahT,bne_self_eq_false,lR,i3]
    ·rw[ahT,hE] at O;rcases O with rfl|O
     ·exact bZ
     ·exact i4 x O
   ·intro eQ;simp only[eE,jn] at eQ;rcases U:rQ fC a b
    ·rw[av8 aF aN ah U,X8] at eQ
     cases eQ
    ·obtain⟨aA,aC,bZ⟩:=ahR aF aN ah U;simp only[aA,aC,bne_self_eq_false,lR] at eQ;intro q aG;rw[ahS,hE] at aG;rcases aG with rfl|aG
     ·exact U
     ·exact i2 eQ q aG
theorem awa (n:Nat)(q p:Nat->Rat):((dP n).map q).zip ((dP n).map p)=(dP n).map λk=>(q k,p k):=by
 rw[List.zip_map',]
theorem awb (n:Nat)(f:Rat->Rat->Rat)(q p:Nat->Rat):Ze f ((dP n).map q) ((dP n).map p)=(dP n).map λk=>f (q k) (p k):=by
 rw[List.zipWith_map,List.zipWith_self]
theorem awc {N:Nat}{fC:Rat}{l ai:List a1}{q p:Nat->Rat}(aF:dm fC)(F:k9 N l q)(I:k9 N ai p):
  ((∀k,k<=N->rQ fC (q k) (p k)=true)->(jn (av fC) l ai false).2=false)/\((jn (av fC) l ai false).2=false->k9 N (jn (av fC) l ai false).1 (λk=>q k-fC*p k)):=by
 obtain⟨aA,aC⟩:=av9 aF ((dP (N+1)).map q) ((dP (N+1)).map p) (by simp) (by
  intro x O;obtain⟨k,Q,rfl⟩:=dS.1 O;exact F.2 k (by have:=gV.1 Q;omega)) (by
  intro x O;obtain⟨k,Q,rfl⟩:=dS.1 O;exact I.2 k (by have:=gV.1 Q;omega))
 rw[<-F.1,<-I.1] at aA aC
 have aS:(∀k,k<=N->rQ fC (q k) (p k)=true)↔∀x∈((dP (N+1)).map q).zip ((dP (N+1)).map p),rQ fC x.1 x.2=true:=by
  rw[awa];simp only[dS,gV]
  constructor
  ·rintro h x ⟨k,Q,rfl⟩;exact h k (by omega)
  ·intro h k Q;exact h (q k,p k) ⟨k,by omega,rfl⟩
 refine⟨λh=>by rw[(aA (aS.1 h)).1],λh=>?_⟩
 obtain⟨bZ,dq⟩:=aA (aC h);rw[bZ,awb] at *;exact⟨rfl,λk Q=>dq _ (dS.2 ⟨k,gV.2 (by omega),rfl⟩)⟩
theorem Qz (fX:List a1)(r c:Nat):∀(i:Nat) (l:List du),(jX fX r c i l true).2=true
 |_,[]=>rfl
 |i,x::xs=>by
  unfold jX
  split
  ·exact Qz fX r c (i+1) xs
  ·rw[X8];exact Qz fX r c (i+1) xs
theorem ahU {N r c:Nat}{fX:List a1}{p:Nat->Rat}(aE:k9 N fX p)(G:c<=N):∀(i:Nat) (l:List du) (cb:eH),(∀(j:Nat) x,l[j]?=some x->k9 N x.2.2 (cb (i+j))) ->
  ((∀j,j<(D l)->i+j≠r->cb (i+j) c≠0->∀k,k<=N->rQ (cb (i+j) c) (cb (i+j) k) (p k)=true)->(jX fX r c i l false).2=false) /\
  ((jX fX r c i l false).2=false->∀(j:Nat) x,(jX fX r c i l false).1[j]?=some x->k9 N x.2.2 (λk=>if i+j=r then cb (i+j) k else cb (i+j) k-cb (i+j) c*p k))
 |i,[],cb,h=>⟨λ_=>rfl,λ_ j x O=>by simp[jX] at O⟩
 |i,x::xs,cb,h=>by
  have al:=h 0 x rfl;rw[nQ] at al
  obtain⟨ahV,QA⟩:=ahU aE G (i+1) xs cb λj y ar=>by
   have:=h (j+1) y ar;rwa [show i+(j+1)=i+1+j by omega] at this
  have o2:=al.cell G
  have ahW:(∀j,j<(x::xs).length->i+j≠r->cb (i+j) c≠0->∀k,k<=N->rQ (cb (i+j) c) (cb (i+j) k) (p k)=true)->∀j,j<(D xs)->i+1+j≠r->cb (i+1+j) c≠0->∀k,k<=N->rQ (cb (i+1+j) c) (cb (i+1+j) k) (p k)=true:=by
   intro aQ j aj;have:=aQ (j+1) (by simpa using aj);rwa [show i+(j+1)=i+1+j by omega] at this
  unfold jX;rw[o2,Qy]
  by_cases aS:(i==r||decide (cb i c=0))=true
  ·rw[ad aS];refine⟨λaQ=>ahV (ahW aQ),λah j y ar=>?_⟩
   cases j with
   |zero =>
    simp only[u0,cj] at ar;subst ar;rw[nQ];refine al.congr λk Q=>?_;simp only[x3,beq_iff_eq,decide_eq_true_eq] at aS
    split
    ·rfl
    ·rcases aS with aS|aS
     ·contradiction
     ·rw[aS];grind
   |succ j =>
    have:=QA ah j y (by simpa using ar);rwa [show i+(j+1)=i+1+j by omega]
  ·rw[ae aS];simp only[x3,beq_iff_eq,decide_eq_true_eq,not_or] at aS;obtain⟨cD,cf⟩:=awc (al.2 c G) al aE
   constructor
   ·intro aQ;have af:=cD (aQ 0 (by simp) (by simpa using aS.1) (by simpa using aS.2));dsimp only;rw[af];exact ahV (ahW aQ)
   ·intro ah j y ar;dsimp only at ah ar;rcases nj:(jn (av (cb i c)) x.2.2 fX false).2
    ·rw[nj] at ah ar
     cases j with
     |zero =>
      simp only[u0,cj] at ar;subst ar;rw[nQ];exact (cf nj).congr λk Q=>by rw[ae aS.1]
     |succ j =>
      have:=QA ah j y (by simpa using ar);rwa [show i+(j+1)=i+1+j by omega]
    ·rw[nj,Qz] at ah
     cases ah
theorem awd {N:Nat}{l:List a1}{q:Nat->Rat}{b:Rat}(h:k9 N l q)(ah:dm b)(al:b≠0):
  ((hS (av b) l).2=false↔∀k,k<=N->w4 (q k) b=true)/\((hS (av b) l).2=false->k9 N (hS (av b) l).1 (λk=>q k/b)):=by
 have aA:(hS (av b) l).2=false↔∀k,k<=N->w4 (q k) b=true:=by
  unfold hS;rw[h.1];simp only[ug,dS,gV]
  constructor
  ·intro aQ k Q;have:=aQ (av (q k)) ⟨q k,⟨k,by omega,rfl⟩,rfl⟩
   rw[Pt (h.2 k Q) ah al] at this;rcases aa:w4 (q k) b
   ·rw[aa] at this;exact absurd rfl this
   ·rfl
  ·rintro aQ _ ⟨_,⟨k,Q,rfl⟩,rfl⟩;rw[Pt (h.2 k (by omega)) ah al,aQ k (by omega)];simp[z2]
 refine⟨aA,λaQ=>?_⟩;have cX:=aA.1 aQ;refine k9.Zd (by unfold hS;rw[ak,h.len]) λk Q=>⟨?_,as9 (cX k Q)⟩;unfold hS;rw[bq,h.get Q,ll,Pt (h.2 k Q) ah al,cX k Q]
 rfl
theorem xl.row {N:Nat}{rows:List du}{aL:eH}(h:xl N rows aL){i:Nat}(M:i<N):∃x,rows[i]?=some x/\rowAt rows i=x/\k9 N x.2.2 (aL i):=by
 obtain⟨x,O⟩:∃x,rows[i]?=some x:=⟨_,bx (by have:=h.1;omega)⟩;exact⟨x,O,xd O,h.2 i x O⟩
theorem xl.swap {N:Nat}{rows:List du}{aL:eH}(h:xl N rows aL){r s:Nat}(ab:r<N)(U:s<N):xl N (qQ rows r s) (hj aL r s):=by
 obtain⟨x,O,ex,oc⟩:=h.row ab;obtain⟨y,ar,SS,awe⟩:=h.row U;unfold qQ;rw[ex,SS];refine⟨by rw[jf,jf];exact h.1,λi z aS=>?_⟩
 rw[nr,nr,jf] at aS;unfold hj
 by_cases F:s=i
 ·rw[ad F,ad (by have:=h.1;omega)] at aS
  cases aS;rw[ad F.symm];exact oc
 ·rw[ae F] at aS;rw[ae (Ne.symm F)]
  by_cases I:r=i
  ·rw[ad I,ad (by have:=h.1;omega)] at aS
   cases aS;rw[ad I.symm];exact awe
  ·rw[ae I] at aS;rw[ae (Ne.symm I)];exact h.2 i z aS
def ahX (N:Nat)(S:eH)(r c:Nat):Prop:=(∀k,k<=N->w4 (S r k) (S r c)=true)/\∀i,i<N->i≠r->S i c≠0->∀k,k<=N->rQ (S i c) (S i k) (S r k/S r c)=true
theorem ahY {N:Nat}{rows:List du}{aL:eH}(h:xl N rows aL){r c:Nat}(ab:r<N)(G:c<N):
  ((iD rows r c).1=true/\(iD rows r c).2.1=rows/\(iD rows r c).2.2=false/\∀i,r<=i->i<N->aL i c=0) \/
  ((iD rows r c).1=false/\∃s,r<=s/\s<N/\aL s c≠0/\((iD rows r c).2.2=false->xl N (iD rows r c).2.1 (oR aL r c s))/\(ahX N (hj aL r s) r c->(iD rows r c).2.2=false)):=by
 have aq:=h.1;have kA:=ag7 rows r c (by omega)
 have mK:∀i x,r<=i->i<findAt rows r c->rows[i]?=some x->ns (cellOf x c)=true:=by
  intro i x ra nN O;unfold findAt at nN;have ay:i-r<(rows.drop r).findIdx λx => !ns (cellOf x c):=by omega
  have:=List.not_of_lt_findIdx ay
  have bc:(rows.drop r)[i-r]'(Nat.lt_of_lt_of_le ay ag8)=x:=by
   rw[Lt];have:=(dz.1 O)
   obtain⟨F,I⟩:=this;simp only[show r+(i-r)=i by omega]
   exact I
  rw[bc] at this
  simpa using this
 unfold iD
 by_cases aF:findAt rows r c=D rows
 ·left
  rw[ad aF];refine⟨rfl,rfl,rfl,λi ra nN=>?_⟩;obtain⟨x,O,-,oc⟩:=h.row nN;have:=mK i x ra (by omega) O;rw[oc.cell (by omega),Qy] at this
  simpa using this
 ·right
  rw[ae aF];refine⟨rfl,findAt rows r c,kA.1,by omega,?_,?_⟩
  ·obtain⟨x,O,-,oc⟩:=h.row (i:=findAt rows r c) (by omega);have ay:findAt rows r c-r<(rows.drop r).length:=by rw[rp];omega
   have I:(rows.drop r).findIdx (λx => !ns (cellOf x c))<(rows.drop r).length:=by
    unfold findAt at ay;omega
   have af:=ahZ (w:=I)
   have bc:(rows.drop r)[(rows.drop r).findIdx λx => !ns (cellOf x c)]=x:=by
    rw[Lt];exact (dz.1 O).2
   rw[bc,oc.cell (by omega),Qy] at af
   simpa using af
  ·have U:findAt rows r c<N:=by omega
   have Ak:=h.swap ab U
   have bC:hj aL r (findAt rows r c) r c≠0:=by
    rw[Qg];obtain⟨x,O,-,oc⟩:=h.row U
    have I:(rows.drop r).findIdx (λx => !ns (cellOf x c))<(rows.drop r).length:=by
     rw[rp];unfold findAt at U;omega
    have af:=ahZ (w:=I)
    have bc:(rows.drop r)[(rows.drop r).findIdx λx => !ns (cellOf x c)]=x:=by
     rw[Lt];exact (dz.1 O).2
    rw[bc,oc.cell (by omega),Qy] at af
    simpa using af
   have P4:oR aL r c (findAt rows r c)=λi k=>if i=r then hj aL r (findAt rows r c) r k/hj aL r (findAt rows r c) r c else hj aL r (findAt rows r c) i k-hj aL r (findAt rows r c) i c*(hj aL r (findAt rows r c) r k/hj aL r (findAt rows r c) r c):=rfl;rw[P4];generalize qQ rows r (findAt rows r c)=h2 at *;generalize hj aL r (findAt rows r c)=S at *;obtain⟨x,O,ex,oc⟩:=Ak.row ab;rw[ex,oc.cell (by omega)];obtain⟨d1,d2⟩:=awd oc (oc.2 c (by omega)) bC
   have zO:El h2 r c=h2.set r (x.1,x.2.1,(hS (av (S r c)) x.2.2).1):=by
    unfold El;rw[ex,oc.cell (by omega)]
   rw[zO]
   have Zf:k9 N (hS (av (S r c)) x.2.2).1 (λk=>S r k/S r c)->∀(j:Nat) y,(h2.set r (x.1,x.2.1,(hS (av (S r c)) x.2.2).1))[j]?=some y->k9 N y.2.2 ((λi=>if i=r then λk=>S r k/S r c else S i) (0+j)):=by
    intro aa j y ar;rw[kx];rw[nr] at ar
    by_cases aj:r=j
    ·rw[ad aj,ad (by have:=Ak.1;omega)] at ar
     cases ar;dsimp only;rw[ad aj.symm];exact aa
    ·rw[ae aj] at ar;dsimp only;rw[ae (Ne.symm aj)];exact Ak.2 j y ar
   dsimp only;rcases wN:(hS (av (S r c)) x.2.2).2
   ·have aa:=d2 wN;obtain⟨eY,eh⟩:=ahU (r:=r) (c:=c) aa (by omega) 0 (h2.set r (x.1,x.2.1,(hS (av (S r c)) x.2.2).1)) (λi=>if i=r then λk=>S r k/S r c else S i) (Zf aa)
    constructor
    ·intro ah;refine⟨?_,λi z aS=>?_⟩
     ·have:=congrArg D (Qb (hS (av (S r c)) x.2.2).1 r c 0 (h2.set r (x.1,x.2.1,(hS (av (S r c)) x.2.2).1)) false);rw[ak,ak,jf] at this;rw[this];exact Ak.1
     ·have:=eh ah i z aS;rw[kx] at this;refine this.congr λk Q=>?_
      by_cases pZ:i=r
      ·simp only[ad pZ]
      ·simp only[ae pZ]
    ·intro cX;refine eY λj aj L2 bC k Q=>?_;rw[kx] at *;simp only[ae L2] at bC ⊢;rw[jf,Ak.1] at aj;exact cX.2 j aj L2 bC k Q
   ·constructor
    ·intro ah;rw[Qz] at ah
     cases ah
    ·intro cX;rw[d1.2 cX.1] at wN
     cases wN
structure HO (N:Nat) (aL vL:eH) (rows:List du) (p c:Nat) (pv:Nat->Nat):Prop where
 enc:xl N rows vL
 red:qT N vL p c pv
 HP:∀y,hT N vL y↔hT N aL y
theorem awf (stop:Bool)(N:Nat)(ah0:eH):∀k c rows free aL p pv,c+k=N->HO N ah0 aL rows p c pv->p+D free=c->(stop=true->free=[]/\∀j,j<p->pv j=j) ->
  ∀xn rR,l1 stop k c rows free false=(xn,rR,false) ->
  ∃vL o6 c' um,HO N ah0 vL xn o6 c' um/\(stop=false->c'=N/\o6+D rR=N) /\
   (stop=true->(rR=[]/\c'=N/\o6=N/\∀j,j<N->um j=j)\/(∃f,rR=[f]/\f<N/\o6=f/\c'=f/\(∀j,j<f->um j=j)/\∀i,f<=i->i<N->vL i f=0)):=by
 intro k
 induction k with
 |zero =>
  intro c rows free aL p pv G he aE U xn rR O;simp only[l1,fp,and_true] at O;obtain⟨rfl,rfl⟩:=O;refine⟨aL,p,c,pv,he,λ_=>⟨by omega,by omega⟩,λh=>?_⟩
  obtain⟨F,I⟩:=U h;subst F;simp only[lq,nQ] at aE;exact .inl ⟨rfl,by omega,by omega,λj aj=>I j (by omega)⟩
 |succ k ax =>
  intro c rows free aL p pv G he aE U xn rR O;have iA:c-D free=p:=by omega
  unfold l1 at O;rw[iA] at O;rcases ahY he.enc (r:=p) (c:=c) (by omega) (by omega) with ⟨F,I,af,aM⟩|⟨F,s,hs,kj,sX,aM,bk⟩
  ·rw[F,I,af,ad rfl] at O
   cases stop with
   |true =>
    rw[ad rfl] at O;simp only[fp,and_true] at O;obtain⟨rfl,rfl⟩:=O;obtain⟨cD,cf⟩:=U rfl;subst cD;simp only[lq,nQ] at aE;subst aE;exact⟨aL,p,p,pv,he,by simp,λ_ => .inr ⟨p,rfl,by omega,rfl,rfl,cf,aM⟩⟩
   |false =>
    rw[ae (by simp)] at O;exact ax (c+1) rows (free++[c]) aL p pv (by omega) ⟨he.enc,he.red.free aM,he.HP⟩ (by simp;omega) (by simp) xn rR O
  ·rw[F,ae (by simp)] at O;rcases ah:(iD rows p c).2.2
   ·rw[ah] at O;have Zg:=aM ah;refine ax (c+1) _ free (oR aL p c s) (p+1) (λj=>if j=p then c else pv j) (by omega) ⟨Zg,he.red.piv (by omega) hs kj sX,λy=>(YM (by omega) kj sX).trans (he.HP y)⟩ (by omega) (λh=>?_) xn rR O;obtain⟨cD,cf⟩:=U h;refine⟨cD,λj aj=>?_⟩;subst cD;simp only[lq,nQ] at aE;show (if j=p then c else pv j)=j
    split
    ·omega
    ·exact cf j (by omega)
   ·rw[ah,ag4] at O
    cases O
def qU (rs:List eV):eH:=λi k=>if k<(D rs) then pd ((rs.getD i ([],ft)).1.getD k ft) else pd (rs.getD i ([],ft)).2
theorem QB {f:a1}(h:ei f=true):f=av (pd f)/\dm (pd f):=by
 obtain⟨x,O,rfl⟩:=(K3 _).1 h;rw[zW];exact⟨rfl,O⟩
theorem awg {rs:List eV}{n:Int}(h:n3 rs n=true):(D rs:Int)=n/\D rs<=40/\∀r∈rs,r.1.length=D rs/\ei r.2=true/\∀f∈r.1,ei f=true:=by
 unfold n3 at h;simp only[ec,pj,decide_eq_false_iff_not,beq_iff_eq] at h;obtain⟨F,I,af,aM⟩:=h;refine⟨af,by omega,λr ab=>?_⟩
 rw[ug] at aM;have:=aM r ab;unfold oN GW at this;simp only[pj,Bool.not_eq_true,Bool.not_eq_false',ec,beq_iff_eq,ug,Bool.not_eq_false] at this;obtain⟨ha,fu,uo⟩:=this;exact⟨by omega,fu,λf aF=>by simpa using uo f aF⟩
theorem ah1 {rs:List eV}{i:Nat}{r:eV}(h:rs[i]?=some r):rs.getD i ([],ft)=r:=by
 rw[en,h];rfl
theorem ah2 {rs:List eV}{n:Int}(h:n3 rs n=true):xl (D rs) (hx rs) (qU rs):=by
 obtain⟨aK,aK3,Zf⟩:=awg h;refine⟨Er rs,λi x O=>?_⟩
 have M:i<D rs:=by
  have:=(dz.1 O).1;rwa [Er] at this
 obtain⟨r,ab⟩:∃r,rs[i]?=some r:=⟨_,bx M⟩;rw[agZ ab] at O
 cases O;obtain⟨aA,aC,bZ⟩:=Zf r (ep ab);refine k9.Zd (by simp[aA]) λk Q=>?_;unfold qU;rw[ah1 ab]
 by_cases gy:k<D rs
 ·rw[ad gy];obtain⟨f,aF⟩:∃f,r.1[k]?=some f:=⟨_,bx (by omega)⟩;obtain⟨ha,fu⟩:=QB (bZ f (ep aF));rw[qo (by omega),aF,en,aF];exact⟨congrArg some ha,fu⟩
 ·rw[ae gy];obtain⟨ha,fu⟩:=QB aC;rw[rb (by omega),aA,show k-D rs=0 by omega]
  exact⟨congrArg some ha,fu⟩
theorem awh (stop:Bool){rs:List eV}{n:Int}(h:n3 rs n=true){xn:List du}{rR:List Nat}(O:qR stop rs=(xn,rR,false)):
  ∃vL o6 c' um,HO (D rs) (qU rs) vL xn o6 c' um/\(stop=false->c'=D rs/\o6+D rR=D rs) /\
   (stop=true->(rR=[]/\c'=D rs/\o6=D rs/\∀j,j<(D rs)->um j=j)\/(∃f,rR=[f]/\f<D rs/\o6=f/\c'=f/\(∀j,j<f->um j=j)/\∀i,f<=i->i<(D rs)->vL i f=0)) :=
 awf stop (D rs) (qU rs) (D rs) 0 (hx rs) [] (qU rs) 0 (λj=>j) (by omega) ⟨ah2 h,Qh _ _ _,λ_=>Iff.rfl⟩ rfl (λ_=>⟨rfl,λj aj=>by omega⟩) xn rR O
def L3 (N:Nat)(q:Nat->Rat)(b:Nat):Prop:=∃(v:Nat->Int) (d:Int),d≠0/\d.natAbs<=2^b/\∀k,k<=N->q k*(d:Rat)=(v k:Rat)/\(v k).natAbs<=2^b
theorem L3.mono {N a b:Nat}{q:Nat->Rat}(h:L3 N q a)(Ab:a<=b):L3 N q b:=by
 obtain⟨v,d,F,I,af⟩:=h;have aE:2^a<=2^b:=wT (by omega) Ab;exact⟨v,d,F,eP I aE,λk Q=>⟨(af k Q).1,eP (af k Q).2 aE⟩⟩
theorem awi {q:Rat}{v d:Int}(aa:d≠0)(h:q*(d:Rat)=(v:Rat)):q.num*d=v*q.den:=by
 have nb:(d:Rat)≠0:=by rw[Ne,ah3];exact aa
 have e:q=lX v d:=by rw[L4];grind
 have aC:lX q.num q.den=lX v d:=by rw[Rat.num_divInt_den];exact e
 exact (Rat.divInt_eq_divInt_iff (w5 q) aa).1 aC
theorem Cz {q:Rat}{v d:Int}(aa:d≠0)(h:q*(d:Rat)=(v:Rat)):q.num.natAbs<=v.natAbs/\q.den<=d.natAbs:=by
 have G:=awi aa h
 have lN:q.num.natAbs*d.natAbs=v.natAbs*q.den:=by
  have:=congrArg Int.natAbs G;rwa [qG,qG,mC] at this
 have Ba:q.den∣d.natAbs:=(Nat.Coprime.symm q.reduced).dvd_of_dvd_mul_left ⟨v.natAbs,by rw[lN,rq]⟩
 have VQ:0<d.natAbs:=by omega
 have I:=Nat.le_of_dvd VQ Ba;refine⟨?_,I⟩;obtain⟨m,hm⟩:=Ba;rw[hm] at lN;have VS:=q.den_pos
 have af:q.num.natAbs*m=v.natAbs:=by
  have:q.den*(q.num.natAbs*m)=q.den*v.natAbs:=by rw[rq q.den v.natAbs,<-lN];rw[ahO]
  exact Nat.eq_of_mul_eq_mul_left VS this
 have ml:0<m:=by
  rcases kV m with al|al
  ·rw[al,Nat.mul_zero] at hm;omega
  ·exact al
 rw[<-af];exact JM _ ml
def dT (b:Nat)(q:Rat):Prop:=q.num.natAbs<=2^b/\q.den<=2^b
theorem L3.sz {N b:Nat}{q:Nat->Rat}(h:L3 N q b){k:Nat}(Q:k<=N):dT b (q k):=by
 obtain⟨v,d,F,I,af⟩:=h;obtain⟨aA,aC⟩:=af k Q;obtain⟨f1,f2⟩:=Cz F aA;exact⟨eP f1 aC,eP f2 I⟩
theorem awj (a b c:Nat)(h:a=2^b):a^c=2^(b*c):=by rw[h,<-Nat.pow_mul]
theorem ah4:∃B:Nat,B=1200/\ee=2^B:=⟨20*60,rfl,awj 1048576 20 60 (by decide)⟩
theorem CA {z:Int}{b:Nat}(h:z.natAbs<=2^b)(ah:b<1200):iC z=true:=by
 obtain⟨B,fU,gu⟩:=ah4;unfold iC;rw[gu,decide_eq_true_eq];exact Nat.lt_of_le_of_lt h (Nat.pow_lt_pow_right (by omega) (by omega))
theorem sY {x y:Int}{a b:Nat}(O:x.natAbs<=2^a)(ar:y.natAbs<=2^b):(x*y).natAbs<=2^(a+b):=by
 rw[qG,vK];exact oS O ar
theorem ah5 {x y:Int}{a:Nat}(O:x.natAbs<=2^a)(ar:y.natAbs<=2^a):(x+y).natAbs<=2^(a+1):=by
 have:=Int.natAbs_add_le x y;rw[wD];omega
theorem dT.mono {a b:Nat}{q:Rat}(h:dT a q)(Ab:a<=b):dT b q:=by
 have aE:2^a<=2^b:=wT (by omega) Ab;exact⟨eP h.1 aE,eP h.2 aE⟩
theorem Zh {x y:Rat}{a b:Nat}(O:dT a x)(ar:dT b y)(h:a+b<1200):z6 x y=true:=by
 unfold z6;rw[ec];exact⟨CA (sY O.1 ar.1) h,CA (sY (x:=(x.den:Int)) (y:=(y.den:Int)) (by simpa using O.2) (by simpa using ar.2)) h⟩
theorem ah6 {x y:Rat}{a b:Nat}(O:dT a x)(ar:dT b y)(h:a+b<1200):w4 x y=true:=by
 unfold w4;rw[ec];exact⟨CA (sY (y:=(y.den:Int)) O.1 (by simpa using ar.2)) h,CA (sY (x:=(x.den:Int)) (by simpa using O.2) ar.1) h⟩
theorem Ex {x y:Rat}{a b:Nat}(O:dT a x)(ar:dT b y)(h:a+b+1<1200):mD x y=true:=by
 unfold mD;have F:=sY (y:=(y.den:Int)) O.1 (by simpa using ar.2);have I:=sY (y:=(x.den:Int)) ar.1 (by simpa using O.2);rw[y6 b a] at I;simp only[ec];exact⟨CA F (by omega),CA I (by omega),CA (ah5 F I) h,CA (sY (x:=(x.den:Int)) (y:=(y.den:Int)) (by simpa using O.2) (by simpa using ar.2)) (by omega)⟩
theorem HR {b:Nat}{q:Rat}(h:dT b q):dT b (-q):=⟨by rw[ah7,Int.natAbs_neg];exact h.1,h.2⟩
theorem Zi {p q:Int}{b:Nat}(F:p.natAbs<=2^b)(I:q.natAbs<=2^b)(aG:q≠0):dT b (lX p q):=by
 have aK4:(q:Rat)≠0:=by rw[Ne,ah3];exact aG
 have:=Cz (q:=lX p q) (v:=p) aG (by rw[L4];grind);exact⟨eP this.1 F,eP this.2 I⟩
theorem L5 {x y:Rat}{a b:Nat}(O:dT a x)(ar:dT b y):dT (a+b) (x*y):=by
 rw[<-Wv];exact Zi (sY O.1 ar.1) (sY (x:=(x.den:Int)) (y:=(y.den:Int)) (by simpa using O.2) (by simpa using ar.2)) (z7 (w5 x) (w5 y))
theorem ah8 {x y:Rat}{a b:Nat}(O:dT a x)(ar:dT b y):dT (a+b+1) (x+y):=by
 rw[<-Wu];have F:=sY (y:=(y.den:Int)) O.1 (by simpa using ar.2);have I:=sY (y:=(x.den:Int)) ar.1 (by simpa using O.2);rw[y6 b a] at I;have af:=sY (x:=(x.den:Int)) (y:=(y.den:Int)) (a:=a) (b:=b) (by simpa using O.2) (by simpa using ar.2);exact Zi (ah5 F I) (eP af (wT (by omega) (by omega))) (z7 (w5 x) (w5 y))
theorem awk {x y:Rat}{a b:Nat}(O:dT a x)(ar:dT b y)(al:y≠0):dT (a+b) (x/y):=by
 rw[<-Ww];have aK:y.num≠0:=λh=>al (ahQ.1 h);exact Zi (sY (y:=(y.den:Int)) O.1 (by simpa using ar.2)) (sY (x:=(x.den:Int)) (by simpa using O.2) ar.1) (z7 (w5 x) aK)
def uq (A:eH)(σ:Nat->Nat)(k:Nat):fY:=λi=>A (σ i) k
def p7:Nat->List Nat
 |0=>[]
 |p+1=>p::p7 p
theorem CB {k:Nat}:∀{p:Nat},k∈p7 p↔k<p
 |0=>by simp[p7]
 |p+1=>by
  simp only[p7,hE,CB (p:=p)];omega
theorem ah9 {l:Nat}:∀{p:Nat},l<p->∃dg gi,p7 p=dg++l::gi/\∀m,m∈dg++gi↔m<p/\m≠l
 |0,h=>by omega
 |p+1,h=>by
  by_cases aq:l=p
  ·subst aq;refine⟨[],p7 l,rfl,λm=>?_⟩;rw[jg,CB];omega
  ·obtain⟨dg,gi,F,I⟩:=ah9 (l:=l) (p:=p) (by omega);refine⟨p::dg,gi,by simp[p7,F],λm=>?_⟩
   rw[jO,hE,I];omega
def rS (A:eH)(σ:Nat->Nat)(p:Nat):List fY:=(p7 p).map (uq A σ)
theorem QC {n:Nat}{c c':fY}(dg gi:List fY)(h:∀i,i<n->c i=c' i):gK n (dg++c::gi)=gK n (dg++c'::gi):=by
 have:=ahH (n:=n) (dg.map (λx=>(x,x))++(c,c')::gi.map (λx=>(x,x))) B3 Prod.snd (λa aN i M=>by
  simp only[kg,hE,dS] at aN;rcases aN with ⟨x,_,rfl⟩|rfl|⟨x,_,rfl⟩
  ·rfl
  ·exact h i M
  ·rfl)
 simpa [Function.comp_def] using this
theorem aia {A:eH}{σ τ:Nat->Nat}{p:Nat}(h:∀i,i<p->σ i=τ i):gK p (rS A σ p)=gK p (rS A τ p) :=
 ahH _ _ _ λa _ i M=>by unfold uq;rw[h i M]
def L6 (N:Nat)(A aL:eH)(σ:Nat->Nat)(p:Nat):Prop:=∀i,i<N->∀k,p<=k->k<=N->A (σ i) k=(if i<p then 0 else aL i k)+bE p λl=>A (σ i) l*aL l k
def lE (N:Nat)(A aL:eH)(p:Nat):Prop:=∃σ:Nat->Nat,(∀i,i<N->σ i<N)/\(∀i j,i<N->j<N->σ i=σ j->i=j)/\L6 N A aL σ p/\gK p (rS A σ p)≠0
theorem lE.start (N:Nat)(A:eH):lE N A A 0:=by
 refine⟨λi=>i,λi h=>h,λi j _ _ h=>h,λi M k _ Q=>?_,?_⟩
 ·rw[ae (by omega)];show A i k=A i k+0;grind
 ·show (1:Rat)≠0;decide
theorem awl {p:Nat}(a x y:Nat->Rat)(t:Rat):bE p (λl=>a l*(x l-y l*t))=bE p (λl=>a l*x l)-t*bE p λl=>a l*y l:=by
 have:(λl=>a l*(x l-y l*t))=λl=>a l*x l+(-t)*(a l*y l):=by funext l;grind
 rw[this,vH,Aq];grind
theorem lE.step {N p s:Nat}{A aL:eH}(h:lE N A aL p)(aE:p<N)(U:p<=s)(Ar:s<N)(bC:aL s p≠0):lE N A (oR aL p p s) (p+1):=by
 obtain⟨σ,hσ,HS,ab,aa⟩:=h
 let π:Nat->Nat:=λi=>if i=s then p else if i=p then s else i
 have hπ:∀i,hj aL p s i=aL (π i):=by
  intro i;show (if i=s then aL p else if i=p then aL s else aL i)=aL (if i=s then p else if i=p then s else i)
  split
  ·rfl
  ·split<;>rfl
 have hπN:∀i,i<N->π i<N:=λi M=>by show (if i=s then p else if i=p then s else i)<N;split<;>(try split)<;>omega
 have hπp:∀i,i<p->π i=i:=λi M=>by show (if i=s then p else if i=p then s else i)=i;rw[ae (by omega),ae (by omega)]
 have hπq:∀i,p<=i->p<=π i:=λi M=>by show p<=(if i=s then p else if i=p then s else i);split<;>(try split)<;>omega
 have hπj:∀i j,π i=π j->i=j:=λi j=>by
  show (if i=s then p else if i=p then s else i)=(if j=s then p else if j=p then s else j)->i=j
  (repeat' split)<;>omega
 have aib:∀i j,i<N->j<N->σ (π i)=σ (π j)->i=j:=λi j M aj h=>hπj i j (HS _ _ (hπN i M) (hπN j aj) h)
 have cJ:L6 N A (hj aL p s) (λi=>σ (π i)) p:=by
  intro i M k jB gy;have:=ab (π i) (hπN i M) k jB gy;rw[this]
  congr 1
  ·by_cases m3:i<p
   ·rw[ad m3,ad (by rw[hπp i m3];exact m3)]
   ·rw[ae m3,ae (by have:=hπq i (by omega);omega),hπ]
  ·refine j1 λl aq=>?_;rw[hπ l,hπp l aq]
 have awm:hj aL p s p p≠0:=by rw[Qg];exact bC
 generalize awn:hj aL p s=S at *
 have aG:oR aL p p s=λi k=>if i=p then S p k/S p p else S i k-S i p*(S p k/S p p):=by
  funext i k;unfold oR;rw[awn]
 rw[aG]
 have nb:gK p (rS A (λi=>σ (π i)) p)≠0:=by
  rw[aia (τ:=σ) λi M=>by show σ (π i)=σ i;rw[hπp i M]]
  exact aa
 have hσ2:∀i,i<N->σ (π i)<N:=λi M=>hσ _ (hπN i M)
 change ∀i,i<N->(λi=>σ (π i)) i<N at hσ2
 change ∀i j,i<N->j<N->(λi=>σ (π i)) i=(λi=>σ (π i)) j->i=j at aib
 generalize hτ:(λi=>σ (π i))=τ at *;refine⟨τ,hσ2,aib,λi M k jB gy=>?_,?_⟩
 ·have aA:=cJ i M k (by omega) gy;have aC:=cJ i M p (by omega) (by omega);simp only[bE,if_true];rw[j1 (g:=λl=>A (τ i) l*(S l k-S l p*(S p k/S p p))) λl aq=>by rw[ae (by omega)],awl]
  generalize bE p (λl=>A (τ i) l*S l k)=dg at *;generalize bE p (λl=>A (τ i) l*S l p)=gi at *
  by_cases F:i<p
  ·rw[ad F] at aA aC;rw[ad (by omega)];grind
  ·rw[ae F] at aA aC
   by_cases I:i=p
   ·subst I;rw[ad (by omega)];grind
   ·rw[ae (by omega),ae I];grind
 ·have G:gK (p+1) (rS A τ (p+1))=S p p*gK p (rS A τ p):=by
   show gK (p+1) ([]++uq A τ p::rS A τ p)=_
   rw[QC (c':=Cy (λi=>if i<p then 0 else S i p) (λi=>bE p λl=>S l p*uq A τ l i) 1) [] _ λi M=>by
    have:=cJ i (by omega) p (by omega) (by omega);show A (τ i) p=(if i<p then 0 else S i p)+1*bE p λl=>S l p*A (τ i) l;rw[this,Qx]
    congr 1
    exact j1 λl _=>ur _ _]
   rw[Ev,LZ,sT λl aq=>by
    rw[Y6 (by rw[jg];exact pt (CB.2 aq))];exact nu _]
   rw[jg,ahG λi M=>ad M,ae (by omega)];grind
  rw[G];intro al;rcases Zj.1 al with al|al
  ·exact awm al
  ·exact nb al
theorem awo {N p l k:Nat}{A aL:eH}{σ:Nat->Nat}(ab:L6 N A aL σ p)(aE:p<=N)(aq:l<p)(jB:p<=k)(gy:k<=N):∃dg gi:List Nat,p7 p=dg++l::gi/\(∀m∈dg++gi,m<p)/\aL l k*gK p (rS A σ p)=gK p ((dg++k::gi).map (uq A σ)):=by
 obtain⟨dg,gi,nk,hm⟩:=ah9 aq;refine⟨dg,gi,nk,λm acJ=>((hm m).1 acJ).1,?_⟩
 ·rw[kI,eE]
  rw[QC (c':=λi=>bE p λm=>aL m k*uq A σ m i) _ _ λi M=>by
   have:=ab i (by omega) k jB gy;rw[ad M] at this;show A (σ i) k=bE p λm=>aL m k*A (σ i) m;rw[this,vM];exact j1 λl _=>ur _ _]
  rw[LZ,xi aq λm awp mh=>by
   rw[Y6 (by rw[<-kI];exact pt ((hm m).2 ⟨awp,mh⟩))];exact nu _]
  unfold rS;rw[nk,kI,eE]
theorem awq {N p i k:Nat}{A aL:eH}{σ:Nat->Nat}(ab:L6 N A aL σ p)(ra:p<=i)(nN:i<N)(jB:p<=k)(gy:k<=N):aL i k*gK p (rS A σ p)=gK (p+1) ((k::p7 p).map (uq A λj=>if j=p then σ i else σ j)):=by
 have hτ:∀j,j<p->(λj=>if j=p then σ i else σ j) j=σ j:=λj aj=>ae (by omega);have hτp:(λj=>if j=p then σ i else σ j) p=σ i:=ad rfl;generalize (λj=>if j=p then σ i else σ j)=τ at *;show _=gK (p+1) ([]++uq A τ k::rS A τ p)
 rw[QC (c':=Cy (λj=>if j<p then 0 else aL i k) (λj=>bE p λl=>aL l k*uq A τ l j) 1) [] _ λj aj=>by
  show A (τ j) k=(if j<p then 0 else aL i k)+1*bE p λl=>aL l k*A (τ j) l;rw[Qx]
  by_cases HB:j<p
  ·have:=ab j (by omega) k jB gy;rw[ad HB] at this ⊢;rw[hτ j HB,this]
   congr 1
   exact j1 λl _=>ur _ _
  ·obtain rfl:j=p:=by omega
   have:=ab i nN k jB gy;rw[ae (by omega)] at this;rw[ae HB,hτp,this]
   congr 1
   exact j1 λl _=>ur _ _]
 rw[Ev,LZ,sT λl aq=>by
  rw[Y6 (by rw[jg];exact pt (CB.2 aq))];exact nu _]
 rw[jg,ahG λi M=>ad M,ae (by omega),aia λj aj=>(hτ j aj).symm];grind
theorem awr (n:Nat)(dg gi:List fY)(x:fY)(a:Rat):gK n (dg++(λi=>a*x i)::gi)=a*gK n (dg++x::gi):=by
 have:=LZ n dg gi (λ_=>a) (λ_=>x) 1;simp only[bE] at this;rw[vM] at this;rw[<-this];exact QC dg gi λi _=>(vM _).symm
theorem aic (n:Nat)(cb:Nat->Rat)(C:Nat->fY):∀(L:List Nat) (dg:List fY),∃a:Rat,((∀k∈L,cb k≠0)->a≠0)/\gK n (dg++L.map λk=>λi=>cb k*C k i)=a*gK n (dg++L.map C)
 | [],dg=>⟨1,λ_=>by decide,by rw[Qx];rfl⟩
 |k::L,dg=>by
  obtain⟨a,F,I⟩:=aic n cb C L (dg++[C k]);refine⟨cb k*a,λh=>?_,?_⟩
  ·intro al;rcases Zj.1 al with al|al
   ·exact h k gn al
   ·exact F (λm hm=>h m (gX _ hm)) al
  ·simp only[eE,gU,jO,jg] at I ⊢;rw[awr,I,Rat.mul_assoc]
structure uu (N:Nat) (A:eH) (δ v:Nat):Prop where
 ex:∃(cb:Nat->Nat) (u w:Nat->Int),iG N cb<=2^δ/\(∀k,0<cb k)/\(∀k,k<N->∃b:Nat->Nat,fe N b<=2*cb k/\∀i,i<N->eN (b i) (cb k*A i k))/\(∀k,k<N->(u k).natAbs<=2^v)/\∀i,i<N->(w i).natAbs<=2^v/\A i N=bE N (λk=>A i k*(u k:Rat))+(w i:Rat)
def lF (e:Nat->Nat):List Nat->Nat
 | []=>1
 |m::l=>e m*lF e l
theorem aid (e:Nat->Nat)(a b:List Nat):lF e (a++b)=lF e a*lF e b:=by
 induction a with
 |nil=>simp[lF]
 |cons p l ax=>simp only[jO,lF,ax,Ew]
theorem aws {e f:Nat->Nat}{l:List Nat}(h:∀m∈l,e m=f m):lF e l=lF f l:=by
 induction l with
 |nil=>rfl
 |cons m l ax=>rw[lF,lF,ax λx O=>h x (gX _ O),h m gn]
theorem aie (cb:Nat->Nat):∀p,lF (λm=>2*cb m) (p7 p)=2^p*iG p cb
 |0=>rfl
 |p+1=>by
  rw[p7,lF,aie cb p,iG,wD];grind
theorem Zk {N n:Nat}{A:eH}{e:Nat->Nat}(dZ:∀k,k<=N->∃b:Nat->Nat,fe N b<=e k/\∀i,i<N->eN (b i) (A i k)){τ:Nat->Nat}(F:∀i,i<n->τ i<N)(I:∀i j,i<n->j<n->τ i=τ j->i=j)(L:List Nat)(gu:∀m∈L,m<=N):eN (lF e L) (gK n (L.map (uq A τ))):=by
 have⟨B,fU⟩:∃B:Nat->Nat->Nat,∀k,k<=N->fe N (B k)<=e k/\∀i,i<N->eN (B k i) (A i k):=by
  refine⟨λk=>if h:k<=N then (dZ k h).choose else λ_=>0,λk Q=>?_⟩;dsimp only;rw[dif_pos Q];exact (dZ k Q).choose_spec
 have h:=ahP n (L.map λk=>(uq A τ k,λi=>B k (τ i))) λp aE i M=>by
  obtain⟨m,hm,rfl⟩:=dS.1 aE;exact (fU m (gu m hm)).2 _ (F i M)
 rw[lo] at h;refine eN.mono h ?_;clear h
 induction L with
 |nil=>exact bW _
 |cons m L ax =>
  rw[eE,m4,lF];exact oS (eP (Za (B m) F I) (fU m (gu m gn)).1) (ax λx O=>gu x (gX _ O))
structure awt (N:Nat) (aL:eH) (δ v p:Nat) (cb:Nat->Nat) (u:Nat->Int) (d:Int):Prop where
 d0:d≠0
 pos:∀k,0<cb k
 aif:iG N cb<=2^δ
 aih:∀k,k<N->(u k).natAbs<=2^v
 Dp:d.natAbs<=2^p*iG p cb
 aii:∀i,i<N->∀k,p<=k->k<N->eN (2^(p+1)*(iG p cb*cb k)) (aL i k*(cb k*d))
 val:∀i,i<N->eN (2^p*iG p cb*(N*2^v)) ((aL i N-(if i<p then (u i:Rat) else 0)-bE N λk=>if p<=k then aL i k*(u k:Rat) else 0)*d)
theorem lE.aij {N p δ v:Nat}{A aL:eH}(dZ:uu N A δ v)(h:lE N A aL p)(aE:p<=N):∃cb u d,awt N aL δ v p cb u d:=by
 obtain⟨σ,hσ,HS,ab,aa⟩:=h;obtain⟨cb,u,w,cU,de,a3,a4,a5⟩:=dZ
 have L7:∀m,((cb m:Nat):Rat)≠0:=λm=>by
  have:=de m;rw[Ne,Rat.natCast_eq_zero_iff];omega
 -- the scaled matrix, with the whole numbers of the values
 have bG:L6 N (λi k=>if k<N then cb k*A i k else (w i:Rat)) (λl k=>if k<N then (if l<p then cb k*aL l k/cb l else cb k*aL l k) else (if l<p then (1:Rat)/cb l else 1)*(aL l N-(if l<p then (u l:Rat) else 0)-bE N λk=>if p<=k then aL l k*(u k:Rat) else 0)) σ p:=by
  intro i M k jB gy
  by_cases oP:k<N
  ·have:=ab i M k jB gy;dsimp only;rw[ad oP,ad oP,this,Rat.mul_add,<-Aq]
   congr 1
   ·split<;>grind
   ·refine j1 λl aq=>?_;rw[ad oP,ad (by omega),ad aq];have:=L7 l;grind
  ·obtain rfl:k=N:=by omega
   dsimp only;rw[ae oP,ae oP];have aA:=ab i M k jB gy;have aC:=(a5 (σ i) (hσ i M)).2
   have bZ:(λm=>A (σ i) m*(u m:Rat))=λm=>(if m<p then A (σ i) m*(u m:Rat) else 0)+if p<=m then A (σ i) m*(u m:Rat) else 0:=by
    funext m
    by_cases hm:m<p
    ·rw[ad hm,ae (by omega),oQ]
    ·rw[ae hm,ad (by omega),vM]
   have dq:bE k (λm=>if p<=m then A (σ i) m*(u m:Rat) else 0)=bE k λm=>(if p<=m then (if i<p then 0 else aL i m*(u m:Rat)) else 0)+bE p λl=>A (σ i) l*(if p<=m then aL l m*(u m:Rat) else 0):=j1 λm hm=>by
    by_cases oD:p<=m
    ·rw[ad oD,ad oD,ab i M m oD (by omega),Rat.add_mul]
     congr 1
     ·split<;>grind
     ·rw[ur,<-Aq];refine j1 λl _=>?_;rw[ad oD];grind
    ·rw[ae oD,ae oD,vM];exact (sT λl _=>by rw[ae oD,nu]).symm
   rw[bZ,vH,dq,vH,avC] at aC
   have cL:bE k (λm=>if m<p then A (σ i) m*(u m:Rat) else 0)=bE p λl=>A (σ i) l*(u l:Rat):=by
    have:∀n,p<=n->bE n (λm=>if m<p then A (σ i) m*(u m:Rat) else 0)=bE p λl=>A (σ i) l*(u l:Rat):=by
     intro n
     induction n with
     |zero =>
          intro h;obtain rfl:p=0:=by omega
          rfl
     |succ n ax =>
      intro h
      by_cases CC:p=n+1
      ·rw[CC];exact j1 λm hm=>ad hm
      ·rw[bE,ax (by omega),ae (by omega),oQ]
    exact this k aE
   rw[cL] at aC
   have bY:(bE p λl=>(λi uv=>if uv<k then (cb uv:Rat)*A i uv else (w i:Rat)) (σ i) l*((if l<p then (1:Rat)/cb l else 1)*(aL l k-(if l<p then (u l:Rat) else 0)-bE k λm=>if p<=m then aL l m*(u m:Rat) else 0)))=bE p (λl=>A (σ i) l*aL l k)-bE p (λl=>A (σ i) l*(u l:Rat))-bE p λl=>bE k λm=>A (σ i) l*(if p<=m then aL l m*(u m:Rat) else 0):=by
    have:∀f g h:Nat->Rat,bE p (λl=>f l-g l-h l)=bE p f-bE p g-bE p h:=λf g h=>by
     have e:(λl=>f l-g l-h l)=λl=>f l+((-1)*g l+(-1)*h l):=by funext l;grind
     rw[e,vH,vH,Aq,Aq];grind
    rw[<-this];refine j1 λl aq=>?_;dsimp only;rw[ad (by omega),ad aq,ad aq,Aq];have:=L7 l;grind
   have bR:(bE p λl=>(λi uv=>if uv<k then (cb uv:Rat)*A i uv else (w i:Rat)) (σ i) l*(λl uv=>if uv<k then (if l<p then (cb uv:Rat)*aL l uv/cb l else cb uv*aL l uv) else (if l<p then (1:Rat)/cb l else 1)*(aL l k-(if l<p then (u l:Rat) else 0)-bE k λm=>if p<=m then aL l m*(u m:Rat) else 0)) l k)=bE p (λl=>A (σ i) l*aL l k)-bE p (λl=>A (σ i) l*(u l:Rat))-bE p λl=>bE k λm=>A (σ i) l*(if p<=m then aL l m*(u m:Rat) else 0):=by
    rw[<-bY];refine j1 λl aq=>?_;dsimp only;rw[ae (by omega:¬ k<k)]
   dsimp only at bR;rw[bR]
   by_cases m3:i<p
   ·rw[ad m3] at aA ⊢;have ef:bE k (λm=>if p<=m then (if i<p then 0 else aL i m*(u m:Rat)) else 0)=0:=sT λm _=>by rw[ad m3];split<;>rfl
    rw[ef] at aC;grind
   ·rw[ae m3] at aA ⊢;have ef:bE k (λm=>if p<=m then (if i<p then 0 else aL i m*(u m:Rat)) else 0)=bE k λm=>if p<=m then aL i m*(u m:Rat) else 0:=j1 λm _=>by rw[ae m3]
    rw[ef] at aC;rw[ae m3,ae m3];grind
 have mw:gK p (rS (λi k=>if k<N then cb k*A i k else (w i:Rat)) σ p)≠0:=by
  obtain⟨a,F,I⟩:=aic p (λk=>(cb k:Rat)) (uq A σ) (p7 p) []
  have L8:rS (λi k=>if k<N then cb k*A i k else (w i:Rat)) σ p=(p7 p).map λk=>λi=>(cb k:Rat)*uq A σ k i:=by
   unfold rS;refine jM λm hm=>?_;have:=CB.1 hm
   funext i
   show (if m<N then (cb m:Rat)*A (σ i) m else (w (σ i):Rat))=_;rw[ad (by omega)];rfl
  rw[jg,jg] at I;rw[L8,I];intro al;rcases Zj.1 al with al|al
  ·exact F (λm hm=>L7 m) al
  ·exact aa al
 have Ey:∀k,k<=N->∃b:Nat->Nat,fe N b<=(if k<N then 2*cb k else N*2^v)/\∀i,i<N->eN (b i) ((λi k=>if k<N then (cb k:Rat)*A i k else (w i:Rat)) i k):=by
  intro k Q
  by_cases oP:k<N
  ·obtain⟨b,df,eD⟩:=a3 k oP;refine⟨b,by rw[ad oP];exact df,λi M=>?_⟩
   dsimp only;rw[ad oP];exact eD i M
  ·refine⟨λ_=>2^v,?_,λi M=>?_⟩
   ·rw[ae oP]
    have:∀n,fe n (λ_=>2^v)=n*2^v:=λn=>by
     induction n with
     |zero=>simp[fe]
     |succ n ax=>rw[fe,ax,ti]
    rw[this];exact bW _
   ·dsimp only;rw[ae oP];exact eN.mono (eN.int _) (a5 i M).1
 generalize aK5:(λ(i k:Nat)=>if k<N then (cb k:Rat)*A i k else (w i:Rat))=HM at *;generalize Zl:(λk=>if k<N then 2*cb k else N*2^v)=e at *
 have Zm:∀k,k<=N->∃b:Nat->Nat,fe N b<=e k/\∀i,i<N->eN (b i) (HM i k):=by
  intro k Q;rw[<-Zl];exact Ey k Q
 have Zn:∀m,m<N->e m=2*cb m:=λm hm=>by rw[<-Zl];exact ad hm
 have awu:e N=N*2^v:=by rw[<-Zl];exact ae (by omega)
 have Zo:lF e (p7 p)=2^p*iG p cb:=by
  rw[<-aie];exact aws λm hm=>Zn m (by have:=CB.1 hm;omega)
 have hσp:∀i,i<p->σ i<N:=λi M=>hσ i (by omega);have m3:∀i j,i<p->j<p->σ i=σ j->i=j:=λi j M aj=>HS i j (by omega) (by omega);have tp:=Zk Zm hσp m3 (p7 p) λm hm=>by have:=CB.1 hm;omega
 rw[Zo] at tp;obtain⟨d,zP,wN⟩:=tp
 change gK p (rS HM σ p)=(d:Rat) at zP
 have BH:d≠0:=by
  intro al;rw[zP,al] at mw;exact mw (by rfl)
 -- both kinds of rows
 have fQ:∀l,l<p->∀k,p<=k->k<=N->∃m:Int,(λl k=>if k<N then (if l<p then (cb k:Rat)*aL l k/cb l else cb k*aL l k) else (if l<p then (1:Rat)/cb l else 1)*(aL l N-(if l<p then (u l:Rat) else 0)-bE N λk=>if p<=k then aL l k*(u k:Rat) else 0)) l k*(d:Rat)=(m:Rat)/\cb l*m.natAbs<=2^p*iG p cb*e k:=by
  intro l aq k jB gy;obtain⟨dg,gi,a8,bV,cZ⟩:=awo bG aE aq jB gy
  have ah:=Zk Zm hσp m3 (dg++k::gi) λm hm=>by
   have:m=k\/m∈dg++gi:=by
    simp only[kg,hE] at hm ⊢;rcases hm with h|h|h<;>simp[h]
   rcases this with h|h
   ·omega
   ·have:=bV m h;omega
  obtain⟨m,dx,cM⟩:=ah;rw[zP,dx] at cZ;refine⟨m,cZ,?_⟩;have aA:lF e (dg++k::gi)=lF e dg*(e k*lF e gi):=by rw[aid,lF]
  have aC:lF e dg*(2*cb l*lF e gi)=2^p*iG p cb:=by
   rw[<-Zo,a8,aid,lF,Zn l (by omega)]
  rw[aA] at cM;rw[<-aC];generalize lF e dg=x at *;generalize lF e gi=y at *;have ca:=oS (bW (cb l)) cM;have c7:x*(2*cb l*y)*e k=cb l*(x*(e k*y))+cb l*(x*(e k*y)):=by grind
  rw[c7];omega
 have jb:∀i,p<=i->i<N->∀k,p<=k->k<=N->∃m:Int,(λl k=>if k<N then (if l<p then (cb k:Rat)*aL l k/cb l else cb k*aL l k) else (if l<p then (1:Rat)/cb l else 1)*(aL l N-(if l<p then (u l:Rat) else 0)-bE N λk=>if p<=k then aL l k*(u k:Rat) else 0)) i k*(d:Rat)=(m:Rat)/\m.natAbs<=2^p*iG p cb*e k:=by
  intro i ra nN k jB gy;have aik:=awq bG ra nN jB gy
  have hτ:∀j,j<p+1->(λj=>if j=p then σ i else σ j) j<N:=λj aj=>by
   show (if j=p then σ i else σ j)<N
   split
   ·exact hσ i nN
   ·exact hσ j (by omega)
  have hτj:∀j k,j<p+1->k<p+1->(λj=>if j=p then σ i else σ j) j=(λj=>if j=p then σ i else σ j) k->j=k:=λj k aj Q=>by
   show (if j=p then σ i else σ j)=(if k=p then σ i else σ k)->j=k;intro h
   by_cases aI:j=p
   ·by_cases c2:k=p
    ·omega
    ·rw[ad aI,ae c2] at h;have:=HS _ _ nN (by omega) h;omega
   ·by_cases c2:k=p
    ·rw[ae aI,ad c2] at h;have:=HS _ _ (by omega) nN h;omega
    ·rw[ae aI,ae c2] at h;exact HS _ _ (by omega) (by omega) h
  obtain⟨m,dx,cM⟩:=Zk Zm hτ hτj (k::p7 p) λm hm=>by
   rcases hE.1 hm with h|h
   ·omega
   ·have:=CB.1 h;omega
  rw[zP,dx] at aik;refine⟨m,aik,eP cM ?_⟩;rw[lF,Zo,rq];exact bW _
 refine⟨cb,u,d,BH,de,cU,a4,wN,λi M k jB gy=>?_,λi M=>?_⟩
 ·have Wz:2^(p+1)*(iG p cb*cb k)=2^p*iG p cb*e k:=by rw[Zn k gy,wD];grind
  rw[Wz]
  by_cases ay:i<p
  ·obtain⟨m,dx,cM⟩:=fQ i ay k jB (by omega);dsimp only at dx;rw[ad gy,ad ay] at dx;refine⟨cb i*m,?_,by rw[qG,mC];exact cM⟩
   rw[p6,<-dx,ob];have:=L7 i;grind
  ·obtain⟨m,dx,cM⟩:=jb i (by omega) M k jB (by omega);dsimp only at dx;rw[ad gy,ae ay] at dx;refine⟨m,?_,cM⟩;rw[<-dx];grind
 ·rw[<-awu]
  by_cases ay:i<p
  ·obtain⟨m,dx,cM⟩:=fQ i ay N aE (bW _);dsimp only at dx;rw[ae (by omega:¬ N<N),ad ay,ad ay] at dx;refine⟨cb i*m,?_,by rw[qG,mC];exact cM⟩
   rw[p6,<-dx,ob,ad ay];have:=L7 i;grind
  ·obtain⟨m,dx,cM⟩:=jb i (by omega) M N aE (bW _);dsimp only at dx;rw[ae (by omega:¬ N<N),ae ay,ae ay] at dx;refine⟨m,?_,cM⟩;rw[<-dx,ae ay];grind
def HT (N:Nat)(A:eH)(eR aO:Nat):Prop:=∀aL p,p<=N->lE N A aL p->∀i k,i<N->p<=k->k<=N->dT eR (aL i k)/\(k<N->dT aO (aL i k))
theorem uu.ail {N δ v:Nat}{A:eH}(dZ:uu N A δ v)(gB:N<=7):HT N A (N+δ+v+4) (N+δ):=by
 intro aL p aE h i k M jB gy;obtain⟨cb,u,d,aK⟩:=h.aij dZ aE;obtain⟨cg,aK6,eY,eh⟩:=ahL aK.pos aE;have Ez:=aK.aif;rw[eY] at Ez
 have awv:∀k,p<=k->k<N->iG p cb*cb k<=iG p cb*cg:=λk F I=>by
  obtain⟨m,hm⟩:=eh k F I;refine oS (bW _) ?_
  have:0<m:=by
   rcases kV m with h|h
   ·rw[h] at hm;omega
   ·exact h
  rw[hm];exact JM _ this
 have GP:∀q,q<=N->∀x,x<=2^δ->2^q*x<=2^(N+δ):=λq aG x O=>by
  rw[vK];exact oS (wT (by omega) aG) O
 have e5:∀k,p<=k->k<N->dT (N+δ) (aL i k):=λk jB gy=>by
  obtain⟨z,jm,kl⟩:=aK.aii i M k jB gy;have aK7:=aK.pos k;obtain⟨f1,f2⟩:=Cz (q:=aL i k) (v:=z) (d:=(cb k:Int)*d) (z7 (by omega) aK.d0) (by rw[<-jm,p6,ob]);have hle:=eP (awv k jB gy) Ez;refine⟨eP f1 (eP kl (GP _ (by omega) _ hle)),eP f2 ?_⟩;rw[qG,mC];refine eP (oS (bW _) aK.Dp) (eP ?_ (GP p aE _ hle));exact An (by grind)
 by_cases oP:k<N
 ·exact⟨(e5 k jB oP).mono (by omega),λ_=>e5 k jB oP⟩
 refine⟨?_,λh=>absurd h oP⟩;obtain rfl:k=N:=by omega
 have hM:=aK.val i M;have fU:∀q,q<=k->2^q*(iG p cb*cg)<=2^(k+δ):=λq aG=>GP q aG _ Ez
 -- the three parts, times d and cg
 have iO:eN (k*2^(k+δ+v)) ((aL i k-(if i<p then (u i:Rat) else 0)-bE k λm=>if p<=m then aL i m*(u m:Rat) else 0)*d*(cg:Rat)):=by
  refine (hM.mul (eN.nat (bW cg))).mono ?_;have:=oS (fU p aE) (bW (k*2^v));refine eP (An ?_) (eP this (An ?_))
  ·grind
  ·rw[vK 2 (k+δ) v];grind
 have ju:eN (2^(k+δ+v)) ((if i<p then (u i:Rat) else 0)*d*(cg:Rat)):=by
  have hu:eN (2^v) (if i<p then (u i:Rat) else 0):=by
   split
   ·exact eN.mono (eN.int _) (aK.aih i M)
   ·exact eN.zero
  refine ((hu.mul (eN.mono (eN.int d) aK.Dp)).mul (eN.nat (bW cg))).mono ?_;have:=oS (fU p aE) (bW (2^v));refine eP (An ?_) (eP this (An ?_))
  ·grind
  ·rw[vK 2 (k+δ) v]
 have ud:eN (k*2^(k+δ+v)) ((bE k λm=>if p<=m then aL i m*(u m:Rat) else 0)*d*(cg:Rat)):=by
  have e:(bE k λm=>if p<=m then aL i m*(u m:Rat) else 0)*(d:Rat)*(cg:Rat)=bE k λm=>((d:Rat)*(cg:Rat))*(if p<=m then aL i m*(u m:Rat) else 0):=by
   rw[Aq];grind
  rw[e];refine eN.sum k λm hm=>?_
  by_cases oD:p<=m
  ·rw[ad oD];obtain⟨y,ar⟩:=eh m oD hm
   have aC:(d:Rat)*(cg:Rat)*(aL i m*(u m:Rat))=(aL i m*((cb m:Rat)*d))*(y:Rat)*(u m:Rat):=by
    rw[ar,Rat.natCast_mul];grind
   rw[aC];refine (((aK.aii i M m oD hm).mul (eN.nat (bW y))).mul (eN.mono (eN.int (u m)) (aK.aih m hm))).mono ?_;have:=oS (fU (p+1) (by omega)) (bW (2^v));refine eP (An ?_) (eP this (An ?_))
   ·rw[ar];grind
   ·rw[vK 2 (k+δ) v]
  ·rw[ae oD,nu];exact eN.zero
 obtain⟨z,jm,kl⟩:=(iO.add ju).add ud
 have e:aL i k*((d*(cg:Int):Int):Rat)=(z:Rat):=by
  rw[<-jm,p6,ob];grind
 obtain⟨f1,f2⟩:=Cz (z7 aK.d0 (by omega)) e;refine⟨eP f1 (eP kl ?_),eP f2 ?_⟩
 ·rw[vK 2 (k+δ+v) 4];generalize 2^(k+δ+v)=dg at *;have:k*dg<=7*dg:=Nat.mul_le_mul_right _ gB;omega
 ·rw[qG,mC];refine eP (oS aK.Dp (bW cg)) (eP (An ?_) (eP (fU p aE) (wT (by omega) (by omega))));grind
theorem lE.aww {N δ v:Nat}{A aL:eH}(dZ:uu N A δ v)(h:lE N A aL N):∃bj:Nat,0<bj/\bj<=2^(N+δ)/\∀i,i<N->∃z:Int,aL i N*(bj:Rat)=(z:Rat):=by
 obtain⟨cb,u,d,aK⟩:=h.aij dZ (bW N)
 have⟨s,U⟩:∃s:Int,(d.natAbs:Int)=s*d:=by
  rcases Int.natAbs_eq d with e|e
  ·exact⟨1,by omega⟩
  ·exact⟨-1,by omega⟩
 have aa:=aK.d0;refine⟨d.natAbs,by omega,eP aK.Dp ?_,λi M=>?_⟩
 ·rw[vK];exact oS (bW _) aK.aif
 ·obtain⟨z,jm,-⟩:=aK.val i M;rw[ad M,sT λk Q=>ae (by omega)] at jm;refine⟨s*(z+u i*d),?_⟩;have e:((d.natAbs:Nat):Rat)=((d.natAbs:Int):Rat):=(ob _).symm;rw[e,U,p6,p6,vJ,p6,<-jm];grind
def dF (N:Nat)(x:Nat->Rat):List a1:=((dP N).map x).map av
theorem p8 (N:Nat)(x:Nat->Rat):(dF N x).length=N:=by simp[dF]
theorem vN {N k:Nat}(x:Nat->Rat)(h:k<N):(dF N x)[k]?=some (av (x k)):=by
 unfold dF;rw[bq,bq,th h];rfl
theorem L9 {N:Nat}{l:List a1}{x:Nat->Rat}(aq:(D l)=N)(h:∀k,k<N->l[k]?=some (av (x k))):l=dF N x:=by
 apply o4;intro k;rcases h9 k N with Q|Q
 ·rw[h k Q,vN x Q]
 ·rw[ke (by omega),ke (by rw[p8];omega)]
theorem HU {N:Nat}{x y:Nat->Rat}(h:∀k,k<N->x k=y k):dF N x=dF N y :=
 L9 (p8 N x) λk Q=>by rw[vN x Q,h k Q]
theorem Zp {N:Nat}{x:Nat->Rat}(gB:N<=40)(h:∀k,k<N->dm (x k)):e6 (dF N x):=by
 refine⟨by rw[p8];omega,λf aF=>?_⟩
 obtain⟨k,Q⟩:=tD.1 aF;have oP:k<N:=by have:=(dz.1 Q).1;rwa [p8] at this
 rw[vN x oP] at Q
 cases Q;exact lA (h k oP)
def aim (N:Nat)(bj:eH)(x:Nat->Rat):Prop:=(∀y,hT N bj (ext N y (-1))↔∀k,k<N->y k=x k)/\∀y,hT N bj (ext N y 0)->∀k,k<N->y k=0
def CD (N:Nat)(bj:eH):Prop:=∃y,hT N bj (ext N y 0)/\∃k,k<N/\y k≠0
theorem awx {N:Nat}{rows:List du}{aL:eH}(h:xl N rows aL):rows.map (vF N)=dF N (λi=>aL i N) :=
 L9 (by rw[ak];exact h.1) λk Q=>by
  obtain⟨x,O,-,oc⟩:=h.row Q;rw[bq,O,ll];unfold vF;rw[en,oc.get (bW _)]
  rfl
theorem HO.lim {N:Nat}{aL vL:eH}{rows:List du}{p c:Nat}{pv:Nat->Nat}(h:HO N aL vL rows p c pv){i k:Nat}(M:i<N)(Q:k<=N):dm (vL i k):=by
 obtain⟨x,-,-,oc⟩:=h.enc.row M;exact oc.2 k Q
theorem ain {q:Rat}(h:dm q):mD 0 (-q)=true:=by
 unfold mD;simp only[ec]
 have F:iC ((-q).num*((0:Rat).den:Int))=true:=by
  rw[ah7,aio];unfold iC;rw[decide_eq_true_eq];have:=h.1;omega
 refine⟨?_,F,?_,?_⟩
 ·rw[aip,zT];decide +kernel
 ·rw[aip,zT,DN];exact F
 ·rw[aio,Rat.neg_den];unfold iC;rw[decide_eq_true_eq];have:=h.2;omega
theorem aiq:dm 0:=⟨by decide +kernel,by decide +kernel⟩
theorem awy {N f:Nat}{rows:List du}{aL:eH}(h:xl N rows aL)(aF:f<N):LL rows f N f=dF N (sW aL f) :=
 L9 (avB _ _ _ _) λk Q=>by
  unfold LL;rw[bq,th Q,ll];unfold sW
  by_cases F:k<f
  ·rw[ad F,ad F];obtain⟨x,-,ex,oc⟩:=h.row (i:=k) (by omega);rw[ex,oc.cell (by omega),<-ahl,Ps aiq (oc.2 f (by omega)),ain (oc.2 f (by omega))]
   rfl
  ·rw[ae F,ae F]
   by_cases I:k=f
   ·rw[ad I,ad I,avA]
   ·rw[ae I,ae I,ahl]
theorem Zq {N:Nat}{bj aL:eH}(h:∀y,hT N aL y↔hT N bj y):∀y z,hT N aL (ext N y z)↔hT N bj (ext N y z):=λ_ _=>h _
theorem awz {rs:List eV}{n:Int}(h:n3 rs n=true):
  (qS rs n=([],6)) \/
  (∃x,qS rs n=(dF (D rs) x,0)/\YJ rs n=([],false)/\(∀k,k<(D rs)->dm (x k))/\aim (D rs) (qU rs) x) \/
  (∃y,qS rs n=([],17)/\YJ rs n=(dF (D rs) y,true)/\(∀k,k<(D rs)->dm (y k))/\hT (D rs) (qU rs) (ext (D rs) y 0)/\∃k,k<D rs/\y k=1):=by
 unfold qS YJ;rw[ad h];rcases O:qR true rs with ⟨xn,rR,bad⟩
 cases bad
 ·right
  obtain⟨aL,p,c,pv,he,-,U⟩:=awh true h O;rw[ad h];rcases U rfl with ⟨rfl,rfl,rfl,jZ⟩|⟨f,rfl,aF,rfl,rfl,jZ,aS⟩
  ·left
   refine⟨λi=>aL i (D rs),?_,rfl,λk Q=>he.lim Q (bW _),λy=>?_,λy ar=>?_⟩
   ·rw[ae (by simp),ae (by simp),awx he.enc]
   ·rw[<-Zq he.HP];exact ahC he.red jZ y
   ·exact avY he.red jZ y ((Zq he.HP y 0).2 ar)
  ·right
   refine⟨sW aL c,?_,?_,λk Q=>?_,?_,⟨c,aF,by unfold sW;simp⟩⟩
   ·rw[ae (by simp),ad (by simp)]
   ·rw[ae (by simp)];exact congrArg (λl=>(l,true)) (awy he.enc aF)
   ·unfold sW
    split
    ·exact afR (ain (he.lim Q (by omega)))
    ·split
     ·exact⟨by decide +kernel,by decide +kernel⟩
     ·exact aiq
   ·exact (Zq he.HP _ _).1 (ahD he.red jZ aF aS)
 ·left
  rw[ad rfl]
theorem air (aL:eH){N p s:Nat}(aE:p<N)(U:p<=s)(Ar:s<N){i:Nat}(M:i<N):∃bo,bo<N/\hj aL p s i=aL bo:=by
 unfold hj
 by_cases F:i=s
 ·exact⟨p,aE,by rw[ad F]⟩
 ·by_cases I:i=p
  ·exact⟨s,Ar,by rw[ae F,ad I]⟩
  ·exact⟨i,M,by rw[ae F,ae I]⟩
theorem awA (b:Nat)(p:Prop)[Decidable p]:dT b (if p then 1 else 0):=by
 have ah:1<=2^b:=Nat.one_le_two_pow
 split
 ·exact⟨ah,ah⟩
 ·exact⟨fg _,ah⟩
theorem lE.all {N p eR aO:Nat}{A aL:eH}{pv:Nat->Nat}(fU:HT N A eR aO)(h:lE N A aL p)(ab:qT N aL p p pv)(jZ:∀j,j<p->pv j=j)(aE:p<=N){i k:Nat}(M:i<N)(Q:k<=N):dT eR (aL i k):=by
 by_cases ais:k<p
 ·have:=ab.unit k ais i M;rw[jZ k ais] at this;rw[this];exact awA _ _
 ·exact (fU aL p aE h i k M (by omega) Q).1
theorem awB {N p s eR aO:Nat}{A aL:eH}{pv:Nat->Nat}(fU:HT N A eR aO)(h:lE N A aL p)(ab:qT N aL p p pv)(jZ:∀j,j<p->pv j=j)(aE:p<N)(U:p<=s)(Ar:s<N)(bC:aL s p≠0)(kJ:2*eR+aO+1<1200):ahX N (hj aL p s) p p:=by
 have I:=h.step aE U Ar bC;have bG:=ab.piv aE U Ar bC
 have awC:∀j,j<p+1->(if j=p then p else pv j)=j:=λj aj=>by
  split
  ·omega
  ·exact jZ j (by omega)
 have eZ:∀i,i<N->∀k,k<=N->dT eR (hj aL p s i k):=by
  intro i M k Q;obtain⟨bo,F,e⟩:=air aL aE U Ar M;rw[e];exact h.all fU ab jZ (by omega) F Q
 have L8:∀i,i<N->dT aO (hj aL p s i p):=by
  intro i M;obtain⟨bo,F,e⟩:=air aL aE U Ar M;rw[e];exact (fU aL p (by omega) h bo p F (bW p) (by omega)).2 aE
 have ait:∀k,k<=N->dT eR (hj aL p s p k/hj aL p s p p):=by
  intro k Q;have:=I.all fU bG awC (by omega) (i:=p) aE Q;unfold oR at this;rwa [ad rfl] at this
 refine⟨λk Q=>ah6 (eZ p aE k Q) (L8 p aE) (by omega),λi M _ _ k Q=>?_⟩;unfold rQ;rw[ec];exact⟨Zh (L8 i M) (ait k Q) (by omega),Ex (eZ i M k Q) (HR (L5 (L8 i M) (ait k Q))) (by omega)⟩
theorem awD {N eR aO:Nat}{A:eH}(fU:HT N A eR aO)(kJ:2*eR+aO+1<1200):
  ∀k p rows aL pv,p+k=N->HO N A aL rows p p pv->lE N A aL p->(∀j,j<p->pv j=j)->(l1 true k p rows [] false).2.2=false:=by
 intro k
 induction k with
 |zero=>intro p rows aL pv _ _ _ _;rfl
 |succ k ax =>
  intro p rows aL pv aE he aa jZ;unfold l1;rw[lq,Ap];rcases ahY he.enc (r:=p) (c:=p) (by omega) (by omega) with ⟨F,I,af,aM⟩|⟨F,s,hs,kj,sX,aM,bk⟩
  ·rw[F,I,af,ad rfl,ad rfl]
  ·have cX:=awB fU aa he.red jZ (by omega) hs kj sX kJ;have ah:=bk cX;rw[F,ae (by simp),ah];refine ax (p+1) _ (oR aL p p s) (λj=>if j=p then p else pv j) (by omega) ⟨aM ah,he.red.piv (by omega) hs kj sX,λy=>(YM (by omega) kj sX).trans (he.HP y)⟩ (aa.step (by omega) hs kj sX) λj aj=>?_;show (if j=p then p else pv j)=j
   split
   ·omega
   ·exact jZ j (by omega)
theorem awE {rs:List eV}{n:Int}{eR aO:Nat}(h:n3 rs n=true)(fU:HT (D rs) (qU rs) eR aO)(kJ:2*eR+aO+1<1200):qS rs n≠([],6):=by
 have O:(qR true rs).2.2=false :=
  awD fU kJ (D rs) 0 (hx rs) (qU rs) (λj=>j) (by omega) ⟨ah2 h,Qh _ _ _,λ_=>Iff.rfl⟩ (lE.start _ _) λj aj=>by omega
 unfold qS;rw[ad h,ae (by rw[O];simp)]
 split
 ·simp
 ·simp
theorem awF {rs:List eV}{n:Int}{eR aO:Nat}(h:n3 rs n=true)(fU:HT (D rs) (qU rs) eR aO)(kJ:2*eR+aO+1<1200)(U:¬ CD (D rs) (qU rs)):
  ∃x,qS rs n=(dF (D rs) x,0)/\(∀k,k<(D rs)->dm (x k))/\aim (D rs) (qU rs) x:=by
 rcases awz h with e|⟨x,e,-,F,I⟩|⟨y,-,-,-,F,k,Q,ar⟩
 ·exact absurd e (awE h fU kJ)
 ·exact⟨x,e,F,I⟩
 ·exact absurd ⟨y,F,k,Q,by rw[ar];decide⟩ U
theorem lE.full {N:Nat}{A:eH}(U:¬ CD N A):∀k p aL pv,p+k=N->qT N aL p p pv->(∀y,hT N aL y↔hT N A y)->lE N A aL p->(∀j,j<p->pv j=j)->∃aL pv,lE N A aL N/\qT N aL N N pv/\(∀j,j<N->pv j=j)/\∀y,hT N aL y↔hT N A y
 |0,p,aL,pv,aE,ab,aN,aa,jZ=>by
  obtain rfl:p=N:=by omega
  exact⟨aL,pv,aa,ab,jZ,aN⟩
 |k+1,p,aL,pv,aE,ab,aN,aa,jZ=>by
  by_cases aS:∀i,p<=i->i<N->aL i p=0
  ·exfalso
   refine U ⟨sW aL p,(aN _).1 (ahD ab jZ (by omega) aS),p,by omega,?_⟩
   unfold sW;rw[ae (by omega),ad rfl]
   decide
  ·have⟨s,hs,kj,sX⟩:∃s,p<=s/\s<N/\aL s p≠0:=by
    apply kn;intro h;exact aS λi F I=>kn λaf=>h ⟨i,F,I,af⟩
   refine lE.full U k (p+1) (oR aL p p s) (λj=>if j=p then p else pv j) (by omega) (ab.piv (by omega) hs kj sX) (λy=>(YM (by omega) kj sX).trans (aN y)) (aa.step (by omega) hs kj sX) λj aj=>?_;show (if j=p then p else pv j)=j
   split
   ·omega
   ·exact jZ j (by omega)
theorem aiu {N δ v:Nat}{A:eH}(U:¬ CD N A)(dZ:uu N A δ v){x:Nat->Rat}(O:hT N A (ext N x (-1))):∃bj:Nat,0<bj/\bj<=2^(N+δ)/\∀i,i<N->∃z:Int,x i*(bj:Rat)=(z:Rat):=by
 obtain⟨aL,pv,⟨σ,F,x6,I,af⟩,-⟩:=lE.full U N 0 A (λj=>j) (by omega) (Qh _ _ _) (λ_=>Iff.rfl) (lE.start _ _) (λj aj=>by omega);refine lE.aww (aL:=λi _=>x i) dZ ⟨σ,F,x6,λi M k jB gy=>?_,af⟩;obtain rfl:k=N:=by omega
 rw[ad M];have:=O (σ i) (F i M);rw[LX] at this;grind
theorem awG {N:Nat}{A:eH}(U:¬ CD N A):∃x,hT N A (ext N x (-1)):=by
 obtain⟨aL,pv,-,F,I,af⟩:=lE.full U N 0 A (λj=>j) (by omega) (Qh _ _ _) (λ_=>Iff.rfl) (lE.start _ _) (λj aj=>by omega);exact⟨λi=>aL i N,(af _).1 ((ahC F I _).2 λ_ _=>rfl)⟩
end Go.Mini
namespace Go.Mini
open Classical
def Day.W (d:Day)(f:Nat->Nat)(k i:Nat):Rat:=b5 d.cO λc=>if c.to=(i:Int)/\c.az=k/\c.bm=f k then d.w c else 0
def Day.st (d:Day)(f:Nat->Nat)(i:Nat):Rat:=d.E i+b5 d.cO λc=>if c.to=(i:Int)/\c.bm<f c.az then c.am else 0
theorem Day.dj.aiv {d:Day}(aa:d.dj)(f:Nat->Nat)(P:Nat->Prop)(x:Nat->Rat)(i:Nat):(b5 d.cO λc=>if c.to=(i:Int) then (if c.bm=f c.az/\P c.az then d.w c*x c.az else 0) else 0)=bE d.n λk=>if P k then d.W f k i*x k else 0:=by
 have e:=LP (n:=d.n) aa.az λk c=>if c.to=(i:Int) then (if c.bm=f k/\P k then d.w c*x k else 0) else 0;rw[<-e];refine j1 λk Q=>?_
 by_cases gr:P k
 ·rw[ad gr,ur];unfold Day.W;rw[<-Qi];refine po λc _=>?_
  by_cases F:c.az=k
  ·by_cases I:c.to=(i:Int)
   ·by_cases af:c.bm=f k
    ·rw[ad F,ad I,ad ⟨af,gr⟩,ad ⟨I,F,af⟩,ur]
    ·rw[ad F,ad I,ae λh=>af h.1,ae λh=>af h.2.2,nu]
   ·rw[ad F,ae I,ae λh=>I h.1,nu]
  ·rw[ae F,ae λh=>F h.2.1,nu]
 ·rw[ae gr];refine Ct λc _=>?_
  split
  ·split
   ·rw[ae λh=>gr h.2]
   ·rfl
  ·rfl
theorem Day.dj.QD {d:Day}(aa:d.dj)(f:Nat->Nat)(P:Nat->Prop)(h:Nat->Rat)(i:Nat):d.e1 (d.l f P h) i=d.st f i+bE d.n λk=>if P k then d.W f k i*(h k-d.br k (f k)) else 0:=by
 rw[<-aa.aiv f P (λk=>h k-d.br k (f k)) i];unfold Day.e1 Day.st;rw[Rat.add_assoc,<-LM]
 congr 1
 refine po λc _=>?_;unfold Day.l
 by_cases F:c.to=(i:Int)
 ·rw[ad F,ad F]
  by_cases I:c.bm<f c.az
  ·have af:c.to=(i:Int)/\c.bm<f c.az:=⟨F,I⟩;have aM:¬ (c.bm=f c.az/\P c.az):=λh=>by have:=h.1;omega
   rw[ad I,ad af,ae aM,oQ]
  ·have af:¬ (c.to=(i:Int)/\c.bm<f c.az):=λh=>I h.2;rw[ae I,ae af,vM]
   by_cases aM:c.bm=f c.az/\P c.az
   ·rw[ad aM,ad aM,aM.1]
   ·rw[ae aM,ae aM]
 ·have af:¬ (c.to=(i:Int)/\c.bm<f c.az):=λh=>F h.1;rw[ae F,ae af,ae F,oQ]
def Day.Ay (d:Day)(f:Nat->Nat)(P:Nat->Prop):eH:=λi k=>if k<d.n then (if i=k then 1 else 0)-(if P k then d.W f k i else 0) else d.st f i-bE d.n λk=>if P k then d.W f k i*d.br k (f k) else 0
theorem Zr {d:Day}(f:Nat->Nat)(P:Nat->Prop)(x:Nat->Rat)(z:Rat){i:Nat}(M:i<d.n):mI d.n (d.Ay f P i) (ext d.n x z)=x i-(bE d.n λk=>if P k then d.W f k i*x k else 0)+(d.st f i-bE d.n λk=>if P k then d.W f k i*d.br k (f k) else 0)*z:=by
 rw[LX]
 congr 1
 ·have e:=xi (n:=d.n) (f:=λk=>if i=k then x k else 0) (j:=i) M λk _ Q=>ae (Ne.symm Q);rw[ad rfl] at e;rw[<-e,<-Cu];refine j1 λk Q=>?_;unfold Day.Ay;rw[ad Q]
  split<;>split<;>grind
 ·unfold Day.Ay;rw[ae (by omega)]
theorem aiw {d:Day}(aa:d.dj)(f:Nat->Nat)(P:Nat->Prop)(h:Nat->Rat):hT d.n (d.Ay f P) (ext d.n h (-1))↔∀i,i<d.n->h i=d.e1 (d.l f P h) i:=by
 have e:∀i,(bE d.n λk=>if P k then d.W f k i*(h k-d.br k (f k)) else 0)=(bE d.n λk=>if P k then d.W f k i*h k else 0)-bE d.n λk=>if P k then d.W f k i*d.br k (f k) else 0:=λi=>by
  rw[<-Cu];refine j1 λk _=>?_
  split<;>grind
 unfold hT
 constructor
 ·intro dZ i M;have:=dZ i M;rw[Zr f P h _ M] at this;rw[aa.QD,e];grind
 ·intro dZ i M;have:=dZ i M;rw[aa.QD,e] at this;rw[Zr f P h _ M];grind
structure Good (d:Day) (f:Nat->Nat) (P:Nat->Prop):Prop where
 ok:d.dj
 inv:∃g,Inv d f g
 gC:∀i,P i->i<d.n/\f i<10
 Qo:∀C:Nat->Prop,(∃i,C i)->(∀i,C i->P i)->¬ d.closed f C
theorem Good.aix {d:Day}{f:Nat->Nat}{P:Nat->Prop}(bc:Good d f P){x:Nat->Rat}(O:∀i,i<d.n->x i=bE d.n λk=>if P k then d.W f k i*x k else 0):∀i,i<d.n->x i=0:=by
 obtain⟨g,M⟩:=bc.inv;exact avN M bc.ok bc.gC bc.Qo x λi cw=>by rw[bc.ok.aiv f P x i];exact O i cw
theorem Good.aiy {d:Day}{f:Nat->Nat}{P:Nat->Prop}(bc:Good d f P):¬ CD d.n (d.Ay f P):=by
 rintro⟨y,ar,k,Q,bC⟩;refine bC (bc.aix (x:=y) (λi M=>?_) k Q);have:=ar i M;rw[Zr f P y _ M] at this;grind
theorem Good.ex {d:Day}{f:Nat->Nat}{P:Nat->Prop}(bc:Good d f P):∃h:Nat->Rat,∀i,i<d.n->h i=d.e1 (d.l f P h) i:=by
 obtain⟨x,O⟩:=awG bc.aiy;exact⟨x,(aiw bc.ok f P x).1 O⟩
theorem Good.uniq {d:Day}{f:Nat->Nat}{P:Nat->Prop}(bc:Good d f P){h ct:Nat->Rat}(e:∀i,i<d.n->h i=d.e1 (d.l f P h) i)(e':∀i,i<d.n->ct i=d.e1 (d.l f P ct) i):∀i,i<d.n->h i=ct i:=by
 obtain⟨g,M⟩:=bc.inv;exact avM M bc.ok bc.gC bc.Qo e e'
def Day.fa (d:Day)(f:Nat->Nat)(P:Nat->Prop):Nat->Rat:=if h:∃x:Nat->Rat,∀i,i<d.n->x i=d.e1 (d.l f P x) i then tB h else λ_=>0
theorem Good.fa {d:Day}{f:Nat->Nat}{P:Nat->Prop}(bc:Good d f P):∀i,i<d.n->d.fa f P i=d.e1 (d.l f P (d.fa f P)) i:=by
 have h:=bc.ex;unfold Day.fa;rw[dif_pos h];exact o7 h
theorem awH {l:List Nat}{a k:Nat}(h:k<D l):(l++[a]).getD k 0=l.getD k 0:=by
 rw[en,en,qo h]
theorem awI (l:List Nat)(a:Nat)(aO:Nat->Rat):bE (l++[a]).length (λk=>aO ((l++[a]).getD k 0))=bE (D l) (λk=>aO (l.getD k 0))+aO a:=by
 rw[fE,List.length_singleton,bE]
 congr 1
 ·refine j1 λk Q=>?_;rw[awH Q]
 ·rw[en,rb (bW _),mg];rfl
def c0 (P:Nat->Prop)(n:Nat):List Nat:=(dP n).filter λi=>decide (P i)
theorem QF (P:Nat->Prop)(aO:Nat->Rat):∀n,bE (c0 P n).length (λk=>aO ((c0 P n).getD k 0))=bE n λk=>if P k then aO k else 0
 |0=>rfl
 |n+1=>by
  have ax:=QF P aO n;unfold c0 at ax ⊢;rw[List.range_succ,List.filter_append]
  by_cases gr:P n
  ·rw[List.filter_cons_of_pos (by simpa using gr),p9,awI,ax,bE,ad gr]
  ·rw[List.filter_cons_of_neg (by simpa using gr),p9,fJ,ax,bE,ae gr,oQ]
theorem xo {P:Nat->Prop}{n k:Nat}(h:k<(c0 P n).length):(c0 P n).getD k 0<n/\P ((c0 P n).getD k 0):=by
 have hm:(c0 P n).getD k 0∈c0 P n:=by
  rw[en,bx h];exact nc h
 unfold c0 at hm ⊢;rw[rP,gV,decide_eq_true_eq] at hm;exact hm
def Day.uw (d:Day)(f:Nat->Nat)(p:List Nat):eH:=λi k=>if k<(D p) then (if i=k then 1 else 0)-d.W f (p.getD k 0) (p.getD i 0) else d.st f (p.getD i 0)-d.br (p.getD i 0) (f (p.getD i 0))
theorem aiz {d:Day}(f:Nat->Nat)(p:List Nat)(x:Nat->Rat)(z:Rat){i:Nat}(M:i<D p):mI (D p) (d.uw f p i) (ext (D p) x z)=x i-(bE (D p) λk=>d.W f (p.getD k 0) (p.getD i 0)*x k)+(d.st f (p.getD i 0)-d.br (p.getD i 0) (f (p.getD i 0)))*z:=by
 rw[LX]
 congr 1
 ·have e:=xi (n:=D p) (f:=λk=>if i=k then x k else 0) (j:=i) M λk _ Q=>ae (Ne.symm Q);rw[ad rfl] at e;rw[<-e,<-Cu];refine j1 λk Q=>?_;unfold Day.uw;rw[ad Q]
  split<;>grind
 ·unfold Day.uw;rw[ae (by omega)]
theorem Good.small {d:Day}{f:Nat->Nat}{P:Nat->Prop}(bc:Good d f P):¬ CD (c0 P d.n).length (d.uw f (c0 P d.n)):=by
 rintro⟨y,ar,k,Q,bC⟩
 have F:∀r,r<(c0 P d.n).length->y r=bE (c0 P d.n).length λk=>d.W f ((c0 P d.n).getD k 0) ((c0 P d.n).getD r 0)*y k:=λr ab=>by
  have:=ar r ab;rw[aiz f _ y _ ab] at this;grind
 have I:=bc.aix (x:=λi=>bE (c0 P d.n).length λk=>d.W f ((c0 P d.n).getD k 0) i*y k) (λi M=>by
  rw[<-QF P (λk=>d.W f k i*bE (c0 P d.n).length λk'=>d.W f ((c0 P d.n).getD k' 0) k*y k') d.n];exact j1 λr ab=>by rw[F r ab]) ((c0 P d.n).getD k 0) (xo Q).1
 refine bC ?_;rw[F k Q];exact I
theorem Good.aiA {d:Day}{f:Nat->Nat}{P:Nat->Prop}(bc:Good d f P):hT (c0 P d.n).length (d.uw f (c0 P d.n)) (ext (c0 P d.n).length (λk=>d.fa f P ((c0 P d.n).getD k 0)-d.br ((c0 P d.n).getD k 0) (f ((c0 P d.n).getD k 0))) (-1)):=by
 intro r ab;rw[aiz f _ _ _ ab,QF P (λk=>d.W f k ((c0 P d.n).getD r 0)*(d.fa f P k-d.br k (f k))) d.n];have:=bc.fa _ (xo ab).1;rw[bc.ok.QD] at this;grind
theorem Good.aiB {d:Day}{f:Nat->Nat}{P:Nat->Prop}(bc:Good d f P){i:Nat}(M:i<d.n):d.fa f P i=d.st f i+bE (c0 P d.n).length λk=>d.W f ((c0 P d.n).getD k 0) i*(d.fa f P ((c0 P d.n).getD k 0)-d.br ((c0 P d.n).getD k 0) (f ((c0 P d.n).getD k 0))):=by
 rw[QF P (λk=>d.W f k i*(d.fa f P k-d.br k (f k))) d.n,<-bc.ok.QD];exact bc.fa i M
theorem iu.good {d:Day}(aa:d.dj){f:Nat->Nat}{g:Nat->Rat}(M:Inv d f g){P:Nat->Prop}{h:Nat->Rat}(aE:iu d f g P h):Good d f P:=⟨aa,⟨g,M⟩,aE.gC,aE.Qo⟩
theorem Good.none {d:Day}(aa:d.dj){f:Nat->Nat}{g:Nat->Rat}(M:Inv d f g):Good d f λ_=>False:=⟨aa,⟨g,M⟩,λ_ h=>h.elim,λ_ ⟨i,h⟩ ct=>(ct i h).elim⟩
theorem iu.first {d:Day}(aa:d.dj){f:Nat->Nat}{g:Nat->Rat}(M:Inv d f g):iu d f g (λ_=>False) (d.fa f λ_=>False):=iu.start aa M (Good.none aa M).fa
theorem iu.succ {d:Day}(aa:d.dj){f:Nat->Nat}{g:Nat->Rat}(M:Inv d f g){P:Nat->Prop}{h:Nat->Rat}(aE:iu d f g P h):iu d f g (sV d f P h) (d.fa f (sV d f P h)):=aE.next aa M (Good.fa ⟨aa,⟨g,M⟩,aE.HJ,aE.ahv aa M⟩)
def idle (d:Day)(P:Nat->Prop):Nat:=mJ d.n λi=>if P i then 0 else 1
theorem aiC {d:Day}{f:Nat->Nat}{P:Nat->Prop}{h:Nat->Rat}{i:Nat}(M:i<d.n)(aF:f i<10)(mG:d.br i (f i)<h i)(gr:¬ P i):idle d (sV d f P h)<idle d P:=by
 refine Y1 (j:=i) (λj _=>?_) M ?_
 ·by_cases aj:P j
  ·have F:sV d f P h j:=Or.inl aj;rw[ad F,ad aj];exact bW _
  ·rw[ae aj];split<;>omega
 ·have F:sV d f P h i:=Or.inr ⟨M,aF,mG⟩;rw[ad F,ae gr];omega
theorem iu.top {d:Day}(aa:d.dj){f:Nat->Nat}{g:Nat->Rat}(M:Inv d f g):∀m (P:Nat->Prop) (h:Nat->Rat),idle d P<=m->iu d f g P h->∃h,nv d f h
 |m,P,h,hm,aE=>by
  by_cases U:∀i,i<d.n->f i<10->d.br i (f i)<h i->P i
  ·exact⟨h,g,M,aE.stop aa M U,aE.le⟩
  ·have⟨i,F,I,af,aM⟩:∃i,i<d.n/\f i<10/\d.br i (f i)<h i/\¬ P i:=by
    apply kn;intro aK;exact U λi F I af=>kn λaM=>aK ⟨i,F,I,af,aM⟩
   have ay:=aiC (h:=h) F I af aM
   cases m with
   |zero=>omega
   |succ m=>exact iu.top aa M m _ _ (by omega) (aE.succ aa M)
theorem awJ {d:Day}(aa:d.dj){f:Nat->Nat}(ab:Reach d f):∃h,nv d f h:=by
 obtain⟨g,M,-⟩:=ab;exact iu.top aa M _ _ _ (bW _) (iu.first aa M)
theorem iu.aiD {d:Day}(aa:d.dj){f:Nat->Nat}{g:Nat->Rat}(M:Inv d f g){P:Nat->Prop}{h:Nat->Rat}(aE:iu d f g P h)(U:∀i,i<d.n->f i<10->d.br i (f i)<h i->P i):∀i,i<d.n->h i=d.top f i :=
 have bD:nv d f h:=⟨g,M,aE.stop aa M U,aE.le⟩
 bD.unique aa (Day.Cw ⟨h,bD⟩)
end Go.Mini
