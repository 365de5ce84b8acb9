/- A part of the proof. -/
import Derived.Test.YtgpioapepokkbaaGreatM02
set_option linter.unusedSimpArgs false
set_option linter.unusedVariables false
set_option linter.defProp false
set_option maxRecDepth 100000
set_option maxHeartbeats 4000000
noncomputable section
open Bool renaming and_eq_true->fC,and_false->iS,and_true->te,eq_iff_iff->od,false_and->e9,false_eq_true->k1,false_or->uu,not_eq_false'->aj3,not_eq_true'->tw,not_false->cA,not_true->b3,or_false->lT,or_true->se,true_and->fN,true_or->ur
open Classical renaming choose_spec->qo
open Decidable renaming em->dn
open Int renaming add_comm->Ai,add_zero->rr,cast_ofNat_Int->rp,lt_trichotomy->uK,mul_add->jI,mul_assoc->jJ,mul_comm->oB,mul_fdiv_add_fmod->Tk,mul_ne_zero->Er,mul_one->tf,mul_zero->Ak,natAbs_natCast->m5,natAbs_neg->An,natCast_pos->Eh,natCast_zero->qx,pow_succ->oA,sign_eq_neg_one_of_neg->nG,sign_eq_one_of_pos->hn,sign_mul->o9,sign_mul_natAbs->JT,sign_neg->GY,sign_sign->Cp,sign_zero->Aw,sub_zero->D4,tdiv_eq_ediv_of_nonneg->Cf,tdiv_nonneg->aj7,tmod_eq_emod_of_nonneg->N2,tmod_nonneg->aj6,zero_mul->xu,zero_sub->aja
open List renaming all_cons->vx,append_assoc->g8,append_nil->hD,drop->hl,drop_eq_getElem_cons->je,drop_eq_nil_of_le->lM,drop_set_of_lt->vC,drop_zero->o0,ext_getElem?->pE,findIdx?_eq_none_iff->ajp,findIdx?_eq_some_iff_getElem->ajo,flatten_nil->ajN,getD_eq_getElem?_getD->eD,getElem?_append_right->ov,getElem?_drop->q6,getElem?_eq_getElem->bh,getElem?_eq_none->jZ,getElem?_eq_some_iff->dV,getElem?_inj->akA,getElem?_map->bm,getElem?_set->mr,getElem_drop->ED,getElem_mem->mh,length->D,length_append->gC,length_cons->lJ,length_drop->oz,length_map->al,length_nil->o2,length_pos_iff->Eg,length_set->ie,length_singleton->qI,length_take->gP,map_cons->eE,map_nil->bY,map_set->xD,map_take->ajO,mem_append->jH,mem_iff_getElem?->r9,mem_map->gm,mem_of_getElem?->dy,mem_of_mem_drop->JO,mem_or_eq_of_mem_set->Kr,mem_replicate->JH,mem_singleton->yK,replicate->ef,set_append_right->y1,set_cons_succ->y7,set_cons_zero->lB,set_set->akI,take->gT,take_add_one->hZ,take_length->pb,take_of_length_le->dD
open List.cons renaming injEq->bj
open Nat renaming add_zero->lO,div_div_eq_div_mul->ajS,eq_zero_or_pos->kO,gcd->hG,gcd_comm->Oq,le_of_lt->Ou,le_refl->cl,le_trans->eR,lt_of_div_lt_div->ajT,lt_of_le_of_lt->vQ,lt_or_ge->hO,max_eq_right->aaw,min_eq_left->pF,mod_lt->pL,mul_comm->vJ,mul_le_mul_right->ui,mul_lt_mul_of_pos_left->ajY,mul_one->dZ,pos_of_ne_zero->Jk,pow_succ->xa,reduceEqDiff->cE,reduceLeDiff->akH,sub_self->j0,zero_div->ajR,zero_le->fL
open Option renaming bind_none->xA,bind_some->qk,map_eq_some_iff->eL
open Option.some renaming inj->nu,injEq->cF
open Prod renaming ext->et,fst->pR
open Prod.mk renaming injEq->fq
open Rat renaming divInt->mJ,divInt_mul_divInt->aiY,num_divInt_den->J5,sub_eq_add_neg->ai2
namespace Go.Mini
open Go
def Ar (a b c d:Raw):Raw×Int :=
 if ((mulR a b).2==0)=true then (if ((mulR c d).2==0)=true then nH (mulR a b).1 (mulR c d).1 else ((0,[]),(mulR c d).2)) else ((0,[]),(mulR a b).2)
def aiW (z:Int):(pP z).1.2.length<=1000000:=by
 unfold pP
 split
 ·exact kB (by assumption)
 ·simp
def uO (a b:Raw):(mulR a b).1.2.length<=1000000:=by
 unfold mulR
 split
 ·exact aiW _
 ·simp
def aiX (a b:Raw):(nH a b).1.2.length<=1000000:=by
 unfold nH
 split
 ·exact aiW _
 ·simp
def axF (a b c d:Raw):(Ar a b c d).1.2.length<=1000000:=by
 unfold Ar
 split
 ·split
  ·exact aiX _ _
  ·simp
 ·simp
abbrev Te:Int×(List Int)×Int×(List Int)×Int×(List Int)×Int×(List Int)->List Data:=λ(s,l,s2,aw,c1,cb,de,cR)=>[.agg [.int .i64 s,.ax (l.map aI)],.agg [.int .i64 s2,.ax (aw.map aI)],.agg [.int .i64 c1,.ax (cb.map aI)],.agg [.int .i64 de,.ax (cR.map aI)]]
def Tf:=bV Te λ(s,l,s2,aw,c1,cb,de,cR)=>cu (D l<=1000000/\D aw<=1000000/\D cb<=1000000/\D cR<=1000000) (.same (fs (Ar (s,l) (s2,aw) (c1,cb) (de,cR))))
def axG:∀a b,Te a=Te b->a=b:=by
  rintro⟨s1,eN,Ec,Ed,axH,axI,axJ,axK⟩ ⟨s2,aw,Ee,Ef,axL,axM,axN,axO⟩ h;simp only[bj,Data.agg.injEq,Data.int.injEq,Data.ax.injEq] at h;exact et h.1.1.2 (et (map_inj gq _ _ h.1.2.1) (et h.2.1.1.2 (et (map_inj gq _ _ h.2.1.2.1) (et h.2.2.1.1.2 (et (map_inj gq _ _ h.2.2.1.2.1) (et h.2.2.2.1.1.2 (map_inj gq _ _ h.2.2.2.1.2.1)))))))
@[go_sem] def aOM (s l s2 aw c1 cb de cR):=cH Tf rfl axG (s,l,s2,aw,c1,cb,de,cR) rfl
def axP (T:ba)(sr:T xc=aK GZ)(aag:T YJ=aK S2):WF T aiR Tf:=by
 refine cp λ(s,l,s2,aw,c1,cb,de,cR)=>cT λJ=>⟨rfl,ck ?_⟩;simp only[aiR,Te,cd];obtain⟨bG,bO,fp,fy⟩:=J;have dg:=uO (s,l) (s2,aw);have bU:=uO (c1,cb) (de,cR);unfold Ar;generalize lX:mulR (s,l) (s2,aw)=M1 at *;generalize fU:mulR (c1,cb) (de,cR)=M2 at *;obtain⟨⟨cz,cY⟩,au⟩:=M1;obtain⟨⟨cQ,dN⟩,aC⟩:=M2;rcases F:(au==0)
 ·refine ai ?_;repeat' (intro h<;>simp only[h,go_sem,go_sem_proc,sr,aag,bG,bO,fp,fy,lX,F,dg,bU,fs,cM,bY]<;>try refine ag ?_ ?_)
 ·have fB:au=0:=by simpa using F
  subst fB;rcases G:(aC==0)
  ·refine ai ?_;repeat' (intro h<;>simp only[h,go_sem,go_sem_proc,sr,aag,bG,bO,fp,fy,lX,fU,F,G,dg,bU,fs,cM,bY]<;>try refine ag ?_ ?_)
  ·have gN:aC=0:=by simpa using G
   subst gN;refine ai ?_;repeat' (intro h<;>simp only[h,go_sem,go_sem_proc,sr,aag,bG,bO,fp,fy,lX,fU,F,dg,bU,fs,cM,bY]<;>try refine ag ?_ ?_)
def vZ (p:Raw×Int)(q:Raw×Int):bz×Int:=if (p.2==0)=true then (if (q.2==0)=true then jw p.1 q.1 else (cW,6)) else (cW,6)
abbrev Tg:Int×(List Int)×Int×Int×(List Int)×Int->List Data:=λ(s,l,e,s2,aw,aC)=>[.agg [.int .i64 s,.ax (l.map aI)],.int .i64 e,.agg [.int .i64 s2,.ax (aw.map aI)],.int .i64 aC]
def J4:=bV Tg λ(s,l,e,s2,aw,aC)=>cu (D l<=1000000/\D aw<=1000000) (.same (dT (vZ ((s,l),e) ((s2,aw),aC))))
def axQ:∀a b,Tg a=Tg b->a=b:=by
  rintro⟨s1,eN,au,Ec,Ed,v3⟩ ⟨s2,aw,aC,Ee,Ef,ts⟩ h;simp only[bj,Data.agg.injEq,Data.int.injEq,Data.ax.injEq] at h;exact et h.1.1.2 (et (map_inj gq _ _ h.1.2.1) (et h.2.1.2 (et h.2.2.1.1.2 (et (map_inj gq _ _ h.2.2.1.2.1) h.2.2.2.1.2))))
@[go_sem] def aON (s l e s2 aw aC):=cH J4 rfl axQ (s,l,e,s2,aw,aC) rfl
def axR (T:ba)(Oy:T Ns=aK Ox):WF T aiS J4:=by
 refine cp λ(s,l,e,s2,aw,aC)=>cT λJ=>⟨rfl,ck ?_⟩;simp only[aiS,Tg,cd];obtain⟨bG,bO⟩:=J;unfold vZ;rcases F:(e==0)
 ·refine ai ?_;repeat' (intro h<;>simp only[h,go_sem,go_sem_proc,Oy,bG,bO,F,dT,az,cW,bY]<;>try refine ag ?_ ?_)
 ·have fB:e=0:=by simpa using F
  subst fB;rcases G:(aC==0)
  ·refine ai ?_;repeat' (intro h<;>simp only[h,go_sem,go_sem_proc,Oy,bG,bO,F,G,dT,az,cW,bY]<;>try refine ag ?_ ?_)
  ·have gN:aC=0:=by simpa using G
   subst gN;refine ai ?_;repeat' (intro h<;>simp only[h,go_sem,go_sem_proc,Oy,bG,bO,F,dT,az,cW,bY]<;>try refine ag ?_ ?_)
def yT (a b:bz):bz×Int:=if dM a=true then (if dM b=true then vZ (Ar a.1 b.2 b.1 a.2) (mulR a.2 b.2) else (cW,1)) else (cW,1)
def l0 (a b:bz):bz×Int:=if dM a=true then (if dM b=true then yT a (iV b.1,b.2) else (cW,1)) else (cW,1)
def jx (a b:bz):bz×Int:=if dM a=true then (if dM b=true then vZ (mulR a.1 b.1) (mulR a.2 b.2) else (cW,1)) else (cW,1)
def gn (a b:bz):bz×Int:=if dM a=true then (if dM b=true then (if (b.1.1==0)=true then (cW,15) else vZ (mulR a.1 b.2) (mulR a.2 b.1)) else (cW,1)) else (cW,1)
def axS (a:Raw)(h:a.2.length<=1000000):(iV a).2.length<=1000000:=by
 unfold iV
 split
 ·rename_i X;obtain⟨z,a2,e⟩:=(iB _).1 X;rw[e,fl];exact kB (by omega)
 ·simp
abbrev ob:Int×(List Int)×Int×(List Int)×Int×(List Int)×Int×(List Int)->List Data:=λ(s,l,s2,aw,c1,cb,de,cR)=>[.agg [.int .i64 s,.ax (l.map aI),.int .i64 s2,.ax (aw.map aI)],.agg [.int .i64 c1,.ax (cb.map aI),.int .i64 de,.ax (cR.map aI)]]
def Eo:=bV ob λ(s,l,s2,aw,c1,cb,de,cR)=>cu (D l<=1000000/\D aw<=1000000/\D cb<=1000000/\D cR<=1000000) (.same (dT (yT ((s,l),(s2,aw)) ((c1,cb),(de,cR)))))
def As:∀a b,ob a=ob b->a=b:=by
  rintro⟨s1,eN,Ec,Ed,axH,axI,axJ,axK⟩ ⟨s2,aw,Ee,Ef,axL,axM,axN,axO⟩ h;simp only[bj,Data.agg.injEq,Data.int.injEq,Data.ax.injEq] at h;exact et h.1.1.2 (et (map_inj gq _ _ h.1.2.1) (et h.1.2.2.1.2 (et (map_inj gq _ _ h.1.2.2.2.1) (et h.2.1.1.2 (et (map_inj gq _ _ h.2.1.2.1) (et h.2.1.2.2.1.2 (map_inj gq _ _ h.2.1.2.2.2.1)))))))
@[go_sem] def axT (s l s2 aw c1 cb de cR):=cH Eo rfl As (s,l,s2,aw,c1,cb,de,cR) rfl
def axU (T:ba)(iD:T o1=aK Ap)(aah:T YC=aK Tf)(sr:T xc=aK GZ)(xv:T Gn=aK J4):WF T aiL Eo:=by
 refine cp λ(s,l,s2,aw,c1,cb,de,cR)=>cT λJ=>⟨rfl,ck ?_⟩;simp only[aiL,ob,cd];obtain⟨bG,bO,fp,fy⟩:=J;unfold yT
 by_cases X:dM ((s,l),(s2,aw))=true
 ·by_cases bf:dM ((c1,cb),(de,cR))=true
  ·have dg:=axF (s,l) (de,cR) (c1,cb) (s2,aw);have bU:=uO (s2,aw) (de,cR);rw[Y X,Y bf];dsimp only;generalize lX:Ar (s,l) (de,cR) (c1,cb) (s2,aw)=M1 at *;generalize fU:mulR (s2,aw) (de,cR)=M2 at *;obtain⟨⟨cz,cY⟩,au⟩:=M1;obtain⟨⟨cQ,dN⟩,aC⟩:=M2;refine ai ?_;repeat' (intro h<;>simp only[h,go_sem,go_sem_proc,iD,aah,sr,xv,bG,bO,fp,fy,X,bf,lX,fU,dg,bU,fs,cM,dT,az]<;>try refine ag ?_ ?_)
  ·have bf:dM ((c1,cb),(de,cR))=false:=by simpa using bf
   rw[Y X,aa (by simp[bf])];refine ai ?_;repeat' (intro h<;>simp only[h,go_sem,go_sem_proc,iD,aah,sr,xv,bG,bO,fp,fy,X,bf,dT,az,cW,bY]<;>try refine ag ?_ ?_)
 ·have X:dM ((s,l),(s2,aw))=false:=by simpa using X
  rw[aa (by simp[X])];refine ai ?_;repeat' (intro h<;>simp only[h,go_sem,go_sem_proc,iD,aah,sr,xv,bG,bO,fp,fy,X,dT,az,cW,bY]<;>try refine ag ?_ ?_)
def yU:=bV ob λ(s,l,s2,aw,c1,cb,de,cR)=>cu (D l<=1000000/\D aw<=1000000/\D cb<=1000000/\D cR<=1000000) (.same (dT (l0 ((s,l),(s2,aw)) ((c1,cb),(de,cR)))))
@[go_sem] def axV (s l s2 aw c1 cb de cR):=cH yU rfl As (s,l,s2,aw,c1,cb,de,cR) rfl
def axW (T:ba)(iD:T o1=aK Ap)(Ct:T Jn=aK Oi)(Cu:T DO=aK Eo):WF T aiN yU:=by
 refine cp λ(s,l,s2,aw,c1,cb,de,cR)=>cT λJ=>⟨rfl,ck ?_⟩;simp only[aiN,ob,cd];obtain⟨bG,bO,fp,fy⟩:=J;unfold l0
 by_cases X:dM ((s,l),(s2,aw))=true
 ·by_cases bf:dM ((c1,cb),(de,cR))=true
  ·have dg:=axS (c1,cb) fp;rw[Y X,Y bf];dsimp only;generalize lX:iV (c1,cb)=M1 at *;obtain⟨cz,cY⟩:=M1;refine ai ?_;repeat' (intro h<;>simp only[h,go_sem,go_sem_proc,iD,Ct,Cu,bG,bO,fp,fy,X,bf,lX,dg,fs,cM,dT,az]<;>try refine ag ?_ ?_)
  ·have bf:dM ((c1,cb),(de,cR))=false:=by simpa using bf
   rw[Y X,aa (by simp[bf])];refine ai ?_;repeat' (intro h<;>simp only[h,go_sem,go_sem_proc,iD,Ct,Cu,bG,bO,fp,fy,X,bf,dT,az,cW,bY]<;>try refine ag ?_ ?_)
 ·have X:dM ((s,l),(s2,aw))=false:=by simpa using X
  rw[aa (by simp[X])];refine ai ?_;repeat' (intro h<;>simp only[h,go_sem,go_sem_proc,iD,Ct,Cu,bG,bO,fp,fy,X,dT,az,cW,bY]<;>try refine ag ?_ ?_)
def yV:=bV ob λ(s,l,s2,aw,c1,cb,de,cR)=>cu (D l<=1000000/\D aw<=1000000/\D cb<=1000000/\D cR<=1000000) (.same (dT (jx ((s,l),(s2,aw)) ((c1,cb),(de,cR)))))
@[go_sem] def axX (s l s2 aw c1 cb de cR):=cH yV rfl As (s,l,s2,aw,c1,cb,de,cR) rfl
def axY (T:ba)(iD:T o1=aK Ap)(sr:T xc=aK GZ)(xv:T Gn=aK J4):WF T aiO yV:=by
 refine cp λ(s,l,s2,aw,c1,cb,de,cR)=>cT λJ=>⟨rfl,ck ?_⟩;simp only[aiO,ob,cd];obtain⟨bG,bO,fp,fy⟩:=J;unfold jx
 by_cases X:dM ((s,l),(s2,aw))=true
 ·by_cases bf:dM ((c1,cb),(de,cR))=true
  ·have dg:=uO (s,l) (c1,cb);have bU:=uO (s2,aw) (de,cR);rw[Y X,Y bf];dsimp only;generalize lX:mulR (s,l) (c1,cb)=M1 at *;generalize fU:mulR (s2,aw) (de,cR)=M2 at *;obtain⟨⟨cz,cY⟩,au⟩:=M1;obtain⟨⟨cQ,dN⟩,aC⟩:=M2;refine ai ?_;repeat' (intro h<;>simp only[h,go_sem,go_sem_proc,iD,sr,xv,bG,bO,fp,fy,X,bf,lX,fU,dg,bU,fs,cM,dT,az]<;>try refine ag ?_ ?_)
  ·have bf:dM ((c1,cb),(de,cR))=false:=by simpa using bf
   rw[Y X,aa (by simp[bf])];refine ai ?_;repeat' (intro h<;>simp only[h,go_sem,go_sem_proc,iD,sr,xv,bG,bO,fp,fy,X,bf,dT,az,cW,bY]<;>try refine ag ?_ ?_)
 ·have X:dM ((s,l),(s2,aw))=false:=by simpa using X
  rw[aa (by simp[X])];refine ai ?_;repeat' (intro h<;>simp only[h,go_sem,go_sem_proc,iD,sr,xv,bG,bO,fp,fy,X,dT,az,cW,bY]<;>try refine ag ?_ ?_)
def Ep:=bV ob λ(s,l,s2,aw,c1,cb,de,cR)=>cu (D l<=1000000/\D aw<=1000000/\D cb<=1000000/\D cR<=1000000) (.same (dT (gn ((s,l),(s2,aw)) ((c1,cb),(de,cR)))))
@[go_sem] def axZ (s l s2 aw c1 cb de cR):=cH Ep rfl As (s,l,s2,aw,c1,cb,de,cR) rfl
def ax0 (T:ba)(iD:T o1=aK Ap)(sr:T xc=aK GZ)(xv:T Gn=aK J4):WF T aiU Ep:=by
 refine cp λ(s,l,s2,aw,c1,cb,de,cR)=>cT λJ=>⟨rfl,ck ?_⟩;simp only[aiU,ob,cd];obtain⟨bG,bO,fp,fy⟩:=J;unfold gn
 by_cases X:dM ((s,l),(s2,aw))=true
 ·by_cases bf:dM ((c1,cb),(de,cR))=true
  ·rw[Y X,Y bf];dsimp only;rcases ay:(c1==0)
   ·have dg:=uO (s,l) (de,cR);have bU:=uO (s2,aw) (c1,cb);rw[aa (by simp)];generalize lX:mulR (s,l) (de,cR)=M1 at *;generalize fU:mulR (s2,aw) (c1,cb)=M2 at *;obtain⟨⟨cz,cY⟩,au⟩:=M1;obtain⟨⟨cQ,dN⟩,aC⟩:=M2;refine ai ?_;repeat' (intro h<;>simp only[h,go_sem,go_sem_proc,iD,sr,xv,bG,bO,fp,fy,X,bf,ay,lX,fU,dg,bU,fs,cM,dT,az]<;>try refine ag ?_ ?_)
   ·rw[Y rfl];refine ai ?_;repeat' (intro h<;>simp only[h,go_sem,go_sem_proc,iD,sr,xv,bG,bO,fp,fy,X,bf,ay,dT,az,cW,bY]<;>try refine ag ?_ ?_)
  ·have bf:dM ((c1,cb),(de,cR))=false:=by simpa using bf
   rw[Y X,aa (by simp[bf])];refine ai ?_;repeat' (intro h<;>simp only[h,go_sem,go_sem_proc,iD,sr,xv,bG,bO,fp,fy,X,bf,dT,az,cW,bY]<;>try refine ag ?_ ?_)
 ·have X:dM ((s,l),(s2,aw))=false:=by simpa using X
  rw[aa (by simp[X])];refine ai ?_;repeat' (intro h<;>simp only[h,go_sem,go_sem_proc,iD,sr,xv,bG,bO,fp,fy,X,dT,az,cW,bY]<;>try refine ag ?_ ?_)
def Oz (c:Bool)(v:Rat):bz×Int:=if c=true then (av v,0) else (cW,6)
def h2 (z:Int):Bool:=decide (z.natAbs<dF)
def qF (x y:Rat):Bool:=h2 (x.num*y.den)&&(h2 (y.num*x.den)&&(h2 (x.num*y.den+y.num*x.den)&&h2 ((x.den:Int)*y.den)))
def At (x y:Rat):Bool:=h2 (x.num*y.num)&&h2 ((x.den:Int)*y.den)
def xw (x y:Rat):Bool:=h2 (x.num*y.den)&&h2 ((x.den:Int)*y.num)
def xx {z:Int}(h:h2 z=true):pP z=(bl z,0):=Y (by simpa [h2] using h)
def Cv {z:Int}(h:h2 z=false):pP z=((0,[]),6):=aa (by simpa [h2] using h)
def pc {z:Int}(h:h2 z=true):z.natAbs<dF:=by simpa [h2] using h
def ax1 {a b c d:Int}(aZ:a.natAbs<dF)(ad:b.natAbs<dF)(J:c.natAbs<dF)(Z:d.natAbs<dF):
  Ar (bl a) (bl b) (bl c) (bl d)=if (h2 (a*b)&&(h2 (c*d)&&h2 (a*b+c*d)))=true then (bl (a*b+c*d),0) else ((0,[]),6):=by
 unfold Ar;rw[vV aZ ad,vV J Z];rcases F:h2 (a*b)
 ·rw[Cv F];rfl
 ·rw[xx F];rcases G:h2 (c*d)
  ·rw[Cv G];rfl
  ·rw[xx G];show nH (bl (a*b)) (bl (c*d))=_;rw[Ok (pc F) (pc G)];rcases ab:h2 (a*b+c*d)
   ·rw[Cv ab];rfl
   ·rw[xx ab];rfl
def aai (x y:Rat):mJ (x.num*y.den+y.num*x.den) ((x.den:Int)*y.den)=x+y:=by
 rw[<-Rat.divInt_add_divInt _ _ (by have:=den_pos x;omega) (by have:=den_pos y;omega),J5,J5]
def aaj (x y:Rat):mJ (x.num*y.num) ((x.den:Int)*y.den)=x*y:=by
 rw[<-aiY,J5,J5]
def aiZ (x y:Rat):mJ (x.num*y.den) ((x.den:Int)*y.num)=x/y:=by
 rw[<-aiY,J5,<-Rat.inv_divInt,J5]
 rfl
def Au (x:Rat):(x.den:Int)≠0:=by have:=den_pos x;omega
def ai0 {x y:Rat}(L:dH x)(aj:dH y):yT (av x) (av y)=Oz (qF x y) (x+y):=by
 unfold yT;rw[Y (yS L),Y (yS aj)];show vZ (Ar (bl x.num) (bl y.den) (bl y.num) (bl x.den)) (mulR (bl x.den) (bl y.den))=_;rw[ax1 L.1 (qD aj) aj.1 (qD L),vV (qD L) (qD aj)];unfold qF;rcases F:h2 (x.num*y.den)
 ·rfl
 ·rcases G:h2 (y.num*x.den)
  ·rfl
  ·rcases ab:h2 (x.num*y.den+y.num*x.den)
   ·rfl
   ·rcases aV:h2 ((x.den:Int)*y.den)
    ·rw[Cv aV];rfl
    ·rw[xx aV];show jw (bl (x.num*y.den+y.num*x.den)) (bl ((x.den:Int)*y.den))=(av (x+y),0)
     rw[Cs (pc ab) (pc aV) (Er (Au x) (Au y)),aai]
def ai1 {x:Rat}(h:dH x):dH (-x):=⟨by rw[Rat.neg_num];have:=h.1;omega,by rw[Rat.neg_den];exact h.2⟩
def OA {x y:Rat}(L:dH x)(aj:dH y):l0 (av x) (av y)=Oz (qF x (-y)) (x-y):=by
 unfold l0;rw[Y (yS L),Y (yS aj)]
 have:(iV (av y).1,(av y).2)=av (-y):=by
  unfold av;have:iV (bl y.num)=bl (-y.num):=by unfold iV;rw[Y (lz aj.1),fl]
  dsimp only;rw[this];rfl
 rw[this,ai0 L (ai1 aj),ai2]
def Th {x y:Rat}(L:dH x)(aj:dH y):jx (av x) (av y)=Oz (At x y) (x*y):=by
 unfold jx;rw[Y (yS L),Y (yS aj)];show vZ (mulR (bl x.num) (bl y.num)) (mulR (bl x.den) (bl y.den))=_;rw[vV L.1 aj.1,vV (qD L) (qD aj)];unfold At;rcases F:h2 (x.num*y.num)
 ·rw[Cv F];rfl
 ·rw[xx F];rcases aV:h2 ((x.den:Int)*y.den)
  ·rw[Cv aV];rfl
  ·rw[xx aV];show jw (bl (x.num*y.num)) (bl ((x.den:Int)*y.den))=(av (x*y),0)
   rw[Cs (pc F) (pc aV) (Er (Au x) (Au y)),aaj]
def OB {x y:Rat}(L:dH x)(aj:dH y)(ay:y≠0):gn (av x) (av y)=Oz (xw x y) (x/y):=by
 unfold gn;rw[Y (yS L),Y (yS aj)];have aL:y.num≠0:=λh=>ay (Rat.num_eq_zero.1 h)
 have:((av y).1.1==0)=false:=by
  show (y.num.sign==0)=false
  simpa using aL
 rw[this,aa (by simp)];show vZ (mulR (bl x.num) (bl y.den)) (mulR (bl x.den) (bl y.num))=_;rw[vV L.1 (qD aj),vV (qD L) aj.1];unfold xw;rcases F:h2 (x.num*y.den)
 ·rw[Cv F];rfl
 ·rw[xx F];rcases aV:h2 ((x.den:Int)*y.num)
  ·rw[Cv aV];rfl
  ·rw[xx aV];show jw (bl (x.num*y.den)) (bl ((x.den:Int)*y.num))=(av (x/y),0)
   rw[Cs (pc F) (pc aV) (Er (Au x) aL),aiZ]
def ax2 {x y:Rat}(h:qF x y=true):dH (x+y):=by
 unfold qF at h;simp only[fC] at h;rw[<-aai];exact Td (pc h.2.2.1) (pc h.2.2.2)
def ai3 {x y:Rat}(h:qF x (-y)=true):dH (x-y):=by rw[ai2];exact ax2 h
def ai4 {x y:Rat}(h:At x y=true):dH (x*y):=by
 unfold At at h;simp only[fC] at h;rw[<-aaj];exact Td (pc h.1) (pc h.2)
def ax3 {x y:Rat}(h:xw x y=true):dH (x/y):=by
 unfold xw at h;simp only[fC] at h;rw[<-aiZ];exact Td (pc h.1) (pc h.2)
def lb (x y:Rat):Int:=(x.num*y.den-y.num*x.den).sign
def uP (a b:bz):Int:=if dM a=true then (if dM b=true then (hF a.1*hF b.2-hF b.1*hF a.2).sign else 0) else 0
def Ti {x y:Rat}(L:dH x)(aj:dH y):uP (av x) (av y)=lb x y:=by
 unfold uP;rw[Y (yS L),Y (yS aj)];unfold av lb;rw[fl,fl,fl,fl]
def Tj {p q:Int}(bq:0<q):0<=p.fmod q/\p.fmod q<q:=⟨Int.fmod_nonneg_of_pos _ bq,Int.fmod_lt_of_pos _ bq⟩
def ai5 {p q r s:Int}(bq:0<q)(R:0<s)(h:p.fdiv q<r.fdiv s):p*s-r*q<0:=by
 have au:=Tk p q;have aC:=Tk r s;have cQ:=Tj (p:=p) bq;have dN:=Tj (p:=r) R;generalize p.fdiv q=x at *;generalize r.fdiv s=y at *;generalize p.fmod q=u at *;generalize r.fmod s=v at *;subst au aC;have F:q*s*(x+1)<=q*s*y:=Int.mul_le_mul_of_nonneg_left (by omega) (Int.le_of_lt (Int.mul_pos bq R));have G:u*s<q*s:=Int.mul_lt_mul_of_pos_right cQ.2 R;have ab:0<=v*q:=Int.mul_nonneg dN.1 (by omega);have bN:(q*x+u)*s-(s*y+v)*q=q*s*(x+1)-q*s*y+(u*s-q*s)-v*q:=by grind
 omega
def ax4 {p q r s:Int}(h:p.fdiv q=r.fdiv s):p*s-r*q=p.fmod q*s-r.fmod s*q:=by
 have au:=Tk p q;have aC:=Tk r s;rw[h] at au;generalize r.fdiv s=y at *;generalize p.fmod q=u at *;generalize r.fmod s=v at *;subst au aC;grind
def ai6 (a b:Int):(a-b).sign = -(b-a).sign:=by rw[<-GY];congr 1;omega
def ai7 {p q:Int}(aE:p.natAbs<dF)(bq:q.natAbs<dF)(ay:0<q):
  nI (p.sign,aY p.natAbs) (q.sign,aY q.natAbs)=(((p.fdiv q).sign,aY (p.fdiv q).natAbs),((p.fmod q).sign,aY (p.fmod q).natAbs),0):=Cn aE bq (by omega)
def v5:=bV ob λ(s,l,s2,aw,c1,cb,de,cR)=>cu (D l<=1000000/\D aw<=1000000/\D cb<=1000000/\D cR<=1000000) (.same (.int .i64 (uP ((s,l),(s2,aw)) ((c1,cb),(de,cR)))))
@[go_sem] def ai8 (s l s2 aw c1 cb de cR):=cH v5 rfl As (s,l,s2,aw,c1,cb,de,cR) rfl
def ax5 (T:ba)(iD:T o1=aK Ap)(sq:T Gp=aK Ot)(Av:T YH=aK S3):WF T aiP v5:=by
 refine cp λ(s,l,s2,aw,c1,cb,de,cR)=>cT λJ=>⟨rfl,ck ?_⟩;simp only[aiP,ob,cd];obtain⟨bG,bO,fp,fy⟩:=J
 by_cases X:dM ((s,l),(s2,aw))=true
 ·by_cases bf:dM ((c1,cb),(de,cR))=true
  ·obtain⟨x,L,e⟩:=(Cr _).1 X;obtain⟨y,aj,aC⟩:=(Cr _).1 bf;have hm:uP ((s,l),(s2,aw)) ((c1,cb),(de,cR))=lb x y:=by rw[e,aC,Ti L aj]
   rw[hm];clear hm;have Hf:(s,l)=bl x.num:=congrArg pR e;have aak:(s2,aw)=bl x.den:=congrArg Prod.snd e;have ax6:(c1,cb)=bl y.num:=congrArg pR aC;have ax7:(de,cR)=bl y.den:=congrArg Prod.snd aC;clear e aC;have jM:=qD L;have v7:=qD aj;have iW:=den_pos x;have j5:=den_pos y;have ax8:=L.1;have XP:=aj.1;unfold lb;generalize x.num=P at *;generalize (x.den:Int)=aR at *;generalize y.num=bC at *;generalize (y.den:Int)=S at *
   cases Hf
   cases aak
   cases ax6
   cases ax7;simp only[go_sem,go_sem_proc,iD,sq,Av,bG,bO,fp,fy,X,bf];refine dd [5,6,7,8] [135002,135003] (λ((ss,p,q,r,t):Int×Int×Int×Int×Int) tm mem=>(ss=1\/ss = -1)/\0<q/\0<t/\p.natAbs<dF/\q.natAbs<dF/\r.natAbs<dF/\t.natAbs<dF/\(P*S-bC*aR).sign=ss*(p*t-r*q).sign/\tm 9=.H (.int .i64 ss)/\mem 135005=some (0,[.H (.int .i64 p.sign),.H (.ax ((aY p.natAbs).map aI))])/\mem 135006=some (0,[.H (.int .i64 q.sign),.H (.ax ((aY q.natAbs).map aI))])/\mem 135007=some (0,[.H (.int .i64 r.sign),.H (.ax ((aY r.natAbs).map aI))])/\mem 135008=some (0,[.H (.int .i64 t.sign),.H (.ax ((aY t.natAbs).map aI))])) (λ(_,_,q,_,_)=>q.natAbs) (1,P,aR,bC,S) (by refine⟨.inl rfl,iW,j5,ax8,jM,XP,v7,by rw[Int.one_mul],rfl,?_,?_,?_,?_⟩<;>rfl) ?_;intro vs ms aQ aM;simp only[go_sem,go_sem_proc,iD,sq,Av] at aQ aM;subst aQ aM;rintro⟨ss,p,q,r,t⟩ tm mem I hm ⟨qG,nE,OC,aE,bq,mo,b0,jg,eP,Cw,ho,mq,tt⟩;simp only[go_sem,go_sem_proc,iD,sq,Av,bj] at I hm;obtain⟨bu,bX,b9,cS⟩:=I;have OD:=kB aE;have OE:=kB bq;have yW:=kB mo;have lt:=kB b0;have lu:=ai7 aE bq nE;have n8:=ai7 mo b0 OC;have ai9:=J0 (y:=q) aE (by omega);have OG:=J0 (y:=t) mo (by omega);have Cx:=kB ai9;have Es:=kB OG;have fD:sm ((p.fdiv q).sign,aY (p.fdiv q).natAbs) ((r.fdiv t).sign,aY (r.fdiv t).natAbs)=g2 (p.fdiv q) (r.fdiv t):=Om ai9 OG;have aOO:=Tj (p:=p) nE;have bv:=Tj (p:=r) OC;have ax9:IntKind.i64.wrap (0-ss) = -ss:=by rcases qG with rfl|rfl<;>rfl
   rcases uK (p.fdiv q) (r.fdiv t) with ah|heq|iz
   ·have aN:=ai5 nE OC ah;rw[Cl ah] at fD;rw[jg,nG aN];have hw:IntKind.i64.wrap (ss * -1)=ss * -1:=by rcases qG with rfl|rfl<;>rfl
    refine ai ?_;repeat' (intro h<;>simp only[h,go_sem,go_sem_proc,iD,sq,Av,bu,bX,b9,cS,eP,hm,Cw,ho,mq,tt,OD,OE,yW,lt,Cx,Es,lu,n8,fD,hw,lZ,cM,show ((-1:Int)==0)=false from rfl]<;>try refine ag ?_ ?_)
   ·have aN:=ax4 heq;rw[heq,JY] at fD
    have ih:∀a:Int,-1<=a->a<=1->IntKind.i64.wrap (ss*a)=ss*a:=by
     intro a F G;rcases qG with rfl|rfl<;>exact wrap64 _ (by omega) (by omega)
    rw[heq] at lu Cx;have aOP:(p.fmod q).natAbs<dF:=by omega
    have aOQ:(r.fmod t).natAbs<dF:=by omega
    rw[aN] at jg;generalize p.fmod q=u at *;generalize r.fmod t=v at *
    by_cases hu:u=0
    ·subst hu
     have R:(0*t-v*q).sign=(0:Int).sign-v.sign:=by
      rw[xu,aja,GY,o9,hn nE,tf,Aw,aja]
     rw[R] at jg;rw[jg];have ab:=oI v;have Eb:IntKind.i64.wrap ((0:Int).sign-v.sign)=(0:Int).sign-v.sign:=wrap64 _ (by rw[Aw];omega) (by rw[Aw];omega);have hw:=ih ((0:Int).sign-v.sign) (by rw[Aw];omega) (by rw[Aw];omega);refine ai ?_;repeat' (intro h<;>simp only[h,go_sem,go_sem_proc,iD,sq,Av,bu,bX,b9,cS,eP,hm,Cw,ho,mq,tt,OD,OE,yW,lt,Cx,Es,lu,n8,fD,hw,Eb,lZ,cM,show ((0:Int)==0)=true from rfl,show ((0:Int).sign==0)=true from rfl]<;>try refine ag ?_ ?_)
    ·have Hb:0<u:=by omega
     have aal:(u.sign==0)=false:=by simpa using hu
     by_cases I4:v=0
     ·subst I4
      have R:(u*t-0*q).sign=u.sign-(0:Int).sign:=by
       rw[xu,D4,o9,hn OC,tf,Aw,D4]
      rw[R] at jg;rw[jg];have ab:=oI u;have Eb:IntKind.i64.wrap (u.sign-(0:Int).sign)=u.sign-(0:Int).sign:=wrap64 _ (by rw[Aw];omega) (by rw[Aw];omega);have hw:=ih (u.sign-(0:Int).sign) (by rw[Aw];omega) (by rw[Aw];omega);refine ai ?_;repeat' (intro h<;>simp only[h,go_sem,go_sem_proc,iD,sq,Av,bu,bX,b9,cS,eP,hm,Cw,ho,mq,tt,OD,OE,yW,lt,Cx,Es,lu,n8,fD,hw,Eb,aal,lZ,cM,show ((0:Int)==0)=true from rfl,show ((0:Int).sign==0)=true from rfl]<;>try refine ag ?_ ?_)
     ·have uj:(v.sign==0)=false:=by simpa using I4
      refine ai ?_;repeat' (intro h<;>simp only[h,go_sem,go_sem_proc,iD,sq,Av,bu,bX,b9,cS,eP,hm,Cw,ho,mq,tt,OD,OE,yW,lt,Cx,Es,lu,n8,fD,aal,uj,ax9,lZ,cM,show ((0:Int)==0)=true from rfl]<;>try refine ag ?_ ?_)
      refine⟨(-ss,q,u,t,v),by dsimp only;omega,by dsimp only;omega,by dsimp only;omega,by dsimp only;omega,by dsimp only;omega,by dsimp only;omega,by dsimp only;omega,by dsimp only;omega,?_,by simp[go_sem],by simp[go_sem],by simp[go_sem],by simp[go_sem],by simp[go_sem]⟩
      dsimp only;rw[jg,ai6 (q*v) (t*u),Int.neg_mul_neg,oB t u,oB q v]
   ·have aN:=ai5 OC nE iz;rw[G6 iz] at fD;rw[jg,ai6,nG aN];have hw:IntKind.i64.wrap (ss*1)=ss * -(-1):=by rcases qG with rfl|rfl<;>rfl
    refine ai ?_;repeat' (intro h<;>simp only[h,go_sem,go_sem_proc,iD,sq,Av,bu,bX,b9,cS,eP,hm,Cw,ho,mq,tt,OD,OE,yW,lt,Cx,Es,lu,n8,fD,hw,lZ,cM,show ((1:Int)==0)=false from rfl]<;>try refine ag ?_ ?_)
  ·have bf:dM ((c1,cb),(de,cR))=false:=by simpa using bf
   have hm:uP ((s,l),(s2,aw)) ((c1,cb),(de,cR))=0:=by unfold uP;rw[Y X,aa (by simp[bf])]
   rw[hm];refine ai ?_;repeat' (intro h<;>simp only[h,go_sem,go_sem_proc,iD,sq,Av,bG,bO,fp,fy,X,bf]<;>try refine ag ?_ ?_)
 ·have X:dM ((s,l),(s2,aw))=false:=by simpa using X
  have hm:uP ((s,l),(s2,aw)) ((c1,cb),(de,cR))=0:=by unfold uP;rw[aa (by simp[X])]
  rw[hm];refine ai ?_;repeat' (intro h<;>simp only[h,go_sem,go_sem_proc,iD,sq,Av,bG,bO,fp,fy,X]<;>try refine ag ?_ ?_)
def ajb:bJ:=b5 22 2 [.t 4] (Q [c0 3 108003 1,cx 4 false] (.seq (Q [aA 6 1 3,a3 7 .lss 6 0,E 8 7,dG 9 8 1 3,fc 10 8 .gtr 9 40,cv 11 8 10,E 12 11,fr 13 12 0,pN 14 12 13,dG 15 12 1 3,rm 16 12 .neq 14 15,cv 17 12 16] (b4 17 [cx 4 false])) (Q [aP 5 (.alloc 108005 [.H .wQ]),⟨none,none,.store 1 (.t 5) (.c (.gH vL []))⟩] (Q [E 18 0,aP 19 (.wT Sk [.t 3,.t 5]),bI 20 Yx 18 19,fb 21 20,E 4 21] .ret))))
def ajc:bJ:=b5 48 2 [.t 4,.t 5] (Q [dO 4,a7 5 0] (.seq (Q [E 11 0,E 12 1,bI 13 Yv 11 12,fb 14 13] (b4 14 [dO 4,a7 5 1])) (Q [E 16 0,E 17 1,aP 18 (.call Yz [.t 16,.t 17,.c (.H (.bool true))]),E 15 18,a0 19 0 15,a0 20 1 15,E 6 19,E 7 20] (.seq (.block 0 (Q [E 22 6,e7 23 22,aD 24 2 23,aA 25 1 24,E 21 25] (e8 21 (Q [dO 4,a7 5 6] .ret) (Q [E 27 7,cq 28 27,a3 29 .gtr 28 0,E 26 29] (b4 26 [dO 4,a7 5 17]))))) (Q [dO 8] (.seq (Q [E 30 6,e7 31 30,aD 32 0 31,aA 33 1 32,cq 34 33,a7 35 0] (.block 1 (.ghost (.nq 8 109045 4) (.loop  (Q [bp 36 .lss 35 34] (.seq (dq 36 1) (.seq (.block 2 (Q [br 37 1 33 35,aA 38 1 37,E 10 38] (.ops [E 39 8,E 40 10,E 41 1,br 42 4 40 41,aS 43 4 42,aP 44 (.eW 109044 false cG 4 1 [(0,4,.t 43)]),aP 45 (.app 109045 cG 64 (.t 39) (.t 44)),E 8 45]))) (.ops [a3 46 .add 35 1,E 35 46])))))))) (Q [E 47 8,E 4 47,a7 5 0] .ret)))))))
def ajd:bJ:=b5 6 1 [.t 2] (Q [c0 1 125001 0,cx 2 false] (Q [aS 3 4 1,dv 4 o1 3,fb 5 4,E 2 5] .ret))
def aje:bJ:=b5 22 3 [.t 4] (Q [c0 3 127003 0,cx 4 false] (Q [aD 5 0 3,aA 6 1 5,cq 7 6,aA 8 1 1,bp 9 .neq 7 8,E 10 9,dG 11 10 1 2,ez 12 10 1 3,iR 13 10 4 12,e3 14 10 (.nn (.t 11) [.t 13]),cv 15 10 14,E 16 15,ez 17 16 0 3,dG 18 16 1 17,dG 19 16 1 2,e3 20 16 (.call Yy [.t 18,.t 19]),cv 21 16 20,E 4 21] .ret))
def Tl:bJ:=b5 65 3 [.t 6,.t 7] (Q [aP 6 (.ko (.c (.H .wP))),dO 7] (Q [E 13 1,aP 14 (.build [.nil,bM 0,.H (.bool false)] [(1,1,.t 13)]),c0 15 129015 14,E 8 15] (.seq (Q [E 16 0,cq 17 16,a7 18 0] (dY 0 (Q [bp 19 .lss 18 17] (.seq (dq 19 0) (.seq (.block 1 (Q [br 20 5 16 18,aS 21 5 20,bQ 10 129010 oC,aT 5 10 21] (.l9 [E 22 8,E 23 8,e7 24 23,aD 25 0 24,aA 26 1 25,aD 27 0 10,aA 28 1 27,aP 29 (.nT 129029 4 Sm [.t 28]),aD 30 1 10,aS 31 4 30,aP 32 (.eW 129032 false cG 4 1 [(0,4,.t 31)]),aP 33 (.app 129033 cG 64 (.t 29) (.t 32)),aP 34 (.eW 129034 true [.nil] 1 1 [(0,1,.t 33)]),aP 35 (.app 129035 [.nil] 24 (.t 26) (.t 34)),e7 36 22,aD 37 0 36,aT 1 37 35] [[],[],[],[],[],[],[],[4],[],[7],[],[4],[4],[],[],[],[]]))) (.ghost (.move) (.ops [a3 38 .add 18 1,E 18 38]))))))) (Q [dO 11] (.seq (Q [a7 12 0] (.block 2 (.ghost (.nq 11 129061 1) (.loop  (.seq (Q [E 39 12,E 40 1,bp 41 .lss 39 40,E 42 41,eg 43 42 8,h0 44 42 (.oq (.t 43)),n4 45 42 2 44,j4 46 42 1 45,B6 47 42 46,gr 48 42 47] (dq 48 2)) (.seq (.block 3 (Q [E 51 8,E 52 12,E 53 11,cq 54 53,bp 55 .sub 52 54,E 56 12,uG 57 YF 51 55 56] (e8 57 (Q [E 58 11,E 59 12,aP 60 (.eW 129060 false [bM 0] 1 1 [(0,1,.t 59)]),aP 61 (.app 129061 [bM 0] 8 (.t 58) (.t 60)),E 11 61] (Q [E 62 2] (e8 62 (.exit 2) .skip))) .skip))) (.ops [E 49 12,a3 50 .add 49 1,E 12 50]))))))) (Q [E 63 8,E 64 11,E 6 63,E 7 64] .ret))))))
def Ax:bJ:=b5 172 3 [.t 6] (Q [cx 6 false] (Q [E 15 1,E 7 15] (.seq (dY 0 (.seq (Q [E 16 7,E 17 0,e7 18 17,aD 19 1 18,aA 20 1 19,bp 21 .lss 16 20,E 22 21,eg 23 22 0,h0 24 22 (.oq (.t 23)),n4 25 22 0 24,j4 26 22 1 25,eg 27 22 7,rn 28 22 1 26 27,j4 29 22 1 28,eg 30 22 2,rn 31 22 4 29 30,uE 32 22 4 31,h0 33 22 (.call Nv [.t 32]),gr 34 22 33] (dq 34 0)) (.block 1 (.ops [E 35 7,a3 36 .add 35 1,E 7 36])))) (.seq (Q [E 37 7,E 38 0,e7 39 38,aD 40 1 39,aA 41 1 40,bp 42 .eql 37 41] (b4 42 [cx 6 true])) (ed [E 43 0,e7 44 43,aD 45 0 44,aA 46 1 45,E 47 1,E 48 0,e7 49 48,aD 50 0 49,aA 51 1 50,E 52 7,E 53 0,e7 54 53,aD 55 0 54,aA 56 1 55,E 57 7,br 58 1 56 57,aA 59 1 58,E 60 0,e7 61 60,aD 62 0 61,aA 63 1 62,E 64 1,br 65 1 63 64,aA 66 1 65,br 67 1 46 47,aT 1 67 59,br 68 1 51 52,aT 1 68 66] av0 (Q [E 69 0,e7 70 69,aD 71 0 70,aA 72 1 71,E 73 1,br 74 1 72 73,aA 75 1 74,E 76 2,br 77 4 75 76,aS 78 4 77,bQ 8 148008 cG,aT 4 8 78] (.seq (Q [E 79 0,e7 80 79,aD 81 0 80,aA 82 1 81,E 83 1,br 84 1 82 83,aA 85 1 84,cq 86 85,a7 87 0] (dY 2 (Q [bp 88 .lss 87 86] (.seq (dq 88 2) (.seq (.block 3 (Q [E 89 87,br 90 4 85 87,aS 91 4 90,bQ 10 148010 cG,E 9 89,aT 4 10 91] (.l9 [E 92 0,e7 93 92,aD 94 0 93,aA 95 1 94,E 96 1,br 97 1 95 96,aA 98 1 97,E 99 9,E 100 0,aS 101 4 10,aS 102 4 8,bI 103 Gr 101 102,a0 104 0 103,a0 105 1 103,aP 106 (.np 2 DQ [.t 100,.t 104,.t 105]),br 107 4 98 99,aT 4 107 106] [[],[],[],[],[],[],[],[],[],[],[],[],[],[],[3,6],[],[]]))) (.ops [a3 108 .add 87 1,E 87 108])))))) (.seq (Q [E 109 0,e7 110 109,aD 111 0 110,aA 112 1 111,cq 113 112,a7 114 0] (dY 4 (Q [bp 115 .lss 114 113] (.seq (dq 115 4) (.seq (.block 5 (Q [E 116 114,br 117 1 112 114,aA 118 1 117,E 11 116,E 12 118] (Q [E 119 12,E 120 2,br 121 4 119 120,aS 122 4 121,bQ 13 148013 cG,aT 4 13 122] (.seq (Q [E 123 11,E 124 1,bp 125 .eql 123 124,E 126 125,iR 127 126 4 13,e3 128 126 (.call Nv [.t 127]),cv 129 126 128] (e8 129 (.exit 5) .skip)) (Q [a7 14 0] (dY 6 (.seq (Q [E 130 14,E 131 12,cq 132 131,bp 133 .lss 130 132,E 134 133,eg 135 134 0,h0 136 134 (.oq (.t 135)),n4 137 134 2 136,j4 138 134 1 137,B6 139 134 138,gr 140 134 139] (dq 140 6)) (.seq (.block 7 (.l9 [E 143 12,E 144 14,E 145 0,E 146 12,E 147 14,br 148 4 146 147,aS 149 4 148,E 150 0,aS 151 4 13,E 152 0,e7 153 152,aD 154 0 153,aA 155 1 154,E 156 1,br 157 1 155 156,aA 158 1 157,E 159 14,br 160 4 158 159,aS 161 4 160,bI 162 yA 151 161,a0 163 0 162,a0 164 1 162,aP 165 (.np 2 DQ [.t 150,.t 163,.t 164]),bI 166 xb 149 165,a0 167 0 166,a0 168 1 166,aP 169 (.np 2 DQ [.t 145,.t 167,.t 168]),br 170 4 143 144,aT 4 170 169] [[],[],[],[],[],[],[],[],[],[],[],[],[],[],[],[],[],[],[],[],[],[],[6],[],[],[],[],[],[]])) (.ops [E 141 14,a3 142 .add 141 1,E 14 142]))))))))) (.ops [a3 171 .add 114 1,E 114 171])))))) (Q [cx 6 false] .ret)))))))))
def ajf:bJ:=b5 7 1 [.t 2] (Q [c0 1 167001 0,cx 2 false] (Q [aD 3 0 1,aD 4 0 3,aA 5 1 4,a3 6 .eql 5 0,E 2 6] .ret))
def Tm:bJ:=b5 19 3 [.cell 6 4 true] (Q [c0 4 168004 1,bQ 6 168006 cG] (Q [E 7 0,E 8 0,e7 9 8,aD 10 2 9,aA 11 1 10,E 12 11,fr 13 12 2,fc 14 12 .neq 13 0,cv 15 12 14,e7 16 7,aD 17 2 16,aT 1 17 15] (Q [aS 18 4 4,aT 4 6 18] .ret)))
def Cy:bJ:=b5 92 2 [.cell 4 3 true,.t 5] (Q [bQ 4 217004 sd,a7 5 0] (.seq (Q [E 15 0,E 16 1,bI 17 NA 15 16,fb 18 17] (b4 18 [aP 19 (.build sd []),aT 3 4 19,a7 5 1])) (Q [E 20 0,E 21 1,bI 22 Ss 20 21,E 6 22] (Q [bQ 7 217007 sd] (.seq (dY 0 (.block 1 (Q [E 24 6,dv 25 NB 24,E 23 25,a0 26 0 23,a0 27 1 23,aP 8 (.alloc 217008 [.nil]),aT 1 8 26,E 9 27] (.seq (Q [E 28 9,fb 29 28] (b4 29 [aP 30 (.build sd []),aT 3 4 30,a7 5 6])) (Q [dO 10] (.seq (Q [E 31 6,cq 32 31,a7 33 0] (.block 2 (.ghost (.nq 10 217057 1) (.loop  (Q [bp 34 .lss 33 32] (.seq (dq 34 2) (.seq (.block 3 (Q [E 35 33,br 36 1 31 33,aA 37 1 36,aP 11 (.alloc 217011 [bM 0]),aT 1 11 35,E 12 37] (.seq (ed [aA 38 1 8,aA 39 1 11,br 40 4 38 39,aS 41 4 40,E 42 12,E 43 12,e7 44 43,aD 45 22 44,aA 46 1 45,e7 47 42,aD 48 11 47,aP 49 (.qe 11 1 (.t 48) (.t 46)),aA 50 1 49,dv 51 pM 50,bI 52 sa 41 51,a3 53 .geq 52 0] DY (e8 53 (.exit 3) .skip)) (Q [E 54 10,aA 55 1 11,aP 56 (.eW 217056 false [bM 0] 1 1 [(0,1,.t 55)]),aP 57 (.app 217057 [bM 0] 8 (.t 54) (.t 56)),E 10 57] (.ops [E 58 12,E 59 12,e7 60 59,aD 61 11 60,aP 62 (.vi 11 1 (.t 61) (some (.c (bM 1))) none none),aP 63 (.wT Gx [.t 8,.t 11]),bI 64 DU 62 63,e7 65 58,aD 66 22 65,aT 1 66 64]))))) (.ops [a3 67 .add 33 1,E 33 67])))))))) (.seq (Q [E 68 10,cq 69 68,a3 70 .eql 69 0] (e8 70 (Q [aA 71 1 8,aD 72 0 7,aT 1 72 71] (.exit 0)) .skip)) (.ghost (.freeze 10) (.ops [aD 73 2 7,aA 74 1 73,E 75 10,aP 76 (.eW 217076 false [.nil] 1 1 [(0,1,.t 75)]),aP 77 (.app 217077 [.nil] 24 (.t 74) (.t 76)),aD 78 2 7,aT 1 78 77]))))))))) (.seq (.ghost (.many) (.ops [E 80 1,aD 81 0 7,aA 82 1 81,bI 83 St 80 82,E 79 83,a0 84 0 79,a0 85 1 79,E 13 84,E 14 85])) (.seq (Q [E 86 14,fb 87 86] (b4 87 [aP 88 (.build sd []),aT 3 4 88,a7 5 6])) (Q [E 89 13,aD 90 1 7,aT 1 90 89] (Q [aS 91 3 7,aT 3 4 91,a7 5 0] .ret)))))))))
def ajg:bJ:=b5 32 2 [.t 4] (Q [cx 4 false] (Q [E 9 0,cq 10 9,aP 5 (.alloc 227005 [bM 0]),aT 1 5 10] (Q [aP 6 (.alloc 227006 [.H .wQ]),⟨none,none,.store 1 (.t 6) (.c (.gH DV []))⟩] (Q [aP 11 (.wT NC [.t 6]),E 7 11] (Q [aP 12 (.wT ND [.t 6,.t 5]),E 8 12] (Q [aA 13 1 5,a3 14 .leq 13 60,E 15 14,eg 16 15 1,NS 17 15 16,k7 18 15 .leq 17 2000,gr 19 15 18,E 20 19,eg 21 20 0,eg 22 20 7,h0 23 20 (.call NF [.t 21,.t 22]),B6 24 20 23,gr 25 20 24,E 26 25,eg 27 26 1,eg 28 26 8,h0 29 26 (.call NG [.t 27,.t 28]),B6 30 26 29,gr 31 26 30,E 4 31] .ret))))))
def Et:bJ:=b5 73 2 [.t 4] (Q [dO 4] (Q [dO 5] (.seq (Q [E 12 0,cq 13 12,a7 14 0] (.block 0 (.ghost (.nq 5 228023 1) (.loop  (Q [bp 15 .lss 14 13] (.seq (dq 15 0) (.seq (.block 1 (Q [br 16 1 12 14,aA 17 1 16,E 7 17] (.ops [E 18 5,E 19 7,aP 20 (.build [bM 0,.nil,.nil,.nil,.nil,.nil,.nil,.nil,.nil,.nil,.nil,bM 0,bM 0,bM 0,bM 0,bM 0,bM 0,bM 0,bM 0,bM 0,bM 0,bM 0,bM 0,.H (.bool false)] [(0,1,.t 19),(22,1,.c (bM 10))]),c0 21 228021 20,aP 22 (.eW 228022 true [.H .wP] 1 1 [(0,1,.t 21)]),aP 23 (.app 228023 [.H .wP] 8 (.t 18) (.t 22)),E 5 23]))) (.ghost (.many) (.ops [a3 24 .add 14 1,E 14 24]))))))))) (.seq (Q [E 25 1,cq 26 25,a7 27 0] (dY 2 (Q [bp 28 .lss 27 26] (.seq (dq 28 2) (.seq (.block 3 (Q [br 29 4 25 27,aS 30 4 29,bQ 9 228009 lS,aT 4 9 30] (Q [E 31 5,aD 32 0 9,aA 33 1 32,br 34 1 31 33,aA 35 1 34,E 10 35] (ed [E 36 10,aD 37 2 9,aA 38 1 37,E 39 10,aD 40 2 9,aA 41 1 40,e7 42 39,aD 43 1 42,aP 44 (.qe 10 1 (.t 43) (.t 41)),aA 45 1 44,aS 46 4 9,aP 47 (.eW 228047 false lS 4 1 [(0,4,.t 46)]),aP 48 (.app 228048 lS 32 (.t 45) (.t 47)),e7 49 36,aD 50 1 49,aP 51 (.qe 10 1 (.t 50) (.t 38)),aT 1 51 48] [[],[],[],[],[],[],[],[],[],[],[],[],[2],[],[],[],[]] (.seq (.ghost (.many) (.ops [aD 52 2 9,aA 53 1 52,a3 54 .add 53 1,E 11 54])) (dY 4 (.seq (Q [E 55 11,a3 56 .leq 55 10] (dq 56 4)) (.seq (.block 5 (.l9 [E 59 10,E 60 11,e7 61 59,aD 62 11 61,aP 63 (.qe 11 1 (.t 62) (.t 60)),aA 64 1 63,aD 65 3 9,aA 66 1 65,bp 67 .add 64 66,e7 68 59,aD 69 11 68,aP 70 (.qe 11 1 (.t 69) (.t 60)),aT 1 70 67] GJ)) (.ops [E 57 11,a3 58 .add 57 1,E 11 58]))))))))) (.ops [a3 71 .add 27 1,E 27 71])))))) (.seq (.ghost (.many) (.ops [E 72 5,E 4 72])) .ret)))))
def J6:bJ:=b5 72 1 [.t 2,.t 3] (Q [dO 2,cx 3 false] (.seq (Q [E 11 0,cq 12 11,a7 13 0] (dY 0 (Q [bp 14 .lss 13 12] (.seq (dq 14 0) (.seq (.block 1 (Q [br 15 1 11 13,aA 16 1 15,E 5 16] (.ops [E 17 5,e7 18 17,aD 19 23 18,⟨none,none,.store 1 (.t 19) (.c (.H (.bool false)))⟩]))) (.ops [a3 20 .add 13 1,E 13 20])))))) (dY 2 (.block 3 (Q [E 22 0,dv 23 YW 22,E 21 23,a0 24 0 21,a0 25 1 21,E 6 24,E 7 25] (.seq (Q [E 26 7,fb 27 26] (b4 27 [dO 2,cx 3 false])) (Q [cx 8 false] (.seq (Q [E 28 0,cq 29 28,a7 30 0] (dY 4 (Q [bp 31 .lss 30 29] (.seq (dq 31 4) (.seq (.block 5 (Q [E 32 30,br 33 1 28 30,aA 34 1 33,E 9 32,E 10 34] (ed [E 35 10,e7 36 35,aD 37 22 36,aA 38 1 37,a3 39 .lss 38 10,E 40 39,eg 41 40 10,h0 42 40 (.oq (.t 41)),n4 43 40 23 42,j4 44 40 1 43,B6 45 40 44,gr 46 40 45,E 47 46,eg 48 47 6,eg 49 47 9,rn 50 47 4 48 49,uE 51 47 4 50,eg 52 47 10,eg 53 47 10,h0 54 47 (.oq (.t 53)),n4 55 47 22 54,j4 56 47 1 55,h0 57 47 (.oq (.t 52)),n4 58 47 11 57,h0 59 47 (.qe 11 1 (.t 58) (.t 56)),j4 60 47 1 59,h0 61 47 (.call pM [.t 60]),h0 62 47 (.call sa [.t 51,.t 61]),k7 63 47 .gtr 62 0,gr 64 47 63] av1 (e8 64 (.ops [E 65 10,e7 66 65,aD 67 23 66,⟨none,none,.store 1 (.t 67) (.c (.H (.bool true)))⟩,cx 8 true]) .skip)))) (.ops [a3 68 .add 30 1,E 30 68])))))) (Q [E 69 8,fb 70 69] (b4 70 [E 71 6,E 2 71,cx 3 true]))))))))))
def ajh:bJ:=b5 11 1 [.cell 2 4 true] (Q [bQ 2 230002 cG] (Q [E 6 0,aP 7 (.call Gm [.t 6,.c (bM 1)]),E 5 7,a0 8 0 5,a0 9 1 5,bQ 3 230003 cG,aT 4 3 8,E 4 9] (Q [aS 10 4 3,aT 4 2 10] .ret)))
def aji:bJ:=b5 13 3 [.t 4] (Q [cx 4 false] (ed [aA 5 1 1,aA 6 1 2,br 7 4 5 6,aS 8 4 7,E 9 0,dv 10 pM 9,bI 11 sa 8 10,a3 12 .lss 11 0,E 4 12] Sz .ret))
def Eu:bJ:=b5 96 2 [.t 4,.t 5] (Q [dO 4,cx 5 false] (Q [E 17 1,cq 18 17,aP 19 (.mC 233019 [.nil] 24 (.t 18) (.t 18)),E 6 19] (Q [E 20 1,cq 21 20,aP 22 (.mC 233022 [.nil] 24 (.t 21) (.t 21)),E 7 22] (.seq (Q [E 23 0,cq 24 23,a7 25 0] (dY 0 (Q [bp 26 .lss 25 24] (.seq (dq 26 0) (.seq (.block 1 (Q [E 27 25,br 28 4 23 25,aS 29 4 28,bQ 9 233009 lS,E 8 27,aT 4 9 29] (.l9 [E 30 6,aD 31 0 9,aA 32 1 31,E 33 7,aD 34 0 9,aA 35 1 34,E 36 6,aD 37 0 9,aA 38 1 37,br 39 1 36 38,aA 40 1 39,aS 41 4 9,aP 42 (.eW 233042 false lS 4 1 [(0,4,.t 41)]),aP 43 (.app 233043 lS 32 (.t 40) (.t 42)),E 44 7,aD 45 0 9,aA 46 1 45,br 47 1 44 46,aA 48 1 47,E 49 8,aP 50 (.eW 233050 false [bM 0] 1 1 [(0,1,.t 49)]),aP 51 (.app 233051 [bM 0] 8 (.t 48) (.t 50)),br 52 1 30 32,aT 1 52 43,br 53 1 33 35,aT 1 53 51] [[],[],[],[],[],[],[],[],[],[],[],[],[],[2,5],[],[],[13],[],[13],[],[],[2,5],[],[5],[],[]]))) (.ghost (.many) (.ops [a3 54 .add 25 1,E 25 54]))))))) (.seq (.ghost (.many) (.ops [E 55 0,cq 56 55,aP 57 (.mC 233057 cG 64 (.t 56) (.t 56)),E 10 57])) (.seq (Q [E 58 6,cq 59 58,a7 60 0] (dY 2 (Q [bp 61 .lss 60 59] (.seq (dq 61 2) (.seq (.block 3 (Q [E 62 60,br 63 1 58 60,aA 64 1 63,E 11 62,E 12 64] (Q [E 66 1,E 67 11,br 68 4 66 67,aS 69 4 68,E 70 12,bI 71 YX 69 70,E 65 71,a0 72 0 65,a0 73 1 65,E 13 72,E 14 73] (.seq (Q [E 74 14,a3 75 .neq 74 0] (b4 75 [dO 4,cx 5 false])) (Q [E 76 7,E 77 11,br 78 1 76 77,aA 79 1 78,cq 80 79,a7 81 0] (dY 4 (Q [bp 82 .lss 81 80] (.seq (dq 82 4) (.seq (.block 5 (Q [E 83 81,br 84 1 79 81,aA 85 1 84,E 15 83,E 16 85] (.ops [E 86 10,E 87 16,E 88 13,E 89 15,br 90 4 88 89,aS 91 4 90,br 92 4 86 87,aT 4 92 91]))) (.ops [a3 93 .add 81 1,E 81 93])))))))))) (.ops [a3 94 .add 60 1,E 60 94])))))) (.seq (.ghost (.freeze 10) (.ops [E 95 10,E 4 95,cx 5 true])) .ret)))))))
def ajj:bJ:=b5 15 3 [.t 6] (Q [cx 6 false] (Q [E 7 0,E 8 1,bp 9 .geq 7 8,E 10 9,eg 11 10 0,eg 12 10 2,uF 13 10 .leq 11 12,gr 14 10 13,E 6 14] .ret))
def ajk:bJ:=b5 8 2 [.t 3] (Q [cx 3 false] (Q [aA 4 1 1,E 5 0,aP 6 (.nn (.t 4) [.t 5,.c (bM 0),.c (bM 1000000000000000)]),fb 7 6,E 3 7] .ret))
def ajl:bJ:=b5 35 3 [.t 4] (Q [c0 3 245003 0,cx 4 false] (Q [aA 5 1 1,aD 6 0 3,aA 7 1 6,aA 8 1 2,a3 9 .sub 8 1,aP 10 (.nn (.t 5) [.t 7,.c (bM 0),.t 9]),fb 11 10,E 12 11,dG 13 12 1 1,ez 14 12 1 3,dG 15 12 1 14,dG 16 12 1 2,fc 17 12 .sub 16 1,e3 18 12 (.nn (.t 13) [.t 15,.c (.H (.int .i64 (-1))),.t 17]),ha 19 12 18,cv 20 12 19,E 21 20,dG 22 21 1 1,ez 23 21 2 3,dG 24 21 1 23,e3 25 21 (.nn (.t 22) [.t 24,.c (bM 0),.c (bM 9)]),ha 26 21 25,cv 27 21 26,E 28 27,dG 29 28 1 1,ez 30 28 3 3,dG 31 28 1 30,e3 32 28 (.nn (.t 29) [.t 31,.c (bM 0),.c (bM 1000000000000000)]),ha 33 28 32,cv 34 28 33,E 4 34] .ret))
def xy:bJ:=b5 159 1 [.t 2,.t 3] (Q [dO 2,cx 3 false] (Q [E 26 0,cq 27 26,E 4 27] (Q [E 28 4,aP 29 (.mC 248029 [bM 0] 8 (.t 28) (.t 28)),E 5 29] (Q [dO 6] (Q [dO 7] (.seq (Q [E 30 0,cq 31 30,a7 32 0] (.block 0 (.ghost (.nq 6 248094 1) (.ghost (.nq 7 248098 1) (.loop  (Q [bp 33 .lss 32 31] (.seq (dq 33 0) (.seq (.block 1 (Q [E 34 32,br 35 1 30 32,aA 36 1 35,E 8 34,E 9 36] (ed [E 37 5,E 38 8,br 39 1 37 38,aA 40 1 39,E 41 9,e7 42 41,aD 43 0 42,aA 44 1 43,bp 45 .add 40 44,br 46 1 37 38,aT 1 46 45] Aa (.seq (Q [E 47 9,e7 48 47,aD 49 22 48,aA 50 1 49,a7 51 0] (dY 2 (Q [bp 52 .lss 51 50] (.seq (dq 52 2) (.seq (.block 3 (Q [E 53 51,E 10 53] (Q [E 54 9,E 55 10,e7 56 54,aD 57 1 56,aP 58 (.qe 10 1 (.t 57) (.t 55)),aA 59 1 58,cq 60 59,a7 61 0] (dY 4 (Q [bp 62 .lss 61 60] (.seq (dq 62 4) (.seq (.block 5 (Q [br 63 4 59 61,aS 64 4 63,bQ 12 248012 lS,aT 4 12 64] (Q [aD 65 1 12,aA 66 1 65,a3 67 .geq 66 0] (e8 67 (.l9 [E 68 5,aD 69 1 12,aA 70 1 69,br 71 1 68 70,aA 72 1 71,aD 73 3 12,aA 74 1 73,bp 75 .add 72 74,br 76 1 68 70,aT 1 76 75] Jy) .skip)))) (.ops [a3 77 .add 61 1,E 61 77])))))))) (.ops [a3 78 .add 51 1,E 51 78])))))) (Q [E 79 9,e7 80 79,aD 81 23 80,aA 82 1 81] (e8 82 (Q [E 84 9,E 85 4,bI 86 Su 84 85,E 83 86,a0 87 0 83,a0 88 1 83,E 13 87,E 14 88] (.seq (Q [E 89 14,fb 90 89] (b4 90 [dO 2,cx 3 false])) (.ops [E 91 6,E 92 8,aP 93 (.eW 248093 false [bM 0] 1 1 [(0,1,.t 92)]),aP 94 (.app 248094 [bM 0] 8 (.t 91) (.t 93)),E 95 7,E 96 13,aP 97 (.eW 248097 false [.nil] 1 1 [(0,1,.t 96)]),aP 98 (.app 248098 [.nil] 24 (.t 95) (.t 97)),E 6 94,E 7 98]))) .skip)))))) (.ops [a3 99 .add 32 1,E 32 99]))))))))) (.seq (.ghost (.freeze 5) (.ghost (.freeze 6) (.ghost (.freeze 7) (.ops [E 101 0,E 102 5,E 103 6,E 104 7,DX 105 YZ 101 102 103 104,E 100 105,a0 106 0 100,a0 107 1 100,E 15 106,E 16 107])))) (.seq (Q [E 108 16,fb 109 108] (b4 109 [dO 2,cx 3 false])) (Q [dO 17] (.seq (Q [E 110 5,cq 111 110,a7 112 0] (.block 6 (.ghost (.nq 17 248156 4) (.loop  (Q [bp 113 .lss 112 111] (.seq (dq 113 6) (.seq (.block 7 (Q [E 114 112,br 115 1 110 112,aA 116 1 115,E 18 114,E 19 116] (Q [E 117 19,dv 118 pM 117,bQ 20 248020 cG,aT 4 20 118] (.seq (Q [E 119 6,cq 120 119,a7 121 0] (dY 8 (Q [bp 122 .lss 121 120] (.seq (dq 122 8) (.seq (.block 9 (Q [E 123 121,E 21 123] (ed [E 125 7,E 126 21,br 127 1 125 126,aA 128 1 127,E 129 18,br 130 4 128 129,aS 131 4 130,E 132 15,E 133 21,br 134 4 132 133,aS 135 4 134,bI 136 yA 131 135,E 124 136,a0 137 0 124,a0 138 1 124,bQ 22 248022 cG,aT 4 22 137,E 23 138] [[],[],[],[],[],[],[],[],[],[],[],[],[],[],[],[3,6,10],[],[]] (Q [aS 140 4 20,aS 141 4 22,bI 142 DO 140 141,E 139 142,a0 143 0 139,a0 144 1 139,bQ 24 248024 cG,aT 4 24 143,E 25 144] (.seq (Q [E 145 23,a3 146 .neq 145 0,E 147 146,fr 148 147 25,fc 149 147 .neq 148 0,cv 150 147 149] (b4 150 [dO 2,cx 3 false])) (.ops [aS 151 4 24,aT 4 20 151])))))) (.ops [a3 152 .add 121 1,E 121 152])))))) (.ops [E 153 17,aS 154 4 20,aP 155 (.eW 248155 false cG 4 1 [(0,4,.t 154)]),aP 156 (.app 248156 cG 64 (.t 153) (.t 155)),E 17 156]))))) (.ops [a3 157 .add 112 1,E 112 157])))))))) (.seq (.ghost (.freeze 17) (.ops [E 158 17,E 2 158,cx 3 true])) .ret)))))))))))
def Tn:bJ:=b5 88 2 [.t 4,.t 5] (Q [dO 4,cx 5 false] (Q [aP 14 (.call pM [.c (bM 0)]),aP 15 (.eW 255015 false cG 4 1 [(0,4,.t 14)]),E 16 1,aP 17 (.nT 255017 4 YA [.t 15,.t 16]),E 6 17] (Q [cx 7 true] (.seq (ed [E 18 0,E 19 0,e7 20 19,aD 21 22 20,aA 22 1 21,e7 23 18,aD 24 1 23,aP 25 (.qe 10 1 (.t 24) (.t 22)),aA 26 1 25,cq 27 26,a7 28 0] Aa (dY 0 (Q [bp 29 .lss 28 27] (.seq (dq 29 0) (.seq (.block 1 (Q [br 30 4 26 28,aS 31 4 30,bQ 9 255009 lS,aT 4 9 31] (.seq (Q [aD 32 1 9,aA 33 1 32,a3 34 .lss 33 0] (e8 34 (.exit 1) .skip)) (ed [aD 36 3 9,aA 37 1 36,E 38 0,E 39 0,e7 40 39,aD 41 22 40,aA 42 1 41,a3 43 .add 42 1,e7 44 38,aD 45 11 44,aP 46 (.qe 11 1 (.t 45) (.t 43)),aA 47 1 46,E 48 0,E 49 0,e7 50 49,aD 51 22 50,aA 52 1 51,e7 53 48,aD 54 11 53,aP 55 (.qe 11 1 (.t 54) (.t 52)),aA 56 1 55,bp 57 .sub 47 56,bI 58 Gm 37 57,E 35 58,a0 59 0 35,a0 60 1 35,bQ 10 255010 cG,aT 4 10 59,E 11 60] [[],[],[],[],[],[],[],[],[],[],[],[],[],[],[],[],[],[],[],[],[],[],[],[],[],[],[1,6,11,16,20],[],[]] (ed [E 62 6,aD 63 1 9,aA 64 1 63,br 65 4 62 64,aS 66 4 65,aS 67 4 10,bI 68 DO 66 67,E 61 68,a0 69 0 61,a0 70 1 61,bQ 12 255012 cG,aT 4 12 69,E 13 70] [[],[],[],[],[],[],[],[],[],[],[2,4,5],[],[]] (Q [E 71 7,E 72 71,eg 73 72 11,k7 74 72 .eql 73 0,gr 75 72 74,E 76 75,eg 77 76 13,k7 78 76 .eql 77 0,gr 79 76 78,E 7 79] (.ops [E 80 6,aD 81 1 9,aA 82 1 81,aS 83 4 12,br 84 4 80 82,aT 4 84 83]))))))) (.ops [a3 85 .add 28 1,E 28 85])))))) (.seq (.ghost (.freeze 6) (.ops [E 86 6,E 87 7,E 4 86,E 5 87])) .ret)))))
def J7:bJ:=b5 94 4 [.t 8,.t 9] (Q [dO 8,cx 9 false] (Q [dO 10] (.seq (Q [E 20 2,cq 21 20,a7 22 0] (.block 0 (.ghost (.nq 10 256082 5) (.loop  (Q [bp 23 .lss 22 21] (.seq (dq 23 0) (.seq (.block 1 (Q [E 24 22,br 25 1 20 22,aA 26 1 25,E 11 24,E 12 26] (ed [E 27 1,E 28 12,br 29 1 27 28,aA 30 1 29,E 31 0,E 32 12,br 33 1 31 32,aA 34 1 33,E 35 0,E 36 12,br 37 1 35 36,aA 38 1 37,e7 39 38,aD 40 22 39,aA 41 1 40,e7 42 34,aD 43 11 42,aP 44 (.qe 11 1 (.t 43) (.t 41)),aA 45 1 44,bp 46 .sub 30 45,dv 47 pM 46,aP 48 (.build oC [(1,4,.t 47)]),bQ 13 256013 oC,aT 5 13 48] [[],[],[],[],[],[],[],[],[],[],[],[],[],[],[],[],[],[],[],[],[],[],[3,7,11,14,18],[]] (.seq (.seq (.ghost (.Dr (.t 13) 0 256076 4) (.ops [E 49 2,cq 50 49,a7 51 0])) (dY 2 (Q [bp 52 .lss 51 50] (.seq (dq 52 2) (.seq (.block 3 (Q [E 53 51,E 14 53] (Q [a7 15 0] (.seq (Q [E 54 14,E 55 11,bp 56 .eql 54 55] (e8 56 (.ops [a7 15 1]) .skip)) (ed [E 58 15,dv 59 pM 58,E 60 3,E 61 14,br 62 1 60 61,aA 63 1 62,E 64 12,br 65 4 63 64,aS 66 4 65,bI 67 xb 59 66,E 57 67,a0 68 0 57,a0 69 1 57,bQ 16 256016 cG,aT 4 16 68,E 17 69] [[],[],[],[],[],[],[],[],[],[],[],[],[],[5,8],[],[]] (.seq (Q [E 70 17,a3 71 .neq 70 0] (b4 71 [dO 8,cx 9 false])) (.ops [aD 72 0 13,aA 73 1 72,aS 74 4 16,aP 75 (.eW 256075 false cG 4 1 [(0,4,.t 74)]),aP 76 (.app 256076 cG 64 (.t 73) (.t 75)),aD 77 0 13,aT 1 77 76]))))))) (.ops [a3 78 .add 51 1,E 51 78])))))) (.ghost (.FI (.t 13) 0) (.ops [E 79 10,aS 80 5 13,aP 81 (.eW 256081 false oC 5 1 [(0,5,.t 80)]),aP 82 (.app 256082 oC 88 (.t 79) (.t 81)),E 10 82])))))) (.ops [a3 83 .add 22 1,E 22 83])))))))) (.seq (.ghost (.freeze 10) (.ops [E 85 10,E 86 2,cq 87 86,bI 88 Yw 85 87,E 84 88,a0 89 0 84,a0 90 1 84,E 18 89,E 19 90])) (Q [E 91 18,E 92 19,a3 93 .eql 92 0,E 8 91,E 9 93] .ret)))))

abbrev cI:=List bz×bz
def dQ (r:cI):List Data:=.ax (r.1.map az)::az r.2
def jj (f:bz):(az f).length=4:=rfl
def ry (r:cI):(dQ r).length=5:=rfl
def v8 (f:bz):((az f).map M.H).all M.one=true:=rfl
def pS:∀a b:bz,az a=az b->a=b:=by
 rintro⟨⟨s,l⟩,⟨s2,aw⟩⟩ ⟨⟨t,m⟩,⟨t2,bU⟩⟩ h;simp only[az,bj,Data.int.injEq,Data.ax.injEq,true_and,and_true] at h;obtain⟨rfl,F,rfl,G⟩:=h;rw[map_inj gq _ _ F,map_inj gq _ _ G]
def Ev:∀a b:cI,dQ a=dQ b->a=b:=by
 rintro⟨a,b⟩ ⟨c,d⟩ h;simp only[dQ,bj,Data.ax.injEq] at h;rw[map_inj pS _ _ h.1,pS _ _ h.2]
def okF (f:bz):Prop:=f.1.2.length<=1000000/\f.2.2.length<=1000000
def yX (l:List bz):Prop:=D l<=1000000/\∀f∈l,okF f
def pT (r:cI):Prop:=yX r.1/\okF r.2
def uQ (rs:List cI):Prop:=D rs<=1000000/\∀r∈rs,pT r
def OH:=bV vY λ(s,l,s2,aw)=>cu (D l<=1000000/\D aw<=1000000) (.same (.bool (!dM ((s,l),(s2,aw)))))
@[go_sem] def aya (s l s2 aw):=cH OH rfl J2 (s,l,s2,aw) rfl
def ayb (T:ba)(iD:T o1=aK Ap):WF T ajd OH:=by
 refine cp λ(s,l,s2,aw)=>cT λJ=>⟨rfl,ck ?_⟩;simp only[ajd,vY,cd];obtain⟨bG,bO⟩:=J;refine ai ?_;repeat' (intro h<;>simp only[h,go_sem,go_sem_proc,iD,bG,bO]<;>try refine ag ?_ ?_)
def ajm:=bV vY λ(s,l,s2,aw)=>cu (D l<=1000000/\D aw<=1000000) (.same (.bool (!dM ((s,l),(s2,aw))||decide (s<0))))
@[go_sem] def ayc (s l s2 aw):=cH ajm rfl J2 (s,l,s2,aw) rfl
abbrev aam:Int×(List Int)×Int×(List Int)->List Data:=λ(s,l,s2,aw)=>[.agg [.int .i64 s,.ax (l.map aI),.int .i64 s2,.ax (aw.map aI)],.ptr [.fn agW []]]
def ajn:=bV aam λ(s,l,s2,aw)=>cu (D l<=1000000/\D aw<=1000000) (.same (.bool (!(dM ((s,l),(s2,aw))&&decide (s>=0)))))
def ayd:∀a b,aam a=aam b->a=b:=by
  rintro⟨s1,eN,Ec,Ed⟩ ⟨s2,aw,Ee,Ef⟩ h;simp only[bj,Data.agg.injEq,Data.int.injEq,Data.ax.injEq] at h;exact et h.1.1.2 (et (map_inj gq _ _ h.1.2.1) (et h.1.2.2.1.2 (map_inj gq _ _ h.1.2.2.2.1)))
@[go_sem] def aye (s l s2 aw):=cH ajn rfl ayd (s,l,s2,aw) rfl
def tu {α:Type}(p:α->Bool)(l:List α):Int:=match l.findIdx? p with
 |some i=>i
 |none => -1
def OI {α:Type}{p:α->Bool}{l:List α}{i:Nat}(h:∀x∈l.take i,p x=false){x:α}(L:l[i]?=some x)(aE:p x=true):tu p l=i:=by
 unfold tu
 have:l.findIdx? p=some i:=by
  rw[ajo];obtain⟨ah,rfl⟩:=dV.1 L;refine⟨ah,aE,λj ae=>?_⟩;have:=h l[j] (r9.2 ⟨j,by rw[List.getElem?_take_of_lt ae];exact bh _⟩);rw[this];decide
 rw[this]
def To {α:Type}{p:α->Bool}{l:List α}(h:∀x∈l,p x=false):tu p l = -1:=by
 unfold tu;rw[ajp.2 h]
def Tp {α:Type}(p:α->Bool)(l:List α):decide (tu p l>=0)=l.any p:=by
 unfold tu
 cases h:l.findIdx? p with
 |none =>
  have:=ajp.1 h;have G:l.any p=false:=by rw[List.any_eq_false];intro x L;simp[this x L]
  rw[G];rfl
 |some i =>
  rw[ajo] at h;obtain⟨F,G,-⟩:=h;have ab:l.any p=true:=List.any_eq_true.2 ⟨_,mh F,G⟩;rw[ab];exact hN (by simp)
def Cz (f:bz):Bool:=!dM f
def xz (f:FuncId):bz->Bool:=if f=B2 then λx => !dM x||decide (x.1.1<0) else if f=Gz then λx => !(dM x&&decide (x.1.1>=0)) else Cz
def ayf (f:FuncId):List Data:=if f=Gz then [.ptr [.fn agW []]] else []
@[go_sem] def ayg:xz vL=Cz:=by
 unfold xz;rw[aa (by decide),aa (by decide)]
@[go_sem] def ajq:xz B2=λx => !dM x||decide (x.1.1<0):=by
 unfold xz;rw[Y rfl]
def ayh:xz Gz=λx => !(dM x&&decide (x.1.1>=0)):=by
 unfold xz;rw[aa (by decide),Y rfl]
def J8 {α:Type}{p:α->Bool}{l:List α}{i:Nat}(h:∀x∈l.take i,p x=false){x:α}(L:l[i]?=some x)(aE:p x=false):∀y∈l.take (i+1),p y=false:=by
 intro y aj;rw[hZ,L] at aj;simp only[Option.toList_some,jH,yK] at aj;rcases aj with aj|rfl
 ·exact h y aj
 ·exact aE
def tv {T:ba}{c:er}{K:eK->bc->Prop}{st:bc}(h:wp T c K st):wp T c (cg T K []) st:=by
 have:cg T K []=K:=by funext e st;cases e<;>rfl
 rwa [this]
def aan (T:ba)(id:FuncId)(fh:List Data)(aO:List Data->Option eb)(di:T id=aK aO)(p:bz->Bool)(l:List bz)(aq:yX l)(ec:∀a b c d,D b<=1000000->(D d)<=1000000->aO (.agg [.int .i64 a,.ax (b.map aI),.int .i64 c,.ax (d.map aI)]::fh)=some (.same (.bool (p ((a,b),(c,d)))))):
  wp T NU.body (vH NU.res (.same (.int .i64 (tu p l)))) ⟨kq [.H (.ax (l.map az)),.H (.fn id fh)],emp⟩:=by
 obtain⟨aq,cw⟩:=aq;refine ra ?_;simp only[NU];simp only[go_sem,go_sem_proc,al];refine dd [0,1,7] [] (λ(i:Nat) tm mem=>i<=D l/\(∀x∈l.take i,p x=false)/\tm 8=.H (.int .i64 i)) (λi=>D l-i) 0 (by refine⟨fL _,by simp,rfl⟩) ?_;intro vs ms aQ aM;simp only[go_sem,go_sem_proc,al] at aQ aM;subst aQ aM;rintro i tm mem I hm ⟨O,ea,cS⟩;simp only[go_sem,go_sem_proc,bj] at I hm;obtain⟨ay,F,b9⟩:=I;have lV:∀m:Mem,(fh.map M.H).mapM (cV 6 m)=some fh:=λm=>w8 (cV 6 m) (λd=>rfl) fh;rcases dn (i<D l) with ah|bW
 ·have L:=bh ah;obtain⟨ux,Cj⟩:=cw _ (mh ah);have bH:=λh=>OI (p:=p) ea L h;have hC:=λh=>J8 (p:=p) ea L h;generalize l[i]=x at *;obtain⟨⟨fx,fe⟩,⟨hH,iE⟩⟩:=x;have uR:=ec fx fe hH iE ux Cj;have h3:decide ((i:Int)<(D l:Int))=true:=cX;have hw:=eI (i:=i) (by omega);rcases ad:p ((fx,fe),(hH,iE))
  ·rw[ad] at uR;refine ai ?_;repeat' (intro (ao:_=_)<;>simp only[ao,go_sem,go_sem_proc,di,ay,F,b9,cS,L,h3,hw,uR,lV,az,al,bm,qk]<;>try refine ag ?_ ?_)
   exact⟨i+1,by omega,by omega,hC ad,rfl⟩
  ·rw[ad] at uR;rw[bH ad];refine ai ?_;repeat' (intro (ao:_=_)<;>simp only[ao,go_sem,go_sem_proc,di,ay,F,b9,cS,L,h3,hw,uR,lV,az,al,bm,qk]<;>try refine ag ?_ ?_)
 ·have h3:decide ((i:Int)<(D l:Int))=false:=b7;obtain rfl:i=D l:=by omega
  rw[pb] at ea;rw[To ea];refine ai ?_;repeat' (intro (ao:_=_)<;>simp only[ao,go_sem,go_sem_proc,ay,F,b9,cS,h3,al]<;>try refine ag ?_ ?_)
def ajr (f:FuncId):Prop:=f=vL\/(f=B2/\B2<900000)\/(f=Gz/\Gz<900000)
abbrev J9:(List bz)×FuncId->List Data:=λ(l,f)=>[.ax (l.map az),.fn f (ayf f)]
def Tq:=bV J9 λ(l,f)=>cu (yX l/\ajr f) (.same (.int .i64 (tu (xz f) l)))
def ajs:∀a b,J9 a=J9 b->a=b:=by
  rintro⟨eN,f1⟩ ⟨aw,f2⟩ h;simp only[bj,Data.ax.injEq,Data.fn.injEq] at h;exact et (map_inj pS _ _ h.1) h.2.1.1
@[go_sem] def aOR (l f):=cH Tq rfl ajs (l,f) rfl
def ayi (T:ba)(OJ:T vL=aK OH)(ayj:B2<900000->T B2=aK ajm)(ayk:Gz<900000->T Gz=aK ajn):WF T NU Tq:=by
 refine cp λ(l,f)=>cT λJ=>⟨rfl,ck ?_⟩;simp only[NU,J9,cd];obtain⟨aq,aH⟩:=J;rcases aH with rfl|⟨rfl,O⟩|⟨rfl,O⟩
 ·rw[ayg];exact tv (aan T _ _ _ OJ Cz l aq λa b c d F G=>aya a b c d ⟨F,G⟩)
 ·rw[ajq];exact tv (aan T _ _ _ (ayj O) (λx => !dM x||decide (x.1.1<0)) l aq λa b c d F G=>ayc a b c d ⟨F,G⟩)
 ·rw[ayh];exact tv (aan T _ _ _ (ayk O) (λx => !(dM x&&decide (x.1.1>=0))) l aq λa b c d F G=>aye a b c d ⟨F,G⟩)
def OK:=bV J9 λ(l,f)=>cu (yX l/\ajr f) (.same (.bool (l.any (xz f))))
@[go_sem] def ayl (l f):=cH OK rfl ajs (l,f) rfl
def aym (T:ba)(ayn:T YE=aK Tq):WF T ahl OK:=by
 refine cp λ(l,f)=>cT λJ=>⟨rfl,ck ?_⟩;simp only[ahl,J9,cd];rw[<-Tp];refine ai ?_;repeat' (intro h<;>simp only[h,go_sem,go_sem_proc,ayn,J]<;>try refine ag ?_ ?_)
@[go_sem] def aOS (l:List bz)(h:yX l):OK [.ax (l.map az),.fn vL []]=some (.same (.bool (l.any (xz vL)))):=ayl l vL ⟨h,.inl rfl⟩
def oc (n:Int)(r:cI):Bool:=!(((r.1.length:Int)==n)&&(dM r.2 && !(r.1.any Cz)))
abbrev Tr:(List bz)×Int×(List Int)×Int×(List Int)×Int->List Data:=λ(a,s,l,s2,aw,n)=>[.agg [.ax (a.map az),.int .i64 s,.ax (l.map aI),.int .i64 s2,.ax (aw.map aI)],.ptr [.int .i64 n],.ptr [.fn vL []]]
def Ts:=bV Tr λ(a,s,l,s2,aw,n)=>cu (yX a/\D l<=1000000/\D aw<=1000000) (.same (.bool (oc n (a,((s,l),(s2,aw))))))
def ayo:∀a b,Tr a=Tr b->a=b:=by
  rintro⟨cz,s1,eN,Ec,Ed,hB⟩ ⟨cY,s2,aw,Ee,Ef,ib⟩ h;simp only[bj,Data.agg.injEq,Data.int.injEq,Data.ax.injEq,Data.ptr.injEq] at h;exact et (map_inj pS _ _ h.1.1) (et h.1.2.1.2 (et (map_inj gq _ _ h.1.2.2.1) (et h.1.2.2.2.1.2 (et (map_inj gq _ _ h.1.2.2.2.2.1) h.2.1.1.2))))
@[go_sem] def aOT (a s l s2 aw n):=cH Ts rfl ayo (a,s,l,s2,aw,n) rfl
def ayp (T:ba)(OJ:T vL=aK OH)(aao:T Yy=aK OK):WF T aje Ts:=by
 refine cp λ(a,s,l,s2,aw,n)=>cT λJ=>⟨rfl,ck ?_⟩;simp only[aje,Tr,cd];obtain⟨aZ,bG,bO⟩:=J;unfold oc;rcases F:((D a:Int)==n)
 ·refine ai ?_;repeat' (intro h<;>simp only[h,go_sem,go_sem_proc,OJ,aao,aZ,bG,bO,F,al]<;>try refine ag ?_ ?_)
 ·rcases G:dM ((s,l),(s2,aw))
  ·refine ai ?_;repeat' (intro h<;>simp only[h,go_sem,go_sem_proc,OJ,aao,aZ,bG,bO,F,G,al]<;>try refine ag ?_ ?_)
  ·refine ai ?_;repeat' (intro h<;>simp only[h,go_sem,go_sem_proc,OJ,aao,aZ,bG,bO,F,G,al,show (vL=vL)=True from by simp,true_or,Bool.not_not]<;>try refine ag ?_ ?_)
abbrev Ka:(List cI)×Int->List Data:=λ(rs,n)=>[.ax (rs.map dQ),.fn Sk [.ptr [.int .i64 n],.ptr [.fn vL []]]]
def Tt:=bV Ka λ(rs,n)=>cu (uQ rs) (.same (.int .i64 (tu (oc n) rs)))
def ajt:∀a b,Ka a=Ka b->a=b:=by
  rintro⟨Tu,hB⟩ ⟨Tv,ib⟩ h;simp only[bj,Data.ax.injEq,Data.fn.injEq,Data.ptr.injEq,Data.int.injEq] at h;exact et (map_inj Ev _ _ h.1) h.2.1.2.1.1.2
@[go_sem] def aOU (rs n):=cH Tt rfl ajt (rs,n) rfl
def ayq (T:ba)(Kb:T Sk=aK Ts):WF T ahn Tt:=by
 refine cp λ(rs,n)=>cT λJ=>⟨rfl,ck ?_⟩;simp only[ahn,Ka,cd];obtain⟨aq,cw⟩:=J;simp only[go_sem,go_sem_proc,Kb,al];refine dd [0,1,7] [] (λ(i:Nat) tm mem=>i<=D rs/\(∀x∈rs.take i,oc n x=false)/\tm 8=.H (.int .i64 i)) (λi=>D rs-i) 0 (by refine⟨fL _,?_,rfl⟩;simp) ?_;intro vs ms aQ aM;simp only[go_sem,go_sem_proc,Kb,al] at aQ aM;subst aQ aM;rintro i tm mem I hm ⟨O,ea,cS⟩;simp only[go_sem,go_sem_proc,Kb,bj] at I hm;obtain⟨ay,F,b9⟩:=I;rcases dn (i<D rs) with ah|bW
 ·have L:=bh ah;obtain⟨iW,ux,Cj⟩:=cw _ (mh ah);have bH:=λh=>OI (p:=oc n) ea L h;have hC:=λh=>J8 (p:=oc n) ea L h;generalize rs[i]=x at *;have h3:decide ((i:Int)<(D rs:Int))=true:=cX;have hw:=eI (i:=i) (by omega);obtain⟨a,⟨fx,fe⟩,⟨hH,iE⟩⟩:=x;dsimp only at iW ux Cj;rcases ad:oc n (a,((fx,fe),(hH,iE)))
  ·refine ai ?_;repeat' (intro (ao:_=_)<;>simp only[ao,go_sem,go_sem_proc,Kb,ay,F,b9,cS,L,h3,hw,iW,ux,Cj,ad,al,bm,dQ,az]<;>try refine ag ?_ ?_)
   exact⟨i+1,by omega,by omega,hC ad,rfl⟩
  ·rw[bH ad];refine ai ?_;repeat' (intro (ao:_=_)<;>simp only[ao,go_sem,go_sem_proc,Kb,ay,F,b9,cS,L,h3,hw,iW,ux,Cj,ad,al,bm,dQ,az]<;>try refine ag ?_ ?_)
 ·have h3:decide ((i:Int)<(D rs:Int))=false:=b7;have nJ:i=D rs:=by omega
  subst nJ;rw[pb] at ea;rw[To ea];refine ai ?_;repeat' (intro (ao:_=_)<;>simp only[ao,go_sem,go_sem_proc,Kb,ay,F,b9,cS,h3,al]<;>try refine ag ?_ ?_)
def Tw:=bV Ka λ(rs,n)=>cu (uQ rs) (.same (.bool (rs.any (oc n))))
@[go_sem] def aOV (rs n):=cH Tw rfl ajt (rs,n) rfl
def ayr (T:ba)(ays:T YD=aK Tt):WF T ahk Tw:=by
 refine cp λ(rs,n)=>cT λJ=>⟨rfl,ck ?_⟩;simp only[ahk,Ka,cd];rw[<-Tp];refine ai ?_;repeat' (intro h<;>simp only[h,go_sem,go_sem_proc,ays,J]<;>try refine ag ?_ ?_)
def j7 (rs:List cI)(n:Int):Bool:=!(decide (n<0))&&(!(decide (n>40))&&(((D rs:Int)==n) && !(rs.any (oc n))))
abbrev Ay:(List cI)×Int->List Data:=λ(rs,n)=>[.ax (rs.map dQ),.int .i64 n]
def Tx:=bV Ay λ(rs,n)=>cu (uQ rs) (.same (.bool (j7 rs n)))
def Ty:∀a b,Ay a=Ay b->a=b:=by
  rintro⟨Tu,hB⟩ ⟨Tv,ib⟩ h;simp only[bj,Data.ax.injEq,Data.int.injEq] at h;exact et (map_inj Ev _ _ h.1) h.2.1.2
@[go_sem] def aOW (rs n):=cH Tx rfl Ty (rs,n) rfl
def ayt (T:ba)(Tz:T Yx=aK Tw):WF T ajb Tx:=by
 refine cp λ(rs,n)=>cT λJ=>⟨rfl,ck ?_⟩;simp only[ajb,Ay,cd];unfold j7;rcases F:decide (n<0)
 ·rcases G:decide (n>40)
  ·rcases ab:((D rs:Int)==n)
   ·refine ai ?_;repeat' (intro h<;>simp only[h,go_sem,go_sem_proc,Tz,J,F,G,ab,al]<;>try refine ag ?_ ?_)
   ·refine ai ?_;repeat' (intro h<;>simp only[h,go_sem,go_sem_proc,Tz,J,F,G,ab,al,cV,Bo,xA,scalar]<;>try refine ag ?_ ?_)
  ·refine ai ?_;repeat' (intro h<;>simp only[h,go_sem,go_sem_proc,Tz,J,F,G,al]<;>try refine ag ?_ ?_)
 ·refine ai ?_;repeat' (intro h<;>simp only[h,go_sem,go_sem_proc,Tz,J,F,al]<;>try refine ag ?_ ?_)
def aju {es:List (List Data)}(h:∀x∈es,Fit (.int .i64) x):∃l:List Int,es=l.map aI:=by
 obtain⟨l,e,-⟩:=Yq (e:=aI) (good:=λ_=>True) λx L=>by
  have:=h x L;simp only[Fit] at this;obtain⟨n,rfl,-⟩:=this;exact⟨n,rfl,trivial⟩
 exact⟨l,e⟩
def ajv:bJ:=b5 28 1 [.cell 2 2 true] (Q [bQ 2 144002 dP] (.seq (Q [E 6 0,a3 7 .eql 6 0] (b4 7 [aP 8 (.build dP []),aT 2 2 8])) (Q [a7 3 1] (.seq (Q [E 9 0,a3 10 .lss 9 0] (e8 10 (.ops [aP 3 (.ko (.c (.H (.int .i64 (-1)))))]) .skip)) (Q [dO 4] (.seq (.block 0 (.ghost (.nq 4 144022 1) (.loop  (.seq (Q [E 11 0,a3 12 .neq 11 0] (dq 12 0)) (.block 1 (Q [E 13 0,a3 14 .rem 13 1048576,E 5 14] (.seq (Q [E 15 5,a3 16 .lss 15 0] (e8 16 (.ops [E 17 5,aP 18 (.un .neg (.t 17)),E 5 18]) .skip)) (Q [E 19 4,E 20 5,aP 21 (.eW 144021 false [bM 0] 1 1 [(0,1,.t 20)]),aP 22 (.app 144022 [bM 0] 8 (.t 19) (.t 21)),E 4 22] (.ops [E 23 0,a3 24 .quo 23 1048576,E 0 24]))))))))) (.seq (.ghost (.freeze 4) (.ops [E 25 3,E 26 4,bI 27 qv 25 26,aT 2 2 27])) .ret)))))))
def ajw:bJ:=b5 60 1 [.t 2] (Q [c0 1 162001 0,cx 2 false] (.seq (Q [a7 3 0] (dY 0 (.seq (Q [E 5 3,aD 6 1 1,aA 7 1 6,cq 8 7,bp 9 .lss 5 8] (dq 9 0)) (.seq (.block 1 (Q [aD 12 1 1,aA 13 1 12,E 14 3,br 15 1 13 14,aA 16 1 15,a3 17 .lss 16 0,E 18 17,ez 19 18 1 1,dG 20 18 1 19,fr 21 18 3,B5 22 18 1 20 21,dG 23 18 1 22,fc 24 18 .geq 23 1048576,cv 25 18 24] (b4 25 [cx 2 false]))) (.ops [E 10 3,a3 11 .add 10 1,E 3 11]))))) (Q [aD 26 1 1,aA 27 1 26,cq 28 27,E 4 28] (.seq (Q [aD 29 0 1,aA 30 1 29,aP 31 (.bin .lss (.t 30) (.c (.H (.int .i64 (-1))))),E 32 31,ez 33 32 0 1,dG 34 32 1 33,fc 35 32 .gtr 34 1,cv 36 32 35,E 37 36,fr 38 37 4,fc 39 37 .gtr 38 60,cv 40 37 39,E 41 40,fr 42 41 4,fc 43 41 .eql 42 0,ez 44 41 0 1,dG 45 41 1 44,fc 46 41 .eql 45 0,e3 47 41 (.beq true (.t 43) (.t 46)),cv 48 41 47] (b4 48 [cx 2 false])) (Q [E 49 4,a3 50 .eql 49 0,E 51 50,ez 52 51 1 1,dG 53 51 1 52,fr 54 51 4,fc 55 51 .sub 54 1,B5 56 51 1 53 55,dG 57 51 1 56,fc 58 51 .neq 57 0,cv 59 51 58,E 2 59] .ret)))))
def ajx:bJ:=b5 13 1 [.cell 2 2 true] (Q [c0 1 163001 0,bQ 2 163002 dP] (.seq (Q [aS 3 2 1,dv 4 ml 3,fb 5 4] (b4 5 [aP 6 (.build dP []),aT 2 2 6])) (Q [aD 7 0 1,aA 8 1 7,aP 9 (.un .neg (.t 8)),aD 10 1 1,aA 11 1 10,bI 12 qv 9 11,aT 2 2 12] .ret)))
def ajy:bJ:=b5 36 2 [.cell 4 2 true,.t 5] (Q [c0 2 164002 0,c0 3 164003 1,bQ 4 164004 dP,a7 5 0] (.seq (Q [aS 10 2 2,dv 11 ml 10,fb 12 11,E 13 12,iR 14 13 2 3,e3 15 13 (.call ml [.t 14]),ha 16 13 15,cv 17 13 16] (b4 17 [aP 18 (.build dP []),aT 2 4 18,a7 5 1])) (Q [aD 19 1 2,aA 20 1 19,E 6 20] (Q [aD 21 1 3,aA 22 1 21,E 7 22] (.seq (dY 0 (.seq (Q [E 23 7,cq 24 23,a3 25 .gtr 24 0] (dq 25 0)) (.block 1 (Q [E 27 6,E 28 7,bI 29 Nx 27 28,E 26 29,a0 30 0 26,a0 31 1 26,E 8 30,E 9 31] (Q [E 32 7,E 6 32] (.ops [E 33 9,E 7 33])))))) (Q [E 34 6,aP 35 (.call qv [.c (bM 1),.t 34]),aT 2 4 35,a7 5 0] .ret))))))
def ajz:bJ:=b5 65 2 [.cell 4 2 true,.cell 5 2 true,.t 6] (Q [c0 2 165002 0,c0 3 165003 1,bQ 4 165004 dP,bQ 5 165005 dP,a7 6 0] (.seq (Q [aS 9 2 2,dv 10 ml 9,fb 11 10,E 12 11,iR 13 12 2 3,e3 14 12 (.call ml [.t 13]),ha 15 12 14,cv 16 12 15] (b4 16 [aP 17 (.build dP []),aP 18 (.build dP []),aT 2 4 17,aT 2 5 18,a7 6 1])) (.seq (Q [aD 19 0 3,aA 20 1 19,a3 21 .eql 20 0] (b4 21 [aP 22 (.build dP []),aP 23 (.build dP []),aT 2 4 22,aT 2 5 23,a7 6 15])) (Q [aD 25 1 2,aA 26 1 25,aD 27 1 3,aA 28 1 27,bI 29 Nx 26 28,E 24 29,a0 30 0 24,a0 31 1 24,E 7 30,E 8 31] (.seq (Q [aD 32 0 2,aA 33 1 32,aD 34 0 3,aA 35 1 34,bp 36 .mul 33 35,a3 37 .geq 36 0,E 38 37,fr 39 38 8,pN 40 38 39,fc 41 38 .eql 40 0,cv 42 38 41] (e8 42 (ed [aD 43 0 2,aA 44 1 43,aD 45 0 3,aA 46 1 45,bp 47 .mul 44 46,E 48 7,bI 49 qv 47 48,aD 50 0 2,aA 51 1 50,E 52 8,bI 53 qv 51 52,aT 2 4 49,aT 2 5 53,a7 6 0] NT .ret) .skip)) (ed [E 54 7,aP 55 (.eW 165055 false [bM 0] 1 1 [(0,1,.c (bM 1))]),bI 56 Ny 54 55,aP 57 (.call qv [.c (.H (.int .i64 (-1))),.t 56]),aD 58 0 3,aA 59 1 58,aD 60 1 3,aA 61 1 60,E 62 8,bI 63 DR 61 62,bI 64 qv 59 63,aT 2 4 57,aT 2 5 64,a7 6 0] NT .ret))))))
def ajA:bJ:=b5 15 2 [.cell 4 2 true] (Q [bQ 4 166004 dP] (Q [E 6 1,dv 7 vM 6,E 5 7] (.seq (Q [E 8 5,cq 9 8,a3 10 .eql 9 0] (b4 10 [aP 11 (.build dP []),aT 2 4 11])) (Q [E 12 0,E 13 5,aP 14 (.build dP [(0,1,.t 12),(1,1,.t 13)]),aT 2 4 14] .ret))))
def TA:bJ:=b5 60 2 [.t 4,.t 5] (Q [dO 4,dO 5] (Q [E 12 0,cq 13 12,aP 14 (.mC 180014 [bM 0] 8 (.t 13) (.t 13)),E 6 14] (Q [dO 7] (.seq (Q [E 15 0,cq 16 15,a3 17 .sub 16 1,E 8 17] (dY 0 (.seq (Q [E 18 8,a3 19 .geq 18 0] (dq 19 0)) (.seq (.block 1 (Q [E 22 0,E 23 8,br 24 1 22 23,aA 25 1 24,aP 26 (.eW 180026 true [bM 0] 1 1 [(0,1,.t 25)]),E 27 7,aP 28 (.app 180028 [bM 0] 8 (.t 26) (.t 27)),dv 29 vM 28,E 7 29] (Q [a7 9 0] (Q [a7 10 1048576] (.seq (dY 2 (.seq (Q [E 30 10,E 31 9,bp 32 .sub 30 31,a3 33 .gtr 32 1] (dq 33 2)) (.block 3 (Q [E 34 9,E 35 10,bp 36 .add 34 35,a3 37 .quo 36 2,E 11 37] (Q [E 38 7,E 39 1,E 40 11,aP 41 (.eW 180041 false [bM 0] 1 1 [(0,1,.t 40)]),bI 42 Gt 39 41,bI 43 DS 38 42] (e8 43 (.ops [E 44 11,E 10 44]) (.ops [E 45 11,E 9 45]))))))) (Q [E 46 6,E 47 8,E 48 9,br 49 1 46 47,aT 1 49 48] (.ops [E 50 7,E 51 1,E 52 9,aP 53 (.eW 180053 false [bM 0] 1 1 [(0,1,.t 52)]),dv 54 vM 53,bI 55 Gt 51 54,bI 56 DR 50 55,E 7 56]))))))) (.ops [E 20 8,a3 21 .sub 20 1,E 8 21]))))) (Q [E 57 6,dv 58 vM 57,E 59 7,E 4 58,E 5 59] .ret)))))
def ajB:bJ:=b5 43 2 [.t 4] (Q [dO 4] (Q [dO 5] (Q [a7 6 0] (.seq (Q [a7 7 0] (.block 0 (.ghost (.nq 5 181038 1) (.loop  (.seq (Q [E 9 7,E 10 0,cq 11 10,bp 12 .lss 9 11,E 13 12,fr 14 13 7,fr 15 13 1,pN 16 13 15,rm 17 13 .lss 14 16,cv 18 13 17,E 19 18,fr 20 19 6,fc 21 19 .gtr 20 0,cv 22 19 21] (dq 22 0)) (.seq (.block 1 (Q [E 25 0,E 26 7,bI 27 vN 25 26,E 28 1,E 29 7,bI 30 vN 28 29,bp 31 .add 27 30,E 32 6,bp 33 .add 31 32,E 8 33] (Q [E 34 5,E 35 8,a3 36 .rem 35 1048576,aP 37 (.eW 181037 false [bM 0] 1 1 [(0,1,.t 36)]),aP 38 (.app 181038 [bM 0] 8 (.t 34) (.t 37)),E 5 38] (.ops [E 39 8,a3 40 .quo 39 1048576,E 6 40])))) (.ops [E 23 7,a3 24 .add 23 1,E 7 24]))))))) (Q [E 41 5,dv 42 vM 41,E 4 42] .ret)))))
def ajC:bJ:=b5 35 2 [.t 4] (Q [dO 4] (Q [dO 5] (Q [a7 6 0] (.seq (Q [a7 7 0] (.block 0 (.ghost (.nq 5 182032 1) (.loop  (.seq (Q [E 9 7,E 10 0,cq 11 10,bp 12 .lss 9 11] (dq 12 0)) (.seq (.block 1 (ed [E 15 0,E 16 7,br 17 1 15 16,aA 18 1 17,E 19 1,E 20 7,bI 21 vN 19 20,bp 22 .sub 18 21,E 23 6,bp 24 .sub 22 23,E 8 24] Aa (Q [a7 6 0] (.seq (Q [E 25 8,a3 26 .lss 25 0] (e8 26 (Q [E 27 8,a3 28 .add 27 1048576,E 8 28] (.ops [a7 6 1])) .skip)) (.ops [E 29 5,E 30 8,aP 31 (.eW 182031 false [bM 0] 1 1 [(0,1,.t 30)]),aP 32 (.app 182032 [bM 0] 8 (.t 29) (.t 31)),E 5 32]))))) (.ops [E 13 7,a3 14 .add 13 1,E 7 14]))))))) (Q [E 33 5,dv 34 vM 33,E 4 34] .ret)))))
def ajD:bJ:=b5 23 1 [.t 2] (Q [dO 2] (Q [E 4 0,cq 5 4,E 3 5] (.seq (dY 0 (.seq (Q [E 6 3,a3 7 .gtr 6 0,E 8 7,eg 9 8 0,eg 10 8 3,k7 11 8 .sub 10 1,rn 12 8 1 9 11,j4 13 8 1 12,k7 14 8 .eql 13 0,gr 15 8 14] (dq 15 0)) (.block 1 (.ops [E 16 3,a3 17 .sub 16 1,E 3 17])))) (Q [aP 18 (.eW 183018 true [] 1 0 []),E 19 0,E 20 3,aP 21 (.ua 1 (.t 19) none (some (.t 20)) none),aP 22 (.app 183022 [bM 0] 8 (.t 18) (.t 21)),E 2 22] .ret))))
def ajE:bJ:=b5 30 2 [.t 4] (Q [cx 4 false] (.seq (Q [E 6 0,cq 7 6,E 8 1,cq 9 8,aP 10 (.jX true (.t 7) (.t 9)),a3 11 .sub 10 1,E 5 11] (dY 0 (.seq (Q [E 12 5,a3 13 .geq 12 0] (dq 13 0)) (.seq (.block 1 (Q [E 16 0,E 17 5,bI 18 vN 16 17,E 19 1,E 20 5,bI 21 vN 19 20,bp 22 .neq 18 21] (b4 22 [E 23 0,E 24 5,bI 25 vN 23 24,E 26 1,E 27 5,bI 28 vN 26 27,bp 29 .lss 25 28,E 4 29]))) (.ops [E 14 5,a3 15 .sub 14 1,E 5 15]))))) (Q [cx 4 false] .ret)))
def ajF:bJ:=b5 60 2 [.t 4] (Q [dO 4] (Q [E 10 0,cq 11 10,E 12 1,cq 13 12,bp 14 .add 11 13,aP 15 (.mC 186015 [bM 0] 8 (.t 14) (.t 14)),E 5 15] (.seq (Q [a7 6 0] (dY 0 (.seq (Q [E 16 6,E 17 0,cq 18 17,bp 19 .lss 16 18] (dq 19 0)) (.seq (.block 1 (Q [a7 7 0] (Q [a7 8 0] (dY 2 (.seq (Q [E 22 8,E 23 1,cq 24 23,bp 25 .lss 22 24,E 26 25,fr 27 26 7,fc 28 26 .gtr 27 0,cv 29 26 28] (dq 29 2)) (.seq (.block 3 (ed [E 32 5,E 33 6,E 34 8,bp 35 .add 33 34,br 36 1 32 35,aA 37 1 36,E 38 0,E 39 6,br 40 1 38 39,aA 41 1 40,E 42 1,E 43 8,bI 44 vN 42 43,bp 45 .mul 41 44,bp 46 .add 37 45,E 47 7,bp 48 .add 46 47,E 9 48] Zh (Q [E 49 5,E 50 6,E 51 8,bp 52 .add 50 51,E 53 9,a3 54 .rem 53 1048576,br 55 1 49 52,aT 1 55 54] (.ops [E 56 9,a3 57 .quo 56 1048576,E 7 57])))) (.ops [E 30 8,a3 31 .add 30 1,E 8 31]))))))) (.ops [E 20 6,a3 21 .add 20 1,E 6 21]))))) (Q [E 58 5,dv 59 vM 58,E 4 59] .ret))))
def ajG:bJ:=b5 13 2 [.t 4] (Q [a7 4 0] (.seq (Q [E 5 1,E 6 0,cq 7 6,bp 8 .lss 5 7] (b4 8 [E 9 0,E 10 1,br 11 1 9 10,aA 12 1 11,E 4 12])) (Q [a7 4 0] .ret)))
def ajH:bJ:=b5 29 2 [.cell 4 2 true,.t 5] (Q [c0 2 202002 0,c0 3 202003 1,bQ 4 202004 dP,a7 5 0] (.seq (Q [aS 6 2 2,dv 7 ml 6,fb 8 7,E 9 8,iR 10 9 2 3,e3 11 9 (.call ml [.t 10]),ha 12 9 11,cv 13 9 12] (b4 13 [aP 14 (.build dP []),aT 2 4 14,a7 5 1])) (ed [aD 15 0 2,aA 16 1 15,aD 17 0 3,aA 18 1 17,bp 19 .mul 16 18,aD 20 1 2,aA 21 1 20,aD 22 1 3,aA 23 1 22,bI 24 Gt 21 23,bI 25 qv 19 24,dv 26 Gv 25,a0 27 0 26,a0 28 1 26,aT 2 4 27,E 5 28] DY .ret)))
def ajI:bJ:=b5 21 2 [.cell 4 2 true,.t 5] (Q [c0 2 203002 0,c0 3 203003 1,bQ 4 203004 dP,a7 5 0] (.seq (Q [aS 8 2 3,dv 9 ml 8,fb 10 9] (b4 10 [aP 11 (.build dP []),aT 2 4 11,a7 5 1])) (ed [aS 13 2 2,aS 14 2 3,dv 15 Jp 14,bI 16 YT 13 15,E 12 16,a0 17 0 12,a0 18 1 12,bQ 6 203006 dP,aT 2 6 17,E 7 18] [[],[],[],[],[],[],[],[0,1],[],[]] (Q [aS 19 2 6,E 20 7,aT 2 4 19,E 5 20] .ret))))
def ajJ:bJ:=b5 37 2 [.t 4] (Q [c0 2 205002 0,c0 3 205003 1,a7 4 0] (.seq (Q [aS 5 2 2,dv 6 ml 5,fb 7 6,E 8 7,iR 9 8 2 3,e3 10 8 (.call ml [.t 9]),ha 11 8 10,cv 12 8 11,E 13 12,iR 14 13 2 2,iR 15 13 2 3,e3 16 13 (.call YU [.t 14,.t 15]),cv 17 13 16] (b4 17 [a7 4 0])) (.seq (Q [aD 18 0 2,aA 19 1 18,aD 20 0 3,aA 21 1 20,bp 22 .neq 19 21] (e8 22 (.seq (Q [aD 23 0 2,aA 24 1 23,aD 25 0 3,aA 26 1 25,bp 27 .lss 24 26] (b4 27 [aP 4 (.ko (.c (.H (.int .i64 (-1)))))])) (Q [a7 4 1] .ret)) .skip)) (.seq (ed [aD 28 1 2,aA 29 1 28,aD 30 1 3,aA 31 1 30,bI 32 DS 29 31,aD 33 0 2,aA 34 1 33,a3 35 .gtr 34 0,aP 36 (.beq false (.t 32) (.t 35))] Sz (b4 36 [aP 4 (.ko (.c (.H (.int .i64 (-1)))))])) (Q [a7 4 1] .ret)))))
def ajK:bJ:=b5 71 2 [.cell 4 2 true,.t 5] (Q [c0 2 206002 0,c0 3 206003 1,bQ 4 206004 dP,a7 5 0] (.seq (Q [aS 6 2 2,dv 7 ml 6,fb 8 7,E 9 8,iR 10 9 2 3,e3 11 9 (.call ml [.t 10]),ha 12 9 11,cv 13 9 12] (b4 13 [aP 14 (.build dP []),aT 2 4 14,a7 5 1])) (.seq (Q [aD 15 0 2,aA 16 1 15,a3 17 .eql 16 0,E 18 17,ez 19 18 0 3,dG 20 18 1 19,fc 21 18 .eql 20 0,cv 22 18 21,E 23 22,ez 24 23 0 2,dG 25 23 1 24,ez 26 23 0 3,dG 27 23 1 26,rm 28 23 .eql 25 27,cv 29 23 28] (e8 29 (ed [aD 30 0 2,aA 31 1 30,aD 32 0 3,aA 33 1 32,bp 34 .or 31 33,aD 35 1 2,aA 36 1 35,aD 37 1 3,aA 38 1 37,bI 39 Ny 36 38,bI 40 qv 34 39,dv 41 Gv 40,a0 42 0 41,a0 43 1 41,aT 2 4 42,E 5 43] DY .ret) .skip)) (.seq (Q [aD 44 1 2,aA 45 1 44,aD 46 1 3,aA 47 1 46,bI 48 DS 45 47] (e8 48 (ed [aD 49 0 3,aA 50 1 49,aD 51 1 3,aA 52 1 51,aD 53 1 2,aA 54 1 53,bI 55 DR 52 54,bI 56 qv 50 55,dv 57 Gv 56,a0 58 0 57,a0 59 1 57,aT 2 4 58,E 5 59] GJ .ret) .skip)) (ed [aD 60 0 2,aA 61 1 60,aD 62 1 2,aA 63 1 62,aD 64 1 3,aA 65 1 64,bI 66 DR 63 65,bI 67 qv 61 66,dv 68 Gv 67,a0 69 0 68,a0 70 1 68,aT 2 4 69,E 5 70] GJ .ret)))))
def ajL:bJ:=b5 10 1 [.cell 2 2 true,.t 3] (Q [c0 1 209001 0,bQ 2 209002 dP,a7 3 0] (.seq (Q [aD 4 1 1,aA 5 1 4,cq 6 5,a3 7 .gtr 6 60] (b4 7 [aP 8 (.build dP []),aT 2 2 8,a7 3 6])) (Q [aS 9 2 1,aT 2 2 9,a7 3 0] .ret)))
def ajM:bJ:=b5 38 2 [.t 4] (Q [c0 2 210002 0,c0 3 210003 1,cx 4 false] (.seq (Q [aD 6 0 2,aA 7 1 6,aD 8 0 3,aA 9 1 8,bp 10 .neq 7 9,E 11 10,ez 12 11 1 2,dG 13 11 1 12,pN 14 11 13,ez 15 11 1 3,dG 16 11 1 15,pN 17 11 16,rm 18 11 .neq 14 17,cv 19 11 18] (b4 19 [cx 4 false])) (.seq (Q [a7 5 0] (dY 0 (.seq (Q [E 20 5,aD 21 1 2,aA 22 1 21,cq 23 22,bp 24 .lss 20 23] (dq 24 0)) (.seq (.block 1 (ed [aD 27 1 2,aA 28 1 27,E 29 5,br 30 1 28 29,aA 31 1 30,aD 32 1 3,aA 33 1 32,E 34 5,br 35 1 33 34,aA 36 1 35,bp 37 .neq 31 36] Aa (b4 37 [cx 4 false]))) (.ops [E 25 5,a3 26 .add 25 1,E 5 26]))))) (Q [cx 4 true] .ret))))
def Kc (l:List Int):I9 (.own 1 (l.map aI))=some (.own 1 (l.map aI)):=by
 refine Y ?_;rw[List.all_eq_true];intro e he;obtain⟨d,-,rfl⟩:=gm.1 he;simp[aI,scalar]
def Hg (n k g sz off len:Nat):cV n emp (.ref k g sz off len)=none:=by cases n<;>rfl
def CA:=bV Ab λ(l:List Int)=>cu (D l<=1000000) (.own 1 ((gS l).map aI))
@[go_sem] def Hh (l):=cH CA rfl SD l rfl
def ayu (T:ba):WF T ajD CA:=by
 refine cp λl=>cT λJ=>⟨rfl,ck ?_⟩;simp only[ajD,Ab,cd];have pG:((l.map aI).all λe=>D e==1)=true:=by simp[aI]
 refine ai ?_;repeat' (intro h<;>simp only[h,go_sem,go_sem_proc,al]<;>try refine ag ?_ ?_)
 refine dd [0] [] (λ(n:Nat) tm mem=>n<=D l/\gS l=gS (l.take n)/\tm 3=.H (.int .i64 n)/\mem 183018=none) (λn=>n) (D l) (by refine⟨cl _,by simp,by simp[go_sem],rfl⟩) ?_;intro vs ms aQ aM;simp only[go_sem,go_sem_proc,al] at aQ aM;subst aQ aM;rintro n tm mem I-⟨aL,b0,ab,aap⟩;simp only[go_sem,go_sem_proc,bj] at I;have ay:=I
 have c9:∀o:List Int,D o<=(D l)->lL 183018 0 1 0 8 (D o) ((o.map aI).flatten.map .H) (some (0,[]))=some (.ref 183018 1 1 0 (D o),some (183018,1,aU aI o)):=by
  intro o bw;have:=BP kz z7 183018 0 8 [] o (by simp;omega) (by simp;omega)
  simpa [aU] using this
 have q9:∀(o:List Int) (m:Mem),m 183018=some (1,aU aI o)->ri 1 m (.ref 183018 1 1 0 (D o))=some (o.map aI):=by
  intro o m hm;have:=ahz hm (cl _);rwa [dD (cl _)] at this
 have ayv:∀o:List Int,((o.map aI).all λe=>D e==1)=true:=λo=>by simp[aI]
 rcases n with _|n
 ·have F:=c9 [] (by simp);have bw:=q9 [];simp only[bY,ajN,o2] at F bw;refine ai ?_;repeat' (intro h<;>simp only[h,go_sem,go_sem_proc,ay,ab,aap,pG,F,qx,rp,show ¬ ((0:Int)>0) by omega,decide_false,al,show (0:Int).toNat=0 from rfl,show (0:Int)<=0 by omega,fL,List.take_zero,bY,o2]<;>try refine ag ?_ ?_)
  rw[bw _ (by simp[a5]),b0];simp[gS]
 ·have hw:IntKind.i64.wrap (((n+1:Nat):Int)-1)=(n:Int):=by rw[eY _];omega
  have L:l[n]?=some l[n]:=bh (by omega);have jt:((n+1:Nat):Int)>0:=by omega
  have hle:n+1<=D l:=aL
  by_cases a2:l[n]=0
  ·refine ai ?_;repeat' (intro h<;>simp only[h,go_sem,go_sem_proc,ay,ab,hw,L,a2,jt,al,bm,decide_true,aI,beq_self_eq_true,bj]<;>try refine ag ?_ ?_)
   exact⟨n,by omega,by omega,by rw[b0,Zi l n (by omega) a2],rfl,aap⟩
  ·have nC:(l[n]==0)=false:=by simpa using a2
   have F:=c9 (l.take (n+1)) (by rw[gP];omega);rw[gP,pF hle,ajO] at F;have bO:(gT (n+1) (l.map aI)).length=n+1:=by rw[gP,al];omega
   have ajP:=ayv (l.take (n+1));rw[ajO] at ajP;refine ai ?_;repeat' (intro h<;>simp only[h,go_sem,go_sem_proc,ay,ab,aap,hw,L,nC,jt,pG,ajP,hle,F,bO,aI,al,bm,decide_true,bj,show (0:Int)<=((n+1:Nat):Int) by omega,Int.toNat_natCast,fL]<;>try refine ag ?_ ?_)
   have bw:=q9 (l.take (n+1)) _ (show a5 (a5 mem 183018 0 []) 183018 1 (aU aI (gT (n+1) l)) 183018=_ by simp[a5])
   rw[gP,pF hle] at bw;rw[bw,b0,Zj l n (by omega) a2]
abbrev TB:(List Int)×Nat->List Data:=λ(l,i)=>[.ax (l.map aI),.int .i64 i]
def Hi:=bV TB λ(l,i)=>cu (D l<=1000000) (.same (.int .i64 (l.getD i 0)))
def ayw:∀a b,TB a=TB b->a=b:=by
  rintro⟨eN,i1⟩ ⟨aw,i2⟩ h;simp only[bj,Data.ax.injEq,Data.int.injEq] at h;exact et (map_inj gq _ _ h.1) (by have:=h.2.1.2;dsimp only;omega)
@[go_sem] def ajQ (l i):=cH Hi rfl ayw (l,i) rfl
def ayx (T:ba):WF T ajG Hi:=by
 refine cp λ(l,i)=>cT λJ=>⟨rfl,ck ?_⟩;simp only[ajG,TB,cd];rcases hO i (D l) with ah|bW
 ·have L:=bh ah;have Z:decide ((i:Int)<(D l:Int))=true:=cX;have bb:l.getD i 0=l[i]:=by rw[eD,L];rfl
  rw[bb];refine ai ?_;repeat' (intro h<;>simp only[h,go_sem,go_sem_proc,L,Z,aI,al,bm]<;>try refine ag ?_ ?_)
 ·have Z:decide ((i:Int)<(D l:Int))=false:=b7;have bb:l.getD i 0=0:=by rw[eD,jZ bW];rfl
  rw[bb];refine ai ?_;repeat' (intro h<;>simp only[h,go_sem,go_sem_proc,Z,al]<;>try refine ag ?_ ?_)
def Kd (n i:Nat):(aY n).getD i 0=((n/1048576^i%1048576:Nat):Int):=by
 induction i generalizing n with
 |zero =>
  rcases kO n with h|h
  ·subst h;rfl
  ·rw[w9 h,Nat.pow_zero,Nat.div_one];rfl
 |succ i aG =>
  rcases kO n with h|h
  ·subst h;rw[ajR];rfl
  ·rw[w9 h];show (aY (n/1048576)).getD i 0=_;rw[aG,ajS,<-Nat.pow_succ']
def Ke (n i:Nat):n/1048576^i=n/1048576^i%1048576+1048576*(n/1048576^(i+1)):=by
 rw[xa,<-ajS];omega
def Ew {n k:Nat}(h:(aY n).length<=k):n/1048576^k=0:=Nat.div_eq_of_lt (g9.1 h)
def Hj:=bV n5 λ(x,y)=>cu ((aY x).length<=100000/\(aY y).length<=100000) (.same (.bool (decide (x<y))))
@[go_sem] def aaq (x y):=cH Hj rfl Ag (x,y) rfl
def ayy (T:ba)(iX:T vN=aK Hi):WF T ajE Hj:=by
 refine cp λ(x,y)=>cT λJ=>⟨rfl,ck ?_⟩;simp only[ajE,n5,cd];obtain⟨L,aj⟩:=J;have gE:∃bk:Nat,bk=max (aY x).length (aY y).length:=⟨_,rfl⟩;obtain⟨bk,gE⟩:=gE;have js:(if ((aY y).length:Int)>((aY x).length:Int) then ((aY y).length:Int) else ((aY x).length:Int))=(bk:Int):=by split<;>omega
 have Eb:IntKind.i64.wrap ((bk:Int)-1)=(bk:Int)-1:=wrap64 _ (by omega) (by omega);have m4:(aY x).length<=1000000:=by omega
 have mH:(aY y).length<=1000000:=by omega
 simp only[go_sem,go_sem_proc,iX,eh,al,js,Eb];refine dd [0,1] [] (λ(i:Nat) tm mem=>i<=bk/\x/1048576^i=y/1048576^i/\tm 5=.H (.int .i64 ((i:Int)-1))) (λi=>i) bk (by refine⟨cl _,?_,rfl⟩;rw[Ew (by omega),Ew (by omega)]) ?_;intro vs ms aQ aM;simp only[go_sem,go_sem_proc,iX,eh] at aQ aM;subst aQ aM;rintro i tm mem I-⟨O,he,bu⟩;simp only[go_sem,go_sem_proc,iX,bj] at I;obtain⟨ay,F⟩:=I;rcases i with _|i
 ·have g0:x=y:=by simpa using he
  have ah:decide (x<y)=false:=b7;rw[ah];simp only[go_sem,go_sem_proc,iX,ay,F,bu,qx,rp,show ¬ ((0:Int)-1>=0) by omega,decide_false]
  repeat' (first|refine ag ?_ ?_|fail)<;>intro h<;>simp only[h,go_sem,go_sem_proc,iX,ay,F,bu,qx,rp,show ¬ ((0:Int)-1>=0) by omega,decide_false]
 ·have hw:((i+1:Nat):Int)-1=(i:Int):=by omega
  have bW:decide ((i:Int)>=0)=true:=cX;have au:=Ke x i;have aC:=Ke y i;rw[he] at au;have ih:IntKind.i64.wrap ((i:Int)-1)=(i:Int)-1:=wrap64 _ (by omega) (by omega);have cU:=Kd x i;have dc:=Kd y i;have cQ:=pL (x/1048576^i) (show 0<1048576 by omega);have dN:=pL (y/1048576^i) (show 0<1048576 by omega);have bG:x/1048576^i<y/1048576^i->x<y:=λh=>ajT h;have bO:y/1048576^i<x/1048576^i->y<x:=λh=>ajT h;generalize iU:x/1048576^i=b2 at *;generalize Cm:y/1048576^i=gM at *;generalize y/1048576^(i+1)=xB at *;generalize b2%1048576=a at *;generalize gM%1048576=b at *;rcases Nat.lt_trichotomy a b with h|h|h
  ·have b8:((a:Int)==(b:Int))=false:=by simp;omega
   have CB:decide ((a:Int)<(b:Int))=decide (x<y):=by rw[hN (show (a:Int)<(b:Int) by omega),hN (bG (by omega))]
   simp only[go_sem,go_sem_proc,iX,ay,F,bu,hw,bW,cU,dc,m4,mH,b8,CB];repeat' (first|refine ag ?_ ?_|fail)<;>intro h<;>simp only[h,go_sem,go_sem_proc,iX,ay,F,bu,hw,bW,cU,dc,m4,mH,b8,CB]
  ·subst h;simp only[go_sem,go_sem_proc,iX,ay,F,bu,hw,bW,cU,dc,m4,mH,ih,beq_self_eq_true];repeat' (first|refine ag ?_ ?_|fail)<;>intro h<;>simp only[h,go_sem,go_sem_proc,iX,ay,F,bu,hw,bW,cU,dc,m4,mH,ih,beq_self_eq_true]
   exact⟨i,by omega,by omega,by rw[iU,Cm];omega,rfl⟩
  ·have b8:((a:Int)==(b:Int))=false:=by simp;omega
   have CB:decide ((a:Int)<(b:Int))=decide (x<y):=by rw[kM (show ¬ (a:Int)<(b:Int) by omega),kM (by have:=bO (by omega);omega)]
   simp only[go_sem,go_sem_proc,iX,ay,F,bu,hw,bW,cU,dc,m4,mH,b8,CB];repeat' (first|refine ag ?_ ?_|fail)<;>intro h<;>simp only[h,go_sem,go_sem_proc,iX,ay,F,bu,hw,bW,cU,dc,m4,mH,b8,CB]
def aar {o:List Int}{d:Int}(h:fo o)(ay:0<=d)(F:d<1048576):fo (o++[d]):=Gi.2 ⟨h,Gh.2 ⟨⟨ay,F⟩,by intro d Z;cases Z⟩⟩
def aas (o:List Int)(d:Int):bo (o++[d])=bo o+1048576^(D o)*d:=by rw[Gj];simp[bo]
def Kf {o:List Int}{n:Nat}(h:fo o)(aN:bo o=n):gS o=aY n:=by rw[BV h,aN];rfl
def OL:=bV n5 λ(x,y)=>cu ((aY x).length<=10000/\(aY y).length<=10000) (.same (eh (x+y)))
@[go_sem] def ajU (x y):=cH OL rfl Ag (x,y) rfl
def ayz (T:ba)(iX:T vN=aK Hi)(iY:T vM=aK CA):WF T ajB OL:=by
 refine cp λ(x,y)=>cT λJ=>⟨rfl,ck ?_⟩;simp only[ajB,n5,cd];obtain⟨L,aj⟩:=J;have gE:∃bk:Nat,bk=max (aY x).length (aY y).length:=⟨_,rfl⟩;obtain⟨bk,gE⟩:=gE;have m4:(aY x).length<=1000000:=by omega
 have mH:(aY y).length<=1000000:=by omega
 simp only[go_sem,go_sem_proc,iX,iY,eh,al];refine dd [0,1] [] (λ((i,c,g,o):Nat×Nat×Nat×List Int) tm mem=>i<=bk+1/\c<=1/\(i=bk+1->c=0)/\D o=i/\fo o/\bo o+1048576^i*((x/1048576^i+y/1048576^i+c:Nat):Int)=((x+y:Nat):Int)/\tm 6=.H (.int .i64 c)/\tm 7=.H (.int .i64 i)/\tm 5=.ref 181038 g 1 0 i/\mem 181038=some (g,aU aI o)) (λ(i,_)=>bk+1-i) (0,0,0,[]) (by refine⟨by omega,by omega,by simp,rfl,by simp[fo],by simp[bo],rfl,rfl,rfl,rfl⟩) ?_;intro vs ms aQ aM;simp only[go_sem,go_sem_proc,iX,iY,eh] at aQ aM;subst aQ aM;rintro⟨i,c,g,o⟩ tm mem I-⟨O,g7,jv,bw,hE,aN,bX,b9,bu,hm⟩;simp only[go_sem,go_sem_proc,iX,iY,bj] at I;obtain⟨ay,F⟩:=I;have aE:bo o+1048576^i*((x/1048576^i+y/1048576^i+c:Nat):Int)=((x+y:Nat):Int):=aN
 by_cases OM:i<(aY x).length\/i<(aY y).length\/0<c
 ·have au:=Ke x i;have aC:=Ke y i;have cU:=Kd x i;have dc:=Kd y i;have cQ:=pL (x/1048576^i) (show 0<1048576 by omega);have dN:=pL (y/1048576^i) (show 0<1048576 by omega);have Z1:bk<=i->x/1048576^i=0/\y/1048576^i=0:=λh=>⟨Ew (by omega),Ew (by omega)⟩;have hc:(1048576:Int)^(i+1)=1048576^i*1048576:=oA _ _;generalize iU:x/1048576^i=b2 at *;generalize Cm:y/1048576^i=gM at *;generalize CC:x/1048576^(i+1)=X' at *;generalize Kg:y/1048576^(i+1)=Y' at *;generalize aZ:b2%1048576=a at *;generalize ad:gM%1048576=b at *;have w1:IntKind.i64.wrap ((a:Int)+(b:Int))=((a+b:Nat):Int):=by rw[eY _];omega
  have qc:IntKind.i64.wrap (((a+b:Nat):Int)+(c:Int))=((a+b+c:Nat):Int):=by rw[eY _];omega
  have dI:((a+b+c:Nat):Int).tmod 1048576=(((a+b+c)%1048576:Nat):Int):=by rw[N2 (by omega)];omega
  have ek:IntKind.i64.wrap (((a+b+c:Nat):Int).tdiv 1048576)=(((a+b+c)/1048576:Nat):Int):=by rw[Cf (by omega),wrap64 _ (by omega) (by omega)];omega
  have bF:=eI (i:=i) (by omega);have c9:=kx kz z7 181038 g 8 o (((a+b+c)%1048576:Nat):Int) (cs:=[.H (.int .i64 (((a+b+c)%1048576:Nat):Int))]) rfl (by omega) (by omega);rw[bw] at c9
  have aOX:i<=bk:=by
   rcases hO bk i with h|h
   ·have:=jv (by omega);omega
   ·exact h
  have jT:∃bn:Nat×Nat×Nat×List Int,bk+1-bn.1<bk+1-i/\bn.1<=bk+1/\bn.2.1<=1/\(bn.1=bk+1->bn.2.1=0)/\bn.2.2.2.length=bn.1/\fo bn.2.2.2/\bo bn.2.2.2+1048576^bn.1*((x/1048576^bn.1+y/1048576^bn.1+bn.2.1:Nat):Int)=((x+y:Nat):Int)/\M.H (Data.int .i64 (((a+b+c)/1048576:Nat):Int))=M.H (Data.int .i64 (bn.2.1:Int))/\M.H (Data.int .i64 ((i+1:Nat):Int))=M.H (Data.int .i64 (bn.1:Int))/\M.ref 181038 (g+1) 1 0 (i+1)=M.ref 181038 bn.2.2.1 1 0 bn.1/\some (g+1,aU aI (o++[(((a+b+c)%1048576:Nat):Int)]))=some (bn.2.2.1,aU aI bn.2.2.2):=by
   refine⟨(i+1,(a+b+c)/1048576,g+1,o++[(((a+b+c)%1048576:Nat):Int)]),by dsimp only;omega,by dsimp only;omega,by dsimp only;omega,?_,by simp[bw],aar hE (by omega) (by omega),?_,rfl,rfl,rfl,rfl⟩
   ·intro h;dsimp only at h ⊢;have:=Z1 (by omega);omega
   ·dsimp only;rw[CC,Kg,aas,bw,hc,<-aE];have bN:((b2+gM+c:Nat):Int)=1048576*((X'+Y'+(a+b+c)/1048576:Nat):Int)+(((a+b+c)%1048576:Nat):Int):=by omega
    rw[bN,jI,jJ];omega
  by_cases ql:i<(aY x).length
  ·have d1:decide ((i:Int)<((aY x).length:Int))=true:=cX;refine ai ?_;repeat' (intro (ao:_=_)<;>simp only[ao,go_sem,go_sem_proc,iX,iY,ay,F,bu,bX,b9,hm,cU,dc,m4,mH,d1,w1,qc,dI,ek,bF,c9,al]<;>try refine ag ?_ ?_)
   exact jT
  ·have d1:decide ((i:Int)<((aY x).length:Int))=false:=b7
   by_cases yt:i<(aY y).length
   ·have d2:decide ((i:Int)<((aY y).length:Int))=true:=cX;refine ai ?_;repeat' (intro (ao:_=_)<;>simp only[ao,go_sem,go_sem_proc,iX,iY,ay,F,bu,bX,b9,hm,cU,dc,m4,mH,d1,d2,w1,qc,dI,ek,bF,c9,al]<;>try refine ag ?_ ?_)
    exact jT
   ·have d2:decide ((i:Int)<((aY y).length:Int))=false:=b7;have d3:decide ((c:Int)>0)=true:=cX;refine ai ?_;repeat' (intro (ao:_=_)<;>simp only[ao,go_sem,go_sem_proc,iX,iY,ay,F,bu,bX,b9,hm,cU,dc,m4,mH,d1,d2,d3,w1,qc,dI,ek,bF,c9,al]<;>try refine ag ?_ ?_)
    exact jT
 ·have d1:decide ((i:Int)<((aY x).length:Int))=false:=b7;have d2:decide ((i:Int)<((aY y).length:Int))=false:=b7;have d3:decide ((c:Int)>0)=false:=b7;rw[Ew (n:=x) (by omega),Ew (n:=y) (by omega),show c=0 by omega] at aE
  have di:=Hh o (by omega);rw[Kf (n:=x+y) hE (by simpa using aE)] at di;have fO:=Kc (aY (x+y));have ky:=k6 (n:=5) kz hm;rw[bw] at ky;refine ai ?_;repeat' (intro (ao:_=_)<;>simp only[ao,go_sem,go_sem_proc,iX,iY,ay,F,bu,bX,b9,hm,d1,d2,d3,di,fO,ky,Hg,xA,al]<;>try refine ag ?_ ?_)
def Kh:=bV n5 λ(x,y)=>cu ((aY x).length<=10000/\(aY y).length<=10000/\y<=x) (.same (eh (x-y)))
@[go_sem] def TC (x y):=cH Kh rfl Ag (x,y) rfl
def ayA (T:ba)(iX:T vN=aK Hi)(iY:T vM=aK CA):WF T ajC Kh:=by
 refine cp λ(x,y)=>cT λJ=>⟨rfl,ck ?_⟩;simp only[ajC,n5,cd];obtain⟨L,aj,g0⟩:=J;have m4:(aY x).length<=1000000:=by omega
 have mH:(aY y).length<=1000000:=by omega
 have ahF:(aY y).length<=(aY x).length:=by rw[g9];exact vQ g0 (g9.1 (cl _))
 simp only[go_sem,go_sem_proc,iX,iY,eh,al];refine dd [0,1] [] (λ((i,c,g,o):Nat×Nat×Nat×List Int) tm mem=>i<=(aY x).length/\c<=1/\y/1048576^i+c<=x/1048576^i/\D o=i/\fo o/\bo o+1048576^i*((x/1048576^i-(y/1048576^i+c):Nat):Int)=((x-y:Nat):Int)/\tm 6=.H (.int .i64 c)/\tm 7=.H (.int .i64 i)/\tm 5=.ref 182032 g 1 0 i/\mem 182032=some (g,aU aI o)) (λ(i,_)=>(aY x).length-i) (0,0,0,[]) (by refine⟨by omega,by omega,by simpa using g0,rfl,by simp[fo],by simp[bo],rfl,rfl,rfl,rfl⟩) ?_;intro vs ms aQ aM;simp only[go_sem,go_sem_proc,iX,iY,eh] at aQ aM;subst aQ aM;rintro⟨i,c,g,o⟩ tm mem I-⟨O,g7,hle,bw,hE,aN,bX,b9,bu,hm⟩;simp only[go_sem,go_sem_proc,iX,iY,bj] at I;obtain⟨ay,F⟩:=I;have aE:bo o+1048576^i*((x/1048576^i-(y/1048576^i+c):Nat):Int)=((x-y:Nat):Int):=aN;have MM:y/1048576^i+c<=x/1048576^i:=hle
 by_cases OM:i<(aY x).length
 ·have d1:decide ((i:Int)<((aY x).length:Int))=true:=cX;have au:=Ke x i;have aC:=Ke y i;have cU:=Kd x i;rw[eD,bh OM] at cU;have gI:(aY x)[i]?=some ((x/1048576^i%1048576:Nat):Int):=by rw[bh OM];exact congrArg some cU
  have dc:=Kd y i;have cQ:=pL (x/1048576^i) (show 0<1048576 by omega);have dN:=pL (y/1048576^i) (show 0<1048576 by omega);have hc:(1048576:Int)^(i+1)=1048576^i*1048576:=oA _ _;clear cU hle aN;generalize iU:x/1048576^i=b2 at *;generalize Cm:y/1048576^i=gM at *;generalize CC:x/1048576^(i+1)=X' at *;generalize Kg:y/1048576^(i+1)=Y' at *;generalize aZ:b2%1048576=a at *;generalize ad:gM%1048576=b at *;have w1:IntKind.i64.wrap ((a:Int)-(b:Int))=(a:Int)-(b:Int):=wrap64 _ (by omega) (by omega);have qc:IntKind.i64.wrap ((a:Int)-(b:Int)-(c:Int))=(a:Int)-(b:Int)-(c:Int):=wrap64 _ (by omega) (by omega);have bF:=eI (i:=i) (by omega);have jN:IntKind.i64.wrap ((a:Int)-(b:Int)-(c:Int)+1048576)=(a:Int)-(b:Int)-(c:Int)+1048576:=wrap64 _ (by omega) (by omega);have c9:=λd:Int=>kx kz z7 182032 g 8 o d (cs:=[.H (.int .i64 d)]) rfl (by omega) (by omega);rw[bw] at c9;rcases mI:decide ((a:Int)-(b:Int)-(c:Int)<0)
  ·have aL:=of_decide_eq_false mI;refine ai ?_;repeat' (intro h<;>simp only[h,go_sem,go_sem_proc,iX,iY,ay,F,bu,bX,b9,hm,gI,dc,mH,d1,w1,qc,bF,c9,mI,aI,al,bm]<;>try refine ag ?_ ?_)
   refine⟨(i+1,0,g+1,o++[(a:Int)-(b:Int)-(c:Int)]),by dsimp only;omega,by dsimp only;omega,by dsimp only;omega,by dsimp only;rw[CC,Kg];omega,by simp[bw],aar hE (by omega) (by omega),?_,rfl,rfl,rfl,rfl⟩
   dsimp only;rw[CC,Kg,aas,bw,hc,<-aE];have bN:((b2-(gM+c):Nat):Int)=1048576*((X'-(Y'+0):Nat):Int)+((a:Int)-b-c):=by omega
   rw[bN,jI,jJ];omega
  ·have aL:=of_decide_eq_true mI;refine ai ?_;repeat' (intro h<;>simp only[h,go_sem,go_sem_proc,iX,iY,ay,F,bu,bX,b9,hm,gI,dc,mH,d1,w1,qc,bF,jN,c9,mI,aI,al,bm]<;>try refine ag ?_ ?_)
   refine⟨(i+1,1,g+1,o++[(a:Int)-(b:Int)-(c:Int)+1048576]),by dsimp only;omega,by dsimp only;omega,by dsimp only;omega,by dsimp only;rw[CC,Kg];omega,by simp[bw],aar hE (by omega) (by omega),?_,rfl,rfl,rfl,rfl⟩
   dsimp only;rw[CC,Kg,aas,bw,hc,<-aE];have bN:((b2-(gM+c):Nat):Int)=1048576*((X'-(Y'+1):Nat):Int)+((a:Int)-b-c+1048576):=by omega
   have bK:∀p cr eZ:Int,bo o+p*cr+p*1048576*eZ=bo o+p*(1048576*eZ+cr):=λp cr eZ=>by rw[jI p (1048576*eZ) cr,<-jJ];omega
   rw[bN];exact bK _ _ _
 ·have d1:decide ((i:Int)<((aY x).length:Int))=false:=b7;rw[Ew (n:=x) (by omega),Ew (n:=y) (by omega),Nat.zero_sub,qx,Ak,rr] at aE;have di:=Hh o (by omega);rw[Kf (n:=x-y) hE aE] at di;have fO:=Kc (aY (x-y));have ky:=k6 (n:=5) kz hm;rw[bw] at ky;refine ai ?_;repeat' (intro h<;>simp only[h,go_sem,go_sem_proc,iX,iY,ay,F,bu,bX,b9,hm,d1,di,fO,ky,Hg,xA,al]<;>try refine ag ?_ ?_)
def ajV {b:List Int}{k:Nat}(h:k<D b):b.getD k 0=b[k]:=by rw[eD,bh h];rfl
def aat {b:List Int}{k:Nat}(h:(D b)<=k):b.getD k 0=0:=by rw[eD,jZ h];rfl
def Ki:=bV n5 λ(x,y)=>cu ((aY x).length<=10000/\(aY y).length<=10000) (.same (eh (x*y)))
@[go_sem] def aau (x y):=cH Ki rfl Ag (x,y) rfl
def ayB (T:ba)(iX:T vN=aK Hi)(iY:T vM=aK CA):WF T ajF Ki:=by
 refine cp λ(x,y)=>cT λJ=>⟨rfl,ck ?_⟩;simp only[ajF,n5,cd];obtain⟨L,aj⟩:=J;have vO:=n3 x;have tg:=n3 y;have yE:=m0 x;have GM:=m0 y;generalize aZ:aY x=a at *;generalize ad:aY y=b at *;have sk:IntKind.i64.wrap ((D a:Int)+(D b:Int))=((D a+D b:Nat):Int):=by rw[eY _];rfl
 have mi:8*(D a+D b)<=140737488355328:=by omega
 have fi:(D a)+D b<=maxLen:=JD _ (by omega);have MP:(D b)<=1000000:=by omega
 simp only[go_sem,go_sem_proc,iX,iY,eh,aZ,ad,sk,mi,fi,JC,al]
 refine dd [0,1,5] [] (λ((i,o):Nat×List Int) tm mem=>i<=D a/\D o=D a+D b/\fo o/\o.drop (i+D b)=ef (D o-(i+D b)) 0/\bo o=bo (a.take i)*y/\tm 6=.H (.int .i64 (i:Nat))/\mem 186015=some (0,aU aI o))
  (λ(i,_)=>D a-i) (0,ef (D a+D b) 0) (by
   have a2:∀n,bo (ef n 0)=0:=by
    intro n
    induction n with
    |zero=>rfl
    |succ n aG=>rw[List.replicate_succ,vK,aG];rfl
   refine⟨fL _,by simp,λd Z=>by rw[JH] at Z;omega,by simp,by rw[a2];simp[bo],?_,?_⟩<;>rfl) ?_
 intro vs ms aQ aM;simp only[go_sem,go_sem_proc,iX,iY,eh,aZ,ad,sk,al] at aQ aM;subst aQ aM;rintro⟨i,o⟩ tm mem I-⟨O,bw,hE,uJ,k3,bX,hm⟩;simp only[go_sem,go_sem_proc,iX,iY,bj] at I;obtain⟨ay,F,bu⟩:=I;rcases dn (i<D a) with ah|bW
 ·have si:a[i]?=some a[i]:=bh ah;have DL:=mF vO i ah;have vE:=mE a i ah;generalize a[i]=ji at *;have lU:decide ((i:Int)<(D a:Int))=true:=cX;have N8:IntKind.i64.wrap ((i:Int)+1)=((i+1:Nat):Int):=by rw[eY _];rfl
  simp only[go_sem,go_sem_proc,iX,iY,ay,F,bu,bX,si,lU,aI,al,bm,bj]
  refine dd [0,1,5,6] [] (λ((k,c,o):Nat×Int×List Int) tm mem=>k<=D b+1/\(k=D b+1->c=0)/\D o=D a+D b/\fo o/\o.drop (i+max k (D b))=ef (D o-(i+max k (D b))) 0/\0<=c/\c<1048576/\bo o+1048576^(i+k)*c=bo (a.take i)*y+1048576^i*(ji*bo (b.take k)) /\
    tm 8=.H (.int .i64 (k:Nat))/\tm 7=.H (.int .i64 c)/\mem 186015=some (0,aU aI o))
   (λ(k,_)=>D b+1-k) (0,0,o) (by refine⟨fL _,by simp,bw,hE,by rw[Nat.zero_max];exact uJ,by omega,by omega,by simp[bo,k3],?_,?_,hm⟩<;>rfl) ?_
  intro vs ms aQ aM;simp only[go_sem,go_sem_proc,iX,iY,ay,F,bu,bX,aI,al] at aQ aM;subst aQ aM;rintro⟨k,c,o⟩ tm mem I-⟨uv,Ex,bw,hE,uJ,jK,g7,k3,cS,b9,hm⟩;simp only[go_sem,go_sem_proc,iX,iY,bj] at I;obtain⟨ay,F,bu,bX⟩:=I;have ih:IntKind.i64.wrap ((k:Int)+1)=((k+1:Nat):Int):=by rw[eY _];rfl
  have n6:IntKind.i64.wrap ((i:Int)+(k:Int))=((i+k:Nat):Int):=by rw[eY _];rfl
  by_cases OM:k<(D b)\/c>0
  ·have N1:k<=D b:=by
    rcases hO (D b) k with h|h
    ·have:=Ex (by omega);omega
    ·exact h
   have rq:i+k<D o:=by omega
   have Zy:=mF hE (i+k) rq
   have JI:0<=b.getD k 0/\b.getD k 0<1048576:=by
    rcases hO k (D b) with h|h
    ·rw[ajV h];exact mF tg k h
    ·rw[aat h];omega
   have Hk:bo (b.take (k+1))=bo (b.take k)+1048576^k*b.getD k 0:=by
    rcases hO k (D b) with h|h
    ·rw[ajV h];exact mE b k h
    ·rw[aat h,dD (by omega),dD (by omega)];simp
   have yp:k<(D b)\/(k=D b/\o[i+k]=0):=by
    rcases hO k (D b) with h|h
    ·exact .inl h
    ·refine .inr ⟨by omega,ahI uJ (by omega) rq⟩
   have aav:=ajQ b k MP;generalize b.getD k 0=rz at *;obtain⟨dg,bU,iA,fE⟩:=ahH Zy DL JI ⟨jK,g7⟩;have pO:IntKind.i64.wrap (ji*rz)=ji*rz:=wrap64 _ (by omega) (by omega);have JJ:IntKind.i64.wrap (o[i+k]+ji*rz)=o[i+k]+ji*rz:=wrap64 _ (by omega) (by omega);have D3:IntKind.i64.wrap (o[i+k]+ji*rz+c)=o[i+k]+ji*rz+c:=wrap64 _ (by omega) (by omega);have xl:(o[i+k]+ji*rz+c).tmod 1048576=(o[i+k]+ji*rz+c)%1048576:=N2 (by omega);have SV:IntKind.i64.wrap ((o[i+k]+ji*rz+c).tdiv 1048576)=(o[i+k]+ji*rz+c)/1048576:=by rw[Cf (by omega)];exact wrap64 _ (by omega) (by omega)
   have mG:i+k+1<=(aU aI o).length:=by rw[sg];omega
   have m2:=NX o (i+k) rq;have j1:=λd=>Af o (i+k) d rq;have mb:i+k<D a+D b:=by omega
   have jT:∃bn:Nat×Int×List Int,D b+1-bn.1<D b+1-k/\bn.1<=D b+1/\(bn.1=D b+1->bn.2.1=0)/\bn.2.2.length=D a+D b/\fo bn.2.2/\bn.2.2.drop (i+max bn.1 (D b))=ef (bn.2.2.length-(i+max bn.1 (D b))) 0/\0<=bn.2.1/\bn.2.1<1048576/\bo bn.2.2+1048576^(i+bn.1)*bn.2.1=bo (a.take i)*y+1048576^i*(ji*bo (b.take bn.1)) /\
     M.H (Data.int .i64 ((k+1:Nat):Int))=M.H (Data.int .i64 (bn.1:Nat))/\M.H (Data.int .i64 ((o[i+k]+ji*rz+c)/1048576))=M.H (Data.int .i64 bn.2.1)/\some (0,aU aI (o.set (i+k) ((o[i+k]+ji*rz+c)%1048576)))=some (0,aU aI bn.2.2):=by
    refine⟨(k+1,(o[i+k]+ji*rz+c)/1048576,o.set (i+k) ((o[i+k]+ji*rz+c)%1048576)),by dsimp only;omega,by dsimp only;omega,?_,by simp[bw],Cd hE _ (by omega),?_,iA,fE,?_,rfl,rfl,rfl⟩
    ·intro h;dsimp only at h ⊢;rcases yp with G|⟨G,ab⟩
     ·omega
     ·have ayC:rz=0:=by
       have e:=aav;rw[ajQ b k MP,aat (by omega)] at e
       simpa using e.symm
      rw[ab,ayC,Ak];omega
    ·dsimp only;rcases yp with G|⟨G,ab⟩
     ·rw[aaw (by omega)] at uJ;rw[aaw (by omega),vC (by omega),ie,uJ]
     ·rw[aaw (by omega),<-G] at uJ;rw[Nat.max_eq_left (by omega)];exact ahJ uJ rq
    ·dsimp only;rw[Zv _ _ _ rq,Hk,<-Nat.add_assoc,oA,ahG _ _ _ _ _ _ _ k3];rw[jI (ji),jI (1048576^i),Int.pow_add]
     have:(1048576:Int)^i*(ji*(1048576^k*rz))=1048576^i*1048576^k*(ji*rz):=by
      rw[<-jJ (ji),oB (ji) (1048576^k),jJ (1048576^k),<-jJ]
     omega
   by_cases aOY:k<D b
   ·have d1:decide ((k:Int)<(D b:Int))=true:=cX;refine ai ?_;repeat' (intro (ao:_=_)<;>simp only[ao,go_sem,go_sem_proc,iX,iY,ay,F,bu,bX,b9,cS,hm,si,aav,d1,ih,n6,pO,JJ,D3,xl,SV,mb,mG,m2,j1,aI,dZ,al,bm,bj]<;>try refine ag ?_ ?_)
    exact jT
   ·have d1:decide ((k:Int)<(D b:Int))=false:=b7;have d2:decide (c>0)=true:=cX;refine ai ?_;repeat' (intro (ao:_=_)<;>simp only[ao,go_sem,go_sem_proc,iX,iY,ay,F,bu,bX,b9,cS,hm,si,aav,d1,d2,ih,n6,pO,JJ,D3,xl,SV,mb,mG,m2,j1,aI,dZ,al,bm,bj]<;>try refine ag ?_ ?_)
    exact jT
  ·have d1:decide ((k:Int)<(D b:Int))=false:=b7;have d2:decide (c>0)=false:=b7;have ayD:c=0:=by omega
   rw[ayD,Ak,rr,show b.take k=b from dD (by omega),GM] at k3;refine ai ?_;repeat' (intro (ao:_=_)<;>simp only[ao,go_sem,go_sem_proc,iX,iY,ay,F,bu,bX,b9,cS,hm,d1,d2,N8,al]<;>try refine ag ?_ ?_)
   refine⟨(i+1,o),by dsimp only;omega,by dsimp only;omega,bw,hE,?_,?_,rfl,rfl⟩
   ·dsimp only;have ab:=congrArg (hl (i+1+D b-(i+max k (D b)))) uJ;rw[List.drop_drop,List.drop_replicate] at ab;rw[show i+max k (D b)+(i+1+D b-(i+max k (D b)))=i+1+(D b) by omega] at ab
    rw[ab]
    congr 1
    omega
   ·dsimp only;rw[k3,vE,Int.add_mul,jJ]
 ·obtain rfl:i=D a:=by omega
  have lU:decide ((D a:Int)<(D a:Int))=false:=b7;rw[dD (cl _),yE] at k3;have di:=Hh o (by omega);rw[Kf (n:=x*y) hE (by rw[k3];rfl)] at di;have fO:=Kc (aY (x*y));have ky:=k6 (n:=5) kz hm;rw[bw] at ky;refine ai ?_;repeat' (intro (ao:_=_)<;>simp only[ao,go_sem,go_sem_proc,iX,iY,ay,F,bu,bX,hm,lU,di,fO,ky,Hg,xA,eh,al]<;>try refine ag ?_ ?_)
def er.v9:er->List Nat->er
 |.seq a _,0::p=>a.v9 p
 |.seq _ b,_::p=>b.v9 p
 |.cond _ a _,0::p=>a.v9 p
 |.cond _ _ b,_::p=>b.v9 p
 |.block _ c,_::p=>c.v9 p
 |.ghost _ c,_::p=>c.v9 p
 |.loop c,_::p=>c.v9 p
 |c,_=>c
def ajW {n:Nat}(h:0<n)(F:n<1048576):[(n:Int)]=aY n:=(Gk h F).symm
def ayE {n:Nat}(F:n<1048576):gS [(n:Int)]=aY n:=Kf (by intro d Z;have:=yK.1 Z;omega) (by simp[bo])
def ayF {d:Int}{r:Nat}(ay:0<=d)(F:d<1048576):gS (d::aY r)=aY (d.toNat+1048576*r):=Kf (Gh.2 ⟨⟨ay,F⟩,n3 r⟩) (by rw[vK,m0];omega)
def aax {n m k:Nat}(h:n<m*1048576)(hm:(aY m).length<=k):(aY n).length<=k+1:=by
 rw[g9] at *;rw[xa];exact Nat.lt_of_lt_of_le h (ui _ (Ou hm))
def ajX (T:ba)(qH:T Gt=aK Ki)(kU:T DS=aK Hj){K:eK->bc->Prop}{kk:List fT}(y bC:Nat)(aj:(aY y).length<=1000)(jf:(aY bC).length<=1001)(j5:0<y)(ayG:bC<y*1048576)(v0 v6 CD:M)(tm:Nat->M)(m:Mem)
  (bx:tm 0=v0) (au:tm 1=.H (.ax ((aY y).map aI))) (bt:tm 6=v6) (bS:tm 7=.H (.ax ((aY bC).map aI))) (ee:tm 8=CD) (eT:tm 9=.H (.int .i64 0)) (gg:tm 10=.H (.int .i64 1048576))
  (db:∀tm',tm' 0=v0->tm' 1=.H (.ax ((aY y).map aI))->tm' 6=v6->tm' 7=.H (.ax ((aY bC).map aI))->tm' 8=CD->tm' 9=.H (.int .i64 ((bC/y:Nat):Int))->cg T K kk (.exit 2) ⟨tm',m⟩) :
  wp T (TA.body.v9 [1,1,1,0,1,0,0,1,0,0,1,1,1,0,0]) (cg T K kk) ⟨tm,m⟩:=by
 simp only[TA,er.v9];refine dd [0,1,6,7,8] [] (λ((b6,O):Nat×Nat) tm' m'=>b6<O/\O<=1048576/\b6*y<=bC/\bC<O*y/\tm' 9=.H (.int .i64 b6)/\tm' 10=.H (.int .i64 O)/\m'=m) (λ(b6,O)=>O-b6) (0,1048576) (by refine⟨by omega,by omega,by omega,by rw[vJ];exact ayG,eT,gg,rfl⟩) ?_;intro vs ms aQ aM;simp only[go_sem,go_sem_proc,bx,au,bt,bS,ee] at aQ aM;subst aQ aM;clear bx au bt bS ee eT gg;rintro⟨b6,O⟩ tm m' I hm ⟨aOZ,a1,fK,kr,eP,du,rfl⟩;simp only[go_sem,go_sem_proc,bj] at I hm;obtain⟨ay,F,bX,b9,cS⟩:=I;have w1:IntKind.i64.wrap ((O:Int)-(b6:Int))=(O:Int)-(b6:Int):=wrap64 _ (by omega) (by omega)
 by_cases OM:O-b6>1
 ·have d1:decide ((O:Int)-(b6:Int)>1)=true:=cX;have qc:IntKind.i64.wrap ((b6:Int)+(O:Int))=((b6+O:Nat):Int):=by rw[eY _];omega
  have bF:IntKind.i64.wrap (((b6+O:Nat):Int).tdiv 2)=(((b6+O)/2:Nat):Int):=by rw[Cf (by omega),wrap64 _ (by omega) (by omega)];omega
  obtain⟨yY,ayH⟩:∃yY:Nat,yY=(b6+O)/2:=⟨_,rfl⟩;rw[<-ayH] at bF;have di:=aau y yY ⟨by omega,by rw[<-ajW (n:=yY) (by omega) (by omega)];simp⟩
  simp only[eh] at di;rw[<-ajW (n:=yY) (by omega) (by omega)] at di;simp only[eE,bY,aI] at di;have pC:(aY (y*yY)).length<=1001:=aax (ajY (show yY<1048576 by omega) j5) aj;have fO:=aaq bC (y*yY) ⟨by omega,by omega⟩
  simp only[eh] at fO;rcases Z:decide (bC<y*yY)
  ·have aL:=of_decide_eq_false Z;rw[Z] at fO;refine ai ?_;repeat' (intro h<;>simp only[h,go_sem,go_sem_proc,qH,kU,ay,F,bX,b9,cS,eP,du,w1,qc,bF,d1,di,fO]<;>try refine ag ?_ ?_)
   exact⟨(yY,O),by dsimp only;omega,by dsimp only;omega,a1,by dsimp only;rw[vJ];omega,kr,rfl,rfl⟩
  ·have aL:=of_decide_eq_true Z;rw[Z] at fO;refine ai ?_;repeat' (intro h<;>simp only[h,go_sem,go_sem_proc,qH,kU,ay,F,bX,b9,cS,eP,du,w1,qc,bF,d1,di,fO]<;>try refine ag ?_ ?_)
   exact⟨(b6,yY),by dsimp only;omega,by dsimp only;omega,by dsimp only;omega,fK,by dsimp only;rw[vJ];omega,rfl,rfl⟩
 ·have d1:decide ((O:Int)-(b6:Int)>1)=false:=b7
  have bq:bC/y=b6:=by
   have F:O=b6+1:=by omega
   subst F;exact Nat.div_eq_of_lt_le fK kr
  refine ai ?_;repeat' (intro h<;>simp only[h,go_sem,go_sem_proc,ay,F,bX,b9,cS,eP,du,w1,d1]<;>try refine ag ?_ ?_)
  refine db _ ?_ ?_ ?_ ?_ ?_ ?_<;>simp only[dC,cE,if_false,ay,F,bX,b9,cS,eP,bq]
def ON:=bV n5 λ(x,y)=>cu ((aY x).length<=1000/\(aY y).length<=1000/\0<y) (.same (.dj [eh (x/y),eh (x%y)]))
@[go_sem] def ajZ (x y):=cH ON rfl Ag (x,y) rfl
def ayI (T:ba)(iY:T vM=aK CA)(qH:T Gt=aK Ki)(kU:T DS=aK Hj)(m7:T DR=aK Kh):WF T TA ON:=by
 refine cp λ(x,y)=>cT λJ=>⟨rfl,ck ?_⟩;simp only[TA,n5,cd];obtain⟨L,aj,j5⟩:=J;have vO:=n3 x;have yE:=m0 x;generalize aZ:aY x=a at *;have mi:8*D a<=140737488355328:=by omega
 have fi:(D a)<=maxLen:=JD _ (by omega);have Eb:IntKind.i64.wrap ((D a:Int)-1)=(D a:Int)-1:=wrap64 _ (by omega) (by omega);simp only[go_sem,go_sem_proc,iY,qH,kU,m7,eh,aZ,mi,fi,JC,Eb,al]
 refine dd [0,1,6] [] (λ((n,r,Hl,o):Nat×Nat×M×List Int) tm mem=>n<=D a/\D o=D a/\fo o/\r<y/\bo (a.drop n)=y*bo (o.drop n)+r/\(Hl=.nil/\r=0\/Hl=.H (eh r))/\tm 8=.H (.int .i64 ((n:Nat)-1))/\tm 7=Hl/\mem 180014=some (0,aU aI o))
  (λ(n,_)=>n) (D a,0,.nil,ef (D a) 0) (by
   refine⟨cl _,by simp,λd Z=>by rw[JH] at Z;omega,j5,by simp[bo],.inl ⟨rfl,rfl⟩,rfl,rfl,rfl⟩) ?_
 intro vs ms aQ aM;simp only[go_sem,go_sem_proc,iY,qH,kU,m7,eh,aZ,al] at aQ aM;subst aQ aM;rintro⟨n,r,Hl,o⟩ tm mem I-⟨aL,bw,hE,GO,aN,OO,cS,b9,hm⟩;simp only[go_sem,go_sem_proc,iY,qH,kU,m7,bj] at I;obtain⟨ay,F,bX⟩:=I;rcases n with _|n
 ·have bq:bo o=((x/y:Nat):Int)/\r=x%y:=by
   rw[o0,o0,yE] at aN;have au:(x:Int)/(y:Int)=bo o:=by rw[aN,Ai,Int.add_mul_ediv_left _ _ (by omega),Int.ediv_eq_zero_of_lt (by omega) (by omega)];omega
   have aC:(x:Int)%(y:Int)=r:=by rw[aN,Ai,Int.add_mul_emod_self_left,Int.emod_eq_of_lt (by omega) (by omega)]
   refine⟨by rw[<-au];rfl,by omega⟩
  have di:=Hh o (by omega);rw[Kf (n:=x/y) hE bq.1] at di;have fO:=Kc (aY (x/y));have ky:=k6 (n:=5) kz hm;rw[bw] at ky;rcases OO with ⟨rfl,iT⟩|rfl
  ·have a2:aY (x%y)=[]:=by rw[<-bq.2,iT];rfl
   refine ai ?_;repeat' (intro (ao:_=_)<;>simp only[ao,go_sem,go_sem_proc,iY,qH,kU,m7,ay,F,bX,b9,cS,hm,di,fO,ky,a2,Hg,xA,eh,qx,rp,show ¬ ((0:Int)-1>=0) by omega,decide_false,al,bY]<;>try refine ag ?_ ?_)
  ·refine ai ?_;repeat' (intro (ao:_=_)<;>simp only[ao,go_sem,go_sem_proc,iY,qH,kU,m7,ay,F,bX,b9,cS,hm,di,fO,ky,Hg,xA,eh,qx,rp,show ¬ ((0:Int)-1>=0) by omega,decide_false,al,bY,bq.2]<;>try refine ag ?_ ?_)
 ·have si:a[n]?=some a[n]:=bh (by omega);have SN:=mF vO n (by omega);have Zq:a.drop n=a[n]::a.drop (n+1):=je (by omega);have gl:n<D o:=by omega
  have Zt:∀e:Int,(o.set n e).drop n=e::o.drop (n+1):=λe=>by
   rw[je (by simpa using gl),List.getElem_set_self,vC (by omega)]
  generalize a[n]=d at *;have hw:((n+1:Nat):Int)-1=(n:Int):=by omega
  have bW:decide ((n:Int)>=0)=true:=cX;have pO:IntKind.i64.wrap ((n:Int)-1)=(n:Int)-1:=wrap64 _ (by omega) (by omega);have cm:(aY r).length<=1000:=by rw[g9] at *;omega
  obtain⟨bC,jf⟩:∃bC:Nat,bC=d.toNat+1048576*r:=⟨_,rfl⟩
  have TD:bC<y*1048576:=by
   have:(r+1)*1048576<=y*1048576:=ui _ GO;omega
  have OP:=aax TD aj;have aj0:=ayF (d:=d) (r:=r) SN.1 SN.2;rw[<-jf] at aj0;have di:=Hh (d::aY r) (by rw[lJ];omega);rw[aj0] at di;simp only[eE,aI] at di;have fO:=Kc (aY bC)
  have Bu:∀bs:Nat,lL 180026 bs 1 1 8 (aY r).length (((aY r).map aI).flatten.map .H) (some (bs,[.H (.int .i64 d)]))=some (.ref 180026 (bs+1) 1 0 (1+(aY r).length),some (180026,bs+1,aU aI (d::aY r))):=λbs=>by
   have:=BP kz z7 180026 bs 8 [d] (aY r) (by rw[qI];omega) (by rw[qI];omega);exact this
  have ayJ:∀(bs:Nat) (m:Mem),m 180026=some (bs,aU aI (d::aY r))->cV 6 m (.ref 180026 bs 1 0 (1+(aY r).length))=some (.ax ((d::aY r).map aI)):=λbs m hm=>by
   have:=k6 (n:=5) kz hm;rw[lJ,Nat.add_comm (aY r).length 1] at this;exact this
  have pG:(((aY r).map aI).all λe=>D e==1)=true:=Zm _;have aay:=ayJ (gk (mem 180026)+1) (a5 (a5 mem 180026 (gk (mem 180026)) [M.H (.int .i64 d)]) 180026 (gk (mem 180026)+1) (aU aI (d::aY r))) (by simp[a5]);have ix:n<D a:=by omega
  obtain⟨b6,fK⟩:∃b6:Nat,b6=bC/y:=⟨_,rfl⟩;have aaz:b6<1048576:=by rw[fK];exact Nat.div_lt_of_lt_mul TD
  have Ov:=Nat.div_add_mod bC y;have pC:=pL bC j5;rw[<-fK] at Ov;have XA:bC-y*b6=bC%y:=by omega
  have aO0:(aY (y*b6)).length<=1001:=aax (ajY aaz j5) aj
  have aj1:CA [.ax [[.int .i64 ((bC/y:Nat):Int)]]]=some (.own 1 ((aY b6).map aI)):=by
   have h:=Hh [((bC/y:Nat):Int)] (by simp);rw[<-fK,ayE aaz] at h;rw[<-fK];exact h
  have aaA:=aau y b6 ⟨by omega,by have:(aY b6).length<=1:=g9.2 (by rw[Nat.pow_one];exact aaz);omega⟩
  simp only[eh] at aaA;have TE:=TC bC (y*b6) ⟨by omega,by omega,by omega⟩
  rw[XA] at TE;simp only[eh] at TE;have mG:n+1<=(aU aI o).length:=by rw[sg];omega
  have j1:=Af o n ((bC/y:Nat):Int) gl
  have jT:∃bn:Nat×Nat×M×List Int,bn.1<n+1/\bn.1<=D a/\bn.2.2.2.length=D a/\fo bn.2.2.2/\bn.2.1<y/\bo (a.drop bn.1)=y*bo (bn.2.2.2.drop bn.1)+bn.2.1/\(bn.2.2.1=.nil/\bn.2.1=0\/bn.2.2.1=.H (.ax ((aY bn.2.1).map aI)))/\M.H (Data.int .i64 ((n:Int)-1))=M.H (Data.int .i64 ((bn.1:Int)-1))/\M.H (Data.ax ((aY (bC%y)).map aI))=bn.2.2.1/\some (0,aU aI (o.set n ((bC/y:Nat):Int)))=some (0,aU aI bn.2.2.2):=by
   refine⟨(n,bC%y,.H (eh (bC%y)),o.set n ((bC/y:Nat):Int)),by dsimp only;omega,by dsimp only;omega,by simp[bw],Cd hE n (by omega),pC,?_,.inr rfl,rfl,rfl,rfl⟩
   dsimp only;rw[Zq,vK,aN,Zt,vK,<-fK];have au:(bC:Int)=d+1048576*r:=by omega
   have aC:(y:Int)*b6+(bC%y:Nat)=bC:=by exact_mod_cast Ov
   have bN:∀v:Int,(y:Int)*(b6+1048576*v)=y*b6+1048576*(y*v):=λv=>by rw[jI,Int.mul_left_comm]
   rw[bN];omega
  have main:Hl=.nil/\r=0\/Hl=.H (eh r):=OO;rcases main with ⟨rfl,iT⟩|rfl
  ·subst iT;have aj2:=Bu;simp only[uB,bY,ajN,o2] at aj2;simp only[uB,o2] at aay;simp only[uB,bY] at di;simp only[go_sem,go_sem_proc,iY,qH,kU,m7,ay,F,bX,b9,cS,hm,si,hw,bW,aj2,di,fO,aay,Hg,xA,aI,uB,al,bm,bY];refine ajX T qH kU y bC aj OP j5 TD (.H (.ax (a.map aI))) (.ref 180014 0 1 0 (D a)) (.H (.int .i64 n)) _ _ ?_ ?_ ?_ ?_ ?_ ?_ ?_ ?_
   ·exact ay
   ·exact F
   ·exact bX
   ·rfl
   ·simp only[dC,cE,if_false,cS,hw]
   ·rfl
   ·rfl
   intro tm' eU cy fv jk k9 ly;refine ai ?_;repeat' (intro (ao:_=_)<;>simp only[ao,go_sem,go_sem_proc,iY,qH,kU,m7,eU,cy,fv,jk,k9,ly,hm,ix,mG,j1,aj1,aaA,TE,pO,dZ]<;>try refine ag ?_ ?_)
   exact jT
  ·simp only[go_sem,go_sem_proc,iY,qH,kU,m7,ay,F,bX,b9,cS,hm,si,hw,bW,Bu,pG,di,fO,aay,Hg,xA,eh,aI,al,bm];refine ajX T qH kU y bC aj OP j5 TD (.H (.ax (a.map aI))) (.ref 180014 0 1 0 (D a)) (.H (.int .i64 n)) _ _ ?_ ?_ ?_ ?_ ?_ ?_ ?_ ?_
   ·exact ay
   ·exact F
   ·exact bX
   ·rfl
   ·simp only[dC,cE,if_false,cS,hw]
   ·rfl
   ·rfl
   intro tm' eU cy fv jk k9 ly;refine ai ?_;repeat' (intro (ao:_=_)<;>simp only[ao,go_sem,go_sem_proc,iY,qH,kU,m7,eU,cy,fv,jk,k9,ly,hm,ix,mG,j1,aj1,aaA,TE,pO,dZ]<;>try refine ag ?_ ?_)
   exact jT
def CE:=bV JB λ(s,l)=>cu (D l<=1000000) (.same (.agg (cM (lr s l))))
@[go_sem] def aO1 (s l):=cH CE rfl ahw (s,l) rfl
def ayK (T:ba)(iY:T vM=aK CA):WF T ajA CE:=by
 refine cp λ(s,l)=>cT λJ=>⟨rfl,ck ?_⟩;simp only[ajA,JB,cd];have di:=Hh l J;have fO:=Kc (gS l);refine ai ?_;repeat' (intro h<;>simp only[h,go_sem,go_sem_proc,iY,di,fO,al]<;>try refine ag ?_ ?_)
 all_goals simp only[lr,cM,bY, *,reduceIte,b3,cA,se,ur,lT,uu,te,fN,iS,e9,k1,beq_self_eq_true,bne]
def xC:=bV sf λ(s,l)=>cu (D l<=1000000) (.same (.bool (dr (s,l))))
@[go_sem] def aO2 (s l):=cH xC rfl GK (s,l) rfl
def ayL (T:ba):WF T ajw xC:=by
 refine cp λ(s,l)=>cT λJ=>⟨rfl,ck ?_⟩;simp only[ajw,sf,cd];simp only[go_sem,go_sem_proc,al];refine dd [1] [162001] (λ(i:Nat) tm mem=>i<=D l/\l.all o4=(l.drop i).all o4/\tm 3=.H (.int .i64 i)) (λi=>D l-i) 0 (by refine⟨by omega,by simp,rfl⟩) ?_;intro vs ms aQ aM;simp only[go_sem,go_sem_proc,al] at aQ aM;subst aQ aM;rintro i tm mem I hm ⟨O,aH,ab⟩;simp only[go_sem,go_sem_proc,bj] at I hm;have F:=I;rcases dn (i<D l) with ah|bW
 ·have Z:l.drop i=l[i]::l.drop (i+1):=je ah;have L:l[i]?=some l[i]:=bh ah;generalize l[i]=x at *;have d1:decide ((i:Int)<(D l:Int))=true:=cX
  have jT:∀b,o4 x=true->b=(l.drop (i+1)).all o4->l.all o4=b:=by
   intro b F G;rw[aH,Z,vx,F,G,fN]
  have B9:¬ o4 x=true->dr (s,l)=false:=by
   intro F;rw[Bool.not_eq_true] at F;unfold dr;rw[aH,Z,vx,F]
   rfl
  have bF:=eI (i:=i) (by omega);refine ai ?_;repeat' (intro (ao:_=_)<;>simp only[ao,go_sem,go_sem_proc,F,ab,hm,L,d1,bF,aI,al,bm,bj]<;>try refine ag ?_ ?_)
  ·rw[B9 λh=>by have:=(Oh x).1 h;(simp only[cF,Data.bool.injEq,Data.int.injEq,true_and,decide_eq_true_eq,decide_eq_false_iff_not,k1,beq_iff_eq,beq_eq_false_iff_ne,ne_eq] at*<;> omega)]
  ·exact⟨i+1,by omega,by omega,jT _ ((Oh x).2 (by (simp only[cF,Data.bool.injEq,Data.int.injEq,true_and,decide_eq_true_eq,decide_eq_false_iff_not,k1,beq_iff_eq,beq_eq_false_iff_ne,ne_eq] at*<;> omega))) rfl,rfl⟩
  ·rw[B9 λh=>by have:=(Oh x).1 h;(simp only[cF,Data.bool.injEq,Data.int.injEq,true_and,decide_eq_true_eq,decide_eq_false_iff_not,k1,beq_iff_eq,beq_eq_false_iff_ne,ne_eq] at*<;> omega)]
 ·have he:l.drop i=[]:=lM (by omega);rw[he] at aH;have ea:l.all o4=true:=by rw[aH];rfl
  have d1:decide ((i:Int)<(D l:Int))=false:=b7;rcases List.eq_nil_or_concat l with rfl|⟨r,x,rfl⟩
  ·have d2:decide ((i:Int)<0)=false:=d1;refine ai ?_;repeat' (intro (ao:_=_)<;>simp only[ao,go_sem,go_sem_proc,F,ab,hm,d2,o2,qx,rp,beq_self_eq_true,bY,bne]<;>try refine ag ?_ ?_)
   all_goals (refine congrArg (λb=>some (Data.bool b)) ?_;unfold dr;simp;try simp only[decide_eq_true_eq,decide_eq_false_iff_not,beq_iff_eq,beq_eq_false_iff_ne,tw,aj3,beq_eq_false_iff_ne,ne_eq] at *;omega)
  ·rw[List.concat_eq_append] at *;have b8:(((r++[x]).length:Int)==0)=false:=by simp;omega
   have hw:IntKind.i64.wrap (((r++[x]).length:Int)-1)=(D r:Int):=by
    have bO:(r++[x]).length=D r+1:=by simp
    rw[eY _];omega
   have bb:((r++[x]).map aI)[D r]?=some [.int .i64 x]:=by simp[aI]
   have X:dr (s,r++[x])=((s==1||s == -1)&&decide (((r++[x]).length:Int)<=60)&&(x != 0)):=by
    unfold dr;rw[ea];simp only[List.getLast?_append,List.getLast?_singleton];simp;have au:decide (D r<=59)=decide ((D r:Int)+1<=60):=decide_eq_decide.2 (by omega);have aC:(some x != some (0:Int))=(x != 0):=by simp[bne]
    rw[au,aC]
   rw[X];refine ai ?_;repeat' (intro (ao:_=_)<;>simp only[ao,go_sem,go_sem_proc,F,ab,hm,d1,b8,hw,bb,al]<;>try refine ag ?_ ?_)
   all_goals (refine congrArg (λb=>some (Data.bool b)) ?_;clear aH ea X bb hw I hm F ab d1;rw[od];simp only[fC,Bool.or_eq_true,decide_eq_true_eq,decide_eq_false_iff_not,beq_iff_eq,beq_eq_false_iff_ne,tw,aj3,ne_eq,k1,false_iff,true_iff] at *;omega)
def OQ:=bV sf λ(s,l)=>cu (D l<=1000000) (.same (.agg (cM (iV (s,l)))))
@[go_sem] def aO3 (s l):=cH OQ rfl GK (s,l) rfl
def ayM (T:ba)(gu:T ml=aK xC)(hI:T qv=aK CE):WF T ajx OQ:=by
 refine cp λ(s,l)=>cT λJ=>⟨rfl,ck ?_⟩;simp only[ajx,sf,cd]
 by_cases X:dr (s,l)=true
 ·obtain⟨z,a2,e⟩:=(iB _).1 X;have au:iV (s,l)=bl (-z):=by unfold iV;rw[Y X,e,fl]
  cases e
  have hw:IntKind.i64.wrap (0-z.sign) = -z.sign:=by
   have:=Int.sign_trichotomy z;rw[eY _];omega
  rw[au];refine ai ?_;repeat' (intro h<;>simp only[h,go_sem,go_sem_proc,gu,hI,X,J,hw,aiz,cM]<;>try refine ag ?_ ?_)
 ·have X:dr (s,l)=false:=by simpa using X
  have au:iV (s,l)=(0,[]):=by unfold iV;rw[X];rfl
  rw[au];refine ai ?_;repeat' (intro h<;>simp only[h,go_sem,go_sem_proc,gu,hI,X,J,cM,bY]<;>try refine ag ?_ ?_)
def aj4 (n:Int):(n.tmod 1048576).natAbs=n.natAbs%1048576:=by rw[Int.natAbs_tmod];rfl
def aj5 (n:Int):(n.tdiv 1048576).natAbs=n.natAbs/1048576:=by rw[Int.natAbs_tdiv];rfl
def OR:=bV o3 λ(n:Int)=>cu (eJ n) (.same (.agg (cM (bl n))))
@[go_sem] def aO4 (n):=cH OR rfl B7 n rfl
def ayN (T:ba)(hI:T qv=aK CE):WF T ajv OR:=by
 refine cp λn=>cT λJ=>⟨rfl,ck ?_⟩;simp only[ajv,o3,cd];have lR:=J;unfold eJ at lR;obtain⟨qh,wY⟩:=lR;have hlen:(aY n.natAbs).length<=60:=g9.2 (uN J);rcases dn (n=0) with rfl|s5
 ·refine ai ?_;repeat' (intro (ao:_=_)<;>simp only[ao,go_sem,go_sem_proc,hI,cM,beq_self_eq_true]<;>try refine ag ?_ ?_)
  rfl
 have b8:(n==0)=false:=by simpa using s5
 have R:∀s:Int,s=n.sign->lr s (aY n.natAbs)=bl n:=λs h=>oG rfl λ_=>h;have Ei:(aY n.natAbs).length<=1000000:=by omega
 rcases dn (n<0) with mI|jt
 ·have yZ:=R (-1) (nG mI).symm;simp only[go_sem,go_sem_proc,hI,b8,mI,decide_true];refine dd [2,3] [144002] (λ((u,g,l):Int×Nat×List Int) tm mem=>u<=0/\n<=u/\aY n.natAbs=l++aY u.natAbs/\tm 0=.H (.int .i64 u)/\tm 4=.ref 144022 g 1 0 (D l)/\mem 144022=some (g,aU aI l)) (λ(u,_)=>u.natAbs) (n,0,[]) (by refine⟨by omega,by omega,rfl,rfl,rfl,rfl⟩) ?_;intro vs ms aQ aM;simp only[go_sem,go_sem_proc,hI,mI,decide_true] at aQ aM;subst aQ aM;rintro⟨u,g,l⟩ tm mem I hm ⟨hu,ayO,Z,ay,aV,wa⟩;simp only[go_sem,go_sem_proc,hI,bj] at I hm;obtain⟨G,ab⟩:=I;rcases dn (u=0) with rfl|Hb
  ·rw[show (0:Int).natAbs=0 from rfl,uB,hD] at Z;rw[Z] at yZ Ei;refine ai ?_;repeat' (intro (ao:_=_)<;>simp only[ao,go_sem,go_sem_proc,hI,ay,G,ab,aV,hm,wa,yZ,Ei,nB kz,pb,cM,al,beq_self_eq_true]<;>try refine ag ?_ ?_)
  ·have Ch:(D l)<=60:=by
    have:=congrArg D Z;rw[gC] at this;omega
   have GV:(u==0)=false:=by simpa using Hb
   have c9:=λd:Int=>kx kz z7 144022 g 8 l d (cs:=[.H (.int .i64 d)]) rfl (by omega) (by omega);have au:=aj4 u;have aC:=aj5 u;have bN:u.tmod 1048576<=0:=by have:=aj6 (a:=-u) 1048576 (by omega);rw[Int.neg_tmod] at this;omega
   have bK:u.tdiv 1048576<=0/\u<=u.tdiv 1048576:=by
    have:=aj7 (a:=-u) (b:=1048576) (by omega) (by omega);rw[Int.neg_tdiv] at this;omega
   have sk:IntKind.i64.wrap (u.tdiv 1048576)=u.tdiv 1048576:=wrap64 _ (by omega) (by omega);have ih:IntKind.i64.wrap (0-u.tmod 1048576) = -(u.tmod 1048576):=by rw[eY _];omega
   have xn:=w9 (n:=u.natAbs) (by omega)
   have jT:∀d:Int,d=((u.natAbs%1048576:Nat):Int)->∃bn:Int×Nat×List Int,bn.1.natAbs<u.natAbs/\bn.1<=0/\n<=bn.1/\aY n.natAbs=bn.2.2++aY bn.1.natAbs/\M.H (.int .i64 (u.tdiv 1048576))=M.H (.int .i64 bn.1)/\M.ref 144022 (g+1) 1 0 (D l+1)=M.ref 144022 bn.2.1 1 0 bn.2.2.length/\some (g+1,aU aI (l++[d]))=some (bn.2.1,aU aI bn.2.2):=by
    intro d Dy;refine⟨(u.tdiv 1048576,g+1,l++[d]),by dsimp only;omega,by dsimp only;omega,by dsimp only;omega,?_,rfl,by simp,rfl⟩
    dsimp only;rw[Z,xn,Dy,aC,g8]
    rfl
   by_cases a2:u.tmod 1048576<0
   ·refine ai ?_;repeat' (intro (ao:_=_)<;>simp only[ao,go_sem,go_sem_proc,hI,ay,G,ab,aV,hm,wa,GV,c9,sk,ih,a2,decide_true,al,bj]<;>try refine ag ?_ ?_)
    exact jT _ (by omega)
   ·refine ai ?_;repeat' (intro (ao:_=_)<;>simp only[ao,go_sem,go_sem_proc,hI,ay,G,ab,aV,hm,wa,GV,c9,sk,ih,a2,decide_false,al,bj]<;>try refine ag ?_ ?_)
    exact jT _ (by omega)
 ·have yZ:=R 1 (hn (by omega)).symm;simp only[go_sem,go_sem_proc,hI,b8,jt,decide_false];refine dd [2,3] [144002] (λ((u,g,l):Int×Nat×List Int) tm mem=>0<=u/\u<=n/\aY n.natAbs=l++aY u.natAbs/\tm 0=.H (.int .i64 u)/\tm 4=.ref 144022 g 1 0 (D l)/\mem 144022=some (g,aU aI l)) (λ(u,_)=>u.natAbs) (n,0,[]) (by refine⟨by omega,by omega,rfl,rfl,rfl,rfl⟩) ?_;intro vs ms aQ aM;simp only[go_sem,go_sem_proc,hI,jt,decide_false] at aQ aM;subst aQ aM;rintro⟨u,g,l⟩ tm mem I hm ⟨hu,ayO,Z,ay,aV,wa⟩;simp only[go_sem,go_sem_proc,hI,bj] at I hm;obtain⟨G,ab⟩:=I;rcases dn (u=0) with rfl|Hb
  ·rw[show (0:Int).natAbs=0 from rfl,uB,hD] at Z;rw[Z] at yZ Ei;refine ai ?_;repeat' (intro (ao:_=_)<;>simp only[ao,go_sem,go_sem_proc,hI,ay,G,ab,aV,hm,wa,yZ,Ei,nB kz,pb,cM,al,beq_self_eq_true]<;>try refine ag ?_ ?_)
  ·have Ch:(D l)<=60:=by
    have:=congrArg D Z;rw[gC] at this;omega
   have GV:(u==0)=false:=by simpa using Hb
   have c9:=λd:Int=>kx kz z7 144022 g 8 l d (cs:=[.H (.int .i64 d)]) rfl (by omega) (by omega);have au:=aj4 u;have aC:=aj5 u;have bN:=aj6 (a:=u) 1048576 (by omega);have bK:=aj7 (a:=u) (b:=1048576) (by omega) (by omega);have sk:IntKind.i64.wrap (u.tdiv 1048576)=u.tdiv 1048576:=wrap64 _ (by omega) (by omega);have xn:=w9 (n:=u.natAbs) (by omega);have a2:decide (u.tmod 1048576<0)=false:=b7;refine ai ?_;repeat' (intro (ao:_=_)<;>simp only[ao,go_sem,go_sem_proc,hI,ay,G,ab,aV,hm,wa,GV,c9,sk,a2,al,bj]<;>try refine ag ?_ ?_)
   refine⟨(u.tdiv 1048576,g+1,l++[u.tmod 1048576]),by dsimp only;omega,by dsimp only;omega,by dsimp only;omega,?_,rfl,by simp,by first|rfl|simp[go_sem]⟩
   dsimp only;rw[Z,xn,aC,g8,show u.tmod 1048576=((u.natAbs%1048576:Nat):Int) by omega]
   rfl
def tx (a b:Raw):Bool:=decide (a=b)
def TF:=bV j6 λ(s,l,s2,aw)=>cu (D l<=1000000/\D aw<=1000000) (.same (.bool (tx (s,l) (s2,aw))))
@[go_sem] def aO5 (s l s2 aw):=cH TF rfl tq (s,l,s2,aw) rfl
def ayP (T:ba):WF T ajM TF:=by
 refine cp λ(s,l,s2,aw)=>cT λJ=>⟨rfl,ck ?_⟩;simp only[ajM,j6,cd];obtain⟨bG,bO⟩:=J
 by_cases R:s=s2
 ·subst R
  by_cases aq:(D l)=D aw
  ·have au:(((D l:Nat):Int)==((D aw:Nat):Int))=true:=by simp;omega
   simp only[go_sem,go_sem_proc,beq_self_eq_true,al,au,b3,bne];refine dd [2,3] [210002,210003] (λ(i:Nat) tm mem=>i<=D l/\l.take i=aw.take i/\tm 5=.H (.int .i64 i)) (λi=>D l-i) 0 (by refine⟨by omega,by simp,rfl⟩) ?_;intro vs ms aQ aM;simp only[go_sem,go_sem_proc,al] at aQ aM;subst aQ aM;rintro i tm mem I hm ⟨O,aH,bu⟩;simp only[go_sem,go_sem_proc,bj] at I hm;obtain⟨G,ab⟩:=I;obtain⟨bU,iA⟩:=hm;rcases dn (i<D l) with ah|bW
   ·have L:l[i]?=some l[i]:=bh ah;have aj:aw[i]?=some aw[i]:=bh (by omega);have qh:l.take (i+1)=l.take i++[l[i]]:=by rw[hZ,L];rfl
    have wY:aw.take (i+1)=aw.take i++[aw[i]]:=by rw[hZ,aj];rfl
    generalize l[i]=x at *;generalize aw[i]=y at *;have d1:decide ((i:Int)<(D l:Int))=true:=cX;have bF:=eI (i:=i) (by omega)
    by_cases g0:x=y
    ·subst g0;refine ai ?_;repeat' (intro (ao:_=_)<;>simp only[ao,go_sem,go_sem_proc,G,ab,bu,bU,iA,L,aj,d1,bF,aI,al,bm,bj,beq_self_eq_true,b3]<;>try refine ag ?_ ?_)
     exact⟨i+1,by omega,by omega,by rw[qh,wY,aH],rfl⟩
    ·have b8:(x==y)=false:=by simpa using g0
     have X:tx (s,l) (s,aw)=false:=by
      refine kM λh=>g0 ?_;rw[fq] at h;rw[h.2,aj] at L;exact (nu L).symm
     rw[X];refine ai ?_;repeat' (intro (ao:_=_)<;>simp only[ao,go_sem,go_sem_proc,G,ab,bu,bU,iA,L,aj,d1,bF,b8,aI,al,bm,bj,cA]<;>try refine ag ?_ ?_)
   ·have d1:decide ((i:Int)<(D l:Int))=false:=b7
    have X:tx (s,l) (s,aw)=true:=by
     refine hN ?_;rw[dD (by omega),dD (by omega)] at aH;rw[aH]
    rw[X];refine ai ?_;repeat' (intro (ao:_=_)<;>simp only[ao,go_sem,go_sem_proc,G,ab,bu,bU,iA,d1,al]<;>try refine ag ?_ ?_)
  ·have au:(((D l:Nat):Int)==((D aw:Nat):Int))=false:=by simp;omega
   have X:tx (s,l) (s,aw)=false:=by
    refine kM λh=>aq ?_;rw[fq] at h;rw[h.2]
   rw[X];refine ai ?_;repeat' (intro (ao:_=_)<;>simp only[ao,go_sem,go_sem_proc,beq_self_eq_true,al,au,b3,cA,bne]<;>try refine ag ?_ ?_)
 ·have b8:(s==s2)=false:=by simpa using R
  have X:tx (s,l) (s2,aw)=false:=by
   refine kM λh=>R ?_;rw[fq] at h;exact h.1
  rw[X];refine ai ?_;repeat' (intro (ao:_=_)<;>simp only[ao,go_sem,go_sem_proc,b8,al,b3,cA,bne]<;>try refine ag ?_ ?_)
def OS:=bV sf λ(s,l)=>some (.same (fs (JU (s,l))))
@[go_sem] def aO6 (s l):=pK OS rfl GK (s,l) rfl
def ayQ (T:ba):WF T ajL OS:=by
 refine cp λ(s,l)=>⟨rfl,ck ?_⟩;simp only[ajL,sf,cd];refine ai ?_;repeat' (intro h<;>simp only[h,go_sem,go_sem_proc,al]<;>try refine ag ?_ ?_)
 all_goals (simp only[fs,cM,JU];simp only[bY, *,reduceIte,b3,cA,se,ur,lT,uu,te,fN,iS,e9,k1,beq_self_eq_true,bne])
def ayR {x y:Int}(h:bl x=bl y):x=y:=by rw[<-fl x,h,fl]
def OT:=bV j6 λ(s,l,s2,aw)=>cu (D l<=1000000/\D aw<=1000000) (.same (.int .i64 (sm (s,l) (s2,aw))))
@[go_sem] def aO7 (s l s2 aw):=cH OT rfl tq (s,l,s2,aw) rfl
def ayS (T:ba)(gu:T ml=aK xC)(Hm:T YU=aK TF)(kU:T DS=aK Hj):WF T ajJ OT:=by
 refine cp λ(s,l,s2,aw)=>cT λJ=>⟨rfl,ck ?_⟩;simp only[ajJ,j6,cd];obtain⟨bG,bO⟩:=J
 by_cases X:dr (s,l)=true
 ·by_cases bf:dr (s2,aw)=true
  ·obtain⟨x,L,e⟩:=(iB _).1 X;obtain⟨y,aj,aC⟩:=(iB _).1 bf;have hm:sm (s,l) (s2,aw)=g2 x y:=by rw[e,aC];exact Om L aj
   rw[hm];clear hm
   have uS:tx (s,l) (s2,aw)=decide (x=y):=by
    rw[e,aC];exact decide_eq_decide.2 ⟨ayR,λh=>by rw[h]⟩
   cases e
   cases aC;have m4:=oH L;have mH:=oH aj
   by_cases g0:x=y
   ·subst g0;rw[hN rfl] at uS;rw[JY];refine ai ?_;repeat' (intro (ao:_=_)<;>simp only[ao,go_sem,go_sem_proc,gu,Hm,kU,X,bf,bG,bO,uS]<;>try refine ag ?_ ?_)
   ·rw[kM g0] at uS;have fO:=aaq x.natAbs y.natAbs ⟨by omega,by omega⟩
    simp only[eh] at fO
    have CF:g2 x y=if x<y then -1 else 1:=by
     rcases uK x y with h|h|h
     ·rw[Cl h,Y h]
     ·exact absurd h g0
     ·rw[G6 h,aa (by omega)]
    rw[CF]
    by_cases R:x.sign=y.sign
    ·have yP:(x.sign==y.sign)=true:=by simpa using R
     have lq:(decide (x.natAbs<y.natAbs)==decide (x.sign>0))=decide (x<y):=by
      rw[Bool.beq_eq_decide_eq,decide_eq_decide];simp only[decide_eq_decide];rcases lY x with ⟨e,F⟩|⟨e,F⟩|⟨e,F⟩<;>rcases lY y with ⟨e',G⟩|⟨e',G⟩|⟨e',G⟩<;>rw[e,e'] at R<;>first|omega|skip
     by_cases ah:x<y
     ·rw[hN ah] at lq;rw[Y ah];refine ai ?_;repeat' (intro (ao:_=_)<;>simp only[ao,go_sem,go_sem_proc,gu,Hm,kU,X,bf,bG,bO,uS,yP,fO,lq,b3,bne]<;>try refine ag ?_ ?_)
     ·rw[kM ah] at lq;rw[aa ah];refine ai ?_;repeat' (intro (ao:_=_)<;>simp only[ao,go_sem,go_sem_proc,gu,Hm,kU,X,bf,bG,bO,uS,yP,fO,lq,b3,bne]<;>try refine ag ?_ ?_)
    ·have yP:(x.sign==y.sign)=false:=by simpa using R
     have lq:decide (x.sign<y.sign)=decide (x<y):=by
      rw[decide_eq_decide];rcases lY x with ⟨e,F⟩|⟨e,F⟩|⟨e,F⟩<;>rcases lY y with ⟨e',G⟩|⟨e',G⟩|⟨e',G⟩<;>rw[e,e'] at R ⊢<;>omega
     by_cases ah:x<y
     ·rw[hN ah] at lq;rw[Y ah];refine ai ?_;repeat' (intro (ao:_=_)<;>simp only[ao,go_sem,go_sem_proc,gu,Hm,kU,X,bf,bG,bO,uS,yP,lq,cA,bne]<;>try refine ag ?_ ?_)
     ·rw[kM ah] at lq;rw[aa ah];refine ai ?_;repeat' (intro (ao:_=_)<;>simp only[ao,go_sem,go_sem_proc,gu,Hm,kU,X,bf,bG,bO,uS,yP,lq,cA,bne]<;>try refine ag ?_ ?_)
  ·have bf:dr (s2,aw)=false:=by simpa using bf
   have hm:sm (s,l) (s2,aw)=0:=by unfold sm;rw[bf,iS];rfl
   rw[hm];refine ai ?_;repeat' (intro (ao:_=_)<;>simp only[ao,go_sem,go_sem_proc,gu,Hm,kU,X,bf,bG,bO]<;>try refine ag ?_ ?_)
 ·have X:dr (s,l)=false:=by simpa using X
  have hm:sm (s,l) (s2,aw)=0:=by unfold sm;rw[X,e9];rfl
  rw[hm];refine ai ?_;repeat' (intro (ao:_=_)<;>simp only[ao,go_sem,go_sem_proc,gu,Hm,kU,X,bG,bO]<;>try refine ag ?_ ?_)
def OU:=bV j6 λ(s,l,s2,aw)=>cu (D l<=1000000/\D aw<=1000000) (.same (fs (n9 (s,l) (s2,aw))))
@[go_sem] def aO8 (s l s2 aw):=cH OU rfl tq (s,l,s2,aw) rfl
def ayT (T:ba)(gu:T ml=aK xC)(uT:T Nx=aK ON)(hI:T qv=aK CE):WF T ajy OU:=by
 refine cp λ(s,l,s2,aw)=>cT λJ=>⟨rfl,ck ?_⟩;simp only[ajy,j6,cd];obtain⟨bG,bO⟩:=J
 by_cases X:dr (s,l)=true
 ·by_cases bf:dr (s2,aw)=true
  ·obtain⟨x,L,e⟩:=(iB _).1 X;obtain⟨y,aj,aC⟩:=(iB _).1 bf
   have hm:n9 (s,l) (s2,aw)=(bl (hG x.natAbs y.natAbs:Nat),0):=by
    rw[e,aC];unfold n9
    rw[lz L,lz aj,fl,fl]
    rfl
   rw[hm];clear hm
   cases e
   cases aC;have m4:=oH L;have mH:=oH aj;have bb:=JZ L aj;generalize iU:x.natAbs=b2 at *;generalize Cm:y.natAbs=gM at *;have Oo:(aY b2).length<=1000000:=by omega
   simp only[go_sem,go_sem_proc,gu,uT,hI,X,bf,iU,Cm,bG,bO,Oo,aI,al];refine dd [4] [164004] (λ((a,b):Nat×Nat) tm mem=>a<dF/\b<dF/\hG b2 gM=hG a b/\tm 6=.H (.ax ((aY a).map aI))/\tm 7=.H (.ax ((aY b).map aI))) (λ(_,b)=>b) (b2,gM) (by refine⟨L,aj,rfl,rfl,rfl⟩) ?_;intro vs ms aQ aM;simp only[go_sem,go_sem_proc,gu,uT,hI,iU,Cm] at aQ aM;subst aQ aM;rintro⟨a,b⟩ tm mem I hm ⟨aZ,ad,yQ,bX,b9⟩;simp only[go_sem,go_sem_proc,gu,uT,hI,bj] at I hm;have aV:=I;have oZ:(aY a).length<=60:=g9.2 aZ;have th:(aY b).length<=60:=g9.2 ad;rcases kO b with ay|jt
   ·subst ay;have a2:aY 0=[]:=rfl;have Z2:(aY a).length<=1000000:=by omega
    rw[Nat.gcd_zero_right] at yQ;have R:lr 1 (aY a)=bl ((a:Nat):Int):=oG (by simp) λaL=>(hn (by omega)).symm;rw[yQ];refine ai ?_;repeat' (intro h<;>simp only[h,go_sem,go_sem_proc,gu,uT,hI,aV,bX,b9,hm,a2,Z2,R,cM,fs,qC,bY,o2,qx,rp,show ¬ ((0:Int)>0) by omega,decide_false]<;>try refine ag ?_ ?_)
   ·have b8:decide (((aY b).length:Int)>0)=true:=by
     have:aY b≠[]:=by rw[Ne,BT];omega
     have:=Eg.2 this;exact cX
    have hdiv:=ajZ a b ⟨by omega,by omega,jt⟩
    simp only[eh] at hdiv;refine ai ?_;repeat' (intro h<;>simp only[h,go_sem,go_sem_proc,gu,uT,hI,aV,bX,b9,hm,b8,hdiv,al]<;>try refine ag ?_ ?_)
    exact⟨(b,a%b),pL _ jt,ad,vQ (Nat.mod_le _ _) aZ,by dsimp only;rw[yQ,Oq a b,Nat.gcd_rec b a,Oq],rfl,rfl⟩
  ·have bf:dr (s2,aw)=false:=by simpa using bf
   have hm:n9 (s,l) (s2,aw)=((0,[]),1):=by unfold n9;rw[bf,iS];rfl
   rw[hm];refine ai ?_;repeat' (intro h<;>simp only[h,go_sem,go_sem_proc,gu,uT,hI,X,bf,bG,bO,cM,fs,bY]<;>try refine ag ?_ ?_)
 ·have X:dr (s,l)=false:=by simpa using X
  have hm:n9 (s,l) (s2,aw)=((0,[]),1):=by unfold n9;rw[X,e9];rfl
  rw[hm];refine ai ?_;repeat' (intro h<;>simp only[h,go_sem,go_sem_proc,gu,uT,hI,X,bG,bO,cM,fs,bY]<;>try refine ag ?_ ?_)
def Kj:=bV j6 λ(s,l,s2,aw)=>cu (D l<=1000000/\D aw<=1000000) (.same (fs (mulR (s,l) (s2,aw))))
@[go_sem] def aO9 (s l s2 aw):=cH Kj rfl tq (s,l,s2,aw) rfl
def ayU (T:ba)(gu:T ml=aK xC)(qH:T Gt=aK Ki)(hI:T qv=aK CE)(y0:T Gv=aK OS):WF T ajH Kj:=by
 refine cp λ(s,l,s2,aw)=>cT λJ=>⟨rfl,ck ?_⟩;simp only[ajH,j6,cd];obtain⟨bG,bO⟩:=J
 by_cases X:dr (s,l)=true
 ·by_cases bf:dr (s2,aw)=true
  ·obtain⟨x,L,e⟩:=(iB _).1 X;obtain⟨y,aj,aC⟩:=(iB _).1 bf;have hm:mulR (s,l) (s2,aw)=pP (x*y):=by rw[e,aC];exact vV L aj
   rw[hm];clear hm
   cases e
   cases aC;have F:=oI x;have G:=oI y;have aE:x.sign*y.sign=(x*y).sign:=(o9 x y).symm;have ab:=oI (x*y);have hw:IntKind.i64.wrap (x.sign*y.sign)=(x*y).sign:=by rw[aE];exact wrap64 _ (by omega) (by omega)
   have hmul:=aau x.natAbs y.natAbs ⟨eR (oH L) (by omega),eR (oH aj) (by omega)⟩;simp only[eh] at hmul
   have hlen:(aY (x.natAbs*y.natAbs)).length<=1000000:=by
    refine eR ((g9 (k:=120)).2 ?_) (by omega);have:(1048576^120:Nat)=dF*dF:=by unfold dF;rw[<-Nat.pow_add]
    rw[this];exact Nat.mul_lt_mul'' L aj
   have R:lr (x*y).sign (aY (x.natAbs*y.natAbs))=bl (x*y):=oG (Int.natAbs_mul x y) λ_=>rfl;refine ai ?_;repeat' (intro h<;>simp only[h,go_sem,go_sem_proc,gu,qH,hI,y0,X,bf,bG,bO,hw,hmul,hlen,R,yO,cM,fs,qC]<;>try refine ag ?_ ?_)
  ·have bf:dr (s2,aw)=false:=by simpa using bf
   have hm:mulR (s,l) (s2,aw)=((0,[]),1):=by unfold mulR;rw[bf,iS];rfl
   rw[hm];refine ai ?_;repeat' (intro h<;>simp only[h,go_sem,go_sem_proc,gu,qH,hI,y0,X,bf,bG,bO,cM,fs,bY]<;>try refine ag ?_ ?_)
 ·have X:dr (s,l)=false:=by simpa using X
  have hm:mulR (s,l) (s2,aw)=((0,[]),1):=by unfold mulR;rw[X,e9];rfl
  rw[hm];refine ai ?_;repeat' (intro h<;>simp only[h,go_sem,go_sem_proc,gu,qH,hI,y0,X,bG,bO,cM,fs,bY]<;>try refine ag ?_ ?_)
def TG:=bV j6 λ(s,l,s2,aw)=>cu (D l<=1000000/\D aw<=1000000) (.same (fs (nH (s,l) (s2,aw))))
@[go_sem] def aPa (s l s2 aw):=cH TG rfl tq (s,l,s2,aw) rfl
def ayV (T:ba)(gu:T ml=aK xC)(uU:T Ny=aK OL)(kU:T DS=aK Hj)(m7:T DR=aK Kh)(hI:T qv=aK CE)(y0:T Gv=aK OS):WF T ajK TG:=by
 refine cp λ(s,l,s2,aw)=>cT λJ=>⟨rfl,ck ?_⟩;simp only[ajK,j6,cd];obtain⟨bG,bO⟩:=J
 by_cases X:dr (s,l)=true
 ·by_cases bf:dr (s2,aw)=true
  ·obtain⟨x,L,e⟩:=(iB _).1 X;obtain⟨y,aj,aC⟩:=(iB _).1 bf;have hm:nH (s,l) (s2,aw)=pP (x+y):=by rw[e,aC];exact Ok L aj
   rw[hm];clear hm
   cases e
   cases aC;have F:=oI x;have G:=oI y;have m4:=oH L;have mH:=oH aj;have xt:=JT x;have axj:=JT y
   have pQ:(x.sign=1/\0<x)\/(x.sign=0/\x=0)\/(x.sign = -1/\x<0):=by
    rcases uK x 0 with h|h|h
    ·exact .inr (.inr ⟨nG h,h⟩)
    ·exact .inr (.inl ⟨by rw[h];rfl,h⟩)
    ·exact .inl ⟨hn h,h⟩
   have ty:(y.sign=1/\0<y)\/(y.sign=0/\y=0)\/(y.sign = -1/\y<0):=by
    rcases uK y 0 with h|h|h
    ·exact .inr (.inr ⟨nG h,h⟩)
    ·exact .inr (.inl ⟨by rw[h];rfl,h⟩)
    ·exact .inl ⟨hn h,h⟩
   have pa:=ajU x.natAbs y.natAbs ⟨by omega,by omega⟩
   simp only[eh] at pa
   have hlen:(aY (x.natAbs+y.natAbs)).length<=1000000:=by
    refine eR ((g9 (k:=61)).2 ?_) (by omega);have:(1048576^61:Nat)=dF*1048576:=by unfold dF;rw[<-xa]
    omega
   have fD:=aaq x.natAbs y.natAbs ⟨by omega,by omega⟩
   simp only[eh] at fD
   by_cases aE:x.sign*y.sign>=0
   ·have xk:bits .or .i64 x.sign y.sign=B8 [x.sign,y.sign]:=by
     rcases pQ with ⟨e,_⟩|⟨e,_⟩|⟨e,_⟩<;>rcases ty with ⟨e',_⟩|⟨e',_⟩|⟨e',_⟩<;>rw[e,e'] at aE ⊢<;>first|rfl|exact absurd aE (by decide)
    have R:lr (B8 [x.sign,y.sign]) (aY (x.natAbs+y.natAbs))=bl (x+y):=by
     refine oG ?_ ?_
     ·rcases pQ with ⟨e,_⟩|⟨e,_⟩|⟨e,_⟩<;>rcases ty with ⟨e',_⟩|⟨e',_⟩|⟨e',_⟩<;>rw[e,e'] at aE<;>omega
     ·intro aL;rcases pQ with ⟨e,_⟩|⟨e,_⟩|⟨e,_⟩<;>rcases ty with ⟨e',_⟩|⟨e',_⟩|⟨e',_⟩<;>rw[e,e'] at aE ⊢
      ·exact (hn (by omega)).symm
      ·exact (hn (by omega)).symm
      ·omega
      ·exact (hn (by omega)).symm
      ·omega
      ·exact (nG (by omega)).symm
      ·omega
      ·exact (nG (by omega)).symm
      ·exact (nG (by omega)).symm
    rcases ar:(x.sign==0)
    ·rcases c2:(y.sign==0)
     ·have c3:(x.sign==y.sign)=true:=by
       rw[beq_eq_false_iff_ne] at ar c2;rw[beq_iff_eq];rcases pQ with ⟨e,_⟩|⟨e,_⟩|⟨e,_⟩<;>rcases ty with ⟨e',_⟩|⟨e',_⟩|⟨e',_⟩<;>rw[e,e'] at aE ⊢<;>omega
      refine ai ?_;repeat' (intro (ao:_=_)<;>simp only[ao,go_sem,go_sem_proc,gu,uU,kU,m7,hI,y0,X,bf,bG,bO,ar,c2,c3,xk,pa,hlen,R,yO,cM,fs,qC]<;>try refine ag ?_ ?_)
     ·refine ai ?_;repeat' (intro (ao:_=_)<;>simp only[ao,go_sem,go_sem_proc,gu,uU,kU,m7,hI,y0,X,bf,bG,bO,ar,c2,xk,pa,hlen,R,yO,cM,fs,qC]<;>try refine ag ?_ ?_)
    ·refine ai ?_;repeat' (intro (ao:_=_)<;>simp only[ao,go_sem,go_sem_proc,gu,uU,kU,m7,hI,y0,X,bf,bG,bO,ar,xk,pa,hlen,R,yO,cM,fs,qC]<;>try refine ag ?_ ?_)
   ·have ar:(x.sign==0)=false:=by
     rw[beq_eq_false_iff_ne];rcases pQ with ⟨e,_⟩|⟨e,_⟩|⟨e,_⟩<;>rw[e] at aE ⊢<;>omega
    have c2:(y.sign==0)=false:=by
     rw[beq_eq_false_iff_ne];rcases ty with ⟨e,_⟩|⟨e,_⟩|⟨e,_⟩<;>rw[e] at aE ⊢<;>omega
    have c3:(x.sign==y.sign)=false:=by
     rw[beq_eq_false_iff_ne];rcases pQ with ⟨e,_⟩|⟨e,_⟩|⟨e,_⟩<;>rcases ty with ⟨e',_⟩|⟨e',_⟩|⟨e',_⟩<;>rw[e,e'] at aE ⊢<;>omega
    by_cases ah:x.natAbs<y.natAbs
    ·have jU:decide (x.natAbs<y.natAbs)=true:=hN ah;have nF:=TC y.natAbs x.natAbs ⟨by omega,by omega⟩
     simp only[eh] at nF;have G0:(aY (y.natAbs-x.natAbs)).length<=1000000:=eR (JX _ _) (by omega)
     have R:lr y.sign (aY (y.natAbs-x.natAbs))=bl (x+y):=by
      refine oG ?_ ?_
      ·rcases pQ with ⟨e,_⟩|⟨e,_⟩|⟨e,_⟩<;>rcases ty with ⟨e',_⟩|⟨e',_⟩|⟨e',_⟩<;>rw[e,e'] at aE<;>omega
      ·intro aL;rcases pQ with ⟨e,_⟩|⟨e,_⟩|⟨e,_⟩<;>rcases ty with ⟨e',_⟩|⟨e',_⟩|⟨e',_⟩<;>rw[e,e'] at aE<;>rw[e']<;>first|omega|exact (hn (by omega)).symm|exact (nG (by omega)).symm
     refine ai ?_;repeat' (intro (ao:_=_)<;>simp only[ao,go_sem,go_sem_proc,gu,uU,kU,m7,hI,y0,X,bf,bG,bO,ar,c2,c3,fD,jU,nF,G0,R,yO,cM,fs,qC]<;>try refine ag ?_ ?_)
    ·have jU:decide (x.natAbs<y.natAbs)=false:=kM ah;have nF:=TC x.natAbs y.natAbs ⟨by omega,by omega⟩
     simp only[eh] at nF;have G0:(aY (x.natAbs-y.natAbs)).length<=1000000:=eR (JX _ _) (by omega)
     have R:lr x.sign (aY (x.natAbs-y.natAbs))=bl (x+y):=by
      refine oG ?_ ?_
      ·rcases pQ with ⟨e,_⟩|⟨e,_⟩|⟨e,_⟩<;>rcases ty with ⟨e',_⟩|⟨e',_⟩|⟨e',_⟩<;>rw[e,e'] at aE<;>omega
      ·intro aL;rcases pQ with ⟨e,_⟩|⟨e,_⟩|⟨e,_⟩<;>rcases ty with ⟨e',_⟩|⟨e',_⟩|⟨e',_⟩<;>rw[e,e'] at aE<;>rw[e]<;>first|omega|exact (hn (by omega)).symm|exact (nG (by omega)).symm
     refine ai ?_;repeat' (intro (ao:_=_)<;>simp only[ao,go_sem,go_sem_proc,gu,uU,kU,m7,hI,y0,X,bf,bG,bO,ar,c2,c3,fD,jU,nF,G0,R,yO,cM,fs,qC]<;>try refine ag ?_ ?_)
  ·have bf:dr (s2,aw)=false:=by simpa using bf
   have hm:nH (s,l) (s2,aw)=((0,[]),1):=by unfold nH;rw[bf,iS];rfl
   rw[hm];refine ai ?_;repeat' (intro (ao:_=_)<;>simp only[ao,go_sem,go_sem_proc,gu,uU,kU,m7,hI,y0,X,bf,bG,bO,cM,fs,bY]<;>try refine ag ?_ ?_)
 ·have X:dr (s,l)=false:=by simpa using X
  have hm:nH (s,l) (s2,aw)=((0,[]),1):=by unfold nH;rw[X,e9];rfl
  rw[hm];refine ai ?_;repeat' (intro (ao:_=_)<;>simp only[ao,go_sem,go_sem_proc,gu,uU,kU,m7,hI,y0,X,bG,bO,cM,fs,bY]<;>try refine ag ?_ ?_)
def ayW (b:Raw):(iV b).2.length<=60:=by
 unfold iV
 split
 ·rename_i h;obtain⟨z,a2,e⟩:=(iB _).1 h;rw[e,fl];exact g9.2 (by rw[An];exact a2)
 ·exact fL _
def Az (a b:Raw):Raw×Int:=if dr b=true then nH a (iV b) else ((0,[]),1)
def aaB {z:Int}(h:z.natAbs<dF):iV (bl z)=bl (-z):=by unfold iV;rw[Y (lz h),fl]
def ayX {x y:Int}(L:x.natAbs<dF)(aj:y.natAbs<dF):Az (bl x) (bl y)=pP (x-y):=by
 unfold Az;rw[Y (lz aj),aaB aj,Ok L (by rw[An];exact aj)]
 rfl
def TH:=bV j6 λ(s,l,s2,aw)=>cu (D l<=1000000/\D aw<=1000000) (.same (fs (Az (s,l) (s2,aw))))
@[go_sem] def aPb (s l s2 aw):=cH TH rfl tq (s,l,s2,aw) rfl
def ayY (T:ba)(gu:T ml=aK xC)(Ey:T Jp=aK OQ)(aj8:T YT=aK TG):WF T ajI TH:=by
 refine cp λ(s,l,s2,aw)=>cT λJ=>⟨rfl,ck ?_⟩;simp only[ajI,j6,cd];obtain⟨bG,bO⟩:=J;unfold Az
 by_cases bf:dr (s2,aw)=true
 ·rw[Y bf];have ix:=ayW (s2,aw);rcases aL:iV (s2,aw) with ⟨c1,cb⟩;rw[aL] at ix;dsimp only at ix;have ayZ:(D cb)<=1000000:=by omega
  refine ai ?_;repeat' (intro h<;>simp only[h,go_sem,go_sem_proc,gu,Ey,aj8,bf,bG,bO,aL,ayZ,cM,fs]<;>try refine ag ?_ ?_)
 ·have bf:dr (s2,aw)=false:=by simpa using bf
  refine ai ?_;repeat' (intro h<;>simp only[h,go_sem,go_sem_proc,gu,Ey,aj8,bf,bO,cM,fs,bY]<;>try refine ag ?_ ?_)
def OV:=bV j6 λ(s,l,s2,aw)=>cu (D l<=1000000/\D aw<=1000000) (.same (lZ (nI (s,l) (s2,aw))))
@[go_sem] def aPc (s l s2 aw):=cH OV rfl tq (s,l,s2,aw) rfl
def ay0 (T:ba)(gu:T ml=aK xC)(uT:T Nx=aK ON)(uU:T Ny=aK OL)(m7:T DR=aK Kh)(hI:T qv=aK CE):WF T ajz OV:=by
 refine cp λ(s,l,s2,aw)=>cT λJ=>⟨rfl,ck ?_⟩;simp only[ajz,j6,cd];obtain⟨bG,bO⟩:=J
 by_cases X:dr (s,l)=true
 ·by_cases bf:dr (s2,aw)=true
  ·obtain⟨x,L,e⟩:=(iB _).1 X;obtain⟨y,aj,aC⟩:=(iB _).1 bf
   by_cases j5:y=0
   ·have hm:nI (s,l) (s2,aw)=((0,[]),(0,[]),15):=by
     rw[e,aC];unfold nI
     rw[lz L,lz aj,fl,fl,Y (by rfl),Y j5]
    rw[hm]
    cases e
    cases aC;have ay:((y.sign:Int)==0)=true:=by rw[j5];rfl
    refine ai ?_;repeat' (intro (ao:_=_)<;>simp only[ao,go_sem,go_sem_proc,gu,uT,uU,m7,hI,X,bf,bG,bO,ay,cM,lZ,bY]<;>try refine ag ?_ ?_)
   ·have hm:nI (s,l) (s2,aw)=(bl (x.fdiv y),bl (x.fmod y),0):=by
     rw[e,aC];exact Cn L aj j5
    rw[hm];clear hm
    cases e
    cases aC;have m4:=oH L;have mH:=oH aj;have G7:(y.sign==0)=false:=by rw[beq_eq_false_iff_ne,Ne,Int.sign_eq_zero_iff_zero];exact j5
    have G8:0<y.natAbs:=by omega
    have F:=oI x;have G:=oI y;have aE:x.sign*y.sign=(x*y).sign:=(o9 x y).symm;have ab:=oI (x*y);have hw:IntKind.i64.wrap (x.sign*y.sign)=x.sign*y.sign:=by rw[aE];exact wrap64 _ (by omega) (by omega)
    have hdiv:=ajZ x.natAbs y.natAbs ⟨by omega,by omega,G8⟩
    simp only[eh] at hdiv;have bq:=J0 (y:=y) L j5;have sn:=aiG (x:=x) aj j5;have Z3:x.natAbs/y.natAbs<dF:=vQ (Nat.div_le_self _ _) L;have axn:(aY (x.natAbs/y.natAbs)).length<=60:=g9.2 Z3;have Co:x.natAbs%y.natAbs<dF:=Nat.lt_trans (pL _ G8) aj;have axo:(aY (x.natAbs%y.natAbs)).length<=60:=g9.2 Co
    by_cases vW:x.sign*y.sign<0/\x.natAbs%y.natAbs≠0
    ·obtain⟨eq,vX⟩:=S4 vW.1 vW.2
     have b8:(((aY (x.natAbs%y.natAbs)).length:Int)==0)=false:=by
      have:aY (x.natAbs%y.natAbs)≠[]:=by rw[Ne,BT];exact vW.2
      have:=Eg.2 this;rw[beq_eq_false_iff_ne];omega
     have mI:decide (x.sign*y.sign>=0)=false:=kM (by have:=vW.1;omega);have lu:aY 1=[1]:=by simp[aY,z6]
     have axp:(aY 1).length=1:=by rw[lu];rfl
     have pa:=ajU (x.natAbs/y.natAbs) 1 ⟨by omega,by omega⟩
     simp only[eh,lu,eE,bY,aI] at pa;have nF:=TC y.natAbs (x.natAbs%y.natAbs) ⟨by omega,by omega,Ou (pL _ G8)⟩
     simp only[eh] at nF
     have oZ:(aY (x.natAbs/y.natAbs+1)).length<=1000000:=by
      have:(x.natAbs/y.natAbs+1)<dF:=by rw[eq] at bq;rw[An,m5] at bq;exact bq
      have:=(g9 (k:=60)).2 this;omega
     have th:(aY (y.natAbs-x.natAbs%y.natAbs)).length<=1000000:=by have:=JX y.natAbs (x.natAbs%y.natAbs);omega
     have jL:lr (-1) (aY (x.natAbs/y.natAbs+1))=bl (x.fdiv y):=oG (by rw[eq,An,m5]) λ_=>by rw[eq,GY,hn (show (0:Int)<((x.natAbs/y.natAbs+1:Nat):Int) by exact Eh.2 (Nat.succ_pos _))]
     have la:lr y.sign (aY (y.natAbs-x.natAbs%y.natAbs))=bl (x.fmod y):=by
      refine oG ?_ λaL=>?_
      ·rw[vX];rcases lY y with ⟨e',ab⟩|⟨e',ab⟩|⟨e',ab⟩<;>rw[e']<;>omega
      ·rw[vX,o9,Cp,hn (show (0:Int)<((y.natAbs-x.natAbs%y.natAbs:Nat):Int) by omega),tf]
     refine ai ?_;repeat' (intro (ao:_=_)<;>simp only[ao,go_sem,go_sem_proc,gu,uT,uU,m7,hI,X,bf,bG,bO,G7,hw,hdiv,b8,mI,pa,nF,oZ,th,jL,la,aI,al,cM,lZ,qC]<;>try refine ag ?_ ?_)
    ·obtain⟨eq,vX⟩:=S5 j5 vW
     have Z4:(decide (x.sign*y.sign>=0)=false/\(((aY (x.natAbs%y.natAbs)).length:Int)==0)=true)\/decide (x.sign*y.sign>=0)=true:=by
      by_cases aL:x.sign*y.sign<0
      ·left
       have:x.natAbs%y.natAbs=0:=Decidable.not_not.1 λh=>vW ⟨aL,h⟩;rw[this];exact⟨b7,rfl⟩
      ·right;exact cX
     have oZ:(aY (x.natAbs/y.natAbs)).length<=1000000:=by omega
     have th:(aY (x.natAbs%y.natAbs)).length<=1000000:=by omega
     have jL:lr (x.sign*y.sign) (aY (x.natAbs/y.natAbs))=bl (x.fdiv y):=by
      refine oG ?_ λaL=>?_
      ·rw[eq]
       have G9:∀aR:Nat,(x=0->aR=0)->(x.sign*y.sign*(aR:Int)).natAbs=aR:=by
        intro aR ay;rcases lY x with ⟨e,F⟩|⟨e,F⟩|⟨e,F⟩<;>rcases lY y with ⟨e',ab⟩|⟨e',ab⟩|⟨e',ab⟩<;>rw[e,e']<;>first|omega|(rw[ay F];rfl)
       exact G9 _ λay=>by rw[ay];exact ajR _
      ·rw[eq,aE,o9,o9,o9,Cp,Cp,hn (show (0:Int)<((x.natAbs/y.natAbs:Nat):Int) from Eh.2 (Jk aL)),tf]
     have la:lr x.sign (aY (x.natAbs%y.natAbs))=bl (x.fmod y):=by
      refine oG ?_ λaL=>?_
      ·rw[vX]
       have G9:∀aR:Nat,(x=0->aR=0)->(x.sign*(aR:Int)).natAbs=aR:=by
        intro aR ay;rcases lY x with ⟨e,F⟩|⟨e,F⟩|⟨e,F⟩<;>rw[e]<;>first|omega|(rw[ay F];rfl)
       exact G9 _ λay=>by rw[ay];exact Nat.zero_mod _
      ·rw[vX,o9,Cp,hn (show (0:Int)<((x.natAbs%y.natAbs:Nat):Int) from Eh.2 (Jk aL)),tf]
     rcases Z4 with ⟨Ha,Z5⟩|Ha
     ·refine ai ?_;repeat' (intro (ao:_=_)<;>simp only[ao,go_sem,go_sem_proc,gu,uT,uU,m7,hI,X,bf,bG,bO,G7,hw,hdiv,Ha,Z5,oZ,th,jL,la,aI,al,cM,lZ,qC]<;>try refine ag ?_ ?_)
     ·refine ai ?_;repeat' (intro (ao:_=_)<;>simp only[ao,go_sem,go_sem_proc,gu,uT,uU,m7,hI,X,bf,bG,bO,G7,hw,hdiv,Ha,oZ,th,jL,la,aI,al,cM,lZ,qC]<;>try refine ag ?_ ?_)
  ·have bf:dr (s2,aw)=false:=by simpa using bf
   have hm:nI (s,l) (s2,aw)=((0,[]),(0,[]),1):=by unfold nI;rw[bf,iS];rfl
   rw[hm];refine ai ?_;repeat' (intro (ao:_=_)<;>simp only[ao,go_sem,go_sem_proc,gu,uT,uU,m7,hI,X,bf,bG,bO,cM,lZ,bY]<;>try refine ag ?_ ?_)
 ·have X:dr (s,l)=false:=by simpa using X
  have hm:nI (s,l) (s2,aw)=((0,[]),(0,[]),1):=by unfold nI;rw[X,e9];rfl
  rw[hm];refine ai ?_;repeat' (intro (ao:_=_)<;>simp only[ao,go_sem,go_sem_proc,gu,uT,uU,m7,hI,X,bG,bO,cM,lZ,bY]<;>try refine ag ?_ ?_)
def aj9:bJ:=b5 17 2 [.t 4] (Q [c0 2 120002 0,c0 3 120003 1,cx 4 false] (Q [aD 5 0 2,aS 6 2 5,aD 7 0 3,aS 8 2 7,bI 9 Sl 6 8,E 10 9,n4 11 10 2 2,uE 12 10 2 11,n4 13 10 2 3,uE 14 10 2 13,h0 15 10 (.call Sl [.t 12,.t 14]),gr 16 10 15,E 4 16] .ret))
def aka:bJ:=b5 13 2 [.cell 4 4 true,.t 5] (Q [bQ 4 124004 cG,a7 5 0] (Q [E 6 0,dv 7 Jm 6,E 8 1,dv 9 Jm 8,bI 10 Nr 7 9,a0 11 0 10,a0 12 1 10,aT 4 4 11,E 5 12] .ret))
def akb:bJ:=b5 38 2 [.t 4] (Q [c0 2 142002 0,c0 3 142003 1,cx 4 false] (.seq (Q [aD 6 0 2,aA 7 1 6,aD 8 0 3,aA 9 1 8,bp 10 .neq 7 9,E 11 10,ez 12 11 1 2,dG 13 11 1 12,pN 14 11 13,ez 15 11 1 3,dG 16 11 1 15,pN 17 11 16,rm 18 11 .neq 14 17,cv 19 11 18] (b4 19 [cx 4 false])) (.seq (Q [a7 5 0] (dY 0 (.seq (Q [E 20 5,aD 21 1 2,aA 22 1 21,cq 23 22,bp 24 .lss 20 23] (dq 24 0)) (.seq (.block 1 (ed [aD 27 1 2,aA 28 1 27,E 29 5,br 30 1 28 29,aA 31 1 30,aD 32 1 3,aA 33 1 32,E 34 5,br 35 1 33 34,aA 36 1 35,bp 37 .neq 31 36] Aa (b4 37 [cx 4 false]))) (.ops [E 25 5,a3 26 .add 25 1,E 5 26]))))) (Q [cx 4 true] .ret))))
def akc:bJ:=b5 57 2 [.cell 4 4 true,.t 5] (Q [c0 2 143002 0,c0 3 143003 1,bQ 4 143004 cG,a7 5 0] (.seq (Q [aS 14 2 2,dv 15 ml 14,fb 16 15,E 17 16,iR 18 17 2 3,e3 19 17 (.call ml [.t 18]),ha 20 17 19,cv 21 17 20] (b4 21 [aP 22 (.build cG []),aT 4 4 22,a7 5 1])) (.seq (Q [aD 23 0 3,aA 24 1 23,a3 25 .eql 24 0] (b4 25 [aP 26 (.build cG []),aT 4 4 26,a7 5 15])) (.seq (Q [aD 27 0 3,aA 28 1 27,a3 29 .lss 28 0] (e8 29 (Q [aS 30 2 2,dv 31 Jp 30,aT 2 2 31] (.ops [aS 32 2 3,dv 33 Jp 32,aT 2 3 33])) .skip)) (Q [aS 35 2 2,aS 36 2 3,bI 37 Nu 35 36,E 34 37,a0 38 0 34,a0 39 1 34,bQ 6 143006 dP,aT 2 6 38,E 7 39] (Q [aS 41 2 2,aS 42 2 6,bI 43 Gq 41 42,E 40 43,a0 44 0 40,a0 45 1 40,a0 46 2 40,bQ 8 143008 dP,bQ 9 143009 dP,aT 2 8 44,aT 2 9 45,E 10 46] (Q [aS 48 2 3,aS 49 2 6,bI 50 Gq 48 49,E 47 50,a0 51 0 47,a0 52 1 47,a0 53 2 47,bQ 11 143011 dP,bQ 12 143012 dP,aT 2 11 51,aT 2 12 52,E 13 53] (Q [aS 54 2 8,aS 55 2 11,aP 56 (.build cG [(0,2,.t 54),(2,2,.t 55)]),aT 4 4 56,a7 5 0] .ret))))))))
def akd:bJ:=b5 72 2 [.cell 4 4 true,.t 5] (Q [c0 2 195002 0,c0 3 195003 1,bQ 4 195004 cG,a7 5 0] (.seq (Q [aS 14 4 2,dv 15 qw 14,fb 16 15,E 17 16,iR 18 17 4 3,e3 19 17 (.call qw [.t 18]),ha 20 17 19,cv 21 17 20] (b4 21 [aP 22 (.build cG []),aT 4 4 22,a7 5 1])) (Q [aD 24 0 2,aS 25 2 24,aD 26 2 3,aS 27 2 26,bI 28 yC 25 27,E 23 28,a0 29 0 23,a0 30 1 23,bQ 6 195006 dP,aT 2 6 29,E 7 30] (Q [aD 32 0 3,aS 33 2 32,aD 34 2 2,aS 35 2 34,bI 36 yC 33 35,E 31 36,a0 37 0 31,a0 38 1 31,bQ 8 195008 dP,aT 2 8 37,E 9 38] (Q [aD 40 2 2,aS 41 2 40,aD 42 2 3,aS 43 2 42,bI 44 yC 41 43,E 39 44,a0 45 0 39,a0 46 1 39,bQ 10 195010 dP,aT 2 10 45,E 11 46] (Q [aS 48 2 6,aS 49 2 8,bI 50 YS 48 49,E 47 50,a0 51 0 47,a0 52 1 47,bQ 12 195012 dP,aT 2 12 51,E 13 52] (Q [aS 53 2 12,aS 54 2 10,E 55 7,a3 56 .neq 55 0,E 57 56,fr 58 57 9,fc 59 57 .neq 58 0,cv 60 57 59,E 61 60,fr 62 61 11,fc 63 61 .neq 62 0,cv 64 61 63,E 65 64,fr 66 65 13,fc 67 65 .neq 66 0,cv 68 65 67,uG 69 Gu 53 54 68,a0 70 0 69,a0 71 1 69,aT 4 4 70,E 5 71] .ret)))))))
def ake:bJ:=b5 33 1 [.t 2] (Q [c0 1 196001 0,cx 2 false] (.seq (Q [aD 5 0 1,aS 6 2 5,dv 7 ml 6,fb 8 7,E 9 8,ez 10 9 2 1,iR 11 9 2 10,e3 12 9 (.call ml [.t 11]),ha 13 9 12,cv 14 9 13,E 15 14,ez 16 15 2 1,ez 17 15 0 16,dG 18 15 1 17,fc 19 15 .lss 18 1,cv 20 15 19] (b4 20 [cx 2 false])) (Q [aD 22 0 1,aS 23 2 22,aD 24 2 1,aS 25 2 24,bI 26 Nu 23 25,E 21 26,a0 27 0 21,a0 28 1 21,bQ 3 196003 dP,aT 2 3 27,E 4 28] (ed [aS 29 2 3,aP 30 (.call Jm [.c (bM 1)]),bI 31 Nz 29 30,a3 32 .eql 31 0,E 2 32] agX .ret))))
def akf:bJ:=b5 46 2 [.cell 4 4 true,.t 5] (Q [c0 2 197002 0,c0 3 197003 1,bQ 4 197004 cG,a7 5 0] (.seq (Q [aS 10 4 2,dv 11 qw 10,fb 12 11,E 13 12,iR 14 13 4 3,e3 15 13 (.call qw [.t 14]),ha 16 13 15,cv 17 13 16] (b4 17 [aP 18 (.build cG []),aT 4 4 18,a7 5 1])) (Q [aD 20 0 2,aS 21 2 20,aD 22 0 3,aS 23 2 22,bI 24 yC 21 23,E 19 24,a0 25 0 19,a0 26 1 19,bQ 6 197006 dP,aT 2 6 25,E 7 26] (Q [aD 28 2 2,aS 29 2 28,aD 30 2 3,aS 31 2 30,bI 32 yC 29 31,E 27 32,a0 33 0 27,a0 34 1 27,bQ 8 197008 dP,aT 2 8 33,E 9 34] (Q [aS 35 2 6,aS 36 2 8,E 37 7,a3 38 .neq 37 0,E 39 38,fr 40 39 9,fc 41 39 .neq 40 0,cv 42 39 41,uG 43 Gu 35 36 42,a0 44 0 43,a0 45 1 43,aT 4 4 44,E 5 45] .ret)))))
def akg:bJ:=b5 15 3 [.cell 6 4 true,.t 7] (Q [c0 3 204003 0,c0 4 204004 1,bQ 6 204006 cG,a7 7 0] (.seq (Q [E 8 2] (b4 8 [aP 9 (.build cG []),aT 4 6 9,a7 7 6])) (Q [aS 10 2 3,aS 11 2 4,bI 12 Nr 10 11,a0 13 0 12,a0 14 1 12,aT 4 6 13,E 7 14] .ret)))
def akh:bJ:=b5 51 2 [.cell 4 4 true,.t 5] (Q [c0 2 207002 0,c0 3 207003 1,bQ 4 207004 cG,a7 5 0] (.seq (Q [aS 10 4 2,dv 11 qw 10,fb 12 11,E 13 12,iR 14 13 4 3,e3 15 13 (.call qw [.t 14]),ha 16 13 15,cv 17 13 16] (b4 17 [aP 18 (.build cG []),aT 4 4 18,a7 5 1])) (.seq (Q [aD 19 0 3,aD 20 0 19,aA 21 1 20,a3 22 .eql 21 0] (b4 22 [aP 23 (.build cG []),aT 4 4 23,a7 5 15])) (Q [aD 25 0 2,aS 26 2 25,aD 27 2 3,aS 28 2 27,bI 29 yC 26 28,E 24 29,a0 30 0 24,a0 31 1 24,bQ 6 207006 dP,aT 2 6 30,E 7 31] (Q [aD 33 2 2,aS 34 2 33,aD 35 0 3,aS 36 2 35,bI 37 yC 34 36,E 32 37,a0 38 0 32,a0 39 1 32,bQ 8 207008 dP,aT 2 8 38,E 9 39] (Q [aS 40 2 6,aS 41 2 8,E 42 7,a3 43 .neq 42 0,E 44 43,fr 45 44 9,fc 46 44 .neq 45 0,cv 47 44 46,uG 48 Gu 40 41 47,a0 49 0 48,a0 50 1 48,aT 4 4 49,E 5 50] .ret))))))
def aki:bJ:=b5 22 2 [.t 4] (Q [c0 2 270002 0,c0 3 270003 1,a7 4 0] (.seq (Q [aS 5 4 2,dv 6 qw 5,fb 7 6,E 8 7,iR 9 8 4 3,e3 10 8 (.call qw [.t 9]),ha 11 8 10,cv 12 8 11] (b4 12 [a7 4 0])) (Q [aD 13 0 2,aS 14 2 13,aD 15 2 2,aS 16 2 15,aD 17 0 3,aS 18 2 17,aD 19 2 3,aS 20 2 19,DX 21 Jw 14 16 18 20,E 4 21] .ret)))
def TI:bJ:=b5 54 4 [.t 8] (Q [c0 4 278004 0,c0 5 278005 1,c0 6 278006 2,c0 7 278007 3,a7 8 0] (Q [aS 17 2 4,aS 18 2 5,bI 19 Gq 17 18,E 16 19,a0 20 0 16,a0 21 1 16,a0 22 2 16,bQ 9 278009 dP,bQ 10 278010 dP,aT 2 9 20,aT 2 10 21,E 11 22] (Q [aS 24 2 6,aS 25 2 7,bI 26 Gq 24 25,E 23 26,a0 27 0 23,a0 28 1 23,a0 29 2 23,bQ 12 278012 dP,bQ 13 278013 dP,aT 2 12 27,aT 2 13 28,E 14 29] (Q [aS 30 2 9,aS 31 2 12,bI 32 Nz 30 31,E 15 32] (.seq (Q [E 33 15,a3 34 .neq 33 0] (b4 34 [E 35 15,E 8 35])) (.seq (Q [aD 36 0 10,aA 37 1 36,a3 38 .eql 37 0,E 39 38,ez 40 39 0 13,dG 41 39 1 40,fc 42 39 .eql 41 0,cv 43 39 42] (b4 43 [aD 44 0 10,aA 45 1 44,aD 46 0 13,aA 47 1 46,bp 48 .sub 45 47,E 8 48])) (Q [aS 49 2 7,aS 50 2 13,aS 51 2 5,aS 52 2 10,DX 53 Jw 49 50 51 52,E 8 53] .ret)))))))
def OW:=bV j6 λ(s,l,s2,aw)=>cu (D l<=1000000/\D aw<=1000000) (.same (dT (jw (s,l) (s2,aw))))
@[go_sem] def aPd (s l s2 aw):=cH OW rfl tq (s,l,s2,aw) rfl
def ay1 (T:ba)(gu:T ml=aK xC)(Ey:T Jp=aK OQ)(AA:T Nu=aK OU)(AB:T Gq=aK OV):WF T akc OW:=by
 refine cp λ(s,l,s2,aw)=>cT λJ=>⟨rfl,ck ?_⟩;simp only[akc,j6,cd];obtain⟨bG,bO⟩:=J
 by_cases X:dr (s,l)=true
 ·by_cases bf:dr (s2,aw)=true
  ·obtain⟨x,L,e⟩:=(iB _).1 X;obtain⟨y,aj,aC⟩:=(iB _).1 bf
   by_cases ay:y=0
   ·have hm:jw (s,l) (s2,aw)=(cW,15):=by
     unfold jw;rw[X,bf,aC,fl,Y (by rfl),Y ay]
    rw[hm]
    cases e
    cases aC;have R:(y.sign==0)=true:=by rw[ay];rfl
    refine ai ?_;repeat' (intro h<;>simp only[h,go_sem,go_sem_proc,gu,Ey,AA,AB,X,bf,bG,bO,R,dT,az,cW,bY]<;>try refine ag ?_ ?_)
   ·have main:∀p q:Int,p.natAbs<dF->q.natAbs<dF->0<q->∃g:Raw,n9 (bl p) (bl q)=(g,0)/\g.2.length<=1000000/\nI (bl p) g=(bl (mJ p q).num,bl (p.fmod ((hG p.natAbs q.natAbs:Nat):Int)),0)/\nI (bl q) g=(bl (mJ p q).den,bl (q.fmod ((hG p.natAbs q.natAbs:Nat):Int)),0):=by
     intro p q aE bq nE;have oa:=JZ aE bq;have He:((hG p.natAbs q.natAbs:Nat):Int).natAbs<dF:=by rw[m5];exact oa
     have yM:=aaf (p:=p) (q:=q) (by omega);obtain⟨F,G⟩:=aae (p:=p) nE;refine⟨bl ((hG p.natAbs q.natAbs:Nat):Int),?_,kB He,?_,?_⟩
     ·unfold n9;rw[lz aE,lz bq,fl,fl];rfl
     ·rw[Cn aE He (by omega),F]
     ·rw[Cn bq He (by omega),G]
    have qE:(y.sign==0)=false:=by simpa using ay
    rcases Int.lt_or_gt_of_ne ay with mI|jt
    ·have jL:decide (y.sign<0)=true:=by rw[nG mI];rfl
     obtain⟨⟨cU,dc⟩,bb,oa,lu,n8⟩:=main (-x) (-y) (by omega) (by omega) (by omega)
     have hm:jw (s,l) (s2,aw)=(av (mJ (-x) (-y)),0):=by
      rw[e,aC,Cs L aj ay,Rat.neg_divInt_neg]
     rw[hm];have qh:iV (s,l)=bl (-x):=by unfold iV;rw[Y X,e,fl]
     have wY:iV (s2,aw)=bl (-y):=by unfold iV;rw[Y bf,aC,fl]
     have En:s2=y.sign:=congrArg pR aC;have fp:(bl (-x)).2.length<=1000000:=kB (by omega);have fy:(bl (-y)).2.length<=1000000:=kB (by omega);clear e aC;unfold av;generalize bl (-x)=b2 at *;generalize bl (-y)=gM at *;obtain⟨fx,fe⟩:=b2;obtain⟨nD,o5⟩:=gM;rw[<-En] at qE jL;refine ai ?_;repeat' (intro h<;>simp only[h,go_sem,go_sem_proc,gu,Ey,AA,AB,X,bf,bG,bO,qE,jL,qh,wY,fp,fy,bb,oa,lu,n8,dT,az,fs,lZ,cM]<;>try refine ag ?_ ?_)
    ·have jL:decide (y.sign<0)=false:=by rw[hn jt];rfl
     obtain⟨⟨cU,dc⟩,bb,oa,lu,n8⟩:=main x y L aj jt
     have hm:jw (s,l) (s2,aw)=(av (mJ x y),0):=by
      rw[e,aC,Cs L aj ay]
     rw[hm];have En:s2=y.sign:=congrArg pR aC;rw[<-e] at bb lu;rw[<-aC] at bb n8;rw[<-En] at qE jL;unfold av;refine ai ?_;repeat' (intro h<;>simp only[h,go_sem,go_sem_proc,gu,Ey,AA,AB,X,bf,bG,bO,qE,jL,bb,oa,lu,n8,dT,az,fs,lZ,cM]<;>try refine ag ?_ ?_)
  ·have bf:dr (s2,aw)=false:=by simpa using bf
   have hm:jw (s,l) (s2,aw)=(cW,1):=by unfold jw;rw[bf,iS];rfl
   rw[hm];refine ai ?_;repeat' (intro h<;>simp only[h,go_sem,go_sem_proc,gu,Ey,AA,AB,X,bf,bG,bO,dT,az,cW,bY]<;>try refine ag ?_ ?_)
 ·have X:dr (s,l)=false:=by simpa using X
  have hm:jw (s,l) (s2,aw)=(cW,1):=by unfold jw;rw[X,e9];rfl
  rw[hm];refine ai ?_;repeat' (intro h<;>simp only[h,go_sem,go_sem_proc,gu,Ey,AA,AB,X,bG,bO,dT,az,cW,bY]<;>try refine ag ?_ ?_)
def Ez:=bV Ae λ(p,q)=>cu (eJ p/\eJ q) (.same (dT (jw (bl p) (bl q))))
@[go_sem] def ay2 (p q):=cH Ez rfl SI (p,q) rfl
def ay3 (T:ba)(Kk:T Jm=aK OR)(TJ:T Nr=aK OW):WF T aka Ez:=by
 refine cp λ(p,q)=>cT λJ=>⟨rfl,ck ?_⟩;simp only[aka,Ae,cd];obtain⟨F,G⟩:=J;have eN:(bl p).2.length<=1000000:=kB (uN F);have aw:(bl q).2.length<=1000000:=kB (uN G);generalize fF:bl p=P at *;generalize fM:bl q=aR at *;obtain⟨fx,fe⟩:=P;obtain⟨nD,o5⟩:=aR;refine ai ?_;repeat' (intro h<;>simp only[h,go_sem,go_sem_proc,Kk,TJ,F,G,fF,fM,eN,aw,cM,dT,az]<;>try refine ag ?_ ?_)
def TK:=bV j6 λ(s,l,s2,aw)=>cu (D l<=1000000/\D aw<=1000000) (.same (.bool (tx (s,l) (s2,aw))))
@[go_sem] def aPe (s l s2 aw):=cH TK rfl tq (s,l,s2,aw) rfl
def ay4 (T:ba):WF T akb TK:=by
 refine cp λ(s,l,s2,aw)=>cT λJ=>⟨rfl,ck ?_⟩;simp only[akb,j6,cd];obtain⟨bG,bO⟩:=J
 by_cases R:s=s2
 ·subst R
  by_cases aq:(D l)=D aw
  ·have au:(((D l:Nat):Int)==((D aw:Nat):Int))=true:=by simp;omega
   simp only[go_sem,go_sem_proc,beq_self_eq_true,al,au,b3,bne];refine dd [2,3] [142002,142003] (λ(i:Nat) tm mem=>i<=D l/\l.take i=aw.take i/\tm 5=.H (.int .i64 i)) (λi=>D l-i) 0 (by refine⟨by omega,by simp,rfl⟩) ?_;intro vs ms aQ aM;simp only[go_sem,go_sem_proc,al] at aQ aM;subst aQ aM;rintro i tm mem I hm ⟨O,aH,bu⟩;simp only[go_sem,go_sem_proc,bj] at I hm;obtain⟨G,ab⟩:=I;obtain⟨bU,iA⟩:=hm;rcases dn (i<D l) with ah|bW
   ·have L:l[i]?=some l[i]:=bh ah;have aj:aw[i]?=some aw[i]:=bh (by omega);have qh:l.take (i+1)=l.take i++[l[i]]:=by rw[hZ,L];rfl
    have wY:aw.take (i+1)=aw.take i++[aw[i]]:=by rw[hZ,aj];rfl
    generalize l[i]=x at *;generalize aw[i]=y at *;have d1:decide ((i:Int)<(D l:Int))=true:=cX;have bF:=eI (i:=i) (by omega)
    by_cases g0:x=y
    ·subst g0;refine ai ?_;repeat' (intro (ao:_=_)<;>simp only[ao,go_sem,go_sem_proc,G,ab,bu,bU,iA,L,aj,d1,bF,aI,al,bm,bj,beq_self_eq_true,b3]<;>try refine ag ?_ ?_)
     exact⟨i+1,by omega,by omega,by rw[qh,wY,aH],rfl⟩
    ·have b8:(x==y)=false:=by simpa using g0
     have X:tx (s,l) (s,aw)=false:=by
      refine kM λh=>g0 ?_;rw[fq] at h;rw[h.2,aj] at L;exact (nu L).symm
     rw[X];refine ai ?_;repeat' (intro (ao:_=_)<;>simp only[ao,go_sem,go_sem_proc,G,ab,bu,bU,iA,L,aj,d1,bF,b8,aI,al,bm,bj,cA]<;>try refine ag ?_ ?_)
   ·have d1:decide ((i:Int)<(D l:Int))=false:=b7
    have X:tx (s,l) (s,aw)=true:=by
     refine hN ?_;rw[dD (by omega),dD (by omega)] at aH;rw[aH]
    rw[X];refine ai ?_;repeat' (intro (ao:_=_)<;>simp only[ao,go_sem,go_sem_proc,G,ab,bu,bU,iA,d1,al]<;>try refine ag ?_ ?_)
  ·have au:(((D l:Nat):Int)==((D aw:Nat):Int))=false:=by simp;omega
   have X:tx (s,l) (s,aw)=false:=by
    refine kM λh=>aq ?_;rw[fq] at h;rw[h.2]
   rw[X];refine ai ?_;repeat' (intro (ao:_=_)<;>simp only[ao,go_sem,go_sem_proc,beq_self_eq_true,al,au,b3,cA,bne]<;>try refine ag ?_ ?_)
 ·have b8:(s==s2)=false:=by simpa using R
  have X:tx (s,l) (s2,aw)=false:=by
   refine kM λh=>R ?_;rw[fq] at h;exact h.1
  rw[X];refine ai ?_;repeat' (intro (ao:_=_)<;>simp only[ao,go_sem,go_sem_proc,b8,al,b3,cA,bne]<;>try refine ag ?_ ?_)
def TL (a b:bz):Bool:=decide (a=b)
def CG:=bV ob λ(s,l,s2,aw,c1,cb,de,cR)=>cu (D l<=1000000/\D aw<=1000000/\D cb<=1000000/\D cR<=1000000) (.same (.bool (TL ((s,l),(s2,aw)) ((c1,cb),(de,cR)))))
@[go_sem] def akj (s l s2 aw c1 cb de cR):=cH CG rfl As (s,l,s2,aw,c1,cb,de,cR) rfl
def ay5 (T:ba)(akk:T Sl=aK TK):WF T aj9 CG:=by
 refine cp λ(s,l,s2,aw,c1,cb,de,cR)=>cT λJ=>⟨rfl,ck ?_⟩;simp only[aj9,ob,cd];obtain⟨bG,bO,fp,fy⟩:=J
 have e:TL ((s,l),(s2,aw)) ((c1,cb),(de,cR))=(tx (s,l) (c1,cb)&&tx (s2,aw) (de,cR)):=by
  unfold TL tx;rw[od,fC,decide_eq_true_eq,decide_eq_true_eq,decide_eq_true_eq,fq]
 rw[e];rcases F:tx (s,l) (c1,cb)
 ·refine ai ?_;repeat' (intro h<;>simp only[h,go_sem,go_sem_proc,akk,bG,bO,fp,fy,F,e9]<;>try refine ag ?_ ?_)
 ·refine ai ?_;repeat' (intro h<;>simp only[h,go_sem,go_sem_proc,akk,bG,bO,fp,fy,F,fN]<;>try refine ag ?_ ?_)
def CH:=bV vY λ(s,l,s2,aw)=>cu (D l<=1000000/\D aw<=1000000) (.same (.bool (dM ((s,l),(s2,aw)))))
@[go_sem] def aPf (s l s2 aw):=cH CH rfl J2 (s,l,s2,aw) rfl
def ay6 (T:ba)(gu:T ml=aK xC)(AA:T Nu=aK OU)(Kk:T Jm=aK OR)(CI:T Nz=aK OT):WF T ake CH:=by
 refine cp λ(s,l,s2,aw)=>cT λJ=>⟨rfl,ck ?_⟩;simp only[ake,vY,cd];obtain⟨bG,bO⟩:=J
 by_cases X:dr (s,l)=true
 ·by_cases bf:dr (s2,aw)=true
  ·obtain⟨x,L,e⟩:=(iB _).1 X;obtain⟨y,aj,aC⟩:=(iB _).1 bf
   have bb:n9 (s,l) (s2,aw)=(bl ((hG x.natAbs y.natAbs:Nat):Int),0):=by
    unfold n9;rw[X,bf,e,aC,fl,fl];rfl
   have oa:=JZ L aj;have uj:hF (s,l)=x:=by rw[e,fl]
   have uk:hF (s2,aw)=y:=by rw[aC,fl]
   have jf:dM ((s,l),(s2,aw))=((s2==1)&&(hG x.natAbs y.natAbs==1)):=by
    show (dr (s,l)&&(dr (s2,aw)&&((s2==1)&&(hG (hF (s,l)).natAbs (hF (s2,aw)).natAbs==1))))=_;rw[X,bf,uj,uk];simp only[fN]
   have En:s2=y.sign:=congrArg pR aC;have aiE:=oI y;rw[jf];have g7:sm (bl ((hG x.natAbs y.natAbs:Nat):Int)) (bl 1)=g2 ((hG x.natAbs y.natAbs:Nat):Int) 1:=Om (by rw[m5];exact oa) (uN (by unfold eJ;omega))
   have bw:(g2 ((hG x.natAbs y.natAbs:Nat):Int) 1==0)=(hG x.natAbs y.natAbs==1):=by
    generalize hG x.natAbs y.natAbs=bs;rw[od,beq_iff_eq,beq_iff_eq];rcases uK (bs:Int) 1 with h|h|h
    ·rw[Cl h];omega
    ·rw[h,JY];omega
    ·rw[G6 h];omega
   have aad:((bl ((hG x.natAbs y.natAbs:Nat):Int)).2).length<=1000000:=kB (by rw[m5];exact oa);have nV:eJ 1:=by unfold eJ;omega
   have Oo:(bl 1).2.length<=1000000:=kB (uN nV);rcases R:decide (s2<1)
   ·have jL:(s2==1)=true:=by have:=of_decide_eq_false R;rw[beq_iff_eq];omega
    rw[jL,fN,<-bw];generalize g2 ((hG x.natAbs y.natAbs:Nat):Int) 1=C at *;generalize bl ((hG x.natAbs y.natAbs:Nat):Int)=bs at *;generalize fZ:bl 1=a4 at *;obtain⟨cU,dc⟩:=bs;obtain⟨qJ,qK⟩:=a4;refine ai ?_;repeat' (intro (ao:_=_)<;>simp only[ao,go_sem,go_sem_proc,gu,AA,Kk,CI,X,bf,bG,bO,R,bb,aad,nV,Oo,g7,fZ,fs,cM]<;>try refine ag ?_ ?_)
   ·have jL:(s2==1)=false:=by have:=of_decide_eq_true R;rw[beq_eq_false_iff_ne];omega
    rw[jL,e9];refine ai ?_;repeat' (intro (ao:_=_)<;>simp only[ao,go_sem,go_sem_proc,gu,AA,Kk,CI,X,bf,bG,bO,R]<;>try refine ag ?_ ?_)
  ·have bf:dr (s2,aw)=false:=by simpa using bf
   have jf:dM ((s,l),(s2,aw))=false:=by unfold dM;simp[bf]
   rw[jf];refine ai ?_;repeat' (intro (ao:_=_)<;>simp only[ao,go_sem,go_sem_proc,gu,AA,Kk,CI,X,bf,bG,bO]<;>try refine ag ?_ ?_)
 ·have X:dr (s,l)=false:=by simpa using X
  have jf:dM ((s,l),(s2,aw))=false:=by unfold dM;simp[X]
  rw[jf];refine ai ?_;repeat' (intro (ao:_=_)<;>simp only[ao,go_sem,go_sem_proc,gu,AA,Kk,CI,X,bG,bO]<;>try refine ag ?_ ?_)
def CJ (b:Bool)(p q:Raw):bz×Int:=if b=true then (cW,6) else jw p q
abbrev TM:Int×(List Int)×Int×(List Int)×Bool->List Data:=λ(s,l,s2,aw,b)=>[.agg [.int .i64 s,.ax (l.map aI)],.agg [.int .i64 s2,.ax (aw.map aI)],.bool b]
def Kl:=bV TM λ(s,l,s2,aw,b)=>cu (D l<=1000000/\D aw<=1000000) (.same (dT (CJ b (s,l) (s2,aw))))
def ay7:∀a b,TM a=TM b->a=b:=by
  rintro⟨s1,eN,Ec,Ed,cQ⟩ ⟨s2,aw,Ee,Ef,dN⟩ h;simp only[bj,Data.agg.injEq,Data.int.injEq,Data.ax.injEq,Data.bool.injEq] at h;exact et h.1.1.2 (et (map_inj gq _ _ h.1.2.1) (et h.2.1.1.2 (et (map_inj gq _ _ h.2.1.2.1) h.2.2.1)))
@[go_sem] def aPg (s l s2 aw b):=cH Kl rfl ay7 (s,l,s2,aw,b) rfl
def ay8 (T:ba)(TJ:T Nr=aK OW):WF T akg Kl:=by
 refine cp λ(s,l,s2,aw,b)=>cT λJ=>⟨rfl,ck ?_⟩;simp only[akg,TM,cd];obtain⟨bG,bO⟩:=J
 cases b
 ·refine ai ?_;repeat' (intro h<;>simp only[h,go_sem,go_sem_proc,TJ,bG,bO,CJ,dT,az]<;>try refine ag ?_ ?_)
 ·refine ai ?_;repeat' (intro h<;>simp only[h,go_sem,go_sem_proc,TJ,bG,bO,CJ,dT,az,cW,bY]<;>try refine ag ?_ ?_)
def OX (b2 gM aR gR:Raw×Int):bz×Int:=CJ (!((b2.2==0)&&((gM.2==0)&&((aR.2==0)&&(gR.2==0))))) gR.1 aR.1
def Km (P aR:Raw×Int):bz×Int:=CJ (!((P.2==0)&&(aR.2==0))) P.1 aR.1
def ay9 {a b:bz}(aZ:dM a=true)(ad:dM b=true):jx a b=Km (mulR a.1 b.1) (mulR a.2 b.2):=by
 unfold jx vZ Km CJ;rw[Y aZ,Y ad]
 cases F:((mulR a.1 b.1).2==0)<;>cases G:((mulR a.2 b.2).2==0)<;>rfl
def aza {a b:bz}(aZ:dM a=true)(ad:dM b=true):gn a b=if (b.1.1==0)=true then (cW,15) else Km (mulR a.1 b.2) (mulR a.2 b.1):=by
 unfold gn vZ Km CJ;rw[Y aZ,Y ad]
 cases F:((mulR a.1 b.2).2==0)<;>cases G:((mulR a.2 b.1).2==0)<;>rfl
def azb {a b:bz}(aZ:dM a=true)(ad:dM b=true):yT a b=OX (mulR a.1 b.2) (mulR b.1 a.2) (mulR a.2 b.2) (nH (mulR a.1 b.2).1 (mulR b.1 a.2).1):=by
 unfold yT vZ Ar OX CJ;rw[Y aZ,Y ad];rcases F:((mulR a.1 b.2).2==0)<;>rcases G:((mulR b.1 a.2).2==0)<;>rcases ab:((mulR a.2 b.2).2==0)<;>rcases aV:((nH (mulR a.1 b.2).1 (mulR b.1 a.2).1).2==0)<;>simp_all
def TN {z:Int}:((pP z).2==0)=h2 z:=by
 rcases h:h2 z
 ·rw[Cv h];rfl
 ·rw[xx h];rfl
def azc {a b:Int}(aZ:a.natAbs<dF)(ad:b.natAbs<dF):(mulR (iV (bl a)) (bl b))=pP (-(a*b)):=by
 rw[aaB aZ,vV (by rw[An];exact aZ) ad,Int.neg_mul]
def akl (z:Int):h2 (-z)=h2 z:=by unfold h2;rw[An]
def azd {a b:bz}(aZ:dM a=true)(ad:dM b=true):l0 a b=OX (mulR a.1 b.2) (mulR b.1 a.2) (mulR a.2 b.2) (Az (mulR a.1 b.2).1 (mulR b.1 a.2).1):=by
 obtain⟨x,L,rfl⟩:=(Cr _).1 aZ;obtain⟨y,aj,rfl⟩:=(Cr _).1 ad
 have aze:dM (iV (av y).1,(av y).2)=true:=by
  have:(iV (av y).1,(av y).2)=av (-y):=by
   unfold av;dsimp only;rw[aaB aj.1]
   rfl
  rw[this];exact yS (ai1 aj)
 unfold l0;rw[Y aZ,Y ad,azb aZ aze];unfold OX CJ;show (if (!(((mulR (bl x.num) (bl y.den)).2==0)&&(((mulR (iV (bl y.num)) (bl x.den)).2==0)&&(((mulR (bl x.den) (bl y.den)).2==0)&&((nH (mulR (bl x.num) (bl y.den)).1 (mulR (iV (bl y.num)) (bl x.den)).1).2==0)))))=true then (cW,6) else jw (nH (mulR (bl x.num) (bl y.den)).1 (mulR (iV (bl y.num)) (bl x.den)).1).1 (mulR (bl x.den) (bl y.den)).1)=(if (!(((mulR (bl x.num) (bl y.den)).2==0)&&(((mulR (bl y.num) (bl x.den)).2==0)&&(((mulR (bl x.den) (bl y.den)).2==0)&&((Az (mulR (bl x.num) (bl y.den)).1 (mulR (bl y.num) (bl x.den)).1).2==0)))))=true then (cW,6) else jw (Az (mulR (bl x.num) (bl y.den)).1 (mulR (bl y.num) (bl x.den)).1).1 (mulR (bl x.den) (bl y.den)).1);rw[vV L.1 (qD aj),azc aj.1 (qD L),vV aj.1 (qD L),vV (qD L) (qD aj),TN,TN,TN,TN,akl];rcases F:h2 (x.num*y.den)
 ·rfl
 ·rcases G:h2 (y.num*x.den)
  ·rfl
  ·rw[xx F,xx G,xx (by rw[akl];exact G)];dsimp only;rw[Ok (pc F) (by rw[An];exact pc G),ayX (pc F) (pc G)]
   rfl
def azf (a b:Raw):(Az a b).1.2.length<=1000000:=by
 unfold Az
 split
 ·exact aiX _ _
 ·simp
def CK:=bV ob λ(s,l,s2,aw,c1,cb,de,cR)=>cu (D l<=1000000/\D aw<=1000000/\D cb<=1000000/\D cR<=1000000) (.same (dT (l0 ((s,l),(s2,aw)) ((c1,cb),(de,cR)))))
@[go_sem] def azg (s l s2 aw c1 cb de cR):=cH CK rfl As (s,l,s2,aw,c1,cb,de,cR) rfl
def azh (T:ba)(gO:T qw=aK CH)(pd:T yC=aK Kj)(Hn:T YS=aK TH)(pe:T Gu=aK Kl):WF T akd CK:=by
 refine cp λ(s,l,s2,aw,c1,cb,de,cR)=>cT λJ=>⟨rfl,ck ?_⟩;simp only[akd,ob,cd];obtain⟨bG,bO,fp,fy⟩:=J
 by_cases X:dM ((s,l),(s2,aw))=true
 ·by_cases bf:dM ((c1,cb),(de,cR))=true
  ·rw[azd X bf];dsimp only;have dg:=uO (s,l) (de,cR);have bU:=uO (c1,cb) (s2,aw);have iA:=uO (s2,aw) (de,cR);generalize lX:mulR (s,l) (de,cR)=M1 at *;generalize fU:mulR (c1,cb) (s2,aw)=M2 at *;generalize OY:mulR (s2,aw) (de,cR)=M3 at *;obtain⟨⟨cz,cY⟩,au⟩:=M1;obtain⟨⟨cQ,dN⟩,aC⟩:=M2;obtain⟨⟨ar,c2⟩,bN⟩:=M3;dsimp only at *;have fE:=azf (cz,cY) (cQ,dN);generalize Ho:Az (cz,cY) (cQ,dN)=M4 at *;obtain⟨⟨d1,d2⟩,bK⟩:=M4;unfold OX;dsimp only at *;rcases F:(au==0)
   ·refine ai ?_;repeat' (intro h<;>simp only[h,go_sem,go_sem_proc,gO,pd,Hn,pe,bG,bO,fp,fy,X,bf,lX,fU,OY,Ho,dg,bU,iA,fE,F,fs,cM,dT,az,cA,b3,bne,e9]<;>try refine ag ?_ ?_)
   ·rcases G:(aC==0)
    ·refine ai ?_;repeat' (intro h<;>simp only[h,go_sem,go_sem_proc,gO,pd,Hn,pe,bG,bO,fp,fy,X,bf,lX,fU,OY,Ho,dg,bU,iA,fE,F,G,fs,cM,dT,az,cA,b3,bne,e9,fN]<;>try refine ag ?_ ?_)
    ·rcases ab:(bN==0)
     ·refine ai ?_;repeat' (intro h<;>simp only[h,go_sem,go_sem_proc,gO,pd,Hn,pe,bG,bO,fp,fy,X,bf,lX,fU,OY,Ho,dg,bU,iA,fE,F,G,ab,fs,cM,dT,az,cA,b3,bne,e9,fN]<;>try refine ag ?_ ?_)
     ·rcases aV:(bK==0)
      ·refine ai ?_;repeat' (intro h<;>simp only[h,go_sem,go_sem_proc,gO,pd,Hn,pe,bG,bO,fp,fy,X,bf,lX,fU,OY,Ho,dg,bU,iA,fE,F,G,ab,aV,fs,cM,dT,az,cA,b3,bne,e9,fN]<;>try refine ag ?_ ?_)
      ·refine ai ?_;repeat' (intro h<;>simp only[h,go_sem,go_sem_proc,gO,pd,Hn,pe,bG,bO,fp,fy,X,bf,lX,fU,OY,Ho,dg,bU,iA,fE,F,G,ab,aV,fs,cM,dT,az,cA,b3,bne,e9,fN]<;>try refine ag ?_ ?_)
  ·have bf:dM ((c1,cb),(de,cR))=false:=by simpa using bf
   unfold l0;rw[Y X,aa (by simp[bf])];refine ai ?_;repeat' (intro h<;>simp only[h,go_sem,go_sem_proc,gO,pd,Hn,pe,bG,bO,fp,fy,X,bf,dT,az,cW,bY]<;>try refine ag ?_ ?_)
 ·have X:dM ((s,l),(s2,aw))=false:=by simpa using X
  unfold l0;rw[aa (by simp[X])];refine ai ?_;repeat' (intro h<;>simp only[h,go_sem,go_sem_proc,gO,pd,Hn,pe,bG,bO,fp,fy,X,dT,az,cW,bY]<;>try refine ag ?_ ?_)
def EA:=bV ob λ(s,l,s2,aw,c1,cb,de,cR)=>cu (D l<=1000000/\D aw<=1000000/\D cb<=1000000/\D cR<=1000000) (.same (dT (jx ((s,l),(s2,aw)) ((c1,cb),(de,cR)))))
@[go_sem] def azi (s l s2 aw c1 cb de cR):=cH EA rfl As (s,l,s2,aw,c1,cb,de,cR) rfl
def azj (T:ba)(gO:T qw=aK CH)(pd:T yC=aK Kj)(pe:T Gu=aK Kl):WF T akf EA:=by
 refine cp λ(s,l,s2,aw,c1,cb,de,cR)=>cT λJ=>⟨rfl,ck ?_⟩;simp only[akf,ob,cd];obtain⟨bG,bO,fp,fy⟩:=J
 by_cases X:dM ((s,l),(s2,aw))=true
 ·by_cases bf:dM ((c1,cb),(de,cR))=true
  ·rw[ay9 X bf];dsimp only;have dg:=uO (s,l) (c1,cb);have bU:=uO (s2,aw) (de,cR);generalize lX:mulR (s,l) (c1,cb)=M1 at *;generalize fU:mulR (s2,aw) (de,cR)=M2 at *;obtain⟨⟨cz,cY⟩,au⟩:=M1;obtain⟨⟨cQ,dN⟩,aC⟩:=M2;unfold Km;dsimp only at *;rcases F:(au==0)
   ·refine ai ?_;repeat' (intro h<;>simp only[h,go_sem,go_sem_proc,gO,pd,pe,bG,bO,fp,fy,X,bf,lX,fU,dg,bU,F,fs,cM,dT,az,cA,b3,bne,e9]<;>try refine ag ?_ ?_)
   ·rcases G:(aC==0)
    ·refine ai ?_;repeat' (intro h<;>simp only[h,go_sem,go_sem_proc,gO,pd,pe,bG,bO,fp,fy,X,bf,lX,fU,dg,bU,F,G,fs,cM,dT,az,cA,b3,bne,e9,fN]<;>try refine ag ?_ ?_)
    ·refine ai ?_;repeat' (intro h<;>simp only[h,go_sem,go_sem_proc,gO,pd,pe,bG,bO,fp,fy,X,bf,lX,fU,dg,bU,F,G,fs,cM,dT,az,cA,b3,bne,e9,fN]<;>try refine ag ?_ ?_)
  ·have bf:dM ((c1,cb),(de,cR))=false:=by simpa using bf
   unfold jx;rw[Y X,aa (by simp[bf])];refine ai ?_;repeat' (intro h<;>simp only[h,go_sem,go_sem_proc,gO,pd,pe,bG,bO,fp,fy,X,bf,dT,az,cW,bY]<;>try refine ag ?_ ?_)
 ·have X:dM ((s,l),(s2,aw))=false:=by simpa using X
  unfold jx;rw[aa (by simp[X])];refine ai ?_;repeat' (intro h<;>simp only[h,go_sem,go_sem_proc,gO,pd,pe,bG,bO,fp,fy,X,dT,az,cW,bY]<;>try refine ag ?_ ?_)
def Kn:=bV ob λ(s,l,s2,aw,c1,cb,de,cR)=>cu (D l<=1000000/\D aw<=1000000/\D cb<=1000000/\D cR<=1000000) (.same (dT (gn ((s,l),(s2,aw)) ((c1,cb),(de,cR)))))
@[go_sem] def azk (s l s2 aw c1 cb de cR):=cH Kn rfl As (s,l,s2,aw,c1,cb,de,cR) rfl
def azl (T:ba)(gO:T qw=aK CH)(pd:T yC=aK Kj)(pe:T Gu=aK Kl):WF T akh Kn:=by
 refine cp λ(s,l,s2,aw,c1,cb,de,cR)=>cT λJ=>⟨rfl,ck ?_⟩;simp only[akh,ob,cd];obtain⟨bG,bO,fp,fy⟩:=J
 by_cases X:dM ((s,l),(s2,aw))=true
 ·by_cases bf:dM ((c1,cb),(de,cR))=true
  ·rw[aza X bf];dsimp only;rcases ay:(c1==0)
   ·rw[aa (by simp)];have dg:=uO (s,l) (de,cR);have bU:=uO (s2,aw) (c1,cb);generalize lX:mulR (s,l) (de,cR)=M1 at *;generalize fU:mulR (s2,aw) (c1,cb)=M2 at *;obtain⟨⟨cz,cY⟩,au⟩:=M1;obtain⟨⟨cQ,dN⟩,aC⟩:=M2;unfold Km;dsimp only at *;rcases F:(au==0)
    ·refine ai ?_;repeat' (intro h<;>simp only[h,go_sem,go_sem_proc,gO,pd,pe,bG,bO,fp,fy,X,bf,ay,lX,fU,dg,bU,F,fs,cM,dT,az,cA,b3,bne,e9]<;>try refine ag ?_ ?_)
    ·rcases G:(aC==0)
     ·refine ai ?_;repeat' (intro h<;>simp only[h,go_sem,go_sem_proc,gO,pd,pe,bG,bO,fp,fy,X,bf,ay,lX,fU,dg,bU,F,G,fs,cM,dT,az,cA,b3,bne,e9,fN]<;>try refine ag ?_ ?_)
     ·refine ai ?_;repeat' (intro h<;>simp only[h,go_sem,go_sem_proc,gO,pd,pe,bG,bO,fp,fy,X,bf,ay,lX,fU,dg,bU,F,G,fs,cM,dT,az,cA,b3,bne,e9,fN]<;>try refine ag ?_ ?_)
   ·rw[Y rfl];refine ai ?_;repeat' (intro h<;>simp only[h,go_sem,go_sem_proc,gO,pd,pe,bG,bO,fp,fy,X,bf,ay,dT,az,cW,bY]<;>try refine ag ?_ ?_)
  ·have bf:dM ((c1,cb),(de,cR))=false:=by simpa using bf
   unfold gn;rw[Y X,aa (by simp[bf])];refine ai ?_;repeat' (intro h<;>simp only[h,go_sem,go_sem_proc,gO,pd,pe,bG,bO,fp,fy,X,bf,dT,az,cW,bY]<;>try refine ag ?_ ?_)
 ·have X:dM ((s,l),(s2,aw))=false:=by simpa using X
  unfold gn;rw[aa (by simp[X])];refine ai ?_;repeat' (intro h<;>simp only[h,go_sem,go_sem_proc,gO,pd,pe,bG,bO,fp,fy,X,dT,az,cW,bY]<;>try refine ag ?_ ?_)
def akm:bJ:=b5 7 1 [.t 2] (Q [c0 1 113001 0,cx 2 false] (Q [aD 3 0 1,aD 4 0 3,aA 5 1 4,a3 6 .eql 5 0,E 2 6] .ret))
def akn:bJ:=b5 41 2 [.t 4,.t 5] (Q [dO 4,a7 5 0] (.seq (Q [E 11 0,E 12 1,bI 13 YO 11 12,fb 14 13] (b4 14 [dO 4,a7 5 1])) (Q [E 16 0,E 17 1,aP 18 (.call YP [.t 16,.t 17,.c (.H (.bool true))]),E 15 18,a0 19 0 15,a0 20 1 15,a0 21 2 15,E 6 19,E 7 20,E 8 21] (.seq (Q [E 22 8,fb 23 22] (b4 23 [dO 4,a7 5 6])) (.seq (Q [E 24 7,cq 25 24,a3 26 .gtr 25 0] (b4 26 [dO 4,a7 5 17])) (Q [dO 9] (.seq (Q [a7 10 0] (.block 0 (.ghost (.nq 9 189039 4) (.loop  (.seq (Q [E 27 10,E 28 1,bp 29 .lss 27 28] (dq 29 0)) (.seq (.block 1 (.ops [E 32 9,E 33 6,E 34 10,br 35 5 33 34,aD 36 1 35,aS 37 4 36,aP 38 (.eW 189038 false cG 4 1 [(0,4,.t 37)]),aP 39 (.app 189039 cG 64 (.t 32) (.t 38)),E 9 39])) (.ops [E 30 10,a3 31 .add 30 1,E 10 31]))))))) (Q [E 40 9,E 4 40,a7 5 0] .ret))))))))
def ako:bJ:=b5 56 2 [.t 4] (Q [cx 4 false] (.seq (Q [E 7 1,a3 8 .lss 7 0,E 9 8,fr 10 9 1,fc 11 9 .gtr 10 40,cv 12 9 11,E 13 12,fr 14 13 0,pN 15 13 14,fr 16 13 1,rm 17 13 .neq 15 16,cv 18 13 17] (b4 18 [cx 4 false])) (.seq (Q [a7 5 0] (dY 0 (.seq (Q [E 19 5,E 20 1,bp 21 .lss 19 20] (dq 21 0)) (.seq (.block 1 (.seq (Q [E 24 0,E 25 5,br 26 5 24 25,aD 27 0 26,aA 28 1 27,cq 29 28,E 30 1,bp 31 .neq 29 30,E 32 31,fr 33 32 0,fr 34 32 5,B5 35 32 5 33 34,ez 36 32 1 35,iR 37 32 4 36,e3 38 32 (.call qw [.t 37]),ha 39 32 38,cv 40 32 39] (b4 40 [cx 4 false])) (Q [a7 6 0] (dY 2 (.seq (Q [E 41 6,E 42 1,bp 43 .lss 41 42] (dq 43 2)) (.seq (.block 3 (Q [E 46 0,E 47 5,br 48 5 46 47,aD 49 0 48,aA 50 1 49,E 51 6,br 52 4 50 51,aS 53 4 52,dv 54 qw 53,fb 55 54] (b4 55 [cx 4 false]))) (.ops [E 44 6,a3 45 .add 44 1,E 6 45]))))))) (.ops [E 22 5,a3 23 .add 22 1,E 5 23]))))) (Q [cx 4 true] .ret))))
def Ko:bJ:=b5 132 3 [.t 6,.t 7,.t 8] (Q [dO 6,dO 7,cx 8 false] (Q [E 20 0,aP 21 (.nT 194021 5 YQ [.t 20]),E 9 21] (Q [dO 10] (Q [a7 11 0] (.seq (Q [a7 12 0] (.block 0 (.ghost (.nq 10 194050 1) (.loop  (.seq (Q [E 22 12,E 23 1,bp 24 .lss 22 23] (dq 24 0)) (.seq (.block 1 (.seq (.ghost (.move) (.ops [E 27 11,E 13 27])) (.seq (dY 2 (.seq (Q [E 28 13,E 29 1,bp 30 .lss 28 29,E 31 30,eg 32 31 9,eg 33 31 13,rn 34 31 5 32 33,n4 35 31 0 34,j4 36 31 1 35,eg 37 31 12,rn 38 31 4 36 37,uE 39 31 4 38,h0 40 31 (.call Jl [.t 39]),gr 41 31 40] (dq 41 2)) (.block 3 (.ops [E 42 13,a3 43 .add 42 1,E 13 43])))) (.seq (.seq (.ghost (.move) (.ops [E 44 13,E 45 1,bp 46 .eql 44 45])) (e8 46 (Q [E 47 10,E 48 12,aP 49 (.eW 194049 false [bM 0] 1 1 [(0,1,.t 48)]),aP 50 (.app 194050 [bM 0] 8 (.t 47) (.t 49)),E 10 50] (.seq (Q [E 51 2] (b4 51 [E 52 9,E 53 10,E 6 52,E 7 53,cx 8 true])) (.exit 1))) .skip)) (.seq (.ghost (.move) (.ops [E 54 9,E 55 11,br 56 5 54 55,aS 57 5 56,bQ 14 194014 oC,aT 5 14 57])) (Q [E 58 9,E 59 11,E 60 9,E 61 13,br 62 5 60 61,aS 63 5 62,br 64 5 58 59,aT 5 64 63] (Q [E 65 9,E 66 13,aS 67 5 14,br 68 5 65 66,aT 5 68 67] (Q [E 70 9,E 71 11,br 72 5 70 71,aS 73 5 72,E 74 1,E 75 12,uG 76 YR 73 74 75,E 69 76,a0 77 0 69,a0 78 1 69,bQ 15 194015 oC,aT 5 15 77,E 16 78] (.seq (.seq (.ghost (.move) (.ops [E 79 16,fb 80 79])) (b4 80 [E 81 9,E 82 10,E 6 81,E 7 82,cx 8 false])) (Q [E 83 9,E 84 11,aS 85 5 15,br 86 5 83 84,aT 5 86 85] (.seq (Q [a7 17 0] (dY 4 (.seq (Q [E 87 17,E 88 1,bp 89 .lss 87 88] (dq 89 4)) (.seq (.block 5 (.seq (Q [E 92 17,E 93 11,bp 94 .eql 92 93,E 95 94,fr 96 95 9,fr 97 95 17,B5 98 95 5 96 97,ez 99 95 0 98,dG 100 95 1 99,fr 101 95 12,B5 102 95 4 100 101,iR 103 95 4 102,e3 104 95 (.call Jl [.t 103]),cv 105 95 104] (e8 105 (.exit 5) .skip)) (ed [E 107 9,E 108 17,br 109 5 107 108,aS 110 5 109,E 111 9,E 112 11,br 113 5 111 112,aS 114 5 113,E 115 1,E 116 12,DX 117 Sq 110 114 115 116,E 106 117,a0 118 0 106,a0 119 1 106,bQ 18 194018 oC,aT 5 18 118,E 19 119] [[],[],[],[],[],[],[],[],[],[],[],[],[],[],[3,7],[],[]] (.seq (Q [E 120 19,fb 121 120] (b4 121 [E 122 9,E 123 10,E 6 122,E 7 123,cx 8 false])) (.ops [E 124 9,E 125 17,aS 126 5 18,br 127 5 124 125,aT 5 127 126]))))) (.ops [E 90 17,a3 91 .add 90 1,E 17 91]))))) (.ops [E 128 11,a3 129 .add 128 1,E 11 129])))))))))))) (.ops [E 25 12,a3 26 .add 25 1,E 12 26]))))))) (Q [E 130 9,E 131 10,E 6 130,E 7 131,cx 8 true] .ret))))))
def akp:bJ:=b5 28 1 [.t 2] (Q [dO 2] (Q [dO 3] (.seq (Q [a7 4 0] (.block 0 (.ghost (.nq 3 199026 5) (.loop  (.seq (Q [E 5 4,E 6 0,cq 7 6,bp 8 .lss 5 7] (dq 8 0)) (.seq (.block 1 (.l9 [E 11 3,aP 12 (.eW 199012 true [] 4 0 []),E 13 0,E 14 4,br 15 5 13 14,aD 16 0 15,aA 17 1 16,aP 18 (.app 199018 cG 64 (.t 12) (.t 17)),E 19 0,E 20 4,br 21 5 19 20,aD 22 1 21,aS 23 4 22,aP 24 (.build oC [(0,1,.t 18),(1,4,.t 23)]),aP 25 (.eW 199025 true oC 5 1 [(0,5,.t 24)]),aP 26 (.app 199026 oC 88 (.t 11) (.t 25)),E 3 26] [[],[],[],[],[],[],[1],[],[],[],[],[],[1,7],[],[],[],[]])) (.ghost (.move) (.ops [E 9 4,a3 10 .add 9 1,E 4 10])))))))) (Q [E 27 3,E 2 27] .ret))))
def akq:bJ:=b5 60 3 [.cell 6 5 true,.t 7] (Q [c0 3 200003 0,bQ 6 200006 oC,cx 7 false] (Q [aD 15 0 3,aA 16 1 15,E 17 2,br 18 4 16 17,aS 19 4 18,bQ 8 200008 cG,aT 4 8 19] (Q [aP 20 (.eW 200020 true [] 4 0 []),aD 21 0 3,aA 22 1 21,aP 23 (.app 200023 cG 64 (.t 20) (.t 22)),aP 24 (.build oC [(0,1,.t 23)]),bQ 9 200009 oC,aT 5 9 24] (.seq (Q [a7 10 0] (dY 0 (.seq (Q [E 25 10,E 26 1,bp 27 .lss 25 26] (dq 27 0)) (.seq (.block 1 (ed [aD 31 0 3,aA 32 1 31,E 33 10,br 34 4 32 33,aS 35 4 34,aS 36 4 8,bI 37 Js 35 36,E 30 37,a0 38 0 30,a0 39 1 30,bQ 11 200011 cG,aT 4 11 38,E 12 39] [[],[],[],[],[],[],[],[],[],[],[1,4,5],[],[]] (.seq (Q [E 40 12,a3 41 .neq 40 0] (b4 41 [aS 42 5 9,aT 5 6 42,cx 7 false])) (.ops [aD 43 0 9,aA 44 1 43,E 45 10,aS 46 4 11,br 47 4 44 45,aT 4 47 46])))) (.ops [E 28 10,a3 29 .add 28 1,E 10 29]))))) (Q [aD 49 1 3,aS 50 4 49,aS 51 4 8,bI 52 Js 50 51,E 48 52,a0 53 0 48,a0 54 1 48,bQ 13 200013 cG,aT 4 13 53,E 14 54] (Q [aS 55 4 13,aD 56 1 9,aT 4 56 55] (Q [aS 57 5 9,E 58 14,a3 59 .eql 58 0,aT 5 6 57,E 7 59] .ret)))))))
def akr:bJ:=b5 69 4 [.cell 8 5 true,.t 9] (Q [c0 4 201004 0,c0 5 201005 1,bQ 8 201008 oC,cx 9 false] (Q [aD 17 0 4,aA 18 1 17,E 19 3,br 20 4 18 19,aS 21 4 20,bQ 10 201010 cG,aT 4 10 21] (Q [aP 22 (.eW 201022 true [] 4 0 []),aD 23 0 4,aA 24 1 23,aP 25 (.app 201025 cG 64 (.t 22) (.t 24)),aP 26 (.build oC [(0,1,.t 25)]),bQ 11 201011 oC,aT 5 11 26] (.seq (Q [a7 12 0] (dY 0 (.seq (Q [E 27 12,E 28 2,bp 29 .lss 27 28] (dq 29 0)) (.seq (.block 1 (ed [aD 33 0 4,aA 34 1 33,E 35 12,br 36 4 34 35,aS 37 4 36,aS 38 4 10,aD 39 0 5,aA 40 1 39,E 41 12,br 42 4 40 41,aS 43 4 42,uG 44 Sr 37 38 43,E 32 44,a0 45 0 32,a0 46 1 32,bQ 13 201013 cG,aT 4 13 45,E 14 46] [[],[],[],[],[],[],[],[],[],[],[],[],[],[],[],[1,4,5,7,10],[],[]] (.seq (Q [E 47 14,a3 48 .neq 47 0] (b4 48 [aS 49 5 11,aT 5 8 49,cx 9 false])) (.ops [aD 50 0 11,aA 51 1 50,E 52 12,aS 53 4 13,br 54 4 51 52,aT 4 54 53])))) (.ops [E 30 12,a3 31 .add 30 1,E 12 31]))))) (Q [aD 56 1 4,aS 57 4 56,aS 58 4 10,aD 59 1 5,aS 60 4 59,uG 61 Sr 57 58 60,E 55 61,a0 62 0 55,a0 63 1 55,bQ 15 201015 cG,aT 4 15 62,E 16 63] (Q [aS 64 4 15,aD 65 1 11,aT 4 65 64] (Q [aS 66 5 11,E 67 16,a3 68 .eql 67 0,aT 5 8 66,E 9 68] .ret)))))))
def aks:bJ:=b5 30 3 [.cell 6 4 true,.t 7] (Q [c0 3 208003 0,c0 4 208004 1,c0 5 208005 2,bQ 6 208006 cG,a7 7 0] (Q [aS 13 4 4,aS 14 4 5,bI 15 DT 13 14,E 12 15,a0 16 0 12,a0 17 1 12,bQ 8 208008 cG,aT 4 8 16,E 9 17] (.seq (Q [E 18 9,a3 19 .neq 18 0] (b4 19 [aP 20 (.build cG []),E 21 9,aT 4 6 20,E 7 21])) (Q [aS 23 4 3,aS 24 4 8,bI 25 yB 23 24,E 22 25,a0 26 0 22,a0 27 1 22,bQ 10 208010 cG,aT 4 10 26,E 11 27] (Q [aS 28 4 10,E 29 11,aT 4 6 28,E 7 29] .ret)))))
def Kp:=bV vY λ(s,l,s2,aw)=>some (.same (.bool (s==0)))
@[go_sem] def aPh (s l s2 aw):=pK Kp rfl J2 (s,l,s2,aw) rfl
def azm (T:ba):WF T akm Kp:=by
 refine cp λ(s,l,s2,aw)=>⟨rfl,ck ?_⟩;simp only[akm,vY,cd];refine ai ?_;repeat' (intro h<;>simp only[h,go_sem,go_sem_proc,al]<;>try refine ag ?_ ?_)
def akt {α:Type}{p:α->Bool}{l:List α}{i:Nat}{x:α}(L:l[i]?=some x):(l.take (i+1)).all p=((l.take i).all p&&p x):=by
 rw[hZ,L,List.all_append];simp
def aku {α:Type}{p:α->Bool}{l:List α}{i:Nat}{x:α}(L:l[i]?=some x)(h:p x=false):l.all p=false:=by
 rw[List.all_eq_false];exact⟨x,dy L,by simp[h]⟩
end Go.Mini
namespace Go.Mini
open Go
variable {P:Program} {A:Nat->Prop} {w aX:World} {B bD:fu} {mem mem':Mem}
structure l1 (P:Program) (f:FuncId) (eZ:List M->Mem->Option hA):Prop where
 real:Real P f
 run:∀args mem rb,eZ args mem=some rb->∀A w B vs,fQ A w B mem->dL w (ct A B) B args vs->XM P f vs A w B mem rb
def oJ (res:List py)(bC:M->Mem->Prop):eK->bc->Prop
 |.exit _,_=>False
 |.normal,st=>∃m,pz st res=some m/\bC m st.mem
 |.ret,st=>∃m,pz st res=some m/\bC m st.mem
@[go_sem] def aPi {res:List py}{st:bc}(bC:M->Mem->Prop)(id:Nat):oJ res bC (.exit id) st=False:=bE
@[go_sem] def aPj {res:List py}{st:bc}(bC:M->Mem->Prop):oJ res bC .normal st=∃m,pz st res=some m/\bC m st.mem:=bE
@[go_sem] def aPk {res:List py}{st:bc}(bC:M->Mem->Prop):oJ res bC .ret st=∃m,pz st res=some m/\bC m st.mem:=bE
def aaC {mf:bJ}{bC:M->Mem->Prop}{e:eK}{st:bc}(h:oJ mf.res bC e st):X5 mf bC e st:=by
 cases e with
 |exit id=>exact h
 |normal=>exact h
 |ret=>exact h
def aaD {kb : Nat}{own : List Nat}{f : FuncId}{fn : Func}{mf : bJ}(aH : P.funcs[f]? = some fn)(vI : (fn.name == "runtime.NumGoroutine") = false)(a8 : r2 P kb own fn = some mf): Real P f := by
 cases ad:fn.body with
 |none=>simp[r2,ad] at a8
 |some c=>exact⟨fn,c,aH,ad,vI⟩
def tz (aR:List M->Mem->Option (M->Mem->Prop))(args:List M)(mem:Mem):Option hA:=(aR args mem).map .rel
@[go_sem] def aPl (aR:List M->Mem->Option (M->Mem->Prop))(args:List M)(mem:Mem):tz aR args mem=(aR args mem).map .rel:=bE
def TO {T : ba}{kb : Nat}{own : List Nat}(di : r6 P T)(hm : P.follows .mixedOrders = true){f : FuncId}{fn : Func}{mf : bJ}(aH : P.funcs[f]? = some fn)(vI : (fn.name == "runtime.NumGoroutine") = false)(a8 : r2 P kb own fn = some { mf with body := erase mf.body })
  {aR:List M->Mem->Option (M->Mem->Prop)} (h:∀args mem bC,aR args mem=some bC->(D args)<=mf.n/\wp T mf.body (oJ mf.res bC) ⟨kq args,mem⟩):l1 P f (tz aR):=by
 refine⟨aaD aH vI a8,λargs mem rb gx A w B vs cf aN=>?_⟩;unfold tz at gx;rw[eL] at gx;obtain⟨bC,jf,rfl⟩:=gx;obtain⟨hlen,BO⟩:=h args mem bC jf;refine Calls.mono (Nb (Post:=bC) di hm aH a8 hlen (λe st I=>aaC I) BO cf aN) λe aX he=>?_;obtain⟨v,m,mem',bD,rfl,R,pB,aE⟩:=he;exact⟨v,m,mem',bD,rfl,R,pB,aE⟩
inductive uV (dA:Key->Prop):M->Prop
 |H {d:Data}:uV dA (.H d)
 |nil:uV dA .nil
 |ref {k g sz off len:Nat} (h:¬ dA k):uV dA (.ref k g sz off len)
 |ptr {k g off:Nat} (h:¬ dA k):uV dA (.ptr k g off)
 |gH {f:FuncId} {fh:List M} (h:∀(i:Nat) (m:M),fh[i]?=some m->uV dA m):uV dA (.gH f fh)
 |agg {cs:List M} (h:∀(i:Nat) (m:M),cs[i]?=some m->uV dA m):uV dA (.agg cs)
 |dj {cs:List M} (h:∀(i:Nat) (m:M),cs[i]?=some m->uV dA m):uV dA (.dj cs)
 |no:uV dA .no
 |undef:uV dA .undef
def clean_of {dA:Key->Prop}{a4:Nat->Prop}(AD:∀k,dA k->B k=none){m:M}{v:Value}(h:bB w a4 B m v):uV dA m:=by
 induction h with
 |H h=>exact .H
 |nil=>exact .nil
 |ref he bb aN=>exact .ref λae=>by rw[AD _ ae] at he;cases he
 |ptr he bb aN=>exact .ptr λae=>by rw[AD _ ae] at he;cases he
 |gH aq Z aG=>exact .gH λi m O=>aG i m _ O (bh (by have ah:=(dV.1 O).1;omega))
 |agg aq Z aG=>exact .agg λi m O=>aG i m _ O (bh (by have ah:=(dV.1 O).1;omega))
 |dj aq Z aG=>exact .dj λi m O=>aG i m _ O (bh (by have ah:=(dV.1 O).1;omega))
 |no=>exact .no
 |undef=>exact .undef
open Classical in
def wb (dA:Key->Prop)(B:fu):fu:=λk=>if dA k then none else B k
def Kq {dA:Key->Prop}{b:Nat}(h:tZ (wb dA B) b):tZ B b:=by
 obtain⟨k,e,he,ad⟩:=h;unfold wb at he
 split at he
 ·cases he
 ·exact⟨k,e,he,ad⟩
def azn {dA:Key->Prop}{m:M}{v:Value}(h:bB w (ct A B) B m v)(J:uV dA m):bB w (ct A (wb dA B)) (wb dA B) m v:=by
 have at_:∀{k:Key} {e:nm},¬ dA k->B k=some e->wb dA B k=some e:=λI he=>by unfold wb;rw[aa I];exact he
 induction h with
 |H h=>exact .H (h.less λb ad=>ad.imp Kq id)
 |nil=>exact .nil
 |ref he bb aN=>cases J with|ref I=>exact .ref (at_ I he) bb aN
 |ptr he bb aN=>cases J with|ptr I=>exact .ptr (at_ I he) bb aN
 |gH aq Z aG=>cases J with|gH J=>exact .gH aq λi d v O aN=>aG i d v O aN (J i d O)
 |agg aq Z aG=>cases J with|agg J=>exact .agg aq λi d v O aN=>aG i d v O aN (J i d O)
 |dj aq Z aG=>cases J with|dj J=>exact .dj aq λi d v O aN=>aG i d v O aN (J i d O)
 |no=>exact .no
 |undef=>exact .undef
def e6.drop {dA:Key->Prop}{TP:Mem}(ay:fQ A w B mem)(AD:∀k,dA k->mem k=none)(h:e6 A w B aX bD mem')(F:∀k,dA k->TP k=none)(G:∀k,¬ dA k->TP k=mem' k)
  (J:∀k g cs,TP k=some (g,cs)->∀m∈cs,(∃d,m=.H d)\/∃eU vA vB,mem eU=some (vA,vB)/\m∈vB):e6 A w B aX (wb dA bD) TP:=by
 have ga:∀k,dA k->B k=none:=λk I=>ay.Dp k (AD k I);have at_:∀{k:Key},¬ dA k->wb dA bD k=bD k:=λI=>by unfold wb;rw[aa I]
 have aaE:∀{k:Key},dA k->wb dA bD k=none:=λI=>by unfold wb;rw[Y I]
 refine⟨⟨λk I=>?_,λk k' e e' b he g4 ad nr=>?_,λb aZ bw=>h.eH.sep b aZ (Kq bw),h.eH.lt,λk g cs I=>?_⟩,⟨h.nU.size,λb ad bw=>?_,λk e he=>?_⟩,h.aF,λb ad=>h.fresh b (Kq ad)⟩
 ·by_cases ae:dA k
  ·exact aaE ae
  ·rw[at_ ae];exact h.eH.Dp k (by rw[<-G k ae];exact I)
 ·by_cases ae:dA k
  ·rw[aaE ae] at he;cases he
  ·by_cases q5:dA k'
   ·rw[aaE q5] at g4;cases g4
   ·rw[at_ ae] at he;rw[at_ q5] at g4;exact h.eH.inj k k' e e' b he g4 ad nr
 ·by_cases ae:dA k
  ·rw[F k ae] at I;cases I
  ·obtain⟨e,he,bb,aL,ad⟩:=h.eH.dU k g cs (by rw[<-G k ae];exact I);refine⟨e,by rw[at_ ae];exact he,bb,aL,λb jQ=>?_⟩
   obtain⟨vs,T,a1,a2,hle,X⟩:=ad b jQ;refine⟨vs,T,a1,a2,hle,λi m O=>?_⟩;obtain⟨v,aN,w2⟩:=X i m O;refine⟨v,aN,azn w2 ?_⟩;rcases J k g cs I m (dy O) with ⟨d,rfl⟩|⟨eU,vA,vB,n0,gQ⟩
   ·exact .H
   ·obtain⟨bx,M7,yM,s5,uI⟩:=ay.dU eU vA vB n0
    cases JI:bx.dU with
    |none=>rw[s5 JI] at gQ;cases gQ
    |some uy =>
     obtain⟨aPm,aPn,_,_,_,iT⟩:=uI uy JI;obtain⟨i0,uH⟩:=r9.1 gQ;obtain⟨v0,_,azo⟩:=iT i0 m uH;exact clean_of ga azo
 ·obtain⟨ab,aV⟩:=h.nU.Ma b ad bw;exact⟨ab,λL=>aV (Kq L)⟩
 ·have ae:¬ dA k:=λae=>by rw[ga k ae] at he;cases he
  rw[at_ ae];exact h.nU.key k e he
def EB (U:List M->Mem->Option (Data×Key×Nat×Nat×Data))(args:List M)(mem:Mem):Option hA:=(U args mem).map λx => .dK x.1 x.2.1 x.2.2.1 x.2.2.2.1 (.H x.2.2.2.2)
@[go_sem] def aPo (U:List M->Mem->Option (Data×Key×Nat×Nat×Data))(args:List M)(mem:Mem):EB U args mem=(U args mem).map λx => .dK x.1 x.2.1 x.2.2.1 x.2.2.2.1 (.H x.2.2.2.2):=bE
def azp {T : ba}{kb : Nat}{own : List Nat}(di : r6 P T)(hm : P.follows .mixedOrders = true){f : FuncId}{fn : Func}{mf : bJ}(aH : P.funcs[f]? = some fn)(vI : (fn.name == "runtime.NumGoroutine") = false)(a8 : r2 P kb own fn = some { mf with body := erase mf.body })
  (dA:Key->Prop) {U:List M->Mem->Option (Data×Key×Nat×Nat×Data)}
  (h:∀args mem r k g i d,U args mem=some (r,k,g,i,d)->(D args)<=mf.n/\(∀j,dA j->mem j=none)/\¬ dA k/\(∃cs,mem k=some (g,cs)) /\
   wp T mf.body (oJ mf.res λm mem'=>cV 6 emp m=some r/\∀j,¬ dA j->mem' j=a5 mem k g ((sY mem k).set i (.H d)) j) ⟨kq args,mem⟩):l1 P f (EB U):=by
 refine⟨aaD aH vI a8,λargs mem rb gx A w B vs cf aN=>?_⟩;unfold EB at gx;rw[eL] at gx;obtain⟨⟨r,k,g,i,d⟩,l2,rfl⟩:=gx;obtain⟨hlen,AD,I,⟨cs,jD⟩,BO⟩:=h args mem r k g i d l2;refine Calls.mono (Nb (Post:=λm mem'=>cV 6 emp m=some r/\∀j,¬ dA j->mem' j=a5 mem k g ((sY mem k).set i (.H d)) j) di hm aH a8 hlen (λe st I=>aaC I) BO cf aN) λe aX he=>?_;obtain⟨v,m,mem',bD,rfl,R,pB,Z,gQ⟩:=he;refine⟨v,wb dA bD,rfl,R.drop cf AD (λj ae=>?_) (λj ae=>(gQ j ae).symm) ?_,.H ((X7 6 m v r Z pB).less λb ad=>ad.imp Kq id)⟩
 ·have:j≠k:=λe=>I (e ▸ ae);simp only[a5,this,if_false];exact AD j ae
 ·intro dw dc uq G m qA
  by_cases iP:dw=k
  ·subst iP;simp only[a5,if_true,cF,fq] at G;obtain⟨-,rfl⟩:=G;rcases Kr qA with L|rfl
   ·refine .inr ⟨dw,g,cs,jD,?_⟩
    simpa [sY,jD] using L
   ·exact .inl ⟨d,rfl⟩
  ·simp only[a5,iP,if_false] at G;exact .inr ⟨dw,dc,uq,G,qA⟩
def aaF:Option hA->Option hA->Option hA
 |some x,_=>some x
 |none,e=>e
@[go_sem] def aPp (x:hA)(e:Option hA):aaF (some x) e=some x:=bE
@[go_sem] def aPq (e:Option hA):aaF none e=e:=bE
def wc (mZ:FuncId->Option (List Data->Option eb))(uW:FuncId->Option (List M->Mem->Option hA)):ba:=λf args mem=>match uW f with
 |some eZ=>aaF (eZ args mem) (DK mZ f args mem)
 |none=>DK mZ f args mem
def qL {mZ:FuncId->Option (List Data->Option eb)}{uW:FuncId->Option (List M->Mem->Option hA)}(h:∀f aO,mZ f=some aO->qm P f aO)(X:∀f eZ,uW f=some eZ->l1 P f eZ):r6 P (wc mZ uW):=by
 intro f args mem rb di;unfold wc at di
 split at di
 ·rename_i eZ gx;have R:=X f eZ gx
  cases L:eZ args mem with
  |none =>
   rw[L] at di;exact agx h f args mem rb di
  |some y =>
   rw[L] at di
   cases di;exact⟨R.real,λA w B vs cf aN=>R.run args mem rb L A w B vs cf aN⟩
 ·exact agx h f args mem rb di
def Nm.akv {f:FuncId}{bs:List M->Mem->Option (M×Mem)}(h:Nm P f bs):l1 P f (DN bs):=by
 refine⟨h.real,λargs mem rb gx A w B vs cf aN=>?_⟩;unfold DN at gx;rw[eL] at gx;obtain⟨x,L,rfl⟩:=gx;exact h.run args mem x L A w B vs cf aN
section
variable {mZ:FuncId->Option (List Data->Option eb)} {uW:FuncId->Option (List M->Mem->Option hA)} {f:FuncId}
def kC {aO:List Data->Option eb}(h:uW f=none)(cn:mZ f=some aO):wc mZ uW f=aK aO:=by
 funext args mem
 unfold wc;rw[h];exact congrFun (congrFun (agz cn) args) mem
def we {eZ:List M->Mem->Option hA}(h:uW f=some eZ)(cn:mZ f=none):wc mZ uW f=eZ:=by
 funext args mem
 unfold wc DK;rw[h,cn];dsimp only
 cases eZ args mem<;>rfl
def Ks {aO:List Data->Option eb}{bs:List M->Mem->Option (M×Mem)}(h:uW f=some (DN bs))(cn:mZ f=some aO):wc mZ uW f=BS aO bs:=by
 funext args mem
 unfold wc;rw[h];unfold BS DN;rw[show DK mZ f args mem=aK aO args mem from congrFun (congrFun (agz cn) args) mem];dsimp only
 cases bs args mem<;>rfl
end
def Kt (l:List (FuncId×(List M->Mem->Option hA))):FuncId->Option (List M->Mem->Option hA):=λf=>(l.find? λp=>p.1==f).map (·.2)
def qM {l:List (FuncId×(List M->Mem->Option hA))}(h:∀p∈l,l1 P p.1 p.2):∀f bs,Kt l f=some bs->l1 P f bs:=by
 intro f aO aH;unfold Kt at aH;rw[eL] at aH;obtain⟨p,aE,rfl⟩:=aH;have F:=List.mem_of_find?_eq_some aE;have G:=List.find?_some aE;have ab:p.1=f:=by simpa using G
 exact ab ▸ h p F
def l3:∀p∈([]:List (FuncId×(List M->Mem->Option hA))),l1 P p.1 p.2:=by simp
def pU {f:FuncId}{aO:List M->Mem->Option hA}{l:List (FuncId×(List M->Mem->Option hA))}(h:l1 P f aO)(aq:∀p∈l,l1 P p.1 p.2):∀p∈(f,aO)::l,l1 P p.1 p.2:=by
 intro p aE;rcases List.mem_cons.1 aE with rfl|aE
 ·exact h
 ·exact aq p aE
open Classical in
def AE {α:Type}(bk:α->List M->Mem->Prop)(bC:α->Mem->M->Mem->Prop):List M->Mem->Option (M->Mem->Prop):=λargs mem=>if h:∃a,bk a args mem then some (bC (Classical.choose h) mem) else none
def azq {α:Type}{bk:α->List M->Mem->Prop}{bC:α->Mem->M->Mem->Prop}(uniq:∀a b args mem,bk a args mem->bk b args mem->a=b){a:α}{args:List M}{mem:Mem}(h:bk a args mem):AE bk bC args mem=some (bC a mem):=by
 have L:∃b,bk b args mem:=⟨a,h⟩;unfold AE;rw[dif_pos L,uniq _ _ _ _ (qo L) h]
def TQ {α:Type}{bk:α->List M->Mem->Prop}{bC:α->Mem->M->Mem->Prop}{args:List M}{mem:Mem}{x:M->Mem->Prop}(h:AE bk bC args mem=some x):∃a,bk a args mem/\x=bC a mem:=by
 unfold AE at h
 split at h
 ·rename_i L;exact⟨_,qo L,(nu h).symm⟩
 ·cases h
end Go.Mini
namespace Go.Mini
open Go
def OZ:=bV vY λ(s,l,s2,aw)=>some (.same (.bool (s==0)))
@[go_sem] def aPr (s l s2 aw):=pK OZ rfl J2 (s,l,s2,aw) rfl
def Hp (T:ba):WF T ajf OZ:=by
 refine cp λ(s,l,s2,aw)=>⟨rfl,ck ?_⟩;simp only[ajf,vY,cd];refine ai ?_;repeat' (intro h<;>simp only[h,go_sem,go_sem_proc]<;>try refine ag ?_ ?_)
def CL (args:List M)(mem:Mem):Option (Data×Key×Nat×Nat×Data) :=
 match args with
 | [.ptr k g 0,.H (.agg [.int .i64 s,.ax l,.int .i64 s2,.ax aw]),.H (.int .i64 e)]=>match mem k,mem 168004,mem 168006 with
  |some (dp,[_,_,.H (.bool c)]),none,none=>if dp=g/\k≠168004/\k≠168006 then some (.agg [.int .i64 s,.ax l,.int .i64 s2,.ax aw],k,g,2,.bool (c||e != 0)) else none
  |_,_,_=>none
 |_=>none
def TR (j:Key):Prop:=j=168004\/j=168006
def azr (T:ba)(args:List M)(mem:Mem)(r:Data)(k g i:Nat)(d:Data)(h:CL args mem=some (r,k,g,i,d)):
  (D args)<=19/\(∀j,TR j->mem j=none)/\¬ TR k/\(∃cs,mem k=some (g,cs)) /\
   wp T Tm.body (oJ Tm.res λm mem'=>cV 6 emp m=some r/\∀j,¬ TR j->mem' j=a5 mem k g ((sY mem k).set i (.H d)) j) ⟨kq args,mem⟩:=by
 unfold CL at h
 split at h
 ·rename_i eU vA s l s2 aw e
  split at h
  ·rename_i cU a b c hm aV bX
   split at h
   ·rename_i bb;obtain⟨rfl,pV,O0⟩:=bb;simp only[cF,fq] at h;obtain⟨rfl,rfl,rfl,rfl,rfl⟩:=h;refine⟨by simp,?_,?_,⟨_,hm⟩,?_⟩
    ·rintro j (rfl|rfl)
     ·exact aV
     ·exact bX
    ·rintro (h|h)
     ·exact pV h
     ·exact O0 h
    ·have jT:∀x:Bool,sY mem eU=[a,b,.H (.bool c)]:=λ_=>by simp only[sY,hm]
     have akw:(eU=168004)=False:=eq_false pV;have akx:(eU=168006)=False:=eq_false O0;have aky:(168004=eU)=False:=eq_false (Ne.symm pV);have akz:(168006=eU)=False:=eq_false (Ne.symm O0);refine ra ?_;simp only[Tm]
     cases c
     ·refine ai ?_;repeat' (intro (ao:_=_)<;>simp only[ao,go_sem,go_sem_proc,hm,aV,bX,akw,akx,aky,akz]<;>try refine ag ?_ ?_)
      refine⟨_,rfl,by first|rfl|simp[go_sem,cV],λj ae=>?_⟩
      have CM:j≠168004:=λh=>ae (.inl h);have EC:j≠168006:=λh=>ae (.inr h)
      by_cases ey:j=eU<;>simp[a5,sY,hm,CM,EC,ey,pV,O0,bne]
     ·refine ai ?_;repeat' (intro (ao:_=_)<;>simp only[ao,go_sem,go_sem_proc,hm,aV,bX,akw,akx,aky,akz]<;>try refine ag ?_ ?_)
      refine⟨_,rfl,by first|rfl|simp[go_sem,cV],λj ae=>?_⟩
      have CM:j≠168004:=λh=>ae (.inl h);have EC:j≠168006:=λh=>ae (.inr h)
      by_cases ey:j=eU<;>simp[a5,sY,hm,CM,EC,ey,pV,O0,bne]
   ·cases h
  ·cases h
 ·cases h
abbrev dz:=Nat×Nat×List bz
def refsOf (N:Nat)(rows:List dz):List M:=rows.map λx => .ref (x.1+900000) x.2.1 4 0 (N+1)
structure CN (go N:Nat) (rows:List dz) (bad:Bool) (mem:Mem):Prop where
 m:mem 129015=some (0,[.ref 129035 go 1 0 N,.H (.int .i64 N),.H (.bool bad)])
 o:mem 129035=some (go,refsOf N rows)
 r:∀x∈rows,mem (x.1+900000)=some (x.2.1,aU az x.2.2)
structure ld (N:Nat) (rows:List dz):Prop where
 len:(D rows)=N
 TS:(rows.map (·.1)).Nodup
 row:∀x∈rows,x.2.2.length=N+1/\∀f∈x.2.2,okF f
def Ku (k:Nat):Prop:=k<900000/\k≠129015/\k≠129035/\k≠148008/\k≠148010/\k≠148013
def lA (ep:Mem)(go N:Nat)(rows:List dz)(bad:Bool)(mem:Mem):Prop:=CN go N rows bad mem/\∀k,Ku k->mem k=ep k
section
variable {ep mem:Mem} {go N:Nat} {rows:List dz} {m8:Bool}
def lA.flag (b:Bool)(h:lA ep go N rows m8 mem):lA ep go N rows b (a5 mem 129015 0 [.ref 129035 go 1 0 N,.H (.int .i64 N),.H (.bool b)]):=by
 refine⟨⟨by simp[a5],by simp[a5,h.1.o],λx L=>?_⟩,λk I=>?_⟩
 ·rw[<-h.1.r x L];exact aa (show ¬ ((x.1+900000:Nat)=129015) by omega)
 ·rw[<-h.2 k I];exact aa I.2.1
def lA.own {k g:Nat}{cs:List M}(I:k=148008\/k=148010\/k=148013)(h:lA ep go N rows m8 mem):lA ep go N rows m8 (a5 mem k g cs):=by
 have b8:∀j:Nat,j≠k->a5 mem k g cs j=mem j:=λj ae=>aa ae;refine⟨⟨by rw[b8 _ (by omega)];exact h.1.m,by rw[b8 _ (by omega)];exact h.1.o,λx L=>by rw[b8 _ (by omega)];exact h.1.r x L⟩,λj ae=>?_⟩
 have:=ae.2;rw[b8 _ (by omega)];exact h.2 j ae
def lA.set {i:Nat}{x:dz}(cw:ld N rows)(O:rows[i]?=some x)(l:List bz)(h:lA ep go N rows m8 mem):lA ep go N (rows.set i (x.1,x.2.1,l)) m8 (a5 mem (x.1+900000) x.2.1 (aU az l)):=by
 have b8:∀j:Nat,j≠x.1+900000->a5 mem (x.1+900000) x.2.1 (aU az l) j=mem j:=λj ae=>aa ae;obtain⟨ah,aaG⟩:=dV.1 O;refine⟨⟨by rw[b8 _ (by omega)];exact h.1.m,?_,λy aj=>?_⟩,λj ae=>?_⟩
 ·rw[b8 _ (by omega),h.1.o]
  congr 2
  unfold refsOf;apply pE;intro j;rw[bm,bm,mr]
  by_cases nA:i=j
  ·subst nA;rw[Y rfl,Y ah,O]
   rfl
  ·rw[aa nA]
 ·obtain⟨j,ae⟩:=r9.1 aj;rw[mr] at ae
  by_cases nA:i=j
  ·subst nA;rw[Y rfl,Y ah] at ae
   cases ae;simp[a5]
  ·rw[aa nA] at ae
   have aPs:y.1≠x.1:=by
    intro he;have F:(rows.map (·.1))[j]?=some y.1:=by rw[bm,ae];rfl
    have G:(rows.map (·.1))[i]?=some y.1:=by rw[bm,O,he];rfl
    have aq:i<(rows.map (·.1)).length:=by rw[al];exact ah
    exact nA ((akA aq cw.TS).1 (G.trans F.symm))
   rw[b8 (y.1+900000) (by omega)];exact h.1.r y (dy ae)
 ·have:=ae.1;rw[b8 j (by omega)];exact h.2 j ae
def lA.swap {i j:Nat}{a b:dz}(O:rows[i]?=some a)(ae:rows[j]?=some b)(h:lA ep go N rows m8 mem):lA ep go N ((rows.set i b).set j a) m8 (a5 (a5 mem 129035 go (refsOf N (rows.set i b))) 129035 go (refsOf N ((rows.set i b).set j a))):=by
 have b8:∀k:Nat,k≠129035->a5 (a5 mem 129035 go (refsOf N (rows.set i b))) 129035 go (refsOf N ((rows.set i b).set j a)) k=mem k:=λk I=>by simp[a5,I]
 refine⟨⟨by rw[b8 _ (by omega)];exact h.1.m,by simp[a5],λx L=>?_⟩,λk I=>?_⟩
 ·rw[b8 _ (by omega)];apply h.1.r;rcases Kr L with L|rfl
  ·rcases Kr L with L|rfl
   ·exact L
   ·exact dy ae
  ·exact dy O
 ·rw[b8 _ I.2.2.1];exact h.2 k I
def ld.set {i:Nat}{x:dz}(cw:ld N rows)(O:rows[i]?=some x){l:List bz}(aq:(D l)=N+1)(aH:∀f∈l,okF f):ld N (rows.set i (x.1,x.2.1,l)):=by
 obtain⟨ah,aaG⟩:=dV.1 O;refine⟨by rw[ie];exact cw.len,?_,λy aj=>?_⟩
 ·have:(rows.set i (x.1,x.2.1,l)).map (·.1)=rows.map (·.1):=by
   rw[xD];apply pE;intro j;rw[mr]
   by_cases nA:i=j
   ·subst nA;rw[Y rfl,al,Y ah,bm,O];rfl
   ·rw[aa nA]
  rw[this];exact cw.TS
 ·rcases Kr aj with aj|rfl
  ·exact cw.row y aj
  ·exact⟨aq,aH⟩
def azs {α:Type}{l:List α}{i j:Nat}{a b:α}(O:l[i]?=some a)(ae:l[j]?=some b)(h:l.Nodup):((l.set i b).set j a).Nodup:=by
 obtain⟨nJ,pW⟩:=dV.1 O;obtain⟨mb,RJ⟩:=dV.1 ae
 have main:∀p q,p<q->q<(D l)->((l.set i b).set j a)[p]?≠((l.set i b).set j a)[q]?:=by
  intro p q TT bq;rw[mr,mr,mr,mr];have inj:∀p q,p<(D l)->l[p]?=l[q]?->p=q:=λp q aE he=>(akA aE h).1 he;simp only[ie]
  by_cases F:j=p
  ·subst F;have G:¬ j=q:=by omega
   rw[Y rfl,Y mb,aa G]
   by_cases ab:i=q
   ·subst ab;rw[Y rfl,Y nJ];intro he;rw[<-O,<-ae] at he;have:=inj _ _ nJ he;omega
   ·rw[aa ab,<-O];intro he;exact ab (inj _ _ nJ he)
  ·rw[aa F]
   by_cases ab:i=p
   ·subst ab;rw[Y rfl,Y nJ]
    by_cases G:j=q
    ·subst G;rw[Y rfl,Y mb,<-O,<-ae];intro he;have:=inj _ _ mb he;omega
    ·rw[aa G,aa (by omega),<-ae];intro he;exact G (inj _ _ mb he)
   ·rw[aa ab]
    by_cases G:j=q
    ·subst G;rw[Y rfl,Y mb,<-O];intro he;exact ab (inj _ _ nJ he.symm)
    ·rw[aa G]
     by_cases aV:i=q
     ·subst aV;rw[Y rfl,Y nJ,<-ae];intro he;exact F (inj _ _ mb he.symm)
     ·rw[aa aV];intro he;have:=inj _ _ (by omega) he;omega
 refine List.pairwise_iff_getElem.2 λp q aE bq TT he=>?_;simp only[ie] at aE bq;refine main p q TT bq ?_;rw[bh (by simpa using aE),bh (by simpa using bq),he]
def ld.swap {i j:Nat}{a b:dz}(cw:ld N rows)(O:rows[i]?=some a)(ae:rows[j]?=some b):ld N ((rows.set i b).set j a):=by
 refine⟨by rw[ie,ie];exact cw.len,?_,λx L=>?_⟩
 ·rw[xD,xD];exact azs (by rw[bm,O];rfl) (by rw[bm,ae];rfl) cw.TS
 ·rcases Kr L with L|rfl
  ·rcases Kr L with L|rfl
   ·exact cw.row x L
   ·exact cw.row _ (dy ae)
  ·exact cw.row _ (dy O)
end
def azt {l:List bz}{i:Nat}{a b c d}(h:l[i]?=some ((a,b),(c,d))):cut (aU az l) (i*4) 4=some [.H (.int .i64 a),.H (.ax (b.map aI)),.H (.int .i64 c),.H (.ax (d.map aI))]:=by
 have:=Nf jj h (f:=0) (n:=4) (by omega);rw[lO] at this;rw[this]
 rfl
def azu {N:Nat}{rows:List dz}{i:Nat}{x:dz}(h:rows[i]?=some x):cut (refsOf N rows) i 1=some [.ref (x.1+900000) x.2.1 4 0 (N+1)]:=by
 obtain⟨ah,rfl⟩:=dV.1 h;unfold cut refsOf;rw[Y (by rw[al];omega),<-List.map_drop,je ah]
 rfl
def azv {l m:List bz}(h:aU az l=aU az m):l=m:=Zk jj pS _ _ h (by omega)
def hd (f:bz):Bool:=f.1.1==0
def cellOf (x:dz)(c:Nat):bz:=x.2.2.getD c cW
def findAt (rows:List dz)(r c:Nat):Nat:=r+(rows.drop r).findIdx λx => !hd (cellOf x c)
def iZ (fH:bz):List bz->List bz->Bool->List bz×Bool
 |f::eo,p::cO,false=>((l0 f (jx fH p).1).1::(iZ fH eo cO ((jx fH p).2 != 0||(l0 f (jx fH p).1).2 != 0)).1,(iZ fH eo cO ((jx fH p).2 != 0||(l0 f (jx fH p).1).2 != 0)).2)
 |eo,_,b=>(eo,b)
def jl (gh:List bz)(r c:Nat):Nat->List dz->Bool->List dz×Bool
 |_,[],bad=>([],bad)
 |i,x::xs,bad=>if (i==r||hd (cellOf x c))=true then (x::(jl gh r c (i+1) xs bad).1,(jl gh r c (i+1) xs bad).2) else
  ((x.1,x.2.1,(iZ (cellOf x c) x.2.2 gh bad).1)::(jl gh r c (i+1) xs (iZ (cellOf x c) x.2.2 gh bad).2).1,(jl gh r c (i+1) xs (iZ (cellOf x c) x.2.2 gh bad).2).2)
def hJ (OG:bz)(l:List bz):List bz×Bool:=(l.map λf=>(gn f OG).1,l.any λf=>(gn f OG).2 != 0)
def rowAt (rows:List dz)(i:Nat):dz:=rows.getD i (0,0,[])
def nK (rows:List dz)(i j:Nat):List dz:=(rows.set i (rowAt rows j)).set j (rowAt rows i)
def CO (rows:List dz)(r c:Nat):List dz:=rows.set r ((rowAt rows r).1,(rowAt rows r).2.1,(hJ (cellOf (rowAt rows r) c) (rowAt rows r).2.2).1)
def ja (rows:List dz)(r c:Nat):Bool×List dz×Bool :=
 if findAt rows r c=(D rows) then (true,rows,false) else
  (false,jl (hJ (cellOf (rowAt (nK rows r (findAt rows r c)) r) c) (rowAt (nK rows r (findAt rows r c)) r).2.2).1 r c 0 (CO (nK rows r (findAt rows r c)) r c)
   (hJ (cellOf (rowAt (nK rows r (findAt rows r c)) r) c) (rowAt (nK rows r (findAt rows r c)) r).2.2).2)
def azw {rows:List dz}{r c i:Nat}{x:dz}(L:rows[i]?=some x)(X:r<=i)(a2:∀j y,r<=j->j<i->rows[j]?=some y->hd (cellOf y c)=true)(h:hd (cellOf x c)=false):findAt rows r c=i:=by
 unfold findAt;obtain⟨ah,aaG⟩:=dV.1 L
 have:(rows.drop r).findIdx (λx => !hd (cellOf x c))=i-r:=by
  rw[List.findIdx_eq (by rw[oz];omega)];refine⟨?_,λj ae=>?_⟩
  ·rw[ED];have:rows[r+(i-r)]?=some x:=by rw[show r+(i-r)=i by omega];exact L
   rw[(dV.1 this).2,h];rfl
  ·rw[ED];have:=a2 (r+j) _ (by omega) (by omega) (bh (by omega));rw[this];rfl
 omega
def azx {rows:List dz}{r c:Nat}(X:r<=D rows)(a2:∀j y,r<=j->rows[j]?=some y->hd (cellOf y c)=true):findAt rows r c=D rows:=by
 unfold findAt
 have:(rows.drop r).findIdx (λx => !hd (cellOf x c))=(rows.drop r).length:=by
  rw[List.findIdx_eq_length];intro y aj;obtain⟨j,ae⟩:=r9.1 aj;rw[q6] at ae;rw[a2 (r+j) y (by omega) ae];rfl
 rw[this,oz];omega
def mu {x:Rat}(h:dH x):okF (av x):=⟨kB h.1,kB (qD h)⟩
def su:okF cW:=⟨by simp[cW],by simp[cW]⟩
def azy (p q:Raw):okF (jw p q).1:=by
 unfold jw
 split
 ·rename_i h;rw[fC] at h;obtain⟨x,L,au⟩:=(iB _).1 h.1;obtain⟨y,aj,aC⟩:=(iB _).1 h.2
  split
  ·exact su
  ·rw[au,aC,fl,fl];exact mu (Td L aj)
 ·exact su
def aaH (p q:Raw×Int):okF (vZ p q).1:=by
 unfold vZ
 split
 ·split
  ·exact azy _ _
  ·exact su
 ·exact su
def azz (a b:bz):okF (yT a b).1:=by
 unfold yT
 split
 ·split
  ·exact aaH _ _
  ·exact su
 ·exact su
def aaI (a b:bz):okF (l0 a b).1:=by
 unfold l0
 split
 ·split
  ·exact azz _ _
  ·exact su
 ·exact su
def akB (a b:bz):okF (jx a b).1:=by
 unfold jx
 split
 ·split
  ·exact aaH _ _
  ·exact su
 ·exact su
def TU (a b:bz):okF (gn a b).1:=by
 unfold gn
 split
 ·split
  ·split
   ·exact su
   ·exact aaH _ _
  ·exact su
 ·exact su
def aaJ {x:dz}{c:Nat}{f:bz}(h:x.2.2[c]?=some f):cellOf x c=f:=by
 unfold cellOf;rw[eD,h]
 rfl
def uX {rows:List dz}{i:Nat}{x:dz}(h:rows[i]?=some x):rowAt rows i=x:=by
 unfold rowAt;rw[eD,h]
 rfl
def AF {l:List bz}{k:Nat}(h:k<D l):(k*4+4<=(aU az l).length)=True:=eq_true (by rw[jS jj];omega)
def Hq {l:List bz}{k:Nat}{a b c d}(h:l[k]?=some ((a,b),(c,d))):gT 4 (hl (k*4) (aU az l))=[.H (.int .i64 a),.H (.ax (b.map aI)),.H (.int .i64 c),.H (.ax (d.map aI))]:=by
 have:=azt h;unfold cut at this;rw[Y (by rw[jS jj];have:=(dV.1 h).1;omega)] at this;exact nu this
def Hr {l:List bz}{k:Nat}(h:k<D l)(a:Int)(b:List Int)(c:Int)(d:List Int):
  gT (k*4) (aU az l)++[M.H (.int .i64 a),.H (.ax (b.map aI)),.H (.int .i64 c),.H (.ax (d.map aI))]++hl (k*4+4) (aU az l)=aU az (l.set k ((a,b),(c,d))):=by
 rw[<-Sd jj h]
 rfl
def Hs {N:Nat}{rows:List dz}{i:Nat}(h:i<D rows):(i+1<=(refsOf N rows).length)=True:=eq_true (by unfold refsOf;rw[al];omega)
def Kv {N:Nat}{rows:List dz}{i:Nat}{x:dz}(h:rows[i]?=some x):gT 1 (hl i (refsOf N rows))=[.ref (x.1+900000) x.2.1 4 0 (N+1)]:=by
 have:=azu (N:=N) h;unfold cut at this;rw[Y (by unfold refsOf;rw[al];have:=(dV.1 h).1;omega)] at this;exact nu this
def akC {N:Nat}{rows:List dz}{i:Nat}(h:i<D rows)(b:dz):gT i (refsOf N rows)++[M.ref (b.1+900000) b.2.1 4 0 (N+1)]++hl (i+1) (refsOf N rows)=refsOf N (rows.set i b):=by
 unfold refsOf;rw[xD,List.set_eq_take_append_cons_drop,Y (by rw[al];exact h),g8]
 rfl
def akD (fH:bz):∀(l p:List bz) (b:Bool),(iZ fH l p b).1.length=D l
 | [],_,_=>by simp[iZ]
 |f::eo,[],b=>by cases b<;>simp[iZ]
 |f::eo,p::cO,true=>by simp[iZ]
 |f::eo,p::cO,false=>by simp[iZ,akD fH eo cO]
def O1 (fH:bz)(l p:List bz):iZ fH l p true=(l,true):=by
 cases l<;>cases p<;>simp[iZ]
def akE (fH:bz)(p:List bz)(b:Bool):iZ fH [] p b=([],b):=by
 cases b<;>simp[iZ]
def azA {α:Type}(f:α->α){l:List α}{k:Nat}{x:α}(h:l[k]?=some x):((l.take k).map f++l.drop k).set k (f x)=(l.take (k+1)).map f++l.drop (k+1):=by
 obtain⟨ah,L⟩:=dV.1 h;have aq:((l.take k).map f).length=k:=by rw[al,gP];omega
 rw[y1 _ _ (by omega),aq,j0,je ah,lB,hZ,h,List.map_append,g8]
 rfl
def azB {α:Type}(f:α->α){l:List α}{k:Nat}:((l.take k).map f++l.drop k)[k]?=l[k]?:=by
 rcases hO k (D l) with h|h
 ·have aq:((l.take k).map f).length=k:=by rw[al,gP];omega
  rw[ov (by omega),aq,j0,q6,lO]
 ·rw[jZ h,jZ (by rw[gC,al,gP,oz];omega)]
def O2 {α:Type}{rows:List α}{r i:Nat}{x sv:α}(L:rows[i]?=some x)(m9:rows[r]?=some sv):((rows.set r x).set i sv)[r]?=some x:=by
 have F:=(dV.1 L).1;have G:=(dV.1 m9).1;rw[mr,mr,ie]
 by_cases h:i=r
 ·subst h;rw[L] at m9
  cases m9;rw[Y rfl,Y F]
 ·rw[aa h,Y rfl,Y G]
def aaK {α:Type}{l:List α}{i:Nat}{x:α}(h:l[i]?=some x):l.set i x=l:=by
 obtain⟨ah,L⟩:=dV.1 h;apply pE;intro j;rw[mr]
 by_cases nA:i=j
 ·subst nA;rw[Y rfl,Y ah,h]
 ·rw[aa nA]
def azC (a b:Nat):(!(a+900000==129015)||decide (2<b*4))=true:=by
 have:(a+900000==129015)=false:=by simp
 rw[this];rfl
def aaL:Ku 168004:=by unfold Ku;omega
def aaM:Ku 168006:=by unfold Ku;omega
def er.sub:er->List Nat->er
 |.seq a _,0::p=>a.sub p
 |.seq _ b,_::p=>b.sub p
 |.cond _ a _,0::p=>a.sub p
 |.cond _ _ b,_::p=>b.sub p
 |.block _ c,_::p=>c.sub p
 |.ghost _ c,_::p=>c.sub p
 |.loop c,_::p=>c.sub p
 |c,_=>c
def azD (f:bz):List M:=[.H (.int .i64 f.1.1),.H (.ax (f.1.2.map aI)),.H (.int .i64 f.2.1),.H (.ax (f.2.2.map aI))]
def azE (T:ba)(y2:T DQ=EB CL)(nL:T xb=aK yU)(oK:T yA=aK yV){K:eK->bc->Prop}{kk:List fT}
  (go N r c i2:Nat) (mem:Mem) (EE:mem 168004=none) (EF:mem 168006=none) (fA:N<=40) (tA:List dz) (qN:ld N tA) (x y:dz) (gh:List bz) (qO:tA[i2]?=some y) (bf:tA[r]?=some (x.1,x.2.1,gh)) (Ht:i2≠r) (pf:r<N) (m8:Bool)
  (cU:Int) (dc:List Int) (hj:Int) (kV:List Int) (oa:okF ((cU,dc),(hj,kV))) (tm:Nat->M) (m:Mem) (bs:Nat)
  (bx:tm 0=.ptr 129015 0 0) (au:tm 1=.H (.int .i64 r)) (aC:tm 2=.H (.int .i64 c)) (gf:tm 12=.ref (y.1+900000) y.2.1 4 0 (N+1)) (ij:tm 13=.ptr 148013 bs 0) (sw:tm 112=.ref 129035 go 1 0 N) (O3:tm 113=.H (.int .i64 N)) (O4:tm 114=.H (.int .i64 i2)) (AG:tm 14=.H (.int .i64 0))
  (em:m 148013=some (bs,[.H (.int .i64 cU),.H (.ax (dc.map aI)),.H (.int .i64 hj),.H (.ax (kV.map aI))])) (hc:lA mem go N tA m8 m)
  (db:∀tm' m' l b,tm' 0=.ptr 129015 0 0->tm' 1=.H (.int .i64 r)->tm' 2=.H (.int .i64 c)->tm' 112=.ref 129035 go 1 0 N->tm' 113=.H (.int .i64 N)->tm' 114=.H (.int .i64 i2)->(l,b)=iZ ((cU,dc),(hj,kV)) y.2.2 gh m8->ld N (tA.set i2 (y.1,y.2.1,l))->lA mem go N (tA.set i2 (y.1,y.2.1,l)) b m'->cg T K kk (.exit 6) ⟨tm',m'⟩) :
  wp T (Ax.body.sub [1,1,1,1,1,1,1,0,1,0,0,1,1,0,0,1,1,1,1,0]) (cg T K kk) ⟨tm,m⟩:=by
 simp only[Ax,er.sub];have azF:i2<N:=by rw[<-qN.len];exact (dV.1 qO).1
 obtain⟨FN,TV⟩:=qN.row y (dy qO);have azG:tA.set i2 (y.1,y.2.1,[]++y.2.2.drop 0)=tA:=aaK qO
 refine dd [0,1,2,12,13,112,113,114] [148013] (λ((k,pre,b):Nat×List bz×Bool) tm m=>k<=N+1/\D pre=k/\(∀f∈pre,okF f)/\iZ ((cU,dc),(hj,kV)) y.2.2 gh m8=(pre++(iZ ((cU,dc),(hj,kV)) (y.2.2.drop k) (gh.drop k) b).1,(iZ ((cU,dc),(hj,kV)) (y.2.2.drop k) (gh.drop k) b).2)/\tm 14=.H (.int .i64 k)/\lA mem go N (tA.set i2 (y.1,y.2.1,pre++y.2.2.drop k)) b m) (λ(k,_,_)=>N+1-k) (0,[],m8) (by
  refine⟨fL _,rfl,(by simp),rfl,AG,?_⟩;rw[azG];exact hc) ?_
 intro vs ms aQ aM;simp only[go_sem,go_sem_proc,bx,au,aC,gf,ij,sw,O3,O4,em] at aQ aM;subst aQ aM;clear bx au aC gf ij sw O3 O4 em AG hc tm m;rintro⟨dW,pre,b⟩ tm iA I hm ⟨aPt,yN,y3,O5,D8,wg⟩;simp only[go_sem,go_sem_proc,bj] at I hm;obtain⟨ay,F,G,eu,kA,y4,y5,y6⟩:=I;have azH:(pre++y.2.2.drop dW).length=N+1:=by rw[gC,oz];omega
 have Kw:ld N (tA.set i2 (y.1,y.2.1,pre++y.2.2.drop dW)):=qN.set qO azH λf aH=>by
  rw[jH] at aH;rcases aH with aH|aH
  ·exact y3 f aH
  ·exact TV f (JO aH)
 have akF:(tA.set i2 (y.1,y.2.1,pre++y.2.2.drop dW))[i2]?=some (y.1,y.2.1,pre++y.2.2.drop dW):=by
  rw[mr,Y rfl,Y (by rw[qN.len];exact azF)]
 have sn:(tA.set i2 (y.1,y.2.1,pre++y.2.2.drop dW))[r]?=some (x.1,x.2.1,gh):=by
  rw[mr,aa Ht];exact bf
 have xE:=wg.1.m;have AH:=wg.1.o;rcases dn (dW<N+1) with azI|aPu
 ·have CP:decide ((dW:Int)<((N+1:Nat):Int))=true:=cX
  cases b
  ·obtain⟨⟨⟨cz,cY⟩,⟨eA,eQ⟩⟩,wh⟩:∃f,y.2.2[dW]?=some f:=⟨_,bh (by omega)⟩;have aPv:(D gh)=N+1:=(qN.row _ (dy bf)).1;obtain⟨⟨⟨hk,hQ⟩,⟨kD,lf⟩⟩,iF⟩:∃f,gh[dW]?=some f:=⟨_,bh (by omega)⟩;have mc:=TV _ (dy wh);have akG:=(qN.row _ (dy bf)).2 _ (dy iF)
   have aaN:(pre++y.2.2.drop dW)[dW]?=some ((cz,cY),(eA,eQ)):=by
    rw[ov (by omega),yN,j0,q6,lO,wh]
   have lu:y.2.2.drop dW=((cz,cY),(eA,eQ))::y.2.2.drop (dW+1):=by
    obtain⟨aq,e⟩:=dV.1 wh;rw[je aq,e]
   have n8:gh.drop dW=((hk,hQ),(kD,lf))::gh.drop (dW+1):=by
    obtain⟨aq,e⟩:=dV.1 iF;rw[je aq,e]
   have iO:∀s:bz,(pre++y.2.2.drop dW).set dW s=(pre++[s])++y.2.2.drop (dW+1):=λs=>by
    rw[y1 _ _ (by omega),yN,j0,lu,lB,g8];rfl
   have azJ:=wg.1.r _ (dy akF);have azK:=wg.1.r _ (dy sn);have fV:iA 168004=none:=(wg.2 _ aaL).trans EE;have l4:iA 168006=none:=(wg.2 _ aaM).trans EF;have t1:=Kv (N:=N) sn;have t2:=Hs (N:=N) (rows:=tA.set i2 (y.1,y.2.1,pre++y.2.2.drop dW)) (i:=r) (by rw[Kw.len];exact pf);have t3:=Hq aaN;have t4:=AF (l:=pre++y.2.2.drop dW) (k:=dW) (by omega);have t5:=Hq iF;have t6:=AF (l:=gh) (k:=dW) (by omega);have n6:=eI (i:=dW) (by omega);have aaO:=akB ((cU,dc),(hj,kV)) ((hk,hQ),(kD,lf));have aaP:=aaI ((cz,cY),(eA,eQ)) (jx ((cU,dc),(hj,kV)) ((hk,hQ),(kD,lf))).1;have O6:=O5;rw[lu,n8] at O6;simp only[iZ] at O6;generalize gE:jx ((cU,dc),(hj,kV)) ((hk,hQ),(kD,lf))=bk at *;obtain⟨⟨⟨lP,hY⟩,⟨EG,Hu⟩⟩,au⟩:=bk;dsimp only at aaP O6 aaO;generalize cZ:l0 ((cz,cY),(eA,eQ)) ((lP,hY),(EG,Hu))=S at *;obtain⟨⟨⟨v1,v2⟩,⟨jy,v4⟩⟩,aC⟩:=S;dsimp only at aaP O6;have t7:=Hr (l:=pre++y.2.2.drop dW) (k:=dW) (by omega) v1 v2 jy v4;refine ai ?_;repeat' (intro h<;>simp only[h,go_sem,go_sem_proc,y2,oK,nL,ay,F,G,eu,kA,D8,y4,y5,y6,hm,xE,AH,azJ,azK,fV,l4,t1,t2,t3,t4,t5,t6,t7,CP,azI,pf,n6,gE,cZ,mc.1,mc.2,akG.1,akG.2,oa.1,oa.2,aaO.1,aaO.2,azD,dT,az,dZ,CL,y7,lB,decide_true,decide_false,akH,ne_eq,not_false_eq_true,and_self]<;>try refine ag ?_ ?_)
   have c6:=lA.set Kw akF ((pre++y.2.2.drop dW).set dW ((v1,v2),(jy,v4))) ((wg.flag (au != 0)).flag (au != 0||aC != 0));rw[akI,iO] at c6;refine⟨azC _ _,(dW+1,pre++[((v1,v2),(jy,v4))],(au != 0||aC != 0)),by dsimp only;omega,by dsimp only;omega,by simp[yN],?_,?_,rfl,?_⟩
   ·intro f aH;rw[jH,yK] at aH;rcases aH with aH|rfl
    ·exact y3 f aH
    ·exact aaP
   ·rw[O6];dsimp only;rw[g8]
    rfl
   ·dsimp only;rw[iO];exact c6
  ·rw[O1] at O5;refine ai ?_;repeat' (intro h<;>simp only[h,go_sem,go_sem_proc,ay,F,G,eu,kA,D8,y4,y5,y6,xE,AH,CP]<;>try refine ag ?_ ?_)
   refine db _ _ (pre++y.2.2.drop dW) true ?_ ?_ ?_ ?_ ?_ ?_ O5.symm Kw wg<;>simp only[dC,cE,if_false,ay,F,G,y4,y5,y6]
 ·have CP:decide ((dW:Int)<((N+1:Nat):Int))=false:=b7;have ix:y.2.2.drop dW=[]:=lM (by omega);rw[ix,akE,<-ix] at O5;refine ai ?_;repeat' (intro h<;>simp only[h,go_sem,go_sem_proc,ay,F,G,eu,kA,D8,y4,y5,y6,xE,AH,CP]<;>try refine ag ?_ ?_)
  refine db _ _ (pre++y.2.2.drop dW) b ?_ ?_ ?_ ?_ ?_ ?_ O5.symm Kw wg<;>simp only[dC,cE,if_false,ay,F,G,y4,y5,y6]
def azL (T:ba)(EH:T Nv=aK OZ)(y2:T DQ=EB CL)(nL:T xb=aK yU)(oK:T yA=aK yV){K:eK->bc->Prop}{kk:List fT}
  (go N r c:Nat) (mem:Mem) (EE:mem 168004=none) (EF:mem 168006=none) (fA:N<=40) (pf:r<N) (Hv:c<N+1) (ff:List dz) (Hw:ld N ff) (x:dz) (gh:List bz) (jU:ff[r]?=some (x.1,x.2.1,gh)) (Kx:Bool) (tm:Nat->M) (m:Mem)
  (bx:tm 0=.ptr 129015 0 0) (au:tm 1=.H (.int .i64 r)) (aC:tm 2=.H (.int .i64 c)) (sw:tm 112=.ref 129035 go 1 0 N) (O3:tm 113=.H (.int .i64 N)) (O4:tm 114=.H (.int .i64 0)) (hc:lA mem go N ff Kx m)
  (db:∀tm' m',lA mem go N (jl gh r c 0 ff Kx).1 (jl gh r c 0 ff Kx).2 m'->cg T K kk (.exit 4) ⟨tm',m'⟩) :
  wp T (Ax.body.sub [1,1,1,1,1,1,1,0,1,0]) (cg T K kk) ⟨tm,m⟩:=by
 simp only[Ax,er.sub]
 refine dd [0,1,2,112,113] [] (λ((i2,rA,m8):Nat×List dz×Bool) tm m=>i2<=N/\D rA=i2/\jl gh r c 0 ff Kx=(rA++(jl gh r c i2 (ff.drop i2) m8).1,(jl gh r c i2 (ff.drop i2) m8).2)/\ld N (rA++ff.drop i2)/\(rA++ff.drop i2)[r]?=some (x.1,x.2.1,gh)/\tm 114=.H (.int .i64 i2)/\lA mem go N (rA++ff.drop i2) m8 m) (λ(i2,_,_)=>N-i2) (0,[],Kx) (by
  exact⟨fL _,rfl,rfl,Hw,jU,O4,hc⟩) ?_
 intro vs ms aQ aM;simp only[go_sem,go_sem_proc,bx,au,aC,sw,O3] at aQ aM;subst aQ aM;clear bx au aC sw O3 O4 hc tm m;rintro⟨i2,rA,m8⟩ tm bU I hm ⟨oX,lv,md,qN,bf,y6,xF⟩;simp only[go_sem,go_sem_proc,bj] at I hm;obtain⟨ay,F,G,y4,y5⟩:=I;have xE:=xF.1.m;have AH:=xF.1.o;have aPw:(D ff)=N:=Hw.len;rcases dn (i2<N) with TW|aPx
 ·obtain⟨y,aj⟩:∃y,ff[i2]?=some y:=⟨_,bh (by omega)⟩
  have vT:ff.drop i2=y::ff.drop (i2+1):=by
   obtain⟨aq,rfl⟩:=dV.1 aj;exact je aq
  have qO:(rA++ff.drop i2)[i2]?=some y:=by
   rw[ov (by omega),lv,j0,q6,lO,aj]
  obtain⟨FN,TV⟩:=qN.row y (dy qO);have aaQ:=xF.1.r y (dy qO);obtain⟨⟨⟨cU,dc⟩,⟨hj,kV⟩⟩,bb⟩:∃f,y.2.2[c]?=some f:=⟨_,bh (by omega)⟩;have yQ:=aaJ bb;have t1:=Kv (N:=N) qO;have t2:=Hs (N:=N) (rows:=rA++ff.drop i2) (i:=i2) (by rw[qN.len];exact TW);have t3:=Hq bb;have t4:=AF (l:=y.2.2) (k:=c) (by omega);have nJ:decide ((i2:Int)<(N:Int))=true:=cX;have hw:=eI (i:=i2) (by omega)
  have Bu:∀z:dz,(rA++[z])++ff.drop (i2+1)=(rA++ff.drop i2).set i2 z:=λz=>by
   rw[y1 _ _ (by omega),lv,j0,vT,lB,g8];rfl
  have Ky:(rA++[y])++ff.drop (i2+1)=rA++ff.drop i2:=by rw[Bu];exact aaK qO
  have y8:∀b:Bool,(b=true->i2=r\/(cU==0)=true)->b=true->jl gh r c 0 ff Kx=((rA++[y])++(jl gh r c (i2+1) (ff.drop (i2+1)) m8).1,(jl gh r c (i2+1) (ff.drop (i2+1)) m8).2):=by
   intro b ad Hk
   have aaR:(i2==r||hd (cellOf y c))=true:=by
    rcases ad Hk with h|h
    ·rw[h,beq_self_eq_true];rfl
    ·rw[yQ];have:hd ((cU,dc),(hj,kV))=true:=h;rw[this,se]
   rw[md,vT];simp only[jl];rw[Y aaR,g8]
   rfl
  rcases qP:((i2:Int)==(r:Int))
  ·have Ht:i2≠r:=by intro h;rw[h] at qP;simp at qP
   rcases TX:(cU==0)
   ·have oa:okF ((cU,dc),(hj,kV)):=TV _ (dy bb);simp only[go_sem,go_sem_proc,EH,ay,F,G,y4,y5,y6,xE,AH,aaQ,t1,t2,t3,t4,TW,nJ,Hv,qP,TX,dZ];refine azE T y2 nL oK go N r c i2 mem EE EF fA (rA++ff.drop i2) qN x y gh qO bf Ht pf m8 cU dc hj kV oa _ _ (gk (bU 148013)) ?_ ?_ ?_ ?_ ?_ ?_ ?_ ?_ ?_ ?_ ((xF.own (.inr (.inr rfl))).own (.inr (.inr rfl))) ?_
    ·exact ay
    ·exact F
    ·exact G
    ·rfl
    ·rfl
    ·exact y4
    ·exact y5
    ·exact y6
    ·rfl
    ·simp[a5]
    ·intro tm' m' l b eU cy dw aaS azM azN th Kw wg;refine ai ?_;repeat' (intro (ao:_=_)<;>simp only[ao,go_sem,go_sem_proc,ay,F,G,eU,cy,dw,aaS,azM,azN,hw]<;>try refine ag ?_ ?_)
     refine⟨(i2+1,rA++[(y.1,y.2.1,l)],b),by dsimp only;omega,by dsimp only;omega,by simp[lv],?_,by dsimp only;rw[Bu];exact Kw,by dsimp only;rw[Bu,mr,aa Ht];exact bf,rfl,?_⟩
     ·have aaR:¬ (i2==r||hd (cellOf y c))=true:=by
       rw[yQ];have F:hd ((cU,dc),(hj,kV))=false:=TX;have G:(i2==r)=false:=by simpa using Ht
       rw[F,G];simp
      rw[md,vT];simp only[jl];rw[aa aaR,yQ,<-th,g8]
      rfl
     ·dsimp only;rw[Bu];exact wg
   ·refine ai ?_;repeat' (intro (ao:_=_)<;>simp only[ao,go_sem,go_sem_proc,EH,ay,F,G,y4,y5,y6,xE,AH,aaQ,t1,t2,t3,t4,TW,nJ,Hv,hw,qP,TX,dZ]<;>try refine ag ?_ ?_)
    refine⟨(i2+1,rA++[y],m8),by dsimp only;omega,by dsimp only;omega,by simp[lv],y8 true (λ_ => .inr TX) rfl,by dsimp only;rw[Ky];exact qN,by dsimp only;rw[Ky];exact bf,rfl,?_⟩
    dsimp only;rw[Ky];exact (xF.own (.inr (.inr rfl))).own (.inr (.inr rfl))
  ·have Ht:i2=r:=by have h:=beq_iff_eq.1 qP;omega
   refine ai ?_;repeat' (intro (ao:_=_)<;>simp only[ao,go_sem,go_sem_proc,EH,ay,F,G,y4,y5,y6,xE,AH,aaQ,t1,t2,t3,t4,TW,nJ,Hv,hw,qP,dZ]<;>try refine ag ?_ ?_)
   refine⟨(i2+1,rA++[y],m8),by dsimp only;omega,by dsimp only;omega,by simp[lv],y8 true (λ_ => .inl Ht) rfl,by dsimp only;rw[Ky];exact qN,by dsimp only;rw[Ky];exact bf,rfl,?_⟩
   dsimp only;rw[Ky];exact (xF.own (.inr (.inr rfl))).own (.inr (.inr rfl))
 ·have cP:i2=N:=by omega
  have nJ:decide ((i2:Int)<(N:Int))=false:=b7;have R3:ff.drop i2=[]:=lM (by omega);rw[R3] at md xF;simp only[jl,hD] at md xF;rw[md] at db;refine ai ?_;repeat' (intro (ao:_=_)<;>simp only[ao,go_sem,go_sem_proc,ay,F,G,y4,y5,y6,xE,AH,nJ]<;>try refine ag ?_ ?_)
  exact db _ _ xF
def azO (T:ba)(y2:T DQ=EB CL)(tB:T Gr=aK Ep){K:eK->bc->Prop}{kk:List fT}
  (go N r c:Nat) (mem:Mem) (EE:mem 168004=none) (EF:mem 168006=none) (fA:N<=40) (pf:r<N) (gF:List dz) (Kz:ld N gF) (x:dz) (wi:gF[r]?=some x) (f1:Int) (f2:List Int) (f3:Int) (f4:List Int) (gw:okF ((f1,f2),(f3,f4))) (tm:Nat->M) (m:Mem) (bs:Nat)
  (bx:tm 0=.ptr 129015 0 0) (au:tm 1=.H (.int .i64 r)) (aC:tm 2=.H (.int .i64 c)) (ee:tm 8=.ptr 148008 bs 0) (akJ:tm 85=.ref (x.1+900000) x.2.1 4 0 (N+1)) (akK:tm 86=.H (.int .i64 ((N+1:Nat):Int))) (akL:tm 87=.H (.int .i64 0))
  (em:m 148008=some (bs,[.H (.int .i64 f1),.H (.ax (f2.map aI)),.H (.int .i64 f3),.H (.ax (f4.map aI))])) (hc:lA mem go N gF false m)
  (db:∀tm' m',tm' 0=.ptr 129015 0 0->tm' 1=.H (.int .i64 r)->tm' 2=.H (.int .i64 c)->ld N (gF.set r (x.1,x.2.1,(hJ ((f1,f2),(f3,f4)) x.2.2).1))->lA mem go N (gF.set r (x.1,x.2.1,(hJ ((f1,f2),(f3,f4)) x.2.2).1)) (hJ ((f1,f2),(f3,f4)) x.2.2).2 m'->cg T K kk (.exit 2) ⟨tm',m'⟩) :
  wp T (Ax.body.sub [1,1,1,1,1,1,0,1,0]) (cg T K kk) ⟨tm,m⟩:=by
 simp only[Ax,er.sub];obtain⟨zS,y9⟩:=Kz.row x (dy wi)
 have azP:∀l:List bz,(gF.set r (x.1,x.2.1,l))[r]?=some (x.1,x.2.1,l):=λl=>by
  rw[mr,Y rfl,Y (by rw[Kz.len];exact pf)]
 refine dd [0,1,2,8,85,86] [148008] (λ(k:Nat) tm m=>k<=N+1/\tm 87=.H (.int .i64 k)/\lA mem go N (gF.set r (x.1,x.2.1,(x.2.2.take k).map (λf=>(gn f ((f1,f2),(f3,f4))).1)++x.2.2.drop k)) ((x.2.2.take k).any λf=>(gn f ((f1,f2),(f3,f4))).2 != 0) m) (λk=>N+1-k) 0 (by
  refine⟨fL _,akL,?_⟩;have e:gF.set r (x.1,x.2.1,(x.2.2.take 0).map (λf=>(gn f ((f1,f2),(f3,f4))).1)++x.2.2.drop 0)=gF:=aaK wi;rw[e];exact hc) ?_
 intro vs ms aQ aM;simp only[go_sem,go_sem_proc,bx,au,aC,ee,akJ,akK,em] at aQ aM;subst aQ aM;clear bx au aC ee akJ akK akL em hc tm m;rintro k tm m I hm ⟨pX,akM,hc⟩;simp only[go_sem,go_sem_proc,bj] at I hm;obtain⟨ay,F,G,cS,akN,akO⟩:=I
 have ew:((x.2.2.take k).map (λf=>(gn f ((f1,f2),(f3,f4))).1)++x.2.2.drop k).length=N+1:=by
  rw[gC,al,gP,oz];omega
 have Hw:ld N (gF.set r (x.1,x.2.1,(x.2.2.take k).map (λf=>(gn f ((f1,f2),(f3,f4))).1)++x.2.2.drop k)):=by
  refine Kz.set wi ew λf aH=>?_;rw[jH] at aH;rcases aH with aH|aH
  ·obtain⟨hR,-,rfl⟩:=gm.1 aH;exact TU _ _
  ·exact y9 f (JO aH)
 have jU:=azP ((x.2.2.take k).map (λf=>(gn f ((f1,f2),(f3,f4))).1)++x.2.2.drop k);rcases dn (k<N+1) with aaT|azQ
 ·obtain⟨⟨⟨cz,cY⟩,⟨eA,eQ⟩⟩,wh⟩:∃f,x.2.2[k]?=some f:=⟨_,bh (by omega)⟩;have aaN:=(azB (λf=>(gn f ((f1,f2),(f3,f4))).1) (l:=x.2.2) (k:=k)).trans wh;have iO:=azA (λf=>(gn f ((f1,f2),(f3,f4))).1) wh
  have M0:(x.2.2.take (k+1)).any (λf=>(gn f ((f1,f2),(f3,f4))).2 != 0)=((x.2.2.take k).any (λf=>(gn f ((f1,f2),(f3,f4))).2 != 0)||(gn ((cz,cY),(eA,eQ)) ((f1,f2),(f3,f4))).2 != 0):=by
   rw[hZ,wh,List.any_append];simp
  obtain⟨azR,azS⟩:=y9 _ (dy wh);generalize (x.2.2.take k).map (λf=>(gn f ((f1,f2),(f3,f4))).1)++x.2.2.drop k=cur at *;generalize ((x.2.2.take k).any λf=>(gn f ((f1,f2),(f3,f4))).2 != 0)=m8 at *;have xE:=hc.1.m;have AH:=hc.1.o;have azT:=hc.1.r _ (dy jU);have fV:m 168004=none:=(hc.2 _ aaL).trans EE;have l4:m 168006=none:=(hc.2 _ aaM).trans EF;have t1:=Kv (N:=N) jU;have t2:=Hs (N:=N) (rows:=gF.set r (x.1,x.2.1,cur)) (i:=r) (by rw[Hw.len];exact pf);have t3:=Hq aaN;have t4:=AF (l:=cur) (k:=k) (by omega);have CP:decide ((k:Int)<((N+1:Nat):Int))=true:=cX;have hw:=eI (i:=k) (by omega);generalize rj:gn ((cz,cY),(eA,eQ)) ((f1,f2),(f3,f4))=V at *;obtain⟨⟨⟨v1,v2⟩,⟨jy,v4⟩⟩,vX⟩:=V;dsimp only at iO M0;have t5:=Hr (l:=cur) (k:=k) (by omega) v1 v2 jy v4;refine ai ?_;repeat' (intro h<;>simp only[h,go_sem,go_sem_proc,y2,tB,ay,F,G,cS,akN,akO,akM,hm,xE,AH,azT,fV,l4,t1,t2,t3,t4,t5,CP,aaT,pf,hw,rj,azR,azS,gw.1,gw.2,dT,az,dZ,CL,y7,lB,decide_true,decide_false,akH,ne_eq,not_false_eq_true,and_self]<;>try refine ag ?_ ?_)
  have au:=lA.set Hw jU (cur.set k ((v1,v2),(jy,v4))) (((hc.own (k:=148010) (g:=gk (m 148010)) (cs:=[M.H (Data.int IntKind.i64 0),M.nil,M.H (Data.int IntKind.i64 0),M.nil]) (.inr (.inl rfl))).own (k:=148010) (g:=gk (m 148010)) (cs:=[M.H (Data.int IntKind.i64 cz),M.H (Data.ax (List.map aI cY)),M.H (Data.int IntKind.i64 eA),M.H (Data.ax (List.map aI eQ))]) (.inr (.inl rfl))).flag (m8||vX != 0));rw[akI,iO] at au;refine⟨k+1,by omega,by omega,rfl,?_⟩
  show lA mem go N _ ((x.2.2.take (k+1)).any λf=>(gn f ((f1,f2),(f3,f4))).2 != 0) _;rw[M0,iO];exact au
 ·have akP:k=N+1:=by omega
  have azU:(x.2.2.take k).map (λf=>(gn f ((f1,f2),(f3,f4))).1)++x.2.2.drop k=(hJ ((f1,f2),(f3,f4)) x.2.2).1:=by
   unfold hJ;rw[dD (by omega),lM (by omega),hD]
  have azV:((x.2.2.take k).any λf=>(gn f ((f1,f2),(f3,f4))).2 != 0)=(hJ ((f1,f2),(f3,f4)) x.2.2).2:=by
   unfold hJ;rw[dD (by omega)]
  rw[azU] at Hw hc;rw[azV] at hc;have CP:decide ((k:Int)<((N+1:Nat):Int))=false:=b7;refine ai ?_;repeat' (intro h<;>simp only[h,go_sem,go_sem_proc,ay,F,G,cS,akN,akO,akM,hm,CP]<;>try refine ag ?_ ?_)
  refine db _ _ ?_ ?_ ?_ Hw hc<;>simp only[dC,cE,if_false,ay,F,G]
end Go.Mini
