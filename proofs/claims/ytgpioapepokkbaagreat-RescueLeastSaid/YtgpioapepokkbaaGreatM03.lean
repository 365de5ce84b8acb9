/- A part of the proof. -/
import Derived.Test.YtgpioapepokkbaaGreatM02
set_option linter.unusedSimpArgs false
set_option linter.unusedVariables false
set_option maxRecDepth 100000
set_option maxHeartbeats 4000000
noncomputable section
open Bool renaming and_eq_true->e4,and_false->h6,eq_iff_iff->qL,false_and->fS,false_eq_true->kX,not_eq_false'->ahj,not_eq_true'->pU,true_and->gW
open Decidable renaming em->dA,not_not->agA
open Int renaming add_comm->yw,add_zero->sL,cast_ofNat_Int->l6,fdiv_eq_ediv_of_nonneg->agF,le_of_lt->PW,lt_trichotomy->yy,mul_add->ix,mul_assoc->iy,mul_comm->nt,mul_fdiv_add_fmod->P7,mul_ne_zero->Af,mul_neg->Ls,mul_nonneg->yv,mul_one->vI,mul_zero->ub,natAbs_mul->qH,natAbs_natCast->mL,natAbs_neg->PU,natCast_add->agw,natCast_pos->Ee,natCast_zero->lF,neg_mul->Hd,ofNat_sub->agv,one_mul->n8,pow_pos->G0,pow_succ->ns,reducePow->agE,sign_eq_neg_one_of_neg->rF,sign_eq_one_of_pos->j3,sign_eq_zero_iff_zero->WO,sign_mul->sP,sign_neg->D6,sign_sign->BX,sign_zero->yN,sub_zero->Ld,tdiv_eq_ediv_of_nonneg->GU,tdiv_nonneg->ahn,tmod_eq_emod_of_nonneg->Le,tmod_nonneg->ahm,toNat_natCast->jX,zero_mul->z7,zero_sub->agT
open List renaming all_cons->Gq,append_assoc->gM,append_nil->fC,drop_eq_getElem_cons->im,drop_set_of_lt->tG,drop_zero->l1,findIdx?_eq_none_iff->agX,findIdx?_eq_some_iff_getElem->agW,flatten_nil->ag6,getD_eq_getElem?_getD->dY,getElem?_eq_getElem->bx,getElem?_eq_none->kF,getElem?_map->bl,getElem_mem->o1,length->D,length_append->fH,length_cons->hN,length_map->al,length_nil->lD,length_pos_iff->PM,length_singleton->Cb,length_take->gf,map_cons->eG,map_nil->cV,map_take->Ah,mem_replicate->GR,mem_singleton->uc,replicate->dG,take_length->lf,take_of_length_le->dy
open List.cons renaming injEq->ba
open Nat renaming div_add_mod->PQ,div_div_eq_div_mul->ag9,div_le_self->WN,eq_zero_or_pos->k4,gcd->jr,gcd_comm->PN,gcd_rec->agt,gcd_zero_right->ags,le_of_lt->PT,le_refl->bZ,lt_of_div_lt_div->aha,lt_of_le_of_lt->vL,lt_of_lt_of_le->C6,lt_or_ge->il,lt_trans->agy,max_eq_right->Yr,min_eq_left->oE,mod_lt->qI,mul_comm->rz,mul_le_mul_right->vl,mul_lt_mul_of_pos_left->ahg,mul_one->cL,pos_of_ne_zero->PV,pow_succ->wR,reduceEqDiff->dJ,reduceMul->agD,succ_pos->agz,zero_div->WS,zero_le->fv,zero_mod->WM
open Option renaming bind_none->hK,bind_some->kK
open Option.some renaming injEq->cn
open Prod renaming ext->dT,fst->B0
open Rat renaming divInt->l9,divInt_mul_divInt->agK,neg_divInt_neg->agG,num_divInt_den->Ej,sub_eq_add_neg->Hg
namespace Go.Mini
open Go
theorem mK (x:Int):(x.sign=1/\0<x)\/(x.sign=0/\x=0)\/(x.sign = -1/\x<0):=by
 rcases yy x 0 with h|h|h
 ·exact .inr (.inr ⟨rF h,h⟩)
 ·exact .inr (.inl ⟨by rw[h];rfl,h⟩)
 ·exact .inl ⟨j3 h,h⟩
def xa (a b:Raw):Int:=if (dD a&&dD b)=true then hH (iA a) (iA b) else 0
theorem agr {x y:Int}(Q:x.natAbs<ee)(av:y.natAbs<ee):xa (bQ x) (bQ y)=hH x y:=by
 unfold xa;rw[ld Q,ld av,fQ,fQ]
 rfl
theorem Lp {x y:Int}(h:x<y):hH x y = -1:=by unfold hH;rw[ad (by simpa using h)]
theorem Lq {x y:Int}(h:y<x):hH x y=1:=by unfold hH;rw[ag (by simp;omega),ad (by simpa using h)]
theorem PJ (x:Int):hH x x=0:=by unfold hH;simp
def WJ:=ck vS λ(s,l,s2,ak)=>cR (D l<=1000000/\D ak<=1000000) (.same (.int .i64 (xa (s,l) (s2,ak))))
@[go_sem] theorem aKX (s:Int)(l:List Int)(s2:Int)(ak:List Int)(H:(D l)<=1000000/\D ak<=1000000):WJ [.agg [.int .i64 s,.Y (l.map ae)],.agg [.int .i64 s2,.Y (ak.map ae)]]=some (.same (.int .i64 (xa (s,l) (s2,ak)))):=(cx yD (s,l,s2,ak)).trans (cW H _)
theorem ata (T:bd)(dI:T k7=aW wX)(n4:T GA=aW O7)(gg:T DK=aW Lb)(s:Int)(l:List Int)(s2:Int)(ak:List Int)(H:(D l)<=1000000/\D ak<=1000000):WP T Vr (.same (.int .i64 (xa (s,l) (s2,ak)))) [.J (.agg [.int .i64 s,.Y (l.map ae)]),.J (.agg [.int .i64 s2,.Y (ak.map ae)])]:=by
 refine cy ?_;simp only[Vr];obtain⟨cb,cB⟩:=H
 by_cases ab:dD (s,l)=true
 ·by_cases bC:dD (s2,ak)=true
  ·obtain⟨x,Q,e⟩:=(j2 _).1 ab;obtain⟨y,av,aD⟩:=(j2 _).1 bC;have hm:xa (s,l) (s2,ak)=hH x y:=by rw[e,aD];exact agr Q av
   rw[hm];clear hm
   cases e
   cases aD;have n9:=rG Q;have k9:=rG av;have gp:=V0 x.natAbs y.natAbs ⟨by omega,by omega⟩
   simp only[b5] at gp
   by_cases X:x.sign=y.sign
   ·have BW:(x.sign==y.sign)=true:=by simpa using X
    have vr:IntKind.i64.wrap (y.sign*hH x.natAbs y.natAbs)=hH x y:=by
     rcases mK x with ⟨e,F⟩|⟨e,F⟩|⟨e,F⟩<;>rcases mK y with ⟨e',I⟩|⟨e',I⟩|⟨e',I⟩<;>rw[e,e'] at X<;>first|omega|skip
     ·rw[e',n8,show (x.natAbs:Int)=x by omega,show (y.natAbs:Int)=y by omega]
      rcases yy x y with h|h|h
      ·rw[Lp h];rfl
      ·rw[h,PJ];rfl
      ·rw[Lq h];rfl
     ·rw[e',F,I];rfl
     ·rw[e'];rcases yy x y with h|h|h
      ·rw[Lp h,Lq (by omega)];rfl
      ·rw[h,PJ,PJ];rfl
      ·rw[Lq h,Lp (by omega)];rfl
    rw[<-X] at vr;simp only[go_sem,go_sem_proc,dI,n4,gg,ab,bC,cb,cB,BW,gp,vr];repeat' (first|refine aw ?_ ?_|fail)<;>intro h<;>simp only[h,go_sem,go_sem_proc,dI,n4,gg,ab,bC,cb,cB,BW,gp,vr]
   ·have BW:(x.sign==y.sign)=false:=by simpa using X
    have vr:hH x.sign y.sign=hH x y:=by
     rcases mK x with ⟨e,F⟩|⟨e,F⟩|⟨e,F⟩<;>rcases mK y with ⟨e',I⟩|⟨e',I⟩|⟨e',I⟩<;>rw[e,e'] at X ⊢<;>first|omega|(rw[Lp (show x<y by omega)];rfl)|(rw[Lq (show y<x by omega)];rfl)
    simp only[go_sem,go_sem_proc,dI,n4,gg,ab,bC,cb,cB,BW,vr];repeat' (first|refine aw ?_ ?_|fail)<;>intro h<;>simp only[h,go_sem,go_sem_proc,dI,n4,gg,ab,bC,cb,cB,BW,vr]
  ·have bC:dD (s2,ak)=false:=by simpa using bC
   have hm:xa (s,l) (s2,ak)=0:=by unfold xa;rw[bC,h6];rfl
   rw[hm];simp only[go_sem,go_sem_proc,dI,n4,gg,ab,bC,cb,cB];repeat' (first|refine aw ?_ ?_|fail)<;>intro h<;>simp only[h,go_sem,go_sem_proc,dI,n4,gg,ab,bC,cb,cB]
 ·have ab:dD (s,l)=false:=by simpa using ab
  have hm:xa (s,l) (s2,ak)=0:=by unfold xa;rw[ab,fS];rfl
  rw[hm];simp only[go_sem,go_sem_proc,dI,n4,gg,ab,cb,cB];repeat' (first|refine aw ?_ ?_|fail)<;>intro h<;>simp only[h,go_sem,go_sem_proc,dI,n4,gg,ab,cb,cB]
def l8 (a b:Raw):Raw×Int:=if (dD a&&dD b)=true then (bQ (jr (iA a).natAbs (iA b).natAbs:Nat),0) else ((0,[]),1)
theorem Lr {x y:Int}(Q:x.natAbs<ee)(av:y.natAbs<ee):jr x.natAbs y.natAbs<ee:=by
 rcases k4 x.natAbs with h|h
 ·rw[h,Nat.gcd_zero_left];exact av
 ·exact vL (Nat.gcd_le_left _ h) Q
def PK:=ck vS λ(s,l,s2,ak)=>cR (D l<=1000000/\D ak<=1000000) (.same (fR (l8 (s,l) (s2,ak))))
@[go_sem] theorem aKY (s:Int)(l:List Int)(s2:Int)(ak:List Int)(H:(D l)<=1000000/\D ak<=1000000):PK [.agg [.int .i64 s,.Y (l.map ae)],.agg [.int .i64 s2,.Y (ak.map ae)]]=some (.same (fR (l8 (s,l) (s2,ak)))):=(cx yD (s,l,s2,ak)).trans (cW H _)
theorem atb (T:bd)(dI:T k7=aW wX)(eN:T sG=aW zT)(oa:T KM=aW Pn)(fD:T o9=aW BE)(m5:T vz=aW Ln)(s:Int)(l:List Int)(s2:Int)(ak:List Int)(H:(D l)<=1000000/\D ak<=1000000):WP T Vm (.same (fR (l8 (s,l) (s2,ak)))) [.J (.agg [.int .i64 s,.Y (l.map ae)]),.J (.agg [.int .i64 s2,.Y (ak.map ae)])]:=by
 refine cy ?_;simp only[Vm];obtain⟨cb,cB⟩:=H
 by_cases ab:dD (s,l)=true
 ·by_cases bC:dD (s2,ak)=true
  ·obtain⟨x,Q,e⟩:=(j2 _).1 ab;obtain⟨y,av,aD⟩:=(j2 _).1 bC
   have hm:l8 (s,l) (s2,ak)=(bQ (jr x.natAbs y.natAbs:Nat),0):=by
    rw[e,aD];unfold l8
    rw[ld Q,ld av,fQ,fQ]
    rfl
   rw[hm];clear hm
   cases e
   cases aD;have n9:=rG Q;have k9:=rG av;have a7:=Lr Q av;generalize ny:x.natAbs=dd at *;generalize z6:y.natAbs=gi at *;have WK:(aM dd).length<=1000000:=by omega
   simp only[go_sem,go_sem_proc,dI,eN,oa,fD,m5,ab,bC,ny,z6,cb,cB,WK,ae,al];refine dn [4] [137004] (λ((a,b):Nat×Nat) tm mem=>a<ee/\b<ee/\jr dd gi=jr a b/\tm 6=.J (.Y ((aM a).map ae))/\tm 7=.J (.Y ((aM b).map ae))) (λ(_,b)=>b) (dd,gi) (by refine⟨Q,av,rfl,rfl,rfl⟩) ?_;intro vs ms aV aS;simp only[go_sem,go_sem_proc,dI,eN,oa,fD,m5,ny,z6] at aV aS;subst aV aS;rintro⟨a,b⟩ tm mem O hm ⟨aP,ah,xb,bK,bP⟩;simp only[go_sem,go_sem_proc,dI,eN,oa,fD,m5,ba] at O hm;have aO:=O;have iX:(aM a).length<=60:=g3.2 aP;have kL:(aM b).length<=60:=g3.2 ah;rcases k4 b with ao|h3
   ·subst ao;have aX:aM 0=[]:=rfl;have WL:(aM a).length<=1000000:=by omega
    rw[ags] at xb;have X:kp 1 (aM a)=bQ ((a:Nat):Int):=pQ (by simp) λaL=>(j3 (by omega)).symm;have O:sN ((a:Nat):Int)=(bQ ((a:Nat):Int),0):=by unfold sN;rw[ad (by simpa using aP)]
    rw[xb];refine a0 ?_;repeat' (intro h<;>simp only[h,go_sem,go_sem_proc,dI,eN,oa,fD,m5,aO,bK,bP,hm,aX,WL,X,O,BT,db,fR,nA,cV,lD,lF,l6,show ¬ ((0:Int)>0) by omega,decide_false]<;>try refine aw ?_ ?_)
   ·have bG:decide (((aM b).length:Int)>0)=true:=by
     have:aM b≠[]:=by rw[Ne,zJ];omega
     have:=PM.2 this;exact di
    have hdiv:=af9 a b ⟨by omega,by omega,h3⟩
    simp only[b5] at hdiv;refine a0 ?_;repeat' (intro h<;>simp only[h,go_sem,go_sem_proc,dI,eN,oa,fD,m5,aO,bK,bP,hm,bG,hdiv,al]<;>try refine aw ?_ ?_)
    exact⟨(b,a%b),qI _ h3,ah,vL (Nat.mod_le _ _) aP,by dsimp only;rw[xb,PN a b,agt b a,PN],rfl,rfl⟩
  ·have bC:dD (s2,ak)=false:=by simpa using bC
   have hm:l8 (s,l) (s2,ak)=((0,[]),1):=by unfold l8;rw[bC,h6];rfl
   rw[hm];have oK:=Hb false 0 [];simp only[cV] at oK;refine a0 ?_;repeat' (intro h<;>simp only[h,go_sem,go_sem_proc,dI,eN,oa,fD,m5,ab,bC,cb,cB,oK,db,fR,cV]<;>try refine aw ?_ ?_)
 ·have ab:dD (s,l)=false:=by simpa using ab
  have hm:l8 (s,l) (s2,ak)=((0,[]),1):=by unfold l8;rw[ab,fS];rfl
  rw[hm];have oK:=Hb false 0 [];simp only[cV] at oK;refine a0 ?_;repeat' (intro h<;>simp only[h,go_sem,go_sem_proc,dI,eN,oa,fD,m5,ab,cb,cB,oK,db,fR,cV]<;>try refine aw ?_ ?_)
def kO (a b:Raw):Raw×Raw×Int :=
 if (dD a&&dD b)=true then
  if iA b=0 then ((0,[]),(0,[]),15) else (bQ ((iA a).fdiv (iA b)),bQ ((iA a).fmod (iA b)),0)
 else ((0,[]),(0,[]),1)
def hl (x:Raw×Raw×Int):Data:=.cI [.agg (db x.1),.agg (db x.2.1),.int .i64 x.2.2]
theorem agu {x y q r:Int}(h:r+y*q=x)(ab:(0<=r/\r<y)\/(y<r/\r<=0)):x.fdiv y=q/\x.fmod y=r:=by
 rcases ab with ⟨F,I⟩|⟨F,I⟩
 ·exact (Int.fdiv_fmod_unique (by omega)).2 ⟨h,F,I⟩
 ·exact (Int.fdiv_fmod_unique' (by omega)).2 ⟨h,F,I⟩
theorem PO {x y:Int}(h:x.sign*y.sign<0)(hm:x.natAbs%y.natAbs≠0):
  x.fdiv y = -((x.natAbs/y.natAbs+1:Nat):Int)/\x.fmod y=y.sign*((y.natAbs-x.natAbs%y.natAbs:Nat):Int):=by
 have I:=PQ x.natAbs y.natAbs;generalize e5:x.natAbs/y.natAbs=aN at *;generalize gE:x.natAbs%y.natAbs=bU at *
 have av:0<y.natAbs:=by
  rcases k4 y.natAbs with ao|ao
  ·rw[Int.natAbs_eq_zero.1 ao] at h;simp at h
  ·exact ao
 have ay:bU<y.natAbs:=by rw[<-gE];exact qI _ av
 have su:(y.natAbs:Int)*aN+bU=x.natAbs:=by exact_mod_cast I
 refine agu ?_ ?_
 ·rcases mK x with ⟨e,F⟩|⟨e,F⟩|⟨e,F⟩<;>rcases mK y with ⟨e',af⟩|⟨e',af⟩|⟨e',af⟩<;>rw[e,e'] at h<;>first|omega|rw[e']
  ·rw[agv (by omega),agw,Ls,ix];have:(y.natAbs:Int) = -y:=by omega
   rw[this] at su ⊢;rw[Hd] at su;omega
  ·rw[agv (by omega),agw,Ls,ix];have:(y.natAbs:Int)=y:=by omega
   rw[this] at su ⊢;omega
 ·rcases mK y with ⟨e',af⟩|⟨e',af⟩|⟨e',af⟩<;>rw[e']<;>omega
theorem PR {x y:Int}(av:y≠0)(h:¬ (x.sign*y.sign<0/\x.natAbs%y.natAbs≠0)):
  x.fdiv y=x.sign*y.sign*((x.natAbs/y.natAbs:Nat):Int)/\x.fmod y=x.sign*((x.natAbs%y.natAbs:Nat):Int):=by
 have I:=PQ x.natAbs y.natAbs;have ay:x.natAbs%y.natAbs<y.natAbs:=qI _ (by omega);generalize e5:x.natAbs/y.natAbs=aN at *;generalize gE:x.natAbs%y.natAbs=bU at *;have su:(y.natAbs:Int)*aN+bU=x.natAbs:=by exact_mod_cast I
 refine agu ?_ ?_
 ·rcases mK x with ⟨e,F⟩|⟨e,F⟩|⟨e,F⟩<;>rcases mK y with ⟨e',af⟩|⟨e',af⟩|⟨e',af⟩<;>first|omega|(rw[e,e'])
  ·rw[show (y.natAbs:Int)=y by omega] at su;simp only[n8];omega
  ·rw[show (y.natAbs:Int) = -y by omega,Hd] at su;simp only[n8,Hd,Ls];omega
  ·simp only[z7,ub];omega
  ·simp only[z7,ub];omega
  ·rw[show (y.natAbs:Int)=y by omega] at su;simp only[n8,Hd,Ls,vI];omega
  ·rw[show (y.natAbs:Int) = -y by omega,Hd] at su;simp only[n8,Hd,Ls,Int.neg_neg];omega
 ·have asM:x.natAbs=0->bU=0:=by
   intro ao;rw[<-gE,ao,WM]
  rcases mK x with ⟨e,F⟩|⟨e,F⟩|⟨e,F⟩<;>rcases mK y with ⟨e',af⟩|⟨e',af⟩|⟨e',af⟩<;>rw[e,e'] at h<;>rw[e]<;>omega
theorem He {x y:Int}(Q:x.natAbs<ee)(iY:y≠0):(x.fdiv y).natAbs<ee:=by
 by_cases h:x.sign*y.sign<0/\x.natAbs%y.natAbs≠0
 ·have aI:=(PO h.1 h.2).1;have I:=PQ x.natAbs y.natAbs
  have:x.natAbs/y.natAbs+1<=x.natAbs:=by
   have atc:2<=y.natAbs:=by
    rcases il y.natAbs 2 with ao|ao
    ·have:y.natAbs=1:=by omega
     rw[this,Nat.mod_one] at h;exact absurd rfl h.2
    ·exact ao
   have af:2*(x.natAbs/y.natAbs)<=y.natAbs*(x.natAbs/y.natAbs):=vl _ atc;omega
  generalize x.natAbs/y.natAbs=aN at *;omega
 ·have aI:=(PR iY h).1;have af:x.natAbs/y.natAbs<=x.natAbs:=WN _ _
  have aO:(x.fdiv y).natAbs<=x.natAbs/y.natAbs:=by
   rw[aI,qH,qH,mL];have F:x.sign.natAbs<=1:=by have:=rH x;omega
   have I:y.sign.natAbs<=1:=by have:=rH y;omega
   have:=Nat.mul_le_mul F I;have:=vl (x.natAbs/y.natAbs) this;omega
  omega
theorem agx {x y:Int}(av:y.natAbs<ee)(iY:y≠0):(x.fmod y).natAbs<ee:=by
 by_cases h:x.sign*y.sign<0/\x.natAbs%y.natAbs≠0
 ·have aI:=(PO h.1 h.2).2;rcases mK y with ⟨e',af⟩|⟨e',af⟩|⟨e',af⟩<;>rw[e'] at aI<;>omega
 ·have aI:=(PR iY h).2;have ay:x.natAbs%y.natAbs<y.natAbs:=qI _ (by omega);rcases mK x with ⟨e',af⟩|⟨e',af⟩|⟨e',af⟩<;>rw[e'] at aI<;>omega
theorem Eb {x y:Int}(Q:x.natAbs<ee)(av:y.natAbs<ee)(ao:y≠0):kO (bQ x) (bQ y)=(bQ (x.fdiv y),bQ (x.fmod y),0):=by
 unfold kO;rw[ld Q,ld av,fQ,fQ,ad (by rfl),ag ao]
def PS:=ck vS λ(s,l,s2,ak)=>cR (D l<=1000000/\D ak<=1000000) (.same (hl (kO (s,l) (s2,ak))))
@[go_sem] theorem aKZ (s:Int)(l:List Int)(s2:Int)(ak:List Int)(H:(D l)<=1000000/\D ak<=1000000):PS [.agg [.int .i64 s,.Y (l.map ae)],.agg [.int .i64 s2,.Y (ak.map ae)]]=some (.same (hl (kO (s,l) (s2,ak)))):=(cx yD (s,l,s2,ak)).trans (cW H _)
theorem atd (T:bd)(dI:T k7=aW wX)(oa:T KM=aW Pn)(mI:T KO=aW Pb)(mJ:T Gz=aW Pc)(fD:T o9=aW BE)(s:Int)(l:List Int)(s2:Int)(ak:List Int)(H:(D l)<=1000000/\D ak<=1000000):WP T Vq (.same (hl (kO (s,l) (s2,ak)))) [.J (.agg [.int .i64 s,.Y (l.map ae)]),.J (.agg [.int .i64 s2,.Y (ak.map ae)])]:=by
 refine cy ?_;simp only[Vq];obtain⟨cb,cB⟩:=H
 by_cases ab:dD (s,l)=true
 ·by_cases bC:dD (s2,ak)=true
  ·obtain⟨x,Q,e⟩:=(j2 _).1 ab;obtain⟨y,av,aD⟩:=(j2 _).1 bC
   by_cases iY:y=0
   ·have hm:kO (s,l) (s2,ak)=((0,[]),(0,[]),15):=by
     rw[e,aD];unfold kO
     rw[ld Q,ld av,fQ,fQ,ad (by rfl),ad iY]
    rw[hm]
    cases e
    cases aD;have ao:((y.sign:Int)==0)=true:=by rw[iY];rfl
    simp only[go_sem,go_sem_proc,dI,oa,mI,mJ,fD,ab,bC,cb,cB,ao,db,hl,cV];repeat' (first|refine aw ?_ ?_|fail)<;>intro h<;>simp only[h,go_sem,go_sem_proc,dI,oa,mI,mJ,fD,ab,bC,cb,cB,ao,db,hl,cV]
   ·have hm:kO (s,l) (s2,ak)=(bQ (x.fdiv y),bQ (x.fmod y),0):=by
     rw[e,aD];exact Eb Q av iY
    rw[hm];clear hm
    cases e
    cases aD;have n9:=rG Q;have k9:=rG av;have ug:(y.sign==0)=false:=by rw[beq_eq_false_iff_ne,Ne,WO];exact iY
    have Ec:0<y.natAbs:=by omega
    have F:=rH x;have I:=rH y;have aF:x.sign*y.sign=(x*y).sign:=(sP x y).symm;have af:=rH (x*y);have hw:IntKind.i64.wrap (x.sign*y.sign)=x.sign*y.sign:=by rw[aF];exact wrap64 _ (by omega) (by omega)
    have hdiv:=af9 x.natAbs y.natAbs ⟨by omega,by omega,Ec⟩
    simp only[b5] at hdiv;have aT:=He (y:=y) Q iY;have yF:=agx (x:=x) av iY;have WQ:x.natAbs/y.natAbs<ee:=vL (WN _ _) Q;have ate:(aM (x.natAbs/y.natAbs)).length<=60:=g3.2 WQ;have Ed:x.natAbs%y.natAbs<ee:=agy (qI _ Ec) av;have atf:(aM (x.natAbs%y.natAbs)).length<=60:=g3.2 Ed
    by_cases uh:x.sign*y.sign<0/\x.natAbs%y.natAbs≠0
    ·obtain⟨eq,ui⟩:=PO uh.1 uh.2
     have bG:decide (((aM (x.natAbs%y.natAbs)).length:Int)>0)=true:=by
      have:aM (x.natAbs%y.natAbs)≠[]:=by rw[Ne,zJ];exact uh.2
      have:=PM.2 this;exact di
     have kM:decide (x.sign*y.sign<0)=true:=lq uh.1;have jZ:aM 1=[1]:=by simp[aM,yn]
     have atg:(aM 1).length=1:=by rw[jZ];rfl
     have iL:=afE (x.natAbs/y.natAbs) 1 ⟨by omega,by omega⟩
     simp only[b5,jZ,eG,cV,ae] at iL;have j0:=V7 y.natAbs (x.natAbs%y.natAbs) ⟨by omega,PT (qI _ Ec)⟩
     simp only[b5] at j0
     have iX:(aM (x.natAbs/y.natAbs+1)).length<=1000000:=by
      have:(x.natAbs/y.natAbs+1)<ee:=by rw[eq] at aT;rw[PU,mL] at aT;exact aT
      have:=(g3 (k:=60)).2 this;omega
     have kL:(aM (y.natAbs-x.natAbs%y.natAbs)).length<=1000000:=by have:=PH y.natAbs (x.natAbs%y.natAbs);omega
     have hx:kp (-1) (aM (x.natAbs/y.natAbs+1))=bQ (x.fdiv y):=pQ (by rw[eq,PU,mL]) λ_=>by rw[eq,D6,j3 (show (0:Int)<((x.natAbs/y.natAbs+1:Nat):Int) by exact Ee.2 (agz _))]
     have hy:kp y.sign (aM (y.natAbs-x.natAbs%y.natAbs))=bQ (x.fmod y):=by
      refine pQ ?_ λaL=>?_
      ·rw[ui];rcases mK y with ⟨e',af⟩|⟨e',af⟩|⟨e',af⟩<;>rw[e']<;>omega
      ·rw[ui,sP,BX,j3 (show (0:Int)<((y.natAbs-x.natAbs%y.natAbs:Nat):Int) by omega),vI]
     simp only[go_sem,go_sem_proc,dI,oa,mI,mJ,fD,ab,bC,cb,cB,ug,hw,hdiv,bG,kM,iL,j0,iX,kL,hx,hy,ae,al,db,hl,nA];repeat' (first|refine aw ?_ ?_|fail)<;>intro h<;>simp only[h,go_sem,go_sem_proc,dI,oa,mI,mJ,fD,ab,bC,cb,cB,ug,hw,hdiv,bG,kM,iL,j0,iX,kL,hx,hy,ae,al,db,hl,nA]
    ·obtain⟨eq,ui⟩:=PR iY uh
     have WR:(decide (x.sign*y.sign<0)=true/\decide (((aM (x.natAbs%y.natAbs)).length:Int)>0)=false)\/decide (x.sign*y.sign<0)=false:=by
      by_cases aL:x.sign*y.sign<0
      ·left
       have:x.natAbs%y.natAbs=0:=agA.1 λh=>uh ⟨aL,h⟩;rw[this];exact⟨lq aL,rfl⟩
      ·right;exact mq aL
     have iX:(aM (x.natAbs/y.natAbs)).length<=1000000:=by omega
     have kL:(aM (x.natAbs%y.natAbs)).length<=1000000:=by omega
     have hx:kp (x.sign*y.sign) (aM (x.natAbs/y.natAbs))=bQ (x.fdiv y):=by
      refine pQ ?_ λaL=>?_
      ·rw[eq]
       have Ef:∀aN:Nat,(x=0->aN=0)->(x.sign*y.sign*(aN:Int)).natAbs=aN:=by
        intro aN ao;rcases mK x with ⟨e,F⟩|⟨e,F⟩|⟨e,F⟩<;>rcases mK y with ⟨e',af⟩|⟨e',af⟩|⟨e',af⟩<;>rw[e,e']<;>first|omega|(rw[ao F];rfl)
       exact Ef _ λao=>by rw[ao];exact WS _
      ·rw[eq,aF,sP,sP,sP,BX,BX,j3 (show (0:Int)<((x.natAbs/y.natAbs:Nat):Int) from Ee.2 (PV aL)),vI]
     have hy:kp x.sign (aM (x.natAbs%y.natAbs))=bQ (x.fmod y):=by
      refine pQ ?_ λaL=>?_
      ·rw[ui]
       have Ef:∀aN:Nat,(x=0->aN=0)->(x.sign*(aN:Int)).natAbs=aN:=by
        intro aN ao;rcases mK x with ⟨e,F⟩|⟨e,F⟩|⟨e,F⟩<;>rw[e]<;>first|omega|(rw[ao F];rfl)
       exact Ef _ λao=>by rw[ao];exact WM _
      ·rw[ui,sP,BX,j3 (show (0:Int)<((x.natAbs%y.natAbs:Nat):Int) from Ee.2 (PV aL)),vI]
     rcases WR with ⟨xc,Lt⟩|xc
     ·simp only[go_sem,go_sem_proc,dI,oa,mI,mJ,fD,ab,bC,cb,cB,ug,hw,hdiv,xc,Lt,iX,kL,hx,hy,ae,al,db,hl,nA];repeat' (first|refine aw ?_ ?_|fail)<;>intro h<;>simp only[h,go_sem,go_sem_proc,dI,oa,mI,mJ,fD,ab,bC,cb,cB,ug,hw,hdiv,xc,Lt,iX,kL,hx,hy,ae,al,db,hl,nA]
     ·simp only[go_sem,go_sem_proc,dI,oa,mI,mJ,fD,ab,bC,cb,cB,ug,hw,hdiv,xc,iX,kL,hx,hy,ae,al,db,hl,nA];repeat' (first|refine aw ?_ ?_|fail)<;>intro h<;>simp only[h,go_sem,go_sem_proc,dI,oa,mI,mJ,fD,ab,bC,cb,cB,ug,hw,hdiv,xc,iX,kL,hx,hy,ae,al,db,hl,nA]
  ·have bC:dD (s2,ak)=false:=by simpa using bC
   have hm:kO (s,l) (s2,ak)=((0,[]),(0,[]),1):=by unfold kO;rw[bC,h6];rfl
   rw[hm];simp only[go_sem,go_sem_proc,dI,oa,mI,mJ,fD,ab,bC,cb,cB,db,hl,cV];repeat' (first|refine aw ?_ ?_|fail)<;>intro h<;>simp only[h,go_sem,go_sem_proc,dI,oa,mI,mJ,fD,ab,bC,cb,cB,db,hl,cV]
 ·have ab:dD (s,l)=false:=by simpa using ab
  have hm:kO (s,l) (s2,ak)=((0,[]),(0,[]),1):=by unfold kO;rw[ab,fS];rfl
  rw[hm];simp only[go_sem,go_sem_proc,dI,oa,mI,mJ,fD,ab,cb,cB,db,hl,cV];repeat' (first|refine aw ?_ ?_|fail)<;>intro h<;>simp only[h,go_sem,go_sem_proc,dI,oa,mI,mJ,fD,ab,cb,cB,db,hl,cV]
def dw (n:Int):Prop:=-9223372036854775808<=n/\n<=9223372036854775807
theorem ath {n:Nat}(h:n<=9223372036854775808):n<ee:=by
 unfold ee;refine C6 (m:=1048576^4) ?_ (Nat.pow_le_pow_right (by omega) (by omega));omega
theorem yG {n:Int}(h:dw n):n.natAbs<ee:=ath (by unfold dw at h;omega)
theorem WT (n:Int)(F:-18446744073709551616<=n)(I:n<0):IntKind.u64.wrap n=n+18446744073709551616:=by
 unfold IntKind.wrap;simp[IntKind.bits,IntKind.signed];omega
def WU:=ck vH λ(n:Int)=>cR (dw n) (.same (.agg (db (bQ n))))
@[go_sem] theorem aK0 (n:Int)(H:dw n):WU [.int .i64 n]=some (.same (.agg (db (bQ n)))):=(cx yq n).trans (cW H _)
theorem ati (T:bd)(fD:T o9=aW BE)(n:Int)(H:dw n):WP T Vo (.same (.agg (db (bQ n)))) [.J (.int .i64 n)]:=by
 refine cy ?_;simp only[Vo];have lX:=H;unfold dw at lX;obtain⟨oC,vf⟩:=lX;have X:∀s:Int,(n≠0->s=n.sign)->kp s (aM n.natAbs)=bQ n:=λs h=>pQ rfl λbG=>h (by omega);have hlen:(aM n.natAbs).length<=60:=g3.2 (yG H);rcases dA (n<0) with kM|h3
 ·have hw:=WT n (by omega) kM
  have fz:IntKind.u64.wrap (0-(n+18446744073709551616))=(n.natAbs:Int):=by
   rw[WT _ (by omega) (by omega)];omega
  simp only[go_sem,go_sem_proc,fD,kM,hw,fz,decide_true];refine dn [2,3] [150002] (λ((u,g,l):Nat×Nat×List Int) tm mem=>u<=9223372036854775808/\aM n.natAbs=l++aM u/\tm 4=.J (.int .u64 u)/\tm 5=.ref 150021 g 1 0 (D l)/\mem 150021=some (g,bc ae l)) (λ(u,_)=>u) (n.natAbs,0,[]) (by refine⟨by omega,rfl,?_,rfl,rfl⟩;rfl) ?_;intro vs ms aV aS;simp only[go_sem,go_sem_proc,fD] at aV aS;subst aV aS;rintro⟨u,g,l⟩ tm mem O hm ⟨hu,aa,aO,bm,z8⟩;simp only[go_sem,go_sem_proc,fD,ba] at O hm;obtain⟨I,af⟩:=O;rcases k4 u with ao|ue
  ·subst ao;rw[sF,fC] at aa;rw[aa] at X hlen;have vT:(D l)<=1000000:=by omega
   have iV:=X (-1) (λ_=>by exact (rF kM).symm);simp only[go_sem,go_sem_proc,fD,I,af,aO,bm,hm,z8,iV,vT,db,lF,l6,al,show ¬ ((0:Int)>0) by omega,decide_false,lE gX,lf]
   repeat' (first|refine aw ?_ ?_|fail)<;>intro h<;>simp only[h,go_sem,go_sem_proc,fD,I,af,aO,bm,hm,z8,iV,vT,db,lF,l6,al,show ¬ ((0:Int)>0) by omega,decide_false,lE gX,lf]
  ·have z3:(D l)<=60:=by
    have:=congrArg D aa;rw[fH] at this;omega
   have iW:decide ((u:Int)>0)=true:=di;have dC:∀a:Int,mx 150021 g 1 (D l) 8 1 [.J (.int .i64 a)] (some (g,bc ae l))=_:=λa=>l3 gX tR 150021 g 8 l a rfl (by omega) (by omega);have hand:=afn u ⟨by omega,by omega⟩
   have Lu:IntKind.i64.wrap ((u:Int)%1048576)=(u:Int)%1048576:=wrap64 _ (by omega) (by omega);simp only[go_sem,go_sem_proc,fD,I,af,aO,bm,hm,z8,iW,dC,hand,Lu,oI,show ((20:Int)<0)=False from by simp,if_false,al,ba]
   repeat' (first|refine aw ?_ ?_|fail)<;>intro h<;>simp only[h,go_sem,go_sem_proc,fD,I,af,aO,bm,hm,z8,iW,dC,hand,Lu,oI,show ((20:Int)<0)=False from by simp,if_false,al,ba]
   refine⟨(u/1048576,g+1,l++[(u:Int)%1048576]),by dsimp only;omega,by dsimp only;omega,by dsimp only;rw[gM,aa,vv ue];rfl,by first|rfl|(dsimp only;rw[zM _ ⟨by omega,by omega⟩];rfl),by simp,by simp[go_sem]⟩
 ·have hw:IntKind.u64.wrap n=(n.natAbs:Int):=by rw[zM _ ⟨by omega,by omega⟩];omega
  simp only[go_sem,go_sem_proc,fD,h3,hw,decide_false];refine dn [2,3] [150002] (λ((u,g,l):Nat×Nat×List Int) tm mem=>u<=9223372036854775808/\aM n.natAbs=l++aM u/\tm 4=.J (.int .u64 u)/\tm 5=.ref 150021 g 1 0 (D l)/\mem 150021=some (g,bc ae l)) (λ(u,_)=>u) (n.natAbs,0,[]) (by refine⟨by omega,rfl,?_,rfl,rfl⟩;rfl) ?_;intro vs ms aV aS;simp only[go_sem,go_sem_proc,fD] at aV aS;subst aV aS;rintro⟨u,g,l⟩ tm mem O hm ⟨hu,aa,aO,bm,z8⟩;simp only[go_sem,go_sem_proc,fD,ba] at O hm;obtain⟨I,af⟩:=O;rcases k4 u with ao|ue
  ·subst ao;rw[sF,fC] at aa;rw[aa] at X hlen;have vT:(D l)<=1000000:=by omega
   have iV:=X 1 (λ_=>by exact (j3 (by omega)).symm);simp only[go_sem,go_sem_proc,fD,I,af,aO,bm,hm,z8,iV,vT,db,lF,l6,al,show ¬ ((0:Int)>0) by omega,decide_false,lE gX,lf]
   repeat' (first|refine aw ?_ ?_|fail)<;>intro h<;>simp only[h,go_sem,go_sem_proc,fD,I,af,aO,bm,hm,z8,iV,vT,db,lF,l6,al,show ¬ ((0:Int)>0) by omega,decide_false,lE gX,lf]
  ·have z3:(D l)<=60:=by
    have:=congrArg D aa;rw[fH] at this;omega
   have iW:decide ((u:Int)>0)=true:=di;have dC:∀a:Int,mx 150021 g 1 (D l) 8 1 [.J (.int .i64 a)] (some (g,bc ae l))=_:=λa=>l3 gX tR 150021 g 8 l a rfl (by omega) (by omega);have hand:=afn u ⟨by omega,by omega⟩
   have Lu:IntKind.i64.wrap ((u:Int)%1048576)=(u:Int)%1048576:=wrap64 _ (by omega) (by omega);simp only[go_sem,go_sem_proc,fD,I,af,aO,bm,hm,z8,iW,dC,hand,Lu,oI,show ((20:Int)<0)=False from by simp,if_false,al,ba]
   repeat' (first|refine aw ?_ ?_|fail)<;>intro h<;>simp only[h,go_sem,go_sem_proc,fD,I,af,aO,bm,hm,z8,iW,dC,hand,Lu,oI,show ((20:Int)<0)=False from by simp,if_false,al,ba]
   refine⟨(u/1048576,g+1,l++[(u:Int)%1048576]),by dsimp only;omega,by dsimp only;omega,by dsimp only;rw[gM,aa,vv ue];rfl,by first|rfl|(dsimp only;rw[zM _ ⟨by omega,by omega⟩];rfl),by simp,by simp[go_sem]⟩
theorem atj (k:IntKind)(a b:Int):bits .or k a b=bits .or k b a:=by
 simp only[bits,BitVec.or_comm]
theorem atk (u d:Int)(i:Nat)(M:(2:Int)^i<=1152921504606846976)(hu:0<=u/\u<2^i)(aa:0<=d)(h:d*2^i<18446744073709551616):bits .or .u64 u (d*2^i)=u+d*2^i:=by
 rw[atj,yw];have ao:0<=d*2^i:=yv aa (by exact PW (G0 (by omega)));refine bits_join .u64 64 (by decide) (λn F I=>zM n ⟨F,by omega⟩) i _ _ ao (Int.mul_emod_left _ _) (by omega) hu.1 hu.2 (by omega)
instance (n:Int):Decidable (dw n):=by unfold dw;exact inferInstance
def sQ (a:Raw):Int×Bool:=if dD a=true/\dw (iA a) then (iA a,true) else (0,false)
def WV:=ck BD λ(s,l)=>cR (D l<=1000000) (.same (.cI [.int .i64 (sQ (s,l)).1,.bool (sQ (s,l)).2]))
@[go_sem] theorem aK1 (s:Int)(l:List Int)(H:(D l)<=1000000):WV [.agg [.int .i64 s,.Y (l.map ae)]]=some (.same (.cI [.int .i64 (sQ (s,l)).1,.bool (sQ (s,l)).2])):=(cx GM (s,l)).trans (cW H _)
theorem atl (T:bd)(dI:T k7=aW wX)(s:Int)(l:List Int)(H:(D l)<=1000000):WP T Vv (.same (.cI [.int .i64 (sQ (s,l)).1,.bool (sQ (s,l)).2])) [.J (.agg [.int .i64 s,.Y (l.map ae)])]:=by
 refine cy ?_;simp only[Vv]
 by_cases ab:dD (s,l)=true
 ·obtain⟨z,aX,e⟩:=(j2 _).1 ab
  cases e
  have M:sQ (z.sign,aM z.natAbs)=if dw z then (z,true) else (0,false):=by
   unfold sQ;rw[ab,show iA (z.sign,aM z.natAbs)=z from fQ z];simp
  rw[M];clear M;have X:=mK z
  by_cases aO:(aM z.natAbs).length<=4
  ·have PX:decide (((aM z.natAbs).length:Int)>4)=false:=c9;have lz:=l4 z.natAbs;have h7:=m1 z.natAbs;generalize aM z.natAbs=l at *;simp only[go_sem,go_sem_proc,dI,ab,H,PX,al,ae];refine dn [1,17,18] [159001] (λ((i,u):Nat×Int) tm mem=>i<=D l/\u=bf (l.take i)/\u<18446744073709551616/\tm 4=.J (.int .u64 u)/\tm 19=.J (.int .i64 i)) (λ(i,_)=>D l-i) (0,0) (by refine⟨by omega,rfl,by omega,rfl,rfl⟩) ?_;intro vs ms aV aS;simp only[go_sem,go_sem_proc,dI] at aV aS;subst aV aS;rintro⟨i,u⟩ tm mem O hm ⟨M,hu,aK2,qJ,qK⟩;simp only[go_sem,go_sem_proc,dI,ba] at O hm;obtain⟨F,lI,jY⟩:=O;have agB:eY (l.take i):=λd aa=>h7 d (List.mem_of_mem_take aa);have Eg:0<=u:=by rw[hu];exact o8 agB
   rcases dA (i<D l) with ay|cj
   ·have Q:=bx ay;have aa:=h7 l[i] (o1 ay);have rl:=lG l i ay;have Eh:=zK agB;rw[gf,oE (PT ay),<-hu] at Eh;rw[<-hu] at rl;generalize l[i]=d at *;have pR:decide ((i:Int)<(D l:Int))=true:=di;have BL:IntKind.u64.wrap d=d:=zM d ⟨aa.1,by omega⟩
    have yC:IntKind.i64.wrap (20*(i:Int))=((20*i:Nat):Int):=by rw[eS _];omega
    have Gf:min (20*i) 64=20*i:=by omega
    have iU:(((20*i:Nat):Int)<0)=False:=eq_false (by omega);have Hf:(1048576:Int)^i=2^(20*i):=by rw[Int.pow_mul];rfl
    rw[Hf] at Eh rl
    have nY:(2:Int)^(20*i)<=1152921504606846976:=by
     obtain rfl|rfl|rfl|rfl:i=0\/i=1\/i=2\/i=3:=by omega
     all_goals decide
    by_cases WW:i=3/\d>8
    ·obtain⟨rfl,PY⟩:=WW;have agC:decide (d>8)=true:=lq PY;have Lv:(((3:Nat):Int)==3)=true:=rfl
     have atm:¬ dw z:=by
      have vN:=KI l 4;rw[lz] at vN;have:0<=bf (l.drop 4):=o8 λd aa=>h7 d (List.mem_of_mem_drop aa);have bm:=yv (show (0:Int)<=1048576^(min 4 (D l)) from PW (G0 (by omega))) this;unfold dw;simp only[agD,Nat.reduceAdd,agE] at rl;rw[rl] at vN;omega
     rw[ag atm];simp only[go_sem,go_sem_proc,dI,F,lI,jY,qJ,qK,hm,Q,aa.1,aa.2,pR,BL,agC,Lv,al,bl,ba,ae];repeat' (first|refine aw ?_ ?_|fail)<;>intro h<;>simp only[h,go_sem,go_sem_proc,dI,F,lI,jY,qJ,qK,hm,Q,aa.1,aa.2,pR,BL,agC,Lv,al,bl,ba,ae]
    ·have w0:d*2^(20*i)<18446744073709551616:=by
      obtain rfl|rfl|rfl|rfl:i=0\/i=1\/i=2\/i=3:=by omega
      all_goals simp
      all_goals omega
     have w4:=atk u d (20*i) nY ⟨Eg,Eh⟩ aa.1 w0;have z9:0<=d*2^(20*i):=yv aa.1 (PW (G0 (by omega)));have Lw:IntKind.u64.wrap (d*2^(20*i))=d*2^(20*i):=zM _ ⟨z9,w0⟩
     have pd:u+d*2^(20*i)<18446744073709551616:=by
      clear w4 Lw z9 yC iU Hf nY rl;obtain rfl|rfl|rfl|rfl:i=0\/i=1\/i=2\/i=3:=by omega
      all_goals simp only[agD,agE] at Eh w0 ⊢
      all_goals omega
     by_cases af:((i:Int)==3)=true
     ·have PY:decide (d>8)=false:=mq λh=>WW ⟨by simp at af;omega,h⟩
      simp only[go_sem,go_sem_proc,dI,F,lI,jY,qJ,qK,hm,Q,aa.1,aa.2,pR,BL,af,PY,yC,iU,if_false,jX,Gf,Lw,w4,al,bl,ba,ae];repeat' (first|refine aw ?_ ?_|fail)<;>intro h<;>simp only[h,go_sem,go_sem_proc,dI,F,lI,jY,qJ,qK,hm,Q,aa.1,aa.2,pR,BL,af,PY,yC,iU,if_false,jX,Gf,Lw,w4,al,bl,ba,ae]
      exact⟨(i+1,u+d*2^(20*i)),by dsimp only;omega,by dsimp only;omega,by dsimp only;rw[rl,nt],pd,rfl,by rw[eS _];rfl⟩
     ·have af:((i:Int)==3)=false:=by simpa using af
      simp only[go_sem,go_sem_proc,dI,F,lI,jY,qJ,qK,hm,Q,aa.1,aa.2,pR,BL,af,yC,iU,if_false,jX,Gf,Lw,w4,al,bl,ba,ae];repeat' (first|refine aw ?_ ?_|fail)<;>intro h<;>simp only[h,go_sem,go_sem_proc,dI,F,lI,jY,qJ,qK,hm,Q,aa.1,aa.2,pR,BL,af,yC,iU,if_false,jX,Gf,Lw,w4,al,bl,ba,ae]
      exact⟨(i+1,u+d*2^(20*i)),by dsimp only;omega,by dsimp only;omega,by dsimp only;rw[rl,nt],pd,rfl,by rw[eS _];rfl⟩
   ·have pR:decide ((i:Int)<(D l:Int))=false:=c9;have hU:i=D l:=by omega
    rw[hU,lf,lz] at hu;rcases X with ⟨X,vn⟩|⟨X,vn⟩|⟨X,vn⟩
    ·by_cases hr64:u<9223372036854775808
     ·rw[ad (by unfold dw;omega)];have hw:IntKind.i64.wrap u=z:=by rw[wrap64 u (by omega) (by omega)];omega
      simp only[go_sem,go_sem_proc,dI,F,lI,jY,qJ,qK,hm,pR,X,hr64,show decide ((1:Int)<0)=false from rfl,show decide ((1:Int)>=0)=true from rfl,show decide ((-1:Int)<0)=true from rfl,show decide ((-1:Int)>=0)=false from rfl,hw,decide_true,decide_false,al];repeat' (first|refine aw ?_ ?_|fail)<;>intro h<;>simp only[h,go_sem,go_sem_proc,dI,F,lI,jY,qJ,qK,hm,pR,X,hr64,show decide ((1:Int)<0)=false from rfl,show decide ((1:Int)>=0)=true from rfl,show decide ((-1:Int)<0)=true from rfl,show decide ((-1:Int)>=0)=false from rfl,hw,decide_true,decide_false,al]
     ·rw[ag (by unfold dw;omega)];simp only[go_sem,go_sem_proc,dI,F,lI,jY,qJ,qK,hm,pR,X,hr64,show decide ((1:Int)<0)=false from rfl,show decide ((1:Int)>=0)=true from rfl,show decide ((-1:Int)<0)=true from rfl,show decide ((-1:Int)>=0)=false from rfl,decide_true,decide_false,al];repeat' (first|refine aw ?_ ?_|fail)<;>intro h<;>simp only[h,go_sem,go_sem_proc,dI,F,lI,jY,qJ,qK,hm,pR,X,hr64,show decide ((1:Int)<0)=false from rfl,show decide ((1:Int)>=0)=true from rfl,show decide ((-1:Int)<0)=true from rfl,show decide ((-1:Int)>=0)=false from rfl,decide_true,decide_false,al]
    ·rw[ad (by unfold dw;omega)];have atn:u=0:=by omega
     subst vn;subst atn;simp only[go_sem,go_sem_proc,dI,F,lI,jY,qJ,qK,hm,pR,X,show decide ((0:Int)<0)=false from rfl,show decide ((0:Int)>=0)=true from rfl,show decide ((0:Int)<9223372036854775808)=true from rfl,show IntKind.i64.wrap 0=0 from rfl,show (0:Int).sign=0 from rfl,decide_true,decide_false,al];repeat' (first|refine aw ?_ ?_|fail)<;>intro h<;>simp only[h,go_sem,go_sem_proc,dI,F,lI,jY,qJ,qK,hm,pR,X,show decide ((0:Int)<0)=false from rfl,show decide ((0:Int)>=0)=true from rfl,show decide ((0:Int)<9223372036854775808)=true from rfl,show IntKind.i64.wrap 0=0 from rfl,show (0:Int).sign=0 from rfl,decide_true,decide_false,al]
    ·by_cases hr64:u<=9223372036854775808
     ·rw[ad (by unfold dw;omega)];have hw:=WT (0-u) (by omega) (by omega)
      have fz:IntKind.i64.wrap (0-u+18446744073709551616)=z:=by
       simp[IntKind.wrap,IntKind.bits,IntKind.signed];omega
      simp only[go_sem,go_sem_proc,dI,F,lI,jY,qJ,qK,hm,pR,X,hr64,show decide ((1:Int)<0)=false from rfl,show decide ((1:Int)>=0)=true from rfl,show decide ((-1:Int)<0)=true from rfl,show decide ((-1:Int)>=0)=false from rfl,hw,fz,decide_true,decide_false,al];repeat' (first|refine aw ?_ ?_|fail)<;>intro h<;>simp only[h,go_sem,go_sem_proc,dI,F,lI,jY,qJ,qK,hm,pR,X,hr64,show decide ((1:Int)<0)=false from rfl,show decide ((1:Int)>=0)=true from rfl,show decide ((-1:Int)<0)=true from rfl,show decide ((-1:Int)>=0)=false from rfl,hw,fz,decide_true,decide_false,al]
     ·rw[ag (by unfold dw;omega)];simp only[go_sem,go_sem_proc,dI,F,lI,jY,qJ,qK,hm,pR,X,hr64,show decide ((1:Int)<0)=false from rfl,show decide ((1:Int)>=0)=true from rfl,show decide ((-1:Int)<0)=true from rfl,show decide ((-1:Int)>=0)=false from rfl,decide_true,decide_false,al];repeat' (first|refine aw ?_ ?_|fail)<;>intro h<;>simp only[h,go_sem,go_sem_proc,dI,F,lI,jY,qJ,qK,hm,pR,X,hr64,show decide ((1:Int)<0)=false from rfl,show decide ((1:Int)>=0)=true from rfl,show decide ((-1:Int)<0)=true from rfl,show decide ((-1:Int)>=0)=false from rfl,decide_true,decide_false,al]
  ·have PX:decide (((aM z.natAbs).length:Int)>4)=true:=di
   have aL:¬ dw z:=by
    intro h;unfold dw at h;refine aO (g3.2 ?_);omega
   rw[ag aL];simp only[go_sem,go_sem_proc,dI,ab,H,PX,al];repeat' (first|refine aw ?_ ?_|fail)<;>intro h<;>simp only[h,go_sem,go_sem_proc,dI,ab,H,PX,al]
 ·have ab:dD (s,l)=false:=by simpa using ab
  have M:sQ (s,l)=(0,false):=by unfold sQ;rw[ag];rw[ab];simp
  rw[M];simp only[go_sem,go_sem_proc,dI,ab,H];repeat' (first|refine aw ?_ ?_|fail)<;>intro h<;>simp only[h,go_sem,go_sem_proc,dI,ab,H]
def WX:bN:=ca 35 1 [.t 2] (U [dO 1 116001 0,cP 2 false] (.seq (U [bj 5 0 1,bz 6 2 5,(dQ 7 k7 6),fy 8 7,G 9 8,⟨some 10,some (9,false),.ei 2 (.t 1)⟩,⟨some 11,some (9,false),.load 2 true (.t 10)⟩,⟨some 12,some (9,false),.call k7 [(.t 11)]⟩,⟨some 13,some (9,false),.un .not (.t 12)⟩,ed 14 9 13,G 15 14,⟨some 16,some (15,false),.ei 2 (.t 1)⟩,⟨some 17,some (15,false),.ei 0 (.t 16)⟩,⟨some 18,some (15,false),.load 1 false (.t 17)⟩,⟨some 19,some (15,false),.bin .neq (.t 18) (.c (aj 1))⟩,ed 20 15 19] (a2 20 (U [cP 2 false] .ret) .skip)) (U [bj 22 0 1,bz 23 2 22,bj 24 2 1,bz 25 2 24,(cA 26 KK 23 25),G 21 26,bB 27 0 21,bB 28 1 21,(aB 3 (.alloc 116003 [(aj 0),.nil])),bn 2 3 27,G 4 28] (U [G 29 4,a9 30 .eql 29 0,G 31 30,⟨some 32,some (31,true),.load 2 true (.t 3)⟩,⟨some 33,some (31,true),.call Uy [(.t 32)]⟩,fx 34 31 33,G 2 34] .ret))))
def WY:bN:=ca 46 2 [.cell 4 4 true,.t 5] (U [dO 2 119002 0,dO 3 119003 1,(aB 4 (.alloc 119004 [(aj 0),.nil,(aj 0),.nil])),bp 5 0] (.seq (U [bz 10 4 2,(dQ 11 l5 10),fy 12 11,G 13 12,⟨some 14,some (13,false),.load 4 true (.t 3)⟩,⟨some 15,some (13,false),.call l5 [(.t 14)]⟩,⟨some 16,some (13,false),.un .not (.t 15)⟩,ed 17 13 16] (a2 17 (U [(aB 18 (.build [(aj 0),.nil,(aj 0),.nil] [])),bn 4 4 18,bp 5 1] .ret) .skip)) (U [bj 20 0 2,bz 21 2 20,bj 22 2 3,bz 23 2 22,bj 24 0 3,bz 25 2 24,bj 26 2 2,bz 27 2 26,(zQ 28 Uz 21 23 25 27),G 19 28,bB 29 0 19,bB 30 1 19,(aB 6 (.alloc 119006 [(aj 0),.nil])),bn 2 6 29,G 7 30] (U [bj 32 2 2,bz 33 2 32,bj 34 2 3,bz 35 2 34,(cA 36 vy 33 35),G 31 36,bB 37 0 31,bB 38 1 31,(aB 8 (.alloc 119008 [(aj 0),.nil])),bn 2 8 37,G 9 38] (U [bz 39 2 6,G 40 7,bz 41 2 8,G 42 9,(zQ 43 DH 39 40 41 42),bB 44 0 43,bB 45 1 43,bn 4 4 44,G 5 45] .ret)))))
def WZ:bN:=ca 13 2 [.cell 4 4 true,.t 5] (U [(aB 4 (.alloc 130004 [(aj 0),.nil,(aj 0),.nil])),bp 5 0] (U [G 6 0,(dQ 7 ON 6),G 8 1,(dQ 9 ON 8),(cA 10 KL 7 9),bB 11 0 10,bB 12 1 10,bn 4 4 11,G 5 12] .ret))
def W0:bN:=ca 25 2 [.cell 4 4 true,.t 5] (U [dO 2 132002 0,dO 3 132003 1,(aB 4 (.alloc 132004 [(aj 0),.nil,(aj 0),.nil])),bp 5 0] (.seq (U [bz 6 4 2,(dQ 7 l5 6),fy 8 7,G 9 8,⟨some 10,some (9,false),.load 4 true (.t 3)⟩,⟨some 11,some (9,false),.call l5 [(.t 10)]⟩,⟨some 12,some (9,false),.un .not (.t 11)⟩,ed 13 9 12] (a2 13 (U [(aB 14 (.build [(aj 0),.nil,(aj 0),.nil] [])),bn 4 4 14,bp 5 1] .ret) .skip)) (fM [bz 15 4 2,bj 16 0 3,bz 17 2 16,(dQ 18 Gx 17),bj 19 2 3,bz 20 2 19,(aB 21 (.build [(aj 0),.nil,(aj 0),.nil] [(0,2,(.t 18)),(2,2,(.t 20))])),(cA 22 yo 15 21),bB 23 0 22,bB 24 1 22,bn 4 4 23,G 5 24] afp .ret)))
def W1:bN:=ca 42 2 [.cell 4 4 true,.t 5] (U [dO 2 134002 0,dO 3 134003 1,(aB 4 (.alloc 134004 [(aj 0),.nil,(aj 0),.nil])),bp 5 0] (.seq (U [bz 10 4 2,(dQ 11 l5 10),fy 12 11,G 13 12,⟨some 14,some (13,false),.load 4 true (.t 3)⟩,⟨some 15,some (13,false),.call l5 [(.t 14)]⟩,⟨some 16,some (13,false),.un .not (.t 15)⟩,ed 17 13 16] (a2 17 (U [(aB 18 (.build [(aj 0),.nil,(aj 0),.nil] [])),bn 4 4 18,bp 5 1] .ret) .skip)) (U [bj 20 0 2,bz 21 2 20,bj 22 0 3,bz 23 2 22,(cA 24 vy 21 23),G 19 24,bB 25 0 19,bB 26 1 19,(aB 6 (.alloc 134006 [(aj 0),.nil])),bn 2 6 25,G 7 26] (U [bj 28 2 2,bz 29 2 28,bj 30 2 3,bz 31 2 30,(cA 32 vy 29 31),G 27 32,bB 33 0 27,bB 34 1 27,(aB 8 (.alloc 134008 [(aj 0),.nil])),bn 2 8 33,G 9 34] (U [bz 35 2 6,G 36 7,bz 37 2 8,G 38 9,(zQ 39 DH 35 36 37 38),bB 40 0 39,bB 41 1 39,bn 4 4 40,G 5 41] .ret)))))
def W2:bN:=ca 78 2 [.t 4] (U [dO 2 135002 0,dO 3 135003 1,bp 4 0] (.seq (U [bz 17 4 2,(dQ 18 l5 17),fy 19 18,G 20 19,⟨some 21,some (20,false),.load 4 true (.t 3)⟩,⟨some 22,some (20,false),.call l5 [(.t 21)]⟩,⟨some 23,some (20,false),.un .not (.t 22)⟩,ed 24 20 23] (a2 24 (U [bp 4 0] .ret) .skip)) (fM [bj 25 0 2,bz 26 2 25,bj 27 2 2,bz 28 2 27,bj 29 0 3,bz 30 2 29,bj 31 2 3,bz 32 2 31,(aB 5 (.alloc 135005 [(aj 0),.nil])),(aB 6 (.alloc 135006 [(aj 0),.nil])),(aB 7 (.alloc 135007 [(aj 0),.nil])),(aB 8 (.alloc 135008 [(aj 0),.nil])),bn 2 5 26,bn 2 6 28,bn 2 7 30,bn 2 8 32] [[],[],[],[],[],[],[],[],[1,3,5,7],[1,3,5,7,8],[1,3,5,7,8,9],[1,3,5,7,8,9,10],[3,5,7],[5,7],[7],[]] (U [bp 9 1] (.block 0 (.loop  (.seq (.block 1 (U [bz 36 2 5,bz 37 2 6,(cA 38 DI 36 37),G 35 38,bB 39 0 35,bB 40 1 35,bB 41 2 35,(aB 10 (.alloc 135010 [(aj 0),.nil])),(aB 11 (.alloc 135011 [(aj 0),.nil])),bn 2 10 39,bn 2 11 40,G 12 41] (U [bz 43 2 7,bz 44 2 8,(cA 45 DI 43 44),G 42 45,bB 46 0 42,bB 47 1 42,bB 48 2 42,(aB 13 (.alloc 135013 [(aj 0),.nil])),(aB 14 (.alloc 135014 [(aj 0),.nil])),bn 2 13 46,bn 2 14 47,G 15 48] (.seq (U [bz 49 2 10,bz 50 2 13,(cA 51 UF 49 50),G 16 51] (.block 2 (U [G 53 16,a9 54 .neq 53 0,G 52 54] (a2 52 (U [G 55 9,G 56 16,bq 57 .mul 55 56,G 4 57] .ret) (U [bj 59 0 11,aY 60 1 59,a9 61 .eql 60 0,G 62 61,⟨some 63,some (62,false),.ei 0 (.t 14)⟩,⟨some 64,some (62,false),.load 1 false (.t 63)⟩,⟨some 65,some (62,false),.bin .eql (.t 64) (.c (aj 0))⟩,ed 66 62 65,G 58 66] (a2 58 (U [G 67 9,bj 68 0 11,aY 69 1 68,bj 70 0 14,aY 71 1 70,bq 72 .sub 69 71,bq 73 .mul 67 72,G 4 73] .ret) .skip)))))) (.mU [bz 74 2 6,bz 75 2 11,bz 76 2 8,bz 77 2 14,bn 2 5 74,bn 2 6 75,bn 2 7 76,bn 2 8 77] [[],[],[],[],[1,2,3],[2,3],[3],[]]))))) (.ops [G 33 9,(aB 34 (.un .neg (.t 33))),G 9 34]))))))))
def W3:bN:=ca 15 1 [.t 2] (U [dO 1 138001 0,cP 2 false] (U [bz 6 2 1,(dQ 7 UG 6),G 5 7,bB 8 0 5,bB 9 1 5,G 3 8,G 4 9] (U [G 10 4,G 11 10,⟨some 12,some (11,true),.b6 (.t 3)⟩,⟨some 13,some (11,true),.bin .eql (.t 12) (.c (aj 1))⟩,fx 14 11 13,G 2 14] .ret)))
def W4:bN:=ca 38 4 [.cell 8 2 true,.t 9] (U [dO 4 139004 0,dO 5 139005 1,dO 6 139006 2,dO 7 139007 3,(aB 8 (.alloc 139008 [(aj 0),.nil])),bp 9 0] (U [bz 14 2 4,bz 15 2 5,(cA 16 vy 14 15),G 13 16,bB 17 0 13,bB 18 1 13,(aB 10 (.alloc 139010 [(aj 0),.nil])),bn 2 10 17,G 11 18] (.seq (U [G 19 11,a9 20 .neq 19 0] (a2 20 (U [(aB 21 (.build [(aj 0),.nil] [])),G 22 11,bn 2 8 21,G 9 22] .ret) .skip)) (U [bz 24 2 6,bz 25 2 7,(cA 26 vy 24 25),G 23 26,bB 27 0 23,bB 28 1 23,(aB 12 (.alloc 139012 [(aj 0),.nil])),bn 2 12 27,G 11 28] (.seq (U [G 29 11,a9 30 .neq 29 0] (a2 30 (U [(aB 31 (.build [(aj 0),.nil] [])),G 32 11,bn 2 8 31,G 9 32] .ret) .skip)) (U [bz 33 2 10,bz 34 2 12,(cA 35 UH 33 34),bB 36 0 35,bB 37 1 35,bn 2 8 36,G 9 37] .ret))))))
def W5:bN:=ca 22 4 [.cell 8 4 true,.t 9] (U [dO 4 141004 0,dO 6 141006 2,(aB 8 (.alloc 141008 [(aj 0),.nil,(aj 0),.nil])),bp 9 0] (.seq (U [G 10 1,a9 11 .neq 10 0,G 12 11,⟨some 13,some (12,false),.b6 (.t 3)⟩,⟨some 14,some (12,false),.bin .neq (.t 13) (.c (aj 0))⟩,ed 15 12 14] (a2 15 (U [(aB 16 (.build [(aj 0),.nil,(aj 0),.nil] [])),bn 4 8 16,bp 9 6] .ret) .skip)) (U [bz 17 2 4,bz 18 2 6,(cA 19 KL 17 18),bB 20 0 19,bB 21 1 19,bn 4 8 20,G 9 21] .ret)))
def W6:bN:=ca 60 2 [.cell 4 4 true,.t 5] (U [dO 2 149002 0,dO 3 149003 1,(aB 4 (.alloc 149004 [(aj 0),.nil,(aj 0),.nil])),bp 5 0] (.seq (.block 0 (U [bz 15 2 2,(dQ 16 k7 15),fy 17 16,G 18 17,⟨some 19,some (18,false),.load 2 true (.t 3)⟩,⟨some 20,some (18,false),.call k7 [(.t 19)]⟩,⟨some 21,some (18,false),.un .not (.t 20)⟩,ed 22 18 21,G 14 22] (a2 14 (U [(aB 23 (.build [(aj 0),.nil,(aj 0),.nil] [])),bn 4 4 23,bp 5 1] .ret) (U [bj 25 0 3,aY 26 1 25,a9 27 .eql 26 0,G 24 27] (a2 24 (U [(aB 28 (.build [(aj 0),.nil,(aj 0),.nil] [])),bn 4 4 28,bp 5 15] .ret) (U [bj 30 0 3,aY 31 1 30,a9 32 .lss 31 0,G 29 32] (a2 29 (.mU [bz 33 2 2,(dQ 34 Gx 33),bz 35 2 3,(dQ 36 Gx 35),bn 2 2 34,bn 2 3 36] afo) .skip))))))) (U [bz 38 2 2,bz 39 2 3,(cA 40 KK 38 39),G 37 40,bB 41 0 37,bB 42 1 37,(aB 6 (.alloc 149006 [(aj 0),.nil])),bn 2 6 41,G 7 42] (U [bz 44 2 2,bz 45 2 6,(cA 46 DI 44 45),G 43 46,bB 47 0 43,bB 48 1 43,bB 49 2 43,(aB 8 (.alloc 149008 [(aj 0),.nil])),(aB 9 (.alloc 149009 [(aj 0),.nil])),bn 2 8 47,bn 2 9 48,G 10 49] (U [bz 51 2 3,bz 52 2 6,(cA 53 DI 51 52),G 50 53,bB 54 0 50,bB 55 1 50,bB 56 2 50,(aB 11 (.alloc 149011 [(aj 0),.nil])),(aB 12 (.alloc 149012 [(aj 0),.nil])),bn 2 11 54,bn 2 12 55,G 13 56] (U [bz 57 2 8,bz 58 2 11,(aB 59 (.build [(aj 0),.nil,(aj 0),.nil] [(0,2,(.t 57)),(2,2,(.t 58))])),bn 4 4 59,bp 5 0] .ret))))))
def W7:bN:=ca 49 2 [.cell 4 4 true,.t 5] (U [dO 2 169002 0,dO 3 169003 1,(aB 4 (.alloc 169004 [(aj 0),.nil,(aj 0),.nil])),bp 5 0] (.seq (.block 0 (U [bz 11 4 2,(dQ 12 l5 11),fy 13 12,G 14 13,⟨some 15,some (14,false),.load 4 true (.t 3)⟩,⟨some 16,some (14,false),.call l5 [(.t 15)]⟩,⟨some 17,some (14,false),.un .not (.t 16)⟩,ed 18 14 17,G 10 18] (a2 10 (U [(aB 19 (.build [(aj 0),.nil,(aj 0),.nil] [])),bn 4 4 19,bp 5 1] .ret) (U [bj 21 0 3,bj 22 0 21,aY 23 1 22,a9 24 .eql 23 0,G 20 24] (a2 20 (U [(aB 25 (.build [(aj 0),.nil,(aj 0),.nil] [])),bn 4 4 25,bp 5 15] .ret) .skip))))) (U [bj 27 0 2,bz 28 2 27,bj 29 2 3,bz 30 2 29,(cA 31 vy 28 30),G 26 31,bB 32 0 26,bB 33 1 26,(aB 6 (.alloc 169006 [(aj 0),.nil])),bn 2 6 32,G 7 33] (U [bj 35 2 2,bz 36 2 35,bj 37 0 3,bz 38 2 37,(cA 39 vy 36 38),G 34 39,bB 40 0 34,bB 41 1 34,(aB 8 (.alloc 169008 [(aj 0),.nil])),bn 2 8 40,G 9 41] (U [bz 42 2 6,G 43 7,bz 44 2 8,G 45 9,(zQ 46 DH 42 43 44 45),bB 47 0 46,bB 48 1 46,bn 4 4 47,G 5 48] .ret)))))
abbrev bo:=Raw×Raw
def aH (f:bo):List Data:=[.int .i64 f.1.1,.Y (f.1.2.map ae),.int .i64 f.2.1,.Y (f.2.2.map ae)]
def ew (x:bo×Int):Data:=.cI [.agg (aH x.1),.int .i64 x.2]
def au (x:Rat):bo:=(bQ x.num,bQ x.den)
def dj (x:Rat):Prop:=x.num.natAbs<ee/\x.den<ee
def er:bo:=((0,[]),(0,[]))
def ej (f:bo):Bool:=dD f.1&&(dD f.2&&(f.2.1==1&&(jr (iA f.1).natAbs (iA f.2).natAbs==1)))
def BZ (f:bo):Rat:=l9 (iA f.1) (iA f.2)
theorem Ei (x:Rat):BZ (au x)=x:=by
 unfold BZ au;rw[fQ,fQ,Ej]
theorem sR {x y:Rat}(h:au x=au y):x=y:=by rw[<-Ei x,h,Ei]
theorem den_pos (x:Rat):0<(x.den:Int):=Ee.2 x.den_pos
theorem ato {n:Int}(h:0<n):(bQ n).1=1:=j3 h
theorem Lx (f:bo):ej f=true↔∃x,dj x/\f=au x:=by
 unfold ej;simp only[e4,beq_iff_eq]
 constructor
 ·rintro⟨F,I,af,aO⟩;obtain⟨p,aF,aC⟩:=(j2 _).1 F;obtain⟨q,aT,aD⟩:=(j2 _).1 I;obtain⟨f1,f2⟩:=f;simp only at aC aD af aO;subst aC aD;rw[fQ,fQ] at aO
  have WD:0<q:=by
   rcases mK q with ⟨_,h⟩|⟨e,_⟩|⟨e,_⟩
   ·exact h
   ·have:q.sign=1:=af;omega
   ·have:q.sign=1:=af;omega
  refine⟨⟨p,q.natAbs,by omega,aO⟩,⟨aF,aT⟩,?_⟩
  unfold au;rw[show ((q.natAbs:Nat):Int)=q by omega]
 ·rintro⟨x,⟨F,I⟩,rfl⟩;have aa:(x.den:Int).natAbs<ee:=by rw[mL];exact I
  refine⟨ld F,ld aa,ato (den_pos x),?_⟩;unfold au;rw[fQ,fQ,mL];exact x.reduced
theorem yH {x:Rat}(h:dj x):ej (au x)=true:=(Lx _).2 ⟨x,h,rfl⟩
theorem xd {x:Rat}(h:dj x):(x.den:Int).natAbs<ee:=by rw[mL];exact h.2
theorem nB {z:Int}(h:z.natAbs<ee):(aM z.natAbs).length<=1000000:=by have:=rG h;omega
def Ek (a:Raw):Bool:=(sQ a).2&&((sQ a).1==1)
theorem atp {z:Int}(h:z.natAbs<ee):Ek (bQ z)=decide (z=1):=by
 unfold Ek sQ;rw[ld h,fQ]
 by_cases M:dw z
 ·rw[ad ⟨rfl,M⟩];simp only[gW]
  rfl
 ·rw[ag λh=>M h.2];have:z≠1:=by rintro rfl;exact M (by unfold dw;omega)
  simp[this]
def W8:=ck BD λ(s,l)=>cR (D l<=1000000) (.same (.bool (Ek (s,l))))
@[go_sem] theorem aK3 (s:Int)(l:List Int)(H:(D l)<=1000000):W8 [.agg [.int .i64 s,.Y (l.map ae)]]=some (.same (.bool (Ek (s,l)))):=(cx GM (s,l)).trans (cW H _)
theorem atq (T:bd)(PZ:T UG=aW WV)(s:Int)(l:List Int)(H:(D l)<=1000000):WP T W3 (.same (.bool (Ek (s,l)))) [.J (.agg [.int .i64 s,.Y (l.map ae)])]:=by
 refine cy ?_;simp only[W3];unfold Ek;rcases h:(sQ (s,l)).2
 ·simp only[go_sem,go_sem_proc,PZ,H,h];repeat' (first|refine aw ?_ ?_|fail)<;>intro h<;>simp only[h,go_sem,go_sem_proc,PZ,H,h]
 ·simp only[go_sem,go_sem_proc,PZ,H,h];repeat' (first|refine aw ?_ ?_|fail)<;>intro h<;>simp only[h,go_sem,go_sem_proc,PZ,H,h]
abbrev El:Int×(List Int)×Int×(List Int)->List Data:=λ(s,l,s2,ak)=>[.agg [.int .i64 s,.Y (l.map ae),.int .i64 s2,.Y (ak.map ae)]]
def vU:=ck El λ(s,l,s2,ak)=>cR (D l<=1000000/\D ak<=1000000) (.same (.bool (ej ((s,l),(s2,ak)))))
theorem Ly:∀a b,El a=El b->a=b:=by
  rintro⟨s1,dW,D7,D8⟩ ⟨s2,ak,D9,Ea⟩ h;simp only[ba,Data.agg.injEq,Data.int.injEq,Data.Y.injEq] at h;exact dT h.1.1.2 (dT (map_inj fp _ _ h.1.2.1) (dT h.1.2.2.1.2 (map_inj fp _ _ h.1.2.2.2.1)))
@[go_sem] theorem atr (s:Int)(l:List Int)(s2:Int)(ak:List Int)(H:(D l)<=1000000/\D ak<=1000000):vU [.agg [.int .i64 s,.Y (l.map ae),.int .i64 s2,.Y (ak.map ae)]]=some (.same (.bool (ej ((s,l),(s2,ak))))):=(cx Ly (s,l,s2,ak)).trans (cW H _)
theorem ats (T:bd)(dI:T k7=aW wX)(yI:T KK=aW PK)(P0:T Uy=aW W8)(s:Int)(l:List Int)(s2:Int)(ak:List Int)(H:(D l)<=1000000/\D ak<=1000000):WP T WX (.same (.bool (ej ((s,l),(s2,ak))))) [.J (.agg [.int .i64 s,.Y (l.map ae),.int .i64 s2,.Y (ak.map ae)])]:=by
 refine cy ?_;simp only[WX];obtain⟨cb,cB⟩:=H
 by_cases ab:dD (s,l)=true
 ·by_cases bC:dD (s2,ak)=true
  ·by_cases X:s2=1
   ·obtain⟨x,Q,e⟩:=(j2 _).1 ab;obtain⟨y,av,aD⟩:=(j2 _).1 bC
    have a7:l8 (s,l) (s2,ak)=(bQ ((jr x.natAbs y.natAbs:Nat):Int),0):=by
     unfold l8;rw[ab,bC,e,aD,fQ,fQ];rfl
    have mM:=Lr Q av
    have bO:Ek (bQ ((jr x.natAbs y.natAbs:Nat):Int))=(jr x.natAbs y.natAbs==1):=by
     rw[atp (by rw[mL];exact mM)];rw[qL];simp;omega
    have o2:iA (s,l)=x:=by rw[e,fQ]
    have nX:iA (s2,ak)=y:=by rw[aD,fQ]
    have gE:ej ((s,l),(s2,ak))=(jr x.natAbs y.natAbs==1):=by
     show (dD (s,l)&&(dD (s2,ak)&&((s2==1)&&(jr (iA (s,l)).natAbs (iA (s2,ak)).natAbs==1))))=_;rw[ab,bC,o2,nX,show (s2==1)=true by simpa using X]
     simp only[gW]
    have att:((bQ ((jr x.natAbs y.natAbs:Nat):Int)).2).length<=1000000:=nB (by rw[mL];exact mM);rw[gE,<-bO];generalize bQ ((jr x.natAbs y.natAbs:Nat):Int)=bL at *;obtain⟨cq,cr⟩:=bL;have iV:(s2==1)=true:=by simpa using X
    refine a0 ?_;repeat' (intro h<;>simp only[h,go_sem,go_sem_proc,dI,yI,P0,ab,bC,cb,cB,iV,a7,att,fR,db,show ((0:Int)==0)=true from rfl]<;>try refine aw ?_ ?_)
   ·have gE:ej ((s,l),(s2,ak))=false:=by unfold ej;simp[X]
    have iV:(s2==1)=false:=by simpa using X
    rw[gE];refine a0 ?_;repeat' (intro h<;>simp only[h,go_sem,go_sem_proc,dI,yI,P0,ab,bC,cb,cB,iV]<;>try refine aw ?_ ?_)
  ·have bC:dD (s2,ak)=false:=by simpa using bC
   have gE:ej ((s,l),(s2,ak))=false:=by unfold ej;simp[bC]
   rw[gE];refine a0 ?_;repeat' (intro h<;>simp only[h,go_sem,go_sem_proc,dI,yI,P0,ab,bC,cb,cB]<;>try refine aw ?_ ?_)
 ·have ab:dD (s,l)=false:=by simpa using ab
  have gE:ej ((s,l),(s2,ak))=false:=by unfold ej;simp[ab]
  rw[gE];refine a0 ?_;repeat' (intro h<;>simp only[h,go_sem,go_sem_proc,dI,yI,P0,ab,cb,cB]<;>try refine aw ?_ ?_)
def hz (p q:Raw):bo×Int :=
 if (dD p&&dD q)=true then (if iA q=0 then (er,15) else (au (l9 (iA p) (iA q)),0)) else (er,1)
theorem Aa {p q:Int}(aF:p.natAbs<ee)(aT:q.natAbs<ee)(ao:q≠0):hz (bQ p) (bQ q)=(au (l9 p q),0):=by
 unfold hz;rw[ld aF,ld aT,fQ,fQ,ad (by rfl),ag ao]
theorem W9 {p q:Int}(aT:0<q):(l9 p q).num=p.fdiv ((jr p.natAbs q.natAbs:Nat):Int)/\((l9 p q).den:Int)=q.fdiv ((jr p.natAbs q.natAbs:Nat):Int):=by
 rw[Rat.num_divInt,Rat.den_divInt,ag (by omega),j3 aT,n8];have a7:q.gcd p=jr p.natAbs q.natAbs:=by rw[Int.gcd_comm];rfl
 rw[a7];have ao:(0:Int)<=((jr p.natAbs q.natAbs:Nat):Int):=Int.natCast_nonneg _;rw[agF _ ao,agF _ ao];refine⟨rfl,?_⟩;rw[Int.natCast_ediv]
 congr 1
 omega
theorem Xa {p q:Int}(aT:q≠0):0<jr p.natAbs q.natAbs:=Nat.gcd_pos_of_pos_right _ (by omega)
theorem P1 {p q:Int}(aF:p.natAbs<ee)(aT:q.natAbs<ee):dj (l9 p q):=by
 have main:∀{p q:Int},p.natAbs<ee->q.natAbs<ee->0<q->dj (l9 p q):=by
  intro p q aF aT ao;obtain⟨F,I⟩:=W9 (p:=p) ao;have a7:=Xa (p:=p) (q:=q) (by omega);refine⟨?_,?_⟩
  ·rw[F];exact He aF (by omega)
  ·have:=He (y:=((jr p.natAbs q.natAbs:Nat):Int)) aT (by omega);rw[<-I,mL] at this;exact this
 rcases yy q 0 with h|h|h
 ·rw[<-agG];exact main (by omega) (by omega) (by omega)
 ·subst h;rw[Rat.divInt_zero];unfold dj ee;exact⟨Nat.pow_pos (by omega),Nat.one_lt_pow (by omega) (by omega)⟩
 ·exact main aF aT h
def P2:=ck vS λ(s,l,s2,ak)=>cR (D l<=1000000/\D ak<=1000000) (.same (ew (hz (s,l) (s2,ak))))
@[go_sem] theorem aK4 (s:Int)(l:List Int)(s2:Int)(ak:List Int)(H:(D l)<=1000000/\D ak<=1000000):P2 [.agg [.int .i64 s,.Y (l.map ae)],.agg [.int .i64 s2,.Y (ak.map ae)]]=some (.same (ew (hz (s,l) (s2,ak)))):=(cx yD (s,l,s2,ak)).trans (cW H _)
theorem atu (T:bd)(dI:T k7=aW wX)(Ab:T Gx=aW PG)(yI:T KK=aW PK)(qM:T DI=aW PS)(s:Int)(l:List Int)(s2:Int)(ak:List Int)(H:(D l)<=1000000/\D ak<=1000000):WP T W6 (.same (ew (hz (s,l) (s2,ak)))) [.J (.agg [.int .i64 s,.Y (l.map ae)]),.J (.agg [.int .i64 s2,.Y (ak.map ae)])]:=by
 refine cy ?_;simp only[W6];obtain⟨cb,cB⟩:=H
 by_cases ab:dD (s,l)=true
 ·by_cases bC:dD (s2,ak)=true
  ·obtain⟨x,Q,e⟩:=(j2 _).1 ab;obtain⟨y,av,aD⟩:=(j2 _).1 bC
   by_cases ao:y=0
   ·have hm:hz (s,l) (s2,ak)=(er,15):=by
     unfold hz;rw[ab,bC,aD,fQ,ad (by rfl),ad ao]
    rw[hm]
    cases e
    cases aD;have X:(y.sign==0)=true:=by rw[ao];rfl
    refine a0 ?_;repeat' (intro h<;>simp only[h,go_sem,go_sem_proc,dI,Ab,yI,qM,ab,bC,cb,cB,X,ew,aH,er,cV]<;>try refine aw ?_ ?_)
   ·have main:∀p q:Int,p.natAbs<ee->q.natAbs<ee->0<q->∃g:Raw,l8 (bQ p) (bQ q)=(g,0)/\g.2.length<=1000000/\kO (bQ p) g=(bQ (l9 p q).num,bQ (p.fmod ((jr p.natAbs q.natAbs:Nat):Int)),0)/\kO (bQ q) g=(bQ (l9 p q).den,bQ (q.fmod ((jr p.natAbs q.natAbs:Nat):Int)),0):=by
     intro p q aF aT mE;have mM:=Lr aF aT;have Em:((jr p.natAbs q.natAbs:Nat):Int).natAbs<ee:=by rw[mL];exact mM
     have Pp:=Xa (p:=p) (q:=q) (by omega);obtain⟨F,I⟩:=W9 (p:=p) mE;refine⟨bQ ((jr p.natAbs q.natAbs:Nat):Int),?_,nB Em,?_,?_⟩
     ·unfold l8;rw[ld aF,ld aT,fQ,fQ];rfl
     ·rw[Eb aF Em (by omega),F]
     ·rw[Eb aT Em (by omega),I]
    have qN:(y.sign==0)=false:=by simpa using ao
    rcases Int.lt_or_gt_of_ne ao with kM|h3
    ·have hx:decide (y.sign<0)=true:=by rw[rF kM];rfl
     obtain⟨⟨cq,cr⟩,a7,mM,jZ,mF⟩:=main (-x) (-y) (by omega) (by omega) (by omega)
     have hm:hz (s,l) (s2,ak)=(au (l9 (-x) (-y)),0):=by
      rw[e,aD,Aa Q av ao,agG]
     rw[hm];have oC:j4 (s,l)=bQ (-x):=by unfold j4;rw[ad ab,e,fQ]
     have vf:j4 (s2,ak)=bQ (-y):=by unfold j4;rw[ad bC,aD,fQ]
     have En:s2=y.sign:=congrArg B0 aD;have hJ:(bQ (-x)).2.length<=1000000:=nB (by omega);have js:(bQ (-y)).2.length<=1000000:=nB (by omega);clear e aD;unfold au;generalize bQ (-x)=dd at *;generalize bQ (-y)=gi at *;obtain⟨a8,bY⟩:=dd;obtain⟨tV,tW⟩:=gi;rw[<-En] at qN hx;refine a0 ?_;repeat' (intro h<;>simp only[h,go_sem,go_sem_proc,dI,Ab,yI,qM,ab,bC,cb,cB,qN,hx,oC,vf,hJ,js,a7,mM,jZ,mF,ew,aH,fR,hl,db]<;>try refine aw ?_ ?_)
    ·have hx:decide (y.sign<0)=false:=by rw[j3 h3];rfl
     obtain⟨⟨cq,cr⟩,a7,mM,jZ,mF⟩:=main x y Q av h3
     have hm:hz (s,l) (s2,ak)=(au (l9 x y),0):=by
      rw[e,aD,Aa Q av ao]
     rw[hm];have En:s2=y.sign:=congrArg B0 aD;rw[<-e] at a7 jZ;rw[<-aD] at a7 mF;rw[<-En] at qN hx;unfold au;refine a0 ?_;repeat' (intro h<;>simp only[h,go_sem,go_sem_proc,dI,Ab,yI,qM,ab,bC,cb,cB,qN,hx,a7,mM,jZ,mF,ew,aH,fR,hl,db]<;>try refine aw ?_ ?_)
  ·have bC:dD (s2,ak)=false:=by simpa using bC
   have hm:hz (s,l) (s2,ak)=(er,1):=by unfold hz;rw[bC,h6];rfl
   rw[hm];refine a0 ?_;repeat' (intro h<;>simp only[h,go_sem,go_sem_proc,dI,Ab,yI,qM,ab,bC,cb,cB,ew,aH,er,cV]<;>try refine aw ?_ ?_)
 ·have ab:dD (s,l)=false:=by simpa using ab
  have hm:hz (s,l) (s2,ak)=(er,1):=by unfold hz;rw[ab,fS];rfl
  rw[hm];refine a0 ?_;repeat' (intro h<;>simp only[h,go_sem,go_sem_proc,dI,Ab,yI,qM,ab,cb,cB,ew,aH,er,cV]<;>try refine aw ?_ ?_)
def B1:=ck GL λ(p,q)=>cR (dw p/\dw q) (.same (ew (hz (bQ p) (bQ q))))
@[go_sem] theorem agH (p:Int)(q:Int)(H:dw p/\dw q):B1 [.int .i64 p,.int .i64 q]=some (.same (ew (hz (bQ p) (bQ q)))):=(cx O8 (p,q)).trans (cW H _)
theorem atv (T:bd)(atw:T ON=aW WU)(Lz:T KL=aW P2)(p:Int)(q:Int)(H:dw p/\dw q):WP T WZ (.same (ew (hz (bQ p) (bQ q)))) [.J (.int .i64 p),.J (.int .i64 q)]:=by
 refine cy ?_;simp only[WZ];obtain⟨F,I⟩:=H;have dW:(bQ p).2.length<=1000000:=nB (yG F);have ak:(bQ q).2.length<=1000000:=nB (yG I);generalize gr:bQ p=P at *;generalize e5:bQ q=aN at *;obtain⟨a8,bY⟩:=P;obtain⟨tV,tW⟩:=aN;refine a0 ?_;repeat' (intro h<;>simp only[h,go_sem,go_sem_proc,atw,Lz,F,I,gr,e5,dW,ak,db,ew,aH]<;>try refine aw ?_ ?_)
def xe (a b c d:Raw):Raw×Int :=
 if ((mulR a b).2==0)=true then (if ((mulR c d).2==0)=true then sO (mulR a b).1 (mulR c d).1 else ((0,[]),(mulR c d).2)) else ((0,[]),(mulR a b).2)
theorem agI (z:Int):(sN z).1.2.length<=1000000:=by
 unfold sN
 split
 ·exact nB (by assumption)
 ·simp
theorem Eo (a b:Raw):(mulR a b).1.2.length<=1000000:=by
 unfold mulR
 split
 ·exact agI _
 ·simp
theorem atx (a b:Raw):(sO a b).1.2.length<=1000000:=by
 unfold sO
 split
 ·exact agI _
 ·simp
theorem aty (a b c d:Raw):(xe a b c d).1.2.length<=1000000:=by
 unfold xe
 split
 ·split
  ·exact atx _ _
  ·simp
 ·simp
abbrev Xb:Int×(List Int)×Int×(List Int)×Int×(List Int)×Int×(List Int)->List Data:=λ(s,l,s2,ak,cM,bJ,cX,b3)=>[.agg [.int .i64 s,.Y (l.map ae)],.agg [.int .i64 s2,.Y (ak.map ae)],.agg [.int .i64 cM,.Y (bJ.map ae)],.agg [.int .i64 cX,.Y (b3.map ae)]]
def Xc:=ck Xb λ(s,l,s2,ak,cM,bJ,cX,b3)=>cR (D l<=1000000/\D ak<=1000000/\D bJ<=1000000/\D b3<=1000000) (.same (fR (xe (s,l) (s2,ak) (cM,bJ) (cX,b3))))
theorem atz:∀a b,Xb a=Xb b->a=b:=by
  rintro⟨s1,dW,D7,D8,atA,atB,atC,atD⟩ ⟨s2,ak,D9,Ea,atE,atF,atG,atH⟩ h;simp only[ba,Data.agg.injEq,Data.int.injEq,Data.Y.injEq] at h;exact dT h.1.1.2 (dT (map_inj fp _ _ h.1.2.1) (dT h.2.1.1.2 (dT (map_inj fp _ _ h.2.1.2.1) (dT h.2.2.1.1.2 (dT (map_inj fp _ _ h.2.2.1.2.1) (dT h.2.2.2.1.1.2 (map_inj fp _ _ h.2.2.2.1.2.1)))))))
@[go_sem] theorem aK5 (s:Int)(l:List Int)(s2:Int)(ak:List Int)(cM:Int)(bJ:List Int)(cX:Int)(b3:List Int)(H:(D l)<=1000000/\D ak<=1000000/\D bJ<=1000000/\D b3<=1000000):Xc [.agg [.int .i64 s,.Y (l.map ae)],.agg [.int .i64 s2,.Y (ak.map ae)],.agg [.int .i64 cM,.Y (bJ.map ae)],.agg [.int .i64 cX,.Y (b3.map ae)]]=some (.same (fR (xe (s,l) (s2,ak) (cM,bJ) (cX,b3)))):=(cx atz (s,l,s2,ak,cM,bJ,cX,b3)).trans (cW H _)
theorem atI (T:bd)(qO:T vy=aW Hc)(Xd:T UH=aW WI)(s:Int)(l:List Int)(s2:Int)(ak:List Int)(cM:Int)(bJ:List Int)(cX:Int)(b3:List Int)(H:(D l)<=1000000/\D ak<=1000000/\D bJ<=1000000/\D b3<=1000000):WP T W4 (.same (fR (xe (s,l) (s2,ak) (cM,bJ) (cX,b3)))) [.J (.agg [.int .i64 s,.Y (l.map ae)]),.J (.agg [.int .i64 s2,.Y (ak.map ae)]),.J (.agg [.int .i64 cM,.Y (bJ.map ae)]),.J (.agg [.int .i64 cX,.Y (b3.map ae)])]:=by
 refine cy ?_;simp only[W4];obtain⟨cb,cB,hJ,js⟩:=H;have dN:=Eo (s,l) (s2,ak);have cO:=Eo (cM,bJ) (cX,b3);unfold xe;generalize ud:mulR (s,l) (s2,ak)=M1 at *;generalize g4:mulR (cM,bJ) (cX,b3)=M2 at *;obtain⟨⟨cT,c7⟩,aC⟩:=M1;obtain⟨⟨dh,eK⟩,aD⟩:=M2;rcases F:(aC==0)
 ·refine a0 ?_;repeat' (intro h<;>simp only[h,go_sem,go_sem_proc,qO,Xd,cb,cB,hJ,js,ud,F,dN,cO,fR,db,cV]<;>try refine aw ?_ ?_)
 ·have iB:aC=0:=by simpa using F
  subst iB;rcases I:(aD==0)
  ·refine a0 ?_;repeat' (intro h<;>simp only[h,go_sem,go_sem_proc,qO,Xd,cb,cB,hJ,js,ud,g4,F,I,dN,cO,fR,db,cV]<;>try refine aw ?_ ?_)
  ·have iZ:aD=0:=by simpa using I
   subst iZ;refine a0 ?_;repeat' (intro h<;>simp only[h,go_sem,go_sem_proc,qO,Xd,cb,cB,hJ,js,ud,g4,F,dN,cO,fR,db,cV]<;>try refine aw ?_ ?_)
def vV (p:Raw×Int)(q:Raw×Int):bo×Int:=if (p.2==0)=true then (if (q.2==0)=true then hz p.1 q.1 else (er,6)) else (er,6)
abbrev Xe:Int×(List Int)×Int×Int×(List Int)×Int->List Data:=λ(s,l,e,s2,ak,aD)=>[.agg [.int .i64 s,.Y (l.map ae)],.int .i64 e,.agg [.int .i64 s2,.Y (ak.map ae)],.int .i64 aD]
def LA:=ck Xe λ(s,l,e,s2,ak,aD)=>cR (D l<=1000000/\D ak<=1000000) (.same (ew (vV ((s,l),e) ((s2,ak),aD))))
theorem atJ:∀a b,Xe a=Xe b->a=b:=by
  rintro⟨s1,dW,aC,D7,D8,pe⟩ ⟨s2,ak,aD,D9,Ea,uj⟩ h;simp only[ba,Data.agg.injEq,Data.int.injEq,Data.Y.injEq] at h;exact dT h.1.1.2 (dT (map_inj fp _ _ h.1.2.1) (dT h.2.1.2 (dT h.2.2.1.1.2 (dT (map_inj fp _ _ h.2.2.1.2.1) h.2.2.2.1.2))))
@[go_sem] theorem aK6 (s:Int)(l:List Int)(e:Int)(s2:Int)(ak:List Int)(aD:Int)(H:(D l)<=1000000/\D ak<=1000000):LA [.agg [.int .i64 s,.Y (l.map ae)],.int .i64 e,.agg [.int .i64 s2,.Y (ak.map ae)],.int .i64 aD]=some (.same (ew (vV ((s,l),e) ((s2,ak),aD)))):=(cx atJ (s,l,e,s2,ak,aD)).trans (cW H _)
theorem atK (T:bd)(Lz:T KL=aW P2)(s:Int)(l:List Int)(e:Int)(s2:Int)(ak:List Int)(aD:Int)(H:(D l)<=1000000/\D ak<=1000000):WP T W5 (.same (ew (vV ((s,l),e) ((s2,ak),aD)))) [.J (.agg [.int .i64 s,.Y (l.map ae)]),.J (.int .i64 e),.J (.agg [.int .i64 s2,.Y (ak.map ae)]),.J (.int .i64 aD)]:=by
 refine cy ?_;simp only[W5];obtain⟨cb,cB⟩:=H;unfold vV;rcases F:(e==0)
 ·refine a0 ?_;repeat' (intro h<;>simp only[h,go_sem,go_sem_proc,Lz,cb,cB,F,ew,aH,er,cV]<;>try refine aw ?_ ?_)
 ·have iB:e=0:=by simpa using F
  subst iB;rcases I:(aD==0)
  ·refine a0 ?_;repeat' (intro h<;>simp only[h,go_sem,go_sem_proc,Lz,cb,cB,F,I,ew,aH,er,cV]<;>try refine aw ?_ ?_)
  ·have iZ:aD=0:=by simpa using I
   subst iZ;refine a0 ?_;repeat' (intro h<;>simp only[h,go_sem,go_sem_proc,Lz,cb,cB,F,ew,aH,er,cV]<;>try refine aw ?_ ?_)
def vW (a b:bo):bo×Int:=if ej a=true then (if ej b=true then vV (xe a.1 b.2 b.1 a.2) (mulR a.2 b.2) else (er,1)) else (er,1)
def pf (a b:bo):bo×Int:=if ej a=true then (if ej b=true then vW a (j4 b.1,b.2) else (er,1)) else (er,1)
def ob (a b:bo):bo×Int:=if ej a=true then (if ej b=true then vV (mulR a.1 b.1) (mulR a.2 b.2) else (er,1)) else (er,1)
def j5 (a b:bo):bo×Int:=if ej a=true then (if ej b=true then (if (b.1.1==0)=true then (er,15) else vV (mulR a.1 b.2) (mulR a.2 b.1)) else (er,1)) else (er,1)
theorem atL (a:Raw)(h:a.2.length<=1000000):(j4 a).2.length<=1000000:=by
 unfold j4
 split
 ·rename_i ab;obtain⟨z,aX,e⟩:=(j2 _).1 ab;rw[e,fQ];exact nB (by omega)
 ·simp
abbrev yJ:Int×(List Int)×Int×(List Int)×Int×(List Int)×Int×(List Int)->List Data:=λ(s,l,s2,ak,cM,bJ,cX,b3)=>[.agg [.int .i64 s,.Y (l.map ae),.int .i64 s2,.Y (ak.map ae)],.agg [.int .i64 cM,.Y (bJ.map ae),.int .i64 cX,.Y (b3.map ae)]]
def Ac:=ck yJ λ(s,l,s2,ak,cM,bJ,cX,b3)=>cR (D l<=1000000/\D ak<=1000000/\D bJ<=1000000/\D b3<=1000000) (.same (ew (vW ((s,l),(s2,ak)) ((cM,bJ),(cX,b3)))))
theorem B2:∀a b,yJ a=yJ b->a=b:=by
  rintro⟨s1,dW,D7,D8,atA,atB,atC,atD⟩ ⟨s2,ak,D9,Ea,atE,atF,atG,atH⟩ h;simp only[ba,Data.agg.injEq,Data.int.injEq,Data.Y.injEq] at h;exact dT h.1.1.2 (dT (map_inj fp _ _ h.1.2.1) (dT h.1.2.2.1.2 (dT (map_inj fp _ _ h.1.2.2.2.1) (dT h.2.1.1.2 (dT (map_inj fp _ _ h.2.1.2.1) (dT h.2.1.2.2.1.2 (map_inj fp _ _ h.2.1.2.2.2.1)))))))
@[go_sem] theorem agJ (s:Int)(l:List Int)(s2:Int)(ak:List Int)(cM:Int)(bJ:List Int)(cX:Int)(b3:List Int)(H:(D l)<=1000000/\D ak<=1000000/\D bJ<=1000000/\D b3<=1000000):Ac [.agg [.int .i64 s,.Y (l.map ae),.int .i64 s2,.Y (ak.map ae)],.agg [.int .i64 cM,.Y (bJ.map ae),.int .i64 cX,.Y (b3.map ae)]]=some (.same (ew (vW ((s,l),(s2,ak)) ((cM,bJ),(cX,b3))))):=(cx B2 (s,l,s2,ak,cM,bJ,cX,b3)).trans (cW H _)
theorem atM (T:bd)(fI:T l5=aW vU)(Xf:T Uz=aW Xc)(qO:T vy=aW Hc)(vX:T DH=aW LA)(s:Int)(l:List Int)(s2:Int)(ak:List Int)(cM:Int)(bJ:List Int)(cX:Int)(b3:List Int)(H:(D l)<=1000000/\D ak<=1000000/\D bJ<=1000000/\D b3<=1000000):WP T WY (.same (ew (vW ((s,l),(s2,ak)) ((cM,bJ),(cX,b3))))) [.J (.agg [.int .i64 s,.Y (l.map ae),.int .i64 s2,.Y (ak.map ae)]),.J (.agg [.int .i64 cM,.Y (bJ.map ae),.int .i64 cX,.Y (b3.map ae)])]:=by
 refine cy ?_;simp only[WY];obtain⟨cb,cB,hJ,js⟩:=H;unfold vW
 by_cases ab:ej ((s,l),(s2,ak))=true
 ·by_cases bC:ej ((cM,bJ),(cX,b3))=true
  ·have dN:=aty (s,l) (cX,b3) (cM,bJ) (s2,ak);have cO:=Eo (s2,ak) (cX,b3);rw[ad ab,ad bC];dsimp only;generalize ud:xe (s,l) (cX,b3) (cM,bJ) (s2,ak)=M1 at *;generalize g4:mulR (s2,ak) (cX,b3)=M2 at *;obtain⟨⟨cT,c7⟩,aC⟩:=M1;obtain⟨⟨dh,eK⟩,aD⟩:=M2;refine a0 ?_;repeat' (intro h<;>simp only[h,go_sem,go_sem_proc,fI,Xf,qO,vX,cb,cB,hJ,js,ab,bC,ud,g4,dN,cO,fR,db,ew,aH]<;>try refine aw ?_ ?_)
  ·have bC:ej ((cM,bJ),(cX,b3))=false:=by simpa using bC
   rw[ad ab,ag (by simp[bC])];refine a0 ?_;repeat' (intro h<;>simp only[h,go_sem,go_sem_proc,fI,Xf,qO,vX,cb,cB,hJ,js,ab,bC,ew,aH,er,cV]<;>try refine aw ?_ ?_)
 ·have ab:ej ((s,l),(s2,ak))=false:=by simpa using ab
  rw[ag (by simp[ab])];refine a0 ?_;repeat' (intro h<;>simp only[h,go_sem,go_sem_proc,fI,Xf,qO,vX,cb,cB,hJ,js,ab,ew,aH,er,cV]<;>try refine aw ?_ ?_)
def yK:=ck yJ λ(s,l,s2,ak,cM,bJ,cX,b3)=>cR (D l<=1000000/\D ak<=1000000/\D bJ<=1000000/\D b3<=1000000) (.same (ew (pf ((s,l),(s2,ak)) ((cM,bJ),(cX,b3)))))
@[go_sem] theorem atN (s:Int)(l:List Int)(s2:Int)(ak:List Int)(cM:Int)(bJ:List Int)(cX:Int)(b3:List Int)(H:(D l)<=1000000/\D ak<=1000000/\D bJ<=1000000/\D b3<=1000000):yK [.agg [.int .i64 s,.Y (l.map ae),.int .i64 s2,.Y (ak.map ae)],.agg [.int .i64 cM,.Y (bJ.map ae),.int .i64 cX,.Y (b3.map ae)]]=some (.same (ew (pf ((s,l),(s2,ak)) ((cM,bJ),(cX,b3))))):=(cx B2 (s,l,s2,ak,cM,bJ,cX,b3)).trans (cW H _)
theorem atO (T:bd)(fI:T l5=aW vU)(Ab:T Gx=aW PG)(lg:T yo=aW Ac)(s:Int)(l:List Int)(s2:Int)(ak:List Int)(cM:Int)(bJ:List Int)(cX:Int)(b3:List Int)(H:(D l)<=1000000/\D ak<=1000000/\D bJ<=1000000/\D b3<=1000000):WP T W0 (.same (ew (pf ((s,l),(s2,ak)) ((cM,bJ),(cX,b3))))) [.J (.agg [.int .i64 s,.Y (l.map ae),.int .i64 s2,.Y (ak.map ae)]),.J (.agg [.int .i64 cM,.Y (bJ.map ae),.int .i64 cX,.Y (b3.map ae)])]:=by
 refine cy ?_;simp only[W0];obtain⟨cb,cB,hJ,js⟩:=H;unfold pf
 by_cases ab:ej ((s,l),(s2,ak))=true
 ·by_cases bC:ej ((cM,bJ),(cX,b3))=true
  ·have dN:=atL (cM,bJ) hJ;rw[ad ab,ad bC];dsimp only;generalize ud:j4 (cM,bJ)=M1 at *;obtain⟨cT,c7⟩:=M1;refine a0 ?_;repeat' (intro h<;>simp only[h,go_sem,go_sem_proc,fI,Ab,lg,cb,cB,hJ,js,ab,bC,ud,dN,fR,db,ew,aH]<;>try refine aw ?_ ?_)
  ·have bC:ej ((cM,bJ),(cX,b3))=false:=by simpa using bC
   rw[ad ab,ag (by simp[bC])];refine a0 ?_;repeat' (intro h<;>simp only[h,go_sem,go_sem_proc,fI,Ab,lg,cb,cB,hJ,js,ab,bC,ew,aH,er,cV]<;>try refine aw ?_ ?_)
 ·have ab:ej ((s,l),(s2,ak))=false:=by simpa using ab
  rw[ag (by simp[ab])];refine a0 ?_;repeat' (intro h<;>simp only[h,go_sem,go_sem_proc,fI,Ab,lg,cb,cB,hJ,js,ab,ew,aH,er,cV]<;>try refine aw ?_ ?_)
def yL:=ck yJ λ(s,l,s2,ak,cM,bJ,cX,b3)=>cR (D l<=1000000/\D ak<=1000000/\D bJ<=1000000/\D b3<=1000000) (.same (ew (ob ((s,l),(s2,ak)) ((cM,bJ),(cX,b3)))))
@[go_sem] theorem atP (s:Int)(l:List Int)(s2:Int)(ak:List Int)(cM:Int)(bJ:List Int)(cX:Int)(b3:List Int)(H:(D l)<=1000000/\D ak<=1000000/\D bJ<=1000000/\D b3<=1000000):yL [.agg [.int .i64 s,.Y (l.map ae),.int .i64 s2,.Y (ak.map ae)],.agg [.int .i64 cM,.Y (bJ.map ae),.int .i64 cX,.Y (b3.map ae)]]=some (.same (ew (ob ((s,l),(s2,ak)) ((cM,bJ),(cX,b3))))):=(cx B2 (s,l,s2,ak,cM,bJ,cX,b3)).trans (cW H _)
theorem atQ (T:bd)(fI:T l5=aW vU)(qO:T vy=aW Hc)(vX:T DH=aW LA)(s:Int)(l:List Int)(s2:Int)(ak:List Int)(cM:Int)(bJ:List Int)(cX:Int)(b3:List Int)(H:(D l)<=1000000/\D ak<=1000000/\D bJ<=1000000/\D b3<=1000000):WP T W1 (.same (ew (ob ((s,l),(s2,ak)) ((cM,bJ),(cX,b3))))) [.J (.agg [.int .i64 s,.Y (l.map ae),.int .i64 s2,.Y (ak.map ae)]),.J (.agg [.int .i64 cM,.Y (bJ.map ae),.int .i64 cX,.Y (b3.map ae)])]:=by
 refine cy ?_;simp only[W1];obtain⟨cb,cB,hJ,js⟩:=H;unfold ob
 by_cases ab:ej ((s,l),(s2,ak))=true
 ·by_cases bC:ej ((cM,bJ),(cX,b3))=true
  ·have dN:=Eo (s,l) (cM,bJ);have cO:=Eo (s2,ak) (cX,b3);rw[ad ab,ad bC];dsimp only;generalize ud:mulR (s,l) (cM,bJ)=M1 at *;generalize g4:mulR (s2,ak) (cX,b3)=M2 at *;obtain⟨⟨cT,c7⟩,aC⟩:=M1;obtain⟨⟨dh,eK⟩,aD⟩:=M2;refine a0 ?_;repeat' (intro h<;>simp only[h,go_sem,go_sem_proc,fI,qO,vX,cb,cB,hJ,js,ab,bC,ud,g4,dN,cO,fR,db,ew,aH]<;>try refine aw ?_ ?_)
  ·have bC:ej ((cM,bJ),(cX,b3))=false:=by simpa using bC
   rw[ad ab,ag (by simp[bC])];refine a0 ?_;repeat' (intro h<;>simp only[h,go_sem,go_sem_proc,fI,qO,vX,cb,cB,hJ,js,ab,bC,ew,aH,er,cV]<;>try refine aw ?_ ?_)
 ·have ab:ej ((s,l),(s2,ak))=false:=by simpa using ab
  rw[ag (by simp[ab])];refine a0 ?_;repeat' (intro h<;>simp only[h,go_sem,go_sem_proc,fI,qO,vX,cb,cB,hJ,js,ab,ew,aH,er,cV]<;>try refine aw ?_ ?_)
def Ep:=ck yJ λ(s,l,s2,ak,cM,bJ,cX,b3)=>cR (D l<=1000000/\D ak<=1000000/\D bJ<=1000000/\D b3<=1000000) (.same (ew (j5 ((s,l),(s2,ak)) ((cM,bJ),(cX,b3)))))
@[go_sem] theorem atS (s:Int)(l:List Int)(s2:Int)(ak:List Int)(cM:Int)(bJ:List Int)(cX:Int)(b3:List Int)(H:(D l)<=1000000/\D ak<=1000000/\D bJ<=1000000/\D b3<=1000000):Ep [.agg [.int .i64 s,.Y (l.map ae),.int .i64 s2,.Y (ak.map ae)],.agg [.int .i64 cM,.Y (bJ.map ae),.int .i64 cX,.Y (b3.map ae)]]=some (.same (ew (j5 ((s,l),(s2,ak)) ((cM,bJ),(cX,b3))))):=(cx B2 (s,l,s2,ak,cM,bJ,cX,b3)).trans (cW H _)
theorem atT (T:bd)(fI:T l5=aW vU)(qO:T vy=aW Hc)(vX:T DH=aW LA)(s:Int)(l:List Int)(s2:Int)(ak:List Int)(cM:Int)(bJ:List Int)(cX:Int)(b3:List Int)(H:(D l)<=1000000/\D ak<=1000000/\D bJ<=1000000/\D b3<=1000000):WP T W7 (.same (ew (j5 ((s,l),(s2,ak)) ((cM,bJ),(cX,b3))))) [.J (.agg [.int .i64 s,.Y (l.map ae),.int .i64 s2,.Y (ak.map ae)]),.J (.agg [.int .i64 cM,.Y (bJ.map ae),.int .i64 cX,.Y (b3.map ae)])]:=by
 refine cy ?_;simp only[W7];obtain⟨cb,cB,hJ,js⟩:=H;unfold j5
 by_cases ab:ej ((s,l),(s2,ak))=true
 ·by_cases bC:ej ((cM,bJ),(cX,b3))=true
  ·rw[ad ab,ad bC];dsimp only;rcases ao:(cM==0)
   ·have dN:=Eo (s,l) (cX,b3);have cO:=Eo (s2,ak) (cM,bJ);rw[ag (by simp)];generalize ud:mulR (s,l) (cX,b3)=M1 at *;generalize g4:mulR (s2,ak) (cM,bJ)=M2 at *;obtain⟨⟨cT,c7⟩,aC⟩:=M1;obtain⟨⟨dh,eK⟩,aD⟩:=M2;refine a0 ?_;repeat' (intro h<;>simp only[h,go_sem,go_sem_proc,fI,qO,vX,cb,cB,hJ,js,ab,bC,ao,ud,g4,dN,cO,fR,db,ew,aH]<;>try refine aw ?_ ?_)
   ·rw[ad rfl];refine a0 ?_;repeat' (intro h<;>simp only[h,go_sem,go_sem_proc,fI,qO,vX,cb,cB,hJ,js,ab,bC,ao,ew,aH,er,cV]<;>try refine aw ?_ ?_)
  ·have bC:ej ((cM,bJ),(cX,b3))=false:=by simpa using bC
   rw[ad ab,ag (by simp[bC])];refine a0 ?_;repeat' (intro h<;>simp only[h,go_sem,go_sem_proc,fI,qO,vX,cb,cB,hJ,js,ab,bC,ew,aH,er,cV]<;>try refine aw ?_ ?_)
 ·have ab:ej ((s,l),(s2,ak))=false:=by simpa using ab
  rw[ag (by simp[ab])];refine a0 ?_;repeat' (intro h<;>simp only[h,go_sem,go_sem_proc,fI,qO,vX,cb,cB,hJ,js,ab,ew,aH,er,cV]<;>try refine aw ?_ ?_)
def Ad (c:Bool)(v:Rat):bo×Int:=if c=true then (au v,0) else (er,6)
def iM (z:Int):Bool:=decide (z.natAbs<ee)
def m6 (x y:Rat):Bool:=iM (x.num*y.den)&&(iM (y.num*x.den)&&(iM (x.num*y.den+y.num*x.den)&&iM ((x.den:Int)*y.den)))
def Ae (x y:Rat):Bool:=iM (x.num*y.num)&&iM ((x.den:Int)*y.den)
def xf (x y:Rat):Bool:=iM (x.num*y.den)&&iM ((x.den:Int)*y.num)
theorem B3 {z:Int}(h:iM z=true):sN z=(bQ z,0):=ad (by simpa [iM] using h)
theorem B4 {z:Int}(h:iM z=false):sN z=((0,[]),6):=ag (by simpa [iM] using h)
theorem qP {z:Int}(h:iM z=true):z.natAbs<ee:=by simpa [iM] using h
theorem atU {a b c d:Int}(aP:a.natAbs<ee)(ah:b.natAbs<ee)(H:c.natAbs<ee)(aa:d.natAbs<ee):
  xe (bQ a) (bQ b) (bQ c) (bQ d)=if (iM (a*b)&&(iM (c*d)&&iM (a*b+c*d)))=true then (bQ (a*b+c*d),0) else ((0,[]),6):=by
 unfold xe;rw[BU aP ah,BU H aa];rcases F:iM (a*b)
 ·rw[B4 F];rfl
 ·rw[B3 F];rcases I:iM (c*d)
  ·rw[B4 I];rfl
  ·rw[B3 I];show sO (bQ (a*b)) (bQ (c*d))=_;rw[agq (qP F) (qP I)];rcases af:iM (a*b+c*d)
   ·rw[B4 af];rfl
   ·rw[B3 af];rfl
theorem Xg (x y:Rat):l9 (x.num*y.den+y.num*x.den) ((x.den:Int)*y.den)=x+y:=by
 rw[<-Rat.divInt_add_divInt _ _ (by have:=den_pos x;omega) (by have:=den_pos y;omega),Ej,Ej]
theorem Xh (x y:Rat):l9 (x.num*y.num) ((x.den:Int)*y.den)=x*y:=by
 rw[<-agK,Ej,Ej]
theorem Xi (x y:Rat):l9 (x.num*y.den) ((x.den:Int)*y.num)=x/y:=by
 rw[<-agK,Ej,<-Rat.inv_divInt,Ej]
 rfl
theorem xg (x:Rat):(x.den:Int)≠0:=by have:=den_pos x;omega
theorem Xj {x y:Rat}(Q:dj x)(av:dj y):vW (au x) (au y)=Ad (m6 x y) (x+y):=by
 unfold vW;rw[ad (yH Q),ad (yH av)];show vV (xe (bQ x.num) (bQ y.den) (bQ y.num) (bQ x.den)) (mulR (bQ x.den) (bQ y.den))=_;rw[atU Q.1 (xd av) av.1 (xd Q),BU (xd Q) (xd av)];unfold m6;rcases F:iM (x.num*y.den)
 ·rfl
 ·rcases I:iM (y.num*x.den)
  ·rfl
  ·rcases af:iM (x.num*y.den+y.num*x.den)
   ·rfl
   ·rcases aO:iM ((x.den:Int)*y.den)
    ·rw[B4 aO];rfl
    ·rw[B3 aO];show hz (bQ (x.num*y.den+y.num*x.den)) (bQ ((x.den:Int)*y.den))=(au (x+y),0)
     rw[Aa (qP af) (qP aO) (Af (xg x) (xg y)),Xg]
theorem atV {x:Rat}(h:dj x):dj (-x):=⟨by rw[Rat.neg_num];have:=h.1;omega,by rw[Rat.neg_den];exact h.2⟩
theorem P3 {x y:Rat}(Q:dj x)(av:dj y):pf (au x) (au y)=Ad (m6 x (-y)) (x-y):=by
 unfold pf;rw[ad (yH Q),ad (yH av)]
 have:(j4 (au y).1,(au y).2)=au (-y):=by
  unfold au;have:j4 (bQ y.num)=bQ (-y.num):=by unfold j4;rw[ad (ld av.1),fQ]
  dsimp only;rw[this];rfl
 rw[this,Xj Q (atV av),Hg]
theorem Xk {x y:Rat}(Q:dj x)(av:dj y):ob (au x) (au y)=Ad (Ae x y) (x*y):=by
 unfold ob;rw[ad (yH Q),ad (yH av)];show vV (mulR (bQ x.num) (bQ y.num)) (mulR (bQ x.den) (bQ y.den))=_;rw[BU Q.1 av.1,BU (xd Q) (xd av)];unfold Ae;rcases F:iM (x.num*y.num)
 ·rw[B4 F];rfl
 ·rw[B3 F];rcases aO:iM ((x.den:Int)*y.den)
  ·rw[B4 aO];rfl
  ·rw[B3 aO];show hz (bQ (x.num*y.num)) (bQ ((x.den:Int)*y.den))=(au (x*y),0)
   rw[Aa (qP F) (qP aO) (Af (xg x) (xg y)),Xh]
theorem P4 {x y:Rat}(Q:dj x)(av:dj y)(ao:y≠0):j5 (au x) (au y)=Ad (xf x y) (x/y):=by
 unfold j5;rw[ad (yH Q),ad (yH av)];have aL:y.num≠0:=λh=>ao (Rat.num_eq_zero.1 h)
 have:((au y).1.1==0)=false:=by
  show (y.num.sign==0)=false
  simpa using aL
 rw[this,ag (by simp)];show vV (mulR (bQ x.num) (bQ y.den)) (mulR (bQ x.den) (bQ y.num))=_;rw[BU Q.1 (xd av),BU (xd Q) av.1];unfold xf;rcases F:iM (x.num*y.den)
 ·rw[B4 F];rfl
 ·rw[B3 F];rcases aO:iM ((x.den:Int)*y.num)
  ·rw[B4 aO];rfl
  ·rw[B3 aO];show hz (bQ (x.num*y.den)) (bQ ((x.den:Int)*y.num))=(au (x/y),0)
   rw[Aa (qP F) (qP aO) (Af (xg x) aL),Xi]
theorem atW {x y:Rat}(h:m6 x y=true):dj (x+y):=by
 unfold m6 at h;simp only[e4] at h;rw[<-Xg];exact P1 (qP h.2.2.1) (qP h.2.2.2)
theorem agL {x y:Rat}(h:m6 x (-y)=true):dj (x-y):=by rw[Hg];exact atW h
theorem agM {x y:Rat}(h:Ae x y=true):dj (x*y):=by
 unfold Ae at h;simp only[e4] at h;rw[<-Xh];exact P1 (qP h.1) (qP h.2)
theorem atX {x y:Rat}(h:xf x y=true):dj (x/y):=by
 unfold xf at h;simp only[e4] at h;rw[<-Xi];exact P1 (qP h.1) (qP h.2)
def lJ (x y:Rat):Int:=(x.num*y.den-y.num*x.den).sign
def lK (a b:bo):Int:=if ej a=true then (if ej b=true then (iA a.1*iA b.2-iA b.1*iA a.2).sign else 0) else 0
theorem P5 {x y:Rat}(Q:dj x)(av:dj y):lK (au x) (au y)=lJ x y:=by
 unfold lK;rw[ad (yH Q),ad (yH av)];unfold au lJ;rw[fQ,fQ,fQ,fQ]
theorem agN {x y:Rat}:lJ x y=0↔x=y:=by
 unfold lJ;rw[WO,Rat.eq_iff_mul_eq_mul];omega
theorem P6 {p q:Int}(aT:0<q):0<=p.fmod q/\p.fmod q<q:=⟨Int.fmod_nonneg_of_pos _ aT,Int.fmod_lt_of_pos _ aT⟩
theorem agO {p q r s:Int}(aT:0<q)(X:0<s)(h:p.fdiv q<r.fdiv s):p*s-r*q<0:=by
 have aC:=P7 p q;have aD:=P7 r s;have dh:=P6 (p:=p) aT;have eK:=P6 (p:=r) X;generalize p.fdiv q=x at *;generalize r.fdiv s=y at *;generalize p.fmod q=u at *;generalize r.fmod s=v at *;subst aC aD;have F:q*s*(x+1)<=q*s*y:=Int.mul_le_mul_of_nonneg_left (by omega) (PW (Int.mul_pos aT X));have I:u*s<q*s:=Int.mul_lt_mul_of_pos_right dh.2 X;have af:0<=v*q:=yv eK.1 (by omega);have b9:(q*x+u)*s-(s*y+v)*q=q*s*(x+1)-q*s*y+(u*s-q*s)-v*q:=by grind
 omega
theorem atY {p q r s:Int}(h:p.fdiv q=r.fdiv s):p*s-r*q=p.fmod q*s-r.fmod s*q:=by
 have aC:=P7 p q;have aD:=P7 r s;rw[h] at aC;generalize r.fdiv s=y at *;generalize p.fmod q=u at *;generalize r.fmod s=v at *;subst aC aD;grind
theorem agP (a b:Int):(a-b).sign = -(b-a).sign:=by rw[<-D6];congr 1;omega
theorem agQ {p q:Int}(aF:p.natAbs<ee)(aT:q.natAbs<ee)(ao:0<q):
  kO (p.sign,aM p.natAbs) (q.sign,aM q.natAbs)=(((p.fdiv q).sign,aM (p.fdiv q).natAbs),((p.fmod q).sign,aM (p.fmod q).natAbs),0):=Eb aF aT (by omega)
def sS:=ck yJ λ(s,l,s2,ak,cM,bJ,cX,b3)=>cR (D l<=1000000/\D ak<=1000000/\D bJ<=1000000/\D b3<=1000000) (.same (.int .i64 (lK ((s,l),(s2,ak)) ((cM,bJ),(cX,b3)))))
@[go_sem] theorem agR (s:Int)(l:List Int)(s2:Int)(ak:List Int)(cM:Int)(bJ:List Int)(cX:Int)(b3:List Int)(H:(D l)<=1000000/\D ak<=1000000/\D bJ<=1000000/\D b3<=1000000):sS [.agg [.int .i64 s,.Y (l.map ae),.int .i64 s2,.Y (ak.map ae)],.agg [.int .i64 cM,.Y (bJ.map ae),.int .i64 cX,.Y (b3.map ae)]]=some (.same (.int .i64 (lK ((s,l),(s2,ak)) ((cM,bJ),(cX,b3))))):=(cx B2 (s,l,s2,ak,cM,bJ,cX,b3)).trans (cW H _)
theorem atZ (T:bd)(fI:T l5=aW vU)(qM:T DI=aW PS)(yM:T UF=aW WJ)(s:Int)(l:List Int)(s2:Int)(ak:List Int)(cM:Int)(bJ:List Int)(cX:Int)(b3:List Int)(H:(D l)<=1000000/\D ak<=1000000/\D bJ<=1000000/\D b3<=1000000):WP T W2 (.same (.int .i64 (lK ((s,l),(s2,ak)) ((cM,bJ),(cX,b3))))) [.J (.agg [.int .i64 s,.Y (l.map ae),.int .i64 s2,.Y (ak.map ae)]),.J (.agg [.int .i64 cM,.Y (bJ.map ae),.int .i64 cX,.Y (b3.map ae)])]:=by
 refine cy ?_;simp only[W2];obtain⟨cb,cB,hJ,js⟩:=H
 by_cases ab:ej ((s,l),(s2,ak))=true
 ·by_cases bC:ej ((cM,bJ),(cX,b3))=true
  ·obtain⟨x,Q,e⟩:=(Lx _).1 ab;obtain⟨y,av,aD⟩:=(Lx _).1 bC;have hm:lK ((s,l),(s2,ak)) ((cM,bJ),(cX,b3))=lJ x y:=by rw[e,aD,P5 Q av]
   rw[hm];clear hm;have at0:(s,l)=bQ x.num:=congrArg B0 e;have Xl:(s2,ak)=bQ x.den:=congrArg Prod.snd e;have Xm:(cM,bJ)=bQ y.num:=congrArg B0 aD;have at1:(cX,b3)=bQ y.den:=congrArg Prod.snd aD;clear e aD;have Hh:=xd Q;have Xn:=xd av;have rI:=den_pos x;have iY:=den_pos y;have at2:=Q.1;have TR:=av.1;unfold lJ;generalize x.num=P at *;generalize (x.den:Int)=aN at *;generalize y.num=bU at *;generalize (y.den:Int)=S at *
   cases at0
   cases Xl
   cases Xm
   cases at1;simp only[go_sem,go_sem_proc,fI,qM,yM,cb,cB,hJ,js,ab,bC];refine dn [5,6,7,8] [135002,135003] (λ((rJ,p,q,r,t):Int×Int×Int×Int×Int) tm mem=>(rJ=1\/rJ = -1)/\0<q/\0<t/\p.natAbs<ee/\q.natAbs<ee/\r.natAbs<ee/\t.natAbs<ee/\(P*S-bU*aN).sign=rJ*(p*t-r*q).sign/\tm 9=.J (.int .i64 rJ)/\mem 135005=some (0,[.J (.int .i64 p.sign),.J (.Y ((aM p.natAbs).map ae))])/\mem 135006=some (0,[.J (.int .i64 q.sign),.J (.Y ((aM q.natAbs).map ae))])/\mem 135007=some (0,[.J (.int .i64 r.sign),.J (.Y ((aM r.natAbs).map ae))])/\mem 135008=some (0,[.J (.int .i64 t.sign),.J (.Y ((aM t.natAbs).map ae))])) (λ(_,_,q,_,_)=>q.natAbs) (1,P,aN,bU,S) (by refine⟨.inl rfl,rI,iY,at2,Hh,TR,Xn,by rw[n8],rfl,?_,?_,?_,?_⟩<;>rfl) ?_;intro vs ms aV aS;simp only[go_sem,go_sem_proc,fI,qM,yM] at aV aS;subst aV aS;rintro⟨rJ,p,q,r,t⟩ tm mem O hm ⟨xh,mE,LB,aF,aT,B5,bF,hR,jn,LC,uk,lh,Er⟩;simp only[go_sem,go_sem_proc,fI,qM,yM,ba] at O hm;obtain⟨bm,bK,bP,cl⟩:=O;have LD:=nB aF;have LF:=nB aT;have B6:=nB B5;have lt:=nB bF;have jZ:=agQ aF aT mE;have mF:=agQ B5 bF LB;have agS:=He (y:=q) aF (by omega);have LG:=He (y:=t) B5 (by omega);have Hi:=nB agS;have LH:=nB LG;have gp:xa ((p.fdiv q).sign,aM (p.fdiv q).natAbs) ((r.fdiv t).sign,aM (r.fdiv t).natAbs)=hH (p.fdiv q) (r.fdiv t):=agr agS LG;have aK7:=P6 (p:=p) mE;have bv:=P6 (p:=r) LB;have at3:IntKind.i64.wrap (0-rJ) = -rJ:=by rcases xh with rfl|rfl<;>rfl
   rcases yy (p.fdiv q) (r.fdiv t) with ay|heq|iW
   ·have aA:=agO mE LB ay;rw[Lp ay] at gp;rw[hR,rF aA];have hw:IntKind.i64.wrap (rJ * -1)=rJ * -1:=by rcases xh with rfl|rfl<;>rfl
    refine a0 ?_;repeat' (intro h<;>simp only[h,go_sem,go_sem_proc,fI,qM,yM,bm,bK,bP,cl,jn,hm,LC,uk,lh,Er,LD,LF,B6,lt,Hi,LH,jZ,mF,gp,hw,hl,db,show ((-1:Int)==0)=false from rfl]<;>try refine aw ?_ ?_)
   ·have aA:=atY heq;rw[heq,PJ] at gp
    have fz:∀a:Int,-1<=a->a<=1->IntKind.i64.wrap (rJ*a)=rJ*a:=by
     intro a F I;rcases xh with rfl|rfl<;>exact wrap64 _ (by omega) (by omega)
    rw[heq] at jZ Hi;have aK8:(p.fmod q).natAbs<ee:=by omega
    have aK9:(r.fmod t).natAbs<ee:=by omega
    rw[aA] at hR;generalize p.fmod q=u at *;generalize r.fmod t=v at *
    by_cases hu:u=0
    ·subst hu
     have X:(0*t-v*q).sign=(0:Int).sign-v.sign:=by
      rw[z7,agT,D6,sP,j3 mE,vI,yN,agT]
     rw[X] at hR;rw[hR];have af:=rH v;have z4:IntKind.i64.wrap ((0:Int).sign-v.sign)=(0:Int).sign-v.sign:=wrap64 _ (by rw[yN];omega) (by rw[yN];omega);have hw:=fz ((0:Int).sign-v.sign) (by rw[yN];omega) (by rw[yN];omega);refine a0 ?_;repeat' (intro h<;>simp only[h,go_sem,go_sem_proc,fI,qM,yM,bm,bK,bP,cl,jn,hm,LC,uk,lh,Er,LD,LF,B6,lt,Hi,LH,jZ,mF,gp,hw,z4,hl,db,show ((0:Int)==0)=true from rfl,show ((0:Int).sign==0)=true from rfl]<;>try refine aw ?_ ?_)
    ·have Eg:0<u:=by omega
     have Xo:(u.sign==0)=false:=by simpa using hu
     by_cases Ge:v=0
     ·subst Ge
      have X:(u*t-0*q).sign=u.sign-(0:Int).sign:=by
       rw[z7,Ld,sP,j3 LB,vI,yN,Ld]
      rw[X] at hR;rw[hR];have af:=rH u;have z4:IntKind.i64.wrap (u.sign-(0:Int).sign)=u.sign-(0:Int).sign:=wrap64 _ (by rw[yN];omega) (by rw[yN];omega);have hw:=fz (u.sign-(0:Int).sign) (by rw[yN];omega) (by rw[yN];omega);refine a0 ?_;repeat' (intro h<;>simp only[h,go_sem,go_sem_proc,fI,qM,yM,bm,bK,bP,cl,jn,hm,LC,uk,lh,Er,LD,LF,B6,lt,Hi,LH,jZ,mF,gp,hw,z4,Xo,hl,db,show ((0:Int)==0)=true from rfl,show ((0:Int).sign==0)=true from rfl]<;>try refine aw ?_ ?_)
     ·have o2:(v.sign==0)=false:=by simpa using Ge
      refine a0 ?_;repeat' (intro h<;>simp only[h,go_sem,go_sem_proc,fI,qM,yM,bm,bK,bP,cl,jn,hm,LC,uk,lh,Er,LD,LF,B6,lt,Hi,LH,jZ,mF,gp,Xo,o2,at3,hl,db,show ((0:Int)==0)=true from rfl]<;>try refine aw ?_ ?_)
      refine⟨(-rJ,q,u,t,v),by dsimp only;omega,by dsimp only;omega,by dsimp only;omega,by dsimp only;omega,by dsimp only;omega,by dsimp only;omega,by dsimp only;omega,by dsimp only;omega,?_,by simp[go_sem],by simp[go_sem],by simp[go_sem],by simp[go_sem],by simp[go_sem]⟩
      dsimp only;rw[hR,agP (q*v) (t*u),Int.neg_mul_neg,nt t u,nt q v]
   ·have aA:=agO LB mE iW;rw[Lq iW] at gp;rw[hR,agP,rF aA];have hw:IntKind.i64.wrap (rJ*1)=rJ * -(-1):=by rcases xh with rfl|rfl<;>rfl
    refine a0 ?_;repeat' (intro h<;>simp only[h,go_sem,go_sem_proc,fI,qM,yM,bm,bK,bP,cl,jn,hm,LC,uk,lh,Er,LD,LF,B6,lt,Hi,LH,jZ,mF,gp,hw,hl,db,show ((1:Int)==0)=false from rfl]<;>try refine aw ?_ ?_)
  ·have bC:ej ((cM,bJ),(cX,b3))=false:=by simpa using bC
   have hm:lK ((s,l),(s2,ak)) ((cM,bJ),(cX,b3))=0:=by unfold lK;rw[ad ab,ag (by simp[bC])]
   rw[hm];refine a0 ?_;repeat' (intro h<;>simp only[h,go_sem,go_sem_proc,fI,qM,yM,cb,cB,hJ,js,ab,bC]<;>try refine aw ?_ ?_)
 ·have ab:ej ((s,l),(s2,ak))=false:=by simpa using ab
  have hm:lK ((s,l),(s2,ak)) ((cM,bJ),(cX,b3))=0:=by unfold lK;rw[ag (by simp[ab])]
  rw[hm];refine a0 ?_;repeat' (intro h<;>simp only[h,go_sem,go_sem_proc,fI,qM,yM,cb,cB,hJ,js,ab]<;>try refine aw ?_ ?_)
def Xp:bN:=ca 22 2 [.t 4] (U [dO 3 108003 1,cP 4 false] (.seq (U [aY 6 1 3,a9 7 .lss 6 0,G 8 7,⟨some 9,some (8,false),.load 1 false (.t 3)⟩,⟨some 10,some (8,false),.bin .gtr (.t 9) (.c (aj 40))⟩,ed 11 8 10,G 12 11,⟨some 13,some (12,false),.b6 (.t 0)⟩,⟨some 14,some (12,false),.len (.t 13)⟩,⟨some 15,some (12,false),.load 1 false (.t 3)⟩,⟨some 16,some (12,false),.bin .neq (.t 14) (.t 15)⟩,ed 17 12 16] (a2 17 (U [cP 4 false] .ret) .skip)) (U [(aB 5 (.alloc 108005 [(.J .u9)])),⟨none,none,.store 1 (.t 5) (.c (.fu oJ []))⟩] (U [G 18 0,(aB 19 (.oY Bw [(.t 3),(.t 5)])),(cA 20 Uv 18 19),fy 21 20,G 4 21] .ret))))
def Xq:bN:=ca 48 2 [.t 4,.t 5] (U [eM 4,bp 5 0] (.seq (U [G 11 0,G 12 1,(cA 13 Us 11 12),fy 14 13] (a2 14 (U [eM 4,bp 5 1] .ret) .skip)) (U [G 16 0,G 17 1,(aB 18 (.call Uw [(.t 16),(.t 17),(.c (.J (.bool true)))])),G 15 18,bB 19 0 15,bB 20 1 15,G 6 19,G 7 20] (.seq (.block 0 (U [G 22 6,hb 23 22,bj 24 2 23,aY 25 1 24,G 21 25] (a2 21 (U [eM 4,bp 5 6] .ret) (U [G 27 7,ct 28 27,a9 29 .gtr 28 0,G 26 29] (a2 26 (U [eM 4,bp 5 17] .ret) .skip))))) (U [eM 8] (.seq (U [G 30 6,hb 31 30,bj 32 0 31,aY 33 1 32,ct 34 33,bp 35 0] (.block 1 (.ghost (.nU 8 109045 4) (.loop  (U [bq 36 .lss 35 34] (.seq (a2 36 .skip (.exit 1)) (.seq (.block 2 (U [bW 37 1 33 35,aY 38 1 37,G 10 38] (.ops [G 39 8,G 40 10,G 41 1,bW 42 4 40 41,bz 43 4 42,(aB 44 (.fe 109044 false [(aj 0),.nil,(aj 0),.nil] 4 1 [(0,4,(.t 43))])),(aB 45 (.app 109045 [(aj 0),.nil,(aj 0),.nil] 64 (.t 39) (.t 44))),G 8 45]))) (.ops [a9 46 .add 35 1,G 35 46])))))))) (U [G 47 8,G 4 47,bp 5 0] .ret)))))))
def Xr:bN:=ca 6 1 [.t 2] (U [dO 1 125001 0,cP 2 false] (U [bz 3 4 1,(dQ 4 l5 3),fy 5 4,G 2 5] .ret))
def Xs:bN:=ca 22 3 [.t 4] (U [dO 3 127003 0,cP 4 false] (U [bj 5 0 3,aY 6 1 5,ct 7 6,aY 8 1 1,bq 9 .neq 7 8,G 10 9,⟨some 11,some (10,false),.load 1 false (.t 2)⟩,⟨some 12,some (10,false),.ei 1 (.t 3)⟩,⟨some 13,some (10,false),.load 4 true (.t 12)⟩,⟨some 14,some (10,false),.jM (.t 11) [(.t 13)]⟩,ed 15 10 14,G 16 15,⟨some 17,some (16,false),.ei 0 (.t 3)⟩,⟨some 18,some (16,false),.load 1 false (.t 17)⟩,⟨some 19,some (16,false),.load 1 false (.t 2)⟩,⟨some 20,some (16,false),.call KJ [(.t 18),(.t 19)]⟩,ed 21 16 20,G 4 21] .ret))
def LI:bN:=ca 65 3 [.t 6,.t 7] (U [(aB 6 (.b6 (.c (.J .u7)))),eM 7] (U [G 13 1,(aB 14 (.build [.nil,(aj 0),(.J (.bool false))] [(1,1,(.t 13))])),dO 15 129015 14,G 8 15] (.seq (U [G 16 0,ct 17 16,bp 18 0] (.block 0 (.loop  (U [bq 19 .lss 18 17] (.seq (a2 19 .skip (.exit 0)) (.seq (.block 1 (U [bW 20 5 16 18,bz 21 5 20,(aB 10 (.alloc 129010 [.nil,(aj 0),.nil,(aj 0),.nil])),bn 5 10 21] (.mU [G 22 8,G 23 8,hb 24 23,bj 25 0 24,aY 26 1 25,bj 27 0 10,aY 28 1 27,(aB 29 (.nT 129029 4 OM [(.t 28)])),bj 30 1 10,bz 31 4 30,(aB 32 (.fe 129032 false [(aj 0),.nil,(aj 0),.nil] 4 1 [(0,4,(.t 31))])),(aB 33 (.app 129033 [(aj 0),.nil,(aj 0),.nil] 64 (.t 29) (.t 32))),(aB 34 (.fe 129034 true [.nil] 1 1 [(0,1,(.t 33))])),(aB 35 (.app 129035 [.nil] 24 (.t 26) (.t 34))),hb 36 22,bj 37 0 36,bn 1 37 35] [[],[],[],[],[],[],[],[4],[],[7],[],[4],[4],[],[],[],[]]))) (.ghost (.move) (.ops [a9 38 .add 18 1,G 18 38])))))))) (U [eM 11] (.seq (U [bp 12 0] (.block 2 (.ghost (.nU 11 129061 1) (.loop  (.seq (U [G 39 12,G 40 1,bq 41 .lss 39 40,G 42 41,⟨some 43,some (42,true),.b6 (.t 8)⟩,⟨some 44,some (42,true),.sg (.t 43)⟩,⟨some 45,some (42,true),.ei 2 (.t 44)⟩,⟨some 46,some (42,true),.load 1 false (.t 45)⟩,⟨some 47,some (42,true),.un .not (.t 46)⟩,fx 48 42 47] (a2 48 .skip (.exit 2))) (.seq (.block 3 (U [G 51 8,G 52 12,G 53 11,ct 54 53,bq 55 .sub 52 54,G 56 12,(vF 57 UD 51 55 56)] (a2 57 (U [G 58 11,G 59 12,(aB 60 (.fe 129060 false [(aj 0)] 1 1 [(0,1,(.t 59))])),(aB 61 (.app 129061 [(aj 0)] 8 (.t 58) (.t 60))),G 11 61] (U [G 62 2] (a2 62 (.exit 2) .skip))) .skip))) (.ops [G 49 12,a9 50 .add 49 1,G 12 50]))))))) (U [G 63 8,G 64 11,G 6 63,G 7 64] .ret))))))
def yO:bN:=ca 172 3 [.t 6] (U [cP 6 false] (U [G 15 1,G 7 15] (.seq (.block 0 (.loop  (.seq (U [G 16 7,G 17 0,hb 18 17,bj 19 1 18,aY 20 1 19,bq 21 .lss 16 20,G 22 21,⟨some 23,some (22,true),.b6 (.t 0)⟩,⟨some 24,some (22,true),.sg (.t 23)⟩,⟨some 25,some (22,true),.ei 0 (.t 24)⟩,⟨some 26,some (22,true),.load 1 false (.t 25)⟩,⟨some 27,some (22,true),.b6 (.t 7)⟩,⟨some 28,some (22,true),.jy 1 (.t 26) (.t 27)⟩,⟨some 29,some (22,true),.load 1 false (.t 28)⟩,⟨some 30,some (22,true),.b6 (.t 2)⟩,⟨some 31,some (22,true),.jy 4 (.t 29) (.t 30)⟩,⟨some 32,some (22,true),.load 4 true (.t 31)⟩,⟨some 33,some (22,true),.call KN [(.t 32)]⟩,fx 34 22 33] (a2 34 .skip (.exit 0))) (.block 1 (.ops [G 35 7,a9 36 .add 35 1,G 7 36]))))) (.seq (U [G 37 7,G 38 0,hb 39 38,bj 40 1 39,aY 41 1 40,bq 42 .eql 37 41] (a2 42 (U [cP 6 true] .ret) .skip)) (fM [G 43 0,hb 44 43,bj 45 0 44,aY 46 1 45,G 47 1,G 48 0,hb 49 48,bj 50 0 49,aY 51 1 50,G 52 7,G 53 0,hb 54 53,bj 55 0 54,aY 56 1 55,G 57 7,bW 58 1 56 57,aY 59 1 58,G 60 0,hb 61 60,bj 62 0 61,aY 63 1 62,G 64 1,bW 65 1 63 64,aY 66 1 65,bW 67 1 46 47,bn 1 67 59,bW 68 1 51 52,bn 1 68 66] arT (U [G 69 0,hb 70 69,bj 71 0 70,aY 72 1 71,G 73 1,bW 74 1 72 73,aY 75 1 74,G 76 2,bW 77 4 75 76,bz 78 4 77,(aB 8 (.alloc 148008 [(aj 0),.nil,(aj 0),.nil])),bn 4 8 78] (.seq (U [G 79 0,hb 80 79,bj 81 0 80,aY 82 1 81,G 83 1,bW 84 1 82 83,aY 85 1 84,ct 86 85,bp 87 0] (.block 2 (.loop  (U [bq 88 .lss 87 86] (.seq (a2 88 .skip (.exit 2)) (.seq (.block 3 (U [G 89 87,bW 90 4 85 87,bz 91 4 90,(aB 10 (.alloc 148010 [(aj 0),.nil,(aj 0),.nil])),G 9 89,bn 4 10 91] (.mU [G 92 0,hb 93 92,bj 94 0 93,aY 95 1 94,G 96 1,bW 97 1 95 96,aY 98 1 97,G 99 9,G 100 0,bz 101 4 10,bz 102 4 8,(cA 103 DJ 101 102),bB 104 0 103,bB 105 1 103,(aB 106 (.mw 2 Bx [(.t 100),(.t 104),(.t 105)])),bW 107 4 98 99,bn 4 107 106] [[],[],[],[],[],[],[],[],[],[],[],[],[],[],[3,6],[],[]]))) (.ops [a9 108 .add 87 1,G 87 108]))))))) (.seq (U [G 109 0,hb 110 109,bj 111 0 110,aY 112 1 111,ct 113 112,bp 114 0] (.block 4 (.loop  (U [bq 115 .lss 114 113] (.seq (a2 115 .skip (.exit 4)) (.seq (.block 5 (U [G 116 114,bW 117 1 112 114,aY 118 1 117,G 11 116,G 12 118] (U [G 119 12,G 120 2,bW 121 4 119 120,bz 122 4 121,(aB 13 (.alloc 148013 [(aj 0),.nil,(aj 0),.nil])),bn 4 13 122] (.seq (U [G 123 11,G 124 1,bq 125 .eql 123 124,G 126 125,⟨some 127,some (126,false),.load 4 true (.t 13)⟩,⟨some 128,some (126,false),.call KN [(.t 127)]⟩,ed 129 126 128] (a2 129 (.exit 5) .skip)) (U [bp 14 0] (.block 6 (.loop  (.seq (U [G 130 14,G 131 12,ct 132 131,bq 133 .lss 130 132,G 134 133,⟨some 135,some (134,true),.b6 (.t 0)⟩,⟨some 136,some (134,true),.sg (.t 135)⟩,⟨some 137,some (134,true),.ei 2 (.t 136)⟩,⟨some 138,some (134,true),.load 1 false (.t 137)⟩,⟨some 139,some (134,true),.un .not (.t 138)⟩,fx 140 134 139] (a2 140 .skip (.exit 6))) (.seq (.block 7 (.mU [G 143 12,G 144 14,G 145 0,G 146 12,G 147 14,bW 148 4 146 147,bz 149 4 148,G 150 0,bz 151 4 13,G 152 0,hb 153 152,bj 154 0 153,aY 155 1 154,G 156 1,bW 157 1 155 156,aY 158 1 157,G 159 14,bW 160 4 158 159,bz 161 4 160,(cA 162 wS 151 161),bB 163 0 162,bB 164 1 162,(aB 165 (.mw 2 Bx [(.t 150),(.t 163),(.t 164)])),(cA 166 vx 149 165),bB 167 0 166,bB 168 1 166,(aB 169 (.mw 2 Bx [(.t 145),(.t 167),(.t 168)])),bW 170 4 143 144,bn 4 170 169] [[],[],[],[],[],[],[],[],[],[],[],[],[],[],[],[],[],[],[],[],[],[],[6],[],[],[],[],[],[]])) (.ops [G 141 14,a9 142 .add 141 1,G 14 142])))))))))) (.ops [a9 171 .add 114 1,G 114 171]))))))) (U [cP 6 false] .ret)))))))))
def Xt:bN:=ca 7 1 [.t 2] (U [dO 1 167001 0,cP 2 false] (U [bj 3 0 1,bj 4 0 3,aY 5 1 4,a9 6 .eql 5 0,G 2 6] .ret))
def P8:bN:=ca 19 3 [.cell 6 4 true] (U [dO 4 168004 1,(aB 6 (.alloc 168006 [(aj 0),.nil,(aj 0),.nil]))] (U [G 7 0,G 8 0,hb 9 8,bj 10 2 9,aY 11 1 10,G 12 11,⟨some 13,some (12,false),.b6 (.t 2)⟩,⟨some 14,some (12,false),.bin .neq (.t 13) (.c (aj 0))⟩,ed 15 12 14,hb 16 7,bj 17 2 16,bn 1 17 15] (U [bz 18 4 4,bn 4 6 18] .ret)))
def Es:bN:=ca 92 2 [.cell 4 3 true,.t 5] (U [(aB 4 (.alloc 217004 [.nil,.nil,.nil])),bp 5 0] (.seq (U [G 15 0,G 16 1,(cA 17 UR 15 16),fy 18 17] (a2 18 (U [(aB 19 (.build [.nil,.nil,.nil] [])),bn 3 4 19,bp 5 1] .ret) .skip)) (U [G 20 0,G 21 1,(cA 22 US 20 21),G 6 22] (U [(aB 7 (.alloc 217007 [.nil,.nil,.nil]))] (.seq (.block 0 (.loop  (.block 1 (U [G 24 6,(dQ 25 OS 24),G 23 25,bB 26 0 23,bB 27 1 23,(aB 8 (.alloc 217008 [.nil])),bn 1 8 26,G 9 27] (.seq (U [G 28 9,fy 29 28] (a2 29 (U [(aB 30 (.build [.nil,.nil,.nil] [])),bn 3 4 30,bp 5 6] .ret) .skip)) (U [eM 10] (.seq (U [G 31 6,ct 32 31,bp 33 0] (.block 2 (.ghost (.nU 10 217057 1) (.loop  (U [bq 34 .lss 33 32] (.seq (a2 34 .skip (.exit 2)) (.seq (.block 3 (U [G 35 33,bW 36 1 31 33,aY 37 1 36,(aB 11 (.alloc 217011 [(aj 0)])),bn 1 11 35,G 12 37] (.seq (fM [aY 38 1 8,aY 39 1 11,bW 40 4 38 39,bz 41 4 40,G 42 12,G 43 12,hb 44 43,bj 45 22 44,aY 46 1 45,hb 47 42,bj 48 11 47,(aB 49 (.oX 11 1 (.t 48) (.t 46))),aY 50 1 49,(dQ 51 pa 50),(cA 52 nu 41 51),a9 53 .geq 52 0] OX (a2 53 (.exit 3) .skip)) (U [G 54 10,aY 55 1 11,(aB 56 (.fe 217056 false [(aj 0)] 1 1 [(0,1,(.t 55))])),(aB 57 (.app 217057 [(aj 0)] 8 (.t 54) (.t 56))),G 10 57] (.ops [G 58 12,G 59 12,hb 60 59,bj 61 11 60,(aB 62 (.tq 11 1 (.t 61) (some (.c (aj 1))) none none)),(aB 63 (.oY DM [(.t 8),(.t 11)])),(cA 64 wT 62 63),hb 65 58,bj 66 22 65,bn 1 66 64]))))) (.ops [a9 67 .add 33 1,G 33 67])))))))) (.seq (U [G 68 10,ct 69 68,a9 70 .eql 69 0] (a2 70 (U [aY 71 1 8,bj 72 0 7,bn 1 72 71] (.exit 0)) .skip)) (.ghost (.freeze 10) (.ops [bj 73 2 7,aY 74 1 73,G 75 10,(aB 76 (.fe 217076 false [.nil] 1 1 [(0,1,(.t 75))])),(aB 77 (.app 217077 [.nil] 24 (.t 74) (.t 76))),bj 78 2 7,bn 1 78 77])))))))))) (.seq (.ghost (.many) (.ops [G 80 1,bj 81 0 7,aY 82 1 81,(cA 83 UT 80 82),G 79 83,bB 84 0 79,bB 85 1 79,G 13 84,G 14 85])) (.seq (U [G 86 14,fy 87 86] (a2 87 (U [(aB 88 (.build [.nil,.nil,.nil] [])),bn 3 4 88,bp 5 6] .ret) .skip)) (U [G 89 13,bj 90 1 7,bn 1 90 89] (U [bz 91 3 7,bn 3 4 91,bp 5 0] .ret)))))))))
def Xu:bN:=ca 32 2 [.t 4] (U [cP 4 false] (U [G 9 0,ct 10 9,(aB 5 (.alloc 227005 [(aj 0)])),bn 1 5 10] (U [(aB 6 (.alloc 227006 [(.J .u9)])),⟨none,none,.store 1 (.t 6) (.c (.fu vD []))⟩] (U [(aB 11 (.oY KU [(.t 6)])),G 7 11] (U [(aB 12 (.oY KV [(.t 6),(.t 5)])),G 8 12] (U [aY 13 1 5,a9 14 .leq 13 60,G 15 14,⟨some 16,some (15,true),.b6 (.t 1)⟩,⟨some 17,some (15,true),.len (.t 16)⟩,⟨some 18,some (15,true),.bin .leq (.t 17) (.c (aj 2000))⟩,fx 19 15 18,G 20 19,⟨some 21,some (20,true),.b6 (.t 0)⟩,⟨some 22,some (20,true),.b6 (.t 7)⟩,⟨some 23,some (20,true),.call DN [(.t 21),(.t 22)]⟩,⟨some 24,some (20,true),.un .not (.t 23)⟩,fx 25 20 24,G 26 25,⟨some 27,some (26,true),.b6 (.t 1)⟩,⟨some 28,some (26,true),.b6 (.t 8)⟩,⟨some 29,some (26,true),.call zP [(.t 27),(.t 28)]⟩,⟨some 30,some (26,true),.un .not (.t 29)⟩,fx 31 26 30,G 4 31] .ret))))))
def B7:bN:=ca 73 2 [.t 4] (U [eM 4] (U [eM 5] (.seq (U [G 12 0,ct 13 12,bp 14 0] (.block 0 (.ghost (.nU 5 228023 1) (.loop  (U [bq 15 .lss 14 13] (.seq (a2 15 .skip (.exit 0)) (.seq (.block 1 (U [bW 16 1 12 14,aY 17 1 16,G 7 17] (.ops [G 18 5,G 19 7,(aB 20 (.build [(aj 0),.nil,.nil,.nil,.nil,.nil,.nil,.nil,.nil,.nil,.nil,(aj 0),(aj 0),(aj 0),(aj 0),(aj 0),(aj 0),(aj 0),(aj 0),(aj 0),(aj 0),(aj 0),(aj 0),(.J (.bool false))] [(0,1,(.t 19)),(22,1,(.c (aj 10)))])),dO 21 228021 20,(aB 22 (.fe 228022 true [(.J .u7)] 1 1 [(0,1,(.t 21))])),(aB 23 (.app 228023 [(.J .u7)] 8 (.t 18) (.t 22))),G 5 23]))) (.ghost (.many) (.ops [a9 24 .add 14 1,G 14 24]))))))))) (.seq (U [G 25 1,ct 26 25,bp 27 0] (.block 2 (.loop  (U [bq 28 .lss 27 26] (.seq (a2 28 .skip (.exit 2)) (.seq (.block 3 (U [bW 29 4 25 27,bz 30 4 29,(aB 9 (.alloc 228009 [(aj 0),(aj 0),(aj 0),(aj 0)])),bn 4 9 30] (U [G 31 5,bj 32 0 9,aY 33 1 32,bW 34 1 31 33,aY 35 1 34,G 10 35] (fM [G 36 10,bj 37 2 9,aY 38 1 37,G 39 10,bj 40 2 9,aY 41 1 40,hb 42 39,bj 43 1 42,(aB 44 (.oX 10 1 (.t 43) (.t 41))),aY 45 1 44,bz 46 4 9,(aB 47 (.fe 228047 false [(aj 0),(aj 0),(aj 0),(aj 0)] 4 1 [(0,4,(.t 46))])),(aB 48 (.app 228048 [(aj 0),(aj 0),(aj 0),(aj 0)] 32 (.t 45) (.t 47))),hb 49 36,bj 50 1 49,(aB 51 (.oX 10 1 (.t 50) (.t 38))),bn 1 51 48] [[],[],[],[],[],[],[],[],[],[],[],[],[2],[],[],[],[]] (.seq (.ghost (.many) (.ops [bj 52 2 9,aY 53 1 52,a9 54 .add 53 1,G 11 54])) (.block 4 (.loop  (.seq (U [G 55 11,a9 56 .leq 55 10] (a2 56 .skip (.exit 4))) (.seq (.block 5 (.mU [G 59 10,G 60 11,hb 61 59,bj 62 11 61,(aB 63 (.oX 11 1 (.t 62) (.t 60))),aY 64 1 63,bj 65 3 9,aY 66 1 65,bq 67 .add 64 66,hb 68 59,bj 69 11 68,(aB 70 (.oX 11 1 (.t 69) (.t 60))),bn 1 70 67] Vk)) (.ops [G 57 11,a9 58 .add 57 1,G 11 58])))))))))) (.ops [a9 71 .add 27 1,G 27 71]))))))) (.seq (.ghost (.many) (.ops [G 72 5,G 4 72])) .ret)))))
def Hj:bN:=ca 72 1 [.t 2,.t 3] (U [eM 2,cP 3 false] (.seq (U [G 11 0,ct 12 11,bp 13 0] (.block 0 (.loop  (U [bq 14 .lss 13 12] (.seq (a2 14 .skip (.exit 0)) (.seq (.block 1 (U [bW 15 1 11 13,aY 16 1 15,G 5 16] (.ops [G 17 5,hb 18 17,bj 19 23 18,⟨none,none,.store 1 (.t 19) (.c (.J (.bool false)))⟩]))) (.ops [a9 20 .add 13 1,G 13 20]))))))) (.block 2 (.loop  (.block 3 (U [G 22 0,(dQ 23 UY 22),G 21 23,bB 24 0 21,bB 25 1 21,G 6 24,G 7 25] (.seq (U [G 26 7,fy 27 26] (a2 27 (U [eM 2,cP 3 false] .ret) .skip)) (U [cP 8 false] (.seq (U [G 28 0,ct 29 28,bp 30 0] (.block 4 (.loop  (U [bq 31 .lss 30 29] (.seq (a2 31 .skip (.exit 4)) (.seq (.block 5 (U [G 32 30,bW 33 1 28 30,aY 34 1 33,G 9 32,G 10 34] (fM [G 35 10,hb 36 35,bj 37 22 36,aY 38 1 37,a9 39 .lss 38 10,G 40 39,⟨some 41,some (40,true),.b6 (.t 10)⟩,⟨some 42,some (40,true),.sg (.t 41)⟩,⟨some 43,some (40,true),.ei 23 (.t 42)⟩,⟨some 44,some (40,true),.load 1 false (.t 43)⟩,⟨some 45,some (40,true),.un .not (.t 44)⟩,fx 46 40 45,G 47 46,⟨some 48,some (47,true),.b6 (.t 6)⟩,⟨some 49,some (47,true),.b6 (.t 9)⟩,⟨some 50,some (47,true),.jy 4 (.t 48) (.t 49)⟩,⟨some 51,some (47,true),.load 4 true (.t 50)⟩,⟨some 52,some (47,true),.b6 (.t 10)⟩,⟨some 53,some (47,true),.b6 (.t 10)⟩,⟨some 54,some (47,true),.sg (.t 53)⟩,⟨some 55,some (47,true),.ei 22 (.t 54)⟩,⟨some 56,some (47,true),.load 1 false (.t 55)⟩,⟨some 57,some (47,true),.sg (.t 52)⟩,⟨some 58,some (47,true),.ei 11 (.t 57)⟩,⟨some 59,some (47,true),.oX 11 1 (.t 58) (.t 56)⟩,⟨some 60,some (47,true),.load 1 false (.t 59)⟩,⟨some 61,some (47,true),.call pa [(.t 60)]⟩,⟨some 62,some (47,true),.call nu [(.t 51),(.t 61)]⟩,⟨some 63,some (47,true),.bin .gtr (.t 62) (.c (aj 0))⟩,fx 64 47 63] aft (a2 64 (.ops [G 65 10,hb 66 65,bj 67 23 66,⟨none,none,.store 1 (.t 67) (.c (.J (.bool true)))⟩,cP 8 true]) .skip)))) (.ops [a9 68 .add 30 1,G 30 68]))))))) (U [G 69 8,fy 70 69] (a2 70 (U [G 71 6,G 2 71,cP 3 true] .ret) .skip)))))))))))
def Xv:bN:=ca 11 1 [.cell 2 4 true] (U [(aB 2 (.alloc 230002 [(aj 0),.nil,(aj 0),.nil]))] (U [G 6 0,(aB 7 (.call vw [(.t 6),(.c (aj 1))])),G 5 7,bB 8 0 5,bB 9 1 5,(aB 3 (.alloc 230003 [(aj 0),.nil,(aj 0),.nil])),bn 4 3 8,G 4 9] (U [bz 10 4 3,bn 4 2 10] .ret)))
def Xw:bN:=ca 13 3 [.t 4] (U [cP 4 false] (fM [aY 5 1 1,aY 6 1 2,bW 7 4 5 6,bz 8 4 7,G 9 0,(dQ 10 pa 9),(cA 11 nu 8 10),a9 12 .lss 11 0,G 4 12] GH .ret))
def Et:bN:=ca 96 2 [.t 4,.t 5] (U [eM 4,cP 5 false] (U [G 17 1,ct 18 17,(aB 19 (.mv 233019 [.nil] 24 (.t 18) (.t 18))),G 6 19] (U [G 20 1,ct 21 20,(aB 22 (.mv 233022 [.nil] 24 (.t 21) (.t 21))),G 7 22] (.seq (U [G 23 0,ct 24 23,bp 25 0] (.block 0 (.loop  (U [bq 26 .lss 25 24] (.seq (a2 26 .skip (.exit 0)) (.seq (.block 1 (U [G 27 25,bW 28 4 23 25,bz 29 4 28,(aB 9 (.alloc 233009 [(aj 0),(aj 0),(aj 0),(aj 0)])),G 8 27,bn 4 9 29] (.mU [G 30 6,bj 31 0 9,aY 32 1 31,G 33 7,bj 34 0 9,aY 35 1 34,G 36 6,bj 37 0 9,aY 38 1 37,bW 39 1 36 38,aY 40 1 39,bz 41 4 9,(aB 42 (.fe 233042 false [(aj 0),(aj 0),(aj 0),(aj 0)] 4 1 [(0,4,(.t 41))])),(aB 43 (.app 233043 [(aj 0),(aj 0),(aj 0),(aj 0)] 32 (.t 40) (.t 42))),G 44 7,bj 45 0 9,aY 46 1 45,bW 47 1 44 46,aY 48 1 47,G 49 8,(aB 50 (.fe 233050 false [(aj 0)] 1 1 [(0,1,(.t 49))])),(aB 51 (.app 233051 [(aj 0)] 8 (.t 48) (.t 50))),bW 52 1 30 32,bn 1 52 43,bW 53 1 33 35,bn 1 53 51] [[],[],[],[],[],[],[],[],[],[],[],[],[],[2,5],[],[],[13],[],[13],[],[],[2,5],[],[5],[],[]]))) (.ghost (.many) (.ops [a9 54 .add 25 1,G 25 54])))))))) (.seq (.ghost (.many) (.ops [G 55 0,ct 56 55,(aB 57 (.mv 233057 [(aj 0),.nil,(aj 0),.nil] 64 (.t 56) (.t 56))),G 10 57])) (.seq (U [G 58 6,ct 59 58,bp 60 0] (.block 2 (.loop  (U [bq 61 .lss 60 59] (.seq (a2 61 .skip (.exit 2)) (.seq (.block 3 (U [G 62 60,bW 63 1 58 60,aY 64 1 63,G 11 62,G 12 64] (U [G 66 1,G 67 11,bW 68 4 66 67,bz 69 4 68,G 70 12,(cA 71 KW 69 70),G 65 71,bB 72 0 65,bB 73 1 65,G 13 72,G 14 73] (.seq (U [G 74 14,a9 75 .neq 74 0] (a2 75 (U [eM 4,cP 5 false] .ret) .skip)) (U [G 76 7,G 77 11,bW 78 1 76 77,aY 79 1 78,ct 80 79,bp 81 0] (.block 4 (.loop  (U [bq 82 .lss 81 80] (.seq (a2 82 .skip (.exit 4)) (.seq (.block 5 (U [G 83 81,bW 84 1 79 81,aY 85 1 84,G 15 83,G 16 85] (.ops [G 86 10,G 87 16,G 88 13,G 89 15,bW 90 4 88 89,bz 91 4 90,bW 92 4 86 87,bn 4 92 91]))) (.ops [a9 93 .add 81 1,G 81 93]))))))))))) (.ops [a9 94 .add 60 1,G 60 94]))))))) (.seq (.ghost (.freeze 10) (.ops [G 95 10,G 4 95,cP 5 true])) .ret)))))))
def Xx:bN:=ca 15 3 [.t 6] (U [cP 6 false] (U [G 7 0,G 8 1,bq 9 .geq 7 8,G 10 9,⟨some 11,some (10,true),.b6 (.t 0)⟩,⟨some 12,some (10,true),.b6 (.t 2)⟩,⟨some 13,some (10,true),.bin .leq (.t 11) (.t 12)⟩,fx 14 10 13,G 6 14] .ret))
def Xy:bN:=ca 8 2 [.t 3] (U [cP 3 false] (U [aY 4 1 1,G 5 0,(aB 6 (.jM (.t 4) [(.t 5),(.c (aj 0)),(.c (aj 1000000000000000))])),fy 7 6,G 3 7] .ret))
def Xz:bN:=ca 35 3 [.t 4] (U [dO 3 245003 0,cP 4 false] (U [aY 5 1 1,bj 6 0 3,aY 7 1 6,aY 8 1 2,a9 9 .sub 8 1,(aB 10 (.jM (.t 5) [(.t 7),(.c (aj 0)),(.t 9)])),fy 11 10,G 12 11,⟨some 13,some (12,false),.load 1 false (.t 1)⟩,⟨some 14,some (12,false),.ei 1 (.t 3)⟩,⟨some 15,some (12,false),.load 1 false (.t 14)⟩,⟨some 16,some (12,false),.load 1 false (.t 2)⟩,⟨some 17,some (12,false),.bin .sub (.t 16) (.c (aj 1))⟩,⟨some 18,some (12,false),.jM (.t 13) [(.t 15),(.c (.J (.int .i64 (-1)))),(.t 17)]⟩,⟨some 19,some (12,false),.un .not (.t 18)⟩,ed 20 12 19,G 21 20,⟨some 22,some (21,false),.load 1 false (.t 1)⟩,⟨some 23,some (21,false),.ei 2 (.t 3)⟩,⟨some 24,some (21,false),.load 1 false (.t 23)⟩,⟨some 25,some (21,false),.jM (.t 22) [(.t 24),(.c (aj 0)),(.c (aj 9))]⟩,⟨some 26,some (21,false),.un .not (.t 25)⟩,ed 27 21 26,G 28 27,⟨some 29,some (28,false),.load 1 false (.t 1)⟩,⟨some 30,some (28,false),.ei 3 (.t 3)⟩,⟨some 31,some (28,false),.load 1 false (.t 30)⟩,⟨some 32,some (28,false),.jM (.t 29) [(.t 31),(.c (aj 0)),(.c (aj 1000000000000000))]⟩,⟨some 33,some (28,false),.un .not (.t 32)⟩,ed 34 28 33,G 4 34] .ret))
def vY:bN:=ca 159 1 [.t 2,.t 3] (U [eM 2,cP 3 false] (U [G 26 0,ct 27 26,G 4 27] (U [G 28 4,(aB 29 (.mv 248029 [(aj 0)] 8 (.t 28) (.t 28))),G 5 29] (U [eM 6] (U [eM 7] (.seq (U [G 30 0,ct 31 30,bp 32 0] (.block 0 (.ghost (.nU 6 248094 1) (.ghost (.nU 7 248098 1) (.loop  (U [bq 33 .lss 32 31] (.seq (a2 33 .skip (.exit 0)) (.seq (.block 1 (U [G 34 32,bW 35 1 30 32,aY 36 1 35,G 8 34,G 9 36] (fM [G 37 5,G 38 8,bW 39 1 37 38,aY 40 1 39,G 41 9,hb 42 41,bj 43 0 42,aY 44 1 43,bq 45 .add 40 44,bW 46 1 37 38,bn 1 46 45] OW (.seq (U [G 47 9,hb 48 47,bj 49 22 48,aY 50 1 49,bp 51 0] (.block 2 (.loop  (U [bq 52 .lss 51 50] (.seq (a2 52 .skip (.exit 2)) (.seq (.block 3 (U [G 53 51,G 10 53] (U [G 54 9,G 55 10,hb 56 54,bj 57 1 56,(aB 58 (.oX 10 1 (.t 57) (.t 55))),aY 59 1 58,ct 60 59,bp 61 0] (.block 4 (.loop  (U [bq 62 .lss 61 60] (.seq (a2 62 .skip (.exit 4)) (.seq (.block 5 (U [bW 63 4 59 61,bz 64 4 63,(aB 12 (.alloc 248012 [(aj 0),(aj 0),(aj 0),(aj 0)])),bn 4 12 64] (U [bj 65 1 12,aY 66 1 65,a9 67 .geq 66 0] (a2 67 (.mU [G 68 5,bj 69 1 12,aY 70 1 69,bW 71 1 68 70,aY 72 1 71,bj 73 3 12,aY 74 1 73,bq 75 .add 72 74,bW 76 1 68 70,bn 1 76 75] GI) .skip)))) (.ops [a9 77 .add 61 1,G 61 77]))))))))) (.ops [a9 78 .add 51 1,G 51 78]))))))) (U [G 79 9,hb 80 79,bj 81 23 80,aY 82 1 81] (a2 82 (U [G 84 9,G 85 4,(cA 86 OT 84 85),G 83 86,bB 87 0 83,bB 88 1 83,G 13 87,G 14 88] (.seq (U [G 89 14,fy 90 89] (a2 90 (U [eM 2,cP 3 false] .ret) .skip)) (.ops [G 91 6,G 92 8,(aB 93 (.fe 248093 false [(aj 0)] 1 1 [(0,1,(.t 92))])),(aB 94 (.app 248094 [(aj 0)] 8 (.t 91) (.t 93))),G 95 7,G 96 13,(aB 97 (.fe 248097 false [.nil] 1 1 [(0,1,(.t 96))])),(aB 98 (.app 248098 [.nil] 24 (.t 95) (.t 97))),G 6 94,G 7 98]))) .skip)))))) (.ops [a9 99 .add 32 1,G 32 99]))))))))) (.seq (.ghost (.freeze 5) (.ghost (.freeze 6) (.ghost (.freeze 7) (.ops [G 101 0,G 102 5,G 103 6,G 104 7,(zQ 105 U0 101 102 103 104),G 100 105,bB 106 0 100,bB 107 1 100,G 15 106,G 16 107])))) (.seq (U [G 108 16,fy 109 108] (a2 109 (U [eM 2,cP 3 false] .ret) .skip)) (U [eM 17] (.seq (U [G 110 5,ct 111 110,bp 112 0] (.block 6 (.ghost (.nU 17 248156 4) (.loop  (U [bq 113 .lss 112 111] (.seq (a2 113 .skip (.exit 6)) (.seq (.block 7 (U [G 114 112,bW 115 1 110 112,aY 116 1 115,G 18 114,G 19 116] (U [G 117 19,(dQ 118 pa 117),(aB 20 (.alloc 248020 [(aj 0),.nil,(aj 0),.nil])),bn 4 20 118] (.seq (U [G 119 6,ct 120 119,bp 121 0] (.block 8 (.loop  (U [bq 122 .lss 121 120] (.seq (a2 122 .skip (.exit 8)) (.seq (.block 9 (U [G 123 121,G 21 123] (fM [G 125 7,G 126 21,bW 127 1 125 126,aY 128 1 127,G 129 18,bW 130 4 128 129,bz 131 4 130,G 132 15,G 133 21,bW 134 4 132 133,bz 135 4 134,(cA 136 wS 131 135),G 124 136,bB 137 0 124,bB 138 1 124,(aB 22 (.alloc 248022 [(aj 0),.nil,(aj 0),.nil])),bn 4 22 137,G 23 138] [[],[],[],[],[],[],[],[],[],[],[],[],[],[],[],[3,6,10],[],[]] (U [bz 140 4 20,bz 141 4 22,(cA 142 yo 140 141),G 139 142,bB 143 0 139,bB 144 1 139,(aB 24 (.alloc 248024 [(aj 0),.nil,(aj 0),.nil])),bn 4 24 143,G 25 144] (.seq (U [G 145 23,a9 146 .neq 145 0,G 147 146,⟨some 148,some (147,false),.b6 (.t 25)⟩,⟨some 149,some (147,false),.bin .neq (.t 148) (.c (aj 0))⟩,ed 150 147 149] (a2 150 (U [eM 2,cP 3 false] .ret) .skip)) (.ops [bz 151 4 24,bn 4 20 151])))))) (.ops [a9 152 .add 121 1,G 121 152]))))))) (.ops [G 153 17,bz 154 4 20,(aB 155 (.fe 248155 false [(aj 0),.nil,(aj 0),.nil] 4 1 [(0,4,(.t 154))])),(aB 156 (.app 248156 [(aj 0),.nil,(aj 0),.nil] 64 (.t 153) (.t 155))),G 17 156]))))) (.ops [a9 157 .add 112 1,G 112 157])))))))) (.seq (.ghost (.freeze 17) (.ops [G 158 17,G 2 158,cP 3 true])) .ret)))))))))))
def P9:bN:=ca 88 2 [.t 4,.t 5] (U [eM 4,cP 5 false] (U [(aB 14 (.call pa [(.c (aj 0))])),(aB 15 (.fe 255015 false [(aj 0),.nil,(aj 0),.nil] 4 1 [(0,4,(.t 14))])),G 16 1,(aB 17 (.nT 255017 4 Ux [(.t 15),(.t 16)])),G 6 17] (U [cP 7 true] (.seq (fM [G 18 0,G 19 0,hb 20 19,bj 21 22 20,aY 22 1 21,hb 23 18,bj 24 1 23,(aB 25 (.oX 10 1 (.t 24) (.t 22))),aY 26 1 25,ct 27 26,bp 28 0] OW (.block 0 (.loop  (U [bq 29 .lss 28 27] (.seq (a2 29 .skip (.exit 0)) (.seq (.block 1 (U [bW 30 4 26 28,bz 31 4 30,(aB 9 (.alloc 255009 [(aj 0),(aj 0),(aj 0),(aj 0)])),bn 4 9 31] (.seq (U [bj 32 1 9,aY 33 1 32,a9 34 .lss 33 0] (a2 34 (.exit 1) .skip)) (fM [bj 36 3 9,aY 37 1 36,G 38 0,G 39 0,hb 40 39,bj 41 22 40,aY 42 1 41,a9 43 .add 42 1,hb 44 38,bj 45 11 44,(aB 46 (.oX 11 1 (.t 45) (.t 43))),aY 47 1 46,G 48 0,G 49 0,hb 50 49,bj 51 22 50,aY 52 1 51,hb 53 48,bj 54 11 53,(aB 55 (.oX 11 1 (.t 54) (.t 52))),aY 56 1 55,bq 57 .sub 47 56,(cA 58 vw 37 57),G 35 58,bB 59 0 35,bB 60 1 35,(aB 10 (.alloc 255010 [(aj 0),.nil,(aj 0),.nil])),bn 4 10 59,G 11 60] [[],[],[],[],[],[],[],[],[],[],[],[],[],[],[],[],[],[],[],[],[],[],[],[],[],[],[1,6,11,16,20],[],[]] (fM [G 62 6,bj 63 1 9,aY 64 1 63,bW 65 4 62 64,bz 66 4 65,bz 67 4 10,(cA 68 yo 66 67),G 61 68,bB 69 0 61,bB 70 1 61,(aB 12 (.alloc 255012 [(aj 0),.nil,(aj 0),.nil])),bn 4 12 69,G 13 70] [[],[],[],[],[],[],[],[],[],[],[2,4,5],[],[]] (U [G 71 7,G 72 71,⟨some 73,some (72,true),.b6 (.t 11)⟩,⟨some 74,some (72,true),.bin .eql (.t 73) (.c (aj 0))⟩,fx 75 72 74,G 76 75,⟨some 77,some (76,true),.b6 (.t 13)⟩,⟨some 78,some (76,true),.bin .eql (.t 77) (.c (aj 0))⟩,fx 79 76 78,G 7 79] (.ops [G 80 6,bj 81 1 9,aY 82 1 81,bz 83 4 12,bW 84 4 80 82,bn 4 84 83]))))))) (.ops [a9 85 .add 28 1,G 28 85]))))))) (.seq (.ghost (.freeze 6) (.ops [G 86 6,G 87 7,G 4 86,G 5 87])) .ret)))))
def Hk:bN:=ca 94 4 [.t 8,.t 9] (U [eM 8,cP 9 false] (U [eM 10] (.seq (U [G 20 2,ct 21 20,bp 22 0] (.block 0 (.ghost (.nU 10 256082 5) (.loop  (U [bq 23 .lss 22 21] (.seq (a2 23 .skip (.exit 0)) (.seq (.block 1 (U [G 24 22,bW 25 1 20 22,aY 26 1 25,G 11 24,G 12 26] (fM [G 27 1,G 28 12,bW 29 1 27 28,aY 30 1 29,G 31 0,G 32 12,bW 33 1 31 32,aY 34 1 33,G 35 0,G 36 12,bW 37 1 35 36,aY 38 1 37,hb 39 38,bj 40 22 39,aY 41 1 40,hb 42 34,bj 43 11 42,(aB 44 (.oX 11 1 (.t 43) (.t 41))),aY 45 1 44,bq 46 .sub 30 45,(dQ 47 pa 46),(aB 48 (.build [.nil,(aj 0),.nil,(aj 0),.nil] [(1,4,(.t 47))])),(aB 13 (.alloc 256013 [.nil,(aj 0),.nil,(aj 0),.nil])),bn 5 13 48] [[],[],[],[],[],[],[],[],[],[],[],[],[],[],[],[],[],[],[],[],[],[],[3,7,11,14,18],[]] (.seq (.seq (.ghost (.NS (.t 13) 0 256076 4) (.ops [G 49 2,ct 50 49,bp 51 0])) (.block 2 (.loop  (U [bq 52 .lss 51 50] (.seq (a2 52 .skip (.exit 2)) (.seq (.block 3 (U [G 53 51,G 14 53] (U [bp 15 0] (.seq (U [G 54 14,G 55 11,bq 56 .eql 54 55] (a2 56 (.ops [bp 15 1]) .skip)) (fM [G 58 15,(dQ 59 pa 58),G 60 3,G 61 14,bW 62 1 60 61,aY 63 1 62,G 64 12,bW 65 4 63 64,bz 66 4 65,(cA 67 vx 59 66),G 57 67,bB 68 0 57,bB 69 1 57,(aB 16 (.alloc 256016 [(aj 0),.nil,(aj 0),.nil])),bn 4 16 68,G 17 69] [[],[],[],[],[],[],[],[],[],[],[],[],[],[5,8],[],[]] (.seq (U [G 70 17,a9 71 .neq 70 0] (a2 71 (U [eM 8,cP 9 false] .ret) .skip)) (.ops [bj 72 0 13,aY 73 1 72,bz 74 4 16,(aB 75 (.fe 256075 false [(aj 0),.nil,(aj 0),.nil] 4 1 [(0,4,(.t 74))])),(aB 76 (.app 256076 [(aj 0),.nil,(aj 0),.nil] 64 (.t 73) (.t 75))),bj 77 0 13,bn 1 77 76]))))))) (.ops [a9 78 .add 51 1,G 51 78]))))))) (.ghost (.NT (.t 13) 0) (.ops [G 79 10,bz 80 5 13,(aB 81 (.fe 256081 false [.nil,(aj 0),.nil,(aj 0),.nil] 5 1 [(0,5,(.t 80))])),(aB 82 (.app 256082 [.nil,(aj 0),.nil,(aj 0),.nil] 88 (.t 79) (.t 81))),G 10 82])))))) (.ops [a9 83 .add 22 1,G 22 83])))))))) (.seq (.ghost (.freeze 10) (.ops [G 85 10,G 86 2,ct 87 86,(cA 88 Ut 85 87),G 84 88,bB 89 0 84,bB 90 1 84,G 18 89,G 19 90])) (U [G 91 18,G 92 19,a9 93 .eql 92 0,G 8 91,G 9 93] .ret)))))
def XA:bN:=ca 36 3 [.t 6] (U [dO 5 286005 2,bp 6 0] (U [G 10 0,G 11 1,bz 12 3 5,(aB 13 (.build [.nil,.nil,.nil,.nil,.nil] [(0,1,(.t 10)),(1,1,(.t 11)),(2,3,(.t 12))])),(aB 7 (.alloc 286007 [.nil,.nil,.nil,.nil,.nil])),bn 5 7 13] (.seq (U [bz 14 5 7,(dQ 15 U3 14),fy 16 15] (a2 16 (U [bp 6 1] .ret) .skip)) (.seq (U [G 17 0,ct 18 17,bp 19 0] (.block 0 (.loop  (U [bq 20 .lss 19 18] (.seq (a2 20 .skip (.exit 0)) (.seq (.block 1 (U [G 21 19,G 8 21] (U [bz 22 5 7,G 23 8,(cA 24 U4 22 23),G 9 24] (U [G 25 9,a9 26 .neq 25 0] (a2 26 (U [G 27 9,G 6 27] .ret) .skip))))) (.ops [a9 28 .add 19 1,G 19 28]))))))) (.seq (U [bz 29 5 7,(dQ 30 U5 29),fy 31 30,G 32 31,⟨some 33,some (32,false),.load 5 true (.t 7)⟩,⟨some 34,some (32,false),.call U6 [(.t 33)]⟩,ed 35 32 34] (a2 35 (U [bp 6 24] .ret) .skip)) (U [bp 6 0] .ret))))))
def XB:bN:=ca 61 1 [.t 2] (U [dO 1 287001 0,cP 2 false] (U [bj 7 0 1,aY 8 1 7,ct 9 8,(aB 3 (.alloc 287003 [(aj 0)])),bn 1 3 9] (U [(aB 4 (.alloc 287004 [(.J .u9)])),⟨none,none,.store 1 (.t 4) (.c (.fu nv []))⟩] (U [(aB 10 (.oY yp [(.t 3),(.t 4)])),G 5 10] (U [(aB 6 (.b6 (.c (.fu wU []))))] (.seq (U [aY 11 1 3,a9 12 .gtr 11 60,G 13 12,⟨some 14,some (13,false),.ei 1 (.t 1)⟩,⟨some 15,some (13,false),.load 1 false (.t 14)⟩,⟨some 16,some (13,false),.len (.t 15)⟩,⟨some 17,some (13,false),.bin .gtr (.t 16) (.c (aj 2000))⟩,ed 18 13 17,G 19 18,⟨some 20,some (19,false),.ei 2 (.t 1)⟩,⟨some 21,some (19,false),.ei 0 (.t 20)⟩,⟨some 22,some (19,false),.load 1 false (.t 21)⟩,⟨some 23,some (19,false),.len (.t 22)⟩,⟨some 24,some (19,false),.load 1 false (.t 3)⟩,⟨some 25,some (19,false),.bin .neq (.t 23) (.t 24)⟩,ed 26 19 25,G 27 26,⟨some 28,some (27,false),.ei 2 (.t 1)⟩,⟨some 29,some (27,false),.ei 1 (.t 28)⟩,⟨some 30,some (27,false),.load 1 false (.t 29)⟩,⟨some 31,some (27,false),.len (.t 30)⟩,⟨some 32,some (27,false),.ei 1 (.t 1)⟩,⟨some 33,some (27,false),.load 1 false (.t 32)⟩,⟨some 34,some (27,false),.len (.t 33)⟩,⟨some 35,some (27,false),.bin .neq (.t 31) (.t 34)⟩,ed 36 27 35] (a2 36 (U [cP 2 false] .ret) .skip)) (U [bj 37 0 1,aY 38 1 37,aY 39 1 4,(cA 40 U7 38 39),G 41 40,⟨some 42,some (41,true),.ei 1 (.t 1)⟩,⟨some 43,some (41,true),.load 1 false (.t 42)⟩,⟨some 44,some (41,true),.b6 (.t 5)⟩,⟨some 45,some (41,true),.call U8 [(.t 43),(.t 44)]⟩,fx 46 41 45,G 47 46,⟨some 48,some (47,true),.ei 2 (.t 1)⟩,⟨some 49,some (47,true),.ei 0 (.t 48)⟩,⟨some 50,some (47,true),.load 1 false (.t 49)⟩,⟨some 51,some (47,true),.b6 (.t 6)⟩,⟨some 52,some (47,true),.call OU [(.t 50),(.t 51)]⟩,fx 53 47 52,G 54 53,⟨some 55,some (54,true),.ei 2 (.t 1)⟩,⟨some 56,some (54,true),.ei 1 (.t 55)⟩,⟨some 57,some (54,true),.load 1 false (.t 56)⟩,⟨some 58,some (54,true),.b6 (.t 6)⟩,⟨some 59,some (54,true),.call OU [(.t 57),(.t 58)]⟩,fx 60 54 59,G 2 60] .ret)))))))
def XC:bN:=ca 80 2 [.t 4] (U [dO 2 288002 0,bp 4 0] (U [bj 16 0 2,aY 17 1 16,G 18 1,bW 19 1 17 18,aY 20 1 19,(aB 21 (.call vw [(.t 20),(.c (aj 1))])),G 15 21,bB 22 0 15,bB 23 1 15,(aB 5 (.alloc 288005 [(aj 0),.nil,(aj 0),.nil])),bn 4 5 22,G 6 23] (.seq (U [bj 24 1 2,aY 25 1 24,ct 26 25,bp 27 0] (.block 0 (.loop  (U [bq 28 .lss 27 26] (.seq (a2 28 .skip (.exit 0)) (.seq (.block 1 (U [G 29 27,bW 30 4 25 27,bz 31 4 30,(aB 8 (.alloc 288008 [(aj 0),(aj 0),(aj 0),(aj 0)])),G 7 29,bn 4 8 31] (.seq (U [bj 32 1 8,aY 33 1 32,G 34 1,bq 35 .neq 33 34] (a2 35 (.exit 1) .skip)) (fM [bz 37 4 5,bj 38 2 2,bj 39 1 38,aY 40 1 39,G 41 7,bW 42 4 40 41,bz 43 4 42,(cA 44 yo 37 43),G 36 44,bB 45 0 36,bB 46 1 36,(aB 9 (.alloc 288009 [(aj 0),.nil,(aj 0),.nil])),bn 4 9 45,G 10 46] [[],[],[],[],[],[],[],[],[],[],[],[0,3,6],[],[]] (.seq (U [G 47 10,a9 48 .neq 47 0] (a2 48 (U [G 49 10,G 4 49] .ret) .skip)) (.ops [bz 50 4 9,bn 4 5 50])))))) (.ops [a9 51 .add 27 1,G 27 51]))))))) (.seq (fM [bz 52 4 5,bj 53 2 2,bj 54 0 53,aY 55 1 54,G 56 1,bW 57 4 55 56,bz 58 4 57,(cA 59 nu 52 58),a9 60 .neq 59 0] GH (a2 60 (U [bp 4 24] .ret) .skip)) (U [bz 62 5 2,G 63 1,(cA 64 KY 62 63),G 61 64,bB 65 0 61,bB 66 1 61,G 11 65,G 12 66] (U [bz 68 4 5,G 69 11,(cA 70 KW 68 69),G 67 70,bB 71 0 67,bB 72 1 67,G 13 71,G 14 72] (.seq (U [G 73 14,a9 74 .neq 73 0] (a2 74 (U [G 75 14,G 4 75] .ret) .skip)) (.seq (U [G 76 12,G 77 13,(cA 78 U9 76 77),fy 79 78] (a2 79 (U [bp 4 24] .ret) .skip)) (U [bp 4 0] .ret)))))))))
def XD:bN:=ca 49 1 [.t 2] (U [dO 1 289001 0,cP 2 false] (U [eM 3] (.seq (U [bj 8 2 1,bj 9 2 8,aY 10 1 9,ct 11 10,bp 12 0] (.block 0 (.ghost (.nU 3 289040 1) (.loop  (U [bq 13 .lss 12 11] (.seq (a2 13 .skip (.exit 0)) (.seq (.block 1 (U [bW 14 1 10 12,aY 15 1 14,G 5 15] (.seq (U [G 16 5,ct 17 16,bp 18 0] (.block 2 (.loop  (U [bq 19 .lss 18 17] (.seq (a2 19 .skip (.exit 2)) (.seq (.block 3 (U [G 20 18,bW 21 1 16 18,aY 22 1 21,G 6 20,G 7 22] (U [G 23 6,a9 24 .gtr 23 0,G 25 24,⟨some 26,some (25,true),.b6 (.t 7)⟩,⟨some 27,some (25,true),.b6 (.t 5)⟩,⟨some 28,some (25,true),.b6 (.t 6)⟩,⟨some 29,some (25,true),.bin .sub (.t 28) (.c (aj 1))⟩,⟨some 30,some (25,true),.jy 1 (.t 27) (.t 29)⟩,⟨some 31,some (25,true),.load 1 false (.t 30)⟩,⟨some 32,some (25,true),.bin .leq (.t 26) (.t 31)⟩,fx 33 25 32] (a2 33 (U [cP 2 false] .ret) .skip)))) (.ops [a9 34 .add 18 1,G 18 34]))))))) (.seq (U [G 35 5,ct 36 35,a9 37 .eql 36 0] (a2 37 (U [cP 2 false] .ret) .skip)) (.ops [G 38 3,G 39 5,(aB 40 (.app 289040 [(aj 0)] 8 (.t 38) (.t 39))),G 3 40]))))) (.ops [a9 41 .add 12 1,G 12 41])))))))) (U [G 42 3,(dQ 43 Va 42)] (fM [G 44 3,(aB 45 (.sj 0 Vc [(.t 44)])),bz 46 5 1,(dQ 47 KZ 46),(cA 48 Vb 45 47),G 2 48] [[],[],[1],[],[],[]] .ret)))))
def XE:bN:=ca 21 1 [.t 2] (U [dO 1 290001 0,cP 2 false] (U [bz 5 5 1,(aB 6 (.nT 290006 1 KZ [(.t 5)])),G 3 6] (.seq (U [bj 7 0 1,aY 8 1 7,ct 9 8,bp 10 0] (.block 0 (.loop  (U [bq 11 .lss 10 9] (.seq (a2 11 .skip (.exit 0)) (.seq (.block 1 (U [G 12 3,(dQ 13 sG 12),(aB 4 (.alloc 290004 [.nil])),bn 1 4 13] (.ops [G 14 3,(aB 15 (.oY tU [(.t 1),(.t 4)])),(cA 16 Vd 14 15),G 3 16]))) (.ops [a9 17 .add 10 1,G 10 17]))))))) (U [G 18 3,ct 19 18,a9 20 .gtr 19 0,G 2 20] .ret))))
def XF:bN:=ca 5 1 [.t 2] (U [cP 2 false] (U [G 3 0,(aB 4 (.call DP [(.t 3),(.c (aj 0)),(.c (aj 1000000000000000))])),G 2 4] .ret))
def XG:bN:=ca 15 3 [.t 6] (U [cP 6 false] (U [G 7 1,G 8 0,bq 9 .leq 7 8,G 10 9,⟨some 11,some (10,true),.b6 (.t 0)⟩,⟨some 12,some (10,true),.b6 (.t 2)⟩,⟨some 13,some (10,true),.bin .leq (.t 11) (.t 12)⟩,fx 14 10 13,G 6 14] .ret))
def XH:bN:=ca 28 3 [.t 4] (U [dO 3 293003 0,cP 4 false] (U [bj 5 0 3,aY 6 1 5,aY 7 1 1,a9 8 .sub 7 1,(aB 9 (.call DP [(.t 6),(.c (aj 0)),(.t 8)])),G 10 9,⟨some 11,some (10,true),.ei 1 (.t 3)⟩,⟨some 12,some (10,true),.load 1 false (.t 11)⟩,⟨some 13,some (10,true),.load 1 false (.t 1)⟩,⟨some 14,some (10,true),.bin .sub (.t 13) (.c (aj 1))⟩,⟨some 15,some (10,true),.call DP [(.t 12),(.c (.J (.int .i64 (-1)))),(.t 14)]⟩,fx 16 10 15,G 17 16,⟨some 18,some (17,true),.ei 2 (.t 3)⟩,⟨some 19,some (17,true),.load 1 false (.t 18)⟩,⟨some 20,some (17,true),.call DP [(.t 19),(.c (aj 0)),(.c (aj 9))]⟩,fx 21 17 20,G 22 21,⟨some 23,some (22,true),.load 1 false (.t 2)⟩,⟨some 24,some (22,true),.ei 3 (.t 3)⟩,⟨some 25,some (22,true),.load 1 false (.t 24)⟩,⟨some 26,some (22,true),.jM (.t 23) [(.t 25)]⟩,fx 27 22 26,G 4 27] .ret))
def XI:bN:=ca 11 1 [.t 2] (U [dO 1 294001 0,cP 2 false] (U [bz 3 4 1,(dQ 4 l5 3),G 5 4,⟨some 6,some (5,true),.ei 0 (.t 1)⟩,⟨some 7,some (5,true),.ei 0 (.t 6)⟩,⟨some 8,some (5,true),.load 1 false (.t 7)⟩,⟨some 9,some (5,true),.bin .geq (.t 8) (.c (aj 0))⟩,fx 10 5 9,G 2 10] .ret))
def XJ:bN:=ca 9 2 [.t 4] (U [dO 3 295003 1,cP 4 false] (U [G 5 0,(aB 6 (.oY BC [(.t 3)])),(cA 7 DN 5 6),fy 8 7,G 4 8] .ret))
def XK:bN:=ca 9 2 [.t 4] (U [dO 3 296003 1,cP 4 false] (U [G 5 0,(aB 6 (.oY DQ [(.t 3)])),(cA 7 zP 5 6),fy 8 7,G 4 8] .ret))
def XL:bN:=ca 9 2 [.t 4] (U [dO 3 297003 1,cP 4 false] (U [G 5 0,(aB 6 (.oY vE [(.t 3)])),(cA 7 KJ 5 6),fy 8 7,G 4 8] .ret))
def XM:bN:=ca 38 2 [.t 4,.t 5] (U [dO 2 298002 0,eM 4,eM 5] (U [eM 6] (U [eM 7] (.seq (U [bj 10 1 2,aY 11 1 10,ct 12 11,bp 13 0] (.block 0 (.ghost (.nU 6 298025 4) (.ghost (.nU 7 298034 4) (.loop  (U [bq 14 .lss 13 12] (.seq (a2 14 .skip (.exit 0)) (.seq (.block 1 (U [G 15 13,bW 16 4 11 13,bz 17 4 16,(aB 9 (.alloc 298009 [(aj 0),(aj 0),(aj 0),(aj 0)])),G 8 15,bn 4 9 17] (U [bj 18 0 9,aY 19 1 18,G 20 1,bq 21 .eql 19 20] (a2 21 (.mU [G 22 6,bz 23 4 9,(aB 24 (.fe 298024 false [(aj 0),(aj 0),(aj 0),(aj 0)] 4 1 [(0,4,(.t 23))])),(aB 25 (.app 298025 [(aj 0),(aj 0),(aj 0),(aj 0)] 32 (.t 22) (.t 24))),G 26 7,bj 27 2 2,bj 28 1 27,aY 29 1 28,G 30 8,bW 31 4 29 30,bz 32 4 31,(aB 33 (.fe 298033 false [(aj 0),.nil,(aj 0),.nil] 4 1 [(0,4,(.t 32))])),(aB 34 (.app 298034 [(aj 0),.nil,(aj 0),.nil] 64 (.t 26) (.t 33))),G 6 25,G 7 34] [[],[],[],[],[],[],[],[3],[],[],[3],[],[],[],[]]) .skip)))) (.ops [a9 35 .add 13 1,G 13 35]))))))))) (.seq (.ghost (.freeze 6) (.ghost (.freeze 7) (.ops [G 36 6,G 37 7,G 4 36,G 5 37]))) .ret)))))
def XN:bN:=ca 8 2 [.t 4] (U [cP 4 false] (U [G 5 0,G 6 1,(aB 7 (.call UU [(.t 5),(.t 6),(.c (.fu wV []))])),G 4 7] .ret))
def XO:bN:=ca 26 1 [.t 2] (U [dO 1 303001 0,eM 2] (U [eM 3] (.seq (U [bj 7 0 1,aY 8 1 7,ct 9 8,bp 10 0] (.block 0 (.ghost (.nU 3 303023 1) (.loop  (U [bq 11 .lss 10 9] (.seq (a2 11 .skip (.exit 0)) (.seq (.block 1 (U [G 12 10,G 4 12] (U [bz 14 5 1,G 15 4,(cA 16 K1 14 15),G 13 16,bB 17 0 13,bB 18 1 13,G 5 17,G 6 18] (U [G 19 6] (a2 19 (.ops [G 20 3,G 21 4,(aB 22 (.fe 303022 false [(aj 0)] 1 1 [(0,1,(.t 21))])),(aB 23 (.app 303023 [(aj 0)] 8 (.t 20) (.t 22))),G 3 23]) .skip))))) (.ops [a9 24 .add 10 1,G 10 24])))))))) (U [G 25 3,G 2 25] .ret))))
def XP:bN:=ca 9 3 [.t 4] (U [cP 4 false] (U [bz 5 5 1,G 6 0,aY 7 1 2,(vF 8 Ve 5 6 7),G 4 8] .ret))
def XQ:bN:=ca 19 3 [.t 6] (U [dO 3 306003 0,dO 4 306004 1,dO 5 306005 2,cP 6 false] (U [bz 10 5 3,aY 11 1 4,(cA 12 K1 10 11),G 9 12,bB 13 0 9,bB 14 1 9,(aB 7 (.alloc 306007 [(aj 0)])),bn 1 7 13,G 8 14] (U [bj 15 1 3,aY 16 1 15,(aB 17 (.oY DR [(.t 4),(.t 7),(.t 5)])),(cA 18 zP 16 17),G 6 18] .ret)))
def XR:bN:=ca 8 2 [.t 3] (U [cP 3 false] (U [aY 4 1 1,G 5 0,(aB 6 (.jM (.t 4) [(.t 5)])),fy 7 6,G 3 7] .ret))
def XS:bN:=ca 8 2 [.t 3] (U [dO 2 308002 0,cP 3 false] (U [aY 4 1 1,bz 5 4 2,(aB 6 (.jM (.t 4) [(.t 5)])),fy 7 6,G 3 7] .ret))
def XT:bN:=ca 8 2 [.t 3] (U [dO 2 309002 0,cP 3 false] (U [aY 4 1 1,bz 5 4 2,(aB 6 (.jM (.t 4) [(.t 5)])),fy 7 6,G 3 7] .ret))
def XU:bN:=ca 9 2 [.t 4] (U [dO 2 310002 0,dO 3 310003 1,cP 4 false] (U [bz 5 4 2,bz 6 4 3,(cA 7 nu 5 6),a9 8 .eql 7 0,G 4 8] .ret))
def XV:bN:=ca 14 2 [.t 4,.t 5] (U [dO 2 313002 0,bp 4 0,cP 5 false] (U [bz 6 5 2,G 7 1,(cA 8 KY 6 7),bB 9 0 8,bB 10 1 8,(cA 11 UQ 9 10),bB 12 0 11,bB 13 1 11,G 4 12,G 5 13] .ret))
def XW:bN:=ca 28 4 [.t 5] (U [dO 4 314004 0,cP 5 false] (U [bj 6 0 4,aY 7 1 6,aY 8 1 1,bq 9 .eql 7 8,G 10 9,⟨some 11,some (10,true),.ei 2 (.t 4)⟩,⟨some 12,some (10,true),.load 1 false (.t 11)⟩,⟨some 13,some (10,true),.load 1 false (.t 2)⟩,⟨some 14,some (10,true),.bin .eql (.t 12) (.t 13)⟩,fx 15 10 14,G 16 15,⟨some 17,some (16,true),.ei 3 (.t 4)⟩,⟨some 18,some (16,true),.load 1 false (.t 17)⟩,⟨some 19,some (16,true),.bin .gtr (.t 18) (.c (aj 0))⟩,fx 20 16 19,G 21 20,⟨some 22,some (21,true),.load 1 false (.t 3)⟩,⟨some 23,some (21,true),.ei 1 (.t 4)⟩,⟨some 24,some (21,true),.load 1 false (.t 23)⟩,⟨some 25,some (21,true),.call Vg [(.t 22),(.t 24)]⟩,⟨some 26,some (21,true),.un .not (.t 25)⟩,fx 27 21 26,G 5 27] .ret))
abbrev e1:=List bo×bo
def j6 (r:e1):List Data:=.Y (r.1.map aH)::aH r.2
theorem nC (f:bo):(aH f).length=4:=rfl
theorem agU (r:e1):(j6 r).length=5:=rfl
theorem Hl (f:bo):((aH f).map R.J).all R.one=true:=rfl
theorem m7:∀a b:bo,aH a=aH b->a=b:=by
 rintro⟨⟨s,l⟩,⟨s2,ak⟩⟩ ⟨⟨t,m⟩,⟨t2,cO⟩⟩ h;simp only[aH,ba,Data.int.injEq,Data.Y.injEq,true_and,and_true] at h;obtain⟨rfl,F,rfl,I⟩:=h;rw[map_inj fp _ _ F,map_inj fp _ _ I]
theorem XX:∀a b:e1,j6 a=j6 b->a=b:=by
 rintro⟨a,b⟩ ⟨c,d⟩ h;simp only[j6,ba,Data.Y.injEq] at h;rw[map_inj m7 _ _ h.1,m7 _ _ h.2]
def okF (f:bo):Prop:=f.1.2.length<=1000000/\f.2.2.length<=1000000
def gv (l:List bo):Prop:=D l<=1000000/\∀f∈l,okF f
def yP (r:e1):Prop:=gv r.1/\okF r.2
def rK (rs:List e1):Prop:=D rs<=1000000/\∀r∈rs,yP r
def Qa:=ck El λ(s,l,s2,ak)=>cR (D l<=1000000/\D ak<=1000000) (.same (.bool (!ej ((s,l),(s2,ak)))))
@[go_sem] theorem at4 (s:Int)(l:List Int)(s2:Int)(ak:List Int)(H:(D l)<=1000000/\D ak<=1000000):Qa [.agg [.int .i64 s,.Y (l.map ae),.int .i64 s2,.Y (ak.map ae)]]=some (.same (.bool (!ej ((s,l),(s2,ak))))):=(cx Ly (s,l,s2,ak)).trans (cW H _)
theorem at5 (T:bd)(fI:T l5=aW vU)(s:Int)(l:List Int)(s2:Int)(ak:List Int)(H:(D l)<=1000000/\D ak<=1000000):WP T Xr (.same (.bool (!ej ((s,l),(s2,ak))))) [.J (.agg [.int .i64 s,.Y (l.map ae),.int .i64 s2,.Y (ak.map ae)])]:=by
 refine cy ?_;simp only[Xr];obtain⟨cb,cB⟩:=H;refine a0 ?_;repeat' (intro h<;>simp only[h,go_sem,go_sem_proc,fI,cb,cB]<;>try refine aw ?_ ?_)
def agV:=ck El λ(s,l,s2,ak)=>cR (D l<=1000000/\D ak<=1000000) (.same (.bool (!ej ((s,l),(s2,ak))||decide (s<0))))
@[go_sem] theorem at6 (s:Int)(l:List Int)(s2:Int)(ak:List Int)(H:(D l)<=1000000/\D ak<=1000000):agV [.agg [.int .i64 s,.Y (l.map ae),.int .i64 s2,.Y (ak.map ae)]]=some (.same (.bool (!ej ((s,l),(s2,ak))||decide (s<0)))):=(cx Ly (s,l,s2,ak)).trans (cW H _)
def XY:=ck El λ(s,l,s2,ak)=>cR (D l<=1000000/\D ak<=1000000) (.same (.bool (ej ((s,l),(s2,ak))&&decide (s>=0))))
@[go_sem] theorem aLa (s:Int)(l:List Int)(s2:Int)(ak:List Int)(H:(D l)<=1000000/\D ak<=1000000):XY [.agg [.int .i64 s,.Y (l.map ae),.int .i64 s2,.Y (ak.map ae)]]=some (.same (.bool (ej ((s,l),(s2,ak))&&decide (s>=0)))):=(cx Ly (s,l,s2,ak)).trans (cW H _)
theorem at7 (T:bd)(fI:T l5=aW vU)(s:Int)(l:List Int)(s2:Int)(ak:List Int)(H:(D l)<=1000000/\D ak<=1000000):WP T XI (.same (.bool (ej ((s,l),(s2,ak))&&decide (s>=0)))) [.J (.agg [.int .i64 s,.Y (l.map ae),.int .i64 s2,.Y (ak.map ae)])]:=by
 refine cy ?_;simp only[XI];obtain⟨cb,cB⟩:=H;rcases ab:ej ((s,l),(s2,ak))
 ·refine a0 ?_;repeat' (intro h<;>simp only[h,go_sem,go_sem_proc,fI,cb,cB,ab]<;>try refine aw ?_ ?_)
 ·refine a0 ?_;repeat' (intro h<;>simp only[h,go_sem,go_sem_proc,fI,cb,cB,ab]<;>try refine aw ?_ ?_)
abbrev XZ:Int×(List Int)×Int×(List Int)->List Data:=λ(s,l,s2,ak)=>[.agg [.int .i64 s,.Y (l.map ae),.int .i64 s2,.Y (ak.map ae)],.ptr [.fn wU []]]
def X0:=ck XZ λ(s,l,s2,ak)=>cR (D l<=1000000/\D ak<=1000000) (.same (.bool (!(ej ((s,l),(s2,ak))&&decide (s>=0)))))
theorem at8:∀a b,XZ a=XZ b->a=b:=by
  rintro⟨s1,dW,D7,D8⟩ ⟨s2,ak,D9,Ea⟩ h;simp only[ba,Data.agg.injEq,Data.int.injEq,Data.Y.injEq] at h;exact dT h.1.1.2 (dT (map_inj fp _ _ h.1.2.1) (dT h.1.2.2.1.2 (map_inj fp _ _ h.1.2.2.2.1)))
@[go_sem] theorem at9 (s:Int)(l:List Int)(s2:Int)(ak:List Int)(H:(D l)<=1000000/\D ak<=1000000):X0 [.agg [.int .i64 s,.Y (l.map ae),.int .i64 s2,.Y (ak.map ae)],.ptr [.fn wU []]]=some (.same (.bool (!(ej ((s,l),(s2,ak))&&decide (s>=0))))):=(cx at8 (s,l,s2,ak)).trans (cW H _)
theorem aua (T:bd)(aub:T wU=aW XY)(s:Int)(l:List Int)(s2:Int)(ak:List Int)(H:(D l)<=1000000/\D ak<=1000000):WP T XT (.same (.bool (!(ej ((s,l),(s2,ak))&&decide (s>=0))))) [.J (.agg [.int .i64 s,.Y (l.map ae),.int .i64 s2,.Y (ak.map ae)]),.J (.ptr [.fn wU []])]:=by
 refine cy ?_;simp only[XT];obtain⟨cb,cB⟩:=H;refine a0 ?_;repeat' (intro h<;>simp only[h,go_sem,go_sem_proc,aub,cb,cB]<;>try refine aw ?_ ?_)
def kP {α:Type}(p:α->Bool)(l:List α):Int:=match l.findIdx? p with
 |some i=>i
 |none => -1
theorem LJ {α:Type}{p:α->Bool}{l:List α}{i:Nat}(h:∀x∈l.take i,p x=false){x:α}(Q:l[i]?=some x)(aF:p x=true):kP p l=i:=by
 unfold kP
 have:l.findIdx? p=some i:=by
  rw[agW];obtain⟨ay,rfl⟩:=List.getElem?_eq_some_iff.1 Q;refine⟨ay,aF,λj ai=>?_⟩;have:=h l[j] (List.mem_iff_getElem?.2 ⟨j,by rw[List.getElem?_take_of_lt ai];exact bx _⟩);rw[this];decide
 rw[this]
theorem Qb {α:Type}{p:α->Bool}{l:List α}(h:∀x∈l,p x=false):kP p l = -1:=by
 unfold kP;rw[agX.2 h]
theorem LK {α:Type}(p:α->Bool)(l:List α):decide (kP p l>=0)=l.any p:=by
 unfold kP
 cases h:l.findIdx? p with
 |none =>
  have:=agX.1 h;have I:l.any p=false:=by rw[List.any_eq_false];intro x Q;simp[this x Q]
  rw[I];rfl
 |some i =>
  rw[agW] at h;obtain⟨F,I,-⟩:=h;have af:l.any p=true:=List.any_eq_true.2 ⟨_,o1 F,I⟩;rw[af];exact lq (by simp)
def Hm (f:bo):Bool:=!ej f
def pS (f:FuncId):bo->Bool:=if f=zO then λx => !ej x||decide (x.1.1<0) else if f=vE then λx => !(ej x&&decide (x.1.1>=0)) else Hm
def Hn (f:FuncId):List Data:=if f=vE then [.ptr [.fn wU []]] else []
@[go_sem] theorem auc:pS oJ=Hm:=by
 unfold pS;rw[ag (by decide),ag (by decide)]
@[go_sem] theorem agY:pS zO=λx => !ej x||decide (x.1.1<0):=by
 unfold pS;rw[ad rfl]
theorem agZ:pS vE=λx => !(ej x&&decide (x.1.1>=0)):=by
 unfold pS;rw[ag (by decide),ad rfl]
theorem Qc {α:Type}{p:α->Bool}{l:List α}{i:Nat}(h:∀x∈l.take i,p x=false){x:α}(Q:l[i]?=some x)(aF:p x=false):∀y∈l.take (i+1),p y=false:=by
 intro y av;rw[List.take_add_one,Q] at av;simp only[Option.toList_some,List.mem_append,uc] at av;rcases av with av|rfl
 ·exact h y av
 ·exact aF
theorem qQ {T:bd}{c:ez}{K:eW->bb->Prop}{st:bb}(h:wp T c K st):wp T c (cJ T K []) st:=by
 have:cJ T K []=K:=by funext e st;cases e<;>rfl
 rwa [this]
theorem X1 (T:bd)(id:FuncId)(eP:List Data)(aQ:List Data->Option eL)(cQ:T id=aW aQ)(p:bo->Bool)(l:List bo)(ar:gv l)(eA:∀a b c d,D b<=1000000->(D d)<=1000000->aQ (.agg [.int .i64 a,.Y (b.map ae),.int .i64 c,.Y (d.map ae)]::eP)=some (.same (.bool (p ((a,b),(c,d)))))):
  wp T GJ.body (zG GJ.res (.same (.int .i64 (kP p l)))) ⟨km [.J (.Y (l.map aH)),.J (.fn id eP)],emp⟩:=by
 obtain⟨ar,c1⟩:=ar;refine qs ?_;simp only[GJ];simp only[go_sem,go_sem_proc,al];refine dn [0,1,7] [] (λ(i:Nat) tm mem=>i<=D l/\(∀x∈l.take i,p x=false)/\tm 8=.J (.int .i64 i)) (λi=>D l-i) 0 (by refine⟨fv _,by simp,rfl⟩) ?_;intro vs ms aV aS;simp only[go_sem,go_sem_proc,al] at aV aS;subst aV aS;rintro i tm mem O hm ⟨M,fi,cl⟩;simp only[go_sem,go_sem_proc,ba] at O hm;obtain⟨ao,F,bP⟩:=O;have iK:∀m:Mem,(eP.map R.J).mapM (cE 6 m)=some eP:=λm=>tP (cE 6 m) (λd=>rfl) eP;rcases dA (i<D l) with ay|cj
 ·have Q:=bx ay;obtain⟨oH,uf⟩:=c1 _ (o1 ay);have cp:=λh=>LJ (p:=p) fi Q h;have hO:=λh=>Qc (p:=p) fi Q h;generalize l[i]=x at *;obtain⟨⟨a8,bY⟩,⟨c5,ey⟩⟩:=x;have mN:=eA a8 bY c5 ey oH uf;have hn:decide ((i:Int)<(D l:Int))=true:=di;have hw:=ff (i:=i) (by omega);rcases ah:p ((a8,bY),(c5,ey))
  ·rw[ah] at mN;simp only[go_sem,go_sem_proc,cQ,ao,F,bP,cl,Q,hn,hw,mN,iK,aH,al,bl,kK];repeat' (first|refine aw ?_ ?_|fail)<;>intro h<;>simp only[h,go_sem,go_sem_proc,cQ,ao,F,bP,cl,Q,hn,hw,mN,iK,aH,al,bl,kK]
   exact⟨i+1,by omega,by omega,hO ah,rfl⟩
  ·rw[ah] at mN;rw[cp ah];simp only[go_sem,go_sem_proc,cQ,ao,F,bP,cl,Q,hn,hw,mN,iK,aH,al,bl,kK];repeat' (first|refine aw ?_ ?_|fail)<;>intro h<;>simp only[h,go_sem,go_sem_proc,cQ,ao,F,bP,cl,Q,hn,hw,mN,iK,aH,al,bl,kK]
 ·have hn:decide ((i:Int)<(D l:Int))=false:=c9;obtain rfl:i=D l:=by omega
  rw[lf] at fi;rw[Qb fi];simp only[go_sem,go_sem_proc,ao,F,bP,cl,hn,al];repeat' (first|refine aw ?_ ?_|fail)<;>intro h<;>simp only[h,go_sem,go_sem_proc,ao,F,bP,cl,hn,al]
def Ho (f:FuncId):Prop:=f=oJ\/(f=zO/\zO<900000)\/(f=vE/\vE<900000)
abbrev Qd:(List bo)×FuncId->List Data:=λ(l,f)=>[.Y (l.map aH),.fn f (Hn f)]
def X2:=ck Qd λ(l,f)=>cR (gv l/\Ho f) (.same (.int .i64 (kP (pS f) l)))
theorem ag0:∀a b,Qd a=Qd b->a=b:=by
  rintro⟨dW,f1⟩ ⟨ak,f2⟩ h;simp only[ba,Data.Y.injEq,Data.fn.injEq] at h;exact dT (map_inj m7 _ _ h.1) h.2.1.1
@[go_sem] theorem aLb (l:List bo)(f:FuncId)(H:gv l/\Ho f):X2 [.Y (l.map aH),.fn f (Hn f)]=some (.same (.int .i64 (kP (pS f) l))):=(cx ag0 (l,f)).trans (cW H _)
theorem aud (T:bd)(LL:T oJ=aW Qa)(aue:zO<900000->T zO=aW agV)(auf:vE<900000->T vE=aW X0)(l:List bo)(f:FuncId)(H:gv l/\Ho f):WP T GJ (.same (.int .i64 (kP (pS f) l))) [.J (.Y (l.map aH)),.J (.fn f (Hn f))]:=by
 refine cy ?_;simp only[GJ];obtain⟨ar,aI⟩:=H;rcases aI with rfl|⟨rfl,M⟩|⟨rfl,M⟩
 ·rw[auc];exact qQ (X1 T _ _ _ LL Hm l ar λa b c d F I=>at4 a b c d ⟨F,I⟩)
 ·rw[agY];exact qQ (X1 T _ _ _ (aue M) (λx => !ej x||decide (x.1.1<0)) l ar λa b c d F I=>at6 a b c d ⟨F,I⟩)
 ·rw[agZ];exact qQ (X1 T _ _ _ (auf M) (λx => !(ej x&&decide (x.1.1>=0))) l ar λa b c d F I=>at9 a b c d ⟨F,I⟩)
def LM:=ck Qd λ(l,f)=>cR (gv l/\Ho f) (.same (.bool (l.any (pS f))))
@[go_sem] theorem ag1 (l:List bo)(f:FuncId)(H:gv l/\Ho f):LM [.Y (l.map aH),.fn f (Hn f)]=some (.same (.bool (l.any (pS f)))):=(cx ag0 (l,f)).trans (cW H _)
theorem aug (T:bd)(auh:T UC=aW X2)(l:List bo)(f:FuncId)(H:gv l/\Ho f):WP T VH (.same (.bool (l.any (pS f)))) [.J (.Y (l.map aH)),.J (.fn f (Hn f))]:=by
 refine cy ?_;simp only[VH];rw[<-LK];refine a0 ?_;repeat' (intro h<;>simp only[h,go_sem,go_sem_proc,auh,H]<;>try refine aw ?_ ?_)
@[go_sem] theorem aLc (l:List bo)(h:gv l):LM [.Y (l.map aH),.fn oJ []]=some (.same (.bool (l.any (pS oJ)))):=ag1 l oJ ⟨h,.inl rfl⟩
def oL (n:Int)(r:e1):Bool:=!(((r.1.length:Int)==n)&&(ej r.2 && !(r.1.any Hm)))
abbrev X3:(List bo)×Int×(List Int)×Int×(List Int)×Int->List Data:=λ(a,s,l,s2,ak,n)=>[.agg [.Y (a.map aH),.int .i64 s,.Y (l.map ae),.int .i64 s2,.Y (ak.map ae)],.ptr [.int .i64 n],.ptr [.fn oJ []]]
def X4:=ck X3 λ(a,s,l,s2,ak,n)=>cR (gv a/\D l<=1000000/\D ak<=1000000) (.same (.bool (oL n (a,((s,l),(s2,ak))))))
theorem aui:∀a b,X3 a=X3 b->a=b:=by
  rintro⟨cT,s1,dW,D7,D8,hF⟩ ⟨c7,s2,ak,D9,Ea,ir⟩ h;simp only[ba,Data.agg.injEq,Data.int.injEq,Data.Y.injEq,Data.ptr.injEq] at h;exact dT (map_inj m7 _ _ h.1.1) (dT h.1.2.1.2 (dT (map_inj fp _ _ h.1.2.2.1) (dT h.1.2.2.2.1.2 (dT (map_inj fp _ _ h.1.2.2.2.2.1) h.2.1.1.2))))
@[go_sem] theorem aLd (a:List bo)(s:Int)(l:List Int)(s2:Int)(ak:List Int)(n:Int)(H:gv a/\D l<=1000000/\D ak<=1000000):X4 [.agg [.Y (a.map aH),.int .i64 s,.Y (l.map ae),.int .i64 s2,.Y (ak.map ae)],.ptr [.int .i64 n],.ptr [.fn oJ []]]=some (.same (.bool (oL n (a,((s,l),(s2,ak)))))):=(cx aui (a,s,l,s2,ak,n)).trans (cW H _)
theorem auj (T:bd)(LL:T oJ=aW Qa)(Hp:T KJ=aW LM)(a:List bo)(s:Int)(l:List Int)(s2:Int)(ak:List Int)(n:Int)(H:gv a/\D l<=1000000/\D ak<=1000000):WP T Xs (.same (.bool (oL n (a,((s,l),(s2,ak)))))) [.J (.agg [.Y (a.map aH),.int .i64 s,.Y (l.map ae),.int .i64 s2,.Y (ak.map ae)]),.J (.ptr [.int .i64 n]),.J (.ptr [.fn oJ []])]:=by
 refine cy ?_;simp only[Xs];obtain⟨aP,cb,cB⟩:=H;unfold oL;rcases F:((D a:Int)==n)
 ·refine a0 ?_;repeat' (intro h<;>simp only[h,go_sem,go_sem_proc,LL,Hp,aP,cb,cB,F,al]<;>try refine aw ?_ ?_)
 ·rcases I:ej ((s,l),(s2,ak))
  ·refine a0 ?_;repeat' (intro h<;>simp only[h,go_sem,go_sem_proc,LL,Hp,aP,cb,cB,F,I,al]<;>try refine aw ?_ ?_)
  ·refine a0 ?_;repeat' (intro h<;>simp only[h,go_sem,go_sem_proc,LL,Hp,aP,cb,cB,F,I,al,show (oJ=oJ)=True from by simp,true_or,Bool.not_not]<;>try refine aw ?_ ?_)
abbrev Qe:(List e1)×Int->List Data:=λ(rs,n)=>[.Y (rs.map j6),.fn Bw [.ptr [.int .i64 n],.ptr [.fn oJ []]]]
def X5:=ck Qe λ(rs,n)=>cR (rK rs) (.same (.int .i64 (kP (oL n) rs)))
theorem ag2:∀a b,Qe a=Qe b->a=b:=by
  rintro⟨ag3,hF⟩ ⟨ag4,ir⟩ h;simp only[ba,Data.Y.injEq,Data.fn.injEq,Data.ptr.injEq,Data.int.injEq] at h;exact dT (map_inj XX _ _ h.1) h.2.1.2.1.1.2
@[go_sem] theorem aLe (rs:List e1)(n:Int)(H:rK rs):X5 [.Y (rs.map j6),.fn Bw [.ptr [.int .i64 n],.ptr [.fn oJ []]]]=some (.same (.int .i64 (kP (oL n) rs))):=(cx ag2 (rs,n)).trans (cW H _)
theorem auk (T:bd)(Ag:T Bw=aW X4)(rs:List e1)(n:Int)(H:rK rs):WP T VJ (.same (.int .i64 (kP (oL n) rs))) [.J (.Y (rs.map j6)),.J (.fn Bw [.ptr [.int .i64 n],.ptr [.fn oJ []]])]:=by
 refine cy ?_;simp only[VJ];obtain⟨ar,c1⟩:=H;simp only[go_sem,go_sem_proc,Ag,al];refine dn [0,1,7] [] (λ(i:Nat) tm mem=>i<=D rs/\(∀x∈rs.take i,oL n x=false)/\tm 8=.J (.int .i64 i)) (λi=>D rs-i) 0 (by refine⟨fv _,?_,rfl⟩;simp) ?_;intro vs ms aV aS;simp only[go_sem,go_sem_proc,Ag,al] at aV aS;subst aV aS;rintro i tm mem O hm ⟨M,fi,cl⟩;simp only[go_sem,go_sem_proc,Ag,ba] at O hm;obtain⟨ao,F,bP⟩:=O;rcases dA (i<D rs) with ay|cj
 ·have Q:=bx ay;obtain⟨rI,oH,uf⟩:=c1 _ (o1 ay);have cp:=λh=>LJ (p:=oL n) fi Q h;have hO:=λh=>Qc (p:=oL n) fi Q h;generalize rs[i]=x at *;have hn:decide ((i:Int)<(D rs:Int))=true:=di;have hw:=ff (i:=i) (by omega);obtain⟨a,⟨a8,bY⟩,⟨c5,ey⟩⟩:=x;dsimp only at rI oH uf;rcases ah:oL n (a,((a8,bY),(c5,ey)))
  ·simp only[go_sem,go_sem_proc,Ag,ao,F,bP,cl,Q,hn,hw,rI,oH,uf,ah,al,bl,j6,aH];repeat' (first|refine aw ?_ ?_|fail)<;>intro h<;>simp only[h,go_sem,go_sem_proc,Ag,ao,F,bP,cl,Q,hn,hw,rI,oH,uf,ah,al,bl,j6,aH]
   exact⟨i+1,by omega,by omega,hO ah,rfl⟩
  ·rw[cp ah];simp only[go_sem,go_sem_proc,Ag,ao,F,bP,cl,Q,hn,hw,rI,oH,uf,ah,al,bl,j6,aH];repeat' (first|refine aw ?_ ?_|fail)<;>intro h<;>simp only[h,go_sem,go_sem_proc,Ag,ao,F,bP,cl,Q,hn,hw,rI,oH,uf,ah,al,bl,j6,aH]
 ·have hn:decide ((i:Int)<(D rs:Int))=false:=c9;have hU:i=D rs:=by omega
  subst hU;rw[lf] at fi;rw[Qb fi];simp only[go_sem,go_sem_proc,Ag,ao,F,bP,cl,hn,al];repeat' (first|refine aw ?_ ?_|fail)<;>intro h<;>simp only[h,go_sem,go_sem_proc,Ag,ao,F,bP,cl,hn,al]
def X6:=ck Qe λ(rs,n)=>cR (rK rs) (.same (.bool (rs.any (oL n))))
@[go_sem] theorem aLf (rs:List e1)(n:Int)(H:rK rs):X6 [.Y (rs.map j6),.fn Bw [.ptr [.int .i64 n],.ptr [.fn oJ []]]]=some (.same (.bool (rs.any (oL n)))):=(cx ag2 (rs,n)).trans (cW H _)
theorem aul (T:bd)(aum:T UB=aW X5)(rs:List e1)(n:Int)(H:rK rs):WP T VG (.same (.bool (rs.any (oL n)))) [.J (.Y (rs.map j6)),.J (.fn Bw [.ptr [.int .i64 n],.ptr [.fn oJ []]])]:=by
 refine cy ?_;simp only[VG];rw[<-LK];refine a0 ?_;repeat' (intro h<;>simp only[h,go_sem,go_sem_proc,aum,H]<;>try refine aw ?_ ?_)
def oc (rs:List e1)(n:Int):Bool:=!(decide (n<0))&&(!(decide (n>40))&&(((D rs:Int)==n) && !(rs.any (oL n))))
abbrev Qf:(List e1)×Int->List Data:=λ(rs,n)=>[.Y (rs.map j6),.int .i64 n]
def X7:=ck Qf λ(rs,n)=>cR (rK rs) (.same (.bool (oc rs n)))
theorem ag5:∀a b,Qf a=Qf b->a=b:=by
  rintro⟨ag3,hF⟩ ⟨ag4,ir⟩ h;simp only[ba,Data.Y.injEq,Data.int.injEq] at h;exact dT (map_inj XX _ _ h.1) h.2.1.2
@[go_sem] theorem aLg (rs:List e1)(n:Int)(H:rK rs):X7 [.Y (rs.map j6),.int .i64 n]=some (.same (.bool (oc rs n))):=(cx ag5 (rs,n)).trans (cW H _)
theorem aun (T:bd)(Qg:T Uv=aW X6)(rs:List e1)(n:Int)(H:rK rs):WP T Xp (.same (.bool (oc rs n))) [.J (.Y (rs.map j6)),.J (.int .i64 n)]:=by
 refine cy ?_;simp only[Xp];unfold oc;rcases F:decide (n<0)
 ·rcases I:decide (n>40)
  ·rcases af:((D rs:Int)==n)
   ·refine a0 ?_;repeat' (intro h<;>simp only[h,go_sem,go_sem_proc,Qg,H,F,I,af,al]<;>try refine aw ?_ ?_)
   ·refine a0 ?_;repeat' (intro h<;>simp only[h,go_sem,go_sem_proc,Qg,H,F,I,af,al,cE,nj,hK,scalar]<;>try refine aw ?_ ?_)
  ·refine a0 ?_;repeat' (intro h<;>simp only[h,go_sem,go_sem_proc,Qg,H,F,I,al]<;>try refine aw ?_ ?_)
 ·refine a0 ?_;repeat' (intro h<;>simp only[h,go_sem,go_sem_proc,Qg,H,F,al]<;>try refine aw ?_ ?_)
theorem auo {es:List (List Data)}(h:∀x∈es,Fit (.int .i64) x):∃l:List Int,es=l.map ae:=by
 obtain⟨l,e,-⟩:=Uo (e:=ae) (good:=λ_=>True) λx Q=>by
  have:=h x Q;simp only[Fit] at this;obtain⟨n,rfl,-⟩:=this;exact⟨n,rfl,trivial⟩
 exact⟨l,e⟩
def X8:bN:=ca 28 1 [.cell 2 2 true] (U [(aB 2 (.alloc 144002 [(aj 0),.nil]))] (.seq (U [G 6 0,a9 7 .eql 6 0] (a2 7 (U [(aB 8 (.build [(aj 0),.nil] [])),bn 2 2 8] .ret) .skip)) (U [bp 3 1] (.seq (U [G 9 0,a9 10 .lss 9 0] (a2 10 (.ops [(aB 3 (.b6 (.c (.J (.int .i64 (-1))))))]) .skip)) (U [eM 4] (.seq (.block 0 (.ghost (.nU 4 144022 1) (.loop  (.seq (U [G 11 0,a9 12 .neq 11 0] (a2 12 .skip (.exit 0))) (.block 1 (U [G 13 0,a9 14 .rem 13 1048576,G 5 14] (.seq (U [G 15 5,a9 16 .lss 15 0] (a2 16 (.ops [G 17 5,(aB 18 (.un .neg (.t 17))),G 5 18]) .skip)) (U [G 19 4,G 20 5,(aB 21 (.fe 144021 false [(aj 0)] 1 1 [(0,1,(.t 20))])),(aB 22 (.app 144022 [(aj 0)] 8 (.t 19) (.t 21))),G 4 22] (.ops [G 23 0,a9 24 .quo 23 1048576,G 0 24]))))))))) (.seq (.ghost (.freeze 4) (.ops [G 25 3,G 26 4,(cA 27 vB 25 26),bn 2 2 27])) .ret)))))))
def X9:bN:=ca 60 1 [.t 2] (U [dO 1 162001 0,cP 2 false] (.seq (U [bp 3 0] (.block 0 (.loop  (.seq (U [G 5 3,bj 6 1 1,aY 7 1 6,ct 8 7,bq 9 .lss 5 8] (a2 9 .skip (.exit 0))) (.seq (.block 1 (U [bj 12 1 1,aY 13 1 12,G 14 3,bW 15 1 13 14,aY 16 1 15,a9 17 .lss 16 0,G 18 17,⟨some 19,some (18,false),.ei 1 (.t 1)⟩,⟨some 20,some (18,false),.load 1 false (.t 19)⟩,⟨some 21,some (18,false),.b6 (.t 3)⟩,⟨some 22,some (18,false),.jy 1 (.t 20) (.t 21)⟩,⟨some 23,some (18,false),.load 1 false (.t 22)⟩,⟨some 24,some (18,false),.bin .geq (.t 23) (.c (aj 1048576))⟩,ed 25 18 24] (a2 25 (U [cP 2 false] .ret) .skip))) (.ops [G 10 3,a9 11 .add 10 1,G 3 11])))))) (U [bj 26 1 1,aY 27 1 26,ct 28 27,G 4 28] (.seq (U [bj 29 0 1,aY 30 1 29,(aB 31 (.bin .lss (.t 30) (.c (.J (.int .i64 (-1)))))),G 32 31,⟨some 33,some (32,false),.ei 0 (.t 1)⟩,⟨some 34,some (32,false),.load 1 false (.t 33)⟩,⟨some 35,some (32,false),.bin .gtr (.t 34) (.c (aj 1))⟩,ed 36 32 35,G 37 36,⟨some 38,some (37,false),.b6 (.t 4)⟩,⟨some 39,some (37,false),.bin .gtr (.t 38) (.c (aj 60))⟩,ed 40 37 39,G 41 40,⟨some 42,some (41,false),.b6 (.t 4)⟩,⟨some 43,some (41,false),.bin .eql (.t 42) (.c (aj 0))⟩,⟨some 44,some (41,false),.ei 0 (.t 1)⟩,⟨some 45,some (41,false),.load 1 false (.t 44)⟩,⟨some 46,some (41,false),.bin .eql (.t 45) (.c (aj 0))⟩,⟨some 47,some (41,false),.beq true (.t 43) (.t 46)⟩,ed 48 41 47] (a2 48 (U [cP 2 false] .ret) .skip)) (U [G 49 4,a9 50 .eql 49 0,G 51 50,⟨some 52,some (51,false),.ei 1 (.t 1)⟩,⟨some 53,some (51,false),.load 1 false (.t 52)⟩,⟨some 54,some (51,false),.b6 (.t 4)⟩,⟨some 55,some (51,false),.bin .sub (.t 54) (.c (aj 1))⟩,⟨some 56,some (51,false),.jy 1 (.t 53) (.t 55)⟩,⟨some 57,some (51,false),.load 1 false (.t 56)⟩,⟨some 58,some (51,false),.bin .neq (.t 57) (.c (aj 0))⟩,ed 59 51 58,G 2 59] .ret)))))
def Ya:bN:=ca 13 1 [.cell 2 2 true] (U [dO 1 163001 0,(aB 2 (.alloc 163002 [(aj 0),.nil]))] (.seq (U [bz 3 2 1,(dQ 4 vA 3),fy 5 4] (a2 5 (U [(aB 6 (.build [(aj 0),.nil] [])),bn 2 2 6] .ret) .skip)) (U [bj 7 0 1,aY 8 1 7,(aB 9 (.un .neg (.t 8))),bj 10 1 1,aY 11 1 10,(cA 12 vB 9 11),bn 2 2 12] .ret)))
def Yb:bN:=ca 36 2 [.cell 4 2 true,.t 5] (U [dO 2 164002 0,dO 3 164003 1,(aB 4 (.alloc 164004 [(aj 0),.nil])),bp 5 0] (.seq (U [bz 10 2 2,(dQ 11 vA 10),fy 12 11,G 13 12,⟨some 14,some (13,false),.load 2 true (.t 3)⟩,⟨some 15,some (13,false),.call vA [(.t 14)]⟩,⟨some 16,some (13,false),.un .not (.t 15)⟩,ed 17 13 16] (a2 17 (U [(aB 18 (.build [(aj 0),.nil] [])),bn 2 4 18,bp 5 1] .ret) .skip)) (U [bj 19 1 2,aY 20 1 19,G 6 20] (U [bj 21 1 3,aY 22 1 21,G 7 22] (.seq (.block 0 (.loop  (.seq (U [G 23 7,ct 24 23,a9 25 .gtr 24 0] (a2 25 .skip (.exit 0))) (.block 1 (U [G 27 6,G 28 7,(cA 29 KP 27 28),G 26 29,bB 30 0 26,bB 31 1 26,G 8 30,G 9 31] (U [G 32 7,G 6 32] (.ops [G 33 9,G 7 33]))))))) (U [G 34 6,(aB 35 (.call vB [(.c (aj 1)),(.t 34)])),bn 2 4 35,bp 5 0] .ret))))))
def Yc:bN:=ca 65 2 [.cell 4 2 true,.cell 5 2 true,.t 6] (U [dO 2 165002 0,dO 3 165003 1,(aB 4 (.alloc 165004 [(aj 0),.nil])),(aB 5 (.alloc 165005 [(aj 0),.nil])),bp 6 0] (.seq (U [bz 9 2 2,(dQ 10 vA 9),fy 11 10,G 12 11,⟨some 13,some (12,false),.load 2 true (.t 3)⟩,⟨some 14,some (12,false),.call vA [(.t 13)]⟩,⟨some 15,some (12,false),.un .not (.t 14)⟩,ed 16 12 15] (a2 16 (U [(aB 17 (.build [(aj 0),.nil] [])),(aB 18 (.build [(aj 0),.nil] [])),bn 2 4 17,bn 2 5 18,bp 6 1] .ret) .skip)) (.seq (U [bj 19 0 3,aY 20 1 19,a9 21 .eql 20 0] (a2 21 (U [(aB 22 (.build [(aj 0),.nil] [])),(aB 23 (.build [(aj 0),.nil] [])),bn 2 4 22,bn 2 5 23,bp 6 15] .ret) .skip)) (U [bj 25 1 2,aY 26 1 25,bj 27 1 3,aY 28 1 27,(cA 29 KP 26 28),G 24 29,bB 30 0 24,bB 31 1 24,G 7 30,G 8 31] (.seq (U [bj 32 0 2,aY 33 1 32,bj 34 0 3,aY 35 1 34,bq 36 .mul 33 35,a9 37 .geq 36 0,G 38 37,⟨some 39,some (38,false),.b6 (.t 8)⟩,⟨some 40,some (38,false),.len (.t 39)⟩,⟨some 41,some (38,false),.bin .eql (.t 40) (.c (aj 0))⟩,ed 42 38 41] (a2 42 (fM [bj 43 0 2,aY 44 1 43,bj 45 0 3,aY 46 1 45,bq 47 .mul 44 46,G 48 7,(cA 49 vB 47 48),bj 50 0 2,aY 51 1 50,G 52 8,(cA 53 vB 51 52),bn 2 4 49,bn 2 5 53,bp 6 0] K2 .ret) .skip)) (fM [G 54 7,(aB 55 (.fe 165055 false [(aj 0)] 1 1 [(0,1,(.c (aj 1)))])),(cA 56 UM 54 55),(aB 57 (.call vB [(.c (.J (.int .i64 (-1)))),(.t 56)])),bj 58 0 3,aY 59 1 58,bj 60 1 3,aY 61 1 60,G 62 8,(cA 63 KQ 61 62),(cA 64 vB 59 63),bn 2 4 57,bn 2 5 64,bp 6 0] K2 .ret))))))
def Yd:bN:=ca 15 2 [.cell 4 2 true] (U [(aB 4 (.alloc 166004 [(aj 0),.nil]))] (U [G 6 1,(dQ 7 tS 6),G 5 7] (.seq (U [G 8 5,ct 9 8,a9 10 .eql 9 0] (a2 10 (U [(aB 11 (.build [(aj 0),.nil] [])),bn 2 4 11] .ret) .skip)) (U [G 12 0,G 13 5,(aB 14 (.build [(aj 0),.nil] [(0,1,(.t 12)),(1,1,(.t 13))])),bn 2 4 14] .ret))))
def LN:bN:=ca 60 2 [.t 4,.t 5] (U [eM 4,eM 5] (U [G 12 0,ct 13 12,(aB 14 (.mv 180014 [(aj 0)] 8 (.t 13) (.t 13))),G 6 14] (U [eM 7] (.seq (U [G 15 0,ct 16 15,a9 17 .sub 16 1,G 8 17] (.block 0 (.loop  (.seq (U [G 18 8,a9 19 .geq 18 0] (a2 19 .skip (.exit 0))) (.seq (.block 1 (U [G 22 0,G 23 8,bW 24 1 22 23,aY 25 1 24,(aB 26 (.fe 180026 true [(aj 0)] 1 1 [(0,1,(.t 25))])),G 27 7,(aB 28 (.app 180028 [(aj 0)] 8 (.t 26) (.t 27))),(dQ 29 tS 28),G 7 29] (U [bp 9 0] (U [bp 10 1048576] (.seq (.block 2 (.loop  (.seq (U [G 30 10,G 31 9,bq 32 .sub 30 31,a9 33 .gtr 32 1] (a2 33 .skip (.exit 2))) (.block 3 (U [G 34 9,G 35 10,bq 36 .add 34 35,a9 37 .quo 36 2,G 11 37] (U [G 38 7,G 39 1,G 40 11,(aB 41 (.fe 180041 false [(aj 0)] 1 1 [(0,1,(.t 40))])),(cA 42 KR 39 41),(cA 43 OR 38 42)] (a2 43 (.ops [G 44 11,G 10 44]) (.ops [G 45 11,G 9 45])))))))) (U [G 46 6,G 47 8,G 48 9,bW 49 1 46 47,bn 1 49 48] (.ops [G 50 7,G 51 1,G 52 9,(aB 53 (.fe 180053 false [(aj 0)] 1 1 [(0,1,(.t 52))])),(dQ 54 tS 53),(cA 55 KR 51 54),(cA 56 KQ 50 55),G 7 56]))))))) (.ops [G 20 8,a9 21 .sub 20 1,G 8 21])))))) (U [G 57 6,(dQ 58 tS 57),G 59 7,G 4 58,G 5 59] .ret)))))
def Ye:bN:=ca 43 2 [.t 4] (U [eM 4] (U [eM 5] (U [bp 6 0] (.seq (U [bp 7 0] (.block 0 (.ghost (.nU 5 181038 1) (.loop  (.seq (U [G 9 7,G 10 0,ct 11 10,bq 12 .lss 9 11,G 13 12,⟨some 14,some (13,false),.b6 (.t 7)⟩,⟨some 15,some (13,false),.b6 (.t 1)⟩,⟨some 16,some (13,false),.len (.t 15)⟩,⟨some 17,some (13,false),.bin .lss (.t 14) (.t 16)⟩,ed 18 13 17,G 19 18,⟨some 20,some (19,false),.b6 (.t 6)⟩,⟨some 21,some (19,false),.bin .gtr (.t 20) (.c (aj 0))⟩,ed 22 19 21] (a2 22 .skip (.exit 0))) (.seq (.block 1 (U [G 25 0,G 26 7,(cA 27 tT 25 26),G 28 1,G 29 7,(cA 30 tT 28 29),bq 31 .add 27 30,G 32 6,bq 33 .add 31 32,G 8 33] (U [G 34 5,G 35 8,a9 36 .rem 35 1048576,(aB 37 (.fe 181037 false [(aj 0)] 1 1 [(0,1,(.t 36))])),(aB 38 (.app 181038 [(aj 0)] 8 (.t 34) (.t 37))),G 5 38] (.ops [G 39 8,a9 40 .quo 39 1048576,G 6 40])))) (.ops [G 23 7,a9 24 .add 23 1,G 7 24]))))))) (U [G 41 5,(dQ 42 tS 41),G 4 42] .ret)))))
def Yf:bN:=ca 35 2 [.t 4] (U [eM 4] (U [eM 5] (U [bp 6 0] (.seq (U [bp 7 0] (.block 0 (.ghost (.nU 5 182032 1) (.loop  (.seq (U [G 9 7,G 10 0,ct 11 10,bq 12 .lss 9 11] (a2 12 .skip (.exit 0))) (.seq (.block 1 (fM [G 15 0,G 16 7,bW 17 1 15 16,aY 18 1 17,G 19 1,G 20 7,(cA 21 tT 19 20),bq 22 .sub 18 21,G 23 6,bq 24 .sub 22 23,G 8 24] OW (U [bp 6 0] (.seq (U [G 25 8,a9 26 .lss 25 0] (a2 26 (U [G 27 8,a9 28 .add 27 1048576,G 8 28] (.ops [bp 6 1])) .skip)) (.ops [G 29 5,G 30 8,(aB 31 (.fe 182031 false [(aj 0)] 1 1 [(0,1,(.t 30))])),(aB 32 (.app 182032 [(aj 0)] 8 (.t 29) (.t 31))),G 5 32]))))) (.ops [G 13 7,a9 14 .add 13 1,G 7 14]))))))) (U [G 33 5,(dQ 34 tS 33),G 4 34] .ret)))))
def Yg:bN:=ca 23 1 [.t 2] (U [eM 2] (U [G 4 0,ct 5 4,G 3 5] (.seq (.block 0 (.loop  (.seq (U [G 6 3,a9 7 .gtr 6 0,G 8 7,⟨some 9,some (8,true),.b6 (.t 0)⟩,⟨some 10,some (8,true),.b6 (.t 3)⟩,⟨some 11,some (8,true),.bin .sub (.t 10) (.c (aj 1))⟩,⟨some 12,some (8,true),.jy 1 (.t 9) (.t 11)⟩,⟨some 13,some (8,true),.load 1 false (.t 12)⟩,⟨some 14,some (8,true),.bin .eql (.t 13) (.c (aj 0))⟩,fx 15 8 14] (a2 15 .skip (.exit 0))) (.block 1 (.ops [G 16 3,a9 17 .sub 16 1,G 3 17]))))) (U [(aB 18 (.fe 183018 true [] 1 0 [])),G 19 0,G 20 3,(aB 21 (.oz 1 (.t 19) none (some (.t 20)) none)),(aB 22 (.app 183022 [(aj 0)] 8 (.t 18) (.t 21))),G 2 22] .ret))))
def Yh:bN:=ca 30 2 [.t 4] (U [cP 4 false] (.seq (U [G 6 0,ct 7 6,G 8 1,ct 9 8,(aB 10 (.iH true (.t 7) (.t 9))),a9 11 .sub 10 1,G 5 11] (.block 0 (.loop  (.seq (U [G 12 5,a9 13 .geq 12 0] (a2 13 .skip (.exit 0))) (.seq (.block 1 (U [G 16 0,G 17 5,(cA 18 tT 16 17),G 19 1,G 20 5,(cA 21 tT 19 20),bq 22 .neq 18 21] (a2 22 (U [G 23 0,G 24 5,(cA 25 tT 23 24),G 26 1,G 27 5,(cA 28 tT 26 27),bq 29 .lss 25 28,G 4 29] .ret) .skip))) (.ops [G 14 5,a9 15 .sub 14 1,G 5 15])))))) (U [cP 4 false] .ret)))
def Yi:bN:=ca 60 2 [.t 4] (U [eM 4] (U [G 10 0,ct 11 10,G 12 1,ct 13 12,bq 14 .add 11 13,(aB 15 (.mv 186015 [(aj 0)] 8 (.t 14) (.t 14))),G 5 15] (.seq (U [bp 6 0] (.block 0 (.loop  (.seq (U [G 16 6,G 17 0,ct 18 17,bq 19 .lss 16 18] (a2 19 .skip (.exit 0))) (.seq (.block 1 (U [bp 7 0] (U [bp 8 0] (.block 2 (.loop  (.seq (U [G 22 8,G 23 1,ct 24 23,bq 25 .lss 22 24,G 26 25,⟨some 27,some (26,false),.b6 (.t 7)⟩,⟨some 28,some (26,false),.bin .gtr (.t 27) (.c (aj 0))⟩,ed 29 26 28] (a2 29 .skip (.exit 2))) (.seq (.block 3 (fM [G 32 5,G 33 6,G 34 8,bq 35 .add 33 34,bW 36 1 32 35,aY 37 1 36,G 38 0,G 39 6,bW 40 1 38 39,aY 41 1 40,G 42 1,G 43 8,(cA 44 tT 42 43),bq 45 .mul 41 44,bq 46 .add 37 45,G 47 7,bq 48 .add 46 47,G 9 48] afr (U [G 49 5,G 50 6,G 51 8,bq 52 .add 50 51,G 53 9,a9 54 .rem 53 1048576,bW 55 1 49 52,bn 1 55 54] (.ops [G 56 9,a9 57 .quo 56 1048576,G 7 57])))) (.ops [G 30 8,a9 31 .add 30 1,G 8 31])))))))) (.ops [G 20 6,a9 21 .add 20 1,G 6 21])))))) (U [G 58 5,(dQ 59 tS 58),G 4 59] .ret))))
def Yj:bN:=ca 13 2 [.t 4] (U [bp 4 0] (.seq (U [G 5 1,G 6 0,ct 7 6,bq 8 .lss 5 7] (a2 8 (U [G 9 0,G 10 1,bW 11 1 9 10,aY 12 1 11,G 4 12] .ret) .skip)) (U [bp 4 0] .ret)))
theorem Hq (l:List Int):wO (.own 1 (l.map ae))=some (.own 1 (l.map ae)):=by
 refine ad ?_;rw[List.all_eq_true];intro e he;obtain⟨d,-,rfl⟩:=List.mem_map.1 he;simp[ae,scalar]
theorem xi (n k g sz off len:Nat):cE n emp (.ref k g sz off len)=none:=by cases n<;>rfl
def B8:=ck DU λ(l:List Int)=>cR (D l<=1000000) (.own 1 ((fL l).map ae))
@[go_sem] theorem Eu (l:List Int)(H:(D l)<=1000000):B8 [.Y (l.map ae)]=some (.own 1 ((fL l).map ae)):=(cx K6 l).trans (cW H _)
theorem aup (T:bd)  (l:List Int) (H:(D l)<=1000000):WP T Yg (.own 1 ((fL l).map ae)) [.J (.Y (l.map ae))]:=by
 refine cy ?_;simp only[Yg];have tB:((l.map ae).all λe=>D e==1)=true:=by simp[ae]
 refine a0 ?_;repeat' (intro h<;>simp only[h,go_sem,go_sem_proc,al]<;>try refine aw ?_ ?_)
 refine dn [0] [] (λ(n:Nat) tm mem=>n<=D l/\fL l=fL (l.take n)/\tm 3=.J (.int .i64 n)/\mem 183018=none) (λn=>n) (D l) (by refine⟨bZ _,by simp,by simp[go_sem],rfl⟩) ?_;intro vs ms aV aS;simp only[go_sem,go_sem_proc,al] at aV aS;subst aV aS;rintro n tm mem O-⟨aL,bF,af,Yk⟩;simp only[go_sem,go_sem_proc,ba] at O;have ao:=O
 have dC:∀o:List Int,D o<=(D l)->mx 183018 0 1 0 8 (D o) ((o.map ae).flatten.map .J) (some (0,[]))=some (.ref 183018 1 1 0 (D o),some (183018,1,bc ae o)):=by
  intro o bO;have:=Dx gX tR 183018 0 8 [] o (by simp;omega) (by simp;omega)
  simpa [bc] using this
 have lW:∀(o:List Int) (m:Mem),m 183018=some (1,bc ae o)->rr 1 m (.ref 183018 1 1 0 (D o))=some (o.map ae):=by
  intro o m hm;have:=afA hm (bZ _);rwa [dy (bZ _)] at this
 have auq:∀o:List Int,((o.map ae).all λe=>D e==1)=true:=λo=>by simp[ae]
 rcases n with _|n
 ·have F:=dC [] (by simp);have bO:=lW [];simp only[cV,ag6,lD] at F bO;refine a0 ?_;repeat' (intro h<;>simp only[h,go_sem,go_sem_proc,ao,af,Yk,tB,F,lF,l6,show ¬ ((0:Int)>0) by omega,decide_false,al,show (0:Int).toNat=0 from rfl,show (0:Int)<=0 by omega,fv,List.take_zero,cV,lD]<;>try refine aw ?_ ?_)
  rw[bO _ (by simp[a4]),bF];simp[fL]
 ·have hw:IntKind.i64.wrap (((n+1:Nat):Int)-1)=(n:Int):=by rw[eS _];omega
  have Q:l[n]?=some l[n]:=bx (by omega);have h3:((n+1:Nat):Int)>0:=by omega
  have hle:n+1<=D l:=aL
  by_cases aX:l[n]=0
  ·refine a0 ?_;repeat' (intro h<;>simp only[h,go_sem,go_sem_proc,ao,af,hw,Q,aX,h3,al,bl,decide_true,ae,beq_self_eq_true,ba]<;>try refine aw ?_ ?_)
   exact⟨n,by omega,by omega,by rw[bF,VS l n (by omega) aX],rfl,Yk⟩
  ·have qB:(l[n]==0)=false:=by simpa using aX
   have F:=dC (l.take (n+1)) (by rw[gf];omega);rw[gf,oE hle,Ah] at F;have cB:(List.take (n+1) (l.map ae)).length=n+1:=by rw[gf,al];omega
   have ag7:=auq (l.take (n+1));rw[Ah] at ag7;refine a0 ?_;repeat' (intro h<;>simp only[h,go_sem,go_sem_proc,ao,af,Yk,hw,Q,qB,h3,tB,ag7,hle,F,cB,ae,al,bl,decide_true,ba,show (0:Int)<=((n+1:Nat):Int) by omega,jX,fv]<;>try refine aw ?_ ?_)
   have bO:=lW (l.take (n+1)) _ (show a4 (a4 mem 183018 0 []) 183018 1 (bc ae (List.take (n+1) l)) 183018=_ by simp[a4])
   rw[gf,oE hle] at bO;rw[bO,bF,VT l n (by omega) aX]
abbrev Yl:(List Int)×Nat->List Data:=λ(l,i)=>[.Y (l.map ae),.int .i64 i]
def Hr:=ck Yl λ(l,i)=>cR (D l<=1000000) (.same (.int .i64 (l.getD i 0)))
theorem aur:∀a b,Yl a=Yl b->a=b:=by
  rintro⟨dW,i1⟩ ⟨ak,i2⟩ h;simp only[ba,Data.Y.injEq,Data.int.injEq] at h;exact dT (map_inj fp _ _ h.1) (by have:=h.2.1.2;dsimp only;omega)
@[go_sem] theorem ag8 (l:List Int)(i:Nat)(H:(D l)<=1000000):Hr [.Y (l.map ae),.int .i64 i]=some (.same (.int .i64 (l.getD i 0))):=(cx aur (l,i)).trans (cW H _)
theorem aus (T:bd)  (l:List Int) (i:Nat) (H:(D l)<=1000000):WP T Yj (.same (.int .i64 (l.getD i 0))) [.J (.Y (l.map ae)),.J (.int .i64 i)]:=by
 refine cy ?_;simp only[Yj];rcases il i (D l) with ay|cj
 ·have Q:=bx ay;have aa:decide ((i:Int)<(D l:Int))=true:=di;have a7:l.getD i 0=l[i]:=by rw[dY,Q];rfl
  rw[a7];refine a0 ?_;repeat' (intro h<;>simp only[h,go_sem,go_sem_proc,Q,aa,ae,al,bl]<;>try refine aw ?_ ?_)
 ·have aa:decide ((i:Int)<(D l:Int))=false:=c9;have a7:l.getD i 0=0:=by rw[dY,kF cj];rfl
  rw[a7];refine a0 ?_;repeat' (intro h<;>simp only[h,go_sem,go_sem_proc,aa,al]<;>try refine aw ?_ ?_)
theorem Hs (n i:Nat):(aM n).getD i 0=((n/1048576^i%1048576:Nat):Int):=by
 induction i generalizing n with
 |zero =>
  rcases k4 n with h|h
  ·subst h;rfl
  ·rw[vv h,Nat.pow_zero,Nat.div_one];rfl
 |succ i az =>
  rcases k4 n with h|h
  ·subst h;rw[WS];rfl
  ·rw[vv h];show (aM (n/1048576)).getD i 0=_;rw[az,ag9,<-Nat.pow_succ']
theorem Ht (n i:Nat):n/1048576^i=n/1048576^i%1048576+1048576*(n/1048576^(i+1)):=by
 rw[wR,<-ag9];omega
theorem B9 {n k:Nat}(h:(aM n).length<=k):n/1048576^k=0:=Nat.div_eq_of_lt (g3.1 h)
def Qh:=ck vJ λ(x,y)=>cR ((aM x).length<=100000/\(aM y).length<=100000) (.same (.bool (decide (x<y))))
@[go_sem] theorem aut (x:Nat)(y:Nat)(H:(aM x).length<=100000/\(aM y).length<=100000):Qh [b5 x,b5 y]=some (.same (.bool (decide (x<y)))):=(cx yu (x,y)).trans (cW H _)
theorem auu (T:bd)(gw:T tT=aW Hr)(x:Nat)(y:Nat)(H:(aM x).length<=100000/\(aM y).length<=100000):WP T Yh (.same (.bool (decide (x<y)))) [.J (b5 x),.J (b5 y)]:=by
 refine cy ?_;simp only[Yh];obtain⟨Q,av⟩:=H;have m4:∃bh:Nat,bh=max (aM x).length (aM y).length:=⟨_,rfl⟩;obtain⟨bh,m4⟩:=m4;have gV:(if ((aM y).length:Int)>((aM x).length:Int) then ((aM y).length:Int) else ((aM x).length:Int))=(bh:Int):=by split<;>omega
 have z4:IntKind.i64.wrap ((bh:Int)-1)=(bh:Int)-1:=wrap64 _ (by omega) (by omega);have n9:(aM x).length<=1000000:=by omega
 have k9:(aM y).length<=1000000:=by omega
 simp only[go_sem,go_sem_proc,gw,b5,al,gV,z4];refine dn [0,1] [] (λ(i:Nat) tm mem=>i<=bh/\x/1048576^i=y/1048576^i/\tm 5=.J (.int .i64 ((i:Int)-1))) (λi=>i) bh (by refine⟨bZ _,?_,rfl⟩;rw[B9 (by omega),B9 (by omega)]) ?_;intro vs ms aV aS;simp only[go_sem,go_sem_proc,gw,b5] at aV aS;subst aV aS;rintro i tm mem O-⟨M,he,bm⟩;simp only[go_sem,go_sem_proc,gw,ba] at O;obtain⟨ao,F⟩:=O;rcases i with _|i
 ·have jk:x=y:=by simpa using he
  have ay:decide (x<y)=false:=c9;rw[ay];simp only[go_sem,go_sem_proc,gw,ao,F,bm,lF,l6,show ¬ ((0:Int)-1>=0) by omega,decide_false]
  repeat' (first|refine aw ?_ ?_|fail)<;>intro h<;>simp only[h,go_sem,go_sem_proc,gw,ao,F,bm,lF,l6,show ¬ ((0:Int)-1>=0) by omega,decide_false]
 ·have hw:((i+1:Nat):Int)-1=(i:Int):=by omega
  have cj:decide ((i:Int)>=0)=true:=di;have aC:=Ht x i;have aD:=Ht y i;rw[he] at aC;have fz:IntKind.i64.wrap ((i:Int)-1)=(i:Int)-1:=wrap64 _ (by omega) (by omega);have cq:=Hs x i;have cr:=Hs y i;have dh:=qI (x/1048576^i) (show 0<1048576 by omega);have eK:=qI (y/1048576^i) (show 0<1048576 by omega);have cb:x/1048576^i<y/1048576^i->x<y:=λh=>aha h;have cB:y/1048576^i<x/1048576^i->y<x:=λh=>aha h;generalize ny:x/1048576^i=dd at *;generalize z6:y/1048576^i=gi at *;generalize y/1048576^(i+1)=Z at *;generalize dd%1048576=a at *;generalize gi%1048576=b at *;rcases Nat.lt_trichotomy a b with h|h|h
  ·have bG:((a:Int)==(b:Int))=false:=by simp;omega
   have Ai:decide ((a:Int)<(b:Int))=decide (x<y):=by rw[lq (show (a:Int)<(b:Int) by omega),lq (cb (by omega))]
   simp only[go_sem,go_sem_proc,gw,ao,F,bm,hw,cj,cq,cr,n9,k9,bG,Ai];repeat' (first|refine aw ?_ ?_|fail)<;>intro h<;>simp only[h,go_sem,go_sem_proc,gw,ao,F,bm,hw,cj,cq,cr,n9,k9,bG,Ai]
  ·subst h;simp only[go_sem,go_sem_proc,gw,ao,F,bm,hw,cj,cq,cr,n9,k9,fz,beq_self_eq_true];repeat' (first|refine aw ?_ ?_|fail)<;>intro h<;>simp only[h,go_sem,go_sem_proc,gw,ao,F,bm,hw,cj,cq,cr,n9,k9,fz,beq_self_eq_true]
   exact⟨i,by omega,by omega,by rw[ny,z6];omega,rfl⟩
  ·have bG:((a:Int)==(b:Int))=false:=by simp;omega
   have Ai:decide ((a:Int)<(b:Int))=decide (x<y):=by rw[mq (show ¬ (a:Int)<(b:Int) by omega),mq (by have:=cB (by omega);omega)]
   simp only[go_sem,go_sem_proc,gw,ao,F,bm,hw,cj,cq,cr,n9,k9,bG,Ai];repeat' (first|refine aw ?_ ?_|fail)<;>intro h<;>simp only[h,go_sem,go_sem_proc,gw,ao,F,bm,hw,cj,cq,cr,n9,k9,bG,Ai]
theorem Ym {o:List Int}{d:Int}(h:eY o)(ao:0<=d)(F:d<1048576):eY (o++[d]):=DB.2 ⟨h,DA.2 ⟨⟨ao,F⟩,by intro d aa;cases aa⟩⟩
theorem Yn (o:List Int)(d:Int):bf (o++[d])=bf o+1048576^(D o)*d:=by rw[DD];simp[bf]
theorem Hu {o:List Int}{n:Nat}(h:eY o)(aA:bf o=n):fL o=aM n:=by rw[zL h,aA];rfl
def Yo:=ck vJ λ(x,y)=>cR ((aM x).length<=10000/\(aM y).length<=10000) (.same (b5 (x+y)))
@[go_sem] theorem auv (x:Nat)(y:Nat)(H:(aM x).length<=10000/\(aM y).length<=10000):Yo [b5 x,b5 y]=some (.same (b5 (x+y))):=(cx yu (x,y)).trans (cW H _)
theorem auw (T:bd)(gw:T tT=aW Hr)(fU:T tS=aW B8)(x:Nat)(y:Nat)(H:(aM x).length<=10000/\(aM y).length<=10000):WP T Ye (.same (b5 (x+y))) [.J (b5 x),.J (b5 y)]:=by
 refine cy ?_;simp only[Ye];obtain⟨Q,av⟩:=H;have m4:∃bh:Nat,bh=max (aM x).length (aM y).length:=⟨_,rfl⟩;obtain⟨bh,m4⟩:=m4;have n9:(aM x).length<=1000000:=by omega
 have k9:(aM y).length<=1000000:=by omega
 simp only[go_sem,go_sem_proc,gw,fU,b5,al];refine dn [0,1] [] (λ((i,c,g,o):Nat×Nat×Nat×List Int) tm mem=>i<=bh+1/\c<=1/\(i=bh+1->c=0)/\D o=i/\eY o/\bf o+1048576^i*((x/1048576^i+y/1048576^i+c:Nat):Int)=((x+y:Nat):Int)/\tm 6=.J (.int .i64 c)/\tm 7=.J (.int .i64 i)/\tm 5=.ref 181038 g 1 0 i/\mem 181038=some (g,bc ae o)) (λ(i,_)=>bh+1-i) (0,0,0,[]) (by refine⟨by omega,by omega,by simp,rfl,by simp[eY],by simp[bf],rfl,rfl,rfl,rfl⟩) ?_;intro vs ms aV aS;simp only[go_sem,go_sem_proc,gw,fU,b5] at aV aS;subst aV aS;rintro⟨i,c,g,o⟩ tm mem O-⟨M,gU,hI,bO,iJ,aA,bK,bP,bm,hm⟩;simp only[go_sem,go_sem_proc,gw,fU,ba] at O;obtain⟨ao,F⟩:=O;have aF:bf o+1048576^i*((x/1048576^i+y/1048576^i+c:Nat):Int)=((x+y:Nat):Int):=aA
 by_cases LO:i<(aM x).length\/i<(aM y).length\/0<c
 ·have aC:=Ht x i;have aD:=Ht y i;have cq:=Hs x i;have cr:=Hs y i;have dh:=qI (x/1048576^i) (show 0<1048576 by omega);have eK:=qI (y/1048576^i) (show 0<1048576 by omega);have WG:bh<=i->x/1048576^i=0/\y/1048576^i=0:=λh=>⟨B9 (by omega),B9 (by omega)⟩;have gG:(1048576:Int)^(i+1)=1048576^i*1048576:=ns _ _;generalize ny:x/1048576^i=dd at *;generalize z6:y/1048576^i=gi at *;generalize Aj:x/1048576^(i+1)=X' at *;generalize Hv:y/1048576^(i+1)=Y' at *;generalize aP:dd%1048576=a at *;generalize ah:gi%1048576=b at *;have w1:IntKind.i64.wrap ((a:Int)+(b:Int))=((a+b:Nat):Int):=by rw[eS _];omega
  have ni:IntKind.i64.wrap (((a+b:Nat):Int)+(c:Int))=((a+b+c:Nat):Int):=by rw[eS _];omega
  have fl:((a+b+c:Nat):Int).tmod 1048576=(((a+b+c)%1048576:Nat):Int):=by rw[Le (by omega)];omega
  have e6:IntKind.i64.wrap (((a+b+c:Nat):Int).tdiv 1048576)=(((a+b+c)/1048576:Nat):Int):=by rw[GU (by omega),wrap64 _ (by omega) (by omega)];omega
  have bX:=ff (i:=i) (by omega);have dC:=l3 gX tR 181038 g 8 o (((a+b+c)%1048576:Nat):Int) (cs:=[.J (.int .i64 (((a+b+c)%1048576:Nat):Int))]) rfl (by omega) (by omega);rw[bO] at dC
  have aLh:i<=bh:=by
   rcases il bh i with h|h
   ·have:=hI (by omega);omega
   ·exact h
  have iI:∃bk:Nat×Nat×Nat×List Int,bh+1-bk.1<bh+1-i/\bk.1<=bh+1/\bk.2.1<=1/\(bk.1=bh+1->bk.2.1=0)/\bk.2.2.2.length=bk.1/\eY bk.2.2.2/\bf bk.2.2.2+1048576^bk.1*((x/1048576^bk.1+y/1048576^bk.1+bk.2.1:Nat):Int)=((x+y:Nat):Int)/\R.J (Data.int .i64 (((a+b+c)/1048576:Nat):Int))=R.J (Data.int .i64 (bk.2.1:Int))/\R.J (Data.int .i64 ((i+1:Nat):Int))=R.J (Data.int .i64 (bk.1:Int))/\R.ref 181038 (g+1) 1 0 (i+1)=R.ref 181038 bk.2.2.1 1 0 bk.1/\some (g+1,bc ae (o++[(((a+b+c)%1048576:Nat):Int)]))=some (bk.2.2.1,bc ae bk.2.2.2):=by
   refine⟨(i+1,(a+b+c)/1048576,g+1,o++[(((a+b+c)%1048576:Nat):Int)]),by dsimp only;omega,by dsimp only;omega,by dsimp only;omega,?_,by simp[bO],Ym iJ (by omega) (by omega),?_,rfl,rfl,rfl,rfl⟩
   ·intro h;dsimp only at h ⊢;have:=WG (by omega);omega
   ·dsimp only;rw[Aj,Hv,Yn,bO,gG,<-aF];have b9:((dd+gi+c:Nat):Int)=1048576*((X'+Y'+(a+b+c)/1048576:Nat):Int)+(((a+b+c)%1048576:Nat):Int):=by omega
    rw[b9,ix,iy];omega
  by_cases yk:i<(aM x).length
  ·have d1:decide ((i:Int)<((aM x).length:Int))=true:=di;simp only[go_sem,go_sem_proc,gw,fU,ao,F,bm,bK,bP,hm,cq,cr,n9,k9,d1,w1,ni,fl,e6,bX,dC,al];repeat' (first|refine aw ?_ ?_|fail)<;>intro h<;>simp only[h,go_sem,go_sem_proc,gw,fU,ao,F,bm,bK,bP,hm,cq,cr,n9,k9,d1,w1,ni,fl,e6,bX,dC,al]
   exact iI
  ·have d1:decide ((i:Int)<((aM x).length:Int))=false:=c9
   by_cases su:i<(aM y).length
   ·have d2:decide ((i:Int)<((aM y).length:Int))=true:=di;simp only[go_sem,go_sem_proc,gw,fU,ao,F,bm,bK,bP,hm,cq,cr,n9,k9,d1,d2,w1,ni,fl,e6,bX,dC,al];repeat' (first|refine aw ?_ ?_|fail)<;>intro h<;>simp only[h,go_sem,go_sem_proc,gw,fU,ao,F,bm,bK,bP,hm,cq,cr,n9,k9,d1,d2,w1,ni,fl,e6,bX,dC,al]
    exact iI
   ·have d2:decide ((i:Int)<((aM y).length:Int))=false:=c9;have d3:decide ((c:Int)>0)=true:=di;simp only[go_sem,go_sem_proc,gw,fU,ao,F,bm,bK,bP,hm,cq,cr,n9,k9,d1,d2,d3,w1,ni,fl,e6,bX,dC,al];repeat' (first|refine aw ?_ ?_|fail)<;>intro h<;>simp only[h,go_sem,go_sem_proc,gw,fU,ao,F,bm,bK,bP,hm,cq,cr,n9,k9,d1,d2,d3,w1,ni,fl,e6,bX,dC,al]
    exact iI
 ·have d1:decide ((i:Int)<((aM x).length:Int))=false:=c9;have d2:decide ((i:Int)<((aM y).length:Int))=false:=c9;have d3:decide ((c:Int)>0)=false:=c9;rw[B9 (n:=x) (by omega),B9 (n:=y) (by omega),show c=0 by omega] at aF
  have cQ:=Eu o (by omega);rw[Hu (n:=x+y) iJ (by simpa using aF)] at cQ;have gu:=Hq (aM (x+y));have h7:=pM (n:=5) gX hm;rw[bO] at h7;simp only[go_sem,go_sem_proc,gw,fU,ao,F,bm,bK,bP,hm,d1,d2,d3,cQ,gu,h7,xi,hK,al];repeat' (first|refine aw ?_ ?_|fail)<;>intro h<;>simp only[h,go_sem,go_sem_proc,gw,fU,ao,F,bm,bK,bP,hm,d1,d2,d3,cQ,gu,h7,xi,hK,al]
def Qi:=ck vJ λ(x,y)=>cR ((aM x).length<=10000/\(aM y).length<=10000/\y<=x) (.same (b5 (x-y)))
@[go_sem] theorem ahb (x:Nat)(y:Nat)(H:(aM x).length<=10000/\(aM y).length<=10000/\y<=x):Qi [b5 x,b5 y]=some (.same (b5 (x-y))):=(cx yu (x,y)).trans (cW H _)
theorem auy (T:bd)(gw:T tT=aW Hr)(fU:T tS=aW B8)(x:Nat)(y:Nat)(H:(aM x).length<=10000/\(aM y).length<=10000/\y<=x):WP T Yf (.same (b5 (x-y))) [.J (b5 x),.J (b5 y)]:=by
 refine cy ?_;simp only[Yf];obtain⟨Q,av,jk⟩:=H;have n9:(aM x).length<=1000000:=by omega
 have k9:(aM y).length<=1000000:=by omega
 have afG:(aM y).length<=(aM x).length:=by rw[g3];exact vL jk (g3.1 (bZ _))
 simp only[go_sem,go_sem_proc,gw,fU,b5,al];refine dn [0,1] [] (λ((i,c,g,o):Nat×Nat×Nat×List Int) tm mem=>i<=(aM x).length/\c<=1/\y/1048576^i+c<=x/1048576^i/\D o=i/\eY o/\bf o+1048576^i*((x/1048576^i-(y/1048576^i+c):Nat):Int)=((x-y:Nat):Int)/\tm 6=.J (.int .i64 c)/\tm 7=.J (.int .i64 i)/\tm 5=.ref 182032 g 1 0 i/\mem 182032=some (g,bc ae o)) (λ(i,_)=>(aM x).length-i) (0,0,0,[]) (by refine⟨by omega,by omega,by simpa using jk,rfl,by simp[eY],by simp[bf],rfl,rfl,rfl,rfl⟩) ?_;intro vs ms aV aS;simp only[go_sem,go_sem_proc,gw,fU,b5] at aV aS;subst aV aS;rintro⟨i,c,g,o⟩ tm mem O-⟨M,gU,hle,bO,iJ,aA,bK,bP,bm,hm⟩;simp only[go_sem,go_sem_proc,gw,fU,ba] at O;obtain⟨ao,F⟩:=O;have aF:bf o+1048576^i*((x/1048576^i-(y/1048576^i+c):Nat):Int)=((x-y:Nat):Int):=aA;have Ki:y/1048576^i+c<=x/1048576^i:=hle
 by_cases LO:i<(aM x).length
 ·have d1:decide ((i:Int)<((aM x).length:Int))=true:=di;have aC:=Ht x i;have aD:=Ht y i;have cq:=Hs x i;rw[dY,bx LO] at cq;have g0:(aM x)[i]?=some ((x/1048576^i%1048576:Nat):Int):=by rw[bx LO];exact congrArg some cq
  have cr:=Hs y i;have dh:=qI (x/1048576^i) (show 0<1048576 by omega);have eK:=qI (y/1048576^i) (show 0<1048576 by omega);have gG:(1048576:Int)^(i+1)=1048576^i*1048576:=ns _ _;clear cq hle aA;generalize ny:x/1048576^i=dd at *;generalize z6:y/1048576^i=gi at *;generalize Aj:x/1048576^(i+1)=X' at *;generalize Hv:y/1048576^(i+1)=Y' at *;generalize aP:dd%1048576=a at *;generalize ah:gi%1048576=b at *;have w1:IntKind.i64.wrap ((a:Int)-(b:Int))=(a:Int)-(b:Int):=wrap64 _ (by omega) (by omega);have ni:IntKind.i64.wrap ((a:Int)-(b:Int)-(c:Int))=(a:Int)-(b:Int)-(c:Int):=wrap64 _ (by omega) (by omega);have bX:=ff (i:=i) (by omega);have xj:IntKind.i64.wrap ((a:Int)-(b:Int)-(c:Int)+1048576)=(a:Int)-(b:Int)-(c:Int)+1048576:=wrap64 _ (by omega) (by omega);have dC:=λd:Int=>l3 gX tR 182032 g 8 o d (cs:=[.J (.int .i64 d)]) rfl (by omega) (by omega);rw[bO] at dC;rcases kM:decide ((a:Int)-(b:Int)-(c:Int)<0)
  ·have aL:=of_decide_eq_false kM;refine a0 ?_;repeat' (intro h<;>simp only[h,go_sem,go_sem_proc,gw,fU,ao,F,bm,bK,bP,hm,g0,cr,k9,d1,w1,ni,bX,dC,kM,ae,al,bl]<;>try refine aw ?_ ?_)
   refine⟨(i+1,0,g+1,o++[(a:Int)-(b:Int)-(c:Int)]),by dsimp only;omega,by dsimp only;omega,by dsimp only;omega,by dsimp only;rw[Aj,Hv];omega,by simp[bO],Ym iJ (by omega) (by omega),?_,rfl,rfl,rfl,rfl⟩
   dsimp only;rw[Aj,Hv,Yn,bO,gG,<-aF];have b9:((dd-(gi+c):Nat):Int)=1048576*((X'-(Y'+0):Nat):Int)+((a:Int)-b-c):=by omega
   rw[b9,ix,iy];omega
  ·have aL:=of_decide_eq_true kM;refine a0 ?_;repeat' (intro h<;>simp only[h,go_sem,go_sem_proc,gw,fU,ao,F,bm,bK,bP,hm,g0,cr,k9,d1,w1,ni,bX,xj,dC,kM,ae,al,bl]<;>try refine aw ?_ ?_)
   refine⟨(i+1,1,g+1,o++[(a:Int)-(b:Int)-(c:Int)+1048576]),by dsimp only;omega,by dsimp only;omega,by dsimp only;omega,by dsimp only;rw[Aj,Hv];omega,by simp[bO],Ym iJ (by omega) (by omega),?_,rfl,rfl,rfl,rfl⟩
   dsimp only;rw[Aj,Hv,Yn,bO,gG,<-aF];have b9:((dd-(gi+c):Nat):Int)=1048576*((X'-(Y'+1):Nat):Int)+((a:Int)-b-c+1048576):=by omega
   have dg:∀p cf eT:Int,bf o+p*cf+p*1048576*eT=bf o+p*(1048576*eT+cf):=λp cf eT=>by rw[ix p (1048576*eT) cf,<-iy];omega
   rw[b9];exact dg _ _ _
 ·have d1:decide ((i:Int)<((aM x).length:Int))=false:=c9;rw[B9 (n:=x) (by omega),B9 (n:=y) (by omega),Nat.zero_sub,lF,ub,sL] at aF;have cQ:=Eu o (by omega);rw[Hu (n:=x-y) iJ aF] at cQ;have gu:=Hq (aM (x-y));have h7:=pM (n:=5) gX hm;rw[bO] at h7;refine a0 ?_;repeat' (intro h<;>simp only[h,go_sem,go_sem_proc,gw,fU,ao,F,bm,bK,bP,hm,d1,cQ,gu,h7,xi,hK,al]<;>try refine aw ?_ ?_)
theorem ahc {b:List Int}{k:Nat}(h:k<D b):b.getD k 0=b[k]:=by rw[dY,bx h];rfl
theorem Yp {b:List Int}{k:Nat}(h:(D b)<=k):b.getD k 0=0:=by rw[dY,kF h];rfl
def Qj:=ck vJ λ(x,y)=>cR ((aM x).length<=10000/\(aM y).length<=10000) (.same (b5 (x*y)))
@[go_sem] theorem ahd (x:Nat)(y:Nat)(H:(aM x).length<=10000/\(aM y).length<=10000):Qj [b5 x,b5 y]=some (.same (b5 (x*y))):=(cx yu (x,y)).trans (cW H _)
theorem auz (T:bd)(gw:T tT=aW Hr)(fU:T tS=aW B8)(x:Nat)(y:Nat)(H:(aM x).length<=10000/\(aM y).length<=10000):WP T Yi (.same (b5 (x*y))) [.J (b5 x),.J (b5 y)]:=by
 refine cy ?_;simp only[Yi];obtain⟨Q,av⟩:=H;have tX:=m1 x;have rC:=m1 y;have wY:=l4 x;have DW:=l4 y;generalize aP:aM x=a at *;generalize ah:aM y=b at *;have n5:IntKind.i64.wrap ((D a:Int)+(D b:Int))=((D a+D b:Nat):Int):=by rw[eS _];rfl
 have kJ:8*(D a+D b)<=140737488355328:=by omega
 have eJ:(D a)+D b<=maxLen:=GO _ (by omega);have Kk:(D b)<=1000000:=by omega
 simp only[go_sem,go_sem_proc,gw,fU,b5,aP,ah,n5,kJ,eJ,GN,al]
 refine dn [0,1,5] [] (λ((i,o):Nat×List Int) tm mem=>i<=D a/\D o=D a+D b/\eY o/\o.drop (i+D b)=dG (D o-(i+D b)) 0/\bf o=bf (a.take i)*y/\tm 6=.J (.int .i64 (i:Nat))/\mem 186015=some (0,bc ae o))
  (λ(i,_)=>D a-i) (0,dG (D a+D b) 0) (by
   have aX:∀n,bf (dG n 0)=0:=by
    intro n
    induction n with
    |zero=>rfl
    |succ n az=>rw[List.replicate_succ,tQ,az];rfl
   refine⟨fv _,by simp,λd aa=>by rw[GR] at aa;omega,by simp,by rw[aX];simp[bf],?_,?_⟩<;>rfl) ?_
 intro vs ms aV aS;simp only[go_sem,go_sem_proc,gw,fU,b5,aP,ah,n5,al] at aV aS;subst aV aS;rintro⟨i,o⟩ tm mem O-⟨M,bO,iJ,sK,jS,bK,hm⟩;simp only[go_sem,go_sem_proc,gw,fU,ba] at O;obtain⟨ao,F,bm⟩:=O;rcases dA (i<D a) with ay|cj
 ·have m2:a[i]?=some a[i]:=bx ay;have Br:=lH tX i ay;have tJ:=lG a i ay;generalize a[i]=hT at *;have iz:decide ((i:Int)<(D a:Int))=true:=di;have BM:IntKind.i64.wrap ((i:Int)+1)=((i+1:Nat):Int):=by rw[eS _];rfl
  simp only[go_sem,go_sem_proc,gw,fU,ao,F,bm,bK,m2,iz,ae,al,bl,ba]
  refine dn [0,1,5,6] [] (λ((k,c,o):Nat×Int×List Int) tm mem=>k<=D b+1/\(k=D b+1->c=0)/\D o=D a+D b/\eY o/\o.drop (i+max k (D b))=dG (D o-(i+max k (D b))) 0/\0<=c/\c<1048576/\bf o+1048576^(i+k)*c=bf (a.take i)*y+1048576^i*(hT*bf (b.take k)) /\
    tm 8=.J (.int .i64 (k:Nat))/\tm 7=.J (.int .i64 c)/\mem 186015=some (0,bc ae o))
   (λ(k,_)=>D b+1-k) (0,0,o) (by refine⟨fv _,by simp,bO,iJ,by rw[Nat.zero_max];exact sK,by omega,by omega,by simp[bf,jS],?_,?_,hm⟩<;>rfl) ?_
  intro vs ms aV aS;simp only[go_sem,go_sem_proc,gw,fU,ao,F,bm,bK,ae,al] at aV aS;subst aV aS;rintro⟨k,c,o⟩ tm mem O-⟨qv,Ca,bO,iJ,sK,nx,gU,jS,cl,bP,hm⟩;simp only[go_sem,go_sem_proc,gw,fU,ba] at O;obtain⟨ao,F,bm,bK⟩:=O;have fz:IntKind.i64.wrap ((k:Int)+1)=((k+1:Nat):Int):=by rw[eS _];rfl
  have jE:IntKind.i64.wrap ((i:Int)+(k:Int))=((i+k:Nat):Int):=by rw[eS _];rfl
  by_cases LO:k<(D b)\/c>0
  ·have Lc:k<=D b:=by
    rcases il (D b) k with h|h
    ·have:=Ca (by omega);omega
    ·exact h
   have pN:i+k<D o:=by omega
   have Wb:=lH iJ (i+k) pN
   have GS:0<=b.getD k 0/\b.getD k 0<1048576:=by
    rcases il k (D b) with h|h
    ·rw[ahc h];exact lH rC k h
    ·rw[Yp h];omega
   have Yq:bf (b.take (k+1))=bf (b.take k)+1048576^k*b.getD k 0:=by
    rcases il k (D b) with h|h
    ·rw[ahc h];exact lG b k h
    ·rw[Yp h,dy (by omega),dy (by omega)];simp
   have wH:k<(D b)\/(k=D b/\o[i+k]=0):=by
    rcases il k (D b) with h|h
    ·exact .inl h
    ·refine .inr ⟨by omega,afJ sK (by omega) pN⟩
   have LP:=ag8 b k Kk;generalize b.getD k 0=pT at *;obtain⟨dN,cO,n7,qF⟩:=afI Wb Br GS ⟨nx,gU⟩;have k8:IntKind.i64.wrap (hT*pT)=hT*pT:=wrap64 _ (by omega) (by omega);have z0:IntKind.i64.wrap (o[i+k]+hT*pT)=o[i+k]+hT*pT:=wrap64 _ (by omega) (by omega);have vM:IntKind.i64.wrap (o[i+k]+hT*pT+c)=o[i+k]+hT*pT+c:=wrap64 _ (by omega) (by omega);have qG:(o[i+k]+hT*pT+c).tmod 1048576=(o[i+k]+hT*pT+c)%1048576:=Le (by omega);have BP:IntKind.i64.wrap ((o[i+k]+hT*pT+c).tdiv 1048576)=(o[i+k]+hT*pT+c)/1048576:=by rw[GU (by omega)];exact wrap64 _ (by omega) (by omega)
   have hS:i+k+1<=(bc ae o).length:=by rw[qC];omega
   have hk:=La o (i+k) pN;have gL:=λd=>yt o (i+k) d pN;have ji:i+k<D a+D b:=by omega
   have iI:∃bk:Nat×Int×List Int,D b+1-bk.1<D b+1-k/\bk.1<=D b+1/\(bk.1=D b+1->bk.2.1=0)/\bk.2.2.length=D a+D b/\eY bk.2.2/\bk.2.2.drop (i+max bk.1 (D b))=dG (bk.2.2.length-(i+max bk.1 (D b))) 0/\0<=bk.2.1/\bk.2.1<1048576/\bf bk.2.2+1048576^(i+bk.1)*bk.2.1=bf (a.take i)*y+1048576^i*(hT*bf (b.take bk.1)) /\
     R.J (Data.int .i64 ((k+1:Nat):Int))=R.J (Data.int .i64 (bk.1:Nat))/\R.J (Data.int .i64 ((o[i+k]+hT*pT+c)/1048576))=R.J (Data.int .i64 bk.2.1)/\some (0,bc ae (o.set (i+k) ((o[i+k]+hT*pT+c)%1048576)))=some (0,bc ae bk.2.2):=by
    refine⟨(k+1,(o[i+k]+hT*pT+c)/1048576,o.set (i+k) ((o[i+k]+hT*pT+c)%1048576)),by dsimp only;omega,by dsimp only;omega,?_,by simp[bO],zY iJ _ (by omega),?_,n7,qF,?_,rfl,rfl,rfl⟩
    ·intro h;dsimp only at h ⊢;rcases wH with I|⟨I,af⟩
     ·omega
     ·have auA:pT=0:=by
       have e:=LP;rw[ag8 b k Kk,Yp (by omega)] at e
       simpa using e.symm
      rw[af,auA,ub];omega
    ·dsimp only;rcases wH with I|⟨I,af⟩
     ·rw[Yr (by omega)] at sK;rw[Yr (by omega),tG (by omega),List.length_set,sK]
     ·rw[Yr (by omega),<-I] at sK;rw[Nat.max_eq_left (by omega)];exact afK sK pN
    ·dsimp only;rw[V6 _ _ _ pN,Yq,<-Nat.add_assoc,ns,afH _ _ _ _ _ _ _ jS];rw[ix (hT),ix (1048576^i),Int.pow_add]
     have:(1048576:Int)^i*(hT*(1048576^k*pT))=1048576^i*1048576^k*(hT*pT):=by
      rw[<-iy (hT),nt (hT) (1048576^k),iy (1048576^k),<-iy]
     omega
   by_cases aLi:k<D b
   ·have d1:decide ((k:Int)<(D b:Int))=true:=di;simp only[go_sem,go_sem_proc,gw,fU,ao,F,bm,bK,bP,cl,hm,m2,LP,d1,fz,jE,k8,z0,vM,qG,BP,ji,hS,hk,gL,ae,cL,al,bl,ba];repeat' (first|refine aw ?_ ?_|fail)<;>intro h<;>simp only[h,go_sem,go_sem_proc,gw,fU,ao,F,bm,bK,bP,cl,hm,m2,LP,d1,fz,jE,k8,z0,vM,qG,BP,ji,hS,hk,gL,ae,cL,al,bl,ba]
    exact iI
   ·have d1:decide ((k:Int)<(D b:Int))=false:=c9;have d2:decide (c>0)=true:=di;simp only[go_sem,go_sem_proc,gw,fU,ao,F,bm,bK,bP,cl,hm,m2,LP,d1,d2,fz,jE,k8,z0,vM,qG,BP,ji,hS,hk,gL,ae,cL,al,bl,ba];repeat' (first|refine aw ?_ ?_|fail)<;>intro h<;>simp only[h,go_sem,go_sem_proc,gw,fU,ao,F,bm,bK,bP,cl,hm,m2,LP,d1,d2,fz,jE,k8,z0,vM,qG,BP,ji,hS,hk,gL,ae,cL,al,bl,ba]
    exact iI
  ·have d1:decide ((k:Int)<(D b:Int))=false:=c9;have d2:decide (c>0)=false:=c9;have auB:c=0:=by omega
   rw[auB,ub,sL,show b.take k=b from dy (by omega),DW] at jS;simp only[go_sem,go_sem_proc,gw,fU,ao,F,bm,bK,bP,cl,hm,d1,d2,BM,al];repeat' (first|refine aw ?_ ?_|fail)<;>intro h<;>simp only[h,go_sem,go_sem_proc,gw,fU,ao,F,bm,bK,bP,cl,hm,d1,d2,BM,al]
   refine⟨(i+1,o),by dsimp only;omega,by dsimp only;omega,bO,iJ,?_,?_,rfl,rfl⟩
   ·dsimp only;have af:=congrArg (List.drop (i+1+D b-(i+max k (D b)))) sK;rw[List.drop_drop,List.drop_replicate] at af;rw[show i+max k (D b)+(i+1+D b-(i+max k (D b)))=i+1+(D b) by omega] at af
    rw[af]
    congr 1
    omega
   ·dsimp only;rw[jS,tJ,Int.add_mul,iy]
 ·obtain rfl:i=D a:=by omega
  have iz:decide ((D a:Int)<(D a:Int))=false:=c9;rw[dy (bZ _),wY] at jS;have cQ:=Eu o (by omega);rw[Hu (n:=x*y) iJ (by rw[jS];rfl)] at cQ;have gu:=Hq (aM (x*y));have h7:=pM (n:=5) gX hm;rw[bO] at h7;simp only[go_sem,go_sem_proc,gw,fU,ao,F,bm,bK,hm,iz,cQ,gu,h7,xi,hK,b5,al];repeat' (first|refine aw ?_ ?_|fail)<;>intro h<;>simp only[h,go_sem,go_sem_proc,gw,fU,ao,F,bm,bK,hm,iz,cQ,gu,h7,xi,hK,b5,al]
def ez.Ak:ez->List Nat->ez
 |.seq a _,0::p=>a.Ak p
 |.seq _ b,_::p=>b.Ak p
 |.cond _ a _,0::p=>a.Ak p
 |.cond _ _ b,_::p=>b.Ak p
 |.block _ c,_::p=>c.Ak p
 |.ghost _ c,_::p=>c.Ak p
 |.loop c,_::p=>c.Ak p
 |c,_=>c
theorem ahe {n:Nat}(h:0<n)(F:n<1048576):[(n:Int)]=aM n:=(DE h F).symm
theorem auC {n:Nat}(F:n<1048576):fL [(n:Int)]=aM n:=Hu (by intro d aa;have:=uc.1 aa;omega) (by simp[bf])
theorem auD {d:Int}{r:Nat}(ao:0<=d)(F:d<1048576):fL (d::aM r)=aM (d.toNat+1048576*r):=Hu (DA.2 ⟨⟨ao,F⟩,m1 r⟩) (by rw[tQ,l4];omega)
theorem Ys {n m k:Nat}(h:n<m*1048576)(hm:(aM m).length<=k):(aM n).length<=k+1:=by
 rw[g3] at *;rw[wR];exact C6 h (vl _ (PT hm))
theorem ahf (T:bd)(pg:T KR=aW Qj)(ph:T OR=aW Qh){K:eW->bb->Prop}{kk:List gn}(y bU:Nat)(av:(aM y).length<=1000)(gE:(aM bU).length<=1001)(iY:0<y)(auE:bU<y*1048576)(v0 v6 Al:R)(tm:Nat->R)(m:Mem)
  (bI:tm 0=v0) (aC:tm 1=.J (.Y ((aM y).map ae))) (bE:tm 6=v6) (bR:tm 7=.J (.Y ((aM bU).map ae))) (dE:tm 8=Al) (e0:tm 9=.J (.int .i64 0)) (ef:tm 10=.J (.int .i64 1048576))
  (dK:∀tm',tm' 0=v0->tm' 1=.J (.Y ((aM y).map ae))->tm' 6=v6->tm' 7=.J (.Y ((aM bU).map ae))->tm' 8=Al->tm' 9=.J (.int .i64 ((bU/y:Nat):Int))->cJ T K kk (.exit 2) ⟨tm',m⟩) :
  wp T (LN.body.Ak [1,1,1,0,1,0,0,1,0,0,1,1,1,0,0]) (cJ T K kk) ⟨tm,m⟩:=by
 simp only[LN,ez.Ak];refine dn [0,1,6,7,8] [] (λ((cH,M):Nat×Nat) tm' m'=>cH<M/\M<=1048576/\cH*y<=bU/\bU<M*y/\tm' 9=.J (.int .i64 cH)/\tm' 10=.J (.int .i64 M)/\m'=m) (λ(cH,M)=>M-cH) (0,1048576) (by refine⟨by omega,by omega,by omega,by rw[rz];exact auE,e0,ef,rfl⟩) ?_;intro vs ms aV aS;simp only[go_sem,go_sem_proc,bI,aC,bE,bR,dE] at aV aS;subst aV aS;clear bI aC bE bR dE e0 ef;rintro⟨cH,M⟩ tm m' O hm ⟨aLj,aU,hh,jj,jn,gq,rfl⟩;simp only[go_sem,go_sem_proc,ba] at O hm;obtain⟨ao,F,bK,bP,cl⟩:=O;have w1:IntKind.i64.wrap ((M:Int)-(cH:Int))=(M:Int)-(cH:Int):=wrap64 _ (by omega) (by omega)
 by_cases LO:M-cH>1
 ·have d1:decide ((M:Int)-(cH:Int)>1)=true:=di;have ni:IntKind.i64.wrap ((cH:Int)+(M:Int))=((cH+M:Nat):Int):=by rw[eS _];omega
  have bX:IntKind.i64.wrap (((cH+M:Nat):Int).tdiv 2)=(((cH+M)/2:Nat):Int):=by rw[GU (by omega),wrap64 _ (by omega) (by omega)];omega
  obtain⟨xk,auF⟩:∃xk:Nat,xk=(cH+M)/2:=⟨_,rfl⟩;rw[<-auF] at bX;have cQ:=ahd y xk ⟨by omega,by rw[<-ahe (n:=xk) (by omega) (by omega)];simp⟩
  simp only[b5] at cQ;rw[<-ahe (n:=xk) (by omega) (by omega)] at cQ;simp only[eG,cV,ae] at cQ;have my:(aM (y*xk)).length<=1001:=Ys (ahg (show xk<1048576 by omega) iY) av;have gu:=aut bU (y*xk) ⟨by omega,by omega⟩
  simp only[b5] at gu;rcases aa:decide (bU<y*xk)
  ·have aL:=of_decide_eq_false aa;rw[aa] at gu;refine a0 ?_;repeat' (intro h<;>simp only[h,go_sem,go_sem_proc,pg,ph,ao,F,bK,bP,cl,jn,gq,w1,ni,bX,d1,cQ,gu]<;>try refine aw ?_ ?_)
   exact⟨(xk,M),by dsimp only;omega,by dsimp only;omega,aU,by dsimp only;rw[rz];omega,jj,rfl,rfl⟩
  ·have aL:=of_decide_eq_true aa;rw[aa] at gu;refine a0 ?_;repeat' (intro h<;>simp only[h,go_sem,go_sem_proc,pg,ph,ao,F,bK,bP,cl,jn,gq,w1,ni,bX,d1,cQ,gu]<;>try refine aw ?_ ?_)
   exact⟨(cH,xk),by dsimp only;omega,by dsimp only;omega,by dsimp only;omega,hh,by dsimp only;rw[rz];omega,rfl,rfl⟩
 ·have d1:decide ((M:Int)-(cH:Int)>1)=false:=c9
  have aT:bU/y=cH:=by
   have F:M=cH+1:=by omega
   subst F;exact Nat.div_eq_of_lt_le hh jj
  refine a0 ?_;repeat' (intro h<;>simp only[h,go_sem,go_sem_proc,ao,F,bK,bP,cl,jn,gq,w1,d1]<;>try refine aw ?_ ?_)
  refine dK _ ?_ ?_ ?_ ?_ ?_ ?_<;>simp only[eV,dJ,if_false,ao,F,bK,bP,cl,jn,aT]
def Qk:=ck vJ λ(x,y)=>cR ((aM x).length<=1000/\(aM y).length<=1000/\0<y) (.same (.cI [b5 (x/y),b5 (x%y)]))
@[go_sem] theorem ahh (x:Nat)(y:Nat)(H:(aM x).length<=1000/\(aM y).length<=1000/\0<y):Qk [b5 x,b5 y]=some (.same (.cI [b5 (x/y),b5 (x%y)])):=(cx yu (x,y)).trans (cW H _)
theorem auG (T:bd)(fU:T tS=aW B8)(pg:T KR=aW Qj)(ph:T OR=aW Qh)(lj:T KQ=aW Qi)(x:Nat)(y:Nat)(H:(aM x).length<=1000/\(aM y).length<=1000/\0<y):WP T LN (.same (.cI [b5 (x/y),b5 (x%y)])) [.J (b5 x),.J (b5 y)]:=by
 refine cy ?_;simp only[LN];obtain⟨Q,av,iY⟩:=H;have tX:=m1 x;have wY:=l4 x;generalize aP:aM x=a at *;have kJ:8*D a<=140737488355328:=by omega
 have eJ:(D a)<=maxLen:=GO _ (by omega);have z4:IntKind.i64.wrap ((D a:Int)-1)=(D a:Int)-1:=wrap64 _ (by omega) (by omega);simp only[go_sem,go_sem_proc,fU,pg,ph,lj,b5,aP,kJ,eJ,GN,z4,al]
 refine dn [0,1,6] [] (λ((n,r,yQ,o):Nat×Nat×R×List Int) tm mem=>n<=D a/\D o=D a/\eY o/\r<y/\bf (a.drop n)=y*bf (o.drop n)+r/\(yQ=.nil/\r=0\/yQ=.J (b5 r))/\tm 8=.J (.int .i64 ((n:Nat)-1))/\tm 7=yQ/\mem 180014=some (0,bc ae o))
  (λ(n,_)=>n) (D a,0,.nil,dG (D a) 0) (by
   refine⟨bZ _,by simp,λd aa=>by rw[GR] at aa;omega,iY,by simp[bf],.inl ⟨rfl,rfl⟩,rfl,rfl,rfl⟩) ?_
 intro vs ms aV aS;simp only[go_sem,go_sem_proc,fU,pg,ph,lj,b5,aP,al] at aV aS;subst aV aS;rintro⟨n,r,yQ,o⟩ tm mem O-⟨aL,bO,iJ,BH,aA,xl,cl,bP,hm⟩;simp only[go_sem,go_sem_proc,fU,pg,ph,lj,ba] at O;obtain⟨ao,F,bK⟩:=O;rcases n with _|n
 ·have aT:bf o=((x/y:Nat):Int)/\r=x%y:=by
   rw[l1,l1,wY] at aA;have aC:(x:Int)/(y:Int)=bf o:=by rw[aA,yw,Int.add_mul_ediv_left _ _ (by omega),Int.ediv_eq_zero_of_lt (by omega) (by omega)];omega
   have aD:(x:Int)%(y:Int)=r:=by rw[aA,yw,Int.add_mul_emod_self_left,Int.emod_eq_of_lt (by omega) (by omega)]
   refine⟨by rw[<-aC];rfl,by omega⟩
  have cQ:=Eu o (by omega);rw[Hu (n:=x/y) iJ aT.1] at cQ;have gu:=Hq (aM (x/y));have h7:=pM (n:=5) gX hm;rw[bO] at h7;rcases xl with ⟨rfl,pO⟩|rfl
  ·have aX:aM (x%y)=[]:=by rw[<-aT.2,pO];rfl
   simp only[go_sem,go_sem_proc,fU,pg,ph,lj,ao,F,bK,bP,cl,hm,cQ,gu,h7,aX,xi,hK,b5,lF,l6,show ¬ ((0:Int)-1>=0) by omega,decide_false,al,cV]
   repeat' (first|refine aw ?_ ?_|fail)<;>intro h<;>simp only[h,go_sem,go_sem_proc,fU,pg,ph,lj,ao,F,bK,bP,cl,hm,cQ,gu,h7,aX,xi,hK,b5,lF,l6,show ¬ ((0:Int)-1>=0) by omega,decide_false,al,cV]
  ·simp only[go_sem,go_sem_proc,fU,pg,ph,lj,ao,F,bK,bP,cl,hm,cQ,gu,h7,xi,hK,b5,lF,l6,show ¬ ((0:Int)-1>=0) by omega,decide_false,al,cV,aT.2]
   repeat' (first|refine aw ?_ ?_|fail)<;>intro h<;>simp only[h,go_sem,go_sem_proc,fU,pg,ph,lj,ao,F,bK,bP,cl,hm,cQ,gu,h7,xi,hK,b5,lF,l6,show ¬ ((0:Int)-1>=0) by omega,decide_false,al,cV,aT.2]
 ·have m2:a[n]?=some a[n]:=bx (by omega);have Pg:=lH tX n (by omega);have V1:a.drop n=a[n]::a.drop (n+1):=im (by omega);have h5:n<D o:=by omega
  have V4:∀e:Int,(o.set n e).drop n=e::o.drop (n+1):=λe=>by
   rw[im (by simpa using h5),List.getElem_set_self,tG (by omega)]
  generalize a[n]=d at *;have hw:((n+1:Nat):Int)-1=(n:Int):=by omega
  have cj:decide ((n:Int)>=0)=true:=di;have k8:IntKind.i64.wrap ((n:Int)-1)=(n:Int)-1:=wrap64 _ (by omega) (by omega);have b0:(aM r).length<=1000:=by rw[g3] at *;omega
  obtain⟨bU,gE⟩:∃bU:Nat,bU=d.toNat+1048576*r:=⟨_,rfl⟩
  have Ql:bU<y*1048576:=by
   have:(r+1)*1048576<=y*1048576:=vl _ BH;omega
  have Yt:=Ys Ql av;have Hw:=auD (d:=d) (r:=r) Pg.1 Pg.2;rw[<-gE] at Hw;have cQ:=Eu (d::aM r) (by rw[hN];omega);rw[Hw] at cQ;simp only[eG,ae] at cQ;have gu:=Hq (aM bU)
  have zq:∀bL:Nat,mx 180026 bL 1 1 8 (aM r).length (((aM r).map ae).flatten.map .J) (some (bL,[.J (.int .i64 d)]))=some (.ref 180026 (bL+1) 1 0 (1+(aM r).length),some (180026,bL+1,bc ae (d::aM r))):=λbL=>by
   have:=Dx gX tR 180026 bL 8 [d] (aM r) (by rw[Cb];omega) (by rw[Cb];omega);exact this
  have auH:∀(bL:Nat) (m:Mem),m 180026=some (bL,bc ae (d::aM r))->cE 6 m (.ref 180026 bL 1 0 (1+(aM r).length))=some (.Y ((d::aM r).map ae)):=λbL m hm=>by
   have:=pM (n:=5) gX hm;rw[hN,Nat.add_comm (aM r).length 1] at this;exact this
  have tB:(((aM r).map ae).all λe=>D e==1)=true:=K8 _;have Yu:=auH (gD (mem 180026)+1) (a4 (a4 mem 180026 (gD (mem 180026)) [R.J (.int .i64 d)]) 180026 (gD (mem 180026)+1) (bc ae (d::aM r))) (by simp[a4]);have o5:n<D a:=by omega
  obtain⟨cH,hh⟩:∃cH:Nat,cH=bU/y:=⟨_,rfl⟩;have Yv:cH<1048576:=by rw[hh];exact Nat.div_lt_of_lt_mul Ql
  have z9:=PQ bU y;have my:=qI bU iY;rw[<-hh] at z9;have TE:bU-y*cH=bU%y:=by omega
  have aLk:(aM (y*cH)).length<=1001:=Ys (ahg Yv iY) av
  have Qm:B8 [.Y [[.int .i64 ((bU/y:Nat):Int)]]]=some (.own 1 ((aM cH).map ae)):=by
   have h:=Eu [((bU/y:Nat):Int)] (by simp);rw[<-hh,auC Yv] at h;rw[<-hh];exact h
  have LQ:=ahd y cH ⟨by omega,by have:(aM cH).length<=1:=g3.2 (by rw[Nat.pow_one];exact Yv);omega⟩
  simp only[b5] at LQ;have Hx:=ahb bU (y*cH) ⟨by omega,by omega,by omega⟩
  rw[TE] at Hx;simp only[b5] at Hx;have hS:n+1<=(bc ae o).length:=by rw[qC];omega
  have gL:=yt o n ((bU/y:Nat):Int) h5
  have iI:∃bk:Nat×Nat×R×List Int,bk.1<n+1/\bk.1<=D a/\bk.2.2.2.length=D a/\eY bk.2.2.2/\bk.2.1<y/\bf (a.drop bk.1)=y*bf (bk.2.2.2.drop bk.1)+bk.2.1/\(bk.2.2.1=.nil/\bk.2.1=0\/bk.2.2.1=.J (.Y ((aM bk.2.1).map ae)))/\R.J (Data.int .i64 ((n:Int)-1))=R.J (Data.int .i64 ((bk.1:Int)-1))/\R.J (Data.Y ((aM (bU%y)).map ae))=bk.2.2.1/\some (0,bc ae (o.set n ((bU/y:Nat):Int)))=some (0,bc ae bk.2.2.2):=by
   refine⟨(n,bU%y,.J (b5 (bU%y)),o.set n ((bU/y:Nat):Int)),by dsimp only;omega,by dsimp only;omega,by simp[bO],zY iJ n (by omega),my,?_,.inr rfl,rfl,rfl,rfl⟩
   dsimp only;rw[V1,tQ,aA,V4,tQ,<-hh];have aC:(bU:Int)=d+1048576*r:=by omega
   have aD:(y:Int)*cH+(bU%y:Nat)=bU:=by exact_mod_cast z9
   have b9:∀v:Int,(y:Int)*(cH+1048576*v)=y*cH+1048576*(y*v):=λv=>by rw[ix,Int.mul_left_comm]
   rw[b9];omega
  have main:yQ=.nil/\r=0\/yQ=.J (b5 r):=xl;rcases main with ⟨rfl,pO⟩|rfl
  ·subst pO;have ahi:=zq;simp only[sF,cV,ag6,lD] at ahi;simp only[sF,lD] at Yu;simp only[sF,cV] at cQ;simp only[go_sem,go_sem_proc,fU,pg,ph,lj,ao,F,bK,bP,cl,hm,m2,hw,cj,ahi,cQ,gu,Yu,xi,hK,ae,sF,al,bl,cV];refine ahf T pg ph y bU av Yt iY Ql (.J (.Y (a.map ae))) (.ref 180014 0 1 0 (D a)) (.J (.int .i64 n)) _ _ ?_ ?_ ?_ ?_ ?_ ?_ ?_ ?_
   ·exact ao
   ·exact F
   ·exact bK
   ·rfl
   ·simp only[eV,dJ,if_false,cl,hw]
   ·rfl
   ·rfl
   intro tm' fE cd g5 hV gN j1;simp only[go_sem,go_sem_proc,fU,pg,ph,lj,fE,cd,g5,hV,gN,j1,hm,o5,hS,gL,Qm,LQ,Hx,k8,cL];repeat' (first|refine aw ?_ ?_|fail)<;>intro h<;>simp only[h,go_sem,go_sem_proc,fU,pg,ph,lj,fE,cd,g5,hV,gN,j1,hm,o5,hS,gL,Qm,LQ,Hx,k8,cL]
   exact iI
  ·simp only[go_sem,go_sem_proc,fU,pg,ph,lj,ao,F,bK,bP,cl,hm,m2,hw,cj,zq,tB,cQ,gu,Yu,xi,hK,b5,ae,al,bl];refine ahf T pg ph y bU av Yt iY Ql (.J (.Y (a.map ae))) (.ref 180014 0 1 0 (D a)) (.J (.int .i64 n)) _ _ ?_ ?_ ?_ ?_ ?_ ?_ ?_ ?_
   ·exact ao
   ·exact F
   ·exact bK
   ·rfl
   ·simp only[eV,dJ,if_false,cl,hw]
   ·rfl
   ·rfl
   intro tm' fE cd g5 hV gN j1;simp only[go_sem,go_sem_proc,fU,pg,ph,lj,fE,cd,g5,hV,gN,j1,hm,o5,hS,gL,Qm,LQ,Hx,k8,cL];repeat' (first|refine aw ?_ ?_|fail)<;>intro h<;>simp only[h,go_sem,go_sem_proc,fU,pg,ph,lj,fE,cd,g5,hV,gN,j1,hm,o5,hS,gL,Qm,LQ,Hx,k8,cL]
   exact iI
def Hy:=ck O9 λ(s,l)=>cR (D l<=1000000) (.same (.agg (db (kp s l))))
@[go_sem] theorem aLl (s:Int)(l:List Int)(H:(D l)<=1000000):Hy [.int .i64 s,.Y (l.map ae)]=some (.same (.agg (db (kp s l)))):=(cx afx (s,l)).trans (cW H _)
theorem auI (T:bd)(fU:T tS=aW B8)(s:Int)(l:List Int)(H:(D l)<=1000000):WP T Yd (.same (.agg (db (kp s l)))) [.J (.int .i64 s),.J (.Y (l.map ae))]:=by
 refine cy ?_;simp only[Yd];have cQ:=Eu l H;have gu:=Hq (fL l);refine a0 ?_;repeat' (intro h<;>simp only[h,go_sem,go_sem_proc,fU,cQ,gu,al]<;>try refine aw ?_ ?_)
 all_goals simp only[kp,db,cV, *,reduceIte,Bool.not_true,Bool.not_false,Bool.or_true,Bool.true_or,Bool.or_false,Bool.false_or,Bool.and_true,gW,h6,fS,kX,beq_self_eq_true,bne]
def Hz:=ck BD λ(s,l)=>cR (D l<=1000000) (.same (.bool (dD (s,l))))
@[go_sem] theorem aLm (s:Int)(l:List Int)(H:(D l)<=1000000):Hz [.agg [.int .i64 s,.Y (l.map ae)]]=some (.same (.bool (dD (s,l)))):=(cx GM (s,l)).trans (cW H _)
theorem auJ (T:bd)  (s:Int) (l:List Int) (H:(D l)<=1000000):WP T X9 (.same (.bool (dD (s,l)))) [.J (.agg [.int .i64 s,.Y (l.map ae)])]:=by
 refine cy ?_;simp only[X9];simp only[go_sem,go_sem_proc,al];refine dn [1] [162001] (λ(i:Nat) tm mem=>i<=D l/\l.all n3=(l.drop i).all n3/\tm 3=.J (.int .i64 i)) (λi=>D l-i) 0 (by refine⟨by omega,by simp,rfl⟩) ?_;intro vs ms aV aS;simp only[go_sem,go_sem_proc,al] at aV aS;subst aV aS;rintro i tm mem O hm ⟨M,aI,af⟩;simp only[go_sem,go_sem_proc,ba] at O hm;have F:=O;rcases dA (i<D l) with ay|cj
 ·have aa:l.drop i=l[i]::l.drop (i+1):=im ay;have Q:l[i]?=some l[i]:=bx ay;generalize l[i]=x at *;have d1:decide ((i:Int)<(D l:Int))=true:=di
  have iI:∀b,n3 x=true->b=(l.drop (i+1)).all n3->l.all n3=b:=by
   intro b F I;rw[aI,aa,Gq,F,I,gW]
  have K9:¬ n3 x=true->dD (s,l)=false:=by
   intro F;rw[Bool.not_eq_true] at F;unfold dD;rw[aI,aa,Gq,F]
   rfl
  have bX:=ff (i:=i) (by omega);simp only[go_sem,go_sem_proc,F,af,hm,Q,d1,bX,ae,al,bl,ba];repeat' (first|refine aw ?_ ?_|fail)<;>intro h<;>simp only[h,go_sem,go_sem_proc,F,af,hm,Q,d1,bX,ae,al,bl,ba]
  ·rw[K9 λh=>by have:=(Lm x).1 h;(simp only[cn,Data.bool.injEq,Data.int.injEq,true_and,decide_eq_true_eq,decide_eq_false_iff_not,kX,beq_iff_eq,beq_eq_false_iff_ne,ne_eq] at*<;> omega)]
  ·exact⟨i+1,by omega,by omega,iI _ ((Lm x).2 (by (simp only[cn,Data.bool.injEq,Data.int.injEq,true_and,decide_eq_true_eq,decide_eq_false_iff_not,kX,beq_iff_eq,beq_eq_false_iff_ne,ne_eq] at*<;> omega))) rfl,rfl⟩
  ·rw[K9 λh=>by have:=(Lm x).1 h;(simp only[cn,Data.bool.injEq,Data.int.injEq,true_and,decide_eq_true_eq,decide_eq_false_iff_not,kX,beq_iff_eq,beq_eq_false_iff_ne,ne_eq] at*<;> omega)]
 ·have he:l.drop i=[]:=List.drop_eq_nil_of_le (by omega);rw[he] at aI;have fi:l.all n3=true:=by rw[aI];rfl
  have d1:decide ((i:Int)<(D l:Int))=false:=c9;rcases List.eq_nil_or_concat l with rfl|⟨r,x,rfl⟩
  ·have d2:decide ((i:Int)<0)=false:=d1;simp only[go_sem,go_sem_proc,F,af,hm,d2,lD,lF,l6,beq_self_eq_true,cV,bne];repeat' (first|refine aw ?_ ?_|fail)<;>intro h<;>simp only[h,go_sem,go_sem_proc,F,af,hm,d2,lD,lF,l6,beq_self_eq_true,cV,bne]
   all_goals (refine congrArg (λb=>some (Data.bool b)) ?_;unfold dD;simp;try simp only[decide_eq_true_eq,decide_eq_false_iff_not,beq_iff_eq,beq_eq_false_iff_ne,pU,ahj,beq_eq_false_iff_ne,ne_eq] at *;omega)
  ·rw[List.concat_eq_append] at *;have bG:(((r++[x]).length:Int)==0)=false:=by simp;omega
   have hw:IntKind.i64.wrap (((r++[x]).length:Int)-1)=(D r:Int):=by
    have cB:(r++[x]).length=D r+1:=by simp
    rw[eS _];omega
   have a7:((r++[x]).map ae)[D r]?=some [.int .i64 x]:=by simp[ae]
   have ab:dD (s,r++[x])=((s==1||s == -1)&&decide (((r++[x]).length:Int)<=60)&&(x != 0)):=by
    unfold dD;rw[fi];simp only[List.getLast?_append,List.getLast?_singleton];simp;have aC:decide (D r<=59)=decide ((D r:Int)+1<=60):=decide_eq_decide.2 (by omega);have aD:(some x != some (0:Int))=(x != 0):=by simp[bne]
    rw[aC,aD]
   rw[ab];simp only[go_sem,go_sem_proc,F,af,hm,d1,bG,hw,a7,al];repeat' (first|refine aw ?_ ?_|fail)<;>intro h<;>simp only[h,go_sem,go_sem_proc,F,af,hm,d1,bG,hw,a7,al]
   all_goals (refine congrArg (λb=>some (Data.bool b)) ?_;clear aI fi ab a7 hw O hm F af d1;rw[qL];simp only[e4,Bool.or_eq_true,decide_eq_true_eq,decide_eq_false_iff_not,beq_iff_eq,beq_eq_false_iff_ne,pU,ahj,ne_eq,kX,false_iff,true_iff] at *;omega)
def Yw:=ck BD λ(s,l)=>cR (D l<=1000000) (.same (.agg (db (j4 (s,l)))))
@[go_sem] theorem aLn (s:Int)(l:List Int)(H:(D l)<=1000000):Yw [.agg [.int .i64 s,.Y (l.map ae)]]=some (.same (.agg (db (j4 (s,l))))):=(cx GM (s,l)).trans (cW H _)
theorem auK (T:bd)(j7:T vA=aW Hz)(gY:T vB=aW Hy)(s:Int)(l:List Int)(H:(D l)<=1000000):WP T Ya (.same (.agg (db (j4 (s,l))))) [.J (.agg [.int .i64 s,.Y (l.map ae)])]:=by
 refine cy ?_;simp only[Ya]
 by_cases ab:dD (s,l)=true
 ·obtain⟨z,aX,e⟩:=(j2 _).1 ab;have aC:j4 (s,l)=bQ (-z):=by unfold j4;rw[ad ab,e,fQ]
  cases e
  have hw:IntKind.i64.wrap (0-z.sign) = -z.sign:=by
   have:=Int.sign_trichotomy z;rw[eS _];omega
  rw[aC];refine a0 ?_;repeat' (intro h<;>simp only[h,go_sem,go_sem_proc,j7,gY,ab,H,hw,ago,db]<;>try refine aw ?_ ?_)
 ·have ab:dD (s,l)=false:=by simpa using ab
  have aC:j4 (s,l)=(0,[]):=by unfold j4;rw[ab];rfl
  rw[aC];refine a0 ?_;repeat' (intro h<;>simp only[h,go_sem,go_sem_proc,j7,gY,ab,H,db,cV]<;>try refine aw ?_ ?_)
theorem ahk (n:Int):(n.tmod 1048576).natAbs=n.natAbs%1048576:=by rw[Int.natAbs_tmod];rfl
theorem ahl (n:Int):(n.tdiv 1048576).natAbs=n.natAbs/1048576:=by rw[Int.natAbs_tdiv];rfl
def Yx:=ck vH λ(n:Int)=>cR (dw n) (.same (.agg (db (bQ n))))
@[go_sem] theorem aLo (n:Int)(H:dw n):Yx [.int .i64 n]=some (.same (.agg (db (bQ n)))):=(cx yq n).trans (cW H _)
theorem auL (T:bd)(gY:T vB=aW Hy)(n:Int)(H:dw n):WP T X8 (.same (.agg (db (bQ n)))) [.J (.int .i64 n)]:=by
 refine cy ?_;simp only[X8];have lX:=H;unfold dw at lX;obtain⟨oC,vf⟩:=lX;have hlen:(aM n.natAbs).length<=60:=g3.2 (yG H);rcases dA (n=0) with rfl|iU
 ·simp only[go_sem,go_sem_proc,gY,db,beq_self_eq_true];repeat' (first|refine aw ?_ ?_|fail)<;>intro h<;>simp only[h,go_sem,go_sem_proc,gY,db,beq_self_eq_true]
  rfl
 have bG:(n==0)=false:=by simpa using iU
 have X:∀s:Int,s=n.sign->kp s (aM n.natAbs)=bQ n:=λs h=>pQ rfl λ_=>h;have vT:(aM n.natAbs).length<=1000000:=by omega
 rcases dA (n<0) with kM|h3
 ·have pV:=X (-1) (rF kM).symm;simp only[go_sem,go_sem_proc,gY,bG,kM,decide_true];refine dn [2,3] [144002] (λ((u,g,l):Int×Nat×List Int) tm mem=>u<=0/\n<=u/\aM n.natAbs=l++aM u.natAbs/\tm 0=.J (.int .i64 u)/\tm 4=.ref 144022 g 1 0 (D l)/\mem 144022=some (g,bc ae l)) (λ(u,_)=>u.natAbs) (n,0,[]) (by refine⟨by omega,by omega,rfl,rfl,rfl,rfl⟩) ?_;intro vs ms aV aS;simp only[go_sem,go_sem_proc,gY,kM,decide_true] at aV aS;subst aV aS;rintro⟨u,g,l⟩ tm mem O hm ⟨hu,auM,aa,ao,aO,xm⟩;simp only[go_sem,go_sem_proc,gY,ba] at O hm;obtain⟨I,af⟩:=O;rcases dA (u=0) with rfl|Eg
  ·rw[show (0:Int).natAbs=0 from rfl,sF,fC] at aa;rw[aa] at pV vT;simp only[go_sem,go_sem_proc,gY,ao,I,af,aO,hm,xm,pV,vT,lE gX,lf,db,al,beq_self_eq_true];repeat' (first|refine aw ?_ ?_|fail)<;>intro h<;>simp only[h,go_sem,go_sem_proc,gY,ao,I,af,aO,hm,xm,pV,vT,lE gX,lf,db,al,beq_self_eq_true]
  ·have z3:(D l)<=60:=by
    have:=congrArg D aa;rw[fH] at this;omega
   have yA:(u==0)=false:=by simpa using Eg
   have dC:=λd:Int=>l3 gX tR 144022 g 8 l d (cs:=[.J (.int .i64 d)]) rfl (by omega) (by omega);have aC:=ahk u;have aD:=ahl u;have b9:u.tmod 1048576<=0:=by have:=ahm (a:=-u) 1048576 (by omega);rw[Int.neg_tmod] at this;omega
   have dg:u.tdiv 1048576<=0/\u<=u.tdiv 1048576:=by
    have:=ahn (a:=-u) (b:=1048576) (by omega) (by omega);rw[Int.neg_tdiv] at this;omega
   have n5:IntKind.i64.wrap (u.tdiv 1048576)=u.tdiv 1048576:=wrap64 _ (by omega) (by omega);have fz:IntKind.i64.wrap (0-u.tmod 1048576) = -(u.tmod 1048576):=by rw[eS _];omega
   have vO:=vv (n:=u.natAbs) (by omega)
   have iI:∀d:Int,d=((u.natAbs%1048576:Nat):Int)->∃bk:Int×Nat×List Int,bk.1.natAbs<u.natAbs/\bk.1<=0/\n<=bk.1/\aM n.natAbs=bk.2.2++aM bk.1.natAbs/\R.J (.int .i64 (u.tdiv 1048576))=R.J (.int .i64 bk.1)/\R.ref 144022 (g+1) 1 0 (D l+1)=R.ref 144022 bk.2.1 1 0 bk.2.2.length/\some (g+1,bc ae (l++[d]))=some (bk.2.1,bc ae bk.2.2):=by
    intro d Bb;refine⟨(u.tdiv 1048576,g+1,l++[d]),by dsimp only;omega,by dsimp only;omega,by dsimp only;omega,?_,rfl,by simp,rfl⟩
    dsimp only;rw[aa,vO,Bb,aD,gM]
    rfl
   by_cases aX:u.tmod 1048576<0
   ·simp only[go_sem,go_sem_proc,gY,ao,I,af,aO,hm,xm,yA,dC,n5,fz,aX,decide_true,al,ba];repeat' (first|refine aw ?_ ?_|fail)<;>intro h<;>simp only[h,go_sem,go_sem_proc,gY,ao,I,af,aO,hm,xm,yA,dC,n5,fz,aX,decide_true,al,ba]
    exact iI _ (by omega)
   ·simp only[go_sem,go_sem_proc,gY,ao,I,af,aO,hm,xm,yA,dC,n5,fz,aX,decide_false,al,ba];repeat' (first|refine aw ?_ ?_|fail)<;>intro h<;>simp only[h,go_sem,go_sem_proc,gY,ao,I,af,aO,hm,xm,yA,dC,n5,fz,aX,decide_false,al,ba]
    exact iI _ (by omega)
 ·have pV:=X 1 (j3 (by omega)).symm;simp only[go_sem,go_sem_proc,gY,bG,h3,decide_false];refine dn [2,3] [144002] (λ((u,g,l):Int×Nat×List Int) tm mem=>0<=u/\u<=n/\aM n.natAbs=l++aM u.natAbs/\tm 0=.J (.int .i64 u)/\tm 4=.ref 144022 g 1 0 (D l)/\mem 144022=some (g,bc ae l)) (λ(u,_)=>u.natAbs) (n,0,[]) (by refine⟨by omega,by omega,rfl,rfl,rfl,rfl⟩) ?_;intro vs ms aV aS;simp only[go_sem,go_sem_proc,gY,h3,decide_false] at aV aS;subst aV aS;rintro⟨u,g,l⟩ tm mem O hm ⟨hu,auM,aa,ao,aO,xm⟩;simp only[go_sem,go_sem_proc,gY,ba] at O hm;obtain⟨I,af⟩:=O;rcases dA (u=0) with rfl|Eg
  ·rw[show (0:Int).natAbs=0 from rfl,sF,fC] at aa;rw[aa] at pV vT;simp only[go_sem,go_sem_proc,gY,ao,I,af,aO,hm,xm,pV,vT,lE gX,lf,db,al,beq_self_eq_true];repeat' (first|refine aw ?_ ?_|fail)<;>intro h<;>simp only[h,go_sem,go_sem_proc,gY,ao,I,af,aO,hm,xm,pV,vT,lE gX,lf,db,al,beq_self_eq_true]
  ·have z3:(D l)<=60:=by
    have:=congrArg D aa;rw[fH] at this;omega
   have yA:(u==0)=false:=by simpa using Eg
   have dC:=λd:Int=>l3 gX tR 144022 g 8 l d (cs:=[.J (.int .i64 d)]) rfl (by omega) (by omega);have aC:=ahk u;have aD:=ahl u;have b9:=ahm (a:=u) 1048576 (by omega);have dg:=ahn (a:=u) (b:=1048576) (by omega) (by omega);have n5:IntKind.i64.wrap (u.tdiv 1048576)=u.tdiv 1048576:=wrap64 _ (by omega) (by omega);have vO:=vv (n:=u.natAbs) (by omega);have aX:decide (u.tmod 1048576<0)=false:=c9;simp only[go_sem,go_sem_proc,gY,ao,I,af,aO,hm,xm,yA,dC,n5,aX,al,ba];repeat' (first|refine aw ?_ ?_|fail)<;>intro h<;>simp only[h,go_sem,go_sem_proc,gY,ao,I,af,aO,hm,xm,yA,dC,n5,aX,al,ba]
   refine⟨(u.tdiv 1048576,g+1,l++[u.tmod 1048576]),by dsimp only;omega,by dsimp only;omega,by dsimp only;omega,?_,rfl,by simp,by first|rfl|simp[go_sem]⟩
   dsimp only;rw[aa,vO,aD,gM,show u.tmod 1048576=((u.natAbs%1048576:Nat):Int) by omega]
   rfl
def xn (a b:Raw):Bool:=decide (a=b)
def Yy:=ck vS λ(s,l,s2,ak)=>cR (D l<=1000000/\D ak<=1000000) (.same (fR (l8 (s,l) (s2,ak))))
@[go_sem] theorem aLp (s:Int)(l:List Int)(s2:Int)(ak:List Int)(H:(D l)<=1000000/\D ak<=1000000):Yy [.agg [.int .i64 s,.Y (l.map ae)],.agg [.int .i64 s2,.Y (ak.map ae)]]=some (.same (fR (l8 (s,l) (s2,ak)))):=(cx yD (s,l,s2,ak)).trans (cW H _)
theorem auN (T:bd)(j7:T vA=aW Hz)(od:T KP=aW Qk)(gY:T vB=aW Hy)(s:Int)(l:List Int)(s2:Int)(ak:List Int)(H:(D l)<=1000000/\D ak<=1000000):WP T Yb (.same (fR (l8 (s,l) (s2,ak)))) [.J (.agg [.int .i64 s,.Y (l.map ae)]),.J (.agg [.int .i64 s2,.Y (ak.map ae)])]:=by
 refine cy ?_;simp only[Yb];obtain⟨cb,cB⟩:=H
 by_cases ab:dD (s,l)=true
 ·by_cases bC:dD (s2,ak)=true
  ·obtain⟨x,Q,e⟩:=(j2 _).1 ab;obtain⟨y,av,aD⟩:=(j2 _).1 bC
   have hm:l8 (s,l) (s2,ak)=(bQ (jr x.natAbs y.natAbs:Nat),0):=by
    rw[e,aD];unfold l8
    rw[ld Q,ld av,fQ,fQ]
    rfl
   rw[hm];clear hm
   cases e
   cases aD;have n9:=rG Q;have k9:=rG av;have a7:=Lr Q av;generalize ny:x.natAbs=dd at *;generalize z6:y.natAbs=gi at *;have WK:(aM dd).length<=1000000:=by omega
   simp only[go_sem,go_sem_proc,j7,od,gY,ab,bC,ny,z6,cb,cB,WK,ae,al];refine dn [4] [164004] (λ((a,b):Nat×Nat) tm mem=>a<ee/\b<ee/\jr dd gi=jr a b/\tm 6=.J (.Y ((aM a).map ae))/\tm 7=.J (.Y ((aM b).map ae))) (λ(_,b)=>b) (dd,gi) (by refine⟨Q,av,rfl,rfl,rfl⟩) ?_;intro vs ms aV aS;simp only[go_sem,go_sem_proc,j7,od,gY,ny,z6] at aV aS;subst aV aS;rintro⟨a,b⟩ tm mem O hm ⟨aP,ah,xb,bK,bP⟩;simp only[go_sem,go_sem_proc,j7,od,gY,ba] at O hm;have aO:=O;have iX:(aM a).length<=60:=g3.2 aP;have kL:(aM b).length<=60:=g3.2 ah;rcases k4 b with ao|h3
   ·subst ao;have aX:aM 0=[]:=rfl;have WL:(aM a).length<=1000000:=by omega
    rw[ags] at xb;have X:kp 1 (aM a)=bQ ((a:Nat):Int):=pQ (by simp) λaL=>(j3 (by omega)).symm;rw[xb];refine a0 ?_;repeat' (intro h<;>simp only[h,go_sem,go_sem_proc,j7,od,gY,aO,bK,bP,hm,aX,WL,X,db,fR,nA,cV,lD,lF,l6,show ¬ ((0:Int)>0) by omega,decide_false]<;>try refine aw ?_ ?_)
   ·have bG:decide (((aM b).length:Int)>0)=true:=by
     have:aM b≠[]:=by rw[Ne,zJ];omega
     have:=PM.2 this;exact di
    have hdiv:=ahh a b ⟨by omega,by omega,h3⟩
    simp only[b5] at hdiv;refine a0 ?_;repeat' (intro h<;>simp only[h,go_sem,go_sem_proc,j7,od,gY,aO,bK,bP,hm,bG,hdiv,al]<;>try refine aw ?_ ?_)
    exact⟨(b,a%b),qI _ h3,ah,vL (Nat.mod_le _ _) aP,by dsimp only;rw[xb,PN a b,agt b a,PN],rfl,rfl⟩
  ·have bC:dD (s2,ak)=false:=by simpa using bC
   have hm:l8 (s,l) (s2,ak)=((0,[]),1):=by unfold l8;rw[bC,h6];rfl
   rw[hm];refine a0 ?_;repeat' (intro h<;>simp only[h,go_sem,go_sem_proc,j7,od,gY,ab,bC,cb,cB,db,fR,cV]<;>try refine aw ?_ ?_)
 ·have ab:dD (s,l)=false:=by simpa using ab
  have hm:l8 (s,l) (s2,ak)=((0,[]),1):=by unfold l8;rw[ab,fS];rfl
  rw[hm];refine a0 ?_;repeat' (intro h<;>simp only[h,go_sem,go_sem_proc,j7,od,gY,ab,cb,cB,db,fR,cV]<;>try refine aw ?_ ?_)

def Yz:=ck vS λ(s,l,s2,ak)=>cR (D l<=1000000/\D ak<=1000000) (.same (hl (kO (s,l) (s2,ak))))
@[go_sem] theorem aLq (s:Int)(l:List Int)(s2:Int)(ak:List Int)(H:(D l)<=1000000/\D ak<=1000000):Yz [.agg [.int .i64 s,.Y (l.map ae)],.agg [.int .i64 s2,.Y (ak.map ae)]]=some (.same (hl (kO (s,l) (s2,ak)))):=(cx yD (s,l,s2,ak)).trans (cW H _)
theorem auO (T:bd)(j7:T vA=aW Hz)(od:T KP=aW Qk)(vZ:T UM=aW Yo)(lj:T KQ=aW Qi)(gY:T vB=aW Hy)(s:Int)(l:List Int)(s2:Int)(ak:List Int)(H:(D l)<=1000000/\D ak<=1000000):WP T Yc (.same (hl (kO (s,l) (s2,ak)))) [.J (.agg [.int .i64 s,.Y (l.map ae)]),.J (.agg [.int .i64 s2,.Y (ak.map ae)])]:=by
 refine cy ?_;simp only[Yc];obtain⟨cb,cB⟩:=H
 by_cases ab:dD (s,l)=true
 ·by_cases bC:dD (s2,ak)=true
  ·obtain⟨x,Q,e⟩:=(j2 _).1 ab;obtain⟨y,av,aD⟩:=(j2 _).1 bC
   by_cases iY:y=0
   ·have hm:kO (s,l) (s2,ak)=((0,[]),(0,[]),15):=by
     rw[e,aD];unfold kO
     rw[ld Q,ld av,fQ,fQ,ad (by rfl),ad iY]
    rw[hm]
    cases e
    cases aD;have ao:((y.sign:Int)==0)=true:=by rw[iY];rfl
    simp only[go_sem,go_sem_proc,j7,od,vZ,lj,gY,ab,bC,cb,cB,ao,db,hl,cV];repeat' (first|refine aw ?_ ?_|fail)<;>intro h<;>simp only[h,go_sem,go_sem_proc,j7,od,vZ,lj,gY,ab,bC,cb,cB,ao,db,hl,cV]
   ·have hm:kO (s,l) (s2,ak)=(bQ (x.fdiv y),bQ (x.fmod y),0):=by
     rw[e,aD];exact Eb Q av iY
    rw[hm];clear hm
    cases e
    cases aD;have n9:=rG Q;have k9:=rG av;have ug:(y.sign==0)=false:=by rw[beq_eq_false_iff_ne,Ne,WO];exact iY
    have Ec:0<y.natAbs:=by omega
    have F:=rH x;have I:=rH y;have aF:x.sign*y.sign=(x*y).sign:=(sP x y).symm;have af:=rH (x*y);have hw:IntKind.i64.wrap (x.sign*y.sign)=x.sign*y.sign:=by rw[aF];exact wrap64 _ (by omega) (by omega)
    have hdiv:=ahh x.natAbs y.natAbs ⟨by omega,by omega,Ec⟩
    simp only[b5] at hdiv;have aT:=He (y:=y) Q iY;have yF:=agx (x:=x) av iY;have WQ:x.natAbs/y.natAbs<ee:=vL (WN _ _) Q;have ate:(aM (x.natAbs/y.natAbs)).length<=60:=g3.2 WQ;have Ed:x.natAbs%y.natAbs<ee:=agy (qI _ Ec) av;have atf:(aM (x.natAbs%y.natAbs)).length<=60:=g3.2 Ed
    by_cases uh:x.sign*y.sign<0/\x.natAbs%y.natAbs≠0
    ·obtain⟨eq,ui⟩:=PO uh.1 uh.2
     have bG:(((aM (x.natAbs%y.natAbs)).length:Int)==0)=false:=by
      have:aM (x.natAbs%y.natAbs)≠[]:=by rw[Ne,zJ];exact uh.2
      have:=PM.2 this;rw[beq_eq_false_iff_ne];omega
     have kM:decide (x.sign*y.sign>=0)=false:=mq (by have:=uh.1;omega);have jZ:aM 1=[1]:=by simp[aM,yn]
     have atg:(aM 1).length=1:=by rw[jZ];rfl
     have iL:=auv (x.natAbs/y.natAbs) 1 ⟨by omega,by omega⟩
     simp only[b5,jZ,eG,cV,ae] at iL;have j0:=ahb y.natAbs (x.natAbs%y.natAbs) ⟨by omega,by omega,PT (qI _ Ec)⟩
     simp only[b5] at j0
     have iX:(aM (x.natAbs/y.natAbs+1)).length<=1000000:=by
      have:(x.natAbs/y.natAbs+1)<ee:=by rw[eq] at aT;rw[PU,mL] at aT;exact aT
      have:=(g3 (k:=60)).2 this;omega
     have kL:(aM (y.natAbs-x.natAbs%y.natAbs)).length<=1000000:=by have:=PH y.natAbs (x.natAbs%y.natAbs);omega
     have hx:kp (-1) (aM (x.natAbs/y.natAbs+1))=bQ (x.fdiv y):=pQ (by rw[eq,PU,mL]) λ_=>by rw[eq,D6,j3 (show (0:Int)<((x.natAbs/y.natAbs+1:Nat):Int) by exact Ee.2 (agz _))]
     have hy:kp y.sign (aM (y.natAbs-x.natAbs%y.natAbs))=bQ (x.fmod y):=by
      refine pQ ?_ λaL=>?_
      ·rw[ui];rcases mK y with ⟨e',af⟩|⟨e',af⟩|⟨e',af⟩<;>rw[e']<;>omega
      ·rw[ui,sP,BX,j3 (show (0:Int)<((y.natAbs-x.natAbs%y.natAbs:Nat):Int) by omega),vI]
     simp only[go_sem,go_sem_proc,j7,od,vZ,lj,gY,ab,bC,cb,cB,ug,hw,hdiv,bG,kM,iL,j0,iX,kL,hx,hy,ae,al,db,hl,nA];repeat' (first|refine aw ?_ ?_|fail)<;>intro h<;>simp only[h,go_sem,go_sem_proc,j7,od,vZ,lj,gY,ab,bC,cb,cB,ug,hw,hdiv,bG,kM,iL,j0,iX,kL,hx,hy,ae,al,db,hl,nA]
    ·obtain⟨eq,ui⟩:=PR iY uh
     have WR:(decide (x.sign*y.sign>=0)=false/\(((aM (x.natAbs%y.natAbs)).length:Int)==0)=true)\/decide (x.sign*y.sign>=0)=true:=by
      by_cases aL:x.sign*y.sign<0
      ·left
       have:x.natAbs%y.natAbs=0:=agA.1 λh=>uh ⟨aL,h⟩;rw[this];exact⟨c9,rfl⟩
      ·right;exact di
     have iX:(aM (x.natAbs/y.natAbs)).length<=1000000:=by omega
     have kL:(aM (x.natAbs%y.natAbs)).length<=1000000:=by omega
     have hx:kp (x.sign*y.sign) (aM (x.natAbs/y.natAbs))=bQ (x.fdiv y):=by
      refine pQ ?_ λaL=>?_
      ·rw[eq]
       have Ef:∀aN:Nat,(x=0->aN=0)->(x.sign*y.sign*(aN:Int)).natAbs=aN:=by
        intro aN ao;rcases mK x with ⟨e,F⟩|⟨e,F⟩|⟨e,F⟩<;>rcases mK y with ⟨e',af⟩|⟨e',af⟩|⟨e',af⟩<;>rw[e,e']<;>first|omega|(rw[ao F];rfl)
       exact Ef _ λao=>by rw[ao];exact WS _
      ·rw[eq,aF,sP,sP,sP,BX,BX,j3 (show (0:Int)<((x.natAbs/y.natAbs:Nat):Int) from Ee.2 (PV aL)),vI]
     have hy:kp x.sign (aM (x.natAbs%y.natAbs))=bQ (x.fmod y):=by
      refine pQ ?_ λaL=>?_
      ·rw[ui]
       have Ef:∀aN:Nat,(x=0->aN=0)->(x.sign*(aN:Int)).natAbs=aN:=by
        intro aN ao;rcases mK x with ⟨e,F⟩|⟨e,F⟩|⟨e,F⟩<;>rw[e]<;>first|omega|(rw[ao F];rfl)
       exact Ef _ λao=>by rw[ao];exact WM _
      ·rw[ui,sP,BX,j3 (show (0:Int)<((x.natAbs%y.natAbs:Nat):Int) from Ee.2 (PV aL)),vI]
     rcases WR with ⟨xc,Lt⟩|xc
     ·simp only[go_sem,go_sem_proc,j7,od,vZ,lj,gY,ab,bC,cb,cB,ug,hw,hdiv,xc,Lt,iX,kL,hx,hy,ae,al,db,hl,nA];repeat' (first|refine aw ?_ ?_|fail)<;>intro h<;>simp only[h,go_sem,go_sem_proc,j7,od,vZ,lj,gY,ab,bC,cb,cB,ug,hw,hdiv,xc,Lt,iX,kL,hx,hy,ae,al,db,hl,nA]
     ·simp only[go_sem,go_sem_proc,j7,od,vZ,lj,gY,ab,bC,cb,cB,ug,hw,hdiv,xc,iX,kL,hx,hy,ae,al,db,hl,nA];repeat' (first|refine aw ?_ ?_|fail)<;>intro h<;>simp only[h,go_sem,go_sem_proc,j7,od,vZ,lj,gY,ab,bC,cb,cB,ug,hw,hdiv,xc,iX,kL,hx,hy,ae,al,db,hl,nA]
  ·have bC:dD (s2,ak)=false:=by simpa using bC
   have hm:kO (s,l) (s2,ak)=((0,[]),(0,[]),1):=by unfold kO;rw[bC,h6];rfl
   rw[hm];simp only[go_sem,go_sem_proc,j7,od,vZ,lj,gY,ab,bC,cb,cB,db,hl,cV];repeat' (first|refine aw ?_ ?_|fail)<;>intro h<;>simp only[h,go_sem,go_sem_proc,j7,od,vZ,lj,gY,ab,bC,cb,cB,db,hl,cV]
 ·have ab:dD (s,l)=false:=by simpa using ab
  have hm:kO (s,l) (s2,ak)=((0,[]),(0,[]),1):=by unfold kO;rw[ab,fS];rfl
  rw[hm];simp only[go_sem,go_sem_proc,j7,od,vZ,lj,gY,ab,cb,cB,db,hl,cV];repeat' (first|refine aw ?_ ?_|fail)<;>intro h<;>simp only[h,go_sem,go_sem_proc,j7,od,vZ,lj,gY,ab,cb,cB,db,hl,cV]
def YA:bN:=ca 17 2 [.t 4] (U [dO 2 120002 0,dO 3 120003 1,cP 4 false] (U [bj 5 0 2,bz 6 2 5,bj 7 0 3,bz 8 2 7,(cA 9 OK 6 8),G 10 9,⟨some 11,some (10,true),.ei 2 (.t 2)⟩,⟨some 12,some (10,true),.load 2 true (.t 11)⟩,⟨some 13,some (10,true),.ei 2 (.t 3)⟩,⟨some 14,some (10,true),.load 2 true (.t 13)⟩,⟨some 15,some (10,true),.call OK [(.t 12),(.t 14)]⟩,fx 16 10 15,G 4 16] .ret))
def YB:bN:=ca 13 2 [.cell 4 4 true,.t 5] (U [(aB 4 (.alloc 124004 [(aj 0),.nil,(aj 0),.nil])),bp 5 0] (U [G 6 0,(dQ 7 OL 6),G 8 1,(dQ 9 OL 8),(cA 10 UA 7 9),bB 11 0 10,bB 12 1 10,bn 4 4 11,G 5 12] .ret))
def YC:bN:=ca 38 2 [.t 4] (U [dO 2 142002 0,dO 3 142003 1,cP 4 false] (.seq (U [bj 6 0 2,aY 7 1 6,bj 8 0 3,aY 9 1 8,bq 10 .neq 7 9,G 11 10,⟨some 12,some (11,false),.ei 1 (.t 2)⟩,⟨some 13,some (11,false),.load 1 false (.t 12)⟩,⟨some 14,some (11,false),.len (.t 13)⟩,⟨some 15,some (11,false),.ei 1 (.t 3)⟩,⟨some 16,some (11,false),.load 1 false (.t 15)⟩,⟨some 17,some (11,false),.len (.t 16)⟩,⟨some 18,some (11,false),.bin .neq (.t 14) (.t 17)⟩,ed 19 11 18] (a2 19 (U [cP 4 false] .ret) .skip)) (.seq (U [bp 5 0] (.block 0 (.loop  (.seq (U [G 20 5,bj 21 1 2,aY 22 1 21,ct 23 22,bq 24 .lss 20 23] (a2 24 .skip (.exit 0))) (.seq (.block 1 (fM [bj 27 1 2,aY 28 1 27,G 29 5,bW 30 1 28 29,aY 31 1 30,bj 32 1 3,aY 33 1 32,G 34 5,bW 35 1 33 34,aY 36 1 35,bq 37 .neq 31 36] OW (a2 37 (U [cP 4 false] .ret) .skip))) (.ops [G 25 5,a9 26 .add 25 1,G 5 26])))))) (U [cP 4 true] .ret))))
def YD:bN:=ca 57 2 [.cell 4 4 true,.t 5] (U [dO 2 143002 0,dO 3 143003 1,(aB 4 (.alloc 143004 [(aj 0),.nil,(aj 0),.nil])),bp 5 0] (.seq (U [bz 14 2 2,(dQ 15 vA 14),fy 16 15,G 17 16,⟨some 18,some (17,false),.load 2 true (.t 3)⟩,⟨some 19,some (17,false),.call vA [(.t 18)]⟩,⟨some 20,some (17,false),.un .not (.t 19)⟩,ed 21 17 20] (a2 21 (U [(aB 22 (.build [(aj 0),.nil,(aj 0),.nil] [])),bn 4 4 22,bp 5 1] .ret) .skip)) (.seq (U [bj 23 0 3,aY 24 1 23,a9 25 .eql 24 0] (a2 25 (U [(aB 26 (.build [(aj 0),.nil,(aj 0),.nil] [])),bn 4 4 26,bp 5 15] .ret) .skip)) (.seq (U [bj 27 0 3,aY 28 1 27,a9 29 .lss 28 0] (a2 29 (U [bz 30 2 2,(dQ 31 OO 30),bn 2 2 31] (.ops [bz 32 2 3,(dQ 33 OO 32),bn 2 3 33])) .skip)) (U [bz 35 2 2,bz 36 2 3,(cA 37 UI 35 36),G 34 37,bB 38 0 34,bB 39 1 34,(aB 6 (.alloc 143006 [(aj 0),.nil])),bn 2 6 38,G 7 39] (U [bz 41 2 2,bz 42 2 6,(cA 43 OP 41 42),G 40 43,bB 44 0 40,bB 45 1 40,bB 46 2 40,(aB 8 (.alloc 143008 [(aj 0),.nil])),(aB 9 (.alloc 143009 [(aj 0),.nil])),bn 2 8 44,bn 2 9 45,G 10 46] (U [bz 48 2 3,bz 49 2 6,(cA 50 OP 48 49),G 47 50,bB 51 0 47,bB 52 1 47,bB 53 2 47,(aB 11 (.alloc 143011 [(aj 0),.nil])),(aB 12 (.alloc 143012 [(aj 0),.nil])),bn 2 11 51,bn 2 12 52,G 13 53] (U [bz 54 2 8,bz 55 2 11,(aB 56 (.build [(aj 0),.nil,(aj 0),.nil] [(0,2,(.t 54)),(2,2,(.t 55))])),bn 4 4 56,bp 5 0] .ret))))))))
end Go.Mini
