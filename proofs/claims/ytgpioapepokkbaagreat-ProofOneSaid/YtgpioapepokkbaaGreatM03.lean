/- A part of the proof. -/
import Derived.Test.YtgpioapepokkbaaGreatM02
set_option linter.unusedSimpArgs false
set_option linter.unusedVariables false
set_option maxRecDepth 100000
set_option maxHeartbeats 4000000
noncomputable section
open Bool renaming and_eq_true->ec,and_false->iQ,eq_iff_iff->w2,false_and->fz,false_eq_true->kO,not_eq_false'->agr,not_eq_true'->pj,true_and->gT
open Decidable renaming em->dA,not_not->afG
open Int renaming add_comm->yi,add_zero->wS,cast_ofNat_Int->lU,fdiv_eq_ediv_of_nonneg->afL,le_of_lt->Pl,lt_trichotomy->yk,mul_add->ij,mul_assoc->ik,mul_comm->nh,mul_fdiv_add_fmod->Pw,mul_ne_zero->z7,mul_neg->KY,mul_nonneg->yh,mul_one->vh,mul_zero->tO,natAbs_mul->qG,natAbs_natCast->mC,natAbs_neg->Pj,natCast_add->afC,natCast_pos->D0,natCast_zero->lr,neg_mul->GN,ofNat_sub->afB,one_mul->nY,pow_pos->GF,pow_succ->ng,reducePow->afK,sign_eq_neg_one_of_neg->rD,sign_eq_one_of_pos->jS,sign_eq_zero_iff_zero->V3,sign_mul->sG,sign_neg->DV,sign_sign->B2,sign_zero->yz,sub_zero->KJ,tdiv_eq_ediv_of_nonneg->Gx,tdiv_nonneg->agv,tmod_eq_emod_of_nonneg->KK,tmod_nonneg->agu,toNat_natCast->lu,zero_mul->zT,zero_sub->afZ
open List renaming all_cons->FX,append_assoc->gU,append_nil->fJ,drop_eq_getElem_cons->ia,drop_set_of_lt->ts,drop_zero->lQ,findIdx?_eq_none_iff->af2,findIdx?_eq_some_iff_getElem->af1,flatten_nil->agd,getD_eq_getElem?_getD->en,getElem?_eq_getElem->bx,getElem?_eq_none->ke,getElem?_map->bq,getElem_mem->nc,length->D,length_append->fE,length_cons->hV,length_map->ak,length_nil->lq,length_pos_iff->Pa,length_singleton->Af,length_take->fR,map_cons->eE,map_nil->c1,map_take->Ca,mem_replicate->Gu,mem_singleton->tP,replicate->dC,take_length->k3,take_of_length_le->dt
open List.cons renaming injEq->bb
open Nat renaming div_add_mod->Pf,div_div_eq_div_mul->agh,div_le_self->V1,eq_zero_or_pos->kV,gcd->jk,gcd_comm->Pb,gcd_rec->afz,gcd_zero_right->afy,le_of_lt->DZ,le_refl->bW,lt_of_div_lt_div->agi,lt_of_le_of_lt->vk,lt_of_lt_of_le->CY,lt_or_ge->h9,lt_trans->afE,max_eq_right->XJ,min_eq_left->oA,mod_lt->qH,mul_comm->rq,mul_le_mul_right->uV,mul_lt_mul_of_pos_left->ago,mul_one->cK,pos_of_ne_zero->Pk,pow_succ->wD,reduceEqDiff->eb,reduceMul->afJ,succ_pos->afF,zero_div->V6,zero_le->fg,zero_mod->V0
open Option renaming bind_none->kH,bind_some->kB
open Option.some renaming injEq->cj
open Prod renaming ext->ed,fst->B3
open Rat renaming divInt->lX,divInt_mul_divInt->afQ,neg_divInt_neg->afM,num_divInt_den->D6,sub_eq_add_neg->K7
namespace Go.Mini
open Go
theorem mB (x:Int):(x.sign=1/\0<x)\/(x.sign=0/\x=0)\/(x.sign = -1/\x<0):=by
 rcases yk x 0 with h|h|h
 ·exact .inr (.inr ⟨rD h,h⟩)
 ·exact .inr (.inl ⟨by rw[h];rfl,h⟩)
 ·exact .inl ⟨jS h,h⟩
def wW (a b:Raw):Int:=if (dE a&&dE b)=true then hF (im a) (im b) else 0
theorem afx {x y:Int}(O:x.natAbs<ee)(ar:y.natAbs<ee):wW (bO x) (bO y)=hF x y:=by
 unfold wW;rw[k2 O,k2 ar,fS,fS]
 rfl
theorem KV {x y:Int}(h:x<y):hF x y = -1:=by unfold hF;rw[ad (by simpa using h)]
theorem KW {x y:Int}(h:y<x):hF x y=1:=by unfold hF;rw[ae (by simp;omega),ad (by simpa using h)]
theorem O8 (x:Int):hF x x=0:=by unfold hF;simp
def VX:=cp vr λ(s,l,s2,ai)=>cV (D l<=1000000/\D ai<=1000000) (.same (.int .i64 (wW (s,l) (s2,ai))))
@[go_sem] theorem aJY (s:Int)(l:List Int)(s2:Int)(ai:List Int)(G:(D l)<=1000000/\D ai<=1000000):VX [.agg [.int .i64 s,.Y (l.map ag)],.agg [.int .i64 s2,.Y (ai.map ag)]]=some (.same (.int .i64 (wW (s,l) (s2,ai)))):=(cA yp (s,l,s2,ai)).trans (cY G _)
theorem asn (T:bh)(dI:T kX=aV wK)(nV:T Gd=aV OB)(gh:T Dz=aV KH)(s:Int)(l:List Int)(s2:Int)(ai:List Int)(G:(D l)<=1000000/\D ai<=1000000):WP T UK (.same (.int .i64 (wW (s,l) (s2,ai)))) [.J (.agg [.int .i64 s,.Y (l.map ag)]),.J (.agg [.int .i64 s2,.Y (ai.map ag)])]:=by
 refine cB ?_;simp only[UK];obtain⟨ck,cq⟩:=G
 by_cases ab:dE (s,l)=true
 ·by_cases bG:dE (s2,ai)=true
  ·obtain⟨x,O,e⟩:=(jR _).1 ab;obtain⟨y,ar,aC⟩:=(jR _).1 bG;have hm:wW (s,l) (s2,ai)=hF x y:=by rw[e,aC];exact afx O ar
   rw[hm];clear hm
   cases e
   cases aC;have n0:=rE O;have kZ:=rE ar;have gR:=Vh x.natAbs y.natAbs ⟨by omega,by omega⟩
   simp only[b1] at gR
   by_cases U:x.sign=y.sign
   ·have B1:(x.sign==y.sign)=true:=by simpa using U
    have u2:IntKind.i64.wrap (y.sign*hF x.natAbs y.natAbs)=hF x y:=by
     rcases mB x with ⟨e,F⟩|⟨e,F⟩|⟨e,F⟩<;>rcases mB y with ⟨e',I⟩|⟨e',I⟩|⟨e',I⟩<;>rw[e,e'] at U<;>first|omega|skip
     ·rw[e',nY,show (x.natAbs:Int)=x by omega,show (y.natAbs:Int)=y by omega]
      rcases yk x y with h|h|h
      ·rw[KV h];rfl
      ·rw[h,O8];rfl
      ·rw[KW h];rfl
     ·rw[e',F,I];rfl
     ·rw[e'];rcases yk x y with h|h|h
      ·rw[KV h,KW (by omega)];rfl
      ·rw[h,O8,O8];rfl
      ·rw[KW h,KV (by omega)];rfl
    rw[<-U] at u2;simp only[go_sem,go_sem_proc,dI,nV,gh,ab,bG,ck,cq,B1,gR,u2];repeat' (first|refine aw ?_ ?_|fail)<;>intro h<;>simp only[h,go_sem,go_sem_proc,dI,nV,gh,ab,bG,ck,cq,B1,gR,u2]
   ·have B1:(x.sign==y.sign)=false:=by simpa using U
    have u2:hF x.sign y.sign=hF x y:=by
     rcases mB x with ⟨e,F⟩|⟨e,F⟩|⟨e,F⟩<;>rcases mB y with ⟨e',I⟩|⟨e',I⟩|⟨e',I⟩<;>rw[e,e'] at U ⊢<;>first|omega|(rw[KV (show x<y by omega)];rfl)|(rw[KW (show y<x by omega)];rfl)
    simp only[go_sem,go_sem_proc,dI,nV,gh,ab,bG,ck,cq,B1,u2];repeat' (first|refine aw ?_ ?_|fail)<;>intro h<;>simp only[h,go_sem,go_sem_proc,dI,nV,gh,ab,bG,ck,cq,B1,u2]
  ·have bG:dE (s2,ai)=false:=by simpa using bG
   have hm:wW (s,l) (s2,ai)=0:=by unfold wW;rw[bG,iQ];rfl
   rw[hm];simp only[go_sem,go_sem_proc,dI,nV,gh,ab,bG,ck,cq];repeat' (first|refine aw ?_ ?_|fail)<;>intro h<;>simp only[h,go_sem,go_sem_proc,dI,nV,gh,ab,bG,ck,cq]
 ·have ab:dE (s,l)=false:=by simpa using ab
  have hm:wW (s,l) (s2,ai)=0:=by unfold wW;rw[ab,fz];rfl
  rw[hm];simp only[go_sem,go_sem_proc,dI,nV,gh,ab,ck,cq];repeat' (first|refine aw ?_ ?_|fail)<;>intro h<;>simp only[h,go_sem,go_sem_proc,dI,nV,gh,ab,ck,cq]
def lW (a b:Raw):Raw×Int:=if (dE a&&dE b)=true then (bO (jk (im a).natAbs (im b).natAbs:Nat),0) else ((0,[]),1)
theorem KX {x y:Int}(O:x.natAbs<ee)(ar:y.natAbs<ee):jk x.natAbs y.natAbs<ee:=by
 rcases kV x.natAbs with h|h
 ·rw[h,Nat.gcd_zero_left];exact ar
 ·exact vk (Nat.gcd_le_left _ h) O
def O9:=cp vr λ(s,l,s2,ai)=>cV (D l<=1000000/\D ai<=1000000) (.same (fT (lW (s,l) (s2,ai))))
@[go_sem] theorem aJZ (s:Int)(l:List Int)(s2:Int)(ai:List Int)(G:(D l)<=1000000/\D ai<=1000000):O9 [.agg [.int .i64 s,.Y (l.map ag)],.agg [.int .i64 s2,.Y (ai.map ag)]]=some (.same (fT (lW (s,l) (s2,ai)))):=(cA yp (s,l,s2,ai)).trans (cY G _)
theorem aso (T:bh)(dI:T kX=aV wK)(fL:T va=aV BD)(n1:T Kj=aV OO)(fB:T o9=aV BF)(mZ:T u9=aV KT)(s:Int)(l:List Int)(s2:Int)(ai:List Int)(G:(D l)<=1000000/\D ai<=1000000):WP T UF (.same (fT (lW (s,l) (s2,ai)))) [.J (.agg [.int .i64 s,.Y (l.map ag)]),.J (.agg [.int .i64 s2,.Y (ai.map ag)])]:=by
 refine cB ?_;simp only[UF];obtain⟨ck,cq⟩:=G
 by_cases ab:dE (s,l)=true
 ·by_cases bG:dE (s2,ai)=true
  ·obtain⟨x,O,e⟩:=(jR _).1 ab;obtain⟨y,ar,aC⟩:=(jR _).1 bG
   have hm:lW (s,l) (s2,ai)=(bO (jk x.natAbs y.natAbs:Nat),0):=by
    rw[e,aC];unfold lW
    rw[k2 O,k2 ar,fS,fS]
    rfl
   rw[hm];clear hm
   cases e
   cases aC;have n0:=rE O;have kZ:=rE ar;have bc:=KX O ar;generalize nk:x.natAbs=dg at *;generalize zS:y.natAbs=gi at *;have VY:(aJ dg).length<=1000000:=by omega
   simp only[go_sem,go_sem_proc,dI,fL,n1,fB,mZ,ab,bG,nk,zS,ck,cq,VY,ag,ak];refine dv [4] [137004] (λ((a,b):Nat×Nat) tm mem=>a<ee/\b<ee/\jk dg gi=jk a b/\tm 6=.J (.Y ((aJ a).map ag))/\tm 7=.J (.Y ((aJ b).map ag))) (λ(_,b)=>b) (dg,gi) (by refine⟨O,ar,rfl,rfl,rfl⟩) ?_;intro vs ms aT aR;simp only[go_sem,go_sem_proc,dI,fL,n1,fB,mZ,nk,zS] at aT aR;subst aT aR;rintro⟨a,b⟩ tm mem Q hm ⟨aN,ah,wX,bI,bH⟩;simp only[go_sem,go_sem_proc,dI,fL,n1,fB,mZ,bb] at Q hm;have aM:=Q;have iR:(aJ a).length<=60:=gG.2 aN;have kD:(aJ b).length<=60:=gG.2 ah;rcases kV b with al|hZ
   ·subst al;have aS:aJ 0=[]:=rfl;have VZ:(aJ a).length<=1000000:=by omega
    rw[afy] at wX;have U:kh 1 (aJ a)=bO ((a:Nat):Int):=pQ (by simp) λaK=>(jS (by omega)).symm;have Q:sE ((a:Nat):Int)=(bO ((a:Nat):Int),0):=by unfold sE;rw[ad (by simpa using aN)]
    rw[wX];refine aX ?_;repeat' (intro h<;>simp only[h,go_sem,go_sem_proc,dI,fL,n1,fB,mZ,aM,bI,bH,hm,aS,VZ,U,Q,BT,db,fT,nn,c1,lq,lr,lU,show ¬ ((0:Int)>0) by omega,decide_false]<;>try refine aw ?_ ?_)
   ·have bC:decide (((aJ b).length:Int)>0)=true:=by
     have:aJ b≠[]:=by rw[Ne,zx];omega
     have:=Pa.2 this;exact dn
    have hdiv:=afg a b ⟨by omega,by omega,hZ⟩
    simp only[b1] at hdiv;refine aX ?_;repeat' (intro h<;>simp only[h,go_sem,go_sem_proc,dI,fL,n1,fB,mZ,aM,bI,bH,hm,bC,hdiv,ak]<;>try refine aw ?_ ?_)
    exact⟨(b,a%b),qH _ hZ,ah,vk (Nat.mod_le _ _) aN,by dsimp only;rw[wX,Pb a b,afz b a,Pb],rfl,rfl⟩
  ·have bG:dE (s2,ai)=false:=by simpa using bG
   have hm:lW (s,l) (s2,ai)=((0,[]),1):=by unfold lW;rw[bG,iQ];rfl
   rw[hm];have oL:=GL false 0 [];simp only[c1] at oL;refine aX ?_;repeat' (intro h<;>simp only[h,go_sem,go_sem_proc,dI,fL,n1,fB,mZ,ab,bG,ck,cq,oL,db,fT,c1]<;>try refine aw ?_ ?_)
 ·have ab:dE (s,l)=false:=by simpa using ab
  have hm:lW (s,l) (s2,ai)=((0,[]),1):=by unfold lW;rw[ab,fz];rfl
  rw[hm];have oL:=GL false 0 [];simp only[c1] at oL;refine aX ?_;repeat' (intro h<;>simp only[h,go_sem,go_sem_proc,dI,fL,n1,fB,mZ,ab,ck,cq,oL,db,fT,c1]<;>try refine aw ?_ ?_)
def kF (a b:Raw):Raw×Raw×Int :=
 if (dE a&&dE b)=true then
  if im b=0 then ((0,[]),(0,[]),15) else (bO ((im a).fdiv (im b)),bO ((im a).fmod (im b)),0)
 else ((0,[]),(0,[]),1)
def hh (x:Raw×Raw×Int):Data:=.cI [.agg (db x.1),.agg (db x.2.1),.int .i64 x.2.2]
theorem afA {x y q r:Int}(h:r+y*q=x)(ab:(0<=r/\r<y)\/(y<r/\r<=0)):x.fdiv y=q/\x.fmod y=r:=by
 rcases ab with ⟨F,I⟩|⟨F,I⟩
 ·exact (Int.fdiv_fmod_unique (by omega)).2 ⟨h,F,I⟩
 ·exact (Int.fdiv_fmod_unique' (by omega)).2 ⟨h,F,I⟩
theorem Pc {x y:Int}(h:x.sign*y.sign<0)(hm:x.natAbs%y.natAbs≠0):
  x.fdiv y = -((x.natAbs/y.natAbs+1:Nat):Int)/\x.fmod y=y.sign*((y.natAbs-x.natAbs%y.natAbs:Nat):Int):=by
 have I:=Pf x.natAbs y.natAbs;generalize fh:x.natAbs/y.natAbs=aL at *;generalize eS:x.natAbs%y.natAbs=cg at *
 have ar:0<y.natAbs:=by
  rcases kV y.natAbs with al|al
  ·rw[Int.natAbs_eq_zero.1 al] at h;simp at h
  ·exact al
 have ay:cg<y.natAbs:=by rw[<-eS];exact qH _ ar
 have sn:(y.natAbs:Int)*aL+cg=x.natAbs:=by exact_mod_cast I
 refine afA ?_ ?_
 ·rcases mB x with ⟨e,F⟩|⟨e,F⟩|⟨e,F⟩<;>rcases mB y with ⟨e',af⟩|⟨e',af⟩|⟨e',af⟩<;>rw[e,e'] at h<;>first|omega|rw[e']
  ·rw[afB (by omega),afC,KY,ij];have:(y.natAbs:Int) = -y:=by omega
   rw[this] at sn ⊢;rw[GN] at sn;omega
  ·rw[afB (by omega),afC,KY,ij];have:(y.natAbs:Int)=y:=by omega
   rw[this] at sn ⊢;omega
 ·rcases mB y with ⟨e',af⟩|⟨e',af⟩|⟨e',af⟩<;>rw[e']<;>omega
theorem Pg {x y:Int}(ar:y≠0)(h:¬ (x.sign*y.sign<0/\x.natAbs%y.natAbs≠0)):
  x.fdiv y=x.sign*y.sign*((x.natAbs/y.natAbs:Nat):Int)/\x.fmod y=x.sign*((x.natAbs%y.natAbs:Nat):Int):=by
 have I:=Pf x.natAbs y.natAbs;have ay:x.natAbs%y.natAbs<y.natAbs:=qH _ (by omega);generalize fh:x.natAbs/y.natAbs=aL at *;generalize eS:x.natAbs%y.natAbs=cg at *;have sn:(y.natAbs:Int)*aL+cg=x.natAbs:=by exact_mod_cast I
 refine afA ?_ ?_
 ·rcases mB x with ⟨e,F⟩|⟨e,F⟩|⟨e,F⟩<;>rcases mB y with ⟨e',af⟩|⟨e',af⟩|⟨e',af⟩<;>first|omega|(rw[e,e'])
  ·rw[show (y.natAbs:Int)=y by omega] at sn;simp only[nY];omega
  ·rw[show (y.natAbs:Int) = -y by omega,GN] at sn;simp only[nY,GN,KY];omega
  ·simp only[zT,tO];omega
  ·simp only[zT,tO];omega
  ·rw[show (y.natAbs:Int)=y by omega] at sn;simp only[nY,GN,KY,vh];omega
  ·rw[show (y.natAbs:Int) = -y by omega,GN] at sn;simp only[nY,GN,KY,Int.neg_neg];omega
 ·have arY:x.natAbs=0->cg=0:=by
   intro al;rw[<-eS,al,V0]
  rcases mB x with ⟨e,F⟩|⟨e,F⟩|⟨e,F⟩<;>rcases mB y with ⟨e',af⟩|⟨e',af⟩|⟨e',af⟩<;>rw[e,e'] at h<;>rw[e]<;>omega
theorem GO {x y:Int}(O:x.natAbs<ee)(iS:y≠0):(x.fdiv y).natAbs<ee:=by
 by_cases h:x.sign*y.sign<0/\x.natAbs%y.natAbs≠0
 ·have aF:=(Pc h.1 h.2).1;have I:=Pf x.natAbs y.natAbs
  have:x.natAbs/y.natAbs+1<=x.natAbs:=by
   have asp:2<=y.natAbs:=by
    rcases h9 y.natAbs 2 with al|al
    ·have:y.natAbs=1:=by omega
     rw[this,Nat.mod_one] at h;exact absurd rfl h.2
    ·exact al
   have af:2*(x.natAbs/y.natAbs)<=y.natAbs*(x.natAbs/y.natAbs):=uV _ asp;omega
  generalize x.natAbs/y.natAbs=aL at *;omega
 ·have aF:=(Pg iS h).1;have af:x.natAbs/y.natAbs<=x.natAbs:=V1 _ _
  have aM:(x.fdiv y).natAbs<=x.natAbs/y.natAbs:=by
   rw[aF,qG,qG,mC];have F:x.sign.natAbs<=1:=by have:=rF x;omega
   have I:y.sign.natAbs<=1:=by have:=rF y;omega
   have:=Nat.mul_le_mul F I;have:=uV (x.natAbs/y.natAbs) this;omega
  omega
theorem afD {x y:Int}(ar:y.natAbs<ee)(iS:y≠0):(x.fmod y).natAbs<ee:=by
 by_cases h:x.sign*y.sign<0/\x.natAbs%y.natAbs≠0
 ·have aF:=(Pc h.1 h.2).2;rcases mB y with ⟨e',af⟩|⟨e',af⟩|⟨e',af⟩<;>rw[e'] at aF<;>omega
 ·have aF:=(Pg iS h).2;have ay:x.natAbs%y.natAbs<y.natAbs:=qH _ (by omega);rcases mB x with ⟨e',af⟩|⟨e',af⟩|⟨e',af⟩<;>rw[e'] at aF<;>omega
theorem DW {x y:Int}(O:x.natAbs<ee)(ar:y.natAbs<ee)(al:y≠0):kF (bO x) (bO y)=(bO (x.fdiv y),bO (x.fmod y),0):=by
 unfold kF;rw[k2 O,k2 ar,fS,fS,ad (by rfl),ae al]
def Ph:=cp vr λ(s,l,s2,ai)=>cV (D l<=1000000/\D ai<=1000000) (.same (hh (kF (s,l) (s2,ai))))
@[go_sem] theorem aJ0 (s:Int)(l:List Int)(s2:Int)(ai:List Int)(G:(D l)<=1000000/\D ai<=1000000):Ph [.agg [.int .i64 s,.Y (l.map ag)],.agg [.int .i64 s2,.Y (ai.map ag)]]=some (.same (hh (kF (s,l) (s2,ai)))):=(cA yp (s,l,s2,ai)).trans (cY G _)
theorem asq (T:bh)(dI:T kX=aV wK)(n1:T Kj=aV OO)(mz:T Kl=aV OG)(mA:T Gc=aV OH)(fB:T o9=aV BF)(s:Int)(l:List Int)(s2:Int)(ai:List Int)(G:(D l)<=1000000/\D ai<=1000000):WP T UJ (.same (hh (kF (s,l) (s2,ai)))) [.J (.agg [.int .i64 s,.Y (l.map ag)]),.J (.agg [.int .i64 s2,.Y (ai.map ag)])]:=by
 refine cB ?_;simp only[UJ];obtain⟨ck,cq⟩:=G
 by_cases ab:dE (s,l)=true
 ·by_cases bG:dE (s2,ai)=true
  ·obtain⟨x,O,e⟩:=(jR _).1 ab;obtain⟨y,ar,aC⟩:=(jR _).1 bG
   by_cases iS:y=0
   ·have hm:kF (s,l) (s2,ai)=((0,[]),(0,[]),15):=by
     rw[e,aC];unfold kF
     rw[k2 O,k2 ar,fS,fS,ad (by rfl),ad iS]
    rw[hm]
    cases e
    cases aC;have al:((y.sign:Int)==0)=true:=by rw[iS];rfl
    simp only[go_sem,go_sem_proc,dI,n1,mz,mA,fB,ab,bG,ck,cq,al,db,hh,c1];repeat' (first|refine aw ?_ ?_|fail)<;>intro h<;>simp only[h,go_sem,go_sem_proc,dI,n1,mz,mA,fB,ab,bG,ck,cq,al,db,hh,c1]
   ·have hm:kF (s,l) (s2,ai)=(bO (x.fdiv y),bO (x.fmod y),0):=by
     rw[e,aC];exact DW O ar iS
    rw[hm];clear hm
    cases e
    cases aC;have n0:=rE O;have kZ:=rE ar;have tS:(y.sign==0)=false:=by rw[beq_eq_false_iff_ne,Ne,V3];exact iS
    have DX:0<y.natAbs:=by omega
    have F:=rF x;have I:=rF y;have aE:x.sign*y.sign=(x*y).sign:=(sG x y).symm;have af:=rF (x*y);have hw:IntKind.i64.wrap (x.sign*y.sign)=x.sign*y.sign:=by rw[aE];exact wrap64 _ (by omega) (by omega)
    have hdiv:=afg x.natAbs y.natAbs ⟨by omega,by omega,DX⟩
    simp only[b1] at hdiv;have aG:=GO (y:=y) O iS;have yr:=afD (x:=x) ar iS;have V4:x.natAbs/y.natAbs<ee:=vk (V1 _ _) O;have asr:(aJ (x.natAbs/y.natAbs)).length<=60:=gG.2 V4;have DY:x.natAbs%y.natAbs<ee:=afE (qH _ DX) ar;have ass:(aJ (x.natAbs%y.natAbs)).length<=60:=gG.2 DY
    by_cases tT:x.sign*y.sign<0/\x.natAbs%y.natAbs≠0
    ·obtain⟨eq,tU⟩:=Pc tT.1 tT.2
     have bC:decide (((aJ (x.natAbs%y.natAbs)).length:Int)>0)=true:=by
      have:aJ (x.natAbs%y.natAbs)≠[]:=by rw[Ne,zx];exact tT.2
      have:=Pa.2 this;exact dn
     have kE:decide (x.sign*y.sign<0)=true:=iw tT.1;have jQ:aJ 1=[1]:=by simp[aJ,ya]
     have ast:(aJ 1).length=1:=by rw[jQ];rfl
     have iB:=aeL (x.natAbs/y.natAbs) 1 ⟨by omega,by omega⟩
     simp only[b1,jQ,eE,c1,ag] at iB;have jj:=Vn y.natAbs (x.natAbs%y.natAbs) ⟨by omega,DZ (qH _ DX)⟩
     simp only[b1] at jj
     have iR:(aJ (x.natAbs/y.natAbs+1)).length<=1000000:=by
      have:(x.natAbs/y.natAbs+1)<ee:=by rw[eq] at aG;rw[Pj,mC] at aG;exact aG
      have:=(gG (k:=60)).2 this;omega
     have kD:(aJ (y.natAbs-x.natAbs%y.natAbs)).length<=1000000:=by have:=O7 y.natAbs (x.natAbs%y.natAbs);omega
     have hs:kh (-1) (aJ (x.natAbs/y.natAbs+1))=bO (x.fdiv y):=pQ (by rw[eq,Pj,mC]) λ_=>by rw[eq,DV,jS (show (0:Int)<((x.natAbs/y.natAbs+1:Nat):Int) by exact D0.2 (afF _))]
     have kj:kh y.sign (aJ (y.natAbs-x.natAbs%y.natAbs))=bO (x.fmod y):=by
      refine pQ ?_ λaK=>?_
      ·rw[tU];rcases mB y with ⟨e',af⟩|⟨e',af⟩|⟨e',af⟩<;>rw[e']<;>omega
      ·rw[tU,sG,B2,jS (show (0:Int)<((y.natAbs-x.natAbs%y.natAbs:Nat):Int) by omega),vh]
     simp only[go_sem,go_sem_proc,dI,n1,mz,mA,fB,ab,bG,ck,cq,tS,hw,hdiv,bC,kE,iB,jj,iR,kD,hs,kj,ag,ak,db,hh,nn];repeat' (first|refine aw ?_ ?_|fail)<;>intro h<;>simp only[h,go_sem,go_sem_proc,dI,n1,mz,mA,fB,ab,bG,ck,cq,tS,hw,hdiv,bC,kE,iB,jj,iR,kD,hs,kj,ag,ak,db,hh,nn]
    ·obtain⟨eq,tU⟩:=Pg iS tT
     have V5:(decide (x.sign*y.sign<0)=true/\decide (((aJ (x.natAbs%y.natAbs)).length:Int)>0)=false)\/decide (x.sign*y.sign<0)=false:=by
      by_cases aK:x.sign*y.sign<0
      ·left
       have:x.natAbs%y.natAbs=0:=afG.1 λh=>tT ⟨aK,h⟩;rw[this];exact⟨iw aK,rfl⟩
      ·right;exact j9 aK
     have iR:(aJ (x.natAbs/y.natAbs)).length<=1000000:=by omega
     have kD:(aJ (x.natAbs%y.natAbs)).length<=1000000:=by omega
     have hs:kh (x.sign*y.sign) (aJ (x.natAbs/y.natAbs))=bO (x.fdiv y):=by
      refine pQ ?_ λaK=>?_
      ·rw[eq]
       have D3:∀aL:Nat,(x=0->aL=0)->(x.sign*y.sign*(aL:Int)).natAbs=aL:=by
        intro aL al;rcases mB x with ⟨e,F⟩|⟨e,F⟩|⟨e,F⟩<;>rcases mB y with ⟨e',af⟩|⟨e',af⟩|⟨e',af⟩<;>rw[e,e']<;>first|omega|(rw[al F];rfl)
       exact D3 _ λal=>by rw[al];exact V6 _
      ·rw[eq,aE,sG,sG,sG,B2,B2,jS (show (0:Int)<((x.natAbs/y.natAbs:Nat):Int) from D0.2 (Pk aK)),vh]
     have kj:kh x.sign (aJ (x.natAbs%y.natAbs))=bO (x.fmod y):=by
      refine pQ ?_ λaK=>?_
      ·rw[tU]
       have D3:∀aL:Nat,(x=0->aL=0)->(x.sign*(aL:Int)).natAbs=aL:=by
        intro aL al;rcases mB x with ⟨e,F⟩|⟨e,F⟩|⟨e,F⟩<;>rw[e]<;>first|omega|(rw[al F];rfl)
       exact D3 _ λal=>by rw[al];exact V0 _
      ·rw[tU,sG,B2,jS (show (0:Int)<((x.natAbs%y.natAbs:Nat):Int) from D0.2 (Pk aK)),vh]
     rcases V5 with ⟨wY,KZ⟩|wY
     ·simp only[go_sem,go_sem_proc,dI,n1,mz,mA,fB,ab,bG,ck,cq,tS,hw,hdiv,wY,KZ,iR,kD,hs,kj,ag,ak,db,hh,nn];repeat' (first|refine aw ?_ ?_|fail)<;>intro h<;>simp only[h,go_sem,go_sem_proc,dI,n1,mz,mA,fB,ab,bG,ck,cq,tS,hw,hdiv,wY,KZ,iR,kD,hs,kj,ag,ak,db,hh,nn]
     ·simp only[go_sem,go_sem_proc,dI,n1,mz,mA,fB,ab,bG,ck,cq,tS,hw,hdiv,wY,iR,kD,hs,kj,ag,ak,db,hh,nn];repeat' (first|refine aw ?_ ?_|fail)<;>intro h<;>simp only[h,go_sem,go_sem_proc,dI,n1,mz,mA,fB,ab,bG,ck,cq,tS,hw,hdiv,wY,iR,kD,hs,kj,ag,ak,db,hh,nn]
  ·have bG:dE (s2,ai)=false:=by simpa using bG
   have hm:kF (s,l) (s2,ai)=((0,[]),(0,[]),1):=by unfold kF;rw[bG,iQ];rfl
   rw[hm];simp only[go_sem,go_sem_proc,dI,n1,mz,mA,fB,ab,bG,ck,cq,db,hh,c1];repeat' (first|refine aw ?_ ?_|fail)<;>intro h<;>simp only[h,go_sem,go_sem_proc,dI,n1,mz,mA,fB,ab,bG,ck,cq,db,hh,c1]
 ·have ab:dE (s,l)=false:=by simpa using ab
  have hm:kF (s,l) (s2,ai)=((0,[]),(0,[]),1):=by unfold kF;rw[ab,fz];rfl
  rw[hm];simp only[go_sem,go_sem_proc,dI,n1,mz,mA,fB,ab,ck,cq,db,hh,c1];repeat' (first|refine aw ?_ ?_|fail)<;>intro h<;>simp only[h,go_sem,go_sem_proc,dI,n1,mz,mA,fB,ab,ck,cq,db,hh,c1]
def dB (n:Int):Prop:=-9223372036854775808<=n/\n<=9223372036854775807
theorem asu {n:Nat}(h:n<=9223372036854775808):n<ee:=by
 unfold ee;refine CY (m:=1048576^4) ?_ (Nat.pow_le_pow_right (by omega) (by omega));omega
theorem yt {n:Int}(h:dB n):n.natAbs<ee:=asu (by unfold dB at h;omega)
theorem V7 (n:Int)(F:-18446744073709551616<=n)(I:n<0):IntKind.u64.wrap n=n+18446744073709551616:=by
 unfold IntKind.wrap;simp[IntKind.bits,IntKind.signed];omega
def V8:=cp wJ λ(n:Int)=>cV (dB n) (.same (.agg (db (bO n))))
@[go_sem] theorem aJ1 (n:Int)(G:dB n):V8 [.int .i64 n]=some (.same (.agg (db (bO n)))):=(cA zF n).trans (cY G _)
theorem asv (T:bh)(fB:T o9=aV BF)(n:Int)(G:dB n):WP T UH (.same (.agg (db (bO n)))) [.J (.int .i64 n)]:=by
 refine cB ?_;simp only[UH];have lN:=G;unfold dB at lN;obtain⟨tg,uP⟩:=lN;have U:∀s:Int,(n≠0->s=n.sign)->kh s (aJ n.natAbs)=bO n:=λs h=>pQ rfl λbC=>h (by omega);have hlen:(aJ n.natAbs).length<=60:=gG.2 (yt G);rcases dA (n<0) with kE|hZ
 ·have hw:=V7 n (by omega) kE
  have fw:IntKind.u64.wrap (0-(n+18446744073709551616))=(n.natAbs:Int):=by
   rw[V7 _ (by omega) (by omega)];omega
  simp only[go_sem,go_sem_proc,fB,kE,hw,fw,decide_true];refine dv [2,3] [150002] (λ((u,g,l):Nat×Nat×List Int) tm mem=>u<=9223372036854775808/\aJ n.natAbs=l++aJ u/\tm 4=.J (.int .u64 u)/\tm 5=.ref 150021 g 1 0 (D l)/\mem 150021=some (g,bf ag l)) (λ(u,_)=>u) (n.natAbs,0,[]) (by refine⟨by omega,rfl,?_,rfl,rfl⟩;rfl) ?_;intro vs ms aT aR;simp only[go_sem,go_sem_proc,fB] at aT aR;subst aT aR;rintro⟨u,g,l⟩ tm mem Q hm ⟨hu,aa,aM,bk,zU⟩;simp only[go_sem,go_sem_proc,fB,bb] at Q hm;obtain⟨I,af⟩:=Q;rcases kV u with al|sC
  ·subst al;rw[sx,fJ] at aa;rw[aa] at U hlen;have vt:(D l)<=1000000:=by omega
   have iL:=U (-1) (λ_=>by exact (rD kE).symm);simp only[go_sem,go_sem_proc,fB,I,af,aM,bk,hm,zU,iL,vt,db,lr,lU,ak,show ¬ ((0:Int)>0) by omega,decide_false,mS hr,k3]
   repeat' (first|refine aw ?_ ?_|fail)<;>intro h<;>simp only[h,go_sem,go_sem_proc,fB,I,af,aM,bk,hm,zU,iL,vt,db,lr,lU,ak,show ¬ ((0:Int)>0) by omega,decide_false,mS hr,k3]
  ·have zQ:(D l)<=60:=by
    have:=congrArg D aa;rw[fE] at this;omega
   have iM:decide ((u:Int)>0)=true:=dn;have dL:∀a:Int,mN 150021 g 1 (D l) 8 1 [.J (.int .i64 a)] (some (g,bf ag l))=_:=λa=>mu hr u5 150021 g 8 l a rfl (by omega) (by omega);have hand:=aex u ⟨by omega,by omega⟩
   have K0:IntKind.i64.wrap ((u:Int)%1048576)=(u:Int)%1048576:=wrap64 _ (by omega) (by omega);simp only[go_sem,go_sem_proc,fB,I,af,aM,bk,hm,zU,iM,dL,hand,K0,oG,show ((20:Int)<0)=False from by simp,if_false,ak,bb]
   repeat' (first|refine aw ?_ ?_|fail)<;>intro h<;>simp only[h,go_sem,go_sem_proc,fB,I,af,aM,bk,hm,zU,iM,dL,hand,K0,oG,show ((20:Int)<0)=False from by simp,if_false,ak,bb]
   refine⟨(u/1048576,g+1,l++[(u:Int)%1048576]),by dsimp only;omega,by dsimp only;omega,by dsimp only;rw[gU,aa,u6 sC];rfl,by first|rfl|(dsimp only;rw[zA _ ⟨by omega,by omega⟩];rfl),by simp,by simp[go_sem]⟩
 ·have hw:IntKind.u64.wrap n=(n.natAbs:Int):=by rw[zA _ ⟨by omega,by omega⟩];omega
  simp only[go_sem,go_sem_proc,fB,hZ,hw,decide_false];refine dv [2,3] [150002] (λ((u,g,l):Nat×Nat×List Int) tm mem=>u<=9223372036854775808/\aJ n.natAbs=l++aJ u/\tm 4=.J (.int .u64 u)/\tm 5=.ref 150021 g 1 0 (D l)/\mem 150021=some (g,bf ag l)) (λ(u,_)=>u) (n.natAbs,0,[]) (by refine⟨by omega,rfl,?_,rfl,rfl⟩;rfl) ?_;intro vs ms aT aR;simp only[go_sem,go_sem_proc,fB] at aT aR;subst aT aR;rintro⟨u,g,l⟩ tm mem Q hm ⟨hu,aa,aM,bk,zU⟩;simp only[go_sem,go_sem_proc,fB,bb] at Q hm;obtain⟨I,af⟩:=Q;rcases kV u with al|sC
  ·subst al;rw[sx,fJ] at aa;rw[aa] at U hlen;have vt:(D l)<=1000000:=by omega
   have iL:=U 1 (λ_=>by exact (jS (by omega)).symm);simp only[go_sem,go_sem_proc,fB,I,af,aM,bk,hm,zU,iL,vt,db,lr,lU,ak,show ¬ ((0:Int)>0) by omega,decide_false,mS hr,k3]
   repeat' (first|refine aw ?_ ?_|fail)<;>intro h<;>simp only[h,go_sem,go_sem_proc,fB,I,af,aM,bk,hm,zU,iL,vt,db,lr,lU,ak,show ¬ ((0:Int)>0) by omega,decide_false,mS hr,k3]
  ·have zQ:(D l)<=60:=by
    have:=congrArg D aa;rw[fE] at this;omega
   have iM:decide ((u:Int)>0)=true:=dn;have dL:∀a:Int,mN 150021 g 1 (D l) 8 1 [.J (.int .i64 a)] (some (g,bf ag l))=_:=λa=>mu hr u5 150021 g 8 l a rfl (by omega) (by omega);have hand:=aex u ⟨by omega,by omega⟩
   have K0:IntKind.i64.wrap ((u:Int)%1048576)=(u:Int)%1048576:=wrap64 _ (by omega) (by omega);simp only[go_sem,go_sem_proc,fB,I,af,aM,bk,hm,zU,iM,dL,hand,K0,oG,show ((20:Int)<0)=False from by simp,if_false,ak,bb]
   repeat' (first|refine aw ?_ ?_|fail)<;>intro h<;>simp only[h,go_sem,go_sem_proc,fB,I,af,aM,bk,hm,zU,iM,dL,hand,K0,oG,show ((20:Int)<0)=False from by simp,if_false,ak,bb]
   refine⟨(u/1048576,g+1,l++[(u:Int)%1048576]),by dsimp only;omega,by dsimp only;omega,by dsimp only;rw[gU,aa,u6 sC];rfl,by first|rfl|(dsimp only;rw[zA _ ⟨by omega,by omega⟩];rfl),by simp,by simp[go_sem]⟩
theorem asw (k:IntKind)(a b:Int):bits .or k a b=bits .or k b a:=by
 simp only[bits,BitVec.or_comm]
theorem asx (u d:Int)(i:Nat)(M:(2:Int)^i<=1152921504606846976)(hu:0<=u/\u<2^i)(aa:0<=d)(h:d*2^i<18446744073709551616):bits .or .u64 u (d*2^i)=u+d*2^i:=by
 rw[asw,yi];have al:0<=d*2^i:=yh aa (by exact Pl (GF (by omega)));refine bits_join .u64 64 (by decide) (λn F I=>zA n ⟨F,by omega⟩) i _ _ al (Int.mul_emod_left _ _) (by omega) hu.1 hu.2 (by omega)
instance (n:Int):Decidable (dB n):=by unfold dB;exact inferInstance
def sH (a:Raw):Int×Bool:=if dE a=true/\dB (im a) then (im a,true) else (0,false)
def V9:=cp BE λ(s,l)=>cV (D l<=1000000) (.same (.cI [.int .i64 (sH (s,l)).1,.bool (sH (s,l)).2]))
@[go_sem] theorem aJ2 (s:Int)(l:List Int)(G:(D l)<=1000000):V9 [.agg [.int .i64 s,.Y (l.map ag)]]=some (.same (.cI [.int .i64 (sH (s,l)).1,.bool (sH (s,l)).2])):=(cA Gp (s,l)).trans (cY G _)
theorem asy (T:bh)(dI:T kX=aV wK)(s:Int)(l:List Int)(G:(D l)<=1000000):WP T UO (.same (.cI [.int .i64 (sH (s,l)).1,.bool (sH (s,l)).2])) [.J (.agg [.int .i64 s,.Y (l.map ag)])]:=by
 refine cB ?_;simp only[UO]
 by_cases ab:dE (s,l)=true
 ·obtain⟨z,aS,e⟩:=(jR _).1 ab
  cases e
  have M:sH (z.sign,aJ z.natAbs)=if dB z then (z,true) else (0,false):=by
   unfold sH;rw[ab,show im (z.sign,aJ z.natAbs)=z from fS z];simp
  rw[M];clear M;have U:=mB z
  by_cases aM:(aJ z.natAbs).length<=4
  ·have Pm:decide (((aJ z.natAbs).length:Int)>4)=false:=dk;have mi:=lS z.natAbs;have kC:=mT z.natAbs;generalize aJ z.natAbs=l at *;simp only[go_sem,go_sem_proc,dI,ab,G,Pm,ak,ag];refine dv [1,17,18] [159001] (λ((i,u):Nat×Int) tm mem=>i<=D l/\u=bg (l.take i)/\u<18446744073709551616/\tm 4=.J (.int .u64 u)/\tm 19=.J (.int .i64 i)) (λ(i,_)=>D l-i) (0,0) (by refine⟨by omega,rfl,by omega,rfl,rfl⟩) ?_;intro vs ms aT aR;simp only[go_sem,go_sem_proc,dI] at aT aR;subst aT aR;rintro⟨i,u⟩ tm mem Q hm ⟨M,hu,aJ3,qI,qJ⟩;simp only[go_sem,go_sem_proc,dI,bb] at Q hm;obtain⟨F,ly,jP⟩:=Q;have afH:eU (l.take i):=λd aa=>kC d (List.mem_of_mem_take aa);have D4:0<=u:=by rw[hu];exact o8 afH
   rcases dA (i<D l) with ay|b9
   ·have O:=bx ay;have aa:=kC l[i] (nc ay);have rh:=lv l i ay;have D5:=zy afH;rw[fR,oA (DZ ay),<-hu] at D5;rw[<-hu] at rh;generalize l[i]=d at *;have pR:decide ((i:Int)<(D l:Int))=true:=dn;have BL:IntKind.u64.wrap d=d:=zA d ⟨aa.1,by omega⟩
    have yo:IntKind.i64.wrap (20*(i:Int))=((20*i:Nat):Int):=by rw[fi _];omega
    have FM:min (20*i) 64=20*i:=by omega
    have mm:(((20*i:Nat):Int)<0)=False:=eq_false (by omega);have GP:(1048576:Int)^i=2^(20*i):=by rw[Int.pow_mul];rfl
    rw[GP] at D5 rh
    have o3:(2:Int)^(20*i)<=1152921504606846976:=by
     obtain rfl|rfl|rfl|rfl:i=0\/i=1\/i=2\/i=3:=by omega
     all_goals decide
    by_cases Wa:i=3/\d>8
    ·obtain⟨rfl,Pn⟩:=Wa;have afI:decide (d>8)=true:=iw Pn;have K1:(((3:Nat):Int)==3)=true:=rfl
     have asz:¬ dB z:=by
      have vm:=Kf l 4;rw[mi] at vm;have:0<=bg (l.drop 4):=o8 λd aa=>kC d (List.mem_of_mem_drop aa);have bk:=yh (show (0:Int)<=1048576^(min 4 (D l)) from Pl (GF (by omega))) this;unfold dB;simp only[afJ,Nat.reduceAdd,afK] at rh;rw[rh] at vm;omega
     rw[ae asz];simp only[go_sem,go_sem_proc,dI,F,ly,jP,qI,qJ,hm,O,aa.1,aa.2,pR,BL,afI,K1,ak,bq,bb,ag];repeat' (first|refine aw ?_ ?_|fail)<;>intro h<;>simp only[h,go_sem,go_sem_proc,dI,F,ly,jP,qI,qJ,hm,O,aa.1,aa.2,pR,BL,afI,K1,ak,bq,bb,ag]
    ·have wN:d*2^(20*i)<18446744073709551616:=by
      obtain rfl|rfl|rfl|rfl:i=0\/i=1\/i=2\/i=3:=by omega
      all_goals simp
      all_goals omega
     have wQ:=asx u d (20*i) o3 ⟨D4,D5⟩ aa.1 wN;have zV:0<=d*2^(20*i):=yh aa.1 (Pl (GF (by omega)));have K2:IntKind.u64.wrap (d*2^(20*i))=d*2^(20*i):=zA _ ⟨zV,wN⟩
     have mX:u+d*2^(20*i)<18446744073709551616:=by
      clear wQ K2 zV yo mm GP o3 rh;obtain rfl|rfl|rfl|rfl:i=0\/i=1\/i=2\/i=3:=by omega
      all_goals simp only[afJ,afK] at D5 wN ⊢
      all_goals omega
     by_cases af:((i:Int)==3)=true
     ·have Pn:decide (d>8)=false:=j9 λh=>Wa ⟨by simp at af;omega,h⟩
      simp only[go_sem,go_sem_proc,dI,F,ly,jP,qI,qJ,hm,O,aa.1,aa.2,pR,BL,af,Pn,yo,mm,if_false,lu,FM,K2,wQ,ak,bq,bb,ag];repeat' (first|refine aw ?_ ?_|fail)<;>intro h<;>simp only[h,go_sem,go_sem_proc,dI,F,ly,jP,qI,qJ,hm,O,aa.1,aa.2,pR,BL,af,Pn,yo,mm,if_false,lu,FM,K2,wQ,ak,bq,bb,ag]
      exact⟨(i+1,u+d*2^(20*i)),by dsimp only;omega,by dsimp only;omega,by dsimp only;rw[rh,nh],mX,rfl,by rw[fi _];rfl⟩
     ·have af:((i:Int)==3)=false:=by simpa using af
      simp only[go_sem,go_sem_proc,dI,F,ly,jP,qI,qJ,hm,O,aa.1,aa.2,pR,BL,af,yo,mm,if_false,lu,FM,K2,wQ,ak,bq,bb,ag];repeat' (first|refine aw ?_ ?_|fail)<;>intro h<;>simp only[h,go_sem,go_sem_proc,dI,F,ly,jP,qI,qJ,hm,O,aa.1,aa.2,pR,BL,af,yo,mm,if_false,lu,FM,K2,wQ,ak,bq,bb,ag]
      exact⟨(i+1,u+d*2^(20*i)),by dsimp only;omega,by dsimp only;omega,by dsimp only;rw[rh,nh],mX,rfl,by rw[fi _];rfl⟩
   ·have pR:decide ((i:Int)<(D l:Int))=false:=dk;have hQ:i=D l:=by omega
    rw[hQ,k3,mi] at hu;rcases U with ⟨U,uW⟩|⟨U,uW⟩|⟨U,uW⟩
    ·by_cases hr64:u<9223372036854775808
     ·rw[ad (by unfold dB;omega)];have hw:IntKind.i64.wrap u=z:=by rw[wrap64 u (by omega) (by omega)];omega
      simp only[go_sem,go_sem_proc,dI,F,ly,jP,qI,qJ,hm,pR,U,hr64,show decide ((1:Int)<0)=false from rfl,show decide ((1:Int)>=0)=true from rfl,show decide ((-1:Int)<0)=true from rfl,show decide ((-1:Int)>=0)=false from rfl,hw,decide_true,decide_false,ak];repeat' (first|refine aw ?_ ?_|fail)<;>intro h<;>simp only[h,go_sem,go_sem_proc,dI,F,ly,jP,qI,qJ,hm,pR,U,hr64,show decide ((1:Int)<0)=false from rfl,show decide ((1:Int)>=0)=true from rfl,show decide ((-1:Int)<0)=true from rfl,show decide ((-1:Int)>=0)=false from rfl,hw,decide_true,decide_false,ak]
     ·rw[ae (by unfold dB;omega)];simp only[go_sem,go_sem_proc,dI,F,ly,jP,qI,qJ,hm,pR,U,hr64,show decide ((1:Int)<0)=false from rfl,show decide ((1:Int)>=0)=true from rfl,show decide ((-1:Int)<0)=true from rfl,show decide ((-1:Int)>=0)=false from rfl,decide_true,decide_false,ak];repeat' (first|refine aw ?_ ?_|fail)<;>intro h<;>simp only[h,go_sem,go_sem_proc,dI,F,ly,jP,qI,qJ,hm,pR,U,hr64,show decide ((1:Int)<0)=false from rfl,show decide ((1:Int)>=0)=true from rfl,show decide ((-1:Int)<0)=true from rfl,show decide ((-1:Int)>=0)=false from rfl,decide_true,decide_false,ak]
    ·rw[ad (by unfold dB;omega)];have asA:u=0:=by omega
     subst uW;subst asA;simp only[go_sem,go_sem_proc,dI,F,ly,jP,qI,qJ,hm,pR,U,show decide ((0:Int)<0)=false from rfl,show decide ((0:Int)>=0)=true from rfl,show decide ((0:Int)<9223372036854775808)=true from rfl,show IntKind.i64.wrap 0=0 from rfl,show (0:Int).sign=0 from rfl,decide_true,decide_false,ak];repeat' (first|refine aw ?_ ?_|fail)<;>intro h<;>simp only[h,go_sem,go_sem_proc,dI,F,ly,jP,qI,qJ,hm,pR,U,show decide ((0:Int)<0)=false from rfl,show decide ((0:Int)>=0)=true from rfl,show decide ((0:Int)<9223372036854775808)=true from rfl,show IntKind.i64.wrap 0=0 from rfl,show (0:Int).sign=0 from rfl,decide_true,decide_false,ak]
    ·by_cases hr64:u<=9223372036854775808
     ·rw[ad (by unfold dB;omega)];have hw:=V7 (0-u) (by omega) (by omega)
      have fw:IntKind.i64.wrap (0-u+18446744073709551616)=z:=by
       simp[IntKind.wrap,IntKind.bits,IntKind.signed];omega
      simp only[go_sem,go_sem_proc,dI,F,ly,jP,qI,qJ,hm,pR,U,hr64,show decide ((1:Int)<0)=false from rfl,show decide ((1:Int)>=0)=true from rfl,show decide ((-1:Int)<0)=true from rfl,show decide ((-1:Int)>=0)=false from rfl,hw,fw,decide_true,decide_false,ak];repeat' (first|refine aw ?_ ?_|fail)<;>intro h<;>simp only[h,go_sem,go_sem_proc,dI,F,ly,jP,qI,qJ,hm,pR,U,hr64,show decide ((1:Int)<0)=false from rfl,show decide ((1:Int)>=0)=true from rfl,show decide ((-1:Int)<0)=true from rfl,show decide ((-1:Int)>=0)=false from rfl,hw,fw,decide_true,decide_false,ak]
     ·rw[ae (by unfold dB;omega)];simp only[go_sem,go_sem_proc,dI,F,ly,jP,qI,qJ,hm,pR,U,hr64,show decide ((1:Int)<0)=false from rfl,show decide ((1:Int)>=0)=true from rfl,show decide ((-1:Int)<0)=true from rfl,show decide ((-1:Int)>=0)=false from rfl,decide_true,decide_false,ak];repeat' (first|refine aw ?_ ?_|fail)<;>intro h<;>simp only[h,go_sem,go_sem_proc,dI,F,ly,jP,qI,qJ,hm,pR,U,hr64,show decide ((1:Int)<0)=false from rfl,show decide ((1:Int)>=0)=true from rfl,show decide ((-1:Int)<0)=true from rfl,show decide ((-1:Int)>=0)=false from rfl,decide_true,decide_false,ak]
  ·have Pm:decide (((aJ z.natAbs).length:Int)>4)=true:=dn
   have aK:¬ dB z:=by
    intro h;unfold dB at h;refine aM (gG.2 ?_);omega
   rw[ae aK];simp only[go_sem,go_sem_proc,dI,ab,G,Pm,ak];repeat' (first|refine aw ?_ ?_|fail)<;>intro h<;>simp only[h,go_sem,go_sem_proc,dI,ab,G,Pm,ak]
 ·have ab:dE (s,l)=false:=by simpa using ab
  have M:sH (s,l)=(0,false):=by unfold sH;rw[ae];rw[ab];simp
  rw[M];simp only[go_sem,go_sem_proc,dI,ab,G];repeat' (first|refine aw ?_ ?_|fail)<;>intro h<;>simp only[h,go_sem,go_sem_proc,dI,ab,G]
def Wb:bT:=cn 35 1 [.t 2] (X [dH 1 116001 0,cH 2 false] (.seq (X [bl 5 0 1,bw 6 2 5,(dX 7 kX 6),fs 8 7,H 9 8,⟨some 10,some (9,false),.dQ 2 (.t 1)⟩,⟨some 11,some (9,false),.load 2 true (.t 10)⟩,⟨some 12,some (9,false),.call kX [(.t 11)]⟩,⟨some 13,some (9,false),.un .not (.t 12)⟩,eu 14 9 13,H 15 14,⟨some 16,some (15,false),.dQ 2 (.t 1)⟩,⟨some 17,some (15,false),.dQ 0 (.t 16)⟩,⟨some 18,some (15,false),.load 1 false (.t 17)⟩,⟨some 19,some (15,false),.bin .neq (.t 18) (.c (au 1))⟩,eu 20 15 19] (a7 20 (X [cH 2 false] .ret) .skip)) (X [bl 22 0 1,bw 23 2 22,bl 24 2 1,bw 25 2 24,(cE 26 Kh 23 25),H 21 26,bN 27 0 21,bN 28 1 21,(aD 3 (.alloc 116003 [(au 0),.nil])),bu 2 3 27,H 4 28] (X [H 29 4,bn 30 .eql 29 0,H 31 30,⟨some 32,some (31,true),.load 2 true (.t 3)⟩,⟨some 33,some (31,true),.call TY [(.t 32)]⟩,gH 34 31 33,H 2 34] .ret))))
def Wc:bT:=cn 46 2 [.cell 4 4 true,.t 5] (X [dH 2 119002 0,dH 3 119003 1,(aD 4 (.alloc 119004 [(au 0),.nil,(au 0),.nil])),bA 5 0] (.seq (X [bw 10 4 2,(dX 11 lT 10),fs 12 11,H 13 12,⟨some 14,some (13,false),.load 4 true (.t 3)⟩,⟨some 15,some (13,false),.call lT [(.t 14)]⟩,⟨some 16,some (13,false),.un .not (.t 15)⟩,eu 17 13 16] (a7 17 (X [(aD 18 (.build [(au 0),.nil,(au 0),.nil] [])),bu 4 4 18,bA 5 1] .ret) .skip)) (X [bl 20 0 2,bw 21 2 20,bl 22 2 3,bw 23 2 22,bl 24 0 3,bw 25 2 24,bl 26 2 2,bw 27 2 26,(Ky 28 TZ 21 23 25 27),H 19 28,bN 29 0 19,bN 30 1 19,(aD 6 (.alloc 119006 [(au 0),.nil])),bu 2 6 29,H 7 30] (X [bl 32 2 2,bw 33 2 32,bl 34 2 3,bw 35 2 34,(cE 36 u7 33 35),H 31 36,bN 37 0 31,bN 38 1 31,(aD 8 (.alloc 119008 [(au 0),.nil])),bu 2 8 37,H 9 38] (X [bw 39 2 6,H 40 7,bw 41 2 8,H 42 9,(Ky 43 Dw 39 40 41 42),bN 44 0 43,bN 45 1 43,bu 4 4 44,H 5 45] .ret)))))
def Wd:bT:=cn 13 2 [.cell 4 4 true,.t 5] (X [(aD 4 (.alloc 130004 [(au 0),.nil,(au 0),.nil])),bA 5 0] (X [H 6 0,(dX 7 Of 6),H 8 1,(dX 9 Of 8),(cE 10 Ki 7 9),bN 11 0 10,bN 12 1 10,bu 4 4 11,H 5 12] .ret))
def We:bT:=cn 25 2 [.cell 4 4 true,.t 5] (X [dH 2 132002 0,dH 3 132003 1,(aD 4 (.alloc 132004 [(au 0),.nil,(au 0),.nil])),bA 5 0] (.seq (X [bw 6 4 2,(dX 7 lT 6),fs 8 7,H 9 8,⟨some 10,some (9,false),.load 4 true (.t 3)⟩,⟨some 11,some (9,false),.call lT [(.t 10)]⟩,⟨some 12,some (9,false),.un .not (.t 11)⟩,eu 13 9 12] (a7 13 (X [(aD 14 (.build [(au 0),.nil,(au 0),.nil] [])),bu 4 4 14,bA 5 1] .ret) .skip)) (ga [bw 15 4 2,bl 16 0 3,bw 17 2 16,(dX 18 Ga 17),bl 19 2 3,bw 20 2 19,(aD 21 (.build [(au 0),.nil,(au 0),.nil] [(0,2,(.t 18)),(2,2,(.t 20))])),(cE 22 yb 15 21),bN 23 0 22,bN 24 1 22,bu 4 4 23,H 5 24] aez .ret)))
def Wf:bT:=cn 42 2 [.cell 4 4 true,.t 5] (X [dH 2 134002 0,dH 3 134003 1,(aD 4 (.alloc 134004 [(au 0),.nil,(au 0),.nil])),bA 5 0] (.seq (X [bw 10 4 2,(dX 11 lT 10),fs 12 11,H 13 12,⟨some 14,some (13,false),.load 4 true (.t 3)⟩,⟨some 15,some (13,false),.call lT [(.t 14)]⟩,⟨some 16,some (13,false),.un .not (.t 15)⟩,eu 17 13 16] (a7 17 (X [(aD 18 (.build [(au 0),.nil,(au 0),.nil] [])),bu 4 4 18,bA 5 1] .ret) .skip)) (X [bl 20 0 2,bw 21 2 20,bl 22 0 3,bw 23 2 22,(cE 24 u7 21 23),H 19 24,bN 25 0 19,bN 26 1 19,(aD 6 (.alloc 134006 [(au 0),.nil])),bu 2 6 25,H 7 26] (X [bl 28 2 2,bw 29 2 28,bl 30 2 3,bw 31 2 30,(cE 32 u7 29 31),H 27 32,bN 33 0 27,bN 34 1 27,(aD 8 (.alloc 134008 [(au 0),.nil])),bu 2 8 33,H 9 34] (X [bw 35 2 6,H 36 7,bw 37 2 8,H 38 9,(Ky 39 Dw 35 36 37 38),bN 40 0 39,bN 41 1 39,bu 4 4 40,H 5 41] .ret)))))
def Wg:bT:=cn 78 2 [.t 4] (X [dH 2 135002 0,dH 3 135003 1,bA 4 0] (.seq (X [bw 17 4 2,(dX 18 lT 17),fs 19 18,H 20 19,⟨some 21,some (20,false),.load 4 true (.t 3)⟩,⟨some 22,some (20,false),.call lT [(.t 21)]⟩,⟨some 23,some (20,false),.un .not (.t 22)⟩,eu 24 20 23] (a7 24 (X [bA 4 0] .ret) .skip)) (ga [bl 25 0 2,bw 26 2 25,bl 27 2 2,bw 28 2 27,bl 29 0 3,bw 30 2 29,bl 31 2 3,bw 32 2 31,(aD 5 (.alloc 135005 [(au 0),.nil])),(aD 6 (.alloc 135006 [(au 0),.nil])),(aD 7 (.alloc 135007 [(au 0),.nil])),(aD 8 (.alloc 135008 [(au 0),.nil])),bu 2 5 26,bu 2 6 28,bu 2 7 30,bu 2 8 32] [[],[],[],[],[],[],[],[],[1,3,5,7],[1,3,5,7,8],[1,3,5,7,8,9],[1,3,5,7,8,9,10],[3,5,7],[5,7],[7],[]] (X [bA 9 1] (.block 0 (.loop  (.seq (.block 1 (X [bw 36 2 5,bw 37 2 6,(cE 38 Dx 36 37),H 35 38,bN 39 0 35,bN 40 1 35,bN 41 2 35,(aD 10 (.alloc 135010 [(au 0),.nil])),(aD 11 (.alloc 135011 [(au 0),.nil])),bu 2 10 39,bu 2 11 40,H 12 41] (X [bw 43 2 7,bw 44 2 8,(cE 45 Dx 43 44),H 42 45,bN 46 0 42,bN 47 1 42,bN 48 2 42,(aD 13 (.alloc 135013 [(au 0),.nil])),(aD 14 (.alloc 135014 [(au 0),.nil])),bu 2 13 46,bu 2 14 47,H 15 48] (.seq (X [bw 49 2 10,bw 50 2 13,(cE 51 T5 49 50),H 16 51] (.block 2 (X [H 53 16,bn 54 .neq 53 0,H 52 54] (a7 52 (X [H 55 9,H 56 16,bB 57 .mul 55 56,H 4 57] .ret) (X [bl 59 0 11,aU 60 1 59,bn 61 .eql 60 0,H 62 61,⟨some 63,some (62,false),.dQ 0 (.t 14)⟩,⟨some 64,some (62,false),.load 1 false (.t 63)⟩,⟨some 65,some (62,false),.bin .eql (.t 64) (.c (au 0))⟩,eu 66 62 65,H 58 66] (a7 58 (X [H 67 9,bl 68 0 11,aU 69 1 68,bl 70 0 14,aU 71 1 70,bB 72 .sub 69 71,bB 73 .mul 67 72,H 4 73] .ret) .skip)))))) (.nK [bw 74 2 6,bw 75 2 11,bw 76 2 8,bw 77 2 14,bu 2 5 74,bu 2 6 75,bu 2 7 76,bu 2 8 77] [[],[],[],[],[1,2,3],[2,3],[3],[]]))))) (.ops [H 33 9,(aD 34 (.un .neg (.t 33))),H 9 34]))))))))
def Wh:bT:=cn 15 1 [.t 2] (X [dH 1 138001 0,cH 2 false] (X [bw 6 2 1,(dX 7 T6 6),H 5 7,bN 8 0 5,bN 9 1 5,H 3 8,H 4 9] (X [H 10 4,H 11 10,⟨some 12,some (11,true),.cQ (.t 3)⟩,⟨some 13,some (11,true),.bin .eql (.t 12) (.c (au 1))⟩,gH 14 11 13,H 2 14] .ret)))
def Wi:bT:=cn 38 4 [.cell 8 2 true,.t 9] (X [dH 4 139004 0,dH 5 139005 1,dH 6 139006 2,dH 7 139007 3,(aD 8 (.alloc 139008 [(au 0),.nil])),bA 9 0] (X [bw 14 2 4,bw 15 2 5,(cE 16 u7 14 15),H 13 16,bN 17 0 13,bN 18 1 13,(aD 10 (.alloc 139010 [(au 0),.nil])),bu 2 10 17,H 11 18] (.seq (X [H 19 11,bn 20 .neq 19 0] (a7 20 (X [(aD 21 (.build [(au 0),.nil] [])),H 22 11,bu 2 8 21,H 9 22] .ret) .skip)) (X [bw 24 2 6,bw 25 2 7,(cE 26 u7 24 25),H 23 26,bN 27 0 23,bN 28 1 23,(aD 12 (.alloc 139012 [(au 0),.nil])),bu 2 12 27,H 11 28] (.seq (X [H 29 11,bn 30 .neq 29 0] (a7 30 (X [(aD 31 (.build [(au 0),.nil] [])),H 32 11,bu 2 8 31,H 9 32] .ret) .skip)) (X [bw 33 2 10,bw 34 2 12,(cE 35 T7 33 34),bN 36 0 35,bN 37 1 35,bu 2 8 36,H 9 37] .ret))))))
def Wj:bT:=cn 22 4 [.cell 8 4 true,.t 9] (X [dH 4 141004 0,dH 6 141006 2,(aD 8 (.alloc 141008 [(au 0),.nil,(au 0),.nil])),bA 9 0] (.seq (X [H 10 1,bn 11 .neq 10 0,H 12 11,⟨some 13,some (12,false),.cQ (.t 3)⟩,⟨some 14,some (12,false),.bin .neq (.t 13) (.c (au 0))⟩,eu 15 12 14] (a7 15 (X [(aD 16 (.build [(au 0),.nil,(au 0),.nil] [])),bu 4 8 16,bA 9 6] .ret) .skip)) (X [bw 17 2 4,bw 18 2 6,(cE 19 Ki 17 18),bN 20 0 19,bN 21 1 19,bu 4 8 20,H 9 21] .ret)))
def Wk:bT:=cn 60 2 [.cell 4 4 true,.t 5] (X [dH 2 149002 0,dH 3 149003 1,(aD 4 (.alloc 149004 [(au 0),.nil,(au 0),.nil])),bA 5 0] (.seq (.block 0 (X [bw 15 2 2,(dX 16 kX 15),fs 17 16,H 18 17,⟨some 19,some (18,false),.load 2 true (.t 3)⟩,⟨some 20,some (18,false),.call kX [(.t 19)]⟩,⟨some 21,some (18,false),.un .not (.t 20)⟩,eu 22 18 21,H 14 22] (a7 14 (X [(aD 23 (.build [(au 0),.nil,(au 0),.nil] [])),bu 4 4 23,bA 5 1] .ret) (X [bl 25 0 3,aU 26 1 25,bn 27 .eql 26 0,H 24 27] (a7 24 (X [(aD 28 (.build [(au 0),.nil,(au 0),.nil] [])),bu 4 4 28,bA 5 15] .ret) (X [bl 30 0 3,aU 31 1 30,bn 32 .lss 31 0,H 29 32] (a7 29 (.nK [bw 33 2 2,(dX 34 Ga 33),bw 35 2 3,(dX 36 Ga 35),bu 2 2 34,bu 2 3 36] aey) .skip))))))) (X [bw 38 2 2,bw 39 2 3,(cE 40 Kh 38 39),H 37 40,bN 41 0 37,bN 42 1 37,(aD 6 (.alloc 149006 [(au 0),.nil])),bu 2 6 41,H 7 42] (X [bw 44 2 2,bw 45 2 6,(cE 46 Dx 44 45),H 43 46,bN 47 0 43,bN 48 1 43,bN 49 2 43,(aD 8 (.alloc 149008 [(au 0),.nil])),(aD 9 (.alloc 149009 [(au 0),.nil])),bu 2 8 47,bu 2 9 48,H 10 49] (X [bw 51 2 3,bw 52 2 6,(cE 53 Dx 51 52),H 50 53,bN 54 0 50,bN 55 1 50,bN 56 2 50,(aD 11 (.alloc 149011 [(au 0),.nil])),(aD 12 (.alloc 149012 [(au 0),.nil])),bu 2 11 54,bu 2 12 55,H 13 56] (X [bw 57 2 8,bw 58 2 11,(aD 59 (.build [(au 0),.nil,(au 0),.nil] [(0,2,(.t 57)),(2,2,(.t 58))])),bu 4 4 59,bA 5 0] .ret))))))
def Wl:bT:=cn 49 2 [.cell 4 4 true,.t 5] (X [dH 2 169002 0,dH 3 169003 1,(aD 4 (.alloc 169004 [(au 0),.nil,(au 0),.nil])),bA 5 0] (.seq (.block 0 (X [bw 11 4 2,(dX 12 lT 11),fs 13 12,H 14 13,⟨some 15,some (14,false),.load 4 true (.t 3)⟩,⟨some 16,some (14,false),.call lT [(.t 15)]⟩,⟨some 17,some (14,false),.un .not (.t 16)⟩,eu 18 14 17,H 10 18] (a7 10 (X [(aD 19 (.build [(au 0),.nil,(au 0),.nil] [])),bu 4 4 19,bA 5 1] .ret) (X [bl 21 0 3,bl 22 0 21,aU 23 1 22,bn 24 .eql 23 0,H 20 24] (a7 20 (X [(aD 25 (.build [(au 0),.nil,(au 0),.nil] [])),bu 4 4 25,bA 5 15] .ret) .skip))))) (X [bl 27 0 2,bw 28 2 27,bl 29 2 3,bw 30 2 29,(cE 31 u7 28 30),H 26 31,bN 32 0 26,bN 33 1 26,(aD 6 (.alloc 169006 [(au 0),.nil])),bu 2 6 32,H 7 33] (X [bl 35 2 2,bw 36 2 35,bl 37 0 3,bw 38 2 37,(cE 39 u7 36 38),H 34 39,bN 40 0 34,bN 41 1 34,(aD 8 (.alloc 169008 [(au 0),.nil])),bu 2 8 40,H 9 41] (X [bw 42 2 6,H 43 7,bw 44 2 8,H 45 9,(Ky 46 Dw 42 43 44 45),bN 47 0 46,bN 48 1 46,bu 4 4 47,H 5 48] .ret)))))
abbrev a1:=Raw×Raw
def aH (f:a1):List Data:=[.int .i64 f.1.1,.Y (f.1.2.map ag),.int .i64 f.2.1,.Y (f.2.2.map ag)]
def eG (x:a1×Int):Data:=.cI [.agg (aH x.1),.int .i64 x.2]
def av (x:Rat):a1:=(bO x.num,bO x.den)
def dm (x:Rat):Prop:=x.num.natAbs<ee/\x.den<ee
def ft:a1:=((0,[]),(0,[]))
def ei (f:a1):Bool:=dE f.1&&(dE f.2&&(f.2.1==1&&(jk (im f.1).natAbs (im f.2).natAbs==1)))
def pd (f:a1):Rat:=lX (im f.1) (im f.2)
theorem zW (x:Rat):pd (av x)=x:=by
 unfold pd av;rw[fS,fS,D6]
theorem wZ {x y:Rat}(h:av x=av y):x=y:=by rw[<-zW x,h,zW]
theorem den_pos (x:Rat):0<(x.den:Int):=D0.2 x.den_pos
theorem asB {n:Int}(h:0<n):(bO n).1=1:=jS h
theorem K3 (f:a1):ei f=true↔∃x,dm x/\f=av x:=by
 unfold ei;simp only[ec,beq_iff_eq]
 constructor
 ·rintro⟨F,I,af,aM⟩;obtain⟨p,aE,aA⟩:=(jR _).1 F;obtain⟨q,aG,aC⟩:=(jR _).1 I;obtain⟨f1,f2⟩:=f;simp only at aA aC af aM;subst aA aC;rw[fS,fS] at aM
  have VS:0<q:=by
   rcases mB q with ⟨_,h⟩|⟨e,_⟩|⟨e,_⟩
   ·exact h
   ·have:q.sign=1:=af;omega
   ·have:q.sign=1:=af;omega
  refine⟨⟨p,q.natAbs,by omega,aM⟩,⟨aE,aG⟩,?_⟩
  unfold av;rw[show ((q.natAbs:Nat):Int)=q by omega]
 ·rintro⟨x,⟨F,I⟩,rfl⟩;have aa:(x.den:Int).natAbs<ee:=by rw[mC];exact I
  refine⟨k2 F,k2 aa,asB (den_pos x),?_⟩;unfold av;rw[fS,fS,mC];exact x.reduced
theorem yu {x:Rat}(h:dm x):ei (av x)=true:=(K3 _).2 ⟨x,h,rfl⟩
theorem w0 {x:Rat}(h:dm x):(x.den:Int).natAbs<ee:=by rw[mC];exact h.2
theorem np {z:Int}(h:z.natAbs<ee):(aJ z.natAbs).length<=1000000:=by have:=rE h;omega
def D7 (a:Raw):Bool:=(sH a).2&&((sH a).1==1)
theorem asC {z:Int}(h:z.natAbs<ee):D7 (bO z)=decide (z=1):=by
 unfold D7 sH;rw[k2 h,fS]
 by_cases M:dB z
 ·rw[ad ⟨rfl,M⟩];simp only[gT]
  rfl
 ·rw[ae λh=>M h.2];have:z≠1:=by rintro rfl;exact M (by unfold dB;omega)
  simp[this]
def Wm:=cp BE λ(s,l)=>cV (D l<=1000000) (.same (.bool (D7 (s,l))))
@[go_sem] theorem aJ4 (s:Int)(l:List Int)(G:(D l)<=1000000):Wm [.agg [.int .i64 s,.Y (l.map ag)]]=some (.same (.bool (D7 (s,l)))):=(cA Gp (s,l)).trans (cY G _)
theorem asD (T:bh)(Po:T T6=aV V9)(s:Int)(l:List Int)(G:(D l)<=1000000):WP T Wh (.same (.bool (D7 (s,l)))) [.J (.agg [.int .i64 s,.Y (l.map ag)])]:=by
 refine cB ?_;simp only[Wh];unfold D7;rcases h:(sH (s,l)).2
 ·simp only[go_sem,go_sem_proc,Po,G,h];repeat' (first|refine aw ?_ ?_|fail)<;>intro h<;>simp only[h,go_sem,go_sem_proc,Po,G,h]
 ·simp only[go_sem,go_sem_proc,Po,G,h];repeat' (first|refine aw ?_ ?_|fail)<;>intro h<;>simp only[h,go_sem,go_sem_proc,Po,G,h]
abbrev D8:Int×(List Int)×Int×(List Int)->List Data:=λ(s,l,s2,ai)=>[.agg [.int .i64 s,.Y (l.map ag),.int .i64 s2,.Y (ai.map ag)]]
def vu:=cp D8 λ(s,l,s2,ai)=>cV (D l<=1000000/\D ai<=1000000) (.same (.bool (ei ((s,l),(s2,ai)))))
theorem K4:∀a b,D8 a=D8 b->a=b:=by
  rintro⟨s1,dY,BV,BW⟩ ⟨s2,ai,BX,BZ⟩ h;simp only[bb,Data.agg.injEq,Data.int.injEq,Data.Y.injEq] at h;exact ed h.1.1.2 (ed (map_inj fj _ _ h.1.2.1) (ed h.1.2.2.1.2 (map_inj fj _ _ h.1.2.2.2.1)))
@[go_sem] theorem asE (s:Int)(l:List Int)(s2:Int)(ai:List Int)(G:(D l)<=1000000/\D ai<=1000000):vu [.agg [.int .i64 s,.Y (l.map ag),.int .i64 s2,.Y (ai.map ag)]]=some (.same (.bool (ei ((s,l),(s2,ai))))):=(cA K4 (s,l,s2,ai)).trans (cY G _)
theorem asF (T:bh)(dI:T kX=aV wK)(yv:T Kh=aV O9)(Pp:T TY=aV Wm)(s:Int)(l:List Int)(s2:Int)(ai:List Int)(G:(D l)<=1000000/\D ai<=1000000):WP T Wb (.same (.bool (ei ((s,l),(s2,ai))))) [.J (.agg [.int .i64 s,.Y (l.map ag),.int .i64 s2,.Y (ai.map ag)])]:=by
 refine cB ?_;simp only[Wb];obtain⟨ck,cq⟩:=G
 by_cases ab:dE (s,l)=true
 ·by_cases bG:dE (s2,ai)=true
  ·by_cases U:s2=1
   ·obtain⟨x,O,e⟩:=(jR _).1 ab;obtain⟨y,ar,aC⟩:=(jR _).1 bG
    have bc:lW (s,l) (s2,ai)=(bO ((jk x.natAbs y.natAbs:Nat):Int),0):=by
     unfold lW;rw[ab,bG,e,aC,fS,fS];rfl
    have oM:=KX O ar
    have bJ:D7 (bO ((jk x.natAbs y.natAbs:Nat):Int))=(jk x.natAbs y.natAbs==1):=by
     rw[asC (by rw[mC];exact oM)];rw[w2];simp;omega
    have nO:im (s,l)=x:=by rw[e,fS]
    have nP:im (s2,ai)=y:=by rw[aC,fS]
    have eS:ei ((s,l),(s2,ai))=(jk x.natAbs y.natAbs==1):=by
     show (dE (s,l)&&(dE (s2,ai)&&((s2==1)&&(jk (im (s,l)).natAbs (im (s2,ai)).natAbs==1))))=_;rw[ab,bG,nO,nP,show (s2==1)=true by simpa using U]
     simp only[gT]
    have asG:((bO ((jk x.natAbs y.natAbs:Nat):Int)).2).length<=1000000:=np (by rw[mC];exact oM);rw[eS,<-bJ];generalize bO ((jk x.natAbs y.natAbs:Nat):Int)=bM at *;obtain⟨cD,cf⟩:=bM;have iL:(s2==1)=true:=by simpa using U
    refine aX ?_;repeat' (intro h<;>simp only[h,go_sem,go_sem_proc,dI,yv,Pp,ab,bG,ck,cq,iL,bc,asG,fT,db,show ((0:Int)==0)=true from rfl]<;>try refine aw ?_ ?_)
   ·have eS:ei ((s,l),(s2,ai))=false:=by unfold ei;simp[U]
    have iL:(s2==1)=false:=by simpa using U
    rw[eS];refine aX ?_;repeat' (intro h<;>simp only[h,go_sem,go_sem_proc,dI,yv,Pp,ab,bG,ck,cq,iL]<;>try refine aw ?_ ?_)
  ·have bG:dE (s2,ai)=false:=by simpa using bG
   have eS:ei ((s,l),(s2,ai))=false:=by unfold ei;simp[bG]
   rw[eS];refine aX ?_;repeat' (intro h<;>simp only[h,go_sem,go_sem_proc,dI,yv,Pp,ab,bG,ck,cq]<;>try refine aw ?_ ?_)
 ·have ab:dE (s,l)=false:=by simpa using ab
  have eS:ei ((s,l),(s2,ai))=false:=by unfold ei;simp[ab]
  rw[eS];refine aX ?_;repeat' (intro h<;>simp only[h,go_sem,go_sem_proc,dI,yv,Pp,ab,ck,cq]<;>try refine aw ?_ ?_)
def ht (p q:Raw):a1×Int :=
 if (dE p&&dE q)=true then (if im q=0 then (ft,15) else (av (lX (im p) (im q)),0)) else (ft,1)
theorem zX {p q:Int}(aE:p.natAbs<ee)(aG:q.natAbs<ee)(al:q≠0):ht (bO p) (bO q)=(av (lX p q),0):=by
 unfold ht;rw[k2 aE,k2 aG,fS,fS,ad (by rfl),ae al]
theorem Wn {p q:Int}(aG:0<q):(lX p q).num=p.fdiv ((jk p.natAbs q.natAbs:Nat):Int)/\((lX p q).den:Int)=q.fdiv ((jk p.natAbs q.natAbs:Nat):Int):=by
 rw[Rat.num_divInt,Rat.den_divInt,ae (by omega),jS aG,nY];have bc:q.gcd p=jk p.natAbs q.natAbs:=by rw[Int.gcd_comm];rfl
 rw[bc];have al:(0:Int)<=((jk p.natAbs q.natAbs:Nat):Int):=Int.natCast_nonneg _;rw[afL _ al,afL _ al];refine⟨rfl,?_⟩;rw[Int.natCast_ediv]
 congr 1
 omega
theorem Wo {p q:Int}(aG:q≠0):0<jk p.natAbs q.natAbs:=Nat.gcd_pos_of_pos_right _ (by omega)
theorem Pq {p q:Int}(aE:p.natAbs<ee)(aG:q.natAbs<ee):dm (lX p q):=by
 have main:∀{p q:Int},p.natAbs<ee->q.natAbs<ee->0<q->dm (lX p q):=by
  intro p q aE aG al;obtain⟨F,I⟩:=Wn (p:=p) al;have bc:=Wo (p:=p) (q:=q) (by omega);refine⟨?_,?_⟩
  ·rw[F];exact GO aE (by omega)
  ·have:=GO (y:=((jk p.natAbs q.natAbs:Nat):Int)) aG (by omega);rw[<-I,mC] at this;exact this
 rcases yk q 0 with h|h|h
 ·rw[<-afM];exact main (by omega) (by omega) (by omega)
 ·subst h;rw[Rat.divInt_zero];unfold dm ee;exact⟨Nat.pow_pos (by omega),Nat.one_lt_pow (by omega) (by omega)⟩
 ·exact main aE aG h
def Pr:=cp vr λ(s,l,s2,ai)=>cV (D l<=1000000/\D ai<=1000000) (.same (eG (ht (s,l) (s2,ai))))
@[go_sem] theorem aJ5 (s:Int)(l:List Int)(s2:Int)(ai:List Int)(G:(D l)<=1000000/\D ai<=1000000):Pr [.agg [.int .i64 s,.Y (l.map ag)],.agg [.int .i64 s2,.Y (ai.map ag)]]=some (.same (eG (ht (s,l) (s2,ai)))):=(cA yp (s,l,s2,ai)).trans (cY G _)
theorem asH (T:bh)(dI:T kX=aV wK)(zY:T Ga=aV O6)(yv:T Kh=aV O9)(qK:T Dx=aV Ph)(s:Int)(l:List Int)(s2:Int)(ai:List Int)(G:(D l)<=1000000/\D ai<=1000000):WP T Wk (.same (eG (ht (s,l) (s2,ai)))) [.J (.agg [.int .i64 s,.Y (l.map ag)]),.J (.agg [.int .i64 s2,.Y (ai.map ag)])]:=by
 refine cB ?_;simp only[Wk];obtain⟨ck,cq⟩:=G
 by_cases ab:dE (s,l)=true
 ·by_cases bG:dE (s2,ai)=true
  ·obtain⟨x,O,e⟩:=(jR _).1 ab;obtain⟨y,ar,aC⟩:=(jR _).1 bG
   by_cases al:y=0
   ·have hm:ht (s,l) (s2,ai)=(ft,15):=by
     unfold ht;rw[ab,bG,aC,fS,ad (by rfl),ad al]
    rw[hm]
    cases e
    cases aC;have U:(y.sign==0)=true:=by rw[al];rfl
    refine aX ?_;repeat' (intro h<;>simp only[h,go_sem,go_sem_proc,dI,zY,yv,qK,ab,bG,ck,cq,U,eG,aH,ft,c1]<;>try refine aw ?_ ?_)
   ·have main:∀p q:Int,p.natAbs<ee->q.natAbs<ee->0<q->∃g:Raw,lW (bO p) (bO q)=(g,0)/\g.2.length<=1000000/\kF (bO p) g=(bO (lX p q).num,bO (p.fmod ((jk p.natAbs q.natAbs:Nat):Int)),0)/\kF (bO q) g=(bO (lX p q).den,bO (q.fmod ((jk p.natAbs q.natAbs:Nat):Int)),0):=by
     intro p q aE aG mv;have oM:=KX aE aG;have D9:((jk p.natAbs q.natAbs:Nat):Int).natAbs<ee:=by rw[mC];exact oM
     have GG:=Wo (p:=p) (q:=q) (by omega);obtain⟨F,I⟩:=Wn (p:=p) mv;refine⟨bO ((jk p.natAbs q.natAbs:Nat):Int),?_,np D9,?_,?_⟩
     ·unfold lW;rw[k2 aE,k2 aG,fS,fS];rfl
     ·rw[DW aE D9 (by omega),F]
     ·rw[DW aG D9 (by omega),I]
    have qL:(y.sign==0)=false:=by simpa using al
    rcases Int.lt_or_gt_of_ne al with kE|hZ
    ·have hs:decide (y.sign<0)=true:=by rw[rD kE];rfl
     obtain⟨⟨cD,cf⟩,bc,oM,jQ,mw⟩:=main (-x) (-y) (by omega) (by omega) (by omega)
     have hm:ht (s,l) (s2,ai)=(av (lX (-x) (-y)),0):=by
      rw[e,aC,zX O ar al,afM]
     rw[hm];have tg:jT (s,l)=bO (-x):=by unfold jT;rw[ad ab,e,fS]
     have uP:jT (s2,ai)=bO (-y):=by unfold jT;rw[ad bG,aC,fS]
     have Ea:s2=y.sign:=congrArg B3 aC;have hH:(bO (-x)).2.length<=1000000:=np (by omega);have jl:(bO (-y)).2.length<=1000000:=np (by omega);clear e aC;unfold av;generalize bO (-x)=dg at *;generalize bO (-y)=gi at *;obtain⟨a8,bV⟩:=dg;obtain⟨tI,tJ⟩:=gi;rw[<-Ea] at qL hs;refine aX ?_;repeat' (intro h<;>simp only[h,go_sem,go_sem_proc,dI,zY,yv,qK,ab,bG,ck,cq,qL,hs,tg,uP,hH,jl,bc,oM,jQ,mw,eG,aH,fT,hh,db]<;>try refine aw ?_ ?_)
    ·have hs:decide (y.sign<0)=false:=by rw[jS hZ];rfl
     obtain⟨⟨cD,cf⟩,bc,oM,jQ,mw⟩:=main x y O ar hZ
     have hm:ht (s,l) (s2,ai)=(av (lX x y),0):=by
      rw[e,aC,zX O ar al]
     rw[hm];have Ea:s2=y.sign:=congrArg B3 aC;rw[<-e] at bc jQ;rw[<-aC] at bc mw;rw[<-Ea] at qL hs;unfold av;refine aX ?_;repeat' (intro h<;>simp only[h,go_sem,go_sem_proc,dI,zY,yv,qK,ab,bG,ck,cq,qL,hs,bc,oM,jQ,mw,eG,aH,fT,hh,db]<;>try refine aw ?_ ?_)
  ·have bG:dE (s2,ai)=false:=by simpa using bG
   have hm:ht (s,l) (s2,ai)=(ft,1):=by unfold ht;rw[bG,iQ];rfl
   rw[hm];refine aX ?_;repeat' (intro h<;>simp only[h,go_sem,go_sem_proc,dI,zY,yv,qK,ab,bG,ck,cq,eG,aH,ft,c1]<;>try refine aw ?_ ?_)
 ·have ab:dE (s,l)=false:=by simpa using ab
  have hm:ht (s,l) (s2,ai)=(ft,1):=by unfold ht;rw[ab,fz];rfl
  rw[hm];refine aX ?_;repeat' (intro h<;>simp only[h,go_sem,go_sem_proc,dI,zY,yv,qK,ab,ck,cq,eG,aH,ft,c1]<;>try refine aw ?_ ?_)
def Eb:=cp Gn λ(p,q)=>cV (dB p/\dB q) (.same (eG (ht (bO p) (bO q))))
@[go_sem] theorem afN (p:Int)(q:Int)(G:dB p/\dB q):Eb [.int .i64 p,.int .i64 q]=some (.same (eG (ht (bO p) (bO q)))):=(cA OC (p,q)).trans (cY G _)
theorem asI (T:bh)(asJ:T Of=aV V8)(K5:T Ki=aV Pr)(p:Int)(q:Int)(G:dB p/\dB q):WP T Wd (.same (eG (ht (bO p) (bO q)))) [.J (.int .i64 p),.J (.int .i64 q)]:=by
 refine cB ?_;simp only[Wd];obtain⟨F,I⟩:=G;have dY:(bO p).2.length<=1000000:=np (yt F);have ai:(bO q).2.length<=1000000:=np (yt I);generalize gr:bO p=P at *;generalize fh:bO q=aL at *;obtain⟨a8,bV⟩:=P;obtain⟨tI,tJ⟩:=aL;refine aX ?_;repeat' (intro h<;>simp only[h,go_sem,go_sem_proc,asJ,K5,F,I,gr,fh,dY,ai,db,eG,aH]<;>try refine aw ?_ ?_)
def w3 (a b c d:Raw):Raw×Int :=
 if ((mulR a b).2==0)=true then (if ((mulR c d).2==0)=true then sF (mulR a b).1 (mulR c d).1 else ((0,[]),(mulR c d).2)) else ((0,[]),(mulR a b).2)
theorem afO (z:Int):(sE z).1.2.length<=1000000:=by
 unfold sE
 split
 ·exact np (by assumption)
 ·simp
theorem Ec (a b:Raw):(mulR a b).1.2.length<=1000000:=by
 unfold mulR
 split
 ·exact afO _
 ·simp
theorem asK (a b:Raw):(sF a b).1.2.length<=1000000:=by
 unfold sF
 split
 ·exact afO _
 ·simp
theorem asL (a b c d:Raw):(w3 a b c d).1.2.length<=1000000:=by
 unfold w3
 split
 ·split
  ·exact asK _ _
  ·simp
 ·simp
abbrev Wp:Int×(List Int)×Int×(List Int)×Int×(List Int)×Int×(List Int)->List Data:=λ(s,l,s2,ai,cR,bL,cW,b3)=>[.agg [.int .i64 s,.Y (l.map ag)],.agg [.int .i64 s2,.Y (ai.map ag)],.agg [.int .i64 cR,.Y (bL.map ag)],.agg [.int .i64 cW,.Y (b3.map ag)]]
def Wq:=cp Wp λ(s,l,s2,ai,cR,bL,cW,b3)=>cV (D l<=1000000/\D ai<=1000000/\D bL<=1000000/\D b3<=1000000) (.same (fT (w3 (s,l) (s2,ai) (cR,bL) (cW,b3))))
theorem asM:∀a b,Wp a=Wp b->a=b:=by
  rintro⟨s1,dY,BV,BW,asN,asO,asP,asQ⟩ ⟨s2,ai,BX,BZ,asR,asS,asT,asU⟩ h;simp only[bb,Data.agg.injEq,Data.int.injEq,Data.Y.injEq] at h;exact ed h.1.1.2 (ed (map_inj fj _ _ h.1.2.1) (ed h.2.1.1.2 (ed (map_inj fj _ _ h.2.1.2.1) (ed h.2.2.1.1.2 (ed (map_inj fj _ _ h.2.2.1.2.1) (ed h.2.2.2.1.1.2 (map_inj fj _ _ h.2.2.2.1.2.1)))))))
@[go_sem] theorem aJ6 (s:Int)(l:List Int)(s2:Int)(ai:List Int)(cR:Int)(bL:List Int)(cW:Int)(b3:List Int)(G:(D l)<=1000000/\D ai<=1000000/\D bL<=1000000/\D b3<=1000000):Wq [.agg [.int .i64 s,.Y (l.map ag)],.agg [.int .i64 s2,.Y (ai.map ag)],.agg [.int .i64 cR,.Y (bL.map ag)],.agg [.int .i64 cW,.Y (b3.map ag)]]=some (.same (fT (w3 (s,l) (s2,ai) (cR,bL) (cW,b3)))):=(cA asM (s,l,s2,ai,cR,bL,cW,b3)).trans (cY G _)
theorem asV (T:bh)(qM:T u7=aV GM)(Wr:T T7=aV VW)(s:Int)(l:List Int)(s2:Int)(ai:List Int)(cR:Int)(bL:List Int)(cW:Int)(b3:List Int)(G:(D l)<=1000000/\D ai<=1000000/\D bL<=1000000/\D b3<=1000000):WP T Wi (.same (fT (w3 (s,l) (s2,ai) (cR,bL) (cW,b3)))) [.J (.agg [.int .i64 s,.Y (l.map ag)]),.J (.agg [.int .i64 s2,.Y (ai.map ag)]),.J (.agg [.int .i64 cR,.Y (bL.map ag)]),.J (.agg [.int .i64 cW,.Y (b3.map ag)])]:=by
 refine cB ?_;simp only[Wi];obtain⟨ck,cq,hH,jl⟩:=G;have dx:=Ec (s,l) (s2,ai);have cM:=Ec (cR,bL) (cW,b3);unfold w3;generalize tQ:mulR (s,l) (s2,ai)=M1 at *;generalize g3:mulR (cR,bL) (cW,b3)=M2 at *;obtain⟨⟨cU,de⟩,aA⟩:=M1;obtain⟨⟨df,eD⟩,aC⟩:=M2;rcases F:(aA==0)
 ·refine aX ?_;repeat' (intro h<;>simp only[h,go_sem,go_sem_proc,qM,Wr,ck,cq,hH,jl,tQ,F,dx,cM,fT,db,c1]<;>try refine aw ?_ ?_)
 ·have jm:aA=0:=by simpa using F
  subst jm;rcases I:(aC==0)
  ·refine aX ?_;repeat' (intro h<;>simp only[h,go_sem,go_sem_proc,qM,Wr,ck,cq,hH,jl,tQ,g3,F,I,dx,cM,fT,db,c1]<;>try refine aw ?_ ?_)
  ·have kl:aC=0:=by simpa using I
   subst kl;refine aX ?_;repeat' (intro h<;>simp only[h,go_sem,go_sem_proc,qM,Wr,ck,cq,hH,jl,tQ,g3,F,dx,cM,fT,db,c1]<;>try refine aw ?_ ?_)
def vv (p:Raw×Int)(q:Raw×Int):a1×Int:=if (p.2==0)=true then (if (q.2==0)=true then ht p.1 q.1 else (ft,6)) else (ft,6)
abbrev Ws:Int×(List Int)×Int×Int×(List Int)×Int->List Data:=λ(s,l,e,s2,ai,aC)=>[.agg [.int .i64 s,.Y (l.map ag)],.int .i64 e,.agg [.int .i64 s2,.Y (ai.map ag)],.int .i64 aC]
def K6:=cp Ws λ(s,l,e,s2,ai,aC)=>cV (D l<=1000000/\D ai<=1000000) (.same (eG (vv ((s,l),e) ((s2,ai),aC))))
theorem asW:∀a b,Ws a=Ws b->a=b:=by
  rintro⟨s1,dY,aA,BV,BW,pe⟩ ⟨s2,ai,aC,BX,BZ,tV⟩ h;simp only[bb,Data.agg.injEq,Data.int.injEq,Data.Y.injEq] at h;exact ed h.1.1.2 (ed (map_inj fj _ _ h.1.2.1) (ed h.2.1.2 (ed h.2.2.1.1.2 (ed (map_inj fj _ _ h.2.2.1.2.1) h.2.2.2.1.2))))
@[go_sem] theorem aJ7 (s:Int)(l:List Int)(e:Int)(s2:Int)(ai:List Int)(aC:Int)(G:(D l)<=1000000/\D ai<=1000000):K6 [.agg [.int .i64 s,.Y (l.map ag)],.int .i64 e,.agg [.int .i64 s2,.Y (ai.map ag)],.int .i64 aC]=some (.same (eG (vv ((s,l),e) ((s2,ai),aC)))):=(cA asW (s,l,e,s2,ai,aC)).trans (cY G _)
theorem asX (T:bh)(K5:T Ki=aV Pr)(s:Int)(l:List Int)(e:Int)(s2:Int)(ai:List Int)(aC:Int)(G:(D l)<=1000000/\D ai<=1000000):WP T Wj (.same (eG (vv ((s,l),e) ((s2,ai),aC)))) [.J (.agg [.int .i64 s,.Y (l.map ag)]),.J (.int .i64 e),.J (.agg [.int .i64 s2,.Y (ai.map ag)]),.J (.int .i64 aC)]:=by
 refine cB ?_;simp only[Wj];obtain⟨ck,cq⟩:=G;unfold vv;rcases F:(e==0)
 ·refine aX ?_;repeat' (intro h<;>simp only[h,go_sem,go_sem_proc,K5,ck,cq,F,eG,aH,ft,c1]<;>try refine aw ?_ ?_)
 ·have jm:e=0:=by simpa using F
  subst jm;rcases I:(aC==0)
  ·refine aX ?_;repeat' (intro h<;>simp only[h,go_sem,go_sem_proc,K5,ck,cq,F,I,eG,aH,ft,c1]<;>try refine aw ?_ ?_)
  ·have kl:aC=0:=by simpa using I
   subst kl;refine aX ?_;repeat' (intro h<;>simp only[h,go_sem,go_sem_proc,K5,ck,cq,F,eG,aH,ft,c1]<;>try refine aw ?_ ?_)
def vw (a b:a1):a1×Int:=if ei a=true then (if ei b=true then vv (w3 a.1 b.2 b.1 a.2) (mulR a.2 b.2) else (ft,1)) else (ft,1)
def pf (a b:a1):a1×Int:=if ei a=true then (if ei b=true then vw a (jT b.1,b.2) else (ft,1)) else (ft,1)
def n2 (a b:a1):a1×Int:=if ei a=true then (if ei b=true then vv (mulR a.1 b.1) (mulR a.2 b.2) else (ft,1)) else (ft,1)
def jU (a b:a1):a1×Int:=if ei a=true then (if ei b=true then (if (b.1.1==0)=true then (ft,15) else vv (mulR a.1 b.2) (mulR a.2 b.1)) else (ft,1)) else (ft,1)
theorem asY (a:Raw)(h:a.2.length<=1000000):(jT a).2.length<=1000000:=by
 unfold jT
 split
 ·rename_i ab;obtain⟨z,aS,e⟩:=(jR _).1 ab;rw[e,fS];exact np (by omega)
 ·simp
abbrev yw:Int×(List Int)×Int×(List Int)×Int×(List Int)×Int×(List Int)->List Data:=λ(s,l,s2,ai,cR,bL,cW,b3)=>[.agg [.int .i64 s,.Y (l.map ag),.int .i64 s2,.Y (ai.map ag)],.agg [.int .i64 cR,.Y (bL.map ag),.int .i64 cW,.Y (b3.map ag)]]
def zZ:=cp yw λ(s,l,s2,ai,cR,bL,cW,b3)=>cV (D l<=1000000/\D ai<=1000000/\D bL<=1000000/\D b3<=1000000) (.same (eG (vw ((s,l),(s2,ai)) ((cR,bL),(cW,b3)))))
theorem B4:∀a b,yw a=yw b->a=b:=by
  rintro⟨s1,dY,BV,BW,asN,asO,asP,asQ⟩ ⟨s2,ai,BX,BZ,asR,asS,asT,asU⟩ h;simp only[bb,Data.agg.injEq,Data.int.injEq,Data.Y.injEq] at h;exact ed h.1.1.2 (ed (map_inj fj _ _ h.1.2.1) (ed h.1.2.2.1.2 (ed (map_inj fj _ _ h.1.2.2.2.1) (ed h.2.1.1.2 (ed (map_inj fj _ _ h.2.1.2.1) (ed h.2.1.2.2.1.2 (map_inj fj _ _ h.2.1.2.2.2.1)))))))
@[go_sem] theorem afP (s:Int)(l:List Int)(s2:Int)(ai:List Int)(cR:Int)(bL:List Int)(cW:Int)(b3:List Int)(G:(D l)<=1000000/\D ai<=1000000/\D bL<=1000000/\D b3<=1000000):zZ [.agg [.int .i64 s,.Y (l.map ag),.int .i64 s2,.Y (ai.map ag)],.agg [.int .i64 cR,.Y (bL.map ag),.int .i64 cW,.Y (b3.map ag)]]=some (.same (eG (vw ((s,l),(s2,ai)) ((cR,bL),(cW,b3))))):=(cA B4 (s,l,s2,ai,cR,bL,cW,b3)).trans (cY G _)
theorem asZ (T:bh)(fG:T lT=aV vu)(Wt:T TZ=aV Wq)(qM:T u7=aV GM)(vx:T Dw=aV K6)(s:Int)(l:List Int)(s2:Int)(ai:List Int)(cR:Int)(bL:List Int)(cW:Int)(b3:List Int)(G:(D l)<=1000000/\D ai<=1000000/\D bL<=1000000/\D b3<=1000000):WP T Wc (.same (eG (vw ((s,l),(s2,ai)) ((cR,bL),(cW,b3))))) [.J (.agg [.int .i64 s,.Y (l.map ag),.int .i64 s2,.Y (ai.map ag)]),.J (.agg [.int .i64 cR,.Y (bL.map ag),.int .i64 cW,.Y (b3.map ag)])]:=by
 refine cB ?_;simp only[Wc];obtain⟨ck,cq,hH,jl⟩:=G;unfold vw
 by_cases ab:ei ((s,l),(s2,ai))=true
 ·by_cases bG:ei ((cR,bL),(cW,b3))=true
  ·have dx:=asL (s,l) (cW,b3) (cR,bL) (s2,ai);have cM:=Ec (s2,ai) (cW,b3);rw[ad ab,ad bG];dsimp only;generalize tQ:w3 (s,l) (cW,b3) (cR,bL) (s2,ai)=M1 at *;generalize g3:mulR (s2,ai) (cW,b3)=M2 at *;obtain⟨⟨cU,de⟩,aA⟩:=M1;obtain⟨⟨df,eD⟩,aC⟩:=M2;refine aX ?_;repeat' (intro h<;>simp only[h,go_sem,go_sem_proc,fG,Wt,qM,vx,ck,cq,hH,jl,ab,bG,tQ,g3,dx,cM,fT,db,eG,aH]<;>try refine aw ?_ ?_)
  ·have bG:ei ((cR,bL),(cW,b3))=false:=by simpa using bG
   rw[ad ab,ae (by simp[bG])];refine aX ?_;repeat' (intro h<;>simp only[h,go_sem,go_sem_proc,fG,Wt,qM,vx,ck,cq,hH,jl,ab,bG,eG,aH,ft,c1]<;>try refine aw ?_ ?_)
 ·have ab:ei ((s,l),(s2,ai))=false:=by simpa using ab
  rw[ae (by simp[ab])];refine aX ?_;repeat' (intro h<;>simp only[h,go_sem,go_sem_proc,fG,Wt,qM,vx,ck,cq,hH,jl,ab,eG,aH,ft,c1]<;>try refine aw ?_ ?_)
def z1:=cp yw λ(s,l,s2,ai,cR,bL,cW,b3)=>cV (D l<=1000000/\D ai<=1000000/\D bL<=1000000/\D b3<=1000000) (.same (eG (pf ((s,l),(s2,ai)) ((cR,bL),(cW,b3)))))
@[go_sem] theorem as0 (s:Int)(l:List Int)(s2:Int)(ai:List Int)(cR:Int)(bL:List Int)(cW:Int)(b3:List Int)(G:(D l)<=1000000/\D ai<=1000000/\D bL<=1000000/\D b3<=1000000):z1 [.agg [.int .i64 s,.Y (l.map ag),.int .i64 s2,.Y (ai.map ag)],.agg [.int .i64 cR,.Y (bL.map ag),.int .i64 cW,.Y (b3.map ag)]]=some (.same (eG (pf ((s,l),(s2,ai)) ((cR,bL),(cW,b3))))):=(cA B4 (s,l,s2,ai,cR,bL,cW,b3)).trans (cY G _)
theorem as1 (T:bh)(fG:T lT=aV vu)(zY:T Ga=aV O6)(k4:T yb=aV zZ)(s:Int)(l:List Int)(s2:Int)(ai:List Int)(cR:Int)(bL:List Int)(cW:Int)(b3:List Int)(G:(D l)<=1000000/\D ai<=1000000/\D bL<=1000000/\D b3<=1000000):WP T We (.same (eG (pf ((s,l),(s2,ai)) ((cR,bL),(cW,b3))))) [.J (.agg [.int .i64 s,.Y (l.map ag),.int .i64 s2,.Y (ai.map ag)]),.J (.agg [.int .i64 cR,.Y (bL.map ag),.int .i64 cW,.Y (b3.map ag)])]:=by
 refine cB ?_;simp only[We];obtain⟨ck,cq,hH,jl⟩:=G;unfold pf
 by_cases ab:ei ((s,l),(s2,ai))=true
 ·by_cases bG:ei ((cR,bL),(cW,b3))=true
  ·have dx:=asY (cR,bL) hH;rw[ad ab,ad bG];dsimp only;generalize tQ:jT (cR,bL)=M1 at *;obtain⟨cU,de⟩:=M1;refine aX ?_;repeat' (intro h<;>simp only[h,go_sem,go_sem_proc,fG,zY,k4,ck,cq,hH,jl,ab,bG,tQ,dx,fT,db,eG,aH]<;>try refine aw ?_ ?_)
  ·have bG:ei ((cR,bL),(cW,b3))=false:=by simpa using bG
   rw[ad ab,ae (by simp[bG])];refine aX ?_;repeat' (intro h<;>simp only[h,go_sem,go_sem_proc,fG,zY,k4,ck,cq,hH,jl,ab,bG,eG,aH,ft,c1]<;>try refine aw ?_ ?_)
 ·have ab:ei ((s,l),(s2,ai))=false:=by simpa using ab
  rw[ae (by simp[ab])];refine aX ?_;repeat' (intro h<;>simp only[h,go_sem,go_sem_proc,fG,zY,k4,ck,cq,hH,jl,ab,eG,aH,ft,c1]<;>try refine aw ?_ ?_)
def yx:=cp yw λ(s,l,s2,ai,cR,bL,cW,b3)=>cV (D l<=1000000/\D ai<=1000000/\D bL<=1000000/\D b3<=1000000) (.same (eG (n2 ((s,l),(s2,ai)) ((cR,bL),(cW,b3)))))
@[go_sem] theorem as2 (s:Int)(l:List Int)(s2:Int)(ai:List Int)(cR:Int)(bL:List Int)(cW:Int)(b3:List Int)(G:(D l)<=1000000/\D ai<=1000000/\D bL<=1000000/\D b3<=1000000):yx [.agg [.int .i64 s,.Y (l.map ag),.int .i64 s2,.Y (ai.map ag)],.agg [.int .i64 cR,.Y (bL.map ag),.int .i64 cW,.Y (b3.map ag)]]=some (.same (eG (n2 ((s,l),(s2,ai)) ((cR,bL),(cW,b3))))):=(cA B4 (s,l,s2,ai,cR,bL,cW,b3)).trans (cY G _)
theorem as3 (T:bh)(fG:T lT=aV vu)(qM:T u7=aV GM)(vx:T Dw=aV K6)(s:Int)(l:List Int)(s2:Int)(ai:List Int)(cR:Int)(bL:List Int)(cW:Int)(b3:List Int)(G:(D l)<=1000000/\D ai<=1000000/\D bL<=1000000/\D b3<=1000000):WP T Wf (.same (eG (n2 ((s,l),(s2,ai)) ((cR,bL),(cW,b3))))) [.J (.agg [.int .i64 s,.Y (l.map ag),.int .i64 s2,.Y (ai.map ag)]),.J (.agg [.int .i64 cR,.Y (bL.map ag),.int .i64 cW,.Y (b3.map ag)])]:=by
 refine cB ?_;simp only[Wf];obtain⟨ck,cq,hH,jl⟩:=G;unfold n2
 by_cases ab:ei ((s,l),(s2,ai))=true
 ·by_cases bG:ei ((cR,bL),(cW,b3))=true
  ·have dx:=Ec (s,l) (cR,bL);have cM:=Ec (s2,ai) (cW,b3);rw[ad ab,ad bG];dsimp only;generalize tQ:mulR (s,l) (cR,bL)=M1 at *;generalize g3:mulR (s2,ai) (cW,b3)=M2 at *;obtain⟨⟨cU,de⟩,aA⟩:=M1;obtain⟨⟨df,eD⟩,aC⟩:=M2;refine aX ?_;repeat' (intro h<;>simp only[h,go_sem,go_sem_proc,fG,qM,vx,ck,cq,hH,jl,ab,bG,tQ,g3,dx,cM,fT,db,eG,aH]<;>try refine aw ?_ ?_)
  ·have bG:ei ((cR,bL),(cW,b3))=false:=by simpa using bG
   rw[ad ab,ae (by simp[bG])];refine aX ?_;repeat' (intro h<;>simp only[h,go_sem,go_sem_proc,fG,qM,vx,ck,cq,hH,jl,ab,bG,eG,aH,ft,c1]<;>try refine aw ?_ ?_)
 ·have ab:ei ((s,l),(s2,ai))=false:=by simpa using ab
  rw[ae (by simp[ab])];refine aX ?_;repeat' (intro h<;>simp only[h,go_sem,go_sem_proc,fG,qM,vx,ck,cq,hH,jl,ab,eG,aH,ft,c1]<;>try refine aw ?_ ?_)
def Ed:=cp yw λ(s,l,s2,ai,cR,bL,cW,b3)=>cV (D l<=1000000/\D ai<=1000000/\D bL<=1000000/\D b3<=1000000) (.same (eG (jU ((s,l),(s2,ai)) ((cR,bL),(cW,b3)))))
@[go_sem] theorem as4 (s:Int)(l:List Int)(s2:Int)(ai:List Int)(cR:Int)(bL:List Int)(cW:Int)(b3:List Int)(G:(D l)<=1000000/\D ai<=1000000/\D bL<=1000000/\D b3<=1000000):Ed [.agg [.int .i64 s,.Y (l.map ag),.int .i64 s2,.Y (ai.map ag)],.agg [.int .i64 cR,.Y (bL.map ag),.int .i64 cW,.Y (b3.map ag)]]=some (.same (eG (jU ((s,l),(s2,ai)) ((cR,bL),(cW,b3))))):=(cA B4 (s,l,s2,ai,cR,bL,cW,b3)).trans (cY G _)
theorem as5 (T:bh)(fG:T lT=aV vu)(qM:T u7=aV GM)(vx:T Dw=aV K6)(s:Int)(l:List Int)(s2:Int)(ai:List Int)(cR:Int)(bL:List Int)(cW:Int)(b3:List Int)(G:(D l)<=1000000/\D ai<=1000000/\D bL<=1000000/\D b3<=1000000):WP T Wl (.same (eG (jU ((s,l),(s2,ai)) ((cR,bL),(cW,b3))))) [.J (.agg [.int .i64 s,.Y (l.map ag),.int .i64 s2,.Y (ai.map ag)]),.J (.agg [.int .i64 cR,.Y (bL.map ag),.int .i64 cW,.Y (b3.map ag)])]:=by
 refine cB ?_;simp only[Wl];obtain⟨ck,cq,hH,jl⟩:=G;unfold jU
 by_cases ab:ei ((s,l),(s2,ai))=true
 ·by_cases bG:ei ((cR,bL),(cW,b3))=true
  ·rw[ad ab,ad bG];dsimp only;rcases al:(cR==0)
   ·have dx:=Ec (s,l) (cW,b3);have cM:=Ec (s2,ai) (cR,bL);rw[ae (by simp)];generalize tQ:mulR (s,l) (cW,b3)=M1 at *;generalize g3:mulR (s2,ai) (cR,bL)=M2 at *;obtain⟨⟨cU,de⟩,aA⟩:=M1;obtain⟨⟨df,eD⟩,aC⟩:=M2;refine aX ?_;repeat' (intro h<;>simp only[h,go_sem,go_sem_proc,fG,qM,vx,ck,cq,hH,jl,ab,bG,al,tQ,g3,dx,cM,fT,db,eG,aH]<;>try refine aw ?_ ?_)
   ·rw[ad rfl];refine aX ?_;repeat' (intro h<;>simp only[h,go_sem,go_sem_proc,fG,qM,vx,ck,cq,hH,jl,ab,bG,al,eG,aH,ft,c1]<;>try refine aw ?_ ?_)
  ·have bG:ei ((cR,bL),(cW,b3))=false:=by simpa using bG
   rw[ad ab,ae (by simp[bG])];refine aX ?_;repeat' (intro h<;>simp only[h,go_sem,go_sem_proc,fG,qM,vx,ck,cq,hH,jl,ab,bG,eG,aH,ft,c1]<;>try refine aw ?_ ?_)
 ·have ab:ei ((s,l),(s2,ai))=false:=by simpa using ab
  rw[ae (by simp[ab])];refine aX ?_;repeat' (intro h<;>simp only[h,go_sem,go_sem_proc,fG,qM,vx,ck,cq,hH,jl,ab,eG,aH,ft,c1]<;>try refine aw ?_ ?_)
def z2 (c:Bool)(v:Rat):a1×Int:=if c=true then (av v,0) else (ft,6)
def iC (z:Int):Bool:=decide (z.natAbs<ee)
def mD (x y:Rat):Bool:=iC (x.num*y.den)&&(iC (y.num*x.den)&&(iC (x.num*y.den+y.num*x.den)&&iC ((x.den:Int)*y.den)))
def z6 (x y:Rat):Bool:=iC (x.num*y.num)&&iC ((x.den:Int)*y.den)
def w4 (x y:Rat):Bool:=iC (x.num*y.den)&&iC ((x.den:Int)*y.num)
theorem B5 {z:Int}(h:iC z=true):sE z=(bO z,0):=ad (by simpa [iC] using h)
theorem B6 {z:Int}(h:iC z=false):sE z=((0,[]),6):=ae (by simpa [iC] using h)
theorem qN {z:Int}(h:iC z=true):z.natAbs<ee:=by simpa [iC] using h
theorem as6 {a b c d:Int}(aN:a.natAbs<ee)(ah:b.natAbs<ee)(G:c.natAbs<ee)(aa:d.natAbs<ee):
  w3 (bO a) (bO b) (bO c) (bO d)=if (iC (a*b)&&(iC (c*d)&&iC (a*b+c*d)))=true then (bO (a*b+c*d),0) else ((0,[]),6):=by
 unfold w3;rw[BU aN ah,BU G aa];rcases F:iC (a*b)
 ·rw[B6 F];rfl
 ·rw[B5 F];rcases I:iC (c*d)
  ·rw[B6 I];rfl
  ·rw[B5 I];show sF (bO (a*b)) (bO (c*d))=_;rw[afw (qN F) (qN I)];rcases af:iC (a*b+c*d)
   ·rw[B6 af];rfl
   ·rw[B5 af];rfl
theorem Wu (x y:Rat):lX (x.num*y.den+y.num*x.den) ((x.den:Int)*y.den)=x+y:=by
 rw[<-Rat.divInt_add_divInt _ _ (by have:=den_pos x;omega) (by have:=den_pos y;omega),D6,D6]
theorem Wv (x y:Rat):lX (x.num*y.num) ((x.den:Int)*y.den)=x*y:=by
 rw[<-afQ,D6,D6]
theorem Ww (x y:Rat):lX (x.num*y.den) ((x.den:Int)*y.num)=x/y:=by
 rw[<-afQ,D6,<-Rat.inv_divInt,D6]
 rfl
theorem w5 (x:Rat):(x.den:Int)≠0:=by have:=den_pos x;omega
theorem Wx {x y:Rat}(O:dm x)(ar:dm y):vw (av x) (av y)=z2 (mD x y) (x+y):=by
 unfold vw;rw[ad (yu O),ad (yu ar)];show vv (w3 (bO x.num) (bO y.den) (bO y.num) (bO x.den)) (mulR (bO x.den) (bO y.den))=_;rw[as6 O.1 (w0 ar) ar.1 (w0 O),BU (w0 O) (w0 ar)];unfold mD;rcases F:iC (x.num*y.den)
 ·rfl
 ·rcases I:iC (y.num*x.den)
  ·rfl
  ·rcases af:iC (x.num*y.den+y.num*x.den)
   ·rfl
   ·rcases aM:iC ((x.den:Int)*y.den)
    ·rw[B6 aM];rfl
    ·rw[B5 aM];show ht (bO (x.num*y.den+y.num*x.den)) (bO ((x.den:Int)*y.den))=(av (x+y),0)
     rw[zX (qN af) (qN aM) (z7 (w5 x) (w5 y)),Wu]
theorem as7 {x:Rat}(h:dm x):dm (-x):=⟨by rw[Rat.neg_num];have:=h.1;omega,by rw[Rat.neg_den];exact h.2⟩
theorem Ps {x y:Rat}(O:dm x)(ar:dm y):pf (av x) (av y)=z2 (mD x (-y)) (x-y):=by
 unfold pf;rw[ad (yu O),ad (yu ar)]
 have:(jT (av y).1,(av y).2)=av (-y):=by
  unfold av;have:jT (bO y.num)=bO (-y.num):=by unfold jT;rw[ad (k2 ar.1),fS]
  dsimp only;rw[this];rfl
 rw[this,Wx O (as7 ar),K7]
theorem Wy {x y:Rat}(O:dm x)(ar:dm y):n2 (av x) (av y)=z2 (z6 x y) (x*y):=by
 unfold n2;rw[ad (yu O),ad (yu ar)];show vv (mulR (bO x.num) (bO y.num)) (mulR (bO x.den) (bO y.den))=_;rw[BU O.1 ar.1,BU (w0 O) (w0 ar)];unfold z6;rcases F:iC (x.num*y.num)
 ·rw[B6 F];rfl
 ·rw[B5 F];rcases aM:iC ((x.den:Int)*y.den)
  ·rw[B6 aM];rfl
  ·rw[B5 aM];show ht (bO (x.num*y.num)) (bO ((x.den:Int)*y.den))=(av (x*y),0)
   rw[zX (qN F) (qN aM) (z7 (w5 x) (w5 y)),Wv]
theorem Pt {x y:Rat}(O:dm x)(ar:dm y)(al:y≠0):jU (av x) (av y)=z2 (w4 x y) (x/y):=by
 unfold jU;rw[ad (yu O),ad (yu ar)];have aK:y.num≠0:=λh=>al (Rat.num_eq_zero.1 h)
 have:((av y).1.1==0)=false:=by
  show (y.num.sign==0)=false
  simpa using aK
 rw[this,ae (by simp)];show vv (mulR (bO x.num) (bO y.den)) (mulR (bO x.den) (bO y.num))=_;rw[BU O.1 (w0 ar),BU (w0 O) ar.1];unfold w4;rcases F:iC (x.num*y.den)
 ·rw[B6 F];rfl
 ·rw[B5 F];rcases aM:iC ((x.den:Int)*y.num)
  ·rw[B6 aM];rfl
  ·rw[B5 aM];show ht (bO (x.num*y.den)) (bO ((x.den:Int)*y.num))=(av (x/y),0)
   rw[zX (qN F) (qN aM) (z7 (w5 x) aK),Ww]
theorem as8 {x y:Rat}(h:mD x y=true):dm (x+y):=by
 unfold mD at h;simp only[ec] at h;rw[<-Wu];exact Pq (qN h.2.2.1) (qN h.2.2.2)
theorem afR {x y:Rat}(h:mD x (-y)=true):dm (x-y):=by rw[K7];exact as8 h
theorem afS {x y:Rat}(h:z6 x y=true):dm (x*y):=by
 unfold z6 at h;simp only[ec] at h;rw[<-Wv];exact Pq (qN h.1) (qN h.2)
theorem as9 {x y:Rat}(h:w4 x y=true):dm (x/y):=by
 unfold w4 at h;simp only[ec] at h;rw[<-Ww];exact Pq (qN h.1) (qN h.2)
def mE (x y:Rat):Int:=(x.num*y.den-y.num*x.den).sign
def lz (a b:a1):Int:=if ei a=true then (if ei b=true then (im a.1*im b.2-im b.1*im a.2).sign else 0) else 0
theorem Pu {x y:Rat}(O:dm x)(ar:dm y):lz (av x) (av y)=mE x y:=by
 unfold lz;rw[ad (yu O),ad (yu ar)];unfold av mE;rw[fS,fS,fS,fS]
theorem afT {x y:Rat}:mE x y=0↔x=y:=by
 unfold mE;rw[V3,Rat.eq_iff_mul_eq_mul];omega
theorem Pv {p q:Int}(aG:0<q):0<=p.fmod q/\p.fmod q<q:=⟨Int.fmod_nonneg_of_pos _ aG,Int.fmod_lt_of_pos _ aG⟩
theorem afU {p q r s:Int}(aG:0<q)(U:0<s)(h:p.fdiv q<r.fdiv s):p*s-r*q<0:=by
 have aA:=Pw p q;have aC:=Pw r s;have df:=Pv (p:=p) aG;have eD:=Pv (p:=r) U;generalize p.fdiv q=x at *;generalize r.fdiv s=y at *;generalize p.fmod q=u at *;generalize r.fmod s=v at *;subst aA aC;have F:q*s*(x+1)<=q*s*y:=Int.mul_le_mul_of_nonneg_left (by omega) (Pl (Int.mul_pos aG U));have I:u*s<q*s:=Int.mul_lt_mul_of_pos_right df.2 U;have af:0<=v*q:=yh eD.1 (by omega);have bZ:(q*x+u)*s-(s*y+v)*q=q*s*(x+1)-q*s*y+(u*s-q*s)-v*q:=by grind
 omega
theorem ata {p q r s:Int}(h:p.fdiv q=r.fdiv s):p*s-r*q=p.fmod q*s-r.fmod s*q:=by
 have aA:=Pw p q;have aC:=Pw r s;rw[h] at aA;generalize r.fdiv s=y at *;generalize p.fmod q=u at *;generalize r.fmod s=v at *;subst aA aC;grind
theorem afV (a b:Int):(a-b).sign = -(b-a).sign:=by rw[<-DV];congr 1;omega
theorem afW {p q:Int}(aE:p.natAbs<ee)(aG:q.natAbs<ee)(al:0<q):
  kF (p.sign,aJ p.natAbs) (q.sign,aJ q.natAbs)=(((p.fdiv q).sign,aJ (p.fdiv q).natAbs),((p.fmod q).sign,aJ (p.fmod q).natAbs),0):=DW aE aG (by omega)
def tW:=cp yw λ(s,l,s2,ai,cR,bL,cW,b3)=>cV (D l<=1000000/\D ai<=1000000/\D bL<=1000000/\D b3<=1000000) (.same (.int .i64 (lz ((s,l),(s2,ai)) ((cR,bL),(cW,b3)))))
@[go_sem] theorem afX (s:Int)(l:List Int)(s2:Int)(ai:List Int)(cR:Int)(bL:List Int)(cW:Int)(b3:List Int)(G:(D l)<=1000000/\D ai<=1000000/\D bL<=1000000/\D b3<=1000000):tW [.agg [.int .i64 s,.Y (l.map ag),.int .i64 s2,.Y (ai.map ag)],.agg [.int .i64 cR,.Y (bL.map ag),.int .i64 cW,.Y (b3.map ag)]]=some (.same (.int .i64 (lz ((s,l),(s2,ai)) ((cR,bL),(cW,b3))))):=(cA B4 (s,l,s2,ai,cR,bL,cW,b3)).trans (cY G _)
theorem atb (T:bh)(fG:T lT=aV vu)(qK:T Dx=aV Ph)(yy:T T5=aV VX)(s:Int)(l:List Int)(s2:Int)(ai:List Int)(cR:Int)(bL:List Int)(cW:Int)(b3:List Int)(G:(D l)<=1000000/\D ai<=1000000/\D bL<=1000000/\D b3<=1000000):WP T Wg (.same (.int .i64 (lz ((s,l),(s2,ai)) ((cR,bL),(cW,b3))))) [.J (.agg [.int .i64 s,.Y (l.map ag),.int .i64 s2,.Y (ai.map ag)]),.J (.agg [.int .i64 cR,.Y (bL.map ag),.int .i64 cW,.Y (b3.map ag)])]:=by
 refine cB ?_;simp only[Wg];obtain⟨ck,cq,hH,jl⟩:=G
 by_cases ab:ei ((s,l),(s2,ai))=true
 ·by_cases bG:ei ((cR,bL),(cW,b3))=true
  ·obtain⟨x,O,e⟩:=(K3 _).1 ab;obtain⟨y,ar,aC⟩:=(K3 _).1 bG;have hm:lz ((s,l),(s2,ai)) ((cR,bL),(cW,b3))=mE x y:=by rw[e,aC,Pu O ar]
   rw[hm];clear hm;have atc:(s,l)=bO x.num:=congrArg B3 e;have Wz:(s2,ai)=bO x.den:=congrArg Prod.snd e;have WA:(cR,bL)=bO y.num:=congrArg B3 aC;have atd:(cW,b3)=bO y.den:=congrArg Prod.snd aC;clear e aC;have GQ:=w0 O;have WB:=w0 ar;have rG:=den_pos x;have iS:=den_pos y;have ate:=O.1;have Tg:=ar.1;unfold mE;generalize x.num=P at *;generalize (x.den:Int)=aL at *;generalize y.num=cg at *;generalize (y.den:Int)=S at *
   cases atc
   cases Wz
   cases WA
   cases atd;simp only[go_sem,go_sem_proc,fG,qK,yy,ck,cq,hH,jl,ab,bG];refine dv [5,6,7,8] [135002,135003] (λ((sI,p,q,r,t):Int×Int×Int×Int×Int) tm mem=>(sI=1\/sI = -1)/\0<q/\0<t/\p.natAbs<ee/\q.natAbs<ee/\r.natAbs<ee/\t.natAbs<ee/\(P*S-cg*aL).sign=sI*(p*t-r*q).sign/\tm 9=.J (.int .i64 sI)/\mem 135005=some (0,[.J (.int .i64 p.sign),.J (.Y ((aJ p.natAbs).map ag))])/\mem 135006=some (0,[.J (.int .i64 q.sign),.J (.Y ((aJ q.natAbs).map ag))])/\mem 135007=some (0,[.J (.int .i64 r.sign),.J (.Y ((aJ r.natAbs).map ag))])/\mem 135008=some (0,[.J (.int .i64 t.sign),.J (.Y ((aJ t.natAbs).map ag))])) (λ(_,_,q,_,_)=>q.natAbs) (1,P,aL,cg,S) (by refine⟨.inl rfl,rG,iS,ate,GQ,Tg,WB,by rw[nY],rfl,?_,?_,?_,?_⟩<;>rfl) ?_;intro vs ms aT aR;simp only[go_sem,go_sem_proc,fG,qK,yy] at aT aR;subst aT aR;rintro⟨sI,p,q,r,t⟩ tm mem Q hm ⟨Px,mv,K8,aE,aG,z8,bD,hM,iN,K9,La,k5,Ee⟩;simp only[go_sem,go_sem_proc,fG,qK,yy,bb] at Q hm;obtain⟨bk,bI,bH,b6⟩:=Q;have Lb:=np aE;have Lc:=np aG;have B7:=np z8;have lt:=np bD;have jQ:=afW aE aG mv;have mw:=afW z8 bD K8;have afY:=GO (y:=q) aE (by omega);have Ld:=GO (y:=t) z8 (by omega);have GR:=np afY;have Le:=np Ld;have gR:wW ((p.fdiv q).sign,aJ (p.fdiv q).natAbs) ((r.fdiv t).sign,aJ (r.fdiv t).natAbs)=hF (p.fdiv q) (r.fdiv t):=afx afY Ld;have aJ8:=Pv (p:=p) mv;have bv:=Pv (p:=r) K8;have atf:IntKind.i64.wrap (0-sI) = -sI:=by rcases Px with rfl|rfl<;>rfl
   rcases yk (p.fdiv q) (r.fdiv t) with ay|heq|iM
   ·have hv:=afU mv K8 ay;rw[KV ay] at gR;rw[hM,rD hv];have hw:IntKind.i64.wrap (sI * -1)=sI * -1:=by rcases Px with rfl|rfl<;>rfl
    refine aX ?_;repeat' (intro h<;>simp only[h,go_sem,go_sem_proc,fG,qK,yy,bk,bI,bH,b6,iN,hm,K9,La,k5,Ee,Lb,Lc,B7,lt,GR,Le,jQ,mw,gR,hw,hh,db,show ((-1:Int)==0)=false from rfl]<;>try refine aw ?_ ?_)
   ·have hv:=ata heq;rw[heq,O8] at gR
    have fw:∀a:Int,-1<=a->a<=1->IntKind.i64.wrap (sI*a)=sI*a:=by
     intro a F I;rcases Px with rfl|rfl<;>exact wrap64 _ (by omega) (by omega)
    rw[heq] at jQ GR;have aJ9:(p.fmod q).natAbs<ee:=by omega
    have aKa:(r.fmod t).natAbs<ee:=by omega
    rw[hv] at hM;generalize p.fmod q=u at *;generalize r.fmod t=v at *
    by_cases hu:u=0
    ·subst hu
     have U:(0*t-v*q).sign=(0:Int).sign-v.sign:=by
      rw[zT,afZ,DV,sG,jS mv,vh,yz,afZ]
     rw[U] at hM;rw[hM];have af:=rF v;have BR:IntKind.i64.wrap ((0:Int).sign-v.sign)=(0:Int).sign-v.sign:=wrap64 _ (by rw[yz];omega) (by rw[yz];omega);have hw:=fw ((0:Int).sign-v.sign) (by rw[yz];omega) (by rw[yz];omega);refine aX ?_;repeat' (intro h<;>simp only[h,go_sem,go_sem_proc,fG,qK,yy,bk,bI,bH,b6,iN,hm,K9,La,k5,Ee,Lb,Lc,B7,lt,GR,Le,jQ,mw,gR,hw,BR,hh,db,show ((0:Int)==0)=true from rfl,show ((0:Int).sign==0)=true from rfl]<;>try refine aw ?_ ?_)
    ·have D4:0<u:=by omega
     have WC:(u.sign==0)=false:=by simpa using hu
     by_cases FL:v=0
     ·subst FL
      have U:(u*t-0*q).sign=u.sign-(0:Int).sign:=by
       rw[zT,KJ,sG,jS K8,vh,yz,KJ]
      rw[U] at hM;rw[hM];have af:=rF u;have BR:IntKind.i64.wrap (u.sign-(0:Int).sign)=u.sign-(0:Int).sign:=wrap64 _ (by rw[yz];omega) (by rw[yz];omega);have hw:=fw (u.sign-(0:Int).sign) (by rw[yz];omega) (by rw[yz];omega);refine aX ?_;repeat' (intro h<;>simp only[h,go_sem,go_sem_proc,fG,qK,yy,bk,bI,bH,b6,iN,hm,K9,La,k5,Ee,Lb,Lc,B7,lt,GR,Le,jQ,mw,gR,hw,BR,WC,hh,db,show ((0:Int)==0)=true from rfl,show ((0:Int).sign==0)=true from rfl]<;>try refine aw ?_ ?_)
     ·have nO:(v.sign==0)=false:=by simpa using FL
      refine aX ?_;repeat' (intro h<;>simp only[h,go_sem,go_sem_proc,fG,qK,yy,bk,bI,bH,b6,iN,hm,K9,La,k5,Ee,Lb,Lc,B7,lt,GR,Le,jQ,mw,gR,WC,nO,atf,hh,db,show ((0:Int)==0)=true from rfl]<;>try refine aw ?_ ?_)
      refine⟨(-sI,q,u,t,v),by dsimp only;omega,by dsimp only;omega,by dsimp only;omega,by dsimp only;omega,by dsimp only;omega,by dsimp only;omega,by dsimp only;omega,by dsimp only;omega,?_,by simp[go_sem],by simp[go_sem],by simp[go_sem],by simp[go_sem],by simp[go_sem]⟩
      dsimp only;rw[hM,afV (q*v) (t*u),Int.neg_mul_neg,nh t u,nh q v]
   ·have hv:=afU K8 mv iM;rw[KW iM] at gR;rw[hM,afV,rD hv];have hw:IntKind.i64.wrap (sI*1)=sI * -(-1):=by rcases Px with rfl|rfl<;>rfl
    refine aX ?_;repeat' (intro h<;>simp only[h,go_sem,go_sem_proc,fG,qK,yy,bk,bI,bH,b6,iN,hm,K9,La,k5,Ee,Lb,Lc,B7,lt,GR,Le,jQ,mw,gR,hw,hh,db,show ((1:Int)==0)=false from rfl]<;>try refine aw ?_ ?_)
  ·have bG:ei ((cR,bL),(cW,b3))=false:=by simpa using bG
   have hm:lz ((s,l),(s2,ai)) ((cR,bL),(cW,b3))=0:=by unfold lz;rw[ad ab,ae (by simp[bG])]
   rw[hm];refine aX ?_;repeat' (intro h<;>simp only[h,go_sem,go_sem_proc,fG,qK,yy,ck,cq,hH,jl,ab,bG]<;>try refine aw ?_ ?_)
 ·have ab:ei ((s,l),(s2,ai))=false:=by simpa using ab
  have hm:lz ((s,l),(s2,ai)) ((cR,bL),(cW,b3))=0:=by unfold lz;rw[ae (by simp[ab])]
  rw[hm];refine aX ?_;repeat' (intro h<;>simp only[h,go_sem,go_sem_proc,fG,qK,yy,ck,cq,hH,jl,ab]<;>try refine aw ?_ ?_)
def WD:bT:=cn 22 2 [.t 4] (X [dH 3 108003 1,cH 4 false] (.seq (X [aU 6 1 3,bn 7 .lss 6 0,H 8 7,⟨some 9,some (8,false),.load 1 false (.t 3)⟩,⟨some 10,some (8,false),.bin .gtr (.t 9) (.c (au 40))⟩,eu 11 8 10,H 12 11,⟨some 13,some (12,false),.cQ (.t 0)⟩,⟨some 14,some (12,false),.len (.t 13)⟩,⟨some 15,some (12,false),.load 1 false (.t 3)⟩,⟨some 16,some (12,false),.bin .neq (.t 14) (.t 15)⟩,eu 17 12 16] (a7 17 (X [cH 4 false] .ret) .skip)) (X [(aD 5 (.alloc 108005 [(.J .uJ)])),⟨none,none,.store 1 (.t 5) (.c (.fy oH []))⟩] (X [H 18 0,(aD 19 (.pD Bx [(.t 3),(.t 5)])),(cE 20 TV 18 19),fs 21 20,H 4 21] .ret))))
def WE:bT:=cn 48 2 [.t 4,.t 5] (X [eM 4,bA 5 0] (.seq (X [H 11 0,H 12 1,(cE 13 TS 11 12),fs 14 13] (a7 14 (X [eM 4,bA 5 1] .ret) .skip)) (X [H 16 0,H 17 1,(aD 18 (.call TW [(.t 16),(.t 17),(.c (.J (.bool true)))])),H 15 18,bN 19 0 15,bN 20 1 15,H 6 19,H 7 20] (.seq (.block 0 (X [H 22 6,g8 23 22,bl 24 2 23,aU 25 1 24,H 21 25] (a7 21 (X [eM 4,bA 5 6] .ret) (X [H 27 7,cm 28 27,bn 29 .gtr 28 0,H 26 29] (a7 26 (X [eM 4,bA 5 17] .ret) .skip))))) (X [eM 8] (.seq (X [H 30 6,g8 31 30,bl 32 0 31,aU 33 1 32,cm 34 33,bA 35 0] (.block 1 (.ghost (.ow 8 109045 4) (.loop  (X [bB 36 .lss 35 34] (.seq (a7 36 .skip (.exit 1)) (.seq (.block 2 (X [b2 37 1 33 35,aU 38 1 37,H 10 38] (.ops [H 39 8,H 40 10,H 41 1,b2 42 4 40 41,bw 43 4 42,(aD 44 (.fc 109044 false [(au 0),.nil,(au 0),.nil] 4 1 [(0,4,(.t 43))])),(aD 45 (.app 109045 [(au 0),.nil,(au 0),.nil] 64 (.t 39) (.t 44))),H 8 45]))) (.ops [bn 46 .add 35 1,H 35 46])))))))) (X [H 47 8,H 4 47,bA 5 0] .ret)))))))
def WG:bT:=cn 6 1 [.t 2] (X [dH 1 125001 0,cH 2 false] (X [bw 3 4 1,(dX 4 lT 3),fs 5 4,H 2 5] .ret))
def WH:bT:=cn 22 3 [.t 4] (X [dH 3 127003 0,cH 4 false] (X [bl 5 0 3,aU 6 1 5,cm 7 6,aU 8 1 1,bB 9 .neq 7 8,H 10 9,⟨some 11,some (10,false),.load 1 false (.t 2)⟩,⟨some 12,some (10,false),.dQ 1 (.t 3)⟩,⟨some 13,some (10,false),.load 4 true (.t 12)⟩,⟨some 14,some (10,false),.jD (.t 11) [(.t 13)]⟩,eu 15 10 14,H 16 15,⟨some 17,some (16,false),.dQ 0 (.t 3)⟩,⟨some 18,some (16,false),.load 1 false (.t 17)⟩,⟨some 19,some (16,false),.load 1 false (.t 2)⟩,⟨some 20,some (16,false),.call Kg [(.t 18),(.t 19)]⟩,eu 21 16 20,H 4 21] .ret))
def Lf:bT:=cn 65 3 [.t 6,.t 7] (X [(aD 6 (.cQ (.c (.J .uI)))),eM 7] (X [H 13 1,(aD 14 (.build [.nil,(au 0),(.J (.bool false))] [(1,1,(.t 13))])),dH 15 129015 14,H 8 15] (.seq (X [H 16 0,cm 17 16,bA 18 0] (.block 0 (.loop  (X [bB 19 .lss 18 17] (.seq (a7 19 .skip (.exit 0)) (.seq (.block 1 (X [b2 20 5 16 18,bw 21 5 20,(aD 10 (.alloc 129010 [.nil,(au 0),.nil,(au 0),.nil])),bu 5 10 21] (.nK [H 22 8,H 23 8,g8 24 23,bl 25 0 24,aU 26 1 25,bl 27 0 10,aU 28 1 27,(aD 29 (.ov 129029 4 Oe [(.t 28)])),bl 30 1 10,bw 31 4 30,(aD 32 (.fc 129032 false [(au 0),.nil,(au 0),.nil] 4 1 [(0,4,(.t 31))])),(aD 33 (.app 129033 [(au 0),.nil,(au 0),.nil] 64 (.t 29) (.t 32))),(aD 34 (.fc 129034 true [.nil] 1 1 [(0,1,(.t 33))])),(aD 35 (.app 129035 [.nil] 24 (.t 26) (.t 34))),g8 36 22,bl 37 0 36,bu 1 37 35] [[],[],[],[],[],[],[],[4],[],[7],[],[4],[4],[],[],[],[]]))) (.ghost (.move) (.ops [bn 38 .add 18 1,H 18 38])))))))) (X [eM 11] (.seq (X [bA 12 0] (.block 2 (.ghost (.ow 11 129061 1) (.loop  (.seq (X [H 39 12,H 40 1,bB 41 .lss 39 40,H 42 41,⟨some 43,some (42,true),.cQ (.t 8)⟩,⟨some 44,some (42,true),.sd (.t 43)⟩,⟨some 45,some (42,true),.dQ 2 (.t 44)⟩,⟨some 46,some (42,true),.load 1 false (.t 45)⟩,⟨some 47,some (42,true),.un .not (.t 46)⟩,gH 48 42 47] (a7 48 .skip (.exit 2))) (.seq (.block 3 (X [H 51 8,H 52 12,H 53 11,cm 54 53,bB 55 .sub 52 54,H 56 12,(Gi 57 T3 51 55 56)] (a7 57 (X [H 58 11,H 59 12,(aD 60 (.fc 129060 false [(au 0)] 1 1 [(0,1,(.t 59))])),(aD 61 (.app 129061 [(au 0)] 8 (.t 58) (.t 60))),H 11 61] (X [H 62 2] (a7 62 (.exit 2) .skip))) .skip))) (.ops [H 49 12,bn 50 .add 49 1,H 12 50]))))))) (X [H 63 8,H 64 11,H 6 63,H 7 64] .ret))))))
def yA:bT:=cn 172 3 [.t 6] (X [cH 6 false] (X [H 15 1,H 7 15] (.seq (.block 0 (.loop  (.seq (X [H 16 7,H 17 0,g8 18 17,bl 19 1 18,aU 20 1 19,bB 21 .lss 16 20,H 22 21,⟨some 23,some (22,true),.cQ (.t 0)⟩,⟨some 24,some (22,true),.sd (.t 23)⟩,⟨some 25,some (22,true),.dQ 0 (.t 24)⟩,⟨some 26,some (22,true),.load 1 false (.t 25)⟩,⟨some 27,some (22,true),.cQ (.t 7)⟩,⟨some 28,some (22,true),.m8 1 (.t 26) (.t 27)⟩,⟨some 29,some (22,true),.load 1 false (.t 28)⟩,⟨some 30,some (22,true),.cQ (.t 2)⟩,⟨some 31,some (22,true),.m8 4 (.t 29) (.t 30)⟩,⟨some 32,some (22,true),.load 4 true (.t 31)⟩,⟨some 33,some (22,true),.call Kk [(.t 32)]⟩,gH 34 22 33] (a7 34 .skip (.exit 0))) (.block 1 (.ops [H 35 7,bn 36 .add 35 1,H 7 36]))))) (.seq (X [H 37 7,H 38 0,g8 39 38,bl 40 1 39,aU 41 1 40,bB 42 .eql 37 41] (a7 42 (X [cH 6 true] .ret) .skip)) (ga [H 43 0,g8 44 43,bl 45 0 44,aU 46 1 45,H 47 1,H 48 0,g8 49 48,bl 50 0 49,aU 51 1 50,H 52 7,H 53 0,g8 54 53,bl 55 0 54,aU 56 1 55,H 57 7,b2 58 1 56 57,aU 59 1 58,H 60 0,g8 61 60,bl 62 0 61,aU 63 1 62,H 64 1,b2 65 1 63 64,aU 66 1 65,b2 67 1 46 47,bu 1 67 59,b2 68 1 51 52,bu 1 68 66] aqZ (X [H 69 0,g8 70 69,bl 71 0 70,aU 72 1 71,H 73 1,b2 74 1 72 73,aU 75 1 74,H 76 2,b2 77 4 75 76,bw 78 4 77,(aD 8 (.alloc 148008 [(au 0),.nil,(au 0),.nil])),bu 4 8 78] (.seq (X [H 79 0,g8 80 79,bl 81 0 80,aU 82 1 81,H 83 1,b2 84 1 82 83,aU 85 1 84,cm 86 85,bA 87 0] (.block 2 (.loop  (X [bB 88 .lss 87 86] (.seq (a7 88 .skip (.exit 2)) (.seq (.block 3 (X [H 89 87,b2 90 4 85 87,bw 91 4 90,(aD 10 (.alloc 148010 [(au 0),.nil,(au 0),.nil])),H 9 89,bu 4 10 91] (.nK [H 92 0,g8 93 92,bl 94 0 93,aU 95 1 94,H 96 1,b2 97 1 95 96,aU 98 1 97,H 99 9,H 100 0,bw 101 4 10,bw 102 4 8,(cE 103 Dy 101 102),bN 104 0 103,bN 105 1 103,(aD 106 (.me 2 Bz [(.t 100),(.t 104),(.t 105)])),b2 107 4 98 99,bu 4 107 106] [[],[],[],[],[],[],[],[],[],[],[],[],[],[],[3,6],[],[]]))) (.ops [bn 108 .add 87 1,H 87 108]))))))) (.seq (X [H 109 0,g8 110 109,bl 111 0 110,aU 112 1 111,cm 113 112,bA 114 0] (.block 4 (.loop  (X [bB 115 .lss 114 113] (.seq (a7 115 .skip (.exit 4)) (.seq (.block 5 (X [H 116 114,b2 117 1 112 114,aU 118 1 117,H 11 116,H 12 118] (X [H 119 12,H 120 2,b2 121 4 119 120,bw 122 4 121,(aD 13 (.alloc 148013 [(au 0),.nil,(au 0),.nil])),bu 4 13 122] (.seq (X [H 123 11,H 124 1,bB 125 .eql 123 124,H 126 125,⟨some 127,some (126,false),.load 4 true (.t 13)⟩,⟨some 128,some (126,false),.call Kk [(.t 127)]⟩,eu 129 126 128] (a7 129 (.exit 5) .skip)) (X [bA 14 0] (.block 6 (.loop  (.seq (X [H 130 14,H 131 12,cm 132 131,bB 133 .lss 130 132,H 134 133,⟨some 135,some (134,true),.cQ (.t 0)⟩,⟨some 136,some (134,true),.sd (.t 135)⟩,⟨some 137,some (134,true),.dQ 2 (.t 136)⟩,⟨some 138,some (134,true),.load 1 false (.t 137)⟩,⟨some 139,some (134,true),.un .not (.t 138)⟩,gH 140 134 139] (a7 140 .skip (.exit 6))) (.seq (.block 7 (.nK [H 143 12,H 144 14,H 145 0,H 146 12,H 147 14,b2 148 4 146 147,bw 149 4 148,H 150 0,bw 151 4 13,H 152 0,g8 153 152,bl 154 0 153,aU 155 1 154,H 156 1,b2 157 1 155 156,aU 158 1 157,H 159 14,b2 160 4 158 159,bw 161 4 160,(cE 162 wE 151 161),bN 163 0 162,bN 164 1 162,(aD 165 (.me 2 Bz [(.t 150),(.t 163),(.t 164)])),(cE 166 yc 149 165),bN 167 0 166,bN 168 1 166,(aD 169 (.me 2 Bz [(.t 145),(.t 167),(.t 168)])),b2 170 4 143 144,bu 4 170 169] [[],[],[],[],[],[],[],[],[],[],[],[],[],[],[],[],[],[],[],[],[],[],[6],[],[],[],[],[],[]])) (.ops [H 141 14,bn 142 .add 141 1,H 14 142])))))))))) (.ops [bn 171 .add 114 1,H 114 171]))))))) (X [cH 6 false] .ret)))))))))
def WI:bT:=cn 7 1 [.t 2] (X [dH 1 167001 0,cH 2 false] (X [bl 3 0 1,bl 4 0 3,aU 5 1 4,bn 6 .eql 5 0,H 2 6] .ret))
def Py:bT:=cn 19 3 [.cell 6 4 true] (X [dH 4 168004 1,(aD 6 (.alloc 168006 [(au 0),.nil,(au 0),.nil]))] (X [H 7 0,H 8 0,g8 9 8,bl 10 2 9,aU 11 1 10,H 12 11,⟨some 13,some (12,false),.cQ (.t 2)⟩,⟨some 14,some (12,false),.bin .neq (.t 13) (.c (au 0))⟩,eu 15 12 14,g8 16 7,bl 17 2 16,bu 1 17 15] (X [bw 18 4 4,bu 4 6 18] .ret)))
def Ef:bT:=cn 92 2 [.cell 4 3 true,.t 5] (X [(aD 4 (.alloc 217004 [.nil,.nil,.nil])),bA 5 0] (.seq (X [H 15 0,H 16 1,(cE 17 Uf 15 16),fs 18 17] (a7 18 (X [(aD 19 (.build [.nil,.nil,.nil] [])),bu 3 4 19,bA 5 1] .ret) .skip)) (X [H 20 0,H 21 1,(cE 22 Ug 20 21),H 6 22] (X [(aD 7 (.alloc 217007 [.nil,.nil,.nil]))] (.seq (.block 0 (.loop  (.block 1 (X [H 24 6,(dX 25 Om 24),H 23 25,bN 26 0 23,bN 27 1 23,(aD 8 (.alloc 217008 [.nil])),bu 1 8 26,H 9 27] (.seq (X [H 28 9,fs 29 28] (a7 29 (X [(aD 30 (.build [.nil,.nil,.nil] [])),bu 3 4 30,bA 5 6] .ret) .skip)) (X [eM 10] (.seq (X [H 31 6,cm 32 31,bA 33 0] (.block 2 (.ghost (.ow 10 217057 1) (.loop  (X [bB 34 .lss 33 32] (.seq (a7 34 .skip (.exit 2)) (.seq (.block 3 (X [H 35 33,b2 36 1 31 33,aU 37 1 36,(aD 11 (.alloc 217011 [(au 0)])),bu 1 11 35,H 12 37] (.seq (ga [aU 38 1 8,aU 39 1 11,b2 40 4 38 39,bw 41 4 40,H 42 12,H 43 12,g8 44 43,bl 45 22 44,aU 46 1 45,g8 47 42,bl 48 11 47,(aD 49 (.o0 11 1 (.t 48) (.t 46))),aU 50 1 49,(dX 51 pa 50),(cE 52 oI 41 51),bn 53 .geq 52 0] Ou (a7 53 (.exit 3) .skip)) (X [H 54 10,aU 55 1 11,(aD 56 (.fc 217056 false [(au 0)] 1 1 [(0,1,(.t 55))])),(aD 57 (.app 217057 [(au 0)] 8 (.t 54) (.t 56))),H 10 57] (.ops [H 58 12,H 59 12,g8 60 59,bl 61 11 60,(aD 62 (.tb 11 1 (.t 61) (some (.c (au 1))) none none)),(aD 63 (.pD DA [(.t 8),(.t 11)])),(cE 64 wF 62 63),g8 65 58,bl 66 22 65,bu 1 66 64]))))) (.ops [bn 67 .add 33 1,H 33 67])))))))) (.seq (X [H 68 10,cm 69 68,bn 70 .eql 69 0] (a7 70 (X [aU 71 1 8,bl 72 0 7,bu 1 72 71] (.exit 0)) .skip)) (.ghost (.freeze 10) (.ops [bl 73 2 7,aU 74 1 73,H 75 10,(aD 76 (.fc 217076 false [.nil] 1 1 [(0,1,(.t 75))])),(aD 77 (.app 217077 [.nil] 24 (.t 74) (.t 76))),bl 78 2 7,bu 1 78 77])))))))))) (.seq (.ghost (.many) (.ops [H 80 1,bl 81 0 7,aU 82 1 81,(cE 83 Uh 80 82),H 79 83,bN 84 0 79,bN 85 1 79,H 13 84,H 14 85])) (.seq (X [H 86 14,fs 87 86] (a7 87 (X [(aD 88 (.build [.nil,.nil,.nil] [])),bu 3 4 88,bA 5 6] .ret) .skip)) (X [H 89 13,bl 90 1 7,bu 1 90 89] (X [bw 91 3 7,bu 3 4 91,bA 5 0] .ret)))))))))
def WJ:bT:=cn 32 2 [.t 4] (X [cH 4 false] (X [H 9 0,cm 10 9,(aD 5 (.alloc 227005 [(au 0)])),bu 1 5 10] (X [(aD 6 (.alloc 227006 [(.J .uJ)])),⟨none,none,.store 1 (.t 6) (.c (.fy ve []))⟩] (X [(aD 11 (.pD Kq [(.t 6)])),H 7 11] (X [(aD 12 (.pD Kr [(.t 6),(.t 5)])),H 8 12] (X [aU 13 1 5,bn 14 .leq 13 60,H 15 14,⟨some 16,some (15,true),.cQ (.t 1)⟩,⟨some 17,some (15,true),.len (.t 16)⟩,⟨some 18,some (15,true),.bin .leq (.t 17) (.c (au 2000))⟩,gH 19 15 18,H 20 19,⟨some 21,some (20,true),.cQ (.t 0)⟩,⟨some 22,some (20,true),.cQ (.t 7)⟩,⟨some 23,some (20,true),.call Ks [(.t 21),(.t 22)]⟩,⟨some 24,some (20,true),.un .not (.t 23)⟩,gH 25 20 24,H 26 25,⟨some 27,some (26,true),.cQ (.t 1)⟩,⟨some 28,some (26,true),.cQ (.t 8)⟩,⟨some 29,some (26,true),.call DB [(.t 27),(.t 28)]⟩,⟨some 30,some (26,true),.un .not (.t 29)⟩,gH 31 26 30,H 4 31] .ret))))))
def B8:bT:=cn 73 2 [.t 4] (X [eM 4] (X [eM 5] (.seq (X [H 12 0,cm 13 12,bA 14 0] (.block 0 (.ghost (.ow 5 228023 1) (.loop  (X [bB 15 .lss 14 13] (.seq (a7 15 .skip (.exit 0)) (.seq (.block 1 (X [b2 16 1 12 14,aU 17 1 16,H 7 17] (.ops [H 18 5,H 19 7,(aD 20 (.build [(au 0),.nil,.nil,.nil,.nil,.nil,.nil,.nil,.nil,.nil,.nil,(au 0),(au 0),(au 0),(au 0),(au 0),(au 0),(au 0),(au 0),(au 0),(au 0),(au 0),(au 0),(.J (.bool false))] [(0,1,(.t 19)),(22,1,(.c (au 10)))])),dH 21 228021 20,(aD 22 (.fc 228022 true [(.J .uI)] 1 1 [(0,1,(.t 21))])),(aD 23 (.app 228023 [(.J .uI)] 8 (.t 18) (.t 22))),H 5 23]))) (.ghost (.many) (.ops [bn 24 .add 14 1,H 14 24]))))))))) (.seq (X [H 25 1,cm 26 25,bA 27 0] (.block 2 (.loop  (X [bB 28 .lss 27 26] (.seq (a7 28 .skip (.exit 2)) (.seq (.block 3 (X [b2 29 4 25 27,bw 30 4 29,(aD 9 (.alloc 228009 [(au 0),(au 0),(au 0),(au 0)])),bu 4 9 30] (X [H 31 5,bl 32 0 9,aU 33 1 32,b2 34 1 31 33,aU 35 1 34,H 10 35] (ga [H 36 10,bl 37 2 9,aU 38 1 37,H 39 10,bl 40 2 9,aU 41 1 40,g8 42 39,bl 43 1 42,(aD 44 (.o0 10 1 (.t 43) (.t 41))),aU 45 1 44,bw 46 4 9,(aD 47 (.fc 228047 false [(au 0),(au 0),(au 0),(au 0)] 4 1 [(0,4,(.t 46))])),(aD 48 (.app 228048 [(au 0),(au 0),(au 0),(au 0)] 32 (.t 45) (.t 47))),g8 49 36,bl 50 1 49,(aD 51 (.o0 10 1 (.t 50) (.t 38))),bu 1 51 48] [[],[],[],[],[],[],[],[],[],[],[],[],[2],[],[],[],[]] (.seq (.ghost (.many) (.ops [bl 52 2 9,aU 53 1 52,bn 54 .add 53 1,H 11 54])) (.block 4 (.loop  (.seq (X [H 55 11,bn 56 .leq 55 10] (a7 56 .skip (.exit 4))) (.seq (.block 5 (.nK [H 59 10,H 60 11,g8 61 59,bl 62 11 61,(aD 63 (.o0 11 1 (.t 62) (.t 60))),aU 64 1 63,bl 65 3 9,aU 66 1 65,bB 67 .add 64 66,g8 68 59,bl 69 11 68,(aD 70 (.o0 11 1 (.t 69) (.t 60))),bu 1 70 67] UD)) (.ops [H 57 11,bn 58 .add 57 1,H 11 58])))))))))) (.ops [bn 71 .add 27 1,H 27 71]))))))) (.seq (.ghost (.many) (.ops [H 72 5,H 4 72])) .ret)))))
def GS:bT:=cn 72 1 [.t 2,.t 3] (X [eM 2,cH 3 false] (.seq (X [H 11 0,cm 12 11,bA 13 0] (.block 0 (.loop  (X [bB 14 .lss 13 12] (.seq (a7 14 .skip (.exit 0)) (.seq (.block 1 (X [b2 15 1 11 13,aU 16 1 15,H 5 16] (.ops [H 17 5,g8 18 17,bl 19 23 18,⟨none,none,.store 1 (.t 19) (.c (.J (.bool false)))⟩]))) (.ops [bn 20 .add 13 1,H 13 20]))))))) (.block 2 (.loop  (.block 3 (X [H 22 0,(dX 23 Uj 22),H 21 23,bN 24 0 21,bN 25 1 21,H 6 24,H 7 25] (.seq (X [H 26 7,fs 27 26] (a7 27 (X [eM 2,cH 3 false] .ret) .skip)) (X [cH 8 false] (.seq (X [H 28 0,cm 29 28,bA 30 0] (.block 4 (.loop  (X [bB 31 .lss 30 29] (.seq (a7 31 .skip (.exit 4)) (.seq (.block 5 (X [H 32 30,b2 33 1 28 30,aU 34 1 33,H 9 32,H 10 34] (ga [H 35 10,g8 36 35,bl 37 22 36,aU 38 1 37,bn 39 .lss 38 10,H 40 39,⟨some 41,some (40,true),.cQ (.t 10)⟩,⟨some 42,some (40,true),.sd (.t 41)⟩,⟨some 43,some (40,true),.dQ 23 (.t 42)⟩,⟨some 44,some (40,true),.load 1 false (.t 43)⟩,⟨some 45,some (40,true),.un .not (.t 44)⟩,gH 46 40 45,H 47 46,⟨some 48,some (47,true),.cQ (.t 6)⟩,⟨some 49,some (47,true),.cQ (.t 9)⟩,⟨some 50,some (47,true),.m8 4 (.t 48) (.t 49)⟩,⟨some 51,some (47,true),.load 4 true (.t 50)⟩,⟨some 52,some (47,true),.cQ (.t 10)⟩,⟨some 53,some (47,true),.cQ (.t 10)⟩,⟨some 54,some (47,true),.sd (.t 53)⟩,⟨some 55,some (47,true),.dQ 22 (.t 54)⟩,⟨some 56,some (47,true),.load 1 false (.t 55)⟩,⟨some 57,some (47,true),.sd (.t 52)⟩,⟨some 58,some (47,true),.dQ 11 (.t 57)⟩,⟨some 59,some (47,true),.o0 11 1 (.t 58) (.t 56)⟩,⟨some 60,some (47,true),.load 1 false (.t 59)⟩,⟨some 61,some (47,true),.call pa [(.t 60)]⟩,⟨some 62,some (47,true),.call oI [(.t 51),(.t 61)]⟩,⟨some 63,some (47,true),.bin .gtr (.t 62) (.c (au 0))⟩,gH 64 47 63] aq0 (a7 64 (.ops [H 65 10,g8 66 65,bl 67 23 66,⟨none,none,.store 1 (.t 67) (.c (.J (.bool true)))⟩,cH 8 true]) .skip)))) (.ops [bn 68 .add 30 1,H 30 68]))))))) (X [H 69 8,fs 70 69] (a7 70 (X [H 71 6,H 2 71,cH 3 true] .ret) .skip)))))))))))
def WK:bT:=cn 11 1 [.cell 2 4 true] (X [(aD 2 (.alloc 230002 [(au 0),.nil,(au 0),.nil]))] (X [H 6 0,(aD 7 (.call zB [(.t 6),(.c (au 1))])),H 5 7,bN 8 0 5,bN 9 1 5,(aD 3 (.alloc 230003 [(au 0),.nil,(au 0),.nil])),bu 4 3 8,H 4 9] (X [bw 10 4 3,bu 4 2 10] .ret)))
def WL:bT:=cn 13 3 [.t 4] (X [cH 4 false] (ga [aU 5 1 1,aU 6 1 2,b2 7 4 5 6,bw 8 4 7,H 9 0,(dX 10 pa 9),(cE 11 oI 8 10),bn 12 .lss 11 0,H 4 12] DI .ret))
def Eg:bT:=cn 96 2 [.t 4,.t 5] (X [eM 4,cH 5 false] (X [H 17 1,cm 18 17,(aD 19 (.mc 233019 [.nil] 24 (.t 18) (.t 18))),H 6 19] (X [H 20 1,cm 21 20,(aD 22 (.mc 233022 [.nil] 24 (.t 21) (.t 21))),H 7 22] (.seq (X [H 23 0,cm 24 23,bA 25 0] (.block 0 (.loop  (X [bB 26 .lss 25 24] (.seq (a7 26 .skip (.exit 0)) (.seq (.block 1 (X [H 27 25,b2 28 4 23 25,bw 29 4 28,(aD 9 (.alloc 233009 [(au 0),(au 0),(au 0),(au 0)])),H 8 27,bu 4 9 29] (.nK [H 30 6,bl 31 0 9,aU 32 1 31,H 33 7,bl 34 0 9,aU 35 1 34,H 36 6,bl 37 0 9,aU 38 1 37,b2 39 1 36 38,aU 40 1 39,bw 41 4 9,(aD 42 (.fc 233042 false [(au 0),(au 0),(au 0),(au 0)] 4 1 [(0,4,(.t 41))])),(aD 43 (.app 233043 [(au 0),(au 0),(au 0),(au 0)] 32 (.t 40) (.t 42))),H 44 7,bl 45 0 9,aU 46 1 45,b2 47 1 44 46,aU 48 1 47,H 49 8,(aD 50 (.fc 233050 false [(au 0)] 1 1 [(0,1,(.t 49))])),(aD 51 (.app 233051 [(au 0)] 8 (.t 48) (.t 50))),b2 52 1 30 32,bu 1 52 43,b2 53 1 33 35,bu 1 53 51] [[],[],[],[],[],[],[],[],[],[],[],[],[],[2,5],[],[],[13],[],[13],[],[],[2,5],[],[5],[],[]]))) (.ghost (.many) (.ops [bn 54 .add 25 1,H 25 54])))))))) (.seq (.ghost (.many) (.ops [H 55 0,cm 56 55,(aD 57 (.mc 233057 [(au 0),.nil,(au 0),.nil] 64 (.t 56) (.t 56))),H 10 57])) (.seq (X [H 58 6,cm 59 58,bA 60 0] (.block 2 (.loop  (X [bB 61 .lss 60 59] (.seq (a7 61 .skip (.exit 2)) (.seq (.block 3 (X [H 62 60,b2 63 1 58 60,aU 64 1 63,H 11 62,H 12 64] (X [H 66 1,H 67 11,b2 68 4 66 67,bw 69 4 68,H 70 12,(cE 71 Kt 69 70),H 65 71,bN 72 0 65,bN 73 1 65,H 13 72,H 14 73] (.seq (X [H 74 14,bn 75 .neq 74 0] (a7 75 (X [eM 4,cH 5 false] .ret) .skip)) (X [H 76 7,H 77 11,b2 78 1 76 77,aU 79 1 78,cm 80 79,bA 81 0] (.block 4 (.loop  (X [bB 82 .lss 81 80] (.seq (a7 82 .skip (.exit 4)) (.seq (.block 5 (X [H 83 81,b2 84 1 79 81,aU 85 1 84,H 15 83,H 16 85] (.ops [H 86 10,H 87 16,H 88 13,H 89 15,b2 90 4 88 89,bw 91 4 90,b2 92 4 86 87,bu 4 92 91]))) (.ops [bn 93 .add 81 1,H 81 93]))))))))))) (.ops [bn 94 .add 60 1,H 60 94]))))))) (.seq (.ghost (.freeze 10) (.ops [H 95 10,H 4 95,cH 5 true])) .ret)))))))
def WM:bT:=cn 15 3 [.t 6] (X [cH 6 false] (X [H 7 0,H 8 1,bB 9 .geq 7 8,H 10 9,⟨some 11,some (10,true),.cQ (.t 0)⟩,⟨some 12,some (10,true),.cQ (.t 2)⟩,⟨some 13,some (10,true),.bin .leq (.t 11) (.t 12)⟩,gH 14 10 13,H 6 14] .ret))
def WN:bT:=cn 8 2 [.t 3] (X [cH 3 false] (X [aU 4 1 1,H 5 0,(aD 6 (.jD (.t 4) [(.t 5),(.c (au 0)),(.c (au 1000000000000000))])),fs 7 6,H 3 7] .ret))
def WO:bT:=cn 35 3 [.t 4] (X [dH 3 245003 0,cH 4 false] (X [aU 5 1 1,bl 6 0 3,aU 7 1 6,aU 8 1 2,bn 9 .sub 8 1,(aD 10 (.jD (.t 5) [(.t 7),(.c (au 0)),(.t 9)])),fs 11 10,H 12 11,⟨some 13,some (12,false),.load 1 false (.t 1)⟩,⟨some 14,some (12,false),.dQ 1 (.t 3)⟩,⟨some 15,some (12,false),.load 1 false (.t 14)⟩,⟨some 16,some (12,false),.load 1 false (.t 2)⟩,⟨some 17,some (12,false),.bin .sub (.t 16) (.c (au 1))⟩,⟨some 18,some (12,false),.jD (.t 13) [(.t 15),(.c (.J (.int .i64 (-1)))),(.t 17)]⟩,⟨some 19,some (12,false),.un .not (.t 18)⟩,eu 20 12 19,H 21 20,⟨some 22,some (21,false),.load 1 false (.t 1)⟩,⟨some 23,some (21,false),.dQ 2 (.t 3)⟩,⟨some 24,some (21,false),.load 1 false (.t 23)⟩,⟨some 25,some (21,false),.jD (.t 22) [(.t 24),(.c (au 0)),(.c (au 9))]⟩,⟨some 26,some (21,false),.un .not (.t 25)⟩,eu 27 21 26,H 28 27,⟨some 29,some (28,false),.load 1 false (.t 1)⟩,⟨some 30,some (28,false),.dQ 3 (.t 3)⟩,⟨some 31,some (28,false),.load 1 false (.t 30)⟩,⟨some 32,some (28,false),.jD (.t 29) [(.t 31),(.c (au 0)),(.c (au 1000000000000000))]⟩,⟨some 33,some (28,false),.un .not (.t 32)⟩,eu 34 28 33,H 4 34] .ret))
def vy:bT:=cn 159 1 [.t 2,.t 3] (X [eM 2,cH 3 false] (X [H 26 0,cm 27 26,H 4 27] (X [H 28 4,(aD 29 (.mc 248029 [(au 0)] 8 (.t 28) (.t 28))),H 5 29] (X [eM 6] (X [eM 7] (.seq (X [H 30 0,cm 31 30,bA 32 0] (.block 0 (.ghost (.ow 6 248094 1) (.ghost (.ow 7 248098 1) (.loop  (X [bB 33 .lss 32 31] (.seq (a7 33 .skip (.exit 0)) (.seq (.block 1 (X [H 34 32,b2 35 1 30 32,aU 36 1 35,H 8 34,H 9 36] (ga [H 37 5,H 38 8,b2 39 1 37 38,aU 40 1 39,H 41 9,g8 42 41,bl 43 0 42,aU 44 1 43,bB 45 .add 40 44,b2 46 1 37 38,bu 1 46 45] Ot (.seq (X [H 47 9,g8 48 47,bl 49 22 48,aU 50 1 49,bA 51 0] (.block 2 (.loop  (X [bB 52 .lss 51 50] (.seq (a7 52 .skip (.exit 2)) (.seq (.block 3 (X [H 53 51,H 10 53] (X [H 54 9,H 55 10,g8 56 54,bl 57 1 56,(aD 58 (.o0 10 1 (.t 57) (.t 55))),aU 59 1 58,cm 60 59,bA 61 0] (.block 4 (.loop  (X [bB 62 .lss 61 60] (.seq (a7 62 .skip (.exit 4)) (.seq (.block 5 (X [b2 63 4 59 61,bw 64 4 63,(aD 12 (.alloc 248012 [(au 0),(au 0),(au 0),(au 0)])),bu 4 12 64] (X [bl 65 1 12,aU 66 1 65,bn 67 .geq 66 0] (a7 67 (.nK [H 68 5,bl 69 1 12,aU 70 1 69,b2 71 1 68 70,aU 72 1 71,bl 73 3 12,aU 74 1 73,bB 75 .add 72 74,b2 76 1 68 70,bu 1 76 75] Gj) .skip)))) (.ops [bn 77 .add 61 1,H 61 77]))))))))) (.ops [bn 78 .add 51 1,H 51 78]))))))) (X [H 79 9,g8 80 79,bl 81 23 80,aU 82 1 81] (a7 82 (X [H 84 9,H 85 4,(cE 86 On 84 85),H 83 86,bN 87 0 83,bN 88 1 83,H 13 87,H 14 88] (.seq (X [H 89 14,fs 90 89] (a7 90 (X [eM 2,cH 3 false] .ret) .skip)) (.ops [H 91 6,H 92 8,(aD 93 (.fc 248093 false [(au 0)] 1 1 [(0,1,(.t 92))])),(aD 94 (.app 248094 [(au 0)] 8 (.t 91) (.t 93))),H 95 7,H 96 13,(aD 97 (.fc 248097 false [.nil] 1 1 [(0,1,(.t 96))])),(aD 98 (.app 248098 [.nil] 24 (.t 95) (.t 97))),H 6 94,H 7 98]))) .skip)))))) (.ops [bn 99 .add 32 1,H 32 99]))))))))) (.seq (.ghost (.freeze 5) (.ghost (.freeze 6) (.ghost (.freeze 7) (.ops [H 101 0,H 102 5,H 103 6,H 104 7,(Ky 105 Ul 101 102 103 104),H 100 105,bN 106 0 100,bN 107 1 100,H 15 106,H 16 107])))) (.seq (X [H 108 16,fs 109 108] (a7 109 (X [eM 2,cH 3 false] .ret) .skip)) (X [eM 17] (.seq (X [H 110 5,cm 111 110,bA 112 0] (.block 6 (.ghost (.ow 17 248156 4) (.loop  (X [bB 113 .lss 112 111] (.seq (a7 113 .skip (.exit 6)) (.seq (.block 7 (X [H 114 112,b2 115 1 110 112,aU 116 1 115,H 18 114,H 19 116] (X [H 117 19,(dX 118 pa 117),(aD 20 (.alloc 248020 [(au 0),.nil,(au 0),.nil])),bu 4 20 118] (.seq (X [H 119 6,cm 120 119,bA 121 0] (.block 8 (.loop  (X [bB 122 .lss 121 120] (.seq (a7 122 .skip (.exit 8)) (.seq (.block 9 (X [H 123 121,H 21 123] (ga [H 125 7,H 126 21,b2 127 1 125 126,aU 128 1 127,H 129 18,b2 130 4 128 129,bw 131 4 130,H 132 15,H 133 21,b2 134 4 132 133,bw 135 4 134,(cE 136 wE 131 135),H 124 136,bN 137 0 124,bN 138 1 124,(aD 22 (.alloc 248022 [(au 0),.nil,(au 0),.nil])),bu 4 22 137,H 23 138] [[],[],[],[],[],[],[],[],[],[],[],[],[],[],[],[3,6,10],[],[]] (X [bw 140 4 20,bw 141 4 22,(cE 142 yb 140 141),H 139 142,bN 143 0 139,bN 144 1 139,(aD 24 (.alloc 248024 [(au 0),.nil,(au 0),.nil])),bu 4 24 143,H 25 144] (.seq (X [H 145 23,bn 146 .neq 145 0,H 147 146,⟨some 148,some (147,false),.cQ (.t 25)⟩,⟨some 149,some (147,false),.bin .neq (.t 148) (.c (au 0))⟩,eu 150 147 149] (a7 150 (X [eM 2,cH 3 false] .ret) .skip)) (.ops [bw 151 4 24,bu 4 20 151])))))) (.ops [bn 152 .add 121 1,H 121 152]))))))) (.ops [H 153 17,bw 154 4 20,(aD 155 (.fc 248155 false [(au 0),.nil,(au 0),.nil] 4 1 [(0,4,(.t 154))])),(aD 156 (.app 248156 [(au 0),.nil,(au 0),.nil] 64 (.t 153) (.t 155))),H 17 156]))))) (.ops [bn 157 .add 112 1,H 112 157])))))))) (.seq (.ghost (.freeze 17) (.ops [H 158 17,H 2 158,cH 3 true])) .ret)))))))))))
def Pz:bT:=cn 88 2 [.t 4,.t 5] (X [eM 4,cH 5 false] (X [(aD 14 (.call pa [(.c (au 0))])),(aD 15 (.fc 255015 false [(au 0),.nil,(au 0),.nil] 4 1 [(0,4,(.t 14))])),H 16 1,(aD 17 (.ov 255017 4 TX [(.t 15),(.t 16)])),H 6 17] (X [cH 7 true] (.seq (ga [H 18 0,H 19 0,g8 20 19,bl 21 22 20,aU 22 1 21,g8 23 18,bl 24 1 23,(aD 25 (.o0 10 1 (.t 24) (.t 22))),aU 26 1 25,cm 27 26,bA 28 0] Ot (.block 0 (.loop  (X [bB 29 .lss 28 27] (.seq (a7 29 .skip (.exit 0)) (.seq (.block 1 (X [b2 30 4 26 28,bw 31 4 30,(aD 9 (.alloc 255009 [(au 0),(au 0),(au 0),(au 0)])),bu 4 9 31] (.seq (X [bl 32 1 9,aU 33 1 32,bn 34 .lss 33 0] (a7 34 (.exit 1) .skip)) (ga [bl 36 3 9,aU 37 1 36,H 38 0,H 39 0,g8 40 39,bl 41 22 40,aU 42 1 41,bn 43 .add 42 1,g8 44 38,bl 45 11 44,(aD 46 (.o0 11 1 (.t 45) (.t 43))),aU 47 1 46,H 48 0,H 49 0,g8 50 49,bl 51 22 50,aU 52 1 51,g8 53 48,bl 54 11 53,(aD 55 (.o0 11 1 (.t 54) (.t 52))),aU 56 1 55,bB 57 .sub 47 56,(cE 58 zB 37 57),H 35 58,bN 59 0 35,bN 60 1 35,(aD 10 (.alloc 255010 [(au 0),.nil,(au 0),.nil])),bu 4 10 59,H 11 60] [[],[],[],[],[],[],[],[],[],[],[],[],[],[],[],[],[],[],[],[],[],[],[],[],[],[],[1,6,11,16,20],[],[]] (ga [H 62 6,bl 63 1 9,aU 64 1 63,b2 65 4 62 64,bw 66 4 65,bw 67 4 10,(cE 68 yb 66 67),H 61 68,bN 69 0 61,bN 70 1 61,(aD 12 (.alloc 255012 [(au 0),.nil,(au 0),.nil])),bu 4 12 69,H 13 70] [[],[],[],[],[],[],[],[],[],[],[2,4,5],[],[]] (X [H 71 7,H 72 71,⟨some 73,some (72,true),.cQ (.t 11)⟩,⟨some 74,some (72,true),.bin .eql (.t 73) (.c (au 0))⟩,gH 75 72 74,H 76 75,⟨some 77,some (76,true),.cQ (.t 13)⟩,⟨some 78,some (76,true),.bin .eql (.t 77) (.c (au 0))⟩,gH 79 76 78,H 7 79] (.ops [H 80 6,bl 81 1 9,aU 82 1 81,bw 83 4 12,b2 84 4 80 82,bu 4 84 83]))))))) (.ops [bn 85 .add 28 1,H 28 85]))))))) (.seq (.ghost (.freeze 6) (.ops [H 86 6,H 87 7,H 4 86,H 5 87])) .ret)))))
def GU:bT:=cn 94 4 [.t 8,.t 9] (X [eM 8,cH 9 false] (X [eM 10] (.seq (X [H 20 2,cm 21 20,bA 22 0] (.block 0 (.ghost (.ow 10 256082 5) (.loop  (X [bB 23 .lss 22 21] (.seq (a7 23 .skip (.exit 0)) (.seq (.block 1 (X [H 24 22,b2 25 1 20 22,aU 26 1 25,H 11 24,H 12 26] (ga [H 27 1,H 28 12,b2 29 1 27 28,aU 30 1 29,H 31 0,H 32 12,b2 33 1 31 32,aU 34 1 33,H 35 0,H 36 12,b2 37 1 35 36,aU 38 1 37,g8 39 38,bl 40 22 39,aU 41 1 40,g8 42 34,bl 43 11 42,(aD 44 (.o0 11 1 (.t 43) (.t 41))),aU 45 1 44,bB 46 .sub 30 45,(dX 47 pa 46),(aD 48 (.build [.nil,(au 0),.nil,(au 0),.nil] [(1,4,(.t 47))])),(aD 13 (.alloc 256013 [.nil,(au 0),.nil,(au 0),.nil])),bu 5 13 48] [[],[],[],[],[],[],[],[],[],[],[],[],[],[],[],[],[],[],[],[],[],[],[3,7,11,14,18],[]] (.seq (.seq (.ghost (.Nh (.t 13) 0 256076 4) (.ops [H 49 2,cm 50 49,bA 51 0])) (.block 2 (.loop  (X [bB 52 .lss 51 50] (.seq (a7 52 .skip (.exit 2)) (.seq (.block 3 (X [H 53 51,H 14 53] (X [bA 15 0] (.seq (X [H 54 14,H 55 11,bB 56 .eql 54 55] (a7 56 (.ops [bA 15 1]) .skip)) (ga [H 58 15,(dX 59 pa 58),H 60 3,H 61 14,b2 62 1 60 61,aU 63 1 62,H 64 12,b2 65 4 63 64,bw 66 4 65,(cE 67 yc 59 66),H 57 67,bN 68 0 57,bN 69 1 57,(aD 16 (.alloc 256016 [(au 0),.nil,(au 0),.nil])),bu 4 16 68,H 17 69] [[],[],[],[],[],[],[],[],[],[],[],[],[],[5,8],[],[]] (.seq (X [H 70 17,bn 71 .neq 70 0] (a7 71 (X [eM 8,cH 9 false] .ret) .skip)) (.ops [bl 72 0 13,aU 73 1 72,bw 74 4 16,(aD 75 (.fc 256075 false [(au 0),.nil,(au 0),.nil] 4 1 [(0,4,(.t 74))])),(aD 76 (.app 256076 [(au 0),.nil,(au 0),.nil] 64 (.t 73) (.t 75))),bl 77 0 13,bu 1 77 76]))))))) (.ops [bn 78 .add 51 1,H 51 78]))))))) (.ghost (.Ni (.t 13) 0) (.ops [H 79 10,bw 80 5 13,(aD 81 (.fc 256081 false [.nil,(au 0),.nil,(au 0),.nil] 5 1 [(0,5,(.t 80))])),(aD 82 (.app 256082 [.nil,(au 0),.nil,(au 0),.nil] 88 (.t 79) (.t 81))),H 10 82])))))) (.ops [bn 83 .add 22 1,H 22 83])))))))) (.seq (.ghost (.freeze 10) (.ops [H 85 10,H 86 2,cm 87 86,(cE 88 TT 85 87),H 84 88,bN 89 0 84,bN 90 1 84,H 18 89,H 19 90])) (X [H 91 18,H 92 19,bn 93 .eql 92 0,H 8 91,H 9 93] .ret)))))
def WQ:bT:=cn 36 3 [.t 6] (X [dH 5 286005 2,bA 6 0] (X [H 10 0,H 11 1,bw 12 3 5,(aD 13 (.build [.nil,.nil,.nil,.nil,.nil] [(0,1,(.t 10)),(1,1,(.t 11)),(2,3,(.t 12))])),(aD 7 (.alloc 286007 [.nil,.nil,.nil,.nil,.nil])),bu 5 7 13] (.seq (X [bw 14 5 7,(dX 15 Kv 14),fs 16 15] (a7 16 (X [bA 6 1] .ret) .skip)) (.seq (X [H 17 0,cm 18 17,bA 19 0] (.block 0 (.loop  (X [bB 20 .lss 19 18] (.seq (a7 20 .skip (.exit 0)) (.seq (.block 1 (X [H 21 19,H 8 21] (X [bw 22 5 7,H 23 8,(cE 24 Um 22 23),H 9 24] (X [H 25 9,bn 26 .neq 25 0] (a7 26 (X [H 27 9,H 6 27] .ret) .skip))))) (.ops [bn 28 .add 19 1,H 19 28]))))))) (.seq (X [bw 29 5 7,(dX 30 Un 29),fs 31 30,H 32 31,⟨some 33,some (32,false),.load 5 true (.t 7)⟩,⟨some 34,some (32,false),.call Uo [(.t 33)]⟩,eu 35 32 34] (a7 35 (X [bA 6 24] .ret) .skip)) (X [bA 6 0] .ret))))))
def WR:bT:=cn 61 1 [.t 2] (X [dH 1 287001 0,cH 2 false] (X [bl 7 0 1,aU 8 1 7,cm 9 8,(aD 3 (.alloc 287003 [(au 0)])),bu 1 3 9] (X [(aD 4 (.alloc 287004 [(.J .uJ)])),⟨none,none,.store 1 (.t 4) (.c (.fy ni []))⟩] (X [(aD 10 (.pD yd [(.t 3),(.t 4)])),H 5 10] (X [(aD 6 (.cQ (.c (.fy wG []))))] (.seq (X [aU 11 1 3,bn 12 .gtr 11 60,H 13 12,⟨some 14,some (13,false),.dQ 1 (.t 1)⟩,⟨some 15,some (13,false),.load 1 false (.t 14)⟩,⟨some 16,some (13,false),.len (.t 15)⟩,⟨some 17,some (13,false),.bin .gtr (.t 16) (.c (au 2000))⟩,eu 18 13 17,H 19 18,⟨some 20,some (19,false),.dQ 2 (.t 1)⟩,⟨some 21,some (19,false),.dQ 0 (.t 20)⟩,⟨some 22,some (19,false),.load 1 false (.t 21)⟩,⟨some 23,some (19,false),.len (.t 22)⟩,⟨some 24,some (19,false),.load 1 false (.t 3)⟩,⟨some 25,some (19,false),.bin .neq (.t 23) (.t 24)⟩,eu 26 19 25,H 27 26,⟨some 28,some (27,false),.dQ 2 (.t 1)⟩,⟨some 29,some (27,false),.dQ 1 (.t 28)⟩,⟨some 30,some (27,false),.load 1 false (.t 29)⟩,⟨some 31,some (27,false),.len (.t 30)⟩,⟨some 32,some (27,false),.dQ 1 (.t 1)⟩,⟨some 33,some (27,false),.load 1 false (.t 32)⟩,⟨some 34,some (27,false),.len (.t 33)⟩,⟨some 35,some (27,false),.bin .neq (.t 31) (.t 34)⟩,eu 36 27 35] (a7 36 (X [cH 2 false] .ret) .skip)) (X [bl 37 0 1,aU 38 1 37,aU 39 1 4,(cE 40 Up 38 39),H 41 40,⟨some 42,some (41,true),.dQ 1 (.t 1)⟩,⟨some 43,some (41,true),.load 1 false (.t 42)⟩,⟨some 44,some (41,true),.cQ (.t 5)⟩,⟨some 45,some (41,true),.call Uq [(.t 43),(.t 44)]⟩,gH 46 41 45,H 47 46,⟨some 48,some (47,true),.dQ 2 (.t 1)⟩,⟨some 49,some (47,true),.dQ 0 (.t 48)⟩,⟨some 50,some (47,true),.load 1 false (.t 49)⟩,⟨some 51,some (47,true),.cQ (.t 6)⟩,⟨some 52,some (47,true),.call Oo [(.t 50),(.t 51)]⟩,gH 53 47 52,H 54 53,⟨some 55,some (54,true),.dQ 2 (.t 1)⟩,⟨some 56,some (54,true),.dQ 1 (.t 55)⟩,⟨some 57,some (54,true),.load 1 false (.t 56)⟩,⟨some 58,some (54,true),.cQ (.t 6)⟩,⟨some 59,some (54,true),.call Oo [(.t 57),(.t 58)]⟩,gH 60 54 59,H 2 60] .ret)))))))
def WS:bT:=cn 80 2 [.t 4] (X [dH 2 288002 0,bA 4 0] (X [bl 16 0 2,aU 17 1 16,H 18 1,b2 19 1 17 18,aU 20 1 19,(aD 21 (.call zB [(.t 20),(.c (au 1))])),H 15 21,bN 22 0 15,bN 23 1 15,(aD 5 (.alloc 288005 [(au 0),.nil,(au 0),.nil])),bu 4 5 22,H 6 23] (.seq (X [bl 24 1 2,aU 25 1 24,cm 26 25,bA 27 0] (.block 0 (.loop  (X [bB 28 .lss 27 26] (.seq (a7 28 .skip (.exit 0)) (.seq (.block 1 (X [H 29 27,b2 30 4 25 27,bw 31 4 30,(aD 8 (.alloc 288008 [(au 0),(au 0),(au 0),(au 0)])),H 7 29,bu 4 8 31] (.seq (X [bl 32 1 8,aU 33 1 32,H 34 1,bB 35 .neq 33 34] (a7 35 (.exit 1) .skip)) (ga [bw 37 4 5,bl 38 2 2,bl 39 1 38,aU 40 1 39,H 41 7,b2 42 4 40 41,bw 43 4 42,(cE 44 yb 37 43),H 36 44,bN 45 0 36,bN 46 1 36,(aD 9 (.alloc 288009 [(au 0),.nil,(au 0),.nil])),bu 4 9 45,H 10 46] [[],[],[],[],[],[],[],[],[],[],[],[0,3,6],[],[]] (.seq (X [H 47 10,bn 48 .neq 47 0] (a7 48 (X [H 49 10,H 4 49] .ret) .skip)) (.ops [bw 50 4 9,bu 4 5 50])))))) (.ops [bn 51 .add 27 1,H 27 51]))))))) (.seq (ga [bw 52 4 5,bl 53 2 2,bl 54 0 53,aU 55 1 54,H 56 1,b2 57 4 55 56,bw 58 4 57,(cE 59 oI 52 58),bn 60 .neq 59 0] DI (a7 60 (X [bA 4 24] .ret) .skip)) (X [bw 62 5 2,H 63 1,(cE 64 Kw 62 63),H 61 64,bN 65 0 61,bN 66 1 61,H 11 65,H 12 66] (X [bw 68 4 5,H 69 11,(cE 70 Kt 68 69),H 67 70,bN 71 0 67,bN 72 1 67,H 13 71,H 14 72] (.seq (X [H 73 14,bn 74 .neq 73 0] (a7 74 (X [H 75 14,H 4 75] .ret) .skip)) (.seq (X [H 76 12,H 77 13,(cE 78 Ur 76 77),fs 79 78] (a7 79 (X [bA 4 24] .ret) .skip)) (X [bA 4 0] .ret)))))))))
def WT:bT:=cn 49 1 [.t 2] (X [dH 1 289001 0,cH 2 false] (X [eM 3] (.seq (X [bl 8 2 1,bl 9 2 8,aU 10 1 9,cm 11 10,bA 12 0] (.block 0 (.ghost (.ow 3 289040 1) (.loop  (X [bB 13 .lss 12 11] (.seq (a7 13 .skip (.exit 0)) (.seq (.block 1 (X [b2 14 1 10 12,aU 15 1 14,H 5 15] (.seq (X [H 16 5,cm 17 16,bA 18 0] (.block 2 (.loop  (X [bB 19 .lss 18 17] (.seq (a7 19 .skip (.exit 2)) (.seq (.block 3 (X [H 20 18,b2 21 1 16 18,aU 22 1 21,H 6 20,H 7 22] (X [H 23 6,bn 24 .gtr 23 0,H 25 24,⟨some 26,some (25,true),.cQ (.t 7)⟩,⟨some 27,some (25,true),.cQ (.t 5)⟩,⟨some 28,some (25,true),.cQ (.t 6)⟩,⟨some 29,some (25,true),.bin .sub (.t 28) (.c (au 1))⟩,⟨some 30,some (25,true),.m8 1 (.t 27) (.t 29)⟩,⟨some 31,some (25,true),.load 1 false (.t 30)⟩,⟨some 32,some (25,true),.bin .leq (.t 26) (.t 31)⟩,gH 33 25 32] (a7 33 (X [cH 2 false] .ret) .skip)))) (.ops [bn 34 .add 18 1,H 18 34]))))))) (.seq (X [H 35 5,cm 36 35,bn 37 .eql 36 0] (a7 37 (X [cH 2 false] .ret) .skip)) (.ops [H 38 3,H 39 5,(aD 40 (.app 289040 [(au 0)] 8 (.t 38) (.t 39))),H 3 40]))))) (.ops [bn 41 .add 12 1,H 12 41])))))))) (X [H 42 3,(dX 43 Us 42)] (ga [H 44 3,(aD 45 (.sf 0 Uu [(.t 44)])),bw 46 5 1,(dX 47 DE 46),(cE 48 Ut 45 47),H 2 48] [[],[],[1],[],[],[]] .ret)))))
def WU:bT:=cn 21 1 [.t 2] (X [dH 1 290001 0,cH 2 false] (X [bw 5 5 1,(aD 6 (.ov 290006 1 DE [(.t 5)])),H 3 6] (.seq (X [bl 7 0 1,aU 8 1 7,cm 9 8,bA 10 0] (.block 0 (.loop  (X [bB 11 .lss 10 9] (.seq (a7 11 .skip (.exit 0)) (.seq (.block 1 (X [H 12 3,(dX 13 va 12),(aD 4 (.alloc 290004 [.nil])),bu 1 4 13] (.ops [H 14 3,(aD 15 (.pD tH [(.t 1),(.t 4)])),(cE 16 Uv 14 15),H 3 16]))) (.ops [bn 17 .add 10 1,H 10 17]))))))) (X [H 18 3,cm 19 18,bn 20 .gtr 19 0,H 2 20] .ret))))
def WV:bT:=cn 5 1 [.t 2] (X [cH 2 false] (X [H 3 0,(aD 4 (.call DD [(.t 3),(.c (au 0)),(.c (au 1000000000000000))])),H 2 4] .ret))
def WW:bT:=cn 15 3 [.t 6] (X [cH 6 false] (X [H 7 1,H 8 0,bB 9 .leq 7 8,H 10 9,⟨some 11,some (10,true),.cQ (.t 0)⟩,⟨some 12,some (10,true),.cQ (.t 2)⟩,⟨some 13,some (10,true),.bin .leq (.t 11) (.t 12)⟩,gH 14 10 13,H 6 14] .ret))
def WX:bT:=cn 28 3 [.t 4] (X [dH 3 293003 0,cH 4 false] (X [bl 5 0 3,aU 6 1 5,aU 7 1 1,bn 8 .sub 7 1,(aD 9 (.call DD [(.t 6),(.c (au 0)),(.t 8)])),H 10 9,⟨some 11,some (10,true),.dQ 1 (.t 3)⟩,⟨some 12,some (10,true),.load 1 false (.t 11)⟩,⟨some 13,some (10,true),.load 1 false (.t 1)⟩,⟨some 14,some (10,true),.bin .sub (.t 13) (.c (au 1))⟩,⟨some 15,some (10,true),.call DD [(.t 12),(.c (.J (.int .i64 (-1)))),(.t 14)]⟩,gH 16 10 15,H 17 16,⟨some 18,some (17,true),.dQ 2 (.t 3)⟩,⟨some 19,some (17,true),.load 1 false (.t 18)⟩,⟨some 20,some (17,true),.call DD [(.t 19),(.c (au 0)),(.c (au 9))]⟩,gH 21 17 20,H 22 21,⟨some 23,some (22,true),.load 1 false (.t 2)⟩,⟨some 24,some (22,true),.dQ 3 (.t 3)⟩,⟨some 25,some (22,true),.load 1 false (.t 24)⟩,⟨some 26,some (22,true),.jD (.t 23) [(.t 25)]⟩,gH 27 22 26,H 4 27] .ret))
def WY:bT:=cn 11 1 [.t 2] (X [dH 1 294001 0,cH 2 false] (X [bw 3 4 1,(dX 4 lT 3),H 5 4,⟨some 6,some (5,true),.dQ 0 (.t 1)⟩,⟨some 7,some (5,true),.dQ 0 (.t 6)⟩,⟨some 8,some (5,true),.load 1 false (.t 7)⟩,⟨some 9,some (5,true),.bin .geq (.t 8) (.c (au 0))⟩,gH 10 5 9,H 2 10] .ret))
def WZ:bT:=cn 9 2 [.t 4] (X [dH 3 295003 1,cH 4 false] (X [H 5 0,(aD 6 (.pD BB [(.t 3)])),(cE 7 Ks 5 6),fs 8 7,H 4 8] .ret))
def W0:bT:=cn 9 2 [.t 4] (X [dH 3 296003 1,cH 4 false] (X [H 5 0,(aD 6 (.pD DF [(.t 3)])),(cE 7 DB 5 6),fs 8 7,H 4 8] .ret))
def W1:bT:=cn 9 2 [.t 4] (X [dH 3 297003 1,cH 4 false] (X [H 5 0,(aD 6 (.pD vf [(.t 3)])),(cE 7 Kg 5 6),fs 8 7,H 4 8] .ret))
def W2:bT:=cn 38 2 [.t 4,.t 5] (X [dH 2 298002 0,eM 4,eM 5] (X [eM 6] (X [eM 7] (.seq (X [bl 10 1 2,aU 11 1 10,cm 12 11,bA 13 0] (.block 0 (.ghost (.ow 6 298025 4) (.ghost (.ow 7 298034 4) (.loop  (X [bB 14 .lss 13 12] (.seq (a7 14 .skip (.exit 0)) (.seq (.block 1 (X [H 15 13,b2 16 4 11 13,bw 17 4 16,(aD 9 (.alloc 298009 [(au 0),(au 0),(au 0),(au 0)])),H 8 15,bu 4 9 17] (X [bl 18 0 9,aU 19 1 18,H 20 1,bB 21 .eql 19 20] (a7 21 (.nK [H 22 6,bw 23 4 9,(aD 24 (.fc 298024 false [(au 0),(au 0),(au 0),(au 0)] 4 1 [(0,4,(.t 23))])),(aD 25 (.app 298025 [(au 0),(au 0),(au 0),(au 0)] 32 (.t 22) (.t 24))),H 26 7,bl 27 2 2,bl 28 1 27,aU 29 1 28,H 30 8,b2 31 4 29 30,bw 32 4 31,(aD 33 (.fc 298033 false [(au 0),.nil,(au 0),.nil] 4 1 [(0,4,(.t 32))])),(aD 34 (.app 298034 [(au 0),.nil,(au 0),.nil] 64 (.t 26) (.t 33))),H 6 25,H 7 34] [[],[],[],[],[],[],[],[3],[],[],[3],[],[],[],[]]) .skip)))) (.ops [bn 35 .add 13 1,H 13 35]))))))))) (.seq (.ghost (.freeze 6) (.ghost (.freeze 7) (.ops [H 36 6,H 37 7,H 4 36,H 5 37]))) .ret)))))
def W3:bT:=cn 8 2 [.t 4] (X [cH 4 false] (X [H 5 0,H 6 1,(aD 7 (.call Ui [(.t 5),(.t 6),(.c (.fy wH []))])),H 4 7] .ret))
def W4:bT:=cn 26 1 [.t 2] (X [dH 1 303001 0,eM 2] (X [eM 3] (.seq (X [bl 7 0 1,aU 8 1 7,cm 9 8,bA 10 0] (.block 0 (.ghost (.ow 3 303023 1) (.loop  (X [bB 11 .lss 10 9] (.seq (a7 11 .skip (.exit 0)) (.seq (.block 1 (X [H 12 10,H 4 12] (X [bw 14 5 1,H 15 4,(cE 16 Kx 14 15),H 13 16,bN 17 0 13,bN 18 1 13,H 5 17,H 6 18] (X [H 19 6] (a7 19 (.ops [H 20 3,H 21 4,(aD 22 (.fc 303022 false [(au 0)] 1 1 [(0,1,(.t 21))])),(aD 23 (.app 303023 [(au 0)] 8 (.t 20) (.t 22))),H 3 23]) .skip))))) (.ops [bn 24 .add 10 1,H 10 24])))))))) (X [H 25 3,H 2 25] .ret))))
def W5:bT:=cn 9 3 [.t 4] (X [cH 4 false] (X [bw 5 5 1,H 6 0,aU 7 1 2,(Gi 8 Uw 5 6 7),H 4 8] .ret))
def W6:bT:=cn 19 3 [.t 6] (X [dH 3 306003 0,dH 4 306004 1,dH 5 306005 2,cH 6 false] (X [bw 10 5 3,aU 11 1 4,(cE 12 Kx 10 11),H 9 12,bN 13 0 9,bN 14 1 9,(aD 7 (.alloc 306007 [(au 0)])),bu 1 7 13,H 8 14] (X [bl 15 1 3,aU 16 1 15,(aD 17 (.pD DG [(.t 4),(.t 7),(.t 5)])),(cE 18 DB 16 17),H 6 18] .ret)))
def W7:bT:=cn 8 2 [.t 3] (X [cH 3 false] (X [aU 4 1 1,H 5 0,(aD 6 (.jD (.t 4) [(.t 5)])),fs 7 6,H 3 7] .ret))
def W8:bT:=cn 8 2 [.t 3] (X [dH 2 308002 0,cH 3 false] (X [aU 4 1 1,bw 5 4 2,(aD 6 (.jD (.t 4) [(.t 5)])),fs 7 6,H 3 7] .ret))
def W9:bT:=cn 8 2 [.t 3] (X [dH 2 309002 0,cH 3 false] (X [aU 4 1 1,bw 5 4 2,(aD 6 (.jD (.t 4) [(.t 5)])),fs 7 6,H 3 7] .ret))
def Xa:bT:=cn 9 2 [.t 4] (X [dH 2 310002 0,dH 3 310003 1,cH 4 false] (X [bw 5 4 2,bw 6 4 3,(cE 7 oI 5 6),bn 8 .eql 7 0,H 4 8] .ret))
def Xb:bT:=cn 14 2 [.t 4,.t 5] (X [dH 2 313002 0,bA 4 0,cH 5 false] (X [bw 6 5 2,H 7 1,(cE 8 Kw 6 7),bN 9 0 8,bN 10 1 8,(cE 11 Ue 9 10),bN 12 0 11,bN 13 1 11,H 4 12,H 5 13] .ret))
def Xc:bT:=cn 28 4 [.t 5] (X [dH 4 314004 0,cH 5 false] (X [bl 6 0 4,aU 7 1 6,aU 8 1 1,bB 9 .eql 7 8,H 10 9,⟨some 11,some (10,true),.dQ 2 (.t 4)⟩,⟨some 12,some (10,true),.load 1 false (.t 11)⟩,⟨some 13,some (10,true),.load 1 false (.t 2)⟩,⟨some 14,some (10,true),.bin .eql (.t 12) (.t 13)⟩,gH 15 10 14,H 16 15,⟨some 17,some (16,true),.dQ 3 (.t 4)⟩,⟨some 18,some (16,true),.load 1 false (.t 17)⟩,⟨some 19,some (16,true),.bin .gtr (.t 18) (.c (au 0))⟩,gH 20 16 19,H 21 20,⟨some 22,some (21,true),.load 1 false (.t 3)⟩,⟨some 23,some (21,true),.dQ 1 (.t 4)⟩,⟨some 24,some (21,true),.load 1 false (.t 23)⟩,⟨some 25,some (21,true),.call Ux [(.t 22),(.t 24)]⟩,⟨some 26,some (21,true),.un .not (.t 25)⟩,gH 27 21 26,H 5 27] .ret))
def Xd:bT:=cn 17 3 [.t 6] (X [dH 5 372005 2,eM 6] (X [H 8 0,H 9 1,bw 10 3 5,(aD 11 (.build [.nil,.nil,.nil,.nil,.nil] [(0,1,(.t 8)),(1,1,(.t 9)),(2,3,(.t 10))])),(aD 7 (.alloc 372007 [.nil,.nil,.nil,.nil,.nil])),bu 5 7 11] (.seq (X [bw 12 5 7,(dX 13 Kv 12),fs 14 13] (a7 14 (X [eM 6] .ret) .skip)) (X [bw 15 5 7,(dX 16 DE 15),H 6 16] .ret))))
abbrev eV:=List a1×a1
def iT (r:eV):List Data:=.Y (r.1.map aH)::aH r.2
theorem nq (f:a1):(aH f).length=4:=rfl
theorem Xe (r:eV):(iT r).length=5:=rfl
theorem GV (f:a1):((aH f).map R.J).all R.one=true:=rfl
theorem m0:∀a b:a1,aH a=aH b->a=b:=by
 rintro⟨⟨s,l⟩,⟨s2,ai⟩⟩ ⟨⟨t,m⟩,⟨t2,cM⟩⟩ h;simp only[aH,bb,Data.int.injEq,Data.Y.injEq,true_and,and_true] at h;obtain⟨rfl,F,rfl,I⟩:=h;rw[map_inj fj _ _ F,map_inj fj _ _ I]
theorem Xf:∀a b:eV,iT a=iT b->a=b:=by
 rintro⟨a,b⟩ ⟨c,d⟩ h;simp only[iT,bb,Data.Y.injEq] at h;rw[map_inj m0 _ _ h.1,m0 _ _ h.2]
def okF (f:a1):Prop:=f.1.2.length<=1000000/\f.2.2.length<=1000000
def e6 (l:List a1):Prop:=D l<=1000000/\∀f∈l,okF f
def yB (r:eV):Prop:=e6 r.1/\okF r.2
def rH (rs:List eV):Prop:=D rs<=1000000/\∀r∈rs,yB r
def PA:=cp D8 λ(s,l,s2,ai)=>cV (D l<=1000000/\D ai<=1000000) (.same (.bool (!ei ((s,l),(s2,ai)))))
@[go_sem] theorem atg (s:Int)(l:List Int)(s2:Int)(ai:List Int)(G:(D l)<=1000000/\D ai<=1000000):PA [.agg [.int .i64 s,.Y (l.map ag),.int .i64 s2,.Y (ai.map ag)]]=some (.same (.bool (!ei ((s,l),(s2,ai))))):=(cA K4 (s,l,s2,ai)).trans (cY G _)
theorem ath (T:bh)(fG:T lT=aV vu)(s:Int)(l:List Int)(s2:Int)(ai:List Int)(G:(D l)<=1000000/\D ai<=1000000):WP T WG (.same (.bool (!ei ((s,l),(s2,ai))))) [.J (.agg [.int .i64 s,.Y (l.map ag),.int .i64 s2,.Y (ai.map ag)])]:=by
 refine cB ?_;simp only[WG];obtain⟨ck,cq⟩:=G;refine aX ?_;repeat' (intro h<;>simp only[h,go_sem,go_sem_proc,fG,ck,cq]<;>try refine aw ?_ ?_)
def af0:=cp D8 λ(s,l,s2,ai)=>cV (D l<=1000000/\D ai<=1000000) (.same (.bool (!ei ((s,l),(s2,ai))||decide (s<0))))
@[go_sem] theorem ati (s:Int)(l:List Int)(s2:Int)(ai:List Int)(G:(D l)<=1000000/\D ai<=1000000):af0 [.agg [.int .i64 s,.Y (l.map ag),.int .i64 s2,.Y (ai.map ag)]]=some (.same (.bool (!ei ((s,l),(s2,ai))||decide (s<0)))):=(cA K4 (s,l,s2,ai)).trans (cY G _)
def Xg:=cp D8 λ(s,l,s2,ai)=>cV (D l<=1000000/\D ai<=1000000) (.same (.bool (ei ((s,l),(s2,ai))&&decide (s>=0))))
@[go_sem] theorem aKb (s:Int)(l:List Int)(s2:Int)(ai:List Int)(G:(D l)<=1000000/\D ai<=1000000):Xg [.agg [.int .i64 s,.Y (l.map ag),.int .i64 s2,.Y (ai.map ag)]]=some (.same (.bool (ei ((s,l),(s2,ai))&&decide (s>=0)))):=(cA K4 (s,l,s2,ai)).trans (cY G _)
theorem atj (T:bh)(fG:T lT=aV vu)(s:Int)(l:List Int)(s2:Int)(ai:List Int)(G:(D l)<=1000000/\D ai<=1000000):WP T WY (.same (.bool (ei ((s,l),(s2,ai))&&decide (s>=0)))) [.J (.agg [.int .i64 s,.Y (l.map ag),.int .i64 s2,.Y (ai.map ag)])]:=by
 refine cB ?_;simp only[WY];obtain⟨ck,cq⟩:=G;rcases ab:ei ((s,l),(s2,ai))
 ·refine aX ?_;repeat' (intro h<;>simp only[h,go_sem,go_sem_proc,fG,ck,cq,ab]<;>try refine aw ?_ ?_)
 ·refine aX ?_;repeat' (intro h<;>simp only[h,go_sem,go_sem_proc,fG,ck,cq,ab]<;>try refine aw ?_ ?_)
abbrev Xh:Int×(List Int)×Int×(List Int)->List Data:=λ(s,l,s2,ai)=>[.agg [.int .i64 s,.Y (l.map ag),.int .i64 s2,.Y (ai.map ag)],.ptr [.fn wG []]]
def Xi:=cp Xh λ(s,l,s2,ai)=>cV (D l<=1000000/\D ai<=1000000) (.same (.bool (!(ei ((s,l),(s2,ai))&&decide (s>=0)))))
theorem atk:∀a b,Xh a=Xh b->a=b:=by
  rintro⟨s1,dY,BV,BW⟩ ⟨s2,ai,BX,BZ⟩ h;simp only[bb,Data.agg.injEq,Data.int.injEq,Data.Y.injEq] at h;exact ed h.1.1.2 (ed (map_inj fj _ _ h.1.2.1) (ed h.1.2.2.1.2 (map_inj fj _ _ h.1.2.2.2.1)))
@[go_sem] theorem atl (s:Int)(l:List Int)(s2:Int)(ai:List Int)(G:(D l)<=1000000/\D ai<=1000000):Xi [.agg [.int .i64 s,.Y (l.map ag),.int .i64 s2,.Y (ai.map ag)],.ptr [.fn wG []]]=some (.same (.bool (!(ei ((s,l),(s2,ai))&&decide (s>=0))))):=(cA atk (s,l,s2,ai)).trans (cY G _)
theorem atm (T:bh)(atn:T wG=aV Xg)(s:Int)(l:List Int)(s2:Int)(ai:List Int)(G:(D l)<=1000000/\D ai<=1000000):WP T W9 (.same (.bool (!(ei ((s,l),(s2,ai))&&decide (s>=0))))) [.J (.agg [.int .i64 s,.Y (l.map ag),.int .i64 s2,.Y (ai.map ag)]),.J (.ptr [.fn wG []])]:=by
 refine cB ?_;simp only[W9];obtain⟨ck,cq⟩:=G;refine aX ?_;repeat' (intro h<;>simp only[h,go_sem,go_sem_proc,atn,ck,cq]<;>try refine aw ?_ ?_)
def kG {α:Type}(p:α->Bool)(l:List α):Int:=match l.findIdx? p with
 |some i=>i
 |none => -1
theorem Lg {α:Type}{p:α->Bool}{l:List α}{i:Nat}(h:∀x∈l.take i,p x=false){x:α}(O:l[i]?=some x)(aE:p x=true):kG p l=i:=by
 unfold kG
 have:l.findIdx? p=some i:=by
  rw[af1];obtain⟨ay,rfl⟩:=List.getElem?_eq_some_iff.1 O;refine⟨ay,aE,λj aj=>?_⟩;have:=h l[j] (List.mem_iff_getElem?.2 ⟨j,by rw[List.getElem?_take_of_lt aj];exact bx _⟩);rw[this];decide
 rw[this]
theorem PB {α:Type}{p:α->Bool}{l:List α}(h:∀x∈l,p x=false):kG p l = -1:=by
 unfold kG;rw[af2.2 h]
theorem Lh {α:Type}(p:α->Bool)(l:List α):decide (kG p l>=0)=l.any p:=by
 unfold kG
 cases h:l.findIdx? p with
 |none =>
  have:=af2.1 h;have I:l.any p=false:=by rw[List.any_eq_false];intro x O;simp[this x O]
  rw[I];rfl
 |some i =>
  rw[af1] at h;obtain⟨F,I,-⟩:=h;have af:l.any p=true:=List.any_eq_true.2 ⟨_,nc F,I⟩;rw[af];exact iw (by simp)
def GW (f:a1):Bool:=!ei f
def pS (f:FuncId):a1->Bool:=if f=zC then λx => !ei x||decide (x.1.1<0) else if f=vf then λx => !(ei x&&decide (x.1.1>=0)) else GW
def GX (f:FuncId):List Data:=if f=vf then [.ptr [.fn wG []]] else []
@[go_sem] theorem ato:pS oH=GW:=by
 unfold pS;rw[ae (by decide),ae (by decide)]
@[go_sem] theorem af3:pS zC=λx => !ei x||decide (x.1.1<0):=by
 unfold pS;rw[ad rfl]
theorem af4:pS vf=λx => !(ei x&&decide (x.1.1>=0)):=by
 unfold pS;rw[ae (by decide),ad rfl]
theorem PC {α:Type}{p:α->Bool}{l:List α}{i:Nat}(h:∀x∈l.take i,p x=false){x:α}(O:l[i]?=some x)(aE:p x=false):∀y∈l.take (i+1),p y=false:=by
 intro y ar;rw[List.take_add_one,O] at ar;simp only[Option.toList_some,List.mem_append,tP] at ar;rcases ar with ar|rfl
 ·exact h y ar
 ·exact aE
theorem qO {T:bh}{c:eA}{K:eX->bd->Prop}{st:bd}(h:wp T c K st):wp T c (cG T K []) st:=by
 have:cG T K []=K:=by funext e st;cases e<;>rfl
 rwa [this]
theorem Xj (T:bh)(id:FuncId)(eO:List Data)(aO:List Data->Option eL)(cN:T id=aV aO)(p:a1->Bool)(l:List a1)(aq:e6 l)(e5:∀a b c d,D b<=1000000->(D d)<=1000000->aO (.agg [.int .i64 a,.Y (b.map ag),.int .i64 c,.Y (d.map ag)]::eO)=some (.same (.bool (p ((a,b),(c,d)))))):
  wp T Gk.body (zt Gk.res (.same (.int .i64 (kG p l)))) ⟨lf [.J (.Y (l.map aH)),.J (.fn id eO)],emp⟩:=by
 obtain⟨aq,cX⟩:=aq;refine tn ?_;simp only[Gk];simp only[go_sem,go_sem_proc,ak];refine dv [0,1,7] [] (λ(i:Nat) tm mem=>i<=D l/\(∀x∈l.take i,p x=false)/\tm 8=.J (.int .i64 i)) (λi=>D l-i) 0 (by refine⟨fg _,by simp,rfl⟩) ?_;intro vs ms aT aR;simp only[go_sem,go_sem_proc,ak] at aT aR;subst aT aR;rintro i tm mem Q hm ⟨M,eZ,b6⟩;simp only[go_sem,go_sem_proc,bb] at Q hm;obtain⟨al,F,bH⟩:=Q;have iA:∀m:Mem,(eO.map R.J).mapM (cz 6 m)=some eO:=λm=>tC (cz 6 m) (λd=>rfl) eO;rcases dA (i<D l) with ay|b9
 ·have O:=bx ay;obtain⟨oF,tR⟩:=cX _ (nc ay);have b8:=λh=>Lg (p:=p) eZ O h;have hK:=λh=>PC (p:=p) eZ O h;generalize l[i]=x at *;obtain⟨⟨a8,bV⟩,⟨cZ,ea⟩⟩:=x;have mF:=e5 a8 bV cZ ea oF tR;have hi:decide ((i:Int)<(D l:Int))=true:=dn;have hw:=e9 (i:=i) (by omega);rcases ah:p ((a8,bV),(cZ,ea))
  ·rw[ah] at mF;simp only[go_sem,go_sem_proc,cN,al,F,bH,b6,O,hi,hw,mF,iA,aH,ak,bq,kB];repeat' (first|refine aw ?_ ?_|fail)<;>intro h<;>simp only[h,go_sem,go_sem_proc,cN,al,F,bH,b6,O,hi,hw,mF,iA,aH,ak,bq,kB]
   exact⟨i+1,by omega,by omega,hK ah,rfl⟩
  ·rw[ah] at mF;rw[b8 ah];simp only[go_sem,go_sem_proc,cN,al,F,bH,b6,O,hi,hw,mF,iA,aH,ak,bq,kB];repeat' (first|refine aw ?_ ?_|fail)<;>intro h<;>simp only[h,go_sem,go_sem_proc,cN,al,F,bH,b6,O,hi,hw,mF,iA,aH,ak,bq,kB]
 ·have hi:decide ((i:Int)<(D l:Int))=false:=dk;obtain rfl:i=D l:=by omega
  rw[k3] at eZ;rw[PB eZ];simp only[go_sem,go_sem_proc,al,F,bH,b6,hi,ak];repeat' (first|refine aw ?_ ?_|fail)<;>intro h<;>simp only[h,go_sem,go_sem_proc,al,F,bH,b6,hi,ak]
def GY (f:FuncId):Prop:=f=oH\/(f=zC/\zC<900000)\/(f=vf/\vf<900000)
abbrev PD:(List a1)×FuncId->List Data:=λ(l,f)=>[.Y (l.map aH),.fn f (GX f)]
def Xk:=cp PD λ(l,f)=>cV (e6 l/\GY f) (.same (.int .i64 (kG (pS f) l)))
theorem af5:∀a b,PD a=PD b->a=b:=by
  rintro⟨dY,f1⟩ ⟨ai,f2⟩ h;simp only[bb,Data.Y.injEq,Data.fn.injEq] at h;exact ed (map_inj m0 _ _ h.1) h.2.1.1
@[go_sem] theorem aKc (l:List a1)(f:FuncId)(G:e6 l/\GY f):Xk [.Y (l.map aH),.fn f (GX f)]=some (.same (.int .i64 (kG (pS f) l))):=(cA af5 (l,f)).trans (cY G _)
theorem atp (T:bh)(Li:T oH=aV PA)(atq:zC<900000->T zC=aV af0)(atr:vf<900000->T vf=aV Xi)(l:List a1)(f:FuncId)(G:e6 l/\GY f):WP T Gk (.same (.int .i64 (kG (pS f) l))) [.J (.Y (l.map aH)),.J (.fn f (GX f))]:=by
 refine cB ?_;simp only[Gk];obtain⟨aq,aF⟩:=G;rcases aF with rfl|⟨rfl,M⟩|⟨rfl,M⟩
 ·rw[ato];exact qO (Xj T _ _ _ Li GW l aq λa b c d F I=>atg a b c d ⟨F,I⟩)
 ·rw[af3];exact qO (Xj T _ _ _ (atq M) (λx => !ei x||decide (x.1.1<0)) l aq λa b c d F I=>ati a b c d ⟨F,I⟩)
 ·rw[af4];exact qO (Xj T _ _ _ (atr M) (λx => !(ei x&&decide (x.1.1>=0))) l aq λa b c d F I=>atl a b c d ⟨F,I⟩)
def Lj:=cp PD λ(l,f)=>cV (e6 l/\GY f) (.same (.bool (l.any (pS f))))
@[go_sem] theorem af6 (l:List a1)(f:FuncId)(G:e6 l/\GY f):Lj [.Y (l.map aH),.fn f (GX f)]=some (.same (.bool (l.any (pS f)))):=(cA af5 (l,f)).trans (cY G _)
theorem ats (T:bh)(att:T T2=aV Xk)(l:List a1)(f:FuncId)(G:e6 l/\GY f):WP T U0 (.same (.bool (l.any (pS f)))) [.J (.Y (l.map aH)),.J (.fn f (GX f))]:=by
 refine cB ?_;simp only[U0];rw[<-Lh];refine aX ?_;repeat' (intro h<;>simp only[h,go_sem,go_sem_proc,att,G]<;>try refine aw ?_ ?_)
@[go_sem] theorem aKd (l:List a1)(h:e6 l):Lj [.Y (l.map aH),.fn oH []]=some (.same (.bool (l.any (pS oH)))):=af6 l oH ⟨h,.inl rfl⟩
def oN (n:Int)(r:eV):Bool:=!(((r.1.length:Int)==n)&&(ei r.2 && !(r.1.any GW)))
abbrev Xl:(List a1)×Int×(List Int)×Int×(List Int)×Int->List Data:=λ(a,s,l,s2,ai,n)=>[.agg [.Y (a.map aH),.int .i64 s,.Y (l.map ag),.int .i64 s2,.Y (ai.map ag)],.ptr [.int .i64 n],.ptr [.fn oH []]]
def Xm:=cp Xl λ(a,s,l,s2,ai,n)=>cV (e6 a/\D l<=1000000/\D ai<=1000000) (.same (.bool (oN n (a,((s,l),(s2,ai))))))
theorem atu:∀a b,Xl a=Xl b->a=b:=by
  rintro⟨cU,s1,dY,BV,BW,hC⟩ ⟨de,s2,ai,BX,BZ,ie⟩ h;simp only[bb,Data.agg.injEq,Data.int.injEq,Data.Y.injEq,Data.ptr.injEq] at h;exact ed (map_inj m0 _ _ h.1.1) (ed h.1.2.1.2 (ed (map_inj fj _ _ h.1.2.2.1) (ed h.1.2.2.2.1.2 (ed (map_inj fj _ _ h.1.2.2.2.2.1) h.2.1.1.2))))
@[go_sem] theorem aKe (a:List a1)(s:Int)(l:List Int)(s2:Int)(ai:List Int)(n:Int)(G:e6 a/\D l<=1000000/\D ai<=1000000):Xm [.agg [.Y (a.map aH),.int .i64 s,.Y (l.map ag),.int .i64 s2,.Y (ai.map ag)],.ptr [.int .i64 n],.ptr [.fn oH []]]=some (.same (.bool (oN n (a,((s,l),(s2,ai)))))):=(cA atu (a,s,l,s2,ai,n)).trans (cY G _)
theorem atv (T:bh)(Li:T oH=aV PA)(GZ:T Kg=aV Lj)(a:List a1)(s:Int)(l:List Int)(s2:Int)(ai:List Int)(n:Int)(G:e6 a/\D l<=1000000/\D ai<=1000000):WP T WH (.same (.bool (oN n (a,((s,l),(s2,ai)))))) [.J (.agg [.Y (a.map aH),.int .i64 s,.Y (l.map ag),.int .i64 s2,.Y (ai.map ag)]),.J (.ptr [.int .i64 n]),.J (.ptr [.fn oH []])]:=by
 refine cB ?_;simp only[WH];obtain⟨aN,ck,cq⟩:=G;unfold oN;rcases F:((D a:Int)==n)
 ·refine aX ?_;repeat' (intro h<;>simp only[h,go_sem,go_sem_proc,Li,GZ,aN,ck,cq,F,ak]<;>try refine aw ?_ ?_)
 ·rcases I:ei ((s,l),(s2,ai))
  ·refine aX ?_;repeat' (intro h<;>simp only[h,go_sem,go_sem_proc,Li,GZ,aN,ck,cq,F,I,ak]<;>try refine aw ?_ ?_)
  ·refine aX ?_;repeat' (intro h<;>simp only[h,go_sem,go_sem_proc,Li,GZ,aN,ck,cq,F,I,ak,show (oH=oH)=True from by simp,true_or,Bool.not_not]<;>try refine aw ?_ ?_)
abbrev PE:(List eV)×Int->List Data:=λ(rs,n)=>[.Y (rs.map iT),.fn Bx [.ptr [.int .i64 n],.ptr [.fn oH []]]]
def Xn:=cp PE λ(rs,n)=>cV (rH rs) (.same (.int .i64 (kG (oN n) rs)))
theorem af7:∀a b,PE a=PE b->a=b:=by
  rintro⟨af8,hC⟩ ⟨af9,ie⟩ h;simp only[bb,Data.Y.injEq,Data.fn.injEq,Data.ptr.injEq,Data.int.injEq] at h;exact ed (map_inj Xf _ _ h.1) h.2.1.2.1.1.2
@[go_sem] theorem aKf (rs:List eV)(n:Int)(G:rH rs):Xn [.Y (rs.map iT),.fn Bx [.ptr [.int .i64 n],.ptr [.fn oH []]]]=some (.same (.int .i64 (kG (oN n) rs))):=(cA af7 (rs,n)).trans (cY G _)
theorem atw (T:bh)(Aa:T Bx=aV Xm)(rs:List eV)(n:Int)(G:rH rs):WP T U2 (.same (.int .i64 (kG (oN n) rs))) [.J (.Y (rs.map iT)),.J (.fn Bx [.ptr [.int .i64 n],.ptr [.fn oH []]])]:=by
 refine cB ?_;simp only[U2];obtain⟨aq,cX⟩:=G;simp only[go_sem,go_sem_proc,Aa,ak];refine dv [0,1,7] [] (λ(i:Nat) tm mem=>i<=D rs/\(∀x∈rs.take i,oN n x=false)/\tm 8=.J (.int .i64 i)) (λi=>D rs-i) 0 (by refine⟨fg _,?_,rfl⟩;simp) ?_;intro vs ms aT aR;simp only[go_sem,go_sem_proc,Aa,ak] at aT aR;subst aT aR;rintro i tm mem Q hm ⟨M,eZ,b6⟩;simp only[go_sem,go_sem_proc,Aa,bb] at Q hm;obtain⟨al,F,bH⟩:=Q;rcases dA (i<D rs) with ay|b9
 ·have O:=bx ay;obtain⟨rG,oF,tR⟩:=cX _ (nc ay);have b8:=λh=>Lg (p:=oN n) eZ O h;have hK:=λh=>PC (p:=oN n) eZ O h;generalize rs[i]=x at *;have hi:decide ((i:Int)<(D rs:Int))=true:=dn;have hw:=e9 (i:=i) (by omega);obtain⟨a,⟨a8,bV⟩,⟨cZ,ea⟩⟩:=x;dsimp only at rG oF tR;rcases ah:oN n (a,((a8,bV),(cZ,ea)))
  ·simp only[go_sem,go_sem_proc,Aa,al,F,bH,b6,O,hi,hw,rG,oF,tR,ah,ak,bq,iT,aH];repeat' (first|refine aw ?_ ?_|fail)<;>intro h<;>simp only[h,go_sem,go_sem_proc,Aa,al,F,bH,b6,O,hi,hw,rG,oF,tR,ah,ak,bq,iT,aH]
   exact⟨i+1,by omega,by omega,hK ah,rfl⟩
  ·rw[b8 ah];simp only[go_sem,go_sem_proc,Aa,al,F,bH,b6,O,hi,hw,rG,oF,tR,ah,ak,bq,iT,aH];repeat' (first|refine aw ?_ ?_|fail)<;>intro h<;>simp only[h,go_sem,go_sem_proc,Aa,al,F,bH,b6,O,hi,hw,rG,oF,tR,ah,ak,bq,iT,aH]
 ·have hi:decide ((i:Int)<(D rs:Int))=false:=dk;have hQ:i=D rs:=by omega
  subst hQ;rw[k3] at eZ;rw[PB eZ];simp only[go_sem,go_sem_proc,Aa,al,F,bH,b6,hi,ak];repeat' (first|refine aw ?_ ?_|fail)<;>intro h<;>simp only[h,go_sem,go_sem_proc,Aa,al,F,bH,b6,hi,ak]
def Xo:=cp PE λ(rs,n)=>cV (rH rs) (.same (.bool (rs.any (oN n))))
@[go_sem] theorem aKg (rs:List eV)(n:Int)(G:rH rs):Xo [.Y (rs.map iT),.fn Bx [.ptr [.int .i64 n],.ptr [.fn oH []]]]=some (.same (.bool (rs.any (oN n)))):=(cA af7 (rs,n)).trans (cY G _)
theorem atx (T:bh)(aty:T T1=aV Xn)(rs:List eV)(n:Int)(G:rH rs):WP T UZ (.same (.bool (rs.any (oN n)))) [.J (.Y (rs.map iT)),.J (.fn Bx [.ptr [.int .i64 n],.ptr [.fn oH []]])]:=by
 refine cB ?_;simp only[UZ];rw[<-Lh];refine aX ?_;repeat' (intro h<;>simp only[h,go_sem,go_sem_proc,aty,G]<;>try refine aw ?_ ?_)
def n3 (rs:List eV)(n:Int):Bool:=!(decide (n<0))&&(!(decide (n>40))&&(((D rs:Int)==n) && !(rs.any (oN n))))
abbrev PF:(List eV)×Int->List Data:=λ(rs,n)=>[.Y (rs.map iT),.int .i64 n]
def Xp:=cp PF λ(rs,n)=>cV (rH rs) (.same (.bool (n3 rs n)))
theorem aga:∀a b,PF a=PF b->a=b:=by
  rintro⟨af8,hC⟩ ⟨af9,ie⟩ h;simp only[bb,Data.Y.injEq,Data.int.injEq] at h;exact ed (map_inj Xf _ _ h.1) h.2.1.2
@[go_sem] theorem aKh (rs:List eV)(n:Int)(G:rH rs):Xp [.Y (rs.map iT),.int .i64 n]=some (.same (.bool (n3 rs n))):=(cA aga (rs,n)).trans (cY G _)
theorem atz (T:bh)(PG:T TV=aV Xo)(rs:List eV)(n:Int)(G:rH rs):WP T WD (.same (.bool (n3 rs n))) [.J (.Y (rs.map iT)),.J (.int .i64 n)]:=by
 refine cB ?_;simp only[WD];unfold n3;rcases F:decide (n<0)
 ·rcases I:decide (n>40)
  ·rcases af:((D rs:Int)==n)
   ·refine aX ?_;repeat' (intro h<;>simp only[h,go_sem,go_sem_proc,PG,G,F,I,af,ak]<;>try refine aw ?_ ?_)
   ·refine aX ?_;repeat' (intro h<;>simp only[h,go_sem,go_sem_proc,PG,G,F,I,af,ak,cz,nL,kH,scalar]<;>try refine aw ?_ ?_)
  ·refine aX ?_;repeat' (intro h<;>simp only[h,go_sem,go_sem_proc,PG,G,F,I,ak]<;>try refine aw ?_ ?_)
 ·refine aX ?_;repeat' (intro h<;>simp only[h,go_sem,go_sem_proc,PG,G,F,ak]<;>try refine aw ?_ ?_)
theorem PH {es:List (List Data)}(h:∀x∈es,Fit (.int .i64) x):∃l:List Int,es=l.map ag:=by
 obtain⟨l,e,-⟩:=Kc (e:=ag) (good:=λ_=>True) λx O=>by
  have:=h x O;simp only[Fit] at this;obtain⟨n,rfl,-⟩:=this;exact⟨n,rfl,trivial⟩
 exact⟨l,e⟩
theorem atA {x:List Data}(h:Fits [.st [.int .i64,.Y (.int .i64)],.st [.int .i64,.Y (.int .i64)]] x):∃f:a1,x=aH f:=by
 simp only[Fit,Fits] at h;obtain⟨_,_,rfl,⟨_,_,rfl,⟨s,rfl,-⟩,_,_,rfl,⟨es,rfl,-,F⟩,rfl⟩,_,_,rfl,⟨_,_,rfl,⟨s2,rfl,-⟩,_,_,rfl,⟨agb,rfl,-,I⟩,rfl⟩,rfl⟩:=h;obtain⟨l,rfl⟩:=PH λx O=>by simp only[Fit];exact F x O
 obtain⟨ai,rfl⟩:=PH λx O=>by simp only[Fit];exact I x O
 exact⟨((s,l),(s2,ai)),rfl⟩
theorem agc {es:List (List Data)}(h:∀x∈es,Fit (.st [.st [.int .i64,.Y (.int .i64)],.st [.int .i64,.Y (.int .i64)]]) x):∃l:List a1,es=l.map aH:=by
 obtain⟨l,e,-⟩:=Kc (e:=aH) (good:=λ_=>True) λx O=>by
  have:=h x O;unfold Fit at this;obtain⟨f,rfl⟩:=atA this;exact⟨f,rfl,trivial⟩
 exact⟨l,e⟩
def Xq:bT:=cn 28 1 [.cell 2 2 true] (X [(aD 2 (.alloc 144002 [(au 0),.nil]))] (.seq (X [H 6 0,bn 7 .eql 6 0] (a7 7 (X [(aD 8 (.build [(au 0),.nil] [])),bu 2 2 8] .ret) .skip)) (X [bA 3 1] (.seq (X [H 9 0,bn 10 .lss 9 0] (a7 10 (.ops [(aD 3 (.cQ (.c (.J (.int .i64 (-1))))))]) .skip)) (X [eM 4] (.seq (.block 0 (.ghost (.ow 4 144022 1) (.loop  (.seq (X [H 11 0,bn 12 .neq 11 0] (a7 12 .skip (.exit 0))) (.block 1 (X [H 13 0,bn 14 .rem 13 1048576,H 5 14] (.seq (X [H 15 5,bn 16 .lss 15 0] (a7 16 (.ops [H 17 5,(aD 18 (.un .neg (.t 17))),H 5 18]) .skip)) (X [H 19 4,H 20 5,(aD 21 (.fc 144021 false [(au 0)] 1 1 [(0,1,(.t 20))])),(aD 22 (.app 144022 [(au 0)] 8 (.t 19) (.t 21))),H 4 22] (.ops [H 23 0,bn 24 .quo 23 1048576,H 0 24]))))))))) (.seq (.ghost (.freeze 4) (.ops [H 25 3,H 26 4,(cE 27 vc 25 26),bu 2 2 27])) .ret)))))))
def Xr:bT:=cn 60 1 [.t 2] (X [dH 1 162001 0,cH 2 false] (.seq (X [bA 3 0] (.block 0 (.loop  (.seq (X [H 5 3,bl 6 1 1,aU 7 1 6,cm 8 7,bB 9 .lss 5 8] (a7 9 .skip (.exit 0))) (.seq (.block 1 (X [bl 12 1 1,aU 13 1 12,H 14 3,b2 15 1 13 14,aU 16 1 15,bn 17 .lss 16 0,H 18 17,⟨some 19,some (18,false),.dQ 1 (.t 1)⟩,⟨some 20,some (18,false),.load 1 false (.t 19)⟩,⟨some 21,some (18,false),.cQ (.t 3)⟩,⟨some 22,some (18,false),.m8 1 (.t 20) (.t 21)⟩,⟨some 23,some (18,false),.load 1 false (.t 22)⟩,⟨some 24,some (18,false),.bin .geq (.t 23) (.c (au 1048576))⟩,eu 25 18 24] (a7 25 (X [cH 2 false] .ret) .skip))) (.ops [H 10 3,bn 11 .add 10 1,H 3 11])))))) (X [bl 26 1 1,aU 27 1 26,cm 28 27,H 4 28] (.seq (X [bl 29 0 1,aU 30 1 29,(aD 31 (.bin .lss (.t 30) (.c (.J (.int .i64 (-1)))))),H 32 31,⟨some 33,some (32,false),.dQ 0 (.t 1)⟩,⟨some 34,some (32,false),.load 1 false (.t 33)⟩,⟨some 35,some (32,false),.bin .gtr (.t 34) (.c (au 1))⟩,eu 36 32 35,H 37 36,⟨some 38,some (37,false),.cQ (.t 4)⟩,⟨some 39,some (37,false),.bin .gtr (.t 38) (.c (au 60))⟩,eu 40 37 39,H 41 40,⟨some 42,some (41,false),.cQ (.t 4)⟩,⟨some 43,some (41,false),.bin .eql (.t 42) (.c (au 0))⟩,⟨some 44,some (41,false),.dQ 0 (.t 1)⟩,⟨some 45,some (41,false),.load 1 false (.t 44)⟩,⟨some 46,some (41,false),.bin .eql (.t 45) (.c (au 0))⟩,⟨some 47,some (41,false),.beq true (.t 43) (.t 46)⟩,eu 48 41 47] (a7 48 (X [cH 2 false] .ret) .skip)) (X [H 49 4,bn 50 .eql 49 0,H 51 50,⟨some 52,some (51,false),.dQ 1 (.t 1)⟩,⟨some 53,some (51,false),.load 1 false (.t 52)⟩,⟨some 54,some (51,false),.cQ (.t 4)⟩,⟨some 55,some (51,false),.bin .sub (.t 54) (.c (au 1))⟩,⟨some 56,some (51,false),.m8 1 (.t 53) (.t 55)⟩,⟨some 57,some (51,false),.load 1 false (.t 56)⟩,⟨some 58,some (51,false),.bin .neq (.t 57) (.c (au 0))⟩,eu 59 51 58,H 2 59] .ret)))))
def Xs:bT:=cn 13 1 [.cell 2 2 true] (X [dH 1 163001 0,(aD 2 (.alloc 163002 [(au 0),.nil]))] (.seq (X [bw 3 2 1,(dX 4 vb 3),fs 5 4] (a7 5 (X [(aD 6 (.build [(au 0),.nil] [])),bu 2 2 6] .ret) .skip)) (X [bl 7 0 1,aU 8 1 7,(aD 9 (.un .neg (.t 8))),bl 10 1 1,aU 11 1 10,(cE 12 vc 9 11),bu 2 2 12] .ret)))
def Xt:bT:=cn 36 2 [.cell 4 2 true,.t 5] (X [dH 2 164002 0,dH 3 164003 1,(aD 4 (.alloc 164004 [(au 0),.nil])),bA 5 0] (.seq (X [bw 10 2 2,(dX 11 vb 10),fs 12 11,H 13 12,⟨some 14,some (13,false),.load 2 true (.t 3)⟩,⟨some 15,some (13,false),.call vb [(.t 14)]⟩,⟨some 16,some (13,false),.un .not (.t 15)⟩,eu 17 13 16] (a7 17 (X [(aD 18 (.build [(au 0),.nil] [])),bu 2 4 18,bA 5 1] .ret) .skip)) (X [bl 19 1 2,aU 20 1 19,H 6 20] (X [bl 21 1 3,aU 22 1 21,H 7 22] (.seq (.block 0 (.loop  (.seq (X [H 23 7,cm 24 23,bn 25 .gtr 24 0] (a7 25 .skip (.exit 0))) (.block 1 (X [H 27 6,H 28 7,(cE 29 Km 27 28),H 26 29,bN 30 0 26,bN 31 1 26,H 8 30,H 9 31] (X [H 32 7,H 6 32] (.ops [H 33 9,H 7 33]))))))) (X [H 34 6,(aD 35 (.call vc [(.c (au 1)),(.t 34)])),bu 2 4 35,bA 5 0] .ret))))))
def Xu:bT:=cn 65 2 [.cell 4 2 true,.cell 5 2 true,.t 6] (X [dH 2 165002 0,dH 3 165003 1,(aD 4 (.alloc 165004 [(au 0),.nil])),(aD 5 (.alloc 165005 [(au 0),.nil])),bA 6 0] (.seq (X [bw 9 2 2,(dX 10 vb 9),fs 11 10,H 12 11,⟨some 13,some (12,false),.load 2 true (.t 3)⟩,⟨some 14,some (12,false),.call vb [(.t 13)]⟩,⟨some 15,some (12,false),.un .not (.t 14)⟩,eu 16 12 15] (a7 16 (X [(aD 17 (.build [(au 0),.nil] [])),(aD 18 (.build [(au 0),.nil] [])),bu 2 4 17,bu 2 5 18,bA 6 1] .ret) .skip)) (.seq (X [bl 19 0 3,aU 20 1 19,bn 21 .eql 20 0] (a7 21 (X [(aD 22 (.build [(au 0),.nil] [])),(aD 23 (.build [(au 0),.nil] [])),bu 2 4 22,bu 2 5 23,bA 6 15] .ret) .skip)) (X [bl 25 1 2,aU 26 1 25,bl 27 1 3,aU 28 1 27,(cE 29 Km 26 28),H 24 29,bN 30 0 24,bN 31 1 24,H 7 30,H 8 31] (.seq (X [bl 32 0 2,aU 33 1 32,bl 34 0 3,aU 35 1 34,bB 36 .mul 33 35,bn 37 .geq 36 0,H 38 37,⟨some 39,some (38,false),.cQ (.t 8)⟩,⟨some 40,some (38,false),.len (.t 39)⟩,⟨some 41,some (38,false),.bin .eql (.t 40) (.c (au 0))⟩,eu 42 38 41] (a7 42 (ga [bl 43 0 2,aU 44 1 43,bl 45 0 3,aU 46 1 45,bB 47 .mul 44 46,H 48 7,(cE 49 vc 47 48),bl 50 0 2,aU 51 1 50,H 52 8,(cE 53 vc 51 52),bu 2 4 49,bu 2 5 53,bA 6 0] Kz .ret) .skip)) (ga [H 54 7,(aD 55 (.fc 165055 false [(au 0)] 1 1 [(0,1,(.c (au 1)))])),(cE 56 Uc 54 55),(aD 57 (.call vc [(.c (.J (.int .i64 (-1)))),(.t 56)])),bl 58 0 3,aU 59 1 58,bl 60 1 3,aU 61 1 60,H 62 8,(cE 63 Kn 61 62),(cE 64 vc 59 63),bu 2 4 57,bu 2 5 64,bA 6 0] Kz .ret))))))
def Xv:bT:=cn 15 2 [.cell 4 2 true] (X [(aD 4 (.alloc 166004 [(au 0),.nil]))] (X [H 6 1,(dX 7 tF 6),H 5 7] (.seq (X [H 8 5,cm 9 8,bn 10 .eql 9 0] (a7 10 (X [(aD 11 (.build [(au 0),.nil] [])),bu 2 4 11] .ret) .skip)) (X [H 12 0,H 13 5,(aD 14 (.build [(au 0),.nil] [(0,1,(.t 12)),(1,1,(.t 13))])),bu 2 4 14] .ret))))
def Lk:bT:=cn 60 2 [.t 4,.t 5] (X [eM 4,eM 5] (X [H 12 0,cm 13 12,(aD 14 (.mc 180014 [(au 0)] 8 (.t 13) (.t 13))),H 6 14] (X [eM 7] (.seq (X [H 15 0,cm 16 15,bn 17 .sub 16 1,H 8 17] (.block 0 (.loop  (.seq (X [H 18 8,bn 19 .geq 18 0] (a7 19 .skip (.exit 0))) (.seq (.block 1 (X [H 22 0,H 23 8,b2 24 1 22 23,aU 25 1 24,(aD 26 (.fc 180026 true [(au 0)] 1 1 [(0,1,(.t 25))])),H 27 7,(aD 28 (.app 180028 [(au 0)] 8 (.t 26) (.t 27))),(dX 29 tF 28),H 7 29] (X [bA 9 0] (X [bA 10 1048576] (.seq (.block 2 (.loop  (.seq (X [H 30 10,H 31 9,bB 32 .sub 30 31,bn 33 .gtr 32 1] (a7 33 .skip (.exit 2))) (.block 3 (X [H 34 9,H 35 10,bB 36 .add 34 35,bn 37 .quo 36 2,H 11 37] (X [H 38 7,H 39 1,H 40 11,(aD 41 (.fc 180041 false [(au 0)] 1 1 [(0,1,(.t 40))])),(cE 42 Ko 39 41),(cE 43 Ol 38 42)] (a7 43 (.ops [H 44 11,H 10 44]) (.ops [H 45 11,H 9 45])))))))) (X [H 46 6,H 47 8,H 48 9,b2 49 1 46 47,bu 1 49 48] (.ops [H 50 7,H 51 1,H 52 9,(aD 53 (.fc 180053 false [(au 0)] 1 1 [(0,1,(.t 52))])),(dX 54 tF 53),(cE 55 Ko 51 54),(cE 56 Kn 50 55),H 7 56]))))))) (.ops [H 20 8,bn 21 .sub 20 1,H 8 21])))))) (X [H 57 6,(dX 58 tF 57),H 59 7,H 4 58,H 5 59] .ret)))))
def Xw:bT:=cn 43 2 [.t 4] (X [eM 4] (X [eM 5] (X [bA 6 0] (.seq (X [bA 7 0] (.block 0 (.ghost (.ow 5 181038 1) (.loop  (.seq (X [H 9 7,H 10 0,cm 11 10,bB 12 .lss 9 11,H 13 12,⟨some 14,some (13,false),.cQ (.t 7)⟩,⟨some 15,some (13,false),.cQ (.t 1)⟩,⟨some 16,some (13,false),.len (.t 15)⟩,⟨some 17,some (13,false),.bin .lss (.t 14) (.t 16)⟩,eu 18 13 17,H 19 18,⟨some 20,some (19,false),.cQ (.t 6)⟩,⟨some 21,some (19,false),.bin .gtr (.t 20) (.c (au 0))⟩,eu 22 19 21] (a7 22 .skip (.exit 0))) (.seq (.block 1 (X [H 25 0,H 26 7,(cE 27 tG 25 26),H 28 1,H 29 7,(cE 30 tG 28 29),bB 31 .add 27 30,H 32 6,bB 33 .add 31 32,H 8 33] (X [H 34 5,H 35 8,bn 36 .rem 35 1048576,(aD 37 (.fc 181037 false [(au 0)] 1 1 [(0,1,(.t 36))])),(aD 38 (.app 181038 [(au 0)] 8 (.t 34) (.t 37))),H 5 38] (.ops [H 39 8,bn 40 .quo 39 1048576,H 6 40])))) (.ops [H 23 7,bn 24 .add 23 1,H 7 24]))))))) (X [H 41 5,(dX 42 tF 41),H 4 42] .ret)))))
def Xx:bT:=cn 35 2 [.t 4] (X [eM 4] (X [eM 5] (X [bA 6 0] (.seq (X [bA 7 0] (.block 0 (.ghost (.ow 5 182032 1) (.loop  (.seq (X [H 9 7,H 10 0,cm 11 10,bB 12 .lss 9 11] (a7 12 .skip (.exit 0))) (.seq (.block 1 (ga [H 15 0,H 16 7,b2 17 1 15 16,aU 18 1 17,H 19 1,H 20 7,(cE 21 tG 19 20),bB 22 .sub 18 21,H 23 6,bB 24 .sub 22 23,H 8 24] Ot (X [bA 6 0] (.seq (X [H 25 8,bn 26 .lss 25 0] (a7 26 (X [H 27 8,bn 28 .add 27 1048576,H 8 28] (.ops [bA 6 1])) .skip)) (.ops [H 29 5,H 30 8,(aD 31 (.fc 182031 false [(au 0)] 1 1 [(0,1,(.t 30))])),(aD 32 (.app 182032 [(au 0)] 8 (.t 29) (.t 31))),H 5 32]))))) (.ops [H 13 7,bn 14 .add 13 1,H 7 14]))))))) (X [H 33 5,(dX 34 tF 33),H 4 34] .ret)))))
def Xy:bT:=cn 23 1 [.t 2] (X [eM 2] (X [H 4 0,cm 5 4,H 3 5] (.seq (.block 0 (.loop  (.seq (X [H 6 3,bn 7 .gtr 6 0,H 8 7,⟨some 9,some (8,true),.cQ (.t 0)⟩,⟨some 10,some (8,true),.cQ (.t 3)⟩,⟨some 11,some (8,true),.bin .sub (.t 10) (.c (au 1))⟩,⟨some 12,some (8,true),.m8 1 (.t 9) (.t 11)⟩,⟨some 13,some (8,true),.load 1 false (.t 12)⟩,⟨some 14,some (8,true),.bin .eql (.t 13) (.c (au 0))⟩,gH 15 8 14] (a7 15 .skip (.exit 0))) (.block 1 (.ops [H 16 3,bn 17 .sub 16 1,H 3 17]))))) (X [(aD 18 (.fc 183018 true [] 1 0 [])),H 19 0,H 20 3,(aD 21 (.ou 1 (.t 19) none (some (.t 20)) none)),(aD 22 (.app 183022 [(au 0)] 8 (.t 18) (.t 21))),H 2 22] .ret))))
def Xz:bT:=cn 30 2 [.t 4] (X [cH 4 false] (.seq (X [H 6 0,cm 7 6,H 8 1,cm 9 8,(aD 10 (.iJ true (.t 7) (.t 9))),bn 11 .sub 10 1,H 5 11] (.block 0 (.loop  (.seq (X [H 12 5,bn 13 .geq 12 0] (a7 13 .skip (.exit 0))) (.seq (.block 1 (X [H 16 0,H 17 5,(cE 18 tG 16 17),H 19 1,H 20 5,(cE 21 tG 19 20),bB 22 .neq 18 21] (a7 22 (X [H 23 0,H 24 5,(cE 25 tG 23 24),H 26 1,H 27 5,(cE 28 tG 26 27),bB 29 .lss 25 28,H 4 29] .ret) .skip))) (.ops [H 14 5,bn 15 .sub 14 1,H 5 15])))))) (X [cH 4 false] .ret)))
def XA:bT:=cn 60 2 [.t 4] (X [eM 4] (X [H 10 0,cm 11 10,H 12 1,cm 13 12,bB 14 .add 11 13,(aD 15 (.mc 186015 [(au 0)] 8 (.t 14) (.t 14))),H 5 15] (.seq (X [bA 6 0] (.block 0 (.loop  (.seq (X [H 16 6,H 17 0,cm 18 17,bB 19 .lss 16 18] (a7 19 .skip (.exit 0))) (.seq (.block 1 (X [bA 7 0] (X [bA 8 0] (.block 2 (.loop  (.seq (X [H 22 8,H 23 1,cm 24 23,bB 25 .lss 22 24,H 26 25,⟨some 27,some (26,false),.cQ (.t 7)⟩,⟨some 28,some (26,false),.bin .gtr (.t 27) (.c (au 0))⟩,eu 29 26 28] (a7 29 .skip (.exit 2))) (.seq (.block 3 (ga [H 32 5,H 33 6,H 34 8,bB 35 .add 33 34,b2 36 1 32 35,aU 37 1 36,H 38 0,H 39 6,b2 40 1 38 39,aU 41 1 40,H 42 1,H 43 8,(cE 44 tG 42 43),bB 45 .mul 41 44,bB 46 .add 37 45,H 47 7,bB 48 .add 46 47,H 9 48] aqX (X [H 49 5,H 50 6,H 51 8,bB 52 .add 50 51,H 53 9,bn 54 .rem 53 1048576,b2 55 1 49 52,bu 1 55 54] (.ops [H 56 9,bn 57 .quo 56 1048576,H 7 57])))) (.ops [H 30 8,bn 31 .add 30 1,H 8 31])))))))) (.ops [H 20 6,bn 21 .add 20 1,H 6 21])))))) (X [H 58 5,(dX 59 tF 58),H 4 59] .ret))))
def XB:bT:=cn 13 2 [.t 4] (X [bA 4 0] (.seq (X [H 5 1,H 6 0,cm 7 6,bB 8 .lss 5 7] (a7 8 (X [H 9 0,H 10 1,b2 11 1 9 10,aU 12 1 11,H 4 12] .ret) .skip)) (X [bA 4 0] .ret)))
theorem G0 (l:List Int):wA (.own 1 (l.map ag))=some (.own 1 (l.map ag)):=by
 refine ad ?_;rw[List.all_eq_true];intro e he;obtain⟨d,-,rfl⟩:=List.mem_map.1 he;simp[ag,scalar]
theorem w6 (n k g sz off len:Nat):cz n emp (.ref k g sz off len)=none:=by cases n<;>rfl
def B9:=cp Gl λ(l:List Int)=>cV (D l<=1000000) (.own 1 ((fK l).map ag))
@[go_sem] theorem Eh (l:List Int)(G:(D l)<=1000000):B9 [.Y (l.map ag)]=some (.own 1 ((fK l).map ag)):=(cA Oy l).trans (cY G _)
theorem atB (T:bh)  (l:List Int) (G:(D l)<=1000000):WP T Xy (.own 1 ((fK l).map ag)) [.J (.Y (l.map ag))]:=by
 refine cB ?_;simp only[Xy];have tl:((l.map ag).all λe=>D e==1)=true:=by simp[ag]
 refine aX ?_;repeat' (intro h<;>simp only[h,go_sem,go_sem_proc,ak]<;>try refine aw ?_ ?_)
 refine dv [0] [] (λ(n:Nat) tm mem=>n<=D l/\fK l=fK (l.take n)/\tm 3=.J (.int .i64 n)/\mem 183018=none) (λn=>n) (D l) (by refine⟨bW _,by simp,by simp[go_sem],rfl⟩) ?_;intro vs ms aT aR;simp only[go_sem,go_sem_proc,ak] at aT aR;subst aT aR;rintro n tm mem Q-⟨aK,bD,af,XC⟩;simp only[go_sem,go_sem_proc,bb] at Q;have al:=Q
 have dL:∀o:List Int,D o<=(D l)->mN 183018 0 1 0 8 (D o) ((o.map ag).flatten.map .J) (some (0,[]))=some (.ref 183018 1 1 0 (D o),some (183018,1,bf ag o)):=by
  intro o bJ;have:=F6 hr u5 183018 0 8 [] o (by simp;omega) (by simp;omega)
  simpa [bf] using this
 have nR:∀(o:List Int) (m:Mem),m 183018=some (1,bf ag o)->rm 1 m (.ref 183018 1 1 0 (D o))=some (o.map ag):=by
  intro o m hm;have:=aeH hm (bW _);rwa [dt (bW _)] at this
 have atC:∀o:List Int,((o.map ag).all λe=>D e==1)=true:=λo=>by simp[ag]
 rcases n with _|n
 ·have F:=dL [] (by simp);have bJ:=nR [];simp only[c1,agd,lq] at F bJ;refine aX ?_;repeat' (intro h<;>simp only[h,go_sem,go_sem_proc,al,af,XC,tl,F,lr,lU,show ¬ ((0:Int)>0) by omega,decide_false,ak,show (0:Int).toNat=0 from rfl,show (0:Int)<=0 by omega,fg,List.take_zero,c1,lq]<;>try refine aw ?_ ?_)
  rw[bJ _ (by simp[aZ]),bD];simp[fK]
 ·have hw:IntKind.i64.wrap (((n+1:Nat):Int)-1)=(n:Int):=by rw[fi _];omega
  have O:l[n]?=some l[n]:=bx (by omega);have hZ:((n+1:Nat):Int)>0:=by omega
  have hle:n+1<=D l:=aK
  by_cases aS:l[n]=0
  ·refine aX ?_;repeat' (intro h<;>simp only[h,go_sem,go_sem_proc,al,af,hw,O,aS,hZ,ak,bq,decide_true,ag,beq_self_eq_true,bb]<;>try refine aw ?_ ?_)
   exact⟨n,by omega,by omega,by rw[bD,Va l n (by omega) aS],rfl,XC⟩
  ·have qC:(l[n]==0)=false:=by simpa using aS
   have F:=dL (l.take (n+1)) (by rw[fR];omega);rw[fR,oA hle,Ca] at F;have cq:(List.take (n+1) (l.map ag)).length=n+1:=by rw[fR,ak];omega
   have age:=atC (l.take (n+1));rw[Ca] at age;refine aX ?_;repeat' (intro h<;>simp only[h,go_sem,go_sem_proc,al,af,XC,hw,O,qC,hZ,tl,age,hle,F,cq,ag,ak,bq,decide_true,bb,show (0:Int)<=((n+1:Nat):Int) by omega,lu,fg]<;>try refine aw ?_ ?_)
   have bJ:=nR (l.take (n+1)) _ (show aZ (aZ mem 183018 0 []) 183018 1 (bf ag (List.take (n+1) l)) 183018=_ by simp[aZ])
   rw[fR,oA hle] at bJ;rw[bJ,bD,Vb l n (by omega) aS]
abbrev XD:(List Int)×Nat->List Data:=λ(l,i)=>[.Y (l.map ag),.int .i64 i]
def G6:=cp XD λ(l,i)=>cV (D l<=1000000) (.same (.int .i64 (l.getD i 0)))
theorem atD:∀a b,XD a=XD b->a=b:=by
  rintro⟨dY,i1⟩ ⟨ai,i2⟩ h;simp only[bb,Data.Y.injEq,Data.int.injEq] at h;exact ed (map_inj fj _ _ h.1) (by have:=h.2.1.2;dsimp only;omega)
@[go_sem] theorem agf (l:List Int)(i:Nat)(G:(D l)<=1000000):G6 [.Y (l.map ag),.int .i64 i]=some (.same (.int .i64 (l.getD i 0))):=(cA atD (l,i)).trans (cY G _)
theorem atE (T:bh)  (l:List Int) (i:Nat) (G:(D l)<=1000000):WP T XB (.same (.int .i64 (l.getD i 0))) [.J (.Y (l.map ag)),.J (.int .i64 i)]:=by
 refine cB ?_;simp only[XB];rcases h9 i (D l) with ay|b9
 ·have O:=bx ay;have aa:decide ((i:Int)<(D l:Int))=true:=dn;have bc:l.getD i 0=l[i]:=by rw[en,O];rfl
  rw[bc];refine aX ?_;repeat' (intro h<;>simp only[h,go_sem,go_sem_proc,O,aa,ag,ak,bq]<;>try refine aw ?_ ?_)
 ·have aa:decide ((i:Int)<(D l:Int))=false:=dk;have bc:l.getD i 0=0:=by rw[en,ke b9];rfl
  rw[bc];refine aX ?_;repeat' (intro h<;>simp only[h,go_sem,go_sem_proc,aa,ak]<;>try refine aw ?_ ?_)
theorem G7 (n i:Nat):(aJ n).getD i 0=((n/1048576^i%1048576:Nat):Int):=by
 induction i generalizing n with
 |zero =>
  rcases kV n with h|h
  ·subst h;rfl
  ·rw[u6 h,Nat.pow_zero,Nat.div_one];rfl
 |succ i ax =>
  rcases kV n with h|h
  ·subst h;rw[V6];rfl
  ·rw[u6 h];show (aJ (n/1048576)).getD i 0=_;rw[ax,agh,<-Nat.pow_succ']
theorem G8 (n i:Nat):n/1048576^i=n/1048576^i%1048576+1048576*(n/1048576^(i+1)):=by
 rw[wD,<-agh];omega
theorem Cb {n k:Nat}(h:(aJ n).length<=k):n/1048576^k=0:=Nat.div_eq_of_lt (gG.1 h)
def PI:=cp vi λ(x,y)=>cV ((aJ x).length<=100000/\(aJ y).length<=100000) (.same (.bool (decide (x<y))))
@[go_sem] theorem atF (x:Nat)(y:Nat)(G:(aJ x).length<=100000/\(aJ y).length<=100000):PI [b1 x,b1 y]=some (.same (.bool (decide (x<y)))):=(cA yg (x,y)).trans (cY G _)
theorem atG (T:bh)(gv:T tG=aV G6)(x:Nat)(y:Nat)(G:(aJ x).length<=100000/\(aJ y).length<=100000):WP T Xz (.same (.bool (decide (x<y)))) [.J (b1 x),.J (b1 y)]:=by
 refine cB ?_;simp only[Xz];obtain⟨O,ar⟩:=G;have mW:∃bj:Nat,bj=max (aJ x).length (aJ y).length:=⟨_,rfl⟩;obtain⟨bj,mW⟩:=mW;have hY:(if ((aJ y).length:Int)>((aJ x).length:Int) then ((aJ y).length:Int) else ((aJ x).length:Int))=(bj:Int):=by split<;>omega
 have BR:IntKind.i64.wrap ((bj:Int)-1)=(bj:Int)-1:=wrap64 _ (by omega) (by omega);have n0:(aJ x).length<=1000000:=by omega
 have kZ:(aJ y).length<=1000000:=by omega
 simp only[go_sem,go_sem_proc,gv,b1,ak,hY,BR];refine dv [0,1] [] (λ(i:Nat) tm mem=>i<=bj/\x/1048576^i=y/1048576^i/\tm 5=.J (.int .i64 ((i:Int)-1))) (λi=>i) bj (by refine⟨bW _,?_,rfl⟩;rw[Cb (by omega),Cb (by omega)]) ?_;intro vs ms aT aR;simp only[go_sem,go_sem_proc,gv,b1] at aT aR;subst aT aR;rintro i tm mem Q-⟨M,he,bk⟩;simp only[go_sem,go_sem_proc,gv,bb] at Q;obtain⟨al,F⟩:=Q;rcases i with _|i
 ·have mn:x=y:=by simpa using he
  have ay:decide (x<y)=false:=dk;rw[ay];simp only[go_sem,go_sem_proc,gv,al,F,bk,lr,lU,show ¬ ((0:Int)-1>=0) by omega,decide_false]
  repeat' (first|refine aw ?_ ?_|fail)<;>intro h<;>simp only[h,go_sem,go_sem_proc,gv,al,F,bk,lr,lU,show ¬ ((0:Int)-1>=0) by omega,decide_false]
 ·have hw:((i+1:Nat):Int)-1=(i:Int):=by omega
  have b9:decide ((i:Int)>=0)=true:=dn;have aA:=G8 x i;have aC:=G8 y i;rw[he] at aA;have fw:IntKind.i64.wrap ((i:Int)-1)=(i:Int)-1:=wrap64 _ (by omega) (by omega);have cD:=G7 x i;have cf:=G7 y i;have df:=qH (x/1048576^i) (show 0<1048576 by omega);have eD:=qH (y/1048576^i) (show 0<1048576 by omega);have ck:x/1048576^i<y/1048576^i->x<y:=λh=>agi h;have cq:y/1048576^i<x/1048576^i->y<x:=λh=>agi h;generalize nk:x/1048576^i=dg at *;generalize zS:y/1048576^i=gi at *;generalize y/1048576^(i+1)=Z at *;generalize dg%1048576=a at *;generalize gi%1048576=b at *;rcases Nat.lt_trichotomy a b with h|h|h
  ·have bC:((a:Int)==(b:Int))=false:=by simp;omega
   have Ab:decide ((a:Int)<(b:Int))=decide (x<y):=by rw[iw (show (a:Int)<(b:Int) by omega),iw (ck (by omega))]
   simp only[go_sem,go_sem_proc,gv,al,F,bk,hw,b9,cD,cf,n0,kZ,bC,Ab];repeat' (first|refine aw ?_ ?_|fail)<;>intro h<;>simp only[h,go_sem,go_sem_proc,gv,al,F,bk,hw,b9,cD,cf,n0,kZ,bC,Ab]
  ·subst h;simp only[go_sem,go_sem_proc,gv,al,F,bk,hw,b9,cD,cf,n0,kZ,fw,beq_self_eq_true];repeat' (first|refine aw ?_ ?_|fail)<;>intro h<;>simp only[h,go_sem,go_sem_proc,gv,al,F,bk,hw,b9,cD,cf,n0,kZ,fw,beq_self_eq_true]
   exact⟨i,by omega,by omega,by rw[nk,zS];omega,rfl⟩
  ·have bC:((a:Int)==(b:Int))=false:=by simp;omega
   have Ab:decide ((a:Int)<(b:Int))=decide (x<y):=by rw[j9 (show ¬ (a:Int)<(b:Int) by omega),j9 (by have:=cq (by omega);omega)]
   simp only[go_sem,go_sem_proc,gv,al,F,bk,hw,b9,cD,cf,n0,kZ,bC,Ab];repeat' (first|refine aw ?_ ?_|fail)<;>intro h<;>simp only[h,go_sem,go_sem_proc,gv,al,F,bk,hw,b9,cD,cf,n0,kZ,bC,Ab]
theorem XE {o:List Int}{d:Int}(h:eU o)(al:0<=d)(F:d<1048576):eU (o++[d]):=Ds.2 ⟨h,Dr.2 ⟨⟨al,F⟩,by intro d aa;cases aa⟩⟩
theorem XF (o:List Int)(d:Int):bg (o++[d])=bg o+1048576^(D o)*d:=by rw[Dt];simp[bg]
theorem G9 {o:List Int}{n:Nat}(h:eU o)(hv:bg o=n):fK o=aJ n:=by rw[zz h,hv];rfl
def XG:=cp vi λ(x,y)=>cV ((aJ x).length<=10000/\(aJ y).length<=10000) (.same (b1 (x+y)))
@[go_sem] theorem atH (x:Nat)(y:Nat)(G:(aJ x).length<=10000/\(aJ y).length<=10000):XG [b1 x,b1 y]=some (.same (b1 (x+y))):=(cA yg (x,y)).trans (cY G _)
theorem atI (T:bh)(gv:T tG=aV G6)(fV:T tF=aV B9)(x:Nat)(y:Nat)(G:(aJ x).length<=10000/\(aJ y).length<=10000):WP T Xw (.same (b1 (x+y))) [.J (b1 x),.J (b1 y)]:=by
 refine cB ?_;simp only[Xw];obtain⟨O,ar⟩:=G;have mW:∃bj:Nat,bj=max (aJ x).length (aJ y).length:=⟨_,rfl⟩;obtain⟨bj,mW⟩:=mW;have n0:(aJ x).length<=1000000:=by omega
 have kZ:(aJ y).length<=1000000:=by omega
 simp only[go_sem,go_sem_proc,gv,fV,b1,ak];refine dv [0,1] [] (λ((i,c,g,o):Nat×Nat×Nat×List Int) tm mem=>i<=bj+1/\c<=1/\(i=bj+1->c=0)/\D o=i/\eU o/\bg o+1048576^i*((x/1048576^i+y/1048576^i+c:Nat):Int)=((x+y:Nat):Int)/\tm 6=.J (.int .i64 c)/\tm 7=.J (.int .i64 i)/\tm 5=.ref 181038 g 1 0 i/\mem 181038=some (g,bf ag o)) (λ(i,_)=>bj+1-i) (0,0,0,[]) (by refine⟨by omega,by omega,by simp,rfl,by simp[eU],by simp[bg],rfl,rfl,rfl,rfl⟩) ?_;intro vs ms aT aR;simp only[go_sem,go_sem_proc,gv,fV,b1] at aT aR;subst aT aR;rintro⟨i,c,g,o⟩ tm mem Q-⟨M,gQ,hG,bJ,iy,hv,bI,bH,bk,hm⟩;simp only[go_sem,go_sem_proc,gv,fV,bb] at Q;obtain⟨al,F⟩:=Q;have aE:bg o+1048576^i*((x/1048576^i+y/1048576^i+c:Nat):Int)=((x+y:Nat):Int):=hv
 by_cases Ll:i<(aJ x).length\/i<(aJ y).length\/0<c
 ·have aA:=G8 x i;have aC:=G8 y i;have cD:=G7 x i;have cf:=G7 y i;have df:=qH (x/1048576^i) (show 0<1048576 by omega);have eD:=qH (y/1048576^i) (show 0<1048576 by omega);have VU:bj<=i->x/1048576^i=0/\y/1048576^i=0:=λh=>⟨Cb (by omega),Cb (by omega)⟩;have fW:(1048576:Int)^(i+1)=1048576^i*1048576:=ng _ _;generalize nk:x/1048576^i=dg at *;generalize zS:y/1048576^i=gi at *;generalize Ac:x/1048576^(i+1)=X' at *;generalize Ha:y/1048576^(i+1)=Y' at *;generalize aN:dg%1048576=a at *;generalize ah:gi%1048576=b at *;have w1:IntKind.i64.wrap ((a:Int)+(b:Int))=((a+b:Nat):Int):=by rw[fi _];omega
  have m7:IntKind.i64.wrap (((a+b:Nat):Int)+(c:Int))=((a+b+c:Nat):Int):=by rw[fi _];omega
  have ha:((a+b+c:Nat):Int).tmod 1048576=(((a+b+c)%1048576:Nat):Int):=by rw[KK (by omega)];omega
  have fu:IntKind.i64.wrap (((a+b+c:Nat):Int).tdiv 1048576)=(((a+b+c)/1048576:Nat):Int):=by rw[Gx (by omega),wrap64 _ (by omega) (by omega)];omega
  have b4:=e9 (i:=i) (by omega);have dL:=mu hr u5 181038 g 8 o (((a+b+c)%1048576:Nat):Int) (cs:=[.J (.int .i64 (((a+b+c)%1048576:Nat):Int))]) rfl (by omega) (by omega);rw[bJ] at dL
  have aKi:i<=bj:=by
   rcases h9 bj i with h|h
   ·have:=hG (by omega);omega
   ·exact h
  have ix:∃bo:Nat×Nat×Nat×List Int,bj+1-bo.1<bj+1-i/\bo.1<=bj+1/\bo.2.1<=1/\(bo.1=bj+1->bo.2.1=0)/\bo.2.2.2.length=bo.1/\eU bo.2.2.2/\bg bo.2.2.2+1048576^bo.1*((x/1048576^bo.1+y/1048576^bo.1+bo.2.1:Nat):Int)=((x+y:Nat):Int)/\R.J (Data.int .i64 (((a+b+c)/1048576:Nat):Int))=R.J (Data.int .i64 (bo.2.1:Int))/\R.J (Data.int .i64 ((i+1:Nat):Int))=R.J (Data.int .i64 (bo.1:Int))/\R.ref 181038 (g+1) 1 0 (i+1)=R.ref 181038 bo.2.2.1 1 0 bo.1/\some (g+1,bf ag (o++[(((a+b+c)%1048576:Nat):Int)]))=some (bo.2.2.1,bf ag bo.2.2.2):=by
   refine⟨(i+1,(a+b+c)/1048576,g+1,o++[(((a+b+c)%1048576:Nat):Int)]),by dsimp only;omega,by dsimp only;omega,by dsimp only;omega,?_,by simp[bJ],XE iy (by omega) (by omega),?_,rfl,rfl,rfl,rfl⟩
   ·intro h;dsimp only at h ⊢;have:=VU (by omega);omega
   ·dsimp only;rw[Ac,Ha,XF,bJ,fW,<-aE];have bZ:((dg+gi+c:Nat):Int)=1048576*((X'+Y'+(a+b+c)/1048576:Nat):Int)+(((a+b+c)%1048576:Nat):Int):=by omega
    rw[bZ,ij,ik];omega
  by_cases x6:i<(aJ x).length
  ·have d1:decide ((i:Int)<((aJ x).length:Int))=true:=dn;simp only[go_sem,go_sem_proc,gv,fV,al,F,bk,bI,bH,hm,cD,cf,n0,kZ,d1,w1,m7,ha,fu,b4,dL,ak];repeat' (first|refine aw ?_ ?_|fail)<;>intro h<;>simp only[h,go_sem,go_sem_proc,gv,fV,al,F,bk,bI,bH,hm,cD,cf,n0,kZ,d1,w1,m7,ha,fu,b4,dL,ak]
   exact ix
  ·have d1:decide ((i:Int)<((aJ x).length:Int))=false:=dk
   by_cases sn:i<(aJ y).length
   ·have d2:decide ((i:Int)<((aJ y).length:Int))=true:=dn;simp only[go_sem,go_sem_proc,gv,fV,al,F,bk,bI,bH,hm,cD,cf,n0,kZ,d1,d2,w1,m7,ha,fu,b4,dL,ak];repeat' (first|refine aw ?_ ?_|fail)<;>intro h<;>simp only[h,go_sem,go_sem_proc,gv,fV,al,F,bk,bI,bH,hm,cD,cf,n0,kZ,d1,d2,w1,m7,ha,fu,b4,dL,ak]
    exact ix
   ·have d2:decide ((i:Int)<((aJ y).length:Int))=false:=dk;have d3:decide ((c:Int)>0)=true:=dn;simp only[go_sem,go_sem_proc,gv,fV,al,F,bk,bI,bH,hm,cD,cf,n0,kZ,d1,d2,d3,w1,m7,ha,fu,b4,dL,ak];repeat' (first|refine aw ?_ ?_|fail)<;>intro h<;>simp only[h,go_sem,go_sem_proc,gv,fV,al,F,bk,bI,bH,hm,cD,cf,n0,kZ,d1,d2,d3,w1,m7,ha,fu,b4,dL,ak]
    exact ix
 ·have d1:decide ((i:Int)<((aJ x).length:Int))=false:=dk;have d2:decide ((i:Int)<((aJ y).length:Int))=false:=dk;have d3:decide ((c:Int)>0)=false:=dk;rw[Cb (n:=x) (by omega),Cb (n:=y) (by omega),show c=0 by omega] at aE
  have cN:=Eh o (by omega);rw[G9 (n:=x+y) iy (by simpa using aE)] at cN;have gu:=G0 (aJ (x+y));have kC:=qy (n:=5) hr hm;rw[bJ] at kC;simp only[go_sem,go_sem_proc,gv,fV,al,F,bk,bI,bH,hm,d1,d2,d3,cN,gu,kC,w6,kH,ak];repeat' (first|refine aw ?_ ?_|fail)<;>intro h<;>simp only[h,go_sem,go_sem_proc,gv,fV,al,F,bk,bI,bH,hm,d1,d2,d3,cN,gu,kC,w6,kH,ak]
def PJ:=cp vi λ(x,y)=>cV ((aJ x).length<=10000/\(aJ y).length<=10000/\y<=x) (.same (b1 (x-y)))
@[go_sem] theorem agj (x:Nat)(y:Nat)(G:(aJ x).length<=10000/\(aJ y).length<=10000/\y<=x):PJ [b1 x,b1 y]=some (.same (b1 (x-y))):=(cA yg (x,y)).trans (cY G _)
theorem atJ (T:bh)(gv:T tG=aV G6)(fV:T tF=aV B9)(x:Nat)(y:Nat)(G:(aJ x).length<=10000/\(aJ y).length<=10000/\y<=x):WP T Xx (.same (b1 (x-y))) [.J (b1 x),.J (b1 y)]:=by
 refine cB ?_;simp only[Xx];obtain⟨O,ar,mn⟩:=G;have n0:(aJ x).length<=1000000:=by omega
 have kZ:(aJ y).length<=1000000:=by omega
 have aeN:(aJ y).length<=(aJ x).length:=by rw[gG];exact vk mn (gG.1 (bW _))
 simp only[go_sem,go_sem_proc,gv,fV,b1,ak];refine dv [0,1] [] (λ((i,c,g,o):Nat×Nat×Nat×List Int) tm mem=>i<=(aJ x).length/\c<=1/\y/1048576^i+c<=x/1048576^i/\D o=i/\eU o/\bg o+1048576^i*((x/1048576^i-(y/1048576^i+c):Nat):Int)=((x-y:Nat):Int)/\tm 6=.J (.int .i64 c)/\tm 7=.J (.int .i64 i)/\tm 5=.ref 182032 g 1 0 i/\mem 182032=some (g,bf ag o)) (λ(i,_)=>(aJ x).length-i) (0,0,0,[]) (by refine⟨by omega,by omega,by simpa using mn,rfl,by simp[eU],by simp[bg],rfl,rfl,rfl,rfl⟩) ?_;intro vs ms aT aR;simp only[go_sem,go_sem_proc,gv,fV,b1] at aT aR;subst aT aR;rintro⟨i,c,g,o⟩ tm mem Q-⟨M,gQ,hle,bJ,iy,hv,bI,bH,bk,hm⟩;simp only[go_sem,go_sem_proc,gv,fV,bb] at Q;obtain⟨al,F⟩:=Q;have aE:bg o+1048576^i*((x/1048576^i-(y/1048576^i+c):Nat):Int)=((x-y:Nat):Int):=hv;have JP:y/1048576^i+c<=x/1048576^i:=hle
 by_cases Ll:i<(aJ x).length
 ·have d1:decide ((i:Int)<((aJ x).length:Int))=true:=dn;have aA:=G8 x i;have aC:=G8 y i;have cD:=G7 x i;rw[en,bx Ll] at cD;have gZ:(aJ x)[i]?=some ((x/1048576^i%1048576:Nat):Int):=by rw[bx Ll];exact congrArg some cD
  have cf:=G7 y i;have df:=qH (x/1048576^i) (show 0<1048576 by omega);have eD:=qH (y/1048576^i) (show 0<1048576 by omega);have fW:(1048576:Int)^(i+1)=1048576^i*1048576:=ng _ _;clear cD hle hv;generalize nk:x/1048576^i=dg at *;generalize zS:y/1048576^i=gi at *;generalize Ac:x/1048576^(i+1)=X' at *;generalize Ha:y/1048576^(i+1)=Y' at *;generalize aN:dg%1048576=a at *;generalize ah:gi%1048576=b at *;have w1:IntKind.i64.wrap ((a:Int)-(b:Int))=(a:Int)-(b:Int):=wrap64 _ (by omega) (by omega);have m7:IntKind.i64.wrap ((a:Int)-(b:Int)-(c:Int))=(a:Int)-(b:Int)-(c:Int):=wrap64 _ (by omega) (by omega);have b4:=e9 (i:=i) (by omega);have vz:IntKind.i64.wrap ((a:Int)-(b:Int)-(c:Int)+1048576)=(a:Int)-(b:Int)-(c:Int)+1048576:=wrap64 _ (by omega) (by omega);have dL:=λd:Int=>mu hr u5 182032 g 8 o d (cs:=[.J (.int .i64 d)]) rfl (by omega) (by omega);rw[bJ] at dL;rcases kE:decide ((a:Int)-(b:Int)-(c:Int)<0)
  ·have aK:=of_decide_eq_false kE;refine aX ?_;repeat' (intro h<;>simp only[h,go_sem,go_sem_proc,gv,fV,al,F,bk,bI,bH,hm,gZ,cf,kZ,d1,w1,m7,b4,dL,kE,ag,ak,bq]<;>try refine aw ?_ ?_)
   refine⟨(i+1,0,g+1,o++[(a:Int)-(b:Int)-(c:Int)]),by dsimp only;omega,by dsimp only;omega,by dsimp only;omega,by dsimp only;rw[Ac,Ha];omega,by simp[bJ],XE iy (by omega) (by omega),?_,rfl,rfl,rfl,rfl⟩
   dsimp only;rw[Ac,Ha,XF,bJ,fW,<-aE];have bZ:((dg-(gi+c):Nat):Int)=1048576*((X'-(Y'+0):Nat):Int)+((a:Int)-b-c):=by omega
   rw[bZ,ij,ik];omega
  ·have aK:=of_decide_eq_true kE;refine aX ?_;repeat' (intro h<;>simp only[h,go_sem,go_sem_proc,gv,fV,al,F,bk,bI,bH,hm,gZ,cf,kZ,d1,w1,m7,b4,vz,dL,kE,ag,ak,bq]<;>try refine aw ?_ ?_)
   refine⟨(i+1,1,g+1,o++[(a:Int)-(b:Int)-(c:Int)+1048576]),by dsimp only;omega,by dsimp only;omega,by dsimp only;omega,by dsimp only;rw[Ac,Ha];omega,by simp[bJ],XE iy (by omega) (by omega),?_,rfl,rfl,rfl,rfl⟩
   dsimp only;rw[Ac,Ha,XF,bJ,fW,<-aE];have bZ:((dg-(gi+c):Nat):Int)=1048576*((X'-(Y'+1):Nat):Int)+((a:Int)-b-c+1048576):=by omega
   have dq:∀p cb eR:Int,bg o+p*cb+p*1048576*eR=bg o+p*(1048576*eR+cb):=λp cb eR=>by rw[ij p (1048576*eR) cb,<-ik];omega
   rw[bZ];exact dq _ _ _
 ·have d1:decide ((i:Int)<((aJ x).length:Int))=false:=dk;rw[Cb (n:=x) (by omega),Cb (n:=y) (by omega),Nat.zero_sub,lr,tO,wS] at aE;have cN:=Eh o (by omega);rw[G9 (n:=x-y) iy aE] at cN;have gu:=G0 (aJ (x-y));have kC:=qy (n:=5) hr hm;rw[bJ] at kC;refine aX ?_;repeat' (intro h<;>simp only[h,go_sem,go_sem_proc,gv,fV,al,F,bk,bI,bH,hm,d1,cN,gu,kC,w6,kH,ak]<;>try refine aw ?_ ?_)
theorem agk {b:List Int}{k:Nat}(h:k<D b):b.getD k 0=b[k]:=by rw[en,bx h];rfl
theorem XH {b:List Int}{k:Nat}(h:(D b)<=k):b.getD k 0=0:=by rw[en,ke h];rfl
def PK:=cp vi λ(x,y)=>cV ((aJ x).length<=10000/\(aJ y).length<=10000) (.same (b1 (x*y)))
@[go_sem] theorem agl (x:Nat)(y:Nat)(G:(aJ x).length<=10000/\(aJ y).length<=10000):PK [b1 x,b1 y]=some (.same (b1 (x*y))):=(cA yg (x,y)).trans (cY G _)
theorem atK (T:bh)(gv:T tG=aV G6)(fV:T tF=aV B9)(x:Nat)(y:Nat)(G:(aJ x).length<=10000/\(aJ y).length<=10000):WP T XA (.same (b1 (x*y))) [.J (b1 x),.J (b1 y)]:=by
 refine cB ?_;simp only[XA];obtain⟨O,ar⟩:=G;have tK:=mT x;have ry:=mT y;have wL:=lS x;have DL:=lS y;generalize aN:aJ x=a at *;generalize ah:aJ y=b at *;have oJ:IntKind.i64.wrap ((D a:Int)+(D b:Int))=((D a+D b:Nat):Int):=by rw[fi _];rfl
 have kW:8*(D a+D b)<=140737488355328:=by omega
 have eQ:(D a)+D b<=maxLen:=Gr _ (by omega);have Dh:(D b)<=1000000:=by omega
 simp only[go_sem,go_sem_proc,gv,fV,b1,aN,ah,oJ,kW,eQ,Gq,ak]
 refine dv [0,1,5] [] (λ((i,o):Nat×List Int) tm mem=>i<=D a/\D o=D a+D b/\eU o/\o.drop (i+D b)=dC (D o-(i+D b)) 0/\bg o=bg (a.take i)*y/\tm 6=.J (.int .i64 (i:Nat))/\mem 186015=some (0,bf ag o))
  (λ(i,_)=>D a-i) (0,dC (D a+D b) 0) (by
   have aS:∀n,bg (dC n 0)=0:=by
    intro n
    induction n with
    |zero=>rfl
    |succ n ax=>rw[List.replicate_succ,tE,ax];rfl
   refine⟨fg _,by simp,λd aa=>by rw[Gu] at aa;omega,by simp,by rw[aS];simp[bg],?_,?_⟩<;>rfl) ?_
 intro vs ms aT aR;simp only[go_sem,go_sem_proc,gv,fV,b1,aN,ah,oJ,ak] at aT aR;subst aT aR;rintro⟨i,o⟩ tm mem Q-⟨M,bJ,iy,sB,jL,bI,hm⟩;simp only[go_sem,go_sem_proc,gv,fV,bb] at Q;obtain⟨al,F,bk⟩:=Q;rcases dA (i<D a) with ay|b9
 ·have mU:a[i]?=some a[i]:=bx ay;have Bq:=lx tK i ay;have tv:=lv a i ay;generalize a[i]=hO at *;have il:decide ((i:Int)<(D a:Int))=true:=dn;have BM:IntKind.i64.wrap ((i:Int)+1)=((i+1:Nat):Int):=by rw[fi _];rfl
  simp only[go_sem,go_sem_proc,gv,fV,al,F,bk,bI,mU,il,ag,ak,bq,bb]
  refine dv [0,1,5,6] [] (λ((k,c,o):Nat×Int×List Int) tm mem=>k<=D b+1/\(k=D b+1->c=0)/\D o=D a+D b/\eU o/\o.drop (i+max k (D b))=dC (D o-(i+max k (D b))) 0/\0<=c/\c<1048576/\bg o+1048576^(i+k)*c=bg (a.take i)*y+1048576^i*(hO*bg (b.take k)) /\
    tm 8=.J (.int .i64 (k:Nat))/\tm 7=.J (.int .i64 c)/\mem 186015=some (0,bf ag o))
   (λ(k,_)=>D b+1-k) (0,0,o) (by refine⟨fg _,by simp,bJ,iy,by rw[Nat.zero_max];exact sB,by omega,by omega,by simp[bg,jL],?_,?_,hm⟩<;>rfl) ?_
  intro vs ms aT aR;simp only[go_sem,go_sem_proc,gv,fV,al,F,bk,bI,ag,ak] at aT aR;subst aT aR;rintro⟨k,c,o⟩ tm mem Q-⟨qw,Cc,bJ,iy,sB,oK,gQ,jL,b6,bH,hm⟩;simp only[go_sem,go_sem_proc,gv,fV,bb] at Q;obtain⟨al,F,bk,bI⟩:=Q;have fw:IntKind.i64.wrap ((k:Int)+1)=((k+1:Nat):Int):=by rw[fi _];rfl
  have jw:IntKind.i64.wrap ((i:Int)+(k:Int))=((i+k:Nat):Int):=by rw[fi _];rfl
  by_cases Ll:k<(D b)\/c>0
  ·have KI:k<=D b:=by
    rcases h9 (D b) k with h|h
    ·have:=Cc (by omega);omega
    ·exact h
   have pN:i+k<D o:=by omega
   have Vq:=lx iy (i+k) pN
   have Gv:0<=b.getD k 0/\b.getD k 0<1048576:=by
    rcases h9 k (D b) with h|h
    ·rw[agk h];exact lx ry k h
    ·rw[XH h];omega
   have XI:bg (b.take (k+1))=bg (b.take k)+1048576^k*b.getD k 0:=by
    rcases h9 k (D b) with h|h
    ·rw[agk h];exact lv b k h
    ·rw[XH h,dt (by omega),dt (by omega)];simp
   have wo:k<(D b)\/(k=D b/\o[i+k]=0):=by
    rcases h9 k (D b) with h|h
    ·exact .inl h
    ·refine .inr ⟨by omega,aeQ sB (by omega) pN⟩
   have Lm:=agf b k Dh;generalize b.getD k 0=pT at *;obtain⟨dx,cM,nX,qF⟩:=aeP Vq Bq Gv ⟨oK,gQ⟩;have kY:IntKind.i64.wrap (hO*pT)=hO*pT:=wrap64 _ (by omega) (by omega);have zN:IntKind.i64.wrap (o[i+k]+hO*pT)=o[i+k]+hO*pT:=wrap64 _ (by omega) (by omega);have vl:IntKind.i64.wrap (o[i+k]+hO*pT+c)=o[i+k]+hO*pT+c:=wrap64 _ (by omega) (by omega);have rB:(o[i+k]+hO*pT+c).tmod 1048576=(o[i+k]+hO*pT+c)%1048576:=KK (by omega);have DT:IntKind.i64.wrap ((o[i+k]+hO*pT+c).tdiv 1048576)=(o[i+k]+hO*pT+c)/1048576:=by rw[Gx (by omega)];exact wrap64 _ (by omega) (by omega)
   have hN:i+k+1<=(bf ag o).length:=by rw[qD];omega
   have iz:=KG o (i+k) pN;have gF:=λd=>yf o (i+k) d pN;have ib:i+k<D a+D b:=by omega
   have ix:∃bo:Nat×Int×List Int,D b+1-bo.1<D b+1-k/\bo.1<=D b+1/\(bo.1=D b+1->bo.2.1=0)/\bo.2.2.length=D a+D b/\eU bo.2.2/\bo.2.2.drop (i+max bo.1 (D b))=dC (bo.2.2.length-(i+max bo.1 (D b))) 0/\0<=bo.2.1/\bo.2.1<1048576/\bg bo.2.2+1048576^(i+bo.1)*bo.2.1=bg (a.take i)*y+1048576^i*(hO*bg (b.take bo.1)) /\
     R.J (Data.int .i64 ((k+1:Nat):Int))=R.J (Data.int .i64 (bo.1:Nat))/\R.J (Data.int .i64 ((o[i+k]+hO*pT+c)/1048576))=R.J (Data.int .i64 bo.2.1)/\some (0,bf ag (o.set (i+k) ((o[i+k]+hO*pT+c)%1048576)))=some (0,bf ag bo.2.2):=by
    refine⟨(k+1,(o[i+k]+hO*pT+c)/1048576,o.set (i+k) ((o[i+k]+hO*pT+c)%1048576)),by dsimp only;omega,by dsimp only;omega,?_,by simp[bJ],zL iy _ (by omega),?_,nX,qF,?_,rfl,rfl,rfl⟩
    ·intro h;dsimp only at h ⊢;rcases wo with I|⟨I,af⟩
     ·omega
     ·have atL:pT=0:=by
       have e:=Lm;rw[agf b k Dh,XH (by omega)] at e
       simpa using e.symm
      rw[af,atL,tO];omega
    ·dsimp only;rcases wo with I|⟨I,af⟩
     ·rw[XJ (by omega)] at sB;rw[XJ (by omega),ts (by omega),List.length_set,sB]
     ·rw[XJ (by omega),<-I] at sB;rw[Nat.max_eq_left (by omega)];exact aeR sB pN
    ·dsimp only;rw[Vm _ _ _ pN,XI,<-Nat.add_assoc,ng,aeO _ _ _ _ _ _ _ jL];rw[ij (hO),ij (1048576^i),Int.pow_add]
     have:(1048576:Int)^i*(hO*(1048576^k*pT))=1048576^i*1048576^k*(hO*pT):=by
      rw[<-ik (hO),nh (hO) (1048576^k),ik (1048576^k),<-ik]
     omega
   by_cases aKj:k<D b
   ·have d1:decide ((k:Int)<(D b:Int))=true:=dn;simp only[go_sem,go_sem_proc,gv,fV,al,F,bk,bI,bH,b6,hm,mU,Lm,d1,fw,jw,kY,zN,vl,rB,DT,ib,hN,iz,gF,ag,cK,ak,bq,bb];repeat' (first|refine aw ?_ ?_|fail)<;>intro h<;>simp only[h,go_sem,go_sem_proc,gv,fV,al,F,bk,bI,bH,b6,hm,mU,Lm,d1,fw,jw,kY,zN,vl,rB,DT,ib,hN,iz,gF,ag,cK,ak,bq,bb]
    exact ix
   ·have d1:decide ((k:Int)<(D b:Int))=false:=dk;have d2:decide (c>0)=true:=dn;simp only[go_sem,go_sem_proc,gv,fV,al,F,bk,bI,bH,b6,hm,mU,Lm,d1,d2,fw,jw,kY,zN,vl,rB,DT,ib,hN,iz,gF,ag,cK,ak,bq,bb];repeat' (first|refine aw ?_ ?_|fail)<;>intro h<;>simp only[h,go_sem,go_sem_proc,gv,fV,al,F,bk,bI,bH,b6,hm,mU,Lm,d1,d2,fw,jw,kY,zN,vl,rB,DT,ib,hN,iz,gF,ag,cK,ak,bq,bb]
    exact ix
  ·have d1:decide ((k:Int)<(D b:Int))=false:=dk;have d2:decide (c>0)=false:=dk;have atM:c=0:=by omega
   rw[atM,tO,wS,show b.take k=b from dt (by omega),DL] at jL;simp only[go_sem,go_sem_proc,gv,fV,al,F,bk,bI,bH,b6,hm,d1,d2,BM,ak];repeat' (first|refine aw ?_ ?_|fail)<;>intro h<;>simp only[h,go_sem,go_sem_proc,gv,fV,al,F,bk,bI,bH,b6,hm,d1,d2,BM,ak]
   refine⟨(i+1,o),by dsimp only;omega,by dsimp only;omega,bJ,iy,?_,?_,rfl,rfl⟩
   ·dsimp only;have af:=congrArg (List.drop (i+1+D b-(i+max k (D b)))) sB;rw[List.drop_drop,List.drop_replicate] at af;rw[show i+max k (D b)+(i+1+D b-(i+max k (D b)))=i+1+(D b) by omega] at af
    rw[af]
    congr 1
    omega
   ·dsimp only;rw[jL,tv,Int.add_mul,ik]
 ·obtain rfl:i=D a:=by omega
  have il:decide ((D a:Int)<(D a:Int))=false:=dk;rw[dt (bW _),wL] at jL;have cN:=Eh o (by omega);rw[G9 (n:=x*y) iy (by rw[jL];rfl)] at cN;have gu:=G0 (aJ (x*y));have kC:=qy (n:=5) hr hm;rw[bJ] at kC;simp only[go_sem,go_sem_proc,gv,fV,al,F,bk,bI,hm,il,cN,gu,kC,w6,kH,b1,ak];repeat' (first|refine aw ?_ ?_|fail)<;>intro h<;>simp only[h,go_sem,go_sem_proc,gv,fV,al,F,bk,bI,hm,il,cN,gu,kC,w6,kH,b1,ak]
def eA.Ad:eA->List Nat->eA
 |.seq a _,0::p=>a.Ad p
 |.seq _ b,_::p=>b.Ad p
 |.cond _ a _,0::p=>a.Ad p
 |.cond _ _ b,_::p=>b.Ad p
 |.block _ c,_::p=>c.Ad p
 |.ghost _ c,_::p=>c.Ad p
 |.loop c,_::p=>c.Ad p
 |c,_=>c
theorem agm {n:Nat}(h:0<n)(F:n<1048576):[(n:Int)]=aJ n:=(Du h F).symm
theorem atN {n:Nat}(F:n<1048576):fK [(n:Int)]=aJ n:=G9 (by intro d aa;have:=tP.1 aa;omega) (by simp[bg])
theorem atO {d:Int}{r:Nat}(al:0<=d)(F:d<1048576):fK (d::aJ r)=aJ (d.toNat+1048576*r):=G9 (Dr.2 ⟨⟨al,F⟩,mT r⟩) (by rw[tE,lS];omega)
theorem XK {n m k:Nat}(h:n<m*1048576)(hm:(aJ m).length<=k):(aJ n).length<=k+1:=by
 rw[gG] at *;rw[wD];exact CY h (uV _ (DZ hm))
theorem agn (T:bh)(pg:T Ko=aV PK)(ph:T Ol=aV PI){K:eX->bd->Prop}{kk:List gz}(y cg:Nat)(ar:(aJ y).length<=1000)(eS:(aJ cg).length<=1001)(iS:0<y)(atP:cg<y*1048576)(v0 v6 Ae:R)(tm:Nat->R)(m:Mem)
  (b0:tm 0=v0) (aA:tm 1=.J (.Y ((aJ y).map ag))) (bY:tm 6=v6) (bR:tm 7=.J (.Y ((aJ cg).map ag))) (ef:tm 8=Ae) (fF:tm 9=.J (.int .i64 0)) (ej:tm 10=.J (.int .i64 1048576))
  (dN:∀tm',tm' 0=v0->tm' 1=.J (.Y ((aJ y).map ag))->tm' 6=v6->tm' 7=.J (.Y ((aJ cg).map ag))->tm' 8=Ae->tm' 9=.J (.int .i64 ((cg/y:Nat):Int))->cG T K kk (.exit 2) ⟨tm',m⟩) :
  wp T (Lk.body.Ad [1,1,1,0,1,0,0,1,0,0,1,1,1,0,0]) (cG T K kk) ⟨tm,m⟩:=by
 simp only[Lk,eA.Ad];refine dv [0,1,6,7,8] [] (λ((cy,M):Nat×Nat) tm' m'=>cy<M/\M<=1048576/\cy*y<=cg/\cg<M*y/\tm' 9=.J (.int .i64 cy)/\tm' 10=.J (.int .i64 M)/\m'=m) (λ(cy,M)=>M-cy) (0,1048576) (by refine⟨by omega,by omega,by omega,by rw[rq];exact atP,fF,ej,rfl⟩) ?_;intro vs ms aT aR;simp only[go_sem,go_sem_proc,b0,aA,bY,bR,ef] at aT aR;subst aT aR;clear b0 aA bY bR ef fF ej;rintro⟨cy,M⟩ tm m' Q hm ⟨aKk,aQ,fQ,jb,iN,gp,rfl⟩;simp only[go_sem,go_sem_proc,bb] at Q hm;obtain⟨al,F,bI,bH,b6⟩:=Q;have w1:IntKind.i64.wrap ((M:Int)-(cy:Int))=(M:Int)-(cy:Int):=wrap64 _ (by omega) (by omega)
 by_cases Ll:M-cy>1
 ·have d1:decide ((M:Int)-(cy:Int)>1)=true:=dn;have m7:IntKind.i64.wrap ((cy:Int)+(M:Int))=((cy+M:Nat):Int):=by rw[fi _];omega
  have b4:IntKind.i64.wrap (((cy+M:Nat):Int).tdiv 2)=(((cy+M)/2:Nat):Int):=by rw[Gx (by omega),wrap64 _ (by omega) (by omega)];omega
  obtain⟨w7,atQ⟩:∃w7:Nat,w7=(cy+M)/2:=⟨_,rfl⟩;rw[<-atQ] at b4;have cN:=agl y w7 ⟨by omega,by rw[<-agm (n:=w7) (by omega) (by omega)];simp⟩
  simp only[b1] at cN;rw[<-agm (n:=w7) (by omega) (by omega)] at cN;simp only[eE,c1,ag] at cN;have mh:(aJ (y*w7)).length<=1001:=XK (ago (show w7<1048576 by omega) iS) ar;have gu:=atF cg (y*w7) ⟨by omega,by omega⟩
  simp only[b1] at gu;rcases aa:decide (cg<y*w7)
  ·have aK:=of_decide_eq_false aa;rw[aa] at gu;refine aX ?_;repeat' (intro h<;>simp only[h,go_sem,go_sem_proc,pg,ph,al,F,bI,bH,b6,iN,gp,w1,m7,b4,d1,cN,gu]<;>try refine aw ?_ ?_)
   exact⟨(w7,M),by dsimp only;omega,by dsimp only;omega,aQ,by dsimp only;rw[rq];omega,jb,rfl,rfl⟩
  ·have aK:=of_decide_eq_true aa;rw[aa] at gu;refine aX ?_;repeat' (intro h<;>simp only[h,go_sem,go_sem_proc,pg,ph,al,F,bI,bH,b6,iN,gp,w1,m7,b4,d1,cN,gu]<;>try refine aw ?_ ?_)
   exact⟨(cy,w7),by dsimp only;omega,by dsimp only;omega,by dsimp only;omega,fQ,by dsimp only;rw[rq];omega,rfl,rfl⟩
 ·have d1:decide ((M:Int)-(cy:Int)>1)=false:=dk
  have aG:cg/y=cy:=by
   have F:M=cy+1:=by omega
   subst F;exact Nat.div_eq_of_lt_le fQ jb
  refine aX ?_;repeat' (intro h<;>simp only[h,go_sem,go_sem_proc,al,F,bI,bH,b6,iN,gp,w1,d1]<;>try refine aw ?_ ?_)
  refine dN _ ?_ ?_ ?_ ?_ ?_ ?_<;>simp only[e4,eb,if_false,al,F,bI,bH,b6,iN,aG]
def PL:=cp vi λ(x,y)=>cV ((aJ x).length<=1000/\(aJ y).length<=1000/\0<y) (.same (.cI [b1 (x/y),b1 (x%y)]))
@[go_sem] theorem agp (x:Nat)(y:Nat)(G:(aJ x).length<=1000/\(aJ y).length<=1000/\0<y):PL [b1 x,b1 y]=some (.same (.cI [b1 (x/y),b1 (x%y)])):=(cA yg (x,y)).trans (cY G _)
theorem atS (T:bh)(fV:T tF=aV B9)(pg:T Ko=aV PK)(ph:T Ol=aV PI)(k6:T Kn=aV PJ)(x:Nat)(y:Nat)(G:(aJ x).length<=1000/\(aJ y).length<=1000/\0<y):WP T Lk (.same (.cI [b1 (x/y),b1 (x%y)])) [.J (b1 x),.J (b1 y)]:=by
 refine cB ?_;simp only[Lk];obtain⟨O,ar,iS⟩:=G;have tK:=mT x;have wL:=lS x;generalize aN:aJ x=a at *;have kW:8*D a<=140737488355328:=by omega
 have eQ:(D a)<=maxLen:=Gr _ (by omega);have BR:IntKind.i64.wrap ((D a:Int)-1)=(D a:Int)-1:=wrap64 _ (by omega) (by omega);simp only[go_sem,go_sem_proc,fV,pg,ph,k6,b1,aN,kW,eQ,Gq,BR,ak]
 refine dv [0,1,6] [] (λ((n,r,Cd,o):Nat×Nat×R×List Int) tm mem=>n<=D a/\D o=D a/\eU o/\r<y/\bg (a.drop n)=y*bg (o.drop n)+r/\(Cd=.nil/\r=0\/Cd=.J (b1 r))/\tm 8=.J (.int .i64 ((n:Nat)-1))/\tm 7=Cd/\mem 180014=some (0,bf ag o))
  (λ(n,_)=>n) (D a,0,.nil,dC (D a) 0) (by
   refine⟨bW _,by simp,λd aa=>by rw[Gu] at aa;omega,iS,by simp[bg],.inl ⟨rfl,rfl⟩,rfl,rfl,rfl⟩) ?_
 intro vs ms aT aR;simp only[go_sem,go_sem_proc,fV,pg,ph,k6,b1,aN,ak] at aT aR;subst aT aR;rintro⟨n,r,Cd,o⟩ tm mem Q-⟨aK,bJ,iy,Gw,hv,Ei,b6,bH,hm⟩;simp only[go_sem,go_sem_proc,fV,pg,ph,k6,bb] at Q;obtain⟨al,F,bI⟩:=Q;rcases n with _|n
 ·have aG:bg o=((x/y:Nat):Int)/\r=x%y:=by
   rw[lQ,lQ,wL] at hv;have aA:(x:Int)/(y:Int)=bg o:=by rw[hv,yi,Int.add_mul_ediv_left _ _ (by omega),Int.ediv_eq_zero_of_lt (by omega) (by omega)];omega
   have aC:(x:Int)%(y:Int)=r:=by rw[hv,yi,Int.add_mul_emod_self_left,Int.emod_eq_of_lt (by omega) (by omega)]
   refine⟨by rw[<-aA];rfl,by omega⟩
  have cN:=Eh o (by omega);rw[G9 (n:=x/y) iy aG.1] at cN;have gu:=G0 (aJ (x/y));have kC:=qy (n:=5) hr hm;rw[bJ] at kC;rcases Ei with ⟨rfl,pO⟩|rfl
  ·have aS:aJ (x%y)=[]:=by rw[<-aG.2,pO];rfl
   simp only[go_sem,go_sem_proc,fV,pg,ph,k6,al,F,bI,bH,b6,hm,cN,gu,kC,aS,w6,kH,b1,lr,lU,show ¬ ((0:Int)-1>=0) by omega,decide_false,ak,c1]
   repeat' (first|refine aw ?_ ?_|fail)<;>intro h<;>simp only[h,go_sem,go_sem_proc,fV,pg,ph,k6,al,F,bI,bH,b6,hm,cN,gu,kC,aS,w6,kH,b1,lr,lU,show ¬ ((0:Int)-1>=0) by omega,decide_false,ak,c1]
  ·simp only[go_sem,go_sem_proc,fV,pg,ph,k6,al,F,bI,bH,b6,hm,cN,gu,kC,w6,kH,b1,lr,lU,show ¬ ((0:Int)-1>=0) by omega,decide_false,ak,c1,aG.2]
   repeat' (first|refine aw ?_ ?_|fail)<;>intro h<;>simp only[h,go_sem,go_sem_proc,fV,pg,ph,k6,al,F,bI,bH,b6,hm,cN,gu,kC,w6,kH,b1,lr,lU,show ¬ ((0:Int)-1>=0) by omega,decide_false,ak,c1,aG.2]
 ·have mU:a[n]?=some a[n]:=bx (by omega);have OJ:=lx tK n (by omega);have Vi:a.drop n=a[n]::a.drop (n+1):=ia (by omega);have gg:n<D o:=by omega
  have Vk:∀e:Int,(o.set n e).drop n=e::o.drop (n+1):=λe=>by
   rw[ia (by simpa using gg),List.getElem_set_self,ts (by omega)]
  generalize a[n]=d at *;have hw:((n+1:Nat):Int)-1=(n:Int):=by omega
  have b9:decide ((n:Int)>=0)=true:=dn;have kY:IntKind.i64.wrap ((n:Int)-1)=(n:Int)-1:=wrap64 _ (by omega) (by omega);have bX:(aJ r).length<=1000:=by rw[gG] at *;omega
  obtain⟨cg,eS⟩:∃cg:Nat,cg=d.toNat+1048576*r:=⟨_,rfl⟩
  have PM:cg<y*1048576:=by
   have:(r+1)*1048576<=y*1048576:=uV _ Gw;omega
  have XL:=XK PM ar;have Hb:=atO (d:=d) (r:=r) OJ.1 OJ.2;rw[<-eS] at Hb;have cN:=Eh (d::aJ r) (by rw[hV];omega);rw[Hb] at cN;simp only[eE,ag] at cN;have gu:=G0 (aJ cg)
  have ze:∀bM:Nat,mN 180026 bM 1 1 8 (aJ r).length (((aJ r).map ag).flatten.map .J) (some (bM,[.J (.int .i64 d)]))=some (.ref 180026 (bM+1) 1 0 (1+(aJ r).length),some (180026,bM+1,bf ag (d::aJ r))):=λbM=>by
   have:=F6 hr u5 180026 bM 8 [d] (aJ r) (by rw[Af];omega) (by rw[Af];omega);exact this
  have atT:∀(bM:Nat) (m:Mem),m 180026=some (bM,bf ag (d::aJ r))->cz 6 m (.ref 180026 bM 1 0 (1+(aJ r).length))=some (.Y ((d::aJ r).map ag)):=λbM m hm=>by
   have:=qy (n:=5) hr hm;rw[hV,Nat.add_comm (aJ r).length 1] at this;exact this
  have tl:(((aJ r).map ag).all λe=>D e==1)=true:=KE _;have XM:=atT (gA (mem 180026)+1) (aZ (aZ mem 180026 (gA (mem 180026)) [R.J (.int .i64 d)]) 180026 (gA (mem 180026)+1) (bf ag (d::aJ r))) (by simp[aZ]);have pI:n<D a:=by omega
  obtain⟨cy,fQ⟩:∃cy:Nat,cy=cg/y:=⟨_,rfl⟩;have XN:cy<1048576:=by rw[fQ];exact Nat.div_lt_of_lt_mul PM
  have zV:=Pf cg y;have mh:=qH cg iS;rw[<-fQ] at zV;have S2:cg-y*cy=cg%y:=by omega
  have aKl:(aJ (y*cy)).length<=1001:=XK (ago XN iS) ar
  have PN:B9 [.Y [[.int .i64 ((cg/y:Nat):Int)]]]=some (.own 1 ((aJ cy).map ag)):=by
   have h:=Eh [((cg/y:Nat):Int)] (by simp);rw[<-fQ,atN XN] at h;rw[<-fQ];exact h
  have Ln:=agl y cy ⟨by omega,by have:(aJ cy).length<=1:=gG.2 (by rw[Nat.pow_one];exact XN);omega⟩
  simp only[b1] at Ln;have Hc:=agj cg (y*cy) ⟨by omega,by omega,by omega⟩
  rw[S2] at Hc;simp only[b1] at Hc;have hN:n+1<=(bf ag o).length:=by rw[qD];omega
  have gF:=yf o n ((cg/y:Nat):Int) gg
  have ix:∃bo:Nat×Nat×R×List Int,bo.1<n+1/\bo.1<=D a/\bo.2.2.2.length=D a/\eU bo.2.2.2/\bo.2.1<y/\bg (a.drop bo.1)=y*bg (bo.2.2.2.drop bo.1)+bo.2.1/\(bo.2.2.1=.nil/\bo.2.1=0\/bo.2.2.1=.J (.Y ((aJ bo.2.1).map ag)))/\R.J (Data.int .i64 ((n:Int)-1))=R.J (Data.int .i64 ((bo.1:Int)-1))/\R.J (Data.Y ((aJ (cg%y)).map ag))=bo.2.2.1/\some (0,bf ag (o.set n ((cg/y:Nat):Int)))=some (0,bf ag bo.2.2.2):=by
   refine⟨(n,cg%y,.J (b1 (cg%y)),o.set n ((cg/y:Nat):Int)),by dsimp only;omega,by dsimp only;omega,by simp[bJ],zL iy n (by omega),mh,?_,.inr rfl,rfl,rfl,rfl⟩
   dsimp only;rw[Vi,tE,hv,Vk,tE,<-fQ];have aA:(cg:Int)=d+1048576*r:=by omega
   have aC:(y:Int)*cy+(cg%y:Nat)=cg:=by exact_mod_cast zV
   have bZ:∀v:Int,(y:Int)*(cy+1048576*v)=y*cy+1048576*(y*v):=λv=>by rw[ij,Int.mul_left_comm]
   rw[bZ];omega
  have main:Cd=.nil/\r=0\/Cd=.J (b1 r):=Ei;rcases main with ⟨rfl,pO⟩|rfl
  ·subst pO;have agq:=ze;simp only[sx,c1,agd,lq] at agq;simp only[sx,lq] at XM;simp only[sx,c1] at cN;simp only[go_sem,go_sem_proc,fV,pg,ph,k6,al,F,bI,bH,b6,hm,mU,hw,b9,agq,cN,gu,XM,w6,kH,ag,sx,ak,bq,c1];refine agn T pg ph y cg ar XL iS PM (.J (.Y (a.map ag))) (.ref 180014 0 1 0 (D a)) (.J (.int .i64 n)) _ _ ?_ ?_ ?_ ?_ ?_ ?_ ?_ ?_
   ·exact al
   ·exact F
   ·exact bI
   ·rfl
   ·simp only[e4,eb,if_false,b6,hw]
   ·rfl
   ·rfl
   intro tm' fM ca iq hR hP mY;simp only[go_sem,go_sem_proc,fV,pg,ph,k6,fM,ca,iq,hR,hP,mY,hm,pI,hN,gF,PN,Ln,Hc,kY,cK];repeat' (first|refine aw ?_ ?_|fail)<;>intro h<;>simp only[h,go_sem,go_sem_proc,fV,pg,ph,k6,fM,ca,iq,hR,hP,mY,hm,pI,hN,gF,PN,Ln,Hc,kY,cK]
   exact ix
  ·simp only[go_sem,go_sem_proc,fV,pg,ph,k6,al,F,bI,bH,b6,hm,mU,hw,b9,ze,tl,cN,gu,XM,w6,kH,b1,ag,ak,bq];refine agn T pg ph y cg ar XL iS PM (.J (.Y (a.map ag))) (.ref 180014 0 1 0 (D a)) (.J (.int .i64 n)) _ _ ?_ ?_ ?_ ?_ ?_ ?_ ?_ ?_
   ·exact al
   ·exact F
   ·exact bI
   ·rfl
   ·simp only[e4,eb,if_false,b6,hw]
   ·rfl
   ·rfl
   intro tm' fM ca iq hR hP mY;simp only[go_sem,go_sem_proc,fV,pg,ph,k6,fM,ca,iq,hR,hP,mY,hm,pI,hN,gF,PN,Ln,Hc,kY,cK];repeat' (first|refine aw ?_ ?_|fail)<;>intro h<;>simp only[h,go_sem,go_sem_proc,fV,pg,ph,k6,fM,ca,iq,hR,hP,mY,hm,pI,hN,gF,PN,Ln,Hc,kY,cK]
   exact ix
def Hd:=cp OD λ(s,l)=>cV (D l<=1000000) (.same (.agg (db (kh s l))))
@[go_sem] theorem aKm (s:Int)(l:List Int)(G:(D l)<=1000000):Hd [.int .i64 s,.Y (l.map ag)]=some (.same (.agg (db (kh s l)))):=(cA aeE (s,l)).trans (cY G _)
theorem atU (T:bh)(fV:T tF=aV B9)(s:Int)(l:List Int)(G:(D l)<=1000000):WP T Xv (.same (.agg (db (kh s l)))) [.J (.int .i64 s),.J (.Y (l.map ag))]:=by
 refine cB ?_;simp only[Xv];have cN:=Eh l G;have gu:=G0 (fK l);refine aX ?_;repeat' (intro h<;>simp only[h,go_sem,go_sem_proc,fV,cN,gu,ak]<;>try refine aw ?_ ?_)
 all_goals simp only[kh,db,c1, *,reduceIte,Bool.not_true,Bool.not_false,Bool.or_true,Bool.true_or,Bool.or_false,Bool.false_or,Bool.and_true,gT,iQ,fz,kO,beq_self_eq_true,bne]
def He:=cp BE λ(s,l)=>cV (D l<=1000000) (.same (.bool (dE (s,l))))
@[go_sem] theorem aKn (s:Int)(l:List Int)(G:(D l)<=1000000):He [.agg [.int .i64 s,.Y (l.map ag)]]=some (.same (.bool (dE (s,l)))):=(cA Gp (s,l)).trans (cY G _)
theorem atV (T:bh)  (s:Int) (l:List Int) (G:(D l)<=1000000):WP T Xr (.same (.bool (dE (s,l)))) [.J (.agg [.int .i64 s,.Y (l.map ag)])]:=by
 refine cB ?_;simp only[Xr];simp only[go_sem,go_sem_proc,ak];refine dv [1] [162001] (λ(i:Nat) tm mem=>i<=D l/\l.all nU=(l.drop i).all nU/\tm 3=.J (.int .i64 i)) (λi=>D l-i) 0 (by refine⟨by omega,by simp,rfl⟩) ?_;intro vs ms aT aR;simp only[go_sem,go_sem_proc,ak] at aT aR;subst aT aR;rintro i tm mem Q hm ⟨M,aF,af⟩;simp only[go_sem,go_sem_proc,bb] at Q hm;have F:=Q;rcases dA (i<D l) with ay|b9
 ·have aa:l.drop i=l[i]::l.drop (i+1):=ia ay;have O:l[i]?=some l[i]:=bx ay;generalize l[i]=x at *;have d1:decide ((i:Int)<(D l:Int))=true:=dn
  have ix:∀b,nU x=true->b=(l.drop (i+1)).all nU->l.all nU=b:=by
   intro b F I;rw[aF,aa,FX,F,I,gT]
  have KF:¬ nU x=true->dE (s,l)=false:=by
   intro F;rw[Bool.not_eq_true] at F;unfold dE;rw[aF,aa,FX,F]
   rfl
  have b4:=e9 (i:=i) (by omega);simp only[go_sem,go_sem_proc,F,af,hm,O,d1,b4,ag,ak,bq,bb];repeat' (first|refine aw ?_ ?_|fail)<;>intro h<;>simp only[h,go_sem,go_sem_proc,F,af,hm,O,d1,b4,ag,ak,bq,bb]
  ·rw[KF λh=>by have:=(KS x).1 h;(simp only[cj,Data.bool.injEq,Data.int.injEq,true_and,decide_eq_true_eq,decide_eq_false_iff_not,kO,beq_iff_eq,beq_eq_false_iff_ne,ne_eq] at*<;> omega)]
  ·exact⟨i+1,by omega,by omega,ix _ ((KS x).2 (by (simp only[cj,Data.bool.injEq,Data.int.injEq,true_and,decide_eq_true_eq,decide_eq_false_iff_not,kO,beq_iff_eq,beq_eq_false_iff_ne,ne_eq] at*<;> omega))) rfl,rfl⟩
  ·rw[KF λh=>by have:=(KS x).1 h;(simp only[cj,Data.bool.injEq,Data.int.injEq,true_and,decide_eq_true_eq,decide_eq_false_iff_not,kO,beq_iff_eq,beq_eq_false_iff_ne,ne_eq] at*<;> omega)]
 ·have he:l.drop i=[]:=List.drop_eq_nil_of_le (by omega);rw[he] at aF;have eZ:l.all nU=true:=by rw[aF];rfl
  have d1:decide ((i:Int)<(D l:Int))=false:=dk;rcases List.eq_nil_or_concat l with rfl|⟨r,x,rfl⟩
  ·have d2:decide ((i:Int)<0)=false:=d1;simp only[go_sem,go_sem_proc,F,af,hm,d2,lq,lr,lU,beq_self_eq_true,c1,bne];repeat' (first|refine aw ?_ ?_|fail)<;>intro h<;>simp only[h,go_sem,go_sem_proc,F,af,hm,d2,lq,lr,lU,beq_self_eq_true,c1,bne]
   all_goals (refine congrArg (λb=>some (Data.bool b)) ?_;unfold dE;simp;try simp only[decide_eq_true_eq,decide_eq_false_iff_not,beq_iff_eq,beq_eq_false_iff_ne,pj,agr,beq_eq_false_iff_ne,ne_eq] at *;omega)
  ·rw[List.concat_eq_append] at *;have bC:(((r++[x]).length:Int)==0)=false:=by simp;omega
   have hw:IntKind.i64.wrap (((r++[x]).length:Int)-1)=(D r:Int):=by
    have cq:(r++[x]).length=D r+1:=by simp
    rw[fi _];omega
   have bc:((r++[x]).map ag)[D r]?=some [.int .i64 x]:=by simp[ag]
   have ab:dE (s,r++[x])=((s==1||s == -1)&&decide (((r++[x]).length:Int)<=60)&&(x != 0)):=by
    unfold dE;rw[eZ];simp only[List.getLast?_append,List.getLast?_singleton];simp;have aA:decide (D r<=59)=decide ((D r:Int)+1<=60):=decide_eq_decide.2 (by omega);have aC:(some x != some (0:Int))=(x != 0):=by simp[bne]
    rw[aA,aC]
   rw[ab];simp only[go_sem,go_sem_proc,F,af,hm,d1,bC,hw,bc,ak];repeat' (first|refine aw ?_ ?_|fail)<;>intro h<;>simp only[h,go_sem,go_sem_proc,F,af,hm,d1,bC,hw,bc,ak]
   all_goals (refine congrArg (λb=>some (Data.bool b)) ?_;clear aF eZ ab bc hw Q hm F af d1;rw[w2];simp only[ec,Bool.or_eq_true,decide_eq_true_eq,decide_eq_false_iff_not,beq_iff_eq,beq_eq_false_iff_ne,pj,agr,ne_eq,kO,false_iff,true_iff] at *;omega)
def XO:=cp BE λ(s,l)=>cV (D l<=1000000) (.same (.agg (db (jT (s,l)))))
@[go_sem] theorem aKo (s:Int)(l:List Int)(G:(D l)<=1000000):XO [.agg [.int .i64 s,.Y (l.map ag)]]=some (.same (.agg (db (jT (s,l))))):=(cA Gp (s,l)).trans (cY G _)
theorem atW (T:bh)(jV:T vb=aV He)(gW:T vc=aV Hd)(s:Int)(l:List Int)(G:(D l)<=1000000):WP T Xs (.same (.agg (db (jT (s,l))))) [.J (.agg [.int .i64 s,.Y (l.map ag)])]:=by
 refine cB ?_;simp only[Xs]
 by_cases ab:dE (s,l)=true
 ·obtain⟨z,aS,e⟩:=(jR _).1 ab;have aA:jT (s,l)=bO (-z):=by unfold jT;rw[ad ab,e,fS]
  cases e
  have hw:IntKind.i64.wrap (0-z.sign) = -z.sign:=by
   have:=Int.sign_trichotomy z;rw[fi _];omega
  rw[aA];refine aX ?_;repeat' (intro h<;>simp only[h,go_sem,go_sem_proc,jV,gW,ab,G,hw,afu,db]<;>try refine aw ?_ ?_)
 ·have ab:dE (s,l)=false:=by simpa using ab
  have aA:jT (s,l)=(0,[]):=by unfold jT;rw[ab];rfl
  rw[aA];refine aX ?_;repeat' (intro h<;>simp only[h,go_sem,go_sem_proc,jV,gW,ab,G,db,c1]<;>try refine aw ?_ ?_)
theorem ags (n:Int):(n.tmod 1048576).natAbs=n.natAbs%1048576:=by rw[Int.natAbs_tmod];rfl
theorem agt (n:Int):(n.tdiv 1048576).natAbs=n.natAbs/1048576:=by rw[Int.natAbs_tdiv];rfl
def XP:=cp wJ λ(n:Int)=>cV (dB n) (.same (.agg (db (bO n))))
@[go_sem] theorem aKp (n:Int)(G:dB n):XP [.int .i64 n]=some (.same (.agg (db (bO n)))):=(cA zF n).trans (cY G _)
theorem atX (T:bh)(gW:T vc=aV Hd)(n:Int)(G:dB n):WP T Xq (.same (.agg (db (bO n)))) [.J (.int .i64 n)]:=by
 refine cB ?_;simp only[Xq];have lN:=G;unfold dB at lN;obtain⟨tg,uP⟩:=lN;have hlen:(aJ n.natAbs).length<=60:=gG.2 (yt G);rcases dA (n=0) with rfl|mm
 ·simp only[go_sem,go_sem_proc,gW,db,beq_self_eq_true];repeat' (first|refine aw ?_ ?_|fail)<;>intro h<;>simp only[h,go_sem,go_sem_proc,gW,db,beq_self_eq_true]
  rfl
 have bC:(n==0)=false:=by simpa using mm
 have U:∀s:Int,s=n.sign->kh s (aJ n.natAbs)=bO n:=λs h=>pQ rfl λ_=>h;have vt:(aJ n.natAbs).length<=1000000:=by omega
 rcases dA (n<0) with kE|hZ
 ·have rI:=U (-1) (rD kE).symm;simp only[go_sem,go_sem_proc,gW,bC,kE,decide_true];refine dv [2,3] [144002] (λ((u,g,l):Int×Nat×List Int) tm mem=>u<=0/\n<=u/\aJ n.natAbs=l++aJ u.natAbs/\tm 0=.J (.int .i64 u)/\tm 4=.ref 144022 g 1 0 (D l)/\mem 144022=some (g,bf ag l)) (λ(u,_)=>u.natAbs) (n,0,[]) (by refine⟨by omega,by omega,rfl,rfl,rfl,rfl⟩) ?_;intro vs ms aT aR;simp only[go_sem,go_sem_proc,gW,kE,decide_true] at aT aR;subst aT aR;rintro⟨u,g,l⟩ tm mem Q hm ⟨hu,atY,aa,al,aM,w8⟩;simp only[go_sem,go_sem_proc,gW,bb] at Q hm;obtain⟨I,af⟩:=Q;rcases dA (u=0) with rfl|D4
  ·rw[show (0:Int).natAbs=0 from rfl,sx,fJ] at aa;rw[aa] at rI vt;simp only[go_sem,go_sem_proc,gW,al,I,af,aM,hm,w8,rI,vt,mS hr,k3,db,ak,beq_self_eq_true];repeat' (first|refine aw ?_ ?_|fail)<;>intro h<;>simp only[h,go_sem,go_sem_proc,gW,al,I,af,aM,hm,w8,rI,vt,mS hr,k3,db,ak,beq_self_eq_true]
  ·have zQ:(D l)<=60:=by
    have:=congrArg D aa;rw[fE] at this;omega
   have ym:(u==0)=false:=by simpa using D4
   have dL:=λd:Int=>mu hr u5 144022 g 8 l d (cs:=[.J (.int .i64 d)]) rfl (by omega) (by omega);have aA:=ags u;have aC:=agt u;have bZ:u.tmod 1048576<=0:=by have:=agu (a:=-u) 1048576 (by omega);rw[Int.neg_tmod] at this;omega
   have dq:u.tdiv 1048576<=0/\u<=u.tdiv 1048576:=by
    have:=agv (a:=-u) (b:=1048576) (by omega) (by omega);rw[Int.neg_tdiv] at this;omega
   have oJ:IntKind.i64.wrap (u.tdiv 1048576)=u.tdiv 1048576:=wrap64 _ (by omega) (by omega);have fw:IntKind.i64.wrap (0-u.tmod 1048576) = -(u.tmod 1048576):=by rw[fi _];omega
   have vn:=u6 (n:=u.natAbs) (by omega)
   have ix:∀d:Int,d=((u.natAbs%1048576:Nat):Int)->∃bo:Int×Nat×List Int,bo.1.natAbs<u.natAbs/\bo.1<=0/\n<=bo.1/\aJ n.natAbs=bo.2.2++aJ bo.1.natAbs/\R.J (.int .i64 (u.tdiv 1048576))=R.J (.int .i64 bo.1)/\R.ref 144022 (g+1) 1 0 (D l+1)=R.ref 144022 bo.2.1 1 0 bo.2.2.length/\some (g+1,bf ag (l++[d]))=some (bo.2.1,bf ag bo.2.2):=by
    intro d Ba;refine⟨(u.tdiv 1048576,g+1,l++[d]),by dsimp only;omega,by dsimp only;omega,by dsimp only;omega,?_,rfl,by simp,rfl⟩
    dsimp only;rw[aa,vn,Ba,aC,gU]
    rfl
   by_cases aS:u.tmod 1048576<0
   ·simp only[go_sem,go_sem_proc,gW,al,I,af,aM,hm,w8,ym,dL,oJ,fw,aS,decide_true,ak,bb];repeat' (first|refine aw ?_ ?_|fail)<;>intro h<;>simp only[h,go_sem,go_sem_proc,gW,al,I,af,aM,hm,w8,ym,dL,oJ,fw,aS,decide_true,ak,bb]
    exact ix _ (by omega)
   ·simp only[go_sem,go_sem_proc,gW,al,I,af,aM,hm,w8,ym,dL,oJ,fw,aS,decide_false,ak,bb];repeat' (first|refine aw ?_ ?_|fail)<;>intro h<;>simp only[h,go_sem,go_sem_proc,gW,al,I,af,aM,hm,w8,ym,dL,oJ,fw,aS,decide_false,ak,bb]
    exact ix _ (by omega)
 ·have rI:=U 1 (jS (by omega)).symm;simp only[go_sem,go_sem_proc,gW,bC,hZ,decide_false];refine dv [2,3] [144002] (λ((u,g,l):Int×Nat×List Int) tm mem=>0<=u/\u<=n/\aJ n.natAbs=l++aJ u.natAbs/\tm 0=.J (.int .i64 u)/\tm 4=.ref 144022 g 1 0 (D l)/\mem 144022=some (g,bf ag l)) (λ(u,_)=>u.natAbs) (n,0,[]) (by refine⟨by omega,by omega,rfl,rfl,rfl,rfl⟩) ?_;intro vs ms aT aR;simp only[go_sem,go_sem_proc,gW,hZ,decide_false] at aT aR;subst aT aR;rintro⟨u,g,l⟩ tm mem Q hm ⟨hu,atY,aa,al,aM,w8⟩;simp only[go_sem,go_sem_proc,gW,bb] at Q hm;obtain⟨I,af⟩:=Q;rcases dA (u=0) with rfl|D4
  ·rw[show (0:Int).natAbs=0 from rfl,sx,fJ] at aa;rw[aa] at rI vt;simp only[go_sem,go_sem_proc,gW,al,I,af,aM,hm,w8,rI,vt,mS hr,k3,db,ak,beq_self_eq_true];repeat' (first|refine aw ?_ ?_|fail)<;>intro h<;>simp only[h,go_sem,go_sem_proc,gW,al,I,af,aM,hm,w8,rI,vt,mS hr,k3,db,ak,beq_self_eq_true]
  ·have zQ:(D l)<=60:=by
    have:=congrArg D aa;rw[fE] at this;omega
   have ym:(u==0)=false:=by simpa using D4
   have dL:=λd:Int=>mu hr u5 144022 g 8 l d (cs:=[.J (.int .i64 d)]) rfl (by omega) (by omega);have aA:=ags u;have aC:=agt u;have bZ:=agu (a:=u) 1048576 (by omega);have dq:=agv (a:=u) (b:=1048576) (by omega) (by omega);have oJ:IntKind.i64.wrap (u.tdiv 1048576)=u.tdiv 1048576:=wrap64 _ (by omega) (by omega);have vn:=u6 (n:=u.natAbs) (by omega);have aS:decide (u.tmod 1048576<0)=false:=dk;simp only[go_sem,go_sem_proc,gW,al,I,af,aM,hm,w8,ym,dL,oJ,aS,ak,bb];repeat' (first|refine aw ?_ ?_|fail)<;>intro h<;>simp only[h,go_sem,go_sem_proc,gW,al,I,af,aM,hm,w8,ym,dL,oJ,aS,ak,bb]
   refine⟨(u.tdiv 1048576,g+1,l++[u.tmod 1048576]),by dsimp only;omega,by dsimp only;omega,by dsimp only;omega,?_,rfl,by simp,by first|rfl|simp[go_sem]⟩
   dsimp only;rw[aa,vn,aC,gU,show u.tmod 1048576=((u.natAbs%1048576:Nat):Int) by omega]
   rfl
def w9 (a b:Raw):Bool:=decide (a=b)
def XQ:=cp vr λ(s,l,s2,ai)=>cV (D l<=1000000/\D ai<=1000000) (.same (fT (lW (s,l) (s2,ai))))
@[go_sem] theorem aKq (s:Int)(l:List Int)(s2:Int)(ai:List Int)(G:(D l)<=1000000/\D ai<=1000000):XQ [.agg [.int .i64 s,.Y (l.map ag)],.agg [.int .i64 s2,.Y (ai.map ag)]]=some (.same (fT (lW (s,l) (s2,ai)))):=(cA yp (s,l,s2,ai)).trans (cY G _)
theorem atZ (T:bh)(jV:T vb=aV He)(n4:T Km=aV PL)(gW:T vc=aV Hd)(s:Int)(l:List Int)(s2:Int)(ai:List Int)(G:(D l)<=1000000/\D ai<=1000000):WP T Xt (.same (fT (lW (s,l) (s2,ai)))) [.J (.agg [.int .i64 s,.Y (l.map ag)]),.J (.agg [.int .i64 s2,.Y (ai.map ag)])]:=by
 refine cB ?_;simp only[Xt];obtain⟨ck,cq⟩:=G
 by_cases ab:dE (s,l)=true
 ·by_cases bG:dE (s2,ai)=true
  ·obtain⟨x,O,e⟩:=(jR _).1 ab;obtain⟨y,ar,aC⟩:=(jR _).1 bG
   have hm:lW (s,l) (s2,ai)=(bO (jk x.natAbs y.natAbs:Nat),0):=by
    rw[e,aC];unfold lW
    rw[k2 O,k2 ar,fS,fS]
    rfl
   rw[hm];clear hm
   cases e
   cases aC;have n0:=rE O;have kZ:=rE ar;have bc:=KX O ar;generalize nk:x.natAbs=dg at *;generalize zS:y.natAbs=gi at *;have VY:(aJ dg).length<=1000000:=by omega
   simp only[go_sem,go_sem_proc,jV,n4,gW,ab,bG,nk,zS,ck,cq,VY,ag,ak];refine dv [4] [164004] (λ((a,b):Nat×Nat) tm mem=>a<ee/\b<ee/\jk dg gi=jk a b/\tm 6=.J (.Y ((aJ a).map ag))/\tm 7=.J (.Y ((aJ b).map ag))) (λ(_,b)=>b) (dg,gi) (by refine⟨O,ar,rfl,rfl,rfl⟩) ?_;intro vs ms aT aR;simp only[go_sem,go_sem_proc,jV,n4,gW,nk,zS] at aT aR;subst aT aR;rintro⟨a,b⟩ tm mem Q hm ⟨aN,ah,wX,bI,bH⟩;simp only[go_sem,go_sem_proc,jV,n4,gW,bb] at Q hm;have aM:=Q;have iR:(aJ a).length<=60:=gG.2 aN;have kD:(aJ b).length<=60:=gG.2 ah;rcases kV b with al|hZ
   ·subst al;have aS:aJ 0=[]:=rfl;have VZ:(aJ a).length<=1000000:=by omega
    rw[afy] at wX;have U:kh 1 (aJ a)=bO ((a:Nat):Int):=pQ (by simp) λaK=>(jS (by omega)).symm;rw[wX];refine aX ?_;repeat' (intro h<;>simp only[h,go_sem,go_sem_proc,jV,n4,gW,aM,bI,bH,hm,aS,VZ,U,db,fT,nn,c1,lq,lr,lU,show ¬ ((0:Int)>0) by omega,decide_false]<;>try refine aw ?_ ?_)
   ·have bC:decide (((aJ b).length:Int)>0)=true:=by
     have:aJ b≠[]:=by rw[Ne,zx];omega
     have:=Pa.2 this;exact dn
    have hdiv:=agp a b ⟨by omega,by omega,hZ⟩
    simp only[b1] at hdiv;refine aX ?_;repeat' (intro h<;>simp only[h,go_sem,go_sem_proc,jV,n4,gW,aM,bI,bH,hm,bC,hdiv,ak]<;>try refine aw ?_ ?_)
    exact⟨(b,a%b),qH _ hZ,ah,vk (Nat.mod_le _ _) aN,by dsimp only;rw[wX,Pb a b,afz b a,Pb],rfl,rfl⟩
  ·have bG:dE (s2,ai)=false:=by simpa using bG
   have hm:lW (s,l) (s2,ai)=((0,[]),1):=by unfold lW;rw[bG,iQ];rfl
   rw[hm];refine aX ?_;repeat' (intro h<;>simp only[h,go_sem,go_sem_proc,jV,n4,gW,ab,bG,ck,cq,db,fT,c1]<;>try refine aw ?_ ?_)
 ·have ab:dE (s,l)=false:=by simpa using ab
  have hm:lW (s,l) (s2,ai)=((0,[]),1):=by unfold lW;rw[ab,fz];rfl
  rw[hm];refine aX ?_;repeat' (intro h<;>simp only[h,go_sem,go_sem_proc,jV,n4,gW,ab,ck,cq,db,fT,c1]<;>try refine aw ?_ ?_)

def XR:=cp vr λ(s,l,s2,ai)=>cV (D l<=1000000/\D ai<=1000000) (.same (hh (kF (s,l) (s2,ai))))
@[go_sem] theorem aKr (s:Int)(l:List Int)(s2:Int)(ai:List Int)(G:(D l)<=1000000/\D ai<=1000000):XR [.agg [.int .i64 s,.Y (l.map ag)],.agg [.int .i64 s2,.Y (ai.map ag)]]=some (.same (hh (kF (s,l) (s2,ai)))):=(cA yp (s,l,s2,ai)).trans (cY G _)
theorem at0 (T:bh)(jV:T vb=aV He)(n4:T Km=aV PL)(vA:T Uc=aV XG)(k6:T Kn=aV PJ)(gW:T vc=aV Hd)(s:Int)(l:List Int)(s2:Int)(ai:List Int)(G:(D l)<=1000000/\D ai<=1000000):WP T Xu (.same (hh (kF (s,l) (s2,ai)))) [.J (.agg [.int .i64 s,.Y (l.map ag)]),.J (.agg [.int .i64 s2,.Y (ai.map ag)])]:=by
 refine cB ?_;simp only[Xu];obtain⟨ck,cq⟩:=G
 by_cases ab:dE (s,l)=true
 ·by_cases bG:dE (s2,ai)=true
  ·obtain⟨x,O,e⟩:=(jR _).1 ab;obtain⟨y,ar,aC⟩:=(jR _).1 bG
   by_cases iS:y=0
   ·have hm:kF (s,l) (s2,ai)=((0,[]),(0,[]),15):=by
     rw[e,aC];unfold kF
     rw[k2 O,k2 ar,fS,fS,ad (by rfl),ad iS]
    rw[hm]
    cases e
    cases aC;have al:((y.sign:Int)==0)=true:=by rw[iS];rfl
    simp only[go_sem,go_sem_proc,jV,n4,vA,k6,gW,ab,bG,ck,cq,al,db,hh,c1];repeat' (first|refine aw ?_ ?_|fail)<;>intro h<;>simp only[h,go_sem,go_sem_proc,jV,n4,vA,k6,gW,ab,bG,ck,cq,al,db,hh,c1]
   ·have hm:kF (s,l) (s2,ai)=(bO (x.fdiv y),bO (x.fmod y),0):=by
     rw[e,aC];exact DW O ar iS
    rw[hm];clear hm
    cases e
    cases aC;have n0:=rE O;have kZ:=rE ar;have tS:(y.sign==0)=false:=by rw[beq_eq_false_iff_ne,Ne,V3];exact iS
    have DX:0<y.natAbs:=by omega
    have F:=rF x;have I:=rF y;have aE:x.sign*y.sign=(x*y).sign:=(sG x y).symm;have af:=rF (x*y);have hw:IntKind.i64.wrap (x.sign*y.sign)=x.sign*y.sign:=by rw[aE];exact wrap64 _ (by omega) (by omega)
    have hdiv:=agp x.natAbs y.natAbs ⟨by omega,by omega,DX⟩
    simp only[b1] at hdiv;have aG:=GO (y:=y) O iS;have yr:=afD (x:=x) ar iS;have V4:x.natAbs/y.natAbs<ee:=vk (V1 _ _) O;have asr:(aJ (x.natAbs/y.natAbs)).length<=60:=gG.2 V4;have DY:x.natAbs%y.natAbs<ee:=afE (qH _ DX) ar;have ass:(aJ (x.natAbs%y.natAbs)).length<=60:=gG.2 DY
    by_cases tT:x.sign*y.sign<0/\x.natAbs%y.natAbs≠0
    ·obtain⟨eq,tU⟩:=Pc tT.1 tT.2
     have bC:(((aJ (x.natAbs%y.natAbs)).length:Int)==0)=false:=by
      have:aJ (x.natAbs%y.natAbs)≠[]:=by rw[Ne,zx];exact tT.2
      have:=Pa.2 this;rw[beq_eq_false_iff_ne];omega
     have kE:decide (x.sign*y.sign>=0)=false:=j9 (by have:=tT.1;omega);have jQ:aJ 1=[1]:=by simp[aJ,ya]
     have ast:(aJ 1).length=1:=by rw[jQ];rfl
     have iB:=atH (x.natAbs/y.natAbs) 1 ⟨by omega,by omega⟩
     simp only[b1,jQ,eE,c1,ag] at iB;have jj:=agj y.natAbs (x.natAbs%y.natAbs) ⟨by omega,by omega,DZ (qH _ DX)⟩
     simp only[b1] at jj
     have iR:(aJ (x.natAbs/y.natAbs+1)).length<=1000000:=by
      have:(x.natAbs/y.natAbs+1)<ee:=by rw[eq] at aG;rw[Pj,mC] at aG;exact aG
      have:=(gG (k:=60)).2 this;omega
     have kD:(aJ (y.natAbs-x.natAbs%y.natAbs)).length<=1000000:=by have:=O7 y.natAbs (x.natAbs%y.natAbs);omega
     have hs:kh (-1) (aJ (x.natAbs/y.natAbs+1))=bO (x.fdiv y):=pQ (by rw[eq,Pj,mC]) λ_=>by rw[eq,DV,jS (show (0:Int)<((x.natAbs/y.natAbs+1:Nat):Int) by exact D0.2 (afF _))]
     have kj:kh y.sign (aJ (y.natAbs-x.natAbs%y.natAbs))=bO (x.fmod y):=by
      refine pQ ?_ λaK=>?_
      ·rw[tU];rcases mB y with ⟨e',af⟩|⟨e',af⟩|⟨e',af⟩<;>rw[e']<;>omega
      ·rw[tU,sG,B2,jS (show (0:Int)<((y.natAbs-x.natAbs%y.natAbs:Nat):Int) by omega),vh]
     simp only[go_sem,go_sem_proc,jV,n4,vA,k6,gW,ab,bG,ck,cq,tS,hw,hdiv,bC,kE,iB,jj,iR,kD,hs,kj,ag,ak,db,hh,nn];repeat' (first|refine aw ?_ ?_|fail)<;>intro h<;>simp only[h,go_sem,go_sem_proc,jV,n4,vA,k6,gW,ab,bG,ck,cq,tS,hw,hdiv,bC,kE,iB,jj,iR,kD,hs,kj,ag,ak,db,hh,nn]
    ·obtain⟨eq,tU⟩:=Pg iS tT
     have V5:(decide (x.sign*y.sign>=0)=false/\(((aJ (x.natAbs%y.natAbs)).length:Int)==0)=true)\/decide (x.sign*y.sign>=0)=true:=by
      by_cases aK:x.sign*y.sign<0
      ·left
       have:x.natAbs%y.natAbs=0:=afG.1 λh=>tT ⟨aK,h⟩;rw[this];exact⟨dk,rfl⟩
      ·right;exact dn
     have iR:(aJ (x.natAbs/y.natAbs)).length<=1000000:=by omega
     have kD:(aJ (x.natAbs%y.natAbs)).length<=1000000:=by omega
     have hs:kh (x.sign*y.sign) (aJ (x.natAbs/y.natAbs))=bO (x.fdiv y):=by
      refine pQ ?_ λaK=>?_
      ·rw[eq]
       have D3:∀aL:Nat,(x=0->aL=0)->(x.sign*y.sign*(aL:Int)).natAbs=aL:=by
        intro aL al;rcases mB x with ⟨e,F⟩|⟨e,F⟩|⟨e,F⟩<;>rcases mB y with ⟨e',af⟩|⟨e',af⟩|⟨e',af⟩<;>rw[e,e']<;>first|omega|(rw[al F];rfl)
       exact D3 _ λal=>by rw[al];exact V6 _
      ·rw[eq,aE,sG,sG,sG,B2,B2,jS (show (0:Int)<((x.natAbs/y.natAbs:Nat):Int) from D0.2 (Pk aK)),vh]
     have kj:kh x.sign (aJ (x.natAbs%y.natAbs))=bO (x.fmod y):=by
      refine pQ ?_ λaK=>?_
      ·rw[tU]
       have D3:∀aL:Nat,(x=0->aL=0)->(x.sign*(aL:Int)).natAbs=aL:=by
        intro aL al;rcases mB x with ⟨e,F⟩|⟨e,F⟩|⟨e,F⟩<;>rw[e]<;>first|omega|(rw[al F];rfl)
       exact D3 _ λal=>by rw[al];exact V0 _
      ·rw[tU,sG,B2,jS (show (0:Int)<((x.natAbs%y.natAbs:Nat):Int) from D0.2 (Pk aK)),vh]
     rcases V5 with ⟨wY,KZ⟩|wY
     ·simp only[go_sem,go_sem_proc,jV,n4,vA,k6,gW,ab,bG,ck,cq,tS,hw,hdiv,wY,KZ,iR,kD,hs,kj,ag,ak,db,hh,nn];repeat' (first|refine aw ?_ ?_|fail)<;>intro h<;>simp only[h,go_sem,go_sem_proc,jV,n4,vA,k6,gW,ab,bG,ck,cq,tS,hw,hdiv,wY,KZ,iR,kD,hs,kj,ag,ak,db,hh,nn]
     ·simp only[go_sem,go_sem_proc,jV,n4,vA,k6,gW,ab,bG,ck,cq,tS,hw,hdiv,wY,iR,kD,hs,kj,ag,ak,db,hh,nn];repeat' (first|refine aw ?_ ?_|fail)<;>intro h<;>simp only[h,go_sem,go_sem_proc,jV,n4,vA,k6,gW,ab,bG,ck,cq,tS,hw,hdiv,wY,iR,kD,hs,kj,ag,ak,db,hh,nn]
  ·have bG:dE (s2,ai)=false:=by simpa using bG
   have hm:kF (s,l) (s2,ai)=((0,[]),(0,[]),1):=by unfold kF;rw[bG,iQ];rfl
   rw[hm];simp only[go_sem,go_sem_proc,jV,n4,vA,k6,gW,ab,bG,ck,cq,db,hh,c1];repeat' (first|refine aw ?_ ?_|fail)<;>intro h<;>simp only[h,go_sem,go_sem_proc,jV,n4,vA,k6,gW,ab,bG,ck,cq,db,hh,c1]
 ·have ab:dE (s,l)=false:=by simpa using ab
  have hm:kF (s,l) (s2,ai)=((0,[]),(0,[]),1):=by unfold kF;rw[ab,fz];rfl
  rw[hm];simp only[go_sem,go_sem_proc,jV,n4,vA,k6,gW,ab,ck,cq,db,hh,c1];repeat' (first|refine aw ?_ ?_|fail)<;>intro h<;>simp only[h,go_sem,go_sem_proc,jV,n4,vA,k6,gW,ab,ck,cq,db,hh,c1]
def XS:bT:=cn 19 2 [.t 4] (X [dH 2 115002 0,cH 4 false] (X [bl 5 0 2,bl 6 1 5,aU 7 1 6,cm 8 7,H 9 1,bB 10 .leq 8 9,H 11 10,⟨some 12,some (11,true),.dQ 2 (.t 2)⟩,⟨some 13,some (11,true),.dQ 1 (.t 12)⟩,⟨some 14,some (11,true),.load 1 false (.t 13)⟩,⟨some 15,some (11,true),.len (.t 14)⟩,⟨some 16,some (11,true),.cQ (.t 1)⟩,⟨some 17,some (11,true),.bin .leq (.t 15) (.t 16)⟩,gH 18 11 17,H 4 18] .ret))
def XT:bT:=cn 17 2 [.t 4] (X [dH 2 120002 0,dH 3 120003 1,cH 4 false] (X [bl 5 0 2,bw 6 2 5,bl 7 0 3,bw 8 2 7,(cE 9 Oc 6 8),H 10 9,⟨some 11,some (10,true),.dQ 2 (.t 2)⟩,⟨some 12,some (10,true),.load 2 true (.t 11)⟩,⟨some 13,some (10,true),.dQ 2 (.t 3)⟩,⟨some 14,some (10,true),.load 2 true (.t 13)⟩,⟨some 15,some (10,true),.call Oc [(.t 12),(.t 14)]⟩,gH 16 10 15,H 4 16] .ret))
def XU:bT:=cn 13 2 [.cell 4 4 true,.t 5] (X [(aD 4 (.alloc 124004 [(au 0),.nil,(au 0),.nil])),bA 5 0] (X [H 6 0,(dX 7 Od 6),H 8 1,(dX 9 Od 8),(cE 10 T0 7 9),bN 11 0 10,bN 12 1 10,bu 4 4 11,H 5 12] .ret))
def XV:bT:=cn 38 2 [.t 4] (X [dH 2 142002 0,dH 3 142003 1,cH 4 false] (.seq (X [bl 6 0 2,aU 7 1 6,bl 8 0 3,aU 9 1 8,bB 10 .neq 7 9,H 11 10,⟨some 12,some (11,false),.dQ 1 (.t 2)⟩,⟨some 13,some (11,false),.load 1 false (.t 12)⟩,⟨some 14,some (11,false),.len (.t 13)⟩,⟨some 15,some (11,false),.dQ 1 (.t 3)⟩,⟨some 16,some (11,false),.load 1 false (.t 15)⟩,⟨some 17,some (11,false),.len (.t 16)⟩,⟨some 18,some (11,false),.bin .neq (.t 14) (.t 17)⟩,eu 19 11 18] (a7 19 (X [cH 4 false] .ret) .skip)) (.seq (X [bA 5 0] (.block 0 (.loop  (.seq (X [H 20 5,bl 21 1 2,aU 22 1 21,cm 23 22,bB 24 .lss 20 23] (a7 24 .skip (.exit 0))) (.seq (.block 1 (ga [bl 27 1 2,aU 28 1 27,H 29 5,b2 30 1 28 29,aU 31 1 30,bl 32 1 3,aU 33 1 32,H 34 5,b2 35 1 33 34,aU 36 1 35,bB 37 .neq 31 36] Ot (a7 37 (X [cH 4 false] .ret) .skip))) (.ops [H 25 5,bn 26 .add 25 1,H 5 26])))))) (X [cH 4 true] .ret))))
def XW:bT:=cn 57 2 [.cell 4 4 true,.t 5] (X [dH 2 143002 0,dH 3 143003 1,(aD 4 (.alloc 143004 [(au 0),.nil,(au 0),.nil])),bA 5 0] (.seq (X [bw 14 2 2,(dX 15 vb 14),fs 16 15,H 17 16,⟨some 18,some (17,false),.load 2 true (.t 3)⟩,⟨some 19,some (17,false),.call vb [(.t 18)]⟩,⟨some 20,some (17,false),.un .not (.t 19)⟩,eu 21 17 20] (a7 21 (X [(aD 22 (.build [(au 0),.nil,(au 0),.nil] [])),bu 4 4 22,bA 5 1] .ret) .skip)) (.seq (X [bl 23 0 3,aU 24 1 23,bn 25 .eql 24 0] (a7 25 (X [(aD 26 (.build [(au 0),.nil,(au 0),.nil] [])),bu 4 4 26,bA 5 15] .ret) .skip)) (.seq (X [bl 27 0 3,aU 28 1 27,bn 29 .lss 28 0] (a7 29 (X [bw 30 2 2,(dX 31 Og 30),bu 2 2 31] (.ops [bw 32 2 3,(dX 33 Og 32),bu 2 3 33])) .skip)) (X [bw 35 2 2,bw 36 2 3,(cE 37 T8 35 36),H 34 37,bN 38 0 34,bN 39 1 34,(aD 6 (.alloc 143006 [(au 0),.nil])),bu 2 6 38,H 7 39] (X [bw 41 2 2,bw 42 2 6,(cE 43 Oh 41 42),H 40 43,bN 44 0 40,bN 45 1 40,bN 46 2 40,(aD 8 (.alloc 143008 [(au 0),.nil])),(aD 9 (.alloc 143009 [(au 0),.nil])),bu 2 8 44,bu 2 9 45,H 10 46] (X [bw 48 2 3,bw 49 2 6,(cE 50 Oh 48 49),H 47 50,bN 51 0 47,bN 52 1 47,bN 53 2 47,(aD 11 (.alloc 143011 [(au 0),.nil])),(aD 12 (.alloc 143012 [(au 0),.nil])),bu 2 11 51,bu 2 12 52,H 13 53] (X [bw 54 2 8,bw 55 2 11,(aD 56 (.build [(au 0),.nil,(au 0),.nil] [(0,2,(.t 54)),(2,2,(.t 55))])),bu 4 4 56,bA 5 0] .ret))))))))
end Go.Mini
