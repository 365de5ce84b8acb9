/- A part of the proof. -/
import Derived.Test.YtgpioapepokkbaaGreatM02
set_option linter.unusedSimpArgs false
set_option linter.unusedVariables false
set_option maxRecDepth 100000
set_option maxHeartbeats 4000000
noncomputable section
open Bool renaming and_eq_true->eW,and_false->iT,eq_iff_iff->xe,false_and->fx,false_eq_true->kR,not_eq_false'->ag2,not_eq_true'->uo,true_and->gQ
open Decidable renaming em->dn,not_not->agj
open Int renaming add_comm->yB,add_zero->w5,cast_ofNat_Int->l4,fdiv_eq_ediv_of_nonneg->ago,le_of_lt->PM,lt_trichotomy->yD,mul_add->iw,mul_assoc->ix,mul_comm->nv,mul_fdiv_add_fmod->PY,mul_ne_zero->An,mul_neg->Le,mul_nonneg->yA,mul_one->vA,mul_zero->ud,natAbs_mul->qL,natAbs_natCast->mK,natAbs_neg->PK,natCast_add->age,natCast_pos->Eu,natCast_zero->ly,neg_mul->Hc,ofNat_sub->agd,one_mul->n8,pow_pos->G0,pow_succ->nu,reducePow->agn,sign_eq_neg_one_of_neg->rO,sign_eq_one_of_pos->jW,sign_eq_zero_iff_zero->WB,sign_mul->sN,sign_neg->Eo,sign_sign->Cg,sign_zero->yS,sub_zero->KZ,tdiv_eq_ediv_of_nonneg->GU,tdiv_nonneg->ag6,tmod_eq_emod_of_nonneg->K0,tmod_nonneg->ag5,toNat_natCast->lz,zero_mul->Ag,zero_sub->agC
open List renaming all_cons->Gr,append_assoc->gb,append_nil->fv,drop_eq_getElem_cons->ir,drop_set_of_lt->tG,drop_zero->l0,findIdx?_eq_none_iff->agG,findIdx?_eq_some_iff_getElem->agF,flatten_nil->agP,getD_eq_getElem?_getD->dX,getElem?_eq_getElem->bs,getElem?_eq_none->mr,getElem?_map->bj,getElem_mem->m2,length->D,length_append->fG,length_cons->h4,length_map->ak,length_nil->kZ,length_pos_iff->PE,length_singleton->Av,length_take->gF,map_cons->ev,map_nil->cZ,map_take->Aq,mem_replicate->GR,mem_singleton->ue,replicate->dH,take_length->lC,take_of_length_le->dr
open List.cons renaming injEq->a3
open Nat renaming div_add_mod->PH,div_div_eq_div_mul->agS,div_le_self->WA,eq_zero_or_pos->kW,gcd->jm,gcd_comm->PF,gcd_rec->agb,gcd_zero_right->aga,le_of_lt->Et,le_refl->b0,lt_of_div_lt_div->agT,lt_of_le_of_lt->vD,lt_of_lt_of_le->Dj,lt_or_ge->iq,lt_trans->agh,max_eq_right->Yg,min_eq_left->oO,mod_lt->qM,mul_comm->rH,mul_le_mul_right->vh,mul_lt_mul_of_pos_left->agZ,mul_one->cI,pos_of_ne_zero->PL,pow_succ->wQ,reduceEqDiff->dC,reduceMul->agm,succ_pos->agi,zero_div->WE,zero_le->ft,zero_mod->Wz
open Option renaming bind_none->kE,bind_some->ky
open Option.some renaming injEq->cl
open Prod renaming ext->dS,fst->Ci
open Rat renaming divInt->l7,divInt_mul_divInt->agt,neg_divInt_neg->agp,num_divInt_den->Ey,sub_eq_add_neg->Ln
namespace Go.Mini
open Go
theorem mJ (x:Int):(x.sign=1/\0<x)\/(x.sign=0/\x=0)\/(x.sign = -1/\x<0):=by
 rcases yD x 0 with h|h|h
 ·exact .inr (.inr ⟨rO h,h⟩)
 ·exact .inr (.inl ⟨by rw[h];rfl,h⟩)
 ·exact .inl ⟨jW h,h⟩
def w9 (a b:Raw):Int:=if (dG a&&dG b)=true then hL (iA a) (iA b) else 0
theorem af9 {x y:Int}(Q:x.natAbs<eb)(av:y.natAbs<eb):w9 (bS x) (bS y)=hL x y:=by
 unfold w9;rw[k5 Q,k5 av,fO,fO]
 rfl
theorem Lb {x y:Int}(h:x<y):hL x y = -1:=by unfold hL;rw[ad (by simpa using h)]
theorem Lc {x y:Int}(h:y<x):hL x y=1:=by unfold hL;rw[ah (by simp;omega),ad (by simpa using h)]
theorem PC (x:Int):hL x x=0:=by unfold hL;simp
def Ww:=cj vL λ(s,l,s2,ai)=>cM (D l<=1000000/\D ai<=1000000) (.same (.int .i64 (w9 (s,l) (s2,ai))))
@[go_sem] theorem aK8 (s:Int)(l:List Int)(s2:Int)(ai:List Int)(H:(D l)<=1000000/\D ai<=1000000):Ww [.agg [.int .i64 s,.Y (l.map ae)],.agg [.int .i64 s2,.Y (ai.map ae)]]=some (.same (.int .i64 (w9 (s,l) (s2,ai)))):=(ct yJ (s,l,s2,ai)).trans (cR H _)
theorem as8 (T:bb)(dJ:T k0=aU wW)(n5:T GC=aU O3)(gi:T D0=aU KX)(s:Int)(l:List Int)(s2:Int)(ai:List Int)(H:(D l)<=1000000/\D ai<=1000000):WP T Vi (.same (.int .i64 (w9 (s,l) (s2,ai)))) [.J (.agg [.int .i64 s,.Y (l.map ae)]),.J (.agg [.int .i64 s2,.Y (ai.map ae)])]:=by
 refine cu ?_;simp only[Vi];obtain⟨b2,cp⟩:=H
 by_cases ab:dG (s,l)=true
 ·by_cases bB:dG (s2,ai)=true
  ·obtain⟨x,Q,e⟩:=(jV _).1 ab;obtain⟨y,av,aC⟩:=(jV _).1 bB;have hm:w9 (s,l) (s2,ai)=hL x y:=by rw[e,aC];exact af9 Q av
   rw[hm];clear hm
   cases e
   cases aC;have ob:=rP Q;have k2:=rP av;have gh:=VP x.natAbs y.natAbs ⟨by omega,by omega⟩
   simp only[b3] at gh
   by_cases X:x.sign=y.sign
   ·have Cf:(x.sign==y.sign)=true:=by simpa using X
    have vl:IntKind.i64.wrap (y.sign*hL x.natAbs y.natAbs)=hL x y:=by
     rcases mJ x with ⟨e,G⟩|⟨e,G⟩|⟨e,G⟩<;>rcases mJ y with ⟨e',I⟩|⟨e',I⟩|⟨e',I⟩<;>rw[e,e'] at X<;>first|omega|skip
     ·rw[e',n8,show (x.natAbs:Int)=x by omega,show (y.natAbs:Int)=y by omega]
      rcases yD x y with h|h|h
      ·rw[Lb h];rfl
      ·rw[h,PC];rfl
      ·rw[Lc h];rfl
     ·rw[e',G,I];rfl
     ·rw[e'];rcases yD x y with h|h|h
      ·rw[Lb h,Lc (by omega)];rfl
      ·rw[h,PC,PC];rfl
      ·rw[Lc h,Lb (by omega)];rfl
    rw[<-X] at vl;simp only[go_sem,go_sem_proc,dJ,n5,gi,ab,bB,b2,cp,Cf,gh,vl];repeat' (first|refine ax ?_ ?_|fail)<;>intro h<;>simp only[h,go_sem,go_sem_proc,dJ,n5,gi,ab,bB,b2,cp,Cf,gh,vl]
   ·have Cf:(x.sign==y.sign)=false:=by simpa using X
    have vl:hL x.sign y.sign=hL x y:=by
     rcases mJ x with ⟨e,G⟩|⟨e,G⟩|⟨e,G⟩<;>rcases mJ y with ⟨e',I⟩|⟨e',I⟩|⟨e',I⟩<;>rw[e,e'] at X ⊢<;>first|omega|(rw[Lb (show x<y by omega)];rfl)|(rw[Lc (show y<x by omega)];rfl)
    simp only[go_sem,go_sem_proc,dJ,n5,gi,ab,bB,b2,cp,Cf,vl];repeat' (first|refine ax ?_ ?_|fail)<;>intro h<;>simp only[h,go_sem,go_sem_proc,dJ,n5,gi,ab,bB,b2,cp,Cf,vl]
  ·have bB:dG (s2,ai)=false:=by simpa using bB
   have hm:w9 (s,l) (s2,ai)=0:=by unfold w9;rw[bB,iT];rfl
   rw[hm];simp only[go_sem,go_sem_proc,dJ,n5,gi,ab,bB,b2,cp];repeat' (first|refine ax ?_ ?_|fail)<;>intro h<;>simp only[h,go_sem,go_sem_proc,dJ,n5,gi,ab,bB,b2,cp]
 ·have ab:dG (s,l)=false:=by simpa using ab
  have hm:w9 (s,l) (s2,ai)=0:=by unfold w9;rw[ab,fx];rfl
  rw[hm];simp only[go_sem,go_sem_proc,dJ,n5,gi,ab,b2,cp];repeat' (first|refine ax ?_ ?_|fail)<;>intro h<;>simp only[h,go_sem,go_sem_proc,dJ,n5,gi,ab,b2,cp]
def l6 (a b:Raw):Raw×Int:=if (dG a&&dG b)=true then (bS (jm (iA a).natAbs (iA b).natAbs:Nat),0) else ((0,[]),1)
theorem Ld {x y:Int}(Q:x.natAbs<eb)(av:y.natAbs<eb):jm x.natAbs y.natAbs<eb:=by
 rcases kW x.natAbs with h|h
 ·rw[h,Nat.gcd_zero_left];exact av
 ·exact vD (Nat.gcd_le_left _ h) Q
def PD:=cj vL λ(s,l,s2,ai)=>cM (D l<=1000000/\D ai<=1000000) (.same (fP (l6 (s,l) (s2,ai))))
@[go_sem] theorem aK9 (s:Int)(l:List Int)(s2:Int)(ai:List Int)(H:(D l)<=1000000/\D ai<=1000000):PD [.agg [.int .i64 s,.Y (l.map ae)],.agg [.int .i64 s2,.Y (ai.map ae)]]=some (.same (fP (l6 (s,l) (s2,ai)))):=(ct yJ (s,l,s2,ai)).trans (cR H _)
theorem as9 (T:bb)(dJ:T k0=aU wW)(fK:T vt=aU BQ)(oc:T Kz=aU Pj)(fA:T pr=aU BS)(nc:T vr=aU K9)(s:Int)(l:List Int)(s2:Int)(ai:List Int)(H:(D l)<=1000000/\D ai<=1000000):WP T Vd (.same (fP (l6 (s,l) (s2,ai)))) [.J (.agg [.int .i64 s,.Y (l.map ae)]),.J (.agg [.int .i64 s2,.Y (ai.map ae)])]:=by
 refine cu ?_;simp only[Vd];obtain⟨b2,cp⟩:=H
 by_cases ab:dG (s,l)=true
 ·by_cases bB:dG (s2,ai)=true
  ·obtain⟨x,Q,e⟩:=(jV _).1 ab;obtain⟨y,av,aC⟩:=(jV _).1 bB
   have hm:l6 (s,l) (s2,ai)=(bS (jm x.natAbs y.natAbs:Nat),0):=by
    rw[e,aC];unfold l6
    rw[k5 Q,k5 av,fO,fO]
    rfl
   rw[hm];clear hm
   cases e
   cases aC;have ob:=rP Q;have k2:=rP av;have ba:=Ld Q av;generalize ny:x.natAbs=df at *;generalize Af:y.natAbs=gj at *;have Wx:(aL df).length<=1000000:=by omega
   simp only[go_sem,go_sem_proc,dJ,fK,oc,fA,nc,ab,bB,ny,Af,b2,cp,Wx,ae,ak];refine dd [4] [137004] (λ((a,b):Nat×Nat) tm mem=>a<eb/\b<eb/\jm df gj=jm a b/\tm 6=.J (.Y ((aL a).map ae))/\tm 7=.J (.Y ((aL b).map ae))) (λ(_,b)=>b) (df,gj) (by refine⟨Q,av,rfl,rfl,rfl⟩) ?_;intro vs ms aP aO;simp only[go_sem,go_sem_proc,dJ,fK,oc,fA,nc,ny,Af] at aP aO;subst aP aO;rintro⟨a,b⟩ tm mem O hm ⟨aN,ag,xa,bV,bQ⟩;simp only[go_sem,go_sem_proc,dJ,fK,oc,fA,nc,a3] at O hm;have aS:=O;have iU:(aL a).length<=60:=gS.2 aN;have kA:(aL b).length<=60:=gS.2 ag;rcases kW b with ar|h7
   ·subst ar;have aW:aL 0=[]:=rfl;have Wy:(aL a).length<=1000000:=by omega
    rw[aga] at xa;have X:kh 1 (aL a)=bS ((a:Nat):Int):=p1 (by simp) λaK=>(jW (by omega)).symm;have O:sL ((a:Nat):Int)=(bS ((a:Nat):Int),0):=by unfold sL;rw[ad (by simpa using aN)]
    rw[xa];refine aX ?_;repeat' (intro h<;>simp only[h,go_sem,go_sem_proc,dJ,fK,oc,fA,nc,aS,bV,bQ,hm,aW,Wy,X,O,B8,da,fP,nA,cZ,kZ,ly,l4,show ¬ ((0:Int)>0) by omega,decide_false]<;>try refine ax ?_ ?_)
   ·have bG:decide (((aL b).length:Int)>0)=true:=by
     have:aL b≠[]:=by rw[Ne,zR];omega
     have:=PE.2 this;exact c6
    have hdiv:=afS a b ⟨by omega,by omega,h7⟩
    simp only[b3] at hdiv;refine aX ?_;repeat' (intro h<;>simp only[h,go_sem,go_sem_proc,dJ,fK,oc,fA,nc,aS,bV,bQ,hm,bG,hdiv,ak]<;>try refine ax ?_ ?_)
    exact⟨(b,a%b),qM _ h7,ag,vD (Nat.mod_le _ _) aN,by dsimp only;rw[xa,PF a b,agb b a,PF],rfl,rfl⟩
  ·have bB:dG (s2,ai)=false:=by simpa using bB
   have hm:l6 (s,l) (s2,ai)=((0,[]),1):=by unfold l6;rw[bB,iT];rfl
   rw[hm];have oW:=Ha false 0 [];simp only[cZ] at oW;refine aX ?_;repeat' (intro h<;>simp only[h,go_sem,go_sem_proc,dJ,fK,oc,fA,nc,ab,bB,b2,cp,oW,da,fP,cZ]<;>try refine ax ?_ ?_)
 ·have ab:dG (s,l)=false:=by simpa using ab
  have hm:l6 (s,l) (s2,ai)=((0,[]),1):=by unfold l6;rw[ab,fx];rfl
  rw[hm];have oW:=Ha false 0 [];simp only[cZ] at oW;refine aX ?_;repeat' (intro h<;>simp only[h,go_sem,go_sem_proc,dJ,fK,oc,fA,nc,ab,b2,cp,oW,da,fP,cZ]<;>try refine ax ?_ ?_)
def kC (a b:Raw):Raw×Raw×Int :=
 if (dG a&&dG b)=true then
  if iA b=0 then ((0,[]),(0,[]),15) else (bS ((iA a).fdiv (iA b)),bS ((iA a).fmod (iA b)),0)
 else ((0,[]),(0,[]),1)
def hr (x:Raw×Raw×Int):Data:=.cH [.agg (da x.1),.agg (da x.2.1),.int .i64 x.2.2]
theorem agc {x y q r:Int}(h:r+y*q=x)(ab:(0<=r/\r<y)\/(y<r/\r<=0)):x.fdiv y=q/\x.fmod y=r:=by
 rcases ab with ⟨G,I⟩|⟨G,I⟩
 ·exact (Int.fdiv_fmod_unique (by omega)).2 ⟨h,G,I⟩
 ·exact (Int.fdiv_fmod_unique' (by omega)).2 ⟨h,G,I⟩
theorem PG {x y:Int}(h:x.sign*y.sign<0)(hm:x.natAbs%y.natAbs≠0):
  x.fdiv y = -((x.natAbs/y.natAbs+1:Nat):Int)/\x.fmod y=y.sign*((y.natAbs-x.natAbs%y.natAbs:Nat):Int):=by
 have I:=PH x.natAbs y.natAbs;generalize e1:x.natAbs/y.natAbs=aM at *;generalize fZ:x.natAbs%y.natAbs=bL at *
 have av:0<y.natAbs:=by
  rcases kW y.natAbs with ar|ar
  ·rw[Int.natAbs_eq_zero.1 ar] at h;simp at h
  ·exact ar
 have az:bL<y.natAbs:=by rw[<-fZ];exact qM _ av
 have sv:(y.natAbs:Int)*aM+bL=x.natAbs:=by exact_mod_cast I
 refine agc ?_ ?_
 ·rcases mJ x with ⟨e,G⟩|⟨e,G⟩|⟨e,G⟩<;>rcases mJ y with ⟨e',af⟩|⟨e',af⟩|⟨e',af⟩<;>rw[e,e'] at h<;>first|omega|rw[e']
  ·rw[agd (by omega),age,Le,iw];have:(y.natAbs:Int) = -y:=by omega
   rw[this] at sv ⊢;rw[Hc] at sv;omega
  ·rw[agd (by omega),age,Le,iw];have:(y.natAbs:Int)=y:=by omega
   rw[this] at sv ⊢;omega
 ·rcases mJ y with ⟨e',af⟩|⟨e',af⟩|⟨e',af⟩<;>rw[e']<;>omega
theorem PI {x y:Int}(av:y≠0)(h:¬ (x.sign*y.sign<0/\x.natAbs%y.natAbs≠0)):
  x.fdiv y=x.sign*y.sign*((x.natAbs/y.natAbs:Nat):Int)/\x.fmod y=x.sign*((x.natAbs%y.natAbs:Nat):Int):=by
 have I:=PH x.natAbs y.natAbs;have az:x.natAbs%y.natAbs<y.natAbs:=qM _ (by omega);generalize e1:x.natAbs/y.natAbs=aM at *;generalize fZ:x.natAbs%y.natAbs=bL at *;have sv:(y.natAbs:Int)*aM+bL=x.natAbs:=by exact_mod_cast I
 refine agc ?_ ?_
 ·rcases mJ x with ⟨e,G⟩|⟨e,G⟩|⟨e,G⟩<;>rcases mJ y with ⟨e',af⟩|⟨e',af⟩|⟨e',af⟩<;>first|omega|(rw[e,e'])
  ·rw[show (y.natAbs:Int)=y by omega] at sv;simp only[n8];omega
  ·rw[show (y.natAbs:Int) = -y by omega,Hc] at sv;simp only[n8,Hc,Le];omega
  ·simp only[Ag,ud];omega
  ·simp only[Ag,ud];omega
  ·rw[show (y.natAbs:Int)=y by omega] at sv;simp only[n8,Hc,Le,vA];omega
  ·rw[show (y.natAbs:Int) = -y by omega,Hc] at sv;simp only[n8,Hc,Le,Int.neg_neg];omega
 ·have asK:x.natAbs=0->bL=0:=by
   intro ar;rw[<-fZ,ar,Wz]
  rcases mJ x with ⟨e,G⟩|⟨e,G⟩|⟨e,G⟩<;>rcases mJ y with ⟨e',af⟩|⟨e',af⟩|⟨e',af⟩<;>rw[e,e'] at h<;>rw[e]<;>omega
theorem Hd {x y:Int}(Q:x.natAbs<eb)(iV:y≠0):(x.fdiv y).natAbs<eb:=by
 by_cases h:x.sign*y.sign<0/\x.natAbs%y.natAbs≠0
 ·have aJ:=(PG h.1 h.2).1;have I:=PH x.natAbs y.natAbs
  have:x.natAbs/y.natAbs+1<=x.natAbs:=by
   have ata:2<=y.natAbs:=by
    rcases iq y.natAbs 2 with ar|ar
    ·have:y.natAbs=1:=by omega
     rw[this,Nat.mod_one] at h;exact absurd rfl h.2
    ·exact ar
   have af:2*(x.natAbs/y.natAbs)<=y.natAbs*(x.natAbs/y.natAbs):=vh _ ata;omega
  generalize x.natAbs/y.natAbs=aM at *;omega
 ·have aJ:=(PI iV h).1;have af:x.natAbs/y.natAbs<=x.natAbs:=WA _ _
  have aS:(x.fdiv y).natAbs<=x.natAbs/y.natAbs:=by
   rw[aJ,qL,qL,mK];have G:x.sign.natAbs<=1:=by have:=rQ x;omega
   have I:y.sign.natAbs<=1:=by have:=rQ y;omega
   have:=Nat.mul_le_mul G I;have:=vh (x.natAbs/y.natAbs) this;omega
  omega
theorem agf {x y:Int}(av:y.natAbs<eb)(iV:y≠0):(x.fmod y).natAbs<eb:=by
 by_cases h:x.sign*y.sign<0/\x.natAbs%y.natAbs≠0
 ·have aJ:=(PG h.1 h.2).2;rcases mJ y with ⟨e',af⟩|⟨e',af⟩|⟨e',af⟩<;>rw[e'] at aJ<;>omega
 ·have aJ:=(PI iV h).2;have az:x.natAbs%y.natAbs<y.natAbs:=qM _ (by omega);rcases mJ x with ⟨e',af⟩|⟨e',af⟩|⟨e',af⟩<;>rw[e'] at aJ<;>omega
theorem Ep {x y:Int}(Q:x.natAbs<eb)(av:y.natAbs<eb)(ar:y≠0):kC (bS x) (bS y)=(bS (x.fdiv y),bS (x.fmod y),0):=by
 unfold kC;rw[k5 Q,k5 av,fO,fO,ad (by rfl),ah ar]
def PJ:=cj vL λ(s,l,s2,ai)=>cM (D l<=1000000/\D ai<=1000000) (.same (hr (kC (s,l) (s2,ai))))
@[go_sem] theorem aLa (s:Int)(l:List Int)(s2:Int)(ai:List Int)(H:(D l)<=1000000/\D ai<=1000000):PJ [.agg [.int .i64 s,.Y (l.map ae)],.agg [.int .i64 s2,.Y (ai.map ae)]]=some (.same (hr (kC (s,l) (s2,ai)))):=(ct yJ (s,l,s2,ai)).trans (cR H _)
theorem atb (T:bb)(dJ:T k0=aU wW)(oc:T Kz=aU Pj)(mH:T KB=aU O7)(mI:T GA=aU O8)(fA:T pr=aU BS)(s:Int)(l:List Int)(s2:Int)(ai:List Int)(H:(D l)<=1000000/\D ai<=1000000):WP T Vh (.same (hr (kC (s,l) (s2,ai)))) [.J (.agg [.int .i64 s,.Y (l.map ae)]),.J (.agg [.int .i64 s2,.Y (ai.map ae)])]:=by
 refine cu ?_;simp only[Vh];obtain⟨b2,cp⟩:=H
 by_cases ab:dG (s,l)=true
 ·by_cases bB:dG (s2,ai)=true
  ·obtain⟨x,Q,e⟩:=(jV _).1 ab;obtain⟨y,av,aC⟩:=(jV _).1 bB
   by_cases iV:y=0
   ·have hm:kC (s,l) (s2,ai)=((0,[]),(0,[]),15):=by
     rw[e,aC];unfold kC
     rw[k5 Q,k5 av,fO,fO,ad (by rfl),ad iV]
    rw[hm]
    cases e
    cases aC;have ar:((y.sign:Int)==0)=true:=by rw[iV];rfl
    simp only[go_sem,go_sem_proc,dJ,oc,mH,mI,fA,ab,bB,b2,cp,ar,da,hr,cZ];repeat' (first|refine ax ?_ ?_|fail)<;>intro h<;>simp only[h,go_sem,go_sem_proc,dJ,oc,mH,mI,fA,ab,bB,b2,cp,ar,da,hr,cZ]
   ·have hm:kC (s,l) (s2,ai)=(bS (x.fdiv y),bS (x.fmod y),0):=by
     rw[e,aC];exact Ep Q av iV
    rw[hm];clear hm
    cases e
    cases aC;have ob:=rP Q;have k2:=rP av;have ui:(y.sign==0)=false:=by rw[beq_eq_false_iff_ne,Ne,WB];exact iV
    have Er:0<y.natAbs:=by omega
    have G:=rQ x;have I:=rQ y;have aE:x.sign*y.sign=(x*y).sign:=(sN x y).symm;have af:=rQ (x*y);have hw:IntKind.i64.wrap (x.sign*y.sign)=x.sign*y.sign:=by rw[aE];exact wrap64 _ (by omega) (by omega)
    have hdiv:=afS x.natAbs y.natAbs ⟨by omega,by omega,Er⟩
    simp only[b3] at hdiv;have hq:=Hd (y:=y) Q iV;have yL:=agf (x:=x) av iV;have WC:x.natAbs/y.natAbs<eb:=vD (WA _ _) Q;have atc:(aL (x.natAbs/y.natAbs)).length<=60:=gS.2 WC;have Es:x.natAbs%y.natAbs<eb:=agh (qM _ Er) av;have atd:(aL (x.natAbs%y.natAbs)).length<=60:=gS.2 Es
    by_cases uj:x.sign*y.sign<0/\x.natAbs%y.natAbs≠0
    ·obtain⟨eq,uk⟩:=PG uj.1 uj.2
     have bG:decide (((aL (x.natAbs%y.natAbs)).length:Int)>0)=true:=by
      have:aL (x.natAbs%y.natAbs)≠[]:=by rw[Ne,zR];exact uj.2
      have:=PE.2 this;exact c6
     have kB:decide (x.sign*y.sign<0)=true:=lQ uj.1;have jT:aL 1=[1]:=by simp[aL,yu]
     have ate:(aL 1).length=1:=by rw[jT];rfl
     have hj:=afn (x.natAbs/y.natAbs) 1 ⟨by omega,by omega⟩
     simp only[b3,jT,ev,cZ,ae] at hj;have jU:=VV y.natAbs (x.natAbs%y.natAbs) ⟨by omega,Et (qM _ Er)⟩
     simp only[b3] at jU
     have iU:(aL (x.natAbs/y.natAbs+1)).length<=1000000:=by
      have:(x.natAbs/y.natAbs+1)<eb:=by rw[eq] at hq;rw[PK,mK] at hq;exact hq
      have:=(gS (k:=60)).2 this;omega
     have kA:(aL (y.natAbs-x.natAbs%y.natAbs)).length<=1000000:=by have:=PB y.natAbs (x.natAbs%y.natAbs);omega
     have hC:kh (-1) (aL (x.natAbs/y.natAbs+1))=bS (x.fdiv y):=p1 (by rw[eq,PK,mK]) λ_=>by rw[eq,Eo,jW (show (0:Int)<((x.natAbs/y.natAbs+1:Nat):Int) by exact Eu.2 (agi _))]
     have kj:kh y.sign (aL (y.natAbs-x.natAbs%y.natAbs))=bS (x.fmod y):=by
      refine p1 ?_ λaK=>?_
      ·rw[uk];rcases mJ y with ⟨e',af⟩|⟨e',af⟩|⟨e',af⟩<;>rw[e']<;>omega
      ·rw[uk,sN,Cg,jW (show (0:Int)<((y.natAbs-x.natAbs%y.natAbs:Nat):Int) by omega),vA]
     simp only[go_sem,go_sem_proc,dJ,oc,mH,mI,fA,ab,bB,b2,cp,ui,hw,hdiv,bG,kB,hj,jU,iU,kA,hC,kj,ae,ak,da,hr,nA];repeat' (first|refine ax ?_ ?_|fail)<;>intro h<;>simp only[h,go_sem,go_sem_proc,dJ,oc,mH,mI,fA,ab,bB,b2,cp,ui,hw,hdiv,bG,kB,hj,jU,iU,kA,hC,kj,ae,ak,da,hr,nA]
    ·obtain⟨eq,uk⟩:=PI iV uj
     have WD:(decide (x.sign*y.sign<0)=true/\decide (((aL (x.natAbs%y.natAbs)).length:Int)>0)=false)\/decide (x.sign*y.sign<0)=false:=by
      by_cases aK:x.sign*y.sign<0
      ·left
       have:x.natAbs%y.natAbs=0:=agj.1 λh=>uj ⟨aK,h⟩;rw[this];exact⟨lQ aK,rfl⟩
      ·right;exact lj aK
     have iU:(aL (x.natAbs/y.natAbs)).length<=1000000:=by omega
     have kA:(aL (x.natAbs%y.natAbs)).length<=1000000:=by omega
     have hC:kh (x.sign*y.sign) (aL (x.natAbs/y.natAbs))=bS (x.fdiv y):=by
      refine p1 ?_ λaK=>?_
      ·rw[eq]
       have Ev:∀aM:Nat,(x=0->aM=0)->(x.sign*y.sign*(aM:Int)).natAbs=aM:=by
        intro aM ar;rcases mJ x with ⟨e,G⟩|⟨e,G⟩|⟨e,G⟩<;>rcases mJ y with ⟨e',af⟩|⟨e',af⟩|⟨e',af⟩<;>rw[e,e']<;>first|omega|(rw[ar G];rfl)
       exact Ev _ λar=>by rw[ar];exact WE _
      ·rw[eq,aE,sN,sN,sN,Cg,Cg,jW (show (0:Int)<((x.natAbs/y.natAbs:Nat):Int) from Eu.2 (PL aK)),vA]
     have kj:kh x.sign (aL (x.natAbs%y.natAbs))=bS (x.fmod y):=by
      refine p1 ?_ λaK=>?_
      ·rw[uk]
       have Ev:∀aM:Nat,(x=0->aM=0)->(x.sign*(aM:Int)).natAbs=aM:=by
        intro aM ar;rcases mJ x with ⟨e,G⟩|⟨e,G⟩|⟨e,G⟩<;>rw[e]<;>first|omega|(rw[ar G];rfl)
       exact Ev _ λar=>by rw[ar];exact Wz _
      ·rw[uk,sN,Cg,jW (show (0:Int)<((x.natAbs%y.natAbs:Nat):Int) from Eu.2 (PL aK)),vA]
     rcases WD with ⟨xb,Lf⟩|xb
     ·simp only[go_sem,go_sem_proc,dJ,oc,mH,mI,fA,ab,bB,b2,cp,ui,hw,hdiv,xb,Lf,iU,kA,hC,kj,ae,ak,da,hr,nA];repeat' (first|refine ax ?_ ?_|fail)<;>intro h<;>simp only[h,go_sem,go_sem_proc,dJ,oc,mH,mI,fA,ab,bB,b2,cp,ui,hw,hdiv,xb,Lf,iU,kA,hC,kj,ae,ak,da,hr,nA]
     ·simp only[go_sem,go_sem_proc,dJ,oc,mH,mI,fA,ab,bB,b2,cp,ui,hw,hdiv,xb,iU,kA,hC,kj,ae,ak,da,hr,nA];repeat' (first|refine ax ?_ ?_|fail)<;>intro h<;>simp only[h,go_sem,go_sem_proc,dJ,oc,mH,mI,fA,ab,bB,b2,cp,ui,hw,hdiv,xb,iU,kA,hC,kj,ae,ak,da,hr,nA]
  ·have bB:dG (s2,ai)=false:=by simpa using bB
   have hm:kC (s,l) (s2,ai)=((0,[]),(0,[]),1):=by unfold kC;rw[bB,iT];rfl
   rw[hm];simp only[go_sem,go_sem_proc,dJ,oc,mH,mI,fA,ab,bB,b2,cp,da,hr,cZ];repeat' (first|refine ax ?_ ?_|fail)<;>intro h<;>simp only[h,go_sem,go_sem_proc,dJ,oc,mH,mI,fA,ab,bB,b2,cp,da,hr,cZ]
 ·have ab:dG (s,l)=false:=by simpa using ab
  have hm:kC (s,l) (s2,ai)=((0,[]),(0,[]),1):=by unfold kC;rw[ab,fx];rfl
  rw[hm];simp only[go_sem,go_sem_proc,dJ,oc,mH,mI,fA,ab,b2,cp,da,hr,cZ];repeat' (first|refine ax ?_ ?_|fail)<;>intro h<;>simp only[h,go_sem,go_sem_proc,dJ,oc,mH,mI,fA,ab,b2,cp,da,hr,cZ]
def dB (n:Int):Prop:=-9223372036854775808<=n/\n<=9223372036854775807
theorem atf {n:Nat}(h:n<=9223372036854775808):n<eb:=by
 unfold eb;refine Dj (m:=1048576^4) ?_ (Nat.pow_le_pow_right (by omega) (by omega));omega
theorem yM {n:Int}(h:dB n):n.natAbs<eb:=atf (by unfold dB at h;omega)
theorem WG (n:Int)(G:-18446744073709551616<=n)(I:n<0):IntKind.u64.wrap n=n+18446744073709551616:=by
 unfold IntKind.wrap;simp[IntKind.bits,IntKind.signed];omega
def WH:=cj wV λ(n:Int)=>cM (dB n) (.same (.agg (da (bS n))))
@[go_sem] theorem aLb (n:Int)(H:dB n):WH [.int .i64 n]=some (.same (.agg (da (bS n)))):=(ct z1 n).trans (cR H _)
theorem atg (T:bb)(fA:T pr=aU BS)(n:Int)(H:dB n):WP T Vf (.same (.agg (da (bS n)))) [.J (.int .i64 n)]:=by
 refine cu ?_;simp only[Vf];have lX:=H;unfold dB at lX;obtain⟨pf,va⟩:=lX;have X:∀s:Int,(n≠0->s=n.sign)->kh s (aL n.natAbs)=bS n:=λs h=>p1 rfl λbG=>h (by omega);have hlen:(aL n.natAbs).length<=60:=gS.2 (yM H);rcases dn (n<0) with kB|h7
 ·have hw:=WG n (by omega) kB
  have fy:IntKind.u64.wrap (0-(n+18446744073709551616))=(n.natAbs:Int):=by
   rw[WG _ (by omega) (by omega)];omega
  simp only[go_sem,go_sem_proc,fA,kB,hw,fy,decide_true];refine dd [2,3] [150002] (λ((u,g,l):Nat×Nat×List Int) tm mem=>u<=9223372036854775808/\aL n.natAbs=l++aL u/\tm 4=.J (.int .u64 u)/\tm 5=.ref 150021 g 1 0 (D l)/\mem 150021=some (g,a9 ae l)) (λ(u,_)=>u) (n.natAbs,0,[]) (by refine⟨by omega,rfl,?_,rfl,rfl⟩;rfl) ?_;intro vs ms aP aO;simp only[go_sem,go_sem_proc,fA] at aP aO;subst aP aO;rintro⟨u,g,l⟩ tm mem O hm ⟨hu,aa,aS,bm,Ah⟩;simp only[go_sem,go_sem_proc,fA,a3] at O hm;obtain⟨I,af⟩:=O;rcases kW u with ar|ug
  ·subst ar;rw[sF,fv] at aa;rw[aa] at X hlen;have vM:(D l)<=1000000:=by omega
   have iO:=X (-1) (λ_=>by exact (rO kB).symm);simp only[go_sem,go_sem_proc,fA,I,af,aS,bm,hm,Ah,iO,vM,da,ly,l4,ak,show ¬ ((0:Int)>0) by omega,decide_false,lx hB,lC]
   repeat' (first|refine ax ?_ ?_|fail)<;>intro h<;>simp only[h,go_sem,go_sem_proc,fA,I,af,aS,bm,hm,Ah,iO,vM,da,ly,l4,ak,show ¬ ((0:Int)>0) by omega,decide_false,lx hB,lC]
  ·have Ad:(D l)<=60:=by
    have:=congrArg D aa;rw[fG] at this;omega
   have iR:decide ((u:Int)>0)=true:=c6;have dz:∀a:Int,mq 150021 g 1 (D l) 8 1 [.J (.int .i64 a)] (some (g,a9 ae l))=_:=λa=>lv hB vn 150021 g 8 l a rfl (by omega) (by omega);have hand:=ae7 u ⟨by omega,by omega⟩
   have Lg:IntKind.i64.wrap ((u:Int)%1048576)=(u:Int)%1048576:=wrap64 _ (by omega) (by omega);simp only[go_sem,go_sem_proc,fA,I,af,aS,bm,hm,Ah,iR,dz,hand,Lg,oS,show ((20:Int)<0)=False from by simp,if_false,ak,a3]
   repeat' (first|refine ax ?_ ?_|fail)<;>intro h<;>simp only[h,go_sem,go_sem_proc,fA,I,af,aS,bm,hm,Ah,iR,dz,hand,Lg,oS,show ((20:Int)<0)=False from by simp,if_false,ak,a3]
   refine⟨(u/1048576,g+1,l++[(u:Int)%1048576]),by dsimp only;omega,by dsimp only;omega,by dsimp only;rw[gb,aa,vo ug];rfl,by first|rfl|(dsimp only;rw[zW _ ⟨by omega,by omega⟩];rfl),by simp,by simp[go_sem]⟩
 ·have hw:IntKind.u64.wrap n=(n.natAbs:Int):=by rw[zW _ ⟨by omega,by omega⟩];omega
  simp only[go_sem,go_sem_proc,fA,h7,hw,decide_false];refine dd [2,3] [150002] (λ((u,g,l):Nat×Nat×List Int) tm mem=>u<=9223372036854775808/\aL n.natAbs=l++aL u/\tm 4=.J (.int .u64 u)/\tm 5=.ref 150021 g 1 0 (D l)/\mem 150021=some (g,a9 ae l)) (λ(u,_)=>u) (n.natAbs,0,[]) (by refine⟨by omega,rfl,?_,rfl,rfl⟩;rfl) ?_;intro vs ms aP aO;simp only[go_sem,go_sem_proc,fA] at aP aO;subst aP aO;rintro⟨u,g,l⟩ tm mem O hm ⟨hu,aa,aS,bm,Ah⟩;simp only[go_sem,go_sem_proc,fA,a3] at O hm;obtain⟨I,af⟩:=O;rcases kW u with ar|ug
  ·subst ar;rw[sF,fv] at aa;rw[aa] at X hlen;have vM:(D l)<=1000000:=by omega
   have iO:=X 1 (λ_=>by exact (jW (by omega)).symm);simp only[go_sem,go_sem_proc,fA,I,af,aS,bm,hm,Ah,iO,vM,da,ly,l4,ak,show ¬ ((0:Int)>0) by omega,decide_false,lx hB,lC]
   repeat' (first|refine ax ?_ ?_|fail)<;>intro h<;>simp only[h,go_sem,go_sem_proc,fA,I,af,aS,bm,hm,Ah,iO,vM,da,ly,l4,ak,show ¬ ((0:Int)>0) by omega,decide_false,lx hB,lC]
  ·have Ad:(D l)<=60:=by
    have:=congrArg D aa;rw[fG] at this;omega
   have iR:decide ((u:Int)>0)=true:=c6;have dz:∀a:Int,mq 150021 g 1 (D l) 8 1 [.J (.int .i64 a)] (some (g,a9 ae l))=_:=λa=>lv hB vn 150021 g 8 l a rfl (by omega) (by omega);have hand:=ae7 u ⟨by omega,by omega⟩
   have Lg:IntKind.i64.wrap ((u:Int)%1048576)=(u:Int)%1048576:=wrap64 _ (by omega) (by omega);simp only[go_sem,go_sem_proc,fA,I,af,aS,bm,hm,Ah,iR,dz,hand,Lg,oS,show ((20:Int)<0)=False from by simp,if_false,ak,a3]
   repeat' (first|refine ax ?_ ?_|fail)<;>intro h<;>simp only[h,go_sem,go_sem_proc,fA,I,af,aS,bm,hm,Ah,iR,dz,hand,Lg,oS,show ((20:Int)<0)=False from by simp,if_false,ak,a3]
   refine⟨(u/1048576,g+1,l++[(u:Int)%1048576]),by dsimp only;omega,by dsimp only;omega,by dsimp only;rw[gb,aa,vo ug];rfl,by first|rfl|(dsimp only;rw[zW _ ⟨by omega,by omega⟩];rfl),by simp,by simp[go_sem]⟩
theorem ath (k:IntKind)(a b:Int):bits .or k a b=bits .or k b a:=by
 simp only[bits,BitVec.or_comm]
theorem ati (u d:Int)(i:Nat)(M:(2:Int)^i<=1152921504606846976)(hu:0<=u/\u<2^i)(aa:0<=d)(h:d*2^i<18446744073709551616):bits .or .u64 u (d*2^i)=u+d*2^i:=by
 rw[ath,yB];have ar:0<=d*2^i:=yA aa (by exact PM (G0 (by omega)));refine bits_join .u64 64 (by decide) (λn G I=>zW n ⟨G,by omega⟩) i _ _ ar (Int.mul_emod_left _ _) (by omega) hu.1 hu.2 (by omega)
instance (n:Int):Decidable (dB n):=by unfold dB;exact inferInstance
def sO (a:Raw):Int×Bool:=if dG a=true/\dB (iA a) then (iA a,true) else (0,false)
def WI:=cj BR λ(s,l)=>cM (D l<=1000000) (.same (.cH [.int .i64 (sO (s,l)).1,.bool (sO (s,l)).2]))
@[go_sem] theorem aLc (s:Int)(l:List Int)(H:(D l)<=1000000):WI [.agg [.int .i64 s,.Y (l.map ae)]]=some (.same (.cH [.int .i64 (sO (s,l)).1,.bool (sO (s,l)).2])):=(ct GM (s,l)).trans (cR H _)
theorem atj (T:bb)(dJ:T k0=aU wW)(s:Int)(l:List Int)(H:(D l)<=1000000):WP T Vm (.same (.cH [.int .i64 (sO (s,l)).1,.bool (sO (s,l)).2])) [.J (.agg [.int .i64 s,.Y (l.map ae)])]:=by
 refine cu ?_;simp only[Vm]
 by_cases ab:dG (s,l)=true
 ·obtain⟨z,aW,e⟩:=(jV _).1 ab
  cases e
  have M:sO (z.sign,aL z.natAbs)=if dB z then (z,true) else (0,false):=by
   unfold sO;rw[ab,show iA (z.sign,aL z.natAbs)=z from fO z];simp
  rw[M];clear M;have X:=mJ z
  by_cases aS:(aL z.natAbs).length<=4
  ·have PN:decide (((aL z.natAbs).length:Int)>4)=false:=cY;have lV:=l2 z.natAbs;have kz:=m6 z.natAbs;generalize aL z.natAbs=l at *;simp only[go_sem,go_sem_proc,dJ,ab,H,PN,ak,ae];refine dd [1,17,18] [159001] (λ((i,u):Nat×Int) tm mem=>i<=D l/\u=bd (l.take i)/\u<18446744073709551616/\tm 4=.J (.int .u64 u)/\tm 19=.J (.int .i64 i)) (λ(i,_)=>D l-i) (0,0) (by refine⟨by omega,rfl,by omega,rfl,rfl⟩) ?_;intro vs ms aP aO;simp only[go_sem,go_sem_proc,dJ] at aP aO;subst aP aO;rintro⟨i,u⟩ tm mem O hm ⟨M,hu,aLd,qN,qO⟩;simp only[go_sem,go_sem_proc,dJ,a3] at O hm;obtain⟨G,lD,jS⟩:=O;have agk:eV (l.take i):=λd aa=>kz d (List.mem_of_mem_take aa);have Ew:0<=u:=by rw[hu];exact pq agk
   rcases dn (i<D l) with az|b4
   ·have Q:=bs az;have aa:=kz l[i] (m2 az);have pT:=lA l i az;have Ex:=zS agk;rw[gF,oO (Et az),<-hu] at Ex;rw[<-hu] at pT;generalize l[i]=d at *;have p2:decide ((i:Int)<(D l:Int))=true:=c6;have B0:IntKind.u64.wrap d=d:=zW d ⟨aa.1,by omega⟩
    have yI:IntKind.i64.wrap (20*(i:Int))=((20*i:Nat):Int):=by rw[e2 _];omega
    have Gh:min (20*i) 64=20*i:=by omega
    have kg:(((20*i:Nat):Int)<0)=False:=eq_false (by omega);have He:(1048576:Int)^i=2^(20*i):=by rw[Int.pow_mul];rfl
    rw[He] at Ex pT
    have nq:(2:Int)^(20*i)<=1152921504606846976:=by
     obtain rfl|rfl|rfl|rfl:i=0\/i=1\/i=2\/i=3:=by omega
     all_goals decide
    by_cases WJ:i=3/\d>8
    ·obtain⟨rfl,PO⟩:=WJ;have agl:decide (d>8)=true:=lQ PO;have Lh:(((3:Nat):Int)==3)=true:=rfl
     have atk:¬ dB z:=by
      have vF:=Kv l 4;rw[lV] at vF;have:0<=bd (l.drop 4):=pq λd aa=>kz d (List.mem_of_mem_drop aa);have bm:=yA (show (0:Int)<=1048576^(min 4 (D l)) from PM (G0 (by omega))) this;unfold dB;simp only[agm,Nat.reduceAdd,agn] at pT;rw[pT] at vF;omega
     rw[ah atk];simp only[go_sem,go_sem_proc,dJ,G,lD,jS,qN,qO,hm,Q,aa.1,aa.2,p2,B0,agl,Lh,ak,bj,a3,ae];repeat' (first|refine ax ?_ ?_|fail)<;>intro h<;>simp only[h,go_sem,go_sem_proc,dJ,G,lD,jS,qN,qO,hm,Q,aa.1,aa.2,p2,B0,agl,Lh,ak,bj,a3,ae]
    ·have wZ:d*2^(20*i)<18446744073709551616:=by
      obtain rfl|rfl|rfl|rfl:i=0\/i=1\/i=2\/i=3:=by omega
      all_goals simp
      all_goals omega
     have w3:=ati u d (20*i) nq ⟨Ew,Ex⟩ aa.1 wZ;have Ai:0<=d*2^(20*i):=yA aa.1 (PM (G0 (by omega)));have Li:IntKind.u64.wrap (d*2^(20*i))=d*2^(20*i):=zW _ ⟨Ai,wZ⟩
     have pw:u+d*2^(20*i)<18446744073709551616:=by
      clear w3 Li Ai yI kg He nq pT;obtain rfl|rfl|rfl|rfl:i=0\/i=1\/i=2\/i=3:=by omega
      all_goals simp only[agm,agn] at Ex wZ ⊢
      all_goals omega
     by_cases af:((i:Int)==3)=true
     ·have PO:decide (d>8)=false:=lj λh=>WJ ⟨by simp at af;omega,h⟩
      simp only[go_sem,go_sem_proc,dJ,G,lD,jS,qN,qO,hm,Q,aa.1,aa.2,p2,B0,af,PO,yI,kg,if_false,lz,Gh,Li,w3,ak,bj,a3,ae];repeat' (first|refine ax ?_ ?_|fail)<;>intro h<;>simp only[h,go_sem,go_sem_proc,dJ,G,lD,jS,qN,qO,hm,Q,aa.1,aa.2,p2,B0,af,PO,yI,kg,if_false,lz,Gh,Li,w3,ak,bj,a3,ae]
      exact⟨(i+1,u+d*2^(20*i)),by dsimp only;omega,by dsimp only;omega,by dsimp only;rw[pT,nv],pw,rfl,by rw[e2 _];rfl⟩
     ·have af:((i:Int)==3)=false:=by simpa using af
      simp only[go_sem,go_sem_proc,dJ,G,lD,jS,qN,qO,hm,Q,aa.1,aa.2,p2,B0,af,yI,kg,if_false,lz,Gh,Li,w3,ak,bj,a3,ae];repeat' (first|refine ax ?_ ?_|fail)<;>intro h<;>simp only[h,go_sem,go_sem_proc,dJ,G,lD,jS,qN,qO,hm,Q,aa.1,aa.2,p2,B0,af,yI,kg,if_false,lz,Gh,Li,w3,ak,bj,a3,ae]
      exact⟨(i+1,u+d*2^(20*i)),by dsimp only;omega,by dsimp only;omega,by dsimp only;rw[pT,nv],pw,rfl,by rw[e2 _];rfl⟩
   ·have p2:decide ((i:Int)<(D l:Int))=false:=cY;have ha:i=D l:=by omega
    rw[ha,lC,lV] at hu;rcases X with ⟨X,vj⟩|⟨X,vj⟩|⟨X,vj⟩
    ·by_cases hr64:u<9223372036854775808
     ·rw[ad (by unfold dB;omega)];have hw:IntKind.i64.wrap u=z:=by rw[wrap64 u (by omega) (by omega)];omega
      simp only[go_sem,go_sem_proc,dJ,G,lD,jS,qN,qO,hm,p2,X,hr64,show decide ((1:Int)<0)=false from rfl,show decide ((1:Int)>=0)=true from rfl,show decide ((-1:Int)<0)=true from rfl,show decide ((-1:Int)>=0)=false from rfl,hw,decide_true,decide_false,ak];repeat' (first|refine ax ?_ ?_|fail)<;>intro h<;>simp only[h,go_sem,go_sem_proc,dJ,G,lD,jS,qN,qO,hm,p2,X,hr64,show decide ((1:Int)<0)=false from rfl,show decide ((1:Int)>=0)=true from rfl,show decide ((-1:Int)<0)=true from rfl,show decide ((-1:Int)>=0)=false from rfl,hw,decide_true,decide_false,ak]
     ·rw[ah (by unfold dB;omega)];simp only[go_sem,go_sem_proc,dJ,G,lD,jS,qN,qO,hm,p2,X,hr64,show decide ((1:Int)<0)=false from rfl,show decide ((1:Int)>=0)=true from rfl,show decide ((-1:Int)<0)=true from rfl,show decide ((-1:Int)>=0)=false from rfl,decide_true,decide_false,ak];repeat' (first|refine ax ?_ ?_|fail)<;>intro h<;>simp only[h,go_sem,go_sem_proc,dJ,G,lD,jS,qN,qO,hm,p2,X,hr64,show decide ((1:Int)<0)=false from rfl,show decide ((1:Int)>=0)=true from rfl,show decide ((-1:Int)<0)=true from rfl,show decide ((-1:Int)>=0)=false from rfl,decide_true,decide_false,ak]
    ·rw[ad (by unfold dB;omega)];have atl:u=0:=by omega
     subst vj;subst atl;simp only[go_sem,go_sem_proc,dJ,G,lD,jS,qN,qO,hm,p2,X,show decide ((0:Int)<0)=false from rfl,show decide ((0:Int)>=0)=true from rfl,show decide ((0:Int)<9223372036854775808)=true from rfl,show IntKind.i64.wrap 0=0 from rfl,show (0:Int).sign=0 from rfl,decide_true,decide_false,ak];repeat' (first|refine ax ?_ ?_|fail)<;>intro h<;>simp only[h,go_sem,go_sem_proc,dJ,G,lD,jS,qN,qO,hm,p2,X,show decide ((0:Int)<0)=false from rfl,show decide ((0:Int)>=0)=true from rfl,show decide ((0:Int)<9223372036854775808)=true from rfl,show IntKind.i64.wrap 0=0 from rfl,show (0:Int).sign=0 from rfl,decide_true,decide_false,ak]
    ·by_cases hr64:u<=9223372036854775808
     ·rw[ad (by unfold dB;omega)];have hw:=WG (0-u) (by omega) (by omega)
      have fy:IntKind.i64.wrap (0-u+18446744073709551616)=z:=by
       simp[IntKind.wrap,IntKind.bits,IntKind.signed];omega
      simp only[go_sem,go_sem_proc,dJ,G,lD,jS,qN,qO,hm,p2,X,hr64,show decide ((1:Int)<0)=false from rfl,show decide ((1:Int)>=0)=true from rfl,show decide ((-1:Int)<0)=true from rfl,show decide ((-1:Int)>=0)=false from rfl,hw,fy,decide_true,decide_false,ak];repeat' (first|refine ax ?_ ?_|fail)<;>intro h<;>simp only[h,go_sem,go_sem_proc,dJ,G,lD,jS,qN,qO,hm,p2,X,hr64,show decide ((1:Int)<0)=false from rfl,show decide ((1:Int)>=0)=true from rfl,show decide ((-1:Int)<0)=true from rfl,show decide ((-1:Int)>=0)=false from rfl,hw,fy,decide_true,decide_false,ak]
     ·rw[ah (by unfold dB;omega)];simp only[go_sem,go_sem_proc,dJ,G,lD,jS,qN,qO,hm,p2,X,hr64,show decide ((1:Int)<0)=false from rfl,show decide ((1:Int)>=0)=true from rfl,show decide ((-1:Int)<0)=true from rfl,show decide ((-1:Int)>=0)=false from rfl,decide_true,decide_false,ak];repeat' (first|refine ax ?_ ?_|fail)<;>intro h<;>simp only[h,go_sem,go_sem_proc,dJ,G,lD,jS,qN,qO,hm,p2,X,hr64,show decide ((1:Int)<0)=false from rfl,show decide ((1:Int)>=0)=true from rfl,show decide ((-1:Int)<0)=true from rfl,show decide ((-1:Int)>=0)=false from rfl,decide_true,decide_false,ak]
  ·have PN:decide (((aL z.natAbs).length:Int)>4)=true:=c6
   have aK:¬ dB z:=by
    intro h;unfold dB at h;refine aS (gS.2 ?_);omega
   rw[ah aK];simp only[go_sem,go_sem_proc,dJ,ab,H,PN,ak];repeat' (first|refine ax ?_ ?_|fail)<;>intro h<;>simp only[h,go_sem,go_sem_proc,dJ,ab,H,PN,ak]
 ·have ab:dG (s,l)=false:=by simpa using ab
  have M:sO (s,l)=(0,false):=by unfold sO;rw[ah];rw[ab];simp
  rw[M];simp only[go_sem,go_sem_proc,dJ,ab,H];repeat' (first|refine ax ?_ ?_|fail)<;>intro h<;>simp only[h,go_sem,go_sem_proc,dJ,ab,H]
def WK:bP:=b8 35 1 [.t 2] (U [dL 1 116001 0,cA 2 false] (.seq (U [bf 5 0 1,bn 6 2 5,(dQ 7 k0 6),fh 8 7,F 9 8,⟨some 10,some (9,false),.dY 2 (.t 1)⟩,⟨some 11,some (9,false),.load 2 true (.t 10)⟩,⟨some 12,some (9,false),.call k0 [(.t 11)]⟩,⟨some 13,some (9,false),.un .not (.t 12)⟩,eh 14 9 13,F 15 14,⟨some 16,some (15,false),.dY 2 (.t 1)⟩,⟨some 17,some (15,false),.dY 0 (.t 16)⟩,⟨some 18,some (15,false),.load 1 false (.t 17)⟩,⟨some 19,some (15,false),.bin .neq (.t 18) (.c (al 1))⟩,eh 20 15 19] (aY 20 (U [cA 2 false] .ret) .skip)) (U [bf 22 0 1,bn 23 2 22,bf 24 2 1,bn 25 2 24,(cv 26 Kx 23 25),F 21 26,bA 27 0 21,bA 28 1 21,(aD 3 (.alloc 116003 [(al 0),.nil])),bp 2 3 27,F 4 28] (U [F 29 4,a5 30 .eql 29 0,F 31 30,⟨some 32,some (31,true),.load 2 true (.t 3)⟩,⟨some 33,some (31,true),.call Us [(.t 32)]⟩,fN 34 31 33,F 2 34] .ret))))
def WL:bP:=b8 46 2 [.cell 4 4 true,.t 5] (U [dL 2 119002 0,dL 3 119003 1,(aD 4 (.alloc 119004 [(al 0),.nil,(al 0),.nil])),br 5 0] (.seq (U [bn 10 4 2,(dQ 11 l3 10),fh 12 11,F 13 12,⟨some 14,some (13,false),.load 4 true (.t 3)⟩,⟨some 15,some (13,false),.call l3 [(.t 14)]⟩,⟨some 16,some (13,false),.un .not (.t 15)⟩,eh 17 13 16] (aY 17 (U [(aD 18 (.build [(al 0),.nil,(al 0),.nil] [])),bp 4 4 18,br 5 1] .ret) .skip)) (U [bf 20 0 2,bn 21 2 20,bf 22 2 3,bn 23 2 22,bf 24 0 3,bn 25 2 24,bf 26 2 2,bn 27 2 26,(zZ 28 Ut 21 23 25 27),F 19 28,bA 29 0 19,bA 30 1 19,(aD 6 (.alloc 119006 [(al 0),.nil])),bp 2 6 29,F 7 30] (U [bf 32 2 2,bn 33 2 32,bf 34 2 3,bn 35 2 34,(cv 36 vq 33 35),F 31 36,bA 37 0 31,bA 38 1 31,(aD 8 (.alloc 119008 [(al 0),.nil])),bp 2 8 37,F 9 38] (U [bn 39 2 6,F 40 7,bn 41 2 8,F 42 9,(zZ 43 DX 39 40 41 42),bA 44 0 43,bA 45 1 43,bp 4 4 44,F 5 45] .ret)))))
def WM:bP:=b8 13 2 [.cell 4 4 true,.t 5] (U [(aD 4 (.alloc 130004 [(al 0),.nil,(al 0),.nil])),br 5 0] (U [F 6 0,(dQ 7 OH 6),F 8 1,(dQ 9 OH 8),(cv 10 Ky 7 9),bA 11 0 10,bA 12 1 10,bp 4 4 11,F 5 12] .ret))
def WN:bP:=b8 25 2 [.cell 4 4 true,.t 5] (U [dL 2 132002 0,dL 3 132003 1,(aD 4 (.alloc 132004 [(al 0),.nil,(al 0),.nil])),br 5 0] (.seq (U [bn 6 4 2,(dQ 7 l3 6),fh 8 7,F 9 8,⟨some 10,some (9,false),.load 4 true (.t 3)⟩,⟨some 11,some (9,false),.call l3 [(.t 10)]⟩,⟨some 12,some (9,false),.un .not (.t 11)⟩,eh 13 9 12] (aY 13 (U [(aD 14 (.build [(al 0),.nil,(al 0),.nil] [])),bp 4 4 14,br 5 1] .ret) .skip)) (fD [bn 15 4 2,bf 16 0 3,bn 17 2 16,(dQ 18 Gy 17),bf 19 2 3,bn 20 2 19,(aD 21 (.build [(al 0),.nil,(al 0),.nil] [(0,2,(.t 18)),(2,2,(.t 20))])),(cv 22 vp 15 21),bA 23 0 22,bA 24 1 22,bp 4 4 23,F 5 24] ae9 .ret)))
def WO:bP:=b8 42 2 [.cell 4 4 true,.t 5] (U [dL 2 134002 0,dL 3 134003 1,(aD 4 (.alloc 134004 [(al 0),.nil,(al 0),.nil])),br 5 0] (.seq (U [bn 10 4 2,(dQ 11 l3 10),fh 12 11,F 13 12,⟨some 14,some (13,false),.load 4 true (.t 3)⟩,⟨some 15,some (13,false),.call l3 [(.t 14)]⟩,⟨some 16,some (13,false),.un .not (.t 15)⟩,eh 17 13 16] (aY 17 (U [(aD 18 (.build [(al 0),.nil,(al 0),.nil] [])),bp 4 4 18,br 5 1] .ret) .skip)) (U [bf 20 0 2,bn 21 2 20,bf 22 0 3,bn 23 2 22,(cv 24 vq 21 23),F 19 24,bA 25 0 19,bA 26 1 19,(aD 6 (.alloc 134006 [(al 0),.nil])),bp 2 6 25,F 7 26] (U [bf 28 2 2,bn 29 2 28,bf 30 2 3,bn 31 2 30,(cv 32 vq 29 31),F 27 32,bA 33 0 27,bA 34 1 27,(aD 8 (.alloc 134008 [(al 0),.nil])),bp 2 8 33,F 9 34] (U [bn 35 2 6,F 36 7,bn 37 2 8,F 38 9,(zZ 39 DX 35 36 37 38),bA 40 0 39,bA 41 1 39,bp 4 4 40,F 5 41] .ret)))))
def WQ:bP:=b8 78 2 [.t 4] (U [dL 2 135002 0,dL 3 135003 1,br 4 0] (.seq (U [bn 17 4 2,(dQ 18 l3 17),fh 19 18,F 20 19,⟨some 21,some (20,false),.load 4 true (.t 3)⟩,⟨some 22,some (20,false),.call l3 [(.t 21)]⟩,⟨some 23,some (20,false),.un .not (.t 22)⟩,eh 24 20 23] (aY 24 (U [br 4 0] .ret) .skip)) (fD [bf 25 0 2,bn 26 2 25,bf 27 2 2,bn 28 2 27,bf 29 0 3,bn 30 2 29,bf 31 2 3,bn 32 2 31,(aD 5 (.alloc 135005 [(al 0),.nil])),(aD 6 (.alloc 135006 [(al 0),.nil])),(aD 7 (.alloc 135007 [(al 0),.nil])),(aD 8 (.alloc 135008 [(al 0),.nil])),bp 2 5 26,bp 2 6 28,bp 2 7 30,bp 2 8 32] [[],[],[],[],[],[],[],[],[1,3,5,7],[1,3,5,7,8],[1,3,5,7,8,9],[1,3,5,7,8,9,10],[3,5,7],[5,7],[7],[]] (U [br 9 1] (.block 0 (.loop  (.seq (.block 1 (U [bn 36 2 5,bn 37 2 6,(cv 38 DY 36 37),F 35 38,bA 39 0 35,bA 40 1 35,bA 41 2 35,(aD 10 (.alloc 135010 [(al 0),.nil])),(aD 11 (.alloc 135011 [(al 0),.nil])),bp 2 10 39,bp 2 11 40,F 12 41] (U [bn 43 2 7,bn 44 2 8,(cv 45 DY 43 44),F 42 45,bA 46 0 42,bA 47 1 42,bA 48 2 42,(aD 13 (.alloc 135013 [(al 0),.nil])),(aD 14 (.alloc 135014 [(al 0),.nil])),bp 2 13 46,bp 2 14 47,F 15 48] (.seq (U [bn 49 2 10,bn 50 2 13,(cv 51 Uz 49 50),F 16 51] (.block 2 (U [F 53 16,a5 54 .neq 53 0,F 52 54] (aY 52 (U [F 55 9,F 56 16,bo 57 .mul 55 56,F 4 57] .ret) (U [bf 59 0 11,aV 60 1 59,a5 61 .eql 60 0,F 62 61,⟨some 63,some (62,false),.dY 0 (.t 14)⟩,⟨some 64,some (62,false),.load 1 false (.t 63)⟩,⟨some 65,some (62,false),.bin .eql (.t 64) (.c (al 0))⟩,eh 66 62 65,F 58 66] (aY 58 (U [F 67 9,bf 68 0 11,aV 69 1 68,bf 70 0 14,aV 71 1 70,bo 72 .sub 69 71,bo 73 .mul 67 72,F 4 73] .ret) .skip)))))) (.mY [bn 74 2 6,bn 75 2 11,bn 76 2 8,bn 77 2 14,bp 2 5 74,bp 2 6 75,bp 2 7 76,bp 2 8 77] [[],[],[],[],[1,2,3],[2,3],[3],[]]))))) (.ops [F 33 9,(aD 34 (.un .neg (.t 33))),F 9 34]))))))))
def WR:bP:=b8 15 1 [.t 2] (U [dL 1 138001 0,cA 2 false] (U [bn 6 2 1,(dQ 7 UA 6),F 5 7,bA 8 0 5,bA 9 1 5,F 3 8,F 4 9] (U [F 10 4,F 11 10,⟨some 12,some (11,true),.cm (.t 3)⟩,⟨some 13,some (11,true),.bin .eql (.t 12) (.c (al 1))⟩,fN 14 11 13,F 2 14] .ret)))
def WS:bP:=b8 38 4 [.cell 8 2 true,.t 9] (U [dL 4 139004 0,dL 5 139005 1,dL 6 139006 2,dL 7 139007 3,(aD 8 (.alloc 139008 [(al 0),.nil])),br 9 0] (U [bn 14 2 4,bn 15 2 5,(cv 16 vq 14 15),F 13 16,bA 17 0 13,bA 18 1 13,(aD 10 (.alloc 139010 [(al 0),.nil])),bp 2 10 17,F 11 18] (.seq (U [F 19 11,a5 20 .neq 19 0] (aY 20 (U [(aD 21 (.build [(al 0),.nil] [])),F 22 11,bp 2 8 21,F 9 22] .ret) .skip)) (U [bn 24 2 6,bn 25 2 7,(cv 26 vq 24 25),F 23 26,bA 27 0 23,bA 28 1 23,(aD 12 (.alloc 139012 [(al 0),.nil])),bp 2 12 27,F 11 28] (.seq (U [F 29 11,a5 30 .neq 29 0] (aY 30 (U [(aD 31 (.build [(al 0),.nil] [])),F 32 11,bp 2 8 31,F 9 32] .ret) .skip)) (U [bn 33 2 10,bn 34 2 12,(cv 35 UB 33 34),bA 36 0 35,bA 37 1 35,bp 2 8 36,F 9 37] .ret))))))
def WT:bP:=b8 22 4 [.cell 8 4 true,.t 9] (U [dL 4 141004 0,dL 6 141006 2,(aD 8 (.alloc 141008 [(al 0),.nil,(al 0),.nil])),br 9 0] (.seq (U [F 10 1,a5 11 .neq 10 0,F 12 11,⟨some 13,some (12,false),.cm (.t 3)⟩,⟨some 14,some (12,false),.bin .neq (.t 13) (.c (al 0))⟩,eh 15 12 14] (aY 15 (U [(aD 16 (.build [(al 0),.nil,(al 0),.nil] [])),bp 4 8 16,br 9 6] .ret) .skip)) (U [bn 17 2 4,bn 18 2 6,(cv 19 Ky 17 18),bA 20 0 19,bA 21 1 19,bp 4 8 20,F 9 21] .ret)))
def WU:bP:=b8 60 2 [.cell 4 4 true,.t 5] (U [dL 2 149002 0,dL 3 149003 1,(aD 4 (.alloc 149004 [(al 0),.nil,(al 0),.nil])),br 5 0] (.seq (.block 0 (U [bn 15 2 2,(dQ 16 k0 15),fh 17 16,F 18 17,⟨some 19,some (18,false),.load 2 true (.t 3)⟩,⟨some 20,some (18,false),.call k0 [(.t 19)]⟩,⟨some 21,some (18,false),.un .not (.t 20)⟩,eh 22 18 21,F 14 22] (aY 14 (U [(aD 23 (.build [(al 0),.nil,(al 0),.nil] [])),bp 4 4 23,br 5 1] .ret) (U [bf 25 0 3,aV 26 1 25,a5 27 .eql 26 0,F 24 27] (aY 24 (U [(aD 28 (.build [(al 0),.nil,(al 0),.nil] [])),bp 4 4 28,br 5 15] .ret) (U [bf 30 0 3,aV 31 1 30,a5 32 .lss 31 0,F 29 32] (aY 29 (.mY [bn 33 2 2,(dQ 34 Gy 33),bn 35 2 3,(dQ 36 Gy 35),bp 2 2 34,bp 2 3 36] ae8) .skip))))))) (U [bn 38 2 2,bn 39 2 3,(cv 40 Kx 38 39),F 37 40,bA 41 0 37,bA 42 1 37,(aD 6 (.alloc 149006 [(al 0),.nil])),bp 2 6 41,F 7 42] (U [bn 44 2 2,bn 45 2 6,(cv 46 DY 44 45),F 43 46,bA 47 0 43,bA 48 1 43,bA 49 2 43,(aD 8 (.alloc 149008 [(al 0),.nil])),(aD 9 (.alloc 149009 [(al 0),.nil])),bp 2 8 47,bp 2 9 48,F 10 49] (U [bn 51 2 3,bn 52 2 6,(cv 53 DY 51 52),F 50 53,bA 54 0 50,bA 55 1 50,bA 56 2 50,(aD 11 (.alloc 149011 [(al 0),.nil])),(aD 12 (.alloc 149012 [(al 0),.nil])),bp 2 11 54,bp 2 12 55,F 13 56] (U [bn 57 2 8,bn 58 2 11,(aD 59 (.build [(al 0),.nil,(al 0),.nil] [(0,2,(.t 57)),(2,2,(.t 58))])),bp 4 4 59,br 5 0] .ret))))))
def WV:bP:=b8 49 2 [.cell 4 4 true,.t 5] (U [dL 2 169002 0,dL 3 169003 1,(aD 4 (.alloc 169004 [(al 0),.nil,(al 0),.nil])),br 5 0] (.seq (.block 0 (U [bn 11 4 2,(dQ 12 l3 11),fh 13 12,F 14 13,⟨some 15,some (14,false),.load 4 true (.t 3)⟩,⟨some 16,some (14,false),.call l3 [(.t 15)]⟩,⟨some 17,some (14,false),.un .not (.t 16)⟩,eh 18 14 17,F 10 18] (aY 10 (U [(aD 19 (.build [(al 0),.nil,(al 0),.nil] [])),bp 4 4 19,br 5 1] .ret) (U [bf 21 0 3,bf 22 0 21,aV 23 1 22,a5 24 .eql 23 0,F 20 24] (aY 20 (U [(aD 25 (.build [(al 0),.nil,(al 0),.nil] [])),bp 4 4 25,br 5 15] .ret) .skip))))) (U [bf 27 0 2,bn 28 2 27,bf 29 2 3,bn 30 2 29,(cv 31 vq 28 30),F 26 31,bA 32 0 26,bA 33 1 26,(aD 6 (.alloc 169006 [(al 0),.nil])),bp 2 6 32,F 7 33] (U [bf 35 2 2,bn 36 2 35,bf 37 0 3,bn 38 2 37,(cv 39 vq 36 38),F 34 39,bA 40 0 34,bA 41 1 34,(aD 8 (.alloc 169008 [(al 0),.nil])),bp 2 8 40,F 9 41] (U [bn 42 2 6,F 43 7,bn 44 2 8,F 45 9,(zZ 46 DX 42 43 44 45),bA 47 0 46,bA 48 1 46,bp 4 4 47,F 5 48] .ret)))))
abbrev bc:=Raw×Raw
def aH (f:bc):List Data:=[.int .i64 f.1.1,.Y (f.1.2.map ae),.int .i64 f.2.1,.Y (f.2.2.map ae)]
def eB (x:bc×Int):Data:=.cH [.agg (aH x.1),.int .i64 x.2]
def ao (x:Rat):bc:=(bS x.num,bS x.den)
def di (x:Rat):Prop:=x.num.natAbs<eb/\x.den<eb
def fm:bc:=((0,[]),(0,[]))
def ef (f:bc):Bool:=dG f.1&&(dG f.2&&(f.2.1==1&&(jm (iA f.1).natAbs (iA f.2).natAbs==1)))
def xc (f:bc):Rat:=l7 (iA f.1) (iA f.2)
theorem Ch (x:Rat):xc (ao x)=x:=by
 unfold xc ao;rw[fO,fO,Ey]
theorem rR {x y:Rat}(h:ao x=ao y):x=y:=by rw[<-Ch x,h,Ch]
theorem den_pos (x:Rat):0<(x.den:Int):=Eu.2 x.den_pos
theorem atm {n:Int}(h:0<n):(bS n).1=1:=jW h
theorem Lj (f:bc):ef f=true↔∃x,di x/\f=ao x:=by
 unfold ef;simp only[eW,beq_iff_eq]
 constructor
 ·rintro⟨G,I,af,aS⟩;obtain⟨p,aE,ay⟩:=(jV _).1 G;obtain⟨q,hq,aC⟩:=(jV _).1 I;obtain⟨f1,f2⟩:=f;simp only at ay aC af aS;subst ay aC;rw[fO,fO] at aS
  have Wr:0<q:=by
   rcases mJ q with ⟨_,h⟩|⟨e,_⟩|⟨e,_⟩
   ·exact h
   ·have:q.sign=1:=af;omega
   ·have:q.sign=1:=af;omega
  refine⟨⟨p,q.natAbs,by omega,aS⟩,⟨aE,hq⟩,?_⟩
  unfold ao;rw[show ((q.natAbs:Nat):Int)=q by omega]
 ·rintro⟨x,⟨G,I⟩,rfl⟩;have aa:(x.den:Int).natAbs<eb:=by rw[mK];exact I
  refine⟨k5 G,k5 aa,atm (den_pos x),?_⟩;unfold ao;rw[fO,fO,mK];exact x.reduced
theorem yN {x:Rat}(h:di x):ef (ao x)=true:=(Lj _).2 ⟨x,h,rfl⟩
theorem xd {x:Rat}(h:di x):(x.den:Int).natAbs<eb:=by rw[mK];exact h.2
theorem nB {z:Int}(h:z.natAbs<eb):(aL z.natAbs).length<=1000000:=by have:=rP h;omega
def Ez (a:Raw):Bool:=(sO a).2&&((sO a).1==1)
theorem atn {z:Int}(h:z.natAbs<eb):Ez (bS z)=decide (z=1):=by
 unfold Ez sO;rw[k5 h,fO]
 by_cases M:dB z
 ·rw[ad ⟨rfl,M⟩];simp only[gQ]
  rfl
 ·rw[ah λh=>M h.2];have:z≠1:=by rintro rfl;exact M (by unfold dB;omega)
  simp[this]
def WW:=cj BR λ(s,l)=>cM (D l<=1000000) (.same (.bool (Ez (s,l))))
@[go_sem] theorem aLe (s:Int)(l:List Int)(H:(D l)<=1000000):WW [.agg [.int .i64 s,.Y (l.map ae)]]=some (.same (.bool (Ez (s,l)))):=(ct GM (s,l)).trans (cR H _)
theorem ato (T:bb)(PQ:T UA=aU WI)(s:Int)(l:List Int)(H:(D l)<=1000000):WP T WR (.same (.bool (Ez (s,l)))) [.J (.agg [.int .i64 s,.Y (l.map ae)])]:=by
 refine cu ?_;simp only[WR];unfold Ez;rcases h:(sO (s,l)).2
 ·simp only[go_sem,go_sem_proc,PQ,H,h];repeat' (first|refine ax ?_ ?_|fail)<;>intro h<;>simp only[h,go_sem,go_sem_proc,PQ,H,h]
 ·simp only[go_sem,go_sem_proc,PQ,H,h];repeat' (first|refine ax ?_ ?_|fail)<;>intro h<;>simp only[h,go_sem,go_sem_proc,PQ,H,h]
abbrev EA:Int×(List Int)×Int×(List Int)->List Data:=λ(s,l,s2,ai)=>[.agg [.int .i64 s,.Y (l.map ae),.int .i64 s2,.Y (ai.map ae)]]
def vN:=cj EA λ(s,l,s2,ai)=>cM (D l<=1000000/\D ai<=1000000) (.same (.bool (ef ((s,l),(s2,ai)))))
theorem Lk:∀a b,EA a=EA b->a=b:=by
  rintro⟨s1,ei,Ca,Cb⟩ ⟨s2,ai,Cc,Cd⟩ h;simp only[a3,Data.agg.injEq,Data.int.injEq,Data.Y.injEq] at h;exact dS h.1.1.2 (dS (map_inj e9 _ _ h.1.2.1) (dS h.1.2.2.1.2 (map_inj e9 _ _ h.1.2.2.2.1)))
@[go_sem] theorem atp (s:Int)(l:List Int)(s2:Int)(ai:List Int)(H:(D l)<=1000000/\D ai<=1000000):vN [.agg [.int .i64 s,.Y (l.map ae),.int .i64 s2,.Y (ai.map ae)]]=some (.same (.bool (ef ((s,l),(s2,ai))))):=(ct Lk (s,l,s2,ai)).trans (cR H _)
theorem atq (T:bb)(dJ:T k0=aU wW)(yO:T Kx=aU PD)(PR:T Us=aU WW)(s:Int)(l:List Int)(s2:Int)(ai:List Int)(H:(D l)<=1000000/\D ai<=1000000):WP T WK (.same (.bool (ef ((s,l),(s2,ai))))) [.J (.agg [.int .i64 s,.Y (l.map ae),.int .i64 s2,.Y (ai.map ae)])]:=by
 refine cu ?_;simp only[WK];obtain⟨b2,cp⟩:=H
 by_cases ab:dG (s,l)=true
 ·by_cases bB:dG (s2,ai)=true
  ·by_cases X:s2=1
   ·obtain⟨x,Q,e⟩:=(jV _).1 ab;obtain⟨y,av,aC⟩:=(jV _).1 bB
    have ba:l6 (s,l) (s2,ai)=(bS ((jm x.natAbs y.natAbs:Nat):Int),0):=by
     unfold l6;rw[ab,bB,e,aC,fO,fO];rfl
    have oX:=Ld Q av
    have bO:Ez (bS ((jm x.natAbs y.natAbs:Nat):Int))=(jm x.natAbs y.natAbs==1):=by
     rw[atn (by rw[mK];exact oX)];rw[xe];simp;omega
    have oL:iA (s,l)=x:=by rw[e,fO]
    have oM:iA (s2,ai)=y:=by rw[aC,fO]
    have fZ:ef ((s,l),(s2,ai))=(jm x.natAbs y.natAbs==1):=by
     show (dG (s,l)&&(dG (s2,ai)&&((s2==1)&&(jm (iA (s,l)).natAbs (iA (s2,ai)).natAbs==1))))=_;rw[ab,bB,oL,oM,show (s2==1)=true by simpa using X]
     simp only[gQ]
    have atr:((bS ((jm x.natAbs y.natAbs:Nat):Int)).2).length<=1000000:=nB (by rw[mK];exact oX);rw[fZ,<-bO];generalize bS ((jm x.natAbs y.natAbs:Nat):Int)=bR at *;obtain⟨cz,cf⟩:=bR;have iO:(s2==1)=true:=by simpa using X
    refine aX ?_;repeat' (intro h<;>simp only[h,go_sem,go_sem_proc,dJ,yO,PR,ab,bB,b2,cp,iO,ba,atr,fP,da,show ((0:Int)==0)=true from rfl]<;>try refine ax ?_ ?_)
   ·have fZ:ef ((s,l),(s2,ai))=false:=by unfold ef;simp[X]
    have iO:(s2==1)=false:=by simpa using X
    rw[fZ];refine aX ?_;repeat' (intro h<;>simp only[h,go_sem,go_sem_proc,dJ,yO,PR,ab,bB,b2,cp,iO]<;>try refine ax ?_ ?_)
  ·have bB:dG (s2,ai)=false:=by simpa using bB
   have fZ:ef ((s,l),(s2,ai))=false:=by unfold ef;simp[bB]
   rw[fZ];refine aX ?_;repeat' (intro h<;>simp only[h,go_sem,go_sem_proc,dJ,yO,PR,ab,bB,b2,cp]<;>try refine ax ?_ ?_)
 ·have ab:dG (s,l)=false:=by simpa using ab
  have fZ:ef ((s,l),(s2,ai))=false:=by unfold ef;simp[ab]
  rw[fZ];refine aX ?_;repeat' (intro h<;>simp only[h,go_sem,go_sem_proc,dJ,yO,PR,ab,b2,cp]<;>try refine ax ?_ ?_)
def hD (p q:Raw):bc×Int :=
 if (dG p&&dG q)=true then (if iA q=0 then (fm,15) else (ao (l7 (iA p) (iA q)),0)) else (fm,1)
theorem Aj {p q:Int}(aE:p.natAbs<eb)(hq:q.natAbs<eb)(ar:q≠0):hD (bS p) (bS q)=(ao (l7 p q),0):=by
 unfold hD;rw[k5 aE,k5 hq,fO,fO,ad (by rfl),ah ar]
theorem WX {p q:Int}(hq:0<q):(l7 p q).num=p.fdiv ((jm p.natAbs q.natAbs:Nat):Int)/\((l7 p q).den:Int)=q.fdiv ((jm p.natAbs q.natAbs:Nat):Int):=by
 rw[Rat.num_divInt,Rat.den_divInt,ah (by omega),jW hq,n8];have ba:q.gcd p=jm p.natAbs q.natAbs:=by rw[Int.gcd_comm];rfl
 rw[ba];have ar:(0:Int)<=((jm p.natAbs q.natAbs:Nat):Int):=Int.natCast_nonneg _;rw[ago _ ar,ago _ ar];refine⟨rfl,?_⟩;rw[Int.natCast_ediv]
 congr 1
 omega
theorem WY {p q:Int}(hq:q≠0):0<jm p.natAbs q.natAbs:=Nat.gcd_pos_of_pos_right _ (by omega)
theorem PS {p q:Int}(aE:p.natAbs<eb)(hq:q.natAbs<eb):di (l7 p q):=by
 have main:∀{p q:Int},p.natAbs<eb->q.natAbs<eb->0<q->di (l7 p q):=by
  intro p q aE hq ar;obtain⟨G,I⟩:=WX (p:=p) ar;have ba:=WY (p:=p) (q:=q) (by omega);refine⟨?_,?_⟩
  ·rw[G];exact Hd aE (by omega)
  ·have:=Hd (y:=((jm p.natAbs q.natAbs:Nat):Int)) hq (by omega);rw[<-I,mK] at this;exact this
 rcases yD q 0 with h|h|h
 ·rw[<-agp];exact main (by omega) (by omega) (by omega)
 ·subst h;rw[Rat.divInt_zero];unfold di eb;exact⟨Nat.pow_pos (by omega),Nat.one_lt_pow (by omega) (by omega)⟩
 ·exact main aE hq h
def PT:=cj vL λ(s,l,s2,ai)=>cM (D l<=1000000/\D ai<=1000000) (.same (eB (hD (s,l) (s2,ai))))
@[go_sem] theorem aLf (s:Int)(l:List Int)(s2:Int)(ai:List Int)(H:(D l)<=1000000/\D ai<=1000000):PT [.agg [.int .i64 s,.Y (l.map ae)],.agg [.int .i64 s2,.Y (ai.map ae)]]=some (.same (eB (hD (s,l) (s2,ai)))):=(ct yJ (s,l,s2,ai)).trans (cR H _)
theorem ats (T:bb)(dJ:T k0=aU wW)(Ak:T Gy=aU PA)(yO:T Kx=aU PD)(qP:T DY=aU PJ)(s:Int)(l:List Int)(s2:Int)(ai:List Int)(H:(D l)<=1000000/\D ai<=1000000):WP T WU (.same (eB (hD (s,l) (s2,ai)))) [.J (.agg [.int .i64 s,.Y (l.map ae)]),.J (.agg [.int .i64 s2,.Y (ai.map ae)])]:=by
 refine cu ?_;simp only[WU];obtain⟨b2,cp⟩:=H
 by_cases ab:dG (s,l)=true
 ·by_cases bB:dG (s2,ai)=true
  ·obtain⟨x,Q,e⟩:=(jV _).1 ab;obtain⟨y,av,aC⟩:=(jV _).1 bB
   by_cases ar:y=0
   ·have hm:hD (s,l) (s2,ai)=(fm,15):=by
     unfold hD;rw[ab,bB,aC,fO,ad (by rfl),ad ar]
    rw[hm]
    cases e
    cases aC;have X:(y.sign==0)=true:=by rw[ar];rfl
    refine aX ?_;repeat' (intro h<;>simp only[h,go_sem,go_sem_proc,dJ,Ak,yO,qP,ab,bB,b2,cp,X,eB,aH,fm,cZ]<;>try refine ax ?_ ?_)
   ·have main:∀p q:Int,p.natAbs<eb->q.natAbs<eb->0<q->∃g:Raw,l6 (bS p) (bS q)=(g,0)/\g.2.length<=1000000/\kC (bS p) g=(bS (l7 p q).num,bS (p.fmod ((jm p.natAbs q.natAbs:Nat):Int)),0)/\kC (bS q) g=(bS (l7 p q).den,bS (q.fmod ((jm p.natAbs q.natAbs:Nat):Int)),0):=by
     intro p q aE hq mD;have oX:=Ld aE hq;have EB:((jm p.natAbs q.natAbs:Nat):Int).natAbs<eb:=by rw[mK];exact oX
     have G6:=WY (p:=p) (q:=q) (by omega);obtain⟨G,I⟩:=WX (p:=p) mD;refine⟨bS ((jm p.natAbs q.natAbs:Nat):Int),?_,nB EB,?_,?_⟩
     ·unfold l6;rw[k5 aE,k5 hq,fO,fO];rfl
     ·rw[Ep aE EB (by omega),G]
     ·rw[Ep hq EB (by omega),I]
    have qQ:(y.sign==0)=false:=by simpa using ar
    rcases Int.lt_or_gt_of_ne ar with kB|h7
    ·have hC:decide (y.sign<0)=true:=by rw[rO kB];rfl
     obtain⟨⟨cz,cf⟩,ba,oX,jT,mE⟩:=main (-x) (-y) (by omega) (by omega) (by omega)
     have hm:hD (s,l) (s2,ai)=(ao (l7 (-x) (-y)),0):=by
      rw[e,aC,Aj Q av ar,agp]
     rw[hm];have pf:jX (s,l)=bS (-x):=by unfold jX;rw[ad ab,e,fO]
     have va:jX (s2,ai)=bS (-y):=by unfold jX;rw[ad bB,aC,fO]
     have EC:s2=y.sign:=congrArg Ci aC;have hO:(bS (-x)).2.length<=1000000:=nB (by omega);have jn:(bS (-y)).2.length<=1000000:=nB (by omega);clear e aC;unfold ao;generalize bS (-x)=df at *;generalize bS (-y)=gj at *;obtain⟨a6,bY⟩:=df;obtain⟨tX,tY⟩:=gj;rw[<-EC] at qQ hC;refine aX ?_;repeat' (intro h<;>simp only[h,go_sem,go_sem_proc,dJ,Ak,yO,qP,ab,bB,b2,cp,qQ,hC,pf,va,hO,jn,ba,oX,jT,mE,eB,aH,fP,hr,da]<;>try refine ax ?_ ?_)
    ·have hC:decide (y.sign<0)=false:=by rw[jW h7];rfl
     obtain⟨⟨cz,cf⟩,ba,oX,jT,mE⟩:=main x y Q av h7
     have hm:hD (s,l) (s2,ai)=(ao (l7 x y),0):=by
      rw[e,aC,Aj Q av ar]
     rw[hm];have EC:s2=y.sign:=congrArg Ci aC;rw[<-e] at ba jT;rw[<-aC] at ba mE;rw[<-EC] at qQ hC;unfold ao;refine aX ?_;repeat' (intro h<;>simp only[h,go_sem,go_sem_proc,dJ,Ak,yO,qP,ab,bB,b2,cp,qQ,hC,ba,oX,jT,mE,eB,aH,fP,hr,da]<;>try refine ax ?_ ?_)
  ·have bB:dG (s2,ai)=false:=by simpa using bB
   have hm:hD (s,l) (s2,ai)=(fm,1):=by unfold hD;rw[bB,iT];rfl
   rw[hm];refine aX ?_;repeat' (intro h<;>simp only[h,go_sem,go_sem_proc,dJ,Ak,yO,qP,ab,bB,b2,cp,eB,aH,fm,cZ]<;>try refine ax ?_ ?_)
 ·have ab:dG (s,l)=false:=by simpa using ab
  have hm:hD (s,l) (s2,ai)=(fm,1):=by unfold hD;rw[ab,fx];rfl
  rw[hm];refine aX ?_;repeat' (intro h<;>simp only[h,go_sem,go_sem_proc,dJ,Ak,yO,qP,ab,b2,cp,eB,aH,fm,cZ]<;>try refine ax ?_ ?_)
def ED:=cj Ed λ(p,q)=>cM (dB p/\dB q) (.same (eB (hD (bS p) (bS q))))
@[go_sem] theorem agq (p:Int)(q:Int)(H:dB p/\dB q):ED [.int .i64 p,.int .i64 q]=some (.same (eB (hD (bS p) (bS q)))):=(ct KU (p,q)).trans (cR H _)
theorem att (T:bb)(atu:T OH=aU WH)(Ll:T Ky=aU PT)(p:Int)(q:Int)(H:dB p/\dB q):WP T WM (.same (eB (hD (bS p) (bS q)))) [.J (.int .i64 p),.J (.int .i64 q)]:=by
 refine cu ?_;simp only[WM];obtain⟨G,I⟩:=H;have ei:(bS p).2.length<=1000000:=nB (yM G);have ai:(bS q).2.length<=1000000:=nB (yM I);generalize gx:bS p=P at *;generalize e1:bS q=aM at *;obtain⟨a6,bY⟩:=P;obtain⟨tX,tY⟩:=aM;refine aX ?_;repeat' (intro h<;>simp only[h,go_sem,go_sem_proc,atu,Ll,G,I,gx,e1,ei,ai,da,eB,aH]<;>try refine ax ?_ ?_)
def xf (a b c d:Raw):Raw×Int :=
 if ((mulR a b).2==0)=true then (if ((mulR c d).2==0)=true then sM (mulR a b).1 (mulR c d).1 else ((0,[]),(mulR c d).2)) else ((0,[]),(mulR a b).2)
theorem agr (z:Int):(sL z).1.2.length<=1000000:=by
 unfold sL
 split
 ·exact nB (by assumption)
 ·simp
theorem EE (a b:Raw):(mulR a b).1.2.length<=1000000:=by
 unfold mulR
 split
 ·exact agr _
 ·simp
theorem atv (a b:Raw):(sM a b).1.2.length<=1000000:=by
 unfold sM
 split
 ·exact agr _
 ·simp
theorem atw (a b c d:Raw):(xf a b c d).1.2.length<=1000000:=by
 unfold xf
 split
 ·split
  ·exact atv _ _
  ·simp
 ·simp
abbrev WZ:Int×(List Int)×Int×(List Int)×Int×(List Int)×Int×(List Int)->List Data:=λ(s,l,s2,ai,cQ,bM,cV,b5)=>[.agg [.int .i64 s,.Y (l.map ae)],.agg [.int .i64 s2,.Y (ai.map ae)],.agg [.int .i64 cQ,.Y (bM.map ae)],.agg [.int .i64 cV,.Y (b5.map ae)]]
def W0:=cj WZ λ(s,l,s2,ai,cQ,bM,cV,b5)=>cM (D l<=1000000/\D ai<=1000000/\D bM<=1000000/\D b5<=1000000) (.same (fP (xf (s,l) (s2,ai) (cQ,bM) (cV,b5))))
theorem atx:∀a b,WZ a=WZ b->a=b:=by
  rintro⟨s1,ei,Ca,Cb,aty,atz,atA,atB⟩ ⟨s2,ai,Cc,Cd,atC,atD,atE,atF⟩ h;simp only[a3,Data.agg.injEq,Data.int.injEq,Data.Y.injEq] at h;exact dS h.1.1.2 (dS (map_inj e9 _ _ h.1.2.1) (dS h.2.1.1.2 (dS (map_inj e9 _ _ h.2.1.2.1) (dS h.2.2.1.1.2 (dS (map_inj e9 _ _ h.2.2.1.2.1) (dS h.2.2.2.1.1.2 (map_inj e9 _ _ h.2.2.2.1.2.1)))))))
@[go_sem] theorem aLg (s:Int)(l:List Int)(s2:Int)(ai:List Int)(cQ:Int)(bM:List Int)(cV:Int)(b5:List Int)(H:(D l)<=1000000/\D ai<=1000000/\D bM<=1000000/\D b5<=1000000):W0 [.agg [.int .i64 s,.Y (l.map ae)],.agg [.int .i64 s2,.Y (ai.map ae)],.agg [.int .i64 cQ,.Y (bM.map ae)],.agg [.int .i64 cV,.Y (b5.map ae)]]=some (.same (fP (xf (s,l) (s2,ai) (cQ,bM) (cV,b5)))):=(ct atx (s,l,s2,ai,cQ,bM,cV,b5)).trans (cR H _)
theorem atG (T:bb)(qR:T vq=aU Hb)(W1:T UB=aU Wv)(s:Int)(l:List Int)(s2:Int)(ai:List Int)(cQ:Int)(bM:List Int)(cV:Int)(b5:List Int)(H:(D l)<=1000000/\D ai<=1000000/\D bM<=1000000/\D b5<=1000000):WP T WS (.same (fP (xf (s,l) (s2,ai) (cQ,bM) (cV,b5)))) [.J (.agg [.int .i64 s,.Y (l.map ae)]),.J (.agg [.int .i64 s2,.Y (ai.map ae)]),.J (.agg [.int .i64 cQ,.Y (bM.map ae)]),.J (.agg [.int .i64 cV,.Y (b5.map ae)])]:=by
 refine cu ?_;simp only[WS];obtain⟨b2,cp,hO,jn⟩:=H;have dO:=EE (s,l) (s2,ai);have cJ:=EE (cQ,bM) (cV,b5);unfold xf;generalize uf:mulR (s,l) (s2,ai)=M1 at *;generalize hb:mulR (cQ,bM) (cV,b5)=M2 at *;obtain⟨⟨cW,de⟩,ay⟩:=M1;obtain⟨⟨dh,eH⟩,aC⟩:=M2;rcases G:(ay==0)
 ·refine aX ?_;repeat' (intro h<;>simp only[h,go_sem,go_sem_proc,qR,W1,b2,cp,hO,jn,uf,G,dO,cJ,fP,da,cZ]<;>try refine ax ?_ ?_)
 ·have jY:ay=0:=by simpa using G
  subst jY;rcases I:(aC==0)
  ·refine aX ?_;repeat' (intro h<;>simp only[h,go_sem,go_sem_proc,qR,W1,b2,cp,hO,jn,uf,hb,G,I,dO,cJ,fP,da,cZ]<;>try refine ax ?_ ?_)
  ·have k6:aC=0:=by simpa using I
   subst k6;refine aX ?_;repeat' (intro h<;>simp only[h,go_sem,go_sem_proc,qR,W1,b2,cp,hO,jn,uf,hb,G,dO,cJ,fP,da,cZ]<;>try refine ax ?_ ?_)
def vO (p:Raw×Int)(q:Raw×Int):bc×Int:=if (p.2==0)=true then (if (q.2==0)=true then hD p.1 q.1 else (fm,6)) else (fm,6)
abbrev W2:Int×(List Int)×Int×Int×(List Int)×Int->List Data:=λ(s,l,e,s2,ai,aC)=>[.agg [.int .i64 s,.Y (l.map ae)],.int .i64 e,.agg [.int .i64 s2,.Y (ai.map ae)],.int .i64 aC]
def Lm:=cj W2 λ(s,l,e,s2,ai,aC)=>cM (D l<=1000000/\D ai<=1000000) (.same (eB (vO ((s,l),e) ((s2,ai),aC))))
theorem atH:∀a b,W2 a=W2 b->a=b:=by
  rintro⟨s1,ei,ay,Ca,Cb,px⟩ ⟨s2,ai,aC,Cc,Cd,um⟩ h;simp only[a3,Data.agg.injEq,Data.int.injEq,Data.Y.injEq] at h;exact dS h.1.1.2 (dS (map_inj e9 _ _ h.1.2.1) (dS h.2.1.2 (dS h.2.2.1.1.2 (dS (map_inj e9 _ _ h.2.2.1.2.1) h.2.2.2.1.2))))
@[go_sem] theorem aLh (s:Int)(l:List Int)(e:Int)(s2:Int)(ai:List Int)(aC:Int)(H:(D l)<=1000000/\D ai<=1000000):Lm [.agg [.int .i64 s,.Y (l.map ae)],.int .i64 e,.agg [.int .i64 s2,.Y (ai.map ae)],.int .i64 aC]=some (.same (eB (vO ((s,l),e) ((s2,ai),aC)))):=(ct atH (s,l,e,s2,ai,aC)).trans (cR H _)
theorem atI (T:bb)(Ll:T Ky=aU PT)(s:Int)(l:List Int)(e:Int)(s2:Int)(ai:List Int)(aC:Int)(H:(D l)<=1000000/\D ai<=1000000):WP T WT (.same (eB (vO ((s,l),e) ((s2,ai),aC)))) [.J (.agg [.int .i64 s,.Y (l.map ae)]),.J (.int .i64 e),.J (.agg [.int .i64 s2,.Y (ai.map ae)]),.J (.int .i64 aC)]:=by
 refine cu ?_;simp only[WT];obtain⟨b2,cp⟩:=H;unfold vO;rcases G:(e==0)
 ·refine aX ?_;repeat' (intro h<;>simp only[h,go_sem,go_sem_proc,Ll,b2,cp,G,eB,aH,fm,cZ]<;>try refine ax ?_ ?_)
 ·have jY:e=0:=by simpa using G
  subst jY;rcases I:(aC==0)
  ·refine aX ?_;repeat' (intro h<;>simp only[h,go_sem,go_sem_proc,Ll,b2,cp,G,I,eB,aH,fm,cZ]<;>try refine ax ?_ ?_)
  ·have k6:aC=0:=by simpa using I
   subst k6;refine aX ?_;repeat' (intro h<;>simp only[h,go_sem,go_sem_proc,Ll,b2,cp,G,eB,aH,fm,cZ]<;>try refine ax ?_ ?_)
def vP (a b:bc):bc×Int:=if ef a=true then (if ef b=true then vO (xf a.1 b.2 b.1 a.2) (mulR a.2 b.2) else (fm,1)) else (fm,1)
def py (a b:bc):bc×Int:=if ef a=true then (if ef b=true then vP a (jX b.1,b.2) else (fm,1)) else (fm,1)
def od (a b:bc):bc×Int:=if ef a=true then (if ef b=true then vO (mulR a.1 b.1) (mulR a.2 b.2) else (fm,1)) else (fm,1)
def jZ (a b:bc):bc×Int:=if ef a=true then (if ef b=true then (if (b.1.1==0)=true then (fm,15) else vO (mulR a.1 b.2) (mulR a.2 b.1)) else (fm,1)) else (fm,1)
theorem atJ (a:Raw)(h:a.2.length<=1000000):(jX a).2.length<=1000000:=by
 unfold jX
 split
 ·rename_i ab;obtain⟨z,aW,e⟩:=(jV _).1 ab;rw[e,fO];exact nB (by omega)
 ·simp
abbrev yP:Int×(List Int)×Int×(List Int)×Int×(List Int)×Int×(List Int)->List Data:=λ(s,l,s2,ai,cQ,bM,cV,b5)=>[.agg [.int .i64 s,.Y (l.map ae),.int .i64 s2,.Y (ai.map ae)],.agg [.int .i64 cQ,.Y (bM.map ae),.int .i64 cV,.Y (b5.map ae)]]
def yQ:=cj yP λ(s,l,s2,ai,cQ,bM,cV,b5)=>cM (D l<=1000000/\D ai<=1000000/\D bM<=1000000/\D b5<=1000000) (.same (eB (vP ((s,l),(s2,ai)) ((cQ,bM),(cV,b5)))))
theorem Cj:∀a b,yP a=yP b->a=b:=by
  rintro⟨s1,ei,Ca,Cb,aty,atz,atA,atB⟩ ⟨s2,ai,Cc,Cd,atC,atD,atE,atF⟩ h;simp only[a3,Data.agg.injEq,Data.int.injEq,Data.Y.injEq] at h;exact dS h.1.1.2 (dS (map_inj e9 _ _ h.1.2.1) (dS h.1.2.2.1.2 (dS (map_inj e9 _ _ h.1.2.2.2.1) (dS h.2.1.1.2 (dS (map_inj e9 _ _ h.2.1.2.1) (dS h.2.1.2.2.1.2 (map_inj e9 _ _ h.2.1.2.2.2.1)))))))
@[go_sem] theorem ags (s:Int)(l:List Int)(s2:Int)(ai:List Int)(cQ:Int)(bM:List Int)(cV:Int)(b5:List Int)(H:(D l)<=1000000/\D ai<=1000000/\D bM<=1000000/\D b5<=1000000):yQ [.agg [.int .i64 s,.Y (l.map ae),.int .i64 s2,.Y (ai.map ae)],.agg [.int .i64 cQ,.Y (bM.map ae),.int .i64 cV,.Y (b5.map ae)]]=some (.same (eB (vP ((s,l),(s2,ai)) ((cQ,bM),(cV,b5))))):=(ct Cj (s,l,s2,ai,cQ,bM,cV,b5)).trans (cR H _)
theorem atK (T:bb)(fE:T l3=aU vN)(W3:T Ut=aU W0)(qR:T vq=aU Hb)(vQ:T DX=aU Lm)(s:Int)(l:List Int)(s2:Int)(ai:List Int)(cQ:Int)(bM:List Int)(cV:Int)(b5:List Int)(H:(D l)<=1000000/\D ai<=1000000/\D bM<=1000000/\D b5<=1000000):WP T WL (.same (eB (vP ((s,l),(s2,ai)) ((cQ,bM),(cV,b5))))) [.J (.agg [.int .i64 s,.Y (l.map ae),.int .i64 s2,.Y (ai.map ae)]),.J (.agg [.int .i64 cQ,.Y (bM.map ae),.int .i64 cV,.Y (b5.map ae)])]:=by
 refine cu ?_;simp only[WL];obtain⟨b2,cp,hO,jn⟩:=H;unfold vP
 by_cases ab:ef ((s,l),(s2,ai))=true
 ·by_cases bB:ef ((cQ,bM),(cV,b5))=true
  ·have dO:=atw (s,l) (cV,b5) (cQ,bM) (s2,ai);have cJ:=EE (s2,ai) (cV,b5);rw[ad ab,ad bB];dsimp only;generalize uf:xf (s,l) (cV,b5) (cQ,bM) (s2,ai)=M1 at *;generalize hb:mulR (s2,ai) (cV,b5)=M2 at *;obtain⟨⟨cW,de⟩,ay⟩:=M1;obtain⟨⟨dh,eH⟩,aC⟩:=M2;refine aX ?_;repeat' (intro h<;>simp only[h,go_sem,go_sem_proc,fE,W3,qR,vQ,b2,cp,hO,jn,ab,bB,uf,hb,dO,cJ,fP,da,eB,aH]<;>try refine ax ?_ ?_)
  ·have bB:ef ((cQ,bM),(cV,b5))=false:=by simpa using bB
   rw[ad ab,ah (by simp[bB])];refine aX ?_;repeat' (intro h<;>simp only[h,go_sem,go_sem_proc,fE,W3,qR,vQ,b2,cp,hO,jn,ab,bB,eB,aH,fm,cZ]<;>try refine ax ?_ ?_)
 ·have ab:ef ((s,l),(s2,ai))=false:=by simpa using ab
  rw[ah (by simp[ab])];refine aX ?_;repeat' (intro h<;>simp only[h,go_sem,go_sem_proc,fE,W3,qR,vQ,b2,cp,hO,jn,ab,eB,aH,fm,cZ]<;>try refine ax ?_ ?_)
def Al:=cj yP λ(s,l,s2,ai,cQ,bM,cV,b5)=>cM (D l<=1000000/\D ai<=1000000/\D bM<=1000000/\D b5<=1000000) (.same (eB (py ((s,l),(s2,ai)) ((cQ,bM),(cV,b5)))))
@[go_sem] theorem atL (s:Int)(l:List Int)(s2:Int)(ai:List Int)(cQ:Int)(bM:List Int)(cV:Int)(b5:List Int)(H:(D l)<=1000000/\D ai<=1000000/\D bM<=1000000/\D b5<=1000000):Al [.agg [.int .i64 s,.Y (l.map ae),.int .i64 s2,.Y (ai.map ae)],.agg [.int .i64 cQ,.Y (bM.map ae),.int .i64 cV,.Y (b5.map ae)]]=some (.same (eB (py ((s,l),(s2,ai)) ((cQ,bM),(cV,b5))))):=(ct Cj (s,l,s2,ai,cQ,bM,cV,b5)).trans (cR H _)
theorem atM (T:bb)(fE:T l3=aU vN)(Ak:T Gy=aU PA)(gf:T vp=aU yQ)(s:Int)(l:List Int)(s2:Int)(ai:List Int)(cQ:Int)(bM:List Int)(cV:Int)(b5:List Int)(H:(D l)<=1000000/\D ai<=1000000/\D bM<=1000000/\D b5<=1000000):WP T WN (.same (eB (py ((s,l),(s2,ai)) ((cQ,bM),(cV,b5))))) [.J (.agg [.int .i64 s,.Y (l.map ae),.int .i64 s2,.Y (ai.map ae)]),.J (.agg [.int .i64 cQ,.Y (bM.map ae),.int .i64 cV,.Y (b5.map ae)])]:=by
 refine cu ?_;simp only[WN];obtain⟨b2,cp,hO,jn⟩:=H;unfold py
 by_cases ab:ef ((s,l),(s2,ai))=true
 ·by_cases bB:ef ((cQ,bM),(cV,b5))=true
  ·have dO:=atJ (cQ,bM) hO;rw[ad ab,ad bB];dsimp only;generalize uf:jX (cQ,bM)=M1 at *;obtain⟨cW,de⟩:=M1;refine aX ?_;repeat' (intro h<;>simp only[h,go_sem,go_sem_proc,fE,Ak,gf,b2,cp,hO,jn,ab,bB,uf,dO,fP,da,eB,aH]<;>try refine ax ?_ ?_)
  ·have bB:ef ((cQ,bM),(cV,b5))=false:=by simpa using bB
   rw[ad ab,ah (by simp[bB])];refine aX ?_;repeat' (intro h<;>simp only[h,go_sem,go_sem_proc,fE,Ak,gf,b2,cp,hO,jn,ab,bB,eB,aH,fm,cZ]<;>try refine ax ?_ ?_)
 ·have ab:ef ((s,l),(s2,ai))=false:=by simpa using ab
  rw[ah (by simp[ab])];refine aX ?_;repeat' (intro h<;>simp only[h,go_sem,go_sem_proc,fE,Ak,gf,b2,cp,hO,jn,ab,eB,aH,fm,cZ]<;>try refine ax ?_ ?_)
def xg:=cj yP λ(s,l,s2,ai,cQ,bM,cV,b5)=>cM (D l<=1000000/\D ai<=1000000/\D bM<=1000000/\D b5<=1000000) (.same (eB (od ((s,l),(s2,ai)) ((cQ,bM),(cV,b5)))))
@[go_sem] theorem atN (s:Int)(l:List Int)(s2:Int)(ai:List Int)(cQ:Int)(bM:List Int)(cV:Int)(b5:List Int)(H:(D l)<=1000000/\D ai<=1000000/\D bM<=1000000/\D b5<=1000000):xg [.agg [.int .i64 s,.Y (l.map ae),.int .i64 s2,.Y (ai.map ae)],.agg [.int .i64 cQ,.Y (bM.map ae),.int .i64 cV,.Y (b5.map ae)]]=some (.same (eB (od ((s,l),(s2,ai)) ((cQ,bM),(cV,b5))))):=(ct Cj (s,l,s2,ai,cQ,bM,cV,b5)).trans (cR H _)
theorem atO (T:bb)(fE:T l3=aU vN)(qR:T vq=aU Hb)(vQ:T DX=aU Lm)(s:Int)(l:List Int)(s2:Int)(ai:List Int)(cQ:Int)(bM:List Int)(cV:Int)(b5:List Int)(H:(D l)<=1000000/\D ai<=1000000/\D bM<=1000000/\D b5<=1000000):WP T WO (.same (eB (od ((s,l),(s2,ai)) ((cQ,bM),(cV,b5))))) [.J (.agg [.int .i64 s,.Y (l.map ae),.int .i64 s2,.Y (ai.map ae)]),.J (.agg [.int .i64 cQ,.Y (bM.map ae),.int .i64 cV,.Y (b5.map ae)])]:=by
 refine cu ?_;simp only[WO];obtain⟨b2,cp,hO,jn⟩:=H;unfold od
 by_cases ab:ef ((s,l),(s2,ai))=true
 ·by_cases bB:ef ((cQ,bM),(cV,b5))=true
  ·have dO:=EE (s,l) (cQ,bM);have cJ:=EE (s2,ai) (cV,b5);rw[ad ab,ad bB];dsimp only;generalize uf:mulR (s,l) (cQ,bM)=M1 at *;generalize hb:mulR (s2,ai) (cV,b5)=M2 at *;obtain⟨⟨cW,de⟩,ay⟩:=M1;obtain⟨⟨dh,eH⟩,aC⟩:=M2;refine aX ?_;repeat' (intro h<;>simp only[h,go_sem,go_sem_proc,fE,qR,vQ,b2,cp,hO,jn,ab,bB,uf,hb,dO,cJ,fP,da,eB,aH]<;>try refine ax ?_ ?_)
  ·have bB:ef ((cQ,bM),(cV,b5))=false:=by simpa using bB
   rw[ad ab,ah (by simp[bB])];refine aX ?_;repeat' (intro h<;>simp only[h,go_sem,go_sem_proc,fE,qR,vQ,b2,cp,hO,jn,ab,bB,eB,aH,fm,cZ]<;>try refine ax ?_ ?_)
 ·have ab:ef ((s,l),(s2,ai))=false:=by simpa using ab
  rw[ah (by simp[ab])];refine aX ?_;repeat' (intro h<;>simp only[h,go_sem,go_sem_proc,fE,qR,vQ,b2,cp,hO,jn,ab,eB,aH,fm,cZ]<;>try refine ax ?_ ?_)
def EF:=cj yP λ(s,l,s2,ai,cQ,bM,cV,b5)=>cM (D l<=1000000/\D ai<=1000000/\D bM<=1000000/\D b5<=1000000) (.same (eB (jZ ((s,l),(s2,ai)) ((cQ,bM),(cV,b5)))))
@[go_sem] theorem atP (s:Int)(l:List Int)(s2:Int)(ai:List Int)(cQ:Int)(bM:List Int)(cV:Int)(b5:List Int)(H:(D l)<=1000000/\D ai<=1000000/\D bM<=1000000/\D b5<=1000000):EF [.agg [.int .i64 s,.Y (l.map ae),.int .i64 s2,.Y (ai.map ae)],.agg [.int .i64 cQ,.Y (bM.map ae),.int .i64 cV,.Y (b5.map ae)]]=some (.same (eB (jZ ((s,l),(s2,ai)) ((cQ,bM),(cV,b5))))):=(ct Cj (s,l,s2,ai,cQ,bM,cV,b5)).trans (cR H _)
theorem atQ (T:bb)(fE:T l3=aU vN)(qR:T vq=aU Hb)(vQ:T DX=aU Lm)(s:Int)(l:List Int)(s2:Int)(ai:List Int)(cQ:Int)(bM:List Int)(cV:Int)(b5:List Int)(H:(D l)<=1000000/\D ai<=1000000/\D bM<=1000000/\D b5<=1000000):WP T WV (.same (eB (jZ ((s,l),(s2,ai)) ((cQ,bM),(cV,b5))))) [.J (.agg [.int .i64 s,.Y (l.map ae),.int .i64 s2,.Y (ai.map ae)]),.J (.agg [.int .i64 cQ,.Y (bM.map ae),.int .i64 cV,.Y (b5.map ae)])]:=by
 refine cu ?_;simp only[WV];obtain⟨b2,cp,hO,jn⟩:=H;unfold jZ
 by_cases ab:ef ((s,l),(s2,ai))=true
 ·by_cases bB:ef ((cQ,bM),(cV,b5))=true
  ·rw[ad ab,ad bB];dsimp only;rcases ar:(cQ==0)
   ·have dO:=EE (s,l) (cV,b5);have cJ:=EE (s2,ai) (cQ,bM);rw[ah (by simp)];generalize uf:mulR (s,l) (cV,b5)=M1 at *;generalize hb:mulR (s2,ai) (cQ,bM)=M2 at *;obtain⟨⟨cW,de⟩,ay⟩:=M1;obtain⟨⟨dh,eH⟩,aC⟩:=M2;refine aX ?_;repeat' (intro h<;>simp only[h,go_sem,go_sem_proc,fE,qR,vQ,b2,cp,hO,jn,ab,bB,ar,uf,hb,dO,cJ,fP,da,eB,aH]<;>try refine ax ?_ ?_)
   ·rw[ad rfl];refine aX ?_;repeat' (intro h<;>simp only[h,go_sem,go_sem_proc,fE,qR,vQ,b2,cp,hO,jn,ab,bB,ar,eB,aH,fm,cZ]<;>try refine ax ?_ ?_)
  ·have bB:ef ((cQ,bM),(cV,b5))=false:=by simpa using bB
   rw[ad ab,ah (by simp[bB])];refine aX ?_;repeat' (intro h<;>simp only[h,go_sem,go_sem_proc,fE,qR,vQ,b2,cp,hO,jn,ab,bB,eB,aH,fm,cZ]<;>try refine ax ?_ ?_)
 ·have ab:ef ((s,l),(s2,ai))=false:=by simpa using ab
  rw[ah (by simp[ab])];refine aX ?_;repeat' (intro h<;>simp only[h,go_sem,go_sem_proc,fE,qR,vQ,b2,cp,hO,jn,ab,eB,aH,fm,cZ]<;>try refine ax ?_ ?_)
def xh (c:Bool)(v:Rat):bc×Int:=if c=true then (ao v,0) else (fm,6)
def iJ (z:Int):Bool:=decide (z.natAbs<eb)
def lE (x y:Rat):Bool:=iJ (x.num*y.den)&&(iJ (y.num*x.den)&&(iJ (x.num*y.den+y.num*x.den)&&iJ ((x.den:Int)*y.den)))
def Am (x y:Rat):Bool:=iJ (x.num*y.num)&&iJ ((x.den:Int)*y.den)
def xi (x y:Rat):Bool:=iJ (x.num*y.den)&&iJ ((x.den:Int)*y.num)
theorem Ck {z:Int}(h:iJ z=true):sL z=(bS z,0):=ad (by simpa [iJ] using h)
theorem Cl {z:Int}(h:iJ z=false):sL z=((0,[]),6):=ah (by simpa [iJ] using h)
theorem qS {z:Int}(h:iJ z=true):z.natAbs<eb:=by simpa [iJ] using h
theorem atS {a b c d:Int}(aN:a.natAbs<eb)(ag:b.natAbs<eb)(H:c.natAbs<eb)(aa:d.natAbs<eb):
  xf (bS a) (bS b) (bS c) (bS d)=if (iJ (a*b)&&(iJ (c*d)&&iJ (a*b+c*d)))=true then (bS (a*b+c*d),0) else ((0,[]),6):=by
 unfold xf;rw[B9 aN ag,B9 H aa];rcases G:iJ (a*b)
 ·rw[Cl G];rfl
 ·rw[Ck G];rcases I:iJ (c*d)
  ·rw[Cl I];rfl
  ·rw[Ck I];show sM (bS (a*b)) (bS (c*d))=_;rw[af8 (qS G) (qS I)];rcases af:iJ (a*b+c*d)
   ·rw[Cl af];rfl
   ·rw[Ck af];rfl
theorem W4 (x y:Rat):l7 (x.num*y.den+y.num*x.den) ((x.den:Int)*y.den)=x+y:=by
 rw[<-Rat.divInt_add_divInt _ _ (by have:=den_pos x;omega) (by have:=den_pos y;omega),Ey,Ey]
theorem W5 (x y:Rat):l7 (x.num*y.num) ((x.den:Int)*y.den)=x*y:=by
 rw[<-agt,Ey,Ey]
theorem W6 (x y:Rat):l7 (x.num*y.den) ((x.den:Int)*y.num)=x/y:=by
 rw[<-agt,Ey,<-Rat.inv_divInt,Ey]
 rfl
theorem xj (x:Rat):(x.den:Int)≠0:=by have:=den_pos x;omega
theorem W7 {x y:Rat}(Q:di x)(av:di y):vP (ao x) (ao y)=xh (lE x y) (x+y):=by
 unfold vP;rw[ad (yN Q),ad (yN av)];show vO (xf (bS x.num) (bS y.den) (bS y.num) (bS x.den)) (mulR (bS x.den) (bS y.den))=_;rw[atS Q.1 (xd av) av.1 (xd Q),B9 (xd Q) (xd av)];unfold lE;rcases G:iJ (x.num*y.den)
 ·rfl
 ·rcases I:iJ (y.num*x.den)
  ·rfl
  ·rcases af:iJ (x.num*y.den+y.num*x.den)
   ·rfl
   ·rcases aS:iJ ((x.den:Int)*y.den)
    ·rw[Cl aS];rfl
    ·rw[Ck aS];show hD (bS (x.num*y.den+y.num*x.den)) (bS ((x.den:Int)*y.den))=(ao (x+y),0)
     rw[Aj (qS af) (qS aS) (An (xj x) (xj y)),W4]
theorem atT {x:Rat}(h:di x):di (-x):=⟨by rw[Rat.neg_num];have:=h.1;omega,by rw[Rat.neg_den];exact h.2⟩
theorem PU {x y:Rat}(Q:di x)(av:di y):py (ao x) (ao y)=xh (lE x (-y)) (x-y):=by
 unfold py;rw[ad (yN Q),ad (yN av)]
 have:(jX (ao y).1,(ao y).2)=ao (-y):=by
  unfold ao;have:jX (bS y.num)=bS (-y.num):=by unfold jX;rw[ad (k5 av.1),fO]
  dsimp only;rw[this];rfl
 rw[this,W7 Q (atT av),Ln]
theorem W8 {x y:Rat}(Q:di x)(av:di y):od (ao x) (ao y)=xh (Am x y) (x*y):=by
 unfold od;rw[ad (yN Q),ad (yN av)];show vO (mulR (bS x.num) (bS y.num)) (mulR (bS x.den) (bS y.den))=_;rw[B9 Q.1 av.1,B9 (xd Q) (xd av)];unfold Am;rcases G:iJ (x.num*y.num)
 ·rw[Cl G];rfl
 ·rw[Ck G];rcases aS:iJ ((x.den:Int)*y.den)
  ·rw[Cl aS];rfl
  ·rw[Ck aS];show hD (bS (x.num*y.num)) (bS ((x.den:Int)*y.den))=(ao (x*y),0)
   rw[Aj (qS G) (qS aS) (An (xj x) (xj y)),W5]
theorem PV {x y:Rat}(Q:di x)(av:di y)(ar:y≠0):jZ (ao x) (ao y)=xh (xi x y) (x/y):=by
 unfold jZ;rw[ad (yN Q),ad (yN av)];have aK:y.num≠0:=λh=>ar (Rat.num_eq_zero.1 h)
 have:((ao y).1.1==0)=false:=by
  show (y.num.sign==0)=false
  simpa using aK
 rw[this,ah (by simp)];show vO (mulR (bS x.num) (bS y.den)) (mulR (bS x.den) (bS y.num))=_;rw[B9 Q.1 (xd av),B9 (xd Q) av.1];unfold xi;rcases G:iJ (x.num*y.den)
 ·rw[Cl G];rfl
 ·rw[Ck G];rcases aS:iJ ((x.den:Int)*y.num)
  ·rw[Cl aS];rfl
  ·rw[Ck aS];show hD (bS (x.num*y.den)) (bS ((x.den:Int)*y.num))=(ao (x/y),0)
   rw[Aj (qS G) (qS aS) (An (xj x) aK),W6]
theorem atU {x y:Rat}(h:lE x y=true):di (x+y):=by
 unfold lE at h;simp only[eW] at h;rw[<-W4];exact PS (qS h.2.2.1) (qS h.2.2.2)
theorem agu {x y:Rat}(h:lE x (-y)=true):di (x-y):=by rw[Ln];exact atU h
theorem agv {x y:Rat}(h:Am x y=true):di (x*y):=by
 unfold Am at h;simp only[eW] at h;rw[<-W5];exact PS (qS h.1) (qS h.2)
theorem atV {x y:Rat}(h:xi x y=true):di (x/y):=by
 unfold xi at h;simp only[eW] at h;rw[<-W6];exact PS (qS h.1) (qS h.2)
def l8 (x y:Rat):Int:=(x.num*y.den-y.num*x.den).sign
def lF (a b:bc):Int:=if ef a=true then (if ef b=true then (iA a.1*iA b.2-iA b.1*iA a.2).sign else 0) else 0
theorem PW {x y:Rat}(Q:di x)(av:di y):lF (ao x) (ao y)=l8 x y:=by
 unfold lF;rw[ad (yN Q),ad (yN av)];unfold ao l8;rw[fO,fO,fO,fO]
theorem agw {x y:Rat}:l8 x y=0↔x=y:=by
 unfold l8;rw[WB,Rat.eq_iff_mul_eq_mul];omega
theorem PX {p q:Int}(hq:0<q):0<=p.fmod q/\p.fmod q<q:=⟨Int.fmod_nonneg_of_pos _ hq,Int.fmod_lt_of_pos _ hq⟩
theorem agx {p q r s:Int}(hq:0<q)(X:0<s)(h:p.fdiv q<r.fdiv s):p*s-r*q<0:=by
 have ay:=PY p q;have aC:=PY r s;have dh:=PX (p:=p) hq;have eH:=PX (p:=r) X;generalize p.fdiv q=x at *;generalize r.fdiv s=y at *;generalize p.fmod q=u at *;generalize r.fmod s=v at *;subst ay aC;have G:q*s*(x+1)<=q*s*y:=Int.mul_le_mul_of_nonneg_left (by omega) (PM (Int.mul_pos hq X));have I:u*s<q*s:=Int.mul_lt_mul_of_pos_right dh.2 X;have af:0<=v*q:=yA eH.1 (by omega);have cg:(q*x+u)*s-(s*y+v)*q=q*s*(x+1)-q*s*y+(u*s-q*s)-v*q:=by grind
 omega
theorem atW {p q r s:Int}(h:p.fdiv q=r.fdiv s):p*s-r*q=p.fmod q*s-r.fmod s*q:=by
 have ay:=PY p q;have aC:=PY r s;rw[h] at ay;generalize r.fdiv s=y at *;generalize p.fmod q=u at *;generalize r.fmod s=v at *;subst ay aC;grind
theorem agy (a b:Int):(a-b).sign = -(b-a).sign:=by rw[<-Eo];congr 1;omega
theorem agz {p q:Int}(aE:p.natAbs<eb)(hq:q.natAbs<eb)(ar:0<q):
  kC (p.sign,aL p.natAbs) (q.sign,aL q.natAbs)=(((p.fdiv q).sign,aL (p.fdiv q).natAbs),((p.fmod q).sign,aL (p.fmod q).natAbs),0):=Ep aE hq (by omega)
def rS:=cj yP λ(s,l,s2,ai,cQ,bM,cV,b5)=>cM (D l<=1000000/\D ai<=1000000/\D bM<=1000000/\D b5<=1000000) (.same (.int .i64 (lF ((s,l),(s2,ai)) ((cQ,bM),(cV,b5)))))
@[go_sem] theorem agA (s:Int)(l:List Int)(s2:Int)(ai:List Int)(cQ:Int)(bM:List Int)(cV:Int)(b5:List Int)(H:(D l)<=1000000/\D ai<=1000000/\D bM<=1000000/\D b5<=1000000):rS [.agg [.int .i64 s,.Y (l.map ae),.int .i64 s2,.Y (ai.map ae)],.agg [.int .i64 cQ,.Y (bM.map ae),.int .i64 cV,.Y (b5.map ae)]]=some (.same (.int .i64 (lF ((s,l),(s2,ai)) ((cQ,bM),(cV,b5))))):=(ct Cj (s,l,s2,ai,cQ,bM,cV,b5)).trans (cR H _)
theorem atX (T:bb)(fE:T l3=aU vN)(qP:T DY=aU PJ)(yR:T Uz=aU Ww)(s:Int)(l:List Int)(s2:Int)(ai:List Int)(cQ:Int)(bM:List Int)(cV:Int)(b5:List Int)(H:(D l)<=1000000/\D ai<=1000000/\D bM<=1000000/\D b5<=1000000):WP T WQ (.same (.int .i64 (lF ((s,l),(s2,ai)) ((cQ,bM),(cV,b5))))) [.J (.agg [.int .i64 s,.Y (l.map ae),.int .i64 s2,.Y (ai.map ae)]),.J (.agg [.int .i64 cQ,.Y (bM.map ae),.int .i64 cV,.Y (b5.map ae)])]:=by
 refine cu ?_;simp only[WQ];obtain⟨b2,cp,hO,jn⟩:=H
 by_cases ab:ef ((s,l),(s2,ai))=true
 ·by_cases bB:ef ((cQ,bM),(cV,b5))=true
  ·obtain⟨x,Q,e⟩:=(Lj _).1 ab;obtain⟨y,av,aC⟩:=(Lj _).1 bB;have hm:lF ((s,l),(s2,ai)) ((cQ,bM),(cV,b5))=l8 x y:=by rw[e,aC,PW Q av]
   rw[hm];clear hm;have atY:(s,l)=bS x.num:=congrArg Ci e;have W9:(s2,ai)=bS x.den:=congrArg Prod.snd e;have Xa:(cQ,bM)=bS y.num:=congrArg Ci aC;have atZ:(cV,b5)=bS y.den:=congrArg Prod.snd aC;clear e aC;have Hf:=xd Q;have Lo:=xd av;have rT:=den_pos x;have iV:=den_pos y;have at0:=Q.1;have TL:=av.1;unfold l8;generalize x.num=P at *;generalize (x.den:Int)=aM at *;generalize y.num=bL at *;generalize (y.den:Int)=S at *
   cases atY
   cases W9
   cases Xa
   cases atZ;simp only[go_sem,go_sem_proc,fE,qP,yR,b2,cp,hO,jn,ab,bB];refine dd [5,6,7,8] [135002,135003] (λ((sP,p,q,r,t):Int×Int×Int×Int×Int) tm mem=>(sP=1\/sP = -1)/\0<q/\0<t/\p.natAbs<eb/\q.natAbs<eb/\r.natAbs<eb/\t.natAbs<eb/\(P*S-bL*aM).sign=sP*(p*t-r*q).sign/\tm 9=.J (.int .i64 sP)/\mem 135005=some (0,[.J (.int .i64 p.sign),.J (.Y ((aL p.natAbs).map ae))])/\mem 135006=some (0,[.J (.int .i64 q.sign),.J (.Y ((aL q.natAbs).map ae))])/\mem 135007=some (0,[.J (.int .i64 r.sign),.J (.Y ((aL r.natAbs).map ae))])/\mem 135008=some (0,[.J (.int .i64 t.sign),.J (.Y ((aL t.natAbs).map ae))])) (λ(_,_,q,_,_)=>q.natAbs) (1,P,aM,bL,S) (by refine⟨.inl rfl,rT,iV,at0,Hf,TL,Lo,by rw[n8],rfl,?_,?_,?_,?_⟩<;>rfl) ?_;intro vs ms aP aO;simp only[go_sem,go_sem_proc,fE,qP,yR] at aP aO;subst aP aO;rintro⟨sP,p,q,r,t⟩ tm mem O hm ⟨PZ,mD,Lp,aE,hq,Ao,bz,hU,iS,Lq,Lr,k7,mL⟩;simp only[go_sem,go_sem_proc,fE,qP,yR,a3] at O hm;obtain⟨bm,bV,bQ,ca⟩:=O;have Ls:=nB aE;have Lt:=nB hq;have Cm:=nB Ao;have lt:=nB bz;have jT:=agz aE hq mD;have mE:=agz Ao bz Lp;have agB:=Hd (y:=q) aE (by omega);have Lu:=Hd (y:=t) Ao (by omega);have Hg:=nB agB;have Lv:=nB Lu;have gh:w9 ((p.fdiv q).sign,aL (p.fdiv q).natAbs) ((r.fdiv t).sign,aL (r.fdiv t).natAbs)=hL (p.fdiv q) (r.fdiv t):=af9 agB Lu;have aLi:=PX (p:=p) mD;have bv:=PX (p:=r) Lp;have at1:IntKind.i64.wrap (0-sP) = -sP:=by rcases PZ with rfl|rfl<;>rfl
   rcases yD (p.fdiv q) (r.fdiv t) with az|heq|iR
   ·have aq:=agx mD Lp az;rw[Lb az] at gh;rw[hU,rO aq];have hw:IntKind.i64.wrap (sP * -1)=sP * -1:=by rcases PZ with rfl|rfl<;>rfl
    refine aX ?_;repeat' (intro h<;>simp only[h,go_sem,go_sem_proc,fE,qP,yR,bm,bV,bQ,ca,iS,hm,Lq,Lr,k7,mL,Ls,Lt,Cm,lt,Hg,Lv,jT,mE,gh,hw,hr,da,show ((-1:Int)==0)=false from rfl]<;>try refine ax ?_ ?_)
   ·have aq:=atW heq;rw[heq,PC] at gh
    have fy:∀a:Int,-1<=a->a<=1->IntKind.i64.wrap (sP*a)=sP*a:=by
     intro a G I;rcases PZ with rfl|rfl<;>exact wrap64 _ (by omega) (by omega)
    rw[heq] at jT Hg;have aLj:(p.fmod q).natAbs<eb:=by omega
    have aLk:(r.fmod t).natAbs<eb:=by omega
    rw[aq] at hU;generalize p.fmod q=u at *;generalize r.fmod t=v at *
    by_cases hu:u=0
    ·subst hu
     have X:(0*t-v*q).sign=(0:Int).sign-v.sign:=by
      rw[Ag,agC,Eo,sN,jW mD,vA,yS,agC]
     rw[X] at hU;rw[hU];have af:=rQ v;have B6:IntKind.i64.wrap ((0:Int).sign-v.sign)=(0:Int).sign-v.sign:=wrap64 _ (by rw[yS];omega) (by rw[yS];omega);have hw:=fy ((0:Int).sign-v.sign) (by rw[yS];omega) (by rw[yS];omega);refine aX ?_;repeat' (intro h<;>simp only[h,go_sem,go_sem_proc,fE,qP,yR,bm,bV,bQ,ca,iS,hm,Lq,Lr,k7,mL,Ls,Lt,Cm,lt,Hg,Lv,jT,mE,gh,hw,B6,hr,da,show ((0:Int)==0)=true from rfl,show ((0:Int).sign==0)=true from rfl]<;>try refine ax ?_ ?_)
    ·have Ew:0<u:=by omega
     have Xb:(u.sign==0)=false:=by simpa using hu
     by_cases Gg:v=0
     ·subst Gg
      have X:(u*t-0*q).sign=u.sign-(0:Int).sign:=by
       rw[Ag,KZ,sN,jW Lp,vA,yS,KZ]
      rw[X] at hU;rw[hU];have af:=rQ u;have B6:IntKind.i64.wrap (u.sign-(0:Int).sign)=u.sign-(0:Int).sign:=wrap64 _ (by rw[yS];omega) (by rw[yS];omega);have hw:=fy (u.sign-(0:Int).sign) (by rw[yS];omega) (by rw[yS];omega);refine aX ?_;repeat' (intro h<;>simp only[h,go_sem,go_sem_proc,fE,qP,yR,bm,bV,bQ,ca,iS,hm,Lq,Lr,k7,mL,Ls,Lt,Cm,lt,Hg,Lv,jT,mE,gh,hw,B6,Xb,hr,da,show ((0:Int)==0)=true from rfl,show ((0:Int).sign==0)=true from rfl]<;>try refine ax ?_ ?_)
     ·have oL:(v.sign==0)=false:=by simpa using Gg
      refine aX ?_;repeat' (intro h<;>simp only[h,go_sem,go_sem_proc,fE,qP,yR,bm,bV,bQ,ca,iS,hm,Lq,Lr,k7,mL,Ls,Lt,Cm,lt,Hg,Lv,jT,mE,gh,Xb,oL,at1,hr,da,show ((0:Int)==0)=true from rfl]<;>try refine ax ?_ ?_)
      refine⟨(-sP,q,u,t,v),by dsimp only;omega,by dsimp only;omega,by dsimp only;omega,by dsimp only;omega,by dsimp only;omega,by dsimp only;omega,by dsimp only;omega,by dsimp only;omega,?_,by simp[go_sem],by simp[go_sem],by simp[go_sem],by simp[go_sem],by simp[go_sem]⟩
      dsimp only;rw[hU,agy (q*v) (t*u),Int.neg_mul_neg,nv t u,nv q v]
   ·have aq:=agx Lp mD iR;rw[Lc iR] at gh;rw[hU,agy,rO aq];have hw:IntKind.i64.wrap (sP*1)=sP * -(-1):=by rcases PZ with rfl|rfl<;>rfl
    refine aX ?_;repeat' (intro h<;>simp only[h,go_sem,go_sem_proc,fE,qP,yR,bm,bV,bQ,ca,iS,hm,Lq,Lr,k7,mL,Ls,Lt,Cm,lt,Hg,Lv,jT,mE,gh,hw,hr,da,show ((1:Int)==0)=false from rfl]<;>try refine ax ?_ ?_)
  ·have bB:ef ((cQ,bM),(cV,b5))=false:=by simpa using bB
   have hm:lF ((s,l),(s2,ai)) ((cQ,bM),(cV,b5))=0:=by unfold lF;rw[ad ab,ah (by simp[bB])]
   rw[hm];refine aX ?_;repeat' (intro h<;>simp only[h,go_sem,go_sem_proc,fE,qP,yR,b2,cp,hO,jn,ab,bB]<;>try refine ax ?_ ?_)
 ·have ab:ef ((s,l),(s2,ai))=false:=by simpa using ab
  have hm:lF ((s,l),(s2,ai)) ((cQ,bM),(cV,b5))=0:=by unfold lF;rw[ah (by simp[ab])]
  rw[hm];refine aX ?_;repeat' (intro h<;>simp only[h,go_sem,go_sem_proc,fE,qP,yR,b2,cp,hO,jn,ab]<;>try refine ax ?_ ?_)
def Xc:bP:=b8 22 2 [.t 4] (U [dL 3 108003 1,cA 4 false] (.seq (U [aV 6 1 3,a5 7 .lss 6 0,F 8 7,⟨some 9,some (8,false),.load 1 false (.t 3)⟩,⟨some 10,some (8,false),.bin .gtr (.t 9) (.c (al 40))⟩,eh 11 8 10,F 12 11,⟨some 13,some (12,false),.cm (.t 0)⟩,⟨some 14,some (12,false),.len (.t 13)⟩,⟨some 15,some (12,false),.load 1 false (.t 3)⟩,⟨some 16,some (12,false),.bin .neq (.t 14) (.t 15)⟩,eh 17 12 16] (aY 17 (U [cA 4 false] .ret) .skip)) (U [(aD 5 (.alloc 108005 [(.J .u3)])),⟨none,none,.store 1 (.t 5) (.c (.fz oT []))⟩] (U [F 18 0,(aD 19 (.pN BJ [(.t 3),(.t 5)])),(cv 20 Up 18 19),fh 21 20,F 4 21] .ret))))
def Xd:bP:=b8 48 2 [.t 4,.t 5] (U [eo 4,br 5 0] (.seq (U [F 11 0,F 12 1,(cv 13 Um 11 12),fh 14 13] (aY 14 (U [eo 4,br 5 1] .ret) .skip)) (U [F 16 0,F 17 1,(aD 18 (.call Uq [(.t 16),(.t 17),(.c (.J (.bool true)))])),F 15 18,bA 19 0 15,bA 20 1 15,F 6 19,F 7 20] (.seq (.block 0 (U [F 22 6,hh 23 22,bf 24 2 23,aV 25 1 24,F 21 25] (aY 21 (U [eo 4,br 5 6] .ret) (U [F 27 7,b6 28 27,a5 29 .gtr 28 0,F 26 29] (aY 26 (U [eo 4,br 5 17] .ret) .skip))))) (U [eo 8] (.seq (U [F 30 6,hh 31 30,bf 32 0 31,aV 33 1 32,b6 34 33,br 35 0] (.block 1 (.ghost (.nj 8 109045 4) (.loop  (U [bo 36 .lss 35 34] (.seq (aY 36 .skip (.exit 1)) (.seq (.block 2 (U [bH 37 1 33 35,aV 38 1 37,F 10 38] (.ops [F 39 8,F 40 10,F 41 1,bH 42 4 40 41,bn 43 4 42,(aD 44 (.e0 109044 false [(al 0),.nil,(al 0),.nil] 4 1 [(0,4,(.t 43))])),(aD 45 (.app 109045 [(al 0),.nil,(al 0),.nil] 64 (.t 39) (.t 44))),F 8 45]))) (.ops [a5 46 .add 35 1,F 35 46])))))))) (U [F 47 8,F 4 47,br 5 0] .ret)))))))
def Xe:bP:=b8 6 1 [.t 2] (U [dL 1 125001 0,cA 2 false] (U [bn 3 4 1,(dQ 4 l3 3),fh 5 4,F 2 5] .ret))
def Xf:bP:=b8 22 3 [.t 4] (U [dL 3 127003 0,cA 4 false] (U [bf 5 0 3,aV 6 1 5,b6 7 6,aV 8 1 1,bo 9 .neq 7 8,F 10 9,⟨some 11,some (10,false),.load 1 false (.t 2)⟩,⟨some 12,some (10,false),.dY 1 (.t 3)⟩,⟨some 13,some (10,false),.load 4 true (.t 12)⟩,⟨some 14,some (10,false),.jE (.t 11) [(.t 13)]⟩,eh 15 10 14,F 16 15,⟨some 17,some (16,false),.dY 0 (.t 3)⟩,⟨some 18,some (16,false),.load 1 false (.t 17)⟩,⟨some 19,some (16,false),.load 1 false (.t 2)⟩,⟨some 20,some (16,false),.call Kw [(.t 18),(.t 19)]⟩,eh 21 16 20,F 4 21] .ret))
def Lw:bP:=b8 65 3 [.t 6,.t 7] (U [(aD 6 (.cm (.c (.J .u2)))),eo 7] (U [F 13 1,(aD 14 (.build [.nil,(al 0),(.J (.bool false))] [(1,1,(.t 13))])),dL 15 129015 14,F 8 15] (.seq (U [F 16 0,b6 17 16,br 18 0] (.block 0 (.loop  (U [bo 19 .lss 18 17] (.seq (aY 19 .skip (.exit 0)) (.seq (.block 1 (U [bH 20 5 16 18,bn 21 5 20,(aD 10 (.alloc 129010 [.nil,(al 0),.nil,(al 0),.nil])),bp 5 10 21] (.mY [F 22 8,F 23 8,hh 24 23,bf 25 0 24,aV 26 1 25,bf 27 0 10,aV 28 1 27,(aD 29 (.oI 129029 4 OG [(.t 28)])),bf 30 1 10,bn 31 4 30,(aD 32 (.e0 129032 false [(al 0),.nil,(al 0),.nil] 4 1 [(0,4,(.t 31))])),(aD 33 (.app 129033 [(al 0),.nil,(al 0),.nil] 64 (.t 29) (.t 32))),(aD 34 (.e0 129034 true [.nil] 1 1 [(0,1,(.t 33))])),(aD 35 (.app 129035 [.nil] 24 (.t 26) (.t 34))),hh 36 22,bf 37 0 36,bp 1 37 35] [[],[],[],[],[],[],[],[4],[],[7],[],[4],[4],[],[],[],[]]))) (.ghost (.move) (.ops [a5 38 .add 18 1,F 18 38])))))))) (U [eo 11] (.seq (U [br 12 0] (.block 2 (.ghost (.nj 11 129061 1) (.loop  (.seq (U [F 39 12,F 40 1,bo 41 .lss 39 40,F 42 41,⟨some 43,some (42,true),.cm (.t 8)⟩,⟨some 44,some (42,true),.si (.t 43)⟩,⟨some 45,some (42,true),.dY 2 (.t 44)⟩,⟨some 46,some (42,true),.load 1 false (.t 45)⟩,⟨some 47,some (42,true),.un .not (.t 46)⟩,fN 48 42 47] (aY 48 .skip (.exit 2))) (.seq (.block 3 (U [F 51 8,F 52 12,F 53 11,b6 54 53,bo 55 .sub 52 54,F 56 12,(tW 57 Ux 51 55 56)] (aY 57 (U [F 58 11,F 59 12,(aD 60 (.e0 129060 false [(al 0)] 1 1 [(0,1,(.t 59))])),(aD 61 (.app 129061 [(al 0)] 8 (.t 58) (.t 60))),F 11 61] (U [F 62 2] (aY 62 (.exit 2) .skip))) .skip))) (.ops [F 49 12,a5 50 .add 49 1,F 12 50]))))))) (U [F 63 8,F 64 11,F 6 63,F 7 64] .ret))))))
def yT:bP:=b8 172 3 [.t 6] (U [cA 6 false] (U [F 15 1,F 7 15] (.seq (.block 0 (.loop  (.seq (U [F 16 7,F 17 0,hh 18 17,bf 19 1 18,aV 20 1 19,bo 21 .lss 16 20,F 22 21,⟨some 23,some (22,true),.cm (.t 0)⟩,⟨some 24,some (22,true),.si (.t 23)⟩,⟨some 25,some (22,true),.dY 0 (.t 24)⟩,⟨some 26,some (22,true),.load 1 false (.t 25)⟩,⟨some 27,some (22,true),.cm (.t 7)⟩,⟨some 28,some (22,true),.kO 1 (.t 26) (.t 27)⟩,⟨some 29,some (22,true),.load 1 false (.t 28)⟩,⟨some 30,some (22,true),.cm (.t 2)⟩,⟨some 31,some (22,true),.kO 4 (.t 29) (.t 30)⟩,⟨some 32,some (22,true),.load 4 true (.t 31)⟩,⟨some 33,some (22,true),.call KA [(.t 32)]⟩,fN 34 22 33] (aY 34 .skip (.exit 0))) (.block 1 (.ops [F 35 7,a5 36 .add 35 1,F 7 36]))))) (.seq (U [F 37 7,F 38 0,hh 39 38,bf 40 1 39,aV 41 1 40,bo 42 .eql 37 41] (aY 42 (U [cA 6 true] .ret) .skip)) (fD [F 43 0,hh 44 43,bf 45 0 44,aV 46 1 45,F 47 1,F 48 0,hh 49 48,bf 50 0 49,aV 51 1 50,F 52 7,F 53 0,hh 54 53,bf 55 0 54,aV 56 1 55,F 57 7,bH 58 1 56 57,aV 59 1 58,F 60 0,hh 61 60,bf 62 0 61,aV 63 1 62,F 64 1,bH 65 1 63 64,aV 66 1 65,bH 67 1 46 47,bp 1 67 59,bH 68 1 51 52,bp 1 68 66] arP (U [F 69 0,hh 70 69,bf 71 0 70,aV 72 1 71,F 73 1,bH 74 1 72 73,aV 75 1 74,F 76 2,bH 77 4 75 76,bn 78 4 77,(aD 8 (.alloc 148008 [(al 0),.nil,(al 0),.nil])),bp 4 8 78] (.seq (U [F 79 0,hh 80 79,bf 81 0 80,aV 82 1 81,F 83 1,bH 84 1 82 83,aV 85 1 84,b6 86 85,br 87 0] (.block 2 (.loop  (U [bo 88 .lss 87 86] (.seq (aY 88 .skip (.exit 2)) (.seq (.block 3 (U [F 89 87,bH 90 4 85 87,bn 91 4 90,(aD 10 (.alloc 148010 [(al 0),.nil,(al 0),.nil])),F 9 89,bp 4 10 91] (.mY [F 92 0,hh 93 92,bf 94 0 93,aV 95 1 94,F 96 1,bH 97 1 95 96,aV 98 1 97,F 99 9,F 100 0,bn 101 4 10,bn 102 4 8,(cv 103 DZ 101 102),bA 104 0 103,bA 105 1 103,(aD 106 (.mo 2 BK [(.t 100),(.t 104),(.t 105)])),bH 107 4 98 99,bp 4 107 106] [[],[],[],[],[],[],[],[],[],[],[],[],[],[],[3,6],[],[]]))) (.ops [a5 108 .add 87 1,F 87 108]))))))) (.seq (U [F 109 0,hh 110 109,bf 111 0 110,aV 112 1 111,b6 113 112,br 114 0] (.block 4 (.loop  (U [bo 115 .lss 114 113] (.seq (aY 115 .skip (.exit 4)) (.seq (.block 5 (U [F 116 114,bH 117 1 112 114,aV 118 1 117,F 11 116,F 12 118] (U [F 119 12,F 120 2,bH 121 4 119 120,bn 122 4 121,(aD 13 (.alloc 148013 [(al 0),.nil,(al 0),.nil])),bp 4 13 122] (.seq (U [F 123 11,F 124 1,bo 125 .eql 123 124,F 126 125,⟨some 127,some (126,false),.load 4 true (.t 13)⟩,⟨some 128,some (126,false),.call KA [(.t 127)]⟩,eh 129 126 128] (aY 129 (.exit 5) .skip)) (U [br 14 0] (.block 6 (.loop  (.seq (U [F 130 14,F 131 12,b6 132 131,bo 133 .lss 130 132,F 134 133,⟨some 135,some (134,true),.cm (.t 0)⟩,⟨some 136,some (134,true),.si (.t 135)⟩,⟨some 137,some (134,true),.dY 2 (.t 136)⟩,⟨some 138,some (134,true),.load 1 false (.t 137)⟩,⟨some 139,some (134,true),.un .not (.t 138)⟩,fN 140 134 139] (aY 140 .skip (.exit 6))) (.seq (.block 7 (.mY [F 143 12,F 144 14,F 145 0,F 146 12,F 147 14,bH 148 4 146 147,bn 149 4 148,F 150 0,bn 151 4 13,F 152 0,hh 153 152,bf 154 0 153,aV 155 1 154,F 156 1,bH 157 1 155 156,aV 158 1 157,F 159 14,bH 160 4 158 159,bn 161 4 160,(cv 162 tS 151 161),bA 163 0 162,bA 164 1 162,(aD 165 (.mo 2 BK [(.t 150),(.t 163),(.t 164)])),(cv 166 yv 149 165),bA 167 0 166,bA 168 1 166,(aD 169 (.mo 2 BK [(.t 145),(.t 167),(.t 168)])),bH 170 4 143 144,bp 4 170 169] [[],[],[],[],[],[],[],[],[],[],[],[],[],[],[],[],[],[],[],[],[],[],[6],[],[],[],[],[],[]])) (.ops [F 141 14,a5 142 .add 141 1,F 14 142])))))))))) (.ops [a5 171 .add 114 1,F 114 171]))))))) (U [cA 6 false] .ret)))))))))
def Xg:bP:=b8 7 1 [.t 2] (U [dL 1 167001 0,cA 2 false] (U [bf 3 0 1,bf 4 0 3,aV 5 1 4,a5 6 .eql 5 0,F 2 6] .ret))
def P0:bP:=b8 19 3 [.cell 6 4 true] (U [dL 4 168004 1,(aD 6 (.alloc 168006 [(al 0),.nil,(al 0),.nil]))] (U [F 7 0,F 8 0,hh 9 8,bf 10 2 9,aV 11 1 10,F 12 11,⟨some 13,some (12,false),.cm (.t 2)⟩,⟨some 14,some (12,false),.bin .neq (.t 13) (.c (al 0))⟩,eh 15 12 14,hh 16 7,bf 17 2 16,bp 1 17 15] (U [bn 18 4 4,bp 4 6 18] .ret)))
def EG:bP:=b8 92 2 [.cell 4 3 true,.t 5] (U [(aD 4 (.alloc 217004 [.nil,.nil,.nil])),br 5 0] (.seq (U [F 15 0,F 16 1,(cv 17 UJ 15 16),fh 18 17] (aY 18 (U [(aD 19 (.build [.nil,.nil,.nil] [])),bp 3 4 19,br 5 1] .ret) .skip)) (U [F 20 0,F 21 1,(cv 22 UK 20 21),F 6 22] (U [(aD 7 (.alloc 217007 [.nil,.nil,.nil]))] (.seq (.block 0 (.loop  (.block 1 (U [F 24 6,(dQ 25 OM 24),F 23 25,bA 26 0 23,bA 27 1 23,(aD 8 (.alloc 217008 [.nil])),bp 1 8 26,F 9 27] (.seq (U [F 28 9,fh 29 28] (aY 29 (U [(aD 30 (.build [.nil,.nil,.nil] [])),bp 3 4 30,br 5 6] .ret) .skip)) (U [eo 10] (.seq (U [F 31 6,b6 32 31,br 33 0] (.block 2 (.ghost (.nj 10 217057 1) (.loop  (U [bo 34 .lss 33 32] (.seq (aY 34 .skip (.exit 2)) (.seq (.block 3 (U [F 35 33,bH 36 1 31 33,aV 37 1 36,(aD 11 (.alloc 217011 [(al 0)])),bp 1 11 35,F 12 37] (.seq (fD [aV 38 1 8,aV 39 1 11,bH 40 4 38 39,bn 41 4 40,F 42 12,F 43 12,hh 44 43,bf 45 22 44,aV 46 1 45,hh 47 42,bf 48 11 47,(aD 49 (.pd 11 1 (.t 48) (.t 46))),aV 50 1 49,(dQ 51 pt 50),(cv 52 m7 41 51),a5 53 .geq 52 0] OS (aY 53 (.exit 3) .skip)) (U [F 54 10,aV 55 1 11,(aD 56 (.e0 217056 false [(al 0)] 1 1 [(0,1,(.t 55))])),(aD 57 (.app 217057 [(al 0)] 8 (.t 54) (.t 56))),F 10 57] (.ops [F 58 12,F 59 12,hh 60 59,bf 61 11 60,(aD 62 (.ts 11 1 (.t 61) (some (.c (al 1))) none none)),(aD 63 (.pN D4 [(.t 8),(.t 11)])),(cv 64 wR 62 63),hh 65 58,bf 66 22 65,bp 1 66 64]))))) (.ops [a5 67 .add 33 1,F 33 67])))))))) (.seq (U [F 68 10,b6 69 68,a5 70 .eql 69 0] (aY 70 (U [aV 71 1 8,bf 72 0 7,bp 1 72 71] (.exit 0)) .skip)) (.ghost (.freeze 10) (.ops [bf 73 2 7,aV 74 1 73,F 75 10,(aD 76 (.e0 217076 false [.nil] 1 1 [(0,1,(.t 75))])),(aD 77 (.app 217077 [.nil] 24 (.t 74) (.t 76))),bf 78 2 7,bp 1 78 77])))))))))) (.seq (.ghost (.many) (.ops [F 80 1,bf 81 0 7,aV 82 1 81,(cv 83 UL 80 82),F 79 83,bA 84 0 79,bA 85 1 79,F 13 84,F 14 85])) (.seq (U [F 86 14,fh 87 86] (aY 87 (U [(aD 88 (.build [.nil,.nil,.nil] [])),bp 3 4 88,br 5 6] .ret) .skip)) (U [F 89 13,bf 90 1 7,bp 1 90 89] (U [bn 91 3 7,bp 3 4 91,br 5 0] .ret)))))))))
def Xh:bP:=b8 32 2 [.t 4] (U [cA 4 false] (U [F 9 0,b6 10 9,(aD 5 (.alloc 227005 [(al 0)])),bp 1 5 10] (U [(aD 6 (.alloc 227006 [(.J .u3)])),⟨none,none,.store 1 (.t 6) (.c (.fz vx []))⟩] (U [(aD 11 (.pN KG [(.t 6)])),F 7 11] (U [(aD 12 (.pN KH [(.t 6),(.t 5)])),F 8 12] (U [aV 13 1 5,a5 14 .leq 13 60,F 15 14,⟨some 16,some (15,true),.cm (.t 1)⟩,⟨some 17,some (15,true),.len (.t 16)⟩,⟨some 18,some (15,true),.bin .leq (.t 17) (.c (al 2000))⟩,fN 19 15 18,F 20 19,⟨some 21,some (20,true),.cm (.t 0)⟩,⟨some 22,some (20,true),.cm (.t 7)⟩,⟨some 23,some (20,true),.call KI [(.t 21),(.t 22)]⟩,⟨some 24,some (20,true),.un .not (.t 23)⟩,fN 25 20 24,F 26 25,⟨some 27,some (26,true),.cm (.t 1)⟩,⟨some 28,some (26,true),.cm (.t 8)⟩,⟨some 29,some (26,true),.call D5 [(.t 27),(.t 28)]⟩,⟨some 30,some (26,true),.un .not (.t 29)⟩,fN 31 26 30,F 4 31] .ret))))))
def Cn:bP:=b8 73 2 [.t 4] (U [eo 4] (U [eo 5] (.seq (U [F 12 0,b6 13 12,br 14 0] (.block 0 (.ghost (.nj 5 228023 1) (.loop  (U [bo 15 .lss 14 13] (.seq (aY 15 .skip (.exit 0)) (.seq (.block 1 (U [bH 16 1 12 14,aV 17 1 16,F 7 17] (.ops [F 18 5,F 19 7,(aD 20 (.build [(al 0),.nil,.nil,.nil,.nil,.nil,.nil,.nil,.nil,.nil,.nil,(al 0),(al 0),(al 0),(al 0),(al 0),(al 0),(al 0),(al 0),(al 0),(al 0),(al 0),(al 0),(.J (.bool false))] [(0,1,(.t 19)),(22,1,(.c (al 10)))])),dL 21 228021 20,(aD 22 (.e0 228022 true [(.J .u2)] 1 1 [(0,1,(.t 21))])),(aD 23 (.app 228023 [(.J .u2)] 8 (.t 18) (.t 22))),F 5 23]))) (.ghost (.many) (.ops [a5 24 .add 14 1,F 14 24]))))))))) (.seq (U [F 25 1,b6 26 25,br 27 0] (.block 2 (.loop  (U [bo 28 .lss 27 26] (.seq (aY 28 .skip (.exit 2)) (.seq (.block 3 (U [bH 29 4 25 27,bn 30 4 29,(aD 9 (.alloc 228009 [(al 0),(al 0),(al 0),(al 0)])),bp 4 9 30] (U [F 31 5,bf 32 0 9,aV 33 1 32,bH 34 1 31 33,aV 35 1 34,F 10 35] (fD [F 36 10,bf 37 2 9,aV 38 1 37,F 39 10,bf 40 2 9,aV 41 1 40,hh 42 39,bf 43 1 42,(aD 44 (.pd 10 1 (.t 43) (.t 41))),aV 45 1 44,bn 46 4 9,(aD 47 (.e0 228047 false [(al 0),(al 0),(al 0),(al 0)] 4 1 [(0,4,(.t 46))])),(aD 48 (.app 228048 [(al 0),(al 0),(al 0),(al 0)] 32 (.t 45) (.t 47))),hh 49 36,bf 50 1 49,(aD 51 (.pd 10 1 (.t 50) (.t 38))),bp 1 51 48] [[],[],[],[],[],[],[],[],[],[],[],[],[2],[],[],[],[]] (.seq (.ghost (.many) (.ops [bf 52 2 9,aV 53 1 52,a5 54 .add 53 1,F 11 54])) (.block 4 (.loop  (.seq (U [F 55 11,a5 56 .leq 55 10] (aY 56 .skip (.exit 4))) (.seq (.block 5 (.mY [F 59 10,F 60 11,hh 61 59,bf 62 11 61,(aD 63 (.pd 11 1 (.t 62) (.t 60))),aV 64 1 63,bf 65 3 9,aV 66 1 65,bo 67 .add 64 66,hh 68 59,bf 69 11 68,(aD 70 (.pd 11 1 (.t 69) (.t 60))),bp 1 70 67] Vb)) (.ops [F 57 11,a5 58 .add 57 1,F 11 58])))))))))) (.ops [a5 71 .add 27 1,F 27 71]))))))) (.seq (.ghost (.many) (.ops [F 72 5,F 4 72])) .ret)))))
def Hh:bP:=b8 72 1 [.t 2,.t 3] (U [eo 2,cA 3 false] (.seq (U [F 11 0,b6 12 11,br 13 0] (.block 0 (.loop  (U [bo 14 .lss 13 12] (.seq (aY 14 .skip (.exit 0)) (.seq (.block 1 (U [bH 15 1 11 13,aV 16 1 15,F 5 16] (.ops [F 17 5,hh 18 17,bf 19 23 18,⟨none,none,.store 1 (.t 19) (.c (.J (.bool false)))⟩]))) (.ops [a5 20 .add 13 1,F 13 20]))))))) (.block 2 (.loop  (.block 3 (U [F 22 0,(dQ 23 UN 22),F 21 23,bA 24 0 21,bA 25 1 21,F 6 24,F 7 25] (.seq (U [F 26 7,fh 27 26] (aY 27 (U [eo 2,cA 3 false] .ret) .skip)) (U [cA 8 false] (.seq (U [F 28 0,b6 29 28,br 30 0] (.block 4 (.loop  (U [bo 31 .lss 30 29] (.seq (aY 31 .skip (.exit 4)) (.seq (.block 5 (U [F 32 30,bH 33 1 28 30,aV 34 1 33,F 9 32,F 10 34] (fD [F 35 10,hh 36 35,bf 37 22 36,aV 38 1 37,a5 39 .lss 38 10,F 40 39,⟨some 41,some (40,true),.cm (.t 10)⟩,⟨some 42,some (40,true),.si (.t 41)⟩,⟨some 43,some (40,true),.dY 23 (.t 42)⟩,⟨some 44,some (40,true),.load 1 false (.t 43)⟩,⟨some 45,some (40,true),.un .not (.t 44)⟩,fN 46 40 45,F 47 46,⟨some 48,some (47,true),.cm (.t 6)⟩,⟨some 49,some (47,true),.cm (.t 9)⟩,⟨some 50,some (47,true),.kO 4 (.t 48) (.t 49)⟩,⟨some 51,some (47,true),.load 4 true (.t 50)⟩,⟨some 52,some (47,true),.cm (.t 10)⟩,⟨some 53,some (47,true),.cm (.t 10)⟩,⟨some 54,some (47,true),.si (.t 53)⟩,⟨some 55,some (47,true),.dY 22 (.t 54)⟩,⟨some 56,some (47,true),.load 1 false (.t 55)⟩,⟨some 57,some (47,true),.si (.t 52)⟩,⟨some 58,some (47,true),.dY 11 (.t 57)⟩,⟨some 59,some (47,true),.pd 11 1 (.t 58) (.t 56)⟩,⟨some 60,some (47,true),.load 1 false (.t 59)⟩,⟨some 61,some (47,true),.call pt [(.t 60)]⟩,⟨some 62,some (47,true),.call m7 [(.t 51),(.t 61)]⟩,⟨some 63,some (47,true),.bin .gtr (.t 62) (.c (al 0))⟩,fN 64 47 63] arQ (aY 64 (.ops [F 65 10,hh 66 65,bf 67 23 66,⟨none,none,.store 1 (.t 67) (.c (.J (.bool true)))⟩,cA 8 true]) .skip)))) (.ops [a5 68 .add 30 1,F 30 68]))))))) (U [F 69 8,fh 70 69] (aY 70 (U [F 71 6,F 2 71,cA 3 true] .ret) .skip)))))))))))
def Xi:bP:=b8 11 1 [.cell 2 4 true] (U [(aD 2 (.alloc 230002 [(al 0),.nil,(al 0),.nil]))] (U [F 6 0,(aD 7 (.call zX [(.t 6),(.c (al 1))])),F 5 7,bA 8 0 5,bA 9 1 5,(aD 3 (.alloc 230003 [(al 0),.nil,(al 0),.nil])),bp 4 3 8,F 4 9] (U [bn 10 4 3,bp 4 2 10] .ret)))
def Xj:bP:=b8 13 3 [.t 4] (U [cA 4 false] (fD [aV 5 1 1,aV 6 1 2,bH 7 4 5 6,bn 8 4 7,F 9 0,(dQ 10 pt 9),(cv 11 m7 8 10),a5 12 .lss 11 0,F 4 12] BP .ret))
def EH:bP:=b8 96 2 [.t 4,.t 5] (U [eo 4,cA 5 false] (U [F 17 1,b6 18 17,(aD 19 (.mn 233019 [.nil] 24 (.t 18) (.t 18))),F 6 19] (U [F 20 1,b6 21 20,(aD 22 (.mn 233022 [.nil] 24 (.t 21) (.t 21))),F 7 22] (.seq (U [F 23 0,b6 24 23,br 25 0] (.block 0 (.loop  (U [bo 26 .lss 25 24] (.seq (aY 26 .skip (.exit 0)) (.seq (.block 1 (U [F 27 25,bH 28 4 23 25,bn 29 4 28,(aD 9 (.alloc 233009 [(al 0),(al 0),(al 0),(al 0)])),F 8 27,bp 4 9 29] (.mY [F 30 6,bf 31 0 9,aV 32 1 31,F 33 7,bf 34 0 9,aV 35 1 34,F 36 6,bf 37 0 9,aV 38 1 37,bH 39 1 36 38,aV 40 1 39,bn 41 4 9,(aD 42 (.e0 233042 false [(al 0),(al 0),(al 0),(al 0)] 4 1 [(0,4,(.t 41))])),(aD 43 (.app 233043 [(al 0),(al 0),(al 0),(al 0)] 32 (.t 40) (.t 42))),F 44 7,bf 45 0 9,aV 46 1 45,bH 47 1 44 46,aV 48 1 47,F 49 8,(aD 50 (.e0 233050 false [(al 0)] 1 1 [(0,1,(.t 49))])),(aD 51 (.app 233051 [(al 0)] 8 (.t 48) (.t 50))),bH 52 1 30 32,bp 1 52 43,bH 53 1 33 35,bp 1 53 51] [[],[],[],[],[],[],[],[],[],[],[],[],[],[2,5],[],[],[13],[],[13],[],[],[2,5],[],[5],[],[]]))) (.ghost (.many) (.ops [a5 54 .add 25 1,F 25 54])))))))) (.seq (.ghost (.many) (.ops [F 55 0,b6 56 55,(aD 57 (.mn 233057 [(al 0),.nil,(al 0),.nil] 64 (.t 56) (.t 56))),F 10 57])) (.seq (U [F 58 6,b6 59 58,br 60 0] (.block 2 (.loop  (U [bo 61 .lss 60 59] (.seq (aY 61 .skip (.exit 2)) (.seq (.block 3 (U [F 62 60,bH 63 1 58 60,aV 64 1 63,F 11 62,F 12 64] (U [F 66 1,F 67 11,bH 68 4 66 67,bn 69 4 68,F 70 12,(cv 71 D6 69 70),F 65 71,bA 72 0 65,bA 73 1 65,F 13 72,F 14 73] (.seq (U [F 74 14,a5 75 .neq 74 0] (aY 75 (U [eo 4,cA 5 false] .ret) .skip)) (U [F 76 7,F 77 11,bH 78 1 76 77,aV 79 1 78,b6 80 79,br 81 0] (.block 4 (.loop  (U [bo 82 .lss 81 80] (.seq (aY 82 .skip (.exit 4)) (.seq (.block 5 (U [F 83 81,bH 84 1 79 81,aV 85 1 84,F 15 83,F 16 85] (.ops [F 86 10,F 87 16,F 88 13,F 89 15,bH 90 4 88 89,bn 91 4 90,bH 92 4 86 87,bp 4 92 91]))) (.ops [a5 93 .add 81 1,F 81 93]))))))))))) (.ops [a5 94 .add 60 1,F 60 94]))))))) (.seq (.ghost (.freeze 10) (.ops [F 95 10,F 4 95,cA 5 true])) .ret)))))))
def Xk:bP:=b8 15 3 [.t 6] (U [cA 6 false] (U [F 7 0,F 8 1,bo 9 .geq 7 8,F 10 9,⟨some 11,some (10,true),.cm (.t 0)⟩,⟨some 12,some (10,true),.cm (.t 2)⟩,⟨some 13,some (10,true),.bin .leq (.t 11) (.t 12)⟩,fN 14 10 13,F 6 14] .ret))
def Xl:bP:=b8 8 2 [.t 3] (U [cA 3 false] (U [aV 4 1 1,F 5 0,(aD 6 (.jE (.t 4) [(.t 5),(.c (al 0)),(.c (al 1000000000000000))])),fh 7 6,F 3 7] .ret))
def Xm:bP:=b8 35 3 [.t 4] (U [dL 3 245003 0,cA 4 false] (U [aV 5 1 1,bf 6 0 3,aV 7 1 6,aV 8 1 2,a5 9 .sub 8 1,(aD 10 (.jE (.t 5) [(.t 7),(.c (al 0)),(.t 9)])),fh 11 10,F 12 11,⟨some 13,some (12,false),.load 1 false (.t 1)⟩,⟨some 14,some (12,false),.dY 1 (.t 3)⟩,⟨some 15,some (12,false),.load 1 false (.t 14)⟩,⟨some 16,some (12,false),.load 1 false (.t 2)⟩,⟨some 17,some (12,false),.bin .sub (.t 16) (.c (al 1))⟩,⟨some 18,some (12,false),.jE (.t 13) [(.t 15),(.c (.J (.int .i64 (-1)))),(.t 17)]⟩,⟨some 19,some (12,false),.un .not (.t 18)⟩,eh 20 12 19,F 21 20,⟨some 22,some (21,false),.load 1 false (.t 1)⟩,⟨some 23,some (21,false),.dY 2 (.t 3)⟩,⟨some 24,some (21,false),.load 1 false (.t 23)⟩,⟨some 25,some (21,false),.jE (.t 22) [(.t 24),(.c (al 0)),(.c (al 9))]⟩,⟨some 26,some (21,false),.un .not (.t 25)⟩,eh 27 21 26,F 28 27,⟨some 29,some (28,false),.load 1 false (.t 1)⟩,⟨some 30,some (28,false),.dY 3 (.t 3)⟩,⟨some 31,some (28,false),.load 1 false (.t 30)⟩,⟨some 32,some (28,false),.jE (.t 29) [(.t 31),(.c (al 0)),(.c (al 1000000000000000))]⟩,⟨some 33,some (28,false),.un .not (.t 32)⟩,eh 34 28 33,F 4 34] .ret))
def vR:bP:=b8 159 1 [.t 2,.t 3] (U [eo 2,cA 3 false] (U [F 26 0,b6 27 26,F 4 27] (U [F 28 4,(aD 29 (.mn 248029 [(al 0)] 8 (.t 28) (.t 28))),F 5 29] (U [eo 6] (U [eo 7] (.seq (U [F 30 0,b6 31 30,br 32 0] (.block 0 (.ghost (.nj 6 248094 1) (.ghost (.nj 7 248098 1) (.loop  (U [bo 33 .lss 32 31] (.seq (aY 33 .skip (.exit 0)) (.seq (.block 1 (U [F 34 32,bH 35 1 30 32,aV 36 1 35,F 8 34,F 9 36] (fD [F 37 5,F 38 8,bH 39 1 37 38,aV 40 1 39,F 41 9,hh 42 41,bf 43 0 42,aV 44 1 43,bo 45 .add 40 44,bH 46 1 37 38,bp 1 46 45] KO (.seq (U [F 47 9,hh 48 47,bf 49 22 48,aV 50 1 49,br 51 0] (.block 2 (.loop  (U [bo 52 .lss 51 50] (.seq (aY 52 .skip (.exit 2)) (.seq (.block 3 (U [F 53 51,F 10 53] (U [F 54 9,F 55 10,hh 56 54,bf 57 1 56,(aD 58 (.pd 10 1 (.t 57) (.t 55))),aV 59 1 58,b6 60 59,br 61 0] (.block 4 (.loop  (U [bo 62 .lss 61 60] (.seq (aY 62 .skip (.exit 4)) (.seq (.block 5 (U [bH 63 4 59 61,bn 64 4 63,(aD 12 (.alloc 248012 [(al 0),(al 0),(al 0),(al 0)])),bp 4 12 64] (U [bf 65 1 12,aV 66 1 65,a5 67 .geq 66 0] (aY 67 (.mY [F 68 5,bf 69 1 12,aV 70 1 69,bH 71 1 68 70,aV 72 1 71,bf 73 3 12,aV 74 1 73,bo 75 .add 72 74,bH 76 1 68 70,bp 1 76 75] GI) .skip)))) (.ops [a5 77 .add 61 1,F 61 77]))))))))) (.ops [a5 78 .add 51 1,F 51 78]))))))) (U [F 79 9,hh 80 79,bf 81 23 80,aV 82 1 81] (aY 82 (U [F 84 9,F 85 4,(cv 86 ON 84 85),F 83 86,bA 87 0 83,bA 88 1 83,F 13 87,F 14 88] (.seq (U [F 89 14,fh 90 89] (aY 90 (U [eo 2,cA 3 false] .ret) .skip)) (.ops [F 91 6,F 92 8,(aD 93 (.e0 248093 false [(al 0)] 1 1 [(0,1,(.t 92))])),(aD 94 (.app 248094 [(al 0)] 8 (.t 91) (.t 93))),F 95 7,F 96 13,(aD 97 (.e0 248097 false [.nil] 1 1 [(0,1,(.t 96))])),(aD 98 (.app 248098 [.nil] 24 (.t 95) (.t 97))),F 6 94,F 7 98]))) .skip)))))) (.ops [a5 99 .add 32 1,F 32 99]))))))))) (.seq (.ghost (.freeze 5) (.ghost (.freeze 6) (.ghost (.freeze 7) (.ops [F 101 0,F 102 5,F 103 6,F 104 7,(zZ 105 UP 101 102 103 104),F 100 105,bA 106 0 100,bA 107 1 100,F 15 106,F 16 107])))) (.seq (U [F 108 16,fh 109 108] (aY 109 (U [eo 2,cA 3 false] .ret) .skip)) (U [eo 17] (.seq (U [F 110 5,b6 111 110,br 112 0] (.block 6 (.ghost (.nj 17 248156 4) (.loop  (U [bo 113 .lss 112 111] (.seq (aY 113 .skip (.exit 6)) (.seq (.block 7 (U [F 114 112,bH 115 1 110 112,aV 116 1 115,F 18 114,F 19 116] (U [F 117 19,(dQ 118 pt 117),(aD 20 (.alloc 248020 [(al 0),.nil,(al 0),.nil])),bp 4 20 118] (.seq (U [F 119 6,b6 120 119,br 121 0] (.block 8 (.loop  (U [bo 122 .lss 121 120] (.seq (aY 122 .skip (.exit 8)) (.seq (.block 9 (U [F 123 121,F 21 123] (fD [F 125 7,F 126 21,bH 127 1 125 126,aV 128 1 127,F 129 18,bH 130 4 128 129,bn 131 4 130,F 132 15,F 133 21,bH 134 4 132 133,bn 135 4 134,(cv 136 tS 131 135),F 124 136,bA 137 0 124,bA 138 1 124,(aD 22 (.alloc 248022 [(al 0),.nil,(al 0),.nil])),bp 4 22 137,F 23 138] [[],[],[],[],[],[],[],[],[],[],[],[],[],[],[],[3,6,10],[],[]] (U [bn 140 4 20,bn 141 4 22,(cv 142 vp 140 141),F 139 142,bA 143 0 139,bA 144 1 139,(aD 24 (.alloc 248024 [(al 0),.nil,(al 0),.nil])),bp 4 24 143,F 25 144] (.seq (U [F 145 23,a5 146 .neq 145 0,F 147 146,⟨some 148,some (147,false),.cm (.t 25)⟩,⟨some 149,some (147,false),.bin .neq (.t 148) (.c (al 0))⟩,eh 150 147 149] (aY 150 (U [eo 2,cA 3 false] .ret) .skip)) (.ops [bn 151 4 24,bp 4 20 151])))))) (.ops [a5 152 .add 121 1,F 121 152]))))))) (.ops [F 153 17,bn 154 4 20,(aD 155 (.e0 248155 false [(al 0),.nil,(al 0),.nil] 4 1 [(0,4,(.t 154))])),(aD 156 (.app 248156 [(al 0),.nil,(al 0),.nil] 64 (.t 153) (.t 155))),F 17 156]))))) (.ops [a5 157 .add 112 1,F 112 157])))))))) (.seq (.ghost (.freeze 17) (.ops [F 158 17,F 2 158,cA 3 true])) .ret)))))))))))
def P1:bP:=b8 88 2 [.t 4,.t 5] (U [eo 4,cA 5 false] (U [(aD 14 (.call pt [(.c (al 0))])),(aD 15 (.e0 255015 false [(al 0),.nil,(al 0),.nil] 4 1 [(0,4,(.t 14))])),F 16 1,(aD 17 (.oI 255017 4 Ur [(.t 15),(.t 16)])),F 6 17] (U [cA 7 true] (.seq (fD [F 18 0,F 19 0,hh 20 19,bf 21 22 20,aV 22 1 21,hh 23 18,bf 24 1 23,(aD 25 (.pd 10 1 (.t 24) (.t 22))),aV 26 1 25,b6 27 26,br 28 0] KO (.block 0 (.loop  (U [bo 29 .lss 28 27] (.seq (aY 29 .skip (.exit 0)) (.seq (.block 1 (U [bH 30 4 26 28,bn 31 4 30,(aD 9 (.alloc 255009 [(al 0),(al 0),(al 0),(al 0)])),bp 4 9 31] (.seq (U [bf 32 1 9,aV 33 1 32,a5 34 .lss 33 0] (aY 34 (.exit 1) .skip)) (fD [bf 36 3 9,aV 37 1 36,F 38 0,F 39 0,hh 40 39,bf 41 22 40,aV 42 1 41,a5 43 .add 42 1,hh 44 38,bf 45 11 44,(aD 46 (.pd 11 1 (.t 45) (.t 43))),aV 47 1 46,F 48 0,F 49 0,hh 50 49,bf 51 22 50,aV 52 1 51,hh 53 48,bf 54 11 53,(aD 55 (.pd 11 1 (.t 54) (.t 52))),aV 56 1 55,bo 57 .sub 47 56,(cv 58 zX 37 57),F 35 58,bA 59 0 35,bA 60 1 35,(aD 10 (.alloc 255010 [(al 0),.nil,(al 0),.nil])),bp 4 10 59,F 11 60] [[],[],[],[],[],[],[],[],[],[],[],[],[],[],[],[],[],[],[],[],[],[],[],[],[],[],[1,6,11,16,20],[],[]] (fD [F 62 6,bf 63 1 9,aV 64 1 63,bH 65 4 62 64,bn 66 4 65,bn 67 4 10,(cv 68 vp 66 67),F 61 68,bA 69 0 61,bA 70 1 61,(aD 12 (.alloc 255012 [(al 0),.nil,(al 0),.nil])),bp 4 12 69,F 13 70] [[],[],[],[],[],[],[],[],[],[],[2,4,5],[],[]] (U [F 71 7,F 72 71,⟨some 73,some (72,true),.cm (.t 11)⟩,⟨some 74,some (72,true),.bin .eql (.t 73) (.c (al 0))⟩,fN 75 72 74,F 76 75,⟨some 77,some (76,true),.cm (.t 13)⟩,⟨some 78,some (76,true),.bin .eql (.t 77) (.c (al 0))⟩,fN 79 76 78,F 7 79] (.ops [F 80 6,bf 81 1 9,aV 82 1 81,bn 83 4 12,bH 84 4 80 82,bp 4 84 83]))))))) (.ops [a5 85 .add 28 1,F 28 85]))))))) (.seq (.ghost (.freeze 6) (.ops [F 86 6,F 87 7,F 4 86,F 5 87])) .ret)))))
def Hi:bP:=b8 94 4 [.t 8,.t 9] (U [eo 8,cA 9 false] (U [eo 10] (.seq (U [F 20 2,b6 21 20,br 22 0] (.block 0 (.ghost (.nj 10 256082 5) (.loop  (U [bo 23 .lss 22 21] (.seq (aY 23 .skip (.exit 0)) (.seq (.block 1 (U [F 24 22,bH 25 1 20 22,aV 26 1 25,F 11 24,F 12 26] (fD [F 27 1,F 28 12,bH 29 1 27 28,aV 30 1 29,F 31 0,F 32 12,bH 33 1 31 32,aV 34 1 33,F 35 0,F 36 12,bH 37 1 35 36,aV 38 1 37,hh 39 38,bf 40 22 39,aV 41 1 40,hh 42 34,bf 43 11 42,(aD 44 (.pd 11 1 (.t 43) (.t 41))),aV 45 1 44,bo 46 .sub 30 45,(dQ 47 pt 46),(aD 48 (.build [.nil,(al 0),.nil,(al 0),.nil] [(1,4,(.t 47))])),(aD 13 (.alloc 256013 [.nil,(al 0),.nil,(al 0),.nil])),bp 5 13 48] [[],[],[],[],[],[],[],[],[],[],[],[],[],[],[],[],[],[],[],[],[],[],[3,7,11,14,18],[]] (.seq (.seq (.ghost (.NK (.t 13) 0 256076 4) (.ops [F 49 2,b6 50 49,br 51 0])) (.block 2 (.loop  (U [bo 52 .lss 51 50] (.seq (aY 52 .skip (.exit 2)) (.seq (.block 3 (U [F 53 51,F 14 53] (U [br 15 0] (.seq (U [F 54 14,F 55 11,bo 56 .eql 54 55] (aY 56 (.ops [br 15 1]) .skip)) (fD [F 58 15,(dQ 59 pt 58),F 60 3,F 61 14,bH 62 1 60 61,aV 63 1 62,F 64 12,bH 65 4 63 64,bn 66 4 65,(cv 67 yv 59 66),F 57 67,bA 68 0 57,bA 69 1 57,(aD 16 (.alloc 256016 [(al 0),.nil,(al 0),.nil])),bp 4 16 68,F 17 69] [[],[],[],[],[],[],[],[],[],[],[],[],[],[5,8],[],[]] (.seq (U [F 70 17,a5 71 .neq 70 0] (aY 71 (U [eo 8,cA 9 false] .ret) .skip)) (.ops [bf 72 0 13,aV 73 1 72,bn 74 4 16,(aD 75 (.e0 256075 false [(al 0),.nil,(al 0),.nil] 4 1 [(0,4,(.t 74))])),(aD 76 (.app 256076 [(al 0),.nil,(al 0),.nil] 64 (.t 73) (.t 75))),bf 77 0 13,bp 1 77 76]))))))) (.ops [a5 78 .add 51 1,F 51 78]))))))) (.ghost (.NL (.t 13) 0) (.ops [F 79 10,bn 80 5 13,(aD 81 (.e0 256081 false [.nil,(al 0),.nil,(al 0),.nil] 5 1 [(0,5,(.t 80))])),(aD 82 (.app 256082 [.nil,(al 0),.nil,(al 0),.nil] 88 (.t 79) (.t 81))),F 10 82])))))) (.ops [a5 83 .add 22 1,F 22 83])))))))) (.seq (.ghost (.freeze 10) (.ops [F 85 10,F 86 2,b6 87 86,(cv 88 Un 85 87),F 84 88,bA 89 0 84,bA 90 1 84,F 18 89,F 19 90])) (U [F 91 18,F 92 19,a5 93 .eql 92 0,F 8 91,F 9 93] .ret)))))
def Xn:bP:=b8 36 3 [.t 6] (U [dL 5 286005 2,br 6 0] (U [F 10 0,F 11 1,bn 12 3 5,(aD 13 (.build [.nil,.nil,.nil,.nil,.nil] [(0,1,(.t 10)),(1,1,(.t 11)),(2,3,(.t 12))])),(aD 7 (.alloc 286007 [.nil,.nil,.nil,.nil,.nil])),bp 5 7 13] (.seq (U [bn 14 5 7,(dQ 15 KK 14),fh 16 15] (aY 16 (U [br 6 1] .ret) .skip)) (.seq (U [F 17 0,b6 18 17,br 19 0] (.block 0 (.loop  (U [bo 20 .lss 19 18] (.seq (aY 20 .skip (.exit 0)) (.seq (.block 1 (U [F 21 19,F 8 21] (U [bn 22 5 7,F 23 8,(cv 24 UQ 22 23),F 9 24] (U [F 25 9,a5 26 .neq 25 0] (aY 26 (U [F 27 9,F 6 27] .ret) .skip))))) (.ops [a5 28 .add 19 1,F 19 28]))))))) (.seq (U [bn 29 5 7,(dQ 30 UR 29),fh 31 30,F 32 31,⟨some 33,some (32,false),.load 5 true (.t 7)⟩,⟨some 34,some (32,false),.call US [(.t 33)]⟩,eh 35 32 34] (aY 35 (U [br 6 24] .ret) .skip)) (U [br 6 0] .ret))))))
def Xo:bP:=b8 61 1 [.t 2] (U [dL 1 287001 0,cA 2 false] (U [bf 7 0 1,aV 8 1 7,b6 9 8,(aD 3 (.alloc 287003 [(al 0)])),bp 1 3 9] (U [(aD 4 (.alloc 287004 [(.J .u3)])),⟨none,none,.store 1 (.t 4) (.c (.fz nw []))⟩] (U [(aD 10 (.pN yw [(.t 3),(.t 4)])),F 5 10] (U [(aD 6 (.cm (.c (.fz wS []))))] (.seq (U [aV 11 1 3,a5 12 .gtr 11 60,F 13 12,⟨some 14,some (13,false),.dY 1 (.t 1)⟩,⟨some 15,some (13,false),.load 1 false (.t 14)⟩,⟨some 16,some (13,false),.len (.t 15)⟩,⟨some 17,some (13,false),.bin .gtr (.t 16) (.c (al 2000))⟩,eh 18 13 17,F 19 18,⟨some 20,some (19,false),.dY 2 (.t 1)⟩,⟨some 21,some (19,false),.dY 0 (.t 20)⟩,⟨some 22,some (19,false),.load 1 false (.t 21)⟩,⟨some 23,some (19,false),.len (.t 22)⟩,⟨some 24,some (19,false),.load 1 false (.t 3)⟩,⟨some 25,some (19,false),.bin .neq (.t 23) (.t 24)⟩,eh 26 19 25,F 27 26,⟨some 28,some (27,false),.dY 2 (.t 1)⟩,⟨some 29,some (27,false),.dY 1 (.t 28)⟩,⟨some 30,some (27,false),.load 1 false (.t 29)⟩,⟨some 31,some (27,false),.len (.t 30)⟩,⟨some 32,some (27,false),.dY 1 (.t 1)⟩,⟨some 33,some (27,false),.load 1 false (.t 32)⟩,⟨some 34,some (27,false),.len (.t 33)⟩,⟨some 35,some (27,false),.bin .neq (.t 31) (.t 34)⟩,eh 36 27 35] (aY 36 (U [cA 2 false] .ret) .skip)) (U [bf 37 0 1,aV 38 1 37,aV 39 1 4,(cv 40 UT 38 39),F 41 40,⟨some 42,some (41,true),.dY 1 (.t 1)⟩,⟨some 43,some (41,true),.load 1 false (.t 42)⟩,⟨some 44,some (41,true),.cm (.t 5)⟩,⟨some 45,some (41,true),.call UU [(.t 43),(.t 44)]⟩,fN 46 41 45,F 47 46,⟨some 48,some (47,true),.dY 2 (.t 1)⟩,⟨some 49,some (47,true),.dY 0 (.t 48)⟩,⟨some 50,some (47,true),.load 1 false (.t 49)⟩,⟨some 51,some (47,true),.cm (.t 6)⟩,⟨some 52,some (47,true),.call OO [(.t 50),(.t 51)]⟩,fN 53 47 52,F 54 53,⟨some 55,some (54,true),.dY 2 (.t 1)⟩,⟨some 56,some (54,true),.dY 1 (.t 55)⟩,⟨some 57,some (54,true),.load 1 false (.t 56)⟩,⟨some 58,some (54,true),.cm (.t 6)⟩,⟨some 59,some (54,true),.call OO [(.t 57),(.t 58)]⟩,fN 60 54 59,F 2 60] .ret)))))))
def Xp:bP:=b8 80 2 [.t 4] (U [dL 2 288002 0,br 4 0] (U [bf 16 0 2,aV 17 1 16,F 18 1,bH 19 1 17 18,aV 20 1 19,(aD 21 (.call zX [(.t 20),(.c (al 1))])),F 15 21,bA 22 0 15,bA 23 1 15,(aD 5 (.alloc 288005 [(al 0),.nil,(al 0),.nil])),bp 4 5 22,F 6 23] (.seq (U [bf 24 1 2,aV 25 1 24,b6 26 25,br 27 0] (.block 0 (.loop  (U [bo 28 .lss 27 26] (.seq (aY 28 .skip (.exit 0)) (.seq (.block 1 (U [F 29 27,bH 30 4 25 27,bn 31 4 30,(aD 8 (.alloc 288008 [(al 0),(al 0),(al 0),(al 0)])),F 7 29,bp 4 8 31] (.seq (U [bf 32 1 8,aV 33 1 32,F 34 1,bo 35 .neq 33 34] (aY 35 (.exit 1) .skip)) (fD [bn 37 4 5,bf 38 2 2,bf 39 1 38,aV 40 1 39,F 41 7,bH 42 4 40 41,bn 43 4 42,(cv 44 vp 37 43),F 36 44,bA 45 0 36,bA 46 1 36,(aD 9 (.alloc 288009 [(al 0),.nil,(al 0),.nil])),bp 4 9 45,F 10 46] [[],[],[],[],[],[],[],[],[],[],[],[0,3,6],[],[]] (.seq (U [F 47 10,a5 48 .neq 47 0] (aY 48 (U [F 49 10,F 4 49] .ret) .skip)) (.ops [bn 50 4 9,bp 4 5 50])))))) (.ops [a5 51 .add 27 1,F 27 51]))))))) (.seq (fD [bn 52 4 5,bf 53 2 2,bf 54 0 53,aV 55 1 54,F 56 1,bH 57 4 55 56,bn 58 4 57,(cv 59 m7 52 58),a5 60 .neq 59 0] BP (aY 60 (U [br 4 24] .ret) .skip)) (U [bn 62 5 2,F 63 1,(cv 64 KL 62 63),F 61 64,bA 65 0 61,bA 66 1 61,F 11 65,F 12 66] (U [bn 68 4 5,F 69 11,(cv 70 D6 68 69),F 67 70,bA 71 0 67,bA 72 1 67,F 13 71,F 14 72] (.seq (U [F 73 14,a5 74 .neq 73 0] (aY 74 (U [F 75 14,F 4 75] .ret) .skip)) (.seq (U [F 76 12,F 77 13,(cv 78 UW 76 77),fh 79 78] (aY 79 (U [br 4 24] .ret) .skip)) (U [br 4 0] .ret)))))))))
def Xq:bP:=b8 49 1 [.t 2] (U [dL 1 289001 0,cA 2 false] (U [eo 3] (.seq (U [bf 8 2 1,bf 9 2 8,aV 10 1 9,b6 11 10,br 12 0] (.block 0 (.ghost (.nj 3 289040 1) (.loop  (U [bo 13 .lss 12 11] (.seq (aY 13 .skip (.exit 0)) (.seq (.block 1 (U [bH 14 1 10 12,aV 15 1 14,F 5 15] (.seq (U [F 16 5,b6 17 16,br 18 0] (.block 2 (.loop  (U [bo 19 .lss 18 17] (.seq (aY 19 .skip (.exit 2)) (.seq (.block 3 (U [F 20 18,bH 21 1 16 18,aV 22 1 21,F 6 20,F 7 22] (U [F 23 6,a5 24 .gtr 23 0,F 25 24,⟨some 26,some (25,true),.cm (.t 7)⟩,⟨some 27,some (25,true),.cm (.t 5)⟩,⟨some 28,some (25,true),.cm (.t 6)⟩,⟨some 29,some (25,true),.bin .sub (.t 28) (.c (al 1))⟩,⟨some 30,some (25,true),.kO 1 (.t 27) (.t 29)⟩,⟨some 31,some (25,true),.load 1 false (.t 30)⟩,⟨some 32,some (25,true),.bin .leq (.t 26) (.t 31)⟩,fN 33 25 32] (aY 33 (U [cA 2 false] .ret) .skip)))) (.ops [a5 34 .add 18 1,F 18 34]))))))) (.seq (U [F 35 5,b6 36 35,a5 37 .eql 36 0] (aY 37 (U [cA 2 false] .ret) .skip)) (.ops [F 38 3,F 39 5,(aD 40 (.app 289040 [(al 0)] 8 (.t 38) (.t 39))),F 3 40]))))) (.ops [a5 41 .add 12 1,F 12 41])))))))) (U [F 42 3,(dQ 43 UX 42)] (fD [F 44 3,(aD 45 (.sk 0 UZ [(.t 44)])),bn 46 5 1,(dQ 47 D8 46),(cv 48 UY 45 47),F 2 48] [[],[],[1],[],[],[]] .ret)))))
def Xr:bP:=b8 21 1 [.t 2] (U [dL 1 290001 0,cA 2 false] (U [bn 5 5 1,(aD 6 (.oI 290006 1 D8 [(.t 5)])),F 3 6] (.seq (U [bf 7 0 1,aV 8 1 7,b6 9 8,br 10 0] (.block 0 (.loop  (U [bo 11 .lss 10 9] (.seq (aY 11 .skip (.exit 0)) (.seq (.block 1 (U [F 12 3,(dQ 13 vt 12),(aD 4 (.alloc 290004 [.nil])),bp 1 4 13] (.ops [F 14 3,(aD 15 (.pN tV [(.t 1),(.t 4)])),(cv 16 U0 14 15),F 3 16]))) (.ops [a5 17 .add 10 1,F 10 17]))))))) (U [F 18 3,b6 19 18,a5 20 .gtr 19 0,F 2 20] .ret))))
def Xs:bP:=b8 5 1 [.t 2] (U [cA 2 false] (U [F 3 0,(aD 4 (.call D7 [(.t 3),(.c (al 0)),(.c (al 1000000000000000))])),F 2 4] .ret))
def Xt:bP:=b8 15 3 [.t 6] (U [cA 6 false] (U [F 7 1,F 8 0,bo 9 .leq 7 8,F 10 9,⟨some 11,some (10,true),.cm (.t 0)⟩,⟨some 12,some (10,true),.cm (.t 2)⟩,⟨some 13,some (10,true),.bin .leq (.t 11) (.t 12)⟩,fN 14 10 13,F 6 14] .ret))
def Xu:bP:=b8 28 3 [.t 4] (U [dL 3 293003 0,cA 4 false] (U [bf 5 0 3,aV 6 1 5,aV 7 1 1,a5 8 .sub 7 1,(aD 9 (.call D7 [(.t 6),(.c (al 0)),(.t 8)])),F 10 9,⟨some 11,some (10,true),.dY 1 (.t 3)⟩,⟨some 12,some (10,true),.load 1 false (.t 11)⟩,⟨some 13,some (10,true),.load 1 false (.t 1)⟩,⟨some 14,some (10,true),.bin .sub (.t 13) (.c (al 1))⟩,⟨some 15,some (10,true),.call D7 [(.t 12),(.c (.J (.int .i64 (-1)))),(.t 14)]⟩,fN 16 10 15,F 17 16,⟨some 18,some (17,true),.dY 2 (.t 3)⟩,⟨some 19,some (17,true),.load 1 false (.t 18)⟩,⟨some 20,some (17,true),.call D7 [(.t 19),(.c (al 0)),(.c (al 9))]⟩,fN 21 17 20,F 22 21,⟨some 23,some (22,true),.load 1 false (.t 2)⟩,⟨some 24,some (22,true),.dY 3 (.t 3)⟩,⟨some 25,some (22,true),.load 1 false (.t 24)⟩,⟨some 26,some (22,true),.jE (.t 23) [(.t 25)]⟩,fN 27 22 26,F 4 27] .ret))
def Xv:bP:=b8 11 1 [.t 2] (U [dL 1 294001 0,cA 2 false] (U [bn 3 4 1,(dQ 4 l3 3),F 5 4,⟨some 6,some (5,true),.dY 0 (.t 1)⟩,⟨some 7,some (5,true),.dY 0 (.t 6)⟩,⟨some 8,some (5,true),.load 1 false (.t 7)⟩,⟨some 9,some (5,true),.bin .geq (.t 8) (.c (al 0))⟩,fN 10 5 9,F 2 10] .ret))
def Xw:bP:=b8 9 2 [.t 4] (U [dL 3 295003 1,cA 4 false] (U [F 5 0,(aD 6 (.pN BN [(.t 3)])),(cv 7 KI 5 6),fh 8 7,F 4 8] .ret))
def Xx:bP:=b8 9 2 [.t 4] (U [dL 3 296003 1,cA 4 false] (U [F 5 0,(aD 6 (.pN D9 [(.t 3)])),(cv 7 D5 5 6),fh 8 7,F 4 8] .ret))
def Xy:bP:=b8 9 2 [.t 4] (U [dL 3 297003 1,cA 4 false] (U [F 5 0,(aD 6 (.pN vy [(.t 3)])),(cv 7 Kw 5 6),fh 8 7,F 4 8] .ret))
def Xz:bP:=b8 38 2 [.t 4,.t 5] (U [dL 2 298002 0,eo 4,eo 5] (U [eo 6] (U [eo 7] (.seq (U [bf 10 1 2,aV 11 1 10,b6 12 11,br 13 0] (.block 0 (.ghost (.nj 6 298025 4) (.ghost (.nj 7 298034 4) (.loop  (U [bo 14 .lss 13 12] (.seq (aY 14 .skip (.exit 0)) (.seq (.block 1 (U [F 15 13,bH 16 4 11 13,bn 17 4 16,(aD 9 (.alloc 298009 [(al 0),(al 0),(al 0),(al 0)])),F 8 15,bp 4 9 17] (U [bf 18 0 9,aV 19 1 18,F 20 1,bo 21 .eql 19 20] (aY 21 (.mY [F 22 6,bn 23 4 9,(aD 24 (.e0 298024 false [(al 0),(al 0),(al 0),(al 0)] 4 1 [(0,4,(.t 23))])),(aD 25 (.app 298025 [(al 0),(al 0),(al 0),(al 0)] 32 (.t 22) (.t 24))),F 26 7,bf 27 2 2,bf 28 1 27,aV 29 1 28,F 30 8,bH 31 4 29 30,bn 32 4 31,(aD 33 (.e0 298033 false [(al 0),.nil,(al 0),.nil] 4 1 [(0,4,(.t 32))])),(aD 34 (.app 298034 [(al 0),.nil,(al 0),.nil] 64 (.t 26) (.t 33))),F 6 25,F 7 34] [[],[],[],[],[],[],[],[3],[],[],[3],[],[],[],[]]) .skip)))) (.ops [a5 35 .add 13 1,F 13 35]))))))))) (.seq (.ghost (.freeze 6) (.ghost (.freeze 7) (.ops [F 36 6,F 37 7,F 4 36,F 5 37]))) .ret)))))
def XA:bP:=b8 8 2 [.t 4] (U [cA 4 false] (U [F 5 0,F 6 1,(aD 7 (.call UM [(.t 5),(.t 6),(.c (.fz wT []))])),F 4 7] .ret))
def XB:bP:=b8 26 1 [.t 2] (U [dL 1 303001 0,eo 2] (U [eo 3] (.seq (U [bf 7 0 1,aV 8 1 7,b6 9 8,br 10 0] (.block 0 (.ghost (.nj 3 303023 1) (.loop  (U [bo 11 .lss 10 9] (.seq (aY 11 .skip (.exit 0)) (.seq (.block 1 (U [F 12 10,F 4 12] (U [bn 14 5 1,F 15 4,(cv 16 KN 14 15),F 13 16,bA 17 0 13,bA 18 1 13,F 5 17,F 6 18] (U [F 19 6] (aY 19 (.ops [F 20 3,F 21 4,(aD 22 (.e0 303022 false [(al 0)] 1 1 [(0,1,(.t 21))])),(aD 23 (.app 303023 [(al 0)] 8 (.t 20) (.t 22))),F 3 23]) .skip))))) (.ops [a5 24 .add 10 1,F 10 24])))))))) (U [F 25 3,F 2 25] .ret))))
def XC:bP:=b8 9 3 [.t 4] (U [cA 4 false] (U [bn 5 5 1,F 6 0,aV 7 1 2,(tW 8 U1 5 6 7),F 4 8] .ret))
def XD:bP:=b8 19 3 [.t 6] (U [dL 3 306003 0,dL 4 306004 1,dL 5 306005 2,cA 6 false] (U [bn 10 5 3,aV 11 1 4,(cv 12 KN 10 11),F 9 12,bA 13 0 9,bA 14 1 9,(aD 7 (.alloc 306007 [(al 0)])),bp 1 7 13,F 8 14] (U [bf 15 1 3,aV 16 1 15,(aD 17 (.pN Ea [(.t 4),(.t 7),(.t 5)])),(cv 18 D5 16 17),F 6 18] .ret)))
def XE:bP:=b8 8 2 [.t 3] (U [cA 3 false] (U [aV 4 1 1,F 5 0,(aD 6 (.jE (.t 4) [(.t 5)])),fh 7 6,F 3 7] .ret))
def XF:bP:=b8 8 2 [.t 3] (U [dL 2 308002 0,cA 3 false] (U [aV 4 1 1,bn 5 4 2,(aD 6 (.jE (.t 4) [(.t 5)])),fh 7 6,F 3 7] .ret))
def XG:bP:=b8 8 2 [.t 3] (U [dL 2 309002 0,cA 3 false] (U [aV 4 1 1,bn 5 4 2,(aD 6 (.jE (.t 4) [(.t 5)])),fh 7 6,F 3 7] .ret))
def XH:bP:=b8 9 2 [.t 4] (U [dL 2 310002 0,dL 3 310003 1,cA 4 false] (U [bn 5 4 2,bn 6 4 3,(cv 7 m7 5 6),a5 8 .eql 7 0,F 4 8] .ret))
def XJ:bP:=b8 14 2 [.t 4,.t 5] (U [dL 2 313002 0,br 4 0,cA 5 false] (U [bn 6 5 2,F 7 1,(cv 8 KL 6 7),bA 9 0 8,bA 10 1 8,(cv 11 UI 9 10),bA 12 0 11,bA 13 1 11,F 4 12,F 5 13] .ret))
def XK:bP:=b8 28 4 [.t 5] (U [dL 4 314004 0,cA 5 false] (U [bf 6 0 4,aV 7 1 6,aV 8 1 1,bo 9 .eql 7 8,F 10 9,⟨some 11,some (10,true),.dY 2 (.t 4)⟩,⟨some 12,some (10,true),.load 1 false (.t 11)⟩,⟨some 13,some (10,true),.load 1 false (.t 2)⟩,⟨some 14,some (10,true),.bin .eql (.t 12) (.t 13)⟩,fN 15 10 14,F 16 15,⟨some 17,some (16,true),.dY 3 (.t 4)⟩,⟨some 18,some (16,true),.load 1 false (.t 17)⟩,⟨some 19,some (16,true),.bin .gtr (.t 18) (.c (al 0))⟩,fN 20 16 19,F 21 20,⟨some 22,some (21,true),.load 1 false (.t 3)⟩,⟨some 23,some (21,true),.dY 1 (.t 4)⟩,⟨some 24,some (21,true),.load 1 false (.t 23)⟩,⟨some 25,some (21,true),.call U3 [(.t 22),(.t 24)]⟩,⟨some 26,some (21,true),.un .not (.t 25)⟩,fN 27 21 26,F 5 27] .ret))
def XL:bP:=b8 17 3 [.t 6] (U [dL 5 372005 2,eo 6] (U [F 8 0,F 9 1,bn 10 3 5,(aD 11 (.build [.nil,.nil,.nil,.nil,.nil] [(0,1,(.t 8)),(1,1,(.t 9)),(2,3,(.t 10))])),(aD 7 (.alloc 372007 [.nil,.nil,.nil,.nil,.nil])),bp 5 7 11] (.seq (U [bn 12 5 7,(dQ 13 KK 12),fh 14 13] (aY 14 (U [eo 6] .ret) .skip)) (U [bn 15 5 7,(dQ 16 D8 15),F 6 16] .ret))))
abbrev eY:=List bc×bc
def j0 (r:eY):List Data:=.Y (r.1.map aH)::aH r.2
theorem lG (f:bc):(aH f).length=4:=rfl
theorem agD (r:eY):(j0 r).length=5:=rfl
theorem Co (f:bc):((aH f).map R.J).all R.one=true:=rfl
theorem mM:∀a b:bc,aH a=aH b->a=b:=by
 rintro⟨⟨s,l⟩,⟨s2,ai⟩⟩ ⟨⟨t,m⟩,⟨t2,cJ⟩⟩ h;simp only[aH,a3,Data.int.injEq,Data.Y.injEq,true_and,and_true] at h;obtain⟨rfl,G,rfl,I⟩:=h;rw[map_inj e9 _ _ G,map_inj e9 _ _ I]
theorem XM:∀a b:eY,j0 a=j0 b->a=b:=by
 rintro⟨a,b⟩ ⟨c,d⟩ h;simp only[j0,a3,Data.Y.injEq] at h;rw[map_inj mM _ _ h.1,mM _ _ h.2]
def okF (f:bc):Prop:=f.1.2.length<=1000000/\f.2.2.length<=1000000
def fq (l:List bc):Prop:=D l<=1000000/\∀f∈l,okF f
def yU (r:eY):Prop:=fq r.1/\okF r.2
def rU (rs:List eY):Prop:=D rs<=1000000/\∀r∈rs,yU r
def P2:=cj EA λ(s,l,s2,ai)=>cM (D l<=1000000/\D ai<=1000000) (.same (.bool (!ef ((s,l),(s2,ai)))))
@[go_sem] theorem at2 (s:Int)(l:List Int)(s2:Int)(ai:List Int)(H:(D l)<=1000000/\D ai<=1000000):P2 [.agg [.int .i64 s,.Y (l.map ae),.int .i64 s2,.Y (ai.map ae)]]=some (.same (.bool (!ef ((s,l),(s2,ai))))):=(ct Lk (s,l,s2,ai)).trans (cR H _)
theorem at3 (T:bb)(fE:T l3=aU vN)(s:Int)(l:List Int)(s2:Int)(ai:List Int)(H:(D l)<=1000000/\D ai<=1000000):WP T Xe (.same (.bool (!ef ((s,l),(s2,ai))))) [.J (.agg [.int .i64 s,.Y (l.map ae),.int .i64 s2,.Y (ai.map ae)])]:=by
 refine cu ?_;simp only[Xe];obtain⟨b2,cp⟩:=H;refine aX ?_;repeat' (intro h<;>simp only[h,go_sem,go_sem_proc,fE,b2,cp]<;>try refine ax ?_ ?_)
def agE:=cj EA λ(s,l,s2,ai)=>cM (D l<=1000000/\D ai<=1000000) (.same (.bool (!ef ((s,l),(s2,ai))||decide (s<0))))
@[go_sem] theorem at4 (s:Int)(l:List Int)(s2:Int)(ai:List Int)(H:(D l)<=1000000/\D ai<=1000000):agE [.agg [.int .i64 s,.Y (l.map ae),.int .i64 s2,.Y (ai.map ae)]]=some (.same (.bool (!ef ((s,l),(s2,ai))||decide (s<0)))):=(ct Lk (s,l,s2,ai)).trans (cR H _)
def XN:=cj EA λ(s,l,s2,ai)=>cM (D l<=1000000/\D ai<=1000000) (.same (.bool (ef ((s,l),(s2,ai))&&decide (s>=0))))
@[go_sem] theorem aLl (s:Int)(l:List Int)(s2:Int)(ai:List Int)(H:(D l)<=1000000/\D ai<=1000000):XN [.agg [.int .i64 s,.Y (l.map ae),.int .i64 s2,.Y (ai.map ae)]]=some (.same (.bool (ef ((s,l),(s2,ai))&&decide (s>=0)))):=(ct Lk (s,l,s2,ai)).trans (cR H _)
theorem at5 (T:bb)(fE:T l3=aU vN)(s:Int)(l:List Int)(s2:Int)(ai:List Int)(H:(D l)<=1000000/\D ai<=1000000):WP T Xv (.same (.bool (ef ((s,l),(s2,ai))&&decide (s>=0)))) [.J (.agg [.int .i64 s,.Y (l.map ae),.int .i64 s2,.Y (ai.map ae)])]:=by
 refine cu ?_;simp only[Xv];obtain⟨b2,cp⟩:=H;rcases ab:ef ((s,l),(s2,ai))
 ·refine aX ?_;repeat' (intro h<;>simp only[h,go_sem,go_sem_proc,fE,b2,cp,ab]<;>try refine ax ?_ ?_)
 ·refine aX ?_;repeat' (intro h<;>simp only[h,go_sem,go_sem_proc,fE,b2,cp,ab]<;>try refine ax ?_ ?_)
abbrev XO:Int×(List Int)×Int×(List Int)->List Data:=λ(s,l,s2,ai)=>[.agg [.int .i64 s,.Y (l.map ae),.int .i64 s2,.Y (ai.map ae)],.ptr [.fn wS []]]
def XP:=cj XO λ(s,l,s2,ai)=>cM (D l<=1000000/\D ai<=1000000) (.same (.bool (!(ef ((s,l),(s2,ai))&&decide (s>=0)))))
theorem at6:∀a b,XO a=XO b->a=b:=by
  rintro⟨s1,ei,Ca,Cb⟩ ⟨s2,ai,Cc,Cd⟩ h;simp only[a3,Data.agg.injEq,Data.int.injEq,Data.Y.injEq] at h;exact dS h.1.1.2 (dS (map_inj e9 _ _ h.1.2.1) (dS h.1.2.2.1.2 (map_inj e9 _ _ h.1.2.2.2.1)))
@[go_sem] theorem at7 (s:Int)(l:List Int)(s2:Int)(ai:List Int)(H:(D l)<=1000000/\D ai<=1000000):XP [.agg [.int .i64 s,.Y (l.map ae),.int .i64 s2,.Y (ai.map ae)],.ptr [.fn wS []]]=some (.same (.bool (!(ef ((s,l),(s2,ai))&&decide (s>=0))))):=(ct at6 (s,l,s2,ai)).trans (cR H _)
theorem at8 (T:bb)(at9:T wS=aU XN)(s:Int)(l:List Int)(s2:Int)(ai:List Int)(H:(D l)<=1000000/\D ai<=1000000):WP T XG (.same (.bool (!(ef ((s,l),(s2,ai))&&decide (s>=0))))) [.J (.agg [.int .i64 s,.Y (l.map ae),.int .i64 s2,.Y (ai.map ae)]),.J (.ptr [.fn wS []])]:=by
 refine cu ?_;simp only[XG];obtain⟨b2,cp⟩:=H;refine aX ?_;repeat' (intro h<;>simp only[h,go_sem,go_sem_proc,at9,b2,cp]<;>try refine ax ?_ ?_)
def kD {α:Type}(p:α->Bool)(l:List α):Int:=match l.findIdx? p with
 |some i=>i
 |none => -1
theorem Lx {α:Type}{p:α->Bool}{l:List α}{i:Nat}(h:∀x∈l.take i,p x=false){x:α}(Q:l[i]?=some x)(aE:p x=true):kD p l=i:=by
 unfold kD
 have:l.findIdx? p=some i:=by
  rw[agF];obtain⟨az,rfl⟩:=List.getElem?_eq_some_iff.1 Q;refine⟨az,aE,λj aj=>?_⟩;have:=h l[j] (List.mem_iff_getElem?.2 ⟨j,by rw[List.getElem?_take_of_lt aj];exact bs _⟩);rw[this];decide
 rw[this]
theorem P3 {α:Type}{p:α->Bool}{l:List α}(h:∀x∈l,p x=false):kD p l = -1:=by
 unfold kD;rw[agG.2 h]
theorem Ly {α:Type}(p:α->Bool)(l:List α):decide (kD p l>=0)=l.any p:=by
 unfold kD
 cases h:l.findIdx? p with
 |none =>
  have:=agG.1 h;have I:l.any p=false:=by rw[List.any_eq_false];intro x Q;simp[this x Q]
  rw[I];rfl
 |some i =>
  rw[agF] at h;obtain⟨G,I,-⟩:=h;have af:l.any p=true:=List.any_eq_true.2 ⟨_,m2 G,I⟩;rw[af];exact lQ (by simp)
def Hj (f:bc):Bool:=!ef f
def p3 (f:FuncId):bc->Bool:=if f=zY then λx => !ef x||decide (x.1.1<0) else if f=vy then λx => !(ef x&&decide (x.1.1>=0)) else Hj
def Hk (f:FuncId):List Data:=if f=vy then [.ptr [.fn wS []]] else []
@[go_sem] theorem aua:p3 oT=Hj:=by
 unfold p3;rw[ah (by decide),ah (by decide)]
@[go_sem] theorem agH:p3 zY=λx => !ef x||decide (x.1.1<0):=by
 unfold p3;rw[ad rfl]
theorem agI:p3 vy=λx => !(ef x&&decide (x.1.1>=0)):=by
 unfold p3;rw[ah (by decide),ad rfl]
theorem P4 {α:Type}{p:α->Bool}{l:List α}{i:Nat}(h:∀x∈l.take i,p x=false){x:α}(Q:l[i]?=some x)(aE:p x=false):∀y∈l.take (i+1),p y=false:=by
 intro y av;rw[List.take_add_one,Q] at av;simp only[Option.toList_some,List.mem_append,ue] at av;rcases av with av|rfl
 ·exact h y av
 ·exact aE
theorem qT {T:bb}{c:eu}{K:eT->a8->Prop}{st:a8}(h:wp T c K st):wp T c (cD T K []) st:=by
 have:cD T K []=K:=by funext e st;cases e<;>rfl
 rwa [this]
theorem XQ (T:bb)(id:FuncId)(eP:List Data)(aQ:List Data->Option eN)(cL:T id=aU aQ)(p:bc->Bool)(l:List bc)(aw:fq l)(e8:∀a b c d,D b<=1000000->(D d)<=1000000->aQ (.agg [.int .i64 a,.Y (b.map ae),.int .i64 c,.Y (d.map ae)]::eP)=some (.same (.bool (p ((a,b),(c,d)))))):
  wp T GJ.body (zN GJ.res (.same (.int .i64 (kD p l)))) ⟨ka [.J (.Y (l.map aH)),.J (.fn id eP)],emp⟩:=by
 obtain⟨aw,cU⟩:=aw;refine qz ?_;simp only[GJ];simp only[go_sem,go_sem_proc,ak];refine dd [0,1,7] [] (λ(i:Nat) tm mem=>i<=D l/\(∀x∈l.take i,p x=false)/\tm 8=.J (.int .i64 i)) (λi=>D l-i) 0 (by refine⟨ft _,by simp,rfl⟩) ?_;intro vs ms aP aO;simp only[go_sem,go_sem_proc,ak] at aP aO;subst aP aO;rintro i tm mem O hm ⟨M,fg,ca⟩;simp only[go_sem,go_sem_proc,a3] at O hm;obtain⟨ar,G,bQ⟩:=O;have hM:∀m:Mem,(eP.map R.J).mapM (cC 6 m)=some eP:=λm=>tP (cC 6 m) (λd=>rfl) eP;rcases dn (i<D l) with az|b4
 ·have Q:=bs az;obtain⟨oR,uh⟩:=cU _ (m2 az);have cn:=λh=>Lx (p:=p) fg Q h;have hR:=λh=>P4 (p:=p) fg Q h;generalize l[i]=x at *;obtain⟨⟨a6,bY⟩,⟨c1,ec⟩⟩:=x;have mN:=e8 a6 bY c1 ec oR uh;have hs:decide ((i:Int)<(D l:Int))=true:=c6;have hw:=eA (i:=i) (by omega);rcases ag:p ((a6,bY),(c1,ec))
  ·rw[ag] at mN;simp only[go_sem,go_sem_proc,cL,ar,G,bQ,ca,Q,hs,hw,mN,hM,aH,ak,bj,ky];repeat' (first|refine ax ?_ ?_|fail)<;>intro h<;>simp only[h,go_sem,go_sem_proc,cL,ar,G,bQ,ca,Q,hs,hw,mN,hM,aH,ak,bj,ky]
   exact⟨i+1,by omega,by omega,hR ag,rfl⟩
  ·rw[ag] at mN;rw[cn ag];simp only[go_sem,go_sem_proc,cL,ar,G,bQ,ca,Q,hs,hw,mN,hM,aH,ak,bj,ky];repeat' (first|refine ax ?_ ?_|fail)<;>intro h<;>simp only[h,go_sem,go_sem_proc,cL,ar,G,bQ,ca,Q,hs,hw,mN,hM,aH,ak,bj,ky]
 ·have hs:decide ((i:Int)<(D l:Int))=false:=cY;obtain rfl:i=D l:=by omega
  rw[lC] at fg;rw[P3 fg];simp only[go_sem,go_sem_proc,ar,G,bQ,ca,hs,ak];repeat' (first|refine ax ?_ ?_|fail)<;>intro h<;>simp only[h,go_sem,go_sem_proc,ar,G,bQ,ca,hs,ak]
def Hl (f:FuncId):Prop:=f=oT\/(f=zY/\zY<900000)\/(f=vy/\vy<900000)
abbrev P5:(List bc)×FuncId->List Data:=λ(l,f)=>[.Y (l.map aH),.fn f (Hk f)]
def XR:=cj P5 λ(l,f)=>cM (fq l/\Hl f) (.same (.int .i64 (kD (p3 f) l)))
theorem agJ:∀a b,P5 a=P5 b->a=b:=by
  rintro⟨ei,f1⟩ ⟨ai,f2⟩ h;simp only[a3,Data.Y.injEq,Data.fn.injEq] at h;exact dS (map_inj mM _ _ h.1) h.2.1.1
@[go_sem] theorem aLm (l:List bc)(f:FuncId)(H:fq l/\Hl f):XR [.Y (l.map aH),.fn f (Hk f)]=some (.same (.int .i64 (kD (p3 f) l))):=(ct agJ (l,f)).trans (cR H _)
theorem aub (T:bb)(Lz:T oT=aU P2)(auc:zY<900000->T zY=aU agE)(aud:vy<900000->T vy=aU XP)(l:List bc)(f:FuncId)(H:fq l/\Hl f):WP T GJ (.same (.int .i64 (kD (p3 f) l))) [.J (.Y (l.map aH)),.J (.fn f (Hk f))]:=by
 refine cu ?_;simp only[GJ];obtain⟨aw,aJ⟩:=H;rcases aJ with rfl|⟨rfl,M⟩|⟨rfl,M⟩
 ·rw[aua];exact qT (XQ T _ _ _ Lz Hj l aw λa b c d G I=>at2 a b c d ⟨G,I⟩)
 ·rw[agH];exact qT (XQ T _ _ _ (auc M) (λx => !ef x||decide (x.1.1<0)) l aw λa b c d G I=>at4 a b c d ⟨G,I⟩)
 ·rw[agI];exact qT (XQ T _ _ _ (aud M) (λx => !(ef x&&decide (x.1.1>=0))) l aw λa b c d G I=>at7 a b c d ⟨G,I⟩)
def LA:=cj P5 λ(l,f)=>cM (fq l/\Hl f) (.same (.bool (l.any (p3 f))))
@[go_sem] theorem agK (l:List bc)(f:FuncId)(H:fq l/\Hl f):LA [.Y (l.map aH),.fn f (Hk f)]=some (.same (.bool (l.any (p3 f)))):=(ct agJ (l,f)).trans (cR H _)
theorem aue (T:bb)(auf:T Uw=aU XR)(l:List bc)(f:FuncId)(H:fq l/\Hl f):WP T Vy (.same (.bool (l.any (p3 f)))) [.J (.Y (l.map aH)),.J (.fn f (Hk f))]:=by
 refine cu ?_;simp only[Vy];rw[<-Ly];refine aX ?_;repeat' (intro h<;>simp only[h,go_sem,go_sem_proc,auf,H]<;>try refine ax ?_ ?_)
@[go_sem] theorem aLn (l:List bc)(h:fq l):LA [.Y (l.map aH),.fn oT []]=some (.same (.bool (l.any (p3 oT)))):=agK l oT ⟨h,.inl rfl⟩
def oY (n:Int)(r:eY):Bool:=!(((r.1.length:Int)==n)&&(ef r.2 && !(r.1.any Hj)))
abbrev XS:(List bc)×Int×(List Int)×Int×(List Int)×Int->List Data:=λ(a,s,l,s2,ai,n)=>[.agg [.Y (a.map aH),.int .i64 s,.Y (l.map ae),.int .i64 s2,.Y (ai.map ae)],.ptr [.int .i64 n],.ptr [.fn oT []]]
def XT:=cj XS λ(a,s,l,s2,ai,n)=>cM (fq a/\D l<=1000000/\D ai<=1000000) (.same (.bool (oY n (a,((s,l),(s2,ai))))))
theorem aug:∀a b,XS a=XS b->a=b:=by
  rintro⟨cW,s1,ei,Ca,Cb,iP⟩ ⟨de,s2,ai,Cc,Cd,jO⟩ h;simp only[a3,Data.agg.injEq,Data.int.injEq,Data.Y.injEq,Data.ptr.injEq] at h;exact dS (map_inj mM _ _ h.1.1) (dS h.1.2.1.2 (dS (map_inj e9 _ _ h.1.2.2.1) (dS h.1.2.2.2.1.2 (dS (map_inj e9 _ _ h.1.2.2.2.2.1) h.2.1.1.2))))
@[go_sem] theorem aLo (a:List bc)(s:Int)(l:List Int)(s2:Int)(ai:List Int)(n:Int)(H:fq a/\D l<=1000000/\D ai<=1000000):XT [.agg [.Y (a.map aH),.int .i64 s,.Y (l.map ae),.int .i64 s2,.Y (ai.map ae)],.ptr [.int .i64 n],.ptr [.fn oT []]]=some (.same (.bool (oY n (a,((s,l),(s2,ai)))))):=(ct aug (a,s,l,s2,ai,n)).trans (cR H _)
theorem auh (T:bb)(Lz:T oT=aU P2)(Hm:T Kw=aU LA)(a:List bc)(s:Int)(l:List Int)(s2:Int)(ai:List Int)(n:Int)(H:fq a/\D l<=1000000/\D ai<=1000000):WP T Xf (.same (.bool (oY n (a,((s,l),(s2,ai)))))) [.J (.agg [.Y (a.map aH),.int .i64 s,.Y (l.map ae),.int .i64 s2,.Y (ai.map ae)]),.J (.ptr [.int .i64 n]),.J (.ptr [.fn oT []])]:=by
 refine cu ?_;simp only[Xf];obtain⟨aN,b2,cp⟩:=H;unfold oY;rcases G:((D a:Int)==n)
 ·refine aX ?_;repeat' (intro h<;>simp only[h,go_sem,go_sem_proc,Lz,Hm,aN,b2,cp,G,ak]<;>try refine ax ?_ ?_)
 ·rcases I:ef ((s,l),(s2,ai))
  ·refine aX ?_;repeat' (intro h<;>simp only[h,go_sem,go_sem_proc,Lz,Hm,aN,b2,cp,G,I,ak]<;>try refine ax ?_ ?_)
  ·refine aX ?_;repeat' (intro h<;>simp only[h,go_sem,go_sem_proc,Lz,Hm,aN,b2,cp,G,I,ak,show (oT=oT)=True from by simp,true_or,Bool.not_not]<;>try refine ax ?_ ?_)
abbrev P6:(List eY)×Int->List Data:=λ(rs,n)=>[.Y (rs.map j0),.fn BJ [.ptr [.int .i64 n],.ptr [.fn oT []]]]
def XU:=cj P6 λ(rs,n)=>cM (rU rs) (.same (.int .i64 (kD (oY n) rs)))
theorem agL:∀a b,P6 a=P6 b->a=b:=by
  rintro⟨agM,iP⟩ ⟨agN,jO⟩ h;simp only[a3,Data.Y.injEq,Data.fn.injEq,Data.ptr.injEq,Data.int.injEq] at h;exact dS (map_inj XM _ _ h.1) h.2.1.2.1.1.2
@[go_sem] theorem aLp (rs:List eY)(n:Int)(H:rU rs):XU [.Y (rs.map j0),.fn BJ [.ptr [.int .i64 n],.ptr [.fn oT []]]]=some (.same (.int .i64 (kD (oY n) rs))):=(ct agL (rs,n)).trans (cR H _)
theorem aui (T:bb)(Ap:T BJ=aU XT)(rs:List eY)(n:Int)(H:rU rs):WP T VA (.same (.int .i64 (kD (oY n) rs))) [.J (.Y (rs.map j0)),.J (.fn BJ [.ptr [.int .i64 n],.ptr [.fn oT []]])]:=by
 refine cu ?_;simp only[VA];obtain⟨aw,cU⟩:=H;simp only[go_sem,go_sem_proc,Ap,ak];refine dd [0,1,7] [] (λ(i:Nat) tm mem=>i<=D rs/\(∀x∈rs.take i,oY n x=false)/\tm 8=.J (.int .i64 i)) (λi=>D rs-i) 0 (by refine⟨ft _,?_,rfl⟩;simp) ?_;intro vs ms aP aO;simp only[go_sem,go_sem_proc,Ap,ak] at aP aO;subst aP aO;rintro i tm mem O hm ⟨M,fg,ca⟩;simp only[go_sem,go_sem_proc,Ap,a3] at O hm;obtain⟨ar,G,bQ⟩:=O;rcases dn (i<D rs) with az|b4
 ·have Q:=bs az;obtain⟨rT,oR,uh⟩:=cU _ (m2 az);have cn:=λh=>Lx (p:=oY n) fg Q h;have hR:=λh=>P4 (p:=oY n) fg Q h;generalize rs[i]=x at *;have hs:decide ((i:Int)<(D rs:Int))=true:=c6;have hw:=eA (i:=i) (by omega);obtain⟨a,⟨a6,bY⟩,⟨c1,ec⟩⟩:=x;dsimp only at rT oR uh;rcases ag:oY n (a,((a6,bY),(c1,ec)))
  ·simp only[go_sem,go_sem_proc,Ap,ar,G,bQ,ca,Q,hs,hw,rT,oR,uh,ag,ak,bj,j0,aH];repeat' (first|refine ax ?_ ?_|fail)<;>intro h<;>simp only[h,go_sem,go_sem_proc,Ap,ar,G,bQ,ca,Q,hs,hw,rT,oR,uh,ag,ak,bj,j0,aH]
   exact⟨i+1,by omega,by omega,hR ag,rfl⟩
  ·rw[cn ag];simp only[go_sem,go_sem_proc,Ap,ar,G,bQ,ca,Q,hs,hw,rT,oR,uh,ag,ak,bj,j0,aH];repeat' (first|refine ax ?_ ?_|fail)<;>intro h<;>simp only[h,go_sem,go_sem_proc,Ap,ar,G,bQ,ca,Q,hs,hw,rT,oR,uh,ag,ak,bj,j0,aH]
 ·have hs:decide ((i:Int)<(D rs:Int))=false:=cY;have ha:i=D rs:=by omega
  subst ha;rw[lC] at fg;rw[P3 fg];simp only[go_sem,go_sem_proc,Ap,ar,G,bQ,ca,hs,ak];repeat' (first|refine ax ?_ ?_|fail)<;>intro h<;>simp only[h,go_sem,go_sem_proc,Ap,ar,G,bQ,ca,hs,ak]
def XV:=cj P6 λ(rs,n)=>cM (rU rs) (.same (.bool (rs.any (oY n))))
@[go_sem] theorem aLq (rs:List eY)(n:Int)(H:rU rs):XV [.Y (rs.map j0),.fn BJ [.ptr [.int .i64 n],.ptr [.fn oT []]]]=some (.same (.bool (rs.any (oY n)))):=(ct agL (rs,n)).trans (cR H _)
theorem auj (T:bb)(auk:T Uv=aU XU)(rs:List eY)(n:Int)(H:rU rs):WP T Vx (.same (.bool (rs.any (oY n)))) [.J (.Y (rs.map j0)),.J (.fn BJ [.ptr [.int .i64 n],.ptr [.fn oT []]])]:=by
 refine cu ?_;simp only[Vx];rw[<-Ly];refine aX ?_;repeat' (intro h<;>simp only[h,go_sem,go_sem_proc,auk,H]<;>try refine ax ?_ ?_)
def oe (rs:List eY)(n:Int):Bool:=!(decide (n<0))&&(!(decide (n>40))&&(((D rs:Int)==n) && !(rs.any (oY n))))
abbrev P7:(List eY)×Int->List Data:=λ(rs,n)=>[.Y (rs.map j0),.int .i64 n]
def XW:=cj P7 λ(rs,n)=>cM (rU rs) (.same (.bool (oe rs n)))
theorem agO:∀a b,P7 a=P7 b->a=b:=by
  rintro⟨agM,iP⟩ ⟨agN,jO⟩ h;simp only[a3,Data.Y.injEq,Data.int.injEq] at h;exact dS (map_inj XM _ _ h.1) h.2.1.2
@[go_sem] theorem aLr (rs:List eY)(n:Int)(H:rU rs):XW [.Y (rs.map j0),.int .i64 n]=some (.same (.bool (oe rs n))):=(ct agO (rs,n)).trans (cR H _)
theorem aul (T:bb)(P8:T Up=aU XV)(rs:List eY)(n:Int)(H:rU rs):WP T Xc (.same (.bool (oe rs n))) [.J (.Y (rs.map j0)),.J (.int .i64 n)]:=by
 refine cu ?_;simp only[Xc];unfold oe;rcases G:decide (n<0)
 ·rcases I:decide (n>40)
  ·rcases af:((D rs:Int)==n)
   ·refine aX ?_;repeat' (intro h<;>simp only[h,go_sem,go_sem_proc,P8,H,G,I,af,ak]<;>try refine ax ?_ ?_)
   ·refine aX ?_;repeat' (intro h<;>simp only[h,go_sem,go_sem_proc,P8,H,G,I,af,ak,cC,nW,kE,scalar]<;>try refine ax ?_ ?_)
  ·refine aX ?_;repeat' (intro h<;>simp only[h,go_sem,go_sem_proc,P8,H,G,I,ak]<;>try refine ax ?_ ?_)
 ·refine aX ?_;repeat' (intro h<;>simp only[h,go_sem,go_sem_proc,P8,H,G,ak]<;>try refine ax ?_ ?_)
theorem aum {es:List (List Data)}(h:∀x∈es,Fit (.int .i64) x):∃l:List Int,es=l.map ae:=by
 obtain⟨l,e,-⟩:=OB (e:=ae) (good:=λ_=>True) λx Q=>by
  have:=h x Q;simp only[Fit] at this;obtain⟨n,rfl,-⟩:=this;exact⟨n,rfl,trivial⟩
 exact⟨l,e⟩
theorem aun {n:Int}(h:(Lit.int .u8 n).wf=true):∃m:Nat,n=m/\m<256:=by
 have:0<=n/\n<=255:=by simpa [Lit.wf,IntKind.min,IntKind.max,IntKind.signed,IntKind.bits] using h
 exact⟨n.toNat,by omega,by omega⟩
def XX:bP:=b8 28 1 [.cell 2 2 true] (U [(aD 2 (.alloc 144002 [(al 0),.nil]))] (.seq (U [F 6 0,a5 7 .eql 6 0] (aY 7 (U [(aD 8 (.build [(al 0),.nil] [])),bp 2 2 8] .ret) .skip)) (U [br 3 1] (.seq (U [F 9 0,a5 10 .lss 9 0] (aY 10 (.ops [(aD 3 (.cm (.c (.J (.int .i64 (-1))))))]) .skip)) (U [eo 4] (.seq (.block 0 (.ghost (.nj 4 144022 1) (.loop  (.seq (U [F 11 0,a5 12 .neq 11 0] (aY 12 .skip (.exit 0))) (.block 1 (U [F 13 0,a5 14 .rem 13 1048576,F 5 14] (.seq (U [F 15 5,a5 16 .lss 15 0] (aY 16 (.ops [F 17 5,(aD 18 (.un .neg (.t 17))),F 5 18]) .skip)) (U [F 19 4,F 20 5,(aD 21 (.e0 144021 false [(al 0)] 1 1 [(0,1,(.t 20))])),(aD 22 (.app 144022 [(al 0)] 8 (.t 19) (.t 21))),F 4 22] (.ops [F 23 0,a5 24 .quo 23 1048576,F 0 24]))))))))) (.seq (.ghost (.freeze 4) (.ops [F 25 3,F 26 4,(cv 27 vv 25 26),bp 2 2 27])) .ret)))))))
def XY:bP:=b8 60 1 [.t 2] (U [dL 1 162001 0,cA 2 false] (.seq (U [br 3 0] (.block 0 (.loop  (.seq (U [F 5 3,bf 6 1 1,aV 7 1 6,b6 8 7,bo 9 .lss 5 8] (aY 9 .skip (.exit 0))) (.seq (.block 1 (U [bf 12 1 1,aV 13 1 12,F 14 3,bH 15 1 13 14,aV 16 1 15,a5 17 .lss 16 0,F 18 17,⟨some 19,some (18,false),.dY 1 (.t 1)⟩,⟨some 20,some (18,false),.load 1 false (.t 19)⟩,⟨some 21,some (18,false),.cm (.t 3)⟩,⟨some 22,some (18,false),.kO 1 (.t 20) (.t 21)⟩,⟨some 23,some (18,false),.load 1 false (.t 22)⟩,⟨some 24,some (18,false),.bin .geq (.t 23) (.c (al 1048576))⟩,eh 25 18 24] (aY 25 (U [cA 2 false] .ret) .skip))) (.ops [F 10 3,a5 11 .add 10 1,F 3 11])))))) (U [bf 26 1 1,aV 27 1 26,b6 28 27,F 4 28] (.seq (U [bf 29 0 1,aV 30 1 29,(aD 31 (.bin .lss (.t 30) (.c (.J (.int .i64 (-1)))))),F 32 31,⟨some 33,some (32,false),.dY 0 (.t 1)⟩,⟨some 34,some (32,false),.load 1 false (.t 33)⟩,⟨some 35,some (32,false),.bin .gtr (.t 34) (.c (al 1))⟩,eh 36 32 35,F 37 36,⟨some 38,some (37,false),.cm (.t 4)⟩,⟨some 39,some (37,false),.bin .gtr (.t 38) (.c (al 60))⟩,eh 40 37 39,F 41 40,⟨some 42,some (41,false),.cm (.t 4)⟩,⟨some 43,some (41,false),.bin .eql (.t 42) (.c (al 0))⟩,⟨some 44,some (41,false),.dY 0 (.t 1)⟩,⟨some 45,some (41,false),.load 1 false (.t 44)⟩,⟨some 46,some (41,false),.bin .eql (.t 45) (.c (al 0))⟩,⟨some 47,some (41,false),.beq true (.t 43) (.t 46)⟩,eh 48 41 47] (aY 48 (U [cA 2 false] .ret) .skip)) (U [F 49 4,a5 50 .eql 49 0,F 51 50,⟨some 52,some (51,false),.dY 1 (.t 1)⟩,⟨some 53,some (51,false),.load 1 false (.t 52)⟩,⟨some 54,some (51,false),.cm (.t 4)⟩,⟨some 55,some (51,false),.bin .sub (.t 54) (.c (al 1))⟩,⟨some 56,some (51,false),.kO 1 (.t 53) (.t 55)⟩,⟨some 57,some (51,false),.load 1 false (.t 56)⟩,⟨some 58,some (51,false),.bin .neq (.t 57) (.c (al 0))⟩,eh 59 51 58,F 2 59] .ret)))))
def XZ:bP:=b8 13 1 [.cell 2 2 true] (U [dL 1 163001 0,(aD 2 (.alloc 163002 [(al 0),.nil]))] (.seq (U [bn 3 2 1,(dQ 4 vu 3),fh 5 4] (aY 5 (U [(aD 6 (.build [(al 0),.nil] [])),bp 2 2 6] .ret) .skip)) (U [bf 7 0 1,aV 8 1 7,(aD 9 (.un .neg (.t 8))),bf 10 1 1,aV 11 1 10,(cv 12 vv 9 11),bp 2 2 12] .ret)))
def X0:bP:=b8 36 2 [.cell 4 2 true,.t 5] (U [dL 2 164002 0,dL 3 164003 1,(aD 4 (.alloc 164004 [(al 0),.nil])),br 5 0] (.seq (U [bn 10 2 2,(dQ 11 vu 10),fh 12 11,F 13 12,⟨some 14,some (13,false),.load 2 true (.t 3)⟩,⟨some 15,some (13,false),.call vu [(.t 14)]⟩,⟨some 16,some (13,false),.un .not (.t 15)⟩,eh 17 13 16] (aY 17 (U [(aD 18 (.build [(al 0),.nil] [])),bp 2 4 18,br 5 1] .ret) .skip)) (U [bf 19 1 2,aV 20 1 19,F 6 20] (U [bf 21 1 3,aV 22 1 21,F 7 22] (.seq (.block 0 (.loop  (.seq (U [F 23 7,b6 24 23,a5 25 .gtr 24 0] (aY 25 .skip (.exit 0))) (.block 1 (U [F 27 6,F 28 7,(cv 29 KC 27 28),F 26 29,bA 30 0 26,bA 31 1 26,F 8 30,F 9 31] (U [F 32 7,F 6 32] (.ops [F 33 9,F 7 33]))))))) (U [F 34 6,(aD 35 (.call vv [(.c (al 1)),(.t 34)])),bp 2 4 35,br 5 0] .ret))))))
def X1:bP:=b8 65 2 [.cell 4 2 true,.cell 5 2 true,.t 6] (U [dL 2 165002 0,dL 3 165003 1,(aD 4 (.alloc 165004 [(al 0),.nil])),(aD 5 (.alloc 165005 [(al 0),.nil])),br 6 0] (.seq (U [bn 9 2 2,(dQ 10 vu 9),fh 11 10,F 12 11,⟨some 13,some (12,false),.load 2 true (.t 3)⟩,⟨some 14,some (12,false),.call vu [(.t 13)]⟩,⟨some 15,some (12,false),.un .not (.t 14)⟩,eh 16 12 15] (aY 16 (U [(aD 17 (.build [(al 0),.nil] [])),(aD 18 (.build [(al 0),.nil] [])),bp 2 4 17,bp 2 5 18,br 6 1] .ret) .skip)) (.seq (U [bf 19 0 3,aV 20 1 19,a5 21 .eql 20 0] (aY 21 (U [(aD 22 (.build [(al 0),.nil] [])),(aD 23 (.build [(al 0),.nil] [])),bp 2 4 22,bp 2 5 23,br 6 15] .ret) .skip)) (U [bf 25 1 2,aV 26 1 25,bf 27 1 3,aV 28 1 27,(cv 29 KC 26 28),F 24 29,bA 30 0 24,bA 31 1 24,F 7 30,F 8 31] (.seq (U [bf 32 0 2,aV 33 1 32,bf 34 0 3,aV 35 1 34,bo 36 .mul 33 35,a5 37 .geq 36 0,F 38 37,⟨some 39,some (38,false),.cm (.t 8)⟩,⟨some 40,some (38,false),.len (.t 39)⟩,⟨some 41,some (38,false),.bin .eql (.t 40) (.c (al 0))⟩,eh 42 38 41] (aY 42 (fD [bf 43 0 2,aV 44 1 43,bf 45 0 3,aV 46 1 45,bo 47 .mul 44 46,F 48 7,(cv 49 vv 47 48),bf 50 0 2,aV 51 1 50,F 52 8,(cv 53 vv 51 52),bp 2 4 49,bp 2 5 53,br 6 0] KP .ret) .skip)) (fD [F 54 7,(aD 55 (.e0 165055 false [(al 0)] 1 1 [(0,1,(.c (al 1)))])),(cv 56 UG 54 55),(aD 57 (.call vv [(.c (.J (.int .i64 (-1)))),(.t 56)])),bf 58 0 3,aV 59 1 58,bf 60 1 3,aV 61 1 60,F 62 8,(cv 63 KD 61 62),(cv 64 vv 59 63),bp 2 4 57,bp 2 5 64,br 6 0] KP .ret))))))
def X2:bP:=b8 15 2 [.cell 4 2 true] (U [(aD 4 (.alloc 166004 [(al 0),.nil]))] (U [F 6 1,(dQ 7 tT 6),F 5 7] (.seq (U [F 8 5,b6 9 8,a5 10 .eql 9 0] (aY 10 (U [(aD 11 (.build [(al 0),.nil] [])),bp 2 4 11] .ret) .skip)) (U [F 12 0,F 13 5,(aD 14 (.build [(al 0),.nil] [(0,1,(.t 12)),(1,1,(.t 13))])),bp 2 4 14] .ret))))
def LB:bP:=b8 60 2 [.t 4,.t 5] (U [eo 4,eo 5] (U [F 12 0,b6 13 12,(aD 14 (.mn 180014 [(al 0)] 8 (.t 13) (.t 13))),F 6 14] (U [eo 7] (.seq (U [F 15 0,b6 16 15,a5 17 .sub 16 1,F 8 17] (.block 0 (.loop  (.seq (U [F 18 8,a5 19 .geq 18 0] (aY 19 .skip (.exit 0))) (.seq (.block 1 (U [F 22 0,F 23 8,bH 24 1 22 23,aV 25 1 24,(aD 26 (.e0 180026 true [(al 0)] 1 1 [(0,1,(.t 25))])),F 27 7,(aD 28 (.app 180028 [(al 0)] 8 (.t 26) (.t 27))),(dQ 29 tT 28),F 7 29] (U [br 9 0] (U [br 10 1048576] (.seq (.block 2 (.loop  (.seq (U [F 30 10,F 31 9,bo 32 .sub 30 31,a5 33 .gtr 32 1] (aY 33 .skip (.exit 2))) (.block 3 (U [F 34 9,F 35 10,bo 36 .add 34 35,a5 37 .quo 36 2,F 11 37] (U [F 38 7,F 39 1,F 40 11,(aD 41 (.e0 180041 false [(al 0)] 1 1 [(0,1,(.t 40))])),(cv 42 KE 39 41),(cv 43 OL 38 42)] (aY 43 (.ops [F 44 11,F 10 44]) (.ops [F 45 11,F 9 45])))))))) (U [F 46 6,F 47 8,F 48 9,bH 49 1 46 47,bp 1 49 48] (.ops [F 50 7,F 51 1,F 52 9,(aD 53 (.e0 180053 false [(al 0)] 1 1 [(0,1,(.t 52))])),(dQ 54 tT 53),(cv 55 KE 51 54),(cv 56 KD 50 55),F 7 56]))))))) (.ops [F 20 8,a5 21 .sub 20 1,F 8 21])))))) (U [F 57 6,(dQ 58 tT 57),F 59 7,F 4 58,F 5 59] .ret)))))
def X3:bP:=b8 43 2 [.t 4] (U [eo 4] (U [eo 5] (U [br 6 0] (.seq (U [br 7 0] (.block 0 (.ghost (.nj 5 181038 1) (.loop  (.seq (U [F 9 7,F 10 0,b6 11 10,bo 12 .lss 9 11,F 13 12,⟨some 14,some (13,false),.cm (.t 7)⟩,⟨some 15,some (13,false),.cm (.t 1)⟩,⟨some 16,some (13,false),.len (.t 15)⟩,⟨some 17,some (13,false),.bin .lss (.t 14) (.t 16)⟩,eh 18 13 17,F 19 18,⟨some 20,some (19,false),.cm (.t 6)⟩,⟨some 21,some (19,false),.bin .gtr (.t 20) (.c (al 0))⟩,eh 22 19 21] (aY 22 .skip (.exit 0))) (.seq (.block 1 (U [F 25 0,F 26 7,(cv 27 tU 25 26),F 28 1,F 29 7,(cv 30 tU 28 29),bo 31 .add 27 30,F 32 6,bo 33 .add 31 32,F 8 33] (U [F 34 5,F 35 8,a5 36 .rem 35 1048576,(aD 37 (.e0 181037 false [(al 0)] 1 1 [(0,1,(.t 36))])),(aD 38 (.app 181038 [(al 0)] 8 (.t 34) (.t 37))),F 5 38] (.ops [F 39 8,a5 40 .quo 39 1048576,F 6 40])))) (.ops [F 23 7,a5 24 .add 23 1,F 7 24]))))))) (U [F 41 5,(dQ 42 tT 41),F 4 42] .ret)))))
def X4:bP:=b8 35 2 [.t 4] (U [eo 4] (U [eo 5] (U [br 6 0] (.seq (U [br 7 0] (.block 0 (.ghost (.nj 5 182032 1) (.loop  (.seq (U [F 9 7,F 10 0,b6 11 10,bo 12 .lss 9 11] (aY 12 .skip (.exit 0))) (.seq (.block 1 (fD [F 15 0,F 16 7,bH 17 1 15 16,aV 18 1 17,F 19 1,F 20 7,(cv 21 tU 19 20),bo 22 .sub 18 21,F 23 6,bo 24 .sub 22 23,F 8 24] KO (U [br 6 0] (.seq (U [F 25 8,a5 26 .lss 25 0] (aY 26 (U [F 27 8,a5 28 .add 27 1048576,F 8 28] (.ops [br 6 1])) .skip)) (.ops [F 29 5,F 30 8,(aD 31 (.e0 182031 false [(al 0)] 1 1 [(0,1,(.t 30))])),(aD 32 (.app 182032 [(al 0)] 8 (.t 29) (.t 31))),F 5 32]))))) (.ops [F 13 7,a5 14 .add 13 1,F 7 14]))))))) (U [F 33 5,(dQ 34 tT 33),F 4 34] .ret)))))
def X5:bP:=b8 23 1 [.t 2] (U [eo 2] (U [F 4 0,b6 5 4,F 3 5] (.seq (.block 0 (.loop  (.seq (U [F 6 3,a5 7 .gtr 6 0,F 8 7,⟨some 9,some (8,true),.cm (.t 0)⟩,⟨some 10,some (8,true),.cm (.t 3)⟩,⟨some 11,some (8,true),.bin .sub (.t 10) (.c (al 1))⟩,⟨some 12,some (8,true),.kO 1 (.t 9) (.t 11)⟩,⟨some 13,some (8,true),.load 1 false (.t 12)⟩,⟨some 14,some (8,true),.bin .eql (.t 13) (.c (al 0))⟩,fN 15 8 14] (aY 15 .skip (.exit 0))) (.block 1 (.ops [F 16 3,a5 17 .sub 16 1,F 3 17]))))) (U [(aD 18 (.e0 183018 true [] 1 0 [])),F 19 0,F 20 3,(aD 21 (.oH 1 (.t 19) none (some (.t 20)) none)),(aD 22 (.app 183022 [(al 0)] 8 (.t 18) (.t 21))),F 2 22] .ret))))
def X6:bP:=b8 30 2 [.t 4] (U [cA 4 false] (.seq (U [F 6 0,b6 7 6,F 8 1,b6 9 8,(aD 10 (.il true (.t 7) (.t 9))),a5 11 .sub 10 1,F 5 11] (.block 0 (.loop  (.seq (U [F 12 5,a5 13 .geq 12 0] (aY 13 .skip (.exit 0))) (.seq (.block 1 (U [F 16 0,F 17 5,(cv 18 tU 16 17),F 19 1,F 20 5,(cv 21 tU 19 20),bo 22 .neq 18 21] (aY 22 (U [F 23 0,F 24 5,(cv 25 tU 23 24),F 26 1,F 27 5,(cv 28 tU 26 27),bo 29 .lss 25 28,F 4 29] .ret) .skip))) (.ops [F 14 5,a5 15 .sub 14 1,F 5 15])))))) (U [cA 4 false] .ret)))
def X7:bP:=b8 60 2 [.t 4] (U [eo 4] (U [F 10 0,b6 11 10,F 12 1,b6 13 12,bo 14 .add 11 13,(aD 15 (.mn 186015 [(al 0)] 8 (.t 14) (.t 14))),F 5 15] (.seq (U [br 6 0] (.block 0 (.loop  (.seq (U [F 16 6,F 17 0,b6 18 17,bo 19 .lss 16 18] (aY 19 .skip (.exit 0))) (.seq (.block 1 (U [br 7 0] (U [br 8 0] (.block 2 (.loop  (.seq (U [F 22 8,F 23 1,b6 24 23,bo 25 .lss 22 24,F 26 25,⟨some 27,some (26,false),.cm (.t 7)⟩,⟨some 28,some (26,false),.bin .gtr (.t 27) (.c (al 0))⟩,eh 29 26 28] (aY 29 .skip (.exit 2))) (.seq (.block 3 (fD [F 32 5,F 33 6,F 34 8,bo 35 .add 33 34,bH 36 1 32 35,aV 37 1 36,F 38 0,F 39 6,bH 40 1 38 39,aV 41 1 40,F 42 1,F 43 8,(cv 44 tU 42 43),bo 45 .mul 41 44,bo 46 .add 37 45,F 47 7,bo 48 .add 46 47,F 9 48] afb (U [F 49 5,F 50 6,F 51 8,bo 52 .add 50 51,F 53 9,a5 54 .rem 53 1048576,bH 55 1 49 52,bp 1 55 54] (.ops [F 56 9,a5 57 .quo 56 1048576,F 7 57])))) (.ops [F 30 8,a5 31 .add 30 1,F 8 31])))))))) (.ops [F 20 6,a5 21 .add 20 1,F 6 21])))))) (U [F 58 5,(dQ 59 tT 58),F 4 59] .ret))))
def X8:bP:=b8 13 2 [.t 4] (U [br 4 0] (.seq (U [F 5 1,F 6 0,b6 7 6,bo 8 .lss 5 7] (aY 8 (U [F 9 0,F 10 1,bH 11 1 9 10,aV 12 1 11,F 4 12] .ret) .skip)) (U [br 4 0] .ret)))
theorem Hn (l:List Int):wN (.own 1 (l.map ae))=some (.own 1 (l.map ae)):=by
 refine ad ?_;rw[List.all_eq_true];intro e he;obtain⟨d,-,rfl⟩:=List.mem_map.1 he;simp[ae,scalar]
theorem xk (n k g sz off len:Nat):cC n emp (.ref k g sz off len)=none:=by cases n<;>rfl
def Cp:=cj GK λ(l:List Int)=>cM (D l<=1000000) (.own 1 ((fI l).map ae))
@[go_sem] theorem EI (l:List Int)(H:(D l)<=1000000):Cp [.Y (l.map ae)]=some (.own 1 ((fI l).map ae)):=(ct OZ l).trans (cR H _)
theorem auo (T:bb)  (l:List Int) (H:(D l)<=1000000):WP T X5 (.own 1 ((fI l).map ae)) [.J (.Y (l.map ae))]:=by
 refine cu ?_;simp only[X5];have ry:((l.map ae).all λe=>D e==1)=true:=by simp[ae]
 refine aX ?_;repeat' (intro h<;>simp only[h,go_sem,go_sem_proc,ak]<;>try refine ax ?_ ?_)
 refine dd [0] [] (λ(n:Nat) tm mem=>n<=D l/\fI l=fI (l.take n)/\tm 3=.J (.int .i64 n)/\mem 183018=none) (λn=>n) (D l) (by refine⟨b0 _,by simp,by simp[go_sem],rfl⟩) ?_;intro vs ms aP aO;simp only[go_sem,go_sem_proc,ak] at aP aO;subst aP aO;rintro n tm mem O-⟨aK,bz,af,X9⟩;simp only[go_sem,go_sem_proc,a3] at O;have ar:=O
 have dz:∀o:List Int,D o<=(D l)->mq 183018 0 1 0 8 (D o) ((o.map ae).flatten.map .J) (some (0,[]))=some (.ref 183018 1 1 0 (D o),some (183018,1,a9 ae o)):=by
  intro o bO;have:=DO hB vn 183018 0 8 [] o (by simp;omega) (by simp;omega)
  simpa [a9] using this
 have my:∀(o:List Int) (m:Mem),m 183018=some (1,a9 ae o)->rE 1 m (.ref 183018 1 1 0 (D o))=some (o.map ae):=by
  intro o m hm;have:=afj hm (b0 _);rwa [dr (b0 _)] at this
 have aup:∀o:List Int,((o.map ae).all λe=>D e==1)=true:=λo=>by simp[ae]
 rcases n with _|n
 ·have G:=dz [] (by simp);have bO:=my [];simp only[cZ,agP,kZ] at G bO;refine aX ?_;repeat' (intro h<;>simp only[h,go_sem,go_sem_proc,ar,af,X9,ry,G,ly,l4,show ¬ ((0:Int)>0) by omega,decide_false,ak,show (0:Int).toNat=0 from rfl,show (0:Int)<=0 by omega,ft,List.take_zero,cZ,kZ]<;>try refine ax ?_ ?_)
  rw[bO _ (by simp[a2]),bz];simp[fI]
 ·have hw:IntKind.i64.wrap (((n+1:Nat):Int)-1)=(n:Int):=by rw[e2 _];omega
  have Q:l[n]?=some l[n]:=bs (by omega);have h7:((n+1:Nat):Int)>0:=by omega
  have hle:n+1<=D l:=aK
  by_cases aW:l[n]=0
  ·refine aX ?_;repeat' (intro h<;>simp only[h,go_sem,go_sem_proc,ar,af,hw,Q,aW,h7,ak,bj,decide_true,ae,beq_self_eq_true,a3]<;>try refine ax ?_ ?_)
   exact⟨n,by omega,by omega,by rw[bz,VI l n (by omega) aW],rfl,X9⟩
  ·have qH:(l[n]==0)=false:=by simpa using aW
   have G:=dz (l.take (n+1)) (by rw[gF];omega);rw[gF,oO hle,Aq] at G;have cp:(List.take (n+1) (l.map ae)).length=n+1:=by rw[gF,ak];omega
   have agQ:=aup (l.take (n+1));rw[Aq] at agQ;refine aX ?_;repeat' (intro h<;>simp only[h,go_sem,go_sem_proc,ar,af,X9,hw,Q,qH,h7,ry,agQ,hle,G,cp,ae,ak,bj,decide_true,a3,show (0:Int)<=((n+1:Nat):Int) by omega,lz,ft]<;>try refine ax ?_ ?_)
   have bO:=my (l.take (n+1)) _ (show a2 (a2 mem 183018 0 []) 183018 1 (a9 ae (List.take (n+1) l)) 183018=_ by simp[a2])
   rw[gF,oO hle] at bO;rw[bO,bz,VJ l n (by omega) aW]
abbrev Ya:(List Int)×Nat->List Data:=λ(l,i)=>[.Y (l.map ae),.int .i64 i]
def Ho:=cj Ya λ(l,i)=>cM (D l<=1000000) (.same (.int .i64 (l.getD i 0)))
theorem auq:∀a b,Ya a=Ya b->a=b:=by
  rintro⟨ei,i1⟩ ⟨ai,i2⟩ h;simp only[a3,Data.Y.injEq,Data.int.injEq] at h;exact dS (map_inj e9 _ _ h.1) (by have:=h.2.1.2;dsimp only;omega)
@[go_sem] theorem agR (l:List Int)(i:Nat)(H:(D l)<=1000000):Ho [.Y (l.map ae),.int .i64 i]=some (.same (.int .i64 (l.getD i 0))):=(ct auq (l,i)).trans (cR H _)
theorem aur (T:bb)  (l:List Int) (i:Nat) (H:(D l)<=1000000):WP T X8 (.same (.int .i64 (l.getD i 0))) [.J (.Y (l.map ae)),.J (.int .i64 i)]:=by
 refine cu ?_;simp only[X8];rcases iq i (D l) with az|b4
 ·have Q:=bs az;have aa:decide ((i:Int)<(D l:Int))=true:=c6;have ba:l.getD i 0=l[i]:=by rw[dX,Q];rfl
  rw[ba];refine aX ?_;repeat' (intro h<;>simp only[h,go_sem,go_sem_proc,Q,aa,ae,ak,bj]<;>try refine ax ?_ ?_)
 ·have aa:decide ((i:Int)<(D l:Int))=false:=cY;have ba:l.getD i 0=0:=by rw[dX,mr b4];rfl
  rw[ba];refine aX ?_;repeat' (intro h<;>simp only[h,go_sem,go_sem_proc,aa,ak]<;>try refine ax ?_ ?_)
theorem Hp (n i:Nat):(aL n).getD i 0=((n/1048576^i%1048576:Nat):Int):=by
 induction i generalizing n with
 |zero =>
  rcases kW n with h|h
  ·subst h;rfl
  ·rw[vo h,Nat.pow_zero,Nat.div_one];rfl
 |succ i aA =>
  rcases kW n with h|h
  ·subst h;rw[WE];rfl
  ·rw[vo h];show (aL (n/1048576)).getD i 0=_;rw[aA,agS,<-Nat.pow_succ']
theorem Hq (n i:Nat):n/1048576^i=n/1048576^i%1048576+1048576*(n/1048576^(i+1)):=by
 rw[wQ,<-agS];omega
theorem Cq {n k:Nat}(h:(aL n).length<=k):n/1048576^k=0:=Nat.div_eq_of_lt (gS.1 h)
def P9:=cj vB λ(x,y)=>cM ((aL x).length<=100000/\(aL y).length<=100000) (.same (.bool (decide (x<y))))
@[go_sem] theorem aus (x:Nat)(y:Nat)(H:(aL x).length<=100000/\(aL y).length<=100000):P9 [b3 x,b3 y]=some (.same (.bool (decide (x<y)))):=(ct yz (x,y)).trans (cR H _)
theorem aut (T:bb)(gz:T tU=aU Ho)(x:Nat)(y:Nat)(H:(aL x).length<=100000/\(aL y).length<=100000):WP T X6 (.same (.bool (decide (x<y)))) [.J (b3 x),.J (b3 y)]:=by
 refine cu ?_;simp only[X6];obtain⟨Q,av⟩:=H;have na:∃bg:Nat,bg=max (aL x).length (aL y).length:=⟨_,rfl⟩;obtain⟨bg,na⟩:=na;have h6:(if ((aL y).length:Int)>((aL x).length:Int) then ((aL y).length:Int) else ((aL x).length:Int))=(bg:Int):=by split<;>omega
 have B6:IntKind.i64.wrap ((bg:Int)-1)=(bg:Int)-1:=wrap64 _ (by omega) (by omega);have ob:(aL x).length<=1000000:=by omega
 have k2:(aL y).length<=1000000:=by omega
 simp only[go_sem,go_sem_proc,gz,b3,ak,h6,B6];refine dd [0,1] [] (λ(i:Nat) tm mem=>i<=bg/\x/1048576^i=y/1048576^i/\tm 5=.J (.int .i64 ((i:Int)-1))) (λi=>i) bg (by refine⟨b0 _,?_,rfl⟩;rw[Cq (by omega),Cq (by omega)]) ?_;intro vs ms aP aO;simp only[go_sem,go_sem_proc,gz,b3] at aP aO;subst aP aO;rintro i tm mem O-⟨M,he,bm⟩;simp only[go_sem,go_sem_proc,gz,a3] at O;obtain⟨ar,G⟩:=O;rcases i with _|i
 ·have lW:x=y:=by simpa using he
  have az:decide (x<y)=false:=cY;rw[az];simp only[go_sem,go_sem_proc,gz,ar,G,bm,ly,l4,show ¬ ((0:Int)-1>=0) by omega,decide_false]
  repeat' (first|refine ax ?_ ?_|fail)<;>intro h<;>simp only[h,go_sem,go_sem_proc,gz,ar,G,bm,ly,l4,show ¬ ((0:Int)-1>=0) by omega,decide_false]
 ·have hw:((i+1:Nat):Int)-1=(i:Int):=by omega
  have b4:decide ((i:Int)>=0)=true:=c6;have ay:=Hq x i;have aC:=Hq y i;rw[he] at ay;have fy:IntKind.i64.wrap ((i:Int)-1)=(i:Int)-1:=wrap64 _ (by omega) (by omega);have cz:=Hp x i;have cf:=Hp y i;have dh:=qM (x/1048576^i) (show 0<1048576 by omega);have eH:=qM (y/1048576^i) (show 0<1048576 by omega);have b2:x/1048576^i<y/1048576^i->x<y:=λh=>agT h;have cp:y/1048576^i<x/1048576^i->y<x:=λh=>agT h;generalize ny:x/1048576^i=df at *;generalize Af:y/1048576^i=gj at *;generalize y/1048576^(i+1)=Z at *;generalize df%1048576=a at *;generalize gj%1048576=b at *;rcases Nat.lt_trichotomy a b with h|h|h
  ·have bG:((a:Int)==(b:Int))=false:=by simp;omega
   have Ar:decide ((a:Int)<(b:Int))=decide (x<y):=by rw[lQ (show (a:Int)<(b:Int) by omega),lQ (b2 (by omega))]
   simp only[go_sem,go_sem_proc,gz,ar,G,bm,hw,b4,cz,cf,ob,k2,bG,Ar];repeat' (first|refine ax ?_ ?_|fail)<;>intro h<;>simp only[h,go_sem,go_sem_proc,gz,ar,G,bm,hw,b4,cz,cf,ob,k2,bG,Ar]
  ·subst h;simp only[go_sem,go_sem_proc,gz,ar,G,bm,hw,b4,cz,cf,ob,k2,fy,beq_self_eq_true];repeat' (first|refine ax ?_ ?_|fail)<;>intro h<;>simp only[h,go_sem,go_sem_proc,gz,ar,G,bm,hw,b4,cz,cf,ob,k2,fy,beq_self_eq_true]
   exact⟨i,by omega,by omega,by rw[ny,Af];omega,rfl⟩
  ·have bG:((a:Int)==(b:Int))=false:=by simp;omega
   have Ar:decide ((a:Int)<(b:Int))=decide (x<y):=by rw[lj (show ¬ (a:Int)<(b:Int) by omega),lj (by have:=cp (by omega);omega)]
   simp only[go_sem,go_sem_proc,gz,ar,G,bm,hw,b4,cz,cf,ob,k2,bG,Ar];repeat' (first|refine ax ?_ ?_|fail)<;>intro h<;>simp only[h,go_sem,go_sem_proc,gz,ar,G,bm,hw,b4,cz,cf,ob,k2,bG,Ar]
theorem Yb {o:List Int}{d:Int}(h:eV o)(ar:0<=d)(G:d<1048576):eV (o++[d]):=DS.2 ⟨h,DR.2 ⟨⟨ar,G⟩,by intro d aa;cases aa⟩⟩
theorem Yc (o:List Int)(d:Int):bd (o++[d])=bd o+1048576^(D o)*d:=by rw[DT];simp[bd]
theorem Hr {o:List Int}{n:Nat}(h:eV o)(aq:bd o=n):fI o=aL n:=by rw[zT h,aq];rfl
def Yd:=cj vB λ(x,y)=>cM ((aL x).length<=10000/\(aL y).length<=10000) (.same (b3 (x+y)))
@[go_sem] theorem auu (x:Nat)(y:Nat)(H:(aL x).length<=10000/\(aL y).length<=10000):Yd [b3 x,b3 y]=some (.same (b3 (x+y))):=(ct yz (x,y)).trans (cR H _)
theorem auv (T:bb)(gz:T tU=aU Ho)(fU:T tT=aU Cp)(x:Nat)(y:Nat)(H:(aL x).length<=10000/\(aL y).length<=10000):WP T X3 (.same (b3 (x+y))) [.J (b3 x),.J (b3 y)]:=by
 refine cu ?_;simp only[X3];obtain⟨Q,av⟩:=H;have na:∃bg:Nat,bg=max (aL x).length (aL y).length:=⟨_,rfl⟩;obtain⟨bg,na⟩:=na;have ob:(aL x).length<=1000000:=by omega
 have k2:(aL y).length<=1000000:=by omega
 simp only[go_sem,go_sem_proc,gz,fU,b3,ak];refine dd [0,1] [] (λ((i,c,g,o):Nat×Nat×Nat×List Int) tm mem=>i<=bg+1/\c<=1/\(i=bg+1->c=0)/\D o=i/\eV o/\bd o+1048576^i*((x/1048576^i+y/1048576^i+c:Nat):Int)=((x+y:Nat):Int)/\tm 6=.J (.int .i64 c)/\tm 7=.J (.int .i64 i)/\tm 5=.ref 181038 g 1 0 i/\mem 181038=some (g,a9 ae o)) (λ(i,_)=>bg+1-i) (0,0,0,[]) (by refine⟨by omega,by omega,by simp,rfl,by simp[eV],by simp[bd],rfl,rfl,rfl,rfl⟩) ?_;intro vs ms aP aO;simp only[go_sem,go_sem_proc,gz,fU,b3] at aP aO;subst aP aO;rintro⟨i,c,g,o⟩ tm mem O-⟨M,g2,hN,bO,iH,aq,bV,bQ,bm,hm⟩;simp only[go_sem,go_sem_proc,gz,fU,a3] at O;obtain⟨ar,G⟩:=O;have aE:bd o+1048576^i*((x/1048576^i+y/1048576^i+c:Nat):Int)=((x+y:Nat):Int):=aq
 by_cases LC:i<(aL x).length\/i<(aL y).length\/0<c
 ·have ay:=Hq x i;have aC:=Hq y i;have cz:=Hp x i;have cf:=Hp y i;have dh:=qM (x/1048576^i) (show 0<1048576 by omega);have eH:=qM (y/1048576^i) (show 0<1048576 by omega);have Wt:bg<=i->x/1048576^i=0/\y/1048576^i=0:=λh=>⟨Cq (by omega),Cq (by omega)⟩;have gJ:(1048576:Int)^(i+1)=1048576^i*1048576:=nu _ _;generalize ny:x/1048576^i=df at *;generalize Af:y/1048576^i=gj at *;generalize As:x/1048576^(i+1)=X' at *;generalize Hs:y/1048576^(i+1)=Y' at *;generalize aN:df%1048576=a at *;generalize ag:gj%1048576=b at *;have w1:IntKind.i64.wrap ((a:Int)+(b:Int))=((a+b:Nat):Int):=by rw[e2 _];omega
  have ni:IntKind.i64.wrap (((a+b:Nat):Int)+(c:Int))=((a+b+c:Nat):Int):=by rw[e2 _];omega
  have gA:((a+b+c:Nat):Int).tmod 1048576=(((a+b+c)%1048576:Nat):Int):=by rw[K0 (by omega)];omega
  have fi:IntKind.i64.wrap (((a+b+c:Nat):Int).tdiv 1048576)=(((a+b+c)/1048576:Nat):Int):=by rw[GU (by omega),wrap64 _ (by omega) (by omega)];omega
  have bT:=eA (i:=i) (by omega);have dz:=lv hB vn 181038 g 8 o (((a+b+c)%1048576:Nat):Int) (cs:=[.J (.int .i64 (((a+b+c)%1048576:Nat):Int))]) rfl (by omega) (by omega);rw[bO] at dz
  have aLs:i<=bg:=by
   rcases iq bg i with h|h
   ·have:=hN (by omega);omega
   ·exact h
  have iG:∃bk:Nat×Nat×Nat×List Int,bg+1-bk.1<bg+1-i/\bk.1<=bg+1/\bk.2.1<=1/\(bk.1=bg+1->bk.2.1=0)/\bk.2.2.2.length=bk.1/\eV bk.2.2.2/\bd bk.2.2.2+1048576^bk.1*((x/1048576^bk.1+y/1048576^bk.1+bk.2.1:Nat):Int)=((x+y:Nat):Int)/\R.J (Data.int .i64 (((a+b+c)/1048576:Nat):Int))=R.J (Data.int .i64 (bk.2.1:Int))/\R.J (Data.int .i64 ((i+1:Nat):Int))=R.J (Data.int .i64 (bk.1:Int))/\R.ref 181038 (g+1) 1 0 (i+1)=R.ref 181038 bk.2.2.1 1 0 bk.1/\some (g+1,a9 ae (o++[(((a+b+c)%1048576:Nat):Int)]))=some (bk.2.2.1,a9 ae bk.2.2.2):=by
   refine⟨(i+1,(a+b+c)/1048576,g+1,o++[(((a+b+c)%1048576:Nat):Int)]),by dsimp only;omega,by dsimp only;omega,by dsimp only;omega,?_,by simp[bO],Yb iH (by omega) (by omega),?_,rfl,rfl,rfl,rfl⟩
   ·intro h;dsimp only at h ⊢;have:=Wt (by omega);omega
   ·dsimp only;rw[As,Hs,Yc,bO,gJ,<-aE];have cg:((df+gj+c:Nat):Int)=1048576*((X'+Y'+(a+b+c)/1048576:Nat):Int)+(((a+b+c)%1048576:Nat):Int):=by omega
    rw[cg,iw,ix];omega
  by_cases yq:i<(aL x).length
  ·have d1:decide ((i:Int)<((aL x).length:Int))=true:=c6;simp only[go_sem,go_sem_proc,gz,fU,ar,G,bm,bV,bQ,hm,cz,cf,ob,k2,d1,w1,ni,gA,fi,bT,dz,ak];repeat' (first|refine ax ?_ ?_|fail)<;>intro h<;>simp only[h,go_sem,go_sem_proc,gz,fU,ar,G,bm,bV,bQ,hm,cz,cf,ob,k2,d1,w1,ni,gA,fi,bT,dz,ak]
   exact iG
  ·have d1:decide ((i:Int)<((aL x).length:Int))=false:=cY
   by_cases sv:i<(aL y).length
   ·have d2:decide ((i:Int)<((aL y).length:Int))=true:=c6;simp only[go_sem,go_sem_proc,gz,fU,ar,G,bm,bV,bQ,hm,cz,cf,ob,k2,d1,d2,w1,ni,gA,fi,bT,dz,ak];repeat' (first|refine ax ?_ ?_|fail)<;>intro h<;>simp only[h,go_sem,go_sem_proc,gz,fU,ar,G,bm,bV,bQ,hm,cz,cf,ob,k2,d1,d2,w1,ni,gA,fi,bT,dz,ak]
    exact iG
   ·have d2:decide ((i:Int)<((aL y).length:Int))=false:=cY;have d3:decide ((c:Int)>0)=true:=c6;simp only[go_sem,go_sem_proc,gz,fU,ar,G,bm,bV,bQ,hm,cz,cf,ob,k2,d1,d2,d3,w1,ni,gA,fi,bT,dz,ak];repeat' (first|refine ax ?_ ?_|fail)<;>intro h<;>simp only[h,go_sem,go_sem_proc,gz,fU,ar,G,bm,bV,bQ,hm,cz,cf,ob,k2,d1,d2,d3,w1,ni,gA,fi,bT,dz,ak]
    exact iG
 ·have d1:decide ((i:Int)<((aL x).length:Int))=false:=cY;have d2:decide ((i:Int)<((aL y).length:Int))=false:=cY;have d3:decide ((c:Int)>0)=false:=cY;rw[Cq (n:=x) (by omega),Cq (n:=y) (by omega),show c=0 by omega] at aE
  have cL:=EI o (by omega);rw[Hr (n:=x+y) iH (by simpa using aE)] at cL;have gy:=Hn (aL (x+y));have kz:=qD (n:=5) hB hm;rw[bO] at kz;simp only[go_sem,go_sem_proc,gz,fU,ar,G,bm,bV,bQ,hm,d1,d2,d3,cL,gy,kz,xk,kE,ak];repeat' (first|refine ax ?_ ?_|fail)<;>intro h<;>simp only[h,go_sem,go_sem_proc,gz,fU,ar,G,bm,bV,bQ,hm,d1,d2,d3,cL,gy,kz,xk,kE,ak]
def Qa:=cj vB λ(x,y)=>cM ((aL x).length<=10000/\(aL y).length<=10000/\y<=x) (.same (b3 (x-y)))
@[go_sem] theorem agU (x:Nat)(y:Nat)(H:(aL x).length<=10000/\(aL y).length<=10000/\y<=x):Qa [b3 x,b3 y]=some (.same (b3 (x-y))):=(ct yz (x,y)).trans (cR H _)
theorem auw (T:bb)(gz:T tU=aU Ho)(fU:T tT=aU Cp)(x:Nat)(y:Nat)(H:(aL x).length<=10000/\(aL y).length<=10000/\y<=x):WP T X4 (.same (b3 (x-y))) [.J (b3 x),.J (b3 y)]:=by
 refine cu ?_;simp only[X4];obtain⟨Q,av,lW⟩:=H;have ob:(aL x).length<=1000000:=by omega
 have k2:(aL y).length<=1000000:=by omega
 have afp:(aL y).length<=(aL x).length:=by rw[gS];exact vD lW (gS.1 (b0 _))
 simp only[go_sem,go_sem_proc,gz,fU,b3,ak];refine dd [0,1] [] (λ((i,c,g,o):Nat×Nat×Nat×List Int) tm mem=>i<=(aL x).length/\c<=1/\y/1048576^i+c<=x/1048576^i/\D o=i/\eV o/\bd o+1048576^i*((x/1048576^i-(y/1048576^i+c):Nat):Int)=((x-y:Nat):Int)/\tm 6=.J (.int .i64 c)/\tm 7=.J (.int .i64 i)/\tm 5=.ref 182032 g 1 0 i/\mem 182032=some (g,a9 ae o)) (λ(i,_)=>(aL x).length-i) (0,0,0,[]) (by refine⟨by omega,by omega,by simpa using lW,rfl,by simp[eV],by simp[bd],rfl,rfl,rfl,rfl⟩) ?_;intro vs ms aP aO;simp only[go_sem,go_sem_proc,gz,fU,b3] at aP aO;subst aP aO;rintro⟨i,c,g,o⟩ tm mem O-⟨M,g2,hle,bO,iH,aq,bV,bQ,bm,hm⟩;simp only[go_sem,go_sem_proc,gz,fU,a3] at O;obtain⟨ar,G⟩:=O;have aE:bd o+1048576^i*((x/1048576^i-(y/1048576^i+c):Nat):Int)=((x-y:Nat):Int):=aq;have J5:y/1048576^i+c<=x/1048576^i:=hle
 by_cases LC:i<(aL x).length
 ·have d1:decide ((i:Int)<((aL x).length:Int))=true:=c6;have ay:=Hq x i;have aC:=Hq y i;have cz:=Hp x i;rw[dX,bs LC] at cz;have g8:(aL x)[i]?=some ((x/1048576^i%1048576:Nat):Int):=by rw[bs LC];exact congrArg some cz
  have cf:=Hp y i;have dh:=qM (x/1048576^i) (show 0<1048576 by omega);have eH:=qM (y/1048576^i) (show 0<1048576 by omega);have gJ:(1048576:Int)^(i+1)=1048576^i*1048576:=nu _ _;clear cz hle aq;generalize ny:x/1048576^i=df at *;generalize Af:y/1048576^i=gj at *;generalize As:x/1048576^(i+1)=X' at *;generalize Hs:y/1048576^(i+1)=Y' at *;generalize aN:df%1048576=a at *;generalize ag:gj%1048576=b at *;have w1:IntKind.i64.wrap ((a:Int)-(b:Int))=(a:Int)-(b:Int):=wrap64 _ (by omega) (by omega);have ni:IntKind.i64.wrap ((a:Int)-(b:Int)-(c:Int))=(a:Int)-(b:Int)-(c:Int):=wrap64 _ (by omega) (by omega);have bT:=eA (i:=i) (by omega);have og:IntKind.i64.wrap ((a:Int)-(b:Int)-(c:Int)+1048576)=(a:Int)-(b:Int)-(c:Int)+1048576:=wrap64 _ (by omega) (by omega);have dz:=λd:Int=>lv hB vn 182032 g 8 o d (cs:=[.J (.int .i64 d)]) rfl (by omega) (by omega);rw[bO] at dz;rcases kB:decide ((a:Int)-(b:Int)-(c:Int)<0)
  ·have aK:=of_decide_eq_false kB;refine aX ?_;repeat' (intro h<;>simp only[h,go_sem,go_sem_proc,gz,fU,ar,G,bm,bV,bQ,hm,g8,cf,k2,d1,w1,ni,bT,dz,kB,ae,ak,bj]<;>try refine ax ?_ ?_)
   refine⟨(i+1,0,g+1,o++[(a:Int)-(b:Int)-(c:Int)]),by dsimp only;omega,by dsimp only;omega,by dsimp only;omega,by dsimp only;rw[As,Hs];omega,by simp[bO],Yb iH (by omega) (by omega),?_,rfl,rfl,rfl,rfl⟩
   dsimp only;rw[As,Hs,Yc,bO,gJ,<-aE];have cg:((df-(gj+c):Nat):Int)=1048576*((X'-(Y'+0):Nat):Int)+((a:Int)-b-c):=by omega
   rw[cg,iw,ix];omega
  ·have aK:=of_decide_eq_true kB;refine aX ?_;repeat' (intro h<;>simp only[h,go_sem,go_sem_proc,gz,fU,ar,G,bm,bV,bQ,hm,g8,cf,k2,d1,w1,ni,bT,og,dz,kB,ae,ak,bj]<;>try refine ax ?_ ?_)
   refine⟨(i+1,1,g+1,o++[(a:Int)-(b:Int)-(c:Int)+1048576]),by dsimp only;omega,by dsimp only;omega,by dsimp only;omega,by dsimp only;rw[As,Hs];omega,by simp[bO],Yb iH (by omega) (by omega),?_,rfl,rfl,rfl,rfl⟩
   dsimp only;rw[As,Hs,Yc,bO,gJ,<-aE];have cg:((df-(gj+c):Nat):Int)=1048576*((X'-(Y'+1):Nat):Int)+((a:Int)-b-c+1048576):=by omega
   have dw:∀p cb eK:Int,bd o+p*cb+p*1048576*eK=bd o+p*(1048576*eK+cb):=λp cb eK=>by rw[iw p (1048576*eK) cb,<-ix];omega
   rw[cg];exact dw _ _ _
 ·have d1:decide ((i:Int)<((aL x).length:Int))=false:=cY;rw[Cq (n:=x) (by omega),Cq (n:=y) (by omega),Nat.zero_sub,ly,ud,w5] at aE;have cL:=EI o (by omega);rw[Hr (n:=x-y) iH aE] at cL;have gy:=Hn (aL (x-y));have kz:=qD (n:=5) hB hm;rw[bO] at kz;refine aX ?_;repeat' (intro h<;>simp only[h,go_sem,go_sem_proc,gz,fU,ar,G,bm,bV,bQ,hm,d1,cL,gy,kz,xk,kE,ak]<;>try refine ax ?_ ?_)
theorem agV {b:List Int}{k:Nat}(h:k<D b):b.getD k 0=b[k]:=by rw[dX,bs h];rfl
theorem Ye {b:List Int}{k:Nat}(h:(D b)<=k):b.getD k 0=0:=by rw[dX,mr h];rfl
def Qb:=cj vB λ(x,y)=>cM ((aL x).length<=10000/\(aL y).length<=10000) (.same (b3 (x*y)))
@[go_sem] theorem agW (x:Nat)(y:Nat)(H:(aL x).length<=10000/\(aL y).length<=10000):Qb [b3 x,b3 y]=some (.same (b3 (x*y))):=(ct yz (x,y)).trans (cR H _)
theorem auy (T:bb)(gz:T tU=aU Ho)(fU:T tT=aU Cp)(x:Nat)(y:Nat)(H:(aL x).length<=10000/\(aL y).length<=10000):WP T X7 (.same (b3 (x*y))) [.J (b3 x),.J (b3 y)]:=by
 refine cu ?_;simp only[X7];obtain⟨Q,av⟩:=H;have tZ:=m6 x;have rK:=m6 y;have wX:=l2 x;have Ef:=l2 y;generalize aN:aL x=a at *;generalize ag:aL y=b at *;have oU:IntKind.i64.wrap ((D a:Int)+(D b:Int))=((D a+D b:Nat):Int):=by rw[e2 _];rfl
 have kY:8*(D a+D b)<=140737488355328:=by omega
 have eR:(D a)+D b<=maxLen:=GO _ (by omega);have J7:(D b)<=1000000:=by omega
 simp only[go_sem,go_sem_proc,gz,fU,b3,aN,ag,oU,kY,eR,GN,ak]
 refine dd [0,1,5] [] (λ((i,o):Nat×List Int) tm mem=>i<=D a/\D o=D a+D b/\eV o/\o.drop (i+D b)=dH (D o-(i+D b)) 0/\bd o=bd (a.take i)*y/\tm 6=.J (.int .i64 (i:Nat))/\mem 186015=some (0,a9 ae o))
  (λ(i,_)=>D a-i) (0,dH (D a+D b) 0) (by
   have aW:∀n,bd (dH n 0)=0:=by
    intro n
    induction n with
    |zero=>rfl
    |succ n aA=>rw[List.replicate_succ,tR,aA];rfl
   refine⟨ft _,by simp,λd aa=>by rw[GR] at aa;omega,by simp,by rw[aW];simp[bd],?_,?_⟩<;>rfl) ?_
 intro vs ms aP aO;simp only[go_sem,go_sem_proc,gz,fU,b3,aN,ag,oU,ak] at aP aO;subst aP aO;rintro⟨i,o⟩ tm mem O-⟨M,bO,iH,sJ,jM,bV,hm⟩;simp only[go_sem,go_sem_proc,gz,fU,a3] at O;obtain⟨ar,G,bm⟩:=O;rcases dn (i<D a) with az|b4
 ·have m8:a[i]?=some a[i]:=bs az;have BF:=lB tZ i az;have tJ:=lA a i az;generalize a[i]=hW at *;have iz:decide ((i:Int)<(D a:Int))=true:=c6;have B1:IntKind.i64.wrap ((i:Int)+1)=((i+1:Nat):Int):=by rw[e2 _];rfl
  simp only[go_sem,go_sem_proc,gz,fU,ar,G,bm,bV,m8,iz,ae,ak,bj,a3]
  refine dd [0,1,5,6] [] (λ((k,c,o):Nat×Int×List Int) tm mem=>k<=D b+1/\(k=D b+1->c=0)/\D o=D a+D b/\eV o/\o.drop (i+max k (D b))=dH (D o-(i+max k (D b))) 0/\0<=c/\c<1048576/\bd o+1048576^(i+k)*c=bd (a.take i)*y+1048576^i*(hW*bd (b.take k)) /\
    tm 8=.J (.int .i64 (k:Nat))/\tm 7=.J (.int .i64 c)/\mem 186015=some (0,a9 ae o))
   (λ(k,_)=>D b+1-k) (0,0,o) (by refine⟨ft _,by simp,bO,iH,by rw[Nat.zero_max];exact sJ,by omega,by omega,by simp[bd,jM],?_,?_,hm⟩<;>rfl) ?_
  intro vs ms aP aO;simp only[go_sem,go_sem_proc,gz,fU,ar,G,bm,bV,ae,ak] at aP aO;subst aP aO;rintro⟨k,c,o⟩ tm mem O-⟨pk,Cr,bO,iH,sJ,oV,g2,jM,ca,bQ,hm⟩;simp only[go_sem,go_sem_proc,gz,fU,a3] at O;obtain⟨ar,G,bm,bV⟩:=O;have fy:IntKind.i64.wrap ((k:Int)+1)=((k+1:Nat):Int):=by rw[e2 _];rfl
  have jw:IntKind.i64.wrap ((i:Int)+(k:Int))=((i+k:Nat):Int):=by rw[e2 _];rfl
  by_cases LC:k<(D b)\/c>0
  ·have KY:k<=D b:=by
    rcases iq (D b) k with h|h
    ·have:=Cr (by omega);omega
    ·exact h
   have pX:i+k<D o:=by omega
   have VY:=lB iH (i+k) pX
   have GS:0<=b.getD k 0/\b.getD k 0<1048576:=by
    rcases iq k (D b) with h|h
    ·rw[agV h];exact lB rK k h
    ·rw[Ye h];omega
   have Yf:bd (b.take (k+1))=bd (b.take k)+1048576^k*b.getD k 0:=by
    rcases iq k (D b) with h|h
    ·rw[agV h];exact lA b k h
    ·rw[Ye h,dr (by omega),dr (by omega)];simp
   have wG:k<(D b)\/(k=D b/\o[i+k]=0):=by
    rcases iq k (D b) with h|h
    ·exact .inl h
    ·refine .inr ⟨by omega,afs sJ (by omega) pX⟩
   have LD:=agR b k J7;generalize b.getD k 0=p4 at *;obtain⟨dO,cJ,n7,qK⟩:=afr VY BF GS ⟨oV,g2⟩;have k1:IntKind.i64.wrap (hW*p4)=hW*p4:=wrap64 _ (by omega) (by omega);have z9:IntKind.i64.wrap (o[i+k]+hW*p4)=o[i+k]+hW*p4:=wrap64 _ (by omega) (by omega);have vE:IntKind.i64.wrap (o[i+k]+hW*p4+c)=o[i+k]+hW*p4+c:=wrap64 _ (by omega) (by omega);have pZ:(o[i+k]+hW*p4+c).tmod 1048576=(o[i+k]+hW*p4+c)%1048576:=K0 (by omega);have Ac:IntKind.i64.wrap ((o[i+k]+hW*p4+c).tdiv 1048576)=(o[i+k]+hW*p4+c)/1048576:=by rw[GU (by omega)];exact wrap64 _ (by omega) (by omega)
   have hV:i+k+1<=(a9 ae o).length:=by rw[qI];omega
   have iI:=KW o (i+k) pX;have gP:=λd=>yy o (i+k) d pX;have jf:i+k<D a+D b:=by omega
   have iG:∃bk:Nat×Int×List Int,D b+1-bk.1<D b+1-k/\bk.1<=D b+1/\(bk.1=D b+1->bk.2.1=0)/\bk.2.2.length=D a+D b/\eV bk.2.2/\bk.2.2.drop (i+max bk.1 (D b))=dH (bk.2.2.length-(i+max bk.1 (D b))) 0/\0<=bk.2.1/\bk.2.1<1048576/\bd bk.2.2+1048576^(i+bk.1)*bk.2.1=bd (a.take i)*y+1048576^i*(hW*bd (b.take bk.1)) /\
     R.J (Data.int .i64 ((k+1:Nat):Int))=R.J (Data.int .i64 (bk.1:Nat))/\R.J (Data.int .i64 ((o[i+k]+hW*p4+c)/1048576))=R.J (Data.int .i64 bk.2.1)/\some (0,a9 ae (o.set (i+k) ((o[i+k]+hW*p4+c)%1048576)))=some (0,a9 ae bk.2.2):=by
    refine⟨(k+1,(o[i+k]+hW*p4+c)/1048576,o.set (i+k) ((o[i+k]+hW*p4+c)%1048576)),by dsimp only;omega,by dsimp only;omega,?_,by simp[bO],z7 iH _ (by omega),?_,n7,qK,?_,rfl,rfl,rfl⟩
    ·intro h;dsimp only at h ⊢;rcases wG with I|⟨I,af⟩
     ·omega
     ·have auz:p4=0:=by
       have e:=LD;rw[agR b k J7,Ye (by omega)] at e
       simpa using e.symm
      rw[af,auz,ud];omega
    ·dsimp only;rcases wG with I|⟨I,af⟩
     ·rw[Yg (by omega)] at sJ;rw[Yg (by omega),tG (by omega),List.length_set,sJ]
     ·rw[Yg (by omega),<-I] at sJ;rw[Nat.max_eq_left (by omega)];exact aft sJ pX
    ·dsimp only;rw[VU _ _ _ pX,Yf,<-Nat.add_assoc,nu,afq _ _ _ _ _ _ _ jM];rw[iw (hW),iw (1048576^i),Int.pow_add]
     have:(1048576:Int)^i*(hW*(1048576^k*p4))=1048576^i*1048576^k*(hW*p4):=by
      rw[<-ix (hW),nv (hW) (1048576^k),ix (1048576^k),<-ix]
     omega
   by_cases aLt:k<D b
   ·have d1:decide ((k:Int)<(D b:Int))=true:=c6;simp only[go_sem,go_sem_proc,gz,fU,ar,G,bm,bV,bQ,ca,hm,m8,LD,d1,fy,jw,k1,z9,vE,pZ,Ac,jf,hV,iI,gP,ae,cI,ak,bj,a3];repeat' (first|refine ax ?_ ?_|fail)<;>intro h<;>simp only[h,go_sem,go_sem_proc,gz,fU,ar,G,bm,bV,bQ,ca,hm,m8,LD,d1,fy,jw,k1,z9,vE,pZ,Ac,jf,hV,iI,gP,ae,cI,ak,bj,a3]
    exact iG
   ·have d1:decide ((k:Int)<(D b:Int))=false:=cY;have d2:decide (c>0)=true:=c6;simp only[go_sem,go_sem_proc,gz,fU,ar,G,bm,bV,bQ,ca,hm,m8,LD,d1,d2,fy,jw,k1,z9,vE,pZ,Ac,jf,hV,iI,gP,ae,cI,ak,bj,a3];repeat' (first|refine ax ?_ ?_|fail)<;>intro h<;>simp only[h,go_sem,go_sem_proc,gz,fU,ar,G,bm,bV,bQ,ca,hm,m8,LD,d1,d2,fy,jw,k1,z9,vE,pZ,Ac,jf,hV,iI,gP,ae,cI,ak,bj,a3]
    exact iG
  ·have d1:decide ((k:Int)<(D b:Int))=false:=cY;have d2:decide (c>0)=false:=cY;have auA:c=0:=by omega
   rw[auA,ud,w5,show b.take k=b from dr (by omega),Ef] at jM;simp only[go_sem,go_sem_proc,gz,fU,ar,G,bm,bV,bQ,ca,hm,d1,d2,B1,ak];repeat' (first|refine ax ?_ ?_|fail)<;>intro h<;>simp only[h,go_sem,go_sem_proc,gz,fU,ar,G,bm,bV,bQ,ca,hm,d1,d2,B1,ak]
   refine⟨(i+1,o),by dsimp only;omega,by dsimp only;omega,bO,iH,?_,?_,rfl,rfl⟩
   ·dsimp only;have af:=congrArg (List.drop (i+1+D b-(i+max k (D b)))) sJ;rw[List.drop_drop,List.drop_replicate] at af;rw[show i+max k (D b)+(i+1+D b-(i+max k (D b)))=i+1+(D b) by omega] at af
    rw[af]
    congr 1
    omega
   ·dsimp only;rw[jM,tJ,Int.add_mul,ix]
 ·obtain rfl:i=D a:=by omega
  have iz:decide ((D a:Int)<(D a:Int))=false:=cY;rw[dr (b0 _),wX] at jM;have cL:=EI o (by omega);rw[Hr (n:=x*y) iH (by rw[jM];rfl)] at cL;have gy:=Hn (aL (x*y));have kz:=qD (n:=5) hB hm;rw[bO] at kz;simp only[go_sem,go_sem_proc,gz,fU,ar,G,bm,bV,hm,iz,cL,gy,kz,xk,kE,b3,ak];repeat' (first|refine ax ?_ ?_|fail)<;>intro h<;>simp only[h,go_sem,go_sem_proc,gz,fU,ar,G,bm,bV,hm,iz,cL,gy,kz,xk,kE,b3,ak]
def eu.At:eu->List Nat->eu
 |.seq a _,0::p=>a.At p
 |.seq _ b,_::p=>b.At p
 |.cond _ a _,0::p=>a.At p
 |.cond _ _ b,_::p=>b.At p
 |.block _ c,_::p=>c.At p
 |.ghost _ c,_::p=>c.At p
 |.loop c,_::p=>c.At p
 |c,_=>c
theorem agX {n:Nat}(h:0<n)(G:n<1048576):[(n:Int)]=aL n:=(DU h G).symm
theorem auB {n:Nat}(G:n<1048576):fI [(n:Int)]=aL n:=Hr (by intro d aa;have:=ue.1 aa;omega) (by simp[bd])
theorem auC {d:Int}{r:Nat}(ar:0<=d)(G:d<1048576):fI (d::aL r)=aL (d.toNat+1048576*r):=Hr (DR.2 ⟨⟨ar,G⟩,m6 r⟩) (by rw[tR,l2];omega)
theorem Yh {n m k:Nat}(h:n<m*1048576)(hm:(aL m).length<=k):(aL n).length<=k+1:=by
 rw[gS] at *;rw[wQ];exact Dj h (vh _ (Et hm))
theorem agY (T:bb)(pz:T KE=aU Qb)(pA:T OL=aU P9){K:eT->a8->Prop}{kk:List gu}(y bL:Nat)(av:(aL y).length<=1000)(fZ:(aL bL).length<=1001)(iV:0<y)(auD:bL<y*1048576)(v0 v6 Au:R)(tm:Nat->R)(m:Mem)
  (bl:tm 0=v0) (ay:tm 1=.J (.Y ((aL y).map ae))) (bN:tm 6=v6) (bq:tm 7=.J (.Y ((aL bL).map ae))) (cE:tm 8=Au) (fp:tm 9=.J (.int .i64 0)) (dp:tm 10=.J (.int .i64 1048576))
  (dK:∀tm',tm' 0=v0->tm' 1=.J (.Y ((aL y).map ae))->tm' 6=v6->tm' 7=.J (.Y ((aL bL).map ae))->tm' 8=Au->tm' 9=.J (.int .i64 ((bL/y:Nat):Int))->cD T K kk (.exit 2) ⟨tm',m⟩) :
  wp T (LB.body.At [1,1,1,0,1,0,0,1,0,0,1,1,1,0,0]) (cD T K kk) ⟨tm,m⟩:=by
 simp only[LB,eu.At];refine dd [0,1,6,7,8] [] (λ((cB,M):Nat×Nat) tm' m'=>cB<M/\M<=1048576/\cB*y<=bL/\bL<M*y/\tm' 9=.J (.int .i64 cB)/\tm' 10=.J (.int .i64 M)/\m'=m) (λ(cB,M)=>M-cB) (0,1048576) (by refine⟨by omega,by omega,by omega,by rw[rH];exact auD,fp,dp,rfl⟩) ?_;intro vs ms aP aO;simp only[go_sem,go_sem_proc,bl,ay,bN,bq,cE] at aP aO;subst aP aO;clear bl ay bN bq cE fp dp;rintro⟨cB,M⟩ tm m' O hm ⟨aLu,aT,fQ,jg,iS,gw,rfl⟩;simp only[go_sem,go_sem_proc,a3] at O hm;obtain⟨ar,G,bV,bQ,ca⟩:=O;have w1:IntKind.i64.wrap ((M:Int)-(cB:Int))=(M:Int)-(cB:Int):=wrap64 _ (by omega) (by omega)
 by_cases LC:M-cB>1
 ·have d1:decide ((M:Int)-(cB:Int)>1)=true:=c6;have ni:IntKind.i64.wrap ((cB:Int)+(M:Int))=((cB+M:Nat):Int):=by rw[e2 _];omega
  have bT:IntKind.i64.wrap (((cB+M:Nat):Int).tdiv 2)=(((cB+M)/2:Nat):Int):=by rw[GU (by omega),wrap64 _ (by omega) (by omega)];omega
  obtain⟨xl,auE⟩:∃xl:Nat,xl=(cB+M)/2:=⟨_,rfl⟩;rw[<-auE] at bT;have cL:=agW y xl ⟨by omega,by rw[<-agX (n:=xl) (by omega) (by omega)];simp⟩
  simp only[b3] at cL;rw[<-agX (n:=xl) (by omega) (by omega)] at cL;simp only[ev,cZ,ae] at cL;have mv:(aL (y*xl)).length<=1001:=Yh (agZ (show xl<1048576 by omega) iV) av;have gy:=aus bL (y*xl) ⟨by omega,by omega⟩
  simp only[b3] at gy;rcases aa:decide (bL<y*xl)
  ·have aK:=of_decide_eq_false aa;rw[aa] at gy;refine aX ?_;repeat' (intro h<;>simp only[h,go_sem,go_sem_proc,pz,pA,ar,G,bV,bQ,ca,iS,gw,w1,ni,bT,d1,cL,gy]<;>try refine ax ?_ ?_)
   exact⟨(xl,M),by dsimp only;omega,by dsimp only;omega,aT,by dsimp only;rw[rH];omega,jg,rfl,rfl⟩
  ·have aK:=of_decide_eq_true aa;rw[aa] at gy;refine aX ?_;repeat' (intro h<;>simp only[h,go_sem,go_sem_proc,pz,pA,ar,G,bV,bQ,ca,iS,gw,w1,ni,bT,d1,cL,gy]<;>try refine ax ?_ ?_)
   exact⟨(cB,xl),by dsimp only;omega,by dsimp only;omega,by dsimp only;omega,fQ,by dsimp only;rw[rH];omega,rfl,rfl⟩
 ·have d1:decide ((M:Int)-(cB:Int)>1)=false:=cY
  have hq:bL/y=cB:=by
   have G:M=cB+1:=by omega
   subst G;exact Nat.div_eq_of_lt_le fQ jg
  refine aX ?_;repeat' (intro h<;>simp only[h,go_sem,go_sem_proc,ar,G,bV,bQ,ca,iS,gw,w1,d1]<;>try refine ax ?_ ?_)
  refine dK _ ?_ ?_ ?_ ?_ ?_ ?_<;>simp only[eE,dC,if_false,ar,G,bV,bQ,ca,iS,hq]
def Qc:=cj vB λ(x,y)=>cM ((aL x).length<=1000/\(aL y).length<=1000/\0<y) (.same (.cH [b3 (x/y),b3 (x%y)]))
@[go_sem] theorem ag0 (x:Nat)(y:Nat)(H:(aL x).length<=1000/\(aL y).length<=1000/\0<y):Qc [b3 x,b3 y]=some (.same (.cH [b3 (x/y),b3 (x%y)])):=(ct yz (x,y)).trans (cR H _)
theorem auF (T:bb)(fU:T tT=aU Cp)(pz:T KE=aU Qb)(pA:T OL=aU P9)(k8:T KD=aU Qa)(x:Nat)(y:Nat)(H:(aL x).length<=1000/\(aL y).length<=1000/\0<y):WP T LB (.same (.cH [b3 (x/y),b3 (x%y)])) [.J (b3 x),.J (b3 y)]:=by
 refine cu ?_;simp only[LB];obtain⟨Q,av,iV⟩:=H;have tZ:=m6 x;have wX:=l2 x;generalize aN:aL x=a at *;have kY:8*D a<=140737488355328:=by omega
 have eR:(D a)<=maxLen:=GO _ (by omega);have B6:IntKind.i64.wrap ((D a:Int)-1)=(D a:Int)-1:=wrap64 _ (by omega) (by omega);simp only[go_sem,go_sem_proc,fU,pz,pA,k8,b3,aN,kY,eR,GN,B6,ak]
 refine dd [0,1,6] [] (λ((n,r,yV,o):Nat×Nat×R×List Int) tm mem=>n<=D a/\D o=D a/\eV o/\r<y/\bd (a.drop n)=y*bd (o.drop n)+r/\(yV=.nil/\r=0\/yV=.J (b3 r))/\tm 8=.J (.int .i64 ((n:Nat)-1))/\tm 7=yV/\mem 180014=some (0,a9 ae o))
  (λ(n,_)=>n) (D a,0,.nil,dH (D a) 0) (by
   refine⟨b0 _,by simp,λd aa=>by rw[GR] at aa;omega,iV,by simp[bd],.inl ⟨rfl,rfl⟩,rfl,rfl,rfl⟩) ?_
 intro vs ms aP aO;simp only[go_sem,go_sem_proc,fU,pz,pA,k8,b3,aN,ak] at aP aO;subst aP aO;rintro⟨n,r,yV,o⟩ tm mem O-⟨aK,bO,iH,BV,aq,xm,ca,bQ,hm⟩;simp only[go_sem,go_sem_proc,fU,pz,pA,k8,a3] at O;obtain⟨ar,G,bV⟩:=O;rcases n with _|n
 ·have hq:bd o=((x/y:Nat):Int)/\r=x%y:=by
   rw[l0,l0,wX] at aq;have ay:(x:Int)/(y:Int)=bd o:=by rw[aq,yB,Int.add_mul_ediv_left _ _ (by omega),Int.ediv_eq_zero_of_lt (by omega) (by omega)];omega
   have aC:(x:Int)%(y:Int)=r:=by rw[aq,yB,Int.add_mul_emod_self_left,Int.emod_eq_of_lt (by omega) (by omega)]
   refine⟨by rw[<-ay];rfl,by omega⟩
  have cL:=EI o (by omega);rw[Hr (n:=x/y) iH hq.1] at cL;have gy:=Hn (aL (x/y));have kz:=qD (n:=5) hB hm;rw[bO] at kz;rcases xm with ⟨rfl,pY⟩|rfl
  ·have aW:aL (x%y)=[]:=by rw[<-hq.2,pY];rfl
   simp only[go_sem,go_sem_proc,fU,pz,pA,k8,ar,G,bV,bQ,ca,hm,cL,gy,kz,aW,xk,kE,b3,ly,l4,show ¬ ((0:Int)-1>=0) by omega,decide_false,ak,cZ]
   repeat' (first|refine ax ?_ ?_|fail)<;>intro h<;>simp only[h,go_sem,go_sem_proc,fU,pz,pA,k8,ar,G,bV,bQ,ca,hm,cL,gy,kz,aW,xk,kE,b3,ly,l4,show ¬ ((0:Int)-1>=0) by omega,decide_false,ak,cZ]
  ·simp only[go_sem,go_sem_proc,fU,pz,pA,k8,ar,G,bV,bQ,ca,hm,cL,gy,kz,xk,kE,b3,ly,l4,show ¬ ((0:Int)-1>=0) by omega,decide_false,ak,cZ,hq.2]
   repeat' (first|refine ax ?_ ?_|fail)<;>intro h<;>simp only[h,go_sem,go_sem_proc,fU,pz,pA,k8,ar,G,bV,bQ,ca,hm,cL,gy,kz,xk,kE,b3,ly,l4,show ¬ ((0:Int)-1>=0) by omega,decide_false,ak,cZ,hq.2]
 ·have m8:a[n]?=some a[n]:=bs (by omega);have Pa:=lB tZ n (by omega);have VQ:a.drop n=a[n]::a.drop (n+1):=ir (by omega);have gH:n<D o:=by omega
  have VS:∀e:Int,(o.set n e).drop n=e::o.drop (n+1):=λe=>by
   rw[ir (by simpa using gH),List.getElem_set_self,tG (by omega)]
  generalize a[n]=d at *;have hw:((n+1:Nat):Int)-1=(n:Int):=by omega
  have b4:decide ((n:Int)>=0)=true:=c6;have k1:IntKind.i64.wrap ((n:Int)-1)=(n:Int)-1:=wrap64 _ (by omega) (by omega);have bW:(aL r).length<=1000:=by rw[gS] at *;omega
  obtain⟨bL,fZ⟩:∃bL:Nat,bL=d.toNat+1048576*r:=⟨_,rfl⟩
  have Qd:bL<y*1048576:=by
   have:(r+1)*1048576<=y*1048576:=vh _ BV;omega
  have Yi:=Yh Qd av;have Ht:=auC (d:=d) (r:=r) Pa.1 Pa.2;rw[<-fZ] at Ht;have cL:=EI (d::aL r) (by rw[h4];omega);rw[Ht] at cL;simp only[ev,ae] at cL;have gy:=Hn (aL bL)
  have zx:∀bR:Nat,mq 180026 bR 1 1 8 (aL r).length (((aL r).map ae).flatten.map .J) (some (bR,[.J (.int .i64 d)]))=some (.ref 180026 (bR+1) 1 0 (1+(aL r).length),some (180026,bR+1,a9 ae (d::aL r))):=λbR=>by
   have:=DO hB vn 180026 bR 8 [d] (aL r) (by rw[Av];omega) (by rw[Av];omega);exact this
  have auG:∀(bR:Nat) (m:Mem),m 180026=some (bR,a9 ae (d::aL r))->cC 6 m (.ref 180026 bR 1 0 (1+(aL r).length))=some (.Y ((d::aL r).map ae)):=λbR m hm=>by
   have:=qD (n:=5) hB hm;rw[h4,Nat.add_comm (aL r).length 1] at this;exact this
  have ry:(((aL r).map ae).all λe=>D e==1)=true:=O4 _;have Yj:=auG (gG (mem 180026)+1) (a2 (a2 mem 180026 (gG (mem 180026)) [R.J (.int .i64 d)]) 180026 (gG (mem 180026)+1) (a9 ae (d::aL r))) (by simp[a2]);have pR:n<D a:=by omega
  obtain⟨cB,fQ⟩:∃cB:Nat,cB=bL/y:=⟨_,rfl⟩;have Yk:cB<1048576:=by rw[fQ];exact Nat.div_lt_of_lt_mul Qd
  have Ai:=PH bL y;have mv:=qM bL iV;rw[<-fQ] at Ai;have Tw:bL-y*cB=bL%y:=by omega
  have aLv:(aL (y*cB)).length<=1001:=Yh (agZ Yk iV) av
  have Qe:Cp [.Y [[.int .i64 ((bL/y:Nat):Int)]]]=some (.own 1 ((aL cB).map ae)):=by
   have h:=EI [((bL/y:Nat):Int)] (by simp);rw[<-fQ,auB Yk] at h;rw[<-fQ];exact h
  have LF:=agW y cB ⟨by omega,by have:(aL cB).length<=1:=gS.2 (by rw[Nat.pow_one];exact Yk);omega⟩
  simp only[b3] at LF;have Hu:=agU bL (y*cB) ⟨by omega,by omega,by omega⟩
  rw[Tw] at Hu;simp only[b3] at Hu;have hV:n+1<=(a9 ae o).length:=by rw[qI];omega
  have gP:=yy o n ((bL/y:Nat):Int) gH
  have iG:∃bk:Nat×Nat×R×List Int,bk.1<n+1/\bk.1<=D a/\bk.2.2.2.length=D a/\eV bk.2.2.2/\bk.2.1<y/\bd (a.drop bk.1)=y*bd (bk.2.2.2.drop bk.1)+bk.2.1/\(bk.2.2.1=.nil/\bk.2.1=0\/bk.2.2.1=.J (.Y ((aL bk.2.1).map ae)))/\R.J (Data.int .i64 ((n:Int)-1))=R.J (Data.int .i64 ((bk.1:Int)-1))/\R.J (Data.Y ((aL (bL%y)).map ae))=bk.2.2.1/\some (0,a9 ae (o.set n ((bL/y:Nat):Int)))=some (0,a9 ae bk.2.2.2):=by
   refine⟨(n,bL%y,.J (b3 (bL%y)),o.set n ((bL/y:Nat):Int)),by dsimp only;omega,by dsimp only;omega,by simp[bO],z7 iH n (by omega),mv,?_,.inr rfl,rfl,rfl,rfl⟩
   dsimp only;rw[VQ,tR,aq,VS,tR,<-fQ];have ay:(bL:Int)=d+1048576*r:=by omega
   have aC:(y:Int)*cB+(bL%y:Nat)=bL:=by exact_mod_cast Ai
   have cg:∀v:Int,(y:Int)*(cB+1048576*v)=y*cB+1048576*(y*v):=λv=>by rw[iw,Int.mul_left_comm]
   rw[cg];omega
  have main:yV=.nil/\r=0\/yV=.J (b3 r):=xm;rcases main with ⟨rfl,pY⟩|rfl
  ·subst pY;have ag1:=zx;simp only[sF,cZ,agP,kZ] at ag1;simp only[sF,kZ] at Yj;simp only[sF,cZ] at cL;simp only[go_sem,go_sem_proc,fU,pz,pA,k8,ar,G,bV,bQ,ca,hm,m8,hw,b4,ag1,cL,gy,Yj,xk,kE,ae,sF,ak,bj,cZ];refine agY T pz pA y bL av Yi iV Qd (.J (.Y (a.map ae))) (.ref 180014 0 1 0 (D a)) (.J (.int .i64 n)) _ _ ?_ ?_ ?_ ?_ ?_ ?_ ?_ ?_
   ·exact ar
   ·exact G
   ·exact bV
   ·rfl
   ·simp only[eE,dC,if_false,ca,hw]
   ·rfl
   ·rfl
   intro tm' fL b9 gK hY hX nb;simp only[go_sem,go_sem_proc,fU,pz,pA,k8,fL,b9,gK,hY,hX,nb,hm,pR,hV,gP,Qe,LF,Hu,k1,cI];repeat' (first|refine ax ?_ ?_|fail)<;>intro h<;>simp only[h,go_sem,go_sem_proc,fU,pz,pA,k8,fL,b9,gK,hY,hX,nb,hm,pR,hV,gP,Qe,LF,Hu,k1,cI]
   exact iG
  ·simp only[go_sem,go_sem_proc,fU,pz,pA,k8,ar,G,bV,bQ,ca,hm,m8,hw,b4,zx,ry,cL,gy,Yj,xk,kE,b3,ae,ak,bj];refine agY T pz pA y bL av Yi iV Qd (.J (.Y (a.map ae))) (.ref 180014 0 1 0 (D a)) (.J (.int .i64 n)) _ _ ?_ ?_ ?_ ?_ ?_ ?_ ?_ ?_
   ·exact ar
   ·exact G
   ·exact bV
   ·rfl
   ·simp only[eE,dC,if_false,ca,hw]
   ·rfl
   ·rfl
   intro tm' fL b9 gK hY hX nb;simp only[go_sem,go_sem_proc,fU,pz,pA,k8,fL,b9,gK,hY,hX,nb,hm,pR,hV,gP,Qe,LF,Hu,k1,cI];repeat' (first|refine ax ?_ ?_|fail)<;>intro h<;>simp only[h,go_sem,go_sem_proc,fU,pz,pA,k8,fL,b9,gK,hY,hX,nb,hm,pR,hV,gP,Qe,LF,Hu,k1,cI]
   exact iG
def Hv:=cj O5 λ(s,l)=>cM (D l<=1000000) (.same (.agg (da (kh s l))))
@[go_sem] theorem aLw (s:Int)(l:List Int)(H:(D l)<=1000000):Hv [.int .i64 s,.Y (l.map ae)]=some (.same (.agg (da (kh s l)))):=(ct afg (s,l)).trans (cR H _)
theorem auH (T:bb)(fU:T tT=aU Cp)(s:Int)(l:List Int)(H:(D l)<=1000000):WP T X2 (.same (.agg (da (kh s l)))) [.J (.int .i64 s),.J (.Y (l.map ae))]:=by
 refine cu ?_;simp only[X2];have cL:=EI l H;have gy:=Hn (fI l);refine aX ?_;repeat' (intro h<;>simp only[h,go_sem,go_sem_proc,fU,cL,gy,ak]<;>try refine ax ?_ ?_)
 all_goals simp only[kh,da,cZ, *,reduceIte,Bool.not_true,Bool.not_false,Bool.or_true,Bool.true_or,Bool.or_false,Bool.false_or,Bool.and_true,gQ,iT,fx,kR,beq_self_eq_true,bne]
def Hw:=cj BR λ(s,l)=>cM (D l<=1000000) (.same (.bool (dG (s,l))))
@[go_sem] theorem aLx (s:Int)(l:List Int)(H:(D l)<=1000000):Hw [.agg [.int .i64 s,.Y (l.map ae)]]=some (.same (.bool (dG (s,l)))):=(ct GM (s,l)).trans (cR H _)
theorem auI (T:bb)  (s:Int) (l:List Int) (H:(D l)<=1000000):WP T XY (.same (.bool (dG (s,l)))) [.J (.agg [.int .i64 s,.Y (l.map ae)])]:=by
 refine cu ?_;simp only[XY];simp only[go_sem,go_sem_proc,ak];refine dd [1] [162001] (λ(i:Nat) tm mem=>i<=D l/\l.all n4=(l.drop i).all n4/\tm 3=.J (.int .i64 i)) (λi=>D l-i) 0 (by refine⟨by omega,by simp,rfl⟩) ?_;intro vs ms aP aO;simp only[go_sem,go_sem_proc,ak] at aP aO;subst aP aO;rintro i tm mem O hm ⟨M,aJ,af⟩;simp only[go_sem,go_sem_proc,a3] at O hm;have G:=O;rcases dn (i<D l) with az|b4
 ·have aa:l.drop i=l[i]::l.drop (i+1):=ir az;have Q:l[i]?=some l[i]:=bs az;generalize l[i]=x at *;have d1:decide ((i:Int)<(D l:Int))=true:=c6
  have iG:∀b,n4 x=true->b=(l.drop (i+1)).all n4->l.all n4=b:=by
   intro b G I;rw[aJ,aa,Gr,G,I,gQ]
  have KV:¬ n4 x=true->dG (s,l)=false:=by
   intro G;rw[Bool.not_eq_true] at G;unfold dG;rw[aJ,aa,Gr,G]
   rfl
  have bT:=eA (i:=i) (by omega);simp only[go_sem,go_sem_proc,G,af,hm,Q,d1,bT,ae,ak,bj,a3];repeat' (first|refine ax ?_ ?_|fail)<;>intro h<;>simp only[h,go_sem,go_sem_proc,G,af,hm,Q,d1,bT,ae,ak,bj,a3]
  ·rw[KV λh=>by have:=(K8 x).1 h;(simp only[cl,Data.bool.injEq,Data.int.injEq,true_and,decide_eq_true_eq,decide_eq_false_iff_not,kR,beq_iff_eq,beq_eq_false_iff_ne,ne_eq] at*<;> omega)]
  ·exact⟨i+1,by omega,by omega,iG _ ((K8 x).2 (by (simp only[cl,Data.bool.injEq,Data.int.injEq,true_and,decide_eq_true_eq,decide_eq_false_iff_not,kR,beq_iff_eq,beq_eq_false_iff_ne,ne_eq] at*<;> omega))) rfl,rfl⟩
  ·rw[KV λh=>by have:=(K8 x).1 h;(simp only[cl,Data.bool.injEq,Data.int.injEq,true_and,decide_eq_true_eq,decide_eq_false_iff_not,kR,beq_iff_eq,beq_eq_false_iff_ne,ne_eq] at*<;> omega)]
 ·have he:l.drop i=[]:=List.drop_eq_nil_of_le (by omega);rw[he] at aJ;have fg:l.all n4=true:=by rw[aJ];rfl
  have d1:decide ((i:Int)<(D l:Int))=false:=cY;rcases List.eq_nil_or_concat l with rfl|⟨r,x,rfl⟩
  ·have d2:decide ((i:Int)<0)=false:=d1;simp only[go_sem,go_sem_proc,G,af,hm,d2,kZ,ly,l4,beq_self_eq_true,cZ,bne];repeat' (first|refine ax ?_ ?_|fail)<;>intro h<;>simp only[h,go_sem,go_sem_proc,G,af,hm,d2,kZ,ly,l4,beq_self_eq_true,cZ,bne]
   all_goals (refine congrArg (λb=>some (Data.bool b)) ?_;unfold dG;simp;try simp only[decide_eq_true_eq,decide_eq_false_iff_not,beq_iff_eq,beq_eq_false_iff_ne,uo,ag2,beq_eq_false_iff_ne,ne_eq] at *;omega)
  ·rw[List.concat_eq_append] at *;have bG:(((r++[x]).length:Int)==0)=false:=by simp;omega
   have hw:IntKind.i64.wrap (((r++[x]).length:Int)-1)=(D r:Int):=by
    have cp:(r++[x]).length=D r+1:=by simp
    rw[e2 _];omega
   have ba:((r++[x]).map ae)[D r]?=some [.int .i64 x]:=by simp[ae]
   have ab:dG (s,r++[x])=((s==1||s == -1)&&decide (((r++[x]).length:Int)<=60)&&(x != 0)):=by
    unfold dG;rw[fg];simp only[List.getLast?_append,List.getLast?_singleton];simp;have ay:decide (D r<=59)=decide ((D r:Int)+1<=60):=decide_eq_decide.2 (by omega);have aC:(some x != some (0:Int))=(x != 0):=by simp[bne]
    rw[ay,aC]
   rw[ab];simp only[go_sem,go_sem_proc,G,af,hm,d1,bG,hw,ba,ak];repeat' (first|refine ax ?_ ?_|fail)<;>intro h<;>simp only[h,go_sem,go_sem_proc,G,af,hm,d1,bG,hw,ba,ak]
   all_goals (refine congrArg (λb=>some (Data.bool b)) ?_;clear aJ fg ab ba hw O hm G af d1;rw[xe];simp only[eW,Bool.or_eq_true,decide_eq_true_eq,decide_eq_false_iff_not,beq_iff_eq,beq_eq_false_iff_ne,uo,ag2,ne_eq,kR,false_iff,true_iff] at *;omega)
def Yl:=cj BR λ(s,l)=>cM (D l<=1000000) (.same (.agg (da (jX (s,l)))))
@[go_sem] theorem aLy (s:Int)(l:List Int)(H:(D l)<=1000000):Yl [.agg [.int .i64 s,.Y (l.map ae)]]=some (.same (.agg (da (jX (s,l))))):=(ct GM (s,l)).trans (cR H _)
theorem auJ (T:bb)(j1:T vu=aU Hw)(g5:T vv=aU Hv)(s:Int)(l:List Int)(H:(D l)<=1000000):WP T XZ (.same (.agg (da (jX (s,l))))) [.J (.agg [.int .i64 s,.Y (l.map ae)])]:=by
 refine cu ?_;simp only[XZ]
 by_cases ab:dG (s,l)=true
 ·obtain⟨z,aW,e⟩:=(jV _).1 ab;have ay:jX (s,l)=bS (-z):=by unfold jX;rw[ad ab,e,fO]
  cases e
  have hw:IntKind.i64.wrap (0-z.sign) = -z.sign:=by
   have:=Int.sign_trichotomy z;rw[e2 _];omega
  rw[ay];refine aX ?_;repeat' (intro h<;>simp only[h,go_sem,go_sem_proc,j1,g5,ab,H,hw,af6,da]<;>try refine ax ?_ ?_)
 ·have ab:dG (s,l)=false:=by simpa using ab
  have ay:jX (s,l)=(0,[]):=by unfold jX;rw[ab];rfl
  rw[ay];refine aX ?_;repeat' (intro h<;>simp only[h,go_sem,go_sem_proc,j1,g5,ab,H,da,cZ]<;>try refine ax ?_ ?_)
theorem ag3 (n:Int):(n.tmod 1048576).natAbs=n.natAbs%1048576:=by rw[Int.natAbs_tmod];rfl
theorem ag4 (n:Int):(n.tdiv 1048576).natAbs=n.natAbs/1048576:=by rw[Int.natAbs_tdiv];rfl
def Ym:=cj wV λ(n:Int)=>cM (dB n) (.same (.agg (da (bS n))))
@[go_sem] theorem aLz (n:Int)(H:dB n):Ym [.int .i64 n]=some (.same (.agg (da (bS n)))):=(ct z1 n).trans (cR H _)
theorem auK (T:bb)(g5:T vv=aU Hv)(n:Int)(H:dB n):WP T XX (.same (.agg (da (bS n)))) [.J (.int .i64 n)]:=by
 refine cu ?_;simp only[XX];have lX:=H;unfold dB at lX;obtain⟨pf,va⟩:=lX;have hlen:(aL n.natAbs).length<=60:=gS.2 (yM H);rcases dn (n=0) with rfl|kg
 ·simp only[go_sem,go_sem_proc,g5,da,beq_self_eq_true];repeat' (first|refine ax ?_ ?_|fail)<;>intro h<;>simp only[h,go_sem,go_sem_proc,g5,da,beq_self_eq_true]
  rfl
 have bG:(n==0)=false:=by simpa using kg
 have X:∀s:Int,s=n.sign->kh s (aL n.natAbs)=bS n:=λs h=>p1 rfl λ_=>h;have vM:(aL n.natAbs).length<=1000000:=by omega
 rcases dn (n<0) with kB|h7
 ·have mO:=X (-1) (rO kB).symm;simp only[go_sem,go_sem_proc,g5,bG,kB,decide_true];refine dd [2,3] [144002] (λ((u,g,l):Int×Nat×List Int) tm mem=>u<=0/\n<=u/\aL n.natAbs=l++aL u.natAbs/\tm 0=.J (.int .i64 u)/\tm 4=.ref 144022 g 1 0 (D l)/\mem 144022=some (g,a9 ae l)) (λ(u,_)=>u.natAbs) (n,0,[]) (by refine⟨by omega,by omega,rfl,rfl,rfl,rfl⟩) ?_;intro vs ms aP aO;simp only[go_sem,go_sem_proc,g5,kB,decide_true] at aP aO;subst aP aO;rintro⟨u,g,l⟩ tm mem O hm ⟨hu,auL,aa,ar,aS,xn⟩;simp only[go_sem,go_sem_proc,g5,a3] at O hm;obtain⟨I,af⟩:=O;rcases dn (u=0) with rfl|Ew
  ·rw[show (0:Int).natAbs=0 from rfl,sF,fv] at aa;rw[aa] at mO vM;simp only[go_sem,go_sem_proc,g5,ar,I,af,aS,hm,xn,mO,vM,lx hB,lC,da,ak,beq_self_eq_true];repeat' (first|refine ax ?_ ?_|fail)<;>intro h<;>simp only[h,go_sem,go_sem_proc,g5,ar,I,af,aS,hm,xn,mO,vM,lx hB,lC,da,ak,beq_self_eq_true]
  ·have Ad:(D l)<=60:=by
    have:=congrArg D aa;rw[fG] at this;omega
   have yG:(u==0)=false:=by simpa using Ew
   have dz:=λd:Int=>lv hB vn 144022 g 8 l d (cs:=[.J (.int .i64 d)]) rfl (by omega) (by omega);have ay:=ag3 u;have aC:=ag4 u;have cg:u.tmod 1048576<=0:=by have:=ag5 (a:=-u) 1048576 (by omega);rw[Int.neg_tmod] at this;omega
   have dw:u.tdiv 1048576<=0/\u<=u.tdiv 1048576:=by
    have:=ag6 (a:=-u) (b:=1048576) (by omega) (by omega);rw[Int.neg_tdiv] at this;omega
   have oU:IntKind.i64.wrap (u.tdiv 1048576)=u.tdiv 1048576:=wrap64 _ (by omega) (by omega);have fy:IntKind.i64.wrap (0-u.tmod 1048576) = -(u.tmod 1048576):=by rw[e2 _];omega
   have vG:=vo (n:=u.natAbs) (by omega)
   have iG:∀d:Int,d=((u.natAbs%1048576:Nat):Int)->∃bk:Int×Nat×List Int,bk.1.natAbs<u.natAbs/\bk.1<=0/\n<=bk.1/\aL n.natAbs=bk.2.2++aL bk.1.natAbs/\R.J (.int .i64 (u.tdiv 1048576))=R.J (.int .i64 bk.1)/\R.ref 144022 (g+1) 1 0 (D l+1)=R.ref 144022 bk.2.1 1 0 bk.2.2.length/\some (g+1,a9 ae (l++[d]))=some (bk.2.1,a9 ae bk.2.2):=by
    intro d yd;refine⟨(u.tdiv 1048576,g+1,l++[d]),by dsimp only;omega,by dsimp only;omega,by dsimp only;omega,?_,rfl,by simp,rfl⟩
    dsimp only;rw[aa,vG,yd,aC,gb]
    rfl
   by_cases aW:u.tmod 1048576<0
   ·simp only[go_sem,go_sem_proc,g5,ar,I,af,aS,hm,xn,yG,dz,oU,fy,aW,decide_true,ak,a3];repeat' (first|refine ax ?_ ?_|fail)<;>intro h<;>simp only[h,go_sem,go_sem_proc,g5,ar,I,af,aS,hm,xn,yG,dz,oU,fy,aW,decide_true,ak,a3]
    exact iG _ (by omega)
   ·simp only[go_sem,go_sem_proc,g5,ar,I,af,aS,hm,xn,yG,dz,oU,fy,aW,decide_false,ak,a3];repeat' (first|refine ax ?_ ?_|fail)<;>intro h<;>simp only[h,go_sem,go_sem_proc,g5,ar,I,af,aS,hm,xn,yG,dz,oU,fy,aW,decide_false,ak,a3]
    exact iG _ (by omega)
 ·have mO:=X 1 (jW (by omega)).symm;simp only[go_sem,go_sem_proc,g5,bG,h7,decide_false];refine dd [2,3] [144002] (λ((u,g,l):Int×Nat×List Int) tm mem=>0<=u/\u<=n/\aL n.natAbs=l++aL u.natAbs/\tm 0=.J (.int .i64 u)/\tm 4=.ref 144022 g 1 0 (D l)/\mem 144022=some (g,a9 ae l)) (λ(u,_)=>u.natAbs) (n,0,[]) (by refine⟨by omega,by omega,rfl,rfl,rfl,rfl⟩) ?_;intro vs ms aP aO;simp only[go_sem,go_sem_proc,g5,h7,decide_false] at aP aO;subst aP aO;rintro⟨u,g,l⟩ tm mem O hm ⟨hu,auL,aa,ar,aS,xn⟩;simp only[go_sem,go_sem_proc,g5,a3] at O hm;obtain⟨I,af⟩:=O;rcases dn (u=0) with rfl|Ew
  ·rw[show (0:Int).natAbs=0 from rfl,sF,fv] at aa;rw[aa] at mO vM;simp only[go_sem,go_sem_proc,g5,ar,I,af,aS,hm,xn,mO,vM,lx hB,lC,da,ak,beq_self_eq_true];repeat' (first|refine ax ?_ ?_|fail)<;>intro h<;>simp only[h,go_sem,go_sem_proc,g5,ar,I,af,aS,hm,xn,mO,vM,lx hB,lC,da,ak,beq_self_eq_true]
  ·have Ad:(D l)<=60:=by
    have:=congrArg D aa;rw[fG] at this;omega
   have yG:(u==0)=false:=by simpa using Ew
   have dz:=λd:Int=>lv hB vn 144022 g 8 l d (cs:=[.J (.int .i64 d)]) rfl (by omega) (by omega);have ay:=ag3 u;have aC:=ag4 u;have cg:=ag5 (a:=u) 1048576 (by omega);have dw:=ag6 (a:=u) (b:=1048576) (by omega) (by omega);have oU:IntKind.i64.wrap (u.tdiv 1048576)=u.tdiv 1048576:=wrap64 _ (by omega) (by omega);have vG:=vo (n:=u.natAbs) (by omega);have aW:decide (u.tmod 1048576<0)=false:=cY;simp only[go_sem,go_sem_proc,g5,ar,I,af,aS,hm,xn,yG,dz,oU,aW,ak,a3];repeat' (first|refine ax ?_ ?_|fail)<;>intro h<;>simp only[h,go_sem,go_sem_proc,g5,ar,I,af,aS,hm,xn,yG,dz,oU,aW,ak,a3]
   refine⟨(u.tdiv 1048576,g+1,l++[u.tmod 1048576]),by dsimp only;omega,by dsimp only;omega,by dsimp only;omega,?_,rfl,by simp,by first|rfl|simp[go_sem]⟩
   dsimp only;rw[aa,vG,aC,gb,show u.tmod 1048576=((u.natAbs%1048576:Nat):Int) by omega]
   rfl
def xo (a b:Raw):Bool:=decide (a=b)
def Yn:=cj vL λ(s,l,s2,ai)=>cM (D l<=1000000/\D ai<=1000000) (.same (fP (l6 (s,l) (s2,ai))))
@[go_sem] theorem aLA (s:Int)(l:List Int)(s2:Int)(ai:List Int)(H:(D l)<=1000000/\D ai<=1000000):Yn [.agg [.int .i64 s,.Y (l.map ae)],.agg [.int .i64 s2,.Y (ai.map ae)]]=some (.same (fP (l6 (s,l) (s2,ai)))):=(ct yJ (s,l,s2,ai)).trans (cR H _)
theorem auM (T:bb)(j1:T vu=aU Hw)(oh:T KC=aU Qc)(g5:T vv=aU Hv)(s:Int)(l:List Int)(s2:Int)(ai:List Int)(H:(D l)<=1000000/\D ai<=1000000):WP T X0 (.same (fP (l6 (s,l) (s2,ai)))) [.J (.agg [.int .i64 s,.Y (l.map ae)]),.J (.agg [.int .i64 s2,.Y (ai.map ae)])]:=by
 refine cu ?_;simp only[X0];obtain⟨b2,cp⟩:=H
 by_cases ab:dG (s,l)=true
 ·by_cases bB:dG (s2,ai)=true
  ·obtain⟨x,Q,e⟩:=(jV _).1 ab;obtain⟨y,av,aC⟩:=(jV _).1 bB
   have hm:l6 (s,l) (s2,ai)=(bS (jm x.natAbs y.natAbs:Nat),0):=by
    rw[e,aC];unfold l6
    rw[k5 Q,k5 av,fO,fO]
    rfl
   rw[hm];clear hm
   cases e
   cases aC;have ob:=rP Q;have k2:=rP av;have ba:=Ld Q av;generalize ny:x.natAbs=df at *;generalize Af:y.natAbs=gj at *;have Wx:(aL df).length<=1000000:=by omega
   simp only[go_sem,go_sem_proc,j1,oh,g5,ab,bB,ny,Af,b2,cp,Wx,ae,ak];refine dd [4] [164004] (λ((a,b):Nat×Nat) tm mem=>a<eb/\b<eb/\jm df gj=jm a b/\tm 6=.J (.Y ((aL a).map ae))/\tm 7=.J (.Y ((aL b).map ae))) (λ(_,b)=>b) (df,gj) (by refine⟨Q,av,rfl,rfl,rfl⟩) ?_;intro vs ms aP aO;simp only[go_sem,go_sem_proc,j1,oh,g5,ny,Af] at aP aO;subst aP aO;rintro⟨a,b⟩ tm mem O hm ⟨aN,ag,xa,bV,bQ⟩;simp only[go_sem,go_sem_proc,j1,oh,g5,a3] at O hm;have aS:=O;have iU:(aL a).length<=60:=gS.2 aN;have kA:(aL b).length<=60:=gS.2 ag;rcases kW b with ar|h7
   ·subst ar;have aW:aL 0=[]:=rfl;have Wy:(aL a).length<=1000000:=by omega
    rw[aga] at xa;have X:kh 1 (aL a)=bS ((a:Nat):Int):=p1 (by simp) λaK=>(jW (by omega)).symm;rw[xa];refine aX ?_;repeat' (intro h<;>simp only[h,go_sem,go_sem_proc,j1,oh,g5,aS,bV,bQ,hm,aW,Wy,X,da,fP,nA,cZ,kZ,ly,l4,show ¬ ((0:Int)>0) by omega,decide_false]<;>try refine ax ?_ ?_)
   ·have bG:decide (((aL b).length:Int)>0)=true:=by
     have:aL b≠[]:=by rw[Ne,zR];omega
     have:=PE.2 this;exact c6
    have hdiv:=ag0 a b ⟨by omega,by omega,h7⟩
    simp only[b3] at hdiv;refine aX ?_;repeat' (intro h<;>simp only[h,go_sem,go_sem_proc,j1,oh,g5,aS,bV,bQ,hm,bG,hdiv,ak]<;>try refine ax ?_ ?_)
    exact⟨(b,a%b),qM _ h7,ag,vD (Nat.mod_le _ _) aN,by dsimp only;rw[xa,PF a b,agb b a,PF],rfl,rfl⟩
  ·have bB:dG (s2,ai)=false:=by simpa using bB
   have hm:l6 (s,l) (s2,ai)=((0,[]),1):=by unfold l6;rw[bB,iT];rfl
   rw[hm];refine aX ?_;repeat' (intro h<;>simp only[h,go_sem,go_sem_proc,j1,oh,g5,ab,bB,b2,cp,da,fP,cZ]<;>try refine ax ?_ ?_)
 ·have ab:dG (s,l)=false:=by simpa using ab
  have hm:l6 (s,l) (s2,ai)=((0,[]),1):=by unfold l6;rw[ab,fx];rfl
  rw[hm];refine aX ?_;repeat' (intro h<;>simp only[h,go_sem,go_sem_proc,j1,oh,g5,ab,b2,cp,da,fP,cZ]<;>try refine ax ?_ ?_)

def Yo:=cj vL λ(s,l,s2,ai)=>cM (D l<=1000000/\D ai<=1000000) (.same (hr (kC (s,l) (s2,ai))))
@[go_sem] theorem aLB (s:Int)(l:List Int)(s2:Int)(ai:List Int)(H:(D l)<=1000000/\D ai<=1000000):Yo [.agg [.int .i64 s,.Y (l.map ae)],.agg [.int .i64 s2,.Y (ai.map ae)]]=some (.same (hr (kC (s,l) (s2,ai)))):=(ct yJ (s,l,s2,ai)).trans (cR H _)
theorem auN (T:bb)(j1:T vu=aU Hw)(oh:T KC=aU Qc)(vS:T UG=aU Yd)(k8:T KD=aU Qa)(g5:T vv=aU Hv)(s:Int)(l:List Int)(s2:Int)(ai:List Int)(H:(D l)<=1000000/\D ai<=1000000):WP T X1 (.same (hr (kC (s,l) (s2,ai)))) [.J (.agg [.int .i64 s,.Y (l.map ae)]),.J (.agg [.int .i64 s2,.Y (ai.map ae)])]:=by
 refine cu ?_;simp only[X1];obtain⟨b2,cp⟩:=H
 by_cases ab:dG (s,l)=true
 ·by_cases bB:dG (s2,ai)=true
  ·obtain⟨x,Q,e⟩:=(jV _).1 ab;obtain⟨y,av,aC⟩:=(jV _).1 bB
   by_cases iV:y=0
   ·have hm:kC (s,l) (s2,ai)=((0,[]),(0,[]),15):=by
     rw[e,aC];unfold kC
     rw[k5 Q,k5 av,fO,fO,ad (by rfl),ad iV]
    rw[hm]
    cases e
    cases aC;have ar:((y.sign:Int)==0)=true:=by rw[iV];rfl
    simp only[go_sem,go_sem_proc,j1,oh,vS,k8,g5,ab,bB,b2,cp,ar,da,hr,cZ];repeat' (first|refine ax ?_ ?_|fail)<;>intro h<;>simp only[h,go_sem,go_sem_proc,j1,oh,vS,k8,g5,ab,bB,b2,cp,ar,da,hr,cZ]
   ·have hm:kC (s,l) (s2,ai)=(bS (x.fdiv y),bS (x.fmod y),0):=by
     rw[e,aC];exact Ep Q av iV
    rw[hm];clear hm
    cases e
    cases aC;have ob:=rP Q;have k2:=rP av;have ui:(y.sign==0)=false:=by rw[beq_eq_false_iff_ne,Ne,WB];exact iV
    have Er:0<y.natAbs:=by omega
    have G:=rQ x;have I:=rQ y;have aE:x.sign*y.sign=(x*y).sign:=(sN x y).symm;have af:=rQ (x*y);have hw:IntKind.i64.wrap (x.sign*y.sign)=x.sign*y.sign:=by rw[aE];exact wrap64 _ (by omega) (by omega)
    have hdiv:=ag0 x.natAbs y.natAbs ⟨by omega,by omega,Er⟩
    simp only[b3] at hdiv;have hq:=Hd (y:=y) Q iV;have yL:=agf (x:=x) av iV;have WC:x.natAbs/y.natAbs<eb:=vD (WA _ _) Q;have atc:(aL (x.natAbs/y.natAbs)).length<=60:=gS.2 WC;have Es:x.natAbs%y.natAbs<eb:=agh (qM _ Er) av;have atd:(aL (x.natAbs%y.natAbs)).length<=60:=gS.2 Es
    by_cases uj:x.sign*y.sign<0/\x.natAbs%y.natAbs≠0
    ·obtain⟨eq,uk⟩:=PG uj.1 uj.2
     have bG:(((aL (x.natAbs%y.natAbs)).length:Int)==0)=false:=by
      have:aL (x.natAbs%y.natAbs)≠[]:=by rw[Ne,zR];exact uj.2
      have:=PE.2 this;rw[beq_eq_false_iff_ne];omega
     have kB:decide (x.sign*y.sign>=0)=false:=lj (by have:=uj.1;omega);have jT:aL 1=[1]:=by simp[aL,yu]
     have ate:(aL 1).length=1:=by rw[jT];rfl
     have hj:=auu (x.natAbs/y.natAbs) 1 ⟨by omega,by omega⟩
     simp only[b3,jT,ev,cZ,ae] at hj;have jU:=agU y.natAbs (x.natAbs%y.natAbs) ⟨by omega,by omega,Et (qM _ Er)⟩
     simp only[b3] at jU
     have iU:(aL (x.natAbs/y.natAbs+1)).length<=1000000:=by
      have:(x.natAbs/y.natAbs+1)<eb:=by rw[eq] at hq;rw[PK,mK] at hq;exact hq
      have:=(gS (k:=60)).2 this;omega
     have kA:(aL (y.natAbs-x.natAbs%y.natAbs)).length<=1000000:=by have:=PB y.natAbs (x.natAbs%y.natAbs);omega
     have hC:kh (-1) (aL (x.natAbs/y.natAbs+1))=bS (x.fdiv y):=p1 (by rw[eq,PK,mK]) λ_=>by rw[eq,Eo,jW (show (0:Int)<((x.natAbs/y.natAbs+1:Nat):Int) by exact Eu.2 (agi _))]
     have kj:kh y.sign (aL (y.natAbs-x.natAbs%y.natAbs))=bS (x.fmod y):=by
      refine p1 ?_ λaK=>?_
      ·rw[uk];rcases mJ y with ⟨e',af⟩|⟨e',af⟩|⟨e',af⟩<;>rw[e']<;>omega
      ·rw[uk,sN,Cg,jW (show (0:Int)<((y.natAbs-x.natAbs%y.natAbs:Nat):Int) by omega),vA]
     simp only[go_sem,go_sem_proc,j1,oh,vS,k8,g5,ab,bB,b2,cp,ui,hw,hdiv,bG,kB,hj,jU,iU,kA,hC,kj,ae,ak,da,hr,nA];repeat' (first|refine ax ?_ ?_|fail)<;>intro h<;>simp only[h,go_sem,go_sem_proc,j1,oh,vS,k8,g5,ab,bB,b2,cp,ui,hw,hdiv,bG,kB,hj,jU,iU,kA,hC,kj,ae,ak,da,hr,nA]
    ·obtain⟨eq,uk⟩:=PI iV uj
     have WD:(decide (x.sign*y.sign>=0)=false/\(((aL (x.natAbs%y.natAbs)).length:Int)==0)=true)\/decide (x.sign*y.sign>=0)=true:=by
      by_cases aK:x.sign*y.sign<0
      ·left
       have:x.natAbs%y.natAbs=0:=agj.1 λh=>uj ⟨aK,h⟩;rw[this];exact⟨cY,rfl⟩
      ·right;exact c6
     have iU:(aL (x.natAbs/y.natAbs)).length<=1000000:=by omega
     have kA:(aL (x.natAbs%y.natAbs)).length<=1000000:=by omega
     have hC:kh (x.sign*y.sign) (aL (x.natAbs/y.natAbs))=bS (x.fdiv y):=by
      refine p1 ?_ λaK=>?_
      ·rw[eq]
       have Ev:∀aM:Nat,(x=0->aM=0)->(x.sign*y.sign*(aM:Int)).natAbs=aM:=by
        intro aM ar;rcases mJ x with ⟨e,G⟩|⟨e,G⟩|⟨e,G⟩<;>rcases mJ y with ⟨e',af⟩|⟨e',af⟩|⟨e',af⟩<;>rw[e,e']<;>first|omega|(rw[ar G];rfl)
       exact Ev _ λar=>by rw[ar];exact WE _
      ·rw[eq,aE,sN,sN,sN,Cg,Cg,jW (show (0:Int)<((x.natAbs/y.natAbs:Nat):Int) from Eu.2 (PL aK)),vA]
     have kj:kh x.sign (aL (x.natAbs%y.natAbs))=bS (x.fmod y):=by
      refine p1 ?_ λaK=>?_
      ·rw[uk]
       have Ev:∀aM:Nat,(x=0->aM=0)->(x.sign*(aM:Int)).natAbs=aM:=by
        intro aM ar;rcases mJ x with ⟨e,G⟩|⟨e,G⟩|⟨e,G⟩<;>rw[e]<;>first|omega|(rw[ar G];rfl)
       exact Ev _ λar=>by rw[ar];exact Wz _
      ·rw[uk,sN,Cg,jW (show (0:Int)<((x.natAbs%y.natAbs:Nat):Int) from Eu.2 (PL aK)),vA]
     rcases WD with ⟨xb,Lf⟩|xb
     ·simp only[go_sem,go_sem_proc,j1,oh,vS,k8,g5,ab,bB,b2,cp,ui,hw,hdiv,xb,Lf,iU,kA,hC,kj,ae,ak,da,hr,nA];repeat' (first|refine ax ?_ ?_|fail)<;>intro h<;>simp only[h,go_sem,go_sem_proc,j1,oh,vS,k8,g5,ab,bB,b2,cp,ui,hw,hdiv,xb,Lf,iU,kA,hC,kj,ae,ak,da,hr,nA]
     ·simp only[go_sem,go_sem_proc,j1,oh,vS,k8,g5,ab,bB,b2,cp,ui,hw,hdiv,xb,iU,kA,hC,kj,ae,ak,da,hr,nA];repeat' (first|refine ax ?_ ?_|fail)<;>intro h<;>simp only[h,go_sem,go_sem_proc,j1,oh,vS,k8,g5,ab,bB,b2,cp,ui,hw,hdiv,xb,iU,kA,hC,kj,ae,ak,da,hr,nA]
  ·have bB:dG (s2,ai)=false:=by simpa using bB
   have hm:kC (s,l) (s2,ai)=((0,[]),(0,[]),1):=by unfold kC;rw[bB,iT];rfl
   rw[hm];simp only[go_sem,go_sem_proc,j1,oh,vS,k8,g5,ab,bB,b2,cp,da,hr,cZ];repeat' (first|refine ax ?_ ?_|fail)<;>intro h<;>simp only[h,go_sem,go_sem_proc,j1,oh,vS,k8,g5,ab,bB,b2,cp,da,hr,cZ]
 ·have ab:dG (s,l)=false:=by simpa using ab
  have hm:kC (s,l) (s2,ai)=((0,[]),(0,[]),1):=by unfold kC;rw[ab,fx];rfl
  rw[hm];simp only[go_sem,go_sem_proc,j1,oh,vS,k8,g5,ab,b2,cp,da,hr,cZ];repeat' (first|refine ax ?_ ?_|fail)<;>intro h<;>simp only[h,go_sem,go_sem_proc,j1,oh,vS,k8,g5,ab,b2,cp,da,hr,cZ]
def Yp:bP:=b8 19 2 [.t 4] (U [dL 2 115002 0,cA 4 false] (U [bf 5 0 2,bf 6 1 5,aV 7 1 6,b6 8 7,F 9 1,bo 10 .leq 8 9,F 11 10,⟨some 12,some (11,true),.dY 2 (.t 2)⟩,⟨some 13,some (11,true),.dY 1 (.t 12)⟩,⟨some 14,some (11,true),.load 1 false (.t 13)⟩,⟨some 15,some (11,true),.len (.t 14)⟩,⟨some 16,some (11,true),.cm (.t 1)⟩,⟨some 17,some (11,true),.bin .leq (.t 15) (.t 16)⟩,fN 18 11 17,F 4 18] .ret))
def Yq:bP:=b8 17 2 [.t 4] (U [dL 2 120002 0,dL 3 120003 1,cA 4 false] (U [bf 5 0 2,bn 6 2 5,bf 7 0 3,bn 8 2 7,(cv 9 OD 6 8),F 10 9,⟨some 11,some (10,true),.dY 2 (.t 2)⟩,⟨some 12,some (10,true),.load 2 true (.t 11)⟩,⟨some 13,some (10,true),.dY 2 (.t 3)⟩,⟨some 14,some (10,true),.load 2 true (.t 13)⟩,⟨some 15,some (10,true),.call OD [(.t 12),(.t 14)]⟩,fN 16 10 15,F 4 16] .ret))
def Yr:bP:=b8 13 2 [.cell 4 4 true,.t 5] (U [(aD 4 (.alloc 124004 [(al 0),.nil,(al 0),.nil])),br 5 0] (U [F 6 0,(dQ 7 OE 6),F 8 1,(dQ 9 OE 8),(cv 10 Uu 7 9),bA 11 0 10,bA 12 1 10,bp 4 4 11,F 5 12] .ret))
def Ys:bP:=b8 38 2 [.t 4] (U [dL 2 142002 0,dL 3 142003 1,cA 4 false] (.seq (U [bf 6 0 2,aV 7 1 6,bf 8 0 3,aV 9 1 8,bo 10 .neq 7 9,F 11 10,⟨some 12,some (11,false),.dY 1 (.t 2)⟩,⟨some 13,some (11,false),.load 1 false (.t 12)⟩,⟨some 14,some (11,false),.len (.t 13)⟩,⟨some 15,some (11,false),.dY 1 (.t 3)⟩,⟨some 16,some (11,false),.load 1 false (.t 15)⟩,⟨some 17,some (11,false),.len (.t 16)⟩,⟨some 18,some (11,false),.bin .neq (.t 14) (.t 17)⟩,eh 19 11 18] (aY 19 (U [cA 4 false] .ret) .skip)) (.seq (U [br 5 0] (.block 0 (.loop  (.seq (U [F 20 5,bf 21 1 2,aV 22 1 21,b6 23 22,bo 24 .lss 20 23] (aY 24 .skip (.exit 0))) (.seq (.block 1 (fD [bf 27 1 2,aV 28 1 27,F 29 5,bH 30 1 28 29,aV 31 1 30,bf 32 1 3,aV 33 1 32,F 34 5,bH 35 1 33 34,aV 36 1 35,bo 37 .neq 31 36] KO (aY 37 (U [cA 4 false] .ret) .skip))) (.ops [F 25 5,a5 26 .add 25 1,F 5 26])))))) (U [cA 4 true] .ret))))
def Yt:bP:=b8 57 2 [.cell 4 4 true,.t 5] (U [dL 2 143002 0,dL 3 143003 1,(aD 4 (.alloc 143004 [(al 0),.nil,(al 0),.nil])),br 5 0] (.seq (U [bn 14 2 2,(dQ 15 vu 14),fh 16 15,F 17 16,⟨some 18,some (17,false),.load 2 true (.t 3)⟩,⟨some 19,some (17,false),.call vu [(.t 18)]⟩,⟨some 20,some (17,false),.un .not (.t 19)⟩,eh 21 17 20] (aY 21 (U [(aD 22 (.build [(al 0),.nil,(al 0),.nil] [])),bp 4 4 22,br 5 1] .ret) .skip)) (.seq (U [bf 23 0 3,aV 24 1 23,a5 25 .eql 24 0] (aY 25 (U [(aD 26 (.build [(al 0),.nil,(al 0),.nil] [])),bp 4 4 26,br 5 15] .ret) .skip)) (.seq (U [bf 27 0 3,aV 28 1 27,a5 29 .lss 28 0] (aY 29 (U [bn 30 2 2,(dQ 31 OI 30),bp 2 2 31] (.ops [bn 32 2 3,(dQ 33 OI 32),bp 2 3 33])) .skip)) (U [bn 35 2 2,bn 36 2 3,(cv 37 UC 35 36),F 34 37,bA 38 0 34,bA 39 1 34,(aD 6 (.alloc 143006 [(al 0),.nil])),bp 2 6 38,F 7 39] (U [bn 41 2 2,bn 42 2 6,(cv 43 OJ 41 42),F 40 43,bA 44 0 40,bA 45 1 40,bA 46 2 40,(aD 8 (.alloc 143008 [(al 0),.nil])),(aD 9 (.alloc 143009 [(al 0),.nil])),bp 2 8 44,bp 2 9 45,F 10 46] (U [bn 48 2 3,bn 49 2 6,(cv 50 OJ 48 49),F 47 50,bA 51 0 47,bA 52 1 47,bA 53 2 47,(aD 11 (.alloc 143011 [(al 0),.nil])),(aD 12 (.alloc 143012 [(al 0),.nil])),bp 2 11 51,bp 2 12 52,F 13 53] (U [bn 54 2 8,bn 55 2 11,(aD 56 (.build [(al 0),.nil,(al 0),.nil] [(0,2,(.t 54)),(2,2,(.t 55))])),bp 4 4 56,br 5 0] .ret))))))))
end Go.Mini
