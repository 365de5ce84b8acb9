/- A part of the proof. -/
import Derived.Test.YtgpioapepokkbaaGreatM02
set_option linter.unusedSimpArgs false
set_option linter.unusedVariables false
set_option maxRecDepth 100000
set_option maxHeartbeats 4000000
noncomputable section
open Bool renaming and_eq_true->eM,and_false->hP,eq_iff_iff->Ck,false_and->fu,false_eq_true->kX,not_eq_false'->agN,not_eq_true'->rO,true_and->g3
open Decidable renaming em->dF,not_not->af4
open Int renaming add_comm->yB,add_zero->xd,cast_ofNat_Int->l0,fdiv_eq_ediv_of_nonneg->af9,le_of_lt->PZ,lt_trichotomy->yD,mul_add->iu,mul_assoc->iv,mul_comm->nx,mul_fdiv_add_fmod->Qa,mul_ne_zero->Aq,mul_neg->Lp,mul_nonneg->yA,mul_one->vA,mul_zero->ua,natAbs_mul->qM,natAbs_natCast->mQ,natAbs_neg->PX,natCast_add->af0,natCast_pos->Ej,natCast_zero->lC,neg_mul->Hf,ofNat_sub->afZ,one_mul->oe,pow_pos->G8,pow_succ->nw,reducePow->af8,sign_eq_neg_one_of_neg->rJ,sign_eq_one_of_pos->jY,sign_eq_zero_iff_zero->Wu,sign_mul->sN,sign_neg->Ef,sign_sign->Ci,sign_zero->yQ,sub_zero->La,tdiv_eq_ediv_of_nonneg->GX,tdiv_nonneg->agR,tmod_eq_emod_of_nonneg->Lb,tmod_nonneg->agQ,toNat_natCast->l1,zero_mul->Ah,zero_sub->ago
open List renaming all_cons->Gq,append_assoc->gW,append_nil->fE,drop_eq_getElem_cons->ij,drop_set_of_lt->tB,drop_zero->lV,findIdx?_eq_none_iff->agr,findIdx?_eq_some_iff_getElem->agq,flatten_nil->agA,getD_eq_getElem?_getD->ep,getElem?_eq_getElem->bz,getElem?_eq_none->mB,getElem?_map->bn,getElem_mem->ph,length->D,length_append->fr,length_cons->h0,length_map->aj,length_nil->jy,length_pos_iff->PQ,length_singleton->vQ,length_take->fI,map_cons->eA,map_nil->cY,map_take->Cr,mem_replicate->GU,mem_singleton->ub,replicate->dG,take_length->kN,take_of_length_le->dB
open List.cons renaming injEq->bf
open Nat renaming div_add_mod->PT,div_div_eq_div_mul->agD,div_le_self->Wt,eq_zero_or_pos->k4,gcd->jo,gcd_comm->PR,gcd_rec->afX,gcd_zero_right->afW,le_of_lt->PW,le_refl->b1,lt_of_div_lt_div->agE,lt_of_le_of_lt->vD,lt_of_lt_of_le->Dh,lt_or_ge->ih,lt_trans->af2,max_eq_right->Ya,min_eq_left->oL,mod_lt->oj,mul_comm->rC,mul_le_mul_right->vg,mul_lt_mul_of_pos_left->agK,mul_one->cI,pos_of_ne_zero->PY,pow_succ->wW,reduceEqDiff->ed,reduceMul->af7,succ_pos->af3,zero_div->Wx,zero_le->fk,zero_mod->Ws
open Option renaming bind_none->iz,bind_some->ir
open Option.some renaming injEq->ca
open Prod renaming ext->dR,fst->Cl
open Rat renaming divInt->l4,divInt_mul_divInt->age,neg_divInt_neg->aga,num_divInt_den->Eo,sub_eq_add_neg->Ly
namespace Go.Mini
open Go
theorem mP (x:Int):(x.sign=1/\0<x)\/(x.sign=0/\x=0)\/(x.sign = -1/\x<0):=by
 rcases yD x 0 with h|h|h
 ·exact .inr (.inr ⟨rJ h,h⟩)
 ·exact .inr (.inl ⟨by rw[h];rfl,h⟩)
 ·exact .inl ⟨jY h,h⟩
def xi (a b:Raw):Int:=if (dI a&&dI b)=true then hI (iy a) (iy b) else 0
theorem afV {x y:Int}(O:x.natAbs<ee)(aw:y.natAbs<ee):xi (bT x) (bT y)=hI x y:=by
 unfold xi;rw[ld O,ld aw,fR,fR]
 rfl
theorem Lm {x y:Int}(h:x<y):hI x y = -1:=by unfold hI;rw[ad (by simpa using h)]
theorem Ln {x y:Int}(h:y<x):hI x y=1:=by unfold hI;rw[ah (by simp;omega),ad (by simpa using h)]
theorem PN (x:Int):hI x x=0:=by unfold hI;simp
def Wp:=cu xg λ(s,l,s2,aq)=>cU (D l<=1000000/\D aq<=1000000) (.same (.int .i64 (xi (s,l) (s2,aq))))
@[go_sem] theorem aKi (s:Int)(l:List Int)(s2:Int)(aq:List Int)(H:(D l)<=1000000/\D aq<=1000000):Wp [.agg [.int .i64 s,.Y (l.map ae)],.agg [.int .i64 s2,.Y (aq.map ae)]]=some (.same (.int .i64 (xi (s,l) (s2,aq)))):=(cD Af (s,l,s2,aq)).trans (cZ H _)
theorem asR (T:bl)(dM:T k7=aW w5)(oc:T GC=aW Pf)(gh:T DS=aW K8)(s:Int)(l:List Int)(s2:Int)(aq:List Int)(H:(D l)<=1000000/\D aq<=1000000):WP T Vc (.same (.int .i64 (xi (s,l) (s2,aq)))) [.J (.agg [.int .i64 s,.Y (l.map ae)]),.J (.agg [.int .i64 s2,.Y (aq.map ae)])]:=by
 refine cE ?_;simp only[Vc];obtain⟨cr,cf⟩:=H
 by_cases ab:dI (s,l)=true
 ·by_cases bH:dI (s2,aq)=true
  ·obtain⟨x,O,e⟩:=(jX _).1 ab;obtain⟨y,aw,aD⟩:=(jX _).1 bH;have hm:xi (s,l) (s2,aq)=hI x y:=by rw[e,aD];exact afV O aw
   rw[hm];clear hm
   cases e
   cases aD;have oh:=rK O;have k9:=rK aw;have gV:=VI x.natAbs y.natAbs ⟨by omega,by omega⟩
   simp only[b4] at gV
   by_cases U:x.sign=y.sign
   ·have Ch:(x.sign==y.sign)=true:=by simpa using U
    have vm:IntKind.i64.wrap (y.sign*hI x.natAbs y.natAbs)=hI x y:=by
     rcases mP x with ⟨e,F⟩|⟨e,F⟩|⟨e,F⟩<;>rcases mP y with ⟨e',I⟩|⟨e',I⟩|⟨e',I⟩<;>rw[e,e'] at U<;>first|omega|skip
     ·rw[e',oe,show (x.natAbs:Int)=x by omega,show (y.natAbs:Int)=y by omega]
      rcases yD x y with h|h|h
      ·rw[Lm h];rfl
      ·rw[h,PN];rfl
      ·rw[Ln h];rfl
     ·rw[e',F,I];rfl
     ·rw[e'];rcases yD x y with h|h|h
      ·rw[Lm h,Ln (by omega)];rfl
      ·rw[h,PN,PN];rfl
      ·rw[Ln h,Lm (by omega)];rfl
    rw[<-U] at vm;simp only[go_sem,go_sem_proc,dM,oc,gh,ab,bH,cr,cf,Ch,gV,vm];repeat' (first|refine ax ?_ ?_|fail)<;>intro h<;>simp only[h,go_sem,go_sem_proc,dM,oc,gh,ab,bH,cr,cf,Ch,gV,vm]
   ·have Ch:(x.sign==y.sign)=false:=by simpa using U
    have vm:hI x.sign y.sign=hI x y:=by
     rcases mP x with ⟨e,F⟩|⟨e,F⟩|⟨e,F⟩<;>rcases mP y with ⟨e',I⟩|⟨e',I⟩|⟨e',I⟩<;>rw[e,e'] at U ⊢<;>first|omega|(rw[Lm (show x<y by omega)];rfl)|(rw[Ln (show y<x by omega)];rfl)
    simp only[go_sem,go_sem_proc,dM,oc,gh,ab,bH,cr,cf,Ch,vm];repeat' (first|refine ax ?_ ?_|fail)<;>intro h<;>simp only[h,go_sem,go_sem_proc,dM,oc,gh,ab,bH,cr,cf,Ch,vm]
  ·have bH:dI (s2,aq)=false:=by simpa using bH
   have hm:xi (s,l) (s2,aq)=0:=by unfold xi;rw[bH,hP];rfl
   rw[hm];simp only[go_sem,go_sem_proc,dM,oc,gh,ab,bH,cr,cf];repeat' (first|refine ax ?_ ?_|fail)<;>intro h<;>simp only[h,go_sem,go_sem_proc,dM,oc,gh,ab,bH,cr,cf]
 ·have ab:dI (s,l)=false:=by simpa using ab
  have hm:xi (s,l) (s2,aq)=0:=by unfold xi;rw[ab,fu];rfl
  rw[hm];simp only[go_sem,go_sem_proc,dM,oc,gh,ab,cr,cf];repeat' (first|refine ax ?_ ?_|fail)<;>intro h<;>simp only[h,go_sem,go_sem_proc,dM,oc,gh,ab,cr,cf]
def l3 (a b:Raw):Raw×Int:=if (dI a&&dI b)=true then (bT (jo (iy a).natAbs (iy b).natAbs:Nat),0) else ((0,[]),1)
theorem Lo {x y:Int}(O:x.natAbs<ee)(aw:y.natAbs<ee):jo x.natAbs y.natAbs<ee:=by
 rcases k4 x.natAbs with h|h
 ·rw[h,Nat.gcd_zero_left];exact aw
 ·exact vD (Nat.gcd_le_left _ h) O
def PO:=cu xg λ(s,l,s2,aq)=>cU (D l<=1000000/\D aq<=1000000) (.same (fS (l3 (s,l) (s2,aq))))
@[go_sem] theorem aKj (s:Int)(l:List Int)(s2:Int)(aq:List Int)(H:(D l)<=1000000/\D aq<=1000000):PO [.agg [.int .i64 s,.Y (l.map ae)],.agg [.int .i64 s2,.Y (aq.map ae)]]=some (.same (fS (l3 (s,l) (s2,aq)))):=(cD Af (s,l,s2,aq)).trans (cZ H _)
theorem asS (T:bl)(dM:T k7=aW w5)(fL:T vt=aW BS)(oi:T KI=aW Ps)(fA:T pr=aW BU)(nc:T vr=aW Lk)(s:Int)(l:List Int)(s2:Int)(aq:List Int)(H:(D l)<=1000000/\D aq<=1000000):WP T U7 (.same (fS (l3 (s,l) (s2,aq)))) [.J (.agg [.int .i64 s,.Y (l.map ae)]),.J (.agg [.int .i64 s2,.Y (aq.map ae)])]:=by
 refine cE ?_;simp only[U7];obtain⟨cr,cf⟩:=H
 by_cases ab:dI (s,l)=true
 ·by_cases bH:dI (s2,aq)=true
  ·obtain⟨x,O,e⟩:=(jX _).1 ab;obtain⟨y,aw,aD⟩:=(jX _).1 bH
   have hm:l3 (s,l) (s2,aq)=(bT (jo x.natAbs y.natAbs:Nat),0):=by
    rw[e,aD];unfold l3
    rw[ld O,ld aw,fR,fR]
    rfl
   rw[hm];clear hm
   cases e
   cases aD;have oh:=rK O;have k9:=rK aw;have bc:=Lo O aw;generalize nA:x.natAbs=c6 at *;generalize Ag:y.natAbs=gi at *;have Wq:(aJ c6).length<=1000000:=by omega
   simp only[go_sem,go_sem_proc,dM,fL,oi,fA,nc,ab,bH,nA,Ag,cr,cf,Wq,ae,aj];refine dw [4] [137004] (λ((a,b):Nat×Nat) tm mem=>a<ee/\b<ee/\jo c6 gi=jo a b/\tm 6=.J (.Y ((aJ a).map ae))/\tm 7=.J (.Y ((aJ b).map ae))) (λ(_,b)=>b) (c6,gi) (by refine⟨O,aw,rfl,rfl,rfl⟩) ?_;intro vs ms aT aS;simp only[go_sem,go_sem_proc,dM,fL,oi,fA,nc,nA,Ag] at aT aS;subst aT aS;rintro⟨a,b⟩ tm mem Q hm ⟨aN,ag,xj,bR,bN⟩;simp only[go_sem,go_sem_proc,dM,fL,oi,fA,nc,bf] at Q hm;have aO:=Q;have iU:(aJ a).length<=60:=g4.2 aN;have kK:(aJ b).length<=60:=g4.2 ag;rcases k4 b with ao|h4
   ·subst ao;have aV:aJ 0=[]:=rfl;have Wr:(aJ a).length<=1000000:=by omega
    rw[afW] at xj;have U:kn 1 (aJ a)=bT ((a:Nat):Int):=p0 (by simp) λaK=>(jY (by omega)).symm;have Q:sL ((a:Nat):Int)=(bT ((a:Nat):Int),0):=by unfold sL;rw[ad (by simpa using aN)]
    rw[xj];refine aZ ?_;repeat' (intro h<;>simp only[h,go_sem,go_sem_proc,dM,fL,oi,fA,nc,aO,bR,bN,hm,aV,Wr,U,Q,Ca,dc,fS,nC,cY,jy,lC,l0,show ¬ ((0:Int)>0) by omega,decide_false]<;>try refine ax ?_ ?_)
   ·have bE:decide (((aJ b).length:Int)>0)=true:=by
     have:aJ b≠[]:=by rw[Ne,zQ];omega
     have:=PQ.2 this;exact dp
    have hdiv:=afE a b ⟨by omega,by omega,h4⟩
    simp only[b4] at hdiv;refine aZ ?_;repeat' (intro h<;>simp only[h,go_sem,go_sem_proc,dM,fL,oi,fA,nc,aO,bR,bN,hm,bE,hdiv,aj]<;>try refine ax ?_ ?_)
    exact⟨(b,a%b),oj _ h4,ag,vD (Nat.mod_le _ _) aN,by dsimp only;rw[xj,PR a b,afX b a,PR],rfl,rfl⟩
  ·have bH:dI (s2,aq)=false:=by simpa using bH
   have hm:l3 (s,l) (s2,aq)=((0,[]),1):=by unfold l3;rw[bH,hP];rfl
   rw[hm];have oX:=Hd false 0 [];simp only[cY] at oX;refine aZ ?_;repeat' (intro h<;>simp only[h,go_sem,go_sem_proc,dM,fL,oi,fA,nc,ab,bH,cr,cf,oX,dc,fS,cY]<;>try refine ax ?_ ?_)
 ·have ab:dI (s,l)=false:=by simpa using ab
  have hm:l3 (s,l) (s2,aq)=((0,[]),1):=by unfold l3;rw[ab,fu];rfl
  rw[hm];have oX:=Hd false 0 [];simp only[cY] at oX;refine aZ ?_;repeat' (intro h<;>simp only[h,go_sem,go_sem_proc,dM,fL,oi,fA,nc,ab,cr,cf,oX,dc,fS,cY]<;>try refine ax ?_ ?_)
def kM (a b:Raw):Raw×Raw×Int :=
 if (dI a&&dI b)=true then
  if iy b=0 then ((0,[]),(0,[]),15) else (bT ((iy a).fdiv (iy b)),bT ((iy a).fmod (iy b)),0)
 else ((0,[]),(0,[]),1)
def ho (x:Raw×Raw×Int):Data:=.cM [.agg (dc x.1),.agg (dc x.2.1),.int .i64 x.2.2]
theorem afY {x y q r:Int}(h:r+y*q=x)(ab:(0<=r/\r<y)\/(y<r/\r<=0)):x.fdiv y=q/\x.fmod y=r:=by
 rcases ab with ⟨F,I⟩|⟨F,I⟩
 ·exact (Int.fdiv_fmod_unique (by omega)).2 ⟨h,F,I⟩
 ·exact (Int.fdiv_fmod_unique' (by omega)).2 ⟨h,F,I⟩
theorem PS {x y:Int}(h:x.sign*y.sign<0)(hm:x.natAbs%y.natAbs≠0):
  x.fdiv y = -((x.natAbs/y.natAbs+1:Nat):Int)/\x.fmod y=y.sign*((y.natAbs-x.natAbs%y.natAbs:Nat):Int):=by
 have I:=PT x.natAbs y.natAbs;generalize fm:x.natAbs/y.natAbs=aM at *;generalize gU:x.natAbs%y.natAbs=cg at *
 have aw:0<y.natAbs:=by
  rcases k4 y.natAbs with ao|ao
  ·rw[Int.natAbs_eq_zero.1 ao] at h;simp at h
  ·exact ao
 have aA:cg<y.natAbs:=by rw[<-gU];exact oj _ aw
 have sy:(y.natAbs:Int)*aM+cg=x.natAbs:=by exact_mod_cast I
 refine afY ?_ ?_
 ·rcases mP x with ⟨e,F⟩|⟨e,F⟩|⟨e,F⟩<;>rcases mP y with ⟨e',af⟩|⟨e',af⟩|⟨e',af⟩<;>rw[e,e'] at h<;>first|omega|rw[e']
  ·rw[afZ (by omega),af0,Lp,iu];have:(y.natAbs:Int) = -y:=by omega
   rw[this] at sy ⊢;rw[Hf] at sy;omega
  ·rw[afZ (by omega),af0,Lp,iu];have:(y.natAbs:Int)=y:=by omega
   rw[this] at sy ⊢;omega
 ·rcases mP y with ⟨e',af⟩|⟨e',af⟩|⟨e',af⟩<;>rw[e']<;>omega
theorem PU {x y:Int}(aw:y≠0)(h:¬ (x.sign*y.sign<0/\x.natAbs%y.natAbs≠0)):
  x.fdiv y=x.sign*y.sign*((x.natAbs/y.natAbs:Nat):Int)/\x.fmod y=x.sign*((x.natAbs%y.natAbs:Nat):Int):=by
 have I:=PT x.natAbs y.natAbs;have aA:x.natAbs%y.natAbs<y.natAbs:=oj _ (by omega);generalize fm:x.natAbs/y.natAbs=aM at *;generalize gU:x.natAbs%y.natAbs=cg at *;have sy:(y.natAbs:Int)*aM+cg=x.natAbs:=by exact_mod_cast I
 refine afY ?_ ?_
 ·rcases mP x with ⟨e,F⟩|⟨e,F⟩|⟨e,F⟩<;>rcases mP y with ⟨e',af⟩|⟨e',af⟩|⟨e',af⟩<;>first|omega|(rw[e,e'])
  ·rw[show (y.natAbs:Int)=y by omega] at sy;simp only[oe];omega
  ·rw[show (y.natAbs:Int) = -y by omega,Hf] at sy;simp only[oe,Hf,Lp];omega
  ·simp only[Ah,ua];omega
  ·simp only[Ah,ua];omega
  ·rw[show (y.natAbs:Int)=y by omega] at sy;simp only[oe,Hf,Lp,vA];omega
  ·rw[show (y.natAbs:Int) = -y by omega,Hf] at sy;simp only[oe,Hf,Lp,Int.neg_neg];omega
 ·have ast:x.natAbs=0->cg=0:=by
   intro ao;rw[<-gU,ao,Ws]
  rcases mP x with ⟨e,F⟩|⟨e,F⟩|⟨e,F⟩<;>rcases mP y with ⟨e',af⟩|⟨e',af⟩|⟨e',af⟩<;>rw[e,e'] at h<;>rw[e]<;>omega
theorem Hg {x y:Int}(O:x.natAbs<ee)(iW:y≠0):(x.fdiv y).natAbs<ee:=by
 by_cases h:x.sign*y.sign<0/\x.natAbs%y.natAbs≠0
 ·have aH:=(PS h.1 h.2).1;have I:=PT x.natAbs y.natAbs
  have:x.natAbs/y.natAbs+1<=x.natAbs:=by
   have asT:2<=y.natAbs:=by
    rcases ih y.natAbs 2 with ao|ao
    ·have:y.natAbs=1:=by omega
     rw[this,Nat.mod_one] at h;exact absurd rfl h.2
    ·exact ao
   have af:2*(x.natAbs/y.natAbs)<=y.natAbs*(x.natAbs/y.natAbs):=vg _ asT;omega
  generalize x.natAbs/y.natAbs=aM at *;omega
 ·have aH:=(PU iW h).1;have af:x.natAbs/y.natAbs<=x.natAbs:=Wt _ _
  have aO:(x.fdiv y).natAbs<=x.natAbs/y.natAbs:=by
   rw[aH,qM,qM,mQ];have F:x.sign.natAbs<=1:=by have:=rL x;omega
   have I:y.sign.natAbs<=1:=by have:=rL y;omega
   have:=Nat.mul_le_mul F I;have:=vg (x.natAbs/y.natAbs) this;omega
  omega
theorem af1 {x y:Int}(aw:y.natAbs<ee)(iW:y≠0):(x.fmod y).natAbs<ee:=by
 by_cases h:x.sign*y.sign<0/\x.natAbs%y.natAbs≠0
 ·have aH:=(PS h.1 h.2).2;rcases mP y with ⟨e',af⟩|⟨e',af⟩|⟨e',af⟩<;>rw[e'] at aH<;>omega
 ·have aH:=(PU iW h).2;have aA:x.natAbs%y.natAbs<y.natAbs:=oj _ (by omega);rcases mP x with ⟨e',af⟩|⟨e',af⟩|⟨e',af⟩<;>rw[e'] at aH<;>omega
theorem Eg {x y:Int}(O:x.natAbs<ee)(aw:y.natAbs<ee)(ao:y≠0):kM (bT x) (bT y)=(bT (x.fdiv y),bT (x.fmod y),0):=by
 unfold kM;rw[ld O,ld aw,fR,fR,ad (by rfl),ah ao]
def PV:=cu xg λ(s,l,s2,aq)=>cU (D l<=1000000/\D aq<=1000000) (.same (ho (kM (s,l) (s2,aq))))
@[go_sem] theorem aKk (s:Int)(l:List Int)(s2:Int)(aq:List Int)(H:(D l)<=1000000/\D aq<=1000000):PV [.agg [.int .i64 s,.Y (l.map ae)],.agg [.int .i64 s2,.Y (aq.map ae)]]=some (.same (ho (kM (s,l) (s2,aq)))):=(cD Af (s,l,s2,aq)).trans (cZ H _)
theorem asU (T:bl)(dM:T k7=aW w5)(oi:T KI=aW Ps)(mN:T KK=aW Pk)(mO:T GA=aW Pl)(fA:T pr=aW BU)(s:Int)(l:List Int)(s2:Int)(aq:List Int)(H:(D l)<=1000000/\D aq<=1000000):WP T Vb (.same (ho (kM (s,l) (s2,aq)))) [.J (.agg [.int .i64 s,.Y (l.map ae)]),.J (.agg [.int .i64 s2,.Y (aq.map ae)])]:=by
 refine cE ?_;simp only[Vb];obtain⟨cr,cf⟩:=H
 by_cases ab:dI (s,l)=true
 ·by_cases bH:dI (s2,aq)=true
  ·obtain⟨x,O,e⟩:=(jX _).1 ab;obtain⟨y,aw,aD⟩:=(jX _).1 bH
   by_cases iW:y=0
   ·have hm:kM (s,l) (s2,aq)=((0,[]),(0,[]),15):=by
     rw[e,aD];unfold kM
     rw[ld O,ld aw,fR,fR,ad (by rfl),ad iW]
    rw[hm]
    cases e
    cases aD;have ao:((y.sign:Int)==0)=true:=by rw[iW];rfl
    simp only[go_sem,go_sem_proc,dM,oi,mN,mO,fA,ab,bH,cr,cf,ao,dc,ho,cY];repeat' (first|refine ax ?_ ?_|fail)<;>intro h<;>simp only[h,go_sem,go_sem_proc,dM,oi,mN,mO,fA,ab,bH,cr,cf,ao,dc,ho,cY]
   ·have hm:kM (s,l) (s2,aq)=(bT (x.fdiv y),bT (x.fmod y),0):=by
     rw[e,aD];exact Eg O aw iW
    rw[hm];clear hm
    cases e
    cases aD;have oh:=rK O;have k9:=rK aw;have uf:(y.sign==0)=false:=by rw[beq_eq_false_iff_ne,Ne,Wu];exact iW
    have Eh:0<y.natAbs:=by omega
    have F:=rL x;have I:=rL y;have aG:x.sign*y.sign=(x*y).sign:=(sN x y).symm;have af:=rL (x*y);have hw:IntKind.i64.wrap (x.sign*y.sign)=x.sign*y.sign:=by rw[aG];exact wrap64 _ (by omega) (by omega)
    have hdiv:=afE x.natAbs y.natAbs ⟨by omega,by omega,Eh⟩
    simp only[b4] at hdiv;have aL:=Hg (y:=y) O iW;have yJ:=af1 (x:=x) aw iW;have Wv:x.natAbs/y.natAbs<ee:=vD (Wt _ _) O;have asV:(aJ (x.natAbs/y.natAbs)).length<=60:=g4.2 Wv;have Ei:x.natAbs%y.natAbs<ee:=af2 (oj _ Eh) aw;have asW:(aJ (x.natAbs%y.natAbs)).length<=60:=g4.2 Ei
    by_cases ug:x.sign*y.sign<0/\x.natAbs%y.natAbs≠0
    ·obtain⟨eq,uh⟩:=PS ug.1 ug.2
     have bE:decide (((aJ (x.natAbs%y.natAbs)).length:Int)>0)=true:=by
      have:aJ (x.natAbs%y.natAbs)≠[]:=by rw[Ne,zQ];exact ug.2
      have:=PQ.2 this;exact dp
     have kL:decide (x.sign*y.sign<0)=true:=kf ug.1;have jV:aJ 1=[1]:=by simp[aJ,yu]
     have asX:(aJ 1).length=1:=by rw[jV];rfl
     have iI:=ae9 (x.natAbs/y.natAbs) 1 ⟨by omega,by omega⟩
     simp only[b4,jV,eA,cY,ae] at iI;have jW:=VO y.natAbs (x.natAbs%y.natAbs) ⟨by omega,PW (oj _ Eh)⟩
     simp only[b4] at jW
     have iU:(aJ (x.natAbs/y.natAbs+1)).length<=1000000:=by
      have:(x.natAbs/y.natAbs+1)<ee:=by rw[eq] at aL;rw[PX,mQ] at aL;exact aL
      have:=(g4 (k:=60)).2 this;omega
     have kK:(aJ (y.natAbs-x.natAbs%y.natAbs)).length<=1000000:=by have:=PM y.natAbs (x.natAbs%y.natAbs);omega
     have hA:kn (-1) (aJ (x.natAbs/y.natAbs+1))=bT (x.fdiv y):=p0 (by rw[eq,PX,mQ]) λ_=>by rw[eq,Ef,jY (show (0:Int)<((x.natAbs/y.natAbs+1:Nat):Int) by exact Ej.2 (af3 _))]
     have ko:kn y.sign (aJ (y.natAbs-x.natAbs%y.natAbs))=bT (x.fmod y):=by
      refine p0 ?_ λaK=>?_
      ·rw[uh];rcases mP y with ⟨e',af⟩|⟨e',af⟩|⟨e',af⟩<;>rw[e']<;>omega
      ·rw[uh,sN,Ci,jY (show (0:Int)<((y.natAbs-x.natAbs%y.natAbs:Nat):Int) by omega),vA]
     simp only[go_sem,go_sem_proc,dM,oi,mN,mO,fA,ab,bH,cr,cf,uf,hw,hdiv,bE,kL,iI,jW,iU,kK,hA,ko,ae,aj,dc,ho,nC];repeat' (first|refine ax ?_ ?_|fail)<;>intro h<;>simp only[h,go_sem,go_sem_proc,dM,oi,mN,mO,fA,ab,bH,cr,cf,uf,hw,hdiv,bE,kL,iI,jW,iU,kK,hA,ko,ae,aj,dc,ho,nC]
    ·obtain⟨eq,uh⟩:=PU iW ug
     have Ww:(decide (x.sign*y.sign<0)=true/\decide (((aJ (x.natAbs%y.natAbs)).length:Int)>0)=false)\/decide (x.sign*y.sign<0)=false:=by
      by_cases aK:x.sign*y.sign<0
      ·left
       have:x.natAbs%y.natAbs=0:=af4.1 λh=>ug ⟨aK,h⟩;rw[this];exact⟨kf aK,rfl⟩
      ·right;exact mw aK
     have iU:(aJ (x.natAbs/y.natAbs)).length<=1000000:=by omega
     have kK:(aJ (x.natAbs%y.natAbs)).length<=1000000:=by omega
     have hA:kn (x.sign*y.sign) (aJ (x.natAbs/y.natAbs))=bT (x.fdiv y):=by
      refine p0 ?_ λaK=>?_
      ·rw[eq]
       have Ek:∀aM:Nat,(x=0->aM=0)->(x.sign*y.sign*(aM:Int)).natAbs=aM:=by
        intro aM ao;rcases mP x with ⟨e,F⟩|⟨e,F⟩|⟨e,F⟩<;>rcases mP y with ⟨e',af⟩|⟨e',af⟩|⟨e',af⟩<;>rw[e,e']<;>first|omega|(rw[ao F];rfl)
       exact Ek _ λao=>by rw[ao];exact Wx _
      ·rw[eq,aG,sN,sN,sN,Ci,Ci,jY (show (0:Int)<((x.natAbs/y.natAbs:Nat):Int) from Ej.2 (PY aK)),vA]
     have ko:kn x.sign (aJ (x.natAbs%y.natAbs))=bT (x.fmod y):=by
      refine p0 ?_ λaK=>?_
      ·rw[uh]
       have Ek:∀aM:Nat,(x=0->aM=0)->(x.sign*(aM:Int)).natAbs=aM:=by
        intro aM ao;rcases mP x with ⟨e,F⟩|⟨e,F⟩|⟨e,F⟩<;>rw[e]<;>first|omega|(rw[ao F];rfl)
       exact Ek _ λao=>by rw[ao];exact Ws _
      ·rw[uh,sN,Ci,jY (show (0:Int)<((x.natAbs%y.natAbs:Nat):Int) from Ej.2 (PY aK)),vA]
     rcases Ww with ⟨xk,Lq⟩|xk
     ·simp only[go_sem,go_sem_proc,dM,oi,mN,mO,fA,ab,bH,cr,cf,uf,hw,hdiv,xk,Lq,iU,kK,hA,ko,ae,aj,dc,ho,nC];repeat' (first|refine ax ?_ ?_|fail)<;>intro h<;>simp only[h,go_sem,go_sem_proc,dM,oi,mN,mO,fA,ab,bH,cr,cf,uf,hw,hdiv,xk,Lq,iU,kK,hA,ko,ae,aj,dc,ho,nC]
     ·simp only[go_sem,go_sem_proc,dM,oi,mN,mO,fA,ab,bH,cr,cf,uf,hw,hdiv,xk,iU,kK,hA,ko,ae,aj,dc,ho,nC];repeat' (first|refine ax ?_ ?_|fail)<;>intro h<;>simp only[h,go_sem,go_sem_proc,dM,oi,mN,mO,fA,ab,bH,cr,cf,uf,hw,hdiv,xk,iU,kK,hA,ko,ae,aj,dc,ho,nC]
  ·have bH:dI (s2,aq)=false:=by simpa using bH
   have hm:kM (s,l) (s2,aq)=((0,[]),(0,[]),1):=by unfold kM;rw[bH,hP];rfl
   rw[hm];simp only[go_sem,go_sem_proc,dM,oi,mN,mO,fA,ab,bH,cr,cf,dc,ho,cY];repeat' (first|refine ax ?_ ?_|fail)<;>intro h<;>simp only[h,go_sem,go_sem_proc,dM,oi,mN,mO,fA,ab,bH,cr,cf,dc,ho,cY]
 ·have ab:dI (s,l)=false:=by simpa using ab
  have hm:kM (s,l) (s2,aq)=((0,[]),(0,[]),1):=by unfold kM;rw[ab,fu];rfl
  rw[hm];simp only[go_sem,go_sem_proc,dM,oi,mN,mO,fA,ab,cr,cf,dc,ho,cY];repeat' (first|refine ax ?_ ?_|fail)<;>intro h<;>simp only[h,go_sem,go_sem_proc,dM,oi,mN,mO,fA,ab,cr,cf,dc,ho,cY]
def dC (n:Int):Prop:=-9223372036854775808<=n/\n<=9223372036854775807
theorem asY {n:Nat}(h:n<=9223372036854775808):n<ee:=by
 unfold ee;refine Dh (m:=1048576^4) ?_ (Nat.pow_le_pow_right (by omega) (by omega));omega
theorem yK {n:Int}(h:dC n):n.natAbs<ee:=asY (by unfold dC at h;omega)
theorem Wy (n:Int)(F:-18446744073709551616<=n)(I:n<0):IntKind.u64.wrap n=n+18446744073709551616:=by
 unfold IntKind.wrap;simp[IntKind.bits,IntKind.signed];omega
def Wz:=cu w4 λ(n:Int)=>cU (dC n) (.same (.agg (dc (bT n))))
@[go_sem] theorem aKl (n:Int)(H:dC n):Wz [.int .i64 n]=some (.same (.agg (dc (bT n)))):=(cD zX n).trans (cZ H _)
theorem asZ (T:bl)(fA:T pr=aW BU)(n:Int)(H:dC n):WP T U9 (.same (.agg (dc (bT n)))) [.J (.int .i64 n)]:=by
 refine cE ?_;simp only[U9];have lS:=H;unfold dC at lS;obtain⟨wK,yb⟩:=lS;have U:∀s:Int,(n≠0->s=n.sign)->kn s (aJ n.natAbs)=bT n:=λs h=>p0 rfl λbE=>h (by omega);have hlen:(aJ n.natAbs).length<=60:=g4.2 (yK H);rcases dF (n<0) with kL|h4
 ·have hw:=Wy n (by omega) kL
  have fy:IntKind.u64.wrap (0-(n+18446744073709551616))=(n.natAbs:Int):=by
   rw[Wy _ (by omega) (by omega)];omega
  simp only[go_sem,go_sem_proc,fA,kL,hw,fy,decide_true];refine dw [2,3] [150002] (λ((u,g,l):Nat×Nat×List Int) tm mem=>u<=9223372036854775808/\aJ n.natAbs=l++aJ u/\tm 4=.J (.int .u64 u)/\tm 5=.ref 150021 g 1 0 (D l)/\mem 150021=some (g,a7 ae l)) (λ(u,_)=>u) (n.natAbs,0,[]) (by refine⟨by omega,rfl,?_,rfl,rfl⟩;rfl) ?_;intro vs ms aT aS;simp only[go_sem,go_sem_proc,fA] at aT aS;subst aT aS;rintro⟨u,g,l⟩ tm mem Q hm ⟨hu,aa,aO,br,Ai⟩;simp only[go_sem,go_sem_proc,fA,bf] at Q hm;obtain⟨I,af⟩:=Q;rcases k4 u with ao|ud
  ·subst ao;rw[sG,fE] at aa;rw[aa] at U hlen;have vK:(D l)<=1000000:=by omega
   have iQ:=U (-1) (λ_=>by exact (rJ kL).symm);simp only[go_sem,go_sem_proc,fA,I,af,aO,br,hm,Ai,iQ,vK,dc,lC,l0,aj,show ¬ ((0:Int)>0) by omega,decide_false,lX hd,kN]
   repeat' (first|refine ax ?_ ?_|fail)<;>intro h<;>simp only[h,go_sem,go_sem_proc,fA,I,af,aO,br,hm,Ai,iQ,vK,dc,lC,l0,aj,show ¬ ((0:Int)>0) by omega,decide_false,lX hd,kN]
  ·have Ad:(D l)<=60:=by
    have:=congrArg D aa;rw[fr] at this;omega
   have iS:decide ((u:Int)>0)=true:=dp;have dg:∀a:Int,kW 150021 g 1 (D l) 8 1 [.J (.int .i64 a)] (some (g,a7 ae l))=_:=λa=>k6 hd tN 150021 g 8 l a rfl (by omega) (by omega);have hand:=aeV u ⟨by omega,by omega⟩
   have Lr:IntKind.i64.wrap ((u:Int)%1048576)=(u:Int)%1048576:=wrap64 _ (by omega) (by omega);simp only[go_sem,go_sem_proc,fA,I,af,aO,br,hm,Ai,iS,dg,hand,Lr,oS,show ((20:Int)<0)=False from by simp,if_false,aj,bf]
   repeat' (first|refine ax ?_ ?_|fail)<;>intro h<;>simp only[h,go_sem,go_sem_proc,fA,I,af,aO,br,hm,Ai,iS,dg,hand,Lr,oS,show ((20:Int)<0)=False from by simp,if_false,aj,bf]
   refine⟨(u/1048576,g+1,l++[(u:Int)%1048576]),by dsimp only;omega,by dsimp only;omega,by dsimp only;rw[gW,aa,vp ud];rfl,by first|rfl|(dsimp only;rw[zT _ ⟨by omega,by omega⟩];rfl),by simp,by simp[go_sem]⟩
 ·have hw:IntKind.u64.wrap n=(n.natAbs:Int):=by rw[zT _ ⟨by omega,by omega⟩];omega
  simp only[go_sem,go_sem_proc,fA,h4,hw,decide_false];refine dw [2,3] [150002] (λ((u,g,l):Nat×Nat×List Int) tm mem=>u<=9223372036854775808/\aJ n.natAbs=l++aJ u/\tm 4=.J (.int .u64 u)/\tm 5=.ref 150021 g 1 0 (D l)/\mem 150021=some (g,a7 ae l)) (λ(u,_)=>u) (n.natAbs,0,[]) (by refine⟨by omega,rfl,?_,rfl,rfl⟩;rfl) ?_;intro vs ms aT aS;simp only[go_sem,go_sem_proc,fA] at aT aS;subst aT aS;rintro⟨u,g,l⟩ tm mem Q hm ⟨hu,aa,aO,br,Ai⟩;simp only[go_sem,go_sem_proc,fA,bf] at Q hm;obtain⟨I,af⟩:=Q;rcases k4 u with ao|ud
  ·subst ao;rw[sG,fE] at aa;rw[aa] at U hlen;have vK:(D l)<=1000000:=by omega
   have iQ:=U 1 (λ_=>by exact (jY (by omega)).symm);simp only[go_sem,go_sem_proc,fA,I,af,aO,br,hm,Ai,iQ,vK,dc,lC,l0,aj,show ¬ ((0:Int)>0) by omega,decide_false,lX hd,kN]
   repeat' (first|refine ax ?_ ?_|fail)<;>intro h<;>simp only[h,go_sem,go_sem_proc,fA,I,af,aO,br,hm,Ai,iQ,vK,dc,lC,l0,aj,show ¬ ((0:Int)>0) by omega,decide_false,lX hd,kN]
  ·have Ad:(D l)<=60:=by
    have:=congrArg D aa;rw[fr] at this;omega
   have iS:decide ((u:Int)>0)=true:=dp;have dg:∀a:Int,kW 150021 g 1 (D l) 8 1 [.J (.int .i64 a)] (some (g,a7 ae l))=_:=λa=>k6 hd tN 150021 g 8 l a rfl (by omega) (by omega);have hand:=aeV u ⟨by omega,by omega⟩
   have Lr:IntKind.i64.wrap ((u:Int)%1048576)=(u:Int)%1048576:=wrap64 _ (by omega) (by omega);simp only[go_sem,go_sem_proc,fA,I,af,aO,br,hm,Ai,iS,dg,hand,Lr,oS,show ((20:Int)<0)=False from by simp,if_false,aj,bf]
   repeat' (first|refine ax ?_ ?_|fail)<;>intro h<;>simp only[h,go_sem,go_sem_proc,fA,I,af,aO,br,hm,Ai,iS,dg,hand,Lr,oS,show ((20:Int)<0)=False from by simp,if_false,aj,bf]
   refine⟨(u/1048576,g+1,l++[(u:Int)%1048576]),by dsimp only;omega,by dsimp only;omega,by dsimp only;rw[gW,aa,vp ud];rfl,by first|rfl|(dsimp only;rw[zT _ ⟨by omega,by omega⟩];rfl),by simp,by simp[go_sem]⟩
theorem as0 (k:IntKind)(a b:Int):bits .or k a b=bits .or k b a:=by
 simp only[bits,BitVec.or_comm]
theorem as1 (u d:Int)(i:Nat)(M:(2:Int)^i<=1152921504606846976)(hu:0<=u/\u<2^i)(aa:0<=d)(h:d*2^i<18446744073709551616):bits .or .u64 u (d*2^i)=u+d*2^i:=by
 rw[as0,yB];have ao:0<=d*2^i:=yA aa (by exact PZ (G8 (by omega)));refine bits_join .u64 64 (by decide) (λn F I=>zT n ⟨F,by omega⟩) i _ _ ao (Int.mul_emod_left _ _) (by omega) hu.1 hu.2 (by omega)
instance (n:Int):Decidable (dC n):=by unfold dC;exact inferInstance
def sO (a:Raw):Int×Bool:=if dI a=true/\dC (iy a) then (iy a,true) else (0,false)
def WA:=cu BT λ(s,l)=>cU (D l<=1000000) (.same (.cM [.int .i64 (sO (s,l)).1,.bool (sO (s,l)).2]))
@[go_sem] theorem aKm (s:Int)(l:List Int)(H:(D l)<=1000000):WA [.agg [.int .i64 s,.Y (l.map ae)]]=some (.same (.cM [.int .i64 (sO (s,l)).1,.bool (sO (s,l)).2])):=(cD GN (s,l)).trans (cZ H _)
theorem as2 (T:bl)(dM:T k7=aW w5)(s:Int)(l:List Int)(H:(D l)<=1000000):WP T Vg (.same (.cM [.int .i64 (sO (s,l)).1,.bool (sO (s,l)).2])) [.J (.agg [.int .i64 s,.Y (l.map ae)])]:=by
 refine cE ?_;simp only[Vg]
 by_cases ab:dI (s,l)=true
 ·obtain⟨z,aV,e⟩:=(jX _).1 ab
  cases e
  have M:sO (z.sign,aJ z.natAbs)=if dC z then (z,true) else (0,false):=by
   unfold sO;rw[ab,show iy (z.sign,aJ z.natAbs)=z from fR z];simp
  rw[M];clear M;have U:=mP z
  by_cases aO:(aJ z.natAbs).length<=4
  ·have P0:decide (((aJ z.natAbs).length:Int)>4)=false:=dn;have mE:=lY z.natAbs;have kJ:=m7 z.natAbs;generalize aJ z.natAbs=l at *;simp only[go_sem,go_sem_proc,dM,ab,H,P0,aj,ae];refine dw [1,17,18] [159001] (λ((i,u):Nat×Int) tm mem=>i<=D l/\u=bh (l.take i)/\u<18446744073709551616/\tm 4=.J (.int .u64 u)/\tm 19=.J (.int .i64 i)) (λ(i,_)=>D l-i) (0,0) (by refine⟨by omega,rfl,by omega,rfl,rfl⟩) ?_;intro vs ms aT aS;simp only[go_sem,go_sem_proc,dM] at aT aS;subst aT aS;rintro⟨i,u⟩ tm mem Q hm ⟨M,hu,aKn,qN,qO⟩;simp only[go_sem,go_sem_proc,dM,bf] at Q hm;obtain⟨F,lF,jU⟩:=Q;have af5:eZ (l.take i):=λd aa=>kJ d (List.mem_of_mem_take aa);have El:0<=u:=by rw[hu];exact pq af5
   rcases dF (i<D l) with aA|b7
   ·have O:=bz aA;have aa:=kJ l[i] (ph aA);have rq:=lD l i aA;have Em:=zR af5;rw[fI,oL (PW aA),<-hu] at Em;rw[<-hu] at rq;generalize l[i]=d at *;have p1:decide ((i:Int)<(D l:Int))=true:=dp;have B1:IntKind.u64.wrap d=d:=zT d ⟨aa.1,by omega⟩
    have yH:IntKind.i64.wrap (20*(i:Int))=((20*i:Nat):Int):=by rw[fc _];omega
    have Gg:min (20*i) 64=20*i:=by omega
    have lz:(((20*i:Nat):Int)<0)=False:=eq_false (by omega);have Hh:(1048576:Int)^i=2^(20*i):=by rw[Int.pow_mul];rfl
    rw[Hh] at Em rq
    have pj:(2:Int)^(20*i)<=1152921504606846976:=by
     obtain rfl|rfl|rfl|rfl:i=0\/i=1\/i=2\/i=3:=by omega
     all_goals decide
    by_cases WB:i=3/\d>8
    ·obtain⟨rfl,P1⟩:=WB;have af6:decide (d>8)=true:=kf P1;have Ls:(((3:Nat):Int)==3)=true:=rfl
     have as3:¬ dC z:=by
      have vF:=KE l 4;rw[mE] at vF;have:0<=bh (l.drop 4):=pq λd aa=>kJ d (List.mem_of_mem_drop aa);have br:=yA (show (0:Int)<=1048576^(min 4 (D l)) from PZ (G8 (by omega))) this;unfold dC;simp only[af7,Nat.reduceAdd,af8] at rq;rw[rq] at vF;omega
     rw[ah as3];simp only[go_sem,go_sem_proc,dM,F,lF,jU,qN,qO,hm,O,aa.1,aa.2,p1,B1,af6,Ls,aj,bn,bf,ae];repeat' (first|refine ax ?_ ?_|fail)<;>intro h<;>simp only[h,go_sem,go_sem_proc,dM,F,lF,jU,qN,qO,hm,O,aa.1,aa.2,p1,B1,af6,Ls,aj,bn,bf,ae]
    ·have w8:d*2^(20*i)<18446744073709551616:=by
      obtain rfl|rfl|rfl|rfl:i=0\/i=1\/i=2\/i=3:=by omega
      all_goals simp
      all_goals omega
     have xb:=as1 u d (20*i) pj ⟨El,Em⟩ aa.1 w8;have Aj:0<=d*2^(20*i):=yA aa.1 (PZ (G8 (by omega)));have Lt:IntKind.u64.wrap (d*2^(20*i))=d*2^(20*i):=zT _ ⟨Aj,w8⟩
     have px:u+d*2^(20*i)<18446744073709551616:=by
      clear xb Lt Aj yH lz Hh pj rq;obtain rfl|rfl|rfl|rfl:i=0\/i=1\/i=2\/i=3:=by omega
      all_goals simp only[af7,af8] at Em w8 ⊢
      all_goals omega
     by_cases af:((i:Int)==3)=true
     ·have P1:decide (d>8)=false:=mw λh=>WB ⟨by simp at af;omega,h⟩
      simp only[go_sem,go_sem_proc,dM,F,lF,jU,qN,qO,hm,O,aa.1,aa.2,p1,B1,af,P1,yH,lz,if_false,l1,Gg,Lt,xb,aj,bn,bf,ae];repeat' (first|refine ax ?_ ?_|fail)<;>intro h<;>simp only[h,go_sem,go_sem_proc,dM,F,lF,jU,qN,qO,hm,O,aa.1,aa.2,p1,B1,af,P1,yH,lz,if_false,l1,Gg,Lt,xb,aj,bn,bf,ae]
      exact⟨(i+1,u+d*2^(20*i)),by dsimp only;omega,by dsimp only;omega,by dsimp only;rw[rq,nx],px,rfl,by rw[fc _];rfl⟩
     ·have af:((i:Int)==3)=false:=by simpa using af
      simp only[go_sem,go_sem_proc,dM,F,lF,jU,qN,qO,hm,O,aa.1,aa.2,p1,B1,af,yH,lz,if_false,l1,Gg,Lt,xb,aj,bn,bf,ae];repeat' (first|refine ax ?_ ?_|fail)<;>intro h<;>simp only[h,go_sem,go_sem_proc,dM,F,lF,jU,qN,qO,hm,O,aa.1,aa.2,p1,B1,af,yH,lz,if_false,l1,Gg,Lt,xb,aj,bn,bf,ae]
      exact⟨(i+1,u+d*2^(20*i)),by dsimp only;omega,by dsimp only;omega,by dsimp only;rw[rq,nx],px,rfl,by rw[fc _];rfl⟩
   ·have p1:decide ((i:Int)<(D l:Int))=false:=dn;have hU:i=D l:=by omega
    rw[hU,kN,mE] at hu;rcases U with ⟨U,vh⟩|⟨U,vh⟩|⟨U,vh⟩
    ·by_cases hr64:u<9223372036854775808
     ·rw[ad (by unfold dC;omega)];have hw:IntKind.i64.wrap u=z:=by rw[wrap64 u (by omega) (by omega)];omega
      simp only[go_sem,go_sem_proc,dM,F,lF,jU,qN,qO,hm,p1,U,hr64,show decide ((1:Int)<0)=false from rfl,show decide ((1:Int)>=0)=true from rfl,show decide ((-1:Int)<0)=true from rfl,show decide ((-1:Int)>=0)=false from rfl,hw,decide_true,decide_false,aj];repeat' (first|refine ax ?_ ?_|fail)<;>intro h<;>simp only[h,go_sem,go_sem_proc,dM,F,lF,jU,qN,qO,hm,p1,U,hr64,show decide ((1:Int)<0)=false from rfl,show decide ((1:Int)>=0)=true from rfl,show decide ((-1:Int)<0)=true from rfl,show decide ((-1:Int)>=0)=false from rfl,hw,decide_true,decide_false,aj]
     ·rw[ah (by unfold dC;omega)];simp only[go_sem,go_sem_proc,dM,F,lF,jU,qN,qO,hm,p1,U,hr64,show decide ((1:Int)<0)=false from rfl,show decide ((1:Int)>=0)=true from rfl,show decide ((-1:Int)<0)=true from rfl,show decide ((-1:Int)>=0)=false from rfl,decide_true,decide_false,aj];repeat' (first|refine ax ?_ ?_|fail)<;>intro h<;>simp only[h,go_sem,go_sem_proc,dM,F,lF,jU,qN,qO,hm,p1,U,hr64,show decide ((1:Int)<0)=false from rfl,show decide ((1:Int)>=0)=true from rfl,show decide ((-1:Int)<0)=true from rfl,show decide ((-1:Int)>=0)=false from rfl,decide_true,decide_false,aj]
    ·rw[ad (by unfold dC;omega)];have as4:u=0:=by omega
     subst vh;subst as4;simp only[go_sem,go_sem_proc,dM,F,lF,jU,qN,qO,hm,p1,U,show decide ((0:Int)<0)=false from rfl,show decide ((0:Int)>=0)=true from rfl,show decide ((0:Int)<9223372036854775808)=true from rfl,show IntKind.i64.wrap 0=0 from rfl,show (0:Int).sign=0 from rfl,decide_true,decide_false,aj];repeat' (first|refine ax ?_ ?_|fail)<;>intro h<;>simp only[h,go_sem,go_sem_proc,dM,F,lF,jU,qN,qO,hm,p1,U,show decide ((0:Int)<0)=false from rfl,show decide ((0:Int)>=0)=true from rfl,show decide ((0:Int)<9223372036854775808)=true from rfl,show IntKind.i64.wrap 0=0 from rfl,show (0:Int).sign=0 from rfl,decide_true,decide_false,aj]
    ·by_cases hr64:u<=9223372036854775808
     ·rw[ad (by unfold dC;omega)];have hw:=Wy (0-u) (by omega) (by omega)
      have fy:IntKind.i64.wrap (0-u+18446744073709551616)=z:=by
       simp[IntKind.wrap,IntKind.bits,IntKind.signed];omega
      simp only[go_sem,go_sem_proc,dM,F,lF,jU,qN,qO,hm,p1,U,hr64,show decide ((1:Int)<0)=false from rfl,show decide ((1:Int)>=0)=true from rfl,show decide ((-1:Int)<0)=true from rfl,show decide ((-1:Int)>=0)=false from rfl,hw,fy,decide_true,decide_false,aj];repeat' (first|refine ax ?_ ?_|fail)<;>intro h<;>simp only[h,go_sem,go_sem_proc,dM,F,lF,jU,qN,qO,hm,p1,U,hr64,show decide ((1:Int)<0)=false from rfl,show decide ((1:Int)>=0)=true from rfl,show decide ((-1:Int)<0)=true from rfl,show decide ((-1:Int)>=0)=false from rfl,hw,fy,decide_true,decide_false,aj]
     ·rw[ah (by unfold dC;omega)];simp only[go_sem,go_sem_proc,dM,F,lF,jU,qN,qO,hm,p1,U,hr64,show decide ((1:Int)<0)=false from rfl,show decide ((1:Int)>=0)=true from rfl,show decide ((-1:Int)<0)=true from rfl,show decide ((-1:Int)>=0)=false from rfl,decide_true,decide_false,aj];repeat' (first|refine ax ?_ ?_|fail)<;>intro h<;>simp only[h,go_sem,go_sem_proc,dM,F,lF,jU,qN,qO,hm,p1,U,hr64,show decide ((1:Int)<0)=false from rfl,show decide ((1:Int)>=0)=true from rfl,show decide ((-1:Int)<0)=true from rfl,show decide ((-1:Int)>=0)=false from rfl,decide_true,decide_false,aj]
  ·have P0:decide (((aJ z.natAbs).length:Int)>4)=true:=dp
   have aK:¬ dC z:=by
    intro h;unfold dC at h;refine aO (g4.2 ?_);omega
   rw[ah aK];simp only[go_sem,go_sem_proc,dM,ab,H,P0,aj];repeat' (first|refine ax ?_ ?_|fail)<;>intro h<;>simp only[h,go_sem,go_sem_proc,dM,ab,H,P0,aj]
 ·have ab:dI (s,l)=false:=by simpa using ab
  have M:sO (s,l)=(0,false):=by unfold sO;rw[ah];rw[ab];simp
  rw[M];simp only[go_sem,go_sem_proc,dM,ab,H];repeat' (first|refine ax ?_ ?_|fail)<;>intro h<;>simp only[h,go_sem,go_sem_proc,dM,ab,H]
def WC:bY:=cq 35 1 [.t 2] (X [dX 1 116001 0,cO 2 false] (.seq (X [bj 5 0 1,bs 6 2 5,(eb 7 k7 6),fx 8 7,G 9 8,⟨some 10,some (9,false),.eu 2 (.t 1)⟩,⟨some 11,some (9,false),.load 2 true (.t 10)⟩,⟨some 12,some (9,false),.call k7 [(.t 11)]⟩,⟨some 13,some (9,false),.un .not (.t 12)⟩,ey 14 9 13,G 15 14,⟨some 16,some (15,false),.eu 2 (.t 1)⟩,⟨some 17,some (15,false),.eu 0 (.t 16)⟩,⟨some 18,some (15,false),.load 1 false (.t 17)⟩,⟨some 19,some (15,false),.bin .neq (.t 18) (.c (al 1))⟩,ey 20 15 19] (a6 20 (X [cO 2 false] .ret) .skip)) (X [bj 22 0 1,bs 23 2 22,bj 24 2 1,bs 25 2 24,(cA 26 KG 23 25),G 21 26,bK 27 0 21,bK 28 1 21,(aC 3 (.alloc 116003 [(al 0),.nil])),bq 2 3 27,G 4 28] (X [G 29 4,bm 30 .eql 29 0,G 31 30,⟨some 32,some (31,true),.load 2 true (.t 3)⟩,⟨some 33,some (31,true),.call Un [(.t 32)]⟩,gK 34 31 33,G 2 34] .ret))))
def WD:bY:=cq 46 2 [.cell 4 4 true,.t 5] (X [dX 2 119002 0,dX 3 119003 1,(aC 4 (.alloc 119004 [(al 0),.nil,(al 0),.nil])),bA 5 0] (.seq (X [bs 10 4 2,(eb 11 lZ 10),fx 12 11,G 13 12,⟨some 14,some (13,false),.load 4 true (.t 3)⟩,⟨some 15,some (13,false),.call lZ [(.t 14)]⟩,⟨some 16,some (13,false),.un .not (.t 15)⟩,ey 17 13 16] (a6 17 (X [(aC 18 (.build [(al 0),.nil,(al 0),.nil] [])),bq 4 4 18,bA 5 1] .ret) .skip)) (X [bj 20 0 2,bs 21 2 20,bj 22 2 3,bs 23 2 22,bj 24 0 3,bs 25 2 24,bj 26 2 2,bs 27 2 26,(KY 28 Uo 21 23 25 27),G 19 28,bK 29 0 19,bK 30 1 19,(aC 6 (.alloc 119006 [(al 0),.nil])),bq 2 6 29,G 7 30] (X [bj 32 2 2,bs 33 2 32,bj 34 2 3,bs 35 2 34,(cA 36 vq 33 35),G 31 36,bK 37 0 31,bK 38 1 31,(aC 8 (.alloc 119008 [(al 0),.nil])),bq 2 8 37,G 9 38] (X [bs 39 2 6,G 40 7,bs 41 2 8,G 42 9,(KY 43 DP 39 40 41 42),bK 44 0 43,bK 45 1 43,bq 4 4 44,G 5 45] .ret)))))
def WE:bY:=cq 13 2 [.cell 4 4 true,.t 5] (X [(aC 4 (.alloc 130004 [(al 0),.nil,(al 0),.nil])),bA 5 0] (X [G 6 0,(eb 7 OX 6),G 8 1,(eb 9 OX 8),(cA 10 KH 7 9),bK 11 0 10,bK 12 1 10,bq 4 4 11,G 5 12] .ret))
def WG:bY:=cq 25 2 [.cell 4 4 true,.t 5] (X [dX 2 132002 0,dX 3 132003 1,(aC 4 (.alloc 132004 [(al 0),.nil,(al 0),.nil])),bA 5 0] (.seq (X [bs 6 4 2,(eb 7 lZ 6),fx 8 7,G 9 8,⟨some 10,some (9,false),.load 4 true (.t 3)⟩,⟨some 11,some (9,false),.call lZ [(.t 10)]⟩,⟨some 12,some (9,false),.un .not (.t 11)⟩,ey 13 9 12] (a6 13 (X [(aC 14 (.build [(al 0),.nil,(al 0),.nil] [])),bq 4 4 14,bA 5 1] .ret) .skip)) (gb [bs 15 4 2,bj 16 0 3,bs 17 2 16,(eb 18 Gy 17),bj 19 2 3,bs 20 2 19,(aC 21 (.build [(al 0),.nil,(al 0),.nil] [(0,2,(.t 18)),(2,2,(.t 20))])),(cA 22 tO 15 21),bK 23 0 22,bK 24 1 22,bq 4 4 23,G 5 24] aeX .ret)))
def WH:bY:=cq 42 2 [.cell 4 4 true,.t 5] (X [dX 2 134002 0,dX 3 134003 1,(aC 4 (.alloc 134004 [(al 0),.nil,(al 0),.nil])),bA 5 0] (.seq (X [bs 10 4 2,(eb 11 lZ 10),fx 12 11,G 13 12,⟨some 14,some (13,false),.load 4 true (.t 3)⟩,⟨some 15,some (13,false),.call lZ [(.t 14)]⟩,⟨some 16,some (13,false),.un .not (.t 15)⟩,ey 17 13 16] (a6 17 (X [(aC 18 (.build [(al 0),.nil,(al 0),.nil] [])),bq 4 4 18,bA 5 1] .ret) .skip)) (X [bj 20 0 2,bs 21 2 20,bj 22 0 3,bs 23 2 22,(cA 24 vq 21 23),G 19 24,bK 25 0 19,bK 26 1 19,(aC 6 (.alloc 134006 [(al 0),.nil])),bq 2 6 25,G 7 26] (X [bj 28 2 2,bs 29 2 28,bj 30 2 3,bs 31 2 30,(cA 32 vq 29 31),G 27 32,bK 33 0 27,bK 34 1 27,(aC 8 (.alloc 134008 [(al 0),.nil])),bq 2 8 33,G 9 34] (X [bs 35 2 6,G 36 7,bs 37 2 8,G 38 9,(KY 39 DP 35 36 37 38),bK 40 0 39,bK 41 1 39,bq 4 4 40,G 5 41] .ret)))))
def WI:bY:=cq 78 2 [.t 4] (X [dX 2 135002 0,dX 3 135003 1,bA 4 0] (.seq (X [bs 17 4 2,(eb 18 lZ 17),fx 19 18,G 20 19,⟨some 21,some (20,false),.load 4 true (.t 3)⟩,⟨some 22,some (20,false),.call lZ [(.t 21)]⟩,⟨some 23,some (20,false),.un .not (.t 22)⟩,ey 24 20 23] (a6 24 (X [bA 4 0] .ret) .skip)) (gb [bj 25 0 2,bs 26 2 25,bj 27 2 2,bs 28 2 27,bj 29 0 3,bs 30 2 29,bj 31 2 3,bs 32 2 31,(aC 5 (.alloc 135005 [(al 0),.nil])),(aC 6 (.alloc 135006 [(al 0),.nil])),(aC 7 (.alloc 135007 [(al 0),.nil])),(aC 8 (.alloc 135008 [(al 0),.nil])),bq 2 5 26,bq 2 6 28,bq 2 7 30,bq 2 8 32] [[],[],[],[],[],[],[],[],[1,3,5,7],[1,3,5,7,8],[1,3,5,7,8,9],[1,3,5,7,8,9,10],[3,5,7],[5,7],[7],[]] (X [bA 9 1] (.block 0 (.loop  (.seq (.block 1 (X [bs 36 2 5,bs 37 2 6,(cA 38 DQ 36 37),G 35 38,bK 39 0 35,bK 40 1 35,bK 41 2 35,(aC 10 (.alloc 135010 [(al 0),.nil])),(aC 11 (.alloc 135011 [(al 0),.nil])),bq 2 10 39,bq 2 11 40,G 12 41] (X [bs 43 2 7,bs 44 2 8,(cA 45 DQ 43 44),G 42 45,bK 46 0 42,bK 47 1 42,bK 48 2 42,(aC 13 (.alloc 135013 [(al 0),.nil])),(aC 14 (.alloc 135014 [(al 0),.nil])),bq 2 13 46,bq 2 14 47,G 15 48] (.seq (X [bs 49 2 10,bs 50 2 13,(cA 51 Uu 49 50),G 16 51] (.block 2 (X [G 53 16,bm 54 .neq 53 0,G 52 54] (a6 52 (X [G 55 9,G 56 16,bB 57 .mul 55 56,G 4 57] .ret) (X [bj 59 0 11,aU 60 1 59,bm 61 .eql 60 0,G 62 61,⟨some 63,some (62,false),.eu 0 (.t 14)⟩,⟨some 64,some (62,false),.load 1 false (.t 63)⟩,⟨some 65,some (62,false),.bin .eql (.t 64) (.c (al 0))⟩,ey 66 62 65,G 58 66] (a6 58 (X [G 67 9,bj 68 0 11,aU 69 1 68,bj 70 0 14,aU 71 1 70,bB 72 .sub 69 71,bB 73 .mul 67 72,G 4 73] .ret) .skip)))))) (.nX [bs 74 2 6,bs 75 2 11,bs 76 2 8,bs 77 2 14,bq 2 5 74,bq 2 6 75,bq 2 7 76,bq 2 8 77] [[],[],[],[],[1,2,3],[2,3],[3],[]]))))) (.ops [G 33 9,(aC 34 (.un .neg (.t 33))),G 9 34]))))))))
def WJ:bY:=cq 15 1 [.t 2] (X [dX 1 138001 0,cO 2 false] (X [bs 6 2 1,(eb 7 Uv 6),G 5 7,bK 8 0 5,bK 9 1 5,G 3 8,G 4 9] (X [G 10 4,G 11 10,⟨some 12,some (11,true),.cN (.t 3)⟩,⟨some 13,some (11,true),.bin .eql (.t 12) (.c (al 1))⟩,gK 14 11 13,G 2 14] .ret)))
def WK:bY:=cq 38 4 [.cell 8 2 true,.t 9] (X [dX 4 139004 0,dX 5 139005 1,dX 6 139006 2,dX 7 139007 3,(aC 8 (.alloc 139008 [(al 0),.nil])),bA 9 0] (X [bs 14 2 4,bs 15 2 5,(cA 16 vq 14 15),G 13 16,bK 17 0 13,bK 18 1 13,(aC 10 (.alloc 139010 [(al 0),.nil])),bq 2 10 17,G 11 18] (.seq (X [G 19 11,bm 20 .neq 19 0] (a6 20 (X [(aC 21 (.build [(al 0),.nil] [])),G 22 11,bq 2 8 21,G 9 22] .ret) .skip)) (X [bs 24 2 6,bs 25 2 7,(cA 26 vq 24 25),G 23 26,bK 27 0 23,bK 28 1 23,(aC 12 (.alloc 139012 [(al 0),.nil])),bq 2 12 27,G 11 28] (.seq (X [G 29 11,bm 30 .neq 29 0] (a6 30 (X [(aC 31 (.build [(al 0),.nil] [])),G 32 11,bq 2 8 31,G 9 32] .ret) .skip)) (X [bs 33 2 10,bs 34 2 12,(cA 35 Uw 33 34),bK 36 0 35,bK 37 1 35,bq 2 8 36,G 9 37] .ret))))))
def WL:bY:=cq 22 4 [.cell 8 4 true,.t 9] (X [dX 4 141004 0,dX 6 141006 2,(aC 8 (.alloc 141008 [(al 0),.nil,(al 0),.nil])),bA 9 0] (.seq (X [G 10 1,bm 11 .neq 10 0,G 12 11,⟨some 13,some (12,false),.cN (.t 3)⟩,⟨some 14,some (12,false),.bin .neq (.t 13) (.c (al 0))⟩,ey 15 12 14] (a6 15 (X [(aC 16 (.build [(al 0),.nil,(al 0),.nil] [])),bq 4 8 16,bA 9 6] .ret) .skip)) (X [bs 17 2 4,bs 18 2 6,(cA 19 KH 17 18),bK 20 0 19,bK 21 1 19,bq 4 8 20,G 9 21] .ret)))
def WM:bY:=cq 60 2 [.cell 4 4 true,.t 5] (X [dX 2 149002 0,dX 3 149003 1,(aC 4 (.alloc 149004 [(al 0),.nil,(al 0),.nil])),bA 5 0] (.seq (.block 0 (X [bs 15 2 2,(eb 16 k7 15),fx 17 16,G 18 17,⟨some 19,some (18,false),.load 2 true (.t 3)⟩,⟨some 20,some (18,false),.call k7 [(.t 19)]⟩,⟨some 21,some (18,false),.un .not (.t 20)⟩,ey 22 18 21,G 14 22] (a6 14 (X [(aC 23 (.build [(al 0),.nil,(al 0),.nil] [])),bq 4 4 23,bA 5 1] .ret) (X [bj 25 0 3,aU 26 1 25,bm 27 .eql 26 0,G 24 27] (a6 24 (X [(aC 28 (.build [(al 0),.nil,(al 0),.nil] [])),bq 4 4 28,bA 5 15] .ret) (X [bj 30 0 3,aU 31 1 30,bm 32 .lss 31 0,G 29 32] (a6 29 (.nX [bs 33 2 2,(eb 34 Gy 33),bs 35 2 3,(eb 36 Gy 35),bq 2 2 34,bq 2 3 36] aeW) .skip))))))) (X [bs 38 2 2,bs 39 2 3,(cA 40 KG 38 39),G 37 40,bK 41 0 37,bK 42 1 37,(aC 6 (.alloc 149006 [(al 0),.nil])),bq 2 6 41,G 7 42] (X [bs 44 2 2,bs 45 2 6,(cA 46 DQ 44 45),G 43 46,bK 47 0 43,bK 48 1 43,bK 49 2 43,(aC 8 (.alloc 149008 [(al 0),.nil])),(aC 9 (.alloc 149009 [(al 0),.nil])),bq 2 8 47,bq 2 9 48,G 10 49] (X [bs 51 2 3,bs 52 2 6,(cA 53 DQ 51 52),G 50 53,bK 54 0 50,bK 55 1 50,bK 56 2 50,(aC 11 (.alloc 149011 [(al 0),.nil])),(aC 12 (.alloc 149012 [(al 0),.nil])),bq 2 11 54,bq 2 12 55,G 13 56] (X [bs 57 2 8,bs 58 2 11,(aC 59 (.build [(al 0),.nil,(al 0),.nil] [(0,2,(.t 57)),(2,2,(.t 58))])),bq 4 4 59,bA 5 0] .ret))))))
def WN:bY:=cq 49 2 [.cell 4 4 true,.t 5] (X [dX 2 169002 0,dX 3 169003 1,(aC 4 (.alloc 169004 [(al 0),.nil,(al 0),.nil])),bA 5 0] (.seq (.block 0 (X [bs 11 4 2,(eb 12 lZ 11),fx 13 12,G 14 13,⟨some 15,some (14,false),.load 4 true (.t 3)⟩,⟨some 16,some (14,false),.call lZ [(.t 15)]⟩,⟨some 17,some (14,false),.un .not (.t 16)⟩,ey 18 14 17,G 10 18] (a6 10 (X [(aC 19 (.build [(al 0),.nil,(al 0),.nil] [])),bq 4 4 19,bA 5 1] .ret) (X [bj 21 0 3,bj 22 0 21,aU 23 1 22,bm 24 .eql 23 0,G 20 24] (a6 20 (X [(aC 25 (.build [(al 0),.nil,(al 0),.nil] [])),bq 4 4 25,bA 5 15] .ret) .skip))))) (X [bj 27 0 2,bs 28 2 27,bj 29 2 3,bs 30 2 29,(cA 31 vq 28 30),G 26 31,bK 32 0 26,bK 33 1 26,(aC 6 (.alloc 169006 [(al 0),.nil])),bq 2 6 32,G 7 33] (X [bj 35 2 2,bs 36 2 35,bj 37 0 3,bs 38 2 37,(cA 39 vq 36 38),G 34 39,bK 40 0 34,bK 41 1 34,(aC 8 (.alloc 169008 [(al 0),.nil])),bq 2 8 40,G 9 41] (X [bs 42 2 6,G 43 7,bs 44 2 8,G 45 9,(KY 46 DP 42 43 44 45),bK 47 0 46,bK 48 1 46,bq 4 4 47,G 5 48] .ret)))))
abbrev bg:=Raw×Raw
def aE (f:bg):List Data:=[.int .i64 f.1.1,.Y (f.1.2.map ae),.int .i64 f.2.1,.Y (f.2.2.map ae)]
def eH (x:bg×Int):Data:=.cM [.agg (aE x.1),.int .i64 x.2]
def av (x:Rat):bg:=(bT x.num,bT x.den)
def dv (x:Rat):Prop:=x.num.natAbs<ee/\x.den<ee
def fv:bg:=((0,[]),(0,[]))
def ek (f:bg):Bool:=dI f.1&&(dI f.2&&(f.2.1==1&&(jo (iy f.1).natAbs (iy f.2).natAbs==1)))
def Cj (f:bg):Rat:=l4 (iy f.1) (iy f.2)
theorem En (x:Rat):Cj (av x)=x:=by
 unfold Cj av;rw[fR,fR,Eo]
theorem ui {x y:Rat}(h:av x=av y):x=y:=by rw[<-En x,h,En]
theorem den_pos (x:Rat):0<(x.den:Int):=Ej.2 x.den_pos
theorem as5 {n:Int}(h:0<n):(bT n).1=1:=jY h
theorem Lu (f:bg):ek f=true↔∃x,dv x/\f=av x:=by
 unfold ek;simp only[eM,beq_iff_eq]
 constructor
 ·rintro⟨F,I,af,aO⟩;obtain⟨p,aG,az⟩:=(jX _).1 F;obtain⟨q,aL,aD⟩:=(jX _).1 I;obtain⟨f1,f2⟩:=f;simp only at az aD af aO;subst az aD;rw[fR,fR] at aO
  have Wk:0<q:=by
   rcases mP q with ⟨_,h⟩|⟨e,_⟩|⟨e,_⟩
   ·exact h
   ·have:q.sign=1:=af;omega
   ·have:q.sign=1:=af;omega
  refine⟨⟨p,q.natAbs,by omega,aO⟩,⟨aG,aL⟩,?_⟩
  unfold av;rw[show ((q.natAbs:Nat):Int)=q by omega]
 ·rintro⟨x,⟨F,I⟩,rfl⟩;have aa:(x.den:Int).natAbs<ee:=by rw[mQ];exact I
  refine⟨ld F,ld aa,as5 (den_pos x),?_⟩;unfold av;rw[fR,fR,mQ];exact x.reduced
theorem yL {x:Rat}(h:dv x):ek (av x)=true:=(Lu _).2 ⟨x,h,rfl⟩
theorem xl {x:Rat}(h:dv x):(x.den:Int).natAbs<ee:=by rw[mQ];exact h.2
theorem nD {z:Int}(h:z.natAbs<ee):(aJ z.natAbs).length<=1000000:=by have:=rK h;omega
def Ep (a:Raw):Bool:=(sO a).2&&((sO a).1==1)
theorem as6 {z:Int}(h:z.natAbs<ee):Ep (bT z)=decide (z=1):=by
 unfold Ep sO;rw[ld h,fR]
 by_cases M:dC z
 ·rw[ad ⟨rfl,M⟩];simp only[g3]
  rfl
 ·rw[ah λh=>M h.2];have:z≠1:=by rintro rfl;exact M (by unfold dC;omega)
  simp[this]
def WO:=cu BT λ(s,l)=>cU (D l<=1000000) (.same (.bool (Ep (s,l))))
@[go_sem] theorem aKo (s:Int)(l:List Int)(H:(D l)<=1000000):WO [.agg [.int .i64 s,.Y (l.map ae)]]=some (.same (.bool (Ep (s,l)))):=(cD GN (s,l)).trans (cZ H _)
theorem as7 (T:bl)(P2:T Uv=aW WA)(s:Int)(l:List Int)(H:(D l)<=1000000):WP T WJ (.same (.bool (Ep (s,l)))) [.J (.agg [.int .i64 s,.Y (l.map ae)])]:=by
 refine cE ?_;simp only[WJ];unfold Ep;rcases h:(sO (s,l)).2
 ·simp only[go_sem,go_sem_proc,P2,H,h];repeat' (first|refine ax ?_ ?_|fail)<;>intro h<;>simp only[h,go_sem,go_sem_proc,P2,H,h]
 ·simp only[go_sem,go_sem_proc,P2,H,h];repeat' (first|refine ax ?_ ?_|fail)<;>intro h<;>simp only[h,go_sem,go_sem_proc,P2,H,h]
abbrev Er:Int×(List Int)×Int×(List Int)->List Data:=λ(s,l,s2,aq)=>[.agg [.int .i64 s,.Y (l.map ae),.int .i64 s2,.Y (aq.map ae)]]
def vL:=cu Er λ(s,l,s2,aq)=>cU (D l<=1000000/\D aq<=1000000) (.same (.bool (ek ((s,l),(s2,aq)))))
theorem Lv:∀a b,Er a=Er b->a=b:=by
  rintro⟨s1,eh,Cc,Cd⟩ ⟨s2,aq,Ce,Cf⟩ h;simp only[bf,Data.agg.injEq,Data.int.injEq,Data.Y.injEq] at h;exact dR h.1.1.2 (dR (map_inj fh _ _ h.1.2.1) (dR h.1.2.2.1.2 (map_inj fh _ _ h.1.2.2.2.1)))
@[go_sem] theorem as8 (s:Int)(l:List Int)(s2:Int)(aq:List Int)(H:(D l)<=1000000/\D aq<=1000000):vL [.agg [.int .i64 s,.Y (l.map ae),.int .i64 s2,.Y (aq.map ae)]]=some (.same (.bool (ek ((s,l),(s2,aq))))):=(cD Lv (s,l,s2,aq)).trans (cZ H _)
theorem as9 (T:bl)(dM:T k7=aW w5)(yM:T KG=aW PO)(P3:T Un=aW WO)(s:Int)(l:List Int)(s2:Int)(aq:List Int)(H:(D l)<=1000000/\D aq<=1000000):WP T WC (.same (.bool (ek ((s,l),(s2,aq))))) [.J (.agg [.int .i64 s,.Y (l.map ae),.int .i64 s2,.Y (aq.map ae)])]:=by
 refine cE ?_;simp only[WC];obtain⟨cr,cf⟩:=H
 by_cases ab:dI (s,l)=true
 ·by_cases bH:dI (s2,aq)=true
  ·by_cases U:s2=1
   ·obtain⟨x,O,e⟩:=(jX _).1 ab;obtain⟨y,aw,aD⟩:=(jX _).1 bH
    have bc:l3 (s,l) (s2,aq)=(bT ((jo x.natAbs y.natAbs:Nat):Int),0):=by
     unfold l3;rw[ab,bH,e,aD,fR,fR];rfl
    have oY:=Lo O aw
    have bM:Ep (bT ((jo x.natAbs y.natAbs:Nat):Int))=(jo x.natAbs y.natAbs==1):=by
     rw[as6 (by rw[mQ];exact oY)];rw[Ck];simp;omega
    have ki:iy (s,l)=x:=by rw[e,fR]
    have oJ:iy (s2,aq)=y:=by rw[aD,fR]
    have gU:ek ((s,l),(s2,aq))=(jo x.natAbs y.natAbs==1):=by
     show (dI (s,l)&&(dI (s2,aq)&&((s2==1)&&(jo (iy (s,l)).natAbs (iy (s2,aq)).natAbs==1))))=_;rw[ab,bH,ki,oJ,show (s2==1)=true by simpa using U]
     simp only[g3]
    have ata:((bT ((jo x.natAbs y.natAbs:Nat):Int)).2).length<=1000000:=nD (by rw[mQ];exact oY);rw[gU,<-bM];generalize bT ((jo x.natAbs y.natAbs:Nat):Int)=bQ at *;obtain⟨cF,cp⟩:=bQ;have iQ:(s2==1)=true:=by simpa using U
    refine aZ ?_;repeat' (intro h<;>simp only[h,go_sem,go_sem_proc,dM,yM,P3,ab,bH,cr,cf,iQ,bc,ata,fS,dc,show ((0:Int)==0)=true from rfl]<;>try refine ax ?_ ?_)
   ·have gU:ek ((s,l),(s2,aq))=false:=by unfold ek;simp[U]
    have iQ:(s2==1)=false:=by simpa using U
    rw[gU];refine aZ ?_;repeat' (intro h<;>simp only[h,go_sem,go_sem_proc,dM,yM,P3,ab,bH,cr,cf,iQ]<;>try refine ax ?_ ?_)
  ·have bH:dI (s2,aq)=false:=by simpa using bH
   have gU:ek ((s,l),(s2,aq))=false:=by unfold ek;simp[bH]
   rw[gU];refine aZ ?_;repeat' (intro h<;>simp only[h,go_sem,go_sem_proc,dM,yM,P3,ab,bH,cr,cf]<;>try refine ax ?_ ?_)
 ·have ab:dI (s,l)=false:=by simpa using ab
  have gU:ek ((s,l),(s2,aq))=false:=by unfold ek;simp[ab]
  rw[gU];refine aZ ?_;repeat' (intro h<;>simp only[h,go_sem,go_sem_proc,dM,yM,P3,ab,cr,cf]<;>try refine ax ?_ ?_)
def hB (p q:Raw):bg×Int :=
 if (dI p&&dI q)=true then (if iy q=0 then (fv,15) else (av (l4 (iy p) (iy q)),0)) else (fv,1)
theorem Ak {p q:Int}(aG:p.natAbs<ee)(aL:q.natAbs<ee)(ao:q≠0):hB (bT p) (bT q)=(av (l4 p q),0):=by
 unfold hB;rw[ld aG,ld aL,fR,fR,ad (by rfl),ah ao]
theorem WQ {p q:Int}(aL:0<q):(l4 p q).num=p.fdiv ((jo p.natAbs q.natAbs:Nat):Int)/\((l4 p q).den:Int)=q.fdiv ((jo p.natAbs q.natAbs:Nat):Int):=by
 rw[Rat.num_divInt,Rat.den_divInt,ah (by omega),jY aL,oe];have bc:q.gcd p=jo p.natAbs q.natAbs:=by rw[Int.gcd_comm];rfl
 rw[bc];have ao:(0:Int)<=((jo p.natAbs q.natAbs:Nat):Int):=Int.natCast_nonneg _;rw[af9 _ ao,af9 _ ao];refine⟨rfl,?_⟩;rw[Int.natCast_ediv]
 congr 1
 omega
theorem WR {p q:Int}(aL:q≠0):0<jo p.natAbs q.natAbs:=Nat.gcd_pos_of_pos_right _ (by omega)
theorem P4 {p q:Int}(aG:p.natAbs<ee)(aL:q.natAbs<ee):dv (l4 p q):=by
 have main:∀{p q:Int},p.natAbs<ee->q.natAbs<ee->0<q->dv (l4 p q):=by
  intro p q aG aL ao;obtain⟨F,I⟩:=WQ (p:=p) ao;have bc:=WR (p:=p) (q:=q) (by omega);refine⟨?_,?_⟩
  ·rw[F];exact Hg aG (by omega)
  ·have:=Hg (y:=((jo p.natAbs q.natAbs:Nat):Int)) aL (by omega);rw[<-I,mQ] at this;exact this
 rcases yD q 0 with h|h|h
 ·rw[<-aga];exact main (by omega) (by omega) (by omega)
 ·subst h;rw[Rat.divInt_zero];unfold dv ee;exact⟨Nat.pow_pos (by omega),Nat.one_lt_pow (by omega) (by omega)⟩
 ·exact main aG aL h
def P5:=cu xg λ(s,l,s2,aq)=>cU (D l<=1000000/\D aq<=1000000) (.same (eH (hB (s,l) (s2,aq))))
@[go_sem] theorem aKp (s:Int)(l:List Int)(s2:Int)(aq:List Int)(H:(D l)<=1000000/\D aq<=1000000):P5 [.agg [.int .i64 s,.Y (l.map ae)],.agg [.int .i64 s2,.Y (aq.map ae)]]=some (.same (eH (hB (s,l) (s2,aq)))):=(cD Af (s,l,s2,aq)).trans (cZ H _)
theorem atb (T:bl)(dM:T k7=aW w5)(Al:T Gy=aW PL)(yM:T KG=aW PO)(qP:T DQ=aW PV)(s:Int)(l:List Int)(s2:Int)(aq:List Int)(H:(D l)<=1000000/\D aq<=1000000):WP T WM (.same (eH (hB (s,l) (s2,aq)))) [.J (.agg [.int .i64 s,.Y (l.map ae)]),.J (.agg [.int .i64 s2,.Y (aq.map ae)])]:=by
 refine cE ?_;simp only[WM];obtain⟨cr,cf⟩:=H
 by_cases ab:dI (s,l)=true
 ·by_cases bH:dI (s2,aq)=true
  ·obtain⟨x,O,e⟩:=(jX _).1 ab;obtain⟨y,aw,aD⟩:=(jX _).1 bH
   by_cases ao:y=0
   ·have hm:hB (s,l) (s2,aq)=(fv,15):=by
     unfold hB;rw[ab,bH,aD,fR,ad (by rfl),ad ao]
    rw[hm]
    cases e
    cases aD;have U:(y.sign==0)=true:=by rw[ao];rfl
    refine aZ ?_;repeat' (intro h<;>simp only[h,go_sem,go_sem_proc,dM,Al,yM,qP,ab,bH,cr,cf,U,eH,aE,fv,cY]<;>try refine ax ?_ ?_)
   ·have main:∀p q:Int,p.natAbs<ee->q.natAbs<ee->0<q->∃g:Raw,l3 (bT p) (bT q)=(g,0)/\g.2.length<=1000000/\kM (bT p) g=(bT (l4 p q).num,bT (p.fmod ((jo p.natAbs q.natAbs:Nat):Int)),0)/\kM (bT q) g=(bT (l4 p q).den,bT (q.fmod ((jo p.natAbs q.natAbs:Nat):Int)),0):=by
     intro p q aG aL mJ;have oY:=Lo aG aL;have Es:((jo p.natAbs q.natAbs:Nat):Int).natAbs<ee:=by rw[mQ];exact oY
     have Pv:=WR (p:=p) (q:=q) (by omega);obtain⟨F,I⟩:=WQ (p:=p) mJ;refine⟨bT ((jo p.natAbs q.natAbs:Nat):Int),?_,nD Es,?_,?_⟩
     ·unfold l3;rw[ld aG,ld aL,fR,fR];rfl
     ·rw[Eg aG Es (by omega),F]
     ·rw[Eg aL Es (by omega),I]
    have qQ:(y.sign==0)=false:=by simpa using ao
    rcases Int.lt_or_gt_of_ne ao with kL|h4
    ·have hA:decide (y.sign<0)=true:=by rw[rJ kL];rfl
     obtain⟨⟨cF,cp⟩,bc,oY,jV,mK⟩:=main (-x) (-y) (by omega) (by omega) (by omega)
     have hm:hB (s,l) (s2,aq)=(av (l4 (-x) (-y)),0):=by
      rw[e,aD,Ak O aw ao,aga]
     rw[hm];have wK:jZ (s,l)=bT (-x):=by unfold jZ;rw[ad ab,e,fR]
     have yb:jZ (s2,aq)=bT (-y):=by unfold jZ;rw[ad bH,aD,fR]
     have Et:s2=y.sign:=congrArg Cl aD;have ix:(bT (-x)).2.length<=1000000:=nD (by omega);have kp:(bT (-y)).2.length<=1000000:=nD (by omega);clear e aD;unfold av;generalize bT (-x)=c6 at *;generalize bT (-y)=gi at *;obtain⟨a2,bS⟩:=c6;obtain⟨tS,tT⟩:=gi;rw[<-Et] at qQ hA;refine aZ ?_;repeat' (intro h<;>simp only[h,go_sem,go_sem_proc,dM,Al,yM,qP,ab,bH,cr,cf,qQ,hA,wK,yb,ix,kp,bc,oY,jV,mK,eH,aE,fS,ho,dc]<;>try refine ax ?_ ?_)
    ·have hA:decide (y.sign<0)=false:=by rw[jY h4];rfl
     obtain⟨⟨cF,cp⟩,bc,oY,jV,mK⟩:=main x y O aw h4
     have hm:hB (s,l) (s2,aq)=(av (l4 x y),0):=by
      rw[e,aD,Ak O aw ao]
     rw[hm];have Et:s2=y.sign:=congrArg Cl aD;rw[<-e] at bc jV;rw[<-aD] at bc mK;rw[<-Et] at qQ hA;unfold av;refine aZ ?_;repeat' (intro h<;>simp only[h,go_sem,go_sem_proc,dM,Al,yM,qP,ab,bH,cr,cf,qQ,hA,bc,oY,jV,mK,eH,aE,fS,ho,dc]<;>try refine ax ?_ ?_)
  ·have bH:dI (s2,aq)=false:=by simpa using bH
   have hm:hB (s,l) (s2,aq)=(fv,1):=by unfold hB;rw[bH,hP];rfl
   rw[hm];refine aZ ?_;repeat' (intro h<;>simp only[h,go_sem,go_sem_proc,dM,Al,yM,qP,ab,bH,cr,cf,eH,aE,fv,cY]<;>try refine ax ?_ ?_)
 ·have ab:dI (s,l)=false:=by simpa using ab
  have hm:hB (s,l) (s2,aq)=(fv,1):=by unfold hB;rw[ab,fu];rfl
  rw[hm];refine aZ ?_;repeat' (intro h<;>simp only[h,go_sem,go_sem_proc,dM,Al,yM,qP,ab,cr,cf,eH,aE,fv,cY]<;>try refine ax ?_ ?_)
def Eu:=cu GM λ(p,q)=>cU (dC p/\dC q) (.same (eH (hB (bT p) (bT q))))
@[go_sem] theorem agb (p:Int)(q:Int)(H:dC p/\dC q):Eu [.int .i64 p,.int .i64 q]=some (.same (eH (hB (bT p) (bT q)))):=(cD Pg (p,q)).trans (cZ H _)
theorem atc (T:bl)(atd:T OX=aW Wz)(Lw:T KH=aW P5)(p:Int)(q:Int)(H:dC p/\dC q):WP T WE (.same (eH (hB (bT p) (bT q)))) [.J (.int .i64 p),.J (.int .i64 q)]:=by
 refine cE ?_;simp only[WE];obtain⟨F,I⟩:=H;have eh:(bT p).2.length<=1000000:=nD (yK F);have aq:(bT q).2.length<=1000000:=nD (yK I);generalize gv:bT p=P at *;generalize fm:bT q=aM at *;obtain⟨a2,bS⟩:=P;obtain⟨tS,tT⟩:=aM;refine aZ ?_;repeat' (intro h<;>simp only[h,go_sem,go_sem_proc,atd,Lw,F,I,gv,fm,eh,aq,dc,eH,aE]<;>try refine ax ?_ ?_)
def xm (a b c d:Raw):Raw×Int :=
 if ((mulR a b).2==0)=true then (if ((mulR c d).2==0)=true then sM (mulR a b).1 (mulR c d).1 else ((0,[]),(mulR c d).2)) else ((0,[]),(mulR a b).2)
theorem agc (z:Int):(sL z).1.2.length<=1000000:=by
 unfold sL
 split
 ·exact nD (by assumption)
 ·simp
theorem Ev (a b:Raw):(mulR a b).1.2.length<=1000000:=by
 unfold mulR
 split
 ·exact agc _
 ·simp
theorem ate (a b:Raw):(sM a b).1.2.length<=1000000:=by
 unfold sM
 split
 ·exact agc _
 ·simp
theorem atf (a b c d:Raw):(xm a b c d).1.2.length<=1000000:=by
 unfold xm
 split
 ·split
  ·exact ate _ _
  ·simp
 ·simp
abbrev WS:Int×(List Int)×Int×(List Int)×Int×(List Int)×Int×(List Int)->List Data:=λ(s,l,s2,aq,da,b3,dd,cw)=>[.agg [.int .i64 s,.Y (l.map ae)],.agg [.int .i64 s2,.Y (aq.map ae)],.agg [.int .i64 da,.Y (b3.map ae)],.agg [.int .i64 dd,.Y (cw.map ae)]]
def WT:=cu WS λ(s,l,s2,aq,da,b3,dd,cw)=>cU (D l<=1000000/\D aq<=1000000/\D b3<=1000000/\D cw<=1000000) (.same (fS (xm (s,l) (s2,aq) (da,b3) (dd,cw))))
theorem atg:∀a b,WS a=WS b->a=b:=by
  rintro⟨s1,eh,Cc,Cd,ath,ati,atj,atk⟩ ⟨s2,aq,Ce,Cf,atl,atm,atn,ato⟩ h;simp only[bf,Data.agg.injEq,Data.int.injEq,Data.Y.injEq] at h;exact dR h.1.1.2 (dR (map_inj fh _ _ h.1.2.1) (dR h.2.1.1.2 (dR (map_inj fh _ _ h.2.1.2.1) (dR h.2.2.1.1.2 (dR (map_inj fh _ _ h.2.2.1.2.1) (dR h.2.2.2.1.1.2 (map_inj fh _ _ h.2.2.2.1.2.1)))))))
@[go_sem] theorem aKq (s:Int)(l:List Int)(s2:Int)(aq:List Int)(da:Int)(b3:List Int)(dd:Int)(cw:List Int)(H:(D l)<=1000000/\D aq<=1000000/\D b3<=1000000/\D cw<=1000000):WT [.agg [.int .i64 s,.Y (l.map ae)],.agg [.int .i64 s2,.Y (aq.map ae)],.agg [.int .i64 da,.Y (b3.map ae)],.agg [.int .i64 dd,.Y (cw.map ae)]]=some (.same (fS (xm (s,l) (s2,aq) (da,b3) (dd,cw)))):=(cD atg (s,l,s2,aq,da,b3,dd,cw)).trans (cZ H _)
theorem atp (T:bl)(qR:T vq=aW He)(WU:T Uw=aW Wo)(s:Int)(l:List Int)(s2:Int)(aq:List Int)(da:Int)(b3:List Int)(dd:Int)(cw:List Int)(H:(D l)<=1000000/\D aq<=1000000/\D b3<=1000000/\D cw<=1000000):WP T WK (.same (fS (xm (s,l) (s2,aq) (da,b3) (dd,cw)))) [.J (.agg [.int .i64 s,.Y (l.map ae)]),.J (.agg [.int .i64 s2,.Y (aq.map ae)]),.J (.agg [.int .i64 da,.Y (b3.map ae)]),.J (.agg [.int .i64 dd,.Y (cw.map ae)])]:=by
 refine cE ?_;simp only[WK];obtain⟨cr,cf,ix,kp⟩:=H;have dA:=Ev (s,l) (s2,aq);have cX:=Ev (da,b3) (dd,cw);unfold xm;generalize uc:mulR (s,l) (s2,aq)=M1 at *;generalize g5:mulR (da,b3) (dd,cw)=M2 at *;obtain⟨⟨c0,dj⟩,az⟩:=M1;obtain⟨⟨di,eK⟩,aD⟩:=M2;rcases F:(az==0)
 ·refine aZ ?_;repeat' (intro h<;>simp only[h,go_sem,go_sem_proc,qR,WU,cr,cf,ix,kp,uc,F,dA,cX,fS,dc,cY]<;>try refine ax ?_ ?_)
 ·have j0:az=0:=by simpa using F
  subst j0;rcases I:(aD==0)
  ·refine aZ ?_;repeat' (intro h<;>simp only[h,go_sem,go_sem_proc,qR,WU,cr,cf,ix,kp,uc,g5,F,I,dA,cX,fS,dc,cY]<;>try refine ax ?_ ?_)
  ·have lf:aD=0:=by simpa using I
   subst lf;refine aZ ?_;repeat' (intro h<;>simp only[h,go_sem,go_sem_proc,qR,WU,cr,cf,ix,kp,uc,g5,F,dA,cX,fS,dc,cY]<;>try refine ax ?_ ?_)
def vM (p:Raw×Int)(q:Raw×Int):bg×Int:=if (p.2==0)=true then (if (q.2==0)=true then hB p.1 q.1 else (fv,6)) else (fv,6)
abbrev WV:Int×(List Int)×Int×Int×(List Int)×Int->List Data:=λ(s,l,e,s2,aq,aD)=>[.agg [.int .i64 s,.Y (l.map ae)],.int .i64 e,.agg [.int .i64 s2,.Y (aq.map ae)],.int .i64 aD]
def Lx:=cu WV λ(s,l,e,s2,aq,aD)=>cU (D l<=1000000/\D aq<=1000000) (.same (eH (vM ((s,l),e) ((s2,aq),aD))))
theorem atq:∀a b,WV a=WV b->a=b:=by
  rintro⟨s1,eh,az,Cc,Cd,py⟩ ⟨s2,aq,aD,Ce,Cf,uj⟩ h;simp only[bf,Data.agg.injEq,Data.int.injEq,Data.Y.injEq] at h;exact dR h.1.1.2 (dR (map_inj fh _ _ h.1.2.1) (dR h.2.1.2 (dR h.2.2.1.1.2 (dR (map_inj fh _ _ h.2.2.1.2.1) h.2.2.2.1.2))))
@[go_sem] theorem aKr (s:Int)(l:List Int)(e:Int)(s2:Int)(aq:List Int)(aD:Int)(H:(D l)<=1000000/\D aq<=1000000):Lx [.agg [.int .i64 s,.Y (l.map ae)],.int .i64 e,.agg [.int .i64 s2,.Y (aq.map ae)],.int .i64 aD]=some (.same (eH (vM ((s,l),e) ((s2,aq),aD)))):=(cD atq (s,l,e,s2,aq,aD)).trans (cZ H _)
theorem atr (T:bl)(Lw:T KH=aW P5)(s:Int)(l:List Int)(e:Int)(s2:Int)(aq:List Int)(aD:Int)(H:(D l)<=1000000/\D aq<=1000000):WP T WL (.same (eH (vM ((s,l),e) ((s2,aq),aD)))) [.J (.agg [.int .i64 s,.Y (l.map ae)]),.J (.int .i64 e),.J (.agg [.int .i64 s2,.Y (aq.map ae)]),.J (.int .i64 aD)]:=by
 refine cE ?_;simp only[WL];obtain⟨cr,cf⟩:=H;unfold vM;rcases F:(e==0)
 ·refine aZ ?_;repeat' (intro h<;>simp only[h,go_sem,go_sem_proc,Lw,cr,cf,F,eH,aE,fv,cY]<;>try refine ax ?_ ?_)
 ·have j0:e=0:=by simpa using F
  subst j0;rcases I:(aD==0)
  ·refine aZ ?_;repeat' (intro h<;>simp only[h,go_sem,go_sem_proc,Lw,cr,cf,F,I,eH,aE,fv,cY]<;>try refine ax ?_ ?_)
  ·have lf:aD=0:=by simpa using I
   subst lf;refine aZ ?_;repeat' (intro h<;>simp only[h,go_sem,go_sem_proc,Lw,cr,cf,F,eH,aE,fv,cY]<;>try refine ax ?_ ?_)
def vN (a b:bg):bg×Int:=if ek a=true then (if ek b=true then vM (xm a.1 b.2 b.1 a.2) (mulR a.2 b.2) else (fv,1)) else (fv,1)
def pz (a b:bg):bg×Int:=if ek a=true then (if ek b=true then vN a (jZ b.1,b.2) else (fv,1)) else (fv,1)
def om (a b:bg):bg×Int:=if ek a=true then (if ek b=true then vM (mulR a.1 b.1) (mulR a.2 b.2) else (fv,1)) else (fv,1)
def j1 (a b:bg):bg×Int:=if ek a=true then (if ek b=true then (if (b.1.1==0)=true then (fv,15) else vM (mulR a.1 b.2) (mulR a.2 b.1)) else (fv,1)) else (fv,1)
theorem ats (a:Raw)(h:a.2.length<=1000000):(jZ a).2.length<=1000000:=by
 unfold jZ
 split
 ·rename_i ab;obtain⟨z,aV,e⟩:=(jX _).1 ab;rw[e,fR];exact nD (by omega)
 ·simp
abbrev Am:Int×(List Int)×Int×(List Int)×Int×(List Int)×Int×(List Int)->List Data:=λ(s,l,s2,aq,da,b3,dd,cw)=>[.agg [.int .i64 s,.Y (l.map ae),.int .i64 s2,.Y (aq.map ae)],.agg [.int .i64 da,.Y (b3.map ae),.int .i64 dd,.Y (cw.map ae)]]
def yN:=cu Am λ(s,l,s2,aq,da,b3,dd,cw)=>cU (D l<=1000000/\D aq<=1000000/\D b3<=1000000/\D cw<=1000000) (.same (eH (vN ((s,l),(s2,aq)) ((da,b3),(dd,cw)))))
theorem Ew:∀a b,Am a=Am b->a=b:=by
  rintro⟨s1,eh,Cc,Cd,ath,ati,atj,atk⟩ ⟨s2,aq,Ce,Cf,atl,atm,atn,ato⟩ h;simp only[bf,Data.agg.injEq,Data.int.injEq,Data.Y.injEq] at h;exact dR h.1.1.2 (dR (map_inj fh _ _ h.1.2.1) (dR h.1.2.2.1.2 (dR (map_inj fh _ _ h.1.2.2.2.1) (dR h.2.1.1.2 (dR (map_inj fh _ _ h.2.1.2.1) (dR h.2.1.2.2.1.2 (map_inj fh _ _ h.2.1.2.2.2.1)))))))
@[go_sem] theorem agd (s:Int)(l:List Int)(s2:Int)(aq:List Int)(da:Int)(b3:List Int)(dd:Int)(cw:List Int)(H:(D l)<=1000000/\D aq<=1000000/\D b3<=1000000/\D cw<=1000000):yN [.agg [.int .i64 s,.Y (l.map ae),.int .i64 s2,.Y (aq.map ae)],.agg [.int .i64 da,.Y (b3.map ae),.int .i64 dd,.Y (cw.map ae)]]=some (.same (eH (vN ((s,l),(s2,aq)) ((da,b3),(dd,cw))))):=(cD Ew (s,l,s2,aq,da,b3,dd,cw)).trans (cZ H _)
theorem att (T:bl)(fF:T lZ=aW vL)(WW:T Uo=aW WT)(qR:T vq=aW He)(vO:T DP=aW Lx)(s:Int)(l:List Int)(s2:Int)(aq:List Int)(da:Int)(b3:List Int)(dd:Int)(cw:List Int)(H:(D l)<=1000000/\D aq<=1000000/\D b3<=1000000/\D cw<=1000000):WP T WD (.same (eH (vN ((s,l),(s2,aq)) ((da,b3),(dd,cw))))) [.J (.agg [.int .i64 s,.Y (l.map ae),.int .i64 s2,.Y (aq.map ae)]),.J (.agg [.int .i64 da,.Y (b3.map ae),.int .i64 dd,.Y (cw.map ae)])]:=by
 refine cE ?_;simp only[WD];obtain⟨cr,cf,ix,kp⟩:=H;unfold vN
 by_cases ab:ek ((s,l),(s2,aq))=true
 ·by_cases bH:ek ((da,b3),(dd,cw))=true
  ·have dA:=atf (s,l) (dd,cw) (da,b3) (s2,aq);have cX:=Ev (s2,aq) (dd,cw);rw[ad ab,ad bH];dsimp only;generalize uc:xm (s,l) (dd,cw) (da,b3) (s2,aq)=M1 at *;generalize g5:mulR (s2,aq) (dd,cw)=M2 at *;obtain⟨⟨c0,dj⟩,az⟩:=M1;obtain⟨⟨di,eK⟩,aD⟩:=M2;refine aZ ?_;repeat' (intro h<;>simp only[h,go_sem,go_sem_proc,fF,WW,qR,vO,cr,cf,ix,kp,ab,bH,uc,g5,dA,cX,fS,dc,eH,aE]<;>try refine ax ?_ ?_)
  ·have bH:ek ((da,b3),(dd,cw))=false:=by simpa using bH
   rw[ad ab,ah (by simp[bH])];refine aZ ?_;repeat' (intro h<;>simp only[h,go_sem,go_sem_proc,fF,WW,qR,vO,cr,cf,ix,kp,ab,bH,eH,aE,fv,cY]<;>try refine ax ?_ ?_)
 ·have ab:ek ((s,l),(s2,aq))=false:=by simpa using ab
  rw[ah (by simp[ab])];refine aZ ?_;repeat' (intro h<;>simp only[h,go_sem,go_sem_proc,fF,WW,qR,vO,cr,cf,ix,kp,ab,eH,aE,fv,cY]<;>try refine ax ?_ ?_)
def An:=cu Am λ(s,l,s2,aq,da,b3,dd,cw)=>cU (D l<=1000000/\D aq<=1000000/\D b3<=1000000/\D cw<=1000000) (.same (eH (pz ((s,l),(s2,aq)) ((da,b3),(dd,cw)))))
@[go_sem] theorem atu (s:Int)(l:List Int)(s2:Int)(aq:List Int)(da:Int)(b3:List Int)(dd:Int)(cw:List Int)(H:(D l)<=1000000/\D aq<=1000000/\D b3<=1000000/\D cw<=1000000):An [.agg [.int .i64 s,.Y (l.map ae),.int .i64 s2,.Y (aq.map ae)],.agg [.int .i64 da,.Y (b3.map ae),.int .i64 dd,.Y (cw.map ae)]]=some (.same (eH (pz ((s,l),(s2,aq)) ((da,b3),(dd,cw))))):=(cD Ew (s,l,s2,aq,da,b3,dd,cw)).trans (cZ H _)
theorem atv (T:bl)(fF:T lZ=aW vL)(Al:T Gy=aW PL)(fM:T tO=aW yN)(s:Int)(l:List Int)(s2:Int)(aq:List Int)(da:Int)(b3:List Int)(dd:Int)(cw:List Int)(H:(D l)<=1000000/\D aq<=1000000/\D b3<=1000000/\D cw<=1000000):WP T WG (.same (eH (pz ((s,l),(s2,aq)) ((da,b3),(dd,cw))))) [.J (.agg [.int .i64 s,.Y (l.map ae),.int .i64 s2,.Y (aq.map ae)]),.J (.agg [.int .i64 da,.Y (b3.map ae),.int .i64 dd,.Y (cw.map ae)])]:=by
 refine cE ?_;simp only[WG];obtain⟨cr,cf,ix,kp⟩:=H;unfold pz
 by_cases ab:ek ((s,l),(s2,aq))=true
 ·by_cases bH:ek ((da,b3),(dd,cw))=true
  ·have dA:=ats (da,b3) ix;rw[ad ab,ad bH];dsimp only;generalize uc:jZ (da,b3)=M1 at *;obtain⟨c0,dj⟩:=M1;refine aZ ?_;repeat' (intro h<;>simp only[h,go_sem,go_sem_proc,fF,Al,fM,cr,cf,ix,kp,ab,bH,uc,dA,fS,dc,eH,aE]<;>try refine ax ?_ ?_)
  ·have bH:ek ((da,b3),(dd,cw))=false:=by simpa using bH
   rw[ad ab,ah (by simp[bH])];refine aZ ?_;repeat' (intro h<;>simp only[h,go_sem,go_sem_proc,fF,Al,fM,cr,cf,ix,kp,ab,bH,eH,aE,fv,cY]<;>try refine ax ?_ ?_)
 ·have ab:ek ((s,l),(s2,aq))=false:=by simpa using ab
  rw[ah (by simp[ab])];refine aZ ?_;repeat' (intro h<;>simp only[h,go_sem,go_sem_proc,fF,Al,fM,cr,cf,ix,kp,ab,eH,aE,fv,cY]<;>try refine ax ?_ ?_)
def yO:=cu Am λ(s,l,s2,aq,da,b3,dd,cw)=>cU (D l<=1000000/\D aq<=1000000/\D b3<=1000000/\D cw<=1000000) (.same (eH (om ((s,l),(s2,aq)) ((da,b3),(dd,cw)))))
@[go_sem] theorem atw (s:Int)(l:List Int)(s2:Int)(aq:List Int)(da:Int)(b3:List Int)(dd:Int)(cw:List Int)(H:(D l)<=1000000/\D aq<=1000000/\D b3<=1000000/\D cw<=1000000):yO [.agg [.int .i64 s,.Y (l.map ae),.int .i64 s2,.Y (aq.map ae)],.agg [.int .i64 da,.Y (b3.map ae),.int .i64 dd,.Y (cw.map ae)]]=some (.same (eH (om ((s,l),(s2,aq)) ((da,b3),(dd,cw))))):=(cD Ew (s,l,s2,aq,da,b3,dd,cw)).trans (cZ H _)
theorem atx (T:bl)(fF:T lZ=aW vL)(qR:T vq=aW He)(vO:T DP=aW Lx)(s:Int)(l:List Int)(s2:Int)(aq:List Int)(da:Int)(b3:List Int)(dd:Int)(cw:List Int)(H:(D l)<=1000000/\D aq<=1000000/\D b3<=1000000/\D cw<=1000000):WP T WH (.same (eH (om ((s,l),(s2,aq)) ((da,b3),(dd,cw))))) [.J (.agg [.int .i64 s,.Y (l.map ae),.int .i64 s2,.Y (aq.map ae)]),.J (.agg [.int .i64 da,.Y (b3.map ae),.int .i64 dd,.Y (cw.map ae)])]:=by
 refine cE ?_;simp only[WH];obtain⟨cr,cf,ix,kp⟩:=H;unfold om
 by_cases ab:ek ((s,l),(s2,aq))=true
 ·by_cases bH:ek ((da,b3),(dd,cw))=true
  ·have dA:=Ev (s,l) (da,b3);have cX:=Ev (s2,aq) (dd,cw);rw[ad ab,ad bH];dsimp only;generalize uc:mulR (s,l) (da,b3)=M1 at *;generalize g5:mulR (s2,aq) (dd,cw)=M2 at *;obtain⟨⟨c0,dj⟩,az⟩:=M1;obtain⟨⟨di,eK⟩,aD⟩:=M2;refine aZ ?_;repeat' (intro h<;>simp only[h,go_sem,go_sem_proc,fF,qR,vO,cr,cf,ix,kp,ab,bH,uc,g5,dA,cX,fS,dc,eH,aE]<;>try refine ax ?_ ?_)
  ·have bH:ek ((da,b3),(dd,cw))=false:=by simpa using bH
   rw[ad ab,ah (by simp[bH])];refine aZ ?_;repeat' (intro h<;>simp only[h,go_sem,go_sem_proc,fF,qR,vO,cr,cf,ix,kp,ab,bH,eH,aE,fv,cY]<;>try refine ax ?_ ?_)
 ·have ab:ek ((s,l),(s2,aq))=false:=by simpa using ab
  rw[ah (by simp[ab])];refine aZ ?_;repeat' (intro h<;>simp only[h,go_sem,go_sem_proc,fF,qR,vO,cr,cf,ix,kp,ab,eH,aE,fv,cY]<;>try refine ax ?_ ?_)
def Ex:=cu Am λ(s,l,s2,aq,da,b3,dd,cw)=>cU (D l<=1000000/\D aq<=1000000/\D b3<=1000000/\D cw<=1000000) (.same (eH (j1 ((s,l),(s2,aq)) ((da,b3),(dd,cw)))))
@[go_sem] theorem aty (s:Int)(l:List Int)(s2:Int)(aq:List Int)(da:Int)(b3:List Int)(dd:Int)(cw:List Int)(H:(D l)<=1000000/\D aq<=1000000/\D b3<=1000000/\D cw<=1000000):Ex [.agg [.int .i64 s,.Y (l.map ae),.int .i64 s2,.Y (aq.map ae)],.agg [.int .i64 da,.Y (b3.map ae),.int .i64 dd,.Y (cw.map ae)]]=some (.same (eH (j1 ((s,l),(s2,aq)) ((da,b3),(dd,cw))))):=(cD Ew (s,l,s2,aq,da,b3,dd,cw)).trans (cZ H _)
theorem atz (T:bl)(fF:T lZ=aW vL)(qR:T vq=aW He)(vO:T DP=aW Lx)(s:Int)(l:List Int)(s2:Int)(aq:List Int)(da:Int)(b3:List Int)(dd:Int)(cw:List Int)(H:(D l)<=1000000/\D aq<=1000000/\D b3<=1000000/\D cw<=1000000):WP T WN (.same (eH (j1 ((s,l),(s2,aq)) ((da,b3),(dd,cw))))) [.J (.agg [.int .i64 s,.Y (l.map ae),.int .i64 s2,.Y (aq.map ae)]),.J (.agg [.int .i64 da,.Y (b3.map ae),.int .i64 dd,.Y (cw.map ae)])]:=by
 refine cE ?_;simp only[WN];obtain⟨cr,cf,ix,kp⟩:=H;unfold j1
 by_cases ab:ek ((s,l),(s2,aq))=true
 ·by_cases bH:ek ((da,b3),(dd,cw))=true
  ·rw[ad ab,ad bH];dsimp only;rcases ao:(da==0)
   ·have dA:=Ev (s,l) (dd,cw);have cX:=Ev (s2,aq) (da,b3);rw[ah (by simp)];generalize uc:mulR (s,l) (dd,cw)=M1 at *;generalize g5:mulR (s2,aq) (da,b3)=M2 at *;obtain⟨⟨c0,dj⟩,az⟩:=M1;obtain⟨⟨di,eK⟩,aD⟩:=M2;refine aZ ?_;repeat' (intro h<;>simp only[h,go_sem,go_sem_proc,fF,qR,vO,cr,cf,ix,kp,ab,bH,ao,uc,g5,dA,cX,fS,dc,eH,aE]<;>try refine ax ?_ ?_)
   ·rw[ad rfl];refine aZ ?_;repeat' (intro h<;>simp only[h,go_sem,go_sem_proc,fF,qR,vO,cr,cf,ix,kp,ab,bH,ao,eH,aE,fv,cY]<;>try refine ax ?_ ?_)
  ·have bH:ek ((da,b3),(dd,cw))=false:=by simpa using bH
   rw[ad ab,ah (by simp[bH])];refine aZ ?_;repeat' (intro h<;>simp only[h,go_sem,go_sem_proc,fF,qR,vO,cr,cf,ix,kp,ab,bH,eH,aE,fv,cY]<;>try refine ax ?_ ?_)
 ·have ab:ek ((s,l),(s2,aq))=false:=by simpa using ab
  rw[ah (by simp[ab])];refine aZ ?_;repeat' (intro h<;>simp only[h,go_sem,go_sem_proc,fF,qR,vO,cr,cf,ix,kp,ab,eH,aE,fv,cY]<;>try refine ax ?_ ?_)
def Ao (c:Bool)(v:Rat):bg×Int:=if c=true then (av v,0) else (fv,6)
def iJ (z:Int):Bool:=decide (z.natAbs<ee)
def mR (x y:Rat):Bool:=iJ (x.num*y.den)&&(iJ (y.num*x.den)&&(iJ (x.num*y.den+y.num*x.den)&&iJ ((x.den:Int)*y.den)))
def Ap (x y:Rat):Bool:=iJ (x.num*y.num)&&iJ ((x.den:Int)*y.den)
def xn (x y:Rat):Bool:=iJ (x.num*y.den)&&iJ ((x.den:Int)*y.num)
theorem Cm {z:Int}(h:iJ z=true):sL z=(bT z,0):=ad (by simpa [iJ] using h)
theorem Cn {z:Int}(h:iJ z=false):sL z=((0,[]),6):=ah (by simpa [iJ] using h)
theorem qS {z:Int}(h:iJ z=true):z.natAbs<ee:=by simpa [iJ] using h
theorem atA {a b c d:Int}(aN:a.natAbs<ee)(ag:b.natAbs<ee)(H:c.natAbs<ee)(aa:d.natAbs<ee):
  xm (bT a) (bT b) (bT c) (bT d)=if (iJ (a*b)&&(iJ (c*d)&&iJ (a*b+c*d)))=true then (bT (a*b+c*d),0) else ((0,[]),6):=by
 unfold xm;rw[Cb aN ag,Cb H aa];rcases F:iJ (a*b)
 ·rw[Cn F];rfl
 ·rw[Cm F];rcases I:iJ (c*d)
  ·rw[Cn I];rfl
  ·rw[Cm I];show sM (bT (a*b)) (bT (c*d))=_;rw[afU (qS F) (qS I)];rcases af:iJ (a*b+c*d)
   ·rw[Cn af];rfl
   ·rw[Cm af];rfl
theorem WX (x y:Rat):l4 (x.num*y.den+y.num*x.den) ((x.den:Int)*y.den)=x+y:=by
 rw[<-Rat.divInt_add_divInt _ _ (by have:=den_pos x;omega) (by have:=den_pos y;omega),Eo,Eo]
theorem WY (x y:Rat):l4 (x.num*y.num) ((x.den:Int)*y.den)=x*y:=by
 rw[<-age,Eo,Eo]
theorem WZ (x y:Rat):l4 (x.num*y.den) ((x.den:Int)*y.num)=x/y:=by
 rw[<-age,Eo,<-Rat.inv_divInt,Eo]
 rfl
theorem xo (x:Rat):(x.den:Int)≠0:=by have:=den_pos x;omega
theorem W0 {x y:Rat}(O:dv x)(aw:dv y):vN (av x) (av y)=Ao (mR x y) (x+y):=by
 unfold vN;rw[ad (yL O),ad (yL aw)];show vM (xm (bT x.num) (bT y.den) (bT y.num) (bT x.den)) (mulR (bT x.den) (bT y.den))=_;rw[atA O.1 (xl aw) aw.1 (xl O),Cb (xl O) (xl aw)];unfold mR;rcases F:iJ (x.num*y.den)
 ·rfl
 ·rcases I:iJ (y.num*x.den)
  ·rfl
  ·rcases af:iJ (x.num*y.den+y.num*x.den)
   ·rfl
   ·rcases aO:iJ ((x.den:Int)*y.den)
    ·rw[Cn aO];rfl
    ·rw[Cm aO];show hB (bT (x.num*y.den+y.num*x.den)) (bT ((x.den:Int)*y.den))=(av (x+y),0)
     rw[Ak (qS af) (qS aO) (Aq (xo x) (xo y)),WX]
theorem atB {x:Rat}(h:dv x):dv (-x):=⟨by rw[Rat.neg_num];have:=h.1;omega,by rw[Rat.neg_den];exact h.2⟩
theorem P6 {x y:Rat}(O:dv x)(aw:dv y):pz (av x) (av y)=Ao (mR x (-y)) (x-y):=by
 unfold pz;rw[ad (yL O),ad (yL aw)]
 have:(jZ (av y).1,(av y).2)=av (-y):=by
  unfold av;have:jZ (bT y.num)=bT (-y.num):=by unfold jZ;rw[ad (ld aw.1),fR]
  dsimp only;rw[this];rfl
 rw[this,W0 O (atB aw),Ly]
theorem W1 {x y:Rat}(O:dv x)(aw:dv y):om (av x) (av y)=Ao (Ap x y) (x*y):=by
 unfold om;rw[ad (yL O),ad (yL aw)];show vM (mulR (bT x.num) (bT y.num)) (mulR (bT x.den) (bT y.den))=_;rw[Cb O.1 aw.1,Cb (xl O) (xl aw)];unfold Ap;rcases F:iJ (x.num*y.num)
 ·rw[Cn F];rfl
 ·rw[Cm F];rcases aO:iJ ((x.den:Int)*y.den)
  ·rw[Cn aO];rfl
  ·rw[Cm aO];show hB (bT (x.num*y.num)) (bT ((x.den:Int)*y.den))=(av (x*y),0)
   rw[Ak (qS F) (qS aO) (Aq (xo x) (xo y)),WY]
theorem P7 {x y:Rat}(O:dv x)(aw:dv y)(ao:y≠0):j1 (av x) (av y)=Ao (xn x y) (x/y):=by
 unfold j1;rw[ad (yL O),ad (yL aw)];have aK:y.num≠0:=λh=>ao (Rat.num_eq_zero.1 h)
 have:((av y).1.1==0)=false:=by
  show (y.num.sign==0)=false
  simpa using aK
 rw[this,ah (by simp)];show vM (mulR (bT x.num) (bT y.den)) (mulR (bT x.den) (bT y.num))=_;rw[Cb O.1 (xl aw),Cb (xl O) aw.1];unfold xn;rcases F:iJ (x.num*y.den)
 ·rw[Cn F];rfl
 ·rw[Cm F];rcases aO:iJ ((x.den:Int)*y.num)
  ·rw[Cn aO];rfl
  ·rw[Cm aO];show hB (bT (x.num*y.den)) (bT ((x.den:Int)*y.num))=(av (x/y),0)
   rw[Ak (qS F) (qS aO) (Aq (xo x) aK),WZ]
theorem atC {x y:Rat}(h:mR x y=true):dv (x+y):=by
 unfold mR at h;simp only[eM] at h;rw[<-WX];exact P4 (qS h.2.2.1) (qS h.2.2.2)
theorem agf {x y:Rat}(h:mR x (-y)=true):dv (x-y):=by rw[Ly];exact atC h
theorem agh {x y:Rat}(h:Ap x y=true):dv (x*y):=by
 unfold Ap at h;simp only[eM] at h;rw[<-WY];exact P4 (qS h.1) (qS h.2)
theorem atD {x y:Rat}(h:xn x y=true):dv (x/y):=by
 unfold xn at h;simp only[eM] at h;rw[<-WZ];exact P4 (qS h.1) (qS h.2)
def mS (x y:Rat):Int:=(x.num*y.den-y.num*x.den).sign
def lG (a b:bg):Int:=if ek a=true then (if ek b=true then (iy a.1*iy b.2-iy b.1*iy a.2).sign else 0) else 0
theorem P8 {x y:Rat}(O:dv x)(aw:dv y):lG (av x) (av y)=mS x y:=by
 unfold lG;rw[ad (yL O),ad (yL aw)];unfold av mS;rw[fR,fR,fR,fR]
theorem agi {x y:Rat}:mS x y=0↔x=y:=by
 unfold mS;rw[Wu,Rat.eq_iff_mul_eq_mul];omega
theorem P9 {p q:Int}(aL:0<q):0<=p.fmod q/\p.fmod q<q:=⟨Int.fmod_nonneg_of_pos _ aL,Int.fmod_lt_of_pos _ aL⟩
theorem agj {p q r s:Int}(aL:0<q)(U:0<s)(h:p.fdiv q<r.fdiv s):p*s-r*q<0:=by
 have az:=Qa p q;have aD:=Qa r s;have di:=P9 (p:=p) aL;have eK:=P9 (p:=r) U;generalize p.fdiv q=x at *;generalize r.fdiv s=y at *;generalize p.fmod q=u at *;generalize r.fmod s=v at *;subst az aD;have F:q*s*(x+1)<=q*s*y:=Int.mul_le_mul_of_nonneg_left (by omega) (PZ (Int.mul_pos aL U));have I:u*s<q*s:=Int.mul_lt_mul_of_pos_right di.2 U;have af:0<=v*q:=yA eK.1 (by omega);have bZ:(q*x+u)*s-(s*y+v)*q=q*s*(x+1)-q*s*y+(u*s-q*s)-v*q:=by grind
 omega
theorem atE {p q r s:Int}(h:p.fdiv q=r.fdiv s):p*s-r*q=p.fmod q*s-r.fmod s*q:=by
 have az:=Qa p q;have aD:=Qa r s;rw[h] at az;generalize r.fdiv s=y at *;generalize p.fmod q=u at *;generalize r.fmod s=v at *;subst az aD;grind
theorem agk (a b:Int):(a-b).sign = -(b-a).sign:=by rw[<-Ef];congr 1;omega
theorem agl {p q:Int}(aG:p.natAbs<ee)(aL:q.natAbs<ee)(ao:0<q):
  kM (p.sign,aJ p.natAbs) (q.sign,aJ q.natAbs)=(((p.fdiv q).sign,aJ (p.fdiv q).natAbs),((p.fmod q).sign,aJ (p.fmod q).natAbs),0):=Eg aG aL (by omega)
def uk:=cu Am λ(s,l,s2,aq,da,b3,dd,cw)=>cU (D l<=1000000/\D aq<=1000000/\D b3<=1000000/\D cw<=1000000) (.same (.int .i64 (lG ((s,l),(s2,aq)) ((da,b3),(dd,cw)))))
@[go_sem] theorem agm (s:Int)(l:List Int)(s2:Int)(aq:List Int)(da:Int)(b3:List Int)(dd:Int)(cw:List Int)(H:(D l)<=1000000/\D aq<=1000000/\D b3<=1000000/\D cw<=1000000):uk [.agg [.int .i64 s,.Y (l.map ae),.int .i64 s2,.Y (aq.map ae)],.agg [.int .i64 da,.Y (b3.map ae),.int .i64 dd,.Y (cw.map ae)]]=some (.same (.int .i64 (lG ((s,l),(s2,aq)) ((da,b3),(dd,cw))))):=(cD Ew (s,l,s2,aq,da,b3,dd,cw)).trans (cZ H _)
theorem atF (T:bl)(fF:T lZ=aW vL)(qP:T DQ=aW PV)(yP:T Uu=aW Wp)(s:Int)(l:List Int)(s2:Int)(aq:List Int)(da:Int)(b3:List Int)(dd:Int)(cw:List Int)(H:(D l)<=1000000/\D aq<=1000000/\D b3<=1000000/\D cw<=1000000):WP T WI (.same (.int .i64 (lG ((s,l),(s2,aq)) ((da,b3),(dd,cw))))) [.J (.agg [.int .i64 s,.Y (l.map ae),.int .i64 s2,.Y (aq.map ae)]),.J (.agg [.int .i64 da,.Y (b3.map ae),.int .i64 dd,.Y (cw.map ae)])]:=by
 refine cE ?_;simp only[WI];obtain⟨cr,cf,ix,kp⟩:=H
 by_cases ab:ek ((s,l),(s2,aq))=true
 ·by_cases bH:ek ((da,b3),(dd,cw))=true
  ·obtain⟨x,O,e⟩:=(Lu _).1 ab;obtain⟨y,aw,aD⟩:=(Lu _).1 bH;have hm:lG ((s,l),(s2,aq)) ((da,b3),(dd,cw))=mS x y:=by rw[e,aD,P8 O aw]
   rw[hm];clear hm;have atG:(s,l)=bT x.num:=congrArg Cl e;have W2:(s2,aq)=bT x.den:=congrArg Prod.snd e;have W3:(da,b3)=bT y.num:=congrArg Cl aD;have atH:(dd,cw)=bT y.den:=congrArg Prod.snd aD;clear e aD;have Hi:=xl O;have W4:=xl aw;have rM:=den_pos x;have iW:=den_pos y;have atI:=O.1;have TG:=aw.1;unfold mS;generalize x.num=P at *;generalize (x.den:Int)=aM at *;generalize y.num=cg at *;generalize (y.den:Int)=S at *
   cases atG
   cases W2
   cases W3
   cases atH;simp only[go_sem,go_sem_proc,fF,qP,yP,cr,cf,ix,kp,ab,bH];refine dw [5,6,7,8] [135002,135003] (λ((sP,p,q,r,t):Int×Int×Int×Int×Int) tm mem=>(sP=1\/sP = -1)/\0<q/\0<t/\p.natAbs<ee/\q.natAbs<ee/\r.natAbs<ee/\t.natAbs<ee/\(P*S-cg*aM).sign=sP*(p*t-r*q).sign/\tm 9=.J (.int .i64 sP)/\mem 135005=some (0,[.J (.int .i64 p.sign),.J (.Y ((aJ p.natAbs).map ae))])/\mem 135006=some (0,[.J (.int .i64 q.sign),.J (.Y ((aJ q.natAbs).map ae))])/\mem 135007=some (0,[.J (.int .i64 r.sign),.J (.Y ((aJ r.natAbs).map ae))])/\mem 135008=some (0,[.J (.int .i64 t.sign),.J (.Y ((aJ t.natAbs).map ae))])) (λ(_,_,q,_,_)=>q.natAbs) (1,P,aM,cg,S) (by refine⟨.inl rfl,rM,iW,atI,Hi,TG,W4,by rw[oe],rfl,?_,?_,?_,?_⟩<;>rfl) ?_;intro vs ms aT aS;simp only[go_sem,go_sem_proc,fF,qP,yP] at aT aS;subst aT aS;rintro⟨sP,p,q,r,t⟩ tm mem Q hm ⟨Qb,mJ,Ar,aG,aL,Hj,bD,hQ,jl,Lz,LA,lg,Ey⟩;simp only[go_sem,go_sem_proc,fF,qP,yP,bf] at Q hm;obtain⟨br,bR,bN,cb⟩:=Q;have LB:=nD aG;have LC:=nD aL;have Co:=nD Hj;have lt:=nD bD;have jV:=agl aG aL mJ;have mK:=agl Hj bD Ar;have agn:=Hg (y:=q) aG (by omega);have LD:=Hg (y:=t) Hj (by omega);have Hk:=nD agn;have LF:=nD LD;have gV:xi ((p.fdiv q).sign,aJ (p.fdiv q).natAbs) ((r.fdiv t).sign,aJ (r.fdiv t).natAbs)=hI (p.fdiv q) (r.fdiv t):=afV agn LD;have aKs:=P9 (p:=p) mJ;have bv:=P9 (p:=r) Ar;have atJ:IntKind.i64.wrap (0-sP) = -sP:=by rcases Qb with rfl|rfl<;>rfl
   rcases yD (p.fdiv q) (r.fdiv t) with aA|heq|iS
   ·have ak:=agj mJ Ar aA;rw[Lm aA] at gV;rw[hQ,rJ ak];have hw:IntKind.i64.wrap (sP * -1)=sP * -1:=by rcases Qb with rfl|rfl<;>rfl
    refine aZ ?_;repeat' (intro h<;>simp only[h,go_sem,go_sem_proc,fF,qP,yP,br,bR,bN,cb,jl,hm,Lz,LA,lg,Ey,LB,LC,Co,lt,Hk,LF,jV,mK,gV,hw,ho,dc,show ((-1:Int)==0)=false from rfl]<;>try refine ax ?_ ?_)
   ·have ak:=atE heq;rw[heq,PN] at gV
    have fy:∀a:Int,-1<=a->a<=1->IntKind.i64.wrap (sP*a)=sP*a:=by
     intro a F I;rcases Qb with rfl|rfl<;>exact wrap64 _ (by omega) (by omega)
    rw[heq] at jV Hk;have aKt:(p.fmod q).natAbs<ee:=by omega
    have aKu:(r.fmod t).natAbs<ee:=by omega
    rw[ak] at hQ;generalize p.fmod q=u at *;generalize r.fmod t=v at *
    by_cases hu:u=0
    ·subst hu
     have U:(0*t-v*q).sign=(0:Int).sign-v.sign:=by
      rw[Ah,ago,Ef,sN,jY mJ,vA,yQ,ago]
     rw[U] at hQ;rw[hQ];have af:=rL v;have B8:IntKind.i64.wrap ((0:Int).sign-v.sign)=(0:Int).sign-v.sign:=wrap64 _ (by rw[yQ];omega) (by rw[yQ];omega);have hw:=fy ((0:Int).sign-v.sign) (by rw[yQ];omega) (by rw[yQ];omega);refine aZ ?_;repeat' (intro h<;>simp only[h,go_sem,go_sem_proc,fF,qP,yP,br,bR,bN,cb,jl,hm,Lz,LA,lg,Ey,LB,LC,Co,lt,Hk,LF,jV,mK,gV,hw,B8,ho,dc,show ((0:Int)==0)=true from rfl,show ((0:Int).sign==0)=true from rfl]<;>try refine ax ?_ ?_)
    ·have El:0<u:=by omega
     have W5:(u.sign==0)=false:=by simpa using hu
     by_cases Gf:v=0
     ·subst Gf
      have U:(u*t-0*q).sign=u.sign-(0:Int).sign:=by
       rw[Ah,La,sN,jY Ar,vA,yQ,La]
      rw[U] at hQ;rw[hQ];have af:=rL u;have B8:IntKind.i64.wrap (u.sign-(0:Int).sign)=u.sign-(0:Int).sign:=wrap64 _ (by rw[yQ];omega) (by rw[yQ];omega);have hw:=fy (u.sign-(0:Int).sign) (by rw[yQ];omega) (by rw[yQ];omega);refine aZ ?_;repeat' (intro h<;>simp only[h,go_sem,go_sem_proc,fF,qP,yP,br,bR,bN,cb,jl,hm,Lz,LA,lg,Ey,LB,LC,Co,lt,Hk,LF,jV,mK,gV,hw,B8,W5,ho,dc,show ((0:Int)==0)=true from rfl,show ((0:Int).sign==0)=true from rfl]<;>try refine ax ?_ ?_)
     ·have ki:(v.sign==0)=false:=by simpa using Gf
      refine aZ ?_;repeat' (intro h<;>simp only[h,go_sem,go_sem_proc,fF,qP,yP,br,bR,bN,cb,jl,hm,Lz,LA,lg,Ey,LB,LC,Co,lt,Hk,LF,jV,mK,gV,W5,ki,atJ,ho,dc,show ((0:Int)==0)=true from rfl]<;>try refine ax ?_ ?_)
      refine⟨(-sP,q,u,t,v),by dsimp only;omega,by dsimp only;omega,by dsimp only;omega,by dsimp only;omega,by dsimp only;omega,by dsimp only;omega,by dsimp only;omega,by dsimp only;omega,?_,by simp[go_sem],by simp[go_sem],by simp[go_sem],by simp[go_sem],by simp[go_sem]⟩
      dsimp only;rw[hQ,agk (q*v) (t*u),Int.neg_mul_neg,nx t u,nx q v]
   ·have ak:=agj Ar mJ iS;rw[Ln iS] at gV;rw[hQ,agk,rJ ak];have hw:IntKind.i64.wrap (sP*1)=sP * -(-1):=by rcases Qb with rfl|rfl<;>rfl
    refine aZ ?_;repeat' (intro h<;>simp only[h,go_sem,go_sem_proc,fF,qP,yP,br,bR,bN,cb,jl,hm,Lz,LA,lg,Ey,LB,LC,Co,lt,Hk,LF,jV,mK,gV,hw,ho,dc,show ((1:Int)==0)=false from rfl]<;>try refine ax ?_ ?_)
  ·have bH:ek ((da,b3),(dd,cw))=false:=by simpa using bH
   have hm:lG ((s,l),(s2,aq)) ((da,b3),(dd,cw))=0:=by unfold lG;rw[ad ab,ah (by simp[bH])]
   rw[hm];refine aZ ?_;repeat' (intro h<;>simp only[h,go_sem,go_sem_proc,fF,qP,yP,cr,cf,ix,kp,ab,bH]<;>try refine ax ?_ ?_)
 ·have ab:ek ((s,l),(s2,aq))=false:=by simpa using ab
  have hm:lG ((s,l),(s2,aq)) ((da,b3),(dd,cw))=0:=by unfold lG;rw[ah (by simp[ab])]
  rw[hm];refine aZ ?_;repeat' (intro h<;>simp only[h,go_sem,go_sem_proc,fF,qP,yP,cr,cf,ix,kp,ab]<;>try refine ax ?_ ?_)
def W6:bY:=cq 22 2 [.t 4] (X [dX 3 108003 1,cO 4 false] (.seq (X [aU 6 1 3,bm 7 .lss 6 0,G 8 7,⟨some 9,some (8,false),.load 1 false (.t 3)⟩,⟨some 10,some (8,false),.bin .gtr (.t 9) (.c (al 40))⟩,ey 11 8 10,G 12 11,⟨some 13,some (12,false),.cN (.t 0)⟩,⟨some 14,some (12,false),.len (.t 13)⟩,⟨some 15,some (12,false),.load 1 false (.t 3)⟩,⟨some 16,some (12,false),.bin .neq (.t 14) (.t 15)⟩,ey 17 12 16] (a6 17 (X [cO 4 false] .ret) .skip)) (X [(aC 5 (.alloc 108005 [(.J .u4)])),⟨none,none,.store 1 (.t 5) (.c (.fz oT []))⟩] (X [G 18 0,(aC 19 (.pL BN [(.t 3),(.t 5)])),(cA 20 Uk 18 19),fx 21 20,G 4 21] .ret))))
def W7:bY:=cq 48 2 [.t 4,.t 5] (X [eB 4,bA 5 0] (.seq (X [G 11 0,G 12 1,(cA 13 Ui 11 12),fx 14 13] (a6 14 (X [eB 4,bA 5 1] .ret) .skip)) (X [G 16 0,G 17 1,(aC 18 (.call Ul [(.t 16),(.t 17),(.c (.J (.bool true)))])),G 15 18,bK 19 0 15,bK 20 1 15,G 6 19,G 7 20] (.seq (.block 0 (X [G 22 6,hf 23 22,bj 24 2 23,aU 25 1 24,G 21 25] (a6 21 (X [eB 4,bA 5 6] .ret) (X [G 27 7,cd 28 27,bm 29 .gtr 28 0,G 26 29] (a6 26 (X [eB 4,bA 5 17] .ret) .skip))))) (X [eB 8] (.seq (X [G 30 6,hf 31 30,bj 32 0 31,aU 33 1 32,cd 34 33,bA 35 0] (.block 1 (.ghost (.np 8 109045 4) (.loop  (X [bB 36 .lss 35 34] (.seq (a6 36 .skip (.exit 1)) (.seq (.block 2 (X [b0 37 1 33 35,aU 38 1 37,G 10 38] (.ops [G 39 8,G 40 10,G 41 1,b0 42 4 40 41,bs 43 4 42,(aC 44 (.eQ 109044 false [(al 0),.nil,(al 0),.nil] 4 1 [(0,4,(.t 43))])),(aC 45 (.app 109045 [(al 0),.nil,(al 0),.nil] 64 (.t 39) (.t 44))),G 8 45]))) (.ops [bm 46 .add 35 1,G 35 46])))))))) (X [G 47 8,G 4 47,bA 5 0] .ret)))))))
def W8:bY:=cq 6 1 [.t 2] (X [dX 1 125001 0,cO 2 false] (X [bs 3 4 1,(eb 4 lZ 3),fx 5 4,G 2 5] .ret))
def W9:bY:=cq 22 3 [.t 4] (X [dX 3 127003 0,cO 4 false] (X [bj 5 0 3,aU 6 1 5,cd 7 6,aU 8 1 1,bB 9 .neq 7 8,G 10 9,⟨some 11,some (10,false),.load 1 false (.t 2)⟩,⟨some 12,some (10,false),.eu 1 (.t 3)⟩,⟨some 13,some (10,false),.load 4 true (.t 12)⟩,⟨some 14,some (10,false),.jH (.t 11) [(.t 13)]⟩,ey 15 10 14,G 16 15,⟨some 17,some (16,false),.eu 0 (.t 3)⟩,⟨some 18,some (16,false),.load 1 false (.t 17)⟩,⟨some 19,some (16,false),.load 1 false (.t 2)⟩,⟨some 20,some (16,false),.call KF [(.t 18),(.t 19)]⟩,ey 21 16 20,G 4 21] .ret))
def LG:bY:=cq 65 3 [.t 6,.t 7] (X [(aC 6 (.cN (.c (.J .u3)))),eB 7] (X [G 13 1,(aC 14 (.build [.nil,(al 0),(.J (.bool false))] [(1,1,(.t 13))])),dX 15 129015 14,G 8 15] (.seq (X [G 16 0,cd 17 16,bA 18 0] (.block 0 (.loop  (X [bB 19 .lss 18 17] (.seq (a6 19 .skip (.exit 0)) (.seq (.block 1 (X [b0 20 5 16 18,bs 21 5 20,(aC 10 (.alloc 129010 [.nil,(al 0),.nil,(al 0),.nil])),bq 5 10 21] (.nX [G 22 8,G 23 8,hf 24 23,bj 25 0 24,aU 26 1 25,bj 27 0 10,aU 28 1 27,(aC 29 (.oG 129029 4 OW [(.t 28)])),bj 30 1 10,bs 31 4 30,(aC 32 (.eQ 129032 false [(al 0),.nil,(al 0),.nil] 4 1 [(0,4,(.t 31))])),(aC 33 (.app 129033 [(al 0),.nil,(al 0),.nil] 64 (.t 29) (.t 32))),(aC 34 (.eQ 129034 true [.nil] 1 1 [(0,1,(.t 33))])),(aC 35 (.app 129035 [.nil] 24 (.t 26) (.t 34))),hf 36 22,bj 37 0 36,bq 1 37 35] [[],[],[],[],[],[],[],[4],[],[7],[],[4],[4],[],[],[],[]]))) (.ghost (.move) (.ops [bm 38 .add 18 1,G 18 38])))))))) (X [eB 11] (.seq (X [bA 12 0] (.block 2 (.ghost (.np 11 129061 1) (.loop  (.seq (X [G 39 12,G 40 1,bB 41 .lss 39 40,G 42 41,⟨some 43,some (42,true),.cN (.t 8)⟩,⟨some 44,some (42,true),.sm (.t 43)⟩,⟨some 45,some (42,true),.eu 2 (.t 44)⟩,⟨some 46,some (42,true),.load 1 false (.t 45)⟩,⟨some 47,some (42,true),.un .not (.t 46)⟩,gK 48 42 47] (a6 48 .skip (.exit 2))) (.seq (.block 3 (X [G 51 8,G 52 12,G 53 11,cd 54 53,bB 55 .sub 52 54,G 56 12,(D0 57 Us 51 55 56)] (a6 57 (X [G 58 11,G 59 12,(aC 60 (.eQ 129060 false [(al 0)] 1 1 [(0,1,(.t 59))])),(aC 61 (.app 129061 [(al 0)] 8 (.t 58) (.t 60))),G 11 61] (X [G 62 2] (a6 62 (.exit 2) .skip))) .skip))) (.ops [G 49 12,bm 50 .add 49 1,G 12 50]))))))) (X [G 63 8,G 64 11,G 6 63,G 7 64] .ret))))))
def yR:bY:=cq 172 3 [.t 6] (X [cO 6 false] (X [G 15 1,G 7 15] (.seq (.block 0 (.loop  (.seq (X [G 16 7,G 17 0,hf 18 17,bj 19 1 18,aU 20 1 19,bB 21 .lss 16 20,G 22 21,⟨some 23,some (22,true),.cN (.t 0)⟩,⟨some 24,some (22,true),.sm (.t 23)⟩,⟨some 25,some (22,true),.eu 0 (.t 24)⟩,⟨some 26,some (22,true),.load 1 false (.t 25)⟩,⟨some 27,some (22,true),.cN (.t 7)⟩,⟨some 28,some (22,true),.nn 1 (.t 26) (.t 27)⟩,⟨some 29,some (22,true),.load 1 false (.t 28)⟩,⟨some 30,some (22,true),.cN (.t 2)⟩,⟨some 31,some (22,true),.nn 4 (.t 29) (.t 30)⟩,⟨some 32,some (22,true),.load 4 true (.t 31)⟩,⟨some 33,some (22,true),.call KJ [(.t 32)]⟩,gK 34 22 33] (a6 34 .skip (.exit 0))) (.block 1 (.ops [G 35 7,bm 36 .add 35 1,G 7 36]))))) (.seq (X [G 37 7,G 38 0,hf 39 38,bj 40 1 39,aU 41 1 40,bB 42 .eql 37 41] (a6 42 (X [cO 6 true] .ret) .skip)) (gb [G 43 0,hf 44 43,bj 45 0 44,aU 46 1 45,G 47 1,G 48 0,hf 49 48,bj 50 0 49,aU 51 1 50,G 52 7,G 53 0,hf 54 53,bj 55 0 54,aU 56 1 55,G 57 7,b0 58 1 56 57,aU 59 1 58,G 60 0,hf 61 60,bj 62 0 61,aU 63 1 62,G 64 1,b0 65 1 63 64,aU 66 1 65,b0 67 1 46 47,bq 1 67 59,b0 68 1 51 52,bq 1 68 66] arx (X [G 69 0,hf 70 69,bj 71 0 70,aU 72 1 71,G 73 1,b0 74 1 72 73,aU 75 1 74,G 76 2,b0 77 4 75 76,bs 78 4 77,(aC 8 (.alloc 148008 [(al 0),.nil,(al 0),.nil])),bq 4 8 78] (.seq (X [G 79 0,hf 80 79,bj 81 0 80,aU 82 1 81,G 83 1,b0 84 1 82 83,aU 85 1 84,cd 86 85,bA 87 0] (.block 2 (.loop  (X [bB 88 .lss 87 86] (.seq (a6 88 .skip (.exit 2)) (.seq (.block 3 (X [G 89 87,b0 90 4 85 87,bs 91 4 90,(aC 10 (.alloc 148010 [(al 0),.nil,(al 0),.nil])),G 9 89,bq 4 10 91] (.nX [G 92 0,hf 93 92,bj 94 0 93,aU 95 1 94,G 96 1,b0 97 1 95 96,aU 98 1 97,G 99 9,G 100 0,bs 101 4 10,bs 102 4 8,(cA 103 DR 101 102),bK 104 0 103,bK 105 1 103,(aC 106 (.mA 2 BO [(.t 100),(.t 104),(.t 105)])),b0 107 4 98 99,bq 4 107 106] [[],[],[],[],[],[],[],[],[],[],[],[],[],[],[3,6],[],[]]))) (.ops [bm 108 .add 87 1,G 87 108]))))))) (.seq (X [G 109 0,hf 110 109,bj 111 0 110,aU 112 1 111,cd 113 112,bA 114 0] (.block 4 (.loop  (X [bB 115 .lss 114 113] (.seq (a6 115 .skip (.exit 4)) (.seq (.block 5 (X [G 116 114,b0 117 1 112 114,aU 118 1 117,G 11 116,G 12 118] (X [G 119 12,G 120 2,b0 121 4 119 120,bs 122 4 121,(aC 13 (.alloc 148013 [(al 0),.nil,(al 0),.nil])),bq 4 13 122] (.seq (X [G 123 11,G 124 1,bB 125 .eql 123 124,G 126 125,⟨some 127,some (126,false),.load 4 true (.t 13)⟩,⟨some 128,some (126,false),.call KJ [(.t 127)]⟩,ey 129 126 128] (a6 129 (.exit 5) .skip)) (X [bA 14 0] (.block 6 (.loop  (.seq (X [G 130 14,G 131 12,cd 132 131,bB 133 .lss 130 132,G 134 133,⟨some 135,some (134,true),.cN (.t 0)⟩,⟨some 136,some (134,true),.sm (.t 135)⟩,⟨some 137,some (134,true),.eu 2 (.t 136)⟩,⟨some 138,some (134,true),.load 1 false (.t 137)⟩,⟨some 139,some (134,true),.un .not (.t 138)⟩,gK 140 134 139] (a6 140 .skip (.exit 6))) (.seq (.block 7 (.nX [G 143 12,G 144 14,G 145 0,G 146 12,G 147 14,b0 148 4 146 147,bs 149 4 148,G 150 0,bs 151 4 13,G 152 0,hf 153 152,bj 154 0 153,aU 155 1 154,G 156 1,b0 157 1 155 156,aU 158 1 157,G 159 14,b0 160 4 158 159,bs 161 4 160,(cA 162 wX 151 161),bK 163 0 162,bK 164 1 162,(aC 165 (.mA 2 BO [(.t 150),(.t 163),(.t 164)])),(cA 166 yv 149 165),bK 167 0 166,bK 168 1 166,(aC 169 (.mA 2 BO [(.t 145),(.t 167),(.t 168)])),b0 170 4 143 144,bq 4 170 169] [[],[],[],[],[],[],[],[],[],[],[],[],[],[],[],[],[],[],[],[],[],[],[6],[],[],[],[],[],[]])) (.ops [G 141 14,bm 142 .add 141 1,G 14 142])))))))))) (.ops [bm 171 .add 114 1,G 114 171]))))))) (X [cO 6 false] .ret)))))))))
def Xa:bY:=cq 7 1 [.t 2] (X [dX 1 167001 0,cO 2 false] (X [bj 3 0 1,bj 4 0 3,aU 5 1 4,bm 6 .eql 5 0,G 2 6] .ret))
def Qc:bY:=cq 19 3 [.cell 6 4 true] (X [dX 4 168004 1,(aC 6 (.alloc 168006 [(al 0),.nil,(al 0),.nil]))] (X [G 7 0,G 8 0,hf 9 8,bj 10 2 9,aU 11 1 10,G 12 11,⟨some 13,some (12,false),.cN (.t 2)⟩,⟨some 14,some (12,false),.bin .neq (.t 13) (.c (al 0))⟩,ey 15 12 14,hf 16 7,bj 17 2 16,bq 1 17 15] (X [bs 18 4 4,bq 4 6 18] .ret)))
def Ez:bY:=cq 92 2 [.cell 4 3 true,.t 5] (X [(aC 4 (.alloc 217004 [.nil,.nil,.nil])),bA 5 0] (.seq (X [G 15 0,G 16 1,(cA 17 UE 15 16),fx 18 17] (a6 18 (X [(aC 19 (.build [.nil,.nil,.nil] [])),bq 3 4 19,bA 5 1] .ret) .skip)) (X [G 20 0,G 21 1,(cA 22 UF 20 21),G 6 22] (X [(aC 7 (.alloc 217007 [.nil,.nil,.nil]))] (.seq (.block 0 (.loop  (.block 1 (X [G 24 6,(eb 25 O3 24),G 23 25,bK 26 0 23,bK 27 1 23,(aC 8 (.alloc 217008 [.nil])),bq 1 8 26,G 9 27] (.seq (X [G 28 9,fx 29 28] (a6 29 (X [(aC 30 (.build [.nil,.nil,.nil] [])),bq 3 4 30,bA 5 6] .ret) .skip)) (X [eB 10] (.seq (X [G 31 6,cd 32 31,bA 33 0] (.block 2 (.ghost (.np 10 217057 1) (.loop  (X [bB 34 .lss 33 32] (.seq (a6 34 .skip (.exit 2)) (.seq (.block 3 (X [G 35 33,b0 36 1 31 33,aU 37 1 36,(aC 11 (.alloc 217011 [(al 0)])),bq 1 11 35,G 12 37] (.seq (gb [aU 38 1 8,aU 39 1 11,b0 40 4 38 39,bs 41 4 40,G 42 12,G 43 12,hf 44 43,bj 45 22 44,aU 46 1 45,hf 47 42,bj 48 11 47,(aC 49 (.pe 11 1 (.t 48) (.t 46))),aU 50 1 49,(eb 51 pt 50),(cA 52 oU 41 51),bm 53 .geq 52 0] O6 (a6 53 (.exit 3) .skip)) (X [G 54 10,aU 55 1 11,(aC 56 (.eQ 217056 false [(al 0)] 1 1 [(0,1,(.t 55))])),(aC 57 (.app 217057 [(al 0)] 8 (.t 54) (.t 56))),G 10 57] (.ops [G 58 12,G 59 12,hf 60 59,bj 61 11 60,(aC 62 (.tk 11 1 (.t 61) (some (.c (al 1))) none none)),(aC 63 (.pL DT [(.t 8),(.t 11)])),(cA 64 wY 62 63),hf 65 58,bj 66 22 65,bq 1 66 64]))))) (.ops [bm 67 .add 33 1,G 33 67])))))))) (.seq (X [G 68 10,cd 69 68,bm 70 .eql 69 0] (a6 70 (X [aU 71 1 8,bj 72 0 7,bq 1 72 71] (.exit 0)) .skip)) (.ghost (.freeze 10) (.ops [bj 73 2 7,aU 74 1 73,G 75 10,(aC 76 (.eQ 217076 false [.nil] 1 1 [(0,1,(.t 75))])),(aC 77 (.app 217077 [.nil] 24 (.t 74) (.t 76))),bj 78 2 7,bq 1 78 77])))))))))) (.seq (.ghost (.many) (.ops [G 80 1,bj 81 0 7,aU 82 1 81,(cA 83 UG 80 82),G 79 83,bK 84 0 79,bK 85 1 79,G 13 84,G 14 85])) (.seq (X [G 86 14,fx 87 86] (a6 87 (X [(aC 88 (.build [.nil,.nil,.nil] [])),bq 3 4 88,bA 5 6] .ret) .skip)) (X [G 89 13,bj 90 1 7,bq 1 90 89] (X [bs 91 3 7,bq 3 4 91,bA 5 0] .ret)))))))))
def Xb:bY:=cq 32 2 [.t 4] (X [cO 4 false] (X [G 9 0,cd 10 9,(aC 5 (.alloc 227005 [(al 0)])),bq 1 5 10] (X [(aC 6 (.alloc 227006 [(.J .u4)])),⟨none,none,.store 1 (.t 6) (.c (.fz vx []))⟩] (X [(aC 11 (.pL KP [(.t 6)])),G 7 11] (X [(aC 12 (.pL KQ [(.t 6),(.t 5)])),G 8 12] (X [aU 13 1 5,bm 14 .leq 13 60,G 15 14,⟨some 16,some (15,true),.cN (.t 1)⟩,⟨some 17,some (15,true),.len (.t 16)⟩,⟨some 18,some (15,true),.bin .leq (.t 17) (.c (al 2000))⟩,gK 19 15 18,G 20 19,⟨some 21,some (20,true),.cN (.t 0)⟩,⟨some 22,some (20,true),.cN (.t 7)⟩,⟨some 23,some (20,true),.call KR [(.t 21),(.t 22)]⟩,⟨some 24,some (20,true),.un .not (.t 23)⟩,gK 25 20 24,G 26 25,⟨some 27,some (26,true),.cN (.t 1)⟩,⟨some 28,some (26,true),.cN (.t 8)⟩,⟨some 29,some (26,true),.call DU [(.t 27),(.t 28)]⟩,⟨some 30,some (26,true),.un .not (.t 29)⟩,gK 31 26 30,G 4 31] .ret))))))
def Cp:bY:=cq 73 2 [.t 4] (X [eB 4] (X [eB 5] (.seq (X [G 12 0,cd 13 12,bA 14 0] (.block 0 (.ghost (.np 5 228023 1) (.loop  (X [bB 15 .lss 14 13] (.seq (a6 15 .skip (.exit 0)) (.seq (.block 1 (X [b0 16 1 12 14,aU 17 1 16,G 7 17] (.ops [G 18 5,G 19 7,(aC 20 (.build [(al 0),.nil,.nil,.nil,.nil,.nil,.nil,.nil,.nil,.nil,.nil,(al 0),(al 0),(al 0),(al 0),(al 0),(al 0),(al 0),(al 0),(al 0),(al 0),(al 0),(al 0),(.J (.bool false))] [(0,1,(.t 19)),(22,1,(.c (al 10)))])),dX 21 228021 20,(aC 22 (.eQ 228022 true [(.J .u3)] 1 1 [(0,1,(.t 21))])),(aC 23 (.app 228023 [(.J .u3)] 8 (.t 18) (.t 22))),G 5 23]))) (.ghost (.many) (.ops [bm 24 .add 14 1,G 14 24]))))))))) (.seq (X [G 25 1,cd 26 25,bA 27 0] (.block 2 (.loop  (X [bB 28 .lss 27 26] (.seq (a6 28 .skip (.exit 2)) (.seq (.block 3 (X [b0 29 4 25 27,bs 30 4 29,(aC 9 (.alloc 228009 [(al 0),(al 0),(al 0),(al 0)])),bq 4 9 30] (X [G 31 5,bj 32 0 9,aU 33 1 32,b0 34 1 31 33,aU 35 1 34,G 10 35] (gb [G 36 10,bj 37 2 9,aU 38 1 37,G 39 10,bj 40 2 9,aU 41 1 40,hf 42 39,bj 43 1 42,(aC 44 (.pe 10 1 (.t 43) (.t 41))),aU 45 1 44,bs 46 4 9,(aC 47 (.eQ 228047 false [(al 0),(al 0),(al 0),(al 0)] 4 1 [(0,4,(.t 46))])),(aC 48 (.app 228048 [(al 0),(al 0),(al 0),(al 0)] 32 (.t 45) (.t 47))),hf 49 36,bj 50 1 49,(aC 51 (.pe 10 1 (.t 50) (.t 38))),bq 1 51 48] [[],[],[],[],[],[],[],[],[],[],[],[],[2],[],[],[],[]] (.seq (.ghost (.many) (.ops [bj 52 2 9,aU 53 1 52,bm 54 .add 53 1,G 11 54])) (.block 4 (.loop  (.seq (X [G 55 11,bm 56 .leq 55 10] (a6 56 .skip (.exit 4))) (.seq (.block 5 (.nX [G 59 10,G 60 11,hf 61 59,bj 62 11 61,(aC 63 (.pe 11 1 (.t 62) (.t 60))),aU 64 1 63,bj 65 3 9,aU 66 1 65,bB 67 .add 64 66,hf 68 59,bj 69 11 68,(aC 70 (.pe 11 1 (.t 69) (.t 60))),bq 1 70 67] U5)) (.ops [G 57 11,bm 58 .add 57 1,G 11 58])))))))))) (.ops [bm 71 .add 27 1,G 27 71]))))))) (.seq (.ghost (.many) (.ops [G 72 5,G 4 72])) .ret)))))
def Hl:bY:=cq 72 1 [.t 2,.t 3] (X [eB 2,cO 3 false] (.seq (X [G 11 0,cd 12 11,bA 13 0] (.block 0 (.loop  (X [bB 14 .lss 13 12] (.seq (a6 14 .skip (.exit 0)) (.seq (.block 1 (X [b0 15 1 11 13,aU 16 1 15,G 5 16] (.ops [G 17 5,hf 18 17,bj 19 23 18,⟨none,none,.store 1 (.t 19) (.c (.J (.bool false)))⟩]))) (.ops [bm 20 .add 13 1,G 13 20]))))))) (.block 2 (.loop  (.block 3 (X [G 22 0,(eb 23 UI 22),G 21 23,bK 24 0 21,bK 25 1 21,G 6 24,G 7 25] (.seq (X [G 26 7,fx 27 26] (a6 27 (X [eB 2,cO 3 false] .ret) .skip)) (X [cO 8 false] (.seq (X [G 28 0,cd 29 28,bA 30 0] (.block 4 (.loop  (X [bB 31 .lss 30 29] (.seq (a6 31 .skip (.exit 4)) (.seq (.block 5 (X [G 32 30,b0 33 1 28 30,aU 34 1 33,G 9 32,G 10 34] (gb [G 35 10,hf 36 35,bj 37 22 36,aU 38 1 37,bm 39 .lss 38 10,G 40 39,⟨some 41,some (40,true),.cN (.t 10)⟩,⟨some 42,some (40,true),.sm (.t 41)⟩,⟨some 43,some (40,true),.eu 23 (.t 42)⟩,⟨some 44,some (40,true),.load 1 false (.t 43)⟩,⟨some 45,some (40,true),.un .not (.t 44)⟩,gK 46 40 45,G 47 46,⟨some 48,some (47,true),.cN (.t 6)⟩,⟨some 49,some (47,true),.cN (.t 9)⟩,⟨some 50,some (47,true),.nn 4 (.t 48) (.t 49)⟩,⟨some 51,some (47,true),.load 4 true (.t 50)⟩,⟨some 52,some (47,true),.cN (.t 10)⟩,⟨some 53,some (47,true),.cN (.t 10)⟩,⟨some 54,some (47,true),.sm (.t 53)⟩,⟨some 55,some (47,true),.eu 22 (.t 54)⟩,⟨some 56,some (47,true),.load 1 false (.t 55)⟩,⟨some 57,some (47,true),.sm (.t 52)⟩,⟨some 58,some (47,true),.eu 11 (.t 57)⟩,⟨some 59,some (47,true),.pe 11 1 (.t 58) (.t 56)⟩,⟨some 60,some (47,true),.load 1 false (.t 59)⟩,⟨some 61,some (47,true),.call pt [(.t 60)]⟩,⟨some 62,some (47,true),.call oU [(.t 51),(.t 61)]⟩,⟨some 63,some (47,true),.bin .gtr (.t 62) (.c (al 0))⟩,gK 64 47 63] ary (a6 64 (.ops [G 65 10,hf 66 65,bj 67 23 66,⟨none,none,.store 1 (.t 67) (.c (.J (.bool true)))⟩,cO 8 true]) .skip)))) (.ops [bm 68 .add 30 1,G 30 68]))))))) (X [G 69 8,fx 70 69] (a6 70 (X [G 71 6,G 2 71,cO 3 true] .ret) .skip)))))))))))
def Xc:bY:=cq 11 1 [.cell 2 4 true] (X [(aC 2 (.alloc 230002 [(al 0),.nil,(al 0),.nil]))] (X [G 6 0,(aC 7 (.call zU [(.t 6),(.c (al 1))])),G 5 7,bK 8 0 5,bK 9 1 5,(aC 3 (.alloc 230003 [(al 0),.nil,(al 0),.nil])),bq 4 3 8,G 4 9] (X [bs 10 4 3,bq 4 2 10] .ret)))
def Xd:bY:=cq 13 3 [.t 4] (X [cO 4 false] (gb [aU 5 1 1,aU 6 1 2,b0 7 4 5 6,bs 8 4 7,G 9 0,(eb 10 pt 9),(cA 11 oU 8 10),bm 12 .lss 11 0,G 4 12] D3 .ret))
def EA:bY:=cq 96 2 [.t 4,.t 5] (X [eB 4,cO 5 false] (X [G 17 1,cd 18 17,(aC 19 (.mz 233019 [.nil] 24 (.t 18) (.t 18))),G 6 19] (X [G 20 1,cd 21 20,(aC 22 (.mz 233022 [.nil] 24 (.t 21) (.t 21))),G 7 22] (.seq (X [G 23 0,cd 24 23,bA 25 0] (.block 0 (.loop  (X [bB 26 .lss 25 24] (.seq (a6 26 .skip (.exit 0)) (.seq (.block 1 (X [G 27 25,b0 28 4 23 25,bs 29 4 28,(aC 9 (.alloc 233009 [(al 0),(al 0),(al 0),(al 0)])),G 8 27,bq 4 9 29] (.nX [G 30 6,bj 31 0 9,aU 32 1 31,G 33 7,bj 34 0 9,aU 35 1 34,G 36 6,bj 37 0 9,aU 38 1 37,b0 39 1 36 38,aU 40 1 39,bs 41 4 9,(aC 42 (.eQ 233042 false [(al 0),(al 0),(al 0),(al 0)] 4 1 [(0,4,(.t 41))])),(aC 43 (.app 233043 [(al 0),(al 0),(al 0),(al 0)] 32 (.t 40) (.t 42))),G 44 7,bj 45 0 9,aU 46 1 45,b0 47 1 44 46,aU 48 1 47,G 49 8,(aC 50 (.eQ 233050 false [(al 0)] 1 1 [(0,1,(.t 49))])),(aC 51 (.app 233051 [(al 0)] 8 (.t 48) (.t 50))),b0 52 1 30 32,bq 1 52 43,b0 53 1 33 35,bq 1 53 51] [[],[],[],[],[],[],[],[],[],[],[],[],[],[2,5],[],[],[13],[],[13],[],[],[2,5],[],[5],[],[]]))) (.ghost (.many) (.ops [bm 54 .add 25 1,G 25 54])))))))) (.seq (.ghost (.many) (.ops [G 55 0,cd 56 55,(aC 57 (.mz 233057 [(al 0),.nil,(al 0),.nil] 64 (.t 56) (.t 56))),G 10 57])) (.seq (X [G 58 6,cd 59 58,bA 60 0] (.block 2 (.loop  (X [bB 61 .lss 60 59] (.seq (a6 61 .skip (.exit 2)) (.seq (.block 3 (X [G 62 60,b0 63 1 58 60,aU 64 1 63,G 11 62,G 12 64] (X [G 66 1,G 67 11,b0 68 4 66 67,bs 69 4 68,G 70 12,(cA 71 KS 69 70),G 65 71,bK 72 0 65,bK 73 1 65,G 13 72,G 14 73] (.seq (X [G 74 14,bm 75 .neq 74 0] (a6 75 (X [eB 4,cO 5 false] .ret) .skip)) (X [G 76 7,G 77 11,b0 78 1 76 77,aU 79 1 78,cd 80 79,bA 81 0] (.block 4 (.loop  (X [bB 82 .lss 81 80] (.seq (a6 82 .skip (.exit 4)) (.seq (.block 5 (X [G 83 81,b0 84 1 79 81,aU 85 1 84,G 15 83,G 16 85] (.ops [G 86 10,G 87 16,G 88 13,G 89 15,b0 90 4 88 89,bs 91 4 90,b0 92 4 86 87,bq 4 92 91]))) (.ops [bm 93 .add 81 1,G 81 93]))))))))))) (.ops [bm 94 .add 60 1,G 60 94]))))))) (.seq (.ghost (.freeze 10) (.ops [G 95 10,G 4 95,cO 5 true])) .ret)))))))
def Xe:bY:=cq 15 3 [.t 6] (X [cO 6 false] (X [G 7 0,G 8 1,bB 9 .geq 7 8,G 10 9,⟨some 11,some (10,true),.cN (.t 0)⟩,⟨some 12,some (10,true),.cN (.t 2)⟩,⟨some 13,some (10,true),.bin .leq (.t 11) (.t 12)⟩,gK 14 10 13,G 6 14] .ret))
def Xf:bY:=cq 8 2 [.t 3] (X [cO 3 false] (X [aU 4 1 1,G 5 0,(aC 6 (.jH (.t 4) [(.t 5),(.c (al 0)),(.c (al 1000000000000000))])),fx 7 6,G 3 7] .ret))
def Xg:bY:=cq 35 3 [.t 4] (X [dX 3 245003 0,cO 4 false] (X [aU 5 1 1,bj 6 0 3,aU 7 1 6,aU 8 1 2,bm 9 .sub 8 1,(aC 10 (.jH (.t 5) [(.t 7),(.c (al 0)),(.t 9)])),fx 11 10,G 12 11,⟨some 13,some (12,false),.load 1 false (.t 1)⟩,⟨some 14,some (12,false),.eu 1 (.t 3)⟩,⟨some 15,some (12,false),.load 1 false (.t 14)⟩,⟨some 16,some (12,false),.load 1 false (.t 2)⟩,⟨some 17,some (12,false),.bin .sub (.t 16) (.c (al 1))⟩,⟨some 18,some (12,false),.jH (.t 13) [(.t 15),(.c (.J (.int .i64 (-1)))),(.t 17)]⟩,⟨some 19,some (12,false),.un .not (.t 18)⟩,ey 20 12 19,G 21 20,⟨some 22,some (21,false),.load 1 false (.t 1)⟩,⟨some 23,some (21,false),.eu 2 (.t 3)⟩,⟨some 24,some (21,false),.load 1 false (.t 23)⟩,⟨some 25,some (21,false),.jH (.t 22) [(.t 24),(.c (al 0)),(.c (al 9))]⟩,⟨some 26,some (21,false),.un .not (.t 25)⟩,ey 27 21 26,G 28 27,⟨some 29,some (28,false),.load 1 false (.t 1)⟩,⟨some 30,some (28,false),.eu 3 (.t 3)⟩,⟨some 31,some (28,false),.load 1 false (.t 30)⟩,⟨some 32,some (28,false),.jH (.t 29) [(.t 31),(.c (al 0)),(.c (al 1000000000000000))]⟩,⟨some 33,some (28,false),.un .not (.t 32)⟩,ey 34 28 33,G 4 34] .ret))
def vP:bY:=cq 159 1 [.t 2,.t 3] (X [eB 2,cO 3 false] (X [G 26 0,cd 27 26,G 4 27] (X [G 28 4,(aC 29 (.mz 248029 [(al 0)] 8 (.t 28) (.t 28))),G 5 29] (X [eB 6] (X [eB 7] (.seq (X [G 30 0,cd 31 30,bA 32 0] (.block 0 (.ghost (.np 6 248094 1) (.ghost (.np 7 248098 1) (.loop  (X [bB 33 .lss 32 31] (.seq (a6 33 .skip (.exit 0)) (.seq (.block 1 (X [G 34 32,b0 35 1 30 32,aU 36 1 35,G 8 34,G 9 36] (gb [G 37 5,G 38 8,b0 39 1 37 38,aU 40 1 39,G 41 9,hf 42 41,bj 43 0 42,aU 44 1 43,bB 45 .add 40 44,b0 46 1 37 38,bq 1 46 45] U4 (.seq (X [G 47 9,hf 48 47,bj 49 22 48,aU 50 1 49,bA 51 0] (.block 2 (.loop  (X [bB 52 .lss 51 50] (.seq (a6 52 .skip (.exit 2)) (.seq (.block 3 (X [G 53 51,G 10 53] (X [G 54 9,G 55 10,hf 56 54,bj 57 1 56,(aC 58 (.pe 10 1 (.t 57) (.t 55))),aU 59 1 58,cd 60 59,bA 61 0] (.block 4 (.loop  (X [bB 62 .lss 61 60] (.seq (a6 62 .skip (.exit 4)) (.seq (.block 5 (X [b0 63 4 59 61,bs 64 4 63,(aC 12 (.alloc 248012 [(al 0),(al 0),(al 0),(al 0)])),bq 4 12 64] (X [bj 65 1 12,aU 66 1 65,bm 67 .geq 66 0] (a6 67 (.nX [G 68 5,bj 69 1 12,aU 70 1 69,b0 71 1 68 70,aU 72 1 71,bj 73 3 12,aU 74 1 73,bB 75 .add 72 74,b0 76 1 68 70,bq 1 76 75] KZ) .skip)))) (.ops [bm 77 .add 61 1,G 61 77]))))))))) (.ops [bm 78 .add 51 1,G 51 78]))))))) (X [G 79 9,hf 80 79,bj 81 23 80,aU 82 1 81] (a6 82 (X [G 84 9,G 85 4,(cA 86 O4 84 85),G 83 86,bK 87 0 83,bK 88 1 83,G 13 87,G 14 88] (.seq (X [G 89 14,fx 90 89] (a6 90 (X [eB 2,cO 3 false] .ret) .skip)) (.ops [G 91 6,G 92 8,(aC 93 (.eQ 248093 false [(al 0)] 1 1 [(0,1,(.t 92))])),(aC 94 (.app 248094 [(al 0)] 8 (.t 91) (.t 93))),G 95 7,G 96 13,(aC 97 (.eQ 248097 false [.nil] 1 1 [(0,1,(.t 96))])),(aC 98 (.app 248098 [.nil] 24 (.t 95) (.t 97))),G 6 94,G 7 98]))) .skip)))))) (.ops [bm 99 .add 32 1,G 32 99]))))))))) (.seq (.ghost (.freeze 5) (.ghost (.freeze 6) (.ghost (.freeze 7) (.ops [G 101 0,G 102 5,G 103 6,G 104 7,(KY 105 UK 101 102 103 104),G 100 105,bK 106 0 100,bK 107 1 100,G 15 106,G 16 107])))) (.seq (X [G 108 16,fx 109 108] (a6 109 (X [eB 2,cO 3 false] .ret) .skip)) (X [eB 17] (.seq (X [G 110 5,cd 111 110,bA 112 0] (.block 6 (.ghost (.np 17 248156 4) (.loop  (X [bB 113 .lss 112 111] (.seq (a6 113 .skip (.exit 6)) (.seq (.block 7 (X [G 114 112,b0 115 1 110 112,aU 116 1 115,G 18 114,G 19 116] (X [G 117 19,(eb 118 pt 117),(aC 20 (.alloc 248020 [(al 0),.nil,(al 0),.nil])),bq 4 20 118] (.seq (X [G 119 6,cd 120 119,bA 121 0] (.block 8 (.loop  (X [bB 122 .lss 121 120] (.seq (a6 122 .skip (.exit 8)) (.seq (.block 9 (X [G 123 121,G 21 123] (gb [G 125 7,G 126 21,b0 127 1 125 126,aU 128 1 127,G 129 18,b0 130 4 128 129,bs 131 4 130,G 132 15,G 133 21,b0 134 4 132 133,bs 135 4 134,(cA 136 wX 131 135),G 124 136,bK 137 0 124,bK 138 1 124,(aC 22 (.alloc 248022 [(al 0),.nil,(al 0),.nil])),bq 4 22 137,G 23 138] [[],[],[],[],[],[],[],[],[],[],[],[],[],[],[],[3,6,10],[],[]] (X [bs 140 4 20,bs 141 4 22,(cA 142 tO 140 141),G 139 142,bK 143 0 139,bK 144 1 139,(aC 24 (.alloc 248024 [(al 0),.nil,(al 0),.nil])),bq 4 24 143,G 25 144] (.seq (X [G 145 23,bm 146 .neq 145 0,G 147 146,⟨some 148,some (147,false),.cN (.t 25)⟩,⟨some 149,some (147,false),.bin .neq (.t 148) (.c (al 0))⟩,ey 150 147 149] (a6 150 (X [eB 2,cO 3 false] .ret) .skip)) (.ops [bs 151 4 24,bq 4 20 151])))))) (.ops [bm 152 .add 121 1,G 121 152]))))))) (.ops [G 153 17,bs 154 4 20,(aC 155 (.eQ 248155 false [(al 0),.nil,(al 0),.nil] 4 1 [(0,4,(.t 154))])),(aC 156 (.app 248156 [(al 0),.nil,(al 0),.nil] 64 (.t 153) (.t 155))),G 17 156]))))) (.ops [bm 157 .add 112 1,G 112 157])))))))) (.seq (.ghost (.freeze 17) (.ops [G 158 17,G 2 158,cO 3 true])) .ret)))))))))))
def Qd:bY:=cq 88 2 [.t 4,.t 5] (X [eB 4,cO 5 false] (X [(aC 14 (.call pt [(.c (al 0))])),(aC 15 (.eQ 255015 false [(al 0),.nil,(al 0),.nil] 4 1 [(0,4,(.t 14))])),G 16 1,(aC 17 (.oG 255017 4 Um [(.t 15),(.t 16)])),G 6 17] (X [cO 7 true] (.seq (gb [G 18 0,G 19 0,hf 20 19,bj 21 22 20,aU 22 1 21,hf 23 18,bj 24 1 23,(aC 25 (.pe 10 1 (.t 24) (.t 22))),aU 26 1 25,cd 27 26,bA 28 0] U4 (.block 0 (.loop  (X [bB 29 .lss 28 27] (.seq (a6 29 .skip (.exit 0)) (.seq (.block 1 (X [b0 30 4 26 28,bs 31 4 30,(aC 9 (.alloc 255009 [(al 0),(al 0),(al 0),(al 0)])),bq 4 9 31] (.seq (X [bj 32 1 9,aU 33 1 32,bm 34 .lss 33 0] (a6 34 (.exit 1) .skip)) (gb [bj 36 3 9,aU 37 1 36,G 38 0,G 39 0,hf 40 39,bj 41 22 40,aU 42 1 41,bm 43 .add 42 1,hf 44 38,bj 45 11 44,(aC 46 (.pe 11 1 (.t 45) (.t 43))),aU 47 1 46,G 48 0,G 49 0,hf 50 49,bj 51 22 50,aU 52 1 51,hf 53 48,bj 54 11 53,(aC 55 (.pe 11 1 (.t 54) (.t 52))),aU 56 1 55,bB 57 .sub 47 56,(cA 58 zU 37 57),G 35 58,bK 59 0 35,bK 60 1 35,(aC 10 (.alloc 255010 [(al 0),.nil,(al 0),.nil])),bq 4 10 59,G 11 60] [[],[],[],[],[],[],[],[],[],[],[],[],[],[],[],[],[],[],[],[],[],[],[],[],[],[],[1,6,11,16,20],[],[]] (gb [G 62 6,bj 63 1 9,aU 64 1 63,b0 65 4 62 64,bs 66 4 65,bs 67 4 10,(cA 68 tO 66 67),G 61 68,bK 69 0 61,bK 70 1 61,(aC 12 (.alloc 255012 [(al 0),.nil,(al 0),.nil])),bq 4 12 69,G 13 70] [[],[],[],[],[],[],[],[],[],[],[2,4,5],[],[]] (X [G 71 7,G 72 71,⟨some 73,some (72,true),.cN (.t 11)⟩,⟨some 74,some (72,true),.bin .eql (.t 73) (.c (al 0))⟩,gK 75 72 74,G 76 75,⟨some 77,some (76,true),.cN (.t 13)⟩,⟨some 78,some (76,true),.bin .eql (.t 77) (.c (al 0))⟩,gK 79 76 78,G 7 79] (.ops [G 80 6,bj 81 1 9,aU 82 1 81,bs 83 4 12,b0 84 4 80 82,bq 4 84 83]))))))) (.ops [bm 85 .add 28 1,G 28 85]))))))) (.seq (.ghost (.freeze 6) (.ops [G 86 6,G 87 7,G 4 86,G 5 87])) .ret)))))
def Hm:bY:=cq 94 4 [.t 8,.t 9] (X [eB 8,cO 9 false] (X [eB 10] (.seq (X [G 20 2,cd 21 20,bA 22 0] (.block 0 (.ghost (.np 10 256082 5) (.loop  (X [bB 23 .lss 22 21] (.seq (a6 23 .skip (.exit 0)) (.seq (.block 1 (X [G 24 22,b0 25 1 20 22,aU 26 1 25,G 11 24,G 12 26] (gb [G 27 1,G 28 12,b0 29 1 27 28,aU 30 1 29,G 31 0,G 32 12,b0 33 1 31 32,aU 34 1 33,G 35 0,G 36 12,b0 37 1 35 36,aU 38 1 37,hf 39 38,bj 40 22 39,aU 41 1 40,hf 42 34,bj 43 11 42,(aC 44 (.pe 11 1 (.t 43) (.t 41))),aU 45 1 44,bB 46 .sub 30 45,(eb 47 pt 46),(aC 48 (.build [.nil,(al 0),.nil,(al 0),.nil] [(1,4,(.t 47))])),(aC 13 (.alloc 256013 [.nil,(al 0),.nil,(al 0),.nil])),bq 5 13 48] [[],[],[],[],[],[],[],[],[],[],[],[],[],[],[],[],[],[],[],[],[],[],[3,7,11,14,18],[]] (.seq (.seq (.ghost (.NY (.t 13) 0 256076 4) (.ops [G 49 2,cd 50 49,bA 51 0])) (.block 2 (.loop  (X [bB 52 .lss 51 50] (.seq (a6 52 .skip (.exit 2)) (.seq (.block 3 (X [G 53 51,G 14 53] (X [bA 15 0] (.seq (X [G 54 14,G 55 11,bB 56 .eql 54 55] (a6 56 (.ops [bA 15 1]) .skip)) (gb [G 58 15,(eb 59 pt 58),G 60 3,G 61 14,b0 62 1 60 61,aU 63 1 62,G 64 12,b0 65 4 63 64,bs 66 4 65,(cA 67 yv 59 66),G 57 67,bK 68 0 57,bK 69 1 57,(aC 16 (.alloc 256016 [(al 0),.nil,(al 0),.nil])),bq 4 16 68,G 17 69] [[],[],[],[],[],[],[],[],[],[],[],[],[],[5,8],[],[]] (.seq (X [G 70 17,bm 71 .neq 70 0] (a6 71 (X [eB 8,cO 9 false] .ret) .skip)) (.ops [bj 72 0 13,aU 73 1 72,bs 74 4 16,(aC 75 (.eQ 256075 false [(al 0),.nil,(al 0),.nil] 4 1 [(0,4,(.t 74))])),(aC 76 (.app 256076 [(al 0),.nil,(al 0),.nil] 64 (.t 73) (.t 75))),bj 77 0 13,bq 1 77 76]))))))) (.ops [bm 78 .add 51 1,G 51 78]))))))) (.ghost (.NZ (.t 13) 0) (.ops [G 79 10,bs 80 5 13,(aC 81 (.eQ 256081 false [.nil,(al 0),.nil,(al 0),.nil] 5 1 [(0,5,(.t 80))])),(aC 82 (.app 256082 [.nil,(al 0),.nil,(al 0),.nil] 88 (.t 79) (.t 81))),G 10 82])))))) (.ops [bm 83 .add 22 1,G 22 83])))))))) (.seq (.ghost (.freeze 10) (.ops [G 85 10,G 86 2,cd 87 86,(cA 88 Uj 85 87),G 84 88,bK 89 0 84,bK 90 1 84,G 18 89,G 19 90])) (X [G 91 18,G 92 19,bm 93 .eql 92 0,G 8 91,G 9 93] .ret)))))
def Xh:bY:=cq 36 3 [.t 6] (X [dX 5 286005 2,bA 6 0] (X [G 10 0,G 11 1,bs 12 3 5,(aC 13 (.build [.nil,.nil,.nil,.nil,.nil] [(0,1,(.t 10)),(1,1,(.t 11)),(2,3,(.t 12))])),(aC 7 (.alloc 286007 [.nil,.nil,.nil,.nil,.nil])),bq 5 7 13] (.seq (X [bs 14 5 7,(eb 15 KU 14),fx 16 15] (a6 16 (X [bA 6 1] .ret) .skip)) (.seq (X [G 17 0,cd 18 17,bA 19 0] (.block 0 (.loop  (X [bB 20 .lss 19 18] (.seq (a6 20 .skip (.exit 0)) (.seq (.block 1 (X [G 21 19,G 8 21] (X [bs 22 5 7,G 23 8,(cA 24 UL 22 23),G 9 24] (X [G 25 9,bm 26 .neq 25 0] (a6 26 (X [G 27 9,G 6 27] .ret) .skip))))) (.ops [bm 28 .add 19 1,G 19 28]))))))) (.seq (X [bs 29 5 7,(eb 30 UM 29),fx 31 30,G 32 31,⟨some 33,some (32,false),.load 5 true (.t 7)⟩,⟨some 34,some (32,false),.call UN [(.t 33)]⟩,ey 35 32 34] (a6 35 (X [bA 6 24] .ret) .skip)) (X [bA 6 0] .ret))))))
def Xi:bY:=cq 61 1 [.t 2] (X [dX 1 287001 0,cO 2 false] (X [bj 7 0 1,aU 8 1 7,cd 9 8,(aC 3 (.alloc 287003 [(al 0)])),bq 1 3 9] (X [(aC 4 (.alloc 287004 [(.J .u4)])),⟨none,none,.store 1 (.t 4) (.c (.fz ny []))⟩] (X [(aC 10 (.pL yw [(.t 3),(.t 4)])),G 5 10] (X [(aC 6 (.cN (.c (.fz w0 []))))] (.seq (X [aU 11 1 3,bm 12 .gtr 11 60,G 13 12,⟨some 14,some (13,false),.eu 1 (.t 1)⟩,⟨some 15,some (13,false),.load 1 false (.t 14)⟩,⟨some 16,some (13,false),.len (.t 15)⟩,⟨some 17,some (13,false),.bin .gtr (.t 16) (.c (al 2000))⟩,ey 18 13 17,G 19 18,⟨some 20,some (19,false),.eu 2 (.t 1)⟩,⟨some 21,some (19,false),.eu 0 (.t 20)⟩,⟨some 22,some (19,false),.load 1 false (.t 21)⟩,⟨some 23,some (19,false),.len (.t 22)⟩,⟨some 24,some (19,false),.load 1 false (.t 3)⟩,⟨some 25,some (19,false),.bin .neq (.t 23) (.t 24)⟩,ey 26 19 25,G 27 26,⟨some 28,some (27,false),.eu 2 (.t 1)⟩,⟨some 29,some (27,false),.eu 1 (.t 28)⟩,⟨some 30,some (27,false),.load 1 false (.t 29)⟩,⟨some 31,some (27,false),.len (.t 30)⟩,⟨some 32,some (27,false),.eu 1 (.t 1)⟩,⟨some 33,some (27,false),.load 1 false (.t 32)⟩,⟨some 34,some (27,false),.len (.t 33)⟩,⟨some 35,some (27,false),.bin .neq (.t 31) (.t 34)⟩,ey 36 27 35] (a6 36 (X [cO 2 false] .ret) .skip)) (X [bj 37 0 1,aU 38 1 37,aU 39 1 4,(cA 40 UO 38 39),G 41 40,⟨some 42,some (41,true),.eu 1 (.t 1)⟩,⟨some 43,some (41,true),.load 1 false (.t 42)⟩,⟨some 44,some (41,true),.cN (.t 5)⟩,⟨some 45,some (41,true),.call UP [(.t 43),(.t 44)]⟩,gK 46 41 45,G 47 46,⟨some 48,some (47,true),.eu 2 (.t 1)⟩,⟨some 49,some (47,true),.eu 0 (.t 48)⟩,⟨some 50,some (47,true),.load 1 false (.t 49)⟩,⟨some 51,some (47,true),.cN (.t 6)⟩,⟨some 52,some (47,true),.call O5 [(.t 50),(.t 51)]⟩,gK 53 47 52,G 54 53,⟨some 55,some (54,true),.eu 2 (.t 1)⟩,⟨some 56,some (54,true),.eu 1 (.t 55)⟩,⟨some 57,some (54,true),.load 1 false (.t 56)⟩,⟨some 58,some (54,true),.cN (.t 6)⟩,⟨some 59,some (54,true),.call O5 [(.t 57),(.t 58)]⟩,gK 60 54 59,G 2 60] .ret)))))))
def Xj:bY:=cq 80 2 [.t 4] (X [dX 2 288002 0,bA 4 0] (X [bj 16 0 2,aU 17 1 16,G 18 1,b0 19 1 17 18,aU 20 1 19,(aC 21 (.call zU [(.t 20),(.c (al 1))])),G 15 21,bK 22 0 15,bK 23 1 15,(aC 5 (.alloc 288005 [(al 0),.nil,(al 0),.nil])),bq 4 5 22,G 6 23] (.seq (X [bj 24 1 2,aU 25 1 24,cd 26 25,bA 27 0] (.block 0 (.loop  (X [bB 28 .lss 27 26] (.seq (a6 28 .skip (.exit 0)) (.seq (.block 1 (X [G 29 27,b0 30 4 25 27,bs 31 4 30,(aC 8 (.alloc 288008 [(al 0),(al 0),(al 0),(al 0)])),G 7 29,bq 4 8 31] (.seq (X [bj 32 1 8,aU 33 1 32,G 34 1,bB 35 .neq 33 34] (a6 35 (.exit 1) .skip)) (gb [bs 37 4 5,bj 38 2 2,bj 39 1 38,aU 40 1 39,G 41 7,b0 42 4 40 41,bs 43 4 42,(cA 44 tO 37 43),G 36 44,bK 45 0 36,bK 46 1 36,(aC 9 (.alloc 288009 [(al 0),.nil,(al 0),.nil])),bq 4 9 45,G 10 46] [[],[],[],[],[],[],[],[],[],[],[],[0,3,6],[],[]] (.seq (X [G 47 10,bm 48 .neq 47 0] (a6 48 (X [G 49 10,G 4 49] .ret) .skip)) (.ops [bs 50 4 9,bq 4 5 50])))))) (.ops [bm 51 .add 27 1,G 27 51]))))))) (.seq (gb [bs 52 4 5,bj 53 2 2,bj 54 0 53,aU 55 1 54,G 56 1,b0 57 4 55 56,bs 58 4 57,(cA 59 oU 52 58),bm 60 .neq 59 0] D3 (a6 60 (X [bA 4 24] .ret) .skip)) (X [bs 62 5 2,G 63 1,(cA 64 KV 62 63),G 61 64,bK 65 0 61,bK 66 1 61,G 11 65,G 12 66] (X [bs 68 4 5,G 69 11,(cA 70 KS 68 69),G 67 70,bK 71 0 67,bK 72 1 67,G 13 71,G 14 72] (.seq (X [G 73 14,bm 74 .neq 73 0] (a6 74 (X [G 75 14,G 4 75] .ret) .skip)) (.seq (X [G 76 12,G 77 13,(cA 78 UQ 76 77),fx 79 78] (a6 79 (X [bA 4 24] .ret) .skip)) (X [bA 4 0] .ret)))))))))
def Xk:bY:=cq 49 1 [.t 2] (X [dX 1 289001 0,cO 2 false] (X [eB 3] (.seq (X [bj 8 2 1,bj 9 2 8,aU 10 1 9,cd 11 10,bA 12 0] (.block 0 (.ghost (.np 3 289040 1) (.loop  (X [bB 13 .lss 12 11] (.seq (a6 13 .skip (.exit 0)) (.seq (.block 1 (X [b0 14 1 10 12,aU 15 1 14,G 5 15] (.seq (X [G 16 5,cd 17 16,bA 18 0] (.block 2 (.loop  (X [bB 19 .lss 18 17] (.seq (a6 19 .skip (.exit 2)) (.seq (.block 3 (X [G 20 18,b0 21 1 16 18,aU 22 1 21,G 6 20,G 7 22] (X [G 23 6,bm 24 .gtr 23 0,G 25 24,⟨some 26,some (25,true),.cN (.t 7)⟩,⟨some 27,some (25,true),.cN (.t 5)⟩,⟨some 28,some (25,true),.cN (.t 6)⟩,⟨some 29,some (25,true),.bin .sub (.t 28) (.c (al 1))⟩,⟨some 30,some (25,true),.nn 1 (.t 27) (.t 29)⟩,⟨some 31,some (25,true),.load 1 false (.t 30)⟩,⟨some 32,some (25,true),.bin .leq (.t 26) (.t 31)⟩,gK 33 25 32] (a6 33 (X [cO 2 false] .ret) .skip)))) (.ops [bm 34 .add 18 1,G 18 34]))))))) (.seq (X [G 35 5,cd 36 35,bm 37 .eql 36 0] (a6 37 (X [cO 2 false] .ret) .skip)) (.ops [G 38 3,G 39 5,(aC 40 (.app 289040 [(al 0)] 8 (.t 38) (.t 39))),G 3 40]))))) (.ops [bm 41 .add 12 1,G 12 41])))))))) (X [G 42 3,(eb 43 UR 42)] (gb [G 44 3,(aC 45 (.sq 0 UT [(.t 44)])),bs 46 5 1,(eb 47 DW 46),(cA 48 US 45 47),G 2 48] [[],[],[1],[],[],[]] .ret)))))
def Xl:bY:=cq 21 1 [.t 2] (X [dX 1 290001 0,cO 2 false] (X [bs 5 5 1,(aC 6 (.oG 290006 1 DW [(.t 5)])),G 3 6] (.seq (X [bj 7 0 1,aU 8 1 7,cd 9 8,bA 10 0] (.block 0 (.loop  (X [bB 11 .lss 10 9] (.seq (a6 11 .skip (.exit 0)) (.seq (.block 1 (X [G 12 3,(eb 13 vt 12),(aC 4 (.alloc 290004 [.nil])),bq 1 4 13] (.ops [G 14 3,(aC 15 (.pL tR [(.t 1),(.t 4)])),(cA 16 UU 14 15),G 3 16]))) (.ops [bm 17 .add 10 1,G 10 17]))))))) (X [G 18 3,cd 19 18,bm 20 .gtr 19 0,G 2 20] .ret))))
def Xm:bY:=cq 5 1 [.t 2] (X [cO 2 false] (X [G 3 0,(aC 4 (.call DV [(.t 3),(.c (al 0)),(.c (al 1000000000000000))])),G 2 4] .ret))
def Xn:bY:=cq 15 3 [.t 6] (X [cO 6 false] (X [G 7 1,G 8 0,bB 9 .leq 7 8,G 10 9,⟨some 11,some (10,true),.cN (.t 0)⟩,⟨some 12,some (10,true),.cN (.t 2)⟩,⟨some 13,some (10,true),.bin .leq (.t 11) (.t 12)⟩,gK 14 10 13,G 6 14] .ret))
def Xo:bY:=cq 28 3 [.t 4] (X [dX 3 293003 0,cO 4 false] (X [bj 5 0 3,aU 6 1 5,aU 7 1 1,bm 8 .sub 7 1,(aC 9 (.call DV [(.t 6),(.c (al 0)),(.t 8)])),G 10 9,⟨some 11,some (10,true),.eu 1 (.t 3)⟩,⟨some 12,some (10,true),.load 1 false (.t 11)⟩,⟨some 13,some (10,true),.load 1 false (.t 1)⟩,⟨some 14,some (10,true),.bin .sub (.t 13) (.c (al 1))⟩,⟨some 15,some (10,true),.call DV [(.t 12),(.c (.J (.int .i64 (-1)))),(.t 14)]⟩,gK 16 10 15,G 17 16,⟨some 18,some (17,true),.eu 2 (.t 3)⟩,⟨some 19,some (17,true),.load 1 false (.t 18)⟩,⟨some 20,some (17,true),.call DV [(.t 19),(.c (al 0)),(.c (al 9))]⟩,gK 21 17 20,G 22 21,⟨some 23,some (22,true),.load 1 false (.t 2)⟩,⟨some 24,some (22,true),.eu 3 (.t 3)⟩,⟨some 25,some (22,true),.load 1 false (.t 24)⟩,⟨some 26,some (22,true),.jH (.t 23) [(.t 25)]⟩,gK 27 22 26,G 4 27] .ret))
def Xp:bY:=cq 11 1 [.t 2] (X [dX 1 294001 0,cO 2 false] (X [bs 3 4 1,(eb 4 lZ 3),G 5 4,⟨some 6,some (5,true),.eu 0 (.t 1)⟩,⟨some 7,some (5,true),.eu 0 (.t 6)⟩,⟨some 8,some (5,true),.load 1 false (.t 7)⟩,⟨some 9,some (5,true),.bin .geq (.t 8) (.c (al 0))⟩,gK 10 5 9,G 2 10] .ret))
def Xq:bY:=cq 9 2 [.t 4] (X [dX 3 295003 1,cO 4 false] (X [G 5 0,(aC 6 (.pL BQ [(.t 3)])),(cA 7 KR 5 6),fx 8 7,G 4 8] .ret))
def Xr:bY:=cq 9 2 [.t 4] (X [dX 3 296003 1,cO 4 false] (X [G 5 0,(aC 6 (.pL DX [(.t 3)])),(cA 7 DU 5 6),fx 8 7,G 4 8] .ret))
def Xs:bY:=cq 9 2 [.t 4] (X [dX 3 297003 1,cO 4 false] (X [G 5 0,(aC 6 (.pL vy [(.t 3)])),(cA 7 KF 5 6),fx 8 7,G 4 8] .ret))
def Xt:bY:=cq 38 2 [.t 4,.t 5] (X [dX 2 298002 0,eB 4,eB 5] (X [eB 6] (X [eB 7] (.seq (X [bj 10 1 2,aU 11 1 10,cd 12 11,bA 13 0] (.block 0 (.ghost (.np 6 298025 4) (.ghost (.np 7 298034 4) (.loop  (X [bB 14 .lss 13 12] (.seq (a6 14 .skip (.exit 0)) (.seq (.block 1 (X [G 15 13,b0 16 4 11 13,bs 17 4 16,(aC 9 (.alloc 298009 [(al 0),(al 0),(al 0),(al 0)])),G 8 15,bq 4 9 17] (X [bj 18 0 9,aU 19 1 18,G 20 1,bB 21 .eql 19 20] (a6 21 (.nX [G 22 6,bs 23 4 9,(aC 24 (.eQ 298024 false [(al 0),(al 0),(al 0),(al 0)] 4 1 [(0,4,(.t 23))])),(aC 25 (.app 298025 [(al 0),(al 0),(al 0),(al 0)] 32 (.t 22) (.t 24))),G 26 7,bj 27 2 2,bj 28 1 27,aU 29 1 28,G 30 8,b0 31 4 29 30,bs 32 4 31,(aC 33 (.eQ 298033 false [(al 0),.nil,(al 0),.nil] 4 1 [(0,4,(.t 32))])),(aC 34 (.app 298034 [(al 0),.nil,(al 0),.nil] 64 (.t 26) (.t 33))),G 6 25,G 7 34] [[],[],[],[],[],[],[],[3],[],[],[3],[],[],[],[]]) .skip)))) (.ops [bm 35 .add 13 1,G 13 35]))))))))) (.seq (.ghost (.freeze 6) (.ghost (.freeze 7) (.ops [G 36 6,G 37 7,G 4 36,G 5 37]))) .ret)))))
def Xu:bY:=cq 8 2 [.t 4] (X [cO 4 false] (X [G 5 0,G 6 1,(aC 7 (.call UH [(.t 5),(.t 6),(.c (.fz w2 []))])),G 4 7] .ret))
def Xv:bY:=cq 26 1 [.t 2] (X [dX 1 303001 0,eB 2] (X [eB 3] (.seq (X [bj 7 0 1,aU 8 1 7,cd 9 8,bA 10 0] (.block 0 (.ghost (.np 3 303023 1) (.loop  (X [bB 11 .lss 10 9] (.seq (a6 11 .skip (.exit 0)) (.seq (.block 1 (X [G 12 10,G 4 12] (X [bs 14 5 1,G 15 4,(cA 16 KW 14 15),G 13 16,bK 17 0 13,bK 18 1 13,G 5 17,G 6 18] (X [G 19 6] (a6 19 (.ops [G 20 3,G 21 4,(aC 22 (.eQ 303022 false [(al 0)] 1 1 [(0,1,(.t 21))])),(aC 23 (.app 303023 [(al 0)] 8 (.t 20) (.t 22))),G 3 23]) .skip))))) (.ops [bm 24 .add 10 1,G 10 24])))))))) (X [G 25 3,G 2 25] .ret))))
def Xw:bY:=cq 9 3 [.t 4] (X [cO 4 false] (X [bs 5 5 1,G 6 0,aU 7 1 2,(D0 8 UW 5 6 7),G 4 8] .ret))
def Xx:bY:=cq 19 3 [.t 6] (X [dX 3 306003 0,dX 4 306004 1,dX 5 306005 2,cO 6 false] (X [bs 10 5 3,aU 11 1 4,(cA 12 KW 10 11),G 9 12,bK 13 0 9,bK 14 1 9,(aC 7 (.alloc 306007 [(al 0)])),bq 1 7 13,G 8 14] (X [bj 15 1 3,aU 16 1 15,(aC 17 (.pL DY [(.t 4),(.t 7),(.t 5)])),(cA 18 DU 16 17),G 6 18] .ret)))
def Xy:bY:=cq 8 2 [.t 3] (X [cO 3 false] (X [aU 4 1 1,G 5 0,(aC 6 (.jH (.t 4) [(.t 5)])),fx 7 6,G 3 7] .ret))
def Xz:bY:=cq 8 2 [.t 3] (X [dX 2 308002 0,cO 3 false] (X [aU 4 1 1,bs 5 4 2,(aC 6 (.jH (.t 4) [(.t 5)])),fx 7 6,G 3 7] .ret))
def XA:bY:=cq 8 2 [.t 3] (X [dX 2 309002 0,cO 3 false] (X [aU 4 1 1,bs 5 4 2,(aC 6 (.jH (.t 4) [(.t 5)])),fx 7 6,G 3 7] .ret))
def XB:bY:=cq 9 2 [.t 4] (X [dX 2 310002 0,dX 3 310003 1,cO 4 false] (X [bs 5 4 2,bs 6 4 3,(cA 7 oU 5 6),bm 8 .eql 7 0,G 4 8] .ret))
def XC:bY:=cq 14 2 [.t 4,.t 5] (X [dX 2 313002 0,bA 4 0,cO 5 false] (X [bs 6 5 2,G 7 1,(cA 8 KV 6 7),bK 9 0 8,bK 10 1 8,(cA 11 UD 9 10),bK 12 0 11,bK 13 1 11,G 4 12,G 5 13] .ret))
def XD:bY:=cq 28 4 [.t 5] (X [dX 4 314004 0,cO 5 false] (X [bj 6 0 4,aU 7 1 6,aU 8 1 1,bB 9 .eql 7 8,G 10 9,⟨some 11,some (10,true),.eu 2 (.t 4)⟩,⟨some 12,some (10,true),.load 1 false (.t 11)⟩,⟨some 13,some (10,true),.load 1 false (.t 2)⟩,⟨some 14,some (10,true),.bin .eql (.t 12) (.t 13)⟩,gK 15 10 14,G 16 15,⟨some 17,some (16,true),.eu 3 (.t 4)⟩,⟨some 18,some (16,true),.load 1 false (.t 17)⟩,⟨some 19,some (16,true),.bin .gtr (.t 18) (.c (al 0))⟩,gK 20 16 19,G 21 20,⟨some 22,some (21,true),.load 1 false (.t 3)⟩,⟨some 23,some (21,true),.eu 1 (.t 4)⟩,⟨some 24,some (21,true),.load 1 false (.t 23)⟩,⟨some 25,some (21,true),.call UX [(.t 22),(.t 24)]⟩,⟨some 26,some (21,true),.un .not (.t 25)⟩,gK 27 21 26,G 5 27] .ret))
def XE:bY:=cq 17 3 [.t 6] (X [dX 5 372005 2,eB 6] (X [G 8 0,G 9 1,bs 10 3 5,(aC 11 (.build [.nil,.nil,.nil,.nil,.nil] [(0,1,(.t 8)),(1,1,(.t 9)),(2,3,(.t 10))])),(aC 7 (.alloc 372007 [.nil,.nil,.nil,.nil,.nil])),bq 5 7 11] (.seq (X [bs 12 5 7,(eb 13 KU 12),fx 14 13] (a6 14 (X [eB 6] .ret) .skip)) (X [bs 15 5 7,(eb 16 DW 15),G 6 16] .ret))))
abbrev e0:=List bg×bg
def iX (r:e0):List Data:=.Y (r.1.map aE)::aE r.2
theorem kO (f:bg):(aE f).length=4:=rfl
theorem XF (r:e0):(iX r).length=5:=rfl
theorem As (f:bg):((aE f).map R.J).all R.one=true:=rfl
theorem nd:∀a b:bg,aE a=aE b->a=b:=by
 rintro⟨⟨s,l⟩,⟨s2,aq⟩⟩ ⟨⟨t,m⟩,⟨t2,cX⟩⟩ h;simp only[aE,bf,Data.int.injEq,Data.Y.injEq,true_and,and_true] at h;obtain⟨rfl,F,rfl,I⟩:=h;rw[map_inj fh _ _ F,map_inj fh _ _ I]
theorem XG:∀a b:e0,iX a=iX b->a=b:=by
 rintro⟨a,b⟩ ⟨c,d⟩ h;simp only[iX,bf,Data.Y.injEq] at h;rw[map_inj nd _ _ h.1,nd _ _ h.2]
def okF (f:bg):Prop:=f.1.2.length<=1000000/\f.2.2.length<=1000000
def fN (l:List bg):Prop:=D l<=1000000/\∀f∈l,okF f
def yS (r:e0):Prop:=fN r.1/\okF r.2
def rN (rs:List e0):Prop:=D rs<=1000000/\∀r∈rs,yS r
def Qe:=cu Er λ(s,l,s2,aq)=>cU (D l<=1000000/\D aq<=1000000) (.same (.bool (!ek ((s,l),(s2,aq)))))
@[go_sem] theorem atK (s:Int)(l:List Int)(s2:Int)(aq:List Int)(H:(D l)<=1000000/\D aq<=1000000):Qe [.agg [.int .i64 s,.Y (l.map ae),.int .i64 s2,.Y (aq.map ae)]]=some (.same (.bool (!ek ((s,l),(s2,aq))))):=(cD Lv (s,l,s2,aq)).trans (cZ H _)
theorem atL (T:bl)(fF:T lZ=aW vL)(s:Int)(l:List Int)(s2:Int)(aq:List Int)(H:(D l)<=1000000/\D aq<=1000000):WP T W8 (.same (.bool (!ek ((s,l),(s2,aq))))) [.J (.agg [.int .i64 s,.Y (l.map ae),.int .i64 s2,.Y (aq.map ae)])]:=by
 refine cE ?_;simp only[W8];obtain⟨cr,cf⟩:=H;refine aZ ?_;repeat' (intro h<;>simp only[h,go_sem,go_sem_proc,fF,cr,cf]<;>try refine ax ?_ ?_)
def agp:=cu Er λ(s,l,s2,aq)=>cU (D l<=1000000/\D aq<=1000000) (.same (.bool (!ek ((s,l),(s2,aq))||decide (s<0))))
@[go_sem] theorem atM (s:Int)(l:List Int)(s2:Int)(aq:List Int)(H:(D l)<=1000000/\D aq<=1000000):agp [.agg [.int .i64 s,.Y (l.map ae),.int .i64 s2,.Y (aq.map ae)]]=some (.same (.bool (!ek ((s,l),(s2,aq))||decide (s<0)))):=(cD Lv (s,l,s2,aq)).trans (cZ H _)
def XH:=cu Er λ(s,l,s2,aq)=>cU (D l<=1000000/\D aq<=1000000) (.same (.bool (ek ((s,l),(s2,aq))&&decide (s>=0))))
@[go_sem] theorem aKv (s:Int)(l:List Int)(s2:Int)(aq:List Int)(H:(D l)<=1000000/\D aq<=1000000):XH [.agg [.int .i64 s,.Y (l.map ae),.int .i64 s2,.Y (aq.map ae)]]=some (.same (.bool (ek ((s,l),(s2,aq))&&decide (s>=0)))):=(cD Lv (s,l,s2,aq)).trans (cZ H _)
theorem atN (T:bl)(fF:T lZ=aW vL)(s:Int)(l:List Int)(s2:Int)(aq:List Int)(H:(D l)<=1000000/\D aq<=1000000):WP T Xp (.same (.bool (ek ((s,l),(s2,aq))&&decide (s>=0)))) [.J (.agg [.int .i64 s,.Y (l.map ae),.int .i64 s2,.Y (aq.map ae)])]:=by
 refine cE ?_;simp only[Xp];obtain⟨cr,cf⟩:=H;rcases ab:ek ((s,l),(s2,aq))
 ·refine aZ ?_;repeat' (intro h<;>simp only[h,go_sem,go_sem_proc,fF,cr,cf,ab]<;>try refine ax ?_ ?_)
 ·refine aZ ?_;repeat' (intro h<;>simp only[h,go_sem,go_sem_proc,fF,cr,cf,ab]<;>try refine ax ?_ ?_)
abbrev XI:Int×(List Int)×Int×(List Int)->List Data:=λ(s,l,s2,aq)=>[.agg [.int .i64 s,.Y (l.map ae),.int .i64 s2,.Y (aq.map ae)],.ptr [.fn w0 []]]
def XJ:=cu XI λ(s,l,s2,aq)=>cU (D l<=1000000/\D aq<=1000000) (.same (.bool (!(ek ((s,l),(s2,aq))&&decide (s>=0)))))
theorem atO:∀a b,XI a=XI b->a=b:=by
  rintro⟨s1,eh,Cc,Cd⟩ ⟨s2,aq,Ce,Cf⟩ h;simp only[bf,Data.agg.injEq,Data.int.injEq,Data.Y.injEq] at h;exact dR h.1.1.2 (dR (map_inj fh _ _ h.1.2.1) (dR h.1.2.2.1.2 (map_inj fh _ _ h.1.2.2.2.1)))
@[go_sem] theorem atP (s:Int)(l:List Int)(s2:Int)(aq:List Int)(H:(D l)<=1000000/\D aq<=1000000):XJ [.agg [.int .i64 s,.Y (l.map ae),.int .i64 s2,.Y (aq.map ae)],.ptr [.fn w0 []]]=some (.same (.bool (!(ek ((s,l),(s2,aq))&&decide (s>=0))))):=(cD atO (s,l,s2,aq)).trans (cZ H _)
theorem atQ (T:bl)(atS:T w0=aW XH)(s:Int)(l:List Int)(s2:Int)(aq:List Int)(H:(D l)<=1000000/\D aq<=1000000):WP T XA (.same (.bool (!(ek ((s,l),(s2,aq))&&decide (s>=0))))) [.J (.agg [.int .i64 s,.Y (l.map ae),.int .i64 s2,.Y (aq.map ae)]),.J (.ptr [.fn w0 []])]:=by
 refine cE ?_;simp only[XA];obtain⟨cr,cf⟩:=H;refine aZ ?_;repeat' (intro h<;>simp only[h,go_sem,go_sem_proc,atS,cr,cf]<;>try refine ax ?_ ?_)
def kP {α:Type}(p:α->Bool)(l:List α):Int:=match l.findIdx? p with
 |some i=>i
 |none => -1
theorem LH {α:Type}{p:α->Bool}{l:List α}{i:Nat}(h:∀x∈l.take i,p x=false){x:α}(O:l[i]?=some x)(aG:p x=true):kP p l=i:=by
 unfold kP
 have:l.findIdx? p=some i:=by
  rw[agq];obtain⟨aA,rfl⟩:=List.getElem?_eq_some_iff.1 O;refine⟨aA,aG,λj ai=>?_⟩;have:=h l[j] (List.mem_iff_getElem?.2 ⟨j,by rw[List.getElem?_take_of_lt ai];exact bz _⟩);rw[this];decide
 rw[this]
theorem Qf {α:Type}{p:α->Bool}{l:List α}(h:∀x∈l,p x=false):kP p l = -1:=by
 unfold kP;rw[agr.2 h]
theorem LI {α:Type}(p:α->Bool)(l:List α):decide (kP p l>=0)=l.any p:=by
 unfold kP
 cases h:l.findIdx? p with
 |none =>
  have:=agr.1 h;have I:l.any p=false:=by rw[List.any_eq_false];intro x O;simp[this x O]
  rw[I];rfl
 |some i =>
  rw[agq] at h;obtain⟨F,I,-⟩:=h;have af:l.any p=true:=List.any_eq_true.2 ⟨_,ph F,I⟩;rw[af];exact kf (by simp)
def Hn (f:bg):Bool:=!ek f
def p2 (f:FuncId):bg->Bool:=if f=zV then λx => !ek x||decide (x.1.1<0) else if f=vy then λx => !(ek x&&decide (x.1.1>=0)) else Hn
def Ho (f:FuncId):List Data:=if f=vy then [.ptr [.fn w0 []]] else []
@[go_sem] theorem atT:p2 oT=Hn:=by
 unfold p2;rw[ah (by decide),ah (by decide)]
@[go_sem] theorem ags:p2 zV=λx => !ek x||decide (x.1.1<0):=by
 unfold p2;rw[ad rfl]
theorem agt:p2 vy=λx => !(ek x&&decide (x.1.1>=0)):=by
 unfold p2;rw[ah (by decide),ad rfl]
theorem Qg {α:Type}{p:α->Bool}{l:List α}{i:Nat}(h:∀x∈l.take i,p x=false){x:α}(O:l[i]?=some x)(aG:p x=false):∀y∈l.take (i+1),p y=false:=by
 intro y aw;rw[List.take_add_one,O] at aw;simp only[Option.toList_some,List.mem_append,ub] at aw;rcases aw with aw|rfl
 ·exact h y aw
 ·exact aG
theorem qT {T:bl}{c:eC}{K:e3->bd->Prop}{st:bd}(h:wp T c K st):wp T c (cK T K []) st:=by
 have:cK T K []=K:=by funext e st;cases e<;>rfl
 rwa [this]
theorem XK (T:bl)(id:FuncId)(eT:List Data)(aP:List Data->Option eR)(cC:T id=aW aP)(p:bg->Bool)(l:List bg)(ar:fN l)(e8:∀a b c d,D b<=1000000->(D d)<=1000000->aP (.agg [.int .i64 a,.Y (b.map ae),.int .i64 c,.Y (d.map ae)]::eT)=some (.same (.bool (p ((a,b),(c,d)))))):
  wp T GI.body (zM GI.res (.same (.int .i64 (kP p l)))) ⟨lv [.J (.Y (l.map aE)),.J (.fn id eT)],emp⟩:=by
 obtain⟨ar,cW⟩:=ar;refine tw ?_;simp only[GI];simp only[go_sem,go_sem_proc,aj];refine dw [0,1,7] [] (λ(i:Nat) tm mem=>i<=D l/\(∀x∈l.take i,p x=false)/\tm 8=.J (.int .i64 i)) (λi=>D l-i) 0 (by refine⟨fk _,by simp,rfl⟩) ?_;intro vs ms aT aS;simp only[go_sem,go_sem_proc,aj] at aT aS;subst aT aS;rintro i tm mem Q hm ⟨M,e4,cb⟩;simp only[go_sem,go_sem_proc,bf] at Q hm;obtain⟨ao,F,bN⟩:=Q;have iH:∀m:Mem,(eT.map R.J).mapM (cl 6 m)=some eT:=λm=>tK (cl 6 m) (λd=>rfl) eT;rcases dF (i<D l) with aA|b7
 ·have O:=bz aA;obtain⟨oR,ue⟩:=cW _ (ph aA);have cj:=λh=>LH (p:=p) e4 O h;have hN:=λh=>Qg (p:=p) e4 O h;generalize l[i]=x at *;obtain⟨⟨a2,bS⟩,⟨cP,dJ⟩⟩:=x;have mT:=e8 a2 bS cP dJ oR ue;have hp:decide ((i:Int)<(D l:Int))=true:=dp;have hw:=e9 (i:=i) (by omega);rcases ag:p ((a2,bS),(cP,dJ))
  ·rw[ag] at mT;simp only[go_sem,go_sem_proc,cC,ao,F,bN,cb,O,hp,hw,mT,iH,aE,aj,bn,ir];repeat' (first|refine ax ?_ ?_|fail)<;>intro h<;>simp only[h,go_sem,go_sem_proc,cC,ao,F,bN,cb,O,hp,hw,mT,iH,aE,aj,bn,ir]
   exact⟨i+1,by omega,by omega,hN ag,rfl⟩
  ·rw[ag] at mT;rw[cj ag];simp only[go_sem,go_sem_proc,cC,ao,F,bN,cb,O,hp,hw,mT,iH,aE,aj,bn,ir];repeat' (first|refine ax ?_ ?_|fail)<;>intro h<;>simp only[h,go_sem,go_sem_proc,cC,ao,F,bN,cb,O,hp,hw,mT,iH,aE,aj,bn,ir]
 ·have hp:decide ((i:Int)<(D l:Int))=false:=dn;obtain rfl:i=D l:=by omega
  rw[kN] at e4;rw[Qf e4];simp only[go_sem,go_sem_proc,ao,F,bN,cb,hp,aj];repeat' (first|refine ax ?_ ?_|fail)<;>intro h<;>simp only[h,go_sem,go_sem_proc,ao,F,bN,cb,hp,aj]
def Hp (f:FuncId):Prop:=f=oT\/(f=zV/\zV<900000)\/(f=vy/\vy<900000)
abbrev Qh:(List bg)×FuncId->List Data:=λ(l,f)=>[.Y (l.map aE),.fn f (Ho f)]
def XL:=cu Qh λ(l,f)=>cU (fN l/\Hp f) (.same (.int .i64 (kP (p2 f) l)))
theorem agu:∀a b,Qh a=Qh b->a=b:=by
  rintro⟨eh,f1⟩ ⟨aq,f2⟩ h;simp only[bf,Data.Y.injEq,Data.fn.injEq] at h;exact dR (map_inj nd _ _ h.1) h.2.1.1
@[go_sem] theorem aKw (l:List bg)(f:FuncId)(H:fN l/\Hp f):XL [.Y (l.map aE),.fn f (Ho f)]=some (.same (.int .i64 (kP (p2 f) l))):=(cD agu (l,f)).trans (cZ H _)
theorem atU (T:bl)(LJ:T oT=aW Qe)(atV:zV<900000->T zV=aW agp)(atW:vy<900000->T vy=aW XJ)(l:List bg)(f:FuncId)(H:fN l/\Hp f):WP T GI (.same (.int .i64 (kP (p2 f) l))) [.J (.Y (l.map aE)),.J (.fn f (Ho f))]:=by
 refine cE ?_;simp only[GI];obtain⟨ar,aH⟩:=H;rcases aH with rfl|⟨rfl,M⟩|⟨rfl,M⟩
 ·rw[atT];exact qT (XK T _ _ _ LJ Hn l ar λa b c d F I=>atK a b c d ⟨F,I⟩)
 ·rw[ags];exact qT (XK T _ _ _ (atV M) (λx => !ek x||decide (x.1.1<0)) l ar λa b c d F I=>atM a b c d ⟨F,I⟩)
 ·rw[agt];exact qT (XK T _ _ _ (atW M) (λx => !(ek x&&decide (x.1.1>=0))) l ar λa b c d F I=>atP a b c d ⟨F,I⟩)
def LK:=cu Qh λ(l,f)=>cU (fN l/\Hp f) (.same (.bool (l.any (p2 f))))
@[go_sem] theorem agv (l:List bg)(f:FuncId)(H:fN l/\Hp f):LK [.Y (l.map aE),.fn f (Ho f)]=some (.same (.bool (l.any (p2 f)))):=(cD agu (l,f)).trans (cZ H _)
theorem atX (T:bl)(atY:T Ur=aW XL)(l:List bg)(f:FuncId)(H:fN l/\Hp f):WP T Vr (.same (.bool (l.any (p2 f)))) [.J (.Y (l.map aE)),.J (.fn f (Ho f))]:=by
 refine cE ?_;simp only[Vr];rw[<-LI];refine aZ ?_;repeat' (intro h<;>simp only[h,go_sem,go_sem_proc,atY,H]<;>try refine ax ?_ ?_)
@[go_sem] theorem aKx (l:List bg)(h:fN l):LK [.Y (l.map aE),.fn oT []]=some (.same (.bool (l.any (p2 oT)))):=agv l oT ⟨h,.inl rfl⟩
def oZ (n:Int)(r:e0):Bool:=!(((r.1.length:Int)==n)&&(ek r.2 && !(r.1.any Hn)))
abbrev XM:(List bg)×Int×(List Int)×Int×(List Int)×Int->List Data:=λ(a,s,l,s2,aq,n)=>[.agg [.Y (a.map aE),.int .i64 s,.Y (l.map ae),.int .i64 s2,.Y (aq.map ae)],.ptr [.int .i64 n],.ptr [.fn oT []]]
def XN:=cu XM λ(a,s,l,s2,aq,n)=>cU (fN a/\D l<=1000000/\D aq<=1000000) (.same (.bool (oZ n (a,((s,l),(s2,aq))))))
theorem atZ:∀a b,XM a=XM b->a=b:=by
  rintro⟨c0,s1,eh,Cc,Cd,iR⟩ ⟨dj,s2,aq,Ce,Cf,jR⟩ h;simp only[bf,Data.agg.injEq,Data.int.injEq,Data.Y.injEq,Data.ptr.injEq] at h;exact dR (map_inj nd _ _ h.1.1) (dR h.1.2.1.2 (dR (map_inj fh _ _ h.1.2.2.1) (dR h.1.2.2.2.1.2 (dR (map_inj fh _ _ h.1.2.2.2.2.1) h.2.1.1.2))))
@[go_sem] theorem aKy (a:List bg)(s:Int)(l:List Int)(s2:Int)(aq:List Int)(n:Int)(H:fN a/\D l<=1000000/\D aq<=1000000):XN [.agg [.Y (a.map aE),.int .i64 s,.Y (l.map ae),.int .i64 s2,.Y (aq.map ae)],.ptr [.int .i64 n],.ptr [.fn oT []]]=some (.same (.bool (oZ n (a,((s,l),(s2,aq)))))):=(cD atZ (a,s,l,s2,aq,n)).trans (cZ H _)
theorem at0 (T:bl)(LJ:T oT=aW Qe)(Hq:T KF=aW LK)(a:List bg)(s:Int)(l:List Int)(s2:Int)(aq:List Int)(n:Int)(H:fN a/\D l<=1000000/\D aq<=1000000):WP T W9 (.same (.bool (oZ n (a,((s,l),(s2,aq)))))) [.J (.agg [.Y (a.map aE),.int .i64 s,.Y (l.map ae),.int .i64 s2,.Y (aq.map ae)]),.J (.ptr [.int .i64 n]),.J (.ptr [.fn oT []])]:=by
 refine cE ?_;simp only[W9];obtain⟨aN,cr,cf⟩:=H;unfold oZ;rcases F:((D a:Int)==n)
 ·refine aZ ?_;repeat' (intro h<;>simp only[h,go_sem,go_sem_proc,LJ,Hq,aN,cr,cf,F,aj]<;>try refine ax ?_ ?_)
 ·rcases I:ek ((s,l),(s2,aq))
  ·refine aZ ?_;repeat' (intro h<;>simp only[h,go_sem,go_sem_proc,LJ,Hq,aN,cr,cf,F,I,aj]<;>try refine ax ?_ ?_)
  ·refine aZ ?_;repeat' (intro h<;>simp only[h,go_sem,go_sem_proc,LJ,Hq,aN,cr,cf,F,I,aj,show (oT=oT)=True from by simp,true_or,Bool.not_not]<;>try refine ax ?_ ?_)
abbrev Qi:(List e0)×Int->List Data:=λ(rs,n)=>[.Y (rs.map iX),.fn BN [.ptr [.int .i64 n],.ptr [.fn oT []]]]
def XO:=cu Qi λ(rs,n)=>cU (rN rs) (.same (.int .i64 (kP (oZ n) rs)))
theorem agw:∀a b,Qi a=Qi b->a=b:=by
  rintro⟨agx,iR⟩ ⟨agy,jR⟩ h;simp only[bf,Data.Y.injEq,Data.fn.injEq,Data.ptr.injEq,Data.int.injEq] at h;exact dR (map_inj XG _ _ h.1) h.2.1.2.1.1.2
@[go_sem] theorem aKz (rs:List e0)(n:Int)(H:rN rs):XO [.Y (rs.map iX),.fn BN [.ptr [.int .i64 n],.ptr [.fn oT []]]]=some (.same (.int .i64 (kP (oZ n) rs))):=(cD agw (rs,n)).trans (cZ H _)
theorem at1 (T:bl)(Au:T BN=aW XN)(rs:List e0)(n:Int)(H:rN rs):WP T Vt (.same (.int .i64 (kP (oZ n) rs))) [.J (.Y (rs.map iX)),.J (.fn BN [.ptr [.int .i64 n],.ptr [.fn oT []]])]:=by
 refine cE ?_;simp only[Vt];obtain⟨ar,cW⟩:=H;simp only[go_sem,go_sem_proc,Au,aj];refine dw [0,1,7] [] (λ(i:Nat) tm mem=>i<=D rs/\(∀x∈rs.take i,oZ n x=false)/\tm 8=.J (.int .i64 i)) (λi=>D rs-i) 0 (by refine⟨fk _,?_,rfl⟩;simp) ?_;intro vs ms aT aS;simp only[go_sem,go_sem_proc,Au,aj] at aT aS;subst aT aS;rintro i tm mem Q hm ⟨M,e4,cb⟩;simp only[go_sem,go_sem_proc,Au,bf] at Q hm;obtain⟨ao,F,bN⟩:=Q;rcases dF (i<D rs) with aA|b7
 ·have O:=bz aA;obtain⟨rM,oR,ue⟩:=cW _ (ph aA);have cj:=λh=>LH (p:=oZ n) e4 O h;have hN:=λh=>Qg (p:=oZ n) e4 O h;generalize rs[i]=x at *;have hp:decide ((i:Int)<(D rs:Int))=true:=dp;have hw:=e9 (i:=i) (by omega);obtain⟨a,⟨a2,bS⟩,⟨cP,dJ⟩⟩:=x;dsimp only at rM oR ue;rcases ag:oZ n (a,((a2,bS),(cP,dJ)))
  ·simp only[go_sem,go_sem_proc,Au,ao,F,bN,cb,O,hp,hw,rM,oR,ue,ag,aj,bn,iX,aE];repeat' (first|refine ax ?_ ?_|fail)<;>intro h<;>simp only[h,go_sem,go_sem_proc,Au,ao,F,bN,cb,O,hp,hw,rM,oR,ue,ag,aj,bn,iX,aE]
   exact⟨i+1,by omega,by omega,hN ag,rfl⟩
  ·rw[cj ag];simp only[go_sem,go_sem_proc,Au,ao,F,bN,cb,O,hp,hw,rM,oR,ue,ag,aj,bn,iX,aE];repeat' (first|refine ax ?_ ?_|fail)<;>intro h<;>simp only[h,go_sem,go_sem_proc,Au,ao,F,bN,cb,O,hp,hw,rM,oR,ue,ag,aj,bn,iX,aE]
 ·have hp:decide ((i:Int)<(D rs:Int))=false:=dn;have hU:i=D rs:=by omega
  subst hU;rw[kN] at e4;rw[Qf e4];simp only[go_sem,go_sem_proc,Au,ao,F,bN,cb,hp,aj];repeat' (first|refine ax ?_ ?_|fail)<;>intro h<;>simp only[h,go_sem,go_sem_proc,Au,ao,F,bN,cb,hp,aj]
def XP:=cu Qi λ(rs,n)=>cU (rN rs) (.same (.bool (rs.any (oZ n))))
@[go_sem] theorem aKA (rs:List e0)(n:Int)(H:rN rs):XP [.Y (rs.map iX),.fn BN [.ptr [.int .i64 n],.ptr [.fn oT []]]]=some (.same (.bool (rs.any (oZ n)))):=(cD agw (rs,n)).trans (cZ H _)
theorem at2 (T:bl)(at3:T Uq=aW XO)(rs:List e0)(n:Int)(H:rN rs):WP T Vq (.same (.bool (rs.any (oZ n)))) [.J (.Y (rs.map iX)),.J (.fn BN [.ptr [.int .i64 n],.ptr [.fn oT []]])]:=by
 refine cE ?_;simp only[Vq];rw[<-LI];refine aZ ?_;repeat' (intro h<;>simp only[h,go_sem,go_sem_proc,at3,H]<;>try refine ax ?_ ?_)
def oo (rs:List e0)(n:Int):Bool:=!(decide (n<0))&&(!(decide (n>40))&&(((D rs:Int)==n) && !(rs.any (oZ n))))
abbrev Qj:(List e0)×Int->List Data:=λ(rs,n)=>[.Y (rs.map iX),.int .i64 n]
def XQ:=cu Qj λ(rs,n)=>cU (rN rs) (.same (.bool (oo rs n)))
theorem agz:∀a b,Qj a=Qj b->a=b:=by
  rintro⟨agx,iR⟩ ⟨agy,jR⟩ h;simp only[bf,Data.Y.injEq,Data.int.injEq] at h;exact dR (map_inj XG _ _ h.1) h.2.1.2
@[go_sem] theorem aKB (rs:List e0)(n:Int)(H:rN rs):XQ [.Y (rs.map iX),.int .i64 n]=some (.same (.bool (oo rs n))):=(cD agz (rs,n)).trans (cZ H _)
theorem at4 (T:bl)(Qk:T Uk=aW XP)(rs:List e0)(n:Int)(H:rN rs):WP T W6 (.same (.bool (oo rs n))) [.J (.Y (rs.map iX)),.J (.int .i64 n)]:=by
 refine cE ?_;simp only[W6];unfold oo;rcases F:decide (n<0)
 ·rcases I:decide (n>40)
  ·rcases af:((D rs:Int)==n)
   ·refine aZ ?_;repeat' (intro h<;>simp only[h,go_sem,go_sem_proc,Qk,H,F,I,af,aj]<;>try refine ax ?_ ?_)
   ·refine aZ ?_;repeat' (intro h<;>simp only[h,go_sem,go_sem_proc,Qk,H,F,I,af,aj,cl,nY,iz,scalar]<;>try refine ax ?_ ?_)
  ·refine aZ ?_;repeat' (intro h<;>simp only[h,go_sem,go_sem_proc,Qk,H,F,I,aj]<;>try refine ax ?_ ?_)
 ·refine aZ ?_;repeat' (intro h<;>simp only[h,go_sem,go_sem_proc,Qk,H,F,aj]<;>try refine ax ?_ ?_)
theorem at5 {es:List (List Data)}(h:∀x∈es,Fit (.int .i64) x):∃l:List Int,es=l.map ae:=by
 obtain⟨l,e,-⟩:=Ue (e:=ae) (good:=λ_=>True) λx O=>by
  have:=h x O;simp only[Fit] at this;obtain⟨n,rfl,-⟩:=this;exact⟨n,rfl,trivial⟩
 exact⟨l,e⟩
theorem at6 {n:Int}(h:(Lit.int .u8 n).wf=true):∃m:Nat,n=m/\m<256:=by
 have:0<=n/\n<=255:=by simpa [Lit.wf,IntKind.min,IntKind.max,IntKind.signed,IntKind.bits] using h
 exact⟨n.toNat,by omega,by omega⟩
def XR:bY:=cq 28 1 [.cell 2 2 true] (X [(aC 2 (.alloc 144002 [(al 0),.nil]))] (.seq (X [G 6 0,bm 7 .eql 6 0] (a6 7 (X [(aC 8 (.build [(al 0),.nil] [])),bq 2 2 8] .ret) .skip)) (X [bA 3 1] (.seq (X [G 9 0,bm 10 .lss 9 0] (a6 10 (.ops [(aC 3 (.cN (.c (.J (.int .i64 (-1))))))]) .skip)) (X [eB 4] (.seq (.block 0 (.ghost (.np 4 144022 1) (.loop  (.seq (X [G 11 0,bm 12 .neq 11 0] (a6 12 .skip (.exit 0))) (.block 1 (X [G 13 0,bm 14 .rem 13 1048576,G 5 14] (.seq (X [G 15 5,bm 16 .lss 15 0] (a6 16 (.ops [G 17 5,(aC 18 (.un .neg (.t 17))),G 5 18]) .skip)) (X [G 19 4,G 20 5,(aC 21 (.eQ 144021 false [(al 0)] 1 1 [(0,1,(.t 20))])),(aC 22 (.app 144022 [(al 0)] 8 (.t 19) (.t 21))),G 4 22] (.ops [G 23 0,bm 24 .quo 23 1048576,G 0 24]))))))))) (.seq (.ghost (.freeze 4) (.ops [G 25 3,G 26 4,(cA 27 vv 25 26),bq 2 2 27])) .ret)))))))
def XS:bY:=cq 60 1 [.t 2] (X [dX 1 162001 0,cO 2 false] (.seq (X [bA 3 0] (.block 0 (.loop  (.seq (X [G 5 3,bj 6 1 1,aU 7 1 6,cd 8 7,bB 9 .lss 5 8] (a6 9 .skip (.exit 0))) (.seq (.block 1 (X [bj 12 1 1,aU 13 1 12,G 14 3,b0 15 1 13 14,aU 16 1 15,bm 17 .lss 16 0,G 18 17,⟨some 19,some (18,false),.eu 1 (.t 1)⟩,⟨some 20,some (18,false),.load 1 false (.t 19)⟩,⟨some 21,some (18,false),.cN (.t 3)⟩,⟨some 22,some (18,false),.nn 1 (.t 20) (.t 21)⟩,⟨some 23,some (18,false),.load 1 false (.t 22)⟩,⟨some 24,some (18,false),.bin .geq (.t 23) (.c (al 1048576))⟩,ey 25 18 24] (a6 25 (X [cO 2 false] .ret) .skip))) (.ops [G 10 3,bm 11 .add 10 1,G 3 11])))))) (X [bj 26 1 1,aU 27 1 26,cd 28 27,G 4 28] (.seq (X [bj 29 0 1,aU 30 1 29,(aC 31 (.bin .lss (.t 30) (.c (.J (.int .i64 (-1)))))),G 32 31,⟨some 33,some (32,false),.eu 0 (.t 1)⟩,⟨some 34,some (32,false),.load 1 false (.t 33)⟩,⟨some 35,some (32,false),.bin .gtr (.t 34) (.c (al 1))⟩,ey 36 32 35,G 37 36,⟨some 38,some (37,false),.cN (.t 4)⟩,⟨some 39,some (37,false),.bin .gtr (.t 38) (.c (al 60))⟩,ey 40 37 39,G 41 40,⟨some 42,some (41,false),.cN (.t 4)⟩,⟨some 43,some (41,false),.bin .eql (.t 42) (.c (al 0))⟩,⟨some 44,some (41,false),.eu 0 (.t 1)⟩,⟨some 45,some (41,false),.load 1 false (.t 44)⟩,⟨some 46,some (41,false),.bin .eql (.t 45) (.c (al 0))⟩,⟨some 47,some (41,false),.beq true (.t 43) (.t 46)⟩,ey 48 41 47] (a6 48 (X [cO 2 false] .ret) .skip)) (X [G 49 4,bm 50 .eql 49 0,G 51 50,⟨some 52,some (51,false),.eu 1 (.t 1)⟩,⟨some 53,some (51,false),.load 1 false (.t 52)⟩,⟨some 54,some (51,false),.cN (.t 4)⟩,⟨some 55,some (51,false),.bin .sub (.t 54) (.c (al 1))⟩,⟨some 56,some (51,false),.nn 1 (.t 53) (.t 55)⟩,⟨some 57,some (51,false),.load 1 false (.t 56)⟩,⟨some 58,some (51,false),.bin .neq (.t 57) (.c (al 0))⟩,ey 59 51 58,G 2 59] .ret)))))
def XT:bY:=cq 13 1 [.cell 2 2 true] (X [dX 1 163001 0,(aC 2 (.alloc 163002 [(al 0),.nil]))] (.seq (X [bs 3 2 1,(eb 4 vu 3),fx 5 4] (a6 5 (X [(aC 6 (.build [(al 0),.nil] [])),bq 2 2 6] .ret) .skip)) (X [bj 7 0 1,aU 8 1 7,(aC 9 (.un .neg (.t 8))),bj 10 1 1,aU 11 1 10,(cA 12 vv 9 11),bq 2 2 12] .ret)))
def XU:bY:=cq 36 2 [.cell 4 2 true,.t 5] (X [dX 2 164002 0,dX 3 164003 1,(aC 4 (.alloc 164004 [(al 0),.nil])),bA 5 0] (.seq (X [bs 10 2 2,(eb 11 vu 10),fx 12 11,G 13 12,⟨some 14,some (13,false),.load 2 true (.t 3)⟩,⟨some 15,some (13,false),.call vu [(.t 14)]⟩,⟨some 16,some (13,false),.un .not (.t 15)⟩,ey 17 13 16] (a6 17 (X [(aC 18 (.build [(al 0),.nil] [])),bq 2 4 18,bA 5 1] .ret) .skip)) (X [bj 19 1 2,aU 20 1 19,G 6 20] (X [bj 21 1 3,aU 22 1 21,G 7 22] (.seq (.block 0 (.loop  (.seq (X [G 23 7,cd 24 23,bm 25 .gtr 24 0] (a6 25 .skip (.exit 0))) (.block 1 (X [G 27 6,G 28 7,(cA 29 KL 27 28),G 26 29,bK 30 0 26,bK 31 1 26,G 8 30,G 9 31] (X [G 32 7,G 6 32] (.ops [G 33 9,G 7 33]))))))) (X [G 34 6,(aC 35 (.call vv [(.c (al 1)),(.t 34)])),bq 2 4 35,bA 5 0] .ret))))))
def XV:bY:=cq 65 2 [.cell 4 2 true,.cell 5 2 true,.t 6] (X [dX 2 165002 0,dX 3 165003 1,(aC 4 (.alloc 165004 [(al 0),.nil])),(aC 5 (.alloc 165005 [(al 0),.nil])),bA 6 0] (.seq (X [bs 9 2 2,(eb 10 vu 9),fx 11 10,G 12 11,⟨some 13,some (12,false),.load 2 true (.t 3)⟩,⟨some 14,some (12,false),.call vu [(.t 13)]⟩,⟨some 15,some (12,false),.un .not (.t 14)⟩,ey 16 12 15] (a6 16 (X [(aC 17 (.build [(al 0),.nil] [])),(aC 18 (.build [(al 0),.nil] [])),bq 2 4 17,bq 2 5 18,bA 6 1] .ret) .skip)) (.seq (X [bj 19 0 3,aU 20 1 19,bm 21 .eql 20 0] (a6 21 (X [(aC 22 (.build [(al 0),.nil] [])),(aC 23 (.build [(al 0),.nil] [])),bq 2 4 22,bq 2 5 23,bA 6 15] .ret) .skip)) (X [bj 25 1 2,aU 26 1 25,bj 27 1 3,aU 28 1 27,(cA 29 KL 26 28),G 24 29,bK 30 0 24,bK 31 1 24,G 7 30,G 8 31] (.seq (X [bj 32 0 2,aU 33 1 32,bj 34 0 3,aU 35 1 34,bB 36 .mul 33 35,bm 37 .geq 36 0,G 38 37,⟨some 39,some (38,false),.cN (.t 8)⟩,⟨some 40,some (38,false),.len (.t 39)⟩,⟨some 41,some (38,false),.bin .eql (.t 40) (.c (al 0))⟩,ey 42 38 41] (a6 42 (gb [bj 43 0 2,aU 44 1 43,bj 45 0 3,aU 46 1 45,bB 47 .mul 44 46,G 48 7,(cA 49 vv 47 48),bj 50 0 2,aU 51 1 50,G 52 8,(cA 53 vv 51 52),bq 2 4 49,bq 2 5 53,bA 6 0] K0 .ret) .skip)) (gb [G 54 7,(aC 55 (.eQ 165055 false [(al 0)] 1 1 [(0,1,(.c (al 1)))])),(cA 56 UB 54 55),(aC 57 (.call vv [(.c (.J (.int .i64 (-1)))),(.t 56)])),bj 58 0 3,aU 59 1 58,bj 60 1 3,aU 61 1 60,G 62 8,(cA 63 KM 61 62),(cA 64 vv 59 63),bq 2 4 57,bq 2 5 64,bA 6 0] K0 .ret))))))
def XW:bY:=cq 15 2 [.cell 4 2 true] (X [(aC 4 (.alloc 166004 [(al 0),.nil]))] (X [G 6 1,(eb 7 tP 6),G 5 7] (.seq (X [G 8 5,cd 9 8,bm 10 .eql 9 0] (a6 10 (X [(aC 11 (.build [(al 0),.nil] [])),bq 2 4 11] .ret) .skip)) (X [G 12 0,G 13 5,(aC 14 (.build [(al 0),.nil] [(0,1,(.t 12)),(1,1,(.t 13))])),bq 2 4 14] .ret))))
def LL:bY:=cq 60 2 [.t 4,.t 5] (X [eB 4,eB 5] (X [G 12 0,cd 13 12,(aC 14 (.mz 180014 [(al 0)] 8 (.t 13) (.t 13))),G 6 14] (X [eB 7] (.seq (X [G 15 0,cd 16 15,bm 17 .sub 16 1,G 8 17] (.block 0 (.loop  (.seq (X [G 18 8,bm 19 .geq 18 0] (a6 19 .skip (.exit 0))) (.seq (.block 1 (X [G 22 0,G 23 8,b0 24 1 22 23,aU 25 1 24,(aC 26 (.eQ 180026 true [(al 0)] 1 1 [(0,1,(.t 25))])),G 27 7,(aC 28 (.app 180028 [(al 0)] 8 (.t 26) (.t 27))),(eb 29 tP 28),G 7 29] (X [bA 9 0] (X [bA 10 1048576] (.seq (.block 2 (.loop  (.seq (X [G 30 10,G 31 9,bB 32 .sub 30 31,bm 33 .gtr 32 1] (a6 33 .skip (.exit 2))) (.block 3 (X [G 34 9,G 35 10,bB 36 .add 34 35,bm 37 .quo 36 2,G 11 37] (X [G 38 7,G 39 1,G 40 11,(aC 41 (.eQ 180041 false [(al 0)] 1 1 [(0,1,(.t 40))])),(cA 42 KN 39 41),(cA 43 O2 38 42)] (a6 43 (.ops [G 44 11,G 10 44]) (.ops [G 45 11,G 9 45])))))))) (X [G 46 6,G 47 8,G 48 9,b0 49 1 46 47,bq 1 49 48] (.ops [G 50 7,G 51 1,G 52 9,(aC 53 (.eQ 180053 false [(al 0)] 1 1 [(0,1,(.t 52))])),(eb 54 tP 53),(cA 55 KN 51 54),(cA 56 KM 50 55),G 7 56]))))))) (.ops [G 20 8,bm 21 .sub 20 1,G 8 21])))))) (X [G 57 6,(eb 58 tP 57),G 59 7,G 4 58,G 5 59] .ret)))))
def XX:bY:=cq 43 2 [.t 4] (X [eB 4] (X [eB 5] (X [bA 6 0] (.seq (X [bA 7 0] (.block 0 (.ghost (.np 5 181038 1) (.loop  (.seq (X [G 9 7,G 10 0,cd 11 10,bB 12 .lss 9 11,G 13 12,⟨some 14,some (13,false),.cN (.t 7)⟩,⟨some 15,some (13,false),.cN (.t 1)⟩,⟨some 16,some (13,false),.len (.t 15)⟩,⟨some 17,some (13,false),.bin .lss (.t 14) (.t 16)⟩,ey 18 13 17,G 19 18,⟨some 20,some (19,false),.cN (.t 6)⟩,⟨some 21,some (19,false),.bin .gtr (.t 20) (.c (al 0))⟩,ey 22 19 21] (a6 22 .skip (.exit 0))) (.seq (.block 1 (X [G 25 0,G 26 7,(cA 27 tQ 25 26),G 28 1,G 29 7,(cA 30 tQ 28 29),bB 31 .add 27 30,G 32 6,bB 33 .add 31 32,G 8 33] (X [G 34 5,G 35 8,bm 36 .rem 35 1048576,(aC 37 (.eQ 181037 false [(al 0)] 1 1 [(0,1,(.t 36))])),(aC 38 (.app 181038 [(al 0)] 8 (.t 34) (.t 37))),G 5 38] (.ops [G 39 8,bm 40 .quo 39 1048576,G 6 40])))) (.ops [G 23 7,bm 24 .add 23 1,G 7 24]))))))) (X [G 41 5,(eb 42 tP 41),G 4 42] .ret)))))
def XY:bY:=cq 35 2 [.t 4] (X [eB 4] (X [eB 5] (X [bA 6 0] (.seq (X [bA 7 0] (.block 0 (.ghost (.np 5 182032 1) (.loop  (.seq (X [G 9 7,G 10 0,cd 11 10,bB 12 .lss 9 11] (a6 12 .skip (.exit 0))) (.seq (.block 1 (gb [G 15 0,G 16 7,b0 17 1 15 16,aU 18 1 17,G 19 1,G 20 7,(cA 21 tQ 19 20),bB 22 .sub 18 21,G 23 6,bB 24 .sub 22 23,G 8 24] U4 (X [bA 6 0] (.seq (X [G 25 8,bm 26 .lss 25 0] (a6 26 (X [G 27 8,bm 28 .add 27 1048576,G 8 28] (.ops [bA 6 1])) .skip)) (.ops [G 29 5,G 30 8,(aC 31 (.eQ 182031 false [(al 0)] 1 1 [(0,1,(.t 30))])),(aC 32 (.app 182032 [(al 0)] 8 (.t 29) (.t 31))),G 5 32]))))) (.ops [G 13 7,bm 14 .add 13 1,G 7 14]))))))) (X [G 33 5,(eb 34 tP 33),G 4 34] .ret)))))
def XZ:bY:=cq 23 1 [.t 2] (X [eB 2] (X [G 4 0,cd 5 4,G 3 5] (.seq (.block 0 (.loop  (.seq (X [G 6 3,bm 7 .gtr 6 0,G 8 7,⟨some 9,some (8,true),.cN (.t 0)⟩,⟨some 10,some (8,true),.cN (.t 3)⟩,⟨some 11,some (8,true),.bin .sub (.t 10) (.c (al 1))⟩,⟨some 12,some (8,true),.nn 1 (.t 9) (.t 11)⟩,⟨some 13,some (8,true),.load 1 false (.t 12)⟩,⟨some 14,some (8,true),.bin .eql (.t 13) (.c (al 0))⟩,gK 15 8 14] (a6 15 .skip (.exit 0))) (.block 1 (.ops [G 16 3,bm 17 .sub 16 1,G 3 17]))))) (X [(aC 18 (.eQ 183018 true [] 1 0 [])),G 19 0,G 20 3,(aC 21 (.oF 1 (.t 19) none (some (.t 20)) none)),(aC 22 (.app 183022 [(al 0)] 8 (.t 18) (.t 21))),G 2 22] .ret))))
def X0:bY:=cq 30 2 [.t 4] (X [cO 4 false] (.seq (X [G 6 0,cd 7 6,G 8 1,cd 9 8,(aC 10 (.iO true (.t 7) (.t 9))),bm 11 .sub 10 1,G 5 11] (.block 0 (.loop  (.seq (X [G 12 5,bm 13 .geq 12 0] (a6 13 .skip (.exit 0))) (.seq (.block 1 (X [G 16 0,G 17 5,(cA 18 tQ 16 17),G 19 1,G 20 5,(cA 21 tQ 19 20),bB 22 .neq 18 21] (a6 22 (X [G 23 0,G 24 5,(cA 25 tQ 23 24),G 26 1,G 27 5,(cA 28 tQ 26 27),bB 29 .lss 25 28,G 4 29] .ret) .skip))) (.ops [G 14 5,bm 15 .sub 14 1,G 5 15])))))) (X [cO 4 false] .ret)))
def X1:bY:=cq 60 2 [.t 4] (X [eB 4] (X [G 10 0,cd 11 10,G 12 1,cd 13 12,bB 14 .add 11 13,(aC 15 (.mz 186015 [(al 0)] 8 (.t 14) (.t 14))),G 5 15] (.seq (X [bA 6 0] (.block 0 (.loop  (.seq (X [G 16 6,G 17 0,cd 18 17,bB 19 .lss 16 18] (a6 19 .skip (.exit 0))) (.seq (.block 1 (X [bA 7 0] (X [bA 8 0] (.block 2 (.loop  (.seq (X [G 22 8,G 23 1,cd 24 23,bB 25 .lss 22 24,G 26 25,⟨some 27,some (26,false),.cN (.t 7)⟩,⟨some 28,some (26,false),.bin .gtr (.t 27) (.c (al 0))⟩,ey 29 26 28] (a6 29 .skip (.exit 2))) (.seq (.block 3 (gb [G 32 5,G 33 6,G 34 8,bB 35 .add 33 34,b0 36 1 32 35,aU 37 1 36,G 38 0,G 39 6,b0 40 1 38 39,aU 41 1 40,G 42 1,G 43 8,(cA 44 tQ 42 43),bB 45 .mul 41 44,bB 46 .add 37 45,G 47 7,bB 48 .add 46 47,G 9 48] arv (X [G 49 5,G 50 6,G 51 8,bB 52 .add 50 51,G 53 9,bm 54 .rem 53 1048576,b0 55 1 49 52,bq 1 55 54] (.ops [G 56 9,bm 57 .quo 56 1048576,G 7 57])))) (.ops [G 30 8,bm 31 .add 30 1,G 8 31])))))))) (.ops [G 20 6,bm 21 .add 20 1,G 6 21])))))) (X [G 58 5,(eb 59 tP 58),G 4 59] .ret))))
def X2:bY:=cq 13 2 [.t 4] (X [bA 4 0] (.seq (X [G 5 1,G 6 0,cd 7 6,bB 8 .lss 5 7] (a6 8 (X [G 9 0,G 10 1,b0 11 1 9 10,aU 12 1 11,G 4 12] .ret) .skip)) (X [bA 4 0] .ret)))
theorem Hr (l:List Int):pV (.own 1 (l.map ae))=some (.own 1 (l.map ae)):=by
 refine ad ?_;rw[List.all_eq_true];intro e he;obtain⟨d,-,rfl⟩:=List.mem_map.1 he;simp[ae,scalar]
theorem xp (n k g sz off len:Nat):cl n emp (.ref k g sz off len)=none:=by cases n<;>rfl
def Cq:=cu GJ λ(l:List Int)=>cU (D l<=1000000) (.own 1 ((fK l).map ae))
@[go_sem] theorem EB (l:List Int)(H:(D l)<=1000000):Cq [.Y (l.map ae)]=some (.own 1 ((fK l).map ae)):=(cD Pa l).trans (cZ H _)
theorem at7 (T:bl)  (l:List Int) (H:(D l)<=1000000):WP T XZ (.own 1 ((fK l).map ae)) [.J (.Y (l.map ae))]:=by
 refine cE ?_;simp only[XZ];have tv:((l.map ae).all λe=>D e==1)=true:=by simp[ae]
 refine aZ ?_;repeat' (intro h<;>simp only[h,go_sem,go_sem_proc,aj]<;>try refine ax ?_ ?_)
 refine dw [0] [] (λ(n:Nat) tm mem=>n<=D l/\fK l=fK (l.take n)/\tm 3=.J (.int .i64 n)/\mem 183018=none) (λn=>n) (D l) (by refine⟨b1 _,by simp,by simp[go_sem],rfl⟩) ?_;intro vs ms aT aS;simp only[go_sem,go_sem_proc,aj] at aT aS;subst aT aS;rintro n tm mem Q-⟨aK,bD,af,X3⟩;simp only[go_sem,go_sem_proc,bf] at Q;have ao:=Q
 have dg:∀o:List Int,D o<=(D l)->kW 183018 0 1 0 8 (D o) ((o.map ae).flatten.map .J) (some (0,[]))=some (.ref 183018 1 1 0 (D o),some (183018,1,a7 ae o)):=by
  intro o bM;have:=yr hd tN 183018 0 8 [] o (by simp;omega) (by simp;omega)
  simpa [a7] using this
 have pS:∀(o:List Int) (m:Mem),m 183018=some (1,a7 ae o)->rz 1 m (.ref 183018 1 1 0 (D o))=some (o.map ae):=by
  intro o m hm;have:=ae5 hm (b1 _);rwa [dB (b1 _)] at this
 have at8:∀o:List Int,((o.map ae).all λe=>D e==1)=true:=λo=>by simp[ae]
 rcases n with _|n
 ·have F:=dg [] (by simp);have bM:=pS [];simp only[cY,agA,jy] at F bM;refine aZ ?_;repeat' (intro h<;>simp only[h,go_sem,go_sem_proc,ao,af,X3,tv,F,lC,l0,show ¬ ((0:Int)>0) by omega,decide_false,aj,show (0:Int).toNat=0 from rfl,show (0:Int)<=0 by omega,fk,List.take_zero,cY,jy]<;>try refine ax ?_ ?_)
  rw[bM _ (by simp[a1]),bD];simp[fK]
 ·have hw:IntKind.i64.wrap (((n+1:Nat):Int)-1)=(n:Int):=by rw[fc _];omega
  have O:l[n]?=some l[n]:=bz (by omega);have h4:((n+1:Nat):Int)>0:=by omega
  have hle:n+1<=D l:=aK
  by_cases aV:l[n]=0
  ·refine aZ ?_;repeat' (intro h<;>simp only[h,go_sem,go_sem_proc,ao,af,hw,O,aV,h4,aj,bn,decide_true,ae,beq_self_eq_true,bf]<;>try refine ax ?_ ?_)
   exact⟨n,by omega,by omega,by rw[bD,VB l n (by omega) aV],rfl,X3⟩
  ·have qG:(l[n]==0)=false:=by simpa using aV
   have F:=dg (l.take (n+1)) (by rw[fI];omega);rw[fI,oL hle,Cr] at F;have cf:(List.take (n+1) (l.map ae)).length=n+1:=by rw[fI,aj];omega
   have agB:=at8 (l.take (n+1));rw[Cr] at agB;refine aZ ?_;repeat' (intro h<;>simp only[h,go_sem,go_sem_proc,ao,af,X3,hw,O,qG,h4,tv,agB,hle,F,cf,ae,aj,bn,decide_true,bf,show (0:Int)<=((n+1:Nat):Int) by omega,l1,fk]<;>try refine ax ?_ ?_)
   have bM:=pS (l.take (n+1)) _ (show a1 (a1 mem 183018 0 []) 183018 1 (a7 ae (List.take (n+1) l)) 183018=_ by simp[a1])
   rw[fI,oL hle] at bM;rw[bM,bD,VC l n (by omega) aV]
abbrev X4:(List Int)×Nat->List Data:=λ(l,i)=>[.Y (l.map ae),.int .i64 i]
def Hs:=cu X4 λ(l,i)=>cU (D l<=1000000) (.same (.int .i64 (l.getD i 0)))
theorem at9:∀a b,X4 a=X4 b->a=b:=by
  rintro⟨eh,i1⟩ ⟨aq,i2⟩ h;simp only[bf,Data.Y.injEq,Data.int.injEq] at h;exact dR (map_inj fh _ _ h.1) (by have:=h.2.1.2;dsimp only;omega)
@[go_sem] theorem agC (l:List Int)(i:Nat)(H:(D l)<=1000000):Hs [.Y (l.map ae),.int .i64 i]=some (.same (.int .i64 (l.getD i 0))):=(cD at9 (l,i)).trans (cZ H _)
theorem aua (T:bl)  (l:List Int) (i:Nat) (H:(D l)<=1000000):WP T X2 (.same (.int .i64 (l.getD i 0))) [.J (.Y (l.map ae)),.J (.int .i64 i)]:=by
 refine cE ?_;simp only[X2];rcases ih i (D l) with aA|b7
 ·have O:=bz aA;have aa:decide ((i:Int)<(D l:Int))=true:=dp;have bc:l.getD i 0=l[i]:=by rw[ep,O];rfl
  rw[bc];refine aZ ?_;repeat' (intro h<;>simp only[h,go_sem,go_sem_proc,O,aa,ae,aj,bn]<;>try refine ax ?_ ?_)
 ·have aa:decide ((i:Int)<(D l:Int))=false:=dn;have bc:l.getD i 0=0:=by rw[ep,mB b7];rfl
  rw[bc];refine aZ ?_;repeat' (intro h<;>simp only[h,go_sem,go_sem_proc,aa,aj]<;>try refine ax ?_ ?_)
theorem Ht (n i:Nat):(aJ n).getD i 0=((n/1048576^i%1048576:Nat):Int):=by
 induction i generalizing n with
 |zero =>
  rcases k4 n with h|h
  ·subst h;rfl
  ·rw[vp h,Nat.pow_zero,Nat.div_one];rfl
 |succ i ay =>
  rcases k4 n with h|h
  ·subst h;rw[Wx];rfl
  ·rw[vp h];show (aJ (n/1048576)).getD i 0=_;rw[ay,agD,<-Nat.pow_succ']
theorem Hu (n i:Nat):n/1048576^i=n/1048576^i%1048576+1048576*(n/1048576^(i+1)):=by
 rw[wW,<-agD];omega
theorem Cs {n k:Nat}(h:(aJ n).length<=k):n/1048576^k=0:=Nat.div_eq_of_lt (g4.1 h)
def Ql:=cu vB λ(x,y)=>cU ((aJ x).length<=100000/\(aJ y).length<=100000) (.same (.bool (decide (x<y))))
@[go_sem] theorem aub (x:Nat)(y:Nat)(H:(aJ x).length<=100000/\(aJ y).length<=100000):Ql [b4 x,b4 y]=some (.same (.bool (decide (x<y)))):=(cD yz (x,y)).trans (cZ H _)
theorem auc (T:bl)(gx:T tQ=aW Hs)(x:Nat)(y:Nat)(H:(aJ x).length<=100000/\(aJ y).length<=100000):WP T X0 (.same (.bool (decide (x<y)))) [.J (b4 x),.J (b4 y)]:=by
 refine cE ?_;simp only[X0];obtain⟨O,aw⟩:=H;have na:∃bk:Nat,bk=max (aJ x).length (aJ y).length:=⟨_,rfl⟩;obtain⟨bk,na⟩:=na;have h3:(if ((aJ y).length:Int)>((aJ x).length:Int) then ((aJ y).length:Int) else ((aJ x).length:Int))=(bk:Int):=by split<;>omega
 have B8:IntKind.i64.wrap ((bk:Int)-1)=(bk:Int)-1:=wrap64 _ (by omega) (by omega);have oh:(aJ x).length<=1000000:=by omega
 have k9:(aJ y).length<=1000000:=by omega
 simp only[go_sem,go_sem_proc,gx,b4,aj,h3,B8];refine dw [0,1] [] (λ(i:Nat) tm mem=>i<=bk/\x/1048576^i=y/1048576^i/\tm 5=.J (.int .i64 ((i:Int)-1))) (λi=>i) bk (by refine⟨b1 _,?_,rfl⟩;rw[Cs (by omega),Cs (by omega)]) ?_;intro vs ms aT aS;simp only[go_sem,go_sem_proc,gx,b4] at aT aS;subst aT aS;rintro i tm mem Q-⟨M,he,br⟩;simp only[go_sem,go_sem_proc,gx,bf] at Q;obtain⟨ao,F⟩:=Q;rcases i with _|i
 ·have oN:x=y:=by simpa using he
  have aA:decide (x<y)=false:=dn;rw[aA];simp only[go_sem,go_sem_proc,gx,ao,F,br,lC,l0,show ¬ ((0:Int)-1>=0) by omega,decide_false]
  repeat' (first|refine ax ?_ ?_|fail)<;>intro h<;>simp only[h,go_sem,go_sem_proc,gx,ao,F,br,lC,l0,show ¬ ((0:Int)-1>=0) by omega,decide_false]
 ·have hw:((i+1:Nat):Int)-1=(i:Int):=by omega
  have b7:decide ((i:Int)>=0)=true:=dp;have az:=Hu x i;have aD:=Hu y i;rw[he] at az;have fy:IntKind.i64.wrap ((i:Int)-1)=(i:Int)-1:=wrap64 _ (by omega) (by omega);have cF:=Ht x i;have cp:=Ht y i;have di:=oj (x/1048576^i) (show 0<1048576 by omega);have eK:=oj (y/1048576^i) (show 0<1048576 by omega);have cr:x/1048576^i<y/1048576^i->x<y:=λh=>agE h;have cf:y/1048576^i<x/1048576^i->y<x:=λh=>agE h;generalize nA:x/1048576^i=c6 at *;generalize Ag:y/1048576^i=gi at *;generalize y/1048576^(i+1)=Z at *;generalize c6%1048576=a at *;generalize gi%1048576=b at *;rcases Nat.lt_trichotomy a b with h|h|h
  ·have bE:((a:Int)==(b:Int))=false:=by simp;omega
   have Av:decide ((a:Int)<(b:Int))=decide (x<y):=by rw[kf (show (a:Int)<(b:Int) by omega),kf (cr (by omega))]
   simp only[go_sem,go_sem_proc,gx,ao,F,br,hw,b7,cF,cp,oh,k9,bE,Av];repeat' (first|refine ax ?_ ?_|fail)<;>intro h<;>simp only[h,go_sem,go_sem_proc,gx,ao,F,br,hw,b7,cF,cp,oh,k9,bE,Av]
  ·subst h;simp only[go_sem,go_sem_proc,gx,ao,F,br,hw,b7,cF,cp,oh,k9,fy,beq_self_eq_true];repeat' (first|refine ax ?_ ?_|fail)<;>intro h<;>simp only[h,go_sem,go_sem_proc,gx,ao,F,br,hw,b7,cF,cp,oh,k9,fy,beq_self_eq_true]
   exact⟨i,by omega,by omega,by rw[nA,Ag];omega,rfl⟩
  ·have bE:((a:Int)==(b:Int))=false:=by simp;omega
   have Av:decide ((a:Int)<(b:Int))=decide (x<y):=by rw[mw (show ¬ (a:Int)<(b:Int) by omega),mw (by have:=cf (by omega);omega)]
   simp only[go_sem,go_sem_proc,gx,ao,F,br,hw,b7,cF,cp,oh,k9,bE,Av];repeat' (first|refine ax ?_ ?_|fail)<;>intro h<;>simp only[h,go_sem,go_sem_proc,gx,ao,F,br,hw,b7,cF,cp,oh,k9,bE,Av]
theorem X5 {o:List Int}{d:Int}(h:eZ o)(ao:0<=d)(F:d<1048576):eZ (o++[d]):=DL.2 ⟨h,DK.2 ⟨⟨ao,F⟩,by intro d aa;cases aa⟩⟩
theorem X6 (o:List Int)(d:Int):bh (o++[d])=bh o+1048576^(D o)*d:=by rw[DM];simp[bh]
theorem Hv {o:List Int}{n:Nat}(h:eZ o)(ak:bh o=n):fK o=aJ n:=by rw[zS h,ak];rfl
def X7:=cu vB λ(x,y)=>cU ((aJ x).length<=10000/\(aJ y).length<=10000) (.same (b4 (x+y)))
@[go_sem] theorem aud (x:Nat)(y:Nat)(H:(aJ x).length<=10000/\(aJ y).length<=10000):X7 [b4 x,b4 y]=some (.same (b4 (x+y))):=(cD yz (x,y)).trans (cZ H _)
theorem aue (T:bl)(gx:T tQ=aW Hs)(fX:T tP=aW Cq)(x:Nat)(y:Nat)(H:(aJ x).length<=10000/\(aJ y).length<=10000):WP T XX (.same (b4 (x+y))) [.J (b4 x),.J (b4 y)]:=by
 refine cE ?_;simp only[XX];obtain⟨O,aw⟩:=H;have na:∃bk:Nat,bk=max (aJ x).length (aJ y).length:=⟨_,rfl⟩;obtain⟨bk,na⟩:=na;have oh:(aJ x).length<=1000000:=by omega
 have k9:(aJ y).length<=1000000:=by omega
 simp only[go_sem,go_sem_proc,gx,fX,b4,aj];refine dw [0,1] [] (λ((i,c,g,o):Nat×Nat×Nat×List Int) tm mem=>i<=bk+1/\c<=1/\(i=bk+1->c=0)/\D o=i/\eZ o/\bh o+1048576^i*((x/1048576^i+y/1048576^i+c:Nat):Int)=((x+y:Nat):Int)/\tm 6=.J (.int .i64 c)/\tm 7=.J (.int .i64 i)/\tm 5=.ref 181038 g 1 0 i/\mem 181038=some (g,a7 ae o)) (λ(i,_)=>bk+1-i) (0,0,0,[]) (by refine⟨by omega,by omega,by simp,rfl,by simp[eZ],by simp[bh],rfl,rfl,rfl,rfl⟩) ?_;intro vs ms aT aS;simp only[go_sem,go_sem_proc,gx,fX,b4] at aT aS;subst aT aS;rintro⟨i,c,g,o⟩ tm mem Q-⟨M,fH,hJ,bM,iF,ak,bR,bN,br,hm⟩;simp only[go_sem,go_sem_proc,gx,fX,bf] at Q;obtain⟨ao,F⟩:=Q;have aG:bh o+1048576^i*((x/1048576^i+y/1048576^i+c:Nat):Int)=((x+y:Nat):Int):=ak
 by_cases LM:i<(aJ x).length\/i<(aJ y).length\/0<c
 ·have az:=Hu x i;have aD:=Hu y i;have cF:=Ht x i;have cp:=Ht y i;have di:=oj (x/1048576^i) (show 0<1048576 by omega);have eK:=oj (y/1048576^i) (show 0<1048576 by omega);have Wm:bk<=i->x/1048576^i=0/\y/1048576^i=0:=λh=>⟨Cs (by omega),Cs (by omega)⟩;have gE:(1048576:Int)^(i+1)=1048576^i*1048576:=nw _ _;generalize nA:x/1048576^i=c6 at *;generalize Ag:y/1048576^i=gi at *;generalize Aw:x/1048576^(i+1)=X' at *;generalize Hw:y/1048576^(i+1)=Y' at *;generalize aN:c6%1048576=a at *;generalize ag:gi%1048576=b at *;have w1:IntKind.i64.wrap ((a:Int)+(b:Int))=((a+b:Nat):Int):=by rw[fc _];omega
  have nm:IntKind.i64.wrap (((a+b:Nat):Int)+(c:Int))=((a+b+c:Nat):Int):=by rw[fc _];omega
  have gF:((a+b+c:Nat):Int).tmod 1048576=(((a+b+c)%1048576:Nat):Int):=by rw[Lb (by omega)];omega
  have eV:IntKind.i64.wrap (((a+b+c:Nat):Int).tdiv 1048576)=(((a+b+c)/1048576:Nat):Int):=by rw[GX (by omega),wrap64 _ (by omega) (by omega)];omega
  have b5:=e9 (i:=i) (by omega);have dg:=k6 hd tN 181038 g 8 o (((a+b+c)%1048576:Nat):Int) (cs:=[.J (.int .i64 (((a+b+c)%1048576:Nat):Int))]) rfl (by omega) (by omega);rw[bM] at dg
  have aKC:i<=bk:=by
   rcases ih bk i with h|h
   ·have:=hJ (by omega);omega
   ·exact h
  have iE:∃bp:Nat×Nat×Nat×List Int,bk+1-bp.1<bk+1-i/\bp.1<=bk+1/\bp.2.1<=1/\(bp.1=bk+1->bp.2.1=0)/\bp.2.2.2.length=bp.1/\eZ bp.2.2.2/\bh bp.2.2.2+1048576^bp.1*((x/1048576^bp.1+y/1048576^bp.1+bp.2.1:Nat):Int)=((x+y:Nat):Int)/\R.J (Data.int .i64 (((a+b+c)/1048576:Nat):Int))=R.J (Data.int .i64 (bp.2.1:Int))/\R.J (Data.int .i64 ((i+1:Nat):Int))=R.J (Data.int .i64 (bp.1:Int))/\R.ref 181038 (g+1) 1 0 (i+1)=R.ref 181038 bp.2.2.1 1 0 bp.1/\some (g+1,a7 ae (o++[(((a+b+c)%1048576:Nat):Int)]))=some (bp.2.2.1,a7 ae bp.2.2.2):=by
   refine⟨(i+1,(a+b+c)/1048576,g+1,o++[(((a+b+c)%1048576:Nat):Int)]),by dsimp only;omega,by dsimp only;omega,by dsimp only;omega,?_,by simp[bM],X5 iF (by omega) (by omega),?_,rfl,rfl,rfl,rfl⟩
   ·intro h;dsimp only at h ⊢;have:=Wm (by omega);omega
   ·dsimp only;rw[Aw,Hw,X6,bM,gE,<-aG];have bZ:((c6+gi+c:Nat):Int)=1048576*((X'+Y'+(a+b+c)/1048576:Nat):Int)+(((a+b+c)%1048576:Nat):Int):=by omega
    rw[bZ,iu,iv];omega
  by_cases yo:i<(aJ x).length
  ·have d1:decide ((i:Int)<((aJ x).length:Int))=true:=dp;simp only[go_sem,go_sem_proc,gx,fX,ao,F,br,bR,bN,hm,cF,cp,oh,k9,d1,w1,nm,gF,eV,b5,dg,aj];repeat' (first|refine ax ?_ ?_|fail)<;>intro h<;>simp only[h,go_sem,go_sem_proc,gx,fX,ao,F,br,bR,bN,hm,cF,cp,oh,k9,d1,w1,nm,gF,eV,b5,dg,aj]
   exact iE
  ·have d1:decide ((i:Int)<((aJ x).length:Int))=false:=dn
   by_cases sy:i<(aJ y).length
   ·have d2:decide ((i:Int)<((aJ y).length:Int))=true:=dp;simp only[go_sem,go_sem_proc,gx,fX,ao,F,br,bR,bN,hm,cF,cp,oh,k9,d1,d2,w1,nm,gF,eV,b5,dg,aj];repeat' (first|refine ax ?_ ?_|fail)<;>intro h<;>simp only[h,go_sem,go_sem_proc,gx,fX,ao,F,br,bR,bN,hm,cF,cp,oh,k9,d1,d2,w1,nm,gF,eV,b5,dg,aj]
    exact iE
   ·have d2:decide ((i:Int)<((aJ y).length:Int))=false:=dn;have d3:decide ((c:Int)>0)=true:=dp;simp only[go_sem,go_sem_proc,gx,fX,ao,F,br,bR,bN,hm,cF,cp,oh,k9,d1,d2,d3,w1,nm,gF,eV,b5,dg,aj];repeat' (first|refine ax ?_ ?_|fail)<;>intro h<;>simp only[h,go_sem,go_sem_proc,gx,fX,ao,F,br,bR,bN,hm,cF,cp,oh,k9,d1,d2,d3,w1,nm,gF,eV,b5,dg,aj]
    exact iE
 ·have d1:decide ((i:Int)<((aJ x).length:Int))=false:=dn;have d2:decide ((i:Int)<((aJ y).length:Int))=false:=dn;have d3:decide ((c:Int)>0)=false:=dn;rw[Cs (n:=x) (by omega),Cs (n:=y) (by omega),show c=0 by omega] at aG
  have cC:=EB o (by omega);rw[Hv (n:=x+y) iF (by simpa using aG)] at cC;have gw:=Hr (aJ (x+y));have kJ:=oa (n:=5) hd hm;rw[bM] at kJ;simp only[go_sem,go_sem_proc,gx,fX,ao,F,br,bR,bN,hm,d1,d2,d3,cC,gw,kJ,xp,iz,aj];repeat' (first|refine ax ?_ ?_|fail)<;>intro h<;>simp only[h,go_sem,go_sem_proc,gx,fX,ao,F,br,bR,bN,hm,d1,d2,d3,cC,gw,kJ,xp,iz,aj]
def Qm:=cu vB λ(x,y)=>cU ((aJ x).length<=10000/\(aJ y).length<=10000/\y<=x) (.same (b4 (x-y)))
@[go_sem] theorem agF (x:Nat)(y:Nat)(H:(aJ x).length<=10000/\(aJ y).length<=10000/\y<=x):Qm [b4 x,b4 y]=some (.same (b4 (x-y))):=(cD yz (x,y)).trans (cZ H _)
theorem auf (T:bl)(gx:T tQ=aW Hs)(fX:T tP=aW Cq)(x:Nat)(y:Nat)(H:(aJ x).length<=10000/\(aJ y).length<=10000/\y<=x):WP T XY (.same (b4 (x-y))) [.J (b4 x),.J (b4 y)]:=by
 refine cE ?_;simp only[XY];obtain⟨O,aw,oN⟩:=H;have oh:(aJ x).length<=1000000:=by omega
 have k9:(aJ y).length<=1000000:=by omega
 have afb:(aJ y).length<=(aJ x).length:=by rw[g4];exact vD oN (g4.1 (b1 _))
 simp only[go_sem,go_sem_proc,gx,fX,b4,aj];refine dw [0,1] [] (λ((i,c,g,o):Nat×Nat×Nat×List Int) tm mem=>i<=(aJ x).length/\c<=1/\y/1048576^i+c<=x/1048576^i/\D o=i/\eZ o/\bh o+1048576^i*((x/1048576^i-(y/1048576^i+c):Nat):Int)=((x-y:Nat):Int)/\tm 6=.J (.int .i64 c)/\tm 7=.J (.int .i64 i)/\tm 5=.ref 182032 g 1 0 i/\mem 182032=some (g,a7 ae o)) (λ(i,_)=>(aJ x).length-i) (0,0,0,[]) (by refine⟨by omega,by omega,by simpa using oN,rfl,by simp[eZ],by simp[bh],rfl,rfl,rfl,rfl⟩) ?_;intro vs ms aT aS;simp only[go_sem,go_sem_proc,gx,fX,b4] at aT aS;subst aT aS;rintro⟨i,c,g,o⟩ tm mem Q-⟨M,fH,hle,bM,iF,ak,bR,bN,br,hm⟩;simp only[go_sem,go_sem_proc,gx,fX,bf] at Q;obtain⟨ao,F⟩:=Q;have aG:bh o+1048576^i*((x/1048576^i-(y/1048576^i+c):Nat):Int)=((x-y:Nat):Int):=ak;have Kf:y/1048576^i+c<=x/1048576^i:=hle
 by_cases LM:i<(aJ x).length
 ·have d1:decide ((i:Int)<((aJ x).length:Int))=true:=dp;have az:=Hu x i;have aD:=Hu y i;have cF:=Ht x i;rw[ep,bz LM] at cF;have g1:(aJ x)[i]?=some ((x/1048576^i%1048576:Nat):Int):=by rw[bz LM];exact congrArg some cF
  have cp:=Ht y i;have di:=oj (x/1048576^i) (show 0<1048576 by omega);have eK:=oj (y/1048576^i) (show 0<1048576 by omega);have gE:(1048576:Int)^(i+1)=1048576^i*1048576:=nw _ _;clear cF hle ak;generalize nA:x/1048576^i=c6 at *;generalize Ag:y/1048576^i=gi at *;generalize Aw:x/1048576^(i+1)=X' at *;generalize Hw:y/1048576^(i+1)=Y' at *;generalize aN:c6%1048576=a at *;generalize ag:gi%1048576=b at *;have w1:IntKind.i64.wrap ((a:Int)-(b:Int))=(a:Int)-(b:Int):=wrap64 _ (by omega) (by omega);have nm:IntKind.i64.wrap ((a:Int)-(b:Int)-(c:Int))=(a:Int)-(b:Int)-(c:Int):=wrap64 _ (by omega) (by omega);have b5:=e9 (i:=i) (by omega);have o0:IntKind.i64.wrap ((a:Int)-(b:Int)-(c:Int)+1048576)=(a:Int)-(b:Int)-(c:Int)+1048576:=wrap64 _ (by omega) (by omega);have dg:=λd:Int=>k6 hd tN 182032 g 8 o d (cs:=[.J (.int .i64 d)]) rfl (by omega) (by omega);rw[bM] at dg;rcases kL:decide ((a:Int)-(b:Int)-(c:Int)<0)
  ·have aK:=of_decide_eq_false kL;refine aZ ?_;repeat' (intro h<;>simp only[h,go_sem,go_sem_proc,gx,fX,ao,F,br,bR,bN,hm,g1,cp,k9,d1,w1,nm,b5,dg,kL,ae,aj,bn]<;>try refine ax ?_ ?_)
   refine⟨(i+1,0,g+1,o++[(a:Int)-(b:Int)-(c:Int)]),by dsimp only;omega,by dsimp only;omega,by dsimp only;omega,by dsimp only;rw[Aw,Hw];omega,by simp[bM],X5 iF (by omega) (by omega),?_,rfl,rfl,rfl,rfl⟩
   dsimp only;rw[Aw,Hw,X6,bM,gE,<-aG];have bZ:((c6-(gi+c):Nat):Int)=1048576*((X'-(Y'+0):Nat):Int)+((a:Int)-b-c):=by omega
   rw[bZ,iu,iv];omega
  ·have aK:=of_decide_eq_true kL;refine aZ ?_;repeat' (intro h<;>simp only[h,go_sem,go_sem_proc,gx,fX,ao,F,br,bR,bN,hm,g1,cp,k9,d1,w1,nm,b5,o0,dg,kL,ae,aj,bn]<;>try refine ax ?_ ?_)
   refine⟨(i+1,1,g+1,o++[(a:Int)-(b:Int)-(c:Int)+1048576]),by dsimp only;omega,by dsimp only;omega,by dsimp only;omega,by dsimp only;rw[Aw,Hw];omega,by simp[bM],X5 iF (by omega) (by omega),?_,rfl,rfl,rfl,rfl⟩
   dsimp only;rw[Aw,Hw,X6,bM,gE,<-aG];have bZ:((c6-(gi+c):Nat):Int)=1048576*((X'-(Y'+1):Nat):Int)+((a:Int)-b-c+1048576):=by omega
   have dr:∀p b8 eW:Int,bh o+p*b8+p*1048576*eW=bh o+p*(1048576*eW+b8):=λp b8 eW=>by rw[iu p (1048576*eW) b8,<-iv];omega
   rw[bZ];exact dr _ _ _
 ·have d1:decide ((i:Int)<((aJ x).length:Int))=false:=dn;rw[Cs (n:=x) (by omega),Cs (n:=y) (by omega),Nat.zero_sub,lC,ua,xd] at aG;have cC:=EB o (by omega);rw[Hv (n:=x-y) iF aG] at cC;have gw:=Hr (aJ (x-y));have kJ:=oa (n:=5) hd hm;rw[bM] at kJ;refine aZ ?_;repeat' (intro h<;>simp only[h,go_sem,go_sem_proc,gx,fX,ao,F,br,bR,bN,hm,d1,cC,gw,kJ,xp,iz,aj]<;>try refine ax ?_ ?_)
theorem agG {b:List Int}{k:Nat}(h:k<D b):b.getD k 0=b[k]:=by rw[ep,bz h];rfl
theorem X8 {b:List Int}{k:Nat}(h:(D b)<=k):b.getD k 0=0:=by rw[ep,mB h];rfl
def Qn:=cu vB λ(x,y)=>cU ((aJ x).length<=10000/\(aJ y).length<=10000) (.same (b4 (x*y)))
@[go_sem] theorem agH (x:Nat)(y:Nat)(H:(aJ x).length<=10000/\(aJ y).length<=10000):Qn [b4 x,b4 y]=some (.same (b4 (x*y))):=(cD yz (x,y)).trans (cZ H _)
theorem aug (T:bl)(gx:T tQ=aW Hs)(fX:T tP=aW Cq)(x:Nat)(y:Nat)(H:(aJ x).length<=10000/\(aJ y).length<=10000):WP T X1 (.same (b4 (x*y))) [.J (b4 x),.J (b4 y)]:=by
 refine cE ?_;simp only[X1];obtain⟨O,aw⟩:=H;have tU:=m7 x;have rG:=m7 y;have w6:=lY x;have D6:=lY y;generalize aN:aJ x=a at *;generalize ag:aJ y=b at *;have oV:IntKind.i64.wrap ((D a:Int)+(D b:Int))=((D a+D b:Nat):Int):=by rw[fc _];rfl
 have kl:8*(D a+D b)<=140737488355328:=by omega
 have eJ:(D a)+D b<=maxLen:=GQ _ (by omega);have DA:(D b)<=1000000:=by omega
 simp only[go_sem,go_sem_proc,gx,fX,b4,aN,ag,oV,kl,eJ,GO,aj]
 refine dw [0,1,5] [] (λ((i,o):Nat×List Int) tm mem=>i<=D a/\D o=D a+D b/\eZ o/\o.drop (i+D b)=dG (D o-(i+D b)) 0/\bh o=bh (a.take i)*y/\tm 6=.J (.int .i64 (i:Nat))/\mem 186015=some (0,a7 ae o))
  (λ(i,_)=>D a-i) (0,dG (D a+D b) 0) (by
   have aV:∀n,bh (dG n 0)=0:=by
    intro n
    induction n with
    |zero=>rfl
    |succ n ay=>rw[List.replicate_succ,tM,ay];rfl
   refine⟨fk _,by simp,λd aa=>by rw[GU] at aa;omega,by simp,by rw[aV];simp[bh],?_,?_⟩<;>rfl) ?_
 intro vs ms aT aS;simp only[go_sem,go_sem_proc,gx,fX,b4,aN,ag,oV,aj] at aT aS;subst aT aS;rintro⟨i,o⟩ tm mem Q-⟨M,bM,iF,sJ,jO,bR,hm⟩;simp only[go_sem,go_sem_proc,gx,fX,bf] at Q;obtain⟨ao,F,br⟩:=Q;rcases dF (i<D a) with aA|b7
 ·have m8:a[i]?=some a[i]:=bz aA;have BG:=lE tU i aA;have tE:=lD a i aA;generalize a[i]=hS at *;have iw:decide ((i:Int)<(D a:Int))=true:=dp;have B2:IntKind.i64.wrap ((i:Int)+1)=((i+1:Nat):Int):=by rw[fc _];rfl
  simp only[go_sem,go_sem_proc,gx,fX,ao,F,br,bR,m8,iw,ae,aj,bn,bf]
  refine dw [0,1,5,6] [] (λ((k,c,o):Nat×Int×List Int) tm mem=>k<=D b+1/\(k=D b+1->c=0)/\D o=D a+D b/\eZ o/\o.drop (i+max k (D b))=dG (D o-(i+max k (D b))) 0/\0<=c/\c<1048576/\bh o+1048576^(i+k)*c=bh (a.take i)*y+1048576^i*(hS*bh (b.take k)) /\
    tm 8=.J (.int .i64 (k:Nat))/\tm 7=.J (.int .i64 c)/\mem 186015=some (0,a7 ae o))
   (λ(k,_)=>D b+1-k) (0,0,o) (by refine⟨fk _,by simp,bM,iF,by rw[Nat.zero_max];exact sJ,by omega,by omega,by simp[bh,jO],?_,?_,hm⟩<;>rfl) ?_
  intro vs ms aT aS;simp only[go_sem,go_sem_proc,gx,fX,ao,F,br,bR,ae,aj] at aT aS;subst aT aS;rintro⟨k,c,o⟩ tm mem Q-⟨pT,Ct,bM,iF,sJ,oW,fH,jO,cb,bN,hm⟩;simp only[go_sem,go_sem_proc,gx,fX,bf] at Q;obtain⟨ao,F,br,bR⟩:=Q;have fy:IntKind.i64.wrap ((k:Int)+1)=((k+1:Nat):Int):=by rw[fc _];rfl
  have jz:IntKind.i64.wrap ((i:Int)+(k:Int))=((i+k:Nat):Int):=by rw[fc _];rfl
  by_cases LM:k<(D b)\/c>0
  ·have K9:k<=D b:=by
    rcases ih (D b) k with h|h
    ·have:=Ct (by omega);omega
    ·exact h
   have pX:i+k<D o:=by omega
   have VR:=lE iF (i+k) pX
   have GV:0<=b.getD k 0/\b.getD k 0<1048576:=by
    rcases ih k (D b) with h|h
    ·rw[agG h];exact lE rG k h
    ·rw[X8 h];omega
   have X9:bh (b.take (k+1))=bh (b.take k)+1048576^k*b.getD k 0:=by
    rcases ih k (D b) with h|h
    ·rw[agG h];exact lD b k h
    ·rw[X8 h,dB (by omega),dB (by omega)];simp
   have wM:k<(D b)\/(k=D b/\o[i+k]=0):=by
    rcases ih k (D b) with h|h
    ·exact .inl h
    ·refine .inr ⟨by omega,afe sJ (by omega) pX⟩
   have LN:=agC b k DA;generalize b.getD k 0=p3 at *;obtain⟨dA,cX,tX,qK⟩:=afd VR BG GV ⟨oW,fH⟩;have k8:IntKind.i64.wrap (hS*p3)=hS*p3:=wrap64 _ (by omega) (by omega);have Aa:IntKind.i64.wrap (o[i+k]+hS*p3)=o[i+k]+hS*p3:=wrap64 _ (by omega) (by omega);have vE:IntKind.i64.wrap (o[i+k]+hS*p3+c)=o[i+k]+hS*p3+c:=wrap64 _ (by omega) (by omega);have qL:(o[i+k]+hS*p3+c).tmod 1048576=(o[i+k]+hS*p3+c)%1048576:=Lb (by omega);have B5:IntKind.i64.wrap ((o[i+k]+hS*p3+c).tdiv 1048576)=(o[i+k]+hS*p3+c)/1048576:=by rw[GX (by omega)];exact wrap64 _ (by omega) (by omega)
   have hR:i+k+1<=(a7 ae o).length:=by rw[qH];omega
   have iG:=K7 o (i+k) pX;have gJ:=λd=>yy o (i+k) d pX;have ik:i+k<D a+D b:=by omega
   have iE:∃bp:Nat×Int×List Int,D b+1-bp.1<D b+1-k/\bp.1<=D b+1/\(bp.1=D b+1->bp.2.1=0)/\bp.2.2.length=D a+D b/\eZ bp.2.2/\bp.2.2.drop (i+max bp.1 (D b))=dG (bp.2.2.length-(i+max bp.1 (D b))) 0/\0<=bp.2.1/\bp.2.1<1048576/\bh bp.2.2+1048576^(i+bp.1)*bp.2.1=bh (a.take i)*y+1048576^i*(hS*bh (b.take bp.1)) /\
     R.J (Data.int .i64 ((k+1:Nat):Int))=R.J (Data.int .i64 (bp.1:Nat))/\R.J (Data.int .i64 ((o[i+k]+hS*p3+c)/1048576))=R.J (Data.int .i64 bp.2.1)/\some (0,a7 ae (o.set (i+k) ((o[i+k]+hS*p3+c)%1048576)))=some (0,a7 ae bp.2.2):=by
    refine⟨(k+1,(o[i+k]+hS*p3+c)/1048576,o.set (i+k) ((o[i+k]+hS*p3+c)%1048576)),by dsimp only;omega,by dsimp only;omega,?_,by simp[bM],z7 iF _ (by omega),?_,tX,qK,?_,rfl,rfl,rfl⟩
    ·intro h;dsimp only at h ⊢;rcases wM with I|⟨I,af⟩
     ·omega
     ·have auh:p3=0:=by
       have e:=LN;rw[agC b k DA,X8 (by omega)] at e
       simpa using e.symm
      rw[af,auh,ua];omega
    ·dsimp only;rcases wM with I|⟨I,af⟩
     ·rw[Ya (by omega)] at sJ;rw[Ya (by omega),tB (by omega),List.length_set,sJ]
     ·rw[Ya (by omega),<-I] at sJ;rw[Nat.max_eq_left (by omega)];exact aff sJ pX
    ·dsimp only;rw[VN _ _ _ pX,X9,<-Nat.add_assoc,nw,afc _ _ _ _ _ _ _ jO];rw[iu (hS),iu (1048576^i),Int.pow_add]
     have:(1048576:Int)^i*(hS*(1048576^k*p3))=1048576^i*1048576^k*(hS*p3):=by
      rw[<-iv (hS),nx (hS) (1048576^k),iv (1048576^k),<-iv]
     omega
   by_cases aKD:k<D b
   ·have d1:decide ((k:Int)<(D b:Int))=true:=dp;simp only[go_sem,go_sem_proc,gx,fX,ao,F,br,bR,bN,cb,hm,m8,LN,d1,fy,jz,k8,Aa,vE,qL,B5,ik,hR,iG,gJ,ae,cI,aj,bn,bf];repeat' (first|refine ax ?_ ?_|fail)<;>intro h<;>simp only[h,go_sem,go_sem_proc,gx,fX,ao,F,br,bR,bN,cb,hm,m8,LN,d1,fy,jz,k8,Aa,vE,qL,B5,ik,hR,iG,gJ,ae,cI,aj,bn,bf]
    exact iE
   ·have d1:decide ((k:Int)<(D b:Int))=false:=dn;have d2:decide (c>0)=true:=dp;simp only[go_sem,go_sem_proc,gx,fX,ao,F,br,bR,bN,cb,hm,m8,LN,d1,d2,fy,jz,k8,Aa,vE,qL,B5,ik,hR,iG,gJ,ae,cI,aj,bn,bf];repeat' (first|refine ax ?_ ?_|fail)<;>intro h<;>simp only[h,go_sem,go_sem_proc,gx,fX,ao,F,br,bR,bN,cb,hm,m8,LN,d1,d2,fy,jz,k8,Aa,vE,qL,B5,ik,hR,iG,gJ,ae,cI,aj,bn,bf]
    exact iE
  ·have d1:decide ((k:Int)<(D b:Int))=false:=dn;have d2:decide (c>0)=false:=dn;have aui:c=0:=by omega
   rw[aui,ua,xd,show b.take k=b from dB (by omega),D6] at jO;simp only[go_sem,go_sem_proc,gx,fX,ao,F,br,bR,bN,cb,hm,d1,d2,B2,aj];repeat' (first|refine ax ?_ ?_|fail)<;>intro h<;>simp only[h,go_sem,go_sem_proc,gx,fX,ao,F,br,bR,bN,cb,hm,d1,d2,B2,aj]
   refine⟨(i+1,o),by dsimp only;omega,by dsimp only;omega,bM,iF,?_,?_,rfl,rfl⟩
   ·dsimp only;have af:=congrArg (List.drop (i+1+D b-(i+max k (D b)))) sJ;rw[List.drop_drop,List.drop_replicate] at af;rw[show i+max k (D b)+(i+1+D b-(i+max k (D b)))=i+1+(D b) by omega] at af
    rw[af]
    congr 1
    omega
   ·dsimp only;rw[jO,tE,Int.add_mul,iv]
 ·obtain rfl:i=D a:=by omega
  have iw:decide ((D a:Int)<(D a:Int))=false:=dn;rw[dB (b1 _),w6] at jO;have cC:=EB o (by omega);rw[Hv (n:=x*y) iF (by rw[jO];rfl)] at cC;have gw:=Hr (aJ (x*y));have kJ:=oa (n:=5) hd hm;rw[bM] at kJ;simp only[go_sem,go_sem_proc,gx,fX,ao,F,br,bR,hm,iw,cC,gw,kJ,xp,iz,b4,aj];repeat' (first|refine ax ?_ ?_|fail)<;>intro h<;>simp only[h,go_sem,go_sem_proc,gx,fX,ao,F,br,bR,hm,iw,cC,gw,kJ,xp,iz,b4,aj]
def eC.Ax:eC->List Nat->eC
 |.seq a _,0::p=>a.Ax p
 |.seq _ b,_::p=>b.Ax p
 |.cond _ a _,0::p=>a.Ax p
 |.cond _ _ b,_::p=>b.Ax p
 |.block _ c,_::p=>c.Ax p
 |.ghost _ c,_::p=>c.Ax p
 |.loop c,_::p=>c.Ax p
 |c,_=>c
theorem agI {n:Nat}(h:0<n)(F:n<1048576):[(n:Int)]=aJ n:=(DN h F).symm
theorem auj {n:Nat}(F:n<1048576):fK [(n:Int)]=aJ n:=Hv (by intro d aa;have:=ub.1 aa;omega) (by simp[bh])
theorem auk {d:Int}{r:Nat}(ao:0<=d)(F:d<1048576):fK (d::aJ r)=aJ (d.toNat+1048576*r):=Hv (DK.2 ⟨⟨ao,F⟩,m7 r⟩) (by rw[tM,lY];omega)
theorem Yb {n m k:Nat}(h:n<m*1048576)(hm:(aJ m).length<=k):(aJ n).length<=k+1:=by
 rw[g4] at *;rw[wW];exact Dh h (vg _ (PW hm))
theorem agJ (T:bl)(pA:T KN=aW Qn)(pB:T O2=aW Ql){K:e3->bd->Prop}{kk:List gA}(y cg:Nat)(aw:(aJ y).length<=1000)(gU:(aJ cg).length<=1001)(iW:0<y)(aul:cg<y*1048576)(v0 v6 Ay:R)(tm:Nat->R)(m:Mem)
  (bC:tm 0=v0) (az:tm 1=.J (.Y ((aJ y).map ae))) (bP:tm 6=v6) (bL:tm 7=.J (.Y ((aJ cg).map ae))) (dN:tm 8=Ay) (ej:tm 9=.J (.int .i64 0)) (dx:tm 10=.J (.int .i64 1048576))
  (dQ:∀tm',tm' 0=v0->tm' 1=.J (.Y ((aJ y).map ae))->tm' 6=v6->tm' 7=.J (.Y ((aJ cg).map ae))->tm' 8=Ay->tm' 9=.J (.int .i64 ((cg/y:Nat):Int))->cK T K kk (.exit 2) ⟨tm',m⟩) :
  wp T (LL.body.Ax [1,1,1,0,1,0,0,1,0,0,1,1,1,0,0]) (cK T K kk) ⟨tm,m⟩:=by
 simp only[LL,eC.Ax];refine dw [0,1,6,7,8] [] (λ((cz,M):Nat×Nat) tm' m'=>cz<M/\M<=1048576/\cz*y<=cg/\cg<M*y/\tm' 9=.J (.int .i64 cz)/\tm' 10=.J (.int .i64 M)/\m'=m) (λ(cz,M)=>M-cz) (0,1048576) (by refine⟨by omega,by omega,by omega,by rw[rC];exact aul,ej,dx,rfl⟩) ?_;intro vs ms aT aS;simp only[go_sem,go_sem_proc,bC,az,bP,bL,dN] at aT aS;subst aT aS;clear bC az bP bL dN ej dx;rintro⟨cz,M⟩ tm m' Q hm ⟨aKE,aR,fV,jg,jl,gr,rfl⟩;simp only[go_sem,go_sem_proc,bf] at Q hm;obtain⟨ao,F,bR,bN,cb⟩:=Q;have w1:IntKind.i64.wrap ((M:Int)-(cz:Int))=(M:Int)-(cz:Int):=wrap64 _ (by omega) (by omega)
 by_cases LM:M-cz>1
 ·have d1:decide ((M:Int)-(cz:Int)>1)=true:=dp;have nm:IntKind.i64.wrap ((cz:Int)+(M:Int))=((cz+M:Nat):Int):=by rw[fc _];omega
  have b5:IntKind.i64.wrap (((cz+M:Nat):Int).tdiv 2)=(((cz+M)/2:Nat):Int):=by rw[GX (by omega),wrap64 _ (by omega) (by omega)];omega
  obtain⟨xq,aum⟩:∃xq:Nat,xq=(cz+M)/2:=⟨_,rfl⟩;rw[<-aum] at b5;have cC:=agH y xq ⟨by omega,by rw[<-agI (n:=xq) (by omega) (by omega)];simp⟩
  simp only[b4] at cC;rw[<-agI (n:=xq) (by omega) (by omega)] at cC;simp only[eA,cY,ae] at cC;have mD:(aJ (y*xq)).length<=1001:=Yb (agK (show xq<1048576 by omega) iW) aw;have gw:=aub cg (y*xq) ⟨by omega,by omega⟩
  simp only[b4] at gw;rcases aa:decide (cg<y*xq)
  ·have aK:=of_decide_eq_false aa;rw[aa] at gw;refine aZ ?_;repeat' (intro h<;>simp only[h,go_sem,go_sem_proc,pA,pB,ao,F,bR,bN,cb,jl,gr,w1,nm,b5,d1,cC,gw]<;>try refine ax ?_ ?_)
   exact⟨(xq,M),by dsimp only;omega,by dsimp only;omega,aR,by dsimp only;rw[rC];omega,jg,rfl,rfl⟩
  ·have aK:=of_decide_eq_true aa;rw[aa] at gw;refine aZ ?_;repeat' (intro h<;>simp only[h,go_sem,go_sem_proc,pA,pB,ao,F,bR,bN,cb,jl,gr,w1,nm,b5,d1,cC,gw]<;>try refine ax ?_ ?_)
   exact⟨(cz,xq),by dsimp only;omega,by dsimp only;omega,by dsimp only;omega,fV,by dsimp only;rw[rC];omega,rfl,rfl⟩
 ·have d1:decide ((M:Int)-(cz:Int)>1)=false:=dn
  have aL:cg/y=cz:=by
   have F:M=cz+1:=by omega
   subst F;exact Nat.div_eq_of_lt_le fV jg
  refine aZ ?_;repeat' (intro h<;>simp only[h,go_sem,go_sem_proc,ao,F,bR,bN,cb,jl,gr,w1,d1]<;>try refine ax ?_ ?_)
  refine dQ _ ?_ ?_ ?_ ?_ ?_ ?_<;>simp only[e7,ed,if_false,ao,F,bR,bN,cb,jl,aL]
def Qo:=cu vB λ(x,y)=>cU ((aJ x).length<=1000/\(aJ y).length<=1000/\0<y) (.same (.cM [b4 (x/y),b4 (x%y)]))
@[go_sem] theorem agL (x:Nat)(y:Nat)(H:(aJ x).length<=1000/\(aJ y).length<=1000/\0<y):Qo [b4 x,b4 y]=some (.same (.cM [b4 (x/y),b4 (x%y)])):=(cD yz (x,y)).trans (cZ H _)
theorem aun (T:bl)(fX:T tP=aW Cq)(pA:T KN=aW Qn)(pB:T O2=aW Ql)(lh:T KM=aW Qm)(x:Nat)(y:Nat)(H:(aJ x).length<=1000/\(aJ y).length<=1000/\0<y):WP T LL (.same (.cM [b4 (x/y),b4 (x%y)])) [.J (b4 x),.J (b4 y)]:=by
 refine cE ?_;simp only[LL];obtain⟨O,aw,iW⟩:=H;have tU:=m7 x;have w6:=lY x;generalize aN:aJ x=a at *;have kl:8*D a<=140737488355328:=by omega
 have eJ:(D a)<=maxLen:=GQ _ (by omega);have B8:IntKind.i64.wrap ((D a:Int)-1)=(D a:Int)-1:=wrap64 _ (by omega) (by omega);simp only[go_sem,go_sem_proc,fX,pA,pB,lh,b4,aN,kl,eJ,GO,B8,aj]
 refine dw [0,1,6] [] (λ((n,r,Cu,o):Nat×Nat×R×List Int) tm mem=>n<=D a/\D o=D a/\eZ o/\r<y/\bh (a.drop n)=y*bh (o.drop n)+r/\(Cu=.nil/\r=0\/Cu=.J (b4 r))/\tm 8=.J (.int .i64 ((n:Nat)-1))/\tm 7=Cu/\mem 180014=some (0,a7 ae o))
  (λ(n,_)=>n) (D a,0,.nil,dG (D a) 0) (by
   refine⟨b1 _,by simp,λd aa=>by rw[GU] at aa;omega,iW,by simp[bh],.inl ⟨rfl,rfl⟩,rfl,rfl,rfl⟩) ?_
 intro vs ms aT aS;simp only[go_sem,go_sem_proc,fX,pA,pB,lh,b4,aN,aj] at aT aS;subst aT aS;rintro⟨n,r,Cu,o⟩ tm mem Q-⟨aK,bM,iF,GW,ak,EC,cb,bN,hm⟩;simp only[go_sem,go_sem_proc,fX,pA,pB,lh,bf] at Q;obtain⟨ao,F,bR⟩:=Q;rcases n with _|n
 ·have aL:bh o=((x/y:Nat):Int)/\r=x%y:=by
   rw[lV,lV,w6] at ak;have az:(x:Int)/(y:Int)=bh o:=by rw[ak,yB,Int.add_mul_ediv_left _ _ (by omega),Int.ediv_eq_zero_of_lt (by omega) (by omega)];omega
   have aD:(x:Int)%(y:Int)=r:=by rw[ak,yB,Int.add_mul_emod_self_left,Int.emod_eq_of_lt (by omega) (by omega)]
   refine⟨by rw[<-az];rfl,by omega⟩
  have cC:=EB o (by omega);rw[Hv (n:=x/y) iF aL.1] at cC;have gw:=Hr (aJ (x/y));have kJ:=oa (n:=5) hd hm;rw[bM] at kJ;rcases EC with ⟨rfl,pY⟩|rfl
  ·have aV:aJ (x%y)=[]:=by rw[<-aL.2,pY];rfl
   simp only[go_sem,go_sem_proc,fX,pA,pB,lh,ao,F,bR,bN,cb,hm,cC,gw,kJ,aV,xp,iz,b4,lC,l0,show ¬ ((0:Int)-1>=0) by omega,decide_false,aj,cY]
   repeat' (first|refine ax ?_ ?_|fail)<;>intro h<;>simp only[h,go_sem,go_sem_proc,fX,pA,pB,lh,ao,F,bR,bN,cb,hm,cC,gw,kJ,aV,xp,iz,b4,lC,l0,show ¬ ((0:Int)-1>=0) by omega,decide_false,aj,cY]
  ·simp only[go_sem,go_sem_proc,fX,pA,pB,lh,ao,F,bR,bN,cb,hm,cC,gw,kJ,xp,iz,b4,lC,l0,show ¬ ((0:Int)-1>=0) by omega,decide_false,aj,cY,aL.2]
   repeat' (first|refine ax ?_ ?_|fail)<;>intro h<;>simp only[h,go_sem,go_sem_proc,fX,pA,pB,lh,ao,F,bR,bN,cb,hm,cC,gw,kJ,xp,iz,b4,lC,l0,show ¬ ((0:Int)-1>=0) by omega,decide_false,aj,cY,aL.2]
 ·have m8:a[n]?=some a[n]:=bz (by omega);have Pn:=lE tU n (by omega);have VJ:a.drop n=a[n]::a.drop (n+1):=ij (by omega);have gC:n<D o:=by omega
  have VL:∀e:Int,(o.set n e).drop n=e::o.drop (n+1):=λe=>by
   rw[ij (by simpa using gC),List.getElem_set_self,tB (by omega)]
  generalize a[n]=d at *;have hw:((n+1:Nat):Int)-1=(n:Int):=by omega
  have b7:decide ((n:Int)>=0)=true:=dp;have k8:IntKind.i64.wrap ((n:Int)-1)=(n:Int)-1:=wrap64 _ (by omega) (by omega);have b2:(aJ r).length<=1000:=by rw[g4] at *;omega
  obtain⟨cg,gU⟩:∃cg:Nat,cg=d.toNat+1048576*r:=⟨_,rfl⟩
  have Qp:cg<y*1048576:=by
   have:(r+1)*1048576<=y*1048576:=vg _ GW;omega
  have Yc:=Yb Qp aw;have Hx:=auk (d:=d) (r:=r) Pn.1 Pn.2;rw[<-gU] at Hx;have cC:=EB (d::aJ r) (by rw[h0];omega);rw[Hx] at cC;simp only[eA,ae] at cC;have gw:=Hr (aJ cg)
  have zx:∀bQ:Nat,kW 180026 bQ 1 1 8 (aJ r).length (((aJ r).map ae).flatten.map .J) (some (bQ,[.J (.int .i64 d)]))=some (.ref 180026 (bQ+1) 1 0 (1+(aJ r).length),some (180026,bQ+1,a7 ae (d::aJ r))):=λbQ=>by
   have:=yr hd tN 180026 bQ 8 [d] (aJ r) (by rw[vQ];omega) (by rw[vQ];omega);exact this
  have auo:∀(bQ:Nat) (m:Mem),m 180026=some (bQ,a7 ae (d::aJ r))->cl 6 m (.ref 180026 bQ 1 0 (1+(aJ r).length))=some (.Y ((d::aJ r).map ae)):=λbQ m hm=>by
   have:=oa (n:=5) hd hm;rw[h0,Nat.add_comm (aJ r).length 1] at this;exact this
  have tv:(((aJ r).map ae).all λe=>D e==1)=true:=K5 _;have Yd:=auo (gB (mem 180026)+1) (a1 (a1 mem 180026 (gB (mem 180026)) [R.J (.int .i64 d)]) 180026 (gB (mem 180026)+1) (a7 ae (d::aJ r))) (by simp[a1]);have pQ:n<D a:=by omega
  obtain⟨cz,fV⟩:∃cz:Nat,cz=cg/y:=⟨_,rfl⟩;have Ye:cz<1048576:=by rw[fV];exact Nat.div_lt_of_lt_mul Qp
  have Aj:=PT cg y;have mD:=oj cg iW;rw[<-fV] at Aj;have Ts:cg-y*cz=cg%y:=by omega
  have aKF:(aJ (y*cz)).length<=1001:=Yb (agK Ye iW) aw
  have ED:Cq [.Y [[.int .i64 ((cg/y:Nat):Int)]]]=some (.own 1 ((aJ cz).map ae)):=by
   have h:=EB [((cg/y:Nat):Int)] (by simp);rw[<-fV,auj Ye] at h;rw[<-fV];exact h
  have LO:=agH y cz ⟨by omega,by have:(aJ cz).length<=1:=g4.2 (by rw[Nat.pow_one];exact Ye);omega⟩
  simp only[b4] at LO;have Hy:=agF cg (y*cz) ⟨by omega,by omega,by omega⟩
  rw[Ts] at Hy;simp only[b4] at Hy;have hR:n+1<=(a7 ae o).length:=by rw[qH];omega
  have gJ:=yy o n ((cg/y:Nat):Int) gC
  have iE:∃bp:Nat×Nat×R×List Int,bp.1<n+1/\bp.1<=D a/\bp.2.2.2.length=D a/\eZ bp.2.2.2/\bp.2.1<y/\bh (a.drop bp.1)=y*bh (bp.2.2.2.drop bp.1)+bp.2.1/\(bp.2.2.1=.nil/\bp.2.1=0\/bp.2.2.1=.J (.Y ((aJ bp.2.1).map ae)))/\R.J (Data.int .i64 ((n:Int)-1))=R.J (Data.int .i64 ((bp.1:Int)-1))/\R.J (Data.Y ((aJ (cg%y)).map ae))=bp.2.2.1/\some (0,a7 ae (o.set n ((cg/y:Nat):Int)))=some (0,a7 ae bp.2.2.2):=by
   refine⟨(n,cg%y,.J (b4 (cg%y)),o.set n ((cg/y:Nat):Int)),by dsimp only;omega,by dsimp only;omega,by simp[bM],z7 iF n (by omega),mD,?_,.inr rfl,rfl,rfl,rfl⟩
   dsimp only;rw[VJ,tM,ak,VL,tM,<-fV];have az:(cg:Int)=d+1048576*r:=by omega
   have aD:(y:Int)*cz+(cg%y:Nat)=cg:=by exact_mod_cast Aj
   have bZ:∀v:Int,(y:Int)*(cz+1048576*v)=y*cz+1048576*(y*v):=λv=>by rw[iu,Int.mul_left_comm]
   rw[bZ];omega
  have main:Cu=.nil/\r=0\/Cu=.J (b4 r):=EC;rcases main with ⟨rfl,pY⟩|rfl
  ·subst pY;have agM:=zx;simp only[sG,cY,agA,jy] at agM;simp only[sG,jy] at Yd;simp only[sG,cY] at cC;simp only[go_sem,go_sem_proc,fX,pA,pB,lh,ao,F,bR,bN,cb,hm,m8,hw,b7,agM,cC,gw,Yd,xp,iz,ae,sG,aj,bn,cY];refine agJ T pA pB y cg aw Yc iW Qp (.J (.Y (a.map ae))) (.ref 180014 0 1 0 (D a)) (.J (.int .i64 n)) _ _ ?_ ?_ ?_ ?_ ?_ ?_ ?_ ?_
   ·exact ao
   ·exact F
   ·exact bR
   ·rfl
   ·simp only[e7,ed,if_false,cb,hw]
   ·rfl
   ·rfl
   intro tm' fO cv iA hV hT nb;simp only[go_sem,go_sem_proc,fX,pA,pB,lh,fO,cv,iA,hV,hT,nb,hm,pQ,hR,gJ,ED,LO,Hy,k8,cI];repeat' (first|refine ax ?_ ?_|fail)<;>intro h<;>simp only[h,go_sem,go_sem_proc,fX,pA,pB,lh,fO,cv,iA,hV,hT,nb,hm,pQ,hR,gJ,ED,LO,Hy,k8,cI]
   exact iE
  ·simp only[go_sem,go_sem_proc,fX,pA,pB,lh,ao,F,bR,bN,cb,hm,m8,hw,b7,zx,tv,cC,gw,Yd,xp,iz,b4,ae,aj,bn];refine agJ T pA pB y cg aw Yc iW Qp (.J (.Y (a.map ae))) (.ref 180014 0 1 0 (D a)) (.J (.int .i64 n)) _ _ ?_ ?_ ?_ ?_ ?_ ?_ ?_ ?_
   ·exact ao
   ·exact F
   ·exact bR
   ·rfl
   ·simp only[e7,ed,if_false,cb,hw]
   ·rfl
   ·rfl
   intro tm' fO cv iA hV hT nb;simp only[go_sem,go_sem_proc,fX,pA,pB,lh,fO,cv,iA,hV,hT,nb,hm,pQ,hR,gJ,ED,LO,Hy,k8,cI];repeat' (first|refine ax ?_ ?_|fail)<;>intro h<;>simp only[h,go_sem,go_sem_proc,fX,pA,pB,lh,fO,cv,iA,hV,hT,nb,hm,pQ,hR,gJ,ED,LO,Hy,k8,cI]
   exact iE
def Hz:=cu Ph λ(s,l)=>cU (D l<=1000000) (.same (.agg (dc (kn s l))))
@[go_sem] theorem aKG (s:Int)(l:List Int)(H:(D l)<=1000000):Hz [.int .i64 s,.Y (l.map ae)]=some (.same (.agg (dc (kn s l)))):=(cD ae2 (s,l)).trans (cZ H _)
theorem aup (T:bl)(fX:T tP=aW Cq)(s:Int)(l:List Int)(H:(D l)<=1000000):WP T XW (.same (.agg (dc (kn s l)))) [.J (.int .i64 s),.J (.Y (l.map ae))]:=by
 refine cE ?_;simp only[XW];have cC:=EB l H;have gw:=Hr (fK l);refine aZ ?_;repeat' (intro h<;>simp only[h,go_sem,go_sem_proc,fX,cC,gw,aj]<;>try refine ax ?_ ?_)
 all_goals simp only[kn,dc,cY, *,reduceIte,Bool.not_true,Bool.not_false,Bool.or_true,Bool.true_or,Bool.or_false,Bool.false_or,Bool.and_true,g3,hP,fu,kX,beq_self_eq_true,bne]
def HA:=cu BT λ(s,l)=>cU (D l<=1000000) (.same (.bool (dI (s,l))))
@[go_sem] theorem aKH (s:Int)(l:List Int)(H:(D l)<=1000000):HA [.agg [.int .i64 s,.Y (l.map ae)]]=some (.same (.bool (dI (s,l)))):=(cD GN (s,l)).trans (cZ H _)
theorem auq (T:bl)  (s:Int) (l:List Int) (H:(D l)<=1000000):WP T XS (.same (.bool (dI (s,l)))) [.J (.agg [.int .i64 s,.Y (l.map ae)])]:=by
 refine cE ?_;simp only[XS];simp only[go_sem,go_sem_proc,aj];refine dw [1] [162001] (λ(i:Nat) tm mem=>i<=D l/\l.all ob=(l.drop i).all ob/\tm 3=.J (.int .i64 i)) (λi=>D l-i) 0 (by refine⟨by omega,by simp,rfl⟩) ?_;intro vs ms aT aS;simp only[go_sem,go_sem_proc,aj] at aT aS;subst aT aS;rintro i tm mem Q hm ⟨M,aH,af⟩;simp only[go_sem,go_sem_proc,bf] at Q hm;have F:=Q;rcases dF (i<D l) with aA|b7
 ·have aa:l.drop i=l[i]::l.drop (i+1):=ij aA;have O:l[i]?=some l[i]:=bz aA;generalize l[i]=x at *;have d1:decide ((i:Int)<(D l:Int))=true:=dp
  have iE:∀b,ob x=true->b=(l.drop (i+1)).all ob->l.all ob=b:=by
   intro b F I;rw[aH,aa,Gq,F,I,g3]
  have K6:¬ ob x=true->dI (s,l)=false:=by
   intro F;rw[Bool.not_eq_true] at F;unfold dI;rw[aH,aa,Gq,F]
   rfl
  have b5:=e9 (i:=i) (by omega);simp only[go_sem,go_sem_proc,F,af,hm,O,d1,b5,ae,aj,bn,bf];repeat' (first|refine ax ?_ ?_|fail)<;>intro h<;>simp only[h,go_sem,go_sem_proc,F,af,hm,O,d1,b5,ae,aj,bn,bf]
  ·rw[K6 λh=>by have:=(Lj x).1 h;(simp only[ca,Data.bool.injEq,Data.int.injEq,true_and,decide_eq_true_eq,decide_eq_false_iff_not,kX,beq_iff_eq,beq_eq_false_iff_ne,ne_eq] at*<;> omega)]
  ·exact⟨i+1,by omega,by omega,iE _ ((Lj x).2 (by (simp only[ca,Data.bool.injEq,Data.int.injEq,true_and,decide_eq_true_eq,decide_eq_false_iff_not,kX,beq_iff_eq,beq_eq_false_iff_ne,ne_eq] at*<;> omega))) rfl,rfl⟩
  ·rw[K6 λh=>by have:=(Lj x).1 h;(simp only[ca,Data.bool.injEq,Data.int.injEq,true_and,decide_eq_true_eq,decide_eq_false_iff_not,kX,beq_iff_eq,beq_eq_false_iff_ne,ne_eq] at*<;> omega)]
 ·have he:l.drop i=[]:=List.drop_eq_nil_of_le (by omega);rw[he] at aH;have e4:l.all ob=true:=by rw[aH];rfl
  have d1:decide ((i:Int)<(D l:Int))=false:=dn;rcases List.eq_nil_or_concat l with rfl|⟨r,x,rfl⟩
  ·have d2:decide ((i:Int)<0)=false:=d1;simp only[go_sem,go_sem_proc,F,af,hm,d2,jy,lC,l0,beq_self_eq_true,cY,bne];repeat' (first|refine ax ?_ ?_|fail)<;>intro h<;>simp only[h,go_sem,go_sem_proc,F,af,hm,d2,jy,lC,l0,beq_self_eq_true,cY,bne]
   all_goals (refine congrArg (λb=>some (Data.bool b)) ?_;unfold dI;simp;try simp only[decide_eq_true_eq,decide_eq_false_iff_not,beq_iff_eq,beq_eq_false_iff_ne,rO,agN,beq_eq_false_iff_ne,ne_eq] at *;omega)
  ·rw[List.concat_eq_append] at *;have bE:(((r++[x]).length:Int)==0)=false:=by simp;omega
   have hw:IntKind.i64.wrap (((r++[x]).length:Int)-1)=(D r:Int):=by
    have cf:(r++[x]).length=D r+1:=by simp
    rw[fc _];omega
   have bc:((r++[x]).map ae)[D r]?=some [.int .i64 x]:=by simp[ae]
   have ab:dI (s,r++[x])=((s==1||s == -1)&&decide (((r++[x]).length:Int)<=60)&&(x != 0)):=by
    unfold dI;rw[e4];simp only[List.getLast?_append,List.getLast?_singleton];simp;have az:decide (D r<=59)=decide ((D r:Int)+1<=60):=decide_eq_decide.2 (by omega);have aD:(some x != some (0:Int))=(x != 0):=by simp[bne]
    rw[az,aD]
   rw[ab];simp only[go_sem,go_sem_proc,F,af,hm,d1,bE,hw,bc,aj];repeat' (first|refine ax ?_ ?_|fail)<;>intro h<;>simp only[h,go_sem,go_sem_proc,F,af,hm,d1,bE,hw,bc,aj]
   all_goals (refine congrArg (λb=>some (Data.bool b)) ?_;clear aH e4 ab bc hw Q hm F af d1;rw[Ck];simp only[eM,Bool.or_eq_true,decide_eq_true_eq,decide_eq_false_iff_not,beq_iff_eq,beq_eq_false_iff_ne,rO,agN,ne_eq,kX,false_iff,true_iff] at *;omega)
def Yf:=cu BT λ(s,l)=>cU (D l<=1000000) (.same (.agg (dc (jZ (s,l)))))
@[go_sem] theorem aKI (s:Int)(l:List Int)(H:(D l)<=1000000):Yf [.agg [.int .i64 s,.Y (l.map ae)]]=some (.same (.agg (dc (jZ (s,l))))):=(cD GN (s,l)).trans (cZ H _)
theorem aur (T:bl)(j2:T vu=aW HA)(gY:T vv=aW Hz)(s:Int)(l:List Int)(H:(D l)<=1000000):WP T XT (.same (.agg (dc (jZ (s,l))))) [.J (.agg [.int .i64 s,.Y (l.map ae)])]:=by
 refine cE ?_;simp only[XT]
 by_cases ab:dI (s,l)=true
 ·obtain⟨z,aV,e⟩:=(jX _).1 ab;have az:jZ (s,l)=bT (-z):=by unfold jZ;rw[ad ab,e,fR]
  cases e
  have hw:IntKind.i64.wrap (0-z.sign) = -z.sign:=by
   have:=Int.sign_trichotomy z;rw[fc _];omega
  rw[az];refine aZ ?_;repeat' (intro h<;>simp only[h,go_sem,go_sem_proc,j2,gY,ab,H,hw,afS,dc]<;>try refine ax ?_ ?_)
 ·have ab:dI (s,l)=false:=by simpa using ab
  have az:jZ (s,l)=(0,[]):=by unfold jZ;rw[ab];rfl
  rw[az];refine aZ ?_;repeat' (intro h<;>simp only[h,go_sem,go_sem_proc,j2,gY,ab,H,dc,cY]<;>try refine ax ?_ ?_)
theorem agO (n:Int):(n.tmod 1048576).natAbs=n.natAbs%1048576:=by rw[Int.natAbs_tmod];rfl
theorem agP (n:Int):(n.tdiv 1048576).natAbs=n.natAbs/1048576:=by rw[Int.natAbs_tdiv];rfl
def Yg:=cu w4 λ(n:Int)=>cU (dC n) (.same (.agg (dc (bT n))))
@[go_sem] theorem aKJ (n:Int)(H:dC n):Yg [.int .i64 n]=some (.same (.agg (dc (bT n)))):=(cD zX n).trans (cZ H _)
theorem aus (T:bl)(gY:T vv=aW Hz)(n:Int)(H:dC n):WP T XR (.same (.agg (dc (bT n)))) [.J (.int .i64 n)]:=by
 refine cE ?_;simp only[XR];have lS:=H;unfold dC at lS;obtain⟨wK,yb⟩:=lS;have hlen:(aJ n.natAbs).length<=60:=g4.2 (yK H);rcases dF (n=0) with rfl|lz
 ·simp only[go_sem,go_sem_proc,gY,dc,beq_self_eq_true];repeat' (first|refine ax ?_ ?_|fail)<;>intro h<;>simp only[h,go_sem,go_sem_proc,gY,dc,beq_self_eq_true]
  rfl
 have bE:(n==0)=false:=by simpa using lz
 have U:∀s:Int,s=n.sign->kn s (aJ n.natAbs)=bT n:=λs h=>p0 rfl λ_=>h;have vK:(aJ n.natAbs).length<=1000000:=by omega
 rcases dF (n<0) with kL|h4
 ·have rP:=U (-1) (rJ kL).symm;simp only[go_sem,go_sem_proc,gY,bE,kL,decide_true];refine dw [2,3] [144002] (λ((u,g,l):Int×Nat×List Int) tm mem=>u<=0/\n<=u/\aJ n.natAbs=l++aJ u.natAbs/\tm 0=.J (.int .i64 u)/\tm 4=.ref 144022 g 1 0 (D l)/\mem 144022=some (g,a7 ae l)) (λ(u,_)=>u.natAbs) (n,0,[]) (by refine⟨by omega,by omega,rfl,rfl,rfl,rfl⟩) ?_;intro vs ms aT aS;simp only[go_sem,go_sem_proc,gY,kL,decide_true] at aT aS;subst aT aS;rintro⟨u,g,l⟩ tm mem Q hm ⟨hu,aut,aa,ao,aO,xr⟩;simp only[go_sem,go_sem_proc,gY,bf] at Q hm;obtain⟨I,af⟩:=Q;rcases dF (u=0) with rfl|El
  ·rw[show (0:Int).natAbs=0 from rfl,sG,fE] at aa;rw[aa] at rP vK;simp only[go_sem,go_sem_proc,gY,ao,I,af,aO,hm,xr,rP,vK,lX hd,kN,dc,aj,beq_self_eq_true];repeat' (first|refine ax ?_ ?_|fail)<;>intro h<;>simp only[h,go_sem,go_sem_proc,gY,ao,I,af,aO,hm,xr,rP,vK,lX hd,kN,dc,aj,beq_self_eq_true]
  ·have Ad:(D l)<=60:=by
    have:=congrArg D aa;rw[fr] at this;omega
   have yF:(u==0)=false:=by simpa using El
   have dg:=λd:Int=>k6 hd tN 144022 g 8 l d (cs:=[.J (.int .i64 d)]) rfl (by omega) (by omega);have az:=agO u;have aD:=agP u;have bZ:u.tmod 1048576<=0:=by have:=agQ (a:=-u) 1048576 (by omega);rw[Int.neg_tmod] at this;omega
   have dr:u.tdiv 1048576<=0/\u<=u.tdiv 1048576:=by
    have:=agR (a:=-u) (b:=1048576) (by omega) (by omega);rw[Int.neg_tdiv] at this;omega
   have oV:IntKind.i64.wrap (u.tdiv 1048576)=u.tdiv 1048576:=wrap64 _ (by omega) (by omega);have fy:IntKind.i64.wrap (0-u.tmod 1048576) = -(u.tmod 1048576):=by rw[fc _];omega
   have vG:=vp (n:=u.natAbs) (by omega)
   have iE:∀d:Int,d=((u.natAbs%1048576:Nat):Int)->∃bp:Int×Nat×List Int,bp.1.natAbs<u.natAbs/\bp.1<=0/\n<=bp.1/\aJ n.natAbs=bp.2.2++aJ bp.1.natAbs/\R.J (.int .i64 (u.tdiv 1048576))=R.J (.int .i64 bp.1)/\R.ref 144022 (g+1) 1 0 (D l+1)=R.ref 144022 bp.2.1 1 0 bp.2.2.length/\some (g+1,a7 ae (l++[d]))=some (bp.2.1,a7 ae bp.2.2):=by
    intro d Bo;refine⟨(u.tdiv 1048576,g+1,l++[d]),by dsimp only;omega,by dsimp only;omega,by dsimp only;omega,?_,rfl,by simp,rfl⟩
    dsimp only;rw[aa,vG,Bo,aD,gW]
    rfl
   by_cases aV:u.tmod 1048576<0
   ·simp only[go_sem,go_sem_proc,gY,ao,I,af,aO,hm,xr,yF,dg,oV,fy,aV,decide_true,aj,bf];repeat' (first|refine ax ?_ ?_|fail)<;>intro h<;>simp only[h,go_sem,go_sem_proc,gY,ao,I,af,aO,hm,xr,yF,dg,oV,fy,aV,decide_true,aj,bf]
    exact iE _ (by omega)
   ·simp only[go_sem,go_sem_proc,gY,ao,I,af,aO,hm,xr,yF,dg,oV,fy,aV,decide_false,aj,bf];repeat' (first|refine ax ?_ ?_|fail)<;>intro h<;>simp only[h,go_sem,go_sem_proc,gY,ao,I,af,aO,hm,xr,yF,dg,oV,fy,aV,decide_false,aj,bf]
    exact iE _ (by omega)
 ·have rP:=U 1 (jY (by omega)).symm;simp only[go_sem,go_sem_proc,gY,bE,h4,decide_false];refine dw [2,3] [144002] (λ((u,g,l):Int×Nat×List Int) tm mem=>0<=u/\u<=n/\aJ n.natAbs=l++aJ u.natAbs/\tm 0=.J (.int .i64 u)/\tm 4=.ref 144022 g 1 0 (D l)/\mem 144022=some (g,a7 ae l)) (λ(u,_)=>u.natAbs) (n,0,[]) (by refine⟨by omega,by omega,rfl,rfl,rfl,rfl⟩) ?_;intro vs ms aT aS;simp only[go_sem,go_sem_proc,gY,h4,decide_false] at aT aS;subst aT aS;rintro⟨u,g,l⟩ tm mem Q hm ⟨hu,aut,aa,ao,aO,xr⟩;simp only[go_sem,go_sem_proc,gY,bf] at Q hm;obtain⟨I,af⟩:=Q;rcases dF (u=0) with rfl|El
  ·rw[show (0:Int).natAbs=0 from rfl,sG,fE] at aa;rw[aa] at rP vK;simp only[go_sem,go_sem_proc,gY,ao,I,af,aO,hm,xr,rP,vK,lX hd,kN,dc,aj,beq_self_eq_true];repeat' (first|refine ax ?_ ?_|fail)<;>intro h<;>simp only[h,go_sem,go_sem_proc,gY,ao,I,af,aO,hm,xr,rP,vK,lX hd,kN,dc,aj,beq_self_eq_true]
  ·have Ad:(D l)<=60:=by
    have:=congrArg D aa;rw[fr] at this;omega
   have yF:(u==0)=false:=by simpa using El
   have dg:=λd:Int=>k6 hd tN 144022 g 8 l d (cs:=[.J (.int .i64 d)]) rfl (by omega) (by omega);have az:=agO u;have aD:=agP u;have bZ:=agQ (a:=u) 1048576 (by omega);have dr:=agR (a:=u) (b:=1048576) (by omega) (by omega);have oV:IntKind.i64.wrap (u.tdiv 1048576)=u.tdiv 1048576:=wrap64 _ (by omega) (by omega);have vG:=vp (n:=u.natAbs) (by omega);have aV:decide (u.tmod 1048576<0)=false:=dn;simp only[go_sem,go_sem_proc,gY,ao,I,af,aO,hm,xr,yF,dg,oV,aV,aj,bf];repeat' (first|refine ax ?_ ?_|fail)<;>intro h<;>simp only[h,go_sem,go_sem_proc,gY,ao,I,af,aO,hm,xr,yF,dg,oV,aV,aj,bf]
   refine⟨(u.tdiv 1048576,g+1,l++[u.tmod 1048576]),by dsimp only;omega,by dsimp only;omega,by dsimp only;omega,?_,rfl,by simp,by first|rfl|simp[go_sem]⟩
   dsimp only;rw[aa,vG,aD,gW,show u.tmod 1048576=((u.natAbs%1048576:Nat):Int) by omega]
   rfl
def Yh:=cu xg λ(s,l,s2,aq)=>cU (D l<=1000000/\D aq<=1000000) (.same (fS (l3 (s,l) (s2,aq))))
@[go_sem] theorem aKK (s:Int)(l:List Int)(s2:Int)(aq:List Int)(H:(D l)<=1000000/\D aq<=1000000):Yh [.agg [.int .i64 s,.Y (l.map ae)],.agg [.int .i64 s2,.Y (aq.map ae)]]=some (.same (fS (l3 (s,l) (s2,aq)))):=(cD Af (s,l,s2,aq)).trans (cZ H _)
theorem auu (T:bl)(j2:T vu=aW HA)(oq:T KL=aW Qo)(gY:T vv=aW Hz)(s:Int)(l:List Int)(s2:Int)(aq:List Int)(H:(D l)<=1000000/\D aq<=1000000):WP T XU (.same (fS (l3 (s,l) (s2,aq)))) [.J (.agg [.int .i64 s,.Y (l.map ae)]),.J (.agg [.int .i64 s2,.Y (aq.map ae)])]:=by
 refine cE ?_;simp only[XU];obtain⟨cr,cf⟩:=H
 by_cases ab:dI (s,l)=true
 ·by_cases bH:dI (s2,aq)=true
  ·obtain⟨x,O,e⟩:=(jX _).1 ab;obtain⟨y,aw,aD⟩:=(jX _).1 bH
   have hm:l3 (s,l) (s2,aq)=(bT (jo x.natAbs y.natAbs:Nat),0):=by
    rw[e,aD];unfold l3
    rw[ld O,ld aw,fR,fR]
    rfl
   rw[hm];clear hm
   cases e
   cases aD;have oh:=rK O;have k9:=rK aw;have bc:=Lo O aw;generalize nA:x.natAbs=c6 at *;generalize Ag:y.natAbs=gi at *;have Wq:(aJ c6).length<=1000000:=by omega
   simp only[go_sem,go_sem_proc,j2,oq,gY,ab,bH,nA,Ag,cr,cf,Wq,ae,aj];refine dw [4] [164004] (λ((a,b):Nat×Nat) tm mem=>a<ee/\b<ee/\jo c6 gi=jo a b/\tm 6=.J (.Y ((aJ a).map ae))/\tm 7=.J (.Y ((aJ b).map ae))) (λ(_,b)=>b) (c6,gi) (by refine⟨O,aw,rfl,rfl,rfl⟩) ?_;intro vs ms aT aS;simp only[go_sem,go_sem_proc,j2,oq,gY,nA,Ag] at aT aS;subst aT aS;rintro⟨a,b⟩ tm mem Q hm ⟨aN,ag,xj,bR,bN⟩;simp only[go_sem,go_sem_proc,j2,oq,gY,bf] at Q hm;have aO:=Q;have iU:(aJ a).length<=60:=g4.2 aN;have kK:(aJ b).length<=60:=g4.2 ag;rcases k4 b with ao|h4
   ·subst ao;have aV:aJ 0=[]:=rfl;have Wr:(aJ a).length<=1000000:=by omega
    rw[afW] at xj;have U:kn 1 (aJ a)=bT ((a:Nat):Int):=p0 (by simp) λaK=>(jY (by omega)).symm;rw[xj];refine aZ ?_;repeat' (intro h<;>simp only[h,go_sem,go_sem_proc,j2,oq,gY,aO,bR,bN,hm,aV,Wr,U,dc,fS,nC,cY,jy,lC,l0,show ¬ ((0:Int)>0) by omega,decide_false]<;>try refine ax ?_ ?_)
   ·have bE:decide (((aJ b).length:Int)>0)=true:=by
     have:aJ b≠[]:=by rw[Ne,zQ];omega
     have:=PQ.2 this;exact dp
    have hdiv:=agL a b ⟨by omega,by omega,h4⟩
    simp only[b4] at hdiv;refine aZ ?_;repeat' (intro h<;>simp only[h,go_sem,go_sem_proc,j2,oq,gY,aO,bR,bN,hm,bE,hdiv,aj]<;>try refine ax ?_ ?_)
    exact⟨(b,a%b),oj _ h4,ag,vD (Nat.mod_le _ _) aN,by dsimp only;rw[xj,PR a b,afX b a,PR],rfl,rfl⟩
  ·have bH:dI (s2,aq)=false:=by simpa using bH
   have hm:l3 (s,l) (s2,aq)=((0,[]),1):=by unfold l3;rw[bH,hP];rfl
   rw[hm];refine aZ ?_;repeat' (intro h<;>simp only[h,go_sem,go_sem_proc,j2,oq,gY,ab,bH,cr,cf,dc,fS,cY]<;>try refine ax ?_ ?_)
 ·have ab:dI (s,l)=false:=by simpa using ab
  have hm:l3 (s,l) (s2,aq)=((0,[]),1):=by unfold l3;rw[ab,fu];rfl
  rw[hm];refine aZ ?_;repeat' (intro h<;>simp only[h,go_sem,go_sem_proc,j2,oq,gY,ab,cr,cf,dc,fS,cY]<;>try refine ax ?_ ?_)

def Yi:=cu xg λ(s,l,s2,aq)=>cU (D l<=1000000/\D aq<=1000000) (.same (ho (kM (s,l) (s2,aq))))
@[go_sem] theorem aKL (s:Int)(l:List Int)(s2:Int)(aq:List Int)(H:(D l)<=1000000/\D aq<=1000000):Yi [.agg [.int .i64 s,.Y (l.map ae)],.agg [.int .i64 s2,.Y (aq.map ae)]]=some (.same (ho (kM (s,l) (s2,aq)))):=(cD Af (s,l,s2,aq)).trans (cZ H _)
theorem auv (T:bl)(j2:T vu=aW HA)(oq:T KL=aW Qo)(vR:T UB=aW X7)(lh:T KM=aW Qm)(gY:T vv=aW Hz)(s:Int)(l:List Int)(s2:Int)(aq:List Int)(H:(D l)<=1000000/\D aq<=1000000):WP T XV (.same (ho (kM (s,l) (s2,aq)))) [.J (.agg [.int .i64 s,.Y (l.map ae)]),.J (.agg [.int .i64 s2,.Y (aq.map ae)])]:=by
 refine cE ?_;simp only[XV];obtain⟨cr,cf⟩:=H
 by_cases ab:dI (s,l)=true
 ·by_cases bH:dI (s2,aq)=true
  ·obtain⟨x,O,e⟩:=(jX _).1 ab;obtain⟨y,aw,aD⟩:=(jX _).1 bH
   by_cases iW:y=0
   ·have hm:kM (s,l) (s2,aq)=((0,[]),(0,[]),15):=by
     rw[e,aD];unfold kM
     rw[ld O,ld aw,fR,fR,ad (by rfl),ad iW]
    rw[hm]
    cases e
    cases aD;have ao:((y.sign:Int)==0)=true:=by rw[iW];rfl
    simp only[go_sem,go_sem_proc,j2,oq,vR,lh,gY,ab,bH,cr,cf,ao,dc,ho,cY];repeat' (first|refine ax ?_ ?_|fail)<;>intro h<;>simp only[h,go_sem,go_sem_proc,j2,oq,vR,lh,gY,ab,bH,cr,cf,ao,dc,ho,cY]
   ·have hm:kM (s,l) (s2,aq)=(bT (x.fdiv y),bT (x.fmod y),0):=by
     rw[e,aD];exact Eg O aw iW
    rw[hm];clear hm
    cases e
    cases aD;have oh:=rK O;have k9:=rK aw;have uf:(y.sign==0)=false:=by rw[beq_eq_false_iff_ne,Ne,Wu];exact iW
    have Eh:0<y.natAbs:=by omega
    have F:=rL x;have I:=rL y;have aG:x.sign*y.sign=(x*y).sign:=(sN x y).symm;have af:=rL (x*y);have hw:IntKind.i64.wrap (x.sign*y.sign)=x.sign*y.sign:=by rw[aG];exact wrap64 _ (by omega) (by omega)
    have hdiv:=agL x.natAbs y.natAbs ⟨by omega,by omega,Eh⟩
    simp only[b4] at hdiv;have aL:=Hg (y:=y) O iW;have yJ:=af1 (x:=x) aw iW;have Wv:x.natAbs/y.natAbs<ee:=vD (Wt _ _) O;have asV:(aJ (x.natAbs/y.natAbs)).length<=60:=g4.2 Wv;have Ei:x.natAbs%y.natAbs<ee:=af2 (oj _ Eh) aw;have asW:(aJ (x.natAbs%y.natAbs)).length<=60:=g4.2 Ei
    by_cases ug:x.sign*y.sign<0/\x.natAbs%y.natAbs≠0
    ·obtain⟨eq,uh⟩:=PS ug.1 ug.2
     have bE:(((aJ (x.natAbs%y.natAbs)).length:Int)==0)=false:=by
      have:aJ (x.natAbs%y.natAbs)≠[]:=by rw[Ne,zQ];exact ug.2
      have:=PQ.2 this;rw[beq_eq_false_iff_ne];omega
     have kL:decide (x.sign*y.sign>=0)=false:=mw (by have:=ug.1;omega);have jV:aJ 1=[1]:=by simp[aJ,yu]
     have asX:(aJ 1).length=1:=by rw[jV];rfl
     have iI:=aud (x.natAbs/y.natAbs) 1 ⟨by omega,by omega⟩
     simp only[b4,jV,eA,cY,ae] at iI;have jW:=agF y.natAbs (x.natAbs%y.natAbs) ⟨by omega,by omega,PW (oj _ Eh)⟩
     simp only[b4] at jW
     have iU:(aJ (x.natAbs/y.natAbs+1)).length<=1000000:=by
      have:(x.natAbs/y.natAbs+1)<ee:=by rw[eq] at aL;rw[PX,mQ] at aL;exact aL
      have:=(g4 (k:=60)).2 this;omega
     have kK:(aJ (y.natAbs-x.natAbs%y.natAbs)).length<=1000000:=by have:=PM y.natAbs (x.natAbs%y.natAbs);omega
     have hA:kn (-1) (aJ (x.natAbs/y.natAbs+1))=bT (x.fdiv y):=p0 (by rw[eq,PX,mQ]) λ_=>by rw[eq,Ef,jY (show (0:Int)<((x.natAbs/y.natAbs+1:Nat):Int) by exact Ej.2 (af3 _))]
     have ko:kn y.sign (aJ (y.natAbs-x.natAbs%y.natAbs))=bT (x.fmod y):=by
      refine p0 ?_ λaK=>?_
      ·rw[uh];rcases mP y with ⟨e',af⟩|⟨e',af⟩|⟨e',af⟩<;>rw[e']<;>omega
      ·rw[uh,sN,Ci,jY (show (0:Int)<((y.natAbs-x.natAbs%y.natAbs:Nat):Int) by omega),vA]
     simp only[go_sem,go_sem_proc,j2,oq,vR,lh,gY,ab,bH,cr,cf,uf,hw,hdiv,bE,kL,iI,jW,iU,kK,hA,ko,ae,aj,dc,ho,nC];repeat' (first|refine ax ?_ ?_|fail)<;>intro h<;>simp only[h,go_sem,go_sem_proc,j2,oq,vR,lh,gY,ab,bH,cr,cf,uf,hw,hdiv,bE,kL,iI,jW,iU,kK,hA,ko,ae,aj,dc,ho,nC]
    ·obtain⟨eq,uh⟩:=PU iW ug
     have Ww:(decide (x.sign*y.sign>=0)=false/\(((aJ (x.natAbs%y.natAbs)).length:Int)==0)=true)\/decide (x.sign*y.sign>=0)=true:=by
      by_cases aK:x.sign*y.sign<0
      ·left
       have:x.natAbs%y.natAbs=0:=af4.1 λh=>ug ⟨aK,h⟩;rw[this];exact⟨dn,rfl⟩
      ·right;exact dp
     have iU:(aJ (x.natAbs/y.natAbs)).length<=1000000:=by omega
     have kK:(aJ (x.natAbs%y.natAbs)).length<=1000000:=by omega
     have hA:kn (x.sign*y.sign) (aJ (x.natAbs/y.natAbs))=bT (x.fdiv y):=by
      refine p0 ?_ λaK=>?_
      ·rw[eq]
       have Ek:∀aM:Nat,(x=0->aM=0)->(x.sign*y.sign*(aM:Int)).natAbs=aM:=by
        intro aM ao;rcases mP x with ⟨e,F⟩|⟨e,F⟩|⟨e,F⟩<;>rcases mP y with ⟨e',af⟩|⟨e',af⟩|⟨e',af⟩<;>rw[e,e']<;>first|omega|(rw[ao F];rfl)
       exact Ek _ λao=>by rw[ao];exact Wx _
      ·rw[eq,aG,sN,sN,sN,Ci,Ci,jY (show (0:Int)<((x.natAbs/y.natAbs:Nat):Int) from Ej.2 (PY aK)),vA]
     have ko:kn x.sign (aJ (x.natAbs%y.natAbs))=bT (x.fmod y):=by
      refine p0 ?_ λaK=>?_
      ·rw[uh]
       have Ek:∀aM:Nat,(x=0->aM=0)->(x.sign*(aM:Int)).natAbs=aM:=by
        intro aM ao;rcases mP x with ⟨e,F⟩|⟨e,F⟩|⟨e,F⟩<;>rw[e]<;>first|omega|(rw[ao F];rfl)
       exact Ek _ λao=>by rw[ao];exact Ws _
      ·rw[uh,sN,Ci,jY (show (0:Int)<((x.natAbs%y.natAbs:Nat):Int) from Ej.2 (PY aK)),vA]
     rcases Ww with ⟨xk,Lq⟩|xk
     ·simp only[go_sem,go_sem_proc,j2,oq,vR,lh,gY,ab,bH,cr,cf,uf,hw,hdiv,xk,Lq,iU,kK,hA,ko,ae,aj,dc,ho,nC];repeat' (first|refine ax ?_ ?_|fail)<;>intro h<;>simp only[h,go_sem,go_sem_proc,j2,oq,vR,lh,gY,ab,bH,cr,cf,uf,hw,hdiv,xk,Lq,iU,kK,hA,ko,ae,aj,dc,ho,nC]
     ·simp only[go_sem,go_sem_proc,j2,oq,vR,lh,gY,ab,bH,cr,cf,uf,hw,hdiv,xk,iU,kK,hA,ko,ae,aj,dc,ho,nC];repeat' (first|refine ax ?_ ?_|fail)<;>intro h<;>simp only[h,go_sem,go_sem_proc,j2,oq,vR,lh,gY,ab,bH,cr,cf,uf,hw,hdiv,xk,iU,kK,hA,ko,ae,aj,dc,ho,nC]
  ·have bH:dI (s2,aq)=false:=by simpa using bH
   have hm:kM (s,l) (s2,aq)=((0,[]),(0,[]),1):=by unfold kM;rw[bH,hP];rfl
   rw[hm];simp only[go_sem,go_sem_proc,j2,oq,vR,lh,gY,ab,bH,cr,cf,dc,ho,cY];repeat' (first|refine ax ?_ ?_|fail)<;>intro h<;>simp only[h,go_sem,go_sem_proc,j2,oq,vR,lh,gY,ab,bH,cr,cf,dc,ho,cY]
 ·have ab:dI (s,l)=false:=by simpa using ab
  have hm:kM (s,l) (s2,aq)=((0,[]),(0,[]),1):=by unfold kM;rw[ab,fu];rfl
  rw[hm];simp only[go_sem,go_sem_proc,j2,oq,vR,lh,gY,ab,cr,cf,dc,ho,cY];repeat' (first|refine ax ?_ ?_|fail)<;>intro h<;>simp only[h,go_sem,go_sem_proc,j2,oq,vR,lh,gY,ab,cr,cf,dc,ho,cY]
def Yj:bY:=cq 19 2 [.t 4] (X [dX 2 115002 0,cO 4 false] (X [bj 5 0 2,bj 6 1 5,aU 7 1 6,cd 8 7,G 9 1,bB 10 .leq 8 9,G 11 10,⟨some 12,some (11,true),.eu 2 (.t 2)⟩,⟨some 13,some (11,true),.eu 1 (.t 12)⟩,⟨some 14,some (11,true),.load 1 false (.t 13)⟩,⟨some 15,some (11,true),.len (.t 14)⟩,⟨some 16,some (11,true),.cN (.t 1)⟩,⟨some 17,some (11,true),.bin .leq (.t 15) (.t 16)⟩,gK 18 11 17,G 4 18] .ret))
def Yk:bY:=cq 13 2 [.cell 4 4 true,.t 5] (X [(aC 4 (.alloc 124004 [(al 0),.nil,(al 0),.nil])),bA 5 0] (X [G 6 0,(eb 7 OV 6),G 8 1,(eb 9 OV 8),(cA 10 Up 7 9),bK 11 0 10,bK 12 1 10,bq 4 4 11,G 5 12] .ret))
def Yl:bY:=cq 57 2 [.cell 4 4 true,.t 5] (X [dX 2 143002 0,dX 3 143003 1,(aC 4 (.alloc 143004 [(al 0),.nil,(al 0),.nil])),bA 5 0] (.seq (X [bs 14 2 2,(eb 15 vu 14),fx 16 15,G 17 16,⟨some 18,some (17,false),.load 2 true (.t 3)⟩,⟨some 19,some (17,false),.call vu [(.t 18)]⟩,⟨some 20,some (17,false),.un .not (.t 19)⟩,ey 21 17 20] (a6 21 (X [(aC 22 (.build [(al 0),.nil,(al 0),.nil] [])),bq 4 4 22,bA 5 1] .ret) .skip)) (.seq (X [bj 23 0 3,aU 24 1 23,bm 25 .eql 24 0] (a6 25 (X [(aC 26 (.build [(al 0),.nil,(al 0),.nil] [])),bq 4 4 26,bA 5 15] .ret) .skip)) (.seq (X [bj 27 0 3,aU 28 1 27,bm 29 .lss 28 0] (a6 29 (X [bs 30 2 2,(eb 31 OY 30),bq 2 2 31] (.ops [bs 32 2 3,(eb 33 OY 32),bq 2 3 33])) .skip)) (X [bs 35 2 2,bs 36 2 3,(cA 37 Ux 35 36),G 34 37,bK 38 0 34,bK 39 1 34,(aC 6 (.alloc 143006 [(al 0),.nil])),bq 2 6 38,G 7 39] (X [bs 41 2 2,bs 42 2 6,(cA 43 OZ 41 42),G 40 43,bK 44 0 40,bK 45 1 40,bK 46 2 40,(aC 8 (.alloc 143008 [(al 0),.nil])),(aC 9 (.alloc 143009 [(al 0),.nil])),bq 2 8 44,bq 2 9 45,G 10 46] (X [bs 48 2 3,bs 49 2 6,(cA 50 OZ 48 49),G 47 50,bK 51 0 47,bK 52 1 47,bK 53 2 47,(aC 11 (.alloc 143011 [(al 0),.nil])),(aC 12 (.alloc 143012 [(al 0),.nil])),bq 2 11 51,bq 2 12 52,G 13 53] (X [bs 54 2 8,bs 55 2 11,(aC 56 (.build [(al 0),.nil,(al 0),.nil] [(0,2,(.t 54)),(2,2,(.t 55))])),bq 4 4 56,bA 5 0] .ret))))))))
end Go.Mini
