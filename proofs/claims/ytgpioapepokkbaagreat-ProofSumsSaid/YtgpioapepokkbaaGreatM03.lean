/- A part of the proof. -/
import Derived.Test.YtgpioapepokkbaaGreatM02
set_option linter.unusedSimpArgs false
set_option linter.unusedVariables false
set_option maxRecDepth 100000
set_option maxHeartbeats 4000000
noncomputable section
open Bool renaming and_eq_true->e9,and_false->iZ,eq_iff_iff->B7,false_and->fB,false_eq_true->k0,not_eq_false'->agT,not_eq_true'->uf,true_and->g1
open Decidable renaming em->dv,not_not->af9
open Int renaming add_comm->yi,add_zero->wY,cast_ofNat_Int->l6,fdiv_eq_ediv_of_nonneg->age,le_of_lt->PN,lt_trichotomy->yk,mul_add->iA,mul_assoc->iB,mul_comm->nt,mul_fdiv_add_fmod->PY,mul_ne_zero->z7,mul_neg->K9,mul_nonneg->yh,mul_one->vy,mul_zero->tT,natAbs_mul->qJ,natAbs_natCast->mR,natAbs_neg->PL,natCast_add->af5,natCast_pos->Ec,natCast_zero->lG,neg_mul->GR,ofNat_sub->af4,one_mul->n6,pow_pos->GK,pow_succ->ns,reducePow->agd,sign_eq_neg_one_of_neg->rF,sign_eq_one_of_pos->j6,sign_eq_zero_iff_zero->Wt,sign_mul->sE,sign_neg->D8,sign_sign->B5,sign_zero->yy,sub_zero->KU,tdiv_eq_ediv_of_nonneg->GD,tdiv_nonneg->agX,tmod_eq_emod_of_nonneg->KV,tmod_nonneg->agW,toNat_natCast->lH,zero_mul->z0,zero_sub->agt
open List renaming all_cons->Gb,append_assoc->gM,append_nil->fG,drop_eq_getElem_cons->iu,drop_set_of_lt->tx,drop_zero->l2,findIdx?_eq_none_iff->agx,findIdx?_eq_some_iff_getElem->agw,flatten_nil->agG,getD_eq_getElem?_getD->dZ,getElem?_eq_getElem->bu,getElem?_eq_none->mx,getElem?_map->bh,getElem_mem->np,length->D,length_append->fQ,length_cons->h8,length_map->ai,length_nil->k9,length_pos_iff->PD,length_singleton->Cg,length_take->gC,map_cons->eC,map_nil->cS,map_take->z9,mem_replicate->Gz,mem_singleton->tU,replicate->dD,take_length->lK,take_of_length_le->dx
open List.cons renaming injEq->a6
open Nat renaming div_add_mod->PH,div_div_eq_div_mul->agJ,div_le_self->Ws,eq_zero_or_pos->k6,gcd->jx,gcd_comm->PF,gcd_rec->af2,gcd_zero_right->af1,le_of_lt->PK,le_refl->bX,lt_of_div_lt_div->agK,lt_of_le_of_lt->vB,lt_of_lt_of_le->C7,lt_or_ge->ir,lt_trans->af7,max_eq_right->X9,min_eq_left->oK,mod_lt->qK,mul_comm->rz,mul_le_mul_right->vd,mul_lt_mul_of_pos_left->agQ,mul_one->cD,pos_of_ne_zero->PM,pow_succ->wJ,reduceEqDiff->dW,reduceMul->agc,succ_pos->af8,zero_div->Ww,zero_le->fs,zero_mod->Wr
open Option renaming bind_none->kQ,bind_some->la
open Option.some renaming injEq->cm
open Prod renaming ext->dQ,fst->B8
open Rat renaming divInt->l9,divInt_mul_divInt->agl,neg_divInt_neg->agf,num_divInt_den->Eh,sub_eq_add_neg->Lj
namespace Go.Mini
open Go
theorem mQ (x:Int):(x.sign=1/\0<x)\/(x.sign=0/\x=0)\/(x.sign = -1/\x<0):=by
 rcases yk x 0 with h|h|h
 ·exact .inr (.inr ⟨rF h,h⟩)
 ·exact .inr (.inl ⟨by rw[h];rfl,h⟩)
 ·exact .inl ⟨j6 h,h⟩
def w3 (a b:Raw):Int:=if (dB a&&dB b)=true then hQ (iD a) (iD b) else 0
theorem af0 {x y:Int}(O:x.natAbs<ea)(ar:y.natAbs<ea):w3 (bQ x) (bQ y)=hQ x y:=by
 unfold w3;rw[lj O,lj ar,fT,fT]
 rfl
theorem K6 {x y:Int}(h:x<y):hQ x y = -1:=by unfold hQ;rw[ab (by simpa using h)]
theorem K7 {x y:Int}(h:y<x):hQ x y=1:=by unfold hQ;rw[ag (by simp;omega),ab (by simpa using h)]
theorem PB (x:Int):hQ x x=0:=by unfold hQ;simp
def Wo:=cj w2 λ(s,l,s2,al)=>cN (D l<=1000000/\D al<=1000000) (.same (.int .i64 (w3 (s,l) (s2,al))))
@[go_sem] theorem aKT (s:Int)(l:List Int)(s2:Int)(al:List Int)(G:(D l)<=1000000/\D al<=1000000):Wo [.agg [.int .i64 s,.X (l.map ad)],.agg [.int .i64 s2,.X (al.map ad)]]=some (.same (.int .i64 (w3 (s,l) (s2,al)))):=(cu zY (s,l,s2,al)).trans (cT G _)
theorem as0 (T:bb)(dF:T lb=aV wQ)(n4:T Gl=aV O1)(gj:T DK=aV KS)(s:Int)(l:List Int)(s2:Int)(al:List Int)(G:(D l)<=1000000/\D al<=1000000):WP T Va (.same (.int .i64 (w3 (s,l) (s2,al)))) [.I (.agg [.int .i64 s,.X (l.map ad)]),.I (.agg [.int .i64 s2,.X (al.map ad)])]:=by
 refine cv ?_;simp only[Va];obtain⟨b5,cw⟩:=G
 by_cases aa:dB (s,l)=true
 ·by_cases bC:dB (s2,al)=true
  ·obtain⟨x,O,e⟩:=(j5 _).1 aa;obtain⟨y,ar,aB⟩:=(j5 _).1 bC;have hm:w3 (s,l) (s2,al)=hQ x y:=by rw[e,aB];exact af0 O ar
   rw[hm];clear hm
   cases e
   cases aB;have n8:=rG O;have lf:=rG ar;have fx:=VH x.natAbs y.natAbs ⟨by omega,by omega⟩
   simp only[b4] at fx
   by_cases U:x.sign=y.sign
   ·have B4:(x.sign==y.sign)=true:=by simpa using U
    have vi:IntKind.i64.wrap (y.sign*hQ x.natAbs y.natAbs)=hQ x y:=by
     rcases mQ x with ⟨e,E⟩|⟨e,E⟩|⟨e,E⟩<;>rcases mQ y with ⟨e',H⟩|⟨e',H⟩|⟨e',H⟩<;>rw[e,e'] at U<;>first|omega|skip
     ·rw[e',n6,show (x.natAbs:Int)=x by omega,show (y.natAbs:Int)=y by omega]
      rcases yk x y with h|h|h
      ·rw[K6 h];rfl
      ·rw[h,PB];rfl
      ·rw[K7 h];rfl
     ·rw[e',E,H];rfl
     ·rw[e'];rcases yk x y with h|h|h
      ·rw[K6 h,K7 (by omega)];rfl
      ·rw[h,PB,PB];rfl
      ·rw[K7 h,K6 (by omega)];rfl
    rw[<-U] at vi;simp only[go_sem,go_sem_proc,dF,n4,gj,aa,bC,b5,cw,B4,fx,vi];repeat' (first|refine ax ?_ ?_|fail)<;>intro h<;>simp only[h,go_sem,go_sem_proc,dF,n4,gj,aa,bC,b5,cw,B4,fx,vi]
   ·have B4:(x.sign==y.sign)=false:=by simpa using U
    have vi:hQ x.sign y.sign=hQ x y:=by
     rcases mQ x with ⟨e,E⟩|⟨e,E⟩|⟨e,E⟩<;>rcases mQ y with ⟨e',H⟩|⟨e',H⟩|⟨e',H⟩<;>rw[e,e'] at U ⊢<;>first|omega|(rw[K6 (show x<y by omega)];rfl)|(rw[K7 (show y<x by omega)];rfl)
    simp only[go_sem,go_sem_proc,dF,n4,gj,aa,bC,b5,cw,B4,vi];repeat' (first|refine ax ?_ ?_|fail)<;>intro h<;>simp only[h,go_sem,go_sem_proc,dF,n4,gj,aa,bC,b5,cw,B4,vi]
  ·have bC:dB (s2,al)=false:=by simpa using bC
   have hm:w3 (s,l) (s2,al)=0:=by unfold w3;rw[bC,iZ];rfl
   rw[hm];simp only[go_sem,go_sem_proc,dF,n4,gj,aa,bC,b5,cw];repeat' (first|refine ax ?_ ?_|fail)<;>intro h<;>simp only[h,go_sem,go_sem_proc,dF,n4,gj,aa,bC,b5,cw]
 ·have aa:dB (s,l)=false:=by simpa using aa
  have hm:w3 (s,l) (s2,al)=0:=by unfold w3;rw[aa,fB];rfl
  rw[hm];simp only[go_sem,go_sem_proc,dF,n4,gj,aa,b5,cw];repeat' (first|refine ax ?_ ?_|fail)<;>intro h<;>simp only[h,go_sem,go_sem_proc,dF,n4,gj,aa,b5,cw]
def l8 (a b:Raw):Raw×Int:=if (dB a&&dB b)=true then (bQ (jx (iD a).natAbs (iD b).natAbs:Nat),0) else ((0,[]),1)
theorem K8 {x y:Int}(O:x.natAbs<ea)(ar:y.natAbs<ea):jx x.natAbs y.natAbs<ea:=by
 rcases k6 x.natAbs with h|h
 ·rw[h,Nat.gcd_zero_left];exact ar
 ·exact vB (Nat.gcd_le_left _ h) O
def PC:=cj w2 λ(s,l,s2,al)=>cN (D l<=1000000/\D al<=1000000) (.same (fU (l8 (s,l) (s2,al))))
@[go_sem] theorem aKU (s:Int)(l:List Int)(s2:Int)(al:List Int)(G:(D l)<=1000000/\D al<=1000000):PC [.agg [.int .i64 s,.X (l.map ad)],.agg [.int .i64 s2,.X (al.map ad)]]=some (.same (fU (l8 (s,l) (s2,al)))):=(cu zY (s,l,s2,al)).trans (cT G _)
theorem as1 (T:bb)(dF:T lb=aV wQ)(fN:T vp=aV BE)(n9:T Kr=aV Pf)(fC:T pn=aV BG)(na:T vo=aV K4)(s:Int)(l:List Int)(s2:Int)(al:List Int)(G:(D l)<=1000000/\D al<=1000000):WP T U5 (.same (fU (l8 (s,l) (s2,al)))) [.I (.agg [.int .i64 s,.X (l.map ad)]),.I (.agg [.int .i64 s2,.X (al.map ad)])]:=by
 refine cv ?_;simp only[U5];obtain⟨b5,cw⟩:=G
 by_cases aa:dB (s,l)=true
 ·by_cases bC:dB (s2,al)=true
  ·obtain⟨x,O,e⟩:=(j5 _).1 aa;obtain⟨y,ar,aB⟩:=(j5 _).1 bC
   have hm:l8 (s,l) (s2,al)=(bQ (jx x.natAbs y.natAbs:Nat),0):=by
    rw[e,aB];unfold l8
    rw[lj O,lj ar,fT,fT]
    rfl
   rw[hm];clear hm
   cases e
   cases aB;have n8:=rG O;have lf:=rG ar;have a9:=K8 O ar;generalize nw:x.natAbs=df at *;generalize zZ:y.natAbs=gk at *;have Wp:(aJ df).length<=1000000:=by omega
   simp only[go_sem,go_sem_proc,dF,fN,n9,fC,na,aa,bC,nw,zZ,b5,cw,Wp,ad,ai];refine dm [4] [137004] (λ((a,b):Nat×Nat) tm mem=>a<ea/\b<ea/\jx df gk=jx a b/\tm 6=.I (.X ((aJ a).map ad))/\tm 7=.I (.X ((aJ b).map ad))) (λ(_,b)=>b) (df,gk) (by refine⟨O,ar,rfl,rfl,rfl⟩) ?_;intro vs ms aR aN;simp only[go_sem,go_sem_proc,dF,fN,n9,fC,na,nw,zZ] at aR aN;subst aR aN;rintro⟨a,b⟩ tm mem M hm ⟨aM,ae,w4,bU,bM⟩;simp only[go_sem,go_sem_proc,dF,fN,n9,fC,na,a6] at M hm;have aP:=M;have ja:(aJ a).length<=60:=hb.2 aM;have kL:(aJ b).length<=60:=hb.2 ae;rcases k6 b with ao|ib
   ·subst ao;have aW:aJ 0=[]:=rfl;have Wq:(aJ a).length<=1000000:=by omega
    rw[af1] at w4;have U:ku 1 (aJ a)=bQ ((a:Nat):Int):=pX (by simp) λaH=>(j6 (by omega)).symm;have M:sC ((a:Nat):Int)=(bQ ((a:Nat):Int),0):=by unfold sC;rw[ab (by simpa using aM)]
    rw[w4];refine aY ?_;repeat' (intro h<;>simp only[h,go_sem,go_sem_proc,dF,fN,n9,fC,na,aP,bU,bM,hm,aW,Wq,U,M,BW,da,fU,ny,cS,k9,lG,l6,show ¬ ((0:Int)>0) by omega,decide_false]<;>try refine ax ?_ ?_)
   ·have bI:decide (((aJ b).length:Int)>0)=true:=by
     have:aJ b≠[]:=by rw[Ne,zD];omega
     have:=PD.2 this;exact dj
    have hdiv:=afJ a b ⟨by omega,by omega,ib⟩
    simp only[b4] at hdiv;refine aY ?_;repeat' (intro h<;>simp only[h,go_sem,go_sem_proc,dF,fN,n9,fC,na,aP,bU,bM,hm,bI,hdiv,ai]<;>try refine ax ?_ ?_)
    exact⟨(b,a%b),qK _ ib,ae,vB (Nat.mod_le _ _) aM,by dsimp only;rw[w4,PF a b,af2 b a,PF],rfl,rfl⟩
  ·have bC:dB (s2,al)=false:=by simpa using bC
   have hm:l8 (s,l) (s2,al)=((0,[]),1):=by unfold l8;rw[bC,iZ];rfl
   rw[hm];have oV:=GP false 0 [];simp only[cS] at oV;refine aY ?_;repeat' (intro h<;>simp only[h,go_sem,go_sem_proc,dF,fN,n9,fC,na,aa,bC,b5,cw,oV,da,fU,cS]<;>try refine ax ?_ ?_)
 ·have aa:dB (s,l)=false:=by simpa using aa
  have hm:l8 (s,l) (s2,al)=((0,[]),1):=by unfold l8;rw[aa,fB];rfl
  rw[hm];have oV:=GP false 0 [];simp only[cS] at oV;refine aY ?_;repeat' (intro h<;>simp only[h,go_sem,go_sem_proc,dF,fN,n9,fC,na,aa,b5,cw,oV,da,fU,cS]<;>try refine ax ?_ ?_)
def kN (a b:Raw):Raw×Raw×Int :=
 if (dB a&&dB b)=true then
  if iD b=0 then ((0,[]),(0,[]),15) else (bQ ((iD a).fdiv (iD b)),bQ ((iD a).fmod (iD b)),0)
 else ((0,[]),(0,[]),1)
def hA (x:Raw×Raw×Int):Data:=.cH [.agg (da x.1),.agg (da x.2.1),.int .i64 x.2.2]
theorem af3 {x y q r:Int}(h:r+y*q=x)(aa:(0<=r/\r<y)\/(y<r/\r<=0)):x.fdiv y=q/\x.fmod y=r:=by
 rcases aa with ⟨E,H⟩|⟨E,H⟩
 ·exact (Int.fdiv_fmod_unique (by omega)).2 ⟨h,E,H⟩
 ·exact (Int.fdiv_fmod_unique' (by omega)).2 ⟨h,E,H⟩
theorem PG {x y:Int}(h:x.sign*y.sign<0)(hm:x.natAbs%y.natAbs≠0):
  x.fdiv y = -((x.natAbs/y.natAbs+1:Nat):Int)/\x.fmod y=y.sign*((y.natAbs-x.natAbs%y.natAbs:Nat):Int):=by
 have H:=PH x.natAbs y.natAbs;generalize e2:x.natAbs/y.natAbs=aL at *;generalize gf:x.natAbs%y.natAbs=bV at *
 have ar:0<y.natAbs:=by
  rcases k6 y.natAbs with ao|ao
  ·rw[Int.natAbs_eq_zero.1 ao] at h;simp at h
  ·exact ao
 have az:bV<y.natAbs:=by rw[<-gf];exact qK _ ar
 have sj:(y.natAbs:Int)*aL+bV=x.natAbs:=by exact_mod_cast H
 refine af3 ?_ ?_
 ·rcases mQ x with ⟨e,E⟩|⟨e,E⟩|⟨e,E⟩<;>rcases mQ y with ⟨e',af⟩|⟨e',af⟩|⟨e',af⟩<;>rw[e,e'] at h<;>first|omega|rw[e']
  ·rw[af4 (by omega),af5,K9,iA];have:(y.natAbs:Int) = -y:=by omega
   rw[this] at sj ⊢;rw[GR] at sj;omega
  ·rw[af4 (by omega),af5,K9,iA];have:(y.natAbs:Int)=y:=by omega
   rw[this] at sj ⊢;omega
 ·rcases mQ y with ⟨e',af⟩|⟨e',af⟩|⟨e',af⟩<;>rw[e']<;>omega
theorem PI {x y:Int}(ar:y≠0)(h:¬ (x.sign*y.sign<0/\x.natAbs%y.natAbs≠0)):
  x.fdiv y=x.sign*y.sign*((x.natAbs/y.natAbs:Nat):Int)/\x.fmod y=x.sign*((x.natAbs%y.natAbs:Nat):Int):=by
 have H:=PH x.natAbs y.natAbs;have az:x.natAbs%y.natAbs<y.natAbs:=qK _ (by omega);generalize e2:x.natAbs/y.natAbs=aL at *;generalize gf:x.natAbs%y.natAbs=bV at *;have sj:(y.natAbs:Int)*aL+bV=x.natAbs:=by exact_mod_cast H
 refine af3 ?_ ?_
 ·rcases mQ x with ⟨e,E⟩|⟨e,E⟩|⟨e,E⟩<;>rcases mQ y with ⟨e',af⟩|⟨e',af⟩|⟨e',af⟩<;>first|omega|(rw[e,e'])
  ·rw[show (y.natAbs:Int)=y by omega] at sj;simp only[n6];omega
  ·rw[show (y.natAbs:Int) = -y by omega,GR] at sj;simp only[n6,GR,K9];omega
  ·simp only[z0,tT];omega
  ·simp only[z0,tT];omega
  ·rw[show (y.natAbs:Int)=y by omega] at sj;simp only[n6,GR,K9,vy];omega
  ·rw[show (y.natAbs:Int) = -y by omega,GR] at sj;simp only[n6,GR,K9,Int.neg_neg];omega
 ·have asC:x.natAbs=0->bV=0:=by
   intro ao;rw[<-gf,ao,Wr]
  rcases mQ x with ⟨e,E⟩|⟨e,E⟩|⟨e,E⟩<;>rcases mQ y with ⟨e',af⟩|⟨e',af⟩|⟨e',af⟩<;>rw[e,e'] at h<;>rw[e]<;>omega
theorem GS {x y:Int}(O:x.natAbs<ea)(jc:y≠0):(x.fdiv y).natAbs<ea:=by
 by_cases h:x.sign*y.sign<0/\x.natAbs%y.natAbs≠0
 ·have aK:=(PG h.1 h.2).1;have H:=PH x.natAbs y.natAbs
  have:x.natAbs/y.natAbs+1<=x.natAbs:=by
   have as2:2<=y.natAbs:=by
    rcases ir y.natAbs 2 with ao|ao
    ·have:y.natAbs=1:=by omega
     rw[this,Nat.mod_one] at h;exact absurd rfl h.2
    ·exact ao
   have af:2*(x.natAbs/y.natAbs)<=y.natAbs*(x.natAbs/y.natAbs):=vd _ as2;omega
  generalize x.natAbs/y.natAbs=aL at *;omega
 ·have aK:=(PI jc h).1;have af:x.natAbs/y.natAbs<=x.natAbs:=Ws _ _
  have aP:(x.fdiv y).natAbs<=x.natAbs/y.natAbs:=by
   rw[aK,qJ,qJ,mR];have E:x.sign.natAbs<=1:=by have:=rH x;omega
   have H:y.sign.natAbs<=1:=by have:=rH y;omega
   have:=Nat.mul_le_mul E H;have:=vd (x.natAbs/y.natAbs) this;omega
  omega
theorem af6 {x y:Int}(ar:y.natAbs<ea)(jc:y≠0):(x.fmod y).natAbs<ea:=by
 by_cases h:x.sign*y.sign<0/\x.natAbs%y.natAbs≠0
 ·have aK:=(PG h.1 h.2).2;rcases mQ y with ⟨e',af⟩|⟨e',af⟩|⟨e',af⟩<;>rw[e'] at aK<;>omega
 ·have aK:=(PI jc h).2;have az:x.natAbs%y.natAbs<y.natAbs:=qK _ (by omega);rcases mQ x with ⟨e',af⟩|⟨e',af⟩|⟨e',af⟩<;>rw[e'] at aK<;>omega
theorem D9 {x y:Int}(O:x.natAbs<ea)(ar:y.natAbs<ea)(ao:y≠0):kN (bQ x) (bQ y)=(bQ (x.fdiv y),bQ (x.fmod y),0):=by
 unfold kN;rw[lj O,lj ar,fT,fT,ab (by rfl),ag ao]
def PJ:=cj w2 λ(s,l,s2,al)=>cN (D l<=1000000/\D al<=1000000) (.same (hA (kN (s,l) (s2,al))))
@[go_sem] theorem aKV (s:Int)(l:List Int)(s2:Int)(al:List Int)(G:(D l)<=1000000/\D al<=1000000):PJ [.agg [.int .i64 s,.X (l.map ad)],.agg [.int .i64 s2,.X (al.map ad)]]=some (.same (hA (kN (s,l) (s2,al)))):=(cu zY (s,l,s2,al)).trans (cT G _)
theorem as3 (T:bb)(dF:T lb=aV wQ)(n9:T Kr=aV Pf)(mO:T Kt=aV O4)(mP:T Gk=aV O5)(fC:T pn=aV BG)(s:Int)(l:List Int)(s2:Int)(al:List Int)(G:(D l)<=1000000/\D al<=1000000):WP T U9 (.same (hA (kN (s,l) (s2,al)))) [.I (.agg [.int .i64 s,.X (l.map ad)]),.I (.agg [.int .i64 s2,.X (al.map ad)])]:=by
 refine cv ?_;simp only[U9];obtain⟨b5,cw⟩:=G
 by_cases aa:dB (s,l)=true
 ·by_cases bC:dB (s2,al)=true
  ·obtain⟨x,O,e⟩:=(j5 _).1 aa;obtain⟨y,ar,aB⟩:=(j5 _).1 bC
   by_cases jc:y=0
   ·have hm:kN (s,l) (s2,al)=((0,[]),(0,[]),15):=by
     rw[e,aB];unfold kN
     rw[lj O,lj ar,fT,fT,ab (by rfl),ab jc]
    rw[hm]
    cases e
    cases aB;have ao:((y.sign:Int)==0)=true:=by rw[jc];rfl
    simp only[go_sem,go_sem_proc,dF,n9,mO,mP,fC,aa,bC,b5,cw,ao,da,hA,cS];repeat' (first|refine ax ?_ ?_|fail)<;>intro h<;>simp only[h,go_sem,go_sem_proc,dF,n9,mO,mP,fC,aa,bC,b5,cw,ao,da,hA,cS]
   ·have hm:kN (s,l) (s2,al)=(bQ (x.fdiv y),bQ (x.fmod y),0):=by
     rw[e,aB];exact D9 O ar jc
    rw[hm];clear hm
    cases e
    cases aB;have n8:=rG O;have lf:=rG ar;have tY:(y.sign==0)=false:=by rw[beq_eq_false_iff_ne,Ne,Wt];exact jc
    have Ea:0<y.natAbs:=by omega
    have E:=rH x;have H:=rH y;have aF:x.sign*y.sign=(x*y).sign:=(sE x y).symm;have af:=rH (x*y);have hw:IntKind.i64.wrap (x.sign*y.sign)=x.sign*y.sign:=by rw[aF];exact wrap64 _ (by omega) (by omega)
    have hdiv:=afJ x.natAbs y.natAbs ⟨by omega,by omega,Ea⟩
    simp only[b4] at hdiv;have aO:=GS (y:=y) O jc;have yq:=af6 (x:=x) ar jc;have Wu:x.natAbs/y.natAbs<ea:=vB (Ws _ _) O;have as4:(aJ (x.natAbs/y.natAbs)).length<=60:=hb.2 Wu;have Eb:x.natAbs%y.natAbs<ea:=af7 (qK _ Ea) ar;have as5:(aJ (x.natAbs%y.natAbs)).length<=60:=hb.2 Eb
    by_cases tZ:x.sign*y.sign<0/\x.natAbs%y.natAbs≠0
    ·obtain⟨eq,ua⟩:=PG tZ.1 tZ.2
     have bI:decide (((aJ (x.natAbs%y.natAbs)).length:Int)>0)=true:=by
      have:aJ (x.natAbs%y.natAbs)≠[]:=by rw[Ne,zD];exact tZ.2
      have:=PD.2 this;exact dj
     have kM:decide (x.sign*y.sign<0)=true:=lU tZ.1;have j3:aJ 1=[1]:=by simp[aJ,yc]
     have as6:(aJ 1).length=1:=by rw[j3];rfl
     have iO:=afe (x.natAbs/y.natAbs) 1 ⟨by omega,by omega⟩
     simp only[b4,j3,eC,cS,ad] at iO;have j4:=VN y.natAbs (x.natAbs%y.natAbs) ⟨by omega,PK (qK _ Ea)⟩
     simp only[b4] at j4
     have ja:(aJ (x.natAbs/y.natAbs+1)).length<=1000000:=by
      have:(x.natAbs/y.natAbs+1)<ea:=by rw[eq] at aO;rw[PL,mR] at aO;exact aO
      have:=(hb (k:=60)).2 this;omega
     have kL:(aJ (y.natAbs-x.natAbs%y.natAbs)).length<=1000000:=by have:=PA y.natAbs (x.natAbs%y.natAbs);omega
     have hJ:ku (-1) (aJ (x.natAbs/y.natAbs+1))=bQ (x.fdiv y):=pX (by rw[eq,PL,mR]) λ_=>by rw[eq,D8,j6 (show (0:Int)<((x.natAbs/y.natAbs+1:Nat):Int) by exact Ec.2 (af8 _))]
     have iE:ku y.sign (aJ (y.natAbs-x.natAbs%y.natAbs))=bQ (x.fmod y):=by
      refine pX ?_ λaH=>?_
      ·rw[ua];rcases mQ y with ⟨e',af⟩|⟨e',af⟩|⟨e',af⟩<;>rw[e']<;>omega
      ·rw[ua,sE,B5,j6 (show (0:Int)<((y.natAbs-x.natAbs%y.natAbs:Nat):Int) by omega),vy]
     simp only[go_sem,go_sem_proc,dF,n9,mO,mP,fC,aa,bC,b5,cw,tY,hw,hdiv,bI,kM,iO,j4,ja,kL,hJ,iE,ad,ai,da,hA,ny];repeat' (first|refine ax ?_ ?_|fail)<;>intro h<;>simp only[h,go_sem,go_sem_proc,dF,n9,mO,mP,fC,aa,bC,b5,cw,tY,hw,hdiv,bI,kM,iO,j4,ja,kL,hJ,iE,ad,ai,da,hA,ny]
    ·obtain⟨eq,ua⟩:=PI jc tZ
     have Wv:(decide (x.sign*y.sign<0)=true/\decide (((aJ (x.natAbs%y.natAbs)).length:Int)>0)=false)\/decide (x.sign*y.sign<0)=false:=by
      by_cases aH:x.sign*y.sign<0
      ·left
       have:x.natAbs%y.natAbs=0:=af9.1 λh=>tZ ⟨aH,h⟩;rw[this];exact⟨lU aH,rfl⟩
      ·right;exact mo aH
     have ja:(aJ (x.natAbs/y.natAbs)).length<=1000000:=by omega
     have kL:(aJ (x.natAbs%y.natAbs)).length<=1000000:=by omega
     have hJ:ku (x.sign*y.sign) (aJ (x.natAbs/y.natAbs))=bQ (x.fdiv y):=by
      refine pX ?_ λaH=>?_
      ·rw[eq]
       have Ed:∀aL:Nat,(x=0->aL=0)->(x.sign*y.sign*(aL:Int)).natAbs=aL:=by
        intro aL ao;rcases mQ x with ⟨e,E⟩|⟨e,E⟩|⟨e,E⟩<;>rcases mQ y with ⟨e',af⟩|⟨e',af⟩|⟨e',af⟩<;>rw[e,e']<;>first|omega|(rw[ao E];rfl)
       exact Ed _ λao=>by rw[ao];exact Ww _
      ·rw[eq,aF,sE,sE,sE,B5,B5,j6 (show (0:Int)<((x.natAbs/y.natAbs:Nat):Int) from Ec.2 (PM aH)),vy]
     have iE:ku x.sign (aJ (x.natAbs%y.natAbs))=bQ (x.fmod y):=by
      refine pX ?_ λaH=>?_
      ·rw[ua]
       have Ed:∀aL:Nat,(x=0->aL=0)->(x.sign*(aL:Int)).natAbs=aL:=by
        intro aL ao;rcases mQ x with ⟨e,E⟩|⟨e,E⟩|⟨e,E⟩<;>rw[e]<;>first|omega|(rw[ao E];rfl)
       exact Ed _ λao=>by rw[ao];exact Wr _
      ·rw[ua,sE,B5,j6 (show (0:Int)<((x.natAbs%y.natAbs:Nat):Int) from Ec.2 (PM aH)),vy]
     rcases Wv with ⟨w5,La⟩|w5
     ·simp only[go_sem,go_sem_proc,dF,n9,mO,mP,fC,aa,bC,b5,cw,tY,hw,hdiv,w5,La,ja,kL,hJ,iE,ad,ai,da,hA,ny];repeat' (first|refine ax ?_ ?_|fail)<;>intro h<;>simp only[h,go_sem,go_sem_proc,dF,n9,mO,mP,fC,aa,bC,b5,cw,tY,hw,hdiv,w5,La,ja,kL,hJ,iE,ad,ai,da,hA,ny]
     ·simp only[go_sem,go_sem_proc,dF,n9,mO,mP,fC,aa,bC,b5,cw,tY,hw,hdiv,w5,ja,kL,hJ,iE,ad,ai,da,hA,ny];repeat' (first|refine ax ?_ ?_|fail)<;>intro h<;>simp only[h,go_sem,go_sem_proc,dF,n9,mO,mP,fC,aa,bC,b5,cw,tY,hw,hdiv,w5,ja,kL,hJ,iE,ad,ai,da,hA,ny]
  ·have bC:dB (s2,al)=false:=by simpa using bC
   have hm:kN (s,l) (s2,al)=((0,[]),(0,[]),1):=by unfold kN;rw[bC,iZ];rfl
   rw[hm];simp only[go_sem,go_sem_proc,dF,n9,mO,mP,fC,aa,bC,b5,cw,da,hA,cS];repeat' (first|refine ax ?_ ?_|fail)<;>intro h<;>simp only[h,go_sem,go_sem_proc,dF,n9,mO,mP,fC,aa,bC,b5,cw,da,hA,cS]
 ·have aa:dB (s,l)=false:=by simpa using aa
  have hm:kN (s,l) (s2,al)=((0,[]),(0,[]),1):=by unfold kN;rw[aa,fB];rfl
  rw[hm];simp only[go_sem,go_sem_proc,dF,n9,mO,mP,fC,aa,b5,cw,da,hA,cS];repeat' (first|refine ax ?_ ?_|fail)<;>intro h<;>simp only[h,go_sem,go_sem_proc,dF,n9,mO,mP,fC,aa,b5,cw,da,hA,cS]
def dA (n:Int):Prop:=-9223372036854775808<=n/\n<=9223372036854775807
theorem as7 {n:Nat}(h:n<=9223372036854775808):n<ea:=by
 unfold ea;refine C7 (m:=1048576^4) ?_ (Nat.pow_le_pow_right (by omega) (by omega));omega
theorem yr {n:Int}(h:dA n):n.natAbs<ea:=as7 (by unfold dA at h;omega)
theorem Wx (n:Int)(E:-18446744073709551616<=n)(H:n<0):IntKind.u64.wrap n=n+18446744073709551616:=by
 unfold IntKind.wrap;simp[IntKind.bits,IntKind.signed];omega
def Wy:=cj wP λ(n:Int)=>cN (dA n) (.same (.agg (da (bQ n))))
@[go_sem] theorem aKW (n:Int)(G:dA n):Wy [.int .i64 n]=some (.same (.agg (da (bQ n)))):=(cu zL n).trans (cT G _)
theorem as8 (T:bb)(fC:T pn=aV BG)(n:Int)(G:dA n):WP T U7 (.same (.agg (da (bQ n)))) [.I (.int .i64 n)]:=by
 refine cv ?_;simp only[U7];have lZ:=G;unfold dA at lZ;obtain⟨qo,xX⟩:=lZ;have U:∀s:Int,(n≠0->s=n.sign)->ku s (aJ n.natAbs)=bQ n:=λs h=>pX rfl λbI=>h (by omega);have hlen:(aJ n.natAbs).length<=60:=hb.2 (yr G);rcases dv (n<0) with kM|ib
 ·have hw:=Wx n (by omega) kM
  have fy:IntKind.u64.wrap (0-(n+18446744073709551616))=(n.natAbs:Int):=by
   rw[Wx _ (by omega) (by omega)];omega
  simp only[go_sem,go_sem_proc,fC,kM,hw,fy,decide_true];refine dm [2,3] [150002] (λ((u,g,l):Nat×Nat×List Int) tm mem=>u<=9223372036854775808/\aJ n.natAbs=l++aJ u/\tm 4=.I (.int .u64 u)/\tm 5=.ref 150021 g 1 0 (D l)/\mem 150021=some (g,a8 ad l)) (λ(u,_)=>u) (n.natAbs,0,[]) (by refine⟨by omega,rfl,?_,rfl,rfl⟩;rfl) ?_;intro vs ms aR aN;simp only[go_sem,go_sem_proc,fC] at aR aN;subst aR aN;rintro⟨u,g,l⟩ tm mem M hm ⟨hu,Y,aP,bt,z1⟩;simp only[go_sem,go_sem_proc,fC,a6] at M hm;obtain⟨H,af⟩:=M;rcases k6 u with ao|tW
  ·subst ao;rw[sv,fG] at Y;rw[Y] at U hlen;have vJ:(D l)<=1000000:=by omega
   have iX:=U (-1) (λ_=>by exact (rF kM).symm);simp only[go_sem,go_sem_proc,fC,H,af,aP,bt,hm,z1,iX,vJ,da,lG,l6,ai,show ¬ ((0:Int)>0) by omega,decide_false,mJ hl,lK]
   repeat' (first|refine ax ?_ ?_|fail)<;>intro h<;>simp only[h,go_sem,go_sem_proc,fC,H,af,aP,bt,hm,z1,iX,vJ,da,lG,l6,ai,show ¬ ((0:Int)>0) by omega,decide_false,mJ hl,lK]
  ·have zW:(D l)<=60:=by
    have:=congrArg D Y;rw[fQ] at this;omega
   have gr:decide ((u:Int)>0)=true:=dj;have dG:∀a:Int,mw 150021 g 1 (D l) 8 1 [.I (.int .i64 a)] (some (g,a8 ad l))=_:=λa=>mI hl tK 150021 g 8 l a rfl (by omega) (by omega);have hand:=aeY u ⟨by omega,by omega⟩
   have Lb:IntKind.i64.wrap ((u:Int)%1048576)=(u:Int)%1048576:=wrap64 _ (by omega) (by omega);simp only[go_sem,go_sem_proc,fC,H,af,aP,bt,hm,z1,gr,dG,hand,Lb,oP,show ((20:Int)<0)=False from by simp,if_false,ai,a6]
   repeat' (first|refine ax ?_ ?_|fail)<;>intro h<;>simp only[h,go_sem,go_sem_proc,fC,H,af,aP,bt,hm,z1,gr,dG,hand,Lb,oP,show ((20:Int)<0)=False from by simp,if_false,ai,a6]
   refine⟨(u/1048576,g+1,l++[(u:Int)%1048576]),by dsimp only;omega,by dsimp only;omega,by dsimp only;rw[gM,Y,vk tW];rfl,by first|rfl|(dsimp only;rw[zG _ ⟨by omega,by omega⟩];rfl),by simp,by simp[go_sem]⟩
 ·have hw:IntKind.u64.wrap n=(n.natAbs:Int):=by rw[zG _ ⟨by omega,by omega⟩];omega
  simp only[go_sem,go_sem_proc,fC,ib,hw,decide_false];refine dm [2,3] [150002] (λ((u,g,l):Nat×Nat×List Int) tm mem=>u<=9223372036854775808/\aJ n.natAbs=l++aJ u/\tm 4=.I (.int .u64 u)/\tm 5=.ref 150021 g 1 0 (D l)/\mem 150021=some (g,a8 ad l)) (λ(u,_)=>u) (n.natAbs,0,[]) (by refine⟨by omega,rfl,?_,rfl,rfl⟩;rfl) ?_;intro vs ms aR aN;simp only[go_sem,go_sem_proc,fC] at aR aN;subst aR aN;rintro⟨u,g,l⟩ tm mem M hm ⟨hu,Y,aP,bt,z1⟩;simp only[go_sem,go_sem_proc,fC,a6] at M hm;obtain⟨H,af⟩:=M;rcases k6 u with ao|tW
  ·subst ao;rw[sv,fG] at Y;rw[Y] at U hlen;have vJ:(D l)<=1000000:=by omega
   have iX:=U 1 (λ_=>by exact (j6 (by omega)).symm);simp only[go_sem,go_sem_proc,fC,H,af,aP,bt,hm,z1,iX,vJ,da,lG,l6,ai,show ¬ ((0:Int)>0) by omega,decide_false,mJ hl,lK]
   repeat' (first|refine ax ?_ ?_|fail)<;>intro h<;>simp only[h,go_sem,go_sem_proc,fC,H,af,aP,bt,hm,z1,iX,vJ,da,lG,l6,ai,show ¬ ((0:Int)>0) by omega,decide_false,mJ hl,lK]
  ·have zW:(D l)<=60:=by
    have:=congrArg D Y;rw[fQ] at this;omega
   have gr:decide ((u:Int)>0)=true:=dj;have dG:∀a:Int,mw 150021 g 1 (D l) 8 1 [.I (.int .i64 a)] (some (g,a8 ad l))=_:=λa=>mI hl tK 150021 g 8 l a rfl (by omega) (by omega);have hand:=aeY u ⟨by omega,by omega⟩
   have Lb:IntKind.i64.wrap ((u:Int)%1048576)=(u:Int)%1048576:=wrap64 _ (by omega) (by omega);simp only[go_sem,go_sem_proc,fC,H,af,aP,bt,hm,z1,gr,dG,hand,Lb,oP,show ((20:Int)<0)=False from by simp,if_false,ai,a6]
   repeat' (first|refine ax ?_ ?_|fail)<;>intro h<;>simp only[h,go_sem,go_sem_proc,fC,H,af,aP,bt,hm,z1,gr,dG,hand,Lb,oP,show ((20:Int)<0)=False from by simp,if_false,ai,a6]
   refine⟨(u/1048576,g+1,l++[(u:Int)%1048576]),by dsimp only;omega,by dsimp only;omega,by dsimp only;rw[gM,Y,vk tW];rfl,by first|rfl|(dsimp only;rw[zG _ ⟨by omega,by omega⟩];rfl),by simp,by simp[go_sem]⟩
theorem as9 (k:IntKind)(a b:Int):bits .or k a b=bits .or k b a:=by
 simp only[bits,BitVec.or_comm]
theorem ata (u d:Int)(i:Nat)(J:(2:Int)^i<=1152921504606846976)(hu:0<=u/\u<2^i)(Y:0<=d)(h:d*2^i<18446744073709551616):bits .or .u64 u (d*2^i)=u+d*2^i:=by
 rw[as9,yi];have ao:0<=d*2^i:=yh Y (by exact PN (GK (by omega)));refine bits_join .u64 64 (by decide) (λn E H=>zG n ⟨E,by omega⟩) i _ _ ao (Int.mul_emod_left _ _) (by omega) hu.1 hu.2 (by omega)
instance (n:Int):Decidable (dA n):=by unfold dA;exact inferInstance
def sF (a:Raw):Int×Bool:=if dB a=true/\dA (iD a) then (iD a,true) else (0,false)
def Wz:=cj BF λ(s,l)=>cN (D l<=1000000) (.same (.cH [.int .i64 (sF (s,l)).1,.bool (sF (s,l)).2]))
@[go_sem] theorem aKX (s:Int)(l:List Int)(G:(D l)<=1000000):Wz [.agg [.int .i64 s,.X (l.map ad)]]=some (.same (.cH [.int .i64 (sF (s,l)).1,.bool (sF (s,l)).2])):=(cu Gu (s,l)).trans (cT G _)
theorem atb (T:bb)(dF:T lb=aV wQ)(s:Int)(l:List Int)(G:(D l)<=1000000):WP T Ve (.same (.cH [.int .i64 (sF (s,l)).1,.bool (sF (s,l)).2])) [.I (.agg [.int .i64 s,.X (l.map ad)])]:=by
 refine cv ?_;simp only[Ve]
 by_cases aa:dB (s,l)=true
 ·obtain⟨z,aW,e⟩:=(j5 _).1 aa
  cases e
  have J:sF (z.sign,aJ z.natAbs)=if dA z then (z,true) else (0,false):=by
   unfold sF;rw[aa,show iD (z.sign,aJ z.natAbs)=z from fT z];simp
  rw[J];clear J;have U:=mQ z
  by_cases aP:(aJ z.natAbs).length<=4
  ·have PO:decide (((aJ z.natAbs).length:Int)>4)=false:=c5;have mA:=l4 z.natAbs;have kK:=m5 z.natAbs;generalize aJ z.natAbs=l at *;simp only[go_sem,go_sem_proc,dF,aa,G,PO,ai,ad];refine dm [1,17,18] [159001] (λ((i,u):Nat×Int) tm mem=>i<=D l/\u=bc (l.take i)/\u<18446744073709551616/\tm 4=.I (.int .u64 u)/\tm 19=.I (.int .i64 i)) (λ(i,_)=>D l-i) (0,0) (by refine⟨by omega,rfl,by omega,rfl,rfl⟩) ?_;intro vs ms aR aN;simp only[go_sem,go_sem_proc,dF] at aR aN;subst aR aN;rintro⟨i,u⟩ tm mem M hm ⟨J,hu,aKY,qL,qM⟩;simp only[go_sem,go_sem_proc,dF,a6] at M hm;obtain⟨E,lL,j2⟩:=M;have aga:eV (l.take i):=λd Y=>kK d (List.mem_of_mem_take Y);have Ee:0<=u:=by rw[hu];exact pk aga
   rcases dv (i<D l) with az|b2
   ·have O:=bu az;have Y:=kK l[i] (np az);have rl:=lI l i az;have Ef:=zE aga;rw[gC,oK (PK az),<-hu] at Ef;rw[<-hu] at rl;generalize l[i]=d at *;have pY:decide ((i:Int)<(D l:Int))=true:=dj;have BN:IntKind.u64.wrap d=d:=zG d ⟨Y.1,by omega⟩
    have yo:IntKind.i64.wrap (20*(i:Int))=((20*i:Nat):Int):=by rw[eM _];omega
    have FW:min (20*i) 64=20*i:=by omega
    have jF:(((20*i:Nat):Int)<0)=False:=eq_false (by omega);have GU:(1048576:Int)^i=2^(20*i):=by rw[Int.pow_mul];rfl
    rw[GU] at Ef rl
    have nW:(2:Int)^(20*i)<=1152921504606846976:=by
     obtain rfl|rfl|rfl|rfl:i=0\/i=1\/i=2\/i=3:=by omega
     all_goals decide
    by_cases WA:i=3/\d>8
    ·obtain⟨rfl,PQ⟩:=WA;have agb:decide (d>8)=true:=lU PQ;have Lc:(((3:Nat):Int)==3)=true:=rfl
     have atc:¬ dA z:=by
      have vD:=Km l 4;rw[mA] at vD;have:0<=bc (l.drop 4):=pk λd Y=>kK d (List.mem_of_mem_drop Y);have bt:=yh (show (0:Int)<=1048576^(min 4 (D l)) from PN (GK (by omega))) this;unfold dA;simp only[agc,Nat.reduceAdd,agd] at rl;rw[rl] at vD;omega
     rw[ag atc];simp only[go_sem,go_sem_proc,dF,E,lL,j2,qL,qM,hm,O,Y.1,Y.2,pY,BN,agb,Lc,ai,bh,a6,ad];repeat' (first|refine ax ?_ ?_|fail)<;>intro h<;>simp only[h,go_sem,go_sem_proc,dF,E,lL,j2,qL,qM,hm,O,Y.1,Y.2,pY,BN,agb,Lc,ai,bh,a6,ad]
    ·have wT:d*2^(20*i)<18446744073709551616:=by
      obtain rfl|rfl|rfl|rfl:i=0\/i=1\/i=2\/i=3:=by omega
      all_goals simp
      all_goals omega
     have wW:=ata u d (20*i) nW ⟨Ee,Ef⟩ Y.1 wT;have z2:0<=d*2^(20*i):=yh Y.1 (PN (GK (by omega)));have Ld:IntKind.u64.wrap (d*2^(20*i))=d*2^(20*i):=zG _ ⟨z2,wT⟩
     have pt:u+d*2^(20*i)<18446744073709551616:=by
      clear wW Ld z2 yo jF GU nW rl;obtain rfl|rfl|rfl|rfl:i=0\/i=1\/i=2\/i=3:=by omega
      all_goals simp only[agc,agd] at Ef wT ⊢
      all_goals omega
     by_cases af:((i:Int)==3)=true
     ·have PQ:decide (d>8)=false:=mo λh=>WA ⟨by simp at af;omega,h⟩
      simp only[go_sem,go_sem_proc,dF,E,lL,j2,qL,qM,hm,O,Y.1,Y.2,pY,BN,af,PQ,yo,jF,if_false,lH,FW,Ld,wW,ai,bh,a6,ad];repeat' (first|refine ax ?_ ?_|fail)<;>intro h<;>simp only[h,go_sem,go_sem_proc,dF,E,lL,j2,qL,qM,hm,O,Y.1,Y.2,pY,BN,af,PQ,yo,jF,if_false,lH,FW,Ld,wW,ai,bh,a6,ad]
      exact⟨(i+1,u+d*2^(20*i)),by dsimp only;omega,by dsimp only;omega,by dsimp only;rw[rl,nt],pt,rfl,by rw[eM _];rfl⟩
     ·have af:((i:Int)==3)=false:=by simpa using af
      simp only[go_sem,go_sem_proc,dF,E,lL,j2,qL,qM,hm,O,Y.1,Y.2,pY,BN,af,yo,jF,if_false,lH,FW,Ld,wW,ai,bh,a6,ad];repeat' (first|refine ax ?_ ?_|fail)<;>intro h<;>simp only[h,go_sem,go_sem_proc,dF,E,lL,j2,qL,qM,hm,O,Y.1,Y.2,pY,BN,af,yo,jF,if_false,lH,FW,Ld,wW,ai,bh,a6,ad]
      exact⟨(i+1,u+d*2^(20*i)),by dsimp only;omega,by dsimp only;omega,by dsimp only;rw[rl,nt],pt,rfl,by rw[eM _];rfl⟩
   ·have pY:decide ((i:Int)<(D l:Int))=false:=c5;have iP:i=D l:=by omega
    rw[iP,lK,mA] at hu;rcases U with ⟨U,rk⟩|⟨U,rk⟩|⟨U,rk⟩
    ·by_cases hr64:u<9223372036854775808
     ·rw[ab (by unfold dA;omega)];have hw:IntKind.i64.wrap u=z:=by rw[wrap64 u (by omega) (by omega)];omega
      simp only[go_sem,go_sem_proc,dF,E,lL,j2,qL,qM,hm,pY,U,hr64,show decide ((1:Int)<0)=false from rfl,show decide ((1:Int)>=0)=true from rfl,show decide ((-1:Int)<0)=true from rfl,show decide ((-1:Int)>=0)=false from rfl,hw,decide_true,decide_false,ai];repeat' (first|refine ax ?_ ?_|fail)<;>intro h<;>simp only[h,go_sem,go_sem_proc,dF,E,lL,j2,qL,qM,hm,pY,U,hr64,show decide ((1:Int)<0)=false from rfl,show decide ((1:Int)>=0)=true from rfl,show decide ((-1:Int)<0)=true from rfl,show decide ((-1:Int)>=0)=false from rfl,hw,decide_true,decide_false,ai]
     ·rw[ag (by unfold dA;omega)];simp only[go_sem,go_sem_proc,dF,E,lL,j2,qL,qM,hm,pY,U,hr64,show decide ((1:Int)<0)=false from rfl,show decide ((1:Int)>=0)=true from rfl,show decide ((-1:Int)<0)=true from rfl,show decide ((-1:Int)>=0)=false from rfl,decide_true,decide_false,ai];repeat' (first|refine ax ?_ ?_|fail)<;>intro h<;>simp only[h,go_sem,go_sem_proc,dF,E,lL,j2,qL,qM,hm,pY,U,hr64,show decide ((1:Int)<0)=false from rfl,show decide ((1:Int)>=0)=true from rfl,show decide ((-1:Int)<0)=true from rfl,show decide ((-1:Int)>=0)=false from rfl,decide_true,decide_false,ai]
    ·rw[ab (by unfold dA;omega)];have atd:u=0:=by omega
     subst rk;subst atd;simp only[go_sem,go_sem_proc,dF,E,lL,j2,qL,qM,hm,pY,U,show decide ((0:Int)<0)=false from rfl,show decide ((0:Int)>=0)=true from rfl,show decide ((0:Int)<9223372036854775808)=true from rfl,show IntKind.i64.wrap 0=0 from rfl,show (0:Int).sign=0 from rfl,decide_true,decide_false,ai];repeat' (first|refine ax ?_ ?_|fail)<;>intro h<;>simp only[h,go_sem,go_sem_proc,dF,E,lL,j2,qL,qM,hm,pY,U,show decide ((0:Int)<0)=false from rfl,show decide ((0:Int)>=0)=true from rfl,show decide ((0:Int)<9223372036854775808)=true from rfl,show IntKind.i64.wrap 0=0 from rfl,show (0:Int).sign=0 from rfl,decide_true,decide_false,ai]
    ·by_cases hr64:u<=9223372036854775808
     ·rw[ab (by unfold dA;omega)];have hw:=Wx (0-u) (by omega) (by omega)
      have fy:IntKind.i64.wrap (0-u+18446744073709551616)=z:=by
       simp[IntKind.wrap,IntKind.bits,IntKind.signed];omega
      simp only[go_sem,go_sem_proc,dF,E,lL,j2,qL,qM,hm,pY,U,hr64,show decide ((1:Int)<0)=false from rfl,show decide ((1:Int)>=0)=true from rfl,show decide ((-1:Int)<0)=true from rfl,show decide ((-1:Int)>=0)=false from rfl,hw,fy,decide_true,decide_false,ai];repeat' (first|refine ax ?_ ?_|fail)<;>intro h<;>simp only[h,go_sem,go_sem_proc,dF,E,lL,j2,qL,qM,hm,pY,U,hr64,show decide ((1:Int)<0)=false from rfl,show decide ((1:Int)>=0)=true from rfl,show decide ((-1:Int)<0)=true from rfl,show decide ((-1:Int)>=0)=false from rfl,hw,fy,decide_true,decide_false,ai]
     ·rw[ag (by unfold dA;omega)];simp only[go_sem,go_sem_proc,dF,E,lL,j2,qL,qM,hm,pY,U,hr64,show decide ((1:Int)<0)=false from rfl,show decide ((1:Int)>=0)=true from rfl,show decide ((-1:Int)<0)=true from rfl,show decide ((-1:Int)>=0)=false from rfl,decide_true,decide_false,ai];repeat' (first|refine ax ?_ ?_|fail)<;>intro h<;>simp only[h,go_sem,go_sem_proc,dF,E,lL,j2,qL,qM,hm,pY,U,hr64,show decide ((1:Int)<0)=false from rfl,show decide ((1:Int)>=0)=true from rfl,show decide ((-1:Int)<0)=true from rfl,show decide ((-1:Int)>=0)=false from rfl,decide_true,decide_false,ai]
  ·have PO:decide (((aJ z.natAbs).length:Int)>4)=true:=dj
   have aH:¬ dA z:=by
    intro h;unfold dA at h;refine aP (hb.2 ?_);omega
   rw[ag aH];simp only[go_sem,go_sem_proc,dF,aa,G,PO,ai];repeat' (first|refine ax ?_ ?_|fail)<;>intro h<;>simp only[h,go_sem,go_sem_proc,dF,aa,G,PO,ai]
 ·have aa:dB (s,l)=false:=by simpa using aa
  have J:sF (s,l)=(0,false):=by unfold sF;rw[ag];rw[aa];simp
  rw[J];simp only[go_sem,go_sem_proc,dF,aa,G];repeat' (first|refine ax ?_ ?_|fail)<;>intro h<;>simp only[h,go_sem,go_sem_proc,dF,aa,G]
def WB:bT:=cd 35 1 [.t 2] (R [dR 1 116001 0,cC 2 false] (.seq (R [bf 5 0 1,bo 6 2 5,(dL 7 lb 6),fp 8 7,F 9 8,⟨some 10,some (9,false),.ef 2 (.t 1)⟩,⟨some 11,some (9,false),.load 2 true (.t 10)⟩,⟨some 12,some (9,false),.call lb [(.t 11)]⟩,⟨some 13,some (9,false),.un .not (.t 12)⟩,ek 14 9 13,F 15 14,⟨some 16,some (15,false),.ef 2 (.t 1)⟩,⟨some 17,some (15,false),.ef 0 (.t 16)⟩,⟨some 18,some (15,false),.load 1 false (.t 17)⟩,⟨some 19,some (15,false),.bin .neq (.t 18) (.c (aj 1))⟩,ek 20 15 19] (aZ 20 (R [cC 2 false] .ret) .skip)) (R [bf 22 0 1,bo 23 2 22,bf 24 2 1,bo 25 2 24,(cq 26 Kp 23 25),F 21 26,bB 27 0 21,bB 28 1 21,(aC 3 (.alloc 116003 [(aj 0),.nil])),bl 2 3 27,F 4 28] (R [F 29 4,a5 30 .eql 29 0,F 31 30,⟨some 32,some (31,true),.load 2 true (.t 3)⟩,⟨some 33,some (31,true),.call Uk [(.t 32)]⟩,gg 34 31 33,F 2 34] .ret))))
def WC:bT:=cd 46 2 [.cell 4 4 true,.t 5] (R [dR 2 119002 0,dR 3 119003 1,(aC 4 (.alloc 119004 [(aj 0),.nil,(aj 0),.nil])),br 5 0] (.seq (R [bo 10 4 2,(dL 11 l5 10),fp 12 11,F 13 12,⟨some 14,some (13,false),.load 4 true (.t 3)⟩,⟨some 15,some (13,false),.call l5 [(.t 14)]⟩,⟨some 16,some (13,false),.un .not (.t 15)⟩,ek 17 13 16] (aZ 17 (R [(aC 18 (.build [(aj 0),.nil,(aj 0),.nil] [])),bl 4 4 18,br 5 1] .ret) .skip)) (R [bf 20 0 2,bo 21 2 20,bf 22 2 3,bo 23 2 22,bf 24 0 3,bo 25 2 24,bf 26 2 2,bo 27 2 26,(zJ 28 Ul 21 23 25 27),F 19 28,bB 29 0 19,bB 30 1 19,(aC 6 (.alloc 119006 [(aj 0),.nil])),bl 2 6 29,F 7 30] (R [bf 32 2 2,bo 33 2 32,bf 34 2 3,bo 35 2 34,(cq 36 vn 33 35),F 31 36,bB 37 0 31,bB 38 1 31,(aC 8 (.alloc 119008 [(aj 0),.nil])),bl 2 8 37,F 9 38] (R [bo 39 2 6,F 40 7,bo 41 2 8,F 42 9,(zJ 43 DH 39 40 41 42),bB 44 0 43,bB 45 1 43,bl 4 4 44,F 5 45] .ret)))))
def WD:bT:=cd 13 2 [.cell 4 4 true,.t 5] (R [(aC 4 (.alloc 130004 [(aj 0),.nil,(aj 0),.nil])),br 5 0] (R [F 6 0,(dL 7 OE 6),F 8 1,(dL 9 OE 8),(cq 10 Kq 7 9),bB 11 0 10,bB 12 1 10,bl 4 4 11,F 5 12] .ret))
def WE:bT:=cd 25 2 [.cell 4 4 true,.t 5] (R [dR 2 132002 0,dR 3 132003 1,(aC 4 (.alloc 132004 [(aj 0),.nil,(aj 0),.nil])),br 5 0] (.seq (R [bo 6 4 2,(dL 7 l5 6),fp 8 7,F 9 8,⟨some 10,some (9,false),.load 4 true (.t 3)⟩,⟨some 11,some (9,false),.call l5 [(.t 10)]⟩,⟨some 12,some (9,false),.un .not (.t 11)⟩,ek 13 9 12] (aZ 13 (R [(aC 14 (.build [(aj 0),.nil,(aj 0),.nil] [])),bl 4 4 14,br 5 1] .ret) .skip)) (fH [bo 15 4 2,bf 16 0 3,bo 17 2 16,(dL 18 Gi 17),bf 19 2 3,bo 20 2 19,(aC 21 (.build [(aj 0),.nil,(aj 0),.nil] [(0,2,(.t 18)),(2,2,(.t 20))])),(cq 22 vl 15 21),bB 23 0 22,bB 24 1 22,bl 4 4 23,F 5 24] OP .ret)))
def WG:bT:=cd 42 2 [.cell 4 4 true,.t 5] (R [dR 2 134002 0,dR 3 134003 1,(aC 4 (.alloc 134004 [(aj 0),.nil,(aj 0),.nil])),br 5 0] (.seq (R [bo 10 4 2,(dL 11 l5 10),fp 12 11,F 13 12,⟨some 14,some (13,false),.load 4 true (.t 3)⟩,⟨some 15,some (13,false),.call l5 [(.t 14)]⟩,⟨some 16,some (13,false),.un .not (.t 15)⟩,ek 17 13 16] (aZ 17 (R [(aC 18 (.build [(aj 0),.nil,(aj 0),.nil] [])),bl 4 4 18,br 5 1] .ret) .skip)) (R [bf 20 0 2,bo 21 2 20,bf 22 0 3,bo 23 2 22,(cq 24 vn 21 23),F 19 24,bB 25 0 19,bB 26 1 19,(aC 6 (.alloc 134006 [(aj 0),.nil])),bl 2 6 25,F 7 26] (R [bf 28 2 2,bo 29 2 28,bf 30 2 3,bo 31 2 30,(cq 32 vn 29 31),F 27 32,bB 33 0 27,bB 34 1 27,(aC 8 (.alloc 134008 [(aj 0),.nil])),bl 2 8 33,F 9 34] (R [bo 35 2 6,F 36 7,bo 37 2 8,F 38 9,(zJ 39 DH 35 36 37 38),bB 40 0 39,bB 41 1 39,bl 4 4 40,F 5 41] .ret)))))
def WH:bT:=cd 78 2 [.t 4] (R [dR 2 135002 0,dR 3 135003 1,br 4 0] (.seq (R [bo 17 4 2,(dL 18 l5 17),fp 19 18,F 20 19,⟨some 21,some (20,false),.load 4 true (.t 3)⟩,⟨some 22,some (20,false),.call l5 [(.t 21)]⟩,⟨some 23,some (20,false),.un .not (.t 22)⟩,ek 24 20 23] (aZ 24 (R [br 4 0] .ret) .skip)) (fH [bf 25 0 2,bo 26 2 25,bf 27 2 2,bo 28 2 27,bf 29 0 3,bo 30 2 29,bf 31 2 3,bo 32 2 31,(aC 5 (.alloc 135005 [(aj 0),.nil])),(aC 6 (.alloc 135006 [(aj 0),.nil])),(aC 7 (.alloc 135007 [(aj 0),.nil])),(aC 8 (.alloc 135008 [(aj 0),.nil])),bl 2 5 26,bl 2 6 28,bl 2 7 30,bl 2 8 32] [[],[],[],[],[],[],[],[],[1,3,5,7],[1,3,5,7,8],[1,3,5,7,8,9],[1,3,5,7,8,9,10],[3,5,7],[5,7],[7],[]] (R [br 9 1] (.block 0 (.loop  (.seq (.block 1 (R [bo 36 2 5,bo 37 2 6,(cq 38 DI 36 37),F 35 38,bB 39 0 35,bB 40 1 35,bB 41 2 35,(aC 10 (.alloc 135010 [(aj 0),.nil])),(aC 11 (.alloc 135011 [(aj 0),.nil])),bl 2 10 39,bl 2 11 40,F 12 41] (R [bo 43 2 7,bo 44 2 8,(cq 45 DI 43 44),F 42 45,bB 46 0 42,bB 47 1 42,bB 48 2 42,(aC 13 (.alloc 135013 [(aj 0),.nil])),(aC 14 (.alloc 135014 [(aj 0),.nil])),bl 2 13 46,bl 2 14 47,F 15 48] (.seq (R [bo 49 2 10,bo 50 2 13,(cq 51 Ur 49 50),F 16 51] (.block 2 (R [F 53 16,a5 54 .neq 53 0,F 52 54] (aZ 52 (R [F 55 9,F 56 16,bn 57 .mul 55 56,F 4 57] .ret) (R [bf 59 0 11,aU 60 1 59,a5 61 .eql 60 0,F 62 61,⟨some 63,some (62,false),.ef 0 (.t 14)⟩,⟨some 64,some (62,false),.load 1 false (.t 63)⟩,⟨some 65,some (62,false),.bin .eql (.t 64) (.c (aj 0))⟩,ek 66 62 65,F 58 66] (aZ 58 (R [F 67 9,bf 68 0 11,aU 69 1 68,bf 70 0 14,aU 71 1 70,bn 72 .sub 69 71,bn 73 .mul 67 72,F 4 73] .ret) .skip)))))) (.nj [bo 74 2 6,bo 75 2 11,bo 76 2 8,bo 77 2 14,bl 2 5 74,bl 2 6 75,bl 2 7 76,bl 2 8 77] [[],[],[],[],[1,2,3],[2,3],[3],[]]))))) (.ops [F 33 9,(aC 34 (.un .neg (.t 33))),F 9 34]))))))))
def WI:bT:=cd 15 1 [.t 2] (R [dR 1 138001 0,cC 2 false] (R [bo 6 2 1,(dL 7 Us 6),F 5 7,bB 8 0 5,bB 9 1 5,F 3 8,F 4 9] (R [F 10 4,F 11 10,⟨some 12,some (11,true),.cp (.t 3)⟩,⟨some 13,some (11,true),.bin .eql (.t 12) (.c (aj 1))⟩,gg 14 11 13,F 2 14] .ret)))
def WJ:bT:=cd 38 4 [.cell 8 2 true,.t 9] (R [dR 4 139004 0,dR 5 139005 1,dR 6 139006 2,dR 7 139007 3,(aC 8 (.alloc 139008 [(aj 0),.nil])),br 9 0] (R [bo 14 2 4,bo 15 2 5,(cq 16 vn 14 15),F 13 16,bB 17 0 13,bB 18 1 13,(aC 10 (.alloc 139010 [(aj 0),.nil])),bl 2 10 17,F 11 18] (.seq (R [F 19 11,a5 20 .neq 19 0] (aZ 20 (R [(aC 21 (.build [(aj 0),.nil] [])),F 22 11,bl 2 8 21,F 9 22] .ret) .skip)) (R [bo 24 2 6,bo 25 2 7,(cq 26 vn 24 25),F 23 26,bB 27 0 23,bB 28 1 23,(aC 12 (.alloc 139012 [(aj 0),.nil])),bl 2 12 27,F 11 28] (.seq (R [F 29 11,a5 30 .neq 29 0] (aZ 30 (R [(aC 31 (.build [(aj 0),.nil] [])),F 32 11,bl 2 8 31,F 9 32] .ret) .skip)) (R [bo 33 2 10,bo 34 2 12,(cq 35 Ut 33 34),bB 36 0 35,bB 37 1 35,bl 2 8 36,F 9 37] .ret))))))
def WK:bT:=cd 22 4 [.cell 8 4 true,.t 9] (R [dR 4 141004 0,dR 6 141006 2,(aC 8 (.alloc 141008 [(aj 0),.nil,(aj 0),.nil])),br 9 0] (.seq (R [F 10 1,a5 11 .neq 10 0,F 12 11,⟨some 13,some (12,false),.cp (.t 3)⟩,⟨some 14,some (12,false),.bin .neq (.t 13) (.c (aj 0))⟩,ek 15 12 14] (aZ 15 (R [(aC 16 (.build [(aj 0),.nil,(aj 0),.nil] [])),bl 4 8 16,br 9 6] .ret) .skip)) (R [bo 17 2 4,bo 18 2 6,(cq 19 Kq 17 18),bB 20 0 19,bB 21 1 19,bl 4 8 20,F 9 21] .ret)))
def WL:bT:=cd 60 2 [.cell 4 4 true,.t 5] (R [dR 2 149002 0,dR 3 149003 1,(aC 4 (.alloc 149004 [(aj 0),.nil,(aj 0),.nil])),br 5 0] (.seq (.block 0 (R [bo 15 2 2,(dL 16 lb 15),fp 17 16,F 18 17,⟨some 19,some (18,false),.load 2 true (.t 3)⟩,⟨some 20,some (18,false),.call lb [(.t 19)]⟩,⟨some 21,some (18,false),.un .not (.t 20)⟩,ek 22 18 21,F 14 22] (aZ 14 (R [(aC 23 (.build [(aj 0),.nil,(aj 0),.nil] [])),bl 4 4 23,br 5 1] .ret) (R [bf 25 0 3,aU 26 1 25,a5 27 .eql 26 0,F 24 27] (aZ 24 (R [(aC 28 (.build [(aj 0),.nil,(aj 0),.nil] [])),bl 4 4 28,br 5 15] .ret) (R [bf 30 0 3,aU 31 1 30,a5 32 .lss 31 0,F 29 32] (aZ 29 (.nj [bo 33 2 2,(dL 34 Gi 33),bo 35 2 3,(dL 36 Gi 35),bl 2 2 34,bl 2 3 36] aeZ) .skip))))))) (R [bo 38 2 2,bo 39 2 3,(cq 40 Kp 38 39),F 37 40,bB 41 0 37,bB 42 1 37,(aC 6 (.alloc 149006 [(aj 0),.nil])),bl 2 6 41,F 7 42] (R [bo 44 2 2,bo 45 2 6,(cq 46 DI 44 45),F 43 46,bB 47 0 43,bB 48 1 43,bB 49 2 43,(aC 8 (.alloc 149008 [(aj 0),.nil])),(aC 9 (.alloc 149009 [(aj 0),.nil])),bl 2 8 47,bl 2 9 48,F 10 49] (R [bo 51 2 3,bo 52 2 6,(cq 53 DI 51 52),F 50 53,bB 54 0 50,bB 55 1 50,bB 56 2 50,(aC 11 (.alloc 149011 [(aj 0),.nil])),(aC 12 (.alloc 149012 [(aj 0),.nil])),bl 2 11 54,bl 2 12 55,F 13 56] (R [bo 57 2 8,bo 58 2 11,(aC 59 (.build [(aj 0),.nil,(aj 0),.nil] [(0,2,(.t 57)),(2,2,(.t 58))])),bl 4 4 59,br 5 0] .ret))))))
def WM:bT:=cd 49 2 [.cell 4 4 true,.t 5] (R [dR 2 169002 0,dR 3 169003 1,(aC 4 (.alloc 169004 [(aj 0),.nil,(aj 0),.nil])),br 5 0] (.seq (.block 0 (R [bo 11 4 2,(dL 12 l5 11),fp 13 12,F 14 13,⟨some 15,some (14,false),.load 4 true (.t 3)⟩,⟨some 16,some (14,false),.call l5 [(.t 15)]⟩,⟨some 17,some (14,false),.un .not (.t 16)⟩,ek 18 14 17,F 10 18] (aZ 10 (R [(aC 19 (.build [(aj 0),.nil,(aj 0),.nil] [])),bl 4 4 19,br 5 1] .ret) (R [bf 21 0 3,bf 22 0 21,aU 23 1 22,a5 24 .eql 23 0,F 20 24] (aZ 20 (R [(aC 25 (.build [(aj 0),.nil,(aj 0),.nil] [])),bl 4 4 25,br 5 15] .ret) .skip))))) (R [bf 27 0 2,bo 28 2 27,bf 29 2 3,bo 30 2 29,(cq 31 vn 28 30),F 26 31,bB 32 0 26,bB 33 1 26,(aC 6 (.alloc 169006 [(aj 0),.nil])),bl 2 6 32,F 7 33] (R [bf 35 2 2,bo 36 2 35,bf 37 0 3,bo 38 2 37,(cq 39 vn 36 38),F 34 39,bB 40 0 34,bB 41 1 34,(aC 8 (.alloc 169008 [(aj 0),.nil])),bl 2 8 40,F 9 41] (R [bo 42 2 6,F 43 7,bo 44 2 8,F 45 9,(zJ 46 DH 42 43 44 45),bB 47 0 46,bB 48 1 46,bl 4 4 47,F 5 48] .ret)))))
abbrev bg:=Raw×Raw
def aG (f:bg):List Data:=[.int .i64 f.1.1,.X (f.1.2.map ad),.int .i64 f.2.1,.X (f.2.2.map ad)]
def ez (x:bg×Int):Data:=.cH [.agg (aG x.1),.int .i64 x.2]
def aq (x:Rat):bg:=(bQ x.num,bQ x.den)
def dg (x:Rat):Prop:=x.num.natAbs<ea/\x.den<ea
def fj:bg:=((0,[]),(0,[]))
def ei (f:bg):Bool:=dB f.1&&(dB f.2&&(f.2.1==1&&(jx (iD f.1).natAbs (iD f.2).natAbs==1)))
def B6 (f:bg):Rat:=l9 (iD f.1) (iD f.2)
theorem Eg (x:Rat):B6 (aq x)=x:=by
 unfold B6 aq;rw[fT,fT,Eh]
theorem ub {x y:Rat}(h:aq x=aq y):x=y:=by rw[<-Eg x,h,Eg]
theorem den_pos (x:Rat):0<(x.den:Int):=Ec.2 x.den_pos
theorem ate {n:Int}(h:0<n):(bQ n).1=1:=j6 h
theorem Le (f:bg):ei f=true↔∃x,dg x/\f=aq x:=by
 unfold ei;simp only[e9,beq_iff_eq]
 constructor
 ·rintro⟨E,H,af,aP⟩;obtain⟨p,aF,ay⟩:=(j5 _).1 E;obtain⟨q,aO,aB⟩:=(j5 _).1 H;obtain⟨f1,f2⟩:=f;simp only at ay aB af aP;subst ay aB;rw[fT,fT] at aP
  have Wj:0<q:=by
   rcases mQ q with ⟨_,h⟩|⟨e,_⟩|⟨e,_⟩
   ·exact h
   ·have:q.sign=1:=af;omega
   ·have:q.sign=1:=af;omega
  refine⟨⟨p,q.natAbs,by omega,aP⟩,⟨aF,aO⟩,?_⟩
  unfold aq;rw[show ((q.natAbs:Nat):Int)=q by omega]
 ·rintro⟨x,⟨E,H⟩,rfl⟩;have Y:(x.den:Int).natAbs<ea:=by rw[mR];exact H
  refine⟨lj E,lj Y,ate (den_pos x),?_⟩;unfold aq;rw[fT,fT,mR];exact x.reduced
theorem yt {x:Rat}(h:dg x):ei (aq x)=true:=(Le _).2 ⟨x,h,rfl⟩
theorem w6 {x:Rat}(h:dg x):(x.den:Int).natAbs<ea:=by rw[mR];exact h.2
theorem nz {z:Int}(h:z.natAbs<ea):(aJ z.natAbs).length<=1000000:=by have:=rG h;omega
def Ei (a:Raw):Bool:=(sF a).2&&((sF a).1==1)
theorem atf {z:Int}(h:z.natAbs<ea):Ei (bQ z)=decide (z=1):=by
 unfold Ei sF;rw[lj h,fT]
 by_cases J:dA z
 ·rw[ab ⟨rfl,J⟩];simp only[g1]
  rfl
 ·rw[ag λh=>J h.2];have:z≠1:=by rintro rfl;exact J (by unfold dA;omega)
  simp[this]
def WN:=cj BF λ(s,l)=>cN (D l<=1000000) (.same (.bool (Ei (s,l))))
@[go_sem] theorem aKZ (s:Int)(l:List Int)(G:(D l)<=1000000):WN [.agg [.int .i64 s,.X (l.map ad)]]=some (.same (.bool (Ei (s,l)))):=(cu Gu (s,l)).trans (cT G _)
theorem atg (T:bb)(PR:T Us=aV Wz)(s:Int)(l:List Int)(G:(D l)<=1000000):WP T WI (.same (.bool (Ei (s,l)))) [.I (.agg [.int .i64 s,.X (l.map ad)])]:=by
 refine cv ?_;simp only[WI];unfold Ei;rcases h:(sF (s,l)).2
 ·simp only[go_sem,go_sem_proc,PR,G,h];repeat' (first|refine ax ?_ ?_|fail)<;>intro h<;>simp only[h,go_sem,go_sem_proc,PR,G,h]
 ·simp only[go_sem,go_sem_proc,PR,G,h];repeat' (first|refine ax ?_ ?_|fail)<;>intro h<;>simp only[h,go_sem,go_sem_proc,PR,G,h]
abbrev Ej:Int×(List Int)×Int×(List Int)->List Data:=λ(s,l,s2,al)=>[.agg [.int .i64 s,.X (l.map ad),.int .i64 s2,.X (al.map ad)]]
def vK:=cj Ej λ(s,l,s2,al)=>cN (D l<=1000000/\D al<=1000000) (.same (.bool (ei ((s,l),(s2,al)))))
theorem Lf:∀a b,Ej a=Ej b->a=b:=by
  rintro⟨s1,en,BZ,B0⟩ ⟨s2,al,B1,B2⟩ h;simp only[a6,Data.agg.injEq,Data.int.injEq,Data.X.injEq] at h;exact dQ h.1.1.2 (dQ (map_inj fi _ _ h.1.2.1) (dQ h.1.2.2.1.2 (map_inj fi _ _ h.1.2.2.2.1)))
@[go_sem] theorem ath (s:Int)(l:List Int)(s2:Int)(al:List Int)(G:(D l)<=1000000/\D al<=1000000):vK [.agg [.int .i64 s,.X (l.map ad),.int .i64 s2,.X (al.map ad)]]=some (.same (.bool (ei ((s,l),(s2,al))))):=(cu Lf (s,l,s2,al)).trans (cT G _)
theorem ati (T:bb)(dF:T lb=aV wQ)(yu:T Kp=aV PC)(PS:T Uk=aV WN)(s:Int)(l:List Int)(s2:Int)(al:List Int)(G:(D l)<=1000000/\D al<=1000000):WP T WB (.same (.bool (ei ((s,l),(s2,al))))) [.I (.agg [.int .i64 s,.X (l.map ad),.int .i64 s2,.X (al.map ad)])]:=by
 refine cv ?_;simp only[WB];obtain⟨b5,cw⟩:=G
 by_cases aa:dB (s,l)=true
 ·by_cases bC:dB (s2,al)=true
  ·by_cases U:s2=1
   ·obtain⟨x,O,e⟩:=(j5 _).1 aa;obtain⟨y,ar,aB⟩:=(j5 _).1 bC
    have a9:l8 (s,l) (s2,al)=(bQ ((jx x.natAbs y.natAbs:Nat):Int),0):=by
     unfold l8;rw[aa,bC,e,aB,fT,fT];rfl
    have ma:=K8 O ar
    have bL:Ei (bQ ((jx x.natAbs y.natAbs:Nat):Int))=(jx x.natAbs y.natAbs==1):=by
     rw[atf (by rw[mR];exact ma)];rw[B7];simp;omega
    have oH:iD (s,l)=x:=by rw[e,fT]
    have oI:iD (s2,al)=y:=by rw[aB,fT]
    have gf:ei ((s,l),(s2,al))=(jx x.natAbs y.natAbs==1):=by
     show (dB (s,l)&&(dB (s2,al)&&((s2==1)&&(jx (iD (s,l)).natAbs (iD (s2,al)).natAbs==1))))=_;rw[aa,bC,oH,oI,show (s2==1)=true by simpa using U]
     simp only[g1]
    have atj:((bQ ((jx x.natAbs y.natAbs:Nat):Int)).2).length<=1000000:=nz (by rw[mR];exact ma);rw[gf,<-bL];generalize bQ ((jx x.natAbs y.natAbs:Nat):Int)=bN at *;obtain⟨cE,ck⟩:=bN;have iX:(s2==1)=true:=by simpa using U
    refine aY ?_;repeat' (intro h<;>simp only[h,go_sem,go_sem_proc,dF,yu,PS,aa,bC,b5,cw,iX,a9,atj,fU,da,show ((0:Int)==0)=true from rfl]<;>try refine ax ?_ ?_)
   ·have gf:ei ((s,l),(s2,al))=false:=by unfold ei;simp[U]
    have iX:(s2==1)=false:=by simpa using U
    rw[gf];refine aY ?_;repeat' (intro h<;>simp only[h,go_sem,go_sem_proc,dF,yu,PS,aa,bC,b5,cw,iX]<;>try refine ax ?_ ?_)
  ·have bC:dB (s2,al)=false:=by simpa using bC
   have gf:ei ((s,l),(s2,al))=false:=by unfold ei;simp[bC]
   rw[gf];refine aY ?_;repeat' (intro h<;>simp only[h,go_sem,go_sem_proc,dF,yu,PS,aa,bC,b5,cw]<;>try refine ax ?_ ?_)
 ·have aa:dB (s,l)=false:=by simpa using aa
  have gf:ei ((s,l),(s2,al))=false:=by unfold ei;simp[aa]
  rw[gf];refine aY ?_;repeat' (intro h<;>simp only[h,go_sem,go_sem_proc,dF,yu,PS,aa,b5,cw]<;>try refine ax ?_ ?_)
def hK (p q:Raw):bg×Int :=
 if (dB p&&dB q)=true then (if iD q=0 then (fj,15) else (aq (l9 (iD p) (iD q)),0)) else (fj,1)
theorem z3 {p q:Int}(aF:p.natAbs<ea)(aO:q.natAbs<ea)(ao:q≠0):hK (bQ p) (bQ q)=(aq (l9 p q),0):=by
 unfold hK;rw[lj aF,lj aO,fT,fT,ab (by rfl),ag ao]
theorem WO {p q:Int}(aO:0<q):(l9 p q).num=p.fdiv ((jx p.natAbs q.natAbs:Nat):Int)/\((l9 p q).den:Int)=q.fdiv ((jx p.natAbs q.natAbs:Nat):Int):=by
 rw[Rat.num_divInt,Rat.den_divInt,ag (by omega),j6 aO,n6];have a9:q.gcd p=jx p.natAbs q.natAbs:=by rw[Int.gcd_comm];rfl
 rw[a9];have ao:(0:Int)<=((jx p.natAbs q.natAbs:Nat):Int):=Int.natCast_nonneg _;rw[age _ ao,age _ ao];refine⟨rfl,?_⟩;rw[Int.natCast_ediv]
 congr 1
 omega
theorem WQ {p q:Int}(aO:q≠0):0<jx p.natAbs q.natAbs:=Nat.gcd_pos_of_pos_right _ (by omega)
theorem PT {p q:Int}(aF:p.natAbs<ea)(aO:q.natAbs<ea):dg (l9 p q):=by
 have main:∀{p q:Int},p.natAbs<ea->q.natAbs<ea->0<q->dg (l9 p q):=by
  intro p q aF aO ao;obtain⟨E,H⟩:=WO (p:=p) ao;have a9:=WQ (p:=p) (q:=q) (by omega);refine⟨?_,?_⟩
  ·rw[E];exact GS aF (by omega)
  ·have:=GS (y:=((jx p.natAbs q.natAbs:Nat):Int)) aO (by omega);rw[<-H,mR] at this;exact this
 rcases yk q 0 with h|h|h
 ·rw[<-agf];exact main (by omega) (by omega) (by omega)
 ·subst h;rw[Rat.divInt_zero];unfold dg ea;exact⟨Nat.pow_pos (by omega),Nat.one_lt_pow (by omega) (by omega)⟩
 ·exact main aF aO h
def PU:=cj w2 λ(s,l,s2,al)=>cN (D l<=1000000/\D al<=1000000) (.same (ez (hK (s,l) (s2,al))))
@[go_sem] theorem aK0 (s:Int)(l:List Int)(s2:Int)(al:List Int)(G:(D l)<=1000000/\D al<=1000000):PU [.agg [.int .i64 s,.X (l.map ad)],.agg [.int .i64 s2,.X (al.map ad)]]=some (.same (ez (hK (s,l) (s2,al)))):=(cu zY (s,l,s2,al)).trans (cT G _)
theorem atk (T:bb)(dF:T lb=aV wQ)(z4:T Gi=aV Pz)(yu:T Kp=aV PC)(qN:T DI=aV PJ)(s:Int)(l:List Int)(s2:Int)(al:List Int)(G:(D l)<=1000000/\D al<=1000000):WP T WL (.same (ez (hK (s,l) (s2,al)))) [.I (.agg [.int .i64 s,.X (l.map ad)]),.I (.agg [.int .i64 s2,.X (al.map ad)])]:=by
 refine cv ?_;simp only[WL];obtain⟨b5,cw⟩:=G
 by_cases aa:dB (s,l)=true
 ·by_cases bC:dB (s2,al)=true
  ·obtain⟨x,O,e⟩:=(j5 _).1 aa;obtain⟨y,ar,aB⟩:=(j5 _).1 bC
   by_cases ao:y=0
   ·have hm:hK (s,l) (s2,al)=(fj,15):=by
     unfold hK;rw[aa,bC,aB,fT,ab (by rfl),ab ao]
    rw[hm]
    cases e
    cases aB;have U:(y.sign==0)=true:=by rw[ao];rfl
    refine aY ?_;repeat' (intro h<;>simp only[h,go_sem,go_sem_proc,dF,z4,yu,qN,aa,bC,b5,cw,U,ez,aG,fj,cS]<;>try refine ax ?_ ?_)
   ·have main:∀p q:Int,p.natAbs<ea->q.natAbs<ea->0<q->∃g:Raw,l8 (bQ p) (bQ q)=(g,0)/\g.2.length<=1000000/\kN (bQ p) g=(bQ (l9 p q).num,bQ (p.fmod ((jx p.natAbs q.natAbs:Nat):Int)),0)/\kN (bQ q) g=(bQ (l9 p q).den,bQ (q.fmod ((jx p.natAbs q.natAbs:Nat):Int)),0):=by
     intro p q aF aO mK;have ma:=K8 aF aO;have Ek:((jx p.natAbs q.natAbs:Nat):Int).natAbs<ea:=by rw[mR];exact ma
     have Pj:=WQ (p:=p) (q:=q) (by omega);obtain⟨E,H⟩:=WO (p:=p) mK;refine⟨bQ ((jx p.natAbs q.natAbs:Nat):Int),?_,nz Ek,?_,?_⟩
     ·unfold l8;rw[lj aF,lj aO,fT,fT];rfl
     ·rw[D9 aF Ek (by omega),E]
     ·rw[D9 aO Ek (by omega),H]
    have qO:(y.sign==0)=false:=by simpa using ao
    rcases Int.lt_or_gt_of_ne ao with kM|ib
    ·have hJ:decide (y.sign<0)=true:=by rw[rF kM];rfl
     obtain⟨⟨cE,ck⟩,a9,ma,j3,mL⟩:=main (-x) (-y) (by omega) (by omega) (by omega)
     have hm:hK (s,l) (s2,al)=(aq (l9 (-x) (-y)),0):=by
      rw[e,aB,z3 O ar ao,agf]
     rw[hm];have qo:j7 (s,l)=bQ (-x):=by unfold j7;rw[ab aa,e,fT]
     have xX:j7 (s2,al)=bQ (-y):=by unfold j7;rw[ab bC,aB,fT]
     have El:s2=y.sign:=congrArg B8 aB;have h0:(bQ (-x)).2.length<=1000000:=nz (by omega);have jM:(bQ (-y)).2.length<=1000000:=nz (by omega);clear e aB;unfold aq;generalize bQ (-x)=df at *;generalize bQ (-y)=gk at *;obtain⟨a7,b3⟩:=df;obtain⟨oR,oS⟩:=gk;rw[<-El] at qO hJ;refine aY ?_;repeat' (intro h<;>simp only[h,go_sem,go_sem_proc,dF,z4,yu,qN,aa,bC,b5,cw,qO,hJ,qo,xX,h0,jM,a9,ma,j3,mL,ez,aG,fU,hA,da]<;>try refine ax ?_ ?_)
    ·have hJ:decide (y.sign<0)=false:=by rw[j6 ib];rfl
     obtain⟨⟨cE,ck⟩,a9,ma,j3,mL⟩:=main x y O ar ib
     have hm:hK (s,l) (s2,al)=(aq (l9 x y),0):=by
      rw[e,aB,z3 O ar ao]
     rw[hm];have El:s2=y.sign:=congrArg B8 aB;rw[<-e] at a9 j3;rw[<-aB] at a9 mL;rw[<-El] at qO hJ;unfold aq;refine aY ?_;repeat' (intro h<;>simp only[h,go_sem,go_sem_proc,dF,z4,yu,qN,aa,bC,b5,cw,qO,hJ,a9,ma,j3,mL,ez,aG,fU,hA,da]<;>try refine ax ?_ ?_)
  ·have bC:dB (s2,al)=false:=by simpa using bC
   have hm:hK (s,l) (s2,al)=(fj,1):=by unfold hK;rw[bC,iZ];rfl
   rw[hm];refine aY ?_;repeat' (intro h<;>simp only[h,go_sem,go_sem_proc,dF,z4,yu,qN,aa,bC,b5,cw,ez,aG,fj,cS]<;>try refine ax ?_ ?_)
 ·have aa:dB (s,l)=false:=by simpa using aa
  have hm:hK (s,l) (s2,al)=(fj,1):=by unfold hK;rw[aa,fB];rfl
  rw[hm];refine aY ?_;repeat' (intro h<;>simp only[h,go_sem,go_sem_proc,dF,z4,yu,qN,aa,b5,cw,ez,aG,fj,cS]<;>try refine ax ?_ ?_)
def Em:=cj DV λ(p,q)=>cN (dA p/\dA q) (.same (ez (hK (bQ p) (bQ q))))
@[go_sem] theorem agh (p:Int)(q:Int)(G:dA p/\dA q):Em [.int .i64 p,.int .i64 q]=some (.same (ez (hK (bQ p) (bQ q)))):=(cu KO (p,q)).trans (cT G _)
theorem atl (T:bb)(atm:T OE=aV Wy)(Lg:T Kq=aV PU)(p:Int)(q:Int)(G:dA p/\dA q):WP T WD (.same (ez (hK (bQ p) (bQ q)))) [.I (.int .i64 p),.I (.int .i64 q)]:=by
 refine cv ?_;simp only[WD];obtain⟨E,H⟩:=G;have en:(bQ p).2.length<=1000000:=nz (yr E);have al:(bQ q).2.length<=1000000:=nz (yr H);generalize gv:bQ p=P at *;generalize e2:bQ q=aL at *;obtain⟨a7,b3⟩:=P;obtain⟨oR,oS⟩:=aL;refine aY ?_;repeat' (intro h<;>simp only[h,go_sem,go_sem_proc,atm,Lg,E,H,gv,e2,en,al,da,ez,aG]<;>try refine ax ?_ ?_)
def w7 (a b c d:Raw):Raw×Int :=
 if ((mulR a b).2==0)=true then (if ((mulR c d).2==0)=true then sD (mulR a b).1 (mulR c d).1 else ((0,[]),(mulR c d).2)) else ((0,[]),(mulR a b).2)
theorem agi (z:Int):(sC z).1.2.length<=1000000:=by
 unfold sC
 split
 ·exact nz (by assumption)
 ·simp
theorem En (a b:Raw):(mulR a b).1.2.length<=1000000:=by
 unfold mulR
 split
 ·exact agi _
 ·simp
theorem atn (a b:Raw):(sD a b).1.2.length<=1000000:=by
 unfold sD
 split
 ·exact agi _
 ·simp
theorem ato (a b c d:Raw):(w7 a b c d).1.2.length<=1000000:=by
 unfold w7
 split
 ·split
  ·exact atn _ _
  ·simp
 ·simp
abbrev WR:Int×(List Int)×Int×(List Int)×Int×(List Int)×Int×(List Int)->List Data:=λ(s,l,s2,al,c7,b1,db,cr)=>[.agg [.int .i64 s,.X (l.map ad)],.agg [.int .i64 s2,.X (al.map ad)],.agg [.int .i64 c7,.X (b1.map ad)],.agg [.int .i64 db,.X (cr.map ad)]]
def WS:=cj WR λ(s,l,s2,al,c7,b1,db,cr)=>cN (D l<=1000000/\D al<=1000000/\D b1<=1000000/\D cr<=1000000) (.same (fU (w7 (s,l) (s2,al) (c7,b1) (db,cr))))
theorem atp:∀a b,WR a=WR b->a=b:=by
  rintro⟨s1,en,BZ,B0,atq,atr,ats,att⟩ ⟨s2,al,B1,B2,atu,atv,atw,atx⟩ h;simp only[a6,Data.agg.injEq,Data.int.injEq,Data.X.injEq] at h;exact dQ h.1.1.2 (dQ (map_inj fi _ _ h.1.2.1) (dQ h.2.1.1.2 (dQ (map_inj fi _ _ h.2.1.2.1) (dQ h.2.2.1.1.2 (dQ (map_inj fi _ _ h.2.2.1.2.1) (dQ h.2.2.2.1.1.2 (map_inj fi _ _ h.2.2.2.1.2.1)))))))
@[go_sem] theorem aK1 (s:Int)(l:List Int)(s2:Int)(al:List Int)(c7:Int)(b1:List Int)(db:Int)(cr:List Int)(G:(D l)<=1000000/\D al<=1000000/\D b1<=1000000/\D cr<=1000000):WS [.agg [.int .i64 s,.X (l.map ad)],.agg [.int .i64 s2,.X (al.map ad)],.agg [.int .i64 c7,.X (b1.map ad)],.agg [.int .i64 db,.X (cr.map ad)]]=some (.same (fU (w7 (s,l) (s2,al) (c7,b1) (db,cr)))):=(cu atp (s,l,s2,al,c7,b1,db,cr)).trans (cT G _)
theorem aty (T:bb)(qP:T vn=aV GQ)(WT:T Ut=aV Wn)(s:Int)(l:List Int)(s2:Int)(al:List Int)(c7:Int)(b1:List Int)(db:Int)(cr:List Int)(G:(D l)<=1000000/\D al<=1000000/\D b1<=1000000/\D cr<=1000000):WP T WJ (.same (fU (w7 (s,l) (s2,al) (c7,b1) (db,cr)))) [.I (.agg [.int .i64 s,.X (l.map ad)]),.I (.agg [.int .i64 s2,.X (al.map ad)]),.I (.agg [.int .i64 c7,.X (b1.map ad)]),.I (.agg [.int .i64 db,.X (cr.map ad)])]:=by
 refine cv ?_;simp only[WJ];obtain⟨b5,cw,h0,jM⟩:=G;have dJ:=En (s,l) (s2,al);have cU:=En (c7,b1) (db,cr);unfold w7;generalize tV:mulR (s,l) (s2,al)=M1 at *;generalize hc:mulR (c7,b1) (db,cr)=M2 at *;obtain⟨⟨cQ,de⟩,ay⟩:=M1;obtain⟨⟨c1,ee⟩,aB⟩:=M2;rcases E:(ay==0)
 ·refine aY ?_;repeat' (intro h<;>simp only[h,go_sem,go_sem_proc,qP,WT,b5,cw,h0,jM,tV,E,dJ,cU,fU,da,cS]<;>try refine ax ?_ ?_)
 ·have jN:ay=0:=by simpa using E
  subst jN;rcases H:(aB==0)
  ·refine aY ?_;repeat' (intro h<;>simp only[h,go_sem,go_sem_proc,qP,WT,b5,cw,h0,jM,tV,hc,E,H,dJ,cU,fU,da,cS]<;>try refine ax ?_ ?_)
  ·have kO:aB=0:=by simpa using H
   subst kO;refine aY ?_;repeat' (intro h<;>simp only[h,go_sem,go_sem_proc,qP,WT,b5,cw,h0,jM,tV,hc,E,dJ,cU,fU,da,cS]<;>try refine ax ?_ ?_)
def vL (p:Raw×Int)(q:Raw×Int):bg×Int:=if (p.2==0)=true then (if (q.2==0)=true then hK p.1 q.1 else (fj,6)) else (fj,6)
abbrev WU:Int×(List Int)×Int×Int×(List Int)×Int->List Data:=λ(s,l,e,s2,al,aB)=>[.agg [.int .i64 s,.X (l.map ad)],.int .i64 e,.agg [.int .i64 s2,.X (al.map ad)],.int .i64 aB]
def Lh:=cj WU λ(s,l,e,s2,al,aB)=>cN (D l<=1000000/\D al<=1000000) (.same (ez (vL ((s,l),e) ((s2,al),aB))))
theorem atz:∀a b,WU a=WU b->a=b:=by
  rintro⟨s1,en,ay,BZ,B0,pv⟩ ⟨s2,al,aB,B1,B2,uc⟩ h;simp only[a6,Data.agg.injEq,Data.int.injEq,Data.X.injEq] at h;exact dQ h.1.1.2 (dQ (map_inj fi _ _ h.1.2.1) (dQ h.2.1.2 (dQ h.2.2.1.1.2 (dQ (map_inj fi _ _ h.2.2.1.2.1) h.2.2.2.1.2))))
@[go_sem] theorem aK2 (s:Int)(l:List Int)(e:Int)(s2:Int)(al:List Int)(aB:Int)(G:(D l)<=1000000/\D al<=1000000):Lh [.agg [.int .i64 s,.X (l.map ad)],.int .i64 e,.agg [.int .i64 s2,.X (al.map ad)],.int .i64 aB]=some (.same (ez (vL ((s,l),e) ((s2,al),aB)))):=(cu atz (s,l,e,s2,al,aB)).trans (cT G _)
theorem atA (T:bb)(Lg:T Kq=aV PU)(s:Int)(l:List Int)(e:Int)(s2:Int)(al:List Int)(aB:Int)(G:(D l)<=1000000/\D al<=1000000):WP T WK (.same (ez (vL ((s,l),e) ((s2,al),aB)))) [.I (.agg [.int .i64 s,.X (l.map ad)]),.I (.int .i64 e),.I (.agg [.int .i64 s2,.X (al.map ad)]),.I (.int .i64 aB)]:=by
 refine cv ?_;simp only[WK];obtain⟨b5,cw⟩:=G;unfold vL;rcases E:(e==0)
 ·refine aY ?_;repeat' (intro h<;>simp only[h,go_sem,go_sem_proc,Lg,b5,cw,E,ez,aG,fj,cS]<;>try refine ax ?_ ?_)
 ·have jN:e=0:=by simpa using E
  subst jN;rcases H:(aB==0)
  ·refine aY ?_;repeat' (intro h<;>simp only[h,go_sem,go_sem_proc,Lg,b5,cw,E,H,ez,aG,fj,cS]<;>try refine ax ?_ ?_)
  ·have kO:aB=0:=by simpa using H
   subst kO;refine aY ?_;repeat' (intro h<;>simp only[h,go_sem,go_sem_proc,Lg,b5,cw,E,ez,aG,fj,cS]<;>try refine ax ?_ ?_)
def vM (a b:bg):bg×Int:=if ei a=true then (if ei b=true then vL (w7 a.1 b.2 b.1 a.2) (mulR a.2 b.2) else (fj,1)) else (fj,1)
def oW (a b:bg):bg×Int:=if ei a=true then (if ei b=true then vM a (j7 b.1,b.2) else (fj,1)) else (fj,1)
def oa (a b:bg):bg×Int:=if ei a=true then (if ei b=true then vL (mulR a.1 b.1) (mulR a.2 b.2) else (fj,1)) else (fj,1)
def j8 (a b:bg):bg×Int:=if ei a=true then (if ei b=true then (if (b.1.1==0)=true then (fj,15) else vL (mulR a.1 b.2) (mulR a.2 b.1)) else (fj,1)) else (fj,1)
theorem atB (a:Raw)(h:a.2.length<=1000000):(j7 a).2.length<=1000000:=by
 unfold j7
 split
 ·rename_i aa;obtain⟨z,aW,e⟩:=(j5 _).1 aa;rw[e,fT];exact nz (by omega)
 ·simp
abbrev z5:Int×(List Int)×Int×(List Int)×Int×(List Int)×Int×(List Int)->List Data:=λ(s,l,s2,al,c7,b1,db,cr)=>[.agg [.int .i64 s,.X (l.map ad),.int .i64 s2,.X (al.map ad)],.agg [.int .i64 c7,.X (b1.map ad),.int .i64 db,.X (cr.map ad)]]
def yv:=cj z5 λ(s,l,s2,al,c7,b1,db,cr)=>cN (D l<=1000000/\D al<=1000000/\D b1<=1000000/\D cr<=1000000) (.same (ez (vM ((s,l),(s2,al)) ((c7,b1),(db,cr)))))
theorem Eo:∀a b,z5 a=z5 b->a=b:=by
  rintro⟨s1,en,BZ,B0,atq,atr,ats,att⟩ ⟨s2,al,B1,B2,atu,atv,atw,atx⟩ h;simp only[a6,Data.agg.injEq,Data.int.injEq,Data.X.injEq] at h;exact dQ h.1.1.2 (dQ (map_inj fi _ _ h.1.2.1) (dQ h.1.2.2.1.2 (dQ (map_inj fi _ _ h.1.2.2.2.1) (dQ h.2.1.1.2 (dQ (map_inj fi _ _ h.2.1.2.1) (dQ h.2.1.2.2.1.2 (map_inj fi _ _ h.2.1.2.2.2.1)))))))
@[go_sem] theorem agj (s:Int)(l:List Int)(s2:Int)(al:List Int)(c7:Int)(b1:List Int)(db:Int)(cr:List Int)(G:(D l)<=1000000/\D al<=1000000/\D b1<=1000000/\D cr<=1000000):yv [.agg [.int .i64 s,.X (l.map ad),.int .i64 s2,.X (al.map ad)],.agg [.int .i64 c7,.X (b1.map ad),.int .i64 db,.X (cr.map ad)]]=some (.same (ez (vM ((s,l),(s2,al)) ((c7,b1),(db,cr))))):=(cu Eo (s,l,s2,al,c7,b1,db,cr)).trans (cT G _)
theorem atC (T:bb)(fI:T l5=aV vK)(WV:T Ul=aV WS)(qP:T vn=aV GQ)(vN:T DH=aV Lh)(s:Int)(l:List Int)(s2:Int)(al:List Int)(c7:Int)(b1:List Int)(db:Int)(cr:List Int)(G:(D l)<=1000000/\D al<=1000000/\D b1<=1000000/\D cr<=1000000):WP T WC (.same (ez (vM ((s,l),(s2,al)) ((c7,b1),(db,cr))))) [.I (.agg [.int .i64 s,.X (l.map ad),.int .i64 s2,.X (al.map ad)]),.I (.agg [.int .i64 c7,.X (b1.map ad),.int .i64 db,.X (cr.map ad)])]:=by
 refine cv ?_;simp only[WC];obtain⟨b5,cw,h0,jM⟩:=G;unfold vM
 by_cases aa:ei ((s,l),(s2,al))=true
 ·by_cases bC:ei ((c7,b1),(db,cr))=true
  ·have dJ:=ato (s,l) (db,cr) (c7,b1) (s2,al);have cU:=En (s2,al) (db,cr);rw[ab aa,ab bC];dsimp only;generalize tV:w7 (s,l) (db,cr) (c7,b1) (s2,al)=M1 at *;generalize hc:mulR (s2,al) (db,cr)=M2 at *;obtain⟨⟨cQ,de⟩,ay⟩:=M1;obtain⟨⟨c1,ee⟩,aB⟩:=M2;refine aY ?_;repeat' (intro h<;>simp only[h,go_sem,go_sem_proc,fI,WV,qP,vN,b5,cw,h0,jM,aa,bC,tV,hc,dJ,cU,fU,da,ez,aG]<;>try refine ax ?_ ?_)
  ·have bC:ei ((c7,b1),(db,cr))=false:=by simpa using bC
   rw[ab aa,ag (by simp[bC])];refine aY ?_;repeat' (intro h<;>simp only[h,go_sem,go_sem_proc,fI,WV,qP,vN,b5,cw,h0,jM,aa,bC,ez,aG,fj,cS]<;>try refine ax ?_ ?_)
 ·have aa:ei ((s,l),(s2,al))=false:=by simpa using aa
  rw[ag (by simp[aa])];refine aY ?_;repeat' (intro h<;>simp only[h,go_sem,go_sem_proc,fI,WV,qP,vN,b5,cw,h0,jM,aa,ez,aG,fj,cS]<;>try refine ax ?_ ?_)
def w8:=cj z5 λ(s,l,s2,al,c7,b1,db,cr)=>cN (D l<=1000000/\D al<=1000000/\D b1<=1000000/\D cr<=1000000) (.same (ez (oW ((s,l),(s2,al)) ((c7,b1),(db,cr)))))
@[go_sem] theorem agk (s:Int)(l:List Int)(s2:Int)(al:List Int)(c7:Int)(b1:List Int)(db:Int)(cr:List Int)(G:(D l)<=1000000/\D al<=1000000/\D b1<=1000000/\D cr<=1000000):w8 [.agg [.int .i64 s,.X (l.map ad),.int .i64 s2,.X (al.map ad)],.agg [.int .i64 c7,.X (b1.map ad),.int .i64 db,.X (cr.map ad)]]=some (.same (ez (oW ((s,l),(s2,al)) ((c7,b1),(db,cr))))):=(cu Eo (s,l,s2,al,c7,b1,db,cr)).trans (cT G _)
theorem atD (T:bb)(fI:T l5=aV vK)(z4:T Gi=aV Pz)(eE:T vl=aV yv)(s:Int)(l:List Int)(s2:Int)(al:List Int)(c7:Int)(b1:List Int)(db:Int)(cr:List Int)(G:(D l)<=1000000/\D al<=1000000/\D b1<=1000000/\D cr<=1000000):WP T WE (.same (ez (oW ((s,l),(s2,al)) ((c7,b1),(db,cr))))) [.I (.agg [.int .i64 s,.X (l.map ad),.int .i64 s2,.X (al.map ad)]),.I (.agg [.int .i64 c7,.X (b1.map ad),.int .i64 db,.X (cr.map ad)])]:=by
 refine cv ?_;simp only[WE];obtain⟨b5,cw,h0,jM⟩:=G;unfold oW
 by_cases aa:ei ((s,l),(s2,al))=true
 ·by_cases bC:ei ((c7,b1),(db,cr))=true
  ·have dJ:=atB (c7,b1) h0;rw[ab aa,ab bC];dsimp only;generalize tV:j7 (c7,b1)=M1 at *;obtain⟨cQ,de⟩:=M1;refine aY ?_;repeat' (intro h<;>simp only[h,go_sem,go_sem_proc,fI,z4,eE,b5,cw,h0,jM,aa,bC,tV,dJ,fU,da,ez,aG]<;>try refine ax ?_ ?_)
  ·have bC:ei ((c7,b1),(db,cr))=false:=by simpa using bC
   rw[ab aa,ag (by simp[bC])];refine aY ?_;repeat' (intro h<;>simp only[h,go_sem,go_sem_proc,fI,z4,eE,b5,cw,h0,jM,aa,bC,ez,aG,fj,cS]<;>try refine ax ?_ ?_)
 ·have aa:ei ((s,l),(s2,al))=false:=by simpa using aa
  rw[ag (by simp[aa])];refine aY ?_;repeat' (intro h<;>simp only[h,go_sem,go_sem_proc,fI,z4,eE,b5,cw,h0,jM,aa,ez,aG,fj,cS]<;>try refine ax ?_ ?_)
def yw:=cj z5 λ(s,l,s2,al,c7,b1,db,cr)=>cN (D l<=1000000/\D al<=1000000/\D b1<=1000000/\D cr<=1000000) (.same (ez (oa ((s,l),(s2,al)) ((c7,b1),(db,cr)))))
@[go_sem] theorem atE (s:Int)(l:List Int)(s2:Int)(al:List Int)(c7:Int)(b1:List Int)(db:Int)(cr:List Int)(G:(D l)<=1000000/\D al<=1000000/\D b1<=1000000/\D cr<=1000000):yw [.agg [.int .i64 s,.X (l.map ad),.int .i64 s2,.X (al.map ad)],.agg [.int .i64 c7,.X (b1.map ad),.int .i64 db,.X (cr.map ad)]]=some (.same (ez (oa ((s,l),(s2,al)) ((c7,b1),(db,cr))))):=(cu Eo (s,l,s2,al,c7,b1,db,cr)).trans (cT G _)
theorem atF (T:bb)(fI:T l5=aV vK)(qP:T vn=aV GQ)(vN:T DH=aV Lh)(s:Int)(l:List Int)(s2:Int)(al:List Int)(c7:Int)(b1:List Int)(db:Int)(cr:List Int)(G:(D l)<=1000000/\D al<=1000000/\D b1<=1000000/\D cr<=1000000):WP T WG (.same (ez (oa ((s,l),(s2,al)) ((c7,b1),(db,cr))))) [.I (.agg [.int .i64 s,.X (l.map ad),.int .i64 s2,.X (al.map ad)]),.I (.agg [.int .i64 c7,.X (b1.map ad),.int .i64 db,.X (cr.map ad)])]:=by
 refine cv ?_;simp only[WG];obtain⟨b5,cw,h0,jM⟩:=G;unfold oa
 by_cases aa:ei ((s,l),(s2,al))=true
 ·by_cases bC:ei ((c7,b1),(db,cr))=true
  ·have dJ:=En (s,l) (c7,b1);have cU:=En (s2,al) (db,cr);rw[ab aa,ab bC];dsimp only;generalize tV:mulR (s,l) (c7,b1)=M1 at *;generalize hc:mulR (s2,al) (db,cr)=M2 at *;obtain⟨⟨cQ,de⟩,ay⟩:=M1;obtain⟨⟨c1,ee⟩,aB⟩:=M2;refine aY ?_;repeat' (intro h<;>simp only[h,go_sem,go_sem_proc,fI,qP,vN,b5,cw,h0,jM,aa,bC,tV,hc,dJ,cU,fU,da,ez,aG]<;>try refine ax ?_ ?_)
  ·have bC:ei ((c7,b1),(db,cr))=false:=by simpa using bC
   rw[ab aa,ag (by simp[bC])];refine aY ?_;repeat' (intro h<;>simp only[h,go_sem,go_sem_proc,fI,qP,vN,b5,cw,h0,jM,aa,bC,ez,aG,fj,cS]<;>try refine ax ?_ ?_)
 ·have aa:ei ((s,l),(s2,al))=false:=by simpa using aa
  rw[ag (by simp[aa])];refine aY ?_;repeat' (intro h<;>simp only[h,go_sem,go_sem_proc,fI,qP,vN,b5,cw,h0,jM,aa,ez,aG,fj,cS]<;>try refine ax ?_ ?_)
def Ep:=cj z5 λ(s,l,s2,al,c7,b1,db,cr)=>cN (D l<=1000000/\D al<=1000000/\D b1<=1000000/\D cr<=1000000) (.same (ez (j8 ((s,l),(s2,al)) ((c7,b1),(db,cr)))))
@[go_sem] theorem atG (s:Int)(l:List Int)(s2:Int)(al:List Int)(c7:Int)(b1:List Int)(db:Int)(cr:List Int)(G:(D l)<=1000000/\D al<=1000000/\D b1<=1000000/\D cr<=1000000):Ep [.agg [.int .i64 s,.X (l.map ad),.int .i64 s2,.X (al.map ad)],.agg [.int .i64 c7,.X (b1.map ad),.int .i64 db,.X (cr.map ad)]]=some (.same (ez (j8 ((s,l),(s2,al)) ((c7,b1),(db,cr))))):=(cu Eo (s,l,s2,al,c7,b1,db,cr)).trans (cT G _)
theorem atH (T:bb)(fI:T l5=aV vK)(qP:T vn=aV GQ)(vN:T DH=aV Lh)(s:Int)(l:List Int)(s2:Int)(al:List Int)(c7:Int)(b1:List Int)(db:Int)(cr:List Int)(G:(D l)<=1000000/\D al<=1000000/\D b1<=1000000/\D cr<=1000000):WP T WM (.same (ez (j8 ((s,l),(s2,al)) ((c7,b1),(db,cr))))) [.I (.agg [.int .i64 s,.X (l.map ad),.int .i64 s2,.X (al.map ad)]),.I (.agg [.int .i64 c7,.X (b1.map ad),.int .i64 db,.X (cr.map ad)])]:=by
 refine cv ?_;simp only[WM];obtain⟨b5,cw,h0,jM⟩:=G;unfold j8
 by_cases aa:ei ((s,l),(s2,al))=true
 ·by_cases bC:ei ((c7,b1),(db,cr))=true
  ·rw[ab aa,ab bC];dsimp only;rcases ao:(c7==0)
   ·have dJ:=En (s,l) (db,cr);have cU:=En (s2,al) (c7,b1);rw[ag (by simp)];generalize tV:mulR (s,l) (db,cr)=M1 at *;generalize hc:mulR (s2,al) (c7,b1)=M2 at *;obtain⟨⟨cQ,de⟩,ay⟩:=M1;obtain⟨⟨c1,ee⟩,aB⟩:=M2;refine aY ?_;repeat' (intro h<;>simp only[h,go_sem,go_sem_proc,fI,qP,vN,b5,cw,h0,jM,aa,bC,ao,tV,hc,dJ,cU,fU,da,ez,aG]<;>try refine ax ?_ ?_)
   ·rw[ab rfl];refine aY ?_;repeat' (intro h<;>simp only[h,go_sem,go_sem_proc,fI,qP,vN,b5,cw,h0,jM,aa,bC,ao,ez,aG,fj,cS]<;>try refine ax ?_ ?_)
  ·have bC:ei ((c7,b1),(db,cr))=false:=by simpa using bC
   rw[ab aa,ag (by simp[bC])];refine aY ?_;repeat' (intro h<;>simp only[h,go_sem,go_sem_proc,fI,qP,vN,b5,cw,h0,jM,aa,bC,ez,aG,fj,cS]<;>try refine ax ?_ ?_)
 ·have aa:ei ((s,l),(s2,al))=false:=by simpa using aa
  rw[ag (by simp[aa])];refine aY ?_;repeat' (intro h<;>simp only[h,go_sem,go_sem_proc,fI,qP,vN,b5,cw,h0,jM,aa,ez,aG,fj,cS]<;>try refine ax ?_ ?_)
def ud (c:Bool)(v:Rat):bg×Int:=if c=true then (aq v,0) else (fj,6)
def iQ (z:Int):Bool:=decide (z.natAbs<ea)
def lk (x y:Rat):Bool:=iQ (x.num*y.den)&&(iQ (y.num*x.den)&&(iQ (x.num*y.den+y.num*x.den)&&iQ ((x.den:Int)*y.den)))
def z6 (x y:Rat):Bool:=iQ (x.num*y.num)&&iQ ((x.den:Int)*y.den)
def w9 (x y:Rat):Bool:=iQ (x.num*y.den)&&iQ ((x.den:Int)*y.num)
theorem B9 {z:Int}(h:iQ z=true):sC z=(bQ z,0):=ab (by simpa [iQ] using h)
theorem Ca {z:Int}(h:iQ z=false):sC z=((0,[]),6):=ag (by simpa [iQ] using h)
theorem qQ {z:Int}(h:iQ z=true):z.natAbs<ea:=by simpa [iQ] using h
theorem atI {a b c d:Int}(aM:a.natAbs<ea)(ae:b.natAbs<ea)(G:c.natAbs<ea)(Y:d.natAbs<ea):
  w7 (bQ a) (bQ b) (bQ c) (bQ d)=if (iQ (a*b)&&(iQ (c*d)&&iQ (a*b+c*d)))=true then (bQ (a*b+c*d),0) else ((0,[]),6):=by
 unfold w7;rw[BX aM ae,BX G Y];rcases E:iQ (a*b)
 ·rw[Ca E];rfl
 ·rw[B9 E];rcases H:iQ (c*d)
  ·rw[Ca H];rfl
  ·rw[B9 H];show sD (bQ (a*b)) (bQ (c*d))=_;rw[afZ (qQ E) (qQ H)];rcases af:iQ (a*b+c*d)
   ·rw[Ca af];rfl
   ·rw[B9 af];rfl
theorem WW (x y:Rat):l9 (x.num*y.den+y.num*x.den) ((x.den:Int)*y.den)=x+y:=by
 rw[<-Rat.divInt_add_divInt _ _ (by have:=den_pos x;omega) (by have:=den_pos y;omega),Eh,Eh]
theorem WX (x y:Rat):l9 (x.num*y.num) ((x.den:Int)*y.den)=x*y:=by
 rw[<-agl,Eh,Eh]
theorem WY (x y:Rat):l9 (x.num*y.den) ((x.den:Int)*y.num)=x/y:=by
 rw[<-agl,Eh,<-Rat.inv_divInt,Eh]
 rfl
theorem xa (x:Rat):(x.den:Int)≠0:=by have:=den_pos x;omega
theorem WZ {x y:Rat}(O:dg x)(ar:dg y):vM (aq x) (aq y)=ud (lk x y) (x+y):=by
 unfold vM;rw[ab (yt O),ab (yt ar)];show vL (w7 (bQ x.num) (bQ y.den) (bQ y.num) (bQ x.den)) (mulR (bQ x.den) (bQ y.den))=_;rw[atI O.1 (w6 ar) ar.1 (w6 O),BX (w6 O) (w6 ar)];unfold lk;rcases E:iQ (x.num*y.den)
 ·rfl
 ·rcases H:iQ (y.num*x.den)
  ·rfl
  ·rcases af:iQ (x.num*y.den+y.num*x.den)
   ·rfl
   ·rcases aP:iQ ((x.den:Int)*y.den)
    ·rw[Ca aP];rfl
    ·rw[B9 aP];show hK (bQ (x.num*y.den+y.num*x.den)) (bQ ((x.den:Int)*y.den))=(aq (x+y),0)
     rw[z3 (qQ af) (qQ aP) (z7 (xa x) (xa y)),WW]
theorem atJ {x:Rat}(h:dg x):dg (-x):=⟨by rw[Rat.neg_num];have:=h.1;omega,by rw[Rat.neg_den];exact h.2⟩
theorem Li {x y:Rat}(O:dg x)(ar:dg y):oW (aq x) (aq y)=ud (lk x (-y)) (x-y):=by
 unfold oW;rw[ab (yt O),ab (yt ar)]
 have:(j7 (aq y).1,(aq y).2)=aq (-y):=by
  unfold aq;have:j7 (bQ y.num)=bQ (-y.num):=by unfold j7;rw[ab (lj ar.1),fT]
  dsimp only;rw[this];rfl
 rw[this,WZ O (atJ ar),Lj]
theorem W0 {x y:Rat}(O:dg x)(ar:dg y):oa (aq x) (aq y)=ud (z6 x y) (x*y):=by
 unfold oa;rw[ab (yt O),ab (yt ar)];show vL (mulR (bQ x.num) (bQ y.num)) (mulR (bQ x.den) (bQ y.den))=_;rw[BX O.1 ar.1,BX (w6 O) (w6 ar)];unfold z6;rcases E:iQ (x.num*y.num)
 ·rw[Ca E];rfl
 ·rw[B9 E];rcases aP:iQ ((x.den:Int)*y.den)
  ·rw[Ca aP];rfl
  ·rw[B9 aP];show hK (bQ (x.num*y.num)) (bQ ((x.den:Int)*y.den))=(aq (x*y),0)
   rw[z3 (qQ E) (qQ aP) (z7 (xa x) (xa y)),WX]
theorem PV {x y:Rat}(O:dg x)(ar:dg y)(ao:y≠0):j8 (aq x) (aq y)=ud (w9 x y) (x/y):=by
 unfold j8;rw[ab (yt O),ab (yt ar)];have aH:y.num≠0:=λh=>ao (Rat.num_eq_zero.1 h)
 have:((aq y).1.1==0)=false:=by
  show (y.num.sign==0)=false
  simpa using aH
 rw[this,ag (by simp)];show vL (mulR (bQ x.num) (bQ y.den)) (mulR (bQ x.den) (bQ y.num))=_;rw[BX O.1 (w6 ar),BX (w6 O) ar.1];unfold w9;rcases E:iQ (x.num*y.den)
 ·rw[Ca E];rfl
 ·rw[B9 E];rcases aP:iQ ((x.den:Int)*y.num)
  ·rw[Ca aP];rfl
  ·rw[B9 aP];show hK (bQ (x.num*y.den)) (bQ ((x.den:Int)*y.num))=(aq (x/y),0)
   rw[z3 (qQ E) (qQ aP) (z7 (xa x) aH),WY]
theorem atK {x y:Rat}(h:lk x y=true):dg (x+y):=by
 unfold lk at h;simp only[e9] at h;rw[<-WW];exact PT (qQ h.2.2.1) (qQ h.2.2.2)
theorem agm {x y:Rat}(h:lk x (-y)=true):dg (x-y):=by rw[Lj];exact atK h
theorem agn {x y:Rat}(h:z6 x y=true):dg (x*y):=by
 unfold z6 at h;simp only[e9] at h;rw[<-WX];exact PT (qQ h.1) (qQ h.2)
theorem atL {x y:Rat}(h:w9 x y=true):dg (x/y):=by
 unfold w9 at h;simp only[e9] at h;rw[<-WY];exact PT (qQ h.1) (qQ h.2)
def j9 (x y:Rat):Int:=(x.num*y.den-y.num*x.den).sign
def lM (a b:bg):Int:=if ei a=true then (if ei b=true then (iD a.1*iD b.2-iD b.1*iD a.2).sign else 0) else 0
theorem PW {x y:Rat}(O:dg x)(ar:dg y):lM (aq x) (aq y)=j9 x y:=by
 unfold lM;rw[ab (yt O),ab (yt ar)];unfold aq j9;rw[fT,fT,fT,fT]
theorem W1 {x y:Rat}:j9 x y=0↔x=y:=by
 unfold j9;rw[Wt,Rat.eq_iff_mul_eq_mul];omega
theorem PX {p q:Int}(aO:0<q):0<=p.fmod q/\p.fmod q<q:=⟨Int.fmod_nonneg_of_pos _ aO,Int.fmod_lt_of_pos _ aO⟩
theorem ago {p q r s:Int}(aO:0<q)(U:0<s)(h:p.fdiv q<r.fdiv s):p*s-r*q<0:=by
 have ay:=PY p q;have aB:=PY r s;have c1:=PX (p:=p) aO;have ee:=PX (p:=r) U;generalize p.fdiv q=x at *;generalize r.fdiv s=y at *;generalize p.fmod q=u at *;generalize r.fmod s=v at *;subst ay aB;have E:q*s*(x+1)<=q*s*y:=Int.mul_le_mul_of_nonneg_left (by omega) (PN (Int.mul_pos aO U));have H:u*s<q*s:=Int.mul_lt_mul_of_pos_right c1.2 U;have af:0<=v*q:=yh ee.1 (by omega);have bG:(q*x+u)*s-(s*y+v)*q=q*s*(x+1)-q*s*y+(u*s-q*s)-v*q:=by grind
 omega
theorem atM {p q r s:Int}(h:p.fdiv q=r.fdiv s):p*s-r*q=p.fmod q*s-r.fmod s*q:=by
 have ay:=PY p q;have aB:=PY r s;rw[h] at ay;generalize r.fdiv s=y at *;generalize p.fmod q=u at *;generalize r.fmod s=v at *;subst ay aB;grind
theorem agp (a b:Int):(a-b).sign = -(b-a).sign:=by rw[<-D8];congr 1;omega
theorem agq {p q:Int}(aF:p.natAbs<ea)(aO:q.natAbs<ea)(ao:0<q):
  kN (p.sign,aJ p.natAbs) (q.sign,aJ q.natAbs)=(((p.fdiv q).sign,aJ (p.fdiv q).natAbs),((p.fmod q).sign,aJ (p.fmod q).natAbs),0):=D9 aF aO (by omega)
def sG:=cj z5 λ(s,l,s2,al,c7,b1,db,cr)=>cN (D l<=1000000/\D al<=1000000/\D b1<=1000000/\D cr<=1000000) (.same (.int .i64 (lM ((s,l),(s2,al)) ((c7,b1),(db,cr)))))
@[go_sem] theorem agr (s:Int)(l:List Int)(s2:Int)(al:List Int)(c7:Int)(b1:List Int)(db:Int)(cr:List Int)(G:(D l)<=1000000/\D al<=1000000/\D b1<=1000000/\D cr<=1000000):sG [.agg [.int .i64 s,.X (l.map ad),.int .i64 s2,.X (al.map ad)],.agg [.int .i64 c7,.X (b1.map ad),.int .i64 db,.X (cr.map ad)]]=some (.same (.int .i64 (lM ((s,l),(s2,al)) ((c7,b1),(db,cr))))):=(cu Eo (s,l,s2,al,c7,b1,db,cr)).trans (cT G _)
theorem atN (T:bb)(fI:T l5=aV vK)(qN:T DI=aV PJ)(yx:T Ur=aV Wo)(s:Int)(l:List Int)(s2:Int)(al:List Int)(c7:Int)(b1:List Int)(db:Int)(cr:List Int)(G:(D l)<=1000000/\D al<=1000000/\D b1<=1000000/\D cr<=1000000):WP T WH (.same (.int .i64 (lM ((s,l),(s2,al)) ((c7,b1),(db,cr))))) [.I (.agg [.int .i64 s,.X (l.map ad),.int .i64 s2,.X (al.map ad)]),.I (.agg [.int .i64 c7,.X (b1.map ad),.int .i64 db,.X (cr.map ad)])]:=by
 refine cv ?_;simp only[WH];obtain⟨b5,cw,h0,jM⟩:=G
 by_cases aa:ei ((s,l),(s2,al))=true
 ·by_cases bC:ei ((c7,b1),(db,cr))=true
  ·obtain⟨x,O,e⟩:=(Le _).1 aa;obtain⟨y,ar,aB⟩:=(Le _).1 bC;have hm:lM ((s,l),(s2,al)) ((c7,b1),(db,cr))=j9 x y:=by rw[e,aB,PW O ar]
   rw[hm];clear hm;have atO:(s,l)=bQ x.num:=congrArg B8 e;have W2:(s2,al)=bQ x.den:=congrArg Prod.snd e;have W3:(c7,b1)=bQ y.num:=congrArg B8 aB;have atP:(db,cr)=bQ y.den:=congrArg Prod.snd aB;clear e aB;have GV:=w6 O;have W4:=w6 ar;have rI:=den_pos x;have jc:=den_pos y;have atQ:=O.1;have TE:=ar.1;unfold j9;generalize x.num=P at *;generalize (x.den:Int)=aL at *;generalize y.num=bV at *;generalize (y.den:Int)=S at *
   cases atO
   cases W2
   cases W3
   cases atP;simp only[go_sem,go_sem_proc,fI,qN,yx,b5,cw,h0,jM,aa,bC];refine dm [5,6,7,8] [135002,135003] (λ((sH,p,q,r,t):Int×Int×Int×Int×Int) tm mem=>(sH=1\/sH = -1)/\0<q/\0<t/\p.natAbs<ea/\q.natAbs<ea/\r.natAbs<ea/\t.natAbs<ea/\(P*S-bV*aL).sign=sH*(p*t-r*q).sign/\tm 9=.I (.int .i64 sH)/\mem 135005=some (0,[.I (.int .i64 p.sign),.I (.X ((aJ p.natAbs).map ad))])/\mem 135006=some (0,[.I (.int .i64 q.sign),.I (.X ((aJ q.natAbs).map ad))])/\mem 135007=some (0,[.I (.int .i64 r.sign),.I (.X ((aJ r.natAbs).map ad))])/\mem 135008=some (0,[.I (.int .i64 t.sign),.I (.X ((aJ t.natAbs).map ad))])) (λ(_,_,q,_,_)=>q.natAbs) (1,P,aL,bV,S) (by refine⟨.inl rfl,rI,jc,atQ,GV,TE,W4,by rw[n6],rfl,?_,?_,?_,?_⟩<;>rfl) ?_;intro vs ms aR aN;simp only[go_sem,go_sem_proc,fI,qN,yx] at aR aN;subst aR aN;rintro⟨sH,p,q,r,t⟩ tm mem M hm ⟨PZ,mK,Lk,aF,aO,GW,bA,hX,jt,Ll,Lm,ll,Er⟩;simp only[go_sem,go_sem_proc,fI,qN,yx,a6] at M hm;obtain⟨bt,bU,bM,cf⟩:=M;have Ln:=nz aF;have Lo:=nz aO;have Cb:=nz GW;have lt:=nz bA;have j3:=agq aF aO mK;have mL:=agq GW bA Lk;have ags:=GS (y:=q) aF (by omega);have Lp:=GS (y:=t) GW (by omega);have GX:=nz ags;have Lq:=nz Lp;have fx:w3 ((p.fdiv q).sign,aJ (p.fdiv q).natAbs) ((r.fdiv t).sign,aJ (r.fdiv t).natAbs)=hQ (p.fdiv q) (r.fdiv t):=af0 ags Lp;have aK3:=PX (p:=p) mK;have bv:=PX (p:=r) Lk;have atS:IntKind.i64.wrap (0-sH) = -sH:=by rcases PZ with rfl|rfl<;>rfl
   rcases yk (p.fdiv q) (r.fdiv t) with az|heq|gr
   ·have ak:=ago mK Lk az;rw[K6 az] at fx;rw[hX,rF ak];have hw:IntKind.i64.wrap (sH * -1)=sH * -1:=by rcases PZ with rfl|rfl<;>rfl
    refine aY ?_;repeat' (intro h<;>simp only[h,go_sem,go_sem_proc,fI,qN,yx,bt,bU,bM,cf,jt,hm,Ll,Lm,ll,Er,Ln,Lo,Cb,lt,GX,Lq,j3,mL,fx,hw,hA,da,show ((-1:Int)==0)=false from rfl]<;>try refine ax ?_ ?_)
   ·have ak:=atM heq;rw[heq,PB] at fx
    have fy:∀a:Int,-1<=a->a<=1->IntKind.i64.wrap (sH*a)=sH*a:=by
     intro a E H;rcases PZ with rfl|rfl<;>exact wrap64 _ (by omega) (by omega)
    rw[heq] at j3 GX;have aK4:(p.fmod q).natAbs<ea:=by omega
    have aK5:(r.fmod t).natAbs<ea:=by omega
    rw[ak] at hX;generalize p.fmod q=u at *;generalize r.fmod t=v at *
    by_cases hu:u=0
    ·subst hu
     have U:(0*t-v*q).sign=(0:Int).sign-v.sign:=by
      rw[z0,agt,D8,sE,j6 mK,vy,yy,agt]
     rw[U] at hX;rw[hX];have af:=rH v;have BU:IntKind.i64.wrap ((0:Int).sign-v.sign)=(0:Int).sign-v.sign:=wrap64 _ (by rw[yy];omega) (by rw[yy];omega);have hw:=fy ((0:Int).sign-v.sign) (by rw[yy];omega) (by rw[yy];omega);refine aY ?_;repeat' (intro h<;>simp only[h,go_sem,go_sem_proc,fI,qN,yx,bt,bU,bM,cf,jt,hm,Ll,Lm,ll,Er,Ln,Lo,Cb,lt,GX,Lq,j3,mL,fx,hw,BU,hA,da,show ((0:Int)==0)=true from rfl,show ((0:Int).sign==0)=true from rfl]<;>try refine ax ?_ ?_)
    ·have Ee:0<u:=by omega
     have W5:(u.sign==0)=false:=by simpa using hu
     by_cases FV:v=0
     ·subst FV
      have U:(u*t-0*q).sign=u.sign-(0:Int).sign:=by
       rw[z0,KU,sE,j6 Lk,vy,yy,KU]
      rw[U] at hX;rw[hX];have af:=rH u;have BU:IntKind.i64.wrap (u.sign-(0:Int).sign)=u.sign-(0:Int).sign:=wrap64 _ (by rw[yy];omega) (by rw[yy];omega);have hw:=fy (u.sign-(0:Int).sign) (by rw[yy];omega) (by rw[yy];omega);refine aY ?_;repeat' (intro h<;>simp only[h,go_sem,go_sem_proc,fI,qN,yx,bt,bU,bM,cf,jt,hm,Ll,Lm,ll,Er,Ln,Lo,Cb,lt,GX,Lq,j3,mL,fx,hw,BU,W5,hA,da,show ((0:Int)==0)=true from rfl,show ((0:Int).sign==0)=true from rfl]<;>try refine ax ?_ ?_)
     ·have oH:(v.sign==0)=false:=by simpa using FV
      refine aY ?_;repeat' (intro h<;>simp only[h,go_sem,go_sem_proc,fI,qN,yx,bt,bU,bM,cf,jt,hm,Ll,Lm,ll,Er,Ln,Lo,Cb,lt,GX,Lq,j3,mL,fx,W5,oH,atS,hA,da,show ((0:Int)==0)=true from rfl]<;>try refine ax ?_ ?_)
      refine⟨(-sH,q,u,t,v),by dsimp only;omega,by dsimp only;omega,by dsimp only;omega,by dsimp only;omega,by dsimp only;omega,by dsimp only;omega,by dsimp only;omega,by dsimp only;omega,?_,by simp[go_sem],by simp[go_sem],by simp[go_sem],by simp[go_sem],by simp[go_sem]⟩
      dsimp only;rw[hX,agp (q*v) (t*u),Int.neg_mul_neg,nt t u,nt q v]
   ·have ak:=ago Lk mK gr;rw[K7 gr] at fx;rw[hX,agp,rF ak];have hw:IntKind.i64.wrap (sH*1)=sH * -(-1):=by rcases PZ with rfl|rfl<;>rfl
    refine aY ?_;repeat' (intro h<;>simp only[h,go_sem,go_sem_proc,fI,qN,yx,bt,bU,bM,cf,jt,hm,Ll,Lm,ll,Er,Ln,Lo,Cb,lt,GX,Lq,j3,mL,fx,hw,hA,da,show ((1:Int)==0)=false from rfl]<;>try refine ax ?_ ?_)
  ·have bC:ei ((c7,b1),(db,cr))=false:=by simpa using bC
   have hm:lM ((s,l),(s2,al)) ((c7,b1),(db,cr))=0:=by unfold lM;rw[ab aa,ag (by simp[bC])]
   rw[hm];refine aY ?_;repeat' (intro h<;>simp only[h,go_sem,go_sem_proc,fI,qN,yx,b5,cw,h0,jM,aa,bC]<;>try refine ax ?_ ?_)
 ·have aa:ei ((s,l),(s2,al))=false:=by simpa using aa
  have hm:lM ((s,l),(s2,al)) ((c7,b1),(db,cr))=0:=by unfold lM;rw[ag (by simp[aa])]
  rw[hm];refine aY ?_;repeat' (intro h<;>simp only[h,go_sem,go_sem_proc,fI,qN,yx,b5,cw,h0,jM,aa]<;>try refine ax ?_ ?_)
def W6:bT:=cd 22 2 [.t 4] (R [dR 3 108003 1,cC 4 false] (.seq (R [aU 6 1 3,a5 7 .lss 6 0,F 8 7,⟨some 9,some (8,false),.load 1 false (.t 3)⟩,⟨some 10,some (8,false),.bin .gtr (.t 9) (.c (aj 40))⟩,ek 11 8 10,F 12 11,⟨some 13,some (12,false),.cp (.t 0)⟩,⟨some 14,some (12,false),.len (.t 13)⟩,⟨some 15,some (12,false),.load 1 false (.t 3)⟩,⟨some 16,some (12,false),.bin .neq (.t 14) (.t 15)⟩,ek 17 12 16] (aZ 17 (R [cC 4 false] .ret) .skip)) (R [(aC 5 (.alloc 108005 [(.I .u1)])),⟨none,none,.store 1 (.t 5) (.c (.fA oQ []))⟩] (R [F 18 0,(aC 19 (.pJ Bx [(.t 3),(.t 5)])),(cq 20 Uh 18 19),fp 21 20,F 4 21] .ret))))
def W7:bT:=cd 48 2 [.t 4,.t 5] (R [eN 4,br 5 0] (.seq (R [F 11 0,F 12 1,(cq 13 Uf 11 12),fp 14 13] (aZ 14 (R [eN 4,br 5 1] .ret) .skip)) (R [F 16 0,F 17 1,(aC 18 (.call Ui [(.t 16),(.t 17),(.c (.I (.bool true)))])),F 15 18,bB 19 0 15,bB 20 1 15,F 6 19,F 7 20] (.seq (.block 0 (R [F 22 6,hn 23 22,bf 24 2 23,aU 25 1 24,F 21 25] (aZ 21 (R [eN 4,br 5 6] .ret) (R [F 27 7,b7 28 27,a5 29 .gtr 28 0,F 26 29] (aZ 26 (R [eN 4,br 5 17] .ret) .skip))))) (R [eN 8] (.seq (R [F 30 6,hn 31 30,bf 32 0 31,aU 33 1 32,b7 34 33,br 35 0] (.block 1 (.ghost (.oE 8 109045 4) (.loop  (R [bn 36 .lss 35 34] (.seq (aZ 36 .skip (.exit 1)) (.seq (.block 2 (R [bR 37 1 33 35,aU 38 1 37,F 10 38] (.ops [F 39 8,F 40 10,F 41 1,bR 42 4 40 41,bo 43 4 42,(aC 44 (.fc 109044 false [(aj 0),.nil,(aj 0),.nil] 4 1 [(0,4,(.t 43))])),(aC 45 (.app 109045 [(aj 0),.nil,(aj 0),.nil] 64 (.t 39) (.t 44))),F 8 45]))) (.ops [a5 46 .add 35 1,F 35 46])))))))) (R [F 47 8,F 4 47,br 5 0] .ret)))))))
def W8:bT:=cd 6 1 [.t 2] (R [dR 1 125001 0,cC 2 false] (R [bo 3 4 1,(dL 4 l5 3),fp 5 4,F 2 5] .ret))
def W9:bT:=cd 22 3 [.t 4] (R [dR 3 127003 0,cC 4 false] (R [bf 5 0 3,aU 6 1 5,b7 7 6,aU 8 1 1,bn 9 .neq 7 8,F 10 9,⟨some 11,some (10,false),.load 1 false (.t 2)⟩,⟨some 12,some (10,false),.ef 1 (.t 3)⟩,⟨some 13,some (10,false),.load 4 true (.t 12)⟩,⟨some 14,some (10,false),.jQ (.t 11) [(.t 13)]⟩,ek 15 10 14,F 16 15,⟨some 17,some (16,false),.ef 0 (.t 3)⟩,⟨some 18,some (16,false),.load 1 false (.t 17)⟩,⟨some 19,some (16,false),.load 1 false (.t 2)⟩,⟨some 20,some (16,false),.call Ko [(.t 18),(.t 19)]⟩,ek 21 16 20,F 4 21] .ret))
def Lr:bT:=cd 65 3 [.t 6,.t 7] (R [(aC 6 (.cp (.c (.I .u0)))),eN 7] (R [F 13 1,(aC 14 (.build [.nil,(aj 0),(.I (.bool false))] [(1,1,(.t 13))])),dR 15 129015 14,F 8 15] (.seq (R [F 16 0,b7 17 16,br 18 0] (.block 0 (.loop  (R [bn 19 .lss 18 17] (.seq (aZ 19 .skip (.exit 0)) (.seq (.block 1 (R [bR 20 5 16 18,bo 21 5 20,(aC 10 (.alloc 129010 [.nil,(aj 0),.nil,(aj 0),.nil])),bl 5 10 21] (.nj [F 22 8,F 23 8,hn 24 23,bf 25 0 24,aU 26 1 25,bf 27 0 10,aU 28 1 27,(aC 29 (.oD 129029 4 OD [(.t 28)])),bf 30 1 10,bo 31 4 30,(aC 32 (.fc 129032 false [(aj 0),.nil,(aj 0),.nil] 4 1 [(0,4,(.t 31))])),(aC 33 (.app 129033 [(aj 0),.nil,(aj 0),.nil] 64 (.t 29) (.t 32))),(aC 34 (.fc 129034 true [.nil] 1 1 [(0,1,(.t 33))])),(aC 35 (.app 129035 [.nil] 24 (.t 26) (.t 34))),hn 36 22,bf 37 0 36,bl 1 37 35] [[],[],[],[],[],[],[],[4],[],[7],[],[4],[4],[],[],[],[]]))) (.ghost (.move) (.ops [a5 38 .add 18 1,F 18 38])))))))) (R [eN 11] (.seq (R [br 12 0] (.block 2 (.ghost (.oE 11 129061 1) (.loop  (.seq (R [F 39 12,F 40 1,bn 41 .lss 39 40,F 42 41,⟨some 43,some (42,true),.cp (.t 8)⟩,⟨some 44,some (42,true),.r9 (.t 43)⟩,⟨some 45,some (42,true),.ef 2 (.t 44)⟩,⟨some 46,some (42,true),.load 1 false (.t 45)⟩,⟨some 47,some (42,true),.un .not (.t 46)⟩,gg 48 42 47] (aZ 48 .skip (.exit 2))) (.seq (.block 3 (R [F 51 8,F 52 12,F 53 11,b7 54 53,bn 55 .sub 52 54,F 56 12,(vw 57 Up 51 55 56)] (aZ 57 (R [F 58 11,F 59 12,(aC 60 (.fc 129060 false [(aj 0)] 1 1 [(0,1,(.t 59))])),(aC 61 (.app 129061 [(aj 0)] 8 (.t 58) (.t 60))),F 11 61] (R [F 62 2] (aZ 62 (.exit 2) .skip))) .skip))) (.ops [F 49 12,a5 50 .add 49 1,F 12 50]))))))) (R [F 63 8,F 64 11,F 6 63,F 7 64] .ret))))))
def yz:bT:=cd 172 3 [.t 6] (R [cC 6 false] (R [F 15 1,F 7 15] (.seq (.block 0 (.loop  (.seq (R [F 16 7,F 17 0,hn 18 17,bf 19 1 18,aU 20 1 19,bn 21 .lss 16 20,F 22 21,⟨some 23,some (22,true),.cp (.t 0)⟩,⟨some 24,some (22,true),.r9 (.t 23)⟩,⟨some 25,some (22,true),.ef 0 (.t 24)⟩,⟨some 26,some (22,true),.load 1 false (.t 25)⟩,⟨some 27,some (22,true),.cp (.t 7)⟩,⟨some 28,some (22,true),.kE 1 (.t 26) (.t 27)⟩,⟨some 29,some (22,true),.load 1 false (.t 28)⟩,⟨some 30,some (22,true),.cp (.t 2)⟩,⟨some 31,some (22,true),.kE 4 (.t 29) (.t 30)⟩,⟨some 32,some (22,true),.load 4 true (.t 31)⟩,⟨some 33,some (22,true),.call Ks [(.t 32)]⟩,gg 34 22 33] (aZ 34 .skip (.exit 0))) (.block 1 (.ops [F 35 7,a5 36 .add 35 1,F 7 36]))))) (.seq (R [F 37 7,F 38 0,hn 39 38,bf 40 1 39,aU 41 1 40,bn 42 .eql 37 41] (aZ 42 (R [cC 6 true] .ret) .skip)) (fH [F 43 0,hn 44 43,bf 45 0 44,aU 46 1 45,F 47 1,F 48 0,hn 49 48,bf 50 0 49,aU 51 1 50,F 52 7,F 53 0,hn 54 53,bf 55 0 54,aU 56 1 55,F 57 7,bR 58 1 56 57,aU 59 1 58,F 60 0,hn 61 60,bf 62 0 61,aU 63 1 62,F 64 1,bR 65 1 63 64,aU 66 1 65,bR 67 1 46 47,bl 1 67 59,bR 68 1 51 52,bl 1 68 66] ae2 (R [F 69 0,hn 70 69,bf 71 0 70,aU 72 1 71,F 73 1,bR 74 1 72 73,aU 75 1 74,F 76 2,bR 77 4 75 76,bo 78 4 77,(aC 8 (.alloc 148008 [(aj 0),.nil,(aj 0),.nil])),bl 4 8 78] (.seq (R [F 79 0,hn 80 79,bf 81 0 80,aU 82 1 81,F 83 1,bR 84 1 82 83,aU 85 1 84,b7 86 85,br 87 0] (.block 2 (.loop  (R [bn 88 .lss 87 86] (.seq (aZ 88 .skip (.exit 2)) (.seq (.block 3 (R [F 89 87,bR 90 4 85 87,bo 91 4 90,(aC 10 (.alloc 148010 [(aj 0),.nil,(aj 0),.nil])),F 9 89,bl 4 10 91] (.nj [F 92 0,hn 93 92,bf 94 0 93,aU 95 1 94,F 96 1,bR 97 1 95 96,aU 98 1 97,F 99 9,F 100 0,bo 101 4 10,bo 102 4 8,(cq 103 DJ 101 102),bB 104 0 103,bB 105 1 103,(aC 106 (.mv 2 Bz [(.t 100),(.t 104),(.t 105)])),bR 107 4 98 99,bl 4 107 106] [[],[],[],[],[],[],[],[],[],[],[],[],[],[],[3,6],[],[]]))) (.ops [a5 108 .add 87 1,F 87 108]))))))) (.seq (R [F 109 0,hn 110 109,bf 111 0 110,aU 112 1 111,b7 113 112,br 114 0] (.block 4 (.loop  (R [bn 115 .lss 114 113] (.seq (aZ 115 .skip (.exit 4)) (.seq (.block 5 (R [F 116 114,bR 117 1 112 114,aU 118 1 117,F 11 116,F 12 118] (R [F 119 12,F 120 2,bR 121 4 119 120,bo 122 4 121,(aC 13 (.alloc 148013 [(aj 0),.nil,(aj 0),.nil])),bl 4 13 122] (.seq (R [F 123 11,F 124 1,bn 125 .eql 123 124,F 126 125,⟨some 127,some (126,false),.load 4 true (.t 13)⟩,⟨some 128,some (126,false),.call Ks [(.t 127)]⟩,ek 129 126 128] (aZ 129 (.exit 5) .skip)) (R [br 14 0] (.block 6 (.loop  (.seq (R [F 130 14,F 131 12,b7 132 131,bn 133 .lss 130 132,F 134 133,⟨some 135,some (134,true),.cp (.t 0)⟩,⟨some 136,some (134,true),.r9 (.t 135)⟩,⟨some 137,some (134,true),.ef 2 (.t 136)⟩,⟨some 138,some (134,true),.load 1 false (.t 137)⟩,⟨some 139,some (134,true),.un .not (.t 138)⟩,gg 140 134 139] (aZ 140 .skip (.exit 6))) (.seq (.block 7 (.nj [F 143 12,F 144 14,F 145 0,F 146 12,F 147 14,bR 148 4 146 147,bo 149 4 148,F 150 0,bo 151 4 13,F 152 0,hn 153 152,bf 154 0 153,aU 155 1 154,F 156 1,bR 157 1 155 156,aU 158 1 157,F 159 14,bR 160 4 158 159,bo 161 4 160,(cq 162 wK 151 161),bB 163 0 162,bB 164 1 162,(aC 165 (.mv 2 Bz [(.t 150),(.t 163),(.t 164)])),(cq 166 vm 149 165),bB 167 0 166,bB 168 1 166,(aC 169 (.mv 2 Bz [(.t 145),(.t 167),(.t 168)])),bR 170 4 143 144,bl 4 170 169] [[],[],[],[],[],[],[],[],[],[],[],[],[],[],[],[],[],[],[],[],[],[],[6],[],[],[],[],[],[]])) (.ops [F 141 14,a5 142 .add 141 1,F 14 142])))))))))) (.ops [a5 171 .add 114 1,F 114 171]))))))) (R [cC 6 false] .ret)))))))))
def Xa:bT:=cd 7 1 [.t 2] (R [dR 1 167001 0,cC 2 false] (R [bf 3 0 1,bf 4 0 3,aU 5 1 4,a5 6 .eql 5 0,F 2 6] .ret))
def P0:bT:=cd 19 3 [.cell 6 4 true] (R [dR 4 168004 1,(aC 6 (.alloc 168006 [(aj 0),.nil,(aj 0),.nil]))] (R [F 7 0,F 8 0,hn 9 8,bf 10 2 9,aU 11 1 10,F 12 11,⟨some 13,some (12,false),.cp (.t 2)⟩,⟨some 14,some (12,false),.bin .neq (.t 13) (.c (aj 0))⟩,ek 15 12 14,hn 16 7,bf 17 2 16,bl 1 17 15] (R [bo 18 4 4,bl 4 6 18] .ret)))
def Es:bT:=cd 92 2 [.cell 4 3 true,.t 5] (R [(aC 4 (.alloc 217004 [.nil,.nil,.nil])),br 5 0] (.seq (R [F 15 0,F 16 1,(cq 17 UA 15 16),fp 18 17] (aZ 18 (R [(aC 19 (.build [.nil,.nil,.nil] [])),bl 3 4 19,br 5 1] .ret) .skip)) (R [F 20 0,F 21 1,(cq 22 UB 20 21),F 6 22] (R [(aC 7 (.alloc 217007 [.nil,.nil,.nil]))] (.seq (.block 0 (.loop  (.block 1 (R [F 24 6,(dL 25 OL 24),F 23 25,bB 26 0 23,bB 27 1 23,(aC 8 (.alloc 217008 [.nil])),bl 1 8 26,F 9 27] (.seq (R [F 28 9,fp 29 28] (aZ 29 (R [(aC 30 (.build [.nil,.nil,.nil] [])),bl 3 4 30,br 5 6] .ret) .skip)) (R [eN 10] (.seq (R [F 31 6,b7 32 31,br 33 0] (.block 2 (.ghost (.oE 10 217057 1) (.loop  (R [bn 34 .lss 33 32] (.seq (aZ 34 .skip (.exit 2)) (.seq (.block 3 (R [F 35 33,bR 36 1 31 33,aU 37 1 36,(aC 11 (.alloc 217011 [(aj 0)])),bl 1 11 35,F 12 37] (.seq (fH [aU 38 1 8,aU 39 1 11,bR 40 4 38 39,bo 41 4 40,F 42 12,F 43 12,hn 44 43,bf 45 22 44,aU 46 1 45,hn 47 42,bf 48 11 47,(aC 49 (.pb 11 1 (.t 48) (.t 46))),aU 50 1 49,(dL 51 po 50),(cq 52 lF 41 51),a5 53 .geq 52 0] OQ (aZ 53 (.exit 3) .skip)) (R [F 54 10,aU 55 1 11,(aC 56 (.fc 217056 false [(aj 0)] 1 1 [(0,1,(.t 55))])),(aC 57 (.app 217057 [(aj 0)] 8 (.t 54) (.t 56))),F 10 57] (.ops [F 58 12,F 59 12,hn 60 59,bf 61 11 60,(aC 62 (.th 11 1 (.t 61) (some (.c (aj 1))) none none)),(aC 63 (.pJ DM [(.t 8),(.t 11)])),(cq 64 wL 62 63),hn 65 58,bf 66 22 65,bl 1 66 64]))))) (.ops [a5 67 .add 33 1,F 33 67])))))))) (.seq (R [F 68 10,b7 69 68,a5 70 .eql 69 0] (aZ 70 (R [aU 71 1 8,bf 72 0 7,bl 1 72 71] (.exit 0)) .skip)) (.ghost (.freeze 10) (.ops [bf 73 2 7,aU 74 1 73,F 75 10,(aC 76 (.fc 217076 false [.nil] 1 1 [(0,1,(.t 75))])),(aC 77 (.app 217077 [.nil] 24 (.t 74) (.t 76))),bf 78 2 7,bl 1 78 77])))))))))) (.seq (.ghost (.many) (.ops [F 80 1,bf 81 0 7,aU 82 1 81,(cq 83 UC 80 82),F 79 83,bB 84 0 79,bB 85 1 79,F 13 84,F 14 85])) (.seq (R [F 86 14,fp 87 86] (aZ 87 (R [(aC 88 (.build [.nil,.nil,.nil] [])),bl 3 4 88,br 5 6] .ret) .skip)) (R [F 89 13,bf 90 1 7,bl 1 90 89] (R [bo 91 3 7,bl 3 4 91,br 5 0] .ret)))))))))
def Xb:bT:=cd 32 2 [.t 4] (R [cC 4 false] (R [F 9 0,b7 10 9,(aC 5 (.alloc 227005 [(aj 0)])),bl 1 5 10] (R [(aC 6 (.alloc 227006 [(.I .u1)])),⟨none,none,.store 1 (.t 6) (.c (.fA vu []))⟩] (R [(aC 11 (.pJ Ky [(.t 6)])),F 7 11] (R [(aC 12 (.pJ Kz [(.t 6),(.t 5)])),F 8 12] (R [aU 13 1 5,a5 14 .leq 13 60,F 15 14,⟨some 16,some (15,true),.cp (.t 1)⟩,⟨some 17,some (15,true),.len (.t 16)⟩,⟨some 18,some (15,true),.bin .leq (.t 17) (.c (aj 2000))⟩,gg 19 15 18,F 20 19,⟨some 21,some (20,true),.cp (.t 0)⟩,⟨some 22,some (20,true),.cp (.t 7)⟩,⟨some 23,some (20,true),.call KA [(.t 21),(.t 22)]⟩,⟨some 24,some (20,true),.un .not (.t 23)⟩,gg 25 20 24,F 26 25,⟨some 27,some (26,true),.cp (.t 1)⟩,⟨some 28,some (26,true),.cp (.t 8)⟩,⟨some 29,some (26,true),.call DN [(.t 27),(.t 28)]⟩,⟨some 30,some (26,true),.un .not (.t 29)⟩,gg 31 26 30,F 4 31] .ret))))))
def Cc:bT:=cd 73 2 [.t 4] (R [eN 4] (R [eN 5] (.seq (R [F 12 0,b7 13 12,br 14 0] (.block 0 (.ghost (.oE 5 228023 1) (.loop  (R [bn 15 .lss 14 13] (.seq (aZ 15 .skip (.exit 0)) (.seq (.block 1 (R [bR 16 1 12 14,aU 17 1 16,F 7 17] (.ops [F 18 5,F 19 7,(aC 20 (.build [(aj 0),.nil,.nil,.nil,.nil,.nil,.nil,.nil,.nil,.nil,.nil,(aj 0),(aj 0),(aj 0),(aj 0),(aj 0),(aj 0),(aj 0),(aj 0),(aj 0),(aj 0),(aj 0),(aj 0),(.I (.bool false))] [(0,1,(.t 19)),(22,1,(.c (aj 10)))])),dR 21 228021 20,(aC 22 (.fc 228022 true [(.I .u0)] 1 1 [(0,1,(.t 21))])),(aC 23 (.app 228023 [(.I .u0)] 8 (.t 18) (.t 22))),F 5 23]))) (.ghost (.many) (.ops [a5 24 .add 14 1,F 14 24]))))))))) (.seq (R [F 25 1,b7 26 25,br 27 0] (.block 2 (.loop  (R [bn 28 .lss 27 26] (.seq (aZ 28 .skip (.exit 2)) (.seq (.block 3 (R [bR 29 4 25 27,bo 30 4 29,(aC 9 (.alloc 228009 [(aj 0),(aj 0),(aj 0),(aj 0)])),bl 4 9 30] (R [F 31 5,bf 32 0 9,aU 33 1 32,bR 34 1 31 33,aU 35 1 34,F 10 35] (fH [F 36 10,bf 37 2 9,aU 38 1 37,F 39 10,bf 40 2 9,aU 41 1 40,hn 42 39,bf 43 1 42,(aC 44 (.pb 10 1 (.t 43) (.t 41))),aU 45 1 44,bo 46 4 9,(aC 47 (.fc 228047 false [(aj 0),(aj 0),(aj 0),(aj 0)] 4 1 [(0,4,(.t 46))])),(aC 48 (.app 228048 [(aj 0),(aj 0),(aj 0),(aj 0)] 32 (.t 45) (.t 47))),hn 49 36,bf 50 1 49,(aC 51 (.pb 10 1 (.t 50) (.t 38))),bl 1 51 48] [[],[],[],[],[],[],[],[],[],[],[],[],[2],[],[],[],[]] (.seq (.ghost (.many) (.ops [bf 52 2 9,aU 53 1 52,a5 54 .add 53 1,F 11 54])) (.block 4 (.loop  (.seq (R [F 55 11,a5 56 .leq 55 10] (aZ 56 .skip (.exit 4))) (.seq (.block 5 (.nj [F 59 10,F 60 11,hn 61 59,bf 62 11 61,(aC 63 (.pb 11 1 (.t 62) (.t 60))),aU 64 1 63,bf 65 3 9,aU 66 1 65,bn 67 .add 64 66,hn 68 59,bf 69 11 68,(aC 70 (.pb 11 1 (.t 69) (.t 60))),bl 1 70 67] U3)) (.ops [F 57 11,a5 58 .add 57 1,F 11 58])))))))))) (.ops [a5 71 .add 27 1,F 27 71]))))))) (.seq (.ghost (.many) (.ops [F 72 5,F 4 72])) .ret)))))
def GY:bT:=cd 72 1 [.t 2,.t 3] (R [eN 2,cC 3 false] (.seq (R [F 11 0,b7 12 11,br 13 0] (.block 0 (.loop  (R [bn 14 .lss 13 12] (.seq (aZ 14 .skip (.exit 0)) (.seq (.block 1 (R [bR 15 1 11 13,aU 16 1 15,F 5 16] (.ops [F 17 5,hn 18 17,bf 19 23 18,⟨none,none,.store 1 (.t 19) (.c (.I (.bool false)))⟩]))) (.ops [a5 20 .add 13 1,F 13 20]))))))) (.block 2 (.loop  (.block 3 (R [F 22 0,(dL 23 UE 22),F 21 23,bB 24 0 21,bB 25 1 21,F 6 24,F 7 25] (.seq (R [F 26 7,fp 27 26] (aZ 27 (R [eN 2,cC 3 false] .ret) .skip)) (R [cC 8 false] (.seq (R [F 28 0,b7 29 28,br 30 0] (.block 4 (.loop  (R [bn 31 .lss 30 29] (.seq (aZ 31 .skip (.exit 4)) (.seq (.block 5 (R [F 32 30,bR 33 1 28 30,aU 34 1 33,F 9 32,F 10 34] (fH [F 35 10,hn 36 35,bf 37 22 36,aU 38 1 37,a5 39 .lss 38 10,F 40 39,⟨some 41,some (40,true),.cp (.t 10)⟩,⟨some 42,some (40,true),.r9 (.t 41)⟩,⟨some 43,some (40,true),.ef 23 (.t 42)⟩,⟨some 44,some (40,true),.load 1 false (.t 43)⟩,⟨some 45,some (40,true),.un .not (.t 44)⟩,gg 46 40 45,F 47 46,⟨some 48,some (47,true),.cp (.t 6)⟩,⟨some 49,some (47,true),.cp (.t 9)⟩,⟨some 50,some (47,true),.kE 4 (.t 48) (.t 49)⟩,⟨some 51,some (47,true),.load 4 true (.t 50)⟩,⟨some 52,some (47,true),.cp (.t 10)⟩,⟨some 53,some (47,true),.cp (.t 10)⟩,⟨some 54,some (47,true),.r9 (.t 53)⟩,⟨some 55,some (47,true),.ef 22 (.t 54)⟩,⟨some 56,some (47,true),.load 1 false (.t 55)⟩,⟨some 57,some (47,true),.r9 (.t 52)⟩,⟨some 58,some (47,true),.ef 11 (.t 57)⟩,⟨some 59,some (47,true),.pb 11 1 (.t 58) (.t 56)⟩,⟨some 60,some (47,true),.load 1 false (.t 59)⟩,⟨some 61,some (47,true),.call po [(.t 60)]⟩,⟨some 62,some (47,true),.call lF [(.t 51),(.t 61)]⟩,⟨some 63,some (47,true),.bin .gtr (.t 62) (.c (aj 0))⟩,gg 64 47 63] arI (aZ 64 (.ops [F 65 10,hn 66 65,bf 67 23 66,⟨none,none,.store 1 (.t 67) (.c (.I (.bool true)))⟩,cC 8 true]) .skip)))) (.ops [a5 68 .add 30 1,F 30 68]))))))) (R [F 69 8,fp 70 69] (aZ 70 (R [F 71 6,F 2 71,cC 3 true] .ret) .skip)))))))))))
def Xc:bT:=cd 11 1 [.cell 2 4 true] (R [(aC 2 (.alloc 230002 [(aj 0),.nil,(aj 0),.nil]))] (R [F 6 0,(aC 7 (.call zH [(.t 6),(.c (aj 1))])),F 5 7,bB 8 0 5,bB 9 1 5,(aC 3 (.alloc 230003 [(aj 0),.nil,(aj 0),.nil])),bl 4 3 8,F 4 9] (R [bo 10 4 3,bl 4 2 10] .ret)))
def Xd:bT:=cd 13 3 [.t 4] (R [cC 4 false] (fH [aU 5 1 1,aU 6 1 2,bR 7 4 5 6,bo 8 4 7,F 9 0,(dL 10 po 9),(cq 11 lF 8 10),a5 12 .lss 11 0,F 4 12] DT .ret))
def Et:bT:=cd 96 2 [.t 4,.t 5] (R [eN 4,cC 5 false] (R [F 17 1,b7 18 17,(aC 19 (.mu 233019 [.nil] 24 (.t 18) (.t 18))),F 6 19] (R [F 20 1,b7 21 20,(aC 22 (.mu 233022 [.nil] 24 (.t 21) (.t 21))),F 7 22] (.seq (R [F 23 0,b7 24 23,br 25 0] (.block 0 (.loop  (R [bn 26 .lss 25 24] (.seq (aZ 26 .skip (.exit 0)) (.seq (.block 1 (R [F 27 25,bR 28 4 23 25,bo 29 4 28,(aC 9 (.alloc 233009 [(aj 0),(aj 0),(aj 0),(aj 0)])),F 8 27,bl 4 9 29] (.nj [F 30 6,bf 31 0 9,aU 32 1 31,F 33 7,bf 34 0 9,aU 35 1 34,F 36 6,bf 37 0 9,aU 38 1 37,bR 39 1 36 38,aU 40 1 39,bo 41 4 9,(aC 42 (.fc 233042 false [(aj 0),(aj 0),(aj 0),(aj 0)] 4 1 [(0,4,(.t 41))])),(aC 43 (.app 233043 [(aj 0),(aj 0),(aj 0),(aj 0)] 32 (.t 40) (.t 42))),F 44 7,bf 45 0 9,aU 46 1 45,bR 47 1 44 46,aU 48 1 47,F 49 8,(aC 50 (.fc 233050 false [(aj 0)] 1 1 [(0,1,(.t 49))])),(aC 51 (.app 233051 [(aj 0)] 8 (.t 48) (.t 50))),bR 52 1 30 32,bl 1 52 43,bR 53 1 33 35,bl 1 53 51] [[],[],[],[],[],[],[],[],[],[],[],[],[],[2,5],[],[],[13],[],[13],[],[],[2,5],[],[5],[],[]]))) (.ghost (.many) (.ops [a5 54 .add 25 1,F 25 54])))))))) (.seq (.ghost (.many) (.ops [F 55 0,b7 56 55,(aC 57 (.mu 233057 [(aj 0),.nil,(aj 0),.nil] 64 (.t 56) (.t 56))),F 10 57])) (.seq (R [F 58 6,b7 59 58,br 60 0] (.block 2 (.loop  (R [bn 61 .lss 60 59] (.seq (aZ 61 .skip (.exit 2)) (.seq (.block 3 (R [F 62 60,bR 63 1 58 60,aU 64 1 63,F 11 62,F 12 64] (R [F 66 1,F 67 11,bR 68 4 66 67,bo 69 4 68,F 70 12,(cq 71 KB 69 70),F 65 71,bB 72 0 65,bB 73 1 65,F 13 72,F 14 73] (.seq (R [F 74 14,a5 75 .neq 74 0] (aZ 75 (R [eN 4,cC 5 false] .ret) .skip)) (R [F 76 7,F 77 11,bR 78 1 76 77,aU 79 1 78,b7 80 79,br 81 0] (.block 4 (.loop  (R [bn 82 .lss 81 80] (.seq (aZ 82 .skip (.exit 4)) (.seq (.block 5 (R [F 83 81,bR 84 1 79 81,aU 85 1 84,F 15 83,F 16 85] (.ops [F 86 10,F 87 16,F 88 13,F 89 15,bR 90 4 88 89,bo 91 4 90,bR 92 4 86 87,bl 4 92 91]))) (.ops [a5 93 .add 81 1,F 81 93]))))))))))) (.ops [a5 94 .add 60 1,F 60 94]))))))) (.seq (.ghost (.freeze 10) (.ops [F 95 10,F 4 95,cC 5 true])) .ret)))))))
def Xe:bT:=cd 15 3 [.t 6] (R [cC 6 false] (R [F 7 0,F 8 1,bn 9 .geq 7 8,F 10 9,⟨some 11,some (10,true),.cp (.t 0)⟩,⟨some 12,some (10,true),.cp (.t 2)⟩,⟨some 13,some (10,true),.bin .leq (.t 11) (.t 12)⟩,gg 14 10 13,F 6 14] .ret))
def Xf:bT:=cd 8 2 [.t 3] (R [cC 3 false] (R [aU 4 1 1,F 5 0,(aC 6 (.jQ (.t 4) [(.t 5),(.c (aj 0)),(.c (aj 1000000000000000))])),fp 7 6,F 3 7] .ret))
def Xg:bT:=cd 35 3 [.t 4] (R [dR 3 245003 0,cC 4 false] (R [aU 5 1 1,bf 6 0 3,aU 7 1 6,aU 8 1 2,a5 9 .sub 8 1,(aC 10 (.jQ (.t 5) [(.t 7),(.c (aj 0)),(.t 9)])),fp 11 10,F 12 11,⟨some 13,some (12,false),.load 1 false (.t 1)⟩,⟨some 14,some (12,false),.ef 1 (.t 3)⟩,⟨some 15,some (12,false),.load 1 false (.t 14)⟩,⟨some 16,some (12,false),.load 1 false (.t 2)⟩,⟨some 17,some (12,false),.bin .sub (.t 16) (.c (aj 1))⟩,⟨some 18,some (12,false),.jQ (.t 13) [(.t 15),(.c (.I (.int .i64 (-1)))),(.t 17)]⟩,⟨some 19,some (12,false),.un .not (.t 18)⟩,ek 20 12 19,F 21 20,⟨some 22,some (21,false),.load 1 false (.t 1)⟩,⟨some 23,some (21,false),.ef 2 (.t 3)⟩,⟨some 24,some (21,false),.load 1 false (.t 23)⟩,⟨some 25,some (21,false),.jQ (.t 22) [(.t 24),(.c (aj 0)),(.c (aj 9))]⟩,⟨some 26,some (21,false),.un .not (.t 25)⟩,ek 27 21 26,F 28 27,⟨some 29,some (28,false),.load 1 false (.t 1)⟩,⟨some 30,some (28,false),.ef 3 (.t 3)⟩,⟨some 31,some (28,false),.load 1 false (.t 30)⟩,⟨some 32,some (28,false),.jQ (.t 29) [(.t 31),(.c (aj 0)),(.c (aj 1000000000000000))]⟩,⟨some 33,some (28,false),.un .not (.t 32)⟩,ek 34 28 33,F 4 34] .ret))
def vO:bT:=cd 159 1 [.t 2,.t 3] (R [eN 2,cC 3 false] (R [F 26 0,b7 27 26,F 4 27] (R [F 28 4,(aC 29 (.mu 248029 [(aj 0)] 8 (.t 28) (.t 28))),F 5 29] (R [eN 6] (R [eN 7] (.seq (R [F 30 0,b7 31 30,br 32 0] (.block 0 (.ghost (.oE 6 248094 1) (.ghost (.oE 7 248098 1) (.loop  (R [bn 33 .lss 32 31] (.seq (aZ 33 .skip (.exit 0)) (.seq (.block 1 (R [F 34 32,bR 35 1 30 32,aU 36 1 35,F 8 34,F 9 36] (fH [F 37 5,F 38 8,bR 39 1 37 38,aU 40 1 39,F 41 9,hn 42 41,bf 43 0 42,aU 44 1 43,bn 45 .add 40 44,bR 46 1 37 38,bl 1 46 45] U2 (.seq (R [F 47 9,hn 48 47,bf 49 22 48,aU 50 1 49,br 51 0] (.block 2 (.loop  (R [bn 52 .lss 51 50] (.seq (aZ 52 .skip (.exit 2)) (.seq (.block 3 (R [F 53 51,F 10 53] (R [F 54 9,F 55 10,hn 56 54,bf 57 1 56,(aC 58 (.pb 10 1 (.t 57) (.t 55))),aU 59 1 58,b7 60 59,br 61 0] (.block 4 (.loop  (R [bn 62 .lss 61 60] (.seq (aZ 62 .skip (.exit 4)) (.seq (.block 5 (R [bR 63 4 59 61,bo 64 4 63,(aC 12 (.alloc 248012 [(aj 0),(aj 0),(aj 0),(aj 0)])),bl 4 12 64] (R [bf 65 1 12,aU 66 1 65,a5 67 .geq 66 0] (aZ 67 (.nj [F 68 5,bf 69 1 12,aU 70 1 69,bR 71 1 68 70,aU 72 1 71,bf 73 3 12,aU 74 1 73,bn 75 .add 72 74,bR 76 1 68 70,bl 1 76 75] KI) .skip)))) (.ops [a5 77 .add 61 1,F 61 77]))))))))) (.ops [a5 78 .add 51 1,F 51 78]))))))) (R [F 79 9,hn 80 79,bf 81 23 80,aU 82 1 81] (aZ 82 (R [F 84 9,F 85 4,(cq 86 OM 84 85),F 83 86,bB 87 0 83,bB 88 1 83,F 13 87,F 14 88] (.seq (R [F 89 14,fp 90 89] (aZ 90 (R [eN 2,cC 3 false] .ret) .skip)) (.ops [F 91 6,F 92 8,(aC 93 (.fc 248093 false [(aj 0)] 1 1 [(0,1,(.t 92))])),(aC 94 (.app 248094 [(aj 0)] 8 (.t 91) (.t 93))),F 95 7,F 96 13,(aC 97 (.fc 248097 false [.nil] 1 1 [(0,1,(.t 96))])),(aC 98 (.app 248098 [.nil] 24 (.t 95) (.t 97))),F 6 94,F 7 98]))) .skip)))))) (.ops [a5 99 .add 32 1,F 32 99]))))))))) (.seq (.ghost (.freeze 5) (.ghost (.freeze 6) (.ghost (.freeze 7) (.ops [F 101 0,F 102 5,F 103 6,F 104 7,(zJ 105 UG 101 102 103 104),F 100 105,bB 106 0 100,bB 107 1 100,F 15 106,F 16 107])))) (.seq (R [F 108 16,fp 109 108] (aZ 109 (R [eN 2,cC 3 false] .ret) .skip)) (R [eN 17] (.seq (R [F 110 5,b7 111 110,br 112 0] (.block 6 (.ghost (.oE 17 248156 4) (.loop  (R [bn 113 .lss 112 111] (.seq (aZ 113 .skip (.exit 6)) (.seq (.block 7 (R [F 114 112,bR 115 1 110 112,aU 116 1 115,F 18 114,F 19 116] (R [F 117 19,(dL 118 po 117),(aC 20 (.alloc 248020 [(aj 0),.nil,(aj 0),.nil])),bl 4 20 118] (.seq (R [F 119 6,b7 120 119,br 121 0] (.block 8 (.loop  (R [bn 122 .lss 121 120] (.seq (aZ 122 .skip (.exit 8)) (.seq (.block 9 (R [F 123 121,F 21 123] (fH [F 125 7,F 126 21,bR 127 1 125 126,aU 128 1 127,F 129 18,bR 130 4 128 129,bo 131 4 130,F 132 15,F 133 21,bR 134 4 132 133,bo 135 4 134,(cq 136 wK 131 135),F 124 136,bB 137 0 124,bB 138 1 124,(aC 22 (.alloc 248022 [(aj 0),.nil,(aj 0),.nil])),bl 4 22 137,F 23 138] [[],[],[],[],[],[],[],[],[],[],[],[],[],[],[],[3,6,10],[],[]] (R [bo 140 4 20,bo 141 4 22,(cq 142 vl 140 141),F 139 142,bB 143 0 139,bB 144 1 139,(aC 24 (.alloc 248024 [(aj 0),.nil,(aj 0),.nil])),bl 4 24 143,F 25 144] (.seq (R [F 145 23,a5 146 .neq 145 0,F 147 146,⟨some 148,some (147,false),.cp (.t 25)⟩,⟨some 149,some (147,false),.bin .neq (.t 148) (.c (aj 0))⟩,ek 150 147 149] (aZ 150 (R [eN 2,cC 3 false] .ret) .skip)) (.ops [bo 151 4 24,bl 4 20 151])))))) (.ops [a5 152 .add 121 1,F 121 152]))))))) (.ops [F 153 17,bo 154 4 20,(aC 155 (.fc 248155 false [(aj 0),.nil,(aj 0),.nil] 4 1 [(0,4,(.t 154))])),(aC 156 (.app 248156 [(aj 0),.nil,(aj 0),.nil] 64 (.t 153) (.t 155))),F 17 156]))))) (.ops [a5 157 .add 112 1,F 112 157])))))))) (.seq (.ghost (.freeze 17) (.ops [F 158 17,F 2 158,cC 3 true])) .ret)))))))))))
def P1:bT:=cd 88 2 [.t 4,.t 5] (R [eN 4,cC 5 false] (R [(aC 14 (.call po [(.c (aj 0))])),(aC 15 (.fc 255015 false [(aj 0),.nil,(aj 0),.nil] 4 1 [(0,4,(.t 14))])),F 16 1,(aC 17 (.oD 255017 4 Uj [(.t 15),(.t 16)])),F 6 17] (R [cC 7 true] (.seq (fH [F 18 0,F 19 0,hn 20 19,bf 21 22 20,aU 22 1 21,hn 23 18,bf 24 1 23,(aC 25 (.pb 10 1 (.t 24) (.t 22))),aU 26 1 25,b7 27 26,br 28 0] U2 (.block 0 (.loop  (R [bn 29 .lss 28 27] (.seq (aZ 29 .skip (.exit 0)) (.seq (.block 1 (R [bR 30 4 26 28,bo 31 4 30,(aC 9 (.alloc 255009 [(aj 0),(aj 0),(aj 0),(aj 0)])),bl 4 9 31] (.seq (R [bf 32 1 9,aU 33 1 32,a5 34 .lss 33 0] (aZ 34 (.exit 1) .skip)) (fH [bf 36 3 9,aU 37 1 36,F 38 0,F 39 0,hn 40 39,bf 41 22 40,aU 42 1 41,a5 43 .add 42 1,hn 44 38,bf 45 11 44,(aC 46 (.pb 11 1 (.t 45) (.t 43))),aU 47 1 46,F 48 0,F 49 0,hn 50 49,bf 51 22 50,aU 52 1 51,hn 53 48,bf 54 11 53,(aC 55 (.pb 11 1 (.t 54) (.t 52))),aU 56 1 55,bn 57 .sub 47 56,(cq 58 zH 37 57),F 35 58,bB 59 0 35,bB 60 1 35,(aC 10 (.alloc 255010 [(aj 0),.nil,(aj 0),.nil])),bl 4 10 59,F 11 60] [[],[],[],[],[],[],[],[],[],[],[],[],[],[],[],[],[],[],[],[],[],[],[],[],[],[],[1,6,11,16,20],[],[]] (fH [F 62 6,bf 63 1 9,aU 64 1 63,bR 65 4 62 64,bo 66 4 65,bo 67 4 10,(cq 68 vl 66 67),F 61 68,bB 69 0 61,bB 70 1 61,(aC 12 (.alloc 255012 [(aj 0),.nil,(aj 0),.nil])),bl 4 12 69,F 13 70] [[],[],[],[],[],[],[],[],[],[],[2,4,5],[],[]] (R [F 71 7,F 72 71,⟨some 73,some (72,true),.cp (.t 11)⟩,⟨some 74,some (72,true),.bin .eql (.t 73) (.c (aj 0))⟩,gg 75 72 74,F 76 75,⟨some 77,some (76,true),.cp (.t 13)⟩,⟨some 78,some (76,true),.bin .eql (.t 77) (.c (aj 0))⟩,gg 79 76 78,F 7 79] (.ops [F 80 6,bf 81 1 9,aU 82 1 81,bo 83 4 12,bR 84 4 80 82,bl 4 84 83]))))))) (.ops [a5 85 .add 28 1,F 28 85]))))))) (.seq (.ghost (.freeze 6) (.ops [F 86 6,F 87 7,F 4 86,F 5 87])) .ret)))))
def GZ:bT:=cd 94 4 [.t 8,.t 9] (R [eN 8,cC 9 false] (R [eN 10] (.seq (R [F 20 2,b7 21 20,br 22 0] (.block 0 (.ghost (.oE 10 256082 5) (.loop  (R [bn 23 .lss 22 21] (.seq (aZ 23 .skip (.exit 0)) (.seq (.block 1 (R [F 24 22,bR 25 1 20 22,aU 26 1 25,F 11 24,F 12 26] (fH [F 27 1,F 28 12,bR 29 1 27 28,aU 30 1 29,F 31 0,F 32 12,bR 33 1 31 32,aU 34 1 33,F 35 0,F 36 12,bR 37 1 35 36,aU 38 1 37,hn 39 38,bf 40 22 39,aU 41 1 40,hn 42 34,bf 43 11 42,(aC 44 (.pb 11 1 (.t 43) (.t 41))),aU 45 1 44,bn 46 .sub 30 45,(dL 47 po 46),(aC 48 (.build [.nil,(aj 0),.nil,(aj 0),.nil] [(1,4,(.t 47))])),(aC 13 (.alloc 256013 [.nil,(aj 0),.nil,(aj 0),.nil])),bl 5 13 48] [[],[],[],[],[],[],[],[],[],[],[],[],[],[],[],[],[],[],[],[],[],[],[3,7,11,14,18],[]] (.seq (.seq (.ghost (.NJ (.t 13) 0 256076 4) (.ops [F 49 2,b7 50 49,br 51 0])) (.block 2 (.loop  (R [bn 52 .lss 51 50] (.seq (aZ 52 .skip (.exit 2)) (.seq (.block 3 (R [F 53 51,F 14 53] (R [br 15 0] (.seq (R [F 54 14,F 55 11,bn 56 .eql 54 55] (aZ 56 (.ops [br 15 1]) .skip)) (fH [F 58 15,(dL 59 po 58),F 60 3,F 61 14,bR 62 1 60 61,aU 63 1 62,F 64 12,bR 65 4 63 64,bo 66 4 65,(cq 67 vm 59 66),F 57 67,bB 68 0 57,bB 69 1 57,(aC 16 (.alloc 256016 [(aj 0),.nil,(aj 0),.nil])),bl 4 16 68,F 17 69] [[],[],[],[],[],[],[],[],[],[],[],[],[],[5,8],[],[]] (.seq (R [F 70 17,a5 71 .neq 70 0] (aZ 71 (R [eN 8,cC 9 false] .ret) .skip)) (.ops [bf 72 0 13,aU 73 1 72,bo 74 4 16,(aC 75 (.fc 256075 false [(aj 0),.nil,(aj 0),.nil] 4 1 [(0,4,(.t 74))])),(aC 76 (.app 256076 [(aj 0),.nil,(aj 0),.nil] 64 (.t 73) (.t 75))),bf 77 0 13,bl 1 77 76]))))))) (.ops [a5 78 .add 51 1,F 51 78]))))))) (.ghost (.NK (.t 13) 0) (.ops [F 79 10,bo 80 5 13,(aC 81 (.fc 256081 false [.nil,(aj 0),.nil,(aj 0),.nil] 5 1 [(0,5,(.t 80))])),(aC 82 (.app 256082 [.nil,(aj 0),.nil,(aj 0),.nil] 88 (.t 79) (.t 81))),F 10 82])))))) (.ops [a5 83 .add 22 1,F 22 83])))))))) (.seq (.ghost (.freeze 10) (.ops [F 85 10,F 86 2,b7 87 86,(cq 88 Ug 85 87),F 84 88,bB 89 0 84,bB 90 1 84,F 18 89,F 19 90])) (R [F 91 18,F 92 19,a5 93 .eql 92 0,F 8 91,F 9 93] .ret)))))
def Xh:bT:=cd 36 3 [.t 6] (R [dR 5 286005 2,br 6 0] (R [F 10 0,F 11 1,bo 12 3 5,(aC 13 (.build [.nil,.nil,.nil,.nil,.nil] [(0,1,(.t 10)),(1,1,(.t 11)),(2,3,(.t 12))])),(aC 7 (.alloc 286007 [.nil,.nil,.nil,.nil,.nil])),bl 5 7 13] (.seq (R [bo 14 5 7,(dL 15 KD 14),fp 16 15] (aZ 16 (R [br 6 1] .ret) .skip)) (.seq (R [F 17 0,b7 18 17,br 19 0] (.block 0 (.loop  (R [bn 20 .lss 19 18] (.seq (aZ 20 .skip (.exit 0)) (.seq (.block 1 (R [F 21 19,F 8 21] (R [bo 22 5 7,F 23 8,(cq 24 UH 22 23),F 9 24] (R [F 25 9,a5 26 .neq 25 0] (aZ 26 (R [F 27 9,F 6 27] .ret) .skip))))) (.ops [a5 28 .add 19 1,F 19 28]))))))) (.seq (R [bo 29 5 7,(dL 30 UI 29),fp 31 30,F 32 31,⟨some 33,some (32,false),.load 5 true (.t 7)⟩,⟨some 34,some (32,false),.call UJ [(.t 33)]⟩,ek 35 32 34] (aZ 35 (R [br 6 24] .ret) .skip)) (R [br 6 0] .ret))))))
def Xi:bT:=cd 61 1 [.t 2] (R [dR 1 287001 0,cC 2 false] (R [bf 7 0 1,aU 8 1 7,b7 9 8,(aC 3 (.alloc 287003 [(aj 0)])),bl 1 3 9] (R [(aC 4 (.alloc 287004 [(.I .u1)])),⟨none,none,.store 1 (.t 4) (.c (.fA nu []))⟩] (R [(aC 10 (.pJ yd [(.t 3),(.t 4)])),F 5 10] (R [(aC 6 (.cp (.c (.fA wM []))))] (.seq (R [aU 11 1 3,a5 12 .gtr 11 60,F 13 12,⟨some 14,some (13,false),.ef 1 (.t 1)⟩,⟨some 15,some (13,false),.load 1 false (.t 14)⟩,⟨some 16,some (13,false),.len (.t 15)⟩,⟨some 17,some (13,false),.bin .gtr (.t 16) (.c (aj 2000))⟩,ek 18 13 17,F 19 18,⟨some 20,some (19,false),.ef 2 (.t 1)⟩,⟨some 21,some (19,false),.ef 0 (.t 20)⟩,⟨some 22,some (19,false),.load 1 false (.t 21)⟩,⟨some 23,some (19,false),.len (.t 22)⟩,⟨some 24,some (19,false),.load 1 false (.t 3)⟩,⟨some 25,some (19,false),.bin .neq (.t 23) (.t 24)⟩,ek 26 19 25,F 27 26,⟨some 28,some (27,false),.ef 2 (.t 1)⟩,⟨some 29,some (27,false),.ef 1 (.t 28)⟩,⟨some 30,some (27,false),.load 1 false (.t 29)⟩,⟨some 31,some (27,false),.len (.t 30)⟩,⟨some 32,some (27,false),.ef 1 (.t 1)⟩,⟨some 33,some (27,false),.load 1 false (.t 32)⟩,⟨some 34,some (27,false),.len (.t 33)⟩,⟨some 35,some (27,false),.bin .neq (.t 31) (.t 34)⟩,ek 36 27 35] (aZ 36 (R [cC 2 false] .ret) .skip)) (R [bf 37 0 1,aU 38 1 37,aU 39 1 4,(cq 40 UK 38 39),F 41 40,⟨some 42,some (41,true),.ef 1 (.t 1)⟩,⟨some 43,some (41,true),.load 1 false (.t 42)⟩,⟨some 44,some (41,true),.cp (.t 5)⟩,⟨some 45,some (41,true),.call UL [(.t 43),(.t 44)]⟩,gg 46 41 45,F 47 46,⟨some 48,some (47,true),.ef 2 (.t 1)⟩,⟨some 49,some (47,true),.ef 0 (.t 48)⟩,⟨some 50,some (47,true),.load 1 false (.t 49)⟩,⟨some 51,some (47,true),.cp (.t 6)⟩,⟨some 52,some (47,true),.call ON [(.t 50),(.t 51)]⟩,gg 53 47 52,F 54 53,⟨some 55,some (54,true),.ef 2 (.t 1)⟩,⟨some 56,some (54,true),.ef 1 (.t 55)⟩,⟨some 57,some (54,true),.load 1 false (.t 56)⟩,⟨some 58,some (54,true),.cp (.t 6)⟩,⟨some 59,some (54,true),.call ON [(.t 57),(.t 58)]⟩,gg 60 54 59,F 2 60] .ret)))))))
def Xj:bT:=cd 80 2 [.t 4] (R [dR 2 288002 0,br 4 0] (R [bf 16 0 2,aU 17 1 16,F 18 1,bR 19 1 17 18,aU 20 1 19,(aC 21 (.call zH [(.t 20),(.c (aj 1))])),F 15 21,bB 22 0 15,bB 23 1 15,(aC 5 (.alloc 288005 [(aj 0),.nil,(aj 0),.nil])),bl 4 5 22,F 6 23] (.seq (R [bf 24 1 2,aU 25 1 24,b7 26 25,br 27 0] (.block 0 (.loop  (R [bn 28 .lss 27 26] (.seq (aZ 28 .skip (.exit 0)) (.seq (.block 1 (R [F 29 27,bR 30 4 25 27,bo 31 4 30,(aC 8 (.alloc 288008 [(aj 0),(aj 0),(aj 0),(aj 0)])),F 7 29,bl 4 8 31] (.seq (R [bf 32 1 8,aU 33 1 32,F 34 1,bn 35 .neq 33 34] (aZ 35 (.exit 1) .skip)) (fH [bo 37 4 5,bf 38 2 2,bf 39 1 38,aU 40 1 39,F 41 7,bR 42 4 40 41,bo 43 4 42,(cq 44 vl 37 43),F 36 44,bB 45 0 36,bB 46 1 36,(aC 9 (.alloc 288009 [(aj 0),.nil,(aj 0),.nil])),bl 4 9 45,F 10 46] [[],[],[],[],[],[],[],[],[],[],[],[0,3,6],[],[]] (.seq (R [F 47 10,a5 48 .neq 47 0] (aZ 48 (R [F 49 10,F 4 49] .ret) .skip)) (.ops [bo 50 4 9,bl 4 5 50])))))) (.ops [a5 51 .add 27 1,F 27 51]))))))) (.seq (fH [bo 52 4 5,bf 53 2 2,bf 54 0 53,aU 55 1 54,F 56 1,bR 57 4 55 56,bo 58 4 57,(cq 59 lF 52 58),a5 60 .neq 59 0] DT (aZ 60 (R [br 4 24] .ret) .skip)) (R [bo 62 5 2,F 63 1,(cq 64 KE 62 63),F 61 64,bB 65 0 61,bB 66 1 61,F 11 65,F 12 66] (R [bo 68 4 5,F 69 11,(cq 70 KB 68 69),F 67 70,bB 71 0 67,bB 72 1 67,F 13 71,F 14 72] (.seq (R [F 73 14,a5 74 .neq 73 0] (aZ 74 (R [F 75 14,F 4 75] .ret) .skip)) (.seq (R [F 76 12,F 77 13,(cq 78 UM 76 77),fp 79 78] (aZ 79 (R [br 4 24] .ret) .skip)) (R [br 4 0] .ret)))))))))
def Xk:bT:=cd 49 1 [.t 2] (R [dR 1 289001 0,cC 2 false] (R [eN 3] (.seq (R [bf 8 2 1,bf 9 2 8,aU 10 1 9,b7 11 10,br 12 0] (.block 0 (.ghost (.oE 3 289040 1) (.loop  (R [bn 13 .lss 12 11] (.seq (aZ 13 .skip (.exit 0)) (.seq (.block 1 (R [bR 14 1 10 12,aU 15 1 14,F 5 15] (.seq (R [F 16 5,b7 17 16,br 18 0] (.block 2 (.loop  (R [bn 19 .lss 18 17] (.seq (aZ 19 .skip (.exit 2)) (.seq (.block 3 (R [F 20 18,bR 21 1 16 18,aU 22 1 21,F 6 20,F 7 22] (R [F 23 6,a5 24 .gtr 23 0,F 25 24,⟨some 26,some (25,true),.cp (.t 7)⟩,⟨some 27,some (25,true),.cp (.t 5)⟩,⟨some 28,some (25,true),.cp (.t 6)⟩,⟨some 29,some (25,true),.bin .sub (.t 28) (.c (aj 1))⟩,⟨some 30,some (25,true),.kE 1 (.t 27) (.t 29)⟩,⟨some 31,some (25,true),.load 1 false (.t 30)⟩,⟨some 32,some (25,true),.bin .leq (.t 26) (.t 31)⟩,gg 33 25 32] (aZ 33 (R [cC 2 false] .ret) .skip)))) (.ops [a5 34 .add 18 1,F 18 34]))))))) (.seq (R [F 35 5,b7 36 35,a5 37 .eql 36 0] (aZ 37 (R [cC 2 false] .ret) .skip)) (.ops [F 38 3,F 39 5,(aC 40 (.app 289040 [(aj 0)] 8 (.t 38) (.t 39))),F 3 40]))))) (.ops [a5 41 .add 12 1,F 12 41])))))))) (R [F 42 3,(dL 43 UN 42)] (fH [F 44 3,(aC 45 (.sb 0 UP [(.t 44)])),bo 46 5 1,(dL 47 DP 46),(cq 48 UO 45 47),F 2 48] [[],[],[1],[],[],[]] .ret)))))
def Xl:bT:=cd 21 1 [.t 2] (R [dR 1 290001 0,cC 2 false] (R [bo 5 5 1,(aC 6 (.oD 290006 1 DP [(.t 5)])),F 3 6] (.seq (R [bf 7 0 1,aU 8 1 7,b7 9 8,br 10 0] (.block 0 (.loop  (R [bn 11 .lss 10 9] (.seq (aZ 11 .skip (.exit 0)) (.seq (.block 1 (R [F 12 3,(dL 13 vp 12),(aC 4 (.alloc 290004 [.nil])),bl 1 4 13] (.ops [F 14 3,(aC 15 (.pJ tN [(.t 1),(.t 4)])),(cq 16 UQ 14 15),F 3 16]))) (.ops [a5 17 .add 10 1,F 10 17]))))))) (R [F 18 3,b7 19 18,a5 20 .gtr 19 0,F 2 20] .ret))))
def Xm:bT:=cd 5 1 [.t 2] (R [cC 2 false] (R [F 3 0,(aC 4 (.call DO [(.t 3),(.c (aj 0)),(.c (aj 1000000000000000))])),F 2 4] .ret))
def Xn:bT:=cd 15 3 [.t 6] (R [cC 6 false] (R [F 7 1,F 8 0,bn 9 .leq 7 8,F 10 9,⟨some 11,some (10,true),.cp (.t 0)⟩,⟨some 12,some (10,true),.cp (.t 2)⟩,⟨some 13,some (10,true),.bin .leq (.t 11) (.t 12)⟩,gg 14 10 13,F 6 14] .ret))
def Xo:bT:=cd 28 3 [.t 4] (R [dR 3 293003 0,cC 4 false] (R [bf 5 0 3,aU 6 1 5,aU 7 1 1,a5 8 .sub 7 1,(aC 9 (.call DO [(.t 6),(.c (aj 0)),(.t 8)])),F 10 9,⟨some 11,some (10,true),.ef 1 (.t 3)⟩,⟨some 12,some (10,true),.load 1 false (.t 11)⟩,⟨some 13,some (10,true),.load 1 false (.t 1)⟩,⟨some 14,some (10,true),.bin .sub (.t 13) (.c (aj 1))⟩,⟨some 15,some (10,true),.call DO [(.t 12),(.c (.I (.int .i64 (-1)))),(.t 14)]⟩,gg 16 10 15,F 17 16,⟨some 18,some (17,true),.ef 2 (.t 3)⟩,⟨some 19,some (17,true),.load 1 false (.t 18)⟩,⟨some 20,some (17,true),.call DO [(.t 19),(.c (aj 0)),(.c (aj 9))]⟩,gg 21 17 20,F 22 21,⟨some 23,some (22,true),.load 1 false (.t 2)⟩,⟨some 24,some (22,true),.ef 3 (.t 3)⟩,⟨some 25,some (22,true),.load 1 false (.t 24)⟩,⟨some 26,some (22,true),.jQ (.t 23) [(.t 25)]⟩,gg 27 22 26,F 4 27] .ret))
def Xp:bT:=cd 11 1 [.t 2] (R [dR 1 294001 0,cC 2 false] (R [bo 3 4 1,(dL 4 l5 3),F 5 4,⟨some 6,some (5,true),.ef 0 (.t 1)⟩,⟨some 7,some (5,true),.ef 0 (.t 6)⟩,⟨some 8,some (5,true),.load 1 false (.t 7)⟩,⟨some 9,some (5,true),.bin .geq (.t 8) (.c (aj 0))⟩,gg 10 5 9,F 2 10] .ret))
def Xq:bT:=cd 9 2 [.t 4] (R [dR 3 295003 1,cC 4 false] (R [F 5 0,(aC 6 (.pJ BC [(.t 3)])),(cq 7 KA 5 6),fp 8 7,F 4 8] .ret))
def Xr:bT:=cd 9 2 [.t 4] (R [dR 3 296003 1,cC 4 false] (R [F 5 0,(aC 6 (.pJ DQ [(.t 3)])),(cq 7 DN 5 6),fp 8 7,F 4 8] .ret))
def Xs:bT:=cd 9 2 [.t 4] (R [dR 3 297003 1,cC 4 false] (R [F 5 0,(aC 6 (.pJ vv [(.t 3)])),(cq 7 Ko 5 6),fp 8 7,F 4 8] .ret))
def Xt:bT:=cd 38 2 [.t 4,.t 5] (R [dR 2 298002 0,eN 4,eN 5] (R [eN 6] (R [eN 7] (.seq (R [bf 10 1 2,aU 11 1 10,b7 12 11,br 13 0] (.block 0 (.ghost (.oE 6 298025 4) (.ghost (.oE 7 298034 4) (.loop  (R [bn 14 .lss 13 12] (.seq (aZ 14 .skip (.exit 0)) (.seq (.block 1 (R [F 15 13,bR 16 4 11 13,bo 17 4 16,(aC 9 (.alloc 298009 [(aj 0),(aj 0),(aj 0),(aj 0)])),F 8 15,bl 4 9 17] (R [bf 18 0 9,aU 19 1 18,F 20 1,bn 21 .eql 19 20] (aZ 21 (.nj [F 22 6,bo 23 4 9,(aC 24 (.fc 298024 false [(aj 0),(aj 0),(aj 0),(aj 0)] 4 1 [(0,4,(.t 23))])),(aC 25 (.app 298025 [(aj 0),(aj 0),(aj 0),(aj 0)] 32 (.t 22) (.t 24))),F 26 7,bf 27 2 2,bf 28 1 27,aU 29 1 28,F 30 8,bR 31 4 29 30,bo 32 4 31,(aC 33 (.fc 298033 false [(aj 0),.nil,(aj 0),.nil] 4 1 [(0,4,(.t 32))])),(aC 34 (.app 298034 [(aj 0),.nil,(aj 0),.nil] 64 (.t 26) (.t 33))),F 6 25,F 7 34] [[],[],[],[],[],[],[],[3],[],[],[3],[],[],[],[]]) .skip)))) (.ops [a5 35 .add 13 1,F 13 35]))))))))) (.seq (.ghost (.freeze 6) (.ghost (.freeze 7) (.ops [F 36 6,F 37 7,F 4 36,F 5 37]))) .ret)))))
def Xu:bT:=cd 8 2 [.t 4] (R [cC 4 false] (R [F 5 0,F 6 1,(aC 7 (.call UD [(.t 5),(.t 6),(.c (.fA wN []))])),F 4 7] .ret))
def Xv:bT:=cd 26 1 [.t 2] (R [dR 1 303001 0,eN 2] (R [eN 3] (.seq (R [bf 7 0 1,aU 8 1 7,b7 9 8,br 10 0] (.block 0 (.ghost (.oE 3 303023 1) (.loop  (R [bn 11 .lss 10 9] (.seq (aZ 11 .skip (.exit 0)) (.seq (.block 1 (R [F 12 10,F 4 12] (R [bo 14 5 1,F 15 4,(cq 16 KG 14 15),F 13 16,bB 17 0 13,bB 18 1 13,F 5 17,F 6 18] (R [F 19 6] (aZ 19 (.ops [F 20 3,F 21 4,(aC 22 (.fc 303022 false [(aj 0)] 1 1 [(0,1,(.t 21))])),(aC 23 (.app 303023 [(aj 0)] 8 (.t 20) (.t 22))),F 3 23]) .skip))))) (.ops [a5 24 .add 10 1,F 10 24])))))))) (R [F 25 3,F 2 25] .ret))))
def Xw:bT:=cd 9 3 [.t 4] (R [cC 4 false] (R [bo 5 5 1,F 6 0,aU 7 1 2,(vw 8 UR 5 6 7),F 4 8] .ret))
def Xx:bT:=cd 19 3 [.t 6] (R [dR 3 306003 0,dR 4 306004 1,dR 5 306005 2,cC 6 false] (R [bo 10 5 3,aU 11 1 4,(cq 12 KG 10 11),F 9 12,bB 13 0 9,bB 14 1 9,(aC 7 (.alloc 306007 [(aj 0)])),bl 1 7 13,F 8 14] (R [bf 15 1 3,aU 16 1 15,(aC 17 (.pJ DR [(.t 4),(.t 7),(.t 5)])),(cq 18 DN 16 17),F 6 18] .ret)))
def Xy:bT:=cd 8 2 [.t 3] (R [cC 3 false] (R [aU 4 1 1,F 5 0,(aC 6 (.jQ (.t 4) [(.t 5)])),fp 7 6,F 3 7] .ret))
def Xz:bT:=cd 8 2 [.t 3] (R [dR 2 308002 0,cC 3 false] (R [aU 4 1 1,bo 5 4 2,(aC 6 (.jQ (.t 4) [(.t 5)])),fp 7 6,F 3 7] .ret))
def XA:bT:=cd 8 2 [.t 3] (R [dR 2 309002 0,cC 3 false] (R [aU 4 1 1,bo 5 4 2,(aC 6 (.jQ (.t 4) [(.t 5)])),fp 7 6,F 3 7] .ret))
def XB:bT:=cd 9 2 [.t 4] (R [dR 2 310002 0,dR 3 310003 1,cC 4 false] (R [bo 5 4 2,bo 6 4 3,(cq 7 lF 5 6),a5 8 .eql 7 0,F 4 8] .ret))
def XC:bT:=cd 14 2 [.t 4,.t 5] (R [dR 2 313002 0,br 4 0,cC 5 false] (R [bo 6 5 2,F 7 1,(cq 8 KE 6 7),bB 9 0 8,bB 10 1 8,(cq 11 Uz 9 10),bB 12 0 11,bB 13 1 11,F 4 12,F 5 13] .ret))
def XD:bT:=cd 28 4 [.t 5] (R [dR 4 314004 0,cC 5 false] (R [bf 6 0 4,aU 7 1 6,aU 8 1 1,bn 9 .eql 7 8,F 10 9,⟨some 11,some (10,true),.ef 2 (.t 4)⟩,⟨some 12,some (10,true),.load 1 false (.t 11)⟩,⟨some 13,some (10,true),.load 1 false (.t 2)⟩,⟨some 14,some (10,true),.bin .eql (.t 12) (.t 13)⟩,gg 15 10 14,F 16 15,⟨some 17,some (16,true),.ef 3 (.t 4)⟩,⟨some 18,some (16,true),.load 1 false (.t 17)⟩,⟨some 19,some (16,true),.bin .gtr (.t 18) (.c (aj 0))⟩,gg 20 16 19,F 21 20,⟨some 22,some (21,true),.load 1 false (.t 3)⟩,⟨some 23,some (21,true),.ef 1 (.t 4)⟩,⟨some 24,some (21,true),.load 1 false (.t 23)⟩,⟨some 25,some (21,true),.call UT [(.t 22),(.t 24)]⟩,⟨some 26,some (21,true),.un .not (.t 25)⟩,gg 27 21 26,F 5 27] .ret))
def XE:bT:=cd 17 3 [.t 6] (R [dR 5 372005 2,eN 6] (R [F 8 0,F 9 1,bo 10 3 5,(aC 11 (.build [.nil,.nil,.nil,.nil,.nil] [(0,1,(.t 8)),(1,1,(.t 9)),(2,3,(.t 10))])),(aC 7 (.alloc 372007 [.nil,.nil,.nil,.nil,.nil])),bl 5 7 11] (.seq (R [bo 12 5 7,(dL 13 KD 12),fp 14 13] (aZ 14 (R [eN 6] .ret) .skip)) (R [bo 15 5 7,(dL 16 DP 15),F 6 16] .ret))))
abbrev e0:=List bg×bg
def ka (r:e0):List Data:=.X (r.1.map aG)::aG r.2
theorem nA (f:bg):(aG f).length=4:=rfl
theorem agu (r:e0):(ka r).length=5:=rfl
theorem G0 (f:bg):((aG f).map Q.I).all Q.one=true:=rfl
theorem nb:∀a b:bg,aG a=aG b->a=b:=by
 rintro⟨⟨s,l⟩,⟨s2,al⟩⟩ ⟨⟨t,m⟩,⟨t2,cU⟩⟩ h;simp only[aG,a6,Data.int.injEq,Data.X.injEq,true_and,and_true] at h;obtain⟨rfl,E,rfl,H⟩:=h;rw[map_inj fi _ _ E,map_inj fi _ _ H]
theorem XF:∀a b:e0,ka a=ka b->a=b:=by
 rintro⟨a,b⟩ ⟨c,d⟩ h;simp only[ka,a6,Data.X.injEq] at h;rw[map_inj nb _ _ h.1,nb _ _ h.2]
def okF (f:bg):Prop:=f.1.2.length<=1000000/\f.2.2.length<=1000000
def fY (l:List bg):Prop:=D l<=1000000/\∀f∈l,okF f
def yA (r:e0):Prop:=fY r.1/\okF r.2
def rJ (rs:List e0):Prop:=D rs<=1000000/\∀r∈rs,yA r
def P2:=cj Ej λ(s,l,s2,al)=>cN (D l<=1000000/\D al<=1000000) (.same (.bool (!ei ((s,l),(s2,al)))))
@[go_sem] theorem atT (s:Int)(l:List Int)(s2:Int)(al:List Int)(G:(D l)<=1000000/\D al<=1000000):P2 [.agg [.int .i64 s,.X (l.map ad),.int .i64 s2,.X (al.map ad)]]=some (.same (.bool (!ei ((s,l),(s2,al))))):=(cu Lf (s,l,s2,al)).trans (cT G _)
theorem atU (T:bb)(fI:T l5=aV vK)(s:Int)(l:List Int)(s2:Int)(al:List Int)(G:(D l)<=1000000/\D al<=1000000):WP T W8 (.same (.bool (!ei ((s,l),(s2,al))))) [.I (.agg [.int .i64 s,.X (l.map ad),.int .i64 s2,.X (al.map ad)])]:=by
 refine cv ?_;simp only[W8];obtain⟨b5,cw⟩:=G;refine aY ?_;repeat' (intro h<;>simp only[h,go_sem,go_sem_proc,fI,b5,cw]<;>try refine ax ?_ ?_)
def agv:=cj Ej λ(s,l,s2,al)=>cN (D l<=1000000/\D al<=1000000) (.same (.bool (!ei ((s,l),(s2,al))||decide (s<0))))
@[go_sem] theorem atV (s:Int)(l:List Int)(s2:Int)(al:List Int)(G:(D l)<=1000000/\D al<=1000000):agv [.agg [.int .i64 s,.X (l.map ad),.int .i64 s2,.X (al.map ad)]]=some (.same (.bool (!ei ((s,l),(s2,al))||decide (s<0)))):=(cu Lf (s,l,s2,al)).trans (cT G _)
def XG:=cj Ej λ(s,l,s2,al)=>cN (D l<=1000000/\D al<=1000000) (.same (.bool (ei ((s,l),(s2,al))&&decide (s>=0))))
@[go_sem] theorem aK6 (s:Int)(l:List Int)(s2:Int)(al:List Int)(G:(D l)<=1000000/\D al<=1000000):XG [.agg [.int .i64 s,.X (l.map ad),.int .i64 s2,.X (al.map ad)]]=some (.same (.bool (ei ((s,l),(s2,al))&&decide (s>=0)))):=(cu Lf (s,l,s2,al)).trans (cT G _)
theorem atW (T:bb)(fI:T l5=aV vK)(s:Int)(l:List Int)(s2:Int)(al:List Int)(G:(D l)<=1000000/\D al<=1000000):WP T Xp (.same (.bool (ei ((s,l),(s2,al))&&decide (s>=0)))) [.I (.agg [.int .i64 s,.X (l.map ad),.int .i64 s2,.X (al.map ad)])]:=by
 refine cv ?_;simp only[Xp];obtain⟨b5,cw⟩:=G;rcases aa:ei ((s,l),(s2,al))
 ·refine aY ?_;repeat' (intro h<;>simp only[h,go_sem,go_sem_proc,fI,b5,cw,aa]<;>try refine ax ?_ ?_)
 ·refine aY ?_;repeat' (intro h<;>simp only[h,go_sem,go_sem_proc,fI,b5,cw,aa]<;>try refine ax ?_ ?_)
abbrev XH:Int×(List Int)×Int×(List Int)->List Data:=λ(s,l,s2,al)=>[.agg [.int .i64 s,.X (l.map ad),.int .i64 s2,.X (al.map ad)],.ptr [.fn wM []]]
def XI:=cj XH λ(s,l,s2,al)=>cN (D l<=1000000/\D al<=1000000) (.same (.bool (!(ei ((s,l),(s2,al))&&decide (s>=0)))))
theorem atX:∀a b,XH a=XH b->a=b:=by
  rintro⟨s1,en,BZ,B0⟩ ⟨s2,al,B1,B2⟩ h;simp only[a6,Data.agg.injEq,Data.int.injEq,Data.X.injEq] at h;exact dQ h.1.1.2 (dQ (map_inj fi _ _ h.1.2.1) (dQ h.1.2.2.1.2 (map_inj fi _ _ h.1.2.2.2.1)))
@[go_sem] theorem atY (s:Int)(l:List Int)(s2:Int)(al:List Int)(G:(D l)<=1000000/\D al<=1000000):XI [.agg [.int .i64 s,.X (l.map ad),.int .i64 s2,.X (al.map ad)],.ptr [.fn wM []]]=some (.same (.bool (!(ei ((s,l),(s2,al))&&decide (s>=0))))):=(cu atX (s,l,s2,al)).trans (cT G _)
theorem atZ (T:bb)(at0:T wM=aV XG)(s:Int)(l:List Int)(s2:Int)(al:List Int)(G:(D l)<=1000000/\D al<=1000000):WP T XA (.same (.bool (!(ei ((s,l),(s2,al))&&decide (s>=0))))) [.I (.agg [.int .i64 s,.X (l.map ad),.int .i64 s2,.X (al.map ad)]),.I (.ptr [.fn wM []])]:=by
 refine cv ?_;simp only[XA];obtain⟨b5,cw⟩:=G;refine aY ?_;repeat' (intro h<;>simp only[h,go_sem,go_sem_proc,at0,b5,cw]<;>try refine ax ?_ ?_)
def kP {α:Type}(p:α->Bool)(l:List α):Int:=match l.findIdx? p with
 |some i=>i
 |none => -1
theorem Ls {α:Type}{p:α->Bool}{l:List α}{i:Nat}(h:∀x∈l.take i,p x=false){x:α}(O:l[i]?=some x)(aF:p x=true):kP p l=i:=by
 unfold kP
 have:l.findIdx? p=some i:=by
  rw[agw];obtain⟨az,rfl⟩:=List.getElem?_eq_some_iff.1 O;refine⟨az,aF,λj ah=>?_⟩;have:=h l[j] (List.mem_iff_getElem?.2 ⟨j,by rw[List.getElem?_take_of_lt ah];exact bu _⟩);rw[this];decide
 rw[this]
theorem P3 {α:Type}{p:α->Bool}{l:List α}(h:∀x∈l,p x=false):kP p l = -1:=by
 unfold kP;rw[agx.2 h]
theorem Lt {α:Type}(p:α->Bool)(l:List α):decide (kP p l>=0)=l.any p:=by
 unfold kP
 cases h:l.findIdx? p with
 |none =>
  have:=agx.1 h;have H:l.any p=false:=by rw[List.any_eq_false];intro x O;simp[this x O]
  rw[H];rfl
 |some i =>
  rw[agw] at h;obtain⟨E,H,-⟩:=h;have af:l.any p=true:=List.any_eq_true.2 ⟨_,np E,H⟩;rw[af];exact lU (by simp)
def G6 (f:bg):Bool:=!ei f
def pZ (f:FuncId):bg->Bool:=if f=zI then λx => !ei x||decide (x.1.1<0) else if f=vv then λx => !(ei x&&decide (x.1.1>=0)) else G6
def G7 (f:FuncId):List Data:=if f=vv then [.ptr [.fn wM []]] else []
@[go_sem] theorem at1:pZ oQ=G6:=by
 unfold pZ;rw[ag (by decide),ag (by decide)]
@[go_sem] theorem agy:pZ zI=λx => !ei x||decide (x.1.1<0):=by
 unfold pZ;rw[ab rfl]
theorem agz:pZ vv=λx => !(ei x&&decide (x.1.1>=0)):=by
 unfold pZ;rw[ag (by decide),ab rfl]
theorem P4 {α:Type}{p:α->Bool}{l:List α}{i:Nat}(h:∀x∈l.take i,p x=false){x:α}(O:l[i]?=some x)(aF:p x=false):∀y∈l.take (i+1),p y=false:=by
 intro y ar;rw[List.take_add_one,O] at ar;simp only[Option.toList_some,List.mem_append,tU] at ar;rcases ar with ar|rfl
 ·exact h y ar
 ·exact aF
theorem qR {T:bb}{c:eA}{K:eY->ba->Prop}{st:ba}(h:wp T c K st):wp T c (cB T K []) st:=by
 have:cB T K []=K:=by funext e st;cases e<;>rfl
 rwa [this]
theorem XJ (T:bb)(id:FuncId)(eP:List Data)(aS:List Data->Option eJ)(cI:T id=aV aS)(p:bg->Bool)(l:List bg)(av:fY l)(fa:∀a b c d,D b<=1000000->(D d)<=1000000->aS (.agg [.int .i64 a,.X (b.map ad),.int .i64 c,.X (d.map ad)]::eP)=some (.same (.bool (p ((a,b),(c,d)))))):
  wp T Gr.body (zz Gr.res (.same (.int .i64 (kP p l)))) ⟨kr [.I (.X (l.map aG)),.I (.fn id eP)],emp⟩:=by
 obtain⟨av,cR⟩:=av;refine qv ?_;simp only[Gr];simp only[go_sem,go_sem_proc,ai];refine dm [0,1,7] [] (λ(i:Nat) tm mem=>i<=D l/\(∀x∈l.take i,p x=false)/\tm 8=.I (.int .i64 i)) (λi=>D l-i) 0 (by refine⟨fs _,by simp,rfl⟩) ?_;intro vs ms aR aN;simp only[go_sem,go_sem_proc,ai] at aR aN;subst aR aN;rintro i tm mem M hm ⟨J,fh,cf⟩;simp only[go_sem,go_sem_proc,a6] at M hm;obtain⟨ao,E,bM⟩:=M;have fu:∀m:Mem,(eP.map Q.I).mapM (cy 6 m)=some eP:=λm=>tH (cy 6 m) (λd=>rfl) eP;rcases dv (i<D l) with az|b2
 ·have O:=bu az;obtain⟨oO,tX⟩:=cR _ (np az);have cg:=λh=>Ls (p:=p) fh O h;have hW:=λh=>P4 (p:=p) fh O h;generalize l[i]=x at *;obtain⟨⟨a7,b3⟩,⟨cZ,eo⟩⟩:=x;have mS:=fa a7 b3 cZ eo oO tX;have hB:decide ((i:Int)<(D l:Int))=true:=dj;have hw:=eZ (i:=i) (by omega);rcases ae:p ((a7,b3),(cZ,eo))
  ·rw[ae] at mS;simp only[go_sem,go_sem_proc,cI,ao,E,bM,cf,O,hB,hw,mS,fu,aG,ai,bh,la];repeat' (first|refine ax ?_ ?_|fail)<;>intro h<;>simp only[h,go_sem,go_sem_proc,cI,ao,E,bM,cf,O,hB,hw,mS,fu,aG,ai,bh,la]
   exact⟨i+1,by omega,by omega,hW ae,rfl⟩
  ·rw[ae] at mS;rw[cg ae];simp only[go_sem,go_sem_proc,cI,ao,E,bM,cf,O,hB,hw,mS,fu,aG,ai,bh,la];repeat' (first|refine ax ?_ ?_|fail)<;>intro h<;>simp only[h,go_sem,go_sem_proc,cI,ao,E,bM,cf,O,hB,hw,mS,fu,aG,ai,bh,la]
 ·have hB:decide ((i:Int)<(D l:Int))=false:=c5;obtain rfl:i=D l:=by omega
  rw[lK] at fh;rw[P3 fh];simp only[go_sem,go_sem_proc,ao,E,bM,cf,hB,ai];repeat' (first|refine ax ?_ ?_|fail)<;>intro h<;>simp only[h,go_sem,go_sem_proc,ao,E,bM,cf,hB,ai]
def G8 (f:FuncId):Prop:=f=oQ\/(f=zI/\zI<900000)\/(f=vv/\vv<900000)
abbrev P5:(List bg)×FuncId->List Data:=λ(l,f)=>[.X (l.map aG),.fn f (G7 f)]
def XK:=cj P5 λ(l,f)=>cN (fY l/\G8 f) (.same (.int .i64 (kP (pZ f) l)))
theorem agA:∀a b,P5 a=P5 b->a=b:=by
  rintro⟨en,f1⟩ ⟨al,f2⟩ h;simp only[a6,Data.X.injEq,Data.fn.injEq] at h;exact dQ (map_inj nb _ _ h.1) h.2.1.1
@[go_sem] theorem aK7 (l:List bg)(f:FuncId)(G:fY l/\G8 f):XK [.X (l.map aG),.fn f (G7 f)]=some (.same (.int .i64 (kP (pZ f) l))):=(cu agA (l,f)).trans (cT G _)
theorem at2 (T:bb)(Lu:T oQ=aV P2)(at3:zI<900000->T zI=aV agv)(at4:vv<900000->T vv=aV XI)(l:List bg)(f:FuncId)(G:fY l/\G8 f):WP T Gr (.same (.int .i64 (kP (pZ f) l))) [.I (.X (l.map aG)),.I (.fn f (G7 f))]:=by
 refine cv ?_;simp only[Gr];obtain⟨av,aK⟩:=G;rcases aK with rfl|⟨rfl,J⟩|⟨rfl,J⟩
 ·rw[at1];exact qR (XJ T _ _ _ Lu G6 l av λa b c d E H=>atT a b c d ⟨E,H⟩)
 ·rw[agy];exact qR (XJ T _ _ _ (at3 J) (λx => !ei x||decide (x.1.1<0)) l av λa b c d E H=>atV a b c d ⟨E,H⟩)
 ·rw[agz];exact qR (XJ T _ _ _ (at4 J) (λx => !(ei x&&decide (x.1.1>=0))) l av λa b c d E H=>atY a b c d ⟨E,H⟩)
def Lv:=cj P5 λ(l,f)=>cN (fY l/\G8 f) (.same (.bool (l.any (pZ f))))
@[go_sem] theorem agB (l:List bg)(f:FuncId)(G:fY l/\G8 f):Lv [.X (l.map aG),.fn f (G7 f)]=some (.same (.bool (l.any (pZ f)))):=(cu agA (l,f)).trans (cT G _)
theorem at5 (T:bb)(at6:T Uo=aV XK)(l:List bg)(f:FuncId)(G:fY l/\G8 f):WP T Vq (.same (.bool (l.any (pZ f)))) [.I (.X (l.map aG)),.I (.fn f (G7 f))]:=by
 refine cv ?_;simp only[Vq];rw[<-Lt];refine aY ?_;repeat' (intro h<;>simp only[h,go_sem,go_sem_proc,at6,G]<;>try refine ax ?_ ?_)
@[go_sem] theorem aK8 (l:List bg)(h:fY l):Lv [.X (l.map aG),.fn oQ []]=some (.same (.bool (l.any (pZ oQ)))):=agB l oQ ⟨h,.inl rfl⟩
def oX (n:Int)(r:e0):Bool:=!(((r.1.length:Int)==n)&&(ei r.2 && !(r.1.any G6)))
abbrev XL:(List bg)×Int×(List Int)×Int×(List Int)×Int->List Data:=λ(a,s,l,s2,al,n)=>[.agg [.X (a.map aG),.int .i64 s,.X (l.map ad),.int .i64 s2,.X (al.map ad)],.ptr [.int .i64 n],.ptr [.fn oQ []]]
def XM:=cj XL λ(a,s,l,s2,al,n)=>cN (fY a/\D l<=1000000/\D al<=1000000) (.same (.bool (oX n (a,((s,l),(s2,al))))))
theorem at7:∀a b,XL a=XL b->a=b:=by
  rintro⟨cQ,s1,en,BZ,B0,iw⟩ ⟨de,s2,al,B1,B2,jr⟩ h;simp only[a6,Data.agg.injEq,Data.int.injEq,Data.X.injEq,Data.ptr.injEq] at h;exact dQ (map_inj nb _ _ h.1.1) (dQ h.1.2.1.2 (dQ (map_inj fi _ _ h.1.2.2.1) (dQ h.1.2.2.2.1.2 (dQ (map_inj fi _ _ h.1.2.2.2.2.1) h.2.1.1.2))))
@[go_sem] theorem aK9 (a:List bg)(s:Int)(l:List Int)(s2:Int)(al:List Int)(n:Int)(G:fY a/\D l<=1000000/\D al<=1000000):XM [.agg [.X (a.map aG),.int .i64 s,.X (l.map ad),.int .i64 s2,.X (al.map ad)],.ptr [.int .i64 n],.ptr [.fn oQ []]]=some (.same (.bool (oX n (a,((s,l),(s2,al)))))):=(cu at7 (a,s,l,s2,al,n)).trans (cT G _)
theorem at8 (T:bb)(Lu:T oQ=aV P2)(G9:T Ko=aV Lv)(a:List bg)(s:Int)(l:List Int)(s2:Int)(al:List Int)(n:Int)(G:fY a/\D l<=1000000/\D al<=1000000):WP T W9 (.same (.bool (oX n (a,((s,l),(s2,al)))))) [.I (.agg [.X (a.map aG),.int .i64 s,.X (l.map ad),.int .i64 s2,.X (al.map ad)]),.I (.ptr [.int .i64 n]),.I (.ptr [.fn oQ []])]:=by
 refine cv ?_;simp only[W9];obtain⟨aM,b5,cw⟩:=G;unfold oX;rcases E:((D a:Int)==n)
 ·refine aY ?_;repeat' (intro h<;>simp only[h,go_sem,go_sem_proc,Lu,G9,aM,b5,cw,E,ai]<;>try refine ax ?_ ?_)
 ·rcases H:ei ((s,l),(s2,al))
  ·refine aY ?_;repeat' (intro h<;>simp only[h,go_sem,go_sem_proc,Lu,G9,aM,b5,cw,E,H,ai]<;>try refine ax ?_ ?_)
  ·refine aY ?_;repeat' (intro h<;>simp only[h,go_sem,go_sem_proc,Lu,G9,aM,b5,cw,E,H,ai,show (oQ=oQ)=True from by simp,true_or,Bool.not_not]<;>try refine ax ?_ ?_)
abbrev P6:(List e0)×Int->List Data:=λ(rs,n)=>[.X (rs.map ka),.fn Bx [.ptr [.int .i64 n],.ptr [.fn oQ []]]]
def XN:=cj P6 λ(rs,n)=>cN (rJ rs) (.same (.int .i64 (kP (oX n) rs)))
theorem agC:∀a b,P6 a=P6 b->a=b:=by
  rintro⟨agD,iw⟩ ⟨agE,jr⟩ h;simp only[a6,Data.X.injEq,Data.fn.injEq,Data.ptr.injEq,Data.int.injEq] at h;exact dQ (map_inj XF _ _ h.1) h.2.1.2.1.1.2
@[go_sem] theorem aLa (rs:List e0)(n:Int)(G:rJ rs):XN [.X (rs.map ka),.fn Bx [.ptr [.int .i64 n],.ptr [.fn oQ []]]]=some (.same (.int .i64 (kP (oX n) rs))):=(cu agC (rs,n)).trans (cT G _)
theorem at9 (T:bb)(z8:T Bx=aV XM)(rs:List e0)(n:Int)(G:rJ rs):WP T Vs (.same (.int .i64 (kP (oX n) rs))) [.I (.X (rs.map ka)),.I (.fn Bx [.ptr [.int .i64 n],.ptr [.fn oQ []]])]:=by
 refine cv ?_;simp only[Vs];obtain⟨av,cR⟩:=G;simp only[go_sem,go_sem_proc,z8,ai];refine dm [0,1,7] [] (λ(i:Nat) tm mem=>i<=D rs/\(∀x∈rs.take i,oX n x=false)/\tm 8=.I (.int .i64 i)) (λi=>D rs-i) 0 (by refine⟨fs _,?_,rfl⟩;simp) ?_;intro vs ms aR aN;simp only[go_sem,go_sem_proc,z8,ai] at aR aN;subst aR aN;rintro i tm mem M hm ⟨J,fh,cf⟩;simp only[go_sem,go_sem_proc,z8,a6] at M hm;obtain⟨ao,E,bM⟩:=M;rcases dv (i<D rs) with az|b2
 ·have O:=bu az;obtain⟨rI,oO,tX⟩:=cR _ (np az);have cg:=λh=>Ls (p:=oX n) fh O h;have hW:=λh=>P4 (p:=oX n) fh O h;generalize rs[i]=x at *;have hB:decide ((i:Int)<(D rs:Int))=true:=dj;have hw:=eZ (i:=i) (by omega);obtain⟨a,⟨a7,b3⟩,⟨cZ,eo⟩⟩:=x;dsimp only at rI oO tX;rcases ae:oX n (a,((a7,b3),(cZ,eo)))
  ·simp only[go_sem,go_sem_proc,z8,ao,E,bM,cf,O,hB,hw,rI,oO,tX,ae,ai,bh,ka,aG];repeat' (first|refine ax ?_ ?_|fail)<;>intro h<;>simp only[h,go_sem,go_sem_proc,z8,ao,E,bM,cf,O,hB,hw,rI,oO,tX,ae,ai,bh,ka,aG]
   exact⟨i+1,by omega,by omega,hW ae,rfl⟩
  ·rw[cg ae];simp only[go_sem,go_sem_proc,z8,ao,E,bM,cf,O,hB,hw,rI,oO,tX,ae,ai,bh,ka,aG];repeat' (first|refine ax ?_ ?_|fail)<;>intro h<;>simp only[h,go_sem,go_sem_proc,z8,ao,E,bM,cf,O,hB,hw,rI,oO,tX,ae,ai,bh,ka,aG]
 ·have hB:decide ((i:Int)<(D rs:Int))=false:=c5;have iP:i=D rs:=by omega
  subst iP;rw[lK] at fh;rw[P3 fh];simp only[go_sem,go_sem_proc,z8,ao,E,bM,cf,hB,ai];repeat' (first|refine ax ?_ ?_|fail)<;>intro h<;>simp only[h,go_sem,go_sem_proc,z8,ao,E,bM,cf,hB,ai]
def XO:=cj P6 λ(rs,n)=>cN (rJ rs) (.same (.bool (rs.any (oX n))))
@[go_sem] theorem aLb (rs:List e0)(n:Int)(G:rJ rs):XO [.X (rs.map ka),.fn Bx [.ptr [.int .i64 n],.ptr [.fn oQ []]]]=some (.same (.bool (rs.any (oX n)))):=(cu agC (rs,n)).trans (cT G _)
theorem aua (T:bb)(aub:T Un=aV XN)(rs:List e0)(n:Int)(G:rJ rs):WP T Vp (.same (.bool (rs.any (oX n)))) [.I (.X (rs.map ka)),.I (.fn Bx [.ptr [.int .i64 n],.ptr [.fn oQ []]])]:=by
 refine cv ?_;simp only[Vp];rw[<-Lt];refine aY ?_;repeat' (intro h<;>simp only[h,go_sem,go_sem_proc,aub,G]<;>try refine ax ?_ ?_)
def ob (rs:List e0)(n:Int):Bool:=!(decide (n<0))&&(!(decide (n>40))&&(((D rs:Int)==n) && !(rs.any (oX n))))
abbrev P7:(List e0)×Int->List Data:=λ(rs,n)=>[.X (rs.map ka),.int .i64 n]
def XP:=cj P7 λ(rs,n)=>cN (rJ rs) (.same (.bool (ob rs n)))
theorem agF:∀a b,P7 a=P7 b->a=b:=by
  rintro⟨agD,iw⟩ ⟨agE,jr⟩ h;simp only[a6,Data.X.injEq,Data.int.injEq] at h;exact dQ (map_inj XF _ _ h.1) h.2.1.2
@[go_sem] theorem aLc (rs:List e0)(n:Int)(G:rJ rs):XP [.X (rs.map ka),.int .i64 n]=some (.same (.bool (ob rs n))):=(cu agF (rs,n)).trans (cT G _)
theorem auc (T:bb)(P8:T Uh=aV XO)(rs:List e0)(n:Int)(G:rJ rs):WP T W6 (.same (.bool (ob rs n))) [.I (.X (rs.map ka)),.I (.int .i64 n)]:=by
 refine cv ?_;simp only[W6];unfold ob;rcases E:decide (n<0)
 ·rcases H:decide (n>40)
  ·rcases af:((D rs:Int)==n)
   ·refine aY ?_;repeat' (intro h<;>simp only[h,go_sem,go_sem_proc,P8,G,E,H,af,ai]<;>try refine ax ?_ ?_)
   ·refine aY ?_;repeat' (intro h<;>simp only[h,go_sem,go_sem_proc,P8,G,E,H,af,ai,cy,nT,kQ,scalar]<;>try refine ax ?_ ?_)
  ·refine aY ?_;repeat' (intro h<;>simp only[h,go_sem,go_sem_proc,P8,G,E,H,ai]<;>try refine ax ?_ ?_)
 ·refine aY ?_;repeat' (intro h<;>simp only[h,go_sem,go_sem_proc,P8,G,E,ai]<;>try refine ax ?_ ?_)
theorem aud {es:List (List Data)}(h:∀x∈es,Fit (.int .i64) x):∃l:List Int,es=l.map ad:=by
 obtain⟨l,e,-⟩:=Ub (e:=ad) (good:=λ_=>True) λx O=>by
  have:=h x O;simp only[Fit] at this;obtain⟨n,rfl,-⟩:=this;exact⟨n,rfl,trivial⟩
 exact⟨l,e⟩
theorem aue {n:Int}(h:(Lit.int .u8 n).wf=true):∃m:Nat,n=m/\m<256:=by
 have:0<=n/\n<=255:=by simpa [Lit.wf,IntKind.min,IntKind.max,IntKind.signed,IntKind.bits] using h
 exact⟨n.toNat,by omega,by omega⟩
def XQ:bT:=cd 28 1 [.cell 2 2 true] (R [(aC 2 (.alloc 144002 [(aj 0),.nil]))] (.seq (R [F 6 0,a5 7 .eql 6 0] (aZ 7 (R [(aC 8 (.build [(aj 0),.nil] [])),bl 2 2 8] .ret) .skip)) (R [br 3 1] (.seq (R [F 9 0,a5 10 .lss 9 0] (aZ 10 (.ops [(aC 3 (.cp (.c (.I (.int .i64 (-1))))))]) .skip)) (R [eN 4] (.seq (.block 0 (.ghost (.oE 4 144022 1) (.loop  (.seq (R [F 11 0,a5 12 .neq 11 0] (aZ 12 .skip (.exit 0))) (.block 1 (R [F 13 0,a5 14 .rem 13 1048576,F 5 14] (.seq (R [F 15 5,a5 16 .lss 15 0] (aZ 16 (.ops [F 17 5,(aC 18 (.un .neg (.t 17))),F 5 18]) .skip)) (R [F 19 4,F 20 5,(aC 21 (.fc 144021 false [(aj 0)] 1 1 [(0,1,(.t 20))])),(aC 22 (.app 144022 [(aj 0)] 8 (.t 19) (.t 21))),F 4 22] (.ops [F 23 0,a5 24 .quo 23 1048576,F 0 24]))))))))) (.seq (.ghost (.freeze 4) (.ops [F 25 3,F 26 4,(cq 27 vr 25 26),bl 2 2 27])) .ret)))))))
def XR:bT:=cd 60 1 [.t 2] (R [dR 1 162001 0,cC 2 false] (.seq (R [br 3 0] (.block 0 (.loop  (.seq (R [F 5 3,bf 6 1 1,aU 7 1 6,b7 8 7,bn 9 .lss 5 8] (aZ 9 .skip (.exit 0))) (.seq (.block 1 (R [bf 12 1 1,aU 13 1 12,F 14 3,bR 15 1 13 14,aU 16 1 15,a5 17 .lss 16 0,F 18 17,⟨some 19,some (18,false),.ef 1 (.t 1)⟩,⟨some 20,some (18,false),.load 1 false (.t 19)⟩,⟨some 21,some (18,false),.cp (.t 3)⟩,⟨some 22,some (18,false),.kE 1 (.t 20) (.t 21)⟩,⟨some 23,some (18,false),.load 1 false (.t 22)⟩,⟨some 24,some (18,false),.bin .geq (.t 23) (.c (aj 1048576))⟩,ek 25 18 24] (aZ 25 (R [cC 2 false] .ret) .skip))) (.ops [F 10 3,a5 11 .add 10 1,F 3 11])))))) (R [bf 26 1 1,aU 27 1 26,b7 28 27,F 4 28] (.seq (R [bf 29 0 1,aU 30 1 29,(aC 31 (.bin .lss (.t 30) (.c (.I (.int .i64 (-1)))))),F 32 31,⟨some 33,some (32,false),.ef 0 (.t 1)⟩,⟨some 34,some (32,false),.load 1 false (.t 33)⟩,⟨some 35,some (32,false),.bin .gtr (.t 34) (.c (aj 1))⟩,ek 36 32 35,F 37 36,⟨some 38,some (37,false),.cp (.t 4)⟩,⟨some 39,some (37,false),.bin .gtr (.t 38) (.c (aj 60))⟩,ek 40 37 39,F 41 40,⟨some 42,some (41,false),.cp (.t 4)⟩,⟨some 43,some (41,false),.bin .eql (.t 42) (.c (aj 0))⟩,⟨some 44,some (41,false),.ef 0 (.t 1)⟩,⟨some 45,some (41,false),.load 1 false (.t 44)⟩,⟨some 46,some (41,false),.bin .eql (.t 45) (.c (aj 0))⟩,⟨some 47,some (41,false),.beq true (.t 43) (.t 46)⟩,ek 48 41 47] (aZ 48 (R [cC 2 false] .ret) .skip)) (R [F 49 4,a5 50 .eql 49 0,F 51 50,⟨some 52,some (51,false),.ef 1 (.t 1)⟩,⟨some 53,some (51,false),.load 1 false (.t 52)⟩,⟨some 54,some (51,false),.cp (.t 4)⟩,⟨some 55,some (51,false),.bin .sub (.t 54) (.c (aj 1))⟩,⟨some 56,some (51,false),.kE 1 (.t 53) (.t 55)⟩,⟨some 57,some (51,false),.load 1 false (.t 56)⟩,⟨some 58,some (51,false),.bin .neq (.t 57) (.c (aj 0))⟩,ek 59 51 58,F 2 59] .ret)))))
def XS:bT:=cd 13 1 [.cell 2 2 true] (R [dR 1 163001 0,(aC 2 (.alloc 163002 [(aj 0),.nil]))] (.seq (R [bo 3 2 1,(dL 4 vq 3),fp 5 4] (aZ 5 (R [(aC 6 (.build [(aj 0),.nil] [])),bl 2 2 6] .ret) .skip)) (R [bf 7 0 1,aU 8 1 7,(aC 9 (.un .neg (.t 8))),bf 10 1 1,aU 11 1 10,(cq 12 vr 9 11),bl 2 2 12] .ret)))
def XT:bT:=cd 36 2 [.cell 4 2 true,.t 5] (R [dR 2 164002 0,dR 3 164003 1,(aC 4 (.alloc 164004 [(aj 0),.nil])),br 5 0] (.seq (R [bo 10 2 2,(dL 11 vq 10),fp 12 11,F 13 12,⟨some 14,some (13,false),.load 2 true (.t 3)⟩,⟨some 15,some (13,false),.call vq [(.t 14)]⟩,⟨some 16,some (13,false),.un .not (.t 15)⟩,ek 17 13 16] (aZ 17 (R [(aC 18 (.build [(aj 0),.nil] [])),bl 2 4 18,br 5 1] .ret) .skip)) (R [bf 19 1 2,aU 20 1 19,F 6 20] (R [bf 21 1 3,aU 22 1 21,F 7 22] (.seq (.block 0 (.loop  (.seq (R [F 23 7,b7 24 23,a5 25 .gtr 24 0] (aZ 25 .skip (.exit 0))) (.block 1 (R [F 27 6,F 28 7,(cq 29 Ku 27 28),F 26 29,bB 30 0 26,bB 31 1 26,F 8 30,F 9 31] (R [F 32 7,F 6 32] (.ops [F 33 9,F 7 33]))))))) (R [F 34 6,(aC 35 (.call vr [(.c (aj 1)),(.t 34)])),bl 2 4 35,br 5 0] .ret))))))
def XU:bT:=cd 65 2 [.cell 4 2 true,.cell 5 2 true,.t 6] (R [dR 2 165002 0,dR 3 165003 1,(aC 4 (.alloc 165004 [(aj 0),.nil])),(aC 5 (.alloc 165005 [(aj 0),.nil])),br 6 0] (.seq (R [bo 9 2 2,(dL 10 vq 9),fp 11 10,F 12 11,⟨some 13,some (12,false),.load 2 true (.t 3)⟩,⟨some 14,some (12,false),.call vq [(.t 13)]⟩,⟨some 15,some (12,false),.un .not (.t 14)⟩,ek 16 12 15] (aZ 16 (R [(aC 17 (.build [(aj 0),.nil] [])),(aC 18 (.build [(aj 0),.nil] [])),bl 2 4 17,bl 2 5 18,br 6 1] .ret) .skip)) (.seq (R [bf 19 0 3,aU 20 1 19,a5 21 .eql 20 0] (aZ 21 (R [(aC 22 (.build [(aj 0),.nil] [])),(aC 23 (.build [(aj 0),.nil] [])),bl 2 4 22,bl 2 5 23,br 6 15] .ret) .skip)) (R [bf 25 1 2,aU 26 1 25,bf 27 1 3,aU 28 1 27,(cq 29 Ku 26 28),F 24 29,bB 30 0 24,bB 31 1 24,F 7 30,F 8 31] (.seq (R [bf 32 0 2,aU 33 1 32,bf 34 0 3,aU 35 1 34,bn 36 .mul 33 35,a5 37 .geq 36 0,F 38 37,⟨some 39,some (38,false),.cp (.t 8)⟩,⟨some 40,some (38,false),.len (.t 39)⟩,⟨some 41,some (38,false),.bin .eql (.t 40) (.c (aj 0))⟩,ek 42 38 41] (aZ 42 (fH [bf 43 0 2,aU 44 1 43,bf 45 0 3,aU 46 1 45,bn 47 .mul 44 46,F 48 7,(cq 49 vr 47 48),bf 50 0 2,aU 51 1 50,F 52 8,(cq 53 vr 51 52),bl 2 4 49,bl 2 5 53,br 6 0] KJ .ret) .skip)) (fH [F 54 7,(aC 55 (.fc 165055 false [(aj 0)] 1 1 [(0,1,(.c (aj 1)))])),(cq 56 Uy 54 55),(aC 57 (.call vr [(.c (.I (.int .i64 (-1)))),(.t 56)])),bf 58 0 3,aU 59 1 58,bf 60 1 3,aU 61 1 60,F 62 8,(cq 63 Kv 61 62),(cq 64 vr 59 63),bl 2 4 57,bl 2 5 64,br 6 0] KJ .ret))))))
def XV:bT:=cd 15 2 [.cell 4 2 true] (R [(aC 4 (.alloc 166004 [(aj 0),.nil]))] (R [F 6 1,(dL 7 tL 6),F 5 7] (.seq (R [F 8 5,b7 9 8,a5 10 .eql 9 0] (aZ 10 (R [(aC 11 (.build [(aj 0),.nil] [])),bl 2 4 11] .ret) .skip)) (R [F 12 0,F 13 5,(aC 14 (.build [(aj 0),.nil] [(0,1,(.t 12)),(1,1,(.t 13))])),bl 2 4 14] .ret))))
def Lw:bT:=cd 60 2 [.t 4,.t 5] (R [eN 4,eN 5] (R [F 12 0,b7 13 12,(aC 14 (.mu 180014 [(aj 0)] 8 (.t 13) (.t 13))),F 6 14] (R [eN 7] (.seq (R [F 15 0,b7 16 15,a5 17 .sub 16 1,F 8 17] (.block 0 (.loop  (.seq (R [F 18 8,a5 19 .geq 18 0] (aZ 19 .skip (.exit 0))) (.seq (.block 1 (R [F 22 0,F 23 8,bR 24 1 22 23,aU 25 1 24,(aC 26 (.fc 180026 true [(aj 0)] 1 1 [(0,1,(.t 25))])),F 27 7,(aC 28 (.app 180028 [(aj 0)] 8 (.t 26) (.t 27))),(dL 29 tL 28),F 7 29] (R [br 9 0] (R [br 10 1048576] (.seq (.block 2 (.loop  (.seq (R [F 30 10,F 31 9,bn 32 .sub 30 31,a5 33 .gtr 32 1] (aZ 33 .skip (.exit 2))) (.block 3 (R [F 34 9,F 35 10,bn 36 .add 34 35,a5 37 .quo 36 2,F 11 37] (R [F 38 7,F 39 1,F 40 11,(aC 41 (.fc 180041 false [(aj 0)] 1 1 [(0,1,(.t 40))])),(cq 42 Kw 39 41),(cq 43 OJ 38 42)] (aZ 43 (.ops [F 44 11,F 10 44]) (.ops [F 45 11,F 9 45])))))))) (R [F 46 6,F 47 8,F 48 9,bR 49 1 46 47,bl 1 49 48] (.ops [F 50 7,F 51 1,F 52 9,(aC 53 (.fc 180053 false [(aj 0)] 1 1 [(0,1,(.t 52))])),(dL 54 tL 53),(cq 55 Kw 51 54),(cq 56 Kv 50 55),F 7 56]))))))) (.ops [F 20 8,a5 21 .sub 20 1,F 8 21])))))) (R [F 57 6,(dL 58 tL 57),F 59 7,F 4 58,F 5 59] .ret)))))
def XW:bT:=cd 43 2 [.t 4] (R [eN 4] (R [eN 5] (R [br 6 0] (.seq (R [br 7 0] (.block 0 (.ghost (.oE 5 181038 1) (.loop  (.seq (R [F 9 7,F 10 0,b7 11 10,bn 12 .lss 9 11,F 13 12,⟨some 14,some (13,false),.cp (.t 7)⟩,⟨some 15,some (13,false),.cp (.t 1)⟩,⟨some 16,some (13,false),.len (.t 15)⟩,⟨some 17,some (13,false),.bin .lss (.t 14) (.t 16)⟩,ek 18 13 17,F 19 18,⟨some 20,some (19,false),.cp (.t 6)⟩,⟨some 21,some (19,false),.bin .gtr (.t 20) (.c (aj 0))⟩,ek 22 19 21] (aZ 22 .skip (.exit 0))) (.seq (.block 1 (R [F 25 0,F 26 7,(cq 27 tM 25 26),F 28 1,F 29 7,(cq 30 tM 28 29),bn 31 .add 27 30,F 32 6,bn 33 .add 31 32,F 8 33] (R [F 34 5,F 35 8,a5 36 .rem 35 1048576,(aC 37 (.fc 181037 false [(aj 0)] 1 1 [(0,1,(.t 36))])),(aC 38 (.app 181038 [(aj 0)] 8 (.t 34) (.t 37))),F 5 38] (.ops [F 39 8,a5 40 .quo 39 1048576,F 6 40])))) (.ops [F 23 7,a5 24 .add 23 1,F 7 24]))))))) (R [F 41 5,(dL 42 tL 41),F 4 42] .ret)))))
def XX:bT:=cd 35 2 [.t 4] (R [eN 4] (R [eN 5] (R [br 6 0] (.seq (R [br 7 0] (.block 0 (.ghost (.oE 5 182032 1) (.loop  (.seq (R [F 9 7,F 10 0,b7 11 10,bn 12 .lss 9 11] (aZ 12 .skip (.exit 0))) (.seq (.block 1 (fH [F 15 0,F 16 7,bR 17 1 15 16,aU 18 1 17,F 19 1,F 20 7,(cq 21 tM 19 20),bn 22 .sub 18 21,F 23 6,bn 24 .sub 22 23,F 8 24] U2 (R [br 6 0] (.seq (R [F 25 8,a5 26 .lss 25 0] (aZ 26 (R [F 27 8,a5 28 .add 27 1048576,F 8 28] (.ops [br 6 1])) .skip)) (.ops [F 29 5,F 30 8,(aC 31 (.fc 182031 false [(aj 0)] 1 1 [(0,1,(.t 30))])),(aC 32 (.app 182032 [(aj 0)] 8 (.t 29) (.t 31))),F 5 32]))))) (.ops [F 13 7,a5 14 .add 13 1,F 7 14]))))))) (R [F 33 5,(dL 34 tL 33),F 4 34] .ret)))))
def XY:bT:=cd 23 1 [.t 2] (R [eN 2] (R [F 4 0,b7 5 4,F 3 5] (.seq (.block 0 (.loop  (.seq (R [F 6 3,a5 7 .gtr 6 0,F 8 7,⟨some 9,some (8,true),.cp (.t 0)⟩,⟨some 10,some (8,true),.cp (.t 3)⟩,⟨some 11,some (8,true),.bin .sub (.t 10) (.c (aj 1))⟩,⟨some 12,some (8,true),.kE 1 (.t 9) (.t 11)⟩,⟨some 13,some (8,true),.load 1 false (.t 12)⟩,⟨some 14,some (8,true),.bin .eql (.t 13) (.c (aj 0))⟩,gg 15 8 14] (aZ 15 .skip (.exit 0))) (.block 1 (.ops [F 16 3,a5 17 .sub 16 1,F 3 17]))))) (R [(aC 18 (.fc 183018 true [] 1 0 [])),F 19 0,F 20 3,(aC 21 (.oC 1 (.t 19) none (some (.t 20)) none)),(aC 22 (.app 183022 [(aj 0)] 8 (.t 18) (.t 21))),F 2 22] .ret))))
def XZ:bT:=cd 30 2 [.t 4] (R [cC 4 false] (.seq (R [F 6 0,b7 7 6,F 8 1,b7 9 8,(aC 10 (.iK true (.t 7) (.t 9))),a5 11 .sub 10 1,F 5 11] (.block 0 (.loop  (.seq (R [F 12 5,a5 13 .geq 12 0] (aZ 13 .skip (.exit 0))) (.seq (.block 1 (R [F 16 0,F 17 5,(cq 18 tM 16 17),F 19 1,F 20 5,(cq 21 tM 19 20),bn 22 .neq 18 21] (aZ 22 (R [F 23 0,F 24 5,(cq 25 tM 23 24),F 26 1,F 27 5,(cq 28 tM 26 27),bn 29 .lss 25 28,F 4 29] .ret) .skip))) (.ops [F 14 5,a5 15 .sub 14 1,F 5 15])))))) (R [cC 4 false] .ret)))
def X0:bT:=cd 60 2 [.t 4] (R [eN 4] (R [F 10 0,b7 11 10,F 12 1,b7 13 12,bn 14 .add 11 13,(aC 15 (.mu 186015 [(aj 0)] 8 (.t 14) (.t 14))),F 5 15] (.seq (R [br 6 0] (.block 0 (.loop  (.seq (R [F 16 6,F 17 0,b7 18 17,bn 19 .lss 16 18] (aZ 19 .skip (.exit 0))) (.seq (.block 1 (R [br 7 0] (R [br 8 0] (.block 2 (.loop  (.seq (R [F 22 8,F 23 1,b7 24 23,bn 25 .lss 22 24,F 26 25,⟨some 27,some (26,false),.cp (.t 7)⟩,⟨some 28,some (26,false),.bin .gtr (.t 27) (.c (aj 0))⟩,ek 29 26 28] (aZ 29 .skip (.exit 2))) (.seq (.block 3 (fH [F 32 5,F 33 6,F 34 8,bn 35 .add 33 34,bR 36 1 32 35,aU 37 1 36,F 38 0,F 39 6,bR 40 1 38 39,aU 41 1 40,F 42 1,F 43 8,(cq 44 tM 42 43),bn 45 .mul 41 44,bn 46 .add 37 45,F 47 7,bn 48 .add 46 47,F 9 48] ae1 (R [F 49 5,F 50 6,F 51 8,bn 52 .add 50 51,F 53 9,a5 54 .rem 53 1048576,bR 55 1 49 52,bl 1 55 54] (.ops [F 56 9,a5 57 .quo 56 1048576,F 7 57])))) (.ops [F 30 8,a5 31 .add 30 1,F 8 31])))))))) (.ops [F 20 6,a5 21 .add 20 1,F 6 21])))))) (R [F 58 5,(dL 59 tL 58),F 4 59] .ret))))
def X1:bT:=cd 13 2 [.t 4] (R [br 4 0] (.seq (R [F 5 1,F 6 0,b7 7 6,bn 8 .lss 5 7] (aZ 8 (R [F 9 0,F 10 1,bR 11 1 9 10,aU 12 1 11,F 4 12] .ret) .skip)) (R [br 4 0] .ret)))
theorem Ha (l:List Int):wG (.own 1 (l.map ad))=some (.own 1 (l.map ad)):=by
 refine ab ?_;rw[List.all_eq_true];intro e he;obtain⟨d,-,rfl⟩:=List.mem_map.1 he;simp[ad,scalar]
theorem xb (n k g sz off len:Nat):cy n emp (.ref k g sz off len)=none:=by cases n<;>rfl
def Cd:=cj Gs λ(l:List Int)=>cN (D l<=1000000) (.own 1 ((fL l).map ad))
@[go_sem] theorem Eu (l:List Int)(G:(D l)<=1000000):Cd [.X (l.map ad)]=some (.own 1 ((fL l).map ad)):=(cu OX l).trans (cT G _)
theorem auf (T:bb)  (l:List Int) (G:(D l)<=1000000):WP T XY (.own 1 ((fL l).map ad)) [.I (.X (l.map ad))]:=by
 refine cv ?_;simp only[XY];have ts:((l.map ad).all λe=>D e==1)=true:=by simp[ad]
 refine aY ?_;repeat' (intro h<;>simp only[h,go_sem,go_sem_proc,ai]<;>try refine ax ?_ ?_)
 refine dm [0] [] (λ(n:Nat) tm mem=>n<=D l/\fL l=fL (l.take n)/\tm 3=.I (.int .i64 n)/\mem 183018=none) (λn=>n) (D l) (by refine⟨bX _,by simp,by simp[go_sem],rfl⟩) ?_;intro vs ms aR aN;simp only[go_sem,go_sem_proc,ai] at aR aN;subst aR aN;rintro n tm mem M-⟨aH,bA,af,X2⟩;simp only[go_sem,go_sem_proc,a6] at M;have ao:=M
 have dG:∀o:List Int,D o<=(D l)->mw 183018 0 1 0 8 (D o) ((o.map ad).flatten.map .I) (some (0,[]))=some (.ref 183018 1 1 0 (D o),some (183018,1,a8 ad o)):=by
  intro o bL;have:=Dy hl tK 183018 0 8 [] o (by simp;omega) (by simp;omega)
  simpa [a8] using this
 have pR:∀(o:List Int) (m:Mem),m 183018=some (1,a8 ad o)->ru 1 m (.ref 183018 1 1 0 (D o))=some (o.map ad):=by
  intro o m hm;have:=afa hm (bX _);rwa [dx (bX _)] at this
 have aug:∀o:List Int,((o.map ad).all λe=>D e==1)=true:=λo=>by simp[ad]
 rcases n with _|n
 ·have E:=dG [] (by simp);have bL:=pR [];simp only[cS,agG,k9] at E bL;refine aY ?_;repeat' (intro h<;>simp only[h,go_sem,go_sem_proc,ao,af,X2,ts,E,lG,l6,show ¬ ((0:Int)>0) by omega,decide_false,ai,show (0:Int).toNat=0 from rfl,show (0:Int)<=0 by omega,fs,List.take_zero,cS,k9]<;>try refine ax ?_ ?_)
  rw[bL _ (by simp[a1]),bA];simp[fL]
 ·have hw:IntKind.i64.wrap (((n+1:Nat):Int)-1)=(n:Int):=by rw[eM _];omega
  have O:l[n]?=some l[n]:=bu (by omega);have ib:((n+1:Nat):Int)>0:=by omega
  have hle:n+1<=D l:=aH
  by_cases aW:l[n]=0
  ·refine aY ?_;repeat' (intro h<;>simp only[h,go_sem,go_sem_proc,ao,af,hw,O,aW,ib,ai,bh,decide_true,ad,beq_self_eq_true,a6]<;>try refine ax ?_ ?_)
   exact⟨n,by omega,by omega,by rw[bA,VA l n (by omega) aW],rfl,X2⟩
  ·have qD:(l[n]==0)=false:=by simpa using aW
   have E:=dG (l.take (n+1)) (by rw[gC];omega);rw[gC,oK hle,z9] at E;have cw:(List.take (n+1) (l.map ad)).length=n+1:=by rw[gC,ai];omega
   have agH:=aug (l.take (n+1));rw[z9] at agH;refine aY ?_;repeat' (intro h<;>simp only[h,go_sem,go_sem_proc,ao,af,X2,hw,O,qD,ib,ts,agH,hle,E,cw,ad,ai,bh,decide_true,a6,show (0:Int)<=((n+1:Nat):Int) by omega,lH,fs]<;>try refine ax ?_ ?_)
   have bL:=pR (l.take (n+1)) _ (show a1 (a1 mem 183018 0 []) 183018 1 (a8 ad (List.take (n+1) l)) 183018=_ by simp[a1])
   rw[gC,oK hle] at bL;rw[bL,bA,VB l n (by omega) aW]
abbrev X3:(List Int)×Nat->List Data:=λ(l,i)=>[.X (l.map ad),.int .i64 i]
def Hb:=cj X3 λ(l,i)=>cN (D l<=1000000) (.same (.int .i64 (l.getD i 0)))
theorem auh:∀a b,X3 a=X3 b->a=b:=by
  rintro⟨en,i1⟩ ⟨al,i2⟩ h;simp only[a6,Data.X.injEq,Data.int.injEq] at h;exact dQ (map_inj fi _ _ h.1) (by have:=h.2.1.2;dsimp only;omega)
@[go_sem] theorem agI (l:List Int)(i:Nat)(G:(D l)<=1000000):Hb [.X (l.map ad),.int .i64 i]=some (.same (.int .i64 (l.getD i 0))):=(cu auh (l,i)).trans (cT G _)
theorem aui (T:bb)  (l:List Int) (i:Nat) (G:(D l)<=1000000):WP T X1 (.same (.int .i64 (l.getD i 0))) [.I (.X (l.map ad)),.I (.int .i64 i)]:=by
 refine cv ?_;simp only[X1];rcases ir i (D l) with az|b2
 ·have O:=bu az;have Y:decide ((i:Int)<(D l:Int))=true:=dj;have a9:l.getD i 0=l[i]:=by rw[dZ,O];rfl
  rw[a9];refine aY ?_;repeat' (intro h<;>simp only[h,go_sem,go_sem_proc,O,Y,ad,ai,bh]<;>try refine ax ?_ ?_)
 ·have Y:decide ((i:Int)<(D l:Int))=false:=c5;have a9:l.getD i 0=0:=by rw[dZ,mx b2];rfl
  rw[a9];refine aY ?_;repeat' (intro h<;>simp only[h,go_sem,go_sem_proc,Y,ai]<;>try refine ax ?_ ?_)
theorem Hc (n i:Nat):(aJ n).getD i 0=((n/1048576^i%1048576:Nat):Int):=by
 induction i generalizing n with
 |zero =>
  rcases k6 n with h|h
  ·subst h;rfl
  ·rw[vk h,Nat.pow_zero,Nat.div_one];rfl
 |succ i aA =>
  rcases k6 n with h|h
  ·subst h;rw[Ww];rfl
  ·rw[vk h];show (aJ (n/1048576)).getD i 0=_;rw[aA,agJ,<-Nat.pow_succ']
theorem Hd (n i:Nat):n/1048576^i=n/1048576^i%1048576+1048576*(n/1048576^(i+1)):=by
 rw[wJ,<-agJ];omega
theorem Ce {n k:Nat}(h:(aJ n).length<=k):n/1048576^k=0:=Nat.div_eq_of_lt (hb.1 h)
def P9:=cj vz λ(x,y)=>cN ((aJ x).length<=100000/\(aJ y).length<=100000) (.same (.bool (decide (x<y))))
@[go_sem] theorem auj (x:Nat)(y:Nat)(G:(aJ x).length<=100000/\(aJ y).length<=100000):P9 [b4 x,b4 y]=some (.same (.bool (decide (x<y)))):=(cu yg (x,y)).trans (cT G _)
theorem auk (T:bb)(gx:T tM=aV Hb)(x:Nat)(y:Nat)(G:(aJ x).length<=100000/\(aJ y).length<=100000):WP T XZ (.same (.bool (decide (x<y)))) [.I (b4 x),.I (b4 y)]:=by
 refine cv ?_;simp only[XZ];obtain⟨O,ar⟩:=G;have m8:∃bd:Nat,bd=max (aJ x).length (aJ y).length:=⟨_,rfl⟩;obtain⟨bd,m8⟩:=m8;have ia:(if ((aJ y).length:Int)>((aJ x).length:Int) then ((aJ y).length:Int) else ((aJ x).length:Int))=(bd:Int):=by split<;>omega
 have BU:IntKind.i64.wrap ((bd:Int)-1)=(bd:Int)-1:=wrap64 _ (by omega) (by omega);have n8:(aJ x).length<=1000000:=by omega
 have lf:(aJ y).length<=1000000:=by omega
 simp only[go_sem,go_sem_proc,gx,b4,ai,ia,BU];refine dm [0,1] [] (λ(i:Nat) tm mem=>i<=bd/\x/1048576^i=y/1048576^i/\tm 5=.I (.int .i64 ((i:Int)-1))) (λi=>i) bd (by refine⟨bX _,?_,rfl⟩;rw[Ce (by omega),Ce (by omega)]) ?_;intro vs ms aR aN;simp only[go_sem,go_sem_proc,gx,b4] at aR aN;subst aR aN;rintro i tm mem M-⟨J,he,bt⟩;simp only[go_sem,go_sem_proc,gx,a6] at M;obtain⟨ao,E⟩:=M;rcases i with _|i
 ·have nZ:x=y:=by simpa using he
  have az:decide (x<y)=false:=c5;rw[az];simp only[go_sem,go_sem_proc,gx,ao,E,bt,lG,l6,show ¬ ((0:Int)-1>=0) by omega,decide_false]
  repeat' (first|refine ax ?_ ?_|fail)<;>intro h<;>simp only[h,go_sem,go_sem_proc,gx,ao,E,bt,lG,l6,show ¬ ((0:Int)-1>=0) by omega,decide_false]
 ·have hw:((i+1:Nat):Int)-1=(i:Int):=by omega
  have b2:decide ((i:Int)>=0)=true:=dj;have ay:=Hd x i;have aB:=Hd y i;rw[he] at ay;have fy:IntKind.i64.wrap ((i:Int)-1)=(i:Int)-1:=wrap64 _ (by omega) (by omega);have cE:=Hc x i;have ck:=Hc y i;have c1:=qK (x/1048576^i) (show 0<1048576 by omega);have ee:=qK (y/1048576^i) (show 0<1048576 by omega);have b5:x/1048576^i<y/1048576^i->x<y:=λh=>agK h;have cw:y/1048576^i<x/1048576^i->y<x:=λh=>agK h;generalize nw:x/1048576^i=df at *;generalize zZ:y/1048576^i=gk at *;generalize y/1048576^(i+1)=Z at *;generalize df%1048576=a at *;generalize gk%1048576=b at *;rcases Nat.lt_trichotomy a b with h|h|h
  ·have bI:((a:Int)==(b:Int))=false:=by simp;omega
   have Aa:decide ((a:Int)<(b:Int))=decide (x<y):=by rw[lU (show (a:Int)<(b:Int) by omega),lU (b5 (by omega))]
   simp only[go_sem,go_sem_proc,gx,ao,E,bt,hw,b2,cE,ck,n8,lf,bI,Aa];repeat' (first|refine ax ?_ ?_|fail)<;>intro h<;>simp only[h,go_sem,go_sem_proc,gx,ao,E,bt,hw,b2,cE,ck,n8,lf,bI,Aa]
  ·subst h;simp only[go_sem,go_sem_proc,gx,ao,E,bt,hw,b2,cE,ck,n8,lf,fy,beq_self_eq_true];repeat' (first|refine ax ?_ ?_|fail)<;>intro h<;>simp only[h,go_sem,go_sem_proc,gx,ao,E,bt,hw,b2,cE,ck,n8,lf,fy,beq_self_eq_true]
   exact⟨i,by omega,by omega,by rw[nw,zZ];omega,rfl⟩
  ·have bI:((a:Int)==(b:Int))=false:=by simp;omega
   have Aa:decide ((a:Int)<(b:Int))=decide (x<y):=by rw[mo (show ¬ (a:Int)<(b:Int) by omega),mo (by have:=cw (by omega);omega)]
   simp only[go_sem,go_sem_proc,gx,ao,E,bt,hw,b2,cE,ck,n8,lf,bI,Aa];repeat' (first|refine ax ?_ ?_|fail)<;>intro h<;>simp only[h,go_sem,go_sem_proc,gx,ao,E,bt,hw,b2,cE,ck,n8,lf,bI,Aa]
theorem X4 {o:List Int}{d:Int}(h:eV o)(ao:0<=d)(E:d<1048576):eV (o++[d]):=DD.2 ⟨h,DB.2 ⟨⟨ao,E⟩,by intro d Y;cases Y⟩⟩
theorem X5 (o:List Int)(d:Int):bc (o++[d])=bc o+1048576^(D o)*d:=by rw[DE];simp[bc]
theorem He {o:List Int}{n:Nat}(h:eV o)(ak:bc o=n):fL o=aJ n:=by rw[zF h,ak];rfl
def X6:=cj vz λ(x,y)=>cN ((aJ x).length<=10000/\(aJ y).length<=10000) (.same (b4 (x+y)))
@[go_sem] theorem aul (x:Nat)(y:Nat)(G:(aJ x).length<=10000/\(aJ y).length<=10000):X6 [b4 x,b4 y]=some (.same (b4 (x+y))):=(cu yg (x,y)).trans (cT G _)
theorem aum (T:bb)(gx:T tM=aV Hb)(fZ:T tL=aV Cd)(x:Nat)(y:Nat)(G:(aJ x).length<=10000/\(aJ y).length<=10000):WP T XW (.same (b4 (x+y))) [.I (b4 x),.I (b4 y)]:=by
 refine cv ?_;simp only[XW];obtain⟨O,ar⟩:=G;have m8:∃bd:Nat,bd=max (aJ x).length (aJ y).length:=⟨_,rfl⟩;obtain⟨bd,m8⟩:=m8;have n8:(aJ x).length<=1000000:=by omega
 have lf:(aJ y).length<=1000000:=by omega
 simp only[go_sem,go_sem_proc,gx,fZ,b4,ai];refine dm [0,1] [] (λ((i,c,g,o):Nat×Nat×Nat×List Int) tm mem=>i<=bd+1/\c<=1/\(i=bd+1->c=0)/\D o=i/\eV o/\bc o+1048576^i*((x/1048576^i+y/1048576^i+c:Nat):Int)=((x+y:Nat):Int)/\tm 6=.I (.int .i64 c)/\tm 7=.I (.int .i64 i)/\tm 5=.ref 181038 g 1 0 i/\mem 181038=some (g,a8 ad o)) (λ(i,_)=>bd+1-i) (0,0,0,[]) (by refine⟨by omega,by omega,by simp,rfl,by simp[eV],by simp[bc],rfl,rfl,rfl,rfl⟩) ?_;intro vs ms aR aN;simp only[go_sem,go_sem_proc,gx,fZ,b4] at aR aN;subst aR aN;rintro⟨i,c,g,o⟩ tm mem M-⟨J,g0,hR,bL,iN,ak,bU,bM,bt,hm⟩;simp only[go_sem,go_sem_proc,gx,fZ,a6] at M;obtain⟨ao,E⟩:=M;have aF:bc o+1048576^i*((x/1048576^i+y/1048576^i+c:Nat):Int)=((x+y:Nat):Int):=ak
 by_cases Lx:i<(aJ x).length\/i<(aJ y).length\/0<c
 ·have ay:=Hd x i;have aB:=Hd y i;have cE:=Hc x i;have ck:=Hc y i;have c1:=qK (x/1048576^i) (show 0<1048576 by omega);have ee:=qK (y/1048576^i) (show 0<1048576 by omega);have Wl:bd<=i->x/1048576^i=0/\y/1048576^i=0:=λh=>⟨Ce (by omega),Ce (by omega)⟩;have gH:(1048576:Int)^(i+1)=1048576^i*1048576:=ns _ _;generalize nw:x/1048576^i=df at *;generalize zZ:y/1048576^i=gk at *;generalize Ab:x/1048576^(i+1)=X' at *;generalize Hf:y/1048576^(i+1)=Y' at *;generalize aM:df%1048576=a at *;generalize ae:gk%1048576=b at *;have w1:IntKind.i64.wrap ((a:Int)+(b:Int))=((a+b:Nat):Int):=by rw[eM _];omega
  have ni:IntKind.i64.wrap (((a+b:Nat):Int)+(c:Int))=((a+b+c:Nat):Int):=by rw[eM _];omega
  have hp:((a+b+c:Nat):Int).tmod 1048576=(((a+b+c)%1048576:Nat):Int):=by rw[KV (by omega)];omega
  have fb:IntKind.i64.wrap (((a+b+c:Nat):Int).tdiv 1048576)=(((a+b+c)/1048576:Nat):Int):=by rw[GD (by omega),wrap64 _ (by omega) (by omega)];omega
  have bO:=eZ (i:=i) (by omega);have dG:=mI hl tK 181038 g 8 o (((a+b+c)%1048576:Nat):Int) (cs:=[.I (.int .i64 (((a+b+c)%1048576:Nat):Int))]) rfl (by omega) (by omega);rw[bL] at dG
  have aLd:i<=bd:=by
   rcases ir bd i with h|h
   ·have:=hR (by omega);omega
   ·exact h
  have iM:∃bk:Nat×Nat×Nat×List Int,bd+1-bk.1<bd+1-i/\bk.1<=bd+1/\bk.2.1<=1/\(bk.1=bd+1->bk.2.1=0)/\bk.2.2.2.length=bk.1/\eV bk.2.2.2/\bc bk.2.2.2+1048576^bk.1*((x/1048576^bk.1+y/1048576^bk.1+bk.2.1:Nat):Int)=((x+y:Nat):Int)/\Q.I (Data.int .i64 (((a+b+c)/1048576:Nat):Int))=Q.I (Data.int .i64 (bk.2.1:Int))/\Q.I (Data.int .i64 ((i+1:Nat):Int))=Q.I (Data.int .i64 (bk.1:Int))/\Q.ref 181038 (g+1) 1 0 (i+1)=Q.ref 181038 bk.2.2.1 1 0 bk.1/\some (g+1,a8 ad (o++[(((a+b+c)%1048576:Nat):Int)]))=some (bk.2.2.1,a8 ad bk.2.2.2):=by
   refine⟨(i+1,(a+b+c)/1048576,g+1,o++[(((a+b+c)%1048576:Nat):Int)]),by dsimp only;omega,by dsimp only;omega,by dsimp only;omega,?_,by simp[bL],X4 iN (by omega) (by omega),?_,rfl,rfl,rfl,rfl⟩
   ·intro h;dsimp only at h ⊢;have:=Wl (by omega);omega
   ·dsimp only;rw[Ab,Hf,X5,bL,gH,<-aF];have bG:((df+gk+c:Nat):Int)=1048576*((X'+Y'+(a+b+c)/1048576:Nat):Int)+(((a+b+c)%1048576:Nat):Int):=by omega
    rw[bG,iA,iB];omega
  by_cases x9:i<(aJ x).length
  ·have d1:decide ((i:Int)<((aJ x).length:Int))=true:=dj;simp only[go_sem,go_sem_proc,gx,fZ,ao,E,bt,bU,bM,hm,cE,ck,n8,lf,d1,w1,ni,hp,fb,bO,dG,ai];repeat' (first|refine ax ?_ ?_|fail)<;>intro h<;>simp only[h,go_sem,go_sem_proc,gx,fZ,ao,E,bt,bU,bM,hm,cE,ck,n8,lf,d1,w1,ni,hp,fb,bO,dG,ai]
   exact iM
  ·have d1:decide ((i:Int)<((aJ x).length:Int))=false:=c5
   by_cases sj:i<(aJ y).length
   ·have d2:decide ((i:Int)<((aJ y).length:Int))=true:=dj;simp only[go_sem,go_sem_proc,gx,fZ,ao,E,bt,bU,bM,hm,cE,ck,n8,lf,d1,d2,w1,ni,hp,fb,bO,dG,ai];repeat' (first|refine ax ?_ ?_|fail)<;>intro h<;>simp only[h,go_sem,go_sem_proc,gx,fZ,ao,E,bt,bU,bM,hm,cE,ck,n8,lf,d1,d2,w1,ni,hp,fb,bO,dG,ai]
    exact iM
   ·have d2:decide ((i:Int)<((aJ y).length:Int))=false:=c5;have d3:decide ((c:Int)>0)=true:=dj;simp only[go_sem,go_sem_proc,gx,fZ,ao,E,bt,bU,bM,hm,cE,ck,n8,lf,d1,d2,d3,w1,ni,hp,fb,bO,dG,ai];repeat' (first|refine ax ?_ ?_|fail)<;>intro h<;>simp only[h,go_sem,go_sem_proc,gx,fZ,ao,E,bt,bU,bM,hm,cE,ck,n8,lf,d1,d2,d3,w1,ni,hp,fb,bO,dG,ai]
    exact iM
 ·have d1:decide ((i:Int)<((aJ x).length:Int))=false:=c5;have d2:decide ((i:Int)<((aJ y).length:Int))=false:=c5;have d3:decide ((c:Int)>0)=false:=c5;rw[Ce (n:=x) (by omega),Ce (n:=y) (by omega),show c=0 by omega] at aF
  have cI:=Eu o (by omega);rw[He (n:=x+y) iN (by simpa using aF)] at cI;have gw:=Ha (aJ (x+y));have kK:=qz (n:=5) hl hm;rw[bL] at kK;simp only[go_sem,go_sem_proc,gx,fZ,ao,E,bt,bU,bM,hm,d1,d2,d3,cI,gw,kK,xb,kQ,ai];repeat' (first|refine ax ?_ ?_|fail)<;>intro h<;>simp only[h,go_sem,go_sem_proc,gx,fZ,ao,E,bt,bU,bM,hm,d1,d2,d3,cI,gw,kK,xb,kQ,ai]
def Qa:=cj vz λ(x,y)=>cN ((aJ x).length<=10000/\(aJ y).length<=10000/\y<=x) (.same (b4 (x-y)))
@[go_sem] theorem agL (x:Nat)(y:Nat)(G:(aJ x).length<=10000/\(aJ y).length<=10000/\y<=x):Qa [b4 x,b4 y]=some (.same (b4 (x-y))):=(cu yg (x,y)).trans (cT G _)
theorem aun (T:bb)(gx:T tM=aV Hb)(fZ:T tL=aV Cd)(x:Nat)(y:Nat)(G:(aJ x).length<=10000/\(aJ y).length<=10000/\y<=x):WP T XX (.same (b4 (x-y))) [.I (b4 x),.I (b4 y)]:=by
 refine cv ?_;simp only[XX];obtain⟨O,ar,nZ⟩:=G;have n8:(aJ x).length<=1000000:=by omega
 have lf:(aJ y).length<=1000000:=by omega
 have afg:(aJ y).length<=(aJ x).length:=by rw[hb];exact vB nZ (hb.1 (bX _))
 simp only[go_sem,go_sem_proc,gx,fZ,b4,ai];refine dm [0,1] [] (λ((i,c,g,o):Nat×Nat×Nat×List Int) tm mem=>i<=(aJ x).length/\c<=1/\y/1048576^i+c<=x/1048576^i/\D o=i/\eV o/\bc o+1048576^i*((x/1048576^i-(y/1048576^i+c):Nat):Int)=((x-y:Nat):Int)/\tm 6=.I (.int .i64 c)/\tm 7=.I (.int .i64 i)/\tm 5=.ref 182032 g 1 0 i/\mem 182032=some (g,a8 ad o)) (λ(i,_)=>(aJ x).length-i) (0,0,0,[]) (by refine⟨by omega,by omega,by simpa using nZ,rfl,by simp[eV],by simp[bc],rfl,rfl,rfl,rfl⟩) ?_;intro vs ms aR aN;simp only[go_sem,go_sem_proc,gx,fZ,b4] at aR aN;subst aR aN;rintro⟨i,c,g,o⟩ tm mem M-⟨J,g0,hle,bL,iN,ak,bU,bM,bt,hm⟩;simp only[go_sem,go_sem_proc,gx,fZ,a6] at M;obtain⟨ao,E⟩:=M;have aF:bc o+1048576^i*((x/1048576^i-(y/1048576^i+c):Nat):Int)=((x-y:Nat):Int):=ak;have JV:y/1048576^i+c<=x/1048576^i:=hle
 by_cases Lx:i<(aJ x).length
 ·have d1:decide ((i:Int)<((aJ x).length:Int))=true:=dj;have ay:=Hd x i;have aB:=Hd y i;have cE:=Hc x i;rw[dZ,bu Lx] at cE;have g9:(aJ x)[i]?=some ((x/1048576^i%1048576:Nat):Int):=by rw[bu Lx];exact congrArg some cE
  have ck:=Hc y i;have c1:=qK (x/1048576^i) (show 0<1048576 by omega);have ee:=qK (y/1048576^i) (show 0<1048576 by omega);have gH:(1048576:Int)^(i+1)=1048576^i*1048576:=ns _ _;clear cE hle ak;generalize nw:x/1048576^i=df at *;generalize zZ:y/1048576^i=gk at *;generalize Ab:x/1048576^(i+1)=X' at *;generalize Hf:y/1048576^(i+1)=Y' at *;generalize aM:df%1048576=a at *;generalize ae:gk%1048576=b at *;have w1:IntKind.i64.wrap ((a:Int)-(b:Int))=(a:Int)-(b:Int):=wrap64 _ (by omega) (by omega);have ni:IntKind.i64.wrap ((a:Int)-(b:Int)-(c:Int))=(a:Int)-(b:Int)-(c:Int):=wrap64 _ (by omega) (by omega);have bO:=eZ (i:=i) (by omega);have ue:IntKind.i64.wrap ((a:Int)-(b:Int)-(c:Int)+1048576)=(a:Int)-(b:Int)-(c:Int)+1048576:=wrap64 _ (by omega) (by omega);have dG:=λd:Int=>mI hl tK 182032 g 8 o d (cs:=[.I (.int .i64 d)]) rfl (by omega) (by omega);rw[bL] at dG;rcases kM:decide ((a:Int)-(b:Int)-(c:Int)<0)
  ·have aH:=of_decide_eq_false kM;refine aY ?_;repeat' (intro h<;>simp only[h,go_sem,go_sem_proc,gx,fZ,ao,E,bt,bU,bM,hm,g9,ck,lf,d1,w1,ni,bO,dG,kM,ad,ai,bh]<;>try refine ax ?_ ?_)
   refine⟨(i+1,0,g+1,o++[(a:Int)-(b:Int)-(c:Int)]),by dsimp only;omega,by dsimp only;omega,by dsimp only;omega,by dsimp only;rw[Ab,Hf];omega,by simp[bL],X4 iN (by omega) (by omega),?_,rfl,rfl,rfl,rfl⟩
   dsimp only;rw[Ab,Hf,X5,bL,gH,<-aF];have bG:((df-(gk+c):Nat):Int)=1048576*((X'-(Y'+0):Nat):Int)+((a:Int)-b-c):=by omega
   rw[bG,iA,iB];omega
  ·have aH:=of_decide_eq_true kM;refine aY ?_;repeat' (intro h<;>simp only[h,go_sem,go_sem_proc,gx,fZ,ao,E,bt,bU,bM,hm,g9,ck,lf,d1,w1,ni,bO,ue,dG,kM,ad,ai,bh]<;>try refine ax ?_ ?_)
   refine⟨(i+1,1,g+1,o++[(a:Int)-(b:Int)-(c:Int)+1048576]),by dsimp only;omega,by dsimp only;omega,by dsimp only;omega,by dsimp only;rw[Ab,Hf];omega,by simp[bL],X4 iN (by omega) (by omega),?_,rfl,rfl,rfl,rfl⟩
   dsimp only;rw[Ab,Hf,X5,bL,gH,<-aF];have bG:((df-(gk+c):Nat):Int)=1048576*((X'-(Y'+1):Nat):Int)+((a:Int)-b-c+1048576):=by omega
   have dp:∀p b9 eT:Int,bc o+p*b9+p*1048576*eT=bc o+p*(1048576*eT+b9):=λp b9 eT=>by rw[iA p (1048576*eT) b9,<-iB];omega
   rw[bG];exact dp _ _ _
 ·have d1:decide ((i:Int)<((aJ x).length:Int))=false:=c5;rw[Ce (n:=x) (by omega),Ce (n:=y) (by omega),Nat.zero_sub,lG,tT,wY] at aF;have cI:=Eu o (by omega);rw[He (n:=x-y) iN aF] at cI;have gw:=Ha (aJ (x-y));have kK:=qz (n:=5) hl hm;rw[bL] at kK;refine aY ?_;repeat' (intro h<;>simp only[h,go_sem,go_sem_proc,gx,fZ,ao,E,bt,bU,bM,hm,d1,cI,gw,kK,xb,kQ,ai]<;>try refine ax ?_ ?_)
theorem agM {b:List Int}{k:Nat}(h:k<D b):b.getD k 0=b[k]:=by rw[dZ,bu h];rfl
theorem X7 {b:List Int}{k:Nat}(h:(D b)<=k):b.getD k 0=0:=by rw[dZ,mx h];rfl
def Qb:=cj vz λ(x,y)=>cN ((aJ x).length<=10000/\(aJ y).length<=10000) (.same (b4 (x*y)))
@[go_sem] theorem agN (x:Nat)(y:Nat)(G:(aJ x).length<=10000/\(aJ y).length<=10000):Qb [b4 x,b4 y]=some (.same (b4 (x*y))):=(cu yg (x,y)).trans (cT G _)
theorem auo (T:bb)(gx:T tM=aV Hb)(fZ:T tL=aV Cd)(x:Nat)(y:Nat)(G:(aJ x).length<=10000/\(aJ y).length<=10000):WP T X0 (.same (b4 (x*y))) [.I (b4 x),.I (b4 y)]:=by
 refine cv ?_;simp only[X0];obtain⟨O,ar⟩:=G;have tO:=m5 x;have rC:=m5 y;have wR:=l4 x;have DX:=l4 y;generalize aM:aJ x=a at *;generalize ae:aJ y=b at *;have oT:IntKind.i64.wrap ((D a:Int)+(D b:Int))=((D a+D b:Nat):Int):=by rw[eM _];rfl
 have kt:8*(D a+D b)<=140737488355328:=by omega
 have eR:(D a)+D b<=maxLen:=Gw _ (by omega);have JX:(D b)<=1000000:=by omega
 simp only[go_sem,go_sem_proc,gx,fZ,b4,aM,ae,oT,kt,eR,Gv,ai]
 refine dm [0,1,5] [] (λ((i,o):Nat×List Int) tm mem=>i<=D a/\D o=D a+D b/\eV o/\o.drop (i+D b)=dD (D o-(i+D b)) 0/\bc o=bc (a.take i)*y/\tm 6=.I (.int .i64 (i:Nat))/\mem 186015=some (0,a8 ad o))
  (λ(i,_)=>D a-i) (0,dD (D a+D b) 0) (by
   have aW:∀n,bc (dD n 0)=0:=by
    intro n
    induction n with
    |zero=>rfl
    |succ n aA=>rw[List.replicate_succ,tJ,aA];rfl
   refine⟨fs _,by simp,λd Y=>by rw[Gz] at Y;omega,by simp,by rw[aW];simp[bc],?_,?_⟩<;>rfl) ?_
 intro vs ms aR aN;simp only[go_sem,go_sem_proc,gx,fZ,b4,aM,ae,oT,ai] at aR aN;subst aR aN;rintro⟨i,o⟩ tm mem M-⟨J,bL,iN,sA,jX,bU,hm⟩;simp only[go_sem,go_sem_proc,gx,fZ,a6] at M;obtain⟨ao,E,bt⟩:=M;rcases dv (i<D a) with az|b2
 ·have m6:a[i]?=some a[i]:=bu az;have Br:=lJ tO i az;have rr:=lI a i az;generalize a[i]=hZ at *;have iC:decide ((i:Int)<(D a:Int))=true:=dj;have BO:IntKind.i64.wrap ((i:Int)+1)=((i+1:Nat):Int):=by rw[eM _];rfl
  simp only[go_sem,go_sem_proc,gx,fZ,ao,E,bt,bU,m6,iC,ad,ai,bh,a6]
  refine dm [0,1,5,6] [] (λ((k,c,o):Nat×Int×List Int) tm mem=>k<=D b+1/\(k=D b+1->c=0)/\D o=D a+D b/\eV o/\o.drop (i+max k (D b))=dD (D o-(i+max k (D b))) 0/\0<=c/\c<1048576/\bc o+1048576^(i+k)*c=bc (a.take i)*y+1048576^i*(hZ*bc (b.take k)) /\
    tm 8=.I (.int .i64 (k:Nat))/\tm 7=.I (.int .i64 c)/\mem 186015=some (0,a8 ad o))
   (λ(k,_)=>D b+1-k) (0,0,o) (by refine⟨fs _,by simp,bL,iN,by rw[Nat.zero_max];exact sA,by omega,by omega,by simp[bc,jX],?_,?_,hm⟩<;>rfl) ?_
  intro vs ms aR aN;simp only[go_sem,go_sem_proc,gx,fZ,ao,E,bt,bU,ad,ai] at aR aN;subst aR aN;rintro⟨k,c,o⟩ tm mem M-⟨pg,Cf,bL,iN,sA,oU,g0,jX,cf,bM,hm⟩;simp only[go_sem,go_sem_proc,gx,fZ,a6] at M;obtain⟨ao,E,bt,bU⟩:=M;have fy:IntKind.i64.wrap ((k:Int)+1)=((k+1:Nat):Int):=by rw[eM _];rfl
  have jJ:IntKind.i64.wrap ((i:Int)+(k:Int))=((i+k:Nat):Int):=by rw[eM _];rfl
  by_cases Lx:k<(D b)\/c>0
  ·have KT:k<=D b:=by
    rcases ir (D b) k with h|h
    ·have:=Cf (by omega);omega
    ·exact h
   have pU:i+k<D o:=by omega
   have VQ:=lJ iN (i+k) pU
   have GA:0<=b.getD k 0/\b.getD k 0<1048576:=by
    rcases ir k (D b) with h|h
    ·rw[agM h];exact lJ rC k h
    ·rw[X7 h];omega
   have X8:bc (b.take (k+1))=bc (b.take k)+1048576^k*b.getD k 0:=by
    rcases ir k (D b) with h|h
    ·rw[agM h];exact lI b k h
    ·rw[X7 h,dx (by omega),dx (by omega)];simp
   have wz:k<(D b)\/(k=D b/\o[i+k]=0):=by
    rcases ir k (D b) with h|h
    ·exact .inl h
    ·refine .inr ⟨by omega,afj sA (by omega) pU⟩
   have Ly:=agI b k JX;generalize b.getD k 0=p0 at *;obtain⟨dJ,cU,tQ,qH⟩:=afi VQ Br GA ⟨oU,g0⟩;have ld:IntKind.i64.wrap (hZ*p0)=hZ*p0:=wrap64 _ (by omega) (by omega);have zT:IntKind.i64.wrap (o[i+k]+hZ*p0)=o[i+k]+hZ*p0:=wrap64 _ (by omega) (by omega);have vC:IntKind.i64.wrap (o[i+k]+hZ*p0+c)=o[i+k]+hZ*p0+c:=wrap64 _ (by omega) (by omega);have qI:(o[i+k]+hZ*p0+c).tmod 1048576=(o[i+k]+hZ*p0+c)%1048576:=KV (by omega);have BR:IntKind.i64.wrap ((o[i+k]+hZ*p0+c).tdiv 1048576)=(o[i+k]+hZ*p0+c)/1048576:=by rw[GD (by omega)];exact wrap64 _ (by omega) (by omega)
   have hY:i+k+1<=(a8 ad o).length:=by rw[qE];omega
   have fO:=KR o (i+k) pU;have gL:=λd=>yf o (i+k) d pU;have jm:i+k<D a+D b:=by omega
   have iM:∃bk:Nat×Int×List Int,D b+1-bk.1<D b+1-k/\bk.1<=D b+1/\(bk.1=D b+1->bk.2.1=0)/\bk.2.2.length=D a+D b/\eV bk.2.2/\bk.2.2.drop (i+max bk.1 (D b))=dD (bk.2.2.length-(i+max bk.1 (D b))) 0/\0<=bk.2.1/\bk.2.1<1048576/\bc bk.2.2+1048576^(i+bk.1)*bk.2.1=bc (a.take i)*y+1048576^i*(hZ*bc (b.take bk.1)) /\
     Q.I (Data.int .i64 ((k+1:Nat):Int))=Q.I (Data.int .i64 (bk.1:Nat))/\Q.I (Data.int .i64 ((o[i+k]+hZ*p0+c)/1048576))=Q.I (Data.int .i64 bk.2.1)/\some (0,a8 ad (o.set (i+k) ((o[i+k]+hZ*p0+c)%1048576)))=some (0,a8 ad bk.2.2):=by
    refine⟨(k+1,(o[i+k]+hZ*p0+c)/1048576,o.set (i+k) ((o[i+k]+hZ*p0+c)%1048576)),by dsimp only;omega,by dsimp only;omega,?_,by simp[bL],zR iN _ (by omega),?_,tQ,qH,?_,rfl,rfl,rfl⟩
    ·intro h;dsimp only at h ⊢;rcases wz with H|⟨H,af⟩
     ·omega
     ·have aup:p0=0:=by
       have e:=Ly;rw[agI b k JX,X7 (by omega)] at e
       simpa using e.symm
      rw[af,aup,tT];omega
    ·dsimp only;rcases wz with H|⟨H,af⟩
     ·rw[X9 (by omega)] at sA;rw[X9 (by omega),tx (by omega),List.length_set,sA]
     ·rw[X9 (by omega),<-H] at sA;rw[Nat.max_eq_left (by omega)];exact afk sA pU
    ·dsimp only;rw[VM _ _ _ pU,X8,<-Nat.add_assoc,ns,afh _ _ _ _ _ _ _ jX];rw[iA (hZ),iA (1048576^i),Int.pow_add]
     have:(1048576:Int)^i*(hZ*(1048576^k*p0))=1048576^i*1048576^k*(hZ*p0):=by
      rw[<-iB (hZ),nt (hZ) (1048576^k),iB (1048576^k),<-iB]
     omega
   by_cases aLe:k<D b
   ·have d1:decide ((k:Int)<(D b:Int))=true:=dj;simp only[go_sem,go_sem_proc,gx,fZ,ao,E,bt,bU,bM,cf,hm,m6,Ly,d1,fy,jJ,ld,zT,vC,qI,BR,jm,hY,fO,gL,ad,cD,ai,bh,a6];repeat' (first|refine ax ?_ ?_|fail)<;>intro h<;>simp only[h,go_sem,go_sem_proc,gx,fZ,ao,E,bt,bU,bM,cf,hm,m6,Ly,d1,fy,jJ,ld,zT,vC,qI,BR,jm,hY,fO,gL,ad,cD,ai,bh,a6]
    exact iM
   ·have d1:decide ((k:Int)<(D b:Int))=false:=c5;have d2:decide (c>0)=true:=dj;simp only[go_sem,go_sem_proc,gx,fZ,ao,E,bt,bU,bM,cf,hm,m6,Ly,d1,d2,fy,jJ,ld,zT,vC,qI,BR,jm,hY,fO,gL,ad,cD,ai,bh,a6];repeat' (first|refine ax ?_ ?_|fail)<;>intro h<;>simp only[h,go_sem,go_sem_proc,gx,fZ,ao,E,bt,bU,bM,cf,hm,m6,Ly,d1,d2,fy,jJ,ld,zT,vC,qI,BR,jm,hY,fO,gL,ad,cD,ai,bh,a6]
    exact iM
  ·have d1:decide ((k:Int)<(D b:Int))=false:=c5;have d2:decide (c>0)=false:=c5;have auq:c=0:=by omega
   rw[auq,tT,wY,show b.take k=b from dx (by omega),DX] at jX;simp only[go_sem,go_sem_proc,gx,fZ,ao,E,bt,bU,bM,cf,hm,d1,d2,BO,ai];repeat' (first|refine ax ?_ ?_|fail)<;>intro h<;>simp only[h,go_sem,go_sem_proc,gx,fZ,ao,E,bt,bU,bM,cf,hm,d1,d2,BO,ai]
   refine⟨(i+1,o),by dsimp only;omega,by dsimp only;omega,bL,iN,?_,?_,rfl,rfl⟩
   ·dsimp only;have af:=congrArg (List.drop (i+1+D b-(i+max k (D b)))) sA;rw[List.drop_drop,List.drop_replicate] at af;rw[show i+max k (D b)+(i+1+D b-(i+max k (D b)))=i+1+(D b) by omega] at af
    rw[af]
    congr 1
    omega
   ·dsimp only;rw[jX,rr,Int.add_mul,iB]
 ·obtain rfl:i=D a:=by omega
  have iC:decide ((D a:Int)<(D a:Int))=false:=c5;rw[dx (bX _),wR] at jX;have cI:=Eu o (by omega);rw[He (n:=x*y) iN (by rw[jX];rfl)] at cI;have gw:=Ha (aJ (x*y));have kK:=qz (n:=5) hl hm;rw[bL] at kK;simp only[go_sem,go_sem_proc,gx,fZ,ao,E,bt,bU,hm,iC,cI,gw,kK,xb,kQ,b4,ai];repeat' (first|refine ax ?_ ?_|fail)<;>intro h<;>simp only[h,go_sem,go_sem_proc,gx,fZ,ao,E,bt,bU,hm,iC,cI,gw,kK,xb,kQ,b4,ai]
def eA.Ac:eA->List Nat->eA
 |.seq a _,0::p=>a.Ac p
 |.seq _ b,_::p=>b.Ac p
 |.cond _ a _,0::p=>a.Ac p
 |.cond _ _ b,_::p=>b.Ac p
 |.block _ c,_::p=>c.Ac p
 |.ghost _ c,_::p=>c.Ac p
 |.loop c,_::p=>c.Ac p
 |c,_=>c
theorem agO {n:Nat}(h:0<n)(E:n<1048576):[(n:Int)]=aJ n:=(DF h E).symm
theorem aur {n:Nat}(E:n<1048576):fL [(n:Int)]=aJ n:=He (by intro d Y;have:=tU.1 Y;omega) (by simp[bc])
theorem aus {d:Int}{r:Nat}(ao:0<=d)(E:d<1048576):fL (d::aJ r)=aJ (d.toNat+1048576*r):=He (DB.2 ⟨⟨ao,E⟩,m5 r⟩) (by rw[tJ,l4];omega)
theorem Ya {n m k:Nat}(h:n<m*1048576)(hm:(aJ m).length<=k):(aJ n).length<=k+1:=by
 rw[hb] at *;rw[wJ];exact C7 h (vd _ (PK hm))
theorem agP (T:bb)(pw:T Kw=aV Qb)(px:T OJ=aV P9){K:eY->ba->Prop}{kk:List gD}(y bV:Nat)(ar:(aJ y).length<=1000)(gf:(aJ bV).length<=1001)(jc:0<y)(aut:bV<y*1048576)(v0 v6 Ad:Q)(tm:Nat->Q)(m:Mem)
  (bm:tm 0=v0) (ay:tm 1=.I (.X ((aJ y).map ad))) (bK:tm 6=v6) (bH:tm 7=.I (.X ((aJ bV).map ad))) (eb:tm 8=Ad) (dr:tm 9=.I (.int .i64 0)) (c8:tm 10=.I (.int .i64 1048576))
  (dN:∀tm',tm' 0=v0->tm' 1=.I (.X ((aJ y).map ad))->tm' 6=v6->tm' 7=.I (.X ((aJ bV).map ad))->tm' 8=Ad->tm' 9=.I (.int .i64 ((bV/y:Nat):Int))->cB T K kk (.exit 2) ⟨tm',m⟩) :
  wp T (Lw.body.Ac [1,1,1,0,1,0,0,1,0,0,1,1,1,0,0]) (cB T K kk) ⟨tm,m⟩:=by
 simp only[Lw,eA.Ac];refine dm [0,1,6,7,8] [] (λ((cx,J):Nat×Nat) tm' m'=>cx<J/\J<=1048576/\cx*y<=bV/\bV<J*y/\tm' 9=.I (.int .i64 cx)/\tm' 10=.I (.int .i64 J)/\m'=m) (λ(cx,J)=>J-cx) (0,1048576) (by refine⟨by omega,by omega,by omega,by rw[rz];exact aut,dr,c8,rfl⟩) ?_;intro vs ms aR aN;simp only[go_sem,go_sem_proc,bm,ay,bK,bH,eb] at aR aN;subst aR aN;clear bm ay bK bH eb dr c8;rintro⟨cx,J⟩ tm m' M hm ⟨aLf,aT,fV,jn,jt,gu,rfl⟩;simp only[go_sem,go_sem_proc,a6] at M hm;obtain⟨ao,E,bU,bM,cf⟩:=M;have w1:IntKind.i64.wrap ((J:Int)-(cx:Int))=(J:Int)-(cx:Int):=wrap64 _ (by omega) (by omega)
 by_cases Lx:J-cx>1
 ·have d1:decide ((J:Int)-(cx:Int)>1)=true:=dj;have ni:IntKind.i64.wrap ((cx:Int)+(J:Int))=((cx+J:Nat):Int):=by rw[eM _];omega
  have bO:IntKind.i64.wrap (((cx+J:Nat):Int).tdiv 2)=(((cx+J)/2:Nat):Int):=by rw[GD (by omega),wrap64 _ (by omega) (by omega)];omega
  obtain⟨xc,auu⟩:∃xc:Nat,xc=(cx+J)/2:=⟨_,rfl⟩;rw[<-auu] at bO;have cI:=agN y xc ⟨by omega,by rw[<-agO (n:=xc) (by omega) (by omega)];simp⟩
  simp only[b4] at cI;rw[<-agO (n:=xc) (by omega) (by omega)] at cI;simp only[eC,cS,ad] at cI;have mz:(aJ (y*xc)).length<=1001:=Ya (agQ (show xc<1048576 by omega) jc) ar;have gw:=auj bV (y*xc) ⟨by omega,by omega⟩
  simp only[b4] at gw;rcases Y:decide (bV<y*xc)
  ·have aH:=of_decide_eq_false Y;rw[Y] at gw;refine aY ?_;repeat' (intro h<;>simp only[h,go_sem,go_sem_proc,pw,px,ao,E,bU,bM,cf,jt,gu,w1,ni,bO,d1,cI,gw]<;>try refine ax ?_ ?_)
   exact⟨(xc,J),by dsimp only;omega,by dsimp only;omega,aT,by dsimp only;rw[rz];omega,jn,rfl,rfl⟩
  ·have aH:=of_decide_eq_true Y;rw[Y] at gw;refine aY ?_;repeat' (intro h<;>simp only[h,go_sem,go_sem_proc,pw,px,ao,E,bU,bM,cf,jt,gu,w1,ni,bO,d1,cI,gw]<;>try refine ax ?_ ?_)
   exact⟨(cx,xc),by dsimp only;omega,by dsimp only;omega,by dsimp only;omega,fV,by dsimp only;rw[rz];omega,rfl,rfl⟩
 ·have d1:decide ((J:Int)-(cx:Int)>1)=false:=c5
  have aO:bV/y=cx:=by
   have E:J=cx+1:=by omega
   subst E;exact Nat.div_eq_of_lt_le fV jn
  refine aY ?_;repeat' (intro h<;>simp only[h,go_sem,go_sem_proc,ao,E,bU,bM,cf,jt,gu,w1,d1]<;>try refine ax ?_ ?_)
  refine dN _ ?_ ?_ ?_ ?_ ?_ ?_<;>simp only[e7,dW,if_false,ao,E,bU,bM,cf,jt,aO]
def Qc:=cj vz λ(x,y)=>cN ((aJ x).length<=1000/\(aJ y).length<=1000/\0<y) (.same (.cH [b4 (x/y),b4 (x%y)]))
@[go_sem] theorem agR (x:Nat)(y:Nat)(G:(aJ x).length<=1000/\(aJ y).length<=1000/\0<y):Qc [b4 x,b4 y]=some (.same (.cH [b4 (x/y),b4 (x%y)])):=(cu yg (x,y)).trans (cT G _)
theorem auv (T:bb)(fZ:T tL=aV Cd)(pw:T Kw=aV Qb)(px:T OJ=aV P9)(ln:T Kv=aV Qa)(x:Nat)(y:Nat)(G:(aJ x).length<=1000/\(aJ y).length<=1000/\0<y):WP T Lw (.same (.cH [b4 (x/y),b4 (x%y)])) [.I (b4 x),.I (b4 y)]:=by
 refine cv ?_;simp only[Lw];obtain⟨O,ar,jc⟩:=G;have tO:=m5 x;have wR:=l4 x;generalize aM:aJ x=a at *;have kt:8*D a<=140737488355328:=by omega
 have eR:(D a)<=maxLen:=Gw _ (by omega);have BU:IntKind.i64.wrap ((D a:Int)-1)=(D a:Int)-1:=wrap64 _ (by omega) (by omega);simp only[go_sem,go_sem_proc,fZ,pw,px,ln,b4,aM,kt,eR,Gv,BU,ai]
 refine dm [0,1,6] [] (λ((n,r,yB,o):Nat×Nat×Q×List Int) tm mem=>n<=D a/\D o=D a/\eV o/\r<y/\bc (a.drop n)=y*bc (o.drop n)+r/\(yB=.nil/\r=0\/yB=.I (b4 r))/\tm 8=.I (.int .i64 ((n:Nat)-1))/\tm 7=yB/\mem 180014=some (0,a8 ad o))
  (λ(n,_)=>n) (D a,0,.nil,dD (D a) 0) (by
   refine⟨bX _,by simp,λd Y=>by rw[Gz] at Y;omega,jc,by simp[bc],.inl ⟨rfl,rfl⟩,rfl,rfl,rfl⟩) ?_
 intro vs ms aR aN;simp only[go_sem,go_sem_proc,fZ,pw,px,ln,b4,aM,ai] at aR aN;subst aR aN;rintro⟨n,r,yB,o⟩ tm mem M-⟨aH,bL,iN,BJ,ak,xd,cf,bM,hm⟩;simp only[go_sem,go_sem_proc,fZ,pw,px,ln,a6] at M;obtain⟨ao,E,bU⟩:=M;rcases n with _|n
 ·have aO:bc o=((x/y:Nat):Int)/\r=x%y:=by
   rw[l2,l2,wR] at ak;have ay:(x:Int)/(y:Int)=bc o:=by rw[ak,yi,Int.add_mul_ediv_left _ _ (by omega),Int.ediv_eq_zero_of_lt (by omega) (by omega)];omega
   have aB:(x:Int)%(y:Int)=r:=by rw[ak,yi,Int.add_mul_emod_self_left,Int.emod_eq_of_lt (by omega) (by omega)]
   refine⟨by rw[<-ay];rfl,by omega⟩
  have cI:=Eu o (by omega);rw[He (n:=x/y) iN aO.1] at cI;have gw:=Ha (aJ (x/y));have kK:=qz (n:=5) hl hm;rw[bL] at kK;rcases xd with ⟨rfl,pV⟩|rfl
  ·have aW:aJ (x%y)=[]:=by rw[<-aO.2,pV];rfl
   simp only[go_sem,go_sem_proc,fZ,pw,px,ln,ao,E,bU,bM,cf,hm,cI,gw,kK,aW,xb,kQ,b4,lG,l6,show ¬ ((0:Int)-1>=0) by omega,decide_false,ai,cS]
   repeat' (first|refine ax ?_ ?_|fail)<;>intro h<;>simp only[h,go_sem,go_sem_proc,fZ,pw,px,ln,ao,E,bU,bM,cf,hm,cI,gw,kK,aW,xb,kQ,b4,lG,l6,show ¬ ((0:Int)-1>=0) by omega,decide_false,ai,cS]
  ·simp only[go_sem,go_sem_proc,fZ,pw,px,ln,ao,E,bU,bM,cf,hm,cI,gw,kK,xb,kQ,b4,lG,l6,show ¬ ((0:Int)-1>=0) by omega,decide_false,ai,cS,aO.2]
   repeat' (first|refine ax ?_ ?_|fail)<;>intro h<;>simp only[h,go_sem,go_sem_proc,fZ,pw,px,ln,ao,E,bU,bM,cf,hm,cI,gw,kK,xb,kQ,b4,lG,l6,show ¬ ((0:Int)-1>=0) by omega,decide_false,ai,cS,aO.2]
 ·have m6:a[n]?=some a[n]:=bu (by omega);have O7:=lJ tO n (by omega);have VI:a.drop n=a[n]::a.drop (n+1):=iu (by omega);have gq:n<D o:=by omega
  have VK:∀e:Int,(o.set n e).drop n=e::o.drop (n+1):=λe=>by
   rw[iu (by simpa using gq),List.getElem_set_self,tx (by omega)]
  generalize a[n]=d at *;have hw:((n+1:Nat):Int)-1=(n:Int):=by omega
  have b2:decide ((n:Int)>=0)=true:=dj;have ld:IntKind.i64.wrap ((n:Int)-1)=(n:Int)-1:=wrap64 _ (by omega) (by omega);have bZ:(aJ r).length<=1000:=by rw[hb] at *;omega
  obtain⟨bV,gf⟩:∃bV:Nat,bV=d.toNat+1048576*r:=⟨_,rfl⟩
  have Qd:bV<y*1048576:=by
   have:(r+1)*1048576<=y*1048576:=vd _ BJ;omega
  have Yb:=Ya Qd ar;have Hg:=aus (d:=d) (r:=r) O7.1 O7.2;rw[<-gf] at Hg;have cI:=Eu (d::aJ r) (by rw[h8];omega);rw[Hg] at cI;simp only[eC,ad] at cI;have gw:=Ha (aJ bV)
  have zj:∀bN:Nat,mw 180026 bN 1 1 8 (aJ r).length (((aJ r).map ad).flatten.map .I) (some (bN,[.I (.int .i64 d)]))=some (.ref 180026 (bN+1) 1 0 (1+(aJ r).length),some (180026,bN+1,a8 ad (d::aJ r))):=λbN=>by
   have:=Dy hl tK 180026 bN 8 [d] (aJ r) (by rw[Cg];omega) (by rw[Cg];omega);exact this
  have auw:∀(bN:Nat) (m:Mem),m 180026=some (bN,a8 ad (d::aJ r))->cy 6 m (.ref 180026 bN 1 0 (1+(aJ r).length))=some (.X ((d::aJ r).map ad)):=λbN m hm=>by
   have:=qz (n:=5) hl hm;rw[h8,Nat.add_comm (aJ r).length 1] at this;exact this
  have ts:(((aJ r).map ad).all λe=>D e==1)=true:=KP _;have Yc:=auw (gE (mem 180026)+1) (a1 (a1 mem 180026 (gE (mem 180026)) [Q.I (.int .i64 d)]) 180026 (gE (mem 180026)+1) (a8 ad (d::aJ r))) (by simp[a1]);have pP:n<D a:=by omega
  obtain⟨cx,fV⟩:∃cx:Nat,cx=bV/y:=⟨_,rfl⟩;have Yd:cx<1048576:=by rw[fV];exact Nat.div_lt_of_lt_mul Qd
  have z2:=PH bV y;have mz:=qK bV jc;rw[<-fV] at z2;have Tp:bV-y*cx=bV%y:=by omega
  have aLg:(aJ (y*cx)).length<=1001:=Ya (agQ Yd jc) ar
  have Qe:Cd [.X [[.int .i64 ((bV/y:Nat):Int)]]]=some (.own 1 ((aJ cx).map ad)):=by
   have h:=Eu [((bV/y:Nat):Int)] (by simp);rw[<-fV,aur Yd] at h;rw[<-fV];exact h
  have Lz:=agN y cx ⟨by omega,by have:(aJ cx).length<=1:=hb.2 (by rw[Nat.pow_one];exact Yd);omega⟩
  simp only[b4] at Lz;have Hh:=agL bV (y*cx) ⟨by omega,by omega,by omega⟩
  rw[Tp] at Hh;simp only[b4] at Hh;have hY:n+1<=(a8 ad o).length:=by rw[qE];omega
  have gL:=yf o n ((bV/y:Nat):Int) gq
  have iM:∃bk:Nat×Nat×Q×List Int,bk.1<n+1/\bk.1<=D a/\bk.2.2.2.length=D a/\eV bk.2.2.2/\bk.2.1<y/\bc (a.drop bk.1)=y*bc (bk.2.2.2.drop bk.1)+bk.2.1/\(bk.2.2.1=.nil/\bk.2.1=0\/bk.2.2.1=.I (.X ((aJ bk.2.1).map ad)))/\Q.I (Data.int .i64 ((n:Int)-1))=Q.I (Data.int .i64 ((bk.1:Int)-1))/\Q.I (Data.X ((aJ (bV%y)).map ad))=bk.2.2.1/\some (0,a8 ad (o.set n ((bV/y:Nat):Int)))=some (0,a8 ad bk.2.2.2):=by
   refine⟨(n,bV%y,.I (b4 (bV%y)),o.set n ((bV/y:Nat):Int)),by dsimp only;omega,by dsimp only;omega,by simp[bL],zR iN n (by omega),mz,?_,.inr rfl,rfl,rfl,rfl⟩
   dsimp only;rw[VI,tJ,ak,VK,tJ,<-fV];have ay:(bV:Int)=d+1048576*r:=by omega
   have aB:(y:Int)*cx+(bV%y:Nat)=bV:=by exact_mod_cast z2
   have bG:∀v:Int,(y:Int)*(cx+1048576*v)=y*cx+1048576*(y*v):=λv=>by rw[iA,Int.mul_left_comm]
   rw[bG];omega
  have main:yB=.nil/\r=0\/yB=.I (b4 r):=xd;rcases main with ⟨rfl,pV⟩|rfl
  ·subst pV;have agS:=zj;simp only[sv,cS,agG,k9] at agS;simp only[sv,k9] at Yc;simp only[sv,cS] at cI;simp only[go_sem,go_sem_proc,fZ,pw,px,ln,ao,E,bU,bM,cf,hm,m6,hw,b2,agS,cI,gw,Yc,xb,kQ,ad,sv,ai,bh,cS];refine agP T pw px y bV ar Yb jc Qd (.I (.X (a.map ad))) (.ref 180014 0 1 0 (D a)) (.I (.int .i64 n)) _ _ ?_ ?_ ?_ ?_ ?_ ?_ ?_ ?_
   ·exact ao
   ·exact E
   ·exact bU
   ·rfl
   ·simp only[e7,dW,if_false,cf,hw]
   ·rfl
   ·rfl
   intro tm' fP b6 iF h2 h1 m9;simp only[go_sem,go_sem_proc,fZ,pw,px,ln,fP,b6,iF,h2,h1,m9,hm,pP,hY,gL,Qe,Lz,Hh,ld,cD];repeat' (first|refine ax ?_ ?_|fail)<;>intro h<;>simp only[h,go_sem,go_sem_proc,fZ,pw,px,ln,fP,b6,iF,h2,h1,m9,hm,pP,hY,gL,Qe,Lz,Hh,ld,cD]
   exact iM
  ·simp only[go_sem,go_sem_proc,fZ,pw,px,ln,ao,E,bU,bM,cf,hm,m6,hw,b2,zj,ts,cI,gw,Yc,xb,kQ,b4,ad,ai,bh];refine agP T pw px y bV ar Yb jc Qd (.I (.X (a.map ad))) (.ref 180014 0 1 0 (D a)) (.I (.int .i64 n)) _ _ ?_ ?_ ?_ ?_ ?_ ?_ ?_ ?_
   ·exact ao
   ·exact E
   ·exact bU
   ·rfl
   ·simp only[e7,dW,if_false,cf,hw]
   ·rfl
   ·rfl
   intro tm' fP b6 iF h2 h1 m9;simp only[go_sem,go_sem_proc,fZ,pw,px,ln,fP,b6,iF,h2,h1,m9,hm,pP,hY,gL,Qe,Lz,Hh,ld,cD];repeat' (first|refine ax ?_ ?_|fail)<;>intro h<;>simp only[h,go_sem,go_sem_proc,fZ,pw,px,ln,fP,b6,iF,h2,h1,m9,hm,pP,hY,gL,Qe,Lz,Hh,ld,cD]
   exact iM
def Hi:=cj O2 λ(s,l)=>cN (D l<=1000000) (.same (.agg (da (ku s l))))
@[go_sem] theorem aLh (s:Int)(l:List Int)(G:(D l)<=1000000):Hi [.int .i64 s,.X (l.map ad)]=some (.same (.agg (da (ku s l)))):=(cu ae7 (s,l)).trans (cT G _)
theorem auy (T:bb)(fZ:T tL=aV Cd)(s:Int)(l:List Int)(G:(D l)<=1000000):WP T XV (.same (.agg (da (ku s l)))) [.I (.int .i64 s),.I (.X (l.map ad))]:=by
 refine cv ?_;simp only[XV];have cI:=Eu l G;have gw:=Ha (fL l);refine aY ?_;repeat' (intro h<;>simp only[h,go_sem,go_sem_proc,fZ,cI,gw,ai]<;>try refine ax ?_ ?_)
 all_goals simp only[ku,da,cS, *,reduceIte,Bool.not_true,Bool.not_false,Bool.or_true,Bool.true_or,Bool.or_false,Bool.false_or,Bool.and_true,g1,iZ,fB,k0,beq_self_eq_true,bne]
def Hj:=cj BF λ(s,l)=>cN (D l<=1000000) (.same (.bool (dB (s,l))))
@[go_sem] theorem aLi (s:Int)(l:List Int)(G:(D l)<=1000000):Hj [.agg [.int .i64 s,.X (l.map ad)]]=some (.same (.bool (dB (s,l)))):=(cu Gu (s,l)).trans (cT G _)
theorem auz (T:bb)  (s:Int) (l:List Int) (G:(D l)<=1000000):WP T XR (.same (.bool (dB (s,l)))) [.I (.agg [.int .i64 s,.X (l.map ad)])]:=by
 refine cv ?_;simp only[XR];simp only[go_sem,go_sem_proc,ai];refine dm [1] [162001] (λ(i:Nat) tm mem=>i<=D l/\l.all n3=(l.drop i).all n3/\tm 3=.I (.int .i64 i)) (λi=>D l-i) 0 (by refine⟨by omega,by simp,rfl⟩) ?_;intro vs ms aR aN;simp only[go_sem,go_sem_proc,ai] at aR aN;subst aR aN;rintro i tm mem M hm ⟨J,aK,af⟩;simp only[go_sem,go_sem_proc,a6] at M hm;have E:=M;rcases dv (i<D l) with az|b2
 ·have Y:l.drop i=l[i]::l.drop (i+1):=iu az;have O:l[i]?=some l[i]:=bu az;generalize l[i]=x at *;have d1:decide ((i:Int)<(D l:Int))=true:=dj
  have iM:∀b,n3 x=true->b=(l.drop (i+1)).all n3->l.all n3=b:=by
   intro b E H;rw[aK,Y,Gb,E,H,g1]
  have KQ:¬ n3 x=true->dB (s,l)=false:=by
   intro E;rw[Bool.not_eq_true] at E;unfold dB;rw[aK,Y,Gb,E]
   rfl
  have bO:=eZ (i:=i) (by omega);simp only[go_sem,go_sem_proc,E,af,hm,O,d1,bO,ad,ai,bh,a6];repeat' (first|refine ax ?_ ?_|fail)<;>intro h<;>simp only[h,go_sem,go_sem_proc,E,af,hm,O,d1,bO,ad,ai,bh,a6]
  ·rw[KQ λh=>by have:=(K3 x).1 h;(simp only[cm,Data.bool.injEq,Data.int.injEq,true_and,decide_eq_true_eq,decide_eq_false_iff_not,k0,beq_iff_eq,beq_eq_false_iff_ne,ne_eq] at*<;> omega)]
  ·exact⟨i+1,by omega,by omega,iM _ ((K3 x).2 (by (simp only[cm,Data.bool.injEq,Data.int.injEq,true_and,decide_eq_true_eq,decide_eq_false_iff_not,k0,beq_iff_eq,beq_eq_false_iff_ne,ne_eq] at*<;> omega))) rfl,rfl⟩
  ·rw[KQ λh=>by have:=(K3 x).1 h;(simp only[cm,Data.bool.injEq,Data.int.injEq,true_and,decide_eq_true_eq,decide_eq_false_iff_not,k0,beq_iff_eq,beq_eq_false_iff_ne,ne_eq] at*<;> omega)]
 ·have he:l.drop i=[]:=List.drop_eq_nil_of_le (by omega);rw[he] at aK;have fh:l.all n3=true:=by rw[aK];rfl
  have d1:decide ((i:Int)<(D l:Int))=false:=c5;rcases List.eq_nil_or_concat l with rfl|⟨r,x,rfl⟩
  ·have d2:decide ((i:Int)<0)=false:=d1;simp only[go_sem,go_sem_proc,E,af,hm,d2,k9,lG,l6,beq_self_eq_true,cS,bne];repeat' (first|refine ax ?_ ?_|fail)<;>intro h<;>simp only[h,go_sem,go_sem_proc,E,af,hm,d2,k9,lG,l6,beq_self_eq_true,cS,bne]
   all_goals (refine congrArg (λb=>some (Data.bool b)) ?_;unfold dB;simp;try simp only[decide_eq_true_eq,decide_eq_false_iff_not,beq_iff_eq,beq_eq_false_iff_ne,uf,agT,beq_eq_false_iff_ne,ne_eq] at *;omega)
  ·rw[List.concat_eq_append] at *;have bI:(((r++[x]).length:Int)==0)=false:=by simp;omega
   have hw:IntKind.i64.wrap (((r++[x]).length:Int)-1)=(D r:Int):=by
    have cw:(r++[x]).length=D r+1:=by simp
    rw[eM _];omega
   have a9:((r++[x]).map ad)[D r]?=some [.int .i64 x]:=by simp[ad]
   have aa:dB (s,r++[x])=((s==1||s == -1)&&decide (((r++[x]).length:Int)<=60)&&(x != 0)):=by
    unfold dB;rw[fh];simp only[List.getLast?_append,List.getLast?_singleton];simp;have ay:decide (D r<=59)=decide ((D r:Int)+1<=60):=decide_eq_decide.2 (by omega);have aB:(some x != some (0:Int))=(x != 0):=by simp[bne]
    rw[ay,aB]
   rw[aa];simp only[go_sem,go_sem_proc,E,af,hm,d1,bI,hw,a9,ai];repeat' (first|refine ax ?_ ?_|fail)<;>intro h<;>simp only[h,go_sem,go_sem_proc,E,af,hm,d1,bI,hw,a9,ai]
   all_goals (refine congrArg (λb=>some (Data.bool b)) ?_;clear aK fh aa a9 hw M hm E af d1;rw[B7];simp only[e9,Bool.or_eq_true,decide_eq_true_eq,decide_eq_false_iff_not,beq_iff_eq,beq_eq_false_iff_ne,uf,agT,ne_eq,k0,false_iff,true_iff] at *;omega)
def Ye:=cj BF λ(s,l)=>cN (D l<=1000000) (.same (.agg (da (j7 (s,l)))))
@[go_sem] theorem aLj (s:Int)(l:List Int)(G:(D l)<=1000000):Ye [.agg [.int .i64 s,.X (l.map ad)]]=some (.same (.agg (da (j7 (s,l))))):=(cu Gu (s,l)).trans (cT G _)
theorem auA (T:bb)(kd:T vq=aV Hj)(g3:T vr=aV Hi)(s:Int)(l:List Int)(G:(D l)<=1000000):WP T XS (.same (.agg (da (j7 (s,l))))) [.I (.agg [.int .i64 s,.X (l.map ad)])]:=by
 refine cv ?_;simp only[XS]
 by_cases aa:dB (s,l)=true
 ·obtain⟨z,aW,e⟩:=(j5 _).1 aa;have ay:j7 (s,l)=bQ (-z):=by unfold j7;rw[ab aa,e,fT]
  cases e
  have hw:IntKind.i64.wrap (0-z.sign) = -z.sign:=by
   have:=Int.sign_trichotomy z;rw[eM _];omega
  rw[ay];refine aY ?_;repeat' (intro h<;>simp only[h,go_sem,go_sem_proc,kd,g3,aa,G,hw,afX,da]<;>try refine ax ?_ ?_)
 ·have aa:dB (s,l)=false:=by simpa using aa
  have ay:j7 (s,l)=(0,[]):=by unfold j7;rw[aa];rfl
  rw[ay];refine aY ?_;repeat' (intro h<;>simp only[h,go_sem,go_sem_proc,kd,g3,aa,G,da,cS]<;>try refine ax ?_ ?_)
theorem agU (n:Int):(n.tmod 1048576).natAbs=n.natAbs%1048576:=by rw[Int.natAbs_tmod];rfl
theorem agV (n:Int):(n.tdiv 1048576).natAbs=n.natAbs/1048576:=by rw[Int.natAbs_tdiv];rfl
def Yf:=cj wP λ(n:Int)=>cN (dA n) (.same (.agg (da (bQ n))))
@[go_sem] theorem aLk (n:Int)(G:dA n):Yf [.int .i64 n]=some (.same (.agg (da (bQ n)))):=(cu zL n).trans (cT G _)
theorem auB (T:bb)(g3:T vr=aV Hi)(n:Int)(G:dA n):WP T XQ (.same (.agg (da (bQ n)))) [.I (.int .i64 n)]:=by
 refine cv ?_;simp only[XQ];have lZ:=G;unfold dA at lZ;obtain⟨qo,xX⟩:=lZ;have hlen:(aJ n.natAbs).length<=60:=hb.2 (yr G);rcases dv (n=0) with rfl|jF
 ·simp only[go_sem,go_sem_proc,g3,da,beq_self_eq_true];repeat' (first|refine ax ?_ ?_|fail)<;>intro h<;>simp only[h,go_sem,go_sem_proc,g3,da,beq_self_eq_true]
  rfl
 have bI:(n==0)=false:=by simpa using jF
 have U:∀s:Int,s=n.sign->ku s (aJ n.natAbs)=bQ n:=λs h=>pX rfl λ_=>h;have vJ:(aJ n.natAbs).length<=1000000:=by omega
 rcases dv (n<0) with kM|ib
 ·have rK:=U (-1) (rF kM).symm;simp only[go_sem,go_sem_proc,g3,bI,kM,decide_true];refine dm [2,3] [144002] (λ((u,g,l):Int×Nat×List Int) tm mem=>u<=0/\n<=u/\aJ n.natAbs=l++aJ u.natAbs/\tm 0=.I (.int .i64 u)/\tm 4=.ref 144022 g 1 0 (D l)/\mem 144022=some (g,a8 ad l)) (λ(u,_)=>u.natAbs) (n,0,[]) (by refine⟨by omega,by omega,rfl,rfl,rfl,rfl⟩) ?_;intro vs ms aR aN;simp only[go_sem,go_sem_proc,g3,kM,decide_true] at aR aN;subst aR aN;rintro⟨u,g,l⟩ tm mem M hm ⟨hu,auC,Y,ao,aP,xe⟩;simp only[go_sem,go_sem_proc,g3,a6] at M hm;obtain⟨H,af⟩:=M;rcases dv (u=0) with rfl|Ee
  ·rw[show (0:Int).natAbs=0 from rfl,sv,fG] at Y;rw[Y] at rK vJ;simp only[go_sem,go_sem_proc,g3,ao,H,af,aP,hm,xe,rK,vJ,mJ hl,lK,da,ai,beq_self_eq_true];repeat' (first|refine ax ?_ ?_|fail)<;>intro h<;>simp only[h,go_sem,go_sem_proc,g3,ao,H,af,aP,hm,xe,rK,vJ,mJ hl,lK,da,ai,beq_self_eq_true]
  ·have zW:(D l)<=60:=by
    have:=congrArg D Y;rw[fQ] at this;omega
   have ym:(u==0)=false:=by simpa using Ee
   have dG:=λd:Int=>mI hl tK 144022 g 8 l d (cs:=[.I (.int .i64 d)]) rfl (by omega) (by omega);have ay:=agU u;have aB:=agV u;have bG:u.tmod 1048576<=0:=by have:=agW (a:=-u) 1048576 (by omega);rw[Int.neg_tmod] at this;omega
   have dp:u.tdiv 1048576<=0/\u<=u.tdiv 1048576:=by
    have:=agX (a:=-u) (b:=1048576) (by omega) (by omega);rw[Int.neg_tdiv] at this;omega
   have oT:IntKind.i64.wrap (u.tdiv 1048576)=u.tdiv 1048576:=wrap64 _ (by omega) (by omega);have fy:IntKind.i64.wrap (0-u.tmod 1048576) = -(u.tmod 1048576):=by rw[eM _];omega
   have vE:=vk (n:=u.natAbs) (by omega)
   have iM:∀d:Int,d=((u.natAbs%1048576:Nat):Int)->∃bk:Int×Nat×List Int,bk.1.natAbs<u.natAbs/\bk.1<=0/\n<=bk.1/\aJ n.natAbs=bk.2.2++aJ bk.1.natAbs/\Q.I (.int .i64 (u.tdiv 1048576))=Q.I (.int .i64 bk.1)/\Q.ref 144022 (g+1) 1 0 (D l+1)=Q.ref 144022 bk.2.1 1 0 bk.2.2.length/\some (g+1,a8 ad (l++[d]))=some (bk.2.1,a8 ad bk.2.2):=by
    intro d Ba;refine⟨(u.tdiv 1048576,g+1,l++[d]),by dsimp only;omega,by dsimp only;omega,by dsimp only;omega,?_,rfl,by simp,rfl⟩
    dsimp only;rw[Y,vE,Ba,aB,gM]
    rfl
   by_cases aW:u.tmod 1048576<0
   ·simp only[go_sem,go_sem_proc,g3,ao,H,af,aP,hm,xe,ym,dG,oT,fy,aW,decide_true,ai,a6];repeat' (first|refine ax ?_ ?_|fail)<;>intro h<;>simp only[h,go_sem,go_sem_proc,g3,ao,H,af,aP,hm,xe,ym,dG,oT,fy,aW,decide_true,ai,a6]
    exact iM _ (by omega)
   ·simp only[go_sem,go_sem_proc,g3,ao,H,af,aP,hm,xe,ym,dG,oT,fy,aW,decide_false,ai,a6];repeat' (first|refine ax ?_ ?_|fail)<;>intro h<;>simp only[h,go_sem,go_sem_proc,g3,ao,H,af,aP,hm,xe,ym,dG,oT,fy,aW,decide_false,ai,a6]
    exact iM _ (by omega)
 ·have rK:=U 1 (j6 (by omega)).symm;simp only[go_sem,go_sem_proc,g3,bI,ib,decide_false];refine dm [2,3] [144002] (λ((u,g,l):Int×Nat×List Int) tm mem=>0<=u/\u<=n/\aJ n.natAbs=l++aJ u.natAbs/\tm 0=.I (.int .i64 u)/\tm 4=.ref 144022 g 1 0 (D l)/\mem 144022=some (g,a8 ad l)) (λ(u,_)=>u.natAbs) (n,0,[]) (by refine⟨by omega,by omega,rfl,rfl,rfl,rfl⟩) ?_;intro vs ms aR aN;simp only[go_sem,go_sem_proc,g3,ib,decide_false] at aR aN;subst aR aN;rintro⟨u,g,l⟩ tm mem M hm ⟨hu,auC,Y,ao,aP,xe⟩;simp only[go_sem,go_sem_proc,g3,a6] at M hm;obtain⟨H,af⟩:=M;rcases dv (u=0) with rfl|Ee
  ·rw[show (0:Int).natAbs=0 from rfl,sv,fG] at Y;rw[Y] at rK vJ;simp only[go_sem,go_sem_proc,g3,ao,H,af,aP,hm,xe,rK,vJ,mJ hl,lK,da,ai,beq_self_eq_true];repeat' (first|refine ax ?_ ?_|fail)<;>intro h<;>simp only[h,go_sem,go_sem_proc,g3,ao,H,af,aP,hm,xe,rK,vJ,mJ hl,lK,da,ai,beq_self_eq_true]
  ·have zW:(D l)<=60:=by
    have:=congrArg D Y;rw[fQ] at this;omega
   have ym:(u==0)=false:=by simpa using Ee
   have dG:=λd:Int=>mI hl tK 144022 g 8 l d (cs:=[.I (.int .i64 d)]) rfl (by omega) (by omega);have ay:=agU u;have aB:=agV u;have bG:=agW (a:=u) 1048576 (by omega);have dp:=agX (a:=u) (b:=1048576) (by omega) (by omega);have oT:IntKind.i64.wrap (u.tdiv 1048576)=u.tdiv 1048576:=wrap64 _ (by omega) (by omega);have vE:=vk (n:=u.natAbs) (by omega);have aW:decide (u.tmod 1048576<0)=false:=c5;simp only[go_sem,go_sem_proc,g3,ao,H,af,aP,hm,xe,ym,dG,oT,aW,ai,a6];repeat' (first|refine ax ?_ ?_|fail)<;>intro h<;>simp only[h,go_sem,go_sem_proc,g3,ao,H,af,aP,hm,xe,ym,dG,oT,aW,ai,a6]
   refine⟨(u.tdiv 1048576,g+1,l++[u.tmod 1048576]),by dsimp only;omega,by dsimp only;omega,by dsimp only;omega,?_,rfl,by simp,by first|rfl|simp[go_sem]⟩
   dsimp only;rw[Y,vE,aB,gM,show u.tmod 1048576=((u.natAbs%1048576:Nat):Int) by omega]
   rfl
def Yg:=cj w2 λ(s,l,s2,al)=>cN (D l<=1000000/\D al<=1000000) (.same (fU (l8 (s,l) (s2,al))))
@[go_sem] theorem aLl (s:Int)(l:List Int)(s2:Int)(al:List Int)(G:(D l)<=1000000/\D al<=1000000):Yg [.agg [.int .i64 s,.X (l.map ad)],.agg [.int .i64 s2,.X (al.map ad)]]=some (.same (fU (l8 (s,l) (s2,al)))):=(cu zY (s,l,s2,al)).trans (cT G _)
theorem auD (T:bb)(kd:T vq=aV Hj)(oc:T Ku=aV Qc)(g3:T vr=aV Hi)(s:Int)(l:List Int)(s2:Int)(al:List Int)(G:(D l)<=1000000/\D al<=1000000):WP T XT (.same (fU (l8 (s,l) (s2,al)))) [.I (.agg [.int .i64 s,.X (l.map ad)]),.I (.agg [.int .i64 s2,.X (al.map ad)])]:=by
 refine cv ?_;simp only[XT];obtain⟨b5,cw⟩:=G
 by_cases aa:dB (s,l)=true
 ·by_cases bC:dB (s2,al)=true
  ·obtain⟨x,O,e⟩:=(j5 _).1 aa;obtain⟨y,ar,aB⟩:=(j5 _).1 bC
   have hm:l8 (s,l) (s2,al)=(bQ (jx x.natAbs y.natAbs:Nat),0):=by
    rw[e,aB];unfold l8
    rw[lj O,lj ar,fT,fT]
    rfl
   rw[hm];clear hm
   cases e
   cases aB;have n8:=rG O;have lf:=rG ar;have a9:=K8 O ar;generalize nw:x.natAbs=df at *;generalize zZ:y.natAbs=gk at *;have Wp:(aJ df).length<=1000000:=by omega
   simp only[go_sem,go_sem_proc,kd,oc,g3,aa,bC,nw,zZ,b5,cw,Wp,ad,ai];refine dm [4] [164004] (λ((a,b):Nat×Nat) tm mem=>a<ea/\b<ea/\jx df gk=jx a b/\tm 6=.I (.X ((aJ a).map ad))/\tm 7=.I (.X ((aJ b).map ad))) (λ(_,b)=>b) (df,gk) (by refine⟨O,ar,rfl,rfl,rfl⟩) ?_;intro vs ms aR aN;simp only[go_sem,go_sem_proc,kd,oc,g3,nw,zZ] at aR aN;subst aR aN;rintro⟨a,b⟩ tm mem M hm ⟨aM,ae,w4,bU,bM⟩;simp only[go_sem,go_sem_proc,kd,oc,g3,a6] at M hm;have aP:=M;have ja:(aJ a).length<=60:=hb.2 aM;have kL:(aJ b).length<=60:=hb.2 ae;rcases k6 b with ao|ib
   ·subst ao;have aW:aJ 0=[]:=rfl;have Wq:(aJ a).length<=1000000:=by omega
    rw[af1] at w4;have U:ku 1 (aJ a)=bQ ((a:Nat):Int):=pX (by simp) λaH=>(j6 (by omega)).symm;rw[w4];refine aY ?_;repeat' (intro h<;>simp only[h,go_sem,go_sem_proc,kd,oc,g3,aP,bU,bM,hm,aW,Wq,U,da,fU,ny,cS,k9,lG,l6,show ¬ ((0:Int)>0) by omega,decide_false]<;>try refine ax ?_ ?_)
   ·have bI:decide (((aJ b).length:Int)>0)=true:=by
     have:aJ b≠[]:=by rw[Ne,zD];omega
     have:=PD.2 this;exact dj
    have hdiv:=agR a b ⟨by omega,by omega,ib⟩
    simp only[b4] at hdiv;refine aY ?_;repeat' (intro h<;>simp only[h,go_sem,go_sem_proc,kd,oc,g3,aP,bU,bM,hm,bI,hdiv,ai]<;>try refine ax ?_ ?_)
    exact⟨(b,a%b),qK _ ib,ae,vB (Nat.mod_le _ _) aM,by dsimp only;rw[w4,PF a b,af2 b a,PF],rfl,rfl⟩
  ·have bC:dB (s2,al)=false:=by simpa using bC
   have hm:l8 (s,l) (s2,al)=((0,[]),1):=by unfold l8;rw[bC,iZ];rfl
   rw[hm];refine aY ?_;repeat' (intro h<;>simp only[h,go_sem,go_sem_proc,kd,oc,g3,aa,bC,b5,cw,da,fU,cS]<;>try refine ax ?_ ?_)
 ·have aa:dB (s,l)=false:=by simpa using aa
  have hm:l8 (s,l) (s2,al)=((0,[]),1):=by unfold l8;rw[aa,fB];rfl
  rw[hm];refine aY ?_;repeat' (intro h<;>simp only[h,go_sem,go_sem_proc,kd,oc,g3,aa,b5,cw,da,fU,cS]<;>try refine ax ?_ ?_)

def Yh:=cj w2 λ(s,l,s2,al)=>cN (D l<=1000000/\D al<=1000000) (.same (hA (kN (s,l) (s2,al))))
@[go_sem] theorem aLm (s:Int)(l:List Int)(s2:Int)(al:List Int)(G:(D l)<=1000000/\D al<=1000000):Yh [.agg [.int .i64 s,.X (l.map ad)],.agg [.int .i64 s2,.X (al.map ad)]]=some (.same (hA (kN (s,l) (s2,al)))):=(cu zY (s,l,s2,al)).trans (cT G _)
theorem auE (T:bb)(kd:T vq=aV Hj)(oc:T Ku=aV Qc)(vP:T Uy=aV X6)(ln:T Kv=aV Qa)(g3:T vr=aV Hi)(s:Int)(l:List Int)(s2:Int)(al:List Int)(G:(D l)<=1000000/\D al<=1000000):WP T XU (.same (hA (kN (s,l) (s2,al)))) [.I (.agg [.int .i64 s,.X (l.map ad)]),.I (.agg [.int .i64 s2,.X (al.map ad)])]:=by
 refine cv ?_;simp only[XU];obtain⟨b5,cw⟩:=G
 by_cases aa:dB (s,l)=true
 ·by_cases bC:dB (s2,al)=true
  ·obtain⟨x,O,e⟩:=(j5 _).1 aa;obtain⟨y,ar,aB⟩:=(j5 _).1 bC
   by_cases jc:y=0
   ·have hm:kN (s,l) (s2,al)=((0,[]),(0,[]),15):=by
     rw[e,aB];unfold kN
     rw[lj O,lj ar,fT,fT,ab (by rfl),ab jc]
    rw[hm]
    cases e
    cases aB;have ao:((y.sign:Int)==0)=true:=by rw[jc];rfl
    simp only[go_sem,go_sem_proc,kd,oc,vP,ln,g3,aa,bC,b5,cw,ao,da,hA,cS];repeat' (first|refine ax ?_ ?_|fail)<;>intro h<;>simp only[h,go_sem,go_sem_proc,kd,oc,vP,ln,g3,aa,bC,b5,cw,ao,da,hA,cS]
   ·have hm:kN (s,l) (s2,al)=(bQ (x.fdiv y),bQ (x.fmod y),0):=by
     rw[e,aB];exact D9 O ar jc
    rw[hm];clear hm
    cases e
    cases aB;have n8:=rG O;have lf:=rG ar;have tY:(y.sign==0)=false:=by rw[beq_eq_false_iff_ne,Ne,Wt];exact jc
    have Ea:0<y.natAbs:=by omega
    have E:=rH x;have H:=rH y;have aF:x.sign*y.sign=(x*y).sign:=(sE x y).symm;have af:=rH (x*y);have hw:IntKind.i64.wrap (x.sign*y.sign)=x.sign*y.sign:=by rw[aF];exact wrap64 _ (by omega) (by omega)
    have hdiv:=agR x.natAbs y.natAbs ⟨by omega,by omega,Ea⟩
    simp only[b4] at hdiv;have aO:=GS (y:=y) O jc;have yq:=af6 (x:=x) ar jc;have Wu:x.natAbs/y.natAbs<ea:=vB (Ws _ _) O;have as4:(aJ (x.natAbs/y.natAbs)).length<=60:=hb.2 Wu;have Eb:x.natAbs%y.natAbs<ea:=af7 (qK _ Ea) ar;have as5:(aJ (x.natAbs%y.natAbs)).length<=60:=hb.2 Eb
    by_cases tZ:x.sign*y.sign<0/\x.natAbs%y.natAbs≠0
    ·obtain⟨eq,ua⟩:=PG tZ.1 tZ.2
     have bI:(((aJ (x.natAbs%y.natAbs)).length:Int)==0)=false:=by
      have:aJ (x.natAbs%y.natAbs)≠[]:=by rw[Ne,zD];exact tZ.2
      have:=PD.2 this;rw[beq_eq_false_iff_ne];omega
     have kM:decide (x.sign*y.sign>=0)=false:=mo (by have:=tZ.1;omega);have j3:aJ 1=[1]:=by simp[aJ,yc]
     have as6:(aJ 1).length=1:=by rw[j3];rfl
     have iO:=aul (x.natAbs/y.natAbs) 1 ⟨by omega,by omega⟩
     simp only[b4,j3,eC,cS,ad] at iO;have j4:=agL y.natAbs (x.natAbs%y.natAbs) ⟨by omega,by omega,PK (qK _ Ea)⟩
     simp only[b4] at j4
     have ja:(aJ (x.natAbs/y.natAbs+1)).length<=1000000:=by
      have:(x.natAbs/y.natAbs+1)<ea:=by rw[eq] at aO;rw[PL,mR] at aO;exact aO
      have:=(hb (k:=60)).2 this;omega
     have kL:(aJ (y.natAbs-x.natAbs%y.natAbs)).length<=1000000:=by have:=PA y.natAbs (x.natAbs%y.natAbs);omega
     have hJ:ku (-1) (aJ (x.natAbs/y.natAbs+1))=bQ (x.fdiv y):=pX (by rw[eq,PL,mR]) λ_=>by rw[eq,D8,j6 (show (0:Int)<((x.natAbs/y.natAbs+1:Nat):Int) by exact Ec.2 (af8 _))]
     have iE:ku y.sign (aJ (y.natAbs-x.natAbs%y.natAbs))=bQ (x.fmod y):=by
      refine pX ?_ λaH=>?_
      ·rw[ua];rcases mQ y with ⟨e',af⟩|⟨e',af⟩|⟨e',af⟩<;>rw[e']<;>omega
      ·rw[ua,sE,B5,j6 (show (0:Int)<((y.natAbs-x.natAbs%y.natAbs:Nat):Int) by omega),vy]
     simp only[go_sem,go_sem_proc,kd,oc,vP,ln,g3,aa,bC,b5,cw,tY,hw,hdiv,bI,kM,iO,j4,ja,kL,hJ,iE,ad,ai,da,hA,ny];repeat' (first|refine ax ?_ ?_|fail)<;>intro h<;>simp only[h,go_sem,go_sem_proc,kd,oc,vP,ln,g3,aa,bC,b5,cw,tY,hw,hdiv,bI,kM,iO,j4,ja,kL,hJ,iE,ad,ai,da,hA,ny]
    ·obtain⟨eq,ua⟩:=PI jc tZ
     have Wv:(decide (x.sign*y.sign>=0)=false/\(((aJ (x.natAbs%y.natAbs)).length:Int)==0)=true)\/decide (x.sign*y.sign>=0)=true:=by
      by_cases aH:x.sign*y.sign<0
      ·left
       have:x.natAbs%y.natAbs=0:=af9.1 λh=>tZ ⟨aH,h⟩;rw[this];exact⟨c5,rfl⟩
      ·right;exact dj
     have ja:(aJ (x.natAbs/y.natAbs)).length<=1000000:=by omega
     have kL:(aJ (x.natAbs%y.natAbs)).length<=1000000:=by omega
     have hJ:ku (x.sign*y.sign) (aJ (x.natAbs/y.natAbs))=bQ (x.fdiv y):=by
      refine pX ?_ λaH=>?_
      ·rw[eq]
       have Ed:∀aL:Nat,(x=0->aL=0)->(x.sign*y.sign*(aL:Int)).natAbs=aL:=by
        intro aL ao;rcases mQ x with ⟨e,E⟩|⟨e,E⟩|⟨e,E⟩<;>rcases mQ y with ⟨e',af⟩|⟨e',af⟩|⟨e',af⟩<;>rw[e,e']<;>first|omega|(rw[ao E];rfl)
       exact Ed _ λao=>by rw[ao];exact Ww _
      ·rw[eq,aF,sE,sE,sE,B5,B5,j6 (show (0:Int)<((x.natAbs/y.natAbs:Nat):Int) from Ec.2 (PM aH)),vy]
     have iE:ku x.sign (aJ (x.natAbs%y.natAbs))=bQ (x.fmod y):=by
      refine pX ?_ λaH=>?_
      ·rw[ua]
       have Ed:∀aL:Nat,(x=0->aL=0)->(x.sign*(aL:Int)).natAbs=aL:=by
        intro aL ao;rcases mQ x with ⟨e,E⟩|⟨e,E⟩|⟨e,E⟩<;>rw[e]<;>first|omega|(rw[ao E];rfl)
       exact Ed _ λao=>by rw[ao];exact Wr _
      ·rw[ua,sE,B5,j6 (show (0:Int)<((x.natAbs%y.natAbs:Nat):Int) from Ec.2 (PM aH)),vy]
     rcases Wv with ⟨w5,La⟩|w5
     ·simp only[go_sem,go_sem_proc,kd,oc,vP,ln,g3,aa,bC,b5,cw,tY,hw,hdiv,w5,La,ja,kL,hJ,iE,ad,ai,da,hA,ny];repeat' (first|refine ax ?_ ?_|fail)<;>intro h<;>simp only[h,go_sem,go_sem_proc,kd,oc,vP,ln,g3,aa,bC,b5,cw,tY,hw,hdiv,w5,La,ja,kL,hJ,iE,ad,ai,da,hA,ny]
     ·simp only[go_sem,go_sem_proc,kd,oc,vP,ln,g3,aa,bC,b5,cw,tY,hw,hdiv,w5,ja,kL,hJ,iE,ad,ai,da,hA,ny];repeat' (first|refine ax ?_ ?_|fail)<;>intro h<;>simp only[h,go_sem,go_sem_proc,kd,oc,vP,ln,g3,aa,bC,b5,cw,tY,hw,hdiv,w5,ja,kL,hJ,iE,ad,ai,da,hA,ny]
  ·have bC:dB (s2,al)=false:=by simpa using bC
   have hm:kN (s,l) (s2,al)=((0,[]),(0,[]),1):=by unfold kN;rw[bC,iZ];rfl
   rw[hm];simp only[go_sem,go_sem_proc,kd,oc,vP,ln,g3,aa,bC,b5,cw,da,hA,cS];repeat' (first|refine ax ?_ ?_|fail)<;>intro h<;>simp only[h,go_sem,go_sem_proc,kd,oc,vP,ln,g3,aa,bC,b5,cw,da,hA,cS]
 ·have aa:dB (s,l)=false:=by simpa using aa
  have hm:kN (s,l) (s2,al)=((0,[]),(0,[]),1):=by unfold kN;rw[aa,fB];rfl
  rw[hm];simp only[go_sem,go_sem_proc,kd,oc,vP,ln,g3,aa,b5,cw,da,hA,cS];repeat' (first|refine ax ?_ ?_|fail)<;>intro h<;>simp only[h,go_sem,go_sem_proc,kd,oc,vP,ln,g3,aa,b5,cw,da,hA,cS]
def Yi:bT:=cd 19 2 [.t 4] (R [dR 2 115002 0,cC 4 false] (R [bf 5 0 2,bf 6 1 5,aU 7 1 6,b7 8 7,F 9 1,bn 10 .leq 8 9,F 11 10,⟨some 12,some (11,true),.ef 2 (.t 2)⟩,⟨some 13,some (11,true),.ef 1 (.t 12)⟩,⟨some 14,some (11,true),.load 1 false (.t 13)⟩,⟨some 15,some (11,true),.len (.t 14)⟩,⟨some 16,some (11,true),.cp (.t 1)⟩,⟨some 17,some (11,true),.bin .leq (.t 15) (.t 16)⟩,gg 18 11 17,F 4 18] .ret))
def Yj:bT:=cd 13 2 [.cell 4 4 true,.t 5] (R [(aC 4 (.alloc 124004 [(aj 0),.nil,(aj 0),.nil])),br 5 0] (R [F 6 0,(dL 7 OC 6),F 8 1,(dL 9 OC 8),(cq 10 Um 7 9),bB 11 0 10,bB 12 1 10,bl 4 4 11,F 5 12] .ret))
def Yk:bT:=cd 57 2 [.cell 4 4 true,.t 5] (R [dR 2 143002 0,dR 3 143003 1,(aC 4 (.alloc 143004 [(aj 0),.nil,(aj 0),.nil])),br 5 0] (.seq (R [bo 14 2 2,(dL 15 vq 14),fp 16 15,F 17 16,⟨some 18,some (17,false),.load 2 true (.t 3)⟩,⟨some 19,some (17,false),.call vq [(.t 18)]⟩,⟨some 20,some (17,false),.un .not (.t 19)⟩,ek 21 17 20] (aZ 21 (R [(aC 22 (.build [(aj 0),.nil,(aj 0),.nil] [])),bl 4 4 22,br 5 1] .ret) .skip)) (.seq (R [bf 23 0 3,aU 24 1 23,a5 25 .eql 24 0] (aZ 25 (R [(aC 26 (.build [(aj 0),.nil,(aj 0),.nil] [])),bl 4 4 26,br 5 15] .ret) .skip)) (.seq (R [bf 27 0 3,aU 28 1 27,a5 29 .lss 28 0] (aZ 29 (R [bo 30 2 2,(dL 31 OG 30),bl 2 2 31] (.ops [bo 32 2 3,(dL 33 OG 32),bl 2 3 33])) .skip)) (R [bo 35 2 2,bo 36 2 3,(cq 37 Uu 35 36),F 34 37,bB 38 0 34,bB 39 1 34,(aC 6 (.alloc 143006 [(aj 0),.nil])),bl 2 6 38,F 7 39] (R [bo 41 2 2,bo 42 2 6,(cq 43 OH 41 42),F 40 43,bB 44 0 40,bB 45 1 40,bB 46 2 40,(aC 8 (.alloc 143008 [(aj 0),.nil])),(aC 9 (.alloc 143009 [(aj 0),.nil])),bl 2 8 44,bl 2 9 45,F 10 46] (R [bo 48 2 3,bo 49 2 6,(cq 50 OH 48 49),F 47 50,bB 51 0 47,bB 52 1 47,bB 53 2 47,(aC 11 (.alloc 143011 [(aj 0),.nil])),(aC 12 (.alloc 143012 [(aj 0),.nil])),bl 2 11 51,bl 2 12 52,F 13 53] (R [bo 54 2 8,bo 55 2 11,(aC 56 (.build [(aj 0),.nil,(aj 0),.nil] [(0,2,(.t 54)),(2,2,(.t 55))])),bl 4 4 56,br 5 0] .ret))))))))
end Go.Mini
