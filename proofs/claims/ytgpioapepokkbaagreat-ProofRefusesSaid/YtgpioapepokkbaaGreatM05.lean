/- A part of the proof. -/
import Derived.Test.YtgpioapepokkbaaGreatM04
set_option linter.unusedSimpArgs false
set_option linter.unusedVariables false
set_option maxRecDepth 100000
set_option maxHeartbeats 4000000
noncomputable section
open Bool renaming and_eq_true->eM,and_false->hP,eq_iff_iff->Ck,false_and->fu,not_eq_true'->rO,not_false->dH,not_true->c5,or_eq_true->yk,or_false->lW,or_true->vn,true_and->g3
open Classical renaming byContradiction->mb,choose->tJ,choose_spec->po
open Decidable renaming em->dF
open Int renaming add_zero->xd,le_refl->Ri,natAbs_natCast->mQ,sign_neg_iff->ajF,toNat_natCast->l1
open List renaming any_eq_false->vX,append_assoc->gW,append_inj->GL,append_nil->fE,cons_append->jT,drop->gL,drop_append->rA,drop_append_of_le_length->aj9,drop_eq_nil_of_le->kY,drop_succ_cons->CX,ext_getElem?->qx,filter_append->pG,filter_cons->aas,filter_cons_of_neg->wi,filter_cons_of_pos->uL,filter_eq_nil_iff->Ik,filter_nil->qg,flatMap_append->y5,flatMap_cons->qE,flatMap_def->y6,flatMap_eq_nil_iff->ajk,flatMap_nil->CU,flatten_cons->jt,getD_eq_getElem?_getD->ep,getElem?_append_left->qv,getElem?_append_right->rm,getElem?_cons_succ->zc,getElem?_eq_getElem->bz,getElem?_eq_none->mB,getElem?_eq_some_iff->dD,getElem?_map->bn,getElem?_range->tr,getElem?_replicate->ajX,getElem?_set->nE,getElem_mem->ph,length->D,length_append->fr,length_cons->h0,length_drop->rB,length_filter_le->mY,length_map->aj,length_range->sC,length_replicate->CF,length_set->hn,length_take->fI,map->yZ,map_append->jD,map_congr_left->mI,map_cons->eA,map_map->m6,map_nil->cY,map_replicate->HU,map_set->vV,mem_cons->hH,mem_cons_of_mem->gZ,mem_cons_self->gq,mem_filter->xD,mem_flatMap->yi,mem_map->dT,mem_map_of_mem->ta,mem_of_getElem?->ei,mem_range->gX,nil_append->jm,range->dW,range_add->akI,range_succ->ow,replicate->dG,set_append_left->ali,set_append_right->EH,set_cons_succ->HJ,set_cons_zero->rQ,set_eq_take_append_cons_drop->akL,take->gu,take_add_one->hc,take_append_drop->BJ,take_append_of_le_length->CD,take_length->kN,take_of_length_le->dB,take_zero->nu
open List.cons renaming inj->w9,injEq->bf
open Nat renaming add_comm->zp,le_refl->b1,le_trans->eU,lt_of_le_of_lt->vD,lt_or_ge->ih,lt_trichotomy->ai9,mul_comm->rC,mul_le_mul->o5,mul_one->cI,mul_pos->Mr,one_le_two_pow->Z4,pow_add->wc,pow_le_pow_right->xe,reduceEqDiff->ed,succ_mul->ts,zero_le->fk
open Option renaming bind_some->ir,map_eq_some_iff->dV
open Option.some renaming inj->nt,injEq->ca
open Prod renaming ext->dR,ext_iff->yx
open Prod.mk renaming injEq->fD
open Rat renaming add_zero->o3,den_intCast->ajQ,divInt_eq_div->Mu,intCast_add->wb,intCast_mul->qc,intCast_natCast->ou,intCast_sub->CL,le_refl->gf,le_trans->wa,lt_iff->Z6,mul_comm->uG,mul_zero->nH,natCast_mul->ZQ,num_intCast->ajP,zero_add->wg
namespace Go.Mini
open Classical
def fg (bk:Nat)(x:Rat):Prop:=∃z:Int,x*(bk:Rat)=(z:Rat)
theorem fg.add {bk:Nat}{x y:Rat}(O:fg bk x)(aw:fg bk y):fg bk (x+y):=by
 obtain⟨a,aN⟩:=O;obtain⟨b,ag⟩:=aw;exact⟨a+b,by rw[wb,<-aN,<-ag];grind⟩
theorem fg.sub {bk:Nat}{x y:Rat}(O:fg bk x)(aw:fg bk y):fg bk (x-y):=by
 obtain⟨a,aN⟩:=O;obtain⟨b,ag⟩:=aw;exact⟨a-b,by rw[CL,<-aN,<-ag];grind⟩
theorem fg.mul {bk N:Nat}{x y:Rat}(O:fg bk x)(aw:fg N y):fg (bk*N) (x*y):=by
 obtain⟨a,aN⟩:=O;obtain⟨b,ag⟩:=aw;exact⟨a*b,by rw[qc,<-aN,<-ag,ZQ];grind⟩
theorem fg.int (bk:Nat)(z:Int):fg bk (z:Rat):=⟨z*bk,by rw[qc,ou]⟩
theorem fg.zero (bk:Nat):fg bk 0:=⟨0,by rw[Rat.zero_mul];rfl⟩
theorem fg.more {bk:Nat}{x:Rat}(h:fg bk x)(N:Nat):fg (bk*N) x:=by
 obtain⟨a,aN⟩:=h;exact⟨a*N,by rw[qc,<-aN,ZQ,ou];grind⟩
theorem fg.of_dvd {bk N:Nat}{x:Rat}(h:fg bk x)(aa:∃m,N=bk*m):fg N x:=by
 obtain⟨m,rfl⟩:=aa;exact h.more m
theorem fg.cx {bk:Nat}{l:List en}{aP:en->Rat}(h:∀c∈l,fg bk (aP c)):fg bk (cx l aP):=by
 induction l with
 |nil=>exact fg.zero bk
 |cons c l ay=>exact (h c gq).add (ay λx O=>h x (gZ _ O))
theorem fg.bJ {bk n:Nat}{aP:Nat->Rat}(h:∀k,k<n->fg bk (aP k)):fg bk (bJ n aP):=by
 induction n with
 |zero=>exact fg.zero bk
 |succ n ay=>exact (ay λk Q=>h k (by omega)).add (h n (by omega))
theorem fg.sz {bk a e:Nat}{x:Rat}(h:fg bk x)(na:0<bk)(MB:bk<=2^a)(ao:0<=x)(O:x<=((2^e:Nat):Rat)):dU (a+e) x:=by
 obtain⟨z,aV⟩:=h;have vh:(0:Rat)<=(z:Rat):=by rw[<-aV];exact Rat.mul_nonneg ao (by exact_mod_cast fk bk)
 have axb:(z:Rat)<=((2^e*bk:Nat):Rat):=by
  rw[<-aV,ZQ];exact Rat.mul_le_mul_of_nonneg_right O (by exact_mod_cast fk bk)
 have fO:0<=z:=by exact_mod_cast vh
 have cv:z<=((2^e*bk:Nat):Int):=by exact_mod_cast axb
 obtain⟨f1,f2⟩:=CN (q:=x) (v:=z) (d:=(bk:Int)) (by omega) (by rw[ou];exact aV);rw[mQ] at f2;have cS:z.natAbs<=2^e*bk:=by omega
 refine⟨eU f1 (eU cS ?_),eU f2 (eU MB (xe (by omega) (by omega)))⟩;rw[wc,rC (2^a)];exact Nat.mul_le_mul_left _ MB
structure fo (E:List Int) (cs:List au):Prop where
 right:jr E cs=true
 n5:(D E)<=6
 rZ:(D cs)<=12
 am:∀c∈cs,c.2.2.2<=1000000000000000
theorem fo.ok {E:List Int}{cs:List au}(h:fo E cs):(aB E cs).dt:=ahW h.right
theorem fo.sum {E:List Int}{cs:List au}(h:fo E cs)(p:au->Prop)[DecidablePred p]:0<=cR cs (λc=>if p c then c.2.2.2 else 0)/\cR cs (λc=>if p c then c.2.2.2 else 0)<=12000000000000000:=by
 have:=Q8 (cs:=cs) (aP:=λc=>if p c then c.2.2.2 else 0) (B:=1000000000000000) (by omega) λc H=>by
  have F:=h.am c H;have I:=((hD.1 h.right).2.2.2 c H).2.2.2.2.2.2.1
  try dsimp only
  split<;>omega
 have iV:=h.rZ;omega
theorem fo.upto {E:List Int}{cs:List au}(h:fo E cs)(i r:Int):0<=cT cs i r/\cT cs i r<=12000000000000000:=h.sum λc=>c.1=i/\c.2.2.1<r
theorem axc {E:List Int}{cs:List au}(h:jr E cs=true)(i:Int){r s:Int}(BE:r<=s):cT cs i r<=cT cs i s:=by
 have aO:=(hD.1 h).2.2.2
 have:∀l:List au,(∀c∈l,0<=c.2.2.2)->cR l (λc=>if c.1=i/\c.2.2.1<r then c.2.2.2 else 0)<=cR l (λc=>if c.1=i/\c.2.2.1<s then c.2.2.2 else 0):=by
  intro l
  induction l with
  |nil=>intro _;exact Ri _
  |cons c l ay =>
   intro ar;have F:=ay λx O=>ar x (gZ _ O);have I:=ar c gq;simp only[cR]
   split<;>split<;>omega
 exact this cs λc H=>(aO c H).2.2.2.2.2.2.1
def h9 (cs:List au)(k r:Nat):Nat:=(cT cs k (r+1:Nat)-cT cs k r).toNat
theorem EW {E:List Int}{cs:List au}(h:jr E cs=true)(k r:Nat):((h9 cs k r:Nat):Rat)=(aB E cs).S k r:=by
 have F:=Q9 h k r;have I:=axc h k (r:=r) (s:=(r+1:Nat)) (by omega);rw[<-F,<-ou];unfold h9;rw[Int.toNat_of_nonneg (by omega)]
theorem fo.EX {E:List Int}{cs:List au}(h:fo E cs)(k r:Nat):h9 cs k r<=2^54:=by
 have F:=h.upto k (r+1:Nat);have I:=h.upto k r;unfold h9;omega
def pF (cs:List au)(f:Nat->Nat)(k i:Nat):Int:=cR cs λc=>if c.2.1=(i:Int)/\c.1=(k:Int)/\c.2.2.1=(f k:Int) then c.2.2.2 else 0
theorem axd {E:List Int}{cs:List au}(h:jr E cs=true)(f:Nat->Nat){k:Nat}(i:Nat)(cQ:0<(aB E cs).S k (f k)):(aB E cs).W f k i*(aB E cs).S k (f k)=((pF cs f k i:Int):Rat):=by
 unfold Day.W pF
 rw[Q7 cs _ (λc=>if c.to=(i:Int)/\c.aF=k/\c.bw=f k then c.am else 0) λc H=>by
  have:=(hD.1 h).2.2.2 c H;show ((if c.2.1=(i:Int)/\c.1=(k:Int)/\c.2.2.1=(f k:Int) then c.2.2.2 else 0:Int):Rat)=if c.2.1=(i:Int)/\c.1.toNat=k/\c.2.2.1.toNat=f k then (c.2.2.2:Rat) else 0
  by_cases F:c.2.1=(i:Int)/\c.1=(k:Int)/\c.2.2.1=(f k:Int)
  ·rw[ad F,ad (by omega)]
  ·rw[ah F,ah (by omega)];rfl]
 rw[uG,<-QV];refine xC λc _=>?_
 split
 ·rename_i F;rw[uG];have az:=F.2.1;have aD:=F.2.2;subst az;rw[<-aD] at cQ ⊢;exact Day.CI cQ
 ·rw[nH]
theorem MC {E:List Int}{cs:List au}(h:jr E cs=true)(f:Nat->Nat)(i:Nat):((lk E cs f i:Int):Rat)=(aB E cs).st f i:=by
 unfold lk Day.st;rw[wb]
 congr 1
 refine Q7 cs _ (λc=>if c.to=(i:Int)/\c.bw<f c.aF then c.am else 0) λc H=>?_;have:=(hD.1 h).2.2.2 c H;show ((if c.2.1=(i:Int)/\c.2.2.1<(f c.1.toNat:Int) then c.2.2.2 else 0:Int):Rat)=if c.2.1=(i:Int)/\c.2.2.1.toNat<f c.1.toNat then (c.2.2.2:Rat) else 0
 by_cases F:c.2.1=(i:Int)/\c.2.2.1<(f c.1.toNat:Int)
 ·rw[ad F,ad (by omega)]
 ·rw[ah F,ah (by omega)];rfl
theorem fo.E {E:List Int}{cs:List au}(h:fo E cs)(i:Nat):0<=E.getD i 0/\E.getD i 0<=1000000000000000:=by
 rw[ep]
 cases M:E[i]? with
 |none=>simp
 |some x=>exact (hD.1 h.right).2.2.1 x (ei M)
theorem fo.steady {E:List Int}{cs:List au}(h:fo E cs)(f:Nat->Nat)(i:Nat):0<=lk E cs f i/\lk E cs f i<=13000000000000000:=by
 have F:=h.E i;have I:=h.sum λc=>c.2.1=(i:Int)/\c.2.2.1<(f c.1.toNat:Int);unfold lk;omega
theorem Rj (n:Nat)(a b:Nat->Nat):fi n (λi=>a i+b i)=fi n a+fi n b:=by
 induction n with
 |zero=>rfl
 |succ n ay=>simp only[fi,ay];omega
theorem Rk {n:Nat}{a:Nat->Nat}(h:∀i,i<n->a i=0):fi n a=0:=by
 induction n with
 |zero=>rfl
 |succ n ay=>rw[fi,ay λi M=>h i (by omega),h n (by omega)]
theorem ai0 {n b e:Nat}{b8:Nat->Nat}(h:∀k,k<n->b8 k<=2^b)(he:n*b<=e):iM n b8<=2^e:=eU (ZA h) (xe (by omega) he)
theorem Rl {n x:Nat}{p:Nat->Prop}[DecidablePred p](h:∀i j,p i->p j->i=j):fi n (λi=>if p i then x else 0)<=x:=by
 induction n with
 |zero=>exact fk _
 |succ n ay =>
  rw[fi]
  by_cases aG:p n
  ·rw[ad aG,Rk λi M=>ah λF=>by have:=h i n F aG;omega]
   omega
  ·rw[ah aG];omega
theorem ai1 {cs:List au}{aP:au->Int}(h:∀c∈cs,0<=aP c):0<=cR cs aP:=by
 induction cs with
 |nil=>exact Ri _
 |cons c l ay =>
  have F:=ay λx O=>h x (gZ _ O);have I:=h c gq;simp only[cR];omega
theorem ai2 {cs:List au}(h:∀c∈cs,0<=c.2.2.2)(f:Nat->Nat)(k i:Nat):0<=pF cs f k i:=ai1 λc H=>by
 have:=h c H
 split<;>omega
theorem axe {cs:List au}(h:∀c∈cs,0<=c.2.2.2)(k r:Nat):h9 cs k r=(cR cs λc=>if c.1=(k:Int)/\c.2.2.1=(r:Int) then c.2.2.2 else 0).toNat:=by
 unfold h9 cT
 congr 1
 induction cs with
 |nil=>rfl
 |cons c l ay =>
  have F:=ay λx O=>h x (gZ _ O);simp only[cR]
  have e:(if c.1=(k:Int)/\c.2.2.1<((r+1:Nat):Int) then c.2.2.2 else 0)-(if c.1=(k:Int)/\c.2.2.1<(r:Int) then c.2.2.2 else 0)=if c.1=(k:Int)/\c.2.2.1=(r:Int) then c.2.2.2 else 0:=by
   (repeat' split)<;>omega
  omega
theorem axf {cs:List au}(h:∀c∈cs,0<=c.2.2.2)(f:Nat->Nat)(k N:Nat):fi N (λi=>(pF cs f k i).toNat)<=h9 cs k (f k):=by
 rw[axe h]
 induction cs with
 |nil=>exact eU (Nat.le_of_eq (Rk λi _=>rfl)) (fk _)
 |cons c l ay =>
  have ar:=λx O=>h x (gZ c O);have F:=ay ar;have I:=h c gq
  have e:fi N (λi=>(pF (c::l) f k i).toNat)=fi N (λi=>if c.2.1=(i:Int)/\c.1=(k:Int)/\c.2.2.1=(f k:Int) then c.2.2.2.toNat else 0)+fi N λi=>(pF l f k i).toNat:=by
   rw[<-Rj];refine Mq λi _=>?_;have:=ai2 ar f k i;have az:pF (c::l) f k i=(if c.2.1=(i:Int)/\c.1=(k:Int)/\c.2.2.1=(f k:Int) then c.2.2.2 else 0)+pF l f k i:=rfl;rw[az]
   split<;>omega
  have aO:0<=cR l λc=>if c.1=(k:Int)/\c.2.2.1=(f k:Int) then c.2.2.2 else 0:=ai1 λc H=>by
   have:=ar c H
   split<;>omega
  have af:fi N (λi=>if c.2.1=(i:Int)/\c.1=(k:Int)/\c.2.2.1=(f k:Int) then c.2.2.2.toNat else 0)<=if c.1=(k:Int)/\c.2.2.1=(f k:Int) then c.2.2.2.toNat else 0:=by
   by_cases H:c.1=(k:Int)/\c.2.2.1=(f k:Int)
   ·rw[ad H];exact Rl λi j M ai=>by omega
   ·rw[ah H,Rk λi _=>ah λh=>H h.2];exact b1 _
  simp only[cR];rw[e]
  split at af<;>rename_i H
  ·rw[ad H];omega
  ·rw[ah H];omega
section
variable {E:List Int} {cs:List au} (U:fo E cs) {f:Nat->Nat} {P:Nat->Prop} (cQ:∀k,P k->0<(aB E cs).S k (f k))
include U cQ
theorem Rm {k:Nat}(Q:P k):0<h9 cs k (f k):=by
 have F:=cQ k Q;rw[<-EW U.right] at F;exact_mod_cast F
theorem ai3 {k:Nat}(Q:P k)(i:Nat):((h9 cs k (f k):Nat):Rat)*(aB E cs).W f k i=((pF cs f k i:Int):Rat):=by
 rw[EW U.right,uG];exact axd U.right f i (cQ k Q)
theorem ai4 {k:Nat}(Q:P k)(i:Nat)(p:Prop)[Decidable p]:eS ((if p then h9 cs k (f k) else 0)+(pF cs f k i).toNat) (((h9 cs k (f k):Nat):Rat)*((if p then 1 else 0)-(aB E cs).W f k i)):=by
 have e:((h9 cs k (f k):Nat):Rat)*((if p then 1 else 0)-(aB E cs).W f k i)=((if p then h9 cs k (f k) else 0:Nat):Rat)-((pF cs f k i:Int):Rat):=by
  rw[<-ai3 U cQ Q i]
  split<;>grind
 have I:=ai2 (λc H=>((hD.1 U.right).2.2.2 c H).2.2.2.2.2.2.1) f k i;rw[e];exact (eS.nat (b1 _)).sub (eS.of (by omega))
omit cQ in
theorem ai5 {N:Nat}{k:Nat}(τ:Nat->Nat)(t:Nat)(hτ:∀i,i<N->τ i<D E)(ai:∀i j,i<N->j<N->τ i=τ j->i=j):fi N (λi=>(if i=t then h9 cs k (f k) else 0)+(pF cs f k (τ i)).toNat)<=2*h9 cs k (f k):=by
 rw[Rj];have F:fi N (λi=>if i=t then h9 cs k (f k) else 0)<=h9 cs k (f k):=Rl λi j M ai=>by omega
 have I:=Zy (λi=>(pF cs f k i).toNat) hτ ai;have af:=axf (λc H=>((hD.1 U.right).2.2.2 c H).2.2.2.2.2.2.1) f k (D E);omega
omit cQ in
theorem ai6 (i:Nat):(lk E cs f i-cT cs (i:Nat) (f i)).natAbs<=2^54/\(lk E cs f i).natAbs<=2^54:=by
 have F:=U.steady f i;have I:=U.upto (i:Nat) (f i);omega
theorem axg:uH (D E) ((aB E cs).AQ f P) (D E*54) 54:=by
 have jB:(aB E cs).n=D E:=rfl;refine⟨λk=>if P k then h9 cs k (f k) else 1,λk=>if P k then cT cs k (f k) else 0,λi=>lk E cs f i-if P i then cT cs i (f i) else 0,ZA λk _=>?_,λk=>?_,λk Q=>?_,λk _=>?_,λi M=>⟨?_,?_⟩⟩
 ·try dsimp only
  split
  ·exact U.EX k _
  ·decide
 ·try dsimp only
  split
  ·exact Rm U cQ (by assumption)
  ·omega
 ·by_cases gv:P k
  ·refine⟨λi=>(if i=k then h9 cs k (f k) else 0)+(pF cs f k i).toNat,by dsimp only;rw[ad gv];exact ai5 U (λi=>i) k (λi M=>M) λi j _ _ h=>h,λi M=>?_⟩
   unfold Day.AQ;dsimp only;rw[ad gv,ad (show k<(aB E cs).n from Q),ad gv];exact ai4 U cQ gv i _
  ·refine⟨λi=>if i=k then 1 else 0,by dsimp only;rw[ah gv];exact eU (Rl λi j M ai=>by omega) (by omega),λi M=>?_⟩
   unfold Day.AQ;dsimp only;rw[ah gv,ad (show k<(aB E cs).n from Q),ah gv];have:(((1:Nat):Rat)*((if i=k then 1 else 0)-0))=((if i=k then 1 else 0:Nat):Rat):=by split<;>simp<;>grind
   rw[this];exact eS.nat (b1 _)
 ·try dsimp only
  split
  ·have:=U.upto (k:Nat) (f k);omega
  ·decide
 ·have:=ai6 U (f:=f) i;dsimp only
  split
  ·exact this.1
  ·rw[Int.sub_zero];exact this.2
 ·unfold Day.AQ;rw[ah (by rw[jB];omega),jB]
  have az:(λk=>(if k<(D E) then (if i=k then 1 else 0)-(if P k then (aB E cs).W f k i else 0) else (aB E cs).st f i-bJ (D E) λk=>if P k then (aB E cs).W f k i*(aB E cs).bG k (f k) else 0)*((if P k then cT cs k (f k) else 0:Int):Rat))=λk=>(if k<(D E) then (if i=k then ((if P k then cT cs k (f k) else 0:Int):Rat) else 0)-(if P k then (aB E cs).W f k i*(aB E cs).bG k (f k) else 0) else ((aB E cs).st f i-bJ (D E) λk=>if P k then (aB E cs).W f k i*(aB E cs).bG k (f k) else 0)*((if P k then cT cs k (f k) else 0:Int):Rat)):=by
   funext k
   by_cases F:k<D E
   ·rw[ad F,ad F]
    by_cases I:P k
    ·rw[ad I,ad I,ad I,<-uD U.right k (f k)]
     split<;>grind
    ·rw[ah I,ah I,ah I]
     split<;>simp<;>grind
   ·rw[ah F,ah F]
  rw[az];rw[kr (g:=λk=>(if i=k then ((if P k then cT cs k (f k) else 0:Int):Rat) else 0)-(if P k then (aB E cs).W f k i*(aB E cs).bG k (f k) else 0)) λk Q=>ad Q];rw[HX,y1 M λk _ Q=>ah (Ne.symm Q),ad rfl,CL,MC U.right];grind
theorem ZR (p:List Nat)(aG:∀k,k<(D p)->P (p.getD k 0)/\p.getD k 0<D E)(ai:∀i j,i<(D p)->j<(D p)->p.getD i 0=p.getD j 0->i=j):uH (D p) ((aB E cs).uK f p) (D p*54) 54:=by
 refine⟨λk=>if k<(D p) then h9 cs (p.getD k 0) (f (p.getD k 0)) else 1,λ_=>0,λi=>lk E cs f (p.getD i 0)-cT cs (p.getD i 0:Nat) (f (p.getD i 0)),ZA λk Q=>?_,λk=>?_,λk Q=>?_,λk _=>fk _,λi M=>⟨?_,?_⟩⟩
 ·try dsimp only
  rw[ad Q];exact U.EX _ _
 ·try dsimp only
  split
  ·exact Rm U cQ (aG k (by assumption)).1
  ·omega
 ·refine⟨λi=>(if i=k then h9 cs (p.getD k 0) (f (p.getD k 0)) else 0)+(pF cs f (p.getD k 0) (p.getD i 0)).toNat,by dsimp only;rw[ad Q];exact ai5 U (λi=>p.getD i 0) k (λi M=>(aG i M).2) ai,λi M=>?_⟩
  unfold Day.uK;dsimp only;rw[ad Q,ad Q];exact ai4 U cQ (aG k Q).1 _ _
 ·exact (ai6 U _).1
 ·unfold Day.uK;rw[ah (by omega),s0 λk _=>by rw[show ((0:Int):Rat)=0 from rfl,nH],wg,CL,MC U.right,uD U.right]
end
end Go.Mini
namespace Go.Mini
open Go Classical
theorem hL {b:Nat}{q:Rat}(h:dU b q)(ag:b<1200):dv q:=by
 obtain⟨B,fW,gw⟩:=air;have:2^b<ee:=by rw[gw];exact Nat.pow_lt_pow_right (by omega) (by omega)
 exact⟨vD h.1 this,vD h.2 this⟩
def rowsOf (N:Nat)(A:eI):List e0:=(dW N).map λi=>(dK N (A i),av (A i N))
theorem CS (N:Nat)(A:eI):(rowsOf N A).length=N:=by simp[rowsOf]
theorem ai7 {N i:Nat}(A:eI)(h:i<N):(rowsOf N A)[i]?=some (dK N (A i),av (A i N)):=by
 unfold rowsOf;rw[bn,tr h];rfl
theorem axh {N i k:Nat}(A:eI)(M:i<N)(Q:k<=N):q0 (rowsOf N A) i k=A i k:=by
 unfold q0;rw[aio (ai7 A M),CS]
 by_cases h:k<N
 ·rw[ad h,ep,uJ _ h,Option.getD_some,En]
 ·rw[ah h,En,show k=N by omega]
theorem Ih {x:Rat}(h:dv x):ek (av x)=true:=(Lu _).2 ⟨x,h,rfl⟩
theorem axi {N:Nat}{A:eI}(gD:N<=40)(ar:∀i,i<N->∀k,k<=N->dv (A i k)):oo (rowsOf N A) N=true:=by
 unfold oo
 have af:(rowsOf N A).any (oZ N)=false:=by
  rw[vX];intro r ab;obtain⟨i,M,rfl⟩:=dT.1 ab;have M:=gX.1 M;unfold oZ Hn;simp only[qf,beq_self_eq_true,g3,Ih (ar i M N (b1 _))]
  have:(dK N (A i)).any (λf => !ek f)=false:=by
   rw[vX];intro f aH;unfold dK at aH;obtain⟨x,O,rfl⟩:=dT.1 aH;obtain⟨k,Q,rfl⟩:=dT.1 O;rw[Ih (ar i M k (by have:=gX.1 Q;omega))]
   decide
  rw[this];decide
 rw[af,CS];simp only[eM,rO,decide_eq_false_iff_not,beq_self_eq_true,dH,and_true];omega
theorem axj {N:Nat}{A:eI}(gD:N<=40)(ar:∀i,i<N->∀k,k<=N->dv (A i k)):rN (rowsOf N A):=by
 refine⟨by rw[CS];omega,λr ab=>?_⟩
 obtain⟨i,M,rfl⟩:=dT.1 ab;have M:=gX.1 M;exact⟨ZN gD λk Q=>ar i M k (by omega),lH (ar i M N (b1 _))⟩
theorem ai8 {N:Nat}{a b y:Nat->Rat}(h:∀k,k<=N->a k=b k):mV N a y=mV N b y:=kr λk Q=>by rw[h k (by omega)]
theorem hX.congr {N:Nat}{A B:eI}(h:∀i,i<N->∀k,k<=N->A i k=B i k)(y:Nat->Rat):hX N A y↔hX N B y:=by
 unfold hX
 constructor
 ·intro ec i M;rw[<-ai8 (h i M)];exact ec i M
 ·intro ec i M;rw[ai8 (h i M)];exact ec i M
theorem uH.congr {N δ v:Nat}{A B:eI}(h:∀i,i<N->∀k,k<=N->A i k=B i k)(U:uH N A δ v):uH N B δ v:=by
 obtain⟨b8,u,w,c0,dj,a3,a4,a5⟩:=U;refine⟨b8,u,w,c0,dj,λk Q=>?_,a4,λi M=>⟨(a5 i M).1,?_⟩⟩
 ·obtain⟨b,di,eK⟩:=a3 k Q;exact⟨b,di,λi M=>by rw[<-h i M k (by omega)];exact eK i M⟩
 ·rw[<-h i M N (b1 _),(a5 i M).2,kr λk Q=>by rw[h i M k (by omega)]]
theorem uH.sz {N δ v:Nat}{A:eI}(U:uH N A δ v)(gD:N<=7){i k:Nat}(M:i<N)(Q:k<=N):dU (N+δ+v+4) (A i k):=(U.aiH gD A 0 (fk _) (lK.start N A) i k M (fk _) Q).1
theorem axk {N:Nat}{A:eI}(gD:N<=6)(U:uH N A (N*54) 54)(axl:¬ CR N A){x:Nat->Rat}(O:hX N A (ext N x (-1))):
  qX (rowsOf N A) N=(dK N x,0)/\oo (rowsOf N A) N=true/\∀k,k<N->dv (x k):=by
 have ar:∀i,i<N->∀k,k<=N->dv (A i k):=λi M k Q=>hL (U.sz (by omega) M Q) (by omega);have ab:=axi (by omega) ar;have H:∀i,i<N->∀k,k<=N->A i k=q0 (rowsOf N A) i k:=λi M k Q=>(axh A M Q).symm;have iQ:=(U.congr H).aiH (by omega)
 have axm:¬ CR N (q0 (rowsOf N A)):=by
  rintro⟨y,aw,h⟩;exact axl ⟨y,(hX.congr H _).2 aw,h⟩
 obtain⟨y,az,aD,bZ⟩:=aw6 (rs:=rowsOf N A) (n:=N) (eW:=N+N*54+54+4) (aP:=N+N*54) ab (by rw[CS];exact iQ) (by omega) (by rw[CS];exact axm);rw[CS] at az aD bZ;have oN:∀k,k<N->x k=y k:=λk Q=>(bZ.1 x).1 ((hX.congr H _).1 O) k Q;exact⟨by rw[az,Ig λk Q=>(oN k Q).symm],ab,λk Q=>by rw[oN k Q];exact aD k Q⟩
theorem ZS {P:Nat->Prop}{n i j:Nat}(M:i<(c1 P n).length)(ai:j<(c1 P n).length)(h:(c1 P n).getD i 0=(c1 P n).getD j 0):i=j:=by
 have aK:(c1 P n).Pairwise (·≠·):=List.Pairwise.filter _ List.nodup_range;rw[List.pairwise_iff_getElem] at aK;rw[ep,ep,bz M,bz ai] at h;rcases ai9 i j with F|F|F
 ·exact absurd h (aK i j M ai F)
 ·exact F
 ·exact absurd h.symm (aK j i ai M F)
structure tb (d:Day) (f:Nat->Nat) (P:Nat->Prop):Prop where
 ok:d.dt
 ex:∃g,Inv d f g/\iD d f g P (d.ff f P)
theorem tb.good {d:Day}{f:Nat->Nat}{P:Nat->Prop}(h:tb d f P):Good d f P:=by
 obtain⟨F,g,I,af⟩:=h;exact af.good F I
theorem tb.rV {d:Day}{f:Nat->Nat}{P:Nat->Prop}(h:tb d f P):∀k,P k->0<d.S k (f k):=by
 obtain⟨F,g,I,af⟩:=h;exact λk Q=>I.rV (af.gG k Q).1 (af.gG k Q).2
theorem tb.gt {d:Day}{f:Nat->Nat}{P:Nat->Prop}(h:tb d f P):∀k,P k->d.bG k (f k)<d.ff f P k:=by
 obtain⟨F,g,I,af⟩:=h;exact af.ge
theorem iD.aja {d:Day}(aa:d.dt){f:Nat->Nat}{g:Nat->Rat}{P:Nat->Prop}{h:Nat->Rat}(M:Inv d f g)(aG:iD d f g P h){c:en}(H:c∈d.dk):0<=d.l f P h c/\d.l f P h c<=c.am:=by
 have ao:=aa.am c H
 by_cases F:c.bw<f c.aF
 ·rw[Day.ahP F];exact⟨ao,gf⟩
 ·by_cases I:c.bw=f c.aF/\P c.aF
  ·rw[Day.ahQ I.1 I.2];have az:=aG.ge _ I.2;have aD:=aG.le _ (aa.aF c H);have bZ:=M.M _ (aa.aF c H) (aG.gG _ I.2).2;rw[d.s3] at bZ;rw[I.1];exact⟨uA (aa.qb H) (by grind),aa.Q3 H (by rw[I.1];grind)⟩
  ·rw[Day.Zd F I];exact⟨gf,ao⟩
theorem tb.range {d:Day}{f:Nat->Nat}{P:Nat->Prop}(h:tb d f P){i:Nat}(M:i<d.n):0<=d.ff f P i/\d.ff f P i<=d.fe (λc=>c.am) i:=by
 obtain⟨F,g,I,af⟩:=h;rw[af.sys i M];exact⟨F.Zi (λc H=>(af.aja F I H).1) M,d.EP (λc H=>(af.aja F I H).2) i⟩
theorem axn {E:List Int}{cs:List au}(U:fo E cs)(i:Nat):(aB E cs).fe (λc=>c.am) i<=((2^54:Nat):Rat):=by
 have e:(aB E cs).fe (λc=>c.am) i=((E.getD i 0+cR cs (λc=>if c.2.1=(i:Int) then c.2.2.2 else 0):Int):Rat):=by
  unfold Day.fe;rw[wb]
  congr 1
  refine (Q7 cs _ (λc=>if c.to=(i:Int) then c.am else 0) λc H=>?_).symm;show ((if c.2.1=(i:Int) then c.2.2.2 else 0:Int):Rat)=if c.2.1=(i:Int) then (c.2.2.2:Rat) else 0
  split<;>rfl
 rw[e];have F:=U.E i;have I:=U.sum λc=>c.2.1=(i:Int)
 have:E.getD i 0+cR cs (λc=>if c.2.1=(i:Int) then c.2.2.2 else 0)<=((2^54:Nat):Int):=by omega
 rw[<-ou];exact_mod_cast this
theorem Day.dt.axo {d:Day}(aa:d.dt)(f:Nat->Nat)(k i:Nat):0<=d.W f k i:=y2 λc H=>by
 split
 ·exact aa.qb H
 ·exact gf
theorem axp {n t:Nat}{T:Nat->Rat}(h:∀k,k<n->0<=T k)(bD:t<=n):bJ t T<=bJ n T:=by
 induction n with
 |zero=>rw[show t=0 by omega];exact gf
 |succ n ay =>
  by_cases ajb:t=n+1
  ·rw[ajb];exact gf
  ·have F:=ay (λk Q=>h k (by omega)) (by omega);have I:=h n (by omega);rw[bJ];grind
theorem axq {N t bk a e:Nat}{s:Rat}{T:Nat->Rat}(na:0<bk)(MB:bk<=2^a)(qQ:0<=s)(Ki:fg bk s)(ZT:∀k,k<N->0<=T k)(ajc:∀k,k<N->fg bk (T k))(O:s+bJ N T<=((2^e:Nat):Rat))(bD:t<=N):dU (a+e) (s+bJ t T)/\∀k,k<N->dU (a+e) (T k):=by
 have F:∀t,t<=N->0<=bJ t T/\bJ t T<=bJ N T:=λt bD=>⟨ahK λk Q=>ZT k (by omega),axp ZT bD⟩;refine⟨(Ki.add (fg.bJ λk Q=>ajc k (by omega))).sz na MB (by have:=(F t bD).1;grind) (by have:=(F t bD).2;grind),λk Q=>(ajc k Q).sz na MB (ZT k Q) ?_⟩;have I:=(F k (by omega)).1;have af:=(F (k+1) (by omega)).2;rw[bJ] at af;grind
section
variable {E:List Int} {cs:List au} (U:fo E cs) {f:Nat->Nat} {P:Nat->Prop} (aG:tb (aB E cs) f P)
include U aG
theorem Rn {i:Nat}(M:i<D E):0<=(aB E cs).ff f P i/\(aB E cs).ff f P i<=((2^54:Nat):Rat):=by
 have h:=aG.range (d:=aB E cs) M;exact⟨h.1,wa h.2 (axn U i)⟩
theorem ajd:∃bk:Nat,0<bk/\(∃a,a<=330/\bk<=2^a)/\∀i,i<(D E)->fg bk ((aB E cs).ff f P i):=by
 obtain⟨bk,F,I,af⟩:=aiQ (N:=D E) aG.good.aiU (axg U aG.rV) ((aiS aG.ok f P _).2 aG.good.ff);have aK:=U.n5;exact⟨bk,F,⟨_,by omega,I⟩,af⟩
theorem aje {i:Nat}(M:i<D E):dU 428 ((aB E cs).ff f P i):=by
 obtain⟨bk,F,⟨a,ao,I⟩,af⟩:=ajd U aG;have aO:=Rn U aG M;exact ((af i M).sz F I aO.1 aO.2).mono (by omega)
theorem axr:qX (rowsOf (c1 P (D E)).length ((aB E cs).uK f (c1 P (D E)))) (c1 P (D E)).length=(dK (c1 P (D E)).length (λk=>(aB E cs).ff f P ((c1 P (D E)).getD k 0)-(aB E cs).bG ((c1 P (D E)).getD k 0) (f ((c1 P (D E)).getD k 0))),0)/\oo (rowsOf (c1 P (D E)).length ((aB E cs).uK f (c1 P (D E)))) (c1 P (D E)).length=true:=by
 have hlen:(c1 P (D E)).length<=6:=by
  have:=mY (λi=>decide (P i)) (dW (D E));rw[sC] at this;have:=U.n5;unfold c1;omega
 have:=axk hlen (ZR U aG.rV _ (λk Q=>⟨(xH Q).2,(xH Q).1⟩) λi j M ai=>ZS M ai) aG.good.small aG.good.aiW;exact⟨this.1,this.2.1⟩
theorem axs:∃bk:Nat,0<bk/\(∃a,a<=330/\bk<=2^a)/\∀k,k<(c1 P (D E)).length->fg bk ((aB E cs).ff f P ((c1 P (D E)).getD k 0)-(aB E cs).bG ((c1 P (D E)).getD k 0) (f ((c1 P (D E)).getD k 0))):=by
 have hlen:(c1 P (D E)).length<=6:=by
  have:=mY (λi=>decide (P i)) (dW (D E));rw[sC] at this;have:=U.n5;unfold c1;omega
 have CQ:c1 P (aB E cs).n=c1 P (D E):=rfl;have ajf:=aG.good.aiW;have xI:=aG.good.small;rw[CQ] at ajf xI;obtain⟨bk,F,I,af⟩:=aiQ xI (ZR U aG.rV _ (λk Q=>⟨(xH Q).2,(xH Q).1⟩) λi j M ai=>ZS M ai) ajf;exact⟨bk,F,⟨_,by omega,I⟩,af⟩
theorem Ro {k:Nat}(Q:P k)(i:Nat):dU 54 ((aB E cs).W f k i)/\fg (h9 cs k (f k)) ((aB E cs).W f k i):=by
 have e:=ai3 U aG.rV Q i;have ao:=Rm U aG.rV Q;have F:=U.EX k (f k);have I:=U.sum λc=>c.2.1=(i:Int)/\c.1=(k:Int)/\c.2.2.1=(f k:Int)
 obtain⟨f1,f2⟩:=CN (q:=(aB E cs).W f k i) (v:=pF cs f k i) (d:=(h9 cs k (f k):Int)) (by omega) (by rw[<-e,ou,uG]);rw[mQ] at f2;refine⟨⟨eU f1 (by unfold pF;omega),eU f2 (by omega)⟩,pF cs f k i,by rw[<-e,uG]⟩
theorem axt {i t:Nat}(M:i<D E)(bD:t<=(c1 P (D E)).length):
  dU 708 ((aB E cs).st f i+bJ t λk=>(aB E cs).W f ((c1 P (D E)).getD k 0) i*((aB E cs).ff f P ((c1 P (D E)).getD k 0)-(aB E cs).bG ((c1 P (D E)).getD k 0) (f ((c1 P (D E)).getD k 0)))) /\
  (∀k,k<(c1 P (D E)).length->dU 438 ((aB E cs).W f ((c1 P (D E)).getD k 0) i*((aB E cs).ff f P ((c1 P (D E)).getD k 0)-(aB E cs).bG ((c1 P (D E)).getD k 0) (f ((c1 P (D E)).getD k 0))))) /\
  ∀k,k<(c1 P (D E)).length->dU 384 ((aB E cs).ff f P ((c1 P (D E)).getD k 0)-(aB E cs).bG ((c1 P (D E)).getD k 0) (f ((c1 P (D E)).getD k 0))):=by
 have hlen:(c1 P (D E)).length<=6:=by
  have:=mY (λi=>decide (P i)) (dW (D E));rw[sC] at this;have:=U.n5;unfold c1;omega
 obtain⟨bk,dA,⟨a,lB,cX⟩,tX⟩:=axs U aG;have gp:∀k,k<(c1 P (D E)).length->(c1 P (D E)).getD k 0<D E/\P ((c1 P (D E)).getD k 0):=λk Q=>xH Q;have Rp:=aG.good.aiX (d:=aB E cs) M;have CQ:c1 P (aB E cs).n=c1 P (D E):=rfl;rw[CQ] at Rp;generalize qh:c1 P (D E)=p at *
 have ajg:∀k,k<(D p)->0<=(aB E cs).ff f P (p.getD k 0)-(aB E cs).bG (p.getD k 0) (f (p.getD k 0)):=λk Q=>by
  have:=aG.gt _ (gp k Q).2;grind
 have axu:∀k,k<(D p)->(aB E cs).ff f P (p.getD k 0)-(aB E cs).bG (p.getD k 0) (f (p.getD k 0))<=((2^54:Nat):Rat):=λk Q=>by
  have F:=(Rn U aG (gp k Q).1).2;have I:=aG.ok.av7 (p.getD k 0) (f (p.getD k 0));grind
 have axv:0<iM (D p) λk=>h9 cs (p.getD k 0) (f (p.getD k 0)):=ah4 λk Q=>Rm U aG.rV (gp k Q).2;obtain⟨eW,hz⟩:∃eW,eW=324:=⟨_,rfl⟩;have pj:(iM (D p) λk=>h9 cs (p.getD k 0) (f (p.getD k 0)))<=2^eW:=ai0 (e:=eW) (λk _=>U.EX _ _) (by omega);have dE:=MC U.right f i;have Rq:=U.steady f i;have ZU:0<=(aB E cs).st f i:=by rw[<-dE];exact_mod_cast Rq.1
 have ab:=(Rn U aG M).2;rw[Rp] at ab
 have axw:(iM (D p) λk=>h9 cs (p.getD k 0) (f (p.getD k 0)))*bk<=2^(eW+a):=by
  rw[wc];exact o5 pj cX
 have axx:=axq (T:=λk=>(aB E cs).W f (p.getD k 0) i*((aB E cs).ff f P (p.getD k 0)-(aB E cs).bG (p.getD k 0) (f (p.getD k 0)))) (Mr axv dA) axw ZU (by rw[<-dE];exact fg.int _ _) (λk Q=>uA (aG.ok.axo f _ _) (ajg k Q)) (λk Q=>((Ro U aG (gp k Q).2 i).2.of_dvd (ah5 (b8:=λk=>h9 cs (p.getD k 0) (f (p.getD k 0))) Q)).mul (tX k Q)) ab bD;have hex:∀k,k<(D p)->dU 384 ((aB E cs).ff f P (p.getD k 0)-(aB E cs).bG (p.getD k 0) (f (p.getD k 0))):=λk Q=>((tX k Q).sz dA cX (ajg k Q) (axu k Q)).mono (by omega);exact⟨axx.1.mono (by omega),λk Q=>(Mv (Ro U aG (gp k Q).2 i).1 (hex k Q)).mono (by omega),hex⟩
end
end Go.Mini
namespace Go.Mini
open Go

def ZV:bY:=cq 49 2 [.t 4,.t 5] (X [bA 4 0,cO 5 false] (.seq (X [G 9 0,(eb 10 KO 9),fx 11 10,G 12 11,⟨some 13,some (12,false),.cN (.t 1)⟩,⟨some 14,some (12,false),.len (.t 13)⟩,⟨some 15,some (12,false),.cN (.t 0)⟩,⟨some 16,some (12,false),.len (.t 15)⟩,⟨some 17,some (12,false),.bin .neq (.t 14) (.t 16)⟩,ey 18 12 17] (a6 18 (X [bA 4 0,cO 5 false] .ret) .skip)) (X [bA 6 10] (.seq (X [G 19 0,cd 20 19,bA 21 0] (.block 0 (.loop  (X [bB 22 .lss 21 20] (.seq (a6 22 .skip (.exit 0)) (.seq (.block 1 (X [G 23 21,b0 24 4 19 21,bs 25 4 24,(aC 8 (.alloc 225008 [(al 0),(al 0),(al 0),(al 0)])),G 7 23,bq 4 8 25] (.seq (X [G 26 1,G 27 7,b0 28 4 26 27,bs 29 4 28,(eb 30 lZ 29),fx 31 30] (a6 31 (X [bA 4 0,cO 5 false] .ret) .skip)) (gb [G 32 1,G 33 7,b0 34 4 32 33,bs 35 4 34,bj 36 3 8,aU 37 1 36,(eb 38 vw 37),(cA 39 oU 35 38),bm 40 .lss 39 0] D3 (a6 40 (.ops [G 41 6,bj 42 2 8,aU 43 1 42,(aC 44 (.iO false (.t 41) (.t 43))),G 6 44]) .skip))))) (.ops [bm 45 .add 21 1,G 21 45]))))))) (.seq (X [G 46 6,bm 47 .eql 46 10] (a6 47 (X [bA 4 0,cO 5 false] .ret) .skip)) (X [G 48 6,G 4 48,cO 5 true] .ret))))))
def ZW:bY:=cq 46 1 [.t 2] (X [cO 2 false] (.seq (X [G 5 0,cd 6 5,bA 7 0] (.block 0 (.loop  (X [bB 8 .lss 7 6] (.seq (a6 8 .skip (.exit 0)) (.seq (.block 1 (X [b0 9 4 5 7,bs 10 4 9,(aC 4 (.alloc 240004 [(al 0),(al 0),(al 0),(al 0)])),bq 4 4 10] (gb [bj 11 0 4,aU 12 1 11,(aC 13 (.call GG [(.t 12),(.c (al 0)),(.c (al 59))])),fx 14 13,G 15 14,⟨some 16,some (15,false),.eu 1 (.t 4)⟩,⟨some 17,some (15,false),.load 1 false (.t 16)⟩,⟨some 18,some (15,false),.call GG [(.t 17),(.c (.J (.int .i64 (-1)))),(.c (al 59))]⟩,⟨some 19,some (15,false),.un .not (.t 18)⟩,ey 20 15 19,G 21 20,⟨some 22,some (21,false),.eu 2 (.t 4)⟩,⟨some 23,some (21,false),.load 1 false (.t 22)⟩,⟨some 24,some (21,false),.call GG [(.t 23),(.c (al 0)),(.c (al 9))]⟩,⟨some 25,some (21,false),.un .not (.t 24)⟩,ey 26 21 25,G 27 26,⟨some 28,some (27,false),.eu 3 (.t 4)⟩,⟨some 29,some (27,false),.load 1 false (.t 28)⟩,⟨some 30,some (27,false),.call GG [(.t 29),(.c (al 0)),(.c (al 1000000000000000))]⟩,⟨some 31,some (27,false),.un .not (.t 30)⟩,ey 32 27 31,G 33 32,⟨some 34,some (33,false),.eu 0 (.t 4)⟩,⟨some 35,some (33,false),.load 1 false (.t 34)⟩,⟨some 36,some (33,false),.cN (.t 0)⟩,⟨some 37,some (33,false),.nn 4 (.t 36) (.c (al 0))⟩,⟨some 38,some (33,false),.eu 0 (.t 37)⟩,⟨some 39,some (33,false),.load 1 false (.t 38)⟩,⟨some 40,some (33,false),.bin .neq (.t 35) (.t 39)⟩,ey 41 33 40] [[],[],[],[],[],[],[],[],[],[],[],[],[],[],[],[],[],[],[],[],[],[],[],[],[],[],[],[],[],[],[]] (a6 41 (X [cO 2 false] .ret) .skip)))) (.ops [bm 42 .add 7 1,G 7 42]))))))) (X [G 43 0,cd 44 43,bm 45 .leq 44 2000,G 2 45] .ret)))
def ZX:bY:=cq 11 1 [.cell 2 4 true] (X [(aC 2 (.alloc 241002 [(al 0),.nil,(al 0),.nil]))] (X [G 6 0,(aC 7 (.call zU [(.t 6),(.c (al 1))])),G 5 7,bK 8 0 5,bK 9 1 5,(aC 3 (.alloc 241003 [(al 0),.nil,(al 0),.nil])),bq 4 3 8,G 4 9] (X [bs 10 4 3,bq 4 2 10] .ret)))
def EY:bY:=cq 118 2 [.t 4,.t 5] (X [dX 2 249002 0,eB 4,bA 5 0] (.seq (gb [bs 19 4 2,(eb 20 lZ 19),fx 21 20,G 22 21,⟨some 23,some (22,false),.load 4 true (.t 2)⟩,⟨some 24,some (22,false),.call vw [(.c (al 0))]⟩,⟨some 25,some (22,false),.call oU [(.t 23),(.t 24)]⟩,⟨some 26,some (22,false),.bin .lss (.t 25) (.c (al 0))⟩,ey 27 22 26,G 28 27,⟨some 29,some (28,false),.cN (.t 1)⟩,⟨some 30,some (28,false),.call KO [(.t 29)]⟩,⟨some 31,some (28,false),.un .not (.t 30)⟩,ey 32 28 31] K0 (a6 32 (X [eB 4,bA 5 1] .ret) .skip)) (X [G 33 1,cd 34 33,(aC 35 (.mz 249035 [(al 0),.nil,(al 0),.nil] 64 (.t 34) (.t 34))),G 6 35] (X [bs 36 4 2,(aC 7 (.alloc 249007 [(al 0),.nil,(al 0),.nil])),bq 4 7 36] (.seq (X [bA 37 0] (.block 0 (.loop  (X [bm 38 .lss 37 10] (.seq (a6 38 .skip (.exit 0)) (.seq (.block 1 (X [G 39 37,G 8 39] (X [bA 9 0] (.seq (X [G 40 1,cd 41 40,bA 42 0] (.block 2 (.loop  (X [bB 43 .lss 42 41] (.seq (a6 43 .skip (.exit 2)) (.seq (.block 3 (X [b0 44 4 40 42,bs 45 4 44,(aC 11 (.alloc 249011 [(al 0),(al 0),(al 0),(al 0)])),bq 4 11 45] (X [bj 46 2 11,aU 47 1 46,G 48 8,bB 49 .eql 47 48] (a6 49 (.ops [G 50 9,bj 51 3 11,aU 52 1 51,bB 53 .add 50 52,G 9 53]) .skip)))) (.ops [bm 54 .add 42 1,G 42 54]))))))) (gb [bs 55 4 7,G 56 9,(eb 57 vw 56),(cA 58 oU 55 57),bm 59 .geq 58 0,G 12 59] aeW (.seq (X [G 60 1,cd 61 60,bA 62 0] (.block 4 (.loop  (X [bB 63 .lss 62 61] (.seq (a6 63 .skip (.exit 4)) (.seq (.block 5 (X [G 64 62,b0 65 4 60 62,bs 66 4 65,(aC 14 (.alloc 249014 [(al 0),(al 0),(al 0),(al 0)])),G 13 64,bq 4 14 66] (.seq (X [bj 67 2 14,aU 68 1 67,G 69 8,bB 70 .neq 68 69] (a6 70 (.exit 5) .skip)) (X [G 71 6,G 72 13,bj 73 3 14,aU 74 1 73,(eb 75 vw 74),b0 76 4 71 72,bq 4 76 75] (.seq (X [G 77 12] (a6 77 (.exit 5) .skip)) (gb [bj 79 3 14,aU 80 1 79,(eb 81 vw 80),bs 82 4 7,(cA 83 wX 81 82),G 78 83,bK 84 0 78,bK 85 1 78,(aC 15 (.alloc 249015 [(al 0),.nil,(al 0),.nil])),bq 4 15 84,G 16 85] [[],[],[],[],[],[],[],[],[1,3],[],[]] (.seq (X [G 86 16,bm 87 .eql 86 0] (a6 87 (.nX [G 89 6,G 90 13,bs 91 4 15,G 92 9,(eb 93 vw 92),(cA 94 DR 91 93),G 88 94,bK 95 0 88,bK 96 1 88,b0 97 4 89 90,bq 4 97 95,G 16 96] aeX) .skip)) (X [G 98 16,bm 99 .neq 98 0] (a6 99 (X [G 100 16,eB 4,G 5 100] .ret) .skip))))))))) (.ops [bm 101 .add 62 1,G 62 101]))))))) (.seq (X [G 102 12,fx 103 102] (a6 103 (X [(aC 104 (.call vw [(.c (al 0))])),bq 4 7 104] (.exit 1)) .skip)) (gb [bs 106 4 7,G 107 9,(eb 108 vw 107),(cA 109 yv 106 108),G 105 109,bK 110 0 105,bK 111 1 105,(aC 17 (.alloc 249017 [(al 0),.nil,(al 0),.nil])),bq 4 17 110,G 18 111] [[],[],[],[],[],[],[],[0],[],[]] (.seq (X [G 112 18,bm 113 .neq 112 0] (a6 113 (X [G 114 18,eB 4,G 5 114] .ret) .skip)) (.ops [bs 115 4 17,bq 4 7 115])))))))))) (.ops [bm 116 .add 37 1,G 37 116]))))))) (.seq (.ghost (.freeze 6) (.ops [G 117 6,G 4 117,bA 5 0])) .ret))))))
def ZY:bY:=cq 15 3 [.t 6] (X [cO 6 false] (X [G 7 0,G 8 1,bB 9 .geq 7 8,G 10 9,⟨some 11,some (10,true),.cN (.t 0)⟩,⟨some 12,some (10,true),.cN (.t 2)⟩,⟨some 13,some (10,true),.bin .leq (.t 11) (.t 12)⟩,gK 14 10 13,G 6 14] .ret))


def ck (c:au):List Data:=[.int .i64 c.1,.int .i64 c.2.1,.int .i64 c.2.2.1,.int .i64 c.2.2.2]
theorem EZ (c:au):(ck c).length=4:=rfl
theorem ZZ (c:au):((ck c).map R.J).all R.one=true:=rfl
theorem r0:∀a b:au,ck a=ck b->a=b:=by
 rintro⟨c0,dj,a3,a4⟩ ⟨di,eK,j7,mc⟩ h;simp only[ck,bf,Data.int.injEq,true_and,and_true] at h;obtain⟨rfl,rfl,rfl,rfl⟩:=h
 rfl
theorem axy {cs:List au}{i:Nat}{c:au}(h:cs[i]?=some c)(aP:au->Int):cR (cs.take (i+1)) aP=cR (cs.take i) aP+aP c:=by
 rw[hc,h,Mm];simp[cR]
def Ii (cs:List au):Prop:=D cs<=2000/\∀c∈cs,0<=c.2.2.2/\c.2.2.2<=1000000000000000
theorem Ii.sum {cs:List au}(h:Ii cs)(p:au->Prop)[DecidablePred p](i:Nat):0<=cR (cs.take i) (λc=>if p c then c.2.2.2 else 0)/\cR (cs.take i) (λc=>if p c then c.2.2.2 else 0)<=2000000000000000000:=by
 have F:=Q8 (cs:=cs.take i) (aP:=λc=>if p c then c.2.2.2 else 0) (B:=1000000000000000) (by omega) λc H=>by
  have:=h.2 c (List.mem_of_mem_take H)
  try dsimp only
  split<;>omega
 have I:=h.1;have af:(cs.take i).length<=D cs:=by rw[fI];omega
 omega
theorem ajh {E:List Int}{cs:List au}(h:jr E cs=true):Ii cs :=
 ⟨(hD.1 h).2.1,λc H=>⟨((hD.1 h).2.2.2 c H).2.2.2.2.2.2.1,((hD.1 h).2.2.2 c H).2.2.2.2.2.2.2⟩⟩
theorem Rr {n:Int}(h:dC n):hB (bT n) (bT 1)=(av (n:Rat),0):=by
 rw[Ak (yK h) (by decide +kernel) (by decide),Mu,show ((1:Int):Rat)=1 from rfl,show (n:Rat)/1=n by grind]
def wh:=cu w4 λ(n:Int)=>cU (dC n) (.same (.agg (aE (av (n:Rat)))))
@[go_sem] theorem CT (n:Int)(H:dC n):wh [.int .i64 n]=some (.same (.agg (aE (av (n:Rat))))):=(cD zX n).trans (cZ H _)
theorem axz (T:bl)(me:T zU=aW Eu)(n:Int)(H:dC n):WP T Xc (.same (.agg (aE (av (n:Rat))))) [.J (.int .i64 n)]:=by
 refine cE ?_;simp only[Xc];have F:dC 1:=by unfold dC;omega
 have h:=Rr H;generalize av (n:Rat)=aP at *;obtain⟨⟨a,b⟩,⟨c,d⟩⟩:=aP;simp only[go_sem,go_sem_proc,me,H,F,h,eH,aE];repeat' (first|refine ax ?_ ?_|fail)<;>intro h<;>simp only[h,go_sem,go_sem_proc,me,H,F,h,eH,aE]
def Ij:=cu w4 λ(n:Int)=>cU (dC n) (.same (.agg (aE (av (n:Rat)))))
@[go_sem] theorem axA (n:Int)(H:dC n):Ij [.int .i64 n]=some (.same (.agg (aE (av (n:Rat))))):=(cD zX n).trans (cZ H _)
theorem axB (T:bl)(me:T zU=aW Eu)(n:Int)(H:dC n):WP T ZX (.same (.agg (aE (av (n:Rat))))) [.J (.int .i64 n)]:=by
 refine cE ?_;simp only[ZX];have F:dC 1:=by unfold dC;omega
 have h:=Rr H;generalize av (n:Rat)=aP at *;obtain⟨⟨a,b⟩,⟨c,d⟩⟩:=aP;simp only[go_sem,go_sem_proc,me,H,F,h,eH,aE];repeat' (first|refine ax ?_ ?_|fail)<;>intro h<;>simp only[h,go_sem,go_sem_proc,me,H,F,h,eH,aE]
theorem axC {x:List Data}(h:Fits [.int .i64,.int .i64,.int .i64,.int .i64] x):∃c:au,x=ck c:=by
 simp only[Fit,Fits] at h;obtain⟨_,_,rfl,⟨a,rfl,-⟩,_,_,rfl,⟨b,rfl,-⟩,_,_,rfl,⟨c,rfl,-⟩,_,_,rfl,⟨d,rfl,-⟩,rfl⟩:=h;exact⟨(a,b,c,d),rfl⟩
theorem axD {es:List (List Data)}(h:∀x∈es,Fit (.st [.int .i64,.int .i64,.int .i64,.int .i64]) x):∃l:List au,es=l.map ck:=by
 obtain⟨l,e,-⟩:=Ue (e:=ck) (good:=λ_=>True) λx O=>by
  have:=h x O;unfold Fit at this;obtain⟨c,rfl⟩:=axC this;exact⟨c,rfl,trivial⟩
 exact⟨l,e⟩
end Go.Mini
namespace Go.Mini
open Classical
structure Alike (d e:Day):Prop where
 n:d.n=e.n
 E:d.E=e.E
 mem:∀c,c∈d.dk↔c∈e.dk
 sum:∀aP,cx d.dk aP=cx e.dk aP
theorem Alike.symm {d e:Day}(h:Alike d e):Alike e d:=⟨h.n.symm,h.E.symm,λc=>(h.mem c).symm,λaP=>(h.sum aP).symm⟩
section
variable {d e:Day} (h:Alike d e)
include h
theorem Alike.bG:d.bG=e.bG:=by funext k r;exact h.sum _
theorem Alike.S:d.S=e.S:=by funext k r;exact h.sum _
theorem Alike.w:d.w=e.w:=by funext c;unfold Day.w;rw[h.S]
theorem Alike.q:d.q=e.q:=by funext f x c;unfold Day.q;rw[h.bG,h.w]
theorem Alike.l:d.l=e.l:=by funext f P x c;unfold Day.l;rw[h.bG,h.w]
theorem Alike.hh:d.hh=e.hh:=by funext x c;unfold Day.hh;rw[h.bG,h.w]
theorem Alike.fe:d.fe=e.fe:=by funext a i;unfold Day.fe;rw[h.E,h.sum]
theorem Alike.s6:d.s6=e.s6:=by funext x i;unfold Day.s6;rw[h.fe,h.hh]
theorem Alike.gj:d.gj=e.gj:=by funext C x;unfold Day.gj;rw[h.n]
theorem Alike.cap:d.cap=e.cap:=by funext f g C k;unfold Day.cap;rw[h.bG]
theorem Alike.closed (f:Nat->Nat)(C:Nat->Prop):d.closed f C↔e.closed f C:=by
 unfold Day.closed;exact⟨λk c H=>k c ((h.mem c).2 H),λk c H=>k c ((h.mem c).1 H)⟩
theorem Alike.inv {f:Nat->Nat}{g:Nat->Rat}(a:Inv d f g):Inv e f g:=by
 obtain⟨F,I,af,aO,br⟩:=a;refine⟨F,λi M=>?_,λi M aH=>?_,λi M aH=>?_,λC g7 axE axF=>?_⟩
 ·have:=I i (by rw[h.n];exact M);rwa [h.fe,h.q] at this
 ·have:=af i (by rw[h.n];exact M) aH;rwa [h.bG] at this
 ·have:=aO i (by rw[h.n];exact M) aH;rwa [h.bG] at this
 ·have:=br C g7 (λi M=>by rw[h.n];exact axE i M) ((h.closed f C).2 axF);rwa [h.gj,h.fe,h.q,h.cap,h.bG] at this
theorem Alike.ok (a:d.dt):e.dt:=⟨λc H=>by rw[<-h.n];exact a.aF c ((h.mem c).2 H),λc H=>by rw[<-h.n];exact a.to c ((h.mem c).2 H),λc H=>a.bw c ((h.mem c).2 H),λc H=>a.am c ((h.mem c).2 H),λi M=>by rw[<-h.E];exact a.E i (by rw[h.n];exact M)⟩
theorem Alike.aji {f:Nat->Nat}{x:Nat->Rat}(a:nI d f x):nI e f x:=by
 obtain⟨g,F,I,af⟩:=a;refine⟨g,h.inv F,λi M=>?_,λi M=>af i (by rw[h.n];exact M)⟩;have:=I i (by rw[h.n];exact M);rwa [h.fe,h.q] at this
theorem Alike.axG:nI d=nI e:=by
 funext f x
 exact propext ⟨h.aji,h.symm.aji⟩
theorem Alike.top:d.top=e.top:=by
 funext f
 unfold Day.top;rw[h.axG]
theorem Alike.h8:d.h8=e.h8:=by
 funext f
 unfold Day.h8;rw[h.top,h.bG,h.n]
theorem Alike.jF:d.jF=e.jF:=by
 funext x i k
 induction k with
 |zero=>rfl
 |succ k ay=>unfold Day.jF;rw[h.bG,ay]
theorem Alike.gG:d.gG=e.gG:=by
 funext f x i
 unfold Day.gG;rw[h.n,h.bG,h.jF]
theorem Alike.rounds:d.rounds=e.rounds:=by
 funext k
 induction k with
 |zero=>funext f;rfl
 |succ k ay =>
  funext f
  unfold Day.rounds;rw[h.h8,h.gG,h.top,ay]
end
def dh (cs:List au)(i k:Nat):List au:=cs.filter λc=>c.1==(i:Int)&&c.2.2.1==(k:Int)
theorem E0 {cs:List au}{i k:Nat}{c:au}:c∈dh cs i k↔c∈cs/\c.1=(i:Int)/\c.2.2.1=(k:Int):=by
 unfold dh;rw[xD,eM,beq_iff_eq,beq_iff_eq]
def dz (n:Nat)(cs:List au):List au:=(dW n).flatMap λi=>(dW 10).flatMap λk=>dh cs i k
theorem axH (cs:List au)(i k j r:Nat):dh (dh cs i k) j r=if i=j/\k=r then dh cs i k else []:=by
 unfold dh;rw[List.filter_filter]
 by_cases h:i=j/\k=r
 ·obtain⟨rfl,rfl⟩:=h;rw[ad ⟨rfl,rfl⟩]
  congr 1
  funext c
  simp
 ·rw[ah h,Ik];intro c _;simp only[eM,beq_iff_eq];rintro⟨⟨F,I⟩,af,aO⟩;exact h ⟨by omega,by omega⟩
theorem ajj {α:Type}{n i:Nat}(M:i<n)(aP:Nat->List α)(h:∀k,k<n->k≠i->aP k=[]):(dW n).flatMap aP=aP i:=by
 induction n with
 |zero=>omega
 |succ n ay =>
  rw[ow,y5,qE,CU,fE]
  by_cases aK:i=n
  ·subst aK
   have:(dW i).flatMap aP=[]:=by
    rw[ajk];intro k Q;have:=gX.1 Q;exact h k (by omega) (by omega)
   rw[this,jm]
  ·rw[ay (by omega) λk Q=>h k (by omega),h n (by omega) (Ne.symm aK),fE]
theorem ajl {α:Type}(l:List α)(aP:α->List au)(i k:Nat):dh (l.flatMap aP) i k=l.flatMap λx=>dh (aP x) i k:=by
 unfold dh
 induction l with
 |nil=>rfl
 |cons a l ay=>rw[qE,qE,pG,ay]
theorem ajm {n i k:Nat}(cs:List au)(M:i<n)(Q:k<10):dh (dz n cs) i k=dh cs i k:=by
 unfold dz;rw[ajl];simp only[ajl,axH];rw[ajj M,ajj Q]
 ·rw[ad ⟨rfl,rfl⟩]
 ·intro r _ ab;rw[ah λh=>ab h.2]
 ·intro j _ ai;rw[ajk];intro r _;rw[ah λh=>ai h.1]
theorem ajn {n:Nat}{a b:List au}(h:∀i,i<n->∀k,k<10->dh a i k=dh b i k):dz n a=dz n b:=by
 unfold dz;rw[y6,y6]
 congr 1
 refine mI λi M=>?_;rw[y6,y6]
 congr 1
 exact mI λk Q=>h i (gX.1 M) k (gX.1 Q)
theorem axI (n:Nat)(cs:List au):dz n (dz n cs)=dz n cs:=ajn λ_ M _ Q=>ajm cs M Q
theorem Z0 {n:Nat}{cs:List au}(ab:∀c∈cs,0<=c.1/\c.1<n/\0<=c.2.2.1/\c.2.2.1<10){c:au}:c∈dz n cs↔c∈cs:=by
 unfold dz;simp only[yi,gX,E0]
 constructor
 ·rintro⟨i,-,k,-,h,-⟩;exact h
 ·intro H;have:=ab c H;exact⟨c.1.toNat,by omega,c.2.2.1.toNat,by omega,H,by omega,by omega⟩
theorem Il (a b:List en)(aP:en->Rat):cx (a++b) aP=cx a aP+cx b aP:=by
 induction a with
 |nil=>simp only[jm,cx];grind
 |cons c l ay=>rw[jT,cx,cx,ay];grind
theorem ajo (aP:Nat->List au)(bQ:en->Rat)(n:Nat):cx (((dW n).flatMap aP).map cJ) bQ=bJ n λi=>cx ((aP i).map cJ) bQ:=by
 induction n with
 |zero=>rfl
 |succ n ay=>rw[ow,y5,jD,Il,ay,bJ,qE,CU,fE]
theorem axJ {l:List en}(ar:∀c∈l,c.bw<10)(b:Nat->en->Rat):bJ 10 (λk=>cx l (λc=>if c.bw=k then b k c else 0))=cx l (λc=>b c.bw c):=by
 induction l with
 |nil=>exact s0 λk _=>rfl
 |cons c l ay =>
  rw[cx,<-ay λx O=>ar x (gZ _ O)];have e:(λk:Nat=>cx (c::l) (λc=>if c.bw=k then b k c else 0))=λk=>(if c.bw=k then b k c else 0)+cx l (λc=>if c.bw=k then b k c else 0):=rfl;rw[e,v7]
  congr 1
  rw[y1 (ar c gq) λk _ Q=>ah (Ne.symm Q),ad rfl]
theorem Z1 {cs:List au}(ab:∀c∈cs,0<=c.1/\0<=c.2.2.1)(i k:Nat)(bQ:en->Rat):cx ((dh cs i k).map cJ) bQ=cx (cs.map cJ) λc=>if c.aF=i/\c.bw=k then bQ c else 0:=by
 induction cs with
 |nil=>rfl
 |cons c l ay =>
  have ao:=ab c gq;have ay:=ay λx O=>ab x (gZ _ O);unfold dh at ay ⊢;rw[eA,cx,<-ay]
  by_cases h:(cJ c).aF=i/\(cJ c).bw=k
  ·obtain⟨F,I⟩:=h;have az:c.1=(i:Int):=by have:c.1.toNat=i:=F;omega
   have aD:c.2.2.1=(k:Int):=by have:c.2.2.1.toNat=k:=I;omega
   rw[uL (by simp[az,aD]),eA,cx,ad ⟨F,I⟩]
  ·rw[ah h,wi,wg];intro ag;rw[eM,beq_iff_eq,beq_iff_eq] at ag;refine h ⟨?_,?_⟩
   ·show c.1.toNat=i;omega
   ·show c.2.2.1.toNat=k;omega
theorem ajp {n:Nat}{cs:List au}(ab:∀c∈cs,0<=c.1/\c.1<n/\0<=c.2.2.1/\c.2.2.1<10)(bQ:en->Rat):cx ((dz n cs).map cJ) bQ=cx (cs.map cJ) bQ:=by
 unfold dz;rw[ajo]
 have bV:∀c∈cs.map cJ,c.aF<n:=λc H=>by
  obtain⟨x,O,rfl⟩:=dT.1 H;have:=ab x O;show x.1.toNat<n;omega
 have hY:∀c∈cs.map cJ,c.bw<10:=λc H=>by
  obtain⟨x,O,rfl⟩:=dT.1 H;have:=ab x O;show x.2.2.1.toNat<10;omega
 have e:(λi=>cx (((dW 10).flatMap λk=>dh cs i k).map cJ) bQ)=λi=>cx (cs.map cJ) λc=>if c.aF=i then bQ c else 0:=by
  funext i
  rw[ajo,<-axJ hY λ_ c=>if c.aF=i then bQ c else 0]
  congr 1
  funext k
  rw[Z1 λc H=>⟨(ab c H).1,(ab c H).2.2.1⟩];refine xC λc _=>?_
  by_cases F:c.bw=k
  ·rw[ad F]
   by_cases I:c.aF=i
   ·rw[ad ⟨I,F⟩,ad I]
   ·rw[ah λh=>I h.1,ah I]
  ·rw[ah F,ah λh=>F h.2]
 rw[e,QW bV λ_ c=>bQ c]
theorem ajq {E:List Int}{cs:List au}(h:jr E cs=true):Alike (aB E cs) (aB E (dz (D E) cs)):=by
 have ab:∀c∈cs,0<=c.1/\c.1<D E/\0<=c.2.2.1/\c.2.2.1<10:=λc H=>by
  have:=(hD.1 h).2.2.2 c H;exact⟨this.1,this.2.1,this.2.2.2.2.1,this.2.2.2.2.2.1⟩
 refine⟨rfl,rfl,λc=>?_,λaP=>(ajp ab aP).symm⟩;show c∈cs.map cJ↔c∈(dz (D E) cs).map cJ;rw[dT,dT];simp only[Z0 ab]
theorem ajr {n:Nat}{cs:List au}(ab:∀c∈cs,0<=c.1/\c.1<n/\0<=c.2.2.1/\c.2.2.1<10):(dz n cs).length=D cs:=by
 have F:∀l:List au,cx (l.map cJ) (λ_=>1)=(D l:Rat):=λl=>by
  induction l with
  |nil=>rfl
  |cons a l ay=>rw[eA,cx,ay,h0,Rat.natCast_add,Rat.add_comm];rfl
 have:=ajp ab λ_=>1;rw[F,F] at this;exact_mod_cast this
theorem Z2 {E:List Int}{cs:List au}(h:fo E cs):fo E (dz (D E) cs):=by
 have iq:=hD.1 h.right
 have ab:∀c∈cs,0<=c.1/\c.1<D E/\0<=c.2.2.1/\c.2.2.1<10:=λc H=>by
  have:=iq.2.2.2 c H;exact⟨this.1,this.2.1,this.2.2.2.2.1,this.2.2.2.2.2.1⟩
 refine⟨hD.2 ⟨iq.1,by rw[ajr ab];exact iq.2.1,iq.2.2.1,λc H=>iq.2.2.2 c ((Z0 ab).1 H)⟩,h.n5,by rw[ajr ab];exact h.rZ,λc H=>h.am c ((Z0 ab).1 H)⟩
end Go.Mini
namespace Go.Mini
open Classical
def Day.hr (d:Day):Nat->Nat:=(d.rounds (10*d.n) λ_=>10).2
def Day.iY (d:Day):List (List Nat):=(d.rounds (10*d.n) λ_=>10).1
def Day.cL (d:Day):Nat->Rat:=d.top d.hr
theorem ajs (n k:Nat):mW n (λ_=>k)=k*n:=by
 induction n with
 |zero=>rfl
 |succ n ay=>rw[mW,ay,Nat.mul_succ]
section
variable {d:Day} (aa:d.dt)
include aa
theorem Day.dt.hex:∀f,Reach d f->∃h,nI d f h:=λ_ ab=>axa aa ab
theorem MD:Reach d d.hr/\d.h8 d.hr=[]:=ahV aa aa.hex (10*d.n) (λ_=>10) (Reach.start aa) (by rw[ajs];exact b1 _)
theorem Im:nI d d.hr d.cL:=Day.CK (aa.hex _ (MD aa).1)
theorem Rs:∀i,i<d.n->d.bG i (d.hr i)<=d.cL i:=by
 intro i M;apply mb;intro aK;have:i∈d.h8 d.hr:=Day.Ml.2 ⟨M,by unfold Day.cL at aK;grind⟩
 rw[(MD aa).2] at this
 cases this
theorem Io:(∀i,i<d.n->d.cL i=d.s6 d.cL i)/\∀i,i<d.n->(d.hr i<10↔d.cL i<d.bG i 10):=by
 obtain⟨g,F,I,af⟩:=Im aa;exact F.final aa I af (Rs aa)
theorem ME {i:Nat}(M:i<d.n):0<=d.cL i:=(Im aa).Q6 aa M
end
theorem QY {d:Day}(aa:d.dt)(i k:Nat):0<=d.S i k:=y2 λc H=>by
 try dsimp only
 split
 ·exact aa.am c H
 ·exact gf
end Go.Mini
namespace Go.Mini
open Classical
def Day.xJ (d:Day)(i r:Nat):Nat:=((dW r).filter λk=>decide (0<d.S i k)).length
theorem axK (d:Day)(i:Nat){r s:Nat}(h:r<=s):d.xJ i r<=d.xJ i s:=by
 induction s with
 |zero =>
      have:r=0:=by omega
      subst this;exact b1 _
 |succ s ay =>
  by_cases ab:r=s+1
  ·rw[ab];exact b1 _
  ·have:=ay (by omega);unfold Day.xJ at *;rw[ow,pG,fr];omega
theorem axL (d:Day)(i:Nat){r s:Nat}(h:r<s)(cQ:0<d.S i r):d.xJ i r+1<=d.xJ i s:=by
 have F:=axK d i (r:=r+1) (s:=s) (by omega);unfold Day.xJ at *;rw[ow,pG,fr,uL (by simpa using cQ)] at F;simp only[qg,h0,List.length_nil] at F;omega
theorem ajt (d:Day)(f:Nat->Nat):(d.h8 f).Pairwise (·<·):=List.Pairwise.filter _ List.pairwise_lt_range
theorem axM (d:Day)(f:Nat->Nat)(i:Nat):(d.h8 f).count i=if i∈d.h8 f then 1 else 0:=by
 have axN:(d.h8 f).Nodup:=(ajt d f).imp λh=>by omega
 rw[axN.count]
section
variable {d:Day} (aa:d.dt)
include aa
theorem axO {f:Nat->Nat}(ab:Reach d f){i:Nat}(M:i<d.n):(i∈d.h8 f->d.gG f (d.top f) i<f i/\0<d.S i (d.gG f (d.top f) i))/\(i ∉ d.h8 f->d.gG f (d.top f) i=f i):=by
 have bD:=Day.CK (aa.hex f ab);have hle:∀i,f i<=10:=by obtain⟨g,cv,-⟩:=bD;exact cv.le
 have aH:=Zo aa hle (h:=d.top f) λi cH=>bD.Q6 aa cH
 constructor
 ·intro hm;obtain⟨F,I⟩:=Day.Ml.1 hm;have af:=aH.2.1 i F I;refine⟨af.1,?_⟩;have aO:=d.s3 i (d.gG f (d.top f) i);grind
 ·intro hm;refine aH.2.2 i M ?_;apply mb;intro aK;exact hm (Day.Ml.2 ⟨M,by grind⟩)
theorem aju:∀k (f:Nat->Nat),Reach d f->(∀l∈(d.rounds k f).1,l≠[]/\l.Pairwise (·<·)/\∀i∈l,i<d.n)/\∀i,i<d.n->(d.rounds k f).1.flatten.count i+d.xJ i ((d.rounds k f).2 i)<=d.xJ i (f i)/\((d.rounds k f).2 i<f i↔0<(d.rounds k f).1.flatten.count i)/\(d.rounds k f).2 i<=f i
 |0,f,ab=>⟨λl ar=>(by cases ar),λi M=>by simp[Day.rounds]⟩
 |k+1,f,ab=>by
  unfold Day.rounds
  by_cases bE:d.h8 f=[]
  ·rw[ad bE];exact⟨λl ar=>(by cases ar),λi M=>by simp⟩
  ·rw[ah bE];obtain⟨F,I⟩:=aju k _ (ab.next aa aa.hex);refine⟨λl ar=>?_,λi M=>?_⟩
   ·dsimp only at ar;rcases hH.1 ar with rfl|ar
    ·exact⟨bE,ajt d f,λi M=>(Day.Ml.1 M).1⟩
    ·exact F l ar
   ·obtain⟨af,aO,br⟩:=I i M;obtain⟨f1,f2⟩:=axO aa ab M;dsimp only;rw[jt,List.count_append,axM]
    by_cases hm:i∈d.h8 f
    ·obtain⟨f3,f4⟩:=f1 hm;rw[ad hm];have:=axL d i f3 f4;refine⟨by omega,?_,by omega⟩
     constructor<;>intro _<;>omega
    ·have f3:=f2 hm;rw[f3] at af aO br;rw[ah hm];refine⟨by omega,?_,by omega⟩
     rw[aO];omega
theorem axP:(∀l∈d.iY,l≠[]/\l.Pairwise (·<·)/\∀i∈l,i<d.n)/\∀i,i<d.n->d.iY.flatten.count i<=d.xJ i 10/\(d.cL i<d.bG i 10↔0<d.iY.flatten.count i):=by
 obtain⟨F,I⟩:=aju aa (10*d.n) (λ_=>10) (Reach.start aa);refine⟨F,λi M=>?_⟩;obtain⟨af,aO,br⟩:=I i M;unfold Day.iY;refine⟨by omega,?_⟩
 rw[<-aO,<-(Io aa).2 i M]
 rfl
omit aa in
theorem axQ {i:Nat}{x:Rat}(ao:0<=x):∀k,x<d.bG i k->∃r,r<k/\d.bG i r<=x/\x<d.bG i (r+1):=by
 intro k
 induction k with
 |zero=>intro h;rw[d.QX] at h;grind
 |succ k ay =>
  intro h
  by_cases I:x<d.bG i k
  ·obtain⟨r,af,aO⟩:=ay I;exact⟨r,by omega,aO⟩
  ·exact⟨k,by omega,by grind,h⟩
theorem axR {i:Nat}{x:Nat->Rat}(ao:0<=x i):(∃c∈d.dk,c.aF=i/\d.hh x c<c.am)↔x i<d.bG i 10:=by
 constructor
 ·rintro⟨c,H,rfl,F⟩;apply mb;intro I;have:=aa.uz c.aF (r:=c.bw+1) (s:=10) (by have:=aa.bw c H;omega);unfold Day.hh at F;rw[ad (by grind)] at F;grind
 ·intro F;obtain⟨r,I,af,aO⟩:=axQ ao 10 F;have br:=d.s3 i r;have cQ:0<d.S i r:=by grind
  obtain⟨c,H,aG⟩:=Mf cQ
  by_cases hy:c.aF=i/\c.bw=r
  ·obtain⟨rfl,rfl⟩:=hy;rw[ad ⟨rfl,rfl⟩] at aG;refine⟨c,H,rfl,?_⟩;unfold Day.hh;rw[ah (by grind),s4 (by grind)];have hw:=aa.Mh H aG;have bR:=Day.CI cQ;have bN:=Rat.mul_lt_mul_of_pos_left (show x c.aF-d.bG c.aF c.bw<d.S c.aF c.bw by grind) hw;grind
  ·rw[ah hy] at aG;grind
theorem ajv (i:Nat)(k:Nat):0<d.S i k↔∃c∈d.dk,c.aF=i/\c.bw=k/\0<c.am:=by
 constructor
 ·intro h;obtain⟨c,H,aG⟩:=Mf h
  by_cases hy:c.aF=i/\c.bw=k
  ·rw[ad hy] at aG;exact⟨c,H,hy.1,hy.2,aG⟩
  ·rw[ah hy] at aG;grind
 ·rintro⟨c,H,rfl,rfl,aG⟩;have:=aa.QZ H;grind
end
end Go.Mini
namespace Go.Mini
open Classical
def Day.times (d:Day)(k:Rat):Day:=⟨d.n,λi=>k*d.E i,d.dk.map λc=>⟨c.aF,c.to,c.bw,k*c.am⟩⟩
section
variable {d:Day} (aa:d.dt) {k:Rat} (Q:0<k)
include Q
end
section
variable {d:Day} (aa:d.dt) (dm:Nat)
include aa
end
end Go.Mini
namespace Go.Mini
open Classical
theorem ajw {d:Day}(aa:d.dt){f:Nat->Nat}{g:Nat->Rat}(M:Inv d f g):∀m (P:Nat->Prop),idle d P<=m->iD d f g P (d.ff f P)->∃P,tb d f P/\∀i,i<d.n->d.ff f P i=d.top f i
 |m,P,hm,aG=>by
  by_cases U:∀i,i<d.n->f i<10->d.bG i (f i)<d.ff f P i->P i
  ·exact⟨P,⟨aa,g,M,aG⟩,aG.aiZ aa M U⟩
  ·have⟨i,F,I,af,aO⟩:∃i,i<d.n/\f i<10/\d.bG i (f i)<d.ff f P i/\¬ P i:=by
    apply mb;intro aK;exact U λi F I af=>mb λaO=>aK ⟨i,F,I,af,aO⟩
   have aA:=aiY (h:=d.ff f P) F I af aO
   cases m with
   |zero=>omega
   |succ m=>exact ajw aa M m _ (by omega) (aG.succ aa M)
theorem Z3 {d:Day}(aa:d.dt){f:Nat->Nat}(ab:Reach d f):∃P,tb d f P/\∀i,i<d.n->d.ff f P i=d.top f i:=by
 obtain⟨g,M,-⟩:=ab;exact ajw aa M _ _ (b1 _) (iD.first aa M)
section
variable {E:List Int} {cs:List au} (U:fo E cs)
include U
theorem ajx {f:Nat->Nat}(ab:Reach (aB E cs) f){i:Nat}(M:i<D E):dU 428 ((aB E cs).top f i):=by
 obtain⟨P,aG,he⟩:=Z3 U.ok ab;rw[<-he i M];exact aje U aG M
theorem y7 {i:Nat}(M:i<D E):dU 428 ((aB E cs).cL i):=ajx U (MD U.ok).1 M
theorem axS {i:Nat}(M:i<D E):(aB E cs).cL i<=((2^54:Nat):Rat):=by
 obtain⟨P,aG,he⟩:=Z3 U.ok (MD U.ok).1;have:=(Rn U aG M).2;rw[he i M] at this;exact this
theorem ajy:∃bk:Nat,0<bk/\(∃a,a<=330/\bk<=2^a)/\∀i,i<(D E)->fg bk ((aB E cs).cL i):=by
 obtain⟨P,aG,he⟩:=Z3 U.ok (MD U.ok).1;obtain⟨bk,F,I,af⟩:=ajd U aG;refine⟨bk,F,I,λi M=>?_⟩;have:=af i M;rw[he i M] at this;exact this
end
section
variable {d:Day} (aa:d.dt)
include aa
end
def wj (E:List Int)(cs:List au)(k:Nat):Nat:=if (aB E cs).hr k<10 then h9 cs k ((aB E cs).hr k) else 1
section
variable {E:List Int} {cs:List au} (U:fo E cs)
include U
theorem ajz {k:Nat}(Q:k<D E):0<wj E cs k:=by
 unfold wj
 split
 ·rename_i h;obtain⟨g,F,-⟩:=Im U.ok;have I:=F.rV (i:=k) Q h;rw[<-EW U.right] at I;exact_mod_cast I
 ·omega
theorem ajA (k:Nat):wj E cs k<=2^54:=by
 unfold wj
 split
 ·exact U.EX _ _
 ·exact Z4
theorem ajB {bk:Nat}(na:∀i,i<(D E)->fg bk ((aB E cs).cL i)){c:au}(H:c∈cs):fg (bk*wj E cs (cJ c).aF) ((aB E cs).hh (aB E cs).cL (cJ c)):=by
 have aa:=U.ok;have gV:cJ c∈(aB E cs).dk:=ta H;have Q:(cJ c).aF<D E:=aa.aF _ gV;have uC:∀N,fg N (cJ c).am:=λN=>fg.int N c.2.2.2;have aV:∀N,fg N (0:Rat):=fg.zero;have ot:=λr s=>@Day.dt.uz _ aa (cJ c).aF r s;have hY:=aa.bw _ gV;have gC:=Rs aa _ Q;unfold Day.hh
 by_cases F:(aB E cs).bG (cJ c).aF ((cJ c).bw+1)<=(aB E cs).cL (cJ c).aF
 ·rw[ad F];exact uC _
 ·rw[ah F]
  have aH:(aB E cs).hr (cJ c).aF<10:=by
   refine ((Io aa).2 _ Q).2 ?_;have:=ot ((cJ c).bw+1) 10 (by omega);grind
  have aA:(aB E cs).cL (cJ c).aF<(aB E cs).bG (cJ c).aF ((aB E cs).hr (cJ c).aF+1):=by
   obtain⟨g,cv,-,eF⟩:=Im aa;have:=cv.M _ Q aH;have:=eF _ Q;grind
  rcases ai9 (cJ c).bw ((aB E cs).hr (cJ c).aF) with I|I|I
  ·have:=ot ((cJ c).bw+1) ((aB E cs).hr (cJ c).aF) (by omega);exact absurd (wa this gC) F
  ·have hw:fg (wj E cs (cJ c).aF) ((aB E cs).w (cJ c)):=by
    unfold wj;rw[ad aH];refine⟨c.2.2.2,?_⟩;rw[EW U.right,<-I]
    have:0<(aB E cs).S (cJ c).aF (cJ c).bw:=by
     have:=(aB E cs).s3 (cJ c).aF ((aB E cs).hr (cJ c).aF);rw[I];grind
    exact Day.CI this
   have ajC:fg bk ((aB E cs).cL (cJ c).aF-(aB E cs).bG (cJ c).aF (cJ c).bw):=by
    refine (na _ Q).sub ?_;rw[<-uD U.right];exact fg.int _ _
   rw[s4 (by rw[I];grind),rC];exact hw.mul ajC
  ·have:=ot ((aB E cs).hr (cJ c).aF+1) (cJ c).bw (by omega);rw[v8 (by grind),nH];exact aV _
theorem Rt {c:au}(H:c∈cs):dU 482 ((aB E cs).hh (aB E cs).cL (cJ c)):=by
 obtain⟨bk,F,⟨a,I,af⟩,aO⟩:=ajy U;have gV:cJ c∈(aB E cs).dk:=ta H;have Q:(cJ c).aF<D E:=U.ok.aF _ gV;have br:=ajB U aO H;have bR:=ajz U Q;have bN:=ajA U (cJ c).aF;have cb:bk*wj E cs (cJ c).aF<=2^(a+54):=by rw[wc];exact o5 af bN
 have jl:=U.ok.Zh (aB E cs).cL gV
 have gr:(aB E cs).hh (aB E cs).cL (cJ c)<=((2^50:Nat):Rat):=by
  refine wa (U.ok.Zg _ gV) ?_;have:=U.am c H;show ((c.2.2.2:Int):Rat)<=_;have:c.2.2.2<=((2^50:Nat):Int):=by omega
  rw[<-ou];exact Rat.intCast_le_intCast.2 this
 exact (br.sz (Mr F bR) cb jl gr).mono (by omega)
end
end Go.Mini
namespace Go.Mini
open Go
theorem MF {n:Int}{c:au}:hK n c=true↔0<=c.1/\c.1<n /\ -1<=c.2.1/\c.2.1<n/\0<=c.2.2.1/\c.2.2.1<10/\0<=c.2.2.2/\c.2.2.2<=1000000000000000:=by
 unfold hK;simp only[eM,decide_eq_true_eq,and_assoc]
def gk (x:Int):Bool:=decide (0<=x)&&decide (x<=1000000000000000)
theorem Ru {x:Int}:gk x=true↔0<=x/\x<=1000000000000000:=by
 unfold gk;simp only[eM,decide_eq_true_eq]
theorem axT (E:List Int)(cs:List au):jr E cs=(decide (D E<=60)&&decide (D cs<=2000)&&E.all gk&&cs.all (hK (D E))):=rfl

theorem MG {x y:Rat}(O:dv x)(aw:dv y)(h:mR x y=true):yN [.agg (aE (av x)),.agg (aE (av y))]=some (.same (.cM [.agg (aE (av (x+y))),.int .i64 0])):=by
 have F:=lH O;have I:=lH aw;have:=agd (av x).1.1 (av x).1.2 (av x).2.1 (av x).2.2 (av y).1.1 (av y).1.2 (av y).2.1 (av y).2.2 ⟨F.1,F.2,I.1,I.2⟩;have e:vN (av x) (av y)=(av (x+y),0):=by rw[W0 O aw,h];rfl
 exact this.trans (by show some (eR.same (eH (vN (av x) (av y))))=_;rw[e];rfl)
theorem Z5 {x y:Rat}(O:dv x)(aw:dv y)(h:mR x (-y)=true):An [.agg (aE (av x)),.agg (aE (av y))]=some (.same (.cM [.agg (aE (av (x-y))),.int .i64 0])):=by
 have F:=lH O;have I:=lH aw;have:=atu (av x).1.1 (av x).1.2 (av x).2.1 (av x).2.2 (av y).1.1 (av y).1.2 (av y).2.1 (av y).2.2 ⟨F.1,F.2,I.1,I.2⟩;have e:pz (av x) (av y)=(av (x-y),0):=by rw[P6 O aw,h];rfl
 exact this.trans (by show some (eR.same (eH (pz (av x) (av y))))=_;rw[e];rfl)
theorem ajD {x y:Rat}(O:dv x)(aw:dv y)(h:Ap x y=true):yO [.agg (aE (av x)),.agg (aE (av y))]=some (.same (.cM [.agg (aE (av (x*y))),.int .i64 0])):=by
 have F:=lH O;have I:=lH aw;have:=atw (av x).1.1 (av x).1.2 (av x).2.1 (av x).2.2 (av y).1.1 (av y).1.2 (av y).2.1 (av y).2.2 ⟨F.1,F.2,I.1,I.2⟩;have e:om (av x) (av y)=(av (x*y),0):=by rw[W1 O aw,h];rfl
 exact this.trans (by show some (eR.same (eH (om (av x) (av y))))=_;rw[e];rfl)
theorem axU {x y:Rat}(O:dv x)(aw:dv y)(ao:y≠0)(h:xn x y=true):Ex [.agg (aE (av x)),.agg (aE (av y))]=some (.same (.cM [.agg (aE (av (x/y))),.int .i64 0])):=by
 have F:=lH O;have I:=lH aw;have:=aty (av x).1.1 (av x).1.2 (av x).2.1 (av x).2.2 (av y).1.1 (av y).1.2 (av y).2.1 (av y).2.2 ⟨F.1,F.2,I.1,I.2⟩;have e:j1 (av x) (av y)=(av (x/y),0):=by rw[P7 O aw ao,h];rfl
 exact this.trans (by show some (eR.same (eH (j1 (av x) (av y))))=_;rw[e];rfl)
theorem Ip {x y:Rat}(O:dv x)(aw:dv y):uk [.agg (aE (av x)),.agg (aE (av y))]=some (.same (.int .i64 (mS x y))):=by
 have F:=lH O;have I:=lH aw;have:=agm (av x).1.1 (av x).1.2 (av x).2.1 (av x).2.2 (av y).1.1 (av y).1.2 (av y).2.1 (av y).2.2 ⟨F.1,F.2,I.1,I.2⟩;exact this.trans (by show some (eR.same (.int .i64 (lG (av x) (av y))))=_;rw[P8 O aw])
theorem ajE {x y:Rat}:decide (mS x y>0)=decide (y<x):=by
 have F:mS x y>0↔y<x:=by
  unfold mS;rw[gt_iff_lt,Int.sign_pos_iff,Z6];omega
 rw[decide_eq_decide];exact F
theorem Rv {x y:Rat}:decide (mS x y<0)=decide (x<y):=by
 have F:mS x y<0↔x<y:=by
  unfold mS;rw[ajF,Z6];omega
 rw[decide_eq_decide];exact F
theorem ajG {x y:Rat}:decide (mS x y>=0)=decide (y<=x):=by
 have F:mS x y>=0↔y<=x:=by
  unfold mS;rw[ge_iff_le,Int.sign_nonneg_iff,Rat.le_iff];omega
 rw[decide_eq_decide];exact F
end Go.Mini
namespace Go.Mini
open Go
variable {P:Program} {A:Nat->Prop} {w aQ:World} {B bu:Lay} {mem mem':Mem}
def y8 (N:List R->Mem->Option Data)(args:List R)(mem:Mem):Option g0:=(N args mem).map λd => .rel (zO (.J d) mem)
@[go_sem] theorem aLq (N:List R->Mem->Option Data)(args:List R)(mem:Mem):y8 N args mem=(N args mem).map λd => .rel (zO (.J d) mem):=bx
theorem Z7 {T : bl}{kb : Nat}{own : List Nat}(cC : qB P T)(hm : P.follows .mixedOrders = true){f : FuncId}{fn : Func}{mf : bY}(aH : P.funcs[f]? = some fn)(tI : (fn.name == "runtime.NumGoroutine") = false)(aY : sw P kb own fn = some { mf with body := erase mf.body })
  (db:Key->Prop) {N:List R->Mem->Option Data}
  (h:∀args mem d,N args mem=some d->(D args)<=mf.n/\(∀j,db j->mem j=none) /\
   wp T mf.body (p4 mf.res λm mem'=>cl 6 emp m=some d/\∀j,¬ db j->mem' j=mem j) ⟨lv args,mem⟩):lj P f (y8 N):=by
 refine⟨Qs aH tI aY,λargs mem oO hz A w B vs bW ak=>?_⟩;unfold y8 at hz;rw[dV] at hz;obtain⟨d,ot,rfl⟩:=hz;obtain⟨hlen,um,wS⟩:=h args mem d ot;refine Calls.mono (Gm (Post:=λm mem'=>cl 6 emp m=some d/\∀j,¬ db j->mem' j=mem j) cC hm aH aY hlen (λe st Q=>Qr Q) wS bW ak) λe aQ he=>?_;obtain⟨v,m,mem',bu,rfl,U,lx,aa,gp⟩:=he;exact⟨v,.J d,mem,sR db bu,rfl,U.drop bW um um (λj ai=>(gp j ai).symm) (λk g cs Q m hm => .inr ⟨k,g,cs,Q,hm⟩),.J ((OL 6 m v d aa lx).less λb ag=>ag.imp EE id),rfl,rfl⟩
def MH (W:List R->Mem->Option (Data×Key))(args:List R)(mem:Mem):Option g0:=(W args mem).map λx => .zs x.1 x.2
@[go_sem] theorem aLr (W:List R->Mem->Option (Data×Key))(args:List R)(mem:Mem):MH W args mem=(W args mem).map λx => .zs x.1 x.2:=bx
theorem axV {T : bl}{kb : Nat}{own : List Nat}(cC : qB P T)(hm : P.follows .mixedOrders = true){f : FuncId}{fn : Func}{mf : bY}(aH : P.funcs[f]? = some fn)(tI : (fn.name == "runtime.NumGoroutine") = false)(aY : sw P kb own fn = some { mf with body := erase mf.body })
  (db:Key->Prop) {W:List R->Mem->Option (Data×Key)}
  (h:∀args mem d k,W args mem=some (d,k)->(D args)<=mf.n/\(∀j,db j->mem j=none)/\¬ db k /\
   wp T mf.body (p4 mf.res λm mem'=>cl 6 emp m=some d/\∀j,¬ db j->mem' j=a1 mem k (bX mem k) [] j) ⟨lv args,mem⟩):lj P f (MH W):=by
 refine⟨Qs aH tI aY,λargs mem oO hz A w B vs bW ak=>?_⟩;unfold MH at hz;rw[dV] at hz;obtain⟨⟨d,k⟩,ot,rfl⟩:=hz;obtain⟨hlen,um,Q,wS⟩:=h args mem d k ot;refine Calls.mono (Gm (Post:=λm mem'=>cl 6 emp m=some d/\∀j,¬ db j->mem' j=a1 mem k (bX mem k) [] j) cC hm aH aY hlen (λe st Q=>Qr Q) wS bW ak) λe aQ he=>?_;obtain⟨v,m,mem',bu,rfl,U,lx,aa,gp⟩:=he;refine⟨v,sR db bu,rfl,U.drop bW um (λj ai=>?_) (λj ai=>(gp j ai).symm) ?_,.J ((OL 6 m v d aa lx).less λb ag=>ag.imp EE id)⟩
 ·have:j≠k:=λe=>Q (e ▸ ai);simp only[a1,this,if_false];exact um j ai
 ·intro cS cp n3 I m nB
  by_cases gz:cS=k
  ·subst gz;simp only[a1,if_true,ca,fD] at I;obtain⟨-,rfl⟩:=I
   cases nB
  ·simp only[a1,gz,if_false] at I;exact .inr ⟨cS,cp,n3,I,nB⟩
open Classical in
def MI {α:Type}(bk:α->List R->Mem->Prop)(res:α->Data×Key):List R->Mem->Option (Data×Key):=λargs mem=>if h:∃a,bk a args mem then some (res (tJ h)) else none
theorem axW {α:Type}{bk:α->List R->Mem->Prop}{res:α->Data×Key}(uniq:∀a b args mem,bk a args mem->bk b args mem->res a=res b){a:α}{args:List R}{mem:Mem}(h:bk a args mem):MI bk res args mem=some (res a):=by
 have O:∃b,bk b args mem:=⟨a,h⟩;unfold MI;rw[dif_pos O,uniq _ _ _ _ (po O) h]
theorem axX {α:Type}{bk:α->List R->Mem->Prop}{res:α->Data×Key}{args:List R}{mem:Mem}{d:Data×Key}(h:MI bk res args mem=some d):∃a,bk a args mem/\d=res a:=by
 unfold MI at h
 split at h
 ·rename_i O;exact⟨_,po O,(nt h).symm⟩
 ·cases h
open Classical in
def E1 {α:Type}(bk:α->List R->Mem->Prop)(res:α->Data):List R->Mem->Option Data:=λargs mem=>if h:∃a,bk a args mem then some (res (tJ h)) else none
theorem Z8 {α:Type}{bk:α->List R->Mem->Prop}{res:α->Data}(uniq:∀a b args mem,bk a args mem->bk b args mem->res a=res b){a:α}{args:List R}{mem:Mem}(h:bk a args mem):E1 bk res args mem=some (res a):=by
 have O:∃b,bk b args mem:=⟨a,h⟩;unfold E1;rw[dif_pos O,uniq _ _ _ _ (po O) h]
theorem Z9 {α:Type}{bk:α->List R->Mem->Prop}{res:α->Data}{args:List R}{mem:Mem}{d:Data}(h:E1 bk res args mem=some d):∃a,bk a args mem/\d=res a:=by
 unfold E1 at h
 split at h
 ·rename_i O;exact⟨_,po O,(nt h).symm⟩
 ·cases h
theorem ajH {α:Type}{bk:α->List R->Mem->Prop}{cg:α->Mem->R->Mem->Prop}(uniq:∀a b args mem,bk a args mem->bk b args mem->cg a mem=cg b mem){a:α}{args:List R}{mem:Mem}(h:bk a args mem):xv bk cg args mem=some (cg a mem):=by
 have O:∃b,bk b args mem:=⟨a,h⟩;unfold xv;rw[dif_pos O,uniq _ _ _ _ (po O) h]
theorem axY {K:bd->Prop}{st:bd}{x:bU}{i k sz kc g off:Nat}{cs:List R}(F:ba st.tm x=.ptr kc g off)(I:st.mem kc=some (g,cs))(af:cs[off+i]?=some .nil)(aO:k≠kc)
  (h:K ⟨st.tm,a1 (a1 st.mem k (bX st.mem k) []) kc g (cs.set (off+i) (.ref k (bX st.mem k) sz 0 0))⟩):kD K st (.NY x i k sz):=by
 simp only[kD,F,I,if_true,af];rw[ad aO];exact h
theorem axZ {K:bd->Prop}{st:bd}{x:bU}{i kc gc off k g sz o len:Nat}{cc cs:List R}{d:Data}(F:ba st.tm x=.ptr kc gc off)(I:st.mem kc=some (gc,cc))(af:cc[off+i]?=some (.ref k g sz o len))(aO:st.mem k=some (g,cs))(br:nZ cs=true)(bR:k≠kc)(bN:cl 1 st.mem (.ref k g sz o len)=some d)
  (h:K ⟨st.tm,a1 (kill st.mem k) kc gc (cc.set (off+i) (.J d))⟩):kD K st (.NZ x i):=by
 simp only[kD,F,I,if_true,af,aO];rw[ad ⟨trivial,br,bR⟩,bN];exact h
def et (n:Nat)(mem m:Mem):Prop:=∀k,k/1000≠n->m k=mem k
theorem et.refl (n:Nat)(mem:Mem):et n mem mem:=λ_ _=>rfl
theorem et.e6 {n k g:Nat}{cs:List R}{mem m:Mem}(h:et n mem m)(Q:k/1000=n):et n mem (a1 m k g cs):=λj ai=>by
 have:j≠k:=λe=>ai (by rw[e];exact Q);simp only[a1,this,if_false];exact h j ai
theorem et.kill {n k:Nat}{mem m:Mem}(h:et n mem m)(Q:k/1000=n):et n mem (kill m k):=h.e6 Q
theorem et.at {n:Nat}{mem m:Mem}(h:et n mem m)(k:Nat)(Q:k/1000≠n):m k=mem k:=h k Q
def r1 (n:Nat)(mem:Mem):Prop:=∀k,k/1000=n->mem k=none
theorem r1.aF {n ajI:Nat}{mem m:Mem}(h:r1 n mem)(aH:et ajI mem m)(aK:n≠ajI):r1 n m:=λk Q=>by rw[aH k (by omega)];exact h k Q
end Go.Mini
namespace Go.Mini
open Go
def b9 (x:Int):R:=.J (.int .i64 x)
def ln (b:Bool):R:=.J (.bool b)
theorem AR {α:Type}{f:α->R}{l:List α}{k:Nat}{y:α}(h:l[k]?=some y):gu 1 (gL k (l.map f))=[f y]:=by
 obtain⟨ar,rfl⟩:=dD.1 h;rw[<-List.map_drop,List.drop_eq_getElem_cons ar,eA,List.take_succ_cons,nu]
structure CV (E:List Int) (cs:List au) (fl:List Int) (P:List Bool) (g cL gP:Nat) (mem:Mem):Prop where
 r:mem 261029=some (g,[.J (.Y (E.map ae)),.J (.Y (cs.map ck)),.ref 261042 cL 1 0 (D fl),.ref 261027 gP 1 0 (D P),.J (.bool false)])
 f:mem 261042=some (cL,fl.map b9)
 p:mem 261027=some (gP,P.map ln)
theorem CV.aF {E:List Int}{cs:List au}{fl:List Int}{P:List Bool}{g cL gP n:Nat}{mem m:Mem}(h:CV E cs fl P g cL gP mem)(aH:et n mem m)(aK:n≠261):CV E cs fl P g cL gP m :=
 ⟨(aH.at 261029 (by omega)).trans h.r,(aH.at 261042 (by omega)).trans h.f,(aH.at 261027 (by omega)).trans h.p⟩
theorem Rw {a b:List Int}(h:a.map b9=b.map b9):a=b:=map_inj (λx y h=>by simpa [b9] using h) _ _ h
theorem ax0 {a b:List Bool}(h:a.map ln=b.map ln):a=b:=map_inj (λx y h=>by simpa [ln] using h) _ _ h
theorem CV.uniq {E Iq:List Int}{cs nr:List au}{fl AS:List Int}{P ajJ:List Bool}{g cL gP c8 ajK Rx:Nat}{mem:Mem}(h:CV E cs fl P g cL gP mem)(cy:CV Iq nr AS ajJ c8 ajK Rx mem):E=Iq/\cs=nr/\fl=AS/\P=ajJ/\g=c8/\cL=ajK/\gP=Rx:=by
 have F:=h.r;rw[cy.r] at F;simp only[ca,fD,bf,R.J.injEq,Data.Y.injEq,R.ref.injEq,true_and,and_true] at F;obtain⟨az,aD,bZ,⟨dr,-⟩,bP,-⟩:=F;have I:=h.f;rw[cy.f] at I;simp only[ca,fD] at I;have af:=h.p;rw[cy.p] at af;simp only[ca,fD] at af;exact⟨(map_inj fh _ _ aD).symm,(map_inj r0 _ _ bZ).symm,(Rw I.2).symm,(ax0 af.2).symm,az.symm,dr.symm,bP.symm⟩
structure Ry where
 E:List Int
 cs:List au
 fl:List Int
 P:List Bool
 g:Nat
 cL:Nat
 gP:Nat
def Ry.At (a:Ry)(mem:Mem):Prop:=CV a.E a.cs a.fl a.P a.g a.cL a.gP mem
theorem Ry.uniq {a b:Ry}{mem:Mem}(h:a.At mem)(cy:b.At mem):a=b:=by
 obtain⟨c0,dj,a3,a4,a5,tc,ajL⟩:=a;obtain⟨di,eK,j7,mc,ax1,ajM,ajN⟩:=b;have:=CV.uniq h cy;dsimp only at this;obtain⟨rfl,rfl,rfl,rfl,rfl,rfl,rfl⟩:=this
 rfl
theorem et.same {n k g:Nat}{cs:List R}{mem m:Mem}(h:et n mem m)(hm:mem k=some (g,cs)):et n mem (a1 m k g cs):=λj ai=>by
 by_cases e:j=k
 ·subst e;simp only[a1,if_true];exact hm.symm
 ·simp only[a1,e,if_false];exact h j ai
theorem o6 {z:Int}(F:-9000000000000000000<=z)(I:z<=9000000000000000000):dC z:=by unfold dC;omega
theorem Ii.upto {cs:List au}(h:Ii cs)(i r:Int):0<=cT cs i r/\cT cs i r<=2000000000000000000:=by
 have:=h.sum (λc=>c.1=i/\c.2.2.1<r) (D cs);rw[kN] at this;exact this
theorem ajO {p q:Int}(aG:dC p)(aL:dC q)(ao:q≠0):hB (bT p) (bT q)=(av ((p:Rat)/(q:Rat)),0):=by
 rw[Ak (yK aG) (yK aL) ao,Mu]
def kR (cs:List au)(i r:Int):Int:=cT cs i (r+1)-cT cs i r
end Go.Mini
namespace Go.Mini
open Go Classical
def bO (fl:List Int)(i:Nat):Nat:=(fl.getD i 10).toNat
def fw (P:List Bool)(i:Nat):Prop:=P.getD i false=true
theorem xK {z:Int}{b:Nat}(h:z.natAbs<=2^b):dU b (z:Rat):=⟨by rw[ajP];exact h,by rw[ajQ];exact Z4⟩
theorem ax2 {E:List Int}{cs:List au}(U:fo E cs){c:au}(H:c∈cs):dU 54 ((aB E cs).w (cJ c)):=by
 have ab:=(hD.1 U.right).2.2.2 c H;have uC:=U.am c H
 by_cases ao:c.2.2.2=0
 ·have:(cJ c).am=0:=by show ((c.2.2.2:Int):Rat)=0;rw[ao];rfl
  rw[Day.LU this];exact⟨fk _,Z4⟩
 ·have cQ:=EW U.right (cJ c).aF (cJ c).bw;have hle:=(ahW U.right).QZ (c:=cJ c) (ta H);rw[<-cQ] at hle
  have F:c.2.2.2<=((h9 cs (cJ c).aF (cJ c).bw:Nat):Int):=by
   have:((c.2.2.2:Int):Rat)<=(((h9 cs (cJ c).aF (cJ c).bw:Nat):Int):Rat):=by rw[ou];exact hle
   exact_mod_cast this
  have I:=U.EX (cJ c).aF (cJ c).bw
  obtain⟨f1,f2⟩:=CN (q:=(aB E cs).w (cJ c)) (v:=c.2.2.2) (d:=((h9 cs (cJ c).aF (cJ c).bw:Nat):Int)) (by omega) (by
   rw[ou,cQ];refine Day.CI ?_;rw[<-cQ];have:0<h9 cs (cJ c).aF (cJ c).bw:=by omega
   exact_mod_cast this)
  rw[mQ] at f2;exact⟨by omega,by omega⟩
section
variable {E:List Int} {cs:List au} (U:fo E cs) (f:Nat->Nat) (P:Nat->Prop) (i:Nat) (cQ:∀k,P k->0<(aB E cs).S k (f k))
include U cQ
end
end Go.Mini
namespace Go.Mini
open Go
theorem MJ:dC 0:=by unfold dC;omega
theorem Rz:dC 1:=by unfold dC;omega
theorem ax3 {N k:Nat}(x:Nat->Rat)(y:Rat):(dK N x).set k (av y)=dK N λj=>if j=k then y else x j:=by
 refine MA (by rw[hn,qf]) λj ai=>?_;rw[nE]
 by_cases h:k=j
 ·rw[ad h,ad (by rw[qf];omega),ad h.symm]
 ·rw[ah h,uJ _ ai,ah (Ne.symm h)]
theorem ajR {α:Type}{l:List α}{k:Nat}{d x:α}(h:l[k]?=some x):l.getD k d=x:=by rw[ep,h];rfl
theorem ax4 (r:e0):((iX r).map R.J).all R.one=true:=rfl

def nK (n:Nat)(p:Nat->Bool):List Bool:=(dW n).map p
theorem RA (n:Nat)(p:Nat->Bool):(nK n p).length=n:=by simp[nK]
theorem RB {n i:Nat}(p:Nat->Bool)(h:i<n):(nK n p)[i]?=some (p i):=by
 unfold nK;rw[bn,tr h];rfl
theorem ax5 {n:Nat}{p q:Nat->Bool}(h:∀i,i<n->p i=q i):nK n p=nK n q:=mI λi M=>h i (gX.1 M)
theorem RC {n i:Nat}{p:Nat->Bool}:fw (nK n p) i↔i<n/\p i=true:=by
 unfold fw;rcases ih i n with h|h
 ·rw[ajR (RB p h)];exact⟨λe=>⟨h,e⟩,λe=>e.2⟩
 ·rw[ep,mB (by rw[RA];exact h)];simp;omega
def wk (d:Day)(f:Nat->Nat)(h:Nat->Rat)(i:Nat):Bool:=decide (f i<10)&&decide (d.bG i (f i)<h i)
def ox (d:Day)(f:Nat->Nat)(h:Nat->Rat)(p:Nat->Bool)(i j:Nat):Bool:=p j||(decide (j<i)&&wk d f h j)
def y9 (d:Day)(f:Nat->Nat)(h:Nat->Rat)(p:Nat->Bool)(i:Nat):Bool:=(dW i).any λj => !p j&&wk d f h j
theorem ax6 (d:Day)(f:Nat->Nat)(h:Nat->Rat)(p:Nat->Bool)(i:Nat):y9 d f h p (i+1)=(y9 d f h p i||(!p i&&wk d f h i)):=by
 unfold y9;rw[ow,List.any_append];simp
theorem ajS (d:Day)(f:Nat->Nat)(h:Nat->Rat)(p:Nat->Bool)(i:Nat):ox d f h p i i=p i:=by
 unfold ox;rw[mw (Nat.lt_irrefl i),fu,lW]
theorem ajT (d:Day)(f:Nat->Nat)(h:Nat->Rat)(p:Nat->Bool)(i j:Nat):ox d f h p (i+1) j=if j=i then (p i||wk d f h i) else ox d f h p i j:=by
 unfold ox
 by_cases ai:j=i
 ·subst ai;rw[ad rfl,kf (Nat.lt_succ_self j),g3]
 ·rw[ah ai]
  congr 2
  rw[decide_eq_decide];omega
theorem ax7 {d:Day}{f:Nat->Nat}{h:Nat->Rat}{p:Nat->Bool}:fw (nK d.n (ox d f h p d.n))=s5 d f (fw (nK d.n p)) h:=by
 funext i
 apply propext;rw[RC];unfold s5 ox wk;rw[RC]
 constructor
 ·rintro⟨F,I⟩;rw[yk] at I;rcases I with I|I
  ·exact .inl ⟨F,I⟩
  ·simp only[eM,decide_eq_true_eq] at I;exact .inr ⟨F,I.2⟩
 ·rintro (⟨F,I⟩|⟨F,I⟩)
  ·exact⟨F,by rw[I];rfl⟩
  ·refine⟨F,?_⟩;rw[yk]
   right
   simp only[eM,decide_eq_true_eq];exact⟨F,I⟩
theorem ax8 {n:Nat}:fw (nK n λ_=>false)=λ_=>False:=by
 funext i
 apply propext;rw[RC];simp
theorem ax9 {d:Day}{f:Nat->Nat}{h:Nat->Rat}{p:Nat->Bool}{n:Nat}(hm:y9 d f h p n=true):mW n (λi=>if ox d f h p n i then 0 else 1)<mW n λi=>if p i then 0 else 1:=by
 unfold y9 at hm;rw[List.any_eq_true] at hm;obtain⟨j,ai,I⟩:=hm;have ai:=gX.1 ai;simp only[eM,rO] at I;refine Zp (j:=j) (λi M=>?_) ai ?_
 ·unfold ox
  cases p i
  ·try dsimp only
   split<;>simp
  ·simp
 ·unfold ox;rw[I.1,I.2,kf ai]
  decide
theorem aya {d:Day}{f:Nat->Nat}{h:Nat->Rat}{p:Nat->Bool}{n:Nat}(hm:y9 d f h p n=false){i:Nat}(M:i<n)(F:f i<10)(I:d.bG i (f i)<h i):p i=true:=by
 unfold y9 at hm;rw[vX] at hm;have:=hm i (gX.2 M);unfold wk at this;rw[kf F,kf I] at this
 simpa using this
def e1 (cs:List au)(x:Rat)(c:au):Rat:=if ((cT cs c.1 (c.2.2.1+1):Int):Rat)<=x then (c.2.2.2:Rat) else (c.2.2.2:Rat)/((kR cs c.1 c.2.2.1:Int):Rat)*pos (x-((cT cs c.1 c.2.2.1:Int):Rat))
theorem MK {E:List Int}{cs:List au}(h:jr E cs=true)(x:Nat->Rat){c:au}(H:c∈cs):(aB E cs).hh x (cJ c)=e1 cs (x c.1.toNat) c:=by
 have ab:=(hD.1 h).2.2.2 c H;obtain⟨aI,c2,c3,c4⟩:=c;dsimp only at ab;obtain⟨aI,rfl⟩:∃k:Nat,aI=(k:Int):=⟨aI.toNat,by omega⟩
 obtain⟨c3,rfl⟩:∃k:Nat,c3=(k:Int):=⟨c3.toNat,by omega⟩
 unfold Day.hh e1 Day.w;have F:=uD h aI (c3+1);have I:=uD h aI c3;have af:=Q9 h aI c3;have az:(cJ ((aI:Int),c2,(c3:Int),c4)).aF=aI:=l1 aI;have aD:(cJ ((aI:Int),c2,(c3:Int),c4)).bw=c3:=l1 c3;have bZ:(cJ ((aI:Int),c2,(c3:Int),c4)).am=(c4:Rat):=rfl;rw[az,aD,bZ,<-F,<-I,<-af]
 rfl
structure kt (l:List au):Prop where
 len:(D l)<=12
 c:∀c∈l,0<=c.1/\c.1<60 /\ -1<=c.2.1/\c.2.1<60/\0<=c.2.2.1/\c.2.2.1<10/\0<=c.2.2.2/\c.2.2.2<=1000000000000000
 one:∀c∈l,∀c'∈l,c.1=c'.1
theorem kt.cs {l:List au}(h:kt l):Ii l:=⟨by have:=h.len;omega,λc H=>by have:=h.c c H;omega⟩
def mg {α:Type}(enc:α->List R)(l:List α):List R:=(l.map enc).flatten
theorem ayb {α:Type}{enc:α->List R}{sz:Nat}(h:∀a,(enc a).length=sz)(l:List α):(mg enc l).length=D l*sz:=by
 unfold mg
 induction l with
 |nil=>simp
 |cons a l ay=>rw[eA,jt,fr,ay,h,h0,ts];omega
theorem ajU {α:Type}{enc:α->List R}{sz:Nat}(h:∀a,(enc a).length=sz):∀(l:List α) (i:Nat),i<(D l)->∀b,gu (i*sz) (mg enc l)++enc b++gL (i*sz+sz) (mg enc l)=mg enc (l.set i b)
 | [],i,M,b=>absurd M (by simp)
 |a::l,0,_,b=>by
  have aN:=h a;unfold mg;simp only[Nat.zero_mul,Nat.zero_add,nu,jm,eA,jt,rQ];rw[<-aN,List.drop_left]
 |a::l,i+1,M,b=>by
  have aN:=h a;have ay:=ajU h l i (by simpa using M) b;unfold mg at ay ⊢;simp only[eA,jt,HJ];rw[<-ay,ts,List.take_append,rA,aN];rw[dB (by omega),kY (by omega),jm];rw[show i*sz+sz-sz=i*sz by omega,show i*sz+sz+sz-sz=i*sz+sz by omega]
  simp only[gW]
def bF {α:Type}(n:Nat)(q:Nat->α):List α:=(dW n).map q
theorem gQ {α:Type}(n:Nat)(q:Nat->α):(bF n q).length=n:=by simp[bF]
theorem iZ {α:Type}{n i:Nat}(q:Nat->α)(h:i<n):(bF n q)[i]?=some (q i):=by
 unfold bF;rw[bn,tr h];rfl
theorem aaa {α:Type}{n:Nat}{l:List α}{q:Nat->α}(ar:(D l)=n)(h:∀i,i<n->l[i]?=some (q i)):l=bF n q:=by
 apply qx;intro i;rcases ih i n with M|M
 ·rw[h i M,iZ q M]
 ·rw[mB (by omega),mB (by rw[gQ];exact M)]
theorem AU {α:Type}{n i:Nat}(q:Nat->α)(b:α):(bF n q).set i b=bF n λj=>if j=i then b else q j:=by
 refine aaa (by rw[hn,gQ]) λj ai=>?_;rw[nE]
 by_cases h:i=j
 ·rw[ad h,ad (by rw[gQ];omega),ad h.symm]
 ·rw[ah h,iZ _ ai,ah (Ne.symm h)]
theorem kS {α:Type}{n:Nat}{p q:Nat->α}(h:∀i,i<n->p i=q i):bF n p=bF n q:=mI λi M=>h i (gX.1 M)
def q1:Option bg->List R
 |none=>[.J (.int .i64 0),.nil,.J (.int .i64 0),.nil]
 |some f=>(aE f).map .J
theorem ajV:∀a,(q1 a).length=4
 |none=>rfl
 |some _=>rfl
theorem ajW (n:Nat):(dG n [R.J (.int .i64 0),R.nil,R.J (.int .i64 0),R.nil]).flatten=mg q1 (bF n λ_=>none):=by
 unfold mg bF;rw[m6]
 congr 1
 apply qx;intro i;rw[bn];rcases ih i n with M|M
 ·rw[tr M,ajX,ad M];rfl
 ·rw[mB (by simpa using M),mB (by simpa using M)];rfl
theorem ajY (l:List bg):mg q1 (l.map some)=a7 aE l:=by
 unfold mg a7
 induction l with
 |nil=>rfl
 |cons f l ay =>
  simp only[eA,jt,jD];rw[ay];rfl
theorem aab {n i:Nat}{q:Nat->Option bg}(h:i<n):(i*4+4<=(mg q1 (bF n q)).length)=True:=eq_true (by rw[ayb ajV,gQ];omega)
theorem aac {n i:Nat}{q:Nat->Option bg}(h:i<n)(a:Int)(b:List Int)(c:Int)(d:List Int):
  gu (i*4) (mg q1 (bF n q))++[R.J (.int .i64 a),.J (.Y (b.map ae)),.J (.int .i64 c),.J (.Y (d.map ae))]++gL (i*4+4) (mg q1 (bF n q))=mg q1 (bF n λj=>if j=i then some ((a,b),(c,d)) else q j):=by
 rw[<-AU];exact ajU ajV (bF n q) i (by rw[gQ];exact h) (some ((a,b),(c,d)))
structure Ir (l:List au) (x:Rat):Prop where
 own:kt l
 pos:0<=x
 sz:dU 460 x
theorem kt.less {l:List au}(h:kt l){c:au}(H:c∈l)(r:Int):(cR l λc'=>if c'.2.2.1<r then c'.2.2.2 else 0)=cT l c.1 r:=by
 unfold cT;refine H6 λc' lS=>?_;have:=h.one c' lS c H
 by_cases F:c'.2.2.1<r
 ·rw[ad F,ad ⟨this,F⟩]
 ·rw[ah F,ah λh=>F h.2]
theorem aad (l:List au)(aP bQ:au->Int):cR l (λc=>aP c+bQ c)=cR l aP+cR l bQ:=by
 induction l with
 |nil=>simp[cR]
 |cons c l ay=>simp only[cR,ay];omega
theorem kt.same {l:List au}(h:kt l){c:au}(H:c∈l)(r:Int):(cR l λc'=>if c'.2.2.1=r then c'.2.2.2 else 0)=kR l c.1 r:=by
 have F:=h.less H r;have I:=h.less H (r+1)
 have af:(cR l λc'=>if c'.2.2.1<r+1 then c'.2.2.2 else 0)=(cR l λc'=>if c'.2.2.1<r then c'.2.2.2 else 0)+cR l λc'=>if c'.2.2.1=r then c'.2.2.2 else 0:=by
  rw[<-aad];refine H6 λc _=>?_
  by_cases cv:c.2.2.1<r
  ·rw[ad (by omega),ad cv,ah (by omega)];omega
  ·rw[ah cv]
   by_cases cS:c.2.2.1=r
   ·rw[ad (by omega),ad cS];omega
   ·rw[ah (by omega),ah cS];omega
 unfold kR;omega
theorem kt.bound {l:List au}(h:kt l)(p:au->Prop)[DecidablePred p]:0<=cR l (λc=>if p c then c.2.2.2 else 0)/\cR l (λc=>if p c then c.2.2.2 else 0)<=12000000000000000:=by
 have:=Q8 (cs:=l) (aP:=λc=>if p c then c.2.2.2 else 0) (B:=1000000000000000) (by omega) λc H=>by
  have:=h.c c H
  try dsimp only
  split<;>omega
 have:=h.len;omega
theorem ajZ (cs:List au)(i r:Int):kR cs i r=cR cs λc=>if c.1=i/\c.2.2.1=r then c.2.2.2 else 0:=by
 have af:cT cs i (r+1)=cT cs i r+cR cs λc=>if c.1=i/\c.2.2.1=r then c.2.2.2 else 0:=by
  unfold cT;rw[<-aad];refine H6 λc _=>?_
  split<;>split<;>split<;>omega
 unfold kR;omega
theorem ayc {cs:List au}{aP:au->Int}(h:∀c∈cs,0<=aP c){c:au}(H:c∈cs):aP c<=cR cs aP:=by
 induction cs with
 |nil=>cases H
 |cons a l ay =>
  simp only[cR];have ao:=h a gq
  have F:0<=cR l aP:=by
   have:∀l:List au,(∀c∈l,0<=aP c)->0<=cR l aP:=by
    intro l
    induction l with
    |nil=>intro _;exact Ri _
    |cons b l Re=>intro aR;simp only[cR];have:=aR b gq;have:=Re λc H=>aR c (gZ _ H);omega
   exact this l λc H=>h c (gZ _ H)
  rcases hH.1 H with rfl|H
  ·omega
  ·have:=ay (λc H=>h c (gZ _ H)) H;omega
theorem aj0 {cs:List au}(h:∀c∈cs,0<=c.2.2.2){c:au}(H:c∈cs):c.2.2.2<=kR cs c.1 c.2.2.1:=by
 rw[ajZ];have:=ayc (aP:=λc'=>if c'.1=c.1/\c'.2.2.1=c.2.2.1 then c'.2.2.2 else 0) (λc' lS=>by have:=h c' lS;split<;>omega) H;rwa [ad ⟨rfl,rfl⟩] at this
section
variable {cs:List au} {x:Rat} {c:au}
theorem aae (cs:List au)(i r:Int):((cT cs i (r+1):Int):Rat)=((cT cs i r:Int):Rat)+((kR cs i r:Int):Rat):=by
 rw[<-wb]
 congr 1
 unfold kR;omega
theorem aj1 (aK:∀c∈cs,0<=c.2.2.2)(H:c∈cs)(h:x-((cT cs c.1 c.2.2.1:Int):Rat)<=0):e1 cs x c=0:=by
 unfold e1;have F:=aj0 aK H;have I:=aK c H;rw[aae]
 split
 ·rename_i af
  have aO:((kR cs c.1 c.2.2.1:Int):Rat)<=((0:Int):Rat):=by
   have:((0:Int):Rat)=0:=rfl;rw[this];generalize ((cT cs c.1 c.2.2.1:Int):Rat)=u at *;grind
  have br:kR cs c.1 c.2.2.1<=0:=by exact_mod_cast aO
  rw[show c.2.2.2=0 by omega];rfl
 ·rw[v8 h,nH]
theorem ayd (h:((kR cs c.1 c.2.2.1:Int):Rat)<=x-((cT cs c.1 c.2.2.1:Int):Rat)):e1 cs x c=(c.2.2.2:Rat):=by
 unfold e1;rw[aae,ad];generalize ((cT cs c.1 c.2.2.1:Int):Rat)=u at *;generalize ((kR cs c.1 c.2.2.1:Int):Rat)=s at *;grind
theorem aye (ao:0<=x-((cT cs c.1 c.2.2.1:Int):Rat))(h:x-((cT cs c.1 c.2.2.1:Int):Rat)<((kR cs c.1 c.2.2.1:Int):Rat)):e1 cs x c=(c.2.2.2:Rat)*(x-((cT cs c.1 c.2.2.1:Int):Rat))/((kR cs c.1 c.2.2.1:Int):Rat):=by
 unfold e1;rw[aae,ah,s4 ao]
 ·generalize ((cT cs c.1 c.2.2.1:Int):Rat)=u at *;generalize ((kR cs c.1 c.2.2.1:Int):Rat)=s at *;grind
 ·generalize ((cT cs c.1 c.2.2.1:Int):Rat)=u at *;generalize ((kR cs c.1 c.2.2.1:Int):Rat)=s at *;grind
end
theorem uM {n:Int}(h:dC n):dv (n:Rat):=⟨by rw[ajP];exact yK h,by rw[ajQ];decide +kernel⟩
theorem aaf {x:Rat}:decide (x.num.sign<0)=decide (x<0):=by
 have:x.num.sign<0↔x<0:=by
  rw[ajF,Z6,Rat.zero_num,Rat.zero_den];omega
 rw[decide_eq_decide];exact this
def ja:au:=(0,0,0,0)
def E2 (l:List au)(x:Rat)(j:Nat):bg:=av (e1 l x (l.getD j ja))
theorem ayf (l:List au)(x:Rat):(bF (D l) λj=>some (E2 l x j))=(l.map λc=>av (e1 l x c)).map some:=by
 symm
 refine aaa (by simp) λi M=>?_;rw[bn,bn,bz M];unfold E2;rw[ajR (bz M)];rfl
def cB (cs:List au)(dm:Int):List au:=cs.filter λc=>c.1==dm
theorem ayg (cs:List au)(dm:Int)(p:au->Prop)[DecidablePred p]:cR (cB cs dm) (λc=>if c.1=dm/\p c then c.2.2.2 else 0)=cR cs λc=>if c.1=dm/\p c then c.2.2.2 else 0:=by
 unfold cB
 induction cs with
 |nil=>rfl
 |cons c l ay =>
  by_cases h:c.1=dm
  ·rw[uL (by simpa using h)];simp only[cR,ay]
  ·rw[wi (by simpa using h),ay];simp only[cR];rw[ah λaR=>h aR.1];omega
theorem aj2 (cs:List au)(dm r:Int):cT (cB cs dm) dm r=cT cs dm r:=ayg cs dm λc=>c.2.2.1<r
theorem nL {cs:List au}{dm:Int}{c:au}:c∈cB cs dm↔c∈cs/\c.1=dm:=by
 unfold cB;rw[xD,beq_iff_eq]
theorem aj3 {cs:List au}{dm:Int}{x:Rat}{c:au}(h:c.1=dm):e1 (cB cs dm) x c=e1 cs x c:=by
 unfold e1 kR;rw[h,aj2,aj2]
theorem ayh (cs:List au)(dm:Int)(x:Rat):((cB cs dm).map λc=>av (e1 (cB cs dm) x c))=(cB cs dm).map λc=>av (e1 cs x c) :=
 mI λc H=>by rw[aj3 (nL.1 H).2]
theorem fo.own {E:List Int}{cs:List au}(h:fo E cs)(dm:Int):kt (cB cs dm):=by
 have ab:=hD.1 h.right;have aK:=h.n5;refine⟨?_,λc H=>?_,λc H c' lS=>?_⟩
 ·have:=mY (λc:au=>c.1==dm) cs;have:=h.rZ;unfold cB;omega
 ·have F:=ab.2.2.2 c (nL.1 H).1;have I:=h.am c (nL.1 H).1;omega
 ·rw[(nL.1 H).2,(nL.1 lS).2]
theorem aj4 (n:Nat):((iC n).map R.J).all R.one=true:=rfl
def uN (d:Day)(f:Nat->Nat)(h:Nat->Rat)(i:Nat):List Nat:=(dW i).filter λj=>decide (h j<d.bG j (f j))
theorem ayi (d:Day)(f:Nat->Nat)(h:Nat->Rat)(i:Nat):uN d f h (i+1)=if h i<d.bG i (f i) then uN d f h i++[i] else uN d f h i:=by
 unfold uN;rw[ow,pG]
 by_cases aR:h i<d.bG i (f i)
 ·rw[ad aR,uL (by simpa using aR),qg]
 ·rw[ah aR,wi (by simpa using aR),qg,fE]
theorem ayj (d:Day)(f:Nat->Nat)(h:Nat->Rat)(i:Nat):(uN d f h i).length<=i:=by
 have:=mY (λj=>decide (h j<d.bG j (f j))) (dW i);rw[sC] at this;exact this
end Go.Mini
namespace Go.Mini
open Classical
def j8 (d:Day)(l:List au)(i:Nat):Rat:=cx (l.map cJ) λc=>if c.to=(i:Int) then d.w c else 0
theorem ayk (d:Day)(i:Nat):j8 d [] i=0:=rfl
theorem aj5 (d:Day)(l:List au)(c:au)(i:Nat):j8 d (l++[c]) i=j8 d l i+if c.2.1=(i:Int) then d.w (cJ c) else 0:=by
 unfold j8;rw[jD,Il]
 congr 1
 show (if (cJ c).to=(i:Int) then d.w (cJ c) else 0)+0=_;rw[o3]
 rfl
theorem ayl {E:List Int}{cs:List au}(h:jr E cs=true)(f:Nat->Nat)(k i:Nat):j8 (aB E cs) (dh cs k (f k)) i=(aB E cs).W f k i:=by
 have ab:=(hD.1 h).2.2.2;unfold j8 Day.W;rw[Z1 λc H=>⟨(ab c H).1,(ab c H).2.2.2.2.1⟩];refine xC λc _=>?_
 by_cases F:c.aF=k/\c.bw=f k
 ·rw[ad F]
  by_cases I:c.to=(i:Int)
  ·rw[ad I,ad ⟨I,F⟩]
  ·rw[ah I,ah λh=>I h.1]
 ·rw[ah F,ah λh=>F h.2]
section
variable {E:List Int} {cs:List au} (U:fo E cs) {k r:Nat} (cQ:0<(aB E cs).S k r)
include U cQ
theorem RD {c:au}(H:c∈dh cs k r):fg (h9 cs k r) ((aB E cs).w (cJ c))/\0<=(aB E cs).w (cJ c)/\(aB E cs).w (cJ c)=(c.2.2.2:Rat)/((kR cs k r:Int):Rat):=by
 obtain⟨F,I,af⟩:=E0.1 H;have az:(cJ c).aF=k:=by show c.1.toNat=k;omega
 have aD:(cJ c).bw=r:=by show c.2.2.1.toNat=r;omega
 have hm:cJ c∈(aB E cs).dk:=ta F;refine⟨⟨c.2.2.2,?_⟩,U.ok.qb hm,?_⟩
 ·rw[EW U.right,<-az,<-aD];exact Day.CI (by rw[az,aD];exact cQ)
 ·unfold Day.w kR;rw[az,aD];have:=Q9 U.right k r;rw[<-this]
  rfl
theorem aym {l:List au}(ar:∃ft,dh cs k r=l++ft)(i:Nat):dU 54 (j8 (aB E cs) l i):=by
 obtain⟨ft,ar⟩:=ar;have gp:∀c∈l,c∈dh cs k r:=λc H=>by rw[ar];simp[H]
 have ayn:∀c∈ft,c∈dh cs k r:=λc H=>by rw[ar];simp[H]
 have aa:fg (h9 cs k r) (j8 (aB E cs) l i):=by
  unfold j8;refine fg.cx λx O=>?_;obtain⟨c,H,rfl⟩:=dT.1 O
  split
  ·exact (RD U cQ (gp c H)).1
  ·exact fg.zero _
 have ao:∀m:List au,(∀c∈m,c∈dh cs k r)->0<=j8 (aB E cs) m i:=λm hm=>y2 λx O=>by
  obtain⟨c,H,rfl⟩:=dT.1 O
  try dsimp only
  split
  ·exact (RD U cQ (hm c H)).2.1
  ·exact gf
 have F:j8 (aB E cs) l i<=1:=by
  have e:j8 (aB E cs) (dh cs k r) i=j8 (aB E cs) l i+j8 (aB E cs) ft i:=by
   rw[ar];unfold j8;rw[jD,Il]
  have aD:j8 (aB E cs) (dh cs k r) i<=cx ((dh cs k r).map cJ) (aB E cs).w:=EO λx O=>by
   obtain⟨c,H,rfl⟩:=dT.1 O;have:=(RD U cQ H).2.1
   split
   ·exact gf
   ·exact this
  have ab:=(hD.1 U.right).2.2.2;rw[Z1 λc H=>⟨(ab c H).1,(ab c H).2.2.2.2.1⟩] at aD
  have bZ:cx (cs.map cJ) (λc=>if c.aF=k/\c.bw=r then (aB E cs).w c else 0)=1:=by
   have Q:k<(aB E cs).n:=by
    obtain⟨c,H,aG⟩:=Mf cQ
    by_cases hy:c.aF=k/\c.bw=r
    ·rw[<-hy.1];exact U.ok.aF c H
    ·rw[ah hy] at aG;grind
   have:=U.ok.Mj (λj=>j=k) (λ_=>r) (λj ai=>by subst ai;exact cQ) λ_=>1;rw[y1 Q (λj _ ai=>by rw[ah ai]),ad rfl] at this;refine (xC λc _=>?_).trans this
   by_cases H:c.aF=k/\c.bw=r
   ·rw[ad H,ad H,Rat.mul_one]
   ·rw[ah H,ah H]
  have:=ao ft ayn;grind
 have gD:0<h9 cs k r:=by
  rw[<-EW U.right] at cQ;exact_mod_cast cQ
 exact (aa.sz gD (U.EX k r) (ao l gp) (e:=0) (by rw[show ((2^0:Nat):Rat)=1 from rfl];exact F)).mono (by omega)
end
end Go.Mini
namespace Go.Mini
open Go
def j9 (l:List au):R:=if l=[] then .nil else .J (.Y (l.map ck))
theorem ayo {a b:List au}(h:j9 a=j9 b):a=b:=by
 unfold j9 at h
 by_cases aN:a=[]<;>by_cases ag:b=[]
 ·rw[aN,ag]
 ·rw[ad aN,ah ag] at h;cases h
 ·rw[ah aN,ad ag] at h;cases h
 ·rw[ah aN,ah ag] at h;exact map_inj r0 _ _ (Data.Y.inj (R.J.inj h))
theorem aj6 (l:List au):qo (j9 l)=some (D l):=by
 unfold j9
 split
 ·rename_i h;rw[h];rfl
 ·simp[qo]
theorem aj7 {l:List au}{n:Nat}{c:au}(h:l[n]?=some c):zr 4 n (j9 l)=some (.J (.ptr (ck c))):=by
 unfold j9
 split
 ·rename_i ar;rw[ar] at h;cases h
 ·simp only[zr,bn,h,Option.map_some];rw[ad (EZ c)]
structure oy where
 E:Int
 dk:List (List au)
 us:List Int
 f:Int
 p:Bool
def fC (x:oy):List R:=b9 x.E::(x.dk.map j9++(x.us.map b9++[b9 x.f,ln x.p]))
def oy.xL (x:oy)(f:Int):oy:=⟨x.E,x.dk,x.us,f,x.p⟩
def oy.sp (x:oy)(p:Bool):oy:=⟨x.E,x.dk,x.us,x.f,p⟩
structure oy.dt (x:oy):Prop where
 dk:(D x.dk)=10
 us:(D x.us)=11
theorem CW {x:oy}(h:x.dt):(fC x).length=24:=by
 simp[fC,h.dk,h.us]
theorem ayp {x y:oy}(O:x.dt)(aw:y.dt)(h:fC x=fC y):x=y:=by
 unfold fC at h;obtain⟨F,I⟩:=w9 h;obtain⟨af,aO⟩:=GL I (by rw[aj,aj,O.dk,aw.dk]);obtain⟨br,bR⟩:=GL aO (by rw[aj,aj,O.us,aw.us]);obtain⟨bN,cb⟩:=w9 bR;obtain⟨jl,-⟩:=w9 cb;obtain⟨a2,bS,cP,dJ,jb⟩:=x;obtain⟨tS,tT,E3,E6,aLs⟩:=y;have aD:=map_inj (λa b h=>ayo h) _ _ af;have bZ:=Rw br;simp only[b9,ln,R.J.injEq,Data.int.injEq,Data.bool.injEq,true_and] at F bN jl;dsimp only at *;rw[F,aD,bZ,bN,jl]
section
variable {x:oy} (h:x.dt)
include h
omit h in
theorem ayq:gu 1 (fC x)=[b9 x.E]:=rfl
omit h in
theorem aj8 {k:Nat}{l:List au}(Q:x.dk[k]?=some l):gu 1 (gL (1+k) (fC x))=[j9 l]:=by
 have aA:=(dD.1 Q).1;unfold fC;rw[zp,CX,aj9 (by rw[aj];omega),CD (by rw[rB,aj];omega)];exact AR (f:=j9) Q
theorem ML {k:Nat}{z:Int}(Q:x.us[k]?=some z):gu 1 (gL (11+k) (fC x))=[b9 z]:=by
 have aA:=(dD.1 Q).1;unfold fC;rw[show 11+k=(10+k)+1 by omega,CX,rA,kY (by rw[aj,h.dk];omega),aj,h.dk,jm,show 10+k-10=k by omega,aj9 (by rw[aj];omega),CD (by rw[rB,aj];omega)]
 exact AR (f:=b9) Q
theorem MM:gu 1 (gL 22 (fC x))=[b9 x.f]:=by
 unfold fC;rw[CX,rA,kY (by rw[aj,h.dk];omega),aj,h.dk,jm,rA,kY (by rw[aj,h.us];omega),aj,h.us]
 rfl
theorem aka:gu 1 (gL 23 (fC x))=[ln x.p]:=by
 unfold fC;rw[CX,rA,kY (by rw[aj,h.dk];omega),aj,h.dk,jm,rA,kY (by rw[aj,h.us];omega),aj,h.us]
 rfl
theorem ayr (f:Int):gu 22 (fC x)++[R.J (.int .i64 f)]++gL 23 (fC x)=fC (x.xL f):=by
 have e:fC x=(b9 x.E::(x.dk.map j9++x.us.map b9))++[b9 x.f,ln x.p]:=by simp[fC]
 have l:(b9 x.E::(x.dk.map j9++x.us.map b9)).length=22:=by simp[h.dk,h.us]
 rw[e,CD (by omega),dB (by omega),rA,kY (by omega),l];simp[fC,oy.xL,b9]
theorem akb (p:Bool):gu 23 (fC x)++[R.J (.bool p)]++gL 24 (fC x)=fC (x.sp p):=by
 have e:fC x=(b9 x.E::(x.dk.map j9++(x.us.map b9++[b9 x.f])))++[ln x.p]:=by simp[fC]
 have l:(b9 x.E::(x.dk.map j9++(x.us.map b9++[b9 x.f]))).length=23:=by simp[h.dk,h.us]
 rw[e,CD (by omega),dB (by omega),rA,kY (by omega),l];simp[fC,oy.sp,ln]
end
structure de where
 E:List Int
 cs:List au
 fl:List Int
 P:List Bool
 g:Nat
 gs:List Nat
def de.gH (a:de)(i:Nat):oy:=⟨a.E.getD i 0,bF 10 λk=>dh a.cs i k,bF 11 λk=>cT a.cs i (k:Nat),a.fl.getD i 10,a.P.getD i false⟩
theorem de.xM (a:de)(i:Nat):(a.gH i).dt:=⟨gQ _ _,gQ _ _⟩
structure de.At (a:de) (m:Mem):Prop where
 can:a.cs=dz (D a.E) a.cs
 fl:(D a.fl)=D a.E
 pl:(D a.P)=D a.E
 wm:(D a.gs)=D a.E
 row:m 228023=some (a.g,bF (D a.E) λi => .ptr (228500+i) (a.gs.getD i 0) 0)
 df:∀i,i<(D a.E)->m (228500+i)=some (a.gs.getD i 0,fC (a.gH i))
theorem MN {α:Type}{d:α}{n:Nat}{a b:List α}(aN:(D a)=n)(ag:(D b)=n)(h:∀i,i<n->a.getD i d=b.getD i d):a=b:=by
 apply qx;intro i;rcases ih i n with M|M
 ·have:=h i M;rw[ep,ep,bz (by omega),bz (by omega)] at this;rw[bz (by omega),bz (by omega)];exact congrArg some this
 ·rw[mB (by omega),mB (by omega)]
theorem akc {α:Type}{n:Nat}{p q:Nat->α}(h:bF n p=bF n q):∀i,i<n->p i=q i:=λi M=>by
 have F:=iZ p M;rw[h,iZ q M] at F;exact (nt F).symm
theorem de.uniq {a b:de}{m:Mem}(h:a.At m)(cy:b.At m):a=b:=by
 obtain⟨c0,dj,a3,a4,a5,tc⟩:=a;obtain⟨di,eK,j7,mc,ax1,ajM⟩:=b;obtain⟨aI,c2,c3,c4,Is,aag⟩:=h;obtain⟨d1,d2,d3,d4,d5,d6⟩:=cy;dsimp only at *;rw[Is,ca,fD] at d5;obtain⟨rfl,fb⟩:=d5
 have aK:(D c0)=D di:=by
  have:=congrArg D fb;rwa [gQ,gQ] at this
 rw[<-aK] at fb d1 d2 d3 d4 d6
 have bc:tc=ajM:=MN (d:=0) c4 d4 λi M=>by
  have:=akc fb i M;rw[R.ptr.injEq] at this;exact this.2.1
 subst bc
 have ag:∀i,i<(D c0)->de.gH ⟨c0,dj,a3,a4,a5,tc⟩ i=de.gH ⟨di,eK,j7,mc,a5,tc⟩ i:=λi M=>by
  have F:=aag i M;rw[d6 i M,ca,fD] at F;exact (ayp (de.xM _ _) (de.xM _ _) F.2).symm
 simp only[de.gH,oy.mk.injEq] at ag;have az:c0=di:=MN (d:=0) rfl aK.symm λi M=>(ag i M).1;subst az
 have aD:dj=eK:=by
  rw[aI,d1];exact ajn λi M k Q=>akc (ag i M).2.1 k Q
 have bZ:a3=j7:=MN (d:=10) c2 d2 λi M=>(ag i M).2.2.2.1;have dr:a4=mc:=MN (d:=false) c3 d3 λi M=>(ag i M).2.2.2.2;rw[aD,bZ,dr]
theorem de.At.aF {a:de}{mem m:Mem}{n:Nat}(h:a.At mem)(aH:et n mem m)(aK:n≠228)(br:(D a.E)<=6):a.At m :=
 ⟨h.can,h.fl,h.pl,h.wm,by rw[aH 228023 (by omega)];exact h.row,λi M=>by rw[aH (228500+i) (by omega)];exact h.df i M⟩
def aah:bY:=cq 6 1 [.t 2] (X [cO 2 false] (X [G 3 0,(eb 4 KT 3),fx 5 4,G 2 5] .ret))
def aai:bY:=cq 9 1 [.t 2] (X [cO 2 false] (X [G 3 0,bm 4 .geq 3 0,G 5 4,⟨some 6,some (5,true),.cN (.t 0)⟩,⟨some 7,some (5,true),.bin .leq (.t 6) (.c (al 1000000000000000))⟩,gK 8 5 7,G 2 8] .ret))
def aaj:bY:=cq 42 2 [.t 3] (X [dX 2 252002 0,cO 3 false] (X [bj 4 0 2,aU 5 1 4,bm 6 .lss 5 0,G 7 6,⟨some 8,some (7,false),.eu 0 (.t 2)⟩,⟨some 9,some (7,false),.load 1 false (.t 8)⟩,⟨some 10,some (7,false),.load 1 false (.t 1)⟩,⟨some 11,some (7,false),.len (.t 10)⟩,⟨some 12,some (7,false),.bin .geq (.t 9) (.t 11)⟩,ey 13 7 12,G 14 13,⟨some 15,some (14,false),.eu 1 (.t 2)⟩,⟨some 16,some (14,false),.load 1 false (.t 15)⟩,⟨some 17,some (14,false),.bin .lss (.t 16) (.c (.J (.int .i64 (-1))))⟩,ey 18 14 17,G 19 18,⟨some 20,some (19,false),.eu 1 (.t 2)⟩,⟨some 21,some (19,false),.load 1 false (.t 20)⟩,⟨some 22,some (19,false),.load 1 false (.t 1)⟩,⟨some 23,some (19,false),.len (.t 22)⟩,⟨some 24,some (19,false),.bin .geq (.t 21) (.t 23)⟩,ey 25 19 24,G 26 25,⟨some 27,some (26,false),.eu 2 (.t 2)⟩,⟨some 28,some (26,false),.load 1 false (.t 27)⟩,⟨some 29,some (26,false),.bin .lss (.t 28) (.c (al 0))⟩,ey 30 26 29,G 31 30,⟨some 32,some (31,false),.eu 2 (.t 2)⟩,⟨some 33,some (31,false),.load 1 false (.t 32)⟩,⟨some 34,some (31,false),.bin .geq (.t 33) (.c (al 10))⟩,ey 35 31 34,G 36 35,⟨some 37,some (36,false),.eu 3 (.t 2)⟩,⟨some 38,some (36,false),.load 1 false (.t 37)⟩,⟨some 39,some (36,false),.call KT [(.t 38)]⟩,⟨some 40,some (36,false),.un .not (.t 39)⟩,ey 41 36 40,G 3 41] .ret))
abbrev It:Int×Int×Int->List Data:=λ(x,a,b)=>[.int .i64 x,.int .i64 a,.int .i64 b]
def RE:=cu It λ(x,a,b)=>some (.same (.bool (decide (a<=x)&&decide (x<=b))))
theorem RF:∀a b,It a=It b->a=b:=by
  rintro⟨a2,c0,di⟩ ⟨bS,dj,eK⟩ h;simp only[bf,Data.int.injEq,Data.agg.injEq,Data.Y.injEq,Data.bool.injEq,Data.str.injEq,Data.ptr.injEq,Data.cM.injEq,fD,true_and,and_true] at h ⊢
  first|exact h|simpa [yx,and_assoc] using h|grind
@[go_sem] theorem aLt (x:Int)(a:Int)(b:Int):RE [.int .i64 x,.int .i64 a,.int .i64 b]=some (.same (.bool (decide (a<=x)&&decide (x<=b)))):=cD RF (x,a,b)
theorem ays (T:bl)  (x:Int) (a:Int) (b:Int):WP T Xe (.same (.bool (decide (a<=x)&&decide (x<=b)))) [.J (.int .i64 x),.J (.int .i64 a),.J (.int .i64 b)]:=by
 refine cE ?_;simp only[Xe];rcases aI:decide (a<=x)
 ·have c2:decide (x>=a)=false:=aI;refine aZ ?_;repeat' (intro h<;>simp only[h,go_sem,go_sem_proc,aI,c2,fu]<;>try refine ax ?_ ?_)
 ·have c2:decide (x>=a)=true:=aI;refine aZ ?_;repeat' (intro h<;>simp only[h,go_sem,go_sem_proc,aI,c2,g3]<;>try refine ax ?_ ?_)
abbrev aak:Int->List Data:=λ(x:Int)=>[.int .i64 x,.ptr [.fn vx []]]
def aal:=cu aak λ(x:Int)=>some (.same (.bool (!gk x)))
theorem ayt:∀a b,aak a=aak b->a=b:=by
  intro a2 bS h;simp only[bf,Data.int.injEq,Data.agg.injEq,Data.Y.injEq,Data.bool.injEq,Data.str.injEq,Data.ptr.injEq,Data.cM.injEq,fD,true_and,and_true] at h ⊢
  first|exact h|simpa [yx,and_assoc] using h|grind
@[go_sem] theorem ayu (x:Int):aal [.int .i64 x,.ptr [.fn vx []]]=some (.same (.bool (!gk x))):=cD ayt x
theorem ayv (T:bl)(aam:T vx=aW RE)(x:Int):WP T Xf (.same (.bool (!gk x))) [.J (.int .i64 x),.J (.ptr [.fn vx []])]:=by
 refine cE ?_;simp only[Xf];unfold gk;refine aZ ?_;repeat' (intro h<;>simp only[h,go_sem,go_sem_proc,aam]<;>try refine ax ?_ ?_)
abbrev aan:Int×Int×Int×Int×Int->List Data:=λ(a,b,k,x,n)=>[.agg [.int .i64 a,.int .i64 b,.int .i64 k,.int .i64 x],.ptr [.fn vx []],.ptr [.int .i64 n]]
def aao:=cu aan λ(a,b,k,x,n)=>cU (0<=n/\n<=1000000) (.same (.bool (!hK n (a,b,k,x))))
theorem ayw:∀a b,aan a=aan b->a=b:=by
  rintro⟨c0,di,cv,a2,iR⟩ ⟨dj,eK,cS,bS,jR⟩ h;simp only[bf,Data.int.injEq,Data.agg.injEq,Data.Y.injEq,Data.bool.injEq,Data.str.injEq,Data.ptr.injEq,Data.cM.injEq,fD,true_and,and_true] at h ⊢
  first|exact h|simpa [yx,and_assoc] using h|grind
@[go_sem] theorem ayx (a:Int)(b:Int)(k:Int)(x:Int)(n:Int)(H:0<=n/\n<=1000000):aao [.agg [.int .i64 a,.int .i64 b,.int .i64 k,.int .i64 x],.ptr [.fn vx []],.ptr [.int .i64 n]]=some (.same (.bool (!hK n (a,b,k,x)))):=(cD ayw (a,b,k,x,n)).trans (cZ H _)
theorem ayy (T:bl)(aam:T vx=aW RE)(a:Int)(b:Int)(k:Int)(x:Int)(n:Int)(H:0<=n/\n<=1000000):WP T Xg (.same (.bool (!hK n (a,b,k,x)))) [.J (.agg [.int .i64 a,.int .i64 b,.int .i64 k,.int .i64 x]),.J (.ptr [.fn vx []]),.J (.ptr [.int .i64 n])]:=by
 refine cE ?_;simp only[Xg];have w:IntKind.i64.wrap (n-1)=n-1:=by rw[fc _]
 have e:hK n (a,b,k,x)=((decide (0<=a)&&decide (a<=n-1))&&((decide (-1<=b)&&decide (b<=n-1))&&((decide (0<=k)&&decide (k<=9))&&(decide (0<=x)&&decide (x<=1000000000000000))))):=by
  rw[Ck,MF];simp only[eM,decide_eq_true_eq];omega
 rw[e];rcases aI:(decide (0<=a)&&decide (a<=n-1))<;>rcases c2:(decide (-1<=b)&&decide (b<=n-1))<;>rcases c3:(decide (0<=k)&&decide (k<=9))<;>rcases c4:(decide (0<=x)&&decide (x<=1000000000000000))
 all_goals
      refine aZ ?_;repeat' (intro h<;>simp only[h,go_sem,go_sem_proc,aam,w,aI,c2,c3,c4]<;>try refine ax ?_ ?_)
def aap:bY:=cq 15 3 [.t 6] (X [cO 6 false] (X [G 7 1,G 8 0,bB 9 .leq 7 8,G 10 9,⟨some 11,some (10,true),.cN (.t 0)⟩,⟨some 12,some (10,true),.cN (.t 2)⟩,⟨some 13,some (10,true),.bin .leq (.t 11) (.t 12)⟩,gK 14 10 13,G 6 14] .ret))
def aaq:bY:=cq 6 1 [.t 2] (X [cO 2 false] (X [G 3 0,(aC 4 (.call DZ [(.t 3),(.c (al 0)),(.c (al 1000000000000000))])),fx 5 4,G 2 5] .ret))
def aar:bY:=cq 31 3 [.t 4] (X [dX 3 362003 0,cO 4 false] (X [bj 5 0 3,aU 6 1 5,aU 7 1 1,bm 8 .sub 7 1,(aC 9 (.call DZ [(.t 6),(.c (al 0)),(.t 8)])),fx 10 9,G 11 10,⟨some 12,some (11,false),.eu 1 (.t 3)⟩,⟨some 13,some (11,false),.load 1 false (.t 12)⟩,⟨some 14,some (11,false),.load 1 false (.t 1)⟩,⟨some 15,some (11,false),.bin .sub (.t 14) (.c (al 1))⟩,⟨some 16,some (11,false),.call DZ [(.t 13),(.c (.J (.int .i64 (-1)))),(.t 15)]⟩,⟨some 17,some (11,false),.un .not (.t 16)⟩,ey 18 11 17,G 19 18,⟨some 20,some (19,false),.eu 2 (.t 3)⟩,⟨some 21,some (19,false),.load 1 false (.t 20)⟩,⟨some 22,some (19,false),.call DZ [(.t 21),(.c (al 0)),(.c (al 9))]⟩,⟨some 23,some (19,false),.un .not (.t 22)⟩,ey 24 19 23,G 25 24,⟨some 26,some (25,false),.load 1 false (.t 2)⟩,⟨some 27,some (25,false),.eu 3 (.t 3)⟩,⟨some 28,some (25,false),.load 1 false (.t 27)⟩,⟨some 29,some (25,false),.jH (.t 26) [(.t 28)]⟩,ey 30 25 29,G 4 30] .ret))
def fj (l:List Int):List Data:=[.Y (l.map ae)]
theorem RG:∀a b:List Int,fj a=fj b->a=b:=by
 intro a b h;simp only[fj,bf,Data.Y.injEq,and_true] at h;exact map_inj fh _ _ h
def ayz (a:List (List Int)):Prop:=D a<=1000000/\∀l∈a,D l<=1000000
def fT {α:Type}:List au->List α->Int->List α
 |c::cs,p::ps,dm=>if c.1==dm then p::fT cs ps dm else fT cs ps dm
 |_,_,_=>[]
theorem akd {α:Type}:∀(cs:List au) (ps:List α) (c:au) (p:α) (dm:Int),D cs=(D ps)->fT (cs++[c]) (ps++[p]) dm=fT cs ps dm++if c.1==dm then [p] else []
 | [],[],c,p,dm,_=>by simp only[jm,fT]
 | [],_::_,_,_,_,h=>by simp at h
 |_::_,[],_,_,_,h=>by simp at h
 |a::cs,b::ps,c,p,dm,h=>by
  have ay:=akd cs ps c p dm (by simpa using h);simp only[jT,fT,ay]
  split<;>rfl
theorem ayA {α:Type}(cs:List au)(aP:au->α)(dm:Int):fT cs (cs.map aP) dm=(cB cs dm).map aP:=by
 unfold cB
 induction cs with
 |nil=>rfl
 |cons c cs ay =>
  rw[eA,fT,ay]
  by_cases h:(c.1==dm)=true
  ·rw[ad h,aas,ad h];rfl
  ·rw[ah h,aas,ah h]
theorem ake {α:Type}:∀(cs:List au) (ps:List α) (dm:Int),(fT cs ps dm).length<=D cs
 | [],_,_=>by simp[fT]
 |_::_,[],_=>by simp[fT]
 |a::cs,b::ps,dm=>by
  have ay:=ake cs ps dm;rw[fT]
  split<;>simp<;>omega
theorem aat {α β:Type}(f:α->β):∀(cs:List au) (ps:List α) (dm:Int),fT cs (ps.map f) dm=(fT cs ps dm).map f
 | [],_,_=>by simp[fT]
 |_::_,[],_=>by simp[fT]
 |a::cs,b::ps,dm=>by
  have ay:=aat f cs ps dm;rw[eA,fT,fT,ay]
  split<;>simp
theorem aau {α:Type}:∀(cs:List au) (ps:List α) (dm:Int),D ps=(D cs)->(fT cs ps dm).length=(cB cs dm).length
 | [],_,_,_=>by simp[fT,cB]
 |_::_,[],_,h=>by simp at h
 |a::cs,b::ps,dm,h=>by
  have ay:=aau cs ps dm (by simpa using h);unfold cB at ay ⊢;rw[fT,aas]
  split<;>simp[ay]
theorem RH {α:Type}{x:α}:∀{cs:List au} {ps:List α} {dm:Int},x∈fT cs ps dm->x∈ps
 | [],_,_,h=>by simp[fT] at h
 |_::_,[],_,h=>by simp[fT] at h
 |a::cs,b::ps,dm,h=>by
  rw[fT] at h
  split at h
  ·rcases hH.1 h with rfl|h
   ·simp
   ·exact gZ _ (RH h)
  ·exact gZ _ (RH h)
def ia (l:List au)(q:Nat->Rat):Nat->Int
 |0=>10
 |k+1=>match l[k]? with
  |some c=>if q k<(c.2.2.2:Rat) then min (ia l q k) c.2.2.1 else ia l q k
  |none=>ia l q k
theorem akf {l:List au}{q:Nat->Rat}(h:∀c∈l,0<=c.2.2.1/\c.2.2.1<10)(k:Nat):0<=ia l q k/\ia l q k<=10:=by
 induction k with
 |zero=>exact⟨show (0:Int)<=10 by decide,show (10:Int)<=10 by decide⟩
 |succ k ay =>
  unfold ia
  split
  ·rename_i c H;have:=h c (ei H)
   split<;>omega
  ·exact ay
theorem ayB {l:List au}{q:Nat->Rat}(h:∀c∈l,0<=c.2.2.1/\c.2.2.1<10)(k:Nat):ia l q k<10↔∃i,i<k/\∃c,l[i]?=some c/\q i<(c.2.2.2:Rat):=by
 induction k with
 |zero=>exact⟨λh=>absurd h (show ¬ (10:Int)<10 by decide),fun⟨i,h,_⟩=>by omega⟩
 |succ k ay =>
  unfold ia
  split
  ·rename_i c H;have ag:=h c (ei H);have Q:=akf (q:=q) h k
   by_cases aL:q k<(c.2.2.2:Rat)
   ·rw[ad aL];exact⟨λ_=>⟨k,by omega,c,H,aL⟩,λ_=>by omega⟩
   ·rw[ah aL,ay]
    constructor
    ·rintro⟨i,F,I⟩;exact⟨i,by omega,I⟩
    ·rintro⟨i,F,c',I,af⟩
     by_cases MO:i=k
     ·subst MO;rw[H] at I;cases I;exact absurd af aL
     ·exact⟨i,by omega,c',I,af⟩
  ·rename_i H;rw[ay]
   constructor
   ·rintro⟨i,F,I⟩;exact⟨i,by omega,I⟩
   ·rintro⟨i,F,c',I,af⟩
    by_cases MO:i=k
    ·subst MO;rw[H] at I;cases I
    ·exact⟨i,by omega,c',I,af⟩
structure RI (l:List au) (q:List Rat):Prop where
 own:kt l
 len:(D q)=D l
 lim:∀x∈q,dv x
def Iu (l:List au)(q:List Rat):Data:=if ia l (λi=>q.getD i 0) (D l)<10 then .cM [.int .i64 (ia l (λi=>q.getD i 0) (D l)),.bool true] else .cM [.int .i64 0,.bool false]
def qi (cs:List au)(ps:List Rat)(i:Int):Int:=ia (cB cs i) (λk=>(fT cs ps i).getD k 0) (cB cs i).length
def r2 (cs:List au)(ps:List Rat)(i:Int):Int:=if qi cs ps i<10 then qi cs ps i else 0
theorem ayC (cs:List au)(ps:List Rat)(i:Int):Iu (cB cs i) (fT cs ps i)=.cM [.int .i64 (r2 cs ps i),.bool (decide (qi cs ps i<10))]:=by
 unfold Iu r2 qi
 split
 ·rename_i h;rw[kf h]
 ·rename_i h;rw[mw h]
def q2 (cs:List au)(ps:List Rat)(set:List Int)(i:Int):Bool:=cs.any λc=>c.1==i&&(c.2.2.1==r2 cs ps i&&(decide (c.2.2.2>0) && !decide (c.2.1∈set)))
structure ku (E:List Int) (cs:List au) (ps:List Rat):Prop where
 len:(D ps)=D cs
 l:(D cs)<=2000
 n:(D E)<=60
 own:∀i:Int,kt (cB cs i)
 lim:∀x∈ps,dv x
theorem ku.short {E:List Int}{cs:List au}{ps:List Rat}(h:ku E cs ps)(i:Int):RI (cB cs i) (fT cs ps i):=⟨h.own i,aau cs ps i h.len,λx O=>h.lim x (RH O)⟩
def eO (E:List Int)(cs:List au)(ak bI:List bg)(fl:List (List Int)):List Data:=[.Y (E.map ae),.Y (cs.map ck),.Y (ak.map aE),.Y (bI.map aE),.Y (fl.map fj)]
theorem AV {E Iq:List Int}{cs nr:List au}{ak lx bI uE:List bg}{fl AS:List (List Int)}(h:eO E cs ak bI fl=eO Iq nr lx uE AS):E=Iq/\cs=nr/\ak=lx/\bI=uE/\fl=AS:=by
 simp only[eO,bf,Data.Y.injEq,and_true] at h;exact⟨map_inj fh _ _ h.1,map_inj r0 _ _ h.2.1,map_inj nd _ _ h.2.2.1,map_inj nd _ _ h.2.2.2.1,map_inj RG _ _ h.2.2.2.2⟩
abbrev aav:Int×(List bg)×Nat->List Data:=λ(z,h,i)=>[.int .i64 z,.ptr [.Y (h.map aE)],.ptr [.int .i64 i]]
def aaw:=cu aav λ(z,h,i)=>cU (dC z/\i<D h/\fN h) (.same (.bool (decide (lG (h.getD i fv) (av (z:Rat))<0))))
theorem ayD:∀a b,aav a=aav b->a=b:=by
  rintro⟨j0,F,i1⟩ ⟨lf,I,i2⟩ h;simp only[bf,Data.int.injEq,Data.ptr.injEq,Data.Y.injEq,and_true,true_and] at h;exact dR h.1 (dR (map_inj nd _ _ h.2.1) (by have:=h.2.2;dsimp only;omega))
@[go_sem] theorem ayE (z:Int)(h:List bg)(i:Nat)(H:dC z/\i<D h/\fN h):aaw [.int .i64 z,.ptr [.Y (h.map aE)],.ptr [.int .i64 i]]=some (.same (.bool (decide (lG (h.getD i fv) (av (z:Rat))<0)))):=(cD ayD (z,h,i)).trans (cZ H _)
theorem ayF (T:bl)(hE:T pt=aW wh)(eP:T oU=aW uk)(z:Int)(h:List bg)(i:Nat)(H:dC z/\i<D h/\fN h):WP T Xd (.same (.bool (decide (lG (h.getD i fv) (av (z:Rat))<0)))) [.J (.int .i64 z),.J (.ptr [.Y (h.map aE)]),.J (.ptr [.int .i64 i])]:=by
 refine cE ?_;simp only[Xd];obtain⟨aV,M,cW⟩:=H;have hw:=CT z aV;obtain⟨x,O⟩:∃x,h[i]?=some x:=⟨_,bz M⟩;have Hi:h.getD i fv=x:=by rw[ep,O];rfl
 obtain⟨AW,wo⟩:=cW.2 x (ei O);obtain⟨Iv,Iw⟩:=lH (uM aV);rw[Hi];generalize av (z:Rat)=Z at *;obtain⟨⟨c0,dj⟩,⟨a3,a4⟩⟩:=Z;obtain⟨⟨di,eK⟩,⟨j7,mc⟩⟩:=x;have iH:=agm di eK j7 mc c0 dj a3 a4 ⟨AW,wo,Iv,Iw⟩;simp only[aE] at hw;simp only[go_sem,go_sem_proc,hE,eP,hw,O,iH,aE,aj,bn];repeat' (first|refine ax ?_ ?_|fail)<;>intro h<;>simp only[h,go_sem,go_sem_proc,hE,eP,hw,O,iH,aE,aj,bn]
def RJ:=cu w4 λ(x:Int)=>some (.same (.bool (gk x)))
@[go_sem] theorem aLu (x:Int):RJ [.int .i64 x]=some (.same (.bool (gk x))):=cD zX x
theorem ayG (T:bl)  (x:Int):WP T aai (.same (.bool (gk x))) [.J (.int .i64 x)]:=by
 refine cE ?_;simp only[aai];unfold gk;rcases aI:decide (0<=x)
 ·have c2:decide (x>=0)=false:=aI;refine aZ ?_;repeat' (intro h<;>simp only[h,go_sem,go_sem_proc,aI,c2,fu]<;>try refine ax ?_ ?_)
 ·have c2:decide (x>=0)=true:=aI;refine aZ ?_;repeat' (intro h<;>simp only[h,go_sem,go_sem_proc,aI,c2,g3]<;>try refine ax ?_ ?_)
def aax:=cu w4 λ(x:Int)=>some (.same (.bool (!gk x)))
@[go_sem] theorem ayH (x:Int):aax [.int .i64 x]=some (.same (.bool (!gk x))):=cD zX x
theorem ayI (T:bl)(MP:T KT=aW RJ)(x:Int):WP T aah (.same (.bool (!gk x))) [.J (.int .i64 x)]:=by
 refine cE ?_;simp only[aah];refine aZ ?_;repeat' (intro h<;>simp only[h,go_sem,go_sem_proc,MP]<;>try refine ax ?_ ?_)
def RK:=cu It λ(x,a,b)=>some (.same (.bool (decide (a<=x)&&decide (x<=b))))
@[go_sem] theorem aLv (x:Int)(a:Int)(b:Int):RK [.int .i64 x,.int .i64 a,.int .i64 b]=some (.same (.bool (decide (a<=x)&&decide (x<=b)))):=cD RF (x,a,b)
theorem ayJ (T:bl)  (x:Int) (a:Int) (b:Int):WP T aap (.same (.bool (decide (a<=x)&&decide (x<=b)))) [.J (.int .i64 x),.J (.int .i64 a),.J (.int .i64 b)]:=by
 refine cE ?_;simp only[aap];rcases aI:decide (a<=x)
 ·refine aZ ?_;repeat' (intro h<;>simp only[h,go_sem,go_sem_proc,aI,fu]<;>try refine ax ?_ ?_)
 ·refine aZ ?_;repeat' (intro h<;>simp only[h,go_sem,go_sem_proc,aI,g3]<;>try refine ax ?_ ?_)
def RL:=cu w4 λ(x:Int)=>some (.same (.bool (!gk x)))
@[go_sem] theorem ayK (x:Int):RL [.int .i64 x]=some (.same (.bool (!gk x))):=cD zX x
theorem ayL (T:bl)(aay:T DZ=aW RK)(x:Int):WP T aaq (.same (.bool (!gk x))) [.J (.int .i64 x)]:=by
 refine cE ?_;simp only[aaq];unfold gk;refine aZ ?_;repeat' (intro h<;>simp only[h,go_sem,go_sem_proc,aay]<;>try refine ax ?_ ?_)
def RM:=cu It λ(x,a,b)=>some (.same (.bool (decide (a<=x)&&decide (x<=b))))
@[go_sem] theorem aLw (x:Int)(a:Int)(b:Int):RM [.int .i64 x,.int .i64 a,.int .i64 b]=some (.same (.bool (decide (a<=x)&&decide (x<=b)))):=cD RF (x,a,b)
theorem ayM (T:bl)  (x:Int) (a:Int) (b:Int):WP T Xn (.same (.bool (decide (a<=x)&&decide (x<=b)))) [.J (.int .i64 x),.J (.int .i64 a),.J (.int .i64 b)]:=by
 refine cE ?_;simp only[Xn];rcases aI:decide (a<=x)
 ·refine aZ ?_;repeat' (intro h<;>simp only[h,go_sem,go_sem_proc,aI,fu]<;>try refine ax ?_ ?_)
 ·refine aZ ?_;repeat' (intro h<;>simp only[h,go_sem,go_sem_proc,aI,g3]<;>try refine ax ?_ ?_)
def RN:=cu w4 λ(x:Int)=>some (.same (.bool (gk x)))
@[go_sem] theorem aLx (x:Int):RN [.int .i64 x]=some (.same (.bool (gk x))):=cD zX x
theorem ayN (T:bl)(aaz:T DV=aW RM)(x:Int):WP T Xm (.same (.bool (gk x))) [.J (.int .i64 x)]:=by
 refine cE ?_;simp only[Xm];unfold gk;refine aZ ?_;repeat' (intro h<;>simp only[h,go_sem,go_sem_proc,aaz]<;>try refine ax ?_ ?_)
abbrev aaA:Int->List Data:=λ(x:Int)=>[.int .i64 x,.ptr [.fn ny []]]
def aaB:=cu aaA λ(x:Int)=>some (.same (.bool (!gk x)))
theorem ayO:∀a b,aaA a=aaA b->a=b:=by
  intro a2 bS h;simp only[bf,Data.int.injEq,Data.agg.injEq,Data.Y.injEq,Data.bool.injEq,Data.str.injEq,Data.ptr.injEq,Data.cM.injEq,fD,true_and,and_true] at h ⊢
  first|exact h|simpa [yx,and_assoc] using h|grind
@[go_sem] theorem ayP (x:Int):aaB [.int .i64 x,.ptr [.fn ny []]]=some (.same (.bool (!gk x))):=cD ayO x
theorem ayQ (T:bl)(aaC:T ny=aW RN)(x:Int):WP T Xy (.same (.bool (!gk x))) [.J (.int .i64 x),.J (.ptr [.fn ny []])]:=by
 refine cE ?_;simp only[Xy];refine aZ ?_;repeat' (intro h<;>simp only[h,go_sem,go_sem_proc,aaC]<;>try refine ax ?_ ?_)
abbrev aaD:Int×(List Int)×(List au)×(List bg)×(List Rat)×(List (List Int))×(List Int)->List Data:=λ(x,E,cs,ak,ps,fl,set)=>[.int .i64 x,.ptr (eO E cs ak (ps.map av) fl),.ptr [.Y (set.map ae)]]
def Ix:=cu aaD λ(x,E,cs,ak,ps,fl,set)=>cU (ku E cs ps/\D set<=1000000) (.same (.bool (q2 cs ps set x)))
theorem ayR:∀a b,aaD a=aaD b->a=b:=by
  rintro⟨a2,uO,uP,ki,Iy,za,akg⟩ ⟨bS,uQ,n3,oJ,Iz,zb,akh⟩ h;simp only[bf,Data.int.injEq,Data.ptr.injEq,Data.Y.injEq,and_true,true_and] at h;obtain⟨F,cF,I⟩:=h;obtain⟨rfl,rfl,rfl,cp,rfl⟩:=AV cF;rw[F,map_inj fh _ _ I,map_inj (λ_ _ aR=>ui aR) _ _ cp]
@[go_sem] theorem aki (x:Int)(E:List Int)(cs:List au)(ak:List bg)(ps:List Rat)(fl:List (List Int))(set:List Int)(H:ku E cs ps/\D set<=1000000):Ix [.int .i64 x,.ptr (eO E cs ak (ps.map av) fl),.ptr [.Y (set.map ae)]]=some (.same (.bool (q2 cs ps set x))):=(cD ayR (x,E,cs,ak,ps,fl,set)).trans (cZ H _)
theorem IA (T:bl)(id:FuncId)(eT:List Data)(aP:List Data->Option eR)(cC:T id=aW aP)(p:Int->Bool)(l:List Int)(ar:(D l)<=1000000)(e8:∀x∈l,aP (.int .i64 x::eT)=some (.same (.bool (p x)))):WP T K1 (.same (.int .i64 (kP p l))) [.J (.Y (l.map ae)),.J (.fn id eT)]:=by
 refine cE ?_;simp only[K1];simp only[go_sem,go_sem_proc,aj];refine dw [0,1,7] [] (λ(i:Nat) tm mem=>i<=D l/\(∀x∈l.take i,p x=false)/\tm 8=.J (.int .i64 i)) (λi=>D l-i) 0 (by refine⟨fk _,by simp,rfl⟩) ?_;intro vs ms aT aS;simp only[go_sem,go_sem_proc,aj] at aT aS;subst aT aS;rintro i tm mem Q hm ⟨M,e4,cb⟩;simp only[go_sem,go_sem_proc,bf] at Q hm;obtain⟨ao,F,bN⟩:=Q;have iH:∀m:Mem,(eT.map R.J).mapM (cl 6 m)=some eT:=λm=>tK (cl 6 m) (λd=>rfl) eT;rcases dF (i<D l) with aA|b7
 ·have O:=bz aA;have mT:=e8 _ (ph aA);have cj:=λh=>LH (p:=p) e4 O h;have hN:=λh=>Qg (p:=p) e4 O h;generalize l[i]=x at *;have hp:decide ((i:Int)<(D l:Int))=true:=dp;have hw:=e9 (i:=i) (by omega);rcases ag:p x
  ·rw[ag] at mT;simp only[go_sem,go_sem_proc,cC,ao,F,bN,cb,O,hp,hw,mT,iH,ae,aj,bn,ir];repeat' (first|refine ax ?_ ?_|fail)<;>intro h<;>simp only[h,go_sem,go_sem_proc,cC,ao,F,bN,cb,O,hp,hw,mT,iH,ae,aj,bn,ir]
   exact⟨i+1,by omega,by omega,hN ag,rfl⟩
  ·rw[ag] at mT;rw[cj ag];simp only[go_sem,go_sem_proc,cC,ao,F,bN,cb,O,hp,hw,mT,iH,ae,aj,bn,ir];repeat' (first|refine ax ?_ ?_|fail)<;>intro h<;>simp only[h,go_sem,go_sem_proc,cC,ao,F,bN,cb,O,hp,hw,mT,iH,ae,aj,bn,ir]
 ·have hp:decide ((i:Int)<(D l:Int))=false:=dn;obtain rfl:i=D l:=by omega
  rw[kN] at e4;rw[Qf e4];simp only[go_sem,go_sem_proc,ao,F,bN,cb,hp,aj];repeat' (first|refine ax ?_ ?_|fail)<;>intro h<;>simp only[h,go_sem,go_sem_proc,ao,F,bN,cb,hp,aj]
inductive AX where
 |right
 |day
 |hold
 |solve (h:List bg) (i:Nat)
 |r3
 |CY (E:List Int) (cs:List au) (ak:List bg) (ps:List Rat) (fl:List (List Int)) (set:List Int)
def r4:AX->Data
 |.right => .fn KP [.ptr [.fn vx []]]
 |.day => .fn GD []
 |.hold => .fn w3 []
 |.solve h i => .fn DT [.ptr [.Y (h.map aE)],.ptr [.int .i64 i]]
 |.r3 => .fn BQ [.ptr [.fn ny []]]
 |.CY E cs ak ps fl set => .fn tR [.ptr (eO E cs ak (ps.map av) fl),.ptr [.Y (set.map ae)]]
theorem ayS:∀a b:AX,r4 a=r4 b->a=b:=by
 intro a b e
 cases a<;>cases b
 all_goals first|rfl|(simp[r4,KP,GD,DT,w3,BQ,tR] at e;done)|skip
 ·simp only[r4,Data.fn.injEq,bf,Data.ptr.injEq,Data.Y.injEq,Data.int.injEq,and_true,true_and] at e;rw[map_inj nd _ _ e.1,Int.ofNat.inj e.2]
 ·simp only[r4,Data.fn.injEq,bf,Data.ptr.injEq,Data.Y.injEq,and_true,true_and] at e;obtain⟨cF,I⟩:=e;obtain⟨rfl,rfl,rfl,cp,rfl⟩:=AV cF;rw[map_inj fh _ _ I,map_inj (λ_ _ aR=>ui aR) _ _ cp]
def qj:AX->Int->Bool
 |.right,x => !gk x
 |.day,x => !gk x
 |.hold,x => !gk x
 |.solve h i,x=>decide (lG (h.getD i fv) (av (x:Rat))<0)
 |.r3,x => !gk x
 |.CY _ cs _ ps _ set,x=>q2 cs ps set x
def IB (l:List Int):AX->Prop
 |.right=>True
 |.day=>GD<900000
 |.hold=>w3<900000
 |.solve h i=>DT<900000/\i<D h/\fN h/\∀x∈l,dC x
 |.r3=>BQ<900000
 |.CY E cs _ ps _ set=>tR<900000/\ku E cs ps/\D set<=1000000
abbrev RO:(List Int)×AX->List Data:=λ(l,c)=>[.Y (l.map ae),r4 c]
def AY:=cu RO λ(l,c)=>cU (D l<=1000000/\IB l c) (.same (.int .i64 (kP (qj c) l)))
theorem akj:∀a b,RO a=RO b->a=b:=by
  rintro⟨eh,aI⟩ ⟨aq,c2⟩ h;simp only[bf,Data.Y.injEq,and_true] at h;exact dR (map_inj fh _ _ h.1) (ayS _ _ h.2)
@[go_sem] theorem akk (l:List Int)(c:AX)(H:(D l)<=1000000/\IB l c):AY [.Y (l.map ae),r4 c]=some (.same (.int .i64 (kP (qj c) l))):=(cD akj (l,c)).trans (cZ H _)
theorem ayT (T:bl)(ayU:T KP=aW aal)(ayV:GD<900000->T GD=aW aax)(aaE:w3<900000->T w3=aW RL)(ayW:DT<900000->T DT=aW aaw)(ayX:BQ<900000->T BQ=aW aaB)(MQ:tR<900000->T tR=aW Ix)(l:List Int)(c:AX)(H:(D l)<=1000000/\IB l c):WP T K1 (.same (.int .i64 (kP (qj c) l))) [.J (.Y (l.map ae)),.J (r4 c)]:=by
 refine cE ?_;simp only[K1];obtain⟨ar,cW⟩:=H
 cases c with
 |right=>exact qT (IA T _ _ _ ayU (qj .right) l ar λx _=>ayu x)
 |day=>exact qT (IA T _ _ _ (ayV cW) (qj .day) l ar λx _=>ayH x)
 |hold=>exact qT (IA T _ _ _ (aaE cW) (qj .hold) l ar λx _=>ayK x)
 |solve h k=>exact qT (IA T _ _ _ (ayW cW.1) (qj (.solve h k)) l ar λx O=>ayE x h k ⟨cW.2.2.2 x O,cW.2.1,cW.2.2.1⟩)
 |r3=>exact qT (IA T _ _ _ (ayX cW) (qj .r3) l ar λx _=>ayP x)
 |CY E cs ak ps fl set=>exact qT (IA T _ _ _ (MQ cW.1) (qj (.CY E cs ak ps fl set)) l ar λx _=>aki x E cs ak ps fl set cW.2)
def RP:=cu RO λ(l,c)=>cU (D l<=1000000/\IB l c) (.same (.bool (l.any (qj c))))
@[go_sem] theorem akl (l:List Int)(c:AX)(H:(D l)<=1000000/\IB l c):RP [.Y (l.map ae),r4 c]=some (.same (.bool (l.any (qj c)))):=(cD akj (l,c)).trans (cZ H _)
theorem ayY (T:bl)(nj:T wY=aW AY)(l:List Int)(c:AX)(H:(D l)<=1000000/\IB l c):WP T Vw (.same (.bool (l.any (qj c)))) [.J (.Y (l.map ae)),.J (r4 c)]:=by
 refine cE ?_;simp only[Vw];rw[<-LI];refine aZ ?_;repeat' (intro h<;>simp only[h,go_sem,go_sem_proc,nj,H]<;>try refine ax ?_ ?_)
abbrev aaF:Int×Int×Int×Int×(List Int)->List Data:=λ(a,b,k,x,E)=>[.agg [.int .i64 a,.int .i64 b,.int .i64 k,.int .i64 x],.ptr [.Y (E.map ae)]]
def aaG:=cu aaF λ(a,b,k,x,E)=>cU (D E<=1000000) (.same (.bool (!hK (D E) (a,b,k,x))))
theorem ayZ:∀a b,aaF a=aaF b->a=b:=by
  rintro⟨c0,di,cv,a2,uO⟩ ⟨dj,eK,cS,bS,uQ⟩ h;simp only[bf,Data.agg.injEq,Data.int.injEq,Data.ptr.injEq,Data.Y.injEq,and_true,true_and] at h;obtain⟨⟨F,I,af,aO⟩,br⟩:=h;rw[F,I,af,aO,map_inj fh _ _ br]
@[go_sem] theorem ay0 (a:Int)(b:Int)(k:Int)(x:Int)(E:List Int)(H:(D E)<=1000000):aaG [.agg [.int .i64 a,.int .i64 b,.int .i64 k,.int .i64 x],.ptr [.Y (E.map ae)]]=some (.same (.bool (!hK (D E) (a,b,k,x)))):=(cD ayZ (a,b,k,x,E)).trans (cZ H _)
theorem ay1 (T:bl)(MP:T KT=aW RJ)(a:Int)(b:Int)(k:Int)(x:Int)(E:List Int)(H:(D E)<=1000000):WP T aaj (.same (.bool (!hK (D E) (a,b,k,x)))) [.J (.agg [.int .i64 a,.int .i64 b,.int .i64 k,.int .i64 x]),.J (.ptr [.Y (E.map ae)])]:=by
 refine cE ?_;simp only[aaj]
 by_cases ab:hK (D E) (a,b,k,x)=true
 ·have Gb:=MF.1 ab;dsimp only at Gb;have aI:decide (a<0)=false:=dn;have c2:decide (a>=(D E:Int))=false:=dn;have c3:decide (b < -1)=false:=dn;have c4:decide (b>=(D E:Int))=false:=dn;have Is:decide (k<0)=false:=dn;have aag:decide (k>=10)=false:=dn;have MR:gk x=true:=Ru.2 (by omega);refine aZ ?_;repeat' (intro h<;>simp only[h,go_sem,go_sem_proc,MP,ab,aI,c2,c3,c4,Is,aag,MR,aj,c5]<;>try refine ax ?_ ?_)
 ·have aH:hK (D E) (a,b,k,x)=false:=by simpa using ab
  rw[MF] at ab;dsimp only at ab;rcases MR:gk x
  ·refine aZ ?_;repeat' (intro h<;>simp only[h,go_sem,go_sem_proc,MP,aH,MR,aj,c5,dH]<;>try refine ax ?_ ?_)
  ·have aLy:=Ru.1 MR;refine aZ ?_;repeat' (intro h<;>simp only[h,go_sem,go_sem_proc,MP,aH,MR,aj,c5,dH]<;>try refine ax ?_ ?_)
   all_goals (exfalso;simp only[decide_eq_false_iff_not] at *;omega)
abbrev aaH:Int×Int×Int×Int×Int->List Data:=λ(a,b,k,x,n)=>[.agg [.int .i64 a,.int .i64 b,.int .i64 k,.int .i64 x],.ptr [.int .i64 n],.ptr [.fn w3 []]]
def aaI:=cu aaH λ(a,b,k,x,n)=>cU (0<=n/\n<=1000000) (.same (.bool (!hK n (a,b,k,x))))
theorem ay2:∀a b,aaH a=aaH b->a=b:=by
  rintro⟨c0,di,cv,a2,iR⟩ ⟨dj,eK,cS,bS,jR⟩ h;simp only[bf,Data.int.injEq,Data.agg.injEq,Data.Y.injEq,Data.bool.injEq,Data.str.injEq,Data.ptr.injEq,Data.cM.injEq,fD,true_and,and_true] at h ⊢
  first|exact h|simpa [yx,and_assoc] using h|grind
@[go_sem] theorem ay3 (a:Int)(b:Int)(k:Int)(x:Int)(n:Int)(H:0<=n/\n<=1000000):aaI [.agg [.int .i64 a,.int .i64 b,.int .i64 k,.int .i64 x],.ptr [.int .i64 n],.ptr [.fn w3 []]]=some (.same (.bool (!hK n (a,b,k,x)))):=(cD ay2 (a,b,k,x,n)).trans (cZ H _)
theorem ay4 (T:bl)(aay:T DZ=aW RK)(aaE:T w3=aW RL)(a:Int)(b:Int)(k:Int)(x:Int)(n:Int)(H:0<=n/\n<=1000000):WP T aar (.same (.bool (!hK n (a,b,k,x)))) [.J (.agg [.int .i64 a,.int .i64 b,.int .i64 k,.int .i64 x]),.J (.ptr [.int .i64 n]),.J (.ptr [.fn w3 []])]:=by
 refine cE ?_;simp only[aar];have w:IntKind.i64.wrap (n-1)=n-1:=by rw[fc _]
 have e:hK n (a,b,k,x)=((decide (0<=a)&&decide (a<=n-1))&&((decide (-1<=b)&&decide (b<=n-1))&&((decide (0<=k)&&decide (k<=9))&&gk x))):=by
  rw[Ck,MF];simp only[eM,decide_eq_true_eq,Ru];omega
 rw[e];rcases aI:(decide (0<=a)&&decide (a<=n-1))<;>rcases c2:(decide (-1<=b)&&decide (b<=n-1))<;>rcases c3:(decide (0<=k)&&decide (k<=9))<;>rcases c4:gk x
 all_goals
      refine aZ ?_;repeat' (intro h<;>simp only[h,go_sem,go_sem_proc,aay,aaE,w,aI,c2,c3,c4]<;>try refine ax ?_ ?_)
abbrev aaJ:Int×Int×Int×Int×Int->List Data:=λ(a,b,k,x,n)=>[.agg [.int .i64 a,.int .i64 b,.int .i64 k,.int .i64 x],.ptr [.int .i64 n],.ptr [.fn ny []]]
def aaK:=cu aaJ λ(a,b,k,x,n)=>cU (0<=n/\n<=1000000) (.same (.bool (hK n (a,b,k,x))))
theorem ay5:∀a b,aaJ a=aaJ b->a=b:=by
  rintro⟨c0,di,cv,a2,iR⟩ ⟨dj,eK,cS,bS,jR⟩ h;simp only[bf,Data.int.injEq,Data.agg.injEq,Data.Y.injEq,Data.bool.injEq,Data.str.injEq,Data.ptr.injEq,Data.cM.injEq,fD,true_and,and_true] at h ⊢
  first|exact h|simpa [yx,and_assoc] using h|grind
@[go_sem] theorem aLz (a:Int)(b:Int)(k:Int)(x:Int)(n:Int)(H:0<=n/\n<=1000000):aaK [.agg [.int .i64 a,.int .i64 b,.int .i64 k,.int .i64 x],.ptr [.int .i64 n],.ptr [.fn ny []]]=some (.same (.bool (hK n (a,b,k,x)))):=(cD ay5 (a,b,k,x,n)).trans (cZ H _)
theorem ay6 (T:bl)(aaz:T DV=aW RM)(aaC:T ny=aW RN)(a:Int)(b:Int)(k:Int)(x:Int)(n:Int)(H:0<=n/\n<=1000000):WP T Xo (.same (.bool (hK n (a,b,k,x)))) [.J (.agg [.int .i64 a,.int .i64 b,.int .i64 k,.int .i64 x]),.J (.ptr [.int .i64 n]),.J (.ptr [.fn ny []])]:=by
 refine cE ?_;simp only[Xo];have w:IntKind.i64.wrap (n-1)=n-1:=by rw[fc _]
 have e:hK n (a,b,k,x)=((decide (0<=a)&&decide (a<=n-1))&&((decide (-1<=b)&&decide (b<=n-1))&&((decide (0<=k)&&decide (k<=9))&&gk x))):=by
  rw[Ck,MF];simp only[eM,decide_eq_true_eq,Ru];omega
 rw[e];rcases aI:(decide (0<=a)&&decide (a<=n-1))<;>rcases c2:(decide (-1<=b)&&decide (b<=n-1))<;>rcases c3:(decide (0<=k)&&decide (k<=9))<;>rcases c4:gk x
 all_goals
      refine aZ ?_;repeat' (intro h<;>simp only[h,go_sem,go_sem_proc,aaz,aaC,w,aI,c2,c3,c4]<;>try refine ax ?_ ?_)
abbrev aaL:Int×Int×Int×Int×Int->List Data:=λ(a,b,k,x,n)=>[.agg [.int .i64 a,.int .i64 b,.int .i64 k,.int .i64 x],.ptr [.fn yw [.ptr [.int .i64 n],.ptr [.fn ny []]]]]
def aaM:=cu aaL λ(a,b,k,x,n)=>cU (0<=n/\n<=1000000) (.same (.bool (!hK n (a,b,k,x))))
theorem ay7:∀a b,aaL a=aaL b->a=b:=by
  rintro⟨c0,di,cv,a2,iR⟩ ⟨dj,eK,cS,bS,jR⟩ h;simp only[bf,Data.int.injEq,Data.agg.injEq,Data.Y.injEq,Data.bool.injEq,Data.str.injEq,Data.ptr.injEq,Data.cM.injEq,fD,true_and,and_true] at h ⊢
  first|exact h|simpa [yx,and_assoc] using h|grind
@[go_sem] theorem ay8 (a:Int)(b:Int)(k:Int)(x:Int)(n:Int)(H:0<=n/\n<=1000000):aaM [.agg [.int .i64 a,.int .i64 b,.int .i64 k,.int .i64 x],.ptr [.fn yw [.ptr [.int .i64 n],.ptr [.fn ny []]]]]=some (.same (.bool (!hK n (a,b,k,x)))):=(cD ay7 (a,b,k,x,n)).trans (cZ H _)
theorem ay9 (T:bl)(aza:T yw=aW aaK)(a:Int)(b:Int)(k:Int)(x:Int)(n:Int)(H:0<=n/\n<=1000000):WP T Xz (.same (.bool (!hK n (a,b,k,x)))) [.J (.agg [.int .i64 a,.int .i64 b,.int .i64 k,.int .i64 x]),.J (.ptr [.fn yw [.ptr [.int .i64 n],.ptr [.fn ny []]]])]:=by
 refine cE ?_;simp only[Xz];refine aZ ?_;repeat' (intro h<;>simp only[h,go_sem,go_sem_proc,aza,H]<;>try refine ax ?_ ?_)
abbrev aaN:Int×Int×Int×Int×Int×Int×(List Int)->List Data:=λ(a,b,k,x,i,e,set)=>[.agg [.int .i64 a,.int .i64 b,.int .i64 k,.int .i64 x],.ptr [.int .i64 i],.ptr [.int .i64 e],.ptr [.Y (set.map ae)]]
def aaO:=cu aaN λ(a,b,k,x,i,e,set)=>cU (D set<=1000000) (.same (.bool (a==i&&(k==e&&(decide (x>0) && !decide (b∈set))))))
theorem azb:∀a b,aaN a=aaN b->a=b:=by
  rintro⟨c0,di,cv,a2,i1,az,akg⟩ ⟨dj,eK,cS,bS,i2,aD,akh⟩ h;simp only[bf,Data.agg.injEq,Data.int.injEq,Data.ptr.injEq,Data.Y.injEq,and_true,true_and] at h;obtain⟨⟨F,I,af,aO⟩,br,bR,bN⟩:=h;rw[F,I,af,aO,br,bR,map_inj fh _ _ bN]
@[go_sem] theorem azc (a:Int)(b:Int)(k:Int)(x:Int)(i:Int)(e:Int)(set:List Int)(H:(D set)<=1000000):aaO [.agg [.int .i64 a,.int .i64 b,.int .i64 k,.int .i64 x],.ptr [.int .i64 i],.ptr [.int .i64 e],.ptr [.Y (set.map ae)]]=some (.same (.bool (a==i&&(k==e&&(decide (x>0) && !decide (b∈set)))))):=(cD azb (a,b,k,x,i,e,set)).trans (cZ H _)
theorem MS (T:bl)(id:FuncId)(eT:List Data)(aP:List Data->Option eR)(cC:T id=aW aP)(p:au->Bool)(l:List au)(ar:(D l)<=1000000)(e8:∀a b k z,(a,b,k,z)∈l->aP (.agg [.int .i64 a,.int .i64 b,.int .i64 k,.int .i64 z]::eT)=some (.same (.bool (p (a,b,k,z))))):WP T K3 (.same (.int .i64 (kP p l))) [.J (.Y (l.map ck)),.J (.fn id eT)]:=by
 refine cE ?_;simp only[K3];simp only[go_sem,go_sem_proc,aj];refine dw [0,1,7] [] (λ(i:Nat) tm mem=>i<=D l/\(∀x∈l.take i,p x=false)/\tm 8=.J (.int .i64 i)) (λi=>D l-i) 0 (by refine⟨fk _,by simp,rfl⟩) ?_;intro vs ms aT aS;simp only[go_sem,go_sem_proc,aj] at aT aS;subst aT aS;rintro i tm mem Q hm ⟨M,e4,cb⟩;simp only[go_sem,go_sem_proc,bf] at Q hm;obtain⟨ao,F,bN⟩:=Q;have iH:∀m:Mem,(eT.map R.J).mapM (cl 6 m)=some eT:=λm=>tK (cl 6 m) (λd=>rfl) eT;rcases dF (i<D l) with aA|b7
 ·have O:=bz aA;have CA:=ph aA;have cj:=λh=>LH (p:=p) e4 O h;have hN:=λh=>Qg (p:=p) e4 O h;generalize l[i]=x at *;obtain⟨a,b,k,z⟩:=x;have mT:=e8 a b k z CA;have hp:decide ((i:Int)<(D l:Int))=true:=dp;have hw:=e9 (i:=i) (by omega);rcases ag:p (a,b,k,z)
  ·rw[ag] at mT;simp only[go_sem,go_sem_proc,cC,ao,F,bN,cb,O,hp,hw,mT,iH,ck,aj,bn,ir];repeat' (first|refine ax ?_ ?_|fail)<;>intro h<;>simp only[h,go_sem,go_sem_proc,cC,ao,F,bN,cb,O,hp,hw,mT,iH,ck,aj,bn,ir]
   exact⟨i+1,by omega,by omega,hN ag,rfl⟩
  ·rw[ag] at mT;rw[cj ag];simp only[go_sem,go_sem_proc,cC,ao,F,bN,cb,O,hp,hw,mT,iH,ck,aj,bn,ir];repeat' (first|refine ax ?_ ?_|fail)<;>intro h<;>simp only[h,go_sem,go_sem_proc,cC,ao,F,bN,cb,O,hp,hw,mT,iH,ck,aj,bn,ir]
 ·have hp:decide ((i:Int)<(D l:Int))=false:=dn;obtain rfl:i=D l:=by omega
  rw[kN] at e4;rw[Qf e4];simp only[go_sem,go_sem_proc,ao,F,bN,cb,hp,aj];repeat' (first|refine ax ?_ ?_|fail)<;>intro h<;>simp only[h,go_sem,go_sem_proc,ao,F,bN,cb,hp,aj]
inductive AZ where
 |right (n:Int)
 |day (E:List Int)
 |hold (n:Int)
 |r3 (n:Int)
 |E7 (i e:Int) (set:List Int)
def wq:AZ->Data
 |.right n => .fn KQ [.ptr [.fn vx []],.ptr [.int .i64 n]]
 |.day E => .fn GF [.ptr [.Y (E.map ae)]]
 |.hold n => .fn GH [.ptr [.int .i64 n],.ptr [.fn w3 []]]
 |.r3 n => .fn DX [.ptr [.fn yw [.ptr [.int .i64 n],.ptr [.fn ny []]]]]
 |.E7 i e set => .fn DY [.ptr [.int .i64 i],.ptr [.int .i64 e],.ptr [.Y (set.map ae)]]
theorem azd:∀a b:AZ,wq a=wq b->a=b:=by
 intro a b e
 cases a<;>cases b
 all_goals first|(simp[wq,KQ,GF,GH,DX,DY] at e;done)|simp only[wq,Data.fn.injEq,bf,Data.ptr.injEq,Data.Y.injEq,Data.int.injEq,and_true,true_and] at e
 ·rw[e]
 ·rw[map_inj fh _ _ e]
 ·rw[e]
 ·rw[e]
 ·rw[e.1,e.2.1,map_inj fh _ _ e.2.2]
def td:AZ->au->Bool
 |.right n,c => !hK n c
 |.day E,c => !hK (D E) c
 |.hold n,c => !hK n c
 |.r3 n,c => !hK n c
 |.E7 i e set,c=>c.1==i&&(c.2.2.1==e&&(decide (c.2.2.2>0) && !decide (c.2.1∈set)))
def IC:AZ->Prop
 |.right n=>0<=n/\n<=1000000
 |.day E=>GF<900000/\D E<=1000000
 |.hold n=>GH<900000/\0<=n/\n<=1000000
 |.r3 n=>DX<900000/\0<=n/\n<=1000000
 |.E7 _ _ set=>DY<900000/\D set<=1000000
abbrev RQ:(List au)×AZ->List Data:=λ(l,c)=>[.Y (l.map ck),wq c]
def aaP:=cu RQ λ(l,c)=>cU (D l<=1000000/\IC c) (.same (.int .i64 (kP (td c) l)))
theorem akm:∀a b,RQ a=RQ b->a=b:=by
  rintro⟨eh,aI⟩ ⟨aq,c2⟩ h;simp only[bf,Data.Y.injEq,and_true] at h;exact dR (map_inj r0 _ _ h.1) (azd _ _ h.2)
@[go_sem] theorem aLA (l:List au)(c:AZ)(H:(D l)<=1000000/\IC c):aaP [.Y (l.map ck),wq c]=some (.same (.int .i64 (kP (td c) l))):=(cD akm (l,c)).trans (cZ H _)
theorem aze (T:bl)(azf:T KQ=aW aao)(azg:GF<900000->T GF=aW aaG)(azh:GH<900000->T GH=aW aaI)(azi:DX<900000->T DX=aW aaM)(azj:DY<900000->T DY=aW aaO)(l:List au)(c:AZ)(H:(D l)<=1000000/\IC c):WP T K3 (.same (.int .i64 (kP (td c) l))) [.J (.Y (l.map ck)),.J (wq c)]:=by
 refine cE ?_;simp only[K3];obtain⟨ar,cW⟩:=H
 cases c with
 |right n=>exact qT (MS T _ _ _ azf (td (.right n)) l ar λa b k z _=>ayx a b k z n cW)
 |day E=>exact qT (MS T _ _ _ (azg cW.1) (td (.day E)) l ar λa b k z _=>ay0 a b k z E cW.2)
 |hold n=>exact qT (MS T _ _ _ (azh cW.1) (td (.hold n)) l ar λa b k z _=>ay3 a b k z n cW.2)
 |r3 n=>exact qT (MS T _ _ _ (azi cW.1) (td (.r3 n)) l ar λa b k z _=>ay8 a b k z n cW.2)
 |E7 i e set=>exact qT (MS T _ _ _ (azj cW.1) (td (.E7 i e set)) l ar λa b k z _=>azc a b k z i e set cW.2)
def MT:=cu RQ λ(l,c)=>cU (D l<=1000000/\IC c) (.same (.bool (l.any (td c))))
@[go_sem] theorem aaQ (l:List au)(c:AZ)(H:(D l)<=1000000/\IC c):MT [.Y (l.map ck),wq c]=some (.same (.bool (l.any (td c)))):=(cD akm (l,c)).trans (cZ H _)
theorem azk (T:bl)(azl:T UJ=aW aaP)(l:List au)(c:AZ)(H:(D l)<=1000000/\IC c):WP T Vx (.same (.bool (l.any (td c)))) [.J (.Y (l.map ck)),.J (wq c)]:=by
 refine cE ?_;simp only[Vx];rw[<-LI];refine aZ ?_;repeat' (intro h<;>simp only[h,go_sem,go_sem_proc,azl,H]<;>try refine ax ?_ ?_)
theorem MU {α:Type}(l:List α)(p:α->Bool):l.any (λx => !p x) = !l.all p:=by
 induction l with
 |nil=>rfl
 |cons a l ay=>rw[List.any_cons,List.all_cons,ay];cases p a<;>rfl
abbrev RR:(List Int)×(List au)->List Data:=λ(E,cs)=>[.Y (E.map ae),.Y (cs.map ck)]
def aaR:=cu RR λ(E,cs)=>cU (D E<=1000000/\D cs<=1000000) (.same (.bool (jr E cs)))
theorem akn:∀a b,RR a=RR b->a=b:=by
  rintro⟨uO,uP⟩ ⟨uQ,n3⟩ h;simp only[bf,Data.Y.injEq,and_true] at h;exact dR (map_inj fh _ _ h.1) (map_inj r0 _ _ h.2)
@[go_sem] theorem aLB (E:List Int)(cs:List au)(H:(D E)<=1000000/\D cs<=1000000):aaR [.Y (E.map ae),.Y (cs.map ck)]=some (.same (.bool (jr E cs))):=(cD akn (E,cs)).trans (cZ H _)
theorem azm (T:bl)(RS:T KR=aW RP)(ID:T DU=aW MT)(E:List Int)(cs:List au)(H:(D E)<=1000000/\D cs<=1000000):WP T Xb (.same (.bool (jr E cs))) [.J (.Y (E.map ae)),.J (.Y (cs.map ck))]:=by
 refine cE ?_;simp only[Xb];obtain⟨F,I⟩:=H;rw[axT];have ec:=akl E .right ⟨F,trivial⟩;have fW:=aaQ cs (.right (D E)) ⟨I,by show (0:Int)<=(D E:Int);omega,by show (D E:Int)<=1000000;omega⟩
 have az:E.any (qj .right) = !E.all gk:=MU E gk;have aD:cs.any (td (.right (D E))) = !cs.all (hK (D E)):=MU cs _;rw[az] at ec;rw[aD] at fW;simp only[r4] at ec;simp only[wq] at fW;have d1:decide (D E<=60)=decide ((D E:Int)<=60):=by rw[Ck,decide_eq_true_iff,decide_eq_true_iff];omega
 have d2:decide (D cs<=2000)=decide ((D cs:Int)<=2000):=by rw[Ck,decide_eq_true_iff,decide_eq_true_iff];omega
 rw[d1,d2];rcases gF:decide ((D E:Int)<=60)<;>rcases eV:decide ((D cs:Int)<=2000)<;>rcases qd:E.all gk<;>rcases l8:cs.all (hK (D E))
 all_goals rw[qd] at ec
 all_goals rw[l8] at fW
 all_goals
      refine aZ ?_;repeat' (intro h<;>simp only[h,go_sem,go_sem_proc,RS,ID,ec,fW,gF,eV,aj,c5,dH,Bool.and_true,hP,cl,nY,Option.bind_none,scalar]<;>try refine ax ?_ ?_)
structure de.IE (a:de):Prop where
 q3:fo a.E a.cs
 gr:∀x∈a.fl,0<=x/\x<=10
theorem de.MV {a:de}{m:Mem}(h:a.At m)(aH:a.IE){i:Nat}(M:i<D a.E):a.fl.getD i 10=(bO a.fl i:Int)/\bO a.fl i<=10:=by
 have ar:=h.fl
 have:a.fl.getD i 10∈a.fl:=by
  rw[ep,bz (by omega)];exact ph _
 have:=aH.gr _ this;unfold bO;omega
structure aaS (x:de×Nat) (mem:Mem):Prop where
 at_:x.1.At mem
 no:r1 255 mem
 IF:x.1.IE
 lt:x.2<x.1.E.length
 f10:bO x.1.fl x.2<10
 S:0<(aB x.1.E x.1.cs).S x.2 (bO x.1.fl x.2)
def RT (x:de×Nat):Data:=.cM [.Y ((dK x.1.E.length λi=>(aB x.1.E x.1.cs).W (bO x.1.fl) x.2 i).map aE),.bool true]
def RU:List R->Mem->Option Data:=E1 (λ(x:de×Nat) args mem=>args=[.ptr (228500+x.2) (x.1.gs.getD x.2 0) 0,.J (.int .i64 x.1.E.length)]/\aaS x mem) RT
theorem azn (a:de)(k:Nat)(mem:Mem)(h:aaS (a,k) mem):RU [.ptr (228500+k) (a.gs.getD k 0) 0,.J (.int .i64 (D a.E))] mem=some (RT (a,k)):=by
 refine Z8 (a:=(a,k)) ?_ ⟨rfl,h⟩;rintro⟨a,i⟩ ⟨b,j⟩ args mem ⟨az,aD⟩ ⟨bZ,dr⟩;obtain rfl:=de.uniq aD.at_ dr.at_;rw[az] at bZ;simp only[bf,R.ptr.injEq,R.J.injEq,Data.int.injEq,true_and,and_true] at bZ;have F:228500+i=228500+j:=bZ.1;have:i=j:=by omega
 rw[this]
theorem azo (N:Nat)(aP:bg):(dG N (aE aP)).flatten.map R.J=a7 aE (dG N aP):=by
 unfold a7;rw[HU,List.map_flatten,HU]
theorem azp (T:bl)(hE:T pt=aW wh)(azq:T Um=aW Y2)(me:T zU=aW Eu)(fM:T tO=aW yN)(a:de)(k:Nat)(mem:Mem)(h:aaS (a,k) mem):
  wp T Qd.body (p4 Qd.res λm mem'=>cl 6 emp m=some (RT (a,k))/\et 255 mem mem') ⟨lv [.ptr (228500+k) (a.gs.getD k 0) 0,.J (.int .i64 (D a.E))],mem⟩:=by
 obtain⟨cj,gC,r5,Q,wu,cQ⟩:=h;dsimp only at *;obtain⟨U,gr⟩:=r5;have aK:=U.n5;have qI:=cj.df k Q;have uy:=(de.MV cj ⟨U,gr⟩ Q).1;have cW:=a.xM k;have hlen:=CW cW;have mh:=MM cW;rw[show (a.gH k).f=(bO a.fl k:Int) from uy] at mh;have CZ:=aj8 (x:=a.gH k) (k:=bO a.fl k) (l:=dh a.cs k (bO a.fl k)) (iZ _ wu);have te:=ML cW (k:=bO a.fl k) (z:=cT a.cs k (bO a.fl k:Nat)) (iZ _ (by omega));have ako:=ML cW (k:=bO a.fl k+1) (z:=cT a.cs k (bO a.fl k+1:Nat)) (iZ _ (by omega));have WB:∀j,228500+k≠255000+j:=λj=>by omega
 generalize fC (a.gH k)=DC at *;have aaT:=CT 0 MJ;have aV:dK (D a.E) (j8 (aB a.E a.cs) [])=dG (D a.E) (av ((0:Int):Rat)):=(MA CF λj ai=>by rw[ajX,ad ai,ayk];rfl).symm;generalize gw:dh a.cs k (bO a.fl k)=L at *;refine tw ?_;simp only[Qd];have uR:(228500+k)/1000≠255:=by omega
 have lF:mem 255017=none:=gC 255017 (by decide);have gp:=λc (H:c∈L)=>E0.1 (gw ▸ H:c∈dh a.cs k (bO a.fl k));have akp:=λc (H:c∈L)=>(RD U cQ (gw ▸ H:c∈dh a.cs k (bO a.fl k))).2.2;have akq:=λl i (ar:∃ft,L=l++ft)=>aym U cQ (l:=l) (by rw[gw];exact ar) i;have akr:=λi=>ayl U.right (bO a.fl) k i;rw[gw] at akr
 have aLC:(D L)<=12:=by
  have F:=mY (λc:au=>c.1==(k:Int)&&c.2.2.1==(bO a.fl k:Int)) a.cs;have I:=U.rZ;rw[<-gw];unfold dh;omega
 have aLD:(0:Int)<kR a.cs k (bO a.fl k):=by
  have F:=Q9 U.right k (bO a.fl k);rw[<-F] at cQ;have:(0:Int)<cT a.cs k (bO a.fl k+1:Nat)-cT a.cs k (bO a.fl k):=by exact_mod_cast cQ
  exact this
 have azr:kR a.cs k (bO a.fl k)=cT a.cs k (bO a.fl k+1:Nat)-cT a.cs k (bO a.fl k:Nat):=rfl;have W5:=U.upto k (bO a.fl k+1:Nat);have El:=U.upto k (bO a.fl k:Nat);have azs:=(hD.1 U.right).2.2.2;generalize dQ:228500+k=ef at *;have o7:∀j,ef≠255000+j:=λj=>by omega
 have n9:(ef=255009)=False:=eq_false (o7 9);have n10:(ef=255010)=False:=eq_false (o7 10);have n12:(ef=255012)=False:=eq_false (o7 12);have n17:(ef=255017)=False:=eq_false (o7 17);have E8:(ef==255009)=false:=beq_eq_false_iff_ne.2 (o7 9);have aks:(ef==255010)=false:=beq_eq_false_iff_ne.2 (o7 10);have akt:(ef==255012)=false:=beq_eq_false_iff_ne.2 (o7 12);have aku:(ef==255017)=false:=beq_eq_false_iff_ne.2 (o7 17);have d9:(255009==ef)=false:=beq_eq_false_iff_ne.2 (o7 9).symm;have d10:(255010==ef)=false:=beq_eq_false_iff_ne.2 (o7 10).symm;have d12:(255012==ef)=false:=beq_eq_false_iff_ne.2 (o7 12).symm;have d17:(255017==ef)=false:=beq_eq_false_iff_ne.2 (o7 17).symm;have eh:bO a.fl k+1<11:=by omega
 have aq:bO a.fl k<11:=by omega
 have b3:(1+bO a.fl k+1<=24)=True:=eq_true (by omega);have cw:(11+bO a.fl k+1<=24)=True:=eq_true (by omega);have akv:(11+(bO a.fl k+1)+1<=24)=True:=eq_true (by omega);have wf:IntKind.i64.wrap ((bO a.fl k:Int)+1)=((bO a.fl k+1:Nat):Int):=by rw[fc _];omega
 have kl:=qI;generalize aLE:cT a.cs k (bO a.fl k+1:Nat)=akw at *;generalize aLF:cT a.cs k (bO a.fl k:Nat)=azt at *;generalize aLG:bO a.fl k=F0 at *;generalize MW:av ((0:Int):Rat)=Z at *;obtain⟨⟨j0,lf⟩,⟨z3,z4⟩⟩:=Z;have aaU:=avX j0 lf z3 z4 (D a.E) (by omega);have gJ:=azo (D a.E) ((j0,lf),(z3,z4));simp only[aE] at aaT aaU gJ;have eL:=aj6 L;simp only[go_sem,go_sem_proc] at eL;simp only[go_sem,go_sem_proc,hE,aaT,azq,aaU,gJ,qI,hlen,wu,mh,CZ,n17,b3,lF,b9,cI,eL,CF]
 refine dw [0,6,26,27] [] (λ(j:Nat) tm m=>j<=D L/\tm 28=.J (.int .i64 j)/\tm 7=.J (.bool true)/\m 255017=some (0,a7 aE (dK (D a.E) (j8 (aB a.E a.cs) (L.take j))))/\et 255 mem m) (λj=>D L-j) 0 (by
  refine⟨by omega,rfl,rfl,?_,(et.refl _ _).e6 (by decide)⟩
  rw[nu,aV];simp[a1,lF,gB]) ?_
 intro vs ms aT aS;simp only[go_sem,go_sem_proc] at aT aS;subst aT aS;clear aaT aaU gJ qI;rintro j tm m Q-⟨ai,oz,bL,uS,bV⟩;simp only[go_sem,go_sem_proc,bf] at Q;obtain⟨bC,bP,ib,ic⟩:=Q;have ag:=(bV ef uR).trans kl;rcases dF (j<D L) with aA|b7
 ·have d1:decide ((j:Int)<(D L:Int))=true:=dp;have b5:=e9 (i:=j) (by omega);obtain⟨⟨aI,c2,c3,c4⟩,O⟩:∃c,L[j]?=some c:=⟨_,bz aA⟩;have CA:=ei O;have lR:=azs _ (gp _ CA).1;dsimp only at lR;have sT:=aj7 O;simp only[go_sem,go_sem_proc] at sT;have gM:L.take (j+1)=L.take j++[(aI,c2,c3,c4)]:=by rw[hc,O];rfl
  rcases q:decide (c2<0)
  ·have vb:0<=c2:=by have:=of_decide_eq_false q;omega
   obtain⟨t,rfl⟩:∃t:Nat,c2=(t:Int):=⟨c2.toNat,by omega⟩
   have hw:=akp _ CA;dsimp only at hw;have ly:=ajO (p:=c4) (q:=kR a.cs k F0) (o6 (by omega) (by omega)) (o6 (by omega) (by omega)) (by omega);rw[<-hw] at ly;have RV:=agb c4 (kR a.cs k F0) ⟨o6 (by omega) (by omega),o6 (by omega) (by omega)⟩;rw[ly] at RV;have j0:=akq (L.take j) t ⟨L.drop j,(BJ j L).symm⟩;have lf:=ax2 U (gp _ CA).1;have iI:=MG (hL j0 (by omega)) (hL lf (by omega)) (y4 j0 lf (by omega))
   have A0:dK (D a.E) (j8 (aB a.E a.cs) (L.take (j+1)))=(dK (D a.E) (j8 (aB a.E a.cs) (L.take j))).set t (av (j8 (aB a.E a.cs) (L.take j) t+(aB a.E a.cs).w (cJ (aI,(t:Int),c3,c4)))):=by
    rw[ax3];refine Ig λi _=>?_;rw[gM,aj5]
    by_cases M:i=t
    ·rw[ad M,ad (by dsimp only;omega),M]
    ·rw[ah M,ah (by dsimp only;omega),o3]
   have akx:IntKind.i64.wrap (akw-azt)=kR a.cs k F0:=by rw[wrap64 _ (by omega) (by omega),azr]
   have Yc:(dK (D a.E) (j8 (aB a.E a.cs) (L.take j))).length=D a.E:=qf _ _;have azu:=uJ (N:=D a.E) (j8 (aB a.E a.cs) (L.take j)) (k:=t) (by omega);clear j0 lf akq akp ly hw;generalize av (j8 (aB a.E a.cs) (L.take j) t+(aB a.E a.cs).w (cJ (aI,(t:Int),c3,c4)))=F1 at *;generalize av (j8 (aB a.E a.cs) (L.take j) t)=F2 at *;generalize av ((aB a.E a.cs).w (cJ (aI,(t:Int),c3,c4)))=F3 at *;generalize dK (D a.E) (j8 (aB a.E a.cs) (L.take j))=cg at *;obtain⟨⟨c0,dj⟩,⟨a3,a4⟩⟩:=F1;obtain⟨⟨f1,f2⟩,⟨f3,f4⟩⟩:=F2;obtain⟨⟨cF,cp⟩,⟨hb,j5⟩⟩:=F3;have t1:=HE azu;have t2:=AB (l:=cg) (k:=t) (by omega);have t3:=HF (l:=cg) (k:=t) (by omega) c0 dj a3 a4;have OD:t<D a.E:=by omega
   simp only[aE,eH] at RV iI;simp only[go_sem,go_sem_proc,me,fM,bC,bP,bL,ib,ic,oz,ag,uS,sT,hlen,mh,te,ako,wf,akx,d1,b5,q,RV,iI,t1,t2,t3,OD,wu,eh,aq,b3,cw,akv,n9,n10,n12,n17,E8,aks,akt,aku,d9,d10,d12,d17,ck,b9,cI,beq_self_eq_true];repeat' (first|refine ax ?_ ?_|fail)<;>intro h<;>simp only[h,go_sem,go_sem_proc,me,fM,bC,bP,bL,ib,ic,oz,ag,uS,sT,hlen,mh,te,ako,wf,akx,d1,b5,q,RV,iI,t1,t2,t3,OD,wu,eh,aq,b3,cw,akv,n9,n10,n12,n17,E8,aks,akt,aku,d9,d10,d12,d17,ck,b9,cI,beq_self_eq_true]
   refine⟨j+1,by omega,by omega,rfl,by rw[A0],by repeat first|exact bV|refine et.e6 ?_ (by decide)⟩
  ·have vb:c2<0:=of_decide_eq_true q
   have A0:dK (D a.E) (j8 (aB a.E a.cs) (L.take (j+1)))=dK (D a.E) (j8 (aB a.E a.cs) (L.take j)):=Ig λi _=>by
    rw[gM,aj5,ah (by dsimp only;omega),o3]
   simp only[go_sem,go_sem_proc,bC,bP,bL,ib,ic,oz,ag,uS,sT,d1,b5,q,ck,cI];repeat' (first|refine ax ?_ ?_|fail)<;>intro h<;>simp only[h,go_sem,go_sem_proc,bC,bP,bL,ib,ic,oz,ag,uS,sT,d1,b5,q,ck,cI]
   refine⟨j+1,by omega,by omega,rfl,by rw[A0],by repeat first|exact bV|refine et.e6 ?_ (by decide)⟩
 ·have d1:decide ((j:Int)<(D L:Int))=false:=dn;rw[dB (by omega)] at uS;have A0:dK (D a.E) (j8 (aB a.E a.cs) L)=dK (D a.E) λi=>(aB a.E a.cs).W (bO a.fl) k i:=Ig λi _=>akr i;rw[A0] at uS;have mE:(dK (D a.E) λi=>(aB a.E a.cs).W (bO a.fl) k i).length=D a.E:=qf _ _;have mX:=λ(K:bd->Prop) (st:bd)=>lX (K:=K) (st:=st) kO 6 255017 0 (dK (D a.E) λi=>(aB a.E a.cs).W (bO a.fl) k i);rw[mE] at mX;simp only[go_sem,go_sem_proc,bC,bP,bL,ib,ic,oz,ag,uS,d1,mX];repeat' (first|refine ax ?_ ?_|fail)<;>intro h<;>simp only[h,go_sem,go_sem_proc,bC,bP,bL,ib,ic,oz,ag,uS,d1,mX]
  exact⟨_,rfl,rfl,by repeat first|exact bV|refine et.e6 ?_ (by decide)|refine et.kill ?_ (by decide)⟩
theorem aky (N:Nat)(x:Nat->Rat):dK (N+1) x=dK N x++[av (x N)]:=by
 unfold dK;rw[ow,jD,jD];rfl
theorem wv {l:List R}{k:Nat}{y:R}(h:l[k]?=some y):gu 1 (gL k l)=[y]:=by
 have:=AR (f:=id) h;rwa [List.map_id] at this
def tf (n:Nat)(W:Nat->Nat->Rat)(k:Nat):List Data:=[.Y ((dK n (W k)).map aE)]
theorem azv (T:bl)(hE:T pt=aW wh)(ng:T yv=aW An){K:e3->bd->Prop}{kk:List gA}(eG:Mem)(n:Nat)(aK:n<=60)(p:List Nat)(aG:(D p)<=60)(W:Nat->Nat->Rat)(r i:Nat)(M:i<n)(rD:∀k,k<(D p)->dU 54 (W (p.getD k 0) i))(v0 v1 v10 v20 akz v22:R)(bQ IG:Nat)(aI c2 c3 c4:R)(akA:Option (Nat×List R))(tm:Nat->R)(m:Mem)
  (bC:tm 0=v0) (az:tm 1=v1) (aD:tm 2=.J (.Y (p.map iC))) (bZ:tm 3=.J (.Y (p.map (tf n W)))) (dx:tm 10=v10) (hs:tm 11=.J (.int .i64 r)) (er:tm 12=.J (.int .i64 i)) (h6:tm 13=.ptr 256013 bQ 0) (mi:tm 20=v20) (py:tm 21=akz) (uj:tm 22=v22) (nM:tm 50=.J (.int .i64 (D p))) (nN:tm 51=.J (.int .i64 0)) (IH:m 256013=some (bQ,[.ref 256076 IG 4 0 0,aI,c2,c3,c4])) (II:m 256076=some (IG,[])) (E9:m 256082=akA) (bV:et 256 eG m)
  (dQ:∀tm' m' akB,tm' 0=v0->tm' 1=v1->tm' 2=.J (.Y (p.map iC))->tm' 3=.J (.Y (p.map (tf n W)))->tm' 10=v10->tm' 13=.ptr 256013 bQ 0->tm' 20=v20->tm' 21=akz->tm' 22=v22->m' 256013=some (bQ,[.ref 256076 akB 4 0 (D p),aI,c2,c3,c4])->m' 256076=some (akB,a7 aE (dK (D p) λk=>(if r=k then 1 else 0)-W (p.getD k 0) i))->m' 256082=akA->et 256 eG m'->cK T K kk (.exit 2) ⟨tm',m'⟩) :
  wp T (Hm.body.sub [1,1,0,1,0,0,0,1,1,0,0,1,1,0,1,0]) (cK T K kk) ⟨tm,m⟩:=by
 simp only[Hm,eC.sub];refine dw [0,1,2,3,10,11,12,13,20,21,22,50] [256082] (λ((k,g):Nat×Nat) tm m=>k<=D p/\tm 51=.J (.int .i64 k)/\m 256013=some (bQ,[.ref 256076 g 4 0 k,aI,c2,c3,c4])/\m 256076=some (g,a7 aE (dK k λk=>(if r=k then 1 else 0)-W (p.getD k 0) i))/\et 256 eG m) (λ(k,_)=>D p-k) (0,IG) (by refine⟨by omega,nN,IH,II,bV⟩) ?_;intro vs ms aT aS;simp only[go_sem,go_sem_proc,bC,az,aD,bZ,dx,hs,er,h6,mi,py,uj,nM,E9] at aT aS;subst aT aS;clear bC az aD bZ dx hs er h6 mi py uj nM nN IH II E9 bV tm m;rintro⟨k,g⟩ tm m Q hm ⟨HY,nN,IH,II,bV⟩;simp only[go_sem,go_sem_proc,bf] at Q hm;obtain⟨bC,az,aD,bZ,dx,hs,er,h6,mi,py,uj,nM⟩:=Q;rcases dF (k<D p) with aA|b7
 ·have d1:decide ((k:Int)<(D p:Int))=true:=dp;have b5:=e9 (i:=k) (by omega);obtain⟨wx,O⟩:∃c,p[k]?=some c:=⟨_,bz aA⟩;have sY:p.getD k 0=wx:=by rw[ep,O];rfl
  have MX:=rD k aA;have aT:=aky k λk=>(if r=k then 1 else 0)-W (p.getD k 0) i;have b2:(dK k λk=>(if r=k then 1 else 0)-W (p.getD k 0) i).length=k:=qf _ _;have dg:=λ(aP:bg) cs jM=>k6 kO As 256076 g 64 (dK k λk=>(if r=k then 1 else 0)-W (p.getD k 0) i) aP (cs:=cs) jM (by omega) (by omega);simp only[b2] at dg;rw[sY] at MX aT;have bc:=uJ (W wx) M;generalize dK k (λk=>(if r=k then 1 else 0)-W (p.getD k 0) i)=V at *;generalize vI:dK (k+1) (λk=>(if r=k then 1 else 0)-W (p.getD k 0) i)=V2 at *;clear dQ rD;have key:∀o:Int,(o=0\/o=1)->(if r=k then (1:Rat) else 0)=(o:Rat)->True:=λ_ _ _=>trivial;rcases q:((k:Int)==(r:Int))
  ·have hY:¬ r=k:=by have:=ne_of_beq_false q;omega
   have hw:=CT 0 MJ;have U:=Z5 (uM MJ) (hL MX (by omega)) (y4 (xK (z:=0) (b:=1) (by decide)) (Ib MX) (by omega));rw[ah hY,show (0:Rat)=((0:Int):Rat) from rfl] at aT;generalize av ((0:Int):Rat)=Z at *;generalize av (W wx i)=eW at *;generalize av (((0:Int):Rat)-W wx i)=c6 at *;obtain⟨⟨j0,lf⟩,⟨z3,z4⟩⟩:=Z;obtain⟨⟨tS,tT⟩,⟨E3,E6⟩⟩:=eW;obtain⟨⟨a2,bS⟩,⟨cP,dJ⟩⟩:=c6;have r6:=dg ((a2,bS),(cP,dJ)) _ rfl;rw[<-aT] at r6;simp only[aE,eA,cY] at r6 hw U;refine aZ ?_;repeat' (intro h<;>simp only[h,go_sem,go_sem_proc,hE,ng,bC,az,aD,bZ,dx,hs,er,h6,mi,py,uj,nM,nN,IH,II,hm,d1,b5,q,O,tf,bc,hw,U,r6,aE,aj,bn,bne,beq_self_eq_true,c5,rQ]<;>try refine ax ?_ ?_)
   exact⟨(k+1,g+1),by dsimp only;omega,by dsimp only;omega,rfl,rfl,by rw[<-vI],by repeat first|exact bV|refine et.e6 ?_ (by decide)⟩
  ·have hY:r=k:=by have:=eq_of_beq q;omega
   have hw:=CT 1 Rz;have U:=Z5 (uM Rz) (hL MX (by omega)) (y4 (xK (z:=1) (b:=1) (by decide)) (Ib MX) (by omega));rw[ad hY,show (1:Rat)=((1:Int):Rat) from rfl] at aT;generalize av ((1:Int):Rat)=Z at *;generalize av (W wx i)=eW at *;generalize av (((1:Int):Rat)-W wx i)=c6 at *;obtain⟨⟨j0,lf⟩,⟨z3,z4⟩⟩:=Z;obtain⟨⟨tS,tT⟩,⟨E3,E6⟩⟩:=eW;obtain⟨⟨a2,bS⟩,⟨cP,dJ⟩⟩:=c6;have r6:=dg ((a2,bS),(cP,dJ)) _ rfl;rw[<-aT] at r6;simp only[aE,eA,cY] at r6 hw U;refine aZ ?_;repeat' (intro h<;>simp only[h,go_sem,go_sem_proc,hE,ng,bC,az,aD,bZ,dx,hs,er,h6,mi,py,uj,nM,nN,IH,II,hm,d1,b5,q,O,tf,bc,hw,U,r6,aE,aj,bn,bne,beq_self_eq_true,c5,rQ]<;>try refine ax ?_ ?_)
   exact⟨(k+1,g+1),by dsimp only;omega,by dsimp only;omega,rfl,rfl,by rw[<-vI],by repeat first|exact bV|refine et.e6 ?_ (by decide)⟩
 ·have d1:decide ((k:Int)<(D p:Int))=false:=dn;obtain rfl:k=D p:=by omega
  refine aZ ?_;repeat' (intro h<;>simp only[h,go_sem,go_sem_proc,bC,az,aD,bZ,dx,hs,er,h6,mi,py,uj,nM,nN,d1]<;>try refine ax ?_ ?_)
  refine dQ _ _ g ?_ ?_ ?_ ?_ ?_ ?_ ?_ ?_ ?_ IH II hm bV<;>simp only[e7,ed,if_false,bC,az,aD,bZ,dx,h6,mi,py,uj]
structure aaV (a:de) (mem:Mem):Prop where
 at_:a.At mem
 no:r1 256 mem
 IF:a.IE
 hh:tb (aB a.E a.cs) (bO a.fl) (fw a.P)
def de.p (a:de):List Nat:=c1 (fw a.P) (D a.E)
def RW (a:de):List R:=[.ref 228023 a.g 1 0 (D a.E),.J (.Y ((bF (D a.E) λi=>lk a.E a.cs (bO a.fl) i).map ae)),.J (.Y (a.p.map iC)),.J (.Y (a.p.map (tf (D a.E) λk i=>(aB a.E a.cs).W (bO a.fl) k i)))]
def de.xs (a:de):List bg:=dK (D a.p) λk=>(aB a.E a.cs).ff (bO a.fl) (fw a.P) (a.p.getD k 0)-(aB a.E a.cs).bG (a.p.getD k 0) (bO a.fl (a.p.getD k 0))
def RX (a:de):Data:=.cM [.Y (a.xs.map aE),.bool true]
def RY:List R->Mem->Option Data:=E1 (λ(a:de) args mem=>args=RW a/\aaV a mem) RX
theorem azw (a:de)(mem:Mem)(h:aaV a mem):RY (RW a) mem=some (RX a):=by
 refine Z8 (a:=a) ?_ ⟨rfl,h⟩;rintro a b args mem ⟨az,aD⟩ ⟨bZ,dr⟩;rw[de.uniq aD.at_ dr.at_]
theorem azx (T:bl)(hE:T pt=aW wh)(ng:T yv=aW An)(azy:T Uj=aW YS)(a:de)(mem:Mem)(aN:aaV a mem):
  wp T Hm.body (p4 Hm.res λm mem'=>cl 6 emp m=some (RX a)/\et 256 mem mem') ⟨lv (RW a),mem⟩:=by
 obtain⟨cj,gC,r5,mZ⟩:=aN;have uy:=λi=>de.MV cj r5 (i:=i);obtain⟨U,gr⟩:=r5;have aK:=U.n5;have oP:=λk=>xH (P:=fw a.P) (n:=D a.E) (k:=k);have Rp:=axr U mZ;have MY:=ZR U mZ.rV (c1 (fw a.P) (D a.E)) (λk Q=>⟨(xH Q).2,(xH Q).1⟩) λi j M ai=>ZS M ai;have azz:=λk (Q:fw a.P k) i=>(Ro U mZ Q i).1
 have aLH:(c1 (fw a.P) (D a.E)).length<=6:=by
  unfold c1;exact eU (mY _ _) (by rw[sC];exact aK)
 have azA:mem 256082=none:=gC 256082 (by decide);unfold RW RX de.xs de.p;generalize aG:c1 (fw a.P) (D a.E)=p at *;generalize ec:(aB a.E a.cs).uK (bO a.fl) p=A at *;generalize azB:(bF (D a.E) λi=>lk a.E a.cs (bO a.fl) i).map ae=akC at *;have azC:∀i,i<(D a.E)->akC[i]?=some [.int .i64 (lk a.E a.cs (bO a.fl) i)]:=λi M=>by rw[<-azB,bn,iZ _ M];rfl
 refine tw ?_;simp only[Hm];simp only[go_sem,go_sem_proc,azA,aj];refine dw [0,1,2,3,20,21] [] (λ((r,g):Nat×Nat) tm m=>r<=D p/\tm 22=.J (.int .i64 r)/\tm 10=.ref 256082 g 5 0 r/\m 256082=some (g,a7 iX ((rowsOf (D p) A).take r))/\et 256 mem m) (λ(r,_)=>D p-r) (0,0) (by refine⟨by omega,rfl,rfl,rfl,(et.refl _ _).e6 (by decide)⟩) ?_;intro vs ms aT aS;simp only[go_sem,go_sem_proc,aj] at aT aS;subst aT aS;rintro⟨r,g⟩ tm m Q hm ⟨akD,uj,dx,E9,bV⟩;simp only[go_sem,go_sem_proc,bf] at Q;obtain⟨bC,az,aD,bZ,mi,py⟩:=Q;rcases dF (r<D p) with aA|b7
 ·have d1:decide ((r:Int)<(D p:Int))=true:=dp;have b5:=e9 (i:=r) (by omega);obtain⟨i,O⟩:∃c,p[r]?=some c:=⟨_,bz aA⟩;have EV:p.getD r 0=i:=by rw[ep,O];rfl
  obtain⟨M,azD⟩:=oP r aA;rw[EV] at M azD;obtain⟨r5,wu⟩:=uy i M;have fb:=(bV.at 228023 (by omega)).trans cj.row;have fa:=(bV.at (228500+i) (by omega)).trans (cj.df i M);have iq:=wv (iZ (λi=>R.ptr (228500+i) (a.gs.getD i 0) 0) M);have b2:(bF (D a.E) λi=>R.ptr (228500+i) (a.gs.getD i 0) 0).length=D a.E:=gQ _ _;have cW:=a.xM i;have hlen:=CW cW;have mh:=MM cW;rw[show (a.gH i).f=(bO a.fl i:Int) from r5] at mh;have te:=ML cW (k:=bO a.fl i) (z:=cT a.cs i (bO a.fl i:Nat)) (iZ _ (by omega));have dE:=azC i M;have di:=U.steady (bO a.fl) i;have eK:=U.upto i (bO a.fl i);have azE:IntKind.i64.wrap (lk a.E a.cs (bO a.fl) i-cT a.cs i (bO a.fl i:Nat))=lk a.E a.cs (bO a.fl) i-cT a.cs i (bO a.fl i:Nat):=by rw[fc _]
  have hw:=CT (lk a.E a.cs (bO a.fl) i-cT a.cs i (bO a.fl i:Nat)) (o6 (by omega) (by omega))
  have azF:A r (D p)=((lk a.E a.cs (bO a.fl) i-cT a.cs i (bO a.fl i:Nat):Int):Rat):=by
   rw[<-ec];unfold Day.uK;rw[ah (by omega),EV,<-MC U.right,<-uD U.right,CL]
  have azG:∀k,k<(D p)->A r k=(if r=k then 1 else 0)-(aB a.E a.cs).W (bO a.fl) (p.getD k 0) i:=λk Q=>by
   rw[<-ec];unfold Day.uK;rw[ad Q,EV]
  have eh:i+1<=D a.E:=by omega
  have aq:bO a.fl i<11:=by omega
  have b3:(11+bO a.fl i+1<=24)=True:=eq_true (by omega);rw[<-azF] at hw;generalize uR:228500+i=ef at *;generalize fC (a.gH i)=DC at *;generalize (bF (D a.E) λi=>R.ptr (228500+i) (a.gs.getD i 0) 0)=xN at *;generalize lk a.E a.cs (bO a.fl) i=S1 at *;generalize cT a.cs i (bO a.fl i:Nat)=akw at *;generalize bO a.fl i=F0 at *;generalize hz:av (A r (D p))=eW at *;obtain⟨⟨tS,tT⟩,⟨E3,E6⟩⟩:=eW;simp only[aE] at hw;have n13:(ef==256013)=false:=beq_eq_false_iff_ne.2 (by omega);have azH:(256013==ef)=false:=beq_eq_false_iff_ne.2 (by omega);have azI:(ef=256013)=False:=eq_false (by omega);simp only[go_sem,go_sem_proc,hE,bC,az,aD,bZ,dx,mi,py,uj,fb,fa,iq,b2,hlen,mh,te,dE,azE,hw,O,d1,b5,M,eh,aq,b3,n13,azH,azI,b9,iC,cI,aj,bn];refine axY (kc:=256013) (g:=gB (m 256013)) (off:=0) (cs:=[.nil,.J (.int .i64 tS),.J (.Y (tT.map ae)),.J (.int .i64 E3),.J (.Y (E6.map ae))]) ?_ ?_ rfl (by decide) ?_
  ·simp only[go_sem,go_sem_proc]
  ·simp[a1]
  simp only[go_sem,go_sem_proc,aD,aj,rQ];refine azv T hE ng mem (D a.E) (by omega) p (by omega) (λk i=>(aB a.E a.cs).W (bO a.fl) k i) r i M (λk Q=>azz _ (oP k Q).2 i) (.ref 228023 a.g 1 0 (D a.E)) (.J (.Y akC)) (.ref 256082 g 5 0 r) (.J (.Y (p.map iC))) (.J (.int .i64 (D p))) (.J (.int .i64 r)) (gB (m 256013)) (gB (m 256076)) (.J (.int .i64 tS)) (.J (.Y (tT.map ae))) (.J (.int .i64 E3)) (.J (.Y (E6.map ae))) (some (g,a7 iX ((rowsOf (D p) A).take r))) _ _ ?_ ?_ ?_ ?_ ?_ ?_ ?_ ?_ ?_ ?_ ?_ ?_ ?_ ?_ ?_ ?_ ?_ ?_
  ·simp only[e7,ed,if_false];exact bC
  ·simp only[e7,ed,if_false];exact az
  ·simp only[e7,ed,if_false];exact aD
  ·simp only[e7,ed,if_false];exact bZ
  ·simp only[e7,ed,if_false];exact dx
  ·simp only[e7,ed,if_false,if_true]
  ·simp only[e7,ed,if_false,if_true]
  ·simp only[e7,ed,if_false,if_true]
  ·simp only[e7,ed,if_false];exact mi
  ·simp only[e7,ed,if_false];exact py
  ·simp only[e7,ed,if_false];exact uj
  ·simp only[e7,ed,if_false,if_true]
  ·simp only[e7,ed,if_false,if_true]
  ·simp[a1]
  ·simp[a1]
  ·simp only[a1,ed,if_false];exact E9
  ·repeat first|exact bV|refine et.e6 ?_ (by decide)
  intro tm cX IG fO cv cS eF og xf RZ azJ azK azL aaW azM q4;have azN:(dK (D p) λk=>(if r=k then 1 else 0)-(aB a.E a.cs).W (bO a.fl) (p.getD k 0) i)=dK (D p) (A r):=Ig λk Q=>(azG k Q).symm;rw[azN] at aaW;clear bC az aD bZ dx mi py uj E9 fb fa iq bV;have dg:=λcs jM=>k6 XF ax4 256082 g 88 ((rowsOf (D p) A).take r) (dK (D p) (A r),av (A r (D p))) (cs:=cs) jM;have sZ:((rowsOf (D p) A).take r).length=r:=by rw[fI,CS];omega
  have gM:(rowsOf (D p) A).take r++[(dK (D p) (A r),av (A r (D p)))]=(rowsOf (D p) A).take (r+1):=by
   rw[hc,ai7 A aA];rfl
  rw[sZ,gM,hz] at dg;have mE:(dK (D p) (A r)).length=D p:=qf _ _;generalize dK (D p) (A r)=V at *;have r6:=dg _ rfl (by omega) (by omega);simp only[aE,iX,eA,cY] at r6;simp only[go_sem,go_sem_proc];refine axZ (kc:=256013) (gc:=gB (m 256013)) (off:=0) (cc:=[.ref 256076 IG 4 0 (D p),.J (.int .i64 tS),.J (.Y (tT.map ae)),.J (.int .i64 E3),.J (.Y (E6.map ae))]) (k:=256076) (g:=IG) (sz:=4) (o:=0) (len:=D p) (cs:=a7 aE V) (d:=.Y (V.map aE)) ?_ azL rfl aaW (aeA _ _) (by decide) ?_ ?_
  ·exact xf
  ·have:=oa (n:=0) kO aaW;rw[mE] at this;exact this
  refine aZ ?_;repeat' (intro h<;>simp only[h,go_sem,go_sem_proc,fO,cv,cS,eF,og,xf,RZ,azJ,azK,azM,r6,b5,rQ]<;>try refine ax ?_ ?_)
  exact⟨(r+1,g+1),by dsimp only;omega,by dsimp only;omega,rfl,rfl,rfl,by repeat first|exact q4|refine et.e6 ?_ (by decide)⟩
 ·have d1:decide ((r:Int)<(D p:Int))=false:=dn;have akD:r=D p:=by omega
  have hlen:=CS (D p) A;rw[dB (by rw[hlen];omega)] at E9;obtain⟨di,eK⟩:=Rp;have kQ:rN (rowsOf (D p) A):=axj (by omega) λi M k Q=>hL (MY.sz (by omega) M Q) (by omega);have e8:=avI (rowsOf (D p) A) (D p) kQ;rw[di] at e8;dsimp only at e8;have mX:=λ(K:bd->Prop) (st:bd)=>lX (K:=K) (st:=st) XF 10 256082 g (rowsOf (D p) A);rw[hlen] at mX;subst akD;refine aZ ?_;repeat' (intro h<;>simp only[h,go_sem,go_sem_proc,azy,bC,az,aD,bZ,dx,mi,py,uj,E9,d1,mX,e8,aj,bne,beq_self_eq_true,c5]<;>try refine ax ?_ ?_)
  exact⟨_,rfl,rfl,by repeat first|exact bV|refine et.e6 ?_ (by decide)|refine et.kill ?_ (by decide)⟩
end Go.Mini
namespace Go.Mini
open Classical
def tg (cs:List au)(f:Nat->Nat)(n:Nat):List au:=(dW n).flatMap λi=>(dW (f i)).flatMap λk=>dh cs i k
theorem azO (aP:Nat->List au)(r n:Nat)(h:r<=n):((dW n).flatMap λk=>if k<r then aP k else [])=(dW r).flatMap aP:=by
 induction n with
 |zero=>rw[show r=0 by omega];rfl
 |succ n ay =>
  rw[ow,y5,qE,CU,fE]
  by_cases ab:r=n+1
  ·subst ab;rw[ad (by omega),ow,y5,qE,CU,fE]
   congr 1
   rw[y6,y6]
   congr 1
   exact mI λk Q=>ad (by have:=gX.1 Q;omega)
  ·rw[ah (by omega),fE];exact ay (by omega)
theorem akE {α:Type}(l:List α)(aP:α->List au)(p:au->Bool):(l.flatMap aP).filter p=l.flatMap λx=>(aP x).filter p:=by
 induction l with
 |nil=>rfl
 |cons a l ay=>rw[qE,qE,pG,ay]
theorem azP {cs:List au}{f:Nat->Nat}{n:Nat}(aH:∀i,i<n->f i<=10):tg cs f n=(dz n cs).filter λc=>decide (c.2.2.1<(f c.1.toNat:Int)):=by
 unfold tg dz;rw[akE,y6,y6]
 congr 1
 refine mI λi M=>?_;rw[akE,<-azO (λk=>dh cs i k) (f i) 10 (aH i (gX.1 M)),y6,y6]
 congr 1
 refine mI λk _=>?_
 by_cases h:k<f i
 ·rw[ad h];refine (List.filter_eq_self.2 λc H=>?_).symm;obtain⟨-,F,I⟩:=E0.1 H;rw[F,I,l1];exact dp
 ·rw[ah h];refine (Ik.2 λc H=>?_).symm;obtain⟨-,F,I⟩:=E0.1 H;rw[F,I,l1,decide_eq_true_eq];omega
theorem azQ (cs:List au)(p:au->Prop)[DecidablePred p](aP:au->Int):cR (cs.filter λc=>decide (p c)) aP=cR cs λc=>if p c then aP c else 0:=by
 induction cs with
 |nil=>rfl
 |cons c l ay =>
  by_cases h:p c
  ·rw[uL (by simpa using h)];simp only[cR,ay,ad h]
  ·rw[wi (by simpa using h),ay];simp only[cR,ah h];omega
def gR (j:Nat)(c:au):Int:=if c.2.1=(j:Int) then c.2.2.2 else 0
theorem akF {E:List Int}{cs:List au}{f:Nat->Nat}(MZ:cs=dz (D E) cs)(aH:∀i,i<(D E)->f i<=10)(j:Nat):lk E cs f j=E.getD j 0+cR (tg cs f (D E)) (gR j):=by
 rw[azP aH,<-MZ,azQ cs (λc=>c.2.2.1<(f c.1.toNat:Int))];unfold lk
 congr 1
 refine H6 λc _=>?_;unfold gR
 by_cases F:c.2.1=(j:Int)
 ·by_cases I:c.2.2.1<(f c.1.toNat:Int)
  ·rw[ad ⟨F,I⟩,ad I,ad F]
  ·rw[ah λh=>I h.2,ah I]
 ·rw[ah λh=>F h.1,ah F]
  split<;>rfl
theorem azR {cs:List au}{f:Nat->Nat}{n:Nat}{c:au}(h:c∈tg cs f n):c∈cs:=by
 unfold tg at h;simp only[yi] at h;obtain⟨i,-,k,-,H⟩:=h;exact (E0.1 H).1
def kv (cs:List au)(f:Nat->Nat)(i k t:Nat):List au:=tg cs f i++(((dW k).flatMap λk=>dh cs i k)++(dh cs i k).take t)
theorem azS (cs:List au)(f:Nat->Nat):kv cs f 0 0 0=[]:=rfl
theorem azT (cs:List au)(f:Nat->Nat)(i k:Nat):kv cs f i k (dh cs i k).length=kv cs f i (k+1) 0:=by
 unfold kv;rw[kN,nu,fE,ow,y5,qE,CU,fE]
theorem azU (cs:List au)(f:Nat->Nat)(i:Nat):kv cs f i (f i) 0=kv cs f (i+1) 0 0:=by
 unfold kv tg;rw[nu,nu,fE,ow,y5,qE,CU,fE];simp
theorem akG (cs:List au)(f:Nat->Nat)(n:Nat):kv cs f n 0 0=tg cs f n:=by
 unfold kv;simp
theorem akH (cs:List au)(f:Nat->Nat){n i k t:Nat}(M:i<n)(Q:k<f i):∃l,tg cs f n=kv cs f i k t++l:=by
 have aK:∃m,n=i+1+m:=⟨n-(i+1),by omega⟩
 obtain⟨m,rfl⟩:=aK;have aH:∃r,f i=k+1+r:=⟨f i-(k+1),by omega⟩
 obtain⟨r,ab⟩:=aH;have R0:∀(a b:Nat) (aP:Nat->List au),(dW (a+b)).flatMap aP=(dW a).flatMap aP++((dW b).map (a+·)).flatMap aP:=λa b aP=>by rw[akI,y5]
 unfold tg kv;rw[R0,ow,y5,qE,CU,fE,ab,R0,ow,y5,qE,CU,fE];refine⟨(dh cs i k).drop t++(((dW r).map (k+1+·)).flatMap (λk=>dh cs i k)++((dW m).map (i+1+·)).flatMap λi=>(dW (f i)).flatMap λk=>dh cs i k),?_⟩;unfold tg;simp only[gW]
 congr 1
 congr 1
 rw[<-gW ((dh cs i k).take t),BJ]
theorem akJ {E:List Int}{cs:List au}(h:fo E cs){f:Nat->Nat}(MZ:cs=dz (D E) cs)(aH:∀i,i<(D E)->f i<=10)(j:Nat){l ft:List au}(ar:tg cs f (D E)=l++ft):0<=cR l (gR j)/\cR l (gR j)<=13000000000000000:=by
 have Ds:∀m:List au,(∀c∈m,c∈cs)->0<=cR m (gR j):=by
  intro m
  induction m with
  |nil=>intro _;exact Ri _
  |cons c m ay =>
   intro hm;have F:=ay λy aw=>hm y (gZ _ aw);have I:=((hD.1 h.right).2.2.2 c (hm c gq)).2.2.2.2.2.2.1;simp only[cR,gR] at *
   split<;>omega
 have hm:∀c∈l++ft,c∈cs:=λc H=>azR (by rw[ar];exact H);have F:=Ds l λc H=>hm c (by simp[H]);have I:=Ds ft λc H=>hm c (by simp[H]);have af:=akF MZ aH j;rw[ar,Mm] at af;have aO:=h.steady f j;have br:=h.E j;omega
end Go.Mini
namespace Go.Mini
open Go
theorem akK {n c:Nat}(H:c<n)(q:Nat->Int)(v:Int):gu c (yZ b9 (bF n q))++[R.J (.int .i64 v)]++gL (c+1) (yZ b9 (bF n q))=yZ b9 (bF n λj=>if j=c then v else q j):=by
 rw[<-AU,vV,akL,ad (by rw[aj,gQ];exact H)];simp[b9]
theorem akM {n c:Nat}(H:c<n)(q:Nat->Int):gu 1 (gL c (yZ b9 (bF n q)))=[.J (.int .i64 (q c))]:=AR (f:=b9) (iZ q H)
theorem akN (n:Nat)(q:Nat->Int):(yZ b9 (bF n q)).length=n:=by rw[aj,gQ]
theorem R1 (l:List au)(c:au)(aP:au->Int):cR (l++[c]) aP=cR l aP+aP c:=by
 rw[Mm];simp[cR]
theorem azV (T:bl){K:e3->bd->Prop}{kk:List gA}(eG:Mem)(n:Nat)(aK:n<=60)(L:List au)(B:Nat->Int)(fW:∀t j,0<=B j+cR (L.take t) (gR j)/\B j+cR (L.take t) (gR j)<=4000000000000000000)(gw:∀c∈L,c.2.1<n /\ -1<=c.2.1)(aLI:(D L)<=2000)(v0 v4 v6 r7 Ay v9 v30 IJ v32 akO akP:R)(bQ:Nat)(IK IL:Option (Nat×List R))(tm:Nat->R)(m:Mem)
  (bC:tm 0=v0) (dr:tm 4=v4) (cm:tm 5=.ref 248029 bQ 1 0 n) (bP:tm 6=v6) (bL:tm 7=r7) (dN:tm 8=Ay) (ej:tm 9=v9) (hZ:tm 30=v30) (jc:tm 31=IJ) (jd:tm 32=v32) (nM:tm 50=akO) (nN:tm 51=akP) (oA:tm 59=j9 L) (kx:tm 60=.J (.int .i64 (D L))) (th:tm 61=.J (.int .i64 0))
  (mj:m 248029=some (bQ,(bF n B).map b9)) (nO:m 248094=IK) (nP:m 248098=IL) (bV:et 248 eG m)
  (dQ:∀tm' m',tm' 0=v0->tm' 4=v4->tm' 5=.ref 248029 bQ 1 0 n->tm' 6=v6->tm' 7=r7->tm' 8=Ay->tm' 9=v9->tm' 30=v30->tm' 31=IJ->tm' 32=v32->tm' 50=akO->tm' 51=akP->m' 248029=some (bQ,(bF n λj=>B j+cR L (gR j)).map b9)->m' 248094=IK->m' 248098=IL->et 248 eG m'->cK T K kk (.exit 4) ⟨tm',m'⟩) :
  wp T (vP.body.sub [1,1,1,1,1,0,1,0,0,0,0,1,1,0,0,1,1,0,1,0,0,1,1,0,0,1,1,0]) (cK T K kk) ⟨tm,m⟩:=by
 simp only[vP,eC.sub]
 refine dw [0,4,5,6,7,8,9,30,31,32,50,51,59,60] [248094,248098] (λ(t:Nat) tm m=>t<=D L/\tm 61=.J (.int .i64 t)/\m 248029=some (bQ,(bF n λj=>B j+cR (L.take t) (gR j)).map b9)/\et 248 eG m) (λt=>D L-t) 0 (by
  refine⟨by omega,th,?_,bV⟩
  rw[mj]
  congr 3
  exact kS λj _=>by rw[nu];simp[cR]) ?_
 intro vs ms aT aS;simp only[go_sem,go_sem_proc,bC,dr,cm,bP,bL,dN,ej,hZ,jc,jd,nM,nN,oA,kx,nO,nP] at aT aS;subst aT aS;clear bC dr cm bP bL dN ej hZ jc jd nM nN oA kx th mj nO nP bV tm m;rintro t tm m Q hm ⟨ajb,th,mj,bV⟩;simp only[go_sem,go_sem_proc,bf] at Q hm;obtain⟨bC,dr,cm,bP,bL,dN,ej,hZ,jc,jd,nM,nN,oA,kx⟩:=Q;obtain⟨nO,nP⟩:=hm;rcases dF (t<D L) with aA|b7
 ·have d1:decide ((t:Int)<(D L:Int))=true:=dp;have b5:=e9 (i:=t) (by omega);obtain⟨⟨aI,c2,c3,c4⟩,O⟩:∃c,L[t]?=some c:=⟨_,bz aA⟩;have lR:=gw _ (ei O);dsimp only at lR;have sT:=aj7 O;simp only[go_sem,go_sem_proc] at sT;have gM:L.take (t+1)=L.take t++[(aI,c2,c3,c4)]:=by rw[hc,O];rfl
  rcases q:decide (c2>=0)
  ·have vb:c2<0:=by have:=of_decide_eq_false q;omega
   have A0:(bF n λj=>B j+cR (L.take (t+1)) (gR j))=bF n λj=>B j+cR (L.take t) (gR j):=kS λj _=>by
    rw[gM,R1];unfold gR;rw[ah (by dsimp only;omega)];omega
   refine aZ ?_;repeat' (intro h<;>simp only[h,go_sem,go_sem_proc,bC,dr,cm,bP,bL,dN,ej,hZ,jc,jd,nM,nN,oA,kx,th,mj,nO,nP,sT,d1,b5,q,ck,cI]<;>try refine ax ?_ ?_)
   refine⟨t+1,by omega,by omega,rfl,by rw[A0],by repeat first|exact bV|refine et.e6 ?_ (by decide)⟩
  ·have vb:0<=c2:=of_decide_eq_true q;obtain⟨i,rfl⟩:∃t:Nat,c2=(t:Int):=⟨c2.toNat,by omega⟩
   have cH:i<n:=by omega
   have kl:=fW t i;have eJ:=fW (t+1) i;rw[gM,R1] at eJ;have r8:gR i (aI,(i:Int),c3,c4)=c4:=by unfold gR;rw[ad rfl]
   rw[r8] at eJ;have M0:IntKind.i64.wrap (B i+cR (L.take t) (gR i)+c4)=B i+cR (L.take t) (gR i)+c4:=by rw[fc _]
   have A0:(bF n λj=>B j+cR (L.take (t+1)) (gR j))=bF n λj=>if j=i then B i+cR (L.take t) (gR i)+c4 else B j+cR (L.take t) (gR j):=kS λj _=>by
    rw[gM,R1]
    by_cases ai:j=i
    ·rw[ad ai,ai,r8];omega
    ·rw[ah ai];have:gR j (aI,(i:Int),c3,c4)=0:=by unfold gR;rw[ah (by dsimp only;omega)]
     rw[this];omega
   have t1:=akM cH λj=>B j+cR (L.take t) (gR j);have t2:=akN n λj=>B j+cR (L.take t) (gR j);have t3:=akK cH (λj=>B j+cR (L.take t) (gR j)) (B i+cR (L.take t) (gR i)+c4);rw[<-A0] at t3;have eh:i+1<=n:=by omega
   generalize ak:(bF n λj=>B j+cR (L.take t) (gR j)).map b9=cg at *;generalize oJ:(bF n λj=>B j+cR (L.take (t+1)) (gR j)).map b9=rR at *;generalize B i+cR (L.take t) (gR i)=S1 at *;refine aZ ?_;repeat' (intro h<;>simp only[h,go_sem,go_sem_proc,bC,dr,cm,bP,bL,dN,ej,hZ,jc,jd,nM,nN,oA,kx,th,mj,nO,nP,sT,d1,b5,q,M0,t1,t2,t3,cH,eh,ck,cI]<;>try refine ax ?_ ?_)
   refine⟨t+1,by omega,by omega,rfl,by rw[oJ],by repeat first|exact bV|refine et.e6 ?_ (by decide)⟩
 ·have d1:decide ((t:Int)<(D L:Int))=false:=dn;rw[dB (by omega)] at mj;refine aZ ?_;repeat' (intro h<;>simp only[h,go_sem,go_sem_proc,bC,dr,cm,bP,bL,dN,ej,hZ,jc,jd,nM,nN,oA,kx,th,d1]<;>try refine ax ?_ ?_)
  refine dQ _ _ ?_ ?_ ?_ ?_ ?_ ?_ ?_ ?_ ?_ ?_ ?_ ?_ mj nO nP bV<;>simp only[e7,ed,if_false,bC,dr,cm,bP,bL,dN,ej,hZ,jc,jd,nM,nN]
theorem akQ (cs:List au)(f:Nat->Nat)(i k t:Nat):kv cs f i k t=kv cs f i k 0++(dh cs i k).take t:=by
 unfold kv;simp
theorem azW (T:bl){K:e3->bd->Prop}{kk:List gA}(eG:Mem)(E:List Int)(cs:List au)(f:Nat->Nat)(U:fo E cs)(MZ:cs=dz (D E) cs)(aH:∀i,i<(D E)->f i<=10)(i:Nat)(M:i<D E)(x:oy)(O:x.dt)(eL:∀k,k<10->x.dk[k]?=some (dh cs i k))(B:Nat->Int)(fW:∀j,0<=B j/\B j<=1000000000000000)(ef g:Nat)(uR:ef/1000≠248)(kH:eG ef=some (g,fC x))(v0 v4 v6 r7 Ay v30 IJ v32:R)(bQ:Nat)(IK IL:Option (Nat×List R))(tm:Nat->R)(m:Mem)
  (bC:tm 0=v0) (dr:tm 4=v4) (cm:tm 5=.ref 248029 bQ 1 0 (D E)) (bP:tm 6=v6) (bL:tm 7=r7) (dN:tm 8=Ay) (ej:tm 9=.ptr ef g 0) (hZ:tm 30=v30) (jc:tm 31=IJ) (jd:tm 32=v32) (nM:tm 50=.J (.int .i64 (f i))) (nN:tm 51=.J (.int .i64 0))
  (mj:m 248029=some (bQ,(bF (D E) λj=>B j+cR (kv cs f i 0 0) (gR j)).map b9)) (nO:m 248094=IK) (nP:m 248098=IL) (bV:et 248 eG m)
  (dQ:∀tm' m',tm' 0=v0->tm' 4=v4->tm' 5=.ref 248029 bQ 1 0 (D E)->tm' 6=v6->tm' 7=r7->tm' 8=Ay->tm' 9=.ptr ef g 0->tm' 30=v30->tm' 31=IJ->tm' 32=v32->m' 248029=some (bQ,(bF (D E) λj=>B j+cR (kv cs f (i+1) 0 0) (gR j)).map b9)->m' 248094=IK->m' 248098=IL->et 248 eG m'->cK T K kk (.exit 2) ⟨tm',m'⟩) :
  wp T (vP.body.sub [1,1,1,1,1,0,1,0,0,0,0,1,1,0,0,1,1,0,1,0]) (cK T K kk) ⟨tm,m⟩:=by
 simp only[vP,eC.sub];have r5:=aH i M;have aK:=U.n5;refine dw [0,4,5,6,7,8,9,30,31,32,50] [248094,248098] (λ(k:Nat) tm m=>k<=f i/\tm 51=.J (.int .i64 k)/\m 248029=some (bQ,(bF (D E) λj=>B j+cR (kv cs f i k 0) (gR j)).map b9)/\et 248 eG m) (λk=>f i-k) 0 (by refine⟨by omega,nN,mj,bV⟩) ?_;intro vs ms aT aS;simp only[go_sem,go_sem_proc,bC,dr,cm,bP,bL,dN,ej,hZ,jc,jd,nM,nO,nP] at aT aS;subst aT aS;clear bC dr cm bP bL dN ej hZ jc jd nM nN mj nO nP bV tm m;rintro k tm m Q hm ⟨HY,nN,mj,bV⟩;simp only[go_sem,go_sem_proc,bf] at Q hm;obtain⟨bC,dr,cm,bP,bL,dN,ej,hZ,jc,jd,nM⟩:=Q;obtain⟨nO,nP⟩:=hm;rcases dF (k<f i) with aA|b7
 ·have d1:decide ((k:Int)<(f i:Int))=true:=dp;have b5:=e9 (i:=k) (by omega);have ag:=(bV ef uR).trans kH;have hlen:=CW O;have CZ:=aj8 (x:=x) (k:=k) (l:=dh cs i k) (eL k (by omega));have eh:k<10:=by omega
  have b3:(1+k+1<=24)=True:=eq_true (by omega);have akR:=aj6 (dh cs i k);simp only[go_sem,go_sem_proc] at akR;generalize fC x=DC at *;simp only[go_sem,go_sem_proc,bC,dr,cm,bP,bL,dN,ej,hZ,jc,jd,nM,nN,ag,hlen,CZ,d1,eh,b3,akR,cI];refine azV T eG (D E) (by omega) (dh cs i k) (λj=>B j+cR (kv cs f i k 0) (gR j)) (λt j=>?_) (λc H=>?_) ?_ v0 v4 v6 r7 Ay (.ptr ef g 0) v30 IJ v32 (.J (.int .i64 (f i))) (.J (.int .i64 k)) bQ IK IL _ _ ?_ ?_ ?_ ?_ ?_ ?_ ?_ ?_ ?_ ?_ ?_ ?_ ?_ ?_ ?_ mj nO nP bV ?_
  ·obtain⟨l,ar⟩:=akH cs f (n:=D E) (t:=t) M aA;have F:=akJ U MZ aH j ar;rw[akQ,Mm] at F;have I:=fW j;omega
  ·have:=(hD.1 U.right).2.2.2 c (E0.1 H).1;omega
  ·have F:=mY (λc:au=>c.1==(i:Int)&&c.2.2.1==(k:Int)) cs;have I:=U.rZ;unfold dh;omega
  all_goals first|(intro tm' m' fO ks pE iA hV hT nb R2 R3 R4 azX azY IM R5 R6 xO)|(simp only[e7,ed,if_false,if_true,bC,dr,cm,bP,bL,dN,ej,hZ,jc,jd,nM,nN])
  have hN:(bF (D E) λj=>B j+cR (kv cs f i k 0) (gR j)+cR (dh cs i k) (gR j))=bF (D E) λj=>B j+cR (kv cs f i (k+1) 0) (gR j):=kS λj _=>by
   rw[<-azT,akQ cs f i k (dh cs i k).length,kN,Mm];omega
  rw[hN] at IM;refine aZ ?_;repeat' (intro h<;>simp only[h,go_sem,go_sem_proc,fO,ks,pE,iA,hV,hT,nb,R2,R3,R4,azX,azY,R5,R6,b5]<;>try refine ax ?_ ?_)
  refine⟨k+1,by omega,by omega,rfl,IM,xO⟩
 ·have d1:decide ((k:Int)<(f i:Int))=false:=dn;obtain rfl:k=f i:=by omega
  rw[azU] at mj;refine aZ ?_;repeat' (intro h<;>simp only[h,go_sem,go_sem_proc,bC,dr,cm,bP,bL,dN,ej,hZ,jc,jd,nM,nN,d1]<;>try refine ax ?_ ?_)
  refine dQ _ _ ?_ ?_ ?_ ?_ ?_ ?_ ?_ ?_ ?_ ?_ mj nO nP bV<;>simp only[e7,ed,if_false,bC,dr,cm,bP,bL,dN,ej,hZ,jc,jd]
structure R7 (a:de) (mem:Mem):Prop where
 at_:a.At mem
 iR:r1 248 mem
 jR:r1 255 mem
 wy:r1 256 mem
 IF:a.IE
 hh:tb (aB a.E a.cs) (bO a.fl) (fw a.P)
open Classical in
theorem akS (P:Nat->Prop)(n:Nat):c1 P (n+1)=c1 P n++(if P n then [n] else []):=by
 unfold c1;rw[ow,pG]
 by_cases h:P n
 ·rw[ad h,uL (by simpa using h),qg]
 ·rw[ah h,wi (by simpa using h),qg]
theorem akT (P:Nat->Prop)(n:Nat):(c1 P n).length<=n:=by
 unfold c1;exact eU (mY _ _) (by rw[sC];exact b1 _)
def de.W (a:de)(k i:Nat):Rat:=(aB a.E a.cs).W (bO a.fl) k i
theorem akU (n:Nat)(W:Nat->Nat->Rat)(k:Nat):(tf n W k).length=1:=rfl
theorem azZ (n:Nat)(W:Nat->Nat->Rat)(k:Nat):((tf n W k).map R.J).all R.one=true:=rfl
def oB (a:de)(i j:Nat):Int:=(if j<i then a.E.getD j 0 else 0)+cR (kv a.cs (bO a.fl) i 0 0) (gR j)
theorem az0 (T:bl)(aaX:T O4=y8 RU){K:e3->bd->Prop}{kk:List gA}(a:de)(eG:Mem)(aN:R7 a eG)(v0 v4 v30:R)(bQ pH lo:Nat)(tm:Nat->R)(m:Mem)
  (bC:tm 0=v0) (dr:tm 4=.J (.int .i64 (D a.E))) (cm:tm 5=.ref 248029 bQ 1 0 (D a.E)) (bP:tm 6=.ref 248094 pH 1 0 0) (bL:tm 7=.ref 248098 lo 1 0 0) (hZ:tm 30=.ref 228023 a.g 1 0 (D a.E)) (jc:tm 31=.J (.int .i64 (D a.E))) (jd:tm 32=.J (.int .i64 0))
  (mj:m 248029=some (bQ,(bF (D a.E) λj=>oB a 0 j).map b9)) (nO:m 248094=some (pH,[])) (nP:m 248098=some (lo,[])) (bV:et 248 eG m)
  (dQ:∀tm' m' akV akW,tm' 0=v0->tm' 4=.J (.int .i64 (D a.E))->tm' 5=.ref 248029 bQ 1 0 (D a.E)->tm' 6=.ref 248094 akV 1 0 (D a.p)->tm' 7=.ref 248098 akW 1 0 (D a.p)->m' 248029=some (bQ,(bF (D a.E) λj=>oB a (D a.E) j).map b9)->m' 248094=some (akV,a7 iC a.p)->m' 248098=some (akW,a7 (tf (D a.E) a.W) a.p)->et 248 eG m'->cK T K kk (.exit 0) ⟨tm',m'⟩) :
  wp T (vP.body.sub [1,1,1,1,1,0,1,0,0,0]) (cK T K kk) ⟨tm,m⟩:=by
 have R8:=aN;obtain⟨cj,iR,jR,wy,r9,mZ⟩:=aN;have uy:=λi=>de.MV cj r9 (i:=i);obtain⟨U,gr⟩:=r9;have aK:=U.n5;simp only[vP,eC.sub];refine dw [0,4,5,30,31] [] (λ((i,pH,lo):Nat×Nat×Nat) tm m=>i<=D a.E/\tm 32=.J (.int .i64 i)/\tm 6=.ref 248094 pH 1 0 (c1 (fw a.P) i).length/\tm 7=.ref 248098 lo 1 0 (c1 (fw a.P) i).length/\m 248029=some (bQ,(bF (D a.E) λj=>oB a i j).map b9)/\m 248094=some (pH,a7 iC (c1 (fw a.P) i))/\m 248098=some (lo,a7 (tf (D a.E) a.W) (c1 (fw a.P) i))/\et 248 eG m) (λ(i,_)=>D a.E-i) (0,pH,lo) (by refine⟨by omega,jd,bP,bL,mj,nO,nP,bV⟩) ?_;intro vs ms aT aS;simp only[go_sem,go_sem_proc,bC,dr,cm,hZ,jc] at aT aS;subst aT aS;clear bC dr cm bP bL hZ jc jd mj nO nP bV tm m;rintro⟨i,pH,lo⟩ tm m Q-⟨cH,jd,bP,bL,mj,nO,nP,bV⟩;simp only[go_sem,go_sem_proc,bf] at Q;obtain⟨bC,dr,cm,hZ,jc⟩:=Q;rcases dF (i<D a.E) with M|b7
 ·have d1:decide ((i:Int)<(D a.E:Int))=true:=dp;have b5:=e9 (i:=i) (by omega);obtain⟨r5,wu⟩:=uy i M;have fb:=(bV.at 228023 (by omega)).trans cj.row;have qI:=cj.df i M;have fa:=(bV.at (228500+i) (by omega)).trans qI;have iq:=wv (iZ (λi=>R.ptr (228500+i) (a.gs.getD i 0) 0) M);have b2:(bF (D a.E) λi=>R.ptr (228500+i) (a.gs.getD i 0) 0).length=D a.E:=gQ _ _;have cW:=a.xM i;have hlen:=CW cW;have mh:=MM cW;have sa:=aka cW;have akX:=ayq (x:=a.gH i);rw[show (a.gH i).f=(bO a.fl i:Int) from r5] at mh;rw[show (a.gH i).p=a.P.getD i false from rfl] at sa;rw[show (a.gH i).E=a.E.getD i 0 from rfl] at akX;have akY:=U.E i;have iT:=akH a.cs (bO a.fl) (n:=D a.E) (i:=i) (k:=0) (t:=0) M
  have aLJ:0<=cR (kv a.cs (bO a.fl) i 0 0) (gR i)/\cR (kv a.cs (bO a.fl) i 0 0) (gR i)<=13000000000000000:=by
   have:∃l,tg a.cs (bO a.fl) (D a.E)=kv a.cs (bO a.fl) i 0 0++l:=by
    obtain⟨r,ab⟩:∃r,D a.E=i+r:=⟨D a.E-i,by omega⟩
    refine⟨((dW r).map (i+·)).flatMap λi=>(dW (bO a.fl i)).flatMap λk=>dh a.cs i k,?_⟩;rw[akG];unfold tg;rw[ab,akI,y5]
   obtain⟨l,ar⟩:=this;exact akJ U cj.can (λi M=>(uy i M).2) i ar
  have ZU:oB a i i=cR (kv a.cs (bO a.fl) i 0 0) (gR i):=by unfold oB;rw[ah (by omega)];omega
  have az1:IntKind.i64.wrap (oB a i i+a.E.getD i 0)=oB a i i+a.E.getD i 0:=by rw[fc _]
  have t1:=akM M λj=>oB a i j;have t2:=akN (D a.E) λj=>oB a i j;have t3:=akK M (λj=>oB a i j) (oB a i i+a.E.getD i 0)
  have Fa:(bF (D a.E) λj=>if j=i then oB a i i+a.E.getD i 0 else oB a i j)=bF (D a.E) λj=>(if j<i+1 then a.E.getD j 0 else 0)+cR (kv a.cs (bO a.fl) i 0 0) (gR j):=kS λj _=>by
   by_cases ai:j=i
   ·rw[ad ai,ai,ad (by omega),ZU];omega
   ·rw[ah ai];unfold oB
    by_cases vj:j<i
    ·rw[ad vj,ad (by omega)]
    ·rw[ah vj,ah (by omega)]
  rw[Fa] at t3;have eh:i+1<=D a.E:=by omega
  have uR:(228500+i)/1000≠248:=by omega
  generalize o7:228500+i=ef at *;have n29:(ef=248029)=False:=eq_false (by omega);have az2:(ef==248029)=false:=beq_eq_false_iff_ne.2 (by omega);have az3:(248029==ef)=false:=beq_eq_false_iff_ne.2 (by omega);have aLK:fC (a.gH i)=fC (a.gH i):=rfl;generalize gU:(bF (D a.E) λj=>oB a i j).map b9=cg at *;generalize az4:(bF (D a.E) λj=>(if j<i+1 then a.E.getD j 0 else 0)+cR (kv a.cs (bO a.fl) i 0 0) (gR j)).map b9=rR at *;generalize IP:(bF (D a.E) λi=>R.ptr (228500+i) (a.gs.getD i 0) 0)=xN at *;generalize M3:fC (a.gH i)=DC at *;simp only[go_sem,go_sem_proc,bC,dr,cm,bP,bL,hZ,jc,jd,fb,fa,iq,b2,hlen,mh,sa,akX,mj,t1,t2,t3,az1,d1,M,eh,n29,az2,az3,b9,ln,cI];refine azW T eG a.E a.cs (bO a.fl) U cj.can (λi M=>(uy i M).2) i M (a.gH i) cW (λk Q=>iZ _ Q) (λj=>if j<i+1 then a.E.getD j 0 else 0) (λj=>?_) ef (a.gs.getD i 0) uR (by rw[M3];exact qI) v0 (.J (.int .i64 (D a.E))) (.ref 248094 pH 1 0 (c1 (fw a.P) i).length) (.ref 248098 lo 1 0 (c1 (fw a.P) i).length) (.J (.int .i64 i)) (.ref 228023 a.g 1 0 (D a.E)) (.J (.int .i64 (D a.E))) (.J (.int .i64 i)) bQ (some (pH,a7 iC (c1 (fw a.P) i))) (some (lo,a7 (tf (D a.E) a.W) (c1 (fw a.P) i))) _ _ ?_ ?_ ?_ ?_ ?_ ?_ ?_ ?_ ?_ ?_ ?_ ?_ ?_ ?_ ?_ (bV.e6 (by decide)) ?_
  ·have:=U.E j
   split<;>omega
  all_goals first|(intro tm' m' fO ks pE iA hV hT nb R2 R3 R4 IM R5 R6 xO)|(simp only[e7,ed,if_false,if_true,bC,dr,cm,bP,bL,hZ,jc,jd])|(simp only[a1,ed,if_false,if_true,nO,nP])|skip
  ·rw[<-az4]
  have hN:(bF (D a.E) λj=>(if j<i+1 then a.E.getD j 0 else 0)+cR (kv a.cs (bO a.fl) (i+1) 0 0) (gR j))=bF (D a.E) λj=>oB a (i+1) j:=rfl;rw[hN] at IM;have eJ:=(xO ef uR).trans qI;have pl:=akT (fw a.P) i;rcases q:a.P.getD i false
  ·have gE:c1 (fw a.P) (i+1)=c1 (fw a.P) i:=by
    rw[akS,ah (by unfold fw;rw[q];decide),fE]
   rw[q] at sa;refine aZ ?_;repeat' (intro h<;>simp only[h,go_sem,go_sem_proc,fO,ks,pE,iA,hV,hT,nb,R2,R3,R4,R5,R6,eJ,hlen,sa,b5,ln,cI]<;>try refine ax ?_ ?_)
   exact⟨(i+1,pH,lo),by dsimp only;omega,by dsimp only;omega,rfl,by rw[gE],by rw[gE],IM,by rw[gE],by rw[gE],xO⟩
  ·have gv:fw a.P i:=q
   have gE:c1 (fw a.P) (i+1)=c1 (fw a.P) i++[i]:=by
    rw[akS,ad gv]
   have az5:bO a.fl i<10:=by
    obtain⟨F,g,I,af⟩:=mZ;exact (af.gG i gv).2
   have jx:=azn a i m' ⟨cj.aF xO (by decide) aK,jR.aF xO (by decide),⟨U,gr⟩,M,az5,mZ.rV i gv⟩;rw[o7] at jx;have az6:RT (a,i)=.cM [.Y ((dK (D a.E) (a.W i)).map aE),.bool true]:=rfl;rw[az6] at jx;have akZ:=k6 y0 aj4 248094 pH 8 (c1 (fw a.P) i) i (cs:=[.J (.int .i64 i)]) rfl (by omega) (by omega);have ak0:=k6 (akU (D a.E) a.W) (azZ (D a.E) a.W) 248098 lo 24 (c1 (fw a.P) i) i (cs:=[.J (.Y ((dK (D a.E) (a.W i)).map aE))]) rfl (by omega) (by omega);have cr:(c1 (fw a.P) (i+1)).length=(c1 (fw a.P) i).length+1:=by rw[gE,fr];rfl
   rw[<-gE] at akZ ak0;rw[q] at sa;generalize (dK (D a.E) (a.W i)).map aE=V at *;refine aZ ?_;repeat' (intro h<;>simp only[h,go_sem,go_sem_proc,aaX,fO,ks,pE,iA,hV,hT,nb,R2,R3,R4,R5,R6,eJ,hlen,sa,jx,akZ,ak0,b5,ln,cI,c5]<;>try refine ax ?_ ?_)
   exact⟨(i+1,pH+1,lo+1),by dsimp only;omega,by dsimp only;omega,rfl,by rw[cr],by rw[cr],IM,rfl,rfl,by repeat first|exact xO|refine et.e6 ?_ (by decide)⟩
 ·have d1:decide ((i:Int)<(D a.E:Int))=false:=dn;obtain rfl:i=D a.E:=by omega
  refine aZ ?_;repeat' (intro h<;>simp only[h,go_sem,go_sem_proc,bC,dr,cm,bP,bL,hZ,jc,jd,d1]<;>try refine ax ?_ ?_)
  refine dQ _ _ pH lo ?_ ?_ ?_ ?_ ?_ mj nO nP bV<;>simp only[e7,ed,if_false,bC,dr,cm,bP,bL,de.p]
theorem az7 (T:bl)(l6:T wX=aW yO)(fM:T tO=aW yN){K:e3->bd->Prop}{kk:List gA}(eG:Mem)(n:Nat)(p:List Nat)(aG:(D p)<=60)(W:Nat->Nat->Rat)(c6:Nat->Rat)(i:Nat)(M:i<n)(wz:Rat)(aV:∀t,t<=(D p)->dU 708 (wz+bJ t λk=>W (p.getD k 0) i*c6 k))(cC:∀k,k<(D p)->dU 438 (W (p.getD k 0) i*c6 k)/\dU 54 (W (p.getD k 0) i)/\dU 384 (c6 k))(ak1 ak2 ak3 ak4:R)(bQ:Nat)(ak5:Option (Nat×List R))(tm:Nat->R)(m:Mem)
  (bP:tm 6=.J (.Y (p.map iC))) (bL:tm 7=.J (.Y (p.map (tf n W)))) (sb:tm 15=.J (.Y ((dK (D p) c6).map aE))) (iB:tm 17=ak1) (jE:tm 18=.J (.int .i64 i)) (mi:tm 20=.ptr 248020 bQ 0) (xP:tm 110=ak2) (xQ:tm 111=ak3) (p6:tm 112=ak4) (M4:tm 120=.J (.int .i64 (D p))) (M5:tm 121=.J (.int .i64 0))
  (IQ:m 248020=some (bQ,(aE (av wz)).map .J)) (IU:m 248156=ak5) (bV:et 248 eG m)
  (dQ:∀tm' m',tm' 6=.J (.Y (p.map iC))->tm' 7=.J (.Y (p.map (tf n W)))->tm' 15=.J (.Y ((dK (D p) c6).map aE))->tm' 17=ak1->tm' 20=.ptr 248020 bQ 0->tm' 110=ak2->tm' 111=ak3->tm' 112=ak4->m' 248020=some (bQ,(aE (av (wz+bJ (D p) λk=>W (p.getD k 0) i*c6 k))).map .J)->m' 248156=ak5->et 248 eG m'->cK T K kk (.exit 8) ⟨tm',m'⟩) :
  wp T (vP.body.sub [1,1,1,1,1,1,1,1,1,0,1,0,0,0,1,1,0,0,1,1,0,1,0]) (cK T K kk) ⟨tm,m⟩:=by
 simp only[vP,eC.sub]
 refine dw [6,7,15,17,18,20,110,111,112,120] [248156] (λ(k:Nat) tm m=>k<=D p/\tm 121=.J (.int .i64 k)/\m 248020=some (bQ,(aE (av (wz+bJ k λk=>W (p.getD k 0) i*c6 k))).map .J)/\et 248 eG m) (λk=>D p-k) 0 (by
  refine⟨by omega,M5,?_,bV⟩
  rw[IQ,bJ,o3]) ?_
 intro vs ms aT aS;simp only[go_sem,go_sem_proc,bP,bL,sb,iB,jE,mi,xP,xQ,p6,M4,IU] at aT aS;subst aT aS;clear bP bL sb iB jE mi xP xQ p6 M4 M5 IQ IU bV tm m;rintro k tm m Q hm ⟨HY,M5,IQ,bV⟩;simp only[go_sem,go_sem_proc,bf] at Q hm;obtain⟨bP,bL,sb,iB,jE,mi,xP,xQ,p6,M4⟩:=Q;rcases dF (k<D p) with aA|b7
 ·have d1:decide ((k:Int)<(D p:Int))=true:=dp;have b5:=e9 (i:=k) (by omega);obtain⟨wx,O⟩:∃c,p[k]?=some c:=⟨_,bz aA⟩;have sY:p.getD k 0=wx:=by rw[ep,O];rfl
  obtain⟨j0,lf,z3⟩:=cC k aA;have z0:=aV k (by omega);rw[sY] at j0 lf;have hmul:=ajD (hL lf (by omega)) (hL z3 (by omega)) (ZF lf z3 (by omega));have iI:=MG (hL z0 (by omega)) (hL j0 (by omega)) (y4 z0 j0 (by omega))
  have U:(wz+bJ (k+1) λk=>W (p.getD k 0) i*c6 k)=wz+bJ k (λk=>W (p.getD k 0) i*c6 k)+W wx i*c6 k:=by
   rw[bJ,sY];grind
  have bc:=uJ (W wx) M;have az8:=uJ c6 aA;rw[<-U] at iI;clear z0 j0 lf z3 cC aV U dQ;generalize av (wz+bJ k λk=>W (p.getD k 0) i*c6 k)=F1 at *;generalize az9:av (wz+bJ (k+1) λk=>W (p.getD k 0) i*c6 k)=F2 at *;generalize av (W wx i*c6 k)=F3 at *;generalize av (W wx i)=F4 at *;generalize av (c6 k)=F5 at *;obtain⟨⟨c0,dj⟩,⟨a3,a4⟩⟩:=F1;obtain⟨⟨di,eK⟩,⟨j7,mc⟩⟩:=F2;obtain⟨⟨f1,f2⟩,⟨f3,f4⟩⟩:=F3;obtain⟨⟨cF,cp⟩,⟨hb,j5⟩⟩:=F4;obtain⟨⟨cv,cS⟩,⟨eF,ks⟩⟩:=F5;simp only[aE,eA,cY] at hmul iI IQ;refine aZ ?_;repeat' (intro h<;>simp only[h,go_sem,go_sem_proc,l6,fM,bP,bL,sb,iB,jE,mi,xP,xQ,p6,M4,M5,IQ,hm,d1,b5,O,tf,bc,az8,hmul,iI,aE,aj,bn,bne,beq_self_eq_true,c5]<;>try refine ax ?_ ?_)
  refine⟨k+1,by omega,by omega,rfl,by rw[az9],by repeat first|exact bV|refine et.e6 ?_ (by decide)⟩
 ·have d1:decide ((k:Int)<(D p:Int))=false:=dn;obtain rfl:k=D p:=by omega
  refine aZ ?_;repeat' (intro h<;>simp only[h,go_sem,go_sem_proc,bP,bL,sb,iB,jE,mi,xP,xQ,p6,M4,M5,d1]<;>try refine ax ?_ ?_)
  refine dQ _ _ ?_ ?_ ?_ ?_ ?_ ?_ ?_ ?_ IQ hm bV<;>simp only[e7,ed,if_false,bP,bL,sb,iB,mi,xP,xQ,p6]
def R9 (a:de):Data:=.cM [.Y ((dK (D a.E) ((aB a.E a.cs).ff (bO a.fl) (fw a.P))).map aE),.bool true]
def aaY:List R->Mem->Option Data:=E1 (λ(a:de) args mem=>args=[.ref 228023 a.g 1 0 (D a.E)]/\R7 a mem) R9
theorem aAa (a:de)(mem:Mem)(h:R7 a mem):aaY [.ref 228023 a.g 1 0 (D a.E)] mem=some (R9 a):=by
 refine Z8 (a:=a) ?_ ⟨rfl,h⟩;rintro a b args mem ⟨az,aD⟩ ⟨bZ,dr⟩;rw[de.uniq aD.at_ dr.at_]
theorem IV (l:List Int):l.map b9=a7 ae l:=by
 unfold a7
 induction l with
 |nil=>rfl
 |cons a l ay=>rw[eA,eA,jt,jD,<-ay];rfl
theorem aAb (n:Nat):(dG n [R.J (.int .i64 0)]).flatten=(bF n λ_=>(0:Int)).map b9:=by
 induction n with
 |zero=>rfl
 |succ n ay=>rw[List.replicate_succ',List.flatten_append,ay];simp[bF,ow,b9]
theorem aAc (T:bl)(hE:T pt=aW wh)(aaX:T O4=y8 RU)(aAd:T UK=y8 RY)(l6:T wX=aW yO)(fM:T tO=aW yN)(a:de)(mem:Mem)(aN:R7 a mem):
  wp T vP.body (p4 vP.res λm mem'=>cl 6 emp m=some (R9 a)/\et 248 mem mem') ⟨lv [.ref 228023 a.g 1 0 (D a.E)],mem⟩:=by
 have cj:=aN.at_;have U:=aN.IF.q3;have mZ:=aN.hh;have aK:=U.n5;have HV:(8*D a.E<=140737488355328)=True:=eq_true (by omega);have CE:(D a.E<=maxLen)=True:=eq_true (by unfold maxLen;omega);have ak6:mem 248094=none:=aN.iR 248094 (by decide);have ak7:mem 248098=none:=aN.iR 248098 (by decide);have QK:mem 248029=none:=aN.iR 248029 (by decide);have aV:=aAb (D a.E)
 have vh:(bF (D a.E) λj=>oB a 0 j)=bF (D a.E) λ_=>(0:Int):=kS λj _=>by
  unfold oB;rw[ah (by omega),azS];rfl
 refine tw ?_;simp only[vP];simp only[go_sem,go_sem_proc,HV,CE,ak6,ak7,QK,aV];refine az0 T aaX a mem aN (.ref 228023 a.g 1 0 (D a.E)) (.ref 228023 a.g 1 0 (D a.E)) (.ref 228023 a.g 1 0 (D a.E)) 0 0 0 _ _ ?_ ?_ ?_ ?_ ?_ ?_ ?_ ?_ ?_ ?_ ?_ ((((et.refl _ _).e6 (by decide)).e6 (by decide)).e6 (by decide)) ?_
 all_goals first|(intro tm m pH lo fO ks pE iA hV mj nO nP bV)|(simp only[e7,ed,if_false,if_true];done)|(simp only[e7,ed,if_false,if_true];rfl)|(simp only[a1,ed,if_false,if_true,vh])|skip
 have dE:(bF (D a.E) λj=>oB a (D a.E) j)=bF (D a.E) λi=>lk a.E a.cs (bO a.fl) i:=kS λj ai=>by
  unfold oB;rw[ad ai,akG,akF cj.can λi M=>(de.MV cj aN.IF M).2]
 rw[dE,IV] at mj;have gD:∀iO,et 248 mem iO->RY [.ref 228023 a.g 1 0 (D a.E),.J (.Y ((bF (D a.E) λi=>lk a.E a.cs (bO a.fl) i).map ae)),.J (.Y (a.p.map iC)),.J (.Y (a.p.map (tf (D a.E) a.W)))] iO=some (.cM [.Y (a.xs.map aE),.bool true]):=λiO h=>azw a iO ⟨cj.aF h (by decide) aK,aN.wy.aF h (by decide),aN.IF,mZ⟩;have ak8:(bF (D a.E) λi=>lk a.E a.cs (bO a.fl) i).length=D a.E:=gQ _ _;have aAe:∀i,i<(D a.E)->(bF (D a.E) λi=>lk a.E a.cs (bO a.fl) i)[i]?=some (lk a.E a.cs (bO a.fl) i):=λi M=>iZ _ M;generalize aLL:(bF (D a.E) λi=>lk a.E a.cs (bO a.fl) i)=ST at *;have Fb:=λ(K:bd->Prop) (st:bd)=>lX (K:=K) (st:=st) hd 5 248029 0 ST;rw[ak8] at Fb;have Sa:=λ(K:bd->Prop) (st:bd)=>lX (K:=K) (st:=st) y0 6 248094 pH a.p;have Fc:=λ(K:bd->Prop) (st:bd)=>lX (K:=K) (st:=st) (akU (D a.E) a.W) 7 248098 lo a.p;have ak9:=λcF cp hb aI c2 c3=>gD (a1 (a1 (a1 m 248029 cF aI) 248094 cp c2) 248098 hb c3) (((bV.e6 (by decide)).e6 (by decide)).e6 (by decide));simp only[go_sem,go_sem_proc,aAd,fO,ks,pE,iA,hV,mj,nO,nP,Fb,Sa,Fc,ak9,ak8,aj,c5];have pj:(D a.p)<=D a.E:=akT _ _;have gE:=λi (M:i<D a.E) t (bD:t<=D a.p)=>axt U mZ M bD;have Sb:=λi (M:i<D a.E)=>mZ.good.aiX (d:=aB a.E a.cs) M;have A1:c1 (fw a.P) (aB a.E a.cs).n=a.p:=rfl;have aAf:c1 (fw a.P) (D a.E)=a.p:=rfl;have BD:a.xs=dK (D a.p) λk=>(aB a.E a.cs).ff (bO a.fl) (fw a.P) (a.p.getD k 0)-(aB a.E a.cs).bG (a.p.getD k 0) (bO a.fl (a.p.getD k 0)):=rfl;rw[A1] at Sb;rw[aAf] at gE;rw[BD];generalize nA:(λk=>(aB a.E a.cs).ff (bO a.fl) (fw a.P) (a.p.getD k 0)-(aB a.E a.cs).bG (a.p.getD k 0) (bO a.fl (a.p.getD k 0)))=c6 at *;have Aw:∀k,(aB a.E a.cs).ff (bO a.fl) (fw a.P) (a.p.getD k 0)-(aB a.E a.cs).bG (a.p.getD k 0) (bO a.fl (a.p.getD k 0))=c6 k:=λk=>congrFun nA k;simp only[Aw] at gE Sb;have IW:=λi=>MC U.right (bO a.fl) i;have ala:=λi=>U.steady (bO a.fl) i;clear Fb Sa Fc gD ak9 BD nA Aw fO ks pE iA hV mj nO nP ak6 ak7 QK aV vh HV CE
 refine dw [6,7,15,110,111] [] (λ((i,g):Nat×Nat) tm iO=>i<=D a.E/\tm 112=.J (.int .i64 i)/\tm 17=.ref 248156 g 4 0 i/\iO 248156=some (g,a7 aE (dK i ((aB a.E a.cs).ff (bO a.fl) (fw a.P))))/\et 248 mem iO) (λ(i,_)=>D a.E-i) (0,gB (m 248156)) (by
  refine⟨by omega,rfl,rfl,by simp[a1];rfl,by repeat first|exact bV|refine et.e6 ?_ (by decide)⟩) ?_
 intro vs ms aT aS;simp only[go_sem,go_sem_proc] at aT aS;subst aT aS;clear bV m tm;rintro⟨i,g⟩ tm m Q-⟨cH,p6,iB,IU,bV⟩;simp only[go_sem,go_sem_proc,bf] at Q;obtain⟨bP,bL,sb,xP,xQ⟩:=Q;rcases dF (i<D a.E) with M|b7
 ·have d1:decide ((i:Int)<(D a.E:Int))=true:=dp;have b5:=e9 (i:=i) (by omega);have aAg:=aAe i M;have hw:=CT _ (o6 (z:=lk a.E a.cs (bO a.fl) i) (by have:=ala i;omega) (by have:=ala i;omega));rw[IW] at hw;have aaZ:=gE i M;have aAh:=Sb i M;generalize qQ:(aB a.E a.cs).st (bO a.fl) i=wz at *;generalize hz:av wz=eW at *;obtain⟨⟨tS,tT⟩,⟨E3,E6⟩⟩:=eW;simp only[aE] at hw;simp only[go_sem,go_sem_proc,hE,bP,bL,sb,iB,xP,xQ,p6,d1,aAg,hw,ae,aj,bn];refine az7 T l6 fM mem (D a.E) a.p (by omega) a.W c6 i M wz (λt bD=>(aaZ t bD).1) (λk Q=>⟨(aaZ 0 (by omega)).2.1 k Q,(Ro U mZ (xH Q).2 i).1,(aaZ 0 (by omega)).2.2 k Q⟩) (.ref 248156 g 4 0 i) (.J (.Y (ST.map ae))) (.J (.int .i64 (D a.E))) (.J (.int .i64 i)) (gB (m 248020)) (some (g,a7 aE (dK i ((aB a.E a.cs).ff (bO a.fl) (fw a.P))))) _ _ ?_ ?_ ?_ ?_ ?_ ?_ ?_ ?_ ?_ ?_ ?_ ?_ ?_ ((bV.e6 (by decide)).e6 (by decide)) ?_
  all_goals first|(intro tm' m' iA hV alb alc RZ ald ale L1 Sc alf xO)|(simp only[e7,ed,if_false,if_true,bP,bL,sb,iB,xP,xQ,p6];done)|(simp only[a1,ed,if_false,if_true,IU];done)|(simp only[a1,if_true];rw[hz];rfl)
  have aa0:wz+(bJ (D a.p) λk=>a.W (a.p.getD k 0) i*c6 k)=(aB a.E a.cs).ff (bO a.fl) (fw a.P) i:=aAh.symm;rw[aa0] at Sc;have aT:=aky i ((aB a.E a.cs).ff (bO a.fl) (fw a.P));have b2:(dK i ((aB a.E a.cs).ff (bO a.fl) (fw a.P))).length=i:=qf _ _;have dg:=λ(aP:bg) cs jM=>k6 kO As 248156 g 64 (dK i ((aB a.E a.cs).ff (bO a.fl) (fw a.P))) aP (cs:=cs) jM (by omega) (by omega);simp only[b2] at dg;generalize dK i ((aB a.E a.cs).ff (bO a.fl) (fw a.P))=V at *;generalize vI:dK (i+1) ((aB a.E a.cs).ff (bO a.fl) (fw a.P))=V2 at *;generalize av ((aB a.E a.cs).ff (bO a.fl) (fw a.P) i)=aP at *;obtain⟨⟨c0,dj⟩,⟨a3,a4⟩⟩:=aP;have r6:=dg ((c0,dj),(a3,a4)) _ rfl;rw[<-aT] at r6;simp only[aE,eA,cY] at r6 Sc;simp only[go_sem,go_sem_proc,iA,hV,alb,alc,RZ,ald,ale,L1,Sc,alf,r6,b5];repeat' (first|refine ax ?_ ?_|fail)<;>intro h<;>simp only[h,go_sem,go_sem_proc,iA,hV,alb,alc,RZ,ald,ale,L1,Sc,alf,r6,b5]
  exact⟨(i+1,g+1),by dsimp only;omega,by dsimp only;omega,rfl,rfl,by rw[<-vI],by repeat first|exact xO|refine et.e6 ?_ (by decide)⟩
 ·have d1:decide ((i:Int)<(D a.E:Int))=false:=dn;obtain rfl:i=D a.E:=by omega
  have mE:(dK (D a.E) ((aB a.E a.cs).ff (bO a.fl) (fw a.P))).length=D a.E:=qf _ _;have mX:=λ(K:bd->Prop) (st:bd)=>lX (K:=K) (st:=st) kO 17 248156 g (dK (D a.E) ((aB a.E a.cs).ff (bO a.fl) (fw a.P)));rw[mE] at mX;simp only[go_sem,go_sem_proc,bP,bL,sb,iB,xP,xQ,p6,IU,d1,mX];repeat' (first|refine ax ?_ ?_|fail)<;>intro h<;>simp only[h,go_sem,go_sem_proc,bP,bL,sb,iB,xP,xQ,p6,IU,d1,mX]
  exact⟨_,rfl,rfl,by repeat first|exact bV|refine et.e6 ?_ (by decide)|refine et.kill ?_ (by decide)⟩
def de.hF (a:de)(p:Nat->Bool):de:={ a with P:=nK (D a.E) p }
theorem de.Sd (a:de)(p:Nat->Bool){i:Nat}(M:i<D a.E):(a.hF p).gH i=(a.gH i).sp (p i):=by
 have:(nK (D a.E) p).getD i false=p i:=by rw[ep,RB _ M];rfl
 unfold de.gH de.hF oy.sp;dsimp only;rw[this]
theorem de.At.alg {a:de}{m:Mem}{p:Nat->Bool}(h:(a.hF p).At m){i:Nat}(M:i<D a.E)(b:Bool):(a.hF λj=>if j=i then b else p j).At (a1 m (228500+i) (a.gs.getD i 0) (fC ((a.gH i).sp b))):=by
 refine⟨h.can,h.fl,RA _ _,h.wm,?_,λj ai=>?_⟩
 ·have:=h.row;simp only[a1];rw[ah (show ¬ ((228023:Nat)=228500+i) by omega)];exact this
 ·rw[de.Sd a _ ai];simp only[a1]
  by_cases h5:j=i
  ·subst h5;rw[ad rfl,ad rfl]
   rfl
  ·rw[ah (show ¬ ((228500+j:Nat)=228500+i) by omega),ah h5];have:=h.df j ai;rw[de.Sd a _ ai] at this;exact this
theorem de.aAi {a:de}(h:(D a.P)=D a.E):a.hF (λj=>a.P.getD j false)=a:=by
 have:nK (D a.E) (λj=>a.P.getD j false)=a.P:=by
  refine MN (d:=false) (RA _ _) h λj ai=>?_;rw[ep,RB _ ai];rfl
 unfold de.hF;rw[this]
theorem de.IX (a:de){p q:Nat->Bool}(h:∀i,i<(D a.E)->p i=q i):a.hF p=a.hF q:=by
 unfold de.hF;rw[ax5 h]
def xR (n:Nat)(mem m:Mem):Prop:=∀k,(∀i,i<n->k≠228500+i)->m k=mem k
theorem xR.e6 {n i g:Nat}{cs:List R}{mem m:Mem}(h:xR n mem m)(M:i<n):xR n mem (a1 m (228500+i) g cs):=λk Q=>by
 simp only[a1];rw[ah (Q i M)];exact h k Q
theorem xR.no {n j:Nat}{mem m:Mem}(h:xR n mem m)(aK:n<=6)(ai:j≠228)(hm:r1 j mem):r1 j m:=λk Q=>by
 rw[h k λi M=>by omega]
 exact hm k Q
theorem aAj (T:bl)(hE:T pt=aW wh)(eP:T oU=aW uk){K:e3->bd->Prop}{kk:List gA}(eG:Mem)(a:de)(p:Nat->Bool)(r9:a.IE)(h:Nat->Rat)(kQ:∀i,i<(D a.E)->dv (h i))(tm:Nat->R)(m:Mem)
  (cj:(a.hF p).At m) (bV:xR (D a.E) eG m) (bC:tm 0=.ref 228023 a.g 1 0 (D a.E)) (bP:tm 6=.J (.Y ((dK (D a.E) h).map aE))) (dN:tm 8=.J (.bool false)) (oz:tm 28=.ref 228023 a.g 1 0 (D a.E)) (uT:tm 29=.J (.int .i64 (D a.E))) (hZ:tm 30=.J (.int .i64 0))
  (dQ:∀tm' m',tm' 0=.ref 228023 a.g 1 0 (D a.E)->tm' 6=.J (.Y ((dK (D a.E) h).map aE))->tm' 8=.J (.bool (y9 (aB a.E a.cs) (bO a.fl) h p (D a.E)))->(a.hF (ox (aB a.E a.cs) (bO a.fl) h p (D a.E))).At m'->xR (D a.E) eG m'->cK T K kk (.exit 4) ⟨tm',m'⟩) :
  wp T (Hl.body.sub [1,1,0,0,0,1,1,1,0,1,0]) (cK T K kk) ⟨tm,m⟩:=by
 simp only[Hl,eC.sub];obtain⟨U,gr⟩:=r9;have aK:=U.n5
 refine dw [0,6,28,29] [] (λ(i:Nat) tm m=>i<=D a.E/\tm 30=.J (.int .i64 i)/\tm 8=.J (.bool (y9 (aB a.E a.cs) (bO a.fl) h p i))/\(a.hF (ox (aB a.E a.cs) (bO a.fl) h p i)).At m/\xR (D a.E) eG m) (λi=>D a.E-i) 0 (by
  refine⟨by omega,hZ,dN,?_,bV⟩
  have:a.hF (ox (aB a.E a.cs) (bO a.fl) h p 0)=a.hF p:=a.IX λj _=>by
   unfold ox;rw[dn,fu,lW]
  rw[this];exact cj) ?_
 intro vs ms aT aS;simp only[go_sem,go_sem_proc,bC,bP,oz,uT] at aT aS;subst aT aS;clear bC bP dN oz uT hZ cj bV tm m;rintro i tm m Q-⟨M,hZ,dN,cj,bV⟩;simp only[go_sem,go_sem_proc,bf] at Q;obtain⟨bC,bP,oz,uT⟩:=Q;rcases dF (i<D a.E) with aA|b7
 ·have d1:decide ((i:Int)<(D a.E:Int))=true:=dp;have b5:=e9 (i:=i) (by omega);have r5:a.fl.getD i 10=(bO a.fl i:Int)/\bO a.fl i<=10:=de.MV (a:=a.hF (ox (aB a.E a.cs) (bO a.fl) h p i)) cj ⟨U,gr⟩ aA;obtain⟨r5,wu⟩:=r5;have fb:m 228023=some (a.g,bF (D a.E) λi => .ptr (228500+i) (a.gs.getD i 0) 0):=cj.row;have fa:m (228500+i)=some (a.gs.getD i 0,fC ((a.hF (ox (aB a.E a.cs) (bO a.fl) h p i)).gH i)):=cj.df i aA;rw[de.Sd a _ aA,ajS] at fa;have iq:=wv (iZ (λi=>R.ptr (228500+i) (a.gs.getD i 0) 0) aA);have b2:(bF (D a.E) λi=>R.ptr (228500+i) (a.gs.getD i 0) 0).length=D a.E:=gQ _ _;have cW:((a.gH i).sp (p i)).dt:=⟨(a.xM i).dk,(a.xM i).us⟩;have hlen:=CW cW;have mh:gu 1 (gL 22 (fC ((a.gH i).sp (p i))))=[b9 (bO a.fl i:Int)]:=(MM cW).trans (congrArg (λx=>[b9 x]) r5);have sa:gu 1 (gL 23 (fC ((a.gH i).sp (p i))))=[ln (p i)]:=aka cW;have te:=ML cW (k:=bO a.fl i) (z:=cT a.cs i (bO a.fl i:Nat)) (iZ _ (by omega));have eE:_=fC ((a.gH i).sp true):=akb cW true;have mU:=cj.alg aA true;have aS:=ax6 (aB a.E a.cs) (bO a.fl) h p i
  have x8:(p i=true\/wk (aB a.E a.cs) (bO a.fl) h i=false)->a.hF (ox (aB a.E a.cs) (bO a.fl) h p (i+1))=a.hF (ox (aB a.E a.cs) (bO a.fl) h p i):=λaR=>a.IX λj _=>by
   rw[ajT]
   by_cases ai:j=i
   ·subst ai;rw[ad rfl,ajS];rcases aR with F|F
    ·rw[F];rfl
    ·rw[F,lW]
   ·rw[ah ai]
  have eh:i+1<=D a.E:=by omega
  have aq:bO a.fl i<11:=by omega
  have b3:(11+bO a.fl i+1<=24)=True:=eq_true (by omega);have cw:(23+1<=24)=True:=eq_true (by omega);generalize IP:(bF (D a.E) λi=>R.ptr (228500+i) (a.gs.getD i 0) 0)=xN at *;have o7:228500+i=228500+i:=rfl;generalize uR:228500+i=ef at *;generalize M3:fC ((a.gH i).sp (p i))=DC at *;rcases d2:decide ((bO a.fl i:Int)<10)
  ·have ly:wk (aB a.E a.cs) (bO a.fl) h i=false:=by
    unfold wk;rw[mw (by have:=of_decide_eq_false d2;omega),fu]
   rw[ly,hP,lW] at aS;simp only[go_sem,go_sem_proc,bC,bP,dN,oz,uT,hZ,fb,fa,iq,b2,hlen,mh,d1,d2,b5,aA,eh,b9,ln,cI];repeat' (first|refine ax ?_ ?_|fail)<;>intro h<;>simp only[h,go_sem,go_sem_proc,bC,bP,dN,oz,uT,hZ,fb,fa,iq,b2,hlen,mh,d1,d2,b5,aA,eh,b9,ln,cI]
   exact⟨i+1,by omega,by omega,rfl,by rw[aS],by rw[x8 (.inr ly)];exact cj,bV⟩
  ·rcases zH:p i
   ·rw[zH] at sa;have ot:=U.upto i (bO a.fl i);have Fe:dC (cT a.cs i (bO a.fl i:Nat)):=o6 (by omega) (by omega);have hw:=CT _ Fe;have pw:=Ip (kQ i aA) (uM Fe);have iS:decide (mS (h i) ((cT a.cs i (bO a.fl i:Nat):Int):Rat)>0)=decide (((cT a.cs i (bO a.fl i:Nat):Int):Rat)<h i):=ajE
    have bE:wk (aB a.E a.cs) (bO a.fl) h i=decide (((cT a.cs i (bO a.fl i:Nat):Int):Rat)<h i):=by
     unfold wk;rw[uD U.right,kf (show bO a.fl i<10 by have:=of_decide_eq_true d2;omega),g3]
    rw[<-bE] at iS;have A2:=uJ h aA;generalize aa1:av (h i)=hO at *;generalize nA:av ((cT a.cs i (bO a.fl i:Nat):Int):Rat)=c6 at *;obtain⟨⟨di,eK⟩,⟨j7,mc⟩⟩:=c6;obtain⟨⟨c0,dj⟩,⟨a3,a4⟩⟩:=hO;simp only[aE] at hw pw;rcases ly:wk (aB a.E a.cs) (bO a.fl) h i
    ·rw[ly] at iS;rw[zH,ly,hP,lW] at aS;simp only[go_sem,go_sem_proc,hE,eP,bC,bP,dN,oz,uT,hZ,fb,fa,iq,b2,hlen,mh,sa,te,d1,d2,b5,aA,eh,aq,b3,hw,pw,iS,A2,aE,b9,ln,cI,dH,c5,aj,bn];repeat' (first|refine ax ?_ ?_|fail)<;>intro h<;>simp only[h,go_sem,go_sem_proc,hE,eP,bC,bP,dN,oz,uT,hZ,fb,fa,iq,b2,hlen,mh,sa,te,d1,d2,b5,aA,eh,aq,b3,hw,pw,iS,A2,aE,b9,ln,cI,dH,c5,aj,bn]
     exact⟨i+1,by omega,by omega,rfl,by rw[aS],by rw[x8 (.inr ly)];exact cj,bV⟩
    ·rw[ly] at iS;rw[zH,ly,dH,g3,vn] at aS
     have hN:a.hF (ox (aB a.E a.cs) (bO a.fl) h p (i+1))=a.hF λj=>if j=i then true else ox (aB a.E a.cs) (bO a.fl) h p i j:=a.IX λj _=>by
      rw[ajT,ly,vn]
     rw[<-hN] at mU;have q4:=bV.e6 (g:=a.gs.getD i 0) (cs:=fC ((a.gH i).sp true)) aA;rw[uR] at q4;simp only[go_sem,go_sem_proc,hE,eP,bC,bP,dN,oz,uT,hZ,fb,fa,iq,b2,hlen,mh,sa,te,eE,d1,d2,b5,aA,eh,aq,b3,cw,hw,pw,iS,A2,aE,b9,ln,cI,dH,c5,aj,bn];repeat' (first|refine ax ?_ ?_|fail)<;>intro h<;>simp only[h,go_sem,go_sem_proc,hE,eP,bC,bP,dN,oz,uT,hZ,fb,fa,iq,b2,hlen,mh,sa,te,eE,d1,d2,b5,aA,eh,aq,b3,cw,hw,pw,iS,A2,aE,b9,ln,cI,dH,c5,aj,bn]
     exact⟨i+1,by omega,by omega,rfl,by rw[aS],mU,q4⟩
   ·rw[zH] at sa;rw[zH,c5,fu,lW] at aS;simp only[go_sem,go_sem_proc,bC,bP,dN,oz,uT,hZ,fb,fa,iq,b2,hlen,mh,sa,d1,d2,b5,aA,eh,b9,ln,cI,c5];repeat' (first|refine ax ?_ ?_|fail)<;>intro h<;>simp only[h,go_sem,go_sem_proc,bC,bP,dN,oz,uT,hZ,fb,fa,iq,b2,hlen,mh,sa,d1,d2,b5,aA,eh,b9,ln,cI,c5]
    exact⟨i+1,by omega,by omega,rfl,by rw[aS],by rw[x8 (.inl zH)];exact cj,bV⟩
 ·have d1:decide ((i:Int)<(D a.E:Int))=false:=dn;obtain rfl:i=D a.E:=by omega
  simp only[go_sem,go_sem_proc,bC,bP,dN,oz,uT,hZ,d1];repeat' (first|refine ax ?_ ?_|fail)<;>intro h<;>simp only[h,go_sem,go_sem_proc,bC,bP,dN,oz,uT,hZ,d1]
  refine dQ _ _ ?_ ?_ ?_ cj bV<;>simp only[e7,ed,if_false,bC,bP,dN]
structure aa2 (a:de) (mem:Mem):Prop where
 at_:a.At mem
 iR:r1 248 mem
 jR:r1 255 mem
 wy:r1 256 mem
 IF:a.IE
 inv:∃g,Inv (aB a.E a.cs) (bO a.fl) g
def Se (a:de)(mem:Mem):R->Mem->Prop:=λm mem'=>m=.cM [.J (.Y ((dK (D a.E) ((aB a.E a.cs).top (bO a.fl))).map aE)),.J (.bool true)]/\∃p,(a.hF p).At mem'/\xR (D a.E) mem mem'
def M6:List R->Mem->Option (R->Mem->Prop):=xv (λ(a:de) args mem=>args=[.ref 228023 a.g 1 0 (D a.E)]/\aa2 a mem) Se
theorem aAk (a:de)(mem:Mem)(h:aa2 a mem):M6 [.ref 228023 a.g 1 0 (D a.E)] mem=some (Se a mem):=by
 refine ajH (a:=a) ?_ ⟨rfl,h⟩;rintro a b args mem ⟨az,aD⟩ ⟨bZ,dr⟩;rw[de.uniq aD.at_ dr.at_]
theorem aAl (T:bl)(aAm:T UI=y8 aaY)(hE:T pt=aW wh)(eP:T oU=aW uk)(a:de)(mem:Mem)(aN:aa2 a mem):
  wp T Hl.body (p4 Hl.res (Se a mem)) ⟨lv [.ref 228023 a.g 1 0 (D a.E)],mem⟩:=by
 obtain⟨alh,iR,jR,wy,r9,DD,hinv⟩:=aN;have U:=r9.q3;have aK:=U.n5;have aa:=U.ok;refine tw ?_;simp only[Hl];simp only[go_sem,go_sem_proc]
 refine dw [0,11,12] [] (λ(i:Nat) tm m=>i<=D a.E/\tm 13=.J (.int .i64 i)/\(a.hF λj=>if j<i then false else a.P.getD j false).At m/\xR (D a.E) mem m) (λi=>D a.E-i) 0 (by
  refine⟨by omega,rfl,?_,λ_ _=>rfl⟩
  have:(a.hF λj=>if j<0 then false else a.P.getD j false)=a:=(a.IX λj _=>by rw[ah (by omega)]).trans (de.aAi alh.pl);rw[this];exact alh) ?_
 intro vs ms aT aS;simp only[go_sem,go_sem_proc] at aT aS;subst aT aS;rintro i tm m Q-⟨M,h6,cj,bV⟩;simp only[go_sem,go_sem_proc,bf] at Q;obtain⟨bC,hs,er⟩:=Q;rcases dF (i<D a.E) with aA|b7
 ·have d1:decide ((i:Int)<(D a.E:Int))=true:=dp;have b5:=e9 (i:=i) (by omega);have fb:m 228023=some (a.g,bF (D a.E) λi => .ptr (228500+i) (a.gs.getD i 0) 0):=cj.row;have fa:m (228500+i)=some (a.gs.getD i 0,_):=cj.df i aA;rw[de.Sd a _ aA] at fa;have iq:=wv (iZ (λi=>R.ptr (228500+i) (a.gs.getD i 0) 0) aA);have b2:(bF (D a.E) λi=>R.ptr (228500+i) (a.gs.getD i 0) 0).length=D a.E:=gQ _ _;have cW:((a.gH i).sp (if i<i then false else a.P.getD i false)).dt:=⟨(a.xM i).dk,(a.xM i).us⟩;have hlen:=CW cW;have eE:_=fC ((a.gH i).sp false):=akb cW false;have mU:=cj.alg aA false;have q4:=bV.e6 (g:=a.gs.getD i 0) (cs:=fC ((a.gH i).sp false)) aA
  have hN:(a.hF λj=>if j<i+1 then false else a.P.getD j false)=a.hF λj=>if j=i then false else if j<i then false else a.P.getD j false:=a.IX λj _=>by
   by_cases F:j=i
   ·rw[ad F,ad (by omega)]
   ·rw[ah F]
    by_cases I:j<i
    ·rw[ad I,ad (by omega)]
    ·rw[ah I,ah (by omega)]
  rw[<-hN] at mU;have eh:i+1<=D a.E:=by omega
  have cw:(23+1<=24)=True:=eq_true (by omega);generalize IP:(bF (D a.E) λi=>R.ptr (228500+i) (a.gs.getD i 0) 0)=xN at *;generalize uR:228500+i=ef at *;generalize M3:fC ((a.gH i).sp (if i<i then false else a.P.getD i false))=DC at *;simp only[go_sem,go_sem_proc,bC,hs,er,h6,fb,fa,iq,b2,hlen,eE,d1,b5,aA,eh,cw,b9,ln,cI];repeat' (first|refine ax ?_ ?_|fail)<;>intro h<;>simp only[h,go_sem,go_sem_proc,bC,hs,er,h6,fb,fa,iq,b2,hlen,eE,d1,b5,aA,eh,cw,b9,ln,cI]
  exact⟨i+1,by omega,by omega,rfl,mU,q4⟩
 ·have d1:decide ((i:Int)<(D a.E:Int))=false:=dn;obtain rfl:i=D a.E:=by omega
  have hN:(a.hF λj=>if j<(D a.E) then false else a.P.getD j false)=a.hF λ_=>false:=a.IX λj ai=>by rw[ad ai]
  rw[hN] at cj;simp only[go_sem,go_sem_proc,bC,hs,er,h6,d1]
  refine dw [0] [] (λ(p:Nat->Bool) tm m=>(a.hF p).At m/\xR (D a.E) mem m/\tb (aB a.E a.cs) (bO a.fl) (fw (nK (D a.E) p))) (λp=>mW (D a.E) λi=>if p i then 0 else 1) (λ_=>false) (by
   refine⟨cj,bV,?_⟩;rw[ax8];exact⟨aa,DD,hinv,iD.first aa hinv⟩) ?_
  intro vs ms aT aS;simp only[go_sem,go_sem_proc,bC] at aT aS;subst aT aS;clear bC hs er h6 bV cj;rintro p tm m bC-⟨cj,bV,mZ⟩;simp only[go_sem,go_sem_proc,bf] at bC;have gD:=aAa (a.hF p) m ⟨cj,bV.no aK (by decide) iR,bV.no aK (by decide) jR,bV.no aK (by decide) wy,⟨r9.q3,r9.gr⟩,mZ⟩;have gw:R9 (a.hF p)=.cM [.Y ((dK (D a.E) ((aB a.E a.cs).ff (bO a.fl) (fw (nK (D a.E) p)))).map aE),.bool true]:=rfl;rw[gw,show (a.hF p).g=a.g from rfl,show (a.hF p).E=a.E from rfl] at gD;simp only[go_sem,go_sem_proc,aAm,bC,gD,c5];refine aAj T hE eP m a p r9 ((aB a.E a.cs).ff (bO a.fl) (fw (nK (D a.E) p))) (λi M=>hL (aje U mZ M) (by omega)) _ _ cj (λ_ _=>rfl) ?_ ?_ ?_ ?_ ?_ ?_ ?_
  all_goals first|(intro M7 cX fO iA hT zD q4)|(simp only[e7,ed,if_false,if_true,bC];done)
  obtain⟨cW,cF,rl,PB⟩:=mZ;rcases hm:y9 (aB a.E a.cs) (bO a.fl) ((aB a.E a.cs).ff (bO a.fl) (fw (nK (D a.E) p))) p (D a.E)
  ·rw[hm] at hT;have afF:=PB.aiZ aa rl λi M F I=>RC.2 ⟨M,aya hm M F I⟩;rw[Ig (N:=D a.E) afF] at iA;simp only[go_sem,go_sem_proc,fO,iA,hT,dH];repeat' (first|refine ax ?_ ?_|fail)<;>intro h<;>simp only[h,go_sem,go_sem_proc,fO,iA,hT,dH]
   exact⟨_,rfl,rfl,_,zD,λk Q=>(q4 k Q).trans (bV k Q)⟩
  ·rw[hm] at hT;simp only[go_sem,go_sem_proc,fO,iA,hT,c5];repeat' (first|refine ax ?_ ?_|fail)<;>intro h<;>simp only[h,go_sem,go_sem_proc,fO,iA,hT,c5]
   refine⟨_,ax9 hm,zD,λk Q=>(q4 k Q).trans (bV k Q),?_⟩;have rP:=ax7 (d:=aB a.E a.cs) (f:=bO a.fl) (h:=(aB a.E a.cs).ff (bO a.fl) (fw (nK (D a.E) p))) (p:=p);have jB:(aB a.E a.cs).n=D a.E:=rfl;rw[jB] at rP;rw[rP];exact⟨aa,cF,rl,PB.succ aa rl⟩
def hM (c:Int)(q:Nat->R)(us:Nat->Int)(f:Int)(p:Bool):List R:=b9 c::(bF 10 q++((bF 11 us).map b9++[b9 f,ln p]))
theorem Sf (c:Int)(q:Nat->R)(us:Nat->Int)(f:Int)(p:Bool):(hM c q us f p).length=24:=by
 simp[hM,gQ]
theorem aa3 {c:Int}{q:Nat->R}{us:Nat->Int}{f:Int}{p:Bool}{k:Nat}(Q:k<10):(hM c q us f p)[1+k]?=some (q k):=by
 unfold hM;rw[zp,zc,qv (by rw[gQ];exact Q)];exact iZ q Q
theorem aAn {c:Int}{q:Nat->R}{us:Nat->Int}{f:Int}{p:Bool}{k:Nat}(Q:k<10):gu 1 (gL (1+k) (hM c q us f p))=[q k]:=wv (aa3 Q)
theorem aAo {c:Int}{q:Nat->R}{us:Nat->Int}{f:Int}{p:Bool}{k:Nat}(Q:k<11):gu 1 (gL (11+k) (hM c q us f p))=[.J (.int .i64 (us k))]:=by
 refine wv ?_;unfold hM;rw[show 11+k=(10+k)+1 by omega,zc,rm (by rw[gQ];omega),gQ,qv (by rw[aj,gQ];omega),show 10+k-10=k by omega,bn,iZ us Q]
 rfl
theorem Sg {l:List R}{k:Nat}{v:R}(Q:k<D l):gu k l++[v]++gL (k+1) l=l.set k v:=by
 rw[akL,ad Q];simp
theorem aa4 {c:Int}{q:Nat->R}{us:Nat->Int}{f:Int}{p:Bool}{k:Nat}(Q:k<10)(v:R):(hM c q us f p).set (1+k) v=hM c (λj=>if j=k then v else q j) us f p:=by
 unfold hM;rw[zp,HJ,ali _ _ (by rw[gQ];exact Q),AU]
theorem aAp {c:Int}{q:Nat->R}{us:Nat->Int}{f:Int}{p:Bool}{k:Nat}(Q:k<11)(v:Int):(hM c q us f p).set (11+k) (.J (.int .i64 v))=hM c q (λj=>if j=k then v else us j) f p:=by
 unfold hM;rw[show 11+k=(10+k)+1 by omega,HJ,EH _ _ (by rw[gQ];omega),gQ,ali _ _ (by rw[aj,gQ];omega),show 10+k-10=k by omega,<-AU,vV]
 rfl
theorem A5 {c:Int}{q tZ:Nat->R}{us alj:Nat->Int}{f:Int}{p:Bool}(h:∀k,k<10->q k=tZ k)(cy:∀k,k<11->us k=alj k):hM c q us f p=hM c tZ alj f p:=by
 unfold hM;rw[kS h,kS cy]
theorem alk (T:bl){K:e3->bd->Prop}{kk:List gA}(lB:Mem)(ef Sh Si:Nat)(c:Int)(q:Nat->R)(us:Nat->Int)(aI c2:Int)(r:Nat)(am:Int)(ab:r<10)(ag:∀j,0<=us j/\us j<=4000000000000000000)(uC:0<=am/\am<=1000000000000000)(o7:ef≠228009)(v5 v25 v26 v27:R)(tm:Nat->R)(m:Mem)
  (cm:tm 5=v5) (ej:tm 9=.ptr 228009 Si 0) (dx:tm 10=.ptr ef Sh 0) (hs:tm 11=.J (.int .i64 (r+1:Nat))) (hi:tm 25=v25) (ib:tm 26=v26) (ic:tm 27=v27) (aAq:lB 228009=some (Si,[.J (.int .i64 aI),.J (.int .i64 c2),.J (.int .i64 r),.J (.int .i64 am)])) (IY:m ef=some (Sh,hM c q us 10 false)) (bV:∀k,k≠ef->m k=lB k)
  (dQ:∀tm' m',tm' 5=v5->tm' 25=v25->tm' 26=v26->tm' 27=v27->m' ef=some (Sh,hM c q (λj=>us j+if r<j then am else 0) 10 false)->(∀k,k≠ef->m' k=lB k)->cK T K kk (.exit 4) ⟨tm',m'⟩) :
  wp T (Cp.body.sub [1,1,1,0,1,0,0,1,1,0,0,1,1,1,1,0]) (cK T K kk) ⟨tm,m⟩:=by
 simp only[Cp,eC.sub]
 refine dw [5,9,10,25,26,27] [] (λ(k:Nat) tm m=>r<k/\k<=11/\tm 11=.J (.int .i64 k)/\m ef=some (Sh,hM c q (λj=>us j+if r<j/\j<k then am else 0) 10 false)/\∀k,k≠ef->m k=lB k) (λk=>11-k) (r+1) (by
  refine⟨by omega,by omega,hs,?_,bV⟩
  rw[IY]
  congr 2
  exact A5 (λ_ _=>rfl) λj _=>by rw[ah (by omega)];omega) ?_
 intro vs ms aT aS;simp only[go_sem,go_sem_proc,cm,ej,dx,hi,ib,ic] at aT aS;subst aT aS;clear cm ej dx hs hi ib ic IY bV tm m;rintro k tm m Q-⟨hY,aLM,hs,IY,bV⟩;simp only[go_sem,go_sem_proc,bf] at Q;obtain⟨cm,ej,dx,hi,ib,ic⟩:=Q;have aAr:=(bV 228009 (Ne.symm o7)).trans aAq;rcases dF (k<=10) with aA|b7
 ·have d1:decide ((k:Int)<=10)=true:=dp;have b5:=e9 (i:=k) (by omega);have hlen:=Sf c q (λj=>us j+if r<j/\j<k then am else 0) 10 false;have bc:=aAo (c:=c) (q:=q) (us:=λj=>us j+if r<j/\j<k then am else 0) (f:=10) (p:=false) (k:=k) (by omega);have dE:=(Sg (l:=hM c q (λj=>us j+if r<j/\j<k then am else 0) 10 false) (k:=11+k) (v:=.J (.int .i64 (us k+am))) (by rw[Sf];omega)).trans (aAp (by omega) (us k+am))
  have hN:hM c q (λj=>if j=k then us k+am else us j+if r<j/\j<k then am else 0) 10 false=hM c q (λj=>us j+if r<j/\j<k+1 then am else 0) 10 false:=A5 (λ_ _=>rfl) λj _=>by
   by_cases ai:j=k
   ·rw[ad ai,ai,ad ⟨hY,by omega⟩]
   ·rw[ah ai]
    by_cases I:r<j/\j<k
    ·rw[ad I,ad ⟨I.1,by omega⟩]
    ·rw[ah I,ah (by omega)]
  rw[hN] at dE;rw[ah (by omega),xd] at bc;have M0:IntKind.i64.wrap (us k+am)=us k+am:=by have:=ag k;rw[fc _]
  have aq:k<11:=by omega
  have b3:(11+k+1<=24)=True:=eq_true (by omega);have E8:(ef==228009)=false:=beq_eq_false_iff_ne.2 o7;have Sj:(228009==ef)=false:=beq_eq_false_iff_ne.2 (Ne.symm o7);generalize hM c q (λj=>us j+if r<j/\j<k then am else 0) 10 false=D1 at *;generalize HT:hM c q (λj=>us j+if r<j/\j<k+1 then am else 0) 10 false=D2 at *;refine aZ ?_;repeat' (intro h<;>simp only[h,go_sem,go_sem_proc,cm,ej,dx,hs,hi,ib,ic,aAr,IY,d1,b5,hlen,bc,dE,M0,aq,b3,E8,Sj,cI]<;>try refine ax ?_ ?_)
  refine⟨k+1,by omega,by omega,by omega,rfl,by rw[HT],λj ai=>?_⟩
  simp only[a1,ai,if_false];exact bV j ai
 ·have d1:decide ((k:Int)<=10)=false:=dn;obtain rfl:k=11:=by omega
  have hN:hM c q (λj=>us j+if r<j/\j<11 then am else 0) 10 false=hM c q (λj=>us j+if r<j then am else 0) 10 false:=A5 (λ_ _=>rfl) λj ai=>by
   by_cases I:r<j
   ·rw[ad ⟨I,ai⟩,ad I]
   ·rw[ah (by omega),ah I]
  rw[hN] at IY;refine aZ ?_;repeat' (intro h<;>simp only[h,go_sem,go_sem_proc,cm,ej,dx,hs,hi,ib,ic,d1]<;>try refine ax ?_ ?_)
  refine dQ _ _ ?_ ?_ ?_ ?_ IY bV<;>simp only[e7,ed,if_false,cm,hi,ib,ic]
def oC (l:List au)(e5:Nat->Nat->Nat)(i k:Nat):R:=if dh l i k=[] then .nil else .ref (228600+10*i+k) (e5 i k) 4 0 (dh l i k).length
structure zd (E:List Int) (l:List au) (g:Nat) (gs:Nat->Nat) (e5:Nat->Nat->Nat) (m:Mem):Prop where
 row:m 228023=some (g,bF (D E) λi => .ptr (228500+i) (gs i) 0)
 df:∀i,i<(D E)->m (228500+i)=some (gs i,hM (E.getD i 0) (oC l e5 i) (λk=>cT l i (k:Nat)) 10 false)
 Ff:∀i k,i<(D E)->k<10->dh l i k≠[]->m (228600+10*i+k)=some (e5 i k,a7 ck (dh l i k))
theorem aAs (l:List au)(c:au)(i k:Nat):dh (l++[c]) i k=if c.1=(i:Int)/\c.2.2.1=(k:Int) then dh l i k++[c] else dh l i k:=by
 unfold dh;rw[pG]
 by_cases h:c.1=(i:Int)/\c.2.2.1=(k:Int)
 ·rw[ad h,uL (by simp[h.1,h.2]),qg]
 ·rw[ah h,wi (by simpa using h),qg,fE]
theorem M8 (l:List au)(aI c2 c3 c4:Int)(i k:Nat):dh (l++[(aI,c2,c3,c4)]) i k=if aI=(i:Int)/\c3=(k:Int) then dh l i k++[(aI,c2,c3,c4)] else dh l i k:=aAs l _ i k
theorem aAt (l:List au)(c:au)(i r:Int):cT (l++[c]) i r=cT l i r+if c.1=i/\c.2.2.1<r then c.2.2.2 else 0:=by
 unfold cT;rw[R1]
theorem alm (l:List au)(aI c2 c3 c4 i r:Int):cT (l++[(aI,c2,c3,c4)]) i r=cT l i r+if aI=i/\c3<r then c4 else 0:=aAt l _ i r
theorem zd.next {E:List Int}{l:List au}{g:Nat}{gs:Nat->Nat}{e5:Nat->Nat->Nat}{m m':Mem}(h:zd E l g gs e5 m)(aK:(D E)<=6){aI c3:Nat}{c2 c4:Int}(fH:aI<D E)(pZ:c3<10)(q5:Nat)
  (fb:m' 228023=m 228023) (aAu:∀i,i<(D E)->i≠aI->m' (228500+i)=m (228500+i)) (fa:m' (228500+aI)=some (gs aI,hM (E.getD aI 0) (λk=>if k=c3 then .ref (228600+10*aI+c3) q5 4 0 ((dh l aI c3).length+1) else oC l e5 aI k) (λk=>cT l aI (k:Nat)+if c3<k then c4 else 0) 10 false))
  (Sk:m' (228600+10*aI+c3)=some (q5,a7 ck (dh l aI c3++[((aI:Int),c2,(c3:Int),c4)]))) (aAv:∀i k,i<(D E)->k<10->¬ (i=aI/\k=c3)->m' (228600+10*i+k)=m (228600+10*i+k)):zd E (l++[((aI:Int),c2,(c3:Int),c4)]) g gs (λi k=>if i=aI/\k=c3 then q5 else e5 i k) m':=by
 refine⟨by rw[fb];exact h.row,λi M=>?_,λi k M Q bE=>?_⟩
 ·by_cases C0:i=aI
  ·subst C0;rw[fa]
   congr 2
   refine A5 (λk Q=>?_) λk Q=>?_
   ·unfold oC
    by_cases Ct:k=c3
    ·subst Ct;have az:dh (l++[((i:Int),c2,(k:Int),c4)]) i k=dh l i k++[((i:Int),c2,(k:Int),c4)]:=by rw[M8,ad ⟨rfl,rfl⟩]
     rw[az,ad rfl,ah (by simp),fr];simp
    ·have az:dh (l++[((i:Int),c2,(c3:Int),c4)]) i k=dh l i k:=by rw[M8,ah (by omega)]
     rw[ah Ct,az];dsimp only;rw[ah (show ¬ (i=i/\k=c3) by omega)]
   ·rw[alm]
    by_cases gz:c3<k
    ·rw[ad gz,ad (by omega)]
    ·rw[ah gz,ah (by omega)]
  ·rw[aAu i M C0,h.df i M]
   congr 2
   refine A5 (λk Q=>?_) λk Q=>?_
   ·unfold oC;have az:dh (l++[((aI:Int),c2,(c3:Int),c4)]) i k=dh l i k:=by rw[M8,ah (by omega)]
    rw[az];dsimp only;rw[ah (show ¬ (i=aI/\k=c3) by omega)]
   ·rw[alm,ah (by omega),xd]
 ·by_cases C0:i=aI/\k=c3
  ·obtain⟨rfl,rfl⟩:=C0;have az:dh (l++[((i:Int),c2,(k:Int),c4)]) i k=dh l i k++[((i:Int),c2,(k:Int),c4)]:=by rw[M8,ad ⟨rfl,rfl⟩]
   rw[az,ad ⟨rfl,rfl⟩];exact Sk
  ·have az:dh (l++[((aI:Int),c2,(c3:Int),c4)]) i k=dh l i k:=by rw[M8,ah (by omega)]
   rw[az] at bE ⊢;rw[ah C0,aAv i k M Q C0];exact h.Ff i k M Q bE
theorem aa5 {K:bd->Prop}{tm:Nat->R}{mem mem':Mem}(h:ss mem mem')(dQ:∀bk,bk=mem'->K ⟨tm,bk⟩):kD K ⟨tm,mem⟩ .many:=⟨mem',.step h (.refl _),dQ _ rfl⟩
theorem aa6 {K:bd->Prop}{tm:Nat->R}{mem:Mem}(dQ:∀bk,bk=mem->K ⟨tm,bk⟩):kD K ⟨tm,mem⟩ .many:=⟨mem,.refl _,dQ _ rfl⟩
theorem iN {m:Mem}{k g:Nat}{cs:List R}:a1 m k g cs k=some (g,cs):=by simp[a1]
theorem du {m:Mem}{k j g:Nat}{cs:List R}(h:k≠j):a1 m j g cs k=m k:=by
 simp only[a1];rw[ah h]
theorem aAw (T:bl){K:e3->bd->Prop}{kk:List gA}(eG:Mem)(E:List Int)(cs:List au)(U:fo E cs)(g:Nat)(gs:Nat->Nat)(e5:Nat->Nat->Nat)(tm:Nat->R)(m:Mem)
  (cm:tm 5=.ref 228023 g 1 0 (D E)) (hi:tm 25=.J (.Y (cs.map ck))) (ib:tm 26=.J (.int .i64 (D cs))) (ic:tm 27=.J (.int .i64 0)) (cj:zd E [] g gs e5 m) (bV:et 228 eG m)
  (dQ:∀tm' m' aAx,tm' 5=.ref 228023 g 1 0 (D E)->zd E cs g gs aAx m'->et 228 eG m'->cK T K kk (.exit 2) ⟨tm',m'⟩) :
  wp T (Cp.body.sub [1,1,1,0,1,0]) (cK T K kk) ⟨tm,m⟩:=by
 simp only[Cp,eC.sub];have aK:=U.n5;have ab:=(hD.1 U.right).2.2.2;have iV:=U.rZ;refine dw [5,25,26] [] (λ((t,e5):Nat×(Nat->Nat->Nat)) tm m=>t<=D cs/\tm 27=.J (.int .i64 t)/\zd E (cs.take t) g gs e5 m/\et 228 eG m) (λ(t,_)=>D cs-t) (0,e5) (by refine⟨by omega,ic,by rw[nu];exact cj,bV⟩) ?_;intro vs ms aT aS;simp only[go_sem,go_sem_proc,cm,hi,ib] at aT aS;subst aT aS;clear cm hi ib ic cj bV tm m;rintro⟨t,e5⟩ tm m Q-⟨bD,ic,cj,bV⟩;simp only[go_sem,go_sem_proc,bf] at Q;obtain⟨cm,hi,ib⟩:=Q;rcases dF (t<D cs) with aA|b7
 ·have d1:decide ((t:Int)<(D cs:Int))=true:=dp;have b5:=e9 (i:=t) (by omega);obtain⟨⟨aI,c2,c3,c4⟩,O⟩:∃c,cs[t]?=some c:=⟨_,bz aA⟩;have lR:=ab _ (ei O);dsimp only at lR;obtain⟨aI,rfl⟩:∃k:Nat,aI=(k:Int):=⟨aI.toNat,by omega⟩
  obtain⟨c3,rfl⟩:∃k:Nat,c3=(k:Int):=⟨c3.toNat,by omega⟩
  have gM:cs.take (t+1)=cs.take t++[((aI:Int),c2,(c3:Int),c4)]:=by rw[hc,O];rfl
  generalize ar:cs.take t=l at *;have M9:(D l)<=12:=by rw[<-ar,fI];omega
  have fH:aI<D E:=by omega
  have pZ:c3<10:=by omega
  have fb:=cj.row;have fa:=cj.df aI fH;have iq:=wv (iZ (λi=>R.ptr (228500+i) (gs i) 0) fH);have b2:(bF (D E) λi=>R.ptr (228500+i) (gs i) 0).length=D E:=gQ _ _;have hlen:=Sf (E.getD aI 0) (oC l e5 aI) (λk=>cT l aI (k:Nat)) 10 false;have CZ:=aAn (c:=E.getD aI 0) (q:=oC l e5 aI) (us:=λk=>cT l aI (k:Nat)) (f:=10) (p:=false) pZ;have eE:=λv=>(Sg (l:=hM (E.getD aI 0) (oC l e5 aI) (λk=>cT l aI (k:Nat)) 10 false) (k:=1+c3) (v:=v) (by rw[Sf];omega)).trans (aa4 pZ v);have eh:aI+1<=D E:=by omega
  have b3:(1+c3+1<=24)=True:=eq_true (by omega);have w1:=e9 (i:=c3) (by omega);generalize IP:(bF (D E) λi=>R.ptr (228500+i) (gs i) 0)=xN at *;generalize M3:hM (E.getD aI 0) (oC l e5 aI) (λk=>cT l aI (k:Nat)) 10 false=DC at *;generalize uR:228500+aI=ef at *;have n9:(ef=228009)=False:=eq_false (by omega);have aln:(ef=228048)=False:=eq_false (by omega);have E8:(ef==228009)=false:=beq_eq_false_iff_ne.2 (by omega);have Sj:(228009==ef)=false:=beq_eq_false_iff_ne.2 (by omega);have alo:(ef==228048)=false:=beq_eq_false_iff_ne.2 (by omega);have alp:(228048==ef)=false:=beq_eq_false_iff_ne.2 (by omega);have mD:(1<=maxLen)=True:=eq_true (by decide);have aLN:=λj=>(ajh U.right).upto aI j
  have Em:∀j:Nat,0<=cT l aI (j:Nat)/\cT l aI (j:Nat)<=4000000000000000000:=λj=>by
   have:=(ajh U.right).sum (λc=>c.1=(aI:Int)/\c.2.2.1<(j:Int)) t;rw[ar] at this;unfold cT;omega
  generalize Sl:228600+10*aI+c3=ky at *;have c0:(228009=ef)=False:=eq_false (by omega);have dj:(228009=ky)=False:=eq_false (by omega);have a3:(228048=ky)=False:=eq_false (by omega);have a4:(228048=ef)=False:=eq_false (by omega);have a5:(ky=ef)=False:=eq_false (by omega);have tc:(ef=ky)=False:=eq_false (by omega);have ajL:(ky=228009)=False:=eq_false (by omega);have ka:(ky=228048)=False:=eq_false (by omega);have a9:(228009=228048)=False:=eq_false (by omega)
  have tail:∀(tm':Nat->R) (M2:Mem) (q5 Si:Nat),tm' 5=.ref 228023 g 1 0 (D E)->tm' 25=.J (.Y (cs.map ck))->tm' 26=.J (.int .i64 (D cs))->tm' 27=.J (.int .i64 t)->M2 ef=some (gs aI,hM (E.getD aI 0) (λk=>if k=c3 then .ref ky q5 4 0 ((dh l aI c3).length+1) else oC l e5 aI k) (λk=>cT l aI (k:Nat)  + if c3<k then c4 else 0) 10 false)->M2 ky=some (q5,a7 ck (dh l aI c3++[((aI:Int),c2,(c3:Int),c4)]))->(∀k:Nat,k≠228009->k≠228048->k≠ef->k≠ky->M2 k=m k)->zd E (cs.take (t+1)) g gs (λi k=>if i=aI/\k=c3 then q5 else e5 i k) M2/\et 228 eG M2:=by
   intro tm' M2 q5 Si pE IZ I0 I1 Fg Na nQ;rw[gM];refine⟨zd.next cj aK fH pZ q5 ?_ (λi M bE=>?_) ?_ ?_ λi k M Q bE=>?_,λk Q=>?_⟩
   ·exact nQ 228023 (by omega) (by omega) (by omega) (by omega)
   ·exact nQ (228500+i) (by omega) (by omega) (by omega) (by omega)
   ·rw[uR,Sl];exact Fg
   ·rw[Sl];exact Na
   ·exact nQ (228600+10*i+k) (by omega) (by omega) (by omega) (by omega)
   ·rw[nQ k (by omega) (by omega) (by omega) (by omega)];exact bV k Q
  by_cases hJ:dh l aI c3=[]
  ·have gV:oC l e5 aI c3=.nil:=by unfold oC;rw[ad hJ]
   rw[gV] at CZ;simp only[go_sem,go_sem_proc,mD,cm,hi,ib,ic,O,fb,fa,iq,b2,hlen,CZ,eE,d1,eh,b3,fH,pZ,n9,aln,E8,Sj,alo,alp,ck,cI,aj,bn];refine aa5 (ss.N6 ef (gs aI) _ (1+c3) 228048 (gB (m 228048)) 4 0 1 _ ky iN (aa3 pZ |>.trans (by rw[ad rfl])) ((du (by omega)).trans iN) (by show (228048:Nat)≠ef;omega) (by show ky≠(228048:Nat);omega) (by show ky≠ef;omega)) ?_;intro M2 g5;rw[aa4 pZ] at g5
   have Nb:M2 228009=some (gB (m 228009),[.J (.int .i64 aI),.J (.int .i64 c2),.J (.int .i64 c3),.J (.int .i64 c4)]):=by
    rw[g5];simp only[Bu,c0,dj,a9,if_false,if_true]
   have Fg:∃q5,M2 ef=some (gs aI,hM (E.getD aI 0) (λk=>if k=c3 then .ref ky q5 4 0 ((dh l aI c3).length+1) else oC l e5 aI k) (λk=>cT l aI (k:Nat)) 10 false)/\M2 ky=some (q5,a7 ck (dh l aI c3++[((aI:Int),c2,(c3:Int),c4)])):=by
    rw[hJ];apply Exists.intro;apply And.intro
    rotate_left
    ·rw[g5];simp only[Bu,a5,if_false,if_true];rfl
    ·rw[g5];simp only[Bu,if_true]
     congr 2
     refine A5 (λk _=>?_) λ_ _=>rfl
     by_cases Q:k=c3
     ·rw[ad Q,ad Q];rfl
     ·rw[ah Q,ah Q,ah Q]
   obtain⟨q5,Fg,Na⟩:=Fg
   have nQ:∀k:Nat,k≠228009->k≠228048->k≠ef->k≠ky->M2 k=m k:=λk F I af aO=>by
    rw[g5];simp only[Bu,F,I,af,aO,if_false]
   clear g5;simp only[go_sem,go_sem_proc,Nb,w1,c0];refine alk T M2 ef (gs aI) (gB (m 228009)) (E.getD aI 0) (λk=>if k=c3 then .ref ky q5 4 0 ((dh l aI c3).length+1) else oC l e5 aI k) (λk=>cT l aI (k:Nat)) aI c2 c3 c4 pZ Em (by omega) (by omega) (.ref 228023 g 1 0 (D E)) (.J (.Y (cs.map ck))) (.J (.int .i64 (D cs))) (.J (.int .i64 t)) _ _ ?_ ?_ ?_ ?_ ?_ ?_ ?_ Nb Fg (λ_ _=>rfl) ?_
   all_goals first|(intro tm' m' pE IZ I0 I1 aa7 Nc)|(simp only[e7,ed,if_false,if_true,cm,hi,ib,ic];done)
   have iE:=tail tm' m' q5 0 pE IZ I0 I1 aa7 (by rw[Nc ky (by omega)];exact Na) λk F I af aO=>by rw[Nc k af];exact nQ k F I af aO
   refine aZ ?_;repeat' (intro h<;>simp only[h,go_sem,go_sem_proc,pE,IZ,I0,I1,b5]<;>try refine ax ?_ ?_)
   exact⟨(t+1,λi k=>if i=aI/\k=c3 then q5 else e5 i k),by dsimp only;omega,by dsimp only;omega,rfl,iE.1,iE.2⟩
  ·have gV:oC l e5 aI c3=.ref ky (e5 aI c3) 4 0 (dh l aI c3).length:=by unfold oC;rw[ah hJ,Sl]
   rw[gV] at CZ;have Sk:=cj.Ff aI c3 fH pZ hJ;rw[Sl] at Sk;have eL:(dh l aI c3).length<=12:=eU (mY _ _) M9;have dg:=k6 EZ ZZ ky (e5 aI c3) 32 (dh l aI c3) ((aI:Int),c2,(c3:Int),c4) (cs:=[.J (.int .i64 aI),.J (.int .i64 c2),.J (.int .i64 c3),.J (.int .i64 c4)]) rfl (by omega) (by omega);have ajN:(ky==228009)=false:=beq_eq_false_iff_ne.2 (by omega);have aAy:(228009==ky)=false:=beq_eq_false_iff_ne.2 (by omega);have aAz:(ky==ef)=false:=beq_eq_false_iff_ne.2 (by omega);have aAA:(ef==ky)=false:=beq_eq_false_iff_ne.2 (by omega);simp only[go_sem,go_sem_proc,mD,cm,hi,ib,ic,O,fb,fa,iq,b2,hlen,CZ,eE,d1,eh,b3,fH,pZ,n9,aln,E8,Sj,alo,alp,a3,a5,tc,ajL,ka,ajN,aAy,aAz,aAA,Sk,dg,ck,cI,aj,bn];refine aa6 ?_;intro M2 g5
   have Nb:M2 228009=some (gB (m 228009),[.J (.int .i64 aI),.J (.int .i64 c2),.J (.int .i64 c3),.J (.int .i64 c4)]):=by
    rw[g5];simp only[Bu,c0,dj,a9,if_false,if_true]
   have Fg:M2 ef=some (gs aI,hM (E.getD aI 0) (λk=>if k=c3 then .ref ky (e5 aI c3+1) 4 0 ((dh l aI c3).length+1) else oC l e5 aI k) (λk=>cT l aI (k:Nat)) 10 false):=by
    rw[g5];simp only[Bu,if_true]
   have Na:M2 ky=some (e5 aI c3+1,a7 ck (dh l aI c3++[((aI:Int),c2,(c3:Int),c4)])):=by
    rw[g5];simp only[Bu,a5,if_false,if_true]
   have nQ:∀k:Nat,k≠228009->k≠228048->k≠ef->k≠ky->M2 k=m k:=λk F I af aO=>by
    rw[g5];simp only[Bu,F,af,aO,if_false]
   clear g5;simp only[go_sem,go_sem_proc,Nb,w1,c0];refine alk T M2 ef (gs aI) (gB (m 228009)) (E.getD aI 0) (λk=>if k=c3 then .ref ky (e5 aI c3+1) 4 0 ((dh l aI c3).length+1) else oC l e5 aI k) (λk=>cT l aI (k:Nat)) aI c2 c3 c4 pZ Em (by omega) (by omega) (.ref 228023 g 1 0 (D E)) (.J (.Y (cs.map ck))) (.J (.int .i64 (D cs))) (.J (.int .i64 t)) _ _ ?_ ?_ ?_ ?_ ?_ ?_ ?_ Nb Fg (λ_ _=>rfl) ?_
   all_goals first|(intro tm' m' pE IZ I0 I1 aa7 Nc)|(simp only[e7,ed,if_false,if_true,cm,hi,ib,ic];done)
   have iE:=tail tm' m' (e5 aI c3+1) 0 pE IZ I0 I1 aa7 (by rw[Nc ky (by omega)];exact Na) λk F I af aO=>by rw[Nc k af];exact nQ k F I af aO
   refine aZ ?_;repeat' (intro h<;>simp only[h,go_sem,go_sem_proc,pE,IZ,I0,I1,b5]<;>try refine ax ?_ ?_)
   exact⟨(t+1,λi k=>if i=aI/\k=c3 then e5 aI c3+1 else e5 i k),by dsimp only;omega,by dsimp only;omega,rfl,iE.1,iE.2⟩
 ·have d1:decide ((t:Int)<(D cs:Int))=false:=dn;rw[dB (by omega)] at cj;refine aZ ?_;repeat' (intro h<;>simp only[h,go_sem,go_sem_proc,cm,hi,ib,ic,d1]<;>try refine ax ?_ ?_)
  refine dQ _ _ e5 ?_ cj bV;simp only[e7,ed,if_false,cm]
theorem tn.trans {a b c:Mem}(h:tn a b)(cy:tn b c):tn a c:=by
 induction h with
 |refl=>exact cy
 |step F _ ay=>exact .step F (ay cy)
theorem alq {K:bd->Prop}{tm:Nat->R}{mem mem':Mem}(h:tn mem mem')(dQ:K ⟨tm,mem'⟩):kD K ⟨tm,mem⟩ .many:=⟨mem',h,dQ⟩
def wA (l:List au)(e5:Nat->Nat->Nat)(d i k:Nat):R:=if 10*i+k<d then j9 (dh l i k) else oC l e5 i k
structure xS (E:List Int) (l:List au) (g:Nat) (gs:Nat->Nat) (e5:Nat->Nat->Nat) (d:Nat) (m:Mem):Prop where
 row:m 228023=some (g,bF (D E) λi => .ptr (228500+i) (gs i) 0)
 df:∀i,i<(D E)->m (228500+i)=some (gs i,hM (E.getD i 0) (wA l e5 d i) (λk=>cT l i (k:Nat)) 10 false)
 Ff:∀i k,i<(D E)->k<10->d<=10*i+k->dh l i k≠[]->m (228600+10*i+k)=some (e5 i k,a7 ck (dh l i k))
theorem xS.step {E:List Int}{l:List au}{g:Nat}{gs:Nat->Nat}{e5:Nat->Nat->Nat}{d:Nat}{m:Mem}(h:xS E l g gs e5 d m)(aK:(D E)<=6)(aa:d<10*D E):∃m',tn m m'/\xS E l g gs e5 (d+1) m'/\et 228 m m':=by
 obtain⟨i,k,M,Q,rfl⟩:∃i k,i<D E/\k<10/\d=10*i+k:=⟨d/10,d%10,by omega,by omega,by omega⟩
 have aa8:∀j r,j<(D E)->r<10->¬ (j=i/\r=k)->wA l e5 (10*i+k+1) j r=wA l e5 (10*i+k) j r:=λj r ai ab bE=>by
  unfold wA
  by_cases F:10*j+r<10*i+k
  ·rw[ad F,ad (by omega)]
  ·rw[ah F,ah (by omega)]
 by_cases H:dh l i k=[]
 ·refine⟨m,.refl m,⟨h.row,λj ai=>?_,λj r ai ab aa bE=>h.Ff j r ai ab (by omega) bE⟩,et.refl _ _⟩;rw[h.df j ai]
  congr 2
  refine A5 (λr ab=>?_) λ_ _=>rfl
  by_cases Ms:j=i/\r=k
  ·obtain⟨rfl,rfl⟩:=Ms;unfold wA;rw[ah (by omega),ad (by omega)];unfold oC j9;rw[ad H,ad H]
  ·exact (aa8 j r ai ab Ms).symm
 ·have ag:=h.df i M;have eL:=h.Ff i k M Q (b1 _) H
  have V5:wA l e5 (10*i+k) i k=.ref (228600+10*i+k) (e5 i k) 4 0 (dh l i k).length:=by
   unfold wA;rw[ah (by omega)];unfold oC;rw[ah H]
  have iG:=aa3 (c:=E.getD i 0) (q:=wA l e5 (10*i+k) i) (us:=λk=>cT l i (k:Nat)) (f:=10) (p:=false) Q;rw[V5] at iG;have vF:cl 1 m (.ref (228600+10*i+k) (e5 i k) 4 0 (dh l i k).length)=some (.Y ((dh l i k).map ck)):=oa (n:=0) EZ eL;refine⟨_,.step (ss.N7 (228500+i) (gs i) _ (1+k) (228600+10*i+k) (e5 i k) 4 0 (dh l i k).length _ (.Y ((dh l i k).map ck)) ag iG eL (by show (228600+10*i+k:Nat)≠228500+i;omega) vF) (.refl _),⟨?_,λj ai=>?_,λj r ai ab aa bE=>?_⟩,λx O=>?_⟩
  ·rw[du (by show (228023:Nat)≠228500+i;omega)];unfold kill;rw[du (by show (228023:Nat)≠228600+10*i+k;omega)];exact h.row
  ·by_cases h5:j=i
   ·subst h5;rw[iN,aa4 Q]
    congr 2
    refine A5 (λr ab=>?_) λ_ _=>rfl
    by_cases hY:r=k
    ·subst hY;rw[ad rfl];unfold wA;rw[ad (by omega)];unfold j9;rw[ah H]
    ·rw[ah hY];exact (aa8 j r ai ab (by omega)).symm
   ·rw[du (by show (228500+j:Nat)≠228500+i;omega)];unfold kill;rw[du (by show (228500+j:Nat)≠228600+10*i+k;omega),h.df j ai]
    congr 2
    refine A5 (λr ab=>(aa8 j r ai ab (by omega)).symm) λ_ _=>rfl
  ·rw[du (by show (228600+10*j+r:Nat)≠228500+i;omega)];unfold kill;rw[du (by show (228600+10*j+r:Nat)≠228600+10*i+k;omega)];exact h.Ff j r ai ab (by omega) bE
  ·have vk:x/1000≠228:=O;rw[du (by show x≠228500+i;omega)];unfold kill;rw[du (by show x≠228600+10*i+k;omega)]
theorem xS.all {E:List Int}{l:List au}{g:Nat}{gs:Nat->Nat}{e5:Nat->Nat->Nat}(aK:(D E)<=6):∀r d m,d+r=10*(D E)->xS E l g gs e5 d m->∃m',tn m m'/\xS E l g gs e5 (10*D E) m'/\et 228 m m'
 |0,d,m,aa,h=>⟨m,.refl m,by rw[<-aa];exact h,et.refl _ _⟩
 |r+1,d,m,aa,h=>by
  obtain⟨dA,F,I,af⟩:=h.step aK (by omega);obtain⟨cX,cv,cS,eF⟩:=xS.all aK r (d+1) dA (by omega) I;exact⟨cX,F.trans cv,cS,λx O=>(eF x O).trans (af x O)⟩
theorem zd.aAB {E:List Int}{l:List au}{g:Nat}{gs:Nat->Nat}{e5:Nat->Nat->Nat}{m:Mem}(h:zd E l g gs e5 m):xS E l g gs e5 0 m :=
 ⟨h.row,λi M=>by
  rw[h.df i M]
  congr 2,λi k M Q _ bE=>h.Ff i k M Q bE⟩
def ze (E:List Int)(cs:List au)(g:Nat)(gs:Nat->Nat):de:=⟨E,dz (D E) cs,bF (D E) λ_=>10,nK (D E) λ_=>false,g,bF (D E) gs⟩
theorem aAC {E:List Int}{cs:List au}(h:fo E cs)(i r:Nat):cT (dz (D E) cs) i r=cT cs i r:=by
 have F:=uD h.right i r;have I:=uD (Z2 h).right i r;rw[<-(ajq h.right).bG,<-F] at I;exact_mod_cast I
theorem A6 {α:Type}{n i:Nat}(q:Nat->α)(d:α)(h:i<n):(bF n q).getD i d=q i:=by
 rw[ep,iZ q h];rfl
theorem xS.at {E:List Int}{cs:List au}(U:fo E cs){g:Nat}{gs:Nat->Nat}{e5:Nat->Nat->Nat}{m:Mem}(h:xS E cs g gs e5 (10*D E) m):(ze E cs g gs).At m:=by
 refine⟨(axI _ _).symm,gQ _ _,RA _ _,gQ _ _,?_,λi M=>?_⟩
 ·refine h.row.trans ?_
  congr 2
  exact kS λi M=>by
   show R.ptr (228500+i) (gs i) 0=R.ptr (228500+i) ((bF (D E) gs).getD i 0) 0;rw[A6 gs 0 M]
 ·have kj:i<D E:=M;refine (h.df i kj).trans ?_;have az:(ze E cs g gs).gs.getD i 0=gs i:=A6 gs 0 kj;rw[az]
  congr 2
  have aD:(bF (D E) λ_=>(10:Int)).getD i 10=10:=A6 _ _ kj;have bZ:(nK (D E) λ_=>false).getD i false=false:=by rw[ep,RB _ kj];rfl
  have dr:fC ((ze E cs g gs).gH i)=b9 (E.getD i 0)::((bF 10 λk=>dh (dz (D E) cs) i k).map j9++((bF 11 λk=>cT (dz (D E) cs) i (k:Nat)).map b9++[b9 ((bF (D E) λ_=>(10:Int)).getD i 10),ln ((nK (D E) λ_=>false).getD i false)])):=rfl;rw[dr,aD,bZ];unfold hM
  have cm:(bF 10 λk=>dh (dz (D E) cs) i k).map j9=bF 10 (wA cs e5 (10*D E) i):=by
   unfold bF;rw[m6];refine mI λk Q=>?_;have L3:=gX.1 Q;show j9 (dh (dz (D E) cs) i k)=wA cs e5 (10*D E) i k;rw[ajm cs kj L3];unfold wA;rw[ad (by omega)]
  have bP:(bF 11 λk=>cT (dz (D E) cs) i (k:Nat))=bF 11 λk=>cT cs i (k:Nat):=kS λk _=>aAC U i k;rw[cm,bP]
theorem alr {α:Type}(n:Nat)(q:Nat->α):bF (n+1) q=bF n q++[q n]:=by
 unfold bF;rw[ow,jD];rfl
structure aa9 (x:List Int×List au) (mem:Mem):Prop where
 q3:fo x.1 x.2
 no:r1 228 mem
def aba (x:List Int×List au)(mem:Mem):R->Mem->Prop:=λm mem'=>∃g gs,m=.ref 228023 g 1 0 x.1.length/\(ze x.1 x.2 g gs).At mem'/\et 228 mem mem'
def abb:List R->Mem->Option (R->Mem->Prop):=xv (λ(x:List Int×List au) args mem=>args=[.J (.Y (x.1.map ae)),.J (.Y (x.2.map ck))]/\aa9 x mem) aba
theorem aAD (E:List Int)(cs:List au)(mem:Mem)(h:aa9 (E,cs) mem):abb [.J (.Y (E.map ae)),.J (.Y (cs.map ck))] mem=some (aba (E,cs) mem):=by
 refine ajH (a:=(E,cs)) ?_ ⟨rfl,h⟩;rintro⟨a,b⟩ ⟨c,d⟩ args mem ⟨az,aD⟩ ⟨bZ,dr⟩;rw[az] at bZ;simp only[bf,R.J.injEq,Data.Y.injEq,and_true] at bZ;obtain⟨F,I⟩:=bZ;rw[map_inj fh _ _ F,map_inj r0 _ _ I]
def als (_:Nat):R:=.nil
def alu (_:Nat):Int:=0
theorem aAE (T:bl)(E:List Int)(cs:List au)(mem:Mem)(aN:aa9 (E,cs) mem):
  wp T Cp.body (p4 Cp.res (aba (E,cs) mem)) ⟨lv [.J (.Y (E.map ae)),.J (.Y (cs.map ck))],mem⟩:=by
 obtain⟨U,gC⟩:=aN;dsimp only at U;have aK:=U.n5;have aAF:mem 228023=none:=gC 228023 (by decide);refine tw ?_;simp only[Cp];simp only[go_sem,go_sem_proc,aAF,aj]
 refine dw [1,12,13] [] (λ((i,g,gs):Nat×Nat×(Nat->Nat)) tm m=>i<=D E/\tm 14=.J (.int .i64 i)/\tm 5=.ref 228023 g 1 0 i/\m 228023=some (g,bF i λj => .ptr (228500+j) (gs j) 0)/\(∀j,j<i->m (228500+j)=some (gs j,hM (E.getD j 0) als alu 10 false))/\et 228 mem m) (λ(i,_)=>D E-i) (0,0,λ_=>0) (by
  refine⟨by omega,rfl,rfl,by simp[a1];rfl,λj ai=>by omega,(et.refl _ _).e6 (by decide)⟩) ?_
 intro vs ms aT aS;simp only[go_sem,go_sem_proc] at aT aS;subst aT aS;rintro⟨i,g,gs⟩ tm m Q-⟨M,xz,cm,fb,fa,bV⟩;simp only[go_sem,go_sem_proc,bf] at Q;obtain⟨az,er,h6⟩:=Q;rcases dF (i<D E) with aA|b7
 ·have d1:decide ((i:Int)<(D E:Int))=true:=dp;have b5:=e9 (i:=i) (by omega);obtain⟨y,aw⟩:∃y,E[i]?=some y:=⟨_,bz aA⟩;have W4:E.getD i 0=y:=by rw[ep,aw];rfl
  have b2:(bF i λj=>R.ptr (228500+j) (gs j) 0).length=i:=gQ _ _;have gM:gu i (bF i λj=>R.ptr (228500+j) (gs j) 0)=bF i λj=>R.ptr (228500+j) (gs j) 0:=dB (by omega);have eh:((i+1)*8<=140737488355328)=True:=eq_true (by omega);have aq:(i+1<=maxLen)=True:=eq_true (by unfold maxLen;omega);have b3:(i<=i)=True:=eq_true (b1 _)
  have dg:kW 228023 g 1 i 8 1 [.ptr 228021 (gB (m 228021)) 0] (some (g,bF i λj=>R.ptr (228500+j) (gs j) 0))=some (.ref 228023 (g+1) 1 0 (i+1),some (228023,g+1,(bF i λj=>R.ptr (228500+j) (gs j) 0)++[.ptr 228021 (gB (m 228021)) 0])):=by
   unfold kW;dsimp only;rw[ad ⟨rfl,by rw[gQ];omega,by omega,by unfold maxLen;omega,rfl⟩,cI,gM]
  generalize IP:(bF i λj=>R.ptr (228500+j) (gs j) 0)=xN at *;simp only[go_sem,go_sem_proc,az,cm,er,h6,xz,fb,aw,b2,dg,d1,ae,cI,aj,bn]
  have Sm:(xN++[R.ptr 228021 (gB (m 228021)) 0])[i]?=some (.ptr 228021 (gB (m 228021)) 0):=by
   rw[rm (by omega),b2];simp
  have c0:(228021=228022)=False:=eq_false (by decide);refine aa5 (ss.acX 228023 (g+1) _ i 228021 (gB (m 228021)) 0 _ (228500+i) iN Sm ((du (by decide)).trans ((du (by decide)).trans iN)) (by decide) (by show (228500+i:Nat)≠228021;omega) (by show (228500+i:Nat)≠228023;omega)) ?_;intro M2 g5
  have mU:∀p,(xN++[R.ptr 228021 (gB (m 228021)) 0]).set i p=xN++[p]:=λp=>by
   rw[EH _ _ (by omega),b2,Nat.sub_self];rfl
  rw[mU] at g5
  obtain⟨I2,alv,aAG⟩:∃I2,M2 228023=some (g+1,xN++[.ptr (228500+i) I2 0])/\M2 (228500+i)=some (I2,hM y als alu 10 false):=by
   apply Exists.intro;apply And.intro
   rotate_left
   ·rw[g5,du (by show (228500+i:Nat)≠228023;omega),iN];rfl
   ·rw[g5,iN]
  have nQ:∀k:Nat,k≠228021->k≠228022->k≠228023->k≠228500+i->M2 k=m k:=λk F I af aO=>by
   rw[g5,du af,du aO,du F,du af,du I,du F]
  clear g5
  have hN:xN++[R.ptr (228500+i) I2 0]=bF (i+1) λj => .ptr (228500+j) (if j=i then I2 else gs j) 0:=by
   rw[alr,ad rfl,<-IP]
   congr 1
   exact kS λj ai=>by rw[ah (by omega)]
  rw[hN] at alv;refine aZ ?_;repeat' (intro h<;>simp only[h,go_sem,go_sem_proc,az,er,h6,xz,b5]<;>try refine ax ?_ ?_)
  refine⟨(i+1,g+1,λj=>if j=i then I2 else gs j),by dsimp only;omega,by dsimp only;omega,rfl,rfl,alv,λj ai=>?_,λk Q=>?_⟩
  ·by_cases h5:j=i
   ·subst h5;dsimp only;rw[ad rfl,aAG,W4]
   ·dsimp only;rw[ah h5,nQ (228500+j) (by omega) (by omega) (by omega) (by omega)];exact fa j (by dsimp only at ai;omega)
  ·rw[nQ k (by omega) (by omega) (by omega) (by omega)];exact bV k Q
 ·have d1:decide ((i:Int)<(D E:Int))=false:=dn;obtain rfl:i=D E:=by omega
  simp only[go_sem,go_sem_proc,az,cm,er,h6,xz,d1,aj];refine aAw T mem E cs U g gs (λ_ _=>0) _ _ ?_ ?_ ?_ ?_ ⟨fb,λj ai=>?_,λj k ai Q bE=>absurd rfl bE⟩ bV ?_
  all_goals first|(intro tm' m' e5 pE cj xO)|(simp only[e7,ed,if_false,if_true,az,cm];done)|skip
  ·rw[fa j ai]
   congr 2
  obtain⟨cX,F,I,af⟩:=xS.all aK (10*D E) 0 m' (by omega) cj.aAB;simp only[go_sem,go_sem_proc];refine alq F ?_;refine aZ ?_;repeat' (intro h<;>simp only[h,go_sem,go_sem_proc,pE]<;>try refine ax ?_ ?_)
  exact⟨_,rfl,g,gs,rfl,I.at U,λk Q=>(af k Q).trans (xO k Q)⟩
end Go.Mini
