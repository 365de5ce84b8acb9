/- A part of the proof. -/
import Derived.Test.YtgpioapepokkbaaGreatM04
set_option linter.unusedSimpArgs false
set_option linter.unusedVariables false
set_option maxRecDepth 100000
set_option maxHeartbeats 4000000
noncomputable section
open Bool renaming and_eq_true->eW,and_false->iT,eq_iff_iff->xe,false_and->fx,not_eq_true'->uo,not_false->dD,not_true->cP,or_eq_true->ym,or_false->l1,or_true->vm,true_and->gQ
open Classical renaming byContradiction->mc,choose->tN,choose_spec->pn
open Decidable renaming em->dn
open Int renaming add_zero->w5,le_refl->Q3,natAbs_natCast->mK,sign_neg_iff->ajS,toNat_natCast->lz
open List renaming any_eq_false->xw,append_assoc->gb,append_inj->GL,append_nil->fv,cons_append->jR,drop->fT,drop_append->oQ,drop_append_of_le_length->ako,drop_eq_nil_of_le->jJ,drop_succ_cons->C0,ext_getElem?->pP,filter_append->pI,filter_cons->aaD,filter_cons_of_neg->wc,filter_cons_of_pos->uO,filter_eq_nil_iff->Ib,filter_nil->ot,flatMap_append->y5,flatMap_cons->qF,flatMap_def->y6,flatMap_eq_nil_iff->ajy,flatMap_nil->CX,flatten_cons->jD,getD_eq_getElem?_getD->dX,getElem?_append_left->qv,getElem?_append_right->ru,getElem?_cons_succ->IP,getElem?_eq_getElem->bs,getElem?_eq_none->mr,getElem?_eq_some_iff->dU,getElem?_map->bj,getElem?_range->tx,getElem?_replicate->aka,getElem?_set->nD,getElem_mem->m2,length->D,length_append->fG,length_cons->h4,length_drop->rG,length_filter_le->ou,length_map->ak,length_range->pW,length_replicate->AK,length_set->iQ,length_take->gF,map->yZ,map_append->kG,map_congr_left->m4,map_cons->ev,map_map->m5,map_nil->cZ,map_replicate->HO,map_set->Ay,mem_cons->hK,mem_cons_of_mem->g6,mem_cons_self->gv,mem_filter->v5,mem_flatMap->yk,mem_map->dR,mem_map_of_mem->uK,mem_of_getElem?->ee,mem_range->gR,nil_append->jk,range->dF,range_add->akZ,range_succ->ov,replicate->dH,set_append_left->alA,set_append_right->ES,set_cons_succ->HE,set_cons_zero->rX,set_eq_take_append_cons_drop->MU,take->fJ,take_add_one->g4,take_append_drop->tO,take_append_of_le_length->CD,take_length->lC,take_of_length_le->dr,take_zero->ns
open List.cons renaming inj->w0,injEq->a3
open Nat renaming add_comm->zp,le_refl->b0,le_trans->eQ,lt_of_le_of_lt->vD,lt_or_ge->iq,lt_trichotomy->ajn,mul_comm->rH,mul_le_mul->o3,mul_one->cI,mul_pos->Mr,one_le_two_pow->aab,pow_add->v8,pow_le_pow_right->w6,reduceEqDiff->dC,succ_mul->tz,zero_le->ft
open Option renaming bind_some->ky,map_eq_some_iff->ea
open Option.some renaming inj->n0,injEq->cl
open Prod renaming ext->dS,ext_iff->yx
open Prod.mk renaming injEq->e6
open Rat renaming add_zero->o1,den_intCast->aj3,divInt_eq_div->Mu,intCast_add->v7,intCast_mul->qc,intCast_natCast->oo,intCast_sub->CM,le_refl->gg,le_trans->v3,lt_iff->aag,mul_comm->uJ,mul_zero->nH,natCast_mul->ZX,num_intCast->aj2,zero_add->wa
namespace Go.Mini
open Classical
def fe (bg:Nat)(x:Rat):Prop:=∃z:Int,x*(bg:Rat)=(z:Rat)
theorem fe.add {bg:Nat}{x y:Rat}(Q:fe bg x)(av:fe bg y):fe bg (x+y):=by
 obtain⟨a,aN⟩:=Q;obtain⟨b,ag⟩:=av;exact⟨a+b,by rw[v7,<-aN,<-ag];grind⟩
theorem fe.sub {bg:Nat}{x y:Rat}(Q:fe bg x)(av:fe bg y):fe bg (x-y):=by
 obtain⟨a,aN⟩:=Q;obtain⟨b,ag⟩:=av;exact⟨a-b,by rw[CM,<-aN,<-ag];grind⟩
theorem fe.mul {bg N:Nat}{x y:Rat}(Q:fe bg x)(av:fe N y):fe (bg*N) (x*y):=by
 obtain⟨a,aN⟩:=Q;obtain⟨b,ag⟩:=av;exact⟨a*b,by rw[qc,<-aN,<-ag,ZX];grind⟩
theorem fe.int (bg:Nat)(z:Int):fe bg (z:Rat):=⟨z*bg,by rw[qc,oo]⟩
theorem fe.zero (bg:Nat):fe bg 0:=⟨0,by rw[Rat.zero_mul];rfl⟩
theorem fe.more {bg:Nat}{x:Rat}(h:fe bg x)(N:Nat):fe (bg*N) x:=by
 obtain⟨a,aN⟩:=h;exact⟨a*N,by rw[qc,<-aN,ZX,oo];grind⟩
theorem fe.of_dvd {bg N:Nat}{x:Rat}(h:fe bg x)(aa:∃m,N=bg*m):fe N x:=by
 obtain⟨m,rfl⟩:=aa;exact h.more m
theorem fe.cy {bg:Nat}{l:List eg}{aQ:eg->Rat}(h:∀c∈l,fe bg (aQ c)):fe bg (cy l aQ):=by
 induction l with
 |nil=>exact fe.zero bg
 |cons c l aA=>exact (h c gv).add (aA λx Q=>h x (g6 _ Q))
theorem fe.bF {bg n:Nat}{aQ:Nat->Rat}(h:∀k,k<n->fe bg (aQ k)):fe bg (bF n aQ):=by
 induction n with
 |zero=>exact fe.zero bg
 |succ n aA=>exact (aA λk O=>h k (by omega)).add (h n (by omega))
theorem fe.sz {bg a e:Nat}{x:Rat}(h:fe bg x)(na:0<bg)(Mz:bg<=2^a)(ar:0<=x)(Q:x<=((2^e:Nat):Rat)):dE (a+e) x:=by
 obtain⟨z,aW⟩:=h;have vj:(0:Rat)<=(z:Rat):=by rw[<-aW];exact Rat.mul_nonneg ar (by exact_mod_cast ft bg)
 have axs:(z:Rat)<=((2^e*bg:Nat):Rat):=by
  rw[<-aW,ZX];exact Rat.mul_le_mul_of_nonneg_right Q (by exact_mod_cast ft bg)
 have fL:0<=z:=by exact_mod_cast vj
 have b9:z<=((2^e*bg:Nat):Int):=by exact_mod_cast axs
 obtain⟨f1,f2⟩:=CO (q:=x) (v:=z) (d:=(bg:Int)) (by omega) (by rw[oo];exact aW);rw[mK] at f2;have dc:z.natAbs<=2^e*bg:=by omega
 refine⟨eQ f1 (eQ dc ?_),eQ f2 (eQ Mz (w6 (by omega) (by omega)))⟩;rw[v8,rH (2^a)];exact Nat.mul_le_mul_left _ Mz
structure ff (E:List Int) (cs:List au):Prop where
 right:j5 E cs=true
 iX:(D E)<=6
 q3:(D cs)<=12
 am:∀c∈cs,c.2.2.2<=1000000000000000
theorem ff.ok {E:List Int}{cs:List au}(h:ff E cs):(aB E cs).dt:=aia h.right
theorem ff.sum {E:List Int}{cs:List au}(h:ff E cs)(p:au->Prop)[DecidablePred p]:0<=cO cs (λc=>if p c then c.2.2.2 else 0)/\cO cs (λc=>if p c then c.2.2.2 else 0)<=12000000000000000:=by
 have:=QS (cs:=cs) (aQ:=λc=>if p c then c.2.2.2 else 0) (B:=1000000000000000) (by omega) λc H=>by
  have G:=h.am c H;have I:=((hF.1 h.right).2.2.2 c H).2.2.2.2.2.2.1
  try dsimp only
  split<;>omega
 have iy:=h.q3;omega
theorem ff.upto {E:List Int}{cs:List au}(h:ff E cs)(i r:Int):0<=cS cs i r/\cS cs i r<=12000000000000000:=h.sum λc=>c.1=i/\c.2.2.1<r
theorem axt {E:List Int}{cs:List au}(h:j5 E cs=true)(i:Int){r s:Int}(BD:r<=s):cS cs i r<=cS cs i s:=by
 have aS:=(hF.1 h).2.2.2
 have:∀l:List au,(∀c∈l,0<=c.2.2.2)->cO l (λc=>if c.1=i/\c.2.2.1<r then c.2.2.2 else 0)<=cO l (λc=>if c.1=i/\c.2.2.1<s then c.2.2.2 else 0):=by
  intro l
  induction l with
  |nil=>intro _;exact Q3 _
  |cons c l aA =>
   intro aw;have G:=aA λx Q=>aw x (g6 _ Q);have I:=aw c gv;simp only[cO]
   split<;>split<;>omega
 exact this cs λc H=>(aS c H).2.2.2.2.2.2.1
def ie (cs:List au)(k r:Nat):Nat:=(cS cs k (r+1:Nat)-cS cs k r).toNat
theorem Fa {E:List Int}{cs:List au}(h:j5 E cs=true)(k r:Nat):((ie cs k r:Nat):Rat)=(aB E cs).S k r:=by
 have G:=QT h k r;have I:=axt h k (r:=r) (s:=(r+1:Nat)) (by omega);rw[<-G,<-oo];unfold ie;rw[Int.toNat_of_nonneg (by omega)]
theorem ff.Fb {E:List Int}{cs:List au}(h:ff E cs)(k r:Nat):ie cs k r<=2^54:=by
 have G:=h.upto k (r+1:Nat);have I:=h.upto k r;unfold ie;omega
def pH (cs:List au)(f:Nat->Nat)(k i:Nat):Int:=cO cs λc=>if c.2.1=(i:Int)/\c.1=(k:Int)/\c.2.2.1=(f k:Int) then c.2.2.2 else 0
theorem axu {E:List Int}{cs:List au}(h:j5 E cs=true)(f:Nat->Nat){k:Nat}(i:Nat)(cN:0<(aB E cs).S k (f k)):(aB E cs).W f k i*(aB E cs).S k (f k)=((pH cs f k i:Int):Rat):=by
 unfold Day.W pH
 rw[QR cs _ (λc=>if c.to=(i:Int)/\c.aG=k/\c.bw=f k then c.am else 0) λc H=>by
  have:=(hF.1 h).2.2.2 c H;show ((if c.2.1=(i:Int)/\c.1=(k:Int)/\c.2.2.1=(f k:Int) then c.2.2.2 else 0:Int):Rat)=if c.2.1=(i:Int)/\c.1.toNat=k/\c.2.2.1.toNat=f k then (c.2.2.2:Rat) else 0
  by_cases G:c.2.1=(i:Int)/\c.1=(k:Int)/\c.2.2.1=(f k:Int)
  ·rw[ad G,ad (by omega)]
  ·rw[ah G,ah (by omega)];rfl]
 rw[uJ,<-QG];refine xy λc _=>?_
 split
 ·rename_i G;rw[uJ];have ay:=G.2.1;have aC:=G.2.2;subst ay;rw[<-aC] at cN ⊢;exact Day.CJ cN
 ·rw[nH]
theorem MA {E:List Int}{cs:List au}(h:j5 E cs=true)(f:Nat->Nat)(i:Nat):((la E cs f i:Int):Rat)=(aB E cs).st f i:=by
 unfold la Day.st;rw[v7]
 congr 1
 refine QR cs _ (λc=>if c.to=(i:Int)/\c.bw<f c.aG then c.am else 0) λc H=>?_;have:=(hF.1 h).2.2.2 c H;show ((if c.2.1=(i:Int)/\c.2.2.1<(f c.1.toNat:Int) then c.2.2.2 else 0:Int):Rat)=if c.2.1=(i:Int)/\c.2.2.1.toNat<f c.1.toNat then (c.2.2.2:Rat) else 0
 by_cases G:c.2.1=(i:Int)/\c.2.2.1<(f c.1.toNat:Int)
 ·rw[ad G,ad (by omega)]
 ·rw[ah G,ah (by omega)];rfl
theorem ff.E {E:List Int}{cs:List au}(h:ff E cs)(i:Nat):0<=E.getD i 0/\E.getD i 0<=1000000000000000:=by
 rw[dX]
 cases M:E[i]? with
 |none=>simp
 |some x=>exact (hF.1 h.right).2.2.1 x (ee M)
theorem ff.steady {E:List Int}{cs:List au}(h:ff E cs)(f:Nat->Nat)(i:Nat):0<=la E cs f i/\la E cs f i<=13000000000000000:=by
 have G:=h.E i;have I:=h.sum λc=>c.2.1=(i:Int)/\c.2.2.1<(f c.1.toNat:Int);unfold la;omega
theorem Q4 (n:Nat)(a b:Nat->Nat):fj n (λi=>a i+b i)=fj n a+fj n b:=by
 induction n with
 |zero=>rfl
 |succ n aA=>simp only[fj,aA];omega
theorem Q5 {n:Nat}{a:Nat->Nat}(h:∀i,i<n->a i=0):fj n a=0:=by
 induction n with
 |zero=>rfl
 |succ n aA=>rw[fj,aA λi M=>h i (by omega),h n (by omega)]
theorem aje {n b e:Nat}{cb:Nat->Nat}(h:∀k,k<n->cb k<=2^b)(he:n*b<=e):iM n cb<=2^e:=eQ (ZI h) (w6 (by omega) he)
theorem Q6 {n x:Nat}{p:Nat->Prop}[DecidablePred p](h:∀i j,p i->p j->i=j):fj n (λi=>if p i then x else 0)<=x:=by
 induction n with
 |zero=>exact ft _
 |succ n aA =>
  rw[fj]
  by_cases aE:p n
  ·rw[ad aE,Q5 λi M=>ah λG=>by have:=h i n G aE;omega]
   omega
  ·rw[ah aE];omega
theorem ajf {cs:List au}{aQ:au->Int}(h:∀c∈cs,0<=aQ c):0<=cO cs aQ:=by
 induction cs with
 |nil=>exact Q3 _
 |cons c l aA =>
  have G:=aA λx Q=>h x (g6 _ Q);have I:=h c gv;simp only[cO];omega
theorem ajg {cs:List au}(h:∀c∈cs,0<=c.2.2.2)(f:Nat->Nat)(k i:Nat):0<=pH cs f k i:=ajf λc H=>by
 have:=h c H
 split<;>omega
theorem axv {cs:List au}(h:∀c∈cs,0<=c.2.2.2)(k r:Nat):ie cs k r=(cO cs λc=>if c.1=(k:Int)/\c.2.2.1=(r:Int) then c.2.2.2 else 0).toNat:=by
 unfold ie cS
 congr 1
 induction cs with
 |nil=>rfl
 |cons c l aA =>
  have G:=aA λx Q=>h x (g6 _ Q);simp only[cO]
  have e:(if c.1=(k:Int)/\c.2.2.1<((r+1:Nat):Int) then c.2.2.2 else 0)-(if c.1=(k:Int)/\c.2.2.1<(r:Int) then c.2.2.2 else 0)=if c.1=(k:Int)/\c.2.2.1=(r:Int) then c.2.2.2 else 0:=by
   (repeat' split)<;>omega
  omega
theorem axw {cs:List au}(h:∀c∈cs,0<=c.2.2.2)(f:Nat->Nat)(k N:Nat):fj N (λi=>(pH cs f k i).toNat)<=ie cs k (f k):=by
 rw[axv h]
 induction cs with
 |nil=>exact eQ (Nat.le_of_eq (Q5 λi _=>rfl)) (ft _)
 |cons c l aA =>
  have aw:=λx Q=>h x (g6 c Q);have G:=aA aw;have I:=h c gv
  have e:fj N (λi=>(pH (c::l) f k i).toNat)=fj N (λi=>if c.2.1=(i:Int)/\c.1=(k:Int)/\c.2.2.1=(f k:Int) then c.2.2.2.toNat else 0)+fj N λi=>(pH l f k i).toNat:=by
   rw[<-Q4];refine Mq λi _=>?_;have:=ajg aw f k i;have ay:pH (c::l) f k i=(if c.2.1=(i:Int)/\c.1=(k:Int)/\c.2.2.1=(f k:Int) then c.2.2.2 else 0)+pH l f k i:=rfl;rw[ay]
   split<;>omega
  have aS:0<=cO l λc=>if c.1=(k:Int)/\c.2.2.1=(f k:Int) then c.2.2.2 else 0:=ajf λc H=>by
   have:=aw c H
   split<;>omega
  have af:fj N (λi=>if c.2.1=(i:Int)/\c.1=(k:Int)/\c.2.2.1=(f k:Int) then c.2.2.2.toNat else 0)<=if c.1=(k:Int)/\c.2.2.1=(f k:Int) then c.2.2.2.toNat else 0:=by
   by_cases H:c.1=(k:Int)/\c.2.2.1=(f k:Int)
   ·rw[ad H];exact Q6 λi j M aj=>by omega
   ·rw[ah H,Q5 λi _=>ah λh=>H h.2];exact b0 _
  simp only[cO];rw[e]
  split at af<;>rename_i H
  ·rw[ad H];omega
  ·rw[ah H];omega
section
variable {E:List Int} {cs:List au} (X:ff E cs) {f:Nat->Nat} {P:Nat->Prop} (cN:∀k,P k->0<(aB E cs).S k (f k))
include X cN
theorem Q7 {k:Nat}(O:P k):0<ie cs k (f k):=by
 have G:=cN k O;rw[<-Fa X.right] at G;exact_mod_cast G
theorem ajh {k:Nat}(O:P k)(i:Nat):((ie cs k (f k):Nat):Rat)*(aB E cs).W f k i=((pH cs f k i:Int):Rat):=by
 rw[Fa X.right,uJ];exact axu X.right f i (cN k O)
theorem aji {k:Nat}(O:P k)(i:Nat)(p:Prop)[Decidable p]:eO ((if p then ie cs k (f k) else 0)+(pH cs f k i).toNat) (((ie cs k (f k):Nat):Rat)*((if p then 1 else 0)-(aB E cs).W f k i)):=by
 have e:((ie cs k (f k):Nat):Rat)*((if p then 1 else 0)-(aB E cs).W f k i)=((if p then ie cs k (f k) else 0:Nat):Rat)-((pH cs f k i:Int):Rat):=by
  rw[<-ajh X cN O i]
  split<;>grind
 have I:=ajg (λc H=>((hF.1 X.right).2.2.2 c H).2.2.2.2.2.2.1) f k i;rw[e];exact (eO.nat (b0 _)).sub (eO.of (by omega))
omit cN in
theorem ajj {N:Nat}{k:Nat}(τ:Nat->Nat)(t:Nat)(hτ:∀i,i<N->τ i<D E)(aj:∀i j,i<N->j<N->τ i=τ j->i=j):fj N (λi=>(if i=t then ie cs k (f k) else 0)+(pH cs f k (τ i)).toNat)<=2*ie cs k (f k):=by
 rw[Q4];have G:fj N (λi=>if i=t then ie cs k (f k) else 0)<=ie cs k (f k):=Q6 λi j M aj=>by omega
 have I:=ZG (λi=>(pH cs f k i).toNat) hτ aj;have af:=axw (λc H=>((hF.1 X.right).2.2.2 c H).2.2.2.2.2.2.1) f k (D E);omega
omit cN in
theorem ajk (i:Nat):(la E cs f i-cS cs (i:Nat) (f i)).natAbs<=2^54/\(la E cs f i).natAbs<=2^54:=by
 have G:=X.steady f i;have I:=X.upto (i:Nat) (f i);omega
theorem axx:uL (D E) ((aB E cs).AP f P) (D E*54) 54:=by
 have ki:(aB E cs).n=D E:=rfl;refine⟨λk=>if P k then ie cs k (f k) else 1,λk=>if P k then cS cs k (f k) else 0,λi=>la E cs f i-if P i then cS cs i (f i) else 0,ZI λk _=>?_,λk=>?_,λk O=>?_,λk _=>?_,λi M=>⟨?_,?_⟩⟩
 ·try dsimp only
  split
  ·exact X.Fb k _
  ·decide
 ·try dsimp only
  split
  ·exact Q7 X cN (by assumption)
  ·omega
 ·by_cases gx:P k
  ·refine⟨λi=>(if i=k then ie cs k (f k) else 0)+(pH cs f k i).toNat,by dsimp only;rw[ad gx];exact ajj X (λi=>i) k (λi M=>M) λi j _ _ h=>h,λi M=>?_⟩
   unfold Day.AP;dsimp only;rw[ad gx,ad (show k<(aB E cs).n from O),ad gx];exact aji X cN gx i _
  ·refine⟨λi=>if i=k then 1 else 0,by dsimp only;rw[ah gx];exact eQ (Q6 λi j M aj=>by omega) (by omega),λi M=>?_⟩
   unfold Day.AP;dsimp only;rw[ah gx,ad (show k<(aB E cs).n from O),ah gx];have:(((1:Nat):Rat)*((if i=k then 1 else 0)-0))=((if i=k then 1 else 0:Nat):Rat):=by split<;>simp<;>grind
   rw[this];exact eO.nat (b0 _)
 ·try dsimp only
  split
  ·have:=X.upto (k:Nat) (f k);omega
  ·decide
 ·have:=ajk X (f:=f) i;dsimp only
  split
  ·exact this.1
  ·rw[Int.sub_zero];exact this.2
 ·unfold Day.AP;rw[ah (by rw[ki];omega),ki]
  have ay:(λk=>(if k<(D E) then (if i=k then 1 else 0)-(if P k then (aB E cs).W f k i else 0) else (aB E cs).st f i-bF (D E) λk=>if P k then (aB E cs).W f k i*(aB E cs).bD k (f k) else 0)*((if P k then cS cs k (f k) else 0:Int):Rat))=λk=>(if k<(D E) then (if i=k then ((if P k then cS cs k (f k) else 0:Int):Rat) else 0)-(if P k then (aB E cs).W f k i*(aB E cs).bD k (f k) else 0) else ((aB E cs).st f i-bF (D E) λk=>if P k then (aB E cs).W f k i*(aB E cs).bD k (f k) else 0)*((if P k then cS cs k (f k) else 0:Int):Rat)):=by
   funext k
   by_cases G:k<D E
   ·rw[ad G,ad G]
    by_cases I:P k
    ·rw[ad I,ad I,ad I,<-uF X.right k (f k)]
     split<;>grind
    ·rw[ah I,ah I,ah I]
     split<;>simp<;>grind
   ·rw[ah G,ah G]
  rw[ay];rw[kn (g:=λk=>(if i=k then ((if P k then cS cs k (f k) else 0:Int):Rat) else 0)-(if P k then (aB E cs).W f k i*(aB E cs).bD k (f k) else 0)) λk O=>ad O];rw[HR,y1 M λk _ O=>ah (Ne.symm O),ad rfl,CM,MA X.right];grind
theorem ZY (p:List Nat)(aE:∀k,k<(D p)->P (p.getD k 0)/\p.getD k 0<D E)(aj:∀i j,i<(D p)->j<(D p)->p.getD i 0=p.getD j 0->i=j):uL (D p) ((aB E cs).uN f p) (D p*54) 54:=by
 refine⟨λk=>if k<(D p) then ie cs (p.getD k 0) (f (p.getD k 0)) else 1,λ_=>0,λi=>la E cs f (p.getD i 0)-cS cs (p.getD i 0:Nat) (f (p.getD i 0)),ZI λk O=>?_,λk=>?_,λk O=>?_,λk _=>ft _,λi M=>⟨?_,?_⟩⟩
 ·try dsimp only
  rw[ad O];exact X.Fb _ _
 ·try dsimp only
  split
  ·exact Q7 X cN (aE k (by assumption)).1
  ·omega
 ·refine⟨λi=>(if i=k then ie cs (p.getD k 0) (f (p.getD k 0)) else 0)+(pH cs f (p.getD k 0) (p.getD i 0)).toNat,by dsimp only;rw[ad O];exact ajj X (λi=>p.getD i 0) k (λi M=>(aE i M).2) aj,λi M=>?_⟩
  unfold Day.uN;dsimp only;rw[ad O,ad O];exact aji X cN (aE k O).1 _ _
 ·exact (ajk X _).1
 ·unfold Day.uN;rw[ah (by omega),s0 λk _=>by rw[show ((0:Int):Rat)=0 from rfl,nH],wa,CM,MA X.right,uF X.right]
end
end Go.Mini
namespace Go.Mini
open Go Classical
theorem ig {b:Nat}{q:Rat}(h:dE b q)(ag:b<1200):di q:=by
 obtain⟨B,fS,gy⟩:=aiE;have:2^b<eb:=by rw[gy];exact Nat.pow_lt_pow_right (by omega) (by omega)
 exact⟨vD h.1 this,vD h.2 this⟩
def rowsOf (N:Nat)(A:eC):List eY:=(dF N).map λi=>(cT N (A i),ao (A i N))
theorem CV (N:Nat)(A:eC):(rowsOf N A).length=N:=by simp[rowsOf]
theorem ajl {N i:Nat}(A:eC)(h:i<N):(rowsOf N A)[i]?=some (cT N (A i),ao (A i N)):=by
 unfold rowsOf;rw[bj,tx h];rfl
theorem axy {N i k:Nat}(A:eC)(M:i<N)(O:k<=N):q2 (rowsOf N A) i k=A i k:=by
 unfold q2;rw[aiB (ajl A M),CV]
 by_cases h:k<N
 ·rw[ad h,dX,pG _ h,Option.getD_some,Ch]
 ·rw[ah h,Ch,show k=N by omega]
theorem Fc {x:Rat}(h:di x):ef (ao x)=true:=(Lj _).2 ⟨x,h,rfl⟩
theorem axz {N:Nat}{A:eC}(gI:N<=40)(aw:∀i,i<N->∀k,k<=N->di (A i k)):oe (rowsOf N A) N=true:=by
 unfold oe
 have af:(rowsOf N A).any (oY N)=false:=by
  rw[xw];intro r ab;obtain⟨i,M,rfl⟩:=dR.1 ab;have M:=gR.1 M;unfold oY Hj;simp only[mT,beq_self_eq_true,gQ,Fc (aw i M N (b0 _))]
  have:(cT N (A i)).any (λf => !ef f)=false:=by
   rw[xw];intro f aJ;unfold cT at aJ;obtain⟨x,Q,rfl⟩:=dR.1 aJ;obtain⟨k,O,rfl⟩:=dR.1 Q;rw[Fc (aw i M k (by have:=gR.1 O;omega))]
   decide
  rw[this];decide
 rw[af,CV];simp only[eW,uo,decide_eq_false_iff_not,beq_self_eq_true,dD,and_true];omega
theorem axA {N:Nat}{A:eC}(gI:N<=40)(aw:∀i,i<N->∀k,k<=N->di (A i k)):rU (rowsOf N A):=by
 refine⟨by rw[CV];omega,λr ab=>?_⟩
 obtain⟨i,M,rfl⟩:=dR.1 ab;have M:=gR.1 M;exact⟨Q0 gI λk O=>aw i M k (by omega),k9 (aw i M N (b0 _))⟩
theorem ajm {N:Nat}{a b y:Nat->Rat}(h:∀k,k<=N->a k=b k):mQ N a y=mQ N b y:=kn λk O=>by rw[h k (by omega)]
theorem h0.congr {N:Nat}{A B:eC}(h:∀i,i<N->∀k,k<=N->A i k=B i k)(y:Nat->Rat):h0 N A y↔h0 N B y:=by
 unfold h0
 constructor
 ·intro dP i M;rw[<-ajm (h i M)];exact dP i M
 ·intro dP i M;rw[ajm (h i M)];exact dP i M
theorem uL.congr {N δ v:Nat}{A B:eC}(h:∀i,i<N->∀k,k<=N->A i k=B i k)(X:uL N A δ v):uL N B δ v:=by
 obtain⟨cb,u,w,cW,de,ej,fa,o4⟩:=X;refine⟨cb,u,w,cW,de,λk O=>?_,fa,λi M=>⟨(o4 i M).1,?_⟩⟩
 ·obtain⟨b,dh,eH⟩:=ej k O;exact⟨b,dh,λi M=>by rw[<-h i M k (by omega)];exact eH i M⟩
 ·rw[<-h i M N (b0 _),(o4 i M).2,kn λk O=>by rw[h i M k (by omega)]]
theorem uL.sz {N δ v:Nat}{A:eC}(X:uL N A δ v)(gI:N<=7){i k:Nat}(M:i<N)(O:k<=N):dE (N+δ+v+4) (A i k):=(X.aiV gI A 0 (ft _) (lK.start N A) i k M (ft _) O).1
theorem axB {N:Nat}{A:eC}(gI:N<=6)(X:uL N A (N*54) 54)(axC:¬ CT N A){x:Nat->Rat}(Q:h0 N A (ext N x (-1))):
  qZ (rowsOf N A) N=(cT N x,0)/\oe (rowsOf N A) N=true/\∀k,k<N->di (x k):=by
 have aw:∀i,i<N->∀k,k<=N->di (A i k):=λi M k O=>ig (X.sz (by omega) M O) (by omega);have ab:=axz (by omega) aw;have H:∀i,i<N->∀k,k<=N->A i k=q2 (rowsOf N A) i k:=λi M k O=>(axy A M O).symm;have iO:=(X.congr H).aiV (by omega)
 have axD:¬ CT N (q2 (rowsOf N A)):=by
  rintro⟨y,av,h⟩;exact axC ⟨y,(h0.congr H _).2 av,h⟩
 obtain⟨y,ay,aC,cg⟩:=axn (rs:=rowsOf N A) (n:=N) (eK:=N+N*54+54+4) (aQ:=N+N*54) ab (by rw[CV];exact iO) (by omega) (by rw[CV];exact axD);rw[CV] at ay aC cg;have lW:∀k,k<N->x k=y k:=λk O=>(cg.1 x).1 ((h0.congr H _).1 Q) k O;exact⟨by rw[ay,CS λk O=>(lW k O).symm],ab,λk O=>by rw[lW k O];exact aC k O⟩
theorem ZZ {P:Nat->Prop}{n i j:Nat}(M:i<(c5 P n).length)(aj:j<(c5 P n).length)(h:(c5 P n).getD i 0=(c5 P n).getD j 0):i=j:=by
 have aK:(c5 P n).Pairwise (·≠·):=List.Pairwise.filter _ List.nodup_range;rw[List.pairwise_iff_getElem] at aK;rw[dX,dX,bs M,bs aj] at h;rcases ajn i j with G|G|G
 ·exact absurd h (aK i j M aj G)
 ·exact G
 ·exact absurd h.symm (aK j i aj M G)
structure s9 (d:Day) (f:Nat->Nat) (P:Nat->Prop):Prop where
 ok:d.dt
 ex:∃g,Inv d f g/\iC d f g P (d.fc f P)
theorem s9.good {d:Day}{f:Nat->Nat}{P:Nat->Prop}(h:s9 d f P):Good d f P:=by
 obtain⟨G,g,I,af⟩:=h;exact af.good G I
theorem s9.r0 {d:Day}{f:Nat->Nat}{P:Nat->Prop}(h:s9 d f P):∀k,P k->0<d.S k (f k):=by
 obtain⟨G,g,I,af⟩:=h;exact λk O=>I.r0 (af.gL k O).1 (af.gL k O).2
theorem s9.gt {d:Day}{f:Nat->Nat}{P:Nat->Prop}(h:s9 d f P):∀k,P k->d.bD k (f k)<d.fc f P k:=by
 obtain⟨G,g,I,af⟩:=h;exact af.ge
theorem iC.ajo {d:Day}(aa:d.dt){f:Nat->Nat}{g:Nat->Rat}{P:Nat->Prop}{h:Nat->Rat}(M:Inv d f g)(aE:iC d f g P h){c:eg}(H:c∈d.dj):0<=d.l f P h c/\d.l f P h c<=c.am:=by
 have ar:=aa.am c H
 by_cases G:c.bw<f c.aG
 ·rw[Day.ah2 G];exact⟨ar,gg⟩
 ·by_cases I:c.bw=f c.aG/\P c.aG
  ·rw[Day.ah3 I.1 I.2];have ay:=aE.ge _ I.2;have aC:=aE.le _ (aa.aG c H);have cg:=M.M _ (aa.aG c H) (aE.gL _ I.2).2;rw[d.s3] at cg;rw[I.1];exact⟨uC (aa.qb H) (by grind),aa.QO H (by rw[I.1];grind)⟩
  ·rw[Day.Zn G I];exact⟨gg,ar⟩
theorem s9.range {d:Day}{f:Nat->Nat}{P:Nat->Prop}(h:s9 d f P){i:Nat}(M:i<d.n):0<=d.fc f P i/\d.fc f P i<=d.fb (λc=>c.am) i:=by
 obtain⟨G,g,I,af⟩:=h;rw[af.sys i M];exact⟨G.Mj (λc H=>(af.ajo G I H).1) M,d.E1 (λc H=>(af.ajo G I H).2) i⟩
theorem axE {E:List Int}{cs:List au}(X:ff E cs)(i:Nat):(aB E cs).fb (λc=>c.am) i<=((2^54:Nat):Rat):=by
 have e:(aB E cs).fb (λc=>c.am) i=((E.getD i 0+cO cs (λc=>if c.2.1=(i:Int) then c.2.2.2 else 0):Int):Rat):=by
  unfold Day.fb;rw[v7]
  congr 1
  refine (QR cs _ (λc=>if c.to=(i:Int) then c.am else 0) λc H=>?_).symm;show ((if c.2.1=(i:Int) then c.2.2.2 else 0:Int):Rat)=if c.2.1=(i:Int) then (c.2.2.2:Rat) else 0
  split<;>rfl
 rw[e];have G:=X.E i;have I:=X.sum λc=>c.2.1=(i:Int)
 have:E.getD i 0+cO cs (λc=>if c.2.1=(i:Int) then c.2.2.2 else 0)<=((2^54:Nat):Int):=by omega
 rw[<-oo];exact_mod_cast this
theorem Day.dt.axF {d:Day}(aa:d.dt)(f:Nat->Nat)(k i:Nat):0<=d.W f k i:=y2 λc H=>by
 split
 ·exact aa.qb H
 ·exact gg
theorem axG {n t:Nat}{T:Nat->Rat}(h:∀k,k<n->0<=T k)(bz:t<=n):bF t T<=bF n T:=by
 induction n with
 |zero=>rw[show t=0 by omega];exact gg
 |succ n aA =>
  by_cases ajp:t=n+1
  ·rw[ajp];exact gg
  ·have G:=aA (λk O=>h k (by omega)) (by omega);have I:=h n (by omega);rw[bF];grind
theorem axH {N t bg a e:Nat}{s:Rat}{T:Nat->Rat}(na:0<bg)(Mz:bg<=2^a)(qQ:0<=s)(J9:fe bg s)(Z0:∀k,k<N->0<=T k)(ajq:∀k,k<N->fe bg (T k))(Q:s+bF N T<=((2^e:Nat):Rat))(bz:t<=N):dE (a+e) (s+bF t T)/\∀k,k<N->dE (a+e) (T k):=by
 have G:∀t,t<=N->0<=bF t T/\bF t T<=bF N T:=λt bz=>⟨ahY λk O=>Z0 k (by omega),axG Z0 bz⟩;refine⟨(J9.add (fe.bF λk O=>ajq k (by omega))).sz na Mz (by have:=(G t bz).1;grind) (by have:=(G t bz).2;grind),λk O=>(ajq k O).sz na Mz (Z0 k O) ?_⟩;have I:=(G k (by omega)).1;have af:=(G (k+1) (by omega)).2;rw[bF] at af;grind
section
variable {E:List Int} {cs:List au} (X:ff E cs) {f:Nat->Nat} {P:Nat->Prop} (aE:s9 (aB E cs) f P)
include X aE
theorem Q8 {i:Nat}(M:i<D E):0<=(aB E cs).fc f P i/\(aB E cs).fc f P i<=((2^54:Nat):Rat):=by
 have h:=aE.range (d:=aB E cs) M;exact⟨h.1,v3 h.2 (axE X i)⟩
theorem ajr:∃bg:Nat,0<bg/\(∃a,a<=330/\bg<=2^a)/\∀i,i<(D E)->fe bg ((aB E cs).fc f P i):=by
 obtain⟨bg,G,I,af⟩:=ai4 (N:=D E) aE.good.ai8 (axx X aE.r0) ((ai6 aE.ok f P _).2 aE.good.fc);have aK:=X.iX;exact⟨bg,G,⟨_,by omega,I⟩,af⟩
theorem ajs {i:Nat}(M:i<D E):dE 428 ((aB E cs).fc f P i):=by
 obtain⟨bg,G,⟨a,ar,I⟩,af⟩:=ajr X aE;have aS:=Q8 X aE M;exact ((af i M).sz G I aS.1 aS.2).mono (by omega)
theorem axI:qZ (rowsOf (c5 P (D E)).length ((aB E cs).uN f (c5 P (D E)))) (c5 P (D E)).length=(cT (c5 P (D E)).length (λk=>(aB E cs).fc f P ((c5 P (D E)).getD k 0)-(aB E cs).bD ((c5 P (D E)).getD k 0) (f ((c5 P (D E)).getD k 0))),0)/\oe (rowsOf (c5 P (D E)).length ((aB E cs).uN f (c5 P (D E)))) (c5 P (D E)).length=true:=by
 have hlen:(c5 P (D E)).length<=6:=by
  have:=ou (λi=>decide (P i)) (dF (D E));rw[pW] at this;have:=X.iX;unfold c5;omega
 have:=axB hlen (ZY X aE.r0 _ (λk O=>⟨(xC O).2,(xC O).1⟩) λi j M aj=>ZZ M aj) aE.good.small aE.good.aja;exact⟨this.1,this.2.1⟩
theorem axJ:∃bg:Nat,0<bg/\(∃a,a<=330/\bg<=2^a)/\∀k,k<(c5 P (D E)).length->fe bg ((aB E cs).fc f P ((c5 P (D E)).getD k 0)-(aB E cs).bD ((c5 P (D E)).getD k 0) (f ((c5 P (D E)).getD k 0))):=by
 have hlen:(c5 P (D E)).length<=6:=by
  have:=ou (λi=>decide (P i)) (dF (D E));rw[pW] at this;have:=X.iX;unfold c5;omega
 have CR:c5 P (aB E cs).n=c5 P (D E):=rfl;have ajt:=aE.good.aja;have q4:=aE.good.small;rw[CR] at ajt q4;obtain⟨bg,G,I,af⟩:=ai4 q4 (ZY X aE.r0 _ (λk O=>⟨(xC O).2,(xC O).1⟩) λi j M aj=>ZZ M aj) ajt;exact⟨bg,G,⟨_,by omega,I⟩,af⟩
theorem Q9 {k:Nat}(O:P k)(i:Nat):dE 54 ((aB E cs).W f k i)/\fe (ie cs k (f k)) ((aB E cs).W f k i):=by
 have e:=ajh X aE.r0 O i;have ar:=Q7 X aE.r0 O;have G:=X.Fb k (f k);have I:=X.sum λc=>c.2.1=(i:Int)/\c.1=(k:Int)/\c.2.2.1=(f k:Int)
 obtain⟨f1,f2⟩:=CO (q:=(aB E cs).W f k i) (v:=pH cs f k i) (d:=(ie cs k (f k):Int)) (by omega) (by rw[<-e,oo,uJ]);rw[mK] at f2;refine⟨⟨eQ f1 (by unfold pH;omega),eQ f2 (by omega)⟩,pH cs f k i,by rw[<-e,uJ]⟩
theorem axK {i t:Nat}(M:i<D E)(bz:t<=(c5 P (D E)).length):
  dE 708 ((aB E cs).st f i+bF t λk=>(aB E cs).W f ((c5 P (D E)).getD k 0) i*((aB E cs).fc f P ((c5 P (D E)).getD k 0)-(aB E cs).bD ((c5 P (D E)).getD k 0) (f ((c5 P (D E)).getD k 0)))) /\
  (∀k,k<(c5 P (D E)).length->dE 438 ((aB E cs).W f ((c5 P (D E)).getD k 0) i*((aB E cs).fc f P ((c5 P (D E)).getD k 0)-(aB E cs).bD ((c5 P (D E)).getD k 0) (f ((c5 P (D E)).getD k 0))))) /\
  ∀k,k<(c5 P (D E)).length->dE 384 ((aB E cs).fc f P ((c5 P (D E)).getD k 0)-(aB E cs).bD ((c5 P (D E)).getD k 0) (f ((c5 P (D E)).getD k 0))):=by
 have hlen:(c5 P (D E)).length<=6:=by
  have:=ou (λi=>decide (P i)) (dF (D E));rw[pW] at this;have:=X.iX;unfold c5;omega
 obtain⟨bg,dO,⟨a,lu,cJ⟩,n7⟩:=axJ X aE;have gr:∀k,k<(c5 P (D E)).length->(c5 P (D E)).getD k 0<D E/\P ((c5 P (D E)).getD k 0):=λk O=>xC O;have Ra:=aE.good.ajb (d:=aB E cs) M;have CR:c5 P (aB E cs).n=c5 P (D E):=rfl;rw[CR] at Ra;generalize y4:c5 P (D E)=p at *
 have aju:∀k,k<(D p)->0<=(aB E cs).fc f P (p.getD k 0)-(aB E cs).bD (p.getD k 0) (f (p.getD k 0)):=λk O=>by
  have:=aE.gt _ (gr k O).2;grind
 have axL:∀k,k<(D p)->(aB E cs).fc f P (p.getD k 0)-(aB E cs).bD (p.getD k 0) (f (p.getD k 0))<=((2^54:Nat):Rat):=λk O=>by
  have G:=(Q8 X aE (gr k O).1).2;have I:=aE.ok.awr (p.getD k 0) (f (p.getD k 0));grind
 have axM:0<iM (D p) λk=>ie cs (p.getD k 0) (f (p.getD k 0)):=aij λk O=>Q7 X aE.r0 (gr k O).2;obtain⟨eK,hT⟩:∃eK,eK=324:=⟨_,rfl⟩;have nq:(iM (D p) λk=>ie cs (p.getD k 0) (f (p.getD k 0)))<=2^eK:=aje (e:=eK) (λk _=>X.Fb _ _) (by omega);have dv:=MA X.right f i;have Rb:=X.steady f i;have Z1:0<=(aB E cs).st f i:=by rw[<-dv];exact_mod_cast Rb.1
 have ab:=(Q8 X aE M).2;rw[Ra] at ab
 have axN:(iM (D p) λk=>ie cs (p.getD k 0) (f (p.getD k 0)))*bg<=2^(eK+a):=by
  rw[v8];exact o3 nq cJ
 have axO:=axH (T:=λk=>(aB E cs).W f (p.getD k 0) i*((aB E cs).fc f P (p.getD k 0)-(aB E cs).bD (p.getD k 0) (f (p.getD k 0)))) (Mr axM dO) axN Z1 (by rw[<-dv];exact fe.int _ _) (λk O=>uC (aE.ok.axF f _ _) (aju k O)) (λk O=>((Q9 X aE (gr k O).2 i).2.of_dvd (aik (cb:=λk=>ie cs (p.getD k 0) (f (p.getD k 0))) O)).mul (n7 k O)) ab bz;have hex:∀k,k<(D p)->dE 384 ((aB E cs).fc f P (p.getD k 0)-(aB E cs).bD (p.getD k 0) (f (p.getD k 0))):=λk O=>((n7 k O).sz dO cJ (aju k O) (axL k O)).mono (by omega);exact⟨axO.1.mono (by omega),λk O=>(H6 (Q9 X aE (gr k O).2 i).1 (hex k O)).mono (by omega),hex⟩
end
end Go.Mini
namespace Go.Mini
open Go
def Z2:bP:=b8 27 2 [.t 4] (U [cA 4 false] (.seq (U [F 6 0,b6 7 6,F 8 1,b6 9 8,bo 10 .neq 7 9] (aY 10 (U [cA 4 false] .ret) .skip)) (.seq (U [br 5 0] (.block 0 (.loop  (.seq (U [F 11 5,F 12 0,b6 13 12,bo 14 .lss 11 13] (aY 14 .skip (.exit 0))) (.seq (.block 1 (fD [F 17 0,F 18 5,bH 19 4 17 18,bn 20 4 19,F 21 1,F 22 5,bH 23 4 21 22,bn 24 4 23,(cv 25 Uo 20 24),fh 26 25] GI (aY 26 (U [cA 4 false] .ret) .skip))) (.ops [F 15 5,a5 16 .add 15 1,F 5 16])))))) (U [cA 4 true] .ret))))
def Z3:bP:=b8 49 2 [.t 4,.t 5] (U [br 4 0,cA 5 false] (.seq (U [F 9 0,(dQ 10 KF 9),fh 11 10,F 12 11,⟨some 13,some (12,false),.cm (.t 1)⟩,⟨some 14,some (12,false),.len (.t 13)⟩,⟨some 15,some (12,false),.cm (.t 0)⟩,⟨some 16,some (12,false),.len (.t 15)⟩,⟨some 17,some (12,false),.bin .neq (.t 14) (.t 16)⟩,eh 18 12 17] (aY 18 (U [br 4 0,cA 5 false] .ret) .skip)) (U [br 6 10] (.seq (U [F 19 0,b6 20 19,br 21 0] (.block 0 (.loop  (U [bo 22 .lss 21 20] (.seq (aY 22 .skip (.exit 0)) (.seq (.block 1 (U [F 23 21,bH 24 4 19 21,bn 25 4 24,(aD 8 (.alloc 225008 [(al 0),(al 0),(al 0),(al 0)])),F 7 23,bp 4 8 25] (.seq (U [F 26 1,F 27 7,bH 28 4 26 27,bn 29 4 28,(dQ 30 l3 29),fh 31 30] (aY 31 (U [br 4 0,cA 5 false] .ret) .skip)) (fD [F 32 1,F 33 7,bH 34 4 32 33,bn 35 4 34,bf 36 3 8,aV 37 1 36,(dQ 38 vw 37),(cv 39 m7 35 38),a5 40 .lss 39 0] BP (aY 40 (.ops [F 41 6,bf 42 2 8,aV 43 1 42,(aD 44 (.il false (.t 41) (.t 43))),F 6 44]) .skip))))) (.ops [a5 45 .add 21 1,F 21 45]))))))) (.seq (U [F 46 6,a5 47 .eql 46 10] (aY 47 (U [br 4 0,cA 5 false] .ret) .skip)) (U [F 48 6,F 4 48,cA 5 true] .ret))))))
def Z4:bP:=b8 46 1 [.t 2] (U [cA 2 false] (.seq (U [F 5 0,b6 6 5,br 7 0] (.block 0 (.loop  (U [bo 8 .lss 7 6] (.seq (aY 8 .skip (.exit 0)) (.seq (.block 1 (U [bH 9 4 5 7,bn 10 4 9,(aD 4 (.alloc 240004 [(al 0),(al 0),(al 0),(al 0)])),bp 4 4 10] (fD [bf 11 0 4,aV 12 1 11,(aD 13 (.call GG [(.t 12),(.c (al 0)),(.c (al 59))])),fh 14 13,F 15 14,⟨some 16,some (15,false),.dY 1 (.t 4)⟩,⟨some 17,some (15,false),.load 1 false (.t 16)⟩,⟨some 18,some (15,false),.call GG [(.t 17),(.c (.J (.int .i64 (-1)))),(.c (al 59))]⟩,⟨some 19,some (15,false),.un .not (.t 18)⟩,eh 20 15 19,F 21 20,⟨some 22,some (21,false),.dY 2 (.t 4)⟩,⟨some 23,some (21,false),.load 1 false (.t 22)⟩,⟨some 24,some (21,false),.call GG [(.t 23),(.c (al 0)),(.c (al 9))]⟩,⟨some 25,some (21,false),.un .not (.t 24)⟩,eh 26 21 25,F 27 26,⟨some 28,some (27,false),.dY 3 (.t 4)⟩,⟨some 29,some (27,false),.load 1 false (.t 28)⟩,⟨some 30,some (27,false),.call GG [(.t 29),(.c (al 0)),(.c (al 1000000000000000))]⟩,⟨some 31,some (27,false),.un .not (.t 30)⟩,eh 32 27 31,F 33 32,⟨some 34,some (33,false),.dY 0 (.t 4)⟩,⟨some 35,some (33,false),.load 1 false (.t 34)⟩,⟨some 36,some (33,false),.cm (.t 0)⟩,⟨some 37,some (33,false),.kO 4 (.t 36) (.c (al 0))⟩,⟨some 38,some (33,false),.dY 0 (.t 37)⟩,⟨some 39,some (33,false),.load 1 false (.t 38)⟩,⟨some 40,some (33,false),.bin .neq (.t 35) (.t 39)⟩,eh 41 33 40] [[],[],[],[],[],[],[],[],[],[],[],[],[],[],[],[],[],[],[],[],[],[],[],[],[],[],[],[],[],[],[]] (aY 41 (U [cA 2 false] .ret) .skip)))) (.ops [a5 42 .add 7 1,F 7 42]))))))) (U [F 43 0,b6 44 43,a5 45 .leq 44 2000,F 2 45] .ret)))
def Z5:bP:=b8 11 1 [.cell 2 4 true] (U [(aD 2 (.alloc 241002 [(al 0),.nil,(al 0),.nil]))] (U [F 6 0,(aD 7 (.call zX [(.t 6),(.c (al 1))])),F 5 7,bA 8 0 5,bA 9 1 5,(aD 3 (.alloc 241003 [(al 0),.nil,(al 0),.nil])),bp 4 3 8,F 4 9] (U [bn 10 4 3,bp 4 2 10] .ret)))
def Fe:bP:=b8 118 2 [.t 4,.t 5] (U [dL 2 249002 0,eo 4,br 5 0] (.seq (fD [bn 19 4 2,(dQ 20 l3 19),fh 21 20,F 22 21,⟨some 23,some (22,false),.load 4 true (.t 2)⟩,⟨some 24,some (22,false),.call vw [(.c (al 0))]⟩,⟨some 25,some (22,false),.call m7 [(.t 23),(.t 24)]⟩,⟨some 26,some (22,false),.bin .lss (.t 25) (.c (al 0))⟩,eh 27 22 26,F 28 27,⟨some 29,some (28,false),.cm (.t 1)⟩,⟨some 30,some (28,false),.call KF [(.t 29)]⟩,⟨some 31,some (28,false),.un .not (.t 30)⟩,eh 32 28 31] KP (aY 32 (U [eo 4,br 5 1] .ret) .skip)) (U [F 33 1,b6 34 33,(aD 35 (.mn 249035 [(al 0),.nil,(al 0),.nil] 64 (.t 34) (.t 34))),F 6 35] (U [bn 36 4 2,(aD 7 (.alloc 249007 [(al 0),.nil,(al 0),.nil])),bp 4 7 36] (.seq (U [br 37 0] (.block 0 (.loop  (U [a5 38 .lss 37 10] (.seq (aY 38 .skip (.exit 0)) (.seq (.block 1 (U [F 39 37,F 8 39] (U [br 9 0] (.seq (U [F 40 1,b6 41 40,br 42 0] (.block 2 (.loop  (U [bo 43 .lss 42 41] (.seq (aY 43 .skip (.exit 2)) (.seq (.block 3 (U [bH 44 4 40 42,bn 45 4 44,(aD 11 (.alloc 249011 [(al 0),(al 0),(al 0),(al 0)])),bp 4 11 45] (U [bf 46 2 11,aV 47 1 46,F 48 8,bo 49 .eql 47 48] (aY 49 (.ops [F 50 9,bf 51 3 11,aV 52 1 51,bo 53 .add 50 52,F 9 53]) .skip)))) (.ops [a5 54 .add 42 1,F 42 54]))))))) (fD [bn 55 4 7,F 56 9,(dQ 57 vw 56),(cv 58 m7 55 57),a5 59 .geq 58 0,F 12 59] ae8 (.seq (U [F 60 1,b6 61 60,br 62 0] (.block 4 (.loop  (U [bo 63 .lss 62 61] (.seq (aY 63 .skip (.exit 4)) (.seq (.block 5 (U [F 64 62,bH 65 4 60 62,bn 66 4 65,(aD 14 (.alloc 249014 [(al 0),(al 0),(al 0),(al 0)])),F 13 64,bp 4 14 66] (.seq (U [bf 67 2 14,aV 68 1 67,F 69 8,bo 70 .neq 68 69] (aY 70 (.exit 5) .skip)) (U [F 71 6,F 72 13,bf 73 3 14,aV 74 1 73,(dQ 75 vw 74),bH 76 4 71 72,bp 4 76 75] (.seq (U [F 77 12] (aY 77 (.exit 5) .skip)) (fD [bf 79 3 14,aV 80 1 79,(dQ 81 vw 80),bn 82 4 7,(cv 83 tS 81 82),F 78 83,bA 84 0 78,bA 85 1 78,(aD 15 (.alloc 249015 [(al 0),.nil,(al 0),.nil])),bp 4 15 84,F 16 85] [[],[],[],[],[],[],[],[],[1,3],[],[]] (.seq (U [F 86 16,a5 87 .eql 86 0] (aY 87 (.mY [F 89 6,F 90 13,bn 91 4 15,F 92 9,(dQ 93 vw 92),(cv 94 DZ 91 93),F 88 94,bA 95 0 88,bA 96 1 88,bH 97 4 89 90,bp 4 97 95,F 16 96] ae9) .skip)) (U [F 98 16,a5 99 .neq 98 0] (aY 99 (U [F 100 16,eo 4,F 5 100] .ret) .skip))))))))) (.ops [a5 101 .add 62 1,F 62 101]))))))) (.seq (U [F 102 12,fh 103 102] (aY 103 (U [(aD 104 (.call vw [(.c (al 0))])),bp 4 7 104] (.exit 1)) .skip)) (fD [bn 106 4 7,F 107 9,(dQ 108 vw 107),(cv 109 yv 106 108),F 105 109,bA 110 0 105,bA 111 1 105,(aD 17 (.alloc 249017 [(al 0),.nil,(al 0),.nil])),bp 4 17 110,F 18 111] [[],[],[],[],[],[],[],[0],[],[]] (.seq (U [F 112 18,a5 113 .neq 112 0] (aY 113 (U [F 114 18,eo 4,F 5 114] .ret) .skip)) (.ops [bn 115 4 17,bp 4 7 115])))))))))) (.ops [a5 116 .add 37 1,F 37 116]))))))) (.seq (.ghost (.freeze 6) (.ops [F 117 6,F 4 117,br 5 0])) .ret))))))
def Z6:bP:=b8 15 3 [.t 6] (U [cA 6 false] (U [F 7 0,F 8 1,bo 9 .geq 7 8,F 10 9,⟨some 11,some (10,true),.cm (.t 0)⟩,⟨some 12,some (10,true),.cm (.t 2)⟩,⟨some 13,some (10,true),.bin .leq (.t 11) (.t 12)⟩,fN 14 10 13,F 6 14] .ret))


def ck (c:au):List Data:=[.int .i64 c.1,.int .i64 c.2.1,.int .i64 c.2.2.1,.int .i64 c.2.2.2]
theorem AQ (c:au):(ck c).length=4:=rfl
theorem Rc (c:au):((ck c).map R.J).all R.one=true:=rfl
theorem q5:∀a b:au,ck a=ck b->a=b:=by
 rintro⟨cW,de,ej,fa⟩ ⟨dh,eH,jz,lM⟩ h;simp only[ck,a3,Data.int.injEq,true_and,and_true] at h;obtain⟨rfl,rfl,rfl,rfl⟩:=h
 rfl
theorem axP {cs:List au}{i:Nat}{c:au}(h:cs[i]?=some c)(aQ:au->Int):cO (cs.take (i+1)) aQ=cO (cs.take i) aQ+aQ c:=by
 rw[g4,h,Mm];simp[cO]
def H9 (cs:List au):Prop:=D cs<=2000/\∀c∈cs,0<=c.2.2.2/\c.2.2.2<=1000000000000000
theorem H9.sum {cs:List au}(h:H9 cs)(p:au->Prop)[DecidablePred p](i:Nat):0<=cO (cs.take i) (λc=>if p c then c.2.2.2 else 0)/\cO (cs.take i) (λc=>if p c then c.2.2.2 else 0)<=2000000000000000000:=by
 have G:=QS (cs:=cs.take i) (aQ:=λc=>if p c then c.2.2.2 else 0) (B:=1000000000000000) (by omega) λc H=>by
  have:=h.2 c (List.mem_of_mem_take H)
  try dsimp only
  split<;>omega
 have I:=h.1;have af:(cs.take i).length<=D cs:=by rw[gF];omega
 omega
theorem ajv {E:List Int}{cs:List au}(h:j5 E cs=true):H9 cs :=
 ⟨(hF.1 h).2.1,λc H=>⟨((hF.1 h).2.2.2 c H).2.2.2.2.2.2.1,((hF.1 h).2.2.2 c H).2.2.2.2.2.2.2⟩⟩
theorem Rd {n:Int}(h:dB n):hD (bS n) (bS 1)=(ao (n:Rat),0):=by
 rw[Aj (yM h) (by decide +kernel) (by decide),Mu,show ((1:Int):Rat)=1 from rfl,show (n:Rat)/1=n by grind]
def wb:=cj wV λ(n:Int)=>cM (dB n) (.same (.agg (aH (ao (n:Rat)))))
@[go_sem] theorem CW (n:Int)(H:dB n):wb [.int .i64 n]=some (.same (.agg (aH (ao (n:Rat))))):=(ct z1 n).trans (cR H _)
theorem axQ (T:bb)(md:T zX=aU ED)(n:Int)(H:dB n):WP T Xi (.same (.agg (aH (ao (n:Rat))))) [.J (.int .i64 n)]:=by
 refine cu ?_;simp only[Xi];have G:dB 1:=by unfold dB;omega
 have h:=Rd H;generalize ao (n:Rat)=aQ at *;obtain⟨⟨a,b⟩,⟨c,d⟩⟩:=aQ;simp only[go_sem,go_sem_proc,md,H,G,h,eB,aH];repeat' (first|refine ax ?_ ?_|fail)<;>intro h<;>simp only[h,go_sem,go_sem_proc,md,H,G,h,eB,aH]
def Ia:=cj wV λ(n:Int)=>cM (dB n) (.same (.agg (aH (ao (n:Rat)))))
@[go_sem] theorem axR (n:Int)(H:dB n):Ia [.int .i64 n]=some (.same (.agg (aH (ao (n:Rat))))):=(ct z1 n).trans (cR H _)
theorem axS (T:bb)(md:T zX=aU ED)(n:Int)(H:dB n):WP T Z5 (.same (.agg (aH (ao (n:Rat))))) [.J (.int .i64 n)]:=by
 refine cu ?_;simp only[Z5];have G:dB 1:=by unfold dB;omega
 have h:=Rd H;generalize ao (n:Rat)=aQ at *;obtain⟨⟨a,b⟩,⟨c,d⟩⟩:=aQ;simp only[go_sem,go_sem_proc,md,H,G,h,eB,aH];repeat' (first|refine ax ?_ ?_|fail)<;>intro h<;>simp only[h,go_sem,go_sem_proc,md,H,G,h,eB,aH]
theorem axT {x:List Data}(h:Fits [.int .i64,.int .i64,.int .i64,.int .i64] x):∃c:au,x=ck c:=by
 simp only[Fit,Fits] at h;obtain⟨_,_,rfl,⟨a,rfl,-⟩,_,_,rfl,⟨b,rfl,-⟩,_,_,rfl,⟨c,rfl,-⟩,_,_,rfl,⟨d,rfl,-⟩,rfl⟩:=h;exact⟨(a,b,c,d),rfl⟩
theorem axU {es:List (List Data)}(h:∀x∈es,Fit (.st [.int .i64,.int .i64,.int .i64,.int .i64]) x):∃l:List au,es=l.map ck:=by
 obtain⟨l,e,-⟩:=OB (e:=ck) (good:=λ_=>True) λx Q=>by
  have:=h x Q;unfold Fit at this;obtain⟨c,rfl⟩:=axT this;exact⟨c,rfl,trivial⟩
 exact⟨l,e⟩
end Go.Mini
namespace Go.Mini
open Classical
structure Alike (d e:Day):Prop where
 n:d.n=e.n
 E:d.E=e.E
 mem:∀c,c∈d.dj↔c∈e.dj
 sum:∀aQ,cy d.dj aQ=cy e.dj aQ
theorem Alike.symm {d e:Day}(h:Alike d e):Alike e d:=⟨h.n.symm,h.E.symm,λc=>(h.mem c).symm,λaQ=>(h.sum aQ).symm⟩
section
variable {d e:Day} (h:Alike d e)
include h
theorem Alike.bD:d.bD=e.bD:=by funext k r;exact h.sum _
theorem Alike.S:d.S=e.S:=by funext k r;exact h.sum _
theorem Alike.w:d.w=e.w:=by funext c;unfold Day.w;rw[h.S]
theorem Alike.q:d.q=e.q:=by funext f x c;unfold Day.q;rw[h.bD,h.w]
theorem Alike.l:d.l=e.l:=by funext f P x c;unfold Day.l;rw[h.bD,h.w]
theorem Alike.hk:d.hk=e.hk:=by funext x c;unfold Day.hk;rw[h.bD,h.w]
theorem Alike.fb:d.fb=e.fb:=by funext a i;unfold Day.fb;rw[h.E,h.sum]
theorem Alike.mR:d.mR=e.mR:=by funext x i;unfold Day.mR;rw[h.fb,h.hk]
theorem Alike.gm:d.gm=e.gm:=by funext C x;unfold Day.gm;rw[h.n]
theorem Alike.cap:d.cap=e.cap:=by funext f g C k;unfold Day.cap;rw[h.bD]
theorem Alike.closed (f:Nat->Nat)(C:Nat->Prop):d.closed f C↔e.closed f C:=by
 unfold Day.closed;exact⟨λk c H=>k c ((h.mem c).2 H),λk c H=>k c ((h.mem c).1 H)⟩
theorem Alike.inv {f:Nat->Nat}{g:Nat->Rat}(a:Inv d f g):Inv e f g:=by
 obtain⟨G,I,af,aS,bm⟩:=a;refine⟨G,λi M=>?_,λi M aJ=>?_,λi M aJ=>?_,λC gT axV axW=>?_⟩
 ·have:=I i (by rw[h.n];exact M);rwa [h.fb,h.q] at this
 ·have:=af i (by rw[h.n];exact M) aJ;rwa [h.bD] at this
 ·have:=aS i (by rw[h.n];exact M) aJ;rwa [h.bD] at this
 ·have:=bm C gT (λi M=>by rw[h.n];exact axV i M) ((h.closed f C).2 axW);rwa [h.gm,h.fb,h.q,h.cap,h.bD] at this
theorem Alike.ok (a:d.dt):e.dt:=⟨λc H=>by rw[<-h.n];exact a.aG c ((h.mem c).2 H),λc H=>by rw[<-h.n];exact a.to c ((h.mem c).2 H),λc H=>a.bw c ((h.mem c).2 H),λc H=>a.am c ((h.mem c).2 H),λi M=>by rw[<-h.E];exact a.E i (by rw[h.n];exact M)⟩
theorem Alike.ajw {f:Nat->Nat}{x:Nat->Rat}(a:nI d f x):nI e f x:=by
 obtain⟨g,G,I,af⟩:=a;refine⟨g,h.inv G,λi M=>?_,λi M=>af i (by rw[h.n];exact M)⟩;have:=I i (by rw[h.n];exact M);rwa [h.fb,h.q] at this
theorem Alike.axX:nI d=nI e:=by
 funext f x
 exact propext ⟨h.ajw,h.symm.ajw⟩
theorem Alike.top:d.top=e.top:=by
 funext f
 unfold Day.top;rw[h.axX]
theorem Alike.ic:d.ic=e.ic:=by
 funext f
 unfold Day.ic;rw[h.top,h.bD,h.n]
theorem Alike.jA:d.jA=e.jA:=by
 funext x i k
 induction k with
 |zero=>rfl
 |succ k aA=>unfold Day.jA;rw[h.bD,aA]
theorem Alike.gL:d.gL=e.gL:=by
 funext f x i
 unfold Day.gL;rw[h.n,h.bD,h.jA]
theorem Alike.rounds:d.rounds=e.rounds:=by
 funext k
 induction k with
 |zero=>funext f;rfl
 |succ k aA =>
  funext f
  unfold Day.rounds;rw[h.ic,h.gL,h.top,aA]
end
def dg (cs:List au)(i k:Nat):List au:=cs.filter λc=>c.1==(i:Int)&&c.2.2.1==(k:Int)
theorem Ff {cs:List au}{i k:Nat}{c:au}:c∈dg cs i k↔c∈cs/\c.1=(i:Int)/\c.2.2.1=(k:Int):=by
 unfold dg;rw[v5,eW,beq_iff_eq,beq_iff_eq]
def dy (n:Nat)(cs:List au):List au:=(dF n).flatMap λi=>(dF 10).flatMap λk=>dg cs i k
theorem axY (cs:List au)(i k j r:Nat):dg (dg cs i k) j r=if i=j/\k=r then dg cs i k else []:=by
 unfold dg;rw[List.filter_filter]
 by_cases h:i=j/\k=r
 ·obtain⟨rfl,rfl⟩:=h;rw[ad ⟨rfl,rfl⟩]
  congr 1
  funext c
  simp
 ·rw[ah h,Ib];intro c _;simp only[eW,beq_iff_eq];rintro⟨⟨G,I⟩,af,aS⟩;exact h ⟨by omega,by omega⟩
theorem ajx {α:Type}{n i:Nat}(M:i<n)(aQ:Nat->List α)(h:∀k,k<n->k≠i->aQ k=[]):(dF n).flatMap aQ=aQ i:=by
 induction n with
 |zero=>omega
 |succ n aA =>
  rw[ov,y5,qF,CX,fv]
  by_cases aK:i=n
  ·subst aK
   have:(dF i).flatMap aQ=[]:=by
    rw[ajy];intro k O;have:=gR.1 O;exact h k (by omega) (by omega)
   rw[this,jk]
  ·rw[aA (by omega) λk O=>h k (by omega),h n (by omega) (Ne.symm aK),fv]
theorem ajz {α:Type}(l:List α)(aQ:α->List au)(i k:Nat):dg (l.flatMap aQ) i k=l.flatMap λx=>dg (aQ x) i k:=by
 unfold dg
 induction l with
 |nil=>rfl
 |cons a l aA=>rw[qF,qF,pI,aA]
theorem ajA {n i k:Nat}(cs:List au)(M:i<n)(O:k<10):dg (dy n cs) i k=dg cs i k:=by
 unfold dy;rw[ajz];simp only[ajz,axY];rw[ajx M,ajx O]
 ·rw[ad ⟨rfl,rfl⟩]
 ·intro r _ ab;rw[ah λh=>ab h.2]
 ·intro j _ aj;rw[ajy];intro r _;rw[ah λh=>aj h.1]
theorem ajB {n:Nat}{a b:List au}(h:∀i,i<n->∀k,k<10->dg a i k=dg b i k):dy n a=dy n b:=by
 unfold dy;rw[y6,y6]
 congr 1
 refine m4 λi M=>?_;rw[y6,y6]
 congr 1
 exact m4 λk O=>h i (gR.1 M) k (gR.1 O)
theorem axZ (n:Nat)(cs:List au):dy n (dy n cs)=dy n cs:=ajB λ_ M _ O=>ajA cs M O
theorem Z7 {n:Nat}{cs:List au}(ab:∀c∈cs,0<=c.1/\c.1<n/\0<=c.2.2.1/\c.2.2.1<10){c:au}:c∈dy n cs↔c∈cs:=by
 unfold dy;simp only[yk,gR,Ff]
 constructor
 ·rintro⟨i,-,k,-,h,-⟩;exact h
 ·intro H;have:=ab c H;exact⟨c.1.toNat,by omega,c.2.2.1.toNat,by omega,H,by omega,by omega⟩
theorem Ic (a b:List eg)(aQ:eg->Rat):cy (a++b) aQ=cy a aQ+cy b aQ:=by
 induction a with
 |nil=>simp only[jk,cy];grind
 |cons c l aA=>rw[jR,cy,cy,aA];grind
theorem ajC (aQ:Nat->List au)(bR:eg->Rat)(n:Nat):cy (((dF n).flatMap aQ).map cG) bR=bF n λi=>cy ((aQ i).map cG) bR:=by
 induction n with
 |zero=>rfl
 |succ n aA=>rw[ov,y5,kG,Ic,aA,bF,qF,CX,fv]
theorem ax0 {l:List eg}(aw:∀c∈l,c.bw<10)(b:Nat->eg->Rat):bF 10 (λk=>cy l (λc=>if c.bw=k then b k c else 0))=cy l (λc=>b c.bw c):=by
 induction l with
 |nil=>exact s0 λk _=>rfl
 |cons c l aA =>
  rw[cy,<-aA λx Q=>aw x (g6 _ Q)];have e:(λk:Nat=>cy (c::l) (λc=>if c.bw=k then b k c else 0))=λk=>(if c.bw=k then b k c else 0)+cy l (λc=>if c.bw=k then b k c else 0):=rfl;rw[e,vY]
  congr 1
  rw[y1 (aw c gv) λk _ O=>ah (Ne.symm O),ad rfl]
theorem Z8 {cs:List au}(ab:∀c∈cs,0<=c.1/\0<=c.2.2.1)(i k:Nat)(bR:eg->Rat):cy ((dg cs i k).map cG) bR=cy (cs.map cG) λc=>if c.aG=i/\c.bw=k then bR c else 0:=by
 induction cs with
 |nil=>rfl
 |cons c l aA =>
  have ar:=ab c gv;have aA:=aA λx Q=>ab x (g6 _ Q);unfold dg at aA ⊢;rw[ev,cy,<-aA]
  by_cases h:(cG c).aG=i/\(cG c).bw=k
  ·obtain⟨G,I⟩:=h;have ay:c.1=(i:Int):=by have:c.1.toNat=i:=G;omega
   have aC:c.2.2.1=(k:Int):=by have:c.2.2.1.toNat=k:=I;omega
   rw[uO (by simp[ay,aC]),ev,cy,ad ⟨G,I⟩]
  ·rw[ah h,wc,wa];intro ag;rw[eW,beq_iff_eq,beq_iff_eq] at ag;refine h ⟨?_,?_⟩
   ·show c.1.toNat=i;omega
   ·show c.2.2.1.toNat=k;omega
theorem ajD {n:Nat}{cs:List au}(ab:∀c∈cs,0<=c.1/\c.1<n/\0<=c.2.2.1/\c.2.2.1<10)(bR:eg->Rat):cy ((dy n cs).map cG) bR=cy (cs.map cG) bR:=by
 unfold dy;rw[ajC]
 have bX:∀c∈cs.map cG,c.aG<n:=λc H=>by
  obtain⟨x,Q,rfl⟩:=dR.1 H;have:=ab x Q;show x.1.toNat<n;omega
 have h1:∀c∈cs.map cG,c.bw<10:=λc H=>by
  obtain⟨x,Q,rfl⟩:=dR.1 H;have:=ab x Q;show x.2.2.1.toNat<10;omega
 have e:(λi=>cy (((dF 10).flatMap λk=>dg cs i k).map cG) bR)=λi=>cy (cs.map cG) λc=>if c.aG=i then bR c else 0:=by
  funext i
  rw[ajC,<-ax0 h1 λ_ c=>if c.aG=i then bR c else 0]
  congr 1
  funext k
  rw[Z8 λc H=>⟨(ab c H).1,(ab c H).2.2.1⟩];refine xy λc _=>?_
  by_cases G:c.bw=k
  ·rw[ad G]
   by_cases I:c.aG=i
   ·rw[ad ⟨I,G⟩,ad I]
   ·rw[ah λh=>I h.1,ah I]
  ·rw[ah G,ah λh=>G h.2]
 rw[e,QH bX λ_ c=>bR c]
theorem ajE {E:List Int}{cs:List au}(h:j5 E cs=true):Alike (aB E cs) (aB E (dy (D E) cs)):=by
 have ab:∀c∈cs,0<=c.1/\c.1<D E/\0<=c.2.2.1/\c.2.2.1<10:=λc H=>by
  have:=(hF.1 h).2.2.2 c H;exact⟨this.1,this.2.1,this.2.2.2.2.1,this.2.2.2.2.2.1⟩
 refine⟨rfl,rfl,λc=>?_,λaQ=>(ajD ab aQ).symm⟩;show c∈cs.map cG↔c∈(dy (D E) cs).map cG;rw[dR,dR];simp only[Z7 ab]
theorem ajF {n:Nat}{cs:List au}(ab:∀c∈cs,0<=c.1/\c.1<n/\0<=c.2.2.1/\c.2.2.1<10):(dy n cs).length=D cs:=by
 have G:∀l:List au,cy (l.map cG) (λ_=>1)=(D l:Rat):=λl=>by
  induction l with
  |nil=>rfl
  |cons a l aA=>rw[ev,cy,aA,h4,Rat.natCast_add,Rat.add_comm];rfl
 have:=ajD ab λ_=>1;rw[G,G] at this;exact_mod_cast this
theorem Z9 {E:List Int}{cs:List au}(h:ff E cs):ff E (dy (D E) cs):=by
 have h8:=hF.1 h.right
 have ab:∀c∈cs,0<=c.1/\c.1<D E/\0<=c.2.2.1/\c.2.2.1<10:=λc H=>by
  have:=h8.2.2.2 c H;exact⟨this.1,this.2.1,this.2.2.2.2.1,this.2.2.2.2.2.1⟩
 refine⟨hF.2 ⟨h8.1,by rw[ajF ab];exact h8.2.1,h8.2.2.1,λc H=>h8.2.2.2 c ((Z7 ab).1 H)⟩,h.iX,by rw[ajF ab];exact h.q3,λc H=>h.am c ((Z7 ab).1 H)⟩
end Go.Mini
namespace Go.Mini
open Classical
def Day.hv (d:Day):Nat->Nat:=(d.rounds (10*d.n) λ_=>10).2
def Day.js (d:Day):List (List Nat):=(d.rounds (10*d.n) λ_=>10).1
def Day.cr (d:Day):Nat->Rat:=d.top d.hv
theorem ajG (n k:Nat):mS n (λ_=>k)=k*n:=by
 induction n with
 |zero=>rfl
 |succ n aA=>rw[mS,aA,Nat.mul_succ]
section
variable {d:Day} (aa:d.dt)
include aa
theorem Day.dt.hex:∀f,Reach d f->∃h,nI d f h:=λ_ ab=>axr aa ab
theorem Ie:Reach d d.hv/\d.ic d.hv=[]:=ah9 aa aa.hex (10*d.n) (λ_=>10) (Reach.start aa) (by rw[ajG];exact b0 _)
theorem Ig:nI d d.hv d.cr:=Day.CL (aa.hex _ (Ie aa).1)
theorem Re:∀i,i<d.n->d.bD i (d.hv i)<=d.cr i:=by
 intro i M;apply mc;intro aK;have:i∈d.ic d.hv:=Day.Ml.2 ⟨M,by unfold Day.cr at aK;grind⟩
 rw[(Ie aa).2] at this
 cases this
theorem Ih:(∀i,i<d.n->d.cr i=d.mR d.cr i)/\∀i,i<d.n->(d.hv i<10↔d.cr i<d.bD i 10):=by
 obtain⟨g,G,I,af⟩:=Ig aa;exact G.final aa I af (Re aa)
theorem ax1 {z:Nat->Rat}(aW:∀i,i<d.n->z i<=d.mR z i):∀i,i<d.n->z i<=d.cr i:=ah8 aa aa.hex (Ie aa).1 aW
theorem Ii {i:Nat}(M:i<d.n):0<=d.cr i:=(Ig aa).QQ aa M
end
theorem QJ {d:Day}(aa:d.dt)(i k:Nat):0<=d.S i k:=y2 λc H=>by
 try dsimp only
 split
 ·exact aa.am c H
 ·exact gg
end Go.Mini
namespace Go.Mini
open Classical
def Day.xD (d:Day)(i r:Nat):Nat:=((dF r).filter λk=>decide (0<d.S i k)).length
theorem ax2 (d:Day)(i:Nat){r s:Nat}(h:r<=s):d.xD i r<=d.xD i s:=by
 induction s with
 |zero =>
      have:r=0:=by omega
      subst this;exact b0 _
 |succ s aA =>
  by_cases ab:r=s+1
  ·rw[ab];exact b0 _
  ·have:=aA (by omega);unfold Day.xD at *;rw[ov,pI,fG];omega
theorem ax3 (d:Day)(i:Nat){r s:Nat}(h:r<s)(cN:0<d.S i r):d.xD i r+1<=d.xD i s:=by
 have G:=ax2 d i (r:=r+1) (s:=s) (by omega);unfold Day.xD at *;rw[ov,pI,fG,uO (by simpa using cN)] at G;simp only[ot,h4,List.length_nil] at G;omega
theorem ajH (d:Day)(f:Nat->Nat):(d.ic f).Pairwise (·<·):=List.Pairwise.filter _ List.pairwise_lt_range
theorem ax4 (d:Day)(f:Nat->Nat)(i:Nat):(d.ic f).count i=if i∈d.ic f then 1 else 0:=by
 have ax5:(d.ic f).Nodup:=(ajH d f).imp λh=>by omega
 rw[ax5.count]
section
variable {d:Day} (aa:d.dt)
include aa
theorem ax6 {f:Nat->Nat}(ab:Reach d f){i:Nat}(M:i<d.n):(i∈d.ic f->d.gL f (d.top f) i<f i/\0<d.S i (d.gL f (d.top f) i))/\(i ∉ d.ic f->d.gL f (d.top f) i=f i):=by
 have bz:=Day.CL (aa.hex f ab);have hle:∀i,f i<=10:=by obtain⟨g,b9,-⟩:=bz;exact b9.le
 have aJ:=Zw aa hle (h:=d.top f) λi cF=>bz.QQ aa cF
 constructor
 ·intro hm;obtain⟨G,I⟩:=Day.Ml.1 hm;have af:=aJ.2.1 i G I;refine⟨af.1,?_⟩;have aS:=d.s3 i (d.gL f (d.top f) i);grind
 ·intro hm;refine aJ.2.2 i M ?_;apply mc;intro aK;exact hm (Day.Ml.2 ⟨M,by grind⟩)
theorem ajI:∀k (f:Nat->Nat),Reach d f->(∀l∈(d.rounds k f).1,l≠[]/\l.Pairwise (·<·)/\∀i∈l,i<d.n)/\∀i,i<d.n->(d.rounds k f).1.flatten.count i+d.xD i ((d.rounds k f).2 i)<=d.xD i (f i)/\((d.rounds k f).2 i<f i↔0<(d.rounds k f).1.flatten.count i)/\(d.rounds k f).2 i<=f i
 |0,f,ab=>⟨λl aw=>(by cases aw),λi M=>by simp[Day.rounds]⟩
 |k+1,f,ab=>by
  unfold Day.rounds
  by_cases bG:d.ic f=[]
  ·rw[ad bG];exact⟨λl aw=>(by cases aw),λi M=>by simp⟩
  ·rw[ah bG];obtain⟨G,I⟩:=ajI k _ (ab.next aa aa.hex);refine⟨λl aw=>?_,λi M=>?_⟩
   ·dsimp only at aw;rcases hK.1 aw with rfl|aw
    ·exact⟨bG,ajH d f,λi M=>(Day.Ml.1 M).1⟩
    ·exact G l aw
   ·obtain⟨af,aS,bm⟩:=I i M;obtain⟨f1,f2⟩:=ax6 aa ab M;dsimp only;rw[jD,List.count_append,ax4]
    by_cases hm:i∈d.ic f
    ·obtain⟨f3,f4⟩:=f1 hm;rw[ad hm];have:=ax3 d i f3 f4;refine⟨by omega,?_,by omega⟩
     constructor<;>intro _<;>omega
    ·have f3:=f2 hm;rw[f3] at af aS bm;rw[ah hm];refine⟨by omega,?_,by omega⟩
     rw[aS];omega
theorem ax7:(∀l∈d.js,l≠[]/\l.Pairwise (·<·)/\∀i∈l,i<d.n)/\∀i,i<d.n->d.js.flatten.count i<=d.xD i 10/\(d.cr i<d.bD i 10↔0<d.js.flatten.count i):=by
 obtain⟨G,I⟩:=ajI aa (10*d.n) (λ_=>10) (Reach.start aa);refine⟨G,λi M=>?_⟩;obtain⟨af,aS,bm⟩:=I i M;unfold Day.js;refine⟨by omega,?_⟩
 rw[<-aS,<-(Ih aa).2 i M]
 rfl
omit aa in
theorem ax8 {i:Nat}{x:Rat}(ar:0<=x):∀k,x<d.bD i k->∃r,r<k/\d.bD i r<=x/\x<d.bD i (r+1):=by
 intro k
 induction k with
 |zero=>intro h;rw[d.QI] at h;grind
 |succ k aA =>
  intro h
  by_cases I:x<d.bD i k
  ·obtain⟨r,af,aS⟩:=aA I;exact⟨r,by omega,aS⟩
  ·exact⟨k,by omega,by grind,h⟩
theorem ax9 {i:Nat}{x:Nat->Rat}(ar:0<=x i):(∃c∈d.dj,c.aG=i/\d.hk x c<c.am)↔x i<d.bD i 10:=by
 constructor
 ·rintro⟨c,H,rfl,G⟩;apply mc;intro I;have:=aa.uB c.aG (r:=c.bw+1) (s:=10) (by have:=aa.bw c H;omega);unfold Day.hk at G;rw[ad (by grind)] at G;grind
 ·intro G;obtain⟨r,I,af,aS⟩:=ax8 ar 10 G;have bm:=d.s3 i r;have cN:0<d.S i r:=by grind
  obtain⟨c,H,aE⟩:=Ma cN
  by_cases hA:c.aG=i/\c.bw=r
  ·obtain⟨rfl,rfl⟩:=hA;rw[ad ⟨rfl,rfl⟩] at aE;refine⟨c,H,rfl,?_⟩;unfold Day.hk;rw[ah (by grind),s4 (by grind)];have hw:=aa.Md H aE;have bV:=Day.CJ cN;have bQ:=Rat.mul_lt_mul_of_pos_left (show x c.aG-d.bD c.aG c.bw<d.S c.aG c.bw by grind) hw;grind
  ·rw[ah hA] at aE;grind
theorem ajJ (i:Nat)(k:Nat):0<d.S i k↔∃c∈d.dj,c.aG=i/\c.bw=k/\0<c.am:=by
 constructor
 ·intro h;obtain⟨c,H,aE⟩:=Ma h
  by_cases hA:c.aG=i/\c.bw=k
  ·rw[ad hA] at aE;exact⟨c,H,hA.1,hA.2,aE⟩
  ·rw[ah hA] at aE;grind
 ·rintro⟨c,H,rfl,rfl,aE⟩;have:=aa.QK H;grind
end
end Go.Mini
namespace Go.Mini
open Classical
def Day.times (d:Day)(k:Rat):Day:=⟨d.n,λi=>k*d.E i,d.dj.map λc=>⟨c.aG,c.to,c.bw,k*c.am⟩⟩
section
variable {d:Day} (aa:d.dt) {k:Rat} (O:0<k)
include O
end
section
variable {d:Day} (aa:d.dt) (dk:Nat)
include aa
end
end Go.Mini
namespace Go.Mini
open Classical
theorem ajK {d:Day}(aa:d.dt){f:Nat->Nat}{g:Nat->Rat}(M:Inv d f g):∀m (P:Nat->Prop),idle d P<=m->iC d f g P (d.fc f P)->∃P,s9 d f P/\∀i,i<d.n->d.fc f P i=d.top f i
 |m,P,hm,aE=>by
  by_cases X:∀i,i<d.n->f i<10->d.bD i (f i)<d.fc f P i->P i
  ·exact⟨P,⟨aa,g,M,aE⟩,aE.ajd aa M X⟩
  ·have⟨i,G,I,af,aS⟩:∃i,i<d.n/\f i<10/\d.bD i (f i)<d.fc f P i/\¬ P i:=by
    apply mc;intro aK;exact X λi G I af=>mc λaS=>aK ⟨i,G,I,af,aS⟩
   have az:=ajc (h:=d.fc f P) G I af aS
   cases m with
   |zero=>omega
   |succ m=>exact ajK aa M m _ (by omega) (aE.succ aa M)
theorem aaa {d:Day}(aa:d.dt){f:Nat->Nat}(ab:Reach d f):∃P,s9 d f P/\∀i,i<d.n->d.fc f P i=d.top f i:=by
 obtain⟨g,M,-⟩:=ab;exact ajK aa M _ _ (b0 _) (iC.first aa M)
section
variable {E:List Int} {cs:List au} (X:ff E cs)
include X
theorem ajL {f:Nat->Nat}(ab:Reach (aB E cs) f){i:Nat}(M:i<D E):dE 428 ((aB E cs).top f i):=by
 obtain⟨P,aE,he⟩:=aaa X.ok ab;rw[<-he i M];exact ajs X aE M
theorem y7 {i:Nat}(M:i<D E):dE 428 ((aB E cs).cr i):=ajL X (Ie X.ok).1 M
theorem aya {i:Nat}(M:i<D E):(aB E cs).cr i<=((2^54:Nat):Rat):=by
 obtain⟨P,aE,he⟩:=aaa X.ok (Ie X.ok).1;have:=(Q8 X aE M).2;rw[he i M] at this;exact this
theorem ajM:∃bg:Nat,0<bg/\(∃a,a<=330/\bg<=2^a)/\∀i,i<(D E)->fe bg ((aB E cs).cr i):=by
 obtain⟨P,aE,he⟩:=aaa X.ok (Ie X.ok).1;obtain⟨bg,G,I,af⟩:=ajr X aE;refine⟨bg,G,I,λi M=>?_⟩;have:=af i M;rw[he i M] at this;exact this
end
section
variable {d:Day} (aa:d.dt)
include aa
end
def we (E:List Int)(cs:List au)(k:Nat):Nat:=if (aB E cs).hv k<10 then ie cs k ((aB E cs).hv k) else 1
section
variable {E:List Int} {cs:List au} (X:ff E cs)
include X
theorem ajN {k:Nat}(O:k<D E):0<we E cs k:=by
 unfold we
 split
 ·rename_i h;obtain⟨g,G,-⟩:=Ig X.ok;have I:=G.r0 (i:=k) O h;rw[<-Fa X.right] at I;exact_mod_cast I
 ·omega
theorem ajO (k:Nat):we E cs k<=2^54:=by
 unfold we
 split
 ·exact X.Fb _ _
 ·exact aab
theorem ajP {bg:Nat}(na:∀i,i<(D E)->fe bg ((aB E cs).cr i)){c:au}(H:c∈cs):fe (bg*we E cs (cG c).aG) ((aB E cs).hk (aB E cs).cr (cG c)):=by
 have aa:=X.ok;have gh:cG c∈(aB E cs).dj:=uK H;have O:(cG c).aG<D E:=aa.aG _ gh;have uE:∀N,fe N (cG c).am:=λN=>fe.int N c.2.2.2;have aW:∀N,fe N (0:Rat):=fe.zero;have oj:=λr s=>@Day.dt.uB _ aa (cG c).aG r s;have h1:=aa.bw _ gh;have gH:=Re aa _ O;unfold Day.hk
 by_cases G:(aB E cs).bD (cG c).aG ((cG c).bw+1)<=(aB E cs).cr (cG c).aG
 ·rw[ad G];exact uE _
 ·rw[ah G]
  have aJ:(aB E cs).hv (cG c).aG<10:=by
   refine ((Ih aa).2 _ O).2 ?_;have:=oj ((cG c).bw+1) 10 (by omega);grind
  have az:(aB E cs).cr (cG c).aG<(aB E cs).bD (cG c).aG ((aB E cs).hv (cG c).aG+1):=by
   obtain⟨g,b9,-,eI⟩:=Ig aa;have:=b9.M _ O aJ;have:=eI _ O;grind
  rcases ajn (cG c).bw ((aB E cs).hv (cG c).aG) with I|I|I
  ·have:=oj ((cG c).bw+1) ((aB E cs).hv (cG c).aG) (by omega);exact absurd (v3 this gH) G
  ·have hw:fe (we E cs (cG c).aG) ((aB E cs).w (cG c)):=by
    unfold we;rw[ad aJ];refine⟨c.2.2.2,?_⟩;rw[Fa X.right,<-I]
    have:0<(aB E cs).S (cG c).aG (cG c).bw:=by
     have:=(aB E cs).s3 (cG c).aG ((aB E cs).hv (cG c).aG);rw[I];grind
    exact Day.CJ this
   have ajQ:fe bg ((aB E cs).cr (cG c).aG-(aB E cs).bD (cG c).aG (cG c).bw):=by
    refine (na _ O).sub ?_;rw[<-uF X.right];exact fe.int _ _
   rw[s4 (by rw[I];grind),rH];exact hw.mul ajQ
  ·have:=oj ((aB E cs).hv (cG c).aG+1) (cG c).bw (by omega);rw[vZ (by grind),nH];exact aW _
theorem aac {c:au}(H:c∈cs):dE 482 ((aB E cs).hk (aB E cs).cr (cG c)):=by
 obtain⟨bg,G,⟨a,I,af⟩,aS⟩:=ajM X;have gh:cG c∈(aB E cs).dj:=uK H;have O:(cG c).aG<D E:=X.ok.aG _ gh;have bm:=ajP X aS H;have bV:=ajN X O;have bQ:=ajO X (cG c).aG;have ca:bg*we E cs (cG c).aG<=2^(a+54):=by rw[v8];exact o3 af bQ
 have iS:=X.ok.Mi (aB E cs).cr gh
 have gw:(aB E cs).hk (aB E cs).cr (cG c)<=((2^50:Nat):Rat):=by
  refine v3 (X.ok.Zq _ gh) ?_;have:=X.am c H;show ((c.2.2.2:Int):Rat)<=_;have:c.2.2.2<=((2^50:Nat):Int):=by omega
  rw[<-oo];exact Rat.intCast_le_intCast.2 this
 exact (bm.sz (Mr G bV) ca iS gw).mono (by omega)
end
end Go.Mini
namespace Go.Mini
open Go
theorem MB {n:Int}{c:au}:hP n c=true↔0<=c.1/\c.1<n /\ -1<=c.2.1/\c.2.1<n/\0<=c.2.2.1/\c.2.2.1<10/\0<=c.2.2.2/\c.2.2.2<=1000000000000000:=by
 unfold hP;simp only[eW,decide_eq_true_eq,and_assoc]
def gn (x:Int):Bool:=decide (0<=x)&&decide (x<=1000000000000000)
theorem Rf {x:Int}:gn x=true↔0<=x/\x<=1000000000000000:=by
 unfold gn;simp only[eW,decide_eq_true_eq]
theorem ayb (E:List Int)(cs:List au):j5 E cs=(decide (D E<=60)&&decide (D cs<=2000)&&E.all gn&&cs.all (hP (D E))):=rfl

theorem ajR {x y:Rat}(Q:di x)(av:di y)(h:lE x y=true):yQ [.agg (aH (ao x)),.agg (aH (ao y))]=some (.same (.cH [.agg (aH (ao (x+y))),.int .i64 0])):=by
 have G:=k9 Q;have I:=k9 av;have:=ags (ao x).1.1 (ao x).1.2 (ao x).2.1 (ao x).2.2 (ao y).1.1 (ao y).1.2 (ao y).2.1 (ao y).2.2 ⟨G.1,G.2,I.1,I.2⟩;have e:vP (ao x) (ao y)=(ao (x+y),0):=by rw[W7 Q av,h];rfl
 exact this.trans (by show some (eN.same (eB (vP (ao x) (ao y))))=_;rw[e];rfl)
theorem aad {x y:Rat}(Q:di x)(av:di y)(h:lE x (-y)=true):Al [.agg (aH (ao x)),.agg (aH (ao y))]=some (.same (.cH [.agg (aH (ao (x-y))),.int .i64 0])):=by
 have G:=k9 Q;have I:=k9 av;have:=atL (ao x).1.1 (ao x).1.2 (ao x).2.1 (ao x).2.2 (ao y).1.1 (ao y).1.2 (ao y).2.1 (ao y).2.2 ⟨G.1,G.2,I.1,I.2⟩;have e:py (ao x) (ao y)=(ao (x-y),0):=by rw[PU Q av,h];rfl
 exact this.trans (by show some (eN.same (eB (py (ao x) (ao y))))=_;rw[e];rfl)
theorem aae {x y:Rat}(Q:di x)(av:di y)(h:Am x y=true):xg [.agg (aH (ao x)),.agg (aH (ao y))]=some (.same (.cH [.agg (aH (ao (x*y))),.int .i64 0])):=by
 have G:=k9 Q;have I:=k9 av;have:=atN (ao x).1.1 (ao x).1.2 (ao x).2.1 (ao x).2.2 (ao y).1.1 (ao y).1.2 (ao y).2.1 (ao y).2.2 ⟨G.1,G.2,I.1,I.2⟩;have e:od (ao x) (ao y)=(ao (x*y),0):=by rw[W8 Q av,h];rfl
 exact this.trans (by show some (eN.same (eB (od (ao x) (ao y))))=_;rw[e];rfl)
theorem ayc {x y:Rat}(Q:di x)(av:di y)(ar:y≠0)(h:xi x y=true):EF [.agg (aH (ao x)),.agg (aH (ao y))]=some (.same (.cH [.agg (aH (ao (x/y))),.int .i64 0])):=by
 have G:=k9 Q;have I:=k9 av;have:=atP (ao x).1.1 (ao x).1.2 (ao x).2.1 (ao x).2.2 (ao y).1.1 (ao y).1.2 (ao y).2.1 (ao y).2.2 ⟨G.1,G.2,I.1,I.2⟩;have e:jZ (ao x) (ao y)=(ao (x/y),0):=by rw[PV Q av ar,h];rfl
 exact this.trans (by show some (eN.same (eB (jZ (ao x) (ao y))))=_;rw[e];rfl)
theorem Fg {x y:Rat}(Q:di x)(av:di y):rS [.agg (aH (ao x)),.agg (aH (ao y))]=some (.same (.int .i64 (l8 x y))):=by
 have G:=k9 Q;have I:=k9 av;have:=agA (ao x).1.1 (ao x).1.2 (ao x).2.1 (ao x).2.2 (ao y).1.1 (ao y).1.2 (ao y).2.1 (ao y).2.2 ⟨G.1,G.2,I.1,I.2⟩;exact this.trans (by show some (eN.same (.int .i64 (lF (ao x) (ao y))))=_;rw[PW Q av])
theorem aaf {x y:Rat}:decide (l8 x y>0)=decide (y<x):=by
 have G:l8 x y>0↔y<x:=by
  unfold l8;rw[gt_iff_lt,Int.sign_pos_iff,aag];omega
 rw[decide_eq_decide];exact G
theorem Rg {x y:Rat}:decide (l8 x y<0)=decide (x<y):=by
 have G:l8 x y<0↔x<y:=by
  unfold l8;rw[ajS,aag];omega
 rw[decide_eq_decide];exact G
theorem ajT {x y:Rat}:decide (l8 x y>=0)=decide (y<=x):=by
 have G:l8 x y>=0↔y<=x:=by
  unfold l8;rw[ge_iff_le,Int.sign_nonneg_iff,Rat.le_iff];omega
 rw[decide_eq_decide];exact G
end Go.Mini
namespace Go.Mini
open Go
variable {P:Program} {A:Nat->Prop} {w aR:World} {B bu:e4} {mem mem':Mem}
def y8 (N:List R->Mem->Option Data)(args:List R)(mem:Mem):Option g7:=(N args mem).map λd => .rel (zP (.J d) mem)
@[go_sem] theorem aMh (N:List R->Mem->Option Data)(args:List R)(mem:Mem):y8 N args mem=(N args mem).map λd => .rel (zP (.J d) mem):=bx
theorem aah {T : bb}{kb : Nat}{own : List Nat}(cL : qB P T)(hm : P.follows .mixedOrders = true){f : FuncId}{fn : Func}{mf : bP}(aJ : P.funcs[f]? = some fn)(tM : (fn.name == "runtime.NumGoroutine") = false)(a0 : sr P kb own fn = some { mf with body := erase mf.body })
  (c9:Key->Prop) {N:List R->Mem->Option Data}
  (h:∀args mem d,N args mem=some d->(D args)<=mf.n/\(∀j,c9 j->mem j=none) /\
   wp T mf.body (oi mf.res λm mem'=>cC 6 emp m=some d/\∀j,¬ c9 j->mem' j=mem j) ⟨ka args,mem⟩):kF P f (y8 N):=by
 refine⟨Qg aJ tM a0,λargs mem pj hT A w B vs b1 aq=>?_⟩;unfold y8 at hT;rw[ea] at hT;obtain⟨d,oj,rfl⟩:=hT;obtain⟨hlen,qV,wM⟩:=h args mem d oj;refine Calls.mono (Gm (Post:=λm mem'=>cC 6 emp m=some d/\∀j,¬ c9 j->mem' j=mem j) cL hm aJ a0 hlen (λe st O=>Qf O) wM b1 aq) λe aR he=>?_;obtain⟨v,m,mem',bu,rfl,X,ln,aa,gr⟩:=he;exact⟨v,.J d,mem,sR c9 bu,rfl,X.drop b1 qV qV (λj aj=>(gr j aj).symm) (λk g cs O m hm => .inr ⟨k,g,cs,O,hm⟩),.J ((Ov 6 m v d aa ln).less λb ag=>ag.imp EM id),rfl,rfl⟩
def MC (W:List R->Mem->Option (Data×Key))(args:List R)(mem:Mem):Option g7:=(W args mem).map λx => .zs x.1 x.2
@[go_sem] theorem aMi (W:List R->Mem->Option (Data×Key))(args:List R)(mem:Mem):MC W args mem=(W args mem).map λx => .zs x.1 x.2:=bx
theorem ayd {T : bb}{kb : Nat}{own : List Nat}(cL : qB P T)(hm : P.follows .mixedOrders = true){f : FuncId}{fn : Func}{mf : bP}(aJ : P.funcs[f]? = some fn)(tM : (fn.name == "runtime.NumGoroutine") = false)(a0 : sr P kb own fn = some { mf with body := erase mf.body })
  (c9:Key->Prop) {W:List R->Mem->Option (Data×Key)}
  (h:∀args mem d k,W args mem=some (d,k)->(D args)<=mf.n/\(∀j,c9 j->mem j=none)/\¬ c9 k /\
   wp T mf.body (oi mf.res λm mem'=>cC 6 emp m=some d/\∀j,¬ c9 j->mem' j=a2 mem k (bZ mem k) [] j) ⟨ka args,mem⟩):kF P f (MC W):=by
 refine⟨Qg aJ tM a0,λargs mem pj hT A w B vs b1 aq=>?_⟩;unfold MC at hT;rw[ea] at hT;obtain⟨⟨d,k⟩,oj,rfl⟩:=hT;obtain⟨hlen,qV,O,wM⟩:=h args mem d k oj;refine Calls.mono (Gm (Post:=λm mem'=>cC 6 emp m=some d/\∀j,¬ c9 j->mem' j=a2 mem k (bZ mem k) [] j) cL hm aJ a0 hlen (λe st O=>Qf O) wM b1 aq) λe aR he=>?_;obtain⟨v,m,mem',bu,rfl,X,ln,aa,gr⟩:=he;refine⟨v,sR c9 bu,rfl,X.drop b1 qV (λj aj=>?_) (λj aj=>(gr j aj).symm) ?_,.J ((Ov 6 m v d aa ln).less λb ag=>ag.imp EM id)⟩
 ·have:j≠k:=λe=>O (e ▸ aj);simp only[a2,this,if_false];exact qV j aj
 ·intro dc cf nr I m nz
  by_cases fR:dc=k
  ·subst fR;simp only[a2,if_true,cl,e6] at I;obtain⟨-,rfl⟩:=I
   cases nz
  ·simp only[a2,fR,if_false] at I;exact .inr ⟨dc,cf,nr,I,nz⟩
open Classical in
def MD {α:Type}(bg:α->List R->Mem->Prop)(res:α->Data×Key):List R->Mem->Option (Data×Key):=λargs mem=>if h:∃a,bg a args mem then some (res (tN h)) else none
theorem aye {α:Type}{bg:α->List R->Mem->Prop}{res:α->Data×Key}(uniq:∀a b args mem,bg a args mem->bg b args mem->res a=res b){a:α}{args:List R}{mem:Mem}(h:bg a args mem):MD bg res args mem=some (res a):=by
 have Q:∃b,bg b args mem:=⟨a,h⟩;unfold MD;rw[dif_pos Q,uniq _ _ _ _ (pn Q) h]
theorem ayf {α:Type}{bg:α->List R->Mem->Prop}{res:α->Data×Key}{args:List R}{mem:Mem}{d:Data×Key}(h:MD bg res args mem=some d):∃a,bg a args mem/\d=res a:=by
 unfold MD at h
 split at h
 ·rename_i Q;exact⟨_,pn Q,(n0 h).symm⟩
 ·cases h
open Classical in
def Fh {α:Type}(bg:α->List R->Mem->Prop)(res:α->Data):List R->Mem->Option Data:=λargs mem=>if h:∃a,bg a args mem then some (res (tN h)) else none
theorem aai {α:Type}{bg:α->List R->Mem->Prop}{res:α->Data}(uniq:∀a b args mem,bg a args mem->bg b args mem->res a=res b){a:α}{args:List R}{mem:Mem}(h:bg a args mem):Fh bg res args mem=some (res a):=by
 have Q:∃b,bg b args mem:=⟨a,h⟩;unfold Fh;rw[dif_pos Q,uniq _ _ _ _ (pn Q) h]
theorem aaj {α:Type}{bg:α->List R->Mem->Prop}{res:α->Data}{args:List R}{mem:Mem}{d:Data}(h:Fh bg res args mem=some d):∃a,bg a args mem/\d=res a:=by
 unfold Fh at h
 split at h
 ·rename_i Q;exact⟨_,pn Q,(n0 h).symm⟩
 ·cases h
theorem ajU {α:Type}{bg:α->List R->Mem->Prop}{bL:α->Mem->R->Mem->Prop}(uniq:∀a b args mem,bg a args mem->bg b args mem->bL a mem=bL b mem){a:α}{args:List R}{mem:Mem}(h:bg a args mem):ur bg bL args mem=some (bL a mem):=by
 have Q:∃b,bg b args mem:=⟨a,h⟩;unfold ur;rw[dif_pos Q,uniq _ _ _ _ (pn Q) h]
theorem ayg {K:a8->Prop}{st:a8}{x:bU}{i k sz kc g off:Nat}{cs:List R}(G:a7 st.tm x=.ptr kc g off)(I:st.mem kc=some (g,cs))(af:cs[off+i]?=some .nil)(aS:k≠kc)
  (h:K ⟨st.tm,a2 (a2 st.mem k (bZ st.mem k) []) kc g (cs.set (off+i) (.ref k (bZ st.mem k) sz 0 0))⟩):lk K st (.NK x i k sz):=by
 simp only[lk,G,I,if_true,af];rw[ad aS];exact h
theorem ayh {K:a8->Prop}{st:a8}{x:bU}{i kc gc off k g sz o len:Nat}{cc cs:List R}{d:Data}(G:a7 st.tm x=.ptr kc gc off)(I:st.mem kc=some (gc,cc))(af:cc[off+i]?=some (.ref k g sz o len))(aS:st.mem k=some (g,cs))(bm:nX cs=true)(bV:k≠kc)(bQ:cC 1 st.mem (.ref k g sz o len)=some d)
  (h:K ⟨st.tm,a2 (kill st.mem k) kc gc (cc.set (off+i) (.J d))⟩):lk K st (.NL x i):=by
 simp only[lk,G,I,if_true,af,aS];rw[ad ⟨trivial,bm,bV⟩,bQ];exact h
def ep (n:Nat)(mem m:Mem):Prop:=∀k,k/1000≠n->m k=mem k
theorem ep.refl (n:Nat)(mem:Mem):ep n mem mem:=λ_ _=>rfl
theorem ep.e5 {n k g:Nat}{cs:List R}{mem m:Mem}(h:ep n mem m)(O:k/1000=n):ep n mem (a2 m k g cs):=λj aj=>by
 have:j≠k:=λe=>aj (by rw[e];exact O);simp only[a2,this,if_false];exact h j aj
theorem ep.kill {n k:Nat}{mem m:Mem}(h:ep n mem m)(O:k/1000=n):ep n mem (kill m k):=h.e5 O
theorem ep.at {n:Nat}{mem m:Mem}(h:ep n mem m)(k:Nat)(O:k/1000≠n):m k=mem k:=h k O
def r4 (n:Nat)(mem:Mem):Prop:=∀k,k/1000=n->mem k=none
theorem r4.aG {n ajV:Nat}{mem m:Mem}(h:r4 n mem)(aJ:ep ajV mem m)(aK:n≠ajV):r4 n m:=λk O=>by rw[aJ k (by omega)];exact h k O
end Go.Mini
namespace Go.Mini
open Go
def bI (x:Int):R:=.J (.int .i64 x)
def lf (b:Bool):R:=.J (.bool b)
theorem xE {α:Type}{f:α->R}{l:List α}{k:Nat}{y:α}(h:l[k]?=some y):fJ 1 (fT k (l.map f))=[f y]:=by
 obtain⟨aw,rfl⟩:=dU.1 h;rw[<-List.map_drop,List.drop_eq_getElem_cons aw,ev,List.take_succ_cons,ns]
structure CY (E:List Int) (cs:List au) (aF:List Int) (P:List Bool) (g cr gW:Nat) (mem:Mem):Prop where
 r:mem 261029=some (g,[.J (.Y (E.map ae)),.J (.Y (cs.map ck)),.ref 261042 cr 1 0 (D aF),.ref 261027 gW 1 0 (D P),.J (.bool false)])
 f:mem 261042=some (cr,aF.map bI)
 p:mem 261027=some (gW,P.map lf)
theorem CY.aG {E:List Int}{cs:List au}{aF:List Int}{P:List Bool}{g cr gW n:Nat}{mem m:Mem}(h:CY E cs aF P g cr gW mem)(aJ:ep n mem m)(aK:n≠261):CY E cs aF P g cr gW m :=
 ⟨(aJ.at 261029 (by omega)).trans h.r,(aJ.at 261042 (by omega)).trans h.f,(aJ.at 261027 (by omega)).trans h.p⟩
theorem Rh {a b:List Int}(h:a.map bI=b.map bI):a=b:=map_inj (λx y h=>by simpa [bI] using h) _ _ h
theorem ayi {a b:List Bool}(h:a.map lf=b.map lf):a=b:=map_inj (λx y h=>by simpa [lf] using h) _ _ h
theorem CY.uniq {E Ij:List Int}{cs nm:List au}{aF AR:List Int}{P ajW:List Bool}{g cr gW c7 ajX Ri:Nat}{mem:Mem}(h:CY E cs aF P g cr gW mem)(cx:CY Ij nm AR ajW c7 ajX Ri mem):E=Ij/\cs=nm/\aF=AR/\P=ajW/\g=c7/\cr=ajX/\gW=Ri:=by
 have G:=h.r;rw[cx.r] at G;simp only[cl,e6,a3,R.J.injEq,Data.Y.injEq,R.ref.injEq,true_and,and_true] at G;obtain⟨ay,aC,cg,⟨dw,-⟩,bN,-⟩:=G;have I:=h.f;rw[cx.f] at I;simp only[cl,e6] at I;have af:=h.p;rw[cx.p] at af;simp only[cl,e6] at af;exact⟨(map_inj e9 _ _ aC).symm,(map_inj q5 _ _ cg).symm,(Rh I.2).symm,(ayi af.2).symm,ay.symm,dw.symm,bN.symm⟩
structure Rj where
 E:List Int
 cs:List au
 aF:List Int
 P:List Bool
 g:Nat
 cr:Nat
 gW:Nat
def Rj.eG (a:Rj)(mem:Mem):Prop:=CY a.E a.cs a.aF a.P a.g a.cr a.gW mem
theorem Rj.uniq {a b:Rj}{mem:Mem}(h:a.eG mem)(cx:b.eG mem):a=b:=by
 obtain⟨cW,de,ej,fa,o4,ta,ajY⟩:=a;obtain⟨dh,eH,jz,lM,ayj,ajZ,aj0⟩:=b;have:=CY.uniq h cx;dsimp only at this;obtain⟨rfl,rfl,rfl,rfl,rfl,rfl,rfl⟩:=this
 rfl
theorem ep.same {n k g:Nat}{cs:List R}{mem m:Mem}(h:ep n mem m)(hm:mem k=some (g,cs)):ep n mem (a2 m k g cs):=λj aj=>by
 by_cases e:j=k
 ·subst e;simp only[a2,if_true];exact hm.symm
 ·simp only[a2,e,if_false];exact h j aj
theorem nJ {z:Int}(G:-9000000000000000000<=z)(I:z<=9000000000000000000):dB z:=by unfold dB;omega
theorem H9.upto {cs:List au}(h:H9 cs)(i r:Int):0<=cS cs i r/\cS cs i r<=2000000000000000000:=by
 have:=h.sum (λc=>c.1=i/\c.2.2.1<r) (D cs);rw[lC] at this;exact this
theorem aj1 {p q:Int}(aE:dB p)(hq:dB q)(ar:q≠0):hD (bS p) (bS q)=(ao ((p:Rat)/(q:Rat)),0):=by
 rw[Aj (yM aE) (yM hq) ar,Mu]
def kL (cs:List au)(i r:Int):Int:=cS cs i (r+1)-cS cs i r
end Go.Mini
namespace Go.Mini
open Go Classical
def bJ (aF:List Int)(i:Nat):Nat:=(aF.getD i 10).toNat
def fw (P:List Bool)(i:Nat):Prop:=P.getD i false=true
theorem xF {z:Int}{b:Nat}(h:z.natAbs<=2^b):dE b (z:Rat):=⟨by rw[aj2];exact h,by rw[aj3];exact aab⟩
theorem ayk {E:List Int}{cs:List au}(X:ff E cs){c:au}(H:c∈cs):dE 54 ((aB E cs).w (cG c)):=by
 have ab:=(hF.1 X.right).2.2.2 c H;have uE:=X.am c H
 by_cases ar:c.2.2.2=0
 ·have:(cG c).am=0:=by show ((c.2.2.2:Int):Rat)=0;rw[ar];rfl
  rw[Day.LL this];exact⟨ft _,aab⟩
 ·have cN:=Fa X.right (cG c).aG (cG c).bw;have hle:=(aia X.right).QK (c:=cG c) (uK H);rw[<-cN] at hle
  have G:c.2.2.2<=((ie cs (cG c).aG (cG c).bw:Nat):Int):=by
   have:((c.2.2.2:Int):Rat)<=(((ie cs (cG c).aG (cG c).bw:Nat):Int):Rat):=by rw[oo];exact hle
   exact_mod_cast this
  have I:=X.Fb (cG c).aG (cG c).bw
  obtain⟨f1,f2⟩:=CO (q:=(aB E cs).w (cG c)) (v:=c.2.2.2) (d:=((ie cs (cG c).aG (cG c).bw:Nat):Int)) (by omega) (by
   rw[oo,cN];refine Day.CJ ?_;rw[<-cN];have:0<ie cs (cG c).aG (cG c).bw:=by omega
   exact_mod_cast this)
  rw[mK] at f2;exact⟨by omega,by omega⟩
section
variable {E:List Int} {cs:List au} (X:ff E cs) (f:Nat->Nat) (P:Nat->Prop) (i:Nat) (cN:∀k,P k->0<(aB E cs).S k (f k))
include X cN
end
end Go.Mini
namespace Go.Mini
open Go
theorem ME:dB 0:=by unfold dB;omega
theorem Rk:dB 1:=by unfold dB;omega
theorem aak {N k:Nat}(x:Nat->Rat)(y:Rat):(cT N x).set k (ao y)=cT N λj=>if j=k then y else x j:=by
 refine My (by rw[iQ,mT]) λj aj=>?_;rw[nD]
 by_cases h:k=j
 ·rw[ad h,ad (by rw[mT];omega),ad h.symm]
 ·rw[ah h,pG _ aj,ah (Ne.symm h)]
theorem aj4 {α:Type}{l:List α}{k:Nat}{d x:α}(h:l[k]?=some x):l.getD k d=x:=by rw[dX,h];rfl
theorem ayl (r:eY):((j0 r).map R.J).all R.one=true:=rfl

def nK (n:Nat)(p:Nat->Bool):List Bool:=(dF n).map p
theorem Rl (n:Nat)(p:Nat->Bool):(nK n p).length=n:=by simp[nK]
theorem Rm {n i:Nat}(p:Nat->Bool)(h:i<n):(nK n p)[i]?=some (p i):=by
 unfold nK;rw[bj,tx h];rfl
theorem aym {n:Nat}{p q:Nat->Bool}(h:∀i,i<n->p i=q i):nK n p=nK n q:=m4 λi M=>h i (gR.1 M)
theorem Rn {n i:Nat}{p:Nat->Bool}:fw (nK n p) i↔i<n/\p i=true:=by
 unfold fw;rcases iq i n with h|h
 ·rw[aj4 (Rm p h)];exact⟨λe=>⟨h,e⟩,λe=>e.2⟩
 ·rw[dX,mr (by rw[Rl];exact h)];simp;omega
def wg (d:Day)(f:Nat->Nat)(h:Nat->Rat)(i:Nat):Bool:=decide (f i<10)&&decide (d.bD i (f i)<h i)
def ow (d:Day)(f:Nat->Nat)(h:Nat->Rat)(p:Nat->Bool)(i j:Nat):Bool:=p j||(decide (j<i)&&wg d f h j)
def y9 (d:Day)(f:Nat->Nat)(h:Nat->Rat)(p:Nat->Bool)(i:Nat):Bool:=(dF i).any λj => !p j&&wg d f h j
theorem ayn (d:Day)(f:Nat->Nat)(h:Nat->Rat)(p:Nat->Bool)(i:Nat):y9 d f h p (i+1)=(y9 d f h p i||(!p i&&wg d f h i)):=by
 unfold y9;rw[ov,List.any_append];simp
theorem aj5 (d:Day)(f:Nat->Nat)(h:Nat->Rat)(p:Nat->Bool)(i:Nat):ow d f h p i i=p i:=by
 unfold ow;rw[lj (Nat.lt_irrefl i),fx,l1]
theorem aj6 (d:Day)(f:Nat->Nat)(h:Nat->Rat)(p:Nat->Bool)(i j:Nat):ow d f h p (i+1) j=if j=i then (p i||wg d f h i) else ow d f h p i j:=by
 unfold ow
 by_cases aj:j=i
 ·subst aj;rw[ad rfl,lQ (Nat.lt_succ_self j),gQ]
 ·rw[ah aj]
  congr 2
  rw[decide_eq_decide];omega
theorem ayo {d:Day}{f:Nat->Nat}{h:Nat->Rat}{p:Nat->Bool}:fw (nK d.n (ow d f h p d.n))=s5 d f (fw (nK d.n p)) h:=by
 funext i
 apply propext;rw[Rn];unfold s5 ow wg;rw[Rn]
 constructor
 ·rintro⟨G,I⟩;rw[ym] at I;rcases I with I|I
  ·exact .inl ⟨G,I⟩
  ·simp only[eW,decide_eq_true_eq] at I;exact .inr ⟨G,I.2⟩
 ·rintro (⟨G,I⟩|⟨G,I⟩)
  ·exact⟨G,by rw[I];rfl⟩
  ·refine⟨G,?_⟩;rw[ym]
   right
   simp only[eW,decide_eq_true_eq];exact⟨G,I⟩
theorem ayp {n:Nat}:fw (nK n λ_=>false)=λ_=>False:=by
 funext i
 apply propext;rw[Rn];simp
theorem ayq {d:Day}{f:Nat->Nat}{h:Nat->Rat}{p:Nat->Bool}{n:Nat}(hm:y9 d f h p n=true):mS n (λi=>if ow d f h p n i then 0 else 1)<mS n λi=>if p i then 0 else 1:=by
 unfold y9 at hm;rw[List.any_eq_true] at hm;obtain⟨j,aj,I⟩:=hm;have aj:=gR.1 aj;simp only[eW,uo] at I;refine Zx (j:=j) (λi M=>?_) aj ?_
 ·unfold ow
  cases p i
  ·try dsimp only
   split<;>simp
  ·simp
 ·unfold ow;rw[I.1,I.2,lQ aj]
  decide
theorem ayr {d:Day}{f:Nat->Nat}{h:Nat->Rat}{p:Nat->Bool}{n:Nat}(hm:y9 d f h p n=false){i:Nat}(M:i<n)(G:f i<10)(I:d.bD i (f i)<h i):p i=true:=by
 unfold y9 at hm;rw[xw] at hm;have:=hm i (gR.2 M);unfold wg at this;rw[lQ G,lQ I] at this
 simpa using this
def eD (cs:List au)(x:Rat)(c:au):Rat:=if ((cS cs c.1 (c.2.2.1+1):Int):Rat)<=x then (c.2.2.2:Rat) else (c.2.2.2:Rat)/((kL cs c.1 c.2.2.1:Int):Rat)*pos (x-((cS cs c.1 c.2.2.1:Int):Rat))
theorem Ro {E:List Int}{cs:List au}(h:j5 E cs=true)(x:Nat->Rat){c:au}(H:c∈cs):(aB E cs).hk x (cG c)=eD cs (x c.1.toNat) c:=by
 have ab:=(hF.1 h).2.2.2 c H;obtain⟨aI,c2,c3,c4⟩:=c;dsimp only at ab;obtain⟨aI,rfl⟩:∃k:Nat,aI=(k:Int):=⟨aI.toNat,by omega⟩
 obtain⟨c3,rfl⟩:∃k:Nat,c3=(k:Int):=⟨c3.toNat,by omega⟩
 unfold Day.hk eD Day.w;have G:=uF h aI (c3+1);have I:=uF h aI c3;have af:=QT h aI c3;have ay:(cG ((aI:Int),c2,(c3:Int),c4)).aG=aI:=lz aI;have aC:(cG ((aI:Int),c2,(c3:Int),c4)).bw=c3:=lz c3;have cg:(cG ((aI:Int),c2,(c3:Int),c4)).am=(c4:Rat):=rfl;rw[ay,aC,cg,<-G,<-I,<-af]
 rfl
structure ko (l:List au):Prop where
 len:(D l)<=12
 c:∀c∈l,0<=c.1/\c.1<60 /\ -1<=c.2.1/\c.2.1<60/\0<=c.2.2.1/\c.2.2.1<10/\0<=c.2.2.2/\c.2.2.2<=1000000000000000
 one:∀c∈l,∀c'∈l,c.1=c'.1
theorem ko.cs {l:List au}(h:ko l):H9 l:=⟨by have:=h.len;omega,λc H=>by have:=h.c c H;omega⟩
def me {α:Type}(enc:α->List R)(l:List α):List R:=(l.map enc).flatten
theorem ays {α:Type}{enc:α->List R}{sz:Nat}(h:∀a,(enc a).length=sz)(l:List α):(me enc l).length=D l*sz:=by
 unfold me
 induction l with
 |nil=>simp
 |cons a l aA=>rw[ev,jD,fG,aA,h,h4,tz];omega
theorem aj7 {α:Type}{enc:α->List R}{sz:Nat}(h:∀a,(enc a).length=sz):∀(l:List α) (i:Nat),i<(D l)->∀b,fJ (i*sz) (me enc l)++enc b++fT (i*sz+sz) (me enc l)=me enc (l.set i b)
 | [],i,M,b=>absurd M (by simp)
 |a::l,0,_,b=>by
  have aN:=h a;unfold me;simp only[Nat.zero_mul,Nat.zero_add,ns,jk,ev,jD,rX];rw[<-aN,List.drop_left]
 |a::l,i+1,M,b=>by
  have aN:=h a;have aA:=aj7 h l i (by simpa using M) b;unfold me at aA ⊢;simp only[ev,jD,HE];rw[<-aA,tz,List.take_append,oQ,aN];rw[dr (by omega),jJ (by omega),jk];rw[show i*sz+sz-sz=i*sz by omega,show i*sz+sz+sz-sz=i*sz+sz by omega]
  simp only[gb]
def bC {α:Type}(n:Nat)(q:Nat->α):List α:=(dF n).map q
theorem gX {α:Type}(n:Nat)(q:Nat->α):(bC n q).length=n:=by simp[bC]
theorem iY {α:Type}{n i:Nat}(q:Nat->α)(h:i<n):(bC n q)[i]?=some (q i):=by
 unfold bC;rw[bj,tx h];rfl
theorem aal {α:Type}{n:Nat}{l:List α}{q:Nat->α}(aw:(D l)=n)(h:∀i,i<n->l[i]?=some (q i)):l=bC n q:=by
 apply pP;intro i;rcases iq i n with M|M
 ·rw[h i M,iY q M]
 ·rw[mr (by omega),mr (by rw[gX];exact M)]
theorem AS {α:Type}{n i:Nat}(q:Nat->α)(b:α):(bC n q).set i b=bC n λj=>if j=i then b else q j:=by
 refine aal (by rw[iQ,gX]) λj aj=>?_;rw[nD]
 by_cases h:i=j
 ·rw[ad h,ad (by rw[gX];omega),ad h.symm]
 ·rw[ah h,iY _ aj,ah (Ne.symm h)]
theorem kM {α:Type}{n:Nat}{p q:Nat->α}(h:∀i,i<n->p i=q i):bC n p=bC n q:=m4 λi M=>h i (gR.1 M)
def q6:Option bc->List R
 |none=>[.J (.int .i64 0),.nil,.J (.int .i64 0),.nil]
 |some f=>(aH f).map .J
theorem aj8:∀a,(q6 a).length=4
 |none=>rfl
 |some _=>rfl
theorem aj9 (n:Nat):(dH n [R.J (.int .i64 0),R.nil,R.J (.int .i64 0),R.nil]).flatten=me q6 (bC n λ_=>none):=by
 unfold me bC;rw[m5]
 congr 1
 apply pP;intro i;rw[bj];rcases iq i n with M|M
 ·rw[tx M,aka,ad M];rfl
 ·rw[mr (by simpa using M),mr (by simpa using M)];rfl
theorem akb (l:List bc):me q6 (l.map some)=a9 aH l:=by
 unfold me a9
 induction l with
 |nil=>rfl
 |cons f l aA =>
  simp only[ev,jD,kG];rw[aA];rfl
theorem aam {n i:Nat}{q:Nat->Option bc}(h:i<n):(i*4+4<=(me q6 (bC n q)).length)=True:=eq_true (by rw[ays aj8,gX];omega)
theorem aan {n i:Nat}{q:Nat->Option bc}(h:i<n)(a:Int)(b:List Int)(c:Int)(d:List Int):
  fJ (i*4) (me q6 (bC n q))++[R.J (.int .i64 a),.J (.Y (b.map ae)),.J (.int .i64 c),.J (.Y (d.map ae))]++fT (i*4+4) (me q6 (bC n q))=me q6 (bC n λj=>if j=i then some ((a,b),(c,d)) else q j):=by
 rw[<-AS];exact aj7 aj8 (bC n q) i (by rw[gX];exact h) (some ((a,b),(c,d)))
structure Ik (l:List au) (x:Rat):Prop where
 own:ko l
 pos:0<=x
 sz:dE 460 x
theorem ko.less {l:List au}(h:ko l){c:au}(H:c∈l)(r:Int):(cO l λc'=>if c'.2.2.1<r then c'.2.2.2 else 0)=cS l c.1 r:=by
 unfold cS;refine HZ λc' lX=>?_;have:=h.one c' lX c H
 by_cases G:c'.2.2.1<r
 ·rw[ad G,ad ⟨this,G⟩]
 ·rw[ah G,ah λh=>G h.2]
theorem aao (l:List au)(aQ bR:au->Int):cO l (λc=>aQ c+bR c)=cO l aQ+cO l bR:=by
 induction l with
 |nil=>simp[cO]
 |cons c l aA=>simp only[cO,aA];omega
theorem ko.same {l:List au}(h:ko l){c:au}(H:c∈l)(r:Int):(cO l λc'=>if c'.2.2.1=r then c'.2.2.2 else 0)=kL l c.1 r:=by
 have G:=h.less H r;have I:=h.less H (r+1)
 have af:(cO l λc'=>if c'.2.2.1<r+1 then c'.2.2.2 else 0)=(cO l λc'=>if c'.2.2.1<r then c'.2.2.2 else 0)+cO l λc'=>if c'.2.2.1=r then c'.2.2.2 else 0:=by
  rw[<-aao];refine HZ λc _=>?_
  by_cases b9:c.2.2.1<r
  ·rw[ad (by omega),ad b9,ah (by omega)];omega
  ·rw[ah b9]
   by_cases dc:c.2.2.1=r
   ·rw[ad (by omega),ad dc];omega
   ·rw[ah (by omega),ah dc];omega
 unfold kL;omega
theorem ko.bound {l:List au}(h:ko l)(p:au->Prop)[DecidablePred p]:0<=cO l (λc=>if p c then c.2.2.2 else 0)/\cO l (λc=>if p c then c.2.2.2 else 0)<=12000000000000000:=by
 have:=QS (cs:=l) (aQ:=λc=>if p c then c.2.2.2 else 0) (B:=1000000000000000) (by omega) λc H=>by
  have:=h.c c H
  try dsimp only
  split<;>omega
 have:=h.len;omega
theorem akc (cs:List au)(i r:Int):kL cs i r=cO cs λc=>if c.1=i/\c.2.2.1=r then c.2.2.2 else 0:=by
 have af:cS cs i (r+1)=cS cs i r+cO cs λc=>if c.1=i/\c.2.2.1=r then c.2.2.2 else 0:=by
  unfold cS;rw[<-aao];refine HZ λc _=>?_
  split<;>split<;>split<;>omega
 unfold kL;omega
theorem ayt {cs:List au}{aQ:au->Int}(h:∀c∈cs,0<=aQ c){c:au}(H:c∈cs):aQ c<=cO cs aQ:=by
 induction cs with
 |nil=>cases H
 |cons a l aA =>
  simp only[cO];have ar:=h a gv
  have G:0<=cO l aQ:=by
   have:∀l:List au,(∀c∈l,0<=aQ c)->0<=cO l aQ:=by
    intro l
    induction l with
    |nil=>intro _;exact Q3 _
    |cons b l QX=>intro aT;simp only[cO];have:=aT b gv;have:=QX λc H=>aT c (g6 _ H);omega
   exact this l λc H=>h c (g6 _ H)
  rcases hK.1 H with rfl|H
  ·omega
  ·have:=aA (λc H=>h c (g6 _ H)) H;omega
theorem akd {cs:List au}(h:∀c∈cs,0<=c.2.2.2){c:au}(H:c∈cs):c.2.2.2<=kL cs c.1 c.2.2.1:=by
 rw[akc];have:=ayt (aQ:=λc'=>if c'.1=c.1/\c'.2.2.1=c.2.2.1 then c'.2.2.2 else 0) (λc' lX=>by have:=h c' lX;split<;>omega) H;rwa [ad ⟨rfl,rfl⟩] at this
section
variable {cs:List au} {x:Rat} {c:au}
theorem aap (cs:List au)(i r:Int):((cS cs i (r+1):Int):Rat)=((cS cs i r:Int):Rat)+((kL cs i r:Int):Rat):=by
 rw[<-v7]
 congr 1
 unfold kL;omega
theorem ake (aK:∀c∈cs,0<=c.2.2.2)(H:c∈cs)(h:x-((cS cs c.1 c.2.2.1:Int):Rat)<=0):eD cs x c=0:=by
 unfold eD;have G:=akd aK H;have I:=aK c H;rw[aap]
 split
 ·rename_i af
  have aS:((kL cs c.1 c.2.2.1:Int):Rat)<=((0:Int):Rat):=by
   have:((0:Int):Rat)=0:=rfl;rw[this];generalize ((cS cs c.1 c.2.2.1:Int):Rat)=u at *;grind
  have bm:kL cs c.1 c.2.2.1<=0:=by exact_mod_cast aS
  rw[show c.2.2.2=0 by omega];rfl
 ·rw[vZ h,nH]
theorem ayu (h:((kL cs c.1 c.2.2.1:Int):Rat)<=x-((cS cs c.1 c.2.2.1:Int):Rat)):eD cs x c=(c.2.2.2:Rat):=by
 unfold eD;rw[aap,ad];generalize ((cS cs c.1 c.2.2.1:Int):Rat)=u at *;generalize ((kL cs c.1 c.2.2.1:Int):Rat)=s at *;grind
theorem ayv (ar:0<=x-((cS cs c.1 c.2.2.1:Int):Rat))(h:x-((cS cs c.1 c.2.2.1:Int):Rat)<((kL cs c.1 c.2.2.1:Int):Rat)):eD cs x c=(c.2.2.2:Rat)*(x-((cS cs c.1 c.2.2.1:Int):Rat))/((kL cs c.1 c.2.2.1:Int):Rat):=by
 unfold eD;rw[aap,ah,s4 ar]
 ·generalize ((cS cs c.1 c.2.2.1:Int):Rat)=u at *;generalize ((kL cs c.1 c.2.2.1:Int):Rat)=s at *;grind
 ·generalize ((cS cs c.1 c.2.2.1:Int):Rat)=u at *;generalize ((kL cs c.1 c.2.2.1:Int):Rat)=s at *;grind
end
theorem tb {n:Int}(h:dB n):di (n:Rat):=⟨by rw[aj2];exact yM h,by rw[aj3];decide +kernel⟩
theorem akf {x:Rat}:decide (x.num.sign<0)=decide (x<0):=by
 have:x.num.sign<0↔x<0:=by
  rw[ajS,aag,Rat.zero_num,Rat.zero_den];omega
 rw[decide_eq_decide];exact this
def iZ:au:=(0,0,0,0)
def Fi (l:List au)(x:Rat)(j:Nat):bc:=ao (eD l x (l.getD j iZ))
theorem ayw (l:List au)(x:Rat):(bC (D l) λj=>some (Fi l x j))=(l.map λc=>ao (eD l x c)).map some:=by
 symm
 refine aal (by simp) λi M=>?_;rw[bj,bj,bs M];unfold Fi;rw[aj4 (bs M)];rfl
def bK (cs:List au)(dk:Int):List au:=cs.filter λc=>c.1==dk
theorem ayx (cs:List au)(dk:Int)(p:au->Prop)[DecidablePred p]:cO (bK cs dk) (λc=>if c.1=dk/\p c then c.2.2.2 else 0)=cO cs λc=>if c.1=dk/\p c then c.2.2.2 else 0:=by
 unfold bK
 induction cs with
 |nil=>rfl
 |cons c l aA =>
  by_cases h:c.1=dk
  ·rw[uO (by simpa using h)];simp only[cO,aA]
  ·rw[wc (by simpa using h),aA];simp only[cO];rw[ah λaT=>h aT.1];omega
theorem akg (cs:List au)(dk r:Int):cS (bK cs dk) dk r=cS cs dk r:=ayx cs dk λc=>c.2.2.1<r
theorem mg {cs:List au}{dk:Int}{c:au}:c∈bK cs dk↔c∈cs/\c.1=dk:=by
 unfold bK;rw[v5,beq_iff_eq]
theorem akh {cs:List au}{dk:Int}{x:Rat}{c:au}(h:c.1=dk):eD (bK cs dk) x c=eD cs x c:=by
 unfold eD kL;rw[h,akg,akg]
theorem aki (cs:List au)(dk:Int)(x:Rat):((bK cs dk).map λc=>ao (eD (bK cs dk) x c))=(bK cs dk).map λc=>ao (eD cs x c) :=
 m4 λc H=>by rw[akh (mg.1 H).2]
theorem ff.own {E:List Int}{cs:List au}(h:ff E cs)(dk:Int):ko (bK cs dk):=by
 have ab:=hF.1 h.right;have aK:=h.iX;refine⟨?_,λc H=>?_,λc H c' lX=>?_⟩
 ·have:=ou (λc:au=>c.1==dk) cs;have:=h.q3;unfold bK;omega
 ·have G:=ab.2.2.2 c (mg.1 H).1;have I:=h.am c (mg.1 H).1;omega
 ·rw[(mg.1 H).2,(mg.1 lX).2]
theorem akj (n:Nat):((iB n).map R.J).all R.one=true:=rfl
def uP (d:Day)(f:Nat->Nat)(h:Nat->Rat)(i:Nat):List Nat:=(dF i).filter λj=>decide (h j<d.bD j (f j))
theorem ayy (d:Day)(f:Nat->Nat)(h:Nat->Rat)(i:Nat):uP d f h (i+1)=if h i<d.bD i (f i) then uP d f h i++[i] else uP d f h i:=by
 unfold uP;rw[ov,pI]
 by_cases aT:h i<d.bD i (f i)
 ·rw[ad aT,uO (by simpa using aT),ot]
 ·rw[ah aT,wc (by simpa using aT),ot,fv]
theorem ayz (d:Day)(f:Nat->Nat)(h:Nat->Rat)(i:Nat):(uP d f h i).length<=i:=by
 have:=ou (λj=>decide (h j<d.bD j (f j))) (dF i);rw[pW] at this;exact this
end Go.Mini
namespace Go.Mini
open Classical
def j6 (d:Day)(l:List au)(i:Nat):Rat:=cy (l.map cG) λc=>if c.to=(i:Int) then d.w c else 0
theorem ayA (d:Day)(i:Nat):j6 d [] i=0:=rfl
theorem akk (d:Day)(l:List au)(c:au)(i:Nat):j6 d (l++[c]) i=j6 d l i+if c.2.1=(i:Int) then d.w (cG c) else 0:=by
 unfold j6;rw[kG,Ic]
 congr 1
 show (if (cG c).to=(i:Int) then d.w (cG c) else 0)+0=_;rw[o1]
 rfl
theorem ayB {E:List Int}{cs:List au}(h:j5 E cs=true)(f:Nat->Nat)(k i:Nat):j6 (aB E cs) (dg cs k (f k)) i=(aB E cs).W f k i:=by
 have ab:=(hF.1 h).2.2.2;unfold j6 Day.W;rw[Z8 λc H=>⟨(ab c H).1,(ab c H).2.2.2.2.1⟩];refine xy λc _=>?_
 by_cases G:c.aG=k/\c.bw=f k
 ·rw[ad G]
  by_cases I:c.to=(i:Int)
  ·rw[ad I,ad ⟨I,G⟩]
  ·rw[ah I,ah λh=>I h.1]
 ·rw[ah G,ah λh=>G h.2]
section
variable {E:List Int} {cs:List au} (X:ff E cs) {k r:Nat} (cN:0<(aB E cs).S k r)
include X cN
theorem Rp {c:au}(H:c∈dg cs k r):fe (ie cs k r) ((aB E cs).w (cG c))/\0<=(aB E cs).w (cG c)/\(aB E cs).w (cG c)=(c.2.2.2:Rat)/((kL cs k r:Int):Rat):=by
 obtain⟨G,I,af⟩:=Ff.1 H;have ay:(cG c).aG=k:=by show c.1.toNat=k;omega
 have aC:(cG c).bw=r:=by show c.2.2.1.toNat=r;omega
 have hm:cG c∈(aB E cs).dj:=uK G;refine⟨⟨c.2.2.2,?_⟩,X.ok.qb hm,?_⟩
 ·rw[Fa X.right,<-ay,<-aC];exact Day.CJ (by rw[ay,aC];exact cN)
 ·unfold Day.w kL;rw[ay,aC];have:=QT X.right k r;rw[<-this]
  rfl
theorem ayC {l:List au}(aw:∃fu,dg cs k r=l++fu)(i:Nat):dE 54 (j6 (aB E cs) l i):=by
 obtain⟨fu,aw⟩:=aw;have gr:∀c∈l,c∈dg cs k r:=λc H=>by rw[aw];simp[H]
 have ayD:∀c∈fu,c∈dg cs k r:=λc H=>by rw[aw];simp[H]
 have aa:fe (ie cs k r) (j6 (aB E cs) l i):=by
  unfold j6;refine fe.cy λx Q=>?_;obtain⟨c,H,rfl⟩:=dR.1 Q
  split
  ·exact (Rp X cN (gr c H)).1
  ·exact fe.zero _
 have ar:∀m:List au,(∀c∈m,c∈dg cs k r)->0<=j6 (aB E cs) m i:=λm hm=>y2 λx Q=>by
  obtain⟨c,H,rfl⟩:=dR.1 Q
  try dsimp only
  split
  ·exact (Rp X cN (hm c H)).2.1
  ·exact gg
 have G:j6 (aB E cs) l i<=1:=by
  have e:j6 (aB E cs) (dg cs k r) i=j6 (aB E cs) l i+j6 (aB E cs) fu i:=by
   rw[aw];unfold j6;rw[kG,Ic]
  have aC:j6 (aB E cs) (dg cs k r) i<=cy ((dg cs k r).map cG) (aB E cs).w:=E0 λx Q=>by
   obtain⟨c,H,rfl⟩:=dR.1 Q;have:=(Rp X cN H).2.1
   split
   ·exact gg
   ·exact this
  have ab:=(hF.1 X.right).2.2.2;rw[Z8 λc H=>⟨(ab c H).1,(ab c H).2.2.2.2.1⟩] at aC
  have cg:cy (cs.map cG) (λc=>if c.aG=k/\c.bw=r then (aB E cs).w c else 0)=1:=by
   have O:k<(aB E cs).n:=by
    obtain⟨c,H,aE⟩:=Ma cN
    by_cases hA:c.aG=k/\c.bw=r
    ·rw[<-hA.1];exact X.ok.aG c H
    ·rw[ah hA] at aE;grind
   have:=X.ok.Mf (λj=>j=k) (λ_=>r) (λj aj=>by subst aj;exact cN) λ_=>1;rw[y1 O (λj _ aj=>by rw[ah aj]),ad rfl] at this;refine (xy λc _=>?_).trans this
   by_cases H:c.aG=k/\c.bw=r
   ·rw[ad H,ad H,Rat.mul_one]
   ·rw[ah H,ah H]
  have:=ar fu ayD;grind
 have gI:0<ie cs k r:=by
  rw[<-Fa X.right] at cN;exact_mod_cast cN
 exact (aa.sz gI (X.Fb k r) (ar l gr) (e:=0) (by rw[show ((2^0:Nat):Rat)=1 from rfl];exact G)).mono (by omega)
end
end Go.Mini
namespace Go.Mini
open Go
def j7 (l:List au):R:=if l=[] then .nil else .J (.Y (l.map ck))
theorem ayE {a b:List au}(h:j7 a=j7 b):a=b:=by
 unfold j7 at h
 by_cases aN:a=[]<;>by_cases ag:b=[]
 ·rw[aN,ag]
 ·rw[ad aN,ah ag] at h;cases h
 ·rw[ah aN,ad ag] at h;cases h
 ·rw[ah aN,ah ag] at h;exact map_inj q5 _ _ (Data.Y.inj (R.J.inj h))
theorem akl (l:List au):qn (j7 l)=some (D l):=by
 unfold j7
 split
 ·rename_i h;rw[h];rfl
 ·simp[qn]
theorem akm {l:List au}{n:Nat}{c:au}(h:l[n]?=some c):zr 4 n (j7 l)=some (.J (.ptr (ck c))):=by
 unfold j7
 split
 ·rename_i aw;rw[aw] at h;cases h
 ·simp only[zr,bj,h,Option.map_some];rw[ad (AQ c)]
structure ox where
 E:Int
 dj:List (List au)
 us:List Int
 f:Int
 p:Bool
def fC (x:ox):List R:=bI x.E::(x.dj.map j7++(x.us.map bI++[bI x.f,lf x.p]))
def ox.xG (x:ox)(f:Int):ox:=⟨x.E,x.dj,x.us,f,x.p⟩
def ox.sp (x:ox)(p:Bool):ox:=⟨x.E,x.dj,x.us,x.f,p⟩
structure ox.dt (x:ox):Prop where
 dj:(D x.dj)=10
 us:(D x.us)=11
theorem CZ {x:ox}(h:x.dt):(fC x).length=24:=by
 simp[fC,h.dj,h.us]
theorem ayF {x y:ox}(Q:x.dt)(av:y.dt)(h:fC x=fC y):x=y:=by
 unfold fC at h;obtain⟨G,I⟩:=w0 h;obtain⟨af,aS⟩:=GL I (by rw[ak,ak,Q.dj,av.dj]);obtain⟨bm,bV⟩:=GL aS (by rw[ak,ak,Q.us,av.us]);obtain⟨bQ,ca⟩:=w0 bV;obtain⟨iS,-⟩:=w0 ca;obtain⟨a6,bY,c1,ec,iD⟩:=x;obtain⟨tX,tY,Fj,Fk,aMj⟩:=y;have aC:=map_inj (λa b h=>ayE h) _ _ af;have cg:=Rh bm;simp only[bI,lf,R.J.injEq,Data.int.injEq,Data.bool.injEq,true_and] at G bQ iS;dsimp only at *;rw[G,aC,cg,bQ,iS]
section
variable {x:ox} (h:x.dt)
include h
omit h in
theorem ayG:fJ 1 (fC x)=[bI x.E]:=rfl
omit h in
theorem akn {k:Nat}{l:List au}(O:x.dj[k]?=some l):fJ 1 (fT (1+k) (fC x))=[j7 l]:=by
 have az:=(dU.1 O).1;unfold fC;rw[zp,C0,ako (by rw[ak];omega),CD (by rw[rG,ak];omega)];exact xE (f:=j7) O
theorem MF {k:Nat}{z:Int}(O:x.us[k]?=some z):fJ 1 (fT (11+k) (fC x))=[bI z]:=by
 have az:=(dU.1 O).1;unfold fC;rw[show 11+k=(10+k)+1 by omega,C0,oQ,jJ (by rw[ak,h.dj];omega),ak,h.dj,jk,show 10+k-10=k by omega,ako (by rw[ak];omega),CD (by rw[rG,ak];omega)]
 exact xE (f:=bI) O
theorem MG:fJ 1 (fT 22 (fC x))=[bI x.f]:=by
 unfold fC;rw[C0,oQ,jJ (by rw[ak,h.dj];omega),ak,h.dj,jk,oQ,jJ (by rw[ak,h.us];omega),ak,h.us]
 rfl
theorem akp:fJ 1 (fT 23 (fC x))=[lf x.p]:=by
 unfold fC;rw[C0,oQ,jJ (by rw[ak,h.dj];omega),ak,h.dj,jk,oQ,jJ (by rw[ak,h.us];omega),ak,h.us]
 rfl
theorem ayH (f:Int):fJ 22 (fC x)++[R.J (.int .i64 f)]++fT 23 (fC x)=fC (x.xG f):=by
 have e:fC x=(bI x.E::(x.dj.map j7++x.us.map bI))++[bI x.f,lf x.p]:=by simp[fC]
 have l:(bI x.E::(x.dj.map j7++x.us.map bI)).length=22:=by simp[h.dj,h.us]
 rw[e,CD (by omega),dr (by omega),oQ,jJ (by omega),l];simp[fC,ox.xG,bI]
theorem akq (p:Bool):fJ 23 (fC x)++[R.J (.bool p)]++fT 24 (fC x)=fC (x.sp p):=by
 have e:fC x=(bI x.E::(x.dj.map j7++(x.us.map bI++[bI x.f])))++[lf x.p]:=by simp[fC]
 have l:(bI x.E::(x.dj.map j7++(x.us.map bI++[bI x.f]))).length=23:=by simp[h.dj,h.us]
 rw[e,CD (by omega),dr (by omega),oQ,jJ (by omega),l];simp[fC,ox.sp,lf]
end
structure db where
 E:List Int
 cs:List au
 aF:List Int
 P:List Bool
 g:Nat
 gs:List Nat
def db.gM (a:db)(i:Nat):ox:=⟨a.E.getD i 0,bC 10 λk=>dg a.cs i k,bC 11 λk=>cS a.cs i (k:Nat),a.aF.getD i 10,a.P.getD i false⟩
theorem db.xH (a:db)(i:Nat):(a.gM i).dt:=⟨gX _ _,gX _ _⟩
structure db.eG (a:db) (m:Mem):Prop where
 can:a.cs=dy (D a.E) a.cs
 aF:(D a.aF)=D a.E
 pl:(D a.P)=D a.E
 wh:(D a.gs)=D a.E
 row:m 228023=some (a.g,bC (D a.E) λi => .ptr (228500+i) (a.gs.getD i 0) 0)
 dA:∀i,i<(D a.E)->m (228500+i)=some (a.gs.getD i 0,fC (a.gM i))
theorem MH {α:Type}{d:α}{n:Nat}{a b:List α}(aN:(D a)=n)(ag:(D b)=n)(h:∀i,i<n->a.getD i d=b.getD i d):a=b:=by
 apply pP;intro i;rcases iq i n with M|M
 ·have:=h i M;rw[dX,dX,bs (by omega),bs (by omega)] at this;rw[bs (by omega),bs (by omega)];exact congrArg some this
 ·rw[mr (by omega),mr (by omega)]
theorem akr {α:Type}{n:Nat}{p q:Nat->α}(h:bC n p=bC n q):∀i,i<n->p i=q i:=λi M=>by
 have G:=iY p M;rw[h,iY q M] at G;exact (n0 G).symm
theorem db.uniq {a b:db}{m:Mem}(h:a.eG m)(cx:b.eG m):a=b:=by
 obtain⟨cW,de,ej,fa,o4,ta⟩:=a;obtain⟨dh,eH,jz,lM,ayj,ajZ⟩:=b;obtain⟨aI,c2,c3,c4,Il,aaq⟩:=h;obtain⟨d1,d2,d3,d4,d5,d6⟩:=cx;dsimp only at *;rw[Il,cl,e6] at d5;obtain⟨rfl,eS⟩:=d5
 have aK:(D cW)=D dh:=by
  have:=congrArg D eS;rwa [gX,gX] at this
 rw[<-aK] at eS d1 d2 d3 d4 d6
 have ba:ta=ajZ:=MH (d:=0) c4 d4 λi M=>by
  have:=akr eS i M;rw[R.ptr.injEq] at this;exact this.2.1
 subst ba
 have ag:∀i,i<(D cW)->db.gM ⟨cW,de,ej,fa,o4,ta⟩ i=db.gM ⟨dh,eH,jz,lM,o4,ta⟩ i:=λi M=>by
  have G:=aaq i M;rw[d6 i M,cl,e6] at G;exact (ayF (db.xH _ _) (db.xH _ _) G.2).symm
 simp only[db.gM,ox.mk.injEq] at ag;have ay:cW=dh:=MH (d:=0) rfl aK.symm λi M=>(ag i M).1;subst ay
 have aC:de=eH:=by
  rw[aI,d1];exact ajB λi M k O=>akr (ag i M).2.1 k O
 have cg:ej=jz:=MH (d:=10) c2 d2 λi M=>(ag i M).2.2.2.1;have dw:fa=lM:=MH (d:=false) c3 d3 λi M=>(ag i M).2.2.2.2;rw[aC,cg,dw]
theorem db.eG.aG {a:db}{mem m:Mem}{n:Nat}(h:a.eG mem)(aJ:ep n mem m)(aK:n≠228)(bm:(D a.E)<=6):a.eG m :=
 ⟨h.can,h.aF,h.pl,h.wh,by rw[aJ 228023 (by omega)];exact h.row,λi M=>by rw[aJ (228500+i) (by omega)];exact h.dA i M⟩
def aar:bP:=b8 6 1 [.t 2] (U [cA 2 false] (U [F 3 0,(dQ 4 KJ 3),fh 5 4,F 2 5] .ret))
def aas:bP:=b8 9 1 [.t 2] (U [cA 2 false] (U [F 3 0,a5 4 .geq 3 0,F 5 4,⟨some 6,some (5,true),.cm (.t 0)⟩,⟨some 7,some (5,true),.bin .leq (.t 6) (.c (al 1000000000000000))⟩,fN 8 5 7,F 2 8] .ret))
def aat:bP:=b8 42 2 [.t 3] (U [dL 2 252002 0,cA 3 false] (U [bf 4 0 2,aV 5 1 4,a5 6 .lss 5 0,F 7 6,⟨some 8,some (7,false),.dY 0 (.t 2)⟩,⟨some 9,some (7,false),.load 1 false (.t 8)⟩,⟨some 10,some (7,false),.load 1 false (.t 1)⟩,⟨some 11,some (7,false),.len (.t 10)⟩,⟨some 12,some (7,false),.bin .geq (.t 9) (.t 11)⟩,eh 13 7 12,F 14 13,⟨some 15,some (14,false),.dY 1 (.t 2)⟩,⟨some 16,some (14,false),.load 1 false (.t 15)⟩,⟨some 17,some (14,false),.bin .lss (.t 16) (.c (.J (.int .i64 (-1))))⟩,eh 18 14 17,F 19 18,⟨some 20,some (19,false),.dY 1 (.t 2)⟩,⟨some 21,some (19,false),.load 1 false (.t 20)⟩,⟨some 22,some (19,false),.load 1 false (.t 1)⟩,⟨some 23,some (19,false),.len (.t 22)⟩,⟨some 24,some (19,false),.bin .geq (.t 21) (.t 23)⟩,eh 25 19 24,F 26 25,⟨some 27,some (26,false),.dY 2 (.t 2)⟩,⟨some 28,some (26,false),.load 1 false (.t 27)⟩,⟨some 29,some (26,false),.bin .lss (.t 28) (.c (al 0))⟩,eh 30 26 29,F 31 30,⟨some 32,some (31,false),.dY 2 (.t 2)⟩,⟨some 33,some (31,false),.load 1 false (.t 32)⟩,⟨some 34,some (31,false),.bin .geq (.t 33) (.c (al 10))⟩,eh 35 31 34,F 36 35,⟨some 37,some (36,false),.dY 3 (.t 2)⟩,⟨some 38,some (36,false),.load 1 false (.t 37)⟩,⟨some 39,some (36,false),.call KJ [(.t 38)]⟩,⟨some 40,some (36,false),.un .not (.t 39)⟩,eh 41 36 40,F 3 41] .ret))
abbrev Im:Int×Int×Int->List Data:=λ(x,a,b)=>[.int .i64 x,.int .i64 a,.int .i64 b]
def Rq:=cj Im λ(x,a,b)=>some (.same (.bool (decide (a<=x)&&decide (x<=b))))
theorem Rr:∀a b,Im a=Im b->a=b:=by
  rintro⟨a6,cW,dh⟩ ⟨bY,de,eH⟩ h;simp only[a3,Data.int.injEq,Data.agg.injEq,Data.Y.injEq,Data.bool.injEq,Data.str.injEq,Data.ptr.injEq,Data.cH.injEq,e6,true_and,and_true] at h ⊢
  first|exact h|simpa [yx,and_assoc] using h|grind
@[go_sem] theorem aMk (x:Int)(a:Int)(b:Int):Rq [.int .i64 x,.int .i64 a,.int .i64 b]=some (.same (.bool (decide (a<=x)&&decide (x<=b)))):=ct Rr (x,a,b)
theorem ayI (T:bb)  (x:Int) (a:Int) (b:Int):WP T Xk (.same (.bool (decide (a<=x)&&decide (x<=b)))) [.J (.int .i64 x),.J (.int .i64 a),.J (.int .i64 b)]:=by
 refine cu ?_;simp only[Xk];rcases aI:decide (a<=x)
 ·have c2:decide (x>=a)=false:=aI;refine aX ?_;repeat' (intro h<;>simp only[h,go_sem,go_sem_proc,aI,c2,fx]<;>try refine ax ?_ ?_)
 ·have c2:decide (x>=a)=true:=aI;refine aX ?_;repeat' (intro h<;>simp only[h,go_sem,go_sem_proc,aI,c2,gQ]<;>try refine ax ?_ ?_)
abbrev aau:Int->List Data:=λ(x:Int)=>[.int .i64 x,.ptr [.fn vx []]]
def aav:=cj aau λ(x:Int)=>some (.same (.bool (!gn x)))
theorem ayJ:∀a b,aau a=aau b->a=b:=by
  intro a6 bY h;simp only[a3,Data.int.injEq,Data.agg.injEq,Data.Y.injEq,Data.bool.injEq,Data.str.injEq,Data.ptr.injEq,Data.cH.injEq,e6,true_and,and_true] at h ⊢
  first|exact h|simpa [yx,and_assoc] using h|grind
@[go_sem] theorem ayK (x:Int):aav [.int .i64 x,.ptr [.fn vx []]]=some (.same (.bool (!gn x))):=ct ayJ x
theorem ayL (T:bb)(aaw:T vx=aU Rq)(x:Int):WP T Xl (.same (.bool (!gn x))) [.J (.int .i64 x),.J (.ptr [.fn vx []])]:=by
 refine cu ?_;simp only[Xl];unfold gn;refine aX ?_;repeat' (intro h<;>simp only[h,go_sem,go_sem_proc,aaw]<;>try refine ax ?_ ?_)
abbrev aax:Int×Int×Int×Int×Int->List Data:=λ(a,b,k,x,n)=>[.agg [.int .i64 a,.int .i64 b,.int .i64 k,.int .i64 x],.ptr [.fn vx []],.ptr [.int .i64 n]]
def aay:=cj aax λ(a,b,k,x,n)=>cM (0<=n/\n<=1000000) (.same (.bool (!hP n (a,b,k,x))))
theorem ayM:∀a b,aax a=aax b->a=b:=by
  rintro⟨cW,dh,b9,a6,iP⟩ ⟨de,eH,dc,bY,jO⟩ h;simp only[a3,Data.int.injEq,Data.agg.injEq,Data.Y.injEq,Data.bool.injEq,Data.str.injEq,Data.ptr.injEq,Data.cH.injEq,e6,true_and,and_true] at h ⊢
  first|exact h|simpa [yx,and_assoc] using h|grind
@[go_sem] theorem ayN (a:Int)(b:Int)(k:Int)(x:Int)(n:Int)(H:0<=n/\n<=1000000):aay [.agg [.int .i64 a,.int .i64 b,.int .i64 k,.int .i64 x],.ptr [.fn vx []],.ptr [.int .i64 n]]=some (.same (.bool (!hP n (a,b,k,x)))):=(ct ayM (a,b,k,x,n)).trans (cR H _)
theorem ayO (T:bb)(aaw:T vx=aU Rq)(a:Int)(b:Int)(k:Int)(x:Int)(n:Int)(H:0<=n/\n<=1000000):WP T Xm (.same (.bool (!hP n (a,b,k,x)))) [.J (.agg [.int .i64 a,.int .i64 b,.int .i64 k,.int .i64 x]),.J (.ptr [.fn vx []]),.J (.ptr [.int .i64 n])]:=by
 refine cu ?_;simp only[Xm];have w:IntKind.i64.wrap (n-1)=n-1:=by rw[e2 _]
 have e:hP n (a,b,k,x)=((decide (0<=a)&&decide (a<=n-1))&&((decide (-1<=b)&&decide (b<=n-1))&&((decide (0<=k)&&decide (k<=9))&&(decide (0<=x)&&decide (x<=1000000000000000))))):=by
  rw[xe,MB];simp only[eW,decide_eq_true_eq];omega
 rw[e];rcases aI:(decide (0<=a)&&decide (a<=n-1))<;>rcases c2:(decide (-1<=b)&&decide (b<=n-1))<;>rcases c3:(decide (0<=k)&&decide (k<=9))<;>rcases c4:(decide (0<=x)&&decide (x<=1000000000000000))
 all_goals
      refine aX ?_;repeat' (intro h<;>simp only[h,go_sem,go_sem_proc,aaw,w,aI,c2,c3,c4]<;>try refine ax ?_ ?_)
def aaz:bP:=b8 15 3 [.t 6] (U [cA 6 false] (U [F 7 1,F 8 0,bo 9 .leq 7 8,F 10 9,⟨some 11,some (10,true),.cm (.t 0)⟩,⟨some 12,some (10,true),.cm (.t 2)⟩,⟨some 13,some (10,true),.bin .leq (.t 11) (.t 12)⟩,fN 14 10 13,F 6 14] .ret))
def aaA:bP:=b8 6 1 [.t 2] (U [cA 2 false] (U [F 3 0,(aD 4 (.call Eb [(.t 3),(.c (al 0)),(.c (al 1000000000000000))])),fh 5 4,F 2 5] .ret))
def aaB:bP:=b8 31 3 [.t 4] (U [dL 3 362003 0,cA 4 false] (U [bf 5 0 3,aV 6 1 5,aV 7 1 1,a5 8 .sub 7 1,(aD 9 (.call Eb [(.t 6),(.c (al 0)),(.t 8)])),fh 10 9,F 11 10,⟨some 12,some (11,false),.dY 1 (.t 3)⟩,⟨some 13,some (11,false),.load 1 false (.t 12)⟩,⟨some 14,some (11,false),.load 1 false (.t 1)⟩,⟨some 15,some (11,false),.bin .sub (.t 14) (.c (al 1))⟩,⟨some 16,some (11,false),.call Eb [(.t 13),(.c (.J (.int .i64 (-1)))),(.t 15)]⟩,⟨some 17,some (11,false),.un .not (.t 16)⟩,eh 18 11 17,F 19 18,⟨some 20,some (19,false),.dY 2 (.t 3)⟩,⟨some 21,some (19,false),.load 1 false (.t 20)⟩,⟨some 22,some (19,false),.call Eb [(.t 21),(.c (al 0)),(.c (al 9))]⟩,⟨some 23,some (19,false),.un .not (.t 22)⟩,eh 24 19 23,F 25 24,⟨some 26,some (25,false),.load 1 false (.t 2)⟩,⟨some 27,some (25,false),.dY 3 (.t 3)⟩,⟨some 28,some (25,false),.load 1 false (.t 27)⟩,⟨some 29,some (25,false),.jE (.t 26) [(.t 28)]⟩,eh 30 25 29,F 4 30] .ret))
def o5 (l:List Int):List Data:=[.Y (l.map ae)]
theorem aaC:∀a b:List Int,o5 a=o5 b->a=b:=by
 intro a b h;simp only[o5,a3,Data.Y.injEq,and_true] at h;exact map_inj e9 _ _ h
def ayP (a:List (List Int)):Prop:=D a<=1000000/\∀l∈a,D l<=1000000
def gB {α:Type}:List au->List α->Int->List α
 |c::cs,p::ps,dk=>if c.1==dk then p::gB cs ps dk else gB cs ps dk
 |_,_,_=>[]
theorem aks {α:Type}:∀(cs:List au) (ps:List α) (c:au) (p:α) (dk:Int),D cs=(D ps)->gB (cs++[c]) (ps++[p]) dk=gB cs ps dk++if c.1==dk then [p] else []
 | [],[],c,p,dk,_=>by simp only[jk,gB]
 | [],_::_,_,_,_,h=>by simp at h
 |_::_,[],_,_,_,h=>by simp at h
 |a::cs,b::ps,c,p,dk,h=>by
  have aA:=aks cs ps c p dk (by simpa using h);simp only[jR,gB,aA]
  split<;>rfl
theorem ayQ {α:Type}(cs:List au)(aQ:au->α)(dk:Int):gB cs (cs.map aQ) dk=(bK cs dk).map aQ:=by
 unfold bK
 induction cs with
 |nil=>rfl
 |cons c cs aA =>
  rw[ev,gB,aA]
  by_cases h:(c.1==dk)=true
  ·rw[ad h,aaD,ad h];rfl
  ·rw[ah h,aaD,ah h]
theorem akt {α:Type}:∀(cs:List au) (ps:List α) (dk:Int),(gB cs ps dk).length<=D cs
 | [],_,_=>by simp[gB]
 |_::_,[],_=>by simp[gB]
 |a::cs,b::ps,dk=>by
  have aA:=akt cs ps dk;rw[gB]
  split<;>simp<;>omega
theorem aaE {α β:Type}(f:α->β):∀(cs:List au) (ps:List α) (dk:Int),gB cs (ps.map f) dk=(gB cs ps dk).map f
 | [],_,_=>by simp[gB]
 |_::_,[],_=>by simp[gB]
 |a::cs,b::ps,dk=>by
  have aA:=aaE f cs ps dk;rw[ev,gB,gB,aA]
  split<;>simp
theorem aaF {α:Type}:∀(cs:List au) (ps:List α) (dk:Int),D ps=(D cs)->(gB cs ps dk).length=(bK cs dk).length
 | [],_,_,_=>by simp[gB,bK]
 |_::_,[],_,h=>by simp at h
 |a::cs,b::ps,dk,h=>by
  have aA:=aaF cs ps dk (by simpa using h);unfold bK at aA ⊢;rw[gB,aaD]
  split<;>simp[aA]
theorem Rs {α:Type}{x:α}:∀{cs:List au} {ps:List α} {dk:Int},x∈gB cs ps dk->x∈ps
 | [],_,_,h=>by simp[gB] at h
 |_::_,[],_,h=>by simp[gB] at h
 |a::cs,b::ps,dk,h=>by
  rw[gB] at h
  split at h
  ·rcases hK.1 h with rfl|h
   ·simp
   ·exact g6 _ (Rs h)
  ·exact g6 _ (Rs h)
def ih (l:List au)(q:Nat->Rat):Nat->Int
 |0=>10
 |k+1=>match l[k]? with
  |some c=>if q k<(c.2.2.2:Rat) then min (ih l q k) c.2.2.1 else ih l q k
  |none=>ih l q k
theorem aku {l:List au}{q:Nat->Rat}(h:∀c∈l,0<=c.2.2.1/\c.2.2.1<10)(k:Nat):0<=ih l q k/\ih l q k<=10:=by
 induction k with
 |zero=>exact⟨show (0:Int)<=10 by decide,show (10:Int)<=10 by decide⟩
 |succ k aA =>
  unfold ih
  split
  ·rename_i c H;have:=h c (ee H)
   split<;>omega
  ·exact aA
theorem ayR {l:List au}{q:Nat->Rat}(h:∀c∈l,0<=c.2.2.1/\c.2.2.1<10)(k:Nat):ih l q k<10↔∃i,i<k/\∃c,l[i]?=some c/\q i<(c.2.2.2:Rat):=by
 induction k with
 |zero=>exact⟨λh=>absurd h (show ¬ (10:Int)<10 by decide),fun⟨i,h,_⟩=>by omega⟩
 |succ k aA =>
  unfold ih
  split
  ·rename_i c H;have ag:=h c (ee H);have O:=aku (q:=q) h k
   by_cases hq:q k<(c.2.2.2:Rat)
   ·rw[ad hq];exact⟨λ_=>⟨k,by omega,c,H,hq⟩,λ_=>by omega⟩
   ·rw[ah hq,aA]
    constructor
    ·rintro⟨i,G,I⟩;exact⟨i,by omega,I⟩
    ·rintro⟨i,G,c',I,af⟩
     by_cases aaG:i=k
     ·subst aaG;rw[H] at I;cases I;exact absurd af hq
     ·exact⟨i,by omega,c',I,af⟩
  ·rename_i H;rw[aA]
   constructor
   ·rintro⟨i,G,I⟩;exact⟨i,by omega,I⟩
   ·rintro⟨i,G,c',I,af⟩
    by_cases aaG:i=k
    ·subst aaG;rw[H] at I;cases I
    ·exact⟨i,by omega,c',I,af⟩
structure Rt (l:List au) (q:List Rat):Prop where
 own:ko l
 len:(D q)=D l
 CU:∀x∈q,di x
def Io (l:List au)(q:List Rat):Data:=if ih l (λi=>q.getD i 0) (D l)<10 then .cH [.int .i64 (ih l (λi=>q.getD i 0) (D l)),.bool true] else .cH [.int .i64 0,.bool false]
def qe (cs:List au)(ps:List Rat)(i:Int):Int:=ih (bK cs i) (λk=>(gB cs ps i).getD k 0) (bK cs i).length
def r5 (cs:List au)(ps:List Rat)(i:Int):Int:=if qe cs ps i<10 then qe cs ps i else 0
theorem ayS (cs:List au)(ps:List Rat)(i:Int):Io (bK cs i) (gB cs ps i)=.cH [.int .i64 (r5 cs ps i),.bool (decide (qe cs ps i<10))]:=by
 unfold Io r5 qe
 split
 ·rename_i h;rw[lQ h]
 ·rename_i h;rw[lj h]
def q7 (cs:List au)(ps:List Rat)(set:List Int)(i:Int):Bool:=cs.any λc=>c.1==i&&(c.2.2.1==r5 cs ps i&&(decide (c.2.2.2>0) && !decide (c.2.1∈set)))
structure lN (E:List Int) (cs:List au) (ps:List Rat):Prop where
 len:(D ps)=D cs
 l:(D cs)<=2000
 n:(D E)<=60
 own:∀i:Int,ko (bK cs i)
 CU:∀x∈ps,di x
theorem lN.short {E:List Int}{cs:List au}{ps:List Rat}(h:lN E cs ps)(i:Int):Rt (bK cs i) (gB cs ps i):=⟨h.own i,aaF cs ps i h.len,λx Q=>h.CU x (Rs Q)⟩
def eL (E:List Int)(cs:List au)(aq bE:List bc)(aF:List (List Int)):List Data:=[.Y (E.map ae),.Y (cs.map ck),.Y (aq.map aH),.Y (bE.map aH),.Y (aF.map o5)]
theorem AU {E Ij:List Int}{cs nm:List au}{aq ln bE uG:List bc}{aF AR:List (List Int)}(h:eL E cs aq bE aF=eL Ij nm ln uG AR):E=Ij/\cs=nm/\aq=ln/\bE=uG/\aF=AR:=by
 simp only[eL,a3,Data.Y.injEq,and_true] at h;exact⟨map_inj e9 _ _ h.1,map_inj q5 _ _ h.2.1,map_inj mM _ _ h.2.2.1,map_inj mM _ _ h.2.2.2.1,map_inj aaC _ _ h.2.2.2.2⟩
abbrev aaH:Int×(List bc)×Nat->List Data:=λ(z,h,i)=>[.int .i64 z,.ptr [.Y (h.map aH)],.ptr [.int .i64 i]]
def aaI:=cj aaH λ(z,h,i)=>cM (dB z/\i<D h/\fq h) (.same (.bool (decide (lF (h.getD i fm) (ao (z:Rat))<0))))
theorem ayT:∀a b,aaH a=aaH b->a=b:=by
  rintro⟨jY,G,i1⟩ ⟨k6,I,i2⟩ h;simp only[a3,Data.int.injEq,Data.ptr.injEq,Data.Y.injEq,and_true,true_and] at h;exact dS h.1 (dS (map_inj mM _ _ h.2.1) (by have:=h.2.2;dsimp only;omega))
@[go_sem] theorem ayU (z:Int)(h:List bc)(i:Nat)(H:dB z/\i<D h/\fq h):aaI [.int .i64 z,.ptr [.Y (h.map aH)],.ptr [.int .i64 i]]=some (.same (.bool (decide (lF (h.getD i fm) (ao (z:Rat))<0)))):=(ct ayT (z,h,i)).trans (cR H _)
theorem ayV (T:bb)(hG:T pt=aU wb)(dm:T m7=aU rS)(z:Int)(h:List bc)(i:Nat)(H:dB z/\i<D h/\fq h):WP T Xj (.same (.bool (decide (lF (h.getD i fm) (ao (z:Rat))<0)))) [.J (.int .i64 z),.J (.ptr [.Y (h.map aH)]),.J (.ptr [.int .i64 i])]:=by
 refine cu ?_;simp only[Xj];obtain⟨aW,M,cU⟩:=H;have hw:=CW z aW;obtain⟨x,Q⟩:∃x,h[i]?=some x:=⟨_,bs M⟩;have Hf:h.getD i fm=x:=by rw[dX,Q];rfl
 obtain⟨r6,pJ⟩:=cU.2 x (ee Q);obtain⟨wi,wj⟩:=k9 (tb aW);rw[Hf];generalize ao (z:Rat)=Z at *;obtain⟨⟨cW,de⟩,⟨ej,fa⟩⟩:=Z;obtain⟨⟨dh,eH⟩,⟨jz,lM⟩⟩:=x;have hM:=agA dh eH jz lM cW de ej fa ⟨r6,pJ,wi,wj⟩;simp only[aH] at hw;simp only[go_sem,go_sem_proc,hG,dm,hw,Q,hM,aH,ak,bj];repeat' (first|refine ax ?_ ?_|fail)<;>intro h<;>simp only[h,go_sem,go_sem_proc,hG,dm,hw,Q,hM,aH,ak,bj]
def Ru:=cj wV λ(x:Int)=>some (.same (.bool (gn x)))
@[go_sem] theorem aMl (x:Int):Ru [.int .i64 x]=some (.same (.bool (gn x))):=ct z1 x
theorem ayW (T:bb)  (x:Int):WP T aas (.same (.bool (gn x))) [.J (.int .i64 x)]:=by
 refine cu ?_;simp only[aas];unfold gn;rcases aI:decide (0<=x)
 ·have c2:decide (x>=0)=false:=aI;refine aX ?_;repeat' (intro h<;>simp only[h,go_sem,go_sem_proc,aI,c2,fx]<;>try refine ax ?_ ?_)
 ·have c2:decide (x>=0)=true:=aI;refine aX ?_;repeat' (intro h<;>simp only[h,go_sem,go_sem_proc,aI,c2,gQ]<;>try refine ax ?_ ?_)
def aaJ:=cj wV λ(x:Int)=>some (.same (.bool (!gn x)))
@[go_sem] theorem ayX (x:Int):aaJ [.int .i64 x]=some (.same (.bool (!gn x))):=ct z1 x
theorem ayY (T:bb)(MI:T KJ=aU Ru)(x:Int):WP T aar (.same (.bool (!gn x))) [.J (.int .i64 x)]:=by
 refine cu ?_;simp only[aar];refine aX ?_;repeat' (intro h<;>simp only[h,go_sem,go_sem_proc,MI]<;>try refine ax ?_ ?_)
def Rv:=cj Im λ(x,a,b)=>some (.same (.bool (decide (a<=x)&&decide (x<=b))))
@[go_sem] theorem aMm (x:Int)(a:Int)(b:Int):Rv [.int .i64 x,.int .i64 a,.int .i64 b]=some (.same (.bool (decide (a<=x)&&decide (x<=b)))):=ct Rr (x,a,b)
theorem ayZ (T:bb)  (x:Int) (a:Int) (b:Int):WP T aaz (.same (.bool (decide (a<=x)&&decide (x<=b)))) [.J (.int .i64 x),.J (.int .i64 a),.J (.int .i64 b)]:=by
 refine cu ?_;simp only[aaz];rcases aI:decide (a<=x)
 ·refine aX ?_;repeat' (intro h<;>simp only[h,go_sem,go_sem_proc,aI,fx]<;>try refine ax ?_ ?_)
 ·refine aX ?_;repeat' (intro h<;>simp only[h,go_sem,go_sem_proc,aI,gQ]<;>try refine ax ?_ ?_)
def Rw:=cj wV λ(x:Int)=>some (.same (.bool (!gn x)))
@[go_sem] theorem ay0 (x:Int):Rw [.int .i64 x]=some (.same (.bool (!gn x))):=ct z1 x
theorem ay1 (T:bb)(aaK:T Eb=aU Rv)(x:Int):WP T aaA (.same (.bool (!gn x))) [.J (.int .i64 x)]:=by
 refine cu ?_;simp only[aaA];unfold gn;refine aX ?_;repeat' (intro h<;>simp only[h,go_sem,go_sem_proc,aaK]<;>try refine ax ?_ ?_)
def Rx:=cj Im λ(x,a,b)=>some (.same (.bool (decide (a<=x)&&decide (x<=b))))
@[go_sem] theorem aMn (x:Int)(a:Int)(b:Int):Rx [.int .i64 x,.int .i64 a,.int .i64 b]=some (.same (.bool (decide (a<=x)&&decide (x<=b)))):=ct Rr (x,a,b)
theorem ay2 (T:bb)  (x:Int) (a:Int) (b:Int):WP T Xt (.same (.bool (decide (a<=x)&&decide (x<=b)))) [.J (.int .i64 x),.J (.int .i64 a),.J (.int .i64 b)]:=by
 refine cu ?_;simp only[Xt];rcases aI:decide (a<=x)
 ·refine aX ?_;repeat' (intro h<;>simp only[h,go_sem,go_sem_proc,aI,fx]<;>try refine ax ?_ ?_)
 ·refine aX ?_;repeat' (intro h<;>simp only[h,go_sem,go_sem_proc,aI,gQ]<;>try refine ax ?_ ?_)
def Ry:=cj wV λ(x:Int)=>some (.same (.bool (gn x)))
@[go_sem] theorem aMo (x:Int):Ry [.int .i64 x]=some (.same (.bool (gn x))):=ct z1 x
theorem ay3 (T:bb)(aaL:T D7=aU Rx)(x:Int):WP T Xs (.same (.bool (gn x))) [.J (.int .i64 x)]:=by
 refine cu ?_;simp only[Xs];unfold gn;refine aX ?_;repeat' (intro h<;>simp only[h,go_sem,go_sem_proc,aaL]<;>try refine ax ?_ ?_)
abbrev aaM:Int->List Data:=λ(x:Int)=>[.int .i64 x,.ptr [.fn nw []]]
def aaN:=cj aaM λ(x:Int)=>some (.same (.bool (!gn x)))
theorem ay4:∀a b,aaM a=aaM b->a=b:=by
  intro a6 bY h;simp only[a3,Data.int.injEq,Data.agg.injEq,Data.Y.injEq,Data.bool.injEq,Data.str.injEq,Data.ptr.injEq,Data.cH.injEq,e6,true_and,and_true] at h ⊢
  first|exact h|simpa [yx,and_assoc] using h|grind
@[go_sem] theorem ay5 (x:Int):aaN [.int .i64 x,.ptr [.fn nw []]]=some (.same (.bool (!gn x))):=ct ay4 x
theorem ay6 (T:bb)(aaO:T nw=aU Ry)(x:Int):WP T XE (.same (.bool (!gn x))) [.J (.int .i64 x),.J (.ptr [.fn nw []])]:=by
 refine cu ?_;simp only[XE];refine aX ?_;repeat' (intro h<;>simp only[h,go_sem,go_sem_proc,aaO]<;>try refine ax ?_ ?_)
abbrev aaP:Int×(List Int)×(List au)×(List bc)×(List Rat)×(List (List Int))×(List Int)->List Data:=λ(x,E,cs,aq,ps,aF,set)=>[.int .i64 x,.ptr (eL E cs aq (ps.map ao) aF),.ptr [.Y (set.map ae)]]
def Ip:=cj aaP λ(x,E,cs,aq,ps,aF,set)=>cM (lN E cs ps/\D set<=1000000) (.same (.bool (q7 cs ps set x)))
theorem ay7:∀a b,aaP a=aaP b->a=b:=by
  rintro⟨a6,tc,td,oL,Iq,AV,akv⟩ ⟨bY,te,nr,oM,Ir,AW,akw⟩ h;simp only[a3,Data.int.injEq,Data.ptr.injEq,Data.Y.injEq,and_true,true_and] at h;obtain⟨G,cz,I⟩:=h;obtain⟨rfl,rfl,rfl,cf,rfl⟩:=AU cz;rw[G,map_inj e9 _ _ I,map_inj (λ_ _ aT=>rR aT) _ _ cf]
@[go_sem] theorem akx (x:Int)(E:List Int)(cs:List au)(aq:List bc)(ps:List Rat)(aF:List (List Int))(set:List Int)(H:lN E cs ps/\D set<=1000000):Ip [.int .i64 x,.ptr (eL E cs aq (ps.map ao) aF),.ptr [.Y (set.map ae)]]=some (.same (.bool (q7 cs ps set x))):=(ct ay7 (x,E,cs,aq,ps,aF,set)).trans (cR H _)
theorem Is (T:bb)(id:FuncId)(eP:List Data)(aQ:List Data->Option eN)(cL:T id=aU aQ)(p:Int->Bool)(l:List Int)(aw:(D l)<=1000000)(e8:∀x∈l,aQ (.int .i64 x::eP)=some (.same (.bool (p x)))):WP T KQ (.same (.int .i64 (kD p l))) [.J (.Y (l.map ae)),.J (.fn id eP)]:=by
 refine cu ?_;simp only[KQ];simp only[go_sem,go_sem_proc,ak];refine dd [0,1,7] [] (λ(i:Nat) tm mem=>i<=D l/\(∀x∈l.take i,p x=false)/\tm 8=.J (.int .i64 i)) (λi=>D l-i) 0 (by refine⟨ft _,by simp,rfl⟩) ?_;intro vs ms aP aO;simp only[go_sem,go_sem_proc,ak] at aP aO;subst aP aO;rintro i tm mem O hm ⟨M,fg,ca⟩;simp only[go_sem,go_sem_proc,a3] at O hm;obtain⟨ar,G,bQ⟩:=O;have hM:∀m:Mem,(eP.map R.J).mapM (cC 6 m)=some eP:=λm=>tP (cC 6 m) (λd=>rfl) eP;rcases dn (i<D l) with az|b4
 ·have Q:=bs az;have mN:=e8 _ (m2 az);have cn:=λh=>Lx (p:=p) fg Q h;have hR:=λh=>P4 (p:=p) fg Q h;generalize l[i]=x at *;have hs:decide ((i:Int)<(D l:Int))=true:=c6;have hw:=eA (i:=i) (by omega);rcases ag:p x
  ·rw[ag] at mN;simp only[go_sem,go_sem_proc,cL,ar,G,bQ,ca,Q,hs,hw,mN,hM,ae,ak,bj,ky];repeat' (first|refine ax ?_ ?_|fail)<;>intro h<;>simp only[h,go_sem,go_sem_proc,cL,ar,G,bQ,ca,Q,hs,hw,mN,hM,ae,ak,bj,ky]
   exact⟨i+1,by omega,by omega,hR ag,rfl⟩
  ·rw[ag] at mN;rw[cn ag];simp only[go_sem,go_sem_proc,cL,ar,G,bQ,ca,Q,hs,hw,mN,hM,ae,ak,bj,ky];repeat' (first|refine ax ?_ ?_|fail)<;>intro h<;>simp only[h,go_sem,go_sem_proc,cL,ar,G,bQ,ca,Q,hs,hw,mN,hM,ae,ak,bj,ky]
 ·have hs:decide ((i:Int)<(D l:Int))=false:=cY;obtain rfl:i=D l:=by omega
  rw[lC] at fg;rw[P3 fg];simp only[go_sem,go_sem_proc,ar,G,bQ,ca,hs,ak];repeat' (first|refine ax ?_ ?_|fail)<;>intro h<;>simp only[h,go_sem,go_sem_proc,ar,G,bQ,ca,hs,ak]
inductive AX where
 |right
 |day
 |hold
 |solve (h:List bc) (i:Nat)
 |r7
 |C1 (E:List Int) (cs:List au) (aq:List bc) (ps:List Rat) (aF:List (List Int)) (set:List Int)
def r8:AX->Data
 |.right => .fn KG [.ptr [.fn vx []]]
 |.day => .fn GD []
 |.hold => .fn wU []
 |.solve h i => .fn D4 [.ptr [.Y (h.map aH)],.ptr [.int .i64 i]]
 |.r7 => .fn BN [.ptr [.fn nw []]]
 |.C1 E cs aq ps aF set => .fn tV [.ptr (eL E cs aq (ps.map ao) aF),.ptr [.Y (set.map ae)]]
theorem ay8:∀a b:AX,r8 a=r8 b->a=b:=by
 intro a b e
 cases a<;>cases b
 all_goals first|rfl|(simp[r8,KG,GD,D4,wU,BN,tV] at e;done)|skip
 ·simp only[r8,Data.fn.injEq,a3,Data.ptr.injEq,Data.Y.injEq,Data.int.injEq,and_true,true_and] at e;rw[map_inj mM _ _ e.1,Int.ofNat.inj e.2]
 ·simp only[r8,Data.fn.injEq,a3,Data.ptr.injEq,Data.Y.injEq,and_true,true_and] at e;obtain⟨cz,I⟩:=e;obtain⟨rfl,rfl,rfl,cf,rfl⟩:=AU cz;rw[map_inj e9 _ _ I,map_inj (λ_ _ aT=>rR aT) _ _ cf]
def qf:AX->Int->Bool
 |.right,x => !gn x
 |.day,x => !gn x
 |.hold,x => !gn x
 |.solve h i,x=>decide (lF (h.getD i fm) (ao (x:Rat))<0)
 |.r7,x => !gn x
 |.C1 _ cs _ ps _ set,x=>q7 cs ps set x
def It (l:List Int):AX->Prop
 |.right=>True
 |.day=>GD<900000
 |.hold=>wU<900000
 |.solve h i=>D4<900000/\i<D h/\fq h/\∀x∈l,dB x
 |.r7=>BN<900000
 |.C1 E cs _ ps _ set=>tV<900000/\lN E cs ps/\D set<=1000000
abbrev Rz:(List Int)×AX->List Data:=λ(l,c)=>[.Y (l.map ae),r8 c]
def AY:=cj Rz λ(l,c)=>cM (D l<=1000000/\It l c) (.same (.int .i64 (kD (qf c) l)))
theorem aky:∀a b,Rz a=Rz b->a=b:=by
  rintro⟨ei,aI⟩ ⟨ai,c2⟩ h;simp only[a3,Data.Y.injEq,and_true] at h;exact dS (map_inj e9 _ _ h.1) (ay8 _ _ h.2)
@[go_sem] theorem akz (l:List Int)(c:AX)(H:(D l)<=1000000/\It l c):AY [.Y (l.map ae),r8 c]=some (.same (.int .i64 (kD (qf c) l))):=(ct aky (l,c)).trans (cR H _)
theorem ay9 (T:bb)(aza:T KG=aU aav)(azb:GD<900000->T GD=aU aaJ)(aaQ:wU<900000->T wU=aU Rw)(azc:D4<900000->T D4=aU aaI)(azd:BN<900000->T BN=aU aaN)(MJ:tV<900000->T tV=aU Ip)(l:List Int)(c:AX)(H:(D l)<=1000000/\It l c):WP T KQ (.same (.int .i64 (kD (qf c) l))) [.J (.Y (l.map ae)),.J (r8 c)]:=by
 refine cu ?_;simp only[KQ];obtain⟨aw,cU⟩:=H
 cases c with
 |right=>exact qT (Is T _ _ _ aza (qf .right) l aw λx _=>ayK x)
 |day=>exact qT (Is T _ _ _ (azb cU) (qf .day) l aw λx _=>ayX x)
 |hold=>exact qT (Is T _ _ _ (aaQ cU) (qf .hold) l aw λx _=>ay0 x)
 |solve h k=>exact qT (Is T _ _ _ (azc cU.1) (qf (.solve h k)) l aw λx Q=>ayU x h k ⟨cU.2.2.2 x Q,cU.2.1,cU.2.2.1⟩)
 |r7=>exact qT (Is T _ _ _ (azd cU) (qf .r7) l aw λx _=>ay5 x)
 |C1 E cs aq ps aF set=>exact qT (Is T _ _ _ (MJ cU.1) (qf (.C1 E cs aq ps aF set)) l aw λx _=>akx x E cs aq ps aF set cU.2)
def RA:=cj Rz λ(l,c)=>cM (D l<=1000000/\It l c) (.same (.bool (l.any (qf c))))
@[go_sem] theorem akA (l:List Int)(c:AX)(H:(D l)<=1000000/\It l c):RA [.Y (l.map ae),r8 c]=some (.same (.bool (l.any (qf c)))):=(ct aky (l,c)).trans (cR H _)
theorem aze (T:bb)(nh:T wR=aU AY)(l:List Int)(c:AX)(H:(D l)<=1000000/\It l c):WP T VD (.same (.bool (l.any (qf c)))) [.J (.Y (l.map ae)),.J (r8 c)]:=by
 refine cu ?_;simp only[VD];rw[<-Ly];refine aX ?_;repeat' (intro h<;>simp only[h,go_sem,go_sem_proc,nh,H]<;>try refine ax ?_ ?_)
abbrev aaR:Int×Int×Int×Int×(List Int)->List Data:=λ(a,b,k,x,E)=>[.agg [.int .i64 a,.int .i64 b,.int .i64 k,.int .i64 x],.ptr [.Y (E.map ae)]]
def aaS:=cj aaR λ(a,b,k,x,E)=>cM (D E<=1000000) (.same (.bool (!hP (D E) (a,b,k,x))))
theorem azf:∀a b,aaR a=aaR b->a=b:=by
  rintro⟨cW,dh,b9,a6,tc⟩ ⟨de,eH,dc,bY,te⟩ h;simp only[a3,Data.agg.injEq,Data.int.injEq,Data.ptr.injEq,Data.Y.injEq,and_true,true_and] at h;obtain⟨⟨G,I,af,aS⟩,bm⟩:=h;rw[G,I,af,aS,map_inj e9 _ _ bm]
@[go_sem] theorem azg (a:Int)(b:Int)(k:Int)(x:Int)(E:List Int)(H:(D E)<=1000000):aaS [.agg [.int .i64 a,.int .i64 b,.int .i64 k,.int .i64 x],.ptr [.Y (E.map ae)]]=some (.same (.bool (!hP (D E) (a,b,k,x)))):=(ct azf (a,b,k,x,E)).trans (cR H _)
theorem azh (T:bb)(MI:T KJ=aU Ru)(a:Int)(b:Int)(k:Int)(x:Int)(E:List Int)(H:(D E)<=1000000):WP T aat (.same (.bool (!hP (D E) (a,b,k,x)))) [.J (.agg [.int .i64 a,.int .i64 b,.int .i64 k,.int .i64 x]),.J (.ptr [.Y (E.map ae)])]:=by
 refine cu ?_;simp only[aat]
 by_cases ab:hP (D E) (a,b,k,x)=true
 ·have Gd:=MB.1 ab;dsimp only at Gd;have aI:decide (a<0)=false:=cY;have c2:decide (a>=(D E:Int))=false:=cY;have c3:decide (b < -1)=false:=cY;have c4:decide (b>=(D E:Int))=false:=cY;have Il:decide (k<0)=false:=cY;have aaq:decide (k>=10)=false:=cY;have MK:gn x=true:=Rf.2 (by omega);refine aX ?_;repeat' (intro h<;>simp only[h,go_sem,go_sem_proc,MI,ab,aI,c2,c3,c4,Il,aaq,MK,ak,cP]<;>try refine ax ?_ ?_)
 ·have aJ:hP (D E) (a,b,k,x)=false:=by simpa using ab
  rw[MB] at ab;dsimp only at ab;rcases MK:gn x
  ·refine aX ?_;repeat' (intro h<;>simp only[h,go_sem,go_sem_proc,MI,aJ,MK,ak,cP,dD]<;>try refine ax ?_ ?_)
  ·have aMp:=Rf.1 MK;refine aX ?_;repeat' (intro h<;>simp only[h,go_sem,go_sem_proc,MI,aJ,MK,ak,cP,dD]<;>try refine ax ?_ ?_)
   all_goals (exfalso;simp only[decide_eq_false_iff_not] at *;omega)
abbrev aaT:Int×Int×Int×Int×Int->List Data:=λ(a,b,k,x,n)=>[.agg [.int .i64 a,.int .i64 b,.int .i64 k,.int .i64 x],.ptr [.int .i64 n],.ptr [.fn wU []]]
def aaU:=cj aaT λ(a,b,k,x,n)=>cM (0<=n/\n<=1000000) (.same (.bool (!hP n (a,b,k,x))))
theorem azi:∀a b,aaT a=aaT b->a=b:=by
  rintro⟨cW,dh,b9,a6,iP⟩ ⟨de,eH,dc,bY,jO⟩ h;simp only[a3,Data.int.injEq,Data.agg.injEq,Data.Y.injEq,Data.bool.injEq,Data.str.injEq,Data.ptr.injEq,Data.cH.injEq,e6,true_and,and_true] at h ⊢
  first|exact h|simpa [yx,and_assoc] using h|grind
@[go_sem] theorem azj (a:Int)(b:Int)(k:Int)(x:Int)(n:Int)(H:0<=n/\n<=1000000):aaU [.agg [.int .i64 a,.int .i64 b,.int .i64 k,.int .i64 x],.ptr [.int .i64 n],.ptr [.fn wU []]]=some (.same (.bool (!hP n (a,b,k,x)))):=(ct azi (a,b,k,x,n)).trans (cR H _)
theorem azk (T:bb)(aaK:T Eb=aU Rv)(aaQ:T wU=aU Rw)(a:Int)(b:Int)(k:Int)(x:Int)(n:Int)(H:0<=n/\n<=1000000):WP T aaB (.same (.bool (!hP n (a,b,k,x)))) [.J (.agg [.int .i64 a,.int .i64 b,.int .i64 k,.int .i64 x]),.J (.ptr [.int .i64 n]),.J (.ptr [.fn wU []])]:=by
 refine cu ?_;simp only[aaB];have w:IntKind.i64.wrap (n-1)=n-1:=by rw[e2 _]
 have e:hP n (a,b,k,x)=((decide (0<=a)&&decide (a<=n-1))&&((decide (-1<=b)&&decide (b<=n-1))&&((decide (0<=k)&&decide (k<=9))&&gn x))):=by
  rw[xe,MB];simp only[eW,decide_eq_true_eq,Rf];omega
 rw[e];rcases aI:(decide (0<=a)&&decide (a<=n-1))<;>rcases c2:(decide (-1<=b)&&decide (b<=n-1))<;>rcases c3:(decide (0<=k)&&decide (k<=9))<;>rcases c4:gn x
 all_goals
      refine aX ?_;repeat' (intro h<;>simp only[h,go_sem,go_sem_proc,aaK,aaQ,w,aI,c2,c3,c4]<;>try refine ax ?_ ?_)
abbrev aaV:Int×Int×Int×Int×Int->List Data:=λ(a,b,k,x,n)=>[.agg [.int .i64 a,.int .i64 b,.int .i64 k,.int .i64 x],.ptr [.int .i64 n],.ptr [.fn nw []]]
def aaW:=cj aaV λ(a,b,k,x,n)=>cM (0<=n/\n<=1000000) (.same (.bool (hP n (a,b,k,x))))
theorem azl:∀a b,aaV a=aaV b->a=b:=by
  rintro⟨cW,dh,b9,a6,iP⟩ ⟨de,eH,dc,bY,jO⟩ h;simp only[a3,Data.int.injEq,Data.agg.injEq,Data.Y.injEq,Data.bool.injEq,Data.str.injEq,Data.ptr.injEq,Data.cH.injEq,e6,true_and,and_true] at h ⊢
  first|exact h|simpa [yx,and_assoc] using h|grind
@[go_sem] theorem aMq (a:Int)(b:Int)(k:Int)(x:Int)(n:Int)(H:0<=n/\n<=1000000):aaW [.agg [.int .i64 a,.int .i64 b,.int .i64 k,.int .i64 x],.ptr [.int .i64 n],.ptr [.fn nw []]]=some (.same (.bool (hP n (a,b,k,x)))):=(ct azl (a,b,k,x,n)).trans (cR H _)
theorem azm (T:bb)(aaL:T D7=aU Rx)(aaO:T nw=aU Ry)(a:Int)(b:Int)(k:Int)(x:Int)(n:Int)(H:0<=n/\n<=1000000):WP T Xu (.same (.bool (hP n (a,b,k,x)))) [.J (.agg [.int .i64 a,.int .i64 b,.int .i64 k,.int .i64 x]),.J (.ptr [.int .i64 n]),.J (.ptr [.fn nw []])]:=by
 refine cu ?_;simp only[Xu];have w:IntKind.i64.wrap (n-1)=n-1:=by rw[e2 _]
 have e:hP n (a,b,k,x)=((decide (0<=a)&&decide (a<=n-1))&&((decide (-1<=b)&&decide (b<=n-1))&&((decide (0<=k)&&decide (k<=9))&&gn x))):=by
  rw[xe,MB];simp only[eW,decide_eq_true_eq,Rf];omega
 rw[e];rcases aI:(decide (0<=a)&&decide (a<=n-1))<;>rcases c2:(decide (-1<=b)&&decide (b<=n-1))<;>rcases c3:(decide (0<=k)&&decide (k<=9))<;>rcases c4:gn x
 all_goals
      refine aX ?_;repeat' (intro h<;>simp only[h,go_sem,go_sem_proc,aaL,aaO,w,aI,c2,c3,c4]<;>try refine ax ?_ ?_)
abbrev aaX:Int×Int×Int×Int×Int->List Data:=λ(a,b,k,x,n)=>[.agg [.int .i64 a,.int .i64 b,.int .i64 k,.int .i64 x],.ptr [.fn yw [.ptr [.int .i64 n],.ptr [.fn nw []]]]]
def aaY:=cj aaX λ(a,b,k,x,n)=>cM (0<=n/\n<=1000000) (.same (.bool (!hP n (a,b,k,x))))
theorem azn:∀a b,aaX a=aaX b->a=b:=by
  rintro⟨cW,dh,b9,a6,iP⟩ ⟨de,eH,dc,bY,jO⟩ h;simp only[a3,Data.int.injEq,Data.agg.injEq,Data.Y.injEq,Data.bool.injEq,Data.str.injEq,Data.ptr.injEq,Data.cH.injEq,e6,true_and,and_true] at h ⊢
  first|exact h|simpa [yx,and_assoc] using h|grind
@[go_sem] theorem azo (a:Int)(b:Int)(k:Int)(x:Int)(n:Int)(H:0<=n/\n<=1000000):aaY [.agg [.int .i64 a,.int .i64 b,.int .i64 k,.int .i64 x],.ptr [.fn yw [.ptr [.int .i64 n],.ptr [.fn nw []]]]]=some (.same (.bool (!hP n (a,b,k,x)))):=(ct azn (a,b,k,x,n)).trans (cR H _)
theorem azp (T:bb)(azq:T yw=aU aaW)(a:Int)(b:Int)(k:Int)(x:Int)(n:Int)(H:0<=n/\n<=1000000):WP T XF (.same (.bool (!hP n (a,b,k,x)))) [.J (.agg [.int .i64 a,.int .i64 b,.int .i64 k,.int .i64 x]),.J (.ptr [.fn yw [.ptr [.int .i64 n],.ptr [.fn nw []]]])]:=by
 refine cu ?_;simp only[XF];refine aX ?_;repeat' (intro h<;>simp only[h,go_sem,go_sem_proc,azq,H]<;>try refine ax ?_ ?_)
abbrev aaZ:Int×Int×Int×Int×Int×Int×(List Int)->List Data:=λ(a,b,k,x,i,e,set)=>[.agg [.int .i64 a,.int .i64 b,.int .i64 k,.int .i64 x],.ptr [.int .i64 i],.ptr [.int .i64 e],.ptr [.Y (set.map ae)]]
def aa0:=cj aaZ λ(a,b,k,x,i,e,set)=>cM (D set<=1000000) (.same (.bool (a==i&&(k==e&&(decide (x>0) && !decide (b∈set))))))
theorem azr:∀a b,aaZ a=aaZ b->a=b:=by
  rintro⟨cW,dh,b9,a6,i1,ay,akv⟩ ⟨de,eH,dc,bY,i2,aC,akw⟩ h;simp only[a3,Data.agg.injEq,Data.int.injEq,Data.ptr.injEq,Data.Y.injEq,and_true,true_and] at h;obtain⟨⟨G,I,af,aS⟩,bm,bV,bQ⟩:=h;rw[G,I,af,aS,bm,bV,map_inj e9 _ _ bQ]
@[go_sem] theorem azs (a:Int)(b:Int)(k:Int)(x:Int)(i:Int)(e:Int)(set:List Int)(H:(D set)<=1000000):aa0 [.agg [.int .i64 a,.int .i64 b,.int .i64 k,.int .i64 x],.ptr [.int .i64 i],.ptr [.int .i64 e],.ptr [.Y (set.map ae)]]=some (.same (.bool (a==i&&(k==e&&(decide (x>0) && !decide (b∈set)))))):=(ct azr (a,b,k,x,i,e,set)).trans (cR H _)
theorem ML (T:bb)(id:FuncId)(eP:List Data)(aQ:List Data->Option eN)(cL:T id=aU aQ)(p:au->Bool)(l:List au)(aw:(D l)<=1000000)(e8:∀a b k z,(a,b,k,z)∈l->aQ (.agg [.int .i64 a,.int .i64 b,.int .i64 k,.int .i64 z]::eP)=some (.same (.bool (p (a,b,k,z))))):WP T KS (.same (.int .i64 (kD p l))) [.J (.Y (l.map ck)),.J (.fn id eP)]:=by
 refine cu ?_;simp only[KS];simp only[go_sem,go_sem_proc,ak];refine dd [0,1,7] [] (λ(i:Nat) tm mem=>i<=D l/\(∀x∈l.take i,p x=false)/\tm 8=.J (.int .i64 i)) (λi=>D l-i) 0 (by refine⟨ft _,by simp,rfl⟩) ?_;intro vs ms aP aO;simp only[go_sem,go_sem_proc,ak] at aP aO;subst aP aO;rintro i tm mem O hm ⟨M,fg,ca⟩;simp only[go_sem,go_sem_proc,a3] at O hm;obtain⟨ar,G,bQ⟩:=O;have hM:∀m:Mem,(eP.map R.J).mapM (cC 6 m)=some eP:=λm=>tP (cC 6 m) (λd=>rfl) eP;rcases dn (i<D l) with az|b4
 ·have Q:=bs az;have Cy:=m2 az;have cn:=λh=>Lx (p:=p) fg Q h;have hR:=λh=>P4 (p:=p) fg Q h;generalize l[i]=x at *;obtain⟨a,b,k,z⟩:=x;have mN:=e8 a b k z Cy;have hs:decide ((i:Int)<(D l:Int))=true:=c6;have hw:=eA (i:=i) (by omega);rcases ag:p (a,b,k,z)
  ·rw[ag] at mN;simp only[go_sem,go_sem_proc,cL,ar,G,bQ,ca,Q,hs,hw,mN,hM,ck,ak,bj,ky];repeat' (first|refine ax ?_ ?_|fail)<;>intro h<;>simp only[h,go_sem,go_sem_proc,cL,ar,G,bQ,ca,Q,hs,hw,mN,hM,ck,ak,bj,ky]
   exact⟨i+1,by omega,by omega,hR ag,rfl⟩
  ·rw[ag] at mN;rw[cn ag];simp only[go_sem,go_sem_proc,cL,ar,G,bQ,ca,Q,hs,hw,mN,hM,ck,ak,bj,ky];repeat' (first|refine ax ?_ ?_|fail)<;>intro h<;>simp only[h,go_sem,go_sem_proc,cL,ar,G,bQ,ca,Q,hs,hw,mN,hM,ck,ak,bj,ky]
 ·have hs:decide ((i:Int)<(D l:Int))=false:=cY;obtain rfl:i=D l:=by omega
  rw[lC] at fg;rw[P3 fg];simp only[go_sem,go_sem_proc,ar,G,bQ,ca,hs,ak];repeat' (first|refine ax ?_ ?_|fail)<;>intro h<;>simp only[h,go_sem,go_sem_proc,ar,G,bQ,ca,hs,ak]
inductive AZ where
 |right (n:Int)
 |day (E:List Int)
 |hold (n:Int)
 |r7 (n:Int)
 |Fl (i e:Int) (set:List Int)
def wk:AZ->Data
 |.right n => .fn KH [.ptr [.fn vx []],.ptr [.int .i64 n]]
 |.day E => .fn GF [.ptr [.Y (E.map ae)]]
 |.hold n => .fn GH [.ptr [.int .i64 n],.ptr [.fn wU []]]
 |.r7 n => .fn D9 [.ptr [.fn yw [.ptr [.int .i64 n],.ptr [.fn nw []]]]]
 |.Fl i e set => .fn Ea [.ptr [.int .i64 i],.ptr [.int .i64 e],.ptr [.Y (set.map ae)]]
theorem azt:∀a b:AZ,wk a=wk b->a=b:=by
 intro a b e
 cases a<;>cases b
 all_goals first|(simp[wk,KH,GF,GH,D9,Ea] at e;done)|simp only[wk,Data.fn.injEq,a3,Data.ptr.injEq,Data.Y.injEq,Data.int.injEq,and_true,true_and] at e
 ·rw[e]
 ·rw[map_inj e9 _ _ e]
 ·rw[e]
 ·rw[e]
 ·rw[e.1,e.2.1,map_inj e9 _ _ e.2.2]
def tf:AZ->au->Bool
 |.right n,c => !hP n c
 |.day E,c => !hP (D E) c
 |.hold n,c => !hP n c
 |.r7 n,c => !hP n c
 |.Fl i e set,c=>c.1==i&&(c.2.2.1==e&&(decide (c.2.2.2>0) && !decide (c.2.1∈set)))
def Iu:AZ->Prop
 |.right n=>0<=n/\n<=1000000
 |.day E=>GF<900000/\D E<=1000000
 |.hold n=>GH<900000/\0<=n/\n<=1000000
 |.r7 n=>D9<900000/\0<=n/\n<=1000000
 |.Fl _ _ set=>Ea<900000/\D set<=1000000
abbrev RB:(List au)×AZ->List Data:=λ(l,c)=>[.Y (l.map ck),wk c]
def aa1:=cj RB λ(l,c)=>cM (D l<=1000000/\Iu c) (.same (.int .i64 (kD (tf c) l)))
theorem akB:∀a b,RB a=RB b->a=b:=by
  rintro⟨ei,aI⟩ ⟨ai,c2⟩ h;simp only[a3,Data.Y.injEq,and_true] at h;exact dS (map_inj q5 _ _ h.1) (azt _ _ h.2)
@[go_sem] theorem aMr (l:List au)(c:AZ)(H:(D l)<=1000000/\Iu c):aa1 [.Y (l.map ck),wk c]=some (.same (.int .i64 (kD (tf c) l))):=(ct akB (l,c)).trans (cR H _)
theorem azu (T:bb)(azv:T KH=aU aay)(azw:GF<900000->T GF=aU aaS)(azx:GH<900000->T GH=aU aaU)(azy:D9<900000->T D9=aU aaY)(azz:Ea<900000->T Ea=aU aa0)(l:List au)(c:AZ)(H:(D l)<=1000000/\Iu c):WP T KS (.same (.int .i64 (kD (tf c) l))) [.J (.Y (l.map ck)),.J (wk c)]:=by
 refine cu ?_;simp only[KS];obtain⟨aw,cU⟩:=H
 cases c with
 |right n=>exact qT (ML T _ _ _ azv (tf (.right n)) l aw λa b k z _=>ayN a b k z n cU)
 |day E=>exact qT (ML T _ _ _ (azw cU.1) (tf (.day E)) l aw λa b k z _=>azg a b k z E cU.2)
 |hold n=>exact qT (ML T _ _ _ (azx cU.1) (tf (.hold n)) l aw λa b k z _=>azj a b k z n cU.2)
 |r7 n=>exact qT (ML T _ _ _ (azy cU.1) (tf (.r7 n)) l aw λa b k z _=>azo a b k z n cU.2)
 |Fl i e set=>exact qT (ML T _ _ _ (azz cU.1) (tf (.Fl i e set)) l aw λa b k z _=>azs a b k z i e set cU.2)
def MM:=cj RB λ(l,c)=>cM (D l<=1000000/\Iu c) (.same (.bool (l.any (tf c))))
@[go_sem] theorem aa2 (l:List au)(c:AZ)(H:(D l)<=1000000/\Iu c):MM [.Y (l.map ck),wk c]=some (.same (.bool (l.any (tf c)))):=(ct akB (l,c)).trans (cR H _)
theorem azA (T:bb)(azB:T UO=aU aa1)(l:List au)(c:AZ)(H:(D l)<=1000000/\Iu c):WP T VE (.same (.bool (l.any (tf c)))) [.J (.Y (l.map ck)),.J (wk c)]:=by
 refine cu ?_;simp only[VE];rw[<-Ly];refine aX ?_;repeat' (intro h<;>simp only[h,go_sem,go_sem_proc,azB,H]<;>try refine ax ?_ ?_)
theorem MN {α:Type}(l:List α)(p:α->Bool):l.any (λx => !p x) = !l.all p:=by
 induction l with
 |nil=>rfl
 |cons a l aA=>rw[List.any_cons,List.all_cons,aA];cases p a<;>rfl
abbrev RC:(List Int)×(List au)->List Data:=λ(E,cs)=>[.Y (E.map ae),.Y (cs.map ck)]
def aa3:=cj RC λ(E,cs)=>cM (D E<=1000000/\D cs<=1000000) (.same (.bool (j5 E cs)))
theorem akC:∀a b,RC a=RC b->a=b:=by
  rintro⟨tc,td⟩ ⟨te,nr⟩ h;simp only[a3,Data.Y.injEq,and_true] at h;exact dS (map_inj e9 _ _ h.1) (map_inj q5 _ _ h.2)
@[go_sem] theorem aMs (E:List Int)(cs:List au)(H:(D E)<=1000000/\D cs<=1000000):aa3 [.Y (E.map ae),.Y (cs.map ck)]=some (.same (.bool (j5 E cs))):=(ct akC (E,cs)).trans (cR H _)
theorem azC (T:bb)(RD:T KI=aU RA)(Iv:T D5=aU MM)(E:List Int)(cs:List au)(H:(D E)<=1000000/\D cs<=1000000):WP T Xh (.same (.bool (j5 E cs))) [.J (.Y (E.map ae)),.J (.Y (cs.map ck))]:=by
 refine cu ?_;simp only[Xh];obtain⟨G,I⟩:=H;rw[ayb];have dP:=akA E .right ⟨G,trivial⟩;have fS:=aa2 cs (.right (D E)) ⟨I,by show (0:Int)<=(D E:Int);omega,by show (D E:Int)<=1000000;omega⟩
 have ay:E.any (qf .right) = !E.all gn:=MN E gn;have aC:cs.any (tf (.right (D E))) = !cs.all (hP (D E)):=MN cs _;rw[ay] at dP;rw[aC] at fS;simp only[r8] at dP;simp only[wk] at fS;have d1:decide (D E<=60)=decide ((D E:Int)<=60):=by rw[xe,decide_eq_true_iff,decide_eq_true_iff];omega
 have d2:decide (D cs<=2000)=decide ((D cs:Int)<=2000):=by rw[xe,decide_eq_true_iff,decide_eq_true_iff];omega
 rw[d1,d2];rcases gA:decide ((D E:Int)<=60)<;>rcases fi:decide ((D cs:Int)<=2000)<;>rcases uH:E.all gn<;>rcases om:cs.all (hP (D E))
 all_goals rw[uH] at dP
 all_goals rw[om] at fS
 all_goals
      refine aX ?_;repeat' (intro h<;>simp only[h,go_sem,go_sem_proc,RD,Iv,dP,fS,gA,fi,ak,cP,dD,Bool.and_true,iT,cC,nW,Option.bind_none,scalar]<;>try refine ax ?_ ?_)
structure db.Iw (a:db):Prop where
 r9:ff a.E a.cs
 gw:∀x∈a.aF,0<=x/\x<=10
theorem db.MO {a:db}{m:Mem}(h:a.eG m)(aJ:a.Iw){i:Nat}(M:i<D a.E):a.aF.getD i 10=(bJ a.aF i:Int)/\bJ a.aF i<=10:=by
 have aw:=h.aF
 have:a.aF.getD i 10∈a.aF:=by
  rw[dX,bs (by omega)];exact m2 _
 have:=aJ.gw _ this;unfold bJ;omega
structure aa4 (x:db×Nat) (mem:Mem):Prop where
 at_:x.1.eG mem
 no:r4 255 mem
 Ix:x.1.Iw
 lt:x.2<x.1.E.length
 f10:bJ x.1.aF x.2<10
 S:0<(aB x.1.E x.1.cs).S x.2 (bJ x.1.aF x.2)
def RE (x:db×Nat):Data:=.cH [.Y ((cT x.1.E.length λi=>(aB x.1.E x.1.cs).W (bJ x.1.aF) x.2 i).map aH),.bool true]
def RF:List R->Mem->Option Data:=Fh (λ(x:db×Nat) args mem=>args=[.ptr (228500+x.2) (x.1.gs.getD x.2 0) 0,.J (.int .i64 x.1.E.length)]/\aa4 x mem) RE
theorem azD (a:db)(k:Nat)(mem:Mem)(h:aa4 (a,k) mem):RF [.ptr (228500+k) (a.gs.getD k 0) 0,.J (.int .i64 (D a.E))] mem=some (RE (a,k)):=by
 refine aai (a:=(a,k)) ?_ ⟨rfl,h⟩;rintro⟨a,i⟩ ⟨b,j⟩ args mem ⟨ay,aC⟩ ⟨cg,dw⟩;obtain rfl:=db.uniq aC.at_ dw.at_;rw[ay] at cg;simp only[a3,R.ptr.injEq,R.J.injEq,Data.int.injEq,true_and,and_true] at cg;have G:228500+i=228500+j:=cg.1;have:i=j:=by omega
 rw[this]
theorem azE (N:Nat)(aQ:bc):(dH N (aH aQ)).flatten.map R.J=a9 aH (dH N aQ):=by
 unfold a9;rw[HO,List.map_flatten,HO]
theorem azF (T:bb)(hG:T pt=aU wb)(azG:T Ur=aU Zc)(md:T zX=aU ED)(gf:T vp=aU yQ)(a:db)(k:Nat)(mem:Mem)(h:aa4 (a,k) mem):
  wp T P1.body (oi P1.res λm mem'=>cC 6 emp m=some (RE (a,k))/\ep 255 mem mem') ⟨ka [.ptr (228500+k) (a.gs.getD k 0) 0,.J (.int .i64 (D a.E))],mem⟩:=by
 obtain⟨cn,gH,sa,O,q8,cN⟩:=h;dsimp only at *;obtain⟨X,gw⟩:=sa;have aK:=X.iX;have sI:=cn.dA k O;have uA:=(db.MO cn ⟨X,gw⟩ O).1;have cU:=a.xH k;have hlen:=CZ cU;have mh:=MG cU;rw[show (a.gM k).f=(bJ a.aF k:Int) from uA] at mh;have C2:=akn (x:=a.gM k) (k:=bJ a.aF k) (l:=dg a.cs k (bJ a.aF k)) (iY _ q8);have tg:=MF cU (k:=bJ a.aF k) (z:=cS a.cs k (bJ a.aF k:Nat)) (iY _ (by omega));have akD:=MF cU (k:=bJ a.aF k+1) (z:=cS a.cs k (bJ a.aF k+1:Nat)) (iY _ (by omega));have WJ:∀j,228500+k≠255000+j:=λj=>by omega
 generalize fC (a.gM k)=DC at *;have aa5:=CW 0 ME;have aW:cT (D a.E) (j6 (aB a.E a.cs) [])=dH (D a.E) (ao ((0:Int):Rat)):=(My AK λj aj=>by rw[aka,ad aj,ayA];rfl).symm;generalize gy:dg a.cs k (bJ a.aF k)=L at *;refine qz ?_;simp only[P1];have uQ:(228500+k)/1000≠255:=by omega
 have lD:mem 255017=none:=gH 255017 (by decide);have gr:=λc (H:c∈L)=>Ff.1 (gy ▸ H:c∈dg a.cs k (bJ a.aF k));have akE:=λc (H:c∈L)=>(Rp X cN (gy ▸ H:c∈dg a.cs k (bJ a.aF k))).2.2;have akF:=λl i (aw:∃fu,L=l++fu)=>ayC X cN (l:=l) (by rw[gy];exact aw) i;have akG:=λi=>ayB X.right (bJ a.aF) k i;rw[gy] at akG
 have aMt:(D L)<=12:=by
  have G:=ou (λc:au=>c.1==(k:Int)&&c.2.2.1==(bJ a.aF k:Int)) a.cs;have I:=X.q3;rw[<-gy];unfold dg;omega
 have aMu:(0:Int)<kL a.cs k (bJ a.aF k):=by
  have G:=QT X.right k (bJ a.aF k);rw[<-G] at cN;have:(0:Int)<cS a.cs k (bJ a.aF k+1:Nat)-cS a.cs k (bJ a.aF k):=by exact_mod_cast cN
  exact this
 have azH:kL a.cs k (bJ a.aF k)=cS a.cs k (bJ a.aF k+1:Nat)-cS a.cs k (bJ a.aF k:Nat):=rfl;have Xb:=X.upto k (bJ a.aF k+1:Nat);have Ew:=X.upto k (bJ a.aF k:Nat);have azI:=(hF.1 X.right).2.2.2;generalize dK:228500+k=ed at *;have o6:∀j,ed≠255000+j:=λj=>by omega
 have MP:(ed=255009)=False:=eq_false (o6 9);have akH:(ed=255010)=False:=eq_false (o6 10);have akI:(ed=255012)=False:=eq_false (o6 12);have aa6:(ed=255017)=False:=eq_false (o6 17);have Fm:(ed==255009)=false:=beq_eq_false_iff_ne.2 (o6 9);have akJ:(ed==255010)=false:=beq_eq_false_iff_ne.2 (o6 10);have akK:(ed==255012)=false:=beq_eq_false_iff_ne.2 (o6 12);have akL:(ed==255017)=false:=beq_eq_false_iff_ne.2 (o6 17);have d9:(255009==ed)=false:=beq_eq_false_iff_ne.2 (o6 9).symm;have d10:(255010==ed)=false:=beq_eq_false_iff_ne.2 (o6 10).symm;have d12:(255012==ed)=false:=beq_eq_false_iff_ne.2 (o6 12).symm;have d17:(255017==ed)=false:=beq_eq_false_iff_ne.2 (o6 17).symm;have ei:bJ a.aF k+1<11:=by omega
 have ai:bJ a.aF k<11:=by omega
 have bM:(1+bJ a.aF k+1<=24)=True:=eq_true (by omega);have b5:(11+bJ a.aF k+1<=24)=True:=eq_true (by omega);have akM:(11+(bJ a.aF k+1)+1<=24)=True:=eq_true (by omega);have wf:IntKind.i64.wrap ((bJ a.aF k:Int)+1)=((bJ a.aF k+1:Nat):Int):=by rw[e2 _];omega
 have kY:=sI;generalize aMv:cS a.cs k (bJ a.aF k+1:Nat)=akN at *;generalize aMw:cS a.cs k (bJ a.aF k:Nat)=azJ at *;generalize aMx:bJ a.aF k=F0 at *;generalize MQ:ao ((0:Int):Rat)=Z at *;obtain⟨⟨jY,k6⟩,⟨wm,C3⟩⟩:=Z;have aa7:=awh jY k6 wm C3 (D a.E) (by omega);have gP:=azE (D a.E) ((jY,k6),(wm,C3));simp only[aH] at aa5 aa7 gP;have eM:=akl L;simp only[go_sem,go_sem_proc] at eM;simp only[go_sem,go_sem_proc,hG,aa5,azG,aa7,gP,sI,hlen,q8,mh,C2,aa6,bM,lD,bI,cI,eM,AK]
 refine dd [0,6,26,27] [] (λ(j:Nat) tm m=>j<=D L/\tm 28=.J (.int .i64 j)/\tm 7=.J (.bool true)/\m 255017=some (0,a9 aH (cT (D a.E) (j6 (aB a.E a.cs) (L.take j))))/\ep 255 mem m) (λj=>D L-j) 0 (by
  refine⟨by omega,rfl,rfl,?_,(ep.refl _ _).e5 (by decide)⟩
  rw[ns,aW];simp[a2,lD,gG]) ?_
 intro vs ms aP aO;simp only[go_sem,go_sem_proc] at aP aO;subst aP aO;clear aa5 aa7 gP sI;rintro j tm m O-⟨aj,oy,bq,C4,bX⟩;simp only[go_sem,go_sem_proc,a3] at O;obtain⟨bl,bN,ij,ik⟩:=O;have ag:=(bX ed uQ).trans kY;rcases dn (j<D L) with az|b4
 ·have d1:decide ((j:Int)<(D L:Int))=true:=c6;have bT:=eA (i:=j) (by omega);obtain⟨⟨aI,c2,c3,c4⟩,Q⟩:∃c,L[j]?=some c:=⟨_,bs az⟩;have Cy:=ee Q;have lp:=azI _ (gr _ Cy).1;dsimp only at lp;have sT:=akm Q;simp only[go_sem,go_sem_proc] at sT;have ga:L.take (j+1)=L.take j++[(aI,c2,c3,c4)]:=by rw[g4,Q];rfl
  rcases q:decide (c2<0)
  ·have vb:0<=c2:=by have:=of_decide_eq_false q;omega
   obtain⟨t,rfl⟩:∃t:Nat,c2=(t:Int):=⟨c2.toNat,by omega⟩
   have hw:=akE _ Cy;dsimp only at hw;have lq:=aj1 (p:=c4) (q:=kL a.cs k F0) (nJ (by omega) (by omega)) (nJ (by omega) (by omega)) (by omega);rw[<-hw] at lq;have RG:=agq c4 (kL a.cs k F0) ⟨nJ (by omega) (by omega),nJ (by omega) (by omega)⟩;rw[lq] at RG;have jY:=akF (L.take j) t ⟨L.drop j,(tO j L).symm⟩;have k6:=ayk X (gr _ Cy).1;have hj:=ajR (ig jY (by omega)) (ig k6 (by omega)) (E7 jY k6 (by omega))
   have uR:cT (D a.E) (j6 (aB a.E a.cs) (L.take (j+1)))=(cT (D a.E) (j6 (aB a.E a.cs) (L.take j))).set t (ao (j6 (aB a.E a.cs) (L.take j) t+(aB a.E a.cs).w (cG (aI,(t:Int),c3,c4)))):=by
    rw[aak];refine CS λi _=>?_;rw[ga,akk]
    by_cases M:i=t
    ·rw[ad M,ad (by dsimp only;omega),M]
    ·rw[ah M,ah (by dsimp only;omega),o1]
   have akO:IntKind.i64.wrap (akN-azJ)=kL a.cs k F0:=by rw[wrap64 _ (by omega) (by omega),azH]
   have Yi:(cT (D a.E) (j6 (aB a.E a.cs) (L.take j))).length=D a.E:=mT _ _;have azK:=pG (N:=D a.E) (j6 (aB a.E a.cs) (L.take j)) (k:=t) (by omega);clear jY k6 akF akE lq hw;generalize ao (j6 (aB a.E a.cs) (L.take j) t+(aB a.E a.cs).w (cG (aI,(t:Int),c3,c4)))=F1 at *;generalize ao (j6 (aB a.E a.cs) (L.take j) t)=F2 at *;generalize ao ((aB a.E a.cs).w (cG (aI,(t:Int),c3,c4)))=F3 at *;generalize cT (D a.E) (j6 (aB a.E a.cs) (L.take j))=bL at *;obtain⟨⟨cW,de⟩,⟨ej,fa⟩⟩:=F1;obtain⟨⟨f1,f2⟩,⟨f3,f4⟩⟩:=F2;obtain⟨⟨cz,cf⟩,⟨g3,jq⟩⟩:=F3;have t1:=AA azK;have t2:=Az (l:=bL) (k:=t) (by omega);have t3:=LO (l:=bL) (k:=t) (by omega) cW de ej fa;have Ol:t<D a.E:=by omega
   simp only[aH,eB] at RG hj;simp only[go_sem,go_sem_proc,md,gf,bl,bN,bq,ij,ik,oy,ag,C4,sT,hlen,mh,tg,akD,wf,akO,d1,bT,q,RG,hj,t1,t2,t3,Ol,q8,ei,ai,bM,b5,akM,MP,akH,akI,aa6,Fm,akJ,akK,akL,d9,d10,d12,d17,ck,bI,cI,beq_self_eq_true];repeat' (first|refine ax ?_ ?_|fail)<;>intro h<;>simp only[h,go_sem,go_sem_proc,md,gf,bl,bN,bq,ij,ik,oy,ag,C4,sT,hlen,mh,tg,akD,wf,akO,d1,bT,q,RG,hj,t1,t2,t3,Ol,q8,ei,ai,bM,b5,akM,MP,akH,akI,aa6,Fm,akJ,akK,akL,d9,d10,d12,d17,ck,bI,cI,beq_self_eq_true]
   refine⟨j+1,by omega,by omega,rfl,by rw[uR],by repeat first|exact bX|refine ep.e5 ?_ (by decide)⟩
  ·have vb:c2<0:=of_decide_eq_true q
   have uR:cT (D a.E) (j6 (aB a.E a.cs) (L.take (j+1)))=cT (D a.E) (j6 (aB a.E a.cs) (L.take j)):=CS λi _=>by
    rw[ga,akk,ah (by dsimp only;omega),o1]
   simp only[go_sem,go_sem_proc,bl,bN,bq,ij,ik,oy,ag,C4,sT,d1,bT,q,ck,cI];repeat' (first|refine ax ?_ ?_|fail)<;>intro h<;>simp only[h,go_sem,go_sem_proc,bl,bN,bq,ij,ik,oy,ag,C4,sT,d1,bT,q,ck,cI]
   refine⟨j+1,by omega,by omega,rfl,by rw[uR],by repeat first|exact bX|refine ep.e5 ?_ (by decide)⟩
 ·have d1:decide ((j:Int)<(D L:Int))=false:=cY;rw[dr (by omega)] at C4;have uR:cT (D a.E) (j6 (aB a.E a.cs) L)=cT (D a.E) λi=>(aB a.E a.cs).W (bJ a.aF) k i:=CS λi _=>akG i;rw[uR] at C4;have lV:(cT (D a.E) λi=>(aB a.E a.cs).W (bJ a.aF) k i).length=D a.E:=mT _ _;have ld:=λ(K:a8->Prop) (st:a8)=>lx (K:=K) (st:=st) lG 6 255017 0 (cT (D a.E) λi=>(aB a.E a.cs).W (bJ a.aF) k i);rw[lV] at ld;simp only[go_sem,go_sem_proc,bl,bN,bq,ij,ik,oy,ag,C4,d1,ld];repeat' (first|refine ax ?_ ?_|fail)<;>intro h<;>simp only[h,go_sem,go_sem_proc,bl,bN,bq,ij,ik,oy,ag,C4,d1,ld]
  exact⟨_,rfl,rfl,by repeat first|exact bX|refine ep.e5 ?_ (by decide)|refine ep.kill ?_ (by decide)⟩
theorem aa8 (N:Nat)(x:Nat->Rat):cT (N+1) x=cT N x++[ao (x N)]:=by
 unfold cT;rw[ov,kG,kG];rfl
theorem wo {l:List R}{k:Nat}{y:R}(h:l[k]?=some y):fJ 1 (fT k l)=[y]:=by
 have:=xE (f:=id) h;rwa [List.map_id] at this
def th (n:Nat)(W:Nat->Nat->Rat)(k:Nat):List Data:=[.Y ((cT n (W k)).map aH)]
theorem azL (T:bb)(hG:T pt=aU wb)(nd:T yv=aU Al){K:eT->a8->Prop}{kk:List gu}(ez:Mem)(n:Nat)(aK:n<=60)(p:List Nat)(aE:(D p)<=60)(W:Nat->Nat->Rat)(r i:Nat)(M:i<n)(sE:∀k,k<(D p)->dE 54 (W (p.getD k 0) i))(v0 v1 v10 v20 akP akQ:R)(bR Iy:Nat)(aI c2 c3 c4:R)(akR:Option (Nat×List R))(tm:Nat->R)(m:Mem)
  (bl:tm 0=v0) (ay:tm 1=v1) (aC:tm 2=.J (.Y (p.map iB))) (cg:tm 3=.J (.Y (p.map (th n W)))) (dp:tm 10=v10) (hH:tm 11=.J (.int .i64 r)) (eX:tm 12=.J (.int .i64 i)) (gl:tm 13=.ptr 256013 bR 0) (jB:tm 20=v20) (px:tm 21=akP) (um:tm 22=akQ) (nL:tm 50=.J (.int .i64 (D p))) (nM:tm 51=.J (.int .i64 0)) (Iz:m 256013=some (bR,[.ref 256076 Iy 4 0 0,aI,c2,c3,c4])) (IA:m 256076=some (Iy,[])) (Fo:m 256082=akR) (bX:ep 256 ez m)
  (dK:∀tm' m' akS,tm' 0=v0->tm' 1=v1->tm' 2=.J (.Y (p.map iB))->tm' 3=.J (.Y (p.map (th n W)))->tm' 10=v10->tm' 13=.ptr 256013 bR 0->tm' 20=v20->tm' 21=akP->tm' 22=akQ->m' 256013=some (bR,[.ref 256076 akS 4 0 (D p),aI,c2,c3,c4])->m' 256076=some (akS,a9 aH (cT (D p) λk=>(if r=k then 1 else 0)-W (p.getD k 0) i))->m' 256082=akR->ep 256 ez m'->cD T K kk (.exit 2) ⟨tm',m'⟩) :
  wp T (Hi.body.sub [1,1,0,1,0,0,0,1,1,0,0,1,1,0,1,0]) (cD T K kk) ⟨tm,m⟩:=by
 simp only[Hi,eu.sub];refine dd [0,1,2,3,10,11,12,13,20,21,22,50] [256082] (λ((k,g):Nat×Nat) tm m=>k<=D p/\tm 51=.J (.int .i64 k)/\m 256013=some (bR,[.ref 256076 g 4 0 k,aI,c2,c3,c4])/\m 256076=some (g,a9 aH (cT k λk=>(if r=k then 1 else 0)-W (p.getD k 0) i))/\ep 256 ez m) (λ(k,_)=>D p-k) (0,Iy) (by refine⟨by omega,nM,Iz,IA,bX⟩) ?_;intro vs ms aP aO;simp only[go_sem,go_sem_proc,bl,ay,aC,cg,dp,hH,eX,gl,jB,px,um,nL,Fo] at aP aO;subst aP aO;clear bl ay aC cg dp hH eX gl jB px um nL nM Iz IA Fo bX tm m;rintro⟨k,g⟩ tm m O hm ⟨HS,nM,Iz,IA,bX⟩;simp only[go_sem,go_sem_proc,a3] at O hm;obtain⟨bl,ay,aC,cg,dp,hH,eX,gl,jB,px,um,nL⟩:=O;rcases dn (k<D p) with az|b4
 ·have d1:decide ((k:Int)<(D p:Int))=true:=c6;have bT:=eA (i:=k) (by omega);obtain⟨wq,Q⟩:∃c,p[k]?=some c:=⟨_,bs az⟩;have p7:p.getD k 0=wq:=by rw[dX,Q];rfl
  have MR:=sE k az;have aP:=aa8 k λk=>(if r=k then 1 else 0)-W (p.getD k 0) i;have bW:(cT k λk=>(if r=k then 1 else 0)-W (p.getD k 0) i).length=k:=mT _ _;have dz:=λ(aQ:bc) cs kd=>lv lG Co 256076 g 64 (cT k λk=>(if r=k then 1 else 0)-W (p.getD k 0) i) aQ (cs:=cs) kd (by omega) (by omega);simp only[bW] at dz;rw[p7] at MR aP;have ba:=pG (W wq) M;generalize cT k (λk=>(if r=k then 1 else 0)-W (p.getD k 0) i)=V at *;generalize vI:cT (k+1) (λk=>(if r=k then 1 else 0)-W (p.getD k 0) i)=V2 at *;clear dK sE;have key:∀o:Int,(o=0\/o=1)->(if r=k then (1:Rat) else 0)=(o:Rat)->True:=λ_ _ _=>trivial;rcases q:((k:Int)==(r:Int))
  ·have h1:¬ r=k:=by have:=ne_of_beq_false q;omega
   have hw:=CW 0 ME;have X:=aad (tb ME) (ig MR (by omega)) (E7 (xF (z:=0) (b:=1) (by decide)) (H5 MR) (by omega));rw[ah h1,show (0:Rat)=((0:Int):Rat) from rfl] at aP;generalize ao ((0:Int):Rat)=Z at *;generalize ao (W wq i)=eK at *;generalize ao (((0:Int):Rat)-W wq i)=df at *;obtain⟨⟨jY,k6⟩,⟨wm,C3⟩⟩:=Z;obtain⟨⟨tX,tY⟩,⟨Fj,Fk⟩⟩:=eK;obtain⟨⟨a6,bY⟩,⟨c1,ec⟩⟩:=df;have o7:=dz ((a6,bY),(c1,ec)) _ rfl;rw[<-aP] at o7;simp only[aH,ev,cZ] at o7 hw X;refine aX ?_;repeat' (intro h<;>simp only[h,go_sem,go_sem_proc,hG,nd,bl,ay,aC,cg,dp,hH,eX,gl,jB,px,um,nL,nM,Iz,IA,hm,d1,bT,q,Q,th,ba,hw,X,o7,aH,ak,bj,bne,beq_self_eq_true,cP,rX]<;>try refine ax ?_ ?_)
   exact⟨(k+1,g+1),by dsimp only;omega,by dsimp only;omega,rfl,rfl,by rw[<-vI],by repeat first|exact bX|refine ep.e5 ?_ (by decide)⟩
  ·have h1:r=k:=by have:=eq_of_beq q;omega
   have hw:=CW 1 Rk;have X:=aad (tb Rk) (ig MR (by omega)) (E7 (xF (z:=1) (b:=1) (by decide)) (H5 MR) (by omega));rw[ad h1,show (1:Rat)=((1:Int):Rat) from rfl] at aP;generalize ao ((1:Int):Rat)=Z at *;generalize ao (W wq i)=eK at *;generalize ao (((1:Int):Rat)-W wq i)=df at *;obtain⟨⟨jY,k6⟩,⟨wm,C3⟩⟩:=Z;obtain⟨⟨tX,tY⟩,⟨Fj,Fk⟩⟩:=eK;obtain⟨⟨a6,bY⟩,⟨c1,ec⟩⟩:=df;have o7:=dz ((a6,bY),(c1,ec)) _ rfl;rw[<-aP] at o7;simp only[aH,ev,cZ] at o7 hw X;refine aX ?_;repeat' (intro h<;>simp only[h,go_sem,go_sem_proc,hG,nd,bl,ay,aC,cg,dp,hH,eX,gl,jB,px,um,nL,nM,Iz,IA,hm,d1,bT,q,Q,th,ba,hw,X,o7,aH,ak,bj,bne,beq_self_eq_true,cP,rX]<;>try refine ax ?_ ?_)
   exact⟨(k+1,g+1),by dsimp only;omega,by dsimp only;omega,rfl,rfl,by rw[<-vI],by repeat first|exact bX|refine ep.e5 ?_ (by decide)⟩
 ·have d1:decide ((k:Int)<(D p:Int))=false:=cY;obtain rfl:k=D p:=by omega
  refine aX ?_;repeat' (intro h<;>simp only[h,go_sem,go_sem_proc,bl,ay,aC,cg,dp,hH,eX,gl,jB,px,um,nL,nM,d1]<;>try refine ax ?_ ?_)
  refine dK _ _ g ?_ ?_ ?_ ?_ ?_ ?_ ?_ ?_ ?_ Iz IA hm bX<;>simp only[eE,dC,if_false,bl,ay,aC,cg,dp,gl,jB,px,um]
structure aa9 (a:db) (mem:Mem):Prop where
 at_:a.eG mem
 no:r4 256 mem
 Ix:a.Iw
 hk:s9 (aB a.E a.cs) (bJ a.aF) (fw a.P)
def db.p (a:db):List Nat:=c5 (fw a.P) (D a.E)
def RH (a:db):List R:=[.ref 228023 a.g 1 0 (D a.E),.J (.Y ((bC (D a.E) λi=>la a.E a.cs (bJ a.aF) i).map ae)),.J (.Y (a.p.map iB)),.J (.Y (a.p.map (th (D a.E) λk i=>(aB a.E a.cs).W (bJ a.aF) k i)))]
def db.xs (a:db):List bc:=cT (D a.p) λk=>(aB a.E a.cs).fc (bJ a.aF) (fw a.P) (a.p.getD k 0)-(aB a.E a.cs).bD (a.p.getD k 0) (bJ a.aF (a.p.getD k 0))
def RI (a:db):Data:=.cH [.Y (a.xs.map aH),.bool true]
def RJ:List R->Mem->Option Data:=Fh (λ(a:db) args mem=>args=RH a/\aa9 a mem) RI
theorem azM (a:db)(mem:Mem)(h:aa9 a mem):RJ (RH a) mem=some (RI a):=by
 refine aai (a:=a) ?_ ⟨rfl,h⟩;rintro a b args mem ⟨ay,aC⟩ ⟨cg,dw⟩;rw[db.uniq aC.at_ dw.at_]
theorem azN (T:bb)(hG:T pt=aU wb)(nd:T yv=aU Al)(azO:T Un=aU Y1)(a:db)(mem:Mem)(aN:aa9 a mem):
  wp T Hi.body (oi Hi.res λm mem'=>cC 6 emp m=some (RI a)/\ep 256 mem mem') ⟨ka (RH a),mem⟩:=by
 obtain⟨cn,gH,sa,mU⟩:=aN;have uA:=λi=>db.MO cn sa (i:=i);obtain⟨X,gw⟩:=sa;have aK:=X.iX;have mC:=λk=>xC (P:=fw a.P) (n:=D a.E) (k:=k);have Ra:=axI X mU;have MS:=ZY X mU.r0 (c5 (fw a.P) (D a.E)) (λk O=>⟨(xC O).2,(xC O).1⟩) λi j M aj=>ZZ M aj;have azP:=λk (O:fw a.P k) i=>(Q9 X mU O i).1
 have aMy:(c5 (fw a.P) (D a.E)).length<=6:=by
  unfold c5;exact eQ (ou _ _) (by rw[pW];exact aK)
 have azQ:mem 256082=none:=gH 256082 (by decide);unfold RH RI db.xs db.p;generalize aE:c5 (fw a.P) (D a.E)=p at *;generalize dP:(aB a.E a.cs).uN (bJ a.aF) p=A at *;generalize azR:(bC (D a.E) λi=>la a.E a.cs (bJ a.aF) i).map ae=akT at *;have azS:∀i,i<(D a.E)->akT[i]?=some [.int .i64 (la a.E a.cs (bJ a.aF) i)]:=λi M=>by rw[<-azR,bj,iY _ M];rfl
 refine qz ?_;simp only[Hi];simp only[go_sem,go_sem_proc,azQ,ak];refine dd [0,1,2,3,20,21] [] (λ((r,g):Nat×Nat) tm m=>r<=D p/\tm 22=.J (.int .i64 r)/\tm 10=.ref 256082 g 5 0 r/\m 256082=some (g,a9 j0 ((rowsOf (D p) A).take r))/\ep 256 mem m) (λ(r,_)=>D p-r) (0,0) (by refine⟨by omega,rfl,rfl,rfl,(ep.refl _ _).e5 (by decide)⟩) ?_;intro vs ms aP aO;simp only[go_sem,go_sem_proc,ak] at aP aO;subst aP aO;rintro⟨r,g⟩ tm m O hm ⟨akU,um,dp,Fo,bX⟩;simp only[go_sem,go_sem_proc,a3] at O;obtain⟨bl,ay,aC,cg,jB,px⟩:=O;rcases dn (r<D p) with az|b4
 ·have d1:decide ((r:Int)<(D p:Int))=true:=c6;have bT:=eA (i:=r) (by omega);obtain⟨i,Q⟩:∃c,p[r]?=some c:=⟨_,bs az⟩;have E9:p.getD r 0=i:=by rw[dX,Q];rfl
  obtain⟨M,azT⟩:=mC r az;rw[E9] at M azT;obtain⟨sa,q8⟩:=uA i M;have eS:=(bX.at 228023 (by omega)).trans cn.row;have fk:=(bX.at (228500+i) (by omega)).trans (cn.dA i M);have h8:=wo (iY (λi=>R.ptr (228500+i) (a.gs.getD i 0) 0) M);have bW:(bC (D a.E) λi=>R.ptr (228500+i) (a.gs.getD i 0) 0).length=D a.E:=gX _ _;have cU:=a.xH i;have hlen:=CZ cU;have mh:=MG cU;rw[show (a.gM i).f=(bJ a.aF i:Int) from sa] at mh;have tg:=MF cU (k:=bJ a.aF i) (z:=cS a.cs i (bJ a.aF i:Nat)) (iY _ (by omega));have dv:=azS i M;have dh:=X.steady (bJ a.aF) i;have eH:=X.upto i (bJ a.aF i);have azU:IntKind.i64.wrap (la a.E a.cs (bJ a.aF) i-cS a.cs i (bJ a.aF i:Nat))=la a.E a.cs (bJ a.aF) i-cS a.cs i (bJ a.aF i:Nat):=by rw[e2 _]
  have hw:=CW (la a.E a.cs (bJ a.aF) i-cS a.cs i (bJ a.aF i:Nat)) (nJ (by omega) (by omega))
  have azV:A r (D p)=((la a.E a.cs (bJ a.aF) i-cS a.cs i (bJ a.aF i:Nat):Int):Rat):=by
   rw[<-dP];unfold Day.uN;rw[ah (by omega),E9,<-MA X.right,<-uF X.right,CM]
  have azW:∀k,k<(D p)->A r k=(if r=k then 1 else 0)-(aB a.E a.cs).W (bJ a.aF) (p.getD k 0) i:=λk O=>by
   rw[<-dP];unfold Day.uN;rw[ad O,E9]
  have ei:i+1<=D a.E:=by omega
  have ai:bJ a.aF i<11:=by omega
  have bM:(11+bJ a.aF i+1<=24)=True:=eq_true (by omega);rw[<-azV] at hw;generalize uQ:228500+i=ed at *;generalize fC (a.gM i)=DC at *;generalize (bC (D a.E) λi=>R.ptr (228500+i) (a.gs.getD i 0) 0)=xI at *;generalize la a.E a.cs (bJ a.aF) i=S1 at *;generalize cS a.cs i (bJ a.aF i:Nat)=akN at *;generalize bJ a.aF i=F0 at *;generalize hT:ao (A r (D p))=eK at *;obtain⟨⟨tX,tY⟩,⟨Fj,Fk⟩⟩:=eK;simp only[aH] at hw;have azX:(ed==256013)=false:=beq_eq_false_iff_ne.2 (by omega);have azY:(256013==ed)=false:=beq_eq_false_iff_ne.2 (by omega);have azZ:(ed=256013)=False:=eq_false (by omega);simp only[go_sem,go_sem_proc,hG,bl,ay,aC,cg,dp,jB,px,um,eS,fk,h8,bW,hlen,mh,tg,dv,azU,hw,Q,d1,bT,M,ei,ai,bM,azX,azY,azZ,bI,iB,cI,ak,bj];refine ayg (kc:=256013) (g:=gG (m 256013)) (off:=0) (cs:=[.nil,.J (.int .i64 tX),.J (.Y (tY.map ae)),.J (.int .i64 Fj),.J (.Y (Fk.map ae))]) ?_ ?_ rfl (by decide) ?_
  ·simp only[go_sem,go_sem_proc]
  ·simp[a2]
  simp only[go_sem,go_sem_proc,aC,ak,rX];refine azL T hG nd mem (D a.E) (by omega) p (by omega) (λk i=>(aB a.E a.cs).W (bJ a.aF) k i) r i M (λk O=>azP _ (mC k O).2 i) (.ref 228023 a.g 1 0 (D a.E)) (.J (.Y akT)) (.ref 256082 g 5 0 r) (.J (.Y (p.map iB))) (.J (.int .i64 (D p))) (.J (.int .i64 r)) (gG (m 256013)) (gG (m 256076)) (.J (.int .i64 tX)) (.J (.Y (tY.map ae))) (.J (.int .i64 Fj)) (.J (.Y (Fk.map ae))) (some (g,a9 j0 ((rowsOf (D p) A).take r))) _ _ ?_ ?_ ?_ ?_ ?_ ?_ ?_ ?_ ?_ ?_ ?_ ?_ ?_ ?_ ?_ ?_ ?_ ?_
  ·simp only[eE,dC,if_false];exact bl
  ·simp only[eE,dC,if_false];exact ay
  ·simp only[eE,dC,if_false];exact aC
  ·simp only[eE,dC,if_false];exact cg
  ·simp only[eE,dC,if_false];exact dp
  ·simp only[eE,dC,if_false,if_true]
  ·simp only[eE,dC,if_false,if_true]
  ·simp only[eE,dC,if_false,if_true]
  ·simp only[eE,dC,if_false];exact jB
  ·simp only[eE,dC,if_false];exact px
  ·simp only[eE,dC,if_false];exact um
  ·simp only[eE,dC,if_false,if_true]
  ·simp only[eE,dC,if_false,if_true]
  ·simp[a2]
  ·simp[a2]
  ·simp only[a2,dC,if_false];exact Fo
  ·repeat first|exact bX|refine ep.e5 ?_ (by decide)
  intro tm cJ Iy fL b9 dc eI oa w7 RK az0 az1 az2 aba az3 q9;have az4:(cT (D p) λk=>(if r=k then 1 else 0)-(aB a.E a.cs).W (bJ a.aF) (p.getD k 0) i)=cT (D p) (A r):=CS λk O=>(azW k O).symm;rw[az4] at aba;clear bl ay aC cg dp jB px um Fo eS fk h8 bX;have dz:=λcs kd=>lv agD ayl 256082 g 88 ((rowsOf (D p) A).take r) (cT (D p) (A r),ao (A r (D p))) (cs:=cs) kd;have sZ:((rowsOf (D p) A).take r).length=r:=by rw[gF,CV];omega
  have ga:(rowsOf (D p) A).take r++[(cT (D p) (A r),ao (A r (D p)))]=(rowsOf (D p) A).take (r+1):=by
   rw[g4,ajl A az];rfl
  rw[sZ,ga,hT] at dz;have lV:(cT (D p) (A r)).length=D p:=mT _ _;generalize cT (D p) (A r)=V at *;have o7:=dz _ rfl (by omega) (by omega);simp only[aH,j0,ev,cZ] at o7;simp only[go_sem,go_sem_proc];refine ayh (kc:=256013) (gc:=gG (m 256013)) (off:=0) (cc:=[.ref 256076 Iy 4 0 (D p),.J (.int .i64 tX),.J (.Y (tY.map ae)),.J (.int .i64 Fj),.J (.Y (Fk.map ae))]) (k:=256076) (g:=Iy) (sz:=4) (o:=0) (len:=D p) (cs:=a9 aH V) (d:=.Y (V.map aH)) ?_ az2 rfl aba (aeM _ _) (by decide) ?_ ?_
  ·exact w7
  ·have:=qD (n:=0) lG aba;rw[lV] at this;exact this
  refine aX ?_;repeat' (intro h<;>simp only[h,go_sem,go_sem_proc,fL,b9,dc,eI,oa,w7,RK,az0,az1,az3,o7,bT,rX]<;>try refine ax ?_ ?_)
  exact⟨(r+1,g+1),by dsimp only;omega,by dsimp only;omega,rfl,rfl,rfl,by repeat first|exact q9|refine ep.e5 ?_ (by decide)⟩
 ·have d1:decide ((r:Int)<(D p:Int))=false:=cY;have akU:r=D p:=by omega
  have hlen:=CV (D p) A;rw[dr (by rw[hlen];omega)] at Fo;obtain⟨dh,eH⟩:=Ra;have kK:rU (rowsOf (D p) A):=axA (by omega) λi M k O=>ig (MS.sz (by omega) M O) (by omega);have e8:=av2 (rowsOf (D p) A) (D p) kK;rw[dh] at e8;dsimp only at e8;have ld:=λ(K:a8->Prop) (st:a8)=>lx (K:=K) (st:=st) agD 10 256082 g (rowsOf (D p) A);rw[hlen] at ld;subst akU;refine aX ?_;repeat' (intro h<;>simp only[h,go_sem,go_sem_proc,azO,bl,ay,aC,cg,dp,jB,px,um,Fo,d1,ld,e8,ak,bne,beq_self_eq_true,cP]<;>try refine ax ?_ ?_)
  exact⟨_,rfl,rfl,by repeat first|exact bX|refine ep.e5 ?_ (by decide)|refine ep.kill ?_ (by decide)⟩
end Go.Mini
namespace Go.Mini
open Classical
def ti (cs:List au)(f:Nat->Nat)(n:Nat):List au:=(dF n).flatMap λi=>(dF (f i)).flatMap λk=>dg cs i k
theorem az5 (aQ:Nat->List au)(r n:Nat)(h:r<=n):((dF n).flatMap λk=>if k<r then aQ k else [])=(dF r).flatMap aQ:=by
 induction n with
 |zero=>rw[show r=0 by omega];rfl
 |succ n aA =>
  rw[ov,y5,qF,CX,fv]
  by_cases ab:r=n+1
  ·subst ab;rw[ad (by omega),ov,y5,qF,CX,fv]
   congr 1
   rw[y6,y6]
   congr 1
   exact m4 λk O=>ad (by have:=gR.1 O;omega)
  ·rw[ah (by omega),fv];exact aA (by omega)
theorem akV {α:Type}(l:List α)(aQ:α->List au)(p:au->Bool):(l.flatMap aQ).filter p=l.flatMap λx=>(aQ x).filter p:=by
 induction l with
 |nil=>rfl
 |cons a l aA=>rw[qF,qF,pI,aA]
theorem az6 {cs:List au}{f:Nat->Nat}{n:Nat}(aJ:∀i,i<n->f i<=10):ti cs f n=(dy n cs).filter λc=>decide (c.2.2.1<(f c.1.toNat:Int)):=by
 unfold ti dy;rw[akV,y6,y6]
 congr 1
 refine m4 λi M=>?_;rw[akV,<-az5 (λk=>dg cs i k) (f i) 10 (aJ i (gR.1 M)),y6,y6]
 congr 1
 refine m4 λk _=>?_
 by_cases h:k<f i
 ·rw[ad h];refine (List.filter_eq_self.2 λc H=>?_).symm;obtain⟨-,G,I⟩:=Ff.1 H;rw[G,I,lz];exact c6
 ·rw[ah h];refine (Ib.2 λc H=>?_).symm;obtain⟨-,G,I⟩:=Ff.1 H;rw[G,I,lz,decide_eq_true_eq];omega
theorem az7 (cs:List au)(p:au->Prop)[DecidablePred p](aQ:au->Int):cO (cs.filter λc=>decide (p c)) aQ=cO cs λc=>if p c then aQ c else 0:=by
 induction cs with
 |nil=>rfl
 |cons c l aA =>
  by_cases h:p c
  ·rw[uO (by simpa using h)];simp only[cO,aA,ad h]
  ·rw[wc (by simpa using h),aA];simp only[cO,ah h];omega
def gY (j:Nat)(c:au):Int:=if c.2.1=(j:Int) then c.2.2.2 else 0
theorem akW {E:List Int}{cs:List au}{f:Nat->Nat}(MT:cs=dy (D E) cs)(aJ:∀i,i<(D E)->f i<=10)(j:Nat):la E cs f j=E.getD j 0+cO (ti cs f (D E)) (gY j):=by
 rw[az6 aJ,<-MT,az7 cs (λc=>c.2.2.1<(f c.1.toNat:Int))];unfold la
 congr 1
 refine HZ λc _=>?_;unfold gY
 by_cases G:c.2.1=(j:Int)
 ·by_cases I:c.2.2.1<(f c.1.toNat:Int)
  ·rw[ad ⟨G,I⟩,ad I,ad G]
  ·rw[ah λh=>I h.2,ah I]
 ·rw[ah λh=>G h.1,ah G]
  split<;>rfl
theorem az8 {cs:List au}{f:Nat->Nat}{n:Nat}{c:au}(h:c∈ti cs f n):c∈cs:=by
 unfold ti at h;simp only[yk] at h;obtain⟨i,-,k,-,H⟩:=h;exact (Ff.1 H).1
def kp (cs:List au)(f:Nat->Nat)(i k t:Nat):List au:=ti cs f i++(((dF k).flatMap λk=>dg cs i k)++(dg cs i k).take t)
theorem az9 (cs:List au)(f:Nat->Nat):kp cs f 0 0 0=[]:=rfl
theorem aAa (cs:List au)(f:Nat->Nat)(i k:Nat):kp cs f i k (dg cs i k).length=kp cs f i (k+1) 0:=by
 unfold kp;rw[lC,ns,fv,ov,y5,qF,CX,fv]
theorem aAb (cs:List au)(f:Nat->Nat)(i:Nat):kp cs f i (f i) 0=kp cs f (i+1) 0 0:=by
 unfold kp ti;rw[ns,ns,fv,ov,y5,qF,CX,fv];simp
theorem akX (cs:List au)(f:Nat->Nat)(n:Nat):kp cs f n 0 0=ti cs f n:=by
 unfold kp;simp
theorem akY (cs:List au)(f:Nat->Nat){n i k t:Nat}(M:i<n)(O:k<f i):∃l,ti cs f n=kp cs f i k t++l:=by
 have aK:∃m,n=i+1+m:=⟨n-(i+1),by omega⟩
 obtain⟨m,rfl⟩:=aK;have aJ:∃r,f i=k+1+r:=⟨f i-(k+1),by omega⟩
 obtain⟨r,ab⟩:=aJ;have RL:∀(a b:Nat) (aQ:Nat->List au),(dF (a+b)).flatMap aQ=(dF a).flatMap aQ++((dF b).map (a+·)).flatMap aQ:=λa b aQ=>by rw[akZ,y5]
 unfold ti kp;rw[RL,ov,y5,qF,CX,fv,ab,RL,ov,y5,qF,CX,fv];refine⟨(dg cs i k).drop t++(((dF r).map (k+1+·)).flatMap (λk=>dg cs i k)++((dF m).map (i+1+·)).flatMap λi=>(dF (f i)).flatMap λk=>dg cs i k),?_⟩;unfold ti;simp only[gb]
 congr 1
 congr 1
 rw[<-gb ((dg cs i k).take t),tO]
theorem ak0 {E:List Int}{cs:List au}(h:ff E cs){f:Nat->Nat}(MT:cs=dy (D E) cs)(aJ:∀i,i<(D E)->f i<=10)(j:Nat){l fu:List au}(aw:ti cs f (D E)=l++fu):0<=cO l (gY j)/\cO l (gY j)<=13000000000000000:=by
 have Du:∀m:List au,(∀c∈m,c∈cs)->0<=cO m (gY j):=by
  intro m
  induction m with
  |nil=>intro _;exact Q3 _
  |cons c m aA =>
   intro hm;have G:=aA λy av=>hm y (g6 _ av);have I:=((hF.1 h.right).2.2.2 c (hm c gv)).2.2.2.2.2.2.1;simp only[cO,gY] at *
   split<;>omega
 have hm:∀c∈l++fu,c∈cs:=λc H=>az8 (by rw[aw];exact H);have G:=Du l λc H=>hm c (by simp[H]);have I:=Du fu λc H=>hm c (by simp[H]);have af:=akW MT aJ j;rw[aw,Mm] at af;have aS:=h.steady f j;have bm:=h.E j;omega
end Go.Mini
namespace Go.Mini
open Go
theorem ak1 {n c:Nat}(H:c<n)(q:Nat->Int)(v:Int):fJ c (yZ bI (bC n q))++[R.J (.int .i64 v)]++fT (c+1) (yZ bI (bC n q))=yZ bI (bC n λj=>if j=c then v else q j):=by
 rw[<-AS,Ay,MU,ad (by rw[ak,gX];exact H)];simp[bI]
theorem ak2 {n c:Nat}(H:c<n)(q:Nat->Int):fJ 1 (fT c (yZ bI (bC n q)))=[.J (.int .i64 (q c))]:=xE (f:=bI) (iY q H)
theorem ak3 (n:Nat)(q:Nat->Int):(yZ bI (bC n q)).length=n:=by rw[ak,gX]
theorem RM (l:List au)(c:au)(aQ:au->Int):cO (l++[c]) aQ=cO l aQ+aQ c:=by
 rw[Mm];simp[cO]
theorem aAc (T:bb){K:eT->a8->Prop}{kk:List gu}(ez:Mem)(n:Nat)(aK:n<=60)(L:List au)(B:Nat->Int)(fS:∀t j,0<=B j+cO (L.take t) (gY j)/\B j+cO (L.take t) (gY j)<=4000000000000000000)(gy:∀c∈L,c.2.1<n /\ -1<=c.2.1)(aMz:(D L)<=2000)(v0 v4 v6 sb Au ak4 v30 IB IC ak5 ak6:R)(bR:Nat)(ID IE:Option (Nat×List R))(tm:Nat->R)(m:Mem)
  (bl:tm 0=v0) (dw:tm 4=v4) (cX:tm 5=.ref 248029 bR 1 0 n) (bN:tm 6=v6) (bq:tm 7=sb) (cE:tm 8=Au) (fp:tm 9=ak4) (h2:tm 30=v30) (ja:tm 31=IB) (jb:tm 32=IC) (nL:tm 50=ak5) (nM:tm 51=ak6) (oz:tm 59=j7 L) (kq:tm 60=.J (.int .i64 (D L))) (tj:tm 61=.J (.int .i64 0))
  (mi:m 248029=some (bR,(bC n B).map bI)) (nN:m 248094=ID) (nO:m 248098=IE) (bX:ep 248 ez m)
  (dK:∀tm' m',tm' 0=v0->tm' 4=v4->tm' 5=.ref 248029 bR 1 0 n->tm' 6=v6->tm' 7=sb->tm' 8=Au->tm' 9=ak4->tm' 30=v30->tm' 31=IB->tm' 32=IC->tm' 50=ak5->tm' 51=ak6->m' 248029=some (bR,(bC n λj=>B j+cO L (gY j)).map bI)->m' 248094=ID->m' 248098=IE->ep 248 ez m'->cD T K kk (.exit 4) ⟨tm',m'⟩) :
  wp T (vR.body.sub [1,1,1,1,1,0,1,0,0,0,0,1,1,0,0,1,1,0,1,0,0,1,1,0,0,1,1,0]) (cD T K kk) ⟨tm,m⟩:=by
 simp only[vR,eu.sub]
 refine dd [0,4,5,6,7,8,9,30,31,32,50,51,59,60] [248094,248098] (λ(t:Nat) tm m=>t<=D L/\tm 61=.J (.int .i64 t)/\m 248029=some (bR,(bC n λj=>B j+cO (L.take t) (gY j)).map bI)/\ep 248 ez m) (λt=>D L-t) 0 (by
  refine⟨by omega,tj,?_,bX⟩
  rw[mi]
  congr 3
  exact kM λj _=>by rw[ns];simp[cO]) ?_
 intro vs ms aP aO;simp only[go_sem,go_sem_proc,bl,dw,cX,bN,bq,cE,fp,h2,ja,jb,nL,nM,oz,kq,nN,nO] at aP aO;subst aP aO;clear bl dw cX bN bq cE fp h2 ja jb nL nM oz kq tj mi nN nO bX tm m;rintro t tm m O hm ⟨ajp,tj,mi,bX⟩;simp only[go_sem,go_sem_proc,a3] at O hm;obtain⟨bl,dw,cX,bN,bq,cE,fp,h2,ja,jb,nL,nM,oz,kq⟩:=O;obtain⟨nN,nO⟩:=hm;rcases dn (t<D L) with az|b4
 ·have d1:decide ((t:Int)<(D L:Int))=true:=c6;have bT:=eA (i:=t) (by omega);obtain⟨⟨aI,c2,c3,c4⟩,Q⟩:∃c,L[t]?=some c:=⟨_,bs az⟩;have lp:=gy _ (ee Q);dsimp only at lp;have sT:=akm Q;simp only[go_sem,go_sem_proc] at sT;have ga:L.take (t+1)=L.take t++[(aI,c2,c3,c4)]:=by rw[g4,Q];rfl
  rcases q:decide (c2>=0)
  ·have vb:c2<0:=by have:=of_decide_eq_false q;omega
   have uR:(bC n λj=>B j+cO (L.take (t+1)) (gY j))=bC n λj=>B j+cO (L.take t) (gY j):=kM λj _=>by
    rw[ga,RM];unfold gY;rw[ah (by dsimp only;omega)];omega
   refine aX ?_;repeat' (intro h<;>simp only[h,go_sem,go_sem_proc,bl,dw,cX,bN,bq,cE,fp,h2,ja,jb,nL,nM,oz,kq,tj,mi,nN,nO,sT,d1,bT,q,ck,cI]<;>try refine ax ?_ ?_)
   refine⟨t+1,by omega,by omega,rfl,by rw[uR],by repeat first|exact bX|refine ep.e5 ?_ (by decide)⟩
  ·have vb:0<=c2:=of_decide_eq_true q;obtain⟨i,rfl⟩:∃t:Nat,c2=(t:Int):=⟨c2.toNat,by omega⟩
   have cF:i<n:=by omega
   have kY:=fS t i;have eR:=fS (t+1) i;rw[ga,RM] at eR;have sc:gY i (aI,(i:Int),c3,c4)=c4:=by unfold gY;rw[ad rfl]
   rw[sc] at eR;have MV:IntKind.i64.wrap (B i+cO (L.take t) (gY i)+c4)=B i+cO (L.take t) (gY i)+c4:=by rw[e2 _]
   have uR:(bC n λj=>B j+cO (L.take (t+1)) (gY j))=bC n λj=>if j=i then B i+cO (L.take t) (gY i)+c4 else B j+cO (L.take t) (gY j):=kM λj _=>by
    rw[ga,RM]
    by_cases aj:j=i
    ·rw[ad aj,aj,sc];omega
    ·rw[ah aj];have:gY j (aI,(i:Int),c3,c4)=0:=by unfold gY;rw[ah (by dsimp only;omega)]
     rw[this];omega
   have t1:=ak2 cF λj=>B j+cO (L.take t) (gY j);have t2:=ak3 n λj=>B j+cO (L.take t) (gY j);have t3:=ak1 cF (λj=>B j+cO (L.take t) (gY j)) (B i+cO (L.take t) (gY i)+c4);rw[<-uR] at t3;have ei:i+1<=n:=by omega
   generalize aq:(bC n λj=>B j+cO (L.take t) (gY j)).map bI=bL at *;generalize oM:(bC n λj=>B j+cO (L.take (t+1)) (gY j)).map bI=pD at *;generalize B i+cO (L.take t) (gY i)=S1 at *;refine aX ?_;repeat' (intro h<;>simp only[h,go_sem,go_sem_proc,bl,dw,cX,bN,bq,cE,fp,h2,ja,jb,nL,nM,oz,kq,tj,mi,nN,nO,sT,d1,bT,q,MV,t1,t2,t3,cF,ei,ck,cI]<;>try refine ax ?_ ?_)
   refine⟨t+1,by omega,by omega,rfl,by rw[oM],by repeat first|exact bX|refine ep.e5 ?_ (by decide)⟩
 ·have d1:decide ((t:Int)<(D L:Int))=false:=cY;rw[dr (by omega)] at mi;refine aX ?_;repeat' (intro h<;>simp only[h,go_sem,go_sem_proc,bl,dw,cX,bN,bq,cE,fp,h2,ja,jb,nL,nM,oz,kq,tj,d1]<;>try refine ax ?_ ?_)
  refine dK _ _ ?_ ?_ ?_ ?_ ?_ ?_ ?_ ?_ ?_ ?_ ?_ ?_ mi nN nO bX<;>simp only[eE,dC,if_false,bl,dw,cX,bN,bq,cE,fp,h2,ja,jb,nL,nM]
theorem ak7 (cs:List au)(f:Nat->Nat)(i k t:Nat):kp cs f i k t=kp cs f i k 0++(dg cs i k).take t:=by
 unfold kp;simp
theorem aAd (T:bb){K:eT->a8->Prop}{kk:List gu}(ez:Mem)(E:List Int)(cs:List au)(f:Nat->Nat)(X:ff E cs)(MT:cs=dy (D E) cs)(aJ:∀i,i<(D E)->f i<=10)(i:Nat)(M:i<D E)(x:ox)(Q:x.dt)(eM:∀k,k<10->x.dj[k]?=some (dg cs i k))(B:Nat->Int)(fS:∀j,0<=B j/\B j<=1000000000000000)(ed g:Nat)(uQ:ed/1000≠248)(kf:ez ed=some (g,fC x))(v0 v4 v6 sb Au v30 IB IC:R)(bR:Nat)(ID IE:Option (Nat×List R))(tm:Nat->R)(m:Mem)
  (bl:tm 0=v0) (dw:tm 4=v4) (cX:tm 5=.ref 248029 bR 1 0 (D E)) (bN:tm 6=v6) (bq:tm 7=sb) (cE:tm 8=Au) (fp:tm 9=.ptr ed g 0) (h2:tm 30=v30) (ja:tm 31=IB) (jb:tm 32=IC) (nL:tm 50=.J (.int .i64 (f i))) (nM:tm 51=.J (.int .i64 0))
  (mi:m 248029=some (bR,(bC (D E) λj=>B j+cO (kp cs f i 0 0) (gY j)).map bI)) (nN:m 248094=ID) (nO:m 248098=IE) (bX:ep 248 ez m)
  (dK:∀tm' m',tm' 0=v0->tm' 4=v4->tm' 5=.ref 248029 bR 1 0 (D E)->tm' 6=v6->tm' 7=sb->tm' 8=Au->tm' 9=.ptr ed g 0->tm' 30=v30->tm' 31=IB->tm' 32=IC->m' 248029=some (bR,(bC (D E) λj=>B j+cO (kp cs f (i+1) 0 0) (gY j)).map bI)->m' 248094=ID->m' 248098=IE->ep 248 ez m'->cD T K kk (.exit 2) ⟨tm',m'⟩) :
  wp T (vR.body.sub [1,1,1,1,1,0,1,0,0,0,0,1,1,0,0,1,1,0,1,0]) (cD T K kk) ⟨tm,m⟩:=by
 simp only[vR,eu.sub];have sa:=aJ i M;have aK:=X.iX;refine dd [0,4,5,6,7,8,9,30,31,32,50] [248094,248098] (λ(k:Nat) tm m=>k<=f i/\tm 51=.J (.int .i64 k)/\m 248029=some (bR,(bC (D E) λj=>B j+cO (kp cs f i k 0) (gY j)).map bI)/\ep 248 ez m) (λk=>f i-k) 0 (by refine⟨by omega,nM,mi,bX⟩) ?_;intro vs ms aP aO;simp only[go_sem,go_sem_proc,bl,dw,cX,bN,bq,cE,fp,h2,ja,jb,nL,nN,nO] at aP aO;subst aP aO;clear bl dw cX bN bq cE fp h2 ja jb nL nM mi nN nO bX tm m;rintro k tm m O hm ⟨HS,nM,mi,bX⟩;simp only[go_sem,go_sem_proc,a3] at O hm;obtain⟨bl,dw,cX,bN,bq,cE,fp,h2,ja,jb,nL⟩:=O;obtain⟨nN,nO⟩:=hm;rcases dn (k<f i) with az|b4
 ·have d1:decide ((k:Int)<(f i:Int))=true:=c6;have bT:=eA (i:=k) (by omega);have ag:=(bX ed uQ).trans kf;have hlen:=CZ Q;have C2:=akn (x:=x) (k:=k) (l:=dg cs i k) (eM k (by omega));have ei:k<10:=by omega
  have bM:(1+k+1<=24)=True:=eq_true (by omega);have ak8:=akl (dg cs i k);simp only[go_sem,go_sem_proc] at ak8;generalize fC x=DC at *;simp only[go_sem,go_sem_proc,bl,dw,cX,bN,bq,cE,fp,h2,ja,jb,nL,nM,ag,hlen,C2,d1,ei,bM,ak8,cI];refine aAc T ez (D E) (by omega) (dg cs i k) (λj=>B j+cO (kp cs f i k 0) (gY j)) (λt j=>?_) (λc H=>?_) ?_ v0 v4 v6 sb Au (.ptr ed g 0) v30 IB IC (.J (.int .i64 (f i))) (.J (.int .i64 k)) bR ID IE _ _ ?_ ?_ ?_ ?_ ?_ ?_ ?_ ?_ ?_ ?_ ?_ ?_ ?_ ?_ ?_ mi nN nO bX ?_
  ·obtain⟨l,aw⟩:=akY cs f (n:=D E) (t:=t) M az;have G:=ak0 X MT aJ j aw;rw[ak7,Mm] at G;have I:=fS j;omega
  ·have:=(hF.1 X.right).2.2.2 c (Ff.1 H).1;omega
  ·have G:=ou (λc:au=>c.1==(i:Int)&&c.2.2.1==(k:Int)) cs;have I:=X.q3;unfold dg;omega
  all_goals first|(intro tm' m' fL kI pF gK hY hX nb RN RO RP aAe aAf IF RQ RR xJ)|(simp only[eE,dC,if_false,if_true,bl,dw,cX,bN,bq,cE,fp,h2,ja,jb,nL,nM])
  have hR:(bC (D E) λj=>B j+cO (kp cs f i k 0) (gY j)+cO (dg cs i k) (gY j))=bC (D E) λj=>B j+cO (kp cs f i (k+1) 0) (gY j):=kM λj _=>by
   rw[<-aAa,ak7 cs f i k (dg cs i k).length,lC,Mm];omega
  rw[hR] at IF;refine aX ?_;repeat' (intro h<;>simp only[h,go_sem,go_sem_proc,fL,kI,pF,gK,hY,hX,nb,RN,RO,RP,aAe,aAf,RQ,RR,bT]<;>try refine ax ?_ ?_)
  refine⟨k+1,by omega,by omega,rfl,IF,xJ⟩
 ·have d1:decide ((k:Int)<(f i:Int))=false:=cY;obtain rfl:k=f i:=by omega
  rw[aAb] at mi;refine aX ?_;repeat' (intro h<;>simp only[h,go_sem,go_sem_proc,bl,dw,cX,bN,bq,cE,fp,h2,ja,jb,nL,nM,d1]<;>try refine ax ?_ ?_)
  refine dK _ _ ?_ ?_ ?_ ?_ ?_ ?_ ?_ ?_ ?_ ?_ mi nN nO bX<;>simp only[eE,dC,if_false,bl,dw,cX,bN,bq,cE,fp,h2,ja,jb]
structure RS (a:db) (mem:Mem):Prop where
 at_:a.eG mem
 iP:r4 248 mem
 jO:r4 255 mem
 wu:r4 256 mem
 Ix:a.Iw
 hk:s9 (aB a.E a.cs) (bJ a.aF) (fw a.P)
open Classical in
theorem ak9 (P:Nat->Prop)(n:Nat):c5 P (n+1)=c5 P n++(if P n then [n] else []):=by
 unfold c5;rw[ov,pI]
 by_cases h:P n
 ·rw[ad h,uO (by simpa using h),ot]
 ·rw[ah h,wc (by simpa using h),ot]
theorem ala (P:Nat->Prop)(n:Nat):(c5 P n).length<=n:=by
 unfold c5;exact eQ (ou _ _) (by rw[pW];exact b0 _)
def db.W (a:db)(k i:Nat):Rat:=(aB a.E a.cs).W (bJ a.aF) k i
theorem alb (n:Nat)(W:Nat->Nat->Rat)(k:Nat):(th n W k).length=1:=rfl
theorem aAg (n:Nat)(W:Nat->Nat->Rat)(k:Nat):((th n W k).map R.J).all R.one=true:=rfl
def oA (a:db)(i j:Nat):Int:=(if j<i then a.E.getD j 0 else 0)+cO (kp a.cs (bJ a.aF) i 0 0) (gY j)
theorem aAh (T:bb)(abb:T ON=y8 RF){K:eT->a8->Prop}{kk:List gu}(a:db)(ez:Mem)(aN:RS a ez)(v0 v4 v30:R)(bR pK lg:Nat)(tm:Nat->R)(m:Mem)
  (bl:tm 0=v0) (dw:tm 4=.J (.int .i64 (D a.E))) (cX:tm 5=.ref 248029 bR 1 0 (D a.E)) (bN:tm 6=.ref 248094 pK 1 0 0) (bq:tm 7=.ref 248098 lg 1 0 0) (h2:tm 30=.ref 228023 a.g 1 0 (D a.E)) (ja:tm 31=.J (.int .i64 (D a.E))) (jb:tm 32=.J (.int .i64 0))
  (mi:m 248029=some (bR,(bC (D a.E) λj=>oA a 0 j).map bI)) (nN:m 248094=some (pK,[])) (nO:m 248098=some (lg,[])) (bX:ep 248 ez m)
  (dK:∀tm' m' alc ald,tm' 0=v0->tm' 4=.J (.int .i64 (D a.E))->tm' 5=.ref 248029 bR 1 0 (D a.E)->tm' 6=.ref 248094 alc 1 0 (D a.p)->tm' 7=.ref 248098 ald 1 0 (D a.p)->m' 248029=some (bR,(bC (D a.E) λj=>oA a (D a.E) j).map bI)->m' 248094=some (alc,a9 iB a.p)->m' 248098=some (ald,a9 (th (D a.E) a.W) a.p)->ep 248 ez m'->cD T K kk (.exit 0) ⟨tm',m'⟩) :
  wp T (vR.body.sub [1,1,1,1,1,0,1,0,0,0]) (cD T K kk) ⟨tm,m⟩:=by
 have RT:=aN;obtain⟨cn,iP,jO,wu,wv,mU⟩:=aN;have uA:=λi=>db.MO cn wv (i:=i);obtain⟨X,gw⟩:=wv;have aK:=X.iX;simp only[vR,eu.sub];refine dd [0,4,5,30,31] [] (λ((i,pK,lg):Nat×Nat×Nat) tm m=>i<=D a.E/\tm 32=.J (.int .i64 i)/\tm 6=.ref 248094 pK 1 0 (c5 (fw a.P) i).length/\tm 7=.ref 248098 lg 1 0 (c5 (fw a.P) i).length/\m 248029=some (bR,(bC (D a.E) λj=>oA a i j).map bI)/\m 248094=some (pK,a9 iB (c5 (fw a.P) i))/\m 248098=some (lg,a9 (th (D a.E) a.W) (c5 (fw a.P) i))/\ep 248 ez m) (λ(i,_)=>D a.E-i) (0,pK,lg) (by refine⟨by omega,jb,bN,bq,mi,nN,nO,bX⟩) ?_;intro vs ms aP aO;simp only[go_sem,go_sem_proc,bl,dw,cX,h2,ja] at aP aO;subst aP aO;clear bl dw cX bN bq h2 ja jb mi nN nO bX tm m;rintro⟨i,pK,lg⟩ tm m O-⟨cF,jb,bN,bq,mi,nN,nO,bX⟩;simp only[go_sem,go_sem_proc,a3] at O;obtain⟨bl,dw,cX,h2,ja⟩:=O;rcases dn (i<D a.E) with M|b4
 ·have d1:decide ((i:Int)<(D a.E:Int))=true:=c6;have bT:=eA (i:=i) (by omega);obtain⟨sa,q8⟩:=uA i M;have eS:=(bX.at 228023 (by omega)).trans cn.row;have sI:=cn.dA i M;have fk:=(bX.at (228500+i) (by omega)).trans sI;have h8:=wo (iY (λi=>R.ptr (228500+i) (a.gs.getD i 0) 0) M);have bW:(bC (D a.E) λi=>R.ptr (228500+i) (a.gs.getD i 0) 0).length=D a.E:=gX _ _;have cU:=a.xH i;have hlen:=CZ cU;have mh:=MG cU;have sd:=akp cU;have ale:=ayG (x:=a.gM i);rw[show (a.gM i).f=(bJ a.aF i:Int) from sa] at mh;rw[show (a.gM i).p=a.P.getD i false from rfl] at sd;rw[show (a.gM i).E=a.E.getD i 0 from rfl] at ale;have aMA:=X.E i;have jv:=akY a.cs (bJ a.aF) (n:=D a.E) (i:=i) (k:=0) (t:=0) M
  have aMB:0<=cO (kp a.cs (bJ a.aF) i 0 0) (gY i)/\cO (kp a.cs (bJ a.aF) i 0 0) (gY i)<=13000000000000000:=by
   have:∃l,ti a.cs (bJ a.aF) (D a.E)=kp a.cs (bJ a.aF) i 0 0++l:=by
    obtain⟨r,ab⟩:∃r,D a.E=i+r:=⟨D a.E-i,by omega⟩
    refine⟨((dF r).map (i+·)).flatMap λi=>(dF (bJ a.aF i)).flatMap λk=>dg a.cs i k,?_⟩;rw[akX];unfold ti;rw[ab,akZ,y5]
   obtain⟨l,aw⟩:=this;exact ak0 X cn.can (λi M=>(uA i M).2) i aw
  have Z1:oA a i i=cO (kp a.cs (bJ a.aF) i 0 0) (gY i):=by unfold oA;rw[ah (by omega)];omega
  have aAi:IntKind.i64.wrap (oA a i i+a.E.getD i 0)=oA a i i+a.E.getD i 0:=by rw[e2 _]
  have t1:=ak2 M λj=>oA a i j;have t2:=ak3 (D a.E) λj=>oA a i j;have t3:=ak1 M (λj=>oA a i j) (oA a i i+a.E.getD i 0)
  have Fp:(bC (D a.E) λj=>if j=i then oA a i i+a.E.getD i 0 else oA a i j)=bC (D a.E) λj=>(if j<i+1 then a.E.getD j 0 else 0)+cO (kp a.cs (bJ a.aF) i 0 0) (gY j):=kM λj _=>by
   by_cases aj:j=i
   ·rw[ad aj,aj,ad (by omega),Z1];omega
   ·rw[ah aj];unfold oA
    by_cases vk:j<i
    ·rw[ad vk,ad (by omega)]
    ·rw[ah vk,ah (by omega)]
  rw[Fp] at t3;have ei:i+1<=D a.E:=by omega
  have uQ:(228500+i)/1000≠248:=by omega
  generalize o6:228500+i=ed at *;have aAj:(ed=248029)=False:=eq_false (by omega);have aAk:(ed==248029)=false:=beq_eq_false_iff_ne.2 (by omega);have aAl:(248029==ed)=false:=beq_eq_false_iff_ne.2 (by omega);have aMC:fC (a.gM i)=fC (a.gM i):=rfl;generalize fZ:(bC (D a.E) λj=>oA a i j).map bI=bL at *;generalize IG:(bC (D a.E) λj=>(if j<i+1 then a.E.getD j 0 else 0)+cO (kp a.cs (bJ a.aF) i 0 0) (gY j)).map bI=pD at *;generalize IH:(bC (D a.E) λi=>R.ptr (228500+i) (a.gs.getD i 0) 0)=xI at *;generalize MW:fC (a.gM i)=DC at *;simp only[go_sem,go_sem_proc,bl,dw,cX,bN,bq,h2,ja,jb,eS,fk,h8,bW,hlen,mh,sd,ale,mi,t1,t2,t3,aAi,d1,M,ei,aAj,aAk,aAl,bI,lf,cI];refine aAd T ez a.E a.cs (bJ a.aF) X cn.can (λi M=>(uA i M).2) i M (a.gM i) cU (λk O=>iY _ O) (λj=>if j<i+1 then a.E.getD j 0 else 0) (λj=>?_) ed (a.gs.getD i 0) uQ (by rw[MW];exact sI) v0 (.J (.int .i64 (D a.E))) (.ref 248094 pK 1 0 (c5 (fw a.P) i).length) (.ref 248098 lg 1 0 (c5 (fw a.P) i).length) (.J (.int .i64 i)) (.ref 228023 a.g 1 0 (D a.E)) (.J (.int .i64 (D a.E))) (.J (.int .i64 i)) bR (some (pK,a9 iB (c5 (fw a.P) i))) (some (lg,a9 (th (D a.E) a.W) (c5 (fw a.P) i))) _ _ ?_ ?_ ?_ ?_ ?_ ?_ ?_ ?_ ?_ ?_ ?_ ?_ ?_ ?_ ?_ (bX.e5 (by decide)) ?_
  ·have:=X.E j
   split<;>omega
  all_goals first|(intro tm' m' fL kI pF gK hY hX nb RN RO RP IF RQ RR xJ)|(simp only[eE,dC,if_false,if_true,bl,dw,cX,bN,bq,h2,ja,jb])|(simp only[a2,dC,if_false,if_true,nN,nO])|skip
  ·rw[<-IG]
  have hR:(bC (D a.E) λj=>(if j<i+1 then a.E.getD j 0 else 0)+cO (kp a.cs (bJ a.aF) (i+1) 0 0) (gY j))=bC (D a.E) λj=>oA a (i+1) j:=rfl;rw[hR] at IF;have eR:=(xJ ed uQ).trans sI;have pl:=ala (fw a.P) i;rcases q:a.P.getD i false
  ·have gJ:c5 (fw a.P) (i+1)=c5 (fw a.P) i:=by
    rw[ak9,ah (by unfold fw;rw[q];decide),fv]
   rw[q] at sd;refine aX ?_;repeat' (intro h<;>simp only[h,go_sem,go_sem_proc,fL,kI,pF,gK,hY,hX,nb,RN,RO,RP,RQ,RR,eR,hlen,sd,bT,lf,cI]<;>try refine ax ?_ ?_)
   exact⟨(i+1,pK,lg),by dsimp only;omega,by dsimp only;omega,rfl,by rw[gJ],by rw[gJ],IF,by rw[gJ],by rw[gJ],xJ⟩
  ·have gx:fw a.P i:=q
   have gJ:c5 (fw a.P) (i+1)=c5 (fw a.P) i++[i]:=by
    rw[ak9,ad gx]
   have aAm:bJ a.aF i<10:=by
    obtain⟨G,g,I,af⟩:=mU;exact (af.gL i gx).2
   have jQ:=azD a i m' ⟨cn.aG xJ (by decide) aK,jO.aG xJ (by decide),⟨X,gw⟩,M,aAm,mU.r0 i gx⟩;rw[o6] at jQ;have aAn:RE (a,i)=.cH [.Y ((cT (D a.E) (a.W i)).map aH),.bool true]:=rfl;rw[aAn] at jQ;have alf:=lv y0 akj 248094 pK 8 (c5 (fw a.P) i) i (cs:=[.J (.int .i64 i)]) rfl (by omega) (by omega);have alg:=lv (alb (D a.E) a.W) (aAg (D a.E) a.W) 248098 lg 24 (c5 (fw a.P) i) i (cs:=[.J (.Y ((cT (D a.E) (a.W i)).map aH))]) rfl (by omega) (by omega);have b2:(c5 (fw a.P) (i+1)).length=(c5 (fw a.P) i).length+1:=by rw[gJ,fG];rfl
   rw[<-gJ] at alf alg;rw[q] at sd;generalize (cT (D a.E) (a.W i)).map aH=V at *;refine aX ?_;repeat' (intro h<;>simp only[h,go_sem,go_sem_proc,abb,fL,kI,pF,gK,hY,hX,nb,RN,RO,RP,RQ,RR,eR,hlen,sd,jQ,alf,alg,bT,lf,cI,cP]<;>try refine ax ?_ ?_)
   exact⟨(i+1,pK+1,lg+1),by dsimp only;omega,by dsimp only;omega,rfl,by rw[b2],by rw[b2],IF,rfl,rfl,by repeat first|exact xJ|refine ep.e5 ?_ (by decide)⟩
 ·have d1:decide ((i:Int)<(D a.E:Int))=false:=cY;obtain rfl:i=D a.E:=by omega
  refine aX ?_;repeat' (intro h<;>simp only[h,go_sem,go_sem_proc,bl,dw,cX,bN,bq,h2,ja,jb,d1]<;>try refine ax ?_ ?_)
  refine dK _ _ pK lg ?_ ?_ ?_ ?_ ?_ mi nN nO bX<;>simp only[eE,dC,if_false,bl,dw,cX,bN,bq,db.p]
theorem aAo (T:bb)(gk:T tS=aU xg)(gf:T vp=aU yQ){K:eT->a8->Prop}{kk:List gu}(ez:Mem)(n:Nat)(p:List Nat)(aE:(D p)<=60)(W:Nat->Nat->Rat)(df:Nat->Rat)(i:Nat)(M:i<n)(wx:Rat)(aW:∀t,t<=(D p)->dE 708 (wx+bF t λk=>W (p.getD k 0) i*df k))(cL:∀k,k<(D p)->dE 438 (W (p.getD k 0) i*df k)/\dE 54 (W (p.getD k 0) i)/\dE 384 (df k))(alh ali alj alk:R)(bR:Nat)(alm:Option (Nat×List R))(tm:Nat->R)(m:Mem)
  (bN:tm 6=.J (.Y (p.map iB))) (bq:tm 7=.J (.Y (p.map (th n W)))) (oB:tm 15=.J (.Y ((cT (D p) df).map aH))) (kH:tm 17=alh) (nF:tm 18=.J (.int .i64 i)) (jB:tm 20=.ptr 248020 bR 0) (xK:tm 110=ali) (xL:tm 111=alj) (p5:tm 112=alk) (MX:tm 120=.J (.int .i64 (D p))) (MY:tm 121=.J (.int .i64 0))
  (II:m 248020=some (bR,(aH (ao wx)).map .J)) (IJ:m 248156=alm) (bX:ep 248 ez m)
  (dK:∀tm' m',tm' 6=.J (.Y (p.map iB))->tm' 7=.J (.Y (p.map (th n W)))->tm' 15=.J (.Y ((cT (D p) df).map aH))->tm' 17=alh->tm' 20=.ptr 248020 bR 0->tm' 110=ali->tm' 111=alj->tm' 112=alk->m' 248020=some (bR,(aH (ao (wx+bF (D p) λk=>W (p.getD k 0) i*df k))).map .J)->m' 248156=alm->ep 248 ez m'->cD T K kk (.exit 8) ⟨tm',m'⟩) :
  wp T (vR.body.sub [1,1,1,1,1,1,1,1,1,0,1,0,0,0,1,1,0,0,1,1,0,1,0]) (cD T K kk) ⟨tm,m⟩:=by
 simp only[vR,eu.sub]
 refine dd [6,7,15,17,18,20,110,111,112,120] [248156] (λ(k:Nat) tm m=>k<=D p/\tm 121=.J (.int .i64 k)/\m 248020=some (bR,(aH (ao (wx+bF k λk=>W (p.getD k 0) i*df k))).map .J)/\ep 248 ez m) (λk=>D p-k) 0 (by
  refine⟨by omega,MY,?_,bX⟩
  rw[II,bF,o1]) ?_
 intro vs ms aP aO;simp only[go_sem,go_sem_proc,bN,bq,oB,kH,nF,jB,xK,xL,p5,MX,IJ] at aP aO;subst aP aO;clear bN bq oB kH nF jB xK xL p5 MX MY II IJ bX tm m;rintro k tm m O hm ⟨HS,MY,II,bX⟩;simp only[go_sem,go_sem_proc,a3] at O hm;obtain⟨bN,bq,oB,kH,nF,jB,xK,xL,p5,MX⟩:=O;rcases dn (k<D p) with az|b4
 ·have d1:decide ((k:Int)<(D p:Int))=true:=c6;have bT:=eA (i:=k) (by omega);obtain⟨wq,Q⟩:∃c,p[k]?=some c:=⟨_,bs az⟩;have p7:p.getD k 0=wq:=by rw[dX,Q];rfl
  obtain⟨jY,k6,wm⟩:=cL k az;have abc:=aW k (by omega);rw[p7] at jY k6;have hmul:=aae (ig k6 (by omega)) (ig wm (by omega)) (QY k6 wm (by omega));have hj:=ajR (ig abc (by omega)) (ig jY (by omega)) (E7 abc jY (by omega))
  have X:(wx+bF (k+1) λk=>W (p.getD k 0) i*df k)=wx+bF k (λk=>W (p.getD k 0) i*df k)+W wq i*df k:=by
   rw[bF,p7];grind
  have ba:=pG (W wq) M;have aAp:=pG df az;rw[<-X] at hj;clear abc jY k6 wm cL aW X dK;generalize ao (wx+bF k λk=>W (p.getD k 0) i*df k)=F1 at *;generalize aAq:ao (wx+bF (k+1) λk=>W (p.getD k 0) i*df k)=F2 at *;generalize ao (W wq i*df k)=F3 at *;generalize ao (W wq i)=F4 at *;generalize ao (df k)=F5 at *;obtain⟨⟨cW,de⟩,⟨ej,fa⟩⟩:=F1;obtain⟨⟨dh,eH⟩,⟨jz,lM⟩⟩:=F2;obtain⟨⟨f1,f2⟩,⟨f3,f4⟩⟩:=F3;obtain⟨⟨cz,cf⟩,⟨g3,jq⟩⟩:=F4;obtain⟨⟨b9,dc⟩,⟨eI,kI⟩⟩:=F5;simp only[aH,ev,cZ] at hmul hj II;refine aX ?_;repeat' (intro h<;>simp only[h,go_sem,go_sem_proc,gk,gf,bN,bq,oB,kH,nF,jB,xK,xL,p5,MX,MY,II,hm,d1,bT,Q,th,ba,aAp,hmul,hj,aH,ak,bj,bne,beq_self_eq_true,cP]<;>try refine ax ?_ ?_)
  refine⟨k+1,by omega,by omega,rfl,by rw[aAq],by repeat first|exact bX|refine ep.e5 ?_ (by decide)⟩
 ·have d1:decide ((k:Int)<(D p:Int))=false:=cY;obtain rfl:k=D p:=by omega
  refine aX ?_;repeat' (intro h<;>simp only[h,go_sem,go_sem_proc,bN,bq,oB,kH,nF,jB,xK,xL,p5,MX,MY,d1]<;>try refine ax ?_ ?_)
  refine dK _ _ ?_ ?_ ?_ ?_ ?_ ?_ ?_ ?_ II hm bX<;>simp only[eE,dC,if_false,bN,bq,oB,kH,jB,xK,xL,p5]
def RU (a:db):Data:=.cH [.Y ((cT (D a.E) ((aB a.E a.cs).fc (bJ a.aF) (fw a.P))).map aH),.bool true]
def abd:List R->Mem->Option Data:=Fh (λ(a:db) args mem=>args=[.ref 228023 a.g 1 0 (D a.E)]/\RS a mem) RU
theorem aAr (a:db)(mem:Mem)(h:RS a mem):abd [.ref 228023 a.g 1 0 (D a.E)] mem=some (RU a):=by
 refine aai (a:=a) ?_ ⟨rfl,h⟩;rintro a b args mem ⟨ay,aC⟩ ⟨cg,dw⟩;rw[db.uniq aC.at_ dw.at_]
theorem IK (l:List Int):l.map bI=a9 ae l:=by
 unfold a9
 induction l with
 |nil=>rfl
 |cons a l aA=>rw[ev,ev,jD,kG,<-aA];rfl
theorem aAs (n:Nat):(dH n [R.J (.int .i64 0)]).flatten=(bC n λ_=>(0:Int)).map bI:=by
 induction n with
 |zero=>rfl
 |succ n aA=>rw[List.replicate_succ',List.flatten_append,aA];simp[bC,ov,bI]
theorem aAt (T:bb)(hG:T pt=aU wb)(abb:T ON=y8 RF)(aAu:T UP=y8 RJ)(gk:T tS=aU xg)(gf:T vp=aU yQ)(a:db)(mem:Mem)(aN:RS a mem):
  wp T vR.body (oi vR.res λm mem'=>cC 6 emp m=some (RU a)/\ep 248 mem mem') ⟨ka [.ref 228023 a.g 1 0 (D a.E)],mem⟩:=by
 have cn:=aN.at_;have X:=aN.Ix.r9;have mU:=aN.hk;have aK:=X.iX;have HP:(8*D a.E<=140737488355328)=True:=eq_true (by omega);have CE:(D a.E<=maxLen)=True:=eq_true (by unfold maxLen;omega);have aln:mem 248094=none:=aN.iP 248094 (by decide);have alo:mem 248098=none:=aN.iP 248098 (by decide);have Qw:mem 248029=none:=aN.iP 248029 (by decide);have aW:=aAs (D a.E)
 have vj:(bC (D a.E) λj=>oA a 0 j)=bC (D a.E) λ_=>(0:Int):=kM λj _=>by
  unfold oA;rw[ah (by omega),az9];rfl
 refine qz ?_;simp only[vR];simp only[go_sem,go_sem_proc,HP,CE,aln,alo,Qw,aW];refine aAh T abb a mem aN (.ref 228023 a.g 1 0 (D a.E)) (.ref 228023 a.g 1 0 (D a.E)) (.ref 228023 a.g 1 0 (D a.E)) 0 0 0 _ _ ?_ ?_ ?_ ?_ ?_ ?_ ?_ ?_ ?_ ?_ ?_ ((((ep.refl _ _).e5 (by decide)).e5 (by decide)).e5 (by decide)) ?_
 all_goals first|(intro tm m pK lg fL kI pF gK hY mi nN nO bX)|(simp only[eE,dC,if_false,if_true];done)|(simp only[eE,dC,if_false,if_true];rfl)|(simp only[a2,dC,if_false,if_true,vj])|skip
 have dv:(bC (D a.E) λj=>oA a (D a.E) j)=bC (D a.E) λi=>la a.E a.cs (bJ a.aF) i:=kM λj aj=>by
  unfold oA;rw[ad aj,akX,akW cn.can λi M=>(db.MO cn aN.Ix M).2]
 rw[dv,IK] at mi;have gI:∀il,ep 248 mem il->RJ [.ref 228023 a.g 1 0 (D a.E),.J (.Y ((bC (D a.E) λi=>la a.E a.cs (bJ a.aF) i).map ae)),.J (.Y (a.p.map iB)),.J (.Y (a.p.map (th (D a.E) a.W)))] il=some (.cH [.Y (a.xs.map aH),.bool true]):=λil h=>azM a il ⟨cn.aG h (by decide) aK,aN.wu.aG h (by decide),aN.Ix,mU⟩;have alp:(bC (D a.E) λi=>la a.E a.cs (bJ a.aF) i).length=D a.E:=gX _ _;have aAv:∀i,i<(D a.E)->(bC (D a.E) λi=>la a.E a.cs (bJ a.aF) i)[i]?=some (la a.E a.cs (bJ a.aF) i):=λi M=>iY _ M;generalize aMD:(bC (D a.E) λi=>la a.E a.cs (bJ a.aF) i)=ST at *;have abe:=λ(K:a8->Prop) (st:a8)=>lx (K:=K) (st:=st) hB 5 248029 0 ST;rw[alp] at abe;have RV:=λ(K:a8->Prop) (st:a8)=>lx (K:=K) (st:=st) y0 6 248094 pK a.p;have RW:=λ(K:a8->Prop) (st:a8)=>lx (K:=K) (st:=st) (alb (D a.E) a.W) 7 248098 lg a.p;have alq:=λcz cf g3 aI c2 c3=>gI (a2 (a2 (a2 m 248029 cz aI) 248094 cf c2) 248098 g3 c3) (((bX.e5 (by decide)).e5 (by decide)).e5 (by decide));simp only[go_sem,go_sem_proc,aAu,fL,kI,pF,gK,hY,mi,nN,nO,abe,RV,RW,alq,alp,ak,cP];have nq:(D a.p)<=D a.E:=ala _ _;have gJ:=λi (M:i<D a.E) t (bz:t<=D a.p)=>axK X mU M bz;have RX:=λi (M:i<D a.E)=>mU.good.ajb (d:=aB a.E a.cs) M;have xM:c5 (fw a.P) (aB a.E a.cs).n=a.p:=rfl;have aAw:c5 (fw a.P) (D a.E)=a.p:=rfl;have BC:a.xs=cT (D a.p) λk=>(aB a.E a.cs).fc (bJ a.aF) (fw a.P) (a.p.getD k 0)-(aB a.E a.cs).bD (a.p.getD k 0) (bJ a.aF (a.p.getD k 0)):=rfl;rw[xM] at RX;rw[aAw] at gJ;rw[BC];generalize ny:(λk=>(aB a.E a.cs).fc (bJ a.aF) (fw a.P) (a.p.getD k 0)-(aB a.E a.cs).bD (a.p.getD k 0) (bJ a.aF (a.p.getD k 0)))=df at *;have As:∀k,(aB a.E a.cs).fc (bJ a.aF) (fw a.P) (a.p.getD k 0)-(aB a.E a.cs).bD (a.p.getD k 0) (bJ a.aF (a.p.getD k 0))=df k:=λk=>congrFun ny k;simp only[As] at gJ RX;have IL:=λi=>MA X.right (bJ a.aF) i;have alr:=λi=>X.steady (bJ a.aF) i;clear abe RV RW gI alq BC ny As fL kI pF gK hY mi nN nO aln alo Qw aW vj HP CE
 refine dd [6,7,15,110,111] [] (λ((i,g):Nat×Nat) tm il=>i<=D a.E/\tm 112=.J (.int .i64 i)/\tm 17=.ref 248156 g 4 0 i/\il 248156=some (g,a9 aH (cT i ((aB a.E a.cs).fc (bJ a.aF) (fw a.P))))/\ep 248 mem il) (λ(i,_)=>D a.E-i) (0,gG (m 248156)) (by
  refine⟨by omega,rfl,rfl,by simp[a2];rfl,by repeat first|exact bX|refine ep.e5 ?_ (by decide)⟩) ?_
 intro vs ms aP aO;simp only[go_sem,go_sem_proc] at aP aO;subst aP aO;clear bX m tm;rintro⟨i,g⟩ tm m O-⟨cF,p5,kH,IJ,bX⟩;simp only[go_sem,go_sem_proc,a3] at O;obtain⟨bN,bq,oB,xK,xL⟩:=O;rcases dn (i<D a.E) with M|b4
 ·have d1:decide ((i:Int)<(D a.E:Int))=true:=c6;have bT:=eA (i:=i) (by omega);have aAx:=aAv i M;have hw:=CW _ (nJ (z:=la a.E a.cs (bJ a.aF) i) (by have:=alr i;omega) (by have:=alr i;omega));rw[IL] at hw;have abf:=gJ i M;have aAy:=RX i M;generalize qQ:(aB a.E a.cs).st (bJ a.aF) i=wx at *;generalize hT:ao wx=eK at *;obtain⟨⟨tX,tY⟩,⟨Fj,Fk⟩⟩:=eK;simp only[aH] at hw;simp only[go_sem,go_sem_proc,hG,bN,bq,oB,kH,xK,xL,p5,d1,aAx,hw,ae,ak,bj];refine aAo T gk gf mem (D a.E) a.p (by omega) a.W df i M wx (λt bz=>(abf t bz).1) (λk O=>⟨(abf 0 (by omega)).2.1 k O,(Q9 X mU (xC O).2 i).1,(abf 0 (by omega)).2.2 k O⟩) (.ref 248156 g 4 0 i) (.J (.Y (ST.map ae))) (.J (.int .i64 (D a.E))) (.J (.int .i64 i)) (gG (m 248020)) (some (g,a9 aH (cT i ((aB a.E a.cs).fc (bJ a.aF) (fw a.P))))) _ _ ?_ ?_ ?_ ?_ ?_ ?_ ?_ ?_ ?_ ?_ ?_ ?_ ?_ ((bX.e5 (by decide)).e5 (by decide)) ?_
  all_goals first|(intro tm' m' gK hY als alu RK alv alw LW RY alx xJ)|(simp only[eE,dC,if_false,if_true,bN,bq,oB,kH,xK,xL,p5];done)|(simp only[a2,dC,if_false,if_true,IJ];done)|(simp only[a2,if_true];rw[hT];rfl)
  have abg:wx+(bF (D a.p) λk=>a.W (a.p.getD k 0) i*df k)=(aB a.E a.cs).fc (bJ a.aF) (fw a.P) i:=aAy.symm;rw[abg] at RY;have aP:=aa8 i ((aB a.E a.cs).fc (bJ a.aF) (fw a.P));have bW:(cT i ((aB a.E a.cs).fc (bJ a.aF) (fw a.P))).length=i:=mT _ _;have dz:=λ(aQ:bc) cs kd=>lv lG Co 248156 g 64 (cT i ((aB a.E a.cs).fc (bJ a.aF) (fw a.P))) aQ (cs:=cs) kd (by omega) (by omega);simp only[bW] at dz;generalize cT i ((aB a.E a.cs).fc (bJ a.aF) (fw a.P))=V at *;generalize vI:cT (i+1) ((aB a.E a.cs).fc (bJ a.aF) (fw a.P))=V2 at *;generalize ao ((aB a.E a.cs).fc (bJ a.aF) (fw a.P) i)=aQ at *;obtain⟨⟨cW,de⟩,⟨ej,fa⟩⟩:=aQ;have o7:=dz ((cW,de),(ej,fa)) _ rfl;rw[<-aP] at o7;simp only[aH,ev,cZ] at o7 RY;simp only[go_sem,go_sem_proc,gK,hY,als,alu,RK,alv,alw,LW,RY,alx,o7,bT];repeat' (first|refine ax ?_ ?_|fail)<;>intro h<;>simp only[h,go_sem,go_sem_proc,gK,hY,als,alu,RK,alv,alw,LW,RY,alx,o7,bT]
  exact⟨(i+1,g+1),by dsimp only;omega,by dsimp only;omega,rfl,rfl,by rw[<-vI],by repeat first|exact xJ|refine ep.e5 ?_ (by decide)⟩
 ·have d1:decide ((i:Int)<(D a.E:Int))=false:=cY;obtain rfl:i=D a.E:=by omega
  have lV:(cT (D a.E) ((aB a.E a.cs).fc (bJ a.aF) (fw a.P))).length=D a.E:=mT _ _;have ld:=λ(K:a8->Prop) (st:a8)=>lx (K:=K) (st:=st) lG 17 248156 g (cT (D a.E) ((aB a.E a.cs).fc (bJ a.aF) (fw a.P)));rw[lV] at ld;simp only[go_sem,go_sem_proc,bN,bq,oB,kH,xK,xL,p5,IJ,d1,ld];repeat' (first|refine ax ?_ ?_|fail)<;>intro h<;>simp only[h,go_sem,go_sem_proc,bN,bq,oB,kH,xK,xL,p5,IJ,d1,ld]
  exact⟨_,rfl,rfl,by repeat first|exact bX|refine ep.e5 ?_ (by decide)|refine ep.kill ?_ (by decide)⟩
def db.hI (a:db)(p:Nat->Bool):db:={ a with P:=nK (D a.E) p }
theorem db.RZ (a:db)(p:Nat->Bool){i:Nat}(M:i<D a.E):(a.hI p).gM i=(a.gM i).sp (p i):=by
 have:(nK (D a.E) p).getD i false=p i:=by rw[dX,Rm _ M];rfl
 unfold db.gM db.hI ox.sp;dsimp only;rw[this]
theorem db.eG.aly {a:db}{m:Mem}{p:Nat->Bool}(h:(a.hI p).eG m){i:Nat}(M:i<D a.E)(b:Bool):(a.hI λj=>if j=i then b else p j).eG (a2 m (228500+i) (a.gs.getD i 0) (fC ((a.gM i).sp b))):=by
 refine⟨h.can,h.aF,Rl _ _,h.wh,?_,λj aj=>?_⟩
 ·have:=h.row;simp only[a2];rw[ah (show ¬ ((228023:Nat)=228500+i) by omega)];exact this
 ·rw[db.RZ a _ aj];simp only[a2]
  by_cases h9:j=i
  ·subst h9;rw[ad rfl,ad rfl]
   rfl
  ·rw[ah (show ¬ ((228500+j:Nat)=228500+i) by omega),ah h9];have:=h.dA j aj;rw[db.RZ a _ aj] at this;exact this
theorem db.aAz {a:db}(h:(D a.P)=D a.E):a.hI (λj=>a.P.getD j false)=a:=by
 have:nK (D a.E) (λj=>a.P.getD j false)=a.P:=by
  refine MH (d:=false) (Rl _ _) h λj aj=>?_;rw[dX,Rm _ aj];rfl
 unfold db.hI;rw[this]
theorem db.IM (a:db){p q:Nat->Bool}(h:∀i,i<(D a.E)->p i=q i):a.hI p=a.hI q:=by
 unfold db.hI;rw[aym h]
def xN (n:Nat)(mem m:Mem):Prop:=∀k,(∀i,i<n->k≠228500+i)->m k=mem k
theorem xN.e5 {n i g:Nat}{cs:List R}{mem m:Mem}(h:xN n mem m)(M:i<n):xN n mem (a2 m (228500+i) g cs):=λk O=>by
 simp only[a2];rw[ah (O i M)];exact h k O
theorem xN.no {n j:Nat}{mem m:Mem}(h:xN n mem m)(aK:n<=6)(aj:j≠228)(hm:r4 j mem):r4 j m:=λk O=>by
 rw[h k λi M=>by omega]
 exact hm k O
theorem aAA (T:bb)(hG:T pt=aU wb)(dm:T m7=aU rS){K:eT->a8->Prop}{kk:List gu}(ez:Mem)(a:db)(p:Nat->Bool)(wv:a.Iw)(h:Nat->Rat)(kK:∀i,i<(D a.E)->di (h i))(tm:Nat->R)(m:Mem)
  (cn:(a.hI p).eG m) (bX:xN (D a.E) ez m) (bl:tm 0=.ref 228023 a.g 1 0 (D a.E)) (bN:tm 6=.J (.Y ((cT (D a.E) h).map aH))) (cE:tm 8=.J (.bool false)) (oy:tm 28=.ref 228023 a.g 1 0 (D a.E)) (uS:tm 29=.J (.int .i64 (D a.E))) (h2:tm 30=.J (.int .i64 0))
  (dK:∀tm' m',tm' 0=.ref 228023 a.g 1 0 (D a.E)->tm' 6=.J (.Y ((cT (D a.E) h).map aH))->tm' 8=.J (.bool (y9 (aB a.E a.cs) (bJ a.aF) h p (D a.E)))->(a.hI (ow (aB a.E a.cs) (bJ a.aF) h p (D a.E))).eG m'->xN (D a.E) ez m'->cD T K kk (.exit 4) ⟨tm',m'⟩) :
  wp T (Hh.body.sub [1,1,0,0,0,1,1,1,0,1,0]) (cD T K kk) ⟨tm,m⟩:=by
 simp only[Hh,eu.sub];obtain⟨X,gw⟩:=wv;have aK:=X.iX
 refine dd [0,6,28,29] [] (λ(i:Nat) tm m=>i<=D a.E/\tm 30=.J (.int .i64 i)/\tm 8=.J (.bool (y9 (aB a.E a.cs) (bJ a.aF) h p i))/\(a.hI (ow (aB a.E a.cs) (bJ a.aF) h p i)).eG m/\xN (D a.E) ez m) (λi=>D a.E-i) 0 (by
  refine⟨by omega,h2,cE,?_,bX⟩
  have:a.hI (ow (aB a.E a.cs) (bJ a.aF) h p 0)=a.hI p:=a.IM λj _=>by
   unfold ow;rw[cY,fx,l1]
  rw[this];exact cn) ?_
 intro vs ms aP aO;simp only[go_sem,go_sem_proc,bl,bN,oy,uS] at aP aO;subst aP aO;clear bl bN cE oy uS h2 cn bX tm m;rintro i tm m O-⟨M,h2,cE,cn,bX⟩;simp only[go_sem,go_sem_proc,a3] at O;obtain⟨bl,bN,oy,uS⟩:=O;rcases dn (i<D a.E) with az|b4
 ·have d1:decide ((i:Int)<(D a.E:Int))=true:=c6;have bT:=eA (i:=i) (by omega);have sa:a.aF.getD i 10=(bJ a.aF i:Int)/\bJ a.aF i<=10:=db.MO (a:=a.hI (ow (aB a.E a.cs) (bJ a.aF) h p i)) cn ⟨X,gw⟩ az;obtain⟨sa,q8⟩:=sa;have eS:m 228023=some (a.g,bC (D a.E) λi => .ptr (228500+i) (a.gs.getD i 0) 0):=cn.row;have fk:m (228500+i)=some (a.gs.getD i 0,fC ((a.hI (ow (aB a.E a.cs) (bJ a.aF) h p i)).gM i)):=cn.dA i az;rw[db.RZ a _ az,aj5] at fk;have h8:=wo (iY (λi=>R.ptr (228500+i) (a.gs.getD i 0) 0) az);have bW:(bC (D a.E) λi=>R.ptr (228500+i) (a.gs.getD i 0) 0).length=D a.E:=gX _ _;have cU:((a.gM i).sp (p i)).dt:=⟨(a.xH i).dj,(a.xH i).us⟩;have hlen:=CZ cU;have mh:fJ 1 (fT 22 (fC ((a.gM i).sp (p i))))=[bI (bJ a.aF i:Int)]:=(MG cU).trans (congrArg (λx=>[bI x]) sa);have sd:fJ 1 (fT 23 (fC ((a.gM i).sp (p i))))=[lf (p i)]:=akp cU;have tg:=MF cU (k:=bJ a.aF i) (z:=cS a.cs i (bJ a.aF i:Nat)) (iY _ (by omega));have ey:_=fC ((a.gM i).sp true):=akq cU true;have mP:=cn.aly az true;have aO:=ayn (aB a.E a.cs) (bJ a.aF) h p i
  have ya:(p i=true\/wg (aB a.E a.cs) (bJ a.aF) h i=false)->a.hI (ow (aB a.E a.cs) (bJ a.aF) h p (i+1))=a.hI (ow (aB a.E a.cs) (bJ a.aF) h p i):=λaT=>a.IM λj _=>by
   rw[aj6]
   by_cases aj:j=i
   ·subst aj;rw[ad rfl,aj5];rcases aT with G|G
    ·rw[G];rfl
    ·rw[G,l1]
   ·rw[ah aj]
  have ei:i+1<=D a.E:=by omega
  have ai:bJ a.aF i<11:=by omega
  have bM:(11+bJ a.aF i+1<=24)=True:=eq_true (by omega);have b5:(23+1<=24)=True:=eq_true (by omega);generalize IH:(bC (D a.E) λi=>R.ptr (228500+i) (a.gs.getD i 0) 0)=xI at *;have o6:228500+i=228500+i:=rfl;generalize uQ:228500+i=ed at *;generalize MW:fC ((a.gM i).sp (p i))=DC at *;rcases d2:decide ((bJ a.aF i:Int)<10)
  ·have lq:wg (aB a.E a.cs) (bJ a.aF) h i=false:=by
    unfold wg;rw[lj (by have:=of_decide_eq_false d2;omega),fx]
   rw[lq,iT,l1] at aO;simp only[go_sem,go_sem_proc,bl,bN,cE,oy,uS,h2,eS,fk,h8,bW,hlen,mh,d1,d2,bT,az,ei,bI,lf,cI];repeat' (first|refine ax ?_ ?_|fail)<;>intro h<;>simp only[h,go_sem,go_sem_proc,bl,bN,cE,oy,uS,h2,eS,fk,h8,bW,hlen,mh,d1,d2,bT,az,ei,bI,lf,cI]
   exact⟨i+1,by omega,by omega,rfl,by rw[aO],by rw[ya (.inr lq)];exact cn,bX⟩
  ·rcases zH:p i
   ·rw[zH] at sd;have oj:=X.upto i (bJ a.aF i);have Fq:dB (cS a.cs i (bJ a.aF i:Nat)):=nJ (by omega) (by omega);have hw:=CW _ Fq;have pv:=Fg (kK i az) (tb Fq);have iR:decide (l8 (h i) ((cS a.cs i (bJ a.aF i:Nat):Int):Rat)>0)=decide (((cS a.cs i (bJ a.aF i:Nat):Int):Rat)<h i):=aaf
    have bG:wg (aB a.E a.cs) (bJ a.aF) h i=decide (((cS a.cs i (bJ a.aF i:Nat):Int):Rat)<h i):=by
     unfold wg;rw[uF X.right,lQ (show bJ a.aF i<10 by have:=of_decide_eq_true d2;omega),gQ]
    rw[<-bG] at iR;have qg:=pG h az;generalize aAB:ao (h i)=hS at *;generalize ny:ao ((cS a.cs i (bJ a.aF i:Nat):Int):Rat)=df at *;obtain⟨⟨dh,eH⟩,⟨jz,lM⟩⟩:=df;obtain⟨⟨cW,de⟩,⟨ej,fa⟩⟩:=hS;simp only[aH] at hw pv;rcases lq:wg (aB a.E a.cs) (bJ a.aF) h i
    ·rw[lq] at iR;rw[zH,lq,iT,l1] at aO;simp only[go_sem,go_sem_proc,hG,dm,bl,bN,cE,oy,uS,h2,eS,fk,h8,bW,hlen,mh,sd,tg,d1,d2,bT,az,ei,ai,bM,hw,pv,iR,qg,aH,bI,lf,cI,dD,cP,ak,bj];repeat' (first|refine ax ?_ ?_|fail)<;>intro h<;>simp only[h,go_sem,go_sem_proc,hG,dm,bl,bN,cE,oy,uS,h2,eS,fk,h8,bW,hlen,mh,sd,tg,d1,d2,bT,az,ei,ai,bM,hw,pv,iR,qg,aH,bI,lf,cI,dD,cP,ak,bj]
     exact⟨i+1,by omega,by omega,rfl,by rw[aO],by rw[ya (.inr lq)];exact cn,bX⟩
    ·rw[lq] at iR;rw[zH,lq,dD,gQ,vm] at aO
     have hR:a.hI (ow (aB a.E a.cs) (bJ a.aF) h p (i+1))=a.hI λj=>if j=i then true else ow (aB a.E a.cs) (bJ a.aF) h p i j:=a.IM λj _=>by
      rw[aj6,lq,vm]
     rw[<-hR] at mP;have q9:=bX.e5 (g:=a.gs.getD i 0) (cs:=fC ((a.gM i).sp true)) az;rw[uQ] at q9;simp only[go_sem,go_sem_proc,hG,dm,bl,bN,cE,oy,uS,h2,eS,fk,h8,bW,hlen,mh,sd,tg,ey,d1,d2,bT,az,ei,ai,bM,b5,hw,pv,iR,qg,aH,bI,lf,cI,dD,cP,ak,bj];repeat' (first|refine ax ?_ ?_|fail)<;>intro h<;>simp only[h,go_sem,go_sem_proc,hG,dm,bl,bN,cE,oy,uS,h2,eS,fk,h8,bW,hlen,mh,sd,tg,ey,d1,d2,bT,az,ei,ai,bM,b5,hw,pv,iR,qg,aH,bI,lf,cI,dD,cP,ak,bj]
     exact⟨i+1,by omega,by omega,rfl,by rw[aO],mP,q9⟩
   ·rw[zH] at sd;rw[zH,cP,fx,l1] at aO;simp only[go_sem,go_sem_proc,bl,bN,cE,oy,uS,h2,eS,fk,h8,bW,hlen,mh,sd,d1,d2,bT,az,ei,bI,lf,cI,cP];repeat' (first|refine ax ?_ ?_|fail)<;>intro h<;>simp only[h,go_sem,go_sem_proc,bl,bN,cE,oy,uS,h2,eS,fk,h8,bW,hlen,mh,sd,d1,d2,bT,az,ei,bI,lf,cI,cP]
    exact⟨i+1,by omega,by omega,rfl,by rw[aO],by rw[ya (.inl zH)];exact cn,bX⟩
 ·have d1:decide ((i:Int)<(D a.E:Int))=false:=cY;obtain rfl:i=D a.E:=by omega
  simp only[go_sem,go_sem_proc,bl,bN,cE,oy,uS,h2,d1];repeat' (first|refine ax ?_ ?_|fail)<;>intro h<;>simp only[h,go_sem,go_sem_proc,bl,bN,cE,oy,uS,h2,d1]
  refine dK _ _ ?_ ?_ ?_ cn bX<;>simp only[eE,dC,if_false,bl,bN,cE]
structure abh (a:db) (mem:Mem):Prop where
 at_:a.eG mem
 iP:r4 248 mem
 jO:r4 255 mem
 wu:r4 256 mem
 Ix:a.Iw
 inv:∃g,Inv (aB a.E a.cs) (bJ a.aF) g
def R0 (a:db)(mem:Mem):R->Mem->Prop:=λm mem'=>m=.cH [.J (.Y ((cT (D a.E) ((aB a.E a.cs).top (bJ a.aF))).map aH)),.J (.bool true)]/\∃p,(a.hI p).eG mem'/\xN (D a.E) mem mem'
def MZ:List R->Mem->Option (R->Mem->Prop):=ur (λ(a:db) args mem=>args=[.ref 228023 a.g 1 0 (D a.E)]/\abh a mem) R0
theorem aAC (a:db)(mem:Mem)(h:abh a mem):MZ [.ref 228023 a.g 1 0 (D a.E)] mem=some (R0 a mem):=by
 refine ajU (a:=a) ?_ ⟨rfl,h⟩;rintro a b args mem ⟨ay,aC⟩ ⟨cg,dw⟩;rw[db.uniq aC.at_ dw.at_]
theorem aAD (T:bb)(aAE:T UN=y8 abd)(hG:T pt=aU wb)(dm:T m7=aU rS)(a:db)(mem:Mem)(aN:abh a mem):
  wp T Hh.body (oi Hh.res (R0 a mem)) ⟨ka [.ref 228023 a.g 1 0 (D a.E)],mem⟩:=by
 obtain⟨alz,iP,jO,wu,wv,DH,hinv⟩:=aN;have X:=wv.r9;have aK:=X.iX;have aa:=X.ok;refine qz ?_;simp only[Hh];simp only[go_sem,go_sem_proc]
 refine dd [0,11,12] [] (λ(i:Nat) tm m=>i<=D a.E/\tm 13=.J (.int .i64 i)/\(a.hI λj=>if j<i then false else a.P.getD j false).eG m/\xN (D a.E) mem m) (λi=>D a.E-i) 0 (by
  refine⟨by omega,rfl,?_,λ_ _=>rfl⟩
  have:(a.hI λj=>if j<0 then false else a.P.getD j false)=a:=(a.IM λj _=>by rw[ah (by omega)]).trans (db.aAz alz.pl);rw[this];exact alz) ?_
 intro vs ms aP aO;simp only[go_sem,go_sem_proc] at aP aO;subst aP aO;rintro i tm m O-⟨M,gl,cn,bX⟩;simp only[go_sem,go_sem_proc,a3] at O;obtain⟨bl,hH,eX⟩:=O;rcases dn (i<D a.E) with az|b4
 ·have d1:decide ((i:Int)<(D a.E:Int))=true:=c6;have bT:=eA (i:=i) (by omega);have eS:m 228023=some (a.g,bC (D a.E) λi => .ptr (228500+i) (a.gs.getD i 0) 0):=cn.row;have fk:m (228500+i)=some (a.gs.getD i 0,_):=cn.dA i az;rw[db.RZ a _ az] at fk;have h8:=wo (iY (λi=>R.ptr (228500+i) (a.gs.getD i 0) 0) az);have bW:(bC (D a.E) λi=>R.ptr (228500+i) (a.gs.getD i 0) 0).length=D a.E:=gX _ _;have cU:((a.gM i).sp (if i<i then false else a.P.getD i false)).dt:=⟨(a.xH i).dj,(a.xH i).us⟩;have hlen:=CZ cU;have ey:_=fC ((a.gM i).sp false):=akq cU false;have mP:=cn.aly az false;have q9:=bX.e5 (g:=a.gs.getD i 0) (cs:=fC ((a.gM i).sp false)) az
  have hR:(a.hI λj=>if j<i+1 then false else a.P.getD j false)=a.hI λj=>if j=i then false else if j<i then false else a.P.getD j false:=a.IM λj _=>by
   by_cases G:j=i
   ·rw[ad G,ad (by omega)]
   ·rw[ah G]
    by_cases I:j<i
    ·rw[ad I,ad (by omega)]
    ·rw[ah I,ah (by omega)]
  rw[<-hR] at mP;have ei:i+1<=D a.E:=by omega
  have b5:(23+1<=24)=True:=eq_true (by omega);generalize IH:(bC (D a.E) λi=>R.ptr (228500+i) (a.gs.getD i 0) 0)=xI at *;generalize uQ:228500+i=ed at *;generalize MW:fC ((a.gM i).sp (if i<i then false else a.P.getD i false))=DC at *;simp only[go_sem,go_sem_proc,bl,hH,eX,gl,eS,fk,h8,bW,hlen,ey,d1,bT,az,ei,b5,bI,lf,cI];repeat' (first|refine ax ?_ ?_|fail)<;>intro h<;>simp only[h,go_sem,go_sem_proc,bl,hH,eX,gl,eS,fk,h8,bW,hlen,ey,d1,bT,az,ei,b5,bI,lf,cI]
  exact⟨i+1,by omega,by omega,rfl,mP,q9⟩
 ·have d1:decide ((i:Int)<(D a.E:Int))=false:=cY;obtain rfl:i=D a.E:=by omega
  have hR:(a.hI λj=>if j<(D a.E) then false else a.P.getD j false)=a.hI λ_=>false:=a.IM λj aj=>by rw[ad aj]
  rw[hR] at cn;simp only[go_sem,go_sem_proc,bl,hH,eX,gl,d1]
  refine dd [0] [] (λ(p:Nat->Bool) tm m=>(a.hI p).eG m/\xN (D a.E) mem m/\s9 (aB a.E a.cs) (bJ a.aF) (fw (nK (D a.E) p))) (λp=>mS (D a.E) λi=>if p i then 0 else 1) (λ_=>false) (by
   refine⟨cn,bX,?_⟩;rw[ayp];exact⟨aa,DH,hinv,iC.first aa hinv⟩) ?_
  intro vs ms aP aO;simp only[go_sem,go_sem_proc,bl] at aP aO;subst aP aO;clear bl hH eX gl bX cn;rintro p tm m bl-⟨cn,bX,mU⟩;simp only[go_sem,go_sem_proc,a3] at bl;have gI:=aAr (a.hI p) m ⟨cn,bX.no aK (by decide) iP,bX.no aK (by decide) jO,bX.no aK (by decide) wu,⟨wv.r9,wv.gw⟩,mU⟩;have gy:RU (a.hI p)=.cH [.Y ((cT (D a.E) ((aB a.E a.cs).fc (bJ a.aF) (fw (nK (D a.E) p)))).map aH),.bool true]:=rfl;rw[gy,show (a.hI p).g=a.g from rfl,show (a.hI p).E=a.E from rfl] at gI;simp only[go_sem,go_sem_proc,aAE,bl,gI,cP];refine aAA T hG dm m a p wv ((aB a.E a.cs).fc (bJ a.aF) (fw (nK (D a.E) p))) (λi M=>ig (ajs X mU M) (by omega)) _ _ cn (λ_ _=>rfl) ?_ ?_ ?_ ?_ ?_ ?_ ?_
  all_goals first|(intro Fs cJ fL gK hX zD q9)|(simp only[eE,dC,if_false,if_true,bl];done)
  obtain⟨cU,cz,rr,Pq⟩:=mU;rcases hm:y9 (aB a.E a.cs) (bJ a.aF) ((aB a.E a.cs).fc (bJ a.aF) (fw (nK (D a.E) p))) p (D a.E)
  ·rw[hm] at hX;have afT:=Pq.ajd aa rr λi M G I=>Rn.2 ⟨M,ayr hm M G I⟩;rw[CS (N:=D a.E) afT] at gK;simp only[go_sem,go_sem_proc,fL,gK,hX,dD];repeat' (first|refine ax ?_ ?_|fail)<;>intro h<;>simp only[h,go_sem,go_sem_proc,fL,gK,hX,dD]
   exact⟨_,rfl,rfl,_,zD,λk O=>(q9 k O).trans (bX k O)⟩
  ·rw[hm] at hX;simp only[go_sem,go_sem_proc,fL,gK,hX,cP];repeat' (first|refine ax ?_ ?_|fail)<;>intro h<;>simp only[h,go_sem,go_sem_proc,fL,gK,hX,cP]
   refine⟨_,ayq hm,zD,λk O=>(q9 k O).trans (bX k O),?_⟩;have mO:=ayo (d:=aB a.E a.cs) (f:=bJ a.aF) (h:=(aB a.E a.cs).fc (bJ a.aF) (fw (nK (D a.E) p))) (p:=p);have ki:(aB a.E a.cs).n=D a.E:=rfl;rw[ki] at mO;rw[mO];exact⟨aa,cz,rr,Pq.succ aa rr⟩
def hQ (c:Int)(q:Nat->R)(us:Nat->Int)(f:Int)(p:Bool):List R:=bI c::(bC 10 q++((bC 11 us).map bI++[bI f,lf p]))
theorem R2 (c:Int)(q:Nat->R)(us:Nat->Int)(f:Int)(p:Bool):(hQ c q us f p).length=24:=by
 simp[hQ,gX]
theorem abi {c:Int}{q:Nat->R}{us:Nat->Int}{f:Int}{p:Bool}{k:Nat}(O:k<10):(hQ c q us f p)[1+k]?=some (q k):=by
 unfold hQ;rw[zp,IP,qv (by rw[gX];exact O)];exact iY q O
theorem aAF {c:Int}{q:Nat->R}{us:Nat->Int}{f:Int}{p:Bool}{k:Nat}(O:k<10):fJ 1 (fT (1+k) (hQ c q us f p))=[q k]:=wo (abi O)
theorem aAG {c:Int}{q:Nat->R}{us:Nat->Int}{f:Int}{p:Bool}{k:Nat}(O:k<11):fJ 1 (fT (11+k) (hQ c q us f p))=[.J (.int .i64 (us k))]:=by
 refine wo ?_;unfold hQ;rw[show 11+k=(10+k)+1 by omega,IP,ru (by rw[gX];omega),gX,qv (by rw[ak,gX];omega),show 10+k-10=k by omega,bj,iY us O]
 rfl
theorem R4 {l:List R}{k:Nat}{v:R}(O:k<D l):fJ k l++[v]++fT (k+1) l=l.set k v:=by
 rw[MU,ad O];simp
theorem abj {c:Int}{q:Nat->R}{us:Nat->Int}{f:Int}{p:Bool}{k:Nat}(O:k<10)(v:R):(hQ c q us f p).set (1+k) v=hQ c (λj=>if j=k then v else q j) us f p:=by
 unfold hQ;rw[zp,HE,alA _ _ (by rw[gX];exact O),AS]
theorem aAH {c:Int}{q:Nat->R}{us:Nat->Int}{f:Int}{p:Bool}{k:Nat}(O:k<11)(v:Int):(hQ c q us f p).set (11+k) (.J (.int .i64 v))=hQ c q (λj=>if j=k then v else us j) f p:=by
 unfold hQ;rw[show 11+k=(10+k)+1 by omega,HE,ES _ _ (by rw[gX];omega),gX,alA _ _ (by rw[ak,gX];omega),show 10+k-10=k by omega,<-AS,Ay]
 rfl
theorem A0 {c:Int}{q uc:Nat->R}{us alB:Nat->Int}{f:Int}{p:Bool}(h:∀k,k<10->q k=uc k)(cx:∀k,k<11->us k=alB k):hQ c q us f p=hQ c uc alB f p:=by
 unfold hQ;rw[kM h,kM cx]
theorem alC (T:bb){K:eT->a8->Prop}{kk:List gu}(lu:Mem)(ed R5 R6:Nat)(c:Int)(q:Nat->R)(us:Nat->Int)(aI c2:Int)(r:Nat)(am:Int)(ab:r<10)(ag:∀j,0<=us j/\us j<=4000000000000000000)(uE:0<=am/\am<=1000000000000000)(o6:ed≠228009)(alD alE alF alG:R)(tm:Nat->R)(m:Mem)
  (cX:tm 5=alD) (fp:tm 9=.ptr 228009 R6 0) (dp:tm 10=.ptr ed R5 0) (hH:tm 11=.J (.int .i64 (r+1:Nat))) (hl:tm 25=alE) (ij:tm 26=alF) (ik:tm 27=alG) (aAI:lu 228009=some (R6,[.J (.int .i64 aI),.J (.int .i64 c2),.J (.int .i64 r),.J (.int .i64 am)])) (IQ:m ed=some (R5,hQ c q us 10 false)) (bX:∀k,k≠ed->m k=lu k)
  (dK:∀tm' m',tm' 5=alD->tm' 25=alE->tm' 26=alF->tm' 27=alG->m' ed=some (R5,hQ c q (λj=>us j+if r<j then am else 0) 10 false)->(∀k,k≠ed->m' k=lu k)->cD T K kk (.exit 4) ⟨tm',m'⟩) :
  wp T (Cn.body.sub [1,1,1,0,1,0,0,1,1,0,0,1,1,1,1,0]) (cD T K kk) ⟨tm,m⟩:=by
 simp only[Cn,eu.sub]
 refine dd [5,9,10,25,26,27] [] (λ(k:Nat) tm m=>r<k/\k<=11/\tm 11=.J (.int .i64 k)/\m ed=some (R5,hQ c q (λj=>us j+if r<j/\j<k then am else 0) 10 false)/\∀k,k≠ed->m k=lu k) (λk=>11-k) (r+1) (by
  refine⟨by omega,by omega,hH,?_,bX⟩
  rw[IQ]
  congr 2
  exact A0 (λ_ _=>rfl) λj _=>by rw[ah (by omega)];omega) ?_
 intro vs ms aP aO;simp only[go_sem,go_sem_proc,cX,fp,dp,hl,ij,ik] at aP aO;subst aP aO;clear cX fp dp hH hl ij ik IQ bX tm m;rintro k tm m O-⟨h1,aME,hH,IQ,bX⟩;simp only[go_sem,go_sem_proc,a3] at O;obtain⟨cX,fp,dp,hl,ij,ik⟩:=O;have aAJ:=(bX 228009 (Ne.symm o6)).trans aAI;rcases dn (k<=10) with az|b4
 ·have d1:decide ((k:Int)<=10)=true:=c6;have bT:=eA (i:=k) (by omega);have hlen:=R2 c q (λj=>us j+if r<j/\j<k then am else 0) 10 false;have ba:=aAG (c:=c) (q:=q) (us:=λj=>us j+if r<j/\j<k then am else 0) (f:=10) (p:=false) (k:=k) (by omega);have dv:=(R4 (l:=hQ c q (λj=>us j+if r<j/\j<k then am else 0) 10 false) (k:=11+k) (v:=.J (.int .i64 (us k+am))) (by rw[R2];omega)).trans (aAH (by omega) (us k+am))
  have hR:hQ c q (λj=>if j=k then us k+am else us j+if r<j/\j<k then am else 0) 10 false=hQ c q (λj=>us j+if r<j/\j<k+1 then am else 0) 10 false:=A0 (λ_ _=>rfl) λj _=>by
   by_cases aj:j=k
   ·rw[ad aj,aj,ad ⟨h1,by omega⟩]
   ·rw[ah aj]
    by_cases I:r<j/\j<k
    ·rw[ad I,ad ⟨I.1,by omega⟩]
    ·rw[ah I,ah (by omega)]
  rw[hR] at dv;rw[ah (by omega),w5] at ba;have MV:IntKind.i64.wrap (us k+am)=us k+am:=by have:=ag k;rw[e2 _]
  have ai:k<11:=by omega
  have bM:(11+k+1<=24)=True:=eq_true (by omega);have Fm:(ed==228009)=false:=beq_eq_false_iff_ne.2 o6;have R7:(228009==ed)=false:=beq_eq_false_iff_ne.2 (Ne.symm o6);generalize hQ c q (λj=>us j+if r<j/\j<k then am else 0) 10 false=D1 at *;generalize HN:hQ c q (λj=>us j+if r<j/\j<k+1 then am else 0) 10 false=D2 at *;refine aX ?_;repeat' (intro h<;>simp only[h,go_sem,go_sem_proc,cX,fp,dp,hH,hl,ij,ik,aAJ,IQ,d1,bT,hlen,ba,dv,MV,ai,bM,Fm,R7,cI]<;>try refine ax ?_ ?_)
  refine⟨k+1,by omega,by omega,by omega,rfl,by rw[HN],λj aj=>?_⟩
  simp only[a2,aj,if_false];exact bX j aj
 ·have d1:decide ((k:Int)<=10)=false:=cY;obtain rfl:k=11:=by omega
  have hR:hQ c q (λj=>us j+if r<j/\j<11 then am else 0) 10 false=hQ c q (λj=>us j+if r<j then am else 0) 10 false:=A0 (λ_ _=>rfl) λj aj=>by
   by_cases I:r<j
   ·rw[ad ⟨I,aj⟩,ad I]
   ·rw[ah (by omega),ah I]
  rw[hR] at IQ;refine aX ?_;repeat' (intro h<;>simp only[h,go_sem,go_sem_proc,cX,fp,dp,hH,hl,ij,ik,d1]<;>try refine ax ?_ ?_)
  refine dK _ _ ?_ ?_ ?_ ?_ IQ bX<;>simp only[eE,dC,if_false,cX,hl,ij,ik]
def oC (l:List au)(eZ:Nat->Nat->Nat)(i k:Nat):R:=if dg l i k=[] then .nil else .ref (228600+10*i+k) (eZ i k) 4 0 (dg l i k).length
structure za (E:List Int) (l:List au) (g:Nat) (gs:Nat->Nat) (eZ:Nat->Nat->Nat) (m:Mem):Prop where
 row:m 228023=some (g,bC (D E) λi => .ptr (228500+i) (gs i) 0)
 dA:∀i,i<(D E)->m (228500+i)=some (gs i,hQ (E.getD i 0) (oC l eZ i) (λk=>cS l i (k:Nat)) 10 false)
 Ft:∀i k,i<(D E)->k<10->dg l i k≠[]->m (228600+10*i+k)=some (eZ i k,a9 ck (dg l i k))
theorem aAK (l:List au)(c:au)(i k:Nat):dg (l++[c]) i k=if c.1=(i:Int)/\c.2.2.1=(k:Int) then dg l i k++[c] else dg l i k:=by
 unfold dg;rw[pI]
 by_cases h:c.1=(i:Int)/\c.2.2.1=(k:Int)
 ·rw[ad h,uO (by simp[h.1,h.2]),ot]
 ·rw[ah h,wc (by simpa using h),ot,fv]
theorem M0 (l:List au)(aI c2 c3 c4:Int)(i k:Nat):dg (l++[(aI,c2,c3,c4)]) i k=if aI=(i:Int)/\c3=(k:Int) then dg l i k++[(aI,c2,c3,c4)] else dg l i k:=aAK l _ i k
theorem aAL (l:List au)(c:au)(i r:Int):cS (l++[c]) i r=cS l i r+if c.1=i/\c.2.2.1<r then c.2.2.2 else 0:=by
 unfold cS;rw[RM]
theorem alH (l:List au)(aI c2 c3 c4 i r:Int):cS (l++[(aI,c2,c3,c4)]) i r=cS l i r+if aI=i/\c3<r then c4 else 0:=aAL l _ i r
theorem za.next {E:List Int}{l:List au}{g:Nat}{gs:Nat->Nat}{eZ:Nat->Nat->Nat}{m m':Mem}(h:za E l g gs eZ m)(aK:(D E)<=6){aI c3:Nat}{c2 c4:Int}(g2:aI<D E)(p0:c3<10)(ra:Nat)
  (eS:m' 228023=m 228023) (aAM:∀i,i<(D E)->i≠aI->m' (228500+i)=m (228500+i)) (fk:m' (228500+aI)=some (gs aI,hQ (E.getD aI 0) (λk=>if k=c3 then .ref (228600+10*aI+c3) ra 4 0 ((dg l aI c3).length+1) else oC l eZ aI k) (λk=>cS l aI (k:Nat)+if c3<k then c4 else 0) 10 false))
  (R8:m' (228600+10*aI+c3)=some (ra,a9 ck (dg l aI c3++[((aI:Int),c2,(c3:Int),c4)]))) (aAN:∀i k,i<(D E)->k<10->¬ (i=aI/\k=c3)->m' (228600+10*i+k)=m (228600+10*i+k)):za E (l++[((aI:Int),c2,(c3:Int),c4)]) g gs (λi k=>if i=aI/\k=c3 then ra else eZ i k) m':=by
 refine⟨by rw[eS];exact h.row,λi M=>?_,λi k M O bG=>?_⟩
 ·by_cases hic:i=aI
  ·subst hic;rw[fk]
   congr 2
   refine A0 (λk O=>?_) λk O=>?_
   ·unfold oC
    by_cases Cr:k=c3
    ·subst Cr;have ay:dg (l++[((i:Int),c2,(k:Int),c4)]) i k=dg l i k++[((i:Int),c2,(k:Int),c4)]:=by rw[M0,ad ⟨rfl,rfl⟩]
     rw[ay,ad rfl,ah (by simp),fG];simp
    ·have ay:dg (l++[((i:Int),c2,(c3:Int),c4)]) i k=dg l i k:=by rw[M0,ah (by omega)]
     rw[ah Cr,ay];dsimp only;rw[ah (show ¬ (i=i/\k=c3) by omega)]
   ·rw[alH]
    by_cases fR:c3<k
    ·rw[ad fR,ad (by omega)]
    ·rw[ah fR,ah (by omega)]
  ·rw[aAM i M hic,h.dA i M]
   congr 2
   refine A0 (λk O=>?_) λk O=>?_
   ·unfold oC;have ay:dg (l++[((aI:Int),c2,(c3:Int),c4)]) i k=dg l i k:=by rw[M0,ah (by omega)]
    rw[ay];dsimp only;rw[ah (show ¬ (i=aI/\k=c3) by omega)]
   ·rw[alH,ah (by omega),w5]
 ·by_cases hic:i=aI/\k=c3
  ·obtain⟨rfl,rfl⟩:=hic;have ay:dg (l++[((i:Int),c2,(k:Int),c4)]) i k=dg l i k++[((i:Int),c2,(k:Int),c4)]:=by rw[M0,ad ⟨rfl,rfl⟩]
   rw[ay,ad ⟨rfl,rfl⟩];exact R8
  ·have ay:dg (l++[((aI:Int),c2,(c3:Int),c4)]) i k=dg l i k:=by rw[M0,ah (by omega)]
   rw[ay] at bG ⊢;rw[ah hic,aAN i k M O hic];exact h.Ft i k M O bG
theorem abk {K:a8->Prop}{tm:Nat->R}{mem mem':Mem}(h:sm mem mem')(dK:∀bg,bg=mem'->K ⟨tm,bg⟩):lk K ⟨tm,mem⟩ .many:=⟨mem',.step h (.refl _),dK _ rfl⟩
theorem abl {K:a8->Prop}{tm:Nat->R}{mem:Mem}(dK:∀bg,bg=mem->K ⟨tm,bg⟩):lk K ⟨tm,mem⟩ .many:=⟨mem,.refl _,dK _ rfl⟩
theorem iE {m:Mem}{k g:Nat}{cs:List R}:a2 m k g cs k=some (g,cs):=by simp[a2]
theorem dq {m:Mem}{k j g:Nat}{cs:List R}(h:k≠j):a2 m j g cs k=m k:=by
 simp only[a2];rw[ah h]
theorem aAO (T:bb){K:eT->a8->Prop}{kk:List gu}(ez:Mem)(E:List Int)(cs:List au)(X:ff E cs)(g:Nat)(gs:Nat->Nat)(eZ:Nat->Nat->Nat)(tm:Nat->R)(m:Mem)
  (cX:tm 5=.ref 228023 g 1 0 (D E)) (hl:tm 25=.J (.Y (cs.map ck))) (ij:tm 26=.J (.int .i64 (D cs))) (ik:tm 27=.J (.int .i64 0)) (cn:za E [] g gs eZ m) (bX:ep 228 ez m)
  (dK:∀tm' m' aAP,tm' 5=.ref 228023 g 1 0 (D E)->za E cs g gs aAP m'->ep 228 ez m'->cD T K kk (.exit 2) ⟨tm',m'⟩) :
  wp T (Cn.body.sub [1,1,1,0,1,0]) (cD T K kk) ⟨tm,m⟩:=by
 simp only[Cn,eu.sub];have aK:=X.iX;have ab:=(hF.1 X.right).2.2.2;have iy:=X.q3;refine dd [5,25,26] [] (λ((t,eZ):Nat×(Nat->Nat->Nat)) tm m=>t<=D cs/\tm 27=.J (.int .i64 t)/\za E (cs.take t) g gs eZ m/\ep 228 ez m) (λ(t,_)=>D cs-t) (0,eZ) (by refine⟨by omega,ik,by rw[ns];exact cn,bX⟩) ?_;intro vs ms aP aO;simp only[go_sem,go_sem_proc,cX,hl,ij] at aP aO;subst aP aO;clear cX hl ij ik cn bX tm m;rintro⟨t,eZ⟩ tm m O-⟨bz,ik,cn,bX⟩;simp only[go_sem,go_sem_proc,a3] at O;obtain⟨cX,hl,ij⟩:=O;rcases dn (t<D cs) with az|b4
 ·have d1:decide ((t:Int)<(D cs:Int))=true:=c6;have bT:=eA (i:=t) (by omega);obtain⟨⟨aI,c2,c3,c4⟩,Q⟩:∃c,cs[t]?=some c:=⟨_,bs az⟩;have lp:=ab _ (ee Q);dsimp only at lp;obtain⟨aI,rfl⟩:∃k:Nat,aI=(k:Int):=⟨aI.toNat,by omega⟩
  obtain⟨c3,rfl⟩:∃k:Nat,c3=(k:Int):=⟨c3.toNat,by omega⟩
  have ga:cs.take (t+1)=cs.take t++[((aI:Int),c2,(c3:Int),c4)]:=by rw[g4,Q];rfl
  generalize aw:cs.take t=l at *;have M3:(D l)<=12:=by rw[<-aw,gF];omega
  have g2:aI<D E:=by omega
  have p0:c3<10:=by omega
  have eS:=cn.row;have fk:=cn.dA aI g2;have h8:=wo (iY (λi=>R.ptr (228500+i) (gs i) 0) g2);have bW:(bC (D E) λi=>R.ptr (228500+i) (gs i) 0).length=D E:=gX _ _;have hlen:=R2 (E.getD aI 0) (oC l eZ aI) (λk=>cS l aI (k:Nat)) 10 false;have C2:=aAF (c:=E.getD aI 0) (q:=oC l eZ aI) (us:=λk=>cS l aI (k:Nat)) (f:=10) (p:=false) p0;have ey:=λv=>(R4 (l:=hQ (E.getD aI 0) (oC l eZ aI) (λk=>cS l aI (k:Nat)) 10 false) (k:=1+c3) (v:=v) (by rw[R2];omega)).trans (abj p0 v);have ei:aI+1<=D E:=by omega
  have bM:(1+c3+1<=24)=True:=eq_true (by omega);have w1:=eA (i:=c3) (by omega);generalize IH:(bC (D E) λi=>R.ptr (228500+i) (gs i) 0)=xI at *;generalize MW:hQ (E.getD aI 0) (oC l eZ aI) (λk=>cS l aI (k:Nat)) 10 false=DC at *;generalize uQ:228500+aI=ed at *;have MP:(ed=228009)=False:=eq_false (by omega);have alI:(ed=228048)=False:=eq_false (by omega);have Fm:(ed==228009)=false:=beq_eq_false_iff_ne.2 (by omega);have R7:(228009==ed)=false:=beq_eq_false_iff_ne.2 (by omega);have alJ:(ed==228048)=false:=beq_eq_false_iff_ne.2 (by omega);have alK:(228048==ed)=false:=beq_eq_false_iff_ne.2 (by omega);have mv:(1<=maxLen)=True:=eq_true (by decide);have aMF:=λj=>(ajv X.right).upto aI j
  have Ex:∀j:Nat,0<=cS l aI (j:Nat)/\cS l aI (j:Nat)<=4000000000000000000:=λj=>by
   have:=(ajv X.right).sum (λc=>c.1=(aI:Int)/\c.2.2.1<(j:Int)) t;rw[aw] at this;unfold cS;omega
  generalize R9:228600+10*aI+c3=kr at *;have cW:(228009=ed)=False:=eq_false (by omega);have de:(228009=kr)=False:=eq_false (by omega);have ej:(228048=kr)=False:=eq_false (by omega);have fa:(228048=ed)=False:=eq_false (by omega);have o4:(kr=ed)=False:=eq_false (by omega);have ta:(ed=kr)=False:=eq_false (by omega);have ajY:(kr=228009)=False:=eq_false (by omega);have aAQ:(kr=228048)=False:=eq_false (by omega);have alL:(228009=228048)=False:=eq_false (by omega)
  have tail:∀(tm':Nat->R) (M2:Mem) (ra R6:Nat),tm' 5=.ref 228023 g 1 0 (D E)->tm' 25=.J (.Y (cs.map ck))->tm' 26=.J (.int .i64 (D cs))->tm' 27=.J (.int .i64 t)->M2 ed=some (gs aI,hQ (E.getD aI 0) (λk=>if k=c3 then .ref kr ra 4 0 ((dg l aI c3).length+1) else oC l eZ aI k) (λk=>cS l aI (k:Nat)  + if c3<k then c4 else 0) 10 false)->M2 kr=some (ra,a9 ck (dg l aI c3++[((aI:Int),c2,(c3:Int),c4)]))->(∀k:Nat,k≠228009->k≠228048->k≠ed->k≠kr->M2 k=m k)->za E (cs.take (t+1)) g gs (λi k=>if i=aI/\k=c3 then ra else eZ i k) M2/\ep 228 ez M2:=by
   intro tm' M2 ra R6 pF IU IV IW Fu M4 nP;rw[ga];refine⟨za.next cn aK g2 p0 ra ?_ (λi M bG=>?_) ?_ ?_ λi k M O bG=>?_,λk O=>?_⟩
   ·exact nP 228023 (by omega) (by omega) (by omega) (by omega)
   ·exact nP (228500+i) (by omega) (by omega) (by omega) (by omega)
   ·rw[uQ,R9];exact Fu
   ·rw[R9];exact M4
   ·exact nP (228600+10*i+k) (by omega) (by omega) (by omega) (by omega)
   ·rw[nP k (by omega) (by omega) (by omega) (by omega)];exact bX k O
  by_cases hN:dg l aI c3=[]
  ·have gh:oC l eZ aI c3=.nil:=by unfold oC;rw[ad hN]
   rw[gh] at C2;simp only[go_sem,go_sem_proc,mv,cX,hl,ij,ik,Q,eS,fk,h8,bW,hlen,C2,ey,d1,ei,bM,g2,p0,MP,alI,Fm,R7,alJ,alK,ck,cI,ak,bj];refine abk (sm.NS ed (gs aI) _ (1+c3) 228048 (gG (m 228048)) 4 0 1 _ kr iE (abi p0 |>.trans (by rw[ad rfl])) ((dq (by omega)).trans iE) (by show (228048:Nat)≠ed;omega) (by show kr≠(228048:Nat);omega) (by show kr≠ed;omega)) ?_;intro M2 hb;rw[abj p0] at hb
   have M5:M2 228009=some (gG (m 228009),[.J (.int .i64 aI),.J (.int .i64 c2),.J (.int .i64 c3),.J (.int .i64 c4)]):=by
    rw[hb];simp only[Bu,cW,de,alL,if_false,if_true]
   have Fu:∃ra,M2 ed=some (gs aI,hQ (E.getD aI 0) (λk=>if k=c3 then .ref kr ra 4 0 ((dg l aI c3).length+1) else oC l eZ aI k) (λk=>cS l aI (k:Nat)) 10 false)/\M2 kr=some (ra,a9 ck (dg l aI c3++[((aI:Int),c2,(c3:Int),c4)])):=by
    rw[hN];apply Exists.intro;apply And.intro
    rotate_left
    ·rw[hb];simp only[Bu,o4,if_false,if_true];rfl
    ·rw[hb];simp only[Bu,if_true]
     congr 2
     refine A0 (λk _=>?_) λ_ _=>rfl
     by_cases O:k=c3
     ·rw[ad O,ad O];rfl
     ·rw[ah O,ah O,ah O]
   obtain⟨ra,Fu,M4⟩:=Fu
   have nP:∀k:Nat,k≠228009->k≠228048->k≠ed->k≠kr->M2 k=m k:=λk G I af aS=>by
    rw[hb];simp only[Bu,G,I,af,aS,if_false]
   clear hb;simp only[go_sem,go_sem_proc,M5,w1,cW];refine alC T M2 ed (gs aI) (gG (m 228009)) (E.getD aI 0) (λk=>if k=c3 then .ref kr ra 4 0 ((dg l aI c3).length+1) else oC l eZ aI k) (λk=>cS l aI (k:Nat)) aI c2 c3 c4 p0 Ex (by omega) (by omega) (.ref 228023 g 1 0 (D E)) (.J (.Y (cs.map ck))) (.J (.int .i64 (D cs))) (.J (.int .i64 t)) _ _ ?_ ?_ ?_ ?_ ?_ ?_ ?_ M5 Fu (λ_ _=>rfl) ?_
   all_goals first|(intro tm' m' pF IU IV IW abm M6)|(simp only[eE,dC,if_false,if_true,cX,hl,ij,ik];done)
   have iG:=tail tm' m' ra 0 pF IU IV IW abm (by rw[M6 kr (by omega)];exact M4) λk G I af aS=>by rw[M6 k af];exact nP k G I af aS
   refine aX ?_;repeat' (intro h<;>simp only[h,go_sem,go_sem_proc,pF,IU,IV,IW,bT]<;>try refine ax ?_ ?_)
   exact⟨(t+1,λi k=>if i=aI/\k=c3 then ra else eZ i k),by dsimp only;omega,by dsimp only;omega,rfl,iG.1,iG.2⟩
  ·have gh:oC l eZ aI c3=.ref kr (eZ aI c3) 4 0 (dg l aI c3).length:=by unfold oC;rw[ah hN,R9]
   rw[gh] at C2;have R8:=cn.Ft aI c3 g2 p0 hN;rw[R9] at R8;have eM:(dg l aI c3).length<=12:=eQ (ou _ _) M3;have dz:=lv AQ Rc kr (eZ aI c3) 32 (dg l aI c3) ((aI:Int),c2,(c3:Int),c4) (cs:=[.J (.int .i64 aI),.J (.int .i64 c2),.J (.int .i64 c3),.J (.int .i64 c4)]) rfl (by omega) (by omega);have aj0:(kr==228009)=false:=beq_eq_false_iff_ne.2 (by omega);have aAR:(228009==kr)=false:=beq_eq_false_iff_ne.2 (by omega);have aAS:(kr==ed)=false:=beq_eq_false_iff_ne.2 (by omega);have aAT:(ed==kr)=false:=beq_eq_false_iff_ne.2 (by omega);simp only[go_sem,go_sem_proc,mv,cX,hl,ij,ik,Q,eS,fk,h8,bW,hlen,C2,ey,d1,ei,bM,g2,p0,MP,alI,Fm,R7,alJ,alK,ej,o4,ta,ajY,aAQ,aj0,aAR,aAS,aAT,R8,dz,ck,cI,ak,bj];refine abl ?_;intro M2 hb
   have M5:M2 228009=some (gG (m 228009),[.J (.int .i64 aI),.J (.int .i64 c2),.J (.int .i64 c3),.J (.int .i64 c4)]):=by
    rw[hb];simp only[Bu,cW,de,alL,if_false,if_true]
   have Fu:M2 ed=some (gs aI,hQ (E.getD aI 0) (λk=>if k=c3 then .ref kr (eZ aI c3+1) 4 0 ((dg l aI c3).length+1) else oC l eZ aI k) (λk=>cS l aI (k:Nat)) 10 false):=by
    rw[hb];simp only[Bu,if_true]
   have M4:M2 kr=some (eZ aI c3+1,a9 ck (dg l aI c3++[((aI:Int),c2,(c3:Int),c4)])):=by
    rw[hb];simp only[Bu,o4,if_false,if_true]
   have nP:∀k:Nat,k≠228009->k≠228048->k≠ed->k≠kr->M2 k=m k:=λk G I af aS=>by
    rw[hb];simp only[Bu,G,af,aS,if_false]
   clear hb;simp only[go_sem,go_sem_proc,M5,w1,cW];refine alC T M2 ed (gs aI) (gG (m 228009)) (E.getD aI 0) (λk=>if k=c3 then .ref kr (eZ aI c3+1) 4 0 ((dg l aI c3).length+1) else oC l eZ aI k) (λk=>cS l aI (k:Nat)) aI c2 c3 c4 p0 Ex (by omega) (by omega) (.ref 228023 g 1 0 (D E)) (.J (.Y (cs.map ck))) (.J (.int .i64 (D cs))) (.J (.int .i64 t)) _ _ ?_ ?_ ?_ ?_ ?_ ?_ ?_ M5 Fu (λ_ _=>rfl) ?_
   all_goals first|(intro tm' m' pF IU IV IW abm M6)|(simp only[eE,dC,if_false,if_true,cX,hl,ij,ik];done)
   have iG:=tail tm' m' (eZ aI c3+1) 0 pF IU IV IW abm (by rw[M6 kr (by omega)];exact M4) λk G I af aS=>by rw[M6 k af];exact nP k G I af aS
   refine aX ?_;repeat' (intro h<;>simp only[h,go_sem,go_sem_proc,pF,IU,IV,IW,bT]<;>try refine ax ?_ ?_)
   exact⟨(t+1,λi k=>if i=aI/\k=c3 then eZ aI c3+1 else eZ i k),by dsimp only;omega,by dsimp only;omega,rfl,iG.1,iG.2⟩
 ·have d1:decide ((t:Int)<(D cs:Int))=false:=cY;rw[dr (by omega)] at cn;refine aX ?_;repeat' (intro h<;>simp only[h,go_sem,go_sem_proc,cX,hl,ij,ik,d1]<;>try refine ax ?_ ?_)
  refine dK _ _ eZ ?_ cn bX;simp only[eE,dC,if_false,cX]
theorem tu.trans {a b c:Mem}(h:tu a b)(cx:tu b c):tu a c:=by
 induction h with
 |refl=>exact cx
 |step G _ aA=>exact .step G (aA cx)
theorem alM {K:a8->Prop}{tm:Nat->R}{mem mem':Mem}(h:tu mem mem')(dK:K ⟨tm,mem'⟩):lk K ⟨tm,mem⟩ .many:=⟨mem',h,dK⟩
def wy (l:List au)(eZ:Nat->Nat->Nat)(d i k:Nat):R:=if 10*i+k<d then j7 (dg l i k) else oC l eZ i k
structure xO (E:List Int) (l:List au) (g:Nat) (gs:Nat->Nat) (eZ:Nat->Nat->Nat) (d:Nat) (m:Mem):Prop where
 row:m 228023=some (g,bC (D E) λi => .ptr (228500+i) (gs i) 0)
 dA:∀i,i<(D E)->m (228500+i)=some (gs i,hQ (E.getD i 0) (wy l eZ d i) (λk=>cS l i (k:Nat)) 10 false)
 Ft:∀i k,i<(D E)->k<10->d<=10*i+k->dg l i k≠[]->m (228600+10*i+k)=some (eZ i k,a9 ck (dg l i k))
theorem xO.step {E:List Int}{l:List au}{g:Nat}{gs:Nat->Nat}{eZ:Nat->Nat->Nat}{d:Nat}{m:Mem}(h:xO E l g gs eZ d m)(aK:(D E)<=6)(aa:d<10*D E):∃m',tu m m'/\xO E l g gs eZ (d+1) m'/\ep 228 m m':=by
 obtain⟨i,k,M,O,rfl⟩:∃i k,i<D E/\k<10/\d=10*i+k:=⟨d/10,d%10,by omega,by omega,by omega⟩
 have abn:∀j r,j<(D E)->r<10->¬ (j=i/\r=k)->wy l eZ (10*i+k+1) j r=wy l eZ (10*i+k) j r:=λj r aj ab bG=>by
  unfold wy
  by_cases G:10*j+r<10*i+k
  ·rw[ad G,ad (by omega)]
  ·rw[ah G,ah (by omega)]
 by_cases H:dg l i k=[]
 ·refine⟨m,.refl m,⟨h.row,λj aj=>?_,λj r aj ab aa bG=>h.Ft j r aj ab (by omega) bG⟩,ep.refl _ _⟩;rw[h.dA j aj]
  congr 2
  refine A0 (λr ab=>?_) λ_ _=>rfl
  by_cases Ms:j=i/\r=k
  ·obtain⟨rfl,rfl⟩:=Ms;unfold wy;rw[ah (by omega),ad (by omega)];unfold oC j7;rw[ad H,ad H]
  ·exact (abn j r aj ab Ms).symm
 ·have ag:=h.dA i M;have eM:=h.Ft i k M O (b0 _) H
  have Wc:wy l eZ (10*i+k) i k=.ref (228600+10*i+k) (eZ i k) 4 0 (dg l i k).length:=by
   unfold wy;rw[ah (by omega)];unfold oC;rw[ah H]
  have iI:=abi (c:=E.getD i 0) (q:=wy l eZ (10*i+k) i) (us:=λk=>cS l i (k:Nat)) (f:=10) (p:=false) O;rw[Wc] at iI;have vF:cC 1 m (.ref (228600+10*i+k) (eZ i k) 4 0 (dg l i k).length)=some (.Y ((dg l i k).map ck)):=qD (n:=0) AQ eM;refine⟨_,.step (sm.NT (228500+i) (gs i) _ (1+k) (228600+10*i+k) (eZ i k) 4 0 (dg l i k).length _ (.Y ((dg l i k).map ck)) ag iI eM (by show (228600+10*i+k:Nat)≠228500+i;omega) vF) (.refl _),⟨?_,λj aj=>?_,λj r aj ab aa bG=>?_⟩,λx Q=>?_⟩
  ·rw[dq (by show (228023:Nat)≠228500+i;omega)];unfold kill;rw[dq (by show (228023:Nat)≠228600+10*i+k;omega)];exact h.row
  ·by_cases h9:j=i
   ·subst h9;rw[iE,abj O]
    congr 2
    refine A0 (λr ab=>?_) λ_ _=>rfl
    by_cases h1:r=k
    ·subst h1;rw[ad rfl];unfold wy;rw[ad (by omega)];unfold j7;rw[ah H]
    ·rw[ah h1];exact (abn j r aj ab (by omega)).symm
   ·rw[dq (by show (228500+j:Nat)≠228500+i;omega)];unfold kill;rw[dq (by show (228500+j:Nat)≠228600+10*i+k;omega),h.dA j aj]
    congr 2
    refine A0 (λr ab=>(abn j r aj ab (by omega)).symm) λ_ _=>rfl
  ·rw[dq (by show (228600+10*j+r:Nat)≠228500+i;omega)];unfold kill;rw[dq (by show (228600+10*j+r:Nat)≠228600+10*i+k;omega)];exact h.Ft j r aj ab (by omega) bG
  ·have sw:x/1000≠228:=Q;rw[dq (by show x≠228500+i;omega)];unfold kill;rw[dq (by show x≠228600+10*i+k;omega)]
theorem xO.all {E:List Int}{l:List au}{g:Nat}{gs:Nat->Nat}{eZ:Nat->Nat->Nat}(aK:(D E)<=6):∀r d m,d+r=10*(D E)->xO E l g gs eZ d m->∃m',tu m m'/\xO E l g gs eZ (10*D E) m'/\ep 228 m m'
 |0,d,m,aa,h=>⟨m,.refl m,by rw[<-aa];exact h,ep.refl _ _⟩
 |r+1,d,m,aa,h=>by
  obtain⟨dO,G,I,af⟩:=h.step aK (by omega);obtain⟨cJ,b9,dc,eI⟩:=xO.all aK r (d+1) dO (by omega) I;exact⟨cJ,G.trans b9,dc,λx Q=>(eI x Q).trans (af x Q)⟩
theorem za.aAU {E:List Int}{l:List au}{g:Nat}{gs:Nat->Nat}{eZ:Nat->Nat->Nat}{m:Mem}(h:za E l g gs eZ m):xO E l g gs eZ 0 m :=
 ⟨h.row,λi M=>by
  rw[h.dA i M]
  congr 2,λi k M O _ bG=>h.Ft i k M O bG⟩
def zb (E:List Int)(cs:List au)(g:Nat)(gs:Nat->Nat):db:=⟨E,dy (D E) cs,bC (D E) λ_=>10,nK (D E) λ_=>false,g,bC (D E) gs⟩
theorem aAV {E:List Int}{cs:List au}(h:ff E cs)(i r:Nat):cS (dy (D E) cs) i r=cS cs i r:=by
 have G:=uF h.right i r;have I:=uF (Z9 h).right i r;rw[<-(ajE h.right).bD,<-G] at I;exact_mod_cast I
theorem A1 {α:Type}{n i:Nat}(q:Nat->α)(d:α)(h:i<n):(bC n q).getD i d=q i:=by
 rw[dX,iY q h];rfl
theorem xO.at {E:List Int}{cs:List au}(X:ff E cs){g:Nat}{gs:Nat->Nat}{eZ:Nat->Nat->Nat}{m:Mem}(h:xO E cs g gs eZ (10*D E) m):(zb E cs g gs).eG m:=by
 refine⟨(axZ _ _).symm,gX _ _,Rl _ _,gX _ _,?_,λi M=>?_⟩
 ·refine h.row.trans ?_
  congr 2
  exact kM λi M=>by
   show R.ptr (228500+i) (gs i) 0=R.ptr (228500+i) ((bC (D E) gs).getD i 0) 0;rw[A1 gs 0 M]
 ·have ke:i<D E:=M;refine (h.dA i ke).trans ?_;have ay:(zb E cs g gs).gs.getD i 0=gs i:=A1 gs 0 ke;rw[ay]
  congr 2
  have aC:(bC (D E) λ_=>(10:Int)).getD i 10=10:=A1 _ _ ke;have cg:(nK (D E) λ_=>false).getD i false=false:=by rw[dX,Rm _ ke];rfl
  have dw:fC ((zb E cs g gs).gM i)=bI (E.getD i 0)::((bC 10 λk=>dg (dy (D E) cs) i k).map j7++((bC 11 λk=>cS (dy (D E) cs) i (k:Nat)).map bI++[bI ((bC (D E) λ_=>(10:Int)).getD i 10),lf ((nK (D E) λ_=>false).getD i false)])):=rfl;rw[dw,aC,cg];unfold hQ
  have cX:(bC 10 λk=>dg (dy (D E) cs) i k).map j7=bC 10 (wy cs eZ (10*D E) i):=by
   unfold bC;rw[m5];refine m4 λk O=>?_;have LX:=gR.1 O;show j7 (dg (dy (D E) cs) i k)=wy cs eZ (10*D E) i k;rw[ajA cs ke LX];unfold wy;rw[ad (by omega)]
  have bN:(bC 11 λk=>cS (dy (D E) cs) i (k:Nat))=bC 11 λk=>cS cs i (k:Nat):=kM λk _=>aAV X i k;rw[cX,bN]
theorem alN {α:Type}(n:Nat)(q:Nat->α):bC (n+1) q=bC n q++[q n]:=by
 unfold bC;rw[ov,kG];rfl
structure abo (x:List Int×List au) (mem:Mem):Prop where
 r9:ff x.1 x.2
 no:r4 228 mem
def abp (x:List Int×List au)(mem:Mem):R->Mem->Prop:=λm mem'=>∃g gs,m=.ref 228023 g 1 0 x.1.length/\(zb x.1 x.2 g gs).eG mem'/\ep 228 mem mem'
def abq:List R->Mem->Option (R->Mem->Prop):=ur (λ(x:List Int×List au) args mem=>args=[.J (.Y (x.1.map ae)),.J (.Y (x.2.map ck))]/\abo x mem) abp
theorem aAW (E:List Int)(cs:List au)(mem:Mem)(h:abo (E,cs) mem):abq [.J (.Y (E.map ae)),.J (.Y (cs.map ck))] mem=some (abp (E,cs) mem):=by
 refine ajU (a:=(E,cs)) ?_ ⟨rfl,h⟩;rintro⟨a,b⟩ ⟨c,d⟩ args mem ⟨ay,aC⟩ ⟨cg,dw⟩;rw[ay] at cg;simp only[a3,R.J.injEq,Data.Y.injEq,and_true] at cg;obtain⟨G,I⟩:=cg;rw[map_inj e9 _ _ G,map_inj q5 _ _ I]
def alO (_:Nat):R:=.nil
def alP (_:Nat):Int:=0
theorem aAX (T:bb)(E:List Int)(cs:List au)(mem:Mem)(aN:abo (E,cs) mem):
  wp T Cn.body (oi Cn.res (abp (E,cs) mem)) ⟨ka [.J (.Y (E.map ae)),.J (.Y (cs.map ck))],mem⟩:=by
 obtain⟨X,gH⟩:=aN;dsimp only at X;have aK:=X.iX;have aAY:mem 228023=none:=gH 228023 (by decide);refine qz ?_;simp only[Cn];simp only[go_sem,go_sem_proc,aAY,ak]
 refine dd [1,12,13] [] (λ((i,g,gs):Nat×Nat×(Nat->Nat)) tm m=>i<=D E/\tm 14=.J (.int .i64 i)/\tm 5=.ref 228023 g 1 0 i/\m 228023=some (g,bC i λj => .ptr (228500+j) (gs j) 0)/\(∀j,j<i->m (228500+j)=some (gs j,hQ (E.getD j 0) alO alP 10 false))/\ep 228 mem m) (λ(i,_)=>D E-i) (0,0,λ_=>0) (by
  refine⟨by omega,rfl,rfl,by simp[a2];rfl,λj aj=>by omega,(ep.refl _ _).e5 (by decide)⟩) ?_
 intro vs ms aP aO;simp only[go_sem,go_sem_proc] at aP aO;subst aP aO;rintro⟨i,g,gs⟩ tm m O-⟨M,xv,cX,eS,fk,bX⟩;simp only[go_sem,go_sem_proc,a3] at O;obtain⟨ay,eX,gl⟩:=O;rcases dn (i<D E) with az|b4
 ·have d1:decide ((i:Int)<(D E:Int))=true:=c6;have bT:=eA (i:=i) (by omega);obtain⟨y,av⟩:∃y,E[i]?=some y:=⟨_,bs az⟩;have Lo:E.getD i 0=y:=by rw[dX,av];rfl
  have bW:(bC i λj=>R.ptr (228500+j) (gs j) 0).length=i:=gX _ _;have ga:fJ i (bC i λj=>R.ptr (228500+j) (gs j) 0)=bC i λj=>R.ptr (228500+j) (gs j) 0:=dr (by omega);have ei:((i+1)*8<=140737488355328)=True:=eq_true (by omega);have ai:(i+1<=maxLen)=True:=eq_true (by unfold maxLen;omega);have bM:(i<=i)=True:=eq_true (b0 _)
  have dz:mq 228023 g 1 i 8 1 [.ptr 228021 (gG (m 228021)) 0] (some (g,bC i λj=>R.ptr (228500+j) (gs j) 0))=some (.ref 228023 (g+1) 1 0 (i+1),some (228023,g+1,(bC i λj=>R.ptr (228500+j) (gs j) 0)++[.ptr 228021 (gG (m 228021)) 0])):=by
   unfold mq;dsimp only;rw[ad ⟨rfl,by rw[gX];omega,by omega,by unfold maxLen;omega,rfl⟩,cI,ga]
  generalize IH:(bC i λj=>R.ptr (228500+j) (gs j) 0)=xI at *;simp only[go_sem,go_sem_proc,ay,cX,eX,gl,xv,eS,av,bW,dz,d1,ae,cI,ak,bj]
  have Sa:(xI++[R.ptr 228021 (gG (m 228021)) 0])[i]?=some (.ptr 228021 (gG (m 228021)) 0):=by
   rw[ru (by omega),bW];simp
  have cW:(228021=228022)=False:=eq_false (by decide);refine abk (sm.ac8 228023 (g+1) _ i 228021 (gG (m 228021)) 0 _ (228500+i) iE Sa ((dq (by decide)).trans ((dq (by decide)).trans iE)) (by decide) (by show (228500+i:Nat)≠228021;omega) (by show (228500+i:Nat)≠228023;omega)) ?_;intro M2 hb
  have mP:∀p,(xI++[R.ptr 228021 (gG (m 228021)) 0]).set i p=xI++[p]:=λp=>by
   rw[ES _ _ (by omega),bW,Nat.sub_self];rfl
  rw[mP] at hb
  obtain⟨IX,alQ,aAZ⟩:∃IX,M2 228023=some (g+1,xI++[.ptr (228500+i) IX 0])/\M2 (228500+i)=some (IX,hQ y alO alP 10 false):=by
   apply Exists.intro;apply And.intro
   rotate_left
   ·rw[hb,dq (by show (228500+i:Nat)≠228023;omega),iE];rfl
   ·rw[hb,iE]
  have nP:∀k:Nat,k≠228021->k≠228022->k≠228023->k≠228500+i->M2 k=m k:=λk G I af aS=>by
   rw[hb,dq af,dq aS,dq G,dq af,dq I,dq G]
  clear hb
  have hR:xI++[R.ptr (228500+i) IX 0]=bC (i+1) λj => .ptr (228500+j) (if j=i then IX else gs j) 0:=by
   rw[alN,ad rfl,<-IH]
   congr 1
   exact kM λj aj=>by rw[ah (by omega)]
  rw[hR] at alQ;refine aX ?_;repeat' (intro h<;>simp only[h,go_sem,go_sem_proc,ay,eX,gl,xv,bT]<;>try refine ax ?_ ?_)
  refine⟨(i+1,g+1,λj=>if j=i then IX else gs j),by dsimp only;omega,by dsimp only;omega,rfl,rfl,alQ,λj aj=>?_,λk O=>?_⟩
  ·by_cases h9:j=i
   ·subst h9;dsimp only;rw[ad rfl,aAZ,Lo]
   ·dsimp only;rw[ah h9,nP (228500+j) (by omega) (by omega) (by omega) (by omega)];exact fk j (by dsimp only at aj;omega)
  ·rw[nP k (by omega) (by omega) (by omega) (by omega)];exact bX k O
 ·have d1:decide ((i:Int)<(D E:Int))=false:=cY;obtain rfl:i=D E:=by omega
  simp only[go_sem,go_sem_proc,ay,cX,eX,gl,xv,d1,ak];refine aAO T mem E cs X g gs (λ_ _=>0) _ _ ?_ ?_ ?_ ?_ ⟨eS,λj aj=>?_,λj k aj O bG=>absurd rfl bG⟩ bX ?_
  all_goals first|(intro tm' m' eZ pF cn xJ)|(simp only[eE,dC,if_false,if_true,ay,cX];done)|skip
  ·rw[fk j aj]
   congr 2
  obtain⟨cJ,G,I,af⟩:=xO.all aK (10*D E) 0 m' (by omega) cn.aAU;simp only[go_sem,go_sem_proc];refine alM G ?_;refine aX ?_;repeat' (intro h<;>simp only[h,go_sem,go_sem_proc,pF]<;>try refine ax ?_ ?_)
  exact⟨_,rfl,g,gs,rfl,I.at X,λk O=>(af k O).trans (xJ k O)⟩
end Go.Mini
