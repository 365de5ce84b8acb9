/- A part of the proof. -/
import Derived.Test.YtplehnijfhgclaaGreatDoorProg
import Derived.KernelRfl
import Derived.Test.YtplehnijfhgclaaGreatDoorM03
set_option linter.unusedSimpArgs false
set_option linter.unusedVariables false
set_option linter.defProp false
set_option maxRecDepth 100000
set_option maxHeartbeats 4000000
noncomputable section
open Bool renaming and_eq_true->dp,and_false->jV,and_self->JE,eq_iff_iff->FG,false_and->h9,false_eq_true->dm,false_or->sO,not_eq_false->JP,not_eq_false'->Jo,not_eq_true'->lF,not_false->h8,not_true->fP,or_eq_true->sN,rec->fL,true_and->iD
open Classical renaming choose_spec->rD
open Decidable renaming em->eo
open Int renaming add_comm->wj,add_zero->H8,cast_ofNat_Int->n2,eq_ofNat_of_zero_le->JB,lt_trichotomy->rT,mul_add->hz,mul_assoc->hA,mul_one->rM,mul_zero->wm,natAbs_natCast->ik,natAbs_neg->yb,natCast_pos->BD,natCast_zero->nu,pow_succ->lZ,sign_eq_neg_one_of_neg->n6,sign_eq_one_of_pos->ij,sign_mul->oa,sign_sign->yc,tdiv_eq_ediv_of_nonneg->D6,tdiv_nonneg->afb,tmod_eq_emod_of_nonneg->HZ,tmod_nonneg->afa,toNat_natCast->mY
open List renaming all_append->aef,all_cons->Dw,all_eq_true->jP,any_eq_false->m4,append_assoc->hj,append_nil->nZ,count_replicate_self->JQ,count_set->aei,drop->pS,drop_eq_getElem_cons->gK,drop_eq_nil_of_le->mH,drop_set_of_lt->ry,drop_zero->oO,flatten_cons->k9,flatten_nil->aeO,getD_eq_getElem?_getD->eH,getElem?_eq_getElem->bw,getElem?_eq_none->mI,getElem?_eq_some_iff->dh,getElem?_map->bD,getElem?_range->qq,getElem_mem->iJ,length->D,length_append->la,length_cons->jt,length_map->au,length_nil->ln,length_pos_iff->Is,length_range->A1,length_replicate->gv,length_set->gg,length_singleton->U2,length_take->hg,map_append->pZ,map_cons->hi,map_nil->cE,map_replicate->BY,map_take->aeP,mem_filterMap->adz,mem_map->hx,mem_of_getElem?->dM,mem_or_eq_of_mem_set->tp,mem_range->pP,mem_replicate->n4,mem_singleton->wq,mem_zipIdx_iff_getElem?->Dp,range->jf,range'->Jh,range_eq_range'->adK,replicate->bT,replicate_succ->pF,take->oU,take_add_one->jl,take_length->oc,take_of_length_le->dx
open List.cons renaming injEq->bo
open Nat renaming add_zero->ko,beq->gG,ble->qU,blt->z4,div_div_eq_div_mul->aeT,eq_of_beq_eq_true->B6,eq_zero_or_pos->jh,gcd->fS,gcd_comm->It,le_of_ble_eq_true->p4,le_of_lt->zD,le_refl->bI,lt_of_div_lt_div->aeV,lt_of_le_of_lt->wg,lt_or_ge->fF,lt_succ_self->JR,max_eq_right->Vp,min_eq_left->mM,mod_lt->mW,mul_comm->pO,mul_le_mul_right->mJ,mul_lt_mul_of_pos_left->ae3,mul_one->dU,one_lt_pow->ad9,pos_of_ne_zero->DE,pow_succ->sR,reduceEqDiff->yr,sub_self->lS,zero_div->aeS,zero_le->ej
open Option renaming bind_none->kz,map_eq_some_iff->cJ,rec->kj
open Option.some renaming inj->mN,injEq->bF
open Prod renaming ext->cO,fst->wA
open Prod.mk renaming injEq->ec
open Rat renaming divInt->j1
namespace Go.Mini
open Go
def dw.all {α:Type}(p:α->Bool)(t:dw α):Bool:=dw.rec (motive:=λ_=>Bool) true (λ_ v _ uZ TT=>fL false (fL false (kj true (λa=>p a) v) TT) uZ) t
def dw.Ua {α:Type}{p:α->Bool}{a:α}:∀{t:dw α} {k:Nat},t.all p=true->t.get k=some a->p a=true
 |.e,k,_,h=>by cases h
 |.n l v r,k,a2,h=>by
  have Cb:(fL false (fL false (kj true (λa=>p a) v) (r.all p)) (l.all p):Bool)=true:=a2
  cases ad:l.all p with
  |false=>rw[ad] at Cb;cases Cb
  |true =>
   rw[ad] at Cb
   cases Q:r.all p with
   |false=>rw[Q] at Cb;cases Cb
   |true =>
    rw[Q] at Cb;rw[dw.wS] at h
    split at h
    ·subst h;exact Cb
    ·split at h
     ·exact dw.Ua ad h
     ·exact dw.Ua Q h
abbrev sf:=iX->eW->eB->Nat->Option I->ca
def sg:W sf:=.mk λ_ _ _ _ _=>ca.no
def ap1 (ol:List FuncId)(ops:Array Oper):List Nat:=ops.toList.flatMap λo=>match o.op with
 |.call { callee:=.value (.func f),.. }=>if ol.contains f=true then o.dst.toList else []
 |_=>[]
def adr:Option I->Option I->Bool
 |some a,some b=>sc a b
 |_,_=>false
def Ub (aU bO:eB)(ea:yx):Bool:=ea.all λo=>adr (ic (b3 aU) o.1 o.2.1 o.2.2) (ic (b3 bO) o.1 o.2.1 o.2.2)
def Uc:fh->Bool
 |.load ..=>true
 |.alloc ..=>true
 |op=>gG (ld op) 0
def Js (pe:List Nat)(g:Nat)(l:List bh):List (Nat×Nat×List I):=l.zipIdx.filterMap λ(x,j)=>if k5 pe g j=true then (match x.op with
 |.alloc k z=>some (j,k,z)
 |_=>none) else none
def Jt (gl:List FuncId)(l:List bh):List (Nat×FuncId×List bg×Option Nat):=l.zipIdx.filterMap λ(x,j)=>match x.op,x.g with
 |.call f args,none=>if gl.contains f=true then some (j,f,args,x.dst) else none
 |_,_=>none
def NX (k:Nat)(m:eB):Bool:=kj true (λ_=>false) (m.get k)
def ads (kb g:Nat)(hc:Option (Nat×Nat×List I))(aU:eB)(sd:List I):Bool:=match hc with
 |none=>true
 |some (eQ,k,z)=>z4 g eQ&&NX (kb+k) aU&&dw.all (λe=>oj (kb+k) e.2) aU&&oj (kb+k) sd&&oj (kb+k) z
def adt (kb:Nat)(hc:Option (Nat×Nat×List I))(bO:eB):Bool:=match hc with
 |none=>true
 |some (_,k,_)=>NX (kb+k) bO
def adu (ol:List FuncId)(un:Nat->Bool)(last:Bool)(hc:Option (Nat×Nat×List I))(g:Nat)(f:FuncId)(args:List bg)(dst:Option Nat)(post:List bh)(hN:List (List Nat)):W (iX->Nat->eW->eB->Rec->yx->Option I->ca) :=
 .mk λrun c t m rec ea d=>fL ca.no
  (iG.rec ca.no (λv bO dR=>fL ca.no (W.ap (u1 ol un post (g+1) (hN.drop (g+1))) run c (hW dst t v) bO rec ea λt3 hK _ Ud=>fL ca.no (.ok .k3 t3 hK dR d) (Ub m bO Ud)) (adt c hc bO))
   (λv bO dR=>fL ca.no (.ok (.gH v) t bO dR d) last) (run f (args.map λx=>W.ap (iY x) t) m (c+1000)))
  (ads c g hc m (args.map λx=>W.ap (iY x) t))
def Fc (ol:List FuncId)(un:Nat->Bool)(last:Bool)(hc:Option (Nat×Nat×List I))(g:Nat)(f:FuncId)(args:List bg)(dst:Option Nat)(l:List bh)(hN:List (List Nat)):W sf :=
 .mk λrun t m c d=>W.ap (u1 ol un (l.take g) 0 (hN.drop 0)) run c t m (λ_=>none) [] λt1 aU rec1 pb=>W.ap (adu ol un last hc g f args dst (l.drop (g+1)) hN) run c t1 aU rec1 pb d
def Ue (ol gl:List FuncId)(l:List bh)(pe:List Nat):W sf:=match Jt gl l with
 | [] => .mk λrun t m c d=>W.ap (u1 ol (λ_=>false) l 0 ((lf [] l pe).drop 0)) run c t m (λ_=>none) [] λt m _ _ => .ok .k3 t m (c+1000) d
 | [(g,f,args,dst)]=>fL sg (match Js pe g l with
  | []=>Fc ol (k5 pe g) (l.zipIdx.all (λx => !k5 pe g x.2)&&gG (g+1) (D l)) none g f args dst l (lf [] l pe)
  | [hc]=>Fc ol (k5 pe g) false (some hc) g f args dst l (lf [] l pe)
  |_=>sg) (l.zipIdx.all λx => !k5 pe g x.2||Uc x.1.op)
 |_=>sg
def Uf (P:Program)(ol gl:List FuncId)(n:Nat)(ops:Array Oper):W sf:=match ops.toList.mapM (mG P n 0 (ap1 ol ops) ops) with
 |none=>sg
 |some l=>fL sg (Ue ol gl l (fp ops.toList [])) (pB ops l)
variable {P:Program} {aQ:Option I} {A:Nat->Prop} {b5 w:World} {c4 B:cB} {n kb:Nat} {own:List Nat} {ops:Array Oper} {o:Oper} {run:iX} {t:eW} {m:eB} {c:Nat} {d:Option I} {l:List bh} {al:Exit->Act->World->Prop}
def Ug {b6:um}{K:a3->Prop}{id:Nat}{a:Act}{st:a3}(hm:P.follows .mixedOrders=true)(aF:G9 b6 ops l)(AW:Ha b6)(ad:(D l)=ops.size)(he:xe 0 ops.toList=true)(c6:LD P aQ n A b5 c4 ops l b6 al)
  (ey:∀st a w B,K st->dq aQ n A b5 c4 a st w B->al .normal a w) (R:dq aQ n A b5 c4 a st w B) (Z:xx b6 K 0 l (λ_=>none) st):(Code.region id ops true).wp P al a w:=by
 refine wp_region_any hm ?_;have me:=QC aF AW ad he l 0 (λ_=>none) st (Array.replicate ops.size false) rfl (by simp) (by simp) (λi L=>by simp[L]) (λ_ _=>rfl) Z;rw[ad] at me;exact LF c6 ey ops.size _ _ _ _ _ B (R.drew _) me
def adv {pd:Nat}{se:bh->Rec->a3->a3->Prop}{S:Nat->bh->(Nat->I)->Prop}{fH:Nat->Nat->Bool}{T:bj}(cn:mS P T)(aA:ops.toList.mapM (mG P n kb own ops)=some l)
  (aC:∀x o rec st bV a w B,l[pd]?=some x->Dn P n kb own ops o x->se x rec st bV->dq aQ n A b5 c4 a st w B->Region.wanted o (yielded ops a.tmps)=true/\o.wp P a w (λcl aj=>∃aB,dq aQ n A b5 c4 cl bV aj aB) al):LD P aQ n A b5 c4 ops l (pc T fH pd se S) al:=by
 intro i x o rec st h6 bV a w B J a0 hex R;unfold pc at hex
 split at hex
 ·rename_i wV;subst wV;obtain⟨y,af,Hd⟩:=LC aA (i:=i) (x:=o) (by simpa using a0);rw[J] at af
  cases af;exact .inr (aC x o rec st bV a w B J (GZ Hd) hex.2 R)
 ·exact QG cn aA i x o rec st h6 bV a w B J a0 hex.1 R
def adw {k:Nat}(h:NX k m=true):b3 m k=none:=by
 unfold NX at h;unfold b3
 cases hm:m.get k with
 |none=>rfl
 |some x=>rw[hm] at h;cases h
def ap2 {k:Nat}(h:dw.all (λe=>oj k e.2) m=true):freeM k (b3 m):=λj g cs aa=>dw.Ua (p:=λe:Nat×List I=>oj k e.2) h aa
def ap3 {aU bO:eB}{ea:yx}(h:Ub aU bO ea=true){k:Nat}{bC:Bool}{a:I}(hm:(k,bC,a)∈ea):∃v,ic (b3 aU) k bC a=some v/\ic (b3 bO) k bC a=some v:=by
 unfold Ub at h;rw[jP] at h;have:=h _ hm;simp only at this;unfold adr at this
 split at this
 ·rename_i x y E G;have:=ac8 _ _ this;subst this;exact⟨x,E,G⟩
 ·cases this
def adx {is:List bh}(aA:ops.toList.mapM (mG P n 0 own ops)=some is):∀x∈is,x.dst.all (λd=>decide (d<n))=true:=by
 intro x J;obtain⟨i,L⟩:=List.mem_iff_getElem?.1 J;obtain⟨E,G⟩:=mapM_get aA;have av:i<D ops.toList:=by have:=(dh.1 L).1;omega
 have a0:=bw av;have:=GZ (G i _ x a0 L);rw[this.dst];exact this.lt
def ady (h:pB ops l=true):pB ops (l.map (gi kb))=true:=by
 unfold pB at *;have:=adb (kb:=kb) l [] (fp ops.toList []);rw[cE] at this;rw[this];exact h
def NY {α:Type}{a b:α}{x:Bool}{r:α}(h:r=fL a b x)(a6:r≠a):x=true/\r=b:=by
 cases x with
 |false=>exact absurd h a6
 |true=>exact⟨rfl,h⟩
def NZ:a3:=⟨λ_ => .g1 0 0,emp⟩
def ap4 {a:Act}(h:dq aQ n A b5 c4 a NZ w B):False:=by
 have E:=h.tm 0;have G:=h.ok.b4.q9 0 rfl;have ab:aN w (bb A B) B (.g1 0 0) (a.eval (.tmp 0)):=E;generalize a.eval (.tmp 0)=u at ab
 cases ab with
 |g1 he _ _=>rw[G] at he;cases he
def Uh {α:Type}{l:List α}{i:Nat}{x:α}(h:l[i]?=some x):(x,i)∈l.zipIdx:=Dp.2 h
def ap5 {gl:List FuncId}{g:Nat}{f:FuncId}{args:List bg}{dst:Option Nat}(h:(g,f,args,dst)∈Jt gl l):∃x,l[g]?=some x/\x.op=.call f args/\x.g=none/\x.dst=dst:=by
 unfold Jt at h;rw[adz] at h;obtain⟨⟨x,j⟩,hm,J⟩:=h;simp only at J
 split at J
 ·rename_i zV aAl E G
  split at J
  ·simp only[bF,ec] at J;obtain⟨rfl,rfl,rfl,rfl⟩:=J;exact⟨x,Dp.1 hm,E,G,rfl⟩
  ·cases J
 ·cases J
def adA {pe:List Nat}{g j k:Nat}{z:List I}:(j,k,z)∈Js pe g l↔∃x,l[j]?=some x/\k5 pe g j=true/\x.op=.alloc k z:=by
 unfold Js;rw[adz]
 constructor
 ·rintro⟨⟨x,i⟩,hm,J⟩;simp only at J
  split at J
  ·rename_i hu
   split at J
   ·rename_i k' Hh ev;simp only[bF,ec] at J;obtain⟨rfl,rfl,rfl⟩:=J;exact⟨x,Dp.1 hm,hu,ev⟩
   ·cases J
  ·cases J
 ·rintro⟨x,J,hu,ev⟩;refine⟨(x,j),Uh J,?_⟩;simp only[hu,if_true,ev]
def adB {ol gl:List FuncId}{hc:Option (Nat×Nat×List I)}{last:Bool}{g:Nat}{f:FuncId}{args:List bg}{dst:Option Nat}{r:ca}{id:Nat}{a:Act}(dY:sb P run)(aE:n<=1000000)(hm:P.follows .mixedOrders=true)
  (aA:ops.toList.mapM (mG P n 0 own ops)=some l) (ae:pB ops l=true) (th:(g,f,args,dst)∈Jt gl l) (dD:(l.zipIdx.all λx => !k5 (fp ops.toList []) g x.2||Uc x.1.op)=true)
  (gY:∀j k z,(j,k,z)∈Js (fp ops.toList []) g l↔hc=some (j,k,z)) (Il:last=true->∀j,j<(D l)->k5 (fp ops.toList []) g j=false) (ap6:last=true->g+1=D l)
  (Q:r=W.ap (Fc ol (k5 (fp ops.toList []) g) last hc g f args dst l (lf [] l (fp ops.toList []))) run t m c d) (a6:r ≠ .no) (R:dq d n A b5 c4 a ⟨cA t,b3 m⟩ w B)
  (db:∀x t1 aU cH d1 cl aj aB,r=ca.ok x t1 aU cH d1->dq d1 n A b5 c4 cl ⟨cA t1,b3 aU⟩ aj aB->toQ A al x cl aj aB):(Code.region id ops true).wp P al a w:=by
 obtain⟨Cc,wV,ev,Ui,tz⟩:=ap5 th;have ap7:g<D l:=(dh.1 wV).1
 have Lm:l.take g++Cc::l.drop (g+1)=l:=by
  have E:Cc=l[g]:=(dh.1 wV).2.symm;rw[E,<-gK ap7,List.take_append_drop]
 have vX:=adx aA;have lY:=adf (kb:=c) aA;have N0:=ady (kb:=c) ae;have kx:=T8 (kb:=c) l [] (fp ops.toList []);rw[cE] at kx
 have hlen:(l.map (gi c)).length=ops.size:=by
  rw[(mapM_get lY).1,Array.length_toList]
 have Fe:xe 0 ops.toList=true:=by unfold pB at ae;rw[dp] at ae;exact ae.1
 have z7:(l.map (gi c))[g]?=some (gi c Cc):=by rw[bD,wV];rfl
 have Cd:(gi c Cc).op=.call f args:=by simp only[gi,ev,e2]
 generalize rU:k5 (fp ops.toList []) g=un at *;generalize aAm:lf [] l (fp ops.toList [])=hN at *;unfold Fc at Q;rw[nG] at Q;have r8:(l.take g).length=g:=by rw[hg];omega
 obtain⟨t1,aU,rec1,pb,aK,az,ee,kU⟩:=NU (kb:=c) aE a6 (l.take g) 0 t m (λ_=>none) [] (λx J=>vX x (List.mem_of_mem_take J)) (λ_ _=>rfl) Q;rw[r8,Nat.zero_add] at az kU;unfold adu at aK;rw[nG] at aK;obtain⟨Ht,aK⟩:=NY aK a6;have ap8:=apA args t1;rw[ap8] at aK Ht
 have Uj:(l.take g).map (gi c)++gi c Cc::(l.drop (g+1)).map (gi c)=l.map (gi c):=by
  conv=>rhs;rw[<-Lm]
  simp
 cases dK:run f (args.map (aI (cA t1))) aU (c+1000) with
 |no=>rw[dK] at aK;exact absurd aK a6
 |gH v bO dR =>
  rw[dK] at aK;obtain⟨bH,aK⟩:=NY aK a6
  have Uk:∀j y,(l.map (gi c))[j]?=some y->k5 (fp ops.toList []) g j=false:=λj y af=>by
   have av:=(dh.1 af).1;rw[au] at av;rw[rU];exact Il bH j av
  have ap9:l.drop (g+1)=[]:=by rw[ap6 bH];exact List.drop_length
  rw[ap9] at Uj
  refine Ug (aQ:=d) (K:=λst=>st=NZ) (b6:=pc (m7 ol run) (lW hN) g (λ_ _ st bV=>st=⟨cA t1,b3 aU⟩/\bV=NZ) (λ_ _ _=>True)) hm
   (adj N0 (by rw[kx]) (λ_ _ _ _ _ h=>h) (λj x y rec st rec1 st1 jS aa _ af=>?_) (λj x y rec st rec1 st1 jS aa _ af=>?_) (λx rec st bV h J => .inr Uk)) adh hlen Fe
   (adv (T6 dY) lY λx o rec st bV a w B J L eG R=>?_) (λst a w B et R=>?_) R ?_
  ·rw[Uk j y af] at aa;cases aa
  ·rw[Uk j y af] at aa;cases aa
  ·rw[z7] at J
   cases J;obtain⟨rfl,rfl⟩:=eG;refine⟨y6 R L.guard (by simp only[gi,Ui];rfl),?_⟩;have adC:gk P c own o.dst o.type o.op=some (gi c Cc).op:=getD_some L.op (by rw[Cd];simp);rw[Cd] at adC;obtain⟨Jg,Z,hh,iB⟩:=GY adC;have b0:=pJ R.jy iB;have h:=dY f (args.map (aI (cA t1))) aU (c+1000);rw[dK] at h;unfold Oper.wp;rw[vR Z hh h.1];refine Calls.mono (h.2 A w B _ R.ok.b4 b0) λe aj he=>?_;obtain⟨u,aB,rfl,c6,iz⟩:=he;exact db (.gH v) t1 bO dR d a aj aB aK (R.put (dst:=none) c6 iz rfl) u iz
  ·subst et;exact (ap4 R).elim
  ·rw[<-Uj];refine kU _ _ _ (λj x rec st h6 bV _ aa hex _=>?_) (.cons (rec1:=rec1) (st1:=NZ) ?_ (.nil rfl))
   ·unfold pc;rw[ar (by omega)];exact⟨hex,trivial⟩
   ·unfold pc;rw[aq rfl];exact⟨rfl,rfl,rfl⟩
 |ok v bO dR =>
  rw[dK] at aK;obtain⟨A2,aK⟩:=NY aK a6;obtain⟨t3,hK,aAn,Ud,f1,f2,f3,f4⟩:=NU (kb:=c) aE a6 (l.drop (g+1)) (g+1) (hW dst t1 v) bO rec1 pb (λx J=>vX x (List.mem_of_mem_drop J)) (λk O=>az k (by omega)) aK;obtain⟨aqa,f1⟩:=NY f1 a6;have aAo:g+1+(l.drop (g+1)).length=D l:=by rw[List.length_drop];omega
  let bc:k6:=⟨f,args.map (aI (cA t1)),b3 aU,b3 bO,v,hc.map λp=>(p.1,c+p.2.1,p.2.2)⟩
  have Ul:∀eQ k z,bc.hc=some (eQ,k,z)->∃ft,hc=some (eQ,ft,z)/\k=c+ft:=λeQ k z h=>by
   obtain⟨⟨cx,cm,gE⟩,E,G⟩:=cJ.1 h;simp only[ec] at G;obtain⟨rfl,rfl,rfl⟩:=G;exact⟨cm,E,rfl⟩
  have adD:∀eQ ft z,hc=some (eQ,ft,z)->g<eQ/\b3 aU (c+ft)=none/\freeM (c+ft) (b3 aU)/\oj (c+ft) (args.map (aI (cA t1)))=true/\oj (c+ft) z=true/\b3 bO (c+ft)=none:=λeQ ft z h=>by
   subst h;simp only[ads,adt,dp] at Ht A2;obtain⟨⟨⟨⟨cz,ef⟩,js⟩,jG⟩,Ce⟩:=Ht;exact⟨by simpa [Nat.blt_eq] using cz,adw ef,ap2 js,jG,Ce,adw A2⟩
  have fz:Fb bc:=by
   refine⟨λeQ k z h=>?_,λeQ k z h=>?_,λeQ k z h=>?_,λeQ k z h=>?_,λeQ k z h=>?_⟩<;>obtain⟨ft,E,rfl⟩:=Ul _ _ _ h<;>obtain⟨cz,ef,js,jG,Ce,adE⟩:=adD _ _ _ E
   ·exact ef
   ·exact adE
   ·exact js
   ·exact jG
   ·exact Ce
  have vF:∀rec:Rec,(∀k,g<=k->rec k=none)->bc.made rec=none:=λrec jT=>by
   unfold k6.made
   split
   ·rfl
   ·rename_i eQ k z h;obtain⟨ft,E,rfl⟩:=Ul _ _ _ h;rw[jT eQ (by have:=(adD _ _ _ E).1;omega)]
  have adF:∀j y,k5 (fp ops.toList []) g j=true->(l.map (gi c))[j]?=some y->Jq bc j y:=λj y aa af=>by
   rw[bD,cJ] at af;obtain⟨N1,g8,rfl⟩:=af;rw[jP] at dD;have O:=dD (N1,j) (Uh g8);rw[rU] at aa;simp only[aa,fP,sO] at O
   have a6:(∀k z,N1.op ≠ .alloc k z)->∀eQ k z,bc.hc=some (eQ,k,z)->j≠eQ:=by
    rintro u3 eQ k z h rfl;obtain⟨ft,E,rfl⟩:=Ul _ _ _ h;obtain⟨x,J,_,lD⟩:=adA.1 ((gY _ _ _).2 E);rw[g8] at J
    cases J;exact u3 _ _ lD
   cases Cf:N1.op with
   |load jF bC x=>exact .load jF bC x (by simp only[gi,Cf,e2]) (a6 (by rw[Cf];intro _ _ h;cases h))
   |alloc k z =>
    have E:=(gY j k z).1 (adA.2 ⟨N1,g8,by rw[rU];exact aa,Cf⟩);exact .alloc (c+k) z (by simp only[bc,E,Option.map_some]) (by simp only[gi,Cf,e2])
   |_ =>
    rw[Cf] at O;exact .quiet (by simp only[gi,ada,Cf];exact B6 O) (a6 (by rw[Cf];intro _ _ h;cases h))
  have adG:∀j x (st:a3),(un j=true->∀n bC y,x.op=.load n bC y->gy st.tm x.g=some true->(n,bC,aI st.tm y)∈Ud)->wW bc un j x st.tm:=λj x st h hu jF bC y ev aC=>ap3 aqa (h hu jF bC y ev aC)
  refine Ug (aQ:=d) (K:=λst=>st=⟨cA t3,b3 hK⟩) (b6:=pc (m7 ol run) (lW hN) g (B8 bc) (wW bc un)) hm
   (adj N0 (by rw[kx]) (λi x tm tm' E G=>adl i x tm tm' E G) (λj x y rec st rec1 st1 jS aa _ af dP u2 he cr eG=>apY fz (by rw[<-rU];exact aa) (adF j y aa af) dP u2 he cr eG)
    (λj x y rec st jR st1 jS aa _ af dP u2 eG he cr=>apZ fz (by rw[<-rU];exact aa) (adF j y aa af) dP u2 eG he cr) (λx rec st bV h J => .inl ?_)) adh hlen Fe
   (adv (T6 dY) lY λx o rec st bV a w B J L eG R=>?_) (λst a w B et R=>?_) R ?_
  ·obtain⟨_,_,_,_,_,rfl⟩:=h;exact⟨_,rfl⟩
  ·rw[z7] at J
   cases J;exact⟨y6 R L.guard (by simp only[gi,Ui];rfl),ap0 fz dY dK rfl rfl L eG R⟩
  ·subst et;exact db .k3 t3 hK dR d a w B f1 R
  ·rw[<-Uj];refine kU _ _ _ (λj x rec st h6 bV _ aa hex a0=>?_) (.cons (rec1:=rec1) (st1:=⟨cA (hW dst t1 v),b3 bO⟩) ?_ ?_)
   ·unfold pc;rw[ar (by omega)];exact⟨hex,adG j x st λhu n bC y E G=>f3 _ (a0 hu n bC y E G)⟩
   ·unfold pc;rw[aq rfl];refine⟨rfl,args,Cd,Ui,rfl,?_,?_⟩
    ·rw[vF rec1 az];rfl
    ·rw[vF rec1 az,z3 aE (by rw[<-tz];exact vX Cc (dM wV))];simp only[gi,tz,oq,bc]
   ·have:=f4 (pc (m7 ol run) (lW hN) g (B8 bc) (wW bc un)) (λst=>st=⟨cA t3,b3 hK⟩) [] (λj x rec st h6 bV aa _ hex a0=>by
     unfold pc;rw[ar (by omega)];exact⟨hex,adG j x st a0⟩) (.nil rfl)
    rw[nZ] at this;exact this
def aqb {ol gl:List FuncId}{r:ca}{id:Nat}{a:Act}(dY:sb P run)(aE:n<=1000000)(hm:P.follows .mixedOrders=true)(Q:r=W.ap (Uf P ol gl n ops) run t m c d)(a6:r ≠ .no)(R:dq d n A b5 c4 a ⟨cA t,b3 m⟩ w B)
  (db:∀x t1 aU cH d1 cl aj aB,r=ca.ok x t1 aU cH d1->dq d1 n A b5 c4 cl ⟨cA t1,b3 aU⟩ aj aB->toQ A al x cl aj aB):(Code.region id ops true).wp P al a w:=by
 unfold Uf at Q
 split at Q
 ·exact absurd Q a6
 ·rename_i l aA
  cases ae:pB ops l with
  |false=>rw[ae] at Q;exact absurd Q a6
  |true =>
   rw[ae] at Q;have mo:r=W.ap (Ue ol gl l (fp ops.toList [])) run t m c d:=Q;unfold Ue at mo
   split at mo
   ·rw[nG] at mo;have vX:=adx aA;have lY:=adf (kb:=c) aA;have N0:=ady (kb:=c) ae;have kx:=T8 (kb:=c) l [] (fp ops.toList []);rw[cE] at kx
    have hlen:(l.map (gi c)).length=ops.size:=by
     rw[(mapM_get lY).1,Array.length_toList]
    obtain⟨t1,aU,rec1,pb,aK,az,ee,kU⟩:=NU (kb:=c) aE a6 l 0 t m (λ_=>none) [] vX (λ_ _=>rfl) mo
    refine Ug (aQ:=d) (K:=λst=>st=⟨cA t1,b3 aU⟩) (b6:=iC (m7 ol run) (lW (lf [] l (fp ops.toList [])))) hm (by rw[<-kx];exact XZ (QB N0) (Lz _)) X0 hlen
     (by unfold pB at ae;rw[dp] at ae;exact ae.1) (QG (T6 dY) lY) (λst a w B et R=>?_) R ?_
    ·subst et;exact db .k3 t1 aU _ d a w B aK R
    ·have:=kU (iC (m7 ol run) (lW (lf [] l (fp ops.toList [])))) (λst=>st=⟨cA t1,b3 aU⟩) [] (λ_ _ _ _ _ _ _ _ h _=>h) (.nil rfl);rw[nZ] at this;exact this
   ·rename_i g f args dst aC
    cases dD:(l.zipIdx.all λx => !k5 (fp ops.toList []) g x.2||Uc x.1.op) with
    |false=>rw[dD] at mo;exact absurd mo a6
    |true =>
     rw[dD] at mo;have th:(g,f,args,dst)∈Jt gl l:=by rw[aC];simp
     have a5:r=W.ap (match Js (fp ops.toList []) g l with
      | []=>Fc ol (k5 (fp ops.toList []) g) (l.zipIdx.all (λx => !k5 (fp ops.toList []) g x.2)&&gG (g+1) (D l)) none g f args dst l (lf [] l (fp ops.toList []))
      | [hc]=>Fc ol (k5 (fp ops.toList []) g) false (some hc) g f args dst l (lf [] l (fp ops.toList []))
      |_=>sg) run t m c d:=mo
     split at a5
     ·rename_i gY;refine adB dY aE hm aA ae th dD (λj k z=>by rw[gY];simp) (λh j aa=>?_) (λh=>?_) a5 a6 R db
      ·rw[dp,jP] at h;have:=h.1 (l[j],j) (Uh (bw aa))
       simpa using this
      ·rw[dp] at h;exact B6 h.2
     ·rename_i hc gY;refine adB dY aE hm aA ae th dD (λj k z=>by rw[gY];simp[eq_comm]) (λh=>by cases h) (λh=>by cases h) a5 a6 R db
     ·exact absurd a5 a6
   ·exact absurd mo a6
end Go.Mini
namespace Go.Mini
open Go
def adH (b:W sf)(run:iX)(r:ca):ca:=ca.rec ca.no (λx t m c d=>X.rec (W.ap b run t m c d) (λi => .ok (.oi i) t m c d) (.ok .ret t m c d) (λv => .ok (.gH v) t m c d) x) r
def adI (i:Nat)(r:ca):ca:=ca.rec ca.no (λx t m c d=>X.rec (.ok .k3 t m c d) (λj=>fL (.ok (.oi j) t m c d) (.ok .k3 t m c d) (gG j i)) (.ok .ret t m c d) (λv => .ok (.gH v) t m c d) x) r
def N2 (b:W sf)(run:iX)(fuel:Nat):eW->eB->Nat->Option I->ca :=
 Nat.rec (motive:=λ_=>eW->eB->Nat->Option I->ca) (λ_ _ _ _=>ca.no) (λ_ uZ t m c d=>ca.rec ca.no (λx t m c d=>X.rec (uZ t m c d) (λi => .ok (.oi i) t m c d) (.ok .ret t m c d) (λv => .ok (.gH v) t m c d) x) (W.ap b run t m c d)) fuel
def Um:Nat:=1000000
def N3 (b:W sf):W sf:=.mk λrun t m c d=>N2 b run Um t m c d
def aqc (b:W sf):W.ap (N3 b)=λrun t m c d=>N2 b run Um t m c d:=by
 unfold N3;rw[nG]
def Un (y:bg)(a b:W sf):W sf:=.mk λrun t m c d=>match W.ap (iY y) t with
 |.M (.bool q)=>fL (W.ap b run t m c d) (W.ap a run t m c d) q
 |_=>ca.no
def m8 (P:Program)(ol gl:List FuncId)(n:Nat)(c:Code):W sf :=
 Code.rec (motive:=λ_=>W sf)
  (.mk λ_ t m c d => .ok .k3 t m c d)
  (λ_ ops draw=>fL (.mk λrun t m c d=>W.ap (E4 P n ops ops.toList) run c t m (c+1000) d λt m c d => .ok .k3 t m c d) (Uf P ol gl n ops) draw)
  (λ_ _ Uo Cg => .mk λrun t m c d=>adH Cg run (W.ap Uo run t m c d))
  (λx _ _ Uo Cg=>match cu x with
   |none=>sg
   |some y=>Un y Uo Cg)
  (λi _ Cg => .mk λrun t m c d=>adI i (W.ap Cg run t m c d))
  (λ_ Cg=>N3 Cg)
  (λ_ _ _ _ _ _=>sg)
  (λi => .mk λ_ t m c d => .ok (.oi i) t m c d)
  (λ_ _=>sg)
  (λ_=>sg)
  (λ_=>sg)
  (.mk λ_ t m c d => .ok .ret t m c d)
  (λ_=>sg) c
variable {P:Program} {A:Nat->Prop} {b5 w:World} {c4 B:cB} {n:Nat} {run:iX} {ol gl:List FuncId}
def adJ (dY:sb P run)(aE:n<=1000000)(hm:P.follows .mixedOrders=true):∀(co:Code) (t:eW) (m:eB) (c:Nat) (d:Option I) (a:Act) (w:World) (B:cB) (r:ca) (al:Exit->Act->World->Prop),r=W.ap (m8 P ol gl n co) run t m c d->r ≠ .no ->
  dq d n A b5 c4 a ⟨cA t,b3 m⟩ w B->(∀x t1 aU cH d1 cl aj aB,r=ca.ok x t1 aU cH d1->dq d1 n A b5 c4 cl ⟨cA t1,b3 aU⟩ aj aB->toQ A al x cl aj aB)->co.wp P al a w:=by
 intro co
 induction co with
 |skip=>exact λt m c d a w B r al Q a6 R db=>Go.wp_skip (db .k3 t m c d a w B Q R)
 |exit i=>exact λt m c d a w B r al Q a6 R db=>Go.wp_exit (db (.oi i) t m c d a w B Q R)
 |ret=>exact λt m c d a w B r al Q a6 R db=>Go.wp_ret (db .ret t m c d a w B Q R)
 |region id ops draw =>
  intro t m c d a w B r al Q a6 R db
  cases draw with
  |true=>exact aqb dY aE hm Q a6 R db
  |false =>
   have c2:r=W.ap (E4 P n ops ops.toList) run c t m (c+1000) d λt m c d => .ok .k3 t m c d:=Q;refine Go.wp_region ?_;have:=T0 (P:=P) (ops:=ops) (al:=al) ops.toList 0 a w rfl (TZ dY aE a6 (λt1 aU cH d1 cl aj aB E G=>db .k3 t1 aU cH d1 cl aj aB E G) (λx=>db (.gH x)) ops.toList t m (c+1000) d a w B c2 R);rw[Array.length_toList] at this;rw[adK];exact this
 |seq x y ihx ihy =>
  intro t m c d a w B r al Q a6 R db;have c2:r=adH (m8 P ol gl n y) run (W.ap (m8 P ol gl n x) run t m c d):=Q
  cases J:W.ap (m8 P ol gl n x) run t m c d with
  |no=>rw[J] at c2;exact absurd c2 a6
  |ok ex t1 aU cH d1 =>
   rw[J] at c2;refine Go.wp_seq (ihx t m c d a w B _ _ J.symm (by simp) R λeJ t2 bO dR d2 cl aj aB E dE=>?_)
   cases E
   cases ex with
   |k3=>exact ihy t1 aU cH d1 cl aj aB r al c2 a6 dE db
   |oi i=>exact db (.oi i) t1 aU cH d1 cl aj aB c2 dE
   |ret=>exact db .ret t1 aU cH d1 cl aj aB c2 dE
   |gH v=>exact db (.gH v) t1 aU cH d1 cl aj aB c2 dE
 |cond x y z ihy ihz =>
  intro t m c d a w B r al Q a6 R db
  have c2:r=W.ap (match cu x with
   |none=>sg
   |some o=>Un o (m8 P ol gl n y) (m8 P ol gl n z)) run t m c d:=Q
  split at c2
  ·exact absurd c2 a6
  ·rename_i o a0;have ai:=R.jy x o a0;unfold Un at c2;rw[nG,nH] at c2
   split at c2
   ·rename_i q aL;simp only[aL] at ai;refine Go.wp_cond ai.yY ?_
    cases q with
    |true=>exact ihy t m c d a w B r al c2 a6 R db
    |false=>exact ihz t m c d a w B r al c2 a6 R db
   ·exact absurd c2 a6
 |block id x aD =>
  intro t m c d a w B r al Q a6 R db;have c2:r=adI id (W.ap (m8 P ol gl n x) run t m c d):=Q
  cases J:W.ap (m8 P ol gl n x) run t m c d with
  |no=>rw[J] at c2;exact absurd c2 a6
  |ok ex t1 aU cH d1 =>
   rw[J] at c2;refine Go.wp_block (aD t m c d a w B _ _ J.symm (by simp) R λeJ t2 bO dR d2 cl aj aB E dE=>?_)
   cases E
   cases ex with
   |k3=>exact db .k3 t1 aU cH d1 cl aj aB c2 dE
   |oi j =>
    have a5:r=fL (.ok (.oi j) t1 aU cH d1) (.ok .k3 t1 aU cH d1) (gG j id):=c2;simp only[toQ,Exit.inBlock]
    cases U:gG j id with
    |true =>
     rw[U] at a5;rw[aq (B6 U)];exact db .k3 t1 aU cH d1 cl aj aB a5 dE
    |false =>
     rw[U] at a5;rw[ar (NP U)];exact db (.oi j) t1 aU cH d1 cl aj aB a5 dE
   |ret=>exact db .ret t1 aU cH d1 cl aj aB c2 dE
   |gH v=>exact db (.gH v) t1 aU cH d1 cl aj aB c2 dE
 |loop x aD =>
  intro t m c d a w B r al Q a6 R db
  have key:∀(fuel:Nat) (t:eW) (m:eB) (c:Nat) (d:Option I) (a:Act) (w:World) (B:cB),r=N2 (m8 P ol gl n x) run fuel t m c d->dq d n A b5 c4 a ⟨cA t,b3 m⟩ w B->Code.rounds P x al fuel a w:=by
   intro fuel
   induction fuel with
   |zero=>intro t m c d a w B Q _;exact absurd Q a6
   |succ fuel ihf =>
    intro t m c d a w B Q R;have c2:r=ca.rec ca.no (λeJ t m c d=>X.rec (N2 (m8 P ol gl n x) run fuel t m c d) (λi => .ok (.oi i) t m c d) (.ok .ret t m c d) (λv => .ok (.gH v) t m c d) eJ) (W.ap (m8 P ol gl n x) run t m c d):=Q
    cases J:W.ap (m8 P ol gl n x) run t m c d with
    |no=>rw[J] at c2;exact absurd c2 a6
    |ok ex t1 aU cH d1 =>
     rw[J] at c2;refine aD t m c d a w B _ _ J.symm (by simp) R λeJ t2 bO dR d2 cl aj aB E dE=>?_
     cases E
     cases ex with
     |k3=>exact ihf t1 aU cH d1 cl aj aB c2 dE
     |oi i=>exact db (.oi i) t1 aU cH d1 cl aj aB c2 dE
     |ret=>exact db .ret t1 aU cH d1 cl aj aB c2 dE
     |gH v=>exact db (.gH v) t1 aU cH d1 cl aj aB c2 dE
  have c2:r=W.ap (N3 (m8 P ol gl n x)) run t m c d:=Q;rw[aqc] at c2;simp only at c2;generalize Um=fu at c2;exact wp_loop_rounds fu (key fu t m c d a w B c2 R)
 |rangeFunc=>exact λt m c d a w B r al Q a6 R db=>absurd Q a6
 |scope=>exact λt m c d a w B r al Q a6 R db=>absurd Q a6
 |label=>exact λt m c d a w B r al Q a6 R db=>absurd Q a6
 |goto=>exact λt m c d a w B r al Q a6 R db=>absurd Q a6
 |refuse=>exact λt m c d a w B r al Q a6 R db=>absurd Q a6
def sh (args:List I):Nat->eW->eW:=List.rec (motive:=λ_=>Nat->eW->eW) (λ_ t=>t) (λa _ uZ i t=>uZ (i+1) (wT i a t)) args
def adL:∀(args:List I) (i:Nat) (t:eW) (s:Nat),i+D args<=1000000->cA (sh args i t) s=if i<=s then (match args[s-i]? with|some m=>m|none=>cA t s) else cA t s
 | [],i,t,s,_=>by simp[sh]
 |a::l,i,t,s,h=>by
  have bS:cA (sh l (i+1) (wT i a t)) s=_:=adL l (i+1) (wT i a t) s (by simp at h;omega);show cA (sh l (i+1) (wT i a t)) s=_;rw[bS,TU (by simp at h;omega)]
  by_cases E:i=s
  ·subst E;rw[ar (by omega),aq (bI _)];simp[er]
  ·by_cases G:i<=s
   ·rw[aq (by omega),aq G];have:s-i=s-(i+1)+1:=by omega
    rw[this,List.getElem?_cons_succ]
    cases l[s-(i+1)]? with
    |none=>simp[er,Ne.symm E]
    |some m=>rfl
   ·rw[ar (by omega),ar G];simp[er,Ne.symm E]
def adM {args:List I}(h:(D args)<=1000000):cA (sh args 0 .e)=jK args:=by
 funext s
 rw[adL _ _ _ _ (by simpa using h),aq (ej _),Nat.sub_zero];unfold jK
 split<;>rename_i E<;>simp[E]
 rfl
def adN {fn:Func}{args:List I}{vs:List Value}{mem:Mem}(a4:dj A w B mem)(ai:ck w (bb A B) B args vs)(ad:(D args)<=fn.ntmps):
  dq none fn.ntmps A w B { tmps:=vs.toArray++Array.replicate (fn.ntmps-vs.toArray.size) undef,defers:=[] } ⟨jK args,mem⟩ w B:=by
 have dz:(D vs)=D args:=ai.1;refine⟨.refl a4,λs=>?_,?_,rfl⟩
 ·simp only[jK,Act.eval,Array.getD_eq_getD_getElem?];rcases fF s (D vs) with av|bM
  ·have E:args[s]?=some args[s]:=bw (by omega)
   have G:(vs.toArray++Array.replicate (fn.ntmps-vs.toArray.size) undef)[s]?=some vs[s]:=by
    rw[Array.getElem?_append_left (by simpa using av)];simp[av]
   rw[E,G];exact ai.2 s _ _ E (bw av)
  ·rw[mI (by omega),Array.getElem?_append_right (by simpa using bM)]
   have:((Array.replicate (fn.ntmps-vs.toArray.size) undef)[s-vs.toArray.size]?).getD undef=undef:=by
    cases aL:(Array.replicate (fn.ntmps-vs.toArray.size) undef)[s-vs.toArray.size]? with
    |none=>rfl
    |some u =>
     have:=Array.mem_of_getElem? aL;simp at this;simp[this.2]
   rw[this];exact .no
 ·simp;omega
inductive iZ where
 |no
 |ok (m:eB) (c:Nat)
abbrev adO:=iX->List I->eB->Nat->Option I->iZ
def Ju:W adO:=.mk λ_ _ _ _ _=>iZ.no
def isRec (o:Oper):Option Nat:=match o.op,o.dst,o.guard with
 |.call { callee:=.builtin .recover,.. },some s,none=>some s
 |_,_,_=>none
def Up (rs:List jI)(r:ca):iZ:=ca.rec iZ.no (λx t m c d=>kj (X.rec (kj iZ.no (λ_=>iZ.ok m c) (jd ⟨cA t,b3 m⟩ rs)) (λ_=>iZ.no) (kj iZ.no (λ_=>iZ.ok m c) (jd ⟨cA t,b3 m⟩ rs)) (λ_=>iZ.no) x) (λ_=>iZ.no) d) r
def Ff (P:Program)(ol gl:List FuncId)(g:FuncId):W adO:=match P.funcs[g]? with
 |none=>Ju
 |some fn=>match fn.body,fn.results.toList.mapM (vA P) with
  |some (.seq (.region _ ops false) rest),some rs=>match ops.toList with
   | []=>Ju
   |o::os=>match isRec o with
    |none=>Ju
    |some s=>fL Ju (.mk λrun cU m c p=>fL iZ.no (Up rs (W.ap (E4 P fn.ntmps ops os) run c (wT s (kj (.M .mE) (λv=>v) p) (sh cU 0 .e)) m (c+1000) none λt m c d=>W.ap (m8 P ol gl fn.ntmps rest) run t m c d)) (qU (D cU) fn.ntmps))
     (z4 s fn.ntmps&&qU fn.ntmps 1000000)
  |_,_=>Ju
def Jv:Option Value->FrameMode
 |none => .returning
 |some u => .panicking [{ v:=u,recovered:=false }]
def qV:Option Value->FrameMode
 |none => .returning
 |some u => .panicking [{ v:=u,recovered:=true }]
def adP (w:World)(ax:Nat->Prop)(B:cB):Option I->Option Value->Prop
 |none,none=>True
 |some m,some u=>aN w ax B m u
 |_,_=>False
def aqd {rs:List jI}{r:ca}{m':eB}{c':Nat}(h:Up rs r=.ok m' c'):∃x t,r=.ok x t m' c' none/\(x=.k3\/x=.ret)/\∃v,jd ⟨cA t,b3 m'⟩ rs=some v:=by
 cases r with
 |no=>cases h
 |ok x t m c d =>
  cases d with
  |some _=>cases h
  |none =>
   have bS:(X.rec (kj iZ.no (λ_=>iZ.ok m c) (jd ⟨cA t,b3 m⟩ rs)) (λ_=>iZ.no) (kj iZ.no (λ_=>iZ.ok m c) (jd ⟨cA t,b3 m⟩ rs)) (λ_=>iZ.no) x:iZ)=.ok m' c':=h
   cases x with
   |oi i=>cases bS
   |gH v=>cases bS
   |k3 =>
    have G:(kj iZ.no (λ_=>iZ.ok m c) (jd ⟨cA t,b3 m⟩ rs):iZ)=.ok m' c':=bS
    cases Q:jd ⟨cA t,b3 m⟩ rs with
    |none=>rw[Q] at G;cases G
    |some v=>rw[Q] at G;cases G;exact⟨.k3,t,rfl,.inl rfl,v,Q⟩
   |ret =>
    have G:(kj iZ.no (λ_=>iZ.ok m c) (jd ⟨cA t,b3 m⟩ rs):iZ)=.ok m' c':=bS
    cases Q:jd ⟨cA t,b3 m⟩ rs with
    |none=>rw[Q] at G;cases G
    |some v=>rw[Q] at G;cases G;exact⟨.ret,t,rfl,.inr rfl,v,Q⟩
def aqe {o:Oper}{s:Nat}(h:isRec o=some s)(a:Act):o.dst=some s/\o.guard=none/\(execOp a.eval o).run P w=.ok .recover w:=by
 unfold isRec at h
 split at h
 ·rename_i args y8 d E G ab
  cases h;refine⟨G,ab,?_⟩;simp only[execOp,E,resolve,invoke,builtin,Sem.run_bind,Sem.run_pure,Result.andThen_ok]
 ·cases h
def aqf (dY:sb P run)(hm:P.follows .mixedOrders=true){g:FuncId}{cU:List I}{m m':eB}{c c':Nat}{p:Option I}{u:Option Value}{vs:List Value}(h:W.ap (Ff P ol gl g) run cU m c p=.ok m' c')(a4:dj A w B (b3 m))
  (ai:ck w (bb A B) B cU vs) (aF:adP w (bb A B) B p u):CallsD P g vs.toArray (Jv u) w λe x3 aj=>∃v,e=.returned v/\x3=qV u/\∃aB,cT A w B aj aB (b3 m'):=by
 unfold Ff at h
 split at h
 ·cases h
 ·rename_i fn ag
  split at h
  ·rename_i id ops rest rs U lX
   split at h
   ·cases h
   ·rename_i o os Cd
    split at h
    ·cases h
    ·rename_i s R
     cases xz:(z4 s fn.ntmps&&qU fn.ntmps 1000000) with
     |false=>rw[xz] at h;cases h
     |true =>
     rw[xz] at h;rw[dp] at xz;have qW:s<fn.ntmps:=by simpa [Nat.blt_eq] using xz.1
     have aE:fn.ntmps<=1000000:=p4 xz.2;have E:(fL iZ.no (Up rs (W.ap (E4 P fn.ntmps ops os) run c (wT s (kj (.M .mE) (λv=>v) p) (sh cU 0 .e)) m (c+1000) none λt m c d=>W.ap (m8 P ol gl fn.ntmps rest) run t m c d)) (qU (D cU) fn.ntmps):iZ)=.ok m' c':=h
     cases hle:qU (D cU) fn.ntmps with
     |false=>rw[hle] at E;cases E
     |true =>
     rw[hle] at E;have dN:(D cU)<=fn.ntmps:=p4 hle;obtain⟨x,kl,Q,J,v,ll⟩:=aqd E;refine callsD_of_wpS ag U λc₀ cs hu=>?_;have nA:=adN (fn:=fn) a4 ai dN;obtain⟨tz,tY,hex⟩:=aqe (P:=P) (w:=w) R { tmps:=vs.toArray++Array.replicate (fn.ntmps-vs.toArray.size) undef,defers:=[] }
     have a0:ops[0]?=some o:=by
      have:ops.toList[0]?=some o:=by rw[Cd];rfl
      simpa using this
     -- behind xv recovery
     have after:∀(wX:Value) (pm:I),aN w (bb A B) B pm wX->pm=(kj (.M .mE) (λv=>v) p:I)->wpOpsS P ops (Exit.thenS (rest.wpS P (bodyPostS P fn c₀ cs λe x3 aj=>∃v,e=.returned v/\x3=qV u/\∃aB,cT A w B aj aB (b3 m'))) (bodyPostS P fn c₀ cs λe x3 aj=>∃v,e=.returned v/\x3=qV u/\∃aB,cT A w B aj aB (b3 m'))) (Jh 1 (D os)) (Act.put { tmps:=vs.toArray++Array.replicate (fn.ntmps-vs.toArray.size) undef,defers:=[] } (some s) wX) ({ c₀ with mode:=qV u }::cs) w:=by
      intro wX pm lk N4;have e1:=nA.put (dst:=some s) (cT.refl a4) lk (by simpa using qW);rw[<-adM (by omega)] at e1;have aqg:put (cA (sh cU 0 .e)) (some s) pm=cA (wT s pm (sh cU 0 .e)):=(TU (by omega) _ _).symm;rw[aqg,N4] at e1
      have ey:∀e t1 aU cH d1 cl aj aB,ca.ok x kl m' c' none=ca.ok e t1 aU cH d1->dq d1 fn.ntmps A w B cl ⟨cA t1,b3 aU⟩ aj aB->toQ A (λe a aj=>bodyPostS P fn c₀ cs (λe x3 aj=>∃v,e=.returned v/\x3=qV u/\∃aB,cT A w B aj aB (b3 m')) e a ({ c₀ with mode:=qV u }::cs) aj) e cl aj aB:=by
       intro e t1 aU cH d1 cl aj aB he dE
       cases he;obtain⟨oI,j8,_⟩:=LJ dE lX ll;rcases J with rfl|rfl
       ·exact⟨dE.vM,qV u,rfl,oI,j8,oI,rfl,rfl,aB,dE.ok⟩
       ·exact⟨dE.vM,qV u,rfl,oI,j8,oI,rfl,rfl,aB,dE.ok⟩
      refine T1 os 1 _ w (by rw[Cd];rfl) ?_;refine TZ dY aE (r:=ca.ok x kl m' c' none) (by simp) (λt1 aU cH d1 cl aj aB E G=>?_) (λe t1 aU cH d1 cl aj aB E G=>?_) os _ m (c+1000) none _ w B Q.symm e1
      ·exact wpS_of_wp (adJ dY aE hm rest t1 aU cH d1 cl aj aB _ _ E (by simp) G ey)
      ·cases E;rcases J with J|J<;>cases J
     refine wpS_seq (wpS_region ?_)
     have aqh:jf ops.size=0::Jh 1 (D os):=by
      have:ops.size=D os+1:=by
       have:=congrArg D Cd
       simpa using this
      rw[this,adK,List.range'_succ]
     rw[aqh];simp only[wpOpsS,a0]
     have hw:Region.wanted o (yielded ops (vs.toArray++Array.replicate (fn.ntmps-vs.toArray.size) undef))=true:=by
      unfold Region.wanted;rw[tY]
     rw[aq hw,hex];simp only
     cases p with
     |none =>
      cases u with
      |some _=>exact aF.elim
      |none =>
       have jT:recoverD (c₀::cs)=none:=by
        simp only[recoverD,hu,Jv,qV]
       rw[jT];simp only;have G:=after .nilIface (.M .mE) (.M .mE) rfl
       have rO:({ c₀ with mode:=qV none }:Frame)=c₀:=by
        have:qV none=c₀.mode:=hu.symm;rw[this]
       rw[rO] at G;rw[tz];exact G
     |some pm =>
      cases u with
      |none=>exact aF.elim
      |some wX =>
       have jT:recoverD (c₀::cs)=some (wX,{ c₀ with mode:=qV (some wX) }::cs):=by
        simp only[recoverD,hu,Jv,qV]
       rw[jT];simp only;rw[tz];exact after wX pm aF rfl
  ·cases h
end Go.Mini
namespace Go.Mini
open Go
abbrev Uq:=iX->List I->eB->Nat->iG
def Ur:W Uq:=.mk λ_ _ _ _=>iG.no
def Ch (rs:List jI)(t:eW)(m:eB)(c:Nat):iG:=kj iG.no (λv=>iG.ok v m c) (jd ⟨cA t,b3 m⟩ rs)
def N5 (P:Program)(ol gl:List FuncId)(rs:List jI)(run:iX)(t:eW)(m:eB)(c:Nat)(d:I)(p:Option I):iG:=match d with
 |.dB g cU=>iZ.rec iG.no (λm c=>Ch rs t m c) (W.ap (Ff P ol gl g) run cU m c p)
 |_=>iG.no
def Us (P:Program)(ol gl:List FuncId)(rs:List jI)(run:iX)(r:ca):iG:=ca.rec iG.no (λx t m c d=>kj
 (X.rec (Ch rs t m c) (λ_=>iG.no) (Ch rs t m c) (λv=>iG.gH v m c) x)
 (λd=>X.rec (N5 P ol gl rs run t m c d none) (λ_=>iG.no) (N5 P ol gl rs run t m c d none) (λv=>N5 P ol gl rs run t m c d (some v)) x) d) r
abbrev Ci:=FuncId->Option (List Data->Option c8)
def Ut (bK:List Data->Option c8):W Uq:=.mk λ_ args m c=>match aW bK args (b3 m) with
 |some (.same r)=>iG.ok (.M r) m c
 |some (.own _ es)=>iG.ok (.M (.ay es)) m c
 |_=>iG.no
def N6 (P:Program)(ol gl:List FuncId)(fI:Ci)(f:FuncId):W Uq:=kj (match P.funcs[f]? with
 |none=>Ur
 |some fn=>match fn.body,fn.results.toList.mapM (vA P) with
  |some co,some rs=>fL Ur (.mk λrun args m c=>fL iG.no (Us P ol gl rs run (W.ap (m8 P ol gl fn.ntmps co) run (sh args 0 .e) m c none)) (qU (D args) fn.ntmps)) (qU fn.ntmps 1000000)
  |_,_=>Ur) (λbK=>Ut bK) (fI f)
def Jw (P:Program)(ol gl:List FuncId)(fI:Ci)(k:Nat):iX :=
 Nat.rec (motive:=λ_=>iX) (λ_ _ _ _ => .no) (λ_ aD f args m c=>W.ap (N6 P ol gl fI f) aD args m c) k
variable {P:Program} {A:Nat->Prop} {w w1:World} {B hG:cB} {run:iX} {ol gl:List FuncId}
def Fg (P : Program): Prop := ∀ (f : FuncId) (fn : Func), P.funcs[f]? = some fn -> (fn.name == "runtime.NumGoroutine") = false
def Uu (P:Program)(f:FuncId)(args:List I)(m:eB):iG->Prop
 |.no=>True
 |.ok v m' _=>Real P f/\∀A w B vs,dj A w B (b3 m)->ck w (bb A B) B args vs->Calls P f vs.toArray w λe aj=>∃u aB,e=.returned u/\cT A w B aj aB (b3 m')/\aN aj (bb A aB) aB v u
 |.gH v m' _=>Real P f/\∀A w B vs,dj A w B (b3 m)->ck w (bb A B) B args vs->Calls P f vs.toArray w λe aj=>∃u aB,e=.panicked [{ v:=u,recovered:=false }]/\cT A w B aj aB (b3 m')/\aN aj (bb A aB) aB v u
def Uv (A:Nat->Prop)(w:World)(B:cB):iG->Ending->World->Prop
 |.no,_,_=>False
 |.ok v m' _,e,aj=>∃u aB,e=.returned u/\cT A w B aj aB (b3 m')/\aN aj (bb A aB) aB v u
 |.gH v m' _,e,aj=>∃u aB,e=.panicked [{ v:=u,recovered:=false }]/\cT A w B aj aB (b3 m')/\aN aj (bb A aB) aB v u
def Uw {fn:Func}{rs:List jI}{aQ:Option I}{a:Act}{t:eW}{m:eB}{c:Nat}{r:iG}(lX:fn.results.toList.mapM (vA P)=some rs)(Q:r=Ch rs t m c)(a6:r ≠ .no)(R:dq aQ fn.ntmps A w B a ⟨cA t,b3 m⟩ w1 hG):
  ∃v,(results fn a.tmps).run P w1=.ok v w1/\Uv A w B r (.returned v) w1:=by
 unfold Ch at Q
 cases ai:jd ⟨cA t,b3 m⟩ rs with
 |none=>rw[ai] at Q;exact absurd Q a6
 |some v =>
  rw[ai] at Q;obtain⟨u,E,G⟩:=LJ R lX ai;have c2:r=.ok v m c:=Q;subst c2;exact⟨u,E,u,hG,rfl,R.ok,G⟩
def Ux (qX:Fg P){f:FuncId}{fn:Func}{co:Code}(ag:P.funcs[f]?=some fn)(U:fn.body=some co):Real P f:=⟨fn,co,ag,U,qX f fn ag⟩
def Uy (dY:sb P run)(hm:P.follows .mixedOrders=true)(qX:Fg P){fn:Func}{rs:List jI}{a:Act}{t:eW}{m:eB}{c:Nat}{d:I}{p:Option I}{u:Option Value}{r:iG}(lX:fn.results.toList.mapM (vA P)=some rs)
  (Q:r=N5 P ol gl rs run t m c d p) (a6:r ≠ .no) (R:dq (some d) fn.ntmps A w B a ⟨cA t,b3 m⟩ w1 hG) (aF:adP w1 (bb A hG) hG p u):Leaves P fn a.tmps (Uv A w B r) a.defers (Jv u) w1:=by
 obtain⟨g,cU,vs,rfl,e3,ai⟩:=R.vM;have c2:r=iZ.rec iG.no (λm c=>Ch rs t m c) (W.ap (Ff P ol gl g) run cU m c p):=Q
 cases ae:W.ap (Ff P ol gl g) run cU m c p with
 |no=>rw[ae] at c2;exact absurd c2 a6
 |ok m' c' =>
  rw[ae] at c2;have a5:r=Ch rs t m' c':=c2;obtain⟨cs,hu,dN⟩:=G0 ai (.inl rfl);simp only[Value.func.injEq,true_and] at hu;have Uz:=aqf (w:=w1) (u:=u) (vs:=cs) dY hm ae R.ok.b4 dN aF
  have fO:Real P g:=by
   unfold Ff at ae
   split at ae
   ·cases ae
   ·rename_i aAp ag
    split at ae
    ·rename_i id ops rest aAq U aAr;exact Ux qX ag U
    ·cases ae
  rw[e3,hu];refine leaves_cons (f:=g) (args:=cs.toArray) ?_ ?_ ?_
  ·cases u<;>simp[Jv]
  ·simp only[invoke];have:(#[]++cs.toArray:Array Value)=cs.toArray:=by simp
   rw[this];exact AQ fO cs.toArray
  ·refine Uz.mono λe x3 aj he=>?_;obtain⟨v,rfl,rfl,aB,c6⟩:=he;simp only;have dE:=R.put (dst:=none) (r:=.no) (v:=undef) c6 .no rfl;obtain⟨oI,E,G⟩:=Uw (w:=w) (B:=B) lX a5 a6 dE;have GS:settle (qV u)=.returning:=by cases u<;>rfl
   rw[GS];exact⟨oI,E,G⟩
def aqi {bK:List Data->Option c8}{f:FuncId}(e0:h7 P f bK)(args:List I)(m:eB)(c:Nat):Uu P f args m (W.ap (Ut bK) run args m c):=by
 have cn:mS P (uu λg=>if g=f then some bK else none):=QM λg aAs h=>by
  split at h
  ·rename_i aC
   cases h;exact aC ▸ e0
  ·cases h
 unfold Ut;rw[nG]
 split
 ·rename_i r he;obtain⟨fO,R⟩:=cn f args (b3 m) (.same r) (by simp only[uu,if_true];exact he);refine⟨fO,λA w B vs a4 ai=>(R A w B vs a4 ai).mono λe aj h=>?_⟩;obtain⟨v,rfl,c7,ae⟩:=h;exact⟨v,B,rfl,.still a4 c7,.M ae⟩
 ·rename_i sz es he;obtain⟨fO,R⟩:=cn f args (b3 m) (.own sz es) (by simp only[uu,if_true];exact he);refine⟨fO,λA w B vs a4 ai=>(R A w B vs a4 ai).mono λe aj h=>?_⟩;obtain⟨v,rfl,c7,ae⟩:=h;exact⟨v,B,rfl,.still a4 c7,.M (ae.den λb U=>U.elim (λbS=>a4.ra bS) (a4.lt b))⟩
 ·trivial
def aqj {fI:Ci}(Fh:∀f bK,fI f=some bK->h7 P f bK)(dY:sb P run)(hm:P.follows .mixedOrders=true)(qX:Fg P)(f:FuncId)(args:List I)(m:eB)(c:Nat):Uu P f args m (W.ap (N6 P ol gl fI f) run args m c):=by
 generalize Q:W.ap (N6 P ol gl fI f) run args m c=r
 by_cases a6:r=.no
 ·subst a6;trivial
 unfold N6 at Q
 cases aF:fI f with
 |some bK =>
  rw[aF] at Q;rw[<-Q];exact aqi (Fh f bK aF) args m c
 |none =>
 rw[aF] at Q;simp only at Q
 split at Q
 ·exact absurd Q.symm a6
 ·rename_i fn ag
  split at Q
  ·rename_i co rs U lX
   cases aE:qU fn.ntmps 1000000 with
   |false=>rw[aE] at Q;exact absurd Q.symm a6
   |true =>
   rw[aE] at Q;have mo:(fL iG.no (Us P ol gl rs run (W.ap (m8 P ol gl fn.ntmps co) run (sh args 0 .e) m c none)) (qU (D args) fn.ntmps):iG)=r:=Q
   cases ad:qU (D args) fn.ntmps with
   |false=>rw[ad] at mo;exact absurd mo.symm a6
   |true =>
   rw[ad] at mo;have GD:fn.ntmps<=1000000:=p4 aE;have sI:(D args)<=fn.ntmps:=p4 ad;have a5:r=Us P ol gl rs run (W.ap (m8 P ol gl fn.ntmps co) run (sh args 0 .e) m c none):=mo.symm
   have main:∀A w B vs,dj A w B (b3 m)->ck w (bb A B) B args vs->Calls P f vs.toArray w (Uv A w B r):=λA w B vs a4 ai=>by
    have nA:=adN (fn:=fn) a4 ai sI;rw[<-adM (by omega)] at nA
    cases Z:W.ap (m8 P ol gl fn.ntmps co) run (sh args 0 .e) m c none with
    |no=>rw[Z] at a5;exact absurd a5 a6
    |ok x t1 aU cH d1 =>
     rw[Z] at a5;refine calls_of_wp_defers ag U (adJ dY GD hm co _ m c none _ w B _ _ Z.symm (by simp) nA λeJ t2 bO dR d2 cl aj aB E dE=>?_)
     cases E
     cases d1 with
     |none =>
      have UA:cl.defers=[]:=dE.vM
      cases x with
      |oi i=>exact absurd a5 a6
      |k3 =>
       obtain⟨v,E,G⟩:=Uw (w:=w) (B:=B) lX a5 a6 dE;show Leaves P fn cl.tmps _ cl.defers .returning aj;rw[UA];exact⟨v,E,G⟩
      |ret =>
       obtain⟨v,E,G⟩:=Uw (w:=w) (B:=B) lX a5 a6 dE;show Leaves P fn cl.tmps _ cl.defers .returning aj;rw[UA];exact⟨v,E,G⟩
      |gH v =>
       intro u hu;show Leaves P fn cl.tmps _ cl.defers (.panicking [{ v:=u,recovered:=false }]) aj;rw[UA];have El:r=.gH v aU cH:=a5;subst El;exact⟨u,aB,rfl,dE.ok,hu⟩
     |some d =>
      cases x with
      |oi i=>exact absurd a5 a6
      |k3=>exact Uy (u:=none) dY hm qX lX a5 a6 dE trivial
      |ret=>exact Uy (u:=none) dY hm qX lX a5 a6 dE trivial
      |gH v =>
       intro u hu;exact Uy (u:=some u) dY hm qX lX a5 a6 dE hu
   cases r with
   |no=>trivial
   |ok v m' c'=>exact⟨Ux qX ag U,main⟩
   |gH v m' c'=>exact⟨Ux qX ag U,main⟩
  ·exact absurd Q.symm a6
def adQ {fI:Ci}(Fh:∀f bK,fI f=some bK->h7 P f bK)(hm:P.follows .mixedOrders=true)(qX:Fg P):∀k,sb P (Jw P ol gl fI k)
 |0=>λf args m c=>trivial
 |k+1=>λf args m c=>by
  have h:Uu P f args m (Jw P ol gl fI (k+1) f args m c):=aqj Fh (adQ Fh hm qX k) hm qX f args m c;generalize Jw P ol gl fI (k+1) f args m c=r at h ⊢
  cases r<;>exact h
def Cj (P:Program)(ol gl:List FuncId)(fI:Ci)(k:Nat)(f:FuncId)(args:List I):Option Data:=iG.rec none (λv m _=>cC 6 (b3 m) v) (λ_ _ _=>none) (Jw P ol gl fI k f args .e 0)
def aqk {fI:Ci}(Fh:∀f bK,fI f=some bK->h7 P f bK){f:FuncId}{k:Nat}(hm:P.follows .mixedOrders=true)(qX:Fg P){bK:List Data->Option c8}(fO:Real P f)(h:∀ds r,bK ds=some r->∃d,r=.same d/\Cj P ol gl fI k f (ds.map .M)=some d):h7 P f bK:=by
 refine⟨fO,λds r e0 A w vs av jk mT=>?_⟩;obtain⟨d,rfl,bx⟩:=h ds r e0;have a4:dj A w (λ_=>none) (b3 .e):=⟨λ_ _=>rfl,λ_ _ _ _ _ h=>(by cases h),λb _ a0=>xF b a0,av,jk,λb _ _ a0=>xF b a0,λ_ _ _ h=>(by cases h)⟩;have eE:∀b,bb A (λ_=>none) b->A b:=λb h=>h.elim (λh=>(xF b h).elim) id;have b0:ck w (bb A λ_=>none) (λ_=>none) (ds.map .M) vs:=ck.M mT.1 λi d v E G=>(mT.2 i d v E G).less eE;have Q:=adQ (ol:=ol) (gl:=gl) Fh hm qX k f (ds.map .M) .e 0;unfold Cj at bx
 cases dY:Jw P ol gl fI k f (ds.map .M) .e 0 with
 |no=>rw[dY] at bx;cases bx
 |gH v m c=>rw[dY] at bx;cases bx
 |ok v m c =>
  rw[dY] at bx Q;have aql:cC 6 (b3 m) v=some d:=bx;refine Calls.mono (Q.2 A w _ vs a4 b0) λe aj he=>?_;obtain⟨u,aB,rfl,c6,iz⟩:=he;exact⟨u,rfl,⟨c6.fx.os,c6.fx.tape,c6.fx.output,c6.fx.size,λb U _=>c6.fx.block b U (xF b)⟩,snap c6.b4 (λb U=>U) 6 v u d aql iz⟩
end Go.Mini
namespace Go.Mini
open Go
def Fi:List (List Data)->Option (List Int)
 | []=>some []
 | [.int .i64 n]::r=>(Fi r).map (n::·)
 |_=>none
def UB:∀{es:List (List Data)} {l:List Int},Fi es=some l->es=l.map aJ
 | [],l,h=>by
  simp only[Fi,bF] at h;subst h;rfl
 |e::r,l,h=>by
  unfold Fi at h
  split at h
  ·simp_all
  ·rename_i n C7 he;simp only[bo] at he;obtain⟨rfl,rfl⟩:=he;simp only[cJ] at h;obtain⟨lV,E,rfl⟩:=h;rw[UB E]
   rfl
  ·cases h
def N7:List Data->Option aG
 | [.int .i64 s,.ay es,.int .i64 s2,.ay abP]=>match Fi es,Fi abP with
  |some l,some ah=>if (qU (D l) 1000&&qU (D ah) 1000)=true then some ((s,l),(s2,ah)) else none
  |_,_=>none
 |_=>none
def adR {ds:List Data}{x:aG}(h:N7 ds=some x):ds=aV x/\x.1.2.length<=1000000/\x.2.2.length<=1000000:=by
 unfold N7 at h
 split at h
 ·split at h
  ·rename_i l ah E G
   split at h
   ·rename_i Z
    cases h;rw[dp] at Z;have ab:=p4 Z.1;have aM:=p4 Z.2;exact⟨by rw[UB E,UB G];rfl,by show (D l)<=1000000;omega,by show (D ah)<=1000000;omega⟩
   ·cases h
  ·cases h
 ·cases h
def z8 (op:aG->aG->aG×Int):List Data->Option c8
 | [.agg a,.agg b]=>match N7 a,N7 b with
  |some x,some y=>some (.same (e5 (op x y)))
  |_,_=>none
 |_=>none
def UC {op:aG->aG->aG×Int}{ds:List Data}{r:c8}(h:z8 op ds=some r):∃x y:aG,ds=[.agg (aV x),.agg (aV y)]/\(x.1.2.length<=1000000/\x.2.2.length<=1000000/\y.1.2.length<=1000000/\y.2.2.length<=1000000)/\r=.same (e5 (op x y)):=by
 unfold z8 at h
 split at h
 ·split at h
  ·rename_i x y E G
   cases h;obtain⟨aK,cx,c3⟩:=adR E;obtain⟨az,cz,ef⟩:=adR G;exact⟨x,y,by rw[aK,az],⟨cx,c3,cz,ef⟩,rfl⟩
  ·cases h
 ·cases h
def UD:List Data->Option c8
 | [.int .i64 p,.int .i64 q]=>if (decide (p.natAbs<=1000000)&&decide (q.natAbs<=1000000))=true then some (.same (e5 (hR (bt p) (bt q)))) else none
 |_=>none
def aqm {ds:List Data}{r:c8}(h:UD ds=some r):Ep ds=some r:=by
 unfold UD at h
 split at h
 ·rename_i p q
  split at h
  ·rename_i Z
   cases h;simp only[dp,decide_eq_true_eq] at Z;exact amE p q ⟨by unfold dQ;omega,by unfold dQ;omega⟩
  ·cases h
 ·cases h
def aqn {ds:List Data}{r:c8}(h:z8 ti ds=some r):BH ds=some r:=by
 obtain⟨x,y,rfl,Z,rfl⟩:=UC h;exact amW x.1.1 x.1.2 x.2.1 x.2.2 y.1.1 y.1.2 y.2.1 y.2.2 Z
def aqo {ds:List Data}{r:c8}(h:z8 lA ds=some r):yh ds=some r:=by
 obtain⟨x,y,rfl,Z,rfl⟩:=UC h;exact amZ x.1.1 x.1.2 x.2.1 x.2.2 y.1.1 y.1.2 y.2.1 y.2.2 Z
def aqp {ds:List Data}{r:c8}(h:z8 jE ds=some r):BJ ds=some r:=by
 obtain⟨x,y,rfl,Z,rfl⟩:=UC h;exact am1 x.1.1 x.1.2 x.2.1 x.2.2 y.1.1 y.1.2 y.2.1 y.2.2 Z
def z9:Ci:=λf=>if f=HB then some UD else if f=A9 then some (z8 ti) else if f=xT then some (z8 lA) else if f=DL then some (z8 jE) else none
def aqq {P:Program}(E:h7 P HB Ep)(G:h7 P A9 BH)(ab:h7 P xT yh)(aM:h7 P DL BJ):∀f bK,z9 f=some bK->h7 P f bK:=by
 intro f bK h;unfold z9 at h
 split at h
 ·rename_i ag;cases h;subst ag;exact⟨E.real,λds r e0=>E.run ds r (aqm e0)⟩
 ·split at h
  ·rename_i ag;cases h;subst ag;exact⟨G.real,λds r e0=>G.run ds r (aqn e0)⟩
  ·split at h
   ·rename_i ag;cases h;subst ag;exact⟨ab.real,λds r e0=>ab.run ds r (aqo e0)⟩
   ·split at h
    ·rename_i ag;cases h;subst ag;exact⟨aM.real,λds r e0=>aM.run ds r (aqp e0)⟩
    ·cases h
end Go.Mini
namespace Go.Mini
open Go
variable {P:Program} {A:Nat->Prop} {w aj:World} {B aB:cB} {mem mem':Mem}
def Jx (N:List I->Mem->Option Data)(args:List I)(mem:Mem):Option fV:=(N args mem).map λd => .rel (xL (.M d) mem)
@[go_sem] def aAt (N:List I->Mem->Option Data)(args:List I)(mem:Mem):Jx N args mem=(N args mem).map λd => .rel (xL (.M d) mem):=bf
def aqr {T : bj}{kb : Nat}{own : List Nat}(cn : mS P T)(hm : P.follows .mixedOrders = true){f : FuncId}{fn : Func}{mf : bN}(ag : P.funcs[f]? = some fn)(ur : (fn.name == "runtime.NumGoroutine") = false)(aA : pC P kb own fn = some { mf with body := erase mf.body })
  (cy:Key->Prop) {N:List I->Mem->Option Data}
  (h:∀args mem d,N args mem=some d->(D args)<=mf.n/\(∀j,cy j->mem j=none) /\
   wp T mf.body (tn mf.res λm mem'=>cC 6 emp m=some d/\∀j,¬ cy j->mem' j=mem j) ⟨jK args,mem⟩):mu P f (Jx N):=by
 refine⟨S7 ag ur aA,λargs mem np eG A w B vs a4 ai=>?_⟩;unfold Jx at eG;rw[cJ] at eG;obtain⟨d,wK,rfl⟩:=eG;obtain⟨hlen,uQ,xG⟩:=h args mem d wK;refine Calls.mono (Hi (Post:=λm mem'=>cC 6 emp m=some d/\∀j,¬ cy j->mem' j=mem j) cn hm ag aA hlen (λe st O=>S6 O) xG a4 ai) λe aj he=>?_;obtain⟨v,m,mem',aB,rfl,R,j8,ae,gA⟩:=he;exact⟨v,.M d,mem,r1 cy aB,rfl,R.drop a4 uQ uQ (λj aa=>(gA j aa).symm) (λk g cs O m hm => .inr ⟨k,g,cs,O,hm⟩),.M ((QL 6 m v d ae j8).less λb U=>U.imp BO id),rfl,rfl⟩
def aqs (W:List I->Mem->Option (Data×Key))(args:List I)(mem:Mem):Option fV:=(W args mem).map λx => .xb x.1 x.2
@[go_sem] def aAu (W:List I->Mem->Option (Data×Key))(args:List I)(mem:Mem):aqs W args mem=(W args mem).map λx => .xb x.1 x.2:=bf
open Classical in
def Jy {α:Type}(bk:α->List I->Mem->Prop)(res:α->Data):List I->Mem->Option Data:=λargs mem=>if h:∃a,bk a args mem then some (res (Classical.choose h)) else none
def aqt {α:Type}{bk:α->List I->Mem->Prop}{res:α->Data}(uniq:∀a b args mem,bk a args mem->bk b args mem->res a=res b){a:α}{args:List I}{mem:Mem}(h:bk a args mem):Jy bk res args mem=some (res a):=by
 have J:∃b,bk b args mem:=⟨a,h⟩;unfold Jy;rw[dif_pos J,uniq _ _ _ _ (rD J) h]
def aqu {α:Type}{bk:α->List I->Mem->Prop}{res:α->Data}{args:List I}{mem:Mem}{d:Data}(h:Jy bk res args mem=some d):∃a,bk a args mem/\d=res a:=by
 unfold Jy at h
 split at h
 ·rename_i J;exact⟨_,rD J,(mN h).symm⟩
 ·cases h
def adS {K:a3->Prop}{st:a3}{x:bg}{i k sz kc g off:Nat}{cs:List I}(E:aI st.tm x=.ptr kc g off)(G:st.mem kc=some (g,cs))(ab:cs[off+i]?=some .nil)(aM:k≠kc)
  (h:K ⟨st.tm,aR (aR st.mem k (bp st.mem k) []) kc g (cs.set (off+i) (.ref k (bp st.mem k) sz 0 0))⟩):lQ K st (.Gb x i k sz):=by
 simp only[lQ,E,G,if_true,ab];rw[aq aM];exact h
def aqv {K:a3->Prop}{st:a3}{x:bg}{i kc gc off k g sz o len:Nat}{cc cs:List I}{d:Data}(E:aI st.tm x=.ptr kc gc off)(G:st.mem kc=some (gc,cc))(ab:cc[off+i]?=some (.ref k g sz o len))(aM:st.mem k=some (g,cs))(bl:rf cs=true)(bz:k≠kc)(bP:cC 1 st.mem (.ref k g sz o len)=some d)
  (h:K ⟨st.tm,aR (kill st.mem k) kc gc (cc.set (off+i) (.M d))⟩):lQ K st (.KU x i):=by
 simp only[lQ,E,G,if_true,ab,aM];rw[aq ⟨trivial,bl,bz⟩,bP];exact h
def eC (n:Nat)(mem m:Mem):Prop:=∀k,k/1000≠n->m k=mem k
def eC.refl (n:Nat)(mem:Mem):eC n mem mem:=λ_ _=>rfl
def eC.er {n k g:Nat}{cs:List I}{mem m:Mem}(h:eC n mem m)(O:k/1000=n):eC n mem (aR m k g cs):=λj aa=>by
 have:j≠k:=λe=>aa (by rw[e];exact O);simp only[aR,this,if_false];exact h j aa
def eC.kill {n k:Nat}{mem m:Mem}(h:eC n mem m)(O:k/1000=n):eC n mem (kill m k):=h.er O
def eC.at {n:Nat}{mem m:Mem}(h:eC n mem m)(k:Nat)(O:k/1000≠n):m k=mem k:=h k O
def N8 (n:Nat)(mem:Mem):Prop:=∀k,k/1000=n->mem k=none
def N8.fx {n Ji:Nat}{mem m:Mem}(h:N8 n mem)(ag:eC Ji mem m)(aE:n≠Ji):N8 n m:=λk O=>by rw[ag k (by omega)];exact h k O
end Go.Mini
namespace Go.Mini
open Go Go.Proofs
def mixed:Tryz.prog.follows .mixedOrders=true:=by kernel_rfl
abbrev cj:=h7 Tryz.prog
def aqw (mf : bN)(kb : Nat)(own : List Nat){α : Type}{args : α -> List Data}{res : α -> Option c8}{l : List (FuncId × (List Data -> Option c8))}{e : List (FuncId × (List I -> Mem -> Option fV))}(ad : ∀ p ∈ l, h7 Tryz.prog p.1 p.2)(he : ∀ p ∈ e, mu Tryz.prog p.1 p.2){f : FuncId}{fn : Func}(ag : Tryz.prog.funcs[f]? = some fn)(h : ∀ a, LN (res a) fun r => qU (args a).length mf.n = true /\ wp (r2 (Dz l) (EG e)) mf.body (uq mf.res r) ⟨jK ((args a).map .M), emp⟩)(aE : (fn.name == "runtime.NumGoroutine", pC Tryz.prog kb own fn) = (false, some { mf with body := erase mf.body }) := by kernel_rfl): cj f (bW args res) := Ys (yk (xJ ad) (ym he)) mixed ag (congrArg wA aE) (congrArg Prod.snd aE) fun ds r Q => by
 obtain⟨a,rfl,G⟩:=YA Q;have ab:=h a;rw[G] at ab;exact⟨p4 ab.1,ab.2⟩
def aAv (mf : bN)(kb : Nat)(own : List Nat){α : Type}{args : α -> List Data}{res : α -> Option c8}{l : List (FuncId × (List Data -> Option c8))}(ad : ∀ p ∈ l, h7 Tryz.prog p.1 p.2){f : FuncId}{fn : Func}(ag : Tryz.prog.funcs[f]? = some fn)(h : ∀ a, LN (res a) fun r => qU (args a).length mf.n = true /\ wp (r2 (Dz l) (EG [])) mf.body (uq mf.res r) ⟨jK ((args a).map .M), emp⟩)(aE : (fn.name == "runtime.NumGoroutine", pC Tryz.prog kb own fn) = (false, some { mf with body := erase mf.body }) := by kernel_rfl): cj f (bW args res) := aqw mf kb own ad m5 ag h aE
def u4 (kb : Nat)(own : List Nat){l : List (FuncId × (List Data -> Option c8))}{e : List (FuncId × (List I -> Mem -> Option fV))}(ad : ∀ p ∈ l, h7 Tryz.prog p.1 p.2)(he : ∀ p ∈ e, mu Tryz.prog p.1 p.2){f : FuncId}{fn : Func}(ag : Tryz.prog.funcs[f]? = some fn){mf : bN}{bK : List Data -> Option c8}(h : WF (r2 (Dz l) (EG e)) mf bK)(aE : (fn.name == "runtime.NumGoroutine", pC Tryz.prog kb own fn) = (false, some { mf with body := erase mf.body }) := by kernel_rfl): cj f bK := Ys (yk (xJ ad) (ym he)) mixed ag (congrArg wA aE) (congrArg Prod.snd aE) fun ds r Q => by
 obtain⟨ab,aM⟩:=h ds r Q;rw[akl] at aM;exact⟨p4 ab,aM⟩
def cM (kb : Nat)(own : List Nat){l : List (FuncId × (List Data -> Option c8))}(ad : ∀ p ∈ l, h7 Tryz.prog p.1 p.2){f : FuncId}{fn : Func}(ag : Tryz.prog.funcs[f]? = some fn){mf : bN}{bK : List Data -> Option c8}(h : WF (r2 (Dz l) (EG [])) mf bK)(aE : (fn.name == "runtime.NumGoroutine", pC Tryz.prog kb own fn) = (false, some { mf with body := erase mf.body }) := by kernel_rfl): cj f bK := u4 kb own ad m5 ag h aE
def bd {fI:FuncId->Option (List Data->Option c8)}{qO:FuncId->Option (List I->Mem->Option fV)}{f:FuncId}{bK:List Data->Option c8}(E:qO f=none:=by rfl)(G:fI f=some bK:=by rfl):r2 fI qO f=aW bK:=yl E G
def Fj:cj oT v8:=cM 177000 [] b7 Tryz.func200 (akX _)
def Fk:mu Tryz.prog oT (zi sY):=Hv.abQ (YQ (mf:=DV) (kb:=177000) (own:=[]) (yk (xJ b7) (ym m5)) mixed Tryz.func200 (by kernel_rfl) (by kernel_rfl) λargs mem x h=>by
 obtain⟨a,⟨rfl,hm,ad⟩,rfl⟩:=Q6 h;exact⟨p4 rfl,akY _ a.l a.k a.g mem hm ad⟩)
def aqx:cj L1 Me:=cM 184000 [] b7 Tryz.func202 (akZ _)
def adT:cj DN HS:=cM 174000 [] (a8 aqx b7) Tryz.func141 (ak0 _ bd)
def aqy:cj Rr Mg:=cM 179000 [] b7 Tryz.func205 (ak3 _)
def N9:cj v3 zn:=cM 156000 [5] b7 Tryz.func94 (ak5 _)
def yy:cj jW s0:=cM 136000 [] b7 Tryz.func134 (ak6 _)
def Fl:cj ns xX:=u4 158000 [] (a8 Fj b7) (tq Fk m5) Tryz.func138 (ak8 _ (EF rfl rfl))
def UE:cj Bd D0:=cM 175000 [] (a8 adT b7) Tryz.func142 (alb _ bd)
def adU:cj HH HU:=u4 172000 [] (a8 Fj b7) (tq Fk m5) Tryz.func139 (alc _ (EF rfl rfl))
def adV:cj DM HV:=u4 173000 [10] (a8 N9 (a8 Fj b7)) (tq Fk m5) Tryz.func140 (ale _ bd (EF rfl rfl))
def adW:cj DK HW:=u4 161000 [] (a8 Fj b7) (tq Fk m5) Tryz.func148 (alh _ (EF rfl rfl))
def aqz:cj L0 Mi:=u4 176000 [] (a8 Fj b7) (tq Fk m5) Tryz.func199 (alj _ (EF rfl rfl))
def aqA:mu Tryz.prog Rq (zi H3):=Hv.abQ (YQ (mf:=Ma) (kb:=178000) (own:=[]) (yk (xJ b7) (ym m5)) mixed Tryz.func201 (by kernel_rfl) (by kernel_rfl) λargs mem x h=>by
 obtain⟨a,⟨rfl,Z⟩,rfl⟩:=Q6 h;exact⟨p4 rfl,als _ a mem Z⟩)
def adX:cj HE H9:=u4 157000 [54] (a8 UE (a8 N9 (a8 aqz (a8 Fj (a8 adW b7))))) (tq Fk (tq aqA m5)) Tryz.func137 (alG _ bd bd bd (EF rfl rfl) bd (EE rfl rfl))
def UF:cj sU Eg:=cM 155000 [] b7 Tryz.func147 (amh _)
def adY:cj DJ Io:=cM 152000 [] (a8 yy (a8 N9 (a8 Fl b7))) Tryz.func206 (ami _ bd bd bd)
def Oa:cj sT Bv:=cM 140000 [] (a8 yy (a8 adW (a8 Fl (a8 UF b7)))) Tryz.func72 (amj _ bd bd bd bd)
def aqB:cj Ro MA:=cM 160000 [] (a8 yy (a8 aqy (a8 adU (a8 adV (a8 UE (a8 Fl (a8 UF b7))))))) Tryz.func146 (amk _ bd bd bd bd bd bd bd)
def aqC:cj Rm MC:=cM 154000 [] (a8 yy (a8 adT (a8 UE b7))) Tryz.func69 (aml _ bd bd bd)
def adZ:cj HC Iq:=cM 137000 [] (a8 yy (a8 N9 (a8 adX (a8 Fl (a8 UF b7))))) Tryz.func135 (amm _ bd bd bd bd bd)
def ad0:cj Bc Iu:=cM 153000 [] (a8 yy (a8 adX (a8 adU (a8 adV (a8 Fl b7))))) Tryz.func68 (amn _ bd bd bd bd bd)
def aqD:cj LX MF:=cM 150000 [] (a8 Fl b7) Tryz.func185 (ams _ bd)
def aqE:cj Rn MG:=cM 159000 [] (a8 yy b7) Tryz.func198 (amv _ bd)
def aqF:cj Rf ML:=cM 138000 [] (a8 aqE b7) Tryz.func136 (amB _ bd)
def Aa:cj lq uN:=cM 116000 [] (a8 yy (a8 adZ (a8 aqF b7))) Tryz.func67 (amC _ bd bd bd)
def ad1:cj HD Iy:=cM 149000 [] (a8 yy (a8 adY (a8 adZ (a8 ad0 b7)))) Tryz.func149 (amD _ bd bd bd bd)
def ad2:cj HB Ep:=cM 130000 [] (a8 aqD (a8 ad1 b7)) Tryz.func109 (amF _ bd bd)
def aqG:cj Rg MQ:=cM 139000 [] (a8 Oa (a8 aqB b7)) Tryz.func71 (amS _ bd bd)
def UG:cj Bb Er:=cM 141000 [] (a8 ad1 b7) Tryz.func73 (amU _ bd)
def UH:cj A9 BH:=cM 119000 [] (a8 Aa (a8 aqG (a8 Oa (a8 UG b7)))) Tryz.func22 (amX _ bd bd bd bd)
def ad3:cj Ba BI:=cM 132000 [] (a8 Aa (a8 adY (a8 UH b7))) Tryz.func157 (amY _ bd bd bd)
def UI:cj xT yh:=cM 134000 [] (a8 Aa (a8 Oa (a8 UG b7))) Tryz.func38 (am0 _ bd bd bd)
def ad4:cj DL BJ:=cM 169000 [] (a8 Aa (a8 Oa (a8 UG b7))) Tryz.func113 (am2 _ bd bd bd)
def UJ:cj zj Ev:=cM 135000 [] (a8 Aa (a8 ad0 (a8 aqC b7))) Tryz.func20 (am9 _ bd bd bd)
end Go.Mini
namespace Go.Mini
open Go Go.Proofs
def aqH:∀f bK,z9 f=some bK->h7 Tryz.prog f bK:=aqq ad2 UH UI ad4
def aqI : (Tryz.prog.funcs.all fun fn => !(fn.name == "runtime.NumGoroutine")) = true := by kernel_rfl
def aqJ:Fg Tryz.prog:=λf fn h=>by
 have:=(Array.all_eq_true'.1 aqI) fn (Array.mem_of_getElem? h)
 simpa using this
def ad5:Real Tryz.prog n0:=⟨Tryz.f39,_,Tryz.func39,rfl,by kernel_rfl⟩
def Ob (s:List UInt8)(d:Data)(h:Cj Tryz.prog [45] [169,239,48,50] z9 1000 n0 [.M (.str s)]=some d):h7 Tryz.prog n0 (λds=>@ite _ (ds=[.str s]) (Classical.propDecidable _) (some (.same d)) none) :=
 aqk (ol:=[45]) (gl:=[169,239,48,50]) aqH mixed aqJ ad5 λds r Q=>by
  split at Q
  ·rename_i e;subst e
   cases Q;exact⟨d,rfl,h⟩
  ·cases Q
end Go.Mini
namespace Go.Mini
open Go
def Ab (x:List aG)(l:bJ)(s:aG×Bool):aG×Bool :=
 ((ti s.1 (lA l.2.2 (x.getD l.1.toNat bY)).1).1,s.2&&(((lA l.2.2 (x.getD l.1.toNat bY)).2==0)&&((ti s.1 (lA l.2.2 (x.getD l.1.toNat bY)).1).2==0)))
def Ac (l:bJ):List I:=.M (.int .i64 l.1) :: .M (.int .i64 l.2.1)::nE l.2.2
structure Jz where
 l:bJ
 x:List aG
 s:aG×Bool
def UK (a:Jz)(mem:Mem):Prop:=mem 396006=some (0,[.M (.ay (a.x.map aV))])/\mem 396004=some (0,nE a.s.1)/\mem 396010=some (0,[.M (.bool a.s.2)])/\okF a.l.2.2/\ia a.x/\okF a.s.1/\0<=a.l.1/\a.l.1<D a.x
def Fm (a:Jz)(mem:Mem):I->Mem->Prop:=λ_ mem'=>mem' 396004=some (0,nE (Ab a.x a.l a.s).1)/\mem' 396010=some (0,[.M (.bool (Ab a.x a.l a.s).2)])/\∀k:Nat,k/1000≠397->k≠396004->k≠396010->mem' k=mem k
def ad6 {f g:aG}(h:nE f=nE g):f=g:=by
 obtain⟨⟨a,b⟩,⟨c,d⟩⟩:=f;obtain⟨⟨cl,dt⟩,⟨c',pK⟩⟩:=g;simp only[nE,bo,I.M.injEq,Data.int.injEq,Data.ay.injEq,true_and,and_true] at h;obtain⟨rfl,E,rfl,G⟩:=h;rw[map_inj fQ _ _ E,map_inj fQ _ _ G]
def aqK {a b:bJ}(h:Ac a=Ac b):a=b:=by
 obtain⟨x,y,w⟩:=a;obtain⟨eJ,y',aj⟩:=b;simp only[Ac,bo,I.M.injEq,Data.int.injEq,true_and] at h;obtain⟨rfl,rfl,h⟩:=h;rw[ad6 h]
def JA:List I->Mem->Option (I->Mem->Prop):=BQ (λ(a:Jz) args mem=>args=[.agg (Ac a.l),.ptr 396006 0 0,.ptr 396004 0 0,.ptr 396010 0 0]/\UK a mem) Fm
def aqL (a:Jz)(mem:Mem)(h:UK a mem):JA [.agg (Ac a.l),.ptr 396006 0 0,.ptr 396004 0 0,.ptr 396010 0 0] mem=some (Fm a mem):=by
 unfold JA;refine Tb (a:=a) ?_ ⟨rfl,h⟩;rintro a b args mem ⟨E,G,ab,aM,_⟩ ⟨cm,dX,eY,tB,_⟩;rw[E] at cm;rw[G] at dX;rw[ab] at eY;rw[aM] at tB;simp only[bo,I.agg.injEq,and_true,I.M.injEq,Data.ay.injEq,Data.bool.injEq,bF,ec,true_and] at cm dX eY tB;obtain⟨l,x,s,f⟩:=a;obtain⟨lV,eJ,xq,zV⟩:=b;dsimp only at *;rw[aqK cm,map_inj lB _ _ dX,ad6 eY,tB]
def aqM (T:bj)(zP:T xT=aW yh)(Et:T A9=aW BH)(a:Jz)(gM:Mem)(h:UK a gM):
  wp T MZ.body (tn MZ.res (Fm a gM)) ⟨jK [.agg (Ac a.l),.ptr 396006 0 0,.ptr 396004 0 0,.ptr 396010 0 0],gM⟩:=by
 obtain⟨bz,aM,kq,a0,J,R,pH,aE⟩:=h;obtain⟨⟨f,t,⟨w1,fw⟩,⟨cR,kD⟩⟩,x,⟨⟨s1,s2⟩,⟨c1,dg⟩⟩,UL⟩:=a;dsimp only at *;obtain⟨i,rfl⟩:=JB pH;have av:i<D x:=by omega
 obtain⟨⟨⟨fe,fJ⟩,⟨gS,iT⟩⟩,kB⟩:∃f,x[i]?=some f:=⟨_,bw av⟩;have lD:=J.2 _ (dM kB);have tY:x.getD i bY=((fe,fJ),(gS,iT)):=by rw[eH,kB];rfl
 unfold Fm Ab;dsimp only;rw[mY,tY];have yq:=abX ((w1,fw),(cR,kD)) ((fe,fJ),(gS,iT));generalize l1:lA ((w1,fw),(cR,kD)) ((fe,fJ),(gS,iT))=bk at *;obtain⟨⟨⟨mc,iA⟩,⟨IU,Tp⟩⟩,aK⟩:=bk;dsimp only at yq ⊢;generalize cr:ti ((s1,s2),(c1,dg)) ((mc,iA),(IU,Tp))=S at *;obtain⟨⟨⟨v1,v2⟩,⟨iL,v4⟩⟩,az⟩:=S;dsimp only;simp only[nE] at aM;refine xr ?_;simp only[MZ];rcases UL
 ·rcases Ga:(aK==0)<;>rcases eb:(az==0) <;>
  (
   refine ao ?_;repeat' (intro (aw:_=_)<;>simp only[aw,go_sem,go_sem_proc,zP,Et,bz,aM,kq,kB,l1,cr,a0.1,a0.2,lD.1,lD.2,R.1,R.2,yq.1,yq.2,Ga,eb,Ac,nE,e5,aV,au,bD]<;>try refine an ?_ ?_)
   refine⟨_,rfl,?_⟩;intro k O E G;have u5:∀(j:Nat),j/1000=397->k≠j:=λj G h=>O (h ▸ G);rw[ar E,ar G,ar (u5 397007 (by decide)),ar (u5 397007 (by decide)),ar (u5 397005 (by decide)),ar (u5 397005 (by decide)),ar (u5 397004 (by decide))])
 ·rcases Ga:(aK==0)<;>rcases eb:(az==0) <;>
  (
   refine ao ?_;repeat' (intro (aw:_=_)<;>simp only[aw,go_sem,go_sem_proc,zP,Et,bz,aM,kq,kB,l1,cr,a0.1,a0.2,lD.1,lD.2,R.1,R.2,yq.1,yq.2,Ga,eb,Ac,nE,e5,aV,au,bD]<;>try refine an ?_ ?_)
   refine⟨_,rfl,?_⟩;intro k O E G;have u5:∀(j:Nat),j/1000=397->k≠j:=λj G h=>O (h ▸ G);rw[ar E,ar G,ar (u5 397007 (by decide)),ar (u5 397007 (by decide)),ar (u5 397005 (by decide)),ar (u5 397005 (by decide)),ar (u5 397004 (by decide))])
def u6 (x:List aG)(to:Int):List bJ->aG×Bool->aG×Bool
 | [],s=>s
 |l::r,s=>u6 x to r (if ((l.2.1==to)&&s.2)=true then Ab x l s else s)
def ot (base:aG)(ls:List bJ)(x:List aG)(to:Int):aG×Bool:=u6 x to ls (base,true)
def aqN (base:aG)(ls:List bJ)(x:List aG)(to:Int):Prop:=okF base/\sa ls/\ia x/\∀l∈ls,l.2.1=to->0<=l.1/\l.1<D x
def ad7 (x:List aG)(l:bJ)(s:aG×Bool):okF (Ab x l s).1:=abW _ _
abbrev Oc:Int×(List Int)×Int×(List Int)×(List bJ)×(List aG)×Int->List Data:=λ(s,l,s2,ah,ls,x,to)=>[.agg [.int .i64 s,.ay (l.map aJ),.int .i64 s2,.ay (ah.map aJ)],.ay (ls.map fK),.ay (x.map aV),.int .i64 to]
def Fo:=bW Oc λ(s,l,s2,ah,ls,x,to)=>cv (aqN ((s,l),(s2,ah)) ls x to) (.same (.dc [.agg (aV (ot ((s,l),(s2,ah)) ls x to).1),.bool (ot ((s,l),(s2,ah)) ls x to).2]))
def aqO:∀a b,Oc a=Oc b->a=b:=by
  rintro⟨s1,iP,uI,tc,z0,fe,aqP⟩ ⟨s2,ah,uJ,td,z1,fJ,aqQ⟩ h;simp only[bo,Data.agg.injEq,Data.int.injEq,Data.ay.injEq] at h;exact cO h.1.1.2 (cO (map_inj fQ _ _ h.1.2.1) (cO h.1.2.2.1.2 (cO (map_inj fQ _ _ h.1.2.2.2.1) (cO (map_inj uY _ _ h.2.1) (cO (map_inj lB _ _ h.2.2.1) h.2.2.2.1.2)))))
@[go_sem] def UM (s l s2 ah ls x to):=cK Fo rfl aqO (s,l,s2,ah,ls,x,to) rfl
def aqR (T:bj)(wY:T Ry=yj JA):WF T abt Fo:=by
 refine cp λ(s,l,s2,ah,ls,x,to)=>cN λZ=>⟨rfl,cq ?_⟩;simp only[abt,Oc,cg];obtain⟨a0,⟨Ad,fG⟩,J,fa⟩:=Z;unfold ot;simp only[go_sem,go_sem_proc,wY,au]
 refine du [3,4,8,10,11,15,16] [396006,396008] (λ((i,f,b):Nat×aG×Bool) tm m=>i<=D ls/\okF f/\u6 x to ls (((s,l),(s2,ah)),true)=u6 x to (ls.drop i) (f,b)/\tm 17=.M (.int .i64 i)/\m 396004=some (0,nE f)/\m 396010=some (0,[.M (.bool b)])) (λ(i,_)=>D ls-i) (0,((s,l),(s2,ah)),true) (by
  refine⟨ej _,a0,rfl,rfl,?_,?_⟩
  ·simp[aR,nE]
  ·simp[aR]) ?_
 intro vs ms aY aT;simp only[go_sem,go_sem_proc,wY,au] at aY aT;subst aY aT;rintro⟨i,f,b⟩ tm m O hm ⟨L,ag,cb,jo,nv,m9⟩;simp only[go_sem,go_sem_proc,wY,bo] at O hm;obtain⟨eY,tB,iS,kW,m2,JC,JD⟩:=O;obtain⟨gF,o6⟩:=hm;rcases eo (i<D ls) with av|bM
 ·obtain⟨⟨a,c,⟨w1,fw⟩,⟨cR,kD⟩⟩,eZ⟩:∃l,ls[i]?=some l:=⟨_,bw av⟩;have Ae:=fG _ (dM eZ);have EI:=fa _ (dM eZ);dsimp only at Ae EI
  have qG:ls.drop i=(a,c,((w1,fw),(cR,kD)))::ls.drop (i+1):=by
   obtain⟨ad,e⟩:=dh.1 eZ;rw[gK ad,e]
  rw[qG] at cb;simp only[u6] at cb;have d1:decide ((i:Int)<(D ls:Int))=true:=dI;have Af:=hy (i:=i) (by omega);rcases pf:(c==to)
  ·rw[pf] at cb;simp only[h9,dm,if_false] at cb;refine ao ?_;repeat' (intro h<;>simp only[h,go_sem,go_sem_proc,wY,eY,tB,iS,kW,m2,JC,JD,jo,nv,gF,o6,m9,eZ,d1,Af,pf,fK,aV,au,bD]<;>try refine an ?_ ?_)
   exact⟨(i+1,f,b),by dsimp only;omega,by dsimp only;omega,ag,cb,rfl,rfl,rfl⟩
  ·rw[pf] at cb;rcases b
   ·simp only[jV,dm,if_false] at cb;refine ao ?_;repeat' (intro h<;>simp only[h,go_sem,go_sem_proc,wY,eY,tB,iS,kW,m2,JC,JD,jo,nv,gF,o6,m9,eZ,d1,Af,pf,fK,aV,au,bD]<;>try refine an ?_ ?_)
    exact⟨(i+1,f,false),by dsimp only;omega,by dsimp only;omega,ag,cb,rfl,rfl,rfl⟩
   ·simp only[JE,if_true] at cb;have UN:c=to:=by simpa using pf
    obtain⟨Fp,gY⟩:=EI UN
    have ey:∀mem:Mem,mem 396006=m 396006->mem 396004=m 396004->mem 396010=m 396010->JA [.agg [.M (.int .i64 a),.M (.int .i64 c),.M (.int .i64 w1),.M (.ay (fw.map aJ)),.M (.int .i64 cR),.M (.ay (kD.map aJ))],.ptr 396006 0 0,.ptr 396004 0 0,.ptr 396010 0 0] mem=some (Fm ⟨(a,c,((w1,fw),(cR,kD))),x,(f,true)⟩ mem):=λmem aK az ee =>
     aqL ⟨(a,c,((w1,fw),(cR,kD))),x,(f,true)⟩ mem ⟨aK.trans gF,az.trans nv,ee.trans m9,Ae,J,ag,Fp,gY⟩
    have zT:=ad7 x (a,c,((w1,fw),(cR,kD))) (f,true);generalize c6:Ab x (a,c,((w1,fw),(cR,kD))) (f,true)=S at *;simp only[go_sem,go_sem_proc,wY,eY,tB,iS,kW,m2,JC,JD,jo,nv,gF,o6,m9,eZ,d1,Af,pf,fK,aV,au,bD];rw[ey _ (by simp[aR]) (by simp[aR]) (by simp[aR])];simp only[go_sem,go_sem_proc,wY];intro wQ m' dK;unfold Fm at dK;dsimp only at dK;rw[c6] at dK;obtain⟨u7,aqS,qY⟩:=dK;have tC:=qY 396006 (by decide) (by decide) (by decide);have ad8:=qY 396008 (by decide) (by decide) (by decide);simp only[go_sem,go_sem_proc,wY] at tC ad8;refine ao ?_;repeat' (intro h<;>simp only[h,go_sem,go_sem_proc,wY,eY,tB,iS,kW,m2,JC,JD,jo,gF,o6,u7,tC,ad8,aqS,Af]<;>try refine an ?_ ?_)
    exact⟨(i+1,S.1,S.2),by dsimp only;omega,by dsimp only;omega,zT,cb,rfl,rfl,rfl⟩
 ·have d1:decide ((i:Int)<(D ls:Int))=false:=dV;have jY:ls.drop i=[]:=mH (by omega);rw[jY] at cb;rw[cb];simp only[u6];obtain⟨⟨f1,f2⟩,⟨f3,f4⟩⟩:=f;simp only[nE] at nv;refine ao ?_;repeat' (intro h<;>simp only[h,go_sem,go_sem_proc,wY,eY,tB,iS,kW,m2,JC,JD,jo,nv,gF,o6,m9,d1,aV,au]<;>try refine an ?_ ?_)
def fM:aG:=bU ((0:Int):Rat)
def hX:aG:=bU ((1:Int):Rat)
def JF {n:Int}(h:n.natAbs<=1):dL ((n:Int):Rat):=by
 refine⟨?_,?_⟩
 ·rw[Rat.num_intCast];exact wg h (by unfold de;exact ad9 (by omega) (by omega))
 ·rw[Rat.den_intCast];unfold de;exact ad9 (by omega) (by omega)
def Ck:okF fM:=Tf (JF (by decide))
def Fq:okF hX:=Tf (JF (by decide))
def p5 (to:Int):List bJ->List aG->List aG×Bool
 | [],A=>(A,true)
 |l::r,A=>if (l.2.1==to)=true then (if ((nB (A.getD l.1.toNat bY) l.2.2).2==0)=true then p5 to r (A.set l.1.toNat (nB (A.getD l.1.toNat bY) l.2.2).1) else ([],false)) else p5 to r A
def si (n to:Nat):List aG:=(bT n fM).set to hX
def p6 (v:aG)(ls:List bJ)(n to:Nat):eg×Bool:=if (p5 to ls (si n to)).2=true then (((p5 to ls (si n to)).1,v),true) else (([],bY),false)
def aqT (v:aG)(ls:List bJ)(n to:Nat):Prop:=okF v/\sa ls/\n<=40/\to<n/\∀l∈ls,l.2.1=to->0<=l.1/\l.1<n
abbrev Od:Int×(List Int)×Int×(List Int)×(List bJ)×Nat×Nat->List Data:=λ(s,l,s2,ah,ls,n,to)=>[.agg [.int .i64 s,.ay (l.map aJ),.int .i64 s2,.ay (ah.map aJ)],.ay (ls.map fK),.int .i64 n,.int .i64 to]
def JG:=bW Od λ(s,l,s2,ah,ls,n,to)=>cv (aqT ((s,l),(s2,ah)) ls n to) (.same (.dc [.agg (ky (p6 ((s,l),(s2,ah)) ls n to).1),.bool (p6 ((s,l),(s2,ah)) ls n to).2]))
def aqU:∀a b,Od a=Od b->a=b:=by
  rintro⟨s1,iP,uI,tc,z0,rq,aqP⟩ ⟨s2,ah,uJ,td,z1,rr,aqQ⟩ h;simp only[bo,Data.agg.injEq,Data.int.injEq,Data.ay.injEq] at h;exact cO h.1.1.2 (cO (map_inj fQ _ _ h.1.2.1) (cO h.1.2.2.1.2 (cO (map_inj fQ _ _ h.1.2.2.2.1) (cO (map_inj uY _ _ h.2.1) (cO (by have:=h.2.2.1.2;dsimp only;omega) (by have:=h.2.2.2.1.2;dsimp only;omega))))))
@[go_sem] def UO (s l s2 ah ls n to):=cK JG rfl aqU (s,l,s2,ah,ls,n,to) rfl
def aqV (T:bj)(eD:T sW=aW B1)(ou:T DG=aW I7)(r3:T Ba=aW BI):WF T abr JG:=by
 refine cp λ(s,l,s2,ah,ls,n,to)=>cN λZ=>⟨rfl,cq ?_⟩;simp only[abr,Od,cg];obtain⟨a0,⟨Ad,fG⟩,aE,UP,fa⟩:=Z;have aP:=E1 0 (by unfold dQ;omega);have E:=E1 1 (by unfold dQ;omega);rw[show bU ((0:Int):Rat)=fM from rfl] at aP;rw[show bU ((1:Int):Rat)=hX from rfl] at E;have UQ:=Ck;have JH:=Fq;have UR:si n to=(bT n fM).set to hX:=rfl;generalize fM=qZ at *;generalize hX=ax at *;obtain⟨⟨gE,hl⟩,⟨p7,sj⟩⟩:=qZ;obtain⟨⟨wZ,tD⟩,⟨u9,va⟩⟩:=ax;simp only[aV] at aP E;have oJ:=acO gE hl p7 sj n (by omega)
 have h3:(bT n (aV ((gE,hl),(p7,sj)))).flatten.map I.M=a7 aV (bT n ((gE,hl),(p7,sj))):=by
  unfold a7;rw[BY]
 have t1:=zO (l:=bT n ((gE,hl),(p7,sj))) (k:=to) (by rw[gv];exact UP);have t2:=IM (l:=bT n ((gE,hl),(p7,sj))) (k:=to) (by rw[gv];exact UP) wZ tD u9 va;rw[<-UR] at t2;have wP:(si n to).length=n:=by rw[UR,gg,gv]
 have TA:∀f∈si n to,okF f:=λf ag=>by
  rw[UR] at ag;rcases tp ag with ag|rfl
  ·rw[n4] at ag;rw[ag.2];exact UQ
  ·exact JH
 unfold p6;generalize si n to=aea at *;simp only[go_sem,go_sem_proc,eD,ou,r3,aP,E,oJ,h3,t1,t2,UP,au,gv]
 refine du [3,8,10,26,27] [395004,395008] (λ((i,A):Nat×List aG) tm m=>i<=D ls/\D A=n/\(∀f∈A,okF f)/\p5 to ls aea=p5 to (ls.drop i) A/\tm 28=.M (.int .i64 i)/\m 395010=some (0,.ref 395018 0 4 0 n::nE ((s,l),(s2,ah)))/\m 395018=some (0,a7 aV A)) (λ(i,_)=>D ls-i) (0,aea) (by
  refine⟨ej _,wP,TA,rfl,rfl,?_,?_⟩
  ·simp[aR,nE]
  ·simp[aR]) ?_
 intro vs ms aY aT;simp only[go_sem,go_sem_proc,eD,ou,r3,au] at aY aT;subst aY aT;rintro⟨i,A⟩ tm m O hm ⟨L,US,Cl,cb,Oe,m9,yz⟩;simp only[go_sem,go_sem_proc,eD,ou,r3,bo] at O hm;obtain⟨eY,iS,kW,lH,Of⟩:=O;obtain⟨nv,o6⟩:=hm;simp only[nE] at m9;rcases eo (i<D ls) with av|bM
 ·obtain⟨⟨a,c,⟨w1,fw⟩,⟨cR,kD⟩⟩,eZ⟩:∃l,ls[i]?=some l:=⟨_,bw av⟩;have Ae:=fG _ (dM eZ);have EI:=fa _ (dM eZ);dsimp only at Ae EI
  have qG:ls.drop i=(a,c,((w1,fw),(cR,kD)))::ls.drop (i+1):=by
   obtain⟨ad,e⟩:=dh.1 eZ;rw[gK ad,e]
  rw[qG] at cb;simp only[p5] at cb;have d1:decide ((i:Int)<(D ls:Int))=true:=dI;have Af:=hy (i:=i) (by omega);rcases pf:(c==(to:Int))
  ·rw[pf] at cb;simp only[dm,if_false] at cb;refine ao ?_;repeat' (intro h<;>simp only[h,go_sem,go_sem_proc,eD,ou,r3,eY,iS,kW,lH,Of,Oe,nv,o6,m9,yz,eZ,d1,Af,pf,fK,aV,au,bD]<;>try refine an ?_ ?_)
   exact⟨(i+1,A),by dsimp only;omega,by dsimp only;omega,US,Cl,cb,rfl,rfl,rfl⟩
  ·rw[pf] at cb;simp only[if_true] at cb;have UN:c=to:=by simpa using pf
   obtain⟨Fp,gY⟩:=EI UN;obtain⟨j,rfl⟩:=JB Fp;have aa:j<n:=by omega
   obtain⟨⟨⟨fe,fJ⟩,⟨gS,iT⟩⟩,UT⟩:∃f,A[j]?=some f:=⟨_,bw (by omega)⟩;have lD:=Cl _ (dM UT);have tY:A.getD j bY=((fe,fJ),(gS,iT)):=by rw[eH,UT];rfl
   rw[mY,tY] at cb;have zT:=Nk ((fe,fJ),(gS,iT)) ((w1,fw),(cR,kD));have cH:=EK UT;have dR:=zO (l:=A) (k:=j) (by omega);generalize cr:nB ((fe,fJ),(gS,iT)) ((w1,fw),(cR,kD))=S at *;obtain⟨⟨⟨v1,v2⟩,⟨iL,v4⟩⟩,e⟩:=S;dsimp only at cb zT;have pg:=IM (l:=A) (k:=j) (by omega) v1 v2 iL v4;rcases he:(e==0)
   ·rw[he] at cb;simp only[dm,if_false] at cb;rw[cb];simp only[dm,if_false];refine ao ?_;repeat' (intro h<;>simp only[h,go_sem,go_sem_proc,eD,ou,r3,eY,iS,kW,lH,Of,Oe,nv,o6,m9,yz,eZ,d1,Af,pf,aa,cr,cH,dR,lD.1,lD.2,Ae.1,Ae.2,he,fK,ky,bY,e5,aV,cE,au,bD,ne_eq,not_false_eq_true,decide_true,decide_false]<;>try refine an ?_ ?_)
   ·rw[he] at cb;simp only[if_true] at cb;refine ao ?_;repeat' (intro h<;>simp only[h,go_sem,go_sem_proc,eD,ou,r3,eY,iS,kW,lH,Of,Oe,nv,o6,m9,yz,eZ,d1,Af,pf,aa,cr,cH,dR,pg,lD.1,lD.2,Ae.1,Ae.2,he,fK,e5,aV,au,bD,ne_eq,not_false_eq_true,decide_true,decide_false]<;>try refine an ?_ ?_)
    refine⟨(i+1,A.set j ((v1,v2),(iL,v4))),by dsimp only;omega,by dsimp only;omega,by rw[gg];exact US,λf ag=>?_,cb,rfl,rfl,rfl⟩
    rcases tp ag with ag|rfl
    ·exact Cl f ag
    ·exact zT
 ·have d1:decide ((i:Int)<(D ls:Int))=false:=dV;have jY:ls.drop i=[]:=mH (by omega);rw[jY] at cb;rw[cb];simp only[p5,if_true];have fb:=oR (n:=3) (k:=395018) nC (mem:=aR m 395008 0 (.ref 395018 0 4 0 n::nE ((s,l),(s2,ah)))) (l:=A) (g:=0) (by rw[j2 (by decide)];exact yz);rw[US] at fb;simp only[nE] at fb;refine ao ?_;repeat' (intro h<;>simp only[h,go_sem,go_sem_proc,eD,ou,r3,eY,iS,kW,lH,Of,Oe,nv,o6,m9,yz,d1,ky,aV,au]<;>try refine an ?_ ?_)
  rw[fb]
  rfl
def lI (b:Bool):List Data:=[.bool b]
def UU (b:Bool):(lI b).length=1:=rfl
def aeb (l:List Bool):a7 lI l=l.map λb => .M (.bool b):=by
 induction l with
 |nil=>rfl
 |cons b l aD=>rw[uw,aD];rfl
def aec {a b:List Bool}(h:a7 lI a=a7 lI b):a=b:=by
 rw[aeb,aeb] at h;exact map_inj (λa b h=>by cases h;rfl) _ _ h
def aed {α:Type}{p:α->Bool}{l:List α}{i:Nat}{x:α}(J:l[i]?=some x)(h:p x=false):l.all p=false:=by
 rw[List.all_eq_false];exact⟨x,dM J,by simp[h]⟩
def UW (to:Int):∀(ls:List bJ) (A:List aG),(∀f∈A,okF f)->∀f∈(p5 to ls A).1,okF f
 | [],A,h=>h
 |l::r,A,h=>by
  unfold p5
  split
  ·split
   ·refine UW to r _ λf ag=>?_;rcases tp ag with ag|rfl
    ·exact h f ag
    ·exact Nk _ _
   ·intro f ag;cases ag
  ·exact UW to r A h
def UX (to:Int):∀(ls:List bJ) (A:List aG),(p5 to ls A).1.length<=D A
 | [],A=>bI _
 |l::r,A=>by
  unfold p5
  split
  ·split
   ·have:=UX to r (A.set l.1.toNat (nB (A.getD l.1.toNat bY) l.2.2).1);rwa [gg] at this
   ·exact ej _
  ·exact UX to r A
def aqW {n to:Nat}:∀f∈si n to,okF f:=λf ag=>by
 unfold si at ag;rcases tp ag with ag|rfl
 ·rw[n4] at ag;rw[ag.2];exact Ck
 ·exact Fq
def Fs {v:aG}{ls:List bJ}{n to:Nat}(ai:okF v)(aE:n<=40):uP (p6 v ls n to).1:=by
 unfold p6
 split
 ·refine⟨⟨?_,UW _ _ _ aqW⟩,ai⟩;have:=UX to ls (si n to);unfold si at this;rw[gg,gv] at this;dsimp only;unfold si;omega
 ·exact⟨⟨by simp,λf ag=>by cases ag⟩,qP⟩
def q0 (cap base:List aG)(ls:List bJ)(left:List Bool)(i:Nat):eg×Bool:=if left.getD i false=true then p6 (base.getD i bY) ls (D cap) i else p6 (cap.getD i bY) [] (D cap) i
def allEq (cap base:List aG)(ls:List bJ)(left:List Bool):List (eg×Bool):=(jf (D cap)).map (q0 cap base ls left)
def sk (cap base:List aG)(ls:List bJ)(left:List Bool):List aG×Bool :=
 if (allEq cap base ls left).all (·.2)=true then ((l4 ((allEq cap base ls left).map (·.1)) (D cap)).1,(l4 ((allEq cap base ls left).map (·.1)) (D cap)).2==0) else ([],false)
structure JI where
 cap:List aG
 base:List aG
 ls:List bJ
 left:List Bool
def Ag (cap base:List aG)(ls:List bJ):I:=.agg [.M (.ay (cap.map aV)),.M (.ay (base.map aV)),.M (.ay (ls.map fK))]
structure UY (a:JI) (mem:Mem):Prop where
 at_:mem 394022=some (0,a7 lI a.left)
 no:N8 403 mem
 Ew:qS a.cap a.base a.ls
 aAw:(D a.cap)<=40
 Mo:(D a.base)=D a.cap
 aAx:(D a.left)=D a.cap
 aAy:∀l∈a.ls,0<=l.1/\l.1<D a.cap
def JJ (a:JI):Data:=.dc [.ay ((sk a.cap a.base a.ls a.left).1.map aV),.bool (sk a.cap a.base a.ls a.left).2]
def UZ:List I->Mem->Option Data:=Jy (λ(a:JI) args mem=>args=[Ag a.cap a.base a.ls,.ref 394022 0 1 0 (D a.cap)]/\UY a mem) JJ
def aqX {cap base AJ Ft:List aG}{ls aee:List bJ}(h:Ag cap base ls=Ag AJ Ft aee):cap=AJ/\base=Ft/\ls=aee:=by
 simp only[Ag,I.agg.injEq,bo,I.M.injEq,Data.ay.injEq,and_true] at h;exact⟨map_inj lB _ _ h.1,map_inj lB _ _ h.2.1,map_inj uY _ _ h.2.2⟩
def aqY (a:JI)(mem:Mem)(h:UY a mem):UZ [Ag a.cap a.base a.ls,.ref 394022 0 1 0 (D a.cap)] mem=some (JJ a):=by
 refine aqt (a:=a) ?_ ⟨rfl,h⟩;rintro a b args mem ⟨aK,az⟩ ⟨ee,kU⟩;rw[aK] at ee;simp only[bo] at ee;obtain⟨E,G,ab⟩:=aqX ee.1;have aM:=az.at_;rw[kU.at_] at aM;simp only[bF,ec,true_and] at aM;obtain⟨c,dt,l,f⟩:=a;obtain⟨c',ef,lV,zV⟩:=b;dsimp only at *;subst E G ab;have bl:zV=f:=aec aM;rw[bl]
def JK {l:List Bool}{k:Nat}{b:Bool}(h:l[k]?=some b):oU 1 (pS k (a7 lI l))=[.M (.bool b)]:=by
 have:=Hm (enc:=lI) UU h (f:=0) (n:=1) (by decide);unfold cut at this;rw[dU,ko] at this
 split at this
 ·simpa [lI] using this
 ·cases this
def Fu {l:List Bool}{k:Nat}(h:k<D l):(k+1<=(a7 lI l).length)=True:=eq_true (by rw[mh UU];omega)
def aqZ (T:bj)(ph:T HL=aW JG)(pj:T Hy=aW I6)(a:JI)(mem:Mem)(a2:UY a mem):
  wp T M0.body (tn M0.res λm mem'=>cC 6 emp m=some (JJ a)/\eC 403 mem mem') ⟨jK [Ag a.cap a.base a.ls,.ref 394022 0 1 0 (D a.cap)],mem⟩:=by
 obtain⟨fX,ji,⟨⟨dN,p8⟩,⟨nq,vb⟩,ov⟩,aE,U,ad,fa⟩:=a2;obtain⟨cap,base,ls,left⟩:=a;dsimp only at *;unfold Ag JJ sk;dsimp only;have wP:(allEq cap base ls left).length=D cap:=by unfold allEq;rw[au,A1]
 have JL:∀i,i<(D cap)->(allEq cap base ls left)[i]?=some (q0 cap base ls left i):=λi L=>by
  unfold allEq;rw[bD,qq L]
  rfl
 have Cl:∀x∈allEq cap base ls left,uP x.1:=λx J=>by
  unfold allEq at J;rw[hx] at J;obtain⟨i,L,rfl⟩:=J;rw[pP] at L;have aK:okF (cap.getD i bY):=by rw[eH,bw L];exact p8 _ (iJ L)
  have az:okF (base.getD i bY):=by rw[eH,bw (by omega)];exact vb _ (iJ (by omega))
  unfold q0
  split
  ·exact Fs az aE
  ·exact Fs aK aE
 generalize cY:allEq cap base ls left=A at *;refine xr ?_;simp only[M0];simp only[go_sem,go_sem_proc,au]
 refine du [1,2,6,18] [403002,394022] (λ((i,g):Nat×Nat) tm m=>i<=D cap/\(A.take i).all (·.2)=true/\tm 19=.M (.int .i64 i)/\tm 7=.ref 403051 g 5 0 i/\m 403051=some (g,a7 ky ((A.take i).map (·.1)))/\eC 403 mem m) (λ(i,_)=>D cap-i) (0,0) (by
  refine⟨ej _,by simp,rfl,?_,?_,?_⟩
  ·simp[hL,ji 403051 (by decide),aR]
  ·simp[aR,a7,hL,ji 403051 (by decide)]
  ·repeat first|exact eC.refl _ _|refine eC.er ?_ (by decide)) ?_
 intro vs ms aY aT;simp only[go_sem,go_sem_proc,fX,au] at aY aT;subst aY aT;rintro⟨i,g⟩ tm m O hm ⟨L,dn,rQ,bP,Cm,c7⟩;simp only[go_sem,go_sem_proc,bo] at O hm;obtain⟨cm,dX,fT,Fv⟩:=O;obtain⟨bO,kk⟩:=hm;rcases eo (i<D cap) with av|bM
 ·have d1:decide ((i:Int)<(D cap:Int))=true:=dI;have cR:=hy (i:=i) (by omega);obtain⟨⟨⟨cH,dR⟩,⟨pg,tE⟩⟩,ew⟩:∃f,cap[i]?=some f:=⟨_,bw av⟩;obtain⟨⟨⟨cz,ef⟩,⟨js,jG⟩⟩,gr⟩:∃f,base[i]?=some f:=⟨_,bw (by omega)⟩;obtain⟨p9,eZ⟩:∃f,left[i]?=some f:=⟨_,bw (by omega)⟩;have Fw:=p8 _ (dM ew);have Og:=vb _ (dM gr);have gc:cap.getD i bY=((cH,dR),(pg,tE)):=by rw[eH,ew];rfl
  have Cn:base.getD i bY=((cz,ef),(js,jG)):=by rw[eH,gr];rfl
  have gl:left.getD i false=p9:=by rw[eH,eZ];rfl
  have mw:=JK eZ;have lJ:=Fu (l:=left) (k:=i) (by omega);have JM:=JL i av;have JN:=UO cH dR pg tE [] (D cap) i ⟨Fw,⟨by simp,λx J=>by cases J⟩,aE,av,λl ad=>by cases ad⟩
  have Co:=UO cz ef js jG ls (D cap) i ⟨Og,ov,aE,av,λl ad _=>fa l ad⟩
  have Oh:q0 cap base ls left i=if p9=true then p6 ((cz,ef),(js,jG)) ls (D cap) i else p6 ((cH,dR),(pg,tE)) [] (D cap) i:=by
   unfold q0;rw[gc,Cn,gl]
  rw[cE] at JN;have Bt:A.take (i+1)=A.take i++[q0 cap base ls left i]:=by rw[jl,JM];rfl
  have Oi:(A.take (i+1)).all (·.2)=(q0 cap base ls left i).2:=by rw[Bt,aef,dn];simp
  have Oj:(A.take (i+1)).map (·.1)=(A.take i).map (·.1)++[(q0 cap base ls left i).1]:=by rw[Bt,pZ];rfl
  have b0:((A.take i).map (·.1)).length=i:=by rw[au,hg];omega
  have dP:=λ(bR:eg) cs jL=>oQ M1 (λ_=>rfl) 403051 g 88 ((A.take i).map (·.1)) bR (cs:=cs) jL (by omega) (by omega);simp only[b0] at dP;have oW:(q0 cap base ls left i).2=false->A.all (·.2)=false:=λh=>aed JM h;clear cY JL;rcases p9
  ·simp only[dm,if_false] at Oh;rw[<-Oh] at JN;generalize q0 cap base ls left i=b6 at *;obtain⟨⟨JO,⟨v1,v2⟩,⟨iL,v4⟩⟩,ok⟩:=b6;simp only[ky,aV] at JN;rcases ok
   ·rw[oW rfl];simp only[dm,if_false];refine ao ?_;repeat' (intro (aw:_=_)<;>simp only[aw,go_sem,go_sem_proc,ph,pj,cm,dX,fT,Fv,rQ,bP,bO,kk,Cm,d1,cR,ew,gr,eZ,mw,lJ,av,dU,JN,aV,au,bD]<;>try refine an ?_ ?_)
    exact⟨_,rfl,rfl,by repeat first|exact c7|refine eC.er ?_ (by decide)⟩
   ·have vc:=dP (JO,((v1,v2),(iL,v4))) _ rfl;simp only[ky,aV,hi,cE] at vc;rw[<-Oj] at vc;refine ao ?_;repeat' (intro (aw:_=_)<;>simp only[aw,go_sem,go_sem_proc,ph,pj,cm,dX,fT,Fv,rQ,bP,bO,kk,Cm,d1,cR,ew,gr,eZ,mw,lJ,av,dU,JN,vc,aV,au,bD]<;>try refine an ?_ ?_)
    exact⟨(i+1,g+1),by dsimp only;omega,by dsimp only;omega,Oi,rfl,rfl,rfl,by repeat first|exact c7|refine eC.er ?_ (by decide)⟩
  ·simp only[if_true] at Oh;rw[<-Oh] at Co;generalize q0 cap base ls left i=b6 at *;obtain⟨⟨JO,⟨v1,v2⟩,⟨iL,v4⟩⟩,ok⟩:=b6;simp only[ky,aV] at Co;rcases ok
   ·rw[oW rfl];simp only[dm,if_false];refine ao ?_;repeat' (intro (aw:_=_)<;>simp only[aw,go_sem,go_sem_proc,ph,pj,cm,dX,fT,Fv,rQ,bP,bO,kk,Cm,d1,cR,ew,gr,eZ,mw,lJ,av,dU,Co,aV,au,bD]<;>try refine an ?_ ?_)
    exact⟨_,rfl,rfl,by repeat first|exact c7|refine eC.er ?_ (by decide)⟩
   ·have vc:=dP (JO,((v1,v2),(iL,v4))) _ rfl;simp only[ky,aV,hi,cE] at vc;rw[<-Oj] at vc;refine ao ?_;repeat' (intro (aw:_=_)<;>simp only[aw,go_sem,go_sem_proc,ph,pj,cm,dX,fT,Fv,rQ,bP,bO,kk,Cm,d1,cR,ew,gr,eZ,mw,lJ,av,dU,Co,vc,aV,au,bD]<;>try refine an ?_ ?_)
    exact⟨(i+1,g+1),by dsimp only;omega,by dsimp only;omega,Oi,rfl,rfl,rfl,by repeat first|exact c7|refine eC.er ?_ (by decide)⟩
 ·have d1:decide ((i:Int)<(D cap:Int))=false:=dV;have qa:i=D cap:=by omega
  subst qa;have r8:A.take (D cap)=A:=dx (by omega);rw[r8] at dn Cm;rw[dn];simp only[if_true]
  have e0:=acG (A.map (·.1)) (D cap) ⟨by rw[au];omega,λr Q=>by
   obtain⟨x,J,rfl⟩:=hx.1 Q;exact Cl x J⟩
  have w0:=λ(K:a3->Prop) (st:a3)=>xK (K:=K) (st:=st) M1 7 403051 g (A.map (·.1));rw[au,wP] at w0;generalize l4 (A.map (·.1)) (D cap)=S at *;obtain⟨Ok,e⟩:=S;dsimp only at e0 ⊢;rcases he:(e==0)
  ·refine ao ?_;repeat' (intro (aw:_=_)<;>simp only[aw,go_sem,go_sem_proc,ph,pj,cm,dX,fT,Fv,rQ,bP,bO,kk,Cm,d1,w0,e0,he,au]<;>try refine an ?_ ?_)
   exact⟨_,rfl,rfl,by repeat first|exact c7|refine eC.er ?_ (by decide)|refine eC.kill ?_ (by decide)⟩
  ·refine ao ?_;repeat' (intro (aw:_=_)<;>simp only[aw,go_sem,go_sem_proc,ph,pj,cm,dX,fT,Fv,rQ,bP,bO,kk,Cm,d1,w0,e0,he,au]<;>try refine an ?_ ?_)
   exact⟨_,rfl,rfl,by repeat first|exact c7|refine eC.er ?_ (by decide)|refine eC.kill ?_ (by decide)⟩
def aeg {rs:List eg}{n:Int}(a0:BL rs):ia (l4 rs n).1/\((l4 rs n).2=0->(l4 rs n).1.length=D rs):=by
 have aE:ia ([]:List aG):=⟨by simp,λf ag=>by cases ag⟩
 unfold l4
 split
 ·rename_i Q;obtain⟨-,Fx,lX⟩:=Nz a0 Q;have dD:=acE (stop:=true) lX
  split
  ·exact⟨aE,λh=>by cases h⟩
  ·split
   ·exact⟨aE,λh=>by cases h⟩
   ·refine⟨⟨?_,λf ag=>?_⟩,λ_=>?_⟩
    ·rw[au,dD.len];omega
    ·obtain⟨x,J,rfl⟩:=hx.1 ag;obtain⟨E,G⟩:=dD.row x J;have aC:x.2.2[D rs]?=some x.2.2[D rs]:=bw (by omega);rw[acF aC];exact G _ (dM aC)
    ·rw[au,dD.len]
 ·exact⟨aE,λh=>by cases h⟩
def Ol (x:List aG)(to:Int):∀(ls:List bJ) (s:aG×Bool),okF s.1->okF (u6 x to ls s).1
 | [],s,h=>h
 |l::r,s,h=>by
  unfold u6
  split
  ·exact Ol x to r _ (ad7 x l s)
  ·exact Ol x to r s h
def aeh {cap base:List aG}{ls:List bJ}{left:List Bool}(Z:∀f∈cap,okF f)(U:∀f∈base,okF f)(ad:(D base)=D cap)(aE:(D cap)<=40):ia (sk cap base ls left).1/\((sk cap base ls left).2=true->(sk cap base ls left).1.length=D cap):=by
 unfold sk
 split
 ·have cY:BL ((allEq cap base ls left).map (·.1)):=by
   unfold allEq;refine⟨by rw[au,au,A1];omega,λr Q=>?_⟩
   rw[List.map_map] at Q;obtain⟨i,L,rfl⟩:=hx.1 Q;rw[pP] at L;have aK:okF (cap.getD i bY):=by rw[eH,bw L];exact Z _ (iJ L)
   have az:okF (base.getD i bY):=by rw[eH,bw (by omega)];exact U _ (iJ (by omega))
   simp only[Function.comp];unfold q0
   split
   ·exact Fs az aE
   ·exact Fs aK aE
  obtain⟨E,G⟩:=aeg (n:=(D cap:Int)) cY;refine⟨E,λh=>?_⟩;rw[G (by simpa using h),au];unfold allEq;rw[au,A1]
 ·exact⟨⟨by simp,λf ag=>by cases ag⟩,λh=>by cases h⟩
def ow (cap base:List aG)(ls:List bJ)(left:List Bool)(x:List aG):Nat->Nat->List Nat->Option (List Nat)
 |0,_,acc=>some acc
 |k+1,i,acc=>if left.getD i false=true then ow cap base ls left x k (i+1) acc else
  if (ot (base.getD i bY) ls x i).2=true then (if decide (od (ot (base.getD i bY) ls x i).1 (cap.getD i bY)<0)=true then ow cap base ls left x k (i+1) (acc++[i]) else ow cap base ls left x k (i+1) acc) else none
def lK (left:List Bool)(lv:List Nat):List Bool:=lv.foldl (λl i=>l.set i true) left
def U0 (lv:List Nat):∀left:List Bool,(lK left lv).length=D left:=by
 induction lv with
 |nil=>intro left;rfl
 |cons i lv aD=>intro left;show (lK (left.set i true) lv).length=_;rw[aD,gg]
def aq0 (left:List Bool)(a b:List Nat):lK left (a++b)=lK (lK left a) b:=List.foldl_append
def aq1 (lv:List Nat):∀left:List Bool,(lK left lv).count false<=left.count false:=by
 induction lv with
 |nil=>intro left;exact bI _
 |cons i lv aD =>
  intro left;refine Nat.le_trans (aD (left.set i true)) ?_;rcases fF i (D left) with h|h
  ·rw[aei h];have:((true==false)=true)=False:=by simp
   simp only[this,if_false];omega
  ·rw[List.set_eq_of_length_le h];exact bI _
def U1 {left:List Bool}{i:Nat}{lv:List Nat}(L:i<D left)(h:left.getD i false=false):(lK left (i::lv)).count false<left.count false:=by
 have E:=aq1 lv (left.set i true);have G:left[i]=false:=by rw[eH,bw L] at h;exact h
 have ab:0<left.count false:=List.count_pos_iff.2 (G ▸ iJ L);rw[aei L,G] at E;have:((true==false)=true)=False:=by simp
 simp only[this,if_false,beq_self_eq_true,if_true] at E;show (lK (left.set i true) lv).count false<_;omega
def Om {cap base:List aG}{ls:List bJ}{left:List Bool}{x:List aG}:∀(k i:Nat) (acc lv:List Nat),ow cap base ls left x k i acc=some lv->∀j∈lv,j∈acc\/(i<=j/\j<i+k/\left.getD j false=false)
 |0,i,acc,lv,h,j,aa=>by
  simp only[ow,bF] at h;subst h;exact .inl aa
 |k+1,i,acc,lv,h,j,aa=>by
  unfold ow at h
  split at h
  ·rcases Om k (i+1) acc lv h j aa with E|⟨E,G,ab⟩
   ·exact .inl E
   ·exact .inr ⟨by omega,by omega,ab⟩
  ·rename_i ad
   split at h
   ·split at h
    ·rcases Om k (i+1) _ lv h j aa with E|⟨E,G,ab⟩
     ·simp only[List.mem_append,wq] at E;rcases E with E|rfl
      ·exact .inl E
      ·exact .inr ⟨bI _,by omega,by simpa using ad⟩
     ·exact .inr ⟨by omega,by omega,ab⟩
    ·rcases Om k (i+1) acc lv h j aa with E|⟨E,G,ab⟩
     ·exact .inl E
     ·exact .inr ⟨by omega,by omega,ab⟩
   ·cases h
def On {cap base:List aG}{ls:List bJ}{left:List Bool}{x:List aG}:∀(k i:Nat) (acc lv:List Nat),ow cap base ls left x k i acc=some lv->(D lv)<=D acc+k
 |0,i,acc,lv,h=>by
  simp only[ow,bF] at h;subst h;exact bI _
 |k+1,i,acc,lv,h=>by
  unfold ow at h
  split at h
  ·have:=On k (i+1) acc lv h;omega
  ·split at h
   ·split at h
    ·have:=On k (i+1) _ lv h;rw[la,U2] at this;omega
    ·have:=On k (i+1) acc lv h;omega
   ·cases h
def sl (cap base:List aG)(ls:List bJ):Nat->List Bool->List (List Nat)->List aG×List (List Nat)×Int
 |0,_,_=>([],[],6)
 |k+1,left,rounds=>if (sk cap base ls left).2=true then (match ow cap base ls left (sk cap base ls left).1 (D cap) 0 [] with
  |none=>([],[],6)
  |some []=>((sk cap base ls left).1,rounds,0)
  |some (i::lv)=>sl cap base ls k (lK left (i::lv)) (rounds++[i::lv])) else ([],[],6)
def na (cap base:List aG)(ls:List bJ):List aG×List (List Nat)×Int:=if mv cap base ls=true then sl cap base ls (D cap+1) (bT (D cap) false) [] else ([],[],1)
def qb (l:List Nat):List Data:=[.ay (l.map nF)]
def aej (l:List Nat):(qb l).length=1:=rfl
def aq2 (l:List Nat):((qb l).map I.M).all I.one=true:=rfl
def tF (s:List aG×List (List Nat)×Int):Data:=.dc [.ay (s.1.map aV),.ay (s.2.1.map qb),.int .i64 s.2.2]
def sm {cap base:List aG}{ls:List bJ}(h:mv cap base ls=true):(D base)=D cap/\D cap<=40/\D ls<=400/\(∀l∈ls,0<=l.1/\l.1<D cap/\0<=l.2.1/\l.2.1<D cap/\eV l.2.2=true)/\(∀f∈cap,eV f=true)/\∀f∈base,eV f=true:=by
 unfold mv p3 at h;simp only[dp,lF,decide_eq_false_iff_not,beq_iff_eq,m4] at h;obtain⟨E,⟨G,ab,aM,bl⟩,bz,bP⟩:=h;refine⟨by omega,by omega,by omega,λl ad=>?_,λf ag=>by simpa using bz f ag,λf ag=>by simpa using bP f ag⟩
 have:=bl l ad;unfold o9 at this;simp only[sN,decide_eq_true_eq,lF,not_or,JP] at this;obtain⟨cx,c3,hE,iq,om⟩:=this;exact⟨by omega,by omega,by omega,by omega,om⟩
def aek (n:Nat):(bT n [I.M (.bool false)]).flatten=a7 lI (bT n false):=by
 unfold a7;rw[BY]
 induction n with
 |zero=>rfl
 |succ n aD=>rw[pF,k9,aD,pF,k9,pZ];rfl
def ael {l:List Bool}{k:Nat}(h:k<D l)(b:Bool):oU k (a7 lI l)++[I.M (.bool b)]++pS (k+1) (a7 lI l)=a7 lI (l.set k b):=by
 have:=QV (enc:=lI) UU h b;rw[dU] at this;rw[<-this]
 rfl
def aq3 {l:List Nat}{k:Nat}{b:Nat}(h:l[k]?=some b):oU 1 (pS k (a7 nF l))=[.M (.int .i64 b)]:=by
 have:=Hm (enc:=nF) zW h (f:=0) (n:=1) (by decide);unfold cut at this;rw[dU,ko] at this
 split at this
 ·simpa [nF] using this
 ·cases this
def aq4 {l:List Nat}{k:Nat}(h:k<D l):(k+1<=(a7 nF l).length)=True:=eq_true (by rw[mh zW];omega)
def Cp:=bW tx λ(cap,base,ls)=>cv (qS cap base ls) (.same (tF (na cap base ls)))
@[go_sem] def Oo (cap base ls):=cK Cp rfl Jd (cap,base,ls) rfl
def aq5 (T:bj)(eh:T Bh=aW E0)(nI:T Rz=Jx UZ)(ga:T Bf=aW Fo)(gb:T zj=aW Ev):WF T abq Cp:=by
 refine cp λ(cap,base,ls)=>cN λZ=>⟨rfl,cq ?_⟩;simp only[abq,tx,cg];unfold na;rcases Q:mv cap base ls
 ·simp only[dm,if_false];refine ao ?_;repeat' (intro (aw:_=_)<;>simp only[aw,go_sem,go_sem_proc,eh,nI,ga,gb,Z,Q,tF,cE]<;>try refine an ?_ ?_)
 ·simp only[if_true];obtain⟨U,aE,-,fa,-,-⟩:=sm Q;have qc:=Z;obtain⟨⟨dN,p8⟩,⟨nq,vb⟩,ov⟩:=Z;have I8:(D cap*1<=140737488355328)=True:=eq_true (by omega);have U3:(1*D cap<=140737488355328)=True:=eq_true (by omega);have I9:(D cap<=maxLen)=True:=eq_true (by unfold maxLen;omega);have U4:(D cap<=140737488355328)=True:=eq_true (by omega);have aP:=aek (D cap);generalize aq6:sl cap base ls (D cap+1) (bT (D cap) false) []=SS;simp only[go_sem,go_sem_proc,eh,nI,ga,gb,qc,Q,I8,U3,I9,U4,aP,au]
  refine du [1,5] [394001] (λ((k,left,rounds,g):Nat×List Bool×List (List Nat)×Nat) tm m=>D left=D cap/\left.count false<k/\D rounds+k<=D cap+1/\SS=sl cap base ls k left rounds/\tm 6=.ref 394085 g 1 0 (D rounds)/\m 394022=some (0,a7 lI left)/\m 394085=some (g,a7 qb rounds)/\eC 394 emp m) (λ(k,_,_,_)=>k) (D cap+1,bT (D cap) false,[],0) (by
   refine⟨gv,by rw[JQ];exact JR _,by simp,aq6.symm,rfl,?_,?_,?_⟩
   ·simp[aR]
   ·simp[aR,a7]
   ·repeat first|exact eC.refl _ _|refine eC.er ?_ (by decide)) ?_
  intro vs ms aY aT;simp only[go_sem,go_sem_proc,eh,nI,ga,gb,au] at aY aT;subst aY aT;rintro⟨k,left,rounds,g⟩ tm m O hm ⟨Ad,U5,aAz,cb,bz,kk,ox,c7⟩;simp only[go_sem,go_sem_proc,eh,nI,ga,gb,bo] at O hm;obtain⟨cm,fl⟩:=O;obtain⟨k,rfl⟩:∃k',k=k'+1:=⟨k-1,by omega⟩
  have dK:=aqY ⟨cap,base,ls,left⟩ m ⟨kk,λj aa=>(c7 j (by omega)).trans rfl,qc,aE,U,Ad,λl ad=>⟨(fa l ad).1,(fa l ad).2.1⟩⟩;simp only[Ag,JJ] at dK;obtain⟨aem,aen⟩:=aeh (ls:=ls) (left:=left) p8 vb U aE;rw[sl] at cb;generalize sk cap base ls left=X at *;obtain⟨Cq,ok⟩:=X;dsimp only at dK aem aen cb;rcases ok
  ·simp only[dm,if_false] at cb;rw[cb];refine ao ?_;repeat' (intro (aw:_=_)<;>simp only[aw,go_sem,go_sem_proc,eh,nI,ga,gb,cm,fl,bz,hm,kk,ox,dK,tF,cE,au]<;>try refine an ?_ ?_)
  ·simp only[if_true] at cb;have aq7:=aen rfl;simp only[go_sem,go_sem_proc,eh,nI,ga,gb,cm,fl,bz,hm,kk,ox,dK,au]
   refine du [1,5,6,7,32,33] [394001,394022,394085] (λ((i,acc,Ah):Nat×List Nat×Nat) tm m=>i<=D cap/\D acc<=i/\ow cap base ls left Cq (D cap) 0 []=ow cap base ls left Cq (D cap-i) i acc/\tm 34=.M (.int .i64 i)/\tm 9=.ref 394065 Ah 1 0 (D acc)/\m 394065=some (Ah,a7 nF acc)/\eC 394 emp m) (λ(i,_,_)=>D cap-i) (0,[],hL (m 394065)) (by
    refine⟨ej _,bI _,rfl,rfl,rfl,?_,?_⟩
    ·simp[aR,a7]
    ·repeat first|exact c7|refine eC.er ?_ (by decide)) ?_
   intro vs ms aY aT;simp only[go_sem,go_sem_proc,eh,nI,ga,gb,cm,fl,bz,hm,kk,ox,au] at aY aT;subst aY aT;clear dK bz hm kk ox c7 cm fl tm m;rintro⟨i,acc,Ah⟩ tm m O hm ⟨L,aAA,hp,wR,jj,vd,c7⟩;simp only[go_sem,go_sem_proc,eh,nI,ga,gb,bo] at O hm;obtain⟨cm,fl,fT,hY,Cr,Cs⟩:=O;obtain⟨aU,kk,ox⟩:=hm;rcases eo (i<D cap) with av|bM
   ·have d1:decide ((i:Int)<(D cap:Int))=true:=dI;have cR:=hy (i:=i) (by omega);obtain⟨⟨⟨cH,dR⟩,⟨pg,tE⟩⟩,ew⟩:∃f,cap[i]?=some f:=⟨_,bw av⟩;obtain⟨⟨⟨cz,ef⟩,⟨js,jG⟩⟩,gr⟩:∃f,base[i]?=some f:=⟨_,bw (by omega)⟩;obtain⟨p9,eZ⟩:∃f,left[i]?=some f:=⟨_,bw (by omega)⟩;have Fw:=p8 _ (dM ew);have Og:=vb _ (dM gr);have gc:cap.getD i bY=((cH,dR),(pg,tE)):=by rw[eH,ew];rfl
    have Cn:base.getD i bY=((cz,ef),(js,jG)):=by rw[eH,gr];rfl
    have gl:left.getD i false=p9:=by rw[eH,eZ];rfl
    have mw:=JK eZ;have lJ:=Fu (l:=left) (k:=i) (by omega);have kv:(D cap)-i=(D cap-(i+1))+1:=by omega
    rw[kv] at hp;replace hp:=hp.trans (ow.eq_2 ..);rw[gl,gc,Cn] at hp;rcases p9
    ·simp only[dm,if_false] at hp;have fz:=UM cz ef js jG ls Cq i ⟨Og,ov,aem,λl ad _=>⟨(fa l ad).1,by rw[aq7];exact (fa l ad).2.1⟩⟩
     have JS:okF (ot ((cz,ef),(js,jG)) ls Cq i).1:=Ol Cq i ls _ Og;generalize ot ((cz,ef),(js,jG)) ls Cq i=Gt at *;obtain⟨⟨⟨f1,f2⟩,⟨f3,f4⟩⟩,UL⟩:=Gt;dsimp only at hp JS;simp only[aV] at fz;rcases UL
     ·simp only[dm,if_false] at hp;rw[hp] at cb;rw[cb];refine ao ?_;repeat' (intro (aw:_=_)<;>simp only[aw,go_sem,go_sem_proc,eh,nI,ga,gb,cm,fl,fT,hY,Cr,Cs,wR,jj,aU,kk,ox,vd,d1,cR,ew,gr,eZ,mw,lJ,av,fz,tF,aV,cE,dU,au,bD]<;>try refine an ?_ ?_)
     ·simp only[if_true] at hp;rcases gC:decide (od ((f1,f2),(f3,f4)) ((cH,dR),(pg,tE))<0)
      ·rw[gC] at hp;simp only[dm,if_false] at hp;refine ao ?_;repeat' (intro (aw:_=_)<;>simp only[aw,go_sem,go_sem_proc,eh,nI,ga,gb,cm,fl,fT,hY,Cr,Cs,wR,jj,aU,kk,ox,vd,d1,cR,ew,gr,eZ,mw,lJ,av,fz,gC,Fw.1,Fw.2,JS.1,JS.2,aV,dU,au,bD]<;>try refine an ?_ ?_)
       exact⟨(i+1,acc,Ah),by dsimp only;omega,by dsimp only;omega,by dsimp only;omega,hp,rfl,rfl,rfl,by repeat first|exact c7|refine eC.er ?_ (by decide)⟩
      ·rw[gC] at hp;simp only[if_true] at hp;have dP:=oQ zW acx 394065 Ah 8 acc i (cs:=[.M (.int .i64 i)]) rfl (by omega) (by omega);have gY:(acc++[i]).length=D acc+1:=by simp
       refine ao ?_;repeat' (intro (aw:_=_)<;>simp only[aw,go_sem,go_sem_proc,eh,nI,ga,gb,cm,fl,fT,hY,Cr,Cs,wR,jj,aU,kk,ox,vd,d1,cR,ew,gr,eZ,mw,lJ,av,fz,gC,dP,Fw.1,Fw.2,JS.1,JS.2,aV,dU,au,bD]<;>try refine an ?_ ?_)
       exact⟨(i+1,acc++[i],Ah+1),by dsimp only;omega,by dsimp only;omega,by dsimp only;omega,hp,rfl,by rw[gY],rfl,by repeat first|exact c7|refine eC.er ?_ (by decide)⟩
    ·simp only[if_true] at hp;refine ao ?_;repeat' (intro (aw:_=_)<;>simp only[aw,go_sem,go_sem_proc,eh,nI,ga,gb,cm,fl,fT,hY,Cr,Cs,wR,jj,aU,kk,ox,vd,d1,cR,ew,gr,eZ,mw,lJ,av,aV,dU,au,bD]<;>try refine an ?_ ?_)
     exact⟨(i+1,acc,Ah),by dsimp only;omega,by dsimp only;omega,by dsimp only;omega,hp,rfl,rfl,rfl,by repeat first|exact c7|refine eC.er ?_ (by decide)⟩
   ·have d1:decide ((i:Int)<(D cap:Int))=false:=dV;have qa:i=D cap:=by omega
    subst qa;rw[lS] at hp;replace hp:=hp.trans (ow.eq_1 ..);have gA:=Om _ _ _ _ hp;rw[hp] at cb
    cases acc with
    |nil =>
     dsimp only at cb;rw[cb];have fb:=oR (n:=4) aej ox;refine ao ?_;repeat' (intro (aw:_=_)<;>simp only[aw,go_sem,go_sem_proc,eh,nI,ga,gb,cm,fl,fT,hY,Cr,Cs,wR,jj,aU,kk,ox,vd,d1,fb,tF,ln,au,show (((0:Nat):Int)==0)=true from rfl]<;>try refine an ?_ ?_)
    |cons i0 lv =>
     dsimp only at cb;have a6:((((i0::lv).length:Nat):Int)==0)=false:=by simp;omega
     have zm:i0<D cap/\left.getD i0 false=false:=by
      rcases gA i0 (by simp) with h|⟨-,E,G⟩
      ·cases h
      ·exact⟨by omega,G⟩
     have aq8:∀j∈i0::lv,j<D cap:=λj aa=>by
      rcases gA j aa with h|⟨-,E,G⟩
      ·cases h
      ·omega
     have jm:=U1 (left:=left) (i:=i0) (lv:=lv) (by omega) zm.2;generalize xm:i0::lv=bu at *;simp only[go_sem,go_sem_proc,eh,nI,ga,gb,cm,fl,fT,hY,Cr,Cs,wR,jj,aU,kk,ox,vd,d1,a6,au];refine du [1,5,6,9,72,73] [394001,394065,394085] (λ(j:Nat) tm m=>j<=D bu/\tm 74=.M (.int .i64 j)/\m 394022=some (0,a7 lI (lK left (bu.take j)))/\eC 394 emp m) (λj=>D bu-j) 0 (by refine⟨ej _,rfl,kk,c7⟩) ?_;intro vs ms aY aT;simp only[go_sem,go_sem_proc,eh,nI,ga,gb,cm,fl,fT,hY,jj,aU,ox,vd] at aY aT;subst aY aT;clear cm fl fT hY Cr Cs wR jj aU kk ox vd c7 tm m;rintro j tm m O hm ⟨aa,aeo,kk,c7⟩;simp only[go_sem,go_sem_proc,eh,nI,ga,gb,bo] at O hm;obtain⟨cm,fl,fT,m1,aep,Ct⟩:=O;obtain⟨aU,vd,ox⟩:=hm;rcases eo (j<D bu) with h2|Jp
     ·have d2:decide ((j:Int)<(D bu:Int))=true:=dI;have kD:=hy (i:=j) (by omega);obtain⟨x,J⟩:∃f,bu[j]?=some f:=⟨_,bw h2⟩;have IB:=aq8 x (dM J);have aq9:=aq3 J;have ara:=aq4 (l:=bu) (k:=j) h2;have Lg:(lK left (bu.take j)).length=D cap:=by rw[U0];exact Ad
      have lJ:=Fu (l:=lK left (bu.take j)) (k:=x) (by omega);have Ig:=ael (l:=lK left (bu.take j)) (k:=x) (by omega) true
      have qW:(lK left (bu.take j)).set x true=lK left (bu.take (j+1)):=by
       rw[jl,J,aq0];rfl
      rw[qW] at Ig;refine ao ?_;repeat' (intro (aw:_=_)<;>simp only[aw,go_sem,go_sem_proc,eh,nI,ga,gb,cm,fl,fT,m1,aep,Ct,aeo,aU,kk,vd,ox,d2,kD,aq9,ara,IB,lJ,Ig,h2,dU]<;>try refine an ?_ ?_)
      exact⟨j+1,by omega,by omega,rfl,rfl,by repeat first|exact c7|refine eC.er ?_ (by decide)⟩
     ·have d2:decide ((j:Int)<(D bu:Int))=false:=dV;have arb:j=D bu:=by omega
      subst arb;rw[oc] at kk;have w0:=λ(K:a3->Prop) (st:a3)=>xK (K:=K) (st:=st) zW 9 394065 Ah bu;have dP:=oQ aej aq2 394085 g 24 rounds bu (cs:=[.M (.ay (bu.map nF))]) rfl (by omega) (by omega);have b0:(rounds++[bu]).length=D rounds+1:=by simp
      refine ao ?_;repeat' (intro (aw:_=_)<;>simp only[aw,go_sem,go_sem_proc,eh,nI,ga,gb,cm,fl,fT,m1,aep,Ct,aeo,aU,kk,vd,ox,d2,w0,dP,au]<;>try refine an ?_ ?_)
      exact⟨(k,lK left bu,rounds++[bu],g+1),by dsimp only;omega,by rw[U0];exact Ad,by dsimp only;omega,by dsimp only;omega,cb,by rw[b0],rfl,rfl,by repeat first|exact c7|refine eC.er ?_ (by decide)|refine eC.kill ?_ (by decide)⟩
def oy (cap:List aG)(i:Nat)(s:List Bool×Bool):List Bool×Bool:=if (!(s.1.getD i false)&&decide ((cap.getD i bY).1.1>0))=true then (s.1.set i true,true) else s
structure JT where
 i:Nat
 g:Nat
 cap:List aG
 base:List aG
 ls:List bJ
 s:List Bool×Bool
structure U6 (a:JT) (mem:Mem):Prop where
 hn:mem 392005=some (0,[.ref 392021 0 1 0 (D a.cap)])
 aU:mem 392001=some (0,[.M (.ay (a.cap.map aV)),.M (.ay (a.base.map aV)),.M (.ay (a.ls.map fK))])
 gF:mem 392006=some (a.g,[.M (.bool a.s.2)])
 ir:mem 392021=some (0,a7 lI a.s.1)
 len:a.s.1.length=D a.cap
 lt:a.i<D a.cap
def JU (i g:Nat):List I:=[.M (.int .i64 i),.ptr 392005 0 0,.ptr 392001 0 0,.ptr 392006 g 0]
def Cu (a:JT)(mem:Mem):I->Mem->Prop:=λ_ mem'=>mem' 392021=some (0,a7 lI (oy a.cap a.i a.s).1)/\mem' 392006=some (a.g,[.M (.bool (oy a.cap a.i a.s).2)])/\∀k:Nat,k≠392021->k≠392006->mem' k=mem k
def JV:List I->Mem->Option (I->Mem->Prop):=BQ (λ(a:JT) args mem=>args=JU a.i a.g/\U6 a mem) Cu
def arc (a:JT)(mem:Mem)(h:U6 a mem):JV (JU a.i a.g) mem=some (Cu a mem):=by
 unfold JV;refine Tb (a:=a) ?_ ⟨rfl,h⟩;rintro a b args mem ⟨E,G⟩ ⟨cm,dX⟩;rw[E] at cm;have aK:=G.aU;have sn:=G.gF;have MS:=G.ir;rw[dX.aU] at aK;rw[dX.gF] at sn;rw[dX.ir] at MS;obtain⟨i,g,c,U7,l,s,cz⟩:=a;obtain⟨aZ,cd,c',aAB,lV,xq,dt⟩:=b;simp only[JU,bo,I.M.injEq,Data.int.injEq,Data.ay.injEq,Data.bool.injEq,bF,ec,true_and,and_true,I.ptr.injEq] at cm aK sn MS;obtain⟨fe,fJ,gS⟩:=aK;have:=map_inj lB _ _ fe;have:=map_inj lB _ _ fJ;have:=map_inj uY _ _ gS;have:=aec MS;obtain⟨cm,-⟩:=cm;have:i=aZ:=by omega
 simp_all
def ard (T:bj)(a:JT)(mem:Mem)(a2:U6 a mem):wp T MY.body (tn MY.res (Cu a mem)) ⟨jK (JU a.i a.g),mem⟩:=by
 obtain⟨hn,aU,gF,ir,ad,av⟩:=a2;obtain⟨i,g,cap,base,ls,fed,more⟩:=a;dsimp only at *;obtain⟨⟨⟨cH,dR⟩,⟨pg,tE⟩⟩,ew⟩:∃f,cap[i]?=some f:=⟨_,bw av⟩;obtain⟨p9,eZ⟩:∃f,fed[i]?=some f:=⟨_,bw (by omega)⟩;have gc:cap.getD i bY=((cH,dR),(pg,tE)):=by rw[eH,ew];rfl
 have gl:fed.getD i false=p9:=by rw[eH,eZ];rfl
 have mw:=JK eZ;have lJ:=Fu (l:=fed) (k:=i) (by omega);have Ig:=ael (l:=fed) (k:=i) (by omega) true;have iF:i<D fed:=by omega
 unfold Cu oy JU;dsimp only;rw[gc,gl];refine xr ?_;simp only[MY];rcases p9
 ·rcases ae:decide (cH>0)
  ·refine ao ?_;repeat' (intro h<;>simp only[h,go_sem,go_sem_proc,hn,aU,gF,ir,ew,mw,lJ,av,ae,aV,dU,au,bD]<;>try refine an ?_ ?_)
   exact⟨_,rfl,λ_ _ _=>trivial⟩
  ·refine ao ?_;repeat' (intro h<;>simp only[h,go_sem,go_sem_proc,hn,aU,gF,ir,ew,mw,lJ,Ig,av,ae,aV,dU,au,bD]<;>try refine an ?_ ?_)
   refine⟨_,rfl,λk E G=>?_⟩;rw[ar G,ar E]
 ·refine ao ?_;repeat' (intro h<;>simp only[h,go_sem,go_sem_proc,hn,aU,gF,ir,ew,mw,lJ,av,aV,dU,au,bD]<;>try refine an ?_ ?_)
  exact⟨_,rfl,λ_ _ _=>trivial⟩
def qd (cap base:List aG):Nat->Nat->List Bool×Bool->List Bool×Bool
 |0,_,s=>s
 |k+1,i,s=>qd cap base k (i+1) (if decide ((base.getD i bY).1.1>0)=true then oy cap i s else s)
def q1 (cap:List aG):List bJ->List Bool×Bool->List Bool×Bool
 | [],s=>s
 |l::r,s=>q1 cap r (if (s.1.getD l.1.toNat false&&decide (l.2.2.1.1>0))=true then oy cap l.2.1.toNat s else s)
def so (cap base:List aG)(ls:List bJ)(fed:List Bool):List Bool×Bool:=q1 cap ls (qd cap base (D cap) 0 (fed,false))
def yA (cap base:List aG)(ls:List bJ):Nat->List Bool->List Bool
 |0,fed=>fed
 |k+1,fed=>if (so cap base ls fed).2=true then yA cap base ls k (so cap base ls fed).1 else (so cap base ls fed).1
def tG (cap base:List aG)(ls:List bJ):List Bool:=yA cap base ls (D cap+1) (bT (D cap) false)
def ve (fed:List Bool):Nat->Nat->List aG->List aG
 |0,_,c=>c
 |k+1,i,c=>ve fed k (i+1) (if fed.getD i false=true then c else c.set i fM)
def tH (cap base:List aG)(ls:List bJ):List aG:=ve (tG cap base ls) (D cap) 0 cap
def w2 (cap base:List aG)(ls:List bJ):List aG×List (List Nat)×Int:=if mv cap base ls=true then na (tH cap base ls) base ls else ([],[],1)
def Ai (n c0:Nat)(s:List Bool×Bool):Prop:=s.1.length=n/\s.1.count false<=c0/\(s.2=true->s.1.count false<c0)
def Oq {cap:List aG}{i n c0:Nat}{s:List Bool×Bool}(h:Ai n c0 s)(L:i<n):Ai n c0 (oy cap i s):=by
 obtain⟨E,G,ab⟩:=h;unfold oy
 split
 ·rename_i Z;rw[dp] at Z;have ag:s.1.getD i false=false:=by simpa using Z.1
  have aM:=U1 (left:=s.1) (i:=i) (lv:=[]) (by omega) ag;have bl:lK s.1 [i]=s.1.set i true:=rfl;rw[bl] at aM;exact⟨by rw[gg];exact E,by dsimp only;omega,λ_=>by dsimp only;omega⟩
 ·exact⟨E,G,ab⟩
def U8 {cap base:List aG}{n c0:Nat}:∀(k i:Nat) (s:List Bool×Bool),Ai n c0 s->i+k<=n->Ai n c0 (qd cap base k i s)
 |0,_,_,h,_=>h
 |k+1,i,s,h,ad=>by
  unfold qd;refine U8 k (i+1) _ ?_ (by omega)
  split
  ·exact Oq h (by omega)
  ·exact h
def U9 {cap:List aG}{n c0:Nat}:∀(ls:List bJ) (s:List Bool×Bool),Ai n c0 s->(∀l∈ls,0<=l.2.1/\l.2.1<n)->Ai n c0 (q1 cap ls s)
 | [],_,h,_=>h
 |l::r,s,h,ad=>by
  unfold q1;refine U9 r _ ?_ λx J=>ad x (by simp[J]);have:=ad l (by simp)
  split
  ·exact Oq h (by omega)
  ·exact h
def JW {fed:List Bool}:∀(k i:Nat) (c:List aG),(∀f∈c,okF f)->(ve fed k i c).length=D c/\∀f∈ve fed k i c,okF f
 |0,_,c,h=>⟨rfl,h⟩
 |k+1,i,c,h=>by
  unfold ve
  split
  ·exact JW k (i+1) c h
  ·have:=JW (fed:=fed) k (i+1) (c.set i fM) λf ag=>by
    rcases tp ag with ag|rfl
    ·exact h f ag
    ·exact Ck
   rw[gg] at this;exact this
def Ot:=bW tx λ(cap,base,ls)=>cv (qS cap base ls) (.same (tF (w2 cap base ls)))
@[go_sem] def are (cap base ls):=cK Ot rfl Jd (cap,base,ls) rfl
def arf (T:bj)(eh:T Bh=aW E0)(ja:T Rx=yj JV)(ff:T DI=aW EU)(eD:T sW=aW B1)(ep:T xU=aW Cp):WF T abp Ot:=by
 refine cp λ(cap,base,ls)=>cN λZ=>⟨rfl,cq ?_⟩;simp only[abp,tx,cg];unfold w2;rcases Q:mv cap base ls
 ·simp only[dm,if_false];refine ao ?_;repeat' (intro (aw:_=_)<;>simp only[aw,go_sem,go_sem_proc,eh,ja,ff,eD,ep,Z,Q,tF,cE]<;>try refine an ?_ ?_)
 ·simp only[if_true];obtain⟨U,aE,Va,fa,-,-⟩:=sm Q;have qc:=Z;obtain⟨⟨dN,p8⟩,⟨nq,vb⟩,ov⟩:=Z;have I8:(D cap*1<=140737488355328)=True:=eq_true (by omega);have U3:(1*D cap<=140737488355328)=True:=eq_true (by omega);have I9:(D cap<=maxLen)=True:=eq_true (by unfold maxLen;omega);have U4:(D cap<=140737488355328)=True:=eq_true (by omega);have aP:=aek (D cap);unfold tH tG;generalize arh:yA cap base ls (D cap+1) (bT (D cap) false)=bW;simp only[go_sem,go_sem_proc,eh,ja,ff,eD,ep,qc,Q,I8,U3,I9,U4,aP,au]
  refine du [1,5] [392001,392005] (λ((k,fed,more,g):Nat×List Bool×Bool×Nat) tm m=>D fed=D cap/\bW=(if more=true then yA cap base ls k fed else fed)/\(more=true->fed.count false<k)/\tm 6=.ptr 392006 g 0/\m 392006=some (g,[.M (.bool more)])/\m 392021=some (0,a7 lI fed)/\eC 392 emp m) (λ(k,_,_,_)=>k) (D cap+1,bT (D cap) false,true,0) (by
   refine⟨gv,arh.symm,λ_=>by rw[JQ];exact JR _,rfl,?_,?_,?_⟩
   ·simp[aR]
   ·simp[aR]
   ·repeat first|exact eC.refl _ _|refine eC.er ?_ (by decide)) ?_
  intro vs ms aY aT;simp only[go_sem,go_sem_proc,eh,ja,ff,eD,ep,au] at aY aT;subst aY aT;rintro⟨k,fed,more,g⟩ tm m O hm ⟨kO,cb,U5,bz,gF,ir,c7⟩;simp only[go_sem,go_sem_proc,eh,ja,ff,eD,ep,bo] at O hm;obtain⟨cm,fl⟩:=O;obtain⟨aU,hn⟩:=hm;rcases more
  ·simp only[dm,if_false] at cb;subst cb;have ari:=aoA cap dN;have h3:(cap.map aV).flatten.map I.M=a7 aV cap:=rfl;simp only[go_sem,go_sem_proc,eh,ja,ff,eD,ep,cm,fl,bz,aU,hn,gF,ir,ari,h3,kO,au];generalize aeq:ve bW (D cap) 0 cap=JX at *;have fG:=JW (fed:=bW) (D cap) 0 cap p8;rw[aeq] at fG
   refine du [12,73,74] [392012,392021] (λ((i,c):Nat×List aG) tm m'=>i<=D cap/\D c=D cap/\JX=ve bW (D cap-i) i c/\tm 75=.M (.int .i64 i)/\m' 392067=some (hL (m 392067),a7 aV c)/\eC 392 emp m') (λ(i,_)=>D cap-i) (0,cap) (by
    refine⟨ej _,rfl,aeq.symm,rfl,?_,?_⟩
    ·simp[aR]
    ·repeat first|exact c7|refine eC.er ?_ (by decide)) ?_
   generalize hL (m 392067)=bc;intro vs ms aY aT;simp only[go_sem,go_sem_proc,eh,ja,ff,eD,ep,cm,fl,bz,aU,hn,gF,ir,kO] at aY aT;subst aY aT;generalize hL (m 392012)=G2;clear bz aU hn gF ir c7 cm fl tm m;rintro⟨i,c⟩ tm m O hm ⟨L,xo,hp,Ou,JY,c7⟩;simp only[go_sem,go_sem_proc,eh,ja,ff,eD,ep,bo] at O hm;obtain⟨m3,Ct,Ov⟩:=O;obtain⟨JZ,ir⟩:=hm;rcases eo (i<D cap) with av|bM
   ·have d1:decide ((i:Int)<(D cap:Int))=true:=dI;have cR:=hy (i:=i) (by omega);obtain⟨p9,eZ⟩:∃f,bW[i]?=some f:=⟨_,bw (by omega)⟩;have gl:bW.getD i false=p9:=by rw[eH,eZ];rfl
    have mw:=JK eZ;have lJ:=Fu (l:=bW) (k:=i) (by omega);have kv:(D cap)-i=(D cap-(i+1))+1:=by omega
    rw[kv] at hp;replace hp:=hp.trans (ve.eq_2 ..);rw[gl] at hp;have pG:=E1 0 (by unfold dQ;omega);rw[show bU ((0:Int):Rat)=fM from rfl] at pG;generalize fM=qZ at *;obtain⟨⟨gE,hl⟩,⟨p7,sj⟩⟩:=qZ;simp only[aV] at pG;have dR:=zO (l:=c) (k:=i) (by omega);have pg:=IM (l:=c) (k:=i) (by omega) gE hl p7 sj;have aAC:i<D bW:=by omega
    rcases p9
    ·simp only[dm,if_false] at hp;refine ao ?_;repeat' (intro (aw:_=_)<;>simp only[aw,go_sem,go_sem_proc,eh,ja,ff,eD,ep,m3,Ct,Ov,Ou,JZ,ir,JY,d1,cR,mw,lJ,av,pG,dR,pg,dU,au]<;>try refine an ?_ ?_)
     exact⟨(i+1,c.set i ((gE,hl),(p7,sj))),by dsimp only;omega,by dsimp only;omega,by rw[gg];exact xo,hp,rfl,rfl,by repeat first|exact c7|refine eC.er ?_ (by decide)⟩
    ·simp only[if_true] at hp;refine ao ?_;repeat' (intro (aw:_=_)<;>simp only[aw,go_sem,go_sem_proc,eh,ja,ff,eD,ep,m3,Ct,Ov,Ou,JZ,ir,JY,d1,cR,mw,lJ,av,dU,au]<;>try refine an ?_ ?_)
     exact⟨(i+1,c),by dsimp only;omega,by dsimp only;omega,xo,hp,rfl,rfl,c7⟩
   ·have d1:decide ((i:Int)<(D cap:Int))=false:=dV;have qa:i=D cap:=by omega
    subst qa;rw[lS] at hp;replace hp:=hp.trans (ve.eq_1 ..);subst hp;have e0:=Oo JX base ls ⟨⟨by omega,fG.2⟩,⟨nq,vb⟩,ov⟩
    have fb:=oR (n:=0) nC JY;rw[xo] at fb;generalize na JX base ls=S at *;obtain⟨Ok,J0,aer⟩:=S;simp only[tF] at e0;simp only[go_sem,go_sem_proc,eh,ja,ff,eD,ep,m3,Ct,Ov,Ou,JZ,ir,JY,d1];refine aqv (kc:=392012) (gc:=G2) (off:=0) (cc:=[.ref 392067 bc 4 0 (D cap),.M (.ay (base.map aV)),.M (.ay (ls.map fK))]) (k:=392067) (g:=bc) (sz:=4) (o:=0) (len:=D cap) (cs:=a7 aV JX) (d:=.ay (JX.map aV)) ?_ ?_ rfl JY (YE _ _) (by decide) fb ?_
    ·simp only[aI,tP,yr,if_false];exact m3
    ·exact JZ
    refine ao ?_;repeat' (intro (aw:_=_)<;>simp only[aw,go_sem,go_sem_proc,eh,ja,ff,eD,ep,m3,Ct,Ov,Ou,JZ,e0,tF,List.set_cons_zero]<;>try refine an ?_ ?_)
  ·simp only[if_true] at cb;have y4:0<k:=by have:=U5 rfl;omega
   obtain⟨k,rfl⟩:∃k',k=k'+1:=⟨k-1,by omega⟩
   have cb:=cb.trans (yA.eq_2 ..);have arj:Ai (D cap) (fed.count false) (so cap base ls fed):=U9 ls _ (U8 (D cap) 0 (fed,false) ⟨kO,bI _,λh=>by cases h⟩ (by omega)) λl ad=>⟨(fa l ad).2.2.1,(fa l ad).2.2.2.1⟩;have aes:so cap base ls fed=q1 cap ls (qd cap base (D cap) 0 (fed,false)):=rfl;generalize aAD:so cap base ls fed=PE at *
   have ey:∀(i:Nat) (s:List Bool×Bool) (mem:Mem),i<(D cap)->s.1.length=(D cap)->mem 392005=some (0,[.ref 392021 0 1 0 (D cap)])->mem 392001=m 392001->mem 392006=some (g,[.M (.bool s.2)])->mem 392021=some (0,a7 lI s.1)->JV [.M (.int .i64 i),.ptr 392005 0 0,.ptr 392001 0 0,.ptr 392006 g 0] mem=some (Cu ⟨i,g,cap,base,ls,s⟩ mem):=λi s mem aK az ee kU kC sn =>
    arc ⟨i,g,cap,base,ls,s⟩ mem ⟨ee,kU.trans aU,kC,sn,az,aK⟩
   simp only[go_sem,go_sem_proc,eh,ja,ff,eD,ep,cm,fl,bz,aU,hn,gF,ir,au]
   refine du [1,5,6,7,25,26] [392001,392005] (λ((i,s):Nat×List Bool×Bool) tm m=>i<=D cap/\s.1.length=D cap/\qd cap base (D cap) 0 (fed,false)=qd cap base (D cap-i) i s/\tm 27=.M (.int .i64 i)/\m 392006=some (g,[.M (.bool s.2)])/\m 392021=some (0,a7 lI s.1)/\eC 392 emp m) (λ(i,_)=>D cap-i) (0,fed,false) (by
    refine⟨ej _,kO,rfl,rfl,?_,ir,?_⟩
    ·simp[aR]
    ·repeat first|exact c7|refine eC.er ?_ (by decide)) ?_
   intro vs ms aY aT;simp only[go_sem,go_sem_proc,eh,ja,ff,eD,ep,cm,fl,bz,aU,hn,U,au] at aY aT;subst aY aT;rw[aU] at ey;clear gF ir c7 cm fl bz aU hn tm m;rintro⟨i,s⟩ tm m O hm ⟨L,qW,q2,mn,gF,ir,c7⟩;simp only[go_sem,go_sem_proc,eh,ja,ff,eD,ep,bo] at O hm;obtain⟨cm,fl,fT,hY,oz,lH⟩:=O;obtain⟨aU,hn⟩:=hm;rcases eo (i<D cap) with av|bM
   ·have d1:decide ((i:Int)<(D cap:Int))=true:=dI;have cR:=hy (i:=i) (by omega);obtain⟨⟨⟨cz,ef⟩,⟨js,jG⟩⟩,gr⟩:∃f,base[i]?=some f:=⟨_,bw (by omega)⟩;have Cn:base.getD i bY=((cz,ef),(js,jG)):=by rw[eH,gr];rfl
    have kv:(D cap)-i=(D cap-(i+1))+1:=by omega
    rw[kv] at q2;replace q2:=q2.trans (qd.eq_2 ..);rw[Cn] at q2;rcases ae:decide (cz>0)
    ·rw[ae] at q2;simp only[dm,if_false] at q2;refine ao ?_;repeat' (intro (aw:_=_)<;>simp only[aw,go_sem,go_sem_proc,eh,ja,ff,eD,ep,cm,fl,fT,hY,oz,lH,mn,aU,hn,gF,ir,d1,cR,gr,ae,aV,au,bD]<;>try refine an ?_ ?_)
     exact⟨(i+1,s),by dsimp only;omega,by dsimp only;omega,qW,q2,rfl,rfl,rfl,by repeat first|exact c7|refine eC.er ?_ (by decide)⟩
    ·rw[ae] at q2;simp only[if_true] at q2;have Vb:=λmem=>ey i s mem av qW;have Bw:(oy cap i s).1.length=D cap:=(Oq (n:=D cap) (c0:=s.1.count false+1) ⟨qW,by omega,λ_=>by omega⟩ av).1;simp only[go_sem,go_sem_proc,eh,ja,ff,eD,ep,cm,fl,fT,hY,oz,lH,mn,aU,hn,gF,ir,d1,cR,gr,ae,aV,au,bD];rw[Vb _ (by simp[aR,hn]) (by simp[aR,aU]) (by simp[aR,gF]) (by simp[aR,ir])];simp only[go_sem,go_sem_proc,eh,ja,ff,eD,ep];intro wQ m' dK;unfold Cu at dK;dsimp only at dK;obtain⟨Vc,tC,qY⟩:=dK;have gf:=qY 392001 (by decide) (by decide);have vf:=qY 392005 (by decide) (by decide)
     have Vd:eC 392 emp m':=λj aa=>by
      rw[qY j (λh=>aa (by rw[h])) (λh=>aa (by rw[h]))];have:eC 392 emp (aR (aR m 392009 (hL (m 392009)) [.M (.int .i64 0),.nil,.M (.int .i64 0),.nil]) 392009 (hL (m 392009)) [.M (.int .i64 cz),.M (.ay (ef.map aJ)),.M (.int .i64 js),.M (.ay (jG.map aJ))]):=by repeat first|exact c7|refine eC.er ?_ (by decide)
      exact this j aa
     simp only[go_sem,go_sem_proc,eh,ja,ff,eD,ep,aU,hn] at gf vf;generalize oy cap i s=J0 at *;refine ao ?_;repeat' (intro (aw:_=_)<;>simp only[aw,go_sem,go_sem_proc,eh,ja,ff,eD,ep,cm,fl,fT,hY,oz,lH,mn,gf,vf,tC,Vc,cR]<;>try refine an ?_ ?_)
     exact⟨(i+1,J0),by dsimp only;omega,by dsimp only;omega,Bw,q2,rfl,rfl,rfl,Vd⟩
   ·have d1:decide ((i:Int)<(D cap:Int))=false:=dV;have qa:i=D cap:=by omega
    subst qa;rw[lS] at q2;replace q2:=q2.trans (qd.eq_1 ..);rw[q2] at aes;simp only[go_sem,go_sem_proc,eh,ja,ff,eD,ep,cm,fl,fT,hY,oz,lH,mn,aU,hn,gF,ir,d1,au];refine du [1,5,6,7,41,42] [392001,392005] (λ((j,s):Nat×List Bool×Bool) tm m=>j<=D ls/\s.1.length=D cap/\PE=q1 cap (ls.drop j) s/\tm 43=.M (.int .i64 j)/\m 392006=some (g,[.M (.bool s.2)])/\m 392021=some (0,a7 lI s.1)/\eC 392 emp m) (λ(j,_)=>D ls-j) (0,s) (by refine⟨ej _,qW,aes,rfl,gF,ir,c7⟩) ?_;intro vs ms aY aT;simp only[go_sem,go_sem_proc,eh,ja,ff,eD,ep,cm,fl,fT,hY,aU,hn,au] at aY aT;subst aY aT;clear gF ir c7 cm fl fT hY oz lH mn aU hn tm m;rintro⟨j,s2⟩ tm m O hm ⟨aa,gR,j9,yB,gF,ir,c7⟩;simp only[go_sem,go_sem_proc,eh,ja,ff,eD,ep,bo] at O hm;obtain⟨cm,fl,fT,hY,J1,yC⟩:=O;obtain⟨aU,hn⟩:=hm;rcases eo (j<D ls) with h2|Jp
    ·have d2:decide ((j:Int)<(D ls:Int))=true:=dI;have kD:=hy (i:=j) (by omega);obtain⟨⟨a,c,⟨w1,fw⟩,⟨ark,arl⟩⟩,eZ⟩:∃l,ls[j]?=some l:=⟨_,bw h2⟩;obtain⟨Fp,gY,rO,arn,-⟩:=fa _ (dM eZ);dsimp only at Fp gY rO arn;obtain⟨a,rfl⟩:=JB Fp;obtain⟨c,rfl⟩:=JB rO;have Ve:a<D cap:=by omega
     have Nr:c<D cap:=by omega
     have qG:ls.drop j=((a:Int),(c:Int),((w1,fw),(ark,arl)))::ls.drop (j+1):=by
      obtain⟨ad,e⟩:=dh.1 eZ;rw[gK ad,e]
     rw[qG] at j9;simp only[q1,mY] at j9;obtain⟨p9,aet⟩:∃f,s2.1[a]?=some f:=⟨_,bw (by omega)⟩;have gl:s2.1.getD a false=p9:=by rw[eH,aet];rfl
     have mw:=JK aet;have lJ:=Fu (l:=s2.1) (k:=a) (by omega);rw[gl] at j9;rcases p9
     ·simp only[h9,dm,if_false] at j9;refine ao ?_;repeat' (intro (aw:_=_)<;>simp only[aw,go_sem,go_sem_proc,eh,ja,ff,eD,ep,cm,fl,fT,hY,J1,yC,yB,aU,hn,gF,ir,d2,kD,eZ,mw,lJ,Ve,fK,aV,dU,au,bD]<;>try refine an ?_ ?_)
      exact⟨(j+1,s2),by dsimp only;omega,by dsimp only;omega,gR,j9,rfl,rfl,rfl,by repeat first|exact c7|refine eC.er ?_ (by decide)⟩
     ·rcases ae:decide (w1>0)
      ·rw[ae] at j9;simp only[jV,dm,if_false] at j9;refine ao ?_;repeat' (intro (aw:_=_)<;>simp only[aw,go_sem,go_sem_proc,eh,ja,ff,eD,ep,cm,fl,fT,hY,J1,yC,yB,aU,hn,gF,ir,d2,kD,eZ,mw,lJ,Ve,ae,fK,aV,dU,au,bD]<;>try refine an ?_ ?_)
       exact⟨(j+1,s2),by dsimp only;omega,by dsimp only;omega,gR,j9,rfl,rfl,rfl,by repeat first|exact c7|refine eC.er ?_ (by decide)⟩
      ·rw[ae] at j9;simp only[JE,if_true] at j9;have Vb:=λmem=>ey c s2 mem Nr gR;have Bw:(oy cap c s2).1.length=D cap:=(Oq (n:=D cap) (c0:=s2.1.count false+1) ⟨gR,by omega,λ_=>by omega⟩ Nr).1;simp only[go_sem,go_sem_proc,eh,ja,ff,eD,ep,cm,fl,fT,hY,J1,yC,yB,aU,hn,gF,ir,d2,kD,eZ,mw,lJ,Ve,ae,fK,aV,dU,au,bD];rw[Vb _ (by simp[aR,hn]) (by simp[aR,aU]) (by simp[aR,gF]) (by simp[aR,ir])];simp only[go_sem,go_sem_proc,eh,ja,ff,eD,ep];intro wQ m' dK;unfold Cu at dK;dsimp only at dK;obtain⟨Vc,tC,qY⟩:=dK;have gf:=qY 392001 (by decide) (by decide);have vf:=qY 392005 (by decide) (by decide)
       have Vd:eC 392 emp m':=λq aL=>by
        rw[qY q (λh=>aL (by rw[h])) (λh=>aL (by rw[h]))]
        revert q aL
        show eC 392 emp _
        repeat first|exact c7|refine eC.er ?_ (by decide)
       simp only[go_sem,go_sem_proc,eh,ja,ff,eD,ep,aU,hn] at gf vf;generalize oy cap c s2=J0 at *;refine ao ?_;repeat' (intro (aw:_=_)<;>simp only[aw,go_sem,go_sem_proc,eh,ja,ff,eD,ep,cm,fl,fT,hY,J1,yC,yB,gf,vf,tC,Vc,kD]<;>try refine an ?_ ?_)
       exact⟨(j+1,J0),by dsimp only;omega,by dsimp only;omega,Bw,j9,rfl,rfl,rfl,Vd⟩
    ·have d2:decide ((j:Int)<(D ls:Int))=false:=dV;have jY:ls.drop j=[]:=mH (by omega);rw[jY] at j9;simp only[q1] at j9;subst j9;obtain⟨f2,aro⟩:=PE;obtain⟨nX,nY,yp⟩:=arj;dsimp only at nX nY yp cb gF ir;refine ao ?_;repeat' (intro (aw:_=_)<;>simp only[aw,go_sem,go_sem_proc,eh,ja,ff,eD,ep,cm,fl,fT,hY,J1,yC,yB,aU,hn,gF,ir,d2]<;>try refine an ?_ ?_)
     exact⟨(k,f2,aro,g+1),by dsimp only;omega,nX,cb,λh=>by have:=yp h;have:=U5 rfl;dsimp only;omega,rfl,rfl,rfl,by repeat first|exact c7|refine eC.er ?_ (by decide)⟩
def Vf {ls:List bJ}{n:Int}(h:p3 ls n=true):0<=n/\n<=40/\D ls<=400/\∀l∈ls,0<=l.1/\l.1<n/\0<=l.2.1/\l.2.1<n/\eV l.2.2=true:=by
 unfold p3 at h;simp only[dp,lF,decide_eq_false_iff_not,m4] at h;obtain⟨G,ab,aM,bl⟩:=h;refine⟨by omega,by omega,by omega,λl ad=>?_⟩
 have:=bl l ad;unfold o9 at this;simp only[sN,decide_eq_true_eq,lF,not_or,JP] at this;obtain⟨a,b,c,d,e⟩:=this;exact⟨by omega,by omega,by omega,by omega,e⟩
def Aj (ls:List bJ)(x:List aG):Nat->Nat->Bool
 |0,_=>true
 |k+1,i=>if ((ot fM ls x i).2 && !decide (od (x.getD i bY) (ot fM ls x i).1<=0))=true then Aj ls x k (i+1) else false
def sq (ls:List bJ)(n:Int)(x:List aG):Bool:=p3 ls n&&(((D x:Int)==n)&&(!(x.any λf => !eV f||(f.1.1==0))&&Aj ls x (D x) 0))
def aeu {base:aG}{ls:List bJ}{x:List aG}{to:Int}(h:okF base):okF (ot base ls x to).1:=Ol x to ls (base,true) h
abbrev Ow:(List bJ)×Int×(List aG)->List Data:=λ(ls,n,x)=>[.ay (ls.map fK),.int .i64 n,.ay (x.map aV)]
def J2:=bW Ow λ(ls,n,x)=>cv (sa ls/\ia x) (.same (.bool (sq ls n x)))
def arp:∀a b,Ow a=Ow b->a=b:=by
  rintro⟨z0,rq,fe⟩ ⟨z1,rr,fJ⟩ h;simp only[bo,Data.ay.injEq,Data.int.injEq] at h;exact cO (map_inj uY _ _ h.1) (cO h.2.1.2 (map_inj lB _ _ h.2.2.1))
@[go_sem] def Vg (ls n x):=cK J2 rfl arp (ls,n,x) rfl
def arq (T:bj)(ki:T Bi=aW EZ)(fZ:T sS=aW r0)(eD:T sW=aW B1)(ga:T Bf=aW Fo)(gb:T zj=aW Ev):WF T abl J2:=by
 refine cp λ(ls,n,x)=>cN λZ=>⟨rfl,cq ?_⟩;simp only[abl,Ow,cg];obtain⟨J3,J⟩:=Z;unfold sq;rcases aK:p3 ls n
 ·refine ao ?_;repeat' (intro h<;>simp only[h,go_sem,go_sem_proc,ki,fZ,eD,ga,gb,J3,aK,au,cC,l9,kz,scalar]<;>try refine an ?_ ?_)
 ·rcases az:((D x:Int)==n)
  ·refine ao ?_;repeat' (intro h<;>simp only[h,go_sem,go_sem_proc,ki,fZ,eD,ga,gb,J3,aK,az,au,cC,l9,kz,scalar]<;>try refine an ?_ ?_)
  ·rcases ee:x.any λf => !eV f||(f.1.1==0)
   ·obtain⟨ak,Fx,Va,fa⟩:=Vf aK;have IB:(D x:Int)=n:=by simpa using az
    have vD:=J.1;simp only[iD,h8];generalize Vh:Aj ls x (D x) 0=GO;have aP:=E1 0 (by unfold dQ;omega);rw[show bU ((0:Int):Rat)=fM from rfl] at aP;simp only[go_sem,go_sem_proc,ki,fZ,eD,ga,gb,J3,J,aK,az,ee,abI,S4,au];refine du [0,2,25,26] [] (λ(i:Nat) tm m=>i<=D x/\GO=Aj ls x (D x-i) i/\tm 27=.M (.int .i64 i)) (λi=>D x-i) 0 (by refine⟨ej _,Vh.symm,rfl⟩) ?_;intro vs ms aY aT;simp only[go_sem,go_sem_proc,ki,fZ,eD,ga,gb,au] at aY aT;subst aY aT;rintro i tm m O hm ⟨L,cb,mn⟩;simp only[go_sem,go_sem_proc,ki,fZ,eD,ga,gb,bo] at O;obtain⟨ft,dX,oz,lH⟩:=O;rcases eo (i<D x) with av|bM
    ·have d1:decide ((i:Int)<(D x:Int))=true:=dI;have cR:=hy (i:=i) (by omega);obtain⟨⟨⟨fe,fJ⟩,⟨gS,iT⟩⟩,kB⟩:∃f,x[i]?=some f:=⟨_,bw av⟩;have gz:x.getD i bY=((fe,fJ),(gS,iT)):=by rw[eH,kB];rfl
     have lD:=J.2 _ (dM kB);have kv:(D x)-i=(D x-(i+1))+1:=by omega
     rw[kv] at cb;replace cb:=cb.trans (Aj.eq_2 ..);rw[gz] at cb;have aev:=Ck;have z7:=aeu (ls:=ls) (x:=x) (to:=i) aev;generalize fM=qZ at *;obtain⟨⟨gE,hl⟩,⟨p7,sj⟩⟩:=qZ;have bM:=UM gE hl p7 sj ls x i ⟨aev,J3,J,λl ad _=>by have:=fa l ad;omega⟩
     generalize ot ((gE,hl),(p7,sj)) ls x i=S at *;obtain⟨⟨⟨s1,s2⟩,⟨c1,dg⟩⟩,b⟩:=S;dsimp only at cb bM z7;simp only[aV] at aP bM;obtain⟨e1,gR⟩:=z7;obtain⟨fY,gO⟩:=lD;dsimp only at e1 gR fY gO;rcases b
     ·simp only[h9,dm,if_false] at cb;rw[cb];refine ao ?_;repeat' (intro h<;>simp only[h,go_sem,go_sem_proc,ki,fZ,eD,ga,gb,ft,dX,oz,lH,mn,d1,cR,kB,aP,bM,aV,au,bD]<;>try refine an ?_ ?_)
     ·rcases gC:decide (od ((fe,fJ),(gS,iT)) ((s1,s2),(c1,dg))<=0)
      ·rw[gC] at cb;simp only[iD,h8,if_true] at cb;refine ao ?_;repeat' (intro h<;>simp only[h,go_sem,go_sem_proc,ki,fZ,eD,ga,gb,ft,dX,oz,lH,mn,d1,cR,kB,aP,bM,gC,e1,gR,fY,gO,aV,au,bD]<;>try refine an ?_ ?_)
       exact⟨i+1,by omega,by omega,cb,rfl⟩
      ·rw[gC] at cb;simp only[iD,fP,dm,if_false] at cb;rw[cb];refine ao ?_;repeat' (intro h<;>simp only[h,go_sem,go_sem_proc,ki,fZ,eD,ga,gb,ft,dX,oz,lH,mn,d1,cR,kB,aP,bM,gC,e1,gR,fY,gO,aV,au,bD]<;>try refine an ?_ ?_)
    ·have d1:decide ((i:Int)<(D x:Int))=false:=dV;have qa:i=D x:=by omega
     subst qa;rw[lS] at cb;replace cb:=cb.trans (Aj.eq_1 ..);rw[cb];refine ao ?_;repeat' (intro h<;>simp only[h,go_sem,go_sem_proc,ki,fZ,eD,ga,gb,ft,dX,oz,lH,mn,d1,au]<;>try refine an ?_ ?_)
   ·refine ao ?_;repeat' (intro h<;>simp only[h,go_sem,go_sem_proc,ki,fZ,eD,ga,gb,J3,J,aK,az,ee,abI,S4,au]<;>try refine an ?_ ?_)
def Ak (cap base:List aG)(ls:List bJ)(x:List aG):Nat->Nat->Bool
 |0,_=>true
 |k+1,i=>if ((ot (base.getD i bY) ls x i).2&&(od (if decide (od (ot (base.getD i bY) ls x i).1 (cap.getD i bY)>0)=true then cap.getD i bY else (ot (base.getD i bY) ls x i).1) (x.getD i bY)==0))=true then Ak cap base ls x k (i+1) else false
def Al (cap base:List aG)(ls:List bJ)(x:List aG):Bool:=mv cap base ls&&(((D x:Int)==(D cap:Int))&&(!(x.any rZ)&&Ak cap base ls x (D cap) 0))
abbrev Fy:(List aG)×(List aG)×(List bJ)×(List aG)->List Data:=λ(cap,base,ls,x)=>[.agg [.ay (cap.map aV),.ay (base.map aV),.ay (ls.map fK)],.ay (x.map aV)]
def Ox:=bW Fy λ(cap,base,ls,x)=>cv (qS cap base ls/\ia x) (.same (.bool (Al cap base ls x)))
def aew:∀a b,Fy a=Fy b->a=b:=by
  rintro⟨apk,apl,z0,fe⟩ ⟨apm,apn,z1,fJ⟩ h;simp only[bo,Data.agg.injEq,Data.ay.injEq] at h;exact cO (map_inj lB _ _ h.1.1) (cO (map_inj lB _ _ h.1.2.1) (cO (map_inj uY _ _ h.1.2.2.1) (map_inj lB _ _ h.2.1)))
@[go_sem] def aex (cap base ls x):=cK Ox rfl aew (cap,base,ls,x) rfl
def ars (T:bj)(eh:T Bh=aW E0)(fZ:T sS=aW r0)(ga:T Bf=aW Fo)(gb:T zj=aW Ev):WF T abn Ox:=by
 refine cp λ(cap,base,ls,x)=>cN λZ=>⟨rfl,cq ?_⟩;simp only[abn,Fy,cg];obtain⟨qc,J⟩:=Z;unfold Al;rcases aK:mv cap base ls
 ·refine ao ?_;repeat' (intro h<;>simp only[h,go_sem,go_sem_proc,eh,fZ,ga,gb,qc,aK,au,cC,l9,kz,scalar]<;>try refine an ?_ ?_)
 ·rcases az:((D x:Int)==(D cap:Int))
  ·refine ao ?_;repeat' (intro h<;>simp only[h,go_sem,go_sem_proc,eh,fZ,ga,gb,qc,aK,az,au,cC,l9,kz,scalar]<;>try refine an ?_ ?_)
  ·rcases ee:x.any rZ
   ·obtain⟨U,aE,Va,fa,-,-⟩:=sm aK;have art:=qc;obtain⟨⟨dN,p8⟩,⟨nq,vb⟩,ov⟩:=art
    have IB:(D x)=D cap:=by
                        have:(D x:Int)=D cap:=by simpa using az
                        omega
    have vD:=J.1;simp only[iD,h8];generalize Vh:Ak cap base ls x (D cap) 0=GO;simp only[go_sem,go_sem_proc,eh,fZ,ga,gb,qc,J,aK,az,ee,abG,S2,au];refine du [1,2,25,26] [390002] (λ(i:Nat) tm m=>i<=D cap/\GO=Ak cap base ls x (D cap-i) i/\tm 27=.M (.int .i64 i)) (λi=>D cap-i) 0 (by refine⟨ej _,Vh.symm,rfl⟩) ?_;intro vs ms aY aT;simp only[go_sem,go_sem_proc,eh,fZ,ga,gb,au] at aY aT;subst aY aT;rintro i tm m O hm ⟨L,cb,mn⟩;simp only[go_sem,go_sem_proc,eh,fZ,ga,gb,bo] at O hm;obtain⟨cm,dX,oz,lH⟩:=O;rcases eo (i<D cap) with av|bM
    ·have d1:decide ((i:Int)<(D cap:Int))=true:=dI;have cR:=hy (i:=i) (by omega);obtain⟨⟨⟨fe,fJ⟩,⟨gS,iT⟩⟩,kB⟩:∃f,x[i]?=some f:=⟨_,bw (by omega)⟩;obtain⟨⟨⟨cH,dR⟩,⟨pg,tE⟩⟩,ew⟩:∃f,cap[i]?=some f:=⟨_,bw av⟩;obtain⟨⟨⟨cz,ef⟩,⟨js,jG⟩⟩,gr⟩:∃f,base[i]?=some f:=⟨_,bw (by omega)⟩;have gz:x.getD i bY=((fe,fJ),(gS,iT)):=by rw[eH,kB];rfl
     have gc:cap.getD i bY=((cH,dR),(pg,tE)):=by rw[eH,ew];rfl
     have Cn:base.getD i bY=((cz,ef),(js,jG)):=by rw[eH,gr];rfl
     have lD:=J.2 _ (dM kB);have aru:=p8 _ (dM ew);have aey:=vb _ (dM gr);have kv:(D cap)-i=(D cap-(i+1))+1:=by omega
     rw[kv] at cb;replace cb:=cb.trans (Ak.eq_2 ..);rw[gz,gc,Cn] at cb;have z7:=aeu (ls:=ls) (x:=x) (to:=i) aey;have bM:=UM cz ef js jG ls x i ⟨aey,ov,J,λl ad _=>by have:=fa l ad;omega⟩
     generalize ot ((cz,ef),(js,jG)) ls x i=S at *;obtain⟨⟨⟨s1,s2⟩,⟨c1,dg⟩⟩,b⟩:=S;dsimp only at cb bM z7;simp only[aV] at bM;obtain⟨e1,gR⟩:=z7;obtain⟨fY,gO⟩:=lD;obtain⟨kK,tW⟩:=aru;dsimp only at e1 gR fY gO kK tW;rcases b
     ·simp only[h9,dm,if_false] at cb;rw[cb];refine ao ?_;repeat' (intro h<;>simp only[h,go_sem,go_sem_proc,eh,fZ,ga,gb,cm,dX,oz,lH,mn,hm,d1,cR,kB,ew,gr,bM,aV,au,bD]<;>try refine an ?_ ?_)
     ·rcases gC:decide (od ((s1,s2),(c1,dg)) ((cH,dR),(pg,tE))>0)
      ·rw[gC] at cb;simp only[iD,dm,if_false] at cb;rcases aL:(od ((s1,s2),(c1,dg)) ((fe,fJ),(gS,iT))==0)
       ·rw[aL] at cb;simp only[dm,if_false] at cb;rw[cb];refine ao ?_;repeat' (intro h<;>simp only[h,go_sem,go_sem_proc,eh,fZ,ga,gb,cm,dX,oz,lH,mn,hm,d1,cR,kB,ew,gr,bM,gC,aL,e1,gR,fY,gO,kK,tW,aV,au,bD]<;>try refine an ?_ ?_)
       ·rw[aL] at cb;simp only[if_true] at cb;refine ao ?_;repeat' (intro h<;>simp only[h,go_sem,go_sem_proc,eh,fZ,ga,gb,cm,dX,oz,lH,mn,hm,d1,cR,kB,ew,gr,bM,gC,aL,e1,gR,fY,gO,kK,tW,aV,au,bD]<;>try refine an ?_ ?_)
        exact⟨i+1,by omega,by omega,cb,rfl⟩
      ·rw[gC] at cb;simp only[iD,if_true] at cb;rcases aL:(od ((cH,dR),(pg,tE)) ((fe,fJ),(gS,iT))==0)
       ·rw[aL] at cb;simp only[dm,if_false] at cb;rw[cb];refine ao ?_;repeat' (intro h<;>simp only[h,go_sem,go_sem_proc,eh,fZ,ga,gb,cm,dX,oz,lH,mn,hm,d1,cR,kB,ew,gr,bM,gC,aL,e1,gR,fY,gO,kK,tW,aV,au,bD]<;>try refine an ?_ ?_)
       ·rw[aL] at cb;simp only[if_true] at cb;refine ao ?_;repeat' (intro h<;>simp only[h,go_sem,go_sem_proc,eh,fZ,ga,gb,cm,dX,oz,lH,mn,hm,d1,cR,kB,ew,gr,bM,gC,aL,e1,gR,fY,gO,kK,tW,aV,au,bD]<;>try refine an ?_ ?_)
        exact⟨i+1,by omega,by omega,cb,rfl⟩
    ·have d1:decide ((i:Int)<(D cap:Int))=false:=dV;have qa:i=D cap:=by omega
     subst qa;rw[lS] at cb;replace cb:=cb.trans (Ak.eq_1 ..);rw[cb];refine ao ?_;repeat' (intro h<;>simp only[h,go_sem,go_sem_proc,eh,fZ,ga,gb,cm,dX,oz,lH,mn,d1,au]<;>try refine an ?_ ?_)
   ·refine ao ?_;repeat' (intro h<;>simp only[h,go_sem,go_sem_proc,eh,fZ,ga,gb,qc,J,aK,az,ee,abG,S2,au]<;>try refine an ?_ ?_)
def oA (ls:List bJ)(n:Nat):List (eg×Bool):=(jf n).map (p6 hX ls n)
def nb (ls:List bJ)(n:Int):List aG×List aG×Int :=
 if p3 ls n=true then
  (if ((na (bT n.toNat hX) (bT n.toNat fM) ls).2.2==0)=true then
   (if ((na (bT n.toNat hX) (bT n.toNat fM) ls).1.any λx => !(x.1.1==0))=true then ([],(na (bT n.toNat hX) (bT n.toNat fM) ls).1,16)
   else if (oA ls n.toNat).all (·.2)=true then ((l4 ((oA ls n.toNat).map (·.1)) n.toNat).1,[],(l4 ((oA ls n.toNat).map (·.1)) n.toNat).2) else ([],[],6))
  else ([],[],(na (bT n.toNat hX) (bT n.toNat fM) ls).2.2))
 else ([],[],1)
def Am (s:List aG×List aG×Int):Data:=.dc [.ay (s.1.map aV),.ay (s.2.1.map aV),.int .i64 s.2.2]
def aez {cap base:List aG}{ls:List bJ}(Z:∀f∈cap,okF f)(U:∀f∈base,okF f)(ad:(D base)=D cap)(aE:(D cap)<=40):∀(k:Nat) (left:List Bool) (rounds:List (List Nat)),ia (sl cap base ls k left rounds).1
 |0,_,_=>⟨by simp[sl],λf ag=>by cases ag⟩
 |k+1,left,rounds=>by
  have ak:ia ([]:List aG):=⟨by simp,λf ag=>by cases ag⟩
  unfold sl
  split
  ·split
   ·exact ak
   ·exact (aeh Z U ad aE).1
   ·exact aez Z U ad aE k _ _
  ·exact ak
def Oy {cap base:List aG}{ls:List bJ}(h:qS cap base ls):ia (na cap base ls).1:=by
 unfold na
 split
 ·rename_i Q;obtain⟨U,aE,-⟩:=sm Q;exact aez h.1.2 h.2.1.2 U aE _ _ _
 ·exact⟨by simp,λf ag=>by cases ag⟩
def J4:=bW z2 λ(ls,n)=>cv (sa ls) (.same (Am (nb ls n)))
@[go_sem] def Vi (ls n):=cK J4 rfl TS (ls,n) rfl
def arv (T:bj)(ki:T Bi=aW EZ)(eD:T sW=aW B1)(ou:T DG=aW I7)(ep:T xU=aW Cp)(fZ:T sS=aW r0)(ph:T HL=aW JG)(pj:T Hy=aW I6):WF T abj J4:=by
 refine cp λ(ls,n)=>cN λZ=>⟨rfl,cq ?_⟩;simp only[abj,z2,cg];unfold nb;rcases Q:p3 ls n
 ·simp only[dm,if_false];refine ao ?_;repeat' (intro (aw:_=_)<;>simp only[aw,go_sem,go_sem_proc,ki,eD,ou,ep,fZ,ph,pj,Z,Q,Am,cE]<;>try refine an ?_ ?_)
 ·simp only[if_true];obtain⟨ak,Fx,Va,fa⟩:=Vf Q;obtain⟨n,rfl⟩:=JB ak;simp only[mY];have aE:n<=40:=by omega
  have aP:=E1 0 (by unfold dQ;omega);have E:=E1 1 (by unfold dQ;omega);rw[show bU ((0:Int):Rat)=fM from rfl] at aP;rw[show bU ((1:Int):Rat)=hX from rfl] at E;have UQ:=Ck;have JH:=Fq;have qc:qS (bT n hX) (bT n fM) ls:=⟨⟨by rw[gv];omega,λf ag=>by rw[n4] at ag;rw[ag.2];exact JH⟩,⟨by rw[gv];omega,λf ag=>by rw[n4] at ag;rw[ag.2];exact UQ⟩,Z⟩
  have cr:=Oo _ _ _ qc;have Vj:=Oy qc;generalize na (bT n hX) (bT n fM) ls=S at *;obtain⟨Ok,J0,aer⟩:=S;simp only[BY] at cr;dsimp only[tF] at cr Vj;dsimp only;have wP:(oA ls n).length=n:=by unfold oA;rw[au,A1]
  have JL:∀i,i<n->(oA ls n)[i]?=some (p6 hX ls n i):=λi L=>by
   unfold oA;rw[bD,qq L]
   rfl
  have Cl:∀x∈oA ls n,uP x.1:=λx J=>by
   unfold oA at J;rw[hx] at J;obtain⟨i,L,rfl⟩:=J;exact Fs JH aE
  generalize cY:oA ls n=A at *;generalize fM=qZ at *;generalize hX=ax at *;obtain⟨⟨gE,hl⟩,⟨p7,sj⟩⟩:=qZ;obtain⟨⟨wZ,tD⟩,⟨u9,va⟩⟩:=ax;simp only[aV] at aP E;have oJ:=λs l s2 ah=>acO s l s2 ah n (by omega);rcases qe:(aer==0)
  ·simp only[dm,if_false];refine ao ?_;repeat' (intro (aw:_=_)<;>simp only[aw,go_sem,go_sem_proc,ki,eD,ou,ep,fZ,ph,pj,Z,Q,aP,E,oJ,cr,qe,Am,cE,gv]<;>try refine an ?_ ?_)
  ·simp only[if_true];rcases me:Ok.any λx => !(x.1.1==0)
   ·simp only[dm,if_false];simp only[go_sem,go_sem_proc,ki,eD,ou,ep,fZ,ph,pj,Z,Q,aP,E,oJ,cr,qe,Vj,me,abH,S3,gv]
    refine du [0,1,42] [386007] (λ((i,g):Nat×Nat) tm m=>i<=n/\(A.take i).all (·.2)=true/\tm 43=.M (.int .i64 i)/\tm 11=.ref 386059 g 5 0 i/\m 386059=some (g,a7 ky ((A.take i).map (·.1)))/\eC 386 emp m) (λ(i,_)=>n-i) (0,0) (by
     refine⟨ej _,by simp,rfl,?_,?_,?_⟩
     ·simp[hL,aR]
     ·simp[aR,a7,hL]
     ·repeat first|exact eC.refl _ _|refine eC.er ?_ (by decide)) ?_
    intro vs ms aY aT;simp only[go_sem,go_sem_proc,ki,eD,ou,ep,fZ,ph,pj,] at aY aT;subst aY aT;rintro⟨i,g⟩ tm m O hm ⟨L,dn,yB,s3,Oz,c7⟩;simp only[go_sem,go_sem_proc,ki,eD,ou,ep,fZ,ph,pj,bo] at O hm;obtain⟨ft,cm,yC⟩:=O;rcases eo (i<n) with av|bM
    ·have d1:decide ((i:Int)<(n:Int))=true:=dI;have cR:=hy (i:=i) (by omega);have JM:=JL i av;have eG:=UO wZ tD u9 va ls n i ⟨JH,Z,aE,av,λl ad _=>by have:=fa l ad;omega⟩
     generalize p6 ((wZ,tD),(u9,va)) ls n i=b6 at *;have Bt:A.take (i+1)=A.take i++[b6]:=by rw[jl,JM];rfl
     have Oi:(A.take (i+1)).all (·.2)=b6.2:=by rw[Bt,aef,dn];simp
     have Oj:(A.take (i+1)).map (·.1)=(A.take i).map (·.1)++[b6.1]:=by rw[Bt,pZ];rfl
     have b0:((A.take i).map (·.1)).length=i:=by rw[au,hg];omega
     have dP:=λ(bR:eg) cs jL=>oQ M1 (λ_=>rfl) 386059 g 88 ((A.take i).map (·.1)) bR (cs:=cs) jL (by omega) (by omega);simp only[b0] at dP;have oW:b6.2=false->A.all (·.2)=false:=λh=>aed JM h;clear cY JL;obtain⟨⟨JO,⟨v1,v2⟩,⟨iL,v4⟩⟩,ok⟩:=b6;simp only[ky,aV] at eG;rcases ok
     ·rw[oW rfl];simp only[dm,if_false];refine ao ?_;repeat' (intro (aw:_=_)<;>simp only[aw,go_sem,go_sem_proc,ki,eD,ou,ep,fZ,ph,pj,ft,cm,yC,yB,s3,Oz,hm,d1,cR,E,eG,Am,cE,aV]<;>try refine an ?_ ?_)
     ·have vc:=dP (JO,((v1,v2),(iL,v4))) _ rfl;simp only[ky,aV,hi,cE] at vc;rw[<-Oj] at vc;refine ao ?_;repeat' (intro (aw:_=_)<;>simp only[aw,go_sem,go_sem_proc,ki,eD,ou,ep,fZ,ph,pj,ft,cm,yC,yB,s3,Oz,hm,d1,cR,E,eG,vc,aV]<;>try refine an ?_ ?_)
      exact⟨(i+1,g+1),by dsimp only;omega,by dsimp only;omega,Oi,rfl,rfl,rfl,by repeat first|exact c7|refine eC.er ?_ (by decide)⟩
    ·have d1:decide ((i:Int)<(n:Int))=false:=dV;have qa:i=n:=by omega
     subst qa;have r8:A.take i=A:=dx (by omega);rw[r8] at dn Oz;rw[dn];simp only[if_true]
     have e0:=acG (A.map (·.1)) i ⟨by rw[au];omega,λr Q=>by
      obtain⟨x,J,rfl⟩:=hx.1 Q;exact Cl x J⟩
     have w0:=λ(K:a3->Prop) (st:a3)=>xK (K:=K) (st:=st) M1 11 386059 g (A.map (·.1));rw[au,wP] at w0;generalize l4 (A.map (·.1)) i=S at *;obtain⟨Ok,e⟩:=S;dsimp only at e0 ⊢;refine ao ?_;repeat' (intro (aw:_=_)<;>simp only[aw,go_sem,go_sem_proc,ki,eD,ou,ep,fZ,ph,pj,ft,cm,yC,yB,s3,Oz,hm,d1,w0,e0,Am,cE]<;>try refine an ?_ ?_)
   ·simp only[if_true];refine ao ?_;repeat' (intro (aw:_=_)<;>simp only[aw,go_sem,go_sem_proc,ki,eD,ou,ep,fZ,ph,pj,Z,Q,aP,E,oJ,cr,qe,Vj,me,abH,S3,Am,cE,gv]<;>try refine an ?_ ?_)
def aeA:bN:=b9 28 1 [.cell 2 2 true] (Y [cX 2 144002 dF] (.seq (Y [F 6 0,bs 7 .eql 6 0] (cF 7 [aO 8 (.build dF []),bq 2 2 8])) (Y [bA 3 1] (.seq (Y [F 9 0,bs 10 .lss 9 0] (fA 10 (.ops [aO 3 (.hI (.c (.M (.int .i64 (-1)))))]) .skip)) (Y [ek 4] (.seq (.block 0 (.ghost (.rb 4 144022 1) (.loop  (.seq (Y [F 11 0,bs 12 .neq 11 0] (dT 12 0)) (.block 1 (Y [F 13 0,bs 14 .rem 13 1048576,F 5 14] (.seq (Y [F 15 5,bs 16 .lss 15 0] (fA 16 (.ops [F 17 5,aO 18 (.un .neg (.t 17)),F 5 18]) .skip)) (Y [F 19 4,F 20 5,aO 21 (.ed 144021 false [ba 0] 1 1 [(0,1,.t 20)]),aO 22 (.app 144022 [ba 0] 8 (.t 19) (.t 21)),F 4 22] (.ops [F 23 0,bs 24 .quo 23 1048576,F 0 24]))))))))) (.seq (.ghost (.freeze 4) (.ops [F 25 3,F 26 4,ch 27 sV 25 26,bq 2 2 27])) .ret)))))))
def aeB:bN:=b9 60 1 [.t 2] (Y [c9 1 162001 0,cw 2 false] (.seq (Y [bA 3 0] (eK 0 (.seq (Y [F 5 3,a9 6 1 1,aS 7 1 6,b8 8 7,bB 9 .lss 5 8] (dT 9 0)) (.seq (.block 1 (Y [a9 12 1 1,aS 13 1 12,F 14 3,b2 15 1 13 14,aS 16 1 15,bs 17 .lss 16 0,F 18 17,gp 19 18 1 1,gh 20 18 1 19,gX 21 18 3,Bj 22 18 1 20 21,gh 23 18 1 22,jA 24 18 .geq 23 1048576,dv 25 18 24] (cF 25 [cw 2 false]))) (.ops [F 10 3,bs 11 .add 10 1,F 3 11]))))) (Y [a9 26 1 1,aS 27 1 26,b8 28 27,F 4 28] (.seq (Y [a9 29 0 1,aS 30 1 29,aO 31 (.bin .lss (.t 30) (.c (.M (.int .i64 (-1))))),F 32 31,gp 33 32 0 1,gh 34 32 1 33,jA 35 32 .gtr 34 1,dv 36 32 35,F 37 36,gX 38 37 4,jA 39 37 .gtr 38 60,dv 40 37 39,F 41 40,gX 42 41 4,jA 43 41 .eql 42 0,gp 44 41 0 1,gh 45 41 1 44,jA 46 41 .eql 45 0,hB 47 41 (.beq true (.t 43) (.t 46)),dv 48 41 47] (cF 48 [cw 2 false])) (Y [F 49 4,bs 50 .eql 49 0,F 51 50,gp 52 51 1 1,gh 53 51 1 52,gX 54 51 4,jA 55 51 .sub 54 1,Bj 56 51 1 53 55,gh 57 51 1 56,jA 58 51 .neq 57 0,dv 59 51 58,F 2 59] .ret)))))
def aeC:bN:=b9 13 1 [.cell 2 2 true] (Y [c9 1 163001 0,cX 2 163002 dF] (.seq (Y [bm 3 2 1,dA 4 nt 3,fc 5 4] (cF 5 [aO 6 (.build dF []),bq 2 2 6])) (Y [a9 7 0 1,aS 8 1 7,aO 9 (.un .neg (.t 8)),a9 10 1 1,aS 11 1 10,ch 12 sV 9 11,bq 2 2 12] .ret)))
def aeD:bN:=b9 36 2 [.cell 4 2 true,.t 5] (Y [c9 2 164002 0,c9 3 164003 1,cX 4 164004 dF,bA 5 0] (.seq (Y [bm 10 2 2,dA 11 nt 10,fc 12 11,F 13 12,jz 14 13 2 3,hB 15 13 (.call nt [.t 14]),kR 16 13 15,dv 17 13 16] (cF 17 [aO 18 (.build dF []),bq 2 4 18,bA 5 1])) (Y [a9 19 1 2,aS 20 1 19,F 6 20] (Y [a9 21 1 3,aS 22 1 21,F 7 22] (.seq (eK 0 (.seq (Y [F 23 7,b8 24 23,bs 25 .gtr 24 0] (dT 25 0)) (.block 1 (Y [F 27 6,F 28 7,ch 29 HI 27 28,F 26 29,bn 30 0 26,bn 31 1 26,F 8 30,F 9 31] (Y [F 32 7,F 6 32] (.ops [F 33 9,F 7 33])))))) (Y [F 34 6,aO 35 (.call sV [.c (ba 1),.t 34]),bq 2 4 35,bA 5 0] .ret))))))
def aeE:bN:=b9 65 2 [.cell 4 2 true,.cell 5 2 true,.t 6] (Y [c9 2 165002 0,c9 3 165003 1,cX 4 165004 dF,cX 5 165005 dF,bA 6 0] (.seq (Y [bm 9 2 2,dA 10 nt 9,fc 11 10,F 12 11,jz 13 12 2 3,hB 14 12 (.call nt [.t 13]),kR 15 12 14,dv 16 12 15] (cF 16 [aO 17 (.build dF []),aO 18 (.build dF []),bq 2 4 17,bq 2 5 18,bA 6 1])) (.seq (Y [a9 19 0 3,aS 20 1 19,bs 21 .eql 20 0] (cF 21 [aO 22 (.build dF []),aO 23 (.build dF []),bq 2 4 22,bq 2 5 23,bA 6 15])) (Y [a9 25 1 2,aS 26 1 25,a9 27 1 3,aS 28 1 27,ch 29 HI 26 28,F 24 29,bn 30 0 24,bn 31 1 24,F 7 30,F 8 31] (.seq (Y [a9 32 0 2,aS 33 1 32,a9 34 0 3,aS 35 1 34,bB 36 .mul 33 35,bs 37 .geq 36 0,F 38 37,gX 39 38 8,pR 40 38 39,jA 41 38 .eql 40 0,dv 42 38 41] (fA 42 (gq [a9 43 0 2,aS 44 1 43,a9 45 0 3,aS 46 1 45,bB 47 .mul 44 46,F 48 7,ch 49 sV 47 48,a9 50 0 2,aS 51 1 50,F 52 8,ch 53 sV 51 52,bq 2 4 49,bq 2 5 53,bA 6 0] L9 .ret) .skip)) (gq [F 54 7,aO 55 (.ed 165055 false [ba 0] 1 1 [(0,1,.c (ba 1))]),ch 56 Rs 54 55,aO 57 (.call sV [.c (.M (.int .i64 (-1))),.t 56]),a9 58 0 3,aS 59 1 58,a9 60 1 3,aS 61 1 60,F 62 8,ch 63 HJ 61 62,ch 64 sV 59 63,bq 2 4 57,bq 2 5 64,bA 6 0] L9 .ret))))))
def aeF:bN:=b9 15 2 [.cell 4 2 true] (Y [cX 4 166004 dF] (Y [F 6 1,dA 7 rK 6,F 5 7] (.seq (Y [F 8 5,b8 9 8,bs 10 .eql 9 0] (cF 10 [aO 11 (.build dF []),bq 2 4 11])) (Y [F 12 0,F 13 5,aO 14 (.build dF [(0,1,.t 12),(1,1,.t 13)]),bq 2 4 14] .ret))))
def OA:bN:=b9 60 2 [.t 4,.t 5] (Y [ek 4,ek 5] (Y [F 12 0,b8 13 12,aO 14 (.lb 180014 [ba 0] 8 (.t 13) (.t 13)),F 6 14] (Y [ek 7] (.seq (Y [F 15 0,b8 16 15,bs 17 .sub 16 1,F 8 17] (eK 0 (.seq (Y [F 18 8,bs 19 .geq 18 0] (dT 19 0)) (.seq (.block 1 (Y [F 22 0,F 23 8,b2 24 1 22 23,aS 25 1 24,aO 26 (.ed 180026 true [ba 0] 1 1 [(0,1,.t 25)]),F 27 7,aO 28 (.app 180028 [ba 0] 8 (.t 26) (.t 27)),dA 29 rK 28,F 7 29] (Y [bA 9 0] (Y [bA 10 1048576] (.seq (eK 2 (.seq (Y [F 30 10,F 31 9,bB 32 .sub 30 31,bs 33 .gtr 32 1] (dT 33 2)) (.block 3 (Y [F 34 9,F 35 10,bB 36 .add 34 35,bs 37 .quo 36 2,F 11 37] (Y [F 38 7,F 39 1,F 40 11,aO 41 (.ed 180041 false [ba 0] 1 1 [(0,1,.t 40)]),ch 42 HK 39 41,ch 43 DO 38 42] (fA 43 (.ops [F 44 11,F 10 44]) (.ops [F 45 11,F 9 45]))))))) (Y [F 46 6,F 47 8,F 48 9,b2 49 1 46 47,bq 1 49 48] (.ops [F 50 7,F 51 1,F 52 9,aO 53 (.ed 180053 false [ba 0] 1 1 [(0,1,.t 52)]),dA 54 rK 53,ch 55 HK 51 54,ch 56 HJ 50 55,F 7 56]))))))) (.ops [F 20 8,bs 21 .sub 20 1,F 8 21]))))) (Y [F 57 6,dA 58 rK 57,F 59 7,F 4 58,F 5 59] .ret)))))
def aeG:bN:=b9 43 2 [.t 4] (Y [ek 4] (Y [ek 5] (Y [bA 6 0] (.seq (Y [bA 7 0] (.block 0 (.ghost (.rb 5 181038 1) (.loop  (.seq (Y [F 9 7,F 10 0,b8 11 10,bB 12 .lss 9 11,F 13 12,gX 14 13 7,gX 15 13 1,pR 16 13 15,qC 17 13 .lss 14 16,dv 18 13 17,F 19 18,gX 20 19 6,jA 21 19 .gtr 20 0,dv 22 19 21] (dT 22 0)) (.seq (.block 1 (Y [F 25 0,F 26 7,ch 27 rL 25 26,F 28 1,F 29 7,ch 30 rL 28 29,bB 31 .add 27 30,F 32 6,bB 33 .add 31 32,F 8 33] (Y [F 34 5,F 35 8,bs 36 .rem 35 1048576,aO 37 (.ed 181037 false [ba 0] 1 1 [(0,1,.t 36)]),aO 38 (.app 181038 [ba 0] 8 (.t 34) (.t 37)),F 5 38] (.ops [F 39 8,bs 40 .quo 39 1048576,F 6 40])))) (.ops [F 23 7,bs 24 .add 23 1,F 7 24]))))))) (Y [F 41 5,dA 42 rK 41,F 4 42] .ret)))))
def aeH:bN:=b9 35 2 [.t 4] (Y [ek 4] (Y [ek 5] (Y [bA 6 0] (.seq (Y [bA 7 0] (.block 0 (.ghost (.rb 5 182032 1) (.loop  (.seq (Y [F 9 7,F 10 0,b8 11 10,bB 12 .lss 9 11] (dT 12 0)) (.seq (.block 1 (gq [F 15 0,F 16 7,b2 17 1 15 16,aS 18 1 17,F 19 1,F 20 7,ch 21 rL 19 20,bB 22 .sub 18 21,F 23 6,bB 24 .sub 22 23,F 8 24] L8 (Y [bA 6 0] (.seq (Y [F 25 8,bs 26 .lss 25 0] (fA 26 (Y [F 27 8,bs 28 .add 27 1048576,F 8 28] (.ops [bA 6 1])) .skip)) (.ops [F 29 5,F 30 8,aO 31 (.ed 182031 false [ba 0] 1 1 [(0,1,.t 30)]),aO 32 (.app 182032 [ba 0] 8 (.t 29) (.t 31)),F 5 32]))))) (.ops [F 13 7,bs 14 .add 13 1,F 7 14]))))))) (Y [F 33 5,dA 34 rK 33,F 4 34] .ret)))))
def aeI:bN:=b9 23 1 [.t 2] (Y [ek 2] (Y [F 4 0,b8 5 4,F 3 5] (.seq (eK 0 (.seq (Y [F 6 3,bs 7 .gtr 6 0,F 8 7,en 9 8 0,en 10 8 3,iE 11 8 .sub 10 1,zl 12 8 1 9 11,jX 13 8 1 12,iE 14 8 .eql 13 0,eP 15 8 14] (dT 15 0)) (.block 1 (.ops [F 16 3,bs 17 .sub 16 1,F 3 17])))) (Y [aO 18 (.ed 183018 true [] 1 0 []),F 19 0,F 20 3,aO 21 (.qn 1 (.t 19) none (some (.t 20)) none),aO 22 (.app 183022 [ba 0] 8 (.t 18) (.t 21)),F 2 22] .ret))))
def aeJ:bN:=b9 30 2 [.t 4] (Y [cw 4 false] (.seq (Y [F 6 0,b8 7 6,F 8 1,b8 9 8,aO 10 (.kI true (.t 7) (.t 9)),bs 11 .sub 10 1,F 5 11] (eK 0 (.seq (Y [F 12 5,bs 13 .geq 12 0] (dT 13 0)) (.seq (.block 1 (Y [F 16 0,F 17 5,ch 18 rL 16 17,F 19 1,F 20 5,ch 21 rL 19 20,bB 22 .neq 18 21] (cF 22 [F 23 0,F 24 5,ch 25 rL 23 24,F 26 1,F 27 5,ch 28 rL 26 27,bB 29 .lss 25 28,F 4 29]))) (.ops [F 14 5,bs 15 .sub 14 1,F 5 15]))))) (Y [cw 4 false] .ret)))
def aeK:bN:=b9 60 2 [.t 4] (Y [ek 4] (Y [F 10 0,b8 11 10,F 12 1,b8 13 12,bB 14 .add 11 13,aO 15 (.lb 186015 [ba 0] 8 (.t 14) (.t 14)),F 5 15] (.seq (Y [bA 6 0] (eK 0 (.seq (Y [F 16 6,F 17 0,b8 18 17,bB 19 .lss 16 18] (dT 19 0)) (.seq (.block 1 (Y [bA 7 0] (Y [bA 8 0] (eK 2 (.seq (Y [F 22 8,F 23 1,b8 24 23,bB 25 .lss 22 24,F 26 25,gX 27 26 7,jA 28 26 .gtr 27 0,dv 29 26 28] (dT 29 2)) (.seq (.block 3 (gq [F 32 5,F 33 6,F 34 8,bB 35 .add 33 34,b2 36 1 32 35,aS 37 1 36,F 38 0,F 39 6,b2 40 1 38 39,aS 41 1 40,F 42 1,F 43 8,ch 44 rL 42 43,bB 45 .mul 41 44,bB 46 .add 37 45,F 47 7,bB 48 .add 46 47,F 9 48] akU (Y [F 49 5,F 50 6,F 51 8,bB 52 .add 50 51,F 53 9,bs 54 .rem 53 1048576,b2 55 1 49 52,bq 1 55 54] (.ops [F 56 9,bs 57 .quo 56 1048576,F 7 57])))) (.ops [F 30 8,bs 31 .add 30 1,F 8 31]))))))) (.ops [F 20 6,bs 21 .add 20 1,F 6 21]))))) (Y [F 58 5,dA 59 rK 58,F 4 59] .ret))))
def aeL:bN:=b9 13 2 [.t 4] (Y [bA 4 0] (.seq (Y [F 5 1,F 6 0,b8 7 6,bB 8 .lss 5 7] (cF 8 [F 9 0,F 10 1,b2 11 1 9 10,aS 12 1 11,F 4 12])) (Y [bA 4 0] .ret)))
def aeM:bN:=b9 37 2 [.t 4] (Y [c9 2 205002 0,c9 3 205003 1,bA 4 0] (.seq (Y [bm 5 2 2,dA 6 nt 5,fc 7 6,F 8 7,jz 9 8 2 3,hB 10 8 (.call nt [.t 9]),kR 11 8 10,dv 12 8 11,F 13 12,jz 14 13 2 2,jz 15 13 2 3,hB 16 13 (.call Rv [.t 14,.t 15]),dv 17 13 16] (cF 17 [bA 4 0])) (.seq (Y [a9 18 0 2,aS 19 1 18,a9 20 0 3,aS 21 1 20,bB 22 .neq 19 21] (fA 22 (.seq (Y [a9 23 0 2,aS 24 1 23,a9 25 0 3,aS 26 1 25,bB 27 .lss 24 26] (cF 27 [aO 4 (.hI (.c (.M (.int .i64 (-1)))))])) (Y [bA 4 1] .ret)) .skip)) (.seq (gq [a9 28 1 2,aS 29 1 28,a9 30 1 3,aS 31 1 30,ch 32 DO 29 31,a9 33 0 2,aS 34 1 33,bs 35 .gtr 34 0,aO 36 (.beq false (.t 32) (.t 35))] RL (cF 36 [aO 4 (.hI (.c (.M (.int .i64 (-1)))))])) (Y [bA 4 1] .ret)))))
def aeN:bN:=b9 38 2 [.t 4] (Y [c9 2 210002 0,c9 3 210003 1,cw 4 false] (.seq (Y [a9 6 0 2,aS 7 1 6,a9 8 0 3,aS 9 1 8,bB 10 .neq 7 9,F 11 10,gp 12 11 1 2,gh 13 11 1 12,pR 14 11 13,gp 15 11 1 3,gh 16 11 1 15,pR 17 11 16,qC 18 11 .neq 14 17,dv 19 11 18] (cF 19 [cw 4 false])) (.seq (Y [bA 5 0] (eK 0 (.seq (Y [F 20 5,a9 21 1 2,aS 22 1 21,b8 23 22,bB 24 .lss 20 23] (dT 24 0)) (.seq (.block 1 (gq [a9 27 1 2,aS 28 1 27,F 29 5,b2 30 1 28 29,aS 31 1 30,a9 32 1 3,aS 33 1 32,F 34 5,b2 35 1 33 34,aS 36 1 35,bB 37 .neq 31 36] L8 (cF 37 [cw 4 false]))) (.ops [F 25 5,bs 26 .add 25 1,F 5 26]))))) (Y [cw 4 true] .ret))))
def Fz (l:List Int):Ds (.own 1 (l.map aJ))=some (.own 1 (l.map aJ)):=by
 refine aq ?_;rw[jP];intro e he;obtain⟨d,-,rfl⟩:=hx.1 he;simp[aJ,scalar]
def Cv (n k g sz off len:Nat):cC n emp (.ref k g sz off len)=none:=by cases n<;>rfl
def yD:=bW v7 λ(l:List Int)=>cv (D l<=1000000) (.own 1 ((fj l).map aJ))
@[go_sem] def Cw (l):=cK yD rfl Mb l rfl
def arw (T:bj):WF T aeI yD:=by
 refine cp λl=>cN λZ=>⟨rfl,cq ?_⟩;simp only[aeI,v7,cg];have mO:((l.map aJ).all λe=>D e==1)=true:=by simp[aJ]
 refine ao ?_;repeat' (intro h<;>simp only[h,go_sem,go_sem_proc,au]<;>try refine an ?_ ?_)
 refine du [0] [] (λ(n:Nat) tm mem=>n<=D l/\fj l=fj (l.take n)/\tm 3=.M (.int .i64 n)/\mem 183018=none) (λn=>n) (D l) (by refine⟨bI _,by simp,by simp[go_sem],rfl⟩) ?_;intro vs ms aY aT;simp only[go_sem,go_sem_proc,au] at aY aT;subst aY aT;rintro n tm mem O-⟨aE,bx,ab,Vk⟩;simp only[go_sem,go_sem_proc,bo] at O;have ak:=O
 have dP:∀o:List Int,D o<=(D l)->mF 183018 0 1 0 8 (D o) ((o.map aJ).flatten.map .M) (some (0,[]))=some (.ref 183018 1 1 0 (D o),some (183018,1,a7 aJ o)):=by
  intro o a0;have:=Hn iO vZ 183018 0 8 [] o (by simp;omega) (by simp;omega)
  simpa [a7] using this
 have vL:∀(o:List Int) (m:Mem),m 183018=some (1,a7 aJ o)->qw 1 m (.ref 183018 1 1 0 (D o))=some (o.map aJ):=by
  intro o m hm;have:=ZD hm (bI _);rwa [dx (bI _)] at this
 have arx:∀o:List Int,((o.map aJ).all λe=>D e==1)=true:=λo=>by simp[aJ]
 rcases n with _|n
 ·have E:=dP [] (by simp);have a0:=vL [];simp only[cE,aeO,ln] at E a0;refine ao ?_;repeat' (intro h<;>simp only[h,go_sem,go_sem_proc,ak,ab,Vk,mO,E,nu,n2,show ¬ ((0:Int)>0) by omega,decide_false,au,show (0:Int).toNat=0 from rfl,show (0:Int)<=0 by omega,ej,List.take_zero,cE,ln]<;>try refine an ?_ ?_)
  rw[a0 _ (by simp[aR]),bx];simp[fj]
 ·have hw:IntKind.i64.wrap (((n+1:Nat):Int)-1)=(n:Int):=by rw[fr _];omega
  have J:l[n]?=some l[n]:=bw (by omega);have hr:((n+1:Nat):Int)>0:=by omega
  have hle:n+1<=D l:=aE
  by_cases aP:l[n]=0
  ·refine ao ?_;repeat' (intro h<;>simp only[h,go_sem,go_sem_proc,ak,ab,hw,J,aP,hr,au,bD,decide_true,aJ,beq_self_eq_true,bo]<;>try refine an ?_ ?_)
   exact⟨n,by omega,by omega,by rw[bx,RN l n (by omega) aP],rfl,Vk⟩
  ·have sX:(l[n]==0)=false:=by simpa using aP
   have E:=dP (l.take (n+1)) (by rw[hg];omega);rw[hg,mM hle,aeP] at E;have bG:(oU (n+1) (l.map aJ)).length=n+1:=by rw[hg,au];omega
   have aeQ:=arx (l.take (n+1));rw[aeP] at aeQ;refine ao ?_;repeat' (intro h<;>simp only[h,go_sem,go_sem_proc,ak,ab,Vk,hw,J,sX,hr,mO,aeQ,hle,E,bG,aJ,au,bD,decide_true,bo,show (0:Int)<=((n+1:Nat):Int) by omega,mY,ej]<;>try refine an ?_ ?_)
   have a0:=vL (l.take (n+1)) _ (show aR (aR mem 183018 0 []) 183018 1 (a7 aJ (oU (n+1) l)) 183018=_ by simp[aR])
   rw[hg,mM hle] at a0;rw[a0,bx,RO l n (by omega) aP]
abbrev OB:(List Int)×Nat->List Data:=λ(l,i)=>[.ay (l.map aJ),.int .i64 i]
def Cx:=bW OB λ(l,i)=>cv (D l<=1000000) (.same (.int .i64 (l.getD i 0)))
def ary:∀a b,OB a=OB b->a=b:=by
  rintro⟨iP,i1⟩ ⟨ah,i2⟩ h;simp only[bo,Data.ay.injEq,Data.int.injEq] at h;exact cO (map_inj fQ _ _ h.1) (by have:=h.2.1.2;dsimp only;omega)
@[go_sem] def aeR (l i):=cK Cx rfl ary (l,i) rfl
def arz (T:bj):WF T aeL Cx:=by
 refine cp λ(l,i)=>cN λZ=>⟨rfl,cq ?_⟩;simp only[aeL,OB,cg];rcases fF i (D l) with av|bM
 ·have J:=bw av;have ae:decide ((i:Int)<(D l:Int))=true:=dI;have aC:l.getD i 0=l[i]:=by rw[eH,J];rfl
  rw[aC];refine ao ?_;repeat' (intro h<;>simp only[h,go_sem,go_sem_proc,J,ae,aJ,au,bD]<;>try refine an ?_ ?_)
 ·have ae:decide ((i:Int)<(D l:Int))=false:=dV;have aC:l.getD i 0=0:=by rw[eH,mI bM];rfl
  rw[aC];refine ao ?_;repeat' (intro h<;>simp only[h,go_sem,go_sem_proc,ae,au]<;>try refine an ?_ ?_)
def FA (n i:Nat):(aH n).getD i 0=((n/1048576^i%1048576:Nat):Int):=by
 induction i generalizing n with
 |zero =>
  rcases jh n with h|h
  ·subst h;rfl
  ·rw[sQ h,Nat.pow_zero,Nat.div_one];rfl
 |succ i aD =>
  rcases jh n with h|h
  ·subst h;rw[aeS];rfl
  ·rw[sQ h];show (aH (n/1048576)).getD i 0=_;rw[aD,aeT,<-Nat.pow_succ']
def FB (n i:Nat):n/1048576^i=n/1048576^i%1048576+1048576*(n/1048576^(i+1)):=by
 rw[sR,<-aeT];omega
def An {n k:Nat}(h:(aH n).length<=k):n/1048576^k=0:=Nat.div_eq_of_lt (fR.1 h)
def FC:=bW lr λ(x,y)=>cv ((aH x).length<=100000/\(aH y).length<=100000) (.same (.bool (decide (x<y))))
@[go_sem] def aeU (x y):=cK FC rfl wb (x,y) rfl
def arA (T:bj)(gZ:T rL=aW Cx):WF T aeJ FC:=by
 refine cp λ(x,y)=>cN λZ=>⟨rfl,cq ?_⟩;simp only[aeJ,lr,cg];obtain⟨J,af⟩:=Z;have l1:∃bk:Nat,bk=max (aH x).length (aH y).length:=⟨_,rfl⟩;obtain⟨bk,l1⟩:=l1;have gm:(if ((aH y).length:Int)>((aH x).length:Int) then ((aH y).length:Int) else ((aH x).length:Int))=(bk:Int):=by split<;>omega
 have zy:IntKind.i64.wrap ((bk:Int)-1)=(bk:Int)-1:=wrap64 _ (by omega) (by omega);have nz:(aH x).length<=1000000:=by omega
 have kt:(aH y).length<=1000000:=by omega
 simp only[go_sem,go_sem_proc,gZ,da,au,gm,zy];refine du [0,1] [] (λ(i:Nat) tm mem=>i<=bk/\x/1048576^i=y/1048576^i/\tm 5=.M (.int .i64 ((i:Int)-1))) (λi=>i) bk (by refine⟨bI _,?_,rfl⟩;rw[An (by omega),An (by omega)]) ?_;intro vs ms aY aT;simp only[go_sem,go_sem_proc,gZ,da] at aY aT;subst aY aT;rintro i tm mem O-⟨L,he,bl⟩;simp only[go_sem,go_sem_proc,gZ,bo] at O;obtain⟨ak,E⟩:=O;rcases i with _|i
 ·have kp:x=y:=by simpa using he
  have av:decide (x<y)=false:=dV;rw[av];simp only[go_sem,go_sem_proc,gZ,ak,E,bl,nu,n2,show ¬ ((0:Int)-1>=0) by omega,decide_false]
  repeat' (first|refine an ?_ ?_|fail)<;>intro h<;>simp only[h,go_sem,go_sem_proc,gZ,ak,E,bl,nu,n2,show ¬ ((0:Int)-1>=0) by omega,decide_false]
 ·have hw:((i+1:Nat):Int)-1=(i:Int):=by omega
  have bM:decide ((i:Int)>=0)=true:=dI;have aK:=FB x i;have az:=FB y i;rw[he] at aK;have gD:IntKind.i64.wrap ((i:Int)-1)=(i:Int)-1:=wrap64 _ (by omega) (by omega);have bZ:=FA x i;have bX:=FA y i;have cz:=mW (x/1048576^i) (show 0<1048576 by omega);have ef:=mW (y/1048576^i) (show 0<1048576 by omega);have bH:x/1048576^i<y/1048576^i->x<y:=λh=>aeV h;have bG:y/1048576^i<x/1048576^i->y<x:=λh=>aeV h;generalize qE:x/1048576^i=X at *;generalize ob:y/1048576^i=cV at *;generalize y/1048576^(i+1)=qZ at *;generalize X%1048576=a at *;generalize cV%1048576=b at *;rcases Nat.lt_trichotomy a b with h|h|h
  ·have a6:((a:Int)==(b:Int))=false:=by simp;omega
   have nc:decide ((a:Int)<(b:Int))=decide (x<y):=by rw[kG (show (a:Int)<(b:Int) by omega),kG (bH (by omega))]
   simp only[go_sem,go_sem_proc,gZ,ak,E,bl,hw,bM,bZ,bX,nz,kt,a6,nc];repeat' (first|refine an ?_ ?_|fail)<;>intro h<;>simp only[h,go_sem,go_sem_proc,gZ,ak,E,bl,hw,bM,bZ,bX,nz,kt,a6,nc]
  ·subst h;simp only[go_sem,go_sem_proc,gZ,ak,E,bl,hw,bM,bZ,bX,nz,kt,gD,beq_self_eq_true];repeat' (first|refine an ?_ ?_|fail)<;>intro h<;>simp only[h,go_sem,go_sem_proc,gZ,ak,E,bl,hw,bM,bZ,bX,nz,kt,gD,beq_self_eq_true]
   exact⟨i,by omega,by omega,by rw[qE,ob];omega,rfl⟩
  ·have a6:((a:Int)==(b:Int))=false:=by simp;omega
   have nc:decide ((a:Int)<(b:Int))=decide (x<y):=by rw[lP (show ¬ (a:Int)<(b:Int) by omega),lP (by have:=bG (by omega);omega)]
   simp only[go_sem,go_sem_proc,gZ,ak,E,bl,hw,bM,bZ,bX,nz,kt,a6,nc];repeat' (first|refine an ?_ ?_|fail)<;>intro h<;>simp only[h,go_sem,go_sem_proc,gZ,ak,E,bl,hw,bM,bZ,bX,nz,kt,a6,nc]
def Vl {o:List Int}{d:Int}(h:dZ o)(ak:0<=d)(E:d<1048576):dZ (o++[d]):=A5.2 ⟨h,A4.2 ⟨⟨ak,E⟩,by intro d ae;cases ae⟩⟩
def Vm (o:List Int)(d:Int):aX (o++[d])=aX o+1048576^(D o)*d:=by rw[A6];simp[aX]
def FD {o:List Int}{n:Nat}(h:dZ o)(ai:aX o=n):fj o=aH n:=by rw[xP h,ai];rfl
def OC:=bW lr λ(x,y)=>cv ((aH x).length<=10000/\(aH y).length<=10000) (.same (da (x+y)))
@[go_sem] def arB (x y):=cK OC rfl wb (x,y) rfl
def arC (T:bj)(gZ:T rL=aW Cx)(g0:T rK=aW yD):WF T aeG OC:=by
 refine cp λ(x,y)=>cN λZ=>⟨rfl,cq ?_⟩;simp only[aeG,lr,cg];obtain⟨J,af⟩:=Z;have l1:∃bk:Nat,bk=max (aH x).length (aH y).length:=⟨_,rfl⟩;obtain⟨bk,l1⟩:=l1;have nz:(aH x).length<=1000000:=by omega
 have kt:(aH y).length<=1000000:=by omega
 simp only[go_sem,go_sem_proc,gZ,g0,da,au];refine du [0,1] [] (λ((i,c,g,o):Nat×Nat×Nat×List Int) tm mem=>i<=bk+1/\c<=1/\(i=bk+1->c=0)/\D o=i/\dZ o/\aX o+1048576^i*((x/1048576^i+y/1048576^i+c:Nat):Int)=((x+y:Nat):Int)/\tm 6=.M (.int .i64 c)/\tm 7=.M (.int .i64 i)/\tm 5=.ref 181038 g 1 0 i/\mem 181038=some (g,a7 aJ o)) (λ(i,_)=>bk+1-i) (0,0,0,[]) (by refine⟨by omega,by omega,by simp,rfl,by simp[dZ],by simp[aX],rfl,rfl,rfl,rfl⟩) ?_;intro vs ms aY aT;simp only[go_sem,go_sem_proc,gZ,g0,da] at aY aT;subst aY aT;rintro⟨i,c,g,o⟩ tm mem O-⟨L,kK,uG,a0,hO,ai,bz,bP,bl,hm⟩;simp only[go_sem,go_sem_proc,gZ,g0,bo] at O;obtain⟨ak,E⟩:=O;have aF:aX o+1048576^i*((x/1048576^i+y/1048576^i+c:Nat):Int)=((x+y:Nat):Int):=ai
 by_cases cb:i<(aH x).length\/i<(aH y).length\/0<c
 ·have aK:=FB x i;have az:=FB y i;have bZ:=FA x i;have bX:=FA y i;have cz:=mW (x/1048576^i) (show 0<1048576 by omega);have ef:=mW (y/1048576^i) (show 0<1048576 by omega);have Il:bk<=i->x/1048576^i=0/\y/1048576^i=0:=λh=>⟨An (by omega),An (by omega)⟩;have ib:(1048576:Int)^(i+1)=1048576^i*1048576:=lZ _ _;generalize qE:x/1048576^i=X at *;generalize ob:y/1048576^i=cV at *;generalize FE:x/1048576^(i+1)=X' at *;generalize FF:y/1048576^(i+1)=Y' at *;generalize a2:X%1048576=a at *;generalize U:cV%1048576=b at *;have w1:IntKind.i64.wrap ((a:Int)+(b:Int))=((a+b:Nat):Int):=by rw[fr _];omega
  have fw:IntKind.i64.wrap (((a+b:Nat):Int)+(c:Int))=((a+b+c:Nat):Int):=by rw[fr _];omega
  have gj:((a+b+c:Nat):Int).tmod 1048576=(((a+b+c)%1048576:Nat):Int):=by rw[HZ (by omega)];omega
  have gd:IntKind.i64.wrap (((a+b+c:Nat):Int).tdiv 1048576)=(((a+b+c)/1048576:Nat):Int):=by rw[D6 (by omega),wrap64 _ (by omega) (by omega)];omega
  have cR:=hy (i:=i) (by omega);have dP:=oQ iO vZ 181038 g 8 o (((a+b+c)%1048576:Nat):Int) (cs:=[.M (.int .i64 (((a+b+c)%1048576:Nat):Int))]) rfl (by omega) (by omega);rw[a0] at dP
  have aAE:i<=bk:=by
   rcases fF bk i with h|h
   ·have:=uG (by omega);omega
   ·exact h
  have kS:∃aZ:Nat×Nat×Nat×List Int,bk+1-aZ.1<bk+1-i/\aZ.1<=bk+1/\aZ.2.1<=1/\(aZ.1=bk+1->aZ.2.1=0)/\aZ.2.2.2.length=aZ.1/\dZ aZ.2.2.2/\aX aZ.2.2.2+1048576^aZ.1*((x/1048576^aZ.1+y/1048576^aZ.1+aZ.2.1:Nat):Int)=((x+y:Nat):Int)/\I.M (Data.int .i64 (((a+b+c)/1048576:Nat):Int))=I.M (Data.int .i64 (aZ.2.1:Int))/\I.M (Data.int .i64 ((i+1:Nat):Int))=I.M (Data.int .i64 (aZ.1:Int))/\I.ref 181038 (g+1) 1 0 (i+1)=I.ref 181038 aZ.2.2.1 1 0 aZ.1/\some (g+1,a7 aJ (o++[(((a+b+c)%1048576:Nat):Int)]))=some (aZ.2.2.1,a7 aJ aZ.2.2.2):=by
   refine⟨(i+1,(a+b+c)/1048576,g+1,o++[(((a+b+c)%1048576:Nat):Int)]),by dsimp only;omega,by dsimp only;omega,by dsimp only;omega,?_,by simp[a0],Vl hO (by omega) (by omega),?_,rfl,rfl,rfl,rfl⟩
   ·intro h;dsimp only at h ⊢;have:=Il (by omega);omega
   ·dsimp only;rw[FE,FF,Vm,a0,ib,<-aF];have ee:((X+cV+c:Nat):Int)=1048576*((X'+Y'+(a+b+c)/1048576:Nat):Int)+(((a+b+c)%1048576:Nat):Int):=by omega
    rw[ee,hz,hA];omega
  by_cases Dr:i<(aH x).length
  ·have d1:decide ((i:Int)<((aH x).length:Int))=true:=dI;refine ao ?_;repeat' (intro (aw:_=_)<;>simp only[aw,go_sem,go_sem_proc,gZ,g0,ak,E,bl,bz,bP,hm,bZ,bX,nz,kt,d1,w1,fw,gj,gd,cR,dP,au]<;>try refine an ?_ ?_)
   exact kS
  ·have d1:decide ((i:Int)<((aH x).length:Int))=false:=dV
   by_cases uf:i<(aH y).length
   ·have d2:decide ((i:Int)<((aH y).length:Int))=true:=dI;refine ao ?_;repeat' (intro (aw:_=_)<;>simp only[aw,go_sem,go_sem_proc,gZ,g0,ak,E,bl,bz,bP,hm,bZ,bX,nz,kt,d1,d2,w1,fw,gj,gd,cR,dP,au]<;>try refine an ?_ ?_)
    exact kS
   ·have d2:decide ((i:Int)<((aH y).length:Int))=false:=dV;have d3:decide ((c:Int)>0)=true:=dI;refine ao ?_;repeat' (intro (aw:_=_)<;>simp only[aw,go_sem,go_sem_proc,gZ,g0,ak,E,bl,bz,bP,hm,bZ,bX,nz,kt,d1,d2,d3,w1,fw,gj,gd,cR,dP,au]<;>try refine an ?_ ?_)
    exact kS
 ·have d1:decide ((i:Int)<((aH x).length:Int))=false:=dV;have d2:decide ((i:Int)<((aH y).length:Int))=false:=dV;have d3:decide ((c:Int)>0)=false:=dV;rw[An (n:=x) (by omega),An (n:=y) (by omega),show c=0 by omega] at aF
  have cn:=Cw o (by omega);rw[FD (n:=x+y) hO (by simpa using aF)] at cn;have b1:=Fz (aH (x+y));have fb:=oR (n:=5) iO hm;rw[a0] at fb;refine ao ?_;repeat' (intro (aw:_=_)<;>simp only[aw,go_sem,go_sem_proc,gZ,g0,ak,E,bl,bz,bP,hm,d1,d2,d3,cn,b1,fb,Cv,kz,au]<;>try refine an ?_ ?_)
def J5:=bW lr λ(x,y)=>cv ((aH x).length<=10000/\(aH y).length<=10000/\y<=x) (.same (da (x-y)))
@[go_sem] def aeW (x y):=cK J5 rfl wb (x,y) rfl
def arD (T:bj)(gZ:T rL=aW Cx)(g0:T rK=aW yD):WF T aeH J5:=by
 refine cp λ(x,y)=>cN λZ=>⟨rfl,cq ?_⟩;simp only[aeH,lr,cg];obtain⟨J,af,kp⟩:=Z;have nz:(aH x).length<=1000000:=by omega
 have kt:(aH y).length<=1000000:=by omega
 have ZJ:(aH y).length<=(aH x).length:=by rw[fR];exact wg kp (fR.1 (bI _))
 simp only[go_sem,go_sem_proc,gZ,g0,da,au];refine du [0,1] [] (λ((i,c,g,o):Nat×Nat×Nat×List Int) tm mem=>i<=(aH x).length/\c<=1/\y/1048576^i+c<=x/1048576^i/\D o=i/\dZ o/\aX o+1048576^i*((x/1048576^i-(y/1048576^i+c):Nat):Int)=((x-y:Nat):Int)/\tm 6=.M (.int .i64 c)/\tm 7=.M (.int .i64 i)/\tm 5=.ref 182032 g 1 0 i/\mem 182032=some (g,a7 aJ o)) (λ(i,_)=>(aH x).length-i) (0,0,0,[]) (by refine⟨by omega,by omega,by simpa using kp,rfl,by simp[dZ],by simp[aX],rfl,rfl,rfl,rfl⟩) ?_;intro vs ms aY aT;simp only[go_sem,go_sem_proc,gZ,g0,da] at aY aT;subst aY aT;rintro⟨i,c,g,o⟩ tm mem O-⟨L,kK,hle,a0,hO,ai,bz,bP,bl,hm⟩;simp only[go_sem,go_sem_proc,gZ,g0,bo] at O;obtain⟨ak,E⟩:=O;have aF:aX o+1048576^i*((x/1048576^i-(y/1048576^i+c):Nat):Int)=((x-y:Nat):Int):=ai;have GN:y/1048576^i+c<=x/1048576^i:=hle
 by_cases cb:i<(aH x).length
 ·have d1:decide ((i:Int)<((aH x).length:Int))=true:=dI;have aK:=FB x i;have az:=FB y i;have bZ:=FA x i;rw[eH,bw cb] at bZ;have gz:(aH x)[i]?=some ((x/1048576^i%1048576:Nat):Int):=by rw[bw cb];exact congrArg some bZ
  have bX:=FA y i;have cz:=mW (x/1048576^i) (show 0<1048576 by omega);have ef:=mW (y/1048576^i) (show 0<1048576 by omega);have ib:(1048576:Int)^(i+1)=1048576^i*1048576:=lZ _ _;clear bZ hle ai;generalize qE:x/1048576^i=X at *;generalize ob:y/1048576^i=cV at *;generalize FE:x/1048576^(i+1)=X' at *;generalize FF:y/1048576^(i+1)=Y' at *;generalize a2:X%1048576=a at *;generalize U:cV%1048576=b at *;have w1:IntKind.i64.wrap ((a:Int)-(b:Int))=(a:Int)-(b:Int):=wrap64 _ (by omega) (by omega);have fw:IntKind.i64.wrap ((a:Int)-(b:Int)-(c:Int))=(a:Int)-(b:Int)-(c:Int):=wrap64 _ (by omega) (by omega);have cR:=hy (i:=i) (by omega);have kD:IntKind.i64.wrap ((a:Int)-(b:Int)-(c:Int)+1048576)=(a:Int)-(b:Int)-(c:Int)+1048576:=wrap64 _ (by omega) (by omega);have dP:=λd:Int=>oQ iO vZ 182032 g 8 o d (cs:=[.M (.int .i64 d)]) rfl (by omega) (by omega);rw[a0] at dP;rcases kV:decide ((a:Int)-(b:Int)-(c:Int)<0)
  ·have aE:=of_decide_eq_false kV;refine ao ?_;repeat' (intro h<;>simp only[h,go_sem,go_sem_proc,gZ,g0,ak,E,bl,bz,bP,hm,gz,bX,kt,d1,w1,fw,cR,dP,kV,aJ,au,bD]<;>try refine an ?_ ?_)
   refine⟨(i+1,0,g+1,o++[(a:Int)-(b:Int)-(c:Int)]),by dsimp only;omega,by dsimp only;omega,by dsimp only;omega,by dsimp only;rw[FE,FF];omega,by simp[a0],Vl hO (by omega) (by omega),?_,rfl,rfl,rfl,rfl⟩
   dsimp only;rw[FE,FF,Vm,a0,ib,<-aF];have ee:((X-(cV+c):Nat):Int)=1048576*((X'-(Y'+0):Nat):Int)+((a:Int)-b-c):=by omega
   rw[ee,hz,hA];omega
  ·have aE:=of_decide_eq_true kV;refine ao ?_;repeat' (intro h<;>simp only[h,go_sem,go_sem_proc,gZ,g0,ak,E,bl,bz,bP,hm,gz,bX,kt,d1,w1,fw,cR,kD,dP,kV,aJ,au,bD]<;>try refine an ?_ ?_)
   refine⟨(i+1,1,g+1,o++[(a:Int)-(b:Int)-(c:Int)+1048576]),by dsimp only;omega,by dsimp only;omega,by dsimp only;omega,by dsimp only;rw[FE,FF];omega,by simp[a0],Vl hO (by omega) (by omega),?_,rfl,rfl,rfl,rfl⟩
   dsimp only;rw[FE,FF,Vm,a0,ib,<-aF];have ee:((X-(cV+c):Nat):Int)=1048576*((X'-(Y'+1):Nat):Int)+((a:Int)-b-c+1048576):=by omega
   have kU:∀p aQ b6:Int,aX o+p*aQ+p*1048576*b6=aX o+p*(1048576*b6+aQ):=λp aQ b6=>by rw[hz p (1048576*b6) aQ,<-hA];omega
   rw[ee];exact kU _ _ _
 ·have d1:decide ((i:Int)<((aH x).length:Int))=false:=dV;rw[An (n:=x) (by omega),An (n:=y) (by omega),Nat.zero_sub,nu,wm,H8] at aF;have cn:=Cw o (by omega);rw[FD (n:=x-y) hO aF] at cn;have b1:=Fz (aH (x-y));have fb:=oR (n:=5) iO hm;rw[a0] at fb;refine ao ?_;repeat' (intro h<;>simp only[h,go_sem,go_sem_proc,gZ,g0,ak,E,bl,bz,bP,hm,d1,cn,b1,fb,Cv,kz,au]<;>try refine an ?_ ?_)
def aeX {b:List Int}{k:Nat}(h:k<D b):b.getD k 0=b[k]:=by rw[eH,bw h];rfl
def Vn {b:List Int}{k:Nat}(h:(D b)<=k):b.getD k 0=0:=by rw[eH,mI h];rfl
def J6:=bW lr λ(x,y)=>cv ((aH x).length<=10000/\(aH y).length<=10000) (.same (da (x*y)))
@[go_sem] def aeY (x y):=cK J6 rfl wb (x,y) rfl
def arE (T:bj)(gZ:T rL=aW Cx)(g0:T rK=aW yD):WF T aeK J6:=by
 refine cp λ(x,y)=>cN λZ=>⟨rfl,cq ?_⟩;simp only[aeK,lr,cg];obtain⟨J,af⟩:=Z;have rN:=lp x;have pT:=lp y;have uE:=kr x;have Bm:=kr y;generalize a2:aH x=a at *;generalize U:aH y=b at *;have o0:IntKind.i64.wrap ((D a:Int)+(D b:Int))=((D a+D b:Nat):Int):=by rw[fr _];rfl
 have ka:8*(D a+D b)<=140737488355328:=by omega
 have dr:(D a)+D b<=maxLen:=DZ _ (by omega);have nq:(D b)<=1000000:=by omega
 simp only[go_sem,go_sem_proc,gZ,g0,da,a2,U,o0,ka,dr,DY,au]
 refine du [0,1,5] [] (λ((i,o):Nat×List Int) tm mem=>i<=D a/\D o=D a+D b/\dZ o/\o.drop (i+D b)=bT (D o-(i+D b)) 0/\aX o=aX (a.take i)*y/\tm 6=.M (.int .i64 (i:Nat))/\mem 186015=some (0,a7 aJ o))
  (λ(i,_)=>D a-i) (0,bT (D a+D b) 0) (by
   have aP:∀n,aX (bT n 0)=0:=by
    intro n
    induction n with
    |zero=>rfl
    |succ n aD=>rw[pF,rI,aD];rfl
   refine⟨ej _,by simp,λd ae=>by rw[n4] at ae;omega,by simp,by rw[aP];simp[aX],?_,?_⟩<;>rfl) ?_
 intro vs ms aY aT;simp only[go_sem,go_sem_proc,gZ,g0,da,a2,U,o0,au] at aY aT;subst aY aT;rintro⟨i,o⟩ tm mem O-⟨L,a0,hO,mR,iK,bz,hm⟩;simp only[go_sem,go_sem_proc,gZ,g0,bo] at O;obtain⟨ak,E,bl⟩:=O;rcases eo (i<D a) with av|bM
 ·have oY:a[i]?=some a[i]:=bw av;have zg:=ke rN i av;have rA:=kd a i av;generalize a[i]=g7 at *;have jm:decide ((i:Int)<(D a:Int))=true:=dI;have H7:IntKind.i64.wrap ((i:Int)+1)=((i+1:Nat):Int):=by rw[fr _];rfl
  simp only[go_sem,go_sem_proc,gZ,g0,ak,E,bl,bz,oY,jm,aJ,au,bD,bo]
  refine du [0,1,5,6] [] (λ((k,c,o):Nat×Int×List Int) tm mem=>k<=D b+1/\(k=D b+1->c=0)/\D o=D a+D b/\dZ o/\o.drop (i+max k (D b))=bT (D o-(i+max k (D b))) 0/\0<=c/\c<1048576/\aX o+1048576^(i+k)*c=aX (a.take i)*y+1048576^i*(g7*aX (b.take k)) /\
    tm 8=.M (.int .i64 (k:Nat))/\tm 7=.M (.int .i64 c)/\mem 186015=some (0,a7 aJ o))
   (λ(k,_)=>D b+1-k) (0,0,o) (by refine⟨ej _,by simp,a0,hO,by rw[Nat.zero_max];exact mR,by omega,by omega,by simp[aX,iK],?_,?_,hm⟩<;>rfl) ?_
  intro vs ms aY aT;simp only[go_sem,go_sem_proc,gZ,g0,ak,E,bl,bz,aJ,au] at aY aT;subst aY aT;rintro⟨k,c,o⟩ tm mem O-⟨vP,J7,a0,hO,mR,rO,kK,iK,ct,bP,hm⟩;simp only[go_sem,go_sem_proc,gZ,g0,bo] at O;obtain⟨ak,E,bl,bz⟩:=O;have gD:IntKind.i64.wrap ((k:Int)+1)=((k+1:Nat):Int):=by rw[fr _];rfl
  have lu:IntKind.i64.wrap ((i:Int)+(k:Int))=((i+k:Nat):Int):=by rw[fr _];rfl
  by_cases cb:k<(D b)\/c>0
  ·have HX:k<=D b:=by
    rcases fF (D b) k with h|h
    ·have:=J7 (by omega);omega
    ·exact h
   have n5:i+k<D o:=by omega
   have R5:=ke hO (i+k) n5
   have D3:0<=b.getD k 0/\b.getD k 0<1048576:=by
    rcases fF k (D b) with h|h
    ·rw[aeX h];exact ke pT k h
    ·rw[Vn h];omega
   have Tr:aX (b.take (k+1))=aX (b.take k)+1048576^k*b.getD k 0:=by
    rcases fF k (D b) with h|h
    ·rw[aeX h];exact kd b k h
    ·rw[Vn h,dx (by omega),dx (by omega)];simp
   have uc:k<(D b)\/(k=D b/\o[i+k]=0):=by
    rcases fF k (D b) with h|h
    ·exact .inl h
    ·refine .inr ⟨by omega,ZM mR (by omega) n5⟩
   have Vo:=aeR b k nq;generalize b.getD k 0=oB at *;obtain⟨aU,bO,hK,nv⟩:=ZL R5 zg D3 ⟨rO,kK⟩;have mZ:IntKind.i64.wrap (g7*oB)=g7*oB:=wrap64 _ (by omega) (by omega);have D4:IntKind.i64.wrap (o[i+k]+g7*oB)=o[i+k]+g7*oB:=wrap64 _ (by omega) (by omega);have zq:IntKind.i64.wrap (o[i+k]+g7*oB+c)=o[i+k]+g7*oB+c:=wrap64 _ (by omega) (by omega);have s6:(o[i+k]+g7*oB+c).tmod 1048576=(o[i+k]+g7*oB+c)%1048576:=HZ (by omega);have Mq:IntKind.i64.wrap ((o[i+k]+g7*oB+c).tdiv 1048576)=(o[i+k]+g7*oB+c)/1048576:=by rw[D6 (by omega)];exact wrap64 _ (by omega) (by omega)
   have kf:i+k+1<=(a7 aJ o).length:=by rw[oX];omega
   have m0:=HT o (i+k) n5;have h3:=λd=>wa o (i+k) d n5;have h2:i+k<D a+D b:=by omega
   have kS:∃aZ:Nat×Int×List Int,D b+1-aZ.1<D b+1-k/\aZ.1<=D b+1/\(aZ.1=D b+1->aZ.2.1=0)/\aZ.2.2.length=D a+D b/\dZ aZ.2.2/\aZ.2.2.drop (i+max aZ.1 (D b))=bT (aZ.2.2.length-(i+max aZ.1 (D b))) 0/\0<=aZ.2.1/\aZ.2.1<1048576/\aX aZ.2.2+1048576^(i+aZ.1)*aZ.2.1=aX (a.take i)*y+1048576^i*(g7*aX (b.take aZ.1)) /\
     I.M (Data.int .i64 ((k+1:Nat):Int))=I.M (Data.int .i64 (aZ.1:Nat))/\I.M (Data.int .i64 ((o[i+k]+g7*oB+c)/1048576))=I.M (Data.int .i64 aZ.2.1)/\some (0,a7 aJ (o.set (i+k) ((o[i+k]+g7*oB+c)%1048576)))=some (0,a7 aJ aZ.2.2):=by
    refine⟨(k+1,(o[i+k]+g7*oB+c)/1048576,o.set (i+k) ((o[i+k]+g7*oB+c)%1048576)),by dsimp only;omega,by dsimp only;omega,?_,by simp[a0],x1 hO _ (by omega),?_,hK,nv,?_,rfl,rfl,rfl⟩
    ·intro h;dsimp only at h ⊢;rcases uc with G|⟨G,ab⟩
     ·omega
     ·have arF:oB=0:=by
       have e:=Vo;rw[aeR b k nq,Vn (by omega)] at e
       simpa using e.symm
      rw[ab,arF,wm];omega
    ·dsimp only;rcases uc with G|⟨G,ab⟩
     ·rw[Vp (by omega)] at mR;rw[Vp (by omega),ry (by omega),gg,mR]
     ·rw[Vp (by omega),<-G] at mR;rw[Nat.max_eq_left (by omega)];exact ZN mR n5
    ·dsimp only;rw[R1 _ _ _ n5,Tr,<-Nat.add_assoc,lZ,ZK _ _ _ _ _ _ _ iK];rw[hz (g7),hz (1048576^i),Int.pow_add]
     have:(1048576:Int)^i*(g7*(1048576^k*oB))=1048576^i*1048576^k*(g7*oB):=by
      rw[<-hA (g7),Int.mul_comm (g7) (1048576^k),hA (1048576^k),<-hA]
     omega
   by_cases aAF:k<D b
   ·have d1:decide ((k:Int)<(D b:Int))=true:=dI;refine ao ?_;repeat' (intro (aw:_=_)<;>simp only[aw,go_sem,go_sem_proc,gZ,g0,ak,E,bl,bz,bP,ct,hm,oY,Vo,d1,gD,lu,mZ,D4,zq,s6,Mq,h2,kf,m0,h3,aJ,dU,au,bD,bo]<;>try refine an ?_ ?_)
    exact kS
   ·have d1:decide ((k:Int)<(D b:Int))=false:=dV;have d2:decide (c>0)=true:=dI;refine ao ?_;repeat' (intro (aw:_=_)<;>simp only[aw,go_sem,go_sem_proc,gZ,g0,ak,E,bl,bz,bP,ct,hm,oY,Vo,d1,d2,gD,lu,mZ,D4,zq,s6,Mq,h2,kf,m0,h3,aJ,dU,au,bD,bo]<;>try refine an ?_ ?_)
    exact kS
  ·have d1:decide ((k:Int)<(D b:Int))=false:=dV;have d2:decide (c>0)=false:=dV;have arG:c=0:=by omega
   rw[arG,wm,H8,show b.take k=b from dx (by omega),Bm] at iK;refine ao ?_;repeat' (intro (aw:_=_)<;>simp only[aw,go_sem,go_sem_proc,gZ,g0,ak,E,bl,bz,bP,ct,hm,d1,d2,H7,au]<;>try refine an ?_ ?_)
   refine⟨(i+1,o),by dsimp only;omega,by dsimp only;omega,a0,hO,?_,?_,rfl,rfl⟩
   ·dsimp only;have ab:=congrArg (pS (i+1+D b-(i+max k (D b)))) mR;rw[List.drop_drop,List.drop_replicate] at ab;rw[show i+max k (D b)+(i+1+D b-(i+max k (D b)))=i+1+(D b) by omega] at ab
    rw[ab]
    congr 1
    omega
   ·dsimp only;rw[iK,rA,Int.add_mul,hA]
 ·obtain rfl:i=D a:=by omega
  have jm:decide ((D a:Int)<(D a:Int))=false:=dV;rw[dx (bI _),uE] at iK;have cn:=Cw o (by omega);rw[FD (n:=x*y) hO (by rw[iK];rfl)] at cn;have b1:=Fz (aH (x*y));have fb:=oR (n:=5) iO hm;rw[a0] at fb;refine ao ?_;repeat' (intro (aw:_=_)<;>simp only[aw,go_sem,go_sem_proc,gZ,g0,ak,E,bl,bz,hm,jm,cn,b1,fb,Cv,kz,da,au]<;>try refine an ?_ ?_)
def eF.yE:eF->List Nat->eF
 |.seq a _,0::p=>a.yE p
 |.seq _ b,_::p=>b.yE p
 |.cond _ a _,0::p=>a.yE p
 |.cond _ _ b,_::p=>b.yE p
 |.block _ c,_::p=>c.yE p
 |.ghost _ c,_::p=>c.yE p
 |.loop c,_::p=>c.yE p
 |c,_=>c
def aeZ {n:Nat}(h:0<n)(E:n<1048576):[(n:Int)]=aH n:=(A7 h E).symm
def arH {n:Nat}(E:n<1048576):fj [(n:Int)]=aH n:=FD (by intro d ae;have:=wq.1 ae;omega) (by simp[aX])
def arI {d:Int}{r:Nat}(ak:0<=d)(E:d<1048576):fj (d::aH r)=aH (d.toNat+1048576*r):=FD (A4.2 ⟨⟨ak,E⟩,lp r⟩) (by rw[rI,kr];omega)
def Vq {n m k:Nat}(h:n<m*1048576)(hm:(aH m).length<=k):(aH n).length<=k+1:=by
 rw[fR] at *;rw[sR];exact Nat.lt_of_lt_of_le h (mJ _ (zD hm))
def ae0 (T:bj)(q3:T HK=aW J6)(lL:T DO=aW FC){K:fi->a3->Prop}{md:List iM}(y bR:Nat)(af:(aH y).length<=1000)(dK:(aH bR).length<=1001)(g8:0<y)(arJ:bR<y*1048576)(v0 v6 ae1:I)(tm:Nat->I)(m:Mem)
  (eO:tm 0=v0) (aK:tm 1=.M (.ay ((aH y).map aJ))) (sn:tm 6=v6) (J8:tm 7=.M (.ay ((aH bR).map aJ))) (tu:tm 8=ae1) (Ms:tm 9=.M (.int .i64 0)) (ae2:tm 10=.M (.int .i64 1048576))
  (et:∀tm',tm' 0=v0->tm' 1=.M (.ay ((aH y).map aJ))->tm' 6=v6->tm' 7=.M (.ay ((aH bR).map aJ))->tm' 8=ae1->tm' 9=.M (.int .i64 ((bR/y:Nat):Int))->cI T K md (.exit 2) ⟨tm',m⟩) :
  wp T (OA.body.yE [1,1,1,0,1,0,0,1,0,0,1,1,1,0,0]) (cI T K md) ⟨tm,m⟩:=by
 simp only[OA,eF.yE];refine du [0,1,6,7,8] [] (λ((bQ,L):Nat×Nat) tm' m'=>bQ<L/\L<=1048576/\bQ*y<=bR/\bR<L*y/\tm' 9=.M (.int .i64 bQ)/\tm' 10=.M (.int .i64 L)/\m'=m) (λ(bQ,L)=>L-bQ) (0,1048576) (by refine⟨by omega,by omega,by omega,by rw[pO];exact arJ,Ms,ae2,rfl⟩) ?_;intro vs ms aY aT;simp only[go_sem,go_sem_proc,eO,aK,sn,J8,tu] at aY aT;subst aY aT;clear eO aK sn J8 tu Ms ae2;rintro⟨bQ,L⟩ tm m' O hm ⟨aAG,a1,fG,jg,jj,kq,rfl⟩;simp only[go_sem,go_sem_proc,bo] at O hm;obtain⟨ak,E,bz,bP,ct⟩:=O;have w1:IntKind.i64.wrap ((L:Int)-(bQ:Int))=(L:Int)-(bQ:Int):=wrap64 _ (by omega) (by omega)
 by_cases cb:L-bQ>1
 ·have d1:decide ((L:Int)-(bQ:Int)>1)=true:=dI;have fw:IntKind.i64.wrap ((bQ:Int)+(L:Int))=((bQ+L:Nat):Int):=by rw[fr _];omega
  have cR:IntKind.i64.wrap (((bQ+L:Nat):Int).tdiv 2)=(((bQ+L)/2:Nat):Int):=by rw[D6 (by omega),wrap64 _ (by omega) (by omega)];omega
  obtain⟨vg,arK⟩:∃vg:Nat,vg=(bQ+L)/2:=⟨_,rfl⟩;rw[<-arK] at cR;have cn:=aeY y vg ⟨by omega,by rw[<-aeZ (n:=vg) (by omega) (by omega)];simp⟩
  simp only[da] at cn;rw[<-aeZ (n:=vg) (by omega) (by omega)] at cn;simp only[hi,cE,aJ] at cn;have ua:(aH (y*vg)).length<=1001:=Vq (ae3 (show vg<1048576 by omega) g8) af;have b1:=aeU bR (y*vg) ⟨by omega,by omega⟩
  simp only[da] at b1;rcases ae:decide (bR<y*vg)
  ·have aE:=of_decide_eq_false ae;rw[ae] at b1;refine ao ?_;repeat' (intro h<;>simp only[h,go_sem,go_sem_proc,q3,lL,ak,E,bz,bP,ct,jj,kq,w1,fw,cR,d1,cn,b1]<;>try refine an ?_ ?_)
   exact⟨(vg,L),by dsimp only;omega,by dsimp only;omega,a1,by dsimp only;rw[pO];omega,jg,rfl,rfl⟩
  ·have aE:=of_decide_eq_true ae;rw[ae] at b1;refine ao ?_;repeat' (intro h<;>simp only[h,go_sem,go_sem_proc,q3,lL,ak,E,bz,bP,ct,jj,kq,w1,fw,cR,d1,cn,b1]<;>try refine an ?_ ?_)
   exact⟨(bQ,vg),by dsimp only;omega,by dsimp only;omega,by dsimp only;omega,fG,by dsimp only;rw[pO];omega,rfl,rfl⟩
 ·have d1:decide ((L:Int)-(bQ:Int)>1)=false:=dV
  have aL:bR/y=bQ:=by
   have E:L=bQ+1:=by omega
   subst E;exact Nat.div_eq_of_lt_le fG jg
  refine ao ?_;repeat' (intro h<;>simp only[h,go_sem,go_sem_proc,ak,E,bz,bP,ct,jj,kq,w1,d1]<;>try refine an ?_ ?_)
  refine et _ ?_ ?_ ?_ ?_ ?_ ?_<;>simp only[tP,yr,if_false,ak,E,bz,bP,ct,jj,aL]
def J9:=bW lr λ(x,y)=>cv ((aH x).length<=1000/\(aH y).length<=1000/\0<y) (.same (.dc [da (x/y),da (x%y)]))
@[go_sem] def ae4 (x y):=cK J9 rfl wb (x,y) rfl
def arL (T:bj)(g0:T rK=aW yD)(q3:T HK=aW J6)(lL:T DO=aW FC)(pk:T HJ=aW J5):WF T OA J9:=by
 refine cp λ(x,y)=>cN λZ=>⟨rfl,cq ?_⟩;simp only[OA,lr,cg];obtain⟨J,af,g8⟩:=Z;have rN:=lp x;have uE:=kr x;generalize a2:aH x=a at *;have ka:8*D a<=140737488355328:=by omega
 have dr:(D a)<=maxLen:=DZ _ (by omega);have zy:IntKind.i64.wrap ((D a:Int)-1)=(D a:Int)-1:=wrap64 _ (by omega) (by omega);simp only[go_sem,go_sem_proc,g0,q3,lL,pk,da,a2,ka,dr,DY,zy,au]
 refine du [0,1,6] [] (λ((n,r,wQ,o):Nat×Nat×I×List Int) tm mem=>n<=D a/\D o=D a/\dZ o/\r<y/\aX (a.drop n)=y*aX (o.drop n)+r/\(wQ=.nil/\r=0\/wQ=.M (da r))/\tm 8=.M (.int .i64 ((n:Nat)-1))/\tm 7=wQ/\mem 180014=some (0,a7 aJ o))
  (λ(n,_)=>n) (D a,0,.nil,bT (D a) 0) (by
   refine⟨bI _,by simp,λd ae=>by rw[n4] at ae;omega,g8,by simp[aX],.inl ⟨rfl,rfl⟩,rfl,rfl,rfl⟩) ?_
 intro vs ms aY aT;simp only[go_sem,go_sem_proc,g0,q3,lL,pk,da,a2,au] at aY aT;subst aY aT;rintro⟨n,r,wQ,o⟩ tm mem O-⟨aE,a0,hO,mo,ai,I5,ct,bP,hm⟩;simp only[go_sem,go_sem_proc,g0,q3,lL,pk,bo] at O;obtain⟨ak,E,bz⟩:=O;rcases n with _|n
 ·have aL:aX o=((x/y:Nat):Int)/\r=x%y:=by
   rw[oO,oO,uE] at ai;have aK:(x:Int)/(y:Int)=aX o:=by rw[ai,wj,Int.add_mul_ediv_left _ _ (by omega),Int.ediv_eq_zero_of_lt (by omega) (by omega)];omega
   have az:(x:Int)%(y:Int)=r:=by rw[ai,wj,Int.add_mul_emod_self_left,Int.emod_eq_of_lt (by omega) (by omega)]
   refine⟨by rw[<-aK];rfl,by omega⟩
  have cn:=Cw o (by omega);rw[FD (n:=x/y) hO aL.1] at cn;have b1:=Fz (aH (x/y));have fb:=oR (n:=5) iO hm;rw[a0] at fb;rcases I5 with ⟨rfl,rS⟩|rfl
  ·have aP:aH (x%y)=[]:=by rw[<-aL.2,rS];rfl
   refine ao ?_;repeat' (intro (aw:_=_)<;>simp only[aw,go_sem,go_sem_proc,g0,q3,lL,pk,ak,E,bz,bP,ct,hm,cn,b1,fb,aP,Cv,kz,da,nu,n2,show ¬ ((0:Int)-1>=0) by omega,decide_false,au,cE]<;>try refine an ?_ ?_)
  ·refine ao ?_;repeat' (intro (aw:_=_)<;>simp only[aw,go_sem,go_sem_proc,g0,q3,lL,pk,ak,E,bz,bP,ct,hm,cn,b1,fb,Cv,kz,da,nu,n2,show ¬ ((0:Int)-1>=0) by omega,decide_false,au,cE,aL.2]<;>try refine an ?_ ?_)
 ·have oY:a[n]?=some a[n]:=bw (by omega);have D5:=ke rN n (by omega);have RV:a.drop n=a[n]::a.drop (n+1):=gK (by omega);have ji:n<D o:=by omega
  have RZ:∀e:Int,(o.set n e).drop n=e::o.drop (n+1):=λe=>by
   rw[gK (by simpa using ji),List.getElem_set_self,ry (by omega)]
  generalize a[n]=d at *;have hw:((n+1:Nat):Int)-1=(n:Int):=by omega
  have bM:decide ((n:Int)>=0)=true:=dI;have mZ:IntKind.i64.wrap ((n:Int)-1)=(n:Int)-1:=wrap64 _ (by omega) (by omega);have b0:(aH r).length<=1000:=by rw[fR] at *;omega
  obtain⟨bR,dK⟩:∃bR:Nat,bR=d.toNat+1048576*r:=⟨_,rfl⟩
  have OD:bR<y*1048576:=by
   have:(r+1)*1048576<=y*1048576:=mJ _ mo;omega
  have ae5:=Vq OD af;have pf:=arI (d:=d) (r:=r) D5.1 D5.2;rw[<-dK] at pf;have cn:=Cw (d::aH r) (by rw[jt];omega);rw[pf] at cn;simp only[hi,aJ] at cn;have b1:=Fz (aH bR)
  have xg:∀bc:Nat,mF 180026 bc 1 1 8 (aH r).length (((aH r).map aJ).flatten.map .M) (some (bc,[.M (.int .i64 d)]))=some (.ref 180026 (bc+1) 1 0 (1+(aH r).length),some (180026,bc+1,a7 aJ (d::aH r))):=λbc=>by
   have:=Hn iO vZ 180026 bc 8 [d] (aH r) (by rw[U2];omega) (by rw[U2];omega);exact this
  have arM:∀(bc:Nat) (m:Mem),m 180026=some (bc,a7 aJ (d::aH r))->cC 6 m (.ref 180026 bc 1 0 (1+(aH r).length))=some (.ay ((d::aH r).map aJ)):=λbc m hm=>by
   have:=oR (n:=5) iO hm;rw[jt,Nat.add_comm (aH r).length 1] at this;exact this
  have mO:(((aH r).map aJ).all λe=>D e==1)=true:=RS _;have Vr:=arM (hL (mem 180026)+1) (aR (aR mem 180026 (hL (mem 180026)) [I.M (.int .i64 d)]) 180026 (hL (mem 180026)+1) (a7 aJ (d::aH r))) (by simp[aR]);have mQ:n<D a:=by omega
  obtain⟨bQ,fG⟩:∃bQ:Nat,bQ=bR/y:=⟨_,rfl⟩;have Vs:bQ<1048576:=by rw[fG];exact Nat.div_lt_of_lt_mul OD
  have Iw:=Nat.div_add_mod bR y;have ua:=mW bR g8;rw[<-fG] at Iw;have P7:bR-y*bQ=bR%y:=by omega
  have aAH:(aH (y*bQ)).length<=1001:=Vq (ae3 Vs g8) af
  have ae6:yD [.ay [[.int .i64 ((bR/y:Nat):Int)]]]=some (.own 1 ((aH bQ).map aJ)):=by
   have h:=Cw [((bR/y:Nat):Int)] (by simp);rw[<-fG,arH Vs] at h;rw[<-fG];exact h
  have Vt:=aeY y bQ ⟨by omega,by have:(aH bQ).length<=1:=fR.2 (by rw[Nat.pow_one];exact Vs);omega⟩
  simp only[da] at Vt;have OE:=aeW bR (y*bQ) ⟨by omega,by omega,by omega⟩
  rw[P7] at OE;simp only[da] at OE;have kf:n+1<=(a7 aJ o).length:=by rw[oX];omega
  have h3:=wa o n ((bR/y:Nat):Int) ji
  have kS:∃aZ:Nat×Nat×I×List Int,aZ.1<n+1/\aZ.1<=D a/\aZ.2.2.2.length=D a/\dZ aZ.2.2.2/\aZ.2.1<y/\aX (a.drop aZ.1)=y*aX (aZ.2.2.2.drop aZ.1)+aZ.2.1/\(aZ.2.2.1=.nil/\aZ.2.1=0\/aZ.2.2.1=.M (.ay ((aH aZ.2.1).map aJ)))/\I.M (Data.int .i64 ((n:Int)-1))=I.M (Data.int .i64 ((aZ.1:Int)-1))/\I.M (Data.ay ((aH (bR%y)).map aJ))=aZ.2.2.1/\some (0,a7 aJ (o.set n ((bR/y:Nat):Int)))=some (0,a7 aJ aZ.2.2.2):=by
   refine⟨(n,bR%y,.M (da (bR%y)),o.set n ((bR/y:Nat):Int)),by dsimp only;omega,by dsimp only;omega,by simp[a0],x1 hO n (by omega),ua,?_,.inr rfl,rfl,rfl,rfl⟩
   dsimp only;rw[RV,rI,ai,RZ,rI,<-fG];have aK:(bR:Int)=d+1048576*r:=by omega
   have az:(y:Int)*bQ+(bR%y:Nat)=bR:=by exact_mod_cast Iw
   have ee:∀v:Int,(y:Int)*(bQ+1048576*v)=y*bQ+1048576*(y*v):=λv=>by rw[hz,Int.mul_left_comm]
   rw[ee];omega
  have main:wQ=.nil/\r=0\/wQ=.M (da r):=I5;rcases main with ⟨rfl,rS⟩|rfl
  ·subst rS;have ae7:=xg;simp only[qB,cE,aeO,ln] at ae7;simp only[qB,ln] at Vr;simp only[qB,cE] at cn;simp only[go_sem,go_sem_proc,g0,q3,lL,pk,ak,E,bz,bP,ct,hm,oY,hw,bM,ae7,cn,b1,Vr,Cv,kz,aJ,qB,au,bD,cE];refine ae0 T q3 lL y bR af ae5 g8 OD (.M (.ay (a.map aJ))) (.ref 180014 0 1 0 (D a)) (.M (.int .i64 n)) _ _ ?_ ?_ ?_ ?_ ?_ ?_ ?_ ?_
   ·exact ak
   ·exact E
   ·exact bz
   ·rfl
   ·simp only[tP,yr,if_false,ct,hw]
   ·rfl
   ·rfl
   intro tm' ft cm fT hY iS m1;refine ao ?_;repeat' (intro (aw:_=_)<;>simp only[aw,go_sem,go_sem_proc,g0,q3,lL,pk,ft,cm,fT,hY,iS,m1,hm,mQ,kf,h3,ae6,Vt,OE,mZ,dU]<;>try refine an ?_ ?_)
   exact kS
  ·simp only[go_sem,go_sem_proc,g0,q3,lL,pk,ak,E,bz,bP,ct,hm,oY,hw,bM,xg,mO,cn,b1,Vr,Cv,kz,da,aJ,au,bD];refine ae0 T q3 lL y bR af ae5 g8 OD (.M (.ay (a.map aJ))) (.ref 180014 0 1 0 (D a)) (.M (.int .i64 n)) _ _ ?_ ?_ ?_ ?_ ?_ ?_ ?_ ?_
   ·exact ak
   ·exact E
   ·exact bz
   ·rfl
   ·simp only[tP,yr,if_false,ct,hw]
   ·rfl
   ·rfl
   intro tm' ft cm fT hY iS m1;refine ao ?_;repeat' (intro (aw:_=_)<;>simp only[aw,go_sem,go_sem_proc,g0,q3,lL,pk,ft,cm,fT,hY,iS,m1,hm,mQ,kf,h3,ae6,Vt,OE,mZ,dU]<;>try refine an ?_ ?_)
   exact kS
def Cy:=bW DX λ(s,l)=>cv (D l<=1000000) (.same (.agg (dG (ks s l))))
@[go_sem] def aAI (s l):=cK Cy rfl ZA (s,l) rfl
def arN (T:bj)(g0:T rK=aW yD):WF T aeF Cy:=by
 refine cp λ(s,l)=>cN λZ=>⟨rfl,cq ?_⟩;simp only[aeF,DX,cg];have cn:=Cw l Z;have b1:=Fz (fj l);refine ao ?_;repeat' (intro h<;>simp only[h,go_sem,go_sem_proc,g0,cn,b1,au]<;>try refine an ?_ ?_)
 all_goals simp only[ks,dG,cE, *,reduceIte,fP,h8,Bool.or_true,Bool.true_or,Bool.or_false,sO,Bool.and_true,iD,jV,h9,dm,beq_self_eq_true,bne]
def yF:=bW qD λ(s,l)=>cv (D l<=1000000) (.same (.bool (cP (s,l))))
@[go_sem] def aAJ (s l):=cK yF rfl DW (s,l) rfl
def arO (T:bj):WF T aeB yF:=by
 refine cp λ(s,l)=>cN λZ=>⟨rfl,cq ?_⟩;simp only[aeB,qD,cg];simp only[go_sem,go_sem_proc,au];refine du [1] [162001] (λ(i:Nat) tm mem=>i<=D l/\l.all mm=(l.drop i).all mm/\tm 3=.M (.int .i64 i)) (λi=>D l-i) 0 (by refine⟨by omega,by simp,rfl⟩) ?_;intro vs ms aY aT;simp only[go_sem,go_sem_proc,au] at aY aT;subst aY aT;rintro i tm mem O hm ⟨L,ag,ab⟩;simp only[go_sem,go_sem_proc,bo] at O hm;have E:=O;rcases eo (i<D l) with av|bM
 ·have ae:l.drop i=l[i]::l.drop (i+1):=gK av;have J:l[i]?=some l[i]:=bw av;generalize l[i]=x at *;have d1:decide ((i:Int)<(D l:Int))=true:=dI
  have kS:∀b,mm x=true->b=(l.drop (i+1)).all mm->l.all mm=b:=by
   intro b E G;rw[ag,ae,Dw,E,G,iD]
  have oW:¬ mm x=true->cP (s,l)=false:=by
   intro E;rw[Bool.not_eq_true] at E;unfold cP;rw[ag,ae,Dw,E]
   rfl
  have cR:=hy (i:=i) (by omega);refine ao ?_;repeat' (intro (aw:_=_)<;>simp only[aw,go_sem,go_sem_proc,E,ab,hm,J,d1,cR,aJ,au,bD,bo]<;>try refine an ?_ ?_)
  ·rw[oW λh=>by have:=(Ik x).1 h;(simp only[bF,Data.bool.injEq,Data.int.injEq,true_and,decide_eq_true_eq,decide_eq_false_iff_not,dm,beq_iff_eq,beq_eq_false_iff_ne,ne_eq] at*<;> omega)]
  ·exact⟨i+1,by omega,by omega,kS _ ((Ik x).2 (by (simp only[bF,Data.bool.injEq,Data.int.injEq,true_and,decide_eq_true_eq,decide_eq_false_iff_not,dm,beq_iff_eq,beq_eq_false_iff_ne,ne_eq] at*<;> omega))) rfl,rfl⟩
  ·rw[oW λh=>by have:=(Ik x).1 h;(simp only[bF,Data.bool.injEq,Data.int.injEq,true_and,decide_eq_true_eq,decide_eq_false_iff_not,dm,beq_iff_eq,beq_eq_false_iff_ne,ne_eq] at*<;> omega)]
 ·have he:l.drop i=[]:=mH (by omega);rw[he] at ag;have dn:l.all mm=true:=by rw[ag];rfl
  have d1:decide ((i:Int)<(D l:Int))=false:=dV;rcases List.eq_nil_or_concat l with rfl|⟨r,x,rfl⟩
  ·have d2:decide ((i:Int)<0)=false:=d1;refine ao ?_;repeat' (intro (aw:_=_)<;>simp only[aw,go_sem,go_sem_proc,E,ab,hm,d2,ln,nu,n2,beq_self_eq_true,cE,bne]<;>try refine an ?_ ?_)
   all_goals (refine congrArg (λb=>some (Data.bool b)) ?_;unfold cP;simp;try simp only[decide_eq_true_eq,decide_eq_false_iff_not,beq_iff_eq,beq_eq_false_iff_ne,lF,Jo,beq_eq_false_iff_ne,ne_eq] at *;omega)
  ·rw[List.concat_eq_append] at *;have a6:(((r++[x]).length:Int)==0)=false:=by simp;omega
   have hw:IntKind.i64.wrap (((r++[x]).length:Int)-1)=(D r:Int):=by
    have bG:(r++[x]).length=D r+1:=by simp
    rw[fr _];omega
   have aC:((r++[x]).map aJ)[D r]?=some [.int .i64 x]:=by simp[aJ]
   have Q:cP (s,r++[x])=((s==1||s == -1)&&decide (((r++[x]).length:Int)<=60)&&(x != 0)):=by
    unfold cP;rw[dn];simp only[List.getLast?_append,List.getLast?_singleton];simp;have aK:decide (D r<=59)=decide ((D r:Int)+1<=60):=decide_eq_decide.2 (by omega);have az:(some x != some (0:Int))=(x != 0):=by simp[bne]
    rw[aK,az]
   rw[Q];refine ao ?_;repeat' (intro (aw:_=_)<;>simp only[aw,go_sem,go_sem_proc,E,ab,hm,d1,a6,hw,aC,au]<;>try refine an ?_ ?_)
   all_goals (refine congrArg (λb=>some (Data.bool b)) ?_;clear ag dn Q aC hw O hm E ab d1;rw[FG];simp only[dp,sN,decide_eq_true_eq,decide_eq_false_iff_not,beq_iff_eq,beq_eq_false_iff_ne,lF,Jo,ne_eq,dm,false_iff,true_iff] at *;omega)
def OF:=bW qD λ(s,l)=>cv (D l<=1000000) (.same (.agg (dG (kh (s,l)))))
@[go_sem] def aAK (s l):=cK OF rfl DW (s,l) rfl
def arP (T:bj)(hf:T nt=aW yF)(iH:T sV=aW Cy):WF T aeC OF:=by
 refine cp λ(s,l)=>cN λZ=>⟨rfl,cq ?_⟩;simp only[aeC,qD,cg]
 by_cases Q:cP (s,l)=true
 ·obtain⟨z,aP,e⟩:=(hQ _).1 Q;have aK:kh (s,l)=bt (-z):=by unfold kh;rw[aq Q,e,eL]
  cases e
  have hw:IntKind.i64.wrap (0-z.sign) = -z.sign:=by
   have:=Int.sign_trichotomy z;rw[fr _];omega
  rw[aK];refine ao ?_;repeat' (intro h<;>simp only[h,go_sem,go_sem_proc,hf,iH,Q,Z,hw,aaE,dG]<;>try refine an ?_ ?_)
 ·have Q:cP (s,l)=false:=by simpa using Q
  have aK:kh (s,l)=(0,[]):=by unfold kh;rw[Q];rfl
  rw[aK];refine ao ?_;repeat' (intro h<;>simp only[h,go_sem,go_sem_proc,hf,iH,Q,Z,dG,cE]<;>try refine an ?_ ?_)
def ae8 (n:Int):(n.tmod 1048576).natAbs=n.natAbs%1048576:=by rw[Int.natAbs_tmod];rfl
def ae9 (n:Int):(n.tdiv 1048576).natAbs=n.natAbs/1048576:=by rw[Int.natAbs_tdiv];rfl
def Ka:=bW sZ λ(n:Int)=>cv (dQ n) (.same (.agg (dG (bt n))))
@[go_sem] def aAL (n):=cK Ka rfl HQ n rfl
def arQ (T:bj)(iH:T sV=aW Cy):WF T aeA Ka:=by
 refine cp λn=>cN λZ=>⟨rfl,cq ?_⟩;simp only[aeA,sZ,cg];have uh:=Z;unfold dQ at uh;obtain⟨tU,pD⟩:=uh;have hlen:(aH n.natAbs).length<=60:=fR.2 (yd Z);rcases eo (n=0) with rfl|pH
 ·refine ao ?_;repeat' (intro (aw:_=_)<;>simp only[aw,go_sem,go_sem_proc,iH,dG,beq_self_eq_true]<;>try refine an ?_ ?_)
  rfl
 have a6:(n==0)=false:=by simpa using pH
 have R:∀s:Int,s=n.sign->ks s (aH n.natAbs)=bt n:=λs h=>n7 rfl λ_=>h;have zE:(aH n.natAbs).length<=1000000:=by omega
 rcases eo (n<0) with kV|hr
 ·have qW:=R (-1) (n6 kV).symm;simp only[go_sem,go_sem_proc,iH,a6,kV,decide_true];refine du [2,3] [144002] (λ((u,g,l):Int×Nat×List Int) tm mem=>u<=0/\n<=u/\aH n.natAbs=l++aH u.natAbs/\tm 0=.M (.int .i64 u)/\tm 4=.ref 144022 g 1 0 (D l)/\mem 144022=some (g,a7 aJ l)) (λ(u,_)=>u.natAbs) (n,0,[]) (by refine⟨by omega,by omega,rfl,rfl,rfl,rfl⟩) ?_;intro vs ms aY aT;simp only[go_sem,go_sem_proc,iH,kV,decide_true] at aY aT;subst aY aT;rintro⟨u,g,l⟩ tm mem O hm ⟨hu,arR,ae,ak,aM,FH⟩;simp only[go_sem,go_sem_proc,iH,bo] at O hm;obtain⟨G,ab⟩:=O;rcases eo (u=0) with rfl|En
  ·rw[show (0:Int).natAbs=0 from rfl,qB,nZ] at ae;rw[ae] at qW zE;refine ao ?_;repeat' (intro (aw:_=_)<;>simp only[aw,go_sem,go_sem_proc,iH,ak,G,ab,aM,hm,FH,qW,zE,xK iO,oc,dG,au,beq_self_eq_true]<;>try refine an ?_ ?_)
  ·have x6:(D l)<=60:=by
    have:=congrArg D ae;rw[la] at this;omega
   have rU:(u==0)=false:=by simpa using En
   have dP:=λd:Int=>oQ iO vZ 144022 g 8 l d (cs:=[.M (.int .i64 d)]) rfl (by omega) (by omega);have aK:=ae8 u;have az:=ae9 u;have ee:u.tmod 1048576<=0:=by have:=afa (a:=-u) 1048576 (by omega);rw[Int.neg_tmod] at this;omega
   have kU:u.tdiv 1048576<=0/\u<=u.tdiv 1048576:=by
    have:=afb (a:=-u) (b:=1048576) (by omega) (by omega);rw[Int.neg_tdiv] at this;omega
   have o0:IntKind.i64.wrap (u.tdiv 1048576)=u.tdiv 1048576:=wrap64 _ (by omega) (by omega);have gD:IntKind.i64.wrap (0-u.tmod 1048576) = -(u.tmod 1048576):=by rw[fr _];omega
   have s7:=sQ (n:=u.natAbs) (by omega)
   have kS:∀d:Int,d=((u.natAbs%1048576:Nat):Int)->∃aZ:Int×Nat×List Int,aZ.1.natAbs<u.natAbs/\aZ.1<=0/\n<=aZ.1/\aH n.natAbs=aZ.2.2++aH aZ.1.natAbs/\I.M (.int .i64 (u.tdiv 1048576))=I.M (.int .i64 aZ.1)/\I.ref 144022 (g+1) 1 0 (D l+1)=I.ref 144022 aZ.2.1 1 0 aZ.2.2.length/\some (g+1,a7 aJ (l++[d]))=some (aZ.2.1,a7 aJ aZ.2.2):=by
    intro d y0;refine⟨(u.tdiv 1048576,g+1,l++[d]),by dsimp only;omega,by dsimp only;omega,by dsimp only;omega,?_,rfl,by simp,rfl⟩
    dsimp only;rw[ae,s7,y0,az,hj]
    rfl
   by_cases aP:u.tmod 1048576<0
   ·refine ao ?_;repeat' (intro (aw:_=_)<;>simp only[aw,go_sem,go_sem_proc,iH,ak,G,ab,aM,hm,FH,rU,dP,o0,gD,aP,decide_true,au,bo]<;>try refine an ?_ ?_)
    exact kS _ (by omega)
   ·refine ao ?_;repeat' (intro (aw:_=_)<;>simp only[aw,go_sem,go_sem_proc,iH,ak,G,ab,aM,hm,FH,rU,dP,o0,gD,aP,decide_false,au,bo]<;>try refine an ?_ ?_)
    exact kS _ (by omega)
 ·have qW:=R 1 (ij (by omega)).symm;simp only[go_sem,go_sem_proc,iH,a6,hr,decide_false];refine du [2,3] [144002] (λ((u,g,l):Int×Nat×List Int) tm mem=>0<=u/\u<=n/\aH n.natAbs=l++aH u.natAbs/\tm 0=.M (.int .i64 u)/\tm 4=.ref 144022 g 1 0 (D l)/\mem 144022=some (g,a7 aJ l)) (λ(u,_)=>u.natAbs) (n,0,[]) (by refine⟨by omega,by omega,rfl,rfl,rfl,rfl⟩) ?_;intro vs ms aY aT;simp only[go_sem,go_sem_proc,iH,hr,decide_false] at aY aT;subst aY aT;rintro⟨u,g,l⟩ tm mem O hm ⟨hu,arR,ae,ak,aM,FH⟩;simp only[go_sem,go_sem_proc,iH,bo] at O hm;obtain⟨G,ab⟩:=O;rcases eo (u=0) with rfl|En
  ·rw[show (0:Int).natAbs=0 from rfl,qB,nZ] at ae;rw[ae] at qW zE;refine ao ?_;repeat' (intro (aw:_=_)<;>simp only[aw,go_sem,go_sem_proc,iH,ak,G,ab,aM,hm,FH,qW,zE,xK iO,oc,dG,au,beq_self_eq_true]<;>try refine an ?_ ?_)
  ·have x6:(D l)<=60:=by
    have:=congrArg D ae;rw[la] at this;omega
   have rU:(u==0)=false:=by simpa using En
   have dP:=λd:Int=>oQ iO vZ 144022 g 8 l d (cs:=[.M (.int .i64 d)]) rfl (by omega) (by omega);have aK:=ae8 u;have az:=ae9 u;have ee:=afa (a:=u) 1048576 (by omega);have kU:=afb (a:=u) (b:=1048576) (by omega) (by omega);have o0:IntKind.i64.wrap (u.tdiv 1048576)=u.tdiv 1048576:=wrap64 _ (by omega) (by omega);have s7:=sQ (n:=u.natAbs) (by omega);have aP:decide (u.tmod 1048576<0)=false:=dV;refine ao ?_;repeat' (intro (aw:_=_)<;>simp only[aw,go_sem,go_sem_proc,iH,ak,G,ab,aM,hm,FH,rU,dP,o0,aP,au,bo]<;>try refine an ?_ ?_)
   refine⟨(u.tdiv 1048576,g+1,l++[u.tmod 1048576]),by dsimp only;omega,by dsimp only;omega,by dsimp only;omega,?_,rfl,by simp,by first|rfl|simp[go_sem]⟩
   dsimp only;rw[ae,s7,az,hj,show u.tmod 1048576=((u.natAbs%1048576:Nat):Int) by omega]
   rfl
def qf (a b:Raw):Bool:=decide (a=b)
def OG:=bW j0 λ(s,l,s2,ah)=>cv (D l<=1000000/\D ah<=1000000) (.same (.bool (qf (s,l) (s2,ah))))
@[go_sem] def aAM (s l s2 ah):=cK OG rfl tb (s,l,s2,ah) rfl
def arS (T:bj):WF T aeN OG:=by
 refine cp λ(s,l,s2,ah)=>cN λZ=>⟨rfl,cq ?_⟩;simp only[aeN,j0,cg];obtain⟨bH,bG⟩:=Z
 by_cases R:s=s2
 ·subst R
  by_cases ad:(D l)=D ah
  ·have aK:(((D l:Nat):Int)==((D ah:Nat):Int))=true:=by simp;omega
   simp only[go_sem,go_sem_proc,beq_self_eq_true,au,aK,fP,bne];refine du [2,3] [210002,210003] (λ(i:Nat) tm mem=>i<=D l/\l.take i=ah.take i/\tm 5=.M (.int .i64 i)) (λi=>D l-i) 0 (by refine⟨by omega,by simp,rfl⟩) ?_;intro vs ms aY aT;simp only[go_sem,go_sem_proc,au] at aY aT;subst aY aT;rintro i tm mem O hm ⟨L,ag,bl⟩;simp only[go_sem,go_sem_proc,bo] at O hm;obtain⟨G,ab⟩:=O;obtain⟨bO,hK⟩:=hm;rcases eo (i<D l) with av|bM
   ·have J:l[i]?=some l[i]:=bw av;have af:ah[i]?=some ah[i]:=bw (by omega);have tU:l.take (i+1)=l.take i++[l[i]]:=by rw[jl,J];rfl
    have pD:ah.take (i+1)=ah.take i++[ah[i]]:=by rw[jl,af];rfl
    generalize l[i]=x at *;generalize ah[i]=y at *;have d1:decide ((i:Int)<(D l:Int))=true:=dI;have cR:=hy (i:=i) (by omega)
    by_cases kp:x=y
    ·subst kp;refine ao ?_;repeat' (intro (aw:_=_)<;>simp only[aw,go_sem,go_sem_proc,G,ab,bl,bO,hK,J,af,d1,cR,aJ,au,bD,bo,beq_self_eq_true,fP]<;>try refine an ?_ ?_)
     exact⟨i+1,by omega,by omega,by rw[tU,pD,ag],rfl⟩
    ·have a6:(x==y)=false:=by simpa using kp
     have Q:qf (s,l) (s,ah)=false:=by
      refine lP λh=>kp ?_;rw[ec] at h;rw[h.2,af] at J;exact (mN J).symm
     rw[Q];refine ao ?_;repeat' (intro (aw:_=_)<;>simp only[aw,go_sem,go_sem_proc,G,ab,bl,bO,hK,J,af,d1,cR,a6,aJ,au,bD,bo,h8]<;>try refine an ?_ ?_)
   ·have d1:decide ((i:Int)<(D l:Int))=false:=dV
    have Q:qf (s,l) (s,ah)=true:=by
     refine kG ?_;rw[dx (by omega),dx (by omega)] at ag;rw[ag]
    rw[Q];refine ao ?_;repeat' (intro (aw:_=_)<;>simp only[aw,go_sem,go_sem_proc,G,ab,bl,bO,hK,d1,au]<;>try refine an ?_ ?_)
  ·have aK:(((D l:Nat):Int)==((D ah:Nat):Int))=false:=by simp;omega
   have Q:qf (s,l) (s,ah)=false:=by
    refine lP λh=>ad ?_;rw[ec] at h;rw[h.2]
   rw[Q];refine ao ?_;repeat' (intro (aw:_=_)<;>simp only[aw,go_sem,go_sem_proc,beq_self_eq_true,au,aK,fP,h8,bne]<;>try refine an ?_ ?_)
 ·have a6:(s==s2)=false:=by simpa using R
  have Q:qf (s,l) (s2,ah)=false:=by
   refine lP λh=>R ?_;rw[ec] at h;exact h.1
  rw[Q];refine ao ?_;repeat' (intro (aw:_=_)<;>simp only[aw,go_sem,go_sem_proc,a6,au,fP,h8,bne]<;>try refine an ?_ ?_)
def arT {x y:Int}(h:bt x=bt y):x=y:=by rw[<-eL x,h,eL]
def OH:=bW j0 λ(s,l,s2,ah)=>cv (D l<=1000000/\D ah<=1000000) (.same (.int .i64 (o3 (s,l) (s2,ah))))
@[go_sem] def aAN (s l s2 ah):=cK OH rfl tb (s,l,s2,ah) rfl
def arU (T:bj)(hf:T nt=aW yF)(Cz:T Rv=aW OG)(lL:T DO=aW FC):WF T aeM OH:=by
 refine cp λ(s,l,s2,ah)=>cN λZ=>⟨rfl,cq ?_⟩;simp only[aeM,j0,cg];obtain⟨bH,bG⟩:=Z
 by_cases Q:cP (s,l)=true
 ·by_cases a5:cP (s2,ah)=true
  ·obtain⟨x,J,e⟩:=(hQ _).1 Q;obtain⟨y,af,az⟩:=(hQ _).1 a5;have hm:o3 (s,l) (s2,ah)=gN x y:=by rw[e,az];exact MB J af
   rw[hm];clear hm
   have CA:qf (s,l) (s2,ah)=decide (x=y):=by
    rw[e,az];exact decide_eq_decide.2 ⟨arT,λh=>by rw[h]⟩
   cases e
   cases az;have nz:=n8 J;have kt:=n8 af
   by_cases kp:x=y
   ·subst kp;rw[kG rfl] at CA;rw[Ei];refine ao ?_;repeat' (intro (aw:_=_)<;>simp only[aw,go_sem,go_sem_proc,hf,Cz,lL,Q,a5,bH,bG,CA]<;>try refine an ?_ ?_)
   ·rw[lP kp] at CA;have b1:=aeU x.natAbs y.natAbs ⟨by omega,by omega⟩
    simp only[da] at b1
    have FI:gN x y=if x<y then -1 else 1:=by
     rcases rT x y with h|h|h
     ·rw[Bx h,aq h]
     ·exact absurd h kp
     ·rw[By h,ar (by omega)]
    rw[FI]
    by_cases R:x.sign=y.sign
    ·have x9:(x.sign==y.sign)=true:=by simpa using R
     have ll:(decide (x.natAbs<y.natAbs)==decide (x.sign>0))=decide (x<y):=by
      rw[Bool.beq_eq_decide_eq,decide_eq_decide];simp only[decide_eq_decide];rcases jD x with ⟨e,E⟩|⟨e,E⟩|⟨e,E⟩<;>rcases jD y with ⟨e',G⟩|⟨e',G⟩|⟨e',G⟩<;>rw[e,e'] at R<;>first|omega|skip
     by_cases av:x<y
     ·rw[kG av] at ll;rw[aq av];refine ao ?_;repeat' (intro (aw:_=_)<;>simp only[aw,go_sem,go_sem_proc,hf,Cz,lL,Q,a5,bH,bG,CA,x9,b1,ll,fP,bne]<;>try refine an ?_ ?_)
     ·rw[lP av] at ll;rw[ar av];refine ao ?_;repeat' (intro (aw:_=_)<;>simp only[aw,go_sem,go_sem_proc,hf,Cz,lL,Q,a5,bH,bG,CA,x9,b1,ll,fP,bne]<;>try refine an ?_ ?_)
    ·have x9:(x.sign==y.sign)=false:=by simpa using R
     have ll:decide (x.sign<y.sign)=decide (x<y):=by
      rw[decide_eq_decide];rcases jD x with ⟨e,E⟩|⟨e,E⟩|⟨e,E⟩<;>rcases jD y with ⟨e',G⟩|⟨e',G⟩|⟨e',G⟩<;>rw[e,e'] at R ⊢<;>omega
     by_cases av:x<y
     ·rw[kG av] at ll;rw[aq av];refine ao ?_;repeat' (intro (aw:_=_)<;>simp only[aw,go_sem,go_sem_proc,hf,Cz,lL,Q,a5,bH,bG,CA,x9,ll,h8,bne]<;>try refine an ?_ ?_)
     ·rw[lP av] at ll;rw[ar av];refine ao ?_;repeat' (intro (aw:_=_)<;>simp only[aw,go_sem,go_sem_proc,hf,Cz,lL,Q,a5,bH,bG,CA,x9,ll,h8,bne]<;>try refine an ?_ ?_)
  ·have a5:cP (s2,ah)=false:=by simpa using a5
   have hm:o3 (s,l) (s2,ah)=0:=by unfold o3;rw[a5,jV];rfl
   rw[hm];refine ao ?_;repeat' (intro (aw:_=_)<;>simp only[aw,go_sem,go_sem_proc,hf,Cz,lL,Q,a5,bH,bG]<;>try refine an ?_ ?_)
 ·have Q:cP (s,l)=false:=by simpa using Q
  have hm:o3 (s,l) (s2,ah)=0:=by unfold o3;rw[Q,h9];rfl
  rw[hm];refine ao ?_;repeat' (intro (aw:_=_)<;>simp only[aw,go_sem,go_sem_proc,hf,Cz,lL,Q,bH,bG]<;>try refine an ?_ ?_)
def Kb:=bW j0 λ(s,l,s2,ah)=>cv (D l<=1000000/\D ah<=1000000) (.same (hC (lz (s,l) (s2,ah))))
@[go_sem] def aAO (s l s2 ah):=cK Kb rfl tb (s,l,s2,ah) rfl
def arV (T:bj)(hf:T nt=aW yF)(q4:T HI=aW J9)(iH:T sV=aW Cy):WF T aeD Kb:=by
 refine cp λ(s,l,s2,ah)=>cN λZ=>⟨rfl,cq ?_⟩;simp only[aeD,j0,cg];obtain⟨bH,bG⟩:=Z
 by_cases Q:cP (s,l)=true
 ·by_cases a5:cP (s2,ah)=true
  ·obtain⟨x,J,e⟩:=(hQ _).1 Q;obtain⟨y,af,az⟩:=(hQ _).1 a5
   have hm:lz (s,l) (s2,ah)=(bt (fS x.natAbs y.natAbs:Nat),0):=by
    rw[e,az];unfold lz
    rw[jZ J,jZ af,eL,eL]
    rfl
   rw[hm];clear hm
   cases e
   cases az;have nz:=n8 J;have kt:=n8 af;have aC:=Ej J af;generalize qE:x.natAbs=X at *;generalize ob:y.natAbs=cV at *;have Ir:(aH X).length<=1000000:=by omega
   simp only[go_sem,go_sem_proc,hf,q4,iH,Q,a5,qE,ob,bH,bG,Ir,aJ,au];refine du [4] [164004] (λ((a,b):Nat×Nat) tm mem=>a<de/\b<de/\fS X cV=fS a b/\tm 6=.M (.ay ((aH a).map aJ))/\tm 7=.M (.ay ((aH b).map aJ))) (λ(_,b)=>b) (X,cV) (by refine⟨J,af,rfl,rfl,rfl⟩) ?_;intro vs ms aY aT;simp only[go_sem,go_sem_proc,hf,q4,iH,qE,ob] at aY aT;subst aY aT;rintro⟨a,b⟩ tm mem O hm ⟨a2,U,uK,bz,bP⟩;simp only[go_sem,go_sem_proc,hf,q4,iH,bo] at O hm;have aM:=O;have mi:(aH a).length<=60:=fR.2 a2;have pU:(aH b).length<=60:=fR.2 U;rcases jh b with ak|hr
   ·subst ak;have aP:aH 0=[]:=rfl;have SA:(aH a).length<=1000000:=by omega
    rw[Nat.gcd_zero_right] at uK;have R:ks 1 (aH a)=bt ((a:Nat):Int):=n7 (by simp) λaE=>(ij (by omega)).symm;rw[uK];refine ao ?_;repeat' (intro h<;>simp only[h,go_sem,go_sem_proc,hf,q4,iH,aM,bz,bP,hm,aP,SA,R,dG,hC,ta,cE,ln,nu,n2,show ¬ ((0:Int)>0) by omega,decide_false]<;>try refine an ?_ ?_)
   ·have a6:decide (((aH b).length:Int)>0)=true:=by
     have:aH b≠[]:=by rw[Ne,xN];omega
     have:=Is.2 this;exact dI
    have hdiv:=ae4 a b ⟨by omega,by omega,hr⟩
    simp only[da] at hdiv;refine ao ?_;repeat' (intro h<;>simp only[h,go_sem,go_sem_proc,hf,q4,iH,aM,bz,bP,hm,a6,hdiv,au]<;>try refine an ?_ ?_)
    exact⟨(b,a%b),mW _ hr,U,wg (Nat.mod_le _ _) a2,by dsimp only;rw[uK,It a b,Nat.gcd_rec b a,It],rfl,rfl⟩
  ·have a5:cP (s2,ah)=false:=by simpa using a5
   have hm:lz (s,l) (s2,ah)=((0,[]),1):=by unfold lz;rw[a5,jV];rfl
   rw[hm];refine ao ?_;repeat' (intro h<;>simp only[h,go_sem,go_sem_proc,hf,q4,iH,Q,a5,bH,bG,dG,hC,cE]<;>try refine an ?_ ?_)
 ·have Q:cP (s,l)=false:=by simpa using Q
  have hm:lz (s,l) (s2,ah)=((0,[]),1):=by unfold lz;rw[Q,h9];rfl
  rw[hm];refine ao ?_;repeat' (intro h<;>simp only[h,go_sem,go_sem_proc,hf,q4,iH,Q,bH,bG,dG,hC,cE]<;>try refine an ?_ ?_)

def OI:=bW j0 λ(s,l,s2,ah)=>cv (D l<=1000000/\D ah<=1000000) (.same (kZ (kY (s,l) (s2,ah))))
@[go_sem] def aAP (s l s2 ah):=cK OI rfl tb (s,l,s2,ah) rfl
def arW (T:bj)(hf:T nt=aW yF)(q4:T HI=aW J9)(FJ:T Rs=aW OC)(pk:T HJ=aW J5)(iH:T sV=aW Cy):WF T aeE OI:=by
 refine cp λ(s,l,s2,ah)=>cN λZ=>⟨rfl,cq ?_⟩;simp only[aeE,j0,cg];obtain⟨bH,bG⟩:=Z
 by_cases Q:cP (s,l)=true
 ·by_cases a5:cP (s2,ah)=true
  ·obtain⟨x,J,e⟩:=(hQ _).1 Q;obtain⟨y,af,az⟩:=(hQ _).1 a5
   by_cases g8:y=0
   ·have hm:kY (s,l) (s2,ah)=((0,[]),(0,[]),15):=by
     rw[e,az];unfold kY
     rw[jZ J,jZ af,eL,eL,aq (by rfl),aq g8]
    rw[hm]
    cases e
    cases az;have ak:((y.sign:Int)==0)=true:=by rw[g8];rfl
    refine ao ?_;repeat' (intro (aw:_=_)<;>simp only[aw,go_sem,go_sem_proc,hf,q4,FJ,pk,iH,Q,a5,bH,bG,ak,dG,kZ,cE]<;>try refine an ?_ ?_)
   ·have hm:kY (s,l) (s2,ah)=(bt (x.fdiv y),bt (x.fmod y),0):=by
     rw[e,az];exact BA J af g8
    rw[hm];clear hm
    cases e
    cases az;have nz:=n8 J;have kt:=n8 af;have BB:(y.sign==0)=false:=by rw[beq_eq_false_iff_ne,Ne,Int.sign_eq_zero_iff_zero];exact g8
    have BC:0<y.natAbs:=by omega
    have E:=o2 x;have G:=o2 y;have aF:x.sign*y.sign=(x*y).sign:=(oa x y).symm;have ab:=o2 (x*y);have hw:IntKind.i64.wrap (x.sign*y.sign)=x.sign*y.sign:=by rw[aF];exact wrap64 _ (by omega) (by omega)
    have hdiv:=ae4 x.natAbs y.natAbs ⟨by omega,by omega,BC⟩
    simp only[da] at hdiv;have aL:=Ek (y:=y) J g8;have El:=aaM (x:=x) af g8;have SB:x.natAbs/y.natAbs<de:=wg (Nat.div_le_self _ _) J;have amo:(aH (x.natAbs/y.natAbs)).length<=60:=fR.2 SB;have Em:x.natAbs%y.natAbs<de:=Nat.lt_trans (mW _ BC) af;have amp:(aH (x.natAbs%y.natAbs)).length<=60:=fR.2 Em
    by_cases rW:x.sign*y.sign<0/\x.natAbs%y.natAbs≠0
    ·obtain⟨eq,rX⟩:=MD rW.1 rW.2
     have a6:(((aH (x.natAbs%y.natAbs)).length:Int)==0)=false:=by
      have:aH (x.natAbs%y.natAbs)≠[]:=by rw[Ne,xN];exact rW.2
      have:=Is.2 this;rw[beq_eq_false_iff_ne];omega
     have kV:decide (x.sign*y.sign>=0)=false:=lP (by have:=rW.1;omega);have jn:aH 1=[1]:=by simp[aH,vY]
     have amq:(aH 1).length=1:=by rw[jn];rfl
     have wx:=arB (x.natAbs/y.natAbs) 1 ⟨by omega,by omega⟩
     simp only[da,jn,hi,cE,aJ] at wx;have kv:=aeW y.natAbs (x.natAbs%y.natAbs) ⟨by omega,by omega,zD (mW _ BC)⟩
     simp only[da] at kv
     have mi:(aH (x.natAbs/y.natAbs+1)).length<=1000000:=by
      have:(x.natAbs/y.natAbs+1)<de:=by rw[eq] at aL;rw[yb,ik] at aL;exact aL
      have:=(fR (k:=60)).2 this;omega
     have pU:(aH (y.natAbs-x.natAbs%y.natAbs)).length<=1000000:=by have:=Mz y.natAbs (x.natAbs%y.natAbs);omega
     have e1:ks (-1) (aH (x.natAbs/y.natAbs+1))=bt (x.fdiv y):=n7 (by rw[eq,yb,ik]) λ_=>by rw[eq,Int.sign_neg,ij (show (0:Int)<((x.natAbs/y.natAbs+1:Nat):Int) by exact BD.2 (Nat.succ_pos _))]
     have gR:ks y.sign (aH (y.natAbs-x.natAbs%y.natAbs))=bt (x.fmod y):=by
      refine n7 ?_ λaE=>?_
      ·rw[rX];rcases jD y with ⟨e',ab⟩|⟨e',ab⟩|⟨e',ab⟩<;>rw[e']<;>omega
      ·rw[rX,oa,yc,ij (show (0:Int)<((y.natAbs-x.natAbs%y.natAbs:Nat):Int) by omega),rM]
     refine ao ?_;repeat' (intro (aw:_=_)<;>simp only[aw,go_sem,go_sem_proc,hf,q4,FJ,pk,iH,Q,a5,bH,bG,BB,hw,hdiv,a6,kV,wx,kv,mi,pU,e1,gR,aJ,au,dG,kZ,ta]<;>try refine an ?_ ?_)
    ·obtain⟨eq,rX⟩:=ME g8 rW
     have SC:(decide (x.sign*y.sign>=0)=false/\(((aH (x.natAbs%y.natAbs)).length:Int)==0)=true)\/decide (x.sign*y.sign>=0)=true:=by
      by_cases aE:x.sign*y.sign<0
      ·left
       have:x.natAbs%y.natAbs=0:=Decidable.not_not.1 λh=>rW ⟨aE,h⟩;rw[this];exact⟨dV,rfl⟩
      ·right;exact dI
     have mi:(aH (x.natAbs/y.natAbs)).length<=1000000:=by omega
     have pU:(aH (x.natAbs%y.natAbs)).length<=1000000:=by omega
     have e1:ks (x.sign*y.sign) (aH (x.natAbs/y.natAbs))=bt (x.fdiv y):=by
      refine n7 ?_ λaE=>?_
      ·rw[eq]
       have th:∀al:Nat,(x=0->al=0)->(x.sign*y.sign*(al:Int)).natAbs=al:=by
        intro al ak;rcases jD x with ⟨e,E⟩|⟨e,E⟩|⟨e,E⟩<;>rcases jD y with ⟨e',ab⟩|⟨e',ab⟩|⟨e',ab⟩<;>rw[e,e']<;>first|omega|(rw[ak E];rfl)
       exact th _ λak=>by rw[ak];exact aeS _
      ·rw[eq,aF,oa,oa,oa,yc,yc,ij (show (0:Int)<((x.natAbs/y.natAbs:Nat):Int) from BD.2 (DE aE)),rM]
     have gR:ks x.sign (aH (x.natAbs%y.natAbs))=bt (x.fmod y):=by
      refine n7 ?_ λaE=>?_
      ·rw[rX]
       have th:∀al:Nat,(x=0->al=0)->(x.sign*(al:Int)).natAbs=al:=by
        intro al ak;rcases jD x with ⟨e,E⟩|⟨e,E⟩|⟨e,E⟩<;>rw[e]<;>first|omega|(rw[ak E];rfl)
       exact th _ λak=>by rw[ak];exact Nat.zero_mod _
      ·rw[rX,oa,yc,ij (show (0:Int)<((x.natAbs%y.natAbs:Nat):Int) from BD.2 (DE aE)),rM]
     rcases SC with ⟨BE,SD⟩|BE
     ·refine ao ?_;repeat' (intro (aw:_=_)<;>simp only[aw,go_sem,go_sem_proc,hf,q4,FJ,pk,iH,Q,a5,bH,bG,BB,hw,hdiv,BE,SD,mi,pU,e1,gR,aJ,au,dG,kZ,ta]<;>try refine an ?_ ?_)
     ·refine ao ?_;repeat' (intro (aw:_=_)<;>simp only[aw,go_sem,go_sem_proc,hf,q4,FJ,pk,iH,Q,a5,bH,bG,BB,hw,hdiv,BE,mi,pU,e1,gR,aJ,au,dG,kZ,ta]<;>try refine an ?_ ?_)
  ·have a5:cP (s2,ah)=false:=by simpa using a5
   have hm:kY (s,l) (s2,ah)=((0,[]),(0,[]),1):=by unfold kY;rw[a5,jV];rfl
   rw[hm];refine ao ?_;repeat' (intro (aw:_=_)<;>simp only[aw,go_sem,go_sem_proc,hf,q4,FJ,pk,iH,Q,a5,bH,bG,dG,kZ,cE]<;>try refine an ?_ ?_)
 ·have Q:cP (s,l)=false:=by simpa using Q
  have hm:kY (s,l) (s2,ah)=((0,[]),(0,[]),1):=by unfold kY;rw[Q,h9];rfl
  rw[hm];refine ao ?_;repeat' (intro (aw:_=_)<;>simp only[aw,go_sem,go_sem_proc,hf,q4,FJ,pk,iH,Q,bH,bG,dG,kZ,cE]<;>try refine an ?_ ?_)
def afc:bN:=b9 19 2 [.t 4] (Y [c9 2 115002 0,cw 4 false] (Y [a9 5 0 2,a9 6 1 5,aS 7 1 6,b8 8 7,F 9 1,bB 10 .leq 8 9,F 11 10,jB 12 11 2 2,jB 13 11 1 12,jX 14 11 1 13,HN 15 11 14,en 16 11 1,DU 17 11 .leq 15 16,eP 18 11 17,F 4 18] .ret))
def afd:bN:=b9 17 2 [.t 4] (Y [c9 2 120002 0,c9 3 120003 1,cw 4 false] (Y [a9 5 0 2,bm 6 2 5,a9 7 0 3,bm 8 2 7,ch 9 LW 6 8,F 10 9,jB 11 10 2 2,DT 12 10 2 11,jB 13 10 2 3,DT 14 10 2 13,fs 15 10 (.call LW [.t 12,.t 14]),eP 16 10 15,F 4 16] .ret))
def afe:bN:=b9 13 2 [.cell 4 4 true,.t 5] (Y [cX 4 124004 ez,bA 5 0] (Y [F 6 0,dA 7 DH 6,F 8 1,dA 9 DH 8,ch 10 Rh 7 9,bn 11 0 10,bn 12 1 10,bq 4 4 11,F 5 12] .ret))
def aff:bN:=b9 38 2 [.t 4] (Y [c9 2 142002 0,c9 3 142003 1,cw 4 false] (.seq (Y [a9 6 0 2,aS 7 1 6,a9 8 0 3,aS 9 1 8,bB 10 .neq 7 9,F 11 10,gp 12 11 1 2,gh 13 11 1 12,pR 14 11 13,gp 15 11 1 3,gh 16 11 1 15,pR 17 11 16,qC 18 11 .neq 14 17,dv 19 11 18] (cF 19 [cw 4 false])) (.seq (Y [bA 5 0] (eK 0 (.seq (Y [F 20 5,a9 21 1 2,aS 22 1 21,b8 23 22,bB 24 .lss 20 23] (dT 24 0)) (.seq (.block 1 (gq [a9 27 1 2,aS 28 1 27,F 29 5,b2 30 1 28 29,aS 31 1 30,a9 32 1 3,aS 33 1 32,F 34 5,b2 35 1 33 34,aS 36 1 35,bB 37 .neq 31 36] L8 (cF 37 [cw 4 false]))) (.ops [F 25 5,bs 26 .add 25 1,F 5 26]))))) (Y [cw 4 true] .ret))))
def afg:bN:=b9 57 2 [.cell 4 4 true,.t 5] (Y [c9 2 143002 0,c9 3 143003 1,cX 4 143004 ez,bA 5 0] (.seq (Y [bm 14 2 2,dA 15 nt 14,fc 16 15,F 17 16,jz 18 17 2 3,hB 19 17 (.call nt [.t 18]),kR 20 17 19,dv 21 17 20] (cF 21 [aO 22 (.build ez []),bq 4 4 22,bA 5 1])) (.seq (Y [a9 23 0 3,aS 24 1 23,bs 25 .eql 24 0] (cF 25 [aO 26 (.build ez []),bq 4 4 26,bA 5 15])) (.seq (Y [a9 27 0 3,aS 28 1 27,bs 29 .lss 28 0] (fA 29 (Y [bm 30 2 2,dA 31 LY 30,bq 2 2 31] (.ops [bm 32 2 3,dA 33 LY 32,bq 2 3 33])) .skip)) (Y [bm 35 2 2,bm 36 2 3,ch 37 HF 35 36,F 34 37,bn 38 0 34,bn 39 1 34,cX 6 143006 dF,bq 2 6 38,F 7 39] (Y [bm 41 2 2,bm 42 2 6,ch 43 LZ 41 42,F 40 43,bn 44 0 40,bn 45 1 40,bn 46 2 40,cX 8 143008 dF,cX 9 143009 dF,bq 2 8 44,bq 2 9 45,F 10 46] (Y [bm 48 2 3,bm 49 2 6,ch 50 LZ 48 49,F 47 50,bn 51 0 47,bn 52 1 47,bn 53 2 47,cX 11 143011 dF,cX 12 143012 dF,bq 2 11 51,bq 2 12 52,F 13 53] (Y [bm 54 2 8,bm 55 2 11,aO 56 (.build ez [(0,2,.t 54),(2,2,.t 55)]),bq 4 4 56,bA 5 0] .ret))))))))
def afh:bN:=b9 33 1 [.t 2] (Y [c9 1 196001 0,cw 2 false] (.seq (Y [a9 5 0 1,bm 6 2 5,dA 7 nt 6,fc 8 7,F 9 8,gp 10 9 2 1,jz 11 9 2 10,hB 12 9 (.call nt [.t 11]),kR 13 9 12,dv 14 9 13,F 15 14,gp 16 15 2 1,gp 17 15 0 16,gh 18 15 1 17,jA 19 15 .lss 18 1,dv 20 15 19] (cF 20 [cw 2 false])) (Y [a9 22 0 1,bm 23 2 22,a9 24 2 1,bm 25 2 24,ch 26 HF 23 25,F 21 26,bn 27 0 21,bn 28 1 21,cX 3 196003 dF,bq 2 3 27,F 4 28] (gq [bm 29 2 3,aO 30 (.call DH [.c (ba 1)]),ch 31 Ru 29 30,bs 32 .eql 31 0,F 2 32] akQ .ret))))
def OJ:=bW j0 λ(s,l,s2,ah)=>cv (D l<=1000000/\D ah<=1000000) (.same (e5 (hR (s,l) (s2,ah))))
@[go_sem] def aAQ (s l s2 ah):=cK OJ rfl tb (s,l,s2,ah) rfl
def arX (T:bj)(hf:T nt=aW yF)(Kc:T LY=aW OF)(w3:T HF=aW Kb)(Kd:T LZ=aW OI):WF T afg OJ:=by
 refine cp λ(s,l,s2,ah)=>cN λZ=>⟨rfl,cq ?_⟩;simp only[afg,j0,cg];obtain⟨bH,bG⟩:=Z
 by_cases Q:cP (s,l)=true
 ·by_cases a5:cP (s2,ah)=true
  ·obtain⟨x,J,e⟩:=(hQ _).1 Q;obtain⟨y,af,az⟩:=(hQ _).1 a5
   by_cases ak:y=0
   ·have hm:hR (s,l) (s2,ah)=(bY,15):=by
     unfold hR;rw[Q,a5,az,eL,aq (by rfl),aq ak]
    rw[hm]
    cases e
    cases az;have R:(y.sign==0)=true:=by rw[ak];rfl
    refine ao ?_;repeat' (intro h<;>simp only[h,go_sem,go_sem_proc,hf,Kc,w3,Kd,Q,a5,bH,bG,R,e5,aV,bY,cE]<;>try refine an ?_ ?_)
   ·have main:∀p q:Int,p.natAbs<de->q.natAbs<de->0<q->∃g:Raw,lz (bt p) (bt q)=(g,0)/\g.2.length<=1000000/\kY (bt p) g=(bt (j1 p q).num,bt (p.fmod ((fS p.natAbs q.natAbs:Nat):Int)),0)/\kY (bt q) g=(bt (j1 p q).den,bt (q.fmod ((fS p.natAbs q.natAbs:Nat):Int)),0):=by
     intro p q aF aL kT;have jk:=Ej aF aL;have BF:((fS p.natAbs q.natAbs:Nat):Int).natAbs<de:=by rw[ik];exact jk
     have x5:=SM (p:=p) (q:=q) (by omega);obtain⟨E,G⟩:=SK (p:=p) kT;refine⟨bt ((fS p.natAbs q.natAbs:Nat):Int),?_,k0 BF,?_,?_⟩
     ·unfold lz;rw[jZ aF,jZ aL,eL,eL];rfl
     ·rw[BA aF BF (by omega),E]
     ·rw[BA aL BF (by omega),G]
    have nA:(y.sign==0)=false:=by simpa using ak
    rcases Int.lt_or_gt_of_ne ak with kV|hr
    ·have e1:decide (y.sign<0)=true:=by rw[n6 kV];rfl
     obtain⟨⟨bZ,bX⟩,aC,jk,jn,kg⟩:=main (-x) (-y) (by omega) (by omega) (by omega)
     have hm:hR (s,l) (s2,ah)=(bU (j1 (-x) (-y)),0):=by
      rw[e,az,zH J af ak,Rat.neg_divInt_neg]
     rw[hm];have tU:kh (s,l)=bt (-x):=by unfold kh;rw[aq Q,e,eL]
     have pD:kh (s2,ah)=bt (-y):=by unfold kh;rw[aq a5,az,eL]
     have rY:s2=y.sign:=congrArg wA az;have hk:(bt (-x)).2.length<=1000000:=k0 (by omega);have il:(bt (-y)).2.length<=1000000:=k0 (by omega);clear e az;unfold bU;generalize bt (-x)=X at *;generalize bt (-y)=cV at *;obtain⟨fe,fJ⟩:=X;obtain⟨uD,wc⟩:=cV;rw[<-rY] at nA e1;refine ao ?_;repeat' (intro h<;>simp only[h,go_sem,go_sem_proc,hf,Kc,w3,Kd,Q,a5,bH,bG,nA,e1,tU,pD,hk,il,aC,jk,jn,kg,e5,aV,hC,kZ,dG]<;>try refine an ?_ ?_)
    ·have e1:decide (y.sign<0)=false:=by rw[ij hr];rfl
     obtain⟨⟨bZ,bX⟩,aC,jk,jn,kg⟩:=main x y J af hr
     have hm:hR (s,l) (s2,ah)=(bU (j1 x y),0):=by
      rw[e,az,zH J af ak]
     rw[hm];have rY:s2=y.sign:=congrArg wA az;rw[<-e] at aC jn;rw[<-az] at aC kg;rw[<-rY] at nA e1;unfold bU;refine ao ?_;repeat' (intro h<;>simp only[h,go_sem,go_sem_proc,hf,Kc,w3,Kd,Q,a5,bH,bG,nA,e1,aC,jk,jn,kg,e5,aV,hC,kZ,dG]<;>try refine an ?_ ?_)
  ·have a5:cP (s2,ah)=false:=by simpa using a5
   have hm:hR (s,l) (s2,ah)=(bY,1):=by unfold hR;rw[a5,jV];rfl
   rw[hm];refine ao ?_;repeat' (intro h<;>simp only[h,go_sem,go_sem_proc,hf,Kc,w3,Kd,Q,a5,bH,bG,e5,aV,bY,cE]<;>try refine an ?_ ?_)
 ·have Q:cP (s,l)=false:=by simpa using Q
  have hm:hR (s,l) (s2,ah)=(bY,1):=by unfold hR;rw[Q,h9];rfl
  rw[hm];refine ao ?_;repeat' (intro h<;>simp only[h,go_sem,go_sem_proc,hf,Kc,w3,Kd,Q,bH,bG,e5,aV,bY,cE]<;>try refine an ?_ ?_)
def Ke:=bW v9 λ(p,q)=>cv (dQ p/\dQ q) (.same (e5 (hR (bt p) (bt q))))
@[go_sem] def aAR (p q):=cK Ke rfl Mf (p,q) rfl
def arY (T:bj)(FK:T DH=aW Ka)(arZ:T Rh=aW OJ):WF T afe Ke:=by
 refine cp λ(p,q)=>cN λZ=>⟨rfl,cq ?_⟩;simp only[afe,v9,cg];obtain⟨E,G⟩:=Z;have iP:(bt p).2.length<=1000000:=k0 (yd E);have ah:(bt q).2.length<=1000000:=k0 (yd G);generalize db:bt p=P at *;generalize ey:bt q=al at *;obtain⟨fe,fJ⟩:=P;obtain⟨uD,wc⟩:=al;refine ao ?_;repeat' (intro h<;>simp only[h,go_sem,go_sem_proc,FK,arZ,E,G,db,ey,iP,ah,dG,e5,aV]<;>try refine an ?_ ?_)
def OK:=bW j0 λ(s,l,s2,ah)=>cv (D l<=1000000/\D ah<=1000000) (.same (.bool (qf (s,l) (s2,ah))))
@[go_sem] def aAS (s l s2 ah):=cK OK rfl tb (s,l,s2,ah) rfl
def ar0 (T:bj):WF T aff OK:=by
 refine cp λ(s,l,s2,ah)=>cN λZ=>⟨rfl,cq ?_⟩;simp only[aff,j0,cg];obtain⟨bH,bG⟩:=Z
 by_cases R:s=s2
 ·subst R
  by_cases ad:(D l)=D ah
  ·have aK:(((D l:Nat):Int)==((D ah:Nat):Int))=true:=by simp;omega
   simp only[go_sem,go_sem_proc,beq_self_eq_true,au,aK,fP,bne];refine du [2,3] [142002,142003] (λ(i:Nat) tm mem=>i<=D l/\l.take i=ah.take i/\tm 5=.M (.int .i64 i)) (λi=>D l-i) 0 (by refine⟨by omega,by simp,rfl⟩) ?_;intro vs ms aY aT;simp only[go_sem,go_sem_proc,au] at aY aT;subst aY aT;rintro i tm mem O hm ⟨L,ag,bl⟩;simp only[go_sem,go_sem_proc,bo] at O hm;obtain⟨G,ab⟩:=O;obtain⟨bO,hK⟩:=hm;rcases eo (i<D l) with av|bM
   ·have J:l[i]?=some l[i]:=bw av;have af:ah[i]?=some ah[i]:=bw (by omega);have tU:l.take (i+1)=l.take i++[l[i]]:=by rw[jl,J];rfl
    have pD:ah.take (i+1)=ah.take i++[ah[i]]:=by rw[jl,af];rfl
    generalize l[i]=x at *;generalize ah[i]=y at *;have d1:decide ((i:Int)<(D l:Int))=true:=dI;have cR:=hy (i:=i) (by omega)
    by_cases kp:x=y
    ·subst kp;refine ao ?_;repeat' (intro (aw:_=_)<;>simp only[aw,go_sem,go_sem_proc,G,ab,bl,bO,hK,J,af,d1,cR,aJ,au,bD,bo,beq_self_eq_true,fP]<;>try refine an ?_ ?_)
     exact⟨i+1,by omega,by omega,by rw[tU,pD,ag],rfl⟩
    ·have a6:(x==y)=false:=by simpa using kp
     have Q:qf (s,l) (s,ah)=false:=by
      refine lP λh=>kp ?_;rw[ec] at h;rw[h.2,af] at J;exact (mN J).symm
     rw[Q];refine ao ?_;repeat' (intro (aw:_=_)<;>simp only[aw,go_sem,go_sem_proc,G,ab,bl,bO,hK,J,af,d1,cR,a6,aJ,au,bD,bo,h8]<;>try refine an ?_ ?_)
   ·have d1:decide ((i:Int)<(D l:Int))=false:=dV
    have Q:qf (s,l) (s,ah)=true:=by
     refine kG ?_;rw[dx (by omega),dx (by omega)] at ag;rw[ag]
    rw[Q];refine ao ?_;repeat' (intro (aw:_=_)<;>simp only[aw,go_sem,go_sem_proc,G,ab,bl,bO,hK,d1,au]<;>try refine an ?_ ?_)
  ·have aK:(((D l:Nat):Int)==((D ah:Nat):Int))=false:=by simp;omega
   have Q:qf (s,l) (s,ah)=false:=by
    refine lP λh=>ad ?_;rw[ec] at h;rw[h.2]
   rw[Q];refine ao ?_;repeat' (intro (aw:_=_)<;>simp only[aw,go_sem,go_sem_proc,beq_self_eq_true,au,aK,fP,h8,bne]<;>try refine an ?_ ?_)
 ·have a6:(s==s2)=false:=by simpa using R
  have Q:qf (s,l) (s2,ah)=false:=by
   refine lP λh=>R ?_;rw[ec] at h;exact h.1
  rw[Q];refine ao ?_;repeat' (intro (aw:_=_)<;>simp only[aw,go_sem,go_sem_proc,a6,au,fP,h8,bne]<;>try refine an ?_ ?_)
def OL (a b:aG):Bool:=decide (a=b)
def OM:=bW qK λ(s,l,s2,ah,c1,di,dg,dk)=>cv (D l<=1000000/\D ah<=1000000/\D di<=1000000/\D dk<=1000000) (.same (.bool (OL ((s,l),(s2,ah)) ((c1,di),(dg,dk)))))
@[go_sem] def aAT (s l s2 ah c1 di dg dk):=cK OM rfl Es (s,l,s2,ah,c1,di,dg,dk) rfl
def ar1 (T:bj)(afi:T LW=aW OK):WF T afd OM:=by
 refine cp λ(s,l,s2,ah,c1,di,dg,dk)=>cN λZ=>⟨rfl,cq ?_⟩;simp only[afd,qK,cg];obtain⟨bH,bG,hk,il⟩:=Z
 have e:OL ((s,l),(s2,ah)) ((c1,di),(dg,dk))=(qf (s,l) (c1,di)&&qf (s2,ah) (dg,dk)):=by
  unfold OL qf;rw[FG,dp,decide_eq_true_eq,decide_eq_true_eq,decide_eq_true_eq,ec]
 rw[e];rcases E:qf (s,l) (c1,di)
 ·refine ao ?_;repeat' (intro h<;>simp only[h,go_sem,go_sem_proc,afi,bH,bG,hk,il,E,h9]<;>try refine an ?_ ?_)
 ·refine ao ?_;repeat' (intro h<;>simp only[h,go_sem,go_sem_proc,afi,bH,bG,hk,il,E,iD]<;>try refine an ?_ ?_)
def pn (f:aG)(n:Int):Bool:=decide ((f.1.2.length:Int)<=n)&&decide ((f.2.2.length:Int)<=n)
abbrev ON:Int×(List Int)×Int×(List Int)×Int->List Data:=λ(s,l,s2,ah,n)=>[.agg [.int .i64 s,.ay (l.map aJ),.int .i64 s2,.ay (ah.map aJ)],.int .i64 n]
def Kf:=bW ON λ(s,l,s2,ah,n)=>some (.same (.bool (pn ((s,l),(s2,ah)) n)))
def ar2:∀a b,ON a=ON b->a=b:=by
  rintro⟨s1,iP,uI,tc,rq⟩ ⟨s2,ah,uJ,td,rr⟩ h;simp only[bo,Data.agg.injEq,Data.int.injEq,Data.ay.injEq] at h;exact cO h.1.1.2 (cO (map_inj fQ _ _ h.1.2.1) (cO h.1.2.2.1.2 (cO (map_inj fQ _ _ h.1.2.2.2.1) h.2.1.2)))
@[go_sem] def aAU (s l s2 ah n):=ux Kf rfl ar2 (s,l,s2,ah,n) rfl
def ar3 (T:bj):WF T afc Kf:=by
 refine cp λ(s,l,s2,ah,n)=>⟨rfl,cq ?_⟩;simp only[afc,ON,cg];unfold pn;rcases E:decide ((D l:Int)<=n)
 ·refine ao ?_;repeat' (intro h<;>simp only[h,go_sem,go_sem_proc,E,au,h9]<;>try refine an ?_ ?_)
 ·refine ao ?_;repeat' (intro h<;>simp only[h,go_sem,go_sem_proc,E,au,iD]<;>try refine an ?_ ?_)
def OO:=bW k1 λ(s,l,s2,ah)=>cv (D l<=1000000/\D ah<=1000000) (.same (.bool (df ((s,l),(s2,ah)))))
@[go_sem] def aAV (s l s2 ah):=cK OO rfl uO (s,l,s2,ah) rfl
def ar4 (T:bj)(hf:T nt=aW yF)(w3:T HF=aW Kb)(FK:T DH=aW Ka)(OP:T Ru=aW OH):WF T afh OO:=by
 refine cp λ(s,l,s2,ah)=>cN λZ=>⟨rfl,cq ?_⟩;simp only[afh,k1,cg];obtain⟨bH,bG⟩:=Z
 by_cases Q:cP (s,l)=true
 ·by_cases a5:cP (s2,ah)=true
  ·obtain⟨x,J,e⟩:=(hQ _).1 Q;obtain⟨y,af,az⟩:=(hQ _).1 a5
   have aC:lz (s,l) (s2,ah)=(bt ((fS x.natAbs y.natAbs:Nat):Int),0):=by
    unfold lz;rw[Q,a5,e,az,eL,eL];rfl
   have jk:=Ej J af;have sM:gP (s,l)=x:=by rw[e,eL]
   have mK:gP (s2,ah)=y:=by rw[az,eL]
   have dK:df ((s,l),(s2,ah))=((s2==1)&&(fS x.natAbs y.natAbs==1)):=by
    show (cP (s,l)&&(cP (s2,ah)&&((s2==1)&&(fS (gP (s,l)).natAbs (gP (s2,ah)).natAbs==1))))=_;rw[Q,a5,sM,mK];simp only[iD]
   have rY:s2=y.sign:=congrArg wA az;have Bz:=o2 y;rw[dK];have kK:o3 (bt ((fS x.natAbs y.natAbs:Nat):Int)) (bt 1)=gN ((fS x.natAbs y.natAbs:Nat):Int) 1:=MB (by rw[ik];exact jk) (yd (by unfold dQ;omega))
   have a0:(gN ((fS x.natAbs y.natAbs:Nat):Int) 1==0)=(fS x.natAbs y.natAbs==1):=by
    generalize fS x.natAbs y.natAbs=bc;rw[FG,beq_iff_eq,beq_iff_eq];rcases rT (bc:Int) 1 with h|h|h
    ·rw[Bx h];omega
    ·rw[h,Ei];omega
    ·rw[By h];omega
   have SJ:((bt ((fS x.natAbs y.natAbs:Nat):Int)).2).length<=1000000:=k0 (by rw[ik];exact jk);have qp:dQ 1:=by unfold dQ;omega
   have Ir:(bt 1).2.length<=1000000:=k0 (yd qp);rcases R:decide (s2<1)
   ·have e1:(s2==1)=true:=by have:=of_decide_eq_false R;rw[beq_iff_eq];omega
    rw[e1,iD,<-a0];generalize gN ((fS x.natAbs y.natAbs:Nat):Int) 1=C at *;generalize bt ((fS x.natAbs y.natAbs:Nat):Int)=bc at *;generalize eE:bt 1=ax at *;obtain⟨bZ,bX⟩:=bc;obtain⟨wZ,tD⟩:=ax;refine ao ?_;repeat' (intro (aw:_=_)<;>simp only[aw,go_sem,go_sem_proc,hf,w3,FK,OP,Q,a5,bH,bG,R,aC,SJ,qp,Ir,kK,eE,hC,dG]<;>try refine an ?_ ?_)
   ·have e1:(s2==1)=false:=by have:=of_decide_eq_true R;rw[beq_eq_false_iff_ne];omega
    rw[e1,h9];refine ao ?_;repeat' (intro (aw:_=_)<;>simp only[aw,go_sem,go_sem_proc,hf,w3,FK,OP,Q,a5,bH,bG,R]<;>try refine an ?_ ?_)
  ·have a5:cP (s2,ah)=false:=by simpa using a5
   have dK:df ((s,l),(s2,ah))=false:=by unfold df;simp[a5]
   rw[dK];refine ao ?_;repeat' (intro (aw:_=_)<;>simp only[aw,go_sem,go_sem_proc,hf,w3,FK,OP,Q,a5,bH,bG]<;>try refine an ?_ ?_)
 ·have Q:cP (s,l)=false:=by simpa using Q
  have dK:df ((s,l),(s2,ah))=false:=by unfold df;simp[Q]
  rw[dK];refine ao ?_;repeat' (intro (aw:_=_)<;>simp only[aw,go_sem,go_sem_proc,hf,w3,FK,OP,Q,bH,bG]<;>try refine an ?_ ?_)

def afj:bN:=b9 30 3 [.t 6] (Y [cw 6 false] (.seq (Y [bA 7 0] (eK 0 (.seq (Y [F 8 7,F 9 0,b8 10 9,bB 11 .lss 8 10,F 12 11,en 13 12 7,en 14 12 1,DU 15 12 .leq 13 14,eP 16 12 15] (dT 16 0)) (.seq (.block 1 (Y [F 19 0,F 20 7,b2 21 4 19 20,bm 22 4 21,F 23 2,ch 24 Hz 22 23,fc 25 24] (cF 25 [cw 6 false]))) (.ops [F 17 7,bs 18 .add 17 1,F 7 18]))))) (Y [F 26 0,b8 27 26,F 28 1,bB 29 .leq 27 28,F 6 29] .ret)))
def afk:bN:=b9 27 2 [.t 4] (Y [cw 4 false] (.seq (Y [F 6 0,b8 7 6,F 8 1,b8 9 8,bB 10 .neq 7 9] (cF 10 [cw 4 false])) (.seq (Y [bA 5 0] (eK 0 (.seq (Y [F 11 5,F 12 0,b8 13 12,bB 14 .lss 11 13] (dT 14 0)) (.seq (.block 1 (gq [F 17 0,F 18 5,b2 19 4 17 18,bm 20 4 19,F 21 1,F 22 5,b2 23 4 21 22,bm 24 4 23,ch 25 Rc 20 24,fc 26 25] L7 (cF 26 [cw 4 false]))) (.ops [F 15 5,bs 16 .add 15 1,F 5 16]))))) (Y [cw 4 true] .ret))))
end Go.Mini
