/- A part of the proof. -/
import Derived.Test.YtplehnijfhgclaaGreatDoorProg
import Derived.KernelRfl
import Derived.Test.YtplehnijfhgclaaGreatDoorM03
set_option linter.unusedSimpArgs false
set_option linter.unusedVariables false
set_option linter.defProp false
set_option maxRecDepth 100000
set_option maxHeartbeats 4000000
noncomputable section
open Bool renaming and_eq_true->dH,and_false->h2,and_true->rp,eq_iff_iff->FE,false_and->e1,false_eq_true->df,false_or->l2,not_eq_false->JG,not_eq_false'->Jd,not_eq_true'->na,not_false->dY,not_true->dT,or_eq_true->sF,or_false->oG,or_true->pF,rec->fJ,true_and->gy,true_or->m0
open Classical renaming choose_spec->rn
open Decidable renaming em->eC
open Int renaming add_comm->vW,add_zero->HZ,cast_ofNat_Int->n2,eq_ofNat_of_zero_le->UG,lt_trichotomy->pQ,mul_add->hx,mul_assoc->hy,mul_one->rE,mul_zero->vY,natAbs_natCast->ih,natAbs_neg->xY,natCast_pos->By,natCast_zero->nw,pow_succ->l3,sign_eq_neg_one_of_neg->kF,sign_eq_one_of_pos->gJ,sign_mul->nC,sign_mul_natAbs->D7,sign_sign->xZ,tdiv_eq_ediv_of_nonneg->DY,tdiv_nonneg->aeN,tmod_eq_emod_of_nonneg->HR,tmod_nonneg->aeM,toNat_natCast->pJ
open List renaming all_append->US,all_cons->Dw,all_eq_false->adV,all_eq_true->jO,any_eq_false->s6,append_assoc->hh,append_nil->nZ,count_set->adX,drop->pK,drop_eq_getElem_cons->fY,drop_eq_nil_of_le->lq,drop_set_of_lt->ri,drop_zero->oF,flatten_cons->lj,flatten_nil->aes,getD_eq_getElem?_getD->eF,getElem?_eq_getElem->bB,getElem?_eq_none->mO,getElem?_eq_some_iff->dn,getElem?_map->bG,getElem?_range->q9,getElem_mem->kT,length->D,length_append->lk,length_cons->jG,length_map->az,length_nil->lD,length_pos_iff->Ig,length_range->AU,length_replicate->nJ,length_set->fN,length_singleton->UW,length_take->hf,map_append->pU,map_cons->hv,map_nil->cl,map_replicate->BR,map_take->aet,mem_filterMap->ade,mem_map->h3,mem_of_getElem?->du,mem_or_eq_of_mem_set->n8,mem_range->qo,mem_replicate->vU,mem_singleton->v3,mem_zipIdx_iff_getElem?->Dp,range->je,range'->I6,range_eq_range'->adp,replicate->cK,replicate_succ->pw,take->oK,take_add_one->jj,take_length->sW,take_of_length_le->dz
open List.cons renaming injEq->bs
open Nat renaming add_zero->kv,beq->gB,ble->qK,blt->zY,div_div_eq_div_mul->aex,eq_of_beq_eq_true->B0,eq_zero_or_pos->iK,gcd->fO,gcd_comm->Ih,le_of_ble_eq_true->qM,le_of_lt->zv,le_refl->bM,le_trans->cN,lt_of_div_lt_div->aey,lt_of_le_of_lt->vS,lt_or_ge->fE,max_eq_right->Vc,min_eq_left->mS,mod_lt->m1,mul_comm->pH,mul_le_mul_right->mP,mul_lt_mul_of_pos_left->aeF,mul_one->dE,one_lt_pow->adR,pos_of_ne_zero->DF,pow_succ->rv,reduceEqDiff->zO,sub_self->lW,zero_div->aew,zero_le->eL
open Option renaming bind_none->s9,map_eq_some_iff->cO,rec->ko
open Option.some renaming inj->mT,injEq->bH
open Prod renaming ext->cy,fst->wc
open Prod.mk renaming injEq->ei
open Rat renaming divInt->jW
namespace Go.Mini
open Go
def dy.all {α:Type}(p:α->Bool)(t:dy α):Bool:=dy.rec (motive:=λ_=>Bool) true (λ_ v _ uE TO=>fJ false (fJ false (ko true (λa=>p a) v) TO) uE) t
def dy.T5 {α:Type}{p:α->Bool}{a:α}:∀{t:dy α} {k:Nat},t.all p=true->t.get k=some a->p a=true
 |.e,k,_,h=>by cases h
 |.n l v r,k,a5,h=>by
  have B6:(fJ false (fJ false (ko true (λa=>p a) v) (r.all p)) (l.all p):Bool)=true:=a5
  cases af:l.all p with
  |false=>rw[af] at B6;cases B6
  |true =>
   rw[af] at B6
   cases M:r.all p with
   |false=>rw[M] at B6;cases B6
   |true =>
    rw[M] at B6;rw[dy.wB] at h
    split at h
    ·subst h;exact B6
    ·split at h
     ·exact dy.T5 af h
     ·exact dy.T5 M h
abbrev r5:=iX->eY->ez->Nat->Option I->ca
def r6:W r5:=.mk λ_ _ _ _ _=>ca.no
def apG (ol:List FuncId)(ops:Array Oper):List Nat:=ops.toList.flatMap λo=>match o.op with
 |.call { callee:=.value (.func f),.. }=>if ol.contains f=true then o.dst.toList else []
 |_=>[]
def ac4:Option I->Option I->Bool
 |some a,some b=>r2 a b
 |_,_=>false
def T6 (ba bJ:ez)(ee:yj):Bool:=ee.all λo=>ac4 (ib (b3 ba) o.1 o.2.1 o.2.2) (ib (b3 bJ) o.1 o.2.1 o.2.2)
def T7:fe->Bool
 |.load ..=>true
 |.alloc ..=>true
 |op=>gB (lo op) 0
def Jg (o6:List Nat)(g:Nat)(l:List bn):List (Nat×Nat×List I):=l.zipIdx.filterMap λ(x,j)=>if k8 o6 g j=true then (match x.op with
 |.alloc k z=>some (j,k,z)
 |_=>none) else none
def Jh (gl:List FuncId)(l:List bn):List (Nat×FuncId×List bm×Option Nat):=l.zipIdx.filterMap λ(x,j)=>match x.op,x.g with
 |.call f args,none=>if gl.contains f=true then some (j,f,args,x.dst) else none
 |_,_=>none
def NS (k:Nat)(m:ez):Bool:=ko true (λ_=>false) (m.get k)
def ac5 (kb g:Nat)(ha:Option (Nat×Nat×List I))(ba:ez)(r3:List I):Bool:=match ha with
 |none=>true
 |some (eP,k,z)=>zY g eP&&NS (kb+k) ba&&dy.all (λe=>od (kb+k) e.2) ba&&od (kb+k) r3&&od (kb+k) z
def ac6 (kb:Nat)(ha:Option (Nat×Nat×List I))(bJ:ez):Bool:=match ha with
 |none=>true
 |some (_,k,_)=>NS (kb+k) bJ
def ac7 (ol:List FuncId)(un:Nat->Bool)(last:Bool)(ha:Option (Nat×Nat×List I))(g:Nat)(f:FuncId)(args:List bm)(dst:Option Nat)(post:List bn)(hL:List (List Nat)):W (iX->Nat->eY->ez->Rec->yj->Option I->ca) :=
 .mk λrun c t m rec ee d=>fJ ca.no
  (iF.rec ca.no (λv bJ c6=>fJ ca.no (W.ap (uG ol un post (g+1) (hL.drop (g+1))) run c (hT dst t v) bJ rec ee λt3 dD _ T8=>fJ ca.no (.ok .k6 t3 dD c6 d) (T6 m bJ T8)) (ac6 c ha bJ))
   (λv bJ c6=>fJ ca.no (.ok (.gC v) t bJ c6 d) last) (run f (args.map λx=>W.ap (iY x) t) m (c+1000)))
  (ac5 c g ha m (args.map λx=>W.ap (iY x) t))
def E8 (ol:List FuncId)(un:Nat->Bool)(last:Bool)(ha:Option (Nat×Nat×List I))(g:Nat)(f:FuncId)(args:List bm)(dst:Option Nat)(l:List bn)(hL:List (List Nat)):W r5 :=
 .mk λrun t m c d=>W.ap (uG ol un (l.take g) 0 (hL.drop 0)) run c t m (λ_=>none) [] λt1 ba rec1 o2=>W.ap (ac7 ol un last ha g f args dst (l.drop (g+1)) hL) run c t1 ba rec1 o2 d
def T9 (ol gl:List FuncId)(l:List bn)(o6:List Nat):W r5:=match Jh gl l with
 | [] => .mk λrun t m c d=>W.ap (uG ol (λ_=>false) l 0 ((lp [] l o6).drop 0)) run c t m (λ_=>none) [] λt m _ _ => .ok .k6 t m (c+1000) d
 | [(g,f,args,dst)]=>fJ r6 (match Jg o6 g l with
  | []=>E8 ol (k8 o6 g) (l.zipIdx.all (λx => !k8 o6 g x.2)&&gB (g+1) (D l)) none g f args dst l (lp [] l o6)
  | [ha]=>E8 ol (k8 o6 g) false (some ha) g f args dst l (lp [] l o6)
  |_=>r6) (l.zipIdx.all λx => !k8 o6 g x.2||T7 x.1.op)
 |_=>r6
def Ua (P:Program)(ol gl:List FuncId)(n:Nat)(ops:Array Oper):W r5:=match ops.toList.mapM (mN P n 0 (apG ol ops) ops) with
 |none=>r6
 |some l=>fJ r6 (T9 ol gl l (fo ops.toList [])) (pr ops l)
variable {P:Program} {aU:Option I} {A:Nat->Prop} {b5 w:World} {c8 B:cG} {n kb:Nat} {own:List Nat} {ops:Array Oper} {o:Oper} {run:iX} {t:eY} {m:ez} {c:Nat} {d:Option I} {l:List bn} {ak:Exit->Act->World->Prop}
def Ub {b6:tK}{K:a1->Prop}{id:Nat}{a:Act}{st:a1}(hm:P.follows .mixedOrders=true)(aD:G2 b6 ops l)(AO:G3 b6)(af:(D l)=ops.size)(he:w8 0 ops.toList=true)(dc:Lw P aU n A b5 c8 ops l b6 ak)
  (eO:∀st a w B,K st->dr aU n A b5 c8 a st w B->ak .normal a w) (R:dr aU n A b5 c8 a st w B) (Z:xn b6 K 0 l (λ_=>none) st):(Code.region id ops true).wp P ak a w:=by
 refine wp_region_any hm ?_;have tM:=Qx aD AO af he l 0 (λ_=>none) st (Array.replicate ops.size false) rfl (by simp) (by simp) (λi O=>by simp[O]) (λ_ _=>rfl) Z;rw[af] at tM;exact Lx dc eO ops.size _ _ _ _ _ B (R.drew _) tM
def ac8 {o5:Nat}{r4:bn->Rec->a1->a1->Prop}{S:Nat->bn->(Nat->I)->Prop}{fG:Nat->Nat->Bool}{T:bl}(cp:mX P T)(aA:ops.toList.mapM (mN P n kb own ops)=some l)
  (aC:∀x o rec st bX a w B,l[o5]?=some x->Dm P n kb own ops o x->r4 x rec st bX->dr aU n A b5 c8 a st w B->Region.wanted o (yielded ops a.tmps)=true/\o.wp P a w (λck ah=>∃aB,dr aU n A b5 c8 ck bX ah aB) ak):Lw P aU n A b5 c8 ops l (o4 T fG o5 r4 S) ak:=by
 intro i x o rec st h0 bX a w B J aZ hex R;unfold o4 at hex
 split at hex
 ·rename_i wE;subst wE;obtain⟨y,ag,G6⟩:=Lv aA (i:=i) (x:=o) (by simpa using aZ);rw[J] at ag
  cases ag;exact .inr (aC x o rec st bX a w B J (GU G6) hex.2 R)
 ·exact QB cp aA i x o rec st h0 bX a w B J aZ hex.1 R
def ac9 {k:Nat}(h:NS k m=true):b3 m k=none:=by
 unfold NS at h;unfold b3
 cases hm:m.get k with
 |none=>rfl
 |some x=>rw[hm] at h;cases h
def apH {k:Nat}(h:dy.all (λe=>od k e.2) m=true):freeM k (b3 m):=λj g cs aa=>dy.T5 (p:=λe:Nat×List I=>od k e.2) h aa
def apI {ba bJ:ez}{ee:yj}(h:T6 ba bJ ee=true){k:Nat}{bF:Bool}{a:I}(hm:(k,bF,a)∈ee):∃v,ib (b3 ba) k bF a=some v/\ib (b3 bJ) k bF a=some v:=by
 unfold T6 at h;rw[jO] at h;have:=h _ hm;simp only at this;unfold ac4 at this
 split at this
 ·rename_i x y E G;have:=acN _ _ this;subst this;exact⟨x,E,G⟩
 ·cases this
def ada {is:List bn}(aA:ops.toList.mapM (mN P n 0 own ops)=some is):∀x∈is,x.dst.all (λd=>decide (d<n))=true:=by
 intro x J;obtain⟨i,O⟩:=List.mem_iff_getElem?.1 J;obtain⟨E,G⟩:=mapM_get aA;have au:i<D ops.toList:=by have:=(dn.1 O).1;omega
 have aZ:=bB au;have:=GU (G i _ x aZ O);rw[this.dst];exact this.lt
def adb (h:pr ops l=true):pr ops (l.map (gg kb))=true:=by
 unfold pr at *;have:=acQ (kb:=kb) l [] (fo ops.toList []);rw[cl] at this;rw[this];exact h
def NT {α:Type}{a b:α}{x:Bool}{r:α}(h:r=fJ a b x)(bc:r≠a):x=true/\r=b:=by
 cases x with
 |false=>exact absurd h bc
 |true=>exact⟨rfl,h⟩
def NU:a1:=⟨λ_ => .gV 0 0,emp⟩
def apJ {a:Act}(h:dr aU n A b5 c8 a NU w B):False:=by
 have E:=h.tm 0;have G:=h.ok.b4.qZ 0 rfl;have ad:aN w (bg A B) B (.gV 0 0) (a.eval (.tmp 0)):=E;generalize a.eval (.tmp 0)=u at ad
 cases ad with
 |gV he _ _=>rw[G] at he;cases he
def Uc {α:Type}{l:List α}{i:Nat}{x:α}(h:l[i]?=some x):(x,i)∈l.zipIdx:=Dp.2 h
def apK {gl:List FuncId}{g:Nat}{f:FuncId}{args:List bm}{dst:Option Nat}(h:(g,f,args,dst)∈Jh gl l):∃x,l[g]?=some x/\x.op=.call f args/\x.g=none/\x.dst=dst:=by
 unfold Jh at h;rw[ade] at h;obtain⟨⟨x,j⟩,hm,J⟩:=h;simp only at J
 split at J
 ·rename_i zQ az9 E G
  split at J
  ·simp only[bH,ei] at J;obtain⟨rfl,rfl,rfl,rfl⟩:=J;exact⟨x,Dp.1 hm,E,G,rfl⟩
  ·cases J
 ·cases J
def adf {o6:List Nat}{g j k:Nat}{z:List I}:(j,k,z)∈Jg o6 g l↔∃x,l[j]?=some x/\k8 o6 g j=true/\x.op=.alloc k z:=by
 unfold Jg;rw[ade]
 constructor
 ·rintro⟨⟨x,i⟩,hm,J⟩;simp only at J
  split at J
  ·rename_i hu
   split at J
   ·rename_i k' Ha ev;simp only[bH,ei] at J;obtain⟨rfl,rfl,rfl⟩:=J;exact⟨x,Dp.1 hm,hu,ev⟩
   ·cases J
  ·cases J
 ·rintro⟨x,J,hu,ev⟩;refine⟨(x,j),Uc J,?_⟩;simp only[hu,if_true,ev]
def adg {ol gl:List FuncId}{ha:Option (Nat×Nat×List I)}{last:Bool}{g:Nat}{f:FuncId}{args:List bm}{dst:Option Nat}{r:ca}{id:Nat}{a:Act}(eb:r1 P run)(aE:n<=1000000)(hm:P.follows .mixedOrders=true)
  (aA:ops.toList.mapM (mN P n 0 own ops)=some l) (ae:pr ops l=true) (sV:(g,f,args,dst)∈Jh gl l) (dp:(l.zipIdx.all λx => !k8 (fo ops.toList []) g x.2||T7 x.1.op)=true)
  (hb:∀j k z,(j,k,z)∈Jg (fo ops.toList []) g l↔ha=some (j,k,z)) (H9:last=true->∀j,j<(D l)->k8 (fo ops.toList []) g j=false) (apL:last=true->g+1=D l)
  (M:r=W.ap (E8 ol (k8 (fo ops.toList []) g) last ha g f args dst l (lp [] l (fo ops.toList []))) run t m c d) (bc:r ≠ .no) (R:dr d n A b5 c8 a ⟨cF t,b3 m⟩ w B)
  (dh:∀x t1 ba bU d1 ck ah aB,r=ca.ok x t1 ba bU d1->dr d1 n A b5 c8 ck ⟨cF t1,b3 ba⟩ ah aB->toQ A ak x ck ah aB):(Code.region id ops true).wp P ak a w:=by
 obtain⟨B7,wE,ev,Ud,tf⟩:=apK sV;have apM:g<D l:=(dn.1 wE).1
 have Lf:l.take g++B7::l.drop (g+1)=l:=by
  have E:B7=l[g]:=(dn.1 wE).2.symm;rw[E,<-fY apM,List.take_append_drop]
 have vE:=ada aA;have l1:=acS (kb:=c) aA;have NV:=adb (kb:=c) ae;have kG:=T3 (kb:=c) l [] (fo ops.toList []);rw[cl] at kG
 have hlen:(l.map (gg c)).length=ops.size:=by
  rw[(mapM_get l1).1,Array.length_toList]
 have E9:w8 0 ops.toList=true:=by unfold pr at ae;rw[dH] at ae;exact ae.1
 have z1:(l.map (gg c))[g]?=some (gg c B7):=by rw[bG,wE];rfl
 have B8:(gg c B7).op=.call f args:=by simp only[gg,ev,e3]
 generalize rK:k8 (fo ops.toList []) g=un at *;generalize aAa:lp [] l (fo ops.toList [])=hL at *;unfold E8 at M;rw[nK] at M;have rZ:(l.take g).length=g:=by rw[hf];omega
 obtain⟨t1,ba,rec1,o2,aL,ax,eo,kZ⟩:=NO (kb:=c) aE bc (l.take g) 0 t m (λ_=>none) [] (λx J=>vE x (List.mem_of_mem_take J)) (λ_ _=>rfl) M;rw[rZ,Nat.zero_add] at ax kZ;unfold ac7 at aL;rw[nK] at aL;obtain⟨Hl,aL⟩:=NT aL bc;have apN:=ape args t1;rw[apN] at aL Hl
 have Ue:(l.take g).map (gg c)++gg c B7::(l.drop (g+1)).map (gg c)=l.map (gg c):=by
  conv=>rhs;rw[<-Lf]
  simp
 cases ew:run f (args.map (aI (cF t1))) ba (c+1000) with
 |no=>rw[ew] at aL;exact absurd aL bc
 |gC v bJ c6 =>
  rw[ew] at aL;obtain⟨br,aL⟩:=NT aL bc
  have Uf:∀j y,(l.map (gg c))[j]?=some y->k8 (fo ops.toList []) g j=false:=λj y ag=>by
   have au:=(dn.1 ag).1;rw[az] at au;rw[rK];exact H9 br j au
  have apO:l.drop (g+1)=[]:=by rw[apL br];exact List.drop_length
  rw[apO] at Ue
  refine Ub (aU:=d) (K:=λst=>st=NU) (b6:=o4 (nc ol run) (l0 hL) g (λ_ _ st bX=>st=⟨cF t1,b3 ba⟩/\bX=NU) (λ_ _ _=>True)) hm
   (acW NV (by rw[kG]) (λ_ _ _ _ _ h=>h) (λj x y rec st rec1 st1 jg aa _ ag=>?_) (λj x y rec st rec1 st1 jg aa _ ag=>?_) (λx rec st bX h J => .inr Uf)) acU hlen E9
   (ac8 (T1 eb) l1 λx o rec st bX a w B J O eB R=>?_) (λst a w B ep R=>?_) R ?_
  ·rw[Uf j y ag] at aa;cases aa
  ·rw[Uf j y ag] at aa;cases aa
  ·rw[z1] at J
   cases J;obtain⟨rfl,rfl⟩:=eB;refine⟨yX R O.guard (by simp only[gg,Ud];rfl),?_⟩;have adh:gj P c own o.dst o.type o.op=some (gg c B7).op:=getD_some O.op (by rw[B8];simp);rw[B8] at adh;obtain⟨I5,Z,hg,iy⟩:=GS adh;have bY:=py R.jA iy;have h:=eb f (args.map (aI (cF t1))) ba (c+1000);rw[ew] at h;unfold Oper.wp;rw[vz Z hg h.1];refine Calls.mono (h.2 A w B _ R.ok.b4 bY) λe ah he=>?_;obtain⟨u,aB,rfl,dc,iw⟩:=he;exact dh (.gC v) t1 bJ c6 d a ah aB aL (R.put (dst:=none) dc iw rfl) u iw
  ·subst ep;exact (apJ R).elim
  ·rw[<-Ue];refine kZ _ _ _ (λj x rec st h0 bX _ aa hex _=>?_) (.cons (rec1:=rec1) (st1:=NU) ?_ (.nil rfl))
   ·unfold o4;rw[ar (by omega)];exact⟨hex,trivial⟩
   ·unfold o4;rw[aq rfl];exact⟨rfl,rfl,rfl⟩
 |ok v bJ c6 =>
  rw[ew] at aL;obtain⟨AV,aL⟩:=NT aL bc;obtain⟨t3,dD,aAb,T8,f1,f2,f3,f4⟩:=NO (kb:=c) aE bc (l.drop (g+1)) (g+1) (hT dst t1 v) bJ rec1 o2 (λx J=>vE x (List.mem_of_mem_drop J)) (λk Q=>ax k (by omega)) aL;obtain⟨apP,f1⟩:=NT f1 bc;have aAc:g+1+(l.drop (g+1)).length=D l:=by rw[List.length_drop];omega
  let a9:k9:=⟨f,args.map (aI (cF t1)),b3 ba,b3 bJ,v,ha.map λp=>(p.1,c+p.2.1,p.2.2)⟩
  have Ug:∀eP k z,a9.ha=some (eP,k,z)->∃fq,ha=some (eP,fq,z)/\k=c+fq:=λeP k z h=>by
   obtain⟨⟨cz,cP,hO⟩,E,G⟩:=cO.1 h;simp only[ei] at G;obtain⟨rfl,rfl,rfl⟩:=G;exact⟨cP,E,rfl⟩
  have adi:∀eP fq z,ha=some (eP,fq,z)->g<eP/\b3 ba (c+fq)=none/\freeM (c+fq) (b3 ba)/\od (c+fq) (args.map (aI (cF t1)))=true/\od (c+fq) z=true/\b3 bJ (c+fq)=none:=λeP fq z h=>by
   subst h;simp only[ac5,ac6,dH] at Hl AV;obtain⟨⟨⟨⟨cQ,dO⟩,kp⟩,kL⟩,NW⟩:=Hl;exact⟨by simpa [Nat.blt_eq] using cQ,ac9 dO,apH kp,kL,NW,ac9 AV⟩
  have eS:E7 a9:=by
   refine⟨λeP k z h=>?_,λeP k z h=>?_,λeP k z h=>?_,λeP k z h=>?_,λeP k z h=>?_⟩<;>obtain⟨fq,E,rfl⟩:=Ug _ _ _ h<;>obtain⟨cQ,dO,kp,kL,NW,adj⟩:=adi _ _ _ E
   ·exact dO
   ·exact adj
   ·exact kp
   ·exact kL
   ·exact NW
  have vo:∀rec:Rec,(∀k,g<=k->rec k=none)->a9.made rec=none:=λrec jQ=>by
   unfold k9.made
   split
   ·rfl
   ·rename_i eP k z h;obtain⟨fq,E,rfl⟩:=Ug _ _ _ h;rw[jQ eP (by have:=(adi _ _ _ E).1;omega)]
  have adk:∀j y,k8 (fo ops.toList []) g j=true->(l.map (gg c))[j]?=some y->Je a9 j y:=λj y aa ag=>by
   rw[bG,cO] at ag;obtain⟨NX,g4,rfl⟩:=ag;rw[jO] at dp;have Q:=dp (NX,j) (Uc g4);rw[rK] at aa;simp only[aa,dT,l2] at Q
   have bc:(∀k z,NX.op ≠ .alloc k z)->∀eP k z,a9.ha=some (eP,k,z)->j≠eP:=by
    rintro uI eP k z h rfl;obtain⟨fq,E,rfl⟩:=Ug _ _ _ h;obtain⟨x,J,_,km⟩:=adf.1 ((hb _ _ _).2 E);rw[g4] at J
    cases J;exact uI _ _ km
   cases B9:NX.op with
   |load nb bF x=>exact .load nb bF x (by simp only[gg,B9,e3]) (bc (by rw[B9];intro _ _ h;cases h))
   |alloc k z =>
    have E:=(hb j k z).1 (adf.2 ⟨NX,g4,by rw[rK];exact aa,B9⟩);exact .alloc (c+k) z (by simp only[a9,E,Option.map_some]) (by simp only[gg,B9,e3])
   |_ =>
    rw[B9] at Q;exact .quiet (by simp only[gg,acP,B9];exact B0 Q) (bc (by rw[B9];intro _ _ h;cases h))
  have adl:∀j x (st:a1),(un j=true->∀n bF y,x.op=.load n bF y->gv st.tm x.g=some true->(n,bF,aI st.tm y)∈T8)->wF a9 un j x st.tm:=λj x st h hu nb bF y ev aC=>apI apP (h hu nb bF y ev aC)
  refine Ub (aU:=d) (K:=λst=>st=⟨cF t3,b3 dD⟩) (b6:=o4 (nc ol run) (l0 hL) g (B3 a9) (wF a9 un)) hm
   (acW NV (by rw[kG]) (λi x tm tm' E G=>acY i x tm tm' E G) (λj x y rec st rec1 st1 jg aa _ ag dS uH he cm eB=>apD eS (by rw[<-rK];exact aa) (adk j y aa ag) dS uH he cm eB)
    (λj x y rec st jP st1 jg aa _ ag dS uH eB he cm=>apE eS (by rw[<-rK];exact aa) (adk j y aa ag) dS uH eB he cm) (λx rec st bX h J => .inl ?_)) acU hlen E9
   (ac8 (T1 eb) l1 λx o rec st bX a w B J O eB R=>?_) (λst a w B ep R=>?_) R ?_
  ·obtain⟨_,_,_,_,_,rfl⟩:=h;exact⟨_,rfl⟩
  ·rw[z1] at J
   cases J;exact⟨yX R O.guard (by simp only[gg,Ud];rfl),apF eS eb ew rfl rfl O eB R⟩
  ·subst ep;exact dh .k6 t3 dD c6 d a w B f1 R
  ·rw[<-Ue];refine kZ _ _ _ (λj x rec st h0 bX _ aa hex aZ=>?_) (.cons (rec1:=rec1) (st1:=⟨cF (hT dst t1 v),b3 bJ⟩) ?_ ?_)
   ·unfold o4;rw[ar (by omega)];exact⟨hex,adl j x st λhu n bF y E G=>f3 _ (aZ hu n bF y E G)⟩
   ·unfold o4;rw[aq rfl];refine⟨rfl,args,B8,Ud,rfl,?_,?_⟩
    ·rw[vo rec1 ax];rfl
    ·rw[vo rec1 ax,zX aE (by rw[<-tf];exact vE B7 (du wE))];simp only[gg,tf,oe,a9]
   ·have:=f4 (o4 (nc ol run) (l0 hL) g (B3 a9) (wF a9 un)) (λst=>st=⟨cF t3,b3 dD⟩) [] (λj x rec st h0 bX aa _ hex aZ=>by
     unfold o4;rw[ar (by omega)];exact⟨hex,adl j x st aZ⟩) (.nil rfl)
    rw[nZ] at this;exact this
def apQ {ol gl:List FuncId}{r:ca}{id:Nat}{a:Act}(eb:r1 P run)(aE:n<=1000000)(hm:P.follows .mixedOrders=true)(M:r=W.ap (Ua P ol gl n ops) run t m c d)(bc:r ≠ .no)(R:dr d n A b5 c8 a ⟨cF t,b3 m⟩ w B)
  (dh:∀x t1 ba bU d1 ck ah aB,r=ca.ok x t1 ba bU d1->dr d1 n A b5 c8 ck ⟨cF t1,b3 ba⟩ ah aB->toQ A ak x ck ah aB):(Code.region id ops true).wp P ak a w:=by
 unfold Ua at M
 split at M
 ·exact absurd M bc
 ·rename_i l aA
  cases ae:pr ops l with
  |false=>rw[ae] at M;exact absurd M bc
  |true =>
   rw[ae] at M;have mF:r=W.ap (T9 ol gl l (fo ops.toList [])) run t m c d:=M;unfold T9 at mF
   split at mF
   ·rw[nK] at mF;have vE:=ada aA;have l1:=acS (kb:=c) aA;have NV:=adb (kb:=c) ae;have kG:=T3 (kb:=c) l [] (fo ops.toList []);rw[cl] at kG
    have hlen:(l.map (gg c)).length=ops.size:=by
     rw[(mapM_get l1).1,Array.length_toList]
    obtain⟨t1,ba,rec1,o2,aL,ax,eo,kZ⟩:=NO (kb:=c) aE bc l 0 t m (λ_=>none) [] vE (λ_ _=>rfl) mF
    refine Ub (aU:=d) (K:=λst=>st=⟨cF t1,b3 ba⟩) (b6:=iz (nc ol run) (l0 (lp [] l (fo ops.toList [])))) hm (by rw[<-kG];exact XN (Qw NV) (Ls _)) XO hlen
     (by unfold pr at ae;rw[dH] at ae;exact ae.1) (QB (T1 eb) l1) (λst a w B ep R=>?_) R ?_
    ·subst ep;exact dh .k6 t1 ba _ d a w B aL R
    ·have:=kZ (iz (nc ol run) (l0 (lp [] l (fo ops.toList [])))) (λst=>st=⟨cF t1,b3 ba⟩) [] (λ_ _ _ _ _ _ _ _ h _=>h) (.nil rfl);rw[nZ] at this;exact this
   ·rename_i g f args dst aC
    cases dp:(l.zipIdx.all λx => !k8 (fo ops.toList []) g x.2||T7 x.1.op) with
    |false=>rw[dp] at mF;exact absurd mF bc
    |true =>
     rw[dp] at mF;have sV:(g,f,args,dst)∈Jh gl l:=by rw[aC];simp
     have aP:r=W.ap (match Jg (fo ops.toList []) g l with
      | []=>E8 ol (k8 (fo ops.toList []) g) (l.zipIdx.all (λx => !k8 (fo ops.toList []) g x.2)&&gB (g+1) (D l)) none g f args dst l (lp [] l (fo ops.toList []))
      | [ha]=>E8 ol (k8 (fo ops.toList []) g) false (some ha) g f args dst l (lp [] l (fo ops.toList []))
      |_=>r6) run t m c d:=mF
     split at aP
     ·rename_i hb;refine adg eb aE hm aA ae sV dp (λj k z=>by rw[hb];simp) (λh j aa=>?_) (λh=>?_) aP bc R dh
      ·rw[dH,jO] at h;have:=h.1 (l[j],j) (Uc (bB aa))
       simpa using this
      ·rw[dH] at h;exact B0 h.2
     ·rename_i ha hb;refine adg eb aE hm aA ae sV dp (λj k z=>by rw[hb];simp[eq_comm]) (λh=>by cases h) (λh=>by cases h) aP bc R dh
     ·exact absurd aP bc
   ·exact absurd mF bc
end Go.Mini
namespace Go.Mini
open Go
def adm (b:W r5)(run:iX)(r:ca):ca:=ca.rec ca.no (λx t m c d=>X.rec (W.ap b run t m c d) (λi => .ok (.oc i) t m c d) (.ok .ret t m c d) (λv => .ok (.gC v) t m c d) x) r
def adn (i:Nat)(r:ca):ca:=ca.rec ca.no (λx t m c d=>X.rec (.ok .k6 t m c d) (λj=>fJ (.ok (.oc j) t m c d) (.ok .k6 t m c d) (gB j i)) (.ok .ret t m c d) (λv => .ok (.gC v) t m c d) x) r
def NY (b:W r5)(run:iX)(fuel:Nat):eY->ez->Nat->Option I->ca :=
 Nat.rec (motive:=λ_=>eY->ez->Nat->Option I->ca) (λ_ _ _ _=>ca.no) (λ_ uE t m c d=>ca.rec ca.no (λx t m c d=>X.rec (uE t m c d) (λi => .ok (.oc i) t m c d) (.ok .ret t m c d) (λv => .ok (.gC v) t m c d) x) (W.ap b run t m c d)) fuel
def Uh:Nat:=1000000
def NZ (b:W r5):W r5:=.mk λrun t m c d=>NY b run Uh t m c d
def apR (b:W r5):W.ap (NZ b)=λrun t m c d=>NY b run Uh t m c d:=by
 unfold NZ;rw[nK]
def Ui (y:bm)(a b:W r5):W r5:=.mk λrun t m c d=>match W.ap (iY y) t with
 |.L (.bool q)=>fJ (W.ap b run t m c d) (W.ap a run t m c d) q
 |_=>ca.no
def nd (P:Program)(ol gl:List FuncId)(n:Nat)(c:Code):W r5 :=
 Code.rec (motive:=λ_=>W r5)
  (.mk λ_ t m c d => .ok .k6 t m c d)
  (λ_ ops draw=>fJ (.mk λrun t m c d=>W.ap (E0 P n ops ops.toList) run c t m (c+1000) d λt m c d => .ok .k6 t m c d) (Ua P ol gl n ops) draw)
  (λ_ _ Uj Ca => .mk λrun t m c d=>adm Ca run (W.ap Uj run t m c d))
  (λx _ _ Uj Ca=>match cw x with
   |none=>r6
   |some y=>Ui y Uj Ca)
  (λi _ Ca => .mk λrun t m c d=>adn i (W.ap Ca run t m c d))
  (λ_ Ca=>NZ Ca)
  (λ_ _ _ _ _ _=>r6)
  (λi => .mk λ_ t m c d => .ok (.oc i) t m c d)
  (λ_ _=>r6)
  (λ_=>r6)
  (λ_=>r6)
  (.mk λ_ t m c d => .ok .ret t m c d)
  (λ_=>r6) c
variable {P:Program} {A:Nat->Prop} {b5 w:World} {c8 B:cG} {n:Nat} {run:iX} {ol gl:List FuncId}
def ado (eb:r1 P run)(aE:n<=1000000)(hm:P.follows .mixedOrders=true):∀(co:Code) (t:eY) (m:ez) (c:Nat) (d:Option I) (a:Act) (w:World) (B:cG) (r:ca) (ak:Exit->Act->World->Prop),r=W.ap (nd P ol gl n co) run t m c d->r ≠ .no ->
  dr d n A b5 c8 a ⟨cF t,b3 m⟩ w B->(∀x t1 ba bU d1 ck ah aB,r=ca.ok x t1 ba bU d1->dr d1 n A b5 c8 ck ⟨cF t1,b3 ba⟩ ah aB->toQ A ak x ck ah aB)->co.wp P ak a w:=by
 intro co
 induction co with
 |skip=>exact λt m c d a w B r ak M bc R dh=>Go.wp_skip (dh .k6 t m c d a w B M R)
 |exit i=>exact λt m c d a w B r ak M bc R dh=>Go.wp_exit (dh (.oc i) t m c d a w B M R)
 |ret=>exact λt m c d a w B r ak M bc R dh=>Go.wp_ret (dh .ret t m c d a w B M R)
 |region id ops draw =>
  intro t m c d a w B r ak M bc R dh
  cases draw with
  |true=>exact apQ eb aE hm M bc R dh
  |false =>
   have c7:r=W.ap (E0 P n ops ops.toList) run c t m (c+1000) d λt m c d => .ok .k6 t m c d:=M;refine Go.wp_region ?_;have:=TV (P:=P) (ops:=ops) (ak:=ak) ops.toList 0 a w rfl (TU eb aE bc (λt1 ba bU d1 ck ah aB E G=>dh .k6 t1 ba bU d1 ck ah aB E G) (λx=>dh (.gC x)) ops.toList t m (c+1000) d a w B c7 R);rw[Array.length_toList] at this;rw[adp];exact this
 |seq x y ihx ihy =>
  intro t m c d a w B r ak M bc R dh;have c7:r=adm (nd P ol gl n y) run (W.ap (nd P ol gl n x) run t m c d):=M
  cases J:W.ap (nd P ol gl n x) run t m c d with
  |no=>rw[J] at c7;exact absurd c7 bc
  |ok ex t1 ba bU d1 =>
   rw[J] at c7;refine Go.wp_seq (ihx t m c d a w B _ _ J.symm (by simp) R λeE t2 bJ c6 d2 ck ah aB E dI=>?_)
   cases E
   cases ex with
   |k6=>exact ihy t1 ba bU d1 ck ah aB r ak c7 bc dI dh
   |oc i=>exact dh (.oc i) t1 ba bU d1 ck ah aB c7 dI
   |ret=>exact dh .ret t1 ba bU d1 ck ah aB c7 dI
   |gC v=>exact dh (.gC v) t1 ba bU d1 ck ah aB c7 dI
 |cond x y z ihy ihz =>
  intro t m c d a w B r ak M bc R dh
  have c7:r=W.ap (match cw x with
   |none=>r6
   |some o=>Ui o (nd P ol gl n y) (nd P ol gl n z)) run t m c d:=M
  split at c7
  ·exact absurd c7 bc
  ·rename_i o aZ;have ai:=R.jA x o aZ;unfold Ui at c7;rw[nK,nL] at c7
   split at c7
   ·rename_i q aM;simp only[aM] at ai;refine Go.wp_cond ai.yL ?_
    cases q with
    |true=>exact ihy t m c d a w B r ak c7 bc R dh
    |false=>exact ihz t m c d a w B r ak c7 bc R dh
   ·exact absurd c7 bc
 |block id x aF =>
  intro t m c d a w B r ak M bc R dh;have c7:r=adn id (W.ap (nd P ol gl n x) run t m c d):=M
  cases J:W.ap (nd P ol gl n x) run t m c d with
  |no=>rw[J] at c7;exact absurd c7 bc
  |ok ex t1 ba bU d1 =>
   rw[J] at c7;refine Go.wp_block (aF t m c d a w B _ _ J.symm (by simp) R λeE t2 bJ c6 d2 ck ah aB E dI=>?_)
   cases E
   cases ex with
   |k6=>exact dh .k6 t1 ba bU d1 ck ah aB c7 dI
   |oc j =>
    have aP:r=fJ (.ok (.oc j) t1 ba bU d1) (.ok .k6 t1 ba bU d1) (gB j id):=c7;simp only[toQ,Exit.inBlock]
    cases U:gB j id with
    |true =>
     rw[U] at aP;rw[aq (B0 U)];exact dh .k6 t1 ba bU d1 ck ah aB aP dI
    |false =>
     rw[U] at aP;rw[ar (NJ U)];exact dh (.oc j) t1 ba bU d1 ck ah aB aP dI
   |ret=>exact dh .ret t1 ba bU d1 ck ah aB c7 dI
   |gC v=>exact dh (.gC v) t1 ba bU d1 ck ah aB c7 dI
 |loop x aF =>
  intro t m c d a w B r ak M bc R dh
  have key:∀(fuel:Nat) (t:eY) (m:ez) (c:Nat) (d:Option I) (a:Act) (w:World) (B:cG),r=NY (nd P ol gl n x) run fuel t m c d->dr d n A b5 c8 a ⟨cF t,b3 m⟩ w B->Code.rounds P x ak fuel a w:=by
   intro fuel
   induction fuel with
   |zero=>intro t m c d a w B M _;exact absurd M bc
   |succ fuel ihf =>
    intro t m c d a w B M R;have c7:r=ca.rec ca.no (λeE t m c d=>X.rec (NY (nd P ol gl n x) run fuel t m c d) (λi => .ok (.oc i) t m c d) (.ok .ret t m c d) (λv => .ok (.gC v) t m c d) eE) (W.ap (nd P ol gl n x) run t m c d):=M
    cases J:W.ap (nd P ol gl n x) run t m c d with
    |no=>rw[J] at c7;exact absurd c7 bc
    |ok ex t1 ba bU d1 =>
     rw[J] at c7;refine aF t m c d a w B _ _ J.symm (by simp) R λeE t2 bJ c6 d2 ck ah aB E dI=>?_
     cases E
     cases ex with
     |k6=>exact ihf t1 ba bU d1 ck ah aB c7 dI
     |oc i=>exact dh (.oc i) t1 ba bU d1 ck ah aB c7 dI
     |ret=>exact dh .ret t1 ba bU d1 ck ah aB c7 dI
     |gC v=>exact dh (.gC v) t1 ba bU d1 ck ah aB c7 dI
  have c7:r=W.ap (NZ (nd P ol gl n x)) run t m c d:=M;rw[apR] at c7;simp only at c7;generalize Uh=fu at c7;exact wp_loop_rounds fu (key fu t m c d a w B c7 R)
 |rangeFunc=>exact λt m c d a w B r ak M bc R dh=>absurd M bc
 |scope=>exact λt m c d a w B r ak M bc R dh=>absurd M bc
 |label=>exact λt m c d a w B r ak M bc R dh=>absurd M bc
 |goto=>exact λt m c d a w B r ak M bc R dh=>absurd M bc
 |refuse=>exact λt m c d a w B r ak M bc R dh=>absurd M bc
def r7 (args:List I):Nat->eY->eY:=List.rec (motive:=λ_=>Nat->eY->eY) (λ_ t=>t) (λa _ uE i t=>uE (i+1) (wC i a t)) args
def adq:∀(args:List I) (i:Nat) (t:eY) (s:Nat),i+D args<=1000000->cF (r7 args i t) s=if i<=s then (match args[s-i]? with|some m=>m|none=>cF t s) else cF t s
 | [],i,t,s,_=>by simp[r7]
 |a::l,i,t,s,h=>by
  have bT:cF (r7 l (i+1) (wC i a t)) s=_:=adq l (i+1) (wC i a t) s (by simp at h;omega);show cF (r7 l (i+1) (wC i a t)) s=_;rw[bT,TP (by simp at h;omega)]
  by_cases E:i=s
  ·subst E;rw[ar (by omega),aq (bM _)];simp[eM]
  ·by_cases G:i<=s
   ·rw[aq (by omega),aq G];have:s-i=s-(i+1)+1:=by omega
    rw[this,List.getElem?_cons_succ]
    cases l[s-(i+1)]? with
    |none=>simp[eM,Ne.symm E]
    |some m=>rfl
   ·rw[ar (by omega),ar G];simp[eM,Ne.symm E]
def adr {args:List I}(h:(D args)<=1000000):cF (r7 args 0 .e)=j5 args:=by
 funext s
 rw[adq _ _ _ _ (by simpa using h),aq (eL _),Nat.sub_zero];unfold j5
 split<;>rename_i E<;>simp[E]
 rfl
def ads {fn:Func}{args:List I}{vs:List Value}{mem:Mem}(a3:dq A w B mem)(ai:cj w (bg A B) B args vs)(af:(D args)<=fn.ntmps):
  dr none fn.ntmps A w B { tmps:=vs.toArray++Array.replicate (fn.ntmps-vs.toArray.size) undef,defers:=[] } ⟨j5 args,mem⟩ w B:=by
 have dC:(D vs)=D args:=ai.1;refine⟨.refl a3,λs=>?_,?_,rfl⟩
 ·simp only[j5,Act.eval,Array.getD_eq_getD_getElem?];rcases fE s (D vs) with au|bO
  ·have E:args[s]?=some args[s]:=bB (by omega)
   have G:(vs.toArray++Array.replicate (fn.ntmps-vs.toArray.size) undef)[s]?=some vs[s]:=by
    rw[Array.getElem?_append_left (by simpa using au)];simp[au]
   rw[E,G];exact ai.2 s _ _ E (bB au)
  ·rw[mO (by omega),Array.getElem?_append_right (by simpa using bO)]
   have:((Array.replicate (fn.ntmps-vs.toArray.size) undef)[s-vs.toArray.size]?).getD undef=undef:=by
    cases aM:(Array.replicate (fn.ntmps-vs.toArray.size) undef)[s-vs.toArray.size]? with
    |none=>rfl
    |some u =>
     have:=Array.mem_of_getElem? aM;simp at this;simp[this.2]
   rw[this];exact .no
 ·simp;omega
inductive iZ where
 |no
 |ok (m:ez) (c:Nat)
abbrev adt:=iX->List I->ez->Nat->Option I->iZ
def Ji:W adt:=.mk λ_ _ _ _ _=>iZ.no
def isRec (o:Oper):Option Nat:=match o.op,o.dst,o.guard with
 |.call { callee:=.builtin .recover,.. },some s,none=>some s
 |_,_,_=>none
def Uk (rs:List jI)(r:ca):iZ:=ca.rec iZ.no (λx t m c d=>ko (X.rec (ko iZ.no (λ_=>iZ.ok m c) (jc ⟨cF t,b3 m⟩ rs)) (λ_=>iZ.no) (ko iZ.no (λ_=>iZ.ok m c) (jc ⟨cF t,b3 m⟩ rs)) (λ_=>iZ.no) x) (λ_=>iZ.no) d) r
def Fa (P:Program)(ol gl:List FuncId)(g:FuncId):W adt:=match P.funcs[g]? with
 |none=>Ji
 |some fn=>match fn.body,fn.results.toList.mapM (vi P) with
  |some (.seq (.region _ ops false) rest),some rs=>match ops.toList with
   | []=>Ji
   |o::os=>match isRec o with
    |none=>Ji
    |some s=>fJ Ji (.mk λrun cZ m c p=>fJ iZ.no (Uk rs (W.ap (E0 P fn.ntmps ops os) run c (wC s (ko (.L .mL) (λv=>v) p) (r7 cZ 0 .e)) m (c+1000) none λt m c d=>W.ap (nd P ol gl fn.ntmps rest) run t m c d)) (qK (D cZ) fn.ntmps))
     (zY s fn.ntmps&&qK fn.ntmps 1000000)
  |_,_=>Ji
def Jj:Option Value->FrameMode
 |none => .returning
 |some u => .panicking [{ v:=u,recovered:=false }]
def qL:Option Value->FrameMode
 |none => .returning
 |some u => .panicking [{ v:=u,recovered:=true }]
def adu (w:World)(av:Nat->Prop)(B:cG):Option I->Option Value->Prop
 |none,none=>True
 |some m,some u=>aN w av B m u
 |_,_=>False
def apS {rs:List jI}{r:ca}{m':ez}{c':Nat}(h:Uk rs r=.ok m' c'):∃x t,r=.ok x t m' c' none/\(x=.k6\/x=.ret)/\∃v,jc ⟨cF t,b3 m'⟩ rs=some v:=by
 cases r with
 |no=>cases h
 |ok x t m c d =>
  cases d with
  |some _=>cases h
  |none =>
   have bT:(X.rec (ko iZ.no (λ_=>iZ.ok m c) (jc ⟨cF t,b3 m⟩ rs)) (λ_=>iZ.no) (ko iZ.no (λ_=>iZ.ok m c) (jc ⟨cF t,b3 m⟩ rs)) (λ_=>iZ.no) x:iZ)=.ok m' c':=h
   cases x with
   |oc i=>cases bT
   |gC v=>cases bT
   |k6 =>
    have G:(ko iZ.no (λ_=>iZ.ok m c) (jc ⟨cF t,b3 m⟩ rs):iZ)=.ok m' c':=bT
    cases M:jc ⟨cF t,b3 m⟩ rs with
    |none=>rw[M] at G;cases G
    |some v=>rw[M] at G;cases G;exact⟨.k6,t,rfl,.inl rfl,v,M⟩
   |ret =>
    have G:(ko iZ.no (λ_=>iZ.ok m c) (jc ⟨cF t,b3 m⟩ rs):iZ)=.ok m' c':=bT
    cases M:jc ⟨cF t,b3 m⟩ rs with
    |none=>rw[M] at G;cases G
    |some v=>rw[M] at G;cases G;exact⟨.ret,t,rfl,.inr rfl,v,M⟩
def apT {o:Oper}{s:Nat}(h:isRec o=some s)(a:Act):o.dst=some s/\o.guard=none/\(execOp a.eval o).run P w=.ok .recover w:=by
 unfold isRec at h
 split at h
 ·rename_i args yZ d E G ad
  cases h;refine⟨G,ad,?_⟩;simp only[execOp,E,resolve,invoke,builtin,Sem.run_bind,Sem.run_pure,Result.andThen_ok]
 ·cases h
def apU (eb:r1 P run)(hm:P.follows .mixedOrders=true){g:FuncId}{cZ:List I}{m m':ez}{c c':Nat}{p:Option I}{u:Option Value}{vs:List Value}(h:W.ap (Fa P ol gl g) run cZ m c p=.ok m' c')(a3:dq A w B (b3 m))
  (ai:cj w (bg A B) B cZ vs) (aD:adu w (bg A B) B p u):CallsD P g vs.toArray (Jj u) w λe xR ah=>∃v,e=.returned v/\xR=qL u/\∃aB,cX A w B ah aB (b3 m'):=by
 unfold Fa at h
 split at h
 ·cases h
 ·rename_i fn ao
  split at h
  ·rename_i id ops rest rs U lB
   split at h
   ·cases h
   ·rename_i o os B8
    split at h
    ·cases h
    ·rename_i s R
     cases xp:(zY s fn.ntmps&&qK fn.ntmps 1000000) with
     |false=>rw[xp] at h;cases h
     |true =>
     rw[xp] at h;rw[dH] at xp;have yk:s<fn.ntmps:=by simpa [Nat.blt_eq] using xp.1
     have aE:fn.ntmps<=1000000:=qM xp.2;have E:(fJ iZ.no (Uk rs (W.ap (E0 P fn.ntmps ops os) run c (wC s (ko (.L .mL) (λv=>v) p) (r7 cZ 0 .e)) m (c+1000) none λt m c d=>W.ap (nd P ol gl fn.ntmps rest) run t m c d)) (qK (D cZ) fn.ntmps):iZ)=.ok m' c':=h
     cases hle:qK (D cZ) fn.ntmps with
     |false=>rw[hle] at E;cases E
     |true =>
     rw[hle] at E;have dP:(D cZ)<=fn.ntmps:=qM hle;obtain⟨x,ks,M,J,v,lC⟩:=apS E;refine callsD_of_wpS ao U λc₀ cs hu=>?_;have nD:=ads (fn:=fn) a3 ai dP;obtain⟨tf,ra,hex⟩:=apT (P:=P) (w:=w) R { tmps:=vs.toArray++Array.replicate (fn.ntmps-vs.toArray.size) undef,defers:=[] }
     have aZ:ops[0]?=some o:=by
      have:ops.toList[0]?=some o:=by rw[B8];rfl
      simpa using this
     -- behind xl recovery
     have after:∀(wG:Value) (pm:I),aN w (bg A B) B pm wG->pm=(ko (.L .mL) (λv=>v) p:I)->wpOpsS P ops (Exit.thenS (rest.wpS P (bodyPostS P fn c₀ cs λe xR ah=>∃v,e=.returned v/\xR=qL u/\∃aB,cX A w B ah aB (b3 m'))) (bodyPostS P fn c₀ cs λe xR ah=>∃v,e=.returned v/\xR=qL u/\∃aB,cX A w B ah aB (b3 m'))) (I6 1 (D os)) (Act.put { tmps:=vs.toArray++Array.replicate (fn.ntmps-vs.toArray.size) undef,defers:=[] } (some s) wG) ({ c₀ with mode:=qL u }::cs) w:=by
      intro wG pm lA N0;have eX:=nD.put (dst:=some s) (cX.refl a3) lA (by simpa using yk);rw[<-adr (by omega)] at eX;have apV:put (cF (r7 cZ 0 .e)) (some s) pm=cF (wC s pm (r7 cZ 0 .e)):=(TP (by omega) _ _).symm;rw[apV,N0] at eX
      have eO:∀e t1 ba bU d1 ck ah aB,ca.ok x ks m' c' none=ca.ok e t1 ba bU d1->dr d1 fn.ntmps A w B ck ⟨cF t1,b3 ba⟩ ah aB->toQ A (λe a ah=>bodyPostS P fn c₀ cs (λe xR ah=>∃v,e=.returned v/\xR=qL u/\∃aB,cX A w B ah aB (b3 m')) e a ({ c₀ with mode:=qL u }::cs) ah) e ck ah aB:=by
       intro e t1 ba bU d1 ck ah aB he dI
       cases he;obtain⟨oy,j6,_⟩:=LB dI lB lC;rcases J with rfl|rfl
       ·exact⟨dI.vu,qL u,rfl,oy,j6,oy,rfl,rfl,aB,dI.ok⟩
       ·exact⟨dI.vu,qL u,rfl,oy,j6,oy,rfl,rfl,aB,dI.ok⟩
      refine TW os 1 _ w (by rw[B8];rfl) ?_;refine TU eb aE (r:=ca.ok x ks m' c' none) (by simp) (λt1 ba bU d1 ck ah aB E G=>?_) (λe t1 ba bU d1 ck ah aB E G=>?_) os _ m (c+1000) none _ w B M.symm eX
      ·exact wpS_of_wp (ado eb aE hm rest t1 ba bU d1 ck ah aB _ _ E (by simp) G eO)
      ·cases E;rcases J with J|J<;>cases J
     refine wpS_seq (wpS_region ?_)
     have apW:je ops.size=0::I6 1 (D os):=by
      have:ops.size=D os+1:=by
       have:=congrArg D B8
       simpa using this
      rw[this,adp,List.range'_succ]
     rw[apW];simp only[wpOpsS,aZ]
     have hw:Region.wanted o (yielded ops (vs.toArray++Array.replicate (fn.ntmps-vs.toArray.size) undef))=true:=by
      unfold Region.wanted;rw[ra]
     rw[aq hw,hex];simp only
     cases p with
     |none =>
      cases u with
      |some _=>exact aD.elim
      |none =>
       have jQ:recoverD (c₀::cs)=none:=by
        simp only[recoverD,hu,Jj,qL]
       rw[jQ];simp only;have G:=after .nilIface (.L .mL) (.L .mL) rfl
       have vR:({ c₀ with mode:=qL none }:Frame)=c₀:=by
        have:qL none=c₀.mode:=hu.symm;rw[this]
       rw[vR] at G;rw[tf];exact G
     |some pm =>
      cases u with
      |none=>exact aD.elim
      |some wG =>
       have jQ:recoverD (c₀::cs)=some (wG,{ c₀ with mode:=qL (some wG) }::cs):=by
        simp only[recoverD,hu,Jj,qL]
       rw[jQ];simp only;rw[tf];exact after wG pm aD rfl
  ·cases h
end Go.Mini
namespace Go.Mini
open Go
abbrev Ul:=iX->List I->ez->Nat->iF
def Um:W Ul:=.mk λ_ _ _ _=>iF.no
def Cb (rs:List jI)(t:eY)(m:ez)(c:Nat):iF:=ko iF.no (λv=>iF.ok v m c) (jc ⟨cF t,b3 m⟩ rs)
def N1 (P:Program)(ol gl:List FuncId)(rs:List jI)(run:iX)(t:eY)(m:ez)(c:Nat)(d:I)(p:Option I):iF:=match d with
 |.dK g cZ=>iZ.rec iF.no (λm c=>Cb rs t m c) (W.ap (Fa P ol gl g) run cZ m c p)
 |_=>iF.no
def Un (P:Program)(ol gl:List FuncId)(rs:List jI)(run:iX)(r:ca):iF:=ca.rec iF.no (λx t m c d=>ko
 (X.rec (Cb rs t m c) (λ_=>iF.no) (Cb rs t m c) (λv=>iF.gC v m c) x)
 (λd=>X.rec (N1 P ol gl rs run t m c d none) (λ_=>iF.no) (N1 P ol gl rs run t m c d none) (λv=>N1 P ol gl rs run t m c d (some v)) x) d) r
abbrev Cc:=FuncId->Option (List Data->Option dd)
def Uo (bR:List Data->Option dd):W Ul:=.mk λ_ args m c=>match aT bR args (b3 m) with
 |some (.same r)=>iF.ok (.L r) m c
 |some (.own _ es)=>iF.ok (.L (.ay es)) m c
 |_=>iF.no
def N2 (P:Program)(ol gl:List FuncId)(fH:Cc)(f:FuncId):W Ul:=ko (match P.funcs[f]? with
 |none=>Um
 |some fn=>match fn.body,fn.results.toList.mapM (vi P) with
  |some co,some rs=>fJ Um (.mk λrun args m c=>fJ iF.no (Un P ol gl rs run (W.ap (nd P ol gl fn.ntmps co) run (r7 args 0 .e) m c none)) (qK (D args) fn.ntmps)) (qK fn.ntmps 1000000)
  |_,_=>Um) (λbR=>Uo bR) (fH f)
def Jk (P:Program)(ol gl:List FuncId)(fH:Cc)(k:Nat):iX :=
 Nat.rec (motive:=λ_=>iX) (λ_ _ _ _ => .no) (λ_ aF f args m c=>W.ap (N2 P ol gl fH f) aF args m c) k
variable {P:Program} {A:Nat->Prop} {w w1:World} {B hE:cG} {run:iX} {ol gl:List FuncId}
def Fb (P : Program): Prop := ∀ (f : FuncId) (fn : Func), P.funcs[f]? = some fn -> (fn.name == "runtime.NumGoroutine") = false
def Up (P:Program)(f:FuncId)(args:List I)(m:ez):iF->Prop
 |.no=>True
 |.ok v m' _=>Real P f/\∀A w B vs,dq A w B (b3 m)->cj w (bg A B) B args vs->Calls P f vs.toArray w λe ah=>∃u aB,e=.returned u/\cX A w B ah aB (b3 m')/\aN ah (bg A aB) aB v u
 |.gC v m' _=>Real P f/\∀A w B vs,dq A w B (b3 m)->cj w (bg A B) B args vs->Calls P f vs.toArray w λe ah=>∃u aB,e=.panicked [{ v:=u,recovered:=false }]/\cX A w B ah aB (b3 m')/\aN ah (bg A aB) aB v u
def Uq (A:Nat->Prop)(w:World)(B:cG):iF->Ending->World->Prop
 |.no,_,_=>False
 |.ok v m' _,e,ah=>∃u aB,e=.returned u/\cX A w B ah aB (b3 m')/\aN ah (bg A aB) aB v u
 |.gC v m' _,e,ah=>∃u aB,e=.panicked [{ v:=u,recovered:=false }]/\cX A w B ah aB (b3 m')/\aN ah (bg A aB) aB v u
def Ur {fn:Func}{rs:List jI}{aU:Option I}{a:Act}{t:eY}{m:ez}{c:Nat}{r:iF}(lB:fn.results.toList.mapM (vi P)=some rs)(M:r=Cb rs t m c)(bc:r ≠ .no)(R:dr aU fn.ntmps A w B a ⟨cF t,b3 m⟩ w1 hE):
  ∃v,(results fn a.tmps).run P w1=.ok v w1/\Uq A w B r (.returned v) w1:=by
 unfold Cb at M
 cases ai:jc ⟨cF t,b3 m⟩ rs with
 |none=>rw[ai] at M;exact absurd M bc
 |some v =>
  rw[ai] at M;obtain⟨u,E,G⟩:=LB R lB ai;have c7:r=.ok v m c:=M;subst c7;exact⟨u,E,u,hE,rfl,R.ok,G⟩
def Us (qN:Fb P){f:FuncId}{fn:Func}{co:Code}(ao:P.funcs[f]?=some fn)(U:fn.body=some co):Real P f:=⟨fn,co,ao,U,qN f fn ao⟩
def Ut (eb:r1 P run)(hm:P.follows .mixedOrders=true)(qN:Fb P){fn:Func}{rs:List jI}{a:Act}{t:eY}{m:ez}{c:Nat}{d:I}{p:Option I}{u:Option Value}{r:iF}(lB:fn.results.toList.mapM (vi P)=some rs)
  (M:r=N1 P ol gl rs run t m c d p) (bc:r ≠ .no) (R:dr (some d) fn.ntmps A w B a ⟨cF t,b3 m⟩ w1 hE) (aD:adu w1 (bg A hE) hE p u):Leaves P fn a.tmps (Uq A w B r) a.defers (Jj u) w1:=by
 obtain⟨g,cZ,vs,rfl,e4,ai⟩:=R.vu;have c7:r=iZ.rec iF.no (λm c=>Cb rs t m c) (W.ap (Fa P ol gl g) run cZ m c p):=M
 cases ae:W.ap (Fa P ol gl g) run cZ m c p with
 |no=>rw[ae] at c7;exact absurd c7 bc
 |ok m' c' =>
  rw[ae] at c7;have aP:r=Cb rs t m' c':=c7;obtain⟨cs,hu,dP⟩:=GV ai (.inl rfl);simp only[Value.func.injEq,true_and] at hu;have Uu:=apU (w:=w1) (u:=u) (vs:=cs) eb hm ae R.ok.b4 dP aD
  have fM:Real P g:=by
   unfold Fa at ae
   split at ae
   ·cases ae
   ·rename_i aAd ao
    split at ae
    ·rename_i id ops rest aAe U aAf;exact Us qN ao U
    ·cases ae
  rw[e4,hu];refine leaves_cons (f:=g) (args:=cs.toArray) ?_ ?_ ?_
  ·cases u<;>simp[Jj]
  ·simp only[invoke];have:(#[]++cs.toArray:Array Value)=cs.toArray:=by simp
   rw[this];exact AI fM cs.toArray
  ·refine Uu.mono λe xR ah he=>?_;obtain⟨v,rfl,rfl,aB,dc⟩:=he;simp only;have dI:=R.put (dst:=none) (r:=.no) (v:=undef) dc .no rfl;obtain⟨oy,E,G⟩:=Ur (w:=w) (B:=B) lB aP bc dI;have GM:settle (qL u)=.returning:=by cases u<;>rfl
   rw[GM];exact⟨oy,E,G⟩
def apX {bR:List Data->Option dd}{f:FuncId}(ff:h1 P f bR)(args:List I)(m:ez)(c:Nat):Up P f args m (W.ap (Uo bR) run args m c):=by
 have cp:mX P (tP λg=>if g=f then some bR else none):=QH λg aAg h=>by
  split at h
  ·rename_i aC
   cases h;exact aC ▸ ff
  ·cases h
 unfold Uo;rw[nK]
 split
 ·rename_i r he;obtain⟨fM,R⟩:=cp f args (b3 m) (.same r) (by simp only[tP,if_true];exact he);refine⟨fM,λA w B vs a3 ai=>(R A w B vs a3 ai).mono λe ah h=>?_⟩;obtain⟨v,rfl,dw,ae⟩:=h;exact⟨v,B,rfl,.still a3 dw,.L ae⟩
 ·rename_i sz es he;obtain⟨fM,R⟩:=cp f args (b3 m) (.own sz es) (by simp only[tP,if_true];exact he);refine⟨fM,λA w B vs a3 ai=>(R A w B vs a3 ai).mono λe ah h=>?_⟩;obtain⟨v,rfl,dw,ae⟩:=h;exact⟨v,B,rfl,.still a3 dw,.L (ae.den λb U=>U.elim (λbT=>a3.q0 bT) (a3.lt b))⟩
 ·trivial
def apY {fH:Cc}(Fc:∀f bR,fH f=some bR->h1 P f bR)(eb:r1 P run)(hm:P.follows .mixedOrders=true)(qN:Fb P)(f:FuncId)(args:List I)(m:ez)(c:Nat):Up P f args m (W.ap (N2 P ol gl fH f) run args m c):=by
 generalize M:W.ap (N2 P ol gl fH f) run args m c=r
 by_cases bc:r=.no
 ·subst bc;trivial
 unfold N2 at M
 cases aD:fH f with
 |some bR =>
  rw[aD] at M;rw[<-M];exact apX (Fc f bR aD) args m c
 |none =>
 rw[aD] at M;simp only at M
 split at M
 ·exact absurd M.symm bc
 ·rename_i fn ao
  split at M
  ·rename_i co rs U lB
   cases aE:qK fn.ntmps 1000000 with
   |false=>rw[aE] at M;exact absurd M.symm bc
   |true =>
   rw[aE] at M;have mF:(fJ iF.no (Un P ol gl rs run (W.ap (nd P ol gl fn.ntmps co) run (r7 args 0 .e) m c none)) (qK (D args) fn.ntmps):iF)=r:=M
   cases af:qK (D args) fn.ntmps with
   |false=>rw[af] at mF;exact absurd mF.symm bc
   |true =>
   rw[af] at mF;have Gz:fn.ntmps<=1000000:=qM aE;have sy:(D args)<=fn.ntmps:=qM af;have aP:r=Un P ol gl rs run (W.ap (nd P ol gl fn.ntmps co) run (r7 args 0 .e) m c none):=mF.symm
   have main:∀A w B vs,dq A w B (b3 m)->cj w (bg A B) B args vs->Calls P f vs.toArray w (Uq A w B r):=λA w B vs a3 ai=>by
    have nD:=ads (fn:=fn) a3 ai sy;rw[<-adr (by omega)] at nD
    cases Z:W.ap (nd P ol gl fn.ntmps co) run (r7 args 0 .e) m c none with
    |no=>rw[Z] at aP;exact absurd aP bc
    |ok x t1 ba bU d1 =>
     rw[Z] at aP;refine calls_of_wp_defers ao U (ado eb Gz hm co _ m c none _ w B _ _ Z.symm (by simp) nD λeE t2 bJ c6 d2 ck ah aB E dI=>?_)
     cases E
     cases d1 with
     |none =>
      have Uv:ck.defers=[]:=dI.vu
      cases x with
      |oc i=>exact absurd aP bc
      |k6 =>
       obtain⟨v,E,G⟩:=Ur (w:=w) (B:=B) lB aP bc dI;show Leaves P fn ck.tmps _ ck.defers .returning ah;rw[Uv];exact⟨v,E,G⟩
      |ret =>
       obtain⟨v,E,G⟩:=Ur (w:=w) (B:=B) lB aP bc dI;show Leaves P fn ck.tmps _ ck.defers .returning ah;rw[Uv];exact⟨v,E,G⟩
      |gC v =>
       intro u hu;show Leaves P fn ck.tmps _ ck.defers (.panicking [{ v:=u,recovered:=false }]) ah;rw[Uv];have Eh:r=.gC v ba bU:=aP;subst Eh;exact⟨u,aB,rfl,dI.ok,hu⟩
     |some d =>
      cases x with
      |oc i=>exact absurd aP bc
      |k6=>exact Ut (u:=none) eb hm qN lB aP bc dI trivial
      |ret=>exact Ut (u:=none) eb hm qN lB aP bc dI trivial
      |gC v =>
       intro u hu;exact Ut (u:=some u) eb hm qN lB aP bc dI hu
   cases r with
   |no=>trivial
   |ok v m' c'=>exact⟨Us qN ao U,main⟩
   |gC v m' c'=>exact⟨Us qN ao U,main⟩
  ·exact absurd M.symm bc
def adv {fH:Cc}(Fc:∀f bR,fH f=some bR->h1 P f bR)(hm:P.follows .mixedOrders=true)(qN:Fb P):∀k,r1 P (Jk P ol gl fH k)
 |0=>λf args m c=>trivial
 |k+1=>λf args m c=>by
  have h:Up P f args m (Jk P ol gl fH (k+1) f args m c):=apY Fc (adv Fc hm qN k) hm qN f args m c;generalize Jk P ol gl fH (k+1) f args m c=r at h ⊢
  cases r<;>exact h
def Cd (P:Program)(ol gl:List FuncId)(fH:Cc)(k:Nat)(f:FuncId)(args:List I):Option Data:=iF.rec none (λv m _=>c2 6 (b3 m) v) (λ_ _ _=>none) (Jk P ol gl fH k f args .e 0)
def apZ {fH:Cc}(Fc:∀f bR,fH f=some bR->h1 P f bR){f:FuncId}{k:Nat}(hm:P.follows .mixedOrders=true)(qN:Fb P){bR:List Data->Option dd}(fM:Real P f)(h:∀ds r,bR ds=some r->∃d,r=.same d/\Cd P ol gl fH k f (ds.map .L)=some d):h1 P f bR:=by
 refine⟨fM,λds r ff A w vs au ji mY=>?_⟩;obtain⟨d,rfl,bC⟩:=h ds r ff;have a3:dq A w (λ_=>none) (b3 .e):=⟨λ_ _=>rfl,λ_ _ _ _ _ h=>(by cases h),λb _ aZ=>xw b aZ,au,ji,λb _ _ aZ=>xw b aZ,λ_ _ _ h=>(by cases h)⟩;have eA:∀b,bg A (λ_=>none) b->A b:=λb h=>h.elim (λh=>(xw b h).elim) id;have bY:cj w (bg A λ_=>none) (λ_=>none) (ds.map .L) vs:=cj.L mY.1 λi d v E G=>(mY.2 i d v E G).less eA;have M:=adv (ol:=ol) (gl:=gl) Fc hm qN k f (ds.map .L) .e 0;unfold Cd at bC
 cases eb:Jk P ol gl fH k f (ds.map .L) .e 0 with
 |no=>rw[eb] at bC;cases bC
 |gC v m c=>rw[eb] at bC;cases bC
 |ok v m c =>
  rw[eb] at bC M;have ap0:c2 6 (b3 m) v=some d:=bC;refine Calls.mono (M.2 A w _ vs a3 bY) λe ah he=>?_;obtain⟨u,aB,rfl,dc,iw⟩:=he;exact⟨u,rfl,⟨dc.fs.os,dc.fs.tape,dc.fs.output,dc.fs.size,λb U _=>dc.fs.block b U (xw b)⟩,snap dc.b4 (λb U=>U) 6 v u d ap0 iw⟩
end Go.Mini
namespace Go.Mini
open Go
def Fe:List (List Data)->Option (List Int)
 | []=>some []
 | [.int .i64 n]::r=>(Fe r).map (n::·)
 |_=>none
def Uw:∀{es:List (List Data)} {l:List Int},Fe es=some l->es=l.map aH
 | [],l,h=>by
  simp only[Fe,bH] at h;subst h;rfl
 |e::r,l,h=>by
  unfold Fe at h
  split at h
  ·simp_all
  ·rename_i n C6 he;simp only[bs] at he;obtain⟨rfl,rfl⟩:=he;simp only[cO] at h;obtain⟨mz,E,rfl⟩:=h;rw[Uw E]
   rfl
  ·cases h
def N3:List Data->Option aJ
 | [.int .i64 s,.ay es,.int .i64 s2,.ay abu]=>match Fe es,Fe abu with
  |some l,some ab=>if (qK (D l) 1000&&qK (D ab) 1000)=true then some ((s,l),(s2,ab)) else none
  |_,_=>none
 |_=>none
def adw {ds:List Data}{x:aJ}(h:N3 ds=some x):ds=aS x/\x.1.2.length<=1000000/\x.2.2.length<=1000000:=by
 unfold N3 at h
 split at h
 ·split at h
  ·rename_i l ab E G
   split at h
   ·rename_i Z
    cases h;rw[dH] at Z;have ad:=qM Z.1;have aK:=qM Z.2;exact⟨by rw[Uw E,Uw G];rfl,by show (D l)<=1000000;omega,by show (D ab)<=1000000;omega⟩
   ·cases h
  ·cases h
 ·cases h
def z2 (op:aJ->aJ->aJ×Int):List Data->Option dd
 | [.agg a,.agg b]=>match N3 a,N3 b with
  |some x,some y=>some (.same (dx (op x y)))
  |_,_=>none
 |_=>none
def Ux {op:aJ->aJ->aJ×Int}{ds:List Data}{r:dd}(h:z2 op ds=some r):∃x y:aJ,ds=[.agg (aS x),.agg (aS y)]/\(x.1.2.length<=1000000/\x.2.2.length<=1000000/\y.1.2.length<=1000000/\y.2.2.length<=1000000)/\r=.same (dx (op x y)):=by
 unfold z2 at h
 split at h
 ·split at h
  ·rename_i x y E G
   cases h;obtain⟨aL,cz,dj⟩:=adw E;obtain⟨ax,cQ,dO⟩:=adw G;exact⟨x,y,by rw[aL,ax],⟨cz,dj,cQ,dO⟩,rfl⟩
  ·cases h
 ·cases h
def Uy:List Data->Option dd
 | [.int .i64 p,.int .i64 q]=>if (decide (p.natAbs<=1000000)&&decide (q.natAbs<=1000000))=true then some (.same (dx (hB (bu p) (bu q)))) else none
 |_=>none
def ap1 {ds:List Data}{r:dd}(h:Uy ds=some r):El ds=some r:=by
 unfold Uy at h
 split at h
 ·rename_i p q
  split at h
  ·rename_i Z
   cases h;simp only[dH,decide_eq_true_eq] at Z;exact amj p q ⟨by unfold er;omega,by unfold er;omega⟩
  ·cases h
 ·cases h
def ap2 {ds:List Data}{r:dd}(h:z2 iC ds=some r):zA ds=some r:=by
 obtain⟨x,y,rfl,Z,rfl⟩:=Ux h;exact amA x.1.1 x.1.2 x.2.1 x.2.2 y.1.1 y.1.2 y.2.1 y.2.2 Z
def ap3 {ds:List Data}{r:dd}(h:z2 jq ds=some r):x3 ds=some r:=by
 obtain⟨x,y,rfl,Z,rfl⟩:=Ux h;exact amD x.1.1 x.1.2 x.2.1 x.2.2 y.1.1 y.1.2 y.2.1 y.2.2 Z
def ap4 {ds:List Data}{r:dd}(h:z2 jD ds=some r):BC ds=some r:=by
 obtain⟨x,y,rfl,Z,rfl⟩:=Ux h;exact amF x.1.1 x.1.2 x.2.1 x.2.2 y.1.1 y.1.2 y.2.1 y.2.2 Z
def z3:Cc:=λf=>if f=Hr then some Uy else if f=vH then some (z2 iC) else if f=xG then some (z2 jq) else if f=DK then some (z2 jD) else none
def ap5 {P:Program}(E:h1 P Hr El)(G:h1 P vH zA)(ad:h1 P xG x3)(aK:h1 P DK BC):∀f bR,z3 f=some bR->h1 P f bR:=by
 intro f bR h;unfold z3 at h
 split at h
 ·rename_i ao;cases h;subst ao;exact⟨E.real,λds r ff=>E.run ds r (ap1 ff)⟩
 ·split at h
  ·rename_i ao;cases h;subst ao;exact⟨G.real,λds r ff=>G.run ds r (ap2 ff)⟩
  ·split at h
   ·rename_i ao;cases h;subst ao;exact⟨ad.real,λds r ff=>ad.run ds r (ap3 ff)⟩
   ·split at h
    ·rename_i ao;cases h;subst ao;exact⟨aK.real,λds r ff=>aK.run ds r (ap4 ff)⟩
    ·cases h
end Go.Mini
namespace Go.Mini
open Go
variable {P:Program} {A:Nat->Prop} {w ah:World} {B aB:cG} {mem mem':Mem}
def Jl (N:List I->Mem->Option Data)(args:List I)(mem:Mem):Option fR:=(N args mem).map λd => .rel (xz (.L d) mem)
@[go_sem] def aAh (N:List I->Mem->Option Data)(args:List I)(mem:Mem):Jl N args mem=(N args mem).map λd => .rel (xz (.L d) mem):=bj
def ap6 {T : bl}{kb : Nat}{own : List Nat}(cp : mX P T)(hm : P.follows .mixedOrders = true){f : FuncId}{fn : Func}{mf : bQ}(ao : P.funcs[f]? = some fn)(tO : (fn.name == "runtime.NumGoroutine") = false)(aA : ps P kb own fn = some { mf with body := erase mf.body })
  (cB:Key->Prop) {N:List I->Mem->Option Data}
  (h:∀args mem d,N args mem=some d->(D args)<=mf.n/\(∀j,cB j->mem j=none) /\
   wp T mf.body (uj mf.res λm mem'=>c2 6 emp m=some d/\∀j,¬ cB j->mem' j=mem j) ⟨j5 args,mem⟩):m9 P f (Jl N):=by
 refine⟨S3 ao tO aA,λargs mem nq eB A w B vs a3 ai=>?_⟩;unfold Jl at eB;rw[cO] at eB;obtain⟨d,S5,rfl⟩:=eB;obtain⟨hlen,uk,xx⟩:=h args mem d S5;refine Calls.mono (Hb (Post:=λm mem'=>c2 6 emp m=some d/\∀j,¬ cB j->mem' j=mem j) cp hm ao aA hlen (λe st Q=>S2 Q) xx a3 ai) λe ah he=>?_;obtain⟨v,m,mem',aB,rfl,R,j6,ae,gw⟩:=he;exact⟨v,.L d,mem,rS cB aB,rfl,R.drop a3 uk uk (λj aa=>(gw j aa).symm) (λk g cs Q m hm => .inr ⟨k,g,cs,Q,hm⟩),.L ((QG 6 m v d ae j6).less λb U=>U.imp BI id),rfl,rfl⟩
def ap7 (W:List I->Mem->Option (Data×Key))(args:List I)(mem:Mem):Option fR:=(W args mem).map λx => .w5 x.1 x.2
@[go_sem] def aAi (W:List I->Mem->Option (Data×Key))(args:List I)(mem:Mem):ap7 W args mem=(W args mem).map λx => .w5 x.1 x.2:=bj
open Classical in
def Jm {α:Type}(a4:α->List I->Mem->Prop)(res:α->Data):List I->Mem->Option Data:=λargs mem=>if h:∃a,a4 a args mem then some (res (Classical.choose h)) else none
def ap8 {α:Type}{a4:α->List I->Mem->Prop}{res:α->Data}(uniq:∀a b args mem,a4 a args mem->a4 b args mem->res a=res b){a:α}{args:List I}{mem:Mem}(h:a4 a args mem):Jm a4 res args mem=some (res a):=by
 have J:∃b,a4 b args mem:=⟨a,h⟩;unfold Jm;rw[dif_pos J,uniq _ _ _ _ (rn J) h]
def ap9 {α:Type}{a4:α->List I->Mem->Prop}{res:α->Data}{args:List I}{mem:Mem}{d:Data}(h:Jm a4 res args mem=some d):∃a,a4 a args mem/\d=res a:=by
 unfold Jm at h
 split at h
 ·rename_i J;exact⟨_,rn J,(mT h).symm⟩
 ·cases h
def adx {K:a1->Prop}{st:a1}{x:bm}{i kc gc off k g sz o len:Nat}{cc cs:List I}{d:Data}(E:aI st.tm x=.ptr kc gc off)(G:st.mem kc=some (gc,cc))(ad:cc[off+i]?=some (.ref k g sz o len))(aK:st.mem k=some (g,cs))(bp:q3 cs=true)(bD:k≠kc)(bL:c2 1 st.mem (.ref k g sz o len)=some d)
  (h:K ⟨st.tm,aV (kill st.mem k) kc gc (cc.set (off+i) (.L d))⟩):mM K st (.F7 x i):=by
 simp only[mM,E,G,if_true,ad,aK];rw[aq ⟨trivial,bp,bD⟩,bL];exact h
def eQ (n:Nat)(mem m:Mem):Prop:=∀k,k/1000≠n->m k=mem k
def eQ.refl (n:Nat)(mem:Mem):eQ n mem mem:=λ_ _=>rfl
def eQ.eM {n k g:Nat}{cs:List I}{mem m:Mem}(h:eQ n mem m)(Q:k/1000=n):eQ n mem (aV m k g cs):=λj aa=>by
 have:j≠k:=λe=>aa (by rw[e];exact Q);simp only[aV,this,if_false];exact h j aa
def eQ.kill {n k:Nat}{mem m:Mem}(h:eQ n mem m)(Q:k/1000=n):eQ n mem (kill m k):=h.eM Q
def eQ.at {n:Nat}{mem m:Mem}(h:eQ n mem m)(k:Nat)(Q:k/1000≠n):m k=mem k:=h k Q
def N4 (n:Nat)(mem:Mem):Prop:=∀k,k/1000=n->mem k=none
def N4.fs {n I7:Nat}{mem m:Mem}(h:N4 n mem)(ao:eQ I7 mem m)(aE:n≠I7):N4 n m:=λk Q=>by rw[ao k (by omega)];exact h k Q
end Go.Mini
namespace Go.Mini
open Go Go.Proofs
def mixed:Tryz.prog.follows .mixedOrders=true:=by kernel_rfl
abbrev cd:=h1 Tryz.prog
def aqa (mf : bQ)(kb : Nat)(own : List Nat){α : Type}{args : α -> List Data}{res : α -> Option dd}{l : List (FuncId × (List Data -> Option dd))}{e : List (FuncId × (List I -> Mem -> Option fR))}(af : ∀ p ∈ l, h1 Tryz.prog p.1 p.2)(he : ∀ p ∈ e, m9 Tryz.prog p.1 p.2){f : FuncId}{fn : Func}(ao : Tryz.prog.funcs[f]? = some fn)(h : ∀ a, LG (res a) fun r => qK (args a).length mf.n = true /\ wp (rT (Dz l) (Ex e)) mf.body (tN mf.res r) ⟨j5 ((args a).map .L), emp⟩)(aE : (fn.name == "runtime.NumGoroutine", ps Tryz.prog kb own fn) = (false, some { mf with body := erase mf.body }) := by kernel_rfl): cd f (b1 args res) := Yf (zH (y8 af) (zI he)) mixed ao (congrArg wc aE) (congrArg Prod.snd aE) fun ds r M => by
 obtain⟨a,rfl,G⟩:=Yn M;have ad:=h a;rw[G] at ad;exact⟨qM ad.1,ad.2⟩
def aAj (mf : bQ)(kb : Nat)(own : List Nat){α : Type}{args : α -> List Data}{res : α -> Option dd}{l : List (FuncId × (List Data -> Option dd))}(af : ∀ p ∈ l, h1 Tryz.prog p.1 p.2){f : FuncId}{fn : Func}(ao : Tryz.prog.funcs[f]? = some fn)(h : ∀ a, LG (res a) fun r => qK (args a).length mf.n = true /\ wp (rT (Dz l) (Ex [])) mf.body (tN mf.res r) ⟨j5 ((args a).map .L), emp⟩)(aE : (fn.name == "runtime.NumGoroutine", ps Tryz.prog kb own fn) = (false, some { mf with body := erase mf.body }) := by kernel_rfl): cd f (b1 args res) := aqa mf kb own af n9 ao h aE
def wH (kb : Nat)(own : List Nat){l : List (FuncId × (List Data -> Option dd))}{e : List (FuncId × (List I -> Mem -> Option fR))}(af : ∀ p ∈ l, h1 Tryz.prog p.1 p.2)(he : ∀ p ∈ e, m9 Tryz.prog p.1 p.2){f : FuncId}{fn : Func}(ao : Tryz.prog.funcs[f]? = some fn){mf : bQ}{bR : List Data -> Option dd}(h : WF (rT (Dz l) (Ex e)) mf bR)(aE : (fn.name == "runtime.NumGoroutine", ps Tryz.prog kb own fn) = (false, some { mf with body := erase mf.body }) := by kernel_rfl): cd f bR := Yf (zH (y8 af) (zI he)) mixed ao (congrArg wc aE) (congrArg Prod.snd aE) fun ds r M => by
 obtain⟨ad,aK⟩:=h ds r M;rw[ajX] at aK;exact⟨qM ad,aK⟩
def cM (kb : Nat)(own : List Nat){l : List (FuncId × (List Data -> Option dd))}(af : ∀ p ∈ l, h1 Tryz.prog p.1 p.2){f : FuncId}{fn : Func}(ao : Tryz.prog.funcs[f]? = some fn){mf : bQ}{bR : List Data -> Option dd}(h : WF (rT (Dz l) (Ex [])) mf bR)(aE : (fn.name == "runtime.NumGoroutine", ps Tryz.prog kb own fn) = (false, some { mf with body := erase mf.body }) := by kernel_rfl): cd f bR := wH kb own af n9 ao h aE
def bf {fH:FuncId->Option (List Data->Option dd)}{qF:FuncId->Option (List I->Mem->Option fR)}{f:FuncId}{bR:List Data->Option dd}(E:qF f=none:=by rfl)(G:fH f=some bR:=by rfl):rT fH qF f=aT bR:=x6 E G
def Ff:cd oJ vM:=cM 177000 [] b7 Tryz.func200 (akA _)
def Fg:m9 Tryz.prog oJ (y9 sL):=Hn.abx (YB (mf:=DP) (kb:=177000) (own:=[]) (zH (y8 b7) (zI n9)) mixed Tryz.func200 (by kernel_rfl) (by kernel_rfl) λargs mem x h=>by
 obtain⟨a,⟨rfl,hm,af⟩,rfl⟩:=Q3 h;exact⟨qM rfl,akB _ a.l a.k a.g mem hm af⟩)
def aqb:cd LW Ma:=cM 184000 [] b7 Tryz.func202 (akC _)
def ady:cd DM HK:=cM 174000 [] (a2 aqb b7) Tryz.func141 (akD _ bf)
def aqc:cd Ro Md:=cM 179000 [] b7 Tryz.func205 (akG _)
def N5:cd vJ zg:=cM 156000 [5] b7 Tryz.func94 (akI _)
def yl:cd jS sM:=cM 136000 [] b7 Tryz.func134 (akJ _)
def Fh:cd nu xL:=wH 158000 [] (a2 Ff b7) (um Fg n9) Tryz.func138 (akL _ (Ew rfl rfl))
def Uz:cd A7 DT:=cM 175000 [] (a2 ady b7) Tryz.func142 (akO _ bf)
def adz:cd Hy HM:=wH 172000 [] (a2 Ff b7) (um Fg n9) Tryz.func139 (akP _ (Ew rfl rfl))
def adA:cd DL HN:=wH 173000 [10] (a2 N5 (a2 Ff b7)) (um Fg n9) Tryz.func140 (akR _ bf (Ew rfl rfl))
def adB:cd DJ HO:=wH 161000 [] (a2 Ff b7) (um Fg n9) Tryz.func148 (akU _ (Ew rfl rfl))
def aqd:cd LV Mf:=wH 176000 [] (a2 Ff b7) (um Fg n9) Tryz.func199 (akW _ (Ew rfl rfl))
def aqe:m9 Tryz.prog Rn (y9 HU):=Hn.abx (YB (mf:=L6) (kb:=178000) (own:=[]) (zH (y8 b7) (zI n9)) mixed Tryz.func201 (by kernel_rfl) (by kernel_rfl) λargs mem x h=>by
 obtain⟨a,⟨rfl,Z⟩,rfl⟩:=Q3 h;exact⟨qM rfl,ak4 _ a mem Z⟩)
def adC:cd Hv H0:=wH 157000 [54] (a2 Uz (a2 N5 (a2 aqd (a2 Ff (a2 adB b7))))) (um Fg (um aqe n9)) Tryz.func137 (alh _ bf bf bf (Ew rfl rfl) bf (Iz rfl rfl))
def UA:cd sJ Ea:=cM 155000 [] b7 Tryz.func147 (alU _)
def adD:cd DI Ia:=cM 152000 [] (a2 yl (a2 N5 (a2 Fh b7))) Tryz.func206 (alV _ bf bf bf)
def N6:cd sI Br:=cM 140000 [] (a2 yl (a2 adB (a2 Fh (a2 UA b7)))) Tryz.func72 (alW _ bf bf bf bf)
def aqf:cd Rl Ms:=cM 160000 [] (a2 yl (a2 aqc (a2 adz (a2 adA (a2 Uz (a2 Fh (a2 UA b7))))))) Tryz.func146 (alX _ bf bf bf bf bf bf bf)
def aqg:cd Rj Mu:=cM 154000 [] (a2 yl (a2 ady (a2 Uz b7))) Tryz.func69 (al0 _ bf bf bf)
def adE:cd Hs Ic:=cM 137000 [] (a2 yl (a2 N5 (a2 adC (a2 Fh (a2 UA b7))))) Tryz.func135 (al1 _ bf bf bf bf bf)
def adF:cd A6 Ii:=cM 153000 [] (a2 yl (a2 adC (a2 adz (a2 adA (a2 Fh b7))))) Tryz.func68 (al2 _ bf bf bf bf bf)
def aqh:cd LR Mx:=cM 150000 [] (a2 Fh b7) Tryz.func185 (al7 _ bf)
def aqi:cd Rk My:=cM 159000 [] (a2 yl b7) Tryz.func198 (ama _ bf)
def aqj:cd Rd MC:=cM 138000 [] (a2 aqi b7) Tryz.func136 (amg _ bf)
def z4:cd lG uf:=cM 116000 [] (a2 yl (a2 adE (a2 aqj b7))) Tryz.func67 (amh _ bf bf bf)
def adG:cd Hu Io:=cM 149000 [] (a2 yl (a2 adD (a2 adE (a2 adF b7)))) Tryz.func149 (ami _ bf bf bf bf)
def adH:cd Hr El:=cM 130000 [] (a2 aqh (a2 adG b7)) Tryz.func109 (amk _ bf bf)
def aqk:cd Re MH:=cM 139000 [] (a2 N6 (a2 aqf b7)) Tryz.func71 (amw _ bf bf)
def UB:cd A5 Em:=cM 141000 [] (a2 adG b7) Tryz.func73 (amy _ bf)
def N7:cd vH zA:=cM 119000 [] (a2 z4 (a2 aqk (a2 N6 (a2 UB b7)))) Tryz.func22 (amB _ bf bf bf bf)
def adI:cd A4 BB:=cM 132000 [] (a2 z4 (a2 adD (a2 N7 b7))) Tryz.func157 (amC _ bf bf bf)
def UC:cd xG x3:=cM 134000 [] (a2 z4 (a2 N6 (a2 UB b7))) Tryz.func38 (amE _ bf bf bf)
def adJ:cd DK BC:=cM 169000 [] (a2 z4 (a2 N6 (a2 UB b7))) Tryz.func113 (amG _ bf bf bf)
def UD:cd rz zF:=cM 135000 [] (a2 z4 (a2 adF (a2 aqg b7))) Tryz.func20 (amN _ bf bf bf)
end Go.Mini
namespace Go.Mini
open Go Go.Proofs
def aql:∀f bR,z3 f=some bR->h1 Tryz.prog f bR:=ap5 adH N7 UC adJ
def aqm : (Tryz.prog.funcs.all fun fn => !(fn.name == "runtime.NumGoroutine")) = true := by kernel_rfl
def aqn:Fb Tryz.prog:=λf fn h=>by
 have:=(Array.all_eq_true'.1 aqm) fn (Array.mem_of_getElem? h)
 simpa using this
def adK:Real Tryz.prog n0:=⟨Tryz.f39,_,Tryz.func39,rfl,by kernel_rfl⟩
def N8 (s:List UInt8)(d:Data)(h:Cd Tryz.prog [45] [169,239,48,50] z3 1000 n0 [.L (.str s)]=some d):h1 Tryz.prog n0 (λds=>@ite _ (ds=[.str s]) (Classical.propDecidable _) (some (.same d)) none) :=
 apZ (ol:=[45]) (gl:=[169,239,48,50]) aql mixed aqn adK λds r M=>by
  split at M
  ·rename_i e;subst e
   cases M;exact⟨d,rfl,h⟩
  ·cases M
end Go.Mini
namespace Go.Mini
open Go
def tg (x:List aJ)(l:b0)(s:aJ×Bool):aJ×Bool :=
 ((iC s.1 (jq l.2.2 (x.getD l.1.toNat bK)).1).1,s.2&&(((jq l.2.2 (x.getD l.1.toNat bK)).2==0)&&((iC s.1 (jq l.2.2 (x.getD l.1.toNat bK)).1).2==0)))
def z5 (l:b0):List I:=.L (.int .i64 l.1) :: .L (.int .i64 l.2.1)::lP l.2.2
structure Jn where
 l:b0
 x:List aJ
 s:aJ×Bool
def UE (a:Jn)(mem:Mem):Prop:=mem 396006=some (0,[.L (.ay (a.x.map aS))])/\mem 396004=some (0,lP a.s.1)/\mem 396010=some (0,[.L (.bool a.s.2)])/\okF a.l.2.2/\iE a.x/\okF a.s.1/\0<=a.l.1/\a.l.1<D a.x
def Fi (a:Jn)(mem:Mem):I->Mem->Prop:=λ_ mem'=>mem' 396004=some (0,lP (tg a.x a.l a.s).1)/\mem' 396010=some (0,[.L (.bool (tg a.x a.l a.s).2)])/\∀k:Nat,k/1000≠397->k≠396004->k≠396010->mem' k=mem k
def adL {f g:aJ}(h:lP f=lP g):f=g:=by
 obtain⟨⟨a,b⟩,⟨c,d⟩⟩:=f;obtain⟨⟨ck,dA⟩,⟨c',pz⟩⟩:=g;simp only[lP,bs,I.L.injEq,Data.int.injEq,Data.ay.injEq,true_and,and_true] at h;obtain⟨rfl,E,rfl,G⟩:=h;rw[map_inj fi _ _ E,map_inj fi _ _ G]
def aqo {a b:b0}(h:z5 a=z5 b):a=b:=by
 obtain⟨x,y,w⟩:=a;obtain⟨eE,y',ah⟩:=b;simp only[z5,bs,I.L.injEq,Data.int.injEq,true_and] at h;obtain⟨rfl,rfl,h⟩:=h;rw[adL h]
def Jo:List I->Mem->Option (I->Mem->Prop):=Ey (λ(a:Jn) args mem=>args=[.agg (z5 a.l),.ptr 396006 0 0,.ptr 396004 0 0,.ptr 396010 0 0]/\UE a mem) Fi
def aqp (a:Jn)(mem:Mem)(h:UE a mem):Jo [.agg (z5 a.l),.ptr 396006 0 0,.ptr 396004 0 0,.ptr 396010 0 0] mem=some (Fi a mem):=by
 unfold Jo;refine aby (a:=a) ?_ ⟨rfl,h⟩;rintro a b args mem ⟨E,G,ad,aK,_⟩ ⟨cP,e0,c9,ym,_⟩;rw[E] at cP;rw[G] at e0;rw[ad] at c9;rw[aK] at ym;simp only[bs,I.agg.injEq,and_true,I.L.injEq,Data.ay.injEq,Data.bool.injEq,bH,ei,true_and] at cP e0 c9 ym;obtain⟨l,x,s,f⟩:=a;obtain⟨mz,eE,yT,zQ⟩:=b;dsimp only at *;rw[aqo cP,map_inj m8 _ _ e0,adL c9,ym]
def aqq (T:bl)(zK:T xG=aT x3)(jr:T vH=aT zA)(a:Jn)(gG:Mem)(h:UE a gG):
  wp T MQ.body (uj MQ.res (Fi a gG)) ⟨j5 [.agg (z5 a.l),.ptr 396006 0 0,.ptr 396004 0 0,.ptr 396010 0 0],gG⟩:=by
 obtain⟨bD,aK,kA,aZ,J,R,lx,aE⟩:=h;obtain⟨⟨f,t,⟨w1,gi⟩,⟨cW,h9⟩⟩,x,⟨⟨s1,s2⟩,⟨cv,cD⟩⟩,UF⟩:=a;dsimp only at *;obtain⟨i,rfl⟩:=UG lx;have au:i<D x:=by omega
 obtain⟨⟨⟨e9,fy⟩,⟨g6,iR⟩⟩,jt⟩:∃f,x[i]?=some f:=⟨_,bB au⟩;have km:=J.2 _ (du jt);have ra:x.getD i bK=((e9,fy),(g6,iR)):=by rw[eF,jt];rfl
 unfold Fi tg;dsimp only;rw[pJ,ra];have tb:=Tb ((w1,gi),(cW,h9)) ((e9,fy),(g6,iR));generalize h6:jq ((w1,gi),(cW,h9)) ((e9,fy),(g6,iR))=a4 at *;obtain⟨⟨⟨j7,hp⟩,⟨yb,EJ⟩⟩,aL⟩:=a4;dsimp only at tb ⊢;generalize cm:iC ((s1,s2),(cv,cD)) ((j7,hp),(yb,EJ))=S at *;obtain⟨⟨⟨v1,v2⟩,⟨hr,v4⟩⟩,ax⟩:=S;dsimp only;simp only[lP] at aK;refine yU ?_;simp only[MQ];rcases UF
 ·rcases tl:(aL==0)<;>rcases dF:(ax==0) <;>
  (
   refine an ?_;repeat' (intro (aw:_=_)<;>simp only[aw,go_sem,go_sem_proc,zK,jr,bD,aK,kA,jt,h6,cm,aZ.1,aZ.2,km.1,km.2,R.1,R.2,tb.1,tb.2,tl,dF,z5,lP,dx,aS,az,bG]<;>try refine aj ?_ ?_)
   refine⟨_,rfl,?_⟩;intro k Q E G;have uJ:∀(j:Nat),j/1000=397->k≠j:=λj G h=>Q (h ▸ G);rw[ar E,ar G,ar (uJ 397007 (by decide)),ar (uJ 397007 (by decide)),ar (uJ 397005 (by decide)),ar (uJ 397005 (by decide)),ar (uJ 397004 (by decide))])
 ·rcases tl:(aL==0)<;>rcases dF:(ax==0) <;>
  (
   refine an ?_;repeat' (intro (aw:_=_)<;>simp only[aw,go_sem,go_sem_proc,zK,jr,bD,aK,kA,jt,h6,cm,aZ.1,aZ.2,km.1,km.2,R.1,R.2,tb.1,tb.2,tl,dF,z5,lP,dx,aS,az,bG]<;>try refine aj ?_ ?_)
   refine⟨_,rfl,?_⟩;intro k Q E G;have uJ:∀(j:Nat),j/1000=397->k≠j:=λj G h=>Q (h ▸ G);rw[ar E,ar G,ar (uJ 397007 (by decide)),ar (uJ 397007 (by decide)),ar (uJ 397005 (by decide)),ar (uJ 397005 (by decide)),ar (uJ 397004 (by decide))])
def o7 (x:List aJ)(to:Int):List b0->aJ×Bool->aJ×Bool
 | [],s=>s
 |l::r,s=>o7 x to r (if ((l.2.1==to)&&s.2)=true then tg x l s else s)
def og (base:aJ)(ls:List b0)(x:List aJ)(to:Int):aJ×Bool:=o7 x to ls (base,true)
def adM (base:aJ)(ls:List b0)(x:List aJ)(to:Int):Prop:=okF base/\uB ls/\iE x/\∀l∈ls,l.2.1=to->0<=l.1/\l.1<D x
def adN (x:List aJ)(l:b0)(s:aJ×Bool):okF (tg x l s).1:=IC _ _
abbrev Fj:Int×(List Int)×Int×(List Int)×(List b0)×(List aJ)×Int->List Data:=λ(s,l,s2,ab,ls,x,to)=>[.agg [.int .i64 s,.ay (l.map aH),.int .i64 s2,.ay (ab.map aH)],.ay (ls.map hl),.ay (x.map aS),.int .i64 to]
def Jp:=b1 Fj λ(s,l,s2,ab,ls,x,to)=>cu (adM ((s,l),(s2,ab)) ls x to) (.same (.de [.agg (aS (og ((s,l),(s2,ab)) ls x to).1),.bool (og ((s,l),(s2,ab)) ls x to).2]))
def adO:∀a b,Fj a=Fj b->a=b:=by
  rintro⟨s1,ig,rM,qz,BU,e9,aqr⟩ ⟨s2,ab,rN,qA,BV,fy,aqs⟩ h;simp only[bs,Data.agg.injEq,Data.int.injEq,Data.ay.injEq] at h;exact cy h.1.1.2 (cy (map_inj fi _ _ h.1.2.1) (cy h.1.2.2.1.2 (cy (map_inj fi _ _ h.1.2.2.2.1) (cy (map_inj yf _ _ h.2.1) (cy (map_inj m8 _ _ h.2.2.1) h.2.2.2.1.2)))))
@[go_sem] def adP (s l s2 ab ls x to):=cL Jp rfl adO (s,l,s2,ab,ls,x,to) rfl
def aqt (T:bl)(wI:T Rv=BH Jo):WF T aa9 Jp:=by
 refine cq λ(s,l,s2,ab,ls,x,to)=>cR λZ=>⟨rfl,cr ?_⟩;simp only[aa9,Fj,b8];obtain⟨aZ,⟨Fk,fZ⟩,J,ga⟩:=Z;unfold og;simp only[go_sem,go_sem_proc,wI,az]
 refine dM [3,4,8,10,11,15,16] [396006,396008] (λ((i,f,b):Nat×aJ×Bool) tm m=>i<=D ls/\okF f/\o7 x to ls (((s,l),(s2,ab)),true)=o7 x to (ls.drop i) (f,b)/\tm 17=.L (.int .i64 i)/\m 396004=some (0,lP f)/\m 396010=some (0,[.L (.bool b)])) (λ(i,_)=>D ls-i) (0,((s,l),(s2,ab)),true) (by
  refine⟨eL _,aZ,rfl,rfl,?_,?_⟩
  ·simp[aV,lP]
  ·simp[aV]) ?_
 intro vs ms a7 aY;simp only[go_sem,go_sem_proc,wI,az] at a7 aY;subst a7 aY;rintro⟨i,f,b⟩ tm m Q hm ⟨O,ao,bk,mG,h5,nf⟩;simp only[go_sem,go_sem_proc,wI,bs] at Q hm;obtain⟨c9,ym,eH,l7,fa,Jq,Jr⟩:=Q;obtain⟨s5,lN⟩:=hm;rcases eC (i<D ls) with au|bO
 ·obtain⟨⟨a,c,⟨w1,gi⟩,⟨cW,h9⟩⟩,fv⟩:∃l,ls[i]?=some l:=⟨_,bB au⟩;have uK:=fZ _ (du fv);have x9:=ga _ (du fv);dsimp only at uK x9
  have oS:ls.drop i=(a,c,((w1,gi),(cW,h9)))::ls.drop (i+1):=by
   obtain⟨af,e⟩:=dn.1 fv;rw[fY af,e]
  rw[oS] at bk;simp only[o7] at bk;have d1:decide ((i:Int)<(D ls:Int))=true:=dW;have r8:=h4 (i:=i) (by omega);rcases kM:(c==to)
  ·rw[kM] at bk;simp only[e1,df,if_false] at bk;refine an ?_;repeat' (intro h<;>simp only[h,go_sem,go_sem_proc,wI,c9,ym,eH,l7,fa,Jq,Jr,mG,h5,s5,lN,nf,fv,d1,r8,kM,hl,aS,az,bG]<;>try refine aj ?_ ?_)
   exact⟨(i+1,f,b),by dsimp only;omega,by dsimp only;omega,ao,bk,rfl,rfl,rfl⟩
  ·rw[kM] at bk;rcases b
   ·simp only[h2,df,if_false] at bk;refine an ?_;repeat' (intro h<;>simp only[h,go_sem,go_sem_proc,wI,c9,ym,eH,l7,fa,Jq,Jr,mG,h5,s5,lN,nf,fv,d1,r8,kM,hl,aS,az,bG]<;>try refine aj ?_ ?_)
    exact⟨(i+1,f,false),by dsimp only;omega,by dsimp only;omega,ao,bk,rfl,rfl,rfl⟩
   ·simp only[Bool.and_self,if_true] at bk;have Js:c=to:=by simpa using kM
    obtain⟨Jt,hb⟩:=x9 Js
    have eO:∀mem:Mem,mem 396006=m 396006->mem 396004=m 396004->mem 396010=m 396010->Jo [.agg [.L (.int .i64 a),.L (.int .i64 c),.L (.int .i64 w1),.L (.ay (gi.map aH)),.L (.int .i64 cW),.L (.ay (h9.map aH))],.ptr 396006 0 0,.ptr 396004 0 0,.ptr 396010 0 0] mem=some (Fi ⟨(a,c,((w1,gi),(cW,h9))),x,(f,true)⟩ mem):=λmem aL ax eo =>
     aqp ⟨(a,c,((w1,gi),(cW,h9))),x,(f,true)⟩ mem ⟨aL.trans s5,ax.trans h5,eo.trans nf,uK,J,ao,Jt,hb⟩
    have uz:=adN x (a,c,((w1,gi),(cW,h9))) (f,true);generalize dc:tg x (a,c,((w1,gi),(cW,h9))) (f,true)=S at *;simp only[go_sem,go_sem_proc,wI,c9,ym,eH,l7,fa,Jq,Jr,mG,h5,s5,lN,nf,fv,d1,r8,kM,hl,aS,az,bG];rw[eO _ (by simp[aV]) (by simp[aV]) (by simp[aV])];simp only[go_sem,go_sem_proc,wI];intro zT m' ew;unfold Fi at ew;dsimp only at ew;rw[dc] at ew;obtain⟨Ce,aqu,Fl⟩:=ew;have Cf:=Fl 396006 (by decide) (by decide) (by decide);have r9:=Fl 396008 (by decide) (by decide) (by decide);simp only[go_sem,go_sem_proc,wI] at Cf r9;refine an ?_;repeat' (intro h<;>simp only[h,go_sem,go_sem_proc,wI,c9,ym,eH,l7,fa,Jq,Jr,mG,s5,lN,Ce,Cf,r9,aqu,r8]<;>try refine aj ?_ ?_)
    exact⟨(i+1,S.1,S.2),by dsimp only;omega,by dsimp only;omega,uz,bk,rfl,rfl,rfl⟩
 ·have d1:decide ((i:Int)<(D ls:Int))=false:=ef;have jn:ls.drop i=[]:=lq (by omega);rw[jn] at bk;rw[bk];simp only[o7];obtain⟨⟨f1,f2⟩,⟨f3,f4⟩⟩:=f;simp only[lP] at h5;refine an ?_;repeat' (intro h<;>simp only[h,go_sem,go_sem_proc,wI,c9,ym,eH,l7,fa,Jq,Jr,mG,h5,s5,lN,nf,d1,aS,az]<;>try refine aj ?_ ?_)
def nM:aJ:=bW ((0:Int):Rat)
def o8:aJ:=bW ((1:Int):Rat)
def adQ {n:Int}(h:n.natAbs<=1):ed ((n:Int):Rat):=by
 refine⟨?_,?_⟩
 ·rw[Rat.num_intCast];exact vS h (by unfold da;exact adR (by omega) (by omega))
 ·rw[Rat.den_intCast];unfold da;exact adR (by omega) (by omega)
def N9:okF nM:=S9 (adQ (by decide))
def UH:okF o8:=S9 (adQ (by decide))
def pY (to:Int):List b0->List aJ->List aJ×Bool
 | [],A=>(A,true)
 |l::r,A=>if (l.2.1==to)=true then (if ((nF (A.getD l.1.toNat bK) l.2.2).2==0)=true then pY to r (A.set l.1.toNat (nF (A.getD l.1.toNat bK) l.2.2).1) else ([],false)) else pY to r A
def sa (n to:Nat):List aJ:=(cK n nM).set to o8
def qO (v:aJ)(ls:List b0)(n to:Nat):ej×Bool:=if (pY to ls (sa n to)).2=true then (((pY to ls (sa n to)).1,v),true) else (([],bK),false)
def aqv (v:aJ)(ls:List b0)(n to:Nat):Prop:=okF v/\uB ls/\n<=40/\to<n/\∀l∈ls,l.2.1=to->0<=l.1/\l.1<n
abbrev Oa:Int×(List Int)×Int×(List Int)×(List b0)×Nat×Nat->List Data:=λ(s,l,s2,ab,ls,n,to)=>[.agg [.int .i64 s,.ay (l.map aH),.int .i64 s2,.ay (ab.map aH)],.ay (ls.map hl),.int .i64 n,.int .i64 to]
def Ju:=b1 Oa λ(s,l,s2,ab,ls,n,to)=>cu (aqv ((s,l),(s2,ab)) ls n to) (.same (.de [.agg (kH (qO ((s,l),(s2,ab)) ls n to).1),.bool (qO ((s,l),(s2,ab)) ls n to).2]))
def aqw:∀a b,Oa a=Oa b->a=b:=by
  rintro⟨s1,ig,rM,qz,BU,pA,aqr⟩ ⟨s2,ab,rN,qA,BV,sE,aqs⟩ h;simp only[bs,Data.agg.injEq,Data.int.injEq,Data.ay.injEq] at h;exact cy h.1.1.2 (cy (map_inj fi _ _ h.1.2.1) (cy h.1.2.2.1.2 (cy (map_inj fi _ _ h.1.2.2.2.1) (cy (map_inj yf _ _ h.2.1) (cy (by have:=h.2.2.1.2;dsimp only;omega) (by have:=h.2.2.2.1.2;dsimp only;omega))))))
@[go_sem] def UI (s l s2 ab ls n to):=cL Ju rfl aqw (s,l,s2,ab,ls,n,to) rfl
def aqx (T:bl)(jv:T vK=aT EX)(oh:T DG=aT IX)(rU:T A4=aT BB):WF T aa8 Ju:=by
 refine cq λ(s,l,s2,ab,ls,n,to)=>cR λZ=>⟨rfl,cr ?_⟩;simp only[aa8,Oa,b8];obtain⟨aZ,⟨Fk,fZ⟩,aE,UJ,ga⟩:=Z;have aQ:=I2 0 (by unfold er;omega);have E:=I2 1 (by unfold er;omega);rw[show bW ((0:Int):Rat)=nM from rfl] at aQ;rw[show bW ((1:Int):Rat)=o8 from rfl] at E;have UK:=N9;have Jv:=UH;have UL:sa n to=(cK n nM).set to o8:=rfl;generalize nM=Fm at *;generalize o8=av at *;obtain⟨⟨hO,iQ⟩,⟨yn,yo⟩⟩:=Fm;obtain⟨⟨sb,uL⟩,⟨wJ,wK⟩⟩:=av;simp only[aS] at aQ E;have qe:=acs hO iQ yn yo n (by omega)
 have ix:(cK n (aS ((hO,iQ),(yn,yo)))).flatten.map I.L=a6 aS (cK n ((hO,iQ),(yn,yo))):=by
  unfold a6;rw[BR]
 have t1:=ya (l:=cK n ((hO,iQ),(yn,yo))) (k:=to) (by rw[nJ];exact UJ);have t2:=ED (l:=cK n ((hO,iQ),(yn,yo))) (k:=to) (by rw[nJ];exact UJ) sb uL wJ wK;rw[<-UL] at t2;have wz:(sa n to).length=n:=by rw[UL,fN,nJ]
 have Tu:∀f∈sa n to,okF f:=λf ao=>by
  rw[UL] at ao;rcases n8 ao with ao|rfl
  ·rw[vU] at ao;rw[ao.2];exact UK
  ·exact Jv
 unfold qO;generalize sa n to=adS at *;simp only[go_sem,go_sem_proc,jv,oh,rU,aQ,E,qe,ix,t1,t2,UJ,az,nJ]
 refine dM [3,8,10,26,27] [395004,395008] (λ((i,A):Nat×List aJ) tm m=>i<=D ls/\D A=n/\(∀f∈A,okF f)/\pY to ls adS=pY to (ls.drop i) A/\tm 28=.L (.int .i64 i)/\m 395010=some (0,.ref 395018 0 4 0 n::lP ((s,l),(s2,ab)))/\m 395018=some (0,a6 aS A)) (λ(i,_)=>D ls-i) (0,adS) (by
  refine⟨eL _,wz,Tu,rfl,rfl,?_,?_⟩
  ·simp[aV,lP]
  ·simp[aV]) ?_
 intro vs ms a7 aY;simp only[go_sem,go_sem_proc,jv,oh,rU,az] at a7 aY;subst a7 aY;rintro⟨i,A⟩ tm m Q hm ⟨O,UM,Cg,bk,z6,nf,Jw⟩;simp only[go_sem,go_sem_proc,jv,oh,rU,bs] at Q hm;obtain⟨c9,eH,l7,yp,Ob⟩:=Q;obtain⟨h5,lN⟩:=hm;simp only[lP] at nf;rcases eC (i<D ls) with au|bO
 ·obtain⟨⟨a,c,⟨w1,gi⟩,⟨cW,h9⟩⟩,fv⟩:∃l,ls[i]?=some l:=⟨_,bB au⟩;have uK:=fZ _ (du fv);have x9:=ga _ (du fv);dsimp only at uK x9
  have oS:ls.drop i=(a,c,((w1,gi),(cW,h9)))::ls.drop (i+1):=by
   obtain⟨af,e⟩:=dn.1 fv;rw[fY af,e]
  rw[oS] at bk;simp only[pY] at bk;have d1:decide ((i:Int)<(D ls:Int))=true:=dW;have r8:=h4 (i:=i) (by omega);rcases kM:(c==(to:Int))
  ·rw[kM] at bk;simp only[df,if_false] at bk;refine an ?_;repeat' (intro h<;>simp only[h,go_sem,go_sem_proc,jv,oh,rU,c9,eH,l7,yp,Ob,z6,h5,lN,nf,Jw,fv,d1,r8,kM,hl,aS,az,bG]<;>try refine aj ?_ ?_)
   exact⟨(i+1,A),by dsimp only;omega,by dsimp only;omega,UM,Cg,bk,rfl,rfl,rfl⟩
  ·rw[kM] at bk;simp only[if_true] at bk;have Js:c=to:=by simpa using kM
   obtain⟨Jt,hb⟩:=x9 Js;obtain⟨j,rfl⟩:=UG Jt;have aa:j<n:=by omega
   obtain⟨⟨⟨e9,fy⟩,⟨g6,iR⟩⟩,nN⟩:∃f,A[j]?=some f:=⟨_,bB (by omega)⟩;have km:=Cg _ (du nN);have ra:A.getD j bK=((e9,fy),(g6,iR)):=by rw[eF,nN];rfl
   rw[pJ,ra] at bk;have uz:=Nc ((e9,fy),(g6,iR)) ((w1,gi),(cW,h9));have bU:=EC nN;have c6:=ya (l:=A) (k:=j) (by omega);generalize cm:nF ((e9,fy),(g6,iR)) ((w1,gi),(cW,h9))=S at *;obtain⟨⟨⟨v1,v2⟩,⟨hr,v4⟩⟩,e⟩:=S;dsimp only at bk uz;have la:=ED (l:=A) (k:=j) (by omega) v1 v2 hr v4;rcases he:(e==0)
   ·rw[he] at bk;simp only[df,if_false] at bk;rw[bk];simp only[df,if_false];refine an ?_;repeat' (intro h<;>simp only[h,go_sem,go_sem_proc,jv,oh,rU,c9,eH,l7,yp,Ob,z6,h5,lN,nf,Jw,fv,d1,r8,kM,aa,cm,bU,c6,km.1,km.2,uK.1,uK.2,he,hl,kH,bK,dx,aS,cl,az,bG,ne_eq,not_false_eq_true,decide_true,decide_false]<;>try refine aj ?_ ?_)
   ·rw[he] at bk;simp only[if_true] at bk;refine an ?_;repeat' (intro h<;>simp only[h,go_sem,go_sem_proc,jv,oh,rU,c9,eH,l7,yp,Ob,z6,h5,lN,nf,Jw,fv,d1,r8,kM,aa,cm,bU,c6,la,km.1,km.2,uK.1,uK.2,he,hl,dx,aS,az,bG,ne_eq,not_false_eq_true,decide_true,decide_false]<;>try refine aj ?_ ?_)
    refine⟨(i+1,A.set j ((v1,v2),(hr,v4))),by dsimp only;omega,by dsimp only;omega,by rw[fN];exact UM,λf ao=>?_,bk,rfl,rfl,rfl⟩
    rcases n8 ao with ao|rfl
    ·exact Cg f ao
    ·exact uz
 ·have d1:decide ((i:Int)<(D ls:Int))=false:=ef;have jn:ls.drop i=[]:=lq (by omega);rw[jn] at bk;rw[bk];simp only[pY,if_true];have iN:=pG (n:=3) (k:=395018) oX (mem:=aV m 395008 0 (.ref 395018 0 4 0 n::lP ((s,l),(s2,ab)))) (l:=A) (g:=0) (by rw[jX (by decide)];exact Jw);rw[UM] at iN;simp only[lP] at iN;refine an ?_;repeat' (intro h<;>simp only[h,go_sem,go_sem_proc,jv,oh,rU,c9,eH,l7,yp,Ob,z6,h5,lN,nf,Jw,d1,kH,aS,az]<;>try refine aj ?_ ?_)
  rw[iN]
  rfl
def lb (b:Bool):List Data:=[.bool b]
def UN (b:Bool):(lb b).length=1:=rfl
def adT (l:List Bool):a6 lb l=l.map λb => .L (.bool b):=by
 induction l with
 |nil=>rfl
 |cons b l aF=>rw[tR,aF];rfl
def aqy {a b:List Bool}(h:a6 lb a=a6 lb b):a=b:=by
 rw[adT,adT] at h;exact map_inj (λa b h=>by cases h;rfl) _ _ h
def adU {α:Type}{p:α->Bool}{l:List α}{i:Nat}{x:α}(J:l[i]?=some x)(h:p x=false):l.all p=false:=by
 rw[adV];exact⟨x,du J,by simp[h]⟩
def UO (to:Int):∀(ls:List b0) (A:List aJ),(∀f∈A,okF f)->∀f∈(pY to ls A).1,okF f
 | [],A,h=>h
 |l::r,A,h=>by
  unfold pY
  split
  ·split
   ·refine UO to r _ λf ao=>?_;rcases n8 ao with ao|rfl
    ·exact h f ao
    ·exact Nc _ _
   ·intro f ao;cases ao
  ·exact UO to r A h
def UP (to:Int):∀(ls:List b0) (A:List aJ),(pY to ls A).1.length<=D A
 | [],A=>bM _
 |l::r,A=>by
  unfold pY
  split
  ·split
   ·have:=UP to r (A.set l.1.toNat (nF (A.getD l.1.toNat bK) l.2.2).1);rwa [fN] at this
   ·exact eL _
  ·exact UP to r A
def aqz {n to:Nat}:∀f∈sa n to,okF f:=λf ao=>by
 unfold sa at ao;rcases n8 ao with ao|rfl
 ·rw[vU] at ao;rw[ao.2];exact N9
 ·exact UH
def Jx {v:aJ}{ls:List b0}{n to:Nat}(ai:okF v)(aE:n<=40):ui (qO v ls n to).1:=by
 unfold qO
 split
 ·refine⟨⟨?_,UO _ _ _ aqz⟩,ai⟩;have:=UP to ls (sa n to);unfold sa at this;rw[fN,nJ] at this;dsimp only;unfold sa;omega
 ·exact⟨⟨by simp,λf ao=>by cases ao⟩,pT⟩
def qP (cap base:List aJ)(ls:List b0)(left:List Bool)(i:Nat):ej×Bool:=if left.getD i false=true then qO (base.getD i bK) ls (D cap) i else qO (cap.getD i bK) [] (D cap) i
def allEq (cap base:List aJ)(ls:List b0)(left:List Bool):List (ej×Bool):=(je (D cap)).map (qP cap base ls left)
def sc (cap base:List aJ)(ls:List b0)(left:List Bool):List aJ×Bool :=
 if (allEq cap base ls left).all (·.2)=true then ((me ((allEq cap base ls left).map (·.1)) (D cap)).1,(me ((allEq cap base ls left).map (·.1)) (D cap)).2==0) else ([],false)
structure Jy where
 cap:List aJ
 base:List aJ
 ls:List b0
 left:List Bool
def z7 (cap base:List aJ)(ls:List b0):I:=.agg [.L (.ay (cap.map aS)),.L (.ay (base.map aS)),.L (.ay (ls.map hl))]
structure UQ (a:Jy) (mem:Mem):Prop where
 at_:mem 394022=some (0,a6 lb a.left)
 no:N4 403 mem
 Eo:yg a.cap a.base a.ls
 aAk:(D a.cap)<=40
 Mk:(D a.base)=D a.cap
 aAl:(D a.left)=D a.cap
 aAm:∀l∈a.ls,0<=l.1/\l.1<D a.cap
def Jz (a:Jy):Data:=.de [.ay ((sc a.cap a.base a.ls a.left).1.map aS),.bool (sc a.cap a.base a.ls a.left).2]
def UR:List I->Mem->Option Data:=Jm (λ(a:Jy) args mem=>args=[z7 a.cap a.base a.ls,.ref 394022 0 1 0 (D a.cap)]/\UQ a mem) Jz
def aqA {cap base Ax Fo:List aJ}{ls adW:List b0}(h:z7 cap base ls=z7 Ax Fo adW):cap=Ax/\base=Fo/\ls=adW:=by
 simp only[z7,I.agg.injEq,bs,I.L.injEq,Data.ay.injEq,and_true] at h;exact⟨map_inj m8 _ _ h.1,map_inj m8 _ _ h.2.1,map_inj yf _ _ h.2.2⟩
def aqB (a:Jy)(mem:Mem)(h:UQ a mem):UR [z7 a.cap a.base a.ls,.ref 394022 0 1 0 (D a.cap)] mem=some (Jz a):=by
 refine ap8 (a:=a) ?_ ⟨rfl,h⟩;rintro a b args mem ⟨aL,ax⟩ ⟨eo,kZ⟩;rw[aL] at eo;simp only[bs] at eo;obtain⟨E,G,ad⟩:=aqA eo.1;have aK:=ax.at_;rw[kZ.at_] at aK;simp only[bH,ei,true_and] at aK;obtain⟨c,dA,l,f⟩:=a;obtain⟨c',dO,mz,zQ⟩:=b;dsimp only at *;subst E G ad;have bp:zQ=f:=aqy aK;rw[bp]
def Oc {l:List Bool}{k:Nat}{b:Bool}(h:l[k]?=some b):oK 1 (pK k (a6 lb l))=[.L (.bool b)]:=by
 have:=Hf (enc:=lb) UN h (f:=0) (n:=1) (by decide);unfold cut at this;rw[dE,kv] at this
 split at this
 ·simpa [lb] using this
 ·cases this
def JA {l:List Bool}{k:Nat}(h:k<D l):(k+1<=(a6 lb l).length)=True:=eq_true (by rw[mA UN];omega)
def aqC (T:bl)(o9:T HC=aT Ju)(pa:T Hq=aT IW)(a:Jy)(mem:Mem)(a5:UQ a mem):
  wp T MR.body (uj MR.res λm mem'=>c2 6 emp m=some (Jz a)/\eQ 403 mem mem') ⟨j5 [z7 a.cap a.base a.ls,.ref 394022 0 1 0 (D a.cap)],mem⟩:=by
 obtain⟨gO,kz,⟨⟨dP,Ch⟩,⟨yW,Ci⟩,Cj⟩,aE,U,af,ga⟩:=a5;obtain⟨cap,base,ls,left⟩:=a;dsimp only at *;unfold z7 Jz sc;dsimp only;have wz:(allEq cap base ls left).length=D cap:=by unfold allEq;rw[az,AU]
 have JB:∀i,i<(D cap)->(allEq cap base ls left)[i]?=some (qP cap base ls left i):=λi O=>by
  unfold allEq;rw[bG,q9 O]
  rfl
 have Cg:∀x∈allEq cap base ls left,ui x.1:=λx J=>by
  unfold allEq at J;rw[h3] at J;obtain⟨i,O,rfl⟩:=J;rw[qo] at O;have aL:okF (cap.getD i bK):=by rw[eF,bB O];exact Ch _ (kT O)
  have ax:okF (base.getD i bK):=by rw[eF,bB (by omega)];exact Ci _ (kT (by omega))
  unfold qP
  split
  ·exact Jx ax aE
  ·exact Jx aL aE
 generalize c3:allEq cap base ls left=A at *;refine yU ?_;simp only[MR];simp only[go_sem,go_sem_proc,az]
 refine dM [1,2,6,18] [403002,394022] (λ((i,g):Nat×Nat) tm m=>i<=D cap/\(A.take i).all (·.2)=true/\tm 19=.L (.int .i64 i)/\tm 7=.ref 403051 g 5 0 i/\m 403051=some (g,a6 kH ((A.take i).map (·.1)))/\eQ 403 mem m) (λ(i,_)=>D cap-i) (0,0) (by
  refine⟨eL _,by simp,rfl,?_,?_,?_⟩
  ·simp[j8,kz 403051 (by decide),aV]
  ·simp[aV,a6,j8,kz 403051 (by decide)]
  ·repeat first|exact eQ.refl _ _|refine eQ.eM ?_ (by decide)) ?_
 intro vs ms a7 aY;simp only[go_sem,go_sem_proc,gO,az] at a7 aY;subst a7 aY;rintro⟨i,g⟩ tm m Q hm ⟨O,dQ,rH,bL,Ck,dw⟩;simp only[go_sem,go_sem_proc,bs] at Q hm;obtain⟨cP,e0,lR,Fp⟩:=Q;obtain⟨bJ,kq⟩:=hm;rcases eC (i<D cap) with au|bO
 ·have d1:decide ((i:Int)<(D cap:Int))=true:=dW;have cW:=h4 (i:=i) (by omega);obtain⟨⟨⟨bU,c6⟩,⟨la,pZ⟩⟩,eN⟩:∃f,cap[i]?=some f:=⟨_,bB au⟩;obtain⟨⟨⟨cQ,dO⟩,⟨kp,kL⟩⟩,fU⟩:∃f,base[i]?=some f:=⟨_,bB (by omega)⟩;obtain⟨Fq,fv⟩:∃f,left[i]?=some f:=⟨_,bB (by omega)⟩;have Fs:=Ch _ (du eN);have Od:=Ci _ (du fU);have gc:cap.getD i bK=((bU,c6),(la,pZ)):=by rw[eF,eN];rfl
  have Cl:base.getD i bK=((cQ,dO),(kp,kL)):=by rw[eF,fU];rfl
  have gl:left.getD i false=Fq:=by rw[eF,fv];rfl
  have ld:=Oc fv;have kr:=JA (l:=left) (k:=i) (by omega);have JC:=JB i au;have JD:=UI bU c6 la pZ [] (D cap) i ⟨Fs,⟨by simp,λx J=>by cases J⟩,aE,au,λl af=>by cases af⟩
  have Cm:=UI cQ dO kp kL ls (D cap) i ⟨Od,Cj,aE,au,λl af _=>ga l af⟩
  have Oe:qP cap base ls left i=if Fq=true then qO ((cQ,dO),(kp,kL)) ls (D cap) i else qO ((bU,c6),(la,pZ)) [] (D cap) i:=by
   unfold qP;rw[gc,Cl,gl]
  rw[cl] at JD;have Bp:A.take (i+1)=A.take i++[qP cap base ls left i]:=by rw[jj,JC];rfl
  have Of:(A.take (i+1)).all (·.2)=(qP cap base ls left i).2:=by rw[Bp,US,dQ];simp
  have Og:(A.take (i+1)).map (·.1)=(A.take i).map (·.1)++[(qP cap base ls left i).1]:=by rw[Bp,pU];rfl
  have bY:((A.take i).map (·.1)).length=i:=by rw[az,hf];omega
  have dS:=λ(bS:ej) cs jK=>qm MS (λ_=>rfl) 403051 g 88 ((A.take i).map (·.1)) bS (cs:=cs) jK (by omega) (by omega);simp only[bY] at dS;have jT:(qP cap base ls left i).2=false->A.all (·.2)=false:=λh=>adU JC h;clear c3 JB;rcases Fq
  ·simp only[df,if_false] at Oe;rw[<-Oe] at JD;generalize qP cap base ls left i=b6 at *;obtain⟨⟨JE,⟨v1,v2⟩,⟨hr,v4⟩⟩,ok⟩:=b6;simp only[kH,aS] at JD;rcases ok
   ·rw[jT rfl];simp only[df,if_false];refine an ?_;repeat' (intro (aw:_=_)<;>simp only[aw,go_sem,go_sem_proc,o9,pa,cP,e0,lR,Fp,rH,bL,bJ,kq,Ck,d1,cW,eN,fU,fv,ld,kr,au,dE,JD,aS,az,bG]<;>try refine aj ?_ ?_)
    exact⟨_,rfl,rfl,by repeat first|exact dw|refine eQ.eM ?_ (by decide)⟩
   ·have uM:=dS (JE,((v1,v2),(hr,v4))) _ rfl;simp only[kH,aS,hv,cl] at uM;rw[<-Og] at uM;refine an ?_;repeat' (intro (aw:_=_)<;>simp only[aw,go_sem,go_sem_proc,o9,pa,cP,e0,lR,Fp,rH,bL,bJ,kq,Ck,d1,cW,eN,fU,fv,ld,kr,au,dE,JD,uM,aS,az,bG]<;>try refine aj ?_ ?_)
    exact⟨(i+1,g+1),by dsimp only;omega,by dsimp only;omega,Of,rfl,rfl,rfl,by repeat first|exact dw|refine eQ.eM ?_ (by decide)⟩
  ·simp only[if_true] at Oe;rw[<-Oe] at Cm;generalize qP cap base ls left i=b6 at *;obtain⟨⟨JE,⟨v1,v2⟩,⟨hr,v4⟩⟩,ok⟩:=b6;simp only[kH,aS] at Cm;rcases ok
   ·rw[jT rfl];simp only[df,if_false];refine an ?_;repeat' (intro (aw:_=_)<;>simp only[aw,go_sem,go_sem_proc,o9,pa,cP,e0,lR,Fp,rH,bL,bJ,kq,Ck,d1,cW,eN,fU,fv,ld,kr,au,dE,Cm,aS,az,bG]<;>try refine aj ?_ ?_)
    exact⟨_,rfl,rfl,by repeat first|exact dw|refine eQ.eM ?_ (by decide)⟩
   ·have uM:=dS (JE,((v1,v2),(hr,v4))) _ rfl;simp only[kH,aS,hv,cl] at uM;rw[<-Og] at uM;refine an ?_;repeat' (intro (aw:_=_)<;>simp only[aw,go_sem,go_sem_proc,o9,pa,cP,e0,lR,Fp,rH,bL,bJ,kq,Ck,d1,cW,eN,fU,fv,ld,kr,au,dE,Cm,uM,aS,az,bG]<;>try refine aj ?_ ?_)
    exact⟨(i+1,g+1),by dsimp only;omega,by dsimp only;omega,Of,rfl,rfl,rfl,by repeat first|exact dw|refine eQ.eM ?_ (by decide)⟩
 ·have d1:decide ((i:Int)<(D cap:Int))=false:=ef;have uN:i=D cap:=by omega
  subst uN;have rZ:A.take (D cap)=A:=dz (by omega);rw[rZ] at dQ Ck;rw[dQ];simp only[if_true]
  have ff:=acj (A.map (·.1)) (D cap) ⟨by rw[az];omega,λr M=>by
   obtain⟨x,J,rfl⟩:=h3.1 M;exact Cg x J⟩
  have wL:=λ(K:a1->Prop) (st:a1)=>xy (K:=K) (st:=st) MS 7 403051 g (A.map (·.1));rw[az,wz] at wL;generalize me (A.map (·.1)) (D cap)=S at *;obtain⟨z8,e⟩:=S;dsimp only at ff ⊢;rcases he:(e==0)
  ·refine an ?_;repeat' (intro (aw:_=_)<;>simp only[aw,go_sem,go_sem_proc,o9,pa,cP,e0,lR,Fp,rH,bL,bJ,kq,Ck,d1,wL,ff,he,az]<;>try refine aj ?_ ?_)
   exact⟨_,rfl,rfl,by repeat first|exact dw|refine eQ.eM ?_ (by decide)|refine eQ.kill ?_ (by decide)⟩
  ·refine an ?_;repeat' (intro (aw:_=_)<;>simp only[aw,go_sem,go_sem_proc,o9,pa,cP,e0,lR,Fp,rH,bL,bJ,kq,Ck,d1,wL,ff,he,az]<;>try refine aj ?_ ?_)
   exact⟨_,rfl,rfl,by repeat first|exact dw|refine eQ.eM ?_ (by decide)|refine eQ.kill ?_ (by decide)⟩
def aqD {rs:List ej}{n:Int}(aZ:BE rs):iE (me rs n).1/\((me rs n).2=0->(me rs n).1.length=D rs):=by
 have aE:iE ([]:List aJ):=⟨by simp,λf ao=>by cases ao⟩
 unfold me
 split
 ·rename_i M;obtain⟨-,Oh,lB⟩:=Ns aZ M;have dp:=ach (stop:=true) lB
  split
  ·exact⟨aE,λh=>by cases h⟩
  ·split
   ·exact⟨aE,λh=>by cases h⟩
   ·refine⟨⟨?_,λf ao=>?_⟩,λ_=>?_⟩
    ·rw[az,dp.len];omega
    ·obtain⟨x,J,rfl⟩:=h3.1 ao;obtain⟨E,G⟩:=dp.row x J;have aC:x.2.2[D rs]?=some x.2.2[D rs]:=bB (by omega);rw[aci aC];exact G _ (du aC)
    ·rw[az,dp.len]
 ·exact⟨aE,λh=>by cases h⟩
def JF (x:List aJ)(to:Int):∀(ls:List b0) (s:aJ×Bool),okF s.1->okF (o7 x to ls s).1
 | [],s,h=>h
 |l::r,s,h=>by
  unfold o7
  split
  ·exact JF x to r _ (adN x l s)
  ·exact JF x to r s h
def UT {cap base:List aJ}{ls:List b0}{left:List Bool}(Z:∀f∈cap,okF f)(U:∀f∈base,okF f)(af:(D base)=D cap)(aE:(D cap)<=40):iE (sc cap base ls left).1/\((sc cap base ls left).2=true->(sc cap base ls left).1.length=D cap):=by
 unfold sc
 split
 ·have c3:BE ((allEq cap base ls left).map (·.1)):=by
   unfold allEq;refine⟨by rw[az,az,AU];omega,λr M=>?_⟩
   rw[List.map_map] at M;obtain⟨i,O,rfl⟩:=h3.1 M;rw[qo] at O;have aL:okF (cap.getD i bK):=by rw[eF,bB O];exact Z _ (kT O)
   have ax:okF (base.getD i bK):=by rw[eF,bB (by omega)];exact U _ (kT (by omega))
   simp only[Function.comp];unfold qP
   split
   ·exact Jx ax aE
   ·exact Jx aL aE
  obtain⟨E,G⟩:=aqD (n:=(D cap:Int)) c3;refine⟨E,λh=>?_⟩;rw[G (by simpa using h),az];unfold allEq;rw[az,AU]
 ·exact⟨⟨by simp,λf ao=>by cases ao⟩,λh=>by cases h⟩
def oi (cap base:List aJ)(ls:List b0)(left:List Bool)(x:List aJ):Nat->Nat->List Nat->Option (List Nat)
 |0,_,acc=>some acc
 |k+1,i,acc=>if left.getD i false=true then oi cap base ls left x k (i+1) acc else
  if (og (base.getD i bK) ls x i).2=true then (if decide (lM (og (base.getD i bK) ls x i).1 (cap.getD i bK)<0)=true then oi cap base ls left x k (i+1) (acc++[i]) else oi cap base ls left x k (i+1) acc) else none
def mi (left:List Bool)(lv:List Nat):List Bool:=lv.foldl (λl i=>l.set i true) left
def UU (lv:List Nat):∀left:List Bool,(mi left lv).length=D left:=by
 induction lv with
 |nil=>intro left;rfl
 |cons i lv aF=>intro left;show (mi (left.set i true) lv).length=_;rw[aF,fN]
def aqE (left:List Bool)(a b:List Nat):mi left (a++b)=mi (mi left a) b:=List.foldl_append
def aqF (lv:List Nat):∀left:List Bool,(mi left lv).count false<=left.count false:=by
 induction lv with
 |nil=>intro left;exact bM _
 |cons i lv aF =>
  intro left;refine cN (aF (left.set i true)) ?_;rcases fE i (D left) with h|h
  ·rw[adX h];have:((true==false)=true)=False:=by simp
   simp only[this,if_false];omega
  ·rw[List.set_eq_of_length_le h];exact bM _
def adY {left:List Bool}{i:Nat}{lv:List Nat}(O:i<D left)(h:left.getD i false=false):(mi left (i::lv)).count false<left.count false:=by
 have E:=aqF lv (left.set i true);have G:left[i]=false:=by rw[eF,bB O] at h;exact h
 have ad:0<left.count false:=List.count_pos_iff.2 (G ▸ kT O);rw[adX O,G] at E;have:((true==false)=true)=False:=by simp
 simp only[this,if_false,beq_self_eq_true,if_true] at E;show (mi (left.set i true) lv).count false<_;omega
def Oi {cap base:List aJ}{ls:List b0}{left:List Bool}{x:List aJ}:∀(k i:Nat) (acc lv:List Nat),oi cap base ls left x k i acc=some lv->∀j∈lv,j∈acc\/(i<=j/\j<i+k/\left.getD j false=false)
 |0,i,acc,lv,h,j,aa=>by
  simp only[oi,bH] at h;subst h;exact .inl aa
 |k+1,i,acc,lv,h,j,aa=>by
  unfold oi at h
  split at h
  ·rcases Oi k (i+1) acc lv h j aa with E|⟨E,G,ad⟩
   ·exact .inl E
   ·exact .inr ⟨by omega,by omega,ad⟩
  ·rename_i af
   split at h
   ·split at h
    ·rcases Oi k (i+1) _ lv h j aa with E|⟨E,G,ad⟩
     ·simp only[List.mem_append,v3] at E;rcases E with E|rfl
      ·exact .inl E
      ·exact .inr ⟨bM _,by omega,by simpa using af⟩
     ·exact .inr ⟨by omega,by omega,ad⟩
    ·rcases Oi k (i+1) acc lv h j aa with E|⟨E,G,ad⟩
     ·exact .inl E
     ·exact .inr ⟨by omega,by omega,ad⟩
   ·cases h
def Oj {cap base:List aJ}{ls:List b0}{left:List Bool}{x:List aJ}:∀(k i:Nat) (acc lv:List Nat),oi cap base ls left x k i acc=some lv->(D lv)<=D acc+k
 |0,i,acc,lv,h=>by
  simp only[oi,bH] at h;subst h;exact bM _
 |k+1,i,acc,lv,h=>by
  unfold oi at h
  split at h
  ·have:=Oj k (i+1) acc lv h;omega
  ·split at h
   ·split at h
    ·have:=Oj k (i+1) _ lv h;rw[lk,UW] at this;omega
    ·have:=Oj k (i+1) acc lv h;omega
   ·cases h
def pb (cap base:List aJ)(ls:List b0):Nat->List Bool->List (List Nat)->List aJ×List (List Nat)×Int
 |0,_,_=>([],[],6)
 |k+1,left,rounds=>if (sc cap base ls left).2=true then (match oi cap base ls left (sc cap base ls left).1 (D cap) 0 [] with
  |none=>([],[],6)
  |some []=>((sc cap base ls left).1,rounds,0)
  |some (i::lv)=>pb cap base ls k (mi left (i::lv)) (rounds++[i::lv])) else ([],[],6)
def iG (cap base:List aJ)(ls:List b0):List aJ×List (List Nat)×Int:=if qI cap base ls=true then pb cap base ls (D cap+1) (cK (D cap) false) [] else ([],[],1)
def jE (l:List Nat):List Data:=[.ay (l.map kK)]
def adZ (l:List Nat):(jE l).length=1:=rfl
def aqG (l:List Nat):((jE l).map I.L).all I.one=true:=rfl
def yq (s:List aJ×List (List Nat)×Int):Data:=.de [.ay (s.1.map aS),.ay (s.2.1.map jE),.int .i64 s.2.2]
def wM {cap base:List aJ}{ls:List b0}(h:qI cap base ls=true):(D base)=D cap/\D cap<=40/\D ls<=400/\(∀l∈ls,0<=l.1/\l.1<D cap/\0<=l.2.1/\l.2.1<D cap/\fP l.2.2=true)/\(∀f∈cap,fP f=true)/\∀f∈base,fP f=true:=by
 unfold qI uD at h;simp only[dH,na,decide_eq_false_iff_not,beq_iff_eq,s6] at h;obtain⟨E,⟨G,ad,aK,bp⟩,bD,bL⟩:=h;refine⟨by omega,by omega,by omega,λl af=>?_,λf ao=>by simpa using bD f ao,λf ao=>by simpa using bL f ao⟩
 have:=bp l af;unfold uC at this;simp only[sF,decide_eq_true_eq,na,not_or,JG] at this;obtain⟨cz,dj,hR,iV,o3⟩:=this;exact⟨by omega,by omega,by omega,by omega,o3⟩
def ad0 (n:Nat):(cK n [I.L (.bool false)]).flatten=a6 lb (cK n false):=by
 unfold a6;rw[BR]
 induction n with
 |zero=>rfl
 |succ n aF=>rw[pw,lj,aF,pw,lj,pU];rfl
def ad1 {l:List Bool}{k:Nat}(h:k<D l)(b:Bool):oK k (a6 lb l)++[I.L (.bool b)]++pK (k+1) (a6 lb l)=a6 lb (l.set k b):=by
 have:=QQ (enc:=lb) UN h b;rw[dE] at this;rw[<-this]
 rfl
def aqH {l:List Nat}{k:Nat}{b:Nat}(h:l[k]?=some b):oK 1 (pK k (a6 kK l))=[.L (.int .i64 b)]:=by
 have:=Hf (enc:=kK) zR h (f:=0) (n:=1) (by decide);unfold cut at this;rw[dE,kv] at this
 split at this
 ·simpa [kK] using this
 ·cases this
def aqI {l:List Nat}{k:Nat}(h:k<D l):(k+1<=(a6 kK l).length)=True:=eq_true (by rw[mA zR];omega)
def Ft:=b1 zW λ(cap,base,ls)=>cu (yg cap base ls) (.same (yq (iG cap base ls)))
@[go_sem] def Ok (cap base ls):=cL Ft rfl TN (cap,base,ls) rfl
def aqJ (T:bl)(nO:T Rw=aT NC)(nP:T Rx=Jl UR)(ja:T HD=aT Jp)(dZ:T rz=aT zF):WF T aa7 Ft:=by
 refine cq λ(cap,base,ls)=>cR λZ=>⟨rfl,cr ?_⟩;simp only[aa7,zW,b8];unfold iG;rcases M:qI cap base ls
 ·simp only[df,if_false];refine an ?_;repeat' (intro (aw:_=_)<;>simp only[aw,go_sem,go_sem_proc,nO,nP,ja,dZ,Z,M,yq,cl]<;>try refine aj ?_ ?_)
 ·simp only[if_true];obtain⟨U,aE,-,ga,-,-⟩:=wM M;have Cn:=Z;obtain⟨⟨dP,Ch⟩,⟨yW,Ci⟩,Cj⟩:=Z;have IY:(D cap*1<=140737488355328)=True:=eq_true (by omega);have UX:(1*D cap<=140737488355328)=True:=eq_true (by omega);have IZ:(D cap<=maxLen)=True:=eq_true (by unfold maxLen;omega);have UY:(D cap<=140737488355328)=True:=eq_true (by omega);have aQ:=ad0 (D cap);generalize aqK:pb cap base ls (D cap+1) (cK (D cap) false) []=SS;simp only[go_sem,go_sem_proc,nO,nP,ja,dZ,Cn,M,IY,UX,IZ,UY,aQ,az]
  refine dM [1,5] [394001] (λ((k,left,rounds,g):Nat×List Bool×List (List Nat)×Nat) tm m=>D left=D cap/\left.count false<k/\D rounds+k<=D cap+1/\SS=pb cap base ls k left rounds/\tm 6=.ref 394085 g 1 0 (D rounds)/\m 394022=some (0,a6 lb left)/\m 394085=some (g,a6 jE rounds)/\eQ 394 emp m) (λ(k,_,_,_)=>k) (D cap+1,cK (D cap) false,[],0) (by
   refine⟨nJ,by rw[List.count_replicate_self];exact Nat.lt_succ_self _,by simp,aqK.symm,rfl,?_,?_,?_⟩
   ·simp[aV]
   ·simp[aV,a6]
   ·repeat first|exact eQ.refl _ _|refine eQ.eM ?_ (by decide)) ?_
  intro vs ms a7 aY;simp only[go_sem,go_sem_proc,nO,nP,ja,dZ,az] at a7 aY;subst a7 aY;rintro⟨k,left,rounds,g⟩ tm m Q hm ⟨Fk,aAn,aAo,bk,bD,kq,oj,dw⟩;simp only[go_sem,go_sem_proc,nO,nP,ja,dZ,bs] at Q hm;obtain⟨cP,gh⟩:=Q;obtain⟨k,rfl⟩:∃k',k=k'+1:=⟨k-1,by omega⟩
  have ew:=aqB ⟨cap,base,ls,left⟩ m ⟨kq,λj aa=>(dw j (by omega)).trans rfl,Cn,aE,U,Fk,λl af=>⟨(ga l af).1,(ga l af).2.1⟩⟩;simp only[z7,Jz] at ew;obtain⟨ad2,ad3⟩:=UT (ls:=ls) (left:=left) Ch Ci U aE;rw[pb] at bk;generalize sc cap base ls left=X at *;obtain⟨Fu,ok⟩:=X;dsimp only at ew ad2 ad3 bk;rcases ok
  ·simp only[df,if_false] at bk;rw[bk];refine an ?_;repeat' (intro (aw:_=_)<;>simp only[aw,go_sem,go_sem_proc,nO,nP,ja,dZ,cP,gh,bD,hm,kq,oj,ew,yq,cl,az]<;>try refine aj ?_ ?_)
  ·simp only[if_true] at bk;have aqL:=ad3 rfl;simp only[go_sem,go_sem_proc,nO,nP,ja,dZ,cP,gh,bD,hm,kq,oj,ew,az]
   refine dM [1,5,6,7,32,33] [394001,394022,394085] (λ((i,acc,z9):Nat×List Nat×Nat) tm m=>i<=D cap/\D acc<=i/\oi cap base ls left Fu (D cap) 0 []=oi cap base ls left Fu (D cap-i) i acc/\tm 34=.L (.int .i64 i)/\tm 9=.ref 394065 z9 1 0 (D acc)/\m 394065=some (z9,a6 kK acc)/\eQ 394 emp m) (λ(i,_,_)=>D cap-i) (0,[],j8 (m 394065)) (by
    refine⟨eL _,bM _,rfl,rfl,rfl,?_,?_⟩
    ·simp[aV,a6]
    ·repeat first|exact dw|refine eQ.eM ?_ (by decide)) ?_
   intro vs ms a7 aY;simp only[go_sem,go_sem_proc,nO,nP,ja,dZ,cP,gh,bD,hm,kq,oj,az] at a7 aY;subst a7 aY;clear ew bD hm kq oj dw cP gh tm m;rintro⟨i,acc,z9⟩ tm m Q hm ⟨O,aAp,lS,wA,jh,uO,dw⟩;simp only[go_sem,go_sem_proc,nO,nP,ja,dZ,bs] at Q hm;obtain⟨cP,gh,lR,fV,Co,Cp⟩:=Q;obtain⟨ba,kq,oj⟩:=hm;rcases eC (i<D cap) with au|bO
   ·have d1:decide ((i:Int)<(D cap:Int))=true:=dW;have cW:=h4 (i:=i) (by omega);obtain⟨⟨⟨bU,c6⟩,⟨la,pZ⟩⟩,eN⟩:∃f,cap[i]?=some f:=⟨_,bB au⟩;obtain⟨⟨⟨cQ,dO⟩,⟨kp,kL⟩⟩,fU⟩:∃f,base[i]?=some f:=⟨_,bB (by omega)⟩;obtain⟨Fq,fv⟩:∃f,left[i]?=some f:=⟨_,bB (by omega)⟩;have Fs:=Ch _ (du eN);have Od:=Ci _ (du fU);have gc:cap.getD i bK=((bU,c6),(la,pZ)):=by rw[eF,eN];rfl
    have Cl:base.getD i bK=((cQ,dO),(kp,kL)):=by rw[eF,fU];rfl
    have gl:left.getD i false=Fq:=by rw[eF,fv];rfl
    have ld:=Oc fv;have kr:=JA (l:=left) (k:=i) (by omega);have jo:(D cap)-i=(D cap-(i+1))+1:=by omega
    rw[jo] at lS;replace lS:=lS.trans (oi.eq_2 ..);rw[gl,gc,Cl] at lS;rcases Fq
    ·simp only[df,if_false] at lS;have eS:=adP cQ dO kp kL ls Fu i ⟨Od,Cj,ad2,λl af _=>⟨(ga l af).1,by rw[aqL];exact (ga l af).2.1⟩⟩
     have JH:okF (og ((cQ,dO),(kp,kL)) ls Fu i).1:=JF Fu i ls _ Od;generalize og ((cQ,dO),(kp,kL)) ls Fu i=Gt at *;obtain⟨⟨⟨f1,f2⟩,⟨f3,f4⟩⟩,UF⟩:=Gt;dsimp only at lS JH;simp only[aS] at eS;rcases UF
     ·simp only[df,if_false] at lS;rw[lS] at bk;rw[bk];refine an ?_;repeat' (intro (aw:_=_)<;>simp only[aw,go_sem,go_sem_proc,nO,nP,ja,dZ,cP,gh,lR,fV,Co,Cp,wA,jh,ba,kq,oj,uO,d1,cW,eN,fU,fv,ld,kr,au,eS,yq,aS,cl,dE,az,bG]<;>try refine aj ?_ ?_)
     ·simp only[if_true] at lS;rcases g0:decide (lM ((f1,f2),(f3,f4)) ((bU,c6),(la,pZ))<0)
      ·rw[g0] at lS;simp only[df,if_false] at lS;refine an ?_;repeat' (intro (aw:_=_)<;>simp only[aw,go_sem,go_sem_proc,nO,nP,ja,dZ,cP,gh,lR,fV,Co,Cp,wA,jh,ba,kq,oj,uO,d1,cW,eN,fU,fv,ld,kr,au,eS,g0,Fs.1,Fs.2,JH.1,JH.2,aS,dE,az,bG]<;>try refine aj ?_ ?_)
       exact⟨(i+1,acc,z9),by dsimp only;omega,by dsimp only;omega,by dsimp only;omega,lS,rfl,rfl,rfl,by repeat first|exact dw|refine eQ.eM ?_ (by decide)⟩
      ·rw[g0] at lS;simp only[if_true] at lS;have dS:=qm zR ab9 394065 z9 8 acc i (cs:=[.L (.int .i64 i)]) rfl (by omega) (by omega);have hb:(acc++[i]).length=D acc+1:=by simp
       refine an ?_;repeat' (intro (aw:_=_)<;>simp only[aw,go_sem,go_sem_proc,nO,nP,ja,dZ,cP,gh,lR,fV,Co,Cp,wA,jh,ba,kq,oj,uO,d1,cW,eN,fU,fv,ld,kr,au,eS,g0,dS,Fs.1,Fs.2,JH.1,JH.2,aS,dE,az,bG]<;>try refine aj ?_ ?_)
       exact⟨(i+1,acc++[i],z9+1),by dsimp only;omega,by dsimp only;omega,by dsimp only;omega,lS,rfl,by rw[hb],rfl,by repeat first|exact dw|refine eQ.eM ?_ (by decide)⟩
    ·simp only[if_true] at lS;refine an ?_;repeat' (intro (aw:_=_)<;>simp only[aw,go_sem,go_sem_proc,nO,nP,ja,dZ,cP,gh,lR,fV,Co,Cp,wA,jh,ba,kq,oj,uO,d1,cW,eN,fU,fv,ld,kr,au,aS,dE,az,bG]<;>try refine aj ?_ ?_)
     exact⟨(i+1,acc,z9),by dsimp only;omega,by dsimp only;omega,by dsimp only;omega,lS,rfl,rfl,rfl,by repeat first|exact dw|refine eQ.eM ?_ (by decide)⟩
   ·have d1:decide ((i:Int)<(D cap:Int))=false:=ef;have uN:i=D cap:=by omega
    subst uN;rw[lW] at lS;replace lS:=lS.trans (oi.eq_1 ..);have gw:=Oi _ _ _ _ lS;rw[lS] at bk
    cases acc with
    |nil =>
     dsimp only at bk;rw[bk];have iN:=pG (n:=4) adZ oj;refine an ?_;repeat' (intro (aw:_=_)<;>simp only[aw,go_sem,go_sem_proc,nO,nP,ja,dZ,cP,gh,lR,fV,Co,Cp,wA,jh,ba,kq,oj,uO,d1,iN,yq,lD,az,show (((0:Nat):Int)==0)=true from rfl]<;>try refine aj ?_ ?_)
    |cons i0 lv =>
     dsimp only at bk;have bc:((((i0::lv).length:Nat):Int)==0)=false:=by simp;omega
     have tY:i0<D cap/\left.getD i0 false=false:=by
      rcases gw i0 (by simp) with h|⟨-,E,G⟩
      ·cases h
      ·exact⟨by omega,G⟩
     have aqM:∀j∈i0::lv,j<D cap:=λj aa=>by
      rcases gw j aa with h|⟨-,E,G⟩
      ·cases h
      ·omega
     have jl:=adY (left:=left) (i:=i0) (lv:=lv) (by omega) tY.2;generalize xg:i0::lv=bA at *;simp only[go_sem,go_sem_proc,nO,nP,ja,dZ,cP,gh,lR,fV,Co,Cp,wA,jh,ba,kq,oj,uO,d1,bc,az];refine dM [1,5,6,9,72,73] [394001,394065,394085] (λ(j:Nat) tm m=>j<=D bA/\tm 74=.L (.int .i64 j)/\m 394022=some (0,a6 lb (mi left (bA.take j)))/\eQ 394 emp m) (λj=>D bA-j) 0 (by refine⟨eL _,rfl,kq,dw⟩) ?_;intro vs ms a7 aY;simp only[go_sem,go_sem_proc,nO,nP,ja,dZ,cP,gh,lR,fV,jh,ba,oj,uO] at a7 aY;subst a7 aY;clear cP gh lR fV Co Cp wA jh ba kq oj uO dw tm m;rintro j tm m Q hm ⟨aa,ad4,kq,dw⟩;simp only[go_sem,go_sem_proc,nO,nP,ja,dZ,bs] at Q hm;obtain⟨cP,gh,lR,kj,ad5,ad6⟩:=Q;obtain⟨ba,uO,oj⟩:=hm;rcases eC (j<D bA) with iv|NQ
     ·have d2:decide ((j:Int)<(D bA:Int))=true:=dW;have h9:=h4 (i:=j) (by omega);obtain⟨x,J⟩:∃f,bA[j]?=some f:=⟨_,bB iv⟩;have uh:=aqM x (du J);have aqN:=aqH J;have aqO:=aqI (l:=bA) (k:=j) iv;have W6:(mi left (bA.take j)).length=D cap:=by rw[UU];exact Fk
      have kr:=JA (l:=mi left (bA.take j)) (k:=x) (by omega);have xT:=ad1 (l:=mi left (bA.take j)) (k:=x) (by omega) true
      have yk:(mi left (bA.take j)).set x true=mi left (bA.take (j+1)):=by
       rw[jj,J,aqE];rfl
      rw[yk] at xT;refine an ?_;repeat' (intro (aw:_=_)<;>simp only[aw,go_sem,go_sem_proc,nO,nP,ja,dZ,cP,gh,lR,kj,ad5,ad6,ad4,ba,kq,uO,oj,d2,h9,aqN,aqO,uh,kr,xT,iv,dE]<;>try refine aj ?_ ?_)
      exact⟨j+1,by omega,by omega,rfl,rfl,by repeat first|exact dw|refine eQ.eM ?_ (by decide)⟩
     ·have d2:decide ((j:Int)<(D bA:Int))=false:=ef;have aqP:j=D bA:=by omega
      subst aqP;rw[sW] at kq;have wL:=λ(K:a1->Prop) (st:a1)=>xy (K:=K) (st:=st) zR 9 394065 z9 bA;have dS:=qm adZ aqG 394085 g 24 rounds bA (cs:=[.L (.ay (bA.map kK))]) rfl (by omega) (by omega);have bY:(rounds++[bA]).length=D rounds+1:=by simp
      refine an ?_;repeat' (intro (aw:_=_)<;>simp only[aw,go_sem,go_sem_proc,nO,nP,ja,dZ,cP,gh,lR,kj,ad5,ad6,ad4,ba,kq,uO,oj,d2,wL,dS,az]<;>try refine aj ?_ ?_)
      exact⟨(k,mi left bA,rounds++[bA],g+1),by dsimp only;omega,by rw[UU];exact Fk,by dsimp only;omega,by dsimp only;omega,bk,by rw[bY],rfl,rfl,by repeat first|exact dw|refine eQ.eM ?_ (by decide)|refine eQ.kill ?_ (by decide)⟩


def ad7 {ls:List b0}{n:Int}(h:uD ls n=true):0<=n/\n<=40/\D ls<=400/\∀l∈ls,0<=l.1/\l.1<n/\0<=l.2.1/\l.2.1<n/\fP l.2.2=true:=by
 unfold uD at h;simp only[dH,na,decide_eq_false_iff_not,s6] at h;obtain⟨G,ad,aK,bp⟩:=h;refine⟨by omega,by omega,by omega,λl af=>?_⟩
 have:=bp l af;unfold uC at this;simp only[sF,decide_eq_true_eq,na,not_or,JG] at this;obtain⟨a,b,c,d,e⟩:=this;exact⟨by omega,by omega,by omega,by omega,e⟩
def Fv (ls:List b0)(x:List aJ):Nat->Nat->Bool
 |0,_=>true
 |k+1,i=>if ((og nM ls x i).2 && !decide (lM (x.getD i bK) (og nM ls x i).1<=0))=true then Fv ls x k (i+1) else false
def UZ (ls:List b0)(n:Int)(x:List aJ):Bool:=uD ls n&&(((D x:Int)==n)&&(!(x.any λf => !fP f||(f.1.1==0))&&Fv ls x (D x) 0))
def aqQ {base:aJ}{ls:List b0}{x:List aJ}{to:Int}(h:okF base):okF (og base ls x to).1:=JF x to ls (base,true) h
abbrev Ol:(List b0)×Int×(List aJ)->List Data:=λ(ls,n,x)=>[.ay (ls.map hl),.int .i64 n,.ay (x.map aS)]
def Om:=b1 Ol λ(ls,n,x)=>cu (uB ls/\iE x) (.same (.bool (UZ ls n x)))
def aqR:∀a b,Ol a=Ol b->a=b:=by
  rintro⟨BU,pA,e9⟩ ⟨BV,sE,fy⟩ h;simp only[bs,Data.ay.injEq,Data.int.injEq] at h;exact cy (map_inj yf _ _ h.1) (cy h.2.1.2 (map_inj m8 _ _ h.2.2.1))
@[go_sem] def aqS (ls n x):=cL Om rfl aqR (ls,n,x) rfl
def aqT (T:bl)(kn:T Bc=aT EW)(iS:T vI=aT s7)(jv:T vK=aT EX)(ja:T HD=aT Jp)(dZ:T rz=aT zF):WF T aa4 Om:=by
 refine cq λ(ls,n,x)=>cR λZ=>⟨rfl,cr ?_⟩;simp only[aa4,Ol,b8];obtain⟨JI,J⟩:=Z;unfold UZ;rcases aL:uD ls n
 ·refine an ?_;repeat' (intro h<;>simp only[h,go_sem,go_sem_proc,kn,iS,jv,ja,dZ,JI,aL,az,c2,w4,s9,scalar]<;>try refine aj ?_ ?_)
 ·rcases ax:((D x:Int)==n)
  ·refine an ?_;repeat' (intro h<;>simp only[h,go_sem,go_sem_proc,kn,iS,jv,ja,dZ,JI,aL,ax,az,c2,w4,s9,scalar]<;>try refine aj ?_ ?_)
  ·rcases eo:x.any λf => !fP f||(f.1.1==0)
   ·obtain⟨al,Oh,aqU,ga⟩:=ad7 aL;have uh:(D x:Int)=n:=by simpa using ax
    have tu:=J.1;simp only[gy,dY];generalize aqV:Fv ls x (D x) 0=GO;have aQ:=I2 0 (by unfold er;omega);rw[show bW ((0:Int):Rat)=nM from rfl] at aQ;simp only[go_sem,go_sem_proc,kn,iS,jv,ja,dZ,JI,J,aL,ax,eo,abn,SZ,az];refine dM [0,2,25,26] [] (λ(i:Nat) tm m=>i<=D x/\GO=Fv ls x (D x-i) i/\tm 27=.L (.int .i64 i)) (λi=>D x-i) 0 (by refine⟨eL _,aqV.symm,rfl⟩) ?_;intro vs ms a7 aY;simp only[go_sem,go_sem_proc,kn,iS,jv,ja,dZ,az] at a7 aY;subst a7 aY;rintro i tm m Q hm ⟨O,bk,Bj⟩;simp only[go_sem,go_sem_proc,kn,iS,jv,ja,dZ,bs] at Q;obtain⟨fq,e0,Aa,yp⟩:=Q;rcases eC (i<D x) with au|bO
    ·have d1:decide ((i:Int)<(D x:Int))=true:=dW;have cW:=h4 (i:=i) (by omega);obtain⟨⟨⟨e9,fy⟩,⟨g6,iR⟩⟩,jt⟩:∃f,x[i]?=some f:=⟨_,bB au⟩;have fX:x.getD i bK=((e9,fy),(g6,iR)):=by rw[eF,jt];rfl
     have km:=J.2 _ (du jt);have jo:(D x)-i=(D x-(i+1))+1:=by omega
     rw[jo] at bk;replace bk:=bk.trans (Fv.eq_2 ..);rw[fX] at bk;have ad8:=N9;have z1:=aqQ (ls:=ls) (x:=x) (to:=i) ad8;generalize nM=Fm at *;obtain⟨⟨hO,iQ⟩,⟨yn,yo⟩⟩:=Fm;have bO:=adP hO iQ yn yo ls x i ⟨ad8,JI,J,λl af _=>by have:=ga l af;omega⟩
     generalize og ((hO,iQ),(yn,yo)) ls x i=S at *;obtain⟨⟨⟨s1,s2⟩,⟨cv,cD⟩⟩,b⟩:=S;dsimp only at bk bO z1;simp only[aS] at aQ bO;obtain⟨eX,hj⟩:=z1;obtain⟨gn,g5⟩:=km;dsimp only at eX hj gn g5;rcases b
     ·simp only[e1,df,if_false] at bk;rw[bk];refine an ?_;repeat' (intro h<;>simp only[h,go_sem,go_sem_proc,kn,iS,jv,ja,dZ,fq,e0,Aa,yp,Bj,d1,cW,jt,aQ,bO,aS,az,bG]<;>try refine aj ?_ ?_)
     ·rcases g0:decide (lM ((e9,fy),(g6,iR)) ((s1,s2),(cv,cD))<=0)
      ·rw[g0] at bk;simp only[gy,dY,if_true] at bk;refine an ?_;repeat' (intro h<;>simp only[h,go_sem,go_sem_proc,kn,iS,jv,ja,dZ,fq,e0,Aa,yp,Bj,d1,cW,jt,aQ,bO,g0,eX,hj,gn,g5,aS,az,bG]<;>try refine aj ?_ ?_)
       exact⟨i+1,by omega,by omega,bk,rfl⟩
      ·rw[g0] at bk;simp only[gy,dT,df,if_false] at bk;rw[bk];refine an ?_;repeat' (intro h<;>simp only[h,go_sem,go_sem_proc,kn,iS,jv,ja,dZ,fq,e0,Aa,yp,Bj,d1,cW,jt,aQ,bO,g0,eX,hj,gn,g5,aS,az,bG]<;>try refine aj ?_ ?_)
    ·have d1:decide ((i:Int)<(D x:Int))=false:=ef;have uN:i=D x:=by omega
     subst uN;rw[lW] at bk;replace bk:=bk.trans (Fv.eq_1 ..);rw[bk];refine an ?_;repeat' (intro h<;>simp only[h,go_sem,go_sem_proc,kn,iS,jv,ja,dZ,fq,e0,Aa,yp,Bj,d1,az]<;>try refine aj ?_ ?_)
   ·refine an ?_;repeat' (intro h<;>simp only[h,go_sem,go_sem_proc,kn,iS,jv,ja,dZ,JI,J,aL,ax,eo,abn,SZ,az]<;>try refine aj ?_ ?_)
def wN (ls:List b0)(n:Nat):List (ej×Bool):=(je n).map (qO o8 ls n)
def On (ls:List b0)(n:Int):List aJ×List aJ×Int :=
 if uD ls n=true then
  (if ((iG (cK n.toNat o8) (cK n.toNat nM) ls).2.2==0)=true then
   (if ((iG (cK n.toNat o8) (cK n.toNat nM) ls).1.any λx => !(x.1.1==0))=true then ([],(iG (cK n.toNat o8) (cK n.toNat nM) ls).1,16)
   else if (wN ls n.toNat).all (·.2)=true then ((me ((wN ls n.toNat).map (·.1)) n.toNat).1,[],(me ((wN ls n.toNat).map (·.1)) n.toNat).2) else ([],[],6))
  else ([],[],(iG (cK n.toNat o8) (cK n.toNat nM) ls).2.2))
 else ([],[],1)
def Cq (s:List aJ×List aJ×Int):Data:=.de [.ay (s.1.map aS),.ay (s.2.1.map aS),.int .i64 s.2.2]
def ad9 {cap base:List aJ}{ls:List b0}(Z:∀f∈cap,okF f)(U:∀f∈base,okF f)(af:(D base)=D cap)(aE:(D cap)<=40):∀(k:Nat) (left:List Bool) (rounds:List (List Nat)),iE (pb cap base ls k left rounds).1
 |0,_,_=>⟨by simp[pb],λf ao=>by cases ao⟩
 |k+1,left,rounds=>by
  have al:iE ([]:List aJ):=⟨by simp,λf ao=>by cases ao⟩
  unfold pb
  split
  ·split
   ·exact al
   ·exact (UT Z U af aE).1
   ·exact ad9 Z U af aE k _ _
  ·exact al
def U0 {cap base:List aJ}{ls:List b0}(h:yg cap base ls):iE (iG cap base ls).1:=by
 unfold iG
 split
 ·rename_i M;obtain⟨U,aE,-⟩:=wM M;exact ad9 h.1.2 h.2.1.2 U aE _ _ _
 ·exact⟨by simp,λf ao=>by cases ao⟩
def Oo:=b1 EV λ(ls,n)=>cu (uB ls) (.same (Cq (On ls n)))
@[go_sem] def aea (ls n):=cL Oo rfl acx (ls,n) rfl
def aqW (T:bl)(kn:T Bc=aT EW)(jv:T vK=aT EX)(oh:T DG=aT IX)(hU:T ze=aT Ft)(iS:T vI=aT s7)(o9:T HC=aT Ju)(pa:T Hq=aT IW):WF T aa2 Oo:=by
 refine cq λ(ls,n)=>cR λZ=>⟨rfl,cr ?_⟩;simp only[aa2,EV,b8];unfold On;rcases M:uD ls n
 ·simp only[df,if_false];refine an ?_;repeat' (intro (aw:_=_)<;>simp only[aw,go_sem,go_sem_proc,kn,jv,oh,hU,iS,o9,pa,Z,M,Cq,cl]<;>try refine aj ?_ ?_)
 ·simp only[if_true];obtain⟨al,Oh,aqU,ga⟩:=ad7 M;obtain⟨n,rfl⟩:=UG al;simp only[pJ];have aE:n<=40:=by omega
  have aQ:=I2 0 (by unfold er;omega);have E:=I2 1 (by unfold er;omega);rw[show bW ((0:Int):Rat)=nM from rfl] at aQ;rw[show bW ((1:Int):Rat)=o8 from rfl] at E;have UK:=N9;have Jv:=UH;have Cn:yg (cK n o8) (cK n nM) ls:=⟨⟨by rw[nJ];omega,λf ao=>by rw[vU] at ao;rw[ao.2];exact Jv⟩,⟨by rw[nJ];omega,λf ao=>by rw[vU] at ao;rw[ao.2];exact UK⟩,Z⟩
  have cm:=Ok _ _ _ Cn;have U1:=U0 Cn;generalize iG (cK n o8) (cK n nM) ls=S at *;obtain⟨z8,aqX,U2⟩:=S;simp only[BR] at cm;dsimp only[yq] at cm U1;dsimp only;have wz:(wN ls n).length=n:=by unfold wN;rw[az,AU]
  have JB:∀i,i<n->(wN ls n)[i]?=some (qO o8 ls n i):=λi O=>by
   unfold wN;rw[bG,q9 O]
   rfl
  have Cg:∀x∈wN ls n,ui x.1:=λx J=>by
   unfold wN at J;rw[h3] at J;obtain⟨i,O,rfl⟩:=J;exact Jx Jv aE
  generalize c3:wN ls n=A at *;generalize nM=Fm at *;generalize o8=av at *;obtain⟨⟨hO,iQ⟩,⟨yn,yo⟩⟩:=Fm;obtain⟨⟨sb,uL⟩,⟨wJ,wK⟩⟩:=av;simp only[aS] at aQ E;have qe:=λs l s2 ab=>acs s l s2 ab n (by omega);rcases p0:(U2==0)
  ·simp only[df,if_false];refine an ?_;repeat' (intro (aw:_=_)<;>simp only[aw,go_sem,go_sem_proc,kn,jv,oh,hU,iS,o9,pa,Z,M,aQ,E,qe,cm,p0,Cq,cl,nJ]<;>try refine aj ?_ ?_)
  ·simp only[if_true];rcases tM:z8.any λx => !(x.1.1==0)
   ·simp only[df,if_false];simp only[go_sem,go_sem_proc,kn,jv,oh,hU,iS,o9,pa,Z,M,aQ,E,qe,cm,p0,U1,tM,abm,SY,nJ]
    refine dM [0,1,42] [386007] (λ((i,g):Nat×Nat) tm m=>i<=n/\(A.take i).all (·.2)=true/\tm 43=.L (.int .i64 i)/\tm 11=.ref 386059 g 5 0 i/\m 386059=some (g,a6 kH ((A.take i).map (·.1)))/\eQ 386 emp m) (λ(i,_)=>n-i) (0,0) (by
     refine⟨eL _,by simp,rfl,?_,?_,?_⟩
     ·simp[j8,aV]
     ·simp[aV,a6,j8]
     ·repeat first|exact eQ.refl _ _|refine eQ.eM ?_ (by decide)) ?_
    intro vs ms a7 aY;simp only[go_sem,go_sem_proc,kn,jv,oh,hU,iS,o9,pa,] at a7 aY;subst a7 aY;rintro⟨i,g⟩ tm m Q hm ⟨O,dQ,U3,nx,Oq,dw⟩;simp only[go_sem,go_sem_proc,kn,jv,oh,hU,iS,o9,pa,bs] at Q hm;obtain⟨fq,cP,U4⟩:=Q;rcases eC (i<n) with au|bO
    ·have d1:decide ((i:Int)<(n:Int))=true:=dW;have cW:=h4 (i:=i) (by omega);have JC:=JB i au;have eB:=UI sb uL wJ wK ls n i ⟨Jv,Z,aE,au,λl af _=>by have:=ga l af;omega⟩
     generalize qO ((sb,uL),(wJ,wK)) ls n i=b6 at *;have Bp:A.take (i+1)=A.take i++[b6]:=by rw[jj,JC];rfl
     have Of:(A.take (i+1)).all (·.2)=b6.2:=by rw[Bp,US,dQ];simp
     have Og:(A.take (i+1)).map (·.1)=(A.take i).map (·.1)++[b6.1]:=by rw[Bp,pU];rfl
     have bY:((A.take i).map (·.1)).length=i:=by rw[az,hf];omega
     have dS:=λ(bS:ej) cs jK=>qm MS (λ_=>rfl) 386059 g 88 ((A.take i).map (·.1)) bS (cs:=cs) jK (by omega) (by omega);simp only[bY] at dS;have jT:b6.2=false->A.all (·.2)=false:=λh=>adU JC h;clear c3 JB;obtain⟨⟨JE,⟨v1,v2⟩,⟨hr,v4⟩⟩,ok⟩:=b6;simp only[kH,aS] at eB;rcases ok
     ·rw[jT rfl];simp only[df,if_false];refine an ?_;repeat' (intro (aw:_=_)<;>simp only[aw,go_sem,go_sem_proc,kn,jv,oh,hU,iS,o9,pa,fq,cP,U4,U3,nx,Oq,hm,d1,cW,E,eB,Cq,cl,aS]<;>try refine aj ?_ ?_)
     ·have uM:=dS (JE,((v1,v2),(hr,v4))) _ rfl;simp only[kH,aS,hv,cl] at uM;rw[<-Og] at uM;refine an ?_;repeat' (intro (aw:_=_)<;>simp only[aw,go_sem,go_sem_proc,kn,jv,oh,hU,iS,o9,pa,fq,cP,U4,U3,nx,Oq,hm,d1,cW,E,eB,uM,aS]<;>try refine aj ?_ ?_)
      exact⟨(i+1,g+1),by dsimp only;omega,by dsimp only;omega,Of,rfl,rfl,rfl,by repeat first|exact dw|refine eQ.eM ?_ (by decide)⟩
    ·have d1:decide ((i:Int)<(n:Int))=false:=ef;have uN:i=n:=by omega
     subst uN;have rZ:A.take i=A:=dz (by omega);rw[rZ] at dQ Oq;rw[dQ];simp only[if_true]
     have ff:=acj (A.map (·.1)) i ⟨by rw[az];omega,λr M=>by
      obtain⟨x,J,rfl⟩:=h3.1 M;exact Cg x J⟩
     have wL:=λ(K:a1->Prop) (st:a1)=>xy (K:=K) (st:=st) MS 11 386059 g (A.map (·.1));rw[az,wz] at wL;generalize me (A.map (·.1)) i=S at *;obtain⟨z8,e⟩:=S;dsimp only at ff ⊢;refine an ?_;repeat' (intro (aw:_=_)<;>simp only[aw,go_sem,go_sem_proc,kn,jv,oh,hU,iS,o9,pa,fq,cP,U4,U3,nx,Oq,hm,d1,wL,ff,Cq,cl]<;>try refine aj ?_ ?_)
   ·simp only[if_true];refine an ?_;repeat' (intro (aw:_=_)<;>simp only[aw,go_sem,go_sem_proc,kn,jv,oh,hU,iS,o9,pa,Z,M,aQ,E,qe,cm,p0,U1,tM,abm,SY,Cq,cl,nJ]<;>try refine aj ?_ ?_)
def aeb:bQ:=b9 28 1 [.cell 2 2 true] (Y [cC 2 144002 dg] (.seq (Y [F 6 0,bt 7 .eql 6 0] (cn 7 [aO 8 (.build dg []),bo 2 2 8])) (Y [bz 3 1] (.seq (Y [F 9 0,bt 10 .lss 9 0] (fT 10 (.ops [aO 3 (.hG (.c (.L (.int .i64 (-1)))))]) .skip)) (Y [eG 4] (.seq (.block 0 (.ghost (.q1 4 144022 1) (.loop  (.seq (Y [F 11 0,bt 12 .neq 11 0] (en 12 0)) (.block 1 (Y [F 13 0,bt 14 .rem 13 1048576,F 5 14] (.seq (Y [F 15 5,bt 16 .lss 15 0] (fT 16 (.ops [F 17 5,aO 18 (.un .neg (.t 17)),F 5 18]) .skip)) (Y [F 19 4,F 20 5,aO 21 (.eg 144021 false [bh 0] 1 1 [(0,1,.t 20)]),aO 22 (.app 144022 [bh 0] 8 (.t 19) (.t 21)),F 4 22] (.ops [F 23 0,bt 24 .quo 23 1048576,F 0 24]))))))))) (.seq (.ghost (.freeze 4) (.ops [F 25 3,F 26 4,bV 27 nv 25 26,bo 2 2 27])) .ret)))))))
def aec:bQ:=b9 60 1 [.t 2] (Y [cS 1 162001 0,cI 2 false] (.seq (Y [bz 3 0] (eW 0 (.seq (Y [F 5 3,aX 6 1 1,aR 7 1 6,ch 8 7,bE 9 .lss 5 8] (en 9 0)) (.seq (.block 1 (Y [aX 12 1 1,aR 13 1 12,F 14 3,bZ 15 1 13 14,aR 16 1 15,bt 17 .lss 16 0,F 18 17,gP 19 18 1 1,gd 20 18 1 19,gf 21 18 3,DO 22 18 1 20 21,gd 23 18 1 22,hA 24 18 .geq 23 1048576,dk 25 18 24] (cn 25 [cI 2 false]))) (.ops [F 10 3,bt 11 .add 10 1,F 3 11]))))) (Y [aX 26 1 1,aR 27 1 26,ch 28 27,F 4 28] (.seq (Y [aX 29 0 1,aR 30 1 29,aO 31 (.bin .lss (.t 30) (.c (.L (.int .i64 (-1))))),F 32 31,gP 33 32 0 1,gd 34 32 1 33,hA 35 32 .gtr 34 1,dk 36 32 35,F 37 36,gf 38 37 4,hA 39 37 .gtr 38 60,dk 40 37 39,F 41 40,gf 42 41 4,hA 43 41 .eql 42 0,gP 44 41 0 1,gd 45 41 1 44,hA 46 41 .eql 45 0,gz 47 41 (.beq true (.t 43) (.t 46)),dk 48 41 47] (cn 48 [cI 2 false])) (Y [F 49 4,bt 50 .eql 49 0,F 51 50,gP 52 51 1 1,gd 53 51 1 52,gf 54 51 4,hA 55 51 .sub 54 1,DO 56 51 1 53 55,gd 57 51 1 56,hA 58 51 .neq 57 0,dk 59 51 58,F 2 59] .ret)))))
def aed:bQ:=b9 13 1 [.cell 2 2 true] (Y [cS 1 163001 0,cC 2 163002 dg] (.seq (Y [bd 3 2 1,dv 4 kC 3,fj 5 4] (cn 5 [aO 6 (.build dg []),bo 2 2 6])) (Y [aX 7 0 1,aR 8 1 7,aO 9 (.un .neg (.t 8)),aX 10 1 1,aR 11 1 10,bV 12 nv 9 11,bo 2 2 12] .ret)))
def aee:bQ:=b9 36 2 [.cell 4 2 true,.t 5] (Y [cS 2 164002 0,cS 3 164003 1,cC 4 164004 dg,bz 5 0] (.seq (Y [bd 10 2 2,dv 11 kC 10,fj 12 11,F 13 12,hz 14 13 2 3,gz 15 13 (.call kC [.t 14]),j9 16 13 15,dk 17 13 16] (cn 17 [aO 18 (.build dg []),bo 2 4 18,bz 5 1])) (Y [aX 19 1 2,aR 20 1 19,F 6 20] (Y [aX 21 1 3,aR 22 1 21,F 7 22] (.seq (eW 0 (.seq (Y [F 23 7,ch 24 23,bt 25 .gtr 24 0] (en 25 0)) (.block 1 (Y [F 27 6,F 28 7,bV 29 Hz 27 28,F 26 29,bb 30 0 26,bb 31 1 26,F 8 30,F 9 31] (Y [F 32 7,F 6 32] (.ops [F 33 9,F 7 33])))))) (Y [F 34 6,aO 35 (.call nv [.c (bh 1),.t 34]),bo 2 4 35,bz 5 0] .ret))))))
def aef:bQ:=b9 65 2 [.cell 4 2 true,.cell 5 2 true,.t 6] (Y [cS 2 165002 0,cS 3 165003 1,cC 4 165004 dg,cC 5 165005 dg,bz 6 0] (.seq (Y [bd 9 2 2,dv 10 kC 9,fj 11 10,F 12 11,hz 13 12 2 3,gz 14 12 (.call kC [.t 13]),j9 15 12 14,dk 16 12 15] (cn 16 [aO 17 (.build dg []),aO 18 (.build dg []),bo 2 4 17,bo 2 5 18,bz 6 1])) (.seq (Y [aX 19 0 3,aR 20 1 19,bt 21 .eql 20 0] (cn 21 [aO 22 (.build dg []),aO 23 (.build dg []),bo 2 4 22,bo 2 5 23,bz 6 15])) (Y [aX 25 1 2,aR 26 1 25,aX 27 1 3,aR 28 1 27,bV 29 Hz 26 28,F 24 29,bb 30 0 24,bb 31 1 24,F 7 30,F 8 31] (.seq (Y [aX 32 0 2,aR 33 1 32,aX 34 0 3,aR 35 1 34,bE 36 .mul 33 35,bt 37 .geq 36 0,F 38 37,gf 39 38 8,rC 40 38 39,hA 41 38 .eql 40 0,dk 42 38 41] (fT 42 (fk [aX 43 0 2,aR 44 1 43,aX 45 0 3,aR 46 1 45,bE 47 .mul 44 46,F 48 7,bV 49 nv 47 48,aX 50 0 2,aR 51 1 50,F 52 8,bV 53 nv 51 52,bo 2 4 49,bo 2 5 53,bz 6 0] L5 .ret) .skip)) (fk [F 54 7,aO 55 (.eg 165055 false [bh 0] 1 1 [(0,1,.c (bh 1))]),bV 56 HA 54 55,aO 57 (.call nv [.c (.L (.int .i64 (-1))),.t 56]),aX 58 0 3,aR 59 1 58,aX 60 1 3,aR 61 1 60,F 62 8,bV 63 zb 61 62,bV 64 nv 59 63,bo 2 4 57,bo 2 5 64,bz 6 0] L5 .ret))))))
def aeg:bQ:=b9 15 2 [.cell 4 2 true] (Y [cC 4 166004 dg] (Y [F 6 1,dv 7 rA 6,F 5 7] (.seq (Y [F 8 5,ch 9 8,bt 10 .eql 9 0] (cn 10 [aO 11 (.build dg []),bo 2 4 11])) (Y [F 12 0,F 13 5,aO 14 (.build dg [(0,1,.t 12),(1,1,.t 13)]),bo 2 4 14] .ret))))
def Ot:bQ:=b9 60 2 [.t 4,.t 5] (Y [eG 4,eG 5] (Y [F 12 0,ch 13 12,aO 14 (.ll 180014 [bh 0] 8 (.t 13) (.t 13)),F 6 14] (Y [eG 7] (.seq (Y [F 15 0,ch 16 15,bt 17 .sub 16 1,F 8 17] (eW 0 (.seq (Y [F 18 8,bt 19 .geq 18 0] (en 19 0)) (.seq (.block 1 (Y [F 22 0,F 23 8,bZ 24 1 22 23,aR 25 1 24,aO 26 (.eg 180026 true [bh 0] 1 1 [(0,1,.t 25)]),F 27 7,aO 28 (.app 180028 [bh 0] 8 (.t 26) (.t 27)),dv 29 rA 28,F 7 29] (Y [bz 9 0] (Y [bz 10 1048576] (.seq (eW 2 (.seq (Y [F 30 10,F 31 9,bE 32 .sub 30 31,bt 33 .gtr 32 1] (en 33 2)) (.block 3 (Y [F 34 9,F 35 10,bE 36 .add 34 35,bt 37 .quo 36 2,F 11 37] (Y [F 38 7,F 39 1,F 40 11,aO 41 (.eg 180041 false [bh 0] 1 1 [(0,1,.t 40)]),bV 42 A8 39 41,bV 43 zc 38 42] (fT 43 (.ops [F 44 11,F 10 44]) (.ops [F 45 11,F 9 45]))))))) (Y [F 46 6,F 47 8,F 48 9,bZ 49 1 46 47,bo 1 49 48] (.ops [F 50 7,F 51 1,F 52 9,aO 53 (.eg 180053 false [bh 0] 1 1 [(0,1,.t 52)]),dv 54 rA 53,bV 55 A8 51 54,bV 56 zb 50 55,F 7 56]))))))) (.ops [F 20 8,bt 21 .sub 20 1,F 8 21]))))) (Y [F 57 6,dv 58 rA 57,F 59 7,F 4 58,F 5 59] .ret)))))
def aeh:bQ:=b9 43 2 [.t 4] (Y [eG 4] (Y [eG 5] (Y [bz 6 0] (.seq (Y [bz 7 0] (.block 0 (.ghost (.q1 5 181038 1) (.loop  (.seq (Y [F 9 7,F 10 0,ch 11 10,bE 12 .lss 9 11,F 13 12,gf 14 13 7,gf 15 13 1,rC 16 13 15,qu 17 13 .lss 14 16,dk 18 13 17,F 19 18,gf 20 19 6,hA 21 19 .gtr 20 0,dk 22 19 21] (en 22 0)) (.seq (.block 1 (Y [F 25 0,F 26 7,bV 27 rB 25 26,F 28 1,F 29 7,bV 30 rB 28 29,bE 31 .add 27 30,F 32 6,bE 33 .add 31 32,F 8 33] (Y [F 34 5,F 35 8,bt 36 .rem 35 1048576,aO 37 (.eg 181037 false [bh 0] 1 1 [(0,1,.t 36)]),aO 38 (.app 181038 [bh 0] 8 (.t 34) (.t 37)),F 5 38] (.ops [F 39 8,bt 40 .quo 39 1048576,F 6 40])))) (.ops [F 23 7,bt 24 .add 23 1,F 7 24]))))))) (Y [F 41 5,dv 42 rA 41,F 4 42] .ret)))))
def aei:bQ:=b9 35 2 [.t 4] (Y [eG 4] (Y [eG 5] (Y [bz 6 0] (.seq (Y [bz 7 0] (.block 0 (.ghost (.q1 5 182032 1) (.loop  (.seq (Y [F 9 7,F 10 0,ch 11 10,bE 12 .lss 9 11] (en 12 0)) (.seq (.block 1 (fk [F 15 0,F 16 7,bZ 17 1 15 16,aR 18 1 17,F 19 1,F 20 7,bV 21 rB 19 20,bE 22 .sub 18 21,F 23 6,bE 24 .sub 22 23,F 8 24] L3 (Y [bz 6 0] (.seq (Y [F 25 8,bt 26 .lss 25 0] (fT 26 (Y [F 27 8,bt 28 .add 27 1048576,F 8 28] (.ops [bz 6 1])) .skip)) (.ops [F 29 5,F 30 8,aO 31 (.eg 182031 false [bh 0] 1 1 [(0,1,.t 30)]),aO 32 (.app 182032 [bh 0] 8 (.t 29) (.t 31)),F 5 32]))))) (.ops [F 13 7,bt 14 .add 13 1,F 7 14]))))))) (Y [F 33 5,dv 34 rA 33,F 4 34] .ret)))))
def aej:bQ:=b9 23 1 [.t 2] (Y [eG 2] (Y [F 4 0,ch 5 4,F 3 5] (.seq (eW 0 (.seq (Y [F 6 3,bt 7 .gtr 6 0,F 8 7,ey 9 8 0,ey 10 8 3,ka 11 8 .sub 10 1,rD 12 8 1 9 11,kD 13 8 1 12,ka 14 8 .eql 13 0,gb 15 8 14] (en 15 0)) (.block 1 (.ops [F 16 3,bt 17 .sub 16 1,F 3 17])))) (Y [aO 18 (.eg 183018 true [] 1 0 []),F 19 0,F 20 3,aO 21 (.qa 1 (.t 19) none (some (.t 20)) none),aO 22 (.app 183022 [bh 0] 8 (.t 18) (.t 21)),F 2 22] .ret))))
def aek:bQ:=b9 30 2 [.t 4] (Y [cI 4 false] (.seq (Y [F 6 0,ch 7 6,F 8 1,ch 9 8,aO 10 (.kR true (.t 7) (.t 9)),bt 11 .sub 10 1,F 5 11] (eW 0 (.seq (Y [F 12 5,bt 13 .geq 12 0] (en 13 0)) (.seq (.block 1 (Y [F 16 0,F 17 5,bV 18 rB 16 17,F 19 1,F 20 5,bV 21 rB 19 20,bE 22 .neq 18 21] (cn 22 [F 23 0,F 24 5,bV 25 rB 23 24,F 26 1,F 27 5,bV 28 rB 26 27,bE 29 .lss 25 28,F 4 29]))) (.ops [F 14 5,bt 15 .sub 14 1,F 5 15]))))) (Y [cI 4 false] .ret)))
def ael:bQ:=b9 60 2 [.t 4] (Y [eG 4] (Y [F 10 0,ch 11 10,F 12 1,ch 13 12,bE 14 .add 11 13,aO 15 (.ll 186015 [bh 0] 8 (.t 14) (.t 14)),F 5 15] (.seq (Y [bz 6 0] (eW 0 (.seq (Y [F 16 6,F 17 0,ch 18 17,bE 19 .lss 16 18] (en 19 0)) (.seq (.block 1 (Y [bz 7 0] (Y [bz 8 0] (eW 2 (.seq (Y [F 22 8,F 23 1,ch 24 23,bE 25 .lss 22 24,F 26 25,gf 27 26 7,hA 28 26 .gtr 27 0,dk 29 26 28] (en 29 2)) (.seq (.block 3 (fk [F 32 5,F 33 6,F 34 8,bE 35 .add 33 34,bZ 36 1 32 35,aR 37 1 36,F 38 0,F 39 6,bZ 40 1 38 39,aR 41 1 40,F 42 1,F 43 8,bV 44 rB 42 43,bE 45 .mul 41 44,bE 46 .add 37 45,F 47 7,bE 48 .add 46 47,F 9 48] akx (Y [F 49 5,F 50 6,F 51 8,bE 52 .add 50 51,F 53 9,bt 54 .rem 53 1048576,bZ 55 1 49 52,bo 1 55 54] (.ops [F 56 9,bt 57 .quo 56 1048576,F 7 57])))) (.ops [F 30 8,bt 31 .add 30 1,F 8 31]))))))) (.ops [F 20 6,bt 21 .add 20 1,F 6 21]))))) (Y [F 58 5,dv 59 rA 58,F 4 59] .ret))))
def aem:bQ:=b9 13 2 [.t 4] (Y [bz 4 0] (.seq (Y [F 5 1,F 6 0,ch 7 6,bE 8 .lss 5 7] (cn 8 [F 9 0,F 10 1,bZ 11 1 9 10,aR 12 1 11,F 4 12])) (Y [bz 4 0] .ret)))
def aen:bQ:=b9 29 2 [.cell 4 2 true,.t 5] (Y [cS 2 202002 0,cS 3 202003 1,cC 4 202004 dg,bz 5 0] (.seq (Y [bd 6 2 2,dv 7 kC 6,fj 8 7,F 9 8,hz 10 9 2 3,gz 11 9 (.call kC [.t 10]),j9 12 9 11,dk 13 9 12] (cn 13 [aO 14 (.build dg []),bo 2 4 14,bz 5 1])) (fk [aX 15 0 2,aR 16 1 15,aX 17 0 3,aR 18 1 17,bE 19 .mul 16 18,aX 20 1 2,aR 21 1 20,aX 22 1 3,aR 23 1 22,bV 24 A8 21 23,bV 25 nv 19 24,dv 26 A9 25,bb 27 0 26,bb 28 1 26,bo 2 4 27,F 5 28] HG .ret)))
def aeo:bQ:=b9 37 2 [.t 4] (Y [cS 2 205002 0,cS 3 205003 1,bz 4 0] (.seq (Y [bd 5 2 2,dv 6 kC 5,fj 7 6,F 8 7,hz 9 8 2 3,gz 10 8 (.call kC [.t 9]),j9 11 8 10,dk 12 8 11,F 13 12,hz 14 13 2 2,hz 15 13 2 3,gz 16 13 (.call Rt [.t 14,.t 15]),dk 17 13 16] (cn 17 [bz 4 0])) (.seq (Y [aX 18 0 2,aR 19 1 18,aX 20 0 3,aR 21 1 20,bE 22 .neq 19 21] (fT 22 (.seq (Y [aX 23 0 2,aR 24 1 23,aX 25 0 3,aR 26 1 25,bE 27 .lss 24 26] (cn 27 [aO 4 (.hG (.c (.L (.int .i64 (-1)))))])) (Y [bz 4 1] .ret)) .skip)) (.seq (fk [aX 28 1 2,aR 29 1 28,aX 30 1 3,aR 31 1 30,bV 32 zc 29 31,aX 33 0 2,aR 34 1 33,bt 35 .gtr 34 0,aO 36 (.beq false (.t 32) (.t 35))] RH (cn 36 [aO 4 (.hG (.c (.L (.int .i64 (-1)))))])) (Y [bz 4 1] .ret)))))
def aep:bQ:=b9 71 2 [.cell 4 2 true,.t 5] (Y [cS 2 206002 0,cS 3 206003 1,cC 4 206004 dg,bz 5 0] (.seq (Y [bd 6 2 2,dv 7 kC 6,fj 8 7,F 9 8,hz 10 9 2 3,gz 11 9 (.call kC [.t 10]),j9 12 9 11,dk 13 9 12] (cn 13 [aO 14 (.build dg []),bo 2 4 14,bz 5 1])) (.seq (Y [aX 15 0 2,aR 16 1 15,bt 17 .eql 16 0,F 18 17,gP 19 18 0 3,gd 20 18 1 19,hA 21 18 .eql 20 0,dk 22 18 21,F 23 22,gP 24 23 0 2,gd 25 23 1 24,gP 26 23 0 3,gd 27 23 1 26,qu 28 23 .eql 25 27,dk 29 23 28] (fT 29 (fk [aX 30 0 2,aR 31 1 30,aX 32 0 3,aR 33 1 32,bE 34 .or 31 33,aX 35 1 2,aR 36 1 35,aX 37 1 3,aR 38 1 37,bV 39 HA 36 38,bV 40 nv 34 39,dv 41 A9 40,bb 42 0 41,bb 43 1 41,bo 2 4 42,F 5 43] HG .ret) .skip)) (.seq (Y [aX 44 1 2,aR 45 1 44,aX 46 1 3,aR 47 1 46,bV 48 zc 45 47] (fT 48 (fk [aX 49 0 3,aR 50 1 49,aX 51 1 3,aR 52 1 51,aX 53 1 2,aR 54 1 53,bV 55 zb 52 54,bV 56 nv 50 55,dv 57 A9 56,bb 58 0 57,bb 59 1 57,bo 2 4 58,F 5 59] L4 .ret) .skip)) (fk [aX 60 0 2,aR 61 1 60,aX 62 1 2,aR 63 1 62,aX 64 1 3,aR 65 1 64,bV 66 zb 63 65,bV 67 nv 61 66,dv 68 A9 67,bb 69 0 68,bb 70 1 68,bo 2 4 69,F 5 70] L4 .ret)))))
def aeq:bQ:=b9 10 1 [.cell 2 2 true,.t 3] (Y [cS 1 209001 0,cC 2 209002 dg,bz 3 0] (.seq (Y [aX 4 1 1,aR 5 1 4,ch 6 5,bt 7 .gtr 6 60] (cn 7 [aO 8 (.build dg []),bo 2 2 8,bz 3 6])) (Y [bd 9 2 1,bo 2 2 9,bz 3 0] .ret)))
def aer:bQ:=b9 38 2 [.t 4] (Y [cS 2 210002 0,cS 3 210003 1,cI 4 false] (.seq (Y [aX 6 0 2,aR 7 1 6,aX 8 0 3,aR 9 1 8,bE 10 .neq 7 9,F 11 10,gP 12 11 1 2,gd 13 11 1 12,rC 14 11 13,gP 15 11 1 3,gd 16 11 1 15,rC 17 11 16,qu 18 11 .neq 14 17,dk 19 11 18] (cn 19 [cI 4 false])) (.seq (Y [bz 5 0] (eW 0 (.seq (Y [F 20 5,aX 21 1 2,aR 22 1 21,ch 23 22,bE 24 .lss 20 23] (en 24 0)) (.seq (.block 1 (fk [aX 27 1 2,aR 28 1 27,F 29 5,bZ 30 1 28 29,aR 31 1 30,aX 32 1 3,aR 33 1 32,F 34 5,bZ 35 1 33 34,aR 36 1 35,bE 37 .neq 31 36] L3 (cn 37 [cI 4 false]))) (.ops [F 25 5,bt 26 .add 25 1,F 5 26]))))) (Y [cI 4 true] .ret))))
def Fw (l:List Int):Ds (.own 1 (l.map aH))=some (.own 1 (l.map aH)):=by
 refine aq ?_;rw[jO];intro e he;obtain⟨d,-,rfl⟩:=h3.1 he;simp[aH,scalar]
def Cr (n k g sz off len:Nat):c2 n emp (.ref k g sz off len)=none:=by cases n<;>rfl
def yr:=b1 vL λ(l:List Int)=>cu (D l<=1000000) (.own 1 ((fh l).map aH))
@[go_sem] def Cs (l):=cL yr rfl L7 l rfl
def aqY (T:bl):WF T aej yr:=by
 refine cq λl=>cR λZ=>⟨rfl,cr ?_⟩;simp only[aej,vL,b8];have mU:((l.map aH).all λe=>D e==1)=true:=by simp[aH]
 refine an ?_;repeat' (intro h<;>simp only[h,go_sem,go_sem_proc,az]<;>try refine aj ?_ ?_)
 refine dM [0] [] (λ(n:Nat) tm mem=>n<=D l/\fh l=fh (l.take n)/\tm 3=.L (.int .i64 n)/\mem 183018=none) (λn=>n) (D l) (by refine⟨bM _,by simp,by simp[go_sem],rfl⟩) ?_;intro vs ms a7 aY;simp only[go_sem,go_sem_proc,az] at a7 aY;subst a7 aY;rintro n tm mem Q-⟨aE,bC,ad,U5⟩;simp only[go_sem,go_sem_proc,bs] at Q;have al:=Q
 have dS:∀o:List Int,D o<=(D l)->mw 183018 0 1 0 8 (D o) ((o.map aH).flatten.map .L) (some (0,[]))=some (.ref 183018 1 1 0 (D o),some (183018,1,a6 aH o)):=by
  intro o aZ;have:=DB iO vG 183018 0 8 [] o (by simp;omega) (by simp;omega)
  simpa [a6] using this
 have vt:∀(o:List Int) (m:Mem),m 183018=some (1,a6 aH o)->ql 1 m (.ref 183018 1 1 0 (D o))=some (o.map aH):=by
  intro o m hm;have:=Zn hm (bM _);rwa [dz (bM _)] at this
 have JJ:∀o:List Int,((o.map aH).all λe=>D e==1)=true:=λo=>by simp[aH]
 rcases n with _|n
 ·have E:=dS [] (by simp);have aZ:=vt [];simp only[cl,aes,lD] at E aZ;refine an ?_;repeat' (intro h<;>simp only[h,go_sem,go_sem_proc,al,ad,U5,mU,E,nw,n2,show ¬ ((0:Int)>0) by omega,decide_false,az,show (0:Int).toNat=0 from rfl,show (0:Int)<=0 by omega,eL,List.take_zero,cl,lD]<;>try refine aj ?_ ?_)
  rw[aZ _ (by simp[aV]),bC];simp[fh]
 ·have hw:IntKind.i64.wrap (((n+1:Nat):Int)-1)=(n:Int):=by rw[fg _];omega
  have J:l[n]?=some l[n]:=bB (by omega);have hn:((n+1:Nat):Int)>0:=by omega
  have hle:n+1<=D l:=aE
  by_cases aQ:l[n]=0
  ·refine an ?_;repeat' (intro h<;>simp only[h,go_sem,go_sem_proc,al,ad,hw,J,aQ,hn,az,bG,decide_true,aH,beq_self_eq_true,bs]<;>try refine aj ?_ ?_)
   exact⟨n,by omega,by omega,by rw[bC,RI l n (by omega) aQ],rfl,U5⟩
  ·have sK:(l[n]==0)=false:=by simpa using aQ
   have E:=dS (l.take (n+1)) (by rw[hf];omega);rw[hf,mS hle,aet] at E;have bq:(oK (n+1) (l.map aH)).length=n+1:=by rw[hf,az];omega
   have aeu:=JJ (l.take (n+1));rw[aet] at aeu;refine an ?_;repeat' (intro h<;>simp only[h,go_sem,go_sem_proc,al,ad,U5,hw,J,sK,hn,mU,aeu,hle,E,bq,aH,az,bG,decide_true,bs,show (0:Int)<=((n+1:Nat):Int) by omega,pJ,eL]<;>try refine aj ?_ ?_)
   have aZ:=vt (l.take (n+1)) _ (show aV (aV mem 183018 0 []) 183018 1 (a6 aH (oK (n+1) l)) 183018=_ by simp[aV])
   rw[hf,mS hle] at aZ;rw[aZ,bC,RJ l n (by omega) aQ]
abbrev Ou:(List Int)×Nat->List Data:=λ(l,i)=>[.ay (l.map aH),.int .i64 i]
def Ct:=b1 Ou λ(l,i)=>cu (D l<=1000000) (.same (.int .i64 (l.getD i 0)))
def aqZ:∀a b,Ou a=Ou b->a=b:=by
  rintro⟨ig,i1⟩ ⟨ab,i2⟩ h;simp only[bs,Data.ay.injEq,Data.int.injEq] at h;exact cy (map_inj fi _ _ h.1) (by have:=h.2.1.2;dsimp only;omega)
@[go_sem] def aev (l i):=cL Ct rfl aqZ (l,i) rfl
def aq0 (T:bl):WF T aem Ct:=by
 refine cq λ(l,i)=>cR λZ=>⟨rfl,cr ?_⟩;simp only[aem,Ou,b8];rcases fE i (D l) with au|bO
 ·have J:=bB au;have ae:decide ((i:Int)<(D l:Int))=true:=dW;have aC:l.getD i 0=l[i]:=by rw[eF,J];rfl
  rw[aC];refine an ?_;repeat' (intro h<;>simp only[h,go_sem,go_sem_proc,J,ae,aH,az,bG]<;>try refine aj ?_ ?_)
 ·have ae:decide ((i:Int)<(D l:Int))=false:=ef;have aC:l.getD i 0=0:=by rw[eF,mO bO];rfl
  rw[aC];refine an ?_;repeat' (intro h<;>simp only[h,go_sem,go_sem_proc,ae,az]<;>try refine aj ?_ ?_)
def Fx (n i:Nat):(aG n).getD i 0=((n/1048576^i%1048576:Nat):Int):=by
 induction i generalizing n with
 |zero =>
  rcases iK n with h|h
  ·subst h;rfl
  ·rw[sH h,Nat.pow_zero,Nat.div_one];rfl
 |succ i aF =>
  rcases iK n with h|h
  ·subst h;rw[aew];rfl
  ·rw[sH h];show (aG (n/1048576)).getD i 0=_;rw[aF,aex,<-Nat.pow_succ']
def Fy (n i:Nat):n/1048576^i=n/1048576^i%1048576+1048576*(n/1048576^(i+1)):=by
 rw[rv,<-aex];omega
def Ab {n k:Nat}(h:(aG n).length<=k):n/1048576^k=0:=Nat.div_eq_of_lt (fw.1 h)
def Cu:=b1 lH λ(x,y)=>cu ((aG x).length<=100000/\(aG y).length<=100000) (.same (.bool (decide (x<y))))
@[go_sem] def U6 (x y):=cL Cu rfl vQ (x,y) rfl
def aq1 (T:bl)(gS:T rB=aT Ct):WF T aek Cu:=by
 refine cq λ(x,y)=>cR λZ=>⟨rfl,cr ?_⟩;simp only[aek,lH,b8];obtain⟨J,ag⟩:=Z;have h6:∃a4:Nat,a4=max (aG x).length (aG y).length:=⟨_,rfl⟩;obtain⟨a4,h6⟩:=h6;have gk:(if ((aG y).length:Int)>((aG x).length:Int) then ((aG y).length:Int) else ((aG x).length:Int))=(a4:Int):=by split<;>omega
 have zs:IntKind.i64.wrap ((a4:Int)-1)=(a4:Int)-1:=wrap64 _ (by omega) (by omega);have m6:(aG x).length<=1000000:=by omega
 have kh:(aG y).length<=1000000:=by omega
 simp only[go_sem,go_sem_proc,gS,c4,az,gk,zs];refine dM [0,1] [] (λ(i:Nat) tm mem=>i<=a4/\x/1048576^i=y/1048576^i/\tm 5=.L (.int .i64 ((i:Int)-1))) (λi=>i) a4 (by refine⟨bM _,?_,rfl⟩;rw[Ab (by omega),Ab (by omega)]) ?_;intro vs ms a7 aY;simp only[go_sem,go_sem_proc,gS,c4] at a7 aY;subst a7 aY;rintro i tm mem Q-⟨O,he,bp⟩;simp only[go_sem,go_sem_proc,gS,bs] at Q;obtain⟨al,E⟩:=Q;rcases i with _|i
 ·have ky:x=y:=by simpa using he
  have au:decide (x<y)=false:=ef;rw[au];simp only[go_sem,go_sem_proc,gS,al,E,bp,nw,n2,show ¬ ((0:Int)-1>=0) by omega,decide_false]
  repeat' (first|refine aj ?_ ?_|fail)<;>intro h<;>simp only[h,go_sem,go_sem_proc,gS,al,E,bp,nw,n2,show ¬ ((0:Int)-1>=0) by omega,decide_false]
 ·have hw:((i+1:Nat):Int)-1=(i:Int):=by omega
  have bO:decide ((i:Int)>=0)=true:=dW;have aL:=Fy x i;have ax:=Fy y i;rw[he] at aL;have fI:IntKind.i64.wrap ((i:Int)-1)=(i:Int)-1:=wrap64 _ (by omega) (by omega);have cA:=Fx x i;have cY:=Fx y i;have cQ:=m1 (x/1048576^i) (show 0<1048576 by omega);have dO:=m1 (y/1048576^i) (show 0<1048576 by omega);have br:x/1048576^i<y/1048576^i->x<y:=λh=>aey h;have bq:y/1048576^i<x/1048576^i->y<x:=λh=>aey h;generalize qw:x/1048576^i=X at *;generalize qC:y/1048576^i=c5 at *;generalize y/1048576^(i+1)=Fm at *;generalize X%1048576=a at *;generalize c5%1048576=b at *;rcases Nat.lt_trichotomy a b with h|h|h
  ·have bc:((a:Int)==(b:Int))=false:=by simp;omega
   have om:decide ((a:Int)<(b:Int))=decide (x<y):=by rw[lU (show (a:Int)<(b:Int) by omega),lU (br (by omega))]
   simp only[go_sem,go_sem_proc,gS,al,E,bp,hw,bO,cA,cY,m6,kh,bc,om];repeat' (first|refine aj ?_ ?_|fail)<;>intro h<;>simp only[h,go_sem,go_sem_proc,gS,al,E,bp,hw,bO,cA,cY,m6,kh,bc,om]
  ·subst h;simp only[go_sem,go_sem_proc,gS,al,E,bp,hw,bO,cA,cY,m6,kh,fI,beq_self_eq_true];repeat' (first|refine aj ?_ ?_|fail)<;>intro h<;>simp only[h,go_sem,go_sem_proc,gS,al,E,bp,hw,bO,cA,cY,m6,kh,fI,beq_self_eq_true]
   exact⟨i,by omega,by omega,by rw[qw,qC];omega,rfl⟩
  ·have bc:((a:Int)==(b:Int))=false:=by simp;omega
   have om:decide ((a:Int)<(b:Int))=decide (x<y):=by rw[j2 (show ¬ (a:Int)<(b:Int) by omega),j2 (by have:=bq (by omega);omega)]
   simp only[go_sem,go_sem_proc,gS,al,E,bp,hw,bO,cA,cY,m6,kh,bc,om];repeat' (first|refine aj ?_ ?_|fail)<;>intro h<;>simp only[h,go_sem,go_sem_proc,gS,al,E,bp,hw,bO,cA,cY,m6,kh,bc,om]
def U7 {o:List Int}{d:Int}(h:ec o)(al:0<=d)(E:d<1048576):ec (o++[d]):=AY.2 ⟨h,AX.2 ⟨⟨al,E⟩,by intro d ae;cases ae⟩⟩
def U8 (o:List Int)(d:Int):aW (o++[d])=aW o+1048576^(D o)*d:=by rw[AZ];simp[aW]
def Fz {o:List Int}{n:Nat}(h:ec o)(ai:aW o=n):fh o=aG n:=by rw[xD h,ai];rfl
def JK:=b1 lH λ(x,y)=>cu ((aG x).length<=10000/\(aG y).length<=10000) (.same (c4 (x+y)))
@[go_sem] def aez (x y):=cL JK rfl vQ (x,y) rfl
def aq2 (T:bl)(gS:T rB=aT Ct)(gT:T rA=aT yr):WF T aeh JK:=by
 refine cq λ(x,y)=>cR λZ=>⟨rfl,cr ?_⟩;simp only[aeh,lH,b8];obtain⟨J,ag⟩:=Z;have h6:∃a4:Nat,a4=max (aG x).length (aG y).length:=⟨_,rfl⟩;obtain⟨a4,h6⟩:=h6;have m6:(aG x).length<=1000000:=by omega
 have kh:(aG y).length<=1000000:=by omega
 simp only[go_sem,go_sem_proc,gS,gT,c4,az];refine dM [0,1] [] (λ((i,c,g,o):Nat×Nat×Nat×List Int) tm mem=>i<=a4+1/\c<=1/\(i=a4+1->c=0)/\D o=i/\ec o/\aW o+1048576^i*((x/1048576^i+y/1048576^i+c:Nat):Int)=((x+y:Nat):Int)/\tm 6=.L (.int .i64 c)/\tm 7=.L (.int .i64 i)/\tm 5=.ref 181038 g 1 0 i/\mem 181038=some (g,a6 aH o)) (λ(i,_)=>a4+1-i) (0,0,0,[]) (by refine⟨by omega,by omega,by simp,rfl,by simp[ec],by simp[aW],rfl,rfl,rfl,rfl⟩) ?_;intro vs ms a7 aY;simp only[go_sem,go_sem_proc,gS,gT,c4] at a7 aY;subst a7 aY;rintro⟨i,c,g,o⟩ tm mem Q-⟨O,iu,zq,aZ,hM,ai,bD,bL,bp,hm⟩;simp only[go_sem,go_sem_proc,gS,gT,bs] at Q;obtain⟨al,E⟩:=Q;have aD:aW o+1048576^i*((x/1048576^i+y/1048576^i+c:Nat):Int)=((x+y:Nat):Int):=ai
 by_cases bk:i<(aG x).length\/i<(aG y).length\/0<c
 ·have aL:=Fy x i;have ax:=Fy y i;have cA:=Fx x i;have cY:=Fx y i;have cQ:=m1 (x/1048576^i) (show 0<1048576 by omega);have dO:=m1 (y/1048576^i) (show 0<1048576 by omega);have H9:a4<=i->x/1048576^i=0/\y/1048576^i=0:=λh=>⟨Ab (by omega),Ab (by omega)⟩;have h8:(1048576:Int)^(i+1)=1048576^i*1048576:=l3 _ _;generalize qw:x/1048576^i=X at *;generalize qC:y/1048576^i=c5 at *;generalize FA:x/1048576^(i+1)=X' at *;generalize FB:y/1048576^(i+1)=Y' at *;generalize a5:X%1048576=a at *;generalize U:c5%1048576=b at *;have w1:IntKind.i64.wrap ((a:Int)+(b:Int))=((a+b:Nat):Int):=by rw[fg _];omega
  have gi:IntKind.i64.wrap (((a+b:Nat):Int)+(c:Int))=((a+b+c:Nat):Int):=by rw[fg _];omega
  have lf:((a+b+c:Nat):Int).tmod 1048576=(((a+b+c)%1048576:Nat):Int):=by rw[HR (by omega)];omega
  have mj:IntKind.i64.wrap (((a+b+c:Nat):Int).tdiv 1048576)=(((a+b+c)/1048576:Nat):Int):=by rw[DY (by omega),wrap64 _ (by omega) (by omega)];omega
  have cW:=h4 (i:=i) (by omega);have dS:=qm iO vG 181038 g 8 o (((a+b+c)%1048576:Nat):Int) (cs:=[.L (.int .i64 (((a+b+c)%1048576:Nat):Int))]) rfl (by omega) (by omega);rw[aZ] at dS
  have aAq:i<=a4:=by
   rcases fE a4 i with h|h
   ·have:=zq (by omega);omega
   ·exact h
  have kX:∃a0:Nat×Nat×Nat×List Int,a4+1-a0.1<a4+1-i/\a0.1<=a4+1/\a0.2.1<=1/\(a0.1=a4+1->a0.2.1=0)/\a0.2.2.2.length=a0.1/\ec a0.2.2.2/\aW a0.2.2.2+1048576^a0.1*((x/1048576^a0.1+y/1048576^a0.1+a0.2.1:Nat):Int)=((x+y:Nat):Int)/\I.L (Data.int .i64 (((a+b+c)/1048576:Nat):Int))=I.L (Data.int .i64 (a0.2.1:Int))/\I.L (Data.int .i64 ((i+1:Nat):Int))=I.L (Data.int .i64 (a0.1:Int))/\I.ref 181038 (g+1) 1 0 (i+1)=I.ref 181038 a0.2.2.1 1 0 a0.1/\some (g+1,a6 aH (o++[(((a+b+c)%1048576:Nat):Int)]))=some (a0.2.2.1,a6 aH a0.2.2.2):=by
   refine⟨(i+1,(a+b+c)/1048576,g+1,o++[(((a+b+c)%1048576:Nat):Int)]),by dsimp only;omega,by dsimp only;omega,by dsimp only;omega,?_,by simp[aZ],U7 hM (by omega) (by omega),?_,rfl,rfl,rfl,rfl⟩
   ·intro h;dsimp only at h ⊢;have:=H9 (by omega);omega
   ·dsimp only;rw[FA,FB,U8,aZ,h8,<-aD];have eo:((X+c5+c:Nat):Int)=1048576*((X'+Y'+(a+b+c)/1048576:Nat):Int)+(((a+b+c)%1048576:Nat):Int):=by omega
    rw[eo,hx,hy];omega
  by_cases Dr:i<(aG x).length
  ·have d1:decide ((i:Int)<((aG x).length:Int))=true:=dW;refine an ?_;repeat' (intro (aw:_=_)<;>simp only[aw,go_sem,go_sem_proc,gS,gT,al,E,bp,bD,bL,hm,cA,cY,m6,kh,d1,w1,gi,lf,mj,cW,dS,az]<;>try refine aj ?_ ?_)
   exact kX
  ·have d1:decide ((i:Int)<((aG x).length:Int))=false:=ef
   by_cases tF:i<(aG y).length
   ·have d2:decide ((i:Int)<((aG y).length:Int))=true:=dW;refine an ?_;repeat' (intro (aw:_=_)<;>simp only[aw,go_sem,go_sem_proc,gS,gT,al,E,bp,bD,bL,hm,cA,cY,m6,kh,d1,d2,w1,gi,lf,mj,cW,dS,az]<;>try refine aj ?_ ?_)
    exact kX
   ·have d2:decide ((i:Int)<((aG y).length:Int))=false:=ef;have d3:decide ((c:Int)>0)=true:=dW;refine an ?_;repeat' (intro (aw:_=_)<;>simp only[aw,go_sem,go_sem_proc,gS,gT,al,E,bp,bD,bL,hm,cA,cY,m6,kh,d1,d2,d3,w1,gi,lf,mj,cW,dS,az]<;>try refine aj ?_ ?_)
    exact kX
 ·have d1:decide ((i:Int)<((aG x).length:Int))=false:=ef;have d2:decide ((i:Int)<((aG y).length:Int))=false:=ef;have d3:decide ((c:Int)>0)=false:=ef;rw[Ab (n:=x) (by omega),Ab (n:=y) (by omega),show c=0 by omega] at aD
  have cp:=Cs o (by omega);rw[Fz (n:=x+y) hM (by simpa using aD)] at cp;have b2:=Fw (aG (x+y));have iN:=pG (n:=5) iO hm;rw[aZ] at iN;refine an ?_;repeat' (intro (aw:_=_)<;>simp only[aw,go_sem,go_sem_proc,gS,gT,al,E,bp,bD,bL,hm,d1,d2,d3,cp,b2,iN,Cr,s9,az]<;>try refine aj ?_ ?_)
def FC:=b1 lH λ(x,y)=>cu ((aG x).length<=10000/\(aG y).length<=10000/\y<=x) (.same (c4 (x-y)))
@[go_sem] def Ov (x y):=cL FC rfl vQ (x,y) rfl
def aq3 (T:bl)(gS:T rB=aT Ct)(gT:T rA=aT yr):WF T aei FC:=by
 refine cq λ(x,y)=>cR λZ=>⟨rfl,cr ?_⟩;simp only[aei,lH,b8];obtain⟨J,ag,ky⟩:=Z;have m6:(aG x).length<=1000000:=by omega
 have kh:(aG y).length<=1000000:=by omega
 have Zt:(aG y).length<=(aG x).length:=by rw[fw];exact vS ky (fw.1 (bM _))
 simp only[go_sem,go_sem_proc,gS,gT,c4,az];refine dM [0,1] [] (λ((i,c,g,o):Nat×Nat×Nat×List Int) tm mem=>i<=(aG x).length/\c<=1/\y/1048576^i+c<=x/1048576^i/\D o=i/\ec o/\aW o+1048576^i*((x/1048576^i-(y/1048576^i+c):Nat):Int)=((x-y:Nat):Int)/\tm 6=.L (.int .i64 c)/\tm 7=.L (.int .i64 i)/\tm 5=.ref 182032 g 1 0 i/\mem 182032=some (g,a6 aH o)) (λ(i,_)=>(aG x).length-i) (0,0,0,[]) (by refine⟨by omega,by omega,by simpa using ky,rfl,by simp[ec],by simp[aW],rfl,rfl,rfl,rfl⟩) ?_;intro vs ms a7 aY;simp only[go_sem,go_sem_proc,gS,gT,c4] at a7 aY;subst a7 aY;rintro⟨i,c,g,o⟩ tm mem Q-⟨O,iu,hle,aZ,hM,ai,bD,bL,bp,hm⟩;simp only[go_sem,go_sem_proc,gS,gT,bs] at Q;obtain⟨al,E⟩:=Q;have aD:aW o+1048576^i*((x/1048576^i-(y/1048576^i+c):Nat):Int)=((x-y:Nat):Int):=ai;have GI:y/1048576^i+c<=x/1048576^i:=hle
 by_cases bk:i<(aG x).length
 ·have d1:decide ((i:Int)<((aG x).length:Int))=true:=dW;have aL:=Fy x i;have ax:=Fy y i;have cA:=Fx x i;rw[eF,bB bk] at cA;have fX:(aG x)[i]?=some ((x/1048576^i%1048576:Nat):Int):=by rw[bB bk];exact congrArg some cA
  have cY:=Fx y i;have cQ:=m1 (x/1048576^i) (show 0<1048576 by omega);have dO:=m1 (y/1048576^i) (show 0<1048576 by omega);have h8:(1048576:Int)^(i+1)=1048576^i*1048576:=l3 _ _;clear cA hle ai;generalize qw:x/1048576^i=X at *;generalize qC:y/1048576^i=c5 at *;generalize FA:x/1048576^(i+1)=X' at *;generalize FB:y/1048576^(i+1)=Y' at *;generalize a5:X%1048576=a at *;generalize U:c5%1048576=b at *;have w1:IntKind.i64.wrap ((a:Int)-(b:Int))=(a:Int)-(b:Int):=wrap64 _ (by omega) (by omega);have gi:IntKind.i64.wrap ((a:Int)-(b:Int)-(c:Int))=(a:Int)-(b:Int)-(c:Int):=wrap64 _ (by omega) (by omega);have cW:=h4 (i:=i) (by omega);have h9:IntKind.i64.wrap ((a:Int)-(b:Int)-(c:Int)+1048576)=(a:Int)-(b:Int)-(c:Int)+1048576:=wrap64 _ (by omega) (by omega);have dS:=λd:Int=>qm iO vG 182032 g 8 o d (cs:=[.L (.int .i64 d)]) rfl (by omega) (by omega);rw[aZ] at dS;rcases k0:decide ((a:Int)-(b:Int)-(c:Int)<0)
  ·have aE:=of_decide_eq_false k0;refine an ?_;repeat' (intro h<;>simp only[h,go_sem,go_sem_proc,gS,gT,al,E,bp,bD,bL,hm,fX,cY,kh,d1,w1,gi,cW,dS,k0,aH,az,bG]<;>try refine aj ?_ ?_)
   refine⟨(i+1,0,g+1,o++[(a:Int)-(b:Int)-(c:Int)]),by dsimp only;omega,by dsimp only;omega,by dsimp only;omega,by dsimp only;rw[FA,FB];omega,by simp[aZ],U7 hM (by omega) (by omega),?_,rfl,rfl,rfl,rfl⟩
   dsimp only;rw[FA,FB,U8,aZ,h8,<-aD];have eo:((X-(c5+c):Nat):Int)=1048576*((X'-(Y'+0):Nat):Int)+((a:Int)-b-c):=by omega
   rw[eo,hx,hy];omega
  ·have aE:=of_decide_eq_true k0;refine an ?_;repeat' (intro h<;>simp only[h,go_sem,go_sem_proc,gS,gT,al,E,bp,bD,bL,hm,fX,cY,kh,d1,w1,gi,cW,h9,dS,k0,aH,az,bG]<;>try refine aj ?_ ?_)
   refine⟨(i+1,1,g+1,o++[(a:Int)-(b:Int)-(c:Int)+1048576]),by dsimp only;omega,by dsimp only;omega,by dsimp only;omega,by dsimp only;rw[FA,FB];omega,by simp[aZ],U7 hM (by omega) (by omega),?_,rfl,rfl,rfl,rfl⟩
   dsimp only;rw[FA,FB,U8,aZ,h8,<-aD];have eo:((X-(c5+c):Nat):Int)=1048576*((X'-(Y'+1):Nat):Int)+((a:Int)-b-c+1048576):=by omega
   have kZ:∀p aU b6:Int,aW o+p*aU+p*1048576*b6=aW o+p*(1048576*b6+aU):=λp aU b6=>by rw[hx p (1048576*b6) aU,<-hy];omega
   rw[eo];exact kZ _ _ _
 ·have d1:decide ((i:Int)<((aG x).length:Int))=false:=ef;rw[Ab (n:=x) (by omega),Ab (n:=y) (by omega),Nat.zero_sub,nw,vY,HZ] at aD;have cp:=Cs o (by omega);rw[Fz (n:=x-y) hM aD] at cp;have b2:=Fw (aG (x-y));have iN:=pG (n:=5) iO hm;rw[aZ] at iN;refine an ?_;repeat' (intro h<;>simp only[h,go_sem,go_sem_proc,gS,gT,al,E,bp,bD,bL,hm,d1,cp,b2,iN,Cr,s9,az]<;>try refine aj ?_ ?_)
def aeA {b:List Int}{k:Nat}(h:k<D b):b.getD k 0=b[k]:=by rw[eF,bB h];rfl
def U9 {b:List Int}{k:Nat}(h:(D b)<=k):b.getD k 0=0:=by rw[eF,mO h];rfl
def FD:=b1 lH λ(x,y)=>cu ((aG x).length<=10000/\(aG y).length<=10000) (.same (c4 (x*y)))
@[go_sem] def Va (x y):=cL FD rfl vQ (x,y) rfl
def aq4 (T:bl)(gS:T rB=aT Ct)(gT:T rA=aT yr):WF T ael FD:=by
 refine cq λ(x,y)=>cR λZ=>⟨rfl,cr ?_⟩;simp only[ael,lH,b8];obtain⟨J,ag⟩:=Z;have rF:=lF x;have pL:=lF y;have tZ:=kB x;have Bg:=kB y;generalize a5:aG x=a at *;generalize U:aG y=b at *;have kf:IntKind.i64.wrap ((D a:Int)+(D b:Int))=((D a+D b:Nat):Int):=by rw[fg _];rfl
 have iA:8*(D a+D b)<=140737488355328:=by omega
 have dm:(D a)+D b<=maxLen:=DS _ (by omega);have yW:(D b)<=1000000:=by omega
 simp only[go_sem,go_sem_proc,gS,gT,c4,a5,U,kf,iA,dm,DR,az]
 refine dM [0,1,5] [] (λ((i,o):Nat×List Int) tm mem=>i<=D a/\D o=D a+D b/\ec o/\o.drop (i+D b)=cK (D o-(i+D b)) 0/\aW o=aW (a.take i)*y/\tm 6=.L (.int .i64 (i:Nat))/\mem 186015=some (0,a6 aH o))
  (λ(i,_)=>D a-i) (0,cK (D a+D b) 0) (by
   have aQ:∀n,aW (cK n 0)=0:=by
    intro n
    induction n with
    |zero=>rfl
    |succ n aF=>rw[pw,ru,aF];rfl
   refine⟨eL _,by simp,λd ae=>by rw[vU] at ae;omega,by simp,by rw[aQ];simp[aW],?_,?_⟩<;>rfl) ?_
 intro vs ms a7 aY;simp only[go_sem,go_sem_proc,gS,gT,c4,a5,U,kf,az] at a7 aY;subst a7 aY;rintro⟨i,o⟩ tm mem Q-⟨O,aZ,hM,lY,iL,bD,hm⟩;simp only[go_sem,go_sem_proc,gS,gT,bs] at Q;obtain⟨al,E,bp⟩:=Q;rcases eC (i<D a) with au|bO
 ·have oP:a[i]?=some a[i]:=bB au;have y6:=ke rF i au;have rk:=kd a i au;generalize a[i]=g3 at *;have jl:decide ((i:Int)<(D a:Int))=true:=dW;have HY:IntKind.i64.wrap ((i:Int)+1)=((i+1:Nat):Int):=by rw[fg _];rfl
  simp only[go_sem,go_sem_proc,gS,gT,al,E,bp,bD,oP,jl,aH,az,bG,bs]
  refine dM [0,1,5,6] [] (λ((k,c,o):Nat×Int×List Int) tm mem=>k<=D b+1/\(k=D b+1->c=0)/\D o=D a+D b/\ec o/\o.drop (i+max k (D b))=cK (D o-(i+max k (D b))) 0/\0<=c/\c<1048576/\aW o+1048576^(i+k)*c=aW (a.take i)*y+1048576^i*(g3*aW (b.take k)) /\
    tm 8=.L (.int .i64 (k:Nat))/\tm 7=.L (.int .i64 c)/\mem 186015=some (0,a6 aH o))
   (λ(k,_)=>D b+1-k) (0,0,o) (by refine⟨eL _,by simp,aZ,hM,by rw[Nat.zero_max];exact lY,by omega,by omega,by simp[aW,iL],?_,?_,hm⟩<;>rfl) ?_
  intro vs ms a7 aY;simp only[go_sem,go_sem_proc,gS,gT,al,E,bp,bD,aH,az] at a7 aY;subst a7 aY;rintro⟨k,c,o⟩ tm mem Q-⟨vx,JL,aZ,hM,lY,vR,iu,iL,ct,bL,hm⟩;simp only[go_sem,go_sem_proc,gS,gT,bs] at Q;obtain⟨al,E,bp,bD⟩:=Q;have fI:IntKind.i64.wrap ((k:Int)+1)=((k+1:Nat):Int):=by rw[fg _];rfl
  have lI:IntKind.i64.wrap ((i:Int)+(k:Int))=((i+k:Nat):Int):=by rw[fg _];rfl
  by_cases bk:k<(D b)\/c>0
  ·have HP:k<=D b:=by
    rcases fE (D b) k with h|h
    ·have:=JL (by omega);omega
    ·exact h
   have n4:i+k<D o:=by omega
   have R1:=ke hM (i+k) n4
   have DV:0<=b.getD k 0/\b.getD k 0<1048576:=by
    rcases fE k (D b) with h|h
    ·rw[aeA h];exact ke pL k h
    ·rw[U9 h];omega
   have Tl:aW (b.take (k+1))=aW (b.take k)+1048576^k*b.getD k 0:=by
    rcases fE k (D b) with h|h
    ·rw[aeA h];exact kd b k h
    ·rw[U9 h,dz (by omega),dz (by omega)];simp
   have tC:k<(D b)\/(k=D b/\o[i+k]=0):=by
    rcases fE k (D b) with h|h
    ·exact .inl h
    ·refine .inr ⟨by omega,Zw lY (by omega) n4⟩
   have Vb:=aev b k yW;generalize b.getD k 0=oo at *;obtain⟨ba,bJ,dD,h5⟩:=Zv R1 y6 DV ⟨vR,iu⟩;have m3:IntKind.i64.wrap (g3*oo)=g3*oo:=wrap64 _ (by omega) (by omega);have DW:IntKind.i64.wrap (o[i+k]+g3*oo)=o[i+k]+g3*oo:=wrap64 _ (by omega) (by omega);have zk:IntKind.i64.wrap (o[i+k]+g3*oo+c)=o[i+k]+g3*oo+c:=wrap64 _ (by omega) (by omega);have sP:(o[i+k]+g3*oo+c).tmod 1048576=(o[i+k]+g3*oo+c)%1048576:=HR (by omega);have Mm:IntKind.i64.wrap ((o[i+k]+g3*oo+c).tdiv 1048576)=(o[i+k]+g3*oo+c)/1048576:=by rw[DY (by omega)];exact wrap64 _ (by omega) (by omega)
   have kg:i+k+1<=(a6 aH o).length:=by rw[oN];omega
   have m4:=HL o (i+k) n4;have ix:=λd=>vP o (i+k) d n4;have iv:i+k<D a+D b:=by omega
   have kX:∃a0:Nat×Int×List Int,D b+1-a0.1<D b+1-k/\a0.1<=D b+1/\(a0.1=D b+1->a0.2.1=0)/\a0.2.2.length=D a+D b/\ec a0.2.2/\a0.2.2.drop (i+max a0.1 (D b))=cK (a0.2.2.length-(i+max a0.1 (D b))) 0/\0<=a0.2.1/\a0.2.1<1048576/\aW a0.2.2+1048576^(i+a0.1)*a0.2.1=aW (a.take i)*y+1048576^i*(g3*aW (b.take a0.1)) /\
     I.L (Data.int .i64 ((k+1:Nat):Int))=I.L (Data.int .i64 (a0.1:Nat))/\I.L (Data.int .i64 ((o[i+k]+g3*oo+c)/1048576))=I.L (Data.int .i64 a0.2.1)/\some (0,a6 aH (o.set (i+k) ((o[i+k]+g3*oo+c)%1048576)))=some (0,a6 aH a0.2.2):=by
    refine⟨(k+1,(o[i+k]+g3*oo+c)/1048576,o.set (i+k) ((o[i+k]+g3*oo+c)%1048576)),by dsimp only;omega,by dsimp only;omega,?_,by simp[aZ],xP hM _ (by omega),?_,dD,h5,?_,rfl,rfl,rfl⟩
    ·intro h;dsimp only at h ⊢;rcases tC with G|⟨G,ad⟩
     ·omega
     ·have aq5:oo=0:=by
       have e:=Vb;rw[aev b k yW,U9 (by omega)] at e
       simpa using e.symm
      rw[ad,aq5,vY];omega
    ·dsimp only;rcases tC with G|⟨G,ad⟩
     ·rw[Vc (by omega)] at lY;rw[Vc (by omega),ri (by omega),fN,lY]
     ·rw[Vc (by omega),<-G] at lY;rw[Nat.max_eq_left (by omega)];exact Zx lY n4
    ·dsimp only;rw[RX _ _ _ n4,Tl,<-Nat.add_assoc,l3,Zu _ _ _ _ _ _ _ iL];rw[hx (g3),hx (1048576^i),Int.pow_add]
     have:(1048576:Int)^i*(g3*(1048576^k*oo))=1048576^i*1048576^k*(g3*oo):=by
      rw[<-hy (g3),Int.mul_comm (g3) (1048576^k),hy (1048576^k),<-hy]
     omega
   by_cases aAr:k<D b
   ·have d1:decide ((k:Int)<(D b:Int))=true:=dW;refine an ?_;repeat' (intro (aw:_=_)<;>simp only[aw,go_sem,go_sem_proc,gS,gT,al,E,bp,bD,bL,ct,hm,oP,Vb,d1,fI,lI,m3,DW,zk,sP,Mm,iv,kg,m4,ix,aH,dE,az,bG,bs]<;>try refine aj ?_ ?_)
    exact kX
   ·have d1:decide ((k:Int)<(D b:Int))=false:=ef;have d2:decide (c>0)=true:=dW;refine an ?_;repeat' (intro (aw:_=_)<;>simp only[aw,go_sem,go_sem_proc,gS,gT,al,E,bp,bD,bL,ct,hm,oP,Vb,d1,d2,fI,lI,m3,DW,zk,sP,Mm,iv,kg,m4,ix,aH,dE,az,bG,bs]<;>try refine aj ?_ ?_)
    exact kX
  ·have d1:decide ((k:Int)<(D b:Int))=false:=ef;have d2:decide (c>0)=false:=ef;have aq6:c=0:=by omega
   rw[aq6,vY,HZ,show b.take k=b from dz (by omega),Bg] at iL;refine an ?_;repeat' (intro (aw:_=_)<;>simp only[aw,go_sem,go_sem_proc,gS,gT,al,E,bp,bD,bL,ct,hm,d1,d2,HY,az]<;>try refine aj ?_ ?_)
   refine⟨(i+1,o),by dsimp only;omega,by dsimp only;omega,aZ,hM,?_,?_,rfl,rfl⟩
   ·dsimp only;have ad:=congrArg (pK (i+1+D b-(i+max k (D b)))) lY;rw[List.drop_drop,List.drop_replicate] at ad;rw[show i+max k (D b)+(i+1+D b-(i+max k (D b)))=i+1+(D b) by omega] at ad
    rw[ad]
    congr 1
    omega
   ·dsimp only;rw[iL,rk,Int.add_mul,hy]
 ·obtain rfl:i=D a:=by omega
  have jl:decide ((D a:Int)<(D a:Int))=false:=ef;rw[dz (bM _),tZ] at iL;have cp:=Cs o (by omega);rw[Fz (n:=x*y) hM (by rw[iL];rfl)] at cp;have b2:=Fw (aG (x*y));have iN:=pG (n:=5) iO hm;rw[aZ] at iN;refine an ?_;repeat' (intro (aw:_=_)<;>simp only[aw,go_sem,go_sem_proc,gS,gT,al,E,bp,bD,hm,jl,cp,b2,iN,Cr,s9,c4,az]<;>try refine aj ?_ ?_)
def eh.yt:eh->List Nat->eh
 |.seq a _,0::p=>a.yt p
 |.seq _ b,_::p=>b.yt p
 |.cond _ a _,0::p=>a.yt p
 |.cond _ _ b,_::p=>b.yt p
 |.block _ c,_::p=>c.yt p
 |.ghost _ c,_::p=>c.yt p
 |.loop c,_::p=>c.yt p
 |c,_=>c
def aeB {n:Nat}(h:0<n)(E:n<1048576):[(n:Int)]=aG n:=(A0 h E).symm
def aq7 {n:Nat}(E:n<1048576):fh [(n:Int)]=aG n:=Fz (by intro d ae;have:=v3.1 ae;omega) (by simp[aW])
def aq8 {d:Int}{r:Nat}(al:0<=d)(E:d<1048576):fh (d::aG r)=aG (d.toNat+1048576*r):=Fz (AX.2 ⟨⟨al,E⟩,lF r⟩) (by rw[ru,kB];omega)
def Vd {n m k:Nat}(h:n<m*1048576)(hm:(aG m).length<=k):(aG n).length<=k+1:=by
 rw[fw] at *;rw[rv];exact Nat.lt_of_lt_of_le h (mP _ (zv hm))
def aeC (T:bl)(nQ:T A8=aT FD)(iH:T zc=aT Cu){K:eZ->a1->Prop}{gY:List hI}(y bS:Nat)(ag:(aG y).length<=1000)(ew:(aG bS).length<=1001)(g4:0<y)(aq9:bS<y*1048576)(v0 v6 aeD:I)(tm:Nat->I)(m:Mem)
  (fF:tm 0=v0) (aL:tm 1=.L (.ay ((aG y).map aH))) (Ac:tm 6=v6) (Cv:tm 7=.L (.ay ((aG bS).map aH))) (oZ:tm 8=aeD) (zr:tm 9=.L (.int .i64 0)) (aeE:tm 10=.L (.int .i64 1048576))
  (ep:∀tm',tm' 0=v0->tm' 1=.L (.ay ((aG y).map aH))->tm' 6=v6->tm' 7=.L (.ay ((aG bS).map aH))->tm' 8=aeD->tm' 9=.L (.int .i64 ((bS/y:Nat):Int))->cg T K gY (.exit 2) ⟨tm',m⟩) :
  wp T (Ot.body.yt [1,1,1,0,1,0,0,1,0,0,1,1,1,0,0]) (cg T K gY) ⟨tm,m⟩:=by
 simp only[Ot,eh.yt];refine dM [0,1,6,7,8] [] (λ((bP,O):Nat×Nat) tm' m'=>bP<O/\O<=1048576/\bP*y<=bS/\bS<O*y/\tm' 9=.L (.int .i64 bP)/\tm' 10=.L (.int .i64 O)/\m'=m) (λ(bP,O)=>O-bP) (0,1048576) (by refine⟨by omega,by omega,by omega,by rw[pH];exact aq9,zr,aeE,rfl⟩) ?_;intro vs ms a7 aY;simp only[go_sem,go_sem_proc,fF,aL,Ac,Cv,oZ] at a7 aY;subst a7 aY;clear fF aL Ac Cv oZ zr aeE;rintro⟨bP,O⟩ tm m' Q hm ⟨aAs,a8,fZ,jf,jh,kA,rfl⟩;simp only[go_sem,go_sem_proc,bs] at Q hm;obtain⟨al,E,bD,bL,ct⟩:=Q;have w1:IntKind.i64.wrap ((O:Int)-(bP:Int))=(O:Int)-(bP:Int):=wrap64 _ (by omega) (by omega)
 by_cases bk:O-bP>1
 ·have d1:decide ((O:Int)-(bP:Int)>1)=true:=dW;have gi:IntKind.i64.wrap ((bP:Int)+(O:Int))=((bP+O:Nat):Int):=by rw[fg _];omega
  have cW:IntKind.i64.wrap (((bP+O:Nat):Int).tdiv 2)=(((bP+O)/2:Nat):Int):=by rw[DY (by omega),wrap64 _ (by omega) (by omega)];omega
  obtain⟨uP,ara⟩:∃uP:Nat,uP=(bP+O)/2:=⟨_,rfl⟩;rw[<-ara] at cW;have cp:=Va y uP ⟨by omega,by rw[<-aeB (n:=uP) (by omega) (by omega)];simp⟩
  simp only[c4] at cp;rw[<-aeB (n:=uP) (by omega) (by omega)] at cp;simp only[hv,cl,aH] at cp;have tA:(aG (y*uP)).length<=1001:=Vd (aeF (show uP<1048576 by omega) g4) ag;have b2:=U6 bS (y*uP) ⟨by omega,by omega⟩
  simp only[c4] at b2;rcases ae:decide (bS<y*uP)
  ·have aE:=of_decide_eq_false ae;rw[ae] at b2;refine an ?_;repeat' (intro h<;>simp only[h,go_sem,go_sem_proc,nQ,iH,al,E,bD,bL,ct,jh,kA,w1,gi,cW,d1,cp,b2]<;>try refine aj ?_ ?_)
   exact⟨(uP,O),by dsimp only;omega,by dsimp only;omega,a8,by dsimp only;rw[pH];omega,jf,rfl,rfl⟩
  ·have aE:=of_decide_eq_true ae;rw[ae] at b2;refine an ?_;repeat' (intro h<;>simp only[h,go_sem,go_sem_proc,nQ,iH,al,E,bD,bL,ct,jh,kA,w1,gi,cW,d1,cp,b2]<;>try refine aj ?_ ?_)
   exact⟨(bP,uP),by dsimp only;omega,by dsimp only;omega,by dsimp only;omega,fZ,by dsimp only;rw[pH];omega,rfl,rfl⟩
 ·have d1:decide ((O:Int)-(bP:Int)>1)=false:=ef
  have aM:bS/y=bP:=by
   have E:O=bP+1:=by omega
   subst E;exact Nat.div_eq_of_lt_le fZ jf
  refine an ?_;repeat' (intro h<;>simp only[h,go_sem,go_sem_proc,al,E,bD,bL,ct,jh,kA,w1,d1]<;>try refine aj ?_ ?_)
  refine ep _ ?_ ?_ ?_ ?_ ?_ ?_<;>simp only[vd,zO,if_false,al,E,bD,bL,ct,jh,aM]
def JM:=b1 lH λ(x,y)=>cu ((aG x).length<=1000/\(aG y).length<=1000/\0<y) (.same (.de [c4 (x/y),c4 (x%y)]))
@[go_sem] def aeG (x y):=cL JM rfl vQ (x,y) rfl
def arb (T:bl)(gT:T rA=aT yr)(nQ:T A8=aT FD)(iH:T zc=aT Cu)(kN:T zb=aT FC):WF T Ot JM:=by
 refine cq λ(x,y)=>cR λZ=>⟨rfl,cr ?_⟩;simp only[Ot,lH,b8];obtain⟨J,ag,g4⟩:=Z;have rF:=lF x;have tZ:=kB x;generalize a5:aG x=a at *;have iA:8*D a<=140737488355328:=by omega
 have dm:(D a)<=maxLen:=DS _ (by omega);have zs:IntKind.i64.wrap ((D a:Int)-1)=(D a:Int)-1:=wrap64 _ (by omega) (by omega);simp only[go_sem,go_sem_proc,gT,nQ,iH,kN,c4,a5,iA,dm,DR,zs,az]
 refine dM [0,1,6] [] (λ((n,r,zT,o):Nat×Nat×I×List Int) tm mem=>n<=D a/\D o=D a/\ec o/\r<y/\aW (a.drop n)=y*aW (o.drop n)+r/\(zT=.nil/\r=0\/zT=.L (c4 r))/\tm 8=.L (.int .i64 ((n:Nat)-1))/\tm 7=zT/\mem 180014=some (0,a6 aH o))
  (λ(n,_)=>n) (D a,0,.nil,cK (D a) 0) (by
   refine⟨bM _,by simp,λd ae=>by rw[vU] at ae;omega,g4,by simp[aW],.inl ⟨rfl,rfl⟩,rfl,rfl,rfl⟩) ?_
 intro vs ms a7 aY;simp only[go_sem,go_sem_proc,gT,nQ,iH,kN,c4,a5,az] at a7 aY;subst a7 aY;rintro⟨n,r,zT,o⟩ tm mem Q-⟨aE,aZ,hM,mF,ai,IV,ct,bL,hm⟩;simp only[go_sem,go_sem_proc,gT,nQ,iH,kN,bs] at Q;obtain⟨al,E,bD⟩:=Q;rcases n with _|n
 ·have aM:aW o=((x/y:Nat):Int)/\r=x%y:=by
   rw[oF,oF,tZ] at ai;have aL:(x:Int)/(y:Int)=aW o:=by rw[ai,vW,Int.add_mul_ediv_left _ _ (by omega),Int.ediv_eq_zero_of_lt (by omega) (by omega)];omega
   have ax:(x:Int)%(y:Int)=r:=by rw[ai,vW,Int.add_mul_emod_self_left,Int.emod_eq_of_lt (by omega) (by omega)]
   refine⟨by rw[<-aL];rfl,by omega⟩
  have cp:=Cs o (by omega);rw[Fz (n:=x/y) hM aM.1] at cp;have b2:=Fw (aG (x/y));have iN:=pG (n:=5) iO hm;rw[aZ] at iN;rcases IV with ⟨rfl,rJ⟩|rfl
  ·have aQ:aG (x%y)=[]:=by rw[<-aM.2,rJ];rfl
   refine an ?_;repeat' (intro (aw:_=_)<;>simp only[aw,go_sem,go_sem_proc,gT,nQ,iH,kN,al,E,bD,bL,ct,hm,cp,b2,iN,aQ,Cr,s9,c4,nw,n2,show ¬ ((0:Int)-1>=0) by omega,decide_false,az,cl]<;>try refine aj ?_ ?_)
  ·refine an ?_;repeat' (intro (aw:_=_)<;>simp only[aw,go_sem,go_sem_proc,gT,nQ,iH,kN,al,E,bD,bL,ct,hm,cp,b2,iN,Cr,s9,c4,nw,n2,show ¬ ((0:Int)-1>=0) by omega,decide_false,az,cl,aM.2]<;>try refine aj ?_ ?_)
 ·have oP:a[n]?=some a[n]:=bB (by omega);have DX:=ke rF n (by omega);have RR:a.drop n=a[n]::a.drop (n+1):=fY (by omega);have kz:n<D o:=by omega
  have RV:∀e:Int,(o.set n e).drop n=e::o.drop (n+1):=λe=>by
   rw[fY (by simpa using kz),List.getElem_set_self,ri (by omega)]
  generalize a[n]=d at *;have hw:((n+1:Nat):Int)-1=(n:Int):=by omega
  have bO:decide ((n:Int)>=0)=true:=dW;have m3:IntKind.i64.wrap ((n:Int)-1)=(n:Int)-1:=wrap64 _ (by omega) (by omega);have bY:(aG r).length<=1000:=by rw[fw] at *;omega
  obtain⟨bS,ew⟩:∃bS:Nat,bS=d.toNat+1048576*r:=⟨_,rfl⟩
  have Ow:bS<y*1048576:=by
   have:(r+1)*1048576<=y*1048576:=mP _ mF;omega
  have aeH:=Vd Ow ag;have kM:=aq8 (d:=d) (r:=r) DX.1 DX.2;rw[<-ew] at kM;have cp:=Cs (d::aG r) (by rw[jG];omega);rw[kM] at cp;simp only[hv,aH] at cp;have b2:=Fw (aG bS)
  have xa:∀a9:Nat,mw 180026 a9 1 1 8 (aG r).length (((aG r).map aH).flatten.map .L) (some (a9,[.L (.int .i64 d)]))=some (.ref 180026 (a9+1) 1 0 (1+(aG r).length),some (180026,a9+1,a6 aH (d::aG r))):=λa9=>by
   have:=DB iO vG 180026 a9 8 [d] (aG r) (by rw[UW];omega) (by rw[UW];omega);exact this
  have arc:∀(a9:Nat) (m:Mem),m 180026=some (a9,a6 aH (d::aG r))->c2 6 m (.ref 180026 a9 1 0 (1+(aG r).length))=some (.ay ((d::aG r).map aH)):=λa9 m hm=>by
   have:=pG (n:=5) iO hm;rw[jG,Nat.add_comm (aG r).length 1] at this;exact this
  have mU:(((aG r).map aH).all λe=>D e==1)=true:=RN _;have Ve:=arc (j8 (mem 180026)+1) (aV (aV mem 180026 (j8 (mem 180026)) [I.L (.int .i64 d)]) 180026 (j8 (mem 180026)+1) (a6 aH (d::aG r))) (by simp[aV]);have mW:n<D a:=by omega
  obtain⟨bP,fZ⟩:∃bP:Nat,bP=bS/y:=⟨_,rfl⟩;have Vf:bP<1048576:=by rw[fZ];exact Nat.div_lt_of_lt_mul Ow
  have Ik:=Nat.div_add_mod bS y;have tA:=m1 bS g4;rw[<-fZ] at Ik;have P4:bS-y*bP=bS%y:=by omega
  have aAt:(aG (y*bP)).length<=1001:=Vd (aeF Vf g4) ag
  have aeI:yr [.ay [[.int .i64 ((bS/y:Nat):Int)]]]=some (.own 1 ((aG bP).map aH)):=by
   have h:=Cs [((bS/y:Nat):Int)] (by simp);rw[<-fZ,aq7 Vf] at h;rw[<-fZ];exact h
  have Vg:=Va y bP ⟨by omega,by have:(aG bP).length<=1:=fw.2 (by rw[Nat.pow_one];exact Vf);omega⟩
  simp only[c4] at Vg;have Ox:=Ov bS (y*bP) ⟨by omega,by omega,by omega⟩
  rw[P4] at Ox;simp only[c4] at Ox;have kg:n+1<=(a6 aH o).length:=by rw[oN];omega
  have ix:=vP o n ((bS/y:Nat):Int) kz
  have kX:∃a0:Nat×Nat×I×List Int,a0.1<n+1/\a0.1<=D a/\a0.2.2.2.length=D a/\ec a0.2.2.2/\a0.2.1<y/\aW (a.drop a0.1)=y*aW (a0.2.2.2.drop a0.1)+a0.2.1/\(a0.2.2.1=.nil/\a0.2.1=0\/a0.2.2.1=.L (.ay ((aG a0.2.1).map aH)))/\I.L (Data.int .i64 ((n:Int)-1))=I.L (Data.int .i64 ((a0.1:Int)-1))/\I.L (Data.ay ((aG (bS%y)).map aH))=a0.2.2.1/\some (0,a6 aH (o.set n ((bS/y:Nat):Int)))=some (0,a6 aH a0.2.2.2):=by
   refine⟨(n,bS%y,.L (c4 (bS%y)),o.set n ((bS/y:Nat):Int)),by dsimp only;omega,by dsimp only;omega,by simp[aZ],xP hM n (by omega),tA,?_,.inr rfl,rfl,rfl,rfl⟩
   dsimp only;rw[RR,ru,ai,RV,ru,<-fZ];have aL:(bS:Int)=d+1048576*r:=by omega
   have ax:(y:Int)*bP+(bS%y:Nat)=bS:=by exact_mod_cast Ik
   have eo:∀v:Int,(y:Int)*(bP+1048576*v)=y*bP+1048576*(y*v):=λv=>by rw[hx,Int.mul_left_comm]
   rw[eo];omega
  have main:zT=.nil/\r=0\/zT=.L (c4 r):=IV;rcases main with ⟨rfl,rJ⟩|rfl
  ·subst rJ;have aeJ:=xa;simp only[qt,cl,aes,lD] at aeJ;simp only[qt,lD] at Ve;simp only[qt,cl] at cp;simp only[go_sem,go_sem_proc,gT,nQ,iH,kN,al,E,bD,bL,ct,hm,oP,hw,bO,aeJ,cp,b2,Ve,Cr,s9,aH,qt,az,bG,cl];refine aeC T nQ iH y bS ag aeH g4 Ow (.L (.ay (a.map aH))) (.ref 180014 0 1 0 (D a)) (.L (.int .i64 n)) _ _ ?_ ?_ ?_ ?_ ?_ ?_ ?_ ?_
   ·exact al
   ·exact E
   ·exact bD
   ·rfl
   ·simp only[vd,zO,if_false,ct,hw]
   ·rfl
   ·rfl
   intro tm' fq cP lR fV eH kj;refine an ?_;repeat' (intro (aw:_=_)<;>simp only[aw,go_sem,go_sem_proc,gT,nQ,iH,kN,fq,cP,lR,fV,eH,kj,hm,mW,kg,ix,aeI,Vg,Ox,m3,dE]<;>try refine aj ?_ ?_)
   exact kX
  ·simp only[go_sem,go_sem_proc,gT,nQ,iH,kN,al,E,bD,bL,ct,hm,oP,hw,bO,xa,mU,cp,b2,Ve,Cr,s9,c4,aH,az,bG];refine aeC T nQ iH y bS ag aeH g4 Ow (.L (.ay (a.map aH))) (.ref 180014 0 1 0 (D a)) (.L (.int .i64 n)) _ _ ?_ ?_ ?_ ?_ ?_ ?_ ?_ ?_
   ·exact al
   ·exact E
   ·exact bD
   ·rfl
   ·simp only[vd,zO,if_false,ct,hw]
   ·rfl
   ·rfl
   intro tm' fq cP lR fV eH kj;refine an ?_;repeat' (intro (aw:_=_)<;>simp only[aw,go_sem,go_sem_proc,gT,nQ,iH,kN,fq,cP,lR,fV,eH,kj,hm,mW,kg,ix,aeI,Vg,Ox,m3,dE]<;>try refine aj ?_ ?_)
   exact kX
def yu:=b1 DQ λ(s,l)=>cu (D l<=1000000) (.same (.agg (c0 (jk s l))))
@[go_sem] def aAu (s l):=cL yu rfl Zk (s,l) rfl
def ard (T:bl)(gT:T rA=aT yr):WF T aeg yu:=by
 refine cq λ(s,l)=>cR λZ=>⟨rfl,cr ?_⟩;simp only[aeg,DQ,b8];have cp:=Cs l Z;have b2:=Fw (fh l);refine an ?_;repeat' (intro h<;>simp only[h,go_sem,go_sem_proc,gT,cp,b2,az]<;>try refine aj ?_ ?_)
 all_goals simp only[jk,c0,cl, *,reduceIte,dT,dY,pF,m0,oG,l2,rp,gy,h2,e1,df,beq_self_eq_true,bne]
def uQ:=b1 oL λ(s,l)=>cu (D l<=1000000) (.same (.bool (cx (s,l))))
@[go_sem] def aAv (s l):=cL uQ rfl Be (s,l) rfl
def are (T:bl):WF T aec uQ:=by
 refine cq λ(s,l)=>cR λZ=>⟨rfl,cr ?_⟩;simp only[aec,oL,b8];simp only[go_sem,go_sem_proc,az];refine dM [1] [162001] (λ(i:Nat) tm mem=>i<=D l/\l.all mE=(l.drop i).all mE/\tm 3=.L (.int .i64 i)) (λi=>D l-i) 0 (by refine⟨by omega,by simp,rfl⟩) ?_;intro vs ms a7 aY;simp only[go_sem,go_sem_proc,az] at a7 aY;subst a7 aY;rintro i tm mem Q hm ⟨O,ao,ad⟩;simp only[go_sem,go_sem_proc,bs] at Q hm;have E:=Q;rcases eC (i<D l) with au|bO
 ·have ae:l.drop i=l[i]::l.drop (i+1):=fY au;have J:l[i]?=some l[i]:=bB au;generalize l[i]=x at *;have d1:decide ((i:Int)<(D l:Int))=true:=dW
  have kX:∀b,mE x=true->b=(l.drop (i+1)).all mE->l.all mE=b:=by
   intro b E G;rw[ao,ae,Dw,E,G,gy]
  have jT:¬ mE x=true->cx (s,l)=false:=by
   intro E;rw[Bool.not_eq_true] at E;unfold cx;rw[ao,ae,Dw,E]
   rfl
  have cW:=h4 (i:=i) (by omega);refine an ?_;repeat' (intro (aw:_=_)<;>simp only[aw,go_sem,go_sem_proc,E,ad,hm,J,d1,cW,aH,az,bG,bs]<;>try refine aj ?_ ?_)
  ·rw[jT λh=>by have:=(H8 x).1 h;(simp only[bH,Data.bool.injEq,Data.int.injEq,true_and,decide_eq_true_eq,decide_eq_false_iff_not,df,beq_iff_eq,beq_eq_false_iff_ne,ne_eq] at*<;> omega)]
  ·exact⟨i+1,by omega,by omega,kX _ ((H8 x).2 (by (simp only[bH,Data.bool.injEq,Data.int.injEq,true_and,decide_eq_true_eq,decide_eq_false_iff_not,df,beq_iff_eq,beq_eq_false_iff_ne,ne_eq] at*<;> omega))) rfl,rfl⟩
  ·rw[jT λh=>by have:=(H8 x).1 h;(simp only[bH,Data.bool.injEq,Data.int.injEq,true_and,decide_eq_true_eq,decide_eq_false_iff_not,df,beq_iff_eq,beq_eq_false_iff_ne,ne_eq] at*<;> omega)]
 ·have he:l.drop i=[]:=lq (by omega);rw[he] at ao;have dQ:l.all mE=true:=by rw[ao];rfl
  have d1:decide ((i:Int)<(D l:Int))=false:=ef;rcases List.eq_nil_or_concat l with rfl|⟨r,x,rfl⟩
  ·have d2:decide ((i:Int)<0)=false:=d1;refine an ?_;repeat' (intro (aw:_=_)<;>simp only[aw,go_sem,go_sem_proc,E,ad,hm,d2,lD,nw,n2,beq_self_eq_true,cl,bne]<;>try refine aj ?_ ?_)
   all_goals (refine congrArg (λb=>some (Data.bool b)) ?_;unfold cx;simp;try simp only[decide_eq_true_eq,decide_eq_false_iff_not,beq_iff_eq,beq_eq_false_iff_ne,na,Jd,beq_eq_false_iff_ne,ne_eq] at *;omega)
  ·rw[List.concat_eq_append] at *;have bc:(((r++[x]).length:Int)==0)=false:=by simp;omega
   have hw:IntKind.i64.wrap (((r++[x]).length:Int)-1)=(D r:Int):=by
    have bq:(r++[x]).length=D r+1:=by simp
    rw[fg _];omega
   have aC:((r++[x]).map aH)[D r]?=some [.int .i64 x]:=by simp[aH]
   have M:cx (s,r++[x])=((s==1||s == -1)&&decide (((r++[x]).length:Int)<=60)&&(x != 0)):=by
    unfold cx;rw[dQ];simp only[List.getLast?_append,List.getLast?_singleton];simp;have aL:decide (D r<=59)=decide ((D r:Int)+1<=60):=decide_eq_decide.2 (by omega);have ax:(some x != some (0:Int))=(x != 0):=by simp[bne]
    rw[aL,ax]
   rw[M];refine an ?_;repeat' (intro (aw:_=_)<;>simp only[aw,go_sem,go_sem_proc,E,ad,hm,d1,bc,hw,aC,az]<;>try refine aj ?_ ?_)
   all_goals (refine congrArg (λb=>some (Data.bool b)) ?_;clear ao dQ M aC hw Q hm E ad d1;rw[FE];simp only[dH,sF,decide_eq_true_eq,decide_eq_false_iff_not,beq_iff_eq,beq_eq_false_iff_ne,na,Jd,ne_eq,df,false_iff,true_iff] at *;omega)
def Oy:=b1 oL λ(s,l)=>cu (D l<=1000000) (.same (.agg (c0 (kk (s,l)))))
@[go_sem] def aAw (s l):=cL Oy rfl Be (s,l) rfl
def arf (T:bl)(fb:T kC=aT uQ)(fW:T nv=aT yu):WF T aed Oy:=by
 refine cq λ(s,l)=>cR λZ=>⟨rfl,cr ?_⟩;simp only[aed,oL,b8]
 by_cases M:cx (s,l)=true
 ·obtain⟨z,aQ,e⟩:=(gR _).1 M;have aL:kk (s,l)=bu (-z):=by unfold kk;rw[aq M,e,eI]
  cases e
  have hw:IntKind.i64.wrap (0-z.sign) = -z.sign:=by
   have:=Int.sign_trichotomy z;rw[fg _];omega
  rw[aL];refine an ?_;repeat' (intro h<;>simp only[h,go_sem,go_sem_proc,fb,fW,M,Z,hw,aao,c0]<;>try refine aj ?_ ?_)
 ·have M:cx (s,l)=false:=by simpa using M
  have aL:kk (s,l)=(0,[]):=by unfold kk;rw[M];rfl
  rw[aL];refine an ?_;repeat' (intro h<;>simp only[h,go_sem,go_sem_proc,fb,fW,M,Z,c0,cl]<;>try refine aj ?_ ?_)
def aeK (n:Int):(n.tmod 1048576).natAbs=n.natAbs%1048576:=by rw[Int.natAbs_tmod];rfl
def aeL (n:Int):(n.tdiv 1048576).natAbs=n.natAbs/1048576:=by rw[Int.natAbs_tdiv];rfl
def JN:=b1 vN λ(n:Int)=>cu (er n) (.same (.agg (c0 (bu n))))
@[go_sem] def aAx (n):=cL JN rfl Mb n rfl
def arh (T:bl)(fW:T nv=aT yu):WF T aeb JN:=by
 refine cq λn=>cR λZ=>⟨rfl,cr ?_⟩;simp only[aeb,vN,b8];have tG:=Z;unfold er at tG;obtain⟨tv,pt⟩:=tG;have hlen:(aG n.natAbs).length<=60:=fw.2 (x0 Z);rcases eC (n=0) with rfl|lx
 ·refine an ?_;repeat' (intro (aw:_=_)<;>simp only[aw,go_sem,go_sem_proc,fW,c0,beq_self_eq_true]<;>try refine aj ?_ ?_)
  rfl
 have bc:(n==0)=false:=by simpa using lx
 have R:∀s:Int,s=n.sign->jk s (aG n.natAbs)=bu n:=λs h=>l8 rfl λ_=>h;have zw:(aG n.natAbs).length<=1000000:=by omega
 rcases eC (n<0) with k0|hn
 ·have yk:=R (-1) (kF k0).symm;simp only[go_sem,go_sem_proc,fW,bc,k0,decide_true];refine dM [2,3] [144002] (λ((u,g,l):Int×Nat×List Int) tm mem=>u<=0/\n<=u/\aG n.natAbs=l++aG u.natAbs/\tm 0=.L (.int .i64 u)/\tm 4=.ref 144022 g 1 0 (D l)/\mem 144022=some (g,a6 aH l)) (λ(u,_)=>u.natAbs) (n,0,[]) (by refine⟨by omega,by omega,rfl,rfl,rfl,rfl⟩) ?_;intro vs ms a7 aY;simp only[go_sem,go_sem_proc,fW,k0,decide_true] at a7 aY;subst a7 aY;rintro⟨u,g,l⟩ tm mem Q hm ⟨hu,ari,ae,al,aK,FF⟩;simp only[go_sem,go_sem_proc,fW,bs] at Q hm;obtain⟨G,ad⟩:=Q;rcases eC (u=0) with rfl|Ej
  ·rw[show (0:Int).natAbs=0 from rfl,qt,nZ] at ae;rw[ae] at yk zw;refine an ?_;repeat' (intro (aw:_=_)<;>simp only[aw,go_sem,go_sem_proc,fW,al,G,ad,aK,hm,FF,yk,zw,xy iO,sW,c0,az,beq_self_eq_true]<;>try refine aj ?_ ?_)
  ·have sS:(D l)<=60:=by
    have:=congrArg D ae;rw[lk] at this;omega
   have rK:(u==0)=false:=by simpa using Ej
   have dS:=λd:Int=>qm iO vG 144022 g 8 l d (cs:=[.L (.int .i64 d)]) rfl (by omega) (by omega);have aL:=aeK u;have ax:=aeL u;have eo:u.tmod 1048576<=0:=by have:=aeM (a:=-u) 1048576 (by omega);rw[Int.neg_tmod] at this;omega
   have kZ:u.tdiv 1048576<=0/\u<=u.tdiv 1048576:=by
    have:=aeN (a:=-u) (b:=1048576) (by omega) (by omega);rw[Int.neg_tdiv] at this;omega
   have kf:IntKind.i64.wrap (u.tdiv 1048576)=u.tdiv 1048576:=wrap64 _ (by omega) (by omega);have fI:IntKind.i64.wrap (0-u.tmod 1048576) = -(u.tmod 1048576):=by rw[fg _];omega
   have sQ:=sH (n:=u.natAbs) (by omega)
   have kX:∀d:Int,d=((u.natAbs%1048576:Nat):Int)->∃a0:Int×Nat×List Int,a0.1.natAbs<u.natAbs/\a0.1<=0/\n<=a0.1/\aG n.natAbs=a0.2.2++aG a0.1.natAbs/\I.L (.int .i64 (u.tdiv 1048576))=I.L (.int .i64 a0.1)/\I.ref 144022 (g+1) 1 0 (D l+1)=I.ref 144022 a0.2.1 1 0 a0.2.2.length/\some (g+1,a6 aH (l++[d]))=some (a0.2.1,a6 aH a0.2.2):=by
    intro d yN;refine⟨(u.tdiv 1048576,g+1,l++[d]),by dsimp only;omega,by dsimp only;omega,by dsimp only;omega,?_,rfl,by simp,rfl⟩
    dsimp only;rw[ae,sQ,yN,ax,hh]
    rfl
   by_cases aQ:u.tmod 1048576<0
   ·refine an ?_;repeat' (intro (aw:_=_)<;>simp only[aw,go_sem,go_sem_proc,fW,al,G,ad,aK,hm,FF,rK,dS,kf,fI,aQ,decide_true,az,bs]<;>try refine aj ?_ ?_)
    exact kX _ (by omega)
   ·refine an ?_;repeat' (intro (aw:_=_)<;>simp only[aw,go_sem,go_sem_proc,fW,al,G,ad,aK,hm,FF,rK,dS,kf,fI,aQ,decide_false,az,bs]<;>try refine aj ?_ ?_)
    exact kX _ (by omega)
 ·have yk:=R 1 (gJ (by omega)).symm;simp only[go_sem,go_sem_proc,fW,bc,hn,decide_false];refine dM [2,3] [144002] (λ((u,g,l):Int×Nat×List Int) tm mem=>0<=u/\u<=n/\aG n.natAbs=l++aG u.natAbs/\tm 0=.L (.int .i64 u)/\tm 4=.ref 144022 g 1 0 (D l)/\mem 144022=some (g,a6 aH l)) (λ(u,_)=>u.natAbs) (n,0,[]) (by refine⟨by omega,by omega,rfl,rfl,rfl,rfl⟩) ?_;intro vs ms a7 aY;simp only[go_sem,go_sem_proc,fW,hn,decide_false] at a7 aY;subst a7 aY;rintro⟨u,g,l⟩ tm mem Q hm ⟨hu,ari,ae,al,aK,FF⟩;simp only[go_sem,go_sem_proc,fW,bs] at Q hm;obtain⟨G,ad⟩:=Q;rcases eC (u=0) with rfl|Ej
  ·rw[show (0:Int).natAbs=0 from rfl,qt,nZ] at ae;rw[ae] at yk zw;refine an ?_;repeat' (intro (aw:_=_)<;>simp only[aw,go_sem,go_sem_proc,fW,al,G,ad,aK,hm,FF,yk,zw,xy iO,sW,c0,az,beq_self_eq_true]<;>try refine aj ?_ ?_)
  ·have sS:(D l)<=60:=by
    have:=congrArg D ae;rw[lk] at this;omega
   have rK:(u==0)=false:=by simpa using Ej
   have dS:=λd:Int=>qm iO vG 144022 g 8 l d (cs:=[.L (.int .i64 d)]) rfl (by omega) (by omega);have aL:=aeK u;have ax:=aeL u;have eo:=aeM (a:=u) 1048576 (by omega);have kZ:=aeN (a:=u) (b:=1048576) (by omega) (by omega);have kf:IntKind.i64.wrap (u.tdiv 1048576)=u.tdiv 1048576:=wrap64 _ (by omega) (by omega);have sQ:=sH (n:=u.natAbs) (by omega);have aQ:decide (u.tmod 1048576<0)=false:=ef;refine an ?_;repeat' (intro (aw:_=_)<;>simp only[aw,go_sem,go_sem_proc,fW,al,G,ad,aK,hm,FF,rK,dS,kf,aQ,az,bs]<;>try refine aj ?_ ?_)
   refine⟨(u.tdiv 1048576,g+1,l++[u.tmod 1048576]),by dsimp only;omega,by dsimp only;omega,by dsimp only;omega,?_,rfl,by simp,by first|rfl|simp[go_sem]⟩
   dsimp only;rw[ae,sQ,ax,hh,show u.tmod 1048576=((u.natAbs%1048576:Nat):Int) by omega]
   rfl
def p1 (a b:Raw):Bool:=decide (a=b)
def Oz:=b1 iB λ(s,l,s2,ab)=>cu (D l<=1000000/\D ab<=1000000) (.same (.bool (p1 (s,l) (s2,ab))))
@[go_sem] def aAy (s l s2 ab):=cL Oz rfl qy (s,l,s2,ab) rfl
def arj (T:bl):WF T aer Oz:=by
 refine cq λ(s,l,s2,ab)=>cR λZ=>⟨rfl,cr ?_⟩;simp only[aer,iB,b8];obtain⟨br,bq⟩:=Z
 by_cases R:s=s2
 ·subst R
  by_cases af:(D l)=D ab
  ·have aL:(((D l:Nat):Int)==((D ab:Nat):Int))=true:=by simp;omega
   simp only[go_sem,go_sem_proc,beq_self_eq_true,az,aL,dT,bne];refine dM [2,3] [210002,210003] (λ(i:Nat) tm mem=>i<=D l/\l.take i=ab.take i/\tm 5=.L (.int .i64 i)) (λi=>D l-i) 0 (by refine⟨by omega,by simp,rfl⟩) ?_;intro vs ms a7 aY;simp only[go_sem,go_sem_proc,az] at a7 aY;subst a7 aY;rintro i tm mem Q hm ⟨O,ao,bp⟩;simp only[go_sem,go_sem_proc,bs] at Q hm;obtain⟨G,ad⟩:=Q;obtain⟨bJ,dD⟩:=hm;rcases eC (i<D l) with au|bO
   ·have J:l[i]?=some l[i]:=bB au;have ag:ab[i]?=some ab[i]:=bB (by omega);have tv:l.take (i+1)=l.take i++[l[i]]:=by rw[jj,J];rfl
    have pt:ab.take (i+1)=ab.take i++[ab[i]]:=by rw[jj,ag];rfl
    generalize l[i]=x at *;generalize ab[i]=y at *;have d1:decide ((i:Int)<(D l:Int))=true:=dW;have cW:=h4 (i:=i) (by omega)
    by_cases ky:x=y
    ·subst ky;refine an ?_;repeat' (intro (aw:_=_)<;>simp only[aw,go_sem,go_sem_proc,G,ad,bp,bJ,dD,J,ag,d1,cW,aH,az,bG,bs,beq_self_eq_true,dT]<;>try refine aj ?_ ?_)
     exact⟨i+1,by omega,by omega,by rw[tv,pt,ao],rfl⟩
    ·have bc:(x==y)=false:=by simpa using ky
     have M:p1 (s,l) (s,ab)=false:=by
      refine j2 λh=>ky ?_;rw[ei] at h;rw[h.2,ag] at J;exact (mT J).symm
     rw[M];refine an ?_;repeat' (intro (aw:_=_)<;>simp only[aw,go_sem,go_sem_proc,G,ad,bp,bJ,dD,J,ag,d1,cW,bc,aH,az,bG,bs,dY]<;>try refine aj ?_ ?_)
   ·have d1:decide ((i:Int)<(D l:Int))=false:=ef
    have M:p1 (s,l) (s,ab)=true:=by
     refine lU ?_;rw[dz (by omega),dz (by omega)] at ao;rw[ao]
    rw[M];refine an ?_;repeat' (intro (aw:_=_)<;>simp only[aw,go_sem,go_sem_proc,G,ad,bp,bJ,dD,d1,az]<;>try refine aj ?_ ?_)
  ·have aL:(((D l:Nat):Int)==((D ab:Nat):Int))=false:=by simp;omega
   have M:p1 (s,l) (s,ab)=false:=by
    refine j2 λh=>af ?_;rw[ei] at h;rw[h.2]
   rw[M];refine an ?_;repeat' (intro (aw:_=_)<;>simp only[aw,go_sem,go_sem_proc,beq_self_eq_true,az,aL,dT,dY,bne]<;>try refine aj ?_ ?_)
 ·have bc:(s==s2)=false:=by simpa using R
  have M:p1 (s,l) (s2,ab)=false:=by
   refine j2 λh=>R ?_;rw[ei] at h;exact h.1
  rw[M];refine an ?_;repeat' (intro (aw:_=_)<;>simp only[aw,go_sem,go_sem_proc,bc,az,dT,dY,bne]<;>try refine aj ?_ ?_)
def JO:=b1 oL λ(s,l)=>some (.same (eJ (D9 (s,l))))
@[go_sem] def aAz (s l):=tS JO rfl Be (s,l) rfl
def ark (T:bl):WF T aeq JO:=by
 refine cq λ(s,l)=>⟨rfl,cr ?_⟩;simp only[aeq,oL,b8];refine an ?_;repeat' (intro h<;>simp only[h,go_sem,go_sem_proc,az]<;>try refine aj ?_ ?_)
 all_goals (simp only[eJ,c0,D9];simp only[cl, *,reduceIte,dT,dY,pF,m0,oG,l2,rp,gy,h2,e1,df,beq_self_eq_true,bne])
def arl {x y:Int}(h:bu x=bu y):x=y:=by rw[<-eI x,h,eI]
def OA:=b1 iB λ(s,l,s2,ab)=>cu (D l<=1000000/\D ab<=1000000) (.same (.int .i64 (oU (s,l) (s2,ab))))
@[go_sem] def aAA (s l s2 ab):=cL OA rfl qy (s,l,s2,ab) rfl
def arn (T:bl)(fb:T kC=aT uQ)(Cw:T Rt=aT Oz)(iH:T zc=aT Cu):WF T aeo OA:=by
 refine cq λ(s,l,s2,ab)=>cR λZ=>⟨rfl,cr ?_⟩;simp only[aeo,iB,b8];obtain⟨br,bq⟩:=Z
 by_cases M:cx (s,l)=true
 ·by_cases aP:cx (s2,ab)=true
  ·obtain⟨x,J,e⟩:=(gR _).1 M;obtain⟨y,ag,ax⟩:=(gR _).1 aP;have hm:oU (s,l) (s2,ab)=gH x y:=by rw[e,ax];exact Mt J ag
   rw[hm];clear hm
   have Cx:p1 (s,l) (s2,ab)=decide (x=y):=by
    rw[e,ax];exact decide_eq_decide.2 ⟨arl,λh=>by rw[h]⟩
   cases e
   cases ax;have m6:=l9 J;have kh:=l9 ag
   by_cases ky:x=y
   ·subst ky;rw[lU rfl] at Cx;rw[Ed];refine an ?_;repeat' (intro (aw:_=_)<;>simp only[aw,go_sem,go_sem_proc,fb,Cw,iH,M,aP,br,bq,Cx]<;>try refine aj ?_ ?_)
   ·rw[j2 ky] at Cx;have b2:=U6 x.natAbs y.natAbs ⟨by omega,by omega⟩
    simp only[c4] at b2
    have aro:gH x y=if x<y then -1 else 1:=by
     rcases pQ x y with h|h|h
     ·rw[Bt h,aq h]
     ·exact absurd h ky
     ·rw[Bu h,ar (by omega)]
    rw[aro]
    by_cases R:x.sign=y.sign
    ·have xW:(x.sign==y.sign)=true:=by simpa using R
     have lC:(decide (x.natAbs<y.natAbs)==decide (x.sign>0))=decide (x<y):=by
      rw[Bool.beq_eq_decide_eq,decide_eq_decide];simp only[decide_eq_decide];rcases jC x with ⟨e,E⟩|⟨e,E⟩|⟨e,E⟩<;>rcases jC y with ⟨e',G⟩|⟨e',G⟩|⟨e',G⟩<;>rw[e,e'] at R<;>first|omega|skip
     by_cases au:x<y
     ·rw[lU au] at lC;rw[aq au];refine an ?_;repeat' (intro (aw:_=_)<;>simp only[aw,go_sem,go_sem_proc,fb,Cw,iH,M,aP,br,bq,Cx,xW,b2,lC,dT,bne]<;>try refine aj ?_ ?_)
     ·rw[j2 au] at lC;rw[ar au];refine an ?_;repeat' (intro (aw:_=_)<;>simp only[aw,go_sem,go_sem_proc,fb,Cw,iH,M,aP,br,bq,Cx,xW,b2,lC,dT,bne]<;>try refine aj ?_ ?_)
    ·have xW:(x.sign==y.sign)=false:=by simpa using R
     have lC:decide (x.sign<y.sign)=decide (x<y):=by
      rw[decide_eq_decide];rcases jC x with ⟨e,E⟩|⟨e,E⟩|⟨e,E⟩<;>rcases jC y with ⟨e',G⟩|⟨e',G⟩|⟨e',G⟩<;>rw[e,e'] at R ⊢<;>omega
     by_cases au:x<y
     ·rw[lU au] at lC;rw[aq au];refine an ?_;repeat' (intro (aw:_=_)<;>simp only[aw,go_sem,go_sem_proc,fb,Cw,iH,M,aP,br,bq,Cx,xW,lC,dY,bne]<;>try refine aj ?_ ?_)
     ·rw[j2 au] at lC;rw[ar au];refine an ?_;repeat' (intro (aw:_=_)<;>simp only[aw,go_sem,go_sem_proc,fb,Cw,iH,M,aP,br,bq,Cx,xW,lC,dY,bne]<;>try refine aj ?_ ?_)
  ·have aP:cx (s2,ab)=false:=by simpa using aP
   have hm:oU (s,l) (s2,ab)=0:=by unfold oU;rw[aP,h2];rfl
   rw[hm];refine an ?_;repeat' (intro (aw:_=_)<;>simp only[aw,go_sem,go_sem_proc,fb,Cw,iH,M,aP,br,bq]<;>try refine aj ?_ ?_)
 ·have M:cx (s,l)=false:=by simpa using M
  have hm:oU (s,l) (s2,ab)=0:=by unfold oU;rw[M,e1];rfl
  rw[hm];refine an ?_;repeat' (intro (aw:_=_)<;>simp only[aw,go_sem,go_sem_proc,fb,Cw,iH,M,br,bq]<;>try refine aj ?_ ?_)
def JP:=b1 iB λ(s,l,s2,ab)=>cu (D l<=1000000/\D ab<=1000000) (.same (eJ (lL (s,l) (s2,ab))))
@[go_sem] def aAB (s l s2 ab):=cL JP rfl qy (s,l,s2,ab) rfl
def arp (T:bl)(fb:T kC=aT uQ)(qQ:T Hz=aT JM)(fW:T nv=aT yu):WF T aee JP:=by
 refine cq λ(s,l,s2,ab)=>cR λZ=>⟨rfl,cr ?_⟩;simp only[aee,iB,b8];obtain⟨br,bq⟩:=Z
 by_cases M:cx (s,l)=true
 ·by_cases aP:cx (s2,ab)=true
  ·obtain⟨x,J,e⟩:=(gR _).1 M;obtain⟨y,ag,ax⟩:=(gR _).1 aP
   have hm:lL (s,l) (s2,ab)=(bu (fO x.natAbs y.natAbs:Nat),0):=by
    rw[e,ax];unfold lL
    rw[jV J,jV ag,eI,eI]
    rfl
   rw[hm];clear hm
   cases e
   cases ax;have m6:=l9 J;have kh:=l9 ag;have aC:=Ee J ag;generalize qw:x.natAbs=X at *;generalize qC:y.natAbs=c5 at *;have Ie:(aG X).length<=1000000:=by omega
   simp only[go_sem,go_sem_proc,fb,qQ,fW,M,aP,qw,qC,br,bq,Ie,aH,az];refine dM [4] [164004] (λ((a,b):Nat×Nat) tm mem=>a<da/\b<da/\fO X c5=fO a b/\tm 6=.L (.ay ((aG a).map aH))/\tm 7=.L (.ay ((aG b).map aH))) (λ(_,b)=>b) (X,c5) (by refine⟨J,ag,rfl,rfl,rfl⟩) ?_;intro vs ms a7 aY;simp only[go_sem,go_sem_proc,fb,qQ,fW,qw,qC] at a7 aY;subst a7 aY;rintro⟨a,b⟩ tm mem Q hm ⟨a5,U,uc,bD,bL⟩;simp only[go_sem,go_sem_proc,fb,qQ,fW,bs] at Q hm;have aK:=Q;have mB:(aG a).length<=60:=fw.2 a5;have pM:(aG b).length<=60:=fw.2 U;rcases iK b with al|hn
   ·subst al;have aQ:aG 0=[]:=rfl;have Sw:(aG a).length<=1000000:=by omega
    rw[Nat.gcd_zero_right] at uc;have R:jk 1 (aG a)=bu ((a:Nat):Int):=l8 (by simp) λaE=>(gJ (by omega)).symm;rw[uc];refine an ?_;repeat' (intro h<;>simp only[h,go_sem,go_sem_proc,fb,qQ,fW,aK,bD,bL,hm,aQ,Sw,R,c0,eJ,nB,cl,lD,nw,n2,show ¬ ((0:Int)>0) by omega,decide_false]<;>try refine aj ?_ ?_)
   ·have bc:decide (((aG b).length:Int)>0)=true:=by
     have:aG b≠[]:=by rw[Ne,xB];omega
     have:=Ig.2 this;exact dW
    have hdiv:=aeG a b ⟨by omega,by omega,hn⟩
    simp only[c4] at hdiv;refine an ?_;repeat' (intro h<;>simp only[h,go_sem,go_sem_proc,fb,qQ,fW,aK,bD,bL,hm,bc,hdiv,az]<;>try refine aj ?_ ?_)
    exact⟨(b,a%b),m1 _ hn,U,vS (Nat.mod_le _ _) a5,by dsimp only;rw[uc,Ih a b,Nat.gcd_rec b a,Ih],rfl,rfl⟩
  ·have aP:cx (s2,ab)=false:=by simpa using aP
   have hm:lL (s,l) (s2,ab)=((0,[]),1):=by unfold lL;rw[aP,h2];rfl
   rw[hm];refine an ?_;repeat' (intro h<;>simp only[h,go_sem,go_sem_proc,fb,qQ,fW,M,aP,br,bq,c0,eJ,cl]<;>try refine aj ?_ ?_)
 ·have M:cx (s,l)=false:=by simpa using M
  have hm:lL (s,l) (s2,ab)=((0,[]),1):=by unfold lL;rw[M,e1];rfl
  rw[hm];refine an ?_;repeat' (intro h<;>simp only[h,go_sem,go_sem_proc,fb,qQ,fW,M,br,bq,c0,eJ,cl]<;>try refine aj ?_ ?_)
def JQ:=b1 iB λ(s,l,s2,ab)=>cu (D l<=1000000/\D ab<=1000000) (.same (eJ (mulR (s,l) (s2,ab))))
@[go_sem] def aAC (s l s2 ab):=cL JQ rfl qy (s,l,s2,ab) rfl
def arq (T:bl)(fb:T kC=aT uQ)(nQ:T A8=aT FD)(fW:T nv=aT yu)(uR:T A9=aT JO):WF T aen JQ:=by
 refine cq λ(s,l,s2,ab)=>cR λZ=>⟨rfl,cr ?_⟩;simp only[aen,iB,b8];obtain⟨br,bq⟩:=Z
 by_cases M:cx (s,l)=true
 ·by_cases aP:cx (s2,ab)=true
  ·obtain⟨x,J,e⟩:=(gR _).1 M;obtain⟨y,ag,ax⟩:=(gR _).1 aP;have hm:mulR (s,l) (s2,ab)=oT (x*y):=by rw[e,ax];exact xV J ag
   rw[hm];clear hm
   cases e
   cases ax;have E:=ma x;have G:=ma y;have aD:x.sign*y.sign=(x*y).sign:=(nC x y).symm;have ad:=ma (x*y);have hw:IntKind.i64.wrap (x.sign*y.sign)=(x*y).sign:=by rw[aD];exact wrap64 _ (by omega) (by omega)
   have hmul:=Va x.natAbs y.natAbs ⟨cN (l9 J) (by omega),cN (l9 ag) (by omega)⟩;simp only[c4] at hmul
   have hlen:(aG (x.natAbs*y.natAbs)).length<=1000000:=by
    refine cN ((fw (k:=120)).2 ?_) (by omega);have:(1048576^120:Nat)=da*da:=by unfold da;rw[<-Nat.pow_add]
    rw[this];exact Nat.mul_lt_mul'' J ag
   have R:jk (x*y).sign (aG (x.natAbs*y.natAbs))=bu (x*y):=l8 (Int.natAbs_mul x y) λ_=>rfl;refine an ?_;repeat' (intro h<;>simp only[h,go_sem,go_sem_proc,fb,nQ,fW,uR,M,aP,br,bq,hw,hmul,hlen,R,ub,c0,eJ,nB]<;>try refine aj ?_ ?_)
  ·have aP:cx (s2,ab)=false:=by simpa using aP
   have hm:mulR (s,l) (s2,ab)=((0,[]),1):=by unfold mulR;rw[aP,h2];rfl
   rw[hm];refine an ?_;repeat' (intro h<;>simp only[h,go_sem,go_sem_proc,fb,nQ,fW,uR,M,aP,br,bq,c0,eJ,cl]<;>try refine aj ?_ ?_)
 ·have M:cx (s,l)=false:=by simpa using M
  have hm:mulR (s,l) (s2,ab)=((0,[]),1):=by unfold mulR;rw[M,e1];rfl
  rw[hm];refine an ?_;repeat' (intro h<;>simp only[h,go_sem,go_sem_proc,fb,nQ,fW,uR,M,br,bq,c0,eJ,cl]<;>try refine aj ?_ ?_)
def OB:=b1 iB λ(s,l,s2,ab)=>cu (D l<=1000000/\D ab<=1000000) (.same (eJ (mb (s,l) (s2,ab))))
@[go_sem] def aAD (s l s2 ab):=cL OB rfl qy (s,l,s2,ab) rfl
def ars (T:bl)(fb:T kC=aT uQ)(qR:T HA=aT JK)(iH:T zc=aT Cu)(kN:T zb=aT FC)(fW:T nv=aT yu)(uR:T A9=aT JO):WF T aep OB:=by
 refine cq λ(s,l,s2,ab)=>cR λZ=>⟨rfl,cr ?_⟩;simp only[aep,iB,b8];obtain⟨br,bq⟩:=Z
 by_cases M:cx (s,l)=true
 ·by_cases aP:cx (s2,ab)=true
  ·obtain⟨x,J,e⟩:=(gR _).1 M;obtain⟨y,ag,ax⟩:=(gR _).1 aP;have hm:mb (s,l) (s2,ab)=oT (x+y):=by rw[e,ax];exact Sv J ag
   rw[hm];clear hm
   cases e
   cases ax;have E:=ma x;have G:=ma y;have m6:=l9 J;have kh:=l9 ag;have alY:=D7 x;have alZ:=D7 y
   have m7:(x.sign=1/\0<x)\/(x.sign=0/\x=0)\/(x.sign = -1/\x<0):=by
    rcases pQ x 0 with h|h|h
    ·exact .inr (.inr ⟨kF h,h⟩)
    ·exact .inr (.inl ⟨by rw[h];rfl,h⟩)
    ·exact .inl ⟨gJ h,h⟩
   have ty:(y.sign=1/\0<y)\/(y.sign=0/\y=0)\/(y.sign = -1/\y<0):=by
    rcases pQ y 0 with h|h|h
    ·exact .inr (.inr ⟨kF h,h⟩)
    ·exact .inr (.inl ⟨by rw[h];rfl,h⟩)
    ·exact .inl ⟨gJ h,h⟩
   have pR:=aez x.natAbs y.natAbs ⟨by omega,by omega⟩
   simp only[c4] at pR
   have hlen:(aG (x.natAbs+y.natAbs)).length<=1000000:=by
    refine cN ((fw (k:=61)).2 ?_) (by omega);have:(1048576^61:Nat)=da*1048576:=by unfold da;rw[<-rv]
    omega
   have g0:=U6 x.natAbs y.natAbs ⟨by omega,by omega⟩
   simp only[c4] at g0
   by_cases aD:x.sign*y.sign>=0
   ·have sO:bits .or .i64 x.sign y.sign=xK [x.sign,y.sign]:=by
     rcases m7 with ⟨e,_⟩|⟨e,_⟩|⟨e,_⟩<;>rcases ty with ⟨e',_⟩|⟨e',_⟩|⟨e',_⟩<;>rw[e,e'] at aD ⊢<;>first|rfl|exact absurd aD (by decide)
    have R:jk (xK [x.sign,y.sign]) (aG (x.natAbs+y.natAbs))=bu (x+y):=by
     refine l8 ?_ ?_
     ·rcases m7 with ⟨e,_⟩|⟨e,_⟩|⟨e,_⟩<;>rcases ty with ⟨e',_⟩|⟨e',_⟩|⟨e',_⟩<;>rw[e,e'] at aD<;>omega
     ·intro aE;rcases m7 with ⟨e,_⟩|⟨e,_⟩|⟨e,_⟩<;>rcases ty with ⟨e',_⟩|⟨e',_⟩|⟨e',_⟩<;>rw[e,e'] at aD ⊢
      ·exact (gJ (by omega)).symm
      ·exact (gJ (by omega)).symm
      ·omega
      ·exact (gJ (by omega)).symm
      ·omega
      ·exact (kF (by omega)).symm
      ·omega
      ·exact (kF (by omega)).symm
      ·exact (kF (by omega)).symm
    rcases bU:(x.sign==0)
    ·rcases c6:(y.sign==0)
     ·have la:(x.sign==y.sign)=true:=by
       rw[beq_eq_false_iff_ne] at bU c6;rw[beq_iff_eq];rcases m7 with ⟨e,_⟩|⟨e,_⟩|⟨e,_⟩<;>rcases ty with ⟨e',_⟩|⟨e',_⟩|⟨e',_⟩<;>rw[e,e'] at aD ⊢<;>omega
      refine an ?_;repeat' (intro (aw:_=_)<;>simp only[aw,go_sem,go_sem_proc,fb,qR,iH,kN,fW,uR,M,aP,br,bq,bU,c6,la,sO,pR,hlen,R,ub,c0,eJ,nB]<;>try refine aj ?_ ?_)
     ·refine an ?_;repeat' (intro (aw:_=_)<;>simp only[aw,go_sem,go_sem_proc,fb,qR,iH,kN,fW,uR,M,aP,br,bq,bU,c6,sO,pR,hlen,R,ub,c0,eJ,nB]<;>try refine aj ?_ ?_)
    ·refine an ?_;repeat' (intro (aw:_=_)<;>simp only[aw,go_sem,go_sem_proc,fb,qR,iH,kN,fW,uR,M,aP,br,bq,bU,sO,pR,hlen,R,ub,c0,eJ,nB]<;>try refine aj ?_ ?_)
   ·have bU:(x.sign==0)=false:=by
     rw[beq_eq_false_iff_ne];rcases m7 with ⟨e,_⟩|⟨e,_⟩|⟨e,_⟩<;>rw[e] at aD ⊢<;>omega
    have c6:(y.sign==0)=false:=by
     rw[beq_eq_false_iff_ne];rcases ty with ⟨e,_⟩|⟨e,_⟩|⟨e,_⟩<;>rw[e] at aD ⊢<;>omega
    have la:(x.sign==y.sign)=false:=by
     rw[beq_eq_false_iff_ne];rcases m7 with ⟨e,_⟩|⟨e,_⟩|⟨e,_⟩<;>rcases ty with ⟨e',_⟩|⟨e',_⟩|⟨e',_⟩<;>rw[e,e'] at aD ⊢<;>omega
    by_cases au:x.natAbs<y.natAbs
    ·have rO:decide (x.natAbs<y.natAbs)=true:=lU au;have jo:=Ov y.natAbs x.natAbs ⟨by omega,by omega⟩
     simp only[c4] at jo;have Bs:(aG (y.natAbs-x.natAbs)).length<=1000000:=cN (Ec _ _) (by omega)
     have R:jk y.sign (aG (y.natAbs-x.natAbs))=bu (x+y):=by
      refine l8 ?_ ?_
      ·rcases m7 with ⟨e,_⟩|⟨e,_⟩|⟨e,_⟩<;>rcases ty with ⟨e',_⟩|⟨e',_⟩|⟨e',_⟩<;>rw[e,e'] at aD<;>omega
      ·intro aE;rcases m7 with ⟨e,_⟩|⟨e,_⟩|⟨e,_⟩<;>rcases ty with ⟨e',_⟩|⟨e',_⟩|⟨e',_⟩<;>rw[e,e'] at aD<;>rw[e']<;>first|omega|exact (gJ (by omega)).symm|exact (kF (by omega)).symm
     refine an ?_;repeat' (intro (aw:_=_)<;>simp only[aw,go_sem,go_sem_proc,fb,qR,iH,kN,fW,uR,M,aP,br,bq,bU,c6,la,g0,rO,jo,Bs,R,ub,c0,eJ,nB]<;>try refine aj ?_ ?_)
    ·have rO:decide (x.natAbs<y.natAbs)=false:=j2 au;have jo:=Ov x.natAbs y.natAbs ⟨by omega,by omega⟩
     simp only[c4] at jo;have Bs:(aG (x.natAbs-y.natAbs)).length<=1000000:=cN (Ec _ _) (by omega)
     have R:jk x.sign (aG (x.natAbs-y.natAbs))=bu (x+y):=by
      refine l8 ?_ ?_
      ·rcases m7 with ⟨e,_⟩|⟨e,_⟩|⟨e,_⟩<;>rcases ty with ⟨e',_⟩|⟨e',_⟩|⟨e',_⟩<;>rw[e,e'] at aD<;>omega
      ·intro aE;rcases m7 with ⟨e,_⟩|⟨e,_⟩|⟨e,_⟩<;>rcases ty with ⟨e',_⟩|⟨e',_⟩|⟨e',_⟩<;>rw[e,e'] at aD<;>rw[e]<;>first|omega|exact (gJ (by omega)).symm|exact (kF (by omega)).symm
     refine an ?_;repeat' (intro (aw:_=_)<;>simp only[aw,go_sem,go_sem_proc,fb,qR,iH,kN,fW,uR,M,aP,br,bq,bU,c6,la,g0,rO,jo,Bs,R,ub,c0,eJ,nB]<;>try refine aj ?_ ?_)
  ·have aP:cx (s2,ab)=false:=by simpa using aP
   have hm:mb (s,l) (s2,ab)=((0,[]),1):=by unfold mb;rw[aP,h2];rfl
   rw[hm];refine an ?_;repeat' (intro (aw:_=_)<;>simp only[aw,go_sem,go_sem_proc,fb,qR,iH,kN,fW,uR,M,aP,br,bq,c0,eJ,cl]<;>try refine aj ?_ ?_)
 ·have M:cx (s,l)=false:=by simpa using M
  have hm:mb (s,l) (s2,ab)=((0,[]),1):=by unfold mb;rw[M,e1];rfl
  rw[hm];refine an ?_;repeat' (intro (aw:_=_)<;>simp only[aw,go_sem,go_sem_proc,fb,qR,iH,kN,fW,uR,M,br,bq,c0,eJ,cl]<;>try refine aj ?_ ?_)
def OC:=b1 iB λ(s,l,s2,ab)=>cu (D l<=1000000/\D ab<=1000000) (.same (k3 (k2 (s,l) (s2,ab))))
@[go_sem] def aAE (s l s2 ab):=cL OC rfl qy (s,l,s2,ab) rfl
def art (T:bl)(fb:T kC=aT uQ)(qQ:T Hz=aT JM)(qR:T HA=aT JK)(kN:T zb=aT FC)(fW:T nv=aT yu):WF T aef OC:=by
 refine cq λ(s,l,s2,ab)=>cR λZ=>⟨rfl,cr ?_⟩;simp only[aef,iB,b8];obtain⟨br,bq⟩:=Z
 by_cases M:cx (s,l)=true
 ·by_cases aP:cx (s2,ab)=true
  ·obtain⟨x,J,e⟩:=(gR _).1 M;obtain⟨y,ag,ax⟩:=(gR _).1 aP
   by_cases g4:y=0
   ·have hm:k2 (s,l) (s2,ab)=((0,[]),(0,[]),15):=by
     rw[e,ax];unfold k2
     rw[jV J,jV ag,eI,eI,aq (by rfl),aq g4]
    rw[hm]
    cases e
    cases ax;have al:((y.sign:Int)==0)=true:=by rw[g4];rfl
    refine an ?_;repeat' (intro (aw:_=_)<;>simp only[aw,go_sem,go_sem_proc,fb,qQ,qR,kN,fW,M,aP,br,bq,al,c0,k3,cl]<;>try refine aj ?_ ?_)
   ·have hm:k2 (s,l) (s2,ab)=(bu (x.fdiv y),bu (x.fmod y),0):=by
     rw[e,ax];exact Bv J ag g4
    rw[hm];clear hm
    cases e
    cases ax;have m6:=l9 J;have kh:=l9 ag;have Bw:(y.sign==0)=false:=by rw[beq_eq_false_iff_ne,Ne,Int.sign_eq_zero_iff_zero];exact g4
    have Bx:0<y.natAbs:=by omega
    have E:=ma x;have G:=ma y;have aD:x.sign*y.sign=(x*y).sign:=(nC x y).symm;have ad:=ma (x*y);have hw:IntKind.i64.wrap (x.sign*y.sign)=x.sign*y.sign:=by rw[aD];exact wrap64 _ (by omega) (by omega)
    have hdiv:=aeG x.natAbs y.natAbs ⟨by omega,by omega,Bx⟩
    simp only[c4] at hdiv;have aM:=Ef (y:=y) J g4;have Eh:=aav (x:=x) ag g4;have Sx:x.natAbs/y.natAbs<da:=vS (Nat.div_le_self _ _) J;have al3:(aG (x.natAbs/y.natAbs)).length<=60:=fw.2 Sx;have Ei:x.natAbs%y.natAbs<da:=Nat.lt_trans (m1 _ Bx) ag;have al4:(aG (x.natAbs%y.natAbs)).length<=60:=fw.2 Ei
    by_cases rP:x.sign*y.sign<0/\x.natAbs%y.natAbs≠0
    ·obtain⟨eq,rQ⟩:=Mv rP.1 rP.2
     have bc:(((aG (x.natAbs%y.natAbs)).length:Int)==0)=false:=by
      have:aG (x.natAbs%y.natAbs)≠[]:=by rw[Ne,xB];exact rP.2
      have:=Ig.2 this;rw[beq_eq_false_iff_ne];omega
     have k0:decide (x.sign*y.sign>=0)=false:=j2 (by have:=rP.1;omega);have jm:aG 1=[1]:=by simp[aG,vF]
     have al5:(aG 1).length=1:=by rw[jm];rfl
     have pR:=aez (x.natAbs/y.natAbs) 1 ⟨by omega,by omega⟩
     simp only[c4,jm,hv,cl,aH] at pR;have jo:=Ov y.natAbs (x.natAbs%y.natAbs) ⟨by omega,by omega,zv (m1 _ Bx)⟩
     simp only[c4] at jo
     have mB:(aG (x.natAbs/y.natAbs+1)).length<=1000000:=by
      have:(x.natAbs/y.natAbs+1)<da:=by rw[eq] at aM;rw[xY,ih] at aM;exact aM
      have:=(fw (k:=60)).2 this;omega
     have pM:(aG (y.natAbs-x.natAbs%y.natAbs)).length<=1000000:=by have:=Ec y.natAbs (x.natAbs%y.natAbs);omega
     have eX:jk (-1) (aG (x.natAbs/y.natAbs+1))=bu (x.fdiv y):=l8 (by rw[eq,xY,ih]) λ_=>by rw[eq,Int.sign_neg,gJ (show (0:Int)<((x.natAbs/y.natAbs+1:Nat):Int) by exact By.2 (Nat.succ_pos _))]
     have hj:jk y.sign (aG (y.natAbs-x.natAbs%y.natAbs))=bu (x.fmod y):=by
      refine l8 ?_ λaE=>?_
      ·rw[rQ];rcases jC y with ⟨e',ad⟩|⟨e',ad⟩|⟨e',ad⟩<;>rw[e']<;>omega
      ·rw[rQ,nC,xZ,gJ (show (0:Int)<((y.natAbs-x.natAbs%y.natAbs:Nat):Int) by omega),rE]
     refine an ?_;repeat' (intro (aw:_=_)<;>simp only[aw,go_sem,go_sem_proc,fb,qQ,qR,kN,fW,M,aP,br,bq,Bw,hw,hdiv,bc,k0,pR,jo,mB,pM,eX,hj,aH,az,c0,k3,nB]<;>try refine aj ?_ ?_)
    ·obtain⟨eq,rQ⟩:=Mw g4 rP
     have Sy:(decide (x.sign*y.sign>=0)=false/\(((aG (x.natAbs%y.natAbs)).length:Int)==0)=true)\/decide (x.sign*y.sign>=0)=true:=by
      by_cases aE:x.sign*y.sign<0
      ·left
       have:x.natAbs%y.natAbs=0:=Decidable.not_not.1 λh=>rP ⟨aE,h⟩;rw[this];exact⟨ef,rfl⟩
      ·right;exact dW
     have mB:(aG (x.natAbs/y.natAbs)).length<=1000000:=by omega
     have pM:(aG (x.natAbs%y.natAbs)).length<=1000000:=by omega
     have eX:jk (x.sign*y.sign) (aG (x.natAbs/y.natAbs))=bu (x.fdiv y):=by
      refine l8 ?_ λaE=>?_
      ·rw[eq]
       have sV:∀ak:Nat,(x=0->ak=0)->(x.sign*y.sign*(ak:Int)).natAbs=ak:=by
        intro ak al;rcases jC x with ⟨e,E⟩|⟨e,E⟩|⟨e,E⟩<;>rcases jC y with ⟨e',ad⟩|⟨e',ad⟩|⟨e',ad⟩<;>rw[e,e']<;>first|omega|(rw[al E];rfl)
       exact sV _ λal=>by rw[al];exact aew _
      ·rw[eq,aD,nC,nC,nC,xZ,xZ,gJ (show (0:Int)<((x.natAbs/y.natAbs:Nat):Int) from By.2 (DF aE)),rE]
     have hj:jk x.sign (aG (x.natAbs%y.natAbs))=bu (x.fmod y):=by
      refine l8 ?_ λaE=>?_
      ·rw[rQ]
       have sV:∀ak:Nat,(x=0->ak=0)->(x.sign*(ak:Int)).natAbs=ak:=by
        intro ak al;rcases jC x with ⟨e,E⟩|⟨e,E⟩|⟨e,E⟩<;>rw[e]<;>first|omega|(rw[al E];rfl)
       exact sV _ λal=>by rw[al];exact Nat.zero_mod _
      ·rw[rQ,nC,xZ,gJ (show (0:Int)<((x.natAbs%y.natAbs:Nat):Int) from By.2 (DF aE)),rE]
     rcases Sy with ⟨Bz,Sz⟩|Bz
     ·refine an ?_;repeat' (intro (aw:_=_)<;>simp only[aw,go_sem,go_sem_proc,fb,qQ,qR,kN,fW,M,aP,br,bq,Bw,hw,hdiv,Bz,Sz,mB,pM,eX,hj,aH,az,c0,k3,nB]<;>try refine aj ?_ ?_)
     ·refine an ?_;repeat' (intro (aw:_=_)<;>simp only[aw,go_sem,go_sem_proc,fb,qQ,qR,kN,fW,M,aP,br,bq,Bw,hw,hdiv,Bz,mB,pM,eX,hj,aH,az,c0,k3,nB]<;>try refine aj ?_ ?_)
  ·have aP:cx (s2,ab)=false:=by simpa using aP
   have hm:k2 (s,l) (s2,ab)=((0,[]),(0,[]),1):=by unfold k2;rw[aP,h2];rfl
   rw[hm];refine an ?_;repeat' (intro (aw:_=_)<;>simp only[aw,go_sem,go_sem_proc,fb,qQ,qR,kN,fW,M,aP,br,bq,c0,k3,cl]<;>try refine aj ?_ ?_)
 ·have M:cx (s,l)=false:=by simpa using M
  have hm:k2 (s,l) (s2,ab)=((0,[]),(0,[]),1):=by unfold k2;rw[M,e1];rfl
  rw[hm];refine an ?_;repeat' (intro (aw:_=_)<;>simp only[aw,go_sem,go_sem_proc,fb,qQ,qR,kN,fW,M,br,bq,c0,k3,cl]<;>try refine aj ?_ ?_)
def aeO:bQ:=b9 19 2 [.t 4] (Y [cS 2 115002 0,cI 4 false] (Y [aX 5 0 2,aX 6 1 5,aR 7 1 6,ch 8 7,F 9 1,bE 10 .leq 8 9,F 11 10,mD 12 11 2 2,mD 13 11 1 12,kD 14 11 1 13,RG 15 11 14,ey 16 11 1,Bd 17 11 .leq 15 16,gb 18 11 17,F 4 18] .ret))
def aeP:bQ:=b9 17 2 [.t 4] (Y [cS 2 120002 0,cS 3 120003 1,cI 4 false] (Y [aX 5 0 2,bd 6 2 5,aX 7 0 3,bd 8 2 7,bV 9 LP 6 8,F 10 9,mD 11 10 2 2,zf 12 10 2 11,mD 13 10 2 3,zf 14 10 2 13,fx 15 10 (.call LP [.t 12,.t 14]),gb 16 10 15,F 4 16] .ret))
def aeQ:bQ:=b9 13 2 [.cell 4 4 true,.t 5] (Y [cC 4 124004 dU,bz 5 0] (Y [F 6 0,dv 7 DH 6,F 8 1,dv 9 DH 8,bV 10 Ht 7 9,bb 11 0 10,bb 12 1 10,bo 4 4 11,F 5 12] .ret))
def aeR:bQ:=b9 38 2 [.t 4] (Y [cS 2 142002 0,cS 3 142003 1,cI 4 false] (.seq (Y [aX 6 0 2,aR 7 1 6,aX 8 0 3,aR 9 1 8,bE 10 .neq 7 9,F 11 10,gP 12 11 1 2,gd 13 11 1 12,rC 14 11 13,gP 15 11 1 3,gd 16 11 1 15,rC 17 11 16,qu 18 11 .neq 14 17,dk 19 11 18] (cn 19 [cI 4 false])) (.seq (Y [bz 5 0] (eW 0 (.seq (Y [F 20 5,aX 21 1 2,aR 22 1 21,ch 23 22,bE 24 .lss 20 23] (en 24 0)) (.seq (.block 1 (fk [aX 27 1 2,aR 28 1 27,F 29 5,bZ 30 1 28 29,aR 31 1 30,aX 32 1 3,aR 33 1 32,F 34 5,bZ 35 1 33 34,aR 36 1 35,bE 37 .neq 31 36] L3 (cn 37 [cI 4 false]))) (.ops [F 25 5,bt 26 .add 25 1,F 5 26]))))) (Y [cI 4 true] .ret))))
def aeS:bQ:=b9 57 2 [.cell 4 4 true,.t 5] (Y [cS 2 143002 0,cS 3 143003 1,cC 4 143004 dU,bz 5 0] (.seq (Y [bd 14 2 2,dv 15 kC 14,fj 16 15,F 17 16,hz 18 17 2 3,gz 19 17 (.call kC [.t 18]),j9 20 17 19,dk 21 17 20] (cn 21 [aO 22 (.build dU []),bo 4 4 22,bz 5 1])) (.seq (Y [aX 23 0 3,aR 24 1 23,bt 25 .eql 24 0] (cn 25 [aO 26 (.build dU []),bo 4 4 26,bz 5 15])) (.seq (Y [aX 27 0 3,aR 28 1 27,bt 29 .lss 28 0] (fT 29 (Y [bd 30 2 2,dv 31 LS 30,bo 2 2 31] (.ops [bd 32 2 3,dv 33 LS 32,bo 2 3 33])) .skip)) (Y [bd 35 2 2,bd 36 2 3,bV 37 Hw 35 36,F 34 37,bb 38 0 34,bb 39 1 34,cC 6 143006 dg,bo 2 6 38,F 7 39] (Y [bd 41 2 2,bd 42 2 6,bV 43 LU 41 42,F 40 43,bb 44 0 40,bb 45 1 40,bb 46 2 40,cC 8 143008 dg,cC 9 143009 dg,bo 2 8 44,bo 2 9 45,F 10 46] (Y [bd 48 2 3,bd 49 2 6,bV 50 LU 48 49,F 47 50,bb 51 0 47,bb 52 1 47,bb 53 2 47,cC 11 143011 dg,cC 12 143012 dg,bo 2 11 51,bo 2 12 52,F 13 53] (Y [bd 54 2 8,bd 55 2 11,aO 56 (.build dU [(0,2,.t 54),(2,2,.t 55)]),bo 4 4 56,bz 5 0] .ret))))))))
def aeT:bQ:=b9 33 1 [.t 2] (Y [cS 1 196001 0,cI 2 false] (.seq (Y [aX 5 0 1,bd 6 2 5,dv 7 kC 6,fj 8 7,F 9 8,gP 10 9 2 1,hz 11 9 2 10,gz 12 9 (.call kC [.t 11]),j9 13 9 12,dk 14 9 13,F 15 14,gP 16 15 2 1,gP 17 15 0 16,gd 18 15 1 17,hA 19 15 .lss 18 1,dk 20 15 19] (cn 20 [cI 2 false])) (Y [aX 22 0 1,bd 23 2 22,aX 24 2 1,bd 25 2 24,bV 26 Hw 23 25,F 21 26,bb 27 0 21,bb 28 1 21,cC 3 196003 dg,bo 2 3 27,F 4 28] (fk [bd 29 2 3,aO 30 (.call DH [.c (bh 1)]),bV 31 Rr 29 30,bt 32 .eql 31 0,F 2 32] aks .ret))))
def aeU:bQ:=b9 46 2 [.cell 4 4 true,.t 5] (Y [cS 2 197002 0,cS 3 197003 1,cC 4 197004 dU,bz 5 0] (.seq (Y [bd 10 4 2,dv 11 xH 10,fj 12 11,F 13 12,hz 14 13 4 3,gz 15 13 (.call xH [.t 14]),j9 16 13 15,dk 17 13 16] (cn 17 [aO 18 (.build dU []),bo 4 4 18,bz 5 1])) (Y [aX 20 0 2,bd 21 2 20,aX 22 0 3,bd 23 2 22,bV 24 zd 21 23,F 19 24,bb 25 0 19,bb 26 1 19,cC 6 197006 dg,bo 2 6 25,F 7 26] (Y [aX 28 2 2,bd 29 2 28,aX 30 2 3,bd 31 2 30,bV 32 zd 29 31,F 27 32,bb 33 0 27,bb 34 1 27,cC 8 197008 dg,bo 2 8 33,F 9 34] (Y [bd 35 2 6,bd 36 2 8,F 37 7,bt 38 .neq 37 0,F 39 38,gf 40 39 9,hA 41 39 .neq 40 0,dk 42 39 41,L2 43 HB 35 36 42,bb 44 0 43,bb 45 1 43,bo 4 4 44,F 5 45] .ret)))))
def aeV:bQ:=b9 72 2 [.cell 4 4 true,.t 5] (Y [cS 2 198002 0,cS 3 198003 1,cC 4 198004 dU,bz 5 0] (.seq (Y [bd 14 4 2,dv 15 xH 14,fj 16 15,F 17 16,hz 18 17 4 3,gz 19 17 (.call xH [.t 18]),j9 20 17 19,dk 21 17 20] (cn 21 [aO 22 (.build dU []),bo 4 4 22,bz 5 1])) (Y [aX 24 0 2,bd 25 2 24,aX 26 2 3,bd 27 2 26,bV 28 zd 25 27,F 23 28,bb 29 0 23,bb 30 1 23,cC 6 198006 dg,bo 2 6 29,F 7 30] (Y [aX 32 0 3,bd 33 2 32,aX 34 2 2,bd 35 2 34,bV 36 zd 33 35,F 31 36,bb 37 0 31,bb 38 1 31,cC 8 198008 dg,bo 2 8 37,F 9 38] (Y [aX 40 2 2,bd 41 2 40,aX 42 2 3,bd 43 2 42,bV 44 zd 41 43,F 39 44,bb 45 0 39,bb 46 1 39,cC 10 198010 dg,bo 2 10 45,F 11 46] (Y [bd 48 2 6,bd 49 2 8,bV 50 Rs 48 49,F 47 50,bb 51 0 47,bb 52 1 47,cC 12 198012 dg,bo 2 12 51,F 13 52] (Y [bd 53 2 12,bd 54 2 10,F 55 7,bt 56 .neq 55 0,F 57 56,gf 58 57 9,hA 59 57 .neq 58 0,dk 60 57 59,F 61 60,gf 62 61 11,hA 63 61 .neq 62 0,dk 64 61 63,F 65 64,gf 66 65 13,hA 67 65 .neq 66 0,dk 68 65 67,L2 69 HB 53 54 68,bb 70 0 69,bb 71 1 69,bo 4 4 70,F 5 71] .ret)))))))
def aeW:bQ:=b9 15 3 [.cell 6 4 true,.t 7] (Y [cS 3 204003 0,cS 4 204004 1,cC 6 204006 dU,bz 7 0] (.seq (Y [F 8 2] (cn 8 [aO 9 (.build dU []),bo 4 6 9,bz 7 6])) (Y [bd 10 2 3,bd 11 2 4,bV 12 Ht 10 11,bb 13 0 12,bb 14 1 12,bo 4 6 13,F 7 14] .ret)))
def JR:=b1 iB λ(s,l,s2,ab)=>cu (D l<=1000000/\D ab<=1000000) (.same (dx (hB (s,l) (s2,ab))))
@[go_sem] def aAF (s l s2 ab):=cL JR rfl qy (s,l,s2,ab) rfl
def aru (T:bl)(fb:T kC=aT uQ)(JS:T LS=aT Oy)(wO:T Hw=aT JP)(JT:T LU=aT OC):WF T aeS JR:=by
 refine cq λ(s,l,s2,ab)=>cR λZ=>⟨rfl,cr ?_⟩;simp only[aeS,iB,b8];obtain⟨br,bq⟩:=Z
 by_cases M:cx (s,l)=true
 ·by_cases aP:cx (s2,ab)=true
  ·obtain⟨x,J,e⟩:=(gR _).1 M;obtain⟨y,ag,ax⟩:=(gR _).1 aP
   by_cases al:y=0
   ·have hm:hB (s,l) (s2,ab)=(bK,15):=by
     unfold hB;rw[M,aP,ax,eI,aq (by rfl),aq al]
    rw[hm]
    cases e
    cases ax;have R:(y.sign==0)=true:=by rw[al];rfl
    refine an ?_;repeat' (intro h<;>simp only[h,go_sem,go_sem_proc,fb,JS,wO,JT,M,aP,br,bq,R,dx,aS,bK,cl]<;>try refine aj ?_ ?_)
   ·have main:∀p q:Int,p.natAbs<da->q.natAbs<da->0<q->∃g:Raw,lL (bu p) (bu q)=(g,0)/\g.2.length<=1000000/\k2 (bu p) g=(bu (jW p q).num,bu (p.fmod ((fO p.natAbs q.natAbs:Nat):Int)),0)/\k2 (bu q) g=(bu (jW p q).den,bu (q.fmod ((fO p.natAbs q.natAbs:Nat):Int)),0):=by
     intro p q aD aM kY;have ji:=Ee aD aM;have BA:((fO p.natAbs q.natAbs:Nat):Int).natAbs<da:=by rw[ih];exact ji
     have Bo:=SI (p:=p) (q:=q) (by omega);obtain⟨E,G⟩:=SG (p:=p) kY;refine⟨bu ((fO p.natAbs q.natAbs:Nat):Int),?_,k4 BA,?_,?_⟩
     ·unfold lL;rw[jV aD,jV aM,eI,eI];rfl
     ·rw[Bv aD BA (by omega),E]
     ·rw[Bv aM BA (by omega),G]
    have nD:(y.sign==0)=false:=by simpa using al
    rcases Int.lt_or_gt_of_ne al with k0|hn
    ·have eX:decide (y.sign<0)=true:=by rw[kF k0];rfl
     obtain⟨⟨cA,cY⟩,aC,ji,jm,ki⟩:=main (-x) (-y) (by omega) (by omega) (by omega)
     have hm:hB (s,l) (s2,ab)=(bW (jW (-x) (-y)),0):=by
      rw[e,ax,zz J ag al,Rat.neg_divInt_neg]
     rw[hm];have tv:kk (s,l)=bu (-x):=by unfold kk;rw[aq M,e,eI]
     have pt:kk (s2,ab)=bu (-y):=by unfold kk;rw[aq aP,ax,eI]
     have sY:s2=y.sign:=congrArg wc ax;have e5:(bu (-x)).2.length<=1000000:=k4 (by omega);have fz:(bu (-y)).2.length<=1000000:=k4 (by omega);clear e ax;unfold bW;generalize bu (-x)=X at *;generalize bu (-y)=c5 at *;obtain⟨e9,fy⟩:=X;obtain⟨oO,qv⟩:=c5;rw[<-sY] at nD eX;refine an ?_;repeat' (intro h<;>simp only[h,go_sem,go_sem_proc,fb,JS,wO,JT,M,aP,br,bq,nD,eX,tv,pt,e5,fz,aC,ji,jm,ki,dx,aS,eJ,k3,c0]<;>try refine aj ?_ ?_)
    ·have eX:decide (y.sign<0)=false:=by rw[gJ hn];rfl
     obtain⟨⟨cA,cY⟩,aC,ji,jm,ki⟩:=main x y J ag hn
     have hm:hB (s,l) (s2,ab)=(bW (jW x y),0):=by
      rw[e,ax,zz J ag al]
     rw[hm];have sY:s2=y.sign:=congrArg wc ax;rw[<-e] at aC jm;rw[<-ax] at aC ki;rw[<-sY] at nD eX;unfold bW;refine an ?_;repeat' (intro h<;>simp only[h,go_sem,go_sem_proc,fb,JS,wO,JT,M,aP,br,bq,nD,eX,aC,ji,jm,ki,dx,aS,eJ,k3,c0]<;>try refine aj ?_ ?_)
  ·have aP:cx (s2,ab)=false:=by simpa using aP
   have hm:hB (s,l) (s2,ab)=(bK,1):=by unfold hB;rw[aP,h2];rfl
   rw[hm];refine an ?_;repeat' (intro h<;>simp only[h,go_sem,go_sem_proc,fb,JS,wO,JT,M,aP,br,bq,dx,aS,bK,cl]<;>try refine aj ?_ ?_)
 ·have M:cx (s,l)=false:=by simpa using M
  have hm:hB (s,l) (s2,ab)=(bK,1):=by unfold hB;rw[M,e1];rfl
  rw[hm];refine an ?_;repeat' (intro h<;>simp only[h,go_sem,go_sem_proc,fb,JS,wO,JT,M,br,bq,dx,aS,bK,cl]<;>try refine aj ?_ ?_)
def OD:=b1 vO λ(p,q)=>cu (er p/\er q) (.same (dx (hB (bu p) (bu q))))
@[go_sem] def aAG (p q):=cL OD rfl Mc (p,q) rfl
def arv (T:bl)(FG:T DH=aT JN)(OE:T Ht=aT JR):WF T aeQ OD:=by
 refine cq λ(p,q)=>cR λZ=>⟨rfl,cr ?_⟩;simp only[aeQ,vO,b8];obtain⟨E,G⟩:=Z;have ig:(bu p).2.length<=1000000:=k4 (x0 E);have ab:(bu q).2.length<=1000000:=k4 (x0 G);generalize dh:bu p=P at *;generalize eO:bu q=ak at *;obtain⟨e9,fy⟩:=P;obtain⟨oO,qv⟩:=ak;refine an ?_;repeat' (intro h<;>simp only[h,go_sem,go_sem_proc,FG,OE,E,G,dh,eO,ig,ab,c0,dx,aS]<;>try refine aj ?_ ?_)
def OF:=b1 iB λ(s,l,s2,ab)=>cu (D l<=1000000/\D ab<=1000000) (.same (.bool (p1 (s,l) (s2,ab))))
@[go_sem] def aAH (s l s2 ab):=cL OF rfl qy (s,l,s2,ab) rfl
def arw (T:bl):WF T aeR OF:=by
 refine cq λ(s,l,s2,ab)=>cR λZ=>⟨rfl,cr ?_⟩;simp only[aeR,iB,b8];obtain⟨br,bq⟩:=Z
 by_cases R:s=s2
 ·subst R
  by_cases af:(D l)=D ab
  ·have aL:(((D l:Nat):Int)==((D ab:Nat):Int))=true:=by simp;omega
   simp only[go_sem,go_sem_proc,beq_self_eq_true,az,aL,dT,bne];refine dM [2,3] [142002,142003] (λ(i:Nat) tm mem=>i<=D l/\l.take i=ab.take i/\tm 5=.L (.int .i64 i)) (λi=>D l-i) 0 (by refine⟨by omega,by simp,rfl⟩) ?_;intro vs ms a7 aY;simp only[go_sem,go_sem_proc,az] at a7 aY;subst a7 aY;rintro i tm mem Q hm ⟨O,ao,bp⟩;simp only[go_sem,go_sem_proc,bs] at Q hm;obtain⟨G,ad⟩:=Q;obtain⟨bJ,dD⟩:=hm;rcases eC (i<D l) with au|bO
   ·have J:l[i]?=some l[i]:=bB au;have ag:ab[i]?=some ab[i]:=bB (by omega);have tv:l.take (i+1)=l.take i++[l[i]]:=by rw[jj,J];rfl
    have pt:ab.take (i+1)=ab.take i++[ab[i]]:=by rw[jj,ag];rfl
    generalize l[i]=x at *;generalize ab[i]=y at *;have d1:decide ((i:Int)<(D l:Int))=true:=dW;have cW:=h4 (i:=i) (by omega)
    by_cases ky:x=y
    ·subst ky;refine an ?_;repeat' (intro (aw:_=_)<;>simp only[aw,go_sem,go_sem_proc,G,ad,bp,bJ,dD,J,ag,d1,cW,aH,az,bG,bs,beq_self_eq_true,dT]<;>try refine aj ?_ ?_)
     exact⟨i+1,by omega,by omega,by rw[tv,pt,ao],rfl⟩
    ·have bc:(x==y)=false:=by simpa using ky
     have M:p1 (s,l) (s,ab)=false:=by
      refine j2 λh=>ky ?_;rw[ei] at h;rw[h.2,ag] at J;exact (mT J).symm
     rw[M];refine an ?_;repeat' (intro (aw:_=_)<;>simp only[aw,go_sem,go_sem_proc,G,ad,bp,bJ,dD,J,ag,d1,cW,bc,aH,az,bG,bs,dY]<;>try refine aj ?_ ?_)
   ·have d1:decide ((i:Int)<(D l:Int))=false:=ef
    have M:p1 (s,l) (s,ab)=true:=by
     refine lU ?_;rw[dz (by omega),dz (by omega)] at ao;rw[ao]
    rw[M];refine an ?_;repeat' (intro (aw:_=_)<;>simp only[aw,go_sem,go_sem_proc,G,ad,bp,bJ,dD,d1,az]<;>try refine aj ?_ ?_)
  ·have aL:(((D l:Nat):Int)==((D ab:Nat):Int))=false:=by simp;omega
   have M:p1 (s,l) (s,ab)=false:=by
    refine j2 λh=>af ?_;rw[ei] at h;rw[h.2]
   rw[M];refine an ?_;repeat' (intro (aw:_=_)<;>simp only[aw,go_sem,go_sem_proc,beq_self_eq_true,az,aL,dT,dY,bne]<;>try refine aj ?_ ?_)
 ·have bc:(s==s2)=false:=by simpa using R
  have M:p1 (s,l) (s2,ab)=false:=by
   refine j2 λh=>R ?_;rw[ei] at h;exact h.1
  rw[M];refine an ?_;repeat' (intro (aw:_=_)<;>simp only[aw,go_sem,go_sem_proc,bc,az,dT,dY,bne]<;>try refine aj ?_ ?_)
def OG (a b:aJ):Bool:=decide (a=b)
def OH:=b1 nG λ(s,l,s2,ab,cv,cJ,cD,cE)=>cu (D l<=1000000/\D ab<=1000000/\D cJ<=1000000/\D cE<=1000000) (.same (.bool (OG ((s,l),(s2,ab)) ((cv,cJ),(cD,cE)))))
@[go_sem] def aAI (s l s2 ab cv cJ cD cE):=cL OH rfl zB (s,l,s2,ab,cv,cJ,cD,cE) rfl
def arx (T:bl)(aeX:T LP=aT OF):WF T aeP OH:=by
 refine cq λ(s,l,s2,ab,cv,cJ,cD,cE)=>cR λZ=>⟨rfl,cr ?_⟩;simp only[aeP,nG,b8];obtain⟨br,bq,e5,fz⟩:=Z
 have e:OG ((s,l),(s2,ab)) ((cv,cJ),(cD,cE))=(p1 (s,l) (cv,cJ)&&p1 (s2,ab) (cD,cE)):=by
  unfold OG p1;rw[FE,dH,decide_eq_true_eq,decide_eq_true_eq,decide_eq_true_eq,ei]
 rw[e];rcases E:p1 (s,l) (cv,cJ)
 ·refine an ?_;repeat' (intro h<;>simp only[h,go_sem,go_sem_proc,aeX,br,bq,e5,fz,E,e1]<;>try refine aj ?_ ?_)
 ·refine an ?_;repeat' (intro h<;>simp only[h,go_sem,go_sem_proc,aeX,br,bq,e5,fz,E,gy]<;>try refine aj ?_ ?_)
def ng (f:aJ)(n:Int):Bool:=decide ((f.1.2.length:Int)<=n)&&decide ((f.2.2.length:Int)<=n)
abbrev OI:Int×(List Int)×Int×(List Int)×Int->List Data:=λ(s,l,s2,ab,n)=>[.agg [.int .i64 s,.ay (l.map aH),.int .i64 s2,.ay (ab.map aH)],.int .i64 n]
def FH:=b1 OI λ(s,l,s2,ab,n)=>some (.same (.bool (ng ((s,l),(s2,ab)) n)))
def ary:∀a b,OI a=OI b->a=b:=by
  rintro⟨s1,ig,rM,qz,pA⟩ ⟨s2,ab,rN,qA,sE⟩ h;simp only[bs,Data.agg.injEq,Data.int.injEq,Data.ay.injEq] at h;exact cy h.1.1.2 (cy (map_inj fi _ _ h.1.2.1) (cy h.1.2.2.1.2 (cy (map_inj fi _ _ h.1.2.2.2.1) h.2.1.2)))
@[go_sem] def aAJ (s l s2 ab n):=tS FH rfl ary (s,l,s2,ab,n) rfl
def arz (T:bl):WF T aeO FH:=by
 refine cq λ(s,l,s2,ab,n)=>⟨rfl,cr ?_⟩;simp only[aeO,OI,b8];unfold ng;rcases E:decide ((D l:Int)<=n)
 ·refine an ?_;repeat' (intro h<;>simp only[h,go_sem,go_sem_proc,E,az,e1]<;>try refine aj ?_ ?_)
 ·refine an ?_;repeat' (intro h<;>simp only[h,go_sem,go_sem_proc,E,az,gy]<;>try refine aj ?_ ?_)
def FI:=b1 k5 λ(s,l,s2,ab)=>cu (D l<=1000000/\D ab<=1000000) (.same (.bool (cU ((s,l),(s2,ab)))))
@[go_sem] def aAK (s l s2 ab):=cL FI rfl ug (s,l,s2,ab) rfl
def arA (T:bl)(fb:T kC=aT uQ)(wO:T Hw=aT JP)(FG:T DH=aT JN)(OJ:T Rr=aT OA):WF T aeT FI:=by
 refine cq λ(s,l,s2,ab)=>cR λZ=>⟨rfl,cr ?_⟩;simp only[aeT,k5,b8];obtain⟨br,bq⟩:=Z
 by_cases M:cx (s,l)=true
 ·by_cases aP:cx (s2,ab)=true
  ·obtain⟨x,J,e⟩:=(gR _).1 M;obtain⟨y,ag,ax⟩:=(gR _).1 aP
   have aC:lL (s,l) (s2,ab)=(bu ((fO x.natAbs y.natAbs:Nat):Int),0):=by
    unfold lL;rw[M,aP,e,ax,eI,eI];rfl
   have ji:=Ee J ag;have sD:gI (s,l)=x:=by rw[e,eI]
   have mQ:gI (s2,ab)=y:=by rw[ax,eI]
   have ew:cU ((s,l),(s2,ab))=((s2==1)&&(fO x.natAbs y.natAbs==1)):=by
    show (cx (s,l)&&(cx (s2,ab)&&((s2==1)&&(fO (gI (s,l)).natAbs (gI (s2,ab)).natAbs==1))))=_;rw[M,aP,sD,mQ];simp only[gy]
   have sY:s2=y.sign:=congrArg wc ax;have Eg:=ma y;rw[ew];have iu:oU (bu ((fO x.natAbs y.natAbs:Nat):Int)) (bu 1)=gH ((fO x.natAbs y.natAbs:Nat):Int) 1:=Mt (by rw[ih];exact ji) (x0 (by unfold er;omega))
   have aZ:(gH ((fO x.natAbs y.natAbs:Nat):Int) 1==0)=(fO x.natAbs y.natAbs==1):=by
    generalize fO x.natAbs y.natAbs=a9;rw[FE,beq_iff_eq,beq_iff_eq];rcases pQ (a9:Int) 1 with h|h|h
    ·rw[Bt h];omega
    ·rw[h,Ed];omega
    ·rw[Bu h];omega
   have SF:((bu ((fO x.natAbs y.natAbs:Nat):Int)).2).length<=1000000:=k4 (by rw[ih];exact ji);have qc:er 1:=by unfold er;omega
   have Ie:(bu 1).2.length<=1000000:=k4 (x0 qc);rcases R:decide (s2<1)
   ·have eX:(s2==1)=true:=by have:=of_decide_eq_false R;rw[beq_iff_eq];omega
    rw[eX,gy,<-aZ];generalize gH ((fO x.natAbs y.natAbs:Nat):Int) 1=C at *;generalize bu ((fO x.natAbs y.natAbs:Nat):Int)=a9 at *;generalize eA:bu 1=av at *;obtain⟨cA,cY⟩:=a9;obtain⟨sb,uL⟩:=av;refine an ?_;repeat' (intro (aw:_=_)<;>simp only[aw,go_sem,go_sem_proc,fb,wO,FG,OJ,M,aP,br,bq,R,aC,SF,qc,Ie,iu,eA,eJ,c0]<;>try refine aj ?_ ?_)
   ·have eX:(s2==1)=false:=by have:=of_decide_eq_true R;rw[beq_eq_false_iff_ne];omega
    rw[eX,e1];refine an ?_;repeat' (intro (aw:_=_)<;>simp only[aw,go_sem,go_sem_proc,fb,wO,FG,OJ,M,aP,br,bq,R]<;>try refine aj ?_ ?_)
  ·have aP:cx (s2,ab)=false:=by simpa using aP
   have ew:cU ((s,l),(s2,ab))=false:=by unfold cU;simp[aP]
   rw[ew];refine an ?_;repeat' (intro (aw:_=_)<;>simp only[aw,go_sem,go_sem_proc,fb,wO,FG,OJ,M,aP,br,bq]<;>try refine aj ?_ ?_)
 ·have M:cx (s,l)=false:=by simpa using M
  have ew:cU ((s,l),(s2,ab))=false:=by unfold cU;simp[M]
  rw[ew];refine an ?_;repeat' (intro (aw:_=_)<;>simp only[aw,go_sem,go_sem_proc,fb,wO,FG,OJ,M,br,bq]<;>try refine aj ?_ ?_)
def Cy (b:Bool)(p q:Raw):aJ×Int:=if b=true then (bK,6) else hB p q
abbrev OK:Int×(List Int)×Int×(List Int)×Bool->List Data:=λ(s,l,s2,ab,b)=>[.agg [.int .i64 s,.ay (l.map aH)],.agg [.int .i64 s2,.ay (ab.map aH)],.bool b]
def JU:=b1 OK λ(s,l,s2,ab,b)=>cu (D l<=1000000/\D ab<=1000000) (.same (dx (Cy b (s,l) (s2,ab))))
def arB:∀a b,OK a=OK b->a=b:=by
  rintro⟨s1,ig,rM,qz,cQ⟩ ⟨s2,ab,rN,qA,dO⟩ h;simp only[bs,Data.agg.injEq,Data.int.injEq,Data.ay.injEq,Data.bool.injEq] at h;exact cy h.1.1.2 (cy (map_inj fi _ _ h.1.2.1) (cy h.2.1.1.2 (cy (map_inj fi _ _ h.2.1.2.1) h.2.2.1)))
@[go_sem] def aAL (s l s2 ab b):=cL JU rfl arB (s,l,s2,ab,b) rfl
def arC (T:bl)(OE:T Ht=aT JR):WF T aeW JU:=by
 refine cq λ(s,l,s2,ab,b)=>cR λZ=>⟨rfl,cr ?_⟩;simp only[aeW,OK,b8];obtain⟨br,bq⟩:=Z
 cases b
 ·refine an ?_;repeat' (intro h<;>simp only[h,go_sem,go_sem_proc,OE,br,bq,Cy,dx,aS]<;>try refine aj ?_ ?_)
 ·refine an ?_;repeat' (intro h<;>simp only[h,go_sem,go_sem_proc,OE,br,bq,Cy,dx,aS,bK,cl]<;>try refine aj ?_ ?_)
def Vh (X c5 ak H:Raw×Int):aJ×Int:=Cy (!((X.2==0)&&((c5.2==0)&&((ak.2==0)&&(H.2==0))))) H.1 ak.1
def Vi (P ak:Raw×Int):aJ×Int:=Cy (!((P.2==0)&&(ak.2==0))) P.1 ak.1
def arD {a b:aJ}(a5:cU a=true)(U:cU b=true):jq a b=Vi (mulR a.1 b.1) (mulR a.2 b.2):=by
 unfold jq s0 Vi Cy;rw[aq a5,aq U]
 cases E:((mulR a.1 b.1).2==0)<;>cases G:((mulR a.2 b.2).2==0)<;>rfl
def arE {a b:aJ}(a5:cU a=true)(U:cU b=true):iC a b=Vh (mulR a.1 b.2) (mulR b.1 a.2) (mulR a.2 b.2) (mb (mulR a.1 b.2).1 (mulR b.1 a.2).1):=by
 unfold iC s0 we Vh Cy;rw[aq a5,aq U];rcases E:((mulR a.1 b.2).2==0)<;>rcases G:((mulR b.1 a.2).2==0)<;>rcases ad:((mulR a.2 b.2).2==0)<;>rcases aK:((mb (mulR a.1 b.2).1 (mulR b.1 a.2).1).2==0)<;>simp_all
def OL:=b1 nG λ(s,l,s2,ab,cv,cJ,cD,cE)=>cu (D l<=1000000/\D ab<=1000000/\D cJ<=1000000/\D cE<=1000000) (.same (dx (iC ((s,l),(s2,ab)) ((cv,cJ),(cD,cE)))))
@[go_sem] def aAM (s l s2 ab cv cJ cD cE):=cL OL rfl zB (s,l,s2,ab,cv,cJ,cD,cE) rfl
def arF (T:bl)(pc:T xH=aT FI)(sd:T zd=aT JQ)(Cz:T Rs=aT OB)(se:T HB=aT JU):WF T aeV OL:=by
 refine cq λ(s,l,s2,ab,cv,cJ,cD,cE)=>cR λZ=>⟨rfl,cr ?_⟩;simp only[aeV,nG,b8];obtain⟨br,bq,e5,fz⟩:=Z
 by_cases M:cU ((s,l),(s2,ab))=true
 ·by_cases aP:cU ((cv,cJ),(cD,cE))=true
  ·rw[arE M aP];dsimp only;have ba:=sZ (s,l) (cD,cE);have bJ:=sZ (cv,cJ) (s2,ab);have dD:=sZ (s2,ab) (cD,cE);generalize jB:mulR (s,l) (cD,cE)=gA at *;generalize nE:mulR (cv,cJ) (s2,ab)=M2 at *;generalize JV:mulR (s2,ab) (cD,cE)=M3 at *;obtain⟨⟨cz,dj⟩,aL⟩:=gA;obtain⟨⟨cQ,dO⟩,ax⟩:=M2;obtain⟨⟨bU,c6⟩,eo⟩:=M3;dsimp only at *;have h5:=aaM (cz,dj) (cQ,dO);generalize JW:mb (cz,dj) (cQ,dO)=M4 at *;obtain⟨⟨d1,d2⟩,kZ⟩:=M4;unfold Vh;dsimp only at *;rcases E:(aL==0)
   ·refine an ?_;repeat' (intro h<;>simp only[h,go_sem,go_sem_proc,pc,sd,Cz,se,br,bq,e5,fz,M,aP,jB,nE,JV,JW,ba,bJ,dD,h5,E,eJ,c0,dx,aS,dY,dT,bne,e1]<;>try refine aj ?_ ?_)
   ·rcases G:(ax==0)
    ·refine an ?_;repeat' (intro h<;>simp only[h,go_sem,go_sem_proc,pc,sd,Cz,se,br,bq,e5,fz,M,aP,jB,nE,JV,JW,ba,bJ,dD,h5,E,G,eJ,c0,dx,aS,dY,dT,bne,e1,gy]<;>try refine aj ?_ ?_)
    ·rcases ad:(eo==0)
     ·refine an ?_;repeat' (intro h<;>simp only[h,go_sem,go_sem_proc,pc,sd,Cz,se,br,bq,e5,fz,M,aP,jB,nE,JV,JW,ba,bJ,dD,h5,E,G,ad,eJ,c0,dx,aS,dY,dT,bne,e1,gy]<;>try refine aj ?_ ?_)
     ·rcases aK:(kZ==0)
      ·refine an ?_;repeat' (intro h<;>simp only[h,go_sem,go_sem_proc,pc,sd,Cz,se,br,bq,e5,fz,M,aP,jB,nE,JV,JW,ba,bJ,dD,h5,E,G,ad,aK,eJ,c0,dx,aS,dY,dT,bne,e1,gy]<;>try refine aj ?_ ?_)
      ·refine an ?_;repeat' (intro h<;>simp only[h,go_sem,go_sem_proc,pc,sd,Cz,se,br,bq,e5,fz,M,aP,jB,nE,JV,JW,ba,bJ,dD,h5,E,G,ad,aK,eJ,c0,dx,aS,dY,dT,bne,e1,gy]<;>try refine aj ?_ ?_)
  ·have aP:cU ((cv,cJ),(cD,cE))=false:=by simpa using aP
   unfold iC;rw[aq M,ar (by simp[aP])];refine an ?_;repeat' (intro h<;>simp only[h,go_sem,go_sem_proc,pc,sd,Cz,se,br,bq,e5,fz,M,aP,dx,aS,bK,cl]<;>try refine aj ?_ ?_)
 ·have M:cU ((s,l),(s2,ab))=false:=by simpa using M
  unfold iC;rw[ar (by simp[M])];refine an ?_;repeat' (intro h<;>simp only[h,go_sem,go_sem_proc,pc,sd,Cz,se,br,bq,e5,fz,M,dx,aS,bK,cl]<;>try refine aj ?_ ?_)
def OM:=b1 nG λ(s,l,s2,ab,cv,cJ,cD,cE)=>cu (D l<=1000000/\D ab<=1000000/\D cJ<=1000000/\D cE<=1000000) (.same (dx (jq ((s,l),(s2,ab)) ((cv,cJ),(cD,cE)))))
@[go_sem] def aAN (s l s2 ab cv cJ cD cE):=cL OM rfl zB (s,l,s2,ab,cv,cJ,cD,cE) rfl
def arG (T:bl)(pc:T xH=aT FI)(sd:T zd=aT JQ)(se:T HB=aT JU):WF T aeU OM:=by
 refine cq λ(s,l,s2,ab,cv,cJ,cD,cE)=>cR λZ=>⟨rfl,cr ?_⟩;simp only[aeU,nG,b8];obtain⟨br,bq,e5,fz⟩:=Z
 by_cases M:cU ((s,l),(s2,ab))=true
 ·by_cases aP:cU ((cv,cJ),(cD,cE))=true
  ·rw[arD M aP];dsimp only;have ba:=sZ (s,l) (cv,cJ);have bJ:=sZ (s2,ab) (cD,cE);generalize jB:mulR (s,l) (cv,cJ)=gA at *;generalize nE:mulR (s2,ab) (cD,cE)=M2 at *;obtain⟨⟨cz,dj⟩,aL⟩:=gA;obtain⟨⟨cQ,dO⟩,ax⟩:=M2;unfold Vi;dsimp only at *;rcases E:(aL==0)
   ·refine an ?_;repeat' (intro h<;>simp only[h,go_sem,go_sem_proc,pc,sd,se,br,bq,e5,fz,M,aP,jB,nE,ba,bJ,E,eJ,c0,dx,aS,dY,dT,bne,e1]<;>try refine aj ?_ ?_)
   ·rcases G:(ax==0)
    ·refine an ?_;repeat' (intro h<;>simp only[h,go_sem,go_sem_proc,pc,sd,se,br,bq,e5,fz,M,aP,jB,nE,ba,bJ,E,G,eJ,c0,dx,aS,dY,dT,bne,e1,gy]<;>try refine aj ?_ ?_)
    ·refine an ?_;repeat' (intro h<;>simp only[h,go_sem,go_sem_proc,pc,sd,se,br,bq,e5,fz,M,aP,jB,nE,ba,bJ,E,G,eJ,c0,dx,aS,dY,dT,bne,e1,gy]<;>try refine aj ?_ ?_)
  ·have aP:cU ((cv,cJ),(cD,cE))=false:=by simpa using aP
   unfold jq;rw[aq M,ar (by simp[aP])];refine an ?_;repeat' (intro h<;>simp only[h,go_sem,go_sem_proc,pc,sd,se,br,bq,e5,fz,M,aP,dx,aS,bK,cl]<;>try refine aj ?_ ?_)
 ·have M:cU ((s,l),(s2,ab))=false:=by simpa using M
  unfold jq;rw[ar (by simp[M])];refine an ?_;repeat' (intro h<;>simp only[h,go_sem,go_sem_proc,pc,sd,se,br,bq,e5,fz,M,dx,aS,bK,cl]<;>try refine aj ?_ ?_)
def aeY:bQ:=b9 30 3 [.t 6] (Y [cI 6 false] (.seq (Y [bz 7 0] (eW 0 (.seq (Y [F 8 7,F 9 0,ch 10 9,bE 11 .lss 8 10,F 12 11,ey 13 12 7,ey 14 12 1,Bd 15 12 .leq 13 14,gb 16 12 15] (en 16 0)) (.seq (.block 1 (Y [F 19 0,F 20 7,bZ 21 4 19 20,bd 22 4 21,F 23 2,bV 24 A3 22 23,fj 25 24] (cn 25 [cI 6 false]))) (.ops [F 17 7,bt 18 .add 17 1,F 7 18]))))) (Y [F 26 0,ch 27 26,F 28 1,bE 29 .leq 27 28,F 6 29] .ret)))
def aeZ:bQ:=b9 27 2 [.t 4] (Y [cI 4 false] (.seq (Y [F 6 0,ch 7 6,F 8 1,ch 9 8,bE 10 .neq 7 9] (cn 10 [cI 4 false])) (.seq (Y [bz 5 0] (eW 0 (.seq (Y [F 11 5,F 12 0,ch 13 12,bE 14 .lss 11 13] (en 14 0)) (.seq (.block 1 (fk [F 17 0,F 18 5,bZ 19 4 17 18,bd 20 4 19,F 21 1,F 22 5,bZ 23 4 21 22,bd 24 4 23,bV 25 Q9 20 24,fj 26 25] HF (cn 26 [cI 4 false]))) (.ops [F 15 5,bt 16 .add 15 1,F 5 16]))))) (Y [cI 4 true] .ret))))
def p2 (l:List aJ)(n d:Int):Bool:=decide ((D l:Int)<=n)&&l.all λf=>ng f d
def ae0 {α:Type}{p:α->Bool}{l:List α}{i:Nat}{x:α}(J:l[i]?=some x):(l.take (i+1)).all p=((l.take i).all p&&p x):=by
 rw[jj,J,US];simp
def ae1 {α:Type}{p:α->Bool}{l:List α}{i:Nat}{x:α}(J:l[i]?=some x)(h:p x=false):l.all p=false:=by
 rw[adV];exact⟨x,du J,by simp[h]⟩
abbrev ON:(List aJ)×Int×Int->List Data:=λ(l,n,d)=>[.ay (l.map aS),.int .i64 n,.int .i64 d]
def OO:=b1 ON λ(l,n,d)=>cu (n<=1000000) (.same (.bool (p2 l n d)))
def arH:∀a b,ON a=ON b->a=b:=by
  rintro⟨ig,pA,d1⟩ ⟨ab,sE,d2⟩ h;simp only[bs,Data.int.injEq,Data.ay.injEq] at h;exact cy (map_inj m8 _ _ h.1) (cy h.2.1.2 h.2.2.1.2)
@[go_sem] def aAO (l n d):=cL OO rfl arH (l,n,d) rfl
def arI (T:bl)(gU:T A3=aT FH):WF T aeY OO:=by
 refine cq λ(l,n,d)=>cR λZ=>⟨rfl,cr ?_⟩;simp only[aeY,ON,b8];simp only[go_sem,go_sem_proc,gU,az];refine dM [0,1,2] [] (λ(i:Nat) tm mem=>i<=D l/\(l.take i).all (λf=>ng f d)=true/\tm 7=.L (.int .i64 i)) (λi=>D l-i) 0 (by refine⟨by omega,by simp,rfl⟩) ?_;intro vs ms a7 aY;simp only[go_sem,go_sem_proc,gU,az] at a7 aY;subst a7 aY;rintro i tm mem Q hm ⟨O,ao,bL⟩;simp only[go_sem,go_sem_proc,gU,bs] at Q;obtain⟨al,E,G⟩:=Q
 by_cases bk:i<D l/\(i:Int)<=n
 ·obtain⟨au,ga⟩:=bk;obtain⟨⟨⟨a,b⟩,⟨c,e⟩⟩,J⟩:∃f,l[i]?=some f:=⟨_,bB au⟩;have d1:decide ((i:Int)<(D l:Int))=true:=dW;have d2:decide ((i:Int)<=n)=true:=lU ga;have cW:=h4 (i:=i) (by omega);rcases uS:ng ((a,b),(c,e)) d
  ·have M:p2 l n d=false:=by unfold p2;rw[ae1 J uS,h2]
   rw[M];refine an ?_;repeat' (intro h<;>simp only[h,go_sem,go_sem_proc,gU,al,E,G,bL,J,d1,d2,cW,uS,aS,az,bG]<;>try refine aj ?_ ?_)
  ·refine an ?_;repeat' (intro h<;>simp only[h,go_sem,go_sem_proc,gU,al,E,G,bL,J,d1,d2,cW,uS,aS,az,bG]<;>try refine aj ?_ ?_)
   exact⟨i+1,by omega,by omega,by rw[ae0 J,ao,uS];rfl,rfl⟩
 ·have M:p2 l n d=decide ((D l:Int)<=n):=by
   unfold p2
   by_cases Vj:(D l:Int)<=n
   ·have:i=D l:=by omega
    rw[this,sW] at ao;rw[ao,rp]
   ·rw[j2 Vj,e1]
  rw[M];rcases d1:decide ((i:Int)<(D l:Int))
  ·refine an ?_;repeat' (intro h<;>simp only[h,go_sem,go_sem_proc,gU,al,E,G,bL,d1,az]<;>try refine aj ?_ ?_)
  ·have d2:decide ((i:Int)<=n)=false:=j2 (by have:=of_decide_eq_true d1;omega);refine an ?_;repeat' (intro h<;>simp only[h,go_sem,go_sem_proc,gU,al,E,G,bL,d1,d2,az]<;>try refine aj ?_ ?_)
def JX (a b:List aJ):Bool:=decide (a=b)
abbrev OP:(List aJ)×(List aJ)->List Data:=λ(l,ab)=>[.ay (l.map aS),.ay (ab.map aS)]
def JY:=b1 OP λ(l,ab)=>cu (iE l/\iE ab) (.same (.bool (JX l ab)))
def arJ:∀a b,OP a=OP b->a=b:=by
  rintro⟨ig,qz⟩ ⟨ab,qA⟩ h;simp only[bs,Data.int.injEq,Data.ay.injEq] at h;exact cy (map_inj m8 _ _ h.1) (map_inj m8 _ _ h.2.1)
@[go_sem] def arK (l ab):=cL JY rfl arJ (l,ab) rfl
def arL (T:bl)(CA:T Q9=aT OH):WF T aeZ JY:=by
 refine cq λ(l,ab)=>cR λZ=>⟨rfl,cr ?_⟩;simp only[aeZ,OP,b8];obtain⟨⟨br,Le⟩,bq,Qc⟩:=Z
 by_cases af:(D l)=D ab
 ·have aL:(((D l:Nat):Int)==((D ab:Nat):Int))=true:=by simp;omega
  simp only[go_sem,go_sem_proc,CA,az,aL,dT,bne];refine dM [0,1] [] (λ(i:Nat) tm mem=>i<=D l/\l.take i=ab.take i/\tm 5=.L (.int .i64 i)) (λi=>D l-i) 0 (by refine⟨by omega,by simp,rfl⟩) ?_;intro vs ms a7 aY;simp only[go_sem,go_sem_proc,CA,az] at a7 aY;subst a7 aY;rintro i tm mem Q hm ⟨O,ao,bp⟩;simp only[go_sem,go_sem_proc,CA,bs] at Q;obtain⟨al,E⟩:=Q;rcases eC (i<D l) with au|bO
  ·obtain⟨⟨⟨a,b⟩,⟨c,e⟩⟩,J⟩:∃f,l[i]?=some f:=⟨_,bB au⟩;obtain⟨⟨⟨ck,dA⟩,⟨c',e'⟩⟩,ag⟩:∃f,ab[i]?=some f:=⟨_,bB (by omega)⟩;obtain⟨sb,uL⟩:=Le _ (du J);obtain⟨wJ,wK⟩:=Qc _ (du ag);dsimp only at sb uL wJ wK;have d1:decide ((i:Int)<(D l:Int))=true:=dW;have cW:=h4 (i:=i) (by omega);rcases R:OG ((a,b),(c,e)) ((ck,dA),(c',e'))
   ·have M:JX l ab=false:=by
     refine j2 λh=>of_decide_eq_false R ?_;rw[h,ag] at J;exact (mT J).symm
    rw[M];refine an ?_;repeat' (intro (aw:_=_)<;>simp only[aw,go_sem,go_sem_proc,CA,al,E,bp,J,ag,d1,cW,sb,uL,wJ,wK,R,aS,az,bG]<;>try refine aj ?_ ?_)
   ·refine an ?_;repeat' (intro (aw:_=_)<;>simp only[aw,go_sem,go_sem_proc,CA,al,E,bp,J,ag,d1,cW,sb,uL,wJ,wK,R,aS,az,bG]<;>try refine aj ?_ ?_)
    exact⟨i+1,by omega,by omega,by rw[jj,jj,J,ag,ao,of_decide_eq_true R],rfl⟩
  ·have d1:decide ((i:Int)<(D l:Int))=false:=ef
   have M:JX l ab=true:=by
    refine lU ?_;rw[dz (by omega),dz (by omega)] at ao;exact ao
   rw[M];refine an ?_;repeat' (intro (aw:_=_)<;>simp only[aw,go_sem,go_sem_proc,CA,al,E,bp,d1,az]<;>try refine aj ?_ ?_)
 ·have aL:(((D l:Nat):Int)==((D ab:Nat):Int))=false:=by simp;omega
  have M:JX l ab=false:=j2 λh=>af (by rw[h]);rw[M];refine an ?_;repeat' (intro (aw:_=_)<;>simp only[aw,go_sem,go_sem_proc,CA,az,aL,dY,bne]<;>try refine aj ?_ ?_)
end Go.Mini
