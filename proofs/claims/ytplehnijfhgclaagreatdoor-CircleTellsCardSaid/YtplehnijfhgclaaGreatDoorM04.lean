/- A part of the proof. -/
import Derived.Test.YtplehnijfhgclaaGreatDoorProg
import Derived.KernelRfl
import Derived.Test.YtplehnijfhgclaaGreatDoorM03
set_option linter.unusedSimpArgs false
set_option linter.unusedVariables false
set_option linter.defProp false
set_option maxRecDepth 100000
set_option maxHeartbeats 4000000
noncomputable section
open Bool renaming and_eq_false_iff->ad2,and_eq_true->ff,and_false->iZ,and_self->KD,and_true->pF,false_and->eO,false_eq_true->cE,false_or->pE,not_eq_false->ae5,not_eq_false'->Pg,not_eq_true'->vB,not_false->dc,not_true->c2,or_eq_true->tA,or_false->tE,or_true->tD,rec->gu,true_and->e0,true_or->qz
open Classical renaming choose_spec->sk
open Decidable renaming em->du
open Int renaming add_comm->yA,add_zero->Jh,cast_ofNat_Int->oV,eq_ofNat_of_zero_le->vJ,lt_trichotomy->oX,mul_add->h9,mul_assoc->ia,mul_zero->wQ,natAbs_neg->rr,natCast_zero->oe,pow_succ->mY,sign_eq_neg_one_of_neg->kJ,sign_eq_one_of_pos->gq,sign_mul_natAbs->Fp,tdiv_eq_ediv_of_nonneg->Ff,tdiv_nonneg->afS,tmod_eq_emod_of_nonneg->Ja,tmod_nonneg->afR,toNat_natCast->lX
open List renaming all_append->Di,all_cons->u3,all_eq_true->kA,any_eq_false->sN,append_assoc->ki,append_nil->mX,count_replicate_self->ae8,count_set->ae3,drop->nL,drop_eq_getElem_cons->gx,drop_eq_nil_of_le->lj,drop_set_of_lt->se,drop_zero->pD,flatten_cons->mg,flatten_nil->afz,getD_eq_getElem?_getD->dH,getElem?_eq_getElem->bf,getElem?_eq_none->lk,getElem?_eq_some_iff->dL,getElem?_map->bg,getElem?_range->r3,getElem_mem->hb,length->D,length_append->ks,length_cons->lQ,length_map->aj,length_nil->mV,length_range->tF,length_replicate->hs,length_set->fk,length_singleton->Wi,length_take->gk,map_append->pT,map_cons->g0,map_nil->bP,map_replicate->CM,map_take->afA,mem_filterMap->aeh,mem_map->h7,mem_of_getElem?->cL,mem_or_eq_of_mem_set->nW,mem_range->BN,mem_replicate->pM,mem_singleton->sE,mem_zipIdx_iff_getElem?->Eu,range->qj,range'->Kg,range_eq_range'->aes,replicate->ch,replicate_succ->qn,take->mZ,take_add_one->ho,take_length->mB,take_of_length_le->dF
open List.cons renaming injEq->bl
open Nat renaming add_zero->lo,beq->hg,ble->rF,blt->AN,div_div_eq_div_mul->afD,eq_of_beq_eq_true->Ko,eq_zero_or_pos->ln,gcd->gr,gcd_comm->Jv,le_of_ble_eq_true->p3,le_refl->c9,le_trans->iG,lt_of_div_lt_div->afE,lt_of_le_of_lt->yy,lt_or_ge->gY,lt_succ_self->KM,max_eq_right->WH,min_eq_left->n7,mod_lt->oQ,mul_comm->yf,mul_le_mul_right->q7,mul_lt_mul_of_pos_left->afL,mul_one->dM,one_lt_pow->aeU,pow_succ->z5,reduceEqDiff->sW,sub_self->hG,zero_le->dG
open Option renaming bind_none->o1,map_eq_some_iff->c4,rec->k7
open Option.some renaming inj->mm,injEq->bO
open Prod renaming ext->cz
open Prod.mk renaming injEq->eM
namespace Go.Mini
open Go
variable {P:Program} {b4:Option I} {A:Nat->Prop} {ct w:World} {dE B:cU} {n kb:Nat} {own:List Nat} {ops:Array Oper} {o:Oper} {run:jH} {t:fq} {m:e7} {c:Nat} {d:Option I} {T:bj} {gm:Nat->Nat->Bool} {l:List bz}
def pZ (T:bj)(gm:Nat->Nat->Bool)(p0:Nat)(s4:bz->Rec->a8->a8->Prop)(S:Nat->bz->(Nat->I)->Prop):uY:=λi x rec st iN cf =>
 if i=p0 then iN=rec/\s4 x rec st cf else jr T gm i x rec st iN cf/\S i x st.tm
def adZ {p0:Nat}{s4:bz->Rec->a8->a8->Prop}{S:Nat->bz->(Nat->I)->Prop}:Ib (pZ T gm p0 s4 S):=by
 intro i x rec st iN cf h k R;unfold pZ at h
 split at h
 ·rw[h.1]
 ·exact RT h.1 R
def Pf {i j:Nat}(U:((fV ops.toList []).getD j 0).testBit i=true)(listed:Array Bool)(eb:wz ops listed)(ab:i∈Region.ready .any ops listed)(aa:j∈Region.ready .any ops listed):False:=by
 obtain⟨_,o,a6,cZ⟩:=mem_ready.1 aa;have F:=Y5 eb j o a6 cZ i U;have au:=(mem_ready.1 ab).1;rcases gY i listed.size with cI|cI
 ·simp[cI] at au F;rw[au] at F;cases F
 ·simp[Array.getElem?_eq_none cI] at F
def l4 (p1:List Nat)(g j:Nat):Bool:=!(hg j g) && !((p1.getD g 0).testBit j) && !((p1.getD j 0).testBit g)
def ad0 {i:Nat}{x:bz}{rec iN:Rec}{st cf:a8}(h:jr T gm i x rec st iN cf):∃v,cf.tm=put st.tm x.dst v:=by
 rcases h with ⟨_,_,rfl⟩|⟨_,m,e,_,_,_,rfl⟩
 ·exact⟨_,rfl⟩
 ·exact⟨_,rfl⟩
def ad1 {p0:Nat}{s4:bz->Rec->a8->a8->Prop}{S:Nat->bz->(Nat->I)->Prop}(af:qh ops l=true)(aqA:gm=mS (mi [] l (fV ops.toList [])))
  (cW:∀i x tm tm',(∀s∈looks x,tm s=tm' s)->S i x tm->S i x tm')
  (F:∀(j:Nat) (x y:bz) rec st rec1 st1 kD,l4 (fV ops.toList []) p0 j=true->l[p0]?=some x->l[j]?=some y->oH y x=true->rec j=none->jr T gm j y rec st rec1 st1->S j y st.tm->s4 x rec1 st1 kD->∃jz,s4 x rec st jz/\jr T gm j y rec jz rec1 kD)
  (G:∀(j:Nat) (x y:bz) rec st kC st1 kD,l4 (fV ops.toList []) p0 j=true->l[p0]?=some x->l[j]?=some y->oH x y=true->rec j=none->s4 x rec st st1->jr T gm j y rec st1 kC kD->S j y st1.tm->∃jz,jr T gm j y rec st kC jz/\S j y st.tm/\s4 x kC jz kD)
  (ad:∀(x:bz) rec st cf,s4 x rec st cf->l[p0]?=some x->(∃v,cf.tm=put st.tm x.dst v)\/(∀j y,l[j]?=some y->l4 (fV ops.toList []) p0 j=false)):Ia (pZ T gm p0 s4 S) ops l:=by
 intro i j x y hX ab aa;rcases RV af i j x y hX ab aa with h|⟨c1,iQ⟩
 ·exact .inl h
 ·by_cases xi:i=p0
  ·subst xi;have kV:j≠i:=λh=>hX h.symm
   cases hu:l4 (fV ops.toList []) i j with
   |false =>
    unfold l4 at hu;simp only[ad2,Pg] at hu;rcases hu with (hu|hu)|hu
    ·exact absurd (Ko hu) kV
    ·exact .inl λlisted eb F G=>Pf hu listed eb G F
    ·exact .inl λlisted eb F G=>Pf hu listed eb F G
   |true =>
    refine .inr λrec st rec1 st1 kC kD wx vG aQ az=>?_;unfold pZ at aQ az ⊢;rw[aL rfl] at aQ;rw[aT kV] at az;obtain⟨rfl,aQ⟩:=aQ;obtain⟨jz,dx,dW,hR⟩:=G j x y _ _ _ _ _ hu ab aa c1 vG aQ az.1 az.2;exact⟨kC,jz,by rw[aT kV];exact⟨dx,dW⟩,by rw[aL rfl];exact⟨rfl,hR⟩⟩
  ·by_cases CX:j=p0
   ·subst CX
    cases hu:l4 (fV ops.toList []) j i with
    |false =>
     unfold l4 at hu;simp only[ad2,Pg] at hu;rcases hu with (hu|hu)|hu
     ·exact absurd (Ko hu) hX
     ·exact .inl λlisted eb F G=>Pf hu listed eb F G
     ·exact .inl λlisted eb F G=>Pf hu listed eb G F
    |true =>
     refine .inr λrec st rec1 st1 kC kD wx vG aQ az=>?_;unfold pZ at aQ az ⊢;rw[aT hX] at aQ;rw[aL rfl] at az;obtain⟨rfl,az⟩:=az;obtain⟨jz,dx,dW⟩:=F i y x _ _ _ _ _ hu aa ab c1 wx aQ.1 aQ.2 az
     have Q:S i x jz.tm:=by
      rcases ad y rec st jz dx aa with ⟨v,ao⟩|h6
      ·rw[ao];exact cW i x _ _ (λs Q=>(lV λaf=>(BB c1).2.2 s af Q).symm) aQ.2
      ·rw[h6 i x ab] at hu;cases hu
     exact⟨rec,jz,by rw[aL rfl];exact⟨rfl,dx⟩,by rw[aT hX];exact⟨dW,Q⟩⟩
   ·refine .inr λrec st rec1 st1 kC kD wx vG aQ az=>?_;unfold pZ at aQ az ⊢;rw[aT xi] at aQ;rw[aT CX] at az;subst aqA;obtain⟨wy,jz,dx,dW⟩:=jr.comm hX c1 iQ (MU _) wx aQ.1 az.1;obtain⟨v,ao⟩:=ad0 aQ.1;obtain⟨pA,kR⟩:=ad0 dx
    have fv:S j y st.tm:=by
     have h:=az.2;rw[ao] at h;exact cW j y _ _ (λs Q=>lV λaf=>(BB c1).1 s af Q) h
    have hO:S i x jz.tm:=by
     rw[kR];exact cW i x _ _ (λs Q=>(lV λaf=>(BB c1).2.2 s af Q).symm) aQ.2
    exact⟨wy,jz,by rw[aT CX];exact⟨dx,fv⟩,by rw[aT xi];exact⟨dW,hO⟩⟩
structure l5 where
 f:FuncId
 CY:List I
 uA:Mem
 jd:Mem
 r:I
 hT:Option (Nat×Key×List I)
structure Gi (bh:l5):Prop where
 Kp:∀fl k z,bh.hT=some (fl,k,z)->bh.uA k=none
 dx:∀fl k z,bh.hT=some (fl,k,z)->bh.jd k=none
 aqB:∀fl k z,bh.hT=some (fl,k,z)->freeM k bh.uA
 aqC:∀fl k z,bh.hT=some (fl,k,z)->o8 k bh.CY=true
 aqD:∀fl k z,bh.hT=some (fl,k,z)->o8 k z=true
def l5.made (bh:l5)(rec:Rec):Option (Key×List I):=match bh.hT with
 |none=>none
 |some (fl,k,z)=>match rec fl with
  |none=>none
  |some _=>some (k,z)
def o9 (mem:Mem):Option (Key×List I)->Mem
 |none=>mem
 |some (k,z)=>aV mem k 0 z
def CZ (bh:l5)(x:bz)(rec:Rec)(st cf:a8):Prop :=
 ∃args,x.op=.call bh.f args/\x.g=none/\args.map (aM st.tm)=bh.CY/\st.mem=o9 bh.uA (bh.made rec)/\cf=⟨put st.tm x.dst bh.r,o9 bh.jd (bh.made rec)⟩
def xj (bh:l5)(un:Nat->Bool)(i:Nat)(x:bz)(tm:Nat->I):Prop:=un i=true->∀n bJ y,x.op=.load n bJ y->g9 tm x.g=some true->∃v,iW bh.uA n bJ (aM tm y)=some v/\iW bh.jd n bJ (aM tm y)=some v
def ad3 {bh:l5}{un:Nat->Bool}(i:Nat)(x:bz)(tm tm':Nat->I)(h:∀s∈looks x,tm s=tm' s)(Q:xj bh un i x tm):xj bh un i x tm':=by
 intro hu n bJ y e5 aN;have F:g9 tm x.g=g9 tm' x.g:=H7 λs b Q=>h s (H8 Q);have G:aM tm y=aM tm' y:=ey λs Q=>h s (uX (by rw[e5];exact Q));rw[<-G];exact Q hu n bJ y e5 (F.trans aN)
inductive Kq (bh:l5) (j:Nat) (y:bz):Prop
 |quiet (h:mh y.op=0) (aa:∀fl k z,bh.hT=some (fl,k,z)->j≠fl)
 |load (n:Nat) (bJ:Bool) (x:bx) (h:y.op=.load n bJ x) (aa:∀fl k z,bh.hT=some (fl,k,z)->j≠fl)
 |alloc (k:Key) (z:List I) (h:bh.hT=some (j,k,z)) (e5:y.op=.alloc k z)
def aqE {bh:l5}(fo:Gi bh){n:Nat}{bJ:Bool}{a v:I}(au:iW bh.uA n bJ a=some v)(F:iW bh.jd n bJ a=some v)(rec:Rec):iW (o9 bh.uA (bh.made rec)) n bJ a=some v/\iW (o9 bh.jd (bh.made rec)) n bJ a=some v:=by
 unfold l5.made
 cases gE:bh.hT with
 |none=>exact⟨au,F⟩
 |some p =>
  obtain⟨fl,k,z⟩:=p;simp only
  cases rec fl with
  |none=>exact⟨au,F⟩
  |some _ =>
   have bq:∀j∈keyOf a,j≠k:=by
    rintro j aa rfl;have hm:=fo.Kp _ _ _ gE
    cases a<;>simp[keyOf] at aa
    ·subst aa;simp[iW] at au
    ·subst aa;simp[iW,hm] at au
   simp only[o9];rw[RO (mem':=bh.uA) (λj aa=>by simp[aV,bq j aa]),RO (mem:=aV bh.jd k 0 z) (mem':=bh.jd) (λj aa=>by simp[aV,bq j aa])];exact⟨au,F⟩
def ad4 {bh:l5}(fo:Gi bh){un:Nat->Bool}{j:Nat}{y:bz}{tm:Nat->I}(hu:un j=true)(U:Kq bh j y)(vH:∀k z,y.op ≠ .alloc k z)(Q:xj bh un j y tm)(aN:g9 tm y.g=some true)(rec:Rec):
  eX T (o9 bh.jd (bh.made rec)) tm y.op=eX T (o9 bh.uA (bh.made rec)) tm y.op/\gi y.op=false:=by
 cases U with
 |quiet h _ =>
  obtain⟨F,G⟩:=RQ (tm:=tm) h;refine⟨RP (λb8 f l Y=>?_) (λx L=>by rw[F] at L;cases L),G⟩;rw[Y] at G
  cases G
 |load n bJ x h _ =>
  obtain⟨v,au,F⟩:=Q hu n bJ x h aN;obtain⟨G,ad⟩:=aqE fo au F rec;rw[h];exact⟨by simp only[eX,bF,G,ad],rfl⟩
 |alloc k z _ h=>exact absurd h (vH k z)
def ad5 {mem:Mem}{tm:Nat->I}{op:fN}{m:I}{e:Option (Key×Nat×List I)}(h:eX T mem tm op=some (m,e))(hw:gi op=false):e=none:=by
 rcases MQ h with h|⟨h,_⟩
 ·exact h
 ·rw[hw] at h;cases h
def ad6 {bh:l5}{rec:Rec}{j:Nat}{p:Bool×List lg}(aa:∀fl k z,bh.hT=some (fl,k,z)->j≠fl):bh.made (jl rec j p)=bh.made rec:=by
 unfold l5.made
 cases gE:bh.hT with
 |none=>rfl
 |some q =>
  obtain⟨fl,k,z⟩:=q;simp only[jl,aT (λh=>aa fl k z gE h.symm:¬ fl=j)]
def ad7 {bh:l5}{j:Nat}{y:bz}(U:Kq bh j y)(vH:∀k z,y.op ≠ .alloc k z):∀fl k z,bh.hT=some (fl,k,z)->j≠fl:=by
 cases U with
 |quiet _ aa=>exact aa
 |load _ _ _ _ aa=>exact aa
 |alloc k z _ h=>exact absurd h (vH k z)
def aqF {bh:l5}(fo:Gi bh){un:Nat->Bool}{j:Nat}{x y:bz}{rec rec1:Rec}{st st1 kD:a8}(hu:un j=true)(U:Kq bh j y)(c1:oH y x=true)(vG:rec j=none)
  (he:jr T gm j y rec st rec1 st1) (cW:xj bh un j y st.tm) (dO:CZ bh x rec1 st1 kD):∃jz,CZ bh x rec st jz/\jr T gm j y rec jz rec1 kD:=by
 obtain⟨bc,hE,Y⟩:=BB c1;obtain⟨args,cJ,cQ,gU,hQ,rfl⟩:=dO;have C0:∀m,args.map (aM (put st.tm y.dst m))=args.map (aM st.tm):=λm=>map_congr λs Q=>lV λaf=>bc s af (uX (by rw[cJ];exact Q));have BC:∀m,g9 (put st.tm x.dst m) y.g=g9 st.tm y.g:=λm=>H7 λs b Q=>lV λaf=>Y s af (H8 Q);have H9:∀mem m,eX T mem (put st.tm x.dst m) y.op=eX T mem st.tm y.op:=λmem m=>MN λs Q=>lV λaf=>Y s af (uX Q);have zT:∀m,cy (put st.tm x.dst m) y.op=cy st.tm y.op:=λm=>MO λs Q=>lV λaf=>Y s af (uX Q);have qw:∀m m',put (put st.tm y.dst m) x.dst m'=put (put st.tm x.dst m') y.dst m:=λm m'=>put_comm hE;rcases he with ⟨aN,rfl,rfl⟩|⟨aN,m,e,Q,R,rfl,rfl⟩
 ·exact⟨_,⟨args,cJ,cQ,by rw[<-gU,C0],hQ,rfl⟩,.inl ⟨by simp only[BC];exact aN,rfl,by simp only[qw]⟩⟩
 ·by_cases vH:∃k z,y.op=.alloc k z
  ·obtain⟨k,z,e5⟩:=vH
   cases U with
   |quiet h _=>rw[e5] at h;cases h
   |load _ _ _ h _=>rw[e5] at h;cases h
   |alloc k' Ij gE h =>
    rw[e5] at h
    cases h;have pN:bh.made (jl rec j (gi y.op,cy st.tm y.op))=some (k,z):=by simp only[l5.made,gE,jl,if_true]
    have oK:bh.made rec=none:=by simp only[l5.made,gE,vG]
    rw[e5] at Q;simp only[eX,bF,bO,eM] at Q;obtain⟨rfl,rfl⟩:=Q;rw[pN] at hQ ⊢;simp only[gg,o9] at hQ;have zO:=fo.Kp _ _ _ gE
    have jo:bB st.mem k=0:=by
     have:=congrFun hQ k;simp[aV] at this;exact this
    have aqG:st.mem k=none:=by
     unfold bB at jo
     split at jo
     ·assumption
     ·omega
    have gK:st.mem=bh.uA:=by
     funext q
     by_cases aU:q=k
     ·subst aU;rw[aqG,zO]
     ·have:=congrFun hQ q;simp[aV,aU] at this;exact this
    refine⟨⟨put st.tm x.dst bh.r,bh.jd⟩,⟨args,cJ,cQ,by rw[<-gU,C0],by rw[oK];exact gK,by rw[oK];rfl⟩,.inr ⟨by simp only[BC];exact aN,.ptr k 0 0,some (k,0,z),?_,?_,?_,?_⟩⟩
    ·have Vv:bB bh.jd k=0:=by simp only[bB,fo.dx _ _ _ gE]
     rw[e5];simp only[eX,bF,Vv]
    ·simp only[zT];exact R
    ·simp only[zT]
    ·simp only[jo,o9,gg,qw]
  ·have Kr:∀k z,y.op ≠ .alloc k z:=λk z h=>vH ⟨k,z,h⟩;have aa:=ad7 U Kr;have wk:=ad6 (rec:=rec) (p:=(gi y.op,cy st.tm y.op)) aa;rw[wk] at hQ ⊢;obtain⟨Vw,hw⟩:=ad4 (T:=T) fo hu U Kr cW aN rec;have sa:=ad5 Q hw;subst sa;simp only[gg] at hQ;rw[hQ] at Q;refine⟨⟨put st.tm x.dst bh.r,o9 bh.jd (bh.made rec)⟩,⟨args,cJ,cQ,by rw[<-gU,C0],hQ,rfl⟩,.inr ⟨by simp only[BC];exact aN,m,none,?_,?_,?_,?_⟩⟩
   ·simp only[H9];exact Vw.trans Q
   ·simp only[zT];exact R
   ·simp only[zT]
   ·simp only[gg,qw]
def aqH {bh:l5}(fo:Gi bh){un:Nat->Bool}{j:Nat}{x y:bz}{rec kC:Rec}{st st1 kD:a8}(hu:un j=true)(U:Kq bh j y)(c1:oH x y=true)(vG:rec j=none)
  (dO:CZ bh x rec st st1) (he:jr T gm j y rec st1 kC kD) (cW:xj bh un j y st1.tm):∃jz,jr T gm j y rec st kC jz/\xj bh un j y st.tm/\CZ bh x kC jz kD:=by
 obtain⟨bc,hE,Y⟩:=BB c1;obtain⟨args,cJ,cQ,gU,hQ,rfl⟩:=dO;have C0:∀m,args.map (aM (put st.tm y.dst m))=args.map (aM st.tm):=λm=>map_congr λs Q=>lV λaf=>Y s af (uX (by rw[cJ];exact Q));have BC:∀m,g9 (put st.tm x.dst m) y.g=g9 st.tm y.g:=λm=>H7 λs b Q=>lV λaf=>bc s af (H8 Q);have H9:∀mem m,eX T mem (put st.tm x.dst m) y.op=eX T mem st.tm y.op:=λmem m=>MN λs Q=>lV λaf=>bc s af (uX Q);have zT:∀m,cy (put st.tm x.dst m) y.op=cy st.tm y.op:=λm=>MO λs Q=>lV λaf=>bc s af (uX Q);have qw:∀m m',put (put st.tm x.dst m) y.dst m'=put (put st.tm y.dst m') x.dst m:=λm m'=>put_comm hE;have Ph:xj bh un j y st.tm:=ad3 j y _ _ (λs Q=>lV λaf=>bc s af Q) cW;rcases he with ⟨aN,rfl,rfl⟩|⟨aN,m,e,Q,R,rfl,rfl⟩<;>simp only[BC,H9,zT] at *
 ·exact⟨_,.inl ⟨aN,rfl,rfl⟩,Ph,⟨args,cJ,cQ,by rw[C0];exact gU,hQ,by simp only[qw]⟩⟩
 ·by_cases vH:∃k z,y.op=.alloc k z
  ·obtain⟨k,z,e5⟩:=vH
   cases U with
   |quiet h _=>rw[e5] at h;cases h
   |load _ _ _ h _=>rw[e5] at h;cases h
   |alloc k' Ij gE h =>
    rw[e5] at h
    cases h;have pN:bh.made (jl rec j (gi y.op,cy st.tm y.op))=some (k,z):=by simp only[l5.made,gE,jl,if_true]
    have oK:bh.made rec=none:=by simp only[l5.made,gE,vG]
    rw[e5] at Q;rw[oK] at hQ Q;simp only[o9] at hQ Q;have zO:bB bh.uA k=0:=by simp only[bB,fo.Kp _ _ _ gE]
    have Vv:bB bh.jd k=0:=by simp only[bB,fo.dx _ _ _ gE]
    simp only[eX,bF,Vv,bO,eM] at Q;obtain⟨rfl,rfl⟩:=Q;refine⟨⟨put st.tm y.dst (.ptr k 0 0),aV bh.uA k 0 z⟩,.inr ⟨aN,.ptr k 0 0,some (k,0,z),?_,R,rfl,?_⟩,Ph,⟨args,cJ,cQ,by rw[C0];exact gU,by rw[pN];rfl,?_⟩⟩
    ·rw[e5,hQ];simp only[eX,bF,zO]
    ·rw[hQ]
     rfl
    ·rw[oK,pN];simp only[qw,o9,gg]
  ·have Kr:∀k z,y.op ≠ .alloc k z:=λk z h=>vH ⟨k,z,h⟩;have aa:=ad7 U Kr;have wk:=ad6 (rec:=rec) (p:=(gi y.op,cy st.tm y.op)) aa;obtain⟨Vw,hw⟩:=ad4 (T:=T) fo hu U Kr Ph aN rec;have sa:=ad5 Q hw;subst sa;rw[Vw] at Q;refine⟨⟨put st.tm y.dst m,st.mem⟩,.inr ⟨aN,m,none,by rw[hQ];exact Q,R,rfl,rfl⟩,Ph,⟨args,cJ,cQ,by rw[C0];exact gU,by rw[wk];exact hQ,?_⟩⟩
   rw[wk];simp only[gg,qw]
def aqI {own:List Nat}{a5:Exit->Act->World->Prop}{bh:l5}(fo:Gi bh)(eN:sZ P run){x:bz}{rec:Rec}{st cf:a8}{a:Act}{aY b0:e7}{ck dC:Nat}(ed:run bh.f bh.CY aY ck=.ok bh.r b0 dC)(au:bh.uA=cr aY)(F:bh.jd=cr b0)
  (ab:Et P n kb own ops o x) (dO:CZ bh x rec st cf) (Q:dS b4 n A ct dE a st w B):o.wp P a w (λcD an=>∃aA,dS b4 n A ct dE cD cf an aA) a5:=by
 obtain⟨args,cJ,cQ,gU,hQ,rfl⟩:=dO;have ay:gX P kb own o.dst o.type o.op=some x.op:=getD_some ab.op (by rw[cJ];simp);rw[cJ] at ay;obtain⟨Kf,Y,hW,jq⟩:=HZ ay;have b9:=qs Q.kh jq;rw[gU] at b9;have h:=eN bh.f bh.CY aY ck;rw[ed] at h;obtain⟨gz,ad8⟩:=h;unfold Oper.wp;rw[wB Y hW gz,ab.dst];have bk:=Q.ok.cu;rw[hQ] at bk
 cases AP:bh.made rec with
 |none =>
  rw[AP] at bk;simp only[o9] at bk;rw[au] at bk;refine Calls.mono (ad8 A w B _ bk b9) λe an he=>?_;obtain⟨u,aA,rfl,dg,jm⟩:=he;refine⟨aA,Q.put ?_ jm ab.lt⟩;simp only[o9,F];exact dg
 |some p =>
  obtain⟨k,z⟩:=p
  have gE:∃fl,bh.hT=some (fl,k,z):=by
   unfold l5.made at AP
   split at AP
   ·cases AP
   ·rename_i fl k' Ij gE
    split at AP
    ·cases AP
    ·cases AP;exact⟨fl,gE⟩
  obtain⟨fl,gE⟩:=gE;rw[AP] at bk;simp only[o9] at bk;obtain⟨e,R,_⟩:=bk.dk k 0 z (by simp[aV]);have eY:=aqn bk R (fo.Kp _ _ _ gE) (fo.aqB _ _ _ gE);have uT:cC w (bp (CV A e) (na B k)) (na B k) bh.CY (Kf.args.toList.map a.eval):=⟨b9.1,λi m v hm ao=>(b9.2 i m v hm ao).cut (λb U=>(Vr R b).1 U) (CU (fo.aqC _ _ _ gE) m (cL hm))⟩;rw[au] at eY;refine Calls.mono (ad8 _ w _ _ eY uT) λe' an he=>?_;obtain⟨u,iV,rfl,dg,jm⟩:=he;have pN:cr b0 k=none:=by rw[<-F];exact fo.dx _ _ _ gE
  obtain⟨kW,eF⟩:=aqp bk R (fo.aqD _ _ _ gE) dg pN;refine⟨_,Q.put ?_ (eF _ _ jm) ab.lt⟩;simp only[o9,F];exact kW
end Go.Mini
namespace Go.Mini
open Go
def dZ.all {α:Type}(p:α->Bool)(t:dZ α):Bool:=dZ.rec (motive:=λ_=>Bool) true (λ_ v _ vD Vf=>gu false (gu false (k7 true (λa=>p a) v) Vf) vD) t
def dZ.Vx {α:Type}{p:α->Bool}{a:α}:∀{t:dZ α} {k:Nat},t.all p=true->t.get k=some a->p a=true
 |.e,k,_,h=>by cases h
 |.n l v r,k,bc,h=>by
  have C1:(gu false (gu false (k7 true (λa=>p a) v) (r.all p)) (l.all p):Bool)=true:=bc
  cases ag:l.all p with
  |false=>rw[ag] at C1;cases C1
  |true =>
   rw[ag] at C1
   cases M:r.all p with
   |false=>rw[M] at C1;cases C1
   |true =>
    rw[M] at C1;rw[dZ.xf] at h
    split at h
    ·subst h;exact C1
    ·split at h
     ·exact dZ.Vx ag h
     ·exact dZ.Vx M h
abbrev s5:=jH->fq->e7->Nat->Option I->cv
def s6:W s5:=.mk λ_ _ _ _ _=>cv.no
def aqJ (ol:List FuncId)(ops:Array Oper):List Nat:=ops.toList.flatMap λo=>match o.op with
 |.call { callee:=.value (.func f),.. }=>if ol.contains f=true then o.dst.toList else []
 |_=>[]
def ad9:Option I->Option I->Bool
 |some a,some b=>s0 a b
 |_,_=>false
def Vy (aY b0:e7)(eR:y9):Bool:=eR.all λo=>ad9 (iW (cr aY) o.1 o.2.1 o.2.2) (iW (cr b0) o.1 o.2.1 o.2.2)
def Vz:fN->Bool
 |.load ..=>true
 |.alloc ..=>true
 |op=>hg (mh op) 0
def Ks (p1:List Nat)(g:Nat)(l:List bz):List (Nat×Nat×List I):=l.zipIdx.filterMap λ(x,j)=>if l4 p1 g j=true then (match x.op with
 |.alloc k z=>some (j,k,z)
 |_=>none) else none
def Kt (gl:List FuncId)(l:List bz):List (Nat×FuncId×List bx×Option Nat):=l.zipIdx.filterMap λ(x,j)=>match x.op,x.g with
 |.call f args,none=>if gl.contains f=true then some (j,f,args,x.dst) else none
 |_,_=>none
def Pj (k:Nat)(m:e7):Bool:=k7 true (λ_=>false) (m.get k)
def aea (kb g:Nat)(hT:Option (Nat×Nat×List I))(aY:e7)(s3:List I):Bool:=match hT with
 |none=>true
 |some (fl,k,z)=>AN g fl&&Pj (kb+k) aY&&dZ.all (λe=>o8 (kb+k) e.2) aY&&o8 (kb+k) s3&&o8 (kb+k) z
def aeb (kb:Nat)(hT:Option (Nat×Nat×List I))(b0:e7):Bool:=match hT with
 |none=>true
 |some (_,k,_)=>Pj (kb+k) b0
def aec (ol:List FuncId)(un:Nat->Bool)(last:Bool)(hT:Option (Nat×Nat×List I))(g:Nat)(f:FuncId)(args:List bx)(dst:Option Nat)(post:List bz)(iy:List (List Nat)):W (jH->Nat->fq->e7->Rec->y9->Option I->cv) :=
 .mk λrun c t m rec eR d=>gu cv.no
  (jv.rec cv.no (λv b0 dC=>gu cv.no (W.ap (vF ol un post (g+1) (iy.drop (g+1))) run c (iE dst t v) b0 rec eR λt3 fJ _ VA=>gu cv.no (.ok .l2 t3 fJ dC d) (Vy m b0 VA)) (aeb c hT b0))
   (λv b0 dC=>gu cv.no (.ok (.hh v) t b0 dC d) last) (run f (args.map λx=>W.ap (jI x) t) m (c+1000)))
  (aea c g hT m (args.map λx=>W.ap (jI x) t))
def Gj (ol:List FuncId)(un:Nat->Bool)(last:Bool)(hT:Option (Nat×Nat×List I))(g:Nat)(f:FuncId)(args:List bx)(dst:Option Nat)(l:List bz)(iy:List (List Nat)):W s5 :=
 .mk λrun t m c d=>W.ap (vF ol un (l.take g) 0 (iy.drop 0)) run c t m (λ_=>none) [] λt1 aY rec1 pY=>W.ap (aec ol un last hT g f args dst (l.drop (g+1)) iy) run c t1 aY rec1 pY d
def VB (ol gl:List FuncId)(l:List bz)(p1:List Nat):W s5:=match Kt gl l with
 | [] => .mk λrun t m c d=>W.ap (vF ol (λ_=>false) l 0 ((mi [] l p1).drop 0)) run c t m (λ_=>none) [] λt m _ _ => .ok .l2 t m (c+1000) d
 | [(g,f,args,dst)]=>gu s6 (match Ks p1 g l with
  | []=>Gj ol (l4 p1 g) (l.zipIdx.all (λx => !l4 p1 g x.2)&&hg (g+1) (D l)) none g f args dst l (mi [] l p1)
  | [hT]=>Gj ol (l4 p1 g) false (some hT) g f args dst l (mi [] l p1)
  |_=>s6) (l.zipIdx.all λx => !l4 p1 g x.2||Vz x.1.op)
 |_=>s6
def VC (P:Program)(ol gl:List FuncId)(n:Nat)(ops:Array Oper):W s5:=match ops.toList.mapM (nC P n 0 (aqJ ol ops) ops) with
 |none=>s6
 |some l=>gu s6 (VB ol gl l (fV ops.toList [])) (qh ops l)
variable {P:Program} {b4:Option I} {A:Nat->Prop} {ct w:World} {dE B:cU} {n kb:Nat} {own:List Nat} {ops:Array Oper} {o:Oper} {run:jH} {t:fq} {m:e7} {c:Nat} {d:Option I} {l:List bz} {a5:Exit->Act->World->Prop}
def VD {db:uY}{K:a8->Prop}{id:Nat}{a:Act}{st:a8}(hm:P.follows .mixedOrders=true)(aR:Ia db ops l)(BG:Ib db)(ag:(D l)=ops.size)(he:xJ 0 ops.toList=true)(dg:MY P b4 n A ct dE ops l db a5)
  (e6:∀st a w B,K st->dS b4 n A ct dE a st w B->a5 .normal a w) (Q:dS b4 n A ct dE a st w B) (Y:x2 db K 0 l (λ_=>none) st):(Code.region id ops true).wp P a5 a w:=by
 refine wp_region_any hm ?_;have u0:=RW aR BG ag he l 0 (λ_=>none) st (Array.replicate ops.size false) rfl (by simp) (by simp) (λi ab=>by simp[ab]) (λ_ _=>rfl) Y;rw[ag] at u0;exact MZ dg e6 ops.size _ _ _ _ _ B (Q.drew _) u0
def aed {p0:Nat}{s4:bz->Rec->a8->a8->Prop}{S:Nat->bz->(Nat->I)->Prop}{gm:Nat->Nat->Bool}{T:bj}(cw:nh P T)(ay:ops.toList.mapM (nC P n kb own ops)=some l)
  (aN:∀x o rec st cf a w B,l[p0]?=some x->Et P n kb own ops o x->s4 x rec st cf->dS b4 n A ct dE a st w B->Region.wanted o (yielded ops a.tmps)=true/\o.wp P a w (λcD an=>∃aA,dS b4 n A ct dE cD cf an aA) a5):MY P b4 n A ct dE ops l (pZ T gm p0 s4 S) a5:=by
 intro i x o rec st iN cf a w B L a6 hex Q;unfold pZ at hex
 split at hex
 ·rename_i xi;subst xi;obtain⟨y,ak,Ie⟩:=MX ay (i:=i) (x:=o) (by simpa using a6);rw[L] at ak
  cases ak;exact .inr (aN x o rec st cf a w B L (H0 Ie) hex.2 Q)
 ·exact R0 cw ay i x o rec st iN cf a w B L a6 hex.1 Q
def aee {k:Nat}(h:Pj k m=true):cr m k=none:=by
 unfold Pj at h;unfold cr
 cases hm:m.get k with
 |none=>rfl
 |some x=>rw[hm] at h;cases h
def aqK {k:Nat}(h:dZ.all (λe=>o8 k e.2) m=true):freeM k (cr m):=λj g cs aa=>dZ.Vx (p:=λe:Nat×List I=>o8 k e.2) h aa
def aqL {aY b0:e7}{eR:y9}(h:Vy aY b0 eR=true){k:Nat}{bJ:Bool}{a:I}(hm:(k,bJ,a)∈eR):∃v,iW (cr aY) k bJ a=some v/\iW (cr b0) k bJ a=some v:=by
 unfold Vy at h;rw[kA] at h;have:=h _ hm;simp only at this;unfold ad9 at this
 split at this
 ·rename_i x y F G;have:=adS _ _ this;subst this;exact⟨x,F,G⟩
 ·cases this
def aef {is:List bz}(ay:ops.toList.mapM (nC P n 0 own ops)=some is):∀x∈is,x.dst.all (λd=>decide (d<n))=true:=by
 intro x L;obtain⟨i,ab⟩:=List.mem_iff_getElem?.1 L;obtain⟨F,G⟩:=mapM_get ay;have aq:i<D ops.toList:=by have:=(dL.1 ab).1;omega
 have a6:=bf aq;have:=H0 (G i _ x a6 ab);rw[this.dst];exact this.lt
def aeg (h:qh ops l=true):qh ops (l.map (gV kb))=true:=by
 unfold qh at *;have:=adV (kb:=kb) l [] (fV ops.toList []);rw[bP] at this;rw[this];exact h
def Pk {α:Type}{a b:α}{x:Bool}{r:α}(h:r=gu a b x)(bq:r≠a):x=true/\r=b:=by
 cases x with
 |false=>exact absurd h bq
 |true=>exact⟨rfl,h⟩
def Pl:a8:=⟨λ_ => .hC 0 0,emp⟩
def aqM {a:Act}(h:dS b4 n A ct dE a Pl w B):False:=by
 have F:=h.tm 0;have G:=h.ok.cu.rT 0 rfl;have ad:a0 w (bp A B) B (.hC 0 0) (a.eval (.tmp 0)):=F;generalize a.eval (.tmp 0)=u at ad
 cases ad with
 |hC he _ _=>rw[G] at he;cases he
def VE {α:Type}{l:List α}{i:Nat}{x:α}(h:l[i]?=some x):(x,i)∈l.zipIdx:=Eu.2 h
def aqN {gl:List FuncId}{g:Nat}{f:FuncId}{args:List bx}{dst:Option Nat}(h:(g,f,args,dst)∈Kt gl l):∃x,l[g]?=some x/\x.op=.call f args/\x.g=none/\x.dst=dst:=by
 unfold Kt at h;rw[aeh] at h;obtain⟨⟨x,j⟩,hm,L⟩:=h;simp only at L
 split at L
 ·rename_i AJ aAY F G
  split at L
  ·simp only[bO,eM] at L;obtain⟨rfl,rfl,rfl,rfl⟩:=L;exact⟨x,Eu.1 hm,F,G,rfl⟩
  ·cases L
 ·cases L
def aei {p1:List Nat}{g j k:Nat}{z:List I}:(j,k,z)∈Ks p1 g l↔∃x,l[j]?=some x/\l4 p1 g j=true/\x.op=.alloc k z:=by
 unfold Ks;rw[aeh]
 constructor
 ·rintro⟨⟨x,i⟩,hm,L⟩;simp only at L
  split at L
  ·rename_i hu
   split at L
   ·rename_i k' Ij e5;simp only[bO,eM] at L;obtain⟨rfl,rfl,rfl⟩:=L;exact⟨x,Eu.1 hm,hu,e5⟩
   ·cases L
  ·cases L
 ·rintro⟨x,L,hu,e5⟩;refine⟨(x,j),VE L,?_⟩;simp only[hu,if_true,e5]
def aej {ol gl:List FuncId}{hT:Option (Nat×Nat×List I)}{last:Bool}{g:Nat}{f:FuncId}{args:List bx}{dst:Option Nat}{r:cv}{id:Nat}{a:Act}(eN:sZ P run)(aC:n<=1000000)(hm:P.follows .mixedOrders=true)
  (ay:ops.toList.mapM (nC P n 0 own ops)=some l) (af:qh ops l=true) (uc:(g,f,args,dst)∈Kt gl l) (dy:(l.zipIdx.all λx => !l4 (fV ops.toList []) g x.2||Vz x.1.op)=true)
  (gE:∀j k z,(j,k,z)∈Ks (fV ops.toList []) g l↔hT=some (j,k,z)) (Jn:last=true->∀j,j<(D l)->l4 (fV ops.toList []) g j=false) (aqO:last=true->g+1=D l)
  (M:r=W.ap (Gj ol (l4 (fV ops.toList []) g) last hT g f args dst l (mi [] l (fV ops.toList []))) run t m c d) (bq:r ≠ .no) (Q:dS d n A ct dE a ⟨cT t,cr m⟩ w B)
  (dV:∀x t1 aY ck d1 cD an aA,r=cv.ok x t1 aY ck d1->dS d1 n A ct dE cD ⟨cT t1,cr aY⟩ an aA->toQ A a5 x cD an aA):(Code.region id ops true).wp P a5 a w:=by
 obtain⟨C2,xi,e5,VF,uz⟩:=aqN uc;have aqP:g<D l:=(dL.1 xi).1
 have MH:l.take g++C2::l.drop (g+1)=l:=by
  have F:C2=l[g]:=(dL.1 xi).2.symm;rw[F,<-gx aqP,List.take_append_drop]
 have si:=aef ay;have mU:=adX (kb:=c) ay;have Pm:=aeg (kb:=c) af;have ly:=Vu (kb:=c) l [] (fV ops.toList []);rw[bP] at ly
 have hlen:(l.map (gV c)).length=ops.size:=by
  rw[(mapM_get mU).1,Array.length_toList]
 have aek:xJ 0 ops.toList=true:=by unfold qh at af;rw[ff] at af;exact af.1
 have rE:(l.map (gV c))[g]?=some (gV c C2):=by rw[bg,xi];rfl
 have C3:(gV c C2).op=.call f args:=by simp only[gV,e5,fC]
 generalize sF:l4 (fV ops.toList []) g=un at *;generalize aAZ:mi [] l (fV ops.toList [])=iy at *;unfold Gj at M;rw[oy] at M;have k5:(l.take g).length=g:=by rw[gk];omega
 obtain⟨t1,aY,rec1,pY,aQ,az,eT,iA⟩:=Pe (kb:=c) aC bq (l.take g) 0 t m (λ_=>none) [] (λx L=>si x (List.mem_of_mem_take L)) (λ_ _=>rfl) M;rw[k5,Nat.zero_add] at az iA;unfold aec at aQ;rw[oy] at aQ;obtain⟨Iu,aQ⟩:=Pk aQ bq;have aqQ:=aqh args t1;rw[aqQ] at aQ Iu
 have VG:(l.take g).map (gV c)++gV c C2::(l.drop (g+1)).map (gV c)=l.map (gV c):=by
  conv=>rhs;rw[<-MH]
  simp
 cases ed:run f (args.map (aM (cT t1))) aY (c+1000) with
 |no=>rw[ed] at aQ;exact absurd aQ bq
 |hh v b0 dC =>
  rw[ed] at aQ;obtain⟨bs,aQ⟩:=Pk aQ bq
  have VH:∀j y,(l.map (gV c))[j]?=some y->l4 (fV ops.toList []) g j=false:=λj y ak=>by
   have aq:=(dL.1 ak).1;rw[aj] at aq;rw[sF];exact Jn bs j aq
  have aqR:l.drop (g+1)=[]:=by rw[aqO bs];exact List.drop_length
  rw[aqR] at VG
  refine VD (b4:=d) (K:=λst=>st=Pl) (db:=pZ (nY ol run) (mS iy) g (λ_ _ st cf=>st=⟨cT t1,cr aY⟩/\cf=Pl) (λ_ _ _=>True)) hm
   (ad1 Pm (by rw[ly]) (λ_ _ _ _ _ h=>h) (λj x y rec st rec1 st1 kD aa _ ak=>?_) (λj x y rec st rec1 st1 kD aa _ ak=>?_) (λx rec st cf h L => .inr VH)) adZ hlen aek
   (aed (Vs eN) mU λx o rec st cf a w B L ab dO Q=>?_) (λst a w B ei Q=>?_) Q ?_
  ·rw[VH j y ak] at aa;cases aa
  ·rw[VH j y ak] at aa;cases aa
  ·rw[rE] at L
   cases L;obtain⟨rfl,rfl⟩:=dO;refine⟨zQ Q ab.guard (by simp only[gV,VF];rfl),?_⟩;have ael:gX P c own o.dst o.type o.op=some (gV c C2).op:=getD_some ab.op (by rw[C3];simp);rw[C3] at ael;obtain⟨Kf,Y,hW,jq⟩:=HZ ael;have b9:=qs Q.kh jq;have h:=eN f (args.map (aM (cT t1))) aY (c+1000);rw[ed] at h;unfold Oper.wp;rw[wB Y hW h.1];refine Calls.mono (h.2 A w B _ Q.ok.cu b9) λe an he=>?_;obtain⟨u,aA,rfl,dg,jm⟩:=he;exact dV (.hh v) t1 b0 dC d a an aA aQ (Q.put (dst:=none) dg jm rfl) u jm
  ·subst ei;exact (aqM Q).elim
  ·rw[<-VG];refine iA _ _ _ (λj x rec st iN cf _ aa hex _=>?_) (.cons (rec1:=rec1) (st1:=Pl) ?_ (.nil rfl))
   ·unfold pZ;rw[aT (by omega)];exact⟨hex,trivial⟩
   ·unfold pZ;rw[aL rfl];exact⟨rfl,rfl,rfl⟩
 |ok v b0 dC =>
  rw[ed] at aQ;obtain⟨BM,aQ⟩:=Pk aQ bq;obtain⟨t3,fJ,aA0,VA,f1,f2,f3,f4⟩:=Pe (kb:=c) aC bq (l.drop (g+1)) (g+1) (iE dst t1 v) b0 rec1 pY (λx L=>si x (List.mem_of_mem_drop L)) (λk R=>az k (by omega)) aQ;obtain⟨aqS,f1⟩:=Pk f1 bq;have aA1:g+1+(l.drop (g+1)).length=D l:=by rw[List.length_drop];omega
  let bh:l5:=⟨f,args.map (aM (cT t1)),cr aY,cr b0,v,hT.map λp=>(p.1,c+p.2.1,p.2.2)⟩
  have VI:∀fl k z,bh.hT=some (fl,k,z)->∃er,hT=some (fl,er,z)/\k=c+er:=λfl k z h=>by
   obtain⟨⟨dx,bo,iP⟩,F,G⟩:=c4.1 h;simp only[eM] at G;obtain⟨rfl,rfl,rfl⟩:=G;exact⟨bo,F,rfl⟩
  have aem:∀fl er z,hT=some (fl,er,z)->g<fl/\cr aY (c+er)=none/\freeM (c+er) (cr aY)/\o8 (c+er) (args.map (aM (cT t1)))=true/\o8 (c+er) z=true/\cr b0 (c+er)=none:=λfl er z h=>by
   subst h;simp only[aea,aeb,ff] at Iu BM;obtain⟨⟨⟨⟨bT,cB⟩,et⟩,eD⟩,VJ⟩:=Iu;exact⟨by simpa [Nat.blt_eq] using bT,aee cB,aqK et,eD,VJ,aee BM⟩
  have fo:Gi bh:=by
   refine⟨λfl k z h=>?_,λfl k z h=>?_,λfl k z h=>?_,λfl k z h=>?_,λfl k z h=>?_⟩<;>obtain⟨er,F,rfl⟩:=VI _ _ _ h<;>obtain⟨bT,cB,et,eD,VJ,aqT⟩:=aem _ _ _ F
   ·exact cB
   ·exact aqT
   ·exact et
   ·exact eD
   ·exact VJ
  have wk:∀rec:Rec,(∀k,g<=k->rec k=none)->bh.made rec=none:=λrec jR=>by
   unfold l5.made
   split
   ·rfl
   ·rename_i fl k z h;obtain⟨er,F,rfl⟩:=VI _ _ _ h;rw[jR fl (by have:=(aem _ _ _ F).1;omega)]
  have aen:∀j y,l4 (fV ops.toList []) g j=true->(l.map (gV c))[j]?=some y->Kq bh j y:=λj y aa ak=>by
   rw[bg,c4] at ak;obtain⟨Pn,hM,rfl⟩:=ak;rw[kA] at dy;have R:=dy (Pn,j) (VE hM);rw[sF] at aa;simp only[aa,c2,pE] at R
   have bq:(∀k z,Pn.op ≠ .alloc k z)->∀fl k z,bh.hT=some (fl,k,z)->j≠fl:=by
    rintro vH fl k z h rfl;obtain⟨er,F,rfl⟩:=VI _ _ _ h;obtain⟨x,L,_,hr⟩:=aei.1 ((gE _ _ _).2 F);rw[hM] at L
    cases L;exact vH _ _ hr
   cases C4:Pn.op with
   |load Ga bJ x=>exact .load Ga bJ x (by simp only[gV,C4,fC]) (bq (by rw[C4];intro _ _ h;cases h))
   |alloc k z =>
    have F:=(gE j k z).1 (aei.2 ⟨Pn,hM,by rw[sF];exact aa,C4⟩);exact .alloc (c+k) z (by simp only[bh,F,Option.map_some]) (by simp only[gV,C4,fC])
   |_ =>
    rw[C4] at R;exact .quiet (by simp only[gV,adU,C4];exact Ko R) (bq (by rw[C4];intro _ _ h;cases h))
  have aeo:∀j x (st:a8),(un j=true->∀n bJ y,x.op=.load n bJ y->g9 st.tm x.g=some true->(n,bJ,aM st.tm y)∈VA)->xj bh un j x st.tm:=λj x st h hu Ga bJ y e5 aN=>aqL aqS (h hu Ga bJ y e5 aN)
  refine VD (b4:=d) (K:=λst=>st=⟨cT t3,cr fJ⟩) (db:=pZ (nY ol run) (mS iy) g (CZ bh) (xj bh un)) hm
   (ad1 Pm (by rw[ly]) (λi x tm tm' F G=>ad3 i x tm tm' F G) (λj x y rec st rec1 st1 kD aa _ ak c1 vG he cW dO=>aqF fo (by rw[<-sF];exact aa) (aen j y aa ak) c1 vG he cW dO)
    (λj x y rec st kC st1 kD aa _ ak c1 vG dO he cW=>aqH fo (by rw[<-sF];exact aa) (aen j y aa ak) c1 vG dO he cW) (λx rec st cf h L => .inl ?_)) adZ hlen aek
   (aed (Vs eN) mU λx o rec st cf a w B L ab dO Q=>?_) (λst a w B ei Q=>?_) Q ?_
  ·obtain⟨_,_,_,_,_,rfl⟩:=h;exact⟨_,rfl⟩
  ·rw[rE] at L
   cases L;exact⟨zQ Q ab.guard (by simp only[gV,VF];rfl),aqI fo eN ed rfl rfl ab dO Q⟩
  ·subst ei;exact dV .l2 t3 fJ dC d a w B f1 Q
  ·rw[<-VG];refine iA _ _ _ (λj x rec st iN cf _ aa hex a6=>?_) (.cons (rec1:=rec1) (st1:=⟨cT (iE dst t1 v),cr b0⟩) ?_ ?_)
   ·unfold pZ;rw[aT (by omega)];exact⟨hex,aeo j x st λhu n bJ y F G=>f3 _ (a6 hu n bJ y F G)⟩
   ·unfold pZ;rw[aL rfl];refine⟨rfl,args,C3,VF,rfl,?_,?_⟩
    ·rw[wk rec1 az];rfl
    ·rw[wk rec1 az,AM aC (by rw[<-uz];exact si C2 (cL xi))];simp only[gV,uz,o9,bh]
   ·have:=f4 (pZ (nY ol run) (mS iy) g (CZ bh) (xj bh un)) (λst=>st=⟨cT t3,cr fJ⟩) [] (λj x rec st iN cf aa _ hex a6=>by
     unfold pZ;rw[aT (by omega)];exact⟨hex,aeo j x st a6⟩) (.nil rfl)
    rw[mX] at this;exact this
def aqU {ol gl:List FuncId}{r:cv}{id:Nat}{a:Act}(eN:sZ P run)(aC:n<=1000000)(hm:P.follows .mixedOrders=true)(M:r=W.ap (VC P ol gl n ops) run t m c d)(bq:r ≠ .no)(Q:dS d n A ct dE a ⟨cT t,cr m⟩ w B)
  (dV:∀x t1 aY ck d1 cD an aA,r=cv.ok x t1 aY ck d1->dS d1 n A ct dE cD ⟨cT t1,cr aY⟩ an aA->toQ A a5 x cD an aA):(Code.region id ops true).wp P a5 a w:=by
 unfold VC at M
 split at M
 ·exact absurd M bq
 ·rename_i l ay
  cases af:qh ops l with
  |false=>rw[af] at M;exact absurd M bq
  |true =>
   rw[af] at M;have np:r=W.ap (VB ol gl l (fV ops.toList [])) run t m c d:=M;unfold VB at np
   split at np
   ·rw[oy] at np;have si:=aef ay;have mU:=adX (kb:=c) ay;have Pm:=aeg (kb:=c) af;have ly:=Vu (kb:=c) l [] (fV ops.toList []);rw[bP] at ly
    have hlen:(l.map (gV c)).length=ops.size:=by
     rw[(mapM_get mU).1,Array.length_toList]
    obtain⟨t1,aY,rec1,pY,aQ,az,eT,iA⟩:=Pe (kb:=c) aC bq l 0 t m (λ_=>none) [] si (λ_ _=>rfl) np
    refine VD (b4:=d) (K:=λst=>st=⟨cT t1,cr aY⟩) (db:=jr (nY ol run) (mS (mi [] l (fV ops.toList [])))) hm (by rw[<-ly];exact Y0 (RV Pm) (MU _)) Y1 hlen
     (by unfold qh at af;rw[ff] at af;exact af.1) (R0 (Vs eN) mU) (λst a w B ei Q=>?_) Q ?_
    ·subst ei;exact dV .l2 t1 aY _ d a w B aQ Q
    ·have:=iA (jr (nY ol run) (mS (mi [] l (fV ops.toList [])))) (λst=>st=⟨cT t1,cr aY⟩) [] (λ_ _ _ _ _ _ _ _ h _=>h) (.nil rfl);rw[mX] at this;exact this
   ·rename_i g f args dst aN
    cases dy:(l.zipIdx.all λx => !l4 (fV ops.toList []) g x.2||Vz x.1.op) with
    |false=>rw[dy] at np;exact absurd np bq
    |true =>
     rw[dy] at np;have uc:(g,f,args,dst)∈Kt gl l:=by rw[aN];simp
     have aW:r=W.ap (match Ks (fV ops.toList []) g l with
      | []=>Gj ol (l4 (fV ops.toList []) g) (l.zipIdx.all (λx => !l4 (fV ops.toList []) g x.2)&&hg (g+1) (D l)) none g f args dst l (mi [] l (fV ops.toList []))
      | [hT]=>Gj ol (l4 (fV ops.toList []) g) false (some hT) g f args dst l (mi [] l (fV ops.toList []))
      |_=>s6) run t m c d:=np
     split at aW
     ·rename_i gE;refine aej eN aC hm ay af uc dy (λj k z=>by rw[gE];simp) (λh j aa=>?_) (λh=>?_) aW bq Q dV
      ·rw[ff,kA] at h;have:=h.1 (l[j],j) (VE (bf aa))
       simpa using this
      ·rw[ff] at h;exact Ko h.2
     ·rename_i hT gE;refine aej eN aC hm ay af uc dy (λj k z=>by rw[gE];simp[eq_comm]) (λh=>by cases h) (λh=>by cases h) aW bq Q dV
     ·exact absurd aW bq
   ·exact absurd np bq
end Go.Mini
namespace Go.Mini
open Go
def aep (b:W s5)(run:jH)(r:cv):cv:=cv.rec cv.no (λx t m c d=>X.rec (W.ap b run t m c d) (λi => .ok (.o7 i) t m c d) (.ok .ret t m c d) (λv => .ok (.hh v) t m c d) x) r
def aeq (i:Nat)(r:cv):cv:=cv.rec cv.no (λx t m c d=>X.rec (.ok .l2 t m c d) (λj=>gu (.ok (.o7 j) t m c d) (.ok .l2 t m c d) (hg j i)) (.ok .ret t m c d) (λv => .ok (.hh v) t m c d) x) r
def Po (b:W s5)(run:jH)(fuel:Nat):fq->e7->Nat->Option I->cv :=
 Nat.rec (motive:=λ_=>fq->e7->Nat->Option I->cv) (λ_ _ _ _=>cv.no) (λ_ vD t m c d=>cv.rec cv.no (λx t m c d=>X.rec (vD t m c d) (λi => .ok (.o7 i) t m c d) (.ok .ret t m c d) (λv => .ok (.hh v) t m c d) x) (W.ap b run t m c d)) fuel
def VK:Nat:=1000000
def Pp (b:W s5):W s5:=.mk λrun t m c d=>Po b run VK t m c d
def aqV (b:W s5):W.ap (Pp b)=λrun t m c d=>Po b run VK t m c d:=by
 unfold Pp;rw[oy]
def VL (y:bx)(a b:W s5):W s5:=.mk λrun t m c d=>match W.ap (jI y) t with
 |.J (.bool q)=>gu (W.ap b run t m c d) (W.ap a run t m c d) q
 |_=>cv.no
def nZ (P:Program)(ol gl:List FuncId)(n:Nat)(c:Code):W s5 :=
 Code.rec (motive:=λ_=>W s5)
  (.mk λ_ t m c d => .ok .l2 t m c d)
  (λ_ ops draw=>gu (.mk λrun t m c d=>W.ap (Gb P n ops ops.toList) run c t m (c+1000) d λt m c d => .ok .l2 t m c d) (VC P ol gl n ops) draw)
  (λ_ _ VM C5 => .mk λrun t m c d=>aep C5 run (W.ap VM run t m c d))
  (λx _ _ VM C5=>match cP x with
   |none=>s6
   |some y=>VL y VM C5)
  (λi _ C5 => .mk λrun t m c d=>aeq i (W.ap C5 run t m c d))
  (λ_ C5=>Pp C5)
  (λ_ _ _ _ _ _=>s6)
  (λi => .mk λ_ t m c d => .ok (.o7 i) t m c d)
  (λ_ _=>s6)
  (λ_=>s6)
  (λ_=>s6)
  (.mk λ_ t m c d => .ok .ret t m c d)
  (λ_=>s6) c
variable {P:Program} {A:Nat->Prop} {ct w:World} {dE B:cU} {n:Nat} {run:jH} {ol gl:List FuncId}
def aer (eN:sZ P run)(aC:n<=1000000)(hm:P.follows .mixedOrders=true):∀(co:Code) (t:fq) (m:e7) (c:Nat) (d:Option I) (a:Act) (w:World) (B:cU) (r:cv) (a5:Exit->Act->World->Prop),r=W.ap (nZ P ol gl n co) run t m c d->r ≠ .no ->
  dS d n A ct dE a ⟨cT t,cr m⟩ w B->(∀x t1 aY ck d1 cD an aA,r=cv.ok x t1 aY ck d1->dS d1 n A ct dE cD ⟨cT t1,cr aY⟩ an aA->toQ A a5 x cD an aA)->co.wp P a5 a w:=by
 intro co
 induction co with
 |skip=>exact λt m c d a w B r a5 M bq Q dV=>Go.wp_skip (dV .l2 t m c d a w B M Q)
 |exit i=>exact λt m c d a w B r a5 M bq Q dV=>Go.wp_exit (dV (.o7 i) t m c d a w B M Q)
 |ret=>exact λt m c d a w B r a5 M bq Q dV=>Go.wp_ret (dV .ret t m c d a w B M Q)
 |region id ops draw =>
  intro t m c d a w B r a5 M bq Q dV
  cases draw with
  |true=>exact aqU eN aC hm M bq Q dV
  |false =>
   have dD:r=W.ap (Gb P n ops ops.toList) run c t m (c+1000) d λt m c d => .ok .l2 t m c d:=M;refine Go.wp_region ?_;have:=Vm (P:=P) (ops:=ops) (a5:=a5) ops.toList 0 a w rfl (Vl eN aC bq (λt1 aY ck d1 cD an aA F G=>dV .l2 t1 aY ck d1 cD an aA F G) (λx=>dV (.hh x)) ops.toList t m (c+1000) d a w B dD Q);rw[Array.length_toList] at this;rw[aes];exact this
 |seq x y ihx ihy =>
  intro t m c d a w B r a5 M bq Q dV;have dD:r=aep (nZ P ol gl n y) run (W.ap (nZ P ol gl n x) run t m c d):=M
  cases L:W.ap (nZ P ol gl n x) run t m c d with
  |no=>rw[L] at dD;exact absurd dD bq
  |ok ex t1 aY ck d1 =>
   rw[L] at dD;refine Go.wp_seq (ihx t m c d a w B _ _ L.symm (by simp) Q λgL t2 b0 dC d2 cD an aA F eH=>?_)
   cases F
   cases ex with
   |l2=>exact ihy t1 aY ck d1 cD an aA r a5 dD bq eH dV
   |o7 i=>exact dV (.o7 i) t1 aY ck d1 cD an aA dD eH
   |ret=>exact dV .ret t1 aY ck d1 cD an aA dD eH
   |hh v=>exact dV (.hh v) t1 aY ck d1 cD an aA dD eH
 |cond x y z ihy ihz =>
  intro t m c d a w B r a5 M bq Q dV
  have dD:r=W.ap (match cP x with
   |none=>s6
   |some o=>VL o (nZ P ol gl n y) (nZ P ol gl n z)) run t m c d:=M
  split at dD
  ·exact absurd dD bq
  ·rename_i o a6;have ao:=Q.kh x o a6;unfold VL at dD;rw[oy,oz] at dD
   split at dD
   ·rename_i q aU;simp only[aU] at ao;refine Go.wp_cond ao.zI ?_
    cases q with
    |true=>exact ihy t m c d a w B r a5 dD bq Q dV
    |false=>exact ihz t m c d a w B r a5 dD bq Q dV
   ·exact absurd dD bq
 |block id x a4 =>
  intro t m c d a w B r a5 M bq Q dV;have dD:r=aeq id (W.ap (nZ P ol gl n x) run t m c d):=M
  cases L:W.ap (nZ P ol gl n x) run t m c d with
  |no=>rw[L] at dD;exact absurd dD bq
  |ok ex t1 aY ck d1 =>
   rw[L] at dD;refine Go.wp_block (a4 t m c d a w B _ _ L.symm (by simp) Q λgL t2 b0 dC d2 cD an aA F eH=>?_)
   cases F
   cases ex with
   |l2=>exact dV .l2 t1 aY ck d1 cD an aA dD eH
   |o7 j =>
    have aW:r=gu (.ok (.o7 j) t1 aY ck d1) (.ok .l2 t1 aY ck d1) (hg j id):=dD;simp only[toQ,Exit.inBlock]
    cases U:hg j id with
    |true =>
     rw[U] at aW;rw[aL (Ko U)];exact dV .l2 t1 aY ck d1 cD an aA aW eH
    |false =>
     rw[U] at aW;rw[aT (O9 U)];exact dV (.o7 j) t1 aY ck d1 cD an aA aW eH
   |ret=>exact dV .ret t1 aY ck d1 cD an aA dD eH
   |hh v=>exact dV (.hh v) t1 aY ck d1 cD an aA dD eH
 |loop x a4 =>
  intro t m c d a w B r a5 M bq Q dV
  have key:∀(fuel:Nat) (t:fq) (m:e7) (c:Nat) (d:Option I) (a:Act) (w:World) (B:cU),r=Po (nZ P ol gl n x) run fuel t m c d->dS d n A ct dE a ⟨cT t,cr m⟩ w B->Code.rounds P x a5 fuel a w:=by
   intro fuel
   induction fuel with
   |zero=>intro t m c d a w B M _;exact absurd M bq
   |succ fuel ihf =>
    intro t m c d a w B M Q;have dD:r=cv.rec cv.no (λgL t m c d=>X.rec (Po (nZ P ol gl n x) run fuel t m c d) (λi => .ok (.o7 i) t m c d) (.ok .ret t m c d) (λv => .ok (.hh v) t m c d) gL) (W.ap (nZ P ol gl n x) run t m c d):=M
    cases L:W.ap (nZ P ol gl n x) run t m c d with
    |no=>rw[L] at dD;exact absurd dD bq
    |ok ex t1 aY ck d1 =>
     rw[L] at dD;refine a4 t m c d a w B _ _ L.symm (by simp) Q λgL t2 b0 dC d2 cD an aA F eH=>?_
     cases F
     cases ex with
     |l2=>exact ihf t1 aY ck d1 cD an aA dD eH
     |o7 i=>exact dV (.o7 i) t1 aY ck d1 cD an aA dD eH
     |ret=>exact dV .ret t1 aY ck d1 cD an aA dD eH
     |hh v=>exact dV (.hh v) t1 aY ck d1 cD an aA dD eH
  have dD:r=W.ap (Pp (nZ P ol gl n x)) run t m c d:=M;rw[aqV] at dD;simp only at dD;generalize VK=fu at dD;exact wp_loop_rounds fu (key fu t m c d a w B dD Q)
 |rangeFunc=>exact λt m c d a w B r a5 M bq Q dV=>absurd M bq
 |scope=>exact λt m c d a w B r a5 M bq Q dV=>absurd M bq
 |label=>exact λt m c d a w B r a5 M bq Q dV=>absurd M bq
 |goto=>exact λt m c d a w B r a5 M bq Q dV=>absurd M bq
 |refuse=>exact λt m c d a w B r a5 M bq Q dV=>absurd M bq
def s7 (args:List I):Nat->fq->fq:=List.rec (motive:=λ_=>Nat->fq->fq) (λ_ t=>t) (λa _ vD i t=>vD (i+1) (xg i a t)) args
def aet:∀(args:List I) (i:Nat) (t:fq) (s:Nat),i+D args<=1000000->cT (s7 args i t) s=if i<=s then (match args[s-i]? with|some m=>m|none=>cT t s) else cT t s
 | [],i,t,s,_=>by simp[s7]
 |a::l,i,t,s,h=>by
  have cI:cT (s7 l (i+1) (xg i a t)) s=_:=aet l (i+1) (xg i a t) s (by simp at h;omega);show cT (s7 l (i+1) (xg i a t)) s=_;rw[cI,Vg (by simp at h;omega)]
  by_cases F:i=s
  ·subst F;rw[aT (by omega),aL (c9 _)];simp[ea]
  ·by_cases G:i<=s
   ·rw[aL (by omega),aL G];have:s-i=s-(i+1)+1:=by omega
    rw[this,List.getElem?_cons_succ]
    cases l[s-(i+1)]? with
    |none=>simp[ea,Ne.symm F]
    |some m=>rfl
   ·rw[aT (by omega),aT G];simp[ea,Ne.symm F]
def aeu {args:List I}(h:(D args)<=1000000):cT (s7 args 0 .e)=ke args:=by
 funext s
 rw[aet _ _ _ _ (by simpa using h),aL (dG _),Nat.sub_zero];unfold ke
 split<;>rename_i F<;>simp[F]
 rfl
def aev {fn:Func}{args:List I}{vs:List Value}{mem:Mem}(bk:dQ A w B mem)(ao:cC w (bp A B) B args vs)(ag:(D args)<=fn.ntmps):
  dS none fn.ntmps A w B { tmps:=vs.toArray++Array.replicate (fn.ntmps-vs.toArray.size) undef,defers:=[] } ⟨ke args,mem⟩ w B:=by
 have ec:(D vs)=D args:=ao.1;refine⟨.refl bk,λs=>?_,?_,rfl⟩
 ·simp only[ke,Act.eval,Array.getD_eq_getD_getElem?];rcases gY s (D vs) with aq|bD
  ·have F:args[s]?=some args[s]:=bf (by omega)
   have G:(vs.toArray++Array.replicate (fn.ntmps-vs.toArray.size) undef)[s]?=some vs[s]:=by
    rw[Array.getElem?_append_left (by simpa using aq)];simp[aq]
   rw[F,G];exact ao.2 s _ _ F (bf aq)
  ·rw[lk (by omega),Array.getElem?_append_right (by simpa using bD)]
   have:((Array.replicate (fn.ntmps-vs.toArray.size) undef)[s-vs.toArray.size]?).getD undef=undef:=by
    cases aU:(Array.replicate (fn.ntmps-vs.toArray.size) undef)[s-vs.toArray.size]? with
    |none=>rfl
    |some u =>
     have:=Array.mem_of_getElem? aU;simp at this;simp[this.2]
   rw[this];exact .no
 ·simp;omega
inductive jJ where
 |no
 |ok (m:e7) (c:Nat)
abbrev aew:=jH->List I->e7->Nat->Option I->jJ
def Ku:W aew:=.mk λ_ _ _ _ _=>jJ.no
def isRec (o:Oper):Option Nat:=match o.op,o.dst,o.guard with
 |.call { callee:=.builtin .recover,.. },some s,none=>some s
 |_,_,_=>none
def VN (rs:List ku)(r:cv):jJ:=cv.rec jJ.no (λx t m c d=>k7 (X.rec (k7 jJ.no (λ_=>jJ.ok m c) (jO ⟨cT t,cr m⟩ rs)) (λ_=>jJ.no) (k7 jJ.no (λ_=>jJ.ok m c) (jO ⟨cT t,cr m⟩ rs)) (λ_=>jJ.no) x) (λ_=>jJ.no) d) r
def Gk (P:Program)(ol gl:List FuncId)(g:FuncId):W aew:=match P.funcs[g]? with
 |none=>Ku
 |some fn=>match fn.body,fn.results.toList.mapM (wg P) with
  |some (.seq (.region _ ops false) rest),some rs=>match ops.toList with
   | []=>Ku
   |o::os=>match isRec o with
    |none=>Ku
    |some s=>gu Ku (.mk λrun dd m c p=>gu jJ.no (VN rs (W.ap (Gb P fn.ntmps ops os) run c (xg s (k7 (.J .nB) (λv=>v) p) (s7 dd 0 .e)) m (c+1000) none λt m c d=>W.ap (nZ P ol gl fn.ntmps rest) run t m c d)) (rF (D dd) fn.ntmps))
     (AN s fn.ntmps&&rF fn.ntmps 1000000)
  |_,_=>Ku
def Kv:Option Value->FrameMode
 |none => .returning
 |some u => .panicking [{ v:=u,recovered:=false }]
def rG:Option Value->FrameMode
 |none => .returning
 |some u => .panicking [{ v:=u,recovered:=true }]
def aex (w:World)(aw:Nat->Prop)(B:cU):Option I->Option Value->Prop
 |none,none=>True
 |some m,some u=>a0 w aw B m u
 |_,_=>False
def aqW {rs:List ku}{r:cv}{m':e7}{kB:Nat}(h:VN rs r=.ok m' kB):∃x t,r=.ok x t m' kB none/\(x=.l2\/x=.ret)/\∃v,jO ⟨cT t,cr m'⟩ rs=some v:=by
 cases r with
 |no=>cases h
 |ok x t m c d =>
  cases d with
  |some _=>cases h
  |none =>
   have cI:(X.rec (k7 jJ.no (λ_=>jJ.ok m c) (jO ⟨cT t,cr m⟩ rs)) (λ_=>jJ.no) (k7 jJ.no (λ_=>jJ.ok m c) (jO ⟨cT t,cr m⟩ rs)) (λ_=>jJ.no) x:jJ)=.ok m' kB:=h
   cases x with
   |o7 i=>cases cI
   |hh v=>cases cI
   |l2 =>
    have G:(k7 jJ.no (λ_=>jJ.ok m c) (jO ⟨cT t,cr m⟩ rs):jJ)=.ok m' kB:=cI
    cases M:jO ⟨cT t,cr m⟩ rs with
    |none=>rw[M] at G;cases G
    |some v=>rw[M] at G;cases G;exact⟨.l2,t,rfl,.inl rfl,v,M⟩
   |ret =>
    have G:(k7 jJ.no (λ_=>jJ.ok m c) (jO ⟨cT t,cr m⟩ rs):jJ)=.ok m' kB:=cI
    cases M:jO ⟨cT t,cr m⟩ rs with
    |none=>rw[M] at G;cases G
    |some v=>rw[M] at G;cases G;exact⟨.ret,t,rfl,.inr rfl,v,M⟩
def aqX {o:Oper}{s:Nat}(h:isRec o=some s)(a:Act):o.dst=some s/\o.guard=none/\(execOp a.eval o).run P w=.ok .recover w:=by
 unfold isRec at h
 split at h
 ·rename_i args zS d F G ad
  cases h;refine⟨G,ad,?_⟩;simp only[execOp,F,resolve,invoke,builtin,Sem.run_bind,Sem.run_pure,Result.andThen_ok]
 ·cases h
def aqY (eN:sZ P run)(hm:P.follows .mixedOrders=true){g:FuncId}{dd:List I}{m m':e7}{c kB:Nat}{p:Option I}{u:Option Value}{vs:List Value}(h:W.ap (Gk P ol gl g) run dd m c p=.ok m' kB)(bk:dQ A w B (cr m))
  (ao:cC w (bp A B) B dd vs) (aR:aex w (bp A B) B p u):CallsD P g vs.toArray (Kv u) w λe yB an=>∃v,e=.returned v/\yB=rG u/\∃aA,da A w B an aA (cr m'):=by
 unfold Gk at h
 split at h
 ·cases h
 ·rename_i fn al
  split at h
  ·rename_i id ops rest rs U mT
   split at h
   ·cases h
   ·rename_i o os C3
    split at h
    ·cases h
    ·rename_i s Q
     cases x5:(AN s fn.ntmps&&rF fn.ntmps 1000000) with
     |false=>rw[x5] at h;cases h
     |true =>
     rw[x5] at h;rw[ff] at x5;have p2:s<fn.ntmps:=by simpa [Nat.blt_eq] using x5.1
     have aC:fn.ntmps<=1000000:=p3 x5.2;have F:(gu jJ.no (VN rs (W.ap (Gb P fn.ntmps ops os) run c (xg s (k7 (.J .nB) (λv=>v) p) (s7 dd 0 .e)) m (c+1000) none λt m c d=>W.ap (nZ P ol gl fn.ntmps rest) run t m c d)) (rF (D dd) fn.ntmps):jJ)=.ok m' kB:=h
     cases hle:rF (D dd) fn.ntmps with
     |false=>rw[hle] at F;cases F
     |true =>
     rw[hle] at F;have eb:(D dd)<=fn.ntmps:=p3 hle;obtain⟨x,ld,M,L,v,jS⟩:=aqW F;refine callsD_of_wpS al U λc₀ cs hu=>?_;have rv:=aev (fn:=fn) bk ao eb;obtain⟨uz,qk,hex⟩:=aqX (P:=P) (w:=w) Q { tmps:=vs.toArray++Array.replicate (fn.ntmps-vs.toArray.size) undef,defers:=[] }
     have a6:ops[0]?=some o:=by
      have:ops.toList[0]?=some o:=by rw[C3];rfl
      simpa using this
     -- behind the recovery
     have after:∀(C6:Value) (pm:I),a0 w (bp A B) B pm C6->pm=(k7 (.J .nB) (λv=>v) p:I)->wpOpsS P ops (Exit.thenS (rest.wpS P (bodyPostS P fn c₀ cs λe yB an=>∃v,e=.returned v/\yB=rG u/\∃aA,da A w B an aA (cr m'))) (bodyPostS P fn c₀ cs λe yB an=>∃v,e=.returned v/\yB=rG u/\∃aA,da A w B an aA (cr m'))) (Kg 1 (D os)) (Act.put { tmps:=vs.toArray++Array.replicate (fn.ntmps-vs.toArray.size) undef,defers:=[] } (some s) C6) ({ c₀ with mode:=rG u }::cs) w:=by
      intro C6 pm x4 aqZ;have fv:=rv.put (dst:=some s) (da.refl bk) x4 (by simpa using p2);rw[<-aeu (by omega)] at fv;have aq0:put (cT (s7 dd 0 .e)) (some s) pm=cT (xg s pm (s7 dd 0 .e)):=(Vg (by omega) _ _).symm;rw[aq0,aqZ] at fv
      have e6:∀e t1 aY ck d1 cD an aA,cv.ok x ld m' kB none=cv.ok e t1 aY ck d1->dS d1 fn.ntmps A w B cD ⟨cT t1,cr aY⟩ an aA->toQ A (λe a an=>bodyPostS P fn c₀ cs (λe yB an=>∃v,e=.returned v/\yB=rG u/\∃aA,da A w B an aA (cr m')) e a ({ c₀ with mode:=rG u }::cs) an) e cD an aA:=by
       intro e t1 aY ck d1 cD an aA he eH
       cases he;obtain⟨pA,kR,_⟩:=M5 eH mT jS;rcases L with rfl|rfl
       ·exact⟨eH.wv,rG u,rfl,pA,kR,pA,rfl,rfl,aA,eH.ok⟩
       ·exact⟨eH.wv,rG u,rfl,pA,kR,pA,rfl,rfl,aA,eH.ok⟩
      refine Vn os 1 _ w (by rw[C3];rfl) ?_;refine Vl eN aC (r:=cv.ok x ld m' kB none) (by simp) (λt1 aY ck d1 cD an aA F G=>?_) (λe t1 aY ck d1 cD an aA F G=>?_) os _ m (c+1000) none _ w B M.symm fv
      ·exact wpS_of_wp (aer eN aC hm rest t1 aY ck d1 cD an aA _ _ F (by simp) G e6)
      ·cases F;rcases L with L|L<;>cases L
     refine wpS_seq (wpS_region ?_)
     have aq1:qj ops.size=0::Kg 1 (D os):=by
      have:ops.size=D os+1:=by
       have:=congrArg D C3
       simpa using this
      rw[this,aes,List.range'_succ]
     rw[aq1];simp only[wpOpsS,a6]
     have hw:Region.wanted o (yielded ops (vs.toArray++Array.replicate (fn.ntmps-vs.toArray.size) undef))=true:=by
      unfold Region.wanted;rw[qk]
     rw[aL hw,hex];simp only
     cases p with
     |none =>
      cases u with
      |some _=>exact aR.elim
      |none =>
       have jR:recoverD (c₀::cs)=none:=by
        simp only[recoverD,hu,Kv,rG]
       rw[jR];simp only;have G:=after .nilIface (.J .nB) (.J .nB) rfl
       have nM:({ c₀ with mode:=rG none }:Frame)=c₀:=by
        have:rG none=c₀.mode:=hu.symm;rw[this]
       rw[nM] at G;rw[uz];exact G
     |some pm =>
      cases u with
      |none=>exact aR.elim
      |some C6 =>
       have jR:recoverD (c₀::cs)=some (C6,{ c₀ with mode:=rG (some C6) }::cs):=by
        simp only[recoverD,hu,Kv,rG]
       rw[jR];simp only;rw[uz];exact after C6 pm aR rfl
  ·cases h
end Go.Mini
namespace Go.Mini
open Go
abbrev VO:=jH->List I->e7->Nat->jv
def VP:W VO:=.mk λ_ _ _ _=>jv.no
def C7 (rs:List ku)(t:fq)(m:e7)(c:Nat):jv:=k7 jv.no (λv=>jv.ok v m c) (jO ⟨cT t,cr m⟩ rs)
def Pq (P:Program)(ol gl:List FuncId)(rs:List ku)(run:jH)(t:fq)(m:e7)(c:Nat)(d:I)(p:Option I):jv:=match d with
 |.ef g dd=>jJ.rec jv.no (λm c=>C7 rs t m c) (W.ap (Gk P ol gl g) run dd m c p)
 |_=>jv.no
def VQ (P:Program)(ol gl:List FuncId)(rs:List ku)(run:jH)(r:cv):jv:=cv.rec jv.no (λx t m c d=>k7
 (X.rec (C7 rs t m c) (λ_=>jv.no) (C7 rs t m c) (λv=>jv.hh v m c) x)
 (λd=>X.rec (Pq P ol gl rs run t m c d none) (λ_=>jv.no) (Pq P ol gl rs run t m c d none) (λv=>Pq P ol gl rs run t m c d (some v)) x) d) r
abbrev C8:=FuncId->Option (List Data->Option dj)
def VR (cp:List Data->Option dj):W VO:=.mk λ_ args m c=>match aG cp args (cr m) with
 |some (.same r)=>jv.ok (.J r) m c
 |some (.own _ es)=>jv.ok (.J (.ar es)) m c
 |_=>jv.no
def Pr (P:Program)(ol gl:List FuncId)(gn:C8)(f:FuncId):W VO:=k7 (match P.funcs[f]? with
 |none=>VP
 |some fn=>match fn.body,fn.results.toList.mapM (wg P) with
  |some co,some rs=>gu VP (.mk λrun args m c=>gu jv.no (VQ P ol gl rs run (W.ap (nZ P ol gl fn.ntmps co) run (s7 args 0 .e) m c none)) (rF (D args) fn.ntmps)) (rF fn.ntmps 1000000)
  |_,_=>VP) (λcp=>VR cp) (gn f)
def Kw (P:Program)(ol gl:List FuncId)(gn:C8)(k:Nat):jH :=
 Nat.rec (motive:=λ_=>jH) (λ_ _ _ _ => .no) (λ_ a4 f args m c=>W.ap (Pr P ol gl gn f) a4 args m c) k
variable {P:Program} {A:Nat->Prop} {w w1:World} {B iV:cU} {run:jH} {ol gl:List FuncId}
def Gl (P : Program): Prop := ∀ (f : FuncId) (fn : Func), P.funcs[f]? = some fn -> (fn.name == "runtime.NumGoroutine") = false
def VS (P:Program)(f:FuncId)(args:List I)(m:e7):jv->Prop
 |.no=>True
 |.ok v m' _=>Real P f/\∀A w B vs,dQ A w B (cr m)->cC w (bp A B) B args vs->Calls P f vs.toArray w λe an=>∃u aA,e=.returned u/\da A w B an aA (cr m')/\a0 an (bp A aA) aA v u
 |.hh v m' _=>Real P f/\∀A w B vs,dQ A w B (cr m)->cC w (bp A B) B args vs->Calls P f vs.toArray w λe an=>∃u aA,e=.panicked [{ v:=u,recovered:=false }]/\da A w B an aA (cr m')/\a0 an (bp A aA) aA v u
def VT (A:Nat->Prop)(w:World)(B:cU):jv->Ending->World->Prop
 |.no,_,_=>False
 |.ok v m' _,e,an=>∃u aA,e=.returned u/\da A w B an aA (cr m')/\a0 an (bp A aA) aA v u
 |.hh v m' _,e,an=>∃u aA,e=.panicked [{ v:=u,recovered:=false }]/\da A w B an aA (cr m')/\a0 an (bp A aA) aA v u
def VU {fn:Func}{rs:List ku}{b4:Option I}{a:Act}{t:fq}{m:e7}{c:Nat}{r:jv}(mT:fn.results.toList.mapM (wg P)=some rs)(M:r=C7 rs t m c)(bq:r ≠ .no)(Q:dS b4 fn.ntmps A w B a ⟨cT t,cr m⟩ w1 iV):
  ∃v,(results fn a.tmps).run P w1=.ok v w1/\VT A w B r (.returned v) w1:=by
 unfold C7 at M
 cases ao:jO ⟨cT t,cr m⟩ rs with
 |none=>rw[ao] at M;exact absurd M bq
 |some v =>
  rw[ao] at M;obtain⟨u,F,G⟩:=M5 Q mT ao;have dD:r=.ok v m c:=M;subst dD;exact⟨u,F,u,iV,rfl,Q.ok,G⟩
def VV (rH:Gl P){f:FuncId}{fn:Func}{co:Code}(al:P.funcs[f]?=some fn)(U:fn.body=some co):Real P f:=⟨fn,co,al,U,rH f fn al⟩
def VW (eN:sZ P run)(hm:P.follows .mixedOrders=true)(rH:Gl P){fn:Func}{rs:List ku}{a:Act}{t:fq}{m:e7}{c:Nat}{d:I}{p:Option I}{u:Option Value}{r:jv}(mT:fn.results.toList.mapM (wg P)=some rs)
  (M:r=Pq P ol gl rs run t m c d p) (bq:r ≠ .no) (Q:dS (some d) fn.ntmps A w B a ⟨cT t,cr m⟩ w1 iV) (aR:aex w1 (bp A iV) iV p u):Leaves P fn a.tmps (VT A w B r) a.defers (Kv u) w1:=by
 obtain⟨g,dd,vs,rfl,fE,ao⟩:=Q.wv;have dD:r=jJ.rec jv.no (λm c=>C7 rs t m c) (W.ap (Gk P ol gl g) run dd m c p):=M
 cases af:W.ap (Gk P ol gl g) run dd m c p with
 |no=>rw[af] at dD;exact absurd dD bq
 |ok m' kB =>
  rw[af] at dD;have aW:r=C7 rs t m' kB:=dD;obtain⟨cs,hu,eb⟩:=H2 ao (.inl rfl);simp only[Value.func.injEq,true_and] at hu;have aq2:=aqY (w:=w1) (u:=u) (vs:=cs) eN hm af Q.ok.cu eb aR
  have gz:Real P g:=by
   unfold Gk at af
   split at af
   ·cases af
   ·rename_i aA2 al
    split at af
    ·rename_i id ops rest aA3 U aA4;exact VV rH al U
    ·cases af
  rw[fE,hu];refine leaves_cons (f:=g) (args:=cs.toArray) ?_ ?_ ?_
  ·cases u<;>simp[Kv]
  ·simp only[invoke];have:(#[]++cs.toArray:Array Value)=cs.toArray:=by simp
   rw[this];exact By gz cs.toArray
  ·refine aq2.mono λe yB an he=>?_;obtain⟨v,rfl,rfl,aA,dg⟩:=he;simp only;have eH:=Q.put (dst:=none) (r:=.no) (v:=undef) dg .no rfl;obtain⟨pA,F,G⟩:=VU (w:=w) (B:=B) mT aW bq eH;have tz:settle (rG u)=.returning:=by cases u<;>rfl
   rw[tz];exact⟨pA,F,G⟩
def aq3 {cp:List Data->Option dj}{f:FuncId}(ek:hY P f cp)(args:List I)(m:e7)(c:Nat):VS P f args m (W.ap (VR cp) run args m c):=by
 have cw:nh P (u2 λg=>if g=f then some cp else none):=R8 λg aA5 h=>by
  split at h
  ·rename_i aN
   cases h;exact aN ▸ ek
  ·cases h
 unfold VR;rw[oy]
 split
 ·rename_i r he;obtain⟨gz,Q⟩:=cw f args (cr m) (.same r) (by simp only[u2,if_true];exact he);refine⟨gz,λA w B vs bk ao=>(Q A w B vs bk ao).mono λe an h=>?_⟩;obtain⟨v,rfl,dr,af⟩:=h;exact⟨v,B,rfl,.still bk dr,.J af⟩
 ·rename_i sz es he;obtain⟨gz,Q⟩:=cw f args (cr m) (.own sz es) (by simp only[u2,if_true];exact he);refine⟨gz,λA w B vs bk ao=>(Q A w B vs bk ao).mono λe an h=>?_⟩;obtain⟨v,rfl,dr,af⟩:=h;exact⟨v,B,rfl,.still bk dr,.J (af.den λb U=>U.elim (λcI=>bk.rU cI) (bk.lt b))⟩
 ·trivial
def aq4 {gn:C8}(Gm:∀f cp,gn f=some cp->hY P f cp)(eN:sZ P run)(hm:P.follows .mixedOrders=true)(rH:Gl P)(f:FuncId)(args:List I)(m:e7)(c:Nat):VS P f args m (W.ap (Pr P ol gl gn f) run args m c):=by
 generalize M:W.ap (Pr P ol gl gn f) run args m c=r
 by_cases bq:r=.no
 ·subst bq;trivial
 unfold Pr at M
 cases aR:gn f with
 |some cp =>
  rw[aR] at M;rw[<-M];exact aq3 (Gm f cp aR) args m c
 |none =>
 rw[aR] at M;simp only at M
 split at M
 ·exact absurd M.symm bq
 ·rename_i fn al
  split at M
  ·rename_i co rs U mT
   cases aC:rF fn.ntmps 1000000 with
   |false=>rw[aC] at M;exact absurd M.symm bq
   |true =>
   rw[aC] at M;have np:(gu jv.no (VQ P ol gl rs run (W.ap (nZ P ol gl fn.ntmps co) run (s7 args 0 .e) m c none)) (rF (D args) fn.ntmps):jv)=r:=M
   cases ag:rF (D args) fn.ntmps with
   |false=>rw[ag] at np;exact absurd np.symm bq
   |true =>
   rw[ag] at np;have HK:fn.ntmps<=1000000:=p3 aC;have nD:(D args)<=fn.ntmps:=p3 ag;have aW:r=VQ P ol gl rs run (W.ap (nZ P ol gl fn.ntmps co) run (s7 args 0 .e) m c none):=np.symm
   have main:∀A w B vs,dQ A w B (cr m)->cC w (bp A B) B args vs->Calls P f vs.toArray w (VT A w B r):=λA w B vs bk ao=>by
    have rv:=aev (fn:=fn) bk ao nD;rw[<-aeu (by omega)] at rv
    cases Y:W.ap (nZ P ol gl fn.ntmps co) run (s7 args 0 .e) m c none with
    |no=>rw[Y] at aW;exact absurd aW bq
    |ok x t1 aY ck d1 =>
     rw[Y] at aW;refine calls_of_wp_defers al U (aer eN HK hm co _ m c none _ w B _ _ Y.symm (by simp) rv λgL t2 b0 dC d2 cD an aA F eH=>?_)
     cases F
     cases d1 with
     |none =>
      have VX:cD.defers=[]:=eH.wv
      cases x with
      |o7 i=>exact absurd aW bq
      |l2 =>
       obtain⟨v,F,G⟩:=VU (w:=w) (B:=B) mT aW bq eH;show Leaves P fn cD.tmps _ cD.defers .returning an;rw[VX];exact⟨v,F,G⟩
      |ret =>
       obtain⟨v,F,G⟩:=VU (w:=w) (B:=B) mT aW bq eH;show Leaves P fn cD.tmps _ cD.defers .returning an;rw[VX];exact⟨v,F,G⟩
      |hh v =>
       intro u hu;show Leaves P fn cD.tmps _ cD.defers (.panicking [{ v:=u,recovered:=false }]) an;rw[VX];have Fy:r=.hh v aY ck:=aW;subst Fy;exact⟨u,aA,rfl,eH.ok,hu⟩
     |some d =>
      cases x with
      |o7 i=>exact absurd aW bq
      |l2=>exact VW (u:=none) eN hm rH mT aW bq eH trivial
      |ret=>exact VW (u:=none) eN hm rH mT aW bq eH trivial
      |hh v =>
       intro u hu;exact VW (u:=some u) eN hm rH mT aW bq eH hu
   cases r with
   |no=>trivial
   |ok v m' kB=>exact⟨VV rH al U,main⟩
   |hh v m' kB=>exact⟨VV rH al U,main⟩
  ·exact absurd M.symm bq
def aey {gn:C8}(Gm:∀f cp,gn f=some cp->hY P f cp)(hm:P.follows .mixedOrders=true)(rH:Gl P):∀k,sZ P (Kw P ol gl gn k)
 |0=>λf args m c=>trivial
 |k+1=>λf args m c=>by
  have h:VS P f args m (Kw P ol gl gn (k+1) f args m c):=aq4 Gm (aey Gm hm rH k) hm rH f args m c;generalize Kw P ol gl gn (k+1) f args m c=r at h ⊢
  cases r<;>exact h
def C9 (P:Program)(ol gl:List FuncId)(gn:C8)(k:Nat)(f:FuncId)(args:List I):Option Data:=jv.rec none (λv m _=>cN 6 (cr m) v) (λ_ _ _=>none) (Kw P ol gl gn k f args .e 0)
def aq5 {gn:C8}(Gm:∀f cp,gn f=some cp->hY P f cp){f:FuncId}{k:Nat}(hm:P.follows .mixedOrders=true)(rH:Gl P){cp:List Data->Option dj}(gz:Real P f)(h:∀ds r,cp ds=some r->∃d,r=.same d/\C9 P ol gl gn k f (ds.map .J)=some d):hY P f cp:=by
 refine⟨gz,λds r ek A w vs aq jT sb=>?_⟩;obtain⟨d,rfl,bN⟩:=h ds r ek;have bk:dQ A w (λ_=>none) (cr .e):=⟨λ_ _=>rfl,λ_ _ _ _ _ h=>(by cases h),λb _ a6=>yb b a6,aq,jT,λb _ _ a6=>yb b a6,λ_ _ _ h=>(by cases h)⟩;have e9:∀b,bp A (λ_=>none) b->A b:=λb h=>h.elim (λh=>(yb b h).elim) id;have b9:cC w (bp A λ_=>none) (λ_=>none) (ds.map .J) vs:=cC.J sb.1 λi d v F G=>(sb.2 i d v F G).less e9;have M:=aey (ol:=ol) (gl:=gl) Gm hm rH k f (ds.map .J) .e 0;unfold C9 at bN
 cases eN:Kw P ol gl gn k f (ds.map .J) .e 0 with
 |no=>rw[eN] at bN;cases bN
 |hh v m c=>rw[eN] at bN;cases bN
 |ok v m c =>
  rw[eN] at bN M;have aq6:cN 6 (cr m) v=some d:=bN;refine Calls.mono (M.2 A w _ vs bk b9) λe an he=>?_;obtain⟨u,aA,rfl,dg,jm⟩:=he;exact⟨u,rfl,⟨dg.fZ.os,dg.fZ.tape,dg.fZ.output,dg.fZ.size,λb U _=>dg.fZ.block b U (yb b)⟩,snap dg.cu (λb U=>U) 6 v u d aq6 jm⟩
end Go.Mini
namespace Go.Mini
open Go
def Gn:List (List Data)->Option (List Int)
 | []=>some []
 | [.int .i64 n]::r=>(Gn r).map (n::·)
 |_=>none
def VY:∀{es:List (List Data)} {l:List Int},Gn es=some l->es=l.map aI
 | [],l,h=>by
  simp only[Gn,bO] at h;subst h;rfl
 |e::r,l,h=>by
  unfold Gn at h
  split at h
  ·simp_all
  ·rename_i n xL he;simp only[bl] at he;obtain⟨rfl,rfl⟩:=he;simp only[c4] at h;obtain⟨mR,F,rfl⟩:=h;rw[VY F]
   rfl
  ·cases h
def Ps:List Data->Option ax
 | [.int .i64 s,.ar es,.int .i64 s2,.ar acH]=>match Gn es,Gn acH with
  |some l,some Z=>if (rF (D l) 1000&&rF (D Z) 1000)=true then some ((s,l),(s2,Z)) else none
  |_,_=>none
 |_=>none
def aez {ds:List Data}{x:ax}(h:Ps ds=some x):ds=av x/\x.1.2.length<=1000000/\x.2.2.length<=1000000:=by
 unfold Ps at h
 split at h
 ·split at h
  ·rename_i l Z F G
   split at h
   ·rename_i Y
    cases h;rw[ff] at Y;have ad:=p3 Y.1;have aZ:=p3 Y.2;exact⟨by rw[VY F,VY G];rfl,by show (D l)<=1000000;omega,by show (D Z)<=1000000;omega⟩
   ·cases h
  ·cases h
 ·cases h
def AQ (op:ax->ax->ax×Int):List Data->Option dj
 | [.agg a,.agg b]=>match Ps a,Ps b with
  |some x,some y=>some (.same (cR (op x y)))
  |_,_=>none
 |_=>none
def VZ {op:ax->ax->ax×Int}{ds:List Data}{r:dj}(h:AQ op ds=some r):∃x y:ax,ds=[.agg (av x),.agg (av y)]/\(x.1.2.length<=1000000/\x.2.2.length<=1000000/\y.1.2.length<=1000000/\y.2.2.length<=1000000)/\r=.same (cR (op x y)):=by
 unfold AQ at h
 split at h
 ·split at h
  ·rename_i x y F G
   cases h;obtain⟨aQ,dx,dW⟩:=aez F;obtain⟨az,bT,cB⟩:=aez G;exact⟨x,y,by rw[aQ,az],⟨dx,dW,bT,cB⟩,rfl⟩
  ·cases h
 ·cases h
def V0:List Data->Option dj
 | [.int .i64 p,.int .i64 q]=>if (decide (p.natAbs<=1000000)&&decide (q.natAbs<=1000000))=true then some (.same (cR (ie (bb p) (bb q)))) else none
 |_=>none
def aq7 {ds:List Data}{r:dj}(h:V0 ds=some r):FB ds=some r:=by
 unfold V0 at h
 split at h
 ·rename_i p q
  split at h
  ·rename_i Y
   cases h;simp only[ff,decide_eq_true_eq] at Y;exact ans p q ⟨by unfold dY;omega,by unfold dY;omega⟩
  ·cases h
 ·cases h
def aq8 {ds:List Data}{r:dj}(h:AQ ou ds=some r):Cv ds=some r:=by
 obtain⟨x,y,rfl,Y,rfl⟩:=VZ h;exact anK x.1.1 x.1.2 x.2.1 x.2.2 y.1.1 y.1.2 y.2.1 y.2.2 Y
def aq9 {ds:List Data}{r:dj}(h:AQ iC ds=some r):yT ds=some r:=by
 obtain⟨x,y,rfl,Y,rfl⟩:=VZ h;exact anN x.1.1 x.1.2 x.2.1 x.2.2 y.1.1 y.1.2 y.2.1 y.2.2 Y
def ara {ds:List Data}{r:dj}(h:AQ fL ds=some r):Cx ds=some r:=by
 obtain⟨x,y,rfl,Y,rfl⟩:=VZ h;exact anP x.1.1 x.1.2 x.2.1 x.2.2 y.1.1 y.1.2 y.2.1 y.2.2 Y
def AR:C8:=λf=>if f=ID then some V0 else if f=BT then some (AQ ou) else if f=yn then some (AQ iC) else if f=EU then some (AQ fL) else none
def arb {P:Program}(F:hY P ID FB)(G:hY P BT Cv)(ad:hY P yn yT)(aZ:hY P EU Cx):∀f cp,AR f=some cp->hY P f cp:=by
 intro f cp h;unfold AR at h
 split at h
 ·rename_i al;cases h;subst al;exact⟨F.real,λds r ek=>F.run ds r (aq7 ek)⟩
 ·split at h
  ·rename_i al;cases h;subst al;exact⟨G.real,λds r ek=>G.run ds r (aq8 ek)⟩
  ·split at h
   ·rename_i al;cases h;subst al;exact⟨ad.real,λds r ek=>ad.run ds r (aq9 ek)⟩
   ·split at h
    ·rename_i al;cases h;subst al;exact⟨aZ.real,λds r ek=>aZ.run ds r (ara ek)⟩
    ·cases h
end Go.Mini
namespace Go.Mini
open Go
variable {P:Program} {A:Nat->Prop} {w an:World} {B aA:cU} {mem mem':Mem}
def Kx (N:List I->Mem->Option Data)(args:List I)(mem:Mem):Option gH:=(N args mem).map λd => .rel (yg (.J d) mem)
@[go_sem] def aA6 (N:List I->Mem->Option Data)(args:List I)(mem:Mem):Kx N args mem=(N args mem).map λd => .rel (yg (.J d) mem):=bu
def arc {T : bj}{kb : Nat}{own : List Nat}(cw : nh P T)(hm : P.follows .mixedOrders = true){f : FuncId}{fn : Func}{mf : bG}(al : P.funcs[f]? = some fn)(sj : (fn.name == "runtime.NumGoroutine") = false)(ay : pz P kb own fn = some { mf with body := erase mf.body })
  (cS:Key->Prop) {N:List I->Mem->Option Data}
  (h:∀args mem d,N args mem=some d->(D args)<=mf.n/\(∀j,cS j->mem j=none) /\
   wp T mf.body (uf mf.res λm mem'=>cN 6 emp m=some d/\∀j,¬ cS j->mem' j=mem j) ⟨ke args,mem⟩):nv P f (Kx N):=by
 refine⟨Ut al sj ay,λargs mem oa dO A w B vs bk ao=>?_⟩;unfold Kx at dO;rw[c4] at dO;obtain⟨d,FL,rfl⟩:=dO;obtain⟨hlen,vo,yc⟩:=h args mem d FL;refine Calls.mono (Ik (Post:=λm mem'=>cN 6 emp m=some d/\∀j,¬ cS j->mem' j=mem j) cw hm al ay hlen (λe st R=>Us R) yc bk ao) λe an he=>?_;obtain⟨v,m,mem',aA,rfl,Q,kR,af,gK⟩:=he;exact⟨v,.J d,mem,sP cS aA,rfl,Q.drop bk vo vo (λj aa=>(gK j aa).symm) (λk g cs R m hm => .inr ⟨k,g,cs,R,hm⟩),.J ((R7 6 m v d af kR).less λb U=>U.imp CC id),rfl,rfl⟩
def ard (W:List I->Mem->Option (Data×Key))(args:List I)(mem:Mem):Option gH:=(W args mem).map λx => .xG x.1 x.2
@[go_sem] def aA7 (W:List I->Mem->Option (Data×Key))(args:List I)(mem:Mem):ard W args mem=(W args mem).map λx => .xG x.1 x.2:=bu
open Classical in
def Ky {α:Type}(dm:α->List I->Mem->Prop)(res:α->Data):List I->Mem->Option Data:=λargs mem=>if h:∃a,dm a args mem then some (res (Classical.choose h)) else none
def are {α:Type}{dm:α->List I->Mem->Prop}{res:α->Data}(uniq:∀a b args mem,dm a args mem->dm b args mem->res a=res b){a:α}{args:List I}{mem:Mem}(h:dm a args mem):Ky dm res args mem=some (res a):=by
 have L:∃b,dm b args mem:=⟨a,h⟩;unfold Ky;rw[dif_pos L,uniq _ _ _ _ (sk L) h]
def arf {α:Type}{dm:α->List I->Mem->Prop}{res:α->Data}{args:List I}{mem:Mem}{d:Data}(h:Ky dm res args mem=some d):∃a,dm a args mem/\d=res a:=by
 unfold Ky at h
 split at h
 ·rename_i L;exact⟨_,sk L,(mm h).symm⟩
 ·cases h
def V1 {K:a8->Prop}{st:a8}{x:bx}{i k sz kc g off:Nat}{cs:List I}(F:aM st.tm x=.ptr kc g off)(G:st.mem kc=some (g,cs))(ad:cs[off+i]?=some .nil)(aZ:k≠kc)
  (h:K ⟨st.tm,aV (aV st.mem k (bB st.mem k) []) kc g (cs.set (off+i) (.ref k (bB st.mem k) sz 0 0))⟩):lh K st (.DZ x i k sz):=by
 simp only[lh,F,G,if_true,ad];rw[aL aZ];exact h
def arh {K:a8->Prop}{st:a8}{x:bx}{i kc gc off k g sz o len:Nat}{cc cs:List I}{d:Data}(F:aM st.tm x=.ptr kc gc off)(G:st.mem kc=some (gc,cc))(ad:cc[off+i]?=some (.ref k g sz o len))(aZ:st.mem k=some (g,cs))(bw:q4 cs=true)(bA:k≠kc)(bM:cN 1 st.mem (.ref k g sz o len)=some d)
  (h:K ⟨st.tm,aV (kill st.mem k) kc gc (cc.set (off+i) (.J d))⟩):lh K st (.Md x i):=by
 simp only[lh,F,G,if_true,ad,aZ];rw[aL ⟨trivial,bw,bA⟩,bM];exact h
def dP (n:Nat)(mem m:Mem):Prop:=∀k,k/1000≠n->m k=mem k
def dP.refl (n:Nat)(mem:Mem):dP n mem mem:=λ_ _=>rfl
def dP.ea {n k g:Nat}{cs:List I}{mem m:Mem}(h:dP n mem m)(R:k/1000=n):dP n mem (aV m k g cs):=λj aa=>by
 have:j≠k:=λe=>aa (by rw[e];exact R);simp only[aV,this,if_false];exact h j aa
def dP.kill {n k:Nat}{mem m:Mem}(h:dP n mem m)(R:k/1000=n):dP n mem (kill m k):=h.ea R
def dP.at {n:Nat}{mem m:Mem}(h:dP n mem m)(k:Nat)(R:k/1000≠n):m k=mem k:=h k R
def Pt (n:Nat)(mem:Mem):Prop:=∀k,k/1000=n->mem k=none
def Pt.fZ {n Kh:Nat}{mem m:Mem}(h:Pt n mem)(al:dP Kh mem m)(aC:n≠Kh):Pt n m:=λk R=>by rw[al k (by omega)];exact h k R
end Go.Mini
namespace Go.Mini
open Go Go.Proofs
def aeA {P : Program}{T : bj}{kb : Nat}{own : List Nat}{α : Type}{args : α -> List Data}{res : α -> Option dj}(cw : nh P T)(hm : P.follows .mixedOrders = true){f : FuncId}{fn : Func}{mf : bG}(al : P.funcs[f]? = some fn)(sj : (fn.name == "runtime.NumGoroutine") = false)(ay : pz P kb own fn = some { mf with body := erase mf.body })(h : ∀ a r, res a = some r -> (args a).length <= mf.n /\ wp T mf.body (tC mf.res r) ⟨ke ((args a).map .J), emp⟩): hY P f (bI args res) := R6 cw hm al sj ay fun ds r M => by
 obtain⟨a,rfl,G⟩:=Nb M;exact h a r G
def mixed:Tryz.prog.follows .mixedOrders=true:=by kernel_rfl
abbrev b2:=hY Tryz.prog
def ari (mf : bG)(kb : Nat)(own : List Nat){α : Type}{args : α -> List Data}{res : α -> Option dj}{l : List (FuncId × (List Data -> Option dj))}{e : List (FuncId × (List I -> Mem -> Option gH))}(ag : ∀ p ∈ l, hY Tryz.prog p.1 p.2)(he : ∀ p ∈ e, nv Tryz.prog p.1 p.2){f : FuncId}{fn : Func}(al : Tryz.prog.funcs[f]? = some fn)(h : ∀ a, Nf (res a) fun r => rF (args a).length mf.n = true /\ wp (sQ (EE l) (FO e)) mf.body (tC mf.res r) ⟨ke ((args a).map .J), emp⟩)(aC : (fn.name == "runtime.NumGoroutine", pz Tryz.prog kb own fn) = (false, some { mf with body := erase mf.body }) := by kernel_rfl): b2 f (bI args res) := R6 (vp (u5 ag) (vq he)) mixed al (congrArg Prod.fst aC) (congrArg Prod.snd aC) fun ds r M => by
 obtain⟨a,rfl,G⟩:=Nb M;have ad:=h a;rw[G] at ad;exact⟨p3 ad.1,ad.2⟩
def aA8 (mf : bG)(kb : Nat)(own : List Nat){α : Type}{args : α -> List Data}{res : α -> Option dj}{l : List (FuncId × (List Data -> Option dj))}(ag : ∀ p ∈ l, hY Tryz.prog p.1 p.2){f : FuncId}{fn : Func}(al : Tryz.prog.funcs[f]? = some fn)(h : ∀ a, Nf (res a) fun r => rF (args a).length mf.n = true /\ wp (sQ (EE l) (FO [])) mf.body (tC mf.res r) ⟨ke ((args a).map .J), emp⟩)(aC : (fn.name == "runtime.NumGoroutine", pz Tryz.prog kb own fn) = (false, some { mf with body := erase mf.body }) := by kernel_rfl): b2 f (bI args res) := ari mf kb own ag m8 al h aC
def vI (kb : Nat)(own : List Nat){l : List (FuncId × (List Data -> Option dj))}{e : List (FuncId × (List I -> Mem -> Option gH))}(ag : ∀ p ∈ l, hY Tryz.prog p.1 p.2)(he : ∀ p ∈ e, nv Tryz.prog p.1 p.2){f : FuncId}{fn : Func}(al : Tryz.prog.funcs[f]? = some fn){mf : bG}{cp : List Data -> Option dj}(h : WF (sQ (EE l) (FO e)) mf cp)(aC : (fn.name == "runtime.NumGoroutine", pz Tryz.prog kb own fn) = (false, some { mf with body := erase mf.body }) := by kernel_rfl): b2 f cp := R6 (vp (u5 ag) (vq he)) mixed al (congrArg Prod.fst aC) (congrArg Prod.snd aC) fun ds r M => by
 obtain⟨ad,aZ⟩:=h ds r M;rw[ak8] at aZ;exact⟨p3 ad,aZ⟩
def cj (kb : Nat)(own : List Nat){l : List (FuncId × (List Data -> Option dj))}(ag : ∀ p ∈ l, hY Tryz.prog p.1 p.2){f : FuncId}{fn : Func}(al : Tryz.prog.funcs[f]? = some fn){mf : bG}{cp : List Data -> Option dj}(h : WF (sQ (EE l) (FO [])) mf cp)(aC : (fn.name == "runtime.NumGoroutine", pz Tryz.prog kb own fn) = (false, some { mf with body := erase mf.body }) := by kernel_rfl): b2 f cp := vI kb own ag m8 al h aC
def aX {gn:FuncId->Option (List Data->Option dj)}{rz:FuncId->Option (List I->Mem->Option gH)}{f:FuncId}{cp:List Data->Option dj}(F:rz f=none:=by rfl)(G:gn f=some cp:=by rfl):sQ gn rz f=aG cp:=ug F G
def Gp:b2 pI wK:=cj 177000 [] bS Tryz.func200 (alL _)
def Gq:nv Tryz.prog pI (z4 tM):=Iw.acI (ZJ (mf:=E5) (kb:=177000) (own:=[]) (vp (u5 bS) (vq m8)) mixed Tryz.func200 (by kernel_rfl) (by kernel_rfl) λargs mem x h=>by
 obtain⟨a,⟨rfl,hm,ag⟩,rfl⟩:=Ss h;exact⟨p3 rfl,alM _ a.l a.k a.g mem hm ag⟩)
def arj:b2 Nq NF:=cj 184000 [] bS Tryz.func202 (alN _)
def aeB:b2 EW I3:=cj 174000 [] (aO arj bS) Tryz.func141 (alO _ aX)
def ark:b2 SM NH:=cj 179000 [] bS Tryz.func205 (alR _)
def Pu:b2 wH Ab:=cj 156000 [5] bS Tryz.func94 (alT _)
def za:b2 kF tO:=cj 136000 [] bS Tryz.func134 (alU _)
def Gr:b2 oc yu:=vI 158000 [] (aO Gp bS) (uh Gq m8) Tryz.func138 (alW _ (FN rfl rfl))
def V2:b2 BY E9:=cj 175000 [] (aO aeB bS) Tryz.func142 (alZ _ aX)
def aeC:b2 IK I5:=vI 172000 [] (aO Gp bS) (uh Gq m8) Tryz.func139 (al0 _ (FN rfl rfl))
def aeD:b2 EV I7:=vI 173000 [10] (aO Pu (aO Gp bS)) (uh Gq m8) Tryz.func140 (al2 _ aX (FN rfl rfl))
def aeE:b2 ES I8:=vI 161000 [] (aO Gp bS) (uh Gq m8) Tryz.func148 (al5 _ (FN rfl rfl))
def arl:b2 Np NJ:=vI 176000 [] (aO Gp bS) (uh Gq m8) Tryz.func199 (al7 _ (FN rfl rfl))
def arn:nv Tryz.prog SL (z4 Jd):=Iw.acI (ZJ (mf:=NA) (kb:=178000) (own:=[]) (vp (u5 bS) (vq m8)) mixed Tryz.func201 (by kernel_rfl) (by kernel_rfl) λargs mem x h=>by
 obtain⟨a,⟨rfl,Y⟩,rfl⟩:=Ss h;exact⟨p3 rfl,amf _ a mem Y⟩)
def aeF:b2 IH Ji:=vI 157000 [54] (aO V2 (aO Pu (aO arl (aO Gp (aO aeE bS))))) (uh Gq (uh arn m8)) Tryz.func137 (ams _ aX aX aX (FN rfl rfl) aX (FM rfl rfl))
def V3:b2 tK Fs:=cj 155000 [] bS Tryz.func147 (am1 _)
def aeG:b2 ER Jo:=cj 152000 [] (aO za (aO Pu (aO Gr bS))) Tryz.func206 (am2 _ aX aX aX)
def Pv:b2 tJ Cm:=cj 140000 [] (aO za (aO aeE (aO Gr (aO V3 bS)))) Tryz.func72 (am3 _ aX aX aX aX)
def aro:b2 SJ NX:=cj 160000 [] (aO za (aO ark (aO aeC (aO aeD (aO V2 (aO Gr (aO V3 bS))))))) Tryz.func146 (am4 _ aX aX aX aX aX aX aX)
def arp:b2 SH NZ:=cj 154000 [] (aO za (aO aeB (aO V2 bS))) Tryz.func69 (am6 _ aX aX aX)
def aeH:b2 IE Jt:=cj 137000 [] (aO za (aO Pu (aO aeF (aO Gr (aO V3 bS))))) Tryz.func135 (am7 _ aX aX aX aX aX)
def aeI:b2 BW Jw:=cj 153000 [] (aO za (aO aeF (aO aeC (aO aeD (aO Gr bS))))) Tryz.func68 (am8 _ aX aX aX aX aX)
def arq:b2 No N2:=cj 150000 [] (aO Gr bS) Tryz.func185 (ane _ aX)
def ars:b2 SI N4:=cj 159000 [] (aO za bS) Tryz.func198 (anh _ aX)
def art:b2 SB N8:=cj 138000 [] (aO ars bS) Tryz.func136 (ano _ aX)
def AS:b2 mu vi:=cj 116000 [] (aO za (aO aeH (aO art bS))) Tryz.func67 (anp _ aX aX aX)
def aeJ:b2 IG JA:=cj 149000 [] (aO za (aO aeG (aO aeH (aO aeI bS)))) Tryz.func149 (anr _ aX aX aX aX)
def aeK:b2 ID FB:=cj 130000 [] (aO arq (aO aeJ bS)) Tryz.func109 (ant _ aX aX)
def aru:b2 SC Oc:=cj 139000 [] (aO Pv (aO aro bS)) Tryz.func71 (anG _ aX aX)
def V4:b2 BV FC:=cj 141000 [] (aO aeJ bS) Tryz.func73 (anI _ aX)
def V5:b2 BT Cv:=cj 119000 [] (aO AS (aO aru (aO Pv (aO V4 bS)))) Tryz.func22 (anL _ aX aX aX aX)
def aeL:b2 BU Cw:=cj 132000 [] (aO AS (aO aeG (aO V5 bS))) Tryz.func157 (anM _ aX aX aX)
def V6:b2 yn yT:=cj 134000 [] (aO AS (aO Pv (aO V4 bS))) Tryz.func38 (anO _ aX aX aX)
def aeM:b2 EU Cx:=cj 169000 [] (aO AS (aO Pv (aO V4 bS))) Tryz.func113 (anQ _ aX aX aX)
def V7:b2 z6 FF:=cj 135000 [] (aO AS (aO aeI (aO arp bS))) Tryz.func20 (anX _ aX aX aX)
end Go.Mini
namespace Go.Mini
open Go Go.Proofs
def arv:∀f cp,AR f=some cp->hY Tryz.prog f cp:=arb aeK V5 V6 aeM
def arw : (Tryz.prog.funcs.all fun fn => !(fn.name == "runtime.NumGoroutine")) = true := by kernel_rfl
def arx:Gl Tryz.prog:=λf fn h=>by
 have:=(Array.all_eq_true'.1 arw) fn (Array.mem_of_getElem? h)
 simpa using this
def aeN:Real Tryz.prog oS:=⟨Tryz.f39,_,Tryz.func39,rfl,by kernel_rfl⟩
def Pw (s:List UInt8)(d:Data)(h:C9 Tryz.prog [45] [169,239,48,50] AR 1000 oS [.J (.str s)]=some d):hY Tryz.prog oS (λds=>@ite _ (ds=[.str s]) (Classical.propDecidable _) (some (.same d)) none) :=
 aq5 (ol:=[45]) (gl:=[169,239,48,50]) arv mixed arx aeN λds r M=>by
  split at M
  ·rename_i e;subst e
   cases M;exact⟨d,rfl,h⟩
  ·cases M
end Go.Mini
namespace Go.Mini
open Go
def xk (x:List ax)(l:cn)(s:ax×Bool):ax×Bool :=
 ((ou s.1 (iC l.2.2 (x.getD l.1.toNat bC)).1).1,s.2&&(((iC l.2.2 (x.getD l.1.toNat bC)).2==0)&&((ou s.1 (iC l.2.2 (x.getD l.1.toNat bC)).1).2==0)))
def AT (l:cn):List I:=.J (.int .i64 l.1) :: .J (.int .i64 l.2.1)::ju l.2.2
structure Kz where
 l:cn
 x:List ax
 s:ax×Bool
def V8 (a:Kz)(mem:Mem):Prop:=mem 396006=some (0,[.J (.ar (a.x.map av))])/\mem 396004=some (0,ju a.s.1)/\mem 396010=some (0,[.J (.bool a.s.2)])/\okF a.l.2.2/\ih a.x/\okF a.s.1/\0<=a.l.1/\a.l.1<D a.x
def Gs (a:Kz)(mem:Mem):I->Mem->Prop:=λ_ mem'=>mem' 396004=some (0,ju (xk a.x a.l a.s).1)/\mem' 396010=some (0,[.J (.bool (xk a.x a.l a.s).2)])/\∀k:Nat,k/1000≠397->k≠396004->k≠396010->mem' k=mem k
def aeO {f g:ax}(h:ju f=ju g):f=g:=by
 obtain⟨⟨a,b⟩,⟨c,d⟩⟩:=f;obtain⟨⟨cD,eG⟩,⟨kB,qt⟩⟩:=g;simp only[ju,bl,I.J.injEq,Data.int.injEq,Data.ar.injEq,true_and,and_true] at h;obtain⟨rfl,F,rfl,G⟩:=h;rw[map_inj fX _ _ F,map_inj fX _ _ G]
def ary {a b:cn}(h:AT a=AT b):a=b:=by
 obtain⟨x,y,w⟩:=a;obtain⟨gL,y',an⟩:=b;simp only[AT,bl,I.J.injEq,Data.int.injEq,true_and] at h;obtain⟨rfl,rfl,h⟩:=h;rw[aeO h]
def KA:List I->Mem->Option (I->Mem->Prop):=CE (λ(a:Kz) args mem=>args=[.agg (AT a.l),.ptr 396006 0 0,.ptr 396004 0 0,.ptr 396010 0 0]/\V8 a mem) Gs
def arz (a:Kz)(mem:Mem)(h:V8 a mem):KA [.agg (AT a.l),.ptr 396006 0 0,.ptr 396004 0 0,.ptr 396010 0 0] mem=some (Gs a mem):=by
 unfold KA;refine Ux (a:=a) ?_ ⟨rfl,h⟩;rintro a b args mem ⟨F,G,ad,aZ,_⟩ ⟨bo,c5,ej,s8,_⟩;rw[F] at bo;rw[G] at c5;rw[ad] at ej;rw[aZ] at s8;simp only[bl,I.agg.injEq,and_true,I.J.injEq,Data.ar.injEq,Data.bool.injEq,bO,eM,true_and] at bo c5 ej s8;obtain⟨l,x,s,f⟩:=a;obtain⟨mR,gL,xX,AJ⟩:=b;dsimp only at *;rw[ary bo,map_inj j1 _ _ c5,aeO ej,s8]
def arA (T:bj)(AA:T yn=aG yT)(FD:T BT=aG Cv)(a:Kz)(hn:Mem)(h:V8 a hn):
  wp T Ol.body (uf Ol.res (Gs a hn)) ⟨ke [.agg (AT a.l),.ptr 396006 0 0,.ptr 396004 0 0,.ptr 396010 0 0],hn⟩:=by
 obtain⟨bA,aZ,dz,a6,L,Q,qp,aC⟩:=h;obtain⟨⟨f,t,⟨w1,gF⟩,⟨bL,ht⟩⟩,x,⟨⟨s1,s2⟩,⟨bU,bW⟩⟩,KB⟩:=a;dsimp only at *;obtain⟨i,rfl⟩:=vJ qp;have aq:i<D x:=by omega
 obtain⟨⟨⟨dA,dJ⟩,⟨ep,eB⟩⟩,fG⟩:∃f,x[i]?=some f:=⟨_,bf aq⟩;have hr:=L.2 _ (cL fG);have qk:x.getD i bC=((dA,dJ),(ep,eB)):=by rw[dH,fG];rfl
 unfold Gs xk;dsimp only;rw[lX,qk];have um:=OI ((w1,gF),(bL,ht)) ((dA,dJ),(ep,eB));generalize ic:iC ((w1,gF),(bL,ht)) ((dA,dJ),(ep,eB))=dm at *;obtain⟨⟨⟨jn,gI⟩,⟨sV,uo⟩⟩,aQ⟩:=dm;dsimp only at um ⊢;generalize cW:ou ((s1,s2),(bU,bW)) ((jn,gI),(sV,uo))=S at *;obtain⟨⟨⟨v1,v2⟩,⟨fg,v4⟩⟩,az⟩:=S;dsimp only;simp only[ju] at aZ;refine xY ?_;simp only[Ol];rcases KB
 ·rcases uF:(aQ==0)<;>rcases eg:(az==0) <;>
  (
   refine ah ?_;repeat' (intro (ai:_=_)<;>simp only[ai,go_sem,go_sem_proc,AA,FD,bA,aZ,dz,fG,ic,cW,a6.1,a6.2,hr.1,hr.2,Q.1,Q.2,um.1,um.2,uF,eg,AT,ju,cR,av,aj,bg]<;>try refine ae ?_ ?_)
   refine⟨_,rfl,?_⟩;intro k R F G;have vK:∀(j:Nat),j/1000=397->k≠j:=λj G h=>R (h ▸ G);rw[aT F,aT G,aT (vK 397007 (by decide)),aT (vK 397007 (by decide)),aT (vK 397005 (by decide)),aT (vK 397005 (by decide)),aT (vK 397004 (by decide))])
 ·rcases uF:(aQ==0)<;>rcases eg:(az==0) <;>
  (
   refine ah ?_;repeat' (intro (ai:_=_)<;>simp only[ai,go_sem,go_sem_proc,AA,FD,bA,aZ,dz,fG,ic,cW,a6.1,a6.2,hr.1,hr.2,Q.1,Q.2,um.1,um.2,uF,eg,AT,ju,cR,av,aj,bg]<;>try refine ae ?_ ?_)
   refine⟨_,rfl,?_⟩;intro k R F G;have vK:∀(j:Nat),j/1000=397->k≠j:=λj G h=>R (h ▸ G);rw[aT F,aT G,aT (vK 397007 (by decide)),aT (vK 397007 (by decide)),aT (vK 397005 (by decide)),aT (vK 397005 (by decide)),aT (vK 397004 (by decide))])
def s9 (x:List ax)(to:Int):List cn->ax×Bool->ax×Bool
 | [],s=>s
 |l::r,s=>s9 x to r (if ((l.2.1==to)&&s.2)=true then xk x l s else s)
def lI (base:ax)(ls:List cn)(x:List ax)(to:Int):ax×Bool:=s9 x to ls (base,true)
def aeP (base:ax)(ls:List cn)(x:List ax)(to:Int):Prop:=okF base/\qQ ls/\ih x/\∀l∈ls,l.2.1=to->0<=l.1/\l.1<D x
def aeQ (x:List ax)(l:cn)(s:ax×Bool):okF (xk x l s).1:=UD _ _
abbrev Gu:Int×(List Int)×Int×(List Int)×(List cn)×(List ax)×Int->List Data:=λ(s,l,s2,Z,ls,x,to)=>[.agg [.int .i64 s,.ar (l.map aI),.int .i64 s2,.ar (Z.map aI)],.ar (ls.map fh),.ar (x.map av),.int .i64 to]
def Gv:=bI Gu λ(s,l,s2,Z,ls,x,to)=>ca (aeP ((s,l),(s2,Z)) ls x to) (.same (.dq [.agg (av (lI ((s,l),(s2,Z)) ls x to).1),.bool (lI ((s,l),(s2,Z)) ls x to).2]))
def aeR:∀a b,Gu a=Gu b->a=b:=by
  rintro⟨s1,hZ,tY,sG,y5,dA,arB⟩ ⟨s2,Z,tZ,sH,y6,dJ,arC⟩ h;simp only[bl,Data.agg.injEq,Data.int.injEq,Data.ar.injEq] at h;exact cz h.1.1.2 (cz (map_inj fX _ _ h.1.2.1) (cz h.1.2.2.1.2 (cz (map_inj fX _ _ h.1.2.2.2.1) (cz (map_inj uy _ _ h.2.1) (cz (map_inj j1 _ _ h.2.2.1) h.2.2.2.1.2)))))
@[go_sem] def V9 (s l s2 Z ls x to):=cl Gv rfl aeR (s,l,s2,Z,ls,x,to) rfl
def arD (T:bj)(xl:T SZ=yW KA):WF T acn Gv:=by
 refine b7 λ(s,l,s2,Z,ls,x,to)=>cq λY=>⟨rfl,b6 ?_⟩;simp only[acn,Gu,bX];obtain⟨a6,⟨vL,gb⟩,L,eZ⟩:=Y;unfold lI;simp only[go_sem,go_sem_proc,xl,aj]
 refine cX [3,4,8,10,11,15,16] [396006,396008] (λ((i,f,b):Nat×ax×Bool) tm m=>i<=D ls/\okF f/\s9 x to ls (((s,l),(s2,Z)),true)=s9 x to (ls.drop i) (f,b)/\tm 17=.J (.int .i64 i)/\m 396004=some (0,ju f)/\m 396010=some (0,[.J (.bool b)])) (λ(i,_)=>D ls-i) (0,((s,l),(s2,Z)),true) (by
  refine⟨dG _,a6,rfl,rfl,?_,?_⟩
  ·simp[aV,ju]
  ·simp[aV]) ?_
 intro vs ms aK aF;simp only[go_sem,go_sem_proc,xl,aj] at aK aF;subst aK aF;rintro⟨i,f,b⟩ tm m R hm ⟨ab,al,a7,h0,ft,ij⟩;simp only[go_sem,go_sem_proc,xl,bl] at R hm;obtain⟨ej,s8,fR,hN,lu,KC,AU⟩:=R;obtain⟨gB,g3⟩:=hm;rcases du (i<D ls) with aq|bD
 ·obtain⟨⟨a,c,⟨w1,gF⟩,⟨bL,ht⟩⟩,dt⟩:∃l,ls[i]?=some l:=⟨_,bf aq⟩;have pa:=gb _ (cL dt);have ui:=eZ _ (cL dt);dsimp only at pa ui
  have k3:ls.drop i=(a,c,((w1,gF),(bL,ht)))::ls.drop (i+1):=by
   obtain⟨ag,e⟩:=dL.1 dt;rw[gx ag,e]
  rw[k3] at a7;simp only[s9] at a7;have d1:decide ((i:Int)<(D ls:Int))=true:=c7;have pb:=e2 (i:=i) (by omega);rcases jg:(c==to)
  ·rw[jg] at a7;simp only[eO,cE,if_false] at a7;refine ah ?_;repeat' (intro h<;>simp only[h,go_sem,go_sem_proc,xl,ej,s8,fR,hN,lu,KC,AU,h0,ft,gB,g3,ij,dt,d1,pb,jg,fh,av,aj,bg]<;>try refine ae ?_ ?_)
   exact⟨(i+1,f,b),by dsimp only;omega,by dsimp only;omega,al,a7,rfl,rfl,rfl⟩
  ·rw[jg] at a7;rcases b
   ·simp only[iZ,cE,if_false] at a7;refine ah ?_;repeat' (intro h<;>simp only[h,go_sem,go_sem_proc,xl,ej,s8,fR,hN,lu,KC,AU,h0,ft,gB,g3,ij,dt,d1,pb,jg,fh,av,aj,bg]<;>try refine ae ?_ ?_)
    exact⟨(i+1,f,false),by dsimp only;omega,by dsimp only;omega,al,a7,rfl,rfl,rfl⟩
   ·simp only[KD,if_true] at a7;have Da:c=to:=by simpa using jg
    obtain⟨ta,gE⟩:=ui Da
    have e6:∀mem:Mem,mem 396006=m 396006->mem 396004=m 396004->mem 396010=m 396010->KA [.agg [.J (.int .i64 a),.J (.int .i64 c),.J (.int .i64 w1),.J (.ar (gF.map aI)),.J (.int .i64 bL),.J (.ar (ht.map aI))],.ptr 396006 0 0,.ptr 396004 0 0,.ptr 396010 0 0] mem=some (Gs ⟨(a,c,((w1,gF),(bL,ht))),x,(f,true)⟩ mem):=λmem aQ az eT =>
     arz ⟨(a,c,((w1,gF),(bL,ht))),x,(f,true)⟩ mem ⟨aQ.trans gB,az.trans ft,eT.trans ij,pa,L,al,ta,gE⟩
    have rC:=aeQ x (a,c,((w1,gF),(bL,ht))) (f,true);generalize dg:xk x (a,c,((w1,gF),(bL,ht))) (f,true)=S at *;simp only[go_sem,go_sem_proc,xl,ej,s8,fR,hN,lu,KC,AU,h0,ft,gB,g3,ij,dt,d1,pb,jg,fh,av,aj,bg];rw[e6 _ (by simp[aV]) (by simp[aV]) (by simp[aV])];simp only[go_sem,go_sem_proc,xl];intro xc m' ed;unfold Gs at ed;dsimp only at ed;rw[dg] at ed;obtain⟨arE,arF,rI⟩:=ed;have Gw:=rI 396006 (by decide) (by decide) (by decide);have aeS:=rI 396008 (by decide) (by decide) (by decide);simp only[go_sem,go_sem_proc,xl] at Gw aeS;refine ah ?_;repeat' (intro h<;>simp only[h,go_sem,go_sem_proc,xl,ej,s8,fR,hN,lu,KC,AU,h0,gB,g3,arE,Gw,aeS,arF,pb]<;>try refine ae ?_ ?_)
    exact⟨(i+1,S.1,S.2),by dsimp only;omega,by dsimp only;omega,rC,a7,rfl,rfl,rfl⟩
 ·have d1:decide ((i:Int)<(D ls:Int))=false:=df;have kH:ls.drop i=[]:=lj (by omega);rw[kH] at a7;rw[a7];simp only[s9];obtain⟨⟨f1,f2⟩,⟨f3,f4⟩⟩:=f;simp only[ju] at ft;refine ah ?_;repeat' (intro h<;>simp only[h,go_sem,go_sem_proc,xl,ej,s8,fR,hN,lu,KC,AU,h0,ft,gB,g3,ij,d1,av,aj]<;>try refine ae ?_ ?_)
def hi:ax:=ee ((0:Int):Rat)
def kp:ax:=ee ((1:Int):Rat)
def aeT {n:Int}(h:n.natAbs<=1):ns ((n:Int):Rat):=by
 refine⟨?_,?_⟩
 ·rw[Rat.num_intCast];exact yy h (by unfold cY;exact aeU (by omega) (by omega))
 ·rw[Rat.den_intCast];unfold cY;exact aeU (by omega) (by omega)
def xm:okF hi:=UB (aeT (by decide))
def Db:okF kp:=UB (aeT (by decide))
def n0 (to:Int):List cn->List ax->List ax×Bool
 | [],A=>(A,true)
 |l::r,A=>if (l.2.1==to)=true then (if ((kn (A.getD l.1.toNat bC) l.2.2).2==0)=true then n0 to r (A.set l.1.toNat (kn (A.getD l.1.toNat bC) l.2.2).1) else ([],false)) else n0 to r A
def oA (n to:Nat):List ax:=(ch n hi).set to kp
def mG (v:ax)(ls:List cn)(n to:Nat):cb×Bool:=if (n0 to ls (oA n to)).2=true then (((n0 to ls (oA n to)).1,v),true) else (([],bC),false)
def aeV (v:ax)(ls:List cn)(n to:Nat):Prop:=okF v/\qQ ls/\n<=40/\to<n/\∀l∈ls,l.2.1=to->0<=l.1/\l.1<n
abbrev Gx:Int×(List Int)×Int×(List Int)×(List cn)×Nat×Nat->List Data:=λ(s,l,s2,Z,ls,n,to)=>[.agg [.int .i64 s,.ar (l.map aI),.int .i64 s2,.ar (Z.map aI)],.ar (ls.map fh),.int .i64 n,.int .i64 to]
def KE:=bI Gx λ(s,l,s2,Z,ls,n,to)=>ca (aeV ((s,l),(s2,Z)) ls n to) (.same (.dq [.agg (cG (mG ((s,l),(s2,Z)) ls n to).1),.bool (mG ((s,l),(s2,Z)) ls n to).2]))
def aeW:∀a b,Gx a=Gx b->a=b:=by
  rintro⟨s1,hZ,tY,sG,y5,rb,arB⟩ ⟨s2,Z,tZ,sH,y6,re,arC⟩ h;simp only[bl,Data.agg.injEq,Data.int.injEq,Data.ar.injEq] at h;exact cz h.1.1.2 (cz (map_inj fX _ _ h.1.2.1) (cz h.1.2.2.1.2 (cz (map_inj fX _ _ h.1.2.2.2.1) (cz (map_inj uy _ _ h.2.1) (cz (by have:=h.2.2.1.2;dsimp only;omega) (by have:=h.2.2.2.1.2;dsimp only;omega))))))
@[go_sem] def Wa (s l s2 Z ls n to):=cl KE rfl aeW (s,l,s2,Z,ls,n,to) rfl
def arG (T:bj)(e8:T tL=aG CR)(pc:T EN=aG Kb)(sR:T BU=aG Cw):WF T acm KE:=by
 refine b7 λ(s,l,s2,Z,ls,n,to)=>cq λY=>⟨rfl,b6 ?_⟩;simp only[acm,Gx,bX];obtain⟨a6,⟨vL,gb⟩,aC,Dc,eZ⟩:=Y;have a2:=F7 0 (by unfold dY;omega);have F:=F7 1 (by unfold dY;omega);rw[show ee ((0:Int):Rat)=hi from rfl] at a2;rw[show ee ((1:Int):Rat)=kp from rfl] at F;have Dd:=xm;have vM:=Db;have De:oA n to=(ch n hi).set to kp:=rfl;generalize hi=nb at *;generalize kp=aw at *;obtain⟨⟨iP,je⟩,⟨kL,kM⟩⟩:=nb;obtain⟨⟨kq,jK⟩,⟨pd,pe⟩⟩:=aw;simp only[av] at a2 F;have q8:=adv iP je kL kM n (by omega)
 have iK:(ch n (av ((iP,je),(kL,kM)))).flatten.map I.J=aS av (ch n ((iP,je),(kL,kM))):=by
  unfold aS;rw[CM]
 have t1:=uj (l:=ch n ((iP,je),(kL,kM))) (k:=to) (by rw[hs];exact Dc);have t2:=yZ (l:=ch n ((iP,je),(kL,kM))) (k:=to) (by rw[hs];exact Dc) kq jK pd pe;rw[<-De] at t2;have jG:(oA n to).length=n:=by rw[De,fk,hs]
 have mE:∀f∈oA n to,okF f:=λf al=>by
  rw[De] at al;rcases nW al with al|rfl
  ·rw[pM] at al;rw[al.2];exact Dd
  ·exact vM
 unfold mG;generalize oA n to=KF at *;simp only[go_sem,go_sem_proc,e8,pc,sR,a2,F,q8,iK,t1,t2,Dc,aj,hs]
 refine cX [3,8,10,26,27] [395004,395008] (λ((i,A):Nat×List ax) tm m=>i<=D ls/\D A=n/\(∀f∈A,okF f)/\n0 to ls KF=n0 to (ls.drop i) A/\tm 28=.J (.int .i64 i)/\m 395010=some (0,.ref 395018 0 4 0 n::ju ((s,l),(s2,Z)))/\m 395018=some (0,aS av A)) (λ(i,_)=>D ls-i) (0,KF) (by
  refine⟨dG _,jG,mE,rfl,rfl,?_,?_⟩
  ·simp[aV,ju]
  ·simp[aV]) ?_
 intro vs ms aK aF;simp only[go_sem,go_sem_proc,e8,pc,sR,aj] at aK aF;subst aK aF;rintro⟨i,A⟩ tm m R hm ⟨ab,Df,p4,a7,Px,ij,zb⟩;simp only[go_sem,go_sem_proc,e8,pc,sR,bl] at R hm;obtain⟨ej,fR,hN,mH,Py⟩:=R;obtain⟨ft,g3⟩:=hm;simp only[ju] at ij;rcases du (i<D ls) with aq|bD
 ·obtain⟨⟨a,c,⟨w1,gF⟩,⟨bL,ht⟩⟩,dt⟩:∃l,ls[i]?=some l:=⟨_,bf aq⟩;have pa:=gb _ (cL dt);have ui:=eZ _ (cL dt);dsimp only at pa ui
  have k3:ls.drop i=(a,c,((w1,gF),(bL,ht)))::ls.drop (i+1):=by
   obtain⟨ag,e⟩:=dL.1 dt;rw[gx ag,e]
  rw[k3] at a7;simp only[n0] at a7;have d1:decide ((i:Int)<(D ls:Int))=true:=c7;have pb:=e2 (i:=i) (by omega);rcases jg:(c==(to:Int))
  ·rw[jg] at a7;simp only[cE,if_false] at a7;refine ah ?_;repeat' (intro h<;>simp only[h,go_sem,go_sem_proc,e8,pc,sR,ej,fR,hN,mH,Py,Px,ft,g3,ij,zb,dt,d1,pb,jg,fh,av,aj,bg]<;>try refine ae ?_ ?_)
   exact⟨(i+1,A),by dsimp only;omega,by dsimp only;omega,Df,p4,a7,rfl,rfl,rfl⟩
  ·rw[jg] at a7;simp only[if_true] at a7;have Da:c=to:=by simpa using jg
   obtain⟨ta,gE⟩:=ui Da;obtain⟨j,rfl⟩:=vJ ta;have aa:j<n:=by omega
   obtain⟨⟨⟨dA,dJ⟩,⟨ep,eB⟩⟩,tb⟩:∃f,A[j]?=some f:=⟨_,bf (by omega)⟩;have hr:=p4 _ (cL tb);have qk:A.getD j bC=((dA,dJ),(ep,eB)):=by rw[dH,tb];rfl
   rw[lX,qk] at a7;have rC:=FQ ((dA,dJ),(ep,eB)) ((w1,gF),(bL,ht));have ck:=CH tb;have dC:=uj (l:=A) (k:=j) (by omega);generalize cW:kn ((dA,dJ),(ep,eB)) ((w1,gF),(bL,ht))=S at *;obtain⟨⟨⟨v1,v2⟩,⟨fg,v4⟩⟩,e⟩:=S;dsimp only at a7 rC;have gv:=yZ (l:=A) (k:=j) (by omega) v1 v2 fg v4;rcases he:(e==0)
   ·rw[he] at a7;simp only[cE,if_false] at a7;rw[a7];simp only[cE,if_false];refine ah ?_;repeat' (intro h<;>simp only[h,go_sem,go_sem_proc,e8,pc,sR,ej,fR,hN,mH,Py,Px,ft,g3,ij,zb,dt,d1,pb,jg,aa,cW,ck,dC,hr.1,hr.2,pa.1,pa.2,he,fh,cG,bC,cR,av,bP,aj,bg,ne_eq,not_false_eq_true,decide_true,decide_false]<;>try refine ae ?_ ?_)
   ·rw[he] at a7;simp only[if_true] at a7;refine ah ?_;repeat' (intro h<;>simp only[h,go_sem,go_sem_proc,e8,pc,sR,ej,fR,hN,mH,Py,Px,ft,g3,ij,zb,dt,d1,pb,jg,aa,cW,ck,dC,gv,hr.1,hr.2,pa.1,pa.2,he,fh,cR,av,aj,bg,ne_eq,not_false_eq_true,decide_true,decide_false]<;>try refine ae ?_ ?_)
    refine⟨(i+1,A.set j ((v1,v2),(fg,v4))),by dsimp only;omega,by dsimp only;omega,by rw[fk];exact Df,λf al=>?_,a7,rfl,rfl,rfl⟩
    rcases nW al with al|rfl
    ·exact p4 f al
    ·exact rC
 ·have d1:decide ((i:Int)<(D ls:Int))=false:=df;have kH:ls.drop i=[]:=lj (by omega);rw[kH] at a7;rw[a7];simp only[n0,if_true];have eA:=jV (n:=3) (k:=395018) jt (mem:=aV m 395008 0 (.ref 395018 0 4 0 n::ju ((s,l),(s2,Z)))) (l:=A) (g:=0) (by rw[ko (by decide)];exact zb);rw[Df] at eA;simp only[ju] at eA;refine ah ?_;repeat' (intro h<;>simp only[h,go_sem,go_sem_proc,e8,pc,sR,ej,fR,hN,mH,Py,Px,ft,g3,ij,zb,d1,cG,av,aj]<;>try refine ae ?_ ?_)
  rw[eA]
  rfl
def kN (b:Bool):List Data:=[.bool b]
def Wb (b:Bool):(kN b).length=1:=rfl
def aeX (l:List Bool):aS kN l=l.map λb => .J (.bool b):=by
 induction l with
 |nil=>rfl
 |cons b l a4=>rw[u6,a4];rfl
def aeY {a b:List Bool}(h:aS kN a=aS kN b):a=b:=by
 rw[aeX,aeX] at h;exact map_inj (λa b h=>by cases h;rfl) _ _ h
def Wc {α:Type}{p:α->Bool}{l:List α}{i:Nat}{x:α}(L:l[i]?=some x)(h:p x=false):l.all p=false:=by
 rw[List.all_eq_false];exact⟨x,cL L,by simp[h]⟩
def Wd (to:Int):∀(ls:List cn) (A:List ax),(∀f∈A,okF f)->∀f∈(n0 to ls A).1,okF f
 | [],A,h=>h
 |l::r,A,h=>by
  unfold n0
  split
  ·split
   ·refine Wd to r _ λf al=>?_;rcases nW al with al|rfl
    ·exact h f al
    ·exact FQ _ _
   ·intro f al;cases al
  ·exact Wd to r A h
def We (to:Int):∀(ls:List cn) (A:List ax),(n0 to ls A).1.length<=D A
 | [],A=>c9 _
 |l::r,A=>by
  unfold n0
  split
  ·split
   ·have:=We to r (A.set l.1.toNat (kn (A.getD l.1.toNat bC) l.2.2).1);rwa [fk] at this
   ·exact dG _
  ·exact We to r A
def arH {n to:Nat}:∀f∈oA n to,okF f:=λf al=>by
 unfold oA at al;rcases nW al with al|rfl
 ·rw[pM] at al;rw[al.2];exact xm
 ·exact Db
def zc {v:ax}{ls:List cn}{n to:Nat}(ao:okF v)(aC:n<=40):lD (mG v ls n to).1:=by
 unfold mG
 split
 ·refine⟨⟨?_,Wd _ _ _ arH⟩,ao⟩;have:=We to ls (oA n to);unfold oA at this;rw[fk,hs] at this;dsimp only;unfold oA;omega
 ·exact⟨⟨by simp,λf al=>by cases al⟩,o2⟩
def mI (cap base:List ax)(ls:List cn)(left:List Bool)(i:Nat):cb×Bool:=if left.getD i false=true then mG (base.getD i bC) ls (D cap) i else mG (cap.getD i bC) [] (D cap) i
def allEq (cap base:List ax)(ls:List cn)(left:List Bool):List (cb×Bool):=(qj (D cap)).map (mI cap base ls left)
def tc (cap base:List ax)(ls:List cn)(left:List Bool):List ax×Bool :=
 if (allEq cap base ls left).all (·.2)=true then ((mF ((allEq cap base ls left).map (·.1)) (D cap)).1,(mF ((allEq cap base ls left).map (·.1)) (D cap)).2==0) else ([],false)
structure KG where
 cap:List ax
 base:List ax
 ls:List cn
 left:List Bool
def AV (cap base:List ax)(ls:List cn):I:=.agg [.J (.ar (cap.map av)),.J (.ar (base.map av)),.J (.ar (ls.map fh))]
structure Wf (a:KG) (mem:Mem):Prop where
 at_:mem 394022=some (0,aS kN a.left)
 no:Pt 403 mem
 FG:ox a.cap a.base a.ls
 aA9:(D a.cap)<=40
 NQ:(D a.base)=D a.cap
 aBa:(D a.left)=D a.cap
 aBb:∀l∈a.ls,0<=l.1/\l.1<D a.cap
def KH (a:KG):Data:=.dq [.ar ((tc a.cap a.base a.ls a.left).1.map av),.bool (tc a.cap a.base a.ls a.left).2]
def Wg:List I->Mem->Option Data:=Ky (λ(a:KG) args mem=>args=[AV a.cap a.base a.ls,.ref 394022 0 1 0 (D a.cap)]/\Wf a mem) KH
def arI {cap base Rr aeZ:List ax}{ls ae0:List cn}(h:AV cap base ls=AV Rr aeZ ae0):cap=Rr/\base=aeZ/\ls=ae0:=by
 simp only[AV,I.agg.injEq,bl,I.J.injEq,Data.ar.injEq,and_true] at h;exact⟨map_inj j1 _ _ h.1,map_inj j1 _ _ h.2.1,map_inj uy _ _ h.2.2⟩
def arJ (a:KG)(mem:Mem)(h:Wf a mem):Wg [AV a.cap a.base a.ls,.ref 394022 0 1 0 (D a.cap)] mem=some (KH a):=by
 refine are (a:=a) ?_ ⟨rfl,h⟩;rintro a b args mem ⟨aQ,az⟩ ⟨eT,iA⟩;rw[aQ] at eT;simp only[bl] at eT;obtain⟨F,G,ad⟩:=arI eT.1;have aZ:=az.at_;rw[iA.at_] at aZ;simp only[bO,eM,true_and] at aZ;obtain⟨c,eG,l,f⟩:=a;obtain⟨kB,cB,mR,AJ⟩:=b;dsimp only at *;subst F G ad;have bw:AJ=f:=aeY aZ;rw[bw]
def xn {l:List Bool}{k:Nat}{b:Bool}(h:l[k]?=some b):mZ 1 (nL k (aS kN l))=[.J (.bool b)]:=by
 have:=EF (enc:=kN) Wb h (f:=0) (n:=1) (by decide);unfold cut at this;rw[dM,lo] at this
 split at this
 ·simpa [kN] using this
 ·cases this
def uB {l:List Bool}{k:Nat}(h:k<D l):(k+1<=(aS kN l).length)=True:=eq_true (by rw[jU Wb];omega)
def arK (T:bj)(p5:T IV=aG KE)(p6:T IA=aG J9)(a:KG)(mem:Mem)(bc:Wf a mem):
  wp T Om.body (uf Om.res λm mem'=>cN 6 emp m=some (KH a)/\dP 403 mem mem') ⟨ke [AV a.cap a.base a.ls,.ref 394022 0 1 0 (D a.cap)],mem⟩:=by
 obtain⟨ha,h6,⟨⟨eb,ny⟩,⟨mq,nz⟩,nA⟩,aC,U,ag,eZ⟩:=bc;obtain⟨cap,base,ls,left⟩:=a;dsimp only at *;unfold AV KH tc;dsimp only;have jG:(allEq cap base ls left).length=D cap:=by unfold allEq;rw[aj,tF]
 have uC:∀i,i<(D cap)->(allEq cap base ls left)[i]?=some (mI cap base ls left i):=λi ab=>by
  unfold allEq;rw[bg,r3 ab]
  rfl
 have p4:∀x∈allEq cap base ls left,lD x.1:=λx L=>by
  unfold allEq at L;rw[h7] at L;obtain⟨i,ab,rfl⟩:=L;rw[BN] at ab;have aQ:okF (cap.getD i bC):=by rw[dH,bf ab];exact ny _ (hb ab)
  have az:okF (base.getD i bC):=by rw[dH,bf (by omega)];exact nz _ (hb (by omega))
  unfold mI
  split
  ·exact zc az aC
  ·exact zc aQ aC
 generalize fa:allEq cap base ls left=A at *;refine xY ?_;simp only[Om];simp only[go_sem,go_sem_proc,aj]
 refine cX [1,2,6,18] [403002,394022] (λ((i,g):Nat×Nat) tm m=>i<=D cap/\(A.take i).all (·.2)=true/\tm 19=.J (.int .i64 i)/\tm 7=.ref 403051 g 5 0 i/\m 403051=some (g,aS cG ((A.take i).map (·.1)))/\dP 403 mem m) (λ(i,_)=>D cap-i) (0,0) (by
  refine⟨dG _,by simp,rfl,?_,?_,?_⟩
  ·simp[gM,h6 403051 (by decide),aV]
  ·simp[aV,aS,gM,h6 403051 (by decide)]
  ·repeat first|exact dP.refl _ _|refine dP.ea ?_ (by decide)) ?_
 intro vs ms aK aF;simp only[go_sem,go_sem_proc,ha,aj] at aK aF;subst aK aF;rintro⟨i,g⟩ tm m R hm ⟨ab,cZ,sB,bM,Dg,dr⟩;simp only[go_sem,go_sem_proc,bl] at R hm;obtain⟨bo,c5,dp,Gy⟩:=R;obtain⟨b0,k8⟩:=hm;rcases du (i<D cap) with aq|bD
 ·have d1:decide ((i:Int)<(D cap:Int))=true:=c7;have bL:=e2 (i:=i) (by omega);obtain⟨⟨⟨ck,dC⟩,⟨gv,iF⟩⟩,dh⟩:∃f,cap[i]?=some f:=⟨_,bf aq⟩;obtain⟨⟨⟨bT,cB⟩,⟨et,eD⟩⟩,eJ⟩:∃f,base[i]?=some f:=⟨_,bf (by omega)⟩;obtain⟨j5,dt⟩:∃f,left[i]?=some f:=⟨_,bf (by omega)⟩;have xo:=ny _ (cL dh);have zd:=nz _ (cL eJ);have gc:cap.getD i bC=((ck,dC),(gv,iF)):=by rw[dH,dh];rfl
  have qR:base.getD i bC=((bT,cB),(et,eD)):=by rw[dH,eJ];rfl
  have gl:left.getD i false=j5:=by rw[dH,dt];rfl
  have hU:=xn dt;have g5:=uB (l:=left) (k:=i) (by omega);have vN:=uC i aq;have xp:=Wa ck dC gv iF [] (D cap) i ⟨xo,⟨by simp,λx L=>by cases L⟩,aC,aq,λl ag=>by cases ag⟩
  have ze:=Wa bT cB et eD ls (D cap) i ⟨zd,nA,aC,aq,λl ag _=>eZ l ag⟩
  have zf:mI cap base ls left i=if j5=true then mG ((bT,cB),(et,eD)) ls (D cap) i else mG ((ck,dC),(gv,iF)) [] (D cap) i:=by
   unfold mI;rw[gc,qR,gl]
  rw[bP] at xp;have oq:A.take (i+1)=A.take i++[mI cap base ls left i]:=by rw[ho,vN];rfl
  have Dh:(A.take (i+1)).all (·.2)=(mI cap base ls left i).2:=by rw[oq,Di,cZ];simp
  have zg:(A.take (i+1)).map (·.1)=(A.take i).map (·.1)++[(mI cap base ls left i).1]:=by rw[oq,pT];rfl
  have b9:((A.take i).map (·.1)).length=i:=by rw[aj,gk];omega
  have c1:=λ(bH:cb) cs iJ=>lq m6 (λ_=>rfl) 403051 g 88 ((A.take i).map (·.1)) bH (cs:=cs) iJ (by omega) (by omega);simp only[b9] at c1;have jW:(mI cap base ls left i).2=false->A.all (·.2)=false:=λh=>Wc vN h;clear fa uC;rcases j5
  ·simp only[cE,if_false] at zf;rw[<-zf] at xp;generalize mI cap base ls left i=db at *;obtain⟨⟨vO,⟨v1,v2⟩,⟨fg,v4⟩⟩,ok⟩:=db;simp only[cG,av] at xp;rcases ok
   ·rw[jW rfl];simp only[cE,if_false];refine ah ?_;repeat' (intro (ai:_=_)<;>simp only[ai,go_sem,go_sem_proc,p5,p6,bo,c5,dp,Gy,sB,bM,b0,k8,Dg,d1,bL,dh,eJ,dt,hU,g5,aq,dM,xp,av,aj,bg]<;>try refine ae ?_ ?_)
    exact⟨_,rfl,rfl,by repeat first|exact dr|refine dP.ea ?_ (by decide)⟩
   ·have jh:=c1 (vO,((v1,v2),(fg,v4))) _ rfl;simp only[cG,av,g0,bP] at jh;rw[<-zg] at jh;refine ah ?_;repeat' (intro (ai:_=_)<;>simp only[ai,go_sem,go_sem_proc,p5,p6,bo,c5,dp,Gy,sB,bM,b0,k8,Dg,d1,bL,dh,eJ,dt,hU,g5,aq,dM,xp,jh,av,aj,bg]<;>try refine ae ?_ ?_)
    exact⟨(i+1,g+1),by dsimp only;omega,by dsimp only;omega,Dh,rfl,rfl,rfl,by repeat first|exact dr|refine dP.ea ?_ (by decide)⟩
  ·simp only[if_true] at zf;rw[<-zf] at ze;generalize mI cap base ls left i=db at *;obtain⟨⟨vO,⟨v1,v2⟩,⟨fg,v4⟩⟩,ok⟩:=db;simp only[cG,av] at ze;rcases ok
   ·rw[jW rfl];simp only[cE,if_false];refine ah ?_;repeat' (intro (ai:_=_)<;>simp only[ai,go_sem,go_sem_proc,p5,p6,bo,c5,dp,Gy,sB,bM,b0,k8,Dg,d1,bL,dh,eJ,dt,hU,g5,aq,dM,ze,av,aj,bg]<;>try refine ae ?_ ?_)
    exact⟨_,rfl,rfl,by repeat first|exact dr|refine dP.ea ?_ (by decide)⟩
   ·have jh:=c1 (vO,((v1,v2),(fg,v4))) _ rfl;simp only[cG,av,g0,bP] at jh;rw[<-zg] at jh;refine ah ?_;repeat' (intro (ai:_=_)<;>simp only[ai,go_sem,go_sem_proc,p5,p6,bo,c5,dp,Gy,sB,bM,b0,k8,Dg,d1,bL,dh,eJ,dt,hU,g5,aq,dM,ze,jh,av,aj,bg]<;>try refine ae ?_ ?_)
    exact⟨(i+1,g+1),by dsimp only;omega,by dsimp only;omega,Dh,rfl,rfl,rfl,by repeat first|exact dr|refine dP.ea ?_ (by decide)⟩
 ·have d1:decide ((i:Int)<(D cap:Int))=false:=df;have hz:i=D cap:=by omega
  subst hz;have k5:A.take (D cap)=A:=dF (by omega);rw[k5] at cZ Dg;rw[cZ];simp only[if_true]
  have ek:=adn (A.map (·.1)) (D cap) ⟨by rw[aj];omega,λr M=>by
   obtain⟨x,L,rfl⟩:=h7.1 M;exact p4 x L⟩
  have nc:=λ(K:a8->Prop) (st:a8)=>sl (K:=K) (st:=st) m6 7 403051 g (A.map (·.1));rw[aj,jG] at nc;generalize mF (A.map (·.1)) (D cap)=S at *;obtain⟨l6,e⟩:=S;dsimp only at ek ⊢;rcases he:(e==0)
  ·refine ah ?_;repeat' (intro (ai:_=_)<;>simp only[ai,go_sem,go_sem_proc,p5,p6,bo,c5,dp,Gy,sB,bM,b0,k8,Dg,d1,nc,ek,he,aj]<;>try refine ae ?_ ?_)
   exact⟨_,rfl,rfl,by repeat first|exact dr|refine dP.ea ?_ (by decide)|refine dP.kill ?_ (by decide)⟩
  ·refine ah ?_;repeat' (intro (ai:_=_)<;>simp only[ai,go_sem,go_sem_proc,p5,p6,bo,c5,dp,Gy,sB,bM,b0,k8,Dg,d1,nc,ek,he,aj]<;>try refine ae ?_ ?_)
   exact⟨_,rfl,rfl,by repeat first|exact dr|refine dP.ea ?_ (by decide)|refine dP.kill ?_ (by decide)⟩
def ae1 {rs:List cb}{n:Int}(a6:qK rs):ih (mF rs n).1/\((mF rs n).2=0->(mF rs n).1.length=D rs):=by
 have aC:ih ([]:List ax):=⟨by simp,λf al=>by cases al⟩
 unfold mF
 split
 ·rename_i M;obtain⟨-,KI,mT⟩:=J8 a6 M;have dy:=adl (stop:=true) mT
  split
  ·exact⟨aC,λh=>by cases h⟩
  ·split
   ·exact⟨aC,λh=>by cases h⟩
   ·refine⟨⟨?_,λf al=>?_⟩,λ_=>?_⟩
    ·rw[aj,dy.len];omega
    ·obtain⟨x,L,rfl⟩:=h7.1 al;obtain⟨F,G⟩:=dy.row x L;have aN:x.2.2[D rs]?=some x.2.2[D rs]:=bf (by omega);rw[adm aN];exact G _ (cL aN)
    ·rw[aj,dy.len]
 ·exact⟨aC,λh=>by cases h⟩
def KJ (x:List ax)(to:Int):∀(ls:List cn) (s:ax×Bool),okF s.1->okF (s9 x to ls s).1
 | [],s,h=>h
 |l::r,s,h=>by
  unfold s9
  split
  ·exact KJ x to r _ (aeQ x l s)
  ·exact KJ x to r s h
def Pz {cap base:List ax}{ls:List cn}{left:List Bool}(Y:∀f∈cap,okF f)(U:∀f∈base,okF f)(ag:(D base)=D cap)(aC:(D cap)<=40):ih (tc cap base ls left).1/\((tc cap base ls left).2=true->(tc cap base ls left).1.length=D cap):=by
 unfold tc
 split
 ·have fa:qK ((allEq cap base ls left).map (·.1)):=by
   unfold allEq;refine⟨by rw[aj,aj,tF];omega,λr M=>?_⟩
   rw[List.map_map] at M;obtain⟨i,ab,rfl⟩:=h7.1 M;rw[BN] at ab;have aQ:okF (cap.getD i bC):=by rw[dH,bf ab];exact Y _ (hb ab)
   have az:okF (base.getD i bC):=by rw[dH,bf (by omega)];exact U _ (hb (by omega))
   simp only[Function.comp];unfold mI
   split
   ·exact zc az aC
   ·exact zc aQ aC
  obtain⟨F,G⟩:=ae1 (n:=(D cap:Int)) fa;refine⟨F,λh=>?_⟩;rw[G (by simpa using h),aj];unfold allEq;rw[aj,tF]
 ·exact⟨⟨by simp,λf al=>by cases al⟩,λh=>by cases h⟩
def oB (cap base:List ax)(ls:List cn)(left:List Bool)(x:List ax):Nat->Nat->List Nat->Option (List Nat)
 |0,_,acc=>some acc
 |k+1,i,acc=>if left.getD i false=true then oB cap base ls left x k (i+1) acc else
  if (lI (base.getD i bC) ls x i).2=true then (if decide (lC (lI (base.getD i bC) ls x i).1 (cap.getD i bC)<0)=true then oB cap base ls left x k (i+1) (acc++[i]) else oB cap base ls left x k (i+1) acc) else none
def lJ (left:List Bool)(lv:List Nat):List Bool:=lv.foldl (λl i=>l.set i true) left
def PA (lv:List Nat):∀left:List Bool,(lJ left lv).length=D left:=by
 induction lv with
 |nil=>intro left;rfl
 |cons i lv a4=>intro left;show (lJ (left.set i true) lv).length=_;rw[a4,fk]
def ae2 (left:List Bool)(a b:List Nat):lJ left (a++b)=lJ (lJ left a) b:=List.foldl_append
def arL (lv:List Nat):∀left:List Bool,(lJ left lv).count false<=left.count false:=by
 induction lv with
 |nil=>intro left;exact c9 _
 |cons i lv a4 =>
  intro left;refine iG (a4 (left.set i true)) ?_;rcases gY i (D left) with h|h
  ·rw[ae3 h];have:((true==false)=true)=False:=by simp
   simp only[this,if_false];omega
  ·rw[List.set_eq_of_length_le h];exact c9 _
def Wh {left:List Bool}{i:Nat}{lv:List Nat}(ab:i<D left)(h:left.getD i false=false):(lJ left (i::lv)).count false<left.count false:=by
 have F:=arL lv (left.set i true);have G:left[i]=false:=by rw[dH,bf ab] at h;exact h
 have ad:0<left.count false:=List.count_pos_iff.2 (G ▸ hb ab);rw[ae3 ab,G] at F;have:((true==false)=true)=False:=by simp
 simp only[this,if_false,beq_self_eq_true,if_true] at F;show (lJ (left.set i true) lv).count false<_;omega
def KK {cap base:List ax}{ls:List cn}{left:List Bool}{x:List ax}:∀(k i:Nat) (acc lv:List Nat),oB cap base ls left x k i acc=some lv->∀j∈lv,j∈acc\/(i<=j/\j<i+k/\left.getD j false=false)
 |0,i,acc,lv,h,j,aa=>by
  simp only[oB,bO] at h;subst h;exact .inl aa
 |k+1,i,acc,lv,h,j,aa=>by
  unfold oB at h
  split at h
  ·rcases KK k (i+1) acc lv h j aa with F|⟨F,G,ad⟩
   ·exact .inl F
   ·exact .inr ⟨by omega,by omega,ad⟩
  ·rename_i ag
   split at h
   ·split at h
    ·rcases KK k (i+1) _ lv h j aa with F|⟨F,G,ad⟩
     ·simp only[List.mem_append,sE] at F;rcases F with F|rfl
      ·exact .inl F
      ·exact .inr ⟨c9 _,by omega,by simpa using ag⟩
     ·exact .inr ⟨by omega,by omega,ad⟩
    ·rcases KK k (i+1) acc lv h j aa with F|⟨F,G,ad⟩
     ·exact .inl F
     ·exact .inr ⟨by omega,by omega,ad⟩
   ·cases h
def PB {cap base:List ax}{ls:List cn}{left:List Bool}{x:List ax}:∀(k i:Nat) (acc lv:List Nat),oB cap base ls left x k i acc=some lv->(D lv)<=D acc+k
 |0,i,acc,lv,h=>by
  simp only[oB,bO] at h;subst h;exact c9 _
 |k+1,i,acc,lv,h=>by
  unfold oB at h
  split at h
  ·have:=PB k (i+1) acc lv h;omega
  ·split at h
   ·split at h
    ·have:=PB k (i+1) _ lv h;rw[ks,Wi] at this;omega
    ·have:=PB k (i+1) acc lv h;omega
   ·cases h
def pf (cap base:List ax)(ls:List cn):Nat->List Bool->List (List Nat)->List ax×List (List Nat)×Int
 |0,_,_=>([],[],6)
 |k+1,left,rounds=>if (tc cap base ls left).2=true then (match oB cap base ls left (tc cap base ls left).1 (D cap) 0 [] with
  |none=>([],[],6)
  |some []=>((tc cap base ls left).1,rounds,0)
  |some (i::lv)=>pf cap base ls k (lJ left (i::lv)) (rounds++[i::lv])) else ([],[],6)
def l7 (cap base:List ax)(ls:List cn):List ax×List (List Nat)×Int:=if o6 cap base ls=true then pf cap base ls (D cap+1) (ch (D cap) false) [] else ([],[],1)
def p7 (l:List Nat):List Data:=[.ar (l.map nx)]
def PC (l:List Nat):(p7 l).length=1:=rfl
def ae4 (l:List Nat):((p7 l).map I.J).all I.one=true:=rfl
def l8 (s:List ax×List (List Nat)×Int):Data:=.dq [.ar (s.1.map av),.ar (s.2.1.map p7),.int .i64 s.2.2]
def xq {cap base:List ax}{ls:List cn}(h:o6 cap base ls=true):(D base)=D cap/\D cap<=40/\D ls<=400/\(∀l∈ls,0<=l.1/\l.1<D cap/\0<=l.2.1/\l.2.1<D cap/\g4 l.2.2=true)/\(∀f∈cap,g4 f=true)/\∀f∈base,g4 f=true:=by
 unfold o6 ow at h;simp only[ff,vB,decide_eq_false_iff_not,beq_iff_eq,sN] at h;obtain⟨F,⟨G,ad,aZ,bw⟩,bA,bM⟩:=h;refine⟨by omega,by omega,by omega,λl ag=>?_,λf al=>by simpa using bA f al,λf al=>by simpa using bM f al⟩
 have:=bw l ag;unfold pV at this;simp only[tA,decide_eq_true_eq,vB,not_or,ae5] at this;obtain⟨dx,dW,hR,jf,CW⟩:=this;exact⟨by omega,by omega,by omega,by omega,CW⟩
def PD (n:Nat):(ch n [I.J (.bool false)]).flatten=aS kN (ch n false):=by
 unfold aS;rw[CM]
 induction n with
 |zero=>rfl
 |succ n a4=>rw[qn,mg,a4,qn,mg,pT];rfl
def PF {l:List Bool}{k:Nat}(h:k<D l)(b:Bool):mZ k (aS kN l)++[I.J (.bool b)]++nL (k+1) (aS kN l)=aS kN (l.set k b):=by
 have:=Nd (enc:=kN) Wb h b;rw[dM] at this;rw[<-this]
 rfl
def ae6 {l:List Nat}{k:Nat}{b:Nat}(h:l[k]?=some b):mZ 1 (nL k (aS nx l))=[.J (.int .i64 b)]:=by
 have:=EF (enc:=nx) xb h (f:=0) (n:=1) (by decide);unfold cut at this;rw[dM,lo] at this
 split at this
 ·simpa [nx] using this
 ·cases this
def ae7 {l:List Nat}{k:Nat}(h:k<D l):(k+1<=(aS nx l).length)=True:=eq_true (by rw[jU xb];omega)
def Dj:=bI pW λ(cap,base,ls)=>ca (ox cap base ls) (.same (l8 (l7 cap base ls)))
@[go_sem] def PG (cap base ls):=cl Dj rfl CQ (cap,base,ls) rfl
def arM (T:bj)(eU:T B4=aG F6)(oC:T S0=Kx Wg)(gR:T B2=aG Gv)(gS:T z6=aG FF):WF T ack Dj:=by
 refine b7 λ(cap,base,ls)=>cq λY=>⟨rfl,b6 ?_⟩;simp only[ack,pW,bX];unfold l7;rcases M:o6 cap base ls
 ·simp only[cE,if_false];refine ah ?_;repeat' (intro (ai:_=_)<;>simp only[ai,go_sem,go_sem_proc,eU,oC,gR,gS,Y,M,l8,bP]<;>try refine ae ?_ ?_)
 ·simp only[if_true];obtain⟨U,aC,-,eZ,-,-⟩:=xq M;have j6:=Y;obtain⟨⟨eb,ny⟩,⟨mq,nz⟩,nA⟩:=Y;have y3:(D cap*1<=140737488355328)=True:=eq_true (by omega);have Dk:(1*D cap<=140737488355328)=True:=eq_true (by omega);have y4:(D cap<=maxLen)=True:=eq_true (by unfold maxLen;omega);have Dl:(D cap<=140737488355328)=True:=eq_true (by omega);have a2:=PD (D cap);generalize KL:pf cap base ls (D cap+1) (ch (D cap) false) []=SS;simp only[go_sem,go_sem_proc,eU,oC,gR,gS,j6,M,y3,Dk,y4,Dl,a2,aj]
  refine cX [1,5] [394001] (λ((k,left,rounds,g):Nat×List Bool×List (List Nat)×Nat) tm m=>D left=D cap/\left.count false<k/\D rounds+k<=D cap+1/\SS=pf cap base ls k left rounds/\tm 6=.ref 394085 g 1 0 (D rounds)/\m 394022=some (0,aS kN left)/\m 394085=some (g,aS p7 rounds)/\dP 394 emp m) (λ(k,_,_,_)=>k) (D cap+1,ch (D cap) false,[],0) (by
   refine⟨hs,by rw[ae8];exact KM _,by simp,KL.symm,rfl,?_,?_,?_⟩
   ·simp[aV]
   ·simp[aV,aS]
   ·repeat first|exact dP.refl _ _|refine dP.ea ?_ (by decide)) ?_
  intro vs ms aK aF;simp only[go_sem,go_sem_proc,eU,oC,gR,gS,aj] at aK aF;subst aK aF;rintro⟨k,left,rounds,g⟩ tm m R hm ⟨vL,PH,arN,a7,bA,k8,pg,dr⟩;simp only[go_sem,go_sem_proc,eU,oC,gR,gS,bl] at R hm;obtain⟨bo,c3⟩:=R;obtain⟨k,rfl⟩:∃k',k=k'+1:=⟨k-1,by omega⟩
  have ed:=arJ ⟨cap,base,ls,left⟩ m ⟨k8,λj aa=>(dr j (by omega)).trans rfl,j6,aC,U,vL,λl ag=>⟨(eZ l ag).1,(eZ l ag).2.1⟩⟩;simp only[AV,KH] at ed;obtain⟨Gz,Dm⟩:=Pz (ls:=ls) (left:=left) ny nz U aC;rw[pf] at a7;generalize tc cap base ls left=X at *;obtain⟨GA,ok⟩:=X;dsimp only at ed Gz Dm a7;rcases ok
  ·simp only[cE,if_false] at a7;rw[a7];refine ah ?_;repeat' (intro (ai:_=_)<;>simp only[ai,go_sem,go_sem_proc,eU,oC,gR,gS,bo,c3,bA,hm,k8,pg,ed,l8,bP,aj]<;>try refine ae ?_ ?_)
  ·simp only[if_true] at a7;have Wj:=Dm rfl;simp only[go_sem,go_sem_proc,eU,oC,gR,gS,bo,c3,bA,hm,k8,pg,ed,aj]
   refine cX [1,5,6,7,32,33] [394001,394022,394085] (λ((i,acc,ph):Nat×List Nat×Nat) tm m=>i<=D cap/\D acc<=i/\oB cap base ls left GA (D cap) 0 []=oB cap base ls left GA (D cap-i) i acc/\tm 34=.J (.int .i64 i)/\tm 9=.ref 394065 ph 1 0 (D acc)/\m 394065=some (ph,aS nx acc)/\dP 394 emp m) (λ(i,_,_)=>D cap-i) (0,[],gM (m 394065)) (by
    refine⟨dG _,c9 _,rfl,rfl,rfl,?_,?_⟩
    ·simp[aV,aS]
    ·repeat first|exact dr|refine dP.ea ?_ (by decide)) ?_
   intro vs ms aK aF;simp only[go_sem,go_sem_proc,eU,oC,gR,gS,bo,c3,bA,hm,k8,pg,aj] at aK aF;subst aK aF;clear ed bA hm k8 pg dr bo c3 tm m;rintro⟨i,acc,ph⟩ tm m R hm ⟨ab,arO,eV,xd,di,vP,dr⟩;simp only[go_sem,go_sem_proc,eU,oC,gR,gS,bl] at R hm;obtain⟨bo,c3,dp,eE,Dn,Dp⟩:=R;obtain⟨aY,k8,pg⟩:=hm;rcases du (i<D cap) with aq|bD
   ·have d1:decide ((i:Int)<(D cap:Int))=true:=c7;have bL:=e2 (i:=i) (by omega);obtain⟨⟨⟨ck,dC⟩,⟨gv,iF⟩⟩,dh⟩:∃f,cap[i]?=some f:=⟨_,bf aq⟩;obtain⟨⟨⟨bT,cB⟩,⟨et,eD⟩⟩,eJ⟩:∃f,base[i]?=some f:=⟨_,bf (by omega)⟩;obtain⟨j5,dt⟩:∃f,left[i]?=some f:=⟨_,bf (by omega)⟩;have xo:=ny _ (cL dh);have zd:=nz _ (cL eJ);have gc:cap.getD i bC=((ck,dC),(gv,iF)):=by rw[dH,dh];rfl
    have qR:base.getD i bC=((bT,cB),(et,eD)):=by rw[dH,eJ];rfl
    have gl:left.getD i false=j5:=by rw[dH,dt];rfl
    have hU:=xn dt;have g5:=uB (l:=left) (k:=i) (by omega);have g2:(D cap)-i=(D cap-(i+1))+1:=by omega
    rw[g2] at eV;replace eV:=eV.trans (oB.eq_2 ..);rw[gl,gc,qR] at eV;rcases j5
    ·simp only[cE,if_false] at eV;have fo:=V9 bT cB et eD ls GA i ⟨zd,nA,Gz,λl ag _=>⟨(eZ l ag).1,by rw[Wj];exact (eZ l ag).2.1⟩⟩
     have AW:okF (lI ((bT,cB),(et,eD)) ls GA i).1:=KJ GA i ls _ zd;generalize lI ((bT,cB),(et,eD)) ls GA i=Gt at *;obtain⟨⟨⟨f1,f2⟩,⟨f3,f4⟩⟩,KB⟩:=Gt;dsimp only at eV AW;simp only[av] at fo;rcases KB
     ·simp only[cE,if_false] at eV;rw[eV] at a7;rw[a7];refine ah ?_;repeat' (intro (ai:_=_)<;>simp only[ai,go_sem,go_sem_proc,eU,oC,gR,gS,bo,c3,dp,eE,Dn,Dp,xd,di,aY,k8,pg,vP,d1,bL,dh,eJ,dt,hU,g5,aq,fo,l8,av,bP,dM,aj,bg]<;>try refine ae ?_ ?_)
     ·simp only[if_true] at eV;rcases eY:decide (lC ((f1,f2),(f3,f4)) ((ck,dC),(gv,iF))<0)
      ·rw[eY] at eV;simp only[cE,if_false] at eV;refine ah ?_;repeat' (intro (ai:_=_)<;>simp only[ai,go_sem,go_sem_proc,eU,oC,gR,gS,bo,c3,dp,eE,Dn,Dp,xd,di,aY,k8,pg,vP,d1,bL,dh,eJ,dt,hU,g5,aq,fo,eY,xo.1,xo.2,AW.1,AW.2,av,dM,aj,bg]<;>try refine ae ?_ ?_)
       exact⟨(i+1,acc,ph),by dsimp only;omega,by dsimp only;omega,by dsimp only;omega,eV,rfl,rfl,rfl,by repeat first|exact dr|refine dP.ea ?_ (by decide)⟩
      ·rw[eY] at eV;simp only[if_true] at eV;have c1:=lq xb UY 394065 ph 8 acc i (cs:=[.J (.int .i64 i)]) rfl (by omega) (by omega);have gE:(acc++[i]).length=D acc+1:=by simp
       refine ah ?_;repeat' (intro (ai:_=_)<;>simp only[ai,go_sem,go_sem_proc,eU,oC,gR,gS,bo,c3,dp,eE,Dn,Dp,xd,di,aY,k8,pg,vP,d1,bL,dh,eJ,dt,hU,g5,aq,fo,eY,c1,xo.1,xo.2,AW.1,AW.2,av,dM,aj,bg]<;>try refine ae ?_ ?_)
       exact⟨(i+1,acc++[i],ph+1),by dsimp only;omega,by dsimp only;omega,by dsimp only;omega,eV,rfl,by rw[gE],rfl,by repeat first|exact dr|refine dP.ea ?_ (by decide)⟩
    ·simp only[if_true] at eV;refine ah ?_;repeat' (intro (ai:_=_)<;>simp only[ai,go_sem,go_sem_proc,eU,oC,gR,gS,bo,c3,dp,eE,Dn,Dp,xd,di,aY,k8,pg,vP,d1,bL,dh,eJ,dt,hU,g5,aq,av,dM,aj,bg]<;>try refine ae ?_ ?_)
     exact⟨(i+1,acc,ph),by dsimp only;omega,by dsimp only;omega,by dsimp only;omega,eV,rfl,rfl,rfl,by repeat first|exact dr|refine dP.ea ?_ (by decide)⟩
   ·have d1:decide ((i:Int)<(D cap:Int))=false:=df;have hz:i=D cap:=by omega
    subst hz;rw[hG] at eV;replace eV:=eV.trans (oB.eq_1 ..);have gK:=KK _ _ _ _ eV;rw[eV] at a7
    cases acc with
    |nil =>
     dsimp only at a7;rw[a7];have eA:=jV (n:=4) PC pg;refine ah ?_;repeat' (intro (ai:_=_)<;>simp only[ai,go_sem,go_sem_proc,eU,oC,gR,gS,bo,c3,dp,eE,Dn,Dp,xd,di,aY,k8,pg,vP,d1,eA,l8,mV,aj,show (((0:Nat):Int)==0)=true from rfl]<;>try refine ae ?_ ?_)
    |cons i0 lv =>
     dsimp only at a7;have bq:((((i0::lv).length:Nat):Int)==0)=false:=by simp;omega
     have wM:i0<D cap/\left.getD i0 false=false:=by
      rcases gK i0 (by simp) with h|⟨-,F,G⟩
      ·cases h
      ·exact⟨by omega,G⟩
     have Wk:∀j∈i0::lv,j<D cap:=λj aa=>by
      rcases gK j aa with h|⟨-,F,G⟩
      ·cases h
      ·omega
     have jB:=Wh (left:=left) (i:=i0) (lv:=lv) (by omega) wM.2;generalize Br:i0::lv=eW at *;simp only[go_sem,go_sem_proc,eU,oC,gR,gS,bo,c3,dp,eE,Dn,Dp,xd,di,aY,k8,pg,vP,d1,bq,aj];refine cX [1,5,6,9,72,73] [394001,394065,394085] (λ(j:Nat) tm m=>j<=D eW/\tm 74=.J (.int .i64 j)/\m 394022=some (0,aS kN (lJ left (eW.take j)))/\dP 394 emp m) (λj=>D eW-j) 0 (by refine⟨dG _,rfl,k8,dr⟩) ?_;intro vs ms aK aF;simp only[go_sem,go_sem_proc,eU,oC,gR,gS,bo,c3,dp,eE,di,aY,pg,vP] at aK aF;subst aK aF;clear bo c3 dp eE Dn Dp xd di aY k8 pg vP dr tm m;rintro j tm m R hm ⟨aa,ae9,k8,dr⟩;simp only[go_sem,go_sem_proc,eU,oC,gR,gS,bl] at R hm;obtain⟨bo,c3,dp,pO,afa,Dq⟩:=R;obtain⟨aY,vP,pg⟩:=hm;rcases du (j<D eW) with hk|CX
     ·have d2:decide ((j:Int)<(D eW:Int))=true:=c7;have ht:=e2 (i:=j) (by omega);obtain⟨x,L⟩:∃f,eW[j]?=some f:=⟨_,bf hk⟩;have vl:=Wk x (cL L);have Wl:=ae6 L;have KN:=ae7 (l:=eW) (k:=j) hk;have zM:(lJ left (eW.take j)).length=D cap:=by rw[PA];exact vL
      have g5:=uB (l:=lJ left (eW.take j)) (k:=x) (by omega);have tX:=PF (l:=lJ left (eW.take j)) (k:=x) (by omega) true
      have p2:(lJ left (eW.take j)).set x true=lJ left (eW.take (j+1)):=by
       rw[ho,L,ae2];rfl
      rw[p2] at tX;refine ah ?_;repeat' (intro (ai:_=_)<;>simp only[ai,go_sem,go_sem_proc,eU,oC,gR,gS,bo,c3,dp,pO,afa,Dq,ae9,aY,k8,vP,pg,d2,ht,Wl,KN,vl,g5,tX,hk,dM]<;>try refine ae ?_ ?_)
      exact⟨j+1,by omega,by omega,rfl,rfl,by repeat first|exact dr|refine dP.ea ?_ (by decide)⟩
     ·have d2:decide ((j:Int)<(D eW:Int))=false:=df;have Wm:j=D eW:=by omega
      subst Wm;rw[mB] at k8;have nc:=λ(K:a8->Prop) (st:a8)=>sl (K:=K) (st:=st) xb 9 394065 ph eW;have c1:=lq PC ae4 394085 g 24 rounds eW (cs:=[.J (.ar (eW.map nx))]) rfl (by omega) (by omega);have b9:(rounds++[eW]).length=D rounds+1:=by simp
      refine ah ?_;repeat' (intro (ai:_=_)<;>simp only[ai,go_sem,go_sem_proc,eU,oC,gR,gS,bo,c3,dp,pO,afa,Dq,ae9,aY,k8,vP,pg,d2,nc,c1,aj]<;>try refine ae ?_ ?_)
      exact⟨(k,lJ left eW,rounds++[eW],g+1),by dsimp only;omega,by rw[PA];exact vL,by dsimp only;omega,by dsimp only;omega,a7,by rw[b9],rfl,rfl,by repeat first|exact dr|refine dP.ea ?_ (by decide)|refine dP.kill ?_ (by decide)⟩
def pj (cap:List ax)(i:Nat)(s:List Bool×Bool):List Bool×Bool:=if (!(s.1.getD i false)&&decide ((cap.getD i bC).1.1>0))=true then (s.1.set i true,true) else s
structure KO where
 i:Nat
 g:Nat
 cap:List ax
 base:List ax
 ls:List cn
 s:List Bool×Bool
structure Wn (a:KO) (mem:Mem):Prop where
 hf:mem 392005=some (0,[.ref 392021 0 1 0 (D a.cap)])
 aY:mem 392001=some (0,[.J (.ar (a.cap.map av)),.J (.ar (a.base.map av)),.J (.ar (a.ls.map fh))])
 gB:mem 392006=some (a.g,[.J (.bool a.s.2)])
 fw:mem 392021=some (0,aS kN a.s.1)
 len:a.s.1.length=D a.cap
 lt:a.i<D a.cap
def KP (i g:Nat):List I:=[.J (.int .i64 i),.ptr 392005 0 0,.ptr 392001 0 0,.ptr 392006 g 0]
def Dr (a:KO)(mem:Mem):I->Mem->Prop:=λ_ mem'=>mem' 392021=some (0,aS kN (pj a.cap a.i a.s).1)/\mem' 392006=some (a.g,[.J (.bool (pj a.cap a.i a.s).2)])/\∀k:Nat,k≠392021->k≠392006->mem' k=mem k
def KQ:List I->Mem->Option (I->Mem->Prop):=CE (λ(a:KO) args mem=>args=KP a.i a.g/\Wn a mem) Dr
def arP (a:KO)(mem:Mem)(h:Wn a mem):KQ (KP a.i a.g) mem=some (Dr a mem):=by
 unfold KQ;refine Ux (a:=a) ?_ ⟨rfl,h⟩;rintro a b args mem ⟨F,G⟩ ⟨bo,c5⟩;rw[F] at bo;have aQ:=G.aY;have vQ:=G.gB;have Oe:=G.fw;rw[c5.aY] at aQ;rw[c5.gB] at vQ;rw[c5.fw] at Oe;obtain⟨i,g,c,aBc,l,s,bT⟩:=a;obtain⟨a3,cx,kB,aBd,mR,xX,eG⟩:=b;simp only[KP,bl,I.J.injEq,Data.int.injEq,Data.ar.injEq,Data.bool.injEq,bO,eM,true_and,and_true,I.ptr.injEq] at bo aQ vQ Oe;obtain⟨dA,dJ,ep⟩:=aQ;have:=map_inj j1 _ _ dA;have:=map_inj j1 _ _ dJ;have:=map_inj uy _ _ ep;have:=aeY Oe;obtain⟨bo,-⟩:=bo;have:i=a3:=by omega
 simp_all
def arQ (T:bj)(a:KO)(mem:Mem)(bc:Wn a mem):wp T Ok.body (uf Ok.res (Dr a mem)) ⟨ke (KP a.i a.g),mem⟩:=by
 obtain⟨hf,aY,gB,fw,ag,aq⟩:=bc;obtain⟨i,g,cap,base,ls,fed,more⟩:=a;dsimp only at *;obtain⟨⟨⟨ck,dC⟩,⟨gv,iF⟩⟩,dh⟩:∃f,cap[i]?=some f:=⟨_,bf aq⟩;obtain⟨j5,dt⟩:∃f,fed[i]?=some f:=⟨_,bf (by omega)⟩;have gc:cap.getD i bC=((ck,dC),(gv,iF)):=by rw[dH,dh];rfl
 have gl:fed.getD i false=j5:=by rw[dH,dt];rfl
 have hU:=xn dt;have g5:=uB (l:=fed) (k:=i) (by omega);have tX:=PF (l:=fed) (k:=i) (by omega) true;have js:i<D fed:=by omega
 unfold Dr pj KP;dsimp only;rw[gc,gl];refine xY ?_;simp only[Ok];rcases j5
 ·rcases af:decide (ck>0)
  ·refine ah ?_;repeat' (intro h<;>simp only[h,go_sem,go_sem_proc,hf,aY,gB,fw,dh,hU,g5,aq,af,av,dM,aj,bg]<;>try refine ae ?_ ?_)
   exact⟨_,rfl,λ_ _ _=>trivial⟩
  ·refine ah ?_;repeat' (intro h<;>simp only[h,go_sem,go_sem_proc,hf,aY,gB,fw,dh,hU,g5,tX,aq,af,av,dM,aj,bg]<;>try refine ae ?_ ?_)
   refine⟨_,rfl,λk F G=>?_⟩;rw[aT G,aT F]
 ·refine ah ?_;repeat' (intro h<;>simp only[h,go_sem,go_sem_proc,hf,aY,gB,fw,dh,hU,g5,aq,av,dM,aj,bg]<;>try refine ae ?_ ?_)
  exact⟨_,rfl,λ_ _ _=>trivial⟩
def qS (cap base:List ax):Nat->Nat->List Bool×Bool->List Bool×Bool
 |0,_,s=>s
 |k+1,i,s=>qS cap base k (i+1) (if decide ((base.getD i bC).1.1>0)=true then pj cap i s else s)
def rJ (cap:List ax):List cn->List Bool×Bool->List Bool×Bool
 | [],s=>s
 |l::r,s=>rJ cap r (if (s.1.getD l.1.toNat false&&decide (l.2.2.1.1>0))=true then pj cap l.2.1.toNat s else s)
def td (cap base:List ax)(ls:List cn)(fed:List Bool):List Bool×Bool:=rJ cap ls (qS cap base (D cap) 0 (fed,false))
def xr (cap base:List ax)(ls:List cn):Nat->List Bool->List Bool
 |0,fed=>fed
 |k+1,fed=>if (td cap base ls fed).2=true then xr cap base ls k (td cap base ls fed).1 else (td cap base ls fed).1
def PI (cap base:List ax)(ls:List cn):List Bool:=xr cap base ls (D cap+1) (ch (D cap) false)
def rK (fed:List Bool):Nat->Nat->List ax->List ax
 |0,_,c=>c
 |k+1,i,c=>rK fed k (i+1) (if fed.getD i false=true then c else c.set i hi)
def GB (cap base:List ax)(ls:List cn):List ax:=rK (PI cap base ls) (D cap) 0 cap
def AX (cap base:List ax)(ls:List cn):List ax×List (List Nat)×Int:=if o6 cap base ls=true then l7 (GB cap base ls) base ls else ([],[],1)
def AY (n c0:Nat)(s:List Bool×Bool):Prop:=s.1.length=n/\s.1.count false<=c0/\(s.2=true->s.1.count false<c0)
def PJ {cap:List ax}{i n c0:Nat}{s:List Bool×Bool}(h:AY n c0 s)(ab:i<n):AY n c0 (pj cap i s):=by
 obtain⟨F,G,ad⟩:=h;unfold pj
 split
 ·rename_i Y;rw[ff] at Y;have al:s.1.getD i false=false:=by simpa using Y.1
  have aZ:=Wh (left:=s.1) (i:=i) (lv:=[]) (by omega) al;have bw:lJ s.1 [i]=s.1.set i true:=rfl;rw[bw] at aZ;exact⟨by rw[fk];exact F,by dsimp only;omega,λ_=>by dsimp only;omega⟩
 ·exact⟨F,G,ad⟩
def Wo {cap base:List ax}{n c0:Nat}:∀(k i:Nat) (s:List Bool×Bool),AY n c0 s->i+k<=n->AY n c0 (qS cap base k i s)
 |0,_,_,h,_=>h
 |k+1,i,s,h,ag=>by
  unfold qS;refine Wo k (i+1) _ ?_ (by omega)
  split
  ·exact PJ h (by omega)
  ·exact h
def Wp {cap:List ax}{n c0:Nat}:∀(ls:List cn) (s:List Bool×Bool),AY n c0 s->(∀l∈ls,0<=l.2.1/\l.2.1<n)->AY n c0 (rJ cap ls s)
 | [],_,h,_=>h
 |l::r,s,h,ag=>by
  unfold rJ;refine Wp r _ ?_ λx L=>ag x (by simp[L]);have:=ag l (by simp)
  split
  ·exact PJ h (by omega)
  ·exact h
def PK {fed:List Bool}:∀(k i:Nat) (c:List ax),(∀f∈c,okF f)->(rK fed k i c).length=D c/\∀f∈rK fed k i c,okF f
 |0,_,c,h=>⟨rfl,h⟩
 |k+1,i,c,h=>by
  unfold rK
  split
  ·exact PK k (i+1) c h
  ·have:=PK (fed:=fed) k (i+1) (c.set i hi) λf al=>by
    rcases nW al with al|rfl
    ·exact h f al
    ·exact xm
   rw[fk] at this;exact this
def PL:=bI pW λ(cap,base,ls)=>ca (ox cap base ls) (.same (l8 (AX cap base ls)))
@[go_sem] def arR (cap base ls):=cl PL rfl CQ (cap,base,ls) rfl
def arS (T:bj)(eU:T B4=aG F6)(jL:T SY=yW KQ)(fM:T EP=aG FZ)(e8:T tL=aG CR)(fS:T yp=aG Dj):WF T acj PL:=by
 refine b7 λ(cap,base,ls)=>cq λY=>⟨rfl,b6 ?_⟩;simp only[acj,pW,bX];unfold AX;rcases M:o6 cap base ls
 ·simp only[cE,if_false];refine ah ?_;repeat' (intro (ai:_=_)<;>simp only[ai,go_sem,go_sem_proc,eU,jL,fM,e8,fS,Y,M,l8,bP]<;>try refine ae ?_ ?_)
 ·simp only[if_true];obtain⟨U,aC,Ds,eZ,-,-⟩:=xq M;have j6:=Y;obtain⟨⟨eb,ny⟩,⟨mq,nz⟩,nA⟩:=Y;have y3:(D cap*1<=140737488355328)=True:=eq_true (by omega);have Dk:(1*D cap<=140737488355328)=True:=eq_true (by omega);have y4:(D cap<=maxLen)=True:=eq_true (by unfold maxLen;omega);have Dl:(D cap<=140737488355328)=True:=eq_true (by omega);have a2:=PD (D cap);unfold GB PI;generalize PM:xr cap base ls (D cap+1) (ch (D cap) false)=bI;simp only[go_sem,go_sem_proc,eU,jL,fM,e8,fS,j6,M,y3,Dk,y4,Dl,a2,aj]
  refine cX [1,5] [392001,392005] (λ((k,fed,more,g):Nat×List Bool×Bool×Nat) tm m=>D fed=D cap/\bI=(if more=true then xr cap base ls k fed else fed)/\(more=true->fed.count false<k)/\tm 6=.ptr 392006 g 0/\m 392006=some (g,[.J (.bool more)])/\m 392021=some (0,aS kN fed)/\dP 392 emp m) (λ(k,_,_,_)=>k) (D cap+1,ch (D cap) false,true,0) (by
   refine⟨hs,PM.symm,λ_=>by rw[ae8];exact KM _,rfl,?_,?_,?_⟩
   ·simp[aV]
   ·simp[aV]
   ·repeat first|exact dP.refl _ _|refine dP.ea ?_ (by decide)) ?_
  intro vs ms aK aF;simp only[go_sem,go_sem_proc,eU,jL,fM,e8,fS,aj] at aK aF;subst aK aF;rintro⟨k,fed,more,g⟩ tm m R hm ⟨jQ,a7,PH,bA,gB,fw,dr⟩;simp only[go_sem,go_sem_proc,eU,jL,fM,e8,fS,bl] at R hm;obtain⟨bo,c3⟩:=R;obtain⟨aY,hf⟩:=hm;rcases more
  ·simp only[cE,if_false] at a7;subst a7;have arT:=apm cap eb;have iK:(cap.map av).flatten.map I.J=aS av cap:=rfl;simp only[go_sem,go_sem_proc,eU,jL,fM,e8,fS,bo,c3,bA,aY,hf,gB,fw,arT,iK,jQ,aj];generalize Wq:rK bI (D cap) 0 cap=pk at *;have gb:=PK (fed:=bI) (D cap) 0 cap ny;rw[Wq] at gb
   refine cX [12,73,74] [392012,392021] (λ((i,c):Nat×List ax) tm m'=>i<=D cap/\D c=D cap/\pk=rK bI (D cap-i) i c/\tm 75=.J (.int .i64 i)/\m' 392067=some (gM (m 392067),aS av c)/\dP 392 emp m') (λ(i,_)=>D cap-i) (0,cap) (by
    refine⟨dG _,rfl,Wq.symm,rfl,?_,?_⟩
    ·simp[aV]
    ·repeat first|exact dr|refine dP.ea ?_ (by decide)) ?_
   generalize gM (m 392067)=bh;intro vs ms aK aF;simp only[go_sem,go_sem_proc,eU,jL,fM,e8,fS,bo,c3,bA,aY,hf,gB,fw,jQ] at aK aF;subst aK aF;generalize gM (m 392012)=G2;clear bA aY hf gB fw dr bo c3 tm m;rintro⟨i,c⟩ tm m R hm ⟨ab,Bs,eV,PN,KR,dr⟩;simp only[go_sem,go_sem_proc,eU,jL,fM,e8,fS,bl] at R hm;obtain⟨lx,Dq,PO⟩:=R;obtain⟨KS,fw⟩:=hm;rcases du (i<D cap) with aq|bD
   ·have d1:decide ((i:Int)<(D cap:Int))=true:=c7;have bL:=e2 (i:=i) (by omega);obtain⟨j5,dt⟩:∃f,bI[i]?=some f:=⟨_,bf (by omega)⟩;have gl:bI.getD i false=j5:=by rw[dH,dt];rfl
    have hU:=xn dt;have g5:=uB (l:=bI) (k:=i) (by omega);have g2:(D cap)-i=(D cap-(i+1))+1:=by omega
    rw[g2] at eV;replace eV:=eV.trans (rK.eq_2 ..);rw[gl] at eV;have qo:=F7 0 (by unfold dY;omega);rw[show ee ((0:Int):Rat)=hi from rfl] at qo;generalize hi=nb at *;obtain⟨⟨iP,je⟩,⟨kL,kM⟩⟩:=nb;simp only[av] at qo;have dC:=uj (l:=c) (k:=i) (by omega);have gv:=yZ (l:=c) (k:=i) (by omega) iP je kL kM;have aBe:i<D bI:=by omega
    rcases j5
    ·simp only[cE,if_false] at eV;refine ah ?_;repeat' (intro (ai:_=_)<;>simp only[ai,go_sem,go_sem_proc,eU,jL,fM,e8,fS,lx,Dq,PO,PN,KS,fw,KR,d1,bL,hU,g5,aq,qo,dC,gv,dM,aj]<;>try refine ae ?_ ?_)
     exact⟨(i+1,c.set i ((iP,je),(kL,kM))),by dsimp only;omega,by dsimp only;omega,by rw[fk];exact Bs,eV,rfl,rfl,by repeat first|exact dr|refine dP.ea ?_ (by decide)⟩
    ·simp only[if_true] at eV;refine ah ?_;repeat' (intro (ai:_=_)<;>simp only[ai,go_sem,go_sem_proc,eU,jL,fM,e8,fS,lx,Dq,PO,PN,KS,fw,KR,d1,bL,hU,g5,aq,dM,aj]<;>try refine ae ?_ ?_)
     exact⟨(i+1,c),by dsimp only;omega,by dsimp only;omega,Bs,eV,rfl,rfl,dr⟩
   ·have d1:decide ((i:Int)<(D cap:Int))=false:=df;have hz:i=D cap:=by omega
    subst hz;rw[hG] at eV;replace eV:=eV.trans (rK.eq_1 ..);subst eV;have ek:=PG pk base ls ⟨⟨by omega,gb.2⟩,⟨mq,nz⟩,nA⟩
    have eA:=jV (n:=0) jt KR;rw[Bs] at eA;generalize l7 pk base ls=S at *;obtain⟨l6,Dt,KT⟩:=S;simp only[l8] at ek;simp only[go_sem,go_sem_proc,eU,jL,fM,e8,fS,lx,Dq,PO,PN,KS,fw,KR,d1];refine arh (kc:=392012) (gc:=G2) (off:=0) (cc:=[.ref 392067 bh 4 0 (D cap),.J (.ar (base.map av)),.J (.ar (ls.map fh))]) (k:=392067) (g:=bh) (sz:=4) (o:=0) (len:=D cap) (cs:=aS av pk) (d:=.ar (pk.map av)) ?_ ?_ rfl KR (Si _ _) (by decide) eA ?_
    ·simp only[aM,q3,sW,if_false];exact lx
    ·exact KS
    refine ah ?_;repeat' (intro (ai:_=_)<;>simp only[ai,go_sem,go_sem_proc,eU,jL,fM,e8,fS,lx,Dq,PO,PN,KS,ek,l8,List.set_cons_zero]<;>try refine ae ?_ ?_)
  ·simp only[if_true] at a7;have zO:0<k:=by have:=PH rfl;omega
   obtain⟨k,rfl⟩:∃k',k=k'+1:=⟨k-1,by omega⟩
   have a7:=a7.trans (xr.eq_2 ..);have arU:AY (D cap) (fed.count false) (td cap base ls fed):=Wp ls _ (Wo (D cap) 0 (fed,false) ⟨jQ,c9 _,λh=>by cases h⟩ (by omega)) λl ag=>⟨(eZ l ag).2.2.1,(eZ l ag).2.2.2.1⟩;have afb:td cap base ls fed=rJ cap ls (qS cap base (D cap) 0 (fed,false)):=rfl;generalize aBf:td cap base ls fed=PE at *
   have e6:∀(i:Nat) (s:List Bool×Bool) (mem:Mem),i<(D cap)->s.1.length=(D cap)->mem 392005=some (0,[.ref 392021 0 1 0 (D cap)])->mem 392001=m 392001->mem 392006=some (g,[.J (.bool s.2)])->mem 392021=some (0,aS kN s.1)->KQ [.J (.int .i64 i),.ptr 392005 0 0,.ptr 392001 0 0,.ptr 392006 g 0] mem=some (Dr ⟨i,g,cap,base,ls,s⟩ mem):=λi s mem aQ az eT iA mD vQ =>
    arP ⟨i,g,cap,base,ls,s⟩ mem ⟨eT,iA.trans aY,mD,vQ,az,aQ⟩
   simp only[go_sem,go_sem_proc,eU,jL,fM,e8,fS,bo,c3,bA,aY,hf,gB,fw,aj]
   refine cX [1,5,6,7,25,26] [392001,392005] (λ((i,s):Nat×List Bool×Bool) tm m=>i<=D cap/\s.1.length=D cap/\qS cap base (D cap) 0 (fed,false)=qS cap base (D cap-i) i s/\tm 27=.J (.int .i64 i)/\m 392006=some (g,[.J (.bool s.2)])/\m 392021=some (0,aS kN s.1)/\dP 392 emp m) (λ(i,_)=>D cap-i) (0,fed,false) (by
    refine⟨dG _,jQ,rfl,rfl,?_,fw,?_⟩
    ·simp[aV]
    ·repeat first|exact dr|refine dP.ea ?_ (by decide)) ?_
   intro vs ms aK aF;simp only[go_sem,go_sem_proc,eU,jL,fM,e8,fS,bo,c3,bA,aY,hf,U,aj] at aK aF;subst aK aF;rw[aY] at e6;clear gB fw dr bo c3 bA aY hf tm m;rintro⟨i,s⟩ tm m R hm ⟨ab,p2,rL,nn,gB,fw,dr⟩;simp only[go_sem,go_sem_proc,eU,jL,fM,e8,fS,bl] at R hm;obtain⟨bo,c3,dp,eE,pn,mH⟩:=R;obtain⟨aY,hf⟩:=hm;rcases du (i<D cap) with aq|bD
   ·have d1:decide ((i:Int)<(D cap:Int))=true:=c7;have bL:=e2 (i:=i) (by omega);obtain⟨⟨⟨bT,cB⟩,⟨et,eD⟩⟩,eJ⟩:∃f,base[i]?=some f:=⟨_,bf (by omega)⟩;have qR:base.getD i bC=((bT,cB),(et,eD)):=by rw[dH,eJ];rfl
    have g2:(D cap)-i=(D cap-(i+1))+1:=by omega
    rw[g2] at rL;replace rL:=rL.trans (qS.eq_2 ..);rw[qR] at rL;rcases af:decide (bT>0)
    ·rw[af] at rL;simp only[cE,if_false] at rL;refine ah ?_;repeat' (intro (ai:_=_)<;>simp only[ai,go_sem,go_sem_proc,eU,jL,fM,e8,fS,bo,c3,dp,eE,pn,mH,nn,aY,hf,gB,fw,d1,bL,eJ,af,av,aj,bg]<;>try refine ae ?_ ?_)
     exact⟨(i+1,s),by dsimp only;omega,by dsimp only;omega,p2,rL,rfl,rfl,rfl,by repeat first|exact dr|refine dP.ea ?_ (by decide)⟩
    ·rw[af] at rL;simp only[if_true] at rL;have Wr:=λmem=>e6 i s mem aq p2;have vf:(pj cap i s).1.length=D cap:=(PJ (n:=D cap) (c0:=s.1.count false+1) ⟨p2,by omega,λ_=>by omega⟩ aq).1;simp only[go_sem,go_sem_proc,eU,jL,fM,e8,fS,bo,c3,dp,eE,pn,mH,nn,aY,hf,gB,fw,d1,bL,eJ,af,av,aj,bg];rw[Wr _ (by simp[aV,hf]) (by simp[aV,aY]) (by simp[aV,gB]) (by simp[aV,fw])];simp only[go_sem,go_sem_proc,eU,jL,fM,e8,fS];intro xc m' ed;unfold Dr at ed;dsimp only at ed;obtain⟨Ws,Gw,rI⟩:=ed;have gJ:=rI 392001 (by decide) (by decide);have KU:=rI 392005 (by decide) (by decide)
     have Wt:dP 392 emp m':=λj aa=>by
      rw[rI j (λh=>aa (by rw[h])) (λh=>aa (by rw[h]))];have:dP 392 emp (aV (aV m 392009 (gM (m 392009)) [.J (.int .i64 0),.nil,.J (.int .i64 0),.nil]) 392009 (gM (m 392009)) [.J (.int .i64 bT),.J (.ar (cB.map aI)),.J (.int .i64 et),.J (.ar (eD.map aI))]):=by repeat first|exact dr|refine dP.ea ?_ (by decide)
      exact this j aa
     simp only[go_sem,go_sem_proc,eU,jL,fM,e8,fS,aY,hf] at gJ KU;generalize pj cap i s=Dt at *;refine ah ?_;repeat' (intro (ai:_=_)<;>simp only[ai,go_sem,go_sem_proc,eU,jL,fM,e8,fS,bo,c3,dp,eE,pn,mH,nn,gJ,KU,Gw,Ws,bL]<;>try refine ae ?_ ?_)
     exact⟨(i+1,Dt),by dsimp only;omega,by dsimp only;omega,vf,rL,rfl,rfl,rfl,Wt⟩
   ·have d1:decide ((i:Int)<(D cap:Int))=false:=df;have hz:i=D cap:=by omega
    subst hz;rw[hG] at rL;replace rL:=rL.trans (qS.eq_1 ..);rw[rL] at afb;simp only[go_sem,go_sem_proc,eU,jL,fM,e8,fS,bo,c3,dp,eE,pn,mH,nn,aY,hf,gB,fw,d1,aj];refine cX [1,5,6,7,41,42] [392001,392005] (λ((j,s):Nat×List Bool×Bool) tm m=>j<=D ls/\s.1.length=D cap/\PE=rJ cap (ls.drop j) s/\tm 43=.J (.int .i64 j)/\m 392006=some (g,[.J (.bool s.2)])/\m 392021=some (0,aS kN s.1)/\dP 392 emp m) (λ(j,_)=>D ls-j) (0,s) (by refine⟨dG _,p2,afb,rfl,gB,fw,dr⟩) ?_;intro vs ms aK aF;simp only[go_sem,go_sem_proc,eU,jL,fM,e8,fS,bo,c3,dp,eE,aY,hf,aj] at aK aF;subst aK aF;clear gB fw dr bo c3 dp eE pn mH nn aY hf tm m;rintro⟨j,s2⟩ tm m R hm ⟨aa,hO,ix,zh,gB,fw,dr⟩;simp only[go_sem,go_sem_proc,eU,jL,fM,e8,fS,bl] at R hm;obtain⟨bo,c3,dp,eE,KV,zi⟩:=R;obtain⟨aY,hf⟩:=hm;rcases du (j<D ls) with hk|CX
    ·have d2:decide ((j:Int)<(D ls:Int))=true:=c7;have ht:=e2 (i:=j) (by omega);obtain⟨⟨a,c,⟨w1,gF⟩,⟨Wu,Wv⟩⟩,dt⟩:∃l,ls[j]?=some l:=⟨_,bf hk⟩;obtain⟨ta,gE,nM,arV,-⟩:=eZ _ (cL dt);dsimp only at ta gE nM arV;obtain⟨a,rfl⟩:=vJ ta;obtain⟨c,rfl⟩:=vJ nM;have KW:a<D cap:=by omega
     have o4:c<D cap:=by omega
     have k3:ls.drop j=((a:Int),(c:Int),((w1,gF),(Wu,Wv)))::ls.drop (j+1):=by
      obtain⟨ag,e⟩:=dL.1 dt;rw[gx ag,e]
     rw[k3] at ix;simp only[rJ,lX] at ix;obtain⟨j5,afc⟩:∃f,s2.1[a]?=some f:=⟨_,bf (by omega)⟩;have gl:s2.1.getD a false=j5:=by rw[dH,afc];rfl
     have hU:=xn afc;have g5:=uB (l:=s2.1) (k:=a) (by omega);rw[gl] at ix;rcases j5
     ·simp only[eO,cE,if_false] at ix;refine ah ?_;repeat' (intro (ai:_=_)<;>simp only[ai,go_sem,go_sem_proc,eU,jL,fM,e8,fS,bo,c3,dp,eE,KV,zi,zh,aY,hf,gB,fw,d2,ht,dt,hU,g5,KW,fh,av,dM,aj,bg]<;>try refine ae ?_ ?_)
      exact⟨(j+1,s2),by dsimp only;omega,by dsimp only;omega,hO,ix,rfl,rfl,rfl,by repeat first|exact dr|refine dP.ea ?_ (by decide)⟩
     ·rcases af:decide (w1>0)
      ·rw[af] at ix;simp only[iZ,cE,if_false] at ix;refine ah ?_;repeat' (intro (ai:_=_)<;>simp only[ai,go_sem,go_sem_proc,eU,jL,fM,e8,fS,bo,c3,dp,eE,KV,zi,zh,aY,hf,gB,fw,d2,ht,dt,hU,g5,KW,af,fh,av,dM,aj,bg]<;>try refine ae ?_ ?_)
       exact⟨(j+1,s2),by dsimp only;omega,by dsimp only;omega,hO,ix,rfl,rfl,rfl,by repeat first|exact dr|refine dP.ea ?_ (by decide)⟩
      ·rw[af] at ix;simp only[KD,if_true] at ix;have Wr:=λmem=>e6 c s2 mem o4 hO;have vf:(pj cap c s2).1.length=D cap:=(PJ (n:=D cap) (c0:=s2.1.count false+1) ⟨hO,by omega,λ_=>by omega⟩ o4).1;simp only[go_sem,go_sem_proc,eU,jL,fM,e8,fS,bo,c3,dp,eE,KV,zi,zh,aY,hf,gB,fw,d2,ht,dt,hU,g5,KW,af,fh,av,dM,aj,bg];rw[Wr _ (by simp[aV,hf]) (by simp[aV,aY]) (by simp[aV,gB]) (by simp[aV,fw])];simp only[go_sem,go_sem_proc,eU,jL,fM,e8,fS];intro xc m' ed;unfold Dr at ed;dsimp only at ed;obtain⟨Ws,Gw,rI⟩:=ed;have gJ:=rI 392001 (by decide) (by decide);have KU:=rI 392005 (by decide) (by decide)
       have Wt:dP 392 emp m':=λq aU=>by
        rw[rI q (λh=>aU (by rw[h])) (λh=>aU (by rw[h]))]
        revert q aU
        show dP 392 emp _
        repeat first|exact dr|refine dP.ea ?_ (by decide)
       simp only[go_sem,go_sem_proc,eU,jL,fM,e8,fS,aY,hf] at gJ KU;generalize pj cap c s2=Dt at *;refine ah ?_;repeat' (intro (ai:_=_)<;>simp only[ai,go_sem,go_sem_proc,eU,jL,fM,e8,fS,bo,c3,dp,eE,KV,zi,zh,gJ,KU,Gw,Ws,ht]<;>try refine ae ?_ ?_)
       exact⟨(j+1,Dt),by dsimp only;omega,by dsimp only;omega,vf,ix,rfl,rfl,rfl,Wt⟩
    ·have d2:decide ((j:Int)<(D ls:Int))=false:=df;have kH:ls.drop j=[]:=lj (by omega);rw[kH] at ix;simp only[rJ] at ix;subst ix;obtain⟨f2,arW⟩:=PE;obtain⟨kX,ni,rB⟩:=arU;dsimp only at kX ni rB a7 gB fw;refine ah ?_;repeat' (intro (ai:_=_)<;>simp only[ai,go_sem,go_sem_proc,eU,jL,fM,e8,fS,bo,c3,dp,eE,KV,zi,zh,aY,hf,gB,fw,d2]<;>try refine ae ?_ ?_)
     exact⟨(k,f2,arW,g+1),by dsimp only;omega,kX,a7,λh=>by have:=rB h;have:=PH rfl;dsimp only;omega,rfl,rfl,rfl,by repeat first|exact dr|refine dP.ea ?_ (by decide)⟩
def GC {ls:List cn}{n:Int}(h:ow ls n=true):0<=n/\n<=40/\D ls<=400/\∀l∈ls,0<=l.1/\l.1<n/\0<=l.2.1/\l.2.1<n/\g4 l.2.2=true:=by
 unfold ow at h;simp only[ff,vB,decide_eq_false_iff_not,sN] at h;obtain⟨G,ad,aZ,bw⟩:=h;refine⟨by omega,by omega,by omega,λl ag=>?_⟩
 have:=bw l ag;unfold pV at this;simp only[tA,decide_eq_true_eq,vB,not_or,ae5] at this;obtain⟨a,b,c,d,e⟩:=this;exact⟨by omega,by omega,by omega,by omega,e⟩
def xt (ls:List cn)(x:List ax):Nat->Nat->Bool
 |0,_=>true
 |k+1,i=>if ((lI hi ls x i).2 && !decide (lC (x.getD i bC) (lI hi ls x i).1<=0))=true then xt ls x k (i+1) else false
def GD (ls:List cn)(n:Int)(x:List ax):Bool:=ow ls n&&(((D x:Int)==n)&&(!(x.any λf => !g4 f||(f.1.1==0))&&xt ls x (D x) 0))
def PQ {base:ax}{ls:List cn}{x:List ax}{to:Int}(h:okF base):okF (lI base ls x to).1:=KJ x to ls (base,true) h
abbrev GF:(List cn)×Int×(List ax)->List Data:=λ(ls,n,x)=>[.ar (ls.map fh),.int .i64 n,.ar (x.map av)]
def KX:=bI GF λ(ls,n,x)=>ca (qQ ls/\ih x) (.same (.bool (GD ls n x)))
def afd:∀a b,GF a=GF b->a=b:=by
  rintro⟨y5,rb,dA⟩ ⟨y6,re,dJ⟩ h;simp only[bl,Data.ar.injEq,Data.int.injEq] at h;exact cz (map_inj uy _ _ h.1) (cz h.2.1.2 (map_inj j1 _ _ h.2.2.1))
@[go_sem] def afe (ls n x):=cl KX rfl afd (ls,n,x) rfl
def arX (T:bj)(k6:T B5=aG F5)(gQ:T tI=aG sO)(e8:T tL=aG CR)(gR:T B2=aG Gv)(gS:T z6=aG FF):WF T acf KX:=by
 refine b7 λ(ls,n,x)=>cq λY=>⟨rfl,b6 ?_⟩;simp only[acf,GF,bX];obtain⟨xu,L⟩:=Y;unfold GD;rcases aQ:ow ls n
 ·refine ah ?_;repeat' (intro h<;>simp only[h,go_sem,go_sem_proc,k6,gQ,e8,gR,gS,xu,aQ,aj,cN,rW,o1,scalar]<;>try refine ae ?_ ?_)
 ·rcases az:((D x:Int)==n)
  ·refine ah ?_;repeat' (intro h<;>simp only[h,go_sem,go_sem_proc,k6,gQ,e8,gR,gS,xu,aQ,az,aj,cN,rW,o1,scalar]<;>try refine ae ?_ ?_)
  ·rcases eT:x.any λf => !g4 f||(f.1.1==0)
   ·obtain⟨au,KI,Ds,eZ⟩:=GC aQ;have vl:(D x:Int)=n:=by simpa using az
    have q5:=L.1;simp only[e0,dc];generalize Du:xt ls x (D x) 0=GO;have a2:=F7 0 (by unfold dY;omega);rw[show ee ((0:Int):Rat)=hi from rfl] at a2;simp only[go_sem,go_sem_proc,k6,gQ,e8,gR,gS,xu,L,aQ,az,eT,acD,Uq,aj];refine cX [0,2,25,26] [] (λ(i:Nat) tm m=>i<=D x/\GO=xt ls x (D x-i) i/\tm 27=.J (.int .i64 i)) (λi=>D x-i) 0 (by refine⟨dG _,Du.symm,rfl⟩) ?_;intro vs ms aK aF;simp only[go_sem,go_sem_proc,k6,gQ,e8,gR,gS,aj] at aK aF;subst aK aF;rintro i tm m R hm ⟨ab,a7,nn⟩;simp only[go_sem,go_sem_proc,k6,gQ,e8,gR,gS,bl] at R;obtain⟨er,c5,pn,mH⟩:=R;rcases du (i<D x) with aq|bD
    ·have d1:decide ((i:Int)<(D x:Int))=true:=c7;have bL:=e2 (i:=i) (by omega);obtain⟨⟨⟨dA,dJ⟩,⟨ep,eB⟩⟩,fG⟩:∃f,x[i]?=some f:=⟨_,bf aq⟩;have fy:x.getD i bC=((dA,dJ),(ep,eB)):=by rw[dH,fG];rfl
     have hr:=L.2 _ (cL fG);have g2:(D x)-i=(D x-(i+1))+1:=by omega
     rw[g2] at a7;replace a7:=a7.trans (xt.eq_2 ..);rw[fy] at a7;have KY:=xm;have rE:=PQ (ls:=ls) (x:=x) (to:=i) KY;generalize hi=nb at *;obtain⟨⟨iP,je⟩,⟨kL,kM⟩⟩:=nb;have bD:=V9 iP je kL kM ls x i ⟨KY,xu,L,λl ag _=>by have:=eZ l ag;omega⟩
     generalize lI ((iP,je),(kL,kM)) ls x i=S at *;obtain⟨⟨⟨s1,s2⟩,⟨bU,bW⟩⟩,b⟩:=S;dsimp only at a7 bD rE;simp only[av] at a2 bD;obtain⟨fv,hO⟩:=rE;obtain⟨ez,eS⟩:=hr;dsimp only at fv hO ez eS;rcases b
     ·simp only[eO,cE,if_false] at a7;rw[a7];refine ah ?_;repeat' (intro h<;>simp only[h,go_sem,go_sem_proc,k6,gQ,e8,gR,gS,er,c5,pn,mH,nn,d1,bL,fG,a2,bD,av,aj,bg]<;>try refine ae ?_ ?_)
     ·rcases eY:decide (lC ((dA,dJ),(ep,eB)) ((s1,s2),(bU,bW))<=0)
      ·rw[eY] at a7;simp only[e0,dc,if_true] at a7;refine ah ?_;repeat' (intro h<;>simp only[h,go_sem,go_sem_proc,k6,gQ,e8,gR,gS,er,c5,pn,mH,nn,d1,bL,fG,a2,bD,eY,fv,hO,ez,eS,av,aj,bg]<;>try refine ae ?_ ?_)
       exact⟨i+1,by omega,by omega,a7,rfl⟩
      ·rw[eY] at a7;simp only[e0,c2,cE,if_false] at a7;rw[a7];refine ah ?_;repeat' (intro h<;>simp only[h,go_sem,go_sem_proc,k6,gQ,e8,gR,gS,er,c5,pn,mH,nn,d1,bL,fG,a2,bD,eY,fv,hO,ez,eS,av,aj,bg]<;>try refine ae ?_ ?_)
    ·have d1:decide ((i:Int)<(D x:Int))=false:=df;have hz:i=D x:=by omega
     subst hz;rw[hG] at a7;replace a7:=a7.trans (xt.eq_1 ..);rw[a7];refine ah ?_;repeat' (intro h<;>simp only[h,go_sem,go_sem_proc,k6,gQ,e8,gR,gS,er,c5,pn,mH,nn,d1,aj]<;>try refine ae ?_ ?_)
   ·refine ah ?_;repeat' (intro h<;>simp only[h,go_sem,go_sem_proc,k6,gQ,e8,gR,gS,xu,L,aQ,az,eT,acD,Uq,aj]<;>try refine ae ?_ ?_)
def xv (cap base:List ax)(ls:List cn)(x:List ax):Nat->Nat->Bool
 |0,_=>true
 |k+1,i=>if ((lI (base.getD i bC) ls x i).2&&(lC (if decide (lC (lI (base.getD i bC) ls x i).1 (cap.getD i bC)>0)=true then cap.getD i bC else (lI (base.getD i bC) ls x i).1) (x.getD i bC)==0))=true then xv cap base ls x k (i+1) else false
def KZ (cap base:List ax)(ls:List cn)(x:List ax):Bool:=o6 cap base ls&&(((D x:Int)==(D cap:Int))&&(!(x.any pS)&&xv cap base ls x (D cap) 0))
abbrev GG:(List ax)×(List ax)×(List cn)×(List ax)->List Data:=λ(cap,base,ls,x)=>[.agg [.ar (cap.map av),.ar (base.map av),.ar (ls.map fh)],.ar (x.map av)]
def PR:=bI GG λ(cap,base,ls,x)=>ca (ox cap base ls/\ih x) (.same (.bool (KZ cap base ls x)))
def aff:∀a b,GG a=GG b->a=b:=by
  rintro⟨ady,adz,y5,dA⟩ ⟨adA,adB,y6,dJ⟩ h;simp only[bl,Data.agg.injEq,Data.ar.injEq] at h;exact cz (map_inj j1 _ _ h.1.1) (cz (map_inj j1 _ _ h.1.2.1) (cz (map_inj uy _ _ h.1.2.2.1) (map_inj j1 _ _ h.2.1)))
@[go_sem] def arY (cap base ls x):=cl PR rfl aff (cap,base,ls,x) rfl
def arZ (T:bj)(eU:T B4=aG F6)(gQ:T tI=aG sO)(gR:T B2=aG Gv)(gS:T z6=aG FF):WF T ach PR:=by
 refine b7 λ(cap,base,ls,x)=>cq λY=>⟨rfl,b6 ?_⟩;simp only[ach,GG,bX];obtain⟨j6,L⟩:=Y;unfold KZ;rcases aQ:o6 cap base ls
 ·refine ah ?_;repeat' (intro h<;>simp only[h,go_sem,go_sem_proc,eU,gQ,gR,gS,j6,aQ,aj,cN,rW,o1,scalar]<;>try refine ae ?_ ?_)
 ·rcases az:((D x:Int)==(D cap:Int))
  ·refine ah ?_;repeat' (intro h<;>simp only[h,go_sem,go_sem_proc,eU,gQ,gR,gS,j6,aQ,az,aj,cN,rW,o1,scalar]<;>try refine ae ?_ ?_)
  ·rcases eT:x.any pS
   ·obtain⟨U,aC,Ds,eZ,-,-⟩:=xq aQ;have Ww:=j6;obtain⟨⟨eb,ny⟩,⟨mq,nz⟩,nA⟩:=Ww
    have vl:(D x)=D cap:=by
                        have:(D x:Int)=D cap:=by simpa using az
                        omega
    have q5:=L.1;simp only[e0,dc];generalize Du:xv cap base ls x (D cap) 0=GO;simp only[go_sem,go_sem_proc,eU,gQ,gR,gS,j6,L,aQ,az,eT,acB,Uo,aj];refine cX [1,2,25,26] [390002] (λ(i:Nat) tm m=>i<=D cap/\GO=xv cap base ls x (D cap-i) i/\tm 27=.J (.int .i64 i)) (λi=>D cap-i) 0 (by refine⟨dG _,Du.symm,rfl⟩) ?_;intro vs ms aK aF;simp only[go_sem,go_sem_proc,eU,gQ,gR,gS,aj] at aK aF;subst aK aF;rintro i tm m R hm ⟨ab,a7,nn⟩;simp only[go_sem,go_sem_proc,eU,gQ,gR,gS,bl] at R hm;obtain⟨bo,c5,pn,mH⟩:=R;rcases du (i<D cap) with aq|bD
    ·have d1:decide ((i:Int)<(D cap:Int))=true:=c7;have bL:=e2 (i:=i) (by omega);obtain⟨⟨⟨dA,dJ⟩,⟨ep,eB⟩⟩,fG⟩:∃f,x[i]?=some f:=⟨_,bf (by omega)⟩;obtain⟨⟨⟨ck,dC⟩,⟨gv,iF⟩⟩,dh⟩:∃f,cap[i]?=some f:=⟨_,bf aq⟩;obtain⟨⟨⟨bT,cB⟩,⟨et,eD⟩⟩,eJ⟩:∃f,base[i]?=some f:=⟨_,bf (by omega)⟩;have fy:x.getD i bC=((dA,dJ),(ep,eB)):=by rw[dH,fG];rfl
     have gc:cap.getD i bC=((ck,dC),(gv,iF)):=by rw[dH,dh];rfl
     have qR:base.getD i bC=((bT,cB),(et,eD)):=by rw[dH,eJ];rfl
     have hr:=L.2 _ (cL fG);have Wx:=ny _ (cL dh);have K0:=nz _ (cL eJ);have g2:(D cap)-i=(D cap-(i+1))+1:=by omega
     rw[g2] at a7;replace a7:=a7.trans (xv.eq_2 ..);rw[fy,gc,qR] at a7;have rE:=PQ (ls:=ls) (x:=x) (to:=i) K0;have bD:=V9 bT cB et eD ls x i ⟨K0,nA,L,λl ag _=>by have:=eZ l ag;omega⟩
     generalize lI ((bT,cB),(et,eD)) ls x i=S at *;obtain⟨⟨⟨s1,s2⟩,⟨bU,bW⟩⟩,b⟩:=S;dsimp only at a7 bD rE;simp only[av] at bD;obtain⟨fv,hO⟩:=rE;obtain⟨ez,eS⟩:=hr;obtain⟨iw,mO⟩:=Wx;dsimp only at fv hO ez eS iw mO;rcases b
     ·simp only[eO,cE,if_false] at a7;rw[a7];refine ah ?_;repeat' (intro h<;>simp only[h,go_sem,go_sem_proc,eU,gQ,gR,gS,bo,c5,pn,mH,nn,hm,d1,bL,fG,dh,eJ,bD,av,aj,bg]<;>try refine ae ?_ ?_)
     ·rcases eY:decide (lC ((s1,s2),(bU,bW)) ((ck,dC),(gv,iF))>0)
      ·rw[eY] at a7;simp only[e0,cE,if_false] at a7;rcases aU:(lC ((s1,s2),(bU,bW)) ((dA,dJ),(ep,eB))==0)
       ·rw[aU] at a7;simp only[cE,if_false] at a7;rw[a7];refine ah ?_;repeat' (intro h<;>simp only[h,go_sem,go_sem_proc,eU,gQ,gR,gS,bo,c5,pn,mH,nn,hm,d1,bL,fG,dh,eJ,bD,eY,aU,fv,hO,ez,eS,iw,mO,av,aj,bg]<;>try refine ae ?_ ?_)
       ·rw[aU] at a7;simp only[if_true] at a7;refine ah ?_;repeat' (intro h<;>simp only[h,go_sem,go_sem_proc,eU,gQ,gR,gS,bo,c5,pn,mH,nn,hm,d1,bL,fG,dh,eJ,bD,eY,aU,fv,hO,ez,eS,iw,mO,av,aj,bg]<;>try refine ae ?_ ?_)
        exact⟨i+1,by omega,by omega,a7,rfl⟩
      ·rw[eY] at a7;simp only[e0,if_true] at a7;rcases aU:(lC ((ck,dC),(gv,iF)) ((dA,dJ),(ep,eB))==0)
       ·rw[aU] at a7;simp only[cE,if_false] at a7;rw[a7];refine ah ?_;repeat' (intro h<;>simp only[h,go_sem,go_sem_proc,eU,gQ,gR,gS,bo,c5,pn,mH,nn,hm,d1,bL,fG,dh,eJ,bD,eY,aU,fv,hO,ez,eS,iw,mO,av,aj,bg]<;>try refine ae ?_ ?_)
       ·rw[aU] at a7;simp only[if_true] at a7;refine ah ?_;repeat' (intro h<;>simp only[h,go_sem,go_sem_proc,eU,gQ,gR,gS,bo,c5,pn,mH,nn,hm,d1,bL,fG,dh,eJ,bD,eY,aU,fv,hO,ez,eS,iw,mO,av,aj,bg]<;>try refine ae ?_ ?_)
        exact⟨i+1,by omega,by omega,a7,rfl⟩
    ·have d1:decide ((i:Int)<(D cap:Int))=false:=df;have hz:i=D cap:=by omega
     subst hz;rw[hG] at a7;replace a7:=a7.trans (xv.eq_1 ..);rw[a7];refine ah ?_;repeat' (intro h<;>simp only[h,go_sem,go_sem_proc,eU,gQ,gR,gS,bo,c5,pn,mH,nn,d1,aj]<;>try refine ae ?_ ?_)
   ·refine ah ?_;repeat' (intro h<;>simp only[h,go_sem,go_sem_proc,eU,gQ,gR,gS,j6,L,aQ,az,eT,acB,Uo,aj]<;>try refine ae ?_ ?_)
def mJ (ls:List cn)(n:Nat):List (cb×Bool):=(qj n).map (mG kp ls n)
def xw (ls:List cn)(n:Int):List ax×List ax×Int :=
 if ow ls n=true then
  (if ((l7 (ch n.toNat kp) (ch n.toNat hi) ls).2.2==0)=true then
   (if ((l7 (ch n.toNat kp) (ch n.toNat hi) ls).1.any λx => !(x.1.1==0))=true then ([],(l7 (ch n.toNat kp) (ch n.toNat hi) ls).1,16)
   else if (mJ ls n.toNat).all (·.2)=true then ((mF ((mJ ls n.toNat).map (·.1)) n.toNat).1,[],(mF ((mJ ls n.toNat).map (·.1)) n.toNat).2) else ([],[],6))
  else ([],[],(l7 (ch n.toNat kp) (ch n.toNat hi) ls).2.2))
 else ([],[],1)
def rM (s:List ax×List ax×Int):Data:=.dq [.ar (s.1.map av),.ar (s.2.1.map av),.int .i64 s.2.2]
def afg {cap base:List ax}{ls:List cn}(Y:∀f∈cap,okF f)(U:∀f∈base,okF f)(ag:(D base)=D cap)(aC:(D cap)<=40):∀(k:Nat) (left:List Bool) (rounds:List (List Nat)),ih (pf cap base ls k left rounds).1
 |0,_,_=>⟨by simp[pf],λf al=>by cases al⟩
 |k+1,left,rounds=>by
  have au:ih ([]:List ax):=⟨by simp,λf al=>by cases al⟩
  unfold pf
  split
  ·split
   ·exact au
   ·exact (Pz Y U ag aC).1
   ·exact afg Y U ag aC k _ _
  ·exact au
def K1 {cap base:List ax}{ls:List cn}(h:ox cap base ls):ih (l7 cap base ls).1:=by
 unfold l7
 split
 ·rename_i M;obtain⟨U,aC,-⟩:=xq M;exact afg h.1.2 h.2.1.2 U aC _ _ _
 ·exact⟨by simp,λf al=>by cases al⟩
def K2:=bI xe λ(ls,n)=>ca (qQ ls) (.same (rM (xw ls n)))
@[go_sem] def Wy (ls n):=cl K2 rfl O2 (ls,n) rfl
def ar0 (T:bj)(k6:T B5=aG F5)(e8:T tL=aG CR)(pc:T EN=aG Kb)(fS:T yp=aG Dj)(gQ:T tI=aG sO)(p5:T IV=aG KE)(p6:T IA=aG J9):WF T acd K2:=by
 refine b7 λ(ls,n)=>cq λY=>⟨rfl,b6 ?_⟩;simp only[acd,xe,bX];unfold xw;rcases M:ow ls n
 ·simp only[cE,if_false];refine ah ?_;repeat' (intro (ai:_=_)<;>simp only[ai,go_sem,go_sem_proc,k6,e8,pc,fS,gQ,p5,p6,Y,M,rM,bP]<;>try refine ae ?_ ?_)
 ·simp only[if_true];obtain⟨au,KI,Ds,eZ⟩:=GC M;obtain⟨n,rfl⟩:=vJ au;simp only[lX];have aC:n<=40:=by omega
  have a2:=F7 0 (by unfold dY;omega);have F:=F7 1 (by unfold dY;omega);rw[show ee ((0:Int):Rat)=hi from rfl] at a2;rw[show ee ((1:Int):Rat)=kp from rfl] at F;have Dd:=xm;have vM:=Db;have j6:ox (ch n kp) (ch n hi) ls:=⟨⟨by rw[hs];omega,λf al=>by rw[pM] at al;rw[al.2];exact vM⟩,⟨by rw[hs];omega,λf al=>by rw[pM] at al;rw[al.2];exact Dd⟩,Y⟩
  have cW:=PG _ _ _ j6;have K3:=K1 j6;generalize l7 (ch n kp) (ch n hi) ls=S at *;obtain⟨l6,Dt,KT⟩:=S;simp only[CM] at cW;dsimp only[l8] at cW K3;dsimp only;have jG:(mJ ls n).length=n:=by unfold mJ;rw[aj,tF]
  have uC:∀i,i<n->(mJ ls n)[i]?=some (mG kp ls n i):=λi ab=>by
   unfold mJ;rw[bg,r3 ab]
   rfl
  have p4:∀x∈mJ ls n,lD x.1:=λx L=>by
   unfold mJ at L;rw[h7] at L;obtain⟨i,ab,rfl⟩:=L;exact zc vM aC
  generalize fa:mJ ls n=A at *;generalize hi=nb at *;generalize kp=aw at *;obtain⟨⟨iP,je⟩,⟨kL,kM⟩⟩:=nb;obtain⟨⟨kq,jK⟩,⟨pd,pe⟩⟩:=aw;simp only[av] at a2 F;have q8:=λs l s2 Z=>adv s l s2 Z n (by omega);rcases Dv:(KT==0)
  ·simp only[cE,if_false];refine ah ?_;repeat' (intro (ai:_=_)<;>simp only[ai,go_sem,go_sem_proc,k6,e8,pc,fS,gQ,p5,p6,Y,M,a2,F,q8,cW,Dv,rM,bP,hs]<;>try refine ae ?_ ?_)
  ·simp only[if_true];rcases u0:l6.any λx => !(x.1.1==0)
   ·simp only[cE,if_false];simp only[go_sem,go_sem_proc,k6,e8,pc,fS,gQ,p5,p6,Y,M,a2,F,q8,cW,Dv,K3,u0,acC,Up,hs]
    refine cX [0,1,42] [386007] (λ((i,g):Nat×Nat) tm m=>i<=n/\(A.take i).all (·.2)=true/\tm 43=.J (.int .i64 i)/\tm 11=.ref 386059 g 5 0 i/\m 386059=some (g,aS cG ((A.take i).map (·.1)))/\dP 386 emp m) (λ(i,_)=>n-i) (0,0) (by
     refine⟨dG _,by simp,rfl,?_,?_,?_⟩
     ·simp[gM,aV]
     ·simp[aV,aS,gM]
     ·repeat first|exact dP.refl _ _|refine dP.ea ?_ (by decide)) ?_
    intro vs ms aK aF;simp only[go_sem,go_sem_proc,k6,e8,pc,fS,gQ,p5,p6,] at aK aF;subst aK aF;rintro⟨i,g⟩ tm m R hm ⟨ab,cZ,zh,dX,PS,dr⟩;simp only[go_sem,go_sem_proc,k6,e8,pc,fS,gQ,p5,p6,bl] at R hm;obtain⟨er,bo,zi⟩:=R;rcases du (i<n) with aq|bD
    ·have d1:decide ((i:Int)<(n:Int))=true:=c7;have bL:=e2 (i:=i) (by omega);have vN:=uC i aq;have dO:=Wa kq jK pd pe ls n i ⟨vM,Y,aC,aq,λl ag _=>by have:=eZ l ag;omega⟩
     generalize mG ((kq,jK),(pd,pe)) ls n i=db at *;have oq:A.take (i+1)=A.take i++[db]:=by rw[ho,vN];rfl
     have Dh:(A.take (i+1)).all (·.2)=db.2:=by rw[oq,Di,cZ];simp
     have zg:(A.take (i+1)).map (·.1)=(A.take i).map (·.1)++[db.1]:=by rw[oq,pT];rfl
     have b9:((A.take i).map (·.1)).length=i:=by rw[aj,gk];omega
     have c1:=λ(bH:cb) cs iJ=>lq m6 (λ_=>rfl) 386059 g 88 ((A.take i).map (·.1)) bH (cs:=cs) iJ (by omega) (by omega);simp only[b9] at c1;have jW:db.2=false->A.all (·.2)=false:=λh=>Wc vN h;clear fa uC;obtain⟨⟨vO,⟨v1,v2⟩,⟨fg,v4⟩⟩,ok⟩:=db;simp only[cG,av] at dO;rcases ok
     ·rw[jW rfl];simp only[cE,if_false];refine ah ?_;repeat' (intro (ai:_=_)<;>simp only[ai,go_sem,go_sem_proc,k6,e8,pc,fS,gQ,p5,p6,er,bo,zi,zh,dX,PS,hm,d1,bL,F,dO,rM,bP,av]<;>try refine ae ?_ ?_)
     ·have jh:=c1 (vO,((v1,v2),(fg,v4))) _ rfl;simp only[cG,av,g0,bP] at jh;rw[<-zg] at jh;refine ah ?_;repeat' (intro (ai:_=_)<;>simp only[ai,go_sem,go_sem_proc,k6,e8,pc,fS,gQ,p5,p6,er,bo,zi,zh,dX,PS,hm,d1,bL,F,dO,jh,av]<;>try refine ae ?_ ?_)
      exact⟨(i+1,g+1),by dsimp only;omega,by dsimp only;omega,Dh,rfl,rfl,rfl,by repeat first|exact dr|refine dP.ea ?_ (by decide)⟩
    ·have d1:decide ((i:Int)<(n:Int))=false:=df;have hz:i=n:=by omega
     subst hz;have k5:A.take i=A:=dF (by omega);rw[k5] at cZ PS;rw[cZ];simp only[if_true]
     have ek:=adn (A.map (·.1)) i ⟨by rw[aj];omega,λr M=>by
      obtain⟨x,L,rfl⟩:=h7.1 M;exact p4 x L⟩
     have nc:=λ(K:a8->Prop) (st:a8)=>sl (K:=K) (st:=st) m6 11 386059 g (A.map (·.1));rw[aj,jG] at nc;generalize mF (A.map (·.1)) i=S at *;obtain⟨l6,e⟩:=S;dsimp only at ek ⊢;refine ah ?_;repeat' (intro (ai:_=_)<;>simp only[ai,go_sem,go_sem_proc,k6,e8,pc,fS,gQ,p5,p6,er,bo,zi,zh,dX,PS,hm,d1,nc,ek,rM,bP]<;>try refine ae ?_ ?_)
   ·simp only[if_true];refine ah ?_;repeat' (intro (ai:_=_)<;>simp only[ai,go_sem,go_sem_proc,k6,e8,pc,fS,gQ,p5,p6,Y,M,a2,F,q8,cW,Dv,K3,u0,acC,Up,rM,bP,hs]<;>try refine ae ?_ ?_)
def afh:bG:=bV 28 1 [.cell 2 2 true] (O [bR 2 144002 c6] (.seq (O [E 6 0,bd 7 .eql 6 0] (bQ 7 [aB 8 (.build c6 []),a1 2 2 8])) (O [ba 3 1] (.seq (O [E 9 0,bd 10 .lss 9 0] (fj 10 (.ops [aB 3 (.iu (.c (.J (.int .i64 (-1)))))]) .skip)) (O [cH 4] (.seq (.block 0 (.ghost (.mM 4 144022 1) (.loop  (.seq (O [E 11 0,bd 12 .neq 11 0] (de 12 0)) (.block 1 (O [E 13 0,bd 14 .rem 13 1048576,E 5 14] (.seq (O [E 15 5,bd 16 .lss 15 0] (fj 16 (.ops [E 17 5,aB 18 (.un .neg (.t 17)),E 5 18]) .skip)) (O [E 19 4,E 20 5,aB 21 (.dN 144021 false [bn 0] 1 1 [(0,1,.t 20)]),aB 22 (.app 144022 [bn 0] 8 (.t 19) (.t 21)),E 4 22] (.ops [E 23 0,bd 24 .quo 23 1048576,E 0 24]))))))))) (.seq (.ghost (.freeze 4) (.ops [E 25 3,E 26 4,bK 27 od 25 26,a1 2 2 27])) .ret)))))))
def afi:bG:=bV 60 1 [.t 2] (O [cm 1 162001 0,bY 2 false] (.seq (O [ba 3 0] (dU 0 (.seq (O [E 5 3,aE 6 1 1,aJ 7 1 6,cg 8 7,bt 9 .lss 5 8] (de 9 0)) (.seq (.block 1 (O [aE 12 1 1,aJ 13 1 12,E 14 3,bE 15 1 13 14,aJ 16 1 15,bd 17 .lss 16 0,E 18 17,fr 19 18 1 1,fA 20 18 1 19,dK 21 18 3,sw 22 18 1 20 21,fA 23 18 1 22,gN 24 18 .geq 23 1048576,cF 25 18 24] (bQ 25 [bY 2 false]))) (.ops [E 10 3,bd 11 .add 10 1,E 3 11]))))) (O [aE 26 1 1,aJ 27 1 26,cg 28 27,E 4 28] (.seq (O [aE 29 0 1,aJ 30 1 29,aB 31 (.bin .lss (.t 30) (.c (.J (.int .i64 (-1))))),E 32 31,fr 33 32 0 1,fA 34 32 1 33,gN 35 32 .gtr 34 1,cF 36 32 35,E 37 36,dK 38 37 4,gN 39 37 .gtr 38 60,cF 40 37 39,E 41 40,dK 42 41 4,gN 43 41 .eql 42 0,fr 44 41 0 1,fA 45 41 1 44,gN 46 41 .eql 45 0,fs 47 41 (.beq true (.t 43) (.t 46)),cF 48 41 47] (bQ 48 [bY 2 false])) (O [E 49 4,bd 50 .eql 49 0,E 51 50,fr 52 51 1 1,fA 53 51 1 52,dK 54 51 4,gN 55 51 .sub 54 1,sw 56 51 1 53 55,fA 57 51 1 56,gN 58 51 .neq 57 0,cF 59 51 58,E 2 59] .ret)))))
def afj:bG:=bV 13 1 [.cell 2 2 true] (O [cm 1 163001 0,bR 2 163002 c6] (.seq (O [aD 3 2 1,c8 4 kG 3,dT 5 4] (bQ 5 [aB 6 (.build c6 []),a1 2 2 6])) (O [aE 7 0 1,aJ 8 1 7,aB 9 (.un .neg (.t 8)),aE 10 1 1,aJ 11 1 10,bK 12 od 9 11,a1 2 2 12] .ret)))
def afk:bG:=bV 36 2 [.cell 4 2 true,.t 5] (O [cm 2 164002 0,cm 3 164003 1,bR 4 164004 c6,ba 5 0] (.seq (O [aD 10 2 2,c8 11 kG 10,dT 12 11,E 13 12,hx 14 13 2 3,fs 15 13 (.call kG [.t 14]),ib 16 13 15,cF 17 13 16] (bQ 17 [aB 18 (.build c6 []),a1 2 4 18,ba 5 1])) (O [aE 19 1 2,aJ 20 1 19,E 6 20] (O [aE 21 1 3,aJ 22 1 21,E 7 22] (.seq (dU 0 (.seq (O [E 23 7,cg 24 23,bd 25 .gtr 24 0] (de 25 0)) (.block 1 (O [E 27 6,E 28 7,bK 29 IL 27 28,E 26 29,aP 30 0 26,aP 31 1 26,E 8 30,E 9 31] (O [E 32 7,E 6 32] (.ops [E 33 9,E 7 33])))))) (O [E 34 6,aB 35 (.call od [.c (bn 1),.t 34]),a1 2 4 35,ba 5 0] .ret))))))
def afl:bG:=bV 65 2 [.cell 4 2 true,.cell 5 2 true,.t 6] (O [cm 2 165002 0,cm 3 165003 1,bR 4 165004 c6,bR 5 165005 c6,ba 6 0] (.seq (O [aD 9 2 2,c8 10 kG 9,dT 11 10,E 12 11,hx 13 12 2 3,fs 14 12 (.call kG [.t 13]),ib 15 12 14,cF 16 12 15] (bQ 16 [aB 17 (.build c6 []),aB 18 (.build c6 []),a1 2 4 17,a1 2 5 18,ba 6 1])) (.seq (O [aE 19 0 3,aJ 20 1 19,bd 21 .eql 20 0] (bQ 21 [aB 22 (.build c6 []),aB 23 (.build c6 []),a1 2 4 22,a1 2 5 23,ba 6 15])) (O [aE 25 1 2,aJ 26 1 25,aE 27 1 3,aJ 28 1 27,bK 29 IL 26 28,E 24 29,aP 30 0 24,aP 31 1 24,E 7 30,E 8 31] (.seq (O [aE 32 0 2,aJ 33 1 32,aE 34 0 3,aJ 35 1 34,bt 36 .mul 33 35,bd 37 .geq 36 0,E 38 37,dK 39 38 8,nJ 40 38 39,gN 41 38 .eql 40 0,cF 42 38 41] (fj 42 (e3 [aE 43 0 2,aJ 44 1 43,aE 45 0 3,aJ 46 1 45,bt 47 .mul 44 46,E 48 7,bK 49 od 47 48,aE 50 0 2,aJ 51 1 50,E 52 8,bK 53 od 51 52,a1 2 4 49,a1 2 5 53,ba 6 0] Nz .ret) .skip)) (e3 [E 54 7,aB 55 (.dN 165055 false [bn 0] 1 1 [(0,1,.c (bn 1))]),bK 56 IM 54 55,aB 57 (.call od [.c (.J (.int .i64 (-1))),.t 56]),aE 58 0 3,aJ 59 1 58,aE 60 1 3,aJ 61 1 60,E 62 8,bK 63 z8 61 62,bK 64 od 59 63,a1 2 4 57,a1 2 5 64,ba 6 0] Nz .ret))))))
def afm:bG:=bV 15 2 [.cell 4 2 true] (O [bR 4 166004 c6] (O [E 6 1,c8 7 ss 6,E 5 7] (.seq (O [E 8 5,cg 9 8,bd 10 .eql 9 0] (bQ 10 [aB 11 (.build c6 []),a1 2 4 11])) (O [E 12 0,E 13 5,aB 14 (.build c6 [(0,1,.t 12),(1,1,.t 13)]),a1 2 4 14] .ret))))
def PT:bG:=bV 60 2 [.t 4,.t 5] (O [cH 4,cH 5] (O [E 12 0,cg 13 12,aB 14 (.la 180014 [bn 0] 8 (.t 13) (.t 13)),E 6 14] (O [cH 7] (.seq (O [E 15 0,cg 16 15,bd 17 .sub 16 1,E 8 17] (dU 0 (.seq (O [E 18 8,bd 19 .geq 18 0] (de 19 0)) (.seq (.block 1 (O [E 22 0,E 23 8,bE 24 1 22 23,aJ 25 1 24,aB 26 (.dN 180026 true [bn 0] 1 1 [(0,1,.t 25)]),E 27 7,aB 28 (.app 180028 [bn 0] 8 (.t 26) (.t 27)),c8 29 ss 28,E 7 29] (O [ba 9 0] (O [ba 10 1048576] (.seq (dU 2 (.seq (O [E 30 10,E 31 9,bt 32 .sub 30 31,bd 33 .gtr 32 1] (de 33 2)) (.block 3 (O [E 34 9,E 35 10,bt 36 .add 34 35,bd 37 .quo 36 2,E 11 37] (O [E 38 7,E 39 1,E 40 11,aB 41 (.dN 180041 false [bn 0] 1 1 [(0,1,.t 40)]),bK 42 BZ 39 41,bK 43 z9 38 42] (fj 43 (.ops [E 44 11,E 10 44]) (.ops [E 45 11,E 9 45]))))))) (O [E 46 6,E 47 8,E 48 9,bE 49 1 46 47,a1 1 49 48] (.ops [E 50 7,E 51 1,E 52 9,aB 53 (.dN 180053 false [bn 0] 1 1 [(0,1,.t 52)]),c8 54 ss 53,bK 55 BZ 51 54,bK 56 z8 50 55,E 7 56]))))))) (.ops [E 20 8,bd 21 .sub 20 1,E 8 21]))))) (O [E 57 6,c8 58 ss 57,E 59 7,E 4 58,E 5 59] .ret)))))
def afn:bG:=bV 43 2 [.t 4] (O [cH 4] (O [cH 5] (O [ba 6 0] (.seq (O [ba 7 0] (.block 0 (.ghost (.mM 5 181038 1) (.loop  (.seq (O [E 9 7,E 10 0,cg 11 10,bt 12 .lss 9 11,E 13 12,dK 14 13 7,dK 15 13 1,nJ 16 13 15,nK 17 13 .lss 14 16,cF 18 13 17,E 19 18,dK 20 19 6,gN 21 19 .gtr 20 0,cF 22 19 21] (de 22 0)) (.seq (.block 1 (O [E 25 0,E 26 7,bK 27 su 25 26,E 28 1,E 29 7,bK 30 su 28 29,bt 31 .add 27 30,E 32 6,bt 33 .add 31 32,E 8 33] (O [E 34 5,E 35 8,bd 36 .rem 35 1048576,aB 37 (.dN 181037 false [bn 0] 1 1 [(0,1,.t 36)]),aB 38 (.app 181038 [bn 0] 8 (.t 34) (.t 37)),E 5 38] (.ops [E 39 8,bd 40 .quo 39 1048576,E 6 40])))) (.ops [E 23 7,bd 24 .add 23 1,E 7 24]))))))) (O [E 41 5,c8 42 ss 41,E 4 42] .ret)))))
def afo:bG:=bV 35 2 [.t 4] (O [cH 4] (O [cH 5] (O [ba 6 0] (.seq (O [ba 7 0] (.block 0 (.ghost (.mM 5 182032 1) (.loop  (.seq (O [E 9 7,E 10 0,cg 11 10,bt 12 .lss 9 11] (de 12 0)) (.seq (.block 1 (e3 [E 15 0,E 16 7,bE 17 1 15 16,aJ 18 1 17,E 19 1,E 20 7,bK 21 su 19 20,bt 22 .sub 18 21,E 23 6,bt 24 .sub 22 23,E 8 24] IX (O [ba 6 0] (.seq (O [E 25 8,bd 26 .lss 25 0] (fj 26 (O [E 27 8,bd 28 .add 27 1048576,E 8 28] (.ops [ba 6 1])) .skip)) (.ops [E 29 5,E 30 8,aB 31 (.dN 182031 false [bn 0] 1 1 [(0,1,.t 30)]),aB 32 (.app 182032 [bn 0] 8 (.t 29) (.t 31)),E 5 32]))))) (.ops [E 13 7,bd 14 .add 13 1,E 7 14]))))))) (O [E 33 5,c8 34 ss 33,E 4 34] .ret)))))
def afp:bG:=bV 23 1 [.t 2] (O [cH 2] (O [E 4 0,cg 5 4,E 3 5] (.seq (dU 0 (.seq (O [E 6 3,bd 7 .gtr 6 0,E 8 7,ev 9 8 0,ev 10 8 3,kj 11 8 .sub 10 1,rn 12 8 1 9 11,iz 13 8 1 12,kj 14 8 .eql 13 0,fF 15 8 14] (de 15 0)) (.block 1 (.ops [E 16 3,bd 17 .sub 16 1,E 3 17])))) (O [aB 18 (.dN 183018 true [] 1 0 []),E 19 0,E 20 3,aB 21 (.q1 1 (.t 19) none (some (.t 20)) none),aB 22 (.app 183022 [bn 0] 8 (.t 18) (.t 21)),E 2 22] .ret))))
def afq:bG:=bV 30 2 [.t 4] (O [bY 4 false] (.seq (O [E 6 0,cg 7 6,E 8 1,cg 9 8,aB 10 (.lS true (.t 7) (.t 9)),bd 11 .sub 10 1,E 5 11] (dU 0 (.seq (O [E 12 5,bd 13 .geq 12 0] (de 13 0)) (.seq (.block 1 (O [E 16 0,E 17 5,bK 18 su 16 17,E 19 1,E 20 5,bK 21 su 19 20,bt 22 .neq 18 21] (bQ 22 [E 23 0,E 24 5,bK 25 su 23 24,E 26 1,E 27 5,bK 28 su 26 27,bt 29 .lss 25 28,E 4 29]))) (.ops [E 14 5,bd 15 .sub 14 1,E 5 15]))))) (O [bY 4 false] .ret)))
def afr:bG:=bV 60 2 [.t 4] (O [cH 4] (O [E 10 0,cg 11 10,E 12 1,cg 13 12,bt 14 .add 11 13,aB 15 (.la 186015 [bn 0] 8 (.t 14) (.t 14)),E 5 15] (.seq (O [ba 6 0] (dU 0 (.seq (O [E 16 6,E 17 0,cg 18 17,bt 19 .lss 16 18] (de 19 0)) (.seq (.block 1 (O [ba 7 0] (O [ba 8 0] (dU 2 (.seq (O [E 22 8,E 23 1,cg 24 23,bt 25 .lss 22 24,E 26 25,dK 27 26 7,gN 28 26 .gtr 27 0,cF 29 26 28] (de 29 2)) (.seq (.block 3 (e3 [E 32 5,E 33 6,E 34 8,bt 35 .add 33 34,bE 36 1 32 35,aJ 37 1 36,E 38 0,E 39 6,bE 40 1 38 39,aJ 41 1 40,E 42 1,E 43 8,bK 44 su 42 43,bt 45 .mul 41 44,bt 46 .add 37 45,E 47 7,bt 48 .add 46 47,E 9 48] alH (O [E 49 5,E 50 6,E 51 8,bt 52 .add 50 51,E 53 9,bd 54 .rem 53 1048576,bE 55 1 49 52,a1 1 55 54] (.ops [E 56 9,bd 57 .quo 56 1048576,E 7 57])))) (.ops [E 30 8,bd 31 .add 30 1,E 8 31]))))))) (.ops [E 20 6,bd 21 .add 20 1,E 6 21]))))) (O [E 58 5,c8 59 ss 58,E 4 59] .ret))))
def afs:bG:=bV 13 2 [.t 4] (O [ba 4 0] (.seq (O [E 5 1,E 6 0,cg 7 6,bt 8 .lss 5 7] (bQ 8 [E 9 0,E 10 1,bE 11 1 9 10,aJ 12 1 11,E 4 12])) (O [ba 4 0] .ret)))
def aft:bG:=bV 29 2 [.cell 4 2 true,.t 5] (O [cm 2 202002 0,cm 3 202003 1,bR 4 202004 c6,ba 5 0] (.seq (O [aD 6 2 2,c8 7 kG 6,dT 8 7,E 9 8,hx 10 9 2 3,fs 11 9 (.call kG [.t 10]),ib 12 9 11,cF 13 9 12] (bQ 13 [aB 14 (.build c6 []),a1 2 4 14,ba 5 1])) (e3 [aE 15 0 2,aJ 16 1 15,aE 17 0 3,aJ 18 1 17,bt 19 .mul 16 18,aE 20 1 2,aJ 21 1 20,aE 22 1 3,aJ 23 1 22,bK 24 BZ 21 23,bK 25 od 19 24,c8 26 B0 25,aP 27 0 26,aP 28 1 26,a1 2 4 27,E 5 28] IY .ret)))
def afu:bG:=bV 21 2 [.cell 4 2 true,.t 5] (O [cm 2 203002 0,cm 3 203003 1,bR 4 203004 c6,ba 5 0] (.seq (O [aD 8 2 3,c8 9 kG 8,dT 10 9] (bQ 10 [aB 11 (.build c6 []),a1 2 4 11,ba 5 1])) (e3 [aD 13 2 2,aD 14 2 3,c8 15 ET 14,bK 16 IT 13 15,E 12 16,aP 17 0 12,aP 18 1 12,bR 6 203006 c6,a1 2 6 17,E 7 18] [[],[],[],[],[],[],[],[0,1],[],[]] (O [aD 19 2 6,E 20 7,a1 2 4 19,E 5 20] .ret))))
def afv:bG:=bV 37 2 [.t 4] (O [cm 2 205002 0,cm 3 205003 1,ba 4 0] (.seq (O [aD 5 2 2,c8 6 kG 5,dT 7 6,E 8 7,hx 9 8 2 3,fs 10 8 (.call kG [.t 9]),ib 11 8 10,cF 12 8 11,E 13 12,hx 14 13 2 2,hx 15 13 2 3,fs 16 13 (.call SV [.t 14,.t 15]),cF 17 13 16] (bQ 17 [ba 4 0])) (.seq (O [aE 18 0 2,aJ 19 1 18,aE 20 0 3,aJ 21 1 20,bt 22 .neq 19 21] (fj 22 (.seq (O [aE 23 0 2,aJ 24 1 23,aE 25 0 3,aJ 26 1 25,bt 27 .lss 24 26] (bQ 27 [aB 4 (.iu (.c (.J (.int .i64 (-1)))))])) (O [ba 4 1] .ret)) .skip)) (.seq (e3 [aE 28 1 2,aJ 29 1 28,aE 30 1 3,aJ 31 1 30,bK 32 z9 29 31,aE 33 0 2,aJ 34 1 33,bd 35 .gtr 34 0,aB 36 (.beq false (.t 32) (.t 35))] Te (bQ 36 [aB 4 (.iu (.c (.J (.int .i64 (-1)))))])) (O [ba 4 1] .ret)))))
def afw:bG:=bV 71 2 [.cell 4 2 true,.t 5] (O [cm 2 206002 0,cm 3 206003 1,bR 4 206004 c6,ba 5 0] (.seq (O [aD 6 2 2,c8 7 kG 6,dT 8 7,E 9 8,hx 10 9 2 3,fs 11 9 (.call kG [.t 10]),ib 12 9 11,cF 13 9 12] (bQ 13 [aB 14 (.build c6 []),a1 2 4 14,ba 5 1])) (.seq (O [aE 15 0 2,aJ 16 1 15,bd 17 .eql 16 0,E 18 17,fr 19 18 0 3,fA 20 18 1 19,gN 21 18 .eql 20 0,cF 22 18 21,E 23 22,fr 24 23 0 2,fA 25 23 1 24,fr 26 23 0 3,fA 27 23 1 26,nK 28 23 .eql 25 27,cF 29 23 28] (fj 29 (e3 [aE 30 0 2,aJ 31 1 30,aE 32 0 3,aJ 33 1 32,bt 34 .or 31 33,aE 35 1 2,aJ 36 1 35,aE 37 1 3,aJ 38 1 37,bK 39 IM 36 38,bK 40 od 34 39,c8 41 B0 40,aP 42 0 41,aP 43 1 41,a1 2 4 42,E 5 43] IY .ret) .skip)) (.seq (O [aE 44 1 2,aJ 45 1 44,aE 46 1 3,aJ 47 1 46,bK 48 z9 45 47] (fj 48 (e3 [aE 49 0 3,aJ 50 1 49,aE 51 1 3,aJ 52 1 51,aE 53 1 2,aJ 54 1 53,bK 55 z8 52 54,bK 56 od 50 55,c8 57 B0 56,aP 58 0 57,aP 59 1 57,a1 2 4 58,E 5 59] Ny .ret) .skip)) (e3 [aE 60 0 2,aJ 61 1 60,aE 62 1 2,aJ 63 1 62,aE 64 1 3,aJ 65 1 64,bK 66 z8 63 65,bK 67 od 61 66,c8 68 B0 67,aP 69 0 68,aP 70 1 68,a1 2 4 69,E 5 70] Ny .ret)))))
def afx:bG:=bV 10 1 [.cell 2 2 true,.t 3] (O [cm 1 209001 0,bR 2 209002 c6,ba 3 0] (.seq (O [aE 4 1 1,aJ 5 1 4,cg 6 5,bd 7 .gtr 6 60] (bQ 7 [aB 8 (.build c6 []),a1 2 2 8,ba 3 6])) (O [aD 9 2 1,a1 2 2 9,ba 3 0] .ret)))
def afy:bG:=bV 38 2 [.t 4] (O [cm 2 210002 0,cm 3 210003 1,bY 4 false] (.seq (O [aE 6 0 2,aJ 7 1 6,aE 8 0 3,aJ 9 1 8,bt 10 .neq 7 9,E 11 10,fr 12 11 1 2,fA 13 11 1 12,nJ 14 11 13,fr 15 11 1 3,fA 16 11 1 15,nJ 17 11 16,nK 18 11 .neq 14 17,cF 19 11 18] (bQ 19 [bY 4 false])) (.seq (O [ba 5 0] (dU 0 (.seq (O [E 20 5,aE 21 1 2,aJ 22 1 21,cg 23 22,bt 24 .lss 20 23] (de 24 0)) (.seq (.block 1 (e3 [aE 27 1 2,aJ 28 1 27,E 29 5,bE 30 1 28 29,aJ 31 1 30,aE 32 1 3,aJ 33 1 32,E 34 5,bE 35 1 33 34,aJ 36 1 35,bt 37 .neq 31 36] IX (bQ 37 [bY 4 false]))) (.ops [E 25 5,bd 26 .add 25 1,E 5 26]))))) (O [bY 4 true] .ret))))
def GH (l:List Int):Ew (.own 1 (l.map aI))=some (.own 1 (l.map aI)):=by
 refine aL ?_;rw[kA];intro e he;obtain⟨d,-,rfl⟩:=h7.1 he;simp[aI,scalar]
def Dw (n k g sz off len:Nat):cN n emp (.ref k g sz off len)=none:=by cases n<;>rfl
def zj:=bI wJ λ(l:List Int)=>ca (D l<=1000000) (.own 1 ((fP l).map aI))
@[go_sem] def Dx (l):=cl zj rfl NB l rfl
def ar1 (T:bj):WF T afp zj:=by
 refine b7 λl=>cq λY=>⟨rfl,b6 ?_⟩;simp only[afp,wJ,bX];have kT:((l.map aI).all λe=>D e==1)=true:=by simp[aI]
 refine ah ?_;repeat' (intro h<;>simp only[h,go_sem,go_sem_proc,aj]<;>try refine ae ?_ ?_)
 refine cX [0] [] (λ(n:Nat) tm mem=>n<=D l/\fP l=fP (l.take n)/\tm 3=.J (.int .i64 n)/\mem 183018=none) (λn=>n) (D l) (by refine⟨c9 _,by simp,by simp[go_sem],rfl⟩) ?_;intro vs ms aK aF;simp only[go_sem,go_sem_proc,aj] at aK aF;subst aK aF;rintro n tm mem R-⟨aC,bN,ad,Wz⟩;simp only[go_sem,go_sem_proc,bl] at R;have au:=R
 have c1:∀o:List Int,D o<=(D l)->lf 183018 0 1 0 8 (D o) ((o.map aI).flatten.map .J) (some (0,[]))=some (.ref 183018 1 1 0 (D o),some (183018,1,aS aI o)):=by
  intro o a6;have:=z1 jA wG 183018 0 8 [] o (by simp;omega) (by simp;omega)
  simpa [aS] using this
 have wu:∀(o:List Int) (m:Mem),m 183018=some (1,aS aI o)->qy 1 m (.ref 183018 1 1 0 (D o))=some (o.map aI):=by
  intro o m hm;have:=aau hm (c9 _);rwa [dF (c9 _)] at this
 have ar2:∀o:List Int,((o.map aI).all λe=>D e==1)=true:=λo=>by simp[aI]
 rcases n with _|n
 ·have F:=c1 [] (by simp);have a6:=wu [];simp only[bP,afz,mV] at F a6;refine ah ?_;repeat' (intro h<;>simp only[h,go_sem,go_sem_proc,au,ad,Wz,kT,F,oe,oV,show ¬ ((0:Int)>0) by omega,decide_false,aj,show (0:Int).toNat=0 from rfl,show (0:Int)<=0 by omega,dG,List.take_zero,bP,mV]<;>try refine ae ?_ ?_)
  rw[a6 _ (by simp[aV]),bN];simp[fP]
 ·have hw:IntKind.i64.wrap (((n+1:Nat):Int)-1)=(n:Int):=by rw[fK _];omega
  have L:l[n]?=some l[n]:=bf (by omega);have h3:((n+1:Nat):Int)>0:=by omega
  have hle:n+1<=D l:=aC
  by_cases a2:l[n]=0
  ·refine ah ?_;repeat' (intro h<;>simp only[h,go_sem,go_sem_proc,au,ad,hw,L,a2,h3,aj,bg,decide_true,aI,beq_self_eq_true,bl]<;>try refine ae ?_ ?_)
   exact⟨n,by omega,by omega,by rw[bN,Tf l n (by omega) a2],rfl,Wz⟩
  ·have lW:(l[n]==0)=false:=by simpa using a2
   have F:=c1 (l.take (n+1)) (by rw[gk];omega);rw[gk,n7 hle,afA] at F;have br:(mZ (n+1) (l.map aI)).length=n+1:=by rw[gk,aj];omega
   have afB:=ar2 (l.take (n+1));rw[afA] at afB;refine ah ?_;repeat' (intro h<;>simp only[h,go_sem,go_sem_proc,au,ad,Wz,hw,L,lW,h3,kT,afB,hle,F,br,aI,aj,bg,decide_true,bl,show (0:Int)<=((n+1:Nat):Int) by omega,lX,dG]<;>try refine ae ?_ ?_)
   have a6:=wu (l.take (n+1)) _ (show aV (aV mem 183018 0 []) 183018 1 (aS aI (mZ (n+1) l)) 183018=_ by simp[aV])
   rw[gk,n7 hle] at a6;rw[a6,bN,Tg l n (by omega) a2]
abbrev PU:(List Int)×Nat->List Data:=λ(l,i)=>[.ar (l.map aI),.int .i64 i]
def Dy:=bI PU λ(l,i)=>ca (D l<=1000000) (.same (.int .i64 (l.getD i 0)))
def ar3:∀a b,PU a=PU b->a=b:=by
  rintro⟨hZ,i1⟩ ⟨Z,i2⟩ h;simp only[bl,Data.ar.injEq,Data.int.injEq] at h;exact cz (map_inj fX _ _ h.1) (by have:=h.2.1.2;dsimp only;omega)
@[go_sem] def afC (l i):=cl Dy rfl ar3 (l,i) rfl
def ar4 (T:bj):WF T afs Dy:=by
 refine b7 λ(l,i)=>cq λY=>⟨rfl,b6 ?_⟩;simp only[afs,PU,bX];rcases gY i (D l) with aq|bD
 ·have L:=bf aq;have af:decide ((i:Int)<(D l:Int))=true:=c7;have aN:l.getD i 0=l[i]:=by rw[dH,L];rfl
  rw[aN];refine ah ?_;repeat' (intro h<;>simp only[h,go_sem,go_sem_proc,L,af,aI,aj,bg]<;>try refine ae ?_ ?_)
 ·have af:decide ((i:Int)<(D l:Int))=false:=df;have aN:l.getD i 0=0:=by rw[dH,lk bD];rfl
  rw[aN];refine ah ?_;repeat' (intro h<;>simp only[h,go_sem,go_sem_proc,af,aj]<;>try refine ae ?_ ?_)
def GI (n i:Nat):(aH n).getD i 0=((n/1048576^i%1048576:Nat):Int):=by
 induction i generalizing n with
 |zero =>
  rcases ln n with h|h
  ·subst h;rfl
  ·rw[tG h,Nat.pow_zero,Nat.div_one];rfl
 |succ i a4 =>
  rcases ln n with h|h
  ·subst h;rw[Nat.zero_div];rfl
  ·rw[tG h];show (aH (n/1048576)).getD i 0=_;rw[a4,afD,<-Nat.pow_succ']
def GJ (n i:Nat):n/1048576^i=n/1048576^i%1048576+1048576*(n/1048576^(i+1)):=by
 rw[z5,<-afD];omega
def AZ {n k:Nat}(h:(aH n).length<=k):n/1048576^k=0:=Nat.div_eq_of_lt (fY.1 h)
def Dz:=bI mv λ(x,y)=>ca ((aH x).length<=100000/\(aH y).length<=100000) (.same (.bool (decide (x<y))))
@[go_sem] def WA (x y):=cl Dz rfl wO (x,y) rfl
def ar5 (T:bj)(hA:T su=aG Dy):WF T afq Dz:=by
 refine b7 λ(x,y)=>cq λY=>⟨rfl,b6 ?_⟩;simp only[afq,mv,bX];obtain⟨L,ak⟩:=Y;have ic:∃dm:Nat,dm=max (aH x).length (aH y).length:=⟨_,rfl⟩;obtain⟨dm,ic⟩:=ic;have gZ:(if ((aH y).length:Int)>((aH x).length:Int) then ((aH y).length:Int) else ((aH x).length:Int))=(dm:Int):=by split<;>omega
 have Ao:IntKind.i64.wrap ((dm:Int)-1)=(dm:Int)-1:=wrap64 _ (by omega) (by omega);have mz:(aH x).length<=1000000:=by omega
 have k2:(aH y).length<=1000000:=by omega
 simp only[go_sem,go_sem_proc,hA,dv,aj,gZ,Ao];refine cX [0,1] [] (λ(i:Nat) tm mem=>i<=dm/\x/1048576^i=y/1048576^i/\tm 5=.J (.int .i64 ((i:Int)-1))) (λi=>i) dm (by refine⟨c9 _,?_,rfl⟩;rw[AZ (by omega),AZ (by omega)]) ?_;intro vs ms aK aF;simp only[go_sem,go_sem_proc,hA,dv] at aK aF;subst aK aF;rintro i tm mem R-⟨ab,he,bw⟩;simp only[go_sem,go_sem_proc,hA,bl] at R;obtain⟨au,F⟩:=R;rcases i with _|i
 ·have hl:x=y:=by simpa using he
  have aq:decide (x<y)=false:=df;rw[aq];simp only[go_sem,go_sem_proc,hA,au,F,bw,oe,oV,show ¬ ((0:Int)-1>=0) by omega,decide_false]
  repeat' (first|refine ae ?_ ?_|fail)<;>intro h<;>simp only[h,go_sem,go_sem_proc,hA,au,F,bw,oe,oV,show ¬ ((0:Int)-1>=0) by omega,decide_false]
 ·have hw:((i+1:Nat):Int)-1=(i:Int):=by omega
  have bD:decide ((i:Int)>=0)=true:=c7;have aQ:=GJ x i;have az:=GJ y i;rw[he] at aQ;have gp:IntKind.i64.wrap ((i:Int)-1)=(i:Int)-1:=wrap64 _ (by omega) (by omega);have cJ:=GI x i;have cQ:=GI y i;have bT:=oQ (x/1048576^i) (show 0<1048576 by omega);have cB:=oQ (y/1048576^i) (show 0<1048576 by omega);have bs:x/1048576^i<y/1048576^i->x<y:=λh=>afE h;have br:y/1048576^i<x/1048576^i->y<x:=λh=>afE h;generalize oh:x/1048576^i=X at *;generalize yK:y/1048576^i=nq at *;generalize y/1048576^(i+1)=nb at *;generalize X%1048576=a at *;generalize nq%1048576=b at *;rcases Nat.lt_trichotomy a b with h|h|h
  ·have bq:((a:Int)==(b:Int))=false:=by simp;omega
   have mK:decide ((a:Int)<(b:Int))=decide (x<y):=by rw[mL (show (a:Int)<(b:Int) by omega),mL (bs (by omega))]
   simp only[go_sem,go_sem_proc,hA,au,F,bw,hw,bD,cJ,cQ,mz,k2,bq,mK];repeat' (first|refine ae ?_ ?_|fail)<;>intro h<;>simp only[h,go_sem,go_sem_proc,hA,au,F,bw,hw,bD,cJ,cQ,mz,k2,bq,mK]
  ·subst h;simp only[go_sem,go_sem_proc,hA,au,F,bw,hw,bD,cJ,cQ,mz,k2,gp,beq_self_eq_true];repeat' (first|refine ae ?_ ?_|fail)<;>intro h<;>simp only[h,go_sem,go_sem_proc,hA,au,F,bw,hw,bD,cJ,cQ,mz,k2,gp,beq_self_eq_true]
   exact⟨i,by omega,by omega,by rw[oh,yK];omega,rfl⟩
  ·have bq:((a:Int)==(b:Int))=false:=by simp;omega
   have mK:decide ((a:Int)<(b:Int))=decide (x<y):=by rw[me (show ¬ (a:Int)<(b:Int) by omega),me (by have:=br (by omega);omega)]
   simp only[go_sem,go_sem_proc,hA,au,F,bw,hw,bD,cJ,cQ,mz,k2,bq,mK];repeat' (first|refine ae ?_ ?_|fail)<;>intro h<;>simp only[h,go_sem,go_sem_proc,hA,au,F,bw,hw,bD,cJ,cQ,mz,k2,bq,mK]
def WB {o:List Int}{d:Int}(h:eP o)(au:0<=d)(F:d<1048576):eP (o++[d]):=BQ.2 ⟨h,BP.2 ⟨⟨au,F⟩,by intro d af;cases af⟩⟩
def WC (o:List Int)(d:Int):a9 (o++[d])=a9 o+1048576^(D o)*d:=by rw[BR];simp[a9]
def GK {o:List Int}{n:Nat}(h:eP o)(ao:a9 o=n):fP o=aH n:=by rw[yk h,ao];rfl
def K4:=bI mv λ(x,y)=>ca ((aH x).length<=10000/\(aH y).length<=10000) (.same (dv (x+y)))
@[go_sem] def afF (x y):=cl K4 rfl wO (x,y) rfl
def ar6 (T:bj)(hA:T su=aG Dy)(hB:T ss=aG zj):WF T afn K4:=by
 refine b7 λ(x,y)=>cq λY=>⟨rfl,b6 ?_⟩;simp only[afn,mv,bX];obtain⟨L,ak⟩:=Y;have ic:∃dm:Nat,dm=max (aH x).length (aH y).length:=⟨_,rfl⟩;obtain⟨dm,ic⟩:=ic;have mz:(aH x).length<=1000000:=by omega
 have k2:(aH y).length<=1000000:=by omega
 simp only[go_sem,go_sem_proc,hA,hB,dv,aj];refine cX [0,1] [] (λ((i,c,g,o):Nat×Nat×Nat×List Int) tm mem=>i<=dm+1/\c<=1/\(i=dm+1->c=0)/\D o=i/\eP o/\a9 o+1048576^i*((x/1048576^i+y/1048576^i+c:Nat):Int)=((x+y:Nat):Int)/\tm 6=.J (.int .i64 c)/\tm 7=.J (.int .i64 i)/\tm 5=.ref 181038 g 1 0 i/\mem 181038=some (g,aS aI o)) (λ(i,_)=>dm+1-i) (0,0,0,[]) (by refine⟨by omega,by omega,by simp,rfl,by simp[eP],by simp[a9],rfl,rfl,rfl,rfl⟩) ?_;intro vs ms aK aF;simp only[go_sem,go_sem_proc,hA,hB,dv] at aK aF;subst aK aF;rintro⟨i,c,g,o⟩ tm mem R-⟨ab,iw,Am,a6,gO,ao,bA,bM,bw,hm⟩;simp only[go_sem,go_sem_proc,hA,hB,bl] at R;obtain⟨au,F⟩:=R;have aR:a9 o+1048576^i*((x/1048576^i+y/1048576^i+c:Nat):Int)=((x+y:Nat):Int):=ao
 by_cases a7:i<(aH x).length\/i<(aH y).length\/0<c
 ·have aQ:=GJ x i;have az:=GJ y i;have cJ:=GI x i;have cQ:=GI y i;have bT:=oQ (x/1048576^i) (show 0<1048576 by omega);have cB:=oQ (y/1048576^i) (show 0<1048576 by omega);have Jn:dm<=i->x/1048576^i=0/\y/1048576^i=0:=λh=>⟨AZ (by omega),AZ (by omega)⟩;have iQ:(1048576:Int)^(i+1)=1048576^i*1048576:=mY _ _;generalize oh:x/1048576^i=X at *;generalize yK:y/1048576^i=nq at *;generalize GL:x/1048576^(i+1)=X' at *;generalize GM:y/1048576^(i+1)=Y' at *;generalize bc:X%1048576=a at *;generalize U:nq%1048576=b at *;have w1:IntKind.i64.wrap ((a:Int)+(b:Int))=((a+b:Nat):Int):=by rw[fK _];omega
  have gF:IntKind.i64.wrap (((a+b:Nat):Int)+(c:Int))=((a+b+c:Nat):Int):=by rw[fK _];omega
  have gf:((a+b+c:Nat):Int).tmod 1048576=(((a+b+c)%1048576:Nat):Int):=by rw[Ja (by omega)];omega
  have ik:IntKind.i64.wrap (((a+b+c:Nat):Int).tdiv 1048576)=(((a+b+c)/1048576:Nat):Int):=by rw[Ff (by omega),wrap64 _ (by omega) (by omega)];omega
  have bL:=e2 (i:=i) (by omega);have c1:=lq jA wG 181038 g 8 o (((a+b+c)%1048576:Nat):Int) (cs:=[.J (.int .i64 (((a+b+c)%1048576:Nat):Int))]) rfl (by omega) (by omega);rw[a6] at c1
  have aBg:i<=dm:=by
   rcases gY dm i with h|h
   ·have:=Am (by omega);omega
   ·exact h
  have lY:∃a3:Nat×Nat×Nat×List Int,dm+1-a3.1<dm+1-i/\a3.1<=dm+1/\a3.2.1<=1/\(a3.1=dm+1->a3.2.1=0)/\a3.2.2.2.length=a3.1/\eP a3.2.2.2/\a9 a3.2.2.2+1048576^a3.1*((x/1048576^a3.1+y/1048576^a3.1+a3.2.1:Nat):Int)=((x+y:Nat):Int)/\I.J (Data.int .i64 (((a+b+c)/1048576:Nat):Int))=I.J (Data.int .i64 (a3.2.1:Int))/\I.J (Data.int .i64 ((i+1:Nat):Int))=I.J (Data.int .i64 (a3.1:Int))/\I.ref 181038 (g+1) 1 0 (i+1)=I.ref 181038 a3.2.2.1 1 0 a3.1/\some (g+1,aS aI (o++[(((a+b+c)%1048576:Nat):Int)]))=some (a3.2.2.1,aS aI a3.2.2.2):=by
   refine⟨(i+1,(a+b+c)/1048576,g+1,o++[(((a+b+c)%1048576:Nat):Int)]),by dsimp only;omega,by dsimp only;omega,by dsimp only;omega,?_,by simp[a6],WB gO (by omega) (by omega),?_,rfl,rfl,rfl,rfl⟩
   ·intro h;dsimp only at h ⊢;have:=Jn (by omega);omega
   ·dsimp only;rw[GL,GM,WC,a6,iQ,<-aR];have eT:((X+nq+c:Nat):Int)=1048576*((X'+Y'+(a+b+c)/1048576:Nat):Int)+(((a+b+c)%1048576:Nat):Int):=by omega
    rw[eT,h9,ia];omega
  by_cases tB:i<(aH x).length
  ·have d1:decide ((i:Int)<((aH x).length:Int))=true:=c7;refine ah ?_;repeat' (intro (ai:_=_)<;>simp only[ai,go_sem,go_sem_proc,hA,hB,au,F,bw,bA,bM,hm,cJ,cQ,mz,k2,d1,w1,gF,gf,ik,bL,c1,aj]<;>try refine ae ?_ ?_)
   exact lY
  ·have d1:decide ((i:Int)<((aH x).length:Int))=false:=df
   by_cases uU:i<(aH y).length
   ·have d2:decide ((i:Int)<((aH y).length:Int))=true:=c7;refine ah ?_;repeat' (intro (ai:_=_)<;>simp only[ai,go_sem,go_sem_proc,hA,hB,au,F,bw,bA,bM,hm,cJ,cQ,mz,k2,d1,d2,w1,gF,gf,ik,bL,c1,aj]<;>try refine ae ?_ ?_)
    exact lY
   ·have d2:decide ((i:Int)<((aH y).length:Int))=false:=df;have d3:decide ((c:Int)>0)=true:=c7;refine ah ?_;repeat' (intro (ai:_=_)<;>simp only[ai,go_sem,go_sem_proc,hA,hB,au,F,bw,bA,bM,hm,cJ,cQ,mz,k2,d1,d2,d3,w1,gF,gf,ik,bL,c1,aj]<;>try refine ae ?_ ?_)
    exact lY
 ·have d1:decide ((i:Int)<((aH x).length:Int))=false:=df;have d2:decide ((i:Int)<((aH y).length:Int))=false:=df;have d3:decide ((c:Int)>0)=false:=df;rw[AZ (n:=x) (by omega),AZ (n:=y) (by omega),show c=0 by omega] at aR
  have cw:=Dx o (by omega);rw[GK (n:=x+y) gO (by simpa using aR)] at cw;have gA:=GH (aH (x+y));have eA:=jV (n:=5) jA hm;rw[a6] at eA;refine ah ?_;repeat' (intro (ai:_=_)<;>simp only[ai,go_sem,go_sem_proc,hA,hB,au,F,bw,bA,bM,hm,d1,d2,d3,cw,gA,eA,Dw,o1,aj]<;>try refine ae ?_ ?_)
def GN:=bI mv λ(x,y)=>ca ((aH x).length<=10000/\(aH y).length<=10000/\y<=x) (.same (dv (x-y)))
@[go_sem] def PV (x y):=cl GN rfl wO (x,y) rfl
def ar7 (T:bj)(hA:T su=aG Dy)(hB:T ss=aG zj):WF T afo GN:=by
 refine b7 λ(x,y)=>cq λY=>⟨rfl,b6 ?_⟩;simp only[afo,mv,bX];obtain⟨L,ak,hl⟩:=Y;have mz:(aH x).length<=1000000:=by omega
 have k2:(aH y).length<=1000000:=by omega
 have aaA:(aH y).length<=(aH x).length:=by rw[fY];exact yy hl (fY.1 (c9 _))
 simp only[go_sem,go_sem_proc,hA,hB,dv,aj];refine cX [0,1] [] (λ((i,c,g,o):Nat×Nat×Nat×List Int) tm mem=>i<=(aH x).length/\c<=1/\y/1048576^i+c<=x/1048576^i/\D o=i/\eP o/\a9 o+1048576^i*((x/1048576^i-(y/1048576^i+c):Nat):Int)=((x-y:Nat):Int)/\tm 6=.J (.int .i64 c)/\tm 7=.J (.int .i64 i)/\tm 5=.ref 182032 g 1 0 i/\mem 182032=some (g,aS aI o)) (λ(i,_)=>(aH x).length-i) (0,0,0,[]) (by refine⟨by omega,by omega,by simpa using hl,rfl,by simp[eP],by simp[a9],rfl,rfl,rfl,rfl⟩) ?_;intro vs ms aK aF;simp only[go_sem,go_sem_proc,hA,hB,dv] at aK aF;subst aK aF;rintro⟨i,c,g,o⟩ tm mem R-⟨ab,iw,hle,a6,gO,ao,bA,bM,bw,hm⟩;simp only[go_sem,go_sem_proc,hA,hB,bl] at R;obtain⟨au,F⟩:=R;have aR:a9 o+1048576^i*((x/1048576^i-(y/1048576^i+c):Nat):Int)=((x-y:Nat):Int):=ao;have Bu:y/1048576^i+c<=x/1048576^i:=hle
 by_cases a7:i<(aH x).length
 ·have d1:decide ((i:Int)<((aH x).length:Int))=true:=c7;have aQ:=GJ x i;have az:=GJ y i;have cJ:=GI x i;rw[dH,bf a7] at cJ;have fy:(aH x)[i]?=some ((x/1048576^i%1048576:Nat):Int):=by rw[bf a7];exact congrArg some cJ
  have cQ:=GI y i;have bT:=oQ (x/1048576^i) (show 0<1048576 by omega);have cB:=oQ (y/1048576^i) (show 0<1048576 by omega);have iQ:(1048576:Int)^(i+1)=1048576^i*1048576:=mY _ _;clear cJ hle ao;generalize oh:x/1048576^i=X at *;generalize yK:y/1048576^i=nq at *;generalize GL:x/1048576^(i+1)=X' at *;generalize GM:y/1048576^(i+1)=Y' at *;generalize bc:X%1048576=a at *;generalize U:nq%1048576=b at *;have w1:IntKind.i64.wrap ((a:Int)-(b:Int))=(a:Int)-(b:Int):=wrap64 _ (by omega) (by omega);have gF:IntKind.i64.wrap ((a:Int)-(b:Int)-(c:Int))=(a:Int)-(b:Int)-(c:Int):=wrap64 _ (by omega) (by omega);have bL:=e2 (i:=i) (by omega);have ht:IntKind.i64.wrap ((a:Int)-(b:Int)-(c:Int)+1048576)=(a:Int)-(b:Int)-(c:Int)+1048576:=wrap64 _ (by omega) (by omega);have c1:=λd:Int=>lq jA wG 182032 g 8 o d (cs:=[.J (.int .i64 d)]) rfl (by omega) (by omega);rw[a6] at c1;rcases l0:decide ((a:Int)-(b:Int)-(c:Int)<0)
  ·have aC:=of_decide_eq_false l0;refine ah ?_;repeat' (intro h<;>simp only[h,go_sem,go_sem_proc,hA,hB,au,F,bw,bA,bM,hm,fy,cQ,k2,d1,w1,gF,bL,c1,l0,aI,aj,bg]<;>try refine ae ?_ ?_)
   refine⟨(i+1,0,g+1,o++[(a:Int)-(b:Int)-(c:Int)]),by dsimp only;omega,by dsimp only;omega,by dsimp only;omega,by dsimp only;rw[GL,GM];omega,by simp[a6],WB gO (by omega) (by omega),?_,rfl,rfl,rfl,rfl⟩
   dsimp only;rw[GL,GM,WC,a6,iQ,<-aR];have eT:((X-(nq+c):Nat):Int)=1048576*((X'-(Y'+0):Nat):Int)+((a:Int)-b-c):=by omega
   rw[eT,h9,ia];omega
  ·have aC:=of_decide_eq_true l0;refine ah ?_;repeat' (intro h<;>simp only[h,go_sem,go_sem_proc,hA,hB,au,F,bw,bA,bM,hm,fy,cQ,k2,d1,w1,gF,bL,ht,c1,l0,aI,aj,bg]<;>try refine ae ?_ ?_)
   refine⟨(i+1,1,g+1,o++[(a:Int)-(b:Int)-(c:Int)+1048576]),by dsimp only;omega,by dsimp only;omega,by dsimp only;omega,by dsimp only;rw[GL,GM];omega,by simp[a6],WB gO (by omega) (by omega),?_,rfl,rfl,rfl,rfl⟩
   dsimp only;rw[GL,GM,WC,a6,iQ,<-aR];have eT:((X-(nq+c):Nat):Int)=1048576*((X'-(Y'+1):Nat):Int)+((a:Int)-b-c+1048576):=by omega
   have iA:∀p b4 db:Int,a9 o+p*b4+p*1048576*db=a9 o+p*(1048576*db+b4):=λp b4 db=>by rw[h9 p (1048576*db) b4,<-ia];omega
   rw[eT];exact iA _ _ _
 ·have d1:decide ((i:Int)<((aH x).length:Int))=false:=df;rw[AZ (n:=x) (by omega),AZ (n:=y) (by omega),Nat.zero_sub,oe,wQ,Jh] at aR;have cw:=Dx o (by omega);rw[GK (n:=x-y) gO aR] at cw;have gA:=GH (aH (x-y));have eA:=jV (n:=5) jA hm;rw[a6] at eA;refine ah ?_;repeat' (intro h<;>simp only[h,go_sem,go_sem_proc,hA,hB,au,F,bw,bA,bM,hm,d1,cw,gA,eA,Dw,o1,aj]<;>try refine ae ?_ ?_)
def afG {b:List Int}{k:Nat}(h:k<D b):b.getD k 0=b[k]:=by rw[dH,bf h];rfl
def WD {b:List Int}{k:Nat}(h:(D b)<=k):b.getD k 0=0:=by rw[dH,lk h];rfl
def GP:=bI mv λ(x,y)=>ca ((aH x).length<=10000/\(aH y).length<=10000) (.same (dv (x*y)))
@[go_sem] def WE (x y):=cl GP rfl wO (x,y) rfl
def ar8 (T:bj)(hA:T su=aG Dy)(hB:T ss=aG zj):WF T afr GP:=by
 refine b7 λ(x,y)=>cq λY=>⟨rfl,b6 ?_⟩;simp only[afr,mv,bX];obtain⟨L,ak⟩:=Y;have sx:=mr x;have qD:=mr y;have vc:=lr x;have Cd:=lr y;generalize bc:aH x=a at *;generalize U:aH y=b at *;have m0:IntKind.i64.wrap ((D a:Int)+(D b:Int))=((D a+D b:Nat):Int):=by rw[fK _];rfl
 have kW:8*(D a+D b)<=140737488355328:=by omega
 have eF:(D a)+D b<=maxLen:=E8 _ (by omega);have mq:(D b)<=1000000:=by omega
 simp only[go_sem,go_sem_proc,hA,hB,dv,bc,U,m0,kW,eF,E7,aj]
 refine cX [0,1,5] [] (λ((i,o):Nat×List Int) tm mem=>i<=D a/\D o=D a+D b/\eP o/\o.drop (i+D b)=ch (D o-(i+D b)) 0/\a9 o=a9 (a.take i)*y/\tm 6=.J (.int .i64 (i:Nat))/\mem 186015=some (0,aS aI o))
  (λ(i,_)=>D a-i) (0,ch (D a+D b) 0) (by
   have a2:∀n,a9 (ch n 0)=0:=by
    intro n
    induction n with
    |zero=>rfl
    |succ n a4=>rw[qn,so,a4];rfl
   refine⟨dG _,by simp,λd af=>by rw[pM] at af;omega,by simp,by rw[a2];simp[a9],?_,?_⟩<;>rfl) ?_
 intro vs ms aK aF;simp only[go_sem,go_sem_proc,hA,hB,dv,bc,U,m0,aj] at aK aF;subst aK aF;rintro⟨i,o⟩ tm mem R-⟨ab,a6,gO,nH,jy,bA,hm⟩;simp only[go_sem,go_sem_proc,hA,hB,bl] at R;obtain⟨au,F,bw⟩:=R;rcases du (i<D a) with aq|bD
 ·have pL:a[i]?=some a[i]:=bf aq;have zZ:=k0 sx i aq;have qx:=kZ a i aq;generalize a[i]=hL at *;have jB:decide ((i:Int)<(D a:Int))=true:=c7;have Jg:IntKind.i64.wrap ((i:Int)+1)=((i+1:Nat):Int):=by rw[fK _];rfl
  simp only[go_sem,go_sem_proc,hA,hB,au,F,bw,bA,pL,jB,aI,aj,bg,bl]
  refine cX [0,1,5,6] [] (λ((k,c,o):Nat×Int×List Int) tm mem=>k<=D b+1/\(k=D b+1->c=0)/\D o=D a+D b/\eP o/\o.drop (i+max k (D b))=ch (D o-(i+max k (D b))) 0/\0<=c/\c<1048576/\a9 o+1048576^(i+k)*c=a9 (a.take i)*y+1048576^i*(hL*a9 (b.take k)) /\
    tm 8=.J (.int .i64 (k:Nat))/\tm 7=.J (.int .i64 c)/\mem 186015=some (0,aS aI o))
   (λ(k,_)=>D b+1-k) (0,0,o) (by refine⟨dG _,by simp,a6,gO,by rw[Nat.zero_max];exact nH,by omega,by omega,by simp[a9,jy],?_,?_,hm⟩<;>rfl) ?_
  intro vs ms aK aF;simp only[go_sem,go_sem_proc,hA,hB,au,F,bw,bA,aI,aj] at aK aF;subst aK aF;rintro⟨k,c,o⟩ tm mem R-⟨BF,K5,a6,gO,nH,nM,iw,jy,cd,bM,hm⟩;simp only[go_sem,go_sem_proc,hA,hB,bl] at R;obtain⟨au,F,bw,bA⟩:=R;have gp:IntKind.i64.wrap ((k:Int)+1)=((k+1:Nat):Int):=by rw[fK _];rfl
  have mw:IntKind.i64.wrap ((i:Int)+(k:Int))=((i+k:Nat):Int):=by rw[fK _];rfl
  by_cases a7:k<(D b)\/c>0
  ·have I9:k<=D b:=by
    rcases gY (D b) k with h|h
    ·have:=K5 (by omega);omega
    ·exact h
   have oW:i+k<D o:=by omega
   have Ty:=k0 gO (i+k) oW
   have Fb:0<=b.getD k 0/\b.getD k 0<1048576:=by
    rcases gY k (D b) with h|h
    ·rw[afG h];exact k0 qD k h
    ·rw[WD h];omega
   have UM:a9 (b.take (k+1))=a9 (b.take k)+1048576^k*b.getD k 0:=by
    rcases gY k (D b) with h|h
    ·rw[afG h];exact kZ b k h
    ·rw[WD h,dF (by omega),dF (by omega)];simp
   have uR:k<(D b)\/(k=D b/\o[i+k]=0):=by
    rcases gY k (D b) with h|h
    ·exact .inl h
    ·refine .inr ⟨by omega,aaD nH (by omega) oW⟩
   have WG:=afC b k mq;generalize b.getD k 0=po at *;obtain⟨aY,b0,fJ,ft⟩:=aaC Ty zZ Fb ⟨nM,iw⟩;have nN:IntKind.i64.wrap (hL*po)=hL*po:=wrap64 _ (by omega) (by omega);have Fc:IntKind.i64.wrap (o[i+k]+hL*po)=o[i+k]+hL*po:=wrap64 _ (by omega) (by omega);have Ae:IntKind.i64.wrap (o[i+k]+hL*po+c)=o[i+k]+hL*po+c:=wrap64 _ (by omega) (by omega);have tU:(o[i+k]+hL*po+c).tmod 1048576=(o[i+k]+hL*po+c)%1048576:=Ja (by omega);have NS:IntKind.i64.wrap ((o[i+k]+hL*po+c).tdiv 1048576)=(o[i+k]+hL*po+c)/1048576:=by rw[Ff (by omega)];exact wrap64 _ (by omega) (by omega)
   have k1:i+k+1<=(aS aI o).length:=by rw[pK];omega
   have nO:=I4 o (i+k) oW;have iK:=λd=>wN o (i+k) d oW;have hk:i+k<D a+D b:=by omega
   have lY:∃a3:Nat×Int×List Int,D b+1-a3.1<D b+1-k/\a3.1<=D b+1/\(a3.1=D b+1->a3.2.1=0)/\a3.2.2.length=D a+D b/\eP a3.2.2/\a3.2.2.drop (i+max a3.1 (D b))=ch (a3.2.2.length-(i+max a3.1 (D b))) 0/\0<=a3.2.1/\a3.2.1<1048576/\a9 a3.2.2+1048576^(i+a3.1)*a3.2.1=a9 (a.take i)*y+1048576^i*(hL*a9 (b.take a3.1)) /\
     I.J (Data.int .i64 ((k+1:Nat):Int))=I.J (Data.int .i64 (a3.1:Nat))/\I.J (Data.int .i64 ((o[i+k]+hL*po+c)/1048576))=I.J (Data.int .i64 a3.2.1)/\some (0,aS aI (o.set (i+k) ((o[i+k]+hL*po+c)%1048576)))=some (0,aS aI a3.2.2):=by
    refine⟨(k+1,(o[i+k]+hL*po+c)/1048576,o.set (i+k) ((o[i+k]+hL*po+c)%1048576)),by dsimp only;omega,by dsimp only;omega,?_,by simp[a6],yx gO _ (by omega),?_,fJ,ft,?_,rfl,rfl,rfl⟩
    ·intro h;dsimp only at h ⊢;rcases uR with G|⟨G,ad⟩
     ·omega
     ·have ar9:po=0:=by
       have e:=WG;rw[afC b k mq,WD (by omega)] at e
       simpa using e.symm
      rw[ad,ar9,wQ];omega
    ·dsimp only;rcases uR with G|⟨G,ad⟩
     ·rw[WH (by omega)] at nH;rw[WH (by omega),se (by omega),fk,nH]
     ·rw[WH (by omega),<-G] at nH;rw[Nat.max_eq_left (by omega)];exact aaE nH oW
    ·dsimp only;rw[Tu _ _ _ oW,UM,<-Nat.add_assoc,mY,aaB _ _ _ _ _ _ _ jy];rw[h9 (hL),h9 (1048576^i),Int.pow_add]
     have:(1048576:Int)^i*(hL*(1048576^k*po))=1048576^i*1048576^k*(hL*po):=by
      rw[<-ia (hL),Int.mul_comm (hL) (1048576^k),ia (1048576^k),<-ia]
     omega
   by_cases aBh:k<D b
   ·have d1:decide ((k:Int)<(D b:Int))=true:=c7;refine ah ?_;repeat' (intro (ai:_=_)<;>simp only[ai,go_sem,go_sem_proc,hA,hB,au,F,bw,bA,bM,cd,hm,pL,WG,d1,gp,mw,nN,Fc,Ae,tU,NS,hk,k1,nO,iK,aI,dM,aj,bg,bl]<;>try refine ae ?_ ?_)
    exact lY
   ·have d1:decide ((k:Int)<(D b:Int))=false:=df;have d2:decide (c>0)=true:=c7;refine ah ?_;repeat' (intro (ai:_=_)<;>simp only[ai,go_sem,go_sem_proc,hA,hB,au,F,bw,bA,bM,cd,hm,pL,WG,d1,d2,gp,mw,nN,Fc,Ae,tU,NS,hk,k1,nO,iK,aI,dM,aj,bg,bl]<;>try refine ae ?_ ?_)
    exact lY
  ·have d1:decide ((k:Int)<(D b:Int))=false:=df;have d2:decide (c>0)=false:=df;have asa:c=0:=by omega
   rw[asa,wQ,Jh,show b.take k=b from dF (by omega),Cd] at jy;refine ah ?_;repeat' (intro (ai:_=_)<;>simp only[ai,go_sem,go_sem_proc,hA,hB,au,F,bw,bA,bM,cd,hm,d1,d2,Jg,aj]<;>try refine ae ?_ ?_)
   refine⟨(i+1,o),by dsimp only;omega,by dsimp only;omega,a6,gO,?_,?_,rfl,rfl⟩
   ·dsimp only;have ad:=congrArg (nL (i+1+D b-(i+max k (D b)))) nH;rw[List.drop_drop,List.drop_replicate] at ad;rw[show i+max k (D b)+(i+1+D b-(i+max k (D b)))=i+1+(D b) by omega] at ad
    rw[ad]
    congr 1
    omega
   ·dsimp only;rw[jy,qx,Int.add_mul,ia]
 ·obtain rfl:i=D a:=by omega
  have jB:decide ((D a:Int)<(D a:Int))=false:=df;rw[dF (c9 _),vc] at jy;have cw:=Dx o (by omega);rw[GK (n:=x*y) gO (by rw[jy];rfl)] at cw;have gA:=GH (aH (x*y));have eA:=jV (n:=5) jA hm;rw[a6] at eA;refine ah ?_;repeat' (intro (ai:_=_)<;>simp only[ai,go_sem,go_sem_proc,hA,hB,au,F,bw,bA,hm,jB,cw,gA,eA,Dw,o1,dv,aj]<;>try refine ae ?_ ?_)
def e1.te:e1->List Nat->e1
 |.seq a _,0::p=>a.te p
 |.seq _ b,_::p=>b.te p
 |.cond _ a _,0::p=>a.te p
 |.cond _ _ b,_::p=>b.te p
 |.block _ c,_::p=>c.te p
 |.ghost _ c,_::p=>c.te p
 |.loop c,_::p=>c.te p
 |c,_=>c
def afH {n:Nat}(h:0<n)(F:n<1048576):[(n:Int)]=aH n:=(Iy h F).symm
def asb {n:Nat}(F:n<1048576):fP [(n:Int)]=aH n:=GK (by intro d af;have:=sE.1 af;omega) (by simp[a9])
def asc {d:Int}{r:Nat}(au:0<=d)(F:d<1048576):fP (d::aH r)=aH (d.toNat+1048576*r):=GK (BP.2 ⟨⟨au,F⟩,mr r⟩) (by rw[so,lr];omega)
def WI {n m k:Nat}(h:n<m*1048576)(hm:(aH m).length<=k):(aH n).length<=k+1:=by
 rw[fY] at *;rw[z5];exact Nat.lt_of_lt_of_le h (q7 _ (Nat.le_of_lt hm))
def afI (T:bj)(oD:T BZ=aG GP)(jw:T z9=aG Dz){K:fD->a8->Prop}{kg:List iY}(y bH:Nat)(ak:(aH y).length<=1000)(ed:(aH bH).length<=1001)(hM:0<y)(asd:bH<y*1048576)(v0 v6 afJ:I)(tm:Nat->I)(m:Mem)
  (fI:tm 0=v0) (aQ:tm 1=.J (.ar ((aH y).map aI))) (vQ:tm 6=v6) (afK:tm 7=.J (.ar ((aH bH).map aI))) (AI:tm 8=afJ) (wV:tm 9=.J (.int .i64 0)) (A0:tm 10=.J (.int .i64 1048576))
  (ei:∀tm',tm' 0=v0->tm' 1=.J (.ar ((aH y).map aI))->tm' 6=v6->tm' 7=.J (.ar ((aH bH).map aI))->tm' 8=afJ->tm' 9=.J (.int .i64 ((bH/y:Nat):Int))->cO T K kg (.exit 2) ⟨tm',m⟩) :
  wp T (PT.body.te [1,1,1,0,1,0,0,1,0,0,1,1,1,0,0]) (cO T K kg) ⟨tm,m⟩:=by
 simp only[PT,e1.te];refine cX [0,1,6,7,8] [] (λ((b8,ab):Nat×Nat) tm' m'=>b8<ab/\ab<=1048576/\b8*y<=bH/\bH<ab*y/\tm' 9=.J (.int .i64 b8)/\tm' 10=.J (.int .i64 ab)/\m'=m) (λ(b8,ab)=>ab-b8) (0,1048576) (by refine⟨by omega,by omega,by omega,by rw[yf];exact asd,wV,A0,rfl⟩) ?_;intro vs ms aK aF;simp only[go_sem,go_sem_proc,fI,aQ,vQ,afK,AI] at aK aF;subst aK aF;clear fI aQ vQ afK AI wV A0;rintro⟨b8,ab⟩ tm m' R hm ⟨aBi,bm,gb,kS,di,dz,rfl⟩;simp only[go_sem,go_sem_proc,bl] at R hm;obtain⟨au,F,bA,bM,cd⟩:=R;have w1:IntKind.i64.wrap ((ab:Int)-(b8:Int))=(ab:Int)-(b8:Int):=wrap64 _ (by omega) (by omega)
 by_cases a7:ab-b8>1
 ·have d1:decide ((ab:Int)-(b8:Int)>1)=true:=c7;have gF:IntKind.i64.wrap ((b8:Int)+(ab:Int))=((b8+ab:Nat):Int):=by rw[fK _];omega
  have bL:IntKind.i64.wrap (((b8+ab:Nat):Int).tdiv 2)=(((b8+ab)/2:Nat):Int):=by rw[Ff (by omega),wrap64 _ (by omega) (by omega)];omega
  obtain⟨vR,ase⟩:∃vR:Nat,vR=(b8+ab)/2:=⟨_,rfl⟩;rw[<-ase] at bL;have cw:=WE y vR ⟨by omega,by rw[<-afH (n:=vR) (by omega) (by omega)];simp⟩
  simp only[dv] at cw;rw[<-afH (n:=vR) (by omega) (by omega)] at cw;simp only[g0,bP,aI] at cw;have xT:(aH (y*vR)).length<=1001:=WI (afL (show vR<1048576 by omega) hM) ak;have gA:=WA bH (y*vR) ⟨by omega,by omega⟩
  simp only[dv] at gA;rcases af:decide (bH<y*vR)
  ·have aC:=of_decide_eq_false af;rw[af] at gA;refine ah ?_;repeat' (intro h<;>simp only[h,go_sem,go_sem_proc,oD,jw,au,F,bA,bM,cd,di,dz,w1,gF,bL,d1,cw,gA]<;>try refine ae ?_ ?_)
   exact⟨(vR,ab),by dsimp only;omega,by dsimp only;omega,bm,by dsimp only;rw[yf];omega,kS,rfl,rfl⟩
  ·have aC:=of_decide_eq_true af;rw[af] at gA;refine ah ?_;repeat' (intro h<;>simp only[h,go_sem,go_sem_proc,oD,jw,au,F,bA,bM,cd,di,dz,w1,gF,bL,d1,cw,gA]<;>try refine ae ?_ ?_)
   exact⟨(b8,vR),by dsimp only;omega,by dsimp only;omega,by dsimp only;omega,gb,by dsimp only;rw[yf];omega,rfl,rfl⟩
 ·have d1:decide ((ab:Int)-(b8:Int)>1)=false:=df
  have aU:bH/y=b8:=by
   have F:ab=b8+1:=by omega
   subst F;exact Nat.div_eq_of_lt_le gb kS
  refine ah ?_;repeat' (intro h<;>simp only[h,go_sem,go_sem_proc,au,F,bA,bM,cd,di,dz,w1,d1]<;>try refine ae ?_ ?_)
  refine ei _ ?_ ?_ ?_ ?_ ?_ ?_<;>simp only[q3,sW,if_false,au,F,bA,bM,cd,di,aU]
def K6:=bI mv λ(x,y)=>ca ((aH x).length<=1000/\(aH y).length<=1000/\0<y) (.same (.dq [dv (x/y),dv (x%y)]))
@[go_sem] def afM (x y):=cl K6 rfl wO (x,y) rfl
def asf (T:bj)(hB:T ss=aG zj)(oD:T BZ=aG GP)(jw:T z9=aG Dz)(lK:T z8=aG GN):WF T PT K6:=by
 refine b7 λ(x,y)=>cq λY=>⟨rfl,b6 ?_⟩;simp only[PT,mv,bX];obtain⟨L,ak,hM⟩:=Y;have sx:=mr x;have vc:=lr x;generalize bc:aH x=a at *;have kW:8*D a<=140737488355328:=by omega
 have eF:(D a)<=maxLen:=E8 _ (by omega);have Ao:IntKind.i64.wrap ((D a:Int)-1)=(D a:Int)-1:=wrap64 _ (by omega) (by omega);simp only[go_sem,go_sem_proc,hB,oD,jw,lK,dv,bc,kW,eF,E7,Ao,aj]
 refine cX [0,1,6] [] (λ((n,r,xc,o):Nat×Nat×I×List Int) tm mem=>n<=D a/\D o=D a/\eP o/\r<y/\a9 (a.drop n)=y*a9 (o.drop n)+r/\(xc=.nil/\r=0\/xc=.J (dv r))/\tm 8=.J (.int .i64 ((n:Nat)-1))/\tm 7=xc/\mem 180014=some (0,aS aI o))
  (λ(n,_)=>n) (D a,0,.nil,ch (D a) 0) (by
   refine⟨c9 _,by simp,λd af=>by rw[pM] at af;omega,hM,by simp[a9],.inl ⟨rfl,rfl⟩,rfl,rfl,rfl⟩) ?_
 intro vs ms aK aF;simp only[go_sem,go_sem_proc,hB,oD,jw,lK,dv,bc,aj] at aK aF;subst aK aF;rintro⟨n,r,xc,o⟩ tm mem R-⟨aC,a6,gO,np,ao,J7,cd,bM,hm⟩;simp only[go_sem,go_sem_proc,hB,oD,jw,lK,bl] at R;obtain⟨au,F,bA⟩:=R;rcases n with _|n
 ·have aU:a9 o=((x/y:Nat):Int)/\r=x%y:=by
   rw[pD,pD,vc] at ao;have aQ:(x:Int)/(y:Int)=a9 o:=by rw[ao,yA,Int.add_mul_ediv_left _ _ (by omega),Int.ediv_eq_zero_of_lt (by omega) (by omega)];omega
   have az:(x:Int)%(y:Int)=r:=by rw[ao,yA,Int.add_mul_emod_self_left,Int.emod_eq_of_lt (by omega) (by omega)]
   refine⟨by rw[<-aQ];rfl,by omega⟩
  have cw:=Dx o (by omega);rw[GK (n:=x/y) gO aU.1] at cw;have gA:=GH (aH (x/y));have eA:=jV (n:=5) jA hm;rw[a6] at eA;rcases J7 with ⟨rfl,sD⟩|rfl
  ·have a2:aH (x%y)=[]:=by rw[<-aU.2,sD];rfl
   refine ah ?_;repeat' (intro (ai:_=_)<;>simp only[ai,go_sem,go_sem_proc,hB,oD,jw,lK,au,F,bA,bM,cd,hm,cw,gA,eA,a2,Dw,o1,dv,oe,oV,show ¬ ((0:Int)-1>=0) by omega,decide_false,aj,bP]<;>try refine ae ?_ ?_)
  ·refine ah ?_;repeat' (intro (ai:_=_)<;>simp only[ai,go_sem,go_sem_proc,hB,oD,jw,lK,au,F,bA,bM,cd,hm,cw,gA,eA,Dw,o1,dv,oe,oV,show ¬ ((0:Int)-1>=0) by omega,decide_false,aj,bP,aU.2]<;>try refine ae ?_ ?_)
 ·have pL:a[n]?=some a[n]:=bf (by omega);have NK:=k0 sx n (by omega);have To:a.drop n=a[n]::a.drop (n+1):=gx (by omega);have h6:n<D o:=by omega
  have Ts:∀e:Int,(o.set n e).drop n=e::o.drop (n+1):=λe=>by
   rw[gx (by simpa using h6),List.getElem_set_self,se (by omega)]
  generalize a[n]=d at *;have hw:((n+1:Nat):Int)-1=(n:Int):=by omega
  have bD:decide ((n:Int)>=0)=true:=c7;have nN:IntKind.i64.wrap ((n:Int)-1)=(n:Int)-1:=wrap64 _ (by omega) (by omega);have b9:(aH r).length<=1000:=by rw[fY] at *;omega
  obtain⟨bH,ed⟩:∃bH:Nat,bH=d.toNat+1048576*r:=⟨_,rfl⟩
  have PW:bH<y*1048576:=by
   have:(r+1)*1048576<=y*1048576:=q7 _ np;omega
  have WJ:=WI PW ak;have jg:=asc (d:=d) (r:=r) NK.1 NK.2;rw[<-ed] at jg;have cw:=Dx (d::aH r) (by rw[lQ];omega);rw[jg] at cw;simp only[g0,aI] at cw;have gA:=GH (aH bH)
  have xM:∀bh:Nat,lf 180026 bh 1 1 8 (aH r).length (((aH r).map aI).flatten.map .J) (some (bh,[.J (.int .i64 d)]))=some (.ref 180026 (bh+1) 1 0 (1+(aH r).length),some (180026,bh+1,aS aI (d::aH r))):=λbh=>by
   have:=z1 jA wG 180026 bh 8 [d] (aH r) (by rw[Wi];omega) (by rw[Wi];omega);exact this
  have asg:∀(bh:Nat) (m:Mem),m 180026=some (bh,aS aI (d::aH r))->cN 6 m (.ref 180026 bh 1 0 (1+(aH r).length))=some (.ar ((d::aH r).map aI)):=λbh m hm=>by
   have:=jV (n:=5) jA hm;rw[lQ,Nat.add_comm (aH r).length 1] at this;exact this
  have kT:(((aH r).map aI).all λe=>D e==1)=true:=Tk _;have WK:=asg (gM (mem 180026)+1) (aV (aV mem 180026 (gM (mem 180026)) [I.J (.int .i64 d)]) 180026 (gM (mem 180026)+1) (aS aI (d::aH r))) (by simp[aV]);have mn:n<D a:=by omega
  obtain⟨b8,gb⟩:∃b8:Nat,b8=bH/y:=⟨_,rfl⟩;have WL:b8<1048576:=by rw[gb];exact Nat.div_lt_of_lt_mul PW
  have Jx:=Nat.div_add_mod bH y;have xT:=oQ bH hM;rw[<-gb] at Jx;have Rt:bH-y*b8=bH%y:=by omega
  have aBj:(aH (y*b8)).length<=1001:=WI (afL WL hM) ak
  have afN:zj [.ar [[.int .i64 ((bH/y:Nat):Int)]]]=some (.own 1 ((aH b8).map aI)):=by
   have h:=Dx [((bH/y:Nat):Int)] (by simp);rw[<-gb,asb WL] at h;rw[<-gb];exact h
  have WM:=WE y b8 ⟨by omega,by have:(aH b8).length<=1:=fY.2 (by rw[Nat.pow_one];exact WL);omega⟩
  simp only[dv] at WM;have PX:=PV bH (y*b8) ⟨by omega,by omega,by omega⟩
  rw[Rt] at PX;simp only[dv] at PX;have k1:n+1<=(aS aI o).length:=by rw[pK];omega
  have iK:=wN o n ((bH/y:Nat):Int) h6
  have lY:∃a3:Nat×Nat×I×List Int,a3.1<n+1/\a3.1<=D a/\a3.2.2.2.length=D a/\eP a3.2.2.2/\a3.2.1<y/\a9 (a.drop a3.1)=y*a9 (a3.2.2.2.drop a3.1)+a3.2.1/\(a3.2.2.1=.nil/\a3.2.1=0\/a3.2.2.1=.J (.ar ((aH a3.2.1).map aI)))/\I.J (Data.int .i64 ((n:Int)-1))=I.J (Data.int .i64 ((a3.1:Int)-1))/\I.J (Data.ar ((aH (bH%y)).map aI))=a3.2.2.1/\some (0,aS aI (o.set n ((bH/y:Nat):Int)))=some (0,aS aI a3.2.2.2):=by
   refine⟨(n,bH%y,.J (dv (bH%y)),o.set n ((bH/y:Nat):Int)),by dsimp only;omega,by dsimp only;omega,by simp[a6],yx gO n (by omega),xT,?_,.inr rfl,rfl,rfl,rfl⟩
   dsimp only;rw[To,so,ao,Ts,so,<-gb];have aQ:(bH:Int)=d+1048576*r:=by omega
   have az:(y:Int)*b8+(bH%y:Nat)=bH:=by exact_mod_cast Jx
   have eT:∀v:Int,(y:Int)*(b8+1048576*v)=y*b8+1048576*(y*v):=λv=>by rw[h9,Int.mul_left_comm]
   rw[eT];omega
  have main:xc=.nil/\r=0\/xc=.J (dv r):=J7;rcases main with ⟨rfl,sD⟩|rfl
  ·subst sD;have afO:=xM;simp only[sq,bP,afz,mV] at afO;simp only[sq,mV] at WK;simp only[sq,bP] at cw;simp only[go_sem,go_sem_proc,hB,oD,jw,lK,au,F,bA,bM,cd,hm,pL,hw,bD,afO,cw,gA,WK,Dw,o1,aI,sq,aj,bg,bP];refine afI T oD jw y bH ak WJ hM PW (.J (.ar (a.map aI))) (.ref 180014 0 1 0 (D a)) (.J (.int .i64 n)) _ _ ?_ ?_ ?_ ?_ ?_ ?_ ?_ ?_
   ·exact au
   ·exact F
   ·exact bA
   ·rfl
   ·simp only[q3,sW,if_false,cd,hw]
   ·rfl
   ·rfl
   intro tm' er bo dp eE fR pO;refine ah ?_;repeat' (intro (ai:_=_)<;>simp only[ai,go_sem,go_sem_proc,hB,oD,jw,lK,er,bo,dp,eE,fR,pO,hm,mn,k1,iK,afN,WM,PX,nN,dM]<;>try refine ae ?_ ?_)
   exact lY
  ·simp only[go_sem,go_sem_proc,hB,oD,jw,lK,au,F,bA,bM,cd,hm,pL,hw,bD,xM,kT,cw,gA,WK,Dw,o1,dv,aI,aj,bg];refine afI T oD jw y bH ak WJ hM PW (.J (.ar (a.map aI))) (.ref 180014 0 1 0 (D a)) (.J (.int .i64 n)) _ _ ?_ ?_ ?_ ?_ ?_ ?_ ?_ ?_
   ·exact au
   ·exact F
   ·exact bA
   ·rfl
   ·simp only[q3,sW,if_false,cd,hw]
   ·rfl
   ·rfl
   intro tm' er bo dp eE fR pO;refine ah ?_;repeat' (intro (ai:_=_)<;>simp only[ai,go_sem,go_sem_proc,hB,oD,jw,lK,er,bo,dp,eE,fR,pO,hm,mn,k1,iK,afN,WM,PX,nN,dM]<;>try refine ae ?_ ?_)
   exact lY
def zk:=bI E6 λ(s,l)=>ca (D l<=1000000) (.same (.agg (b5 (jX s l))))
@[go_sem] def aBk (s l):=cl zk rfl aar (s,l) rfl
def ash (T:bj)(hB:T ss=aG zj):WF T afm zk:=by
 refine b7 λ(s,l)=>cq λY=>⟨rfl,b6 ?_⟩;simp only[afm,E6,bX];have cw:=Dx l Y;have gA:=GH (fP l);refine ah ?_;repeat' (intro h<;>simp only[h,go_sem,go_sem_proc,hB,cw,gA,aj]<;>try refine ae ?_ ?_)
 all_goals simp only[jX,b5,bP, *,reduceIte,c2,dc,tD,qz,tE,pE,pF,e0,iZ,eO,cE,beq_self_eq_true,bne]
def uD:=bI pJ λ(s,l)=>ca (D l<=1000000) (.same (.bool (cK (s,l))))
@[go_sem] def aBl (s l):=cl uD rfl Cb (s,l) rfl
def asi (T:bj):WF T afi uD:=by
 refine b7 λ(s,l)=>cq λY=>⟨rfl,b6 ?_⟩;simp only[afi,pJ,bX];simp only[go_sem,go_sem_proc,aj];refine cX [1] [162001] (λ(i:Nat) tm mem=>i<=D l/\l.all nm=(l.drop i).all nm/\tm 3=.J (.int .i64 i)) (λi=>D l-i) 0 (by refine⟨by omega,by simp,rfl⟩) ?_;intro vs ms aK aF;simp only[go_sem,go_sem_proc,aj] at aK aF;subst aK aF;rintro i tm mem R hm ⟨ab,al,ad⟩;simp only[go_sem,go_sem_proc,bl] at R hm;have F:=R;rcases du (i<D l) with aq|bD
 ·have af:l.drop i=l[i]::l.drop (i+1):=gx aq;have L:l[i]?=some l[i]:=bf aq;generalize l[i]=x at *;have d1:decide ((i:Int)<(D l:Int))=true:=c7
  have lY:∀b,nm x=true->b=(l.drop (i+1)).all nm->l.all nm=b:=by
   intro b F G;rw[al,af,u3,F,G,e0]
  have jW:¬ nm x=true->cK (s,l)=false:=by
   intro F;rw[Bool.not_eq_true] at F;unfold cK;rw[al,af,u3,F]
   rfl
  have bL:=e2 (i:=i) (by omega);refine ah ?_;repeat' (intro (ai:_=_)<;>simp only[ai,go_sem,go_sem_proc,F,ad,hm,L,d1,bL,aI,aj,bg,bl]<;>try refine ae ?_ ?_)
  ·rw[jW λh=>by have:=(Jm x).1 h;(simp only[bO,Data.bool.injEq,Data.int.injEq,true_and,decide_eq_true_eq,decide_eq_false_iff_not,cE,beq_iff_eq,beq_eq_false_iff_ne,ne_eq] at*<;> omega)]
  ·exact⟨i+1,by omega,by omega,lY _ ((Jm x).2 (by (simp only[bO,Data.bool.injEq,Data.int.injEq,true_and,decide_eq_true_eq,decide_eq_false_iff_not,cE,beq_iff_eq,beq_eq_false_iff_ne,ne_eq] at*<;> omega))) rfl,rfl⟩
  ·rw[jW λh=>by have:=(Jm x).1 h;(simp only[bO,Data.bool.injEq,Data.int.injEq,true_and,decide_eq_true_eq,decide_eq_false_iff_not,cE,beq_iff_eq,beq_eq_false_iff_ne,ne_eq] at*<;> omega)]
 ·have he:l.drop i=[]:=lj (by omega);rw[he] at al;have cZ:l.all nm=true:=by rw[al];rfl
  have d1:decide ((i:Int)<(D l:Int))=false:=df;rcases List.eq_nil_or_concat l with rfl|⟨r,x,rfl⟩
  ·have d2:decide ((i:Int)<0)=false:=d1;refine ah ?_;repeat' (intro (ai:_=_)<;>simp only[ai,go_sem,go_sem_proc,F,ad,hm,d2,mV,oe,oV,beq_self_eq_true,bP,bne]<;>try refine ae ?_ ?_)
   all_goals (refine congrArg (λb=>some (Data.bool b)) ?_;unfold cK;simp;try simp only[decide_eq_true_eq,decide_eq_false_iff_not,beq_iff_eq,beq_eq_false_iff_ne,vB,Pg,beq_eq_false_iff_ne,ne_eq] at *;omega)
  ·rw[List.concat_eq_append] at *;have bq:(((r++[x]).length:Int)==0)=false:=by simp;omega
   have hw:IntKind.i64.wrap (((r++[x]).length:Int)-1)=(D r:Int):=by
    have br:(r++[x]).length=D r+1:=by simp
    rw[fK _];omega
   have aN:((r++[x]).map aI)[D r]?=some [.int .i64 x]:=by simp[aI]
   have M:cK (s,r++[x])=((s==1||s == -1)&&decide (((r++[x]).length:Int)<=60)&&(x != 0)):=by
    unfold cK;rw[cZ];simp only[List.getLast?_append,List.getLast?_singleton];simp;have aQ:decide (D r<=59)=decide ((D r:Int)+1<=60):=decide_eq_decide.2 (by omega);have az:(some x != some (0:Int))=(x != 0):=by simp[bne]
    rw[aQ,az]
   rw[M];refine ah ?_;repeat' (intro (ai:_=_)<;>simp only[ai,go_sem,go_sem_proc,F,ad,hm,d1,bq,hw,aN,aj]<;>try refine ae ?_ ?_)
   all_goals (refine congrArg (λb=>some (Data.bool b)) ?_;clear al cZ M aN hw R hm F ad d1;rw[Bool.eq_iff_iff];simp only[ff,tA,decide_eq_true_eq,decide_eq_false_iff_not,beq_iff_eq,beq_eq_false_iff_ne,vB,Pg,ne_eq,cE,false_iff,true_iff] at *;omega)
def K7:=bI pJ λ(s,l)=>ca (D l<=1000000) (.same (.agg (b5 (hy (s,l)))))
@[go_sem] def aBm (s l):=cl K7 rfl Cb (s,l) rfl
def asj (T:bj)(fx:T kG=aG uD)(gT:T od=aG zk):WF T afj K7:=by
 refine b7 λ(s,l)=>cq λY=>⟨rfl,b6 ?_⟩;simp only[afj,pJ,bX]
 by_cases M:cK (s,l)=true
 ·obtain⟨z,a2,e⟩:=(hp _).1 M;have aQ:hy (s,l)=bb (-z):=by unfold hy;rw[aL M,e,eK]
  cases e
  have hw:IntKind.i64.wrap (0-z.sign) = -z.sign:=by
   have:=Int.sign_trichotomy z;rw[fK _];omega
  rw[aQ];refine ah ?_;repeat' (intro h<;>simp only[h,go_sem,go_sem_proc,fx,gT,M,Y,hw,aby,b5]<;>try refine ae ?_ ?_)
 ·have M:cK (s,l)=false:=by simpa using M
  have aQ:hy (s,l)=(0,[]):=by unfold hy;rw[M];rfl
  rw[aQ];refine ah ?_;repeat' (intro h<;>simp only[h,go_sem,go_sem_proc,fx,gT,M,Y,b5,bP]<;>try refine ae ?_ ?_)
def afP (n:Int):(n.tmod 1048576).natAbs=n.natAbs%1048576:=by rw[Int.natAbs_tmod];rfl
def afQ (n:Int):(n.tdiv 1048576).natAbs=n.natAbs/1048576:=by rw[Int.natAbs_tdiv];rfl
def K8:=bI tN λ(n:Int)=>ca (dY n) (.same (.agg (b5 (bb n))))
@[go_sem] def aBn (n):=cl K8 rfl I1 n rfl
def asl (T:bj)(gT:T od=aG zk):WF T afh K8:=by
 refine b7 λn=>cq λY=>⟨rfl,b6 ?_⟩;simp only[afh,tN,bX];have uV:=Y;unfold dY at uV;obtain⟨uN,qi⟩:=uV;have hlen:(aH n.natAbs).length<=60:=fY.2 (yP Y);rcases du (n=0) with rfl|qp
 ·refine ah ?_;repeat' (intro (ai:_=_)<;>simp only[ai,go_sem,go_sem_proc,gT,b5,beq_self_eq_true]<;>try refine ae ?_ ?_)
  rfl
 have bq:(n==0)=false:=by simpa using qp
 have Q:∀s:Int,s=n.sign->jX s (aH n.natAbs)=bb n:=λs h=>m3 rfl λ_=>h;have Aq:(aH n.natAbs).length<=1000000:=by omega
 rcases du (n<0) with l0|h3
 ·have p2:=Q (-1) (kJ l0).symm;simp only[go_sem,go_sem_proc,gT,bq,l0,decide_true];refine cX [2,3] [144002] (λ((u,g,l):Int×Nat×List Int) tm mem=>u<=0/\n<=u/\aH n.natAbs=l++aH u.natAbs/\tm 0=.J (.int .i64 u)/\tm 4=.ref 144022 g 1 0 (D l)/\mem 144022=some (g,aS aI l)) (λ(u,_)=>u.natAbs) (n,0,[]) (by refine⟨by omega,by omega,rfl,rfl,rfl,rfl⟩) ?_;intro vs ms aK aF;simp only[go_sem,go_sem_proc,gT,l0,decide_true] at aK aF;subst aK aF;rintro⟨u,g,l⟩ tm mem R hm ⟨hu,asm,af,au,aZ,tf⟩;simp only[go_sem,go_sem_proc,gT,bl] at R hm;obtain⟨G,ad⟩:=R;rcases du (u=0) with rfl|Fz
  ·rw[show (0:Int).natAbs=0 from rfl,sq,mX] at af;rw[af] at p2 Aq;refine ah ?_;repeat' (intro (ai:_=_)<;>simp only[ai,go_sem,go_sem_proc,gT,au,G,ad,aZ,hm,tf,p2,Aq,sl jA,mB,b5,aj,beq_self_eq_true]<;>try refine ae ?_ ?_)
  ·have yC:(D l)<=60:=by
    have:=congrArg D af;rw[ks] at this;omega
   have sF:(u==0)=false:=by simpa using Fz
   have c1:=λd:Int=>lq jA wG 144022 g 8 l d (cs:=[.J (.int .i64 d)]) rfl (by omega) (by omega);have aQ:=afP u;have az:=afQ u;have eT:u.tmod 1048576<=0:=by have:=afR (a:=-u) 1048576 (by omega);rw[Int.neg_tmod] at this;omega
   have iA:u.tdiv 1048576<=0/\u<=u.tdiv 1048576:=by
    have:=afS (a:=-u) (b:=1048576) (by omega) (by omega);rw[Int.neg_tdiv] at this;omega
   have m0:IntKind.i64.wrap (u.tdiv 1048576)=u.tdiv 1048576:=wrap64 _ (by omega) (by omega);have gp:IntKind.i64.wrap (0-u.tmod 1048576) = -(u.tmod 1048576):=by rw[fK _];omega
   have tV:=tG (n:=u.natAbs) (by omega)
   have lY:∀d:Int,d=((u.natAbs%1048576:Nat):Int)->∃a3:Int×Nat×List Int,a3.1.natAbs<u.natAbs/\a3.1<=0/\n<=a3.1/\aH n.natAbs=a3.2.2++aH a3.1.natAbs/\I.J (.int .i64 (u.tdiv 1048576))=I.J (.int .i64 a3.1)/\I.ref 144022 (g+1) 1 0 (D l+1)=I.ref 144022 a3.2.1 1 0 a3.2.2.length/\some (g+1,aS aI (l++[d]))=some (a3.2.1,aS aI a3.2.2):=by
    intro d zL;refine⟨(u.tdiv 1048576,g+1,l++[d]),by dsimp only;omega,by dsimp only;omega,by dsimp only;omega,?_,rfl,by simp,rfl⟩
    dsimp only;rw[af,tV,zL,az,ki]
    rfl
   by_cases a2:u.tmod 1048576<0
   ·refine ah ?_;repeat' (intro (ai:_=_)<;>simp only[ai,go_sem,go_sem_proc,gT,au,G,ad,aZ,hm,tf,sF,c1,m0,gp,a2,decide_true,aj,bl]<;>try refine ae ?_ ?_)
    exact lY _ (by omega)
   ·refine ah ?_;repeat' (intro (ai:_=_)<;>simp only[ai,go_sem,go_sem_proc,gT,au,G,ad,aZ,hm,tf,sF,c1,m0,gp,a2,decide_false,aj,bl]<;>try refine ae ?_ ?_)
    exact lY _ (by omega)
 ·have p2:=Q 1 (gq (by omega)).symm;simp only[go_sem,go_sem_proc,gT,bq,h3,decide_false];refine cX [2,3] [144002] (λ((u,g,l):Int×Nat×List Int) tm mem=>0<=u/\u<=n/\aH n.natAbs=l++aH u.natAbs/\tm 0=.J (.int .i64 u)/\tm 4=.ref 144022 g 1 0 (D l)/\mem 144022=some (g,aS aI l)) (λ(u,_)=>u.natAbs) (n,0,[]) (by refine⟨by omega,by omega,rfl,rfl,rfl,rfl⟩) ?_;intro vs ms aK aF;simp only[go_sem,go_sem_proc,gT,h3,decide_false] at aK aF;subst aK aF;rintro⟨u,g,l⟩ tm mem R hm ⟨hu,asm,af,au,aZ,tf⟩;simp only[go_sem,go_sem_proc,gT,bl] at R hm;obtain⟨G,ad⟩:=R;rcases du (u=0) with rfl|Fz
  ·rw[show (0:Int).natAbs=0 from rfl,sq,mX] at af;rw[af] at p2 Aq;refine ah ?_;repeat' (intro (ai:_=_)<;>simp only[ai,go_sem,go_sem_proc,gT,au,G,ad,aZ,hm,tf,p2,Aq,sl jA,mB,b5,aj,beq_self_eq_true]<;>try refine ae ?_ ?_)
  ·have yC:(D l)<=60:=by
    have:=congrArg D af;rw[ks] at this;omega
   have sF:(u==0)=false:=by simpa using Fz
   have c1:=λd:Int=>lq jA wG 144022 g 8 l d (cs:=[.J (.int .i64 d)]) rfl (by omega) (by omega);have aQ:=afP u;have az:=afQ u;have eT:=afR (a:=u) 1048576 (by omega);have iA:=afS (a:=u) (b:=1048576) (by omega) (by omega);have m0:IntKind.i64.wrap (u.tdiv 1048576)=u.tdiv 1048576:=wrap64 _ (by omega) (by omega);have tV:=tG (n:=u.natAbs) (by omega);have a2:decide (u.tmod 1048576<0)=false:=df;refine ah ?_;repeat' (intro (ai:_=_)<;>simp only[ai,go_sem,go_sem_proc,gT,au,G,ad,aZ,hm,tf,sF,c1,m0,a2,aj,bl]<;>try refine ae ?_ ?_)
   refine⟨(u.tdiv 1048576,g+1,l++[u.tmod 1048576]),by dsimp only;omega,by dsimp only;omega,by dsimp only;omega,?_,rfl,by simp,by first|rfl|simp[go_sem]⟩
   dsimp only;rw[af,tV,az,ki,show u.tmod 1048576=((u.natAbs%1048576:Nat):Int) by omega]
   rfl
def qT (a b:Raw):Bool:=decide (a=b)
def PY:=bI iO λ(s,l,s2,Z)=>ca (D l<=1000000/\D Z<=1000000) (.same (.bool (qT (s,l) (s2,Z))))
@[go_sem] def aBo (s l s2 Z):=cl PY rfl qI (s,l,s2,Z) rfl
def asn (T:bj):WF T afy PY:=by
 refine b7 λ(s,l,s2,Z)=>cq λY=>⟨rfl,b6 ?_⟩;simp only[afy,iO,bX];obtain⟨bs,br⟩:=Y
 by_cases Q:s=s2
 ·subst Q
  by_cases ag:(D l)=D Z
  ·have aQ:(((D l:Nat):Int)==((D Z:Nat):Int))=true:=by simp;omega
   simp only[go_sem,go_sem_proc,beq_self_eq_true,aj,aQ,c2,bne];refine cX [2,3] [210002,210003] (λ(i:Nat) tm mem=>i<=D l/\l.take i=Z.take i/\tm 5=.J (.int .i64 i)) (λi=>D l-i) 0 (by refine⟨by omega,by simp,rfl⟩) ?_;intro vs ms aK aF;simp only[go_sem,go_sem_proc,aj] at aK aF;subst aK aF;rintro i tm mem R hm ⟨ab,al,bw⟩;simp only[go_sem,go_sem_proc,bl] at R hm;obtain⟨G,ad⟩:=R;obtain⟨b0,fJ⟩:=hm;rcases du (i<D l) with aq|bD
   ·have L:l[i]?=some l[i]:=bf aq;have ak:Z[i]?=some Z[i]:=bf (by omega);have uN:l.take (i+1)=l.take i++[l[i]]:=by rw[ho,L];rfl
    have qi:Z.take (i+1)=Z.take i++[Z[i]]:=by rw[ho,ak];rfl
    generalize l[i]=x at *;generalize Z[i]=y at *;have d1:decide ((i:Int)<(D l:Int))=true:=c7;have bL:=e2 (i:=i) (by omega)
    by_cases hl:x=y
    ·subst hl;refine ah ?_;repeat' (intro (ai:_=_)<;>simp only[ai,go_sem,go_sem_proc,G,ad,bw,b0,fJ,L,ak,d1,bL,aI,aj,bg,bl,beq_self_eq_true,c2]<;>try refine ae ?_ ?_)
     exact⟨i+1,by omega,by omega,by rw[uN,qi,al],rfl⟩
    ·have bq:(x==y)=false:=by simpa using hl
     have M:qT (s,l) (s,Z)=false:=by
      refine me λh=>hl ?_;rw[eM] at h;rw[h.2,ak] at L;exact (mm L).symm
     rw[M];refine ah ?_;repeat' (intro (ai:_=_)<;>simp only[ai,go_sem,go_sem_proc,G,ad,bw,b0,fJ,L,ak,d1,bL,bq,aI,aj,bg,bl,dc]<;>try refine ae ?_ ?_)
   ·have d1:decide ((i:Int)<(D l:Int))=false:=df
    have M:qT (s,l) (s,Z)=true:=by
     refine mL ?_;rw[dF (by omega),dF (by omega)] at al;rw[al]
    rw[M];refine ah ?_;repeat' (intro (ai:_=_)<;>simp only[ai,go_sem,go_sem_proc,G,ad,bw,b0,fJ,d1,aj]<;>try refine ae ?_ ?_)
  ·have aQ:(((D l:Nat):Int)==((D Z:Nat):Int))=false:=by simp;omega
   have M:qT (s,l) (s,Z)=false:=by
    refine me λh=>ag ?_;rw[eM] at h;rw[h.2]
   rw[M];refine ah ?_;repeat' (intro (ai:_=_)<;>simp only[ai,go_sem,go_sem_proc,beq_self_eq_true,aj,aQ,c2,dc,bne]<;>try refine ae ?_ ?_)
 ·have bq:(s==s2)=false:=by simpa using Q
  have M:qT (s,l) (s2,Z)=false:=by
   refine me λh=>Q ?_;rw[eM] at h;exact h.1
  rw[M];refine ah ?_;repeat' (intro (ai:_=_)<;>simp only[ai,go_sem,go_sem_proc,bq,aj,c2,dc,bne]<;>try refine ae ?_ ?_)
def K9:=bI pJ λ(s,l)=>some (.same (eo (Fq (s,l))))
@[go_sem] def aBp (s l):=sm K9 rfl Cb (s,l) rfl
def aso (T:bj):WF T afx K9:=by
 refine b7 λ(s,l)=>⟨rfl,b6 ?_⟩;simp only[afx,pJ,bX];refine ah ?_;repeat' (intro h<;>simp only[h,go_sem,go_sem_proc,aj]<;>try refine ae ?_ ?_)
 all_goals (simp only[eo,b5,Fq];simp only[bP, *,reduceIte,c2,dc,tD,qz,tE,pE,pF,e0,iZ,eO,cE,beq_self_eq_true,bne])
def asp {x y:Int}(h:bb x=bb y):x=y:=by rw[<-eK x,h,eK]
def La:=bI iO λ(s,l,s2,Z)=>ca (D l<=1000000/\D Z<=1000000) (.same (.int .i64 (pP (s,l) (s2,Z))))
@[go_sem] def aBq (s l s2 Z):=cl La rfl qI (s,l,s2,Z) rfl
def asq (T:bj)(fx:T kG=aG uD)(DA:T SV=aG PY)(jw:T z9=aG Dz):WF T afv La:=by
 refine b7 λ(s,l,s2,Z)=>cq λY=>⟨rfl,b6 ?_⟩;simp only[afv,iO,bX];obtain⟨bs,br⟩:=Y
 by_cases M:cK (s,l)=true
 ·by_cases aW:cK (s2,Z)=true
  ·obtain⟨x,L,e⟩:=(hp _).1 M;obtain⟨y,ak,az⟩:=(hp _).1 aW;have hm:pP (s,l) (s2,Z)=gd x y:=by rw[e,az];exact Js L ak
   rw[hm];clear hm
   have DB:qT (s,l) (s2,Z)=decide (x=y):=by
    rw[e,az];exact decide_eq_decide.2 ⟨asp,λh=>by rw[h]⟩
   cases e
   cases az;have mz:=m4 L;have k2:=m4 ak
   by_cases hl:x=y
   ·subst hl;rw[mL rfl] at DB;rw[Fv];refine ah ?_;repeat' (intro (ai:_=_)<;>simp only[ai,go_sem,go_sem_proc,fx,DA,jw,M,aW,bs,br,DB]<;>try refine ae ?_ ?_)
   ·rw[me hl] at DB;have gA:=WA x.natAbs y.natAbs ⟨by omega,by omega⟩
    simp only[dv] at gA
    have zl:gd x y=if x<y then -1 else 1:=by
     rcases oX x y with h|h|h
     ·rw[yJ h,aL h]
     ·exact absurd h hl
     ·rw[Cn h,aT (by omega)]
    rw[zl]
    by_cases Q:x.sign=y.sign
    ·have vg:(x.sign==y.sign)=true:=by simpa using Q
     have jS:(decide (x.natAbs<y.natAbs)==decide (x.sign>0))=decide (x<y):=by
      rw[Bool.beq_eq_decide_eq,decide_eq_decide];simp only[decide_eq_decide];rcases kl x with ⟨e,F⟩|⟨e,F⟩|⟨e,F⟩<;>rcases kl y with ⟨e',G⟩|⟨e',G⟩|⟨e',G⟩<;>rw[e,e'] at Q<;>first|omega|skip
     by_cases aq:x<y
     ·rw[mL aq] at jS;rw[aL aq];refine ah ?_;repeat' (intro (ai:_=_)<;>simp only[ai,go_sem,go_sem_proc,fx,DA,jw,M,aW,bs,br,DB,vg,gA,jS,c2,bne]<;>try refine ae ?_ ?_)
     ·rw[me aq] at jS;rw[aT aq];refine ah ?_;repeat' (intro (ai:_=_)<;>simp only[ai,go_sem,go_sem_proc,fx,DA,jw,M,aW,bs,br,DB,vg,gA,jS,c2,bne]<;>try refine ae ?_ ?_)
    ·have vg:(x.sign==y.sign)=false:=by simpa using Q
     have jS:decide (x.sign<y.sign)=decide (x<y):=by
      rw[decide_eq_decide];rcases kl x with ⟨e,F⟩|⟨e,F⟩|⟨e,F⟩<;>rcases kl y with ⟨e',G⟩|⟨e',G⟩|⟨e',G⟩<;>rw[e,e'] at Q ⊢<;>omega
     by_cases aq:x<y
     ·rw[mL aq] at jS;rw[aL aq];refine ah ?_;repeat' (intro (ai:_=_)<;>simp only[ai,go_sem,go_sem_proc,fx,DA,jw,M,aW,bs,br,DB,vg,jS,dc,bne]<;>try refine ae ?_ ?_)
     ·rw[me aq] at jS;rw[aT aq];refine ah ?_;repeat' (intro (ai:_=_)<;>simp only[ai,go_sem,go_sem_proc,fx,DA,jw,M,aW,bs,br,DB,vg,jS,dc,bne]<;>try refine ae ?_ ?_)
  ·have aW:cK (s2,Z)=false:=by simpa using aW
   have hm:pP (s,l) (s2,Z)=0:=by unfold pP;rw[aW,iZ];rfl
   rw[hm];refine ah ?_;repeat' (intro (ai:_=_)<;>simp only[ai,go_sem,go_sem_proc,fx,DA,jw,M,aW,bs,br]<;>try refine ae ?_ ?_)
 ·have M:cK (s,l)=false:=by simpa using M
  have hm:pP (s,l) (s2,Z)=0:=by unfold pP;rw[M,eO];rfl
  rw[hm];refine ah ?_;repeat' (intro (ai:_=_)<;>simp only[ai,go_sem,go_sem_proc,fx,DA,jw,M,bs,br]<;>try refine ae ?_ ?_)
def Lb:=bI iO λ(s,l,s2,Z)=>ca (D l<=1000000/\D Z<=1000000) (.same (eo (mA (s,l) (s2,Z))))
@[go_sem] def aBr (s l s2 Z):=cl Lb rfl qI (s,l,s2,Z) rfl
def asr (T:bj)(fx:T kG=aG uD)(rN:T IL=aG K6)(gT:T od=aG zk):WF T afk Lb:=by
 refine b7 λ(s,l,s2,Z)=>cq λY=>⟨rfl,b6 ?_⟩;simp only[afk,iO,bX];obtain⟨bs,br⟩:=Y
 by_cases M:cK (s,l)=true
 ·by_cases aW:cK (s2,Z)=true
  ·obtain⟨x,L,e⟩:=(hp _).1 M;obtain⟨y,ak,az⟩:=(hp _).1 aW
   have hm:mA (s,l) (s2,Z)=(bb (gr x.natAbs y.natAbs:Nat),0):=by
    rw[e,az];unfold mA
    rw[jZ L,jZ ak,eK,eK]
    rfl
   rw[hm];clear hm
   cases e
   cases az;have mz:=m4 L;have k2:=m4 ak;have aN:=Fw L ak;generalize oh:x.natAbs=X at *;generalize yK:y.natAbs=nq at *;have Ju:(aH X).length<=1000000:=by omega
   simp only[go_sem,go_sem_proc,fx,rN,gT,M,aW,oh,yK,bs,br,Ju,aI,aj];refine cX [4] [164004] (λ((a,b):Nat×Nat) tm mem=>a<cY/\b<cY/\gr X nq=gr a b/\tm 6=.J (.ar ((aH a).map aI))/\tm 7=.J (.ar ((aH b).map aI))) (λ(_,b)=>b) (X,nq) (by refine⟨L,ak,rfl,rfl,rfl⟩) ?_;intro vs ms aK aF;simp only[go_sem,go_sem_proc,fx,rN,gT,oh,yK] at aK aF;subst aK aF;rintro⟨a,b⟩ tm mem R hm ⟨bc,U,vh,bA,bM⟩;simp only[go_sem,go_sem_proc,fx,rN,gT,bl] at R hm;have aZ:=R;have nj:(aH a).length<=60:=fY.2 bc;have qE:(aH b).length<=60:=fY.2 U;rcases ln b with au|h3
   ·subst au;have a2:aH 0=[]:=rfl;have T3:(aH a).length<=1000000:=by omega
    rw[Nat.gcd_zero_right] at vh;have Q:jX 1 (aH a)=bb ((a:Nat):Int):=m3 (by simp) λaC=>(gq (by omega)).symm;rw[vh];refine ah ?_;repeat' (intro h<;>simp only[h,go_sem,go_sem_proc,fx,rN,gT,aZ,bA,bM,hm,a2,T3,Q,b5,eo,ot,bP,mV,oe,oV,show ¬ ((0:Int)>0) by omega,decide_false]<;>try refine ae ?_ ?_)
   ·have bq:decide (((aH b).length:Int)>0)=true:=by
     have:aH b≠[]:=by rw[Ne,yi];omega
     have:=List.length_pos_iff.2 this;exact c7
    have hdiv:=afM a b ⟨by omega,by omega,h3⟩
    simp only[dv] at hdiv;refine ah ?_;repeat' (intro h<;>simp only[h,go_sem,go_sem_proc,fx,rN,gT,aZ,bA,bM,hm,bq,hdiv,aj]<;>try refine ae ?_ ?_)
    exact⟨(b,a%b),oQ _ h3,U,yy (Nat.mod_le _ _) bc,by dsimp only;rw[vh,Jv a b,Nat.gcd_rec b a,Jv],rfl,rfl⟩
  ·have aW:cK (s2,Z)=false:=by simpa using aW
   have hm:mA (s,l) (s2,Z)=((0,[]),1):=by unfold mA;rw[aW,iZ];rfl
   rw[hm];refine ah ?_;repeat' (intro h<;>simp only[h,go_sem,go_sem_proc,fx,rN,gT,M,aW,bs,br,b5,eo,bP]<;>try refine ae ?_ ?_)
 ·have M:cK (s,l)=false:=by simpa using M
  have hm:mA (s,l) (s2,Z)=((0,[]),1):=by unfold mA;rw[M,eO];rfl
  rw[hm];refine ah ?_;repeat' (intro h<;>simp only[h,go_sem,go_sem_proc,fx,rN,gT,M,bs,br,b5,eo,bP]<;>try refine ae ?_ ?_)
def DC:=bI iO λ(s,l,s2,Z)=>ca (D l<=1000000/\D Z<=1000000) (.same (eo (mulR (s,l) (s2,Z))))
@[go_sem] def aBs (s l s2 Z):=cl DC rfl qI (s,l,s2,Z) rfl
def ass (T:bj)(fx:T kG=aG uD)(oD:T BZ=aG GP)(gT:T od=aG zk)(vS:T B0=aG K9):WF T aft DC:=by
 refine b7 λ(s,l,s2,Z)=>cq λY=>⟨rfl,b6 ?_⟩;simp only[aft,iO,bX];obtain⟨bs,br⟩:=Y
 by_cases M:cK (s,l)=true
 ·by_cases aW:cK (s2,Z)=true
  ·obtain⟨x,L,e⟩:=(hp _).1 M;obtain⟨y,ak,az⟩:=(hp _).1 aW;have hm:mulR (s,l) (s2,Z)=nR (x*y):=by rw[e,az];exact yI L ak
   rw[hm];clear hm
   cases e
   cases az;have F:=m5 x;have G:=m5 y;have aR:x.sign*y.sign=(x*y).sign:=(Int.sign_mul x y).symm;have ad:=m5 (x*y);have hw:IntKind.i64.wrap (x.sign*y.sign)=(x*y).sign:=by rw[aR];exact wrap64 _ (by omega) (by omega)
   have hmul:=WE x.natAbs y.natAbs ⟨iG (m4 L) (by omega),iG (m4 ak) (by omega)⟩;simp only[dv] at hmul
   have hlen:(aH (x.natAbs*y.natAbs)).length<=1000000:=by
    refine iG ((fY (k:=120)).2 ?_) (by omega);have:(1048576^120:Nat)=cY*cY:=by unfold cY;rw[<-Nat.pow_add]
    rw[this];exact Nat.mul_lt_mul'' L ak
   have Q:jX (x*y).sign (aH (x.natAbs*y.natAbs))=bb (x*y):=m3 (Int.natAbs_mul x y) λ_=>rfl;refine ah ?_;repeat' (intro h<;>simp only[h,go_sem,go_sem_proc,fx,oD,gT,vS,M,aW,bs,br,hw,hmul,hlen,Q,ve,b5,eo,ot]<;>try refine ae ?_ ?_)
  ·have aW:cK (s2,Z)=false:=by simpa using aW
   have hm:mulR (s,l) (s2,Z)=((0,[]),1):=by unfold mulR;rw[aW,iZ];rfl
   rw[hm];refine ah ?_;repeat' (intro h<;>simp only[h,go_sem,go_sem_proc,fx,oD,gT,vS,M,aW,bs,br,b5,eo,bP]<;>try refine ae ?_ ?_)
 ·have M:cK (s,l)=false:=by simpa using M
  have hm:mulR (s,l) (s2,Z)=((0,[]),1):=by unfold mulR;rw[M,eO];rfl
  rw[hm];refine ah ?_;repeat' (intro h<;>simp only[h,go_sem,go_sem_proc,fx,oD,gT,vS,M,bs,br,b5,eo,bP]<;>try refine ae ?_ ?_)
def Lc:=bI iO λ(s,l,s2,Z)=>ca (D l<=1000000/\D Z<=1000000) (.same (eo (lz (s,l) (s2,Z))))
@[go_sem] def aBt (s l s2 Z):=cl Lc rfl qI (s,l,s2,Z) rfl
def ast (T:bj)(fx:T kG=aG uD)(rO:T IM=aG K4)(jw:T z9=aG Dz)(lK:T z8=aG GN)(gT:T od=aG zk)(vS:T B0=aG K9):WF T afw Lc:=by
 refine b7 λ(s,l,s2,Z)=>cq λY=>⟨rfl,b6 ?_⟩;simp only[afw,iO,bX];obtain⟨bs,br⟩:=Y
 by_cases M:cK (s,l)=true
 ·by_cases aW:cK (s2,Z)=true
  ·obtain⟨x,L,e⟩:=(hp _).1 M;obtain⟨y,ak,az⟩:=(hp _).1 aW;have hm:lz (s,l) (s2,Z)=nR (x+y):=by rw[e,az];exact Jq L ak
   rw[hm];clear hm
   cases e
   cases az;have F:=m5 x;have G:=m5 y;have mz:=m4 L;have k2:=m4 ak;have NY:=Fp x;have am5:=Fp y
   have nT:(x.sign=1/\0<x)\/(x.sign=0/\x=0)\/(x.sign = -1/\x<0):=by
    rcases oX x 0 with h|h|h
    ·exact .inr (.inr ⟨kJ h,h⟩)
    ·exact .inr (.inl ⟨by rw[h];rfl,h⟩)
    ·exact .inl ⟨gq h,h⟩
   have ty:(y.sign=1/\0<y)\/(y.sign=0/\y=0)\/(y.sign = -1/\y<0):=by
    rcases oX y 0 with h|h|h
    ·exact .inr (.inr ⟨kJ h,h⟩)
    ·exact .inr (.inl ⟨by rw[h];rfl,h⟩)
    ·exact .inl ⟨gq h,h⟩
   have sI:=afF x.natAbs y.natAbs ⟨by omega,by omega⟩
   simp only[dv] at sI
   have hlen:(aH (x.natAbs+y.natAbs)).length<=1000000:=by
    refine iG ((fY (k:=61)).2 ?_) (by omega);have:(1048576^61:Nat)=cY*1048576:=by unfold cY;rw[<-z5]
    omega
   have eY:=WA x.natAbs y.natAbs ⟨by omega,by omega⟩
   simp only[dv] at eY
   by_cases aR:x.sign*y.sign>=0
   ·have tT:bits .or .i64 x.sign y.sign=yt [x.sign,y.sign]:=by
     rcases nT with ⟨e,_⟩|⟨e,_⟩|⟨e,_⟩<;>rcases ty with ⟨e',_⟩|⟨e',_⟩|⟨e',_⟩<;>rw[e,e'] at aR ⊢<;>first|rfl|exact absurd aR (by decide)
    have Q:jX (yt [x.sign,y.sign]) (aH (x.natAbs+y.natAbs))=bb (x+y):=by
     refine m3 ?_ ?_
     ·rcases nT with ⟨e,_⟩|⟨e,_⟩|⟨e,_⟩<;>rcases ty with ⟨e',_⟩|⟨e',_⟩|⟨e',_⟩<;>rw[e,e'] at aR<;>omega
     ·intro aC;rcases nT with ⟨e,_⟩|⟨e,_⟩|⟨e,_⟩<;>rcases ty with ⟨e',_⟩|⟨e',_⟩|⟨e',_⟩<;>rw[e,e'] at aR ⊢
      ·exact (gq (by omega)).symm
      ·exact (gq (by omega)).symm
      ·omega
      ·exact (gq (by omega)).symm
      ·omega
      ·exact (kJ (by omega)).symm
      ·omega
      ·exact (kJ (by omega)).symm
      ·exact (kJ (by omega)).symm
    rcases ck:(x.sign==0)
    ·rcases dC:(y.sign==0)
     ·have gv:(x.sign==y.sign)=true:=by
       rw[beq_eq_false_iff_ne] at ck dC;rw[beq_iff_eq];rcases nT with ⟨e,_⟩|⟨e,_⟩|⟨e,_⟩<;>rcases ty with ⟨e',_⟩|⟨e',_⟩|⟨e',_⟩<;>rw[e,e'] at aR ⊢<;>omega
      refine ah ?_;repeat' (intro (ai:_=_)<;>simp only[ai,go_sem,go_sem_proc,fx,rO,jw,lK,gT,vS,M,aW,bs,br,ck,dC,gv,tT,sI,hlen,Q,ve,b5,eo,ot]<;>try refine ae ?_ ?_)
     ·refine ah ?_;repeat' (intro (ai:_=_)<;>simp only[ai,go_sem,go_sem_proc,fx,rO,jw,lK,gT,vS,M,aW,bs,br,ck,dC,tT,sI,hlen,Q,ve,b5,eo,ot]<;>try refine ae ?_ ?_)
    ·refine ah ?_;repeat' (intro (ai:_=_)<;>simp only[ai,go_sem,go_sem_proc,fx,rO,jw,lK,gT,vS,M,aW,bs,br,ck,tT,sI,hlen,Q,ve,b5,eo,ot]<;>try refine ae ?_ ?_)
   ·have ck:(x.sign==0)=false:=by
     rw[beq_eq_false_iff_ne];rcases nT with ⟨e,_⟩|⟨e,_⟩|⟨e,_⟩<;>rw[e] at aR ⊢<;>omega
    have dC:(y.sign==0)=false:=by
     rw[beq_eq_false_iff_ne];rcases ty with ⟨e,_⟩|⟨e,_⟩|⟨e,_⟩<;>rw[e] at aR ⊢<;>omega
    have gv:(x.sign==y.sign)=false:=by
     rw[beq_eq_false_iff_ne];rcases nT with ⟨e,_⟩|⟨e,_⟩|⟨e,_⟩<;>rcases ty with ⟨e',_⟩|⟨e',_⟩|⟨e',_⟩<;>rw[e,e'] at aR ⊢<;>omega
    by_cases aq:x.natAbs<y.natAbs
    ·have oZ:decide (x.natAbs<y.natAbs)=true:=mL aq;have g2:=PV y.natAbs x.natAbs ⟨by omega,by omega⟩
     simp only[dv] at g2;have vf:(aH (y.natAbs-x.natAbs)).length<=1000000:=iG (Fu _ _) (by omega)
     have Q:jX y.sign (aH (y.natAbs-x.natAbs))=bb (x+y):=by
      refine m3 ?_ ?_
      ·rcases nT with ⟨e,_⟩|⟨e,_⟩|⟨e,_⟩<;>rcases ty with ⟨e',_⟩|⟨e',_⟩|⟨e',_⟩<;>rw[e,e'] at aR<;>omega
      ·intro aC;rcases nT with ⟨e,_⟩|⟨e,_⟩|⟨e,_⟩<;>rcases ty with ⟨e',_⟩|⟨e',_⟩|⟨e',_⟩<;>rw[e,e'] at aR<;>rw[e']<;>first|omega|exact (gq (by omega)).symm|exact (kJ (by omega)).symm
     refine ah ?_;repeat' (intro (ai:_=_)<;>simp only[ai,go_sem,go_sem_proc,fx,rO,jw,lK,gT,vS,M,aW,bs,br,ck,dC,gv,eY,oZ,g2,vf,Q,ve,b5,eo,ot]<;>try refine ae ?_ ?_)
    ·have oZ:decide (x.natAbs<y.natAbs)=false:=me aq;have g2:=PV x.natAbs y.natAbs ⟨by omega,by omega⟩
     simp only[dv] at g2;have vf:(aH (x.natAbs-y.natAbs)).length<=1000000:=iG (Fu _ _) (by omega)
     have Q:jX x.sign (aH (x.natAbs-y.natAbs))=bb (x+y):=by
      refine m3 ?_ ?_
      ·rcases nT with ⟨e,_⟩|⟨e,_⟩|⟨e,_⟩<;>rcases ty with ⟨e',_⟩|⟨e',_⟩|⟨e',_⟩<;>rw[e,e'] at aR<;>omega
      ·intro aC;rcases nT with ⟨e,_⟩|⟨e,_⟩|⟨e,_⟩<;>rcases ty with ⟨e',_⟩|⟨e',_⟩|⟨e',_⟩<;>rw[e,e'] at aR<;>rw[e]<;>first|omega|exact (gq (by omega)).symm|exact (kJ (by omega)).symm
     refine ah ?_;repeat' (intro (ai:_=_)<;>simp only[ai,go_sem,go_sem_proc,fx,rO,jw,lK,gT,vS,M,aW,bs,br,ck,dC,gv,eY,oZ,g2,vf,Q,ve,b5,eo,ot]<;>try refine ae ?_ ?_)
  ·have aW:cK (s2,Z)=false:=by simpa using aW
   have hm:lz (s,l) (s2,Z)=((0,[]),1):=by unfold lz;rw[aW,iZ];rfl
   rw[hm];refine ah ?_;repeat' (intro (ai:_=_)<;>simp only[ai,go_sem,go_sem_proc,fx,rO,jw,lK,gT,vS,M,aW,bs,br,b5,eo,bP]<;>try refine ae ?_ ?_)
 ·have M:cK (s,l)=false:=by simpa using M
  have hm:lz (s,l) (s2,Z)=((0,[]),1):=by unfold lz;rw[M,eO];rfl
  rw[hm];refine ah ?_;repeat' (intro (ai:_=_)<;>simp only[ai,go_sem,go_sem_proc,fx,rO,jw,lK,gT,vS,M,bs,br,b5,eo,bP]<;>try refine ae ?_ ?_)
def asu (b:Raw):(hy b).2.length<=60:=by
 unfold hy
 split
 ·rename_i h;obtain⟨z,a2,e⟩:=(hp _).1 h;rw[e,eK];exact fY.2 (by rw[rr];exact a2)
 ·exact dG _
def xx (a b:Raw):Raw×Int:=if cK b=true then lz a (hy b) else ((0,[]),1)
def WN {z:Int}(h:z.natAbs<cY):hy (bb z)=bb (-z):=by unfold hy;rw[aL (jZ h),eK]
def asv {x y:Int}(L:x.natAbs<cY)(ak:y.natAbs<cY):xx (bb x) (bb y)=nR (x-y):=by
 unfold xx;rw[aL (jZ ak),WN ak,Jq L (by rw[rr];exact ak)]
 rfl
def PZ:=bI iO λ(s,l,s2,Z)=>ca (D l<=1000000/\D Z<=1000000) (.same (eo (xx (s,l) (s2,Z))))
@[go_sem] def aBu (s l s2 Z):=cl PZ rfl qI (s,l,s2,Z) rfl
def asw (T:bj)(fx:T kG=aG uD)(A1:T ET=aG K7)(xy:T IT=aG Lc):WF T afu PZ:=by
 refine b7 λ(s,l,s2,Z)=>cq λY=>⟨rfl,b6 ?_⟩;simp only[afu,iO,bX];obtain⟨bs,br⟩:=Y;unfold xx
 by_cases aW:cK (s2,Z)=true
 ·rw[aL aW];have mn:=asu (s2,Z);rcases aC:hy (s2,Z) with ⟨bU,b1⟩;rw[aC] at mn;dsimp only at mn;have asx:(D b1)<=1000000:=by omega
  refine ah ?_;repeat' (intro h<;>simp only[h,go_sem,go_sem_proc,fx,A1,xy,aW,bs,br,aC,asx,b5,eo]<;>try refine ae ?_ ?_)
 ·have aW:cK (s2,Z)=false:=by simpa using aW
  refine ah ?_;repeat' (intro h<;>simp only[h,go_sem,go_sem_proc,fx,A1,xy,aW,br,b5,eo,bP]<;>try refine ae ?_ ?_)
end Go.Mini
