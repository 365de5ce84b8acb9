/- A part of the proof. -/
import Derived.Test.YtplehnijfhgclaaGreatDoorProg
import Derived.KernelRfl
import Derived.Test.YtplehnijfhgclaaGreatDoorM03
set_option linter.unusedSimpArgs false
set_option linter.unusedVariables false
set_option linter.defProp false
set_option maxRecDepth 100000
set_option maxHeartbeats 4000000
noncomputable section
open Bool renaming and_eq_false_iff->ad1,and_eq_true->fe,and_false->iZ,and_self->KC,and_true->pF,false_and->eN,false_eq_true->cC,false_or->pE,not_eq_false->ae4,not_eq_false'->Pf,not_eq_true'->vA,not_false->db,not_true->cZ,or_eq_true->tz,or_false->tD,or_true->tC,rec->gr,true_and->eZ,true_or->qz
open Classical renaming choose_spec->sk
open Decidable renaming em->dt
open Int renaming add_comm->yz,add_zero->Jg,cast_ofNat_Int->oV,eq_ofNat_of_zero_le->vI,lt_trichotomy->oX,mul_add->h9,mul_assoc->ia,mul_zero->wP,natAbs_neg->rr,natCast_zero->oe,pow_succ->mY,sign_eq_neg_one_of_neg->kJ,sign_eq_one_of_pos->gp,sign_mul_natAbs->Fo,tdiv_eq_ediv_of_nonneg->Fe,tdiv_nonneg->afR,tmod_eq_emod_of_nonneg->I9,tmod_nonneg->afQ,toNat_natCast->lX
open List renaming all_append->Dh,all_cons->u2,all_eq_true->kA,any_eq_false->sN,append_assoc->ki,append_nil->mX,count_replicate_self->ae7,count_set->ae2,drop->nL,drop_eq_getElem_cons->gw,drop_eq_nil_of_le->lj,drop_set_of_lt->se,drop_zero->pD,flatten_cons->mg,flatten_nil->afy,getD_eq_getElem?_getD->dG,getElem?_eq_getElem->bc,getElem?_eq_none->lk,getElem?_eq_some_iff->dK,getElem?_map->bd,getElem?_range->r3,getElem_mem->ha,length->D,length_append->ks,length_cons->lQ,length_map->ah,length_nil->mV,length_range->tE,length_replicate->hr,length_set->fj,length_singleton->Wh,length_take->gj,map_append->pT,map_cons->gZ,map_nil->bN,map_replicate->CL,map_take->afz,mem_filterMap->aeg,mem_map->h7,mem_of_getElem?->cJ,mem_or_eq_of_mem_set->nW,mem_range->BM,mem_replicate->pM,mem_singleton->sE,mem_zipIdx_iff_getElem?->Et,range->qj,range'->Kf,range_eq_range'->aer,replicate->cf,replicate_succ->qn,take->mZ,take_add_one->hn,take_length->mB,take_of_length_le->dE
open List.cons renaming injEq->bj
open Nat renaming add_zero->lo,beq->hf,ble->rF,blt->AM,div_div_eq_div_mul->afC,eq_of_beq_eq_true->Kn,eq_zero_or_pos->ln,gcd->gq,gcd_comm->Ju,le_of_ble_eq_true->p3,le_refl->c8,le_trans->iG,lt_of_div_lt_div->afD,lt_of_le_of_lt->yx,lt_or_ge->gX,lt_succ_self->KL,max_eq_right->WG,min_eq_left->n7,mod_lt->oQ,mul_comm->ye,mul_le_mul_right->q7,mul_lt_mul_of_pos_left->afK,mul_one->dL,one_lt_pow->aeT,pow_succ->z4,reduceEqDiff->sW,sub_self->hF,zero_le->dF
open Option renaming bind_none->o1,map_eq_some_iff->c2,rec->k7
open Option.some renaming inj->mm,injEq->bM
open Prod renaming ext->cx
open Prod.mk renaming injEq->eL
namespace Go.Mini
open Go
variable {P:Program} {b2:Option H} {A:Nat->Prop} {cq w:World} {dD B:cS} {n kb:Nat} {own:List Nat} {ops:Array Oper} {o:Oper} {run:jH} {t:fp} {m:e6} {c:Nat} {d:Option H} {T:bg} {gk:Nat->Nat->Bool} {l:List bw}
def pZ (T:bg)(gk:Nat->Nat->Bool)(p0:Nat)(s3:bw->Rec->a6->a6->Prop)(S:Nat->bw->(Nat->H)->Prop):uX:=λi x rec st iN cb =>
 if i=p0 then iN=rec/\s3 x rec st cb else jr T gk i x rec st iN cb/\S i x st.tm
def adY {p0:Nat}{s3:bw->Rec->a6->a6->Prop}{S:Nat->bw->(Nat->H)->Prop}:Ia (pZ T gk p0 s3 S):=by
 intro i x rec st iN cb h k Q;unfold pZ at h
 split at h
 ·rw[h.1]
 ·exact RS h.1 Q
def Pe {i j:Nat}(R:((fU ops.toList []).getD j 0).testBit i=true)(listed:Array Bool)(ea:wy ops listed)(Z:i∈Region.ready .any ops listed)(Y:j∈Region.ready .any ops listed):False:=by
 obtain⟨_,o,a4,cX⟩:=mem_ready.1 Y;have F:=Y4 ea j o a4 cX i R;have aq:=(mem_ready.1 Z).1;rcases gX i listed.size with cG|cG
 ·simp[cG] at aq F;rw[aq] at F;cases F
 ·simp[Array.getElem?_eq_none cG] at F
def l4 (p1:List Nat)(g j:Nat):Bool:=!(hf j g) && !((p1.getD g 0).testBit j) && !((p1.getD j 0).testBit g)
def adZ {i:Nat}{x:bw}{rec iN:Rec}{st cb:a6}(h:jr T gk i x rec st iN cb):∃v,cb.tm=put st.tm x.dst v:=by
 rcases h with ⟨_,_,rfl⟩|⟨_,m,e,_,_,_,rfl⟩
 ·exact⟨_,rfl⟩
 ·exact⟨_,rfl⟩
def ad0 {p0:Nat}{s3:bw->Rec->a6->a6->Prop}{S:Nat->bw->(Nat->H)->Prop}(ad:qh ops l=true)(aqz:gk=mS (mi [] l (fU ops.toList [])))
  (cU:∀i x tm tm',(∀s∈looks x,tm s=tm' s)->S i x tm->S i x tm')
  (F:∀(j:Nat) (x y:bw) rec st rec1 st1 kD,l4 (fU ops.toList []) p0 j=true->l[p0]?=some x->l[j]?=some y->oH y x=true->rec j=none->jr T gk j y rec st rec1 st1->S j y st.tm->s3 x rec1 st1 kD->∃jz,s3 x rec st jz/\jr T gk j y rec jz rec1 kD)
  (G:∀(j:Nat) (x y:bw) rec st kC st1 kD,l4 (fU ops.toList []) p0 j=true->l[p0]?=some x->l[j]?=some y->oH x y=true->rec j=none->s3 x rec st st1->jr T gk j y rec st1 kC kD->S j y st1.tm->∃jz,jr T gk j y rec st kC jz/\S j y st.tm/\s3 x kC jz kD)
  (aa:∀(x:bw) rec st cb,s3 x rec st cb->l[p0]?=some x->(∃v,cb.tm=put st.tm x.dst v)\/(∀j y,l[j]?=some y->l4 (fU ops.toList []) p0 j=false)):H9 (pZ T gk p0 s3 S) ops l:=by
 intro i j x y hW Z Y;rcases RU ad i j x y hW Z Y with h|⟨cY,iQ⟩
 ·exact .inl h
 ·by_cases xh:i=p0
  ·subst xh;have kV:j≠i:=λh=>hW h.symm
   cases hu:l4 (fU ops.toList []) i j with
   |false =>
    unfold l4 at hu;simp only[ad1,Pf] at hu;rcases hu with (hu|hu)|hu
    ·exact absurd (Kn hu) kV
    ·exact .inl λlisted ea F G=>Pe hu listed ea G F
    ·exact .inl λlisted ea F G=>Pe hu listed ea F G
   |true =>
    refine .inr λrec st rec1 st1 kC kD wv vF aO ax=>?_;unfold pZ at aO ax ⊢;rw[aJ rfl] at aO;rw[aR kV] at ax;obtain⟨rfl,aO⟩:=aO;obtain⟨jz,dw,dV,hQ⟩:=G j x y _ _ _ _ _ hu Z Y cY vF aO ax.1 ax.2;exact⟨kC,jz,by rw[aR kV];exact⟨dw,dV⟩,by rw[aJ rfl];exact⟨rfl,hQ⟩⟩
  ·by_cases CW:j=p0
   ·subst CW
    cases hu:l4 (fU ops.toList []) j i with
    |false =>
     unfold l4 at hu;simp only[ad1,Pf] at hu;rcases hu with (hu|hu)|hu
     ·exact absurd (Kn hu) hW
     ·exact .inl λlisted ea F G=>Pe hu listed ea F G
     ·exact .inl λlisted ea F G=>Pe hu listed ea G F
    |true =>
     refine .inr λrec st rec1 st1 kC kD wv vF aO ax=>?_;unfold pZ at aO ax ⊢;rw[aR hW] at aO;rw[aJ rfl] at ax;obtain⟨rfl,ax⟩:=ax;obtain⟨jz,dw,dV⟩:=F i y x _ _ _ _ _ hu Y Z cY wv aO.1 aO.2 ax
     have O:S i x jz.tm:=by
      rcases aa y rec st jz dw Y with ⟨v,al⟩|h6
      ·rw[al];exact cU i x _ _ (λs O=>(lV λad=>(BA cY).2.2 s ad O).symm) aO.2
      ·rw[h6 i x Z] at hu;cases hu
     exact⟨rec,jz,by rw[aJ rfl];exact⟨rfl,dw⟩,by rw[aR hW];exact⟨dV,O⟩⟩
   ·refine .inr λrec st rec1 st1 kC kD wv vF aO ax=>?_;unfold pZ at aO ax ⊢;rw[aR xh] at aO;rw[aR CW] at ax;subst aqz;obtain⟨wx,jz,dw,dV⟩:=jr.comm hW cY iQ (MT _) wv aO.1 ax.1;obtain⟨v,al⟩:=adZ aO.1;obtain⟨pA,kR⟩:=adZ dw
    have ft:S j y st.tm:=by
     have h:=ax.2;rw[al] at h;exact cU j y _ _ (λs O=>lV λad=>(BA cY).1 s ad O) h
    have hN:S i x jz.tm:=by
     rw[kR];exact cU i x _ _ (λs O=>(lV λad=>(BA cY).2.2 s ad O).symm) aO.2
    exact⟨wx,jz,by rw[aR CW];exact⟨dw,ft⟩,by rw[aR xh];exact⟨dV,hN⟩⟩
structure l5 where
 f:FuncId
 CX:List H
 uz:Mem
 jd:Mem
 r:H
 hS:Option (Nat×Key×List H)
structure Gh (bf:l5):Prop where
 Ko:∀fk k z,bf.hS=some (fk,k,z)->bf.uz k=none
 dw:∀fk k z,bf.hS=some (fk,k,z)->bf.jd k=none
 aqA:∀fk k z,bf.hS=some (fk,k,z)->freeM k bf.uz
 aqB:∀fk k z,bf.hS=some (fk,k,z)->o8 k bf.CX=true
 aqC:∀fk k z,bf.hS=some (fk,k,z)->o8 k z=true
def l5.made (bf:l5)(rec:Rec):Option (Key×List H):=match bf.hS with
 |none=>none
 |some (fk,k,z)=>match rec fk with
  |none=>none
  |some _=>some (k,z)
def o9 (mem:Mem):Option (Key×List H)->Mem
 |none=>mem
 |some (k,z)=>aT mem k 0 z
def CY (bf:l5)(x:bw)(rec:Rec)(st cb:a6):Prop :=
 ∃args,x.op=.call bf.f args/\x.g=none/\args.map (aK st.tm)=bf.CX/\st.mem=o9 bf.uz (bf.made rec)/\cb=⟨put st.tm x.dst bf.r,o9 bf.jd (bf.made rec)⟩
def xi (bf:l5)(un:Nat->Bool)(i:Nat)(x:bw)(tm:Nat->H):Prop:=un i=true->∀n bH y,x.op=.load n bH y->g8 tm x.g=some true->∃v,iW bf.uz n bH (aK tm y)=some v/\iW bf.jd n bH (aK tm y)=some v
def ad2 {bf:l5}{un:Nat->Bool}(i:Nat)(x:bw)(tm tm':Nat->H)(h:∀s∈looks x,tm s=tm' s)(O:xi bf un i x tm):xi bf un i x tm':=by
 intro hu n bH y e4 aL;have F:g8 tm x.g=g8 tm' x.g:=H6 λs b O=>h s (H7 O);have G:aK tm y=aK tm' y:=ew λs O=>h s (uW (by rw[e4];exact O));rw[<-G];exact O hu n bH y e4 (F.trans aL)
inductive Kp (bf:l5) (j:Nat) (y:bw):Prop
 |quiet (h:mh y.op=0) (Y:∀fk k z,bf.hS=some (fk,k,z)->j≠fk)
 |load (n:Nat) (bH:Bool) (x:bu) (h:y.op=.load n bH x) (Y:∀fk k z,bf.hS=some (fk,k,z)->j≠fk)
 |alloc (k:Key) (z:List H) (h:bf.hS=some (j,k,z)) (e4:y.op=.alloc k z)
def aqD {bf:l5}(fm:Gh bf){n:Nat}{bH:Bool}{a v:H}(aq:iW bf.uz n bH a=some v)(F:iW bf.jd n bH a=some v)(rec:Rec):iW (o9 bf.uz (bf.made rec)) n bH a=some v/\iW (o9 bf.jd (bf.made rec)) n bH a=some v:=by
 unfold l5.made
 cases gD:bf.hS with
 |none=>exact⟨aq,F⟩
 |some p =>
  obtain⟨fk,k,z⟩:=p;simp only
  cases rec fk with
  |none=>exact⟨aq,F⟩
  |some _ =>
   have bo:∀j∈keyOf a,j≠k:=by
    rintro j Y rfl;have hm:=fm.Ko _ _ _ gD
    cases a<;>simp[keyOf] at Y
    ·subst Y;simp[iW] at aq
    ·subst Y;simp[iW,hm] at aq
   simp only[o9];rw[RN (mem':=bf.uz) (λj Y=>by simp[aT,bo j Y]),RN (mem:=aT bf.jd k 0 z) (mem':=bf.jd) (λj Y=>by simp[aT,bo j Y])];exact⟨aq,F⟩
def ad3 {bf:l5}(fm:Gh bf){un:Nat->Bool}{j:Nat}{y:bw}{tm:Nat->H}(hu:un j=true)(R:Kp bf j y)(vG:∀k z,y.op ≠ .alloc k z)(O:xi bf un j y tm)(aL:g8 tm y.g=some true)(rec:Rec):
  eW T (o9 bf.jd (bf.made rec)) tm y.op=eW T (o9 bf.uz (bf.made rec)) tm y.op/\gh y.op=false:=by
 cases R with
 |quiet h _ =>
  obtain⟨F,G⟩:=RP (tm:=tm) h;refine⟨RO (λb6 f l U=>?_) (λx J=>by rw[F] at J;cases J),G⟩;rw[U] at G
  cases G
 |load n bH x h _ =>
  obtain⟨v,aq,F⟩:=O hu n bH x h aL;obtain⟨G,aa⟩:=aqD fm aq F rec;rw[h];exact⟨by simp only[eW,bD,G,aa],rfl⟩
 |alloc k z _ h=>exact absurd h (vG k z)
def ad4 {mem:Mem}{tm:Nat->H}{op:fM}{m:H}{e:Option (Key×Nat×List H)}(h:eW T mem tm op=some (m,e))(hw:gh op=false):e=none:=by
 rcases MP h with h|⟨h,_⟩
 ·exact h
 ·rw[hw] at h;cases h
def ad5 {bf:l5}{rec:Rec}{j:Nat}{p:Bool×List lg}(Y:∀fk k z,bf.hS=some (fk,k,z)->j≠fk):bf.made (jl rec j p)=bf.made rec:=by
 unfold l5.made
 cases gD:bf.hS with
 |none=>rfl
 |some q =>
  obtain⟨fk,k,z⟩:=q;simp only[jl,aR (λh=>Y fk k z gD h.symm:¬ fk=j)]
def ad6 {bf:l5}{j:Nat}{y:bw}(R:Kp bf j y)(vG:∀k z,y.op ≠ .alloc k z):∀fk k z,bf.hS=some (fk,k,z)->j≠fk:=by
 cases R with
 |quiet _ Y=>exact Y
 |load _ _ _ _ Y=>exact Y
 |alloc k z _ h=>exact absurd h (vG k z)
def aqE {bf:l5}(fm:Gh bf){un:Nat->Bool}{j:Nat}{x y:bw}{rec rec1:Rec}{st st1 kD:a6}(hu:un j=true)(R:Kp bf j y)(cY:oH y x=true)(vF:rec j=none)
  (he:jr T gk j y rec st rec1 st1) (cU:xi bf un j y st.tm) (dN:CY bf x rec1 st1 kD):∃jz,CY bf x rec st jz/\jr T gk j y rec jz rec1 kD:=by
 obtain⟨ba,hD,U⟩:=BA cY;obtain⟨args,cH,cO,gT,hP,rfl⟩:=dN;have CZ:∀m,args.map (aK (put st.tm y.dst m))=args.map (aK st.tm):=λm=>map_congr λs O=>lV λad=>ba s ad (uW (by rw[cH];exact O));have BB:∀m,g8 (put st.tm x.dst m) y.g=g8 st.tm y.g:=λm=>H6 λs b O=>lV λad=>U s ad (H7 O);have H8:∀mem m,eW T mem (put st.tm x.dst m) y.op=eW T mem st.tm y.op:=λmem m=>MM λs O=>lV λad=>U s ad (uW O);have zS:∀m,cw (put st.tm x.dst m) y.op=cw st.tm y.op:=λm=>MN λs O=>lV λad=>U s ad (uW O);have qw:∀m m',put (put st.tm y.dst m) x.dst m'=put (put st.tm x.dst m') y.dst m:=λm m'=>put_comm hD;rcases he with ⟨aL,rfl,rfl⟩|⟨aL,m,e,O,Q,rfl,rfl⟩
 ·exact⟨_,⟨args,cH,cO,by rw[<-gT,CZ],hP,rfl⟩,.inl ⟨by simp only[BB];exact aL,rfl,by simp only[qw]⟩⟩
 ·by_cases vG:∃k z,y.op=.alloc k z
  ·obtain⟨k,z,e4⟩:=vG
   cases R with
   |quiet h _=>rw[e4] at h;cases h
   |load _ _ _ h _=>rw[e4] at h;cases h
   |alloc k' Ii gD h =>
    rw[e4] at h
    cases h;have pN:bf.made (jl rec j (gh y.op,cw st.tm y.op))=some (k,z):=by simp only[l5.made,gD,jl,if_true]
    have oK:bf.made rec=none:=by simp only[l5.made,gD,vF]
    rw[e4] at O;simp only[eW,bD,bM,eL] at O;obtain⟨rfl,rfl⟩:=O;rw[pN] at hP ⊢;simp only[gf,o9] at hP;have zN:=fm.Ko _ _ _ gD
    have jo:bz st.mem k=0:=by
     have:=congrFun hP k;simp[aT] at this;exact this
    have aqF:st.mem k=none:=by
     unfold bz at jo
     split at jo
     ·assumption
     ·omega
    have gJ:st.mem=bf.uz:=by
     funext q
     by_cases aS:q=k
     ·subst aS;rw[aqF,zN]
     ·have:=congrFun hP q;simp[aT,aS] at this;exact this
    refine⟨⟨put st.tm x.dst bf.r,bf.jd⟩,⟨args,cH,cO,by rw[<-gT,CZ],by rw[oK];exact gJ,by rw[oK];rfl⟩,.inr ⟨by simp only[BB];exact aL,.ptr k 0 0,some (k,0,z),?_,?_,?_,?_⟩⟩
    ·have Vu:bz bf.jd k=0:=by simp only[bz,fm.dw _ _ _ gD]
     rw[e4];simp only[eW,bD,Vu]
    ·simp only[zS];exact Q
    ·simp only[zS]
    ·simp only[jo,o9,gf,qw]
  ·have Kq:∀k z,y.op ≠ .alloc k z:=λk z h=>vG ⟨k,z,h⟩;have Y:=ad6 R Kq;have wj:=ad5 (rec:=rec) (p:=(gh y.op,cw st.tm y.op)) Y;rw[wj] at hP ⊢;obtain⟨Vv,hw⟩:=ad3 (T:=T) fm hu R Kq cU aL rec;have sa:=ad4 O hw;subst sa;simp only[gf] at hP;rw[hP] at O;refine⟨⟨put st.tm x.dst bf.r,o9 bf.jd (bf.made rec)⟩,⟨args,cH,cO,by rw[<-gT,CZ],hP,rfl⟩,.inr ⟨by simp only[BB];exact aL,m,none,?_,?_,?_,?_⟩⟩
   ·simp only[H8];exact Vv.trans O
   ·simp only[zS];exact Q
   ·simp only[zS]
   ·simp only[gf,qw]
def aqG {bf:l5}(fm:Gh bf){un:Nat->Bool}{j:Nat}{x y:bw}{rec kC:Rec}{st st1 kD:a6}(hu:un j=true)(R:Kp bf j y)(cY:oH x y=true)(vF:rec j=none)
  (dN:CY bf x rec st st1) (he:jr T gk j y rec st1 kC kD) (cU:xi bf un j y st1.tm):∃jz,jr T gk j y rec st kC jz/\xi bf un j y st.tm/\CY bf x kC jz kD:=by
 obtain⟨ba,hD,U⟩:=BA cY;obtain⟨args,cH,cO,gT,hP,rfl⟩:=dN;have CZ:∀m,args.map (aK (put st.tm y.dst m))=args.map (aK st.tm):=λm=>map_congr λs O=>lV λad=>U s ad (uW (by rw[cH];exact O));have BB:∀m,g8 (put st.tm x.dst m) y.g=g8 st.tm y.g:=λm=>H6 λs b O=>lV λad=>ba s ad (H7 O);have H8:∀mem m,eW T mem (put st.tm x.dst m) y.op=eW T mem st.tm y.op:=λmem m=>MM λs O=>lV λad=>ba s ad (uW O);have zS:∀m,cw (put st.tm x.dst m) y.op=cw st.tm y.op:=λm=>MN λs O=>lV λad=>ba s ad (uW O);have qw:∀m m',put (put st.tm x.dst m) y.dst m'=put (put st.tm y.dst m') x.dst m:=λm m'=>put_comm hD;have Pg:xi bf un j y st.tm:=ad2 j y _ _ (λs O=>lV λad=>ba s ad O) cU;rcases he with ⟨aL,rfl,rfl⟩|⟨aL,m,e,O,Q,rfl,rfl⟩<;>simp only[BB,H8,zS] at *
 ·exact⟨_,.inl ⟨aL,rfl,rfl⟩,Pg,⟨args,cH,cO,by rw[CZ];exact gT,hP,by simp only[qw]⟩⟩
 ·by_cases vG:∃k z,y.op=.alloc k z
  ·obtain⟨k,z,e4⟩:=vG
   cases R with
   |quiet h _=>rw[e4] at h;cases h
   |load _ _ _ h _=>rw[e4] at h;cases h
   |alloc k' Ii gD h =>
    rw[e4] at h
    cases h;have pN:bf.made (jl rec j (gh y.op,cw st.tm y.op))=some (k,z):=by simp only[l5.made,gD,jl,if_true]
    have oK:bf.made rec=none:=by simp only[l5.made,gD,vF]
    rw[e4] at O;rw[oK] at hP O;simp only[o9] at hP O;have zN:bz bf.uz k=0:=by simp only[bz,fm.Ko _ _ _ gD]
    have Vu:bz bf.jd k=0:=by simp only[bz,fm.dw _ _ _ gD]
    simp only[eW,bD,Vu,bM,eL] at O;obtain⟨rfl,rfl⟩:=O;refine⟨⟨put st.tm y.dst (.ptr k 0 0),aT bf.uz k 0 z⟩,.inr ⟨aL,.ptr k 0 0,some (k,0,z),?_,Q,rfl,?_⟩,Pg,⟨args,cH,cO,by rw[CZ];exact gT,by rw[pN];rfl,?_⟩⟩
    ·rw[e4,hP];simp only[eW,bD,zN]
    ·rw[hP]
     rfl
    ·rw[oK,pN];simp only[qw,o9,gf]
  ·have Kq:∀k z,y.op ≠ .alloc k z:=λk z h=>vG ⟨k,z,h⟩;have Y:=ad6 R Kq;have wj:=ad5 (rec:=rec) (p:=(gh y.op,cw st.tm y.op)) Y;obtain⟨Vv,hw⟩:=ad3 (T:=T) fm hu R Kq Pg aL rec;have sa:=ad4 O hw;subst sa;rw[Vv] at O;refine⟨⟨put st.tm y.dst m,st.mem⟩,.inr ⟨aL,m,none,by rw[hP];exact O,Q,rfl,rfl⟩,Pg,⟨args,cH,cO,by rw[CZ];exact gT,by rw[wj];exact hP,?_⟩⟩
   rw[wj];simp only[gf,qw]
def aqH {own:List Nat}{a3:Exit->Act->World->Prop}{bf:l5}(fm:Gh bf)(eM:sZ P run){x:bw}{rec:Rec}{st cb:a6}{a:Act}{aW bY:e6}{ch dB:Nat}(ec:run bf.f bf.CX aW ch=.ok bf.r bY dB)(aq:bf.uz=cp aW)(F:bf.jd=cp bY)
  (Z:Es P n kb own ops o x) (dN:CY bf x rec st cb) (O:dR b2 n A cq dD a st w B):o.wp P a w (λcB ak=>∃ay,dR b2 n A cq dD cB cb ak ay) a3:=by
 obtain⟨args,cH,cO,gT,hP,rfl⟩:=dN;have aw:gW P kb own o.dst o.type o.op=some x.op:=getD_some Z.op (by rw[cH];simp);rw[cH] at aw;obtain⟨Ke,U,hV,jq⟩:=HY aw;have b7:=qs O.kh jq;rw[gT] at b7;have h:=eM bf.f bf.CX aW ch;rw[ec] at h;obtain⟨gy,ad7⟩:=h;unfold Oper.wp;rw[wA U hV gy,Z.dst];have bh:=O.ok.cr;rw[hP] at bh
 cases AO:bf.made rec with
 |none =>
  rw[AO] at bh;simp only[o9] at bh;rw[aq] at bh;refine Calls.mono (ad7 A w B _ bh b7) λe ak he=>?_;obtain⟨u,ay,rfl,df,jm⟩:=he;refine⟨ay,O.put ?_ jm Z.lt⟩;simp only[o9,F];exact df
 |some p =>
  obtain⟨k,z⟩:=p
  have gD:∃fk,bf.hS=some (fk,k,z):=by
   unfold l5.made at AO
   split at AO
   ·cases AO
   ·rename_i fk k' Ii gD
    split at AO
    ·cases AO
    ·cases AO;exact⟨fk,gD⟩
  obtain⟨fk,gD⟩:=gD;rw[AO] at bh;simp only[o9] at bh;obtain⟨e,Q,_⟩:=bh.dj k 0 z (by simp[aT]);have eX:=aqm bh Q (fm.Ko _ _ _ gD) (fm.aqA _ _ _ gD);have uS:cA w (bn (CU A e) (na B k)) (na B k) bf.CX (Ke.args.toList.map a.eval):=⟨b7.1,λi m v hm al=>(b7.2 i m v hm al).cut (λb R=>(Vq Q b).1 R) (CT (fm.aqB _ _ _ gD) m (cJ hm))⟩;rw[aq] at eX;refine Calls.mono (ad7 _ w _ _ eX uS) λe' ak he=>?_;obtain⟨u,iV,rfl,df,jm⟩:=he;have pN:cp bY k=none:=by rw[<-F];exact fm.dw _ _ _ gD
  obtain⟨kW,eE⟩:=aqo bh Q (fm.aqC _ _ _ gD) df pN;refine⟨_,O.put ?_ (eE _ _ jm) Z.lt⟩;simp only[o9,F];exact kW
end Go.Mini
namespace Go.Mini
open Go
def dY.all {α:Type}(p:α->Bool)(t:dY α):Bool:=dY.rec (motive:=λ_=>Bool) true (λ_ v _ vC Ve=>gr false (gr false (k7 true (λa=>p a) v) Ve) vC) t
def dY.Vw {α:Type}{p:α->Bool}{a:α}:∀{t:dY α} {k:Nat},t.all p=true->t.get k=some a->p a=true
 |.e,k,_,h=>by cases h
 |.n l v r,k,ba,h=>by
  have C0:(gr false (gr false (k7 true (λa=>p a) v) (r.all p)) (l.all p):Bool)=true:=ba
  cases ae:l.all p with
  |false=>rw[ae] at C0;cases C0
  |true =>
   rw[ae] at C0
   cases L:r.all p with
   |false=>rw[L] at C0;cases C0
   |true =>
    rw[L] at C0;rw[dY.xe] at h
    split at h
    ·subst h;exact C0
    ·split at h
     ·exact dY.Vw ae h
     ·exact dY.Vw L h
abbrev s4:=jH->fp->e6->Nat->Option H->ct
def s5:W s4:=.mk λ_ _ _ _ _=>ct.no
def aqI (ol:List FuncId)(ops:Array Oper):List Nat:=ops.toList.flatMap λo=>match o.op with
 |.call { callee:=.value (.func f),.. }=>if ol.contains f=true then o.dst.toList else []
 |_=>[]
def ad8:Option H->Option H->Bool
 |some a,some b=>s0 a b
 |_,_=>false
def Vx (aW bY:e6)(eQ:y8):Bool:=eQ.all λo=>ad8 (iW (cp aW) o.1 o.2.1 o.2.2) (iW (cp bY) o.1 o.2.1 o.2.2)
def Vy:fM->Bool
 |.load ..=>true
 |.alloc ..=>true
 |op=>hf (mh op) 0
def Kr (p1:List Nat)(g:Nat)(l:List bw):List (Nat×Nat×List H):=l.zipIdx.filterMap λ(x,j)=>if l4 p1 g j=true then (match x.op with
 |.alloc k z=>some (j,k,z)
 |_=>none) else none
def Ks (gl:List FuncId)(l:List bw):List (Nat×FuncId×List bu×Option Nat):=l.zipIdx.filterMap λ(x,j)=>match x.op,x.g with
 |.call f args,none=>if gl.contains f=true then some (j,f,args,x.dst) else none
 |_,_=>none
def Ph (k:Nat)(m:e6):Bool:=k7 true (λ_=>false) (m.get k)
def ad9 (kb g:Nat)(hS:Option (Nat×Nat×List H))(aW:e6)(as:List H):Bool:=match hS with
 |none=>true
 |some (fk,k,z)=>AM g fk&&Ph (kb+k) aW&&dY.all (λe=>o8 (kb+k) e.2) aW&&o8 (kb+k) as&&o8 (kb+k) z
def aea (kb:Nat)(hS:Option (Nat×Nat×List H))(bY:e6):Bool:=match hS with
 |none=>true
 |some (_,k,_)=>Ph (kb+k) bY
def aeb (ol:List FuncId)(un:Nat->Bool)(last:Bool)(hS:Option (Nat×Nat×List H))(g:Nat)(f:FuncId)(args:List bu)(dst:Option Nat)(post:List bw)(iy:List (List Nat)):W (jH->Nat->fp->e6->Rec->y8->Option H->ct) :=
 .mk λrun c t m rec eQ d=>gr ct.no
  (jv.rec ct.no (λv bY dB=>gr ct.no (W.ap (vE ol un post (g+1) (iy.drop (g+1))) run c (iE dst t v) bY rec eQ λt3 fI _ Vz=>gr ct.no (.ok .l2 t3 fI dB d) (Vx m bY Vz)) (aea c hS bY))
   (λv bY dB=>gr ct.no (.ok (.hg v) t bY dB d) last) (run f (args.map λx=>W.ap (jI x) t) m (c+1000)))
  (ad9 c g hS m (args.map λx=>W.ap (jI x) t))
def Gi (ol:List FuncId)(un:Nat->Bool)(last:Bool)(hS:Option (Nat×Nat×List H))(g:Nat)(f:FuncId)(args:List bu)(dst:Option Nat)(l:List bw)(iy:List (List Nat)):W s4 :=
 .mk λrun t m c d=>W.ap (vE ol un (l.take g) 0 (iy.drop 0)) run c t m (λ_=>none) [] λt1 aW rec1 pY=>W.ap (aeb ol un last hS g f args dst (l.drop (g+1)) iy) run c t1 aW rec1 pY d
def VA (ol gl:List FuncId)(l:List bw)(p1:List Nat):W s4:=match Ks gl l with
 | [] => .mk λrun t m c d=>W.ap (vE ol (λ_=>false) l 0 ((mi [] l p1).drop 0)) run c t m (λ_=>none) [] λt m _ _ => .ok .l2 t m (c+1000) d
 | [(g,f,args,dst)]=>gr s5 (match Kr p1 g l with
  | []=>Gi ol (l4 p1 g) (l.zipIdx.all (λx => !l4 p1 g x.2)&&hf (g+1) (D l)) none g f args dst l (mi [] l p1)
  | [hS]=>Gi ol (l4 p1 g) false (some hS) g f args dst l (mi [] l p1)
  |_=>s5) (l.zipIdx.all λx => !l4 p1 g x.2||Vy x.1.op)
 |_=>s5
def VB (P:Program)(ol gl:List FuncId)(n:Nat)(ops:Array Oper):W s4:=match ops.toList.mapM (nC P n 0 (aqI ol ops) ops) with
 |none=>s5
 |some l=>gr s5 (VA ol gl l (fU ops.toList [])) (qh ops l)
variable {P:Program} {b2:Option H} {A:Nat->Prop} {cq w:World} {dD B:cS} {n kb:Nat} {own:List Nat} {ops:Array Oper} {o:Oper} {run:jH} {t:fp} {m:e6} {c:Nat} {d:Option H} {l:List bw} {a3:Exit->Act->World->Prop}
def VC {da:uX}{K:a6->Prop}{id:Nat}{a:Act}{st:a6}(hm:P.follows .mixedOrders=true)(aP:H9 da ops l)(BF:Ia da)(ae:(D l)=ops.size)(he:xI 0 ops.toList=true)(df:MX P b2 n A cq dD ops l da a3)
  (e5:∀st a w B,K st->dR b2 n A cq dD a st w B->a3 .normal a w) (O:dR b2 n A cq dD a st w B) (U:x1 da K 0 l (λ_=>none) st):(Code.region id ops true).wp P a3 a w:=by
 refine wp_region_any hm ?_;have uZ:=RV aP BF ae he l 0 (λ_=>none) st (Array.replicate ops.size false) rfl (by simp) (by simp) (λi Z=>by simp[Z]) (λ_ _=>rfl) U;rw[ae] at uZ;exact MY df e5 ops.size _ _ _ _ _ B (O.drew _) uZ
def aec {p0:Nat}{s3:bw->Rec->a6->a6->Prop}{S:Nat->bw->(Nat->H)->Prop}{gk:Nat->Nat->Bool}{T:bg}(cu:nh P T)(aw:ops.toList.mapM (nC P n kb own ops)=some l)
  (aL:∀x o rec st cb a w B,l[p0]?=some x->Es P n kb own ops o x->s3 x rec st cb->dR b2 n A cq dD a st w B->Region.wanted o (yielded ops a.tmps)=true/\o.wp P a w (λcB ak=>∃ay,dR b2 n A cq dD cB cb ak ay) a3):MX P b2 n A cq dD ops l (pZ T gk p0 s3 S) a3:=by
 intro i x o rec st iN cb a w B J a4 hex O;unfold pZ at hex
 split at hex
 ·rename_i xh;subst xh;obtain⟨y,ai,Ic⟩:=MW aw (i:=i) (x:=o) (by simpa using a4);rw[J] at ai
  cases ai;exact .inr (aL x o rec st cb a w B J (HZ Ic) hex.2 O)
 ·exact RZ cu aw i x o rec st iN cb a w B J a4 hex.1 O
def aed {k:Nat}(h:Ph k m=true):cp m k=none:=by
 unfold Ph at h;unfold cp
 cases hm:m.get k with
 |none=>rfl
 |some x=>rw[hm] at h;cases h
def aqJ {k:Nat}(h:dY.all (λe=>o8 k e.2) m=true):freeM k (cp m):=λj g cs Y=>dY.Vw (p:=λe:Nat×List H=>o8 k e.2) h Y
def aqK {aW bY:e6}{eQ:y8}(h:Vx aW bY eQ=true){k:Nat}{bH:Bool}{a:H}(hm:(k,bH,a)∈eQ):∃v,iW (cp aW) k bH a=some v/\iW (cp bY) k bH a=some v:=by
 unfold Vx at h;rw[kA] at h;have:=h _ hm;simp only at this;unfold ad8 at this
 split at this
 ·rename_i x y F G;have:=adR _ _ this;subst this;exact⟨x,F,G⟩
 ·cases this
def aee {is:List bw}(aw:ops.toList.mapM (nC P n 0 own ops)=some is):∀x∈is,x.dst.all (λd=>decide (d<n))=true:=by
 intro x J;obtain⟨i,Z⟩:=List.mem_iff_getElem?.1 J;obtain⟨F,G⟩:=mapM_get aw;have an:i<D ops.toList:=by have:=(dK.1 Z).1;omega
 have a4:=bc an;have:=HZ (G i _ x a4 Z);rw[this.dst];exact this.lt
def aef (h:qh ops l=true):qh ops (l.map (gU kb))=true:=by
 unfold qh at *;have:=adU (kb:=kb) l [] (fU ops.toList []);rw[bN] at this;rw[this];exact h
def Pj {α:Type}{a b:α}{x:Bool}{r:α}(h:r=gr a b x)(bo:r≠a):x=true/\r=b:=by
 cases x with
 |false=>exact absurd h bo
 |true=>exact⟨rfl,h⟩
def Pk:a6:=⟨λ_ => .hB 0 0,emp⟩
def aqL {a:Act}(h:dR b2 n A cq dD a Pk w B):False:=by
 have F:=h.tm 0;have G:=h.ok.cr.rT 0 rfl;have aa:aY w (bn A B) B (.hB 0 0) (a.eval (.tmp 0)):=F;generalize a.eval (.tmp 0)=u at aa
 cases aa with
 |hB he _ _=>rw[G] at he;cases he
def VD {α:Type}{l:List α}{i:Nat}{x:α}(h:l[i]?=some x):(x,i)∈l.zipIdx:=Et.2 h
def aqM {gl:List FuncId}{g:Nat}{f:FuncId}{args:List bu}{dst:Option Nat}(h:(g,f,args,dst)∈Ks gl l):∃x,l[g]?=some x/\x.op=.call f args/\x.g=none/\x.dst=dst:=by
 unfold Ks at h;rw[aeg] at h;obtain⟨⟨x,j⟩,hm,J⟩:=h;simp only at J
 split at J
 ·rename_i AI aAX F G
  split at J
  ·simp only[bM,eL] at J;obtain⟨rfl,rfl,rfl,rfl⟩:=J;exact⟨x,Et.1 hm,F,G,rfl⟩
  ·cases J
 ·cases J
def aeh {p1:List Nat}{g j k:Nat}{z:List H}:(j,k,z)∈Kr p1 g l↔∃x,l[j]?=some x/\l4 p1 g j=true/\x.op=.alloc k z:=by
 unfold Kr;rw[aeg]
 constructor
 ·rintro⟨⟨x,i⟩,hm,J⟩;simp only at J
  split at J
  ·rename_i hu
   split at J
   ·rename_i k' Ii e4;simp only[bM,eL] at J;obtain⟨rfl,rfl,rfl⟩:=J;exact⟨x,Et.1 hm,hu,e4⟩
   ·cases J
  ·cases J
 ·rintro⟨x,J,hu,e4⟩;refine⟨(x,j),VD J,?_⟩;simp only[hu,if_true,e4]
def aei {ol gl:List FuncId}{hS:Option (Nat×Nat×List H)}{last:Bool}{g:Nat}{f:FuncId}{args:List bu}{dst:Option Nat}{r:ct}{id:Nat}{a:Act}(eM:sZ P run)(aA:n<=1000000)(hm:P.follows .mixedOrders=true)
  (aw:ops.toList.mapM (nC P n 0 own ops)=some l) (ad:qh ops l=true) (ub:(g,f,args,dst)∈Ks gl l) (dx:(l.zipIdx.all λx => !l4 (fU ops.toList []) g x.2||Vy x.1.op)=true)
  (gD:∀j k z,(j,k,z)∈Kr (fU ops.toList []) g l↔hS=some (j,k,z)) (Jm:last=true->∀j,j<(D l)->l4 (fU ops.toList []) g j=false) (aqN:last=true->g+1=D l)
  (L:r=W.ap (Gi ol (l4 (fU ops.toList []) g) last hS g f args dst l (mi [] l (fU ops.toList []))) run t m c d) (bo:r ≠ .no) (O:dR d n A cq dD a ⟨cR t,cp m⟩ w B)
  (dU:∀x t1 aW ch d1 cB ak ay,r=ct.ok x t1 aW ch d1->dR d1 n A cq dD cB ⟨cR t1,cp aW⟩ ak ay->toQ A a3 x cB ak ay):(Code.region id ops true).wp P a3 a w:=by
 obtain⟨C1,xh,e4,VE,uy⟩:=aqM ub;have aqO:g<D l:=(dK.1 xh).1
 have MG:l.take g++C1::l.drop (g+1)=l:=by
  have F:C1=l[g]:=(dK.1 xh).2.symm;rw[F,<-gw aqO,List.take_append_drop]
 have si:=aee aw;have mU:=adW (kb:=c) aw;have Pl:=aef (kb:=c) ad;have ly:=Vt (kb:=c) l [] (fU ops.toList []);rw[bN] at ly
 have hlen:(l.map (gU c)).length=ops.size:=by
  rw[(mapM_get mU).1,Array.length_toList]
 have aej:xI 0 ops.toList=true:=by unfold qh at ad;rw[fe] at ad;exact ad.1
 have rE:(l.map (gU c))[g]?=some (gU c C1):=by rw[bd,xh];rfl
 have C2:(gU c C1).op=.call f args:=by simp only[gU,e4,fB]
 generalize sF:l4 (fU ops.toList []) g=un at *;generalize aAY:mi [] l (fU ops.toList [])=iy at *;unfold Gi at L;rw[oy] at L;have k5:(l.take g).length=g:=by rw[gj];omega
 obtain⟨t1,aW,rec1,pY,aO,ax,eS,iA⟩:=Pd (kb:=c) aA bo (l.take g) 0 t m (λ_=>none) [] (λx J=>si x (List.mem_of_mem_take J)) (λ_ _=>rfl) L;rw[k5,Nat.zero_add] at ax iA;unfold aeb at aO;rw[oy] at aO;obtain⟨It,aO⟩:=Pj aO bo;have aqP:=aqg args t1;rw[aqP] at aO It
 have VF:(l.take g).map (gU c)++gU c C1::(l.drop (g+1)).map (gU c)=l.map (gU c):=by
  conv=>rhs;rw[<-MG]
  simp
 cases ec:run f (args.map (aK (cR t1))) aW (c+1000) with
 |no=>rw[ec] at aO;exact absurd aO bo
 |hg v bY dB =>
  rw[ec] at aO;obtain⟨bq,aO⟩:=Pj aO bo
  have VG:∀j y,(l.map (gU c))[j]?=some y->l4 (fU ops.toList []) g j=false:=λj y ai=>by
   have an:=(dK.1 ai).1;rw[ah] at an;rw[sF];exact Jm bq j an
  have aqQ:l.drop (g+1)=[]:=by rw[aqN bq];exact List.drop_length
  rw[aqQ] at VF
  refine VC (b2:=d) (K:=λst=>st=Pk) (da:=pZ (nY ol run) (mS iy) g (λ_ _ st cb=>st=⟨cR t1,cp aW⟩/\cb=Pk) (λ_ _ _=>True)) hm
   (ad0 Pl (by rw[ly]) (λ_ _ _ _ _ h=>h) (λj x y rec st rec1 st1 kD Y _ ai=>?_) (λj x y rec st rec1 st1 kD Y _ ai=>?_) (λx rec st cb h J => .inr VG)) adY hlen aej
   (aec (Vr eM) mU λx o rec st cb a w B J Z dN O=>?_) (λst a w B eh O=>?_) O ?_
  ·rw[VG j y ai] at Y;cases Y
  ·rw[VG j y ai] at Y;cases Y
  ·rw[rE] at J
   cases J;obtain⟨rfl,rfl⟩:=dN;refine⟨zP O Z.guard (by simp only[gU,VE];rfl),?_⟩;have aek:gW P c own o.dst o.type o.op=some (gU c C1).op:=getD_some Z.op (by rw[C2];simp);rw[C2] at aek;obtain⟨Ke,U,hV,jq⟩:=HY aek;have b7:=qs O.kh jq;have h:=eM f (args.map (aK (cR t1))) aW (c+1000);rw[ec] at h;unfold Oper.wp;rw[wA U hV h.1];refine Calls.mono (h.2 A w B _ O.ok.cr b7) λe ak he=>?_;obtain⟨u,ay,rfl,df,jm⟩:=he;exact dU (.hg v) t1 bY dB d a ak ay aO (O.put (dst:=none) df jm rfl) u jm
  ·subst eh;exact (aqL O).elim
  ·rw[<-VF];refine iA _ _ _ (λj x rec st iN cb _ Y hex _=>?_) (.cons (rec1:=rec1) (st1:=Pk) ?_ (.nil rfl))
   ·unfold pZ;rw[aR (by omega)];exact⟨hex,trivial⟩
   ·unfold pZ;rw[aJ rfl];exact⟨rfl,rfl,rfl⟩
 |ok v bY dB =>
  rw[ec] at aO;obtain⟨BL,aO⟩:=Pj aO bo;obtain⟨t3,fI,aAZ,Vz,f1,f2,f3,f4⟩:=Pd (kb:=c) aA bo (l.drop (g+1)) (g+1) (iE dst t1 v) bY rec1 pY (λx J=>si x (List.mem_of_mem_drop J)) (λk Q=>ax k (by omega)) aO;obtain⟨aqR,f1⟩:=Pj f1 bo;have aA0:g+1+(l.drop (g+1)).length=D l:=by rw[List.length_drop];omega
  let bf:l5:=⟨f,args.map (aK (cR t1)),cp aW,cp bY,v,hS.map λp=>(p.1,c+p.2.1,p.2.2)⟩
  have VH:∀fk k z,bf.hS=some (fk,k,z)->∃ep,hS=some (fk,ep,z)/\k=c+ep:=λfk k z h=>by
   obtain⟨⟨dw,bm,iP⟩,F,G⟩:=c2.1 h;simp only[eL] at G;obtain⟨rfl,rfl,rfl⟩:=G;exact⟨bm,F,rfl⟩
  have ael:∀fk ep z,hS=some (fk,ep,z)->g<fk/\cp aW (c+ep)=none/\freeM (c+ep) (cp aW)/\o8 (c+ep) (args.map (aK (cR t1)))=true/\o8 (c+ep) z=true/\cp bY (c+ep)=none:=λfk ep z h=>by
   subst h;simp only[ad9,aea,fe] at It BL;obtain⟨⟨⟨⟨bR,cz⟩,er⟩,eC⟩,VI⟩:=It;exact⟨by simpa [Nat.blt_eq] using bR,aed cz,aqJ er,eC,VI,aed BL⟩
  have fm:Gh bf:=by
   refine⟨λfk k z h=>?_,λfk k z h=>?_,λfk k z h=>?_,λfk k z h=>?_,λfk k z h=>?_⟩<;>obtain⟨ep,F,rfl⟩:=VH _ _ _ h<;>obtain⟨bR,cz,er,eC,VI,aqS⟩:=ael _ _ _ F
   ·exact cz
   ·exact aqS
   ·exact er
   ·exact eC
   ·exact VI
  have wj:∀rec:Rec,(∀k,g<=k->rec k=none)->bf.made rec=none:=λrec jR=>by
   unfold l5.made
   split
   ·rfl
   ·rename_i fk k z h;obtain⟨ep,F,rfl⟩:=VH _ _ _ h;rw[jR fk (by have:=(ael _ _ _ F).1;omega)]
  have aem:∀j y,l4 (fU ops.toList []) g j=true->(l.map (gU c))[j]?=some y->Kp bf j y:=λj y Y ai=>by
   rw[bd,c2] at ai;obtain⟨Pm,hL,rfl⟩:=ai;rw[kA] at dx;have Q:=dx (Pm,j) (VD hL);rw[sF] at Y;simp only[Y,cZ,pE] at Q
   have bo:(∀k z,Pm.op ≠ .alloc k z)->∀fk k z,bf.hS=some (fk,k,z)->j≠fk:=by
    rintro vG fk k z h rfl;obtain⟨ep,F,rfl⟩:=VH _ _ _ h;obtain⟨x,J,_,hq⟩:=aeh.1 ((gD _ _ _).2 F);rw[hL] at J
    cases J;exact vG _ _ hq
   cases C3:Pm.op with
   |load F9 bH x=>exact .load F9 bH x (by simp only[gU,C3,fB]) (bo (by rw[C3];intro _ _ h;cases h))
   |alloc k z =>
    have F:=(gD j k z).1 (aeh.2 ⟨Pm,hL,by rw[sF];exact Y,C3⟩);exact .alloc (c+k) z (by simp only[bf,F,Option.map_some]) (by simp only[gU,C3,fB])
   |_ =>
    rw[C3] at Q;exact .quiet (by simp only[gU,adT,C3];exact Kn Q) (bo (by rw[C3];intro _ _ h;cases h))
  have aen:∀j x (st:a6),(un j=true->∀n bH y,x.op=.load n bH y->g8 st.tm x.g=some true->(n,bH,aK st.tm y)∈Vz)->xi bf un j x st.tm:=λj x st h hu F9 bH y e4 aL=>aqK aqR (h hu F9 bH y e4 aL)
  refine VC (b2:=d) (K:=λst=>st=⟨cR t3,cp fI⟩) (da:=pZ (nY ol run) (mS iy) g (CY bf) (xi bf un)) hm
   (ad0 Pl (by rw[ly]) (λi x tm tm' F G=>ad2 i x tm tm' F G) (λj x y rec st rec1 st1 kD Y _ ai cY vF he cU dN=>aqE fm (by rw[<-sF];exact Y) (aem j y Y ai) cY vF he cU dN)
    (λj x y rec st kC st1 kD Y _ ai cY vF dN he cU=>aqG fm (by rw[<-sF];exact Y) (aem j y Y ai) cY vF dN he cU) (λx rec st cb h J => .inl ?_)) adY hlen aej
   (aec (Vr eM) mU λx o rec st cb a w B J Z dN O=>?_) (λst a w B eh O=>?_) O ?_
  ·obtain⟨_,_,_,_,_,rfl⟩:=h;exact⟨_,rfl⟩
  ·rw[rE] at J
   cases J;exact⟨zP O Z.guard (by simp only[gU,VE];rfl),aqH fm eM ec rfl rfl Z dN O⟩
  ·subst eh;exact dU .l2 t3 fI dB d a w B f1 O
  ·rw[<-VF];refine iA _ _ _ (λj x rec st iN cb _ Y hex a4=>?_) (.cons (rec1:=rec1) (st1:=⟨cR (iE dst t1 v),cp bY⟩) ?_ ?_)
   ·unfold pZ;rw[aR (by omega)];exact⟨hex,aen j x st λhu n bH y F G=>f3 _ (a4 hu n bH y F G)⟩
   ·unfold pZ;rw[aJ rfl];refine⟨rfl,args,C2,VE,rfl,?_,?_⟩
    ·rw[wj rec1 ax];rfl
    ·rw[wj rec1 ax,AL aA (by rw[<-uy];exact si C1 (cJ xh))];simp only[gU,uy,o9,bf]
   ·have:=f4 (pZ (nY ol run) (mS iy) g (CY bf) (xi bf un)) (λst=>st=⟨cR t3,cp fI⟩) [] (λj x rec st iN cb Y _ hex a4=>by
     unfold pZ;rw[aR (by omega)];exact⟨hex,aen j x st a4⟩) (.nil rfl)
    rw[mX] at this;exact this
def aqT {ol gl:List FuncId}{r:ct}{id:Nat}{a:Act}(eM:sZ P run)(aA:n<=1000000)(hm:P.follows .mixedOrders=true)(L:r=W.ap (VB P ol gl n ops) run t m c d)(bo:r ≠ .no)(O:dR d n A cq dD a ⟨cR t,cp m⟩ w B)
  (dU:∀x t1 aW ch d1 cB ak ay,r=ct.ok x t1 aW ch d1->dR d1 n A cq dD cB ⟨cR t1,cp aW⟩ ak ay->toQ A a3 x cB ak ay):(Code.region id ops true).wp P a3 a w:=by
 unfold VB at L
 split at L
 ·exact absurd L bo
 ·rename_i l aw
  cases ad:qh ops l with
  |false=>rw[ad] at L;exact absurd L bo
  |true =>
   rw[ad] at L;have np:r=W.ap (VA ol gl l (fU ops.toList [])) run t m c d:=L;unfold VA at np
   split at np
   ·rw[oy] at np;have si:=aee aw;have mU:=adW (kb:=c) aw;have Pl:=aef (kb:=c) ad;have ly:=Vt (kb:=c) l [] (fU ops.toList []);rw[bN] at ly
    have hlen:(l.map (gU c)).length=ops.size:=by
     rw[(mapM_get mU).1,Array.length_toList]
    obtain⟨t1,aW,rec1,pY,aO,ax,eS,iA⟩:=Pd (kb:=c) aA bo l 0 t m (λ_=>none) [] si (λ_ _=>rfl) np
    refine VC (b2:=d) (K:=λst=>st=⟨cR t1,cp aW⟩) (da:=jr (nY ol run) (mS (mi [] l (fU ops.toList [])))) hm (by rw[<-ly];exact YZ (RU Pl) (MT _)) Y0 hlen
     (by unfold qh at ad;rw[fe] at ad;exact ad.1) (RZ (Vr eM) mU) (λst a w B eh O=>?_) O ?_
    ·subst eh;exact dU .l2 t1 aW _ d a w B aO O
    ·have:=iA (jr (nY ol run) (mS (mi [] l (fU ops.toList [])))) (λst=>st=⟨cR t1,cp aW⟩) [] (λ_ _ _ _ _ _ _ _ h _=>h) (.nil rfl);rw[mX] at this;exact this
   ·rename_i g f args dst aL
    cases dx:(l.zipIdx.all λx => !l4 (fU ops.toList []) g x.2||Vy x.1.op) with
    |false=>rw[dx] at np;exact absurd np bo
    |true =>
     rw[dx] at np;have ub:(g,f,args,dst)∈Ks gl l:=by rw[aL];simp
     have aU:r=W.ap (match Kr (fU ops.toList []) g l with
      | []=>Gi ol (l4 (fU ops.toList []) g) (l.zipIdx.all (λx => !l4 (fU ops.toList []) g x.2)&&hf (g+1) (D l)) none g f args dst l (mi [] l (fU ops.toList []))
      | [hS]=>Gi ol (l4 (fU ops.toList []) g) false (some hS) g f args dst l (mi [] l (fU ops.toList []))
      |_=>s5) run t m c d:=np
     split at aU
     ·rename_i gD;refine aei eM aA hm aw ad ub dx (λj k z=>by rw[gD];simp) (λh j Y=>?_) (λh=>?_) aU bo O dU
      ·rw[fe,kA] at h;have:=h.1 (l[j],j) (VD (bc Y))
       simpa using this
      ·rw[fe] at h;exact Kn h.2
     ·rename_i hS gD;refine aei eM aA hm aw ad ub dx (λj k z=>by rw[gD];simp[eq_comm]) (λh=>by cases h) (λh=>by cases h) aU bo O dU
     ·exact absurd aU bo
   ·exact absurd np bo
end Go.Mini
namespace Go.Mini
open Go
def aeo (b:W s4)(run:jH)(r:ct):ct:=ct.rec ct.no (λx t m c d=>c7.rec (W.ap b run t m c d) (λi => .ok (.o7 i) t m c d) (.ok .ret t m c d) (λv => .ok (.hg v) t m c d) x) r
def aep (i:Nat)(r:ct):ct:=ct.rec ct.no (λx t m c d=>c7.rec (.ok .l2 t m c d) (λj=>gr (.ok (.o7 j) t m c d) (.ok .l2 t m c d) (hf j i)) (.ok .ret t m c d) (λv => .ok (.hg v) t m c d) x) r
def Pn (b:W s4)(run:jH)(fuel:Nat):fp->e6->Nat->Option H->ct :=
 Nat.rec (motive:=λ_=>fp->e6->Nat->Option H->ct) (λ_ _ _ _=>ct.no) (λ_ vC t m c d=>ct.rec ct.no (λx t m c d=>c7.rec (vC t m c d) (λi => .ok (.o7 i) t m c d) (.ok .ret t m c d) (λv => .ok (.hg v) t m c d) x) (W.ap b run t m c d)) fuel
def VJ:Nat:=1000000
def Po (b:W s4):W s4:=.mk λrun t m c d=>Pn b run VJ t m c d
def aqU (b:W s4):W.ap (Po b)=λrun t m c d=>Pn b run VJ t m c d:=by
 unfold Po;rw[oy]
def VK (y:bu)(a b:W s4):W s4:=.mk λrun t m c d=>match W.ap (jI y) t with
 |.I (.bool q)=>gr (W.ap b run t m c d) (W.ap a run t m c d) q
 |_=>ct.no
def nZ (P:Program)(ol gl:List FuncId)(n:Nat)(c:Code):W s4 :=
 Code.rec (motive:=λ_=>W s4)
  (.mk λ_ t m c d => .ok .l2 t m c d)
  (λ_ ops draw=>gr (.mk λrun t m c d=>W.ap (Ga P n ops ops.toList) run c t m (c+1000) d λt m c d => .ok .l2 t m c d) (VB P ol gl n ops) draw)
  (λ_ _ VL C4 => .mk λrun t m c d=>aeo C4 run (W.ap VL run t m c d))
  (λx _ _ VL C4=>match cN x with
   |none=>s5
   |some y=>VK y VL C4)
  (λi _ C4 => .mk λrun t m c d=>aep i (W.ap C4 run t m c d))
  (λ_ C4=>Po C4)
  (λ_ _ _ _ _ _=>s5)
  (λi => .mk λ_ t m c d => .ok (.o7 i) t m c d)
  (λ_ _=>s5)
  (λ_=>s5)
  (λ_=>s5)
  (.mk λ_ t m c d => .ok .ret t m c d)
  (λ_=>s5) c
variable {P:Program} {A:Nat->Prop} {cq w:World} {dD B:cS} {n:Nat} {run:jH} {ol gl:List FuncId}
def aeq (eM:sZ P run)(aA:n<=1000000)(hm:P.follows .mixedOrders=true):∀(co:Code) (t:fp) (m:e6) (c:Nat) (d:Option H) (a:Act) (w:World) (B:cS) (r:ct) (a3:Exit->Act->World->Prop),r=W.ap (nZ P ol gl n co) run t m c d->r ≠ .no ->
  dR d n A cq dD a ⟨cR t,cp m⟩ w B->(∀x t1 aW ch d1 cB ak ay,r=ct.ok x t1 aW ch d1->dR d1 n A cq dD cB ⟨cR t1,cp aW⟩ ak ay->toQ A a3 x cB ak ay)->co.wp P a3 a w:=by
 intro co
 induction co with
 |skip=>exact λt m c d a w B r a3 L bo O dU=>Go.wp_skip (dU .l2 t m c d a w B L O)
 |exit i=>exact λt m c d a w B r a3 L bo O dU=>Go.wp_exit (dU (.o7 i) t m c d a w B L O)
 |ret=>exact λt m c d a w B r a3 L bo O dU=>Go.wp_ret (dU .ret t m c d a w B L O)
 |region id ops draw =>
  intro t m c d a w B r a3 L bo O dU
  cases draw with
  |true=>exact aqT eM aA hm L bo O dU
  |false =>
   have dC:r=W.ap (Ga P n ops ops.toList) run c t m (c+1000) d λt m c d => .ok .l2 t m c d:=L;refine Go.wp_region ?_;have:=Vl (P:=P) (ops:=ops) (a3:=a3) ops.toList 0 a w rfl (Vk eM aA bo (λt1 aW ch d1 cB ak ay F G=>dU .l2 t1 aW ch d1 cB ak ay F G) (λx=>dU (.hg x)) ops.toList t m (c+1000) d a w B dC O);rw[Array.length_toList] at this;rw[aer];exact this
 |seq x y ihx ihy =>
  intro t m c d a w B r a3 L bo O dU;have dC:r=aeo (nZ P ol gl n y) run (W.ap (nZ P ol gl n x) run t m c d):=L
  cases J:W.ap (nZ P ol gl n x) run t m c d with
  |no=>rw[J] at dC;exact absurd dC bo
  |ok ex t1 aW ch d1 =>
   rw[J] at dC;refine Go.wp_seq (ihx t m c d a w B _ _ J.symm (by simp) O λgK t2 bY dB d2 cB ak ay F eG=>?_)
   cases F
   cases ex with
   |l2=>exact ihy t1 aW ch d1 cB ak ay r a3 dC bo eG dU
   |o7 i=>exact dU (.o7 i) t1 aW ch d1 cB ak ay dC eG
   |ret=>exact dU .ret t1 aW ch d1 cB ak ay dC eG
   |hg v=>exact dU (.hg v) t1 aW ch d1 cB ak ay dC eG
 |cond x y z ihy ihz =>
  intro t m c d a w B r a3 L bo O dU
  have dC:r=W.ap (match cN x with
   |none=>s5
   |some o=>VK o (nZ P ol gl n y) (nZ P ol gl n z)) run t m c d:=L
  split at dC
  ·exact absurd dC bo
  ·rename_i o a4;have al:=O.kh x o a4;unfold VK at dC;rw[oy,oz] at dC
   split at dC
   ·rename_i q aS;simp only[aS] at al;refine Go.wp_cond al.zH ?_
    cases q with
    |true=>exact ihy t m c d a w B r a3 dC bo O dU
    |false=>exact ihz t m c d a w B r a3 dC bo O dU
   ·exact absurd dC bo
 |block id x a2 =>
  intro t m c d a w B r a3 L bo O dU;have dC:r=aep id (W.ap (nZ P ol gl n x) run t m c d):=L
  cases J:W.ap (nZ P ol gl n x) run t m c d with
  |no=>rw[J] at dC;exact absurd dC bo
  |ok ex t1 aW ch d1 =>
   rw[J] at dC;refine Go.wp_block (a2 t m c d a w B _ _ J.symm (by simp) O λgK t2 bY dB d2 cB ak ay F eG=>?_)
   cases F
   cases ex with
   |l2=>exact dU .l2 t1 aW ch d1 cB ak ay dC eG
   |o7 j =>
    have aU:r=gr (.ok (.o7 j) t1 aW ch d1) (.ok .l2 t1 aW ch d1) (hf j id):=dC;simp only[toQ,Exit.inBlock]
    cases R:hf j id with
    |true =>
     rw[R] at aU;rw[aJ (Kn R)];exact dU .l2 t1 aW ch d1 cB ak ay aU eG
    |false =>
     rw[R] at aU;rw[aR (O8 R)];exact dU (.o7 j) t1 aW ch d1 cB ak ay aU eG
   |ret=>exact dU .ret t1 aW ch d1 cB ak ay dC eG
   |hg v=>exact dU (.hg v) t1 aW ch d1 cB ak ay dC eG
 |loop x a2 =>
  intro t m c d a w B r a3 L bo O dU
  have key:∀(fuel:Nat) (t:fp) (m:e6) (c:Nat) (d:Option H) (a:Act) (w:World) (B:cS),r=Pn (nZ P ol gl n x) run fuel t m c d->dR d n A cq dD a ⟨cR t,cp m⟩ w B->Code.rounds P x a3 fuel a w:=by
   intro fuel
   induction fuel with
   |zero=>intro t m c d a w B L _;exact absurd L bo
   |succ fuel ihf =>
    intro t m c d a w B L O;have dC:r=ct.rec ct.no (λgK t m c d=>c7.rec (Pn (nZ P ol gl n x) run fuel t m c d) (λi => .ok (.o7 i) t m c d) (.ok .ret t m c d) (λv => .ok (.hg v) t m c d) gK) (W.ap (nZ P ol gl n x) run t m c d):=L
    cases J:W.ap (nZ P ol gl n x) run t m c d with
    |no=>rw[J] at dC;exact absurd dC bo
    |ok ex t1 aW ch d1 =>
     rw[J] at dC;refine a2 t m c d a w B _ _ J.symm (by simp) O λgK t2 bY dB d2 cB ak ay F eG=>?_
     cases F
     cases ex with
     |l2=>exact ihf t1 aW ch d1 cB ak ay dC eG
     |o7 i=>exact dU (.o7 i) t1 aW ch d1 cB ak ay dC eG
     |ret=>exact dU .ret t1 aW ch d1 cB ak ay dC eG
     |hg v=>exact dU (.hg v) t1 aW ch d1 cB ak ay dC eG
  have dC:r=W.ap (Po (nZ P ol gl n x)) run t m c d:=L;rw[aqU] at dC;simp only at dC;generalize VJ=fu at dC;exact wp_loop_rounds fu (key fu t m c d a w B dC O)
 |rangeFunc=>exact λt m c d a w B r a3 L bo O dU=>absurd L bo
 |scope=>exact λt m c d a w B r a3 L bo O dU=>absurd L bo
 |label=>exact λt m c d a w B r a3 L bo O dU=>absurd L bo
 |goto=>exact λt m c d a w B r a3 L bo O dU=>absurd L bo
 |refuse=>exact λt m c d a w B r a3 L bo O dU=>absurd L bo
def s6 (args:List H):Nat->fp->fp:=List.rec (motive:=λ_=>Nat->fp->fp) (λ_ t=>t) (λa _ vC i t=>vC (i+1) (xf i a t)) args
def aes:∀(args:List H) (i:Nat) (t:fp) (s:Nat),i+D args<=1000000->cR (s6 args i t) s=if i<=s then (match args[s-i]? with|some m=>m|none=>cR t s) else cR t s
 | [],i,t,s,_=>by simp[s6]
 |a::l,i,t,s,h=>by
  have cG:cR (s6 l (i+1) (xf i a t)) s=_:=aes l (i+1) (xf i a t) s (by simp at h;omega);show cR (s6 l (i+1) (xf i a t)) s=_;rw[cG,Vf (by simp at h;omega)]
  by_cases F:i=s
  ·subst F;rw[aR (by omega),aJ (c8 _)];simp[dZ]
  ·by_cases G:i<=s
   ·rw[aJ (by omega),aJ G];have:s-i=s-(i+1)+1:=by omega
    rw[this,List.getElem?_cons_succ]
    cases l[s-(i+1)]? with
    |none=>simp[dZ,Ne.symm F]
    |some m=>rfl
   ·rw[aR (by omega),aR G];simp[dZ,Ne.symm F]
def aet {args:List H}(h:(D args)<=1000000):cR (s6 args 0 .e)=ke args:=by
 funext s
 rw[aes _ _ _ _ (by simpa using h),aJ (dF _),Nat.sub_zero];unfold ke
 split<;>rename_i F<;>simp[F]
 rfl
def aeu {fn:Func}{args:List H}{vs:List Value}{mem:Mem}(bh:dP A w B mem)(al:cA w (bn A B) B args vs)(ae:(D args)<=fn.ntmps):
  dR none fn.ntmps A w B { tmps:=vs.toArray++Array.replicate (fn.ntmps-vs.toArray.size) undef,defers:=[] } ⟨ke args,mem⟩ w B:=by
 have eb:(D vs)=D args:=al.1;refine⟨.refl bh,λs=>?_,?_,rfl⟩
 ·simp only[ke,Act.eval,Array.getD_eq_getD_getElem?];rcases gX s (D vs) with an|bB
  ·have F:args[s]?=some args[s]:=bc (by omega)
   have G:(vs.toArray++Array.replicate (fn.ntmps-vs.toArray.size) undef)[s]?=some vs[s]:=by
    rw[Array.getElem?_append_left (by simpa using an)];simp[an]
   rw[F,G];exact al.2 s _ _ F (bc an)
  ·rw[lk (by omega),Array.getElem?_append_right (by simpa using bB)]
   have:((Array.replicate (fn.ntmps-vs.toArray.size) undef)[s-vs.toArray.size]?).getD undef=undef:=by
    cases aS:(Array.replicate (fn.ntmps-vs.toArray.size) undef)[s-vs.toArray.size]? with
    |none=>rfl
    |some u =>
     have:=Array.mem_of_getElem? aS;simp at this;simp[this.2]
   rw[this];exact .no
 ·simp;omega
inductive jJ where
 |no
 |ok (m:e6) (c:Nat)
abbrev aev:=jH->List H->e6->Nat->Option H->jJ
def Kt:W aev:=.mk λ_ _ _ _ _=>jJ.no
def isRec (o:Oper):Option Nat:=match o.op,o.dst,o.guard with
 |.call { callee:=.builtin .recover,.. },some s,none=>some s
 |_,_,_=>none
def VM (rs:List ku)(r:ct):jJ:=ct.rec jJ.no (λx t m c d=>k7 (c7.rec (k7 jJ.no (λ_=>jJ.ok m c) (jO ⟨cR t,cp m⟩ rs)) (λ_=>jJ.no) (k7 jJ.no (λ_=>jJ.ok m c) (jO ⟨cR t,cp m⟩ rs)) (λ_=>jJ.no) x) (λ_=>jJ.no) d) r
def Gj (P:Program)(ol gl:List FuncId)(g:FuncId):W aev:=match P.funcs[g]? with
 |none=>Kt
 |some fn=>match fn.body,fn.results.toList.mapM (we P) with
  |some (.seq (.region _ ops false) rest),some rs=>match ops.toList with
   | []=>Kt
   |o::os=>match isRec o with
    |none=>Kt
    |some s=>gr Kt (.mk λrun dc m c p=>gr jJ.no (VM rs (W.ap (Ga P fn.ntmps ops os) run c (xf s (k7 (.I .nB) (λv=>v) p) (s6 dc 0 .e)) m (c+1000) none λt m c d=>W.ap (nZ P ol gl fn.ntmps rest) run t m c d)) (rF (D dc) fn.ntmps))
     (AM s fn.ntmps&&rF fn.ntmps 1000000)
  |_,_=>Kt
def Ku:Option Value->FrameMode
 |none => .returning
 |some u => .panicking [{ v:=u,recovered:=false }]
def rG:Option Value->FrameMode
 |none => .returning
 |some u => .panicking [{ v:=u,recovered:=true }]
def aew (w:World)(au:Nat->Prop)(B:cS):Option H->Option Value->Prop
 |none,none=>True
 |some m,some u=>aY w au B m u
 |_,_=>False
def aqV {rs:List ku}{r:ct}{m':e6}{kB:Nat}(h:VM rs r=.ok m' kB):∃x t,r=.ok x t m' kB none/\(x=.l2\/x=.ret)/\∃v,jO ⟨cR t,cp m'⟩ rs=some v:=by
 cases r with
 |no=>cases h
 |ok x t m c d =>
  cases d with
  |some _=>cases h
  |none =>
   have cG:(c7.rec (k7 jJ.no (λ_=>jJ.ok m c) (jO ⟨cR t,cp m⟩ rs)) (λ_=>jJ.no) (k7 jJ.no (λ_=>jJ.ok m c) (jO ⟨cR t,cp m⟩ rs)) (λ_=>jJ.no) x:jJ)=.ok m' kB:=h
   cases x with
   |o7 i=>cases cG
   |hg v=>cases cG
   |l2 =>
    have G:(k7 jJ.no (λ_=>jJ.ok m c) (jO ⟨cR t,cp m⟩ rs):jJ)=.ok m' kB:=cG
    cases L:jO ⟨cR t,cp m⟩ rs with
    |none=>rw[L] at G;cases G
    |some v=>rw[L] at G;cases G;exact⟨.l2,t,rfl,.inl rfl,v,L⟩
   |ret =>
    have G:(k7 jJ.no (λ_=>jJ.ok m c) (jO ⟨cR t,cp m⟩ rs):jJ)=.ok m' kB:=cG
    cases L:jO ⟨cR t,cp m⟩ rs with
    |none=>rw[L] at G;cases G
    |some v=>rw[L] at G;cases G;exact⟨.ret,t,rfl,.inr rfl,v,L⟩
def aqW {o:Oper}{s:Nat}(h:isRec o=some s)(a:Act):o.dst=some s/\o.guard=none/\(execOp a.eval o).run P w=.ok .recover w:=by
 unfold isRec at h
 split at h
 ·rename_i args zR d F G aa
  cases h;refine⟨G,aa,?_⟩;simp only[execOp,F,resolve,invoke,builtin,Sem.run_bind,Sem.run_pure,Result.andThen_ok]
 ·cases h
def aqX (eM:sZ P run)(hm:P.follows .mixedOrders=true){g:FuncId}{dc:List H}{m m':e6}{c kB:Nat}{p:Option H}{u:Option Value}{vs:List Value}(h:W.ap (Gj P ol gl g) run dc m c p=.ok m' kB)(bh:dP A w B (cp m))
  (al:cA w (bn A B) B dc vs) (aP:aew w (bn A B) B p u):CallsD P g vs.toArray (Ku u) w λe yA ak=>∃v,e=.returned v/\yA=rG u/\∃ay,c9 A w B ak ay (cp m'):=by
 unfold Gj at h
 split at h
 ·cases h
 ·rename_i fn aj
  split at h
  ·rename_i id ops rest rs R mT
   split at h
   ·cases h
   ·rename_i o os C2
    split at h
    ·cases h
    ·rename_i s O
     cases x4:(AM s fn.ntmps&&rF fn.ntmps 1000000) with
     |false=>rw[x4] at h;cases h
     |true =>
     rw[x4] at h;rw[fe] at x4;have p2:s<fn.ntmps:=by simpa [Nat.blt_eq] using x4.1
     have aA:fn.ntmps<=1000000:=p3 x4.2;have F:(gr jJ.no (VM rs (W.ap (Ga P fn.ntmps ops os) run c (xf s (k7 (.I .nB) (λv=>v) p) (s6 dc 0 .e)) m (c+1000) none λt m c d=>W.ap (nZ P ol gl fn.ntmps rest) run t m c d)) (rF (D dc) fn.ntmps):jJ)=.ok m' kB:=h
     cases hle:rF (D dc) fn.ntmps with
     |false=>rw[hle] at F;cases F
     |true =>
     rw[hle] at F;have ea:(D dc)<=fn.ntmps:=p3 hle;obtain⟨x,ld,L,J,v,jS⟩:=aqV F;refine callsD_of_wpS aj R λc₀ cs hu=>?_;have rv:=aeu (fn:=fn) bh al ea;obtain⟨uy,qk,hex⟩:=aqW (P:=P) (w:=w) O { tmps:=vs.toArray++Array.replicate (fn.ntmps-vs.toArray.size) undef,defers:=[] }
     have a4:ops[0]?=some o:=by
      have:ops.toList[0]?=some o:=by rw[C2];rfl
      simpa using this
     -- behind the recovery
     have after:∀(C5:Value) (pm:H),aY w (bn A B) B pm C5->pm=(k7 (.I .nB) (λv=>v) p:H)->wpOpsS P ops (Exit.thenS (rest.wpS P (bodyPostS P fn c₀ cs λe yA ak=>∃v,e=.returned v/\yA=rG u/\∃ay,c9 A w B ak ay (cp m'))) (bodyPostS P fn c₀ cs λe yA ak=>∃v,e=.returned v/\yA=rG u/\∃ay,c9 A w B ak ay (cp m'))) (Kf 1 (D os)) (Act.put { tmps:=vs.toArray++Array.replicate (fn.ntmps-vs.toArray.size) undef,defers:=[] } (some s) C5) ({ c₀ with mode:=rG u }::cs) w:=by
      intro C5 pm x3 aqY;have ft:=rv.put (dst:=some s) (c9.refl bh) x3 (by simpa using p2);rw[<-aet (by omega)] at ft;have aqZ:put (cR (s6 dc 0 .e)) (some s) pm=cR (xf s pm (s6 dc 0 .e)):=(Vf (by omega) _ _).symm;rw[aqZ,aqY] at ft
      have e5:∀e t1 aW ch d1 cB ak ay,ct.ok x ld m' kB none=ct.ok e t1 aW ch d1->dR d1 fn.ntmps A w B cB ⟨cR t1,cp aW⟩ ak ay->toQ A (λe a ak=>bodyPostS P fn c₀ cs (λe yA ak=>∃v,e=.returned v/\yA=rG u/\∃ay,c9 A w B ak ay (cp m')) e a ({ c₀ with mode:=rG u }::cs) ak) e cB ak ay:=by
       intro e t1 aW ch d1 cB ak ay he eG
       cases he;obtain⟨pA,kR,_⟩:=M1 eG mT jS;rcases J with rfl|rfl
       ·exact⟨eG.wu,rG u,rfl,pA,kR,pA,rfl,rfl,ay,eG.ok⟩
       ·exact⟨eG.wu,rG u,rfl,pA,kR,pA,rfl,rfl,ay,eG.ok⟩
      refine Vm os 1 _ w (by rw[C2];rfl) ?_;refine Vk eM aA (r:=ct.ok x ld m' kB none) (by simp) (λt1 aW ch d1 cB ak ay F G=>?_) (λe t1 aW ch d1 cB ak ay F G=>?_) os _ m (c+1000) none _ w B L.symm ft
      ·exact wpS_of_wp (aeq eM aA hm rest t1 aW ch d1 cB ak ay _ _ F (by simp) G e5)
      ·cases F;rcases J with J|J<;>cases J
     refine wpS_seq (wpS_region ?_)
     have aq0:qj ops.size=0::Kf 1 (D os):=by
      have:ops.size=D os+1:=by
       have:=congrArg D C2
       simpa using this
      rw[this,aer,List.range'_succ]
     rw[aq0];simp only[wpOpsS,a4]
     have hw:Region.wanted o (yielded ops (vs.toArray++Array.replicate (fn.ntmps-vs.toArray.size) undef))=true:=by
      unfold Region.wanted;rw[qk]
     rw[aJ hw,hex];simp only
     cases p with
     |none =>
      cases u with
      |some _=>exact aP.elim
      |none =>
       have jR:recoverD (c₀::cs)=none:=by
        simp only[recoverD,hu,Ku,rG]
       rw[jR];simp only;have G:=after .nilIface (.I .nB) (.I .nB) rfl
       have nM:({ c₀ with mode:=rG none }:Frame)=c₀:=by
        have:rG none=c₀.mode:=hu.symm;rw[this]
       rw[nM] at G;rw[uy];exact G
     |some pm =>
      cases u with
      |none=>exact aP.elim
      |some C5 =>
       have jR:recoverD (c₀::cs)=some (C5,{ c₀ with mode:=rG (some C5) }::cs):=by
        simp only[recoverD,hu,Ku,rG]
       rw[jR];simp only;rw[uy];exact after C5 pm aP rfl
  ·cases h
end Go.Mini
namespace Go.Mini
open Go
abbrev VN:=jH->List H->e6->Nat->jv
def VO:W VN:=.mk λ_ _ _ _=>jv.no
def C6 (rs:List ku)(t:fp)(m:e6)(c:Nat):jv:=k7 jv.no (λv=>jv.ok v m c) (jO ⟨cR t,cp m⟩ rs)
def Pp (P:Program)(ol gl:List FuncId)(rs:List ku)(run:jH)(t:fp)(m:e6)(c:Nat)(d:H)(p:Option H):jv:=match d with
 |.ee g dc=>jJ.rec jv.no (λm c=>C6 rs t m c) (W.ap (Gj P ol gl g) run dc m c p)
 |_=>jv.no
def VP (P:Program)(ol gl:List FuncId)(rs:List ku)(run:jH)(r:ct):jv:=ct.rec jv.no (λx t m c d=>k7
 (c7.rec (C6 rs t m c) (λ_=>jv.no) (C6 rs t m c) (λv=>jv.hg v m c) x)
 (λd=>c7.rec (Pp P ol gl rs run t m c d none) (λ_=>jv.no) (Pp P ol gl rs run t m c d none) (λv=>Pp P ol gl rs run t m c d (some v)) x) d) r
abbrev C7:=FuncId->Option (List Data->Option di)
def VQ (cm:List Data->Option di):W VN:=.mk λ_ args m c=>match aE cm args (cp m) with
 |some (.same r)=>jv.ok (.I r) m c
 |some (.own _ es)=>jv.ok (.I (.ao es)) m c
 |_=>jv.no
def Pq (P:Program)(ol gl:List FuncId)(gm:C7)(f:FuncId):W VN:=k7 (match P.funcs[f]? with
 |none=>VO
 |some fn=>match fn.body,fn.results.toList.mapM (we P) with
  |some co,some rs=>gr VO (.mk λrun args m c=>gr jv.no (VP P ol gl rs run (W.ap (nZ P ol gl fn.ntmps co) run (s6 args 0 .e) m c none)) (rF (D args) fn.ntmps)) (rF fn.ntmps 1000000)
  |_,_=>VO) (λcm=>VQ cm) (gm f)
def Kv (P:Program)(ol gl:List FuncId)(gm:C7)(k:Nat):jH :=
 Nat.rec (motive:=λ_=>jH) (λ_ _ _ _ => .no) (λ_ a2 f args m c=>W.ap (Pq P ol gl gm f) a2 args m c) k
variable {P:Program} {A:Nat->Prop} {w w1:World} {B iV:cS} {run:jH} {ol gl:List FuncId}
def Gk (P : Program): Prop := ∀ (f : FuncId) (fn : Func), P.funcs[f]? = some fn -> (fn.name == "runtime.NumGoroutine") = false
def VR (P:Program)(f:FuncId)(args:List H)(m:e6):jv->Prop
 |.no=>True
 |.ok v m' _=>Real P f/\∀A w B vs,dP A w B (cp m)->cA w (bn A B) B args vs->Calls P f vs.toArray w λe ak=>∃u ay,e=.returned u/\c9 A w B ak ay (cp m')/\aY ak (bn A ay) ay v u
 |.hg v m' _=>Real P f/\∀A w B vs,dP A w B (cp m)->cA w (bn A B) B args vs->Calls P f vs.toArray w λe ak=>∃u ay,e=.panicked [{ v:=u,recovered:=false }]/\c9 A w B ak ay (cp m')/\aY ak (bn A ay) ay v u
def VS (A:Nat->Prop)(w:World)(B:cS):jv->Ending->World->Prop
 |.no,_,_=>False
 |.ok v m' _,e,ak=>∃u ay,e=.returned u/\c9 A w B ak ay (cp m')/\aY ak (bn A ay) ay v u
 |.hg v m' _,e,ak=>∃u ay,e=.panicked [{ v:=u,recovered:=false }]/\c9 A w B ak ay (cp m')/\aY ak (bn A ay) ay v u
def VT {fn:Func}{rs:List ku}{b2:Option H}{a:Act}{t:fp}{m:e6}{c:Nat}{r:jv}(mT:fn.results.toList.mapM (we P)=some rs)(L:r=C6 rs t m c)(bo:r ≠ .no)(O:dR b2 fn.ntmps A w B a ⟨cR t,cp m⟩ w1 iV):
  ∃v,(results fn a.tmps).run P w1=.ok v w1/\VS A w B r (.returned v) w1:=by
 unfold C6 at L
 cases al:jO ⟨cR t,cp m⟩ rs with
 |none=>rw[al] at L;exact absurd L bo
 |some v =>
  rw[al] at L;obtain⟨u,F,G⟩:=M1 O mT al;have dC:r=.ok v m c:=L;subst dC;exact⟨u,F,u,iV,rfl,O.ok,G⟩
def VU (rH:Gk P){f:FuncId}{fn:Func}{co:Code}(aj:P.funcs[f]?=some fn)(R:fn.body=some co):Real P f:=⟨fn,co,aj,R,rH f fn aj⟩
def VV (eM:sZ P run)(hm:P.follows .mixedOrders=true)(rH:Gk P){fn:Func}{rs:List ku}{a:Act}{t:fp}{m:e6}{c:Nat}{d:H}{p:Option H}{u:Option Value}{r:jv}(mT:fn.results.toList.mapM (we P)=some rs)
  (L:r=Pp P ol gl rs run t m c d p) (bo:r ≠ .no) (O:dR (some d) fn.ntmps A w B a ⟨cR t,cp m⟩ w1 iV) (aP:aew w1 (bn A iV) iV p u):Leaves P fn a.tmps (VS A w B r) a.defers (Ku u) w1:=by
 obtain⟨g,dc,vs,rfl,fD,al⟩:=O.wu;have dC:r=jJ.rec jv.no (λm c=>C6 rs t m c) (W.ap (Gj P ol gl g) run dc m c p):=L
 cases ad:W.ap (Gj P ol gl g) run dc m c p with
 |no=>rw[ad] at dC;exact absurd dC bo
 |ok m' kB =>
  rw[ad] at dC;have aU:r=C6 rs t m' kB:=dC;obtain⟨cs,hu,ea⟩:=H0 al (.inl rfl);simp only[Value.func.injEq,true_and] at hu;have aq1:=aqX (w:=w1) (u:=u) (vs:=cs) eM hm ad O.ok.cr ea aP
  have gy:Real P g:=by
   unfold Gj at ad
   split at ad
   ·cases ad
   ·rename_i aA1 aj
    split at ad
    ·rename_i id ops rest aA2 R aA3;exact VU rH aj R
    ·cases ad
  rw[fD,hu];refine leaves_cons (f:=g) (args:=cs.toArray) ?_ ?_ ?_
  ·cases u<;>simp[Ku]
  ·simp only[invoke];have:(#[]++cs.toArray:Array Value)=cs.toArray:=by simp
   rw[this];exact Bx gy cs.toArray
  ·refine aq1.mono λe yA ak he=>?_;obtain⟨v,rfl,rfl,ay,df⟩:=he;simp only;have eG:=O.put (dst:=none) (r:=.no) (v:=undef) df .no rfl;obtain⟨pA,F,G⟩:=VT (w:=w) (B:=B) mT aU bo eG;have tx:settle (rG u)=.returning:=by cases u<;>rfl
   rw[tx];exact⟨pA,F,G⟩
def aq2 {cm:List Data->Option di}{f:FuncId}(ej:hY P f cm)(args:List H)(m:e6)(c:Nat):VR P f args m (W.ap (VQ cm) run args m c):=by
 have cu:nh P (u1 λg=>if g=f then some cm else none):=R7 λg aA4 h=>by
  split at h
  ·rename_i aL
   cases h;exact aL ▸ ej
  ·cases h
 unfold VQ;rw[oy]
 split
 ·rename_i r he;obtain⟨gy,O⟩:=cu f args (cp m) (.same r) (by simp only[u1,if_true];exact he);refine⟨gy,λA w B vs bh al=>(O A w B vs bh al).mono λe ak h=>?_⟩;obtain⟨v,rfl,dq,ad⟩:=h;exact⟨v,B,rfl,.still bh dq,.I ad⟩
 ·rename_i sz es he;obtain⟨gy,O⟩:=cu f args (cp m) (.own sz es) (by simp only[u1,if_true];exact he);refine⟨gy,λA w B vs bh al=>(O A w B vs bh al).mono λe ak h=>?_⟩;obtain⟨v,rfl,dq,ad⟩:=h;exact⟨v,B,rfl,.still bh dq,.I (ad.den λb R=>R.elim (λcG=>bh.rU cG) (bh.lt b))⟩
 ·trivial
def aq3 {gm:C7}(Gl:∀f cm,gm f=some cm->hY P f cm)(eM:sZ P run)(hm:P.follows .mixedOrders=true)(rH:Gk P)(f:FuncId)(args:List H)(m:e6)(c:Nat):VR P f args m (W.ap (Pq P ol gl gm f) run args m c):=by
 generalize L:W.ap (Pq P ol gl gm f) run args m c=r
 by_cases bo:r=.no
 ·subst bo;trivial
 unfold Pq at L
 cases aP:gm f with
 |some cm =>
  rw[aP] at L;rw[<-L];exact aq2 (Gl f cm aP) args m c
 |none =>
 rw[aP] at L;simp only at L
 split at L
 ·exact absurd L.symm bo
 ·rename_i fn aj
  split at L
  ·rename_i co rs R mT
   cases aA:rF fn.ntmps 1000000 with
   |false=>rw[aA] at L;exact absurd L.symm bo
   |true =>
   rw[aA] at L;have np:(gr jv.no (VP P ol gl rs run (W.ap (nZ P ol gl fn.ntmps co) run (s6 args 0 .e) m c none)) (rF (D args) fn.ntmps):jv)=r:=L
   cases ae:rF (D args) fn.ntmps with
   |false=>rw[ae] at np;exact absurd np.symm bo
   |true =>
   rw[ae] at np;have HJ:fn.ntmps<=1000000:=p3 aA;have nD:(D args)<=fn.ntmps:=p3 ae;have aU:r=VP P ol gl rs run (W.ap (nZ P ol gl fn.ntmps co) run (s6 args 0 .e) m c none):=np.symm
   have main:∀A w B vs,dP A w B (cp m)->cA w (bn A B) B args vs->Calls P f vs.toArray w (VS A w B r):=λA w B vs bh al=>by
    have rv:=aeu (fn:=fn) bh al nD;rw[<-aet (by omega)] at rv
    cases U:W.ap (nZ P ol gl fn.ntmps co) run (s6 args 0 .e) m c none with
    |no=>rw[U] at aU;exact absurd aU bo
    |ok x t1 aW ch d1 =>
     rw[U] at aU;refine calls_of_wp_defers aj R (aeq eM HJ hm co _ m c none _ w B _ _ U.symm (by simp) rv λgK t2 bY dB d2 cB ak ay F eG=>?_)
     cases F
     cases d1 with
     |none =>
      have VW:cB.defers=[]:=eG.wu
      cases x with
      |o7 i=>exact absurd aU bo
      |l2 =>
       obtain⟨v,F,G⟩:=VT (w:=w) (B:=B) mT aU bo eG;show Leaves P fn cB.tmps _ cB.defers .returning ak;rw[VW];exact⟨v,F,G⟩
      |ret =>
       obtain⟨v,F,G⟩:=VT (w:=w) (B:=B) mT aU bo eG;show Leaves P fn cB.tmps _ cB.defers .returning ak;rw[VW];exact⟨v,F,G⟩
      |hg v =>
       intro u hu;show Leaves P fn cB.tmps _ cB.defers (.panicking [{ v:=u,recovered:=false }]) ak;rw[VW];have Fx:r=.hg v aW ch:=aU;subst Fx;exact⟨u,ay,rfl,eG.ok,hu⟩
     |some d =>
      cases x with
      |o7 i=>exact absurd aU bo
      |l2=>exact VV (u:=none) eM hm rH mT aU bo eG trivial
      |ret=>exact VV (u:=none) eM hm rH mT aU bo eG trivial
      |hg v =>
       intro u hu;exact VV (u:=some u) eM hm rH mT aU bo eG hu
   cases r with
   |no=>trivial
   |ok v m' kB=>exact⟨VU rH aj R,main⟩
   |hg v m' kB=>exact⟨VU rH aj R,main⟩
  ·exact absurd L.symm bo
def aex {gm:C7}(Gl:∀f cm,gm f=some cm->hY P f cm)(hm:P.follows .mixedOrders=true)(rH:Gk P):∀k,sZ P (Kv P ol gl gm k)
 |0=>λf args m c=>trivial
 |k+1=>λf args m c=>by
  have h:VR P f args m (Kv P ol gl gm (k+1) f args m c):=aq3 Gl (aex Gl hm rH k) hm rH f args m c;generalize Kv P ol gl gm (k+1) f args m c=r at h ⊢
  cases r<;>exact h
def C8 (P:Program)(ol gl:List FuncId)(gm:C7)(k:Nat)(f:FuncId)(args:List H):Option Data:=jv.rec none (λv m _=>cL 6 (cp m) v) (λ_ _ _=>none) (Kv P ol gl gm k f args .e 0)
def aq4 {gm:C7}(Gl:∀f cm,gm f=some cm->hY P f cm){f:FuncId}{k:Nat}(hm:P.follows .mixedOrders=true)(rH:Gk P){cm:List Data->Option di}(gy:Real P f)(h:∀ds r,cm ds=some r->∃d,r=.same d/\C8 P ol gl gm k f (ds.map .I)=some d):hY P f cm:=by
 refine⟨gy,λds r ej A w vs an jT sb=>?_⟩;obtain⟨d,rfl,bL⟩:=h ds r ej;have bh:dP A w (λ_=>none) (cp .e):=⟨λ_ _=>rfl,λ_ _ _ _ _ h=>(by cases h),λb _ a4=>ya b a4,an,jT,λb _ _ a4=>ya b a4,λ_ _ _ h=>(by cases h)⟩;have e8:∀b,bn A (λ_=>none) b->A b:=λb h=>h.elim (λh=>(ya b h).elim) id;have b7:cA w (bn A λ_=>none) (λ_=>none) (ds.map .I) vs:=cA.I sb.1 λi d v F G=>(sb.2 i d v F G).less e8;have L:=aex (ol:=ol) (gl:=gl) Gl hm rH k f (ds.map .I) .e 0;unfold C8 at bL
 cases eM:Kv P ol gl gm k f (ds.map .I) .e 0 with
 |no=>rw[eM] at bL;cases bL
 |hg v m c=>rw[eM] at bL;cases bL
 |ok v m c =>
  rw[eM] at bL L;have aq5:cL 6 (cp m) v=some d:=bL;refine Calls.mono (L.2 A w _ vs bh b7) λe ak he=>?_;obtain⟨u,ay,rfl,df,jm⟩:=he;exact⟨u,rfl,⟨df.fY.os,df.fY.tape,df.fY.output,df.fY.size,λb R _=>df.fY.block b R (ya b)⟩,snap df.cr (λb R=>R) 6 v u d aq5 jm⟩
end Go.Mini
namespace Go.Mini
open Go
def Gm:List (List Data)->Option (List Int)
 | []=>some []
 | [.int .i64 n]::r=>(Gm r).map (n::·)
 |_=>none
def VX:∀{es:List (List Data)} {l:List Int},Gm es=some l->es=l.map aG
 | [],l,h=>by
  simp only[Gm,bM] at h;subst h;rfl
 |e::r,l,h=>by
  unfold Gm at h
  split at h
  ·simp_all
  ·rename_i n xK he;simp only[bj] at he;obtain⟨rfl,rfl⟩:=he;simp only[c2] at h;obtain⟨mR,F,rfl⟩:=h;rw[VX F]
   rfl
  ·cases h
def Pr:List Data->Option av
 | [.int .i64 s,.ao es,.int .i64 s2,.ao acG]=>match Gm es,Gm acG with
  |some l,some X=>if (rF (D l) 1000&&rF (D X) 1000)=true then some ((s,l),(s2,X)) else none
  |_,_=>none
 |_=>none
def aey {ds:List Data}{x:av}(h:Pr ds=some x):ds=ar x/\x.1.2.length<=1000000/\x.2.2.length<=1000000:=by
 unfold Pr at h
 split at h
 ·split at h
  ·rename_i l X F G
   split at h
   ·rename_i U
    cases h;rw[fe] at U;have aa:=p3 U.1;have aX:=p3 U.2;exact⟨by rw[VX F,VX G];rfl,by show (D l)<=1000000;omega,by show (D X)<=1000000;omega⟩
   ·cases h
  ·cases h
 ·cases h
def AP (op:av->av->av×Int):List Data->Option di
 | [.agg a,.agg b]=>match Pr a,Pr b with
  |some x,some y=>some (.same (cP (op x y)))
  |_,_=>none
 |_=>none
def VY {op:av->av->av×Int}{ds:List Data}{r:di}(h:AP op ds=some r):∃x y:av,ds=[.agg (ar x),.agg (ar y)]/\(x.1.2.length<=1000000/\x.2.2.length<=1000000/\y.1.2.length<=1000000/\y.2.2.length<=1000000)/\r=.same (cP (op x y)):=by
 unfold AP at h
 split at h
 ·split at h
  ·rename_i x y F G
   cases h;obtain⟨aO,dw,dV⟩:=aey F;obtain⟨ax,bR,cz⟩:=aey G;exact⟨x,y,by rw[aO,ax],⟨dw,dV,bR,cz⟩,rfl⟩
  ·cases h
 ·cases h
def VZ:List Data->Option di
 | [.int .i64 p,.int .i64 q]=>if (decide (p.natAbs<=1000000)&&decide (q.natAbs<=1000000))=true then some (.same (cP (ie (a9 p) (a9 q)))) else none
 |_=>none
def aq6 {ds:List Data}{r:di}(h:VZ ds=some r):FA ds=some r:=by
 unfold VZ at h
 split at h
 ·rename_i p q
  split at h
  ·rename_i U
   cases h;simp only[fe,decide_eq_true_eq] at U;exact anr p q ⟨by unfold dX;omega,by unfold dX;omega⟩
  ·cases h
 ·cases h
def aq7 {ds:List Data}{r:di}(h:AP ou ds=some r):Cu ds=some r:=by
 obtain⟨x,y,rfl,U,rfl⟩:=VY h;exact anJ x.1.1 x.1.2 x.2.1 x.2.2 y.1.1 y.1.2 y.2.1 y.2.2 U
def aq8 {ds:List Data}{r:di}(h:AP iC ds=some r):yS ds=some r:=by
 obtain⟨x,y,rfl,U,rfl⟩:=VY h;exact anM x.1.1 x.1.2 x.2.1 x.2.2 y.1.1 y.1.2 y.2.1 y.2.2 U
def aq9 {ds:List Data}{r:di}(h:AP fK ds=some r):Cw ds=some r:=by
 obtain⟨x,y,rfl,U,rfl⟩:=VY h;exact anO x.1.1 x.1.2 x.2.1 x.2.2 y.1.1 y.1.2 y.2.1 y.2.2 U
def AQ:C7:=λf=>if f=IC then some VZ else if f=BS then some (AP ou) else if f=ym then some (AP iC) else if f=ET then some (AP fK) else none
def ara {P:Program}(F:hY P IC FA)(G:hY P BS Cu)(aa:hY P ym yS)(aX:hY P ET Cw):∀f cm,AQ f=some cm->hY P f cm:=by
 intro f cm h;unfold AQ at h
 split at h
 ·rename_i aj;cases h;subst aj;exact⟨F.real,λds r ej=>F.run ds r (aq6 ej)⟩
 ·split at h
  ·rename_i aj;cases h;subst aj;exact⟨G.real,λds r ej=>G.run ds r (aq7 ej)⟩
  ·split at h
   ·rename_i aj;cases h;subst aj;exact⟨aa.real,λds r ej=>aa.run ds r (aq8 ej)⟩
   ·split at h
    ·rename_i aj;cases h;subst aj;exact⟨aX.real,λds r ej=>aX.run ds r (aq9 ej)⟩
    ·cases h
end Go.Mini
namespace Go.Mini
open Go
variable {P:Program} {A:Nat->Prop} {w ak:World} {B ay:cS} {mem mem':Mem}
def Kw (N:List H->Mem->Option Data)(args:List H)(mem:Mem):Option gG:=(N args mem).map λd => .rel (yf (.I d) mem)
@[go_sem] def aA5 (N:List H->Mem->Option Data)(args:List H)(mem:Mem):Kw N args mem=(N args mem).map λd => .rel (yf (.I d) mem):=bs
def arb {T : bg}{kb : Nat}{own : List Nat}(cu : nh P T)(hm : P.follows .mixedOrders = true){f : FuncId}{fn : Func}{mf : bE}(aj : P.funcs[f]? = some fn)(sj : (fn.name == "runtime.NumGoroutine") = false)(aw : pz P kb own fn = some { mf with body := erase mf.body })
  (cQ:Key->Prop) {N:List H->Mem->Option Data}
  (h:∀args mem d,N args mem=some d->(D args)<=mf.n/\(∀j,cQ j->mem j=none) /\
   wp T mf.body (ue mf.res λm mem'=>cL 6 emp m=some d/\∀j,¬ cQ j->mem' j=mem j) ⟨ke args,mem⟩):nv P f (Kw N):=by
 refine⟨Us aj sj aw,λargs mem oa dN A w B vs bh al=>?_⟩;unfold Kw at dN;rw[c2] at dN;obtain⟨d,FK,rfl⟩:=dN;obtain⟨hlen,vn,yb⟩:=h args mem d FK;refine Calls.mono (Ij (Post:=λm mem'=>cL 6 emp m=some d/\∀j,¬ cQ j->mem' j=mem j) cu hm aj aw hlen (λe st Q=>Ur Q) yb bh al) λe ak he=>?_;obtain⟨v,m,mem',ay,rfl,O,kR,ad,gJ⟩:=he;exact⟨v,.I d,mem,sP cQ ay,rfl,O.drop bh vn vn (λj Y=>(gJ j Y).symm) (λk g cs Q m hm => .inr ⟨k,g,cs,Q,hm⟩),.I ((R6 6 m v d ad kR).less λb R=>R.imp CB id),rfl,rfl⟩
def arc (W:List H->Mem->Option (Data×Key))(args:List H)(mem:Mem):Option gG:=(W args mem).map λx => .xF x.1 x.2
@[go_sem] def aA6 (W:List H->Mem->Option (Data×Key))(args:List H)(mem:Mem):arc W args mem=(W args mem).map λx => .xF x.1 x.2:=bs
open Classical in
def Kx {α:Type}(dk:α->List H->Mem->Prop)(res:α->Data):List H->Mem->Option Data:=λargs mem=>if h:∃a,dk a args mem then some (res (Classical.choose h)) else none
def ard {α:Type}{dk:α->List H->Mem->Prop}{res:α->Data}(uniq:∀a b args mem,dk a args mem->dk b args mem->res a=res b){a:α}{args:List H}{mem:Mem}(h:dk a args mem):Kx dk res args mem=some (res a):=by
 have J:∃b,dk b args mem:=⟨a,h⟩;unfold Kx;rw[dif_pos J,uniq _ _ _ _ (sk J) h]
def are {α:Type}{dk:α->List H->Mem->Prop}{res:α->Data}{args:List H}{mem:Mem}{d:Data}(h:Kx dk res args mem=some d):∃a,dk a args mem/\d=res a:=by
 unfold Kx at h
 split at h
 ·rename_i J;exact⟨_,sk J,(mm h).symm⟩
 ·cases h
def V0 {K:a6->Prop}{st:a6}{x:bu}{i k sz kc g off:Nat}{cs:List H}(F:aK st.tm x=.ptr kc g off)(G:st.mem kc=some (g,cs))(aa:cs[off+i]?=some .nil)(aX:k≠kc)
  (h:K ⟨st.tm,aT (aT st.mem k (bz st.mem k) []) kc g (cs.set (off+i) (.ref k (bz st.mem k) sz 0 0))⟩):lh K st (.DY x i k sz):=by
 simp only[lh,F,G,if_true,aa];rw[aJ aX];exact h
def arf {K:a6->Prop}{st:a6}{x:bu}{i kc gc off k g sz o len:Nat}{cc cs:List H}{d:Data}(F:aK st.tm x=.ptr kc gc off)(G:st.mem kc=some (gc,cc))(aa:cc[off+i]?=some (.ref k g sz o len))(aX:st.mem k=some (g,cs))(bt:q4 cs=true)(bx:k≠kc)(bK:cL 1 st.mem (.ref k g sz o len)=some d)
  (h:K ⟨st.tm,aT (kill st.mem k) kc gc (cc.set (off+i) (.I d))⟩):lh K st (.Mc x i):=by
 simp only[lh,F,G,if_true,aa,aX];rw[aJ ⟨trivial,bt,bx⟩,bK];exact h
def dO (n:Nat)(mem m:Mem):Prop:=∀k,k/1000≠n->m k=mem k
def dO.refl (n:Nat)(mem:Mem):dO n mem mem:=λ_ _=>rfl
def dO.dZ {n k g:Nat}{cs:List H}{mem m:Mem}(h:dO n mem m)(Q:k/1000=n):dO n mem (aT m k g cs):=λj Y=>by
 have:j≠k:=λe=>Y (by rw[e];exact Q);simp only[aT,this,if_false];exact h j Y
def dO.kill {n k:Nat}{mem m:Mem}(h:dO n mem m)(Q:k/1000=n):dO n mem (kill m k):=h.dZ Q
def dO.at {n:Nat}{mem m:Mem}(h:dO n mem m)(k:Nat)(Q:k/1000≠n):m k=mem k:=h k Q
def Ps (n:Nat)(mem:Mem):Prop:=∀k,k/1000=n->mem k=none
def Ps.fY {n Kg:Nat}{mem m:Mem}(h:Ps n mem)(aj:dO Kg mem m)(aA:n≠Kg):Ps n m:=λk Q=>by rw[aj k (by omega)];exact h k Q
end Go.Mini
namespace Go.Mini
open Go Go.Proofs
def aez {P : Program}{T : bg}{kb : Nat}{own : List Nat}{α : Type}{args : α -> List Data}{res : α -> Option di}(cu : nh P T)(hm : P.follows .mixedOrders = true){f : FuncId}{fn : Func}{mf : bE}(aj : P.funcs[f]? = some fn)(sj : (fn.name == "runtime.NumGoroutine") = false)(aw : pz P kb own fn = some { mf with body := erase mf.body })(h : ∀ a r, res a = some r -> (args a).length <= mf.n /\ wp T mf.body (tB mf.res r) ⟨ke ((args a).map .I), emp⟩): hY P f (bG args res) := R5 cu hm aj sj aw fun ds r L => by
 obtain⟨a,rfl,G⟩:=Na L;exact h a r G
def mixed:Tryz.prog.follows .mixedOrders=true:=by kernel_rfl
abbrev b0:=hY Tryz.prog
def arh (mf : bE)(kb : Nat)(own : List Nat){α : Type}{args : α -> List Data}{res : α -> Option di}{l : List (FuncId × (List Data -> Option di))}{e : List (FuncId × (List H -> Mem -> Option gG))}(ae : ∀ p ∈ l, hY Tryz.prog p.1 p.2)(he : ∀ p ∈ e, nv Tryz.prog p.1 p.2){f : FuncId}{fn : Func}(aj : Tryz.prog.funcs[f]? = some fn)(h : ∀ a, Nd (res a) fun r => rF (args a).length mf.n = true /\ wp (sQ (ED l) (FN e)) mf.body (tB mf.res r) ⟨ke ((args a).map .I), emp⟩)(aA : (fn.name == "runtime.NumGoroutine", pz Tryz.prog kb own fn) = (false, some { mf with body := erase mf.body }) := by kernel_rfl): b0 f (bG args res) := R5 (vo (u4 ae) (vp he)) mixed aj (congrArg Prod.fst aA) (congrArg Prod.snd aA) fun ds r L => by
 obtain⟨a,rfl,G⟩:=Na L;have aa:=h a;rw[G] at aa;exact⟨p3 aa.1,aa.2⟩
def aA7 (mf : bE)(kb : Nat)(own : List Nat){α : Type}{args : α -> List Data}{res : α -> Option di}{l : List (FuncId × (List Data -> Option di))}(ae : ∀ p ∈ l, hY Tryz.prog p.1 p.2){f : FuncId}{fn : Func}(aj : Tryz.prog.funcs[f]? = some fn)(h : ∀ a, Nd (res a) fun r => rF (args a).length mf.n = true /\ wp (sQ (ED l) (FN [])) mf.body (tB mf.res r) ⟨ke ((args a).map .I), emp⟩)(aA : (fn.name == "runtime.NumGoroutine", pz Tryz.prog kb own fn) = (false, some { mf with body := erase mf.body }) := by kernel_rfl): b0 f (bG args res) := arh mf kb own ae m8 aj h aA
def vH (kb : Nat)(own : List Nat){l : List (FuncId × (List Data -> Option di))}{e : List (FuncId × (List H -> Mem -> Option gG))}(ae : ∀ p ∈ l, hY Tryz.prog p.1 p.2)(he : ∀ p ∈ e, nv Tryz.prog p.1 p.2){f : FuncId}{fn : Func}(aj : Tryz.prog.funcs[f]? = some fn){mf : bE}{cm : List Data -> Option di}(h : WF (sQ (ED l) (FN e)) mf cm)(aA : (fn.name == "runtime.NumGoroutine", pz Tryz.prog kb own fn) = (false, some { mf with body := erase mf.body }) := by kernel_rfl): b0 f cm := R5 (vo (u4 ae) (vp he)) mixed aj (congrArg Prod.fst aA) (congrArg Prod.snd aA) fun ds r L => by
 obtain⟨aa,aX⟩:=h ds r L;rw[ak7] at aX;exact⟨p3 aa,aX⟩
def cg (kb : Nat)(own : List Nat){l : List (FuncId × (List Data -> Option di))}(ae : ∀ p ∈ l, hY Tryz.prog p.1 p.2){f : FuncId}{fn : Func}(aj : Tryz.prog.funcs[f]? = some fn){mf : bE}{cm : List Data -> Option di}(h : WF (sQ (ED l) (FN [])) mf cm)(aA : (fn.name == "runtime.NumGoroutine", pz Tryz.prog kb own fn) = (false, some { mf with body := erase mf.body }) := by kernel_rfl): b0 f cm := vH kb own ae m8 aj h aA
def aV {gm:FuncId->Option (List Data->Option di)}{rz:FuncId->Option (List H->Mem->Option gG)}{f:FuncId}{cm:List Data->Option di}(F:rz f=none:=by rfl)(G:gm f=some cm:=by rfl):sQ gm rz f=aE cm:=uf F G
def Gn:b0 pI wJ:=cg 177000 [] bQ Tryz.func200 (alK _)
def Gp:nv Tryz.prog pI (z3 tL):=Iv.acH (ZI (mf:=E4) (kb:=177000) (own:=[]) (vo (u4 bQ) (vp m8)) mixed Tryz.func200 (by kernel_rfl) (by kernel_rfl) λargs mem x h=>by
 obtain⟨a,⟨rfl,hm,ae⟩,rfl⟩:=Sr h;exact⟨p3 rfl,alL _ a.l a.k a.g mem hm ae⟩)
def ari:b0 Np ND:=cg 184000 [] bQ Tryz.func202 (alM _)
def aeA:b0 EV I2:=cg 174000 [] (aM ari bQ) Tryz.func141 (alN _ aV)
def arj:b0 SL NG:=cg 179000 [] bQ Tryz.func205 (alQ _)
def Pt:b0 wG Aa:=cg 156000 [5] bQ Tryz.func94 (alS _)
def y9:b0 kF tN:=cg 136000 [] bQ Tryz.func134 (alT _)
def Gq:b0 oc yt:=vH 158000 [] (aM Gn bQ) (ug Gp m8) Tryz.func138 (alV _ (FM rfl rfl))
def V1:b0 BX E8:=cg 175000 [] (aM aeA bQ) Tryz.func142 (alY _ aV)
def aeB:b0 IJ I4:=vH 172000 [] (aM Gn bQ) (ug Gp m8) Tryz.func139 (alZ _ (FM rfl rfl))
def aeC:b0 EU I6:=vH 173000 [10] (aM Pt (aM Gn bQ)) (ug Gp m8) Tryz.func140 (al1 _ aV (FM rfl rfl))
def aeD:b0 ER I7:=vH 161000 [] (aM Gn bQ) (ug Gp m8) Tryz.func148 (al4 _ (FM rfl rfl))
def ark:b0 No NI:=vH 176000 [] (aM Gn bQ) (ug Gp m8) Tryz.func199 (al6 _ (FM rfl rfl))
def arl:nv Tryz.prog SK (z3 Jc):=Iv.acH (ZI (mf:=Nz) (kb:=178000) (own:=[]) (vo (u4 bQ) (vp m8)) mixed Tryz.func201 (by kernel_rfl) (by kernel_rfl) λargs mem x h=>by
 obtain⟨a,⟨rfl,U⟩,rfl⟩:=Sr h;exact⟨p3 rfl,ame _ a mem U⟩)
def aeE:b0 IG Jh:=vH 157000 [54] (aM V1 (aM Pt (aM ark (aM Gn (aM aeD bQ))))) (ug Gp (ug arl m8)) Tryz.func137 (amr _ aV aV aV (FM rfl rfl) aV (FL rfl rfl))
def V2:b0 tJ Fq:=cg 155000 [] bQ Tryz.func147 (am0 _)
def aeF:b0 EP Jn:=cg 152000 [] (aM y9 (aM Pt (aM Gq bQ))) Tryz.func206 (am1 _ aV aV aV)
def Pu:b0 tI Cl:=cg 140000 [] (aM y9 (aM aeD (aM Gq (aM V2 bQ)))) Tryz.func72 (am2 _ aV aV aV aV)
def arn:b0 SI NW:=cg 160000 [] (aM y9 (aM arj (aM aeB (aM aeC (aM V1 (aM Gq (aM V2 bQ))))))) Tryz.func146 (am3 _ aV aV aV aV aV aV aV)
def aro:b0 SG NY:=cg 154000 [] (aM y9 (aM aeA (aM V1 bQ))) Tryz.func69 (am5 _ aV aV aV)
def aeG:b0 ID Js:=cg 137000 [] (aM y9 (aM Pt (aM aeE (aM Gq (aM V2 bQ))))) Tryz.func135 (am6 _ aV aV aV aV aV)
def aeH:b0 BV Jv:=cg 153000 [] (aM y9 (aM aeE (aM aeB (aM aeC (aM Gq bQ))))) Tryz.func68 (am7 _ aV aV aV aV aV)
def arp:b0 Nn N1:=cg 150000 [] (aM Gq bQ) Tryz.func185 (anc _ aV)
def arq:b0 SH N3:=cg 159000 [] (aM y9 bQ) Tryz.func198 (ang _ aV)
def ars:b0 SA N7:=cg 138000 [] (aM arq bQ) Tryz.func136 (ann _ aV)
def AR:b0 mu vh:=cg 116000 [] (aM y9 (aM aeG (aM ars bQ))) Tryz.func67 (ano _ aV aV aV)
def aeI:b0 IF Jz:=cg 149000 [] (aM y9 (aM aeF (aM aeG (aM aeH bQ)))) Tryz.func149 (anq _ aV aV aV aV)
def aeJ:b0 IC FA:=cg 130000 [] (aM arp (aM aeI bQ)) Tryz.func109 (ans _ aV aV)
def art:b0 SB Ob:=cg 139000 [] (aM Pu (aM arn bQ)) Tryz.func71 (anF _ aV aV)
def V3:b0 BU FB:=cg 141000 [] (aM aeI bQ) Tryz.func73 (anH _ aV)
def V4:b0 BS Cu:=cg 119000 [] (aM AR (aM art (aM Pu (aM V3 bQ)))) Tryz.func22 (anK _ aV aV aV aV)
def aeK:b0 BT Cv:=cg 132000 [] (aM AR (aM aeF (aM V4 bQ))) Tryz.func157 (anL _ aV aV aV)
def V5:b0 ym yS:=cg 134000 [] (aM AR (aM Pu (aM V3 bQ))) Tryz.func38 (anN _ aV aV aV)
def aeL:b0 ET Cw:=cg 169000 [] (aM AR (aM Pu (aM V3 bQ))) Tryz.func113 (anP _ aV aV aV)
def V6:b0 z5 FE:=cg 135000 [] (aM AR (aM aeH (aM aro bQ))) Tryz.func20 (anW _ aV aV aV)
end Go.Mini
namespace Go.Mini
open Go Go.Proofs
def aru:∀f cm,AQ f=some cm->hY Tryz.prog f cm:=ara aeJ V4 V5 aeL
def arv : (Tryz.prog.funcs.all fun fn => !(fn.name == "runtime.NumGoroutine")) = true := by kernel_rfl
def arw:Gk Tryz.prog:=λf fn h=>by
 have:=(Array.all_eq_true'.1 arv) fn (Array.mem_of_getElem? h)
 simpa using this
def aeM:Real Tryz.prog oS:=⟨Tryz.f39,_,Tryz.func39,rfl,by kernel_rfl⟩
def Pv (s:List UInt8)(d:Data)(h:C8 Tryz.prog [45] [169,239,48,50] AQ 1000 oS [.I (.str s)]=some d):hY Tryz.prog oS (λds=>@ite _ (ds=[.str s]) (Classical.propDecidable _) (some (.same d)) none) :=
 aq4 (ol:=[45]) (gl:=[169,239,48,50]) aru mixed arw aeM λds r L=>by
  split at L
  ·rename_i e;subst e
   cases L;exact⟨d,rfl,h⟩
  ·cases L
end Go.Mini
namespace Go.Mini
open Go
def xj (x:List av)(l:cl)(s:av×Bool):av×Bool :=
 ((ou s.1 (iC l.2.2 (x.getD l.1.toNat bA)).1).1,s.2&&(((iC l.2.2 (x.getD l.1.toNat bA)).2==0)&&((ou s.1 (iC l.2.2 (x.getD l.1.toNat bA)).1).2==0)))
def AS (l:cl):List H:=.I (.int .i64 l.1) :: .I (.int .i64 l.2.1)::ju l.2.2
structure Ky where
 l:cl
 x:List av
 s:av×Bool
def V7 (a:Ky)(mem:Mem):Prop:=mem 396006=some (0,[.I (.ao (a.x.map ar))])/\mem 396004=some (0,ju a.s.1)/\mem 396010=some (0,[.I (.bool a.s.2)])/\okF a.l.2.2/\ih a.x/\okF a.s.1/\0<=a.l.1/\a.l.1<D a.x
def Gr (a:Ky)(mem:Mem):H->Mem->Prop:=λ_ mem'=>mem' 396004=some (0,ju (xj a.x a.l a.s).1)/\mem' 396010=some (0,[.I (.bool (xj a.x a.l a.s).2)])/\∀k:Nat,k/1000≠397->k≠396004->k≠396010->mem' k=mem k
def aeN {f g:av}(h:ju f=ju g):f=g:=by
 obtain⟨⟨a,b⟩,⟨c,d⟩⟩:=f;obtain⟨⟨cB,eF⟩,⟨kB,qt⟩⟩:=g;simp only[ju,bj,H.I.injEq,Data.int.injEq,Data.ao.injEq,true_and,and_true] at h;obtain⟨rfl,F,rfl,G⟩:=h;rw[map_inj fW _ _ F,map_inj fW _ _ G]
def arx {a b:cl}(h:AS a=AS b):a=b:=by
 obtain⟨x,y,w⟩:=a;obtain⟨gK,y',ak⟩:=b;simp only[AS,bj,H.I.injEq,Data.int.injEq,true_and] at h;obtain⟨rfl,rfl,h⟩:=h;rw[aeN h]
def Kz:List H->Mem->Option (H->Mem->Prop):=CD (λ(a:Ky) args mem=>args=[.agg (AS a.l),.ptr 396006 0 0,.ptr 396004 0 0,.ptr 396010 0 0]/\V7 a mem) Gr
def ary (a:Ky)(mem:Mem)(h:V7 a mem):Kz [.agg (AS a.l),.ptr 396006 0 0,.ptr 396004 0 0,.ptr 396010 0 0] mem=some (Gr a mem):=by
 unfold Kz;refine Uw (a:=a) ?_ ⟨rfl,h⟩;rintro a b args mem ⟨F,G,aa,aX,_⟩ ⟨bm,c3,ei,s7,_⟩;rw[F] at bm;rw[G] at c3;rw[aa] at ei;rw[aX] at s7;simp only[bj,H.agg.injEq,and_true,H.I.injEq,Data.ao.injEq,Data.bool.injEq,bM,eL,true_and] at bm c3 ei s7;obtain⟨l,x,s,f⟩:=a;obtain⟨mR,gK,xW,AI⟩:=b;dsimp only at *;rw[arx bm,map_inj j1 _ _ c3,aeN ei,s7]
def arz (T:bg)(Az:T ym=aE yS)(FC:T BS=aE Cu)(a:Ky)(hl:Mem)(h:V7 a hl):
  wp T Ok.body (ue Ok.res (Gr a hl)) ⟨ke [.agg (AS a.l),.ptr 396006 0 0,.ptr 396004 0 0,.ptr 396010 0 0],hl⟩:=by
 obtain⟨bx,aX,dy,a4,J,O,qp,aA⟩:=h;obtain⟨⟨f,t,⟨w1,gE⟩,⟨bJ,hs⟩⟩,x,⟨⟨s1,s2⟩,⟨bS,bU⟩⟩,KA⟩:=a;dsimp only at *;obtain⟨i,rfl⟩:=vI qp;have an:i<D x:=by omega
 obtain⟨⟨⟨dz,dI⟩,⟨eo,eA⟩⟩,fF⟩:∃f,x[i]?=some f:=⟨_,bc an⟩;have hq:=J.2 _ (cJ fF);have qk:x.getD i bA=((dz,dI),(eo,eA)):=by rw[dG,fF];rfl
 unfold Gr xj;dsimp only;rw[lX,qk];have uk:=OH ((w1,gE),(bJ,hs)) ((dz,dI),(eo,eA));generalize ic:iC ((w1,gE),(bJ,hs)) ((dz,dI),(eo,eA))=dk at *;obtain⟨⟨⟨jn,gH⟩,⟨sV,um⟩⟩,aO⟩:=dk;dsimp only at uk ⊢;generalize cU:ou ((s1,s2),(bS,bU)) ((jn,gH),(sV,um))=S at *;obtain⟨⟨⟨v1,v2⟩,⟨ff,v4⟩⟩,ax⟩:=S;dsimp only;simp only[ju] at aX;refine xX ?_;simp only[Ok];rcases KA
 ·rcases uE:(aO==0)<;>rcases ef:(ax==0) <;>
  (
   refine af ?_;repeat' (intro (ag:_=_)<;>simp only[ag,go_sem,go_sem_proc,Az,FC,bx,aX,dy,fF,ic,cU,a4.1,a4.2,hq.1,hq.2,O.1,O.2,uk.1,uk.2,uE,ef,AS,ju,cP,ar,ah,bd]<;>try refine ab ?_ ?_)
   refine⟨_,rfl,?_⟩;intro k Q F G;have vJ:∀(j:Nat),j/1000=397->k≠j:=λj G h=>Q (h ▸ G);rw[aR F,aR G,aR (vJ 397007 (by decide)),aR (vJ 397007 (by decide)),aR (vJ 397005 (by decide)),aR (vJ 397005 (by decide)),aR (vJ 397004 (by decide))])
 ·rcases uE:(aO==0)<;>rcases ef:(ax==0) <;>
  (
   refine af ?_;repeat' (intro (ag:_=_)<;>simp only[ag,go_sem,go_sem_proc,Az,FC,bx,aX,dy,fF,ic,cU,a4.1,a4.2,hq.1,hq.2,O.1,O.2,uk.1,uk.2,uE,ef,AS,ju,cP,ar,ah,bd]<;>try refine ab ?_ ?_)
   refine⟨_,rfl,?_⟩;intro k Q F G;have vJ:∀(j:Nat),j/1000=397->k≠j:=λj G h=>Q (h ▸ G);rw[aR F,aR G,aR (vJ 397007 (by decide)),aR (vJ 397007 (by decide)),aR (vJ 397005 (by decide)),aR (vJ 397005 (by decide)),aR (vJ 397004 (by decide))])
def s8 (x:List av)(to:Int):List cl->av×Bool->av×Bool
 | [],s=>s
 |l::r,s=>s8 x to r (if ((l.2.1==to)&&s.2)=true then xj x l s else s)
def lI (base:av)(ls:List cl)(x:List av)(to:Int):av×Bool:=s8 x to ls (base,true)
def aeO (base:av)(ls:List cl)(x:List av)(to:Int):Prop:=okF base/\qQ ls/\ih x/\∀l∈ls,l.2.1=to->0<=l.1/\l.1<D x
def aeP (x:List av)(l:cl)(s:av×Bool):okF (xj x l s).1:=UC _ _
abbrev Gs:Int×(List Int)×Int×(List Int)×(List cl)×(List av)×Int->List Data:=λ(s,l,s2,X,ls,x,to)=>[.agg [.int .i64 s,.ao (l.map aG),.int .i64 s2,.ao (X.map aG)],.ao (ls.map fg),.ao (x.map ar),.int .i64 to]
def Gu:=bG Gs λ(s,l,s2,X,ls,x,to)=>b8 (aeO ((s,l),(s2,X)) ls x to) (.same (.dp [.agg (ar (lI ((s,l),(s2,X)) ls x to).1),.bool (lI ((s,l),(s2,X)) ls x to).2]))
def aeQ:∀a b,Gs a=Gs b->a=b:=by
  rintro⟨s1,hZ,tX,sG,y4,dz,arA⟩ ⟨s2,X,tY,sH,y5,dI,arB⟩ h;simp only[bj,Data.agg.injEq,Data.int.injEq,Data.ao.injEq] at h;exact cx h.1.1.2 (cx (map_inj fW _ _ h.1.2.1) (cx h.1.2.2.1.2 (cx (map_inj fW _ _ h.1.2.2.2.1) (cx (map_inj ux _ _ h.2.1) (cx (map_inj j1 _ _ h.2.2.1) h.2.2.2.1.2)))))
@[go_sem] def V8 (s l s2 X ls x to):=cj Gu rfl aeQ (s,l,s2,X,ls,x,to) rfl
def arC (T:bg)(xk:T SY=yV Kz):WF T acm Gu:=by
 refine b5 λ(s,l,s2,X,ls,x,to)=>cn λU=>⟨rfl,b4 ?_⟩;simp only[acm,Gs,bV];obtain⟨a4,⟨vK,ga⟩,J,eY⟩:=U;unfold lI;simp only[go_sem,go_sem_proc,xk,ah]
 refine cV [3,4,8,10,11,15,16] [396006,396008] (λ((i,f,b):Nat×av×Bool) tm m=>i<=D ls/\okF f/\s8 x to ls (((s,l),(s2,X)),true)=s8 x to (ls.drop i) (f,b)/\tm 17=.I (.int .i64 i)/\m 396004=some (0,ju f)/\m 396010=some (0,[.I (.bool b)])) (λ(i,_)=>D ls-i) (0,((s,l),(s2,X)),true) (by
  refine⟨dF _,a4,rfl,rfl,?_,?_⟩
  ·simp[aT,ju]
  ·simp[aT]) ?_
 intro vs ms aI aD;simp only[go_sem,go_sem_proc,xk,ah] at aI aD;subst aI aD;rintro⟨i,f,b⟩ tm m Q hm ⟨Z,aj,a5,h0,fs,ij⟩;simp only[go_sem,go_sem_proc,xk,bj] at Q hm;obtain⟨ei,s7,fQ,hM,lu,KB,AT⟩:=Q;obtain⟨gA,g2⟩:=hm;rcases dt (i<D ls) with an|bB
 ·obtain⟨⟨a,c,⟨w1,gE⟩,⟨bJ,hs⟩⟩,dr⟩:∃l,ls[i]?=some l:=⟨_,bc an⟩;have pa:=ga _ (cJ dr);have uh:=eY _ (cJ dr);dsimp only at pa uh
  have k3:ls.drop i=(a,c,((w1,gE),(bJ,hs)))::ls.drop (i+1):=by
   obtain⟨ae,e⟩:=dK.1 dr;rw[gw ae,e]
  rw[k3] at a5;simp only[s8] at a5;have d1:decide ((i:Int)<(D ls:Int))=true:=c5;have pb:=e1 (i:=i) (by omega);rcases jg:(c==to)
  ·rw[jg] at a5;simp only[eN,cC,if_false] at a5;refine af ?_;repeat' (intro h<;>simp only[h,go_sem,go_sem_proc,xk,ei,s7,fQ,hM,lu,KB,AT,h0,fs,gA,g2,ij,dr,d1,pb,jg,fg,ar,ah,bd]<;>try refine ab ?_ ?_)
   exact⟨(i+1,f,b),by dsimp only;omega,by dsimp only;omega,aj,a5,rfl,rfl,rfl⟩
  ·rw[jg] at a5;rcases b
   ·simp only[iZ,cC,if_false] at a5;refine af ?_;repeat' (intro h<;>simp only[h,go_sem,go_sem_proc,xk,ei,s7,fQ,hM,lu,KB,AT,h0,fs,gA,g2,ij,dr,d1,pb,jg,fg,ar,ah,bd]<;>try refine ab ?_ ?_)
    exact⟨(i+1,f,false),by dsimp only;omega,by dsimp only;omega,aj,a5,rfl,rfl,rfl⟩
   ·simp only[KC,if_true] at a5;have C9:c=to:=by simpa using jg
    obtain⟨s9,gD⟩:=uh C9
    have e5:∀mem:Mem,mem 396006=m 396006->mem 396004=m 396004->mem 396010=m 396010->Kz [.agg [.I (.int .i64 a),.I (.int .i64 c),.I (.int .i64 w1),.I (.ao (gE.map aG)),.I (.int .i64 bJ),.I (.ao (hs.map aG))],.ptr 396006 0 0,.ptr 396004 0 0,.ptr 396010 0 0] mem=some (Gr ⟨(a,c,((w1,gE),(bJ,hs))),x,(f,true)⟩ mem):=λmem aO ax eS =>
     ary ⟨(a,c,((w1,gE),(bJ,hs))),x,(f,true)⟩ mem ⟨aO.trans gA,ax.trans fs,eS.trans ij,pa,J,aj,s9,gD⟩
    have rC:=aeP x (a,c,((w1,gE),(bJ,hs))) (f,true);generalize df:xj x (a,c,((w1,gE),(bJ,hs))) (f,true)=S at *;simp only[go_sem,go_sem_proc,xk,ei,s7,fQ,hM,lu,KB,AT,h0,fs,gA,g2,ij,dr,d1,pb,jg,fg,ar,ah,bd];rw[e5 _ (by simp[aT]) (by simp[aT]) (by simp[aT])];simp only[go_sem,go_sem_proc,xk];intro xb m' ec;unfold Gr at ec;dsimp only at ec;rw[df] at ec;obtain⟨arD,arE,rI⟩:=ec;have Gv:=rI 396006 (by decide) (by decide) (by decide);have aeR:=rI 396008 (by decide) (by decide) (by decide);simp only[go_sem,go_sem_proc,xk] at Gv aeR;refine af ?_;repeat' (intro h<;>simp only[h,go_sem,go_sem_proc,xk,ei,s7,fQ,hM,lu,KB,AT,h0,gA,g2,arD,Gv,aeR,arE,pb]<;>try refine ab ?_ ?_)
    exact⟨(i+1,S.1,S.2),by dsimp only;omega,by dsimp only;omega,rC,a5,rfl,rfl,rfl⟩
 ·have d1:decide ((i:Int)<(D ls:Int))=false:=de;have kH:ls.drop i=[]:=lj (by omega);rw[kH] at a5;rw[a5];simp only[s8];obtain⟨⟨f1,f2⟩,⟨f3,f4⟩⟩:=f;simp only[ju] at fs;refine af ?_;repeat' (intro h<;>simp only[h,go_sem,go_sem_proc,xk,ei,s7,fQ,hM,lu,KB,AT,h0,fs,gA,g2,ij,d1,ar,ah]<;>try refine ab ?_ ?_)
def hh:av:=ed ((0:Int):Rat)
def kp:av:=ed ((1:Int):Rat)
def aeS {n:Int}(h:n.natAbs<=1):ns ((n:Int):Rat):=by
 refine⟨?_,?_⟩
 ·rw[Rat.num_intCast];exact yx h (by unfold cW;exact aeT (by omega) (by omega))
 ·rw[Rat.den_intCast];unfold cW;exact aeT (by omega) (by omega)
def xl:okF hh:=UA (aeS (by decide))
def Da:okF kp:=UA (aeS (by decide))
def n0 (to:Int):List cl->List av->List av×Bool
 | [],A=>(A,true)
 |l::r,A=>if (l.2.1==to)=true then (if ((kn (A.getD l.1.toNat bA) l.2.2).2==0)=true then n0 to r (A.set l.1.toNat (kn (A.getD l.1.toNat bA) l.2.2).1) else ([],false)) else n0 to r A
def oA (n to:Nat):List av:=(cf n hh).set to kp
def mG (v:av)(ls:List cl)(n to:Nat):b9×Bool:=if (n0 to ls (oA n to)).2=true then (((n0 to ls (oA n to)).1,v),true) else (([],bA),false)
def aeU (v:av)(ls:List cl)(n to:Nat):Prop:=okF v/\qQ ls/\n<=40/\to<n/\∀l∈ls,l.2.1=to->0<=l.1/\l.1<n
abbrev Gw:Int×(List Int)×Int×(List Int)×(List cl)×Nat×Nat->List Data:=λ(s,l,s2,X,ls,n,to)=>[.agg [.int .i64 s,.ao (l.map aG),.int .i64 s2,.ao (X.map aG)],.ao (ls.map fg),.int .i64 n,.int .i64 to]
def KD:=bG Gw λ(s,l,s2,X,ls,n,to)=>b8 (aeU ((s,l),(s2,X)) ls n to) (.same (.dp [.agg (cE (mG ((s,l),(s2,X)) ls n to).1),.bool (mG ((s,l),(s2,X)) ls n to).2]))
def aeV:∀a b,Gw a=Gw b->a=b:=by
  rintro⟨s1,hZ,tX,sG,y4,rb,arA⟩ ⟨s2,X,tY,sH,y5,re,arB⟩ h;simp only[bj,Data.agg.injEq,Data.int.injEq,Data.ao.injEq] at h;exact cx h.1.1.2 (cx (map_inj fW _ _ h.1.2.1) (cx h.1.2.2.1.2 (cx (map_inj fW _ _ h.1.2.2.2.1) (cx (map_inj ux _ _ h.2.1) (cx (by have:=h.2.2.1.2;dsimp only;omega) (by have:=h.2.2.2.1.2;dsimp only;omega))))))
@[go_sem] def V9 (s l s2 X ls n to):=cj KD rfl aeV (s,l,s2,X,ls,n,to) rfl
def arF (T:bg)(e7:T tK=aE CQ)(pc:T EM=aE Ka)(sR:T BT=aE Cv):WF T ack KD:=by
 refine b5 λ(s,l,s2,X,ls,n,to)=>cn λU=>⟨rfl,b4 ?_⟩;simp only[ack,Gw,bV];obtain⟨a4,⟨vK,ga⟩,aA,Db,eY⟩:=U;have a0:=F6 0 (by unfold dX;omega);have F:=F6 1 (by unfold dX;omega);rw[show ed ((0:Int):Rat)=hh from rfl] at a0;rw[show ed ((1:Int):Rat)=kp from rfl] at F;have Dc:=xl;have vL:=Da;have Dd:oA n to=(cf n hh).set to kp:=rfl;generalize hh=nb at *;generalize kp=au at *;obtain⟨⟨iP,je⟩,⟨kL,kM⟩⟩:=nb;obtain⟨⟨kq,jK⟩,⟨pd,pe⟩⟩:=au;simp only[ar] at a0 F;have q8:=adu iP je kL kM n (by omega)
 have iK:(cf n (ar ((iP,je),(kL,kM)))).flatten.map H.I=aQ ar (cf n ((iP,je),(kL,kM))):=by
  unfold aQ;rw[CL]
 have t1:=ui (l:=cf n ((iP,je),(kL,kM))) (k:=to) (by rw[hr];exact Db);have t2:=yY (l:=cf n ((iP,je),(kL,kM))) (k:=to) (by rw[hr];exact Db) kq jK pd pe;rw[<-Dd] at t2;have jG:(oA n to).length=n:=by rw[Dd,fj,hr]
 have mE:∀f∈oA n to,okF f:=λf aj=>by
  rw[Dd] at aj;rcases nW aj with aj|rfl
  ·rw[pM] at aj;rw[aj.2];exact Dc
  ·exact vL
 unfold mG;generalize oA n to=KE at *;simp only[go_sem,go_sem_proc,e7,pc,sR,a0,F,q8,iK,t1,t2,Db,ah,hr]
 refine cV [3,8,10,26,27] [395004,395008] (λ((i,A):Nat×List av) tm m=>i<=D ls/\D A=n/\(∀f∈A,okF f)/\n0 to ls KE=n0 to (ls.drop i) A/\tm 28=.I (.int .i64 i)/\m 395010=some (0,.ref 395018 0 4 0 n::ju ((s,l),(s2,X)))/\m 395018=some (0,aQ ar A)) (λ(i,_)=>D ls-i) (0,KE) (by
  refine⟨dF _,jG,mE,rfl,rfl,?_,?_⟩
  ·simp[aT,ju]
  ·simp[aT]) ?_
 intro vs ms aI aD;simp only[go_sem,go_sem_proc,e7,pc,sR,ah] at aI aD;subst aI aD;rintro⟨i,A⟩ tm m Q hm ⟨Z,De,p4,a5,Pw,ij,za⟩;simp only[go_sem,go_sem_proc,e7,pc,sR,bj] at Q hm;obtain⟨ei,fQ,hM,mH,Px⟩:=Q;obtain⟨fs,g2⟩:=hm;simp only[ju] at ij;rcases dt (i<D ls) with an|bB
 ·obtain⟨⟨a,c,⟨w1,gE⟩,⟨bJ,hs⟩⟩,dr⟩:∃l,ls[i]?=some l:=⟨_,bc an⟩;have pa:=ga _ (cJ dr);have uh:=eY _ (cJ dr);dsimp only at pa uh
  have k3:ls.drop i=(a,c,((w1,gE),(bJ,hs)))::ls.drop (i+1):=by
   obtain⟨ae,e⟩:=dK.1 dr;rw[gw ae,e]
  rw[k3] at a5;simp only[n0] at a5;have d1:decide ((i:Int)<(D ls:Int))=true:=c5;have pb:=e1 (i:=i) (by omega);rcases jg:(c==(to:Int))
  ·rw[jg] at a5;simp only[cC,if_false] at a5;refine af ?_;repeat' (intro h<;>simp only[h,go_sem,go_sem_proc,e7,pc,sR,ei,fQ,hM,mH,Px,Pw,fs,g2,ij,za,dr,d1,pb,jg,fg,ar,ah,bd]<;>try refine ab ?_ ?_)
   exact⟨(i+1,A),by dsimp only;omega,by dsimp only;omega,De,p4,a5,rfl,rfl,rfl⟩
  ·rw[jg] at a5;simp only[if_true] at a5;have C9:c=to:=by simpa using jg
   obtain⟨s9,gD⟩:=uh C9;obtain⟨j,rfl⟩:=vI s9;have Y:j<n:=by omega
   obtain⟨⟨⟨dz,dI⟩,⟨eo,eA⟩⟩,ta⟩:∃f,A[j]?=some f:=⟨_,bc (by omega)⟩;have hq:=p4 _ (cJ ta);have qk:A.getD j bA=((dz,dI),(eo,eA)):=by rw[dG,ta];rfl
   rw[lX,qk] at a5;have rC:=FP ((dz,dI),(eo,eA)) ((w1,gE),(bJ,hs));have ch:=CG ta;have dB:=ui (l:=A) (k:=j) (by omega);generalize cU:kn ((dz,dI),(eo,eA)) ((w1,gE),(bJ,hs))=S at *;obtain⟨⟨⟨v1,v2⟩,⟨ff,v4⟩⟩,e⟩:=S;dsimp only at a5 rC;have gu:=yY (l:=A) (k:=j) (by omega) v1 v2 ff v4;rcases he:(e==0)
   ·rw[he] at a5;simp only[cC,if_false] at a5;rw[a5];simp only[cC,if_false];refine af ?_;repeat' (intro h<;>simp only[h,go_sem,go_sem_proc,e7,pc,sR,ei,fQ,hM,mH,Px,Pw,fs,g2,ij,za,dr,d1,pb,jg,Y,cU,ch,dB,hq.1,hq.2,pa.1,pa.2,he,fg,cE,bA,cP,ar,bN,ah,bd,ne_eq,not_false_eq_true,decide_true,decide_false]<;>try refine ab ?_ ?_)
   ·rw[he] at a5;simp only[if_true] at a5;refine af ?_;repeat' (intro h<;>simp only[h,go_sem,go_sem_proc,e7,pc,sR,ei,fQ,hM,mH,Px,Pw,fs,g2,ij,za,dr,d1,pb,jg,Y,cU,ch,dB,gu,hq.1,hq.2,pa.1,pa.2,he,fg,cP,ar,ah,bd,ne_eq,not_false_eq_true,decide_true,decide_false]<;>try refine ab ?_ ?_)
    refine⟨(i+1,A.set j ((v1,v2),(ff,v4))),by dsimp only;omega,by dsimp only;omega,by rw[fj];exact De,λf aj=>?_,a5,rfl,rfl,rfl⟩
    rcases nW aj with aj|rfl
    ·exact p4 f aj
    ·exact rC
 ·have d1:decide ((i:Int)<(D ls:Int))=false:=de;have kH:ls.drop i=[]:=lj (by omega);rw[kH] at a5;rw[a5];simp only[n0,if_true];have ez:=jV (n:=3) (k:=395018) jt (mem:=aT m 395008 0 (.ref 395018 0 4 0 n::ju ((s,l),(s2,X)))) (l:=A) (g:=0) (by rw[ko (by decide)];exact za);rw[De] at ez;simp only[ju] at ez;refine af ?_;repeat' (intro h<;>simp only[h,go_sem,go_sem_proc,e7,pc,sR,ei,fQ,hM,mH,Px,Pw,fs,g2,ij,za,d1,cE,ar,ah]<;>try refine ab ?_ ?_)
  rw[ez]
  rfl
def kN (b:Bool):List Data:=[.bool b]
def Wa (b:Bool):(kN b).length=1:=rfl
def aeW (l:List Bool):aQ kN l=l.map λb => .I (.bool b):=by
 induction l with
 |nil=>rfl
 |cons b l a2=>rw[u5,a2];rfl
def aeX {a b:List Bool}(h:aQ kN a=aQ kN b):a=b:=by
 rw[aeW,aeW] at h;exact map_inj (λa b h=>by cases h;rfl) _ _ h
def Wb {α:Type}{p:α->Bool}{l:List α}{i:Nat}{x:α}(J:l[i]?=some x)(h:p x=false):l.all p=false:=by
 rw[List.all_eq_false];exact⟨x,cJ J,by simp[h]⟩
def Wc (to:Int):∀(ls:List cl) (A:List av),(∀f∈A,okF f)->∀f∈(n0 to ls A).1,okF f
 | [],A,h=>h
 |l::r,A,h=>by
  unfold n0
  split
  ·split
   ·refine Wc to r _ λf aj=>?_;rcases nW aj with aj|rfl
    ·exact h f aj
    ·exact FP _ _
   ·intro f aj;cases aj
  ·exact Wc to r A h
def Wd (to:Int):∀(ls:List cl) (A:List av),(n0 to ls A).1.length<=D A
 | [],A=>c8 _
 |l::r,A=>by
  unfold n0
  split
  ·split
   ·have:=Wd to r (A.set l.1.toNat (kn (A.getD l.1.toNat bA) l.2.2).1);rwa [fj] at this
   ·exact dF _
  ·exact Wd to r A
def arG {n to:Nat}:∀f∈oA n to,okF f:=λf aj=>by
 unfold oA at aj;rcases nW aj with aj|rfl
 ·rw[pM] at aj;rw[aj.2];exact xl
 ·exact Da
def zb {v:av}{ls:List cl}{n to:Nat}(al:okF v)(aA:n<=40):lD (mG v ls n to).1:=by
 unfold mG
 split
 ·refine⟨⟨?_,Wc _ _ _ arG⟩,al⟩;have:=Wd to ls (oA n to);unfold oA at this;rw[fj,hr] at this;dsimp only;unfold oA;omega
 ·exact⟨⟨by simp,λf aj=>by cases aj⟩,o2⟩
def mI (cap base:List av)(ls:List cl)(left:List Bool)(i:Nat):b9×Bool:=if left.getD i false=true then mG (base.getD i bA) ls (D cap) i else mG (cap.getD i bA) [] (D cap) i
def allEq (cap base:List av)(ls:List cl)(left:List Bool):List (b9×Bool):=(qj (D cap)).map (mI cap base ls left)
def tb (cap base:List av)(ls:List cl)(left:List Bool):List av×Bool :=
 if (allEq cap base ls left).all (·.2)=true then ((mF ((allEq cap base ls left).map (·.1)) (D cap)).1,(mF ((allEq cap base ls left).map (·.1)) (D cap)).2==0) else ([],false)
structure KF where
 cap:List av
 base:List av
 ls:List cl
 left:List Bool
def AU (cap base:List av)(ls:List cl):H:=.agg [.I (.ao (cap.map ar)),.I (.ao (base.map ar)),.I (.ao (ls.map fg))]
structure We (a:KF) (mem:Mem):Prop where
 at_:mem 394022=some (0,aQ kN a.left)
 no:Ps 403 mem
 FF:ox a.cap a.base a.ls
 aA8:(D a.cap)<=40
 NP:(D a.base)=D a.cap
 aA9:(D a.left)=D a.cap
 aBa:∀l∈a.ls,0<=l.1/\l.1<D a.cap
def KG (a:KF):Data:=.dp [.ao ((tb a.cap a.base a.ls a.left).1.map ar),.bool (tb a.cap a.base a.ls a.left).2]
def Wf:List H->Mem->Option Data:=Kx (λ(a:KF) args mem=>args=[AU a.cap a.base a.ls,.ref 394022 0 1 0 (D a.cap)]/\We a mem) KG
def arH {cap base Rq aeY:List av}{ls aeZ:List cl}(h:AU cap base ls=AU Rq aeY aeZ):cap=Rq/\base=aeY/\ls=aeZ:=by
 simp only[AU,H.agg.injEq,bj,H.I.injEq,Data.ao.injEq,and_true] at h;exact⟨map_inj j1 _ _ h.1,map_inj j1 _ _ h.2.1,map_inj ux _ _ h.2.2⟩
def arI (a:KF)(mem:Mem)(h:We a mem):Wf [AU a.cap a.base a.ls,.ref 394022 0 1 0 (D a.cap)] mem=some (KG a):=by
 refine ard (a:=a) ?_ ⟨rfl,h⟩;rintro a b args mem ⟨aO,ax⟩ ⟨eS,iA⟩;rw[aO] at eS;simp only[bj] at eS;obtain⟨F,G,aa⟩:=arH eS.1;have aX:=ax.at_;rw[iA.at_] at aX;simp only[bM,eL,true_and] at aX;obtain⟨c,eF,l,f⟩:=a;obtain⟨kB,cz,mR,AI⟩:=b;dsimp only at *;subst F G aa;have bt:AI=f:=aeX aX;rw[bt]
def xm {l:List Bool}{k:Nat}{b:Bool}(h:l[k]?=some b):mZ 1 (nL k (aQ kN l))=[.I (.bool b)]:=by
 have:=EE (enc:=kN) Wa h (f:=0) (n:=1) (by decide);unfold cut at this;rw[dL,lo] at this
 split at this
 ·simpa [kN] using this
 ·cases this
def uA {l:List Bool}{k:Nat}(h:k<D l):(k+1<=(aQ kN l).length)=True:=eq_true (by rw[jU Wa];omega)
def arJ (T:bg)(p5:T IU=aE KD)(p6:T Iz=aE J8)(a:KF)(mem:Mem)(ba:We a mem):
  wp T Ol.body (ue Ol.res λm mem'=>cL 6 emp m=some (KG a)/\dO 403 mem mem') ⟨ke [AU a.cap a.base a.ls,.ref 394022 0 1 0 (D a.cap)],mem⟩:=by
 obtain⟨g9,h6,⟨⟨ea,ny⟩,⟨mq,nz⟩,nA⟩,aA,R,ae,eY⟩:=ba;obtain⟨cap,base,ls,left⟩:=a;dsimp only at *;unfold AU KG tb;dsimp only;have jG:(allEq cap base ls left).length=D cap:=by unfold allEq;rw[ah,tE]
 have uB:∀i,i<(D cap)->(allEq cap base ls left)[i]?=some (mI cap base ls left i):=λi Z=>by
  unfold allEq;rw[bd,r3 Z]
  rfl
 have p4:∀x∈allEq cap base ls left,lD x.1:=λx J=>by
  unfold allEq at J;rw[h7] at J;obtain⟨i,Z,rfl⟩:=J;rw[BM] at Z;have aO:okF (cap.getD i bA):=by rw[dG,bc Z];exact ny _ (ha Z)
  have ax:okF (base.getD i bA):=by rw[dG,bc (by omega)];exact nz _ (ha (by omega))
  unfold mI
  split
  ·exact zb ax aA
  ·exact zb aO aA
 generalize e9:allEq cap base ls left=A at *;refine xX ?_;simp only[Ol];simp only[go_sem,go_sem_proc,ah]
 refine cV [1,2,6,18] [403002,394022] (λ((i,g):Nat×Nat) tm m=>i<=D cap/\(A.take i).all (·.2)=true/\tm 19=.I (.int .i64 i)/\tm 7=.ref 403051 g 5 0 i/\m 403051=some (g,aQ cE ((A.take i).map (·.1)))/\dO 403 mem m) (λ(i,_)=>D cap-i) (0,0) (by
  refine⟨dF _,by simp,rfl,?_,?_,?_⟩
  ·simp[gL,h6 403051 (by decide),aT]
  ·simp[aT,aQ,gL,h6 403051 (by decide)]
  ·repeat first|exact dO.refl _ _|refine dO.dZ ?_ (by decide)) ?_
 intro vs ms aI aD;simp only[go_sem,go_sem_proc,g9,ah] at aI aD;subst aI aD;rintro⟨i,g⟩ tm m Q hm ⟨Z,cX,sB,bK,Df,dq⟩;simp only[go_sem,go_sem_proc,bj] at Q hm;obtain⟨bm,c3,dn,Gx⟩:=Q;obtain⟨bY,k8⟩:=hm;rcases dt (i<D cap) with an|bB
 ·have d1:decide ((i:Int)<(D cap:Int))=true:=c5;have bJ:=e1 (i:=i) (by omega);obtain⟨⟨⟨ch,dB⟩,⟨gu,iF⟩⟩,dg⟩:∃f,cap[i]?=some f:=⟨_,bc an⟩;obtain⟨⟨⟨bR,cz⟩,⟨er,eC⟩⟩,eI⟩:∃f,base[i]?=some f:=⟨_,bc (by omega)⟩;obtain⟨j5,dr⟩:∃f,left[i]?=some f:=⟨_,bc (by omega)⟩;have xn:=ny _ (cJ dg);have zc:=nz _ (cJ eI);have gc:cap.getD i bA=((ch,dB),(gu,iF)):=by rw[dG,dg];rfl
  have qR:base.getD i bA=((bR,cz),(er,eC)):=by rw[dG,eI];rfl
  have gl:left.getD i false=j5:=by rw[dG,dr];rfl
  have hT:=xm dr;have g4:=uA (l:=left) (k:=i) (by omega);have vM:=uB i an;have xo:=V9 ch dB gu iF [] (D cap) i ⟨xn,⟨by simp,λx J=>by cases J⟩,aA,an,λl ae=>by cases ae⟩
  have zd:=V9 bR cz er eC ls (D cap) i ⟨zc,nA,aA,an,λl ae _=>eY l ae⟩
  have ze:mI cap base ls left i=if j5=true then mG ((bR,cz),(er,eC)) ls (D cap) i else mG ((ch,dB),(gu,iF)) [] (D cap) i:=by
   unfold mI;rw[gc,qR,gl]
  rw[bN] at xo;have oq:A.take (i+1)=A.take i++[mI cap base ls left i]:=by rw[hn,vM];rfl
  have Dg:(A.take (i+1)).all (·.2)=(mI cap base ls left i).2:=by rw[oq,Dh,cX];simp
  have zf:(A.take (i+1)).map (·.1)=(A.take i).map (·.1)++[(mI cap base ls left i).1]:=by rw[oq,pT];rfl
  have b7:((A.take i).map (·.1)).length=i:=by rw[ah,gj];omega
  have cY:=λ(bF:b9) cs iJ=>lq m6 (λ_=>rfl) 403051 g 88 ((A.take i).map (·.1)) bF (cs:=cs) iJ (by omega) (by omega);simp only[b7] at cY;have jW:(mI cap base ls left i).2=false->A.all (·.2)=false:=λh=>Wb vM h;clear e9 uB;rcases j5
  ·simp only[cC,if_false] at ze;rw[<-ze] at xo;generalize mI cap base ls left i=da at *;obtain⟨⟨vN,⟨v1,v2⟩,⟨ff,v4⟩⟩,ok⟩:=da;simp only[cE,ar] at xo;rcases ok
   ·rw[jW rfl];simp only[cC,if_false];refine af ?_;repeat' (intro (ag:_=_)<;>simp only[ag,go_sem,go_sem_proc,p5,p6,bm,c3,dn,Gx,sB,bK,bY,k8,Df,d1,bJ,dg,eI,dr,hT,g4,an,dL,xo,ar,ah,bd]<;>try refine ab ?_ ?_)
    exact⟨_,rfl,rfl,by repeat first|exact dq|refine dO.dZ ?_ (by decide)⟩
   ·have jh:=cY (vN,((v1,v2),(ff,v4))) _ rfl;simp only[cE,ar,gZ,bN] at jh;rw[<-zf] at jh;refine af ?_;repeat' (intro (ag:_=_)<;>simp only[ag,go_sem,go_sem_proc,p5,p6,bm,c3,dn,Gx,sB,bK,bY,k8,Df,d1,bJ,dg,eI,dr,hT,g4,an,dL,xo,jh,ar,ah,bd]<;>try refine ab ?_ ?_)
    exact⟨(i+1,g+1),by dsimp only;omega,by dsimp only;omega,Dg,rfl,rfl,rfl,by repeat first|exact dq|refine dO.dZ ?_ (by decide)⟩
  ·simp only[if_true] at ze;rw[<-ze] at zd;generalize mI cap base ls left i=da at *;obtain⟨⟨vN,⟨v1,v2⟩,⟨ff,v4⟩⟩,ok⟩:=da;simp only[cE,ar] at zd;rcases ok
   ·rw[jW rfl];simp only[cC,if_false];refine af ?_;repeat' (intro (ag:_=_)<;>simp only[ag,go_sem,go_sem_proc,p5,p6,bm,c3,dn,Gx,sB,bK,bY,k8,Df,d1,bJ,dg,eI,dr,hT,g4,an,dL,zd,ar,ah,bd]<;>try refine ab ?_ ?_)
    exact⟨_,rfl,rfl,by repeat first|exact dq|refine dO.dZ ?_ (by decide)⟩
   ·have jh:=cY (vN,((v1,v2),(ff,v4))) _ rfl;simp only[cE,ar,gZ,bN] at jh;rw[<-zf] at jh;refine af ?_;repeat' (intro (ag:_=_)<;>simp only[ag,go_sem,go_sem_proc,p5,p6,bm,c3,dn,Gx,sB,bK,bY,k8,Df,d1,bJ,dg,eI,dr,hT,g4,an,dL,zd,jh,ar,ah,bd]<;>try refine ab ?_ ?_)
    exact⟨(i+1,g+1),by dsimp only;omega,by dsimp only;omega,Dg,rfl,rfl,rfl,by repeat first|exact dq|refine dO.dZ ?_ (by decide)⟩
 ·have d1:decide ((i:Int)<(D cap:Int))=false:=de;have hy:i=D cap:=by omega
  subst hy;have k5:A.take (D cap)=A:=dE (by omega);rw[k5] at cX Df;rw[cX];simp only[if_true]
  have ej:=adm (A.map (·.1)) (D cap) ⟨by rw[ah];omega,λr L=>by
   obtain⟨x,J,rfl⟩:=h7.1 L;exact p4 x J⟩
  have nc:=λ(K:a6->Prop) (st:a6)=>sl (K:=K) (st:=st) m6 7 403051 g (A.map (·.1));rw[ah,jG] at nc;generalize mF (A.map (·.1)) (D cap)=S at *;obtain⟨l6,e⟩:=S;dsimp only at ej ⊢;rcases he:(e==0)
  ·refine af ?_;repeat' (intro (ag:_=_)<;>simp only[ag,go_sem,go_sem_proc,p5,p6,bm,c3,dn,Gx,sB,bK,bY,k8,Df,d1,nc,ej,he,ah]<;>try refine ab ?_ ?_)
   exact⟨_,rfl,rfl,by repeat first|exact dq|refine dO.dZ ?_ (by decide)|refine dO.kill ?_ (by decide)⟩
  ·refine af ?_;repeat' (intro (ag:_=_)<;>simp only[ag,go_sem,go_sem_proc,p5,p6,bm,c3,dn,Gx,sB,bK,bY,k8,Df,d1,nc,ej,he,ah]<;>try refine ab ?_ ?_)
   exact⟨_,rfl,rfl,by repeat first|exact dq|refine dO.dZ ?_ (by decide)|refine dO.kill ?_ (by decide)⟩
def ae0 {rs:List b9}{n:Int}(a4:qK rs):ih (mF rs n).1/\((mF rs n).2=0->(mF rs n).1.length=D rs):=by
 have aA:ih ([]:List av):=⟨by simp,λf aj=>by cases aj⟩
 unfold mF
 split
 ·rename_i L;obtain⟨-,KH,mT⟩:=J7 a4 L;have dx:=adk (stop:=true) mT
  split
  ·exact⟨aA,λh=>by cases h⟩
  ·split
   ·exact⟨aA,λh=>by cases h⟩
   ·refine⟨⟨?_,λf aj=>?_⟩,λ_=>?_⟩
    ·rw[ah,dx.len];omega
    ·obtain⟨x,J,rfl⟩:=h7.1 aj;obtain⟨F,G⟩:=dx.row x J;have aL:x.2.2[D rs]?=some x.2.2[D rs]:=bc (by omega);rw[adl aL];exact G _ (cJ aL)
    ·rw[ah,dx.len]
 ·exact⟨aA,λh=>by cases h⟩
def KI (x:List av)(to:Int):∀(ls:List cl) (s:av×Bool),okF s.1->okF (s8 x to ls s).1
 | [],s,h=>h
 |l::r,s,h=>by
  unfold s8
  split
  ·exact KI x to r _ (aeP x l s)
  ·exact KI x to r s h
def Py {cap base:List av}{ls:List cl}{left:List Bool}(U:∀f∈cap,okF f)(R:∀f∈base,okF f)(ae:(D base)=D cap)(aA:(D cap)<=40):ih (tb cap base ls left).1/\((tb cap base ls left).2=true->(tb cap base ls left).1.length=D cap):=by
 unfold tb
 split
 ·have e9:qK ((allEq cap base ls left).map (·.1)):=by
   unfold allEq;refine⟨by rw[ah,ah,tE];omega,λr L=>?_⟩
   rw[List.map_map] at L;obtain⟨i,Z,rfl⟩:=h7.1 L;rw[BM] at Z;have aO:okF (cap.getD i bA):=by rw[dG,bc Z];exact U _ (ha Z)
   have ax:okF (base.getD i bA):=by rw[dG,bc (by omega)];exact R _ (ha (by omega))
   simp only[Function.comp];unfold mI
   split
   ·exact zb ax aA
   ·exact zb aO aA
  obtain⟨F,G⟩:=ae0 (n:=(D cap:Int)) e9;refine⟨F,λh=>?_⟩;rw[G (by simpa using h),ah];unfold allEq;rw[ah,tE]
 ·exact⟨⟨by simp,λf aj=>by cases aj⟩,λh=>by cases h⟩
def oB (cap base:List av)(ls:List cl)(left:List Bool)(x:List av):Nat->Nat->List Nat->Option (List Nat)
 |0,_,acc=>some acc
 |k+1,i,acc=>if left.getD i false=true then oB cap base ls left x k (i+1) acc else
  if (lI (base.getD i bA) ls x i).2=true then (if decide (lC (lI (base.getD i bA) ls x i).1 (cap.getD i bA)<0)=true then oB cap base ls left x k (i+1) (acc++[i]) else oB cap base ls left x k (i+1) acc) else none
def lJ (left:List Bool)(lv:List Nat):List Bool:=lv.foldl (λl i=>l.set i true) left
def Pz (lv:List Nat):∀left:List Bool,(lJ left lv).length=D left:=by
 induction lv with
 |nil=>intro left;rfl
 |cons i lv a2=>intro left;show (lJ (left.set i true) lv).length=_;rw[a2,fj]
def ae1 (left:List Bool)(a b:List Nat):lJ left (a++b)=lJ (lJ left a) b:=List.foldl_append
def arK (lv:List Nat):∀left:List Bool,(lJ left lv).count false<=left.count false:=by
 induction lv with
 |nil=>intro left;exact c8 _
 |cons i lv a2 =>
  intro left;refine iG (a2 (left.set i true)) ?_;rcases gX i (D left) with h|h
  ·rw[ae2 h];have:((true==false)=true)=False:=by simp
   simp only[this,if_false];omega
  ·rw[List.set_eq_of_length_le h];exact c8 _
def Wg {left:List Bool}{i:Nat}{lv:List Nat}(Z:i<D left)(h:left.getD i false=false):(lJ left (i::lv)).count false<left.count false:=by
 have F:=arK lv (left.set i true);have G:left[i]=false:=by rw[dG,bc Z] at h;exact h
 have aa:0<left.count false:=List.count_pos_iff.2 (G ▸ ha Z);rw[ae2 Z,G] at F;have:((true==false)=true)=False:=by simp
 simp only[this,if_false,beq_self_eq_true,if_true] at F;show (lJ (left.set i true) lv).count false<_;omega
def KJ {cap base:List av}{ls:List cl}{left:List Bool}{x:List av}:∀(k i:Nat) (acc lv:List Nat),oB cap base ls left x k i acc=some lv->∀j∈lv,j∈acc\/(i<=j/\j<i+k/\left.getD j false=false)
 |0,i,acc,lv,h,j,Y=>by
  simp only[oB,bM] at h;subst h;exact .inl Y
 |k+1,i,acc,lv,h,j,Y=>by
  unfold oB at h
  split at h
  ·rcases KJ k (i+1) acc lv h j Y with F|⟨F,G,aa⟩
   ·exact .inl F
   ·exact .inr ⟨by omega,by omega,aa⟩
  ·rename_i ae
   split at h
   ·split at h
    ·rcases KJ k (i+1) _ lv h j Y with F|⟨F,G,aa⟩
     ·simp only[List.mem_append,sE] at F;rcases F with F|rfl
      ·exact .inl F
      ·exact .inr ⟨c8 _,by omega,by simpa using ae⟩
     ·exact .inr ⟨by omega,by omega,aa⟩
    ·rcases KJ k (i+1) acc lv h j Y with F|⟨F,G,aa⟩
     ·exact .inl F
     ·exact .inr ⟨by omega,by omega,aa⟩
   ·cases h
def PA {cap base:List av}{ls:List cl}{left:List Bool}{x:List av}:∀(k i:Nat) (acc lv:List Nat),oB cap base ls left x k i acc=some lv->(D lv)<=D acc+k
 |0,i,acc,lv,h=>by
  simp only[oB,bM] at h;subst h;exact c8 _
 |k+1,i,acc,lv,h=>by
  unfold oB at h
  split at h
  ·have:=PA k (i+1) acc lv h;omega
  ·split at h
   ·split at h
    ·have:=PA k (i+1) _ lv h;rw[ks,Wh] at this;omega
    ·have:=PA k (i+1) acc lv h;omega
   ·cases h
def pf (cap base:List av)(ls:List cl):Nat->List Bool->List (List Nat)->List av×List (List Nat)×Int
 |0,_,_=>([],[],6)
 |k+1,left,rounds=>if (tb cap base ls left).2=true then (match oB cap base ls left (tb cap base ls left).1 (D cap) 0 [] with
  |none=>([],[],6)
  |some []=>((tb cap base ls left).1,rounds,0)
  |some (i::lv)=>pf cap base ls k (lJ left (i::lv)) (rounds++[i::lv])) else ([],[],6)
def l7 (cap base:List av)(ls:List cl):List av×List (List Nat)×Int:=if o6 cap base ls=true then pf cap base ls (D cap+1) (cf (D cap) false) [] else ([],[],1)
def p7 (l:List Nat):List Data:=[.ao (l.map nx)]
def PB (l:List Nat):(p7 l).length=1:=rfl
def ae3 (l:List Nat):((p7 l).map H.I).all H.one=true:=rfl
def l8 (s:List av×List (List Nat)×Int):Data:=.dp [.ao (s.1.map ar),.ao (s.2.1.map p7),.int .i64 s.2.2]
def xp {cap base:List av}{ls:List cl}(h:o6 cap base ls=true):(D base)=D cap/\D cap<=40/\D ls<=400/\(∀l∈ls,0<=l.1/\l.1<D cap/\0<=l.2.1/\l.2.1<D cap/\g3 l.2.2=true)/\(∀f∈cap,g3 f=true)/\∀f∈base,g3 f=true:=by
 unfold o6 ow at h;simp only[fe,vA,decide_eq_false_iff_not,beq_iff_eq,sN] at h;obtain⟨F,⟨G,aa,aX,bt⟩,bx,bK⟩:=h;refine⟨by omega,by omega,by omega,λl ae=>?_,λf aj=>by simpa using bx f aj,λf aj=>by simpa using bK f aj⟩
 have:=bt l ae;unfold pV at this;simp only[tz,decide_eq_true_eq,vA,not_or,ae4] at this;obtain⟨dw,dV,hQ,jf,CV⟩:=this;exact⟨by omega,by omega,by omega,by omega,CV⟩
def PC (n:Nat):(cf n [H.I (.bool false)]).flatten=aQ kN (cf n false):=by
 unfold aQ;rw[CL]
 induction n with
 |zero=>rfl
 |succ n a2=>rw[qn,mg,a2,qn,mg,pT];rfl
def PD {l:List Bool}{k:Nat}(h:k<D l)(b:Bool):mZ k (aQ kN l)++[H.I (.bool b)]++nL (k+1) (aQ kN l)=aQ kN (l.set k b):=by
 have:=Nc (enc:=kN) Wa h b;rw[dL] at this;rw[<-this]
 rfl
def ae5 {l:List Nat}{k:Nat}{b:Nat}(h:l[k]?=some b):mZ 1 (nL k (aQ nx l))=[.I (.int .i64 b)]:=by
 have:=EE (enc:=nx) xa h (f:=0) (n:=1) (by decide);unfold cut at this;rw[dL,lo] at this
 split at this
 ·simpa [nx] using this
 ·cases this
def ae6 {l:List Nat}{k:Nat}(h:k<D l):(k+1<=(aQ nx l).length)=True:=eq_true (by rw[jU xa];omega)
def Di:=bG pW λ(cap,base,ls)=>b8 (ox cap base ls) (.same (l8 (l7 cap base ls)))
@[go_sem] def PF (cap base ls):=cj Di rfl CP (cap,base,ls) rfl
def arL (T:bg)(eT:T B3=aE F5)(oC:T SZ=Kw Wf)(gQ:T B1=aE Gu)(gR:T z5=aE FE):WF T acj Di:=by
 refine b5 λ(cap,base,ls)=>cn λU=>⟨rfl,b4 ?_⟩;simp only[acj,pW,bV];unfold l7;rcases L:o6 cap base ls
 ·simp only[cC,if_false];refine af ?_;repeat' (intro (ag:_=_)<;>simp only[ag,go_sem,go_sem_proc,eT,oC,gQ,gR,U,L,l8,bN]<;>try refine ab ?_ ?_)
 ·simp only[if_true];obtain⟨R,aA,-,eY,-,-⟩:=xp L;have j6:=U;obtain⟨⟨ea,ny⟩,⟨mq,nz⟩,nA⟩:=U;have y2:(D cap*1<=140737488355328)=True:=eq_true (by omega);have Dj:(1*D cap<=140737488355328)=True:=eq_true (by omega);have y3:(D cap<=maxLen)=True:=eq_true (by unfold maxLen;omega);have Dk:(D cap<=140737488355328)=True:=eq_true (by omega);have a0:=PC (D cap);generalize KK:pf cap base ls (D cap+1) (cf (D cap) false) []=SS;simp only[go_sem,go_sem_proc,eT,oC,gQ,gR,j6,L,y2,Dj,y3,Dk,a0,ah]
  refine cV [1,5] [394001] (λ((k,left,rounds,g):Nat×List Bool×List (List Nat)×Nat) tm m=>D left=D cap/\left.count false<k/\D rounds+k<=D cap+1/\SS=pf cap base ls k left rounds/\tm 6=.ref 394085 g 1 0 (D rounds)/\m 394022=some (0,aQ kN left)/\m 394085=some (g,aQ p7 rounds)/\dO 394 emp m) (λ(k,_,_,_)=>k) (D cap+1,cf (D cap) false,[],0) (by
   refine⟨hr,by rw[ae7];exact KL _,by simp,KK.symm,rfl,?_,?_,?_⟩
   ·simp[aT]
   ·simp[aT,aQ]
   ·repeat first|exact dO.refl _ _|refine dO.dZ ?_ (by decide)) ?_
  intro vs ms aI aD;simp only[go_sem,go_sem_proc,eT,oC,gQ,gR,ah] at aI aD;subst aI aD;rintro⟨k,left,rounds,g⟩ tm m Q hm ⟨vK,PG,arM,a5,bx,k8,pg,dq⟩;simp only[go_sem,go_sem_proc,eT,oC,gQ,gR,bj] at Q hm;obtain⟨bm,c1⟩:=Q;obtain⟨k,rfl⟩:∃k',k=k'+1:=⟨k-1,by omega⟩
  have ec:=arI ⟨cap,base,ls,left⟩ m ⟨k8,λj Y=>(dq j (by omega)).trans rfl,j6,aA,R,vK,λl ae=>⟨(eY l ae).1,(eY l ae).2.1⟩⟩;simp only[AU,KG] at ec;obtain⟨Gy,Dl⟩:=Py (ls:=ls) (left:=left) ny nz R aA;rw[pf] at a5;generalize tb cap base ls left=c7 at *;obtain⟨Gz,ok⟩:=c7;dsimp only at ec Gy Dl a5;rcases ok
  ·simp only[cC,if_false] at a5;rw[a5];refine af ?_;repeat' (intro (ag:_=_)<;>simp only[ag,go_sem,go_sem_proc,eT,oC,gQ,gR,bm,c1,bx,hm,k8,pg,ec,l8,bN,ah]<;>try refine ab ?_ ?_)
  ·simp only[if_true] at a5;have Wi:=Dl rfl;simp only[go_sem,go_sem_proc,eT,oC,gQ,gR,bm,c1,bx,hm,k8,pg,ec,ah]
   refine cV [1,5,6,7,32,33] [394001,394022,394085] (λ((i,acc,ph):Nat×List Nat×Nat) tm m=>i<=D cap/\D acc<=i/\oB cap base ls left Gz (D cap) 0 []=oB cap base ls left Gz (D cap-i) i acc/\tm 34=.I (.int .i64 i)/\tm 9=.ref 394065 ph 1 0 (D acc)/\m 394065=some (ph,aQ nx acc)/\dO 394 emp m) (λ(i,_,_)=>D cap-i) (0,[],gL (m 394065)) (by
    refine⟨dF _,c8 _,rfl,rfl,rfl,?_,?_⟩
    ·simp[aT,aQ]
    ·repeat first|exact dq|refine dO.dZ ?_ (by decide)) ?_
   intro vs ms aI aD;simp only[go_sem,go_sem_proc,eT,oC,gQ,gR,bm,c1,bx,hm,k8,pg,ah] at aI aD;subst aI aD;clear ec bx hm k8 pg dq bm c1 tm m;rintro⟨i,acc,ph⟩ tm m Q hm ⟨Z,arN,eU,xc,dh,vO,dq⟩;simp only[go_sem,go_sem_proc,eT,oC,gQ,gR,bj] at Q hm;obtain⟨bm,c1,dn,eD,Dm,Dn⟩:=Q;obtain⟨aW,k8,pg⟩:=hm;rcases dt (i<D cap) with an|bB
   ·have d1:decide ((i:Int)<(D cap:Int))=true:=c5;have bJ:=e1 (i:=i) (by omega);obtain⟨⟨⟨ch,dB⟩,⟨gu,iF⟩⟩,dg⟩:∃f,cap[i]?=some f:=⟨_,bc an⟩;obtain⟨⟨⟨bR,cz⟩,⟨er,eC⟩⟩,eI⟩:∃f,base[i]?=some f:=⟨_,bc (by omega)⟩;obtain⟨j5,dr⟩:∃f,left[i]?=some f:=⟨_,bc (by omega)⟩;have xn:=ny _ (cJ dg);have zc:=nz _ (cJ eI);have gc:cap.getD i bA=((ch,dB),(gu,iF)):=by rw[dG,dg];rfl
    have qR:base.getD i bA=((bR,cz),(er,eC)):=by rw[dG,eI];rfl
    have gl:left.getD i false=j5:=by rw[dG,dr];rfl
    have hT:=xm dr;have g4:=uA (l:=left) (k:=i) (by omega);have g1:(D cap)-i=(D cap-(i+1))+1:=by omega
    rw[g1] at eU;replace eU:=eU.trans (oB.eq_2 ..);rw[gl,gc,qR] at eU;rcases j5
    ·simp only[cC,if_false] at eU;have fm:=V8 bR cz er eC ls Gz i ⟨zc,nA,Gy,λl ae _=>⟨(eY l ae).1,by rw[Wi];exact (eY l ae).2.1⟩⟩
     have AV:okF (lI ((bR,cz),(er,eC)) ls Gz i).1:=KI Gz i ls _ zc;generalize lI ((bR,cz),(er,eC)) ls Gz i=Gt at *;obtain⟨⟨⟨f1,f2⟩,⟨f3,f4⟩⟩,KA⟩:=Gt;dsimp only at eU AV;simp only[ar] at fm;rcases KA
     ·simp only[cC,if_false] at eU;rw[eU] at a5;rw[a5];refine af ?_;repeat' (intro (ag:_=_)<;>simp only[ag,go_sem,go_sem_proc,eT,oC,gQ,gR,bm,c1,dn,eD,Dm,Dn,xc,dh,aW,k8,pg,vO,d1,bJ,dg,eI,dr,hT,g4,an,fm,l8,ar,bN,dL,ah,bd]<;>try refine ab ?_ ?_)
     ·simp only[if_true] at eU;rcases eX:decide (lC ((f1,f2),(f3,f4)) ((ch,dB),(gu,iF))<0)
      ·rw[eX] at eU;simp only[cC,if_false] at eU;refine af ?_;repeat' (intro (ag:_=_)<;>simp only[ag,go_sem,go_sem_proc,eT,oC,gQ,gR,bm,c1,dn,eD,Dm,Dn,xc,dh,aW,k8,pg,vO,d1,bJ,dg,eI,dr,hT,g4,an,fm,eX,xn.1,xn.2,AV.1,AV.2,ar,dL,ah,bd]<;>try refine ab ?_ ?_)
       exact⟨(i+1,acc,ph),by dsimp only;omega,by dsimp only;omega,by dsimp only;omega,eU,rfl,rfl,rfl,by repeat first|exact dq|refine dO.dZ ?_ (by decide)⟩
      ·rw[eX] at eU;simp only[if_true] at eU;have cY:=lq xa UX 394065 ph 8 acc i (cs:=[.I (.int .i64 i)]) rfl (by omega) (by omega);have gD:(acc++[i]).length=D acc+1:=by simp
       refine af ?_;repeat' (intro (ag:_=_)<;>simp only[ag,go_sem,go_sem_proc,eT,oC,gQ,gR,bm,c1,dn,eD,Dm,Dn,xc,dh,aW,k8,pg,vO,d1,bJ,dg,eI,dr,hT,g4,an,fm,eX,cY,xn.1,xn.2,AV.1,AV.2,ar,dL,ah,bd]<;>try refine ab ?_ ?_)
       exact⟨(i+1,acc++[i],ph+1),by dsimp only;omega,by dsimp only;omega,by dsimp only;omega,eU,rfl,by rw[gD],rfl,by repeat first|exact dq|refine dO.dZ ?_ (by decide)⟩
    ·simp only[if_true] at eU;refine af ?_;repeat' (intro (ag:_=_)<;>simp only[ag,go_sem,go_sem_proc,eT,oC,gQ,gR,bm,c1,dn,eD,Dm,Dn,xc,dh,aW,k8,pg,vO,d1,bJ,dg,eI,dr,hT,g4,an,ar,dL,ah,bd]<;>try refine ab ?_ ?_)
     exact⟨(i+1,acc,ph),by dsimp only;omega,by dsimp only;omega,by dsimp only;omega,eU,rfl,rfl,rfl,by repeat first|exact dq|refine dO.dZ ?_ (by decide)⟩
   ·have d1:decide ((i:Int)<(D cap:Int))=false:=de;have hy:i=D cap:=by omega
    subst hy;rw[hF] at eU;replace eU:=eU.trans (oB.eq_1 ..);have gJ:=KJ _ _ _ _ eU;rw[eU] at a5
    cases acc with
    |nil =>
     dsimp only at a5;rw[a5];have ez:=jV (n:=4) PB pg;refine af ?_;repeat' (intro (ag:_=_)<;>simp only[ag,go_sem,go_sem_proc,eT,oC,gQ,gR,bm,c1,dn,eD,Dm,Dn,xc,dh,aW,k8,pg,vO,d1,ez,l8,mV,ah,show (((0:Nat):Int)==0)=true from rfl]<;>try refine ab ?_ ?_)
    |cons i0 lv =>
     dsimp only at a5;have bo:((((i0::lv).length:Nat):Int)==0)=false:=by simp;omega
     have wL:i0<D cap/\left.getD i0 false=false:=by
      rcases gJ i0 (by simp) with h|⟨-,F,G⟩
      ·cases h
      ·exact⟨by omega,G⟩
     have Wj:∀j∈i0::lv,j<D cap:=λj Y=>by
      rcases gJ j Y with h|⟨-,F,G⟩
      ·cases h
      ·omega
     have jB:=Wg (left:=left) (i:=i0) (lv:=lv) (by omega) wL.2;generalize Bq:i0::lv=eV at *;simp only[go_sem,go_sem_proc,eT,oC,gQ,gR,bm,c1,dn,eD,Dm,Dn,xc,dh,aW,k8,pg,vO,d1,bo,ah];refine cV [1,5,6,9,72,73] [394001,394065,394085] (λ(j:Nat) tm m=>j<=D eV/\tm 74=.I (.int .i64 j)/\m 394022=some (0,aQ kN (lJ left (eV.take j)))/\dO 394 emp m) (λj=>D eV-j) 0 (by refine⟨dF _,rfl,k8,dq⟩) ?_;intro vs ms aI aD;simp only[go_sem,go_sem_proc,eT,oC,gQ,gR,bm,c1,dn,eD,dh,aW,pg,vO] at aI aD;subst aI aD;clear bm c1 dn eD Dm Dn xc dh aW k8 pg vO dq tm m;rintro j tm m Q hm ⟨Y,ae8,k8,dq⟩;simp only[go_sem,go_sem_proc,eT,oC,gQ,gR,bj] at Q hm;obtain⟨bm,c1,dn,pO,ae9,Dp⟩:=Q;obtain⟨aW,vO,pg⟩:=hm;rcases dt (j<D eV) with hj|CW
     ·have d2:decide ((j:Int)<(D eV:Int))=true:=c5;have hs:=e1 (i:=j) (by omega);obtain⟨x,J⟩:∃f,eV[j]?=some f:=⟨_,bc hj⟩;have vk:=Wj x (cJ J);have Wk:=ae5 J;have KM:=ae6 (l:=eV) (k:=j) hj;have zL:(lJ left (eV.take j)).length=D cap:=by rw[Pz];exact vK
      have g4:=uA (l:=lJ left (eV.take j)) (k:=x) (by omega);have tW:=PD (l:=lJ left (eV.take j)) (k:=x) (by omega) true
      have p2:(lJ left (eV.take j)).set x true=lJ left (eV.take (j+1)):=by
       rw[hn,J,ae1];rfl
      rw[p2] at tW;refine af ?_;repeat' (intro (ag:_=_)<;>simp only[ag,go_sem,go_sem_proc,eT,oC,gQ,gR,bm,c1,dn,pO,ae9,Dp,ae8,aW,k8,vO,pg,d2,hs,Wk,KM,vk,g4,tW,hj,dL]<;>try refine ab ?_ ?_)
      exact⟨j+1,by omega,by omega,rfl,rfl,by repeat first|exact dq|refine dO.dZ ?_ (by decide)⟩
     ·have d2:decide ((j:Int)<(D eV:Int))=false:=de;have Wl:j=D eV:=by omega
      subst Wl;rw[mB] at k8;have nc:=λ(K:a6->Prop) (st:a6)=>sl (K:=K) (st:=st) xa 9 394065 ph eV;have cY:=lq PB ae3 394085 g 24 rounds eV (cs:=[.I (.ao (eV.map nx))]) rfl (by omega) (by omega);have b7:(rounds++[eV]).length=D rounds+1:=by simp
      refine af ?_;repeat' (intro (ag:_=_)<;>simp only[ag,go_sem,go_sem_proc,eT,oC,gQ,gR,bm,c1,dn,pO,ae9,Dp,ae8,aW,k8,vO,pg,d2,nc,cY,ah]<;>try refine ab ?_ ?_)
      exact⟨(k,lJ left eV,rounds++[eV],g+1),by dsimp only;omega,by rw[Pz];exact vK,by dsimp only;omega,by dsimp only;omega,a5,by rw[b7],rfl,rfl,by repeat first|exact dq|refine dO.dZ ?_ (by decide)|refine dO.kill ?_ (by decide)⟩
def pj (cap:List av)(i:Nat)(s:List Bool×Bool):List Bool×Bool:=if (!(s.1.getD i false)&&decide ((cap.getD i bA).1.1>0))=true then (s.1.set i true,true) else s
structure KN where
 i:Nat
 g:Nat
 cap:List av
 base:List av
 ls:List cl
 s:List Bool×Bool
structure Wm (a:KN) (mem:Mem):Prop where
 hd:mem 392005=some (0,[.ref 392021 0 1 0 (D a.cap)])
 aW:mem 392001=some (0,[.I (.ao (a.cap.map ar)),.I (.ao (a.base.map ar)),.I (.ao (a.ls.map fg))])
 gA:mem 392006=some (a.g,[.I (.bool a.s.2)])
 fv:mem 392021=some (0,aQ kN a.s.1)
 len:a.s.1.length=D a.cap
 lt:a.i<D a.cap
def KO (i g:Nat):List H:=[.I (.int .i64 i),.ptr 392005 0 0,.ptr 392001 0 0,.ptr 392006 g 0]
def Dq (a:KN)(mem:Mem):H->Mem->Prop:=λ_ mem'=>mem' 392021=some (0,aQ kN (pj a.cap a.i a.s).1)/\mem' 392006=some (a.g,[.I (.bool (pj a.cap a.i a.s).2)])/\∀k:Nat,k≠392021->k≠392006->mem' k=mem k
def KP:List H->Mem->Option (H->Mem->Prop):=CD (λ(a:KN) args mem=>args=KO a.i a.g/\Wm a mem) Dq
def arO (a:KN)(mem:Mem)(h:Wm a mem):KP (KO a.i a.g) mem=some (Dq a mem):=by
 unfold KP;refine Uw (a:=a) ?_ ⟨rfl,h⟩;rintro a b args mem ⟨F,G⟩ ⟨bm,c3⟩;rw[F] at bm;have aO:=G.aW;have vP:=G.gA;have Od:=G.fv;rw[c3.aW] at aO;rw[c3.gA] at vP;rw[c3.fv] at Od;obtain⟨i,g,c,aBb,l,s,bR⟩:=a;obtain⟨a1,cv,kB,aBc,mR,xW,eF⟩:=b;simp only[KO,bj,H.I.injEq,Data.int.injEq,Data.ao.injEq,Data.bool.injEq,bM,eL,true_and,and_true,H.ptr.injEq] at bm aO vP Od;obtain⟨dz,dI,eo⟩:=aO;have:=map_inj j1 _ _ dz;have:=map_inj j1 _ _ dI;have:=map_inj ux _ _ eo;have:=aeX Od;obtain⟨bm,-⟩:=bm;have:i=a1:=by omega
 simp_all
def arP (T:bg)(a:KN)(mem:Mem)(ba:Wm a mem):wp T Oj.body (ue Oj.res (Dq a mem)) ⟨ke (KO a.i a.g),mem⟩:=by
 obtain⟨hd,aW,gA,fv,ae,an⟩:=ba;obtain⟨i,g,cap,base,ls,fed,more⟩:=a;dsimp only at *;obtain⟨⟨⟨ch,dB⟩,⟨gu,iF⟩⟩,dg⟩:∃f,cap[i]?=some f:=⟨_,bc an⟩;obtain⟨j5,dr⟩:∃f,fed[i]?=some f:=⟨_,bc (by omega)⟩;have gc:cap.getD i bA=((ch,dB),(gu,iF)):=by rw[dG,dg];rfl
 have gl:fed.getD i false=j5:=by rw[dG,dr];rfl
 have hT:=xm dr;have g4:=uA (l:=fed) (k:=i) (by omega);have tW:=PD (l:=fed) (k:=i) (by omega) true;have js:i<D fed:=by omega
 unfold Dq pj KO;dsimp only;rw[gc,gl];refine xX ?_;simp only[Oj];rcases j5
 ·rcases ad:decide (ch>0)
  ·refine af ?_;repeat' (intro h<;>simp only[h,go_sem,go_sem_proc,hd,aW,gA,fv,dg,hT,g4,an,ad,ar,dL,ah,bd]<;>try refine ab ?_ ?_)
   exact⟨_,rfl,λ_ _ _=>trivial⟩
  ·refine af ?_;repeat' (intro h<;>simp only[h,go_sem,go_sem_proc,hd,aW,gA,fv,dg,hT,g4,tW,an,ad,ar,dL,ah,bd]<;>try refine ab ?_ ?_)
   refine⟨_,rfl,λk F G=>?_⟩;rw[aR G,aR F]
 ·refine af ?_;repeat' (intro h<;>simp only[h,go_sem,go_sem_proc,hd,aW,gA,fv,dg,hT,g4,an,ar,dL,ah,bd]<;>try refine ab ?_ ?_)
  exact⟨_,rfl,λ_ _ _=>trivial⟩
def qS (cap base:List av):Nat->Nat->List Bool×Bool->List Bool×Bool
 |0,_,s=>s
 |k+1,i,s=>qS cap base k (i+1) (if decide ((base.getD i bA).1.1>0)=true then pj cap i s else s)
def rJ (cap:List av):List cl->List Bool×Bool->List Bool×Bool
 | [],s=>s
 |l::r,s=>rJ cap r (if (s.1.getD l.1.toNat false&&decide (l.2.2.1.1>0))=true then pj cap l.2.1.toNat s else s)
def tc (cap base:List av)(ls:List cl)(fed:List Bool):List Bool×Bool:=rJ cap ls (qS cap base (D cap) 0 (fed,false))
def xq (cap base:List av)(ls:List cl):Nat->List Bool->List Bool
 |0,fed=>fed
 |k+1,fed=>if (tc cap base ls fed).2=true then xq cap base ls k (tc cap base ls fed).1 else (tc cap base ls fed).1
def PH (cap base:List av)(ls:List cl):List Bool:=xq cap base ls (D cap+1) (cf (D cap) false)
def rK (fed:List Bool):Nat->Nat->List av->List av
 |0,_,c=>c
 |k+1,i,c=>rK fed k (i+1) (if fed.getD i false=true then c else c.set i hh)
def GA (cap base:List av)(ls:List cl):List av:=rK (PH cap base ls) (D cap) 0 cap
def AW (cap base:List av)(ls:List cl):List av×List (List Nat)×Int:=if o6 cap base ls=true then l7 (GA cap base ls) base ls else ([],[],1)
def AX (n c0:Nat)(s:List Bool×Bool):Prop:=s.1.length=n/\s.1.count false<=c0/\(s.2=true->s.1.count false<c0)
def PI {cap:List av}{i n c0:Nat}{s:List Bool×Bool}(h:AX n c0 s)(Z:i<n):AX n c0 (pj cap i s):=by
 obtain⟨F,G,aa⟩:=h;unfold pj
 split
 ·rename_i U;rw[fe] at U;have aj:s.1.getD i false=false:=by simpa using U.1
  have aX:=Wg (left:=s.1) (i:=i) (lv:=[]) (by omega) aj;have bt:lJ s.1 [i]=s.1.set i true:=rfl;rw[bt] at aX;exact⟨by rw[fj];exact F,by dsimp only;omega,λ_=>by dsimp only;omega⟩
 ·exact⟨F,G,aa⟩
def Wn {cap base:List av}{n c0:Nat}:∀(k i:Nat) (s:List Bool×Bool),AX n c0 s->i+k<=n->AX n c0 (qS cap base k i s)
 |0,_,_,h,_=>h
 |k+1,i,s,h,ae=>by
  unfold qS;refine Wn k (i+1) _ ?_ (by omega)
  split
  ·exact PI h (by omega)
  ·exact h
def Wo {cap:List av}{n c0:Nat}:∀(ls:List cl) (s:List Bool×Bool),AX n c0 s->(∀l∈ls,0<=l.2.1/\l.2.1<n)->AX n c0 (rJ cap ls s)
 | [],_,h,_=>h
 |l::r,s,h,ae=>by
  unfold rJ;refine Wo r _ ?_ λx J=>ae x (by simp[J]);have:=ae l (by simp)
  split
  ·exact PI h (by omega)
  ·exact h
def PJ {fed:List Bool}:∀(k i:Nat) (c:List av),(∀f∈c,okF f)->(rK fed k i c).length=D c/\∀f∈rK fed k i c,okF f
 |0,_,c,h=>⟨rfl,h⟩
 |k+1,i,c,h=>by
  unfold rK
  split
  ·exact PJ k (i+1) c h
  ·have:=PJ (fed:=fed) k (i+1) (c.set i hh) λf aj=>by
    rcases nW aj with aj|rfl
    ·exact h f aj
    ·exact xl
   rw[fj] at this;exact this
def PK:=bG pW λ(cap,base,ls)=>b8 (ox cap base ls) (.same (l8 (AW cap base ls)))
@[go_sem] def arQ (cap base ls):=cj PK rfl CP (cap,base,ls) rfl
def arR (T:bg)(eT:T B3=aE F5)(jL:T SX=yV KP)(fL:T EO=aE FY)(e7:T tK=aE CQ)(fR:T yo=aE Di):WF T aci PK:=by
 refine b5 λ(cap,base,ls)=>cn λU=>⟨rfl,b4 ?_⟩;simp only[aci,pW,bV];unfold AW;rcases L:o6 cap base ls
 ·simp only[cC,if_false];refine af ?_;repeat' (intro (ag:_=_)<;>simp only[ag,go_sem,go_sem_proc,eT,jL,fL,e7,fR,U,L,l8,bN]<;>try refine ab ?_ ?_)
 ·simp only[if_true];obtain⟨R,aA,Dr,eY,-,-⟩:=xp L;have j6:=U;obtain⟨⟨ea,ny⟩,⟨mq,nz⟩,nA⟩:=U;have y2:(D cap*1<=140737488355328)=True:=eq_true (by omega);have Dj:(1*D cap<=140737488355328)=True:=eq_true (by omega);have y3:(D cap<=maxLen)=True:=eq_true (by unfold maxLen;omega);have Dk:(D cap<=140737488355328)=True:=eq_true (by omega);have a0:=PC (D cap);unfold GA PH;generalize PL:xq cap base ls (D cap+1) (cf (D cap) false)=bG;simp only[go_sem,go_sem_proc,eT,jL,fL,e7,fR,j6,L,y2,Dj,y3,Dk,a0,ah]
  refine cV [1,5] [392001,392005] (λ((k,fed,more,g):Nat×List Bool×Bool×Nat) tm m=>D fed=D cap/\bG=(if more=true then xq cap base ls k fed else fed)/\(more=true->fed.count false<k)/\tm 6=.ptr 392006 g 0/\m 392006=some (g,[.I (.bool more)])/\m 392021=some (0,aQ kN fed)/\dO 392 emp m) (λ(k,_,_,_)=>k) (D cap+1,cf (D cap) false,true,0) (by
   refine⟨hr,PL.symm,λ_=>by rw[ae7];exact KL _,rfl,?_,?_,?_⟩
   ·simp[aT]
   ·simp[aT]
   ·repeat first|exact dO.refl _ _|refine dO.dZ ?_ (by decide)) ?_
  intro vs ms aI aD;simp only[go_sem,go_sem_proc,eT,jL,fL,e7,fR,ah] at aI aD;subst aI aD;rintro⟨k,fed,more,g⟩ tm m Q hm ⟨jQ,a5,PG,bx,gA,fv,dq⟩;simp only[go_sem,go_sem_proc,eT,jL,fL,e7,fR,bj] at Q hm;obtain⟨bm,c1⟩:=Q;obtain⟨aW,hd⟩:=hm;rcases more
  ·simp only[cC,if_false] at a5;subst a5;have arS:=apl cap ea;have iK:(cap.map ar).flatten.map H.I=aQ ar cap:=rfl;simp only[go_sem,go_sem_proc,eT,jL,fL,e7,fR,bm,c1,bx,aW,hd,gA,fv,arS,iK,jQ,ah];generalize Wp:rK bG (D cap) 0 cap=pk at *;have ga:=PJ (fed:=bG) (D cap) 0 cap ny;rw[Wp] at ga
   refine cV [12,73,74] [392012,392021] (λ((i,c):Nat×List av) tm m'=>i<=D cap/\D c=D cap/\pk=rK bG (D cap-i) i c/\tm 75=.I (.int .i64 i)/\m' 392067=some (gL (m 392067),aQ ar c)/\dO 392 emp m') (λ(i,_)=>D cap-i) (0,cap) (by
    refine⟨dF _,rfl,Wp.symm,rfl,?_,?_⟩
    ·simp[aT]
    ·repeat first|exact dq|refine dO.dZ ?_ (by decide)) ?_
   generalize gL (m 392067)=bf;intro vs ms aI aD;simp only[go_sem,go_sem_proc,eT,jL,fL,e7,fR,bm,c1,bx,aW,hd,gA,fv,jQ] at aI aD;subst aI aD;generalize gL (m 392012)=G2;clear bx aW hd gA fv dq bm c1 tm m;rintro⟨i,c⟩ tm m Q hm ⟨Z,Br,eU,PM,KQ,dq⟩;simp only[go_sem,go_sem_proc,eT,jL,fL,e7,fR,bj] at Q hm;obtain⟨lx,Dp,PN⟩:=Q;obtain⟨KR,fv⟩:=hm;rcases dt (i<D cap) with an|bB
   ·have d1:decide ((i:Int)<(D cap:Int))=true:=c5;have bJ:=e1 (i:=i) (by omega);obtain⟨j5,dr⟩:∃f,bG[i]?=some f:=⟨_,bc (by omega)⟩;have gl:bG.getD i false=j5:=by rw[dG,dr];rfl
    have hT:=xm dr;have g4:=uA (l:=bG) (k:=i) (by omega);have g1:(D cap)-i=(D cap-(i+1))+1:=by omega
    rw[g1] at eU;replace eU:=eU.trans (rK.eq_2 ..);rw[gl] at eU;have qo:=F6 0 (by unfold dX;omega);rw[show ed ((0:Int):Rat)=hh from rfl] at qo;generalize hh=nb at *;obtain⟨⟨iP,je⟩,⟨kL,kM⟩⟩:=nb;simp only[ar] at qo;have dB:=ui (l:=c) (k:=i) (by omega);have gu:=yY (l:=c) (k:=i) (by omega) iP je kL kM;have aBd:i<D bG:=by omega
    rcases j5
    ·simp only[cC,if_false] at eU;refine af ?_;repeat' (intro (ag:_=_)<;>simp only[ag,go_sem,go_sem_proc,eT,jL,fL,e7,fR,lx,Dp,PN,PM,KR,fv,KQ,d1,bJ,hT,g4,an,qo,dB,gu,dL,ah]<;>try refine ab ?_ ?_)
     exact⟨(i+1,c.set i ((iP,je),(kL,kM))),by dsimp only;omega,by dsimp only;omega,by rw[fj];exact Br,eU,rfl,rfl,by repeat first|exact dq|refine dO.dZ ?_ (by decide)⟩
    ·simp only[if_true] at eU;refine af ?_;repeat' (intro (ag:_=_)<;>simp only[ag,go_sem,go_sem_proc,eT,jL,fL,e7,fR,lx,Dp,PN,PM,KR,fv,KQ,d1,bJ,hT,g4,an,dL,ah]<;>try refine ab ?_ ?_)
     exact⟨(i+1,c),by dsimp only;omega,by dsimp only;omega,Br,eU,rfl,rfl,dq⟩
   ·have d1:decide ((i:Int)<(D cap:Int))=false:=de;have hy:i=D cap:=by omega
    subst hy;rw[hF] at eU;replace eU:=eU.trans (rK.eq_1 ..);subst eU;have ej:=PF pk base ls ⟨⟨by omega,ga.2⟩,⟨mq,nz⟩,nA⟩
    have ez:=jV (n:=0) jt KQ;rw[Br] at ez;generalize l7 pk base ls=S at *;obtain⟨l6,Ds,KS⟩:=S;simp only[l8] at ej;simp only[go_sem,go_sem_proc,eT,jL,fL,e7,fR,lx,Dp,PN,PM,KR,fv,KQ,d1];refine arf (kc:=392012) (gc:=G2) (off:=0) (cc:=[.ref 392067 bf 4 0 (D cap),.I (.ao (base.map ar)),.I (.ao (ls.map fg))]) (k:=392067) (g:=bf) (sz:=4) (o:=0) (len:=D cap) (cs:=aQ ar pk) (d:=.ao (pk.map ar)) ?_ ?_ rfl KQ (Sh _ _) (by decide) ez ?_
    ·simp only[aK,q3,sW,if_false];exact lx
    ·exact KR
    refine af ?_;repeat' (intro (ag:_=_)<;>simp only[ag,go_sem,go_sem_proc,eT,jL,fL,e7,fR,lx,Dp,PN,PM,KR,ej,l8,List.set_cons_zero]<;>try refine ab ?_ ?_)
  ·simp only[if_true] at a5;have zN:0<k:=by have:=PG rfl;omega
   obtain⟨k,rfl⟩:∃k',k=k'+1:=⟨k-1,by omega⟩
   have a5:=a5.trans (xq.eq_2 ..);have arT:AX (D cap) (fed.count false) (tc cap base ls fed):=Wo ls _ (Wn (D cap) 0 (fed,false) ⟨jQ,c8 _,λh=>by cases h⟩ (by omega)) λl ae=>⟨(eY l ae).2.2.1,(eY l ae).2.2.2.1⟩;have afa:tc cap base ls fed=rJ cap ls (qS cap base (D cap) 0 (fed,false)):=rfl;generalize aBe:tc cap base ls fed=PE at *
   have e5:∀(i:Nat) (s:List Bool×Bool) (mem:Mem),i<(D cap)->s.1.length=(D cap)->mem 392005=some (0,[.ref 392021 0 1 0 (D cap)])->mem 392001=m 392001->mem 392006=some (g,[.I (.bool s.2)])->mem 392021=some (0,aQ kN s.1)->KP [.I (.int .i64 i),.ptr 392005 0 0,.ptr 392001 0 0,.ptr 392006 g 0] mem=some (Dq ⟨i,g,cap,base,ls,s⟩ mem):=λi s mem aO ax eS iA mD vP =>
    arO ⟨i,g,cap,base,ls,s⟩ mem ⟨eS,iA.trans aW,mD,vP,ax,aO⟩
   simp only[go_sem,go_sem_proc,eT,jL,fL,e7,fR,bm,c1,bx,aW,hd,gA,fv,ah]
   refine cV [1,5,6,7,25,26] [392001,392005] (λ((i,s):Nat×List Bool×Bool) tm m=>i<=D cap/\s.1.length=D cap/\qS cap base (D cap) 0 (fed,false)=qS cap base (D cap-i) i s/\tm 27=.I (.int .i64 i)/\m 392006=some (g,[.I (.bool s.2)])/\m 392021=some (0,aQ kN s.1)/\dO 392 emp m) (λ(i,_)=>D cap-i) (0,fed,false) (by
    refine⟨dF _,jQ,rfl,rfl,?_,fv,?_⟩
    ·simp[aT]
    ·repeat first|exact dq|refine dO.dZ ?_ (by decide)) ?_
   intro vs ms aI aD;simp only[go_sem,go_sem_proc,eT,jL,fL,e7,fR,bm,c1,bx,aW,hd,R,ah] at aI aD;subst aI aD;rw[aW] at e5;clear gA fv dq bm c1 bx aW hd tm m;rintro⟨i,s⟩ tm m Q hm ⟨Z,p2,rL,nn,gA,fv,dq⟩;simp only[go_sem,go_sem_proc,eT,jL,fL,e7,fR,bj] at Q hm;obtain⟨bm,c1,dn,eD,pn,mH⟩:=Q;obtain⟨aW,hd⟩:=hm;rcases dt (i<D cap) with an|bB
   ·have d1:decide ((i:Int)<(D cap:Int))=true:=c5;have bJ:=e1 (i:=i) (by omega);obtain⟨⟨⟨bR,cz⟩,⟨er,eC⟩⟩,eI⟩:∃f,base[i]?=some f:=⟨_,bc (by omega)⟩;have qR:base.getD i bA=((bR,cz),(er,eC)):=by rw[dG,eI];rfl
    have g1:(D cap)-i=(D cap-(i+1))+1:=by omega
    rw[g1] at rL;replace rL:=rL.trans (qS.eq_2 ..);rw[qR] at rL;rcases ad:decide (bR>0)
    ·rw[ad] at rL;simp only[cC,if_false] at rL;refine af ?_;repeat' (intro (ag:_=_)<;>simp only[ag,go_sem,go_sem_proc,eT,jL,fL,e7,fR,bm,c1,dn,eD,pn,mH,nn,aW,hd,gA,fv,d1,bJ,eI,ad,ar,ah,bd]<;>try refine ab ?_ ?_)
     exact⟨(i+1,s),by dsimp only;omega,by dsimp only;omega,p2,rL,rfl,rfl,rfl,by repeat first|exact dq|refine dO.dZ ?_ (by decide)⟩
    ·rw[ad] at rL;simp only[if_true] at rL;have Wq:=λmem=>e5 i s mem an p2;have ve:(pj cap i s).1.length=D cap:=(PI (n:=D cap) (c0:=s.1.count false+1) ⟨p2,by omega,λ_=>by omega⟩ an).1;simp only[go_sem,go_sem_proc,eT,jL,fL,e7,fR,bm,c1,dn,eD,pn,mH,nn,aW,hd,gA,fv,d1,bJ,eI,ad,ar,ah,bd];rw[Wq _ (by simp[aT,hd]) (by simp[aT,aW]) (by simp[aT,gA]) (by simp[aT,fv])];simp only[go_sem,go_sem_proc,eT,jL,fL,e7,fR];intro xb m' ec;unfold Dq at ec;dsimp only at ec;obtain⟨Wr,Gv,rI⟩:=ec;have gI:=rI 392001 (by decide) (by decide);have KT:=rI 392005 (by decide) (by decide)
     have Ws:dO 392 emp m':=λj Y=>by
      rw[rI j (λh=>Y (by rw[h])) (λh=>Y (by rw[h]))];have:dO 392 emp (aT (aT m 392009 (gL (m 392009)) [.I (.int .i64 0),.nil,.I (.int .i64 0),.nil]) 392009 (gL (m 392009)) [.I (.int .i64 bR),.I (.ao (cz.map aG)),.I (.int .i64 er),.I (.ao (eC.map aG))]):=by repeat first|exact dq|refine dO.dZ ?_ (by decide)
      exact this j Y
     simp only[go_sem,go_sem_proc,eT,jL,fL,e7,fR,aW,hd] at gI KT;generalize pj cap i s=Ds at *;refine af ?_;repeat' (intro (ag:_=_)<;>simp only[ag,go_sem,go_sem_proc,eT,jL,fL,e7,fR,bm,c1,dn,eD,pn,mH,nn,gI,KT,Gv,Wr,bJ]<;>try refine ab ?_ ?_)
     exact⟨(i+1,Ds),by dsimp only;omega,by dsimp only;omega,ve,rL,rfl,rfl,rfl,Ws⟩
   ·have d1:decide ((i:Int)<(D cap:Int))=false:=de;have hy:i=D cap:=by omega
    subst hy;rw[hF] at rL;replace rL:=rL.trans (qS.eq_1 ..);rw[rL] at afa;simp only[go_sem,go_sem_proc,eT,jL,fL,e7,fR,bm,c1,dn,eD,pn,mH,nn,aW,hd,gA,fv,d1,ah];refine cV [1,5,6,7,41,42] [392001,392005] (λ((j,s):Nat×List Bool×Bool) tm m=>j<=D ls/\s.1.length=D cap/\PE=rJ cap (ls.drop j) s/\tm 43=.I (.int .i64 j)/\m 392006=some (g,[.I (.bool s.2)])/\m 392021=some (0,aQ kN s.1)/\dO 392 emp m) (λ(j,_)=>D ls-j) (0,s) (by refine⟨dF _,p2,afa,rfl,gA,fv,dq⟩) ?_;intro vs ms aI aD;simp only[go_sem,go_sem_proc,eT,jL,fL,e7,fR,bm,c1,dn,eD,aW,hd,ah] at aI aD;subst aI aD;clear gA fv dq bm c1 dn eD pn mH nn aW hd tm m;rintro⟨j,s2⟩ tm m Q hm ⟨Y,hN,ix,zg,gA,fv,dq⟩;simp only[go_sem,go_sem_proc,eT,jL,fL,e7,fR,bj] at Q hm;obtain⟨bm,c1,dn,eD,KU,zh⟩:=Q;obtain⟨aW,hd⟩:=hm;rcases dt (j<D ls) with hj|CW
    ·have d2:decide ((j:Int)<(D ls:Int))=true:=c5;have hs:=e1 (i:=j) (by omega);obtain⟨⟨a,c,⟨w1,gE⟩,⟨Wt,Wu⟩⟩,dr⟩:∃l,ls[j]?=some l:=⟨_,bc hj⟩;obtain⟨s9,gD,nM,arU,-⟩:=eY _ (cJ dr);dsimp only at s9 gD nM arU;obtain⟨a,rfl⟩:=vI s9;obtain⟨c,rfl⟩:=vI nM;have KV:a<D cap:=by omega
     have o4:c<D cap:=by omega
     have k3:ls.drop j=((a:Int),(c:Int),((w1,gE),(Wt,Wu)))::ls.drop (j+1):=by
      obtain⟨ae,e⟩:=dK.1 dr;rw[gw ae,e]
     rw[k3] at ix;simp only[rJ,lX] at ix;obtain⟨j5,afb⟩:∃f,s2.1[a]?=some f:=⟨_,bc (by omega)⟩;have gl:s2.1.getD a false=j5:=by rw[dG,afb];rfl
     have hT:=xm afb;have g4:=uA (l:=s2.1) (k:=a) (by omega);rw[gl] at ix;rcases j5
     ·simp only[eN,cC,if_false] at ix;refine af ?_;repeat' (intro (ag:_=_)<;>simp only[ag,go_sem,go_sem_proc,eT,jL,fL,e7,fR,bm,c1,dn,eD,KU,zh,zg,aW,hd,gA,fv,d2,hs,dr,hT,g4,KV,fg,ar,dL,ah,bd]<;>try refine ab ?_ ?_)
      exact⟨(j+1,s2),by dsimp only;omega,by dsimp only;omega,hN,ix,rfl,rfl,rfl,by repeat first|exact dq|refine dO.dZ ?_ (by decide)⟩
     ·rcases ad:decide (w1>0)
      ·rw[ad] at ix;simp only[iZ,cC,if_false] at ix;refine af ?_;repeat' (intro (ag:_=_)<;>simp only[ag,go_sem,go_sem_proc,eT,jL,fL,e7,fR,bm,c1,dn,eD,KU,zh,zg,aW,hd,gA,fv,d2,hs,dr,hT,g4,KV,ad,fg,ar,dL,ah,bd]<;>try refine ab ?_ ?_)
       exact⟨(j+1,s2),by dsimp only;omega,by dsimp only;omega,hN,ix,rfl,rfl,rfl,by repeat first|exact dq|refine dO.dZ ?_ (by decide)⟩
      ·rw[ad] at ix;simp only[KC,if_true] at ix;have Wq:=λmem=>e5 c s2 mem o4 hN;have ve:(pj cap c s2).1.length=D cap:=(PI (n:=D cap) (c0:=s2.1.count false+1) ⟨hN,by omega,λ_=>by omega⟩ o4).1;simp only[go_sem,go_sem_proc,eT,jL,fL,e7,fR,bm,c1,dn,eD,KU,zh,zg,aW,hd,gA,fv,d2,hs,dr,hT,g4,KV,ad,fg,ar,dL,ah,bd];rw[Wq _ (by simp[aT,hd]) (by simp[aT,aW]) (by simp[aT,gA]) (by simp[aT,fv])];simp only[go_sem,go_sem_proc,eT,jL,fL,e7,fR];intro xb m' ec;unfold Dq at ec;dsimp only at ec;obtain⟨Wr,Gv,rI⟩:=ec;have gI:=rI 392001 (by decide) (by decide);have KT:=rI 392005 (by decide) (by decide)
       have Ws:dO 392 emp m':=λq aS=>by
        rw[rI q (λh=>aS (by rw[h])) (λh=>aS (by rw[h]))]
        revert q aS
        show dO 392 emp _
        repeat first|exact dq|refine dO.dZ ?_ (by decide)
       simp only[go_sem,go_sem_proc,eT,jL,fL,e7,fR,aW,hd] at gI KT;generalize pj cap c s2=Ds at *;refine af ?_;repeat' (intro (ag:_=_)<;>simp only[ag,go_sem,go_sem_proc,eT,jL,fL,e7,fR,bm,c1,dn,eD,KU,zh,zg,gI,KT,Gv,Wr,hs]<;>try refine ab ?_ ?_)
       exact⟨(j+1,Ds),by dsimp only;omega,by dsimp only;omega,ve,ix,rfl,rfl,rfl,Ws⟩
    ·have d2:decide ((j:Int)<(D ls:Int))=false:=de;have kH:ls.drop j=[]:=lj (by omega);rw[kH] at ix;simp only[rJ] at ix;subst ix;obtain⟨f2,arV⟩:=PE;obtain⟨kX,ni,rB⟩:=arT;dsimp only at kX ni rB a5 gA fv;refine af ?_;repeat' (intro (ag:_=_)<;>simp only[ag,go_sem,go_sem_proc,eT,jL,fL,e7,fR,bm,c1,dn,eD,KU,zh,zg,aW,hd,gA,fv,d2]<;>try refine ab ?_ ?_)
     exact⟨(k,f2,arV,g+1),by dsimp only;omega,kX,a5,λh=>by have:=rB h;have:=PG rfl;dsimp only;omega,rfl,rfl,rfl,by repeat first|exact dq|refine dO.dZ ?_ (by decide)⟩
def GB {ls:List cl}{n:Int}(h:ow ls n=true):0<=n/\n<=40/\D ls<=400/\∀l∈ls,0<=l.1/\l.1<n/\0<=l.2.1/\l.2.1<n/\g3 l.2.2=true:=by
 unfold ow at h;simp only[fe,vA,decide_eq_false_iff_not,sN] at h;obtain⟨G,aa,aX,bt⟩:=h;refine⟨by omega,by omega,by omega,λl ae=>?_⟩
 have:=bt l ae;unfold pV at this;simp only[tz,decide_eq_true_eq,vA,not_or,ae4] at this;obtain⟨a,b,c,d,e⟩:=this;exact⟨by omega,by omega,by omega,by omega,e⟩
def xr (ls:List cl)(x:List av):Nat->Nat->Bool
 |0,_=>true
 |k+1,i=>if ((lI hh ls x i).2 && !decide (lC (x.getD i bA) (lI hh ls x i).1<=0))=true then xr ls x k (i+1) else false
def GC (ls:List cl)(n:Int)(x:List av):Bool:=ow ls n&&(((D x:Int)==n)&&(!(x.any λf => !g3 f||(f.1.1==0))&&xr ls x (D x) 0))
def PO {base:av}{ls:List cl}{x:List av}{to:Int}(h:okF base):okF (lI base ls x to).1:=KI x to ls (base,true) h
abbrev GD:(List cl)×Int×(List av)->List Data:=λ(ls,n,x)=>[.ao (ls.map fg),.int .i64 n,.ao (x.map ar)]
def KW:=bG GD λ(ls,n,x)=>b8 (qQ ls/\ih x) (.same (.bool (GC ls n x)))
def afc:∀a b,GD a=GD b->a=b:=by
  rintro⟨y4,rb,dz⟩ ⟨y5,re,dI⟩ h;simp only[bj,Data.ao.injEq,Data.int.injEq] at h;exact cx (map_inj ux _ _ h.1) (cx h.2.1.2 (map_inj j1 _ _ h.2.2.1))
@[go_sem] def afd (ls n x):=cj KW rfl afc (ls,n,x) rfl
def arW (T:bg)(k6:T B4=aE F4)(gP:T tH=aE sO)(e7:T tK=aE CQ)(gQ:T B1=aE Gu)(gR:T z5=aE FE):WF T ace KW:=by
 refine b5 λ(ls,n,x)=>cn λU=>⟨rfl,b4 ?_⟩;simp only[ace,GD,bV];obtain⟨xt,J⟩:=U;unfold GC;rcases aO:ow ls n
 ·refine af ?_;repeat' (intro h<;>simp only[h,go_sem,go_sem_proc,k6,gP,e7,gQ,gR,xt,aO,ah,cL,rW,o1,scalar]<;>try refine ab ?_ ?_)
 ·rcases ax:((D x:Int)==n)
  ·refine af ?_;repeat' (intro h<;>simp only[h,go_sem,go_sem_proc,k6,gP,e7,gQ,gR,xt,aO,ax,ah,cL,rW,o1,scalar]<;>try refine ab ?_ ?_)
  ·rcases eS:x.any λf => !g3 f||(f.1.1==0)
   ·obtain⟨aq,KH,Dr,eY⟩:=GB aO;have vk:(D x:Int)=n:=by simpa using ax
    have q5:=J.1;simp only[eZ,db];generalize Dt:xr ls x (D x) 0=GO;have a0:=F6 0 (by unfold dX;omega);rw[show ed ((0:Int):Rat)=hh from rfl] at a0;simp only[go_sem,go_sem_proc,k6,gP,e7,gQ,gR,xt,J,aO,ax,eS,acC,Up,ah];refine cV [0,2,25,26] [] (λ(i:Nat) tm m=>i<=D x/\GO=xr ls x (D x-i) i/\tm 27=.I (.int .i64 i)) (λi=>D x-i) 0 (by refine⟨dF _,Dt.symm,rfl⟩) ?_;intro vs ms aI aD;simp only[go_sem,go_sem_proc,k6,gP,e7,gQ,gR,ah] at aI aD;subst aI aD;rintro i tm m Q hm ⟨Z,a5,nn⟩;simp only[go_sem,go_sem_proc,k6,gP,e7,gQ,gR,bj] at Q;obtain⟨ep,c3,pn,mH⟩:=Q;rcases dt (i<D x) with an|bB
    ·have d1:decide ((i:Int)<(D x:Int))=true:=c5;have bJ:=e1 (i:=i) (by omega);obtain⟨⟨⟨dz,dI⟩,⟨eo,eA⟩⟩,fF⟩:∃f,x[i]?=some f:=⟨_,bc an⟩;have fx:x.getD i bA=((dz,dI),(eo,eA)):=by rw[dG,fF];rfl
     have hq:=J.2 _ (cJ fF);have g1:(D x)-i=(D x-(i+1))+1:=by omega
     rw[g1] at a5;replace a5:=a5.trans (xr.eq_2 ..);rw[fx] at a5;have KX:=xl;have rE:=PO (ls:=ls) (x:=x) (to:=i) KX;generalize hh=nb at *;obtain⟨⟨iP,je⟩,⟨kL,kM⟩⟩:=nb;have bB:=V8 iP je kL kM ls x i ⟨KX,xt,J,λl ae _=>by have:=eY l ae;omega⟩
     generalize lI ((iP,je),(kL,kM)) ls x i=S at *;obtain⟨⟨⟨s1,s2⟩,⟨bS,bU⟩⟩,b⟩:=S;dsimp only at a5 bB rE;simp only[ar] at a0 bB;obtain⟨ft,hN⟩:=rE;obtain⟨ey,eR⟩:=hq;dsimp only at ft hN ey eR;rcases b
     ·simp only[eN,cC,if_false] at a5;rw[a5];refine af ?_;repeat' (intro h<;>simp only[h,go_sem,go_sem_proc,k6,gP,e7,gQ,gR,ep,c3,pn,mH,nn,d1,bJ,fF,a0,bB,ar,ah,bd]<;>try refine ab ?_ ?_)
     ·rcases eX:decide (lC ((dz,dI),(eo,eA)) ((s1,s2),(bS,bU))<=0)
      ·rw[eX] at a5;simp only[eZ,db,if_true] at a5;refine af ?_;repeat' (intro h<;>simp only[h,go_sem,go_sem_proc,k6,gP,e7,gQ,gR,ep,c3,pn,mH,nn,d1,bJ,fF,a0,bB,eX,ft,hN,ey,eR,ar,ah,bd]<;>try refine ab ?_ ?_)
       exact⟨i+1,by omega,by omega,a5,rfl⟩
      ·rw[eX] at a5;simp only[eZ,cZ,cC,if_false] at a5;rw[a5];refine af ?_;repeat' (intro h<;>simp only[h,go_sem,go_sem_proc,k6,gP,e7,gQ,gR,ep,c3,pn,mH,nn,d1,bJ,fF,a0,bB,eX,ft,hN,ey,eR,ar,ah,bd]<;>try refine ab ?_ ?_)
    ·have d1:decide ((i:Int)<(D x:Int))=false:=de;have hy:i=D x:=by omega
     subst hy;rw[hF] at a5;replace a5:=a5.trans (xr.eq_1 ..);rw[a5];refine af ?_;repeat' (intro h<;>simp only[h,go_sem,go_sem_proc,k6,gP,e7,gQ,gR,ep,c3,pn,mH,nn,d1,ah]<;>try refine ab ?_ ?_)
   ·refine af ?_;repeat' (intro h<;>simp only[h,go_sem,go_sem_proc,k6,gP,e7,gQ,gR,xt,J,aO,ax,eS,acC,Up,ah]<;>try refine ab ?_ ?_)
def xu (cap base:List av)(ls:List cl)(x:List av):Nat->Nat->Bool
 |0,_=>true
 |k+1,i=>if ((lI (base.getD i bA) ls x i).2&&(lC (if decide (lC (lI (base.getD i bA) ls x i).1 (cap.getD i bA)>0)=true then cap.getD i bA else (lI (base.getD i bA) ls x i).1) (x.getD i bA)==0))=true then xu cap base ls x k (i+1) else false
def KY (cap base:List av)(ls:List cl)(x:List av):Bool:=o6 cap base ls&&(((D x:Int)==(D cap:Int))&&(!(x.any pS)&&xu cap base ls x (D cap) 0))
abbrev GF:(List av)×(List av)×(List cl)×(List av)->List Data:=λ(cap,base,ls,x)=>[.agg [.ao (cap.map ar),.ao (base.map ar),.ao (ls.map fg)],.ao (x.map ar)]
def PQ:=bG GF λ(cap,base,ls,x)=>b8 (ox cap base ls/\ih x) (.same (.bool (KY cap base ls x)))
def afe:∀a b,GF a=GF b->a=b:=by
  rintro⟨adx,ady,y4,dz⟩ ⟨adz,adA,y5,dI⟩ h;simp only[bj,Data.agg.injEq,Data.ao.injEq] at h;exact cx (map_inj j1 _ _ h.1.1) (cx (map_inj j1 _ _ h.1.2.1) (cx (map_inj ux _ _ h.1.2.2.1) (map_inj j1 _ _ h.2.1)))
@[go_sem] def arX (cap base ls x):=cj PQ rfl afe (cap,base,ls,x) rfl
def arY (T:bg)(eT:T B3=aE F5)(gP:T tH=aE sO)(gQ:T B1=aE Gu)(gR:T z5=aE FE):WF T acg PQ:=by
 refine b5 λ(cap,base,ls,x)=>cn λU=>⟨rfl,b4 ?_⟩;simp only[acg,GF,bV];obtain⟨j6,J⟩:=U;unfold KY;rcases aO:o6 cap base ls
 ·refine af ?_;repeat' (intro h<;>simp only[h,go_sem,go_sem_proc,eT,gP,gQ,gR,j6,aO,ah,cL,rW,o1,scalar]<;>try refine ab ?_ ?_)
 ·rcases ax:((D x:Int)==(D cap:Int))
  ·refine af ?_;repeat' (intro h<;>simp only[h,go_sem,go_sem_proc,eT,gP,gQ,gR,j6,aO,ax,ah,cL,rW,o1,scalar]<;>try refine ab ?_ ?_)
  ·rcases eS:x.any pS
   ·obtain⟨R,aA,Dr,eY,-,-⟩:=xp aO;have Wv:=j6;obtain⟨⟨ea,ny⟩,⟨mq,nz⟩,nA⟩:=Wv
    have vk:(D x)=D cap:=by
                        have:(D x:Int)=D cap:=by simpa using ax
                        omega
    have q5:=J.1;simp only[eZ,db];generalize Dt:xu cap base ls x (D cap) 0=GO;simp only[go_sem,go_sem_proc,eT,gP,gQ,gR,j6,J,aO,ax,eS,acA,Un,ah];refine cV [1,2,25,26] [390002] (λ(i:Nat) tm m=>i<=D cap/\GO=xu cap base ls x (D cap-i) i/\tm 27=.I (.int .i64 i)) (λi=>D cap-i) 0 (by refine⟨dF _,Dt.symm,rfl⟩) ?_;intro vs ms aI aD;simp only[go_sem,go_sem_proc,eT,gP,gQ,gR,ah] at aI aD;subst aI aD;rintro i tm m Q hm ⟨Z,a5,nn⟩;simp only[go_sem,go_sem_proc,eT,gP,gQ,gR,bj] at Q hm;obtain⟨bm,c3,pn,mH⟩:=Q;rcases dt (i<D cap) with an|bB
    ·have d1:decide ((i:Int)<(D cap:Int))=true:=c5;have bJ:=e1 (i:=i) (by omega);obtain⟨⟨⟨dz,dI⟩,⟨eo,eA⟩⟩,fF⟩:∃f,x[i]?=some f:=⟨_,bc (by omega)⟩;obtain⟨⟨⟨ch,dB⟩,⟨gu,iF⟩⟩,dg⟩:∃f,cap[i]?=some f:=⟨_,bc an⟩;obtain⟨⟨⟨bR,cz⟩,⟨er,eC⟩⟩,eI⟩:∃f,base[i]?=some f:=⟨_,bc (by omega)⟩;have fx:x.getD i bA=((dz,dI),(eo,eA)):=by rw[dG,fF];rfl
     have gc:cap.getD i bA=((ch,dB),(gu,iF)):=by rw[dG,dg];rfl
     have qR:base.getD i bA=((bR,cz),(er,eC)):=by rw[dG,eI];rfl
     have hq:=J.2 _ (cJ fF);have Ww:=ny _ (cJ dg);have KZ:=nz _ (cJ eI);have g1:(D cap)-i=(D cap-(i+1))+1:=by omega
     rw[g1] at a5;replace a5:=a5.trans (xu.eq_2 ..);rw[fx,gc,qR] at a5;have rE:=PO (ls:=ls) (x:=x) (to:=i) KZ;have bB:=V8 bR cz er eC ls x i ⟨KZ,nA,J,λl ae _=>by have:=eY l ae;omega⟩
     generalize lI ((bR,cz),(er,eC)) ls x i=S at *;obtain⟨⟨⟨s1,s2⟩,⟨bS,bU⟩⟩,b⟩:=S;dsimp only at a5 bB rE;simp only[ar] at bB;obtain⟨ft,hN⟩:=rE;obtain⟨ey,eR⟩:=hq;obtain⟨iw,mO⟩:=Ww;dsimp only at ft hN ey eR iw mO;rcases b
     ·simp only[eN,cC,if_false] at a5;rw[a5];refine af ?_;repeat' (intro h<;>simp only[h,go_sem,go_sem_proc,eT,gP,gQ,gR,bm,c3,pn,mH,nn,hm,d1,bJ,fF,dg,eI,bB,ar,ah,bd]<;>try refine ab ?_ ?_)
     ·rcases eX:decide (lC ((s1,s2),(bS,bU)) ((ch,dB),(gu,iF))>0)
      ·rw[eX] at a5;simp only[eZ,cC,if_false] at a5;rcases aS:(lC ((s1,s2),(bS,bU)) ((dz,dI),(eo,eA))==0)
       ·rw[aS] at a5;simp only[cC,if_false] at a5;rw[a5];refine af ?_;repeat' (intro h<;>simp only[h,go_sem,go_sem_proc,eT,gP,gQ,gR,bm,c3,pn,mH,nn,hm,d1,bJ,fF,dg,eI,bB,eX,aS,ft,hN,ey,eR,iw,mO,ar,ah,bd]<;>try refine ab ?_ ?_)
       ·rw[aS] at a5;simp only[if_true] at a5;refine af ?_;repeat' (intro h<;>simp only[h,go_sem,go_sem_proc,eT,gP,gQ,gR,bm,c3,pn,mH,nn,hm,d1,bJ,fF,dg,eI,bB,eX,aS,ft,hN,ey,eR,iw,mO,ar,ah,bd]<;>try refine ab ?_ ?_)
        exact⟨i+1,by omega,by omega,a5,rfl⟩
      ·rw[eX] at a5;simp only[eZ,if_true] at a5;rcases aS:(lC ((ch,dB),(gu,iF)) ((dz,dI),(eo,eA))==0)
       ·rw[aS] at a5;simp only[cC,if_false] at a5;rw[a5];refine af ?_;repeat' (intro h<;>simp only[h,go_sem,go_sem_proc,eT,gP,gQ,gR,bm,c3,pn,mH,nn,hm,d1,bJ,fF,dg,eI,bB,eX,aS,ft,hN,ey,eR,iw,mO,ar,ah,bd]<;>try refine ab ?_ ?_)
       ·rw[aS] at a5;simp only[if_true] at a5;refine af ?_;repeat' (intro h<;>simp only[h,go_sem,go_sem_proc,eT,gP,gQ,gR,bm,c3,pn,mH,nn,hm,d1,bJ,fF,dg,eI,bB,eX,aS,ft,hN,ey,eR,iw,mO,ar,ah,bd]<;>try refine ab ?_ ?_)
        exact⟨i+1,by omega,by omega,a5,rfl⟩
    ·have d1:decide ((i:Int)<(D cap:Int))=false:=de;have hy:i=D cap:=by omega
     subst hy;rw[hF] at a5;replace a5:=a5.trans (xu.eq_1 ..);rw[a5];refine af ?_;repeat' (intro h<;>simp only[h,go_sem,go_sem_proc,eT,gP,gQ,gR,bm,c3,pn,mH,nn,d1,ah]<;>try refine ab ?_ ?_)
   ·refine af ?_;repeat' (intro h<;>simp only[h,go_sem,go_sem_proc,eT,gP,gQ,gR,j6,J,aO,ax,eS,acA,Un,ah]<;>try refine ab ?_ ?_)
def mJ (ls:List cl)(n:Nat):List (b9×Bool):=(qj n).map (mG kp ls n)
def xv (ls:List cl)(n:Int):List av×List av×Int :=
 if ow ls n=true then
  (if ((l7 (cf n.toNat kp) (cf n.toNat hh) ls).2.2==0)=true then
   (if ((l7 (cf n.toNat kp) (cf n.toNat hh) ls).1.any λx => !(x.1.1==0))=true then ([],(l7 (cf n.toNat kp) (cf n.toNat hh) ls).1,16)
   else if (mJ ls n.toNat).all (·.2)=true then ((mF ((mJ ls n.toNat).map (·.1)) n.toNat).1,[],(mF ((mJ ls n.toNat).map (·.1)) n.toNat).2) else ([],[],6))
  else ([],[],(l7 (cf n.toNat kp) (cf n.toNat hh) ls).2.2))
 else ([],[],1)
def rM (s:List av×List av×Int):Data:=.dp [.ao (s.1.map ar),.ao (s.2.1.map ar),.int .i64 s.2.2]
def aff {cap base:List av}{ls:List cl}(U:∀f∈cap,okF f)(R:∀f∈base,okF f)(ae:(D base)=D cap)(aA:(D cap)<=40):∀(k:Nat) (left:List Bool) (rounds:List (List Nat)),ih (pf cap base ls k left rounds).1
 |0,_,_=>⟨by simp[pf],λf aj=>by cases aj⟩
 |k+1,left,rounds=>by
  have aq:ih ([]:List av):=⟨by simp,λf aj=>by cases aj⟩
  unfold pf
  split
  ·split
   ·exact aq
   ·exact (Py U R ae aA).1
   ·exact aff U R ae aA k _ _
  ·exact aq
def K0 {cap base:List av}{ls:List cl}(h:ox cap base ls):ih (l7 cap base ls).1:=by
 unfold l7
 split
 ·rename_i L;obtain⟨R,aA,-⟩:=xp L;exact aff h.1.2 h.2.1.2 R aA _ _ _
 ·exact⟨by simp,λf aj=>by cases aj⟩
def K1:=bG xd λ(ls,n)=>b8 (qQ ls) (.same (rM (xv ls n)))
@[go_sem] def Wx (ls n):=cj K1 rfl O1 (ls,n) rfl
def arZ (T:bg)(k6:T B4=aE F4)(e7:T tK=aE CQ)(pc:T EM=aE Ka)(fR:T yo=aE Di)(gP:T tH=aE sO)(p5:T IU=aE KD)(p6:T Iz=aE J8):WF T acb K1:=by
 refine b5 λ(ls,n)=>cn λU=>⟨rfl,b4 ?_⟩;simp only[acb,xd,bV];unfold xv;rcases L:ow ls n
 ·simp only[cC,if_false];refine af ?_;repeat' (intro (ag:_=_)<;>simp only[ag,go_sem,go_sem_proc,k6,e7,pc,fR,gP,p5,p6,U,L,rM,bN]<;>try refine ab ?_ ?_)
 ·simp only[if_true];obtain⟨aq,KH,Dr,eY⟩:=GB L;obtain⟨n,rfl⟩:=vI aq;simp only[lX];have aA:n<=40:=by omega
  have a0:=F6 0 (by unfold dX;omega);have F:=F6 1 (by unfold dX;omega);rw[show ed ((0:Int):Rat)=hh from rfl] at a0;rw[show ed ((1:Int):Rat)=kp from rfl] at F;have Dc:=xl;have vL:=Da;have j6:ox (cf n kp) (cf n hh) ls:=⟨⟨by rw[hr];omega,λf aj=>by rw[pM] at aj;rw[aj.2];exact vL⟩,⟨by rw[hr];omega,λf aj=>by rw[pM] at aj;rw[aj.2];exact Dc⟩,U⟩
  have cU:=PF _ _ _ j6;have K2:=K0 j6;generalize l7 (cf n kp) (cf n hh) ls=S at *;obtain⟨l6,Ds,KS⟩:=S;simp only[CL] at cU;dsimp only[l8] at cU K2;dsimp only;have jG:(mJ ls n).length=n:=by unfold mJ;rw[ah,tE]
  have uB:∀i,i<n->(mJ ls n)[i]?=some (mG kp ls n i):=λi Z=>by
   unfold mJ;rw[bd,r3 Z]
   rfl
  have p4:∀x∈mJ ls n,lD x.1:=λx J=>by
   unfold mJ at J;rw[h7] at J;obtain⟨i,Z,rfl⟩:=J;exact zb vL aA
  generalize e9:mJ ls n=A at *;generalize hh=nb at *;generalize kp=au at *;obtain⟨⟨iP,je⟩,⟨kL,kM⟩⟩:=nb;obtain⟨⟨kq,jK⟩,⟨pd,pe⟩⟩:=au;simp only[ar] at a0 F;have q8:=λs l s2 X=>adu s l s2 X n (by omega);rcases Du:(KS==0)
  ·simp only[cC,if_false];refine af ?_;repeat' (intro (ag:_=_)<;>simp only[ag,go_sem,go_sem_proc,k6,e7,pc,fR,gP,p5,p6,U,L,a0,F,q8,cU,Du,rM,bN,hr]<;>try refine ab ?_ ?_)
  ·simp only[if_true];rcases uZ:l6.any λx => !(x.1.1==0)
   ·simp only[cC,if_false];simp only[go_sem,go_sem_proc,k6,e7,pc,fR,gP,p5,p6,U,L,a0,F,q8,cU,Du,K2,uZ,acB,Uo,hr]
    refine cV [0,1,42] [386007] (λ((i,g):Nat×Nat) tm m=>i<=n/\(A.take i).all (·.2)=true/\tm 43=.I (.int .i64 i)/\tm 11=.ref 386059 g 5 0 i/\m 386059=some (g,aQ cE ((A.take i).map (·.1)))/\dO 386 emp m) (λ(i,_)=>n-i) (0,0) (by
     refine⟨dF _,by simp,rfl,?_,?_,?_⟩
     ·simp[gL,aT]
     ·simp[aT,aQ,gL]
     ·repeat first|exact dO.refl _ _|refine dO.dZ ?_ (by decide)) ?_
    intro vs ms aI aD;simp only[go_sem,go_sem_proc,k6,e7,pc,fR,gP,p5,p6,] at aI aD;subst aI aD;rintro⟨i,g⟩ tm m Q hm ⟨Z,cX,zg,dW,PR,dq⟩;simp only[go_sem,go_sem_proc,k6,e7,pc,fR,gP,p5,p6,bj] at Q hm;obtain⟨ep,bm,zh⟩:=Q;rcases dt (i<n) with an|bB
    ·have d1:decide ((i:Int)<(n:Int))=true:=c5;have bJ:=e1 (i:=i) (by omega);have vM:=uB i an;have dN:=V9 kq jK pd pe ls n i ⟨vL,U,aA,an,λl ae _=>by have:=eY l ae;omega⟩
     generalize mG ((kq,jK),(pd,pe)) ls n i=da at *;have oq:A.take (i+1)=A.take i++[da]:=by rw[hn,vM];rfl
     have Dg:(A.take (i+1)).all (·.2)=da.2:=by rw[oq,Dh,cX];simp
     have zf:(A.take (i+1)).map (·.1)=(A.take i).map (·.1)++[da.1]:=by rw[oq,pT];rfl
     have b7:((A.take i).map (·.1)).length=i:=by rw[ah,gj];omega
     have cY:=λ(bF:b9) cs iJ=>lq m6 (λ_=>rfl) 386059 g 88 ((A.take i).map (·.1)) bF (cs:=cs) iJ (by omega) (by omega);simp only[b7] at cY;have jW:da.2=false->A.all (·.2)=false:=λh=>Wb vM h;clear e9 uB;obtain⟨⟨vN,⟨v1,v2⟩,⟨ff,v4⟩⟩,ok⟩:=da;simp only[cE,ar] at dN;rcases ok
     ·rw[jW rfl];simp only[cC,if_false];refine af ?_;repeat' (intro (ag:_=_)<;>simp only[ag,go_sem,go_sem_proc,k6,e7,pc,fR,gP,p5,p6,ep,bm,zh,zg,dW,PR,hm,d1,bJ,F,dN,rM,bN,ar]<;>try refine ab ?_ ?_)
     ·have jh:=cY (vN,((v1,v2),(ff,v4))) _ rfl;simp only[cE,ar,gZ,bN] at jh;rw[<-zf] at jh;refine af ?_;repeat' (intro (ag:_=_)<;>simp only[ag,go_sem,go_sem_proc,k6,e7,pc,fR,gP,p5,p6,ep,bm,zh,zg,dW,PR,hm,d1,bJ,F,dN,jh,ar]<;>try refine ab ?_ ?_)
      exact⟨(i+1,g+1),by dsimp only;omega,by dsimp only;omega,Dg,rfl,rfl,rfl,by repeat first|exact dq|refine dO.dZ ?_ (by decide)⟩
    ·have d1:decide ((i:Int)<(n:Int))=false:=de;have hy:i=n:=by omega
     subst hy;have k5:A.take i=A:=dE (by omega);rw[k5] at cX PR;rw[cX];simp only[if_true]
     have ej:=adm (A.map (·.1)) i ⟨by rw[ah];omega,λr L=>by
      obtain⟨x,J,rfl⟩:=h7.1 L;exact p4 x J⟩
     have nc:=λ(K:a6->Prop) (st:a6)=>sl (K:=K) (st:=st) m6 11 386059 g (A.map (·.1));rw[ah,jG] at nc;generalize mF (A.map (·.1)) i=S at *;obtain⟨l6,e⟩:=S;dsimp only at ej ⊢;refine af ?_;repeat' (intro (ag:_=_)<;>simp only[ag,go_sem,go_sem_proc,k6,e7,pc,fR,gP,p5,p6,ep,bm,zh,zg,dW,PR,hm,d1,nc,ej,rM,bN]<;>try refine ab ?_ ?_)
   ·simp only[if_true];refine af ?_;repeat' (intro (ag:_=_)<;>simp only[ag,go_sem,go_sem_proc,k6,e7,pc,fR,gP,p5,p6,U,L,a0,F,q8,cU,Du,K2,uZ,acB,Uo,rM,bN,hr]<;>try refine ab ?_ ?_)
def afg:bE:=bT 28 1 [.cell 2 2 true] (M [bP 2 144002 c4] (.seq (M [E 6 0,bb 7 .eql 6 0] (bO 7 [az 8 (.build c4 []),aZ 2 2 8])) (M [a8 3 1] (.seq (M [E 9 0,bb 10 .lss 9 0] (fi 10 (.ops [az 3 (.iu (.c (.I (.int .i64 (-1)))))]) .skip)) (M [cF 4] (.seq (.block 0 (.ghost (.mM 4 144022 1) (.loop  (.seq (M [E 11 0,bb 12 .neq 11 0] (dd 12 0)) (.block 1 (M [E 13 0,bb 14 .rem 13 1048576,E 5 14] (.seq (M [E 15 5,bb 16 .lss 15 0] (fi 16 (.ops [E 17 5,az 18 (.un .neg (.t 17)),E 5 18]) .skip)) (M [E 19 4,E 20 5,az 21 (.dM 144021 false [bl 0] 1 1 [(0,1,.t 20)]),az 22 (.app 144022 [bl 0] 8 (.t 19) (.t 21)),E 4 22] (.ops [E 23 0,bb 24 .quo 23 1048576,E 0 24]))))))))) (.seq (.ghost (.freeze 4) (.ops [E 25 3,E 26 4,bI 27 od 25 26,aZ 2 2 27])) .ret)))))))
def afh:bE:=bT 60 1 [.t 2] (M [ck 1 162001 0,bW 2 false] (.seq (M [a8 3 0] (dT 0 (.seq (M [E 5 3,aC 6 1 1,aH 7 1 6,cd 8 7,br 9 .lss 5 8] (dd 9 0)) (.seq (.block 1 (M [aC 12 1 1,aH 13 1 12,E 14 3,bC 15 1 13 14,aH 16 1 15,bb 17 .lss 16 0,E 18 17,fq 19 18 1 1,fz 20 18 1 19,dJ 21 18 3,sw 22 18 1 20 21,fz 23 18 1 22,gM 24 18 .geq 23 1048576,cD 25 18 24] (bO 25 [bW 2 false]))) (.ops [E 10 3,bb 11 .add 10 1,E 3 11]))))) (M [aC 26 1 1,aH 27 1 26,cd 28 27,E 4 28] (.seq (M [aC 29 0 1,aH 30 1 29,az 31 (.bin .lss (.t 30) (.c (.I (.int .i64 (-1))))),E 32 31,fq 33 32 0 1,fz 34 32 1 33,gM 35 32 .gtr 34 1,cD 36 32 35,E 37 36,dJ 38 37 4,gM 39 37 .gtr 38 60,cD 40 37 39,E 41 40,dJ 42 41 4,gM 43 41 .eql 42 0,fq 44 41 0 1,fz 45 41 1 44,gM 46 41 .eql 45 0,fr 47 41 (.beq true (.t 43) (.t 46)),cD 48 41 47] (bO 48 [bW 2 false])) (M [E 49 4,bb 50 .eql 49 0,E 51 50,fq 52 51 1 1,fz 53 51 1 52,dJ 54 51 4,gM 55 51 .sub 54 1,sw 56 51 1 53 55,fz 57 51 1 56,gM 58 51 .neq 57 0,cD 59 51 58,E 2 59] .ret)))))
def afi:bE:=bT 13 1 [.cell 2 2 true] (M [ck 1 163001 0,bP 2 163002 c4] (.seq (M [aB 3 2 1,c6 4 kG 3,dS 5 4] (bO 5 [az 6 (.build c4 []),aZ 2 2 6])) (M [aC 7 0 1,aH 8 1 7,az 9 (.un .neg (.t 8)),aC 10 1 1,aH 11 1 10,bI 12 od 9 11,aZ 2 2 12] .ret)))
def afj:bE:=bT 36 2 [.cell 4 2 true,.t 5] (M [ck 2 164002 0,ck 3 164003 1,bP 4 164004 c4,a8 5 0] (.seq (M [aB 10 2 2,c6 11 kG 10,dS 12 11,E 13 12,hv 14 13 2 3,fr 15 13 (.call kG [.t 14]),ib 16 13 15,cD 17 13 16] (bO 17 [az 18 (.build c4 []),aZ 2 4 18,a8 5 1])) (M [aC 19 1 2,aH 20 1 19,E 6 20] (M [aC 21 1 3,aH 22 1 21,E 7 22] (.seq (dT 0 (.seq (M [E 23 7,cd 24 23,bb 25 .gtr 24 0] (dd 25 0)) (.block 1 (M [E 27 6,E 28 7,bI 29 IK 27 28,E 26 29,aN 30 0 26,aN 31 1 26,E 8 30,E 9 31] (M [E 32 7,E 6 32] (.ops [E 33 9,E 7 33])))))) (M [E 34 6,az 35 (.call od [.c (bl 1),.t 34]),aZ 2 4 35,a8 5 0] .ret))))))
def afk:bE:=bT 65 2 [.cell 4 2 true,.cell 5 2 true,.t 6] (M [ck 2 165002 0,ck 3 165003 1,bP 4 165004 c4,bP 5 165005 c4,a8 6 0] (.seq (M [aB 9 2 2,c6 10 kG 9,dS 11 10,E 12 11,hv 13 12 2 3,fr 14 12 (.call kG [.t 13]),ib 15 12 14,cD 16 12 15] (bO 16 [az 17 (.build c4 []),az 18 (.build c4 []),aZ 2 4 17,aZ 2 5 18,a8 6 1])) (.seq (M [aC 19 0 3,aH 20 1 19,bb 21 .eql 20 0] (bO 21 [az 22 (.build c4 []),az 23 (.build c4 []),aZ 2 4 22,aZ 2 5 23,a8 6 15])) (M [aC 25 1 2,aH 26 1 25,aC 27 1 3,aH 28 1 27,bI 29 IK 26 28,E 24 29,aN 30 0 24,aN 31 1 24,E 7 30,E 8 31] (.seq (M [aC 32 0 2,aH 33 1 32,aC 34 0 3,aH 35 1 34,br 36 .mul 33 35,bb 37 .geq 36 0,E 38 37,dJ 39 38 8,nJ 40 38 39,gM 41 38 .eql 40 0,cD 42 38 41] (fi 42 (e2 [aC 43 0 2,aH 44 1 43,aC 45 0 3,aH 46 1 45,br 47 .mul 44 46,E 48 7,bI 49 od 47 48,aC 50 0 2,aH 51 1 50,E 52 8,bI 53 od 51 52,aZ 2 4 49,aZ 2 5 53,a8 6 0] Ny .ret) .skip)) (e2 [E 54 7,az 55 (.dM 165055 false [bl 0] 1 1 [(0,1,.c (bl 1))]),bI 56 IL 54 55,az 57 (.call od [.c (.I (.int .i64 (-1))),.t 56]),aC 58 0 3,aH 59 1 58,aC 60 1 3,aH 61 1 60,E 62 8,bI 63 z7 61 62,bI 64 od 59 63,aZ 2 4 57,aZ 2 5 64,a8 6 0] Ny .ret))))))
def afl:bE:=bT 15 2 [.cell 4 2 true] (M [bP 4 166004 c4] (M [E 6 1,c6 7 ss 6,E 5 7] (.seq (M [E 8 5,cd 9 8,bb 10 .eql 9 0] (bO 10 [az 11 (.build c4 []),aZ 2 4 11])) (M [E 12 0,E 13 5,az 14 (.build c4 [(0,1,.t 12),(1,1,.t 13)]),aZ 2 4 14] .ret))))
def PS:bE:=bT 60 2 [.t 4,.t 5] (M [cF 4,cF 5] (M [E 12 0,cd 13 12,az 14 (.la 180014 [bl 0] 8 (.t 13) (.t 13)),E 6 14] (M [cF 7] (.seq (M [E 15 0,cd 16 15,bb 17 .sub 16 1,E 8 17] (dT 0 (.seq (M [E 18 8,bb 19 .geq 18 0] (dd 19 0)) (.seq (.block 1 (M [E 22 0,E 23 8,bC 24 1 22 23,aH 25 1 24,az 26 (.dM 180026 true [bl 0] 1 1 [(0,1,.t 25)]),E 27 7,az 28 (.app 180028 [bl 0] 8 (.t 26) (.t 27)),c6 29 ss 28,E 7 29] (M [a8 9 0] (M [a8 10 1048576] (.seq (dT 2 (.seq (M [E 30 10,E 31 9,br 32 .sub 30 31,bb 33 .gtr 32 1] (dd 33 2)) (.block 3 (M [E 34 9,E 35 10,br 36 .add 34 35,bb 37 .quo 36 2,E 11 37] (M [E 38 7,E 39 1,E 40 11,az 41 (.dM 180041 false [bl 0] 1 1 [(0,1,.t 40)]),bI 42 BY 39 41,bI 43 z8 38 42] (fi 43 (.ops [E 44 11,E 10 44]) (.ops [E 45 11,E 9 45]))))))) (M [E 46 6,E 47 8,E 48 9,bC 49 1 46 47,aZ 1 49 48] (.ops [E 50 7,E 51 1,E 52 9,az 53 (.dM 180053 false [bl 0] 1 1 [(0,1,.t 52)]),c6 54 ss 53,bI 55 BY 51 54,bI 56 z7 50 55,E 7 56]))))))) (.ops [E 20 8,bb 21 .sub 20 1,E 8 21]))))) (M [E 57 6,c6 58 ss 57,E 59 7,E 4 58,E 5 59] .ret)))))
def afm:bE:=bT 43 2 [.t 4] (M [cF 4] (M [cF 5] (M [a8 6 0] (.seq (M [a8 7 0] (.block 0 (.ghost (.mM 5 181038 1) (.loop  (.seq (M [E 9 7,E 10 0,cd 11 10,br 12 .lss 9 11,E 13 12,dJ 14 13 7,dJ 15 13 1,nJ 16 13 15,nK 17 13 .lss 14 16,cD 18 13 17,E 19 18,dJ 20 19 6,gM 21 19 .gtr 20 0,cD 22 19 21] (dd 22 0)) (.seq (.block 1 (M [E 25 0,E 26 7,bI 27 su 25 26,E 28 1,E 29 7,bI 30 su 28 29,br 31 .add 27 30,E 32 6,br 33 .add 31 32,E 8 33] (M [E 34 5,E 35 8,bb 36 .rem 35 1048576,az 37 (.dM 181037 false [bl 0] 1 1 [(0,1,.t 36)]),az 38 (.app 181038 [bl 0] 8 (.t 34) (.t 37)),E 5 38] (.ops [E 39 8,bb 40 .quo 39 1048576,E 6 40])))) (.ops [E 23 7,bb 24 .add 23 1,E 7 24]))))))) (M [E 41 5,c6 42 ss 41,E 4 42] .ret)))))
def afn:bE:=bT 35 2 [.t 4] (M [cF 4] (M [cF 5] (M [a8 6 0] (.seq (M [a8 7 0] (.block 0 (.ghost (.mM 5 182032 1) (.loop  (.seq (M [E 9 7,E 10 0,cd 11 10,br 12 .lss 9 11] (dd 12 0)) (.seq (.block 1 (e2 [E 15 0,E 16 7,bC 17 1 15 16,aH 18 1 17,E 19 1,E 20 7,bI 21 su 19 20,br 22 .sub 18 21,E 23 6,br 24 .sub 22 23,E 8 24] IW (M [a8 6 0] (.seq (M [E 25 8,bb 26 .lss 25 0] (fi 26 (M [E 27 8,bb 28 .add 27 1048576,E 8 28] (.ops [a8 6 1])) .skip)) (.ops [E 29 5,E 30 8,az 31 (.dM 182031 false [bl 0] 1 1 [(0,1,.t 30)]),az 32 (.app 182032 [bl 0] 8 (.t 29) (.t 31)),E 5 32]))))) (.ops [E 13 7,bb 14 .add 13 1,E 7 14]))))))) (M [E 33 5,c6 34 ss 33,E 4 34] .ret)))))
def afo:bE:=bT 23 1 [.t 2] (M [cF 2] (M [E 4 0,cd 5 4,E 3 5] (.seq (dT 0 (.seq (M [E 6 3,bb 7 .gtr 6 0,E 8 7,eu 9 8 0,eu 10 8 3,kj 11 8 .sub 10 1,rn 12 8 1 9 11,iz 13 8 1 12,kj 14 8 .eql 13 0,fE 15 8 14] (dd 15 0)) (.block 1 (.ops [E 16 3,bb 17 .sub 16 1,E 3 17])))) (M [az 18 (.dM 183018 true [] 1 0 []),E 19 0,E 20 3,az 21 (.q1 1 (.t 19) none (some (.t 20)) none),az 22 (.app 183022 [bl 0] 8 (.t 18) (.t 21)),E 2 22] .ret))))
def afp:bE:=bT 30 2 [.t 4] (M [bW 4 false] (.seq (M [E 6 0,cd 7 6,E 8 1,cd 9 8,az 10 (.lS true (.t 7) (.t 9)),bb 11 .sub 10 1,E 5 11] (dT 0 (.seq (M [E 12 5,bb 13 .geq 12 0] (dd 13 0)) (.seq (.block 1 (M [E 16 0,E 17 5,bI 18 su 16 17,E 19 1,E 20 5,bI 21 su 19 20,br 22 .neq 18 21] (bO 22 [E 23 0,E 24 5,bI 25 su 23 24,E 26 1,E 27 5,bI 28 su 26 27,br 29 .lss 25 28,E 4 29]))) (.ops [E 14 5,bb 15 .sub 14 1,E 5 15]))))) (M [bW 4 false] .ret)))
def afq:bE:=bT 60 2 [.t 4] (M [cF 4] (M [E 10 0,cd 11 10,E 12 1,cd 13 12,br 14 .add 11 13,az 15 (.la 186015 [bl 0] 8 (.t 14) (.t 14)),E 5 15] (.seq (M [a8 6 0] (dT 0 (.seq (M [E 16 6,E 17 0,cd 18 17,br 19 .lss 16 18] (dd 19 0)) (.seq (.block 1 (M [a8 7 0] (M [a8 8 0] (dT 2 (.seq (M [E 22 8,E 23 1,cd 24 23,br 25 .lss 22 24,E 26 25,dJ 27 26 7,gM 28 26 .gtr 27 0,cD 29 26 28] (dd 29 2)) (.seq (.block 3 (e2 [E 32 5,E 33 6,E 34 8,br 35 .add 33 34,bC 36 1 32 35,aH 37 1 36,E 38 0,E 39 6,bC 40 1 38 39,aH 41 1 40,E 42 1,E 43 8,bI 44 su 42 43,br 45 .mul 41 44,br 46 .add 37 45,E 47 7,br 48 .add 46 47,E 9 48] alG (M [E 49 5,E 50 6,E 51 8,br 52 .add 50 51,E 53 9,bb 54 .rem 53 1048576,bC 55 1 49 52,aZ 1 55 54] (.ops [E 56 9,bb 57 .quo 56 1048576,E 7 57])))) (.ops [E 30 8,bb 31 .add 30 1,E 8 31]))))))) (.ops [E 20 6,bb 21 .add 20 1,E 6 21]))))) (M [E 58 5,c6 59 ss 58,E 4 59] .ret))))
def afr:bE:=bT 13 2 [.t 4] (M [a8 4 0] (.seq (M [E 5 1,E 6 0,cd 7 6,br 8 .lss 5 7] (bO 8 [E 9 0,E 10 1,bC 11 1 9 10,aH 12 1 11,E 4 12])) (M [a8 4 0] .ret)))
def afs:bE:=bT 29 2 [.cell 4 2 true,.t 5] (M [ck 2 202002 0,ck 3 202003 1,bP 4 202004 c4,a8 5 0] (.seq (M [aB 6 2 2,c6 7 kG 6,dS 8 7,E 9 8,hv 10 9 2 3,fr 11 9 (.call kG [.t 10]),ib 12 9 11,cD 13 9 12] (bO 13 [az 14 (.build c4 []),aZ 2 4 14,a8 5 1])) (e2 [aC 15 0 2,aH 16 1 15,aC 17 0 3,aH 18 1 17,br 19 .mul 16 18,aC 20 1 2,aH 21 1 20,aC 22 1 3,aH 23 1 22,bI 24 BY 21 23,bI 25 od 19 24,c6 26 BZ 25,aN 27 0 26,aN 28 1 26,aZ 2 4 27,E 5 28] IX .ret)))
def aft:bE:=bT 21 2 [.cell 4 2 true,.t 5] (M [ck 2 203002 0,ck 3 203003 1,bP 4 203004 c4,a8 5 0] (.seq (M [aB 8 2 3,c6 9 kG 8,dS 10 9] (bO 10 [az 11 (.build c4 []),aZ 2 4 11,a8 5 1])) (e2 [aB 13 2 2,aB 14 2 3,c6 15 ES 14,bI 16 IS 13 15,E 12 16,aN 17 0 12,aN 18 1 12,bP 6 203006 c4,aZ 2 6 17,E 7 18] [[],[],[],[],[],[],[],[0,1],[],[]] (M [aB 19 2 6,E 20 7,aZ 2 4 19,E 5 20] .ret))))
def afu:bE:=bT 37 2 [.t 4] (M [ck 2 205002 0,ck 3 205003 1,a8 4 0] (.seq (M [aB 5 2 2,c6 6 kG 5,dS 7 6,E 8 7,hv 9 8 2 3,fr 10 8 (.call kG [.t 9]),ib 11 8 10,cD 12 8 11,E 13 12,hv 14 13 2 2,hv 15 13 2 3,fr 16 13 (.call SU [.t 14,.t 15]),cD 17 13 16] (bO 17 [a8 4 0])) (.seq (M [aC 18 0 2,aH 19 1 18,aC 20 0 3,aH 21 1 20,br 22 .neq 19 21] (fi 22 (.seq (M [aC 23 0 2,aH 24 1 23,aC 25 0 3,aH 26 1 25,br 27 .lss 24 26] (bO 27 [az 4 (.iu (.c (.I (.int .i64 (-1)))))])) (M [a8 4 1] .ret)) .skip)) (.seq (e2 [aC 28 1 2,aH 29 1 28,aC 30 1 3,aH 31 1 30,bI 32 z8 29 31,aC 33 0 2,aH 34 1 33,bb 35 .gtr 34 0,az 36 (.beq false (.t 32) (.t 35))] Td (bO 36 [az 4 (.iu (.c (.I (.int .i64 (-1)))))])) (M [a8 4 1] .ret)))))
def afv:bE:=bT 71 2 [.cell 4 2 true,.t 5] (M [ck 2 206002 0,ck 3 206003 1,bP 4 206004 c4,a8 5 0] (.seq (M [aB 6 2 2,c6 7 kG 6,dS 8 7,E 9 8,hv 10 9 2 3,fr 11 9 (.call kG [.t 10]),ib 12 9 11,cD 13 9 12] (bO 13 [az 14 (.build c4 []),aZ 2 4 14,a8 5 1])) (.seq (M [aC 15 0 2,aH 16 1 15,bb 17 .eql 16 0,E 18 17,fq 19 18 0 3,fz 20 18 1 19,gM 21 18 .eql 20 0,cD 22 18 21,E 23 22,fq 24 23 0 2,fz 25 23 1 24,fq 26 23 0 3,fz 27 23 1 26,nK 28 23 .eql 25 27,cD 29 23 28] (fi 29 (e2 [aC 30 0 2,aH 31 1 30,aC 32 0 3,aH 33 1 32,br 34 .or 31 33,aC 35 1 2,aH 36 1 35,aC 37 1 3,aH 38 1 37,bI 39 IL 36 38,bI 40 od 34 39,c6 41 BZ 40,aN 42 0 41,aN 43 1 41,aZ 2 4 42,E 5 43] IX .ret) .skip)) (.seq (M [aC 44 1 2,aH 45 1 44,aC 46 1 3,aH 47 1 46,bI 48 z8 45 47] (fi 48 (e2 [aC 49 0 3,aH 50 1 49,aC 51 1 3,aH 52 1 51,aC 53 1 2,aH 54 1 53,bI 55 z7 52 54,bI 56 od 50 55,c6 57 BZ 56,aN 58 0 57,aN 59 1 57,aZ 2 4 58,E 5 59] Nx .ret) .skip)) (e2 [aC 60 0 2,aH 61 1 60,aC 62 1 2,aH 63 1 62,aC 64 1 3,aH 65 1 64,bI 66 z7 63 65,bI 67 od 61 66,c6 68 BZ 67,aN 69 0 68,aN 70 1 68,aZ 2 4 69,E 5 70] Nx .ret)))))
def afw:bE:=bT 10 1 [.cell 2 2 true,.t 3] (M [ck 1 209001 0,bP 2 209002 c4,a8 3 0] (.seq (M [aC 4 1 1,aH 5 1 4,cd 6 5,bb 7 .gtr 6 60] (bO 7 [az 8 (.build c4 []),aZ 2 2 8,a8 3 6])) (M [aB 9 2 1,aZ 2 2 9,a8 3 0] .ret)))
def afx:bE:=bT 38 2 [.t 4] (M [ck 2 210002 0,ck 3 210003 1,bW 4 false] (.seq (M [aC 6 0 2,aH 7 1 6,aC 8 0 3,aH 9 1 8,br 10 .neq 7 9,E 11 10,fq 12 11 1 2,fz 13 11 1 12,nJ 14 11 13,fq 15 11 1 3,fz 16 11 1 15,nJ 17 11 16,nK 18 11 .neq 14 17,cD 19 11 18] (bO 19 [bW 4 false])) (.seq (M [a8 5 0] (dT 0 (.seq (M [E 20 5,aC 21 1 2,aH 22 1 21,cd 23 22,br 24 .lss 20 23] (dd 24 0)) (.seq (.block 1 (e2 [aC 27 1 2,aH 28 1 27,E 29 5,bC 30 1 28 29,aH 31 1 30,aC 32 1 3,aH 33 1 32,E 34 5,bC 35 1 33 34,aH 36 1 35,br 37 .neq 31 36] IW (bO 37 [bW 4 false]))) (.ops [E 25 5,bb 26 .add 25 1,E 5 26]))))) (M [bW 4 true] .ret))))
def GG (l:List Int):Ev (.own 1 (l.map aG))=some (.own 1 (l.map aG)):=by
 refine aJ ?_;rw[kA];intro e he;obtain⟨d,-,rfl⟩:=h7.1 he;simp[aG,scalar]
def Dv (n k g sz off len:Nat):cL n emp (.ref k g sz off len)=none:=by cases n<;>rfl
def zi:=bG wI λ(l:List Int)=>b8 (D l<=1000000) (.own 1 ((fO l).map aG))
@[go_sem] def Dw (l):=cj zi rfl NA l rfl
def ar0 (T:bg):WF T afo zi:=by
 refine b5 λl=>cn λU=>⟨rfl,b4 ?_⟩;simp only[afo,wI,bV];have kT:((l.map aG).all λe=>D e==1)=true:=by simp[aG]
 refine af ?_;repeat' (intro h<;>simp only[h,go_sem,go_sem_proc,ah]<;>try refine ab ?_ ?_)
 refine cV [0] [] (λ(n:Nat) tm mem=>n<=D l/\fO l=fO (l.take n)/\tm 3=.I (.int .i64 n)/\mem 183018=none) (λn=>n) (D l) (by refine⟨c8 _,by simp,by simp[go_sem],rfl⟩) ?_;intro vs ms aI aD;simp only[go_sem,go_sem_proc,ah] at aI aD;subst aI aD;rintro n tm mem Q-⟨aA,bL,aa,Wy⟩;simp only[go_sem,go_sem_proc,bj] at Q;have aq:=Q
 have cY:∀o:List Int,D o<=(D l)->lf 183018 0 1 0 8 (D o) ((o.map aG).flatten.map .I) (some (0,[]))=some (.ref 183018 1 1 0 (D o),some (183018,1,aQ aG o)):=by
  intro o a4;have:=z0 jA wF 183018 0 8 [] o (by simp;omega) (by simp;omega)
  simpa [aQ] using this
 have wq:∀(o:List Int) (m:Mem),m 183018=some (1,aQ aG o)->qy 1 m (.ref 183018 1 1 0 (D o))=some (o.map aG):=by
  intro o m hm;have:=aat hm (c8 _);rwa [dE (c8 _)] at this
 have ar1:∀o:List Int,((o.map aG).all λe=>D e==1)=true:=λo=>by simp[aG]
 rcases n with _|n
 ·have F:=cY [] (by simp);have a4:=wq [];simp only[bN,afy,mV] at F a4;refine af ?_;repeat' (intro h<;>simp only[h,go_sem,go_sem_proc,aq,aa,Wy,kT,F,oe,oV,show ¬ ((0:Int)>0) by omega,decide_false,ah,show (0:Int).toNat=0 from rfl,show (0:Int)<=0 by omega,dF,List.take_zero,bN,mV]<;>try refine ab ?_ ?_)
  rw[a4 _ (by simp[aT]),bL];simp[fO]
 ·have hw:IntKind.i64.wrap (((n+1:Nat):Int)-1)=(n:Int):=by rw[fJ _];omega
  have J:l[n]?=some l[n]:=bc (by omega);have h3:((n+1:Nat):Int)>0:=by omega
  have hle:n+1<=D l:=aA
  by_cases a0:l[n]=0
  ·refine af ?_;repeat' (intro h<;>simp only[h,go_sem,go_sem_proc,aq,aa,hw,J,a0,h3,ah,bd,decide_true,aG,beq_self_eq_true,bj]<;>try refine ab ?_ ?_)
   exact⟨n,by omega,by omega,by rw[bL,Te l n (by omega) a0],rfl,Wy⟩
  ·have lW:(l[n]==0)=false:=by simpa using a0
   have F:=cY (l.take (n+1)) (by rw[gj];omega);rw[gj,n7 hle,afz] at F;have bp:(mZ (n+1) (l.map aG)).length=n+1:=by rw[gj,ah];omega
   have afA:=ar1 (l.take (n+1));rw[afz] at afA;refine af ?_;repeat' (intro h<;>simp only[h,go_sem,go_sem_proc,aq,aa,Wy,hw,J,lW,h3,kT,afA,hle,F,bp,aG,ah,bd,decide_true,bj,show (0:Int)<=((n+1:Nat):Int) by omega,lX,dF]<;>try refine ab ?_ ?_)
   have a4:=wq (l.take (n+1)) _ (show aT (aT mem 183018 0 []) 183018 1 (aQ aG (mZ (n+1) l)) 183018=_ by simp[aT])
   rw[gj,n7 hle] at a4;rw[a4,bL,Tf l n (by omega) a0]
abbrev PT:(List Int)×Nat->List Data:=λ(l,i)=>[.ao (l.map aG),.int .i64 i]
def Dx:=bG PT λ(l,i)=>b8 (D l<=1000000) (.same (.int .i64 (l.getD i 0)))
def ar2:∀a b,PT a=PT b->a=b:=by
  rintro⟨hZ,i1⟩ ⟨X,i2⟩ h;simp only[bj,Data.ao.injEq,Data.int.injEq] at h;exact cx (map_inj fW _ _ h.1) (by have:=h.2.1.2;dsimp only;omega)
@[go_sem] def afB (l i):=cj Dx rfl ar2 (l,i) rfl
def ar3 (T:bg):WF T afr Dx:=by
 refine b5 λ(l,i)=>cn λU=>⟨rfl,b4 ?_⟩;simp only[afr,PT,bV];rcases gX i (D l) with an|bB
 ·have J:=bc an;have ad:decide ((i:Int)<(D l:Int))=true:=c5;have aL:l.getD i 0=l[i]:=by rw[dG,J];rfl
  rw[aL];refine af ?_;repeat' (intro h<;>simp only[h,go_sem,go_sem_proc,J,ad,aG,ah,bd]<;>try refine ab ?_ ?_)
 ·have ad:decide ((i:Int)<(D l:Int))=false:=de;have aL:l.getD i 0=0:=by rw[dG,lk bB];rfl
  rw[aL];refine af ?_;repeat' (intro h<;>simp only[h,go_sem,go_sem_proc,ad,ah]<;>try refine ab ?_ ?_)
def GH (n i:Nat):(aF n).getD i 0=((n/1048576^i%1048576:Nat):Int):=by
 induction i generalizing n with
 |zero =>
  rcases ln n with h|h
  ·subst h;rfl
  ·rw[tF h,Nat.pow_zero,Nat.div_one];rfl
 |succ i a2 =>
  rcases ln n with h|h
  ·subst h;rw[Nat.zero_div];rfl
  ·rw[tF h];show (aF (n/1048576)).getD i 0=_;rw[a2,afC,<-Nat.pow_succ']
def GI (n i:Nat):n/1048576^i=n/1048576^i%1048576+1048576*(n/1048576^(i+1)):=by
 rw[z4,<-afC];omega
def AY {n k:Nat}(h:(aF n).length<=k):n/1048576^k=0:=Nat.div_eq_of_lt (fX.1 h)
def Dy:=bG mv λ(x,y)=>b8 ((aF x).length<=100000/\(aF y).length<=100000) (.same (.bool (decide (x<y))))
@[go_sem] def Wz (x y):=cj Dy rfl wN (x,y) rfl
def ar4 (T:bg)(hz:T su=aE Dx):WF T afp Dy:=by
 refine b5 λ(x,y)=>cn λU=>⟨rfl,b4 ?_⟩;simp only[afp,mv,bV];obtain⟨J,ai⟩:=U;have ic:∃dk:Nat,dk=max (aF x).length (aF y).length:=⟨_,rfl⟩;obtain⟨dk,ic⟩:=ic;have gY:(if ((aF y).length:Int)>((aF x).length:Int) then ((aF y).length:Int) else ((aF x).length:Int))=(dk:Int):=by split<;>omega
 have An:IntKind.i64.wrap ((dk:Int)-1)=(dk:Int)-1:=wrap64 _ (by omega) (by omega);have mz:(aF x).length<=1000000:=by omega
 have k2:(aF y).length<=1000000:=by omega
 simp only[go_sem,go_sem_proc,hz,du,ah,gY,An];refine cV [0,1] [] (λ(i:Nat) tm mem=>i<=dk/\x/1048576^i=y/1048576^i/\tm 5=.I (.int .i64 ((i:Int)-1))) (λi=>i) dk (by refine⟨c8 _,?_,rfl⟩;rw[AY (by omega),AY (by omega)]) ?_;intro vs ms aI aD;simp only[go_sem,go_sem_proc,hz,du] at aI aD;subst aI aD;rintro i tm mem Q-⟨Z,he,bt⟩;simp only[go_sem,go_sem_proc,hz,bj] at Q;obtain⟨aq,F⟩:=Q;rcases i with _|i
 ·have hk:x=y:=by simpa using he
  have an:decide (x<y)=false:=de;rw[an];simp only[go_sem,go_sem_proc,hz,aq,F,bt,oe,oV,show ¬ ((0:Int)-1>=0) by omega,decide_false]
  repeat' (first|refine ab ?_ ?_|fail)<;>intro h<;>simp only[h,go_sem,go_sem_proc,hz,aq,F,bt,oe,oV,show ¬ ((0:Int)-1>=0) by omega,decide_false]
 ·have hw:((i+1:Nat):Int)-1=(i:Int):=by omega
  have bB:decide ((i:Int)>=0)=true:=c5;have aO:=GI x i;have ax:=GI y i;rw[he] at aO;have gn:IntKind.i64.wrap ((i:Int)-1)=(i:Int)-1:=wrap64 _ (by omega) (by omega);have cH:=GH x i;have cO:=GH y i;have bR:=oQ (x/1048576^i) (show 0<1048576 by omega);have cz:=oQ (y/1048576^i) (show 0<1048576 by omega);have bq:x/1048576^i<y/1048576^i->x<y:=λh=>afD h;have bp:y/1048576^i<x/1048576^i->y<x:=λh=>afD h;generalize oh:x/1048576^i=c7 at *;generalize yJ:y/1048576^i=nq at *;generalize y/1048576^(i+1)=nb at *;generalize c7%1048576=a at *;generalize nq%1048576=b at *;rcases Nat.lt_trichotomy a b with h|h|h
  ·have bo:((a:Int)==(b:Int))=false:=by simp;omega
   have mK:decide ((a:Int)<(b:Int))=decide (x<y):=by rw[mL (show (a:Int)<(b:Int) by omega),mL (bq (by omega))]
   simp only[go_sem,go_sem_proc,hz,aq,F,bt,hw,bB,cH,cO,mz,k2,bo,mK];repeat' (first|refine ab ?_ ?_|fail)<;>intro h<;>simp only[h,go_sem,go_sem_proc,hz,aq,F,bt,hw,bB,cH,cO,mz,k2,bo,mK]
  ·subst h;simp only[go_sem,go_sem_proc,hz,aq,F,bt,hw,bB,cH,cO,mz,k2,gn,beq_self_eq_true];repeat' (first|refine ab ?_ ?_|fail)<;>intro h<;>simp only[h,go_sem,go_sem_proc,hz,aq,F,bt,hw,bB,cH,cO,mz,k2,gn,beq_self_eq_true]
   exact⟨i,by omega,by omega,by rw[oh,yJ];omega,rfl⟩
  ·have bo:((a:Int)==(b:Int))=false:=by simp;omega
   have mK:decide ((a:Int)<(b:Int))=decide (x<y):=by rw[me (show ¬ (a:Int)<(b:Int) by omega),me (by have:=bp (by omega);omega)]
   simp only[go_sem,go_sem_proc,hz,aq,F,bt,hw,bB,cH,cO,mz,k2,bo,mK];repeat' (first|refine ab ?_ ?_|fail)<;>intro h<;>simp only[h,go_sem,go_sem_proc,hz,aq,F,bt,hw,bB,cH,cO,mz,k2,bo,mK]
def WA {o:List Int}{d:Int}(h:eO o)(aq:0<=d)(F:d<1048576):eO (o++[d]):=BP.2 ⟨h,BO.2 ⟨⟨aq,F⟩,by intro d ad;cases ad⟩⟩
def WB (o:List Int)(d:Int):a7 (o++[d])=a7 o+1048576^(D o)*d:=by rw[BQ];simp[a7]
def GJ {o:List Int}{n:Nat}(h:eO o)(al:a7 o=n):fO o=aF n:=by rw[yj h,al];rfl
def K3:=bG mv λ(x,y)=>b8 ((aF x).length<=10000/\(aF y).length<=10000) (.same (du (x+y)))
@[go_sem] def afE (x y):=cj K3 rfl wN (x,y) rfl
def ar5 (T:bg)(hz:T su=aE Dx)(hA:T ss=aE zi):WF T afm K3:=by
 refine b5 λ(x,y)=>cn λU=>⟨rfl,b4 ?_⟩;simp only[afm,mv,bV];obtain⟨J,ai⟩:=U;have ic:∃dk:Nat,dk=max (aF x).length (aF y).length:=⟨_,rfl⟩;obtain⟨dk,ic⟩:=ic;have mz:(aF x).length<=1000000:=by omega
 have k2:(aF y).length<=1000000:=by omega
 simp only[go_sem,go_sem_proc,hz,hA,du,ah];refine cV [0,1] [] (λ((i,c,g,o):Nat×Nat×Nat×List Int) tm mem=>i<=dk+1/\c<=1/\(i=dk+1->c=0)/\D o=i/\eO o/\a7 o+1048576^i*((x/1048576^i+y/1048576^i+c:Nat):Int)=((x+y:Nat):Int)/\tm 6=.I (.int .i64 c)/\tm 7=.I (.int .i64 i)/\tm 5=.ref 181038 g 1 0 i/\mem 181038=some (g,aQ aG o)) (λ(i,_)=>dk+1-i) (0,0,0,[]) (by refine⟨by omega,by omega,by simp,rfl,by simp[eO],by simp[a7],rfl,rfl,rfl,rfl⟩) ?_;intro vs ms aI aD;simp only[go_sem,go_sem_proc,hz,hA,du] at aI aD;subst aI aD;rintro⟨i,c,g,o⟩ tm mem Q-⟨Z,iw,Al,a4,gN,al,bx,bK,bt,hm⟩;simp only[go_sem,go_sem_proc,hz,hA,bj] at Q;obtain⟨aq,F⟩:=Q;have aP:a7 o+1048576^i*((x/1048576^i+y/1048576^i+c:Nat):Int)=((x+y:Nat):Int):=al
 by_cases a5:i<(aF x).length\/i<(aF y).length\/0<c
 ·have aO:=GI x i;have ax:=GI y i;have cH:=GH x i;have cO:=GH y i;have bR:=oQ (x/1048576^i) (show 0<1048576 by omega);have cz:=oQ (y/1048576^i) (show 0<1048576 by omega);have Jm:dk<=i->x/1048576^i=0/\y/1048576^i=0:=λh=>⟨AY (by omega),AY (by omega)⟩;have iQ:(1048576:Int)^(i+1)=1048576^i*1048576:=mY _ _;generalize oh:x/1048576^i=c7 at *;generalize yJ:y/1048576^i=nq at *;generalize GK:x/1048576^(i+1)=X' at *;generalize GL:y/1048576^(i+1)=Y' at *;generalize ba:c7%1048576=a at *;generalize R:nq%1048576=b at *;have w1:IntKind.i64.wrap ((a:Int)+(b:Int))=((a+b:Nat):Int):=by rw[fJ _];omega
  have gE:IntKind.i64.wrap (((a+b:Nat):Int)+(c:Int))=((a+b+c:Nat):Int):=by rw[fJ _];omega
  have gd:((a+b+c:Nat):Int).tmod 1048576=(((a+b+c)%1048576:Nat):Int):=by rw[I9 (by omega)];omega
  have ik:IntKind.i64.wrap (((a+b+c:Nat):Int).tdiv 1048576)=(((a+b+c)/1048576:Nat):Int):=by rw[Fe (by omega),wrap64 _ (by omega) (by omega)];omega
  have bJ:=e1 (i:=i) (by omega);have cY:=lq jA wF 181038 g 8 o (((a+b+c)%1048576:Nat):Int) (cs:=[.I (.int .i64 (((a+b+c)%1048576:Nat):Int))]) rfl (by omega) (by omega);rw[a4] at cY
  have aBf:i<=dk:=by
   rcases gX dk i with h|h
   ·have:=Al (by omega);omega
   ·exact h
  have lY:∃a1:Nat×Nat×Nat×List Int,dk+1-a1.1<dk+1-i/\a1.1<=dk+1/\a1.2.1<=1/\(a1.1=dk+1->a1.2.1=0)/\a1.2.2.2.length=a1.1/\eO a1.2.2.2/\a7 a1.2.2.2+1048576^a1.1*((x/1048576^a1.1+y/1048576^a1.1+a1.2.1:Nat):Int)=((x+y:Nat):Int)/\H.I (Data.int .i64 (((a+b+c)/1048576:Nat):Int))=H.I (Data.int .i64 (a1.2.1:Int))/\H.I (Data.int .i64 ((i+1:Nat):Int))=H.I (Data.int .i64 (a1.1:Int))/\H.ref 181038 (g+1) 1 0 (i+1)=H.ref 181038 a1.2.2.1 1 0 a1.1/\some (g+1,aQ aG (o++[(((a+b+c)%1048576:Nat):Int)]))=some (a1.2.2.1,aQ aG a1.2.2.2):=by
   refine⟨(i+1,(a+b+c)/1048576,g+1,o++[(((a+b+c)%1048576:Nat):Int)]),by dsimp only;omega,by dsimp only;omega,by dsimp only;omega,?_,by simp[a4],WA gN (by omega) (by omega),?_,rfl,rfl,rfl,rfl⟩
   ·intro h;dsimp only at h ⊢;have:=Jm (by omega);omega
   ·dsimp only;rw[GK,GL,WB,a4,iQ,<-aP];have eS:((c7+nq+c:Nat):Int)=1048576*((X'+Y'+(a+b+c)/1048576:Nat):Int)+(((a+b+c)%1048576:Nat):Int):=by omega
    rw[eS,h9,ia];omega
  by_cases tA:i<(aF x).length
  ·have d1:decide ((i:Int)<((aF x).length:Int))=true:=c5;refine af ?_;repeat' (intro (ag:_=_)<;>simp only[ag,go_sem,go_sem_proc,hz,hA,aq,F,bt,bx,bK,hm,cH,cO,mz,k2,d1,w1,gE,gd,ik,bJ,cY,ah]<;>try refine ab ?_ ?_)
   exact lY
  ·have d1:decide ((i:Int)<((aF x).length:Int))=false:=de
   by_cases uT:i<(aF y).length
   ·have d2:decide ((i:Int)<((aF y).length:Int))=true:=c5;refine af ?_;repeat' (intro (ag:_=_)<;>simp only[ag,go_sem,go_sem_proc,hz,hA,aq,F,bt,bx,bK,hm,cH,cO,mz,k2,d1,d2,w1,gE,gd,ik,bJ,cY,ah]<;>try refine ab ?_ ?_)
    exact lY
   ·have d2:decide ((i:Int)<((aF y).length:Int))=false:=de;have d3:decide ((c:Int)>0)=true:=c5;refine af ?_;repeat' (intro (ag:_=_)<;>simp only[ag,go_sem,go_sem_proc,hz,hA,aq,F,bt,bx,bK,hm,cH,cO,mz,k2,d1,d2,d3,w1,gE,gd,ik,bJ,cY,ah]<;>try refine ab ?_ ?_)
    exact lY
 ·have d1:decide ((i:Int)<((aF x).length:Int))=false:=de;have d2:decide ((i:Int)<((aF y).length:Int))=false:=de;have d3:decide ((c:Int)>0)=false:=de;rw[AY (n:=x) (by omega),AY (n:=y) (by omega),show c=0 by omega] at aP
  have cu:=Dw o (by omega);rw[GJ (n:=x+y) gN (by simpa using aP)] at cu;have gz:=GG (aF (x+y));have ez:=jV (n:=5) jA hm;rw[a4] at ez;refine af ?_;repeat' (intro (ag:_=_)<;>simp only[ag,go_sem,go_sem_proc,hz,hA,aq,F,bt,bx,bK,hm,d1,d2,d3,cu,gz,ez,Dv,o1,ah]<;>try refine ab ?_ ?_)
def GM:=bG mv λ(x,y)=>b8 ((aF x).length<=10000/\(aF y).length<=10000/\y<=x) (.same (du (x-y)))
@[go_sem] def PU (x y):=cj GM rfl wN (x,y) rfl
def ar6 (T:bg)(hz:T su=aE Dx)(hA:T ss=aE zi):WF T afn GM:=by
 refine b5 λ(x,y)=>cn λU=>⟨rfl,b4 ?_⟩;simp only[afn,mv,bV];obtain⟨J,ai,hk⟩:=U;have mz:(aF x).length<=1000000:=by omega
 have k2:(aF y).length<=1000000:=by omega
 have aaz:(aF y).length<=(aF x).length:=by rw[fX];exact yx hk (fX.1 (c8 _))
 simp only[go_sem,go_sem_proc,hz,hA,du,ah];refine cV [0,1] [] (λ((i,c,g,o):Nat×Nat×Nat×List Int) tm mem=>i<=(aF x).length/\c<=1/\y/1048576^i+c<=x/1048576^i/\D o=i/\eO o/\a7 o+1048576^i*((x/1048576^i-(y/1048576^i+c):Nat):Int)=((x-y:Nat):Int)/\tm 6=.I (.int .i64 c)/\tm 7=.I (.int .i64 i)/\tm 5=.ref 182032 g 1 0 i/\mem 182032=some (g,aQ aG o)) (λ(i,_)=>(aF x).length-i) (0,0,0,[]) (by refine⟨by omega,by omega,by simpa using hk,rfl,by simp[eO],by simp[a7],rfl,rfl,rfl,rfl⟩) ?_;intro vs ms aI aD;simp only[go_sem,go_sem_proc,hz,hA,du] at aI aD;subst aI aD;rintro⟨i,c,g,o⟩ tm mem Q-⟨Z,iw,hle,a4,gN,al,bx,bK,bt,hm⟩;simp only[go_sem,go_sem_proc,hz,hA,bj] at Q;obtain⟨aq,F⟩:=Q;have aP:a7 o+1048576^i*((x/1048576^i-(y/1048576^i+c):Nat):Int)=((x-y:Nat):Int):=al;have Bt:y/1048576^i+c<=x/1048576^i:=hle
 by_cases a5:i<(aF x).length
 ·have d1:decide ((i:Int)<((aF x).length:Int))=true:=c5;have aO:=GI x i;have ax:=GI y i;have cH:=GH x i;rw[dG,bc a5] at cH;have fx:(aF x)[i]?=some ((x/1048576^i%1048576:Nat):Int):=by rw[bc a5];exact congrArg some cH
  have cO:=GH y i;have bR:=oQ (x/1048576^i) (show 0<1048576 by omega);have cz:=oQ (y/1048576^i) (show 0<1048576 by omega);have iQ:(1048576:Int)^(i+1)=1048576^i*1048576:=mY _ _;clear cH hle al;generalize oh:x/1048576^i=c7 at *;generalize yJ:y/1048576^i=nq at *;generalize GK:x/1048576^(i+1)=X' at *;generalize GL:y/1048576^(i+1)=Y' at *;generalize ba:c7%1048576=a at *;generalize R:nq%1048576=b at *;have w1:IntKind.i64.wrap ((a:Int)-(b:Int))=(a:Int)-(b:Int):=wrap64 _ (by omega) (by omega);have gE:IntKind.i64.wrap ((a:Int)-(b:Int)-(c:Int))=(a:Int)-(b:Int)-(c:Int):=wrap64 _ (by omega) (by omega);have bJ:=e1 (i:=i) (by omega);have hs:IntKind.i64.wrap ((a:Int)-(b:Int)-(c:Int)+1048576)=(a:Int)-(b:Int)-(c:Int)+1048576:=wrap64 _ (by omega) (by omega);have cY:=λd:Int=>lq jA wF 182032 g 8 o d (cs:=[.I (.int .i64 d)]) rfl (by omega) (by omega);rw[a4] at cY;rcases l0:decide ((a:Int)-(b:Int)-(c:Int)<0)
  ·have aA:=of_decide_eq_false l0;refine af ?_;repeat' (intro h<;>simp only[h,go_sem,go_sem_proc,hz,hA,aq,F,bt,bx,bK,hm,fx,cO,k2,d1,w1,gE,bJ,cY,l0,aG,ah,bd]<;>try refine ab ?_ ?_)
   refine⟨(i+1,0,g+1,o++[(a:Int)-(b:Int)-(c:Int)]),by dsimp only;omega,by dsimp only;omega,by dsimp only;omega,by dsimp only;rw[GK,GL];omega,by simp[a4],WA gN (by omega) (by omega),?_,rfl,rfl,rfl,rfl⟩
   dsimp only;rw[GK,GL,WB,a4,iQ,<-aP];have eS:((c7-(nq+c):Nat):Int)=1048576*((X'-(Y'+0):Nat):Int)+((a:Int)-b-c):=by omega
   rw[eS,h9,ia];omega
  ·have aA:=of_decide_eq_true l0;refine af ?_;repeat' (intro h<;>simp only[h,go_sem,go_sem_proc,hz,hA,aq,F,bt,bx,bK,hm,fx,cO,k2,d1,w1,gE,bJ,hs,cY,l0,aG,ah,bd]<;>try refine ab ?_ ?_)
   refine⟨(i+1,1,g+1,o++[(a:Int)-(b:Int)-(c:Int)+1048576]),by dsimp only;omega,by dsimp only;omega,by dsimp only;omega,by dsimp only;rw[GK,GL];omega,by simp[a4],WA gN (by omega) (by omega),?_,rfl,rfl,rfl,rfl⟩
   dsimp only;rw[GK,GL,WB,a4,iQ,<-aP];have eS:((c7-(nq+c):Nat):Int)=1048576*((X'-(Y'+1):Nat):Int)+((a:Int)-b-c+1048576):=by omega
   have iA:∀p b2 da:Int,a7 o+p*b2+p*1048576*da=a7 o+p*(1048576*da+b2):=λp b2 da=>by rw[h9 p (1048576*da) b2,<-ia];omega
   rw[eS];exact iA _ _ _
 ·have d1:decide ((i:Int)<((aF x).length:Int))=false:=de;rw[AY (n:=x) (by omega),AY (n:=y) (by omega),Nat.zero_sub,oe,wP,Jg] at aP;have cu:=Dw o (by omega);rw[GJ (n:=x-y) gN aP] at cu;have gz:=GG (aF (x-y));have ez:=jV (n:=5) jA hm;rw[a4] at ez;refine af ?_;repeat' (intro h<;>simp only[h,go_sem,go_sem_proc,hz,hA,aq,F,bt,bx,bK,hm,d1,cu,gz,ez,Dv,o1,ah]<;>try refine ab ?_ ?_)
def afF {b:List Int}{k:Nat}(h:k<D b):b.getD k 0=b[k]:=by rw[dG,bc h];rfl
def WC {b:List Int}{k:Nat}(h:(D b)<=k):b.getD k 0=0:=by rw[dG,lk h];rfl
def GN:=bG mv λ(x,y)=>b8 ((aF x).length<=10000/\(aF y).length<=10000) (.same (du (x*y)))
@[go_sem] def WD (x y):=cj GN rfl wN (x,y) rfl
def ar7 (T:bg)(hz:T su=aE Dx)(hA:T ss=aE zi):WF T afq GN:=by
 refine b5 λ(x,y)=>cn λU=>⟨rfl,b4 ?_⟩;simp only[afq,mv,bV];obtain⟨J,ai⟩:=U;have sx:=mr x;have qD:=mr y;have vb:=lr x;have Cc:=lr y;generalize ba:aF x=a at *;generalize R:aF y=b at *;have m0:IntKind.i64.wrap ((D a:Int)+(D b:Int))=((D a+D b:Nat):Int):=by rw[fJ _];rfl
 have kW:8*(D a+D b)<=140737488355328:=by omega
 have eE:(D a)+D b<=maxLen:=E7 _ (by omega);have mq:(D b)<=1000000:=by omega
 simp only[go_sem,go_sem_proc,hz,hA,du,ba,R,m0,kW,eE,E6,ah]
 refine cV [0,1,5] [] (λ((i,o):Nat×List Int) tm mem=>i<=D a/\D o=D a+D b/\eO o/\o.drop (i+D b)=cf (D o-(i+D b)) 0/\a7 o=a7 (a.take i)*y/\tm 6=.I (.int .i64 (i:Nat))/\mem 186015=some (0,aQ aG o))
  (λ(i,_)=>D a-i) (0,cf (D a+D b) 0) (by
   have a0:∀n,a7 (cf n 0)=0:=by
    intro n
    induction n with
    |zero=>rfl
    |succ n a2=>rw[qn,so,a2];rfl
   refine⟨dF _,by simp,λd ad=>by rw[pM] at ad;omega,by simp,by rw[a0];simp[a7],?_,?_⟩<;>rfl) ?_
 intro vs ms aI aD;simp only[go_sem,go_sem_proc,hz,hA,du,ba,R,m0,ah] at aI aD;subst aI aD;rintro⟨i,o⟩ tm mem Q-⟨Z,a4,gN,nH,jy,bx,hm⟩;simp only[go_sem,go_sem_proc,hz,hA,bj] at Q;obtain⟨aq,F,bt⟩:=Q;rcases dt (i<D a) with an|bB
 ·have pL:a[i]?=some a[i]:=bc an;have zY:=k0 sx i an;have qx:=kZ a i an;generalize a[i]=hK at *;have jB:decide ((i:Int)<(D a:Int))=true:=c5;have Jf:IntKind.i64.wrap ((i:Int)+1)=((i+1:Nat):Int):=by rw[fJ _];rfl
  simp only[go_sem,go_sem_proc,hz,hA,aq,F,bt,bx,pL,jB,aG,ah,bd,bj]
  refine cV [0,1,5,6] [] (λ((k,c,o):Nat×Int×List Int) tm mem=>k<=D b+1/\(k=D b+1->c=0)/\D o=D a+D b/\eO o/\o.drop (i+max k (D b))=cf (D o-(i+max k (D b))) 0/\0<=c/\c<1048576/\a7 o+1048576^(i+k)*c=a7 (a.take i)*y+1048576^i*(hK*a7 (b.take k)) /\
    tm 8=.I (.int .i64 (k:Nat))/\tm 7=.I (.int .i64 c)/\mem 186015=some (0,aQ aG o))
   (λ(k,_)=>D b+1-k) (0,0,o) (by refine⟨dF _,by simp,a4,gN,by rw[Nat.zero_max];exact nH,by omega,by omega,by simp[a7,jy],?_,?_,hm⟩<;>rfl) ?_
  intro vs ms aI aD;simp only[go_sem,go_sem_proc,hz,hA,aq,F,bt,bx,aG,ah] at aI aD;subst aI aD;rintro⟨k,c,o⟩ tm mem Q-⟨BE,K4,a4,gN,nH,nM,iw,jy,ca,bK,hm⟩;simp only[go_sem,go_sem_proc,hz,hA,bj] at Q;obtain⟨aq,F,bt,bx⟩:=Q;have gn:IntKind.i64.wrap ((k:Int)+1)=((k+1:Nat):Int):=by rw[fJ _];rfl
  have mw:IntKind.i64.wrap ((i:Int)+(k:Int))=((i+k:Nat):Int):=by rw[fJ _];rfl
  by_cases a5:k<(D b)\/c>0
  ·have I8:k<=D b:=by
    rcases gX (D b) k with h|h
    ·have:=K4 (by omega);omega
    ·exact h
   have oW:i+k<D o:=by omega
   have Tx:=k0 gN (i+k) oW
   have Fa:0<=b.getD k 0/\b.getD k 0<1048576:=by
    rcases gX k (D b) with h|h
    ·rw[afF h];exact k0 qD k h
    ·rw[WC h];omega
   have UL:a7 (b.take (k+1))=a7 (b.take k)+1048576^k*b.getD k 0:=by
    rcases gX k (D b) with h|h
    ·rw[afF h];exact kZ b k h
    ·rw[WC h,dE (by omega),dE (by omega)];simp
   have uQ:k<(D b)\/(k=D b/\o[i+k]=0):=by
    rcases gX k (D b) with h|h
    ·exact .inl h
    ·refine .inr ⟨by omega,aaC nH (by omega) oW⟩
   have WE:=afB b k mq;generalize b.getD k 0=po at *;obtain⟨aW,bY,fI,fs⟩:=aaB Tx zY Fa ⟨nM,iw⟩;have nN:IntKind.i64.wrap (hK*po)=hK*po:=wrap64 _ (by omega) (by omega);have Fb:IntKind.i64.wrap (o[i+k]+hK*po)=o[i+k]+hK*po:=wrap64 _ (by omega) (by omega);have Ad:IntKind.i64.wrap (o[i+k]+hK*po+c)=o[i+k]+hK*po+c:=wrap64 _ (by omega) (by omega);have tT:(o[i+k]+hK*po+c).tmod 1048576=(o[i+k]+hK*po+c)%1048576:=I9 (by omega);have NR:IntKind.i64.wrap ((o[i+k]+hK*po+c).tdiv 1048576)=(o[i+k]+hK*po+c)/1048576:=by rw[Fe (by omega)];exact wrap64 _ (by omega) (by omega)
   have k1:i+k+1<=(aQ aG o).length:=by rw[pK];omega
   have nO:=I3 o (i+k) oW;have iK:=λd=>wM o (i+k) d oW;have hj:i+k<D a+D b:=by omega
   have lY:∃a1:Nat×Int×List Int,D b+1-a1.1<D b+1-k/\a1.1<=D b+1/\(a1.1=D b+1->a1.2.1=0)/\a1.2.2.length=D a+D b/\eO a1.2.2/\a1.2.2.drop (i+max a1.1 (D b))=cf (a1.2.2.length-(i+max a1.1 (D b))) 0/\0<=a1.2.1/\a1.2.1<1048576/\a7 a1.2.2+1048576^(i+a1.1)*a1.2.1=a7 (a.take i)*y+1048576^i*(hK*a7 (b.take a1.1)) /\
     H.I (Data.int .i64 ((k+1:Nat):Int))=H.I (Data.int .i64 (a1.1:Nat))/\H.I (Data.int .i64 ((o[i+k]+hK*po+c)/1048576))=H.I (Data.int .i64 a1.2.1)/\some (0,aQ aG (o.set (i+k) ((o[i+k]+hK*po+c)%1048576)))=some (0,aQ aG a1.2.2):=by
    refine⟨(k+1,(o[i+k]+hK*po+c)/1048576,o.set (i+k) ((o[i+k]+hK*po+c)%1048576)),by dsimp only;omega,by dsimp only;omega,?_,by simp[a4],yw gN _ (by omega),?_,fI,fs,?_,rfl,rfl,rfl⟩
    ·intro h;dsimp only at h ⊢;rcases uQ with G|⟨G,aa⟩
     ·omega
     ·have ar8:po=0:=by
       have e:=WE;rw[afB b k mq,WC (by omega)] at e
       simpa using e.symm
      rw[aa,ar8,wP];omega
    ·dsimp only;rcases uQ with G|⟨G,aa⟩
     ·rw[WG (by omega)] at nH;rw[WG (by omega),se (by omega),fj,nH]
     ·rw[WG (by omega),<-G] at nH;rw[Nat.max_eq_left (by omega)];exact aaD nH oW
    ·dsimp only;rw[Tt _ _ _ oW,UL,<-Nat.add_assoc,mY,aaA _ _ _ _ _ _ _ jy];rw[h9 (hK),h9 (1048576^i),Int.pow_add]
     have:(1048576:Int)^i*(hK*(1048576^k*po))=1048576^i*1048576^k*(hK*po):=by
      rw[<-ia (hK),Int.mul_comm (hK) (1048576^k),ia (1048576^k),<-ia]
     omega
   by_cases aBg:k<D b
   ·have d1:decide ((k:Int)<(D b:Int))=true:=c5;refine af ?_;repeat' (intro (ag:_=_)<;>simp only[ag,go_sem,go_sem_proc,hz,hA,aq,F,bt,bx,bK,ca,hm,pL,WE,d1,gn,mw,nN,Fb,Ad,tT,NR,hj,k1,nO,iK,aG,dL,ah,bd,bj]<;>try refine ab ?_ ?_)
    exact lY
   ·have d1:decide ((k:Int)<(D b:Int))=false:=de;have d2:decide (c>0)=true:=c5;refine af ?_;repeat' (intro (ag:_=_)<;>simp only[ag,go_sem,go_sem_proc,hz,hA,aq,F,bt,bx,bK,ca,hm,pL,WE,d1,d2,gn,mw,nN,Fb,Ad,tT,NR,hj,k1,nO,iK,aG,dL,ah,bd,bj]<;>try refine ab ?_ ?_)
    exact lY
  ·have d1:decide ((k:Int)<(D b:Int))=false:=de;have d2:decide (c>0)=false:=de;have ar9:c=0:=by omega
   rw[ar9,wP,Jg,show b.take k=b from dE (by omega),Cc] at jy;refine af ?_;repeat' (intro (ag:_=_)<;>simp only[ag,go_sem,go_sem_proc,hz,hA,aq,F,bt,bx,bK,ca,hm,d1,d2,Jf,ah]<;>try refine ab ?_ ?_)
   refine⟨(i+1,o),by dsimp only;omega,by dsimp only;omega,a4,gN,?_,?_,rfl,rfl⟩
   ·dsimp only;have aa:=congrArg (nL (i+1+D b-(i+max k (D b)))) nH;rw[List.drop_drop,List.drop_replicate] at aa;rw[show i+max k (D b)+(i+1+D b-(i+max k (D b)))=i+1+(D b) by omega] at aa
    rw[aa]
    congr 1
    omega
   ·dsimp only;rw[jy,qx,Int.add_mul,ia]
 ·obtain rfl:i=D a:=by omega
  have jB:decide ((D a:Int)<(D a:Int))=false:=de;rw[dE (c8 _),vb] at jy;have cu:=Dw o (by omega);rw[GJ (n:=x*y) gN (by rw[jy];rfl)] at cu;have gz:=GG (aF (x*y));have ez:=jV (n:=5) jA hm;rw[a4] at ez;refine af ?_;repeat' (intro (ag:_=_)<;>simp only[ag,go_sem,go_sem_proc,hz,hA,aq,F,bt,bx,hm,jB,cu,gz,ez,Dv,o1,du,ah]<;>try refine ab ?_ ?_)
def e0.td:e0->List Nat->e0
 |.seq a _,0::p=>a.td p
 |.seq _ b,_::p=>b.td p
 |.cond _ a _,0::p=>a.td p
 |.cond _ _ b,_::p=>b.td p
 |.block _ c,_::p=>c.td p
 |.ghost _ c,_::p=>c.td p
 |.loop c,_::p=>c.td p
 |c,_=>c
def afG {n:Nat}(h:0<n)(F:n<1048576):[(n:Int)]=aF n:=(Ix h F).symm
def asa {n:Nat}(F:n<1048576):fO [(n:Int)]=aF n:=GJ (by intro d ad;have:=sE.1 ad;omega) (by simp[a7])
def asb {d:Int}{r:Nat}(aq:0<=d)(F:d<1048576):fO (d::aF r)=aF (d.toNat+1048576*r):=GJ (BO.2 ⟨⟨aq,F⟩,mr r⟩) (by rw[so,lr];omega)
def WH {n m k:Nat}(h:n<m*1048576)(hm:(aF m).length<=k):(aF n).length<=k+1:=by
 rw[fX] at *;rw[z4];exact Nat.lt_of_lt_of_le h (q7 _ (Nat.le_of_lt hm))
def afH (T:bg)(oD:T BY=aE GN)(jw:T z8=aE Dy){K:fC->a6->Prop}{kg:List iY}(y bF:Nat)(ai:(aF y).length<=1000)(ec:(aF bF).length<=1001)(hL:0<y)(asc:bF<y*1048576)(v0 v6 afI:H)(tm:Nat->H)(m:Mem)
  (fH:tm 0=v0) (aO:tm 1=.I (.ao ((aF y).map aG))) (vP:tm 6=v6) (afJ:tm 7=.I (.ao ((aF bF).map aG))) (AH:tm 8=afI) (wU:tm 9=.I (.int .i64 0)) (AZ:tm 10=.I (.int .i64 1048576))
  (eh:∀tm',tm' 0=v0->tm' 1=.I (.ao ((aF y).map aG))->tm' 6=v6->tm' 7=.I (.ao ((aF bF).map aG))->tm' 8=afI->tm' 9=.I (.int .i64 ((bF/y:Nat):Int))->cM T K kg (.exit 2) ⟨tm',m⟩) :
  wp T (PS.body.td [1,1,1,0,1,0,0,1,0,0,1,1,1,0,0]) (cM T K kg) ⟨tm,m⟩:=by
 simp only[PS,e0.td];refine cV [0,1,6,7,8] [] (λ((b6,Z):Nat×Nat) tm' m'=>b6<Z/\Z<=1048576/\b6*y<=bF/\bF<Z*y/\tm' 9=.I (.int .i64 b6)/\tm' 10=.I (.int .i64 Z)/\m'=m) (λ(b6,Z)=>Z-b6) (0,1048576) (by refine⟨by omega,by omega,by omega,by rw[ye];exact asc,wU,AZ,rfl⟩) ?_;intro vs ms aI aD;simp only[go_sem,go_sem_proc,fH,aO,vP,afJ,AH] at aI aD;subst aI aD;clear fH aO vP afJ AH wU AZ;rintro⟨b6,Z⟩ tm m' Q hm ⟨aBh,bk,ga,kS,dh,dy,rfl⟩;simp only[go_sem,go_sem_proc,bj] at Q hm;obtain⟨aq,F,bx,bK,ca⟩:=Q;have w1:IntKind.i64.wrap ((Z:Int)-(b6:Int))=(Z:Int)-(b6:Int):=wrap64 _ (by omega) (by omega)
 by_cases a5:Z-b6>1
 ·have d1:decide ((Z:Int)-(b6:Int)>1)=true:=c5;have gE:IntKind.i64.wrap ((b6:Int)+(Z:Int))=((b6+Z:Nat):Int):=by rw[fJ _];omega
  have bJ:IntKind.i64.wrap (((b6+Z:Nat):Int).tdiv 2)=(((b6+Z)/2:Nat):Int):=by rw[Fe (by omega),wrap64 _ (by omega) (by omega)];omega
  obtain⟨vQ,asd⟩:∃vQ:Nat,vQ=(b6+Z)/2:=⟨_,rfl⟩;rw[<-asd] at bJ;have cu:=WD y vQ ⟨by omega,by rw[<-afG (n:=vQ) (by omega) (by omega)];simp⟩
  simp only[du] at cu;rw[<-afG (n:=vQ) (by omega) (by omega)] at cu;simp only[gZ,bN,aG] at cu;have xS:(aF (y*vQ)).length<=1001:=WH (afK (show vQ<1048576 by omega) hL) ai;have gz:=Wz bF (y*vQ) ⟨by omega,by omega⟩
  simp only[du] at gz;rcases ad:decide (bF<y*vQ)
  ·have aA:=of_decide_eq_false ad;rw[ad] at gz;refine af ?_;repeat' (intro h<;>simp only[h,go_sem,go_sem_proc,oD,jw,aq,F,bx,bK,ca,dh,dy,w1,gE,bJ,d1,cu,gz]<;>try refine ab ?_ ?_)
   exact⟨(vQ,Z),by dsimp only;omega,by dsimp only;omega,bk,by dsimp only;rw[ye];omega,kS,rfl,rfl⟩
  ·have aA:=of_decide_eq_true ad;rw[ad] at gz;refine af ?_;repeat' (intro h<;>simp only[h,go_sem,go_sem_proc,oD,jw,aq,F,bx,bK,ca,dh,dy,w1,gE,bJ,d1,cu,gz]<;>try refine ab ?_ ?_)
   exact⟨(b6,vQ),by dsimp only;omega,by dsimp only;omega,by dsimp only;omega,ga,by dsimp only;rw[ye];omega,rfl,rfl⟩
 ·have d1:decide ((Z:Int)-(b6:Int)>1)=false:=de
  have aS:bF/y=b6:=by
   have F:Z=b6+1:=by omega
   subst F;exact Nat.div_eq_of_lt_le ga kS
  refine af ?_;repeat' (intro h<;>simp only[h,go_sem,go_sem_proc,aq,F,bx,bK,ca,dh,dy,w1,d1]<;>try refine ab ?_ ?_)
  refine eh _ ?_ ?_ ?_ ?_ ?_ ?_<;>simp only[q3,sW,if_false,aq,F,bx,bK,ca,dh,aS]
def K5:=bG mv λ(x,y)=>b8 ((aF x).length<=1000/\(aF y).length<=1000/\0<y) (.same (.dp [du (x/y),du (x%y)]))
@[go_sem] def afL (x y):=cj K5 rfl wN (x,y) rfl
def ase (T:bg)(hA:T ss=aE zi)(oD:T BY=aE GN)(jw:T z8=aE Dy)(lK:T z7=aE GM):WF T PS K5:=by
 refine b5 λ(x,y)=>cn λU=>⟨rfl,b4 ?_⟩;simp only[PS,mv,bV];obtain⟨J,ai,hL⟩:=U;have sx:=mr x;have vb:=lr x;generalize ba:aF x=a at *;have kW:8*D a<=140737488355328:=by omega
 have eE:(D a)<=maxLen:=E7 _ (by omega);have An:IntKind.i64.wrap ((D a:Int)-1)=(D a:Int)-1:=wrap64 _ (by omega) (by omega);simp only[go_sem,go_sem_proc,hA,oD,jw,lK,du,ba,kW,eE,E6,An,ah]
 refine cV [0,1,6] [] (λ((n,r,xb,o):Nat×Nat×H×List Int) tm mem=>n<=D a/\D o=D a/\eO o/\r<y/\a7 (a.drop n)=y*a7 (o.drop n)+r/\(xb=.nil/\r=0\/xb=.I (du r))/\tm 8=.I (.int .i64 ((n:Nat)-1))/\tm 7=xb/\mem 180014=some (0,aQ aG o))
  (λ(n,_)=>n) (D a,0,.nil,cf (D a) 0) (by
   refine⟨c8 _,by simp,λd ad=>by rw[pM] at ad;omega,hL,by simp[a7],.inl ⟨rfl,rfl⟩,rfl,rfl,rfl⟩) ?_
 intro vs ms aI aD;simp only[go_sem,go_sem_proc,hA,oD,jw,lK,du,ba,ah] at aI aD;subst aI aD;rintro⟨n,r,xb,o⟩ tm mem Q-⟨aA,a4,gN,np,al,J6,ca,bK,hm⟩;simp only[go_sem,go_sem_proc,hA,oD,jw,lK,bj] at Q;obtain⟨aq,F,bx⟩:=Q;rcases n with _|n
 ·have aS:a7 o=((x/y:Nat):Int)/\r=x%y:=by
   rw[pD,pD,vb] at al;have aO:(x:Int)/(y:Int)=a7 o:=by rw[al,yz,Int.add_mul_ediv_left _ _ (by omega),Int.ediv_eq_zero_of_lt (by omega) (by omega)];omega
   have ax:(x:Int)%(y:Int)=r:=by rw[al,yz,Int.add_mul_emod_self_left,Int.emod_eq_of_lt (by omega) (by omega)]
   refine⟨by rw[<-aO];rfl,by omega⟩
  have cu:=Dw o (by omega);rw[GJ (n:=x/y) gN aS.1] at cu;have gz:=GG (aF (x/y));have ez:=jV (n:=5) jA hm;rw[a4] at ez;rcases J6 with ⟨rfl,sD⟩|rfl
  ·have a0:aF (x%y)=[]:=by rw[<-aS.2,sD];rfl
   refine af ?_;repeat' (intro (ag:_=_)<;>simp only[ag,go_sem,go_sem_proc,hA,oD,jw,lK,aq,F,bx,bK,ca,hm,cu,gz,ez,a0,Dv,o1,du,oe,oV,show ¬ ((0:Int)-1>=0) by omega,decide_false,ah,bN]<;>try refine ab ?_ ?_)
  ·refine af ?_;repeat' (intro (ag:_=_)<;>simp only[ag,go_sem,go_sem_proc,hA,oD,jw,lK,aq,F,bx,bK,ca,hm,cu,gz,ez,Dv,o1,du,oe,oV,show ¬ ((0:Int)-1>=0) by omega,decide_false,ah,bN,aS.2]<;>try refine ab ?_ ?_)
 ·have pL:a[n]?=some a[n]:=bc (by omega);have NJ:=k0 sx n (by omega);have Tn:a.drop n=a[n]::a.drop (n+1):=gw (by omega);have h6:n<D o:=by omega
  have Tr:∀e:Int,(o.set n e).drop n=e::o.drop (n+1):=λe=>by
   rw[gw (by simpa using h6),List.getElem_set_self,se (by omega)]
  generalize a[n]=d at *;have hw:((n+1:Nat):Int)-1=(n:Int):=by omega
  have bB:decide ((n:Int)>=0)=true:=c5;have nN:IntKind.i64.wrap ((n:Int)-1)=(n:Int)-1:=wrap64 _ (by omega) (by omega);have b7:(aF r).length<=1000:=by rw[fX] at *;omega
  obtain⟨bF,ec⟩:∃bF:Nat,bF=d.toNat+1048576*r:=⟨_,rfl⟩
  have PV:bF<y*1048576:=by
   have:(r+1)*1048576<=y*1048576:=q7 _ np;omega
  have WI:=WH PV ai;have jg:=asb (d:=d) (r:=r) NJ.1 NJ.2;rw[<-ec] at jg;have cu:=Dw (d::aF r) (by rw[lQ];omega);rw[jg] at cu;simp only[gZ,aG] at cu;have gz:=GG (aF bF)
  have xL:∀bf:Nat,lf 180026 bf 1 1 8 (aF r).length (((aF r).map aG).flatten.map .I) (some (bf,[.I (.int .i64 d)]))=some (.ref 180026 (bf+1) 1 0 (1+(aF r).length),some (180026,bf+1,aQ aG (d::aF r))):=λbf=>by
   have:=z0 jA wF 180026 bf 8 [d] (aF r) (by rw[Wh];omega) (by rw[Wh];omega);exact this
  have asf:∀(bf:Nat) (m:Mem),m 180026=some (bf,aQ aG (d::aF r))->cL 6 m (.ref 180026 bf 1 0 (1+(aF r).length))=some (.ao ((d::aF r).map aG)):=λbf m hm=>by
   have:=jV (n:=5) jA hm;rw[lQ,Nat.add_comm (aF r).length 1] at this;exact this
  have kT:(((aF r).map aG).all λe=>D e==1)=true:=Tj _;have WJ:=asf (gL (mem 180026)+1) (aT (aT mem 180026 (gL (mem 180026)) [H.I (.int .i64 d)]) 180026 (gL (mem 180026)+1) (aQ aG (d::aF r))) (by simp[aT]);have mn:n<D a:=by omega
  obtain⟨b6,ga⟩:∃b6:Nat,b6=bF/y:=⟨_,rfl⟩;have WK:b6<1048576:=by rw[ga];exact Nat.div_lt_of_lt_mul PV
  have Jw:=Nat.div_add_mod bF y;have xS:=oQ bF hL;rw[<-ga] at Jw;have Rs:bF-y*b6=bF%y:=by omega
  have aBi:(aF (y*b6)).length<=1001:=WH (afK WK hL) ai
  have afM:zi [.ao [[.int .i64 ((bF/y:Nat):Int)]]]=some (.own 1 ((aF b6).map aG)):=by
   have h:=Dw [((bF/y:Nat):Int)] (by simp);rw[<-ga,asa WK] at h;rw[<-ga];exact h
  have WL:=WD y b6 ⟨by omega,by have:(aF b6).length<=1:=fX.2 (by rw[Nat.pow_one];exact WK);omega⟩
  simp only[du] at WL;have PW:=PU bF (y*b6) ⟨by omega,by omega,by omega⟩
  rw[Rs] at PW;simp only[du] at PW;have k1:n+1<=(aQ aG o).length:=by rw[pK];omega
  have iK:=wM o n ((bF/y:Nat):Int) h6
  have lY:∃a1:Nat×Nat×H×List Int,a1.1<n+1/\a1.1<=D a/\a1.2.2.2.length=D a/\eO a1.2.2.2/\a1.2.1<y/\a7 (a.drop a1.1)=y*a7 (a1.2.2.2.drop a1.1)+a1.2.1/\(a1.2.2.1=.nil/\a1.2.1=0\/a1.2.2.1=.I (.ao ((aF a1.2.1).map aG)))/\H.I (Data.int .i64 ((n:Int)-1))=H.I (Data.int .i64 ((a1.1:Int)-1))/\H.I (Data.ao ((aF (bF%y)).map aG))=a1.2.2.1/\some (0,aQ aG (o.set n ((bF/y:Nat):Int)))=some (0,aQ aG a1.2.2.2):=by
   refine⟨(n,bF%y,.I (du (bF%y)),o.set n ((bF/y:Nat):Int)),by dsimp only;omega,by dsimp only;omega,by simp[a4],yw gN n (by omega),xS,?_,.inr rfl,rfl,rfl,rfl⟩
   dsimp only;rw[Tn,so,al,Tr,so,<-ga];have aO:(bF:Int)=d+1048576*r:=by omega
   have ax:(y:Int)*b6+(bF%y:Nat)=bF:=by exact_mod_cast Jw
   have eS:∀v:Int,(y:Int)*(b6+1048576*v)=y*b6+1048576*(y*v):=λv=>by rw[h9,Int.mul_left_comm]
   rw[eS];omega
  have main:xb=.nil/\r=0\/xb=.I (du r):=J6;rcases main with ⟨rfl,sD⟩|rfl
  ·subst sD;have afN:=xL;simp only[sq,bN,afy,mV] at afN;simp only[sq,mV] at WJ;simp only[sq,bN] at cu;simp only[go_sem,go_sem_proc,hA,oD,jw,lK,aq,F,bx,bK,ca,hm,pL,hw,bB,afN,cu,gz,WJ,Dv,o1,aG,sq,ah,bd,bN];refine afH T oD jw y bF ai WI hL PV (.I (.ao (a.map aG))) (.ref 180014 0 1 0 (D a)) (.I (.int .i64 n)) _ _ ?_ ?_ ?_ ?_ ?_ ?_ ?_ ?_
   ·exact aq
   ·exact F
   ·exact bx
   ·rfl
   ·simp only[q3,sW,if_false,ca,hw]
   ·rfl
   ·rfl
   intro tm' ep bm dn eD fQ pO;refine af ?_;repeat' (intro (ag:_=_)<;>simp only[ag,go_sem,go_sem_proc,hA,oD,jw,lK,ep,bm,dn,eD,fQ,pO,hm,mn,k1,iK,afM,WL,PW,nN,dL]<;>try refine ab ?_ ?_)
   exact lY
  ·simp only[go_sem,go_sem_proc,hA,oD,jw,lK,aq,F,bx,bK,ca,hm,pL,hw,bB,xL,kT,cu,gz,WJ,Dv,o1,du,aG,ah,bd];refine afH T oD jw y bF ai WI hL PV (.I (.ao (a.map aG))) (.ref 180014 0 1 0 (D a)) (.I (.int .i64 n)) _ _ ?_ ?_ ?_ ?_ ?_ ?_ ?_ ?_
   ·exact aq
   ·exact F
   ·exact bx
   ·rfl
   ·simp only[q3,sW,if_false,ca,hw]
   ·rfl
   ·rfl
   intro tm' ep bm dn eD fQ pO;refine af ?_;repeat' (intro (ag:_=_)<;>simp only[ag,go_sem,go_sem_proc,hA,oD,jw,lK,ep,bm,dn,eD,fQ,pO,hm,mn,k1,iK,afM,WL,PW,nN,dL]<;>try refine ab ?_ ?_)
   exact lY
def zj:=bG E5 λ(s,l)=>b8 (D l<=1000000) (.same (.agg (b3 (jX s l))))
@[go_sem] def aBj (s l):=cj zj rfl aaq (s,l) rfl
def asg (T:bg)(hA:T ss=aE zi):WF T afl zj:=by
 refine b5 λ(s,l)=>cn λU=>⟨rfl,b4 ?_⟩;simp only[afl,E5,bV];have cu:=Dw l U;have gz:=GG (fO l);refine af ?_;repeat' (intro h<;>simp only[h,go_sem,go_sem_proc,hA,cu,gz,ah]<;>try refine ab ?_ ?_)
 all_goals simp only[jX,b3,bN, *,reduceIte,cZ,db,tC,qz,tD,pE,pF,eZ,iZ,eN,cC,beq_self_eq_true,bne]
def uC:=bG pJ λ(s,l)=>b8 (D l<=1000000) (.same (.bool (cI (s,l))))
@[go_sem] def aBk (s l):=cj uC rfl Ca (s,l) rfl
def ash (T:bg):WF T afh uC:=by
 refine b5 λ(s,l)=>cn λU=>⟨rfl,b4 ?_⟩;simp only[afh,pJ,bV];simp only[go_sem,go_sem_proc,ah];refine cV [1] [162001] (λ(i:Nat) tm mem=>i<=D l/\l.all nm=(l.drop i).all nm/\tm 3=.I (.int .i64 i)) (λi=>D l-i) 0 (by refine⟨by omega,by simp,rfl⟩) ?_;intro vs ms aI aD;simp only[go_sem,go_sem_proc,ah] at aI aD;subst aI aD;rintro i tm mem Q hm ⟨Z,aj,aa⟩;simp only[go_sem,go_sem_proc,bj] at Q hm;have F:=Q;rcases dt (i<D l) with an|bB
 ·have ad:l.drop i=l[i]::l.drop (i+1):=gw an;have J:l[i]?=some l[i]:=bc an;generalize l[i]=x at *;have d1:decide ((i:Int)<(D l:Int))=true:=c5
  have lY:∀b,nm x=true->b=(l.drop (i+1)).all nm->l.all nm=b:=by
   intro b F G;rw[aj,ad,u2,F,G,eZ]
  have jW:¬ nm x=true->cI (s,l)=false:=by
   intro F;rw[Bool.not_eq_true] at F;unfold cI;rw[aj,ad,u2,F]
   rfl
  have bJ:=e1 (i:=i) (by omega);refine af ?_;repeat' (intro (ag:_=_)<;>simp only[ag,go_sem,go_sem_proc,F,aa,hm,J,d1,bJ,aG,ah,bd,bj]<;>try refine ab ?_ ?_)
  ·rw[jW λh=>by have:=(Jl x).1 h;(simp only[bM,Data.bool.injEq,Data.int.injEq,true_and,decide_eq_true_eq,decide_eq_false_iff_not,cC,beq_iff_eq,beq_eq_false_iff_ne,ne_eq] at*<;> omega)]
  ·exact⟨i+1,by omega,by omega,lY _ ((Jl x).2 (by (simp only[bM,Data.bool.injEq,Data.int.injEq,true_and,decide_eq_true_eq,decide_eq_false_iff_not,cC,beq_iff_eq,beq_eq_false_iff_ne,ne_eq] at*<;> omega))) rfl,rfl⟩
  ·rw[jW λh=>by have:=(Jl x).1 h;(simp only[bM,Data.bool.injEq,Data.int.injEq,true_and,decide_eq_true_eq,decide_eq_false_iff_not,cC,beq_iff_eq,beq_eq_false_iff_ne,ne_eq] at*<;> omega)]
 ·have he:l.drop i=[]:=lj (by omega);rw[he] at aj;have cX:l.all nm=true:=by rw[aj];rfl
  have d1:decide ((i:Int)<(D l:Int))=false:=de;rcases List.eq_nil_or_concat l with rfl|⟨r,x,rfl⟩
  ·have d2:decide ((i:Int)<0)=false:=d1;refine af ?_;repeat' (intro (ag:_=_)<;>simp only[ag,go_sem,go_sem_proc,F,aa,hm,d2,mV,oe,oV,beq_self_eq_true,bN,bne]<;>try refine ab ?_ ?_)
   all_goals (refine congrArg (λb=>some (Data.bool b)) ?_;unfold cI;simp;try simp only[decide_eq_true_eq,decide_eq_false_iff_not,beq_iff_eq,beq_eq_false_iff_ne,vA,Pf,beq_eq_false_iff_ne,ne_eq] at *;omega)
  ·rw[List.concat_eq_append] at *;have bo:(((r++[x]).length:Int)==0)=false:=by simp;omega
   have hw:IntKind.i64.wrap (((r++[x]).length:Int)-1)=(D r:Int):=by
    have bp:(r++[x]).length=D r+1:=by simp
    rw[fJ _];omega
   have aL:((r++[x]).map aG)[D r]?=some [.int .i64 x]:=by simp[aG]
   have L:cI (s,r++[x])=((s==1||s == -1)&&decide (((r++[x]).length:Int)<=60)&&(x != 0)):=by
    unfold cI;rw[cX];simp only[List.getLast?_append,List.getLast?_singleton];simp;have aO:decide (D r<=59)=decide ((D r:Int)+1<=60):=decide_eq_decide.2 (by omega);have ax:(some x != some (0:Int))=(x != 0):=by simp[bne]
    rw[aO,ax]
   rw[L];refine af ?_;repeat' (intro (ag:_=_)<;>simp only[ag,go_sem,go_sem_proc,F,aa,hm,d1,bo,hw,aL,ah]<;>try refine ab ?_ ?_)
   all_goals (refine congrArg (λb=>some (Data.bool b)) ?_;clear aj cX L aL hw Q hm F aa d1;rw[Bool.eq_iff_iff];simp only[fe,tz,decide_eq_true_eq,decide_eq_false_iff_not,beq_iff_eq,beq_eq_false_iff_ne,vA,Pf,ne_eq,cC,false_iff,true_iff] at *;omega)
def K6:=bG pJ λ(s,l)=>b8 (D l<=1000000) (.same (.agg (b3 (hx (s,l)))))
@[go_sem] def aBl (s l):=cj K6 rfl Ca (s,l) rfl
def asi (T:bg)(fw:T kG=aE uC)(gS:T od=aE zj):WF T afi K6:=by
 refine b5 λ(s,l)=>cn λU=>⟨rfl,b4 ?_⟩;simp only[afi,pJ,bV]
 by_cases L:cI (s,l)=true
 ·obtain⟨z,a0,e⟩:=(ho _).1 L;have aO:hx (s,l)=a9 (-z):=by unfold hx;rw[aJ L,e,eJ]
  cases e
  have hw:IntKind.i64.wrap (0-z.sign) = -z.sign:=by
   have:=Int.sign_trichotomy z;rw[fJ _];omega
  rw[aO];refine af ?_;repeat' (intro h<;>simp only[h,go_sem,go_sem_proc,fw,gS,L,U,hw,abx,b3]<;>try refine ab ?_ ?_)
 ·have L:cI (s,l)=false:=by simpa using L
  have aO:hx (s,l)=(0,[]):=by unfold hx;rw[L];rfl
  rw[aO];refine af ?_;repeat' (intro h<;>simp only[h,go_sem,go_sem_proc,fw,gS,L,U,b3,bN]<;>try refine ab ?_ ?_)
def afO (n:Int):(n.tmod 1048576).natAbs=n.natAbs%1048576:=by rw[Int.natAbs_tmod];rfl
def afP (n:Int):(n.tdiv 1048576).natAbs=n.natAbs/1048576:=by rw[Int.natAbs_tdiv];rfl
def K7:=bG tM λ(n:Int)=>b8 (dX n) (.same (.agg (b3 (a9 n))))
@[go_sem] def aBm (n):=cj K7 rfl I0 n rfl
def asj (T:bg)(gS:T od=aE zj):WF T afg K7:=by
 refine b5 λn=>cn λU=>⟨rfl,b4 ?_⟩;simp only[afg,tM,bV];have uU:=U;unfold dX at uU;obtain⟨uM,qi⟩:=uU;have hlen:(aF n.natAbs).length<=60:=fX.2 (yO U);rcases dt (n=0) with rfl|qp
 ·refine af ?_;repeat' (intro (ag:_=_)<;>simp only[ag,go_sem,go_sem_proc,gS,b3,beq_self_eq_true]<;>try refine ab ?_ ?_)
  rfl
 have bo:(n==0)=false:=by simpa using qp
 have O:∀s:Int,s=n.sign->jX s (aF n.natAbs)=a9 n:=λs h=>m3 rfl λ_=>h;have Ap:(aF n.natAbs).length<=1000000:=by omega
 rcases dt (n<0) with l0|h3
 ·have p2:=O (-1) (kJ l0).symm;simp only[go_sem,go_sem_proc,gS,bo,l0,decide_true];refine cV [2,3] [144002] (λ((u,g,l):Int×Nat×List Int) tm mem=>u<=0/\n<=u/\aF n.natAbs=l++aF u.natAbs/\tm 0=.I (.int .i64 u)/\tm 4=.ref 144022 g 1 0 (D l)/\mem 144022=some (g,aQ aG l)) (λ(u,_)=>u.natAbs) (n,0,[]) (by refine⟨by omega,by omega,rfl,rfl,rfl,rfl⟩) ?_;intro vs ms aI aD;simp only[go_sem,go_sem_proc,gS,l0,decide_true] at aI aD;subst aI aD;rintro⟨u,g,l⟩ tm mem Q hm ⟨hu,asl,ad,aq,aX,te⟩;simp only[go_sem,go_sem_proc,gS,bj] at Q hm;obtain⟨G,aa⟩:=Q;rcases dt (u=0) with rfl|Fy
  ·rw[show (0:Int).natAbs=0 from rfl,sq,mX] at ad;rw[ad] at p2 Ap;refine af ?_;repeat' (intro (ag:_=_)<;>simp only[ag,go_sem,go_sem_proc,gS,aq,G,aa,aX,hm,te,p2,Ap,sl jA,mB,b3,ah,beq_self_eq_true]<;>try refine ab ?_ ?_)
  ·have yB:(D l)<=60:=by
    have:=congrArg D ad;rw[ks] at this;omega
   have sF:(u==0)=false:=by simpa using Fy
   have cY:=λd:Int=>lq jA wF 144022 g 8 l d (cs:=[.I (.int .i64 d)]) rfl (by omega) (by omega);have aO:=afO u;have ax:=afP u;have eS:u.tmod 1048576<=0:=by have:=afQ (a:=-u) 1048576 (by omega);rw[Int.neg_tmod] at this;omega
   have iA:u.tdiv 1048576<=0/\u<=u.tdiv 1048576:=by
    have:=afR (a:=-u) (b:=1048576) (by omega) (by omega);rw[Int.neg_tdiv] at this;omega
   have m0:IntKind.i64.wrap (u.tdiv 1048576)=u.tdiv 1048576:=wrap64 _ (by omega) (by omega);have gn:IntKind.i64.wrap (0-u.tmod 1048576) = -(u.tmod 1048576):=by rw[fJ _];omega
   have tU:=tF (n:=u.natAbs) (by omega)
   have lY:∀d:Int,d=((u.natAbs%1048576:Nat):Int)->∃a1:Int×Nat×List Int,a1.1.natAbs<u.natAbs/\a1.1<=0/\n<=a1.1/\aF n.natAbs=a1.2.2++aF a1.1.natAbs/\H.I (.int .i64 (u.tdiv 1048576))=H.I (.int .i64 a1.1)/\H.ref 144022 (g+1) 1 0 (D l+1)=H.ref 144022 a1.2.1 1 0 a1.2.2.length/\some (g+1,aQ aG (l++[d]))=some (a1.2.1,aQ aG a1.2.2):=by
    intro d zK;refine⟨(u.tdiv 1048576,g+1,l++[d]),by dsimp only;omega,by dsimp only;omega,by dsimp only;omega,?_,rfl,by simp,rfl⟩
    dsimp only;rw[ad,tU,zK,ax,ki]
    rfl
   by_cases a0:u.tmod 1048576<0
   ·refine af ?_;repeat' (intro (ag:_=_)<;>simp only[ag,go_sem,go_sem_proc,gS,aq,G,aa,aX,hm,te,sF,cY,m0,gn,a0,decide_true,ah,bj]<;>try refine ab ?_ ?_)
    exact lY _ (by omega)
   ·refine af ?_;repeat' (intro (ag:_=_)<;>simp only[ag,go_sem,go_sem_proc,gS,aq,G,aa,aX,hm,te,sF,cY,m0,gn,a0,decide_false,ah,bj]<;>try refine ab ?_ ?_)
    exact lY _ (by omega)
 ·have p2:=O 1 (gp (by omega)).symm;simp only[go_sem,go_sem_proc,gS,bo,h3,decide_false];refine cV [2,3] [144002] (λ((u,g,l):Int×Nat×List Int) tm mem=>0<=u/\u<=n/\aF n.natAbs=l++aF u.natAbs/\tm 0=.I (.int .i64 u)/\tm 4=.ref 144022 g 1 0 (D l)/\mem 144022=some (g,aQ aG l)) (λ(u,_)=>u.natAbs) (n,0,[]) (by refine⟨by omega,by omega,rfl,rfl,rfl,rfl⟩) ?_;intro vs ms aI aD;simp only[go_sem,go_sem_proc,gS,h3,decide_false] at aI aD;subst aI aD;rintro⟨u,g,l⟩ tm mem Q hm ⟨hu,asl,ad,aq,aX,te⟩;simp only[go_sem,go_sem_proc,gS,bj] at Q hm;obtain⟨G,aa⟩:=Q;rcases dt (u=0) with rfl|Fy
  ·rw[show (0:Int).natAbs=0 from rfl,sq,mX] at ad;rw[ad] at p2 Ap;refine af ?_;repeat' (intro (ag:_=_)<;>simp only[ag,go_sem,go_sem_proc,gS,aq,G,aa,aX,hm,te,p2,Ap,sl jA,mB,b3,ah,beq_self_eq_true]<;>try refine ab ?_ ?_)
  ·have yB:(D l)<=60:=by
    have:=congrArg D ad;rw[ks] at this;omega
   have sF:(u==0)=false:=by simpa using Fy
   have cY:=λd:Int=>lq jA wF 144022 g 8 l d (cs:=[.I (.int .i64 d)]) rfl (by omega) (by omega);have aO:=afO u;have ax:=afP u;have eS:=afQ (a:=u) 1048576 (by omega);have iA:=afR (a:=u) (b:=1048576) (by omega) (by omega);have m0:IntKind.i64.wrap (u.tdiv 1048576)=u.tdiv 1048576:=wrap64 _ (by omega) (by omega);have tU:=tF (n:=u.natAbs) (by omega);have a0:decide (u.tmod 1048576<0)=false:=de;refine af ?_;repeat' (intro (ag:_=_)<;>simp only[ag,go_sem,go_sem_proc,gS,aq,G,aa,aX,hm,te,sF,cY,m0,a0,ah,bj]<;>try refine ab ?_ ?_)
   refine⟨(u.tdiv 1048576,g+1,l++[u.tmod 1048576]),by dsimp only;omega,by dsimp only;omega,by dsimp only;omega,?_,rfl,by simp,by first|rfl|simp[go_sem]⟩
   dsimp only;rw[ad,tU,ax,ki,show u.tmod 1048576=((u.natAbs%1048576:Nat):Int) by omega]
   rfl
def qT (a b:Raw):Bool:=decide (a=b)
def PX:=bG iO λ(s,l,s2,X)=>b8 (D l<=1000000/\D X<=1000000) (.same (.bool (qT (s,l) (s2,X))))
@[go_sem] def aBn (s l s2 X):=cj PX rfl qI (s,l,s2,X) rfl
def asm (T:bg):WF T afx PX:=by
 refine b5 λ(s,l,s2,X)=>cn λU=>⟨rfl,b4 ?_⟩;simp only[afx,iO,bV];obtain⟨bq,bp⟩:=U
 by_cases O:s=s2
 ·subst O
  by_cases ae:(D l)=D X
  ·have aO:(((D l:Nat):Int)==((D X:Nat):Int))=true:=by simp;omega
   simp only[go_sem,go_sem_proc,beq_self_eq_true,ah,aO,cZ,bne];refine cV [2,3] [210002,210003] (λ(i:Nat) tm mem=>i<=D l/\l.take i=X.take i/\tm 5=.I (.int .i64 i)) (λi=>D l-i) 0 (by refine⟨by omega,by simp,rfl⟩) ?_;intro vs ms aI aD;simp only[go_sem,go_sem_proc,ah] at aI aD;subst aI aD;rintro i tm mem Q hm ⟨Z,aj,bt⟩;simp only[go_sem,go_sem_proc,bj] at Q hm;obtain⟨G,aa⟩:=Q;obtain⟨bY,fI⟩:=hm;rcases dt (i<D l) with an|bB
   ·have J:l[i]?=some l[i]:=bc an;have ai:X[i]?=some X[i]:=bc (by omega);have uM:l.take (i+1)=l.take i++[l[i]]:=by rw[hn,J];rfl
    have qi:X.take (i+1)=X.take i++[X[i]]:=by rw[hn,ai];rfl
    generalize l[i]=x at *;generalize X[i]=y at *;have d1:decide ((i:Int)<(D l:Int))=true:=c5;have bJ:=e1 (i:=i) (by omega)
    by_cases hk:x=y
    ·subst hk;refine af ?_;repeat' (intro (ag:_=_)<;>simp only[ag,go_sem,go_sem_proc,G,aa,bt,bY,fI,J,ai,d1,bJ,aG,ah,bd,bj,beq_self_eq_true,cZ]<;>try refine ab ?_ ?_)
     exact⟨i+1,by omega,by omega,by rw[uM,qi,aj],rfl⟩
    ·have bo:(x==y)=false:=by simpa using hk
     have L:qT (s,l) (s,X)=false:=by
      refine me λh=>hk ?_;rw[eL] at h;rw[h.2,ai] at J;exact (mm J).symm
     rw[L];refine af ?_;repeat' (intro (ag:_=_)<;>simp only[ag,go_sem,go_sem_proc,G,aa,bt,bY,fI,J,ai,d1,bJ,bo,aG,ah,bd,bj,db]<;>try refine ab ?_ ?_)
   ·have d1:decide ((i:Int)<(D l:Int))=false:=de
    have L:qT (s,l) (s,X)=true:=by
     refine mL ?_;rw[dE (by omega),dE (by omega)] at aj;rw[aj]
    rw[L];refine af ?_;repeat' (intro (ag:_=_)<;>simp only[ag,go_sem,go_sem_proc,G,aa,bt,bY,fI,d1,ah]<;>try refine ab ?_ ?_)
  ·have aO:(((D l:Nat):Int)==((D X:Nat):Int))=false:=by simp;omega
   have L:qT (s,l) (s,X)=false:=by
    refine me λh=>ae ?_;rw[eL] at h;rw[h.2]
   rw[L];refine af ?_;repeat' (intro (ag:_=_)<;>simp only[ag,go_sem,go_sem_proc,beq_self_eq_true,ah,aO,cZ,db,bne]<;>try refine ab ?_ ?_)
 ·have bo:(s==s2)=false:=by simpa using O
  have L:qT (s,l) (s2,X)=false:=by
   refine me λh=>O ?_;rw[eL] at h;exact h.1
  rw[L];refine af ?_;repeat' (intro (ag:_=_)<;>simp only[ag,go_sem,go_sem_proc,bo,ah,cZ,db,bne]<;>try refine ab ?_ ?_)
def K8:=bG pJ λ(s,l)=>some (.same (en (Fp (s,l))))
@[go_sem] def aBo (s l):=sm K8 rfl Ca (s,l) rfl
def asn (T:bg):WF T afw K8:=by
 refine b5 λ(s,l)=>⟨rfl,b4 ?_⟩;simp only[afw,pJ,bV];refine af ?_;repeat' (intro h<;>simp only[h,go_sem,go_sem_proc,ah]<;>try refine ab ?_ ?_)
 all_goals (simp only[en,b3,Fp];simp only[bN, *,reduceIte,cZ,db,tC,qz,tD,pE,pF,eZ,iZ,eN,cC,beq_self_eq_true,bne])
def aso {x y:Int}(h:a9 x=a9 y):x=y:=by rw[<-eJ x,h,eJ]
def K9:=bG iO λ(s,l,s2,X)=>b8 (D l<=1000000/\D X<=1000000) (.same (.int .i64 (pP (s,l) (s2,X))))
@[go_sem] def aBp (s l s2 X):=cj K9 rfl qI (s,l,s2,X) rfl
def asp (T:bg)(fw:T kG=aE uC)(Dz:T SU=aE PX)(jw:T z8=aE Dy):WF T afu K9:=by
 refine b5 λ(s,l,s2,X)=>cn λU=>⟨rfl,b4 ?_⟩;simp only[afu,iO,bV];obtain⟨bq,bp⟩:=U
 by_cases L:cI (s,l)=true
 ·by_cases aU:cI (s2,X)=true
  ·obtain⟨x,J,e⟩:=(ho _).1 L;obtain⟨y,ai,ax⟩:=(ho _).1 aU;have hm:pP (s,l) (s2,X)=gb x y:=by rw[e,ax];exact Jr J ai
   rw[hm];clear hm
   have DA:qT (s,l) (s2,X)=decide (x=y):=by
    rw[e,ax];exact decide_eq_decide.2 ⟨aso,λh=>by rw[h]⟩
   cases e
   cases ax;have mz:=m4 J;have k2:=m4 ai
   by_cases hk:x=y
   ·subst hk;rw[mL rfl] at DA;rw[Fu];refine af ?_;repeat' (intro (ag:_=_)<;>simp only[ag,go_sem,go_sem_proc,fw,Dz,jw,L,aU,bq,bp,DA]<;>try refine ab ?_ ?_)
   ·rw[me hk] at DA;have gz:=Wz x.natAbs y.natAbs ⟨by omega,by omega⟩
    simp only[du] at gz
    have zk:gb x y=if x<y then -1 else 1:=by
     rcases oX x y with h|h|h
     ·rw[yI h,aJ h]
     ·exact absurd h hk
     ·rw[Cm h,aR (by omega)]
    rw[zk]
    by_cases O:x.sign=y.sign
    ·have vf:(x.sign==y.sign)=true:=by simpa using O
     have jS:(decide (x.natAbs<y.natAbs)==decide (x.sign>0))=decide (x<y):=by
      rw[Bool.beq_eq_decide_eq,decide_eq_decide];simp only[decide_eq_decide];rcases kl x with ⟨e,F⟩|⟨e,F⟩|⟨e,F⟩<;>rcases kl y with ⟨e',G⟩|⟨e',G⟩|⟨e',G⟩<;>rw[e,e'] at O<;>first|omega|skip
     by_cases an:x<y
     ·rw[mL an] at jS;rw[aJ an];refine af ?_;repeat' (intro (ag:_=_)<;>simp only[ag,go_sem,go_sem_proc,fw,Dz,jw,L,aU,bq,bp,DA,vf,gz,jS,cZ,bne]<;>try refine ab ?_ ?_)
     ·rw[me an] at jS;rw[aR an];refine af ?_;repeat' (intro (ag:_=_)<;>simp only[ag,go_sem,go_sem_proc,fw,Dz,jw,L,aU,bq,bp,DA,vf,gz,jS,cZ,bne]<;>try refine ab ?_ ?_)
    ·have vf:(x.sign==y.sign)=false:=by simpa using O
     have jS:decide (x.sign<y.sign)=decide (x<y):=by
      rw[decide_eq_decide];rcases kl x with ⟨e,F⟩|⟨e,F⟩|⟨e,F⟩<;>rcases kl y with ⟨e',G⟩|⟨e',G⟩|⟨e',G⟩<;>rw[e,e'] at O ⊢<;>omega
     by_cases an:x<y
     ·rw[mL an] at jS;rw[aJ an];refine af ?_;repeat' (intro (ag:_=_)<;>simp only[ag,go_sem,go_sem_proc,fw,Dz,jw,L,aU,bq,bp,DA,vf,jS,db,bne]<;>try refine ab ?_ ?_)
     ·rw[me an] at jS;rw[aR an];refine af ?_;repeat' (intro (ag:_=_)<;>simp only[ag,go_sem,go_sem_proc,fw,Dz,jw,L,aU,bq,bp,DA,vf,jS,db,bne]<;>try refine ab ?_ ?_)
  ·have aU:cI (s2,X)=false:=by simpa using aU
   have hm:pP (s,l) (s2,X)=0:=by unfold pP;rw[aU,iZ];rfl
   rw[hm];refine af ?_;repeat' (intro (ag:_=_)<;>simp only[ag,go_sem,go_sem_proc,fw,Dz,jw,L,aU,bq,bp]<;>try refine ab ?_ ?_)
 ·have L:cI (s,l)=false:=by simpa using L
  have hm:pP (s,l) (s2,X)=0:=by unfold pP;rw[L,eN];rfl
  rw[hm];refine af ?_;repeat' (intro (ag:_=_)<;>simp only[ag,go_sem,go_sem_proc,fw,Dz,jw,L,bq,bp]<;>try refine ab ?_ ?_)
def La:=bG iO λ(s,l,s2,X)=>b8 (D l<=1000000/\D X<=1000000) (.same (en (mA (s,l) (s2,X))))
@[go_sem] def aBq (s l s2 X):=cj La rfl qI (s,l,s2,X) rfl
def asq (T:bg)(fw:T kG=aE uC)(rN:T IK=aE K5)(gS:T od=aE zj):WF T afj La:=by
 refine b5 λ(s,l,s2,X)=>cn λU=>⟨rfl,b4 ?_⟩;simp only[afj,iO,bV];obtain⟨bq,bp⟩:=U
 by_cases L:cI (s,l)=true
 ·by_cases aU:cI (s2,X)=true
  ·obtain⟨x,J,e⟩:=(ho _).1 L;obtain⟨y,ai,ax⟩:=(ho _).1 aU
   have hm:mA (s,l) (s2,X)=(a9 (gq x.natAbs y.natAbs:Nat),0):=by
    rw[e,ax];unfold mA
    rw[jZ J,jZ ai,eJ,eJ]
    rfl
   rw[hm];clear hm
   cases e
   cases ax;have mz:=m4 J;have k2:=m4 ai;have aL:=Fv J ai;generalize oh:x.natAbs=c7 at *;generalize yJ:y.natAbs=nq at *;have Jt:(aF c7).length<=1000000:=by omega
   simp only[go_sem,go_sem_proc,fw,rN,gS,L,aU,oh,yJ,bq,bp,Jt,aG,ah];refine cV [4] [164004] (λ((a,b):Nat×Nat) tm mem=>a<cW/\b<cW/\gq c7 nq=gq a b/\tm 6=.I (.ao ((aF a).map aG))/\tm 7=.I (.ao ((aF b).map aG))) (λ(_,b)=>b) (c7,nq) (by refine⟨J,ai,rfl,rfl,rfl⟩) ?_;intro vs ms aI aD;simp only[go_sem,go_sem_proc,fw,rN,gS,oh,yJ] at aI aD;subst aI aD;rintro⟨a,b⟩ tm mem Q hm ⟨ba,R,vg,bx,bK⟩;simp only[go_sem,go_sem_proc,fw,rN,gS,bj] at Q hm;have aX:=Q;have nj:(aF a).length<=60:=fX.2 ba;have qE:(aF b).length<=60:=fX.2 R;rcases ln b with aq|h3
   ·subst aq;have a0:aF 0=[]:=rfl;have T2:(aF a).length<=1000000:=by omega
    rw[Nat.gcd_zero_right] at vg;have O:jX 1 (aF a)=a9 ((a:Nat):Int):=m3 (by simp) λaA=>(gp (by omega)).symm;rw[vg];refine af ?_;repeat' (intro h<;>simp only[h,go_sem,go_sem_proc,fw,rN,gS,aX,bx,bK,hm,a0,T2,O,b3,en,ot,bN,mV,oe,oV,show ¬ ((0:Int)>0) by omega,decide_false]<;>try refine ab ?_ ?_)
   ·have bo:decide (((aF b).length:Int)>0)=true:=by
     have:aF b≠[]:=by rw[Ne,yh];omega
     have:=List.length_pos_iff.2 this;exact c5
    have hdiv:=afL a b ⟨by omega,by omega,h3⟩
    simp only[du] at hdiv;refine af ?_;repeat' (intro h<;>simp only[h,go_sem,go_sem_proc,fw,rN,gS,aX,bx,bK,hm,bo,hdiv,ah]<;>try refine ab ?_ ?_)
    exact⟨(b,a%b),oQ _ h3,R,yx (Nat.mod_le _ _) ba,by dsimp only;rw[vg,Ju a b,Nat.gcd_rec b a,Ju],rfl,rfl⟩
  ·have aU:cI (s2,X)=false:=by simpa using aU
   have hm:mA (s,l) (s2,X)=((0,[]),1):=by unfold mA;rw[aU,iZ];rfl
   rw[hm];refine af ?_;repeat' (intro h<;>simp only[h,go_sem,go_sem_proc,fw,rN,gS,L,aU,bq,bp,b3,en,bN]<;>try refine ab ?_ ?_)
 ·have L:cI (s,l)=false:=by simpa using L
  have hm:mA (s,l) (s2,X)=((0,[]),1):=by unfold mA;rw[L,eN];rfl
  rw[hm];refine af ?_;repeat' (intro h<;>simp only[h,go_sem,go_sem_proc,fw,rN,gS,L,bq,bp,b3,en,bN]<;>try refine ab ?_ ?_)
def DB:=bG iO λ(s,l,s2,X)=>b8 (D l<=1000000/\D X<=1000000) (.same (en (mulR (s,l) (s2,X))))
@[go_sem] def aBr (s l s2 X):=cj DB rfl qI (s,l,s2,X) rfl
def asr (T:bg)(fw:T kG=aE uC)(oD:T BY=aE GN)(gS:T od=aE zj)(vR:T BZ=aE K8):WF T afs DB:=by
 refine b5 λ(s,l,s2,X)=>cn λU=>⟨rfl,b4 ?_⟩;simp only[afs,iO,bV];obtain⟨bq,bp⟩:=U
 by_cases L:cI (s,l)=true
 ·by_cases aU:cI (s2,X)=true
  ·obtain⟨x,J,e⟩:=(ho _).1 L;obtain⟨y,ai,ax⟩:=(ho _).1 aU;have hm:mulR (s,l) (s2,X)=nR (x*y):=by rw[e,ax];exact yH J ai
   rw[hm];clear hm
   cases e
   cases ax;have F:=m5 x;have G:=m5 y;have aP:x.sign*y.sign=(x*y).sign:=(Int.sign_mul x y).symm;have aa:=m5 (x*y);have hw:IntKind.i64.wrap (x.sign*y.sign)=(x*y).sign:=by rw[aP];exact wrap64 _ (by omega) (by omega)
   have hmul:=WD x.natAbs y.natAbs ⟨iG (m4 J) (by omega),iG (m4 ai) (by omega)⟩;simp only[du] at hmul
   have hlen:(aF (x.natAbs*y.natAbs)).length<=1000000:=by
    refine iG ((fX (k:=120)).2 ?_) (by omega);have:(1048576^120:Nat)=cW*cW:=by unfold cW;rw[<-Nat.pow_add]
    rw[this];exact Nat.mul_lt_mul'' J ai
   have O:jX (x*y).sign (aF (x.natAbs*y.natAbs))=a9 (x*y):=m3 (Int.natAbs_mul x y) λ_=>rfl;refine af ?_;repeat' (intro h<;>simp only[h,go_sem,go_sem_proc,fw,oD,gS,vR,L,aU,bq,bp,hw,hmul,hlen,O,vd,b3,en,ot]<;>try refine ab ?_ ?_)
  ·have aU:cI (s2,X)=false:=by simpa using aU
   have hm:mulR (s,l) (s2,X)=((0,[]),1):=by unfold mulR;rw[aU,iZ];rfl
   rw[hm];refine af ?_;repeat' (intro h<;>simp only[h,go_sem,go_sem_proc,fw,oD,gS,vR,L,aU,bq,bp,b3,en,bN]<;>try refine ab ?_ ?_)
 ·have L:cI (s,l)=false:=by simpa using L
  have hm:mulR (s,l) (s2,X)=((0,[]),1):=by unfold mulR;rw[L,eN];rfl
  rw[hm];refine af ?_;repeat' (intro h<;>simp only[h,go_sem,go_sem_proc,fw,oD,gS,vR,L,bq,bp,b3,en,bN]<;>try refine ab ?_ ?_)
def Lb:=bG iO λ(s,l,s2,X)=>b8 (D l<=1000000/\D X<=1000000) (.same (en (lz (s,l) (s2,X))))
@[go_sem] def aBs (s l s2 X):=cj Lb rfl qI (s,l,s2,X) rfl
def ass (T:bg)(fw:T kG=aE uC)(rO:T IL=aE K3)(jw:T z8=aE Dy)(lK:T z7=aE GM)(gS:T od=aE zj)(vR:T BZ=aE K8):WF T afv Lb:=by
 refine b5 λ(s,l,s2,X)=>cn λU=>⟨rfl,b4 ?_⟩;simp only[afv,iO,bV];obtain⟨bq,bp⟩:=U
 by_cases L:cI (s,l)=true
 ·by_cases aU:cI (s2,X)=true
  ·obtain⟨x,J,e⟩:=(ho _).1 L;obtain⟨y,ai,ax⟩:=(ho _).1 aU;have hm:lz (s,l) (s2,X)=nR (x+y):=by rw[e,ax];exact Jp J ai
   rw[hm];clear hm
   cases e
   cases ax;have F:=m5 x;have G:=m5 y;have mz:=m4 J;have k2:=m4 ai;have NX:=Fo x;have am4:=Fo y
   have nT:(x.sign=1/\0<x)\/(x.sign=0/\x=0)\/(x.sign = -1/\x<0):=by
    rcases oX x 0 with h|h|h
    ·exact .inr (.inr ⟨kJ h,h⟩)
    ·exact .inr (.inl ⟨by rw[h];rfl,h⟩)
    ·exact .inl ⟨gp h,h⟩
   have ty:(y.sign=1/\0<y)\/(y.sign=0/\y=0)\/(y.sign = -1/\y<0):=by
    rcases oX y 0 with h|h|h
    ·exact .inr (.inr ⟨kJ h,h⟩)
    ·exact .inr (.inl ⟨by rw[h];rfl,h⟩)
    ·exact .inl ⟨gp h,h⟩
   have sI:=afE x.natAbs y.natAbs ⟨by omega,by omega⟩
   simp only[du] at sI
   have hlen:(aF (x.natAbs+y.natAbs)).length<=1000000:=by
    refine iG ((fX (k:=61)).2 ?_) (by omega);have:(1048576^61:Nat)=cW*1048576:=by unfold cW;rw[<-z4]
    omega
   have eX:=Wz x.natAbs y.natAbs ⟨by omega,by omega⟩
   simp only[du] at eX
   by_cases aP:x.sign*y.sign>=0
   ·have tS:bits .or .i64 x.sign y.sign=yr [x.sign,y.sign]:=by
     rcases nT with ⟨e,_⟩|⟨e,_⟩|⟨e,_⟩<;>rcases ty with ⟨e',_⟩|⟨e',_⟩|⟨e',_⟩<;>rw[e,e'] at aP ⊢<;>first|rfl|exact absurd aP (by decide)
    have O:jX (yr [x.sign,y.sign]) (aF (x.natAbs+y.natAbs))=a9 (x+y):=by
     refine m3 ?_ ?_
     ·rcases nT with ⟨e,_⟩|⟨e,_⟩|⟨e,_⟩<;>rcases ty with ⟨e',_⟩|⟨e',_⟩|⟨e',_⟩<;>rw[e,e'] at aP<;>omega
     ·intro aA;rcases nT with ⟨e,_⟩|⟨e,_⟩|⟨e,_⟩<;>rcases ty with ⟨e',_⟩|⟨e',_⟩|⟨e',_⟩<;>rw[e,e'] at aP ⊢
      ·exact (gp (by omega)).symm
      ·exact (gp (by omega)).symm
      ·omega
      ·exact (gp (by omega)).symm
      ·omega
      ·exact (kJ (by omega)).symm
      ·omega
      ·exact (kJ (by omega)).symm
      ·exact (kJ (by omega)).symm
    rcases ch:(x.sign==0)
    ·rcases dB:(y.sign==0)
     ·have gu:(x.sign==y.sign)=true:=by
       rw[beq_eq_false_iff_ne] at ch dB;rw[beq_iff_eq];rcases nT with ⟨e,_⟩|⟨e,_⟩|⟨e,_⟩<;>rcases ty with ⟨e',_⟩|⟨e',_⟩|⟨e',_⟩<;>rw[e,e'] at aP ⊢<;>omega
      refine af ?_;repeat' (intro (ag:_=_)<;>simp only[ag,go_sem,go_sem_proc,fw,rO,jw,lK,gS,vR,L,aU,bq,bp,ch,dB,gu,tS,sI,hlen,O,vd,b3,en,ot]<;>try refine ab ?_ ?_)
     ·refine af ?_;repeat' (intro (ag:_=_)<;>simp only[ag,go_sem,go_sem_proc,fw,rO,jw,lK,gS,vR,L,aU,bq,bp,ch,dB,tS,sI,hlen,O,vd,b3,en,ot]<;>try refine ab ?_ ?_)
    ·refine af ?_;repeat' (intro (ag:_=_)<;>simp only[ag,go_sem,go_sem_proc,fw,rO,jw,lK,gS,vR,L,aU,bq,bp,ch,tS,sI,hlen,O,vd,b3,en,ot]<;>try refine ab ?_ ?_)
   ·have ch:(x.sign==0)=false:=by
     rw[beq_eq_false_iff_ne];rcases nT with ⟨e,_⟩|⟨e,_⟩|⟨e,_⟩<;>rw[e] at aP ⊢<;>omega
    have dB:(y.sign==0)=false:=by
     rw[beq_eq_false_iff_ne];rcases ty with ⟨e,_⟩|⟨e,_⟩|⟨e,_⟩<;>rw[e] at aP ⊢<;>omega
    have gu:(x.sign==y.sign)=false:=by
     rw[beq_eq_false_iff_ne];rcases nT with ⟨e,_⟩|⟨e,_⟩|⟨e,_⟩<;>rcases ty with ⟨e',_⟩|⟨e',_⟩|⟨e',_⟩<;>rw[e,e'] at aP ⊢<;>omega
    by_cases an:x.natAbs<y.natAbs
    ·have oZ:decide (x.natAbs<y.natAbs)=true:=mL an;have g1:=PU y.natAbs x.natAbs ⟨by omega,by omega⟩
     simp only[du] at g1;have ve:(aF (y.natAbs-x.natAbs)).length<=1000000:=iG (Ft _ _) (by omega)
     have O:jX y.sign (aF (y.natAbs-x.natAbs))=a9 (x+y):=by
      refine m3 ?_ ?_
      ·rcases nT with ⟨e,_⟩|⟨e,_⟩|⟨e,_⟩<;>rcases ty with ⟨e',_⟩|⟨e',_⟩|⟨e',_⟩<;>rw[e,e'] at aP<;>omega
      ·intro aA;rcases nT with ⟨e,_⟩|⟨e,_⟩|⟨e,_⟩<;>rcases ty with ⟨e',_⟩|⟨e',_⟩|⟨e',_⟩<;>rw[e,e'] at aP<;>rw[e']<;>first|omega|exact (gp (by omega)).symm|exact (kJ (by omega)).symm
     refine af ?_;repeat' (intro (ag:_=_)<;>simp only[ag,go_sem,go_sem_proc,fw,rO,jw,lK,gS,vR,L,aU,bq,bp,ch,dB,gu,eX,oZ,g1,ve,O,vd,b3,en,ot]<;>try refine ab ?_ ?_)
    ·have oZ:decide (x.natAbs<y.natAbs)=false:=me an;have g1:=PU x.natAbs y.natAbs ⟨by omega,by omega⟩
     simp only[du] at g1;have ve:(aF (x.natAbs-y.natAbs)).length<=1000000:=iG (Ft _ _) (by omega)
     have O:jX x.sign (aF (x.natAbs-y.natAbs))=a9 (x+y):=by
      refine m3 ?_ ?_
      ·rcases nT with ⟨e,_⟩|⟨e,_⟩|⟨e,_⟩<;>rcases ty with ⟨e',_⟩|⟨e',_⟩|⟨e',_⟩<;>rw[e,e'] at aP<;>omega
      ·intro aA;rcases nT with ⟨e,_⟩|⟨e,_⟩|⟨e,_⟩<;>rcases ty with ⟨e',_⟩|⟨e',_⟩|⟨e',_⟩<;>rw[e,e'] at aP<;>rw[e]<;>first|omega|exact (gp (by omega)).symm|exact (kJ (by omega)).symm
     refine af ?_;repeat' (intro (ag:_=_)<;>simp only[ag,go_sem,go_sem_proc,fw,rO,jw,lK,gS,vR,L,aU,bq,bp,ch,dB,gu,eX,oZ,g1,ve,O,vd,b3,en,ot]<;>try refine ab ?_ ?_)
  ·have aU:cI (s2,X)=false:=by simpa using aU
   have hm:lz (s,l) (s2,X)=((0,[]),1):=by unfold lz;rw[aU,iZ];rfl
   rw[hm];refine af ?_;repeat' (intro (ag:_=_)<;>simp only[ag,go_sem,go_sem_proc,fw,rO,jw,lK,gS,vR,L,aU,bq,bp,b3,en,bN]<;>try refine ab ?_ ?_)
 ·have L:cI (s,l)=false:=by simpa using L
  have hm:lz (s,l) (s2,X)=((0,[]),1):=by unfold lz;rw[L,eN];rfl
  rw[hm];refine af ?_;repeat' (intro (ag:_=_)<;>simp only[ag,go_sem,go_sem_proc,fw,rO,jw,lK,gS,vR,L,bq,bp,b3,en,bN]<;>try refine ab ?_ ?_)
def ast (b:Raw):(hx b).2.length<=60:=by
 unfold hx
 split
 ·rename_i h;obtain⟨z,a0,e⟩:=(ho _).1 h;rw[e,eJ];exact fX.2 (by rw[rr];exact a0)
 ·exact dF _
def xw (a b:Raw):Raw×Int:=if cI b=true then lz a (hx b) else ((0,[]),1)
def WM {z:Int}(h:z.natAbs<cW):hx (a9 z)=a9 (-z):=by unfold hx;rw[aJ (jZ h),eJ]
def asu {x y:Int}(J:x.natAbs<cW)(ai:y.natAbs<cW):xw (a9 x) (a9 y)=nR (x-y):=by
 unfold xw;rw[aJ (jZ ai),WM ai,Jp J (by rw[rr];exact ai)]
 rfl
def PY:=bG iO λ(s,l,s2,X)=>b8 (D l<=1000000/\D X<=1000000) (.same (en (xw (s,l) (s2,X))))
@[go_sem] def aBt (s l s2 X):=cj PY rfl qI (s,l,s2,X) rfl
def asv (T:bg)(fw:T kG=aE uC)(A0:T ES=aE K6)(xx:T IS=aE Lb):WF T aft PY:=by
 refine b5 λ(s,l,s2,X)=>cn λU=>⟨rfl,b4 ?_⟩;simp only[aft,iO,bV];obtain⟨bq,bp⟩:=U;unfold xw
 by_cases aU:cI (s2,X)=true
 ·rw[aJ aU];have mn:=ast (s2,X);rcases aA:hx (s2,X) with ⟨bS,bZ⟩;rw[aA] at mn;dsimp only at mn;have asw:(D bZ)<=1000000:=by omega
  refine af ?_;repeat' (intro h<;>simp only[h,go_sem,go_sem_proc,fw,A0,xx,aU,bq,bp,aA,asw,b3,en]<;>try refine ab ?_ ?_)
 ·have aU:cI (s2,X)=false:=by simpa using aU
  refine af ?_;repeat' (intro h<;>simp only[h,go_sem,go_sem_proc,fw,A0,xx,aU,bp,b3,en,bN]<;>try refine ab ?_ ?_)
end Go.Mini
