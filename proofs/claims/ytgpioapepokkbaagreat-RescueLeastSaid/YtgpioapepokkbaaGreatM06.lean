/- A part of the proof. -/
import Derived.Test.YtgpioapepokkbaaGreatM05
set_option linter.unusedSimpArgs false
set_option linter.unusedVariables false
set_option maxRecDepth 100000
set_option maxHeartbeats 4000000
noncomputable section
open Bool renaming and_eq_true->e4,and_false->h6,eq_iff_iff->qL,false_and->fS,not_eq_true'->pU,not_false->dt,not_true->cK,true_and->gW
open Decidable renaming em->dA
open Int renaming add_zero->sL,max_def->anH,reduceLE->amO,reduceToNat->amP,toNat_natCast->jX
open List renaming all_eq_true->kG,any_eq_false->xu,append_assoc->gM,append_nil->fC,concat_eq_append->Bv,cons_append->jW,drop->fT,drop_append->oG,drop_eq_nil_of_le->jQ,drop_succ_cons->CH,drop_zero->l1,eq_nil_or_concat->Bu,ext_getElem?->pH,filter_append->p8,filter_congr->ami,filter_cons_of_neg->r0,filter_cons_of_pos->qX,filter_eq_self->anz,filter_nil->oR,flatten_cons->jL,foldl_append->Nu,getD_eq_getElem?_getD->dY,getElem?_append_left->rj,getElem?_append_right->ss,getElem?_cons_succ->Nf,getElem?_cons_zero->zB,getElem?_drop->lv,getElem?_eq_getElem->bx,getElem?_eq_none->kF,getElem?_eq_some_iff->dP,getElem?_map->bl,getElem?_set_self->Kt,getElem?_take->vh,length->D,length_append->fH,length_cons->hN,length_eq_zero_iff->CQ,length_filter_le->mg,length_map->al,length_nil->lD,length_range->sA,length_replicate->Au,length_set->hP,length_singleton->Cb,length_take->gf,mapM_cons->lu,mapM_nil->Gp,map_append->kR,map_congr_left->lY,map_cons->eG,map_drop->Nz,map_map->nq,map_nil->cV,map_take->Ah,mem_cons->hj,mem_cons_of_mem->gx,mem_cons_self->fZ,mem_filter->s9,mem_iff_getElem?->qz,mem_map->ek,mem_map_of_mem->p5,mem_of_getElem?->ec,mem_range->ha,pairwise_append->SG,pairwise_cons->CU,range->dS,range_succ->oS,replicate->dG,replicate_succ->qo,set_append_left->alQ,set_append_right->EB,set_cons_succ->L4,set_eq_take_append_cons_drop->abI,take->fN,take_add_one->hv,take_append->Di,take_append_drop->sx,take_length->lf,take_of_length_le->dy,take_set_of_le->anm,take_succ_cons->wP,take_zero->m0
open List.cons renaming injEq->ba
open Nat renaming add_assoc->qn,add_comm->A1,le_refl->bZ,le_trans->eQ,mul_one->cL,one_mul->xX,reduceEqDiff->dJ,sub_self->lV,sub_zero->Cn,zero_add->kY,zero_le->fv,zero_mul->Dz
open Option renaming bind_none->hK,bind_some->kK,getD_none->anD,map_some->lB
open Option.some renaming injEq->cn
open Prod renaming ext->dT
open Prod.mk renaming injEq->fb
open Rat renaming add_zero->nI,div_def->H3,intCast_add->uD,intCast_mul->p3,intCast_natCast->oh,mul_zero->og,sub_eq_add_neg->Hg,zero_add->wi,zero_mul->Cp
namespace Go.Mini
open Go
def hM (c:Int)(q:Nat->R)(us:Nat->Int)(f:Int)(p:Bool):List R:=bD c::(bA 10 q++((bA 11 us).map bD++[bD f,ln p]))
theorem R8 (c:Int)(q:Nat->R)(us:Nat->Int)(f:Int)(p:Bool):(hM c q us f p).length=24:=by
 simp[hM,gI]
theorem abH {c:Int}{q:Nat->R}{us:Nat->Int}{f:Int}{p:Bool}{k:Nat}(O:k<10):(hM c q us f p)[1+k]?=some (q k):=by
 unfold hM;rw[A1,Nf,rj (by rw[gI];exact O)];exact jb q O
theorem aAS {c:Int}{q:Nat->R}{us:Nat->Int}{f:Int}{p:Bool}{k:Nat}(O:k<10):fN 1 (fT (1+k) (hM c q us f p))=[q k]:=wq (abH O)
theorem aAT {c:Int}{q:Nat->R}{us:Nat->Int}{f:Int}{p:Bool}{k:Nat}(O:k<11):fN 1 (fT (11+k) (hM c q us f p))=[.J (.int .i64 (us k))]:=by
 refine wq ?_;unfold hM;rw[show 11+k=(10+k)+1 by omega,Nf,ss (by rw[gI];omega),gI,rj (by rw[al,gI];omega),show 10+k-10=k by omega,bl,jb us O]
 rfl
theorem R9 {l:List R}{k:Nat}{v:R}(O:k<D l):fN k l++[v]++fT (k+1) l=l.set k v:=by
 rw[abI,ad O];simp
theorem abJ {c:Int}{q:Nat->R}{us:Nat->Int}{f:Int}{p:Bool}{k:Nat}(O:k<10)(v:R):(hM c q us f p).set (1+k) v=hM c (λj=>if j=k then v else q j) us f p:=by
 unfold hM;rw[A1,L4,alQ _ _ (by rw[gI];exact O),AE]
theorem aAU {c:Int}{q:Nat->R}{us:Nat->Int}{f:Int}{p:Bool}{k:Nat}(O:k<11)(v:Int):(hM c q us f p).set (11+k) (.J (.int .i64 v))=hM c q (λj=>if j=k then v else us j) f p:=by
 unfold hM;rw[show 11+k=(10+k)+1 by omega,L4,EB _ _ (by rw[gI];omega),gI,alQ _ _ (by rw[al,gI];omega),show 10+k-10=k by omega,<-AE,List.map_set]
 rfl
theorem AO {c:Int}{q ua:Nat->R}{us alR:Nat->Int}{f:Int}{p:Bool}(h:∀k,k<10->q k=ua k)(cG:∀k,k<11->us k=alR k):hM c q us f p=hM c ua alR f p:=by
 unfold hM;rw[jK h,jK cG]
theorem alS (T:bd){K:eW->bb->Prop}{kk:List gn}(lC:Mem)(eh Sa Sb:Nat)(c:Int)(q:Nat->R)(us:Nat->Int)(aJ c2:Int)(r:Nat)(am:Int)(ab:r<10)(ah:∀j,0<=us j/\us j<=4000000000000000000)(rT:0<=am/\am<=1000000000000000)(oU:eh≠228009)(alT alU alV alW:R)(tm:Nat->R)(m:Mem)
  (dk:tm 5=alT) (e0:tm 9=.ptr 228009 Sb 0) (ef:tm 10=.ptr eh Sa 0) (jw:tm 11=.J (.int .i64 (r+1:Nat))) (hd:tm 25=alU) (ig:tm 26=alV) (ih:tm 27=alW) (aAV:lC 228009=some (Sb,[.J (.int .i64 aJ),.J (.int .i64 c2),.J (.int .i64 r),.J (.int .i64 am)])) (I4:m eh=some (Sa,hM c q us 10 false)) (bT:∀k,k≠eh->m k=lC k)
  (dK:∀tm' m',tm' 5=alT->tm' 25=alU->tm' 26=alV->tm' 27=alW->m' eh=some (Sa,hM c q (λj=>us j+if r<j then am else 0) 10 false)->(∀k,k≠eh->m' k=lC k)->cJ T K kk (.exit 4) ⟨tm',m'⟩) :
  wp T (B7.body.sub [1,1,1,0,1,0,0,1,1,0,0,1,1,1,1,0]) (cJ T K kk) ⟨tm,m⟩:=by
 simp only[B7,ez.sub]
 refine dn [5,9,10,25,26,27] [] (λ(k:Nat) tm m=>r<k/\k<=11/\tm 11=.J (.int .i64 k)/\m eh=some (Sa,hM c q (λj=>us j+if r<j/\j<k then am else 0) 10 false)/\∀k,k≠eh->m k=lC k) (λk=>11-k) (r+1) (by
  refine⟨by omega,by omega,jw,?_,bT⟩
  rw[I4]
  congr 2
  exact AO (λ_ _=>rfl) λj _=>by rw[ag (by omega)];omega) ?_
 intro vs ms aV aS;simp only[go_sem,go_sem_proc,dk,e0,ef,hd,ig,ih] at aV aS;subst aV aS;clear dk e0 ef jw hd ig ih I4 bT tm m;rintro k tm m O-⟨hZ,aMt,jw,I4,bT⟩;simp only[go_sem,go_sem_proc,ba] at O;obtain⟨dk,e0,ef,hd,ig,ih⟩:=O;have aAW:=(bT 228009 (Ne.symm oU)).trans aAV;rcases dA (k<=10) with ay|cj
 ·have d1:decide ((k:Int)<=10)=true:=di;have bX:=ff (i:=k) (by omega);have hlen:=R8 c q (λj=>us j+if r<j/\j<k then am else 0) 10 false;have a7:=aAT (c:=c) (q:=q) (us:=λj=>us j+if r<j/\j<k then am else 0) (f:=10) (p:=false) (k:=k) (by omega);have dv:=(R9 (l:=hM c q (λj=>us j+if r<j/\j<k then am else 0) 10 false) (k:=11+k) (v:=.J (.int .i64 (us k+am))) (by rw[R8];omega)).trans (aAU (by omega) (us k+am))
  have hO:hM c q (λj=>if j=k then us k+am else us j+if r<j/\j<k then am else 0) 10 false=hM c q (λj=>us j+if r<j/\j<k+1 then am else 0) 10 false:=AO (λ_ _=>rfl) λj _=>by
   by_cases ai:j=k
   ·rw[ad ai,ai,ad ⟨hZ,by omega⟩]
   ·rw[ag ai]
    by_cases I:r<j/\j<k
    ·rw[ad I,ad ⟨I.1,by omega⟩]
    ·rw[ag I,ag (by omega)]
  rw[hO] at dv;rw[ag (by omega),sL] at a7;have Fb:IntKind.i64.wrap (us k+am)=us k+am:=by have:=ah k;rw[eS _]
  have ak:k<11:=by omega
  have bJ:(11+k+1<=24)=True:=eq_true (by omega);have E8:(eh==228009)=false:=beq_eq_false_iff_ne.2 oU;have Sc:(228009==eh)=false:=beq_eq_false_iff_ne.2 (Ne.symm oU);generalize hM c q (λj=>us j+if r<j/\j<k then am else 0) 10 false=D1 at *;generalize HU:hM c q (λj=>us j+if r<j/\j<k+1 then am else 0) 10 false=D2 at *;refine a0 ?_;repeat' (intro h<;>simp only[h,go_sem,go_sem_proc,dk,e0,ef,jw,hd,ig,ih,aAW,I4,d1,bX,hlen,a7,dv,Fb,ak,bJ,E8,Sc,cL]<;>try refine aw ?_ ?_)
  refine⟨k+1,by omega,by omega,by omega,rfl,by rw[HU],λj ai=>?_⟩
  simp only[a4,ai,if_false];exact bT j ai
 ·have d1:decide ((k:Int)<=10)=false:=c9;obtain rfl:k=11:=by omega
  have hO:hM c q (λj=>us j+if r<j/\j<11 then am else 0) 10 false=hM c q (λj=>us j+if r<j then am else 0) 10 false:=AO (λ_ _=>rfl) λj ai=>by
   by_cases I:r<j
   ·rw[ad ⟨I,ai⟩,ad I]
   ·rw[ag (by omega),ag I]
  rw[hO] at I4;refine a0 ?_;repeat' (intro h<;>simp only[h,go_sem,go_sem_proc,dk,e0,ef,jw,hd,ig,ih,d1]<;>try refine aw ?_ ?_)
  refine dK _ _ ?_ ?_ ?_ ?_ I4 bT<;>simp only[eV,dJ,if_false,dk,hd,ig,ih]
def ov (l:List aq)(e3:Nat->Nat->Nat)(i k:Nat):R:=if df l i k=[] then .nil else .ref (228600+10*i+k) (e3 i k) 4 0 (df l i k).length
structure y7 (E:List Int) (l:List aq) (g:Nat) (gs:Nat->Nat) (e3:Nat->Nat->Nat) (m:Mem):Prop where
 row:m 228023=some (g,bA (D E) λi => .ptr (228500+i) (gs i) 0)
 dx:∀i,i<(D E)->m (228500+i)=some (gs i,hM (E.getD i 0) (ov l e3 i) (λk=>cU l i (k:Nat)) 10 false)
 Ff:∀i k,i<(D E)->k<10->df l i k≠[]->m (228600+10*i+k)=some (e3 i k,bc b4 (df l i k))
theorem aAX (l:List aq)(c:aq)(i k:Nat):df (l++[c]) i k=if c.1=(i:Int)/\c.2.2.1=(k:Int) then df l i k++[c] else df l i k:=by
 unfold df;rw[p8]
 by_cases h:c.1=(i:Int)/\c.2.2.1=(k:Int)
 ·rw[ad h,qX (by simp[h.1,h.2]),oR]
 ·rw[ag h,r0 (by simpa using h),oR,fC]
theorem Ng (l:List aq)(aJ c2 c3 c4:Int)(i k:Nat):df (l++[(aJ,c2,c3,c4)]) i k=if aJ=(i:Int)/\c3=(k:Int) then df l i k++[(aJ,c2,c3,c4)] else df l i k:=aAX l _ i k
theorem aAY (l:List aq)(c:aq)(i r:Int):cU (l++[c]) i r=cU l i r+if c.1=i/\c.2.2.1<r then c.2.2.2 else 0:=by
 unfold cU;rw[Fa]
theorem alX (l:List aq)(aJ c2 c3 c4 i r:Int):cU (l++[(aJ,c2,c3,c4)]) i r=cU l i r+if aJ=i/\c3<r then c4 else 0:=aAY l _ i r
theorem y7.next {E:List Int}{l:List aq}{g:Nat}{gs:Nat->Nat}{e3:Nat->Nat->Nat}{m m':Mem}(h:y7 E l g gs e3 m)(aL:(D E)<=6){aJ c3:Nat}{c2 c4:Int}(gU:aJ<D E)(pP:c3<10)(q2:Nat)
  (eR:m' 228023=m 228023) (aAZ:∀i,i<(D E)->i≠aJ->m' (228500+i)=m (228500+i)) (fk:m' (228500+aJ)=some (gs aJ,hM (E.getD aJ 0) (λk=>if k=c3 then .ref (228600+10*aJ+c3) q2 4 0 ((df l aJ c3).length+1) else ov l e3 aJ k) (λk=>cU l aJ (k:Nat)+if c3<k then c4 else 0) 10 false))
  (Sd:m' (228600+10*aJ+c3)=some (q2,bc b4 (df l aJ c3++[((aJ:Int),c2,(c3:Int),c4)]))) (aA0:∀i k,i<(D E)->k<10->¬ (i=aJ/\k=c3)->m' (228600+10*i+k)=m (228600+10*i+k)):y7 E (l++[((aJ:Int),c2,(c3:Int),c4)]) g gs (λi k=>if i=aJ/\k=c3 then q2 else e3 i k) m':=by
 refine⟨by rw[eR];exact h.row,λi M=>?_,λi k M O bG=>?_⟩
 ·by_cases hic:i=aJ
  ·subst hic;rw[fk]
   congr 2
   refine AO (λk O=>?_) λk O=>?_
   ·unfold ov
    by_cases Ca:k=c3
    ·subst Ca;have aC:df (l++[((i:Int),c2,(k:Int),c4)]) i k=df l i k++[((i:Int),c2,(k:Int),c4)]:=by rw[Ng,ad ⟨rfl,rfl⟩]
     rw[aC,ad rfl,ag (by simp),fH];simp
    ·have aC:df (l++[((i:Int),c2,(c3:Int),c4)]) i k=df l i k:=by rw[Ng,ag (by omega)]
     rw[ag Ca,aC];dsimp only;rw[ag (show ¬ (i=i/\k=c3) by omega)]
   ·rw[alX]
    by_cases gC:c3<k
    ·rw[ad gC,ad (by omega)]
    ·rw[ag gC,ag (by omega)]
  ·rw[aAZ i M hic,h.dx i M]
   congr 2
   refine AO (λk O=>?_) λk O=>?_
   ·unfold ov;have aC:df (l++[((aJ:Int),c2,(c3:Int),c4)]) i k=df l i k:=by rw[Ng,ag (by omega)]
    rw[aC];dsimp only;rw[ag (show ¬ (i=aJ/\k=c3) by omega)]
   ·rw[alX,ag (by omega),sL]
 ·by_cases hic:i=aJ/\k=c3
  ·obtain⟨rfl,rfl⟩:=hic;have aC:df (l++[((i:Int),c2,(k:Int),c4)]) i k=df l i k++[((i:Int),c2,(k:Int),c4)]:=by rw[Ng,ad ⟨rfl,rfl⟩]
   rw[aC,ad ⟨rfl,rfl⟩];exact Sd
  ·have aC:df (l++[((aJ:Int),c2,(c3:Int),c4)]) i k=df l i k:=by rw[Ng,ag (by omega)]
   rw[aC] at bG ⊢;rw[ag hic,aA0 i k M O hic];exact h.Ff i k M O bG
theorem abK {K:bb->Prop}{tm:Nat->R}{mem mem':Mem}(h:sl mem mem')(dK:∀bh,bh=mem'->K ⟨tm,bh⟩):lr K ⟨tm,mem⟩ .many:=⟨mem',.step h (.refl _),dK _ rfl⟩
theorem abL {K:bb->Prop}{tm:Nat->R}{mem:Mem}(dK:∀bh,bh=mem->K ⟨tm,bh⟩):lr K ⟨tm,mem⟩ .many:=⟨mem,.refl _,dK _ rfl⟩
theorem iF {m:Mem}{k g:Nat}{cs:List R}:a4 m k g cs k=some (g,cs):=by simp[a4]
theorem dm {m:Mem}{k j g:Nat}{cs:List R}(h:k≠j):a4 m j g cs k=m k:=by
 simp only[a4];rw[ag h]
theorem aA1 (T:bd){K:eW->bb->Prop}{kk:List gn}(eC:Mem)(E:List Int)(cs:List aq)(X:eI E cs)(g:Nat)(gs:Nat->Nat)(e3:Nat->Nat->Nat)(tm:Nat->R)(m:Mem)
  (dk:tm 5=.ref 228023 g 1 0 (D E)) (hd:tm 25=.J (.Y (cs.map b4))) (ig:tm 26=.J (.int .i64 (D cs))) (ih:tm 27=.J (.int .i64 0)) (cp:y7 E [] g gs e3 m) (bT:et 228 eC m)
  (dK:∀tm' m' aA2,tm' 5=.ref 228023 g 1 0 (D E)->y7 E cs g gs aA2 m'->et 228 eC m'->cJ T K kk (.exit 2) ⟨tm',m'⟩) :
  wp T (B7.body.sub [1,1,1,0,1,0]) (cJ T K kk) ⟨tm,m⟩:=by
 simp only[B7,ez.sub];have aL:=X.jv;have ab:=(gd.1 X.right).2.2.2;have h8:=X.p7;refine dn [5,25,26] [] (λ((t,e3):Nat×(Nat->Nat->Nat)) tm m=>t<=D cs/\tm 27=.J (.int .i64 t)/\y7 E (cs.take t) g gs e3 m/\et 228 eC m) (λ(t,_)=>D cs-t) (0,e3) (by refine⟨by omega,ih,by rw[m0];exact cp,bT⟩) ?_;intro vs ms aV aS;simp only[go_sem,go_sem_proc,dk,hd,ig] at aV aS;subst aV aS;clear dk hd ig ih cp bT tm m;rintro⟨t,e3⟩ tm m O-⟨bF,ih,cp,bT⟩;simp only[go_sem,go_sem_proc,ba] at O;obtain⟨dk,hd,ig⟩:=O;rcases dA (t<D cs) with ay|cj
 ·have d1:decide ((t:Int)<(D cs:Int))=true:=di;have bX:=ff (i:=t) (by omega);obtain⟨⟨aJ,c2,c3,c4⟩,Q⟩:∃c,cs[t]?=some c:=⟨_,bx ay⟩;have lx:=ab _ (ec Q);dsimp only at lx;obtain⟨aJ,rfl⟩:∃k:Nat,aJ=(k:Int):=⟨aJ.toNat,by omega⟩
  obtain⟨c3,rfl⟩:∃k:Nat,c3=(k:Int):=⟨c3.toNat,by omega⟩
  have fY:cs.take (t+1)=cs.take t++[((aJ:Int),c2,(c3:Int),c4)]:=by rw[hv,Q];rfl
  generalize ar:cs.take t=l at *;have Nh:(D l)<=12:=by rw[<-ar,gf];omega
  have gU:aJ<D E:=by omega
  have pP:c3<10:=by omega
  have eR:=cp.row;have fk:=cp.dx aJ gU;have iv:=wq (jb (λi=>R.ptr (228500+i) (gs i) 0) gU);have b0:(bA (D E) λi=>R.ptr (228500+i) (gs i) 0).length=D E:=gI _ _;have hlen:=R8 (E.getD aJ 0) (ov l e3 aJ) (λk=>cU l aJ (k:Nat)) 10 false;have CM:=aAS (c:=E.getD aJ 0) (q:=ov l e3 aJ) (us:=λk=>cU l aJ (k:Nat)) (f:=10) (p:=false) pP;have eB:=λv=>(R9 (l:=hM (E.getD aJ 0) (ov l e3 aJ) (λk=>cU l aJ (k:Nat)) 10 false) (k:=1+c3) (v:=v) (by rw[R8];omega)).trans (abJ pP v);have dW:aJ+1<=D E:=by omega
  have bJ:(1+c3+1<=24)=True:=eq_true (by omega);have w1:=ff (i:=c3) (by omega);generalize IY:(bA (D E) λi=>R.ptr (228500+i) (gs i) 0)=xG at *;generalize Na:hM (E.getD aJ 0) (ov l e3 aJ) (λk=>cU l aJ (k:Nat)) 10 false=DC at *;generalize uP:228500+aJ=eh at *;have M5:(eh=228009)=False:=eq_false (by omega);have alY:(eh=228048)=False:=eq_false (by omega);have E8:(eh==228009)=false:=beq_eq_false_iff_ne.2 (by omega);have Sc:(228009==eh)=false:=beq_eq_false_iff_ne.2 (by omega);have alZ:(eh==228048)=false:=beq_eq_false_iff_ne.2 (by omega);have al0:(228048==eh)=false:=beq_eq_false_iff_ne.2 (by omega);have my:(1<=maxLen)=True:=eq_true (by decide);have aMu:=λj=>(ajJ X.right).upto aJ j
  have Eh:∀j:Nat,0<=cU l aJ (j:Nat)/\cU l aJ (j:Nat)<=4000000000000000000:=λj=>by
   have:=(ajJ X.right).sum (λc=>c.1=(aJ:Int)/\c.2.2.1<(j:Int)) t;rw[ar] at this;unfold cU;omega
  generalize Se:228600+10*aJ+c3=ky at *;have cT:(228009=eh)=False:=eq_false (by omega);have c7:(228009=ky)=False:=eq_false (by omega);have dZ:(228048=ky)=False:=eq_false (by omega);have fm:(228048=eh)=False:=eq_false (by omega);have oQ:(ky=eh)=False:=eq_false (by omega);have te:(eh=ky)=False:=eq_false (by omega);have akk:(ky=228009)=False:=eq_false (by omega);have aA3:(ky=228048)=False:=eq_false (by omega);have al1:(228009=228048)=False:=eq_false (by omega)
  have tail:∀(tm':Nat->R) (M2:Mem) (q2 Sb:Nat),tm' 5=.ref 228023 g 1 0 (D E)->tm' 25=.J (.Y (cs.map b4))->tm' 26=.J (.int .i64 (D cs))->tm' 27=.J (.int .i64 t)->M2 eh=some (gs aJ,hM (E.getD aJ 0) (λk=>if k=c3 then .ref ky q2 4 0 ((df l aJ c3).length+1) else ov l e3 aJ k) (λk=>cU l aJ (k:Nat)  + if c3<k then c4 else 0) 10 false)->M2 ky=some (q2,bc b4 (df l aJ c3++[((aJ:Int),c2,(c3:Int),c4)]))->(∀k:Nat,k≠228009->k≠228048->k≠eh->k≠ky->M2 k=m k)->y7 E (cs.take (t+1)) g gs (λi k=>if i=aJ/\k=c3 then q2 else e3 i k) M2/\et 228 eC M2:=by
   intro tm' M2 q2 Sb pq I5 I6 I7 Fg Ni nR;rw[fY];refine⟨y7.next cp aL gU pP q2 ?_ (λi M bG=>?_) ?_ ?_ λi k M O bG=>?_,λk O=>?_⟩
   ·exact nR 228023 (by omega) (by omega) (by omega) (by omega)
   ·exact nR (228500+i) (by omega) (by omega) (by omega) (by omega)
   ·rw[uP,Se];exact Fg
   ·rw[Se];exact Ni
   ·exact nR (228600+10*i+k) (by omega) (by omega) (by omega) (by omega)
   ·rw[nR k (by omega) (by omega) (by omega) (by omega)];exact bT k O
  by_cases hI:df l aJ c3=[]
  ·have gp:ov l e3 aJ c3=.nil:=by unfold ov;rw[ad hI]
   rw[gp] at CM;simp only[go_sem,go_sem_proc,my,dk,hd,ig,ih,Q,eR,fk,iv,b0,hlen,CM,eB,d1,dW,bJ,gU,pP,M5,alY,E8,Sc,alZ,al0,b4,cL,al,bl];refine abK (sl.N0 eh (gs aJ) _ (1+c3) 228048 (gD (m 228048)) 4 0 1 _ ky iF (abH pP |>.trans (by rw[ad rfl])) ((dm (by omega)).trans iF) (by show (228048:Nat)≠eh;omega) (by show ky≠(228048:Nat);omega) (by show ky≠eh;omega)) ?_;intro M2 g4;rw[abJ pP] at g4
   have Nj:M2 228009=some (gD (m 228009),[.J (.int .i64 aJ),.J (.int .i64 c2),.J (.int .i64 c3),.J (.int .i64 c4)]):=by
    rw[g4];simp only[Bh,cT,c7,al1,if_false,if_true]
   have Fg:∃q2,M2 eh=some (gs aJ,hM (E.getD aJ 0) (λk=>if k=c3 then .ref ky q2 4 0 ((df l aJ c3).length+1) else ov l e3 aJ k) (λk=>cU l aJ (k:Nat)) 10 false)/\M2 ky=some (q2,bc b4 (df l aJ c3++[((aJ:Int),c2,(c3:Int),c4)])):=by
    rw[hI];apply Exists.intro;apply And.intro
    rotate_left
    ·rw[g4];simp only[Bh,oQ,if_false,if_true];rfl
    ·rw[g4];simp only[Bh,if_true]
     congr 2
     refine AO (λk _=>?_) λ_ _=>rfl
     by_cases O:k=c3
     ·rw[ad O,ad O];rfl
     ·rw[ag O,ag O,ag O]
   obtain⟨q2,Fg,Ni⟩:=Fg
   have nR:∀k:Nat,k≠228009->k≠228048->k≠eh->k≠ky->M2 k=m k:=λk F I af aO=>by
    rw[g4];simp only[Bh,F,I,af,aO,if_false]
   clear g4;simp only[go_sem,go_sem_proc,Nj,w1,cT];refine alS T M2 eh (gs aJ) (gD (m 228009)) (E.getD aJ 0) (λk=>if k=c3 then .ref ky q2 4 0 ((df l aJ c3).length+1) else ov l e3 aJ k) (λk=>cU l aJ (k:Nat)) aJ c2 c3 c4 pP Eh (by omega) (by omega) (.ref 228023 g 1 0 (D E)) (.J (.Y (cs.map b4))) (.J (.int .i64 (D cs))) (.J (.int .i64 t)) _ _ ?_ ?_ ?_ ?_ ?_ ?_ ?_ Nj Fg (λ_ _=>rfl) ?_
   all_goals first|(intro tm' m' pq I5 I6 I7 abM Nk)|(simp only[eV,dJ,if_false,if_true,dk,hd,ig,ih];done)
   have iI:=tail tm' m' q2 0 pq I5 I6 I7 abM (by rw[Nk ky (by omega)];exact Ni) λk F I af aO=>by rw[Nk k af];exact nR k F I af aO
   refine a0 ?_;repeat' (intro h<;>simp only[h,go_sem,go_sem_proc,pq,I5,I6,I7,bX]<;>try refine aw ?_ ?_)
   exact⟨(t+1,λi k=>if i=aJ/\k=c3 then q2 else e3 i k),by dsimp only;omega,by dsimp only;omega,rfl,iI.1,iI.2⟩
  ·have gp:ov l e3 aJ c3=.ref ky (e3 aJ c3) 4 0 (df l aJ c3).length:=by unfold ov;rw[ag hI,Se]
   rw[gp] at CM;have Sd:=cp.Ff aJ c3 gU pP hI;rw[Se] at Sd;have dq:(df l aJ c3).length<=12:=eQ (mg _ _) Nh;have dC:=l3 AA Re ky (e3 aJ c3) 32 (df l aJ c3) ((aJ:Int),c2,(c3:Int),c4) (cs:=[.J (.int .i64 aJ),.J (.int .i64 c2),.J (.int .i64 c3),.J (.int .i64 c4)]) rfl (by omega) (by omega);have akm:(ky==228009)=false:=beq_eq_false_iff_ne.2 (by omega);have aA4:(228009==ky)=false:=beq_eq_false_iff_ne.2 (by omega);have aA5:(ky==eh)=false:=beq_eq_false_iff_ne.2 (by omega);have aA6:(eh==ky)=false:=beq_eq_false_iff_ne.2 (by omega);simp only[go_sem,go_sem_proc,my,dk,hd,ig,ih,Q,eR,fk,iv,b0,hlen,CM,eB,d1,dW,bJ,gU,pP,M5,alY,E8,Sc,alZ,al0,dZ,oQ,te,akk,aA3,akm,aA4,aA5,aA6,Sd,dC,b4,cL,al,bl];refine abL ?_;intro M2 g4
   have Nj:M2 228009=some (gD (m 228009),[.J (.int .i64 aJ),.J (.int .i64 c2),.J (.int .i64 c3),.J (.int .i64 c4)]):=by
    rw[g4];simp only[Bh,cT,c7,al1,if_false,if_true]
   have Fg:M2 eh=some (gs aJ,hM (E.getD aJ 0) (λk=>if k=c3 then .ref ky (e3 aJ c3+1) 4 0 ((df l aJ c3).length+1) else ov l e3 aJ k) (λk=>cU l aJ (k:Nat)) 10 false):=by
    rw[g4];simp only[Bh,if_true]
   have Ni:M2 ky=some (e3 aJ c3+1,bc b4 (df l aJ c3++[((aJ:Int),c2,(c3:Int),c4)])):=by
    rw[g4];simp only[Bh,oQ,if_false,if_true]
   have nR:∀k:Nat,k≠228009->k≠228048->k≠eh->k≠ky->M2 k=m k:=λk F I af aO=>by
    rw[g4];simp only[Bh,F,af,aO,if_false]
   clear g4;simp only[go_sem,go_sem_proc,Nj,w1,cT];refine alS T M2 eh (gs aJ) (gD (m 228009)) (E.getD aJ 0) (λk=>if k=c3 then .ref ky (e3 aJ c3+1) 4 0 ((df l aJ c3).length+1) else ov l e3 aJ k) (λk=>cU l aJ (k:Nat)) aJ c2 c3 c4 pP Eh (by omega) (by omega) (.ref 228023 g 1 0 (D E)) (.J (.Y (cs.map b4))) (.J (.int .i64 (D cs))) (.J (.int .i64 t)) _ _ ?_ ?_ ?_ ?_ ?_ ?_ ?_ Nj Fg (λ_ _=>rfl) ?_
   all_goals first|(intro tm' m' pq I5 I6 I7 abM Nk)|(simp only[eV,dJ,if_false,if_true,dk,hd,ig,ih];done)
   have iI:=tail tm' m' (e3 aJ c3+1) 0 pq I5 I6 I7 abM (by rw[Nk ky (by omega)];exact Ni) λk F I af aO=>by rw[Nk k af];exact nR k F I af aO
   refine a0 ?_;repeat' (intro h<;>simp only[h,go_sem,go_sem_proc,pq,I5,I6,I7,bX]<;>try refine aw ?_ ?_)
   exact⟨(t+1,λi k=>if i=aJ/\k=c3 then e3 aJ c3+1 else e3 i k),by dsimp only;omega,by dsimp only;omega,rfl,iI.1,iI.2⟩
 ·have d1:decide ((t:Int)<(D cs:Int))=false:=c9;rw[dy (by omega)] at cp;refine a0 ?_;repeat' (intro h<;>simp only[h,go_sem,go_sem_proc,dk,hd,ig,ih,d1]<;>try refine aw ?_ ?_)
  refine dK _ _ e3 ?_ cp bT;simp only[eV,dJ,if_false,dk]
theorem ts.trans {a b c:Mem}(h:ts a b)(cG:ts b c):ts a c:=by
 induction h with
 |refl=>exact cG
 |step F _ az=>exact .step F (az cG)
theorem al2 {K:bb->Prop}{tm:Nat->R}{mem mem':Mem}(h:ts mem mem')(dK:K ⟨tm,mem'⟩):lr K ⟨tm,mem⟩ .many:=⟨mem',h,dK⟩
def wA (l:List aq)(e3:Nat->Nat->Nat)(d i k:Nat):R:=if 10*i+k<d then kh (df l i k) else ov l e3 i k
structure xK (E:List Int) (l:List aq) (g:Nat) (gs:Nat->Nat) (e3:Nat->Nat->Nat) (d:Nat) (m:Mem):Prop where
 row:m 228023=some (g,bA (D E) λi => .ptr (228500+i) (gs i) 0)
 dx:∀i,i<(D E)->m (228500+i)=some (gs i,hM (E.getD i 0) (wA l e3 d i) (λk=>cU l i (k:Nat)) 10 false)
 Ff:∀i k,i<(D E)->k<10->d<=10*i+k->df l i k≠[]->m (228600+10*i+k)=some (e3 i k,bc b4 (df l i k))
theorem xK.step {E:List Int}{l:List aq}{g:Nat}{gs:Nat->Nat}{e3:Nat->Nat->Nat}{d:Nat}{m:Mem}(h:xK E l g gs e3 d m)(aL:(D E)<=6)(aa:d<10*D E):∃m',ts m m'/\xK E l g gs e3 (d+1) m'/\et 228 m m':=by
 obtain⟨i,k,M,O,rfl⟩:∃i k,i<D E/\k<10/\d=10*i+k:=⟨d/10,d%10,by omega,by omega,by omega⟩
 have abN:∀j r,j<(D E)->r<10->¬ (j=i/\r=k)->wA l e3 (10*i+k+1) j r=wA l e3 (10*i+k) j r:=λj r ai ab bG=>by
  unfold wA
  by_cases F:10*j+r<10*i+k
  ·rw[ad F,ad (by omega)]
  ·rw[ag F,ag (by omega)]
 by_cases H:df l i k=[]
 ·refine⟨m,.refl m,⟨h.row,λj ai=>?_,λj r ai ab aa bG=>h.Ff j r ai ab (by omega) bG⟩,et.refl _ _⟩;rw[h.dx j ai]
  congr 2
  refine AO (λr ab=>?_) λ_ _=>rfl
  by_cases ME:j=i/\r=k
  ·obtain⟨rfl,rfl⟩:=ME;unfold wA;rw[ag (by omega),ad (by omega)];unfold ov kh;rw[ad H,ad H]
  ·exact (abN j r ai ab ME).symm
 ·have ah:=h.dx i M;have dq:=h.Ff i k M O (bZ _) H
  have Wo:wA l e3 (10*i+k) i k=.ref (228600+10*i+k) (e3 i k) 4 0 (df l i k).length:=by
   unfold wA;rw[ag (by omega)];unfold ov;rw[ag H]
  have hk:=abH (c:=E.getD i 0) (q:=wA l e3 (10*i+k) i) (us:=λk=>cU l i (k:Nat)) (f:=10) (p:=false) O;rw[Wo] at hk;have vN:cE 1 m (.ref (228600+10*i+k) (e3 i k) 4 0 (df l i k).length)=some (.Y ((df l i k).map b4)):=pM (n:=0) AA dq;refine⟨_,.step (sl.N1 (228500+i) (gs i) _ (1+k) (228600+10*i+k) (e3 i k) 4 0 (df l i k).length _ (.Y ((df l i k).map b4)) ah hk dq (by show (228600+10*i+k:Nat)≠228500+i;omega) vN) (.refl _),⟨?_,λj ai=>?_,λj r ai ab aa bG=>?_⟩,λx Q=>?_⟩
  ·rw[dm (by show (228023:Nat)≠228500+i;omega)];unfold kill;rw[dm (by show (228023:Nat)≠228600+10*i+k;omega)];exact h.row
  ·by_cases h4:j=i
   ·subst h4;rw[iF,abJ O]
    congr 2
    refine AO (λr ab=>?_) λ_ _=>rfl
    by_cases hZ:r=k
    ·subst hZ;rw[ad rfl];unfold wA;rw[ad (by omega)];unfold kh;rw[ag H]
    ·rw[ag hZ];exact (abN j r ai ab (by omega)).symm
   ·rw[dm (by show (228500+j:Nat)≠228500+i;omega)];unfold kill;rw[dm (by show (228500+j:Nat)≠228600+10*i+k;omega),h.dx j ai]
    congr 2
    refine AO (λr ab=>(abN j r ai ab (by omega)).symm) λ_ _=>rfl
  ·rw[dm (by show (228600+10*j+r:Nat)≠228500+i;omega)];unfold kill;rw[dm (by show (228600+10*j+r:Nat)≠228600+10*i+k;omega)];exact h.Ff j r ai ab (by omega) bG
  ·have vq:x/1000≠228:=Q;rw[dm (by show x≠228500+i;omega)];unfold kill;rw[dm (by show x≠228600+10*i+k;omega)]
theorem xK.all {E:List Int}{l:List aq}{g:Nat}{gs:Nat->Nat}{e3:Nat->Nat->Nat}(aL:(D E)<=6):∀r d m,d+r=10*(D E)->xK E l g gs e3 d m->∃m',ts m m'/\xK E l g gs e3 (10*D E) m'/\et 228 m m'
 |0,d,m,aa,h=>⟨m,.refl m,by rw[<-aa];exact h,et.refl _ _⟩
 |r+1,d,m,aa,h=>by
  obtain⟨dN,F,I,af⟩:=h.step aL (by omega);obtain⟨cO,cd,c0,ev⟩:=xK.all aL r (d+1) dN (by omega) I;exact⟨cO,F.trans cd,c0,λx Q=>(ev x Q).trans (af x Q)⟩
theorem y7.aA7 {E:List Int}{l:List aq}{g:Nat}{gs:Nat->Nat}{e3:Nat->Nat->Nat}{m:Mem}(h:y7 E l g gs e3 m):xK E l g gs e3 0 m :=
 ⟨h.row,λi M=>by
  rw[h.dx i M]
  congr 2,λi k M O _ bG=>h.Ff i k M O bG⟩
def y8 (E:List Int)(cs:List aq)(g:Nat)(gs:Nat->Nat):dc:=⟨E,du (D E) cs,bA (D E) λ_=>10,nL (D E) λ_=>false,g,bA (D E) gs⟩
theorem aA8 {E:List Int}{cs:List aq}(h:eI E cs)(i r:Nat):cU (du (D E) cs) i r=cU cs i r:=by
 have F:=rU h.right i r;have I:=rU (aav h).right i r;rw[<-(ajT h.right).bt,<-F] at I;exact_mod_cast I
theorem y9 {α:Type}{n i:Nat}(q:Nat->α)(d:α)(h:i<n):(bA n q).getD i d=q i:=by
 rw[dY,jb q h];rfl
theorem xK.at {E:List Int}{cs:List aq}(X:eI E cs){g:Nat}{gs:Nat->Nat}{e3:Nat->Nat->Nat}{m:Mem}(h:xK E cs g gs e3 (10*D E) m):(y8 E cs g gs).eF m:=by
 refine⟨(ax4 _ _).symm,gI _ _,Rp _ _,gI _ _,?_,λi M=>?_⟩
 ·refine h.row.trans ?_
  congr 2
  exact jK λi M=>by
   show R.ptr (228500+i) (gs i) 0=R.ptr (228500+i) ((bA (D E) gs).getD i 0) 0;rw[y9 gs 0 M]
 ·have kn:i<D E:=M;refine (h.dx i kn).trans ?_;have aC:(y8 E cs g gs).gs.getD i 0=gs i:=y9 gs 0 kn;rw[aC]
  congr 2
  have aD:(bA (D E) λ_=>(10:Int)).getD i 10=10:=y9 _ _ kn;have b9:(nL (D E) λ_=>false).getD i false=false:=by rw[dY,Rq _ kn];rfl
  have dg:fG ((y8 E cs g gs).gJ i)=bD (E.getD i 0)::((bA 10 λk=>df (du (D E) cs) i k).map kh++((bA 11 λk=>cU (du (D E) cs) i (k:Nat)).map bD++[bD ((bA (D E) λ_=>(10:Int)).getD i 10),ln ((nL (D E) λ_=>false).getD i false)])):=rfl;rw[dg,aD,b9];unfold hM
  have dk:(bA 10 λk=>df (du (D E) cs) i k).map kh=bA 10 (wA cs e3 (10*D E) i):=by
   unfold bA;rw[nq];refine lY λk O=>?_;have L8:=ha.1 O;show kh (df (du (D E) cs) i k)=wA cs e3 (10*D E) i k;rw[ajP cs kn L8];unfold wA;rw[ad (by omega)]
  have bE:(bA 11 λk=>cU (du (D E) cs) i (k:Nat))=bA 11 λk=>cU cs i (k:Nat):=jK λk _=>aA8 X i k;rw[dk,bE]
theorem al3 {α:Type}(n:Nat)(q:Nat->α):bA (n+1) q=bA n q++[q n]:=by
 unfold bA;rw[oS,kR];rfl
structure abO (x:List Int×List aq) (mem:Mem):Prop where
 lQ:eI x.1 x.2
 no:r1 228 mem
def abP (x:List Int×List aq)(mem:Mem):R->Mem->Prop:=λm mem'=>∃g gs,m=.ref 228023 g 1 0 x.1.length/\(y8 x.1 x.2 g gs).eF mem'/\et 228 mem mem'
def abQ:List R->Mem->Option (R->Mem->Prop):=uq (λ(x:List Int×List aq) args mem=>args=[.J (.Y (x.1.map ae)),.J (.Y (x.2.map b4))]/\abO x mem) abP
theorem aA9 (E:List Int)(cs:List aq)(mem:Mem)(h:abO (E,cs) mem):abQ [.J (.Y (E.map ae)),.J (.Y (cs.map b4))] mem=some (abP (E,cs) mem):=by
 refine akg (a:=(E,cs)) ?_ ⟨rfl,h⟩;rintro⟨a,b⟩ ⟨c,d⟩ args mem ⟨aC,aD⟩ ⟨b9,dg⟩;rw[aC] at b9;simp only[ba,R.J.injEq,Data.Y.injEq,and_true] at b9;obtain⟨F,I⟩:=b9;rw[map_inj fp _ _ F,map_inj rZ _ _ I]
def al4 (_:Nat):R:=.nil
def al5 (_:Nat):Int:=0
theorem aBa (T:bd)(E:List Int)(cs:List aq)(mem:Mem)(aP:abO (E,cs) mem):
  wp T B7.body (oe B7.res (abP (E,cs) mem)) ⟨km [.J (.Y (E.map ae)),.J (.Y (cs.map b4))],mem⟩:=by
 obtain⟨X,h5⟩:=aP;dsimp only at X;have aL:=X.jv;have aBb:mem 228023=none:=h5 228023 (by decide);refine qs ?_;simp only[B7];simp only[go_sem,go_sem_proc,aBb,al]
 refine dn [1,12,13] [] (λ((i,g,gs):Nat×Nat×(Nat->Nat)) tm m=>i<=D E/\tm 14=.J (.int .i64 i)/\tm 5=.ref 228023 g 1 0 i/\m 228023=some (g,bA i λj => .ptr (228500+j) (gs j) 0)/\(∀j,j<i->m (228500+j)=some (gs j,hM (E.getD j 0) al4 al5 10 false))/\et 228 mem m) (λ(i,_)=>D E-i) (0,0,λ_=>0) (by
  refine⟨by omega,rfl,rfl,by simp[a4];rfl,λj ai=>by omega,(et.refl _ _).fa (by decide)⟩) ?_
 intro vs ms aV aS;simp only[go_sem,go_sem_proc] at aV aS;subst aV aS;rintro⟨i,g,gs⟩ tm m O-⟨M,HI,dk,eR,fk,bT⟩;simp only[go_sem,go_sem_proc,ba] at O;obtain⟨aC,gh,h9⟩:=O;rcases dA (i<D E) with ay|cj
 ·have d1:decide ((i:Int)<(D E:Int))=true:=di;have bX:=ff (i:=i) (by omega);obtain⟨y,av⟩:∃y,E[i]?=some y:=⟨_,bx ay⟩;have Xn:E.getD i 0=y:=by rw[dY,av];rfl
  have b0:(bA i λj=>R.ptr (228500+j) (gs j) 0).length=i:=gI _ _;have fY:fN i (bA i λj=>R.ptr (228500+j) (gs j) 0)=bA i λj=>R.ptr (228500+j) (gs j) 0:=dy (by omega);have dW:((i+1)*8<=140737488355328)=True:=eq_true (by omega);have ak:(i+1<=maxLen)=True:=eq_true (by unfold maxLen;omega);have bJ:(i<=i)=True:=eq_true (bZ _)
  have dC:mx 228023 g 1 i 8 1 [.ptr 228021 (gD (m 228021)) 0] (some (g,bA i λj=>R.ptr (228500+j) (gs j) 0))=some (.ref 228023 (g+1) 1 0 (i+1),some (228023,g+1,(bA i λj=>R.ptr (228500+j) (gs j) 0)++[.ptr 228021 (gD (m 228021)) 0])):=by
   unfold mx;dsimp only;rw[ad ⟨rfl,by rw[gI];omega,by omega,by unfold maxLen;omega,rfl⟩,cL,fY]
  generalize IY:(bA i λj=>R.ptr (228500+j) (gs j) 0)=xG at *;simp only[go_sem,go_sem_proc,aC,dk,gh,h9,HI,eR,av,b0,dC,d1,ae,cL,al,bl]
  have Sf:(xG++[R.ptr 228021 (gD (m 228021)) 0])[i]?=some (.ptr 228021 (gD (m 228021)) 0):=by
   rw[ss (by omega),b0];simp
  have cT:(228021=228022)=False:=eq_false (by decide);refine abK (sl.adm 228023 (g+1) _ i 228021 (gD (m 228021)) 0 _ (228500+i) iF Sf ((dm (by decide)).trans ((dm (by decide)).trans iF)) (by decide) (by show (228500+i:Nat)≠228021;omega) (by show (228500+i:Nat)≠228023;omega)) ?_;intro M2 g4
  have mP:∀p,(xG++[R.ptr 228021 (gD (m 228021)) 0]).set i p=xG++[p]:=λp=>by
   rw[EB _ _ (by omega),b0,lV];rfl
  rw[mP] at g4
  obtain⟨I8,al6,aBc⟩:∃I8,M2 228023=some (g+1,xG++[.ptr (228500+i) I8 0])/\M2 (228500+i)=some (I8,hM y al4 al5 10 false):=by
   apply Exists.intro;apply And.intro
   rotate_left
   ·rw[g4,dm (by show (228500+i:Nat)≠228023;omega),iF];rfl
   ·rw[g4,iF]
  have nR:∀k:Nat,k≠228021->k≠228022->k≠228023->k≠228500+i->M2 k=m k:=λk F I af aO=>by
   rw[g4,dm af,dm aO,dm F,dm af,dm I,dm F]
  clear g4
  have hO:xG++[R.ptr (228500+i) I8 0]=bA (i+1) λj => .ptr (228500+j) (if j=i then I8 else gs j) 0:=by
   rw[al3,ad rfl,<-IY]
   congr 1
   exact jK λj ai=>by rw[ag (by omega)]
  rw[hO] at al6;refine a0 ?_;repeat' (intro h<;>simp only[h,go_sem,go_sem_proc,aC,gh,h9,HI,bX]<;>try refine aw ?_ ?_)
  refine⟨(i+1,g+1,λj=>if j=i then I8 else gs j),by dsimp only;omega,by dsimp only;omega,rfl,rfl,al6,λj ai=>?_,λk O=>?_⟩
  ·by_cases h4:j=i
   ·subst h4;dsimp only;rw[ad rfl,aBc,Xn]
   ·dsimp only;rw[ag h4,nR (228500+j) (by omega) (by omega) (by omega) (by omega)];exact fk j (by dsimp only at ai;omega)
  ·rw[nR k (by omega) (by omega) (by omega) (by omega)];exact bT k O
 ·have d1:decide ((i:Int)<(D E:Int))=false:=c9;obtain rfl:i=D E:=by omega
  simp only[go_sem,go_sem_proc,aC,dk,gh,h9,HI,d1,al];refine aA1 T mem E cs X g gs (λ_ _=>0) _ _ ?_ ?_ ?_ ?_ ⟨eR,λj ai=>?_,λj k ai O bG=>absurd rfl bG⟩ bT ?_
  all_goals first|(intro tm' m' e3 pq cp wv)|(simp only[eV,dJ,if_false,if_true,aC,dk];done)|skip
  ·rw[fk j ai]
   congr 2
  obtain⟨cO,F,I,af⟩:=xK.all aL (10*D E) 0 m' (by omega) cp.aA7;simp only[go_sem,go_sem_proc];refine al2 F ?_;refine a0 ?_;repeat' (intro h<;>simp only[h,go_sem,go_sem_proc,pq]<;>try refine aw ?_ ?_)
  exact⟨_,rfl,g,gs,rfl,I.at X,λk O=>(af k O).trans (wv k O)⟩
def q3 (l:List aq)(r:Int):Int:=cv l λc=>if c.2.2.1<r then c.2.2.2 else 0
def gS (l:List aq)(r:Int):Int:=cv l λc=>if c.2.2.1=r then c.2.2.2 else 0
theorem al7 (l:List aq)(r:Int):q3 l (r+1)=q3 l r+gS l r:=by
 unfold q3 gS;rw[<-aaJ];refine H8 λc _=>?_
 by_cases F:c.2.2.1<r
 ·rw[ad F,ad (by omega),ag (by omega)];omega
 ·by_cases I:c.2.2.1=r
  ·rw[ad (by omega),ag F,ad I];omega
  ·rw[ag (by omega),ag F,ag I];rfl
def g7 (l:List aq)(x:Rat)(k:Nat):Rat:=pos (x-((q3 l k:Int):Rat))
theorem ku.abR {l:List aq}(h:ku l)(r:Int):0<=gS l r/\gS l r<=12000000000000000:=h.bound λc=>c.2.2.1=r
theorem ku.aBd {l:List aq}(h:ku l)(r:Int):0<=q3 l r/\q3 l r<=12000000000000000:=h.bound λc=>c.2.2.1<r
theorem aBe (l:List aq)(x:Rat)(k:Nat):0<=g7 l x k:=EJ _
theorem aBf {l:List aq}(h:ku l){x:Rat}(Q:0<=x):g7 l x 0=x:=by
 have:q3 l (0:Nat)=0:=by
  unfold q3
  have:(cv l λc=>if c.2.2.1<((0:Nat):Int) then c.2.2.2 else 0)=cv l λ_=>0:=H8 λc H=>by
   have:=(h.c c H).2.2.2.2.1;rw[ag (by omega)]
  rw[this];clear h this
  induction l with
  |nil=>rfl
  |cons c l az=>simp only[cv,az];omega
 unfold g7;rw[this,rR]<;>grind
theorem aBg {l:List aq}(h:ku l){x:Rat}{k:Nat}(he:((gS l k:Int):Rat)<=g7 l x k):g7 l x (k+1)=g7 l x k-((gS l k:Int):Rat):=by
 have F:=al7 l k;have ao:=(h.abR k).1;have aMv:(0:Rat)<=((gS l k:Int):Rat):=by exact_mod_cast ao
 unfold g7 at *;rw[show ((k+1:Nat):Int)=(k:Int)+1 by omega,F,uD]
 by_cases aF:x-((q3 l k:Int):Rat)<=0
 ·have aC:=uA aF;rw[aC] at he ⊢;rw[uA (by grind)];grind
 ·have aC:=rR (x:=x-((q3 l k:Int):Rat)) (by grind);rw[aC] at he ⊢;rw[rR (by grind)];grind
theorem aBh {l:List aq}{x:Rat}{k:Nat}(he:¬ ((gS l k:Int):Rat)<=g7 l x k):g7 l x (k+1)=0:=by
 have F:=al7 l k;have I:=Mr (x-((q3 l k:Int):Rat));unfold g7 at *;rw[show ((k+1:Nat):Int)=(k:Int)+1 by omega,F,uD,uA (by grind)]
section
variable {l:List aq} (h:ku l) {x:Rat} {k:Nat} {c:aq} (H:c∈l) (O:c.2.2.1=k)
include h H O
theorem al8:cU l c.1 c.2.2.1=q3 l k/\kT l c.1 c.2.2.1=gS l k:=by
 rw[O];exact⟨(h.less H k).symm,(h.same H k).symm⟩
theorem aBi (he:((gS l k:Int):Rat)<=g7 l x k):fB l x c=(c.2.2.2:Rat):=by
 obtain⟨aC,aD⟩:=al8 h H O;have aL:∀c∈l,0<=c.2.2.2:=λc H=>(h.c c H).2.2.2.2.2.2.1
 by_cases aF:x-((q3 l k:Int):Rat)<=0
 ·have ao:g7 l x k=0:=uA aF;rw[ao] at he;have cS:gS l k<=0:=by exact_mod_cast he
  have aP:=aky aL H;rw[aD] at aP;have aMw:=aL c H;rw[akz aL H (by rw[aC];exact aF),show c.2.2.2=0 by omega];rfl
 ·refine ayE ?_;rw[aC,aD];unfold g7 at he;rwa [rR (by grind)] at he
theorem aBj (he:¬ ((gS l k:Int):Rat)<=g7 l x k):fB l x c=(c.2.2.2:Rat)*g7 l x k/((gS l k:Int):Rat):=by
 obtain⟨aC,aD⟩:=al8 h H O;have aL:∀c∈l,0<=c.2.2.2:=λc H=>(h.c c H).2.2.2.2.2.2.1
 by_cases aF:x-((q3 l k:Int):Rat)<=0
 ·have ao:g7 l x k=0:=uA aF;rw[akz aL H (by rw[aC];exact aF),ao,og,H3,Cp]
 ·have ao:g7 l x k=x-((q3 l k:Int):Rat):=rR (by grind);rw[ayF (by rw[aC];grind) (by rw[aC,aD,<-ao];grind),aC,aD,ao]
end
theorem al9 {l:List aq}{x:Rat}(h:Iy l x)(k:Nat):dX 515 (g7 l x k):=by
 have gu:=h.own.aBd k;unfold g7 pos
 split
 ·exact (show dX 1 0 from⟨by decide,by decide⟩).mono (by omega)
 ·rw[Hg];exact (Z1 h.sz (Cy (xD (z:=q3 l k) (b:=54) (by omega)))).mono (by omega)
def abS:=ck Iz λ(x,a,b)=>some (.same (.bool (decide (a<=x)&&decide (x<=b))))
@[go_sem] theorem aMx (x:Int)(a:Int)(b:Int):abS [.int .i64 x,.int .i64 a,.int .i64 b]=some (.same (.bool (decide (a<=x)&&decide (x<=b)))):=cx Rx (x,a,b)
theorem aBk (T:bd)  (x:Int) (a:Int) (b:Int):WP T aal (.same (.bool (decide (a<=x)&&decide (x<=b)))) [.J (.int .i64 x),.J (.int .i64 a),.J (.int .i64 b)]:=by
 refine cy ?_;simp only[aal];rcases aJ:decide (a<=x)
 ·have c2:decide (x>=a)=false:=aJ;refine a0 ?_;repeat' (intro h<;>simp only[h,go_sem,go_sem_proc,aJ,c2,fS]<;>try refine aw ?_ ?_)
 ·have c2:decide (x>=a)=true:=aJ;refine a0 ?_;repeat' (intro h<;>simp only[h,go_sem,go_sem_proc,aJ,c2,gW]<;>try refine aw ?_ ?_)
abbrev abT:List aq->List Data:=λ(l:List aq)=>[.Y (l.map b4)]
def Sg:=ck abT λ(l:List aq)=>cR (ku l) (.same (.bool true))
theorem aBl:∀a b,abT a=abT b->a=b:=by
  intro dW ak h;simp only[ba,Data.Y.injEq,and_true] at h;exact map_inj rZ _ _ h
@[go_sem] theorem aMy (l:List aq)(H:ku l):Sg [.Y (l.map b4)]=some (.same (.bool true)):=(cx aBl l).trans (cW H _)
theorem aBm (T:bd)(Nl:T GF=aW abS)(l:List aq)(H:ku l):WP T aaj (.same (.bool true)) [.J (.Y (l.map b4))]:=by
 refine cy ?_;simp only[aaj];have ar:=H.len;simp only[go_sem,go_sem_proc,Nl,al];refine dn [0,5,6] [] (λ(i:Nat) tm mem=>i<=D l/\tm 7=.J (.int .i64 i)) (λi=>D l-i) 0 (by refine⟨by omega,rfl⟩) ?_;intro vs ms aV aS;simp only[go_sem,go_sem_proc,Nl,al] at aV aS;subst aV aS;rintro i tm mem O hm ⟨M,bP⟩;simp only[go_sem,go_sem_proc,Nl,ba] at O hm;obtain⟨ao,bm,bK⟩:=O;rcases dA (i<D l) with ay|cj
 ·have d1:decide ((i:Int)<(D l:Int))=true:=di;have bX:=ff (i:=i) (by omega);obtain⟨⟨aJ,c2,c3,c4⟩,Q⟩:∃c,l[i]?=some c:=⟨_,bx ay⟩;obtain⟨⟨cT,c7,dZ,fm⟩,rI⟩:∃c,l[0]?=some c:=⟨_,bx (by omega)⟩;have ht:=H.c _ (ec Q);have ya:=H.one _ (ec Q) _ (ec rI);dsimp only at ht ya;subst ya;have fl:(decide (0<=aJ)&&decide (aJ<=59))=true:=by simp only[e4,decide_eq_true_eq];omega
  have e6:(decide (-1<=c2)&&decide (c2<=59))=true:=by simp only[e4,decide_eq_true_eq];omega
  have rX:(decide (0<=c3)&&decide (c3<=9))=true:=by simp only[e4,decide_eq_true_eq];omega
  have m9:(decide (0<=c4)&&decide (c4<=1000000000000000))=true:=by simp only[e4,decide_eq_true_eq];omega
  refine a0 ?_;repeat' (intro h<;>simp only[h,go_sem,go_sem_proc,Nl,ao,bm,bK,bP,Q,rI,d1,bX,fl,e6,rX,m9,b4,bne,beq_self_eq_true,cK,al,bl]<;>try refine aw ?_ ?_)
  exact⟨i+1,by omega,by omega,rfl⟩
 ·have d1:decide ((i:Int)<(D l:Int))=false:=c9;have d2:decide ((D l:Int)<=2000)=true:=di;refine a0 ?_;repeat' (intro h<;>simp only[h,go_sem,go_sem_proc,Nl,ao,bm,bK,bP,d1,d2,al]<;>try refine aw ?_ ?_)
theorem aBn (T:bd){K:eW->bb->Prop}{kk:List gn}(l:List aq)(ar:ku l)(k:Nat)(v1 v6 r8:R)(Fh:R)(bY ow ama:Option (Nat×List R))(tm:Nat->R)(m:Mem)
  (aC:tm 1=v1) (bE:tm 6=v6) (bR:tm 7=r8) (dE:tm 8=.J (.int .i64 k)) (e0:tm 9=.J (.int .i64 0)) (ki:tm 37=Fh) (I9:tm 40=.J (.Y (l.map b4))) (Ja:tm 41=.J (.int .i64 (D l))) (Jb:tm 42=.J (.int .i64 0)) (cO:m 249002=bY) (lh:m 249007=ow) (ox:m 249035=ama)
  (dK:∀tm' m',tm' 1=v1->tm' 6=v6->tm' 7=r8->tm' 8=.J (.int .i64 k)->tm' 9=.J (.int .i64 (gS l k))->tm' 37=Fh->m' 249002=bY->m' 249007=ow->m' 249035=ama->cJ T K kk (.exit 2) ⟨tm',m'⟩) :
  wp T (EU.body.sub [1,1,1,1,0,1,0,0,1,1,0,0,1,1,0,1,0]) (cJ T K kk) ⟨tm,m⟩:=by
 simp only[EU,ez.sub];have ah:=λt=>ar.cs.sum (λc=>c.2.2.1=(k:Int)) t;have hlen:=ar.len;refine dn [1,6,7,8,37,40,41] [249002,249007,249035] (λ(t:Nat) tm m=>t<=D l/\tm 42=.J (.int .i64 t)/\tm 9=.J (.int .i64 (gS (l.take t) k))) (λt=>D l-t) 0 (by refine⟨by omega,Jb,e0⟩) ?_;intro vs ms aV aS;simp only[go_sem,go_sem_proc,aC,bE,bR,dE,ki,I9,Ja,cO,lh,ox] at aV aS;subst aV aS;clear aC bE bR dE e0 ki I9 Ja Jb cO lh ox tm m;rintro t tm m O hm ⟨bF,Jb,e0⟩;simp only[go_sem,go_sem_proc,ba] at O hm;obtain⟨aC,bE,bR,dE,ki,I9,Ja⟩:=O;obtain⟨cO,lh,ox⟩:=hm;rcases dA (t<D l) with ay|cj
 ·have d1:decide ((t:Int)<(D l:Int))=true:=di;have bX:=ff (i:=t) (by omega);obtain⟨⟨aJ,c2,c3,c4⟩,Q⟩:∃c,l[t]?=some c:=⟨_,bx ay⟩
  have dv:gS (l.take (t+1)) k=gS (l.take t) k+if c3=(k:Int) then c4 else 0:=by
   unfold gS;rw[axQ Q]
  have F:=ah t;have I:=ah (t+1);have age:gS (l.take t) k=cv (l.take t) λc=>if c.2.2.1=(k:Int) then c.2.2.2 else 0:=rfl;have aBo:gS (l.take (t+1)) k=cv (l.take (t+1)) λc=>if c.2.2.1=(k:Int) then c.2.2.2 else 0:=rfl;rw[<-age] at F;rw[<-aBo] at I;rcases q:(c3==(k:Int))
  ·rw[ag (by have:=ne_of_beq_false q;omega),sL] at dv;refine a0 ?_;repeat' (intro h<;>simp only[h,go_sem,go_sem_proc,aC,bE,bR,dE,e0,ki,I9,Ja,Jb,cO,lh,ox,Q,d1,bX,q,b4,al,bl]<;>try refine aw ?_ ?_)
   exact⟨t+1,by omega,by omega,rfl,by rw[dv]⟩
  ·rw[ad (by have:=eq_of_beq q;omega)] at dv;have Fb:IntKind.i64.wrap (gS (l.take t) k+c4)=gS (l.take (t+1)) k:=by rw[dv,wrap64 _ (by omega) (by omega)]
   refine a0 ?_;repeat' (intro h<;>simp only[h,go_sem,go_sem_proc,aC,bE,bR,dE,e0,ki,I9,Ja,Jb,cO,lh,ox,Q,d1,bX,q,Fb,b4,al,bl]<;>try refine aw ?_ ?_)
   exact⟨t+1,by omega,by omega,rfl,rfl⟩
 ·have d1:decide ((t:Int)<(D l:Int))=false:=c9;rw[dy (by omega)] at e0;refine a0 ?_;repeat' (intro h<;>simp only[h,go_sem,go_sem_proc,aC,bE,bR,dE,e0,ki,I9,Ja,Jb,d1]<;>try refine aw ?_ ?_)
  refine dK _ _ ?_ ?_ ?_ ?_ ?_ ?_ cO lh ox<;>simp only[eV,dJ,if_false,aC,bE,bR,dE,e0,ki]
def lR (l:List aq)(x:Rat)(k t j:Nat):Option bo:=if (l.getD j jc).2.2.1<(k:Int)\/((l.getD j jc).2.2.1=(k:Int)/\j<t) then some (EZ l x j) else none
theorem aBp (l:List aq)(h:ku l)(x:Rat):(bA (D l) λj=>lR l x 0 0 j)=bA (D l) λ_=>none:=jK λj ai=>by
 have:=(h.c _ (ec (bx ai))).2.2.2.2.1;have e:l.getD j jc=l[j]:=by rw[dY,bx ai];rfl
 unfold lR;rw[e,ag (by omega)]
theorem aBq (l:List aq)(x:Rat)(k:Nat):(bA (D l) λj=>lR l x k (D l) j)=bA (D l) λj=>lR l x (k+1) 0 j:=jK λj ai=>by
 unfold lR
 by_cases h:(l.getD j jc).2.2.1<((k+1:Nat):Int)
 ·rw[ad (by omega),ad (.inl h)]
 ·rw[ag (by omega),ag (by omega)]
theorem aBr (l:List aq)(h:ku l)(x:Rat):(bA (D l) λj=>lR l x 10 0 j)=bA (D l) λj=>some (EZ l x j):=jK λj ai=>by
 have:=(h.c _ (ec (bx ai))).2.2.2.2.2.1;have e:l.getD j jc=l[j]:=by rw[dY,bx ai];rfl
 unfold lR;rw[e,ad (.inl (by omega))]
theorem Nm {n:Int}(h:dw n):Io [.int .i64 n]=some (.same (.agg (aH (au (n:Rat))))):=axS n h
theorem aBs (T:bd)(mT:T vC=aW Io)(mb:T wS=aW yL)(pn:T DJ=aW Ep){K:eW->bb->Prop}{kk:List gn}(l:List aq)(x:Rat)(jD:Iy l x)(k:Nat)(bL lo:Nat)(v1 Fh:R)(bY:Option (Nat×List R))(tm:Nat->R)(m:Mem)
  (aC:tm 1=v1) (bE:tm 6=.ref 249035 bL 4 0 (D l)) (bR:tm 7=.ptr 249007 lo 0) (dE:tm 8=.J (.int .i64 k)) (e0:tm 9=.J (.int .i64 (gS l k))) (gh:tm 12=.J (.bool (decide (((gS l k:Int):Rat)<=g7 l x k)))) (ki:tm 37=Fh) (kx:tm 60=.J (.Y (l.map b4))) (tj:tm 61=.J (.int .i64 (D l))) (Fi:tm 62=.J (.int .i64 0)) (cO:m 249002=bY) (lh:m 249007=some (lo,(aH (au (g7 l x k))).map .J)) (ox:m 249035=some (bL,mi qY (bA (D l) λj=>lR l x k 0 j)))
  (dK:∀tm' m',tm' 1=v1->tm' 6=.ref 249035 bL 4 0 (D l)->tm' 7=.ptr 249007 lo 0->tm' 9=.J (.int .i64 (gS l k))->tm' 12=.J (.bool (decide (((gS l k:Int):Rat)<=g7 l x k)))->tm' 37=Fh->m' 249002=bY->m' 249007=some (lo,(aH (au (g7 l x k))).map .J)->m' 249035=some (bL,mi qY (bA (D l) λj=>lR l x (k+1) 0 j))->cJ T K kk (.exit 4) ⟨tm',m'⟩) :
  wp T (EU.body.sub [1,1,1,1,0,1,0,0,1,1,0,0,1,1,1,1,0,1,0]) (cJ T K kk) ⟨tm,m⟩:=by
 simp only[EU,ez.sub];have how:=jD.own;have hlen:=how.len;refine dn [1,6,7,8,9,12,37,60,61] [249002,249007] (λ(t:Nat) tm m=>t<=D l/\tm 62=.J (.int .i64 t)/\m 249035=some (bL,mi qY (bA (D l) λj=>lR l x k t j))) (λt=>D l-t) 0 (by refine⟨by omega,Fi,ox⟩) ?_;intro vs ms aV aS;simp only[go_sem,go_sem_proc,aC,bE,bR,dE,e0,gh,ki,kx,tj,cO,lh] at aV aS;subst aV aS;clear aC bE bR dE e0 gh ki kx tj Fi cO lh ox tm m;rintro t tm m O hm ⟨bF,Fi,ox⟩;simp only[go_sem,go_sem_proc,ba] at O hm;obtain⟨aC,bE,bR,dE,e0,gh,ki,kx,tj⟩:=O;obtain⟨cO,lh⟩:=hm;rcases dA (t<D l) with ay|cj
 ·have d1:decide ((t:Int)<(D l:Int))=true:=di;have bX:=ff (i:=t) (by omega);obtain⟨⟨aJ,c2,c3,c4⟩,Q⟩:∃c,l[t]?=some c:=⟨_,bx ay⟩;have gp:=ec Q;have lX:=how.c _ gp;dsimp only at lX;have wG:l.getD t jc=(aJ,c2,c3,c4):=by rw[dY,Q];rfl
  have Nn:=aaH (q:=λj=>lR l x k t j) ay;rcases q:(c3==(k:Int))
  ·have bG:c3≠(k:Int):=ne_of_beq_false q
   have hO:(bA (D l) λj=>lR l x k (t+1) j)=bA (D l) λj=>lR l x k t j:=jK λj _=>by
    unfold lR
    by_cases ai:j=t
    ·subst ai;rw[wG];dsimp only
     by_cases F:c3<(k:Int)
     ·rw[ad (.inl F),ad (.inl F)]
     ·rw[ag (by omega),ag (by omega)]
    ·by_cases F:(l.getD j jc).2.2.1<(k:Int)\/((l.getD j jc).2.2.1=(k:Int)/\j<t)
     ·rw[ad F,ad (by omega)]
     ·rw[ag F,ag (by omega)]
   refine a0 ?_;repeat' (intro h<;>simp only[h,go_sem,go_sem_proc,aC,bE,bR,dE,e0,gh,ki,kx,tj,Fi,cO,lh,Q,d1,bX,q,b4,bne,dt,al,bl]<;>try refine aw ?_ ?_)
   exact⟨t+1,by omega,by omega,rfl,by rw[hO];exact ox⟩
  ·have abU:c3=(k:Int):=eq_of_beq q;have mP:=λa b c d=>aaI (q:=λj=>lR l x k t j) ay a b c d
   have vo:∀aQ:bo,aQ=EZ l x t->(bA (D l) λj=>if j=t then some aQ else lR l x k t j)=bA (D l) λj=>lR l x k (t+1) j:=by
    intro aQ eA;refine jK λj _=>?_
    by_cases ai:j=t
    ·subst ai;rw[ad rfl];unfold lR;rw[wG,ad (.inr ⟨abU,by omega⟩),eA]
    ·rw[ag ai];unfold lR
     by_cases F:(l.getD j jc).2.2.1<(k:Int)\/((l.getD j jc).2.2.1=(k:Int)/\j<t)
     ·rw[ad F,ad (by omega)]
     ·rw[ag F,ag (by omega)]
   have amb:EZ l x t=au (fB l x (aJ,c2,c3,c4)):=by unfold EZ;rw[wG]
   have amc:dw c4:=oT (by omega) (by omega);have Sh:=Nm amc;rcases c0:decide (((gS l k:Int):Rat)<=g7 l x k)
   ·have aBt:=of_decide_eq_false c0;have aBu:=how.abR k;have Jc:dw (gS l k):=oT (by omega) (by omega);have Fj:=Nm Jc;have CO:=al9 jD k;have Fk:dX 54 ((c4:Int):Rat):=xD (by omega);have Jd:dX 54 ((gS l k:Int):Rat):=xD (by omega);have aBv:((gS l k:Int):Rat)≠0:=by have:=aBe l x k;grind
    have f1:=akd (nM amc) (kt CO (by omega)) (ZZ Fk CO (by omega));have f2:=ayk (kt (MH Fk CO) (by omega)) (nM Jc) aBv (aiY (MH Fk CO) Jd (by omega));have mS:=aBj how gp abU aBt;dsimp only at mS;have aBw:=λa b c d=>aaI (q:=λj=>if j=t then some ((a,b),(c,d)) else lR l x k t j) ay;have aBx:=λa b c d=>aaH (q:=λj=>if j=t then some ((a,b),(c,d)) else lR l x k t j) ay;have aL:=vo (au (((c4:Int):Rat)*g7 l x k/((gS l k:Int):Rat))) (by rw[amb,mS])
    have aBy:∀aQ amd:bo,(bA (D l) λj=>if j=t then some aQ else if j=t then some amd else lR l x k t j)=bA (D l) λj=>if j=t then some aQ else lR l x k t j:=λaQ amd=>jK λj _=>by
     by_cases ai:j=t
     ·rw[ad ai,ad ai]
     ·rw[ag ai,ag ai,ag ai]
    clear CO Fk Jd;generalize au (((c4:Int):Rat)*g7 l x k/((gS l k:Int):Rat))=G1 at *;generalize au (((c4:Int):Rat)*g7 l x k)=G2 at *;generalize au ((gS l k:Int):Rat)=G3 at *;generalize abV:au (g7 l x k)=G4 at *;generalize au ((c4:Int):Rat)=G5 at *;obtain⟨⟨cq,cr⟩,⟨g2,jH⟩⟩:=G1;obtain⟨⟨F,I⟩,⟨af,aO⟩⟩:=G2;obtain⟨⟨i1,i2⟩,⟨i3,i4⟩⟩:=G3;obtain⟨⟨CP,yh⟩,⟨aBz,Qx⟩⟩:=G4;obtain⟨⟨hF,ir⟩,⟨r9,v3⟩⟩:=G5;simp only[aH,eG,cV] at Sh Fj f1 f2 lh;have dv:=mP hF ir r9 v3;have Rd:=aBw hF ir r9 v3 cq cr g2 jH;have aBA:=aBx hF ir r9 v3;rw[aBy,aL] at Rd;refine a0 ?_;repeat' (intro h<;>simp only[h,go_sem,go_sem_proc,mT,mb,pn,aC,bE,bR,dE,e0,gh,ki,kx,tj,Fi,cO,lh,ox,Q,d1,bX,ay,q,c0,Sh,Fj,f1,f2,Nn,aBA,dv,Rd,b4,al,bl,bne,beq_self_eq_true,cK,dt]<;>try refine aw ?_ ?_)
    exact⟨t+1,by omega,rfl,by omega,rfl,rfl⟩
   ·have mS:=aBi how gp abU (of_decide_eq_true c0);dsimp only at mS;have aL:=vo (au ((c4:Int):Rat)) (by rw[amb,mS]);generalize au ((c4:Int):Rat)=G5 at *;obtain⟨⟨hF,ir⟩,⟨r9,v3⟩⟩:=G5;simp only[aH] at Sh;have dv:=mP hF ir r9 v3;rw[aL] at dv;refine a0 ?_;repeat' (intro h<;>simp only[h,go_sem,go_sem_proc,mT,aC,bE,bR,dE,e0,gh,ki,kx,tj,Fi,cO,lh,ox,Q,d1,bX,ay,q,c0,Sh,Nn,dv,b4,al,bl,bne,beq_self_eq_true,cK,dt]<;>try refine aw ?_ ?_)
    exact⟨t+1,by omega,by omega,rfl,rfl⟩
 ·have d1:decide ((t:Int)<(D l:Int))=false:=c9;obtain rfl:t=D l:=by omega
  rw[aBq] at ox;refine a0 ?_;repeat' (intro h<;>simp only[h,go_sem,go_sem_proc,aC,bE,bR,dE,e0,gh,ki,kx,tj,Fi,d1]<;>try refine aw ?_ ?_)
  refine dK _ _ ?_ ?_ ?_ ?_ ?_ ?_ cO lh ox<;>simp only[eV,dJ,if_false,aC,bE,bR,e0,gh,ki]
abbrev abW:Rat×(List aq)->List Data:=λ(x,l)=>[.agg (aH (au x)),.Y (l.map b4)]
def Si:=ck abW λ(x,l)=>cR (Iy l x) (.same (.cI [.Y ((l.map λc=>au (fB l x c)).map aH),.int .i64 0]))
theorem aBB:∀a b,abW a=abW b->a=b:=by
  rintro⟨a8,dW⟩ ⟨bY,ak⟩ h;simp only[ba,Data.Y.injEq,Data.agg.injEq,and_true] at h;exact dT (sR (m7 _ _ h.1)) (map_inj rZ _ _ h.2)
@[go_sem] theorem ame (x:Rat)(l:List aq)(H:Iy l x):Si [.agg (aH (au x)),.Y (l.map b4)]=some (.same (.cI [.Y ((l.map λc=>au (fB l x c)).map aH),.int .i64 0])):=(cx aBB (x,l)).trans (cW H _)
theorem aBC (T:bd)(fI:T l5=aW vU)(dB:T nu=aW sS)(mT:T vC=aW Io)(oV:T KT=aW Sg)(mb:T wS=aW yL)(pn:T DJ=aW Ep)(hX:T vx=aW yK)(x:Rat)(l:List aq)(H:Iy l x):WP T EU (.same (.cI [.Y ((l.map λc=>au (fB l x c)).map aH),.int .i64 0])) [.J (.agg (aH (au x))),.J (.Y (l.map b4))]:=by
 refine cy ?_;simp only[EU];have ht:=H;obtain⟨how,rI,Bo⟩:=H;have kf:=kt Bo (by omega);have hlen:=how.len;have aBD:=Ij kf;have Sf:=EX kf (nM AD);have aBE:decide (lJ x ((0:Int):Rat)<0)=false:=by rw[Rl];exact mq (by have:((0:Int):Rat)=0:=rfl;grind)
 have bO:=mO kf;have jD:=ayG l x;have f0:=Nm AD;have pO:=aBf how rI;have gG:=aBp l how x;have aX:=aku (D l);rw[<-gG] at aX;have yj:(64*D l<=140737488355328)=True:=eq_true (by omega);have Cm:(D l<=maxLen)=True:=eq_true (by unfold maxLen;omega);generalize eA:au x=aQ at *;generalize M6:au ((0:Int):Rat)=Z at *;obtain⟨⟨cT,c7⟩,⟨dZ,fm⟩⟩:=aQ;obtain⟨⟨iB,iZ⟩,⟨tg,y6⟩⟩:=Z;simp only[aH] at f0 Sf;simp only[go_sem,go_sem_proc,fI,dB,mT,oV,mb,pn,hX,aH,aBD,bO.1,bO.2,f0,Sf,aBE,how,yj,Cm,aX,al,cK,dt];refine dn [1,6,7] [249002] (λ(k:Nat) tm m=>k<=10/\tm 37=.J (.int .i64 k)/\m 249007=some (0,(aH (au (g7 l x k))).map .J)/\m 249035=some (0,mi qY (bA (D l) λj=>lR l x k 0 j))) (λk=>10-k) 0 (by refine⟨by omega,rfl,by rw[pO,eA];rfl,rfl⟩) ?_;intro vs ms aV aS;simp only[go_sem,go_sem_proc,fI,dB,mT,oV,mb,pn,hX,aH,al] at aV aS;subst aV aS;rintro k tm m O hm ⟨aMz,ki,lh,ox⟩;simp only[go_sem,go_sem_proc,fI,dB,mT,oV,mb,pn,hX,ba] at O hm;obtain⟨aC,bE,bR⟩:=O;rcases dA (k<10) with ay|cj
 ·have d1:decide ((k:Int)<10)=true:=di;have bX:=ff (i:=k) (by omega);simp only[go_sem,go_sem_proc,fI,dB,mT,oV,mb,pn,hX,aC,bE,bR,ki,hm,d1,al];refine aBn T l how k (.J (.Y (l.map b4))) (.ref 249035 0 4 0 (D l)) (.ptr 249007 0 0) (.J (.int .i64 k)) _ (some (0,(aH (au (g7 l x k))).map .J)) (some (0,mi qY (bA (D l) λj=>lR l x k 0 j))) _ _ ?_ ?_ ?_ ?_ ?_ ?_ ?_ ?_ ?_ hm lh ox ?_
  all_goals first|(intro tm' m' cd g5 hV gN j1 amf e6 qc amg)|(simp only[eV,dJ,if_false,if_true,aC,bE,bR,ki];done)
  have aBu:=how.abR k;have Jc:dw (gS l k):=oT (by omega) (by omega);have Fj:=Nm Jc;have CO:=al9 ht k;have B6:=kt CO (by omega);have Jd:dX 54 ((gS l k:Int):Rat):=xD (by omega);have iK:=EX B6 (nM Jc);have BQ:decide (lJ (g7 l x k) ((gS l k:Int):Rat)>=0)=decide (((gS l k:Int):Rat)<=g7 l x k):=aaC;have j0:=Rk B6 (nM Jc) (Cx CO (Cy Jd) (by omega));have amh:=λ(K:eW->bb->Prop) (kk:List gn) bL lo v1 Fh bY tm m=>aBs T mT mb pn (K:=K) (kk:=kk) l x ht k bL lo v1 Fh bY tm m;have ZY:((gS l k:Int):Rat)<=g7 l x k->au (g7 l x (k+1))=au (g7 l x k-((gS l k:Int):Rat)):=λh=>by rw[aBg how h]
  have h5:¬ ((gS l k:Int):Rat)<=g7 l x k->au (g7 l x (k+1))=((iB,iZ),(tg,y6)):=λh=>by rw[aBh h,<-M6];rfl
  generalize au (g7 l x k-((gS l k:Int):Rat))=G1 at *;generalize aMA:au (g7 l x k)=G2 at *;generalize au ((gS l k:Int):Rat)=G3 at *;generalize abV:au (g7 l x (k+1))=G4 at *;obtain⟨⟨cq,cr⟩,⟨g2,jH⟩⟩:=G1;obtain⟨⟨F,I⟩,⟨af,aO⟩⟩:=G2;obtain⟨⟨i1,i2⟩,⟨i3,i4⟩⟩:=G3;simp only[aH,eG,cV] at Fj iK j0 qc;simp only[go_sem,go_sem_proc,fI,dB,mT,oV,mb,pn,hX,cd,g5,hV,gN,j1,amf,e6,qc,amg,Fj,iK,BQ,al];refine amh _ _ 0 0 (.J (.Y (l.map b4))) (.J (.int .i64 k)) _ _ _ ?_ ?_ ?_ ?_ ?_ ?_ ?_ ?_ ?_ ?_ e6 ?_ amg ?_
  all_goals first|(intro I3 cO CP Cd Sj Sk Je Sl ep xL Sm)|(simp only[eV,dJ,if_false,if_true,cd,g5,hV,gN,j1,amf];done)|(rw[qc];rfl)
  simp only[aH,eG,cV] at xL;clear amh;rcases q:decide (((gS l k:Int):Rat)<=g7 l x k)
  ·have he:=h5 (of_decide_eq_false q);rw[q] at Je;simp only[go_sem,go_sem_proc,fI,dB,mT,oV,mb,pn,hX,CP,Cd,Sj,Sk,Je,Sl,ep,xL,Sm,f0,bX,dt,cK];repeat' (first|refine aw ?_ ?_|fail)<;>intro h<;>simp only[h,go_sem,go_sem_proc,fI,dB,mT,oV,mb,pn,hX,CP,Cd,Sj,Sk,Je,Sl,ep,xL,Sm,f0,bX,dt,cK]
   exact⟨k+1,by omega,by omega,rfl,by rw[abV,he];rfl,rfl⟩
  ·have he:=ZY (of_decide_eq_true q);rw[q] at Je;simp only[go_sem,go_sem_proc,fI,dB,mT,oV,mb,pn,hX,CP,Cd,Sj,Sk,Je,Sl,ep,xL,Sm,Fj,j0,bX,bne,beq_self_eq_true,dt,cK];repeat' (first|refine aw ?_ ?_|fail)<;>intro h<;>simp only[h,go_sem,go_sem_proc,fI,dB,mT,oV,mb,pn,hX,CP,Cd,Sj,Sk,Je,Sl,ep,xL,Sm,Fj,j0,bX,bne,beq_self_eq_true,dt,cK]
   exact⟨k+1,by omega,by omega,rfl,by rw[abV,he];rfl,rfl⟩
 ·have d1:decide ((k:Int)<10)=false:=c9;obtain rfl:k=10:=by omega
  rw[aBr l how x,jD,akw] at ox;have ke:=λ(K:bb->Prop) (st:bb)=>lE (K:=K) (st:=st) nC 6 249035 0 (l.map λc=>au (fB l x c));rw[al] at ke;simp only[go_sem,go_sem_proc,fI,dB,mT,oV,mb,pn,hX,aC,bE,bR,ki,hm,d1,ox,ke,al];repeat' (first|refine aw ?_ ?_|fail)<;>intro h<;>simp only[h,go_sem,go_sem_proc,fI,dB,mT,oV,mb,pn,hX,aC,bE,bR,ki,hm,d1,ox,ke,al]
theorem Sn {fO g0 n:Nat}(key:Nat->Nat)(ua:Nat->R)(So:∀i,i<n->key i≠fO)(De:∀i j,i<n->j<n->key i=key j->i=j):∀r d (q:Nat->R) (m:Mem),d+r=n->m fO=some (g0,bA n q)->(∀i,i<d->q i=ua i) ->
  (∀i,d<=i->i<n->q i=ua i\/∃g sz len cs x,q i=.ref (key i) g sz 0 len/\m (key i)=some (g,cs)/\(∀cO:Mem,cO (key i)=some (g,cs)->cE 1 cO (.ref (key i) g sz 0 len)=some x)/\ua i=.J x) ->
  ∃m',ts m m'/\m' fO=some (g0,bA n ua)/\∀k:Nat,k≠fO->(∀i,i<n->k≠key i)->m' k=m k
 |0,d,q,m,aa,F,I,_=>⟨m,.refl m,by rw[F,jK λi M=>I i (by omega)],λ_ _ _=>rfl⟩
 |r+1,d,q,m,aa,F,I,af=>by
  rcases af d (bZ _) (by omega) with he|⟨g,sz,len,cs,x,aC,aD,b9,dg⟩
  ·obtain⟨m',cd,c0,ev⟩:=Sn key ua So De r (d+1) q m (by omega) F (λi M=>by
    by_cases k0:i=d
    ·rw[k0];exact he
    ·exact I i (by omega)) λi M cD=>af i (by omega) cD
   exact⟨m',cd,c0,ev⟩
  ·have kq:d<n:=by omega
   have hk:(bA n q)[d]?=some (.ref (key d) g sz 0 len):=by rw[jb q kq,aC]
   have rl:=sl.N1 fO g0 _ d (key d) g sz 0 len cs x F hk aD (So d kq) (b9 m aD);have ly:a4 (kill m (key d)) fO g0 ((bA n q).set d (.J x)) fO=some (g0,bA n λj=>if j=d then .J x else q j):=by rw[iF,AE]
   obtain⟨m',cd,c0,ev⟩:=Sn key ua So De r (d+1) (λj=>if j=d then .J x else q j) _ (by omega) ly (λi M=>by
    by_cases k0:i=d
    ·rw[ad k0,k0,dg]
    ·rw[ag k0];exact I i (by omega)) λi M cD=>by
     rw[ag (by omega)];rcases af i (by omega) cD with he|⟨c6,eu,TC,nm,jm,f1,f2,f3,f4⟩
     ·exact .inl he
     ·refine .inr ⟨c6,eu,TC,nm,jm,f1,?_,f3,f4⟩;rw[dm (So i cD)];unfold kill;rw[dm λaU=>by have:=De i d cD kq aU;omega]
      exact f2
   refine⟨m',.step rl cd,c0,λk O qv=>?_⟩;rw[ev k O qv,dm O];unfold kill;rw[dm (qv d kq)]
def gk (l:List aq)(i:Nat):List Nat:=(dS (D l)).filter λj=>(l.getD j jc).1==(i:Int)
theorem abX (l:List aq)(c:aq)(i:Nat):gk (l++[c]) i=if c.1=(i:Int) then gk l i++[D l] else gk l i:=by
 unfold gk;have aC:(l++[c]).getD (D l) jc=c:=by rw[dY,ss (bZ _),lV];rfl
 have aD:(dS (D l)).filter (λj=>((l++[c]).getD j jc).1==(i:Int))=(dS (D l)).filter λj=>(l.getD j jc).1==(i:Int):=ami λj ai=>by
  rw[dY,rj (ha.1 ai),<-dY]
 rw[fH,Cb,oS,p8,aD]
 by_cases h:c.1=(i:Int)
 ·rw[ad h,qX (by rw[aC];simpa using h),oR]
 ·rw[ag h,r0 (by rw[aC];simpa using h),oR,fC]
theorem abY {l:List aq}{i j:Nat}:j∈gk l i↔j<D l/\(l.getD j jc).1=(i:Int):=by
 unfold gk;rw[s9,ha,beq_iff_eq]
theorem abZ (l:List aq)(c:aq)(i:Nat):b1 (l++[c]) i=if c.1=(i:Int) then b1 l i++[c] else b1 l i:=by
 unfold b1;rw[p8]
 by_cases h:c.1=(i:Int)
 ·rw[ad h,qX (by simpa using h),oR]
 ·rw[ag h,r0 (by simpa using h),oR,fC]
theorem amj (l:List aq)(i:Nat):b1 l i=(gk l i).map λj=>l.getD j jc:=by
 have:∀n (l:List aq),D l=n->b1 l i=(gk l i).map λj=>l.getD j jc:=by
  intro n
  induction n with
  |zero =>
   intro l ar;have:l=[]:=CQ.1 ar;subst this;rfl
  |succ n az =>
   intro l ar;rcases Bu l with ao|⟨fP,c,rfl⟩
   ·subst ao;cases ar
   ·rw[Bv] at *;simp only[fH,Cb] at ar;have aC:(fP++[c]).getD (D fP) jc=c:=by rw[dY,ss (bZ _),lV];rfl
    have aD:(gk fP i).map (λj=>(fP++[c]).getD j jc)=(gk fP i).map λj=>fP.getD j jc:=lY λj ai=>by
     rw[dY,rj (abY.1 ai).1,<-dY]
    rw[abZ,abX]
    by_cases h:c.1=(i:Int)
    ·rw[ad h,ad h,kR,aD,az fP (by omega)];show _=_++[(fP++[c]).getD (D fP) jc];rw[aC]
    ·rw[ag h,ag h,aD,az fP (by omega)]
 exact this _ l rfl
theorem Sp (l:List aq)(i:Nat):(gk l i).length=(b1 l i).length:=by rw[amj,al]
theorem aBF (l:List aq)(i:Nat):(gk l i).length<=D l:=by
 unfold gk;exact eQ (mg _ _) (by rw[sA];exact bZ _)
def lZ (l:List aq)(gc:Nat->Nat)(i:Nat):R:=if b1 l i=[] then .nil else .ref (233600+i) (gc i) 4 0 (b1 l i).length
def pp (l:List aq)(gR:Nat->Nat)(i:Nat):R:=if b1 l i=[] then .nil else .ref (233700+i) (gR i) 1 0 (b1 l i).length
structure Jf (n:Nat) (l:List aq) (gc gR:Nat->Nat) (m:Mem):Prop where
 fc:m 233019=some (0,bA n (lZ l gc))
 ep:m 233022=some (0,bA n (pp l gR))
 cd:∀i,i<n->b1 l i≠[]->m (233600+i)=some (gc i,bc b4 (b1 l i))
 c0:∀i,i<n->b1 l i≠[]->m (233700+i)=some (gR i,bc iC (gk l i))
theorem Jf.next {n:Nat}{l:List aq}{gc gR:Nat->Nat}{m m':Mem}(h:Jf n l gc gR m)(aL:n<=6){aJ:Nat}{c2 c3 c4:Int}(cq cr:Nat)
  (F:m' 233019=some (0,bA n λi=>if i=aJ then .ref (233600+aJ) cq 4 0 ((b1 l aJ).length+1) else lZ l gc i)) (I:m' 233022=some (0,bA n λi=>if i=aJ then .ref (233700+aJ) cr 1 0 ((b1 l aJ).length+1) else pp l gR i))
  (af:m' (233600+aJ)=some (cq,bc b4 (b1 l aJ++[((aJ:Int),c2,c3,c4)]))) (aO:m' (233700+aJ)=some (cr,bc iC (gk l aJ++[D l])))
  (bO:∀i,i<n->i≠aJ->m' (233600+i)=m (233600+i)/\m' (233700+i)=m (233700+i)):Jf n (l++[((aJ:Int),c2,c3,c4)]) (λi=>if i=aJ then cq else gc i) (λi=>if i=aJ then cr else gR i) m':=by
 have Sq:∀i:Nat,i≠aJ->b1 (l++[((aJ:Int),c2,c3,c4)]) i=b1 l i:=λi M=>by rw[abZ,ag (by show ¬ ((aJ:Int)=(i:Int));omega)]
 have Pj:∀i:Nat,i≠aJ->gk (l++[((aJ:Int),c2,c3,c4)]) i=gk l i:=λi M=>by rw[abX,ag (by show ¬ ((aJ:Int)=(i:Int));omega)]
 have so:b1 (l++[((aJ:Int),c2,c3,c4)]) aJ=b1 l aJ++[((aJ:Int),c2,c3,c4)]:=by rw[abZ,ad rfl]
 have sp:gk (l++[((aJ:Int),c2,c3,c4)]) aJ=gk l aJ++[D l]:=by rw[abX,ad rfl]
 refine⟨?_,?_,λi M bG=>?_,λi M bG=>?_⟩
 ·rw[F]
  congr 2
  refine jK λi M=>?_;unfold lZ
  by_cases H:i=aJ
  ·subst H;rw[so,ad rfl,ag (by simp),fH];dsimp only;rw[ad rfl];rfl
  ·rw[Sq i H,ag H];dsimp only;rw[ag H]
 ·rw[I]
  congr 2
  refine jK λi M=>?_;unfold pp
  by_cases H:i=aJ
  ·subst H;rw[so,ad rfl,ag (by simp),fH];dsimp only;rw[ad rfl];rfl
  ·rw[Sq i H,ag H];dsimp only;rw[ag H]
 ·by_cases H:i=aJ
  ·subst H;rw[ad rfl,so];exact af
  ·rw[Sq i H] at bG ⊢;rw[ag H,(bO i M H).1];exact h.cd i M bG
 ·by_cases H:i=aJ
  ·subst H;rw[ad rfl,sp];exact aO
  ·rw[Sq i H] at bG;rw[Pj i H,ag H,(bO i M H).2];exact h.c0 i M bG
structure CR (cs:List aq) (h:List Rat):Prop where
 len:(D cs)<=12
 n:(D h)<=6
 c:∀c∈cs,0<=c.1/\c.1<(D h) /\ -1<=c.2.1/\c.2.1<60/\0<=c.2.2.1/\c.2.2.1<10/\0<=c.2.2.2/\c.2.2.2<=1000000000000000
 x:∀x∈h,0<=x/\dX 460 x
theorem aBG {K:bb->Prop}{tm:Nat->R}{mem J3 mem':Mem}(h:sl mem J3)(I:sl J3 mem')(dK:∀bh,bh=mem'->K ⟨tm,bh⟩):lr K ⟨tm,mem⟩ .many:=⟨mem',.step h (.step I (.refl _)),dK _ rfl⟩
theorem aBH (T:bd){K:eW->bb->Prop}{kk:List gn}(cs:List aq)(h:List Rat)(aF:CR cs h)(v1:R)(tm:Nat->R)(m:Mem)
  (bI:tm 0=.J (.Y (cs.map b4))) (aC:tm 1=v1) (bE:tm 6=.ref 233019 0 1 0 (D h)) (bR:tm 7=.ref 233022 0 1 0 (D h)) (xM:tm 23=.J (.Y (cs.map b4))) (xN:tm 24=.J (.int .i64 (D cs))) (hd:tm 25=.J (.int .i64 0)) (jf:m 233057=none) (gc gR:Nat->Nat) (cp:Jf (D h) [] gc gR m)
  (dK:∀tm' m' J4 Rn,tm' 0=.J (.Y (cs.map b4))->tm' 1=v1->tm' 6=.ref 233019 0 1 0 (D h)->tm' 7=.ref 233022 0 1 0 (D h)->m' 233057=none->Jf (D h) cs J4 Rn m'->cJ T K kk (.exit 0) ⟨tm',m'⟩) :
  wp T (Et.body.sub [1,1,1,0,1,0]) (cJ T K kk) ⟨tm,m⟩:=by
 simp only[Et,ez.sub];have aL:=aF.n;have h8:=aF.len;refine dn [0,1,6,7,23,24] [233057] (λ((t,gc,gR):Nat×(Nat->Nat)×(Nat->Nat)) tm m=>t<=D cs/\tm 25=.J (.int .i64 t)/\Jf (D h) (cs.take t) gc gR m) (λ(t,_)=>D cs-t) (0,gc,gR) (by refine⟨by omega,hd,by rw[m0];exact cp⟩) ?_;intro vs ms aV aS;simp only[go_sem,go_sem_proc,bI,aC,bE,bR,xM,xN,jf] at aV aS;subst aV aS;clear bI aC bE bR xM xN hd jf cp tm m;rintro⟨t,gc,gR⟩ tm m O jf ⟨bF,hd,cp⟩;simp only[go_sem,go_sem_proc,ba] at O jf;obtain⟨bI,aC,bE,bR,xM,xN⟩:=O;rcases dA (t<D cs) with ay|cj
 ·have d1:decide ((t:Int)<(D cs:Int))=true:=di;have bX:=ff (i:=t) (by omega);obtain⟨⟨aJ,c2,c3,c4⟩,Q⟩:∃c,cs[t]?=some c:=⟨_,bx ay⟩;have lx:=aF.c _ (ec Q);dsimp only at lx;obtain⟨aJ,rfl⟩:∃k:Nat,aJ=(k:Int):=⟨aJ.toNat,by omega⟩
  have fY:cs.take (t+1)=cs.take t++[((aJ:Int),c2,c3,c4)]:=by rw[hv,Q];rfl
  have po:(cs.take t).length=t:=by rw[gf];omega
  generalize ar:cs.take t=l at *;have gU:aJ<D h:=by omega
  have fc:=cp.fc;have ep:=cp.ep;have cq:=wq (jb (lZ l gc) gU);have cr:=wq (jb (pp l gR) gU);have hF:(bA (D h) (lZ l gc)).length=D h:=gI _ _;have ir:(bA (D h) (pp l gR)).length=D h:=gI _ _;have s1:=λv=>(R9 (l:=bA (D h) (lZ l gc)) (k:=aJ) (v:=v) (by rw[gI];exact gU)).trans (AE (lZ l gc) v);have s2:=λv=>(R9 (l:=bA (D h) (pp l gR)) (k:=aJ) (v:=v) (by rw[gI];exact gU)).trans (AE (pp l gR) v);have dW:aJ+1<=D h:=by omega
  have my:(1<=maxLen)=True:=eq_true (by decide);have Gd:(b1 l aJ).length<=12:=eQ (mg _ _) (by omega);have nY:=Sp l aJ;have Sr:∀i,i<(D h)->233600+i≠233009/\233600+i≠233019/\233600+i≠233022/\233600+i≠233043/\233600+i≠233051/\233600+i≠233700+aJ/\233600+i≠233057:=λi M=>by omega
  have Ss:∀i,i<(D h)->233700+i≠233009/\233700+i≠233019/\233700+i≠233022/\233700+i≠233043/\233700+i≠233051/\233700+i≠233600+aJ/\233700+i≠233057:=λi M=>by omega
  by_cases hI:b1 l aJ=[]
  ·have ab0:lZ l gc aJ=.nil:=by unfold lZ;rw[ad hI]
   have ab1:pp l gR aJ=.nil:=by unfold pp;rw[ad hI]
   have AL:gk l aJ=[]:=CQ.1 (by rw[nY,hI];rfl);rw[ab0] at cq;rw[ab1] at cr;simp only[go_sem,go_sem_proc,my,bI,aC,bE,bR,xM,xN,hd,Q,fc,ep,cq,cr,hF,ir,s1,s2,d1,dW,gU,b4,cL,al,bl];obtain⟨f11,f12,f13,f14,f15,f16,f17⟩:=Sr aJ gU;obtain⟨f21,f22,f23,f24,f25,f26,f27⟩:=Ss aJ gU
   refine aBG (sl.N0 233019 0 _ aJ 233043 (gD (m 233043)) 4 0 1 _ (233600+aJ) ((dm (by decide)).trans iF) ((jb _ gU).trans (by rw[ad rfl])) ((dm (by decide)).trans ((dm (by decide)).trans ((dm (by decide)).trans iF))) (by decide) f14 f12)
    (sl.N0 233022 0 _ aJ 233051 (gD (m 233051)) 1 0 1 _ (233700+aJ) ((dm (by decide)).trans ((dm (Ne.symm f13)).trans ((dm (by decide)).trans iF))) ((jb _ gU).trans (by rw[ad rfl])) ((dm (by decide)).trans ((dm (Ne.symm f15)).trans ((dm (by decide)).trans ((dm (by decide)).trans ((dm (by decide)).trans iF))))) (by decide) f25 f23) ?_
   intro M2 g4
   have nR:∀k:Nat,k≠233009->k≠233019->k≠233022->k≠233043->k≠233051->k≠233600+aJ->k≠233700+aJ->M2 k=m k:=λk jn w3 sI amk aml aBI aBJ=>by
    rw[g4,dm sI,dm aBJ,dm aml,dm w3,dm aBI,dm amk,dm sI,dm w3,dm aml,dm amk,dm jn,dm jn]
   obtain⟨St,xv,EP⟩:∃St,M2 233019=some (0,bA (D h) λi=>if i=aJ then .ref (233600+aJ) St 4 0 ((b1 l aJ).length+1) else lZ l gc i)/\M2 (233600+aJ)=some (St,bc b4 (b1 l aJ++[((aJ:Int),c2,c3,c4)])):=by
    rw[hI];apply Exists.intro;apply And.intro
    rotate_left
    ·rw[g4,dm f13,dm f16,dm f15,dm f12,iF];rfl
    ·rw[g4,dm (by decide),dm (Ne.symm f22),dm (by decide),iF,AE]
     congr 2
     refine jK λi _=>?_
     by_cases M:i=aJ
     ·rw[ad M,ad M];rfl
     ·rw[ag M,ag M,ag M]
   obtain⟨Su,Np,Fc⟩:∃Su,M2 233022=some (0,bA (D h) λi=>if i=aJ then .ref (233700+aJ) Su 1 0 ((b1 l aJ).length+1) else pp l gR i)/\M2 (233700+aJ)=some (Su,bc iC (gk l aJ++[D l])):=by
    rw[hI,AL,po];apply Exists.intro;apply And.intro
    rotate_left
    ·rw[g4,dm f23,iF];rfl
    ·rw[g4,iF,AE]
     congr 2
     refine jK λi _=>?_
     by_cases M:i=aJ
     ·rw[ad M,ad M];rfl
     ·rw[ag M,ag M,ag M]
   have iI:=cp.next (m':=M2) aL St Su xv Np EP Fc λi M bG=>⟨by
    obtain⟨cT,c7,dZ,fm,oQ,te,-⟩:=Sr i M;exact nR _ cT c7 dZ fm oQ (by omega) te,by
    obtain⟨cT,c7,dZ,fm,oQ,te,-⟩:=Ss i M;exact nR _ cT c7 dZ fm oQ te (by omega)⟩
   have Nq:M2 233057=none:=(nR 233057 (by decide) (by decide) (by decide) (by decide) (by decide) (Ne.symm f17) (Ne.symm f27)).trans jf;clear g4 nR xv EP Np Fc;simp only[go_sem,go_sem_proc,bI,aC,bE,bR,xM,xN,hd,bX,Nq];repeat' (first|refine aw ?_ ?_|fail)<;>intro h<;>simp only[h,go_sem,go_sem_proc,bI,aC,bE,bR,xM,xN,hd,bX,Nq]
   exact⟨(t+1,_,_),by dsimp only;omega,by dsimp only;omega,rfl,by rw[fY];exact iI⟩
  ·have ab0:lZ l gc aJ=.ref (233600+aJ) (gc aJ) 4 0 (b1 l aJ).length:=by unfold lZ;rw[ag hI]
   have ab1:pp l gR aJ=.ref (233700+aJ) (gR aJ) 1 0 (gk l aJ).length:=by unfold pp;rw[ag hI,nY]
   rw[ab0] at cq;rw[ab1] at cr;have cd:=cp.cd aJ gU hI;have c0:=cp.c0 aJ gU hI;have Uj:=l3 AA Re (233600+aJ) (gc aJ) 32 (b1 l aJ) ((aJ:Int),c2,c3,c4) (cs:=[.J (.int .i64 aJ),.J (.int .i64 c2),.J (.int .i64 c3),.J (.int .i64 c4)]) rfl (by omega) (by omega);have Gt:=l3 yX ahY (233700+aJ) (gR aJ) 8 (gk l aJ) (D l) (cs:=[.J (.int .i64 t)]) (by rw[po];rfl) (by omega) (by omega);obtain⟨f11,f12,f13,f14,f15,f16,f17⟩:=Sr aJ gU;obtain⟨f21,f22,f23,f24,f25,f26,f27⟩:=Ss aJ gU;have aMB:(233600+aJ)=233600+aJ:=rfl;generalize dz:233600+aJ=A at *;generalize fw:233700+aJ=B at *;have Nr:A≠B:=f16;have fl:(A==233009)=false:=beq_eq_false_iff_ne.2 f11;have aBK:(233009==A)=false:=beq_eq_false_iff_ne.2 (Ne.symm f11);have e6:(A==233019)=false:=beq_eq_false_iff_ne.2 f12;have aBL:(233019==A)=false:=beq_eq_false_iff_ne.2 (Ne.symm f12);have rX:(A==233022)=false:=beq_eq_false_iff_ne.2 f13;have aBM:(233022==A)=false:=beq_eq_false_iff_ne.2 (Ne.symm f13);have m9:(A==233043)=false:=beq_eq_false_iff_ne.2 f14;have aBN:(233043==A)=false:=beq_eq_false_iff_ne.2 (Ne.symm f14);have aBO:(A==233051)=false:=beq_eq_false_iff_ne.2 f15;have aBP:(233051==A)=false:=beq_eq_false_iff_ne.2 (Ne.symm f15);have rO:(A==B)=false:=beq_eq_false_iff_ne.2 Nr;have aBQ:(B==A)=false:=beq_eq_false_iff_ne.2 (Ne.symm Nr);have jB:(B==233009)=false:=beq_eq_false_iff_ne.2 f21;have aBR:(233009==B)=false:=beq_eq_false_iff_ne.2 (Ne.symm f21);have jC:(B==233019)=false:=beq_eq_false_iff_ne.2 f22;have aBS:(233019==B)=false:=beq_eq_false_iff_ne.2 (Ne.symm f22);have s4:(B==233022)=false:=beq_eq_false_iff_ne.2 f23;have aBT:(233022==B)=false:=beq_eq_false_iff_ne.2 (Ne.symm f23);have v7:(B==233043)=false:=beq_eq_false_iff_ne.2 f24;have aBU:(233043==B)=false:=beq_eq_false_iff_ne.2 (Ne.symm f24);have aBV:(B==233051)=false:=beq_eq_false_iff_ne.2 f25;have aBW:(233051==B)=false:=beq_eq_false_iff_ne.2 (Ne.symm f25);have a8:(A=233009)=False:=eq_false f11;have bY:(B=233009)=False:=eq_false f21;have c5:(B=A)=False:=eq_false (Ne.symm Nr);have ey:(233019=A)=False:=eq_false (Ne.symm f12);have iE:(233019=B)=False:=eq_false (Ne.symm f22);have lp:(233022=A)=False:=eq_false (Ne.symm f13);have ow:(233022=B)=False:=eq_false (Ne.symm f23);have aBX:(233009=A)=False:=eq_false (Ne.symm f11);have aBY:(233009=B)=False:=eq_false (Ne.symm f21);have aBZ:(A=B)=False:=eq_false Nr;simp only[go_sem,go_sem_proc,my,bI,aC,bE,bR,xM,xN,hd,Q,fc,ep,cq,cr,hF,ir,s1,s2,d1,dW,gU,cd,c0,Uj,Gt,fl,aBK,e6,aBL,rX,aBM,m9,aBN,aBO,aBP,rO,aBQ,jB,aBR,jC,aBS,s4,aBT,v7,aBU,aBV,aBW,a8,bY,c5,ey,iE,lp,ow,aBX,aBY,aBZ,b4,cL,al,bl];refine abL ?_;intro M2 g4
   have nR:∀k:Nat,k≠233009->k≠233019->k≠233022->k≠A->k≠B->M2 k=m k:=λk jn w3 sI dz fw=>by
    rw[g4,dm sI,dm w3,dm fw,dm dz,dm jn,dm jn]
   have xv:M2 233019=some (0,bA (D h) λi=>if i=aJ then .ref A (gc aJ+1) 4 0 ((b1 l aJ).length+1) else lZ l gc i):=by
    rw[g4,dm (by decide),iF]
   have EP:M2 A=some (gc aJ+1,bc b4 (b1 l aJ++[((aJ:Int),c2,c3,c4)])):=by
    rw[g4,dm f13,dm f12,dm Nr,iF]
   have Np:M2 233022=some (0,bA (D h) λi=>if i=aJ then .ref B (gR aJ+1) 1 0 ((b1 l aJ).length+1) else pp l gR i):=by
    rw[g4,iF,nY]
   have Fc:M2 B=some (gR aJ+1,bc iC (gk l aJ++[D l])):=by
    rw[g4,dm f23,dm f22,iF]
   have iI:=cp.next (m':=M2) aL (c2:=c2) (c3:=c3) (c4:=c4) (gc aJ+1) (gR aJ+1) (by rw[dz];exact xv) (by rw[fw];exact Np) (by rw[dz];exact EP) (by rw[fw];exact Fc) λi M bG=>⟨by
    obtain⟨cT,c7,dZ,fm,oQ,te,-⟩:=Sr i M;exact nR _ cT c7 dZ (by omega) te,by
    obtain⟨cT,c7,dZ,fm,oQ,te,-⟩:=Ss i M;exact nR _ cT c7 dZ te (by omega)⟩
   have Nq:M2 233057=none:=(nR 233057 (by decide) (by decide) (by decide) (Ne.symm f17) (Ne.symm f27)).trans jf;clear g4 nR xv EP Np Fc;simp only[go_sem,go_sem_proc,bI,aC,bE,bR,xM,xN,hd,bX,Nq];repeat' (first|refine aw ?_ ?_|fail)<;>intro h<;>simp only[h,go_sem,go_sem_proc,bI,aC,bE,bR,xM,xN,hd,bX,Nq]
   exact⟨(t+1,_,_),by dsimp only;omega,by dsimp only;omega,rfl,by rw[fY];exact iI⟩
 ·have d1:decide ((t:Int)<(D cs:Int))=false:=c9;rw[dy (by omega)] at cp;simp only[go_sem,go_sem_proc,bI,aC,bE,bR,xM,xN,hd,d1];repeat' (first|refine aw ?_ ?_|fail)<;>intro h<;>simp only[h,go_sem,go_sem_proc,bI,aC,bE,bR,xM,xN,hd,d1]
  refine dK _ _ gc gR ?_ ?_ ?_ ?_ jf cp<;>simp only[eV,dJ,if_false,bI,aC,bE,bR]
def za (l:List Nat):R:=if l=[] then .nil else .J (.Y (l.map iC))
theorem aB0 (l:List Nat):qh (za l)=some (D l):=by
 unfold za
 split
 ·rename_i h;rw[h];rfl
 ·simp[qh]
theorem aB1 {l:List Nat}{n y:Nat}(h:l[n]?=some y):zk 1 n (za l)=some (.J (.ptr (iC y))):=by
 unfold za
 split
 ·rename_i ar;rw[ar] at h;cases h
 ·simp only[zk,bl,h,lB]
  rfl
theorem aB2 (l:List aq)(n:Nat)(m:Mem):cE n m (kh l)=some (.Y (l.map b4)):=by
 unfold kh
 split
 ·rename_i h;rw[h];exact aqV n
 ·exact OE n _
def Jg (cs:List aq)(h:List Rat)(j:Nat):bo:=au (fB cs (h.getD (cs.getD j jc).1.toNat 0) (cs.getD j jc))
def qd (cs:List aq)(h:List Rat)(i t j:Nat):Option bo:=if (cs.getD j jc).1<(i:Int)\/((cs.getD j jc).1=(i:Int)/\j∈(gk cs i).take t) then some (Jg cs h j) else none
theorem aB3 (cs:List aq)(h:List Rat)(i:Nat):(bA (D cs) λj=>qd cs h i (gk cs i).length j)=bA (D cs) λj=>qd cs h (i+1) 0 j:=jK λj ai=>by
 unfold qd;rw[lf,m0];have hm:=abY (l:=cs) (i:=i) (j:=j)
 by_cases F:(cs.getD j jc).1<(i:Int)
 ·rw[ad (.inl F),ad (.inl (by omega))]
 ·by_cases I:(cs.getD j jc).1=(i:Int)
  ·rw[ad (.inr ⟨I,hm.2 ⟨ai,I⟩⟩),ad (.inl (by omega))]
  ·rw[ag (λaU=>aU.elim F λx=>I x.1),ag (λaU=>aU.elim (by omega) λx=>by simpa using x.2)]
theorem aB4 (cs:List aq)(h:List Rat)(aF:CR cs h):(bA (D cs) λj=>qd cs h 0 0 j)=bA (D cs) λ_=>none:=jK λj ai=>by
 have:=(aF.c _ (ec (bx ai))).1;have e:cs.getD j jc=cs[j]:=by rw[dY,bx ai];rfl
 unfold qd;rw[e,m0,ag (λaU=>aU.elim (by omega) λx=>by simpa using x.2)]
theorem aB5 (cs:List aq)(h:List Rat)(aF:CR cs h):(bA (D cs) λj=>qd cs h (D h) 0 j)=(cs.map λc=>au (fB cs (h.getD c.1.toNat 0) c)).map some:=by
 refine (Rs (by simp) λj ai=>?_).symm;have:=(aF.c _ (ec (bx ai))).2.1;have e:cs.getD j jc=cs[j]:=by rw[dY,bx ai];rfl
 unfold qd;rw[bl,bl,bx ai,e,ad (.inl this)];unfold Jg;rw[e];rfl
theorem aB6 (T:bd){K:eW->bb->Prop}{kk:List gn}(cs:List aq)(h:List Rat)(aF:CR cs h)(i:Nat)(M:i<D h)(v1 r8 amm amn amo:R)(amp amq:Option (Nat×List R))(tm:Nat->R)(m:Mem)
  (aC:tm 1=v1) (bR:tm 7=r8) (ef:tm 10=.ref 233057 0 4 0 (D cs)) (h9:tm 13=.J (.Y (((b1 cs i).map λc=>au (fB cs (h.getD i 0) c)).map aH))) (uR:tm 58=amm) (ot:tm 59=amn) (kx:tm 60=amo) (Fl:tm 79=za (gk cs i)) (Fm:tm 80=.J (.int .i64 (gk cs i).length)) (Fo:tm 81=.J (.int .i64 0)) (AP:m 233019=amp) (AQ:m 233022=amq) (jf:m 233057=some (0,mi qY (bA (D cs) λj=>qd cs h i 0 j)))
  (dK:∀tm' m',tm' 1=v1->tm' 7=r8->tm' 10=.ref 233057 0 4 0 (D cs)->tm' 58=amm->tm' 59=amn->tm' 60=amo->m' 233019=amp->m' 233022=amq->m' 233057=some (0,mi qY (bA (D cs) λj=>qd cs h (i+1) 0 j))->cJ T K kk (.exit 4) ⟨tm',m'⟩) :
  wp T (Et.body.sub [1,1,1,1,1,0,1,0,0,1,1,0,0,1,1,1,1,0]) (cJ T K kk) ⟨tm,m⟩:=by
 simp only[Et,ez.sub];have h8:=aF.len;have nY:=aBF cs i;refine dn [1,7,10,13,58,59,60,79,80] [233019,233022] (λ(k:Nat) tm m=>k<=(gk cs i).length/\tm 81=.J (.int .i64 k)/\m 233057=some (0,mi qY (bA (D cs) λj=>qd cs h i k j))) (λk=>(gk cs i).length-k) 0 (by refine⟨by omega,Fo,jf⟩) ?_;intro vs ms aV aS;simp only[go_sem,go_sem_proc,aC,bR,ef,h9,uR,ot,kx,Fl,Fm,AP,AQ] at aV aS;subst aV aS;clear aC bR ef h9 uR ot kx Fl Fm Fo AP AQ jf tm m;rintro k tm m O hm ⟨s3,Fo,jf⟩;simp only[go_sem,go_sem_proc,ba] at O hm;obtain⟨aC,bR,ef,h9,uR,ot,kx,Fl,Fm⟩:=O;obtain⟨AP,AQ⟩:=hm;rcases dA (k<(gk cs i).length) with ay|cj
 ·have d1:decide ((k:Int)<((gk cs i).length:Int))=true:=di;have bX:=ff (i:=k) (by omega);obtain⟨y,av⟩:∃y,(gk cs i)[k]?=some y:=⟨_,bx ay⟩;obtain⟨zr,amr⟩:=abY.1 (ec av);have sW:=aB1 av;simp only[go_sem,go_sem_proc,cL] at sW
  have ams:((b1 cs i).map λc=>au (fB cs (h.getD i 0) c))[k]?=some (Jg cs h y):=by
   rw[amj,bl,bl,av];unfold Jg;rw[amr,jX];rfl
  have Nn:=aaH (q:=λj=>qd cs h i k j) zr;have mP:=λa b c d=>aaI (q:=λj=>qd cs h i k j) zr a b c d
  have hO:∀aQ:bo,aQ=Jg cs h y->(bA (D cs) λj=>if j=y then some aQ else qd cs h i k j)=bA (D cs) λj=>qd cs h i (k+1) j:=λaQ eA=>jK λj _=>by
   have fY:(gk cs i).take (k+1)=(gk cs i).take k++[y]:=by rw[hv,av];rfl
   by_cases ai:j=y
   ·subst ai;rw[ad rfl];unfold qd;rw[fY,ad (.inr ⟨amr,by simp⟩),eA]
   ·rw[ag ai];unfold qd;rw[fY]
    by_cases F:(cs.getD j jc).1<(i:Int)\/((cs.getD j jc).1=(i:Int)/\j∈(gk cs i).take k)
    ·rw[ad F,ad (F.imp id λx=>⟨x.1,by simp[x.2]⟩)]
    ·rw[ag F,ag λaU=>F (aU.imp id λx=>⟨x.1,by simpa [ai] using x.2⟩)]
  have aL:=hO _ rfl;clear dK;generalize ((b1 cs i).map λc=>au (fB cs (h.getD i 0) c))=PD at *;generalize Jg cs h y=aQ at *;obtain⟨⟨cT,c7⟩,⟨dZ,fm⟩⟩:=aQ;have dv:=mP cT c7 dZ fm;rw[aL] at dv;simp only[go_sem,go_sem_proc,aC,bR,ef,h9,uR,ot,kx,Fl,Fm,Fo,AP,AQ,jf,d1,bX,sW,ams,Nn,dv,zr,iC,aH,cL,al,bl];repeat' (first|refine aw ?_ ?_|fail)<;>intro h<;>simp only[h,go_sem,go_sem_proc,aC,bR,ef,h9,uR,ot,kx,Fl,Fm,Fo,AP,AQ,jf,d1,bX,sW,ams,Nn,dv,zr,iC,aH,cL,al,bl]
  exact⟨k+1,by omega,by omega,rfl,rfl⟩
 ·have d1:decide ((k:Int)<((gk cs i).length:Int))=false:=c9;obtain rfl:k=(gk cs i).length:=by omega
  rw[aB3] at jf;simp only[go_sem,go_sem_proc,aC,bR,ef,h9,uR,ot,kx,Fl,Fm,Fo,d1];repeat' (first|refine aw ?_ ?_|fail)<;>intro h<;>simp only[h,go_sem,go_sem_proc,aC,bR,ef,h9,uR,ot,kx,Fl,Fm,Fo,d1]
  refine dK _ _ ?_ ?_ ?_ ?_ ?_ ?_ AP AQ jf<;>simp only[eV,dJ,if_false,aC,bR,ef,uR,ot,kx]
theorem aB7 (n:Nat):(dG n [R.nil]).flatten=bA n λ_ => .nil:=by
 induction n with
 |zero=>rfl
 |succ n az=>rw[List.replicate_succ',List.flatten_append,az,al3];rfl
theorem aB8 {a b:List Rat}(h:(a.map au).map aH=(b.map au).map aH):a=b:=map_inj (λ_ _ h=>sR h) _ _ (map_inj m7 _ _ h)
abbrev Sv:(List aq)×(List Rat)->List Data:=λ(cs,h)=>[.Y (cs.map b4),.Y ((h.map au).map aH)]
def Sw:=ck Sv λ(cs,h)=>cR (CR cs h) (.same (.cI [.Y ((cs.map λc=>au (fB cs (h.getD c.1.toNat 0) c)).map aH),.bool true]))
theorem amt:∀a b,Sv a=Sv b->a=b:=by
  rintro⟨uL,F⟩ ⟨n1,I⟩ h;simp only[ba,Data.Y.injEq,and_true] at h;exact dT (map_inj rZ _ _ h.1) (aB8 h.2)
@[go_sem] theorem aB9 (cs:List aq)(h:List Rat)(H:CR cs h):Sw [.Y (cs.map b4),.Y ((h.map au).map aH)]=some (.same (.cI [.Y ((cs.map λc=>au (fB cs (h.getD c.1.toNat 0) c)).map aH),.bool true])):=(cx amt (cs,h)).trans (cW H _)
theorem aCa (T:bd)(kz:T KW=aW Si)(cs:List aq)(h:List Rat)(H:CR cs h):WP T Et (.same (.cI [.Y ((cs.map λc=>au (fB cs (h.getD c.1.toNat 0) c)).map aH),.bool true])) [.J (.Y (cs.map b4)),.J (.Y ((h.map au).map aH))]:=by
 refine cy ?_;simp only[Et];have aL:=H.n;have h8:=H.len;have HY:(24*D h<=140737488355328)=True:=eq_true (by omega);have Cm:(D h<=maxLen)=True:=eq_true (by unfold maxLen;omega);have aCb:(64*D cs<=140737488355328)=True:=eq_true (by omega);have aCc:(D cs<=maxLen)=True:=eq_true (by unfold maxLen;omega);have aX:=aB7 (D h);have amu:=aku (D cs);rw[<-aB4 cs h H] at amu;simp only[go_sem,go_sem_proc,kz,HY,Cm,aX,al];refine aBH T cs h H (.J (.Y ((h.map au).map aH))) _ _ ?_ ?_ ?_ ?_ ?_ ?_ ?_ ?_ (λ_=>0) (λ_=>0) ⟨?_,?_,λi M bG=>absurd rfl bG,λi M bG=>absurd rfl bG⟩ ?_
 all_goals first|(intro tm m gc gR fE cd g5 hV jf cp)|(simp only[eV,dJ,if_false,if_true];done)|(simp only[eV,dJ,if_false,if_true];rfl)|(simp only[a4,dJ,if_false,if_true];rfl)|skip
 obtain⟨dN,F,I,af⟩:=Sn (λi=>233600+i) (λi=>kh (b1 cs i)) (λi M=>by omega) (λi j _ _ he=>by omega) (D h) 0 (lZ cs gc) m (by omega) cp.fc (λi M=>by omega) λi _ M=>by
  by_cases hI:b1 cs i=[]
  ·refine .inl ?_;unfold lZ kh;rw[ad hI,ad hI]
  ·refine .inr ⟨gc i,4,(b1 cs i).length,bc b4 (b1 cs i),.Y ((b1 cs i).map b4),?_,cp.cd i M hI,λcO nz=>pM (n:=0) AA nz,?_⟩
   ·unfold lZ;rw[ag hI]
   ·unfold kh;rw[ag hI]
 have sI:dN 233022=some (0,bA (D h) (pp cs gR)):=(af 233022 (by decide) λi M=>by omega).trans cp.ep;have amv:dN 233057=none:=(af 233057 (by decide) λi M=>by omega).trans jf
 obtain⟨cO,cq,cr,g2⟩:=Sn (λi=>233700+i) (λi=>za (gk cs i)) (λi M=>by omega) (λi j _ _ he=>by omega) (D h) 0 (pp cs gR) dN (by omega) sI (λi M=>by omega) λi _ M=>by
  by_cases hI:b1 cs i=[]
  ·refine .inl ?_;have AL:gk cs i=[]:=CQ.1 (by rw[Sp,hI];rfl);unfold pp za;rw[ad hI,ad AL]
  ·have AL:gk cs i≠[]:=λaU=>hI (CQ.1 (by rw[<-Sp,aU];rfl));refine .inr ⟨gR i,1,(b1 cs i).length,bc iC (gk cs i),.Y ((gk cs i).map iC),?_,?_,λcO nz=>by rw[<-Sp];exact pM (n:=0) yX nz,?_⟩
   ·unfold pp;rw[ag hI]
   ·exact (af (233700+i) (by omega) λj ai=>by omega).trans (cp.c0 i M hI)
   ·unfold za;rw[ag AL]
 have Ns:cO 233019=some (0,bA (D h) λi=>kh (b1 cs i)):=(g2 233019 (by decide) λi M=>by omega).trans I;have zb:cO 233057=none:=(g2 233057 (by decide) λi M=>by omega).trans amv;simp only[go_sem,go_sem_proc,kz];refine al2 (F.trans cq) ?_;clear F I af cq g2 sI amv cp jf;simp only[go_sem,go_sem_proc,kz,fE,cd,g5,hV,aCb,aCc,amu,zb,al];refine dn [1,7,10,58,59] [233019,233022] (λ(i:Nat) tm m=>i<=D h/\tm 60=.J (.int .i64 i)/\m 233057=some (0,mi qY (bA (D cs) λj=>qd cs h i 0 j))) (λi=>D h-i) 0 (by refine⟨by omega,rfl,by simp[a4]⟩) ?_;intro vs ms aV aS;simp only[go_sem,go_sem_proc,kz,cd,hV,Ns,cr,al] at aV aS;subst aV aS;clear fE cd g5 hV Ns zb cr tm m dN cO;rintro i tm m O hm ⟨M,kx,jf⟩;simp only[go_sem,go_sem_proc,kz,ba] at O hm;obtain⟨aC,bR,ef,uR,ot⟩:=O;obtain⟨AP,AQ⟩:=hm;rcases dA (i<D h) with ay|cj
 ·have d1:decide ((i:Int)<(D h:Int))=true:=di;have bX:=ff (i:=i) (by omega);obtain⟨x,Q⟩:∃x,h[i]?=some x:=⟨_,bx ay⟩;have Hh:h.getD i 0=x:=by rw[dY,Q];rfl
  have rI:=H.x x (ec Q)
  have lW:ku (b1 cs i):=⟨eQ (mg _ _) h8,λc gp=>by
   have F:=H.c c (mj.1 gp).1;omega,λc gp c' aCd=>by rw[(mj.1 gp).2,(mj.1 aCd).2]⟩
  have eA:=ame x (b1 cs i) ⟨lW,rI.1,rI.2⟩;rw[ayI,<-Hh] at eA;rw[<-Hh] at Q;have fc:=wq (jb (λi=>kh (b1 cs i)) ay);have ep:=wq (jb (λi=>za (gk cs i)) ay);have hF:(bA (D h) λi=>kh (b1 cs i)).length=D h:=gI _ _;have ir:(bA (D h) λi=>za (gk cs i)).length=D h:=gI _ _;have dW:i+1<=D h:=by omega
  have vN:=aB2 (b1 cs i) 6;have amw:=aB0 (gk cs i);simp only[go_sem,go_sem_proc,kz] at amw;generalize ny:au (h.getD i 0)=dd at *;obtain⟨⟨cT,c7⟩,⟨dZ,fm⟩⟩:=dd;simp only[aH] at eA;simp only[go_sem,go_sem_proc,kz,kz,aC,bR,ef,uR,ot,kx,AP,AQ,jf,d1,fc,ep,hF,ir,dW,ay,Q,ny,vN,eA,amw,aH,cL,al,bl,bne,beq_self_eq_true,cK];refine aB6 T cs h H i ay (.J (.Y ((h.map au).map aH))) (.ref 233022 0 1 0 (D h)) (.ref 233019 0 1 0 (D h)) (.J (.int .i64 (D h))) (.J (.int .i64 i)) _ _ _ _ ?_ ?_ ?_ ?_ ?_ ?_ ?_ ?_ ?_ ?_ AP AQ jf ?_
  all_goals first|(intro tm' m' cd hV kN amx amy amz Ns amA zb)|(simp only[eV,dJ,if_false,if_true,aC,bR,ef,uR,ot,kx];done)
  simp only[go_sem,go_sem_proc,kz,cd,hV,kN,amx,amy,amz,Ns,amA,zb,bX];repeat' (first|refine aw ?_ ?_|fail)<;>intro h<;>simp only[h,go_sem,go_sem_proc,kz,cd,hV,kN,amx,amy,amz,Ns,amA,zb,bX]
  exact⟨i+1,by omega,by omega,rfl,rfl⟩
 ·have d1:decide ((i:Int)<(D h:Int))=false:=c9;obtain rfl:i=D h:=by omega
  rw[aB5 cs h H,akw] at jf;have ke:=λ(K:bb->Prop) (st:bb)=>lE (K:=K) (st:=st) nC 10 233057 0 (cs.map λc=>au (fB cs (h.getD c.1.toNat 0) c));rw[al] at ke;simp only[go_sem,go_sem_proc,kz,aC,bR,ef,uR,ot,kx,d1,jf,ke,al];repeat' (first|refine aw ?_ ?_|fail)<;>intro h<;>simp only[h,go_sem,go_sem_proc,kz,aC,bR,ef,uR,ot,kx,d1,jf,ke,al]
end Go.Mini
namespace Go.Mini
open Classical
def Jh (cs:List aq)(x:Nat->Rat)(i:Nat)(acc:Option Rat)(c:aq):Option Rat :=
 if c.2.1=(i:Int) then acc.bind λs=>if m6 s (fB cs (x c.1.toNat) c)=true then some (s+fB cs (x c.1.toNat) c) else none else acc
def xO (E:List Int)(cs:List aq)(x:Nat->Rat)(i:Nat)(l:List aq):Option Rat:=l.foldl (Jh cs x i) (some ((E.getD i 0:Int):Rat))
theorem aCe (E:List Int)(cs:List aq)(x:Nat->Rat)(i:Nat):xO E cs x i []=some ((E.getD i 0:Int):Rat):=rfl
theorem Nt (E:List Int)(cs:List aq)(x:Nat->Rat)(i:Nat)(l:List aq)(c:aq):xO E cs x i (l++[c])=Jh cs x i (xO E cs x i l) c:=by
 unfold xO;rw[Nu];rfl
def uS (E:List Int)(cs:List aq)(x:Nat->Rat)(i:Nat)(l:List aq):Rat:=((E.getD i 0:Int):Rat)+b8 (l.map cC) λc=>if c.to=(i:Int) then (ax E cs).fA x c else 0
theorem aCf {E:List Int}{cs:List aq}(h:hL E cs=true)(x:Nat->Rat)(i:Nat)(l:List aq){c:aq}(H:c∈cs):uS E cs x i (l++[c])=uS E cs x i l+if c.2.1=(i:Int) then fB cs (x c.1.toNat) c else 0:=by
 unfold uS;rw[kR,MP,<-Ix h x H];show _+(_+((if (cC c).to=(i:Int) then (ax E cs).fA x (cC c) else 0)+0))=_;have e:(cC c).to=c.2.1:=rfl;rw[e,nI];grind
def ab2 (E:List Int)(cs:List aq)(x:Nat->Rat):Prop:=∀i,i<(D E)->xO E cs x i cs=some (x i)
section
variable {E:List Int} {cs:List aq} (X:eI E cs)
include X
theorem aCg {eT:Nat}(iw:eT=324):0<iP (D E) (wk E cs)/\iP (D E) (wk E cs)<=2^eT:=by
 have:=X.jv;exact⟨aiA λk O=>aj7 X O,aju (e:=eT) (λk _=>aj8 X k) (by omega)⟩
theorem aCh:∃bh:Nat,0<bh/\(∃a,a<=654/\bh<=2^a)/\(∀i,i<(D E)->fh bh ((ax E cs).cm i))/\∀c∈cs,fh bh ((ax E cs).fA (ax E cs).cm (cC c)):=by
 obtain⟨bh,F,⟨a,I,af⟩,aO⟩:=aj6 X;obtain⟨eT,iw⟩:∃eT,eT=324:=⟨_,rfl⟩;obtain⟨jB,jC⟩:=aCg X iw;refine⟨bh*iP (D E) (wk E cs),Nat.mul_pos F jB,⟨a+eT,by omega,by rw[Nat.pow_add];exact Nat.mul_le_mul af jC⟩,λi M=>(aO i M).more _,λc H=>?_⟩
 have bm:=aj9 X aO H;have O:(cC c).aE<D E:=X.ok.aE _ (p5 H);refine bm.of_dvd ?_;obtain⟨m,hm⟩:=aiB (cf:=wk E cs) O;exact⟨m,by rw[hm,Nat.mul_assoc]⟩
theorem aCi {i:Nat}(M:i<D E){l fP:List aq}(ar:cs=l++fP):dX 708 (uS E cs (ax E cs).cm i l):=by
 obtain⟨bh,F,⟨a,I,af⟩,-,aO⟩:=aCh X
 have CA:∀m:List aq,(∀c∈m,c∈cs)->0<=b8 (m.map cC) λc=>if c.to=(i:Int) then (ax E cs).fA (ax E cs).cm c else 0:=λm hm=>xw λy av=>by
  obtain⟨c,H,rfl⟩:=ek.1 av
  try dsimp only
  split
  ·exact X.ok.ZB _ (p5 (hm c H))
  ·exact Rat.le_refl
 have GZ:∀c∈l,c∈cs:=λc H=>by rw[ar];simp[H]
 have nz:∀c∈fP,c∈cs:=λc H=>by rw[ar];simp[H]
 have nx:(0:Rat)<=((E.getD i 0:Int):Rat):=by have:=(X.E i).1;exact_mod_cast this
 have aa:fh bh (uS E cs (ax E cs).cm i l):=by
  unfold uS;refine (fh.int _ _).add (fh.b8 λy av=>?_);obtain⟨c,H,rfl⟩:=ek.1 av
  split
  ·exact aO c (GZ c H)
  ·exact fh.zero _
 have ao:0<=uS E cs (ax E cs).cm i l:=by
  have:=CA l GZ;unfold uS;grind
 have hle:uS E cs (ax E cs).cm i l<=(ax E cs).cm i:=by
  rw[(xB X.ok).1 i M]
  have e:(ax E cs).pr (ax E cs).cm i=uS E cs (ax E cs).cm i l+b8 (fP.map cC) λc=>if c.to=(i:Int) then (ax E cs).fA (ax E cs).cm c else 0:=by
   have aD:(ax E cs).pr (ax E cs).cm i=((E.getD i 0:Int):Rat)+b8 (cs.map cC) λc=>if c.to=(i:Int) then (ax E cs).fA (ax E cs).cm c else 0:=rfl;rw[aD];unfold uS;have b9:b8 (cs.map cC) (λc=>if c.to=(i:Int) then (ax E cs).fA (ax E cs).cm c else 0)=b8 ((l++fP).map cC) λc=>if c.to=(i:Int) then (ax E cs).fA (ax E cs).cm c else 0:=by rw[<-ar]
   rw[b9,kR,MP];grind
  have:=CA fP nz;grind
 exact (aa.sz F af ao (e:=54) (Rat.le_trans hle (ayj X M))).mono (by omega)
theorem amB:ab2 E cs (ax E cs).cm:=λi M=>by
 have key:∀n (l fP:List aq),D l=n->cs=l++fP->xO E cs (ax E cs).cm i l=some (uS E cs (ax E cs).cm i l):=by
  intro n
  induction n with
  |zero =>
   intro l fP ar _;have:l=[]:=CQ.1 ar;subst this;rw[aCe];unfold uS;rw[cV,b8,nI]
  |succ n az =>
   intro l fP ar kZ;rcases Bu l with ao|⟨m,c,rfl⟩
   ·subst ao;cases ar
   ·rw[Bv] at *;simp only[fH,Cb] at ar;have H:c∈cs:=by rw[kZ];simp
    have gp:cs=m++([c]++fP):=by rw[kZ,gM]
    rw[Nt,aCf X.right _ i m H,az m _ (by omega) gp];unfold Jh
    by_cases p9:c.2.1=(i:Int)
    ·rw[ad p9,ad p9,kK,ad];refine Cx (aCi X M gp) (b:=482) ?_ (by omega);rw[<-Ix X.right _ H];exact aaA X H
    ·rw[ag p9,ag p9,nI]
 have F:=key _ cs [] rfl (by simp);rw[F,(xB X.ok).1 i M]
 rfl
end
end Go.Mini
namespace Go.Mini
open Go
theorem amC (x:Rat):x*(x.den:Rat)=(x.num:Rat):=by
 have h:(Rat.divInt x.num x.den)=x:=Rat.num_divInt_den x;rw[Rat.divInt_eq_div] at h;have ao:((x.den:Int):Rat)≠0:=by have:=x.den_nz;exact_mod_cast this
 have I:(x.num:Rat)/((x.den:Int):Rat)*((x.den:Int):Rat)=(x.num:Rat):=Rat.div_mul_cancel ao;rw[h,oh] at I;exact I
theorem amD {x y:Rat}(h:m6 x y=true):dj (x+y):=by
 unfold m6 at h;simp only[e4] at h;obtain⟨-,-,af,aO⟩:=h
 have aa:((x.den:Int)*y.den)≠0:=by
  have F:=x.den_nz;have I:=y.den_nz;exact Int.mul_ne_zero (by omega) (by omega)
 have e:(x+y)*(((x.den:Int)*y.den:Int):Rat)=((x.num*y.den+y.num*x.den:Int):Rat):=by
  have aC:x*(x.den:Rat)=(x.num:Rat):=amC x;have aD:y*(y.den:Rat)=(y.num:Rat):=amC y;rw[uD,p3,p3,p3,oh,oh,<-aC,<-aD];grind
 obtain⟨f1,f2⟩:=Cv aa e;have:=qP af;have:=qP aO;exact⟨by omega,by omega⟩
theorem aCj {x y:Rat}(Q:dj x)(av:dj y):Ac [.agg (aH (au x)),.agg (aH (au y))]=some (.same (.cI [.agg (aH (Ad (m6 x y) (x+y)).1),.int .i64 (Ad (m6 x y) (x+y)).2])):=by
 have F:=mO Q;have I:=mO av;have:=agJ (au x).1.1 (au x).1.2 (au x).2.1 (au x).2.2 (au y).1.1 (au y).1.2 (au y).2.1 (au y).2.2 ⟨F.1,F.2,I.1,I.2⟩;exact this.trans (by show some (eL.same (ew (vW (au x) (au y))))=_;rw[Xj Q av];rfl)
def amE:=ck yJ λ(s,l,s2,ak,cM,bJ,cX,b3)=>cR (D l<=1000000/\D ak<=1000000/\D bJ<=1000000/\D b3<=1000000) (.same (.bool (lK ((s,l),(s2,ak)) ((cM,bJ),(cX,b3))==0)))
@[go_sem] theorem aCk (s:Int)(l:List Int)(s2:Int)(ak:List Int)(cM:Int)(bJ:List Int)(cX:Int)(b3:List Int)(H:(D l)<=1000000/\D ak<=1000000/\D bJ<=1000000/\D b3<=1000000):amE [.agg [.int .i64 s,.Y (l.map ae),.int .i64 s2,.Y (ak.map ae)],.agg [.int .i64 cM,.Y (bJ.map ae),.int .i64 cX,.Y (b3.map ae)]]=some (.same (.bool (lK ((s,l),(s2,ak)) ((cM,bJ),(cX,b3))==0))):=(cx B2 (s,l,s2,ak,cM,bJ,cX,b3)).trans (cW H _)
def kA:List bo->List bo->Bool
 | [],[]=>true
 |a::l,b::m=>(lK a b==0)&&kA l m
 |_,_=>false
theorem amF:∀(a b:List bo),(D a)≠(D b)->kA a b=false
 | [],[],h=>absurd rfl h
 | [],_::_,_=>rfl
 |_::_,[],_=>rfl
 |a::l,b::m,h=>by
  unfold kA;rw[amF l m (by simpa using h),h6]
theorem aCl {a b:List bo}{i:Nat}{x y:bo}(aP:a[i]?=some x)(ah:b[i]?=some y)(h:kA (a.take i) (b.take i)=true)(H:(lK x y==0)=false):kA a b=false:=by
 induction i generalizing a b with
 |zero =>
  cases a with
  |nil=>cases aP
  |cons a l =>
   cases b with
   |nil=>cases ah
   |cons b m =>
    simp only[zB,cn] at aP ah;subst aP ah;rw[kA,H,fS]
 |succ i az =>
  cases a with
  |nil=>cases aP
  |cons a l =>
   cases b with
   |nil=>cases ah
   |cons b m =>
    simp only[Nf] at aP ah;rw[wP,wP,kA,e4] at h;rw[kA,az aP ah h.2,h6]
theorem aCm {a b:List bo}{i:Nat}{x y:bo}(aP:a[i]?=some x)(ah:b[i]?=some y)(h:kA (a.take i) (b.take i)=true)(H:(lK x y==0)=true):kA (a.take (i+1)) (b.take (i+1))=true:=by
 induction i generalizing a b with
 |zero =>
  cases a with
  |nil=>cases aP
  |cons a l =>
   cases b with
   |nil=>cases ah
   |cons b m =>
    simp only[zB,cn] at aP ah;subst aP ah;simp[kA,H]
 |succ i az =>
  cases a with
  |nil=>cases aP
  |cons a l =>
   cases b with
   |nil=>cases ah
   |cons b m =>
    simp only[Nf] at aP ah;rw[wP,wP,kA,e4] at h;rw[wP,wP,kA,h.1,az aP ah h.2];rfl
theorem amG (T:bd)(f:FuncId)(aQ:List Data->Option eL)(cQ:T f=aW aQ)(a b:List bo)(aP:gv a)(ah:gv b)(eA:∀cT c7 dZ fm dh eK kd mh,D c7<=1000000->(D fm)<=1000000->(D eK)<=1000000->(D mh)<=1000000->aQ [.agg [.int .i64 cT,.Y (c7.map ae),.int .i64 dZ,.Y (fm.map ae)],.agg [.int .i64 dh,.Y (eK.map ae),.int .i64 kd,.Y (mh.map ae)]]=some (.same (.bool (lK ((cT,c7),(dZ,fm)) ((dh,eK),(kd,mh))==0)))):WP T K4 (.same (.bool (kA a b))) [.J (.Y (a.map aH)),.J (.Y (b.map aH)),.J (.fn f [])]:=by
 refine cy ?_;simp only[K4];obtain⟨aP,aCn⟩:=aP;obtain⟨ah,aCo⟩:=ah;rcases ar:((D a:Int)==(D b:Int))
 ·rw[amF a b (by have:=ne_of_beq_false ar;omega)];refine a0 ?_;repeat' (intro h<;>simp only[h,go_sem,go_sem_proc,ar,al,bne,dt]<;>try refine aw ?_ ?_)
 ·have hle:(D a)=D b:=by have:=eq_of_beq ar;omega
  simp only[go_sem,go_sem_proc,ar,al,bne,cK];refine dn [1,2,15,16] [] (λ(i:Nat) tm mem=>i<=D a/\kA (a.take i) (b.take i)=true/\tm 17=.J (.int .i64 i)) (λi=>D a-i) 0 (by refine⟨fv _,by simp[kA],rfl⟩) ?_;intro vs ms aV aS;simp only[go_sem,go_sem_proc,al] at aV aS;subst aV aS;rintro i tm mem O hm ⟨M,fi,na⟩;simp only[go_sem,go_sem_proc,ba] at O hm;obtain⟨aC,aD,sb,yW⟩:=O;rcases dA (i<D a) with ay|cj
  ·have d1:decide ((i:Int)<(D a:Int))=true:=di;have bX:=ff (i:=i) (by omega);obtain⟨x,Q⟩:∃x,a[i]?=some x:=⟨_,bx ay⟩;obtain⟨y,av⟩:∃x,b[i]?=some x:=⟨_,bx (by omega)⟩;obtain⟨E2,E3⟩:=aCn x (ec Q);obtain⟨E4,E5⟩:=aCo y (ec av);have dv:=λH=>aCl Q av fi H;have fY:=λH=>aCm Q av fi H;obtain⟨⟨cT,c7⟩,⟨dZ,fm⟩⟩:=x;obtain⟨⟨dh,eK⟩,⟨kd,mh⟩⟩:=y;dsimp only at E2 E3 E4 E5;have mN:=eA cT c7 dZ fm dh eK kd mh E2 E3 E4 E5;rcases q:(lK ((cT,c7),(dZ,fm)) ((dh,eK),(kd,mh))==0)
   ·rw[dv q];refine a0 ?_;repeat' (intro h<;>simp only[h,go_sem,go_sem_proc,aC,aD,sb,yW,na,Q,av,d1,bX,cQ,mN,q,aH,al,bl,dt]<;>try refine aw ?_ ?_)
   ·refine a0 ?_;repeat' (intro h<;>simp only[h,go_sem,go_sem_proc,aC,aD,sb,yW,na,Q,av,d1,bX,cQ,mN,q,aH,al,bl,cK]<;>try refine aw ?_ ?_)
    exact⟨i+1,by omega,by omega,fY q,rfl⟩
  ·have d1:decide ((i:Int)<(D a:Int))=false:=c9;rw[dy (by omega),dy (by omega)] at fi;rw[fi];refine a0 ?_;repeat' (intro h<;>simp only[h,go_sem,go_sem_proc,aC,aD,sb,yW,na,d1,al]<;>try refine aw ?_ ?_)
def ab3:=ck yJ λ(s,l,s2,ak,cM,bJ,cX,b3)=>cR (D l<=1000000/\D ak<=1000000/\D bJ<=1000000/\D b3<=1000000) (.same (.bool (lK ((s,l),(s2,ak)) ((cM,bJ),(cX,b3))==0)))
@[go_sem] theorem aCp (s:Int)(l:List Int)(s2:Int)(ak:List Int)(cM:Int)(bJ:List Int)(cX:Int)(b3:List Int)(H:(D l)<=1000000/\D ak<=1000000/\D bJ<=1000000/\D b3<=1000000):ab3 [.agg [.int .i64 s,.Y (l.map ae),.int .i64 s2,.Y (ak.map ae)],.agg [.int .i64 cM,.Y (bJ.map ae),.int .i64 cX,.Y (b3.map ae)]]=some (.same (.bool (lK ((s,l),(s2,ak)) ((cM,bJ),(cX,b3))==0))):=(cx B2 (s,l,s2,ak,cM,bJ,cX,b3)).trans (cW H _)
theorem aCq (T:bd)(dB:T nu=aW sS)(s:Int)(l:List Int)(s2:Int)(ak:List Int)(cM:Int)(bJ:List Int)(cX:Int)(b3:List Int)(H:(D l)<=1000000/\D ak<=1000000/\D bJ<=1000000/\D b3<=1000000):WP T XU (.same (.bool (lK ((s,l),(s2,ak)) ((cM,bJ),(cX,b3))==0))) [.J (.agg [.int .i64 s,.Y (l.map ae),.int .i64 s2,.Y (ak.map ae)]),.J (.agg [.int .i64 cM,.Y (bJ.map ae),.int .i64 cX,.Y (b3.map ae)])]:=by
 refine cy ?_;simp only[XU];obtain⟨E2,E3,E4,E5⟩:=H;refine a0 ?_;repeat' (intro h<;>simp only[h,go_sem,go_sem_proc,dB,E2,E3,E4,E5]<;>try refine aw ?_ ?_)
abbrev ab4:(List bo)×(List bo)×FuncId->List Data:=λ(a,b,f)=>[.Y (a.map aH),.Y (b.map aH),.fn f []]
def ab5:=ck ab4 λ(a,b,f)=>cR (gv a/\gv b/\((f=BA/\BA<900000)\/(f=wV/\wV<900000))) (.same (.bool (kA a b)))
theorem aCr:∀a b,ab4 a=ab4 b->a=b:=by
  rintro⟨cT,dh,f1⟩ ⟨c7,eK,f2⟩ h;simp only[ba,Data.Y.injEq,Data.fn.injEq,and_true] at h;exact dT (map_inj m7 _ _ h.1) (dT (map_inj m7 _ _ h.2.1) h.2.2)
@[go_sem] theorem aCs (a:List bo)(b:List bo)(f:FuncId)(H:gv a/\gv b/\((f=BA/\BA<900000)\/(f=wV/\wV<900000))):ab5 [.Y (a.map aH),.Y (b.map aH),.fn f []]=some (.same (.bool (kA a b))):=(cx aCr (a,b,f)).trans (cW H _)
theorem aCt (T:bd)(aCu:BA<900000->T BA=aW amE)(aCv:wV<900000->T wV=aW ab3)(a:List bo)(b:List bo)(f:FuncId)(H:gv a/\gv b/\((f=BA/\BA<900000)\/(f=wV/\wV<900000))):WP T K4 (.same (.bool (kA a b))) [.J (.Y (a.map aH)),.J (.Y (b.map aH)),.J (.fn f [])]:=by
 refine cy ?_;simp only[K4];obtain⟨aP,ah,aI⟩:=H;rcases aI with ⟨rfl,M⟩|⟨rfl,M⟩
 ·exact qQ (amG T _ _ (aCu M) a b aP ah λcT c7 dZ fm dh eK kd mh F I af aO=>aCk cT c7 dZ fm dh eK kd mh ⟨F,I,af,aO⟩)
 ·exact qQ (amG T _ _ (aCv M) a b aP ah λcT c7 dZ fm dh eK kd mh F I af aO=>aCp cT c7 dZ fm dh eK kd mh ⟨F,I,af,aO⟩)
abbrev ab6:(List bo)×(List bo)->List Data:=λ(a,b)=>[.Y (a.map aH),.Y (b.map aH)]
def ab7:=ck ab6 λ(a,b)=>cR (gv a/\gv b) (.same (.bool (kA a b)))
theorem aCw:∀a b,ab6 a=ab6 b->a=b:=by
  rintro⟨cT,dh⟩ ⟨c7,eK⟩ h;simp only[ba,Data.Y.injEq,and_true] at h;exact dT (map_inj m7 _ _ h.1) (map_inj m7 _ _ h.2)
@[go_sem] theorem aCx (a:List bo)(b:List bo)(H:gv a/\gv b):ab7 [.Y (a.map aH),.Y (b.map aH)]=some (.same (.bool (kA a b))):=(cx aCw (a,b)).trans (cW H _)
theorem aCy (T:bd)(aCz:T UU=aW ab5)(a:List bo)(b:List bo)(H:gv a/\gv b):WP T XN (.same (.bool (kA a b))) [.J (.Y (a.map aH)),.J (.Y (b.map aH))]:=by
 refine cy ?_;simp only[XN];have aT:=aCs a b wV ⟨H.1,H.2,.inr ⟨rfl,by decide⟩⟩
 refine a0 ?_;repeat' (intro h<;>simp only[h,go_sem,go_sem_proc,aCz,aT]<;>try refine aw ?_ ?_)
theorem aCA {α:Type}(p:α->Bool)(l:List α)(k:Nat)(O:k<D l)(h:∀j (ai:j<k),p (l[j]'(by omega))=false)(I:p l[k]=true):kP p l=k :=
 LJ (λx Q=>by
  obtain⟨j,ai⟩:=qz.1 Q;rw[vh] at ai
  by_cases ea:j<k
  ·rw[ad ea,bx (by omega),cn] at ai;rw[<-ai];exact h j ea
  ·rw[ag ea] at ai;cases ai) (bx O) I
theorem amH {d:Day}{h:Nat->Rat}{i:Nat}:∀k,k<=10->d.jJ h i k<10->(∀j,10-k<=j->j<d.jJ h i k->d.bt i (j+1)<=h i)/\h i<d.bt i (d.jJ h i k+1)/\10-k<=d.jJ h i k
 |0,_,F=>by rw[Day.jJ] at F;omega
 |k+1,O,F=>by
  rw[Day.jJ] at F ⊢
  by_cases H:h i<d.bt i (10-(k+1)+1)
  ·rw[ad H] at F ⊢;exact⟨λj I af=>by omega,H,bZ _⟩
  ·rw[ag H] at F ⊢;obtain⟨cd,c0,ev⟩:=amH k (by omega) F;refine⟨λj I af=>?_,c0,by omega⟩
   by_cases ai:j=10-(k+1)
   ·rw[ai];grind
   ·exact cd j (by omega) af
theorem aCB {E:List Int}{cs:List aq}(X:eI E cs)(h:Nat->Rat)(n i:Nat)(M:i<n)(kf:dj (h i))(aI:(ax E cs).jJ h i 10<10):kP (pv (.solve (dF n h) i)) (bA 10 λk=>cU cs i (k+1:Nat))=((ax E cs).jJ h i 10:Int):=by
 obtain⟨F,I,af⟩:=amH 10 (bZ _) aI;have m8:=λk:Nat=>X.upto i k
 have aF:∀k:Nat,pv (.solve (dF n h) i) (cU cs i (k+1:Nat))=decide (h i<(ax E cs).bt i (k+1)):=λk=>by
  have aa:(dF n h).getD i er=au (h i):=by rw[dY,uI h M];rfl
  have Fe:dw (cU cs i (k+1:Nat)):=oT (by have:=m8 (k+1);omega) (by have:=m8 (k+1);omega);simp only[pv];rw[aa,P5 kf (nM Fe),Rl,rU X.right]
 refine aCA _ _ _ (by rw[gI];exact aI) (λj ai=>?_) ?_
 ·have e:=jb (λk=>cU cs i (k+1:Nat)) (show j<10 by omega);rw[bx (by rw[gI];omega),cn] at e;rw[e,aF];exact mq (by have:=F j (by omega) ai;grind)
 ·have e:=jb (λk=>cU cs i (k+1:Nat)) aI;rw[bx (by rw[gI];omega),cn] at e;rw[e,aF];exact lq I
def dc.wf (a:dc)(f:Nat->Nat):dc:={ a with aK:=bA (D a.E) λi=>(f i:Int) }
theorem dc.ab8 (a:dc)(f:Nat->Nat){i:Nat}(M:i<D a.E):(a.wf f).gJ i=(a.gJ i).xE (f i):=by
 have:(bA (D a.E) λi=>(f i:Int)).getD i 10=(f i:Int):=y9 _ _ M;unfold dc.gJ dc.wf oo.xE;dsimp only;rw[this]
theorem dc.eF.aCC {a:dc}{m:Mem}{f:Nat->Nat}(h:(a.wf f).eF m){i:Nat}(M:i<D a.E)(r:Nat):(a.wf λj=>if j=i then r else f j).eF (a4 m (228500+i) (a.gs.getD i 0) (fG ((a.gJ i).xE r))):=by
 refine⟨h.can,gI _ _,h.pl,h.Rv,?_,λj ai=>?_⟩
 ·have:=h.row;simp only[a4];rw[ag (show ¬ ((228023:Nat)=228500+i) by omega)];exact this
 ·rw[dc.ab8 a _ ai];simp only[a4]
  by_cases h4:j=i
  ·subst h4;rw[ad rfl,ad rfl]
   rfl
  ·rw[ag (show ¬ ((228500+j:Nat)=228500+i) by omega),ag h4];have:=h.dx j ai;rw[dc.ab8 a _ ai] at this;exact this
theorem dc.Sx (a:dc){p q:Nat->Nat}(h:∀i,i<(D a.E)->p i=q i):a.wf p=a.wf q:=by
 unfold dc.wf;rw[jK λi M=>by rw[h i M]]
theorem aCD {n i:Nat}(f:Nat->Nat)(h:i<n):bM (bA n λi=>(f i:Int)) i=f i:=by
 unfold bM;rw[y9 _ _ h,jX]
theorem aCE {x:oo}(h:x.de){k g:Nat}{m:Mem}(hm:m k=some (g,fG x))(n:Nat):cE (n+1) m (.ref k g 1 12 10)=some (.Y (x.us.tail.map ae)):=by
 have e:cut (fG x) 12 10=some (x.us.tail.map bD):=by
  unfold cut;rw[ad (by rw[CG h];omega)]
  congr 1
  obtain⟨c,cF,us,f,p⟩:=x;obtain⟨F,I⟩:=h;dsimp only at F I
  cases us with
  |nil=>cases I
  |cons u us =>
   have ar:(D us)=10:=by simpa using I
   unfold fG;dsimp only;rw[CH,oG,jQ (by rw[al];omega),al,F,List.nil_append,eG];rw[show 11-10=1 from rfl,jW,CH,l1,List.take_append_of_le_length (by rw[al];omega),dy (by rw[al];omega)]
   rfl
 have aD:∀l:List Int,(l.map bD).mapM (cE n m)=some (l.map λz=>Data.int .i64 z):=by
  intro l
  induction l with
  |nil=>rfl
  |cons a l az =>
   rw[eG,lu,az];rw[show cE n m (bD a)=some (.int .i64 a) from OE n _]
   rfl
 have b9:∀l:List Int,chunk 1 (D l) (l.map λz=>Data.int .i64 z)=l.map ae:=by
  intro l
  induction l with
  |nil=>rfl
  |cons a l az=>simp only[hN,eG,chunk,wP,m0,CH,l1,az];rfl
 have ar:(D x.us.tail)=10:=by rw[List.length_tail,h.us]
 unfold cE;rw[hm];dsimp only;rw[ad rfl,cL,e];dsimp only;rw[aD];have:=b9 x.us.tail;rw[ar] at this;rw[lB,this]
theorem dc.eF.up {a:dc}{m:Mem}(h:a.eF m)(aL:(D a.E)<=6){k g:Nat}{cs:List R}(O:k/1000≠228):a.eF (a4 m k g cs) :=
 ⟨h.can,h.aK,h.pl,h.Rv,by rw[dm (by omega)];exact h.row,λi M=>by rw[dm (by omega)];exact h.dx i M⟩
theorem aCF {α:Type}(n:Nat)(q:Nat->α):(bA (n+1) q).tail=bA n λk=>q (k+1):=by
 unfold bA;rw[List.range_succ_eq_map,eG,List.tail_cons,nq]
 rfl
theorem amI {m:Mem}{k g:Nat}{d:Data}(hm:m k=some (g,[.J d]))(n:Nat):cE (n+1) m (.ptr k g 0)=some (.ptr [d]):=by
 unfold cE;rw[hm];dsimp only;rw[ad ⟨rfl,fv _⟩,l1,lu,OE]
 rfl
theorem Fp (n k g sz o l:Nat):cE (n+1) emp (.ref k g sz o l)=none:=by
 unfold cE;rfl
def wB (d:Day)(f:Nat->Nat)(h:Nat->Rat)(i j:Nat):Nat:=if j<i then d.gH f h j else f j
theorem aCG (T:bd)(hC:T pa=aW wj)(dB:T nu=aW sS)(nf:T wT=aW AH){K:eW->bb->Prop}{kk:List gn}(a:dc)(X:eI a.E a.cs)(f:Nat->Nat)(aI:∀i,i<(D a.E)->f i<=10)(h:Nat->Rat)(kf:∀i,i<(D a.E)->dj (h i))(ao:∀i,i<(D a.E)->0<=h i)(lC:Mem)(v1 v4 r8:R)(Nv ab9:Nat)(tm:Nat->R)(m:Mem)
  (aC:tm 1=v1) (dg:tm 4=v4) (bE:tm 6=.ref 228023 a.g 1 0 (D a.E)) (bR:tm 7=r8) (dE:tm 8=.ptr 217008 Nv 0) (ef:tm 10=.ref 217057 ab9 1 0 0) (jd:tm 31=.ref 228023 a.g 1 0 (D a.E)) (je:tm 32=.J (.int .i64 (D a.E))) (AR:tm 33=.J (.int .i64 0))
  (cp:(a.wf f).eF m) (Er:lC 217008=some (Nv,[.J (.Y ((dF (D a.E) h).map aH))])) (jf:m 217057=some (ab9,[])) (bT:∀k,k/1000≠228->k≠217011->k≠217057->m k=lC k)
  (dK:∀tm' m' c6,tm' 1=v1->tm' 4=v4->tm' 6=.ref 228023 a.g 1 0 (D a.E)->tm' 7=r8->tm' 8=.ptr 217008 Nv 0->tm' 10=.ref 217057 c6 1 0 (uN (ax a.E a.cs) f h (D a.E)).length->m' 217057=some (c6,bc iC (uN (ax a.E a.cs) f h (D a.E)))->(a.wf ((ax a.E a.cs).gH f h)).eF m'->(∀k,k/1000≠228->k≠217011->k≠217057->m' k=lC k)->cJ T K kk (.exit 2) ⟨tm',m'⟩) :
  wp T (Es.body.sub [1,1,1,1,0,0,0,0,1,1,1,0,1,0,0]) (cJ T K kk) ⟨tm,m⟩:=by
 simp only[Es,ez.sub];have aL:=X.jv;have aa:=X.ok
 refine dn [1,4,6,7,8,31,32] [] (λ((i,g):Nat×Nat) tm m=>i<=D a.E/\tm 33=.J (.int .i64 i)/\tm 10=.ref 217057 g 1 0 (uN (ax a.E a.cs) f h i).length/\m 217057=some (g,bc iC (uN (ax a.E a.cs) f h i))/\(a.wf (wB (ax a.E a.cs) f h i)).eF m/\∀k,k/1000≠228->k≠217011->k≠217057->m k=lC k) (λ(i,_)=>D a.E-i) (0,ab9) (by
  refine⟨by omega,AR,ef,jf,?_,bT⟩
  rw[a.Sx (q:=f) λj _=>by unfold wB;rw[ag (by omega)]]
  exact cp) ?_
 intro vs ms aV aS;simp only[go_sem,go_sem_proc,aC,dg,bE,bR,dE,jd,je] at aV aS;subst aV aS;clear aC dg bE bR dE ef jd je AR cp jf bT tm m;rintro⟨i,g⟩ tm m O-⟨M,AR,ef,jf,cp,bT⟩;simp only[go_sem,go_sem_proc,ba] at O;obtain⟨aC,dg,bE,bR,dE,jd,je⟩:=O;rcases dA (i<D a.E) with ay|cj
 ·have d1:decide ((i:Int)<(D a.E:Int))=true:=di;have bX:=ff (i:=i) (by omega);have qb:=aI i ay;have r6:wB (ax a.E a.cs) f h i i=f i:=by unfold wB;rw[ag (by omega)]
  have eR:m 228023=some (a.g,bA (D a.E) λi => .ptr (228500+i) (a.gs.getD i 0) 0):=cp.row;have fk:m (228500+i)=some (a.gs.getD i 0,_):=cp.dx i ay;rw[dc.ab8 a _ ay,r6] at fk;have Fq:=(bT 217008 (by decide) (by decide) (by decide)).trans Er;have iv:=wq (jb (λi=>R.ptr (228500+i) (a.gs.getD i 0) 0) ay);have b0:(bA (D a.E) λi=>R.ptr (228500+i) (a.gs.getD i 0) 0).length=D a.E:=gI _ _;have c1:((a.gJ i).xE (f i)).de:=⟨(a.xF i).cF,(a.xF i).us⟩;have hlen:=CG c1;have ml:fN 1 (fT 22 (fG ((a.gJ i).xE (f i))))=[bD (f i:Int)]:=MU c1;have tf:=MT c1 (k:=f i) (z:=cU a.cs i (f i:Nat)) (jb _ (by omega));have eB:_=fG ((a.gJ i).xE ((ax a.E a.cs).jJ h i 10)):=ayS c1 ((ax a.E a.cs).jJ h i 10:Nat);have dW:i+1<=D a.E:=by omega
  have ak:f i<11:=by omega
  have bJ:(11+f i+1<=24)=True:=eq_true (by omega);have m8:=X.upto i (f i);have Fe:dw (cU a.cs i (f i:Nat)):=oT (by omega) (by omega);have hw:=CD _ Fe;have pc:=EX (kf i ay) (nM Fe);have I1:=rU X.right i (f i);have BQ:decide (lJ (h i) ((cU a.cs i (f i:Nat):Int):Rat)>=0)=decide (((cU a.cs i (f i:Nat):Int):Rat)<=h i):=aaC;have Fs:=ayJ (ax a.E a.cs) f h i;rw[<-I1] at Fs;have AM:=uI h ay;have aCH:=ayK (ax a.E a.cs) f h i;have dC:=l3 yX akC 217057 g 8 (uN (ax a.E a.cs) f h i) i (cs:=[.J (.int .i64 i)]) rfl (by omega) (by omega);have aca:=λ(cO:Mem) (nz:cO (228500+i)=some (a.gs.getD i 0,fG ((a.gJ i).xE (f i)))) n=>aCE c1 nz n;have aCI:((a.gJ i).xE (f i)).us.tail=bA 10 λk=>cU a.cs i (k+1:Nat):=aCF 10 _;simp only[aCI] at aca
  have aCJ:¬ h i<((cU a.cs i (f i:Nat):Int):Rat)->a.wf (wB (ax a.E a.cs) f h (i+1))=a.wf (wB (ax a.E a.cs) f h i):=λaU=>a.Sx λj _=>by
   unfold wB
   by_cases ai:j=i
   ·subst ai;rw[ad (by omega),ag (by omega)];unfold Day.gH;rw[ag (by rw[<-I1];exact λx=>aU x.2)]
   ·by_cases vp:j<i
    ·rw[ad vp,ad (by omega)]
    ·rw[ag vp,ag (by omega)]
  have aCK:h i<((cU a.cs i (f i:Nat):Int):Rat)->a.wf (wB (ax a.E a.cs) f h (i+1))=a.wf (λj=>if j=i then (ax a.E a.cs).jJ h i 10 else wB (ax a.E a.cs) f h i j):=λaU=>a.Sx λj _=>by
   unfold wB
   by_cases ai:j=i
   ·subst ai;rw[ad (by omega),ad rfl];unfold Day.gH;rw[ad ⟨ay,by rw[<-I1];exact aU⟩]
   ·rw[ag ai]
    by_cases vp:j<i
    ·rw[ad vp,ad (by omega)]
    ·rw[ag vp,ag (by omega)]
  have mP:=λ(bh:Mem) (m4:(a.wf (wB (ax a.E a.cs) f h i)).eF bh)=>m4.aCC ay ((ax a.E a.cs).jJ h i 10)
  have ux:h i<((cU a.cs i (f i:Nat):Int):Rat)->(ax a.E a.cs).jJ h i 10<10:=λaU=>by
   rw[I1] at aU;have:=aa.s7 i qb;rcases ZH aa (h:=h) (i:=i) 10 (bZ _) (by rw[lV,Day.Mn];exact ao i ay) with ⟨-,e⟩|⟨-,e,-⟩
   ·grind
   ·exact e
  have aCL:=λaU=>aCB X h (D a.E) i ay (kf i ay) (ux aU)
  have wb:=akT (bA 10 λk=>cU a.cs i (k+1:Nat)) (.solve (dF (D a.E) h) i) ⟨by rw[gI];omega,by decide,by rw[p6];exact ay,Z9 (by omega) kf,λx Q=>by
   obtain⟨k,-,rfl⟩:=ek.1 Q;have:=X.upto i (k+1:Nat);exact oT (by omega) (by omega)⟩
  simp only[q0] at wb;generalize aMC:(bA 10 λk=>cU a.cs i (k+1:Nat))=SL at *;generalize IY:(bA (D a.E) λi=>R.ptr (228500+i) (a.gs.getD i 0) 0)=xG at *;have aCM:(228500+i)/1000=228:=by omega
  generalize uP:228500+i=eh at *;generalize Na:fG ((a.gJ i).xE (f i))=DC at *;have Sy:(eh=217011)=False:=eq_false (by omega);have amJ:(eh=217057)=False:=eq_false (by omega);have amK:(217057=eh)=False:=eq_false (by omega);have aMD:au (h i)=au (h i):=rfl;generalize aAO:au (h i)=hQ at *;generalize ny:au ((cU a.cs i (f i:Nat):Int):Rat)=dd at *;obtain⟨⟨dh,eK⟩,⟨kd,mh⟩⟩:=dd;obtain⟨⟨cT,c7⟩,⟨dZ,fm⟩⟩:=hQ;simp only[aH] at hw pc;rcases fl:decide (((cU a.cs i (f i:Nat):Int):Rat)<=h i)
  ·have aU:h i<((cU a.cs i (f i:Nat):Int):Rat):=by have:=of_decide_eq_false fl;grind
   rw[ad aU] at Fs;rw[<-Fs] at dC;rw[aCL aU] at wb;simp only[<-aCK aU] at mP;have cb:(uN (ax a.E a.cs) f h (i+1)).length=(uN (ax a.E a.cs) f h i).length+1:=by rw[Fs,fH];rfl
   have amL:∀cO:Mem,cO 217008=some (Nv,[.J (.Y ((dF (D a.E) h).map aH))])->cE 5 cO (.ptr 217008 Nv 0)=some (.ptr [.Y ((dF (D a.E) h).map aH)]):=λcO nz=>amI nz 4;have amM:∀(cO:Mem) (g:Nat),cO 217011=some (g,[.J (.int .i64 i)])->cE 5 cO (.ptr 217011 g 0)=some (.ptr [.int .i64 i]):=λcO g nz=>amI nz 4;have amN:=Fp 5 eh (a.gs.getD i 0) 1 12 10;simp only[go_sem,go_sem_proc,hC,dB,nf,aC,dg,bE,bR,dE,ef,jd,je,AR,eR,fk,Fq,jf,iv,b0,hlen,ml,tf,eB,dW,ak,bJ,ay,hw,pc,BQ,fl,AM,dC,aca,wb,amL,amM,amN,Sy,amJ,amK,d1,bX,aH,bD,cL,al,bl,hK,scalar,nj,amO,amP];repeat' (first|refine aw ?_ ?_|fail)<;>intro h<;>simp only[h,go_sem,go_sem_proc,hC,dB,nf,aC,dg,bE,bR,dE,ef,jd,je,AR,eR,fk,Fq,jf,iv,b0,hlen,ml,tf,eB,dW,ak,bJ,ay,hw,pc,BQ,fl,AM,dC,aca,wb,amL,amM,amN,Sy,amJ,amK,d1,bX,aH,bD,cL,al,bl,hK,scalar,nj,amO,amP]
   refine⟨(i+1,g+1),by dsimp only;omega,by dsimp only;omega,rfl,by rw[cb],rfl,mP _ (((cp.up aL (by decide)).up aL (by decide)).up aL (by decide)),λk F I af=>?_⟩
   rw[ag (show ¬ k=eh by intro O;rw[O] at F;exact F aCM),ag af,ag I,ag I];exact bT k F I af
  ·have aU:¬ h i<((cU a.cs i (f i:Nat):Int):Rat):=by have:=of_decide_eq_true fl;grind
   rw[ag aU] at Fs;simp only[go_sem,go_sem_proc,hC,dB,aC,dg,bE,bR,dE,ef,jd,je,AR,eR,fk,Fq,iv,b0,hlen,ml,tf,dW,ak,bJ,ay,hw,pc,BQ,fl,AM,Sy,d1,bX,aH,bD,cL,al,bl];repeat' (first|refine aw ?_ ?_|fail)<;>intro h<;>simp only[h,go_sem,go_sem_proc,hC,dB,aC,dg,bE,bR,dE,ef,jd,je,AR,eR,fk,Fq,iv,b0,hlen,ml,tf,dW,ak,bJ,ay,hw,pc,BQ,fl,AM,Sy,d1,bX,aH,bD,cL,al,bl]
   refine⟨(i+1,g),by dsimp only;omega,by dsimp only;omega,rfl,by rw[Fs],by rw[Fs];exact jf,?_,λk F I af=>?_⟩
   ·rw[aCJ aU];exact (cp.up aL (by decide)).up aL (by decide)
   ·rw[ag I,ag I];exact bT k F I af
 ·have d1:decide ((i:Int)<(D a.E:Int))=false:=c9;obtain rfl:i=D a.E:=by omega
  rw[a.Sx (q:=(ax a.E a.cs).gH f h) λj ai=>by unfold wB;rw[ad ai]] at cp
  simp only[go_sem,go_sem_proc,aC,dg,bE,bR,dE,ef,jd,je,AR,d1];repeat' (first|refine aw ?_ ?_|fail)<;>intro h<;>simp only[h,go_sem,go_sem_proc,aC,dg,bE,bR,dE,ef,jd,je,AR,d1]
  refine dK _ _ g ?_ ?_ ?_ ?_ ?_ ?_ jf cp bT<;>simp only[eV,dJ,if_false,aC,dg,bE,bR,dE,ef]
def acb (aA:List bo):List Rat:=aA.map BZ
structure acd (E:List Int) (cs:List aq) (aA:List bo):Prop where
 n:(D E)<=1000000
 c:(D cs)<=1000000
 o:gv aA
 lQ:hL E cs=true->eI E cs
 sz:hL E cs=true->(D aA)=(D E)->aA.any (pS zO)=false->∀f∈aA,dX 460 (BZ f)
open Classical in
def ace (E:List Int)(cs:List aq)(x:Nat->Rat):Bool:=decide (ab2 E cs x)
open Classical in
theorem aCN {E:List Int}{cs:List aq}{x:Nat->Rat}:ace E cs x=true↔ab2 E cs x:=by
 unfold ace;exact decide_eq_true_iff
def Sz (E:List Int)(cs:List aq)(aA:List bo):Bool:=hL E cs&&(decide (D aA=D E)&&(!aA.any (pS zO)&&ace E cs λi=>(acb aA).getD i 0))
theorem amQ:∀(a b:List Rat),(∀x∈a,dj x)->(∀x∈b,dj x)->(kA (a.map au) (b.map au)=true↔a=b)
 | [],[],_,_=>by simp[kA]
 | [],_::_,_,_=>by simp[kA]
 |_::_,[],_,_=>by simp[kA]
 |x::a,y::b,aP,ah=>by
  have az:=amQ a b (λz aX=>aP z (gx _ aX)) λz aX=>ah z (gx _ aX);rw[eG,eG,kA,e4,az,ba,P5 (aP x fZ) (ah y fZ)]
  have:(lJ x y==0)=true↔x=y:=by
   have F:=ake (x:=x) (y:=y);have I:=Rl (x:=x) (y:=y);rw[beq_iff_eq]
   constructor
   ·intro h;rw[h] at F I;have aC:¬ y<x:=of_decide_eq_false (F.symm.trans rfl);have aD:¬ x<y:=of_decide_eq_false (I.symm.trans rfl);grind
   ·intro h;have aC:¬ y<x:=by grind
    have aD:¬ x<y:=by grind
    rw[mq aC] at F;rw[mq aD] at I;have:=of_decide_eq_false F;have:=of_decide_eq_false I;omega
  rw[this]
structure Ji (E:List Int) (cs:List aq) (x:Nat->Rat) (l:List aq) (s:Nat->Rat):Prop where
 a:∀i,i<(D E)->xO E cs x i l=some (s i)
 l:∀i,i<(D E)->dj (s i)
theorem Ji.skip {E:List Int}{cs:List aq}{x:Nat->Rat}{l:List aq}{s:Nat->Rat}(h:Ji E cs x l s){c:aq}(H:c.2.1<0):Ji E cs x (l++[c]) s:=by
 refine⟨λi M=>?_,h.l⟩;rw[Nt,h.a i M];unfold Jh;rw[ag (by omega)]
theorem Ji.add {E:List Int}{cs:List aq}{x:Nat->Rat}{l:List aq}{s:Nat->Rat}(h:Ji E cs x l s){c:aq}{t:Nat}(H:c.2.1=(t:Int))(O:m6 (s t) (fB cs (x c.1.toNat) c)=true):Ji E cs x (l++[c]) λi=>if i=t then s t+fB cs (x c.1.toNat) c else s i:=by
 refine⟨λi M=>?_,λi M=>?_⟩
 ·rw[Nt,h.a i M];unfold Jh
  by_cases Nw:i=t
  ·subst Nw;rw[ad H,kK,ad O,ad rfl]
  ·rw[ag (by omega),ag Nw]
 ·by_cases Nw:i=t
  ·rw[ad Nw];exact amD O
  ·rw[ag Nw];exact h.l i M
theorem acf {cs:List aq}(c1:∀c∈cs,0<=c.2.2.2/\c.2.2.2<=1000000000000000)(h8:(D cs)<=12){x:Rat}(Q:dX 460 x){c:aq}(H:c∈cs):dj (fB cs x c):=by
 have ah:∀(p:aq->Prop) [DecidablePred p],0<=cv cs (λc=>if p c then c.2.2.2 else 0)/\cv cs (λc=>if p c then c.2.2.2 else 0)<=12000000000000000:=λp _=>by
  have:=H9 (cs:=cs) (aQ:=λc=>if p c then c.2.2.2 else 0) (B:=1000000000000000) (by omega) λc H=>by
   have F:=c1 c H
   try dsimp only
   split<;>omega
  omega
 have m8:=ah λc'=>c'.1=c.1/\c'.2.2.1<c.2.2.1;have cS:=ah λc'=>c'.1=c.1/\c'.2.2.1=c.2.2.1;rw[<-akx] at cS;have aP:=c1 c H;have Fk:dX 54 ((c.2.2.2:Int):Rat):=xD (by omega);have Jd:dX 54 ((kT cs c.1 c.2.2.1:Int):Rat):=xD (by omega);have aCO:dX 54 ((cU cs c.1 c.2.2.1:Int):Rat):=xD (by unfold cU;omega);unfold fB
 split
 ·exact kt Fk (by omega)
 ·have aCP:dX 515 (pos (x-((cU cs c.1 c.2.2.1:Int):Rat))):=by
   unfold pos
   split
   ·exact (show dX 1 0 from⟨by decide,by decide⟩).mono (by omega)
   ·rw[Hg];exact (Z1 Q (Cy aCO)).mono (by omega)
  by_cases ao:((kT cs c.1 c.2.2.1:Int):Rat)=0
  ·rw[ao,H3,Rat.inv_zero,og,Cp];exact kt (show dX 1 0 from⟨by decide,by decide⟩) (by omega)
  ·exact kt (MH (aw4 Fk Jd ao) aCP) (by omega)
abbrev acg:(List Int)×(List aq)×(List bo)->List Data:=λ(E,cs,aA)=>[.Y (E.map ae),.Y (cs.map b4),.Y (aA.map aH)]
def amR:=ck acg λ(E,cs,aA)=>cR (acd E cs aA) (.same (.bool (Sz E cs aA)))
theorem aCQ:∀a b,acg a=acg b->a=b:=by
  rintro⟨uK,uL,o2⟩ ⟨uM,n1,nX⟩ h;simp only[ba,Data.Y.injEq,and_true] at h;exact dT (map_inj fp _ _ h.1) (dT (map_inj rZ _ _ h.2.1) (map_inj m7 _ _ h.2.2))
@[go_sem] theorem aCR (E:List Int)(cs:List aq)(aA:List bo)(H:acd E cs aA):amR [.Y (E.map ae),.Y (cs.map b4),.Y (aA.map aH)]=some (.same (.bool (Sz E cs aA))):=(cx aCQ (E,cs,aA)).trans (cW H _)
theorem aCS {n:Nat}{f:Nat->Nat}(h:∀i,n<=i->f i=10):bM (bA n λi=>(f i:Int))=f:=by
 funext i
 by_cases M:i<n
 ·exact aCD f M
 ·unfold bM;rw[dY,kF (by rw[gI];omega),h i (by omega)];rfl
theorem aCT {d:Day}{f:Nat->Nat}{h:Nat->Rat}(gq:∀i,d.n<=i->f i=10):∀i,d.n<=i->d.gH f h i=10:=λi M=>by
 unfold Day.gH;rw[ag λx=>by omega,gq i M]
theorem ach (d:Day):∀k f,(d.rounds k f).1.length<=k
 |0,f=>bZ _
 |k+1,f=>by
  rw[Day.rounds]
  split
  ·exact fv _
  ·have:=ach d k (d.gH f (d.top f));simp only[hN];omega
def q4 (l:List Nat):List Data:=[.Y (l.map iC)]
theorem amS (l:List Nat):(q4 l).length=1:=rfl
theorem aCU (l:List Nat):((q4 l).map R.J).all R.one=true:=rfl
def zc (done:List (List Nat))(g:Nat):R:=if done=[] then .nil else .ref 217077 g 1 0 (D done)
structure amT (E:List Int) (cs:List aq) (g:Nat) (gs:Nat->Nat) (f:Nat->Nat) (done:List (List Nat)) (nS:Nat) (m:Mem):Prop where
 at_:∃p,(((y8 E cs g gs).wf f).hD p).eF m
 out:∃lo,lo=0/\m 217007=some (lo,[.nil,.nil,zc done nS])
 row:done≠[]->m 217077=some (nS,bc q4 done)
 no:∀k:Nat,k/1000≠217->k/1000≠228->m k=none
 f10:∀i,D E<=i->f i=10
 reach:Reach (ax E (du (D E) cs)) f
 iQ:∃r,mR (D E) f<=r/\(ax E (du (D E) cs)).iQ=done++((ax E (du (D E) cs)).rounds r f).1/\(ax E (du (D E) cs)).hq=((ax E (du (D E) cs)).rounds r f).2
theorem aCV (T:bd)(uT:T OS=pj Nd)(hC:T pa=aW wj)(dB:T nu=aW sS)(nf:T wT=aW AH){K:eW->bb->Prop}{kk:List gn}(E:List Int)(cs:List aq)(qN:eI E cs)(g:Nat)(gs:Nat->Nat)(v1:R)(tm:Nat->R)(m:Mem)
  (aC:tm 1=v1) (dg:tm 4=.ptr 217004 0 0) (bE:tm 6=.ref 228023 g 1 0 (D E)) (bR:tm 7=.ptr 217007 0 0) (qF:m 217004=some (0,[.nil,.nil,.nil])) (cp:amT E cs g gs (λ_=>10) [] 0 m)
  (dK:∀tm' m' nS,tm' 1=v1->tm' 4=.ptr 217004 0 0->tm' 7=.ptr 217007 0 0->m' 217004=some (0,[.nil,.nil,.nil])->m' 217007=some (0,[.J (.Y ((dF (D E) (ax E (du (D E) cs)).cm).map aH)),.nil,zc (ax E (du (D E) cs)).iQ nS])->((ax E (du (D E) cs)).iQ≠[]->m' 217077=some (nS,bc q4 (ax E (du (D E) cs)).iQ))->cJ T K kk (.exit 0) ⟨tm',m'⟩) :
  wp T (Es.body.sub [1,1,1,1,0,0]) (cJ T K kk) ⟨tm,m⟩:=by
 simp only[Es,ez.sub];have X:=aav qN;have aL:=X.jv;have aa:=X.ok;refine dn [1,4,6,7] [217004] (λ((f,done,nS):(Nat->Nat)×List (List Nat)×Nat) tm m=>amT E cs g gs f done nS m) (λ(f,_)=>mR (D E) f) (λ_=>10,[],0) (by exact cp) ?_;intro vs ms aV aS;simp only[go_sem,go_sem_proc,aC,dg,bE,bR,qF] at aV aS;subst aV aS;clear aC dg bE bR qF cp tm m;rintro⟨f,done,nS⟩ tm m O qF cp;simp only[go_sem,go_sem_proc,ba] at O qF;obtain⟨aC,dg,bE,bR⟩:=O;obtain⟨⟨p,cp⟩,⟨lo,rfl,amU⟩,eR,h5,qb,amV,r,BH,bC,yF⟩:=cp;dsimp only at *;have vj:=aCS qb;have lx:=amV;obtain⟨amW,hinv,-⟩:=amV
 have e5:=aAP (((y8 E cs g gs).wf f).hD p) m ⟨cp,λk O=>h5 k (by omega) (by omega),λk O=>h5 k (by omega) (by omega),λk O=>h5 k (by omega) (by omega),⟨X,λx Q=>by
  obtain⟨i,-,rfl⟩:=ek.1 Q;have:=hinv.le i;omega⟩,⟨amW,by show Inv (ax E (du (D E) cs)) (bM (bA (D E) λi=>(f i:Int))) amW;rw[vj];exact hinv⟩⟩
 have amX:Nd [.ref 228023 g 1 0 (D E)] m=some (R7 (((y8 E cs g gs).wf f).hD p) m):=e5;simp only[go_sem,go_sem_proc,uT,aC,dg,bE,bR,amX];have bF:=Day.Cs (aa.hex f lx);have kf:∀i,i<(D E)->dj ((ax E (du (D E) cs)).top f i):=λi M=>kt (aj5 X lx M) (by omega);have ao:∀i,i<(D E)->0<=(ax E (du (D E) cs)).top f i:=λi M=>bF.QW aa M;rintro amY mem' ⟨B5,pK,Oe,amZ⟩
 have aCW:amY=.cI [.J (.Y ((dF (D E) ((ax E (du (D E) cs)).top f)).map aH)),.J (.bool true)]:=by
  rw[B5];show R.cI [.J (.Y ((dF (D E) ((ax E (du (D E) cs)).top (bM (bA (D E) λi=>(f i:Int))))).map aH)),.J (.bool true)]=_;rw[vj]
 clear B5 e5 amX;subst aCW;have fJ:∀k:Nat,k/1000≠228->mem' k=m k:=λk O=>amZ k λi M=>by have:i<D E:=M;omega
 have m9:=(fJ 217004 (by decide)).trans qF;have qc:=(fJ 217007 (by decide)).trans amU;have aka:(ax E (du (D E) cs)).ib f=uN (ax E (du (D E) cs)) f ((ax E (du (D E) cs)).top f) (D E):=rfl
 have am0:(ax E (du (D E) cs)).ib f=[]->(ax E (du (D E) cs)).iQ=done/\(ax E (du (D E) cs)).cm=(ax E (du (D E) cs)).top f:=λh=>by
  have:=(ax E (du (D E) cs)).awH h r;rw[this,fC] at bC;rw[this] at yF;exact⟨bC,by unfold Day.cm;rw[yF]⟩
 have vo:(ax E (du (D E) cs)).ib f≠[]->mR (D E) ((ax E (du (D E) cs)).gH f ((ax E (du (D E) cs)).top f))<mR (D E) f/\Reach (ax E (du (D E) cs)) ((ax E (du (D E) cs)).gH f ((ax E (du (D E) cs)).top f))/\(∀i,D E<=i->(ax E (du (D E) cs)).gH f ((ax E (du (D E) cs)).top f) i=10)/\∃r,mR (D E) ((ax E (du (D E) cs)).gH f ((ax E (du (D E) cs)).top f))<=r/\(ax E (du (D E) cs)).iQ=(done++[(ax E (du (D E) cs)).ib f])++((ax E (du (D E) cs)).rounds r ((ax E (du (D E) cs)).gH f ((ax E (du (D E) cs)).top f))).1/\(ax E (du (D E) cs)).hq=((ax E (du (D E) cs)).rounds r ((ax E (du (D E) cs)).gH f ((ax E (du (D E) cs)).top f))).2:=λbG=>by
  have ay:=ZK aa aa.hex lx bG;have hn:mR (D E) ((ax E (du (D E) cs)).gH f ((ax E (du (D E) cs)).top f))<mR (D E) f:=ay;refine⟨hn,lx.next aa aa.hex,aCT (d:=ax E (du (D E) cs)) qb,?_⟩
  cases r with
  |zero=>omega
  |succ r =>
   rw[Day.rounds,ag bG] at bC yF;exact⟨r,by omega,by rw[bC];simp,yF⟩
 generalize nn:ax E (du (D E) cs)=d at *;generalize rA:(dF (D E) (d.top f)).map aH=V at *;simp only[go_sem,go_sem_proc,aC,dg,bE,bR,m9,qc,cK];subst nn;rw[<-rA];refine aCG T hC dB nf ((y8 E cs g gs).hD pK) X f (λi _=>hinv.le i) ((ax E (du (D E) cs)).top f) kf ao _ v1 (.ptr 217004 0 0) (.ptr 217007 0 0) (gD (mem' 217008)) (gD (mem' 217057)) _ _ ?_ ?_ ?_ ?_ ?_ ?_ ?_ ?_ ?_ (((show ((((y8 E cs g gs).hD pK).wf f)).eF mem' from Oe).up aL (by decide)).up aL (by decide)|>.up aL (by decide)) ?_ ?_ (λ_ _ _ _=>rfl) ?_
 all_goals first|(intro I3 cO cr cd jI g5 hV gN kN zb zw q1)|(simp only[eV,dJ,if_false,if_true,aC,dg,bE,bR];done)|(simp only[eV,dJ,if_false,if_true];rfl)|(simp only[eV,dJ,if_false,if_true,aC,dg,bE,bR];rfl)|(simp only[a4,dJ,if_false,if_true];done)|(simp only[a4,dJ,if_false,if_true];rfl)|skip
 replace kN:I3 10=.ref 217057 cr 1 0 ((ax E (du (D E) cs)).ib f).length:=kN;replace zb:cO 217057=some (cr,bc iC ((ax E (du (D E) cs)).ib f)):=zb;replace g5:I3 6=.ref 228023 g 1 0 (D E):=g5;replace zw:(((y8 E cs g gs).hD pK).wf ((ax E (du (D E) cs)).gH f ((ax E (du (D E) cs)).top f))).eF cO:=zw;have Jj:cO 217004=some (0,[.nil,.nil,.nil]):=(q1 217004 (by decide) (by decide) (by decide)).trans (by simp only[a4,dJ,if_false];exact m9);have xL:cO 217007=some (0,[.nil,.nil,zc done nS]):=(q1 217007 (by decide) (by decide) (by decide)).trans (by simp only[a4,dJ,if_false];exact qc);have aci:cO 217008=some (gD (mem' 217008),[.J (.Y V)]):=(q1 217008 (by decide) (by decide) (by decide)).trans (by simp only[a4,dJ,if_false,if_true];rw[rA]);have am1:done≠[]->cO 217077=some (nS,bc q4 done):=λh=>(q1 217077 (by decide) (by decide) (by decide)).trans (by simp only[a4,dJ,if_false];exact (fJ 217077 (by decide)).trans (eR h));have xP:∀(k j:Nat),k/1000≠217->j/1000=217->k≠j:=λk j F I h=>F (h ▸ I)
 have aCX:∀k:Nat,k/1000≠217->k/1000≠228->cO k=none:=λk F I=>(q1 k I (xP k _ F (by decide)) (xP k _ F (by decide))).trans (by
  rw[dm (xP k _ F (by decide)),dm (xP k _ F (by decide)),dm (xP k _ F (by decide))];exact (fJ k I).trans (h5 k F I))
 clear q1 fJ Oe amZ m9 qc amU eR h5 qF aC dg bE bR bC yF
 by_cases bG:(ax E (du (D E) cs)).ib f=[]
 ·obtain⟨F,I⟩:=am0 bG;rw[bG] at kN;rw[F,I] at dK;have np:(((0:Nat):Int)==0)=true:=rfl;simp only[go_sem,go_sem_proc,cd,jI,g5,hV,gN,kN,Jj,xL,aci,np,lD,List.set_cons_zero];refine dK _ _ nS ?_ ?_ ?_ ?_ ?_ λh=>?_
  ·simp only[eV,dJ,if_false];exact cd
  ·simp only[eV,dJ,if_false];exact jI
  ·simp only[eV,dJ,if_false];exact hV
  ·simp only[a4,dJ,if_false];exact Jj
  ·simp only[a4,dJ,if_true];rw[rA]
  ·simp only[a4,dJ,if_false];exact am1 h
 ·obtain⟨F,I,af,aO⟩:=vo bG;have aCH:((ax E (du (D E) cs)).ib f).length<=6:=eQ (mg _ _) (by rw[sA];exact aL)
  have np:((((ax E (du (D E) cs)).ib f).length:Int)==0)=false:=by
   have:((ax E (du (D E) cs)).ib f).length≠0:=λh=>bG (CQ.1 h);rw[beq_eq_false_iff_ne];omega
  have ke:=λ(K:bb->Prop) (st:bb)=>lE (K:=K) (st:=st) yX 10 217057 cr ((ax E (du (D E) cs)).ib f);have my:(1<=maxLen)=True:=eq_true (by decide);generalize TL:(ax E (du (D E) cs)).ib f=aK at *;clear am0 vo dK;have am2:∀(bh:Mem),(∀k:Nat,k/1000≠217->bh k=cO k)->∀k:Nat,k/1000≠217->k/1000≠228->bh k=none:=λbh m4 k F I=>(m4 k F).trans (aCX k F I)
  by_cases kq:done=[]
  ·subst kq;have Nx:zc [] nS=.nil:=rfl;rw[Nx] at xL;simp only[go_sem,go_sem_proc,cd,jI,g5,hV,gN,kN,Jj,xL,aci,zb,np,ke,my];refine⟨(_,[aK],gD (cO 217077)),F,⟨⟨pK,((zw.up aL (by decide)).up aL (by decide)).up aL (by decide)⟩,⟨0,rfl,?_⟩,λ_=>?_,?_,af,I,aO⟩⟩
   ·rw[iF];rfl
   ·rw[dm (by decide),iF];rfl
   ·exact am2 _ λk O=>by rw[dm (xP k _ O (by decide)),dm (xP k _ O (by decide)),dm (xP k _ O (by decide))]
  ·have Nx:zc done nS=.ref 217077 nS 1 0 (D done):=by unfold zc;rw[ag kq]
   rw[Nx] at xL;have SA:=am1 kq
   have T5:(D done)+1<=60:=by
    obtain⟨FV,-,bm,-⟩:=aO;have bK:=ach (ax E (du (D E) cs)) (10*(ax E (du (D E) cs)).n) λ_=>10;have bP:(ax E (du (D E) cs)).iQ.length<=10*D E:=bK;rw[bm] at bP;simp only[fH,Cb] at bP;omega
   have dC:=l3 amS aCU 217077 nS 24 done aK (cs:=[.J (.Y (aK.map iC))]) rfl (by omega) (by omega);simp only[go_sem,go_sem_proc,cd,jI,g5,hV,gN,kN,Jj,xL,aci,zb,SA,np,ke,dC];refine⟨(_,done++[aK],nS+1),F,⟨⟨pK,((zw.up aL (by decide)).up aL (by decide)).up aL (by decide)⟩,⟨0,rfl,?_⟩,λ_=>?_,?_,af,I,aO⟩⟩
   ·rw[iF];unfold zc;rw[ag (by simp),fH];rfl
   ·rw[dm (by decide),iF]
   ·exact am2 _ λk O=>by rw[dm (xP k _ O (by decide)),dm (xP k _ O (by decide)),dm (xP k _ O (by decide))]

theorem Alike.cm {d e:Day}(h:Alike d e):d.cm=e.cm:=by unfold Day.cm Day.hq;rw[h.top,h.rounds,h.n]
theorem Alike.iQ {d e:Day}(h:Alike d e):d.iQ=e.iQ:=by unfold Day.iQ;rw[h.rounds,h.n]
structure Ft (E:List Int) (cs:List aq):Prop where
 n:(D E)<=1000000
 c:(D cs)<=1000000
 lQ:hL E cs=true->eI E cs
def xQ (E:List Int)(cs:List aq):List bo:=cs.map λc=>au (fB cs ((ax E cs).cm c.1.toNat) c)
def ng (E:List Int)(cs:List aq):List bo:=dF (D E) (ax E cs).cm
def Fu (E:List Int)(cs:List aq):Data:=if hL E cs=true then .cI [.agg [.Y ((ng E cs).map aH),.Y ((xQ E cs).map aH),.Y ((ax E cs).iQ.map q4)],.int .i64 0] else .cI [.agg [.Y [],.Y [],.Y []],.int .i64 1]
theorem aCY {E:List Int}{cs:List aq}(X:eI E cs):CR cs ((dS (D E)).map (ax E cs).cm):=by
 have ab:=(gd.1 X.right).2.2.2;have aL:=X.jv;refine⟨X.p7,by simp;exact aL,λc H=>?_,λx Q=>?_⟩
 ·have F:=ab c H;have I:=X.am c H;rw[al,sA];omega
 ·obtain⟨i,M,rfl⟩:=ek.1 Q;have kn:=ha.1 M;exact⟨Iu X.ok kn,(AB X kn).mono (by omega)⟩
theorem aCZ {E:List Int}{cs:List aq}(X:eI E cs):(cs.map λc=>au (fB cs (((dS (D E)).map (ax E cs).cm).getD c.1.toNat 0) c))=xQ E cs:=lY λc H=>by
 have F:=(gd.1 X.right).2.2.2 c H;have:((dS (D E)).map (ax E cs).cm).getD c.1.toNat 0=(ax E cs).cm c.1.toNat:=y9 (ax E cs).cm 0 (show c.1.toNat<(D E) by omega);rw[this]
def Ny:=ck Iq λ(E,cs)=>cR (Ft E cs) (.same (Fu E cs))
@[go_sem] theorem acj (E:List Int)(cs:List aq)(H:Ft E cs):Ny [.Y (E.map ae),.Y (cs.map b4)]=some (.same (Fu E cs)):=(cx Rg (E,cs)).trans (cW H _)
theorem aC0 (T:bd)(zd:T UR=aW abp)(ze:T US=pj abQ)(uT:T OS=pj Nd)(hC:T pa=aW wj)(dB:T nu=aW sS)(nf:T wT=aW AH)(zf:T UT=aW Sw)(E:List Int)(cs:List aq)(H:Ft E cs):WP T Es (.same (Fu E cs)) [.J (.Y (E.map ae)),.J (.Y (cs.map b4))]:=by
 refine cy ?_;simp only[Es];obtain⟨iU,nx,oj⟩:=H;unfold Fu;rcases ab:hL E cs
 ·rw[ag (by decide)];simp only[go_sem,go_sem_proc,zd,ze,uT,hC,dB,nf,zf,iU,nx,ab,dt];repeat' (first|refine aw ?_ ?_|fail)<;>intro h<;>simp only[h,go_sem,go_sem_proc,zd,ze,uT,hC,dB,nf,zf,iU,nx,ab,dt]
 ·rw[ad rfl];have X:=oj ab;have aL:=X.jv;have CS:=ajT ab
  have h5:r1 228 (a4 emp 217004 0 [R.nil,R.nil,R.nil]):=λk O=>by
   rw[dm (by rintro rfl;omega)];rfl
  have e5:=aA9 E cs (a4 emp 217004 0 [R.nil,R.nil,R.nil]) ⟨X,h5⟩;simp only[go_sem,go_sem_proc,zd,ze,uT,hC,dB,nf,zf,iU,nx,ab,e5,cK];rintro amY m ⟨g,gs,rfl,cp,bT⟩;dsimp only at cp;have qF:m 217004=some (0,[.nil,.nil,.nil]):=(bT 217004 (by decide)).trans iF;have lh:m 217007=none:=(bT 217007 (by decide)).trans (dm (by decide));simp only[go_sem,go_sem_proc,zd,ze,uT,hC,dB,nf,zf,lh];refine aCV T uT hC dB nf E cs X g gs (.J (.Y (cs.map b4))) _ _ ?_ ?_ ?_ ?_ ?_ ⟨⟨λ_=>false,?_⟩,⟨0,rfl,?_⟩,λh=>absurd rfl h,?_,λ_ _=>rfl,Reach.start (aav X).ok,⟨10*D E,?_,rfl,rfl⟩⟩ ?_
  all_goals first|(intro I3 cO nS cd jI hV m9 qc SA)|(simp only[eV,dJ,if_false,if_true];done)|(simp only[eV,dJ,if_false,if_true];rfl)|(simp only[a4,dJ,if_false,if_true];done)|(simp only[a4,dJ,if_false,if_true];rfl)|(simp only[a4,dJ,if_false,if_true];exact qF)|skip
  ·exact cp.up aL (by decide)
  ·intro k F I;rw[dm (by rintro rfl;exact F (by decide)),bT k I,dm (by rintro rfl;exact F (by decide))];rfl
  ·rw[ajV];exact bZ _
  rw[<-CS.cm,<-CS.iQ] at qc;rw[<-CS.iQ] at SA;have Fv:=aB9 cs ((dS (D E)).map (ax E cs).cm) (aCY X);rw[aCZ X] at Fv;replace Fv:Sw [.Y (cs.map b4),.Y ((ng E cs).map aH)]=some (.same (.cI [.Y ((xQ E cs).map aH),.bool true])):=Fv;replace qc:cO 217007=some (0,[.J (.Y ((ng E cs).map aH)),.nil,zc (ax E cs).iQ nS]):=qc;generalize ng E cs=HV at *;generalize xQ E cs=PD at *;generalize (ax E cs).iQ=Jk at *;clear CS e5 cp bT qF lh
  by_cases uz:Jk=[]
  ·subst uz;replace qc:cO 217007=some (0,[.J (.Y (HV.map aH)),.nil,.nil]):=qc;simp only[go_sem,go_sem_proc,zd,ze,uT,hC,dB,nf,zf];refine abL ?_;rintro bh rfl;simp only[go_sem,go_sem_proc,zd,ze,uT,hC,dB,nf,zf,cd,jI,hV,m9,qc,Fv,cK,cV];repeat' (first|refine aw ?_ ?_|fail)<;>intro h<;>simp only[h,go_sem,go_sem_proc,zd,ze,uT,hC,dB,nf,zf,cd,jI,hV,m9,qc,Fv,cK,cV]
  ·have Fq:=SA uz;have Nx:zc Jk nS=.ref 217077 nS 1 0 (D Jk):=by unfold zc;rw[ag uz]
   rw[Nx] at qc;simp only[go_sem,go_sem_proc,zd,ze,uT,hC,dB,nf,zf];refine abK (sl.N1 217007 0 _ 2 217077 nS 1 0 (D Jk) _ (.Y (Jk.map q4)) qc rfl Fq (by decide) (pM (n:=0) amS Fq)) ?_;intro bh m4;have am3:bh 217007=some (0,[.J (.Y (HV.map aH)),.nil,.J (.Y (Jk.map q4))]):=by rw[m4,iF];rfl
   have am4:bh 217004=some (0,[.nil,.nil,.nil]):=by
    rw[m4,dm (by decide)];unfold kill;rw[dm (by decide)];exact m9
   clear m4;simp only[go_sem,go_sem_proc,zd,ze,uT,hC,dB,nf,zf,cd,jI,hV,am4,am3,Fv,cK];repeat' (first|refine aw ?_ ?_|fail)<;>intro h<;>simp only[h,go_sem,go_sem_proc,zd,ze,uT,hC,dB,nf,zf,cd,jI,hV,am4,am3,Fv,cK]
theorem am5 (a b:List aq)(w:Int):b1 (a++b) w=b1 a w++b1 b w:=by unfold b1;rw[p8]
theorem SB (cs:List aq)(w:Int):(b1 cs w).length<=D cs:=by unfold b1;exact mg _ _
theorem ack {E:List Int}{cs:List aq}:y1 E cs=true↔(D E)<=5/\D cs<=12/\(∀x∈E,1000000<x->1000000000000000<x)/\∀c∈cs,1000000<c.2.2.2->1000000000000000<c.2.2.2:=by
 have aI:∀m:Int,nK m=true↔(1000000<m->1000000000000000<m):=λm=>by
  unfold nK
  by_cases F:m>1000000<;>by_cases I:m<=1000000000000000<;>simp[F,I]<;>omega
 unfold y1;simp only[e4,pU,decide_eq_false_iff_not,kG,aI]
 constructor
 ·rintro⟨F,I,af,aO⟩;exact⟨by omega,by omega,af,aO⟩
 ·rintro⟨F,I,af,aO⟩;exact⟨by omega,by omega,af,aO⟩
theorem am6 {E:List Int}{cs:List aq}(aI:y1 E cs=true)(ab:hL E cs=true):(∀x∈E,0<=x/\x<=1000000)/\∀c∈cs,0<=c.2.2.2/\c.2.2.2<=1000000:=by
 obtain⟨-,-,af,aO⟩:=ack.1 aI;obtain⟨-,-,bm,bK⟩:=gd.1 ab;refine⟨λx Q=>?_,λc H=>?_⟩
 ·have:=af x Q;have:=bm x Q;omega
 ·have:=aO c H;have:=bK c H;omega
theorem am7 {E:List Int}{cs:List aq}(aI:y1 E cs=true)(ab:hL E cs=true):eI E cs:=by
 obtain⟨F,I,-,-⟩:=ack.1 aI;exact⟨ab,by omega,I,λc H=>by have:=(am6 aI ab).2 c H;omega⟩
theorem aC1 {E:List Int}{cs:List aq}(aI:y1 E cs=true):Ft E cs:=by
 obtain⟨F,I,-,-⟩:=ack.1 aI;exact⟨by omega,by omega,am7 aI⟩
section
variable {E:List Int} {cs:List aq} (X:eI E cs)
include X
theorem am8:gv (ng E cs):=by
 have:=X.jv;exact Z9 (by omega) λi M=>kt (AB X M) (by omega)
theorem aC2:(ng E cs).any (pS zO)=false/\acb (ng E cs)=(dS (D E)).map (ax E cs).cm:=by
 refine⟨?_,?_⟩
 ·rw[xu];intro f aI;obtain⟨y,av,rfl⟩:=ek.1 aI;obtain⟨i,M,rfl⟩:=ek.1 av;have kn:i<D E:=ha.1 M;have ar:=kt (AB X kn) (by omega);have aL:=Iu X.ok kn;rw[agY];show ¬ (!ej (au ((ax E cs).cm i))||decide ((au ((ax E cs).cm i)).1.1<0))=true;rw[Ij ar];have:decide ((ax E cs).cm i<0)=false:=mq (by grind);rw[<-Rt] at this;have I:decide ((au ((ax E cs).cm i)).1.1<0)=false:=this;rw[I];decide
 ·unfold acb ng dF;rw[nq];exact (lY λx _=>Ei x).trans (List.map_id _)
theorem aC3:acd E cs (ng E cs)/\Sz E cs (ng E cs)=true:=by
 obtain⟨F,I⟩:=aC2 X;have aL:=X.jv;have h8:=X.p7;refine⟨⟨by omega,by omega,am8 X,λ_=>X,λ_ _ _ f aI=>?_⟩,?_⟩
 ·obtain⟨y,av,rfl⟩:=ek.1 aI;obtain⟨i,M,rfl⟩:=ek.1 av;rw[Ei];exact (AB X (ha.1 M)).mono (by omega)
 ·unfold Sz;have ar:(ng E cs).length=D E:=p6 _ _;rw[X.right,F,lq ar,gW,gW,dt,gW,aCN,I];intro i M;have Q:=amB X i M
  have kZ:xO E cs (λi=>((dS (D E)).map (ax E cs).cm).getD i 0) i cs=xO E cs (ax E cs).cm i cs:=by
   have ab:=(gd.1 X.right).2.2.2
   have key:∀n (l:List aq),D l=n->(∀c∈l,c∈cs)->xO E cs (λi=>((dS (D E)).map (ax E cs).cm).getD i 0) i l=xO E cs (ax E cs).cm i l:=by
    intro n
    induction n with
    |zero=>intro l ar _;rw[CQ.1 ar];rfl
    |succ n az =>
     intro l ar hm;rcases Bu l with ao|⟨m,c,rfl⟩
     ·subst ao;cases ar
     ·rw[Bv] at *;simp only[fH,Cb] at ar;have H:=ab c (hm c (by simp));rw[Nt,Nt,az m (by omega) λy av=>hm y (by simp[av])];unfold Jh;have:((dS (D E)).map (ax E cs).cm).getD c.1.toNat 0=(ax E cs).cm c.1.toNat:=y9 (ax E cs).cm 0 (show c.1.toNat<(D E) by omega);simp only[this]
   exact key _ cs rfl λc H=>H
  rw[kZ,Q];show _=some ((bA (D E) (ax E cs).cm).getD i 0);rw[y9 (ax E cs).cm 0 M]
end
theorem aC4 (l:List (List Nat)):l.map q4=(l.map λr=>r.map λn=>((n:Nat):Int)).map r2:=by
 rw[nq];refine lY λr _=>?_;simp only[q4,r2,Function.comp_apply,nq]
 rfl
theorem aC5 {x:Rat}(Q:dj x):vU [.agg (aH (au x))]=some (.same (.bool true)):=by
 have F:=mO Q;have:=atr (au x).1.1 (au x).1.2 (au x).2.1 (au x).2.2 ⟨F.1,F.2⟩;rw[show ej (((au x).1.1,(au x).1.2),((au x).2.1,(au x).2.2))=true from Ij Q] at this;exact this
structure Jl (E:List Int) (cs:List aq) (aA cu:List Int) (aK:List (List Int)):Prop where
 s:eI E cs
 h:ng E cs=aA.map λn:Int=>au (n:Rat)
 p:xQ E cs=cu.map λn:Int=>au (n:Rat)
 f:((ax E cs).iQ.map λr=>r.map λn=>((n:Nat):Int))=aK
 M:∀n∈aA,dw n
 pi:∀n∈cu,dw n
 o:ay0 aK
theorem Jl.solve {E:List Int}{cs:List aq}{aA cu:List Int}{aK:List (List Int)}(h:Jl E cs aA cu aK):Ny [.Y (E.map ae),.Y (cs.map b4)]=some (.same (.cI [.agg [.Y ((aA.map λn:Int=>au (n:Rat)).map aH),.Y ((cu.map λn:Int=>au (n:Rat)).map aH),.Y (aK.map r2)],.int .i64 0])):=by
 have aL:=h.s.jv;have h8:=h.s.p7;have px:=acj E cs ⟨by omega,by omega,λ_=>h.s⟩
 unfold Fu at px;rw[ad h.s.right,h.h,h.p,aC4,h.f] at px;exact px
theorem Jl.fits {E:List Int}{cs:List aq}{aA cu:List Int}{aK:List (List Int)}(h:Jl E cs aA cu aK):amR [.Y (E.map ae),.Y (cs.map b4),.Y ((aA.map λn:Int=>au (n:Rat)).map aH)]=some (.same (.bool true)):=by
 obtain⟨F,I⟩:=aC3 h.s;have:=aCR E cs (ng E cs) F;rw[I,h.h] at this;exact this
theorem Jl.small {E:List Int}{cs:List aq}{aA cu:List Int}{aK:List (List Int)}(h:Jl E cs aA cu aK):(D aA)<=6/\D cu<=12:=by
 have F:=congrArg D h.h;have I:=congrArg D h.p;unfold ng at F;unfold xQ at I;rw[p6,al] at F;rw[al,al] at I;have aL:=h.s.jv;have h8:=h.s.p7;omega
end Go.Mini
namespace Go.Mini
open Classical
def aC:Day:=ax [5,0] [(0,1,0,10),(1,-1,0,4)]
def aD:Day:=ax [0,0] [(0,1,1,10),(1,0,1,10)]
def dg:Day:=ax [9] [(0,-1,0,6),(0,-1,1,2),(0,-1,1,4)]
def b9:Day:=ax [0,0] [(0,1,1,10),(1,0,1,10),(0,-1,0,5)]
def dk:Day:=ax [10,30] [(1,-1,0,25)]
def bE:Day:=ax [10,0] [(0,1,0,30)]
def bR:Day:=ax [30,0] [(0,1,0,30)]
theorem aC6:dk.cm 0=10:=by
 have aa:dk.de:=Mw (by decide);have dq:dk.cF=[⟨1,-1,0,25⟩]:=rfl;have H:dk.E 0=10:=rfl;rw[(xB aa).1 0 (by decide)];simp[dq,H,Day.pr,Day.eZ,b8,nI]
theorem am9 {d:Day}(aa:d.de)(aL:d.n=2)(dq:d.cF=[⟨0,1,0,30⟩])(F:d.E 1=0):d.cm 0=d.E 0/\d.cm 1=if 30<=d.E 0 then 30 else pos (d.E 0):=by
 have uU:d.S 0 0=30:=by simp[dq,Day.S,b8,nI]
 have RL:d.bt 0 1=30:=by simp[dq,Day.bt,b8,nI]
 have en:d.w ⟨0,1,0,30⟩=1:=by simp only[Day.w,uU];decide +kernel
 have ye:d.cm 0=d.E 0:=by
  rw[(xB aa).1 0 (by omega)];simp[dq,Day.pr,Day.eZ,b8,nI]
 refine⟨ye,?_⟩;rw[(xB aa).1 1 (by omega)];have bI:d.E 0-0=d.E 0:=by grind
 simp[dq,Day.pr,Day.eZ,Day.fA,b8,F,ye,RL,en,d.Mn,bI,nI,wi,Rat.one_mul]
theorem aC7:bE.cm 1=10:=by
 have h:bE.de:=Mw (by decide);rw[(am9 h rfl rfl rfl).2,show bE.E 0=10 from rfl]
 decide +kernel
theorem aC8:bR.cm 1=30:=by
 have h:bR.de:=Mw (by decide);rw[(am9 h rfl rfl rfl).2,show bR.E 0=30 from rfl]
 decide +kernel
end Go.Mini
namespace Go.Mini
open Go

end Go.Mini
namespace Go.Mini
open Classical
section
variable {E:List Int} {cs:List aq} (X:eI E cs)
include X
theorem aC9 (i:Nat)(aQ:eg->Rat):b8 ((b1 cs i).map cC) aQ=b8 (ax E cs).cF λc=>if c.aE=i then aQ c else 0:=by
 have ab:=(gd.1 X.right).2.2.2
 have e:∀l:List aq,(∀c∈l,c∈cs)->b8 ((b1 l i).map cC) aQ=b8 (l.map cC) λc=>if c.aE=i then aQ c else 0:=by
  intro l
  induction l with
  |nil=>intro _;rfl
  |cons c l az =>
   intro hm;have ao:=(ab c (hm c fZ)).1;have az:=az λy av=>hm y (gx _ av);unfold b1 at *
   by_cases H:c.1=(i:Int)
   ·rw[qX (by simpa using H),eG,eG,b8,b8,az,ad (by show c.1.toNat=i;omega)]
   ·rw[r0 (by simpa using H),eG,b8,az,ag (by show ¬ c.1.toNat=i;omega),wi]
 exact e cs λc H=>H
end
end Go.Mini
namespace Go.Mini
open Go
def acm:=ck Sv λ(l,q)=>cR (Rz l q) (.same (IA l q))
@[go_sem] theorem aDa (l:List aq)(q:List Rat)(H:Rz l q):acm [.Y (l.map b4),.Y ((q.map au).map aH)]=some (.same (IA l q)):=(cx amt (l,q)).trans (cW H _)
theorem aDb (T:bd)(oV:T KT=aW Sg)(fI:T l5=aW vU)(mT:T vC=aW Io)(dB:T nu=aW sS)(l:List aq)(q:List Rat)(H:Rz l q):WP T aai (.same (IA l q)) [.J (.Y (l.map b4)),.J (.Y ((q.map au).map aH))]:=by
 refine cy ?_;simp only[aai];obtain⟨how,hlen,kf⟩:=H;have h8:=how.len;have hZ:∀c∈l,0<=c.2.2.1/\c.2.2.1<10:=λc H=>by have:=how.c c H;omega
 have hle:((D q:Int)==(D l:Int))=true:=by rw[hlen];exact beq_self_eq_true _
 simp only[go_sem,go_sem_proc,oV,fI,mT,dB,how,hle,al,bne,cK];refine dn [1,19,20] [] (λ(i:Nat) tm m=>i<=D l/\tm 21=.J (.int .i64 i)/\tm 6=.J (.int .i64 (ie l (λi=>q.getD i 0) i))) (λi=>D l-i) 0 (by refine⟨by omega,rfl,rfl⟩) ?_;intro vs ms aV aS;simp only[go_sem,go_sem_proc,oV,fI,mT,dB,al] at aV aS;subst aV aS;rintro i tm m O-⟨M,pe,bE⟩;simp only[go_sem,go_sem_proc,oV,fI,mT,dB,ba] at O;obtain⟨aC,uV,mm⟩:=O;rcases dA (i<D l) with ay|cj
 ·have d1:decide ((i:Int)<(D l:Int))=true:=di;have bX:=ff (i:=i) (by omega);obtain⟨⟨aJ,c2,c3,c4⟩,Q⟩:∃c,l[i]?=some c:=⟨_,bx ay⟩;obtain⟨x,av⟩:∃x,q[i]?=some x:=⟨_,bx (by omega)⟩;have H:=how.c _ (ec Q);have ar:=kf x (ec av);dsimp only at H;have cD:dw c4:=oT (by omega) (by omega);have cT:=aC5 ar;have c7:=Nm cD;have dZ:=EX ar (nM cD);have aL:decide (lJ x ((c4:Int):Rat)<0)=decide (x<((c4:Int):Rat)):=Rl;have wG:q.getD i 0=x:=by rw[dY,av];rfl
  have pV:ie l (λi=>q.getD i 0) (i+1)=if x<((c4:Int):Rat) then min (ie l (λi=>q.getD i 0) i) c3 else ie l (λi=>q.getD i 0) i:=by
   rw[ie,Q];dsimp only;rw[wG]
  have ana:(q.map au)[i]?=some (au x):=by rw[bl,av];rfl
  generalize q.map au=QE at *;generalize au x=aQ at *;generalize au ((c4:Int):Rat)=bL at *;obtain⟨⟨f1,f2⟩,⟨f3,f4⟩⟩:=aQ;obtain⟨⟨cq,cr⟩,⟨g2,jH⟩⟩:=bL;simp only[aH] at cT c7 dZ;rcases cd:decide (x<((c4:Int):Rat))
  ·rw[cd] at aL;rw[ag (of_decide_eq_false cd)] at pV;refine a0 ?_;repeat' (intro h<;>simp only[h,go_sem,go_sem_proc,oV,fI,mT,dB,aC,bE,uV,mm,pe,Q,ana,d1,bX,cT,c7,dZ,aL,b4,aH,al,bl,cK]<;>try refine aw ?_ ?_)
   exact⟨i+1,by omega,by omega,rfl,by rw[pV]⟩
  ·rw[cd] at aL;rw[ad (of_decide_eq_true cd)] at pV;have aDc:(if c3<ie l (λi=>q.getD i 0) i then c3 else ie l (λi=>q.getD i 0) i)=min (ie l (λi=>q.getD i 0) i) c3:=by rw[Int.min_def];split<;>split<;>omega
   refine a0 ?_;repeat' (intro h<;>simp only[h,go_sem,go_sem_proc,oV,fI,mT,dB,aC,bE,uV,mm,pe,Q,ana,d1,bX,cT,c7,dZ,aL,b4,aH,al,bl,cK]<;>try refine aw ?_ ?_)
   exact⟨i+1,by omega,by omega,rfl,by rw[pV,aDc]⟩
 ·have d1:decide ((i:Int)<(D l:Int))=false:=c9;obtain rfl:i=D l:=by omega
  have ah:=akO (q:=λi=>q.getD i 0) hZ (D l);unfold IA;generalize ie l (λi=>q.getD i 0) (D l)=s at *;rcases cd:(s==10)
  ·rw[ad (by have:=ne_of_beq_false cd;omega)];refine a0 ?_;repeat' (intro h<;>simp only[h,go_sem,go_sem_proc,oV,fI,mT,dB,aC,bE,uV,mm,pe,d1,cd,al]<;>try refine aw ?_ ?_)
  ·rw[ag (by have:=eq_of_beq cd;omega)];refine a0 ?_;repeat' (intro h<;>simp only[h,go_sem,go_sem_proc,oV,fI,mT,dB,aC,bE,uV,mm,pe,d1,cd,al]<;>try refine aw ?_ ?_)
def uW (E:List Int)(cs:List aq)(i:Nat):List Rat:=(b1 cs i).map λc=>fB cs ((ax E cs).cm i) c
section
variable {E:List Int} {cs:List aq} (X:eI E cs) {i:Nat}
include X
theorem SD {c:aq}(H:c∈b1 cs i):fB cs ((ax E cs).cm i) c=(ax E cs).fA (ax E cs).cm (cC c):=by
 obtain⟨F,I⟩:=mj.1 H;rw[Ix X.right _ F,I,jX]
theorem aDd {x:Rat}(Q:x∈uW E cs i):dX 482 x:=by
 obtain⟨c,H,rfl⟩:=ek.1 Q;rw[SD X H];exact aaA X (mj.1 H).1
theorem aDe (M:i<D E):ie (b1 cs i) (λk=>(uW E cs i).getD k 0) (b1 cs i).length<10↔(ax E cs).cm i<(ax E cs).bt i 10:=by
 have hZ:∀c∈b1 cs i,0<=c.2.2.1/\c.2.2.1<10:=λc H=>by have:=(X.own i).c c H;omega
 rw[ay2 hZ,<-aj0 X.ok (Iu X.ok M)]
 constructor
 ·rintro⟨k,O,c,H,ay⟩;have hm:=ec H;have e:(uW E cs i).getD k 0=fB cs ((ax E cs).cm i) c:=by unfold uW;rw[dY,bl,H];rfl
  try dsimp only at ay
  rw[e,SD X hm] at ay;have I:=(mj.1 hm).2;exact⟨cC c,p5 (mj.1 hm).1,by show c.1.toNat=i;omega,ay⟩
 ·rintro⟨b,ah,bT,ay⟩;obtain⟨c,H,rfl⟩:=ek.1 ah;have F:=((gd.1 X.right).2.2.2 c H).1;have hm:c∈b1 cs i:=mj.2 ⟨H,by have:c.1.toNat=i:=bT;omega⟩
  obtain⟨k,O,he⟩:=List.getElem_of_mem hm;have a7:(b1 cs i)[k]?=some c:=by rw[bx O,he]
  have e:(uW E cs i).getD k 0=fB cs ((ax E cs).cm i) c:=by unfold uW;rw[dY,bl,a7];rfl
  refine⟨k,O,c,a7,?_⟩
  try dsimp only
  rw[e,SD X hm];exact ay
end

def SE:=ck GL λ(a,b)=>some (.same (.bool (decide (a<b))))
@[go_sem] theorem aDf (a:Int)(b:Int):SE [.int .i64 a,.int .i64 b]=some (.same (.bool (decide (a<b)))):=cx O8 (a,b)
theorem aDg (T:bd)(VW:T DL=aW O6)(a:Int)(b:Int):WP T VF (.same (.bool (decide (a<b)))) [.J (.int .i64 a),.J (.int .i64 b)]:=by
 refine cy ?_;simp only[VF];refine a0 ?_;repeat' (intro h<;>simp only[h,go_sem,go_sem_proc,VW]<;>try refine aw ?_ ?_)
abbrev acn:(List Int)×(List Int)->List Data:=λ(l,m)=>[.Y (l.map ae),.Y (m.map ae)]
def aco:=ck acn λ(l,m)=>cR (D l<=1000000/\D m<=1000000) (.same (.bool (decide (l=m))))
theorem aDh:∀a b,acn a=acn b->a=b:=by
  rintro⟨dW,dN⟩ ⟨ak,cO⟩ h;simp only[ba,Data.Y.injEq,and_true] at h;exact dT (map_inj fp _ _ h.1) (map_inj fp _ _ h.2)
@[go_sem] theorem aDi (l:List Int)(m:List Int)(H:(D l)<=1000000/\D m<=1000000):aco [.Y (l.map ae),.Y (m.map ae)]=some (.same (.bool (decide (l=m)))):=(cx aDh (l,m)).trans (cW H _)
theorem aDj (T:bd)  (l:List Int) (m:List Int) (H:(D l)<=1000000/\D m<=1000000):WP T VP (.same (.bool (decide (l=m)))) [.J (.Y (l.map ae)),.J (.Y (m.map ae))]:=by
 refine cy ?_;simp only[VP];obtain⟨F,I⟩:=H;rcases q:((D l:Int)==(D m:Int))
 ·have bG:decide (l=m)=false:=mq λe=>by rw[e,beq_self_eq_true] at q;cases q
  refine a0 ?_;repeat' (intro h<;>simp only[h,go_sem,go_sem_proc,q,bG,al,bne,dt]<;>try refine aw ?_ ?_)
 have ar:(D l)=D m:=by have:=eq_of_beq q;omega
 simp only[go_sem,go_sem_proc,q,al,bne,cK];refine dn [0,1,12] [] (λ(i:Nat) tm _=>i<=D l/\l.take i=m.take i/\tm 13=.J (.int .i64 i)) (λi=>D l-i) 0 (by refine⟨by omega,by simp,rfl⟩) ?_;intro vs ms aV aS;simp only[go_sem,go_sem_proc,al] at aV aS;subst aV aS;rintro i tm mem O-⟨M,bF,h9⟩;simp only[go_sem,go_sem_proc,ba] at O;obtain⟨bI,aC,gh⟩:=O;rcases dA (i<D l) with ay|cj
 ·have d3:decide ((i:Int)<(D l:Int))=true:=di;have bX:=ff (i:=i) (by omega);obtain⟨x,Q⟩:∃x,l[i]?=some x:=⟨_,bx ay⟩;obtain⟨y,av⟩:∃y,m[i]?=some y:=⟨_,bx (by omega)⟩;rcases e6:(x==y)
  ·have bG:decide (l=m)=false:=mq λe=>by
    rw[e,av] at Q
    cases Q;rw[beq_self_eq_true] at e6
    cases e6
   refine a0 ?_;repeat' (intro h<;>simp only[h,go_sem,go_sem_proc,bI,aC,gh,h9,Q,av,d3,e6,bG,ae,al,bl,hN,lD,kY,bne,dt]<;>try refine aw ?_ ?_)
  ·obtain rfl:x=y:=eq_of_beq e6;refine a0 ?_;repeat' (intro h<;>simp only[h,go_sem,go_sem_proc,bI,aC,gh,h9,Q,av,d3,bX,e6,ae,al,bl,hN,lD,kY,bne,cK]<;>try refine aw ?_ ?_)
   refine⟨i+1,by omega,by omega,?_,rfl⟩
   rw[hv,hv,bF,Q,av]
 ·have d3:decide ((i:Int)<(D l:Int))=false:=c9
  have he:decide (l=m)=true:=lq (by
   rw[dy (by omega),dy (by omega)] at bF;exact bF)
  refine a0 ?_;repeat' (intro h<;>simp only[h,go_sem,go_sem_proc,bI,aC,gh,h9,d3,he,al]<;>try refine aw ?_ ?_)
def uX (v:Int):List Int->Nat->Int
 | [],_ => -1
 |x::r,i=>if (v==x)=true then (i:Int) else uX v r (i+1)
theorem anb (v:Int):∀(l:List Int) (i:Nat),decide (uX v l i>=0)=decide (v∈l)
 | [],i=>by simp[uX]
 |x::r,i=>by
  unfold uX;rcases q:(v==x)
  ·rw[ag (by decide),anb v r (i+1)];have:v≠x:=beq_eq_false_iff_ne.1 q;rw[decide_eq_decide];simp[this]
  ·rw[ad rfl];obtain rfl:v=x:=eq_of_beq q;rw[decide_eq_decide];simp
abbrev SF:(List Int)×Int->List Data:=λ(l,v)=>[.Y (l.map ae),.int .i64 v]
def acp:=ck SF λ(l,v)=>cR (D l<=1000000) (.same (.int .i64 (uX v l 0)))
theorem anc:∀a b,SF a=SF b->a=b:=by
  rintro⟨dW,v1⟩ ⟨ak,v2⟩ h;simp only[ba,Data.Y.injEq,Data.int.injEq,and_true,true_and] at h;exact dT (map_inj fp _ _ h.1) h.2
@[go_sem] theorem aDk (l:List Int)(v:Int)(H:(D l)<=1000000):acp [.Y (l.map ae),.int .i64 v]=some (.same (.int .i64 (uX v l 0))):=(cx anc (l,v)).trans (cW H _)
theorem aDl (T:bd)  (l:List Int) (v:Int) (H:(D l)<=1000000):WP T VR (.same (.int .i64 (uX v l 0))) [.J (.Y (l.map ae)),.J (.int .i64 v)]:=by
 refine cy ?_;simp only[VR];simp only[go_sem,go_sem_proc,al];refine dn [0,1,7] [] (λ(i:Nat) tm _=>i<=D l/\uX v l 0=uX v (l.drop i) i/\tm 8=.J (.int .i64 i)) (λi=>D l-i) 0 (by refine⟨by omega,by simp,rfl⟩) ?_;intro vs ms aV aS;simp only[go_sem,go_sem_proc,al] at aV aS;subst aV aS;rintro i tm mem O-⟨M,bF,dE⟩;simp only[go_sem,go_sem_proc,ba] at O;obtain⟨bI,aC,bR⟩:=O;rcases dA (i<D l) with ay|cj
 ·have d3:decide ((i:Int)<(D l:Int))=true:=di;have bX:=ff (i:=i) (by omega);obtain⟨x,Q⟩:∃x,l[i]?=some x:=⟨_,bx ay⟩;rw[List.drop_eq_getElem_cons ay,(dP.1 Q).2] at bF;have dv:uX v (x::l.drop (i+1)) i=if (v==x)=true then (i:Int) else uX v (l.drop (i+1)) (i+1):=rfl;rw[dv] at bF;rcases e6:(v==x)
  ·rw[e6,ag (by decide)] at bF;refine a0 ?_;repeat' (intro h<;>simp only[h,go_sem,go_sem_proc,bI,aC,bR,dE,Q,d3,bX,e6,ae,al,bl,hN,lD,kY]<;>try refine aw ?_ ?_)
   exact⟨i+1,by omega,by omega,bF,rfl⟩
  ·rw[e6,ad rfl] at bF;have aX:uX v l 0=(i:Int):=bF;refine a0 ?_;repeat' (intro h<;>simp only[h,go_sem,go_sem_proc,bI,aC,bR,dE,Q,d3,e6,aX,ae,al,bl,hN,lD,kY]<;>try refine aw ?_ ?_)
 ·have d3:decide ((i:Int)<(D l:Int))=false:=c9;rw[jQ (by omega)] at bF;have aX:uX v l 0 = -1:=bF;refine a0 ?_;repeat' (intro h<;>simp only[h,go_sem,go_sem_proc,bI,aC,bR,dE,d3,aX,al]<;>try refine aw ?_ ?_)
def acq:=ck SF λ(l,v)=>cR (D l<=1000000) (.same (.bool (decide (v∈l))))
@[go_sem] theorem aDm (l:List Int)(v:Int)(H:(D l)<=1000000):acq [.Y (l.map ae),.int .i64 v]=some (.same (.bool (decide (v∈l)))):=(cx anc (l,v)).trans (cW H _)
theorem aDn (T:bd)(aDo:T Vj=aW acp)(l:List Int)(v:Int)(H:(D l)<=1000000):WP T VQ (.same (.bool (decide (v∈l)))) [.J (.Y (l.map ae)),.J (.int .i64 v)]:=by
 refine cy ?_;simp only[VQ];have M:=aDk l v H;have hm:=anb v l 0;refine a0 ?_;repeat' (intro h<;>simp only[h,go_sem,go_sem_proc,aDo,M,hm]<;>try refine aw ?_ ?_)
section
variable (A bU:List Int) (x y:Int)
theorem aDp:(A++y::x::bU)[D A+1]?=some x:=by simp
theorem aDq:(A++y::x::bU)[D A]?=some y:=by simp
theorem aDr:fN (D A+1) ((A++y::x::bU).map bD)++[bD y]++fT (D A+1+1) ((A++y::x::bU).map bD)=(A++y::y::bU).map bD:=by
 rw[<-Ah,<-Nz]
 have F:fN (D A+1) (A++y::x::bU)=A++[y]:=by
  rw[Di,dy (by omega),show (D A)+1-D A=1 by omega];rfl
 have I:fT (D A+1+1) (A++y::x::bU)=bU:=by
  rw[oG];have:(D A)+1+1-D A=2:=by omega
  rw[this,jQ (by omega)]
  rfl
 rw[F,I];simp
theorem aDs:fN (D A) ((A++y::y::bU).map bD)++[bD x]++fT (D A+1) ((A++y::y::bU).map bD)=(A++x::y::bU).map bD:=by
 rw[<-Ah,<-Nz];have F:fN (D A) (A++y::y::bU)=A:=List.take_left
 have I:fT (D A+1) (A++y::y::bU)=y::bU:=by
  rw[oG];have:(D A)+1-D A=1:=by omega
  rw[this,jQ (by omega)]
  rfl
 rw[F,I];simp
end
structure CT (l:List Int) (i:Nat) (C A:List Int) (x:Int) (B:List Int):Prop where
 len:(D A)+D B=i
 acr:(A++B).Pairwise (·<=·)
 up:∀b∈B,x<=b
 perm:(A++x::(B++C)).Perm l
theorem CT.step {l:List Int}{i:Nat}{C A B:List Int}{x y:Int}(h:CT l i C (A++[y]) x B)(jk:x<y):CT l i C A x (y::B):=by
 refine⟨?_,?_,λb ah=>?_,?_⟩
 ·have:=h.len;simp at this ⊢;omega
 ·have:=h.acr;rwa [gM] at this
 ·rcases hj.1 ah with rfl|ah
  ·omega
  ·exact h.up b ah
 ·refine List.Perm.trans ?_ h.perm;rw[gM];refine List.Perm.append_left A ?_;exact List.Perm.swap y x (B++C)
theorem CT.stop {l:List Int}{i:Nat}{C A B:List Int}{x:Int}(h:CT l i C A x B)(Q:∀a∈A,a<=x):(A++x::B).Pairwise (·<=·):=by
 have X:=SG.1 h.acr;refine SG.2 ⟨X.1,CU.2 ⟨h.up,X.2.1⟩,λa aP b ah=>?_⟩;rcases hj.1 ah with rfl|ah
 ·exact Q a aP
 ·exact X.2.2 a aP b ah
theorem CT.last {l:List Int}{i:Nat}{C A B:List Int}{x y:Int}(h:CT l i C (A++[y]) x B)(jk:¬ x<y):∀a∈A++[y],a<=x:=by
 intro a aP;rcases List.mem_append.1 aP with aP|aP
 ·have X:=(SG.1 (SG.1 h.acr).1).2.2 a aP y (by simp);omega
 ·simp at aP;omega
theorem NA {m:Mem}{k a b:Nat}{x y:List R}:a4 (a4 m k a x) k b y=a4 m k b y:=by
 funext j
 by_cases h:j=k
 ·subst h;rw[iF,iF]
 ·rw[dm h,dm h,dm h]
structure sc where
 l:List Int
 g:Nat
def tk (a:sc)(mem:Mem):Prop:=mem 289040=some (a.g,a.l.map bD)/\D a.l<=12
def AS (a:sc)(mem:Mem):R->Mem->Prop:=λm mem'=>m=.cI []/\∃s:List Int,s.Perm a.l/\s.Pairwise (·<=·)/\mem'=a4 mem 289040 a.g (s.map bD)
def SH:List R->Mem->Option (R->Mem->Prop):=uq (λ(a:sc) args mem=>args=[.ref 289040 a.g 1 0 (D a.l),.J (.int .i64 0),.J (.int .i64 (D a.l))]/\tk a mem) AS
theorem SI {a b:sc}{mem:Mem}(F:tk a mem)(I:tk b mem):a=b:=by
 have:=F.1.symm.trans I.1;simp only[cn,fb] at this;obtain⟨l,g⟩:=a;obtain⟨fP,c6⟩:=b;dsimp only at this;rw[this.1,Rm this.2]
theorem aDt (a:sc)(mem:Mem)(h:tk a mem):SH [.ref 289040 a.g 1 0 (D a.l),.J (.int .i64 0),.J (.int .i64 (D a.l))] mem=some (AS a mem):=by
 unfold SH;exact LW (a:=a) (λa b args mem F I=>SI F.2 I.2) ⟨rfl,h⟩
theorem aDu (T:bd)(SJ:T OV=aW SE)(a:sc)(mem:Mem)(aP:tk a mem):
  wp T O3.body (oe O3.res (AS a mem)) ⟨km [.ref 289040 a.g 1 0 (D a.l),.J (.int .i64 0),.J (.int .i64 (D a.l))],mem⟩:=by
 obtain⟨k6,aL⟩:=aP;obtain⟨l,g⟩:=a;dsimp only at k6 aL ⊢;refine qs ?_;simp only[O3];simp only[go_sem,go_sem_proc];have w1:IntKind.i64.wrap ((0:Int)+1)=1:=by rw[eS _];rfl
 simp only[go_sem,go_sem_proc,w1]
 refine dn [0,1,2] [] (λ((i,S,C):Nat×List Int×List Int) tm m=>tm 6=.J (.int .i64 ((i+1:Nat):Int))/\(S++C).Perm l/\S.Pairwise (·<=·)/\(D S=i+1\/l=[])/\m=a4 mem 289040 g ((S++C).map bD)) (λ(i,_,_)=>D l-i) (0,l.take 1,l.drop 1) (by
  refine⟨rfl,by rw[sx],?_,?_,?_⟩
  ·cases l with
   |nil=>exact List.Pairwise.nil
   |cons x r=>exact List.pairwise_singleton _ _
  ·cases l with
   |nil=>exact .inr rfl
   |cons x r=>exact .inl rfl
  ·rw[sx]
   funext k
   by_cases O:k=289040
   ·subst O;rw[iF];exact k6
   ·rw[dm O]) ?_
 intro vs ms aV aS;simp only[go_sem,go_sem_proc,w1] at aV aS;subst aV aS;rintro⟨i,S,C⟩ tm m O-⟨bE,aF,X,cS,hm⟩;simp only[go_sem,go_sem_proc,ba] at O;obtain⟨bI,aC,aD⟩:=O;have hlen:=aF.length_eq;rw[fH] at hlen;rcases dA (i+1<D l) with ay|cj
 ·have d1:decide (((i+1:Nat):Int)<(D l:Int))=true:=di
  have ane:(D S)=i+1:=by
   rcases cS with h|h
   ·exact h
   ·rw[h] at ay;simp at ay
  have bX:IntKind.i64.wrap (((i+1:Nat):Int)+1)=((i+1+1:Nat):Int):=by rw[eS _];omega
  obtain⟨x,ja,rfl⟩:∃x ja,C=x::ja:=by
   cases C with
   |nil=>simp at hlen;omega
   |cons x ja=>exact⟨x,ja,rfl⟩
  simp only[go_sem,go_sem_proc,bI,aC,aD,bE,d1]
  refine dn [0,1,2,6] [] (λ((A,B):List Int×List Int) tm m=>tm 7=.J (.int .i64 (D A:Int))/\CT l (i+1) ja A x B/\m=a4 mem 289040 g ((A++x::(B++ja)).map bD)) (λ(A,_)=>D A) (S,[]) (by
   exact⟨by rw[ane];rfl,⟨by simp;exact ane,by rw[fC];exact X,λb ah=>(by cases ah),aF⟩,hm⟩) ?_
  intro vs ms aV aS;simp only[go_sem,go_sem_proc,bI,aC,aD,bE] at aV aS;subst aV aS;clear bI aC aD bE;rintro⟨A,B⟩ tm m O-⟨bR,sv,hm⟩;simp only[go_sem,go_sem_proc,ba] at O;obtain⟨bI,aC,aD,bE⟩:=O;subst hm;have Ch:=sv.len;rcases Bu A with dz|⟨e7,y,dz⟩
  ·subst dz;have d2:decide (((0:Nat):Int)>0)=false:=rfl;have Mt:=sv.stop λa aP=>by cases aP
   have mD:=sv.perm;rw[lD] at bR;simp only[go_sem,go_sem_proc,bI,aC,aD,bE,bR,d2,bX];repeat' (first|refine aw ?_ ?_|fail)<;>intro h<;>simp only[h,go_sem,go_sem_proc,bI,aC,aD,bE,bR,d2,bX]
   refine⟨(i+1,x::B,ja),by dsimp only;omega,rfl,mD,Mt,.inl ?_,rfl⟩
   simp at Ch ⊢;omega
  ·rw[Bv] at dz;subst dz;have eR:e7++[y]++x::(B++ja)=e7++y::x::(B++ja):=by simp
   have CS:(e7++[y]).length=D e7+1:=by simp
   rw[CS] at bR Ch;rw[eR];have d2:decide (((D e7+1:Nat):Int)>0)=true:=di;have SK:IntKind.i64.wrap (((D e7+1:Nat):Int)-1)=(D e7:Int):=by rw[eS _];omega
   have cb:(D e7+1+1<=D l)=True:=eq_true (by simp at hlen;omega);have np:(D e7+1<=D l)=True:=eq_true (by simp at hlen;omega);have oC:(D e7+1<D l)=True:=eq_true (by simp at hlen;omega);have iU:(D e7<D l)=True:=eq_true (by simp at hlen;omega);have t1:fN 1 (fT (D e7+1) ((e7++y::x::(B++ja)).map bD))=[.J (.int .i64 x)]:=wm (f:=bD) (aDp e7 (B++ja) x y);have t2:fN 1 (fT (D e7) ((e7++y::x::(B++ja)).map bD))=[.J (.int .i64 y)]:=wm (f:=bD) (aDq e7 (B++ja) x y);have jB:fN (D e7+1) ((e7++y::x::(B++ja)).map bD)++[R.J (.int .i64 y)]++fT (D e7+1+1) ((e7++y::x::(B++ja)).map bD)=_:=aDr e7 (B++ja) x y;have jC:fN (D e7) ((e7++y::y::(B++ja)).map bD)++[R.J (.int .i64 x)]++fT (D e7+1) ((e7++y::y::(B++ja)).map bD)=_:=aDs e7 (B++ja) x y;have cd:((e7++y::x::(B++ja)).map bD).length=D l:=by have:=sv.perm.length_eq;rw[eR] at this;rw[al,this]
   have c0:((e7++y::y::(B++ja)).map bD).length=D l:=by rw[<-cd];simp
   have ev:((e7++x::y::(B++ja)).map bD).length=D l:=by rw[<-cd];simp
   have Jm:SE [.int .i64 x,.int .i64 y]=some (.same (.bool (decide (x<y)))):=aDf x y;rcases q:decide (x<y)
   ·rw[q] at Jm;have Mt:=sv.stop (sv.last (of_decide_eq_false q));have mD:=sv.perm;generalize anf:(e7++y::x::(B++ja)).map bD=R1 at *;simp only[go_sem,go_sem_proc,SJ,bI,aC,aD,bE,bR,d2,SK,bX,cb,np,oC,iU,t1,t2,cd,Jm,cL];repeat' (first|refine aw ?_ ?_|fail)<;>intro h<;>simp only[h,go_sem,go_sem_proc,SJ,bI,aC,aD,bE,bR,d2,SK,bX,cb,np,oC,iU,t1,t2,cd,Jm,cL]
    refine⟨(i+1,e7++[y]++x::B,ja),by dsimp only;omega,rfl,?_,Mt,.inl ?_,?_⟩
    ·have:e7++[y]++x::B++ja=e7++[y]++x::(B++ja):=by simp
     show (e7++[y]++x::B++ja).Perm l;rw[this];exact mD
    ·simp at Ch ⊢;omega
    ·rw[<-anf]
     congr 2
     simp
   ·rw[q] at Jm;have dv:=sv.step (of_decide_eq_true q);generalize anf:(e7++y::x::(B++ja)).map bD=R1 at *;generalize alw:(e7++y::y::(B++ja)).map bD=pW at *;generalize aDv:(e7++x::y::(B++ja)).map bD=R3 at *;simp only[go_sem,go_sem_proc,SJ,bI,aC,aD,bE,bR,d2,SK,cb,np,oC,iU,t1,t2,cd,c0,ev,jB,jC,Jm,cL];repeat' (first|refine aw ?_ ?_|fail)<;>intro h<;>simp only[h,go_sem,go_sem_proc,SJ,bI,aC,aD,bE,bR,d2,SK,cb,np,oC,iU,t1,t2,cd,c0,ev,jB,jC,Jm,cL]
    refine⟨(e7,y::B),by simp,rfl,dv,?_⟩
    rw[NA,NA,<-aDv]
    rfl
 ·have d1:decide (((i+1:Nat):Int)<(D l:Int))=false:=c9;simp only[go_sem,go_sem_proc,bI,aC,aD,bE,d1];repeat' (first|refine aw ?_ ?_|fail)<;>intro h<;>simp only[h,go_sem,go_sem_proc,bI,aC,aD,bE,d1]
  have gO:C=[]:=by
   rcases cS with h|h
   ·exact CQ.1 (by omega)
   ·rw[h] at hlen;simp at hlen;exact hlen.2
  subst gO;rw[fC] at aF hm;exact⟨_,rfl,rfl,S,aF,X,hm⟩
def AU (n:Nat):Int:=if n=0 then 0 else if n=1 then 1 else if n<=3 then 2 else if n<=7 then 3 else 4
abbrev SM:Nat->List Data:=λ(n:Nat)=>[.int .u64 (n:Int)]
def acs:=ck SM λ(n:Nat)=>cR (n<=12) (.same (.int .i64 (AU n)))
theorem ang:∀a b,SM a=SM b->a=b:=by
  intro hF ir h;simp only[ba,Data.int.injEq,Data.agg.injEq,Data.Y.injEq,Data.bool.injEq,Data.str.injEq,Data.ptr.injEq,Data.cI.injEq,fb,true_and,and_true] at h ⊢
  first|exact h|simpa [Prod.ext_iff,and_assoc] using h|grind
@[go_sem] theorem aME (n:Nat)(H:n<=12):acs [.int .u64 (n:Int)]=some (.same (.int .i64 (AU n))):=(cx ang n).trans (cW H _)
theorem aDw (T:bd)  (n:Nat) (H:n<=12):WP T Zg (.same (.int .i64 (AU n))) [.J (.int .u64 (n:Int))]:=by
 refine cy ?_;simp only[Zg];have d1:decide ((n:Int)>=4294967296)=false:=c9;have d2:decide ((n:Int)>=65536)=false:=c9;have d3:decide ((n:Int)>=256)=false:=c9;have ao:(0<=(n:Int))=True:=eq_true (by omega)
 have SN:IntKind.u8.wrap (n:Int)=(n:Int):=by
  match n,H with
  |0,_|1,_|2,_|3,_|4,_|5,_|6,_|7,_|8,_|9,_|10,_|11,_|12,_=>rfl
  |n+13,h=>omega
 simp only[go_sem,go_sem_proc,d1,d2,d3,SN,ao,jX];clear d1 d2 d3 ao SN
 match n,H with
 |0,_|1,_|2,_|3,_|4,_|5,_|6,_|7,_|8,_|9,_|10,_|11,_|12,_ =>
  simp only[go_sem,go_sem_proc,zB,Nf,lB]
  rfl
 |n+13,h=>omega
def acu:=ck SM λ(n:Nat)=>cR (n<=12) (.same (.int .i64 (AU n)))
@[go_sem] theorem aDx (n:Nat)(H:n<=12):acu [.int .u64 (n:Int)]=some (.same (.int .i64 (AU n))):=(cx ang n).trans (cW H _)
theorem aDy (T:bd)(aDz:T Vi=aW acs)(n:Nat)(H:n<=12):WP T Zf (.same (.int .i64 (AU n))) [.J (.int .u64 (n:Int))]:=by
 refine cy ?_;simp only[Zf];refine a0 ?_;repeat' (intro h<;>simp only[h,go_sem,go_sem_proc,aDz,H]<;>try refine aw ?_ ?_)
def SO:List R->Mem->Option (R->Mem->Prop):=uq (λ(a:sc) args mem=>args=[.ref 289040 a.g 1 0 (D a.l),.J (.int .i64 0),.J (.int .i64 (D a.l)),.J (.int .i64 (AU (D a.l)))]/\tk a mem) AS
theorem aDA (a:sc)(mem:Mem)(h:tk a mem):SO [.ref 289040 a.g 1 0 (D a.l),.J (.int .i64 0),.J (.int .i64 (D a.l)),.J (.int .i64 (AU (D a.l)))] mem=some (AS a mem):=by
 unfold SO;exact LW (a:=a) (λa b args mem F I=>SI F.2 I.2) ⟨rfl,h⟩
theorem aDB (T:bd)(aDC:T Vh=pj SH)(a:sc)(mem:Mem)(aP:tk a mem):
  wp T O2.body (oe O2.res (AS a mem)) ⟨km [.ref 289040 a.g 1 0 (D a.l),.J (.int .i64 0),.J (.int .i64 (D a.l)),.J (.int .i64 (AU (D a.l)))],mem⟩:=by
 have e5:=aDt a mem aP;have aL:=aP.2;refine qs ?_;simp only[O2];simp only[go_sem,go_sem_proc];refine dn [0,1,2] [] (λ(_:Unit) tm m=>m=mem) (λ_=>0) () rfl ?_;intro vs ms aV aS;simp only[go_sem,go_sem_proc] at aV aS;subst aV aS;rintro-tm m O-hm;simp only[go_sem,go_sem_proc,ba] at O;obtain⟨bI,aC,aD⟩:=O;subst hm;have w1:IntKind.i64.wrap ((D a.l:Int)-0)=(D a.l:Int):=by rw[eS _];omega
 have d1:decide ((D a.l:Int)<=12)=true:=di;simp only[go_sem,go_sem_proc,aDC,bI,aC,aD,w1,d1,e5];rintro yQ m' gE;obtain⟨xl,gE⟩:=gE;subst xl;exact⟨_,rfl,rfl,gE⟩
def SP:List R->Mem->Option (R->Mem->Prop):=uq (λ(a:sc) args mem=>args=[.ref 289040 a.g 1 0 (D a.l)]/\tk a mem) AS
theorem aDD (a:sc)(mem:Mem)(h:tk a mem):SP [.ref 289040 a.g 1 0 (D a.l)] mem=some (AS a mem):=by
 unfold SP;exact LW (a:=a) (λa b args mem F I=>SI F.2 I.2) ⟨rfl,h⟩
theorem aDE (T:bd)(aDF:T Vf=aW acu)(aDG:T K0=pj SO)(a:sc)(mem:Mem)(aP:tk a mem):
  wp T OZ.body (oe OZ.res (AS a mem)) ⟨km [.ref 289040 a.g 1 0 (D a.l)],mem⟩:=by
 have e5:=aDA a mem aP;have aL:=aP.2;have ah:=aDx (D a.l) aL
 have SN:IntKind.u64.wrap (D a.l:Int)=(D a.l:Int):=by
  generalize (D a.l)=n at *
  match n,aL with
  |0,_|1,_|2,_|3,_|4,_|5,_|6,_|7,_|8,_|9,_|10,_|11,_|12,_=>rfl
  |n+13,h=>omega
 refine qs ?_;simp only[OZ];simp only[go_sem,go_sem_proc,aDF,aDG,ah,SN,e5];rintro yQ m' gE;obtain⟨xl,gE⟩:=gE;subst xl;exact⟨_,rfl,rfl,gE⟩
def py:Int->List Int->List Int
 |_,[]=>[]
 |y,x::r=>if x=y then py x r else x::py x r
def mo:List Int->List Int
 | []=>[]
 |x::r=>x::py x r
theorem anh (x:Int):∀(m:List Int) (z:Int),py z (m++[x])=py z m++if x=m.getLast?.getD z then [] else [x]
 | [],z=>by
  by_cases h:x=z
  ·simp[py,h]
  ·simp[py,h]
 |a::r,z=>by
  have e:(a::r).getLast?.getD z=r.getLast?.getD a:=by rw[List.getLast?_cons];rfl
  rw[e,jW,py,py,anh x r a]
  split
  ·rfl
  ·rfl
theorem aDH (m:List Int)(y x:Int):mo (m++[y]++[x])=mo (m++[y])++if x=y then [] else [x]:=by
 cases m with
 |nil =>
  by_cases h:x=y
  ·simp[mo,py,h]
  ·simp[mo,py,h]
 |cons a r =>
  have:py a (r++[y]++[x])=py a (r++[y])++if x=y then [] else [x]:=by
   rw[anh x (r++[y]) a];simp
  simp only[jW,mo,this]
theorem acv {l:List Int}{q:Nat}{y x:Int}(ao:0<q)(av:l[q-1]?=some y)(Q:l[q]?=some x):mo (l.take (q+1))=mo (l.take q)++if x=y then [] else [x]:=by
 have aC:l.take q=l.take (q-1)++[y]:=by
  have:q=q-1+1:=by omega
  conv=>lhs;rw[this,hv,av]
  rfl
 have aD:l.take (q+1)=l.take q++[x]:=by rw[hv,Q];rfl
 rw[aD,aC];exact aDH _ _ _
theorem ani:∀(l:List Int) (z:Int),(z::l).Pairwise (·<=·)->(py z l).Pairwise (·<·)/\(∀x∈py z l,z<x)/\∀x,x∈py z l↔x∈l/\x≠z
 | [],z,_=>⟨List.Pairwise.nil,λx h=>(by cases h),λx=>(by simp[py])⟩
 |a::r,z,h=>by
  have aX:=CU.1 h;obtain⟨F,I,af⟩:=ani r a aX.2;have aP:=CU.1 aX.2;have aMF:=aX.1 a (by simp);rw[py]
  split
  ·rename_i e;subst e;refine⟨F,I,λx=>?_⟩;rw[af,hj]
   constructor
   ·rintro⟨cd,c0⟩;exact⟨.inr cd,c0⟩
   ·rintro⟨cd|cd,c0⟩
    ·exact absurd cd c0
    ·exact⟨cd,c0⟩
  ·rename_i e;refine⟨CU.2 ⟨I,F⟩,λx Q=>?_,λx=>?_⟩
   ·rcases hj.1 Q with rfl|Q
    ·omega
    ·have:=I x Q;omega
   ·rw[hj,af,hj]
    constructor
    ·rintro (rfl|⟨cd,c0⟩)
     ·exact⟨.inl rfl,e⟩
     ·refine⟨.inr cd,λaMG=>?_⟩;have:=aP.1 x cd;omega
    ·rintro⟨cd|cd,c0⟩
     ·exact .inl cd
     ·by_cases hxa:x=a
      ·exact .inl hxa
      ·exact .inr ⟨cd,hxa⟩
theorem aDI {l:List Int}(h:l.Pairwise (·<=·)):(mo l).Pairwise (·<·)/\∀x,x∈mo l↔x∈l:=by
 cases l with
 |nil=>exact⟨List.Pairwise.nil,λx=>Iff.rfl⟩
 |cons a r =>
  obtain⟨F,I,af⟩:=ani r a h;refine⟨CU.2 ⟨I,F⟩,λx=>?_⟩;rw[mo,hj,hj,af]
  constructor
  ·rintro (h|⟨h,-⟩)
   ·exact .inl h
   ·exact .inr h
  ·rintro (h|h)
   ·exact .inl h
   ·by_cases Q:x=a
    ·exact .inl Q
    ·exact .inr ⟨h,Q⟩
theorem anj {K:bb->Prop}{st:bb}(s k g n:Nat)(P:List Int)(Z:List R)(M6:nV Z=true)(aL:n=D P):
  Bs K st s k g 1 0 n (some (g,P.map bD++Z))=K ⟨fa st.tm s (.J (.Y (P.map ae))),kill st.mem k⟩:=by
 subst aL;unfold Bs;dsimp only
 have aP:nV (P.map bD++Z)=true:=by
  unfold nV at M6 ⊢;rw[List.all_append,M6,Bool.and_true,kG];intro x Q;obtain⟨y,-,rfl⟩:=ek.1 Q
  rfl
 rw[ad ⟨rfl,aP⟩];unfold cut;rw[kY,cL,fH,al,ad (by omega)];dsimp only;rw[l1,Di,dy (by rw[al];exact bZ _),al,lV,m0,fC];have e:P.map bD=((P.map ae).flatten).map R.J:=by rw[wz];rfl
 rw[e,tP _ λd=>rfl];dsimp only;have:=ym (sz:=1) (P.map ae) (λx Q=>by obtain⟨y,-,rfl⟩:=ek.1 Q;rfl);rw[al] at this;rw[this]
def SQ:List R->Mem->Option (Data×Key):=MS (λ(a:sc) args mem=>args=[.ref 289040 a.g 1 0 (D a.l)]/\tk a mem) (λa=>(.Y ((mo a.l).map ae),289040))
theorem aDJ (a:sc)(mem:Mem)(h:tk a mem):SQ [.ref 289040 a.g 1 0 (D a.l)] mem=some (.Y ((mo a.l).map ae),289040):=by
 unfold SQ;exact aym (a:=a) (λa b args mem F I=>by rw[SI F.2 I.2]) ⟨rfl,h⟩
theorem aDK {l:List Int}{k:Nat}(O:0<k)(ar:k<D l){y x:Int}(av:l[k-1]?=some y)(Q:l[k]?=some x)(bG:x≠y)(h:mo (l.take k)=l.take k):mo (l.take (k+1))=l.take (k+1):=by
 rw[acv O av Q,ag bG,h,hv,Q];rfl
theorem aDL (T:bd)(a:sc)(mem:Mem)(aP:tk a mem):
  wp T O0.body (oe O0.res λm mem'=>cE 6 emp m=some (.Y ((mo a.l).map ae))/\∀j,¬ False->mem' j=a4 mem 289040 (bV mem 289040) [] j) ⟨km [.ref 289040 a.g 1 0 (D a.l)],mem⟩:=by
 obtain⟨k6,aL⟩:=aP;obtain⟨l,g⟩:=a;dsimp only at k6 aL ⊢
 have aI:∀(K:bb->Prop) (st:bb),Bs K st 2 289040 g 1 0 (D l) (some (g,l.map bD))=K ⟨fa st.tm 2 (.J (.Y (l.map ae))),kill st.mem 289040⟩:=λK st=>by
  have:=anj (K:=K) (st:=st) 2 289040 g (D l) l [] rfl rfl;rwa [fC] at this
 refine qs ?_;simp only[O0];rcases d0:decide ((D l:Int)<2)
 case true =>
  have H:mo l=l:=by
   have:=of_decide_eq_true d0
   match l,this with
   | [],_=>rfl
   | [x],_=>rfl
   |x::y::r,h=>simp at h;omega
  rw[H];simp only[go_sem,go_sem_proc,d0,k6,aI];repeat' (first|refine aw ?_ ?_|fail)<;>intro h<;>simp only[h,go_sem,go_sem_proc,d0,k6,aI]
  refine⟨_,rfl,?_,λj _=>?_⟩<;>first|rfl|trivial
 have vf:2<=D l:=by have:=of_decide_eq_false d0;omega
 simp only[go_sem,go_sem_proc,d0]
 refine dn [0] [] (λ(k:Nat) tm m=>1<=k/\k<=D l/\tm 3=.J (.int .i64 k)/\m=mem/\mo (l.take k)=l.take k) (λk=>D l-k) 1 (by
  refine⟨by omega,by omega,rfl,rfl,?_⟩
  match l,vf with
  |x::r,_=>rfl) ?_
 intro vs ms aV aS;simp only[go_sem,go_sem_proc] at aV aS;subst aV aS;rintro k tm m O-⟨kS,gC,b9,hm,H⟩;simp only[go_sem,go_sem_proc,ba] at O;have bI:=O;subst hm;rcases dA (k<D l) with ay|cj
 ·have d1:decide ((k:Int)<(D l:Int))=true:=di;have bX:=ff (i:=k) (by omega);have xj:IntKind.i64.wrap ((k:Int)-1)=((k-1:Nat):Int):=by rw[eS _];omega
  obtain⟨x,Q⟩:∃x,l[k]?=some x:=⟨_,bx ay⟩;obtain⟨y,av⟩:∃y,l[k-1]?=some y:=⟨_,bx (by omega)⟩;have t1:fN 1 (fT k (l.map bD))=[.J (.int .i64 x)]:=wm (f:=bD) Q;have t2:fN 1 (fT (k-1) (l.map bD))=[.J (.int .i64 y)]:=wm (f:=bD) av;have cb:(k+1<=D l)=True:=eq_true (by omega);have np:(k-1+1<=D l)=True:=eq_true (by omega);have oC:(k<D l)=True:=eq_true ay;have iU:(k-1<D l)=True:=eq_true (by omega);have my:(l.map bD).length=D l:=al _;rcases q:(x==y)
  ·have bG:x≠y:=by simpa using q
   have lX:=aDK (by omega) ay av Q bG H;generalize gE:l.map bD=bU at *;simp only[go_sem,go_sem_proc,bI,b9,k6,t1,t2,d1,bX,xj,cb,np,oC,iU,my,q,cL];repeat' (first|refine aw ?_ ?_|fail)<;>intro h<;>simp only[h,go_sem,go_sem_proc,bI,b9,k6,t1,t2,d1,bX,xj,cb,np,oC,iU,my,q,cL]
   exact⟨k+1,by omega,by omega,by omega,rfl,lX⟩
  ·have jk:x=y:=by simpa using q
   have aDM:mo (l.take (k+1))=l.take k:=by rw[acv (by omega) av Q,ad jk,fC,H]
   have hx:(k<=D l/\D l<=D l)=True:=eq_true ⟨by omega,bZ _⟩
   simp only[go_sem,go_sem_proc,bI,b9,k6,t1,t2,d1,xj,cb,np,oC,iU,my,hx,q,cL]
   refine dn [0,4] [] (λ((d,kk,row):Nat×Nat×List Int) tm m'=>1<=d/\k+d<=D l/\kk<k+d/\D row=D l/\row.take kk=mo (l.take (k+d))/\row.drop (k+d-1)=l.drop (k+d-1)/\tm 5=.J (.int .i64 d)/\tm 3=.J (.int .i64 kk)/\m'=a4 m 289040 g (row.map bD)) (λ(d,_,_)=>D l-(k+d)) (1,k,l) (by
    refine⟨bZ _,by omega,by omega,rfl,aDM.symm,rfl,rfl,?_,?_⟩
    ·simp only[eV,dJ,if_false];exact b9
    ·funext j
     by_cases ai:j=289040
     ·subst ai;rw[iF];exact k6
     ·rw[dm ai]) ?_
   intro vs ms aV aS;simp only[go_sem,go_sem_proc,bI] at aV aS;subst aV aS;clear bI b9;rintro⟨d,kk,row⟩ tm m' O-⟨jZ,mF,De,b0,fY,qE,dk,b9,n2⟩;simp only[go_sem,go_sem_proc,ba] at O;obtain⟨bI,dg⟩:=O;subst n2
   have cp:∀j,k+d-1<=j->row[j]?=l[j]?:=λj ai=>by
    have F:row[j]?=(row.drop (k+d-1))[j-(k+d-1)]?:=by rw[lv];congr 1;omega
    have I:l[j]?=(l.drop (k+d-1))[j-(k+d-1)]?:=by rw[lv];congr 1;omega
    rw[F,I,qE]
   rcases dA (k+d<D l) with k5|aMH
   ·have d2:decide ((d:Int)<((D l-k:Nat):Int))=true:=di;have Jn:=ff (i:=d) (by omega);have SR:IntKind.i64.wrap ((d:Int)-1)=((d-1:Nat):Int):=by rw[eS _];omega
    have ank:=ff (i:=kk) (by omega);obtain⟨a,iX⟩:∃x,l[k+d]?=some x:=⟨_,bx k5⟩;obtain⟨b,kL⟩:∃y,l[k+d-1]?=some y:=⟨_,bx (by omega)⟩;have RR:=(cp (k+d) (by omega)).trans iX;have aDN:=(cp (k+d-1) (bZ _)).trans kL;have s1:fN 1 (fT (k+d) (row.map bD))=[.J (.int .i64 a)]:=wm (f:=bD) RR
    have s2:fN 1 (fT (k+(d-1)) (row.map bD))=[.J (.int .i64 b)]:=by
     rw[show k+(d-1)=k+d-1 by omega];exact wm (f:=bD) aDN
    have dv:=acv (by omega) kL iX;have cq:(d<D l-k)=True:=eq_true (by omega);have cr:(d-1<D l-k)=True:=eq_true (by omega);have g2:(k+d+1<=D l)=True:=eq_true (by omega);have jH:(k+(d-1)+1<=D l)=True:=eq_true (by omega);have anl:(kk<D l)=True:=eq_true (by omega);have pw:(kk+1<=D l)=True:=eq_true (by omega);have q5:(row.map bD).length=D l:=by rw[al,b0]
    rcases e6:(a==b)
    ·have bG:a≠b:=by simpa using e6
     rw[ag bG,<-fY] at dv
     have mP:fN kk (row.map bD)++[R.J (.int .i64 a)]++fT (kk+1) (row.map bD)=(row.set kk a).map bD:=by
      rw[abI,ad (by omega),kR,eG,Ah,Nz,gM];rfl
     generalize NB:row.map bD=Fw at *;simp only[go_sem,go_sem_proc,bI,b9,dg,dk,s1,s2,d2,Jn,SR,ank,cq,cr,g2,jH,anl,pw,q5,mP,e6,bne,dt,cL];repeat' (first|refine aw ?_ ?_|fail)<;>intro h<;>simp only[h,go_sem,go_sem_proc,bI,b9,dg,dk,s1,s2,d2,Jn,SR,ank,cq,cr,g2,jH,anl,pw,q5,mP,e6,bne,dt,cL]
     refine⟨(d+1,kk+1,row.set kk a),by dsimp only;omega,by dsimp only;omega,by dsimp only;omega,by dsimp only;omega,by dsimp only;rw[hP,b0],?_,?_,rfl,rfl,?_⟩
     ·dsimp only;rw[<-qn,dv,hv,anm (bZ _),Kt (by omega)];rfl
     ·dsimp only;rw[List.drop_set_of_lt (by omega)];apply pH;intro j;rw[lv,lv];exact cp _ (by omega)
     ·rw[NA]
    ·have he:a=b:=by simpa using e6
     rw[ad he,fC,<-fY] at dv;generalize NB:row.map bD=Fw at *;simp only[go_sem,go_sem_proc,bI,b9,dg,dk,s1,s2,d2,Jn,SR,cq,cr,g2,jH,q5,e6,bne,cK,cL];repeat' (first|refine aw ?_ ?_|fail)<;>intro h<;>simp only[h,go_sem,go_sem_proc,bI,b9,dg,dk,s1,s2,d2,Jn,SR,cq,cr,g2,jH,q5,e6,bne,cK,cL]
     refine⟨(d+1,kk,row),by dsimp only;omega,by dsimp only;omega,by dsimp only;omega,by dsimp only;omega,b0,?_,?_,rfl,rfl,by rw[NB]⟩
     ·dsimp only;rw[<-qn,dv]
     ·dsimp only;apply pH;intro j;rw[lv,lv];exact cp _ (by omega)
   ·have d2:decide ((d:Int)<((D l-k:Nat):Int))=false:=c9;have aDO:k+d=D l:=by omega
    rw[aDO,lf] at fY;have hy:(kk<=D l/\D l<=D l)=True:=eq_true ⟨by omega,bZ _⟩
    have tb:(kk+(D l-kk)<=D l)=True:=eq_true (by omega);have ann:(kk<=D l)=True:=eq_true (by omega);have q5:(row.map bD).length=D l:=by rw[al,b0]
    have w5:fN kk (row.map bD)=(mo l).map bD:=by rw[<-Ah,fY]
    have dq:(mo l).length=kk:=by rw[<-fY,gf];omega
    have z9:fT (D l) (row.map bD)=[]:=jQ (by rw[q5];exact bZ _);generalize row.map bD=Fw at *;have ano:(D l<=D l)=True:=eq_true (bZ _)
    have qB:∀n:Nat,(dG n [R.J (.int .i64 0)]).flatten=dG n (R.J (.int .i64 0)):=λn=>by
     induction n with
     |zero=>rfl
     |succ n az=>rw[qo,jL,az,qo];rfl
    have o0:fN kk Fw++(dG (D l-kk) [R.J (.int .i64 0)]).flatten++fT (kk+(dG (D l-kk) [R.J (.int .i64 0)]).flatten.length) Fw=(mo l).map bD++(dG (D l-kk) [R.J (.int .i64 0)]).flatten:=by
     rw[qB,Au,show kk+(D l-kk)=(D l) by omega,z9,w5,fC]
    have anp:=λ(K:bb->Prop) (st:bb)=>anj (K:=K) (st:=st) 2 289040 g kk (mo l) (dG (D l-kk) [R.J (.int .i64 0)]).flatten (by rw[qB];unfold nV;rw[kG];intro x Q;rw[(List.mem_replicate.1 Q).2];rfl) dq.symm;simp only[go_sem,go_sem_proc,bI,b9,dg,dk,d2,tb,ann,ano,q5,o0,anp,show (0<=kk)=True from eq_true (fv _),Cn,cL,xX];repeat' (first|refine aw ?_ ?_|fail)<;>intro h<;>simp only[h,go_sem,go_sem_proc,bI,b9,dg,dk,d2,tb,ann,ano,q5,o0,anp,show (0<=kk)=True from eq_true (fv _),Cn,cL,xX]
    exact⟨_,rfl,rfl,λj _=>by by_cases h:j=289040<;>simp[h]⟩
 ·have d1:decide ((k:Int)<(D l:Int))=false:=c9;obtain rfl:k=D l:=by omega
  rw[lf] at H;rw[H];simp only[go_sem,go_sem_proc,bI,b9,k6,d1,aI];repeat' (first|refine aw ?_ ?_|fail)<;>intro h<;>simp only[h,go_sem,go_sem_proc,bI,b9,k6,d1,aI]
  refine⟨_,rfl,?_,λj _=>?_⟩<;>first|rfl|trivial
abbrev acw:(List Int)×(List aq)×(List bo)×(List bo)×(List (List Int))×Int->List Data:=λ(E,cs,aA,cu,aK,aG)=>[.agg (eU E cs aA cu aK),.int .i64 aG]
def SS:=ck acw λ(E,cs,aA,cu,aK,aG)=>cR (D cu=D cs/\D cs<=2000) (.same (.cI [.Y ((b1 cs aG).map b4),.Y ((gy cs cu aG).map aH)]))
theorem aDP:∀a b,acw a=acw b->a=b:=by
  rintro⟨uK,uL,o2,aDQ,CI,SU⟩ ⟨uM,n1,nX,aDR,CJ,SV⟩ h;simp only[ba,Data.agg.injEq,Data.int.injEq,and_true,true_and] at h;obtain⟨cq,cr⟩:=h;obtain⟨rfl,rfl,rfl,rfl,rfl⟩:=AF cq;rw[cr]
@[go_sem] theorem anq (E:List Int)(cs:List aq)(aA:List bo)(cu:List bo)(aK:List (List Int))(aG:Int)(H:(D cu)=D cs/\D cs<=2000):SS [.agg (eU E cs aA cu aK),.int .i64 aG]=some (.same (.cI [.Y ((b1 cs aG).map b4),.Y ((gy cs cu aG).map aH)])):=(cx aDP (E,cs,aA,cu,aK,aG)).trans (cW H _)
theorem aDS (T:bd)  (E:List Int) (cs:List aq) (aA:List bo) (cu:List bo) (aK:List (List Int)) (aG:Int) (H:(D cu)=D cs/\D cs<=2000):WP T XM (.same (.cI [.Y ((b1 cs aG).map b4),.Y ((gy cs cu aG).map aH)])) [.J (.agg (eU E cs aA cu aK)),.J (.int .i64 aG)]:=by
 refine cy ?_;simp only[XM];obtain⟨R4,hlen⟩:=H;simp only[go_sem,go_sem_proc,eU,al];refine dn [1,2,11,12] [298002] (λ((i,g,cr):Nat×Nat×Nat) tm m=>i<=D cs/\tm 13=.J (.int .i64 i)/\tm 6=.ref 298025 g 4 0 (b1 (cs.take i) aG).length/\tm 7=.ref 298034 cr 4 0 (gy (cs.take i) (cu.take i) aG).length/\m 298025=some (g,bc b4 (b1 (cs.take i) aG))/\m 298034=some (cr,bc aH (gy (cs.take i) (cu.take i) aG))) (λ(i,_,_)=>D cs-i) (0,0,0) (by refine⟨by omega,rfl,rfl,rfl,rfl,rfl⟩) ?_;intro vs ms aV aS;simp only[go_sem,go_sem_proc,eU,al] at aV aS;subst aV aS;rintro⟨i,g,cr⟩ tm m O hm ⟨M,h9,bE,bR,SW,uY⟩;simp only[go_sem,go_sem_proc,ba] at O hm;obtain⟨aC,aD,jw,gh⟩:=O;rcases dA (i<D cs) with ay|cj
 ·have d1:decide ((i:Int)<(D cs:Int))=true:=di;have bX:=ff (i:=i) (by omega);obtain⟨⟨aJ,c2,c3,c4⟩,Q⟩:∃c,cs[i]?=some c:=⟨_,bx ay⟩;obtain⟨⟨⟨jB,jC⟩,⟨s4,v7⟩⟩,av⟩:∃c,cu[i]?=some c:=⟨_,bx (by omega)⟩;have fY:cs.take (i+1)=cs.take i++[(aJ,c2,c3,c4)]:=by rw[hv,Q];rfl
  have aDT:cu.take (i+1)=cu.take i++[((jB,jC),(s4,v7))]:=by rw[hv,av];rfl
  have po:(cs.take i).length=(cu.take i).length:=by rw[gf,gf];omega
  have Gd:(b1 (cs.take i) aG).length<=2000:=by
   have F:=SB (cs.take i) aG;have I:(cs.take i).length<=D cs:=by rw[gf];omega
   omega
  have aMI:(gy (cs.take i) (cu.take i) aG).length<=2000:=by
   have F:=akN (cs.take i) (cu.take i) aG;have I:(cs.take i).length<=D cs:=by rw[gf];omega
   omega
  have Fx:=akM (cs.take i) (cu.take i) (aJ,c2,c3,c4) ((jB,jC),(s4,v7)) aG po;rw[<-fY,<-aDT] at Fx;have abF:i<D cu:=by omega
  rcases fl:(aJ==aG)
  ·have lW:b1 (cs.take (i+1)) aG=b1 (cs.take i) aG:=by
    unfold b1;rw[fY,p8,r0 (by simpa using fl),oR,fC]
   rw[ag (by dsimp only;rw[fl];decide),fC] at Fx;refine a0 ?_;repeat' (intro h<;>simp only[h,go_sem,go_sem_proc,aC,aD,jw,gh,h9,bE,bR,hm,Q,av,d1,bX,fl,b4,al,bl]<;>try refine aw ?_ ?_)
   exact⟨(i+1,g,cr),by dsimp only;omega,by dsimp only;omega,rfl,by rw[lW],by rw[Fx],by rw[lW];exact SW,by rw[Fx];exact uY⟩
  ·have lW:b1 (cs.take (i+1)) aG=b1 (cs.take i) aG++[(aJ,c2,c3,c4)]:=by
    unfold b1;rw[fY,p8,qX (by simpa using fl),oR]
   rw[ad (by dsimp only;exact fl)] at Fx;have dC:=l3 AA Re 298025 g 32 (b1 (cs.take i) aG) (aJ,c2,c3,c4) (cs:=[.J (.int .i64 aJ),.J (.int .i64 c2),.J (.int .i64 c3),.J (.int .i64 c4)]) rfl (by omega) (by omega);rw[<-lW] at dC;have aDU:=λnm kZ=>l3 nC Hl 298034 cr 64 (gy (cs.take i) (cu.take i) aG) ((jB,jC),(s4,v7)) (cs:=nm) kZ (by omega) (by omega);have acx:=aDU _ rfl;rw[<-Fx] at acx;have cb:(b1 (cs.take (i+1)) aG).length=(b1 (cs.take i) aG).length+1:=by rw[lW,fH];rfl
   have cB:(gy (cs.take (i+1)) (cu.take (i+1)) aG).length=(gy (cs.take i) (cu.take i) aG).length+1:=by rw[Fx,fH];rfl
   simp only[aH,eG,cV] at acx;refine a0 ?_;repeat' (intro h<;>simp only[h,go_sem,go_sem_proc,aC,aD,jw,gh,h9,bE,bR,hm,SW,uY,Q,av,dC,acx,d1,bX,fl,abF,b4,aH,al,bl]<;>try refine aw ?_ ?_)
   exact⟨(i+1,g+1,cr+1),by dsimp only;omega,by dsimp only;omega,rfl,by rw[cb],by rw[cB],rfl,rfl⟩
 ·have d1:decide ((i:Int)<(D cs:Int))=false:=c9;obtain rfl:i=D cs:=by omega
  rw[lf,dy (by omega)] at bR uY;rw[lf] at bE SW;have R0:=λ(K:bb->Prop) (st:bb)=>lE (K:=K) (st:=st) AA 6 298025 g (b1 cs aG);have R2:=λ(K:bb->Prop) (st:bb)=>lE (K:=K) (st:=st) nC 7 298034 cr (gy cs cu aG);refine a0 ?_;repeat' (intro h<;>simp only[h,go_sem,go_sem_proc,aC,aD,jw,gh,h9,bE,bR,SW,uY,d1,R0,R2,al]<;>try refine aw ?_ ?_)
def NC (cs:List aq)(ps:List Rat)(n:Nat):List Nat:=(dS n).filter λi=>decide (qa cs ps (i:Int)<10)
def iR (cs:List aq)(ps:List Rat)(n:Nat):List Int:=(NC cs ps n).map λi:Nat=>(i:Int)
theorem anr (cs:List aq)(ps:List Rat)(n:Nat):iR cs ps (n+1)=iR cs ps n++if qa cs ps (n:Int)<10 then [(n:Int)] else []:=by
 unfold iR NC;rw[oS,p8,kR]
 by_cases h:qa cs ps (n:Int)<10
 ·simp[h]
 ·simp[h]
theorem SX (cs:List aq)(ps:List Rat)(n:Nat):(iR cs ps n).length<=n:=by
 unfold iR NC;rw[al];have:=mg (λi:Nat=>decide (qa cs ps (i:Int)<10)) (dS n);rwa [sA] at this
abbrev acy:(List Int)×(List aq)×(List bo)×(List Rat)×(List (List Int))×Int->List Data:=λ(E,cs,aA,ps,aK,i)=>[.agg (eU E cs aA (ps.map au) aK),.int .i64 i]
def SY:=ck acy λ(E,cs,aA,ps,aK,i)=>cR (nd E cs ps) (.same (.cI [.int .i64 (r3 cs ps i),.bool (decide (qa cs ps i<10))]))
theorem aDV:∀a b,acy a=acy b->a=b:=by
  rintro⟨uK,uL,o2,IC,CI,i1⟩ ⟨uM,n1,nX,ID,CJ,i2⟩ h;simp only[ba,Data.agg.injEq,Data.int.injEq,and_true,true_and] at h;obtain⟨cq,cr⟩:=h;obtain⟨rfl,rfl,rfl,g2,rfl⟩:=AF cq;rw[cr,map_inj (λ_ _ aU=>sR aU) _ _ g2]
@[go_sem] theorem ans (E:List Int)(cs:List aq)(aA:List bo)(ps:List Rat)(aK:List (List Int))(i:Int)(H:nd E cs ps):SY [.agg (eU E cs aA (ps.map au) aK),.int .i64 i]=some (.same (.cI [.int .i64 (r3 cs ps i),.bool (decide (qa cs ps i<10))])):=(cx aDV (E,cs,aA,ps,aK,i)).trans (cW H _)
theorem aDW (T:bd)(qe:T KY=aW SS)(aDX:T UQ=aW acm)(E:List Int)(cs:List aq)(aA:List bo)(ps:List Rat)(aK:List (List Int))(i:Int)(H:nd E cs ps):WP T XV (.same (.cI [.int .i64 (r3 cs ps i),.bool (decide (qa cs ps i<10))])) [.J (.agg (eU E cs aA (ps.map au) aK)),.J (.int .i64 i)]:=by
 refine cy ?_;simp only[XV];have F:=anq E cs aA (ps.map au) aK i ⟨by rw[al];exact H.len,H.l⟩
 rw[aa0] at F;have I:=aDa (b1 cs i) (gy cs ps i) (H.short i);rw[ay3] at I;simp only[eU] at F;generalize ((gy cs ps i).map au).map aH=aN at *;generalize ps.map au=PD at *;generalize r3 cs ps i=eT at *;generalize decide (qa cs ps i<10)=B at *;refine a0 ?_;repeat' (intro h<;>simp only[h,go_sem,go_sem_proc,qe,aDX,eU,F,I]<;>try refine aw ?_ ?_)
theorem aDY {m:Mem}{k g:Nat}{l:List Int}(h:m k=some (g,bc ae l)):rr 1 m (.ref k g 1 0 (D l))=some (l.map ae):=by
 have hlen:(bc ae l).length=D l:=by rw[oF gX];omega
 unfold rr;simp only[h,hlen];rw[ad ⟨trivial,trivial⟩,ad ⟨trivial,by omega⟩,dy (by omega)]
 unfold bc;rw[tP _ λd=>rfl,lB];have:=ym (sz:=1) (l.map ae) (λe he=>by obtain⟨c,-,rfl⟩:=ek.1 he;rfl);rw[al] at this;rw[this]
abbrev ND:(List Int)×(List aq)×(List bo)×(List Rat)×(List (List Int))->List Data:=λ(E,cs,aA,ps,aK)=>[.agg (eU E cs aA (ps.map au) aK)]
def SZ:=ck ND λ(E,cs,aA,ps,aK)=>cR (nd E cs ps) (.own 1 ((iR cs ps (D E)).map ae))
theorem acz:∀a b,ND a=ND b->a=b:=by
  rintro⟨uK,uL,o2,IC,CI⟩ ⟨uM,n1,nX,ID,CJ⟩ h;simp only[ba,Data.agg.injEq,and_true] at h;obtain⟨rfl,rfl,rfl,g2,rfl⟩:=AF h;rw[map_inj (λ_ _ aU=>sR aU) _ _ g2]
@[go_sem] theorem ant (E:List Int)(cs:List aq)(aA:List bo)(ps:List Rat)(aK:List (List Int))(H:nd E cs ps):SZ [.agg (eU E cs aA (ps.map au) aK)]=some (.own 1 ((iR cs ps (D E)).map ae)):=(cx acz (E,cs,aA,ps,aK)).trans (cW H _)
theorem aDZ (T:bd)(CV:T K1=aW SY)(E:List Int)(cs:List aq)(aA:List bo)(ps:List Rat)(aK:List (List Int))(H:nd E cs ps):WP T XO (.own 1 ((iR cs ps (D E)).map ae)) [.J (.agg (eU E cs aA (ps.map au) aK))]:=by
 refine cy ?_;simp only[XO];have aL:=H.n;have he:=λi=>ans E cs aA ps aK i H;simp only[eU] at he;generalize ps.map au=PD at *;simp only[go_sem,go_sem_proc,CV,eU,al];refine dn [1,9] [303001] (λ((i,g):Nat×Nat) tm m=>i<=D E/\tm 10=.J (.int .i64 i)/\tm 3=.ref 303023 g 1 0 (iR cs ps i).length/\m 303023=some (g,bc ae (iR cs ps i))) (λ(i,_)=>D E-i) (0,0) (by refine⟨by omega,rfl,rfl,rfl⟩) ?_;intro vs ms aV aS;simp only[go_sem,go_sem_proc,CV,eU,al] at aV aS;subst aV aS;rintro⟨i,g⟩ tm m O hm ⟨M,ef,b9,S0⟩;simp only[go_sem,go_sem_proc,CV,ba] at O hm;obtain⟨aC,e0⟩:=O;have Dl:=SX cs ps i;rcases dA (i<D E) with ay|cj
 ·have d1:decide ((i:Int)<(D E:Int))=true:=di;have bX:=ff (i:=i) (by omega);have he:=he i;have Jo:=anr cs ps i;rcases q:decide (qa cs ps (i:Int)<10)
  ·rw[q] at he;rw[ag (of_decide_eq_false q),fC] at Jo;generalize r3 cs ps i=eT at *;refine a0 ?_;repeat' (intro h<;>simp only[h,go_sem,go_sem_proc,CV,aC,b9,e0,ef,hm,S0,he,d1,bX,al]<;>try refine aw ?_ ?_)
   exact⟨(i+1,g),by dsimp only;omega,by dsimp only;omega,rfl,by rw[Jo],by rw[Jo]⟩
  ·rw[q] at he;rw[ad (of_decide_eq_true q)] at Jo;have dC:=l3 gX tR 303023 g 8 (iR cs ps i) (i:Int) (cs:=[.J (.int .i64 (i:Int))]) rfl (by omega) (by omega);rw[<-Jo] at dC;have ar:(iR cs ps (i+1)).length=(iR cs ps i).length+1:=by rw[Jo,fH];rfl
   generalize r3 cs ps i=eT at *;refine a0 ?_;repeat' (intro h<;>simp only[h,go_sem,go_sem_proc,CV,aC,b9,e0,ef,hm,S0,he,dC,d1,bX,al]<;>try refine aw ?_ ?_)
   exact⟨(i+1,g+1),by dsimp only;omega,by dsimp only;omega,rfl,by rw[ar],rfl⟩
 ·have d1:decide ((i:Int)<(D E:Int))=false:=c9;obtain rfl:i=D E:=by omega
  refine a0 ?_;repeat' (intro h<;>simp only[h,go_sem,go_sem_proc,CV,aC,b9,e0,ef,hm,S0,d1,al]<;>try refine aw ?_ ?_)
  exact aDY S0
theorem aD0 (T:bd)(S2:T Vg=aW acq)(a:Int)(b:Int)(k:Int)(x:Int)(i:Int)(e:Int)(set:List Int)(H:(D set)<=1000000):WP T XW (.same (.bool (a==i&&(k==e&&(decide (x>0) && !decide (b∈set)))))) [.J (.agg [.int .i64 a,.int .i64 b,.int .i64 k,.int .i64 x]),.J (.ptr [.int .i64 i]),.J (.ptr [.int .i64 e]),.J (.ptr [.Y (set.map ae)])]:=by
 refine cy ?_;simp only[XW];have gO:=aDm set b H;rcases aJ:(a==i)
 ·refine a0 ?_;repeat' (intro h<;>simp only[h,go_sem,go_sem_proc,S2,aJ,fS]<;>try refine aw ?_ ?_)
 rcases c2:(k==e)
 ·refine a0 ?_;repeat' (intro h<;>simp only[h,go_sem,go_sem_proc,S2,aJ,c2,fS,h6]<;>try refine aw ?_ ?_)
 rcases c3:decide (x>0)
 ·refine a0 ?_;repeat' (intro h<;>simp only[h,go_sem,go_sem_proc,S2,aJ,c2,c3,fS,h6]<;>try refine aw ?_ ?_)
 ·refine a0 ?_;repeat' (intro h<;>simp only[h,go_sem,go_sem_proc,S2,aJ,c2,c3,gO,gW]<;>try refine aw ?_ ?_)
abbrev acA:(List Int)×(List aq)×(List bo)×(List Rat)×(List (List Int))×Int×(List Int)->List Data:=λ(E,cs,aA,ps,aK,i,set)=>[.agg (eU E cs aA (ps.map au) aK),.int .i64 i,.Y (set.map ae)]
def acB:=ck acA λ(E,cs,aA,ps,aK,i,set)=>cR (nd E cs ps/\D set<=1000000) (.same (.bool (qZ cs ps set i)))
theorem aD1:∀a b,acA a=acA b->a=b:=by
  rintro⟨uK,uL,o2,IC,CI,i1,akP⟩ ⟨uM,n1,nX,ID,CJ,i2,akQ⟩ h;simp only[ba,Data.agg.injEq,Data.int.injEq,Data.Y.injEq,and_true,true_and] at h;obtain⟨cq,cr,jH⟩:=h;obtain⟨rfl,rfl,rfl,g2,rfl⟩:=AF cq;rw[cr,map_inj (λ_ _ aU=>sR aU) _ _ g2,map_inj fp _ _ jH]
@[go_sem] theorem aD2 (E:List Int)(cs:List aq)(aA:List bo)(ps:List Rat)(aK:List (List Int))(i:Int)(set:List Int)(H:nd E cs ps/\D set<=1000000):acB [.agg (eU E cs aA (ps.map au) aK),.int .i64 i,.Y (set.map ae)]=some (.same (.bool (qZ cs ps set i))):=(cx aD1 (E,cs,aA,ps,aK,i,set)).trans (cW H _)
theorem aD3 (T:bd)(CV:T K1=aW SY)(CL:T zP=aW IH)(E:List Int)(cs:List aq)(aA:List bo)(ps:List Rat)(aK:List (List Int))(i:Int)(set:List Int)(H:nd E cs ps/\D set<=1000000):WP T XQ (.same (.bool (qZ cs ps set i))) [.J (.agg (eU E cs aA (ps.map au) aK)),.J (.int .i64 i),.J (.Y (set.map ae))]:=by
 refine cy ?_;simp only[XQ];have F:=ans E cs aA ps aK i H.1;have I:=RH cs (.E6 i (r3 cs ps i) set) ⟨by have:=H.1.l;omega,by decide,H.2⟩
 have e:cs.any (r5 (.E6 i (r3 cs ps i) set))=qZ cs ps set i:=rfl;rw[e] at I;simp only[uO] at I;simp only[eU] at F;generalize ps.map au=PD at *;generalize r3 cs ps i=eT at *;generalize qZ cs ps set i=B at *;refine a0 ?_;repeat' (intro h<;>simp only[h,go_sem,go_sem_proc,CV,CL,eU,F,I,cE,nj,hK,scalar]<;>try refine aw ?_ ?_)
theorem aD4 (T:bd)(anu:T Ve=aW acB)(x:Int)(E:List Int)(cs:List aq)(aA:List bo)(ps:List Rat)(aK:List (List Int))(set:List Int)(H:nd E cs ps/\D set<=1000000):WP T XP (.same (.bool (qZ cs ps set x))) [.J (.int .i64 x),.J (.ptr (eU E cs aA (ps.map au) aK)),.J (.ptr [.Y (set.map ae)])]:=by
 refine cy ?_;simp only[XP];have h:=aD2 E cs aA ps aK x set H;simp only[eU] at h;generalize qZ cs ps set x=B at *;generalize ps.map au=PD at *;simp only[go_sem,go_sem_proc,anu,eU,h];repeat' (first|refine aw ?_ ?_|fail)<;>intro h<;>simp only[h,go_sem,go_sem_proc,anu,eU,h]
structure tl where
 g:Nat
 cq:Nat
 cr:Nat
 L:List Int
 Z:List Int
 E:List Int
 cs:List aq
 aA:List bo
 ps:List Rat
 aK:List (List Int)
 set:List Int
structure tl.eF (a:tl) (mem:Mem):Prop where
 row:mem 290006=some (a.g,(a.L++a.Z).map bD)
 day:mem 290001=some (a.cq,(eU a.E a.cs a.aA (a.ps.map au) a.aK).map .J)
 st:mem 290004=some (a.cr,[Data.Y (a.set.map ae)].map .J)
 Fy:nd a.E a.cs a.ps
 Y:(D a.set)<=60
 anv:(D a.L)+D a.Z<=60
def tl.args (a:tl):List R:=[.ref 290006 a.g 1 0 (D a.L),.fu tU [.ptr 290001 a.cq 0,.ptr 290004 a.cr 0]]
def stay (cs:List aq)(ps:List Rat)(set L:List Int):List Int:=L.filter λx => !qZ cs ps set x
def NF (a:tl)(mem:Mem):R->Mem->Prop:=λm mem'=>∃NG:List Int,D NG+(stay a.cs a.ps a.set a.L).length=D a.L+D a.Z/\m=.ref 290006 a.g 1 0 (stay a.cs a.ps a.set a.L).length/\mem'=a4 mem 290006 a.g ((stay a.cs a.ps a.set a.L++NG).map bD)
def NH:List R->Mem->Option (R->Mem->Prop):=uq (λ(a:tl) args mem=>args=a.args/\a.eF mem) NF
theorem aD5:∀a b:Data,R.J a=R.J b->a=b:=λa b h=>by cases h;rfl
theorem aD6 {a b:tl}{mem:Mem}(h:a.args=b.args)(F:a.eF mem)(I:b.eF mem):a=b:=by
 obtain⟨g,cq,cr,L,Z,E,cs,aA,ps,aK,set⟩:=a;obtain⟨c6,aMJ,aMK,aML,NG,Iv,nm,mW,aMM,Iw,aMN⟩:=b;have aC:=F.row.symm.trans I.row;have aD:=F.day.symm.trans I.day;have b9:=F.st.symm.trans I.st;simp only[tl.args,ba,R.ref.injEq,and_true,true_and] at h;simp only[cn,fb] at aC aD b9;obtain⟨rfl,aC⟩:=aC;obtain⟨rfl,aD⟩:=aD;obtain⟨rfl,b9⟩:=b9;obtain⟨rfl,rfl,rfl,jI,rfl⟩:=AF (map_inj aD5 _ _ aD);obtain rfl:=map_inj (λ_ _ aU=>sR aU) _ _ jI;simp only[eG,cV,ba,R.J.injEq,Data.Y.injEq,and_true] at b9;obtain rfl:=map_inj fp _ _ b9;obtain⟨rfl,rfl⟩:=List.append_inj (Rm aC) h.1.2
 rfl
theorem aD7 (a:tl)(mem:Mem)(h:a.eF mem):NH a.args mem=some (NF a mem):=by
 unfold NH;exact LW (a:=a) (λa b args mem F I=>aD6 (F.1.symm.trans I.1) F.2 I.2) ⟨rfl,h⟩
theorem S3 {n k g:Nat}{mem:Mem}{ds:List Data}(h:mem k=some (g,ds.map .J)):cE (n+1) mem (.ptr k g 0)=some (.ptr ds):=by
 unfold cE;rw[h];simp only;rw[ad ⟨trivial,fv _⟩,l1,tP _ λd=>by cases n<;>rfl]
 rfl
theorem anw {n k g:Nat}{mem:Mem}{L Z:List Int}(h:mem k=some (g,(L++Z).map bD)):cE (n+1) mem (.ref k g 1 0 (D L))=some (.Y (L.map ae)):=by
 unfold cE;rw[h];simp only[if_true];unfold cut;rw[kY,cL,ad (by simp),l1,kR,Di,al,lV,m0,fC,dy (by rw[al];exact bZ _)];have e:L.map bD=((L.map ae).flatten).map R.J:=by rw[wz];rfl
 rw[e];simp only;rw[tP _ λd=>by cases n<;>rfl]
 have:=ym (sz:=1) (L.map ae) (λx Q=>by obtain⟨y,-,rfl⟩:=ek.1 Q;rfl);rw[al] at this;simp[this]
theorem aD8 {T:bd}(MY:T tU=aW IB){a:tl}{mem m:Mem}(aP:a.eF mem)(F:m 290001=mem 290001)(aO:m 290004=mem 290004)(x:Int):
  T tU [.J (.int .i64 x),.ptr 290001 a.cq 0,.ptr 290004 a.cr 0] m=some (.same (.bool (qZ a.cs a.ps a.set x))):=by
 have t1:cE 6 m (.ptr 290001 a.cq 0)=some (.ptr (eU a.E a.cs a.aA (a.ps.map au) a.aK)):=S3 (F.trans aP.day);have t2:cE 6 m (.ptr 290004 a.cr 0)=some (.ptr [.Y (a.set.map ae)]):=S3 (aO.trans aP.st);have t3:cE 6 m (.J (.int .i64 x))=some (.int .i64 x):=rfl;have eA:=akR x a.E a.cs a.aA a.ps a.aK a.set ⟨aP.Fy,by have:=aP.Y;omega⟩
 have aC:[R.J (.int .i64 x),.ptr 290001 a.cq 0,.ptr 290004 a.cr 0].mapM (cE 6 m)=some [.int .i64 x,.ptr (eU a.E a.cs a.aA (a.ps.map au) a.aK),.ptr [.Y (a.set.map ae)]]:=by
  simp only[lu,Gp,t1,t2,t3];rfl
 have bI:[R.J (.int .i64 x),.ptr 290001 a.cq 0,.ptr 290004 a.cr 0].mapM (cE 6 emp)=none:=rfl;rw[MY];unfold aW;rw[bI,aC];show (IB _).bind wO=_;rw[eA];simp[wO,scalar]
theorem aD9 {T:bd}(nf:T wT=aW AH){a:tl}{mem:Mem}(aP:a.eF mem):
  T wT a.args mem=some (.same (.int .i64 (kP (λx=>qZ a.cs a.ps a.set x) a.L))):=by
 have t1:cE 5 mem (.ptr 290001 a.cq 0)=some (.ptr (eU a.E a.cs a.aA (a.ps.map au) a.aK)):=S3 aP.day;have t2:cE 5 mem (.ptr 290004 a.cr 0)=some (.ptr [.Y (a.set.map ae)]):=S3 aP.st;have t3:cE 6 mem (.ref 290006 a.g 1 0 (D a.L))=some (.Y (a.L.map ae)):=anw aP.row
 have t4:cE 6 mem (.fu tU [.ptr 290001 a.cq 0,.ptr 290004 a.cr 0])=some (q0 (.CK a.E a.cs a.aA a.ps a.aK a.set)):=by
  rw[aqW];simp only[lu,Gp,t1,t2];rfl
 have ar:=aP.anv;have eA:=akT a.L (.CK a.E a.cs a.aA a.ps a.aK a.set) ⟨by omega,by decide,aP.Fy,by have:=aP.Y;omega⟩
 have aC:a.args.mapM (cE 6 mem)=some [.Y (a.L.map ae),q0 (.CK a.E a.cs a.aA a.ps a.aK a.set)]:=by
  unfold tl.args;simp only[lu,Gp,t3,t4];rfl
 have bI:a.args.mapM (cE 6 emp)=none:=rfl;rw[nf];unfold aW;rw[bI,aC];show (AH _).bind wO=_;rw[eA];simp only[kK,wO,scalar,if_true]
 rfl
theorem anx {p:Int->Bool}{L:List Int}{j:Nat}{x:Int}(h:L[j]?=some x):(L.take (j+1)).filter p=(L.take j).filter p++if p x=true then [x] else []:=by
 rw[hv,h,p8]
 cases aF:p x<;>simp[aF]
theorem aEa (n:Nat):(dG n [R.J (.int .i64 0)]).flatten=(dG n (0:Int)).map bD:=by
 induction n with
 |zero=>rfl
 |succ n az=>rw[qo,jL,az,qo];rfl
theorem aEb (T:bd)(nf:T wT=aW AH)(MY:T tU=aW IB)(a:tl)(mem:Mem)(aP:a.eF mem):
  wp T O1.body (oe O1.res (NF a mem)) ⟨km a.args,mem⟩:=by
 have wb:=aD9 nf aP;have ht:=λ(m:Mem) (F:m 290001=mem 290001) (aO:m 290004=mem 290004) (x:Int)=>aD8 MY aP F aO x;have eR:=aP.row;have Nh:=aP.anv;obtain⟨g,cq,cr,L,Z,E,cs,aA,ps,aK,set⟩:=a;clear aP;unfold NF;simp only[tl.args,stay] at wb ht eR Nh ⊢;generalize aF:qZ cs ps set=p at *;refine qs ?_;simp only[O1];rcases aT:(kP (λx=>p x) L == -1)
 case true =>
  have aI:L.filter (λx => !p x)=L:=by
   rw[anz];intro x Q;have:=LK (λx=>p x) L;rw[eq_of_beq aT] at this;have I:=xu.1 this.symm x Q
   simpa using I
  rw[aI];simp only[go_sem,go_sem_proc,wb,aT];repeat' (first|refine aw ?_ ?_|fail)<;>intro h<;>simp only[h,go_sem,go_sem_proc,wb,aT]
  exact⟨_,rfl,Z,by omega,rfl,by
   funext k
   by_cases O:k=290006
   ·subst O;rw[iF,eR]
   ·rw[dm O]⟩
 obtain⟨i0,sH,aMO,cp,BR⟩:∃i0:Nat,kP (λx=>p x) L=(i0:Int)/\i0<D L/\(∃x,L[i0]?=some x/\p x=true)/\∀x∈L.take i0,p x=false:=by
  unfold kP at aT ⊢
  cases h:L.findIdx? (λx=>p x) with
  |none=>rw[h] at aT;cases aT
  |some i =>
   obtain⟨F,I,af⟩:=List.findIdx?_eq_some_iff_getElem.1 h;refine⟨i,rfl,F,⟨_,bx F,I⟩,λx Q=>?_⟩;obtain⟨j,ai⟩:=qz.1 Q;rw[vh] at ai
   split at ai
   ·rename_i h4;obtain⟨ji,rfl⟩:=dP.1 ai;have:=af j h4
    simpa using this
   ·cases ai
 rw[sH] at wb aT;have en:=ff (i:=i0) (by omega);simp only[go_sem,go_sem_proc,wb,aT,en]
 refine dn [0,1] [] (λ((j,row):Nat×List Int) tm m=>j<=D L/\tm 6=.J (.int .i64 (j:Int))/\tm 5=.J (.int .i64 (((L.take j).filter λx => !p x).length:Int))/\D row=D L+D Z/\row.take ((L.take j).filter λx => !p x).length=(L.take j).filter (λx => !p x)/\row.drop j=(L++Z).drop j/\m=a4 mem 290006 g (row.map bD)) (λ(j,_)=>D L-j) (i0+1,L++Z) (by
  obtain⟨x,Q,Jp⟩:=cp
  have e:(L.take (i0+1)).filter (λx => !p x)=L.take i0:=by
   rw[anx Q,ag (by rw[Jp];decide),fC,anz];intro y av;rw[BR y av];rfl
  have aD:(L.take i0).length=i0:=by rw[gf];omega
  refine⟨by omega,rfl,?_,by rw[fH],?_,rfl,?_⟩
  ·rw[e,aD];rfl
  ·rw[e,aD,Di,show i0-D L=0 by omega,m0,fC]
  ·funext k
   by_cases O:k=290006
   ·subst O;rw[iF];exact eR
   ·rw[dm O]) ?_
 intro vs ms aV aS;simp only[go_sem,go_sem_proc] at aV aS;subst aV aS;rintro⟨j,row⟩ tm m O-⟨ai,bE,dk,b0,fY,qE,hm⟩;simp only[go_sem,go_sem_proc,ba] at O;obtain⟨bI,aC⟩:=O;subst hm;have dq:=λ(x:Int)=>ht (a4 mem 290006 g (row.map bD)) rfl rfl x
 have lA:((L.take j).filter λx => !p x).length<=j:=by
  have F:=mg (λx => !p x) (L.take j);have I:(L.take j).length<=j:=List.length_take_le _ _;omega
 rcases dA (j<D L) with ay|cj
 ·have d1:decide ((j:Int)<(D L:Int))=true:=di;obtain⟨x,Q⟩:∃x,L[j]?=some x:=⟨_,bx ay⟩
  have aEc:row[j]?=some x:=by
   have F:row[j]?=(row.drop j)[0]?:=by rw[lv];rfl
   rw[F,qE,lv,Nat.add_zero,rj ay,Q]
  have Jq:=anx (p:=λx => !p x) Q;have dq:=dq x;have w1:=ff (i:=j) (by omega);have s1:fN 1 (fT j (row.map bD))=[.J (.int .i64 x)]:=wm (f:=bD) aEc;have dh:(j<D L)=True:=eq_true ay;have eK:(j+1<=D L+D Z)=True:=eq_true (by omega);have q5:(row.map bD).length=D L+D Z:=by rw[al,b0]
  have kq:∀y:List Int,D y=(D row)->(∀k,j+1<=k->y[k]?=row[k]?)->y.drop (j+1)=(L++Z).drop (j+1):=λy zr av=>by
   apply pH;intro k;rw[lv,lv,av _ (by omega)];have F:row[j+1+k]?=(row.drop j)[1+k]?:=by rw[lv];congr 1;omega
   have I:(L++Z)[j+1+k]?=((L++Z).drop j)[1+k]?:=by rw[lv];congr 1;omega
   rw[F,I,qE]
  rcases Jp:p x
  ·rw[Jp] at dq;rw[ad (by rw[Jp];rfl)] at Jq;have gF:((L.take (j+1)).filter λx => !p x).length=((L.take j).filter λx => !p x).length+1:=by rw[Jq,fH];rfl
   generalize aL:((L.take j).filter λx => !p x).length=n at *;have ni:=ff (i:=n) (by omega);have kd:(n<D L)=True:=eq_true (by omega);have mh:(n+1<=D L+D Z)=True:=eq_true (by omega)
   have mP:fN n (row.map bD)++[R.J (.int .i64 x)]++fT (n+1) (row.map bD)=(row.set n x).map bD:=by
    rw[abI,ad (by omega),kR,eG,Ah,Nz,gM];rfl
   generalize NB:row.map bD=Fw at *;simp only[go_sem,go_sem_proc,bI,aC,dk,bE,s1,d1,w1,ni,dh,eK,kd,mh,q5,mP,dq,dt,cL];repeat' (first|refine aw ?_ ?_|fail)<;>intro h<;>simp only[h,go_sem,go_sem_proc,bI,aC,dk,bE,s1,d1,w1,ni,dh,eK,kd,mh,q5,mP,dq,dt,cL]
   refine⟨(j+1,row.set n x),by dsimp only;omega,by dsimp only;omega,rfl,?_,?_,?_,?_,?_⟩
   ·rw[gF]
   ·dsimp only;rw[hP,b0]
   ·dsimp only;rw[gF,Jq,hv,anm (bZ _),fY,Kt (by omega)];rfl
   ·exact kq _ (hP ..) λk O=>by rw[List.getElem?_set_ne (by omega)]
   ·rw[NA]
  ·rw[Jp] at dq;rw[ag (by rw[Jp];decide),fC] at Jq;generalize NB:row.map bD=Fw at *;simp only[go_sem,go_sem_proc,bI,aC,dk,bE,s1,d1,w1,dh,eK,q5,dq,cK,cL];repeat' (first|refine aw ?_ ?_|fail)<;>intro h<;>simp only[h,go_sem,go_sem_proc,bI,aC,dk,bE,s1,d1,w1,dh,eK,q5,dq,cK,cL]
   exact⟨(j+1,row),by dsimp only;omega,by dsimp only;omega,rfl,by rw[Jq],b0,by rw[Jq];exact fY,kq _ rfl λk O=>rfl,by rw[NB]⟩
 ·have d1:decide ((j:Int)<(D L:Int))=false:=c9;obtain rfl:j=D L:=by omega
  rw[lf] at dk fY lA;have hlen:((L.filter λx => !p x).length)<=D L:=lA;generalize eA:L.filter (λx => !p x)=aQ at *;have aJ:(D aQ<=D L)=True:=eq_true hlen;have c2:(D aQ+(D L-D aQ)<=D L+D Z)=True:=eq_true (by omega);have c3:(D L<=D L)=True:=eq_true (bZ _);have q5:(row.map bD).length=D L+D Z:=by rw[al,b0]
  have w5:fN (D aQ) (row.map bD)=aQ.map bD:=by rw[<-Ah,fY]
  have z9:fT (D L) (row.map bD)=Z.map bD:=by rw[<-Nz,qE,List.drop_left]
  have o0:fN (D aQ) (row.map bD)++(dG (D L-D aQ) [R.J (.int .i64 0)]).flatten++fT (D aQ+(dG (D L-D aQ) [R.J (.int .i64 0)]).flatten.length) (row.map bD)=(aQ++(dG (D L-D aQ) 0++Z)).map bD:=by
   rw[aEa,al,Au,show (D aQ)+(D L-D aQ)=(D L) by omega,z9,w5,kR,kR,gM]
  generalize row.map bD=Fw at *;simp only[go_sem,go_sem_proc,bI,aC,dk,bE,d1,aJ,c2,c3,q5,o0,Cn,cL,xX,Dz,kY];repeat' (first|refine aw ?_ ?_|fail)<;>intro h<;>simp only[h,go_sem,go_sem_proc,bI,aC,dk,bE,d1,aJ,c2,c3,q5,o0,Cn,cL,xX,Dz,kY]
  exact⟨_,rfl,dG (D L-D aQ) 0++Z,by rw[fH,Au];omega,rfl,by rw[NA];rfl⟩
def iG (cs:List aq)(ps:List Rat)(s:List Int):Nat->List Int
 |0=>s
 |k+1=>stay cs ps (iG cs ps s k) (iG cs ps s k)
theorem anA (cs:List aq)(ps:List Rat)(set L:List Int):(stay cs ps set L).length<=D L:=mg _ _
theorem aEd (cs:List aq)(ps:List Rat)(s:List Int)(k:Nat):(iG cs ps s k).length<=D s:=by
 induction k with
 |zero=>exact bZ _
 |succ k az=>exact eQ (anA ..) az
def acC:=ck ND λ(E,cs,aA,ps,aK)=>cR (nd E cs ps) (.same (.bool (decide (((iG cs ps (iR cs ps (D E)) (D E)).length:Int)>0))))
@[go_sem] theorem aEe (E:List Int)(cs:List aq)(aA:List bo)(ps:List Rat)(aK:List (List Int))(H:nd E cs ps):acC [.agg (eU E cs aA (ps.map au) aK)]=some (.same (.bool (decide (((iG cs ps (iR cs ps (D E)) (D E)).length:Int)>0)))):=(cx acz (E,cs,aA,ps,aK)).trans (cW H _)
theorem aEf (T:bd)(pz:T KZ=aW SZ)(eN:T sG=aW zT)(Jr:T Vd=pj NH)(E:List Int)(cs:List aq)(aA:List bo)(ps:List Rat)(aK:List (List Int))(H:nd E cs ps):WP T XE (.same (.bool (decide (((iG cs ps (iR cs ps (D E)) (D E)).length:Int)>0)))) [.J (.agg (eU E cs aA (ps.map au) aK))]:=by
 refine cy ?_;simp only[XE];have aL:=H.n;have jV:=ant E cs aA ps aK H;have Dl:=SX cs ps (D E);have dq:=aEd cs ps (iR cs ps (D E));have eR:∀l:List Int,bc ae l=l.map bD:=λl=>(wz l).symm;generalize cS:iR cs ps (D E)=uU at *
 have e5:∀(m:Mem) (g cq cr:Nat) (L Z:List Int),m 290006=some (g,(L++Z).map bD)->(D L)+D Z<=60->m 290001=some (cq,[.J (.Y (E.map ae)),.J (.Y (cs.map b4)),.J (.Y (aA.map aH)),.J (.Y ((ps.map au).map aH)),.J (.Y (aK.map r2))])->NH [.ref 290006 g 1 0 (D L),.fu tU [.ptr 290001 cq 0,.ptr 290004 cr 0]] (a4 (a4 m 290004 cr [.nil]) 290004 cr [.J (.Y (L.map ae))])=some (NF ⟨g,cq,cr,L,Z,E,cs,aA,ps,aK,L⟩ (a4 (a4 m 290004 cr [.nil]) 290004 cr [.J (.Y (L.map ae))])):=λm g cq cr L Z F I af =>
  aD7 ⟨g,cq,cr,L,Z,E,cs,aA,ps,aK,L⟩ _ ⟨F,af,iF,H,by dsimp only;omega,I⟩
 simp only[eU] at jV;generalize aMP:ps.map au=PD at *;simp only[go_sem,go_sem_proc,pz,eN,Jr,eU,jV,al]
 refine dn [1,9] [290001] (λ((k,g,Z):Nat×Nat×List Int) tm m=>k<=D E/\tm 10=.J (.int .i64 k)/\tm 3=.ref 290006 g 1 0 (iG cs ps uU k).length/\m 290006=some (g,(iG cs ps uU k++Z).map bD)/\(iG cs ps uU k).length+D Z<=60) (λ(k,_,_)=>D E-k) (0,0,[]) (by
  refine⟨by omega,rfl,?_,?_,?_⟩
  ·show _=R.ref 290006 0 1 0 (D uU);simp[eV]
  ·show _=some (0,(uU++[]).map bD);rw[fC,wz]
   rfl
  ·show (D uU)+0<=60;omega) ?_
 intro vs ms aV aS;simp only[go_sem,go_sem_proc,pz,eN,Jr,eU,al] at aV aS;subst aV aS;rintro⟨k,g,Z⟩ tm m O hm ⟨qv,ef,b9,anB,Nh⟩;simp only[go_sem,go_sem_proc,pz,eN,Jr,ba] at O hm;obtain⟨aC,e0⟩:=O;rcases dA (k<D E) with ay|cj
 ·have d1:decide ((k:Int)<(D E:Int))=true:=di;have bX:=ff (i:=k) (by omega);have hO:iG cs ps uU (k+1)=stay cs ps (iG cs ps uU k) (iG cs ps uU k):=rfl;generalize iG cs ps uU k=S at *;have bF:cE 6 m (.ref 290006 g 1 0 (D S))=some (.Y (S.map ae)):=anw anB;have aEg:cE 6 emp (.ref 290006 g 1 0 (D S))=none:=rfl;have gO:=VY S (by omega)
  have M8:((S.map ae).all λe=>e.all scalar)=true:=by
   rw[kG];intro x Q;obtain⟨y,-,rfl⟩:=ek.1 Q;simp[ae,scalar]
  have aT:=e5 m g 0 (gD (m 290004)) S Z anB Nh hm;simp only[go_sem,go_sem_proc,pz,eN,Jr,aC,b9,e0,ef,hm,d1,bF,aEg,gO,aT,wO,M8,hK,kK];rintro r m' ⟨NG,aX,ab,n2⟩;dsimp only at aX ab n2;rw[<-hO] at aX ab n2;subst ab n2;refine a0 ?_;repeat' (intro h<;>simp only[h,go_sem,go_sem_proc,pz,eN,Jr,aC,e0,ef,hm,bX]<;>try refine aw ?_ ?_)
  exact⟨(k+1,g,NG),by dsimp only;omega,by dsimp only;omega,rfl,rfl,rfl,by dsimp only;omega⟩
 ·have d1:decide ((k:Int)<(D E:Int))=false:=c9;obtain rfl:k=D E:=by omega
  generalize iG cs ps uU (D E)=S at *;refine a0 ?_;repeat' (intro h<;>simp only[h,go_sem,go_sem_proc,pz,eN,Jr,aC,b9,e0,ef,hm,d1]<;>try refine aw ?_ ?_)
def zg (l:List aq)(k:Nat):Bool:=l.any λc=>(c.2.2.1==(k:Int))&&decide (c.2.2.2>0)
def S4 (l:List aq)(k:Nat):Nat:=((dS k).filter (zg l)).length
theorem aEh {E:List Int}{cs:List aq}(X:eI E cs)(i k:Nat):S4 (b1 cs i) k=(ax E cs).xC i k:=by
 unfold S4 Day.xC
 congr 2
 funext r
 have h:=aj1 X.ok i r;have ab:=(gd.1 X.right).2.2.2;rw[qL,decide_eq_true_eq,h];unfold zg;rw[List.any_eq_true]
 constructor
 ·rintro⟨c,H,F⟩;simp only[e4,beq_iff_eq,decide_eq_true_eq] at F;obtain⟨I,af⟩:=mj.1 H;refine⟨cC c,p5 I,by show c.1.toNat=i;omega,by show c.2.2.1.toNat=r;omega,?_⟩
  show (0:Rat)<((c.2.2.2:Int):Rat);exact_mod_cast F.2
 ·rintro⟨b,ah,F,I,af⟩;obtain⟨c,H,rfl⟩:=ek.1 ah;have aO:=ab c H;have yk:c.1.toNat=i:=F;have su:c.2.2.1.toNat=r:=I;refine⟨c,mj.2 ⟨H,by omega⟩,?_⟩
  have aEi:(0:Rat)<((c.2.2.2:Int):Rat):=af;have bm:0<c.2.2.2:=by exact_mod_cast aEi
  simp only[e4,beq_iff_eq,decide_eq_true_eq];omega

def h1 (cs:List aq)(aG:Nat):List aq:=cs.filter λc=>c.1 != (aG:Int)
def kB (E:List Int)(cs:List aq)(aG:Nat):List Int:=bA (D E) λi=>E.getD i 0+cv (b1 cs aG) (e2 i)
def Fz (E:List Int)(cs:List aq)(aG:Nat):Bool:=(kB E cs aG).all λx=>decide (x<=1000000000000000)
theorem Js (E:List Int)(cs:List aq)(aG:Nat):(kB E cs aG).length=D E:=gI _ _
theorem anC {E:List Int}{cs:List aq}(X:eI E cs)(j:Nat){l:List aq}(ar:∀c∈l,c∈cs)(aL:(D l)<=12):0<=cv l (e2 j)/\cv l (e2 j)<=12000000000000000:=by
 have:=H9 (cs:=l) (aQ:=e2 j) (B:=1000000000000000) (by omega) λc H=>by
  have F:=X.am c (ar c H);have I:=((gd.1 X.right).2.2.2 c (ar c H)).2.2.2.2.2.2.1;unfold e2
  split<;>omega
 omega
theorem aEj {E:List Int}{cs:List aq}(X:eI E cs)(aG i:Nat):((cv (b1 cs aG) (e2 i):Int):Rat)=b8 (ax E cs).cF λc=>if c.aE=aG/\c.to=(i:Int) then c.am else 0:=by
 rw[Mx (b1 cs aG) (e2 i) λc=>if c.to=(i:Int) then c.am else 0]
 ·rw[aC9 X];refine rQ λc _=>?_
  by_cases F:c.aE=aG
  ·by_cases I:c.to=(i:Int)
   ·rw[ad F,ad I,ad ⟨F,I⟩]
   ·rw[ad F,ag I,ag λh=>I h.2]
  ·rw[ag F,ag λh=>F h.1]
 ·intro c _;unfold e2;have e:(cC c).to=c.2.1:=rfl;rw[e]
  split
  ·rfl
  ·rfl
theorem S5 {E:List Int}{cs:List aq}(X:eI E cs)(aG:Nat):ax (kB E cs aG) (h1 cs aG)=(ax E cs).saved aG:=by
 have ab:=(gd.1 X.right).2.2.2;have aC:(kB E cs aG).length=D E:=Js _ _ _
 have aD:(λi=>(((kB E cs aG).getD i 0:Int):Rat))=((ax E cs).saved aG).E:=by
  funext i
  show _=((E.getD i 0:Int):Rat)+b8 (ax E cs).cF λc=>if c.aE=aG/\c.to=(i:Int) then c.am else 0;rw[<-aEj X,<-uD]
  congr 1
  by_cases M:i<D E
  ·exact y9 (λi=>E.getD i 0+cv (b1 cs aG) (e2 i)) 0 M
  ·rw[dY,kF (by rw[aC];omega),anD]
   have F:cv (b1 cs aG) (e2 i)=0:=by
    have key:∀l:List aq,(∀c∈l,c∈cs)->cv l (e2 i)=0:=by
     intro l
     induction l with
     |nil=>intro _;rfl
     |cons c l az =>
      intro ar;have I:=ab c (ar c fZ);rw[cv,az λc H=>ar c (gx _ H)];unfold e2;rw[ag (by omega)];rfl
    exact key _ λc H=>(mj.1 H).1
   rw[F,dY,kF (by omega),anD];rfl
 have b9:(h1 cs aG).map cC=((ax E cs).saved aG).cF:=by
  rw[Ri];show _=(cs.map cC).filter _;unfold h1;rw[List.filter_map]
  congr 1
  refine ami λc H=>?_;have I:=ab c H;show (c.1 != (aG:Int))=decide (c.1.toNat≠aG);rw[qL,bne_iff_ne,decide_eq_true_eq];omega
 unfold ax;rw[aC,aD,b9]
 rfl
theorem anE {E:List Int}{cs:List aq}(X:eI E cs){aG:Nat}(h:Fz E cs aG=true):eI (kB E cs aG) (h1 cs aG):=by
 have ab:=gd.1 X.right;have aL:=X.jv;have h8:=X.p7;have ar:(h1 cs aG).length<=D cs:=mg _ _;have hm:∀c∈h1 cs aG,c∈cs:=λc H=>(s9.1 H).1;refine⟨gd.2 ⟨by rw[Js];omega,by omega,λx Q=>?_,λc H=>?_⟩,by rw[Js];exact aL,by omega,λc H=>X.am c (hm c H)⟩
 ·unfold Fz at h;rw[kG] at h;refine⟨?_,of_decide_eq_true (h x Q)⟩;obtain⟨i,-,rfl⟩:=ek.1 Q;have F:=X.E i;have I:=anC X i (l:=b1 cs aG) (λc H=>(mj.1 H).1) (by have:=SB cs aG;omega);omega
 ·have:=ab.2.2.2 c (hm c H);rw[Js];exact this
def nh (cs:List aq)(aG:Nat):Int:=cv (b1 cs aG) λc=>c.2.2.2
theorem anF {E:List Int}{cs:List aq}(X:eI E cs)(aG:Nat):((nh cs aG:Int):Rat)=(ax E cs).bt aG 10:=by
 have h:=rU X.right aG 10;rw[<-h]
 congr 1
 unfold nh cU;have ab:=(gd.1 X.right).2.2.2
 have key:∀l:List aq,(∀c∈l,c∈cs)->cv (b1 l aG) (λc=>c.2.2.2)=cv l λc=>if c.1=(aG:Int)/\c.2.2.1<((10:Nat):Int) then c.2.2.2 else 0:=by
  intro l
  induction l with
  |nil=>intro _;rfl
  |cons c l az =>
   intro ar;have I:=ab c (ar c fZ);have az:=az λc H=>ar c (gx _ H);unfold b1 at *
   by_cases H:c.1=(aG:Int)
   ·rw[qX (by simpa using H),cv,cv,az,ad ⟨H,by omega⟩]
   ·rw[r0 (by simpa using H),cv,az,ag λh=>H h.1];omega
 exact key cs λc H=>H
theorem acD {E:List Int}{cs:List aq}(X:eI E cs){l:List aq}(ar:∀c∈l,c∈cs)(aL:(D l)<=12):0<=cv l (λc=>c.2.2.2)/\cv l (λc=>c.2.2.2)<=12000000000000000:=by
 have:=H9 (cs:=l) (aQ:=λc=>c.2.2.2) (B:=1000000000000000) (by omega) λc H=>by
  have F:=X.am c (ar c H);have I:=((gd.1 X.right).2.2.2 c (ar c H)).2.2.2.2.2.2.1;omega
 omega
def tn (E:List Int)(cs:List aq)(aG:Nat):Rat:=(ax E cs).bt aG 10-((ax E cs).saved aG).cm aG
def sd (E:List Int)(cs:List aq)(aG:Nat):Rat:=pos (tn E cs aG)
def CW (E:List Int)(cs:List aq)(aG:Int):Data:=if hL E cs=true/\0<=aG/\aG<(D E) then (if Fz E cs aG.toNat=true then .cI [.agg (aH (au (sd E cs aG.toNat))),.int .i64 0] else .cI [.agg (aH er),.int .i64 6]) else .cI [.agg (aH er),.int .i64 1]
theorem aEk {E:List Int}{cs:List aq}(X:eI E cs){aG:Nat}(hw:aG<D E)(h:Fz E cs aG=true):dX 483 (tn E cs aG)/\dX 483 (sd E cs aG)/\0<=sd E cs aG:=by
 have F:=AB (anE X h) (i:=aG) (by rw[Js];exact hw);rw[S5 X] at F;have I:=X.upto aG 10
 have af:dX 54 ((ax E cs).bt aG 10):=by
  rw[<-rU X.right];exact xD (by have:=X.upto aG ((10:Nat):Int);omega)
 have aO:dX 483 (tn E cs aG):=by
  unfold tn;rw[Hg];exact (Z1 af (Cy F)).mono (by omega)
 refine⟨aO,?_,EJ _⟩;unfold sd pos
 split
 ·exact (show dX 1 0 from⟨by decide,by decide⟩).mono (by omega)
 ·exact aO
def Jt (l:List Int):Int:=l.foldl max (l.headD 0)
theorem anG (B:Int):∀(l:List Int) (a:Int),l.foldl max a<=B↔a<=B/\∀x∈l,x<=B
 | [],a=>by simp
 |b::l,a=>by
  rw[List.foldl_cons,anG B l];simp only[hj,forall_eq_or_imp,anH]
  constructor
  ·rintro⟨F,I⟩;split at F<;>exact⟨by omega,by omega,I⟩
  ·rintro⟨F,I,af⟩;exact⟨by split<;>omega,af⟩
theorem aEl {l:List Int}(h:0<D l)(B:Int):decide (Jt l>B) = !l.all λx=>decide (x<=B):=by
 obtain⟨a,r,rfl⟩:∃a r,l=a::r:=by
  cases l with
  |nil=>simp at h
  |cons a r=>exact⟨a,r,rfl⟩
 have F:=anG B (a::r) a;have e:Jt (a::r)=(a::r).foldl max a:=rfl;rw[e]
 by_cases I:(a::r).foldl max a<=B
 ·rw[c9]
  symm
  rw[Bool.not_eq_false',kG];exact λx Q=>lq ((F.1 I).2 x Q)
 ·rw[di]
  symm
  rw[pU,List.all_eq_false];have af:¬ ∀x∈a::r,x<=B:=λaU=>I (F.2 ⟨aU a fZ,aU⟩);simp only[Classical.not_forall] at af;obtain⟨x,Q,aL⟩:=af;exact⟨x,Q,by simpa using aL⟩
def acE:=ck DU λ(l:List Int)=>cR (0<D l/\D l<=1000000) (.same (.int .i64 (Jt l)))
@[go_sem] theorem aEm (l:List Int)(H:0<D l/\D l<=1000000):acE [.Y (l.map ae)]=some (.same (.int .i64 (Jt l))):=(cx K6 l).trans (cW H _)
theorem aEn (T:bd)  (l:List Int) (H:0<D l/\D l<=1000000):WP T VM (.same (.int .i64 (Jt l))) [.J (.Y (l.map ae))]:=by
 refine cy ?_;simp only[VM];obtain⟨ao,ar⟩:=H;obtain⟨a,Q⟩:∃a,l[0]?=some a:=⟨_,bx ao⟩;have d0:decide ((D l:Int)<1)=false:=c9
 have aU:l.headD 0=a:=by
  cases l with
  |nil=>simp at ao
  |cons b r=>simpa using Q
 have F:(l.take 1).foldl max a=a:=by
  cases l with
  |nil=>simp at ao
  |cons b r =>
   have:b=a:=by simpa using Q
   subst this;simp
 unfold Jt;rw[aU];simp only[go_sem,go_sem_proc,Q,ao,d0,ae,al,bl];refine dn [0] [] (λ(i:Nat) tm m=>i<=D l/\tm 4=.J (.int .i64 i)/\tm 3=.J (.int .i64 ((l.take i).foldl max a))) (λi=>D l-i) 1 (by refine⟨by omega,rfl,by rw[F];rfl⟩) ?_;intro vs ms aV aS;simp only[go_sem,go_sem_proc,al] at aV aS;subst aV aS;rintro i tm m O-⟨M,dg,b9⟩;simp only[go_sem,go_sem_proc,ba] at O;have bI:=O;rcases dA (i<D l) with ay|cj
 ·have d1:decide ((i:Int)<(D l:Int))=true:=di;have bX:=ff (i:=i) (by omega);obtain⟨y,av⟩:∃y,l[i]?=some y:=⟨_,bx ay⟩;have fY:(l.take (i+1)).foldl max a=max ((l.take i).foldl max a) y:=by rw[hv,av,Option.toList_some,Nu];rfl
  refine a0 ?_;repeat' (intro h<;>simp only[h,go_sem,go_sem_proc,bI,b9,dg,av,d1,bX,ae,al,bl]<;>try refine aw ?_ ?_)
  refine⟨i+1,by omega,by omega,rfl,?_⟩
  rw[fY,anH];generalize (l.take i).foldl max a=z at *
  congr 2
  split<;>split<;>omega
 ·have d1:decide ((i:Int)<(D l:Int))=false:=c9;rw[dy (by omega)] at b9;refine a0 ?_;repeat' (intro h<;>simp only[h,go_sem,go_sem_proc,bI,b9,dg,d1,al]<;>try refine aw ?_ ?_)
theorem acF {n:Int}(h:dw n):B1 [.int .i64 n,.int .i64 1]=some (.same (.cI [.agg (aH (au (n:Rat))),.int .i64 0])):=by
 have:=agH n 1 ⟨h,aaG⟩;rw[Rf h] at this;exact this
def kU (E:List Int)(cs:List aq)(aG i:Nat):Nat->Int:=λj=>E.getD j 0+cv (b1 (cs.take i) aG) (e2 j)
theorem aEo (T:bd){K:eW->bb->Prop}{kk:List gn}(E:List Int)(cs:List aq)(X:eI E cs)(aG:Nat)(lp:Option (Nat×List R))(acG:Nat)(tm:Nat->R)(m:Mem)
  (aD:tm 2=.J (.int .i64 aG)) (bE:tm 6=.ptr 221006 0 0) (dE:tm 8=.ref 221034 0 1 0 (D E)) (e0:tm 9=.J (.int .i64 0)) (ef:tm 10=.ref 221048 acG 4 0 0) (FA:tm 35=.J (.Y (cs.map b4))) (FB:tm 36=.J (.int .i64 (D cs))) (ki:tm 37=.J (.int .i64 0))
  (uk:m 221006=lp) (uY:m 221034=some (0,(bA (D E) (kU E cs aG 0)).map bD)) (CX:m 221048=some (acG,[]))
  (dK:∀tm' m' g,tm' 2=.J (.int .i64 aG)->tm' 6=.ptr 221006 0 0->tm' 8=.ref 221034 0 1 0 (D E)->tm' 9=.J (.int .i64 (nh cs aG))->tm' 10=.ref 221048 g 4 0 (h1 cs aG).length->m' 221006=lp->m' 221034=some (0,(kB E cs aG).map bD)->m' 221048=some (g,bc b4 (h1 cs aG))->cJ T K kk (.exit 0) ⟨tm',m'⟩) :
  wp T (MW.body.sub [1,1,1,1,0,1,0,0]) (cJ T K kk) ⟨tm,m⟩:=by
 simp only[MW,ez.sub];have aL:=X.jv;have h8:=X.p7;have B5:=(gd.1 X.right).2.2.2;refine dn [2,6,8,35,36] [221006] (λ((i,g):Nat×Nat) tm m=>i<=D cs/\tm 37=.J (.int .i64 i)/\tm 9=.J (.int .i64 (nh (cs.take i) aG))/\tm 10=.ref 221048 g 4 0 (h1 (cs.take i) aG).length/\m 221048=some (g,bc b4 (h1 (cs.take i) aG))/\m 221034=some (0,(bA (D E) (kU E cs aG i)).map bD)) (λ(i,_)=>D cs-i) (0,acG) (by refine⟨by omega,ki,?_,?_,?_,uY⟩<;>rw[m0]<;>first|exact e0|exact ef|exact CX) ?_
 intro vs ms aV aS;simp only[go_sem,go_sem_proc,aD,bE,dE,FA,FB,uk] at aV aS;subst aV aS;clear aD bE dE e0 ef FA FB ki uk uY CX tm m;rintro⟨i,g⟩ tm m O hm ⟨M,ki,e0,ef,CX,uY⟩;simp only[go_sem,go_sem_proc,ba] at O hm;obtain⟨aD,bE,dE,FA,FB⟩:=O;have uk:=hm;rcases dA (i<D cs) with ay|cj
 ·have d1:decide ((i:Int)<(D cs:Int))=true:=di;have bX:=ff (i:=i) (by omega);obtain⟨⟨aJ,c2,c3,c4⟩,Q⟩:∃c,cs[i]?=some c:=⟨_,bx ay⟩;have gp:=ec Q;have lx:=B5 _ gp;have aEp:=X.am _ gp;dsimp only at lx aEp;have fY:cs.take (i+1)=cs.take i++[(aJ,c2,c3,c4)]:=by rw[hv,Q];rfl
  have w5:∀n,∀c∈b1 (cs.take n) aG,c∈cs:=λn c H=>List.mem_of_mem_take (mj.1 H).1
  have po:∀n,(b1 (cs.take n) aG).length<=12:=λn=>by
   have F:=SB (cs.take n) aG;have I:(cs.take n).length<=D cs:=by rw[gf];omega
   omega
  have Dl:(h1 (cs.take i) aG).length<=12:=by
   have F:(h1 (cs.take i) aG).length<=(cs.take i).length:=mg _ _;have I:(cs.take i).length<=D cs:=by rw[gf];omega
   omega
  have n5:=acD X (w5 (i+1)) (po (i+1));rcases fl:(aJ==(aG:Int))
  ·have lW:b1 (cs.take (i+1)) aG=b1 (cs.take i) aG:=by
    rw[fY,am5];have:b1 [(aJ,c2,c3,c4)] aG=[]:=by unfold b1;rw[r0 (by simpa using fl)];rfl
    rw[this,fC]
   have FC:h1 (cs.take (i+1)) aG=h1 (cs.take i) aG++[(aJ,c2,c3,c4)]:=by
    unfold h1;rw[fY,p8,qX (by simpa [bne] using fl),oR]
   have dC:=l3 AA Re 221048 g 32 (h1 (cs.take i) aG) (aJ,c2,c3,c4) (cs:=[.J (.int .i64 aJ),.J (.int .i64 c2),.J (.int .i64 c3),.J (.int .i64 c4)]) rfl (by omega) (by omega);rw[<-FC] at dC;have cb:(h1 (cs.take (i+1)) aG).length=(h1 (cs.take i) aG).length+1:=by rw[FC,fH];rfl
   have eA:kU E cs aG (i+1)=kU E cs aG i:=by unfold kU;rw[lW]
   refine a0 ?_;repeat' (intro h<;>simp only[h,go_sem,go_sem_proc,aD,bE,dE,e0,ef,FA,FB,ki,uk,uY,CX,Q,d1,bX,fl,dC,b4,al,bl,bne,dt]<;>try refine aw ?_ ?_)
   exact⟨(i+1,g+1),by dsimp only;omega,by dsimp only;omega,rfl,by unfold nh;rw[lW],by rw[cb],rfl,by rw[eA]⟩
  ·have lW:b1 (cs.take (i+1)) aG=b1 (cs.take i) aG++[(aJ,c2,c3,c4)]:=by
    rw[fY,am5];have:b1 [(aJ,c2,c3,c4)] aG=[(aJ,c2,c3,c4)]:=by unfold b1;rw[qX (by simpa using fl)];rfl
    rw[this]
   have FC:h1 (cs.take (i+1)) aG=h1 (cs.take i) aG:=by
    unfold h1;rw[fY,p8,r0 (by simpa [bne] using fl),oR,fC]
   have G6:nh (cs.take (i+1)) aG=nh (cs.take i) aG+c4:=by unfold nh;rw[lW,Fa]
   have z4:=acD X (w5 i) (po i)
   have xj:IntKind.i64.wrap (nh (cs.take i) aG+c4)=nh (cs.take (i+1)) aG:=by
    rw[G6];unfold nh at *;rw[eS _]
   rcases e6:decide (c2>=0)
   ·have eA:(bA (D E) (kU E cs aG (i+1)))=bA (D E) (kU E cs aG i):=jK λj _=>by
     unfold kU;have:e2 j (aJ,c2,c3,c4)=0:=by unfold e2;rw[ag (by dsimp only;have:=of_decide_eq_false e6;omega)]
     rw[lW,Fa,this,sL]
    refine a0 ?_;repeat' (intro h<;>simp only[h,go_sem,go_sem_proc,aD,bE,dE,e0,ef,FA,FB,ki,uk,uY,CX,Q,d1,bX,xj,fl,e6,b4,al,bl,bne,cK]<;>try refine aw ?_ ?_)
    exact⟨(i+1,g),by dsimp only;omega,by dsimp only;omega,rfl,rfl,by rw[FC],by rw[FC],by rw[eA]⟩
   ·obtain⟨t,rfl⟩:∃t:Nat,c2=(t:Int):=⟨c2.toNat,by have:=of_decide_eq_true e6;omega⟩
    have Ik:t<D E:=by omega
    have eA:(bA (D E) (kU E cs aG (i+1)))=bA (D E) λj=>if j=t then kU E cs aG i t+c4 else kU E cs aG i j:=jK λj _=>by
     unfold kU;rw[lW,Fa]
     by_cases ai:j=t
     ·subst ai;have:e2 j (aJ,(j:Int),c3,c4)=c4:=by unfold e2;rw[ad rfl]
      rw[ad rfl,this];omega
     ·have:e2 j (aJ,(t:Int),c3,c4)=0:=by unfold e2;rw[ag (by dsimp only;omega)]
      rw[ag ai,this,sL]
    have kJ:=anC X t (w5 i) (po i);have eJ:=X.E t;have Fb:IntKind.i64.wrap (kU E cs aG i t+c4)=kU E cs aG i t+c4:=by unfold kU;rw[eS _]
    have t1:=aby Ik (kU E cs aG i);have t2:=abz (D E) (kU E cs aG i);have t3:=abx Ik (kU E cs aG i) (kU E cs aG i t+c4);rw[<-eA] at t3;have dW:t+1<=D E:=by omega
    generalize aA:(bA (D E) (kU E cs aG i)).map bD=bU at *;generalize nX:(bA (D E) (kU E cs aG (i+1))).map bD=pW at *;generalize kU E cs aG i t=S1 at *;refine a0 ?_;repeat' (intro h<;>simp only[h,go_sem,go_sem_proc,aD,bE,dE,e0,ef,FA,FB,ki,uk,uY,CX,Q,d1,bX,xj,Fb,fl,e6,t1,t2,t3,Ik,dW,b4,cL,al,bl,bne,cK]<;>try refine aw ?_ ?_)
    exact⟨(i+1,g),by dsimp only;omega,by dsimp only;omega,rfl,rfl,by rw[FC],by rw[FC],by rw[nX]⟩
 ·have d1:decide ((i:Int)<(D cs:Int))=false:=c9;obtain rfl:i=D cs:=by omega
  have eA:bA (D E) (kU E cs aG (D cs))=kB E cs aG:=jK λj _=>by unfold kU;rw[lf]
  rw[eA] at uY;rw[lf] at e0 ef CX;refine a0 ?_;repeat' (intro h<;>simp only[h,go_sem,go_sem_proc,aD,bE,dE,e0,ef,FA,FB,ki,d1]<;>try refine aw ?_ ?_)
  refine dK _ _ g ?_ ?_ ?_ ?_ ?_ uk uY CX<;>simp only[eV,dJ,if_false,aD,bE,dE,e0,ef]
end Go.Mini
