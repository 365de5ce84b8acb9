/- A part of the proof. -/
import Derived.Test.YtgpioapepokkbaaGreatM05
set_option linter.unusedSimpArgs false
set_option linter.unusedVariables false
set_option linter.defProp false
set_option maxRecDepth 100000
set_option maxHeartbeats 4000000
noncomputable section
open Bool renaming and_assoc->WI,and_eq_false_iff->Iq,and_eq_true->fC,and_false->iS,and_true->te,eq_iff_iff->od,false_and->e9,not_eq_true->arz,not_eq_true'->tw,not_false->cA,not_true->b3,or_eq_true->s9,true_and->fN
open Decidable renaming em->dn
open Int renaming add_zero->rr,ediv_nonneg->GP,emod_nonneg->JL,le_trans->ark,mul_le_mul->JG,mul_nonneg->sl,tdiv_eq_ediv_of_nonneg->Cf,toNat_natCast->gK,toNat_zero->sM
open List renaming all_append->KD,all_eq_false->aef,all_eq_true->nt,append_assoc->g8,append_nil->hD,drop->hl,drop_append->qq,drop_succ_cons->yn,drop_zero->o0,filter_append->zo,filter_cons_of_neg->zp,filter_cons_of_pos->xW,filter_nil->sE,getD_eq_getElem?_getD->eD,getElem?_append_left->qi,getElem?_append_right->ov,getElem?_cons_succ->MN,getElem?_eq_getElem->bh,getElem?_eq_some_iff->dV,getElem?_map->bm,getElem_mem->mh,length->D,length_append->gC,length_cons->lJ,length_eq_zero_iff->xY,length_filter_le->p2,length_map->al,length_nil->o2,length_pos_iff->Eg,length_range->td,length_replicate->xH,length_set->ie,length_singleton->qI,length_take->gP,mapM_cons->ns,map_append->kE,map_congr_left->ox,map_cons->eE,map_map->pJ,map_nil->bY,mem_iff_getElem?->r9,mem_map->gm,mem_of_getElem?->dy,mem_range->ig,range->eM,range_succ->rM,replicate->ef,replicate_succ->um,replicate_succ'->Qj,set_append_left->apK,set_append_right->y1,set_cons_succ->y7,set_cons_zero->lB,take->gT,take_add_one->hZ,take_length->pb,take_of_length_le->dD,take_zero->nw
open List.cons renaming injEq->bj
open Nat renaming add_comm->Dm,eq_zero_or_pos->kO,le_refl->cl,le_trans->eR,mul_one->dZ,reduceEqDiff->cE,sub_self->j0,zero_le->fL
open Option renaming bind_none->xA,bind_some->qk,getD_some->BJ,map_eq_some_iff->eL,map_some->ks,toList_some->ary
open Option.some renaming inj->nu,injEq->cF
open Prod renaming ext->et,ext_iff->Ad
open Prod.mk renaming injEq->fq
open Rat renaming intCast_add->CY
namespace Go.Mini
open Go
def jd (c:Int)(q:Nat->M)(us:Nat->Int)(f:Int)(p:Bool):List M:=dS c::(bA 10 q++((bA 11 us).map dS++[dS f,iJ p]))
def VV (c:Int)(q:Nat->M)(us:Nat->Int)(f:Int)(p:Bool):(jd c q us f p).length=24:=by
 simp[jd,gB]
def adF {c:Int}{q:Nat->M}{us:Nat->Int}{f:Int}{p:Bool}{k:Nat}(I:k<10):(jd c q us f p)[1+k]?=some (q k):=by
 unfold jd;rw[Dm,MN,qi (by rw[gB];exact I)];exact ki q I
def aFT {c:Int}{q:Nat->M}{us:Nat->Int}{f:Int}{p:Bool}{k:Nat}(I:k<10):gT 1 (hl (1+k) (jd c q us f p))=[q k]:=x5 (adF I)
def aFU {c:Int}{q:Nat->M}{us:Nat->Int}{f:Int}{p:Bool}{k:Nat}(I:k<11):gT 1 (hl (11+k) (jd c q us f p))=[.H (.int .i64 (us k))]:=by
 refine x5 ?_;unfold jd;rw[show 11+k=(10+k)+1 by omega,MN,ov (by rw[gB];omega),gB,qi (by rw[al,gB];omega),show 10+k-10=k by omega,bm,ki us I]
 rfl
def VW {l:List M}{k:Nat}{v:M}(I:k<D l):gT k l++[v]++hl (k+1) l=l.set k v:=by
 rw[List.set_eq_take_append_cons_drop,Y I];simp
def adG {c:Int}{q:Nat->M}{us:Nat->Int}{f:Int}{p:Bool}{k:Nat}(I:k<10)(v:M):(jd c q us f p).set (1+k) v=jd c (λj=>if j=k then v else q j) us f p:=by
 unfold jd;rw[Dm,y7,apK _ _ (by rw[gB];exact I),A5]
def aFV {c:Int}{q:Nat->M}{us:Nat->Int}{f:Int}{p:Bool}{k:Nat}(I:k<11)(v:Int):(jd c q us f p).set (11+k) (.H (.int .i64 v))=jd c q (λj=>if j=k then v else us j) f p:=by
 unfold jd;rw[show 11+k=(10+k)+1 by omega,y7,y1 _ _ (by rw[gB];omega),gB,apK _ _ (by rw[al,gB];omega),show 10+k-10=k by omega,<-A5,List.map_set]
 rfl
def C8 {c:Int}{q vS:Nat->M}{us apL:Nat->Int}{f:Int}{p:Bool}(h:∀k,k<10->q k=vS k)(cn:∀k,k<11->us k=apL k):jd c q us f p=jd c vS apL f p:=by
 unfold jd;rw[jW h,jW cn]
def apM (T:ba){K:eK->bc->Prop}{kk:List fT}(gD:Mem)(eO VX tR:Nat)(c:Int)(q:Nat->M)(us:Nat->Int)(ar c2:Int)(r:Nat)(am:Int)(X:r<10)(ad:∀j,0<=us j/\us j<=4000000000000000000)(zh:0<=am/\am<=1000000000000000)(p7:eO≠228009)(apN Fu apO apP:M)(tm:Nat->M)(m:Mem)
  (c6:tm 5=apN) (eT:tm 9=.ptr 228009 tR 0) (gg:tm 10=.ptr eO VX 0) (lD:tm 11=.H (.int .i64 (r+1:Nat))) (l6:tm 25=Fu) (oj:tm 26=apO) (p8:tm 27=apP) (Pq:gD 228009=some (tR,[.H (.int .i64 ar),.H (.int .i64 c2),.H (.int .i64 r),.H (.int .i64 am)])) (Lt:m eO=some (VX,jd c q us 10 false)) (bg:∀k,k≠eO->m k=gD k)
  (db:∀tm' m',tm' 5=apN->tm' 25=Fu->tm' 26=apO->tm' 27=apP->m' eO=some (VX,jd c q (λj=>us j+if r<j then am else 0) 10 false)->(∀k,k≠eO->m' k=gD k)->cg T K kk (.exit 4) ⟨tm',m'⟩) :
  wp T (Et.body.sub [1,1,1,0,1,0,0,1,1,0,0,1,1,1,1,0]) (cg T K kk) ⟨tm,m⟩:=by
 simp only[Et,er.sub]
 refine dd [5,9,10,25,26,27] [] (λ(k:Nat) tm m=>r<k/\k<=11/\tm 11=.H (.int .i64 k)/\m eO=some (VX,jd c q (λj=>us j+if r<j/\j<k then am else 0) 10 false)/\∀k,k≠eO->m k=gD k) (λk=>11-k) (r+1) (by
  refine⟨by omega,by omega,lD,?_,bg⟩
  rw[Lt]
  congr 2
  exact C8 (λ_ _=>rfl) λj _=>by rw[aa (by omega)];omega) ?_
 intro vs ms aQ aM;simp only[go_sem,go_sem_proc,c6,eT,gg,l6,oj,p8] at aQ aM;subst aQ aM;clear c6 eT gg lD l6 oj p8 Lt bg tm m;rintro k tm m I-⟨iH,aQe,lD,Lt,bg⟩;simp only[go_sem,go_sem_proc,bj] at I;obtain⟨c6,eT,gg,l6,oj,p8⟩:=I;have aFW:=(bg 228009 (Ne.symm p7)).trans Pq;rcases dn (k<=10) with ah|bW
 ·have d1:decide ((k:Int)<=10)=true:=cX;have bF:=eI (i:=k) (by omega);have hlen:=VV c q (λj=>us j+if r<j/\j<k then am else 0) 10 false;have bb:=aFU (c:=c) (q:=q) (us:=λj=>us j+if r<j/\j<k then am else 0) (f:=10) (p:=false) (k:=k) (by omega);have da:=(VW (l:=jd c q (λj=>us j+if r<j/\j<k then am else 0) 10 false) (k:=11+k) (v:=.H (.int .i64 (us k+am))) (by rw[VV];omega)).trans (aFV (by omega) (us k+am))
  have hC:jd c q (λj=>if j=k then us k+am else us j+if r<j/\j<k then am else 0) 10 false=jd c q (λj=>us j+if r<j/\j<k+1 then am else 0) 10 false:=C8 (λ_ _=>rfl) λj _=>by
   by_cases ae:j=k
   ·rw[Y ae,ae,Y ⟨iH,by omega⟩]
   ·rw[aa ae]
    by_cases G:r<j/\j<k
    ·rw[Y G,Y ⟨G.1,by omega⟩]
    ·rw[aa G,aa (by omega)]
  rw[hC] at da;rw[aa (by omega),rr] at bb;have QA:IntKind.i64.wrap (us k+am)=us k+am:=by have:=ad k;rw[eY _]
  have aw:k<11:=by omega
  have cb:(11+k+1<=24)=True:=eq_true (by omega);have Li:(eO==228009)=false:=beq_eq_false_iff_ne.2 p7;have VY:(228009==eO)=false:=beq_eq_false_iff_ne.2 (Ne.symm p7);generalize jd c q (λj=>us j+if r<j/\j<k then am else 0) 10 false=D1 at *;generalize zc:jd c q (λj=>us j+if r<j/\j<k+1 then am else 0) 10 false=D2 at *;refine ai ?_;repeat' (intro h<;>simp only[h,go_sem,go_sem_proc,c6,eT,gg,lD,l6,oj,p8,aFW,Lt,d1,bF,hlen,bb,da,QA,aw,cb,Li,VY,dZ]<;>try refine ag ?_ ?_)
  refine⟨k+1,by omega,by omega,by omega,rfl,by rw[zc],λj ae=>?_⟩
  simp only[a5,ae,if_false];exact bg j ae
 ·have d1:decide ((k:Int)<=10)=false:=b7;obtain rfl:k=11:=by omega
  have hC:jd c q (λj=>us j+if r<j/\j<11 then am else 0) 10 false=jd c q (λj=>us j+if r<j then am else 0) 10 false:=C8 (λ_ _=>rfl) λj ae=>by
   by_cases G:r<j
   ·rw[Y ⟨G,ae⟩,Y G]
   ·rw[aa (by omega),aa G]
  rw[hC] at Lt;refine ai ?_;repeat' (intro h<;>simp only[h,go_sem,go_sem_proc,c6,eT,gg,lD,l6,oj,p8,d1]<;>try refine ag ?_ ?_)
  refine db _ _ ?_ ?_ ?_ ?_ Lt bg<;>simp only[dC,cE,if_false,c6,l6,oj,p8]
def pt (l:List aB)(ft:Nat->Nat->Nat)(i k:Nat):M:=if dx l i k=[] then .nil else .ref (228600+10*i+k) (ft i k) 4 0 (dx l i k).length
structure Bb (cash:List Int) (l:List aB) (g:Nat) (gs:Nat->Nat) (ft:Nat->Nat->Nat) (m:Mem):Prop where
 row:m 228023=some (g,bA (D cash) λi => .ptr (228500+i) (gs i) 0)
 dU:∀i,i<(D cash)->m (228500+i)=some (gs i,jd (cash.getD i 0) (pt l ft i) (λk=>bT l i (k:Nat)) 10 false)
 Ia:∀i k,i<(D cash)->k<10->dx l i k≠[]->m (228600+10*i+k)=some (ft i k,aU bL (dx l i k))
def aFX (l:List aB)(c:aB)(i k:Nat):dx (l++[c]) i k=if c.1=(i:Int)/\c.2.2.1=(k:Int) then dx l i k++[c] else dx l i k:=by
 unfold dx;rw[zo]
 by_cases h:c.1=(i:Int)/\c.2.2.1=(k:Int)
 ·rw[Y h,xW (by simp[h.1,h.2]),sE]
 ·rw[aa h,zp (by simpa using h),sE,hD]
def QF (l:List aB)(ar c2 c3 c4:Int)(i k:Nat):dx (l++[(ar,c2,c3,c4)]) i k=if ar=(i:Int)/\c3=(k:Int) then dx l i k++[(ar,c2,c3,c4)] else dx l i k:=aFX l _ i k
def aFY (l:List aB)(c:aB)(i r:Int):bT (l++[c]) i r=bT l i r+if c.1=i/\c.2.2.1<r then c.2.2.2 else 0:=by
 unfold bT;rw[VL]
def apQ (l:List aB)(ar c2 c3 c4 i r:Int):bT (l++[(ar,c2,c3,c4)]) i r=bT l i r+if ar=i/\c3<r then c4 else 0:=aFY l _ i r
def Bb.next {cash:List Int}{l:List aB}{g:Nat}{gs:Nat->Nat}{ft:Nat->Nat->Nat}{m m':Mem}(h:Bb cash l g gs ft m)(aL:(D cash)<=6){ar c3:Nat}{c2 c4:Int}(g7:ar<D cash)(tn:c3<10)(sH:Nat)
  (gj:m' 228023=m 228023) (aFZ:∀i,i<(D cash)->i≠ar->m' (228500+i)=m (228500+i)) (gv:m' (228500+ar)=some (gs ar,jd (cash.getD ar 0) (λk=>if k=c3 then .ref (228600+10*ar+c3) sH 4 0 ((dx l ar c3).length+1) else pt l ft ar k) (λk=>bT l ar (k:Nat)+if c3<k then c4 else 0) 10 false))
  (VZ:m' (228600+10*ar+c3)=some (sH,aU bL (dx l ar c3++[((ar:Int),c2,(c3:Int),c4)]))) (aF0:∀i k,i<(D cash)->k<10->¬ (i=ar/\k=c3)->m' (228600+10*i+k)=m (228600+10*i+k)):Bb cash (l++[((ar:Int),c2,(c3:Int),c4)]) g gs (λi k=>if i=ar/\k=c3 then sH else ft i k) m':=by
 refine⟨by rw[gj];exact h.row,λi O=>?_,λi k O I b8=>?_⟩
 ·by_cases hic:i=ar
  ·subst hic;rw[gv]
   congr 2
   refine C8 (λk I=>?_) λk I=>?_
   ·unfold pt
    by_cases Ex:k=c3
    ·subst Ex;have au:dx (l++[((i:Int),c2,(k:Int),c4)]) i k=dx l i k++[((i:Int),c2,(k:Int),c4)]:=by rw[QF,Y ⟨rfl,rfl⟩]
     rw[au,Y rfl,aa (by simp),gC];simp
    ·have au:dx (l++[((i:Int),c2,(c3:Int),c4)]) i k=dx l i k:=by rw[QF,aa (by omega)]
     rw[aa Ex,au];dsimp only;rw[aa (show ¬ (i=i/\k=c3) by omega)]
   ·rw[apQ]
    by_cases iP:c3<k
    ·rw[Y iP,Y (by omega)]
    ·rw[aa iP,aa (by omega)]
  ·rw[aFZ i O hic,h.dU i O]
   congr 2
   refine C8 (λk I=>?_) λk I=>?_
   ·unfold pt;have au:dx (l++[((ar:Int),c2,(c3:Int),c4)]) i k=dx l i k:=by rw[QF,aa (by omega)]
    rw[au];dsimp only;rw[aa (show ¬ (i=ar/\k=c3) by omega)]
   ·rw[apQ,aa (by omega),rr]
 ·by_cases hic:i=ar/\k=c3
  ·obtain⟨rfl,rfl⟩:=hic;have au:dx (l++[((i:Int),c2,(k:Int),c4)]) i k=dx l i k++[((i:Int),c2,(k:Int),c4)]:=by rw[QF,Y ⟨rfl,rfl⟩]
   rw[au,Y ⟨rfl,rfl⟩];exact VZ
  ·have au:dx (l++[((ar:Int),c2,(c3:Int),c4)]) i k=dx l i k:=by rw[QF,aa (by omega)]
   rw[au] at b8 ⊢;rw[aa hic,aF0 i k O I hic];exact h.Ia i k O I b8
def adH {K:bc->Prop}{tm:Nat->M}{mem mem':Mem}(h:ud mem mem')(db:∀bk,bk=mem'->K ⟨tm,bk⟩):lp K ⟨tm,mem⟩ .many:=⟨mem',.step h (.refl _),db _ rfl⟩
def adI {K:bc->Prop}{tm:Nat->M}{mem:Mem}(db:∀bk,bk=mem->K ⟨tm,bk⟩):lp K ⟨tm,mem⟩ .many:=⟨mem,.refl _,db _ rfl⟩
def km {m:Mem}{k g:Nat}{cs:List M}:a5 m k g cs k=some (g,cs):=by simp[a5]
def c5 {m:Mem}{k j g:Nat}{cs:List M}(h:k≠j):a5 m j g cs k=m k:=by
 simp only[a5];rw[aa h]
def ya (mem m:Mem):Prop:=∀k:Nat,k<200000\/300000<=k->m k=mem k
def ya.refl (m:Mem):ya m m:=λ_ _=>rfl
def ya.trans {a b c:Mem}(h:ya a b)(cn:ya b c):ya a c:=λk I=>(cn k I).trans (h k I)
def df.outs {n:Nat}{mem m:Mem}(h:df n mem m)(aL:200<=n/\n<300:=by decide):ya mem m:=λk I=>h k (by omega)
structure tW (v:M) (cs:List aB) (mem:Mem):Prop where
 len:qf v=some (D cs)
 at_:∀t c,cs[t]?=some c->∃p,yi 4 t v=some p/\∀m,ya mem m->q3 m 4 true p=some (.agg ((bL c).map .H))
def aF1 (cs:List aB)(mem:Mem):tW (.H (.ax (cs.map bL))) cs mem:=⟨by simp[qf],λt c J=>by
 refine⟨.H (.ptr (bL c)),?_,λm _=>rfl⟩;simp only[yi,bm,J,ks]
 rfl⟩
def tW.aF {v:M}{cs:List aB}{mem m:Mem}(h:tW v cs mem)(he:ya mem m):tW v cs m:=⟨h.len,λt c J=>by
 obtain⟨p,F,G⟩:=h.at_ t c J;exact⟨p,F,λm' hm=>G m' (he.trans hm)⟩⟩
def tW.uniq {v:M}{cs jY:List aB}{mem:Mem}(h:tW v cs mem)(cn:tW v jY mem):cs=jY:=by
 have aq:(D cs)=D jY:=by
  have:=h.len.symm.trans cn.len
  simpa using this
 apply List.ext_getElem aq;intro t F G;obtain⟨p,cz,cY⟩:=h.at_ t _ (bh F);obtain⟨q,cQ,dN⟩:=cn.at_ t _ (bh G);rw[cz] at cQ
 cases cQ;have:=(cY mem (ya.refl _)).symm.trans (dN mem (ya.refl _));have e:(bL cs[t]).map M.H=(bL jY[t]).map M.H:=by simpa using this
 exact tM _ _ (map_inj (λ_ _ h=>by injection h) _ _ e)
def aF2 (T:ba){K:eK->bc->Prop}{kk:List fT}(ep:Mem)(cash:List Int)(cs:List aB)(R:fX cash cs)(g:Nat)(gs:Nat->Nat)(ft:Nat->Nat->Nat)(tm:Nat->M)(m:Mem)
  (c6:tm 5=.ref 228023 g 1 0 (D cash)) (Fu:M) (kT:tW Fu cs ep) (l6:tm 25=Fu) (oj:tm 26=.H (.int .i64 (D cs))) (p8:tm 27=.H (.int .i64 0)) (bH:Bb cash [] g gs ft m) (bg:df 228 ep m)
  (db:∀tm' m' aF3,tm' 5=.ref 228023 g 1 0 (D cash)->Bb cash cs g gs aF3 m'->df 228 ep m'->cg T K kk (.exit 2) ⟨tm',m'⟩) :
  wp T (Et.body.sub [1,1,1,0,1,0]) (cg T K kk) ⟨tm,m⟩:=by
 simp only[Et,er.sub];have aL:=R.jV;have X:=(hL.1 R.right).2.2.2;have eu:=R.wE;refine dd [5,25,26] [] (λ((t,ft):Nat×(Nat->Nat->Nat)) tm m=>t<=D cs/\tm 27=.H (.int .i64 t)/\Bb cash (cs.take t) g gs ft m/\df 228 ep m) (λ(t,_)=>D cs-t) (0,ft) (by refine⟨by omega,p8,by rw[nw];exact bH,bg⟩) ?_;intro vs ms aQ aM;simp only[go_sem,go_sem_proc,c6,l6,oj] at aQ aM;subst aQ aM;clear c6 l6 oj p8 bH bg tm m;rintro⟨t,ft⟩ tm m I-⟨b0,p8,bH,bg⟩;simp only[go_sem,go_sem_proc,bj] at I;obtain⟨c6,l6,oj⟩:=I;rcases dn (t<D cs) with ah|bW
 ·have d1:decide ((t:Int)<(D cs:Int))=true:=cX;have bF:=eI (i:=t) (by omega);obtain⟨⟨ar,c2,c3,c4⟩,L⟩:∃c,cs[t]?=some c:=⟨_,bh ah⟩;have kP:=X _ (dy L);dsimp only at kP;obtain⟨aQf,pW,adJ⟩:=kT.at_ t _ L;have Ib:=adJ m bg.outs;simp only[go_sem,go_sem_proc,bL,eE,bY] at pW Ib;obtain⟨ar,rfl⟩:∃k:Nat,ar=(k:Int):=⟨ar.toNat,by omega⟩
  obtain⟨c3,rfl⟩:∃k:Nat,c3=(k:Int):=⟨c3.toNat,by omega⟩
  have hb:cs.take (t+1)=cs.take t++[((ar:Int),c2,(c3:Int),c4)]:=by rw[hZ,L];rfl
  generalize aq:cs.take t=l at *;have x1:(D l)<=12:=by rw[<-aq,gP];omega
  have g7:ar<D cash:=by omega
  have tn:c3<10:=by omega
  have gj:=bH.row;have gv:=bH.dU ar g7;have k5:=x5 (ki (λi=>M.ptr (228500+i) (gs i) 0) g7);have cm:(bA (D cash) λi=>M.ptr (228500+i) (gs i) 0).length=D cash:=gB _ _;have hlen:=VV (cash.getD ar 0) (pt l ft ar) (λk=>bT l ar (k:Nat)) 10 false;have kJ:=aFT (c:=cash.getD ar 0) (q:=pt l ft ar) (us:=λk=>bT l ar (k:Nat)) (f:=10) (p:=false) tn;have fk:=λv=>(VW (l:=jd (cash.getD ar 0) (pt l ft ar) (λk=>bT l ar (k:Nat)) 10 false) (k:=1+c3) (v:=v) (by rw[VV];omega)).trans (adG tn v);have eN:ar+1<=D cash:=by omega
  have cb:(1+c3+1<=24)=True:=eq_true (by omega);have w1:=eI (i:=c3) (by omega);generalize Lp:(bA (D cash) λi=>M.ptr (228500+i) (gs i) 0)=zz at *;generalize QB:jd (cash.getD ar 0) (pt l ft ar) (λk=>bT l ar (k:Nat)) 10 false=DC at *;generalize wI:228500+ar=eO at *;have VH:(eO=228009)=False:=eq_false (by omega);have apR:(eO=228048)=False:=eq_false (by omega);have Li:(eO==228009)=false:=beq_eq_false_iff_ne.2 (by omega);have VY:(228009==eO)=false:=beq_eq_false_iff_ne.2 (by omega);have apS:(eO==228048)=false:=beq_eq_false_iff_ne.2 (by omega);have apT:(228048==eO)=false:=beq_eq_false_iff_ne.2 (by omega);have pC:(1<=maxLen)=True:=eq_true (by decide);have aQg:=λj=>(AY R.right).upto ar j
  have Hc:∀j:Nat,0<=bT l ar (j:Nat)/\bT l ar (j:Nat)<=4000000000000000000:=λj=>by
   have:=(AY R.right).sum (λc=>c.1=(ar:Int)/\c.2.2.1<(j:Int)) t;rw[aq] at this;unfold bT;omega
  generalize V0:228600+10*ar+c3=lH at *;have cz:(228009=eO)=False:=eq_false (by omega);have cY:(228009=lH)=False:=eq_false (by omega);have eA:(228048=lH)=False:=eq_false (by omega);have eQ:(228048=eO)=False:=eq_false (by omega);have p1:(lH=eO)=False:=eq_false (by omega);have u7:(eO=lH)=False:=eq_false (by omega);have anW:(lH=228009)=False:=eq_false (by omega);have aF4:(lH=228048)=False:=eq_false (by omega);have apU:(228009=228048)=False:=eq_false (by omega)
  have tail:∀(tm':Nat->M) (M2:Mem) (sH tR:Nat),tm' 5=.ref 228023 g 1 0 (D cash)->tm' 25=Fu->tm' 26=.H (.int .i64 (D cs))->tm' 27=.H (.int .i64 t)->M2 eO=some (gs ar,jd (cash.getD ar 0) (λk=>if k=c3 then .ref lH sH 4 0 ((dx l ar c3).length+1) else pt l ft ar k) (λk=>bT l ar (k:Nat)  + if c3<k then c4 else 0) 10 false)->M2 lH=some (sH,aU bL (dx l ar c3++[((ar:Int),c2,(c3:Int),c4)]))->(∀k:Nat,k≠228009->k≠228048->k≠eO->k≠lH->M2 k=m k)->Bb cash (cs.take (t+1)) g gs (λi k=>if i=ar/\k=c3 then sH else ft i k) M2/\df 228 ep M2:=by
   intro tm' M2 sH tR jb Lu Lv Lw Ic QG nR;rw[hb];refine⟨Bb.next bH aL g7 tn sH ?_ (λi O b8=>?_) ?_ ?_ λi k O I b8=>?_,λk I=>?_⟩
   ·exact nR 228023 (by omega) (by omega) (by omega) (by omega)
   ·exact nR (228500+i) (by omega) (by omega) (by omega) (by omega)
   ·rw[wI,V0];exact Ic
   ·rw[V0];exact QG
   ·exact nR (228600+10*i+k) (by omega) (by omega) (by omega) (by omega)
   ·rw[nR k (by omega) (by omega) (by omega) (by omega)];exact bg k I
  by_cases jv:dx l ar c3=[]
  ·have fD:pt l ft ar c3=.nil:=by unfold pt;rw[Y jv]
   rw[fD] at kJ;simp only[go_sem,go_sem_proc,pC,c6,l6,oj,p8,pW,Ib,gj,gv,k5,cm,hlen,kJ,fk,d1,eN,cb,g7,tn,VH,apR,Li,VY,apS,apT,bL,dZ,al,bm];refine adH (ud.RB eO (gs ar) _ (1+c3) 228048 (gk (m 228048)) 4 0 1 _ lH km (adF tn |>.trans (by rw[Y rfl])) ((c5 (by omega)).trans km) (by show (228048:Nat)≠eO;omega) (by show lH≠(228048:Nat);omega) (by show lH≠eO;omega)) ?_;intro M2 fU;rw[adG tn] at fU
   have QH:M2 228009=some (gk (m 228009),[.H (.int .i64 ar),.H (.int .i64 c2),.H (.int .i64 c3),.H (.int .i64 c4)]):=by
    rw[fU];simp only[DD,cz,cY,apU,if_false,if_true]
   have Ic:∃sH,M2 eO=some (gs ar,jd (cash.getD ar 0) (λk=>if k=c3 then .ref lH sH 4 0 ((dx l ar c3).length+1) else pt l ft ar k) (λk=>bT l ar (k:Nat)) 10 false)/\M2 lH=some (sH,aU bL (dx l ar c3++[((ar:Int),c2,(c3:Int),c4)])):=by
    rw[jv];apply Exists.intro;apply And.intro
    rotate_left
    ·rw[fU];simp only[DD,p1,if_false,if_true];rfl
    ·rw[fU];simp only[DD,if_true]
     congr 2
     refine C8 (λk _=>?_) λ_ _=>rfl
     by_cases I:k=c3
     ·rw[Y I,Y I];rfl
     ·rw[aa I,aa I,aa I]
   obtain⟨sH,Ic,QG⟩:=Ic
   have nR:∀k:Nat,k≠228009->k≠228048->k≠eO->k≠lH->M2 k=m k:=λk F G ab aV=>by
    rw[fU];simp only[DD,F,G,ab,aV,if_false]
   clear fU;simp only[go_sem,go_sem_proc,QH,w1,cz];refine apM T M2 eO (gs ar) (gk (m 228009)) (cash.getD ar 0) (λk=>if k=c3 then .ref lH sH 4 0 ((dx l ar c3).length+1) else pt l ft ar k) (λk=>bT l ar (k:Nat)) ar c2 c3 c4 tn Hc (by omega) (by omega) (.ref 228023 g 1 0 (D cash)) Fu (.H (.int .i64 (D cs))) (.H (.int .i64 t)) _ _ ?_ ?_ ?_ ?_ ?_ ?_ ?_ QH Ic (λ_ _=>rfl) ?_
   all_goals first|(intro tm' m' jb Lu Lv Lw adK C9)|(simp only[dC,cE,if_false,if_true,c6,l6,oj,p8];done)
   have jT:=tail tm' m' sH 0 jb Lu Lv Lw adK (by rw[C9 lH (by omega)];exact QG) λk F G ab aV=>by rw[C9 k ab];exact nR k F G ab aV
   refine ai ?_;repeat' (intro h<;>simp only[h,go_sem,go_sem_proc,jb,Lu,Lv,Lw,bF]<;>try refine ag ?_ ?_)
   exact⟨(t+1,λi k=>if i=ar/\k=c3 then sH else ft i k),by dsimp only;omega,by dsimp only;omega,rfl,jT.1,jT.2⟩
  ·have fD:pt l ft ar c3=.ref lH (ft ar c3) 4 0 (dx l ar c3).length:=by unfold pt;rw[aa jv,V0]
   rw[fD] at kJ;have VZ:=bH.Ia ar c3 g7 tn jv;rw[V0] at VZ;have ew:(dx l ar c3).length<=12:=eR (p2 _ _) x1;have c9:=kx p3 U0 lH (ft ar c3) 32 (dx l ar c3) ((ar:Int),c2,(c3:Int),c4) (cs:=[.H (.int .i64 ar),.H (.int .i64 c2),.H (.int .i64 c3),.H (.int .i64 c4)]) rfl (by omega) (by omega);have anY:(lH==228009)=false:=beq_eq_false_iff_ne.2 (by omega);have aF5:(228009==lH)=false:=beq_eq_false_iff_ne.2 (by omega);have aF6:(lH==eO)=false:=beq_eq_false_iff_ne.2 (by omega);have aF7:(eO==lH)=false:=beq_eq_false_iff_ne.2 (by omega);simp only[go_sem,go_sem_proc,pC,c6,l6,oj,p8,pW,Ib,gj,gv,k5,cm,hlen,kJ,fk,d1,eN,cb,g7,tn,VH,apR,Li,VY,apS,apT,eA,p1,u7,anW,aF4,anY,aF5,aF6,aF7,VZ,c9,bL,dZ,al,bm];refine adI ?_;intro M2 fU
   have QH:M2 228009=some (gk (m 228009),[.H (.int .i64 ar),.H (.int .i64 c2),.H (.int .i64 c3),.H (.int .i64 c4)]):=by
    rw[fU];simp only[DD,cz,cY,apU,if_false,if_true]
   have Ic:M2 eO=some (gs ar,jd (cash.getD ar 0) (λk=>if k=c3 then .ref lH (ft ar c3+1) 4 0 ((dx l ar c3).length+1) else pt l ft ar k) (λk=>bT l ar (k:Nat)) 10 false):=by
    rw[fU];simp only[DD,if_true]
   have QG:M2 lH=some (ft ar c3+1,aU bL (dx l ar c3++[((ar:Int),c2,(c3:Int),c4)])):=by
    rw[fU];simp only[DD,p1,if_false,if_true]
   have nR:∀k:Nat,k≠228009->k≠228048->k≠eO->k≠lH->M2 k=m k:=λk F G ab aV=>by
    rw[fU];simp only[DD,F,ab,aV,if_false]
   clear fU;simp only[go_sem,go_sem_proc,QH,w1,cz];refine apM T M2 eO (gs ar) (gk (m 228009)) (cash.getD ar 0) (λk=>if k=c3 then .ref lH (ft ar c3+1) 4 0 ((dx l ar c3).length+1) else pt l ft ar k) (λk=>bT l ar (k:Nat)) ar c2 c3 c4 tn Hc (by omega) (by omega) (.ref 228023 g 1 0 (D cash)) Fu (.H (.int .i64 (D cs))) (.H (.int .i64 t)) _ _ ?_ ?_ ?_ ?_ ?_ ?_ ?_ QH Ic (λ_ _=>rfl) ?_
   all_goals first|(intro tm' m' jb Lu Lv Lw adK C9)|(simp only[dC,cE,if_false,if_true,c6,l6,oj,p8];done)
   have jT:=tail tm' m' (ft ar c3+1) 0 jb Lu Lv Lw adK (by rw[C9 lH (by omega)];exact QG) λk F G ab aV=>by rw[C9 k ab];exact nR k F G ab aV
   refine ai ?_;repeat' (intro h<;>simp only[h,go_sem,go_sem_proc,jb,Lu,Lv,Lw,bF]<;>try refine ag ?_ ?_)
   exact⟨(t+1,λi k=>if i=ar/\k=c3 then ft ar c3+1 else ft i k),by dsimp only;omega,by dsimp only;omega,rfl,jT.1,jT.2⟩
 ·have d1:decide ((t:Int)<(D cs:Int))=false:=b7;rw[dD (by omega)] at bH;refine ai ?_;repeat' (intro h<;>simp only[h,go_sem,go_sem_proc,c6,l6,oj,p8,d1]<;>try refine ag ?_ ?_)
  refine db _ _ ft ?_ bH bg;simp only[dC,cE,if_false,c6]
def vl.trans {a b c:Mem}(h:vl a b)(cn:vl b c):vl a c:=by
 induction h with
 |refl=>exact cn
 |step F _ aG=>exact .step F (aG cn)
def apV {K:bc->Prop}{tm:Nat->M}{mem mem':Mem}(h:vl mem mem')(db:K ⟨tm,mem'⟩):lp K ⟨tm,mem⟩ .many:=⟨mem',h,db⟩
def yb (l:List aB)(ft:Nat->Nat->Nat)(d i k:Nat):M:=if 10*i+k<d then lj (dx l i k) else pt l ft i k
structure zC (cash:List Int) (l:List aB) (g:Nat) (gs:Nat->Nat) (ft:Nat->Nat->Nat) (d:Nat) (m:Mem):Prop where
 row:m 228023=some (g,bA (D cash) λi => .ptr (228500+i) (gs i) 0)
 dU:∀i,i<(D cash)->m (228500+i)=some (gs i,jd (cash.getD i 0) (yb l ft d i) (λk=>bT l i (k:Nat)) 10 false)
 Ia:∀i k,i<(D cash)->k<10->d<=10*i+k->dx l i k≠[]->m (228600+10*i+k)=some (ft i k,aU bL (dx l i k))
def zC.step {cash:List Int}{l:List aB}{g:Nat}{gs:Nat->Nat}{ft:Nat->Nat->Nat}{d:Nat}{m:Mem}(h:zC cash l g gs ft d m)(aL:(D cash)<=6)(Z:d<10*D cash):∃m',vl m m'/\zC cash l g gs ft (d+1) m'/\df 228 m m':=by
 obtain⟨i,k,O,I,rfl⟩:∃i k,i<D cash/\k<10/\d=10*i+k:=⟨d/10,d%10,by omega,by omega,by omega⟩
 have adL:∀j r,j<(D cash)->r<10->¬ (j=i/\r=k)->yb l ft (10*i+k+1) j r=yb l ft (10*i+k) j r:=λj r ae X b8=>by
  unfold yb
  by_cases F:10*j+r<10*i+k
  ·rw[Y F,Y (by omega)]
  ·rw[aa F,aa (by omega)]
 by_cases J:dx l i k=[]
 ·refine⟨m,.refl m,⟨h.row,λj ae=>?_,λj r ae X Z b8=>h.Ia j r ae X (by omega) b8⟩,df.refl _ _⟩;rw[h.dU j ae]
  congr 2
  refine C8 (λr X=>?_) λ_ _=>rfl
  by_cases PJ:j=i/\r=k
  ·obtain⟨rfl,rfl⟩:=PJ;unfold yb;rw[aa (by omega),Y (by omega)];unfold pt lj;rw[Y J,Y J]
  ·exact (adL j r ae X PJ).symm
 ·have ad:=h.dU i O;have ew:=h.Ia i k O I (cl _) J
  have GR:yb l ft (10*i+k) i k=.ref (228600+10*i+k) (ft i k) 4 0 (dx l i k).length:=by
   unfold yb;rw[aa (by omega)];unfold pt;rw[aa J]
  have m2:=adF (c:=cash.getD i 0) (q:=yb l ft (10*i+k) i) (us:=λk=>bT l i (k:Nat)) (f:=10) (p:=false) I;rw[GR] at m2;have xm:cV 1 m (.ref (228600+10*i+k) (ft i k) 4 0 (dx l i k).length)=some (.ax ((dx l i k).map bL)):=k6 (n:=0) p3 ew;refine⟨_,.step (ud.RC (228500+i) (gs i) _ (1+k) (228600+10*i+k) (ft i k) 4 0 (dx l i k).length _ (.ax ((dx l i k).map bL)) ad m2 ew (by show (228600+10*i+k:Nat)≠228500+i;omega) xm) (.refl _),⟨?_,λj ae=>?_,λj r ae X Z b8=>?_⟩,λx L=>?_⟩
  ·rw[c5 (by show (228023:Nat)≠228500+i;omega)];unfold kill;rw[c5 (by show (228023:Nat)≠228600+10*i+k;omega)];exact h.row
  ·by_cases jR:j=i
   ·subst jR;rw[km,adG I]
    congr 2
    refine C8 (λr X=>?_) λ_ _=>rfl
    by_cases iH:r=k
    ·subst iH;rw[Y rfl];unfold yb;rw[Y (by omega)];unfold lj;rw[aa J]
    ·rw[aa iH];exact (adL j r ae X (by omega)).symm
   ·rw[c5 (by show (228500+j:Nat)≠228500+i;omega)];unfold kill;rw[c5 (by show (228500+j:Nat)≠228600+10*i+k;omega),h.dU j ae]
    congr 2
    refine C8 (λr X=>(adL j r ae X (by omega)).symm) λ_ _=>rfl
  ·rw[c5 (by show (228600+10*j+r:Nat)≠228500+i;omega)];unfold kill;rw[c5 (by show (228600+10*j+r:Nat)≠228600+10*i+k;omega)];exact h.Ia j r ae X (by omega) b8
  ·have r4:x/1000≠228:=L;rw[c5 (by show x≠228500+i;omega)];unfold kill;rw[c5 (by show x≠228600+10*i+k;omega)]
def zC.all {cash:List Int}{l:List aB}{g:Nat}{gs:Nat->Nat}{ft:Nat->Nat->Nat}(aL:(D cash)<=6):∀r d m,d+r=10*(D cash)->zC cash l g gs ft d m->∃m',vl m m'/\zC cash l g gs ft (10*D cash) m'/\df 228 m m'
 |0,d,m,Z,h=>⟨m,.refl m,by rw[<-Z];exact h,df.refl _ _⟩
 |r+1,d,m,Z,h=>by
  obtain⟨dg,F,G,ab⟩:=h.step aL (by omega);obtain⟨bU,cy,dw,dW⟩:=zC.all aL r (d+1) dg (by omega) G;exact⟨bU,F.trans cy,dw,λx L=>(dW x L).trans (ab x L)⟩
def Bb.aF8 {cash:List Int}{l:List aB}{g:Nat}{gs:Nat->Nat}{ft:Nat->Nat->Nat}{m:Mem}(h:Bb cash l g gs ft m):zC cash l g gs ft 0 m :=
 ⟨h.row,λi O=>by
  rw[h.dU i O]
  congr 2,λi k O I _ b8=>h.Ia i k O I b8⟩
def Bc (cash:List Int)(cs:List aB)(g:Nat)(gs:Nat->Nat):dt:=⟨cash,dR (D cash) cs,bA (D cash) λ_=>10,fI (D cash) λ_=>false,g,bA (D cash) gs⟩
def aF9 {cash:List Int}{cs:List aB}(h:fX cash cs)(i r:Nat):bT (dR (D cash) cs) i r=bT cs i r:=by
 have F:=qS h.right i r;have G:=qS (acG h).right i r;rw[<-(anG h.right).U,<-F] at G;exact_mod_cast G
def Fv {α:Type}{n i:Nat}(q:Nat->α)(d:α)(h:i<n):(bA n q).getD i d=q i:=by
 rw[eD,ki q h];rfl
def zC.at {cash:List Int}{cs:List aB}(R:fX cash cs){g:Nat}{gs:Nat->Nat}{ft:Nat->Nat->Nat}{m:Mem}(h:zC cash cs g gs ft (10*D cash) m):(Bc cash cs g gs).fj m:=by
 refine⟨(aDi _ _).symm,gB _ _,tP _ _,gB _ _,?_,λi O=>?_⟩
 ·refine h.row.trans ?_
  congr 2
  exact jW λi O=>by
   show M.ptr (228500+i) (gs i) 0=M.ptr (228500+i) ((bA (D cash) gs).getD i 0) 0;rw[Fv gs 0 O]
 ·have mD:i<D cash:=O;refine (h.dU i mD).trans ?_;have au:(Bc cash cs g gs).gs.getD i 0=gs i:=Fv gs 0 mD;rw[au]
  congr 2
  have aC:(bA (D cash) λ_=>(10:Int)).getD i 10=10:=Fv _ _ mD;have bN:(fI (D cash) λ_=>false).getD i false=false:=by rw[eD,Fh _ mD];rfl
  have bK:gi ((Bc cash cs g gs).hh i)=dS (cash.getD i 0)::((bA 10 λk=>dx (dR (D cash) cs) i k).map lj++((bA 11 λk=>bT (dR (D cash) cs) i (k:Nat)).map dS++[dS ((bA (D cash) λ_=>(10:Int)).getD i 10),iJ ((fI (D cash) λ_=>false).getD i false)])):=rfl;rw[bK,aC,bN];unfold jd
  have c6:(bA 10 λk=>dx (dR (D cash) cs) i k).map lj=bA 10 (yb cs ft (10*D cash) i):=by
   unfold bA;rw[pJ];refine ox λk I=>?_;have akP:=ig.1 I;show lj (dx (dR (D cash) cs) i k)=yb cs ft (10*D cash) i k;rw[anC cs mD akP];unfold yb;rw[Y (by omega)]
  have bt:(bA 11 λk=>bT (dR (D cash) cs) i (k:Nat))=bA 11 λk=>bT cs i (k:Nat):=jW λk _=>aF9 R i k;rw[c6,bt]
def apW {α:Type}(n:Nat)(q:Nat->α):bA (n+1) q=bA n q++[q n]:=by
 unfold bA;rw[rM,kE];rfl
structure adM (x:List Int×List aB×M) (mem:Mem):Prop where
 wF:fX x.1 x.2.1
 no:kh 228 mem
 rd:tW x.2.2 x.2.1 mem
def adN (x:List Int×List aB×M)(mem:Mem):M->Mem->Prop:=λm mem'=>∃g gs,m=.ref 228023 g 1 0 x.1.length/\(Bc x.1 x.2.1 g gs).fj mem'/\df 228 mem mem'
def V1:List M->Mem->Option (M->Mem->Prop):=AE (λ(x:List Int×List aB×M) args mem=>args=[.H (.ax (x.1.map aI)),x.2.2]/\adM x mem) adN
def aGa (cash:List Int)(cs:List aB)(v:M)(mem:Mem)(h:adM (cash,cs,v) mem):V1 [.H (.ax (cash.map aI)),v] mem=some (adN (cash,cs,v) mem):=by
 refine acP (a:=(cash,cs,v)) ?_ ⟨rfl,h⟩;rintro⟨a,b,w⟩ ⟨c,d,aX⟩ args mem ⟨au,cy⟩ ⟨bN,dW⟩;rw[au] at bN;simp only[bj,M.H.injEq,Data.ax.injEq,and_true] at bN;obtain⟨F,G⟩:=bN
 try dsimp only at F G
 subst G;obtain rfl:b=d:=cy.rd.uniq dW.rd;rw[map_inj gq _ _ F]
def apX (_:Nat):M:=.nil
def apY (_:Nat):Int:=0
def aGb (T:ba)(cash:List Int)(cs:List aB)(v:M)(mem:Mem)(aZ:adM (cash,cs,v) mem):
  wp T Et.body (oJ Et.res (adN (cash,cs,v) mem)) ⟨kq [.H (.ax (cash.map aI)),v],mem⟩:=by
 obtain⟨R,gl,kT⟩:=aZ;dsimp only at R kT;have j3:=kT.len;simp only[go_sem,go_sem_proc] at j3;have aL:=R.jV;have aGc:mem 228023=none:=gl 228023 (by decide);refine ra ?_;simp only[Et];simp only[go_sem,go_sem_proc,aGc,al]
 refine dd [1,12,13] [] (λ((i,g,gs):Nat×Nat×(Nat->Nat)) tm m=>i<=D cash/\tm 14=.H (.int .i64 i)/\tm 5=.ref 228023 g 1 0 i/\m 228023=some (g,bA i λj => .ptr (228500+j) (gs j) 0)/\(∀j,j<i->m (228500+j)=some (gs j,jd (cash.getD j 0) apX apY 10 false))/\df 228 mem m) (λ(i,_)=>D cash-i) (0,0,λ_=>0) (by
  refine⟨by omega,rfl,rfl,by simp[a5];rfl,λj ae=>by omega,(df.refl _ _).dK (by decide)⟩) ?_
 intro vs ms aQ aM;simp only[go_sem,go_sem_proc] at aQ aM;subst aQ aM;rintro⟨i,g,gs⟩ tm m I-⟨O,AG,c6,gj,gv,bg⟩;simp only[go_sem,go_sem_proc,bj] at I;obtain⟨au,gf,ij⟩:=I;rcases dn (i<D cash) with ah|bW
 ·have d1:decide ((i:Int)<(D cash:Int))=true:=cX;have bF:=eI (i:=i) (by omega);obtain⟨y,aj⟩:∃y,cash[i]?=some y:=⟨_,bh ah⟩;have v7:cash.getD i 0=y:=by rw[eD,aj];rfl
  have cm:(bA i λj=>M.ptr (228500+j) (gs j) 0).length=i:=gB _ _;have hb:gT i (bA i λj=>M.ptr (228500+j) (gs j) 0)=bA i λj=>M.ptr (228500+j) (gs j) 0:=dD (by omega);have eN:((i+1)*8<=140737488355328)=True:=eq_true (by omega);have aw:(i+1<=maxLen)=True:=eq_true (by unfold maxLen;omega);have cb:(i<=i)=True:=eq_true (cl _)
  have c9:lL 228023 g 1 i 8 1 [.ptr 228021 (gk (m 228021)) 0] (some (g,bA i λj=>M.ptr (228500+j) (gs j) 0))=some (.ref 228023 (g+1) 1 0 (i+1),some (228023,g+1,(bA i λj=>M.ptr (228500+j) (gs j) 0)++[.ptr 228021 (gk (m 228021)) 0])):=by
   unfold lL;dsimp only;rw[Y ⟨rfl,by rw[gB];omega,by omega,by unfold maxLen;omega,rfl⟩,dZ,hb]
  generalize Lp:(bA i λj=>M.ptr (228500+j) (gs j) 0)=zz at *;simp only[go_sem,go_sem_proc,au,c6,gf,ij,AG,gj,aj,cm,c9,d1,aI,dZ,al,bm]
  have CF:(zz++[M.ptr 228021 (gk (m 228021)) 0])[i]?=some (.ptr 228021 (gk (m 228021)) 0):=by
   rw[ov (by omega),cm];simp
  have cz:(228021=228022)=False:=eq_false (by decide);refine adH (ud.aeX 228023 (g+1) _ i 228021 (gk (m 228021)) 0 _ (228500+i) km CF ((c5 (by decide)).trans ((c5 (by decide)).trans km)) (by decide) (by show (228500+i:Nat)≠228021;omega) (by show (228500+i:Nat)≠228023;omega)) ?_;intro M2 fU
  have lC:∀p,(zz++[M.ptr 228021 (gk (m 228021)) 0]).set i p=zz++[p]:=λp=>by
   rw[y1 _ _ (by omega),cm,j0];rfl
  rw[lC] at fU
  obtain⟨Lx,apZ,aGd⟩:∃Lx,M2 228023=some (g+1,zz++[.ptr (228500+i) Lx 0])/\M2 (228500+i)=some (Lx,jd y apX apY 10 false):=by
   apply Exists.intro;apply And.intro
   rotate_left
   ·rw[fU,c5 (by show (228500+i:Nat)≠228023;omega),km];rfl
   ·rw[fU,km]
  have nR:∀k:Nat,k≠228021->k≠228022->k≠228023->k≠228500+i->M2 k=m k:=λk F G ab aV=>by
   rw[fU,c5 ab,c5 aV,c5 F,c5 ab,c5 G,c5 F]
  clear fU
  have hC:zz++[M.ptr (228500+i) Lx 0]=bA (i+1) λj => .ptr (228500+j) (if j=i then Lx else gs j) 0:=by
   rw[apW,Y rfl,<-Lp]
   congr 1
   exact jW λj ae=>by rw[aa (by omega)]
  rw[hC] at apZ;refine ai ?_;repeat' (intro h<;>simp only[h,go_sem,go_sem_proc,au,gf,ij,AG,bF]<;>try refine ag ?_ ?_)
  refine⟨(i+1,g+1,λj=>if j=i then Lx else gs j),by dsimp only;omega,by dsimp only;omega,rfl,rfl,apZ,λj ae=>?_,λk I=>?_⟩
  ·by_cases jR:j=i
   ·subst jR;dsimp only;rw[Y rfl,aGd,v7]
   ·dsimp only;rw[aa jR,nR (228500+j) (by omega) (by omega) (by omega) (by omega)];exact gv j (by dsimp only at ae;omega)
  ·rw[nR k (by omega) (by omega) (by omega) (by omega)];exact bg k I
 ·have d1:decide ((i:Int)<(D cash:Int))=false:=b7;obtain rfl:i=D cash:=by omega
  simp only[go_sem,go_sem_proc,au,c6,gf,ij,AG,d1,j3,al];refine aF2 T mem cash cs R g gs (λ_ _=>0) _ _ ?_ v kT ?_ ?_ ?_ ⟨gj,λj ae=>?_,λj k ae I b8=>absurd rfl b8⟩ bg ?_
  all_goals first|(intro tm' m' ft jb bH zA)|(simp only[dC,cE,if_false,if_true,au,c6];done)|skip
  ·rw[gv j ae]
   congr 2
  obtain⟨bU,F,G,ab⟩:=zC.all aL (10*D cash) 0 m' (by omega) bH.aF8;simp only[go_sem,go_sem_proc];refine apV F ?_;refine ai ?_;repeat' (intro h<;>simp only[h,go_sem,go_sem_proc,jb]<;>try refine ag ?_ ?_)
  exact⟨_,rfl,g,gs,rfl,G.at R,λk I=>(ab k I).trans (zA k I)⟩
def ap0:bJ:=b5 40 1 [.t 2,.t 3] (Q [c0 1 341001 0,dO 2,a7 3 0] (.seq (Q [aS 9 5 1,dv 10 B4 9,fb 11 10] (b4 11 [dO 2,a7 3 1])) (ed [aD 13 0 1,aA 14 1 13,aS 15 5 1,aP 16 (.call GH [.t 15,.c (.H (.int .i64 (-1)))]),bI 17 Gw 14 16,E 12 17,a0 18 0 12,a0 19 1 12,bQ 4 341004 sd,aT 3 4 18,E 5 19] [[],[],[],[],[],[],[],[],[1,2],[],[]] (.seq (Q [E 20 5,a3 21 .neq 20 0] (b4 21 [E 22 5,dO 2,E 3 22])) (Q [dO 6] (.seq (Q [aD 23 2 1,aA 24 1 23,cq 25 24,a7 26 0] (.block 0 (.ghost (.nq 6 341037 4) (.loop  (Q [bp 27 .lss 26 25] (.seq (dq 27 0) (.seq (.block 1 (Q [br 28 1 24 26,aA 29 1 28,E 8 29] (.ops [E 30 6,aD 31 1 4,aA 32 1 31,E 33 8,br 34 4 32 33,aS 35 4 34,aP 36 (.eW 341036 false cG 4 1 [(0,4,.t 35)]),aP 37 (.app 341037 cG 64 (.t 30) (.t 36)),E 6 37]))) (.ops [a3 38 .add 26 1,E 26 38])))))))) (.seq (.ghost (.freeze 6) (.ops [E 39 6,E 2 39,a7 3 0])) .ret)))))))
def ap1:bJ:=b5 44 2 [.cell 4 4 true,.t 5] (Q [c0 2 343002 0,bQ 4 343004 cG,a7 5 0] (.seq (.block 0 (Q [aS 9 5 2,dv 10 B4 9,fb 11 10,E 8 11] (e8 8 (Q [aP 12 (.build cG []),aT 4 4 12,a7 5 1] .ret) (Q [E 14 1,aD 15 2 2,aA 16 1 15,cq 17 16,a3 18 .sub 17 1,aP 19 (.call uD [.t 14,.c (bM 0),.t 18]),fb 20 19,E 13 20] (b4 13 [aP 21 (.build cG []),aT 4 4 21,a7 5 4]))))) (ed [aD 23 0 2,aA 24 1 23,aS 25 5 2,E 26 1,bI 27 GH 25 26,bI 28 Gw 24 27,E 22 28,a0 29 0 22,a0 30 1 22,bQ 6 343006 sd,aT 3 6 29,E 7 30] [[],[],[],[],[],[],[],[],[],[1,2],[],[]] (.seq (Q [E 31 7,a3 32 .neq 31 0] (b4 32 [aP 33 (.build cG []),E 34 7,aT 4 4 33,E 5 34])) (ed [aD 35 1 6,aA 36 1 35,aD 37 2 2,aA 38 1 37,E 39 1,br 40 1 38 39,aA 41 1 40,br 42 4 36 41,aS 43 4 42,aT 4 4 43,a7 5 0] Aa .ret)))))
def ap2:bJ:=b5 85 1 [.t 2] (Q [c0 1 346001 0,cx 2 false] (.seq (Q [aD 6 0 1,aA 7 1 6,aD 8 1 1,aA 9 1 8,bI 10 Zb 7 9,fb 11 10,E 12 11,ez 13 12 2 1,dG 14 12 1 13,pN 15 12 14,fc 16 12 .eql 15 0,cv 17 12 16,E 18 17,ez 19 18 3 1,dG 20 18 1 19,e3 21 18 (.call uD [.t 20,.c (bM 0),.c (bM 10000)]),ha 22 18 21,cv 23 18 22,E 24 23,ez 25 24 4 1,dG 26 24 1 25,e3 27 24 (.call uD [.t 26,.c (bM 0),.c (bM 9)]),ha 28 24 27,cv 29 24 28] (b4 29 [cx 2 false])) (.seq (Q [aD 30 2 1,aA 31 1 30,cq 32 31,a7 33 0] (dY 0 (Q [bp 34 .lss 33 32] (.seq (dq 34 0) (.seq (.block 1 (Q [E 35 33,br 36 1 31 33,aA 37 1 36,E 3 35,E 4 37] (.seq (Q [E 38 4,aD 39 1 1,aA 40 1 39,cq 41 40,a3 42 .sub 41 1,aP 43 (.call uD [.t 38,.c (bM 0),.t 42]),fb 44 43,E 45 44,fr 46 45 3,fc 47 45 .gtr 46 0,fr 48 45 47,eg 49 48 4,n4 50 48 2 1,j4 51 48 1 50,eg 52 48 3,k7 53 48 .sub 52 1,rn 54 48 1 51 53,j4 55 48 1 54,uF 56 48 .leq 49 55,e3 57 45 (.pick (.t 48) (.t 56) (.c (.H (.bool false)))),cv 58 45 57] (b4 58 [cx 2 false])) (Q [aD 59 1 1,aA 60 1 59,E 61 4,br 62 4 60 61,aS 63 4 62,bQ 5 346005 lS,aT 4 5 63] (ed [aD 64 0 5,aA 65 1 64,aD 66 1 1,aA 67 1 66,aD 68 2 1,aA 69 1 68,aP 70 (.q2 1 (.t 69) (.c (bM 0))),aA 71 1 70,br 72 4 67 71,aD 73 0 72,aA 74 1 73,bp 75 .neq 65 74,E 76 75,iR 77 76 5 1,iR 78 76 4 5,e3 79 76 (.call NQ [.t 77,.t 78]),e3 80 76 (.Dq 3 1 false (.t 79)),e3 81 76 (.call uD [.t 80,.c (bM 0),.c (bM 1000000000000000)]),ha 82 76 81,cv 83 76 82] avV (b4 83 [cx 2 false])))))) (.ops [a3 84 .add 33 1,E 33 84])))))) (Q [cx 2 true] .ret))))
def ap3:bJ:=b5 48 2 [.t 4,.cell 5 4 true,.t 6] (Q [c0 2 348002 0,cx 4 false,bQ 5 348005 cG,a7 6 0] (Q [aS 12 5 2,E 13 1,bI 14 GC 12 13,E 11 14,a0 15 0 11,a0 16 1 11,bQ 7 348007 cG,aT 4 7 15,E 8 16] (.seq (Q [E 17 8,a3 18 .neq 17 0] (b4 18 [aP 19 (.build cG []),E 20 8,cx 4 false,aT 4 5 19,E 6 20])) (Q [aS 22 5 2,dv 23 B3 22,E 21 23,a0 24 0 21,a0 25 1 21,E 9 24,E 8 25] (.seq (Q [E 26 8,a3 27 .neq 26 0] (b4 27 [aP 28 (.build cG []),E 29 8,cx 4 false,aT 4 5 28,E 6 29])) (ed [aS 31 4 7,E 32 9,E 33 1,br 34 4 32 33,aS 35 4 34,bI 36 xb 31 35,E 30 36,a0 37 0 30,a0 38 1 30,bQ 10 348010 cG,aT 4 10 37,E 8 38] [[],[],[],[],[],[],[],[],[],[0,4],[],[]] (.seq (Q [E 39 8,a3 40 .neq 39 0] (b4 40 [aP 41 (.build cG []),E 42 8,cx 4 false,aT 4 5 41,E 6 42])) (ed [aD 43 0 10,aD 44 0 43,aA 45 1 44,a3 46 .gtr 45 0,aS 47 4 10,E 4 46,aT 4 5 47,a7 6 0] Zg .ret))))))))
def ap4:bJ:=b5 72 2 [.t 4,.t 5] (Q [c0 2 350002 0,a7 4 0,a7 5 0] (Q [aS 14 5 2,E 15 1,bI 16 GF 14 15,E 13 16,a0 17 0 13,a0 18 1 13,a0 19 2 13,bQ 7 350007 cG,E 6 17,aT 4 7 18,E 8 19] (.seq (Q [E 20 8,a3 21 .neq 20 0,E 22 21,fr 23 22 6,ha 24 22 23,cv 25 22 24] (b4 25 [E 26 8,a7 4 0,E 5 26])) (Q [aS 28 5 2,dv 29 B3 28,E 27 29,a0 30 0 27,a0 31 1 27,E 9 30,E 10 31] (Q [aS 32 5 2,E 33 1,aP 34 (.nT 350034 4 GH [.t 32,.t 33]),E 11 34] (ed [E 35 11,aD 36 2 2,aA 37 1 36,E 38 1,br 39 1 37 38,aA 40 1 39,aD 41 4 2,aA 42 1 41,br 43 4 35 40,aD 44 2 43,aT 1 44 42] Aa (.seq (.ghost (.freeze 11) (.ops [aD 46 0 2,aA 47 1 46,E 48 11,bI 49 Gw 47 48,E 45 49,a0 50 0 45,a0 51 1 45,bQ 12 350012 sd,aT 3 12 50,E 8 51])) (.seq (.block 0 (Q [E 53 8,a3 54 .neq 53 0,E 52 54] (e8 52 (Q [E 55 8,a7 4 0,E 5 55] .ret) (ed [aD 57 1 12,aA 58 1 57,aD 59 2 2,aA 60 1 59,E 61 1,br 62 1 60 61,aA 63 1 62,br 64 4 58 63,aS 65 4 64,E 66 9,E 67 1,br 68 4 66 67,aS 69 4 68,bI 70 sa 65 69,a3 71 .leq 70 0,E 56 71] DY (b4 56 [a7 4 1,a7 5 0]))))) (Q [a7 4 2,a7 5 0] .ret)))))))))
def ap5:bJ:=b5 33 2 [.t 4] (Q [c0 2 354002 0,dO 4] (Q [aD 8 1 2,aA 9 1 8,aP 10 (.nT 354010 4 Zd [.t 9]),E 5 10] (.seq (Q [aD 11 2 2,aA 12 1 11,cq 13 12,a7 14 0] (dY 0 (Q [bp 15 .lss 14 13] (.seq (dq 15 0) (.seq (.block 1 (Q [E 16 14,br 17 1 12 14,aA 18 1 17,E 6 16,E 7 18] (Q [E 19 6,E 20 1,bp 21 .neq 19 20] (e8 21 (.l9 [E 22 5,E 23 7,aS 24 5 2,E 25 5,E 26 7,br 27 4 25 26,aS 28 4 27,bI 29 NQ 24 28,br 30 4 22 23,aT 4 30 29] Jy) .skip)))) (.ops [a3 31 .add 14 1,E 14 31])))))) (Q [E 32 5,E 4 32] .ret))))
def ap6:bJ:=b5 15 3 [.t 6] (Q [cx 6 false] (Q [E 7 1,E 8 0,bp 9 .leq 7 8,E 10 9,eg 11 10 0,eg 12 10 2,uF 13 10 .leq 11 12,gr 14 10 13,E 6 14] .ret))
def ap7:bJ:=b5 30 2 [.t 4] (Q [cx 4 false] (Q [E 8 0,cq 9 8,aP 5 (.alloc 356005 [bM 0]),aT 1 5 9] (Q [aP 6 (.alloc 356006 [.H .wQ]),⟨none,none,.store 1 (.t 6) (.c (.gH yD []))⟩] (Q [aP 10 (.wT GI [.t 5,.t 6]),E 7 10] (Q [aA 11 1 5,a3 12 .leq 11 60,E 13 12,eg 14 13 1,NS 15 13 14,k7 16 13 .leq 15 2000,gr 17 13 16,E 18 17,eg 19 18 0,j4 20 18 1 6,h0 21 18 (.call NF [.t 19,.t 20]),B6 22 18 21,gr 23 18 22,E 24 23,eg 25 24 1,eg 26 24 7,h0 27 24 (.call NG [.t 25,.t 26]),B6 28 24 27,gr 29 24 28,E 4 29] .ret)))))
def ap8:bJ:=b5 24 2 [.cell 4 4 true] (Q [c0 2 357002 0,c0 3 357003 1,bQ 4 357004 lS] (ed [aD 5 4 2,aA 6 1 5,aD 7 3 3,aA 8 1 7,a3 9 .quo 8 1000,aD 10 3 2,aA 11 1 10,bp 12 .mul 9 11,aD 13 3 3,aA 14 1 13,a3 15 .rem 14 1000,aD 16 3 2,aA 17 1 16,bp 18 .mul 15 17,a3 19 .quo 18 1000,bp 20 .add 12 19,aD 21 2 3,aT 1 21 6,aD 22 3 3,aT 1 22 20] [[],[],[],[],[],[],[],[],[],[],[],[],[],[],[],[],[],[6,12],[],[]] (Q [aS 23 4 3,aT 4 4 23] .ret)))
def ap9:bJ:=b5 6 1 [.t 2] (Q [cx 2 false] (Q [E 3 0,aP 4 (.call uD [.t 3,.c (bM 0),.c (bM 1000000000000000)]),fb 5 4,E 2 5] .ret))
def aqa:bJ:=b5 31 3 [.t 4] (Q [c0 3 362003 0,cx 4 false] (Q [aD 5 0 3,aA 6 1 5,aA 7 1 1,a3 8 .sub 7 1,aP 9 (.call uD [.t 6,.c (bM 0),.t 8]),fb 10 9,E 11 10,ez 12 11 1 3,dG 13 11 1 12,dG 14 11 1 1,fc 15 11 .sub 14 1,e3 16 11 (.call uD [.t 13,.c (.H (.int .i64 (-1))),.t 15]),ha 17 11 16,cv 18 11 17,E 19 18,ez 20 19 2 3,dG 21 19 1 20,e3 22 19 (.call uD [.t 21,.c (bM 0),.c (bM 9)]),ha 23 19 22,cv 24 19 23,E 25 24,dG 26 25 1 2,ez 27 25 3 3,dG 28 25 1 27,e3 29 25 (.nn (.t 26) [.t 28]),cv 30 25 29,E 4 30] .ret))
def Ie (l:List Int):List Data:=[.ax (l.map aI)]
def aGe:∀a b:List Int,Ie a=Ie b->a=b:=by
 intro a b h;simp only[Ie,bj,Data.ax.injEq,and_true] at h;exact map_inj gq _ _ h
def aGf (a:List (List Int)):Prop:=D a<=1000000/\∀l∈a,D l<=1000000
def adO {α:Type}:List aB->List α->Int->List α
 |c::cs,p::cO,cK=>if c.1==cK then p::adO cs cO cK else adO cs cO cK
 |_,_,_=>[]
def V3 (l:List aB)(q:Nat->Rat):Nat->Int
 |0=>10
 |k+1=>match l[k]? with
  |some c=>if q k<(c.2.2.2:Rat) then min (V3 l q k) c.2.2.1 else V3 l q k
  |none=>V3 l q k
def aqb (cs:List aB)(cO:List Rat)(i:Int):Int:=V3 (dk cs i) (λk=>(adO cs cO i).getD k 0) (dk cs i).length
def aGg (cs:List aB)(cO:List Rat)(i:Int):Int:=if aqb cs cO i<10 then aqb cs cO i else 0
def aqc (cs:List aB)(cO:List Rat)(set:List Int)(i:Int):Bool:=cs.any λc=>c.1==i&&(c.2.2.1==aGg cs cO i&&(decide (c.2.2.2>0) && !decide (c.2.1∈set)))
structure aqd (cash:List Int) (cs:List aB) (cO:List Rat):Prop where
 len:(D cO)=D cs
 l:(D cs)<=2000
 n:(D cash)<=60
 own:∀i:Int,nh (dk cs i)
 ack:∀x∈cO,dH x
def QI (cash:List Int)(cs:List aB)(aN ei:List bz)(aJ:List (List Int)):List Data:=[.ax (cash.map aI),.ax (cs.map bL),.ax (aN.map az),.ax (ei.map az),.ax (aJ.map Ie)]
def aqe {cash Ff:List Int}{cs jY:List aB}{aN pB ei AU:List bz}{aJ Qd:List (List Int)}(h:QI cash cs aN ei aJ=QI Ff jY pB AU Qd):cash=Ff/\cs=jY/\aN=pB/\ei=AU/\aJ=Qd:=by
 simp only[QI,bj,Data.ax.injEq,and_true] at h;exact⟨map_inj gq _ _ h.1,map_inj tM _ _ h.2.1,map_inj pS _ _ h.2.2.1,map_inj pS _ _ h.2.2.2.1,map_inj aGe _ _ h.2.2.2.2⟩
abbrev V4:Int×(List bz)×Nat->List Data:=λ(z,h,i)=>[.int .i64 z,.ptr [.ax (h.map az)],.ptr [.int .i64 i]]
def V5:=bV V4 λ(z,h,i)=>cu (eJ z/\i<D h/\yX h) (.same (.bool (decide (uP (h.getD i cW) (av (z:Rat))<0))))
def aGh:∀a b,V4 a=V4 b->a=b:=by
  rintro⟨fB,F,i1⟩ ⟨gN,G,i2⟩ h;simp only[bj,Data.int.injEq,Data.ptr.injEq,Data.ax.injEq,and_true,true_and] at h;exact et h.1 (et (map_inj pS _ _ h.2.1) (by have:=h.2.2;dsimp only;omega))
@[go_sem] def aGi (z h i):=cH V5 rfl aGh (z,h,i) rfl
def aGj (T:ba)(my:T pM=aK u4)(kL:T sa=aK v5):WF T aji V5:=by
 refine cp λ(z,h,i)=>cT λJ=>⟨rfl,ck ?_⟩;simp only[aji,V4,cd];obtain⟨a2,O,cw⟩:=J;have hw:=Fa z a2;obtain⟨x,L⟩:∃x,h[i]?=some x:=⟨_,bh O⟩;have jM:h.getD i cW=x:=by rw[eD,L];rfl
 obtain⟨qJ,qK⟩:=cw.2 x (dy L);obtain⟨K9,La⟩:=mu (p5 a2);rw[jM];generalize av (z:Rat)=xB at *;obtain⟨⟨cz,cY⟩,⟨eA,eQ⟩⟩:=xB;obtain⟨⟨cQ,dN⟩,⟨gy,g3⟩⟩:=x;have lV:=ai8 cQ dN gy g3 cz cY eA eQ ⟨qJ,qK,K9,La⟩;simp only[az] at hw;refine ai ?_;repeat' (intro (ao:_=_)<;>simp only[ao,go_sem,go_sem_proc,my,kL,hw,L,lV,az,al,bm]<;>try refine ag ?_ ?_)
def QJ:=bV o3 λ(x:Int)=>some (.same (.bool (jc x)))
@[go_sem] def aQh (x):=pK QJ rfl B7 x rfl
def aGk (T:ba):WF T aoV QJ:=by
 refine cp λx=>⟨rfl,ck ?_⟩;simp only[aoV,o3,cd];unfold jc;rcases ar:decide (0<=x)
 ·have c2:decide (x>=0)=false:=ar;refine ai ?_;repeat' (intro h<;>simp only[h,go_sem,go_sem_proc,ar,c2,e9]<;>try refine ag ?_ ?_)
 ·have c2:decide (x>=0)=true:=ar;refine ai ?_;repeat' (intro h<;>simp only[h,go_sem,go_sem_proc,ar,c2,fN]<;>try refine ag ?_ ?_)
def V6:=bV o3 λ(x:Int)=>some (.same (.bool (!jc x)))
@[go_sem] def aGl (x):=pK V6 rfl B7 x rfl
def aGm (T:ba)(QK:T NH=aK QJ):WF T aoU V6:=by
 refine cp λx=>⟨rfl,ck ?_⟩;simp only[aoU,o3,cd];refine ai ?_;repeat' (intro h<;>simp only[h,go_sem,go_sem_proc,QK]<;>try refine ag ?_ ?_)
def Ig:=bV Fq λ(x,a,b)=>some (.same (.bool (decide (a<=x)&&decide (x<=b))))
@[go_sem] def aQi (x a b):=pK Ig rfl ado (x,a,b) rfl
def aGn (T:ba):WF T ap6 Ig:=by
 refine cp λ(x,a,b)=>⟨rfl,ck ?_⟩;simp only[ap6,Fq,cd];rcases ar:decide (a<=x)
 ·refine ai ?_;repeat' (intro h<;>simp only[h,go_sem,go_sem_proc,ar,e9]<;>try refine ag ?_ ?_)
 ·refine ai ?_;repeat' (intro h<;>simp only[h,go_sem,go_sem_proc,ar,fN]<;>try refine ag ?_ ?_)
def QL:=bV o3 λ(x:Int)=>some (.same (.bool (!jc x)))
@[go_sem] def aGo (x):=pK QL rfl B7 x rfl
def aGp (T:ba)(ni:T uD=aK Ig):WF T ap9 QL:=by
 refine cp λx=>⟨rfl,ck ?_⟩;simp only[ap9,o3,cd];unfold jc;refine ai ?_;repeat' (intro h<;>simp only[h,go_sem,go_sem_proc,ni]<;>try refine ag ?_ ?_)
abbrev adP:Int->List Data:=λ(x:Int)=>[.int .i64 x,.ptr [.fn Sy []]]
def aqf:=bV adP λ(x:Int)=>some (.same (.bool (!jc x)))
def aGq:∀a b,adP a=adP b->a=b:=by
  intro fx fe h;simp only[bj,Data.int.injEq,Data.agg.injEq,Data.ax.injEq,Data.bool.injEq,Data.str.injEq,Data.ptr.injEq,Data.dj.injEq,fq,true_and,and_true] at h ⊢
  first|exact h|simpa [Ad,and_assoc] using h|grind
@[go_sem] def aGr (x):=pK aqf rfl aGq x rfl
abbrev adQ:Int×(List Int)×(List aB)×(List bz)×(List Rat)×(List (List Int))×(List Int)->List Data:=λ(x,cash,cs,aN,cO,aJ,set)=>[.int .i64 x,.ptr (QI cash cs aN (cO.map av) aJ),.ptr [.ax (set.map aI)]]
def aqg:=bV adQ λ(x,cash,cs,aN,cO,aJ,set)=>cu (aqd cash cs cO/\D set<=1000000) (.same (.bool (aqc cs cO set x)))
def aGs:∀a b,adQ a=adQ b->a=b:=by
  rintro⟨fx,K5,C0,uj,aQj,aQk,aGt⟩ ⟨fe,K6,uq,uk,aQl,aQm,aGu⟩ h;simp only[bj,Data.int.injEq,Data.ptr.injEq,Data.ax.injEq,and_true,true_and] at h;obtain⟨F,cU,G⟩:=h;obtain⟨rfl,rfl,rfl,dc,rfl⟩:=aqe cU;rw[F,map_inj gq _ _ G,map_inj (λ_ _ a1=>Em a1) _ _ dc]
@[go_sem] def aGv (x cash cs aN cO aJ set):=cH aqg rfl aGs (x,cash,cs,aN,cO,aJ,set) rfl
def Ly (T:ba)(id:FuncId)(fh:List Data)(aO:List Data->Option eb)(di:T id=aK aO)(p:Int->Bool)(l:List Int)(aq:(D l)<=1000000)(ec:∀x∈l,aO (.int .i64 x::fh)=some (.same (.bool (p x)))):WP T SB (.same (.int .i64 (tu p l))) [.H (.ax (l.map aI)),.H (.fn id fh)]:=by
 refine ck ?_;simp only[SB];simp only[go_sem,go_sem_proc,al];refine dd [0,1,7] [] (λ(i:Nat) tm mem=>i<=D l/\(∀x∈l.take i,p x=false)/\tm 8=.H (.int .i64 i)) (λi=>D l-i) 0 (by refine⟨fL _,by simp,rfl⟩) ?_;intro vs ms aQ aM;simp only[go_sem,go_sem_proc,al] at aQ aM;subst aQ aM;rintro i tm mem I hm ⟨O,ea,cS⟩;simp only[go_sem,go_sem_proc,bj] at I hm;obtain⟨ay,F,b9⟩:=I;have lV:∀m:Mem,(fh.map M.H).mapM (cV 6 m)=some fh:=λm=>w8 (cV 6 m) (λd=>rfl) fh;rcases dn (i<D l) with ah|bW
 ·have L:=bh ah;have uR:=ec _ (mh ah);have bH:=λh=>OI (p:=p) ea L h;have hC:=λh=>J8 (p:=p) ea L h;generalize l[i]=x at *;have h3:decide ((i:Int)<(D l:Int))=true:=cX;have hw:=eI (i:=i) (by omega);rcases ad:p x
  ·rw[ad] at uR;refine ai ?_;repeat' (intro (ao:_=_)<;>simp only[ao,go_sem,go_sem_proc,di,ay,F,b9,cS,L,h3,hw,uR,lV,aI,al,bm,qk]<;>try refine ag ?_ ?_)
   exact⟨i+1,by omega,by omega,hC ad,rfl⟩
  ·rw[ad] at uR;rw[bH ad];refine ai ?_;repeat' (intro (ao:_=_)<;>simp only[ao,go_sem,go_sem_proc,di,ay,F,b9,cS,L,h3,hw,uR,lV,aI,al,bm,qk]<;>try refine ag ?_ ?_)
 ·have h3:decide ((i:Int)<(D l:Int))=false:=b7;obtain rfl:i=D l:=by omega
  rw[pb] at ea;rw[To ea];refine ai ?_;repeat' (intro (ao:_=_)<;>simp only[ao,go_sem,go_sem_proc,ay,F,b9,cS,h3,al]<;>try refine ag ?_ ?_)
inductive QM where
 |right
 |day
 |hold
 |solve (h:List bz) (i:Nat)
 |zD
 |QN (cash:List Int) (cs:List aB) (aN:List bz) (cO:List Rat) (aJ:List (List Int)) (set:List Int)
def Da:QM->Data
 |.right => .fn NC [.ptr [.fn DV []]]
 |.day => .fn Jt []
 |.hold => .fn yD []
 |.solve h i => .fn Gx [.ptr [.ax (h.map az)],.ptr [.int .i64 i]]
 |.zD => .fn NK [.ptr [.fn Sy []]]
 |.QN cash cs aN cO aJ set => .fn NJ [.ptr (QI cash cs aN (cO.map av) aJ),.ptr [.ax (set.map aI)]]
def aGw:∀a b:QM,Da a=Da b->a=b:=by
 intro a b e
 cases a<;>cases b
 all_goals first|rfl|(simp[Da,NC,Jt,Gx,yD,NK,NJ] at e;done)|skip
 ·simp only[Da,Data.fn.injEq,bj,Data.ptr.injEq,Data.ax.injEq,Data.int.injEq,and_true,true_and] at e;rw[map_inj pS _ _ e.1,Int.ofNat.inj e.2]
 ·simp only[Da,Data.fn.injEq,bj,Data.ptr.injEq,Data.ax.injEq,and_true,true_and] at e;obtain⟨cU,G⟩:=e;obtain⟨rfl,rfl,rfl,dc,rfl⟩:=aqe cU;rw[map_inj gq _ _ G,map_inj (λ_ _ a1=>Em a1) _ _ dc]
def wJ:QM->Int->Bool
 |.right,x => !jc x
 |.day,x => !jc x
 |.hold,x => !jc x
 |.solve h i,x=>decide (uP (h.getD i cW) (av (x:Rat))<0)
 |.zD,x => !jc x
 |.QN _ cs _ cO _ set,x=>aqc cs cO set x
def aqh (l:List Int):QM->Prop
 |.right=>True
 |.day=>Jt<900000
 |.hold=>yD<900000
 |.solve h i=>Gx<900000/\i<D h/\yX h/\∀x∈l,eJ x
 |.zD=>NK<900000
 |.QN cash cs _ cO _ set=>NJ<900000/\aqd cash cs cO/\D set<=1000000
abbrev Lz:(List Int)×QM->List Data:=λ(l,c)=>[.ax (l.map aI),Da c]
def Fw:=bV Lz λ(l,c)=>cu (D l<=1000000/\aqh l c) (.same (.int .i64 (tu (wJ c) l)))
def aqi:∀a b,Lz a=Lz b->a=b:=by
  rintro⟨eN,ar⟩ ⟨aw,c2⟩ h;simp only[bj,Data.ax.injEq,and_true] at h;exact et (map_inj gq _ _ h.1) (aGw _ _ h.2)
@[go_sem] def aGx (l c):=cH Fw rfl aqi (l,c) rfl
def aGy (T:ba)(aGz:T NC=aK VC)(aGA:Jt<900000->T Jt=aK V6)(adR:yD<900000->T yD=aK QL)(aGB:Gx<900000->T Gx=aK V5)(aGC:NK<900000->T NK=aK aqf)(aGD:NJ<900000->T NJ=aK aqg):WF T SB Fw:=by
 refine cp λ(l,c)=>cT λJ=>⟨rfl,ck ?_⟩;simp only[SB,Lz,cd];obtain⟨aq,cw⟩:=J
 cases c with
 |right=>exact tv (Ly T _ _ _ aGz (wJ .right) l aq λx _=>aEB x)
 |day=>exact tv (Ly T _ _ _ (aGA cw) (wJ .day) l aq λx _=>aGl x)
 |hold=>exact tv (Ly T _ _ _ (adR cw) (wJ .hold) l aq λx _=>aGo x)
 |solve h k=>exact tv (Ly T _ _ _ (aGB cw.1) (wJ (.solve h k)) l aq λx L=>aGi x h k ⟨cw.2.2.2 x L,cw.2.1,cw.2.2.1⟩)
 |zD=>exact tv (Ly T _ _ _ (aGC cw) (wJ .zD) l aq λx _=>aGr x)
 |QN cash cs aN cO aJ set=>exact tv (Ly T _ _ _ (aGD cw.1) (wJ (.QN cash cs aN cO aJ set)) l aq λx _=>aGv x cash cs aN cO aJ set cw.2)
def QO:=bV Lz λ(l,c)=>cu (D l<=1000000/\aqh l c) (.same (.bool (l.any (wJ c))))
@[go_sem] def aqj (l c):=cH QO rfl aqi (l,c) rfl
def aGE (T:ba)(Bd:T DU=aK Fw):WF T ahq QO:=by
 refine cp λ(l,c)=>cT λJ=>⟨rfl,ck ?_⟩;simp only[ahq,Lz,cd];rw[<-Tp];refine ai ?_;repeat' (intro h<;>simp only[h,go_sem,go_sem_proc,Bd,J]<;>try refine ag ?_ ?_)
abbrev V7:Int×Int×Int×Int×(List Int)->List Data:=λ(a,b,k,x,cash)=>[.agg [.int .i64 a,.int .i64 b,.int .i64 k,.int .i64 x],.ptr [.ax (cash.map aI)]]
def V8:=bV V7 λ(a,b,k,x,cash)=>cu (D cash<=1000000) (.same (.bool (!kg (D cash) (a,b,k,x))))
def aGF:∀a b,V7 a=V7 b->a=b:=by
  rintro⟨cz,cQ,cy,fx,K5⟩ ⟨cY,dN,dw,fe,K6⟩ h;simp only[bj,Data.agg.injEq,Data.int.injEq,Data.ptr.injEq,Data.ax.injEq,and_true,true_and] at h;obtain⟨⟨F,G,ab,aV⟩,bu⟩:=h;rw[F,G,ab,aV,map_inj gq _ _ bu]
@[go_sem] def aGG (a b k x cash):=cH V8 rfl aGF (a,b,k,x,cash) rfl
def aGH (T:ba)(QK:T NH=aK QJ):WF T aoW V8:=by
 refine cp λ(a,b,k,x,cash)=>cT λJ=>⟨rfl,ck ?_⟩;simp only[aoW,V7,cd]
 by_cases X:kg (D cash) (a,b,k,x)=true
 ·have vr:=Fc.1 X;dsimp only at vr;have ar:decide (a<0)=false:=b7;have c2:decide (a>=(D cash:Int))=false:=b7;have c3:decide (b < -1)=false:=b7;have c4:decide (b>=(D cash:Int))=false:=b7;have HT:decide (k<0)=false:=b7;have HU:decide (k>=10)=false:=b7;have C1:jc x=true:=Fe.2 (by omega);refine ai ?_;repeat' (intro h<;>simp only[h,go_sem,go_sem_proc,QK,X,ar,c2,c3,c4,HT,HU,C1,al,b3]<;>try refine ag ?_ ?_)
 ·have aH:kg (D cash) (a,b,k,x)=false:=by simpa using X
  rw[Fc] at X;dsimp only at X;rcases C1:jc x
  ·refine ai ?_;repeat' (intro h<;>simp only[h,go_sem,go_sem_proc,QK,aH,C1,al,b3,cA]<;>try refine ag ?_ ?_)
  ·have aQn:=Fe.1 C1;refine ai ?_;repeat' (intro h<;>simp only[h,go_sem,go_sem_proc,QK,aH,C1,al,b3,cA]<;>try refine ag ?_ ?_)
   all_goals (exfalso;simp only[decide_eq_false_iff_not] at *;omega)
abbrev V9:Int×Int×Int×Int×Int->List Data:=λ(a,b,k,x,n)=>[.agg [.int .i64 a,.int .i64 b,.int .i64 k,.int .i64 x],.ptr [.int .i64 n],.ptr [.fn yD []]]
def Wa:=bV V9 λ(a,b,k,x,n)=>cu (0<=n/\n<=1000000) (.same (.bool (!kg n (a,b,k,x))))
def aGI:∀a b,V9 a=V9 b->a=b:=by
  rintro⟨cz,cQ,cy,fx,hB⟩ ⟨cY,dN,dw,fe,ib⟩ h;simp only[bj,Data.int.injEq,Data.agg.injEq,Data.ax.injEq,Data.bool.injEq,Data.str.injEq,Data.ptr.injEq,Data.dj.injEq,fq,true_and,and_true] at h ⊢
  first|exact h|simpa [Ad,and_assoc] using h|grind
@[go_sem] def aGJ (a b k x n):=cH Wa rfl aGI (a,b,k,x,n) rfl
def aGK (T:ba)(ni:T uD=aK Ig)(adR:T yD=aK QL):WF T aqa Wa:=by
 refine cp λ(a,b,k,x,n)=>cT λJ=>⟨rfl,ck ?_⟩;simp only[aqa,V9,cd];have w:IntKind.i64.wrap (n-1)=n-1:=by rw[eY _]
 have e:kg n (a,b,k,x)=((decide (0<=a)&&decide (a<=n-1))&&((decide (-1<=b)&&decide (b<=n-1))&&((decide (0<=k)&&decide (k<=9))&&jc x))):=by
  rw[od,Fc];simp only[fC,decide_eq_true_eq,Fe];omega
 rw[e];rcases ar:(decide (0<=a)&&decide (a<=n-1))<;>rcases c2:(decide (-1<=b)&&decide (b<=n-1))<;>rcases c3:(decide (0<=k)&&decide (k<=9))<;>rcases c4:jc x
 all_goals
      refine ai ?_;repeat' (intro h<;>simp only[h,go_sem,go_sem_proc,ni,adR,w,ar,c2,c3,c4]<;>try refine ag ?_ ?_)
abbrev adS:Int×Int×Int×Int×Int->List Data:=λ(a,b,k,x,n)=>[.agg [.int .i64 a,.int .i64 b,.int .i64 k,.int .i64 x],.ptr [.fn agV [.ptr [.int .i64 n],.ptr [.fn Sy []]]]]
def aqk:=bV adS λ(a,b,k,x,n)=>cu (0<=n/\n<=1000000) (.same (.bool (!kg n (a,b,k,x))))
def aGL:∀a b,adS a=adS b->a=b:=by
  rintro⟨cz,cQ,cy,fx,hB⟩ ⟨cY,dN,dw,fe,ib⟩ h;simp only[bj,Data.int.injEq,Data.agg.injEq,Data.ax.injEq,Data.bool.injEq,Data.str.injEq,Data.ptr.injEq,Data.dj.injEq,fq,true_and,and_true] at h ⊢
  first|exact h|simpa [Ad,and_assoc] using h|grind
@[go_sem] def aGM (a b k x n):=cH aqk rfl aGL (a,b,k,x,n) rfl
abbrev adT:Int×Int×Int×Int×Int×Int×(List Int)->List Data:=λ(a,b,k,x,i,e,set)=>[.agg [.int .i64 a,.int .i64 b,.int .i64 k,.int .i64 x],.ptr [.int .i64 i],.ptr [.int .i64 e],.ptr [.ax (set.map aI)]]
def aql:=bV adT λ(a,b,k,x,i,e,set)=>cu (D set<=1000000) (.same (.bool (a==i&&(k==e&&(decide (x>0) && !decide (b∈set))))))
def aGN:∀a b,adT a=adT b->a=b:=by
  rintro⟨cz,cQ,cy,fx,i1,au,aGt⟩ ⟨cY,dN,dw,fe,i2,aC,aGu⟩ h;simp only[bj,Data.agg.injEq,Data.int.injEq,Data.ptr.injEq,Data.ax.injEq,and_true,true_and] at h;obtain⟨⟨F,G,ab,aV⟩,bu,bX,b9⟩:=h;rw[F,G,ab,aV,bu,bX,map_inj gq _ _ b9]
@[go_sem] def aGO (a b k x i e set):=cH aql rfl aGN (a,b,k,x,i,e,set) rfl
def QP (T:ba)(id:FuncId)(fh:List Data)(aO:List Data->Option eb)(di:T id=aK aO)(p:aB->Bool)(l:List aB)(aq:(D l)<=1000000)(ec:∀a b k z,(a,b,k,z)∈l->aO (.agg [.int .i64 a,.int .i64 b,.int .i64 k,.int .i64 z]::fh)=some (.same (.bool (p (a,b,k,z))))):WP T SC (.same (.int .i64 (tu p l))) [.H (.ax (l.map bL)),.H (.fn id fh)]:=by
 refine ck ?_;simp only[SC];simp only[go_sem,go_sem_proc,al];refine dd [0,1,7] [] (λ(i:Nat) tm mem=>i<=D l/\(∀x∈l.take i,p x=false)/\tm 8=.H (.int .i64 i)) (λi=>D l-i) 0 (by refine⟨fL _,by simp,rfl⟩) ?_;intro vs ms aQ aM;simp only[go_sem,go_sem_proc,al] at aQ aM;subst aQ aM;rintro i tm mem I hm ⟨O,ea,cS⟩;simp only[go_sem,go_sem_proc,bj] at I hm;obtain⟨ay,F,b9⟩:=I;have lV:∀m:Mem,(fh.map M.H).mapM (cV 6 m)=some fh:=λm=>w8 (cV 6 m) (λd=>rfl) fh;rcases dn (i<D l) with ah|bW
 ·have L:=bh ah;have EI:=mh ah;have bH:=λh=>OI (p:=p) ea L h;have hC:=λh=>J8 (p:=p) ea L h;generalize l[i]=x at *;obtain⟨a,b,k,z⟩:=x;have uR:=ec a b k z EI;have h3:decide ((i:Int)<(D l:Int))=true:=cX;have hw:=eI (i:=i) (by omega);rcases ad:p (a,b,k,z)
  ·rw[ad] at uR;refine ai ?_;repeat' (intro (ao:_=_)<;>simp only[ao,go_sem,go_sem_proc,di,ay,F,b9,cS,L,h3,hw,uR,lV,bL,al,bm,qk]<;>try refine ag ?_ ?_)
   exact⟨i+1,by omega,by omega,hC ad,rfl⟩
  ·rw[ad] at uR;rw[bH ad];refine ai ?_;repeat' (intro (ao:_=_)<;>simp only[ao,go_sem,go_sem_proc,di,ay,F,b9,cS,L,h3,hw,uR,lV,bL,al,bm,qk]<;>try refine ag ?_ ?_)
 ·have h3:decide ((i:Int)<(D l:Int))=false:=b7;obtain rfl:i=D l:=by omega
  rw[pb] at ea;rw[To ea];refine ai ?_;repeat' (intro (ao:_=_)<;>simp only[ao,go_sem,go_sem_proc,ay,F,b9,cS,h3,al]<;>try refine ag ?_ ?_)
inductive QQ where
 |right (n:Int)
 |day (cash:List Int)
 |hold (n:Int)
 |zD (n:Int)
 |QR (i e:Int) (set:List Int)
def Ih:QQ->Data
 |.right n => .fn ND [.ptr [.fn DV []],.ptr [.int .i64 n]]
 |.day cash => .fn Ju [.ptr [.ax (cash.map aI)]]
 |.hold n => .fn GI [.ptr [.int .i64 n],.ptr [.fn yD []]]
 |.zD n => .fn NL [.ptr [.fn agV [.ptr [.int .i64 n],.ptr [.fn Sy []]]]]
 |.QR i e set => .fn NM [.ptr [.int .i64 i],.ptr [.int .i64 e],.ptr [.ax (set.map aI)]]
def aGP:∀a b:QQ,Ih a=Ih b->a=b:=by
 intro a b e
 cases a<;>cases b
 all_goals first|(simp[Ih,ND,Ju,GI,NL,NM] at e;done)|simp only[Ih,Data.fn.injEq,bj,Data.ptr.injEq,Data.ax.injEq,Data.int.injEq,and_true,true_and] at e
 ·rw[e]
 ·rw[map_inj gq _ _ e]
 ·rw[e]
 ·rw[e]
 ·rw[e.1,e.2.1,map_inj gq _ _ e.2.2]
def Db:QQ->aB->Bool
 |.right n,c => !kg n c
 |.day cash,c => !kg (D cash) c
 |.hold n,c => !kg n c
 |.zD n,c => !kg n c
 |.QR i e set,c=>c.1==i&&(c.2.2.1==e&&(decide (c.2.2.2>0) && !decide (c.2.1∈set)))
def aqm:QQ->Prop
 |.right n=>0<=n/\n<=1000000
 |.day cash=>Ju<900000/\D cash<=1000000
 |.hold n=>GI<900000/\0<=n/\n<=1000000
 |.zD n=>NL<900000/\0<=n/\n<=1000000
 |.QR _ _ set=>NM<900000/\D set<=1000000
abbrev LA:(List aB)×QQ->List Data:=λ(l,c)=>[.ax (l.map bL),Ih c]
def Wb:=bV LA λ(l,c)=>cu (D l<=1000000/\aqm c) (.same (.int .i64 (tu (Db c) l)))
def aqn:∀a b,LA a=LA b->a=b:=by
  rintro⟨eN,ar⟩ ⟨aw,c2⟩ h;simp only[bj,Data.ax.injEq,and_true] at h;exact et (map_inj tM _ _ h.1) (aGP _ _ h.2)
@[go_sem] def aQo (l c):=cH Wb rfl aqn (l,c) rfl
def aGQ (T:ba)(aGR:T ND=aK VE)(aGS:Ju<900000->T Ju=aK V8)(aGT:GI<900000->T GI=aK Wa)(aGU:NL<900000->T NL=aK aqk)(aGV:NM<900000->T NM=aK aql):WF T SC Wb:=by
 refine cp λ(l,c)=>cT λJ=>⟨rfl,ck ?_⟩;simp only[SC,LA,cd];obtain⟨aq,cw⟩:=J
 cases c with
 |right n=>exact tv (QP T _ _ _ aGR (Db (.right n)) l aq λa b k z _=>aEE a b k z n cw)
 |day cash=>exact tv (QP T _ _ _ (aGS cw.1) (Db (.day cash)) l aq λa b k z _=>aGG a b k z cash cw.2)
 |hold n=>exact tv (QP T _ _ _ (aGT cw.1) (Db (.hold n)) l aq λa b k z _=>aGJ a b k z n cw.2)
 |zD n=>exact tv (QP T _ _ _ (aGU cw.1) (Db (.zD n)) l aq λa b k z _=>aGM a b k z n cw.2)
 |QR i e set=>exact tv (QP T _ _ _ (aGV cw.1) (Db (.QR i e set)) l aq λa b k z _=>aGO a b k z i e set cw.2)
def QS:=bV LA λ(l,c)=>cu (D l<=1000000/\aqm c) (.same (.bool (l.any (Db c))))
@[go_sem] def aqo (l c):=cH QS rfl aqn (l,c) rfl
def aGW (T:ba)(aGX:T YY=aK Wb):WF T ahr QS:=by
 refine cp λ(l,c)=>cT λJ=>⟨rfl,ck ?_⟩;simp only[ahr,LA,cd];rw[<-Tp];refine ai ?_;repeat' (intro h<;>simp only[h,go_sem,go_sem_proc,aGX,J]<;>try refine ag ?_ ?_)
def Wc {α:Type}(l:List α)(p:α->Bool):l.any (λx => !p x) = !l.all p:=by
 induction l with
 |nil=>rfl
 |cons a l aG=>rw[List.any_cons,List.all_cons,aG];cases p a<;>rfl
def QT:=bV u5 λ(cash,cs)=>cu (D cash<=1000000/\D cs<=1000000) (.same (.bool (hr cash cs)))
@[go_sem] def aQp (cash cs):=cH QT rfl K4 (cash,cs) rfl
def aGY (T:ba)(adU:T NF=aK QO)(adV:T NG=aK QS):WF T ajg QT:=by
 refine cp λ(cash,cs)=>cT λJ=>⟨rfl,ck ?_⟩;simp only[ajg,u5,cd];obtain⟨F,G⟩:=J;rw[U5];have dX:=aqj cash .right ⟨F,trivial⟩;have ga:=aqo cs (.right (D cash)) ⟨G,by show (0:Int)<=(D cash:Int);omega,by show (D cash:Int)<=1000000;omega⟩
 have au:cash.any (wJ .right) = !cash.all jc:=Wc cash jc;have aC:cs.any (Db (.right (D cash))) = !cs.all (kg (D cash)):=Wc cs _;rw[au] at dX;rw[aC] at ga;simp only[Da] at dX;simp only[Ih] at ga;have d1:decide (D cash<=60)=decide ((D cash:Int)<=60):=by rw[od,decide_eq_true_iff,decide_eq_true_iff];omega
 have d2:decide (D cs<=2000)=decide ((D cs:Int)<=2000):=by rw[od,decide_eq_true_iff,decide_eq_true_iff];omega
 rw[d1,d2];rcases dI:decide ((D cash:Int)<=60)<;>rcases ek:decide ((D cs:Int)<=2000)<;>rcases ht:cash.all jc<;>rcases fV:cs.all (kg (D cash))
 all_goals rw[ht] at dX
 all_goals rw[fV] at ga
 all_goals
      refine ai ?_;repeat' (intro h<;>simp only[h,go_sem,go_sem_proc,adU,adV,dX,ga,dI,ek,al,b3,cA,te,iS,cV,Bo,xA,scalar]<;>try refine ag ?_ ?_)
def sI (l:List aB)(r:Int):Int:=cJ l λc=>if c.2.2.1<r then c.2.2.2 else 0
def hx (l:List aB)(r:Int):Int:=cJ l λc=>if c.2.2.1=r then c.2.2.2 else 0
def aqp (l:List aB)(r:Int):sI l (r+1)=sI l r+hx l r:=by
 unfold sI hx;rw[<-adb];refine HL λc _=>?_
 by_cases F:c.2.2.1<r
 ·rw[Y F,Y (by omega),aa (by omega)];omega
 ·by_cases G:c.2.2.1=r
  ·rw[Y (by omega),aa F,Y G];omega
  ·rw[aa (by omega),aa F,aa G];rfl
def hV (l:List aB)(x:Rat)(k:Nat):Rat:=pos (x-((sI l k:Int):Rat))
def nh.adW {l:List aB}(h:nh l)(r:Int):0<=hx l r/\hx l r<=12000000000000000:=h.bound λc=>c.2.2.1=r
def nh.aGZ {l:List aB}(h:nh l)(r:Int):0<=sI l r/\sI l r<=12000000000000000:=h.bound λc=>c.2.2.1<r
def aG0 (l:List aB)(x:Rat)(k:Nat):0<=hV l x k:=KO _
def aG1 {l:List aB}(h:nh l){x:Rat}(L:0<=x):hV l x 0=x:=by
 have:sI l (0:Nat)=0:=by
  unfold sI
  have:(cJ l λc=>if c.2.2.1<((0:Nat):Int) then c.2.2.2 else 0)=cJ l λ_=>0:=HL λc J=>by
   have:=(h.c c J).2.2.2.2.1;rw[aa (by omega)]
  rw[this];clear h this
  induction l with
  |nil=>rfl
  |cons c l aG=>simp only[cJ,aG];omega
 unfold hV;rw[this,AR]<;>grind
def aG2 {l:List aB}(h:nh l){x:Rat}{k:Nat}(he:((hx l k:Int):Rat)<=hV l x k):hV l x (k+1)=hV l x k-((hx l k:Int):Rat):=by
 have F:=aqp l k;have ay:=(h.adW k).1;have aQq:(0:Rat)<=((hx l k:Int):Rat):=by exact_mod_cast ay
 unfold hV at *;rw[show ((k+1:Nat):Int)=(k:Int)+1 by omega,F,CY]
 by_cases aE:x-((sI l k:Int):Rat)<=0
 ·have au:=xL aE;rw[au] at he ⊢;rw[xL (by grind)];grind
 ·have au:=AR (x:=x-((sI l k:Int):Rat)) (by grind);rw[au] at he ⊢;rw[AR (by grind)];grind
def aG3 {l:List aB}{x:Rat}{k:Nat}(he:¬ ((hx l k:Int):Rat)<=hV l x k):hV l x (k+1)=0:=by
 have F:=aqp l k;have G:=UE (x-((sI l k:Int):Rat));unfold hV at *;rw[show ((k+1:Nat):Int)=(k:Int)+1 by omega,F,CY,xL (by grind)]
section
variable {l:List aB} (h:nh l) {x:Rat} {k:Nat} {c:aB} (J:c∈l) (I:c.2.2.1=k)
include h J I
def aqq:bT l c.1 c.2.2.1=sI l k/\hg l c.1 c.2.2.1=hx l k:=by
 rw[I];exact⟨(h.less J k).symm,(h.same J k).symm⟩
def aG4 (he:((hx l k:Int):Rat)<=hV l x k):gW l x c=(c.2.2.2:Rat):=by
 obtain⟨au,aC⟩:=aqq h J I;have aL:∀c∈l,0<=c.2.2.2:=λc J=>(h.c c J).2.2.2.2.2.2.1
 by_cases aE:x-((sI l k:Int):Rat)<=0
 ·have ay:hV l x k=0:=xL aE;rw[ay] at he;have cZ:hx l k<=0:=by exact_mod_cast he
  have aZ:=aos aL J;rw[aC] at aZ;have aQr:=aL c J;rw[adf aL J (by rw[au];exact aE),show c.2.2.2=0 by omega];rfl
 ·refine aot ?_;rw[au,aC];unfold hV at he;rwa [AR (by grind)] at he
def aG5 (he:¬ ((hx l k:Int):Rat)<=hV l x k):gW l x c=(c.2.2.2:Rat)*hV l x k/((hx l k:Int):Rat):=by
 obtain⟨au,aC⟩:=aqq h J I;have aL:∀c∈l,0<=c.2.2.2:=λc J=>(h.c c J).2.2.2.2.2.2.1
 by_cases aE:x-((sI l k:Int):Rat)<=0
 ·have ay:hV l x k=0:=xL aE;rw[adf aL J (by rw[au];exact aE),ay,Rat.mul_zero,Rat.div_def,Rat.zero_mul]
 ·have ay:hV l x k=x-((sI l k:Int):Rat):=AR (by grind);rw[adg (by rw[au];grind) (by rw[au,aC,<-ay];grind),au,aC,ay]
end
def aqr {l:List aB}{x:Rat}(h:Qm l x)(k:Nat):e0 515 (hV l x k):=by
 have fO:=h.own.aGZ k;unfold hV pos
 split
 ·exact (show e0 1 0 from⟨by decide,by decide⟩).mono (by omega)
 ·rw[Rat.sub_eq_add_neg];exact (acb h.sz (wy (A1 (z:=sI l k) (b:=54) (by omega)))).mono (by omega)
def Wd:=bV Fq λ(x,a,b)=>some (.same (.bool (decide (a<=x)&&decide (x<=b))))
@[go_sem] def aQs (x a b):=pK Wd rfl ado (x,a,b) rfl
def aG6 (T:ba):WF T anv Wd:=by
 refine cp λ(x,a,b)=>⟨rfl,ck ?_⟩;simp only[anv,Fq,cd];rcases ar:decide (a<=x)
 ·have c2:decide (x>=a)=false:=ar;refine ai ?_;repeat' (intro h<;>simp only[h,go_sem,go_sem_proc,ar,c2,e9]<;>try refine ag ?_ ?_)
 ·have c2:decide (x>=a)=true:=ar;refine ai ?_;repeat' (intro h<;>simp only[h,go_sem,go_sem_proc,ar,c2,fN]<;>try refine ag ?_ ?_)
def We:=bV Fi λ(l:List aB)=>cu (nh l) (.same (.bool true))
@[go_sem] def aQt (l):=cH We rfl ac7 l rfl
def aG7 (T:ba)(QU:T Jv=aK Wd):WF T ant We:=by
 refine cp λl=>cT λJ=>⟨rfl,ck ?_⟩;simp only[ant,Fi,cd];have aq:=J.len;simp only[go_sem,go_sem_proc,QU,al];refine dd [0,5,6] [] (λ(i:Nat) tm mem=>i<=D l/\tm 7=.H (.int .i64 i)) (λi=>D l-i) 0 (by refine⟨by omega,rfl⟩) ?_;intro vs ms aQ aM;simp only[go_sem,go_sem_proc,QU,al] at aQ aM;subst aQ aM;rintro i tm mem I hm ⟨O,b9⟩;simp only[go_sem,go_sem_proc,QU,bj] at I hm;obtain⟨ay,bu,bX⟩:=I;rcases dn (i<D l) with ah|bW
 ·have d1:decide ((i:Int)<(D l:Int))=true:=cX;have bF:=eI (i:=i) (by omega);obtain⟨⟨ar,c2,c3,c4⟩,L⟩:∃c,l[i]?=some c:=⟨_,bh ah⟩;obtain⟨⟨cz,cY,eA,eQ⟩,iW⟩:∃c,l[0]?=some c:=⟨_,bh (by omega)⟩;have lQ:=J.c _ (dy L);have vw:=J.one _ (dy L) _ (dy iW);dsimp only at lQ vw;subst vw;have dI:(decide (0<=ar)&&decide (ar<=59))=true:=by simp only[fC,decide_eq_true_eq];omega
  have ek:(decide (-1<=c2)&&decide (c2<=59))=true:=by simp only[fC,decide_eq_true_eq];omega
  have ht:(decide (0<=c3)&&decide (c3<=9))=true:=by simp only[fC,decide_eq_true_eq];omega
  have fV:(decide (0<=c4)&&decide (c4<=1000000000000000))=true:=by simp only[fC,decide_eq_true_eq];omega
  refine ai ?_;repeat' (intro h<;>simp only[h,go_sem,go_sem_proc,QU,ay,bu,bX,b9,L,iW,d1,bF,dI,ek,ht,fV,bL,bne,beq_self_eq_true,b3,al,bm]<;>try refine ag ?_ ?_)
  exact⟨i+1,by omega,by omega,rfl⟩
 ·have d1:decide ((i:Int)<(D l:Int))=false:=b7;have d2:decide ((D l:Int)<=2000)=true:=cX;refine ai ?_;repeat' (intro h<;>simp only[h,go_sem,go_sem_proc,QU,ay,bu,bX,b9,d1,d2,al]<;>try refine ag ?_ ?_)
def aG8 (T:ba){K:eK->bc->Prop}{kk:List fT}(l:List aB)(aq:nh l)(k:Nat)(v1 v6 tU:M)(Ii:M)(fe A8 aqs:Option (Nat×List M))(tm:Nat->M)(m:Mem)
  (au:tm 1=v1) (bt:tm 6=v6) (bS:tm 7=tU) (ee:tm 8=.H (.int .i64 k)) (eT:tm 9=.H (.int .i64 0)) (pv:tm 37=Ii) (LB:tm 40=.H (.ax (l.map bL))) (LC:tm 41=.H (.int .i64 (D l))) (LD:tm 42=.H (.int .i64 0)) (bU:m 249002=fe) (mq:m 249007=A8) (qa:m 249035=aqs)
  (db:∀tm' m',tm' 1=v1->tm' 6=v6->tm' 7=tU->tm' 8=.H (.int .i64 k)->tm' 9=.H (.int .i64 (hx l k))->tm' 37=Ii->m' 249002=fe->m' 249007=A8->m' 249035=aqs->cg T K kk (.exit 2) ⟨tm',m'⟩) :
  wp T (K2.body.sub [1,1,1,1,0,1,0,0,1,1,0,0,1,1,0,1,0]) (cg T K kk) ⟨tm,m⟩:=by
 simp only[K2,er.sub];have ad:=λt=>aq.cs.sum (λc=>c.2.2.1=(k:Int)) t;have hlen:=aq.len;refine dd [1,6,7,8,37,40,41] [249002,249007,249035] (λ(t:Nat) tm m=>t<=D l/\tm 42=.H (.int .i64 t)/\tm 9=.H (.int .i64 (hx (l.take t) k))) (λt=>D l-t) 0 (by refine⟨by omega,LD,eT⟩) ?_;intro vs ms aQ aM;simp only[go_sem,go_sem_proc,au,bt,bS,ee,pv,LB,LC,bU,mq,qa] at aQ aM;subst aQ aM;clear au bt bS ee eT pv LB LC LD bU mq qa tm m;rintro t tm m I hm ⟨b0,LD,eT⟩;simp only[go_sem,go_sem_proc,bj] at I hm;obtain⟨au,bt,bS,ee,pv,LB,LC⟩:=I;obtain⟨bU,mq,qa⟩:=hm;rcases dn (t<D l) with ah|bW
 ·have d1:decide ((t:Int)<(D l:Int))=true:=cX;have bF:=eI (i:=t) (by omega);obtain⟨⟨ar,c2,c3,c4⟩,L⟩:∃c,l[t]?=some c:=⟨_,bh ah⟩
  have da:hx (l.take (t+1)) k=hx (l.take t) k+if c3=(k:Int) then c4 else 0:=by
   unfold hx;rw[PX L]
  have F:=ad t;have G:=ad (t+1);have aib:hx (l.take t) k=cJ (l.take t) λc=>if c.2.2.1=(k:Int) then c.2.2.2 else 0:=rfl;have aG9:hx (l.take (t+1)) k=cJ (l.take (t+1)) λc=>if c.2.2.1=(k:Int) then c.2.2.2 else 0:=rfl;rw[<-aib] at F;rw[<-aG9] at G;rcases q:(c3==(k:Int))
  ·rw[aa (by have:=ne_of_beq_false q;omega),rr] at da;refine ai ?_;repeat' (intro h<;>simp only[h,go_sem,go_sem_proc,au,bt,bS,ee,eT,pv,LB,LC,LD,bU,mq,qa,L,d1,bF,q,bL,al,bm]<;>try refine ag ?_ ?_)
   exact⟨t+1,by omega,by omega,rfl,by rw[da]⟩
  ·rw[Y (by have:=eq_of_beq q;omega)] at da;have QA:IntKind.i64.wrap (hx (l.take t) k+c4)=hx (l.take (t+1)) k:=by rw[da,wrap64 _ (by omega) (by omega)]
   refine ai ?_;repeat' (intro h<;>simp only[h,go_sem,go_sem_proc,au,bt,bS,ee,eT,pv,LB,LC,LD,bU,mq,qa,L,d1,bF,q,QA,bL,al,bm]<;>try refine ag ?_ ?_)
   exact⟨t+1,by omega,by omega,rfl,rfl⟩
 ·have d1:decide ((t:Int)<(D l:Int))=false:=b7;rw[dD (by omega)] at eT;refine ai ?_;repeat' (intro h<;>simp only[h,go_sem,go_sem_proc,au,bt,bS,ee,eT,pv,LB,LC,LD,d1]<;>try refine ag ?_ ?_)
  refine db _ _ ?_ ?_ ?_ ?_ ?_ ?_ bU mq qa<;>simp only[dC,cE,if_false,au,bt,bS,ee,eT,pv]
def mU (l:List aB)(x:Rat)(k t j:Nat):Option bz:=if (l.getD j kj).2.2.1<(k:Int)\/((l.getD j kj).2.2.1=(k:Int)/\j<t) then some (rP l x j) else none
def aHa (l:List aB)(h:nh l)(x:Rat):(bA (D l) λj=>mU l x 0 0 j)=bA (D l) λ_=>none:=jW λj ae=>by
 have:=(h.c _ (dy (bh ae))).2.2.2.2.1;have e:l.getD j kj=l[j]:=by rw[eD,bh ae];rfl
 unfold mU;rw[e,aa (by omega)]
def aHb (l:List aB)(x:Rat)(k:Nat):(bA (D l) λj=>mU l x k (D l) j)=bA (D l) λj=>mU l x (k+1) 0 j:=jW λj ae=>by
 unfold mU
 by_cases h:(l.getD j kj).2.2.1<((k+1:Nat):Int)
 ·rw[Y (by omega),Y (.inl h)]
 ·rw[aa (by omega),aa (by omega)]
def aHc (l:List aB)(h:nh l)(x:Rat):(bA (D l) λj=>mU l x 10 0 j)=bA (D l) λj=>some (rP l x j):=jW λj ae=>by
 have:=(h.c _ (dy (bh ae))).2.2.2.2.2.1;have e:l.getD j kj=l[j]:=by rw[eD,bh ae];rfl
 unfold mU;rw[e,Y (.inl (by omega))]
def Wf {n:Int}(h:eJ n):K3 [.int .i64 n]=some (.same (.agg (az (av (n:Rat))))):=aC4 n h
def aHd (T:ba)(yc:T z9=aK K3)(oK:T yA=aK yV)(tB:T Gr=aK Ep){K:eK->bc->Prop}{kk:List fT}(l:List aB)(x:Rat)(ju:Qm l x)(k:Nat)(bs mz:Nat)(v1 Ii:M)(fe:Option (Nat×List M))(tm:Nat->M)(m:Mem)
  (au:tm 1=v1) (bt:tm 6=.ref 249035 bs 4 0 (D l)) (bS:tm 7=.ptr 249007 mz 0) (ee:tm 8=.H (.int .i64 k)) (eT:tm 9=.H (.int .i64 (hx l k))) (gf:tm 12=.H (.bool (decide (((hx l k:Int):Rat)<=hV l x k)))) (pv:tm 37=Ii) (mT:tm 60=.H (.ax (l.map bL))) (vc:tm 61=.H (.int .i64 (D l))) (Ij:tm 62=.H (.int .i64 0)) (bU:m 249002=fe) (mq:m 249007=some (mz,(az (av (hV l x k))).map .H)) (qa:m 249035=some (bs,mS rO (bA (D l) λj=>mU l x k 0 j)))
  (db:∀tm' m',tm' 1=v1->tm' 6=.ref 249035 bs 4 0 (D l)->tm' 7=.ptr 249007 mz 0->tm' 9=.H (.int .i64 (hx l k))->tm' 12=.H (.bool (decide (((hx l k:Int):Rat)<=hV l x k)))->tm' 37=Ii->m' 249002=fe->m' 249007=some (mz,(az (av (hV l x k))).map .H)->m' 249035=some (bs,mS rO (bA (D l) λj=>mU l x (k+1) 0 j))->cg T K kk (.exit 4) ⟨tm',m'⟩) :
  wp T (K2.body.sub [1,1,1,1,0,1,0,0,1,1,0,0,1,1,1,1,0,1,0]) (cg T K kk) ⟨tm,m⟩:=by
 simp only[K2,er.sub];have how:=ju.own;have hlen:=how.len;refine dd [1,6,7,8,9,12,37,60,61] [249002,249007] (λ(t:Nat) tm m=>t<=D l/\tm 62=.H (.int .i64 t)/\m 249035=some (bs,mS rO (bA (D l) λj=>mU l x k t j))) (λt=>D l-t) 0 (by refine⟨by omega,Ij,qa⟩) ?_;intro vs ms aQ aM;simp only[go_sem,go_sem_proc,au,bt,bS,ee,eT,gf,pv,mT,vc,bU,mq] at aQ aM;subst aQ aM;clear au bt bS ee eT gf pv mT vc Ij bU mq qa tm m;rintro t tm m I hm ⟨b0,Ij,qa⟩;simp only[go_sem,go_sem_proc,bj] at I hm;obtain⟨au,bt,bS,ee,eT,gf,pv,mT,vc⟩:=I;obtain⟨bU,mq⟩:=hm;rcases dn (t<D l) with ah|bW
 ·have d1:decide ((t:Int)<(D l:Int))=true:=cX;have bF:=eI (i:=t) (by omega);obtain⟨⟨ar,c2,c3,c4⟩,L⟩:∃c,l[t]?=some c:=⟨_,bh ah⟩;have fD:=dy L;have lR:=how.c _ fD;dsimp only at lR;have BA:l.getD t kj=(ar,c2,c3,c4):=by rw[eD,L];rfl
  have Fk:=Vs (q:=λj=>mU l x k t j) ah;rcases q:(c3==(k:Int))
  ·have b8:c3≠(k:Int):=ne_of_beq_false q
   have hC:(bA (D l) λj=>mU l x k (t+1) j)=bA (D l) λj=>mU l x k t j:=jW λj _=>by
    unfold mU
    by_cases ae:j=t
    ·subst ae;rw[BA];dsimp only
     by_cases F:c3<(k:Int)
     ·rw[Y (.inl F),Y (.inl F)]
     ·rw[aa (by omega),aa (by omega)]
    ·by_cases F:(l.getD j kj).2.2.1<(k:Int)\/((l.getD j kj).2.2.1=(k:Int)/\j<t)
     ·rw[Y F,Y (by omega)]
     ·rw[aa F,aa (by omega)]
   refine ai ?_;repeat' (intro h<;>simp only[h,go_sem,go_sem_proc,au,bt,bS,ee,eT,gf,pv,mT,vc,Ij,bU,mq,L,d1,bF,q,bL,bne,cA,al,bm]<;>try refine ag ?_ ?_)
   exact⟨t+1,by omega,by omega,rfl,by rw[hC];exact qa⟩
  ·have adX:c3=(k:Int):=eq_of_beq q;have lC:=λa b c d=>Vt (q:=λj=>mU l x k t j) ah a b c d
   have pH:∀aO:bz,aO=rP l x t->(bA (D l) λj=>if j=t then some aO else mU l x k t j)=bA (D l) λj=>mU l x k (t+1) j:=by
    intro aO ec;refine jW λj _=>?_
    by_cases ae:j=t
    ·subst ae;rw[Y rfl];unfold mU;rw[BA,Y (.inr ⟨adX,by omega⟩),ec]
    ·rw[aa ae];unfold mU
     by_cases F:(l.getD j kj).2.2.1<(k:Int)\/((l.getD j kj).2.2.1=(k:Int)/\j<t)
     ·rw[Y F,Y (by omega)]
     ·rw[aa F,aa (by omega)]
   have Vx:rP l x t=av (gW l x (ar,c2,c3,c4)):=by unfold rP;rw[BA]
   have Qo:eJ c4:=mQ (by omega) (by omega);have C3:=Wf Qo;rcases dw:decide (((hx l k:Int):Rat)<=hV l x k)
   ·have aoz:=of_decide_eq_false dw;have adi:=how.adW k;have x0:eJ (hx l k):=mQ (by omega) (by omega);have zw:=Wf x0;have wH:=aqr ju k;have Fj:e0 54 ((c4:Int):Rat):=A1 (by omega);have Lf:e0 54 ((hx l k:Int):Rat):=A1 (by omega);have adj:((hx l k:Int):Rat)≠0:=by have:=aG0 l x k;grind
    have f1:=anR (p5 Qo) (hU wH (by omega)) (PM Fj wH (by omega));have f2:=aDu (hU (E1 Fj wH) (by omega)) (p5 x0) adj (aca (E1 Fj wH) Lf (by omega));have iK:=aG5 how fD adX aoz;dsimp only at iK;have aHe:=λa b c d=>Vt (q:=λj=>if j=t then some ((a,b),(c,d)) else mU l x k t j) ah;have aHf:=λa b c d=>Vs (q:=λj=>if j=t then some ((a,b),(c,d)) else mU l x k t j) ah;have aL:=pH (av (((c4:Int):Rat)*hV l x k/((hx l k:Int):Rat))) (by rw[Vx,iK])
    have aHg:∀aO aqt:bz,(bA (D l) λj=>if j=t then some aO else if j=t then some aqt else mU l x k t j)=bA (D l) λj=>if j=t then some aO else mU l x k t j:=λaO aqt=>jW λj _=>by
     by_cases ae:j=t
     ·rw[Y ae,Y ae]
     ·rw[aa ae,aa ae,aa ae]
    clear wH Fj Lf;generalize av (((c4:Int):Rat)*hV l x k/((hx l k:Int):Rat))=G1 at *;generalize av (((c4:Int):Rat)*hV l x k)=G2 at *;generalize av ((hx l k:Int):Rat)=G3 at *;generalize adY:av (hV l x k)=G4 at *;generalize av ((c4:Int):Rat)=G5 at *;obtain⟨⟨cU,dc⟩,⟨hj,kV⟩⟩:=G1;obtain⟨⟨F,G⟩,⟨ab,aV⟩⟩:=G2;obtain⟨⟨i1,i2⟩,⟨i3,i4⟩⟩:=G3;obtain⟨⟨Fl,w6⟩,⟨adk,CM⟩⟩:=G4;obtain⟨⟨hB,ib⟩,⟨oR,pV⟩⟩:=G5;simp only[az,eE,bY] at C3 zw f1 f2 mq;have da:=lC hB ib oR pV;have UX:=aHe hB ib oR pV cU dc hj kV;have abh:=aHf hB ib oR pV;rw[aHg,aL] at UX;refine ai ?_;repeat' (intro h<;>simp only[h,go_sem,go_sem_proc,yc,oK,tB,au,bt,bS,ee,eT,gf,pv,mT,vc,Ij,bU,mq,qa,L,d1,bF,ah,q,dw,C3,zw,f1,f2,Fk,abh,da,UX,bL,al,bm,bne,beq_self_eq_true,b3,cA]<;>try refine ag ?_ ?_)
    exact⟨t+1,by omega,rfl,by omega,rfl,rfl⟩
   ·have iK:=aG4 how fD adX (of_decide_eq_true dw);dsimp only at iK;have aL:=pH (av ((c4:Int):Rat)) (by rw[Vx,iK]);generalize av ((c4:Int):Rat)=G5 at *;obtain⟨⟨hB,ib⟩,⟨oR,pV⟩⟩:=G5;simp only[az] at C3;have da:=lC hB ib oR pV;rw[aL] at da;refine ai ?_;repeat' (intro h<;>simp only[h,go_sem,go_sem_proc,yc,au,bt,bS,ee,eT,gf,pv,mT,vc,Ij,bU,mq,qa,L,d1,bF,ah,q,dw,C3,Fk,da,bL,al,bm,bne,beq_self_eq_true,b3,cA]<;>try refine ag ?_ ?_)
    exact⟨t+1,by omega,by omega,rfl,rfl⟩
 ·have d1:decide ((t:Int)<(D l:Int))=false:=b7;obtain rfl:t=D l:=by omega
  rw[aHb] at qa;refine ai ?_;repeat' (intro h<;>simp only[h,go_sem,go_sem_proc,au,bt,bS,ee,eT,gf,pv,mT,vc,Ij,d1]<;>try refine ag ?_ ?_)
  refine db _ _ ?_ ?_ ?_ ?_ ?_ ?_ bU mq qa<;>simp only[dC,cE,if_false,au,bt,bS,eT,gf,pv]
def Wg:=bV Ld λ(x,l)=>cu (Qm l x) (.same (.dj [.ax ((l.map λc=>av (gW l x c)).map az),.int .i64 0]))
@[go_sem] def aHh (x l):=cH Wg rfl aow (x,l) rfl
def aHi (T:ba)(iD:T o1=aK Ap)(kL:T sa=aK v5)(yc:T z9=aK K3)(Fx:T YV=aK We)(oK:T yA=aK yV)(tB:T Gr=aK Ep)(nL:T xb=aK yU):WF T K2 Wg:=by
 refine cp λ(x,l)=>cT λJ=>⟨rfl,ck ?_⟩;simp only[K2,Ld,cd];have lQ:=J;obtain⟨how,iW,rh⟩:=J;have hT:=hU rh (by omega);have hlen:=how.len;have adh:=PV hT;have CF:=Qb hT (p5 H0);have QV:decide (lb x ((0:Int):Rat)<0)=false:=by rw[acO];exact kM (by have:((0:Int):Rat)=0:=rfl;grind)
 have bw:=mu hT;have ju:=aov l x;have f0:=Wf H0;have iT:=aG1 how iW;have hc:=aHa l how x;have a2:=ac9 (D l);rw[<-hc] at a2;have w7:(64*D l<=140737488355328)=True:=eq_true (by omega);have xG:(D l<=maxLen)=True:=eq_true (by unfold maxLen;omega);generalize ec:av x=aO at *;generalize acV:av ((0:Int):Rat)=xB at *;obtain⟨⟨cz,cY⟩,⟨eA,eQ⟩⟩:=aO;obtain⟨⟨fB,gN⟩,⟨mR,tO⟩⟩:=xB;simp only[az] at f0 CF;simp only[go_sem,go_sem_proc,iD,kL,yc,Fx,oK,tB,nL,az,adh,bw.1,bw.2,f0,CF,QV,how,w7,xG,a2,al,b3,cA];refine dd [1,6,7] [249002] (λ(k:Nat) tm m=>k<=10/\tm 37=.H (.int .i64 k)/\m 249007=some (0,(az (av (hV l x k))).map .H)/\m 249035=some (0,mS rO (bA (D l) λj=>mU l x k 0 j))) (λk=>10-k) 0 (by refine⟨by omega,rfl,by rw[iT,ec];rfl,rfl⟩) ?_;intro vs ms aQ aM;simp only[go_sem,go_sem_proc,iD,kL,yc,Fx,oK,tB,nL,az,al] at aQ aM;subst aQ aM;rintro k tm m I hm ⟨aDX,pv,mq,qa⟩;simp only[go_sem,go_sem_proc,iD,kL,yc,Fx,oK,tB,nL,bj] at I hm;obtain⟨au,bt,bS⟩:=I;rcases dn (k<10) with ah|bW
 ·have d1:decide ((k:Int)<10)=true:=cX;have bF:=eI (i:=k) (by omega);simp only[go_sem,go_sem_proc,iD,kL,yc,Fx,oK,tB,nL,au,bt,bS,pv,hm,d1,al];refine aG8 T l how k (.H (.ax (l.map bL))) (.ref 249035 0 4 0 (D l)) (.ptr 249007 0 0) (.H (.int .i64 k)) _ (some (0,(az (av (hV l x k))).map .H)) (some (0,mS rO (bA (D l) λj=>mU l x k 0 j))) _ _ ?_ ?_ ?_ ?_ ?_ ?_ ?_ ?_ ?_ hm mq qa ?_
  all_goals first|(intro tm' m' cy fv jk k9 ly aqu ek qV aqv)|(simp only[dC,cE,if_false,if_true,au,bt,bS,pv];done)
  have adi:=how.adW k;have x0:eJ (hx l k):=mQ (by omega) (by omega);have zw:=Wf x0;have wH:=aqr lQ k;have yW:=hU wH (by omega);have Lf:e0 54 ((hx l k:Int):Rat):=A1 (by omega);have lV:=Qb yW (p5 x0);have JP:decide (lb (hV l x k) ((hx l k:Int):Rat)>=0)=decide (((hx l k:Int):Rat)<=hV l x k):=Va;have nF:=U9 yW (p5 x0) (xQ wH (wy Lf) (by omega));have aqw:=λ(K:eK->bc->Prop) (kk:List fT) bs mz v1 Ii fe tm m=>aHd T yc oK tB (K:=K) (kk:=kk) l x lQ k bs mz v1 Ii fe tm m;have zm:((hx l k:Int):Rat)<=hV l x k->av (hV l x (k+1))=av (hV l x k-((hx l k:Int):Rat)):=λh=>by rw[aG2 how h]
  have gl:¬ ((hx l k:Int):Rat)<=hV l x k->av (hV l x (k+1))=((fB,gN),(mR,tO)):=λh=>by rw[aG3 h,<-acV];rfl
  generalize av (hV l x k-((hx l k:Int):Rat))=G1 at *;generalize aQu:av (hV l x k)=G2 at *;generalize av ((hx l k:Int):Rat)=G3 at *;generalize adY:av (hV l x (k+1))=G4 at *;obtain⟨⟨cU,dc⟩,⟨hj,kV⟩⟩:=G1;obtain⟨⟨F,G⟩,⟨ab,aV⟩⟩:=G2;obtain⟨⟨i1,i2⟩,⟨i3,i4⟩⟩:=G3;simp only[az,eE,bY] at zw lV nF qV;simp only[go_sem,go_sem_proc,iD,kL,yc,Fx,oK,tB,nL,cy,fv,jk,k9,ly,aqu,ek,qV,aqv,zw,lV,JP,al];refine aqw _ _ 0 0 (.H (.ax (l.map bL))) (.H (.int .i64 k)) _ _ _ ?_ ?_ ?_ ?_ ?_ ?_ ?_ ?_ ?_ ?_ ek ?_ aqv ?_
  all_goals first|(intro C2 bU Fl EC Wh Wi Wj aqx fa Dc aqy)|(simp only[dC,cE,if_false,if_true,cy,fv,jk,k9,ly,aqu];done)|(rw[qV];rfl)
  simp only[az,eE,bY] at Dc;clear aqw;rcases q:decide (((hx l k:Int):Rat)<=hV l x k)
  ·have he:=gl (of_decide_eq_false q);rw[q] at Wj;refine ai ?_;repeat' (intro (ao:_=_)<;>simp only[ao,go_sem,go_sem_proc,iD,kL,yc,Fx,oK,tB,nL,Fl,EC,Wh,Wi,Wj,aqx,fa,Dc,aqy,f0,bF,cA,b3]<;>try refine ag ?_ ?_)
   exact⟨k+1,by omega,by omega,rfl,by rw[adY,he];rfl,rfl⟩
  ·have he:=zm (of_decide_eq_true q);rw[q] at Wj;refine ai ?_;repeat' (intro (ao:_=_)<;>simp only[ao,go_sem,go_sem_proc,iD,kL,yc,Fx,oK,tB,nL,Fl,EC,Wh,Wi,Wj,aqx,fa,Dc,aqy,zw,nF,bF,bne,beq_self_eq_true,cA,b3]<;>try refine ag ?_ ?_)
   exact⟨k+1,by omega,by omega,rfl,by rw[adY,he];rfl,rfl⟩
 ·have d1:decide ((k:Int)<10)=false:=b7;obtain rfl:k=10:=by omega
  rw[aHc l how x,ju,ada] at qa;have lg:=λ(K:bc->Prop) (st:bc)=>nB (K:=K) (st:=st) jj 6 249035 0 (l.map λc=>av (gW l x c));rw[al] at lg;refine ai ?_;repeat' (intro (ao:_=_)<;>simp only[ao,go_sem,go_sem_proc,iD,kL,yc,Fx,oK,tB,nL,au,bt,bS,pv,hm,d1,qa,lg,al]<;>try refine ag ?_ ?_)
def Wk {fR gI n:Nat}(key:Nat->Nat)(vS:Nat->M)(Wl:∀i,i<n->key i≠fR)(MD:∀i j,i<n->j<n->key i=key j->i=j):∀r d (q:Nat->M) (m:Mem),d+r=n->m fR=some (gI,bA n q)->(∀i,i<d->q i=vS i) ->
  (∀i,d<=i->i<n->q i=vS i\/∃g sz len cs x,q i=.ref (key i) g sz 0 len/\m (key i)=some (g,cs)/\(∀bU:Mem,bU (key i)=some (g,cs)->cV 1 bU (.ref (key i) g sz 0 len)=some x)/\vS i=.H x) ->
  ∃m',vl m m'/\m' fR=some (gI,bA n vS)/\∀k:Nat,k≠fR->(∀i,i<n->k≠key i)->m' k=m k
 |0,d,q,m,Z,F,G,_=>⟨m,.refl m,by rw[F,jW λi O=>G i (by omega)],λ_ _ _=>rfl⟩
 |r+1,d,q,m,Z,F,G,ab=>by
  rcases ab d (cl _) (by omega) with he|⟨g,sz,len,cs,x,au,aC,bN,bK⟩
  ·obtain⟨m',cy,dw,dW⟩:=Wk key vS Wl MD r (d+1) q m (by omega) F (λi O=>by
    by_cases iw:i=d
    ·rw[iw];exact he
    ·exact G i (by omega)) λi O cP=>ab i (by omega) cP
   exact⟨m',cy,dw,dW⟩
  ·have lv:d<n:=by omega
   have m2:(bA n q)[d]?=some (.ref (key d) g sz 0 len):=by rw[ki q lv,au]
   have s6:=ud.RC fR gI _ d (key d) g sz 0 len cs x F m2 aC (Wl d lv) (bN m aC);have iO:a5 (kill m (key d)) fR gI ((bA n q).set d (.H x)) fR=some (gI,bA n λj=>if j=d then .H x else q j):=by rw[km,A5]
   obtain⟨m',cy,dw,dW⟩:=Wk key vS Wl MD r (d+1) (λj=>if j=d then .H x else q j) _ (by omega) iO (λi O=>by
    by_cases iw:i=d
    ·rw[Y iw,iw,bK]
    ·rw[aa iw];exact G i (by omega)) λi O cP=>by
     rw[aa (by omega)];rcases ab i (by omega) cP with he|⟨dp,eX,Xy,jY,ku,f1,f2,f3,f4⟩
     ·exact .inl he
     ·refine .inr ⟨dp,eX,Xy,jY,ku,f1,?_,f3,f4⟩;rw[c5 (Wl i cP)];unfold kill;rw[c5 λa1=>by have:=MD i d cP lv a1;omega]
      exact f2
   refine⟨m',.step s6 cy,dw,λk I uv=>?_⟩;rw[dW k I uv,c5 I];unfold kill;rw[c5 (uv d lv)]
def gX (l:List aB)(i:Nat):List Nat:=(eM (D l)).filter λj=>(l.getD j kj).1==(i:Int)
def adZ (l:List aB)(c:aB)(i:Nat):gX (l++[c]) i=if c.1=(i:Int) then gX l i++[D l] else gX l i:=by
 unfold gX;have au:(l++[c]).getD (D l) kj=c:=by rw[eD,ov (cl _),j0];rfl
 have aC:(eM (D l)).filter (λj=>((l++[c]).getD j kj).1==(i:Int))=(eM (D l)).filter λj=>(l.getD j kj).1==(i:Int):=List.filter_congr λj ae=>by
  rw[eD,qi (ig.1 ae),<-eD]
 rw[gC,qI,rM,zo,aC]
 by_cases h:c.1=(i:Int)
 ·rw[Y h,xW (by rw[au];simpa using h),sE]
 ·rw[aa h,zp (by rw[au];simpa using h),sE,hD]
def ad0 {l:List aB}{i j:Nat}:j∈gX l i↔j<D l/\(l.getD j kj).1=(i:Int):=by
 unfold gX;rw[List.mem_filter,ig,beq_iff_eq]
def ad1 (l:List aB)(c:aB)(i:Nat):dk (l++[c]) i=if c.1=(i:Int) then dk l i++[c] else dk l i:=by
 unfold dk;rw[zo]
 by_cases h:c.1=(i:Int)
 ·rw[Y h,xW (by simpa using h),sE]
 ·rw[aa h,zp (by simpa using h),sE,hD]
def aqz (l:List aB)(i:Nat):dk l i=(gX l i).map λj=>l.getD j kj:=by
 have:∀n (l:List aB),D l=n->dk l i=(gX l i).map λj=>l.getD j kj:=by
  intro n
  induction n with
  |zero =>
   intro l aq;have:l=[]:=xY.1 aq;subst this;rfl
  |succ n aG =>
   intro l aq;rcases List.eq_nil_or_concat l with ay|⟨gb,c,rfl⟩
   ·subst ay;cases aq
   ·rw[List.concat_eq_append] at *;simp only[gC,qI] at aq;have au:(gb++[c]).getD (D gb) kj=c:=by rw[eD,ov (cl _),j0];rfl
    have aC:(gX gb i).map (λj=>(gb++[c]).getD j kj)=(gX gb i).map λj=>gb.getD j kj:=ox λj ae=>by
     rw[eD,qi (ad0.1 ae).1,<-eD]
    rw[ad1,adZ]
    by_cases h:c.1=(i:Int)
    ·rw[Y h,Y h,kE,aC,aG gb (by omega)];show _=_++[(gb++[c]).getD (D gb) kj];rw[au]
    ·rw[aa h,aa h,aC,aG gb (by omega)]
 exact this _ l rfl
def Wm (l:List aB)(i:Nat):(gX l i).length=(dk l i).length:=by rw[aqz,al]
def aHj (l:List aB)(i:Nat):(gX l i).length<=D l:=by
 unfold gX;exact eR (p2 _ _) (by rw[td];exact cl _)
def mY (l:List aB)(gc:Nat->Nat)(i:Nat):M:=if dk l i=[] then .nil else .ref (233600+i) (gc i) 4 0 (dk l i).length
def pp (l:List aB)(e1:Nat->Nat)(i:Nat):M:=if dk l i=[] then .nil else .ref (233700+i) (e1 i) 1 0 (dk l i).length
structure LF (n:Nat) (l:List aB) (gc e1:Nat->Nat) (m:Mem):Prop where
 e2:m 233019=some (0,bA n (mY l gc))
 fa:m 233022=some (0,bA n (pp l e1))
 cy:∀i,i<n->dk l i≠[]->m (233600+i)=some (gc i,aU bL (dk l i))
 dw:∀i,i<n->dk l i≠[]->m (233700+i)=some (e1 i,aU h4 (gX l i))
def LF.next {n:Nat}{l:List aB}{gc e1:Nat->Nat}{m m':Mem}(h:LF n l gc e1 m)(aL:n<=6){ar:Nat}{c2 c3 c4:Int}(cU dc:Nat)
  (F:m' 233019=some (0,bA n λi=>if i=ar then .ref (233600+ar) cU 4 0 ((dk l ar).length+1) else mY l gc i)) (G:m' 233022=some (0,bA n λi=>if i=ar then .ref (233700+ar) dc 1 0 ((dk l ar).length+1) else pp l e1 i))
  (ab:m' (233600+ar)=some (cU,aU bL (dk l ar++[((ar:Int),c2,c3,c4)]))) (aV:m' (233700+ar)=some (dc,aU h4 (gX l ar++[D l])))
  (bw:∀i,i<n->i≠ar->m' (233600+i)=m (233600+i)/\m' (233700+i)=m (233700+i)):LF n (l++[((ar:Int),c2,c3,c4)]) (λi=>if i=ar then cU else gc i) (λi=>if i=ar then dc else e1 i) m':=by
 have Wn:∀i:Nat,i≠ar->dk (l++[((ar:Int),c2,c3,c4)]) i=dk l i:=λi O=>by rw[ad1,aa (by show ¬ ((ar:Int)=(i:Int));omega)]
 have SQ:∀i:Nat,i≠ar->gX (l++[((ar:Int),c2,c3,c4)]) i=gX l i:=λi O=>by rw[adZ,aa (by show ¬ ((ar:Int)=(i:Int));omega)]
 have so:dk (l++[((ar:Int),c2,c3,c4)]) ar=dk l ar++[((ar:Int),c2,c3,c4)]:=by rw[ad1,Y rfl]
 have sp:gX (l++[((ar:Int),c2,c3,c4)]) ar=gX l ar++[D l]:=by rw[adZ,Y rfl]
 refine⟨?_,?_,λi O b8=>?_,λi O b8=>?_⟩
 ·rw[F]
  congr 2
  refine jW λi O=>?_;unfold mY
  by_cases J:i=ar
  ·subst J;rw[so,Y rfl,aa (by simp),gC];dsimp only;rw[Y rfl];rfl
  ·rw[Wn i J,aa J];dsimp only;rw[aa J]
 ·rw[G]
  congr 2
  refine jW λi O=>?_;unfold pp
  by_cases J:i=ar
  ·subst J;rw[so,Y rfl,aa (by simp),gC];dsimp only;rw[Y rfl];rfl
  ·rw[Wn i J,aa J];dsimp only;rw[aa J]
 ·by_cases J:i=ar
  ·subst J;rw[Y rfl,so];exact ab
  ·rw[Wn i J] at b8 ⊢;rw[aa J,(bw i O J).1];exact h.cy i O b8
 ·by_cases J:i=ar
  ·subst J;rw[Y rfl,sp];exact aV
  ·rw[Wn i J] at b8;rw[SQ i J,aa J,(bw i O J).2];exact h.dw i O b8
structure Ik (cs:List aB) (h:List Rat):Prop where
 len:(D cs)<=12
 n:(D h)<=6
 c:∀c∈cs,0<=c.1/\c.1<(D h) /\ -1<=c.2.1/\c.2.1<60/\0<=c.2.2.1/\c.2.2.1<10/\0<=c.2.2.2/\c.2.2.2<=1000000000000000
 x:∀x∈h,0<=x/\e0 460 x
def aHk {K:bc->Prop}{tm:Nat->M}{mem My mem':Mem}(h:ud mem My)(G:ud My mem')(db:∀bk,bk=mem'->K ⟨tm,bk⟩):lp K ⟨tm,mem⟩ .many:=⟨mem',.step h (.step G (.refl _)),db _ rfl⟩
def aHl (T:ba){K:eK->bc->Prop}{kk:List fT}(cs:List aB)(h:List Rat)(aE:Ik cs h)(v0 v1:M)(gD:Mem)(kT:tW v0 cs gD)(tm:Nat->M)(m:Mem)
  (bx:tm 0=v0) (au:tm 1=v1) (bt:tm 6=.ref 233019 0 1 0 (D h)) (bS:tm 7=.ref 233022 0 1 0 (D h)) (Fy:tm 23=v0) (zE:tm 24=.H (.int .i64 (D cs))) (l6:tm 25=.H (.int .i64 0)) (lk:m 233057=none) (gc e1:Nat->Nat) (bH:LF (D h) [] gc e1 m) (bg:df 233 gD m)
  (db:∀tm' m' Mz Vc,tm' 0=v0->tm' 1=v1->tm' 6=.ref 233019 0 1 0 (D h)->tm' 7=.ref 233022 0 1 0 (D h)->m' 233057=none->LF (D h) cs Mz Vc m'->df 233 gD m'->cg T K kk (.exit 0) ⟨tm',m'⟩) :
  wp T (Eu.body.sub [1,1,1,0,1,0]) (cg T K kk) ⟨tm,m⟩:=by
 simp only[Eu,er.sub];have aL:=aE.n;have eu:=aE.len;refine dd [0,1,6,7,23,24] [233057] (λ((t,gc,e1):Nat×(Nat->Nat)×(Nat->Nat)) tm m=>t<=D cs/\tm 25=.H (.int .i64 t)/\LF (D h) (cs.take t) gc e1 m/\df 233 gD m) (λ(t,_)=>D cs-t) (0,gc,e1) (by refine⟨by omega,l6,by rw[nw];exact bH,bg⟩) ?_;intro vs ms aQ aM;simp only[go_sem,go_sem_proc,bx,au,bt,bS,Fy,zE,lk] at aQ aM;subst aQ aM;clear bx au bt bS Fy zE l6 lk bH bg tm m;rintro⟨t,gc,e1⟩ tm m I lk ⟨b0,l6,bH,bg⟩;simp only[go_sem,go_sem_proc,bj] at I lk;obtain⟨bx,au,bt,bS,Fy,zE⟩:=I;rcases dn (t<D cs) with ah|bW
 ·have d1:decide ((t:Int)<(D cs:Int))=true:=cX;have bF:=eI (i:=t) (by omega);obtain⟨⟨ar,c2,c3,c4⟩,L⟩:∃c,cs[t]?=some c:=⟨_,bh ah⟩;have kP:=aE.c _ (dy L);dsimp only at kP;obtain⟨aQv,pW,adJ⟩:=kT.at_ t _ L;have Ib:=adJ m bg.outs;simp only[go_sem,go_sem_proc,bL,eE,bY] at pW Ib;obtain⟨ar,rfl⟩:∃k:Nat,ar=(k:Int):=⟨ar.toNat,by omega⟩
  have hb:cs.take (t+1)=cs.take t++[((ar:Int),c2,c3,c4)]:=by rw[hZ,L];rfl
  have mK:(cs.take t).length=t:=by rw[gP];omega
  generalize aq:cs.take t=l at *;have g7:ar<D h:=by omega
  have e2:=bH.e2;have fa:=bH.fa;have cU:=x5 (ki (mY l gc) g7);have dc:=x5 (ki (pp l e1) g7);have hB:(bA (D h) (mY l gc)).length=D h:=gB _ _;have ib:(bA (D h) (pp l e1)).length=D h:=gB _ _;have s1:=λv=>(VW (l:=bA (D h) (mY l gc)) (k:=ar) (v:=v) (by rw[gB];exact g7)).trans (A5 (mY l gc) v);have s2:=λv=>(VW (l:=bA (D h) (pp l e1)) (k:=ar) (v:=v) (by rw[gB];exact g7)).trans (A5 (pp l e1) v);have eN:ar+1<=D h:=by omega
  have pC:(1<=maxLen)=True:=eq_true (by decide);have FV:(dk l ar).length<=12:=eR (p2 _ _) (by omega);have ia:=Wm l ar;have Wo:∀i,i<(D h)->233600+i≠233009/\233600+i≠233019/\233600+i≠233022/\233600+i≠233043/\233600+i≠233051/\233600+i≠233700+ar/\233600+i≠233057:=λi O=>by omega
  have Wp:∀i,i<(D h)->233700+i≠233009/\233700+i≠233019/\233700+i≠233022/\233700+i≠233043/\233700+i≠233051/\233700+i≠233600+ar/\233700+i≠233057:=λi O=>by omega
  by_cases jv:dk l ar=[]
  ·have ad2:mY l gc ar=.nil:=by unfold mY;rw[Y jv]
   have ad3:pp l e1 ar=.nil:=by unfold pp;rw[Y jv]
   have H9:gX l ar=[]:=xY.1 (by rw[ia,jv];rfl);rw[ad2] at cU;rw[ad3] at dc;simp only[go_sem,go_sem_proc,pC,bx,au,bt,bS,Fy,zE,l6,pW,Ib,e2,fa,cU,dc,hB,ib,s1,s2,d1,eN,g7,bL,dZ,al,bm];obtain⟨f11,f12,f13,f14,f15,f16,f17⟩:=Wo ar g7;obtain⟨f21,f22,f23,f24,f25,f26,f27⟩:=Wp ar g7
   refine aHk (ud.RB 233019 0 _ ar 233043 (gk (m 233043)) 4 0 1 _ (233600+ar) ((c5 (by decide)).trans km) ((ki _ g7).trans (by rw[Y rfl])) ((c5 (by decide)).trans ((c5 (by decide)).trans ((c5 (by decide)).trans km))) (by decide) f14 f12)
    (ud.RB 233022 0 _ ar 233051 (gk (m 233051)) 1 0 1 _ (233700+ar) ((c5 (by decide)).trans ((c5 (Ne.symm f13)).trans ((c5 (by decide)).trans km))) ((ki _ g7).trans (by rw[Y rfl])) ((c5 (by decide)).trans ((c5 (Ne.symm f15)).trans ((c5 (by decide)).trans ((c5 (by decide)).trans ((c5 (by decide)).trans km))))) (by decide) f25 f23) ?_
   intro M2 fU
   have nR:∀k:Nat,k≠233009->k≠233019->k≠233022->k≠233043->k≠233051->k≠233600+ar->k≠233700+ar->M2 k=m k:=λk eP yJ yH aqA aqB aHm aHn=>by
    rw[fU,c5 yH,c5 aHn,c5 aqB,c5 yJ,c5 aHm,c5 aqA,c5 yH,c5 yJ,c5 aqB,c5 aqA,c5 eP,c5 eP]
   obtain⟨Wq,wo,ze⟩:∃Wq,M2 233019=some (0,bA (D h) λi=>if i=ar then .ref (233600+ar) Wq 4 0 ((dk l ar).length+1) else mY l gc i)/\M2 (233600+ar)=some (Wq,aU bL (dk l ar++[((ar:Int),c2,c3,c4)])):=by
    rw[jv];apply Exists.intro;apply And.intro
    rotate_left
    ·rw[fU,c5 f13,c5 f16,c5 f15,c5 f12,km];rfl
    ·rw[fU,c5 (by decide),c5 (Ne.symm f22),c5 (by decide),km,A5]
     congr 2
     refine jW λi _=>?_
     by_cases O:i=ar
     ·rw[Y O,Y O];rfl
     ·rw[aa O,aa O,aa O]
   obtain⟨Wr,QW,H8⟩:∃Wr,M2 233022=some (0,bA (D h) λi=>if i=ar then .ref (233700+ar) Wr 1 0 ((dk l ar).length+1) else pp l e1 i)/\M2 (233700+ar)=some (Wr,aU h4 (gX l ar++[D l])):=by
    rw[jv,H9,mK];apply Exists.intro;apply And.intro
    rotate_left
    ·rw[fU,c5 f23,km];rfl
    ·rw[fU,km,A5]
     congr 2
     refine jW λi _=>?_
     by_cases O:i=ar
     ·rw[Y O,Y O];rfl
     ·rw[aa O,aa O,aa O]
   have jT:=bH.next (m':=M2) aL Wq Wr wo QW ze H8 λi O b8=>⟨by
    obtain⟨cz,cY,eA,eQ,p1,u7,-⟩:=Wo i O;exact nR _ cz cY eA eQ p1 (by omega) u7,by
    obtain⟨cz,cY,eA,eQ,p1,u7,-⟩:=Wp i O;exact nR _ cz cY eA eQ p1 u7 (by omega)⟩
   have ad4:M2 233057=none:=(nR 233057 (by decide) (by decide) (by decide) (by decide) (by decide) (Ne.symm f17) (Ne.symm f27)).trans lk;have jB:df 233 gD M2:=λk I=>(nR k (by omega) (by omega) (by omega) (by omega) (by omega) (by omega) (by omega)).trans (bg k I);clear fU nR wo ze QW H8;refine ai ?_;repeat' (intro (ao:_=_)<;>simp only[ao,go_sem,go_sem_proc,bx,au,bt,bS,Fy,zE,l6,bF,ad4]<;>try refine ag ?_ ?_)
   exact⟨(t+1,_,_),by dsimp only;omega,by dsimp only;omega,rfl,by rw[hb];exact jT,jB⟩
  ·have ad2:mY l gc ar=.ref (233600+ar) (gc ar) 4 0 (dk l ar).length:=by unfold mY;rw[aa jv]
   have ad3:pp l e1 ar=.ref (233700+ar) (e1 ar) 1 0 (gX l ar).length:=by unfold pp;rw[aa jv,ia]
   rw[ad2] at cU;rw[ad3] at dc;have cy:=bH.cy ar g7 jv;have dw:=bH.dw ar g7 jv;have Yl:=kx p3 U0 (233600+ar) (gc ar) 32 (dk l ar) ((ar:Int),c2,c3,c4) (cs:=[.H (.int .i64 ar),.H (.int .i64 c2),.H (.int .i64 c3),.H (.int .i64 c4)]) rfl (by omega) (by omega);have Jg:=kx wk akZ (233700+ar) (e1 ar) 8 (gX l ar) (D l) (cs:=[.H (.int .i64 t)]) (by rw[mK];rfl) (by omega) (by omega);obtain⟨f11,f12,f13,f14,f15,f16,f17⟩:=Wo ar g7;obtain⟨f21,f22,f23,f24,f25,f26,f27⟩:=Wp ar g7;have aQw:(233600+ar)=233600+ar:=rfl;generalize dX:233600+ar=A at *;generalize ga:233700+ar=B at *;have QX:A≠B:=f16;have dI:(A==233009)=false:=beq_eq_false_iff_ne.2 f11;have aHo:(233009==A)=false:=beq_eq_false_iff_ne.2 (Ne.symm f11);have ek:(A==233019)=false:=beq_eq_false_iff_ne.2 f12;have aHp:(233019==A)=false:=beq_eq_false_iff_ne.2 (Ne.symm f12);have ht:(A==233022)=false:=beq_eq_false_iff_ne.2 f13;have aHq:(233022==A)=false:=beq_eq_false_iff_ne.2 (Ne.symm f13);have fV:(A==233043)=false:=beq_eq_false_iff_ne.2 f14;have aHr:(233043==A)=false:=beq_eq_false_iff_ne.2 (Ne.symm f14);have rN:(A==233051)=false:=beq_eq_false_iff_ne.2 f15;have aHs:(233051==A)=false:=beq_eq_false_iff_ne.2 (Ne.symm f15);have l4:(A==B)=false:=beq_eq_false_iff_ne.2 QX;have aHt:(B==A)=false:=beq_eq_false_iff_ne.2 (Ne.symm QX);have hk:(B==233009)=false:=beq_eq_false_iff_ne.2 f21;have aHu:(233009==B)=false:=beq_eq_false_iff_ne.2 (Ne.symm f21);have hQ:(B==233019)=false:=beq_eq_false_iff_ne.2 f22;have aHv:(233019==B)=false:=beq_eq_false_iff_ne.2 (Ne.symm f22);have kD:(B==233022)=false:=beq_eq_false_iff_ne.2 f23;have aHw:(233022==B)=false:=beq_eq_false_iff_ne.2 (Ne.symm f23);have lf:(B==233043)=false:=beq_eq_false_iff_ne.2 f24;have aHx:(233043==B)=false:=beq_eq_false_iff_ne.2 (Ne.symm f24);have Be:(B==233051)=false:=beq_eq_false_iff_ne.2 f25;have aHy:(233051==B)=false:=beq_eq_false_iff_ne.2 (Ne.symm f25);have fx:(A=233009)=False:=eq_false f11;have fe:(B=233009)=False:=eq_false f21;have hH:(B=A)=False:=eq_false (Ne.symm QX);have iE:(233019=A)=False:=eq_false (Ne.symm f12);have Qr:(233019=B)=False:=eq_false (Ne.symm f22);have Il:(233022=A)=False:=eq_false (Ne.symm f13);have A8:(233022=B)=False:=eq_false (Ne.symm f23);have aHz:(233009=A)=False:=eq_false (Ne.symm f11);have aHA:(233009=B)=False:=eq_false (Ne.symm f21);have aHB:(A=B)=False:=eq_false QX;simp only[go_sem,go_sem_proc,pC,bx,au,bt,bS,Fy,zE,l6,pW,Ib,e2,fa,cU,dc,hB,ib,s1,s2,d1,eN,g7,cy,dw,Yl,Jg,dI,aHo,ek,aHp,ht,aHq,fV,aHr,rN,aHs,l4,aHt,hk,aHu,hQ,aHv,kD,aHw,lf,aHx,Be,aHy,fx,fe,hH,iE,Qr,Il,A8,aHz,aHA,aHB,bL,dZ,al,bm];refine adI ?_;intro M2 fU
   have nR:∀k:Nat,k≠233009->k≠233019->k≠233022->k≠A->k≠B->M2 k=m k:=λk eP yJ yH dX ga=>by
    rw[fU,c5 yH,c5 yJ,c5 ga,c5 dX,c5 eP,c5 eP]
   have wo:M2 233019=some (0,bA (D h) λi=>if i=ar then .ref A (gc ar+1) 4 0 ((dk l ar).length+1) else mY l gc i):=by
    rw[fU,c5 (by decide),km]
   have ze:M2 A=some (gc ar+1,aU bL (dk l ar++[((ar:Int),c2,c3,c4)])):=by
    rw[fU,c5 f13,c5 f12,c5 QX,km]
   have QW:M2 233022=some (0,bA (D h) λi=>if i=ar then .ref B (e1 ar+1) 1 0 ((dk l ar).length+1) else pp l e1 i):=by
    rw[fU,km,ia]
   have H8:M2 B=some (e1 ar+1,aU h4 (gX l ar++[D l])):=by
    rw[fU,c5 f23,c5 f22,km]
   have jT:=bH.next (m':=M2) aL (c2:=c2) (c3:=c3) (c4:=c4) (gc ar+1) (e1 ar+1) (by rw[dX];exact wo) (by rw[ga];exact QW) (by rw[dX];exact ze) (by rw[ga];exact H8) λi O b8=>⟨by
    obtain⟨cz,cY,eA,eQ,p1,u7,-⟩:=Wo i O;exact nR _ cz cY eA (by omega) u7,by
    obtain⟨cz,cY,eA,eQ,p1,u7,-⟩:=Wp i O;exact nR _ cz cY eA u7 (by omega)⟩
   have ad4:M2 233057=none:=(nR 233057 (by decide) (by decide) (by decide) (Ne.symm f17) (Ne.symm f27)).trans lk;have jB:df 233 gD M2:=λk I=>(nR k (by omega) (by omega) (by omega) (by omega) (by omega)).trans (bg k I);clear fU nR wo ze QW H8;refine ai ?_;repeat' (intro (ao:_=_)<;>simp only[ao,go_sem,go_sem_proc,bx,au,bt,bS,Fy,zE,l6,bF,ad4]<;>try refine ag ?_ ?_)
   exact⟨(t+1,_,_),by dsimp only;omega,by dsimp only;omega,rfl,by rw[hb];exact jT,jB⟩
 ·have d1:decide ((t:Int)<(D cs:Int))=false:=b7;rw[dD (by omega)] at bH;refine ai ?_;repeat' (intro (ao:_=_)<;>simp only[ao,go_sem,go_sem_proc,bx,au,bt,bS,Fy,zE,l6,d1]<;>try refine ag ?_ ?_)
  refine db _ _ gc e1 ?_ ?_ ?_ ?_ lk bH bg<;>simp only[dC,cE,if_false,bx,au,bt,bS]
def Bf (l:List Nat):M:=if l=[] then .nil else .H (.ax (l.map h4))
def aHC (l:List Nat):qf (Bf l)=some (D l):=by
 unfold Bf
 split
 ·rename_i h;rw[h];rfl
 ·simp[qf]
def aHD {l:List Nat}{n y:Nat}(h:l[n]?=some y):yi 1 n (Bf l)=some (.H (.ptr (h4 y))):=by
 unfold Bf
 split
 ·rename_i aq;rw[aq] at h;cases h
 ·simp only[yi,bm,h,ks]
  rfl
def aHE (l:List aB)(n:Nat)(m:Mem):cV n m (lj l)=some (.ax (l.map bL)):=by
 unfold lj
 split
 ·rename_i h;rw[h];exact avc n
 ·exact R9 n _
def LG (cs:List aB)(h:List Rat)(j:Nat):bz:=av (gW cs (h.getD (cs.getD j kj).1.toNat 0) (cs.getD j kj))
def rR (cs:List aB)(h:List Rat)(i t j:Nat):Option bz:=if (cs.getD j kj).1<(i:Int)\/((cs.getD j kj).1=(i:Int)/\j∈(gX cs i).take t) then some (LG cs h j) else none
def aHF (cs:List aB)(h:List Rat)(i:Nat):(bA (D cs) λj=>rR cs h i (gX cs i).length j)=bA (D cs) λj=>rR cs h (i+1) 0 j:=jW λj ae=>by
 unfold rR;rw[pb,nw];have hm:=ad0 (l:=cs) (i:=i) (j:=j)
 by_cases F:(cs.getD j kj).1<(i:Int)
 ·rw[Y (.inl F),Y (.inl (by omega))]
 ·by_cases G:(cs.getD j kj).1=(i:Int)
  ·rw[Y (.inr ⟨G,hm.2 ⟨ae,G⟩⟩),Y (.inl (by omega))]
  ·rw[aa (λa1=>a1.elim F λx=>G x.1),aa (λa1=>a1.elim (by omega) λx=>by simpa using x.2)]
def aHG (cs:List aB)(h:List Rat)(aE:Ik cs h):(bA (D cs) λj=>rR cs h 0 0 j)=bA (D cs) λ_=>none:=jW λj ae=>by
 have:=(aE.c _ (dy (bh ae))).1;have e:cs.getD j kj=cs[j]:=by rw[eD,bh ae];rfl
 unfold rR;rw[e,nw,aa (λa1=>a1.elim (by omega) λx=>by simpa using x.2)]
def aHH (cs:List aB)(h:List Rat)(aE:Ik cs h):(bA (D cs) λj=>rR cs h (D h) 0 j)=(cs.map λc=>av (gW cs (h.getD c.1.toNat 0) c)).map some:=by
 refine (Vr (by simp) λj ae=>?_).symm;have:=(aE.c _ (dy (bh ae))).2.1;have e:cs.getD j kj=cs[j]:=by rw[eD,bh ae];rfl
 unfold rR;rw[bm,bm,bh ae,e,Y (.inl this)];unfold LG;rw[e];rfl
def aHI (T:ba){K:eK->bc->Prop}{kk:List fT}(cs:List aB)(h:List Rat)(aE:Ik cs h)(i:Nat)(O:i<D h)(v1 tU aqC aqD aqE:M)(aqF aqG:Option (Nat×List M))(tm:Nat->M)(m:Mem)
  (au:tm 1=v1) (bS:tm 7=tU) (gg:tm 10=.ref 233057 0 4 0 (D cs)) (ij:tm 13=.H (.ax (((dk cs i).map λc=>av (gW cs (h.getD i 0) c)).map az))) (Bg:tm 58=aqC) (rQ:tm 59=aqD) (mT:tm 60=aqE) (QY:tm 79=Bf (gX cs i)) (QZ:tm 80=.H (.int .i64 (gX cs i).length)) (Q0:tm 81=.H (.int .i64 0)) (Fz:m 233019=aqF) (FA:m 233022=aqG) (lk:m 233057=some (0,mS rO (bA (D cs) λj=>rR cs h i 0 j))) (gD:Mem) (bg:df 233 gD m)
  (db:∀tm' m',tm' 1=v1->tm' 7=tU->tm' 10=.ref 233057 0 4 0 (D cs)->tm' 58=aqC->tm' 59=aqD->tm' 60=aqE->m' 233019=aqF->m' 233022=aqG->m' 233057=some (0,mS rO (bA (D cs) λj=>rR cs h (i+1) 0 j))->df 233 gD m'->cg T K kk (.exit 4) ⟨tm',m'⟩) :
  wp T (Eu.body.sub [1,1,1,1,1,0,1,0,0,1,1,0,0,1,1,1,1,0]) (cg T K kk) ⟨tm,m⟩:=by
 simp only[Eu,er.sub];have eu:=aE.len;have ia:=aHj cs i;refine dd [1,7,10,13,58,59,60,79,80] [233019,233022] (λ(k:Nat) tm m=>k<=(gX cs i).length/\tm 81=.H (.int .i64 k)/\m 233057=some (0,mS rO (bA (D cs) λj=>rR cs h i k j))/\df 233 gD m) (λk=>(gX cs i).length-k) 0 (by refine⟨by omega,Q0,lk,bg⟩) ?_;intro vs ms aQ aM;simp only[go_sem,go_sem_proc,au,bS,gg,ij,Bg,rQ,mT,QY,QZ,Fz,FA] at aQ aM;subst aQ aM;clear au bS gg ij Bg rQ mT QY QZ Q0 Fz FA lk bg tm m;rintro k tm m I hm ⟨CP,Q0,lk,bg⟩;simp only[go_sem,go_sem_proc,bj] at I hm;obtain⟨au,bS,gg,ij,Bg,rQ,mT,QY,QZ⟩:=I;obtain⟨Fz,FA⟩:=hm;rcases dn (k<(gX cs i).length) with ah|bW
 ·have d1:decide ((k:Int)<((gX cs i).length:Int))=true:=cX;have bF:=eI (i:=k) (by omega);obtain⟨y,aj⟩:∃y,(gX cs i)[k]?=some y:=⟨_,bh ah⟩;obtain⟨FN,aqH⟩:=ad0.1 (dy aj);have pW:=aHD aj;simp only[go_sem,go_sem_proc,dZ] at pW
  have ad5:((dk cs i).map λc=>av (gW cs (h.getD i 0) c))[k]?=some (LG cs h y):=by
   rw[aqz,bm,bm,aj];unfold LG;rw[aqH,gK];rfl
  have Fk:=Vs (q:=λj=>rR cs h i k j) FN;have lC:=λa b c d=>Vt (q:=λj=>rR cs h i k j) FN a b c d
  have hC:∀aO:bz,aO=LG cs h y->(bA (D cs) λj=>if j=y then some aO else rR cs h i k j)=bA (D cs) λj=>rR cs h i (k+1) j:=λaO ec=>jW λj _=>by
   have hb:(gX cs i).take (k+1)=(gX cs i).take k++[y]:=by rw[hZ,aj];rfl
   by_cases ae:j=y
   ·subst ae;rw[Y rfl];unfold rR;rw[hb,Y (.inr ⟨aqH,by simp⟩),ec]
   ·rw[aa ae];unfold rR;rw[hb]
    by_cases F:(cs.getD j kj).1<(i:Int)\/((cs.getD j kj).1=(i:Int)/\j∈(gX cs i).take k)
    ·rw[Y F,Y (F.imp id λx=>⟨x.1,by simp[x.2]⟩)]
    ·rw[aa F,aa λa1=>F (a1.imp id λx=>⟨x.1,by simpa [ae] using x.2⟩)]
  have aL:=hC _ rfl;clear db;generalize ((dk cs i).map λc=>av (gW cs (h.getD i 0) c))=qY at *;generalize LG cs h y=aO at *;obtain⟨⟨cz,cY⟩,⟨eA,eQ⟩⟩:=aO;have da:=lC cz cY eA eQ;rw[aL] at da;refine ai ?_;repeat' (intro (ao:_=_)<;>simp only[ao,go_sem,go_sem_proc,au,bS,gg,ij,Bg,rQ,mT,QY,QZ,Q0,Fz,FA,lk,d1,bF,pW,ad5,Fk,da,FN,h4,az,dZ,al,bm]<;>try refine ag ?_ ?_)
  exact⟨k+1,by omega,by omega,rfl,rfl,bg.dK (by decide)⟩
 ·have d1:decide ((k:Int)<((gX cs i).length:Int))=false:=b7;obtain rfl:k=(gX cs i).length:=by omega
  rw[aHF] at lk;refine ai ?_;repeat' (intro (ao:_=_)<;>simp only[ao,go_sem,go_sem_proc,au,bS,gg,ij,Bg,rQ,mT,QY,QZ,Q0,d1]<;>try refine ag ?_ ?_)
  refine db _ _ ?_ ?_ ?_ ?_ ?_ ?_ Fz FA lk bg<;>simp only[dC,cE,if_false,au,bS,gg,Bg,rQ,mT]
def aHJ (n:Nat):(ef n [M.nil]).flatten=bA n λ_ => .nil:=by
 induction n with
 |zero=>rfl
 |succ n aG=>rw[Qj,List.flatten_append,aG,apW];rfl
def aHK {a b:List Rat}(h:(a.map av).map az=(b.map av).map az):a=b:=map_inj (λ_ _ h=>Em h) _ _ (map_inj pS _ _ h)
structure aqI (x:List aB×List Rat×M) (mem:Mem):Prop where
 ok:Ik x.1 x.2.1
 no:kh 233 mem
 rd:tW x.2.2 x.1 mem
def ad6 (x:List aB×List Rat×M):Data:=.dj [.ax ((x.1.map λc=>av (gW x.1 (x.2.1.getD c.1.toNat 0) c)).map az),.bool true]
def Q1:List M->Mem->Option Data:=zq (λx args mem=>args=[x.2.2,.H (.ax ((x.2.1.map av).map az))]/\aqI x mem) ad6
def aHL (cs:List aB)(h:List Rat)(v:M)(mem:Mem)(aE:Ik cs h)(gl:kh 233 mem)(kT:tW v cs mem):Q1 [v,.H (.ax ((h.map av).map az))] mem=some (.dj [.ax ((cs.map λc=>av (gW cs (h.getD c.1.toNat 0) c)).map az),.bool true]):=by
 refine HW (a:=(cs,h,v)) ?_ ⟨rfl,⟨aE,gl,kT⟩⟩;rintro⟨a,b,w⟩ ⟨c,d,aX⟩ args mem ⟨au,cy⟩ ⟨bN,dW⟩;rw[au] at bN;simp only[bj,M.H.injEq,Data.ax.injEq,and_true] at bN;obtain⟨F,G⟩:=bN
 try dsimp only at F G
 subst F;obtain rfl:a=c:=cy.rd.uniq dW.rd;obtain rfl:b=d:=aHK G
 rfl
def aHM (T:ba)(aHN:T YX=aK Wg)(x:List aB×List Rat×M)(mem:Mem)(aZ:aqI x mem):
  wp T Eu.body (oJ Eu.res λm mem'=>cV 6 emp m=some (ad6 x)/\∀j,¬ j/1000=233->mem' j=mem j) ⟨kq [x.2.2,.H (.ax ((x.2.1.map av).map az))],mem⟩:=by
 obtain⟨cs,h,v⟩:=x;obtain⟨J,gl,kT⟩:=aZ;dsimp only at J kT;unfold ad6;dsimp only;refine ra ?_;simp only[Eu];have aHO:mem 233019=none:=gl 233019 (by decide);have aHP:mem 233022=none:=gl 233022 (by decide);have ad7:mem 233057=none:=gl 233057 (by decide);have j3:=kT.len;simp only[go_sem,go_sem_proc] at j3;have aL:=J.n;have eu:=J.len;have EP:(24*D h<=140737488355328)=True:=eq_true (by omega);have xG:(D h<=maxLen)=True:=eq_true (by unfold maxLen;omega);have ad8:(64*D cs<=140737488355328)=True:=eq_true (by omega);have aHQ:(D cs<=maxLen)=True:=eq_true (by unfold maxLen;omega);have a2:=aHJ (D h);have aqJ:=ac9 (D cs);rw[<-aHG cs h J] at aqJ;simp only[go_sem,go_sem_proc,EP,xG,a2,j3,aHO,aHP,al];refine aHl T cs h J v (.H (.ax ((h.map av).map az))) mem kT _ _ ?_ ?_ ?_ ?_ ?_ ?_ ?_ ?_ (λ_=>0) (λ_=>0) ⟨?_,?_,λi O b8=>absurd rfl b8,λi O b8=>absurd rfl b8⟩ ?_ ?_
 all_goals first|(intro tm m gc e1 eU cy fv jk lk bH bg)|exact ((df.refl _ _).dK (by decide)).dK (by decide)|(simp only[a5,cE,if_false];exact ad7)|(simp only[dC,cE,if_false,if_true];done)|(simp only[dC,cE,if_false,if_true];rfl)|(simp only[a5,cE,if_false,if_true];rfl)|skip
 obtain⟨dg,F,G,ab⟩:=Wk (λi=>233600+i) (λi=>lj (dk cs i)) (λi O=>by omega) (λi j _ _ he=>by omega) (D h) 0 (mY cs gc) m (by omega) bH.e2 (λi O=>by omega) λi _ O=>by
  by_cases jv:dk cs i=[]
  ·refine .inl ?_;unfold mY lj;rw[Y jv,Y jv]
  ·refine .inr ⟨gc i,4,(dk cs i).length,aU bL (dk cs i),.ax ((dk cs i).map bL),?_,bH.cy i O jv,λbU qA=>k6 (n:=0) p3 qA,?_⟩
   ·unfold mY;rw[aa jv]
   ·unfold lj;rw[aa jv]
 have yH:dg 233022=some (0,bA (D h) (pp cs e1)):=(ab 233022 (by decide) λi O=>by omega).trans bH.fa;have aqK:dg 233057=none:=(ab 233057 (by decide) λi O=>by omega).trans lk
 obtain⟨bU,cU,dc,hj⟩:=Wk (λi=>233700+i) (λi=>Bf (gX cs i)) (λi O=>by omega) (λi j _ _ he=>by omega) (D h) 0 (pp cs e1) dg (by omega) yH (λi O=>by omega) λi _ O=>by
  by_cases jv:dk cs i=[]
  ·refine .inl ?_;have H9:gX cs i=[]:=xY.1 (by rw[Wm,jv];rfl);unfold pp Bf;rw[Y jv,Y H9]
  ·have H9:gX cs i≠[]:=λa1=>jv (xY.1 (by rw[<-Wm,a1];rfl));refine .inr ⟨e1 i,1,(dk cs i).length,aU h4 (gX cs i),.ax ((gX cs i).map h4),?_,?_,λbU qA=>by rw[<-Wm];exact k6 (n:=0) wk qA,?_⟩
   ·unfold pp;rw[aa jv]
   ·exact (ab (233700+i) (by omega) λj ae=>by omega).trans (bH.dw i O jv)
   ·unfold Bf;rw[aa H9]
 have Ws:bU 233019=some (0,bA (D h) λi=>lj (dk cs i)):=(hj 233019 (by decide) λi O=>by omega).trans G;have Dd:bU 233057=none:=(hj 233057 (by decide) λi O=>by omega).trans aqK;simp only[go_sem,go_sem_proc];have aqL:df 233 mem bU:=λk I=>(hj k (by rintro rfl;exact I (by decide)) λi O=>by rintro rfl;omega).trans ((ab k (by rintro rfl;exact I (by decide)) λi O=>by rintro rfl;omega).trans (bg k I));refine apV (F.trans cU) ?_;clear F G ab cU hj yH aqK bH lk bg;simp only[go_sem,go_sem_proc,eU,cy,fv,jk,j3,ad8,aHQ,aqJ,Dd,al];refine dd [1,7,10,58,59] [233019,233022] (λ(i:Nat) tm m=>i<=D h/\tm 60=.H (.int .i64 i)/\m 233057=some (0,mS rO (bA (D cs) λj=>rR cs h i 0 j))/\df 233 mem m) (λi=>D h-i) 0 (by refine⟨by omega,rfl,by simp[a5],aqL.dK (by decide)⟩) ?_;intro vs ms aQ aM;simp only[go_sem,go_sem_proc,cy,jk,Ws,dc,al] at aQ aM;subst aQ aM;clear eU cy fv jk Ws Dd dc aqL tm m dg bU;rintro i tm m I hm ⟨O,mT,lk,bg⟩;simp only[go_sem,go_sem_proc,bj] at I hm;obtain⟨au,bS,gg,Bg,rQ⟩:=I;obtain⟨Fz,FA⟩:=hm;rcases dn (i<D h) with ah|bW
 ·have d1:decide ((i:Int)<(D h:Int))=true:=cX;have bF:=eI (i:=i) (by omega);obtain⟨x,L⟩:∃x,h[i]?=some x:=⟨_,bh ah⟩;have jM:h.getD i 0=x:=by rw[eD,L];rfl
  have iW:=J.x x (dy L)
  have q9:nh (dk cs i):=⟨eR (p2 _ _) eu,λc fD=>by
   have F:=J.c c (Fm.1 fD).1;omega,λc fD c' aHR=>by rw[(Fm.1 fD).2,(Fm.1 aHR).2]⟩
  have ec:=aHh x (dk cs i) ⟨q9,iW.1,iW.2⟩;rw[aoH,<-jM] at ec;rw[<-jM] at L;have e2:=x5 (ki (λi=>lj (dk cs i)) ah);have fa:=x5 (ki (λi=>Bf (gX cs i)) ah);have hB:(bA (D h) λi=>lj (dk cs i)).length=D h:=gB _ _;have ib:(bA (D h) λi=>Bf (gX cs i)).length=D h:=gB _ _;have eN:i+1<=D h:=by omega
  have xm:=aHE (dk cs i) 6;have aqM:=aHC (gX cs i);simp only[go_sem,go_sem_proc] at aqM;generalize iU:av (h.getD i 0)=b2 at *;obtain⟨⟨cz,cY⟩,⟨eA,eQ⟩⟩:=b2;simp only[az] at ec;simp only[go_sem,go_sem_proc,aHN,au,bS,gg,Bg,rQ,mT,Fz,FA,lk,d1,e2,fa,hB,ib,eN,ah,L,iU,xm,ec,aqM,az,dZ,al,bm,bne,beq_self_eq_true,b3];refine aHI T cs h J i ah (.H (.ax ((h.map av).map az))) (.ref 233022 0 1 0 (D h)) (.ref 233019 0 1 0 (D h)) (.H (.int .i64 (D h))) (.H (.int .i64 i)) _ _ _ _ ?_ ?_ ?_ ?_ ?_ ?_ ?_ ?_ ?_ ?_ Fz FA lk mem bg ?_
  all_goals first|(intro tm' m' cy jk o7 aHS aHT aHU Ws aHV Dd p6)|(simp only[dC,cE,if_false,if_true,au,bS,gg,Bg,rQ,mT];done)
  refine ai ?_;repeat' (intro (ao:_=_)<;>simp only[ao,go_sem,go_sem_proc,cy,jk,o7,aHS,aHT,aHU,Ws,aHV,Dd,bF]<;>try refine ag ?_ ?_)
  exact⟨i+1,by omega,by omega,rfl,rfl,p6⟩
 ·have d1:decide ((i:Int)<(D h:Int))=false:=b7;obtain rfl:i=D h:=by omega
  rw[aHH cs h J,ada] at lk;have lg:=λ(K:bc->Prop) (st:bc)=>nB (K:=K) (st:=st) jj 10 233057 0 (cs.map λc=>av (gW cs (h.getD c.1.toNat 0) c));rw[al] at lg;simp only[go_sem,go_sem_proc,au,bS,gg,Bg,rQ,mT,d1,lk,lg,al];exact⟨_,rfl,rfl,λj ae=>(aa (by rintro rfl;exact ae (by decide))).trans (bg j ae)⟩
def aHW {α:Type}(p:α->Bool)(l:List α)(k:Nat)(I:k<D l)(h:∀j (ae:j<k),p (l[j]'(by omega))=false)(G:p l[k]=true):tu p l=k :=
 OI (λx L=>by
  obtain⟨j,ae⟩:=r9.1 L;rw[List.getElem?_take] at ae
  by_cases ey:j<k
  ·rw[Y ey,bh (by omega),cF] at ae;rw[<-ae];exact h j ey
  ·rw[aa ey] at ae;cases ae) (bh I) G
def aqN {d:Day}{h:Nat->Rat}{i:Nat}:∀k,k<=10->d.jA h i k<10->(∀j,10-k<=j->j<d.jA h i k->d.U i (j+1)<=h i)/\h i<d.U i (d.jA h i k+1)/\10-k<=d.jA h i k
 |0,_,F=>by rw[Day.jA] at F;omega
 |k+1,I,F=>by
  rw[Day.jA] at F ⊢
  by_cases J:h i<d.U i (10-(k+1)+1)
  ·rw[Y J] at F ⊢;exact⟨λj G ab=>by omega,J,cl _⟩
  ·rw[aa J] at F ⊢;obtain⟨cy,dw,dW⟩:=aqN k (by omega) F;refine⟨λj G ab=>?_,dw,by omega⟩
   by_cases ae:j=10-(k+1)
   ·rw[ae];grind
   ·exact cy j (by omega) ab
def aHX {cash:List Int}{cs:List aB}(R:fX cash cs)(h:Nat->Rat)(n i:Nat)(O:i<n)(hT:dH (h i))(aH:(af cash cs).jA h i 10<10):tu (wJ (.solve (c8 n h) i)) (bA 10 λk=>bT cs i (k+1:Nat))=((af cash cs).jA h i 10:Int):=by
 obtain⟨F,G,ab⟩:=aqN 10 (cl _) aH;have l2:=λk:Nat=>R.upto i k
 have aE:∀k:Nat,wJ (.solve (c8 n h) i) (bT cs i (k+1:Nat))=decide (h i<(af cash cs).U i (k+1)):=λk=>by
  have Z:(c8 n h).getD i cW=av (h i):=by rw[eD,rL h O];rfl
  have oS:eJ (bT cs i (k+1:Nat)):=mQ (by have:=l2 (k+1);omega) (by have:=l2 (k+1);omega);simp only[wJ];rw[Z,Ti hT (p5 oS),acO,qS R.right]
 refine aHW _ _ _ (by rw[gB];exact aH) (λj ae=>?_) ?_
 ·have e:=ki (λk=>bT cs i (k+1:Nat)) (show j<10 by omega);rw[bh (by rw[gB];omega),cF] at e;rw[e,aE];exact kM (by have:=F j (by omega) ae;grind)
 ·have e:=ki (λk=>bT cs i (k+1:Nat)) aH;rw[bh (by rw[gB];omega),cF] at e;rw[e,aE];exact hN G
def dt.wf (a:dt)(f:Nat->Nat):dt:={ a with aJ:=bA (D a.cash) λi=>(f i:Int) }
def dt.ad9 (a:dt)(f:Nat->Nat){i:Nat}(O:i<D a.cash):(a.wf f).hh i=(a.hh i).zx (f i):=by
 have:(bA (D a.cash) λi=>(f i:Int)).getD i 10=(f i:Int):=Fv _ _ O;unfold dt.hh dt.wf pr.zx;dsimp only;rw[this]
def dt.fj.aHY {a:dt}{m:Mem}{f:Nat->Nat}(h:(a.wf f).fj m){i:Nat}(O:i<D a.cash)(r:Nat):(a.wf λj=>if j=i then r else f j).fj (a5 m (228500+i) (a.gs.getD i 0) (gi ((a.hh i).zx r))):=by
 refine⟨h.can,gB _ _,h.pl,h.VA,?_,λj ae=>?_⟩
 ·have:=h.row;simp only[a5];rw[aa (show ¬ ((228023:Nat)=228500+i) by omega)];exact this
 ·rw[dt.ad9 a _ ae];simp only[a5]
  by_cases jR:j=i
  ·subst jR;rw[Y rfl,Y rfl]
   rfl
  ·rw[aa (show ¬ ((228500+j:Nat)=228500+i) by omega),aa jR];have:=h.dU j ae;rw[dt.ad9 a _ ae] at this;exact this
def dt.Wt (a:dt){p q:Nat->Nat}(h:∀i,i<(D a.cash)->p i=q i):a.wf p=a.wf q:=by
 unfold dt.wf;rw[jW λi O=>by rw[h i O]]
def aHZ {n i:Nat}(f:Nat->Nat)(h:i<n):a9 (bA n λi=>(f i:Int)) i=f i:=by
 unfold a9;rw[Fv _ _ h,gK]
def aH0 {x:pr}(h:x.dJ){k g:Nat}{m:Mem}(hm:m k=some (g,gi x))(n:Nat):cV (n+1) m (.ref k g 1 12 10)=some (.ax (x.us.tail.map aI)):=by
 have e:cut (gi x) 12 10=some (x.us.tail.map dS):=by
  unfold cut;rw[Y (by rw[Fp h];omega)]
  congr 1
  obtain⟨c,dE,us,f,p⟩:=x;obtain⟨F,G⟩:=h;dsimp only at F G
  cases us with
  |nil=>cases G
  |cons u us =>
   have aq:(D us)=10:=by simpa using G
   unfold gi;dsimp only;rw[yn,qq,List.drop_eq_nil_of_le (by rw[al];omega),al,F,List.nil_append,eE];rw[show 11-10=1 from rfl,List.cons_append,yn,o0,List.take_append_of_le_length (by rw[al];omega),dD (by rw[al];omega)]
   rfl
 have aC:∀l:List Int,(l.map dS).mapM (cV n m)=some (l.map λz=>Data.int .i64 z):=by
  intro l
  induction l with
  |nil=>rfl
  |cons a l aG =>
   rw[eE,ns,aG];rw[show cV n m (dS a)=some (.int .i64 a) from R9 n _]
   rfl
 have bN:∀l:List Int,chunk 1 (D l) (l.map λz=>Data.int .i64 z)=l.map aI:=by
  intro l
  induction l with
  |nil=>rfl
  |cons a l aG=>simp only[lJ,eE,chunk,List.take_succ_cons,nw,yn,o0,aG];rfl
 have aq:(D x.us.tail)=10:=by rw[List.length_tail,h.us]
 unfold cV;rw[hm];dsimp only;rw[Y rfl,dZ,e];dsimp only;rw[aC];have:=bN x.us.tail;rw[aq] at this;rw[ks,this]
def dt.fj.up {a:dt}{m:Mem}(h:a.fj m)(aL:(D a.cash)<=6){k g:Nat}{cs:List M}(I:k/1000≠228):a.fj (a5 m k g cs) :=
 ⟨h.can,h.aJ,h.pl,h.VA,by rw[c5 (by omega)];exact h.row,λi O=>by rw[c5 (by omega)];exact h.dU i O⟩
def aH1 {α:Type}(n:Nat)(q:Nat->α):(bA (n+1) q).tail=bA n λk=>q (k+1):=by
 unfold bA;rw[List.range_succ_eq_map,eE,List.tail_cons,pJ]
 rfl
def aqO {m:Mem}{k g:Nat}{d:Data}(hm:m k=some (g,[.H d]))(n:Nat):cV (n+1) m (.ptr k g 0)=some (.ptr [d]):=by
 unfold cV;rw[hm];dsimp only;rw[Y ⟨rfl,fL _⟩,o0,ns,R9]
 rfl
def aH2 (n k g sz o l:Nat):cV (n+1) emp (.ref k g sz o l)=none:=by
 unfold cV;rfl
def yd (d:Day)(f:Nat->Nat)(h:Nat->Rat)(i j:Nat):Nat:=if j<i then d.gz f h j else f j
def aH3 (T:ba)(my:T pM=aK u4)(kL:T sa=aK v5)(Bd:T DU=aK Fw){K:eK->bc->Prop}{kk:List fT}(a:dt)(R:fX a.cash a.cs)(f:Nat->Nat)(aH:∀i,i<(D a.cash)->f i<=10)(h:Nat->Rat)(hT:∀i,i<(D a.cash)->dH (h i))(ay:∀i,i<(D a.cash)->0<=h i)(gD:Mem)(v1 v4 tU:M)(Q2 aea:Nat)(tm:Nat->M)(m:Mem)
  (au:tm 1=v1) (bK:tm 4=v4) (bt:tm 6=.ref 228023 a.g 1 0 (D a.cash)) (bS:tm 7=tU) (ee:tm 8=.ptr 217008 Q2 0) (gg:tm 10=.ref 217057 aea 1 0 0) (iq:tm 31=.ref 228023 a.g 1 0 (D a.cash)) (ir:tm 32=.H (.int .i64 (D a.cash))) (sJ:tm 33=.H (.int .i64 0))
  (bH:(a.wf f).fj m) (tt:gD 217008=some (Q2,[.H (.ax ((c8 (D a.cash) h).map az))])) (lk:m 217057=some (aea,[])) (bg:∀k,k/1000≠228->k≠217011->k≠217057->m k=gD k)
  (db:∀tm' m' dp,tm' 1=v1->tm' 4=v4->tm' 6=.ref 228023 a.g 1 0 (D a.cash)->tm' 7=tU->tm' 8=.ptr 217008 Q2 0->tm' 10=.ref 217057 dp 1 0 (oT (af a.cash a.cs) f h (D a.cash)).length->m' 217057=some (dp,aU h4 (oT (af a.cash a.cs) f h (D a.cash)))->(a.wf ((af a.cash a.cs).gz f h)).fj m'->(∀k,k/1000≠228->k≠217011->k≠217057->m' k=gD k)->cg T K kk (.exit 2) ⟨tm',m'⟩) :
  wp T (Cy.body.sub [1,1,1,1,0,0,0,0,1,1,1,0,1,0,0]) (cg T K kk) ⟨tm,m⟩:=by
 simp only[Cy,er.sub];have aL:=R.jV;have Z:=R.ok
 refine dd [1,4,6,7,8,31,32] [] (λ((i,g):Nat×Nat) tm m=>i<=D a.cash/\tm 33=.H (.int .i64 i)/\tm 10=.ref 217057 g 1 0 (oT (af a.cash a.cs) f h i).length/\m 217057=some (g,aU h4 (oT (af a.cash a.cs) f h i))/\(a.wf (yd (af a.cash a.cs) f h i)).fj m/\∀k,k/1000≠228->k≠217011->k≠217057->m k=gD k) (λ(i,_)=>D a.cash-i) (0,aea) (by
  refine⟨by omega,sJ,gg,lk,?_,bg⟩
  rw[a.Wt (q:=f) λj _=>by unfold yd;rw[aa (by omega)]]
  exact bH) ?_
 intro vs ms aQ aM;simp only[go_sem,go_sem_proc,au,bK,bt,bS,ee,iq,ir] at aQ aM;subst aQ aM;clear au bK bt bS ee gg iq ir sJ bH lk bg tm m;rintro⟨i,g⟩ tm m I-⟨O,sJ,gg,lk,bH,bg⟩;simp only[go_sem,go_sem_proc,bj] at I;obtain⟨au,bK,bt,bS,ee,iq,ir⟩:=I;rcases dn (i<D a.cash) with ah|bW
 ·have d1:decide ((i:Int)<(D a.cash:Int))=true:=cX;have bF:=eI (i:=i) (by omega);have u9:=aH i ah;have tT:yd (af a.cash a.cs) f h i i=f i:=by unfold yd;rw[aa (by omega)]
  have gj:m 228023=some (a.g,bA (D a.cash) λi => .ptr (228500+i) (a.gs.getD i 0) 0):=bH.row;have gv:m (228500+i)=some (a.gs.getD i 0,_):=bH.dU i ah;rw[dt.ad9 a _ ah,tT] at gv;have H4:=(bg 217008 (by decide) (by decide) (by decide)).trans tt;have k5:=x5 (ki (λi=>M.ptr (228500+i) (a.gs.getD i 0) 0) ah);have cm:(bA (D a.cash) λi=>M.ptr (228500+i) (a.gs.getD i 0) 0).length=D a.cash:=gB _ _;have cw:((a.hh i).zx (f i)).dJ:=⟨(a.zy i).dE,(a.zy i).us⟩;have hlen:=Fp cw;have p6:gT 1 (hl 22 (gi ((a.hh i).zx (f i))))=[dS (f i:Int)]:=Qt cw;have C5:=Qs cw (k:=f i) (z:=bT a.cs i (f i:Nat)) (ki _ (by omega));have fk:_=gi ((a.hh i).zx ((af a.cash a.cs).jA h i 10)):=aEy cw ((af a.cash a.cs).jA h i 10:Nat);have eN:i+1<=D a.cash:=by omega
  have aw:f i<11:=by omega
  have cb:(11+f i+1<=24)=True:=eq_true (by omega);have l2:=R.upto i (f i);have oS:eJ (bT a.cs i (f i:Nat)):=mQ (by omega) (by omega);have hw:=Fa _ oS;have lx:=Qb (hT i ah) (p5 oS);have Fo:=qS R.right i (f i);have JP:decide (lb (h i) ((bT a.cs i (f i:Nat):Int):Rat)>=0)=decide (((bT a.cs i (f i:Nat):Int):Rat)<=h i):=Va;have tS:=aoI (af a.cash a.cs) f h i;rw[<-Fo] at tS;have tQ:=rL h ah;have Vy:=aoJ (af a.cash a.cs) f h i;have c9:=kx wk adn 217057 g 8 (oT (af a.cash a.cs) f h i) i (cs:=[.H (.int .i64 i)]) rfl (by omega) (by omega);have aqP:=λ(bU:Mem) (qA:bU (228500+i)=some (a.gs.getD i 0,gi ((a.hh i).zx (f i)))) n=>aH0 cw qA n;have aH4:((a.hh i).zx (f i)).us.tail=bA 10 λk=>bT a.cs i (k+1:Nat):=aH1 10 _;simp only[aH4] at aqP
  have aH5:¬ h i<((bT a.cs i (f i:Nat):Int):Rat)->a.wf (yd (af a.cash a.cs) f h (i+1))=a.wf (yd (af a.cash a.cs) f h i):=λa1=>a.Wt λj _=>by
   unfold yd
   by_cases ae:j=i
   ·subst ae;rw[Y (by omega),aa (by omega)];unfold Day.gz;rw[aa (by rw[<-Fo];exact λx=>a1 x.2)]
   ·by_cases w4:j<i
    ·rw[Y w4,Y (by omega)]
    ·rw[aa w4,aa (by omega)]
  have aH6:h i<((bT a.cs i (f i:Nat):Int):Rat)->a.wf (yd (af a.cash a.cs) f h (i+1))=a.wf (λj=>if j=i then (af a.cash a.cs).jA h i 10 else yd (af a.cash a.cs) f h i j):=λa1=>a.Wt λj _=>by
   unfold yd
   by_cases ae:j=i
   ·subst ae;rw[Y (by omega),Y rfl];unfold Day.gz;rw[Y ⟨ah,by rw[<-Fo];exact a1⟩]
   ·rw[aa ae]
    by_cases w4:j<i
    ·rw[Y w4,Y (by omega)]
    ·rw[aa w4,aa (by omega)]
  have lC:=λ(bk:Mem) (gE:(a.wf (yd (af a.cash a.cs) f h i)).fj bk)=>gE.aHY ah ((af a.cash a.cs).jA h i 10)
  have wh:h i<((bT a.cs i (f i:Nat):Int):Rat)->(af a.cash a.cs).jA h i 10<10:=λa1=>by
   rw[Fo] at a1;have:=Z.zg i u9;rcases abQ Z (h:=h) (i:=i) 10 (cl _) (by rw[j0,Day.abC];exact ay i ah) with ⟨-,e⟩|⟨-,e,-⟩
   ·grind
   ·exact e
  have aH7:=λa1=>aHX R h (D a.cash) i ah (hT i ah) (wh a1)
  have Pm:=aGx (bA 10 λk=>bT a.cs i (k+1:Nat)) (.solve (c8 (D a.cash) h) i) ⟨by rw[gB];omega,by decide,by rw[qT];exact ah,acj (by omega) hT,λx L=>by
   obtain⟨k,-,rfl⟩:=gm.1 L;have:=R.upto i (k+1:Nat);exact mQ (by omega) (by omega)⟩
  simp only[Da] at Pm;generalize aQx:(bA 10 λk=>bT a.cs i (k+1:Nat))=SL at *;generalize Lp:(bA (D a.cash) λi=>M.ptr (228500+i) (a.gs.getD i 0) 0)=zz at *;have aH8:(228500+i)/1000=228:=by omega
  generalize wI:228500+i=eO at *;generalize QB:gi ((a.hh i).zx (f i))=DC at *;have aqQ:(eO=217011)=False:=eq_false (by omega);have ad7:(eO=217057)=False:=eq_false (by omega);have aH9:(217057=eO)=False:=eq_false (by omega);have aQy:av (h i)=av (h i):=rfl;generalize Vl:av (h i)=gR at *;generalize iU:av ((bT a.cs i (f i:Nat):Int):Rat)=b2 at *;obtain⟨⟨cQ,dN⟩,⟨gy,g3⟩⟩:=b2;obtain⟨⟨cz,cY⟩,⟨eA,eQ⟩⟩:=gR;simp only[az] at hw lx;rcases dI:decide (((bT a.cs i (f i:Nat):Int):Rat)<=h i)
  ·have a1:h i<((bT a.cs i (f i:Nat):Int):Rat):=by have:=of_decide_eq_false dI;grind
   rw[Y a1] at tS;rw[<-tS] at c9;rw[aH7 a1] at Pm;simp only[<-aH6 a1] at lC;have bG:(oT (af a.cash a.cs) f h (i+1)).length=(oT (af a.cash a.cs) f h i).length+1:=by rw[tS,gC];rfl
   have aIa:∀bU:Mem,bU 217008=some (Q2,[.H (.ax ((c8 (D a.cash) h).map az))])->cV 5 bU (.ptr 217008 Q2 0)=some (.ptr [.ax ((c8 (D a.cash) h).map az)]):=λbU qA=>aqO qA 4;have aIb:∀(bU:Mem) (g:Nat),bU 217011=some (g,[.H (.int .i64 i)])->cV 5 bU (.ptr 217011 g 0)=some (.ptr [.int .i64 i]):=λbU g qA=>aqO qA 4;have aIc:=aH2 5 eO (a.gs.getD i 0) 1 12 10;refine ai ?_;repeat' (intro (ao:_=_)<;>simp only[ao,go_sem,go_sem_proc,my,kL,Bd,au,bK,bt,bS,ee,gg,iq,ir,sJ,gj,gv,H4,lk,k5,cm,hlen,p6,C5,fk,eN,aw,cb,ah,hw,lx,JP,dI,tQ,c9,aqP,Pm,aIa,aIb,aIc,aqQ,ad7,aH9,d1,bF,az,dS,dZ,al,bm,xA,scalar,Bo,Int.reduceLE,Int.reduceToNat]<;>try refine ag ?_ ?_)
   refine⟨(i+1,g+1),by dsimp only;omega,by dsimp only;omega,rfl,by rw[bG],rfl,lC _ (((bH.up aL (by decide)).up aL (by decide)).up aL (by decide)),λk F G ab=>?_⟩
   rw[aa (show ¬ k=eO by intro I;rw[I] at F;exact F aH8),aa ab,aa G,aa G];exact bg k F G ab
  ·have a1:¬ h i<((bT a.cs i (f i:Nat):Int):Rat):=by have:=of_decide_eq_true dI;grind
   rw[aa a1] at tS;refine ai ?_;repeat' (intro (ao:_=_)<;>simp only[ao,go_sem,go_sem_proc,my,kL,au,bK,bt,bS,ee,gg,iq,ir,sJ,gj,gv,H4,k5,cm,hlen,p6,C5,eN,aw,cb,ah,hw,lx,JP,dI,tQ,aqQ,d1,bF,az,dS,dZ,al,bm]<;>try refine ag ?_ ?_)
   refine⟨(i+1,g),by dsimp only;omega,by dsimp only;omega,rfl,by rw[tS],by rw[tS];exact lk,?_,λk F G ab=>?_⟩
   ·rw[aH5 a1];exact (bH.up aL (by decide)).up aL (by decide)
   ·rw[aa G,aa G];exact bg k F G ab
 ·have d1:decide ((i:Int)<(D a.cash:Int))=false:=b7;obtain rfl:i=D a.cash:=by omega
  rw[a.Wt (q:=(af a.cash a.cs).gz f h) λj ae=>by unfold yd;rw[Y ae]] at bH
  refine ai ?_;repeat' (intro (ao:_=_)<;>simp only[ao,go_sem,go_sem_proc,au,bK,bt,bS,ee,gg,iq,ir,sJ,d1]<;>try refine ag ?_ ?_)
  refine db _ _ g ?_ ?_ ?_ ?_ ?_ ?_ lk bH bg<;>simp only[dC,cE,if_false,au,bK,bt,bS,ee,gg]
def aqR {n:Nat}{f:Nat->Nat}(h:∀i,n<=i->f i=10):a9 (bA n λi=>(f i:Int))=f:=by
 funext i
 by_cases O:i<n
 ·exact aHZ f O
 ·unfold a9;rw[eD,List.getElem?_eq_none (by rw[gB];omega),h i (by omega)];rfl
def aqS {d:Day}{f:Nat->Nat}{h:Nat->Rat}(du:∀i,d.n<=i->f i=10):∀i,d.n<=i->d.gz f h i=10:=λi O=>by
 unfold Day.gz;rw[aa λx=>by omega,du i O]
def Wu (d:Day):∀k f,(d.rounds k f).1.length<=k
 |0,f=>cl _
 |k+1,f=>by
  rw[Day.rounds]
  split
  ·exact fL _
  ·have:=Wu d k (d.gz f (d.top f));simp only[lJ];omega
def om (l:List Nat):List Data:=[.ax (l.map h4)]
def Wv (l:List Nat):(om l).length=1:=rfl
def aqT (l:List Nat):((om l).map M.H).all M.one=true:=rfl
def Bh (done:List (List Nat))(g:Nat):M:=if done=[] then .nil else .ref 217077 g 1 0 (D done)
def Ww (mem:Mem):Prop:=∀k:Nat,200000<=k->k<300000->mem k=none
def Ww.k {mem:Mem}(h:Ww mem)(n:Nat)(aL:200<=n/\n<300:=by decide):kh n mem:=λk I=>h k (by omega) (by omega)
structure aqU (gD:Mem) (cash:List Int) (cs:List aB) (g:Nat) (gs:Nat->Nat) (f:Nat->Nat) (done:List (List Nat)) (gY:Nat) (m:Mem):Prop where
 at_:∃p,(((Bc cash cs g gs).wf f).iM p).fj m
 out:∃mz,mz=0/\m 217007=some (mz,[.nil,.nil,Bh done gY])
 row:done≠[]->m 217077=some (gY,aU om done)
 no:∀k:Nat,k/1000≠217->k/1000≠228->m k=gD k
 f10:∀i,D cash<=i->f i=10
 reach:Reach (af cash (dR (D cash) cs)) f
 iI:∃r,kG (D cash) f<=r/\(af cash (dR (D cash) cs)).iI=done++((af cash (dR (D cash) cs)).rounds r f).1/\(af cash (dR (D cash) cs)).pn=((af cash (dR (D cash) cs)).rounds r f).2
def aId (T:ba)(LH:T NB=tz Ls)(my:T pM=aK u4)(kL:T sa=aK v5)(Bd:T DU=aK Fw){K:eK->bc->Prop}{kk:List fT}(cash:List Int)(cs:List aB)(qE:fX cash cs)(g:Nat)(gs:Nat->Nat)(v1:M)(gD:Mem)(De:Ww gD)(tm:Nat->M)(m:Mem)
  (au:tm 1=v1) (bK:tm 4=.ptr 217004 0 0) (bt:tm 6=.ref 228023 g 1 0 (D cash)) (bS:tm 7=.ptr 217007 0 0) (fE:m 217004=some (0,[.nil,.nil,.nil])) (bH:aqU gD cash cs g gs (λ_=>10) [] 0 m)
  (db:∀tm' m' gY,tm' 1=v1->tm' 4=.ptr 217004 0 0->tm' 7=.ptr 217007 0 0->m' 217004=some (0,[.nil,.nil,.nil])->m' 217007=some (0,[.H (.ax ((c8 (D cash) (af cash (dR (D cash) cs)).cL).map az)),.nil,Bh (af cash (dR (D cash) cs)).iI gY])->((af cash (dR (D cash) cs)).iI≠[]->m' 217077=some (gY,aU om (af cash (dR (D cash) cs)).iI))->(∀k:Nat,k/1000≠217->k/1000≠228->m' k=gD k)->cg T K kk (.exit 0) ⟨tm',m'⟩) :
  wp T (Cy.body.sub [1,1,1,1,0,0]) (cg T K kk) ⟨tm,m⟩:=by
 simp only[Cy,er.sub];have R:=acG qE;have aL:=R.jV;have Z:=R.ok;refine dd [1,4,6,7] [217004] (λ((f,done,gY):(Nat->Nat)×List (List Nat)×Nat) tm m=>aqU gD cash cs g gs f done gY m) (λ(f,_)=>kG (D cash) f) (λ_=>10,[],0) (by exact bH) ?_;intro vs ms aQ aM;simp only[go_sem,go_sem_proc,au,bK,bt,bS,fE] at aQ aM;subst aQ aM;clear au bK bt bS fE bH tm m;rintro⟨f,done,gY⟩ tm m I fE bH;simp only[go_sem,go_sem_proc,bj] at I fE;obtain⟨au,bK,bt,bS⟩:=I;obtain⟨⟨p,bH⟩,⟨mz,rfl,Q3⟩,gj,gl,u9,Q4,r,GO,bf,sn⟩:=bH;dsimp only at *;have mc:=aqR u9;have kP:=Q4;obtain⟨Q5,hinv,-⟩:=Q4
 have fM:=aFQ (((Bc cash cs g gs).wf f).iM p) m ⟨bH,λk I=>(gl k (by omega) (by omega)).trans (De k (by omega) (by omega)),λk I=>(gl k (by omega) (by omega)).trans (De k (by omega) (by omega)),λk I=>(gl k (by omega) (by omega)).trans (De k (by omega) (by omega)),⟨R,λx L=>by
  obtain⟨i,-,rfl⟩:=gm.1 L;have:=hinv.le i;omega⟩,⟨Q5,by show Inv (af cash (dR (D cash) cs)) (a9 (bA (D cash) λi=>(f i:Int))) Q5;rw[mc];exact hinv⟩⟩
 have aqV:Ls [.ref 228023 g 1 0 (D cash)] m=some (VU (((Bc cash cs g gs).wf f).iM p) m):=fM;simp only[go_sem,go_sem_proc,LH,au,bK,bt,bS,aqV];have b0:=Day.EW (Z.hex f kP);have hT:∀i,i<(D cash)->dH ((af cash (dR (D cash) cs)).top f i):=λi O=>hU (adm R kP O) (by omega);have ay:∀i,i<(D cash)->0<=(af cash (dR (D cash) cs)).top f i:=λi O=>b0.abR Z O;rintro aeb mem' ⟨mo,re,yr,Df⟩
 have aIe:aeb=.dj [.H (.ax ((c8 (D cash) ((af cash (dR (D cash) cs)).top f)).map az)),.H (.bool true)]:=by
  rw[mo];show M.dj [.H (.ax ((c8 (D cash) ((af cash (dR (D cash) cs)).top (a9 (bA (D cash) λi=>(f i:Int))))).map az)),.H (.bool true)]=_;rw[mc]
 clear mo fM aqV;subst aIe;have fZ:∀k:Nat,k/1000≠228->mem' k=m k:=λk I=>Df k λi O=>by have:i<D cash:=O;omega
 have fV:=(fZ 217004 (by decide)).trans fE;have qV:=(fZ 217007 (by decide)).trans Q3;have HD:(af cash (dR (D cash) cs)).h6 f=oT (af cash (dR (D cash) cs)) f ((af cash (dR (D cash) cs)).top f) (D cash):=rfl
 have Q6:(af cash (dR (D cash) cs)).h6 f=[]->(af cash (dR (D cash) cs)).iI=done/\(af cash (dR (D cash) cs)).cL=(af cash (dR (D cash) cs)).top f:=λh=>by
  have:=(af cash (dR (D cash) cs)).al7 h r;rw[this,hD] at bf;rw[this] at sn;exact⟨bf,by unfold Day.cL;rw[sn]⟩
 have pH:(af cash (dR (D cash) cs)).h6 f≠[]->kG (D cash) ((af cash (dR (D cash) cs)).gz f ((af cash (dR (D cash) cs)).top f))<kG (D cash) f/\Reach (af cash (dR (D cash) cs)) ((af cash (dR (D cash) cs)).gz f ((af cash (dR (D cash) cs)).top f))/\(∀i,D cash<=i->(af cash (dR (D cash) cs)).gz f ((af cash (dR (D cash) cs)).top f) i=10)/\∃r,kG (D cash) ((af cash (dR (D cash) cs)).gz f ((af cash (dR (D cash) cs)).top f))<=r/\(af cash (dR (D cash) cs)).iI=(done++[(af cash (dR (D cash) cs)).h6 f])++((af cash (dR (D cash) cs)).rounds r ((af cash (dR (D cash) cs)).gz f ((af cash (dR (D cash) cs)).top f))).1/\(af cash (dR (D cash) cs)).pn=((af cash (dR (D cash) cs)).rounds r ((af cash (dR (D cash) cs)).gz f ((af cash (dR (D cash) cs)).top f))).2:=λb8=>by
  have ah:=UJ Z Z.hex kP b8;have h3:kG (D cash) ((af cash (dR (D cash) cs)).gz f ((af cash (dR (D cash) cs)).top f))<kG (D cash) f:=ah;refine⟨h3,kP.next Z Z.hex,aqS (d:=af cash (dR (D cash) cs)) u9,?_⟩
  cases r with
  |zero=>omega
  |succ r =>
   rw[Day.rounds,aa b8] at bf sn;exact⟨r,by omega,by rw[bf];simp,sn⟩
 generalize ou:af cash (dR (D cash) cs)=d at *;generalize rj:(c8 (D cash) (d.top f)).map az=V at *;simp only[go_sem,go_sem_proc,au,bK,bt,bS,fV,qV,b3];subst ou;rw[<-rj];refine aH3 T my kL Bd ((Bc cash cs g gs).iM re) R f (λi _=>hinv.le i) ((af cash (dR (D cash) cs)).top f) hT ay _ v1 (.ptr 217004 0 0) (.ptr 217007 0 0) (gk (mem' 217008)) (gk (mem' 217057)) _ _ ?_ ?_ ?_ ?_ ?_ ?_ ?_ ?_ ?_ (((show ((((Bc cash cs g gs).iM re).wf f)).fj mem' from yr).up aL (by decide)).up aL (by decide)|>.up aL (by decide)) ?_ ?_ (λ_ _ _ _=>rfl) ?_
 all_goals first|(intro C2 bU dc cy fW fv jk k9 o7 Dd BF jB)|(simp only[dC,cE,if_false,if_true,au,bK,bt,bS];done)|(simp only[dC,cE,if_false,if_true];rfl)|(simp only[dC,cE,if_false,if_true,au,bK,bt,bS];rfl)|(simp only[a5,cE,if_false,if_true];done)|(simp only[a5,cE,if_false,if_true];rfl)|skip
 replace o7:C2 10=.ref 217057 dc 1 0 ((af cash (dR (D cash) cs)).h6 f).length:=o7;replace Dd:bU 217057=some (dc,aU h4 ((af cash (dR (D cash) cs)).h6 f)):=Dd;replace fv:C2 6=.ref 228023 g 1 0 (D cash):=fv;replace BF:(((Bc cash cs g gs).iM re).wf ((af cash (dR (D cash) cs)).gz f ((af cash (dR (D cash) cs)).top f))).fj bU:=BF;have tN:bU 217004=some (0,[.nil,.nil,.nil]):=(jB 217004 (by decide) (by decide) (by decide)).trans (by simp only[a5,cE,if_false];exact fV);have Dc:bU 217007=some (0,[.nil,.nil,Bh done gY]):=(jB 217007 (by decide) (by decide) (by decide)).trans (by simp only[a5,cE,if_false];exact qV);have aec:bU 217008=some (gk (mem' 217008),[.H (.ax V)]):=(jB 217008 (by decide) (by decide) (by decide)).trans (by simp only[a5,cE,if_false,if_true];rw[rj]);have aqW:done≠[]->bU 217077=some (gY,aU om done):=λh=>(jB 217077 (by decide) (by decide) (by decide)).trans (by simp only[a5,cE,if_false];exact (fZ 217077 (by decide)).trans (gj h));have mA:∀(k j:Nat),k/1000≠217->j/1000=217->k≠j:=λk j F G h=>F (h ▸ G)
 have Q7:∀k:Nat,k/1000≠217->k/1000≠228->bU k=gD k:=λk F G=>(jB k G (mA k _ F (by decide)) (mA k _ F (by decide))).trans (by
  rw[c5 (mA k _ F (by decide)),c5 (mA k _ F (by decide)),c5 (mA k _ F (by decide))];exact (fZ k G).trans (gl k F G))
 clear jB fZ yr Df fV qV Q3 gj gl fE au bK bt bS bf sn
 by_cases b8:(af cash (dR (D cash) cs)).h6 f=[]
 ·obtain⟨F,G⟩:=Q6 b8;rw[b8] at o7;rw[F,G] at db;have iy:(((0:Nat):Int)==0)=true:=rfl;simp only[go_sem,go_sem_proc,cy,fW,fv,jk,k9,o7,tN,Dc,aec,iy,o2,lB];refine db _ _ gY ?_ ?_ ?_ ?_ ?_ (λh=>?_) λk fx fe=>?_
  ·simp only[dC,cE,if_false];exact cy
  ·simp only[dC,cE,if_false];exact fW
  ·simp only[dC,cE,if_false];exact jk
  ·simp only[a5,cE,if_false];exact tN
  ·simp only[a5,cE,if_true];rw[rj]
  ·simp only[a5,cE,if_false];exact aqW h
  ·rw[c5 (mA k _ fx (by decide))];exact Q7 k fx fe
 ·obtain⟨F,G,ab,aV⟩:=pH b8;have Vy:((af cash (dR (D cash) cs)).h6 f).length<=6:=eR (p2 _ _) (by rw[td];exact aL)
  have iy:((((af cash (dR (D cash) cs)).h6 f).length:Int)==0)=false:=by
   have:((af cash (dR (D cash) cs)).h6 f).length≠0:=λh=>b8 (xY.1 h);rw[beq_eq_false_iff_ne];omega
  have lg:=λ(K:bc->Prop) (st:bc)=>nB (K:=K) (st:=st) wk 10 217057 dc ((af cash (dR (D cash) cs)).h6 f);have pC:(1<=maxLen)=True:=eq_true (by decide);generalize XI:(af cash (dR (D cash) cs)).h6 f=aJ at *;clear Q6 pH db;have aqX:∀(bk:Mem),(∀k:Nat,k/1000≠217->bk k=bU k)->∀k:Nat,k/1000≠217->k/1000≠228->bk k=gD k:=λbk gE k F G=>(gE k F).trans (Q7 k F G)
  by_cases lv:done=[]
  ·subst lv;have Im:Bh [] gY=.nil:=rfl;rw[Im] at Dc;simp only[go_sem,go_sem_proc,cy,fW,fv,jk,k9,o7,tN,Dc,aec,Dd,iy,lg,pC];refine⟨(_,[aJ],gk (bU 217077)),F,⟨⟨re,((BF.up aL (by decide)).up aL (by decide)).up aL (by decide)⟩,⟨0,rfl,?_⟩,λ_=>?_,?_,ab,G,aV⟩⟩
   ·rw[km];rfl
   ·rw[c5 (by decide),km];rfl
   ·exact aqX _ λk I=>by rw[c5 (mA k _ I (by decide)),c5 (mA k _ I (by decide)),c5 (mA k _ I (by decide))]
  ·have Im:Bh done gY=.ref 217077 gY 1 0 (D done):=by unfold Bh;rw[aa lv]
   rw[Im] at Dc;have Wx:=aqW lv
   have Gd:(D done)+1<=60:=by
    obtain⟨zQ,-,bu,-⟩:=aV;have bX:=Wu (af cash (dR (D cash) cs)) (10*(af cash (dR (D cash) cs)).n) λ_=>10;have b9:(af cash (dR (D cash) cs)).iI.length<=10*D cash:=bX;rw[bu] at b9;simp only[gC,qI] at b9;omega
   have c9:=kx Wv aqT 217077 gY 24 done aJ (cs:=[.H (.ax (aJ.map h4))]) rfl (by omega) (by omega);simp only[go_sem,go_sem_proc,cy,fW,fv,jk,k9,o7,tN,Dc,aec,Dd,Wx,iy,lg,c9];refine⟨(_,done++[aJ],gY+1),F,⟨⟨re,((BF.up aL (by decide)).up aL (by decide)).up aL (by decide)⟩,⟨0,rfl,?_⟩,λ_=>?_,?_,ab,G,aV⟩⟩
   ·rw[km];unfold Bh;rw[aa (by simp),gC];rfl
   ·rw[c5 (by decide),km]
   ·exact aqX _ λk I=>by rw[c5 (mA k _ I (by decide)),c5 (mA k _ I (by decide)),c5 (mA k _ I (by decide))]
def Alike.cL {d e:Day}(h:Alike d e):d.cL=e.cL:=by unfold Day.cL Day.pn;rw[h.top,h.rounds,h.n]
def Alike.iI {d e:Day}(h:Alike d e):d.iI=e.iI:=by unfold Day.iI;rw[h.rounds,h.n]
structure aed (cash:List Int) (cs:List aB):Prop where
 n:(D cash)<=1000000
 c:(D cs)<=1000000
 wF:hr cash cs=true->fX cash cs
def hy (cash:List Int)(cs:List aB):List bz:=cs.map λc=>av (gW cs ((af cash cs).cL c.1.toNat) c)
def lI (cash:List Int)(cs:List aB):List bz:=c8 (D cash) (af cash cs).cL
def ye (cash:List Int)(cs:List aB):Data:=if hr cash cs=true then .dj [.agg [.ax ((lI cash cs).map az),.ax ((hy cash cs).map az),.ax ((af cash cs).iI.map om)],.int .i64 0] else .dj [.agg [.ax [],.ax [],.ax []],.int .i64 1]
def aIf {cash:List Int}{cs:List aB}(R:fX cash cs):Ik cs ((eM (D cash)).map (af cash cs).cL):=by
 have X:=(hL.1 R.right).2.2.2;have aL:=R.jV;refine⟨R.wE,by simp;exact aL,λc J=>?_,λx L=>?_⟩
 ·have F:=X c J;have G:=R.am c J;rw[al,td];omega
 ·obtain⟨i,O,rfl⟩:=gm.1 L;have mD:=ig.1 O;exact⟨acI R.ok mD,(Qp R mD).mono (by omega)⟩
def aIg {cash:List Int}{cs:List aB}(R:fX cash cs):(cs.map λc=>av (gW cs (((eM (D cash)).map (af cash cs).cL).getD c.1.toNat 0) c))=hy cash cs:=ox λc J=>by
 have F:=(hL.1 R.right).2.2.2 c J;have:((eM (D cash)).map (af cash cs).cL).getD c.1.toNat 0=(af cash cs).cL c.1.toNat:=Fv (af cash cs).cL 0 (show c.1.toNat<(D cash) by omega);rw[this]
def aqY {f g:M->Option Data}(h:∀m d,f m=some d->g m=some d):∀(l:List M) (ds:List Data),l.mapM f=some ds->l.mapM g=some ds
 | [],ds,F=>by simpa using F
 |a::l,ds,F=>by
  rw[ns] at F ⊢
  cases aZ:f a with
  |none=>rw[aZ] at F;cases F
  |some x =>
   cases aq:l.mapM f with
   |none=>rw[aZ,aq] at F;cases F
   |some y =>
    rw[aZ,aq] at F;rw[h _ _ aZ,aqY h l y aq];exact F
def aqZ {mem:Mem}:∀{n:Nat} {m:M} {d:Data},cV n emp m=some d->cV n mem m=some d
 |0,m,d,h=>by cases m<;>simp_all [cV]
 |n+1,m,d,h=>by
  cases m<;>simp only[cV,emp,eL,reduceCtorEq] at h ⊢
  all_goals first
   |exact h
   |(obtain⟨ds,F,G⟩:=h;exact⟨ds,aqY (λm d=>aqZ) _ _ F,G⟩)
def aIh {mf:bJ}{d:Data}{bC:Mem->Prop}{e:eK}{st:bc}(h:oJ mf.res (λm mem'=>cV 6 emp m=some d/\bC mem') e st):vH mf.res (.same d) e st:=by
 have main:(∃m,pz st mf.res=some m/\cV 6 emp m=some d/\bC st.mem)->z2 mf.res (.same d) st:=by
  rintro⟨m,F,G,-⟩;show (pz st mf.res).bind (cV 6 st.mem)=some d;rw[F];exact aqZ G
 cases e with
 |exit id=>exact h
 |normal=>exact main h
 |ret=>exact main h
def aIi (T:ba)(Wy:T NA=aK QT)(Wz:T Ss=tz V1)(LH:T NB=tz Ls)(my:T pM=aK u4)(kL:T sa=aK v5)(Bd:T DU=aK Fw)(Q8:T St=po Q1)(cash:List Int)(cs:List aB)(J:aed cash cs)(v:M)(mem:Mem)(De:Ww mem)(kT:tW v cs mem)(WA:T NA [.H (.ax (cash.map aI)),v] (a5 mem 217004 0 [.nil,.nil,.nil])=some (.same (.bool (hr cash cs)))):
  wp T Cy.body (oJ Cy.res λm mem'=>cV 6 emp m=some (ye cash cs)/\∀j:Nat,¬ (j/1000=217\/j/1000=228)->mem' j=mem j) ⟨kq [.H (.ax (cash.map aI)),v],mem⟩:=by
 obtain⟨s5,jK,uS⟩:=J;refine ra ?_;simp only[Cy];have pV:mem 217004=none:=De 217004 (by decide) (by decide);unfold ye;rcases X:hr cash cs
 ·rw[aa (by decide)];rw[X] at WA;simp only[go_sem,go_sem_proc,pV,WA,cA];exact⟨_,rfl,rfl,λj ae=>(aa (by rintro rfl;exact ae (.inl (by decide)))).trans (aa (by rintro rfl;exact ae (.inl (by decide))))⟩
 ·rw[Y rfl];rw[X] at WA;have R:=uS X;have aL:=R.jV;have WB:=anG X;have aIj:ya mem (a5 mem 217004 0 [M.nil,M.nil,M.nil]):=λk I=>c5 (by omega)
  have gl:kh 228 (a5 mem 217004 0 [M.nil,M.nil,M.nil]):=λk I=>by
   rw[c5 (by rintro rfl;omega)];exact De k (by omega) (by omega)
  have fM:=aGa cash cs v (a5 mem 217004 0 [M.nil,M.nil,M.nil]) ⟨R,gl,kT.aF aIj⟩;simp only[go_sem,go_sem_proc,pV,WA,Wz,fM,b3];rintro aeb m ⟨g,gs,rfl,bH,bg⟩;dsimp only at bH;have fE:m 217004=some (0,[.nil,.nil,.nil]):=(bg 217004 (by decide)).trans km;have mq:m 217007=none:=(bg 217007 (by decide)).trans ((c5 (by decide)).trans (De 217007 (by decide) (by decide)));simp only[go_sem,go_sem_proc,mq];refine aId T LH my kL Bd cash cs R g gs v mem De _ _ ?_ ?_ ?_ ?_ ?_ ⟨⟨λ_=>false,?_⟩,⟨0,rfl,?_⟩,λh=>absurd rfl h,?_,λ_ _=>rfl,Reach.start (acG R).ok,⟨10*D cash,?_,rfl,rfl⟩⟩ ?_
  all_goals first|(intro C2 bU gY cy fW jk fV qV Wx C9)|(simp only[dC,cE,if_false,if_true];done)|(simp only[dC,cE,if_false,if_true];rfl)|(simp only[a5,cE,if_false,if_true];done)|(simp only[a5,cE,if_false,if_true];rfl)|(simp only[a5,cE,if_false,if_true];exact fE)|skip
  ·exact bH.up aL (by decide)
  ·intro k F G;rw[c5 (by rintro rfl;exact F (by decide)),bg k G,c5 (by rintro rfl;exact F (by decide))]
  ·rw[acH];exact cl _
  rw[<-WB.cL,<-WB.iI] at qV;rw[<-WB.iI] at Wx;have Q9:=λbk F G=>aHL cs ((eM (D cash)).map (af cash cs).cL) v bk (aIf R) F G;rw[aIg R] at Q9;replace Q9:∀bk,kh 233 bk->tW v cs bk->Q1 [v,.H (.ax ((lI cash cs).map az))] bk=some (.dj [.ax ((hy cash cs).map az),.bool true]):=Q9;replace qV:bU 217007=some (0,[.H (.ax ((lI cash cs).map az)),.nil,Bh (af cash cs).iI gY]):=qV;generalize lI cash cs=wK at *;generalize hy cash cs=qY at *;generalize (af cash cs).iI=wL at *;clear WB fM bH bg fE mq;have aq0:∀bk:Mem,(∀k:Nat,k/1000≠217->bk k=bU k)->kh 233 bk/\tW v cs bk/\∀j:Nat,¬ (j/1000=217\/j/1000=228)->bk j=mem j:=λbk gE=>⟨λk I=>(gE k (by omega)).trans ((C9 k (by omega) (by omega)).trans (De k (by omega) (by omega))),kT.aF λk I=>(gE k (by omega)).trans (C9 k (by omega) (by omega)),λj ae=>(gE j (by omega)).trans (C9 j (by omega) (by omega))⟩
  by_cases tC:wL=[]
  ·subst tC;replace qV:bU 217007=some (0,[.H (.ax (wK.map az)),.nil,.nil]):=qV;simp only[go_sem,go_sem_proc];refine adI ?_;rintro bk rfl;obtain⟨fB,gN,mR⟩:=aq0 bk λ_ _=>rfl;have PW:=Q9 bk fB gN;simp only[go_sem,go_sem_proc,cy,fW,jk,fV,qV,Q8,PW,b3,bY]
   exact⟨_,rfl,rfl,λj ae=>by
    rw[aa (by rintro rfl;exact ae (.inl (by decide))),aa (by rintro rfl;exact ae (.inl (by decide)))];exact mR j ae⟩
  ·have H4:=Wx tC;have Im:Bh wL gY=.ref 217077 gY 1 0 (D wL):=by unfold Bh;rw[aa tC]
   rw[Im] at qV;simp only[go_sem,go_sem_proc];refine adH (ud.RC 217007 0 _ 2 217077 gY 1 0 (D wL) _ (.ax (wL.map om)) qV rfl H4 (by decide) (k6 (n:=0) Wv H4)) ?_;intro bk gE;have aIk:bk 217007=some (0,[.H (.ax (wK.map az)),.nil,.H (.ax (wL.map om))]):=by rw[gE,km];rfl
   have Ho:bk 217004=some (0,[.nil,.nil,.nil]):=by
    rw[gE,c5 (by decide)];unfold kill;rw[c5 (by decide)];exact fV
   obtain⟨fB,gN,mR⟩:=aq0 bk λk I=>by
    rw[gE,c5 (by rintro rfl;exact I (by decide))];unfold kill;rw[c5 (by rintro rfl;exact I (by decide))]
   have PW:=Q9 bk fB gN;clear gE;simp only[go_sem,go_sem_proc,cy,fW,jk,Ho,aIk,Q8,PW,b3]
   exact⟨_,rfl,rfl,λj ae=>by
    rw[aa (by rintro rfl;exact ae (.inl (by decide))),aa (by rintro rfl;exact ae (.inl (by decide)))];exact mR j ae⟩
def Io:=bV u5 λ(cash,cs)=>cu (aed cash cs) (.same (ye cash cs))
@[go_sem] def WD (cash cs):=cH Io rfl K4 (cash,cs) rfl
def aIl (T:ba)(Wy:T NA=aK QT)(Wz:T Ss=tz V1)(LH:T NB=tz Ls)(my:T pM=aK u4)(kL:T sa=aK v5)(Bd:T DU=aK Fw)(Q8:T St=po Q1):WF T Cy Io:=by
 refine cp λ(cash,cs)=>cT λJ=>⟨rfl,ck ?_⟩;simp only[Cy,u5,cd];refine tv (wp_mono _ _ _ (λe st=>aIh) _ (aIi T Wy Wz LH my kL Bd Q8 cash cs J _ emp (λ_ _ _=>rfl) (aF1 cs emp) ?_));rw[Wy];simp only[go_sem,go_sem_proc,Wy,Wz,LH,my,kL,Bd,Q8,J.n,J.c]
def iN:aB:=(0,0,0,0)
def qZ (ak rk:Int)(c:aB):aB:=(c.1,c.2.1,rk,c.2.2.2/1000*ak+c.2.2.2%1000*ak/1000)
def jP (cs:List aB)(is:List Int)(ak:Int)(k:Nat):Bool :=
 (decide (0<=is.getD k 0)&&decide (is.getD k 0<D cs)&&(k==0||decide (is.getD (k-1) 0<is.getD k 0))) &&
 ((cs.getD (is.getD k 0).toNat iN).1==(cs.getD (is.getD 0 0).toNat iN).1&&decide ((qZ ak 0 (cs.getD (is.getD k 0).toNat iN)).2.2.2<=1000000000000000))
def h7 (cash:List Int)(cs:List aB)(is:List Int)(ak rk:Int):Bool :=
 hr cash cs&&(!is.isEmpty)&&decide (0<=ak)&&decide (ak<=10000)&&decide (0<=rk)&&decide (rk<=9)&&(eM (D is)).all (jP cs is ak)
def eF (cs:List aB)(is:List Int)(ak rk but:Int):Nat->List aB
 |0=>cs
 |t+1=>if (t:Int)=but then eF cs is ak rk but t else (eF cs is ak rk but t).set (is.getD t 0).toNat (qZ ak rk ((eF cs is ak rk but t).getD (is.getD t 0).toNat iN))
def vd (cs:List aB)(is:List Int)(ak rk but:Int)(t:Nat):(eF cs is ak rk but t).length=D cs:=by
 induction t with
 |zero=>rfl
 |succ t aG =>
  unfold eF
  split
  ·exact aG
  ·rw[ie,aG]
structure yf (cash:List Int) (cs:List aB) (is:List Int) (ak rk:Int):Prop where
 right:hr cash cs=true
 ne:0<D is
 sK:0<=ak/\ak<=10000
 iH:0<=rk/\rk<=9
 b6:∀k,k<(D is)->0<=is.getD k 0/\is.getD k 0<D cs
 aq1:∀k,0<k->k<(D is)->is.getD (k-1) 0<is.getD k 0
 aF:∀k,k<(D is)->(cs.getD (is.getD k 0).toNat iN).1=(cs.getD (is.getD 0 0).toNat iN).1
 am:∀k,k<(D is)->(qZ ak 0 (cs.getD (is.getD k 0).toNat iN)).2.2.2<=1000000000000000
def zF {cash:List Int}{cs:List aB}{is:List Int}{ak rk:Int}:h7 cash cs is ak rk=true↔yf cash cs is ak rk:=by
 unfold h7 jP;simp only[fC,decide_eq_true_eq,nt,ig,s9,beq_iff_eq,tw,List.isEmpty_eq_false_iff]
 constructor
 ·rintro⟨⟨⟨⟨⟨⟨F,G⟩,ab⟩,aV⟩,bu⟩,bX⟩,b9⟩;exact⟨F,Eg.2 G,⟨ab,aV⟩,⟨bu,bX⟩,λk I=>(b9 k I).1.1,λk ay I=>by rcases (b9 k I).1.2 with h|h;exact absurd h (by omega);exact h,λk I=>(b9 k I).2.1,λk I=>(b9 k I).2.2⟩
 ·intro h;refine⟨⟨⟨⟨⟨⟨h.right,Eg.1 h.ne⟩,h.sK.1⟩,h.sK.2⟩,h.iH.1⟩,h.iH.2⟩,λk I=>⟨⟨h.b6 k I,?_⟩,h.aF k I,h.am k I⟩⟩
  by_cases ay:k=0
  ·exact .inl ay
  ·exact .inr (h.aq1 k (by omega) I)
section
variable {cash:List Int} {cs:List aB} {is:List Int} {ak rk:Int} (h:yf cash cs is ak rk)
include h
def yf.lt {j k:Nat}(ey:j<k)(I:k<D is):is.getD j 0<is.getD k 0:=by
 induction k with
 |zero=>omega
 |succ k aG =>
  have F:=h.aq1 (k+1) (by omega) I;rw[Nat.add_sub_cancel] at F
  by_cases ae:j=k
  ·subst ae;exact F
  ·have:=aG (by omega) (by omega);omega
def yf.inj {j k:Nat}(ae:j<D is)(I:k<D is)(he:is.getD j 0=is.getD k 0):j=k:=by
 rcases Nat.lt_trichotomy j k with F|F|F
 ·have:=h.lt F I;omega
 ·exact F
 ·have:=h.lt F ae;omega
def yf.get {k:Nat}(I:k<D is):cs[(is.getD k 0).toNat]?=some (cs.getD (is.getD k 0).toNat iN):=by
 have:=h.b6 k I;rw[eD (l:=cs),bh (by omega:(is.getD k 0).toNat<D cs)];rfl
def yf.mem {k:Nat}(I:k<D is):cs.getD (is.getD k 0).toNat iN∈cs:=dy (h.get I)
open Classical in
def aq2 (but:Int){t:Nat}(b0:t<=D is)(j:Nat):(eF cs is ak rk but t)[j]?=(cs[j]?).map λc=>if ∃k,k<t/\(k:Int)≠but/\(is.getD k 0).toNat=j then qZ ak rk c else c:=by
 induction t with
 |zero =>
  show cs[j]?=_
  cases L:cs[j]? with
  |none=>rfl
  |some c =>
   rw[ks,aa];rintro⟨k,F,-⟩;omega
 |succ t aG =>
  have aG:=aG (by omega);unfold eF
  by_cases ad:(t:Int)=but
  ·rw[Y ad,aG]
   congr 1
   funext c
   have:(∃k,k<t/\(k:Int)≠but/\(is.getD k 0).toNat=j)↔∃k,k<t+1/\(k:Int)≠but/\(is.getD k 0).toNat=j:=by
    constructor
    ·rintro⟨k,F,G⟩;exact⟨k,by omega,G⟩
    ·rintro⟨k,F,G,ab⟩
     exact⟨k,by
            have:k≠t:=λh=>G (by rw[h];exact ad);omega,G,ab⟩
   simp only[this]
  ·rw[aa ad,List.getElem?_set,vd];have fK:=h.b6 t (by omega)
   by_cases ae:(is.getD t 0).toNat=j
   ·rw[Y ae,Y (by omega)]
    have hold:(eF cs is ak rk but t)[(is.getD t 0).toNat]?=some (cs.getD (is.getD t 0).toNat iN):=by
     rw[ae,aG,<-ae,h.get (by omega),ks,aa];rintro⟨k,F,-,ab⟩;have aV:=h.b6 k (by omega);have bu:=h.lt F (by omega:t<D is);omega
    rw[eD (l:=eF cs is ak rk but t),hold,BJ,<-ae,h.get (by omega),ks,Y ⟨t,by omega,ad,rfl⟩]
   ·rw[aa ae,aG]
    congr 1
    funext c
    have:(∃k,k<t/\(k:Int)≠but/\(is.getD k 0).toNat=j)↔∃k,k<t+1/\(k:Int)≠but/\(is.getD k 0).toNat=j:=by
     constructor
     ·rintro⟨k,F,G⟩;exact⟨k,by omega,G⟩
     ·rintro⟨k,F,G,ab⟩
      exact⟨k,by
             have:k≠t:=λh=>ae (by rw[<-h];exact ab);omega,G,ab⟩
    simp only[this]
def Ra (but:Int){t k:Nat}(b0:t<=D is)(I:k<D is):(eF cs is ak rk but t)[(is.getD k 0).toNat]?=some (if k<t/\(k:Int)≠but then qZ ak rk (cs.getD (is.getD k 0).toNat iN) else cs.getD (is.getD k 0).toNat iN):=by
 rw[aq2 h but b0,h.get I,ks]
 congr 1
 by_cases J:k<t/\(k:Int)≠but
 ·rw[Y J,Y ⟨k,J.1,J.2,rfl⟩]
 ·rw[aa J,aa];rintro⟨j,F,G,ab⟩;have au:=h.b6 k I;have aC:=h.b6 j (by omega);obtain rfl:=h.inj (by omega) I (by omega:is.getD j 0=is.getD k 0);exact J ⟨F,G⟩
def aIm {c:aB}(J:0<=c.2.2.2):0<=(qZ ak rk c).2.2.2:=by
 have F:0<=c.2.2.2/1000*ak:=sl (GP J (by decide)) h.sK.1;have G:0<=c.2.2.2%1000*ak/1000:=GP (sl (JL _ (by decide)) h.sK.1) (by decide);show 0<=c.2.2.2/1000*ak+c.2.2.2%1000*ak/1000;omega
def aq3 (but:Int){t:Nat}(b0:t<=D is):hr cash (eF cs is ak rk but t)=true:=by
 have X:=hL.1 h.right;refine hL.2 ⟨X.1,by rw[vd];exact X.2.1,X.2.2.1,λc J=>?_⟩
 obtain⟨j,ae⟩:=r9.1 J;rw[aq2 h but b0] at ae;obtain⟨l5,ay,F⟩:=eL.1 ae;have jK:=X.2.2.2 l5 (dy ay)
 split at F
 ·rename_i L;obtain⟨k,G,ab,aV⟩:=L;have I:=h.get (show k<(D is) by omega);rw[aV,ay] at I;have I:=nu I;have aZ:=h.am k (by omega);rw[aV,<-I] at aZ;have aL:=aIm h (rk:=rk) jK.2.2.2.2.2.2.1;have iH:=h.iH;rw[<-F];exact⟨jK.1,jK.2.1,jK.2.2.1,jK.2.2.2.1,iH.1,(by show rk<10;omega),aL,aZ⟩
 ·rw[<-F];exact jK
def aIn {l:List aB}(aq:hr cash l=true){j:Nat}{c:aB}(J:l[j]?=some c):hr cash (l.set j (c.1,c.2.1,rk,c.2.2.2))=true:=by
 have X:=hL.1 aq;refine hL.2 ⟨X.1,by rw[ie];exact X.2.1,X.2.2.1,λx L=>?_⟩
 rcases List.mem_or_eq_of_mem_set L with F|F
 ·exact X.2.2.2 x F
 ·have G:=X.2.2.2 c (dy J);have iH:=h.iH;rw[F];exact⟨G.1,G.2.1,G.2.2.1,G.2.2.2.1,iH.1,(by show rk<10;omega),G.2.2.2.2.2.2⟩
end
def ve (cash:List Int)(l:List aB)(j:Nat):Rat:=gW l ((af cash l).cL (l.getD j iN).1.toNat) (l.getD j iN)
def LI {cash:List Int}{l:List aB}{j:Nat}(ae:j<D l):(hy cash l)[j]?=some (av (ve cash l j)):=by
 unfold hy ve;rw[bm,bh ae,ks,eD,bh ae,BJ]
def WE {cash:List Int}{l:List aB}(R:fX cash l){j:Nat}(ae:j<D l):e0 482 (ve cash l j):=by
 have hm:l.getD j iN∈l:=by rw[eD,bh ae,BJ];exact mh ae
 have:=aoF R hm;rw[ac6 R.right _ hm] at this;exact this
def kn (cash:List Int)(cs:List aB)(is:List Int)(ak rk:Int)(k:Nat):Rat:=ve cash (eF cs is ak rk (-1) (D is)) (is.getD k 0).toNat
def tX (cash:List Int)(cs:List aB)(is:List Int)(ak rk:Int)(k:Nat):Rat:=ve cash (eF cs is ak rk k (D is)) (is.getD k 0).toNat
section
variable {cash:List Int} {cs:List aB} {is:List Int} {ak rk:Int} (h:yf cash cs is ak rk) {k:Nat} (I:k<D is)
include h I
omit I in
def aIo (aL:(D cash)<=6)(eu:(D cs)<=12)(but:Int):fX cash (eF cs is ak rk but (D is)):=by
 have X:=aq3 h but (cl _);exact⟨X,aL,by rw[vd];exact eu,λc J=>((hL.1 X).2.2.2 c J).2.2.2.2.2.2.2⟩
end
def aq4:bJ:=b5 19 1 [.t 2] (Q [c0 1 339001 0,cx 2 false] (Q [aD 3 0 1,aA 4 1 3,cq 5 4,a3 6 .leq 5 5,E 7 6,n4 8 7 1 1,j4 9 7 1 8,NS 10 7 9,k7 11 7 .leq 10 8,gr 12 7 11,E 13 12,n4 14 13 2 1,j4 15 13 1 14,NS 16 13 15,k7 17 13 .leq 16 10,gr 18 13 17,E 2 18] .ret))
def aq5:bJ:=b5 42 1 [.t 2,.t 3] (Q [c0 1 342001 0,dO 2,a7 3 0] (.seq (Q [aS 8 5 1,dv 9 GD 8,fb 10 9] (b4 10 [dO 2,a7 3 1])) (ed [aD 12 0 1,aA 13 1 12,aS 14 5 1,aP 15 (.call GG [.t 14,.c (.H (.int .i64 (-1)))]),bI 16 Gy 13 15,E 11 16,a0 17 0 11,a0 18 1 11,bQ 4 342004 sd,aT 3 4 17,E 5 18] [[],[],[],[],[],[],[],[],[1,2],[],[]] (.seq (Q [E 19 5,a3 20 .neq 19 0] (b4 20 [E 21 5,dO 2,E 3 21])) (Q [dO 6] (.seq (Q [a7 7 0] (.block 0 (.ghost (.nq 6 342040 4) (.loop  (.seq (Q [E 22 7,aD 23 2 1,aA 24 1 23,cq 25 24,bp 26 .lss 22 25] (dq 26 0)) (.seq (.block 1 (.l9 [E 29 6,aD 30 1 4,aA 31 1 30,aD 32 2 1,aA 33 1 32,E 34 7,br 35 1 33 34,aA 36 1 35,br 37 4 31 36,aS 38 4 37,aP 39 (.eW 342039 false cG 4 1 [(0,4,.t 38)]),aP 40 (.app 342040 cG 64 (.t 29) (.t 39)),E 6 40] GJ)) (.ops [E 27 7,a3 28 .add 27 1,E 7 28]))))))) (.seq (.ghost (.freeze 6) (.ops [E 41 6,E 2 41,a7 3 0])) .ret)))))))
def aq6:bJ:=b5 44 2 [.cell 4 4 true,.t 5] (Q [c0 2 344002 0,bQ 4 344004 cG,a7 5 0] (.seq (Q [aS 8 5 2,dv 9 GD 8,fb 10 9] (b4 10 [aP 11 (.build cG []),aT 4 4 11,a7 5 1])) (.seq (Q [E 12 1,a3 13 .lss 12 0,E 14 13,fr 15 14 1,ez 16 14 2 2,dG 17 14 1 16,pN 18 14 17,rm 19 14 .geq 15 18,cv 20 14 19] (b4 20 [aP 21 (.build cG []),aT 4 4 21,a7 5 4])) (ed [aD 23 0 2,aA 24 1 23,aS 25 5 2,E 26 1,bI 27 GG 25 26,bI 28 Gy 24 27,E 22 28,a0 29 0 22,a0 30 1 22,bQ 6 344006 sd,aT 3 6 29,E 7 30] [[],[],[],[],[],[],[],[],[],[1,2],[],[]] (.seq (Q [E 31 7,a3 32 .neq 31 0] (b4 32 [aP 33 (.build cG []),E 34 7,aT 4 4 33,E 5 34])) (ed [aD 35 1 6,aA 36 1 35,aD 37 2 2,aA 38 1 37,E 39 1,br 40 1 38 39,aA 41 1 40,br 42 4 36 41,aS 43 4 42,aT 4 4 43,a7 5 0] Aa .ret))))))
def aq7:bJ:=b5 27 2 [.t 4] (Q [cx 4 false] (.seq (Q [E 6 0,cq 7 6,E 8 1,cq 9 8,bp 10 .neq 7 9] (b4 10 [cx 4 false])) (.seq (Q [a7 5 0] (dY 0 (.seq (Q [E 11 5,E 12 0,cq 13 12,bp 14 .lss 11 13] (dq 14 0)) (.seq (.block 1 (ed [E 17 0,E 18 5,br 19 4 17 18,aS 20 4 19,E 21 1,E 22 5,br 23 4 21 22,aS 24 4 23,bI 25 DP 20 24,fb 26 25] Jy (b4 26 [cx 4 false]))) (.ops [E 15 5,a3 16 .add 15 1,E 5 16]))))) (Q [cx 4 true] .ret))))
def aq8:bJ:=b5 100 1 [.t 2] (Q [c0 1 347001 0,cx 2 false] (.seq (Q [aD 6 0 1,aA 7 1 6,aD 8 1 1,aA 9 1 8,bI 10 Zc 7 9,fb 11 10,E 12 11,ez 13 12 2 1,dG 14 12 1 13,pN 15 12 14,fc 16 12 .eql 15 0,cv 17 12 16,E 18 17,ez 19 18 3 1,dG 20 18 1 19,fc 21 18 .lss 20 0,cv 22 18 21,E 23 22,ez 24 23 3 1,dG 25 23 1 24,fc 26 23 .gtr 25 10000,cv 27 23 26,E 28 27,ez 29 28 4 1,dG 30 28 1 29,fc 31 28 .lss 30 0,cv 32 28 31,E 33 32,ez 34 33 4 1,dG 35 33 1 34,fc 36 33 .gtr 35 9,cv 37 33 36] (b4 37 [cx 2 false])) (.seq (Q [a7 3 0] (dY 0 (.seq (Q [E 38 3,aD 39 2 1,aA 40 1 39,cq 41 40,bp 42 .lss 38 41] (dq 42 0)) (.seq (.block 1 (Q [aD 45 2 1,aA 46 1 45,E 47 3,br 48 1 46 47,aA 49 1 48,E 4 49] (.seq (Q [E 50 4,a3 51 .lss 50 0,E 52 51,fr 53 52 4,ez 54 52 1 1,dG 55 52 1 54,pN 56 52 55,rm 57 52 .geq 53 56,cv 58 52 57,E 59 58,fr 60 59 3,fc 61 59 .gtr 60 0,fr 62 59 61,eg 63 62 4,n4 64 62 2 1,j4 65 62 1 64,eg 66 62 3,k7 67 62 .sub 66 1,h0 68 62 (.jX true (.t 67) (.c (bM 0))),rn 69 62 1 65 68,j4 70 62 1 69,uF 71 62 .leq 63 70,e3 72 59 (.pick (.t 62) (.t 71) (.c (.H (.bool false)))),cv 73 59 72] (b4 73 [cx 2 false])) (.seq (ed [aD 74 1 1,aA 75 1 74,E 76 4,br 77 4 75 76,aD 78 0 77,aA 79 1 78,aD 80 1 1,aA 81 1 80,aD 82 2 1,aA 83 1 82,aP 84 (.q2 1 (.t 83) (.c (bM 0))),aA 85 1 84,br 86 4 81 85,aD 87 0 86,aA 88 1 87,bp 89 .neq 79 88] DY (b4 89 [cx 2 false])) (ed [aS 90 5 1,aD 91 1 1,aA 92 1 91,E 93 4,br 94 4 92 93,aS 95 4 94,bI 96 NR 90 95,bQ 5 347005 lS,aT 4 5 96] [[],[],[],[],[],[],[],[0,2,5],[]] (Q [aD 97 3 5,aA 98 1 97,a3 99 .gtr 98 1000000000000000] (b4 99 [cx 2 false]))))))) (.ops [E 43 3,a3 44 .add 43 1,E 3 44]))))) (Q [cx 2 true] .ret))))
def aq9:bJ:=b5 50 2 [.t 4,.cell 5 4 true,.t 6] (Q [c0 2 349002 0,cx 4 false,bQ 5 349005 cG,a7 6 0] (Q [aS 14 5 2,E 15 1,bI 16 NN 14 15,E 13 16,a0 17 0 13,a0 18 1 13,bQ 7 349007 cG,aT 4 7 17,E 8 18] (.seq (Q [E 19 8,a3 20 .neq 19 0] (b4 20 [aP 21 (.build cG []),E 22 8,cx 4 false,aT 4 5 21,E 6 22])) (Q [aS 24 5 2,dv 25 GA 24,E 23 25,a0 26 0 23,a0 27 1 23,E 9 26,E 10 27] (.seq (Q [E 28 10,a3 29 .neq 28 0] (b4 29 [aP 30 (.build cG []),E 31 10,cx 4 false,aT 4 5 30,E 6 31])) (ed [aS 33 4 7,E 34 9,E 35 1,br 36 4 34 35,aS 37 4 36,bI 38 yB 33 37,E 32 38,a0 39 0 32,a0 40 1 32,bQ 11 349011 cG,aT 4 11 39,E 12 40] [[],[],[],[],[],[],[],[],[],[0,4],[],[]] (.seq (Q [E 41 12,a3 42 .neq 41 0] (b4 42 [aP 43 (.build cG []),E 44 12,cx 4 false,aT 4 5 43,E 6 44])) (ed [aD 45 0 11,aD 46 0 45,aA 47 1 46,a3 48 .gtr 47 0,aS 49 4 11,E 4 48,aT 4 5 49,a7 6 0] Zg .ret))))))))
def ara:bJ:=b5 71 2 [.t 4,.t 5] (Q [c0 2 351002 0,a7 4 0,a7 5 0] (Q [aS 15 5 2,E 16 1,bI 17 NO 15 16,E 14 17,a0 18 0 14,a0 19 1 14,a0 20 2 14,bQ 7 351007 cG,E 6 18,aT 4 7 19,E 8 20] (.seq (Q [E 21 8,a3 22 .neq 21 0,E 23 22,fr 24 23 6,ha 25 23 24,cv 26 23 25] (b4 26 [E 27 8,a7 4 0,E 5 27])) (Q [aS 29 5 2,dv 30 GA 29,E 28 30,a0 31 0 28,a0 32 1 28,E 9 31,E 10 32] (Q [aS 33 5 2,E 34 1,aP 35 (.nT 351035 4 GG [.t 33,.t 34]),E 11 35] (ed [E 36 11,aD 37 2 2,aA 38 1 37,E 39 1,br 40 1 38 39,aA 41 1 40,aD 42 4 2,aA 43 1 42,br 44 4 36 41,aD 45 2 44,aT 1 45 43] Aa (.seq (.ghost (.freeze 11) (.ops [aD 47 0 2,aA 48 1 47,E 49 11,bI 50 Gy 48 49,E 46 50,a0 51 0 46,a0 52 1 46,bQ 12 351012 sd,aT 3 12 51,E 13 52])) (.seq (Q [E 53 13,a3 54 .neq 53 0] (b4 54 [E 55 13,a7 4 0,E 5 55])) (.seq (ed [aD 56 1 12,aA 57 1 56,aD 58 2 2,aA 59 1 58,E 60 1,br 61 1 59 60,aA 62 1 61,br 63 4 57 62,aS 64 4 63,E 65 9,E 66 1,br 67 4 65 66,aS 68 4 67,bI 69 uC 64 68,a3 70 .gtr 69 0] avU (b4 70 [a7 4 2,a7 5 0])) (Q [a7 4 1,a7 5 0] .ret))))))))))
def arb:bJ:=b5 39 2 [.t 4] (Q [c0 2 352002 0,dO 4] (Q [aP 7 (.eW 352007 true [] 4 0 []),aD 8 1 2,aA 9 1 8,aP 10 (.app 352010 lS 32 (.t 7) (.t 9)),E 5 10] (.seq (Q [a7 6 0] (dY 0 (.seq (Q [E 11 6,aD 12 2 2,aA 13 1 12,cq 14 13,bp 15 .lss 11 14] (dq 15 0)) (.seq (.block 1 (Q [E 18 6,E 19 1,bp 20 .neq 18 19] (e8 20 (.l9 [E 21 5,aD 22 2 2,aA 23 1 22,E 24 6,br 25 1 23 24,aA 26 1 25,aS 27 5 2,E 28 5,aD 29 2 2,aA 30 1 29,E 31 6,br 32 1 30 31,aA 33 1 32,br 34 4 28 33,aS 35 4 34,bI 36 NR 27 35,br 37 4 21 26,aT 4 37 36] Zh) .skip))) (.ops [E 16 6,a3 17 .add 16 1,E 6 17]))))) (Q [E 38 5,E 4 38] .ret))))
def arc:bJ:=b5 26 2 [.cell 4 4 true] (Q [c0 2 359002 0,c0 3 359003 1,bQ 4 359004 lS] (Q [aD 5 0 3,aA 6 1 5,aD 7 1 3,aA 8 1 7,aD 9 4 2,aA 10 1 9,aD 11 3 3,aA 12 1 11,a3 13 .quo 12 1000,aD 14 3 2,aA 15 1 14,bp 16 .mul 13 15,aD 17 3 3,aA 18 1 17,a3 19 .rem 18 1000,aD 20 3 2,aA 21 1 20,bp 22 .mul 19 21,a3 23 .quo 22 1000,bp 24 .add 16 23,aP 25 (.build lS [(0,1,.t 6),(1,1,.t 8),(2,1,.t 10),(3,1,.t 24)]),aT 4 4 25] .ret))
def ard:bJ:=b5 86 2 [.t 4] (Q [cx 4 false] (.seq (Q [E 8 0,cq 9 8,a3 10 .gtr 9 60,E 11 10,fr 12 11 1,pN 13 11 12,fc 14 11 .gtr 13 2000,cv 15 11 14] (b4 15 [cx 4 false])) (.seq (Q [a7 5 0] (dY 0 (.seq (Q [E 16 5,E 17 0,cq 18 17,bp 19 .lss 16 18] (dq 19 0)) (.seq (.block 1 (Q [E 22 0,E 23 5,br 24 1 22 23,aA 25 1 24,a3 26 .lss 25 0,E 27 26,fr 28 27 0,fr 29 27 5,B5 30 27 1 28 29,dG 31 27 1 30,fc 32 27 .gtr 31 1000000000000000,cv 33 27 32] (b4 33 [cx 4 false]))) (.ops [E 20 5,a3 21 .add 20 1,E 5 21]))))) (.seq (Q [a7 6 0] (dY 2 (.seq (Q [E 34 6,E 35 1,cq 36 35,bp 37 .lss 34 36] (dq 37 2)) (.seq (.block 3 (Q [E 40 1,E 41 6,br 42 4 40 41,aS 43 4 42,bQ 7 358007 lS,aT 4 7 43] (Q [aD 44 0 7,aA 45 1 44,a3 46 .lss 45 0,E 47 46,ez 48 47 0 7,dG 49 47 1 48,fr 50 47 0,pN 51 47 50,rm 52 47 .geq 49 51,cv 53 47 52,E 54 53,ez 55 54 1 7,dG 56 54 1 55,e3 57 54 (.bin .lss (.t 56) (.c (.H (.int .i64 (-1))))),cv 58 54 57,E 59 58,ez 60 59 1 7,dG 61 59 1 60,fr 62 59 0,pN 63 59 62,rm 64 59 .geq 61 63,cv 65 59 64,E 66 65,ez 67 66 2 7,dG 68 66 1 67,fc 69 66 .lss 68 0,cv 70 66 69,E 71 70,ez 72 71 2 7,dG 73 71 1 72,fc 74 71 .gtr 73 9,cv 75 71 74,E 76 75,ez 77 76 3 7,dG 78 76 1 77,fc 79 76 .lss 78 0,cv 80 76 79,E 81 80,ez 82 81 3 7,dG 83 81 1 82,fc 84 81 .gtr 83 1000000000000000,cv 85 81 84] (b4 85 [cx 4 false])))) (.ops [E 38 6,a3 39 .add 38 1,E 6 39]))))) (Q [cx 4 true] .ret)))))

def dm (cash:List Int)(cs:List aB)(is:List Int)(ak rk:Int):List Data:=[.ax (cash.map aI),.ax (cs.map bL),.ax (is.map aI),.int .i64 ak,.int .i64 rk]
def aee {cash Ff:List Int}{cs jY:List aB}{is arf:List Int}{ak arh rk ari:Int}(h:dm cash cs is ak rk=dm Ff jY arf arh ari):cash=Ff/\cs=jY/\is=arf/\ak=arh/\rk=ari:=by
 simp only[dm,bj,Data.ax.injEq,Data.int.injEq,and_true,true_and] at h;exact⟨map_inj gq _ _ h.1,map_inj tM _ _ h.2.1,map_inj gq _ _ h.2.2.1,h.2.2.2.1,h.2.2.2.2⟩
def WG:=bV u5 λ(cash,cs)=>cu (D cash<=1000000/\D cs<=1000000) (.same (.bool (hr cash cs)))
@[go_sem] def aIp (cash cs):=cH WG rfl K4 (cash,cs) rfl
def aIq (T:ba)(adU:T NF=aK QO)(adV:T NG=aK QS):WF T ap7 WG:=by
 refine cp λ(cash,cs)=>cT λJ=>⟨rfl,ck ?_⟩;simp only[ap7,u5,cd];obtain⟨F,G⟩:=J;rw[U5];have dX:=aqj cash .hold ⟨F,by show yD<900000;decide⟩
 have ga:=aqo cs (.hold (D cash)) ⟨G,by decide,by show (0:Int)<=(D cash:Int);omega,by show (D cash:Int)<=1000000;omega⟩
 have au:cash.any (wJ .hold) = !cash.all jc:=Wc cash jc;have aC:cs.any (Db (.hold (D cash))) = !cs.all (kg (D cash)):=Wc cs _;rw[au] at dX;rw[aC] at ga;simp only[Da] at dX;simp only[Ih] at ga;have d1:decide (D cash<=60)=decide ((D cash:Int)<=60):=by rw[od,decide_eq_true_iff,decide_eq_true_iff];omega
 have d2:decide (D cs<=2000)=decide ((D cs:Int)<=2000):=by rw[od,decide_eq_true_iff,decide_eq_true_iff];omega
 rw[d1,d2];rcases dI:decide ((D cash:Int)<=60)<;>rcases ek:decide ((D cs:Int)<=2000)<;>rcases ht:cash.all jc<;>rcases fV:cs.all (kg (D cash))
 all_goals rw[ht] at dX
 all_goals rw[fV] at ga
 all_goals
      refine ai ?_;repeat' (intro h<;>simp only[h,go_sem,go_sem_proc,adU,adV,dX,ga,dI,ek,al,b3,cA,te,iS,cV,Bo,xA,scalar]<;>try refine ag ?_ ?_)
def arj {a ak:Int}(ay:0<=a)(F:a<=1000000000000000)(eB:0<=ak)(w1:ak<=10000):0<=a/1000*ak/\a/1000*ak<=10000000000000000/\0<=a%1000*ak/\a%1000*ak<=10000000:=by
 have cz:0<=a/1000:=GP ay (by decide);have cY:a/1000<=1000000000000:=by omega
 have eA:0<=a%1000:=JL _ (by decide);have eQ:a%1000<=1000:=by omega
 exact⟨sl cz eB,ark (JG cY w1 eB (by decide)) (by decide),sl eA eB,ark (JG eQ w1 eB (by decide)) (by decide)⟩
def arl {a ak:Int}(ay:0<=a)(F:a<=1000000000000000)(eB:0<=ak)(w1:ak<=10000):IntKind.i64.wrap (IntKind.i64.wrap (IntKind.i64.wrap (a.tdiv 1000)*ak)+IntKind.i64.wrap ((IntKind.i64.wrap (a.tmod 1000*ak)).tdiv 1000))=a/1000*ak+a%1000*ak/1000:=by
 obtain⟨cQ,dN,gy,g3⟩:=arj ay F eB w1;rw[Cf ay,Int.tmod_eq_emod_of_nonneg ay,wrap64 (a/1000) (by omega) (by omega),wrap64 (a/1000*ak) (by omega) (by omega),wrap64 (a%1000*ak) (by omega) (by omega),Cf gy];generalize a/1000*ak=x at *;generalize a%1000*ak=y at *;rw[wrap64 (y/1000) (by omega) (by omega),wrap64 _ (by omega) (by omega)]
def aIr {a ak:Int}(ay:0<=a)(F:a<=1000000000000000)(eB:0<=ak)(w1:ak<=10000):0<=a/1000*ak+a%1000*ak/1000/\a/1000*ak+a%1000*ak/1000<=10000000000010000:=by
 obtain⟨cQ,dN,gy,g3⟩:=arj ay F eB w1;generalize a/1000*ak=x at *;generalize a%1000*ak=y at *;omega
abbrev LJ:(List Int)×(List aB)×(List Int)×Int×Int×Int×Int×Int×Int->List Data:=λ(cash,cs,is,ak,rk,ar,c2,c3,c4)=>[.agg (dm cash cs is ak rk),.agg [.int .i64 ar,.int .i64 c2,.int .i64 c3,.int .i64 c4]]
def Rb:=bV LJ λ(cash,cs,is,ak,rk,ar,c2,c3,c4)=>cu (0<=c4/\c4<=1000000000000000/\0<=ak/\ak<=10000) (.same (.agg (bL (qZ ak rk (ar,c2,c3,c4)))))
def arn:∀a b,LJ a=LJ b->a=b:=by
  rintro⟨K5,C0,aro,arp,arq,aQz,aQA,aQB,aQC⟩ ⟨K6,uq,ars,art,aru,wE,aQD,aQE,aQF⟩ h;simp only[bj,Data.agg.injEq,Data.int.injEq,and_true,true_and] at h;obtain⟨cU,dc,hj,kV,xZ⟩:=h;obtain⟨rfl,rfl,rfl,rfl,rfl⟩:=aee cU;rw[dc,hj,kV,xZ]
@[go_sem] def arv (cash cs is ak rk ar c2 c3 c4):=cH Rb rfl arn (cash,cs,is,ak,rk,ar,c2,c3,c4) rfl
def aIs (T:ba):WF T ap8 Rb:=by
 refine cp λ(cash,cs,is,ak,rk,ar,c2,c3,c4)=>cT λJ=>⟨rfl,ck ?_⟩;simp only[ap8,LJ,cd];obtain⟨ay,F,eB,w1⟩:=J;refine ai ?_;repeat' (intro h<;>simp only[h,go_sem,go_sem_proc,dm,bL,qZ,arl ay F eB w1]<;>try refine ag ?_ ?_)
def Rc:=bV LJ λ(cash,cs,is,ak,rk,ar,c2,c3,c4)=>cu (0<=c4/\c4<=1000000000000000/\0<=ak/\ak<=10000) (.same (.agg (bL (qZ ak rk (ar,c2,c3,c4)))))
@[go_sem] def arw (cash cs is ak rk ar c2 c3 c4):=cH Rc rfl arn (cash,cs,is,ak,rk,ar,c2,c3,c4) rfl
def aIt (T:ba):WF T arc Rc:=by
 refine cp λ(cash,cs,is,ak,rk,ar,c2,c3,c4)=>cT λJ=>⟨rfl,ck ?_⟩;simp only[arc,LJ,cd];obtain⟨ay,F,eB,w1⟩:=J;refine ai ?_;repeat' (intro h<;>simp only[h,go_sem,go_sem_proc,dm,bL,qZ,arl ay F eB w1]<;>try refine ag ?_ ?_)
def arx {cs:List aB}{is:List Int}{ak:Int}{k:Nat}(h:∀j,j<k->jP cs is ak j=true){j:Nat}(ae:j<k):0<=is.getD j 0/\is.getD j 0<D cs:=by
 have:=h j ae;unfold jP at this;simp only[fC,decide_eq_true_eq] at this;exact this.1.1
def Bi {cash:List Int}{cs:List aB}{is:List Int}{ak rk:Int}{k:Nat}(I:k<D is)(h:jP cs is ak k=false):h7 cash cs is ak rk=false:=by
 unfold h7;have:(eM (D is)).all (jP cs is ak)=false:=aef.2 ⟨k,ig.2 I,by rw[h];decide⟩
 rw[this,iS]
def q0 (cash:List Int)(cs:List aB)(is:List Int):Prop:=D cash<=6/\D cs<=12/\D is<=1000000
abbrev vf:(List Int)×(List aB)×(List Int)×Int×Int->List Data:=λ(cash,cs,is,ak,rk)=>[.agg (dm cash cs is ak rk)]
def Ip:=bV vf λ(cash,cs,is,ak,rk)=>cu (q0 cash cs is) (.same (.bool (h7 cash cs is ak rk)))
def LK:∀a b,vf a=vf b->a=b:=by
  rintro⟨K5,C0,aro,arp,arq⟩ ⟨K6,uq,ars,art,aru⟩ h;simp only[bj,Data.agg.injEq,and_true] at h;obtain⟨rfl,rfl,rfl,rfl,rfl⟩:=aee h;rfl
@[go_sem] def WH (cash cs is ak rk):=cH Ip rfl LK (cash,cs,is,ak,rk) rfl
def aIu (T:ba)(sL:T Zb=aK WG)(ni:T uD=aK Ig)(nS:T NQ=aK Rb):WF T ap2 Ip:=by
 refine cp λ(cash,cs,is,ak,rk)=>cT λJ=>⟨rfl,ck ?_⟩;simp only[ap2,vf,cd];obtain⟨aL,eu,yR⟩:=J;have Z:=aIp cash cs ⟨by omega,by omega⟩
 have d0:((D is:Int)==0)=is.isEmpty:=by cases is<;>simp<;>omega
 rcases wM:hr cash cs
 ·rw[wM] at Z;have aH:h7 cash cs is ak rk=false:=by unfold h7;rw[wM];rfl
  rw[aH];refine ai ?_;repeat' (intro (ao:_=_)<;>simp only[ao,go_sem,go_sem_proc,sL,ni,nS,dm,Z,al,cA]<;>try refine ag ?_ ?_)
 rw[wM] at Z;rcases dI:is.isEmpty
 case true =>
  have aH:h7 cash cs is ak rk=false:=by unfold h7;rw[wM,dI];rfl
  rw[aH];rw[dI] at d0;refine ai ?_;repeat' (intro (ao:_=_)<;>simp only[ao,go_sem,go_sem_proc,sL,ni,nS,dm,Z,d0,al,b3]<;>try refine ag ?_ ?_)
 rw[dI] at d0;rcases ek:(decide (0<=ak)&&decide (ak<=10000))
 ·have aH:h7 cash cs is ak rk=false:=by
   unfold h7;rw[WI (_&&_) (decide (0<=ak)),ek];simp
  rw[aH];refine ai ?_;repeat' (intro (ao:_=_)<;>simp only[ao,go_sem,go_sem_proc,sL,ni,nS,dm,Z,d0,ek,al,b3,cA]<;>try refine ag ?_ ?_)
 rcases ht:(decide (0<=rk)&&decide (rk<=9))
 ·have aH:h7 cash cs is ak rk=false:=by
   unfold h7;rw[WI (_&&_) (decide (0<=rk)),ht];simp
  rw[aH];refine ai ?_;repeat' (intro (ao:_=_)<;>simp only[ao,go_sem,go_sem_proc,sL,ni,nS,dm,Z,d0,ek,ht,al,b3,cA]<;>try refine ag ?_ ?_)
 have ea:h7 cash cs is ak rk=(eM (D is)).all (jP cs is ak):=by
  unfold h7;rw[WI (_&&_) (decide (0<=rk)),ht,te,WI (_&&_) (decide (0<=ak)),ek,wM,dI];rfl
 have sK:0<=ak/\ak<=10000:=by simpa using ek
 have mo:=(hL.1 wM).2.2.2;simp only[go_sem,go_sem_proc,sL,ni,nS,dm,Z,d0,ek,ht,al,b3,cA];refine dd [1,31,32] [346001] (λ(k:Nat) tm m=>k<=D is/\tm 33=.H (.int .i64 k)/\∀j,j<k->jP cs is ak j=true) (λk=>D is-k) 0 (by refine⟨by omega,rfl,λj ae=>by omega⟩) ?_;intro vs ms aQ aM;simp only[go_sem,go_sem_proc,sL,ni,nS,dm,al] at aQ aM;subst aQ aM;rintro k tm m I hm ⟨O,sJ,da⟩;simp only[go_sem,go_sem_proc,sL,ni,nS,bj] at I hm;obtain⟨au,iq,ir⟩:=I;rcases dn (k<D is) with ah|bW
 ·have d1:decide ((k:Int)<(D is:Int))=true:=cX;have bF:=eI (i:=k) (by omega);have wl:IntKind.i64.wrap ((D cs:Int)-1)=(D cs:Int)-1:=by rw[eY _]
  obtain⟨i,L⟩:∃i,is[k]?=some i:=⟨_,bh ah⟩;have jM:=kW (d:=0) L;obtain⟨i0,iW⟩:∃i,is[0]?=some i:=⟨_,bh (by omega)⟩;have Rd:=kW (d:=0) iW;rcases oo:(decide (0<=i)&&decide (i<=(D cs:Int)-1))
  ·have R:jP cs is ak k=false:=by
    have:¬ (0<=i/\i<D cs):=λh=>by rw[Iq,decide_eq_false_iff_not,decide_eq_false_iff_not] at oo;omega
    unfold jP;rw[jM,Iq]
    left
    rw[Iq]
    left
    rw[Iq,decide_eq_false_iff_not,decide_eq_false_iff_not];omega
   rw[Bi ah R];refine ai ?_;repeat' (intro (ao:_=_)<;>simp only[ao,go_sem,go_sem_proc,sL,ni,nS,au,iq,ir,sJ,hm,L,d1,wl,oo,aI,al,bm,cA]<;>try refine ag ?_ ?_)
  have aQG:0<=i/\i<D cs:=by rw[fC,decide_eq_true_iff,decide_eq_true_iff] at oo;omega
  obtain⟨n,rfl⟩:∃n:Nat,i=(n:Int):=⟨i.toNat,by omega⟩
  obtain⟨⟨ar,c2,c3,c4⟩,J⟩:∃c,cs[n]?=some c:=⟨_,bh (by omega)⟩;have QV:=kW (d:=iN) J;have jU:=mo _ (dy J);dsimp only at jU
  have uH:0<=i0/\i0<D cs:=by
   by_cases n1:k=0
   ·subst n1;rw[L] at iW;have:=nu iW;omega
   ·have:=arx da (j:=0) (by omega);rwa [Rd] at this
  obtain⟨aeg,rfl⟩:∃n:Nat,i0=(n:Int):=⟨i0.toNat,by omega⟩
  obtain⟨⟨fB,gN,mR,tO⟩,a2⟩:∃c,cs[aeg]?=some c:=⟨_,bh (by omega)⟩;have N7:=kW (d:=iN) a2;have iy:0<D is:=by omega
  have hex:=arv cash cs is ak rk ar c2 c3 c4 ⟨jU.2.2.2.2.2.2.1,jU.2.2.2.2.2.2.2,sK.1,sK.2⟩;obtain⟨HZ,fx⟩:=aIr jU.2.2.2.2.2.2.1 jU.2.2.2.2.2.2.2 sK.1 sK.2
  have rS:jP cs is ak k=((k==0||decide (is.getD (k-1) 0<(n:Int)))&&(ar==fB&&decide (c4/1000*ak+c4%1000*ak/1000<=1000000000000000))):=by
   unfold jP;rw[jM,Rd,gK,gK,QV,N7,hN (by omega:(0:Int)<=(n:Int)),hN (by omega:(n:Int)<(D cs:Int))]
   rfl
  simp only[dm,bL,qZ] at hex;generalize dX:c4/1000*ak+c4%1000*ak/1000=A at *;have WJ:decide (0<=A)=true:=hN HZ
  have WK:jP cs is ak k=true->∀j,j<k+1->jP cs is ak j=true:=λh j ae=>by
   by_cases ey:j=k
   ·rw[ey];exact h
   ·exact da j (by omega)
  rcases q1:(k==0||decide (is.getD (k-1) 0<(n:Int)))
  ·have R:jP cs is ak k=false:=by rw[rS,q1];rfl
   rw[Bi ah R];rw[Bool.or_eq_false_iff,beq_eq_false_iff_ne,decide_eq_false_iff_not] at q1;obtain⟨y,aj⟩:∃i,is[k-1]?=some i:=⟨_,bh (by omega)⟩;have v7:=kW (d:=0) aj;rw[v7] at q1;have d2:decide ((k:Int)>0)=true:=cX;have jN:IntKind.i64.wrap ((k:Int)-1)=((k-1:Nat):Int):=by rw[eY _];omega
   have d3:decide ((n:Int)<=y)=true:=cX;have bG:k-1<D is:=by omega
   refine ai ?_;repeat' (intro (ao:_=_)<;>simp only[ao,go_sem,go_sem_proc,sL,ni,nS,au,iq,ir,sJ,hm,L,aj,d1,d2,d3,wl,jN,oo,bG,aI,al,bm,b3]<;>try refine ag ?_ ?_)
  rw[q1] at rS;rcases kJ:(ar==fB)
  ·have R:jP cs is ak k=false:=by rw[rS,kJ];rfl
   rw[Bi ah R];rcases kO k with n1|n1
   ·have d2:decide ((k:Int)>0)=false:=b7;refine ai ?_;repeat' (intro (ao:_=_)<;>simp only[ao,go_sem,go_sem_proc,sL,ni,nS,au,iq,ir,sJ,hm,L,iW,J,a2,d1,d2,wl,oo,kJ,iy,bL,aI,al,bm,b3,cA,sM,bne]<;>try refine ag ?_ ?_)
   ·obtain⟨y,aj⟩:∃i,is[k-1]?=some i:=⟨_,bh (by omega)⟩;have v7:=kW (d:=0) aj;have d2:decide ((k:Int)>0)=true:=cX;have jN:IntKind.i64.wrap ((k:Int)-1)=((k-1:Nat):Int):=by rw[eY _];omega
    have d3:decide ((n:Int)<=y)=false:=by
     rw[s9,beq_iff_eq,decide_eq_true_iff,v7] at q1;exact b7
    have bG:k-1<D is:=by omega
    refine ai ?_;repeat' (intro (ao:_=_)<;>simp only[ao,go_sem,go_sem_proc,sL,ni,nS,au,iq,ir,sJ,hm,L,iW,aj,J,a2,d1,d2,d3,wl,jN,oo,kJ,iy,bG,bL,aI,al,bm,b3,cA,sM,bne]<;>try refine ag ?_ ?_)
  rw[kJ] at rS;rcases sN:decide (A<=1000000000000000)
  ·have R:jP cs is ak k=false:=by rw[rS,sN];rfl
   rw[Bi ah R];rcases kO k with n1|n1
   ·have d2:decide ((k:Int)>0)=false:=b7;refine ai ?_;repeat' (intro (ao:_=_)<;>simp only[ao,go_sem,go_sem_proc,sL,ni,nS,au,iq,ir,sJ,hm,L,iW,J,a2,hex,WJ,d1,d2,wl,oo,kJ,sN,iy,bL,aI,dm,al,bm,b3,cA,sM,bne]<;>try refine ag ?_ ?_)
   ·obtain⟨y,aj⟩:∃i,is[k-1]?=some i:=⟨_,bh (by omega)⟩;have v7:=kW (d:=0) aj;have d2:decide ((k:Int)>0)=true:=cX;have jN:IntKind.i64.wrap ((k:Int)-1)=((k-1:Nat):Int):=by rw[eY _];omega
    have d3:decide ((n:Int)<=y)=false:=by
     rw[s9,beq_iff_eq,decide_eq_true_iff,v7] at q1;exact b7
    have bG:k-1<D is:=by omega
    refine ai ?_;repeat' (intro (ao:_=_)<;>simp only[ao,go_sem,go_sem_proc,sL,ni,nS,au,iq,ir,sJ,hm,L,iW,aj,J,a2,hex,WJ,d1,d2,d3,wl,jN,oo,kJ,sN,iy,bG,bL,aI,dm,al,bm,b3,cA,sM,bne]<;>try refine ag ?_ ?_)
  ·have R:jP cs is ak k=true:=by rw[rS,sN];rfl
   have qh:=WK R;rcases kO k with n1|n1
   ·have d2:decide ((k:Int)>0)=false:=b7;refine ai ?_;repeat' (intro (ao:_=_)<;>simp only[ao,go_sem,go_sem_proc,sL,ni,nS,au,iq,ir,sJ,hm,L,iW,J,a2,hex,WJ,d1,d2,bF,wl,oo,kJ,sN,iy,bL,aI,dm,al,bm,b3,cA,sM,bne]<;>try refine ag ?_ ?_)
    exact⟨k+1,by omega,by omega,rfl,qh⟩
   ·obtain⟨y,aj⟩:∃i,is[k-1]?=some i:=⟨_,bh (by omega)⟩;have v7:=kW (d:=0) aj;have d2:decide ((k:Int)>0)=true:=cX;have jN:IntKind.i64.wrap ((k:Int)-1)=((k-1:Nat):Int):=by rw[eY _];omega
    have d3:decide ((n:Int)<=y)=false:=by
     rw[s9,beq_iff_eq,decide_eq_true_iff,v7] at q1;exact b7
    have bG:k-1<D is:=by omega
    refine ai ?_;repeat' (intro (ao:_=_)<;>simp only[ao,go_sem,go_sem_proc,sL,ni,nS,au,iq,ir,sJ,hm,L,iW,aj,J,a2,hex,WJ,d1,d2,d3,bF,wl,jN,oo,kJ,sN,iy,bG,bL,aI,dm,al,bm,b3,cA,sM,bne]<;>try refine ag ?_ ?_)
    exact⟨k+1,by omega,by omega,rfl,qh⟩
 ·have d1:decide ((k:Int)<(D is:Int))=false:=b7;obtain rfl:k=D is:=by omega
  have:h7 cash cs is ak rk=true:=by
   rw[ea,nt];exact λj ae=>da j (ig.1 ae)
  rw[this];refine ai ?_;repeat' (intro (ao:_=_)<;>simp only[ao,go_sem,go_sem_proc,sL,ni,nS,au,iq,ir,sJ,d1,al]<;>try refine ag ?_ ?_)
def aIv {x:List Data}(h:Fits [.ax (.int .i64),.ax (.st [.int .i64,.int .i64,.int .i64,.int .i64]),.ax (.int .i64),.int .i64,.int .i64] x):∃cash cs is ak rk,x=dm cash cs is ak rk:=by
 simp only[Fits] at h;obtain⟨_,_,rfl,F,_,_,rfl,G,_,_,rfl,ab,_,_,rfl,aV,_,_,rfl,bu,rfl⟩:=h;unfold Fit at F G ab aV bu;obtain⟨aQH,rfl,-,cU⟩:=F;obtain⟨aQI,rfl,-,dc⟩:=G;obtain⟨aQJ,rfl,-,hj⟩:=ab;obtain⟨ak,rfl,-⟩:=aV;obtain⟨rk,rfl,-⟩:=bu;obtain⟨cash,rfl⟩:=aju cU;obtain⟨cs,rfl⟩:=aDd dc;obtain⟨is,rfl⟩:=aju hj;exact⟨cash,cs,is,ak,rk,rfl⟩
def WL:=bV u5 λ(cash,cs)=>cu (D cash<=1000000/\D cs<=1000000) (.same (.bool (hr cash cs)))
@[go_sem] def aIw (cash cs):=cH WL rfl K4 (cash,cs) rfl
def aIx (T:ba):WF T ard WL:=by
 refine cp λ(cash,cs)=>cT λJ=>⟨rfl,ck ?_⟩;simp only[ard,u5,cd];obtain⟨bG,bO⟩:=J;rw[U5];rcases dI:decide ((D cash:Int)>60)
 case true =>
  rw[show decide (D cash<=60)=false from kM (by have:=of_decide_eq_true dI;omega)];refine ai ?_;repeat' (intro (ao:_=_)<;>simp only[ao,go_sem,go_sem_proc,dI,al,e9]<;>try refine ag ?_ ?_)
 rcases ek:decide ((D cs:Int)>2000)
 case true =>
  rw[show decide (D cs<=2000)=false from kM (by have:=of_decide_eq_true ek;omega)];refine ai ?_;repeat' (intro (ao:_=_)<;>simp only[ao,go_sem,go_sem_proc,dI,ek,al,e9,iS]<;>try refine ag ?_ ?_)
 rw[show decide (D cash<=60)=true from hN (by have:=of_decide_eq_false dI;omega),show decide (D cs<=2000)=true from hN (by have:=of_decide_eq_false ek;omega),fN,fN];simp only[go_sem,go_sem_proc,dI,ek,al];refine dd [0,1] [358007] (λ(i:Nat) tm m=>i<=D cash/\tm 5=.H (.int .i64 i)/\(cash.take i).all jc=true) (λi=>D cash-i) 0 (by refine⟨by omega,rfl,rfl⟩) ?_;intro vs ms aQ aM;simp only[go_sem,go_sem_proc,al] at aQ aM;subst aQ aM;rintro i tm m I hm ⟨O,c6,ea⟩;simp only[go_sem,go_sem_proc,bj] at I hm;obtain⟨bx,au⟩:=I;rcases dn (i<D cash) with ah|bW
 ·have d1:decide ((i:Int)<(D cash:Int))=true:=cX;have bF:=eI (i:=i) (by omega);obtain⟨x,L⟩:∃c,cash[i]?=some c:=⟨_,bh ah⟩;have hb:(cash.take (i+1)).all jc=jc x:=by rw[hZ,L,ary,KD,ea];simp
  have gl:jc x=false->cash.all jc=false:=λh=>aef.2 ⟨x,dy L,by rw[h];decide⟩
  rcases ar:decide (x<0)
  ·rcases c2:decide (x>1000000000000000)
   ·have X:jc x=true:=Fe.2 (by have:=of_decide_eq_false ar;have:=of_decide_eq_false c2;omega);refine ai ?_;repeat' (intro (ao:_=_)<;>simp only[ao,go_sem,go_sem_proc,bx,au,c6,hm,L,d1,bF,ar,c2,aI,al,bm]<;>try refine ag ?_ ?_)
    exact⟨i+1,by omega,by omega,rfl,by rw[hb,X]⟩
   ·have X:jc x=false:=by
     rw[<-arz,Fe];have:=of_decide_eq_true c2;omega
    rw[gl X];refine ai ?_;repeat' (intro (ao:_=_)<;>simp only[ao,go_sem,go_sem_proc,bx,au,c6,hm,L,d1,ar,c2,aI,al,bm,e9]<;>try refine ag ?_ ?_)
  ·have X:jc x=false:=by
    rw[<-arz,Fe];have:=of_decide_eq_true ar;omega
   rw[gl X];refine ai ?_;repeat' (intro (ao:_=_)<;>simp only[ao,go_sem,go_sem_proc,bx,au,c6,hm,L,d1,ar,aI,al,bm,e9]<;>try refine ag ?_ ?_)
 have d1:decide ((i:Int)<(D cash:Int))=false:=b7;rw[dD (by omega)] at ea;rw[ea,fN];simp only[go_sem,go_sem_proc,bx,au,c6,d1,al];clear d1 ea;refine dd [0,1] [] (λ(i:Nat) tm m=>i<=D cs/\tm 6=.H (.int .i64 i)/\(cs.take i).all (kg (D cash))=true) (λi=>D cs-i) 0 (by refine⟨by omega,rfl,rfl⟩) ?_;intro vs ms aQ aM;simp only[go_sem,go_sem_proc,bx,au,al] at aQ aM;subst aQ aM;clear bx au hm;rintro i tm m I qA ⟨O,bt,ea⟩;simp only[go_sem,go_sem_proc,bj] at I;obtain⟨bx,au⟩:=I;rcases dn (i<D cs) with ah|bW
 ·have d1:decide ((i:Int)<(D cs:Int))=true:=cX;have bF:=eI (i:=i) (by omega);obtain⟨⟨a,b,k,x⟩,L⟩:∃c,cs[i]?=some c:=⟨_,bh ah⟩;have hb:(cs.take (i+1)).all (kg (D cash))=kg (D cash) (a,b,k,x):=by rw[hZ,L,ary,KD,ea];simp
  have gl:kg (D cash) (a,b,k,x)=false->cs.all (kg (D cash))=false:=λh=>aef.2 ⟨_,dy L,by rw[h];decide⟩
  by_cases X:kg (D cash) (a,b,k,x)=true
  ·have vr:=Fc.1 X;dsimp only at vr;have ar:decide (a<0)=false:=b7;have c2:decide (a>=(D cash:Int))=false:=b7;have c3:decide (b < -1)=false:=b7;have c4:decide (b>=(D cash:Int))=false:=b7;have HT:decide (k<0)=false:=b7;have HU:decide (k>9)=false:=b7;have C1:decide (x<0)=false:=b7;have acK:decide (x>1000000000000000)=false:=b7;refine ai ?_;repeat' (intro (ao:_=_)<;>simp only[ao,go_sem,go_sem_proc,bx,au,bt,L,d1,bF,ar,c2,c3,c4,HT,HU,C1,acK,bL,al,bm]<;>try refine ag ?_ ?_)
   exact⟨i+1,by omega,by omega,rfl,by rw[hb,X]⟩
  ·have aH:kg (D cash) (a,b,k,x)=false:=by simpa using X
   rw[gl aH];rw[Fc] at X;dsimp only at X;refine ai ?_;repeat' (intro (ao:_=_)<;>simp only[ao,go_sem,go_sem_proc,bx,au,bt,L,d1,bL,al,bm]<;>try refine ag ?_ ?_)
   all_goals (exfalso;simp only[decide_eq_false_iff_not] at *;omega)
 ·have d1:decide ((i:Int)<(D cs:Int))=false:=b7;rw[dD (by omega)] at ea;rw[ea];refine ai ?_;repeat' (intro (ao:_=_)<;>simp only[ao,go_sem,go_sem_proc,bx,au,bt,d1,al]<;>try refine ag ?_ ?_)
def LL:=bV vf λ(cash,cs,is,ak,rk)=>cu (q0 cash cs is) (.same (.bool (h7 cash cs is ak rk)))
@[go_sem] def aeh (cash cs is ak rk):=cH LL rfl LK (cash,cs,is,ak,rk) rfl
def aIy (T:ba)(qb:T Zc=aK WL)(mB:T NR=aK Rc):WF T aq8 LL:=by
 refine cp λ(cash,cs,is,ak,rk)=>cT λJ=>⟨rfl,ck ?_⟩;simp only[aq8,vf,cd];obtain⟨aL,eu,yR⟩:=J;have Z:=aIw cash cs ⟨by omega,by omega⟩
 have d0:((D is:Int)==0)=is.isEmpty:=by cases is<;>simp<;>omega
 rcases wM:hr cash cs
 ·rw[wM] at Z;have aH:h7 cash cs is ak rk=false:=by unfold h7;rw[wM];rfl
  rw[aH];refine ai ?_;repeat' (intro (ao:_=_)<;>simp only[ao,go_sem,go_sem_proc,qb,mB,dm,Z,al,cA]<;>try refine ag ?_ ?_)
 rw[wM] at Z;rcases dI:is.isEmpty
 case true =>
  have aH:h7 cash cs is ak rk=false:=by unfold h7;rw[wM,dI];rfl
  rw[aH];rw[dI] at d0;refine ai ?_;repeat' (intro (ao:_=_)<;>simp only[ao,go_sem,go_sem_proc,qb,mB,dm,Z,d0,al,b3]<;>try refine ag ?_ ?_)
 rw[dI] at d0
 have fY:h7 cash cs is ak rk=(decide (0<=ak)&&decide (ak<=10000)&&decide (0<=rk)&&decide (rk<=9)&&(eM (D is)).all (jP cs is ak)):=by
  unfold h7;rw[wM,dI];rfl
 have F:decide (0<=ak) = !decide (ak<0):=by rw[od,decide_eq_true_iff,tw,decide_eq_false_iff_not];omega
 have G:decide (ak<=10000) = !decide (ak>10000):=by rw[od,decide_eq_true_iff,tw,decide_eq_false_iff_not];omega
 have ab:decide (0<=rk) = !decide (rk<0):=by rw[od,decide_eq_true_iff,tw,decide_eq_false_iff_not];omega
 have aV:decide (rk<=9) = !decide (rk>9):=by rw[od,decide_eq_true_iff,tw,decide_eq_false_iff_not];omega
 rw[F,G,ab,aV] at fY;rcases ek:decide (ak<0)
 case true =>
  rw[fY,ek];refine ai ?_;repeat' (intro (ao:_=_)<;>simp only[ao,go_sem,go_sem_proc,qb,mB,dm,Z,d0,ek,al,b3,e9]<;>try refine ag ?_ ?_)
 rcases ht:decide (ak>10000)
 case true =>
  rw[fY,ek,ht];refine ai ?_;repeat' (intro (ao:_=_)<;>simp only[ao,go_sem,go_sem_proc,qb,mB,dm,Z,d0,ek,ht,al,b3,cA,e9,iS]<;>try refine ag ?_ ?_)
 rcases fV:decide (rk<0)
 case true =>
  rw[fY,ek,ht,fV];refine ai ?_;repeat' (intro (ao:_=_)<;>simp only[ao,go_sem,go_sem_proc,qb,mB,dm,Z,d0,ek,ht,fV,al,b3,cA,e9,iS]<;>try refine ag ?_ ?_)
 rcases rN:decide (rk>9)
 case true =>
  rw[fY,ek,ht,fV,rN];refine ai ?_;repeat' (intro (ao:_=_)<;>simp only[ao,go_sem,go_sem_proc,qb,mB,dm,Z,d0,ek,ht,fV,rN,al,b3,cA,e9,iS]<;>try refine ag ?_ ?_)
 have ea:h7 cash cs is ak rk=(eM (D is)).all (jP cs is ak):=by rw[fY,ek,ht,fV,rN];rfl
 have sK:0<=ak/\ak<=10000:=by have:=of_decide_eq_false ek;have:=of_decide_eq_false ht;omega
 have mo:=(hL.1 wM).2.2.2;simp only[go_sem,go_sem_proc,qb,mB,dm,Z,d0,ek,ht,fV,rN,al,b3];refine dd [1] [347001] (λ(k:Nat) tm m=>k<=D is/\tm 3=.H (.int .i64 k)/\∀j,j<k->jP cs is ak j=true) (λk=>D is-k) 0 (by refine⟨by omega,rfl,λj ae=>by omega⟩) ?_;intro vs ms aQ aM;simp only[go_sem,go_sem_proc,qb,mB,dm,al] at aQ aM;subst aQ aM;rintro k tm m I hm ⟨O,bN,da⟩;simp only[go_sem,go_sem_proc,qb,mB,bj] at I hm;have au:=I;rcases dn (k<D is) with ah|bW
 ·have d1:decide ((k:Int)<(D is:Int))=true:=cX;have bF:=eI (i:=k) (by omega);obtain⟨i,L⟩:∃i,is[k]?=some i:=⟨_,bh ah⟩;have jM:=kW (d:=0) L;obtain⟨i0,iW⟩:∃i,is[0]?=some i:=⟨_,bh (by omega)⟩;have Rd:=kW (d:=0) iW
  by_cases cP:0<=i/\i<D cs
  case neg =>
   have R:jP cs is ak k=false:=by
    unfold jP;rw[jM,Iq]
    left
    rw[Iq]
    left
    rw[Iq,decide_eq_false_iff_not,decide_eq_false_iff_not];omega
   rw[Bi ah R];rcases oo:decide (i<0)
   ·have q1:decide (i>=(D cs:Int))=true:=hN (by have:=of_decide_eq_false oo;omega);refine ai ?_;repeat' (intro (ao:_=_)<;>simp only[ao,go_sem,go_sem_proc,qb,mB,au,bN,hm,L,d1,oo,q1,aI,al,bm]<;>try refine ag ?_ ?_)
   ·refine ai ?_;repeat' (intro (ao:_=_)<;>simp only[ao,go_sem,go_sem_proc,qb,mB,au,bN,hm,L,d1,oo,aI,al,bm]<;>try refine ag ?_ ?_)
  obtain⟨n,rfl⟩:∃n:Nat,i=(n:Int):=⟨i.toNat,by omega⟩
  have oo:decide ((n:Int)<0)=false:=b7;have Ir:decide ((n:Int)>=(D cs:Int))=false:=b7;obtain⟨⟨ar,c2,c3,c4⟩,J⟩:∃c,cs[n]?=some c:=⟨_,bh (by omega)⟩;have QV:=kW (d:=iN) J;have jU:=mo _ (dy J);dsimp only at jU
  have uH:0<=i0/\i0<D cs:=by
   by_cases n1:k=0
   ·subst n1;rw[L] at iW;have:=nu iW;omega
   ·have:=arx da (j:=0) (by omega);rwa [Rd] at this
  obtain⟨aeg,rfl⟩:∃n:Nat,i0=(n:Int):=⟨i0.toNat,by omega⟩
  obtain⟨⟨fB,gN,mR,tO⟩,a2⟩:∃c,cs[aeg]?=some c:=⟨_,bh (by omega)⟩;have N7:=kW (d:=iN) a2;have iy:0<D is:=by omega
  have hex:=arw cash cs is ak rk ar c2 c3 c4 ⟨jU.2.2.2.2.2.2.1,jU.2.2.2.2.2.2.2,sK.1,sK.2⟩
  have rS:jP cs is ak k=((k==0||decide (is.getD (k-1) 0<(n:Int)))&&(ar==fB&&decide (c4/1000*ak+c4%1000*ak/1000<=1000000000000000))):=by
   unfold jP;rw[jM,Rd,gK,gK,QV,N7,hN (by omega:(0:Int)<=(n:Int)),hN (by omega:(n:Int)<(D cs:Int))]
   rfl
  simp only[dm,bL,qZ] at hex;generalize dX:c4/1000*ak+c4%1000*ak/1000=A at *;have aIz:decide (A<=1000000000000000) = !decide (A>1000000000000000):=by rw[od,decide_eq_true_iff,tw,decide_eq_false_iff_not];omega
  rw[aIz] at rS
  have WK:jP cs is ak k=true->∀j,j<k+1->jP cs is ak j=true:=λh j ae=>by
   by_cases ey:j=k
   ·rw[ey];exact h
   ·exact da j (by omega)
  have yN:(k=0/\decide ((k:Int)>0)=false)\/∃y,0<k/\is[k-1]?=some y/\decide ((k:Int)>0)=true/\IntKind.i64.wrap ((k:Int)-1)=((k-1:Nat):Int)/\k-1<D is/\(k==0||decide (is.getD (k-1) 0<(n:Int))) = !decide ((n:Int)<=y):=by
   by_cases n1:k=0
   ·exact .inl ⟨n1,b7⟩
   ·obtain⟨y,aj⟩:∃i,is[k-1]?=some i:=⟨_,bh (by omega)⟩;refine .inr ⟨y,by omega,aj,cX,by rw[eY _];omega,by omega,?_⟩
    rw[kW (d:=0) aj,beq_eq_false_iff_ne.2 n1,Bool.false_or,od,decide_eq_true_iff,tw,decide_eq_false_iff_not];omega
  rcases yN with ⟨n1,d2⟩|⟨y,n1,aj,d2,jN,bG,FT⟩
  ·rw[n1,beq_self_eq_true,Bool.true_or,fN,<-n1] at rS;rcases kJ:(ar==fB)
   ·have R:jP cs is ak k=false:=by rw[rS,kJ];rfl
    rw[Bi ah R];refine ai ?_;repeat' (intro (ao:_=_)<;>simp only[ao,go_sem,go_sem_proc,qb,mB,au,bN,hm,L,iW,J,a2,d1,d2,oo,Ir,kJ,iy,bL,aI,al,bm,sM,bne,b3,cA]<;>try refine ag ?_ ?_)
   rcases sN:decide (A>1000000000000000)
   ·have R:jP cs is ak k=true:=by rw[rS,kJ,sN];rfl
    have qh:=WK R;refine ai ?_;repeat' (intro (ao:_=_)<;>simp only[ao,go_sem,go_sem_proc,qb,mB,au,bN,hm,L,iW,J,a2,hex,d1,d2,bF,oo,Ir,kJ,sN,iy,bL,aI,dm,al,bm,sM,bne,b3,cA]<;>try refine ag ?_ ?_)
    exact⟨k+1,by omega,by omega,rfl,qh⟩
   ·have R:jP cs is ak k=false:=by rw[rS,kJ,sN];rfl
    rw[Bi ah R];refine ai ?_;repeat' (intro (ao:_=_)<;>simp only[ao,go_sem,go_sem_proc,qb,mB,au,bN,hm,L,iW,J,a2,hex,d1,d2,oo,Ir,kJ,sN,iy,bL,aI,dm,al,bm,sM,bne,b3,cA]<;>try refine ag ?_ ?_)
  ·rw[FT] at rS;have n0:((0:Int)>((k-1:Nat):Int))=False:=eq_false (by omega);rcases q1:decide ((n:Int)<=y)
   case true =>
    have R:jP cs is ak k=false:=by rw[rS,q1];rfl
    rw[Bi ah R];refine ai ?_;repeat' (intro (ao:_=_)<;>simp only[ao,go_sem,go_sem_proc,qb,mB,au,bN,hm,L,aj,n0,d1,d2,jN,oo,Ir,q1,bG,aI,al,bm,b3]<;>try refine ag ?_ ?_)
   rcases kJ:(ar==fB)
   ·have R:jP cs is ak k=false:=by rw[rS,q1,kJ];rfl
    rw[Bi ah R];refine ai ?_;repeat' (intro (ao:_=_)<;>simp only[ao,go_sem,go_sem_proc,qb,mB,au,bN,hm,L,iW,aj,n0,J,a2,d1,d2,jN,oo,Ir,q1,kJ,iy,bG,bL,aI,al,bm,sM,bne,b3,cA]<;>try refine ag ?_ ?_)
   rcases sN:decide (A>1000000000000000)
   ·have R:jP cs is ak k=true:=by rw[rS,q1,kJ,sN];rfl
    have qh:=WK R;refine ai ?_;repeat' (intro (ao:_=_)<;>simp only[ao,go_sem,go_sem_proc,qb,mB,au,bN,hm,L,iW,aj,n0,J,a2,hex,d1,d2,bF,jN,oo,Ir,q1,kJ,sN,iy,bG,bL,aI,dm,al,bm,sM,bne,b3,cA]<;>try refine ag ?_ ?_)
    exact⟨k+1,by omega,by omega,rfl,qh⟩
   ·have R:jP cs is ak k=false:=by rw[rS,q1,kJ,sN];rfl
    rw[Bi ah R];refine ai ?_;repeat' (intro (ao:_=_)<;>simp only[ao,go_sem,go_sem_proc,qb,mB,au,bN,hm,L,iW,aj,n0,J,a2,hex,d1,d2,jN,oo,Ir,q1,kJ,sN,iy,bG,bL,aI,dm,al,bm,sM,bne,b3,cA]<;>try refine ag ?_ ?_)
 ·have d1:decide ((k:Int)<(D is:Int))=false:=b7;obtain rfl:k=D is:=by omega
  have:h7 cash cs is ak rk=true:=by
   rw[ea,nt];exact λj ae=>da j (ig.1 ae)
  rw[this];refine ai ?_;repeat' (intro (ao:_=_)<;>simp only[ao,go_sem,go_sem_proc,qb,mB,au,bN,hm,d1,al]<;>try refine ag ?_ ?_)
def arA {l:List aB}{k:Nat}(h:k<D l):(k*4+4<=(aU bL l).length)=True:=eq_true (by rw[jS p3];omega)
def arB {l:List aB}{k:Nat}{a b c d}(h:l[k]?=some (a,b,c,d)):gT 4 (hl (k*4) (aU bL l))=[.H (.int .i64 a),.H (.int .i64 b),.H (.int .i64 c),.H (.int .i64 d)]:=by
 have:=Nf p3 h (f:=0) (n:=4) (by omega);rw[Nat.add_zero] at this;unfold cut at this;rw[Y (by rw[jS p3];have:=(dV.1 h).1;omega)] at this;exact nu this
def arC {l:List aB}{k:Nat}(h:k<D l)(x:aB):gT (k*4) (aU bL l)++(bL x).map M.H++hl (k*4+4) (aU bL l)=aU bL (l.set k x):=by
 rw[<-Sd p3 h]
 rfl
def arD {l:List aB}{k:Nat}(h:k<D l):(k*4+2+1<=(aU bL l).length)=True:=eq_true (by rw[jS p3];omega)
def arE {l:List aB}{k:Nat}{a b c d:Int}(h:l[k]?=some (a,b,c,d))(r:Int):gT (k*4+2) (aU bL l)++[M.H (.int .i64 r)]++hl (k*4+2+1) (aU bL l)=aU bL (l.set k (a,b,r,d)):=by
 obtain⟨p,q,e,aE,R⟩:=Ye p3 h;rw[R,e]
 have au:gT (k*4+2) (p++((bL (a,b,c,d)).map M.H++q))=p++[.H (.int .i64 a),.H (.int .i64 b)]:=by
  rw[List.take_append,dD (by omega),show k*4+2-D p=2 by omega];rfl
 have aC:hl (k*4+2+1) (p++((bL (a,b,c,d)).map M.H++q))=.H (.int .i64 d)::q:=by
  rw[qq,List.drop_of_length_le (by omega),show k*4+2+1-D p=3 by omega];rfl
 rw[au,aC,g8,g8]
 rfl
def aei (l:List aB):((l.map bL).all λe=>D e==4)=true:=by simp[bL]
def arF (k:Nat)(l:List aB)(h:(D l)<=1000000):lL k 0 4 0 32 (D l) ((l.map bL).flatten.map .H) (some (0,[]))=some (.ref k 1 4 0 (D l),some (k,1,aU bL l)):=by
 have:=BP p3 U0 k 0 32 [] l (by simp;omega) (by simp;omega)
 simpa [aU] using this
def arG (l:List aB):chunk 4 (D l) (l.map bL).flatten=l.map bL:=by
 have:=BQ (sz:=4) (l.map bL) (λe he=>by obtain⟨c,-,rfl⟩:=gm.1 he;rfl);rwa [al] at this
def arH {m:Mem}{k g:Nat}{l:List aB}(h:m k=some (g,aU bL l)):ri 4 m (.ref k g 4 0 (D l))=some (l.map bL):=by
 have hlen:(aU bL l).length=D l*4:=jS p3 l;unfold ri;simp only[h,hlen];rw[Y ⟨trivial,trivial⟩,Y ⟨trivial,cl _⟩,dD (by omega)];unfold aU;rw[w8 _ λd=>rfl,ks,arG]
def WM:=bV Fi λ(l:List aB)=>cu (D l<=1000000) (.own 4 (l.map bL))
@[go_sem] def aIA (l):=cH WM rfl ac7 l rfl
def aIB (T:ba):WF T ahs WM:=by
 refine cp λl=>cT λJ=>⟨rfl,ck ?_⟩;simp only[ahs,Fi,cd];have c9:=arF 360005 l J;have hlen:(aU bL l).length=D l*4:=jS p3 l;refine ai ?_;repeat' (intro h<;>simp only[h,go_sem,go_sem_proc,aei,c9,al]<;>try refine ag ?_ ?_)
 rintro b ad
 cases b
 ·refine ai ?_;repeat' (intro h<;>simp only[h,go_sem,go_sem_proc,aei,c9,al,ri,hlen]<;>try refine ag ?_ ?_)
  rw[Y (by omega),dD (by omega)];unfold aU;rw[w8 _ λd=>rfl];rw[ks,arG]
 ·cases l with
  |nil =>
       refine ai ?_;repeat' (intro h<;>simp only[h,go_sem,go_sem_proc,ri,bY]<;>try refine ag ?_ ?_)
  |cons x r=>simp at ad
def arI (cash:List Int)(cs:List aB)(is:List Int)(ak rk:Int):Prop:=q0 cash cs is/\h7 cash cs is ak rk=true
abbrev pw:(List Int)×(List aB)×(List Int)×Int×Int×Int->List Data:=λ(cash,cs,is,ak,rk,but)=>[.agg (dm cash cs is ak rk),.int .i64 but]
def LM:=bV pw λ(cash,cs,is,ak,rk,but)=>cu (arI cash cs is ak rk) (.own 4 ((eF cs is ak rk but (D is)).map bL))
def Dg:∀a b,pw a=pw b->a=b:=by
  rintro⟨K5,C0,aro,arp,arq,aQK⟩ ⟨K6,uq,ars,art,aru,aQL⟩ h;simp only[bj,Data.agg.injEq,Data.int.injEq,and_true,true_and] at h;obtain⟨cU,dc⟩:=h;obtain⟨rfl,rfl,rfl,rfl,rfl⟩:=aee cU;rw[dc]
@[go_sem] def aej (cash cs is ak rk but):=cH LM rfl Dg (cash,cs,is,ak,rk,but) rfl
def aIC (T:ba)(LN:T Zd=aK WM)(nS:T NQ=aK Rb):WF T ap5 LM:=by
 refine cp λ(cash,cs,is,ak,rk,but)=>cT λJ=>⟨rfl,ck ?_⟩;simp only[ap5,pw,cd];obtain⟨⟨aL,eu,yR⟩,fY⟩:=J;have hi:=zF.1 fY;have ew:=aIA cs (by omega);have Is:(cs.map bL).flatten.map M.H=aU bL cs:=rfl;simp only[go_sem,go_sem_proc,LN,nS,dm,ew,Is,al];refine dd [1,2,5,12,13] [354002] (λ(k:Nat) tm m=>k<=D is/\tm 14=.H (.int .i64 k)/\m 354010=some (0,aU bL (eF cs is ak rk but k))) (λk=>D is-k) 0 (by refine⟨by omega,rfl,?_⟩;simp only[a5,cE,if_false,if_true];rfl) ?_;intro vs ms aQ aM;simp only[go_sem,go_sem_proc,LN,nS,dm,al] at aQ aM;subst aQ aM;rintro k tm m I hm ⟨O,AG,zd⟩;simp only[go_sem,go_sem_proc,LN,nS,bj] at I hm;obtain⟨au,aC,c6,gf,ij⟩:=I;have AK:=vd cs is ak rk but k;rcases dn (k<D is) with ah|bW
 ·have d1:decide ((k:Int)<(D is:Int))=true:=cX;have bF:=eI (i:=k) (by omega);obtain⟨i,L⟩:∃i,is[k]?=some i:=⟨_,bh ah⟩;have jM:=kW (d:=0) L;have fK:=hi.b6 k ah;rw[jM] at fK;obtain⟨n,rfl⟩:∃n:Nat,i=(n:Int):=⟨i.toNat,by omega⟩
  have bH:=Ra hi but (t:=k) (by omega) ah;rw[aa (by omega),jM,gK] at bH;have gQ:=hi.mem ah;rw[jM,gK] at gQ;generalize cs.getD n iN=c at *;obtain⟨ar,c2,c3,c4⟩:=c;have jU:=(hL.1 hi.right).2.2.2 _ gQ;have hex:=arv cash cs is ak rk ar c2 c3 c4 ⟨jU.2.2.2.2.2.2.1,jU.2.2.2.2.2.2.2,hi.sK.1,hi.sK.2⟩;simp only[dm] at hex;have ix:n<(eF cs is ak rk but k).length:=by omega
  have Dh:n<D cs:=by omega
  have aV:=arA ix;have bb:=arB bH;have xt:=arC ix (qZ ak rk (ar,c2,c3,c4));rcases q:((k:Int)==but)
  ·have hC:eF cs is ak rk but (k+1)=(eF cs is ak rk but k).set n (qZ ak rk (ar,c2,c3,c4)):=by
    show (if (k:Int)=but then _ else _)=_;rw[aa (by simpa using q),jM,gK,kW bH]
   rw[<-hC] at xt;generalize iU:qZ ak rk (ar,c2,c3,c4)=b2 at *;obtain⟨fx,fe,hH,iE⟩:=b2;simp only[bL] at hex;simp only[bL,eE,bY] at xt;refine ai ?_;repeat' (intro h<;>simp only[h,go_sem,go_sem_proc,LN,nS,au,aC,c6,gf,ij,AG,hm,zd,L,hex,aV,bb,xt,Dh,d1,bF,q,dm,aI,al,bm,bne,cA]<;>try refine ag ?_ ?_)
   exact⟨k+1,by omega,by omega,rfl,rfl⟩
  ·have hC:eF cs is ak rk but (k+1)=eF cs is ak rk but k:=by
    show (if (k:Int)=but then _ else _)=_;rw[Y (by simpa using q)]
   refine ai ?_;repeat' (intro h<;>simp only[h,go_sem,go_sem_proc,LN,nS,au,aC,c6,gf,ij,AG,hm,zd,L,d1,bF,q,aI,al,bm,bne,b3]<;>try refine ag ?_ ?_)
   exact⟨k+1,by omega,by omega,rfl,by rw[hC]⟩
 ·have d1:decide ((k:Int)<(D is:Int))=false:=b7;obtain rfl:k=D is:=by omega
  generalize eF cs is ak rk but (D is)=c7 at *;have hlen:(aU bL c7).length=D c7*4:=jS p3 c7;refine ai ?_;repeat' (intro h<;>simp only[h,go_sem,go_sem_proc,LN,nS,au,aC,c6,gf,ij,AG,d1,al,AK]<;>try refine ag ?_ ?_)
  rw[<-AK];exact arH zd
def LO:=bV pw λ(cash,cs,is,ak,rk,but)=>cu (arI cash cs is ak rk) (.own 4 ((eF cs is ak rk but (D is)).map bL))
@[go_sem] def aek (cash cs is ak rk but):=cH LO rfl Dg (cash,cs,is,ak,rk,but) rfl
def aID (T:ba)(mB:T NR=aK Rc):WF T arb LO:=by
 refine cp λ(cash,cs,is,ak,rk,but)=>cT λJ=>⟨rfl,ck ?_⟩;simp only[arb,pw,cd];obtain⟨⟨aL,eu,yR⟩,fY⟩:=J;have hi:=zF.1 fY;have c9:=arF 352007 cs (by omega);simp only[go_sem,go_sem_proc,mB,dm,aei,c9,al];refine dd [1,2,5] [352002] (λ(k:Nat) tm m=>k<=D is/\tm 6=.H (.int .i64 k)/\m 352007=some (1,aU bL (eF cs is ak rk but k))) (λk=>D is-k) 0 (by refine⟨by omega,rfl,?_⟩;simp only[a5,cE,if_false,if_true];rfl) ?_;intro vs ms aQ aM;simp only[go_sem,go_sem_proc,mB,dm,al] at aQ aM;subst aQ aM;rintro k tm m I hm ⟨O,bt,zd⟩;simp only[go_sem,go_sem_proc,mB,bj] at I hm;obtain⟨au,aC,c6⟩:=I;have AK:=vd cs is ak rk but k;rcases dn (k<D is) with ah|bW
 ·have d1:decide ((k:Int)<(D is:Int))=true:=cX;have bF:=eI (i:=k) (by omega);obtain⟨i,L⟩:∃i,is[k]?=some i:=⟨_,bh ah⟩;have jM:=kW (d:=0) L;have fK:=hi.b6 k ah;rw[jM] at fK;obtain⟨n,rfl⟩:∃n:Nat,i=(n:Int):=⟨i.toNat,by omega⟩
  have bH:=Ra hi but (t:=k) (by omega) ah;rw[aa (by omega),jM,gK] at bH;have gQ:=hi.mem ah;rw[jM,gK] at gQ;generalize cs.getD n iN=c at *;obtain⟨ar,c2,c3,c4⟩:=c;have jU:=(hL.1 hi.right).2.2.2 _ gQ;have hex:=arw cash cs is ak rk ar c2 c3 c4 ⟨jU.2.2.2.2.2.2.1,jU.2.2.2.2.2.2.2,hi.sK.1,hi.sK.2⟩;simp only[dm] at hex;have ix:n<(eF cs is ak rk but k).length:=by omega
  have Dh:n<D cs:=by omega
  have aV:=arA ix;have bb:=arB bH;have xt:=arC ix (qZ ak rk (ar,c2,c3,c4));rcases q:((k:Int)==but)
  ·have hC:eF cs is ak rk but (k+1)=(eF cs is ak rk but k).set n (qZ ak rk (ar,c2,c3,c4)):=by
    show (if (k:Int)=but then _ else _)=_;rw[aa (by simpa using q),jM,gK,kW bH]
   rw[<-hC] at xt;generalize iU:qZ ak rk (ar,c2,c3,c4)=b2 at *;obtain⟨fx,fe,hH,iE⟩:=b2;simp only[bL] at hex;simp only[bL,eE,bY] at xt;refine ai ?_;repeat' (intro h<;>simp only[h,go_sem,go_sem_proc,mB,au,aC,c6,bt,hm,zd,L,hex,aV,bb,xt,Dh,d1,bF,q,dm,aI,al,bm,bne,cA]<;>try refine ag ?_ ?_)
   exact⟨k+1,by omega,by omega,rfl,rfl⟩
  ·have hC:eF cs is ak rk but (k+1)=eF cs is ak rk but k:=by
    show (if (k:Int)=but then _ else _)=_;rw[Y (by simpa using q)]
   refine ai ?_;repeat' (intro h<;>simp only[h,go_sem,go_sem_proc,mB,au,aC,c6,bt,hm,zd,L,d1,bF,q,aI,al,bm,bne,b3]<;>try refine ag ?_ ?_)
   exact⟨k+1,by omega,by omega,rfl,by rw[hC]⟩
 ·have d1:decide ((k:Int)<(D is:Int))=false:=b7;obtain rfl:k=D is:=by omega
  generalize eF cs is ak rk but (D is)=c7 at *;refine ai ?_;repeat' (intro h<;>simp only[h,go_sem,go_sem_proc,mB,au,aC,c6,bt,hm,d1,al,AK]<;>try refine ag ?_ ?_)
  rw[<-AK];exact arH zd
structure arJ (cash:List Int) (cs:List aB) (cL e1:Nat) (f:Nat->Nat) (done:List (List Nat)) (gY:Nat) (m:Mem):Prop where
 at_:∃P,D P=D cash/\u6 cash cs (bA (D cash) λi=>(f i:Int)) P 0 cL e1 m
 out:∃x,m 261006=some (0,[x,.nil,.ref 261117 gY 1 0 (D done)])
 row:m 261117=some (gY,aU om done)
 no:∀k:Nat,k/1000≠261->m k=none
 f10:∀i,D cash<=i->f i=10
 reach:Reach (af cash cs) f
 iI:∃r,kG (D cash) f<=r/\(af cash cs).iI=done++((af cash cs).rounds r f).1/\(af cash cs).pn=((af cash cs).rounds r f).2
def aIE {d:Day}{f:Nat->Nat}{n:Nat}(aL:d.n=n):x3 d f (d.top f) (d.h6 f) n=bA n λi=>(d.gz f (d.top f) i:Int):=jW λi O=>by
 unfold Day.gz
 by_cases h:i∈d.h6 f
 ·rw[Y h,Y (Day.PD.1 h)]
 ·rw[aa h,aa λa1=>h (Day.PD.2 a1)]
def aIF (T:ba)(sO:T Sv=tz Vn)(hM:T rl=aK xU)(im:T sc=aK xV)(gA:T uC=aK xX)(qW:T NI=aK Lc){K:eK->bc->Prop}{kk:List fT}(cash:List Int)(cs:List aB)(R:fX cash cs)(cL e1:Nat)(tm:Nat->M)(m:Mem)
  (bx:tm 0=.H (.ax (cash.map aI))) (au:tm 1=.H (.ax (cs.map bL))) (bK:tm 4=.ptr 261004 0 0) (bt:tm 6=.ptr 261006 0 0) (bS:tm 7=.ptr 261029 0 0) (fE:m 261004=some (0,[.nil,.nil,.nil])) (bH:arJ cash cs cL e1 (λ_=>10) [] 0 m)
  (db:∀tm' m' gY,tm' 1=.H (.ax (cs.map bL))->tm' 4=.ptr 261004 0 0->tm' 6=.ptr 261006 0 0->m' 261004=some (0,[.nil,.nil,.nil])->m' 261006=some (0,[.H (.ax ((c8 (D cash) (af cash cs).cL).map az)),.nil,.ref 261117 gY 1 0 (af cash cs).iI.length])->m' 261117=some (gY,aU om (af cash cs).iI)->cg T K kk (.exit 2) ⟨tm',m'⟩) :
  wp T (xT.body.sub [1,1,1,1,1,0,0]) (cg T K kk) ⟨tm,m⟩:=by
 simp only[xT,er.sub];have aL:=R.jV;have Z:=R.ok;refine dd [0,1,4,6,7] [261004] (λ((f,done,gY):(Nat->Nat)×List (List Nat)×Nat) tm m=>arJ cash cs cL e1 f done gY m) (λ(f,_)=>kG (D cash) f) (λ_=>10,[],0) (by exact bH) ?_;intro vs ms aQ aM;simp only[go_sem,go_sem_proc,bx,au,bK,bt,bS,fE] at aQ aM;subst aQ aM;clear bx au bK bt bS fE bH tm m;rintro⟨f,done,gY⟩ tm m I fE bH;simp only[go_sem,go_sem_proc,bj] at I fE;obtain⟨bx,au,bK,bt,bS⟩:=I;obtain⟨⟨P,aIG,bH⟩,⟨Il,Q3⟩,gj,gl,u9,Q4,r,GO,bf,sn⟩:=bH;dsimp only at *;have mc:=aqR u9;have kP:=Q4;obtain⟨Q5,hinv,-⟩:=Q4
 have arK:∀x∈(bA (D cash) λi=>(f i:Int)),0<=x/\x<=10:=λx L=>by
  obtain⟨i,-,rfl⟩:=gm.1 L;have:=hinv.le i;omega
 have fM:=aD1 ⟨cash,cs,bA (D cash) λi=>(f i:Int),P,0,cL,e1⟩ m ⟨⟨bH,λk I=>gl k (by omega),λk I=>gl k (by omega),λk I=>gl k (by omega),R,gB _ _,aIG,arK⟩,⟨Q5,by show Inv (af cash cs) (a9 (bA (D cash) λi=>(f i:Int))) Q5;rw[mc];exact hinv⟩⟩
 dsimp only at fM;have b0:=Day.EW (Z.hex f kP);have hT:∀i,i<(D cash)->dH ((af cash cs).top f i):=λi O=>hU (adm R kP O) (by omega);simp only[go_sem,go_sem_proc,sO,bx,au,bK,bt,bS,fM];rintro aeb mem' ⟨mo,zs,arL,yr,Df⟩;dsimp only at mo arL yr Df;rw[mc] at mo;subst mo;have fV:=(Df 261004 (by decide)).trans fE;have l4:=(Df 261006 (by decide)).trans Q3;have Di:=(Df 261117 (by decide)).trans gj;have x7:=yr.r;rw[gB] at x7
 have Q6:(af cash cs).h6 f=[]->(af cash cs).iI=done/\(af cash cs).cL=(af cash cs).top f:=λh=>by
  have:=(af cash cs).al7 h r;rw[this,hD] at bf;rw[this] at sn;exact⟨bf,by unfold Day.cL;rw[sn]⟩
 have pH:(af cash cs).h6 f≠[]->kG (D cash) ((af cash cs).gz f ((af cash cs).top f))<kG (D cash) f/\Reach (af cash cs) ((af cash cs).gz f ((af cash cs).top f))/\(∀i,D cash<=i->(af cash cs).gz f ((af cash cs).top f) i=10)/\∃r,kG (D cash) ((af cash cs).gz f ((af cash cs).top f))<=r/\(af cash cs).iI=(done++[(af cash cs).h6 f])++((af cash cs).rounds r ((af cash cs).gz f ((af cash cs).top f))).1/\(af cash cs).pn=((af cash cs).rounds r ((af cash cs).gz f ((af cash cs).top f))).2:=λb8=>by
  have ah:=UJ Z Z.hex kP b8;have h3:kG (D cash) ((af cash cs).gz f ((af cash cs).top f))<kG (D cash) f:=ah;refine⟨h3,kP.next Z Z.hex,aqS (d:=af cash cs) u9,?_⟩
  cases r with
  |zero=>omega
  |succ r =>
   rw[Day.rounds,aa b8] at bf sn;exact⟨r,by omega,by rw[bf];simp,sn⟩
 simp only[go_sem,go_sem_proc,bx,au,bK,bt,bS,fV,l4,x7,lB];have tC:a9 (bA (D cash) λi=>(f i:Int))=f:=mc;refine aEo T hM im gA cash cs R (bA (D cash) λi=>(f i:Int)) (gB _ _) arK ((af cash cs).top f) hT 0 cL (gk (mem' 261080)) (.ref 261027 e1 1 0 (D zs)) (.ref 261117 gY 1 0 (D done)) _ _ ⟨⟨.H (.bool false),?_⟩,?_,?_⟩ ?_ ?_ ?_ ?_ ?_ ?_ ?_ ?_ ?_
 all_goals first|(intro C2 bU tR eU cy fW fv jk ly Re jB)|(simp only[dC,cE,if_false,if_true,bx,au,bK,bt,bS];done)|(simp only[a5,cE,if_false,if_true];done)|(simp only[a5,cE,if_false,if_true];rw[gB];exact x7)|(simp only[a5,cE,if_false,if_true];exact yr.f)|skip
 rw[tC] at ly Re;have HD:oT (af cash cs) f ((af cash cs).top f) (D cash)=(af cash cs).h6 f:=rfl;rw[HD] at ly Re;have tN:bU 261004=some (0,[.nil,.nil,.nil]):=(jB 261004 (by decide)).trans (by simp only[a5,cE,if_false];exact fV);have WN:bU 261006=some (0,[.H (.ax ((c8 (D cash) ((af cash cs).top f)).map az)),.nil,.ref 261117 gY 1 0 (D done)]):=(jB 261006 (by decide)).trans (by simp only[a5,cE,if_false,if_true]);have ael:bU 261117=some (gY,aU om done):=(jB 261117 (by decide)).trans (by simp only[a5,cE,if_false];exact Di);have aem:bU 261029=some (0,[.H (.ax (cash.map aI)),.H (.ax (cs.map bL)),.ref 261042 cL 1 0 (D cash),.ref 261027 e1 1 0 (D zs),.H (.bool false)]):=(jB 261029 (by decide)).trans (by simp only[a5,cE,if_false];exact x7);have arM:bU 261042=some (cL,(bA (D cash) λi=>(f i:Int)).map dS):=(jB 261042 (by decide)).trans (by simp only[a5,cE,if_false];exact yr.f);have arN:bU 261027=some (e1,zs.map iJ):=(jB 261027 (by decide)).trans (by simp only[a5,cE,if_false];exact yr.p);have mA:∀(k j:Nat),k/1000≠261->j/1000=261->k≠j:=λk j F G h=>F (h ▸ G)
 have Q7:∀k:Nat,k/1000≠261->bU k=none:=λk F=>(jB k (mA k _ F (by decide))).trans (by
  rw[c5 (mA k _ F (by decide)),c5 (mA k _ F (by decide)),Df k (mA k _ F (by decide))];exact gl k F)
 clear jB yr Df fV l4 Di x7 Q3 gj gl fE bx au bK bt bS bf sn fM
 by_cases b8:(af cash cs).h6 f=[]
 ·obtain⟨F,G⟩:=Q6 b8;rw[b8] at ly;rw[F,G] at db;have iy:(((0:Nat):Int)==0)=true:=rfl;simp only[go_sem,go_sem_proc,eU,cy,fW,fv,jk,ly,iy,o2];refine db _ _ gY ?_ ?_ ?_ tN WN ael<;>simp only[dC,cE,if_false,cy,fW,fv]
 ·obtain⟨F,G,ab,aV⟩:=pH b8;have Vy:((af cash cs).h6 f).length<=D cash:=eR (p2 _ _) (by rw[td];exact cl _);have Im:∀i∈(af cash cs).h6 f,i<D cash:=λi O=>(Day.PD.1 O).1
  have iy:((((af cash cs).h6 f).length:Int)==0)=false:=by
   have:((af cash cs).h6 f).length≠0:=λh=>b8 (xY.1 h);rw[beq_eq_false_iff_ne];omega
  simp only[go_sem,go_sem_proc,eU,cy,fW,fv,jk,ly,iy];refine aEp T qW cash cs R f ((af cash cs).top f) hT ((af cash cs).h6 f) Im Vy 0 cL tR (.ref 261027 e1 1 0 (D zs)) (.ref 261117 gY 1 0 (D done)) (.H (.bool false)) _ _ aem arM WN ?_ ?_ ?_ ?_ ?_ ?_ ?_ Re ?_
  all_goals first|(intro akT iA aIH Fl CM EC Wh Wi arO A4)|(simp only[dC,cE,if_false,if_true,eU,cy,fW,fv,jk,ly];done)
  have aII:=aIE (d:=af cash cs) (f:=f) (n:=D cash) rfl;rw[aII] at arO;have de:=(A4 261004 (by decide)).trans tN;have aaU:=(A4 261006 (by decide)).trans WN;have aIJ:=(A4 261117 (by decide)).trans ael;have aIK:=(A4 261029 (by decide)).trans aem;have aIL:=(A4 261027 (by decide)).trans arN;have aIM:=(A4 261080 (by decide)).trans Re;have aIN:∀k:Nat,k/1000≠261->iA k=none:=λk F=>(A4 k (mA k _ F (by decide))).trans (Q7 k F);clear A4 tN WN ael aem arN Re Q7 arM db Q6 pH
  have Gd:(D done)+1<=60:=by
   obtain⟨zQ,-,bu,-⟩:=aV;have bX:=Wu (af cash cs) (10*(af cash cs).n) λ_=>10;have b9:(af cash cs).iI.length<=10*D cash:=bX;rw[bu] at b9;simp only[gC,qI] at b9;omega
  generalize (af cash cs).h6 f=aJ at *;have lg:=λ(K:bc->Prop) (st:bc)=>nB (K:=K) (st:=st) wk 9 261080 tR aJ;have c9:=kx Wv aqT 261117 gY 24 done aJ (cs:=[.H (.ax (aJ.map h4))]) rfl (by omega) (by omega);simp only[go_sem,go_sem_proc,aIH,Fl,CM,EC,Wh,Wi,de,aaU,aIJ,aIM,lg,c9,lB];refine⟨((af cash cs).gz f ((af cash cs).top f),done++[aJ],gY+1),F,⟨⟨zs,arL,⟨?_,?_,?_⟩⟩,⟨.H (.ax ((c8 (D cash) ((af cash cs).top f)).map az)),?_⟩,?_,?_,ab,G,aV⟩⟩
  ·rw[c5 (by decide),c5 (by decide),c5 (by decide),aIK,gB]
  ·rw[c5 (by decide),c5 (by decide),c5 (by decide)];exact arO
  ·rw[c5 (by decide),c5 (by decide),c5 (by decide)];exact aIL
  ·rw[km,gC];rfl
  ·rw[c5 (by decide),km]
  ·intro k I;rw[c5 (mA k _ I (by decide)),c5 (mA k _ I (by decide)),c5 (mA k _ I (by decide))];exact aIN k I
def aen (a b:List aB)(w:Int):dk (a++b) w=dk a w++dk b w:=by unfold dk;rw[zo]
def aIO {cs:List aB}{i:Nat}{c:aB}(h:cs[i]?=some c):(dk cs c.1)[(dk (cs.take i) c.1).length]?=some c:=by
 have e:cs=cs.take i++(c::cs.drop (i+1)):=by
  obtain⟨ah,J⟩:=dV.1 h;have:=List.drop_eq_getElem_cons ah;rw[J] at this;rw[<-this,List.take_append_drop]
 have aC:dk cs c.1=dk (cs.take i) c.1++dk (c::cs.drop (i+1)) c.1:=by
  rw[<-aen,<-e]
 rw[aC,ov (cl _),j0];unfold dk;rw[xW (by simp)];rfl
def aIP (cs:List aB)(w:Int):(dk cs w).length<=D cs:=by unfold dk;exact p2 _ _
def aIQ (T:ba){K:eK->bc->Prop}{kk:List fT}(cs:List aB)(aq:(D cs)<=12)(i:Nat)(c:aB)(J:cs[i]?=some c)(v4 v6 WO:M)(iE Il It WQ:Option (Nat×List M))(tm:Nat->M)(m:Mem)
  (au:tm 1=.H (.ax (cs.map bL))) (bK:tm 4=v4) (bt:tm 6=v6) (gf:tm 12=.H (.int .i64 i)) (ij:tm 13=WO) (qX:tm 15=.H (.int .i64 0)) (CS:tm 16=.H (.int .i64 0)) (fE:m 261004=iE) (ho:m 261006=Il) (oi:m 261117=It) (vg:m 261172=WQ)
  (db:∀tm' m',tm' 1=.H (.ax (cs.map bL))->tm' 4=v4->tm' 6=v6->tm' 12=.H (.int .i64 i)->tm' 13=WO->tm' 15=.H (.int .i64 (dk (cs.take i) c.1).length)->m' 261004=iE->m' 261006=Il->m' 261117=It->m' 261172=WQ->cg T K kk (.exit 10) ⟨tm',m'⟩) :
  wp T (xT.body.sub [1,1,1,1,1,1,0,1,0,0,1,0,0,1,1,1,0,1,0]) (cg T K kk) ⟨tm,m⟩:=by
 simp only[xT,er.sub];have O:=(dV.1 J).1;refine dd [1,4,6,12,13] [261004,261006,261117,261172] (λ(k:Nat) tm m=>k<=i/\tm 16=.H (.int .i64 k)/\tm 15=.H (.int .i64 (dk (cs.take k) c.1).length)) (λk=>i-k) 0 (by refine⟨by omega,CS,qX⟩) ?_;intro vs ms aQ aM;simp only[go_sem,go_sem_proc,au,bK,bt,gf,ij,fE,ho,oi,vg] at aQ aM;subst aQ aM;clear au bK bt gf ij qX CS fE ho oi vg tm m;rintro k tm m I hm ⟨AP,CS,qX⟩;simp only[go_sem,go_sem_proc,bj] at I hm;obtain⟨au,bK,bt,gf,ij⟩:=I;obtain⟨fE,ho,oi,vg⟩:=hm;rcases dn (k<i) with ah|bW
 ·have d1:decide ((k:Int)<(i:Int))=true:=cX;have bF:=eI (i:=k) (by omega);obtain⟨⟨cz,cY,eA,eQ⟩,L⟩:∃c,cs[k]?=some c:=⟨_,bh (by omega)⟩;have hb:cs.take (k+1)=cs.take k++[(cz,cY,eA,eQ)]:=by rw[hZ,L];rfl
  have FV:=aIP (cs.take k) c.1;rw[gP] at FV;have jN:IntKind.i64.wrap (((dk (cs.take k) c.1).length:Int)+1)=(((dk (cs.take k) c.1).length+1:Nat):Int):=by rw[eY _];omega
  obtain⟨ar,c2,c3,c4⟩:=c;dsimp only at *;rcases q:(cz==ar)
  ·have R:dk (cs.take (k+1)) ar=dk (cs.take k) ar:=by
    rw[hb,aen];have:dk [(cz,cY,eA,eQ)] ar=[]:=by unfold dk;rw[zp (by simpa using q)];rfl
    rw[this,hD]
   refine ai ?_;repeat' (intro h<;>simp only[h,go_sem,go_sem_proc,au,bK,bt,gf,ij,qX,CS,fE,ho,oi,vg,L,J,d1,bF,q,bL,al,bm]<;>try refine ag ?_ ?_)
   exact⟨k+1,by omega,by omega,rfl,by rw[R]⟩
  ·have R:(dk (cs.take (k+1)) ar).length=(dk (cs.take k) ar).length+1:=by
    rw[hb,aen];have:dk [(cz,cY,eA,eQ)] ar=[(cz,cY,eA,eQ)]:=by unfold dk;rw[xW (by simpa using q)];rfl
    rw[this,gC];rfl
   refine ai ?_;repeat' (intro h<;>simp only[h,go_sem,go_sem_proc,au,bK,bt,gf,ij,qX,CS,fE,ho,oi,vg,L,J,d1,bF,jN,q,bL,al,bm]<;>try refine ag ?_ ?_)
   exact⟨k+1,by omega,by omega,rfl,by rw[R]⟩
 ·have d1:decide ((k:Int)<(i:Int))=false:=b7;obtain rfl:k=i:=by omega
  refine ai ?_;repeat' (intro h<;>simp only[h,go_sem,go_sem_proc,au,bK,bt,gf,ij,qX,CS,d1]<;>try refine ag ?_ ?_)
  refine db _ _ ?_ ?_ ?_ ?_ ?_ ?_ fE ho oi vg<;>simp only[dC,cE,if_false,au,bK,bt,gf,ij,qX]
def aIR (T:ba)(sP:T Sw=aK Qq){K:eK->bc->Prop}{kk:List fT}(cash:List Int)(cs:List aB)(R:fX cash cs)(aeo:M)(vA:Nat)(iE It:Option (Nat×List M))(tm:Nat->M)(m:Mem)
  (au:tm 1=.H (.ax (cs.map bL))) (bK:tm 4=.ptr 261004 0 0) (bt:tm 6=.ptr 261006 0 0) (gf:tm 12=.H (.int .i64 0)) (fE:m 261004=iE) (ho:m 261006=some (0,[.H (.ax ((lI cash cs).map az)),.ref 261172 vA 4 0 0,aeo])) (oi:m 261117=It) (vg:m 261172=some (vA,[]))
  (db:∀tm' m' g,tm' 4=.ptr 261004 0 0->tm' 6=.ptr 261006 0 0->m' 261004=iE->m' 261006=some (0,[.H (.ax ((lI cash cs).map az)),.ref 261172 g 4 0 (hy cash cs).length,aeo])->m' 261117=It->m' 261172=some (g,aU az (hy cash cs))->cg T K kk (.exit 8) ⟨tm',m'⟩) :
  wp T (xT.body.sub [1,1,1,1,1,1,0,1,0]) (cg T K kk) ⟨tm,m⟩:=by
 simp only[xT,er.sub];have eu:=R.wE;have mo:=(hL.1 R.right).2.2.2;have ia:(hy cash cs).length=D cs:=by unfold hy;rw[al]
 refine dd [1,4,6] [261004,261117] (λ((i,g):Nat×Nat) tm m=>i<=D cs/\tm 12=.H (.int .i64 i)/\m 261006=some (0,[.H (.ax ((lI cash cs).map az)),.ref 261172 g 4 0 i,aeo])/\m 261172=some (g,aU az ((hy cash cs).take i))) (λ(i,_)=>D cs-i) (0,vA) (by refine⟨by omega,gf,ho,vg⟩) ?_;intro vs ms aQ aM;simp only[go_sem,go_sem_proc,au,bK,bt,fE,oi] at aQ aM;subst aQ aM;clear au bK bt gf fE ho oi vg tm m;rintro⟨i,g⟩ tm m I hm ⟨O,gf,ho,vg⟩;simp only[go_sem,go_sem_proc,bj] at I hm;obtain⟨au,bK,bt⟩:=I;obtain⟨fE,oi⟩:=hm;rcases dn (i<D cs) with ah|bW
 ·have d1:decide ((i:Int)<(D cs:Int))=true:=cX;have bF:=eI (i:=i) (by omega);obtain⟨⟨ar,c2,c3,c4⟩,L⟩:∃c,cs[i]?=some c:=⟨_,bh ah⟩;have kP:=mo _ (dy L);dsimp only at kP;obtain⟨ar,rfl⟩:∃k:Nat,ar=(k:Int):=⟨ar.toNat,by omega⟩
  have g7:ar<D cash:=by omega
  have ec:=aEl cs ar ((af cash cs).cL ar) ⟨⟨R.own ar,acI R.ok g7,(Qp R g7).mono (by omega)⟩,by omega⟩
  have tQ:(lI cash cs)[ar]?=some (av ((af cash cs).cL ar)):=rL _ g7;have arP:=aIO L;dsimp only at arP
  have aIS:(hy cash cs)[i]?=some (av (gW cs ((af cash cs).cL ar) ((ar:Int),c2,c3,c4))):=by
   unfold hy;rw[bm,L,ks,gK]
  have ad5:((dk cs ar).map λc=>av (gW cs ((af cash cs).cL ar) c))[(dk (cs.take i) ar).length]?=some (av (gW cs ((af cash cs).cL ar) ((ar:Int),c2,c3,c4))):=by
   rw[bm,arP];rfl
  have hb:(hy cash cs).take (i+1)=(hy cash cs).take i++[av (gW cs ((af cash cs).cL ar) ((ar:Int),c2,c3,c4))]:=by rw[hZ,aIS];rfl
  have mK:((hy cash cs).take i).length=i:=by rw[gP,ia];omega
  have c9:=λ(aO:bz) jY jD=>kx jj v8 261172 g 64 ((hy cash cs).take i) aO (cs:=jY) jD (by omega) (by omega);rw[mK] at c9;have arQ:=λ(K:eK->bc->Prop) (kk:List fT) v4 v6 WO iE Il It WQ tm m=>aIQ T (K:=K) (kk:=kk) cs eu i _ L v4 v6 WO iE Il It WQ tm m;dsimp only at arQ;generalize ((dk cs ar).map λc=>av (gW cs ((af cash cs).cL ar) c))=qY at *;generalize av (gW cs ((af cash cs).cL ar) ((ar:Int),c2,c3,c4))=P at *;generalize av ((af cash cs).cL ar)=gR at *;generalize lI cash cs=wK at *;obtain⟨⟨hk,hQ⟩,⟨kD,lf⟩⟩:=P;obtain⟨⟨cz,cY⟩,⟨eA,eQ⟩⟩:=gR;have ng:=c9 ((hk,hQ),(kD,lf)) _ rfl;rw[<-hb] at ng;simp only[az,eE,bY] at ec ng;simp only[go_sem,go_sem_proc,sP,au,bK,bt,gf,fE,ho,oi,vg,L,d1,tQ,ec,bL,az,al,bm,bne,beq_self_eq_true,b3];refine arQ _ _ (.ptr 261004 0 0) (.ptr 261006 0 0) (.H (.ax (qY.map az))) _ _ _ _ _ _ ?_ ?_ ?_ ?_ ?_ ?_ ?_ fE ho oi vg ?_
  all_goals first|(intro C2 bU cy fW fv o8 xp adC fV l4 Di WR)|(simp only[dC,cE,if_false,if_true,au,bK,bt,gf];done)
  refine ai ?_;repeat' (intro h<;>simp only[h,go_sem,go_sem_proc,cy,fW,fv,o8,xp,adC,fV,l4,Di,WR,ad5,ng,bF,az,al,bm,y7,lB]<;>try refine ag ?_ ?_)
  exact⟨(i+1,g+1),by dsimp only;omega,by dsimp only;omega,rfl,rfl,rfl⟩
 ·have d1:decide ((i:Int)<(D cs:Int))=false:=b7;rw[dD (by rw[ia];omega)] at vg;have nd:i=(hy cash cs).length:=by rw[ia];omega
  rw[nd] at ho;refine ai ?_;repeat' (intro h<;>simp only[h,go_sem,go_sem_proc,au,bK,bt,gf,d1,al]<;>try refine ag ?_ ?_)
  refine db _ _ g ?_ ?_ fE ho oi vg<;>simp only[dC,cE,if_false,bK,bt]
def aIT (n:Nat):(ef n [M.H (.bool false)]).flatten=(ef n false).map iJ:=by
 induction n with
 |zero=>rfl
 |succ n aG=>rw[um,List.flatten_cons,aG,um];rfl
def LP:=bV u5 λ(cash,cs)=>cu (aed cash cs) (.same (ye cash cs))
@[go_sem] def aep (cash cs):=cH LP rfl K4 (cash,cs) rfl
def aIU (T:ba)(wN:T Y0=aK U6)(sO:T Sv=tz Vn)(hM:T rl=aK xU)(im:T sc=aK xV)(gA:T uC=aK xX)(qW:T NI=aK Lc)(sP:T Sw=aK Qq):WF T xT LP:=by
 refine cp λ(cash,cs)=>cT λJ=>⟨rfl,ck ?_⟩;simp only[xT,u5,cd];obtain⟨s5,jK,uS⟩:=J;unfold ye;rcases X:hr cash cs
 ·rw[aa (by decide)];refine ai ?_;repeat' (intro (ao:_=_)<;>simp only[ao,go_sem,go_sem_proc,wN,sO,hM,im,gA,qW,sP,X,cA]<;>try refine ag ?_ ?_)
 ·rw[Y rfl];have R:=uS X;have aL:=R.jV;have EP:(D cash*1<=140737488355328)=True:=eq_true (by omega);have aIV:(1*D cash<=140737488355328)=True:=eq_true (by omega);have xG:(D cash<=maxLen)=True:=eq_true (by unfold maxLen;omega);have ad8:(D cash<=140737488355328)=True:=eq_true (by omega);have a2:=aIT (D cash);simp only[go_sem,go_sem_proc,wN,sO,hM,im,gA,qW,sP,X,EP,aIV,xG,ad8,a2,b3,al,Nat.one_mul];refine Qc (kc:=261029) (g:=0) (off:=0) (cs:=[.H (.ax (cash.map aI)),.H (.ax (cs.map bL)),.nil,.ref 261027 0 1 0 (D cash),.H (.bool false)]) (by simp only[bd,dC,if_true]) (by dsimp only;exact km) rfl (by decide) ?_;simp only[go_sem,go_sem_proc,wN,sO,hM,im,gA,qW,sP];refine Qc (kc:=261006) (g:=0) (off:=0) (cs:=[.nil,.nil,.nil]) (by simp only[bd,dC,cE,if_false,if_true]) (by simp only[a5,cE,if_false,if_true]) rfl (by decide) ?_;simp only[go_sem,go_sem_proc,wN,sO,hM,im,gA,qW,sP,lB,y7]
  refine dd [0,1,4,6,7] [261004,261006,261027,261117] (λ((i,g):Nat×Nat) tm m=>i<=D cash/\tm 8=.H (.int .i64 i)/\m 261029=some (0,[.H (.ax (cash.map aI)),.H (.ax (cs.map bL)),.ref 261042 g 1 0 i,.ref 261027 0 1 0 (D cash),.H (.bool false)])/\m 261042=some (g,aU aI (ef i 10))/\∀k:Nat,k/1000≠261->m k=none) (λ(i,_)=>D cash-i) (0,0) (by
   refine⟨by omega,rfl,by simp[a5],by simp[a5];rfl,λk I=>?_⟩
   have mA:∀(j:Nat),j/1000=261->k≠j:=λj G h=>I (h ▸ G)
   repeat rw[c5 (mA _ (by decide))]
   rfl) ?_
  intro vs ms aQ aM;simp only[go_sem,go_sem_proc,wN,sO,hM,im,gA,qW,sP,al] at aQ aM;subst aQ aM;rintro⟨i,g⟩ tm m I hm ⟨O,ee,kl,aeq,gl⟩;simp only[go_sem,go_sem_proc,wN,sO,hM,im,gA,qW,sP,bj] at I hm;obtain⟨bx,au,bK,bt,bS⟩:=I;obtain⟨fE,ho,H3,oi⟩:=hm;rcases dn (i<D cash) with ah|bW
  ·have d1:decide ((i:Int)<(D cash:Int))=true:=cX;have bF:=eI (i:=i) (by omega);have cm:(ef i (10:Int)).length=i:=xH;have c9:=kx kz (λ_=>rfl) 261042 g 8 (ef i (10:Int)) 10 (cs:=[.H (.int .i64 10)]) rfl (by omega) (by omega);rw[cm,<-Qj] at c9;refine ai ?_;repeat' (intro (ao:_=_)<;>simp only[ao,go_sem,go_sem_proc,wN,sO,hM,im,gA,qW,sP,bx,au,bK,bt,bS,ee,fE,ho,H3,oi,kl,aeq,d1,bF,c9,al,lB,y7]<;>try refine ag ?_ ?_)
   refine⟨(i+1,g+1),by dsimp only;omega,by dsimp only;omega,rfl,rfl,rfl,λk I=>?_⟩
   have mA:∀(j:Nat),j/1000=261->k≠j:=λj G h=>I (h ▸ G);rw[aa (mA 261029 (by decide)),aa (mA 261042 (by decide))];exact gl k I
  ·have d1:decide ((i:Int)<(D cash:Int))=false:=b7;obtain rfl:i=D cash:=by omega
   have zU:(ef (D cash) (10:Int))=bA (D cash) λ_=>((10:Nat):Int):=Vr xH λi O=>by rw[List.getElem?_replicate,Y O];rfl
   have cm:(ef (D cash) false).length=D cash:=xH;have gw:(bA (D cash) λ_=>((10:Nat):Int)).length=D cash:=gB _ _;rw[zU,<-apB] at aeq;simp only[go_sem,go_sem_proc,wN,sO,hM,im,gA,qW,sP,bx,au,bK,bt,bS,ee,d1,al];refine aIF T sO hM im gA qW cash cs R g 0 _ _ ?_ ?_ ?_ ?_ ?_ fE ⟨⟨ef (D cash) false,cm,⟨?_,?_,?_⟩⟩,⟨.nil,?_⟩,?_,gl,λ_ _=>rfl,Reach.start R.ok,⟨10*D cash,?_,rfl,rfl⟩⟩ ?_
   all_goals first|(intro C2 bU gY cy fW fv fV l4 Di)|(simp only[dC,cE,if_false,if_true,bx,au,bK,bt,bS];done)|skip
   ·rw[gw,cm];exact kl
   ·exact aeq
   ·exact H3
   ·exact ho
   ·exact oi
   ·rw[acH];exact cl _
   have aQM:(af cash cs).iI.length<=60:=by
    have:=Wu (af cash cs) (10*(af cash cs).n) λ_=>10;have e:(af cash cs).n=D cash:=rfl;unfold Day.iI;omega
   replace l4:bU 261006=some (0,[.H (.ax ((lI cash cs).map az)),.nil,.ref 261117 gY 1 0 (af cash cs).iI.length]):=l4;simp only[go_sem,go_sem_proc,wN,sO,hM,im,gA,qW,sP,cy,fW,fv];refine Qc (kc:=261006) (g:=0) (off:=0) (cs:=[.H (.ax ((lI cash cs).map az)),.nil,.ref 261117 gY 1 0 (af cash cs).iI.length]) fv l4 rfl (by decide) ?_;simp only[go_sem,go_sem_proc,wN,sO,hM,im,gA,qW,sP,cy,fW,fv,lB,y7];refine aIR T sP cash cs R (.ref 261117 gY 1 0 (af cash cs).iI.length) (ca bU 261172) (some (0,[.nil,.nil,.nil])) (some (gY,aU om (af cash cs).iI)) _ _ ?_ ?_ ?_ ?_ ?_ ?_ ?_ ?_ ?_
   all_goals first|(intro akT iA hj fW fv fV l4 Di WR)|(simp only[dC,cE,if_false,if_true,cy,fW,fv];done)|skip
   ·rw[c5 (by decide),c5 (by decide)];exact fV
   ·rw[km];rfl
   ·rw[c5 (by decide),c5 (by decide)];exact Di
   ·rw[c5 (by decide),km];rfl
   generalize lI cash cs=wK at *;generalize hy cash cs=qY at *;generalize (af cash cs).iI=wL at *;simp only[go_sem,go_sem_proc,wN,sO,hM,im,gA,qW,sP,fW,fv];refine Vb (kc:=261006) (gc:=0) (off:=0) (cc:=[.H (.ax (wK.map az)),.ref 261172 hj 4 0 (D qY),.ref 261117 gY 1 0 (D wL)]) (k:=261172) (g:=hj) (sz:=4) (o:=0) (len:=D qY) (cs:=aU az qY) (d:=.ax (qY.map az)) ?_ l4 rfl WR (Jf _ _) (by decide) (k6 (n:=0) jj WR) ?_
   ·exact fv
   simp only[go_sem,go_sem_proc,wN,sO,hM,im,gA,qW,sP,fW,fv,lB,y7]
   have arR:∀bs,(a5 (kill iA 261172) 261006 0 [.H (.ax (wK.map az)),.H (.ax (qY.map az)),.ref 261117 gY 1 0 (D wL)]) 261117=bs↔iA 261117=bs:=λbs=>by
    rw[c5 (by decide)];unfold kill;rw[c5 (by decide)]
   refine Vb (kc:=261006) (gc:=0) (off:=0) (cc:=[.H (.ax (wK.map az)),.H (.ax (qY.map az)),.ref 261117 gY 1 0 (D wL)]) (k:=261117) (g:=gY) (sz:=1) (o:=0) (len:=D wL) (cs:=aU om wL) (d:=.ax (wL.map om)) ?_ (by dsimp only;exact km) rfl ((arR _).2 Di) (Jf _ _) (by decide) (k6 (n:=0) Wv ((arR _).2 Di)) ?_
   ·exact fv
   refine ai ?_;repeat' (intro (ao:_=_)<;>simp only[ao,go_sem,go_sem_proc,wN,sO,hM,im,gA,qW,sP,fW,fv,fV,lB,y7]<;>try refine ag ?_ ?_)
def nj (cash:List Int)(cs:List aB)(is:List Int)(ak rk:Int)(t:Nat):List bz:=(eM t).map λk=>av (kn cash cs is ak rk k)
def LQ (cash:List Int)(cs:List aB)(is:List Int)(ak rk:Int)(t:Nat):(nj cash cs is ak rk t).length=t:=by simp[nj]
def arS (cash:List Int)(cs:List aB)(is:List Int)(ak rk:Int)(t:Nat):nj cash cs is ak rk (t+1)=nj cash cs is ak rk t++[av (kn cash cs is ak rk t)]:=by
 unfold nj;rw[rM,kE];rfl
def WS (cash:List Int)(cs:List aB)(is:List Int)(ak rk:Int){t k:Nat}(h:k<t):(nj cash cs is ak rk t)[k]?=some (av (kn cash cs is ak rk k)):=by
 unfold nj;rw[bm,List.getElem?_range h];rfl
def Bj (cash:List Int)(cs:List aB)(is:List Int)(ak rk:Int):Data:=if h7 cash cs is ak rk=true then .dj [.ax ((nj cash cs is ak rk (D is)).map az),.int .i64 0] else .dj [.ax [],.int .i64 1]
def FB (cash:List Int)(cs:List aB)(is:List Int)(ak rk k:Int):Data:=if h7 cash cs is ak rk=true then (if 0<=k/\k<(D is) then .dj [.agg (az (av (tX cash cs is ak rk k.toNat))),.int .i64 0] else .dj [.agg (az cW),.int .i64 4]) else .dj [.agg (az cW),.int .i64 1]
def LR {cash:List Int}{cs:List aB}{is:List Int}{ak rk:Int}(aL:q0 cash cs is)(h:yf cash cs is ak rk)(but:Int):fX cash (eF cs is ak rk but (D is)):=aIo h aL.1 aL.2.1 but
def Iu:=bV vf λ(cash,cs,is,ak,rk)=>cu (q0 cash cs is) (.same (Bj cash cs is ak rk))
@[go_sem] def WT (cash cs is ak rk):=cH Iu rfl LK (cash,cs,is,ak,rk) rfl
def aIW (T:ba)(rT:T B4=aK Ip)(sQ:T GH=aK LM)(sR:T Gw=aK Io):WF T ap0 Iu:=by
 refine cp λ(cash,cs,is,ak,rk)=>cT λJ=>⟨rfl,ck ?_⟩;simp only[ap0,vf,cd];have X:=WH cash cs is ak rk J;unfold Bj;rcases fY:h7 cash cs is ak rk
 ·rw[aa (by decide)];rw[fY] at X;simp only[dm] at X;refine ai ?_;repeat' (intro h<;>simp only[h,go_sem,go_sem_proc,rT,sQ,sR,dm,X,bY,cA]<;>try refine ag ?_ ?_)
 rw[Y rfl];rw[fY] at X;have hi:=zF.1 fY;have ew:=aej cash cs is ak rk (-1) ⟨J,fY⟩;have R:=LR J hi (-1);obtain⟨aL,eu,yR⟩:=J;have aq:=vd cs is ak rk (-1) (D is);have ll:=WD cash (eF cs is ak rk (-1) (D is)) ⟨by omega,by omega,λ_=>R⟩
 unfold ye at ll;rw[Y R.right] at ll;have Rf:=λk (I:k<D is)=>LI (cash:=cash) (l:=eF cs is ak rk (-1) (D is)) (j:=(is.getD k 0).toNat) (by have:=hi.b6 k I;omega);have ia:(hy cash (eF cs is ak rk (-1) (D is))).length=D cs:=by unfold hy;rw[al,aq]
 have bq:∀k,ve cash (eF cs is ak rk (-1) (D is)) (is.getD k 0).toNat=kn cash cs is ak rk k:=λk=>rfl;simp only[bq] at Rf;simp only[dm] at X ew;generalize lI cash (eF cs is ak rk (-1) (D is))=wK at *;generalize hy cash (eF cs is ak rk (-1) (D is))=qY at *;generalize (af cash (eF cs is ak rk (-1) (D is))).iI.map om=FD at *;simp only[go_sem,go_sem_proc,rT,sQ,sR,dm,X,ew,ll,bne,beq_self_eq_true,b3,al];refine dd [4,24,25] [341001,341004] (λ((k,g):Nat×Nat) tm m=>k<=D is/\tm 26=.H (.int .i64 k)/\tm 6=.ref 341037 g 4 0 k/\m 341037=some (g,aU az (nj cash cs is ak rk k))) (λ(k,_)=>D is-k) (0,0) (by refine⟨by omega,rfl,rfl,rfl⟩) ?_;intro vs ms aQ aM;simp only[go_sem,go_sem_proc,rT,sQ,sR,al] at aQ aM;subst aQ aM;rintro⟨k,g⟩ tm m I hm ⟨O,oj,bt,arT⟩;simp only[go_sem,go_sem_proc,rT,sQ,sR,bj] at I hm;obtain⟨bK,zE,l6⟩:=I;obtain⟨dg,fE⟩:=hm;have gw:=LQ cash cs is ak rk k;rcases dn (k<D is) with ah|bW
 ·have d1:decide ((k:Int)<(D is:Int))=true:=cX;have bF:=eI (i:=k) (by omega);obtain⟨i,L⟩:∃i,is[k]?=some i:=⟨_,bh ah⟩;have jM:=kW (d:=0) L;have fK:=hi.b6 k ah;have iF:=Rf k ah;rw[jM] at fK iF;obtain⟨n,rfl⟩:∃n:Nat,i=(n:Int):=⟨i.toNat,by omega⟩
  rw[gK] at iF;have ix:n<D qY:=by omega
  have Qy:=arS cash cs is ak rk k;have c9:=λ(aO:bz) jY jD=>kx jj v8 341037 g 64 (nj cash cs is ak rk k) aO (cs:=jY) jD (by omega) (by omega);generalize av (kn cash cs is ak rk k)=aO at *;have c9:=c9 aO _ rfl;rw[<-Qy,gw] at c9;obtain⟨⟨f1,f2⟩,⟨f3,f4⟩⟩:=aO;simp only[az,eE,bY] at c9;refine ai ?_;repeat' (intro h<;>simp only[h,go_sem,go_sem_proc,rT,sQ,sR,bK,bt,zE,l6,oj,dg,fE,arT,L,iF,c9,ix,d1,bF,az,aI,al,bm]<;>try refine ag ?_ ?_)
  exact⟨(k+1,g+1),by dsimp only;omega,by dsimp only;omega,rfl,rfl,rfl⟩
 ·have d1:decide ((k:Int)<(D is:Int))=false:=b7;obtain rfl:k=D is:=by omega
  have Fs:=λ(K:bc->Prop) (st:bc)=>nB (K:=K) (st:=st) jj 6 341037 g (nj cash cs is ak rk (D is));rw[gw] at Fs;refine ai ?_;repeat' (intro h<;>simp only[h,go_sem,go_sem_proc,rT,sQ,sR,bK,bt,zE,l6,oj,dg,fE,arT,d1,Fs,al]<;>try refine ag ?_ ?_)
end Go.Mini
