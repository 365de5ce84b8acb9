/- A part of the proof. -/
import Derived.Test.YtgpioapepokkbaaGreatProg
import Derived.KernelRfl
import Derived.Test.YtgpioapepokkbaaGreatM06
set_option linter.unusedSimpArgs false
set_option linter.unusedVariables false
set_option maxRecDepth 100000
set_option maxHeartbeats 4000000
noncomputable section
open Bool renaming and_eq_true->e4,and_false->h6,false_and->fS,false_or->ru,not_eq_true'->pU,not_false->dt,not_not->Ju,not_true->cK,or_false->l2,true_and->gW,true_or->sw
open Decidable renaming em->dA
open Int renaming toNat_natCast->jX
open List renaming all_eq_true->kG,count_pos_iff->anR,filter_eq_nil_iff->Ir,flatten_append->HX,foldl_append->Nu,foldl_cons->F9,getD_eq_getElem?_getD->dY,getElem?_eq_getElem->bx,getElem?_eq_some_iff->dP,getElem?_map->bl,getElem?_zip_eq_some->S6,length->D,length_append->fH,length_cons->hN,length_filter_le->mg,length_map->al,length_set->hP,length_zip->anK,map_congr_left->lY,map_cons->eG,map_map->nq,map_nil->cV,mem_cons->hj,mem_cons_of_mem->gx,mem_filter->s9,mem_iff_getElem?->qz,mem_map->ek,mem_map_of_mem->p5,mem_of_getElem?->ec,mem_range->ha,mem_singleton->uc,pairwise_cons->CU,range->dS,take_add_one->hv,take_append_drop->sx,take_of_length_le->dy
open List.cons renaming injEq->ba
open Nat renaming le_of_ble_eq_true->tp,le_refl->bZ,reduceEqDiff->dJ
open Option renaming bind_none->hK,bind_some->kK,map_some->lB
open Option.some renaming inj->o3,injEq->cn
open Prod renaming ext->dT
open Rat renaming le_refl->gb,lt_irrefl->anU
namespace Go.Mini
open Go
abbrev acH:List Int->List Data:=λ(l:List Int)=>[.Y (l.map ae),.fn nv []]
def acI:=ck acH λ(l:List Int)=>cR (D l<=1000000) (.same (.bool (l.all fX)))
theorem aEq:∀a b,acH a=acH b->a=b:=by
  intro dW ak h;simp only[ba,Data.Y.injEq,and_true] at h;exact map_inj fp _ _ h
@[go_sem] theorem aEr (l:List Int)(H:(D l)<=1000000):acI [.Y (l.map ae),.fn nv []]=some (.same (.bool (l.all fX))):=(cx aEq l).trans (cW H _)
theorem aEs (T:bd)(II:T DN=aW MZ)(l:List Int)(H:(D l)<=1000000):WP T XJ (.same (.bool (l.all fX))) [.J (.Y (l.map ae)),.J (.fn nv [])]:=by
 refine cy ?_;simp only[XJ];have h:=abd l .r4 ⟨H,by show BC<900000;decide⟩
 have e:l.any (pv .r4) = !l.all fX:=E7 l fX;rw[e] at h;simp only[q0] at h;simp only[go_sem,go_sem_proc,II,h,cE,nj,hK,scalar,Ju];repeat' (first|refine aw ?_ ?_|fail)<;>intro h<;>simp only[h,go_sem,go_sem_proc,II,h,cE,nj,hK,scalar,Ju]
abbrev acJ:(List aq)×Int->List Data:=λ(l,n)=>[.Y (l.map b4),.fn yp [.ptr [.int .i64 n],.ptr [.fn nv []]]]
def acK:=ck acJ λ(l,n)=>cR (D l<=1000000/\0<=n/\n<=1000000) (.same (.bool (l.all (hp n))))
theorem aEt:∀a b,acJ a=acJ b->a=b:=by
  rintro⟨dW,hF⟩ ⟨ak,ir⟩ h;simp only[ba,Data.Y.injEq,Data.fn.injEq,Data.ptr.injEq,Data.int.injEq,and_true,true_and] at h;exact dT (map_inj rZ _ _ h.1) h.2
@[go_sem] theorem aEu (l:List aq)(n:Int)(H:(D l)<=1000000/\0<=n/\n<=1000000):acK [.Y (l.map b4),.fn yp [.ptr [.int .i64 n],.ptr [.fn nv []]]]=some (.same (.bool (l.all (hp n)))):=(cx aEt (l,n)).trans (cW H _)
theorem aEv (T:bd)(CL:T zP=aW IH)(l:List aq)(n:Int)(H:(D l)<=1000000/\0<=n/\n<=1000000):WP T XK (.same (.bool (l.all (hp n)))) [.J (.Y (l.map b4)),.J (.fn yp [.ptr [.int .i64 n],.ptr [.fn nv []]])]:=by
 refine cy ?_;simp only[XK];have h:=RH l (.r4 n) ⟨H.1,by decide,H.2⟩
 have e:l.any (r5 (.r4 n)) = !l.all (hp n):=E7 l _;rw[e] at h;simp only[uO] at h;simp only[go_sem,go_sem_proc,CL,h,cE,nj,hK,scalar,Ju];repeat' (first|refine aw ?_ ?_|fail)<;>intro h<;>simp only[h,go_sem,go_sem_proc,CL,h,cE,nj,hK,scalar,Ju]
def xR (f:bo):Bool:=ej f&&decide (f.1.1>=0)
abbrev acL:List bo->List Data:=λ(l:List bo)=>[.Y (l.map aH),.fn wU []]
def acM:=ck acL λ(l:List bo)=>cR (gv l) (.same (.bool (l.all xR)))
theorem aEw:∀a b,acL a=acL b->a=b:=by
  intro dW ak h;simp only[ba,Data.Y.injEq,and_true] at h;exact map_inj m7 _ _ h
@[go_sem] theorem anI (l:List bo)(H:gv l):acM [.Y (l.map aH),.fn wU []]=some (.same (.bool (l.all xR))):=(cx aEw l).trans (cW H _)
theorem aEx (T:bd)(Hp:T KJ=aW LM)(l:List bo)(H:gv l):WP T XL (.same (.bool (l.all xR))) [.J (.Y (l.map aH)),.J (.fn wU [])]:=by
 refine cy ?_;simp only[XL];have h:=ag1 l vE ⟨H,.inr (.inr ⟨rfl,by decide⟩)⟩;have e:l.any (pS vE) = !l.all xR:=by rw[agZ];exact E7 l xR
 have Xm:Hn vE=[.ptr [.fn wU []]]:=ad rfl;rw[e,Xm] at h;simp only[go_sem,go_sem_proc,Hp,h,cE,nj,hK,scalar,Ju];repeat' (first|refine aw ?_ ?_|fail)<;>intro h<;>simp only[h,go_sem,go_sem_proc,Hp,h,cE,nj,hK,scalar,Ju]
def xS (E:List Int)(cs:List aq)(aA cu:List bo):Bool:=!(decide ((D E:Int)>60)||(decide ((D cs:Int)>2000)||(!((D aA:Int)==(D E:Int)) || !((D cu:Int)==(D cs:Int)))))&&(E.all fX&&(cs.all (hp (D E))&&(aA.all xR&&cu.all xR)))
abbrev acN:(List Int)×(List aq)×(List bo)×(List bo)×(List (List Int))->List Data:=λ(E,cs,aA,cu,aK)=>[.agg (eU E cs aA cu aK)]
def acO:=ck acN λ(E,cs,aA,cu,aK)=>cR (D E<=1000000/\D cs<=1000000/\gv aA/\gv cu) (.same (.bool (xS E cs aA cu)))
theorem aEy:∀a b,acN a=acN b->a=b:=by
  rintro⟨uK,uL,o2,aDQ,CI⟩ ⟨uM,n1,nX,aDR,CJ⟩ h;simp only[ba,Data.agg.injEq,and_true] at h;obtain⟨rfl,rfl,rfl,rfl,rfl⟩:=AF h;rfl
@[go_sem] theorem aEz (E:List Int)(cs:List aq)(aA:List bo)(cu:List bo)(aK:List (List Int))(H:(D E)<=1000000/\D cs<=1000000/\gv aA/\gv cu):acO [.agg (eU E cs aA cu aK)]=some (.same (.bool (xS E cs aA cu))):=(cx aEy (E,cs,aA,cu,aK)).trans (cW H _)
theorem aEA (T:bd)(CY:T U7=aW acI)(CZ:T U8=aW acK)(C0:T OU=aW acM)(E:List Int)(cs:List aq)(aA:List bo)(cu:List bo)(aK:List (List Int))(H:(D E)<=1000000/\D cs<=1000000/\gv aA/\gv cu):WP T XB (.same (.bool (xS E cs aA cu))) [.J (.agg (eU E cs aA cu aK))]:=by
 refine cy ?_;simp only[XB];obtain⟨F,I,af,aO⟩:=H;have cT:=aEr E F;have c7:=aEu cs (D E) ⟨I,by omega,by omega⟩
 have dZ:=anI aA af;have fm:=anI cu aO;unfold xS;generalize aA.all xR=A3 at *;generalize cu.all xR=A4 at *;generalize E.all fX=ZP at *;generalize cs.all (hp (D E))=Ia at *;rcases aJ:decide ((D E:Int)>60)
 case true =>
        refine a0 ?_;repeat' (intro h<;>simp only[h,go_sem,go_sem_proc,CY,CZ,C0,eU,aJ,al,sw,cK,fS]<;>try refine aw ?_ ?_)
 rcases c2:decide ((D cs:Int)>2000)
 case true =>
        refine a0 ?_;repeat' (intro h<;>simp only[h,go_sem,go_sem_proc,CY,CZ,C0,eU,aJ,c2,al,sw,ru,cK,fS]<;>try refine aw ?_ ?_)
 rcases c3:((D aA:Int)==(D E:Int))
 case false =>
        refine a0 ?_;repeat' (intro h<;>simp only[h,go_sem,go_sem_proc,CY,CZ,C0,eU,aJ,c2,c3,al,bne,sw,ru,cK,dt,fS]<;>try refine aw ?_ ?_)
 rcases c4:((D cu:Int)==(D cs:Int))
 case false =>
        refine a0 ?_;repeat' (intro h<;>simp only[h,go_sem,go_sem_proc,CY,CZ,C0,eU,aJ,c2,c3,c4,al,bne,sw,Bool.or_true,ru,cK,dt,fS]<;>try refine aw ?_ ?_)
 cases ZP
 ·refine a0 ?_;repeat' (intro h<;>simp only[h,go_sem,go_sem_proc,CY,CZ,C0,eU,aJ,c2,c3,c4,cT,al,bne,cE,nj,hK,scalar,l2,cK,dt,fS,h6]<;>try refine aw ?_ ?_)
 cases Ia
 ·refine a0 ?_;repeat' (intro h<;>simp only[h,go_sem,go_sem_proc,CY,CZ,C0,eU,aJ,c2,c3,c4,cT,c7,al,bne,cE,nj,hK,scalar,l2,cK,dt,gW,fS,h6]<;>try refine aw ?_ ?_)
 cases A3
 ·refine a0 ?_;repeat' (intro h<;>simp only[h,go_sem,go_sem_proc,CY,CZ,C0,eU,aJ,c2,c3,c4,cT,c7,dZ,al,bne,cE,nj,hK,scalar,l2,cK,dt,gW,fS,h6]<;>try refine aw ?_ ?_)
 ·refine a0 ?_;repeat' (intro h<;>simp only[h,go_sem,go_sem_proc,CY,CZ,C0,eU,aJ,c2,c3,c4,cT,c7,dZ,fm,al,bne,cE,nj,hK,scalar,l2,cK,dt,gW,fS,h6]<;>try refine aw ?_ ?_)
def zh (i:Int)(acc:Option Rat)(FE:aq×Rat):Option Rat:=if FE.1.2.1=i then acc.bind λs=>if m6 s FE.2=true then some (s+FE.2) else none else acc
def uZ (z:Int)(i:Int)(l:List (aq×Rat)):Option Rat:=l.foldl (zh i) (some (z:Rat))
theorem aEB {z i:Int}{l:List (aq×Rat)}{k:Nat}{c:aq×Rat}(h:l[k]?=some c):uZ z i (l.take (k+1))=zh i (uZ z i (l.take k)) c:=by
 unfold uZ;rw[hv,h,Nu];rfl
theorem aEC (i:Int)(l:List (aq×Rat)):l.foldl (zh i) none=none:=by
 induction l with
 |nil=>rfl
 |cons c l az =>
  have:zh i none c=none:=by unfold zh;split<;>rfl
  rw[F9,this,az]
theorem aED {z i:Int}{l:List (aq×Rat)}{k:Nat}(h:uZ z i (l.take k)=none):uZ z i l=none:=by
 have:l=l.take k++l.drop k:=(sx k l).symm;rw[this];unfold uZ at *;rw[Nu,h,aEC]
theorem aEE {z i:Int}(aX:dw z)(l:List (aq×Rat)):∀x,uZ z i l=some x->dj x:=by
 unfold uZ
 have:∀(l:List (aq×Rat)) (a:Option Rat),(∀x,a=some x->dj x)->∀x,l.foldl (zh i) a=some x->dj x:=by
  intro l
  induction l with
  |nil=>intro a h;exact h
  |cons c l az =>
   intro a h;refine az _ λx Q=>?_;unfold zh at Q
   split at Q
   ·cases a with
    |none=>cases Q
    |some s =>
     rw[kK] at Q
     split at Q
     ·rename_i O;rw[<-o3 Q];exact amD O
     ·cases Q
   ·exact h x Q
 exact this l _ λx Q=>by rw[<-o3 Q];exact nM aX
def q6 (E:List Int)(cs:List aq)(aT ps:List Rat)(i:Nat):Int:=match uZ (E.getD i 0) i (cs.zip ps) with
 |none=>6
 |some x=>if x=aT.getD i 0/\gy cs ps i=(b1 cs i).map (λc=>fB (b1 cs i) x c) then 0 else 24
structure NI (E:List Int) (cs:List aq) (aT ps:List Rat) (i:Nat):Prop where
 Fy:nd E cs ps
 M:i<D E
 ar:(D aT)=D E
 kf:∀x∈aT,dj x
 aMQ:dw (E.getD i 0)
 split:∀x,uZ (E.getD i 0) i (cs.zip ps)=some x->x=aT.getD i 0->Iy (b1 cs i) x
theorem ku.acf {l:List aq}(h:ku l){x:Rat}(Q:dX 460 x){c:aq}(H:c∈l):dj (fB l x c):=Mini.acf (λc H=>by have:=h.c c H;omega) h.len Q H
abbrev acP:(List Int)×(List aq)×(List Rat)×(List Rat)×(List (List Int))×Nat->List Data:=λ(E,cs,aT,ps,aK,i)=>[.agg (eU E cs (aT.map au) (ps.map au) aK),.int .i64 (i:Int)]
def acQ:=ck acP λ(E,cs,aT,ps,aK,i)=>cR (NI E cs aT ps i) (.same (.int .i64 (q6 E cs aT ps i)))
theorem aEF:∀a b,acP a=acP b->a=b:=by
  rintro⟨uK,uL,qG,IC,CI,i1⟩ ⟨uM,n1,BP,ID,CJ,i2⟩ h;simp only[ba,Data.agg.injEq,Data.int.injEq,and_true,true_and] at h;obtain⟨h,jH⟩:=h;obtain⟨rfl,rfl,cr,g2,rfl⟩:=AF h;rw[map_inj (λ_ _ aU=>sR aU) _ _ g2,map_inj (λ_ _ aU=>sR aU) _ _ cr,Int.ofNat.inj jH]
@[go_sem] theorem aEG (E:List Int)(cs:List aq)(aT:List Rat)(ps:List Rat)(aK:List (List Int))(i:Nat)(H:NI E cs aT ps i):acQ [.agg (eU E cs (aT.map au) (ps.map au) aK),.int .i64 (i:Int)]=some (.same (.int .i64 (q6 E cs aT ps i))):=(cx aEF (E,cs,aT,ps,aK,i)).trans (cW H _)
theorem aEH (T:bd)(hB:T vw=aW B1)(lg:T yo=aW Ac)(dB:T nu=aW sS)(qe:T KY=aW SS)(kz:T KW=aW Si)(se:T U9=aW ab7)(E:List Int)(cs:List aq)(aT:List Rat)(ps:List Rat)(aK:List (List Int))(i:Nat)(H:NI E cs aT ps i):WP T XC (.same (.int .i64 (q6 E cs aT ps i))) [.J (.agg (eU E cs (aT.map au) (ps.map au) aK)),.J (.int .i64 (i:Int))]:=by
 refine cy ?_;simp only[XC];obtain⟨MO,M,ar,kf,EV,jD⟩:=H;have hlen:=MO.len;have anJ:=MO.l;obtain⟨z,aX⟩:∃z,E[i]?=some z:=⟨_,bx M⟩;have Pl:E.getD i 0=z:=by rw[dY,aX];rfl
 rw[Pl] at EV jD;unfold q6;rw[Pl];have ao:=acF EV;have wI:=aEE (i:=(i:Int)) EV;have aEI:∀k c p,cs[k]?=some c->ps[k]?=some p->(cs.zip ps)[k]?=some (c,p):=λk c p F I=>S6.2 ⟨F,I⟩;have aMR:(cs.zip ps).length=D cs:=by rw[anK];omega
 have Jv:=anq E cs (aT.map au) (ps.map au) aK i ⟨by rw[al];exact hlen,anJ⟩
 rw[aa0] at Jv;simp only[eU] at Jv;have aEJ:∃x,aT[i]?=some x:=⟨_,bx (by omega)⟩;obtain⟨Q,acR⟩:=aEJ;have aEK:aT.getD i 0=Q:=by rw[dY,acR];rfl
 have aEL:=kf Q (ec acR);have cj:(aT.map au)[i]?=some (au Q):=by rw[bl,acR];rfl
 have acS:∀k,(ps.map au)[k]?=(ps[k]?).map au:=λk=>bl;have hU:i<(aT.map au).length:=by rw[al];omega
 have aMS:(ps.map au).length=D cs:=by rw[al];exact hlen
 rw[aEK] at jD ⊢;generalize aMT:aT.map au=HQ at *;generalize aEM:ps.map au=AV at *;have aEN:∃e,e=au ((z:Int):Rat):=⟨_,rfl⟩;obtain⟨e,he⟩:=aEN;rw[<-he] at ao;obtain⟨⟨iB,iZ⟩,⟨tg,y6⟩⟩:=e;simp only[aH] at ao;simp only[go_sem,go_sem_proc,hB,lg,dB,qe,kz,se,eU,aX,M,ao,ae,hN,List.length_nil,Nat.zero_add,al,bl]
 refine dn [1,2,5,25,26] [288002] (λ((k,x,f):Nat×Rat×bo) tm m=>k<=D cs/\tm 27=.J (.int .i64 k)/\uZ z i ((cs.zip ps).take k)=some x/\f=au x/\m 288005=some (0,(aH f).map .J)) (λ(k,_,_)=>D cs-k) (0,((z:Int):Rat),((iB,iZ),(tg,y6))) (by
  refine⟨by omega,rfl,rfl,he,rfl⟩) ?_
 intro vs ms aV aS;simp only[go_sem,go_sem_proc,hB,lg,dB,qe,kz,se,eU,al] at aV aS;subst aV aS;rintro⟨k,x,⟨⟨a8,bY⟩,⟨c5,ey⟩⟩⟩ tm m O hm ⟨qv,ih,pd,tI,u0⟩;simp only[go_sem,go_sem_proc,hB,lg,dB,qe,kz,se,ba] at O hm;obtain⟨aC,aD,dk,hd,ig⟩:=O;have tu:=wI ((cs.zip ps).take k) x pd;simp only[aH,eG,cV] at u0;rcases dA (k<D cs) with ay|aMU
 ·have d1:decide ((k:Int)<(D cs:Int))=true:=di;have bX:=ff (i:=k) (by omega);obtain⟨⟨aJ,c2,c3,c4⟩,H⟩:∃c,cs[k]?=some c:=⟨_,bx ay⟩;obtain⟨p,aF⟩:∃p,ps[k]?=some p:=⟨_,bx (by omega)⟩;have nY:=MO.Ay p (ec aF);have dv:=aEB (z:=z) (i:=(i:Int)) (aEI k _ p H aF);rw[pd] at dv;have pY:AV[k]?=some (au p):=by rw[acS,aF];rfl
  have s3:k<D AV:=by omega
  have iL:=aCj tu nY;rw[<-tI] at iL;obtain⟨e,AL⟩:∃e,e=au p:=⟨_,rfl⟩;rw[<-AL] at iL pY;obtain⟨⟨jB,jC⟩,⟨s4,v7⟩⟩:=e;simp only[aH] at iL;rcases fl:(c2==(i:Int))
  ·have bG:¬ c2=(i:Int):=ne_of_beq_false fl;unfold zh at dv;rw[ag bG] at dv;simp only[go_sem,go_sem_proc,hB,lg,dB,qe,kz,se,aC,aD,dk,hd,ig,ih,hm,u0,H,d1,bX,fl,b4,al,bl,bne,dt];repeat' (first|refine aw ?_ ?_|fail)<;>intro h<;>simp only[h,go_sem,go_sem_proc,hB,lg,dB,qe,kz,se,aC,aD,dk,hd,ig,ih,hm,u0,H,d1,bX,fl,b4,al,bl,bne,dt]
   exact⟨(k+1,x,((a8,bY),(c5,ey))),by dsimp only;omega,by dsimp only;omega,rfl,dv,tI,rfl⟩
  ·have heq:c2=(i:Int):=eq_of_beq fl;unfold zh at dv;rw[ad heq,kK] at dv;rcases gC:m6 x p
   ·rw[gC] at iL dv;rw[ag (by decide)] at dv;have h5:=aED dv;rw[h5];have acT:Ad false (x+p)=(er,6):=rfl;simp only[acT,er] at iL;have bK:((6:Int)==0)=false:=rfl;simp only[go_sem,go_sem_proc,hB,lg,dB,qe,kz,se,aC,aD,dk,hd,ig,ih,hm,u0,H,pY,s3,iL,bK,d1,bX,fl,b4,aH,al,bl,bne,cK,dt];repeat' (first|refine aw ?_ ?_|fail)<;>intro h<;>simp only[h,go_sem,go_sem_proc,hB,lg,dB,qe,kz,se,aC,aD,dk,hd,ig,ih,hm,u0,H,pY,s3,iL,bK,d1,bX,fl,b4,aH,al,bl,bne,cK,dt]
   ·rw[gC] at iL dv;rw[ad rfl] at dv;have acT:Ad true (x+p)=(au (x+p),0):=rfl;simp only[acT] at iL;obtain⟨e,BW⟩:∃e,e=au (x+p):=⟨_,rfl⟩;rw[<-BW] at iL;obtain⟨⟨s1,s2⟩,⟨cM,cX⟩⟩:=e;simp only at iL;simp only[go_sem,go_sem_proc,hB,lg,dB,qe,kz,se,aC,aD,dk,hd,ig,ih,hm,u0,H,pY,s3,iL,d1,bX,fl,b4,aH,al,bl,bne,beq_self_eq_true,cK];repeat' (first|refine aw ?_ ?_|fail)<;>intro h<;>simp only[h,go_sem,go_sem_proc,hB,lg,dB,qe,kz,se,aC,aD,dk,hd,ig,ih,hm,u0,H,pY,s3,iL,d1,bX,fl,b4,aH,al,bl,bne,beq_self_eq_true,cK]
    exact⟨(k+1,x+p,((s1,s2),(cM,cX))),by dsimp only;omega,by dsimp only;omega,rfl,dv,BW,rfl⟩
 ·have d1:decide ((k:Int)<(D cs:Int))=false:=c9;rw[dy (by omega)] at pd;rw[pd];have iK:=EX tu aEL;rw[<-tI] at iK;obtain⟨e,aEO⟩:∃e,e=au Q:=⟨_,rfl⟩;rw[<-aEO] at iK cj;obtain⟨⟨F,I⟩,⟨af,aO⟩⟩:=e;simp only[aH] at iK;dsimp only;rcases e6:(lJ x Q==0)
  ·have bG:¬ x=Q:=λh=>by rw[agN.2 h] at e6;cases e6
   rw[ag (λh=>bG h.1)];simp only[go_sem,go_sem_proc,hB,lg,dB,qe,kz,se,aC,aD,dk,hd,ig,ih,hm,u0,cj,hU,iK,d1,e6,aH,al,bl,bne,dt];repeat' (first|refine aw ?_ ?_|fail)<;>intro h<;>simp only[h,go_sem,go_sem_proc,hB,lg,dB,qe,kz,se,aC,aD,dk,hd,ig,ih,hm,u0,cj,hU,iK,d1,e6,aH,al,bl,bne,dt]
  ·have heq:x=Q:=agN.1 (eq_of_beq e6);have yS:=jD x pd heq;have zs:=ame x (b1 cs i) yS;rw[<-tI] at zs;have fw:(b1 cs (i:Int)).map (λc=>au (fB (b1 cs i) x c))=((b1 cs (i:Int)).map λc=>fB (b1 cs i) x c).map au:=by rw[nq];rfl
   rw[fw] at zs;have Gd:=yS.own.len;have iX:∀y∈gy cs ps (i:Int),dj y:=λy av=>MO.Ay y (Ry av)
   have kL:∀y∈(b1 cs (i:Int)).map (λc=>fB (b1 cs i) x c),dj y:=λy av=>by
    obtain⟨c,H,rfl⟩:=ek.1 av;exact yS.own.acf yS.sz H
   have e8:=aa1 cs ps (i:Int) hlen;have oj:=aCx ((gy cs ps (i:Int)).map au) (((b1 cs (i:Int)).map λc=>fB (b1 cs i) x c).map au) ⟨⟨by rw[al];omega,λf aI=>by obtain⟨y,av,rfl⟩:=ek.1 aI;exact mO (iX y av)⟩,⟨by rw[al,al];omega,λf aI=>by obtain⟨y,av,rfl⟩:=ek.1 aI;exact mO (kL y av)⟩⟩
   have anL:=amQ _ _ iX kL;generalize (gy cs ps (i:Int)).map au=aEP at *;generalize (((b1 cs (i:Int)).map λc=>fB (b1 cs i) x c).map au)=aEQ at *;simp only[aH] at zs;rcases rX:kA aEP aEQ
   ·rw[rX] at oj;rw[ag (λh=>by rw[anL.2 h.2] at rX;cases rX)];simp only[go_sem,go_sem_proc,hB,lg,dB,qe,kz,se,aC,aD,dk,hd,ig,ih,hm,u0,cj,hU,iK,Jv,zs,oj,d1,e6,aH,al,bl,bne,beq_self_eq_true,cK,dt];repeat' (first|refine aw ?_ ?_|fail)<;>intro h<;>simp only[h,go_sem,go_sem_proc,hB,lg,dB,qe,kz,se,aC,aD,dk,hd,ig,ih,hm,u0,cj,hU,iK,Jv,zs,oj,d1,e6,aH,al,bl,bne,beq_self_eq_true,cK,dt]
   ·rw[rX] at oj;rw[ad ⟨heq,anL.1 rX⟩];simp only[go_sem,go_sem_proc,hB,lg,dB,qe,kz,se,aC,aD,dk,hd,ig,ih,hm,u0,cj,hU,iK,Jv,zs,oj,d1,e6,aH,al,bl,bne,beq_self_eq_true,cK,dt];repeat' (first|refine aw ?_ ?_|fail)<;>intro h<;>simp only[h,go_sem,go_sem_proc,hB,lg,dB,qe,kz,se,aC,aD,dk,hd,ig,ih,hm,u0,cj,hU,iK,Jv,zs,oj,d1,e6,aH,al,bl,bne,beq_self_eq_true,cK,dt]
theorem anM:∀{a b:List Int},a.Pairwise (·<·)->b.Pairwise (·<·)->(∀x,x∈a↔x∈b)->a=b
 | [],[],_,_,_=>rfl
 | [],y::b,_,_,h=>by have:=(h y).2 (by simp);cases this
 |x::a,[],_,_,h=>by have:=(h x).1 (by simp);cases this
 |x::a,y::b,aP,ah,h=>by
  have RY:=CU.1 aP;have kE:=CU.1 ah
  have jk:x=y:=by
   have F:=(h x).1 (by simp);have I:=(h y).2 (by simp);rcases hj.1 F with F|F
   ·exact F
   ·rcases hj.1 I with I|I
    ·exact I.symm
    ·have:=RY.1 y I;have:=kE.1 x F;omega
  subst jk;rw[anM RY.2 kE.2 λz=>?_]
  constructor
  ·intro aX;have:=(h z).1 (gx _ aX);rcases hj.1 this with F|F
   ·have:=RY.1 z aX;omega
   ·exact F
  ·intro aX;have:=(h z).2 (gx _ aX);rcases hj.1 this with F|F
   ·have:=kE.1 z aX;omega
   ·exact F
theorem aER (cs:List aq)(ps:List Rat)(n:Nat):(iR cs ps n).Pairwise (·<·)/\∀x,x∈iR cs ps n->∃i:Nat,x=(i:Int)/\i<n:=by
 induction n with
 |zero=>exact⟨List.Pairwise.nil,λx h=>by cases h⟩
 |succ n az =>
  obtain⟨F,I⟩:=az;rw[anr]
  by_cases aT:qa cs ps (n:Int)<10
  ·rw[ad aT];refine⟨List.pairwise_append.2 ⟨F,List.pairwise_singleton _ _,λa aP b ah=>?_⟩,λx Q=>?_⟩
   ·obtain⟨i,rfl,M⟩:=I a aP;rw[uc.1 ah];omega
   ·rcases List.mem_append.1 Q with Q|Q
    ·obtain⟨i,e,M⟩:=I x Q;exact⟨i,e,by omega⟩
    ·exact⟨n,uc.1 Q,by omega⟩
  ·rw[ag aT,List.append_nil];exact⟨F,λx Q=>by obtain⟨i,e,M⟩:=I x Q;exact⟨i,e,by omega⟩⟩
structure NJ (E:List Int) (cs:List aq) (ps:List Rat) (aK:List (List Int)):Prop where
 Fy:nd E cs ps
 len:(D aK)<=1000
 ne:∀r∈aK,r≠[]/\r.Pairwise (·<·)
 names:(D aK.flatten)<=12
 mem:∀x,x∈aK.flatten↔x∈iR cs ps (D E)
def acU:=ck ND λ(E,cs,aA,ps,aK)=>cR (NJ E cs ps aK) (.same (.bool true))
@[go_sem] theorem aES (E:List Int)(cs:List aq)(aA:List bo)(ps:List Rat)(aK:List (List Int))(H:NJ E cs ps aK):acU [.agg (eU E cs aA (ps.map au) aK)]=some (.same (.bool true)):=(cx acz (E,cs,aA,ps,aK)).trans (cW H _)
theorem aET (T:bd)(xT:T Va=pj SP)(xU:T Vc=MR SQ)(pz:T KZ=aW SZ)(xV:T Vb=aW aco)(E:List Int)(cs:List aq)(aA:List bo)(ps:List Rat)(aK:List (List Int))(H:NJ E cs ps aK):WP T XD (.same (.bool true)) [.J (.agg (eU E cs aA (ps.map au) aK))]:=by
 refine cy ?_;simp only[XD];have aL:=H.Fy.n;have jV:=ant E cs aA ps aK H.Fy;have Dl:=SX cs ps (D E);simp only[eU] at jV;generalize ps.map au=PD at *;simp only[go_sem,go_sem_proc,xT,xU,pz,xV,eU,al];refine dn [1,10,11] [289001] (λ((i,g):Nat×Nat) tm m=>i<=D aK/\tm 12=.J (.int .i64 i)/\tm 3=.ref 289040 g 1 0 (aK.take i).flatten.length/\m 289040=some (g,bc ae (aK.take i).flatten)) (λ(i,_)=>D aK-i) (0,0) (by refine⟨by omega,rfl,rfl,rfl⟩) ?_;intro vs ms aV aS;simp only[go_sem,go_sem_proc,xT,xU,pz,xV,eU,al] at aV aS;subst aV aS;rintro⟨i,g⟩ tm m O hm ⟨M,gh,b9,AW⟩;simp only[go_sem,go_sem_proc,xT,xU,pz,xV,ba] at O hm;obtain⟨aC,ef,jw⟩:=O;rcases dA (i<D aK) with ay|cj
 ·have hlen:=H.len;have d1:decide ((i:Int)<(D aK:Int))=true:=di;have bX:=ff (i:=i) (by omega);obtain⟨r,Q⟩:∃r,aK[i]?=some r:=⟨_,bx ay⟩;obtain⟨BH,bC⟩:=H.ne r (ec Q);have fY:(aK.take (i+1)).flatten=(aK.take i).flatten++r:=by rw[hv,Q,Option.toList_some,HX];simp
  have aMV:(aK.take i).flatten.length+D r<=12:=by
   have F:aK.flatten=(aK.take (i+1)).flatten++(aK.drop (i+1)).flatten:=by rw[<-HX,sx]
   have I:=H.names;rw[F,fY,fH,fH] at I;omega
  have b0:0<D r:=List.length_pos_iff.2 BH;simp only[go_sem,go_sem_proc,xT,xU,pz,xV,aC,b9,ef,jw,gh,hm,Q,d1,r2,al,bl];refine dn [1,3,5,10,11,12,16,17] [289001,289040] (λ(k:Nat) tm m=>k<=D r/\tm 18=.J (.int .i64 k)) (λk=>D r-k) 0 (by refine⟨by omega,rfl⟩) ?_;intro vs ms aV aS;simp only[go_sem,go_sem_proc,xT,xU,pz,xV,aC,b9,ef,jw,gh,hm,AW,al] at aV aS;subst aV aS;clear aC b9 ef jw gh hm AW;rintro k tm m O hm ⟨De,nG⟩;simp only[go_sem,go_sem_proc,xT,xU,pz,xV,ba] at O hm;obtain⟨aC,b9,dk,ef,jw,gh,yW,na⟩:=O;obtain⟨dN,AW⟩:=hm;rcases dA (k<D r) with QB|avp
  ·have d2:decide ((k:Int)<(D r:Int))=true:=di;have xj:=ff (i:=k) (by omega);obtain⟨x,acV⟩:∃x,r[k]?=some x:=⟨_,bx QB⟩;rcases Nat.eq_zero_or_pos k with Dv|Dv
   ·have d3:decide ((k:Int)>0)=false:=c9;refine a0 ?_;repeat' (intro h<;>simp only[h,go_sem,go_sem_proc,xT,xU,pz,xV,aC,b9,dk,ef,jw,gh,yW,na,nG,dN,AW,acV,d2,d3,xj,ae,al,bl]<;>try refine aw ?_ ?_)
    exact⟨k+1,by omega,by omega,rfl⟩
   ·have d3:decide ((k:Int)>0)=true:=di;have Jn:IntKind.i64.wrap ((k:Int)-1)=((k-1:Nat):Int):=by rw[eS _];omega
    obtain⟨y,anN⟩:∃x,r[k-1]?=some x:=⟨_,bx (by omega)⟩
    have k5:y<x:=by
     obtain⟨_,rfl⟩:=dP.1 acV;obtain⟨_,rfl⟩:=dP.1 anN;exact List.pairwise_iff_getElem.1 bC (k-1) k (by omega) QB (by omega)
    have d4:decide (x<=y)=false:=c9;have kS:k-1<D r:=by omega
    refine a0 ?_;repeat' (intro h<;>simp only[h,go_sem,go_sem_proc,xT,xU,pz,xV,aC,b9,dk,ef,jw,gh,yW,na,nG,dN,AW,acV,anN,d2,d3,d4,xj,Jn,kS,ae,al,bl]<;>try refine aw ?_ ?_)
    exact⟨k+1,by omega,by omega,rfl⟩
  ·have d2:decide ((k:Int)<(D r:Int))=false:=c9;have d5:((D r:Int)==0)=false:=by rw[beq_eq_false_iff_ne];omega
   have dC:mx 289040 g 1 (aK.take i).flatten.length 8 (D r) (bc ae r) (some (g,bc ae (aK.take i).flatten))=some (.ref 289040 (g+1) 1 0 ((aK.take i).flatten.length+D r),some (289040,g+1,bc ae (aK.take (i+1)).flatten)):=by
    have:=Dx gX tR 289040 g 8 (aK.take i).flatten r (by omega) (by omega);rw[<-fY] at this;exact this
   have aEU:(r.map ae).flatten.map R.J=bc ae r:=rfl;refine a0 ?_;repeat' (intro h<;>simp only[h,go_sem,go_sem_proc,xT,xU,pz,xV,aC,b9,dk,ef,jw,gh,yW,na,nG,dN,AW,d2,d5,bX,dC,aEU,K8,al]<;>try refine aw ?_ ?_)
   exact⟨(i+1,g+1),by dsimp only;omega,by dsimp only;omega,rfl,by rw[fY,fH],rfl⟩
 ·have d1:decide ((i:Int)<(D aK:Int))=false:=c9;obtain rfl:i=D aK:=by omega
  rw[List.take_length] at b9 AW;rw[<-wz] at AW;have e5:=aDD ⟨aK.flatten,g⟩ m ⟨AW,H.names⟩;dsimp only at e5;simp only[go_sem,go_sem_proc,xT,xU,pz,xV,aC,b9,ef,jw,gh,hm,d1,e5];rintro yQ m' gE;obtain⟨xl,s,aF,yS,n2⟩:=gE;dsimp only at aF n2;subst xl n2;have AX:=aF.length_eq;have sE:=aDJ ⟨s,g⟩ (a4 emp 289040 g (s.map bD)) ⟨iF,by rw[AX];exact H.names⟩
  dsimp only at sE;have jD:=aDI yS;have heq:mo s=iR cs ps (D E):=anM jD.1 (aER cs ps (D E)).1 λx=>by rw[jD.2,aF.mem_iff];exact H.mem x
  rw[heq,AX] at sE;have anO:=aDi (iR cs ps (D E)) (iR cs ps (D E)) ⟨by omega,by omega⟩
  rw[lq rfl] at anO;have CS:nV (s.map bD)=true:=by unfold nV;rw[kG];intro x Q;obtain⟨y,-,rfl⟩:=ek.1 Q;rfl
  refine a0 ?_;repeat' (intro h<;>simp only[h,go_sem,go_sem_proc,xT,xU,pz,xV,aC,b9,ef,jw,hm,sE,jV,anO,CS,List.set_cons_zero,lB,al]<;>try refine aw ?_ ?_)
  done
theorem aEV {α:Type}(l:List α)(p q:α->Bool):(l.filter λx=>p x||q x).length<=(l.filter p).length+(l.filter q).length:=by
 induction l with
 |nil=>simp
 |cons a l az =>
  simp only[List.filter_cons]
  cases p a<;>cases q a<;>simp<;>omega
theorem aEW (n:Nat)(z:Int)(b:Bool):((dS n).filter λk:Nat=>(z==(k:Int))&&b).length<=1:=by
 induction n with
 |zero=>simp
 |succ n az =>
  rw[List.range_succ,List.filter_append,fH]
  by_cases h:((z==(n:Int))&&b)=true
  ·have ao:(dS n).filter (λk:Nat=>(z==(k:Int))&&b)=[]:=by
    rw[Ir];intro k O I;simp only[e4,beq_iff_eq] at h I;have:=ha.1 O;omega
   have af:=mg (λk:Nat=>(z==(k:Int))&&b) [n];rw[ao]
   simpa using af
  ·have af:[n].filter (λk:Nat=>(z==(k:Int))&&b)=[]:=by
    rw[Ir];intro k O;rw[uc.1 O];exact h
   rw[af]
   simpa using az
theorem aEX (l:List aq):S4 l 10<=D l:=by
 unfold S4
 induction l with
 |nil =>
  have:(dS 10).filter (zg [])=[]:=by rw[Ir];intro k _;simp[zg]
  rw[this];exact bZ _
 |cons c l az =>
  have e:(λk=>zg (c::l) k)=λk:Nat=>((c.2.2.1==(k:Int))&&decide (c.2.2.2>0))||zg l k:=by
   funext k
   unfold zg;rw[List.any_cons]
  have F:=aEV (dS 10) (λk:Nat=>(c.2.2.1==(k:Int))&&decide (c.2.2.2>0)) (zg l);have I:=aEW 10 c.2.2.1 (decide (c.2.2.2>0));have aD:(dS 10).filter (zg (c::l))=(dS 10).filter λk:Nat=>((c.2.2.1==(k:Int))&&decide (c.2.2.2>0))||zg l k:=by rw[<-e]
  rw[aD,hN];omega
theorem aEY (cs:List aq)(n:Nat):fj n (λi=>(b1 cs i).length)<=D cs:=by
 induction cs with
 |nil=>exact Nat.le_of_eq (Q7 λi _=>rfl)
 |cons c cs az =>
  have e:fj n (λi=>(b1 (c::cs) i).length)=fj n (λi=>if c.1=(i:Int) then 1 else 0)+fj n λi=>(b1 cs i).length:=by
   rw[<-Q6];refine MC λi _=>?_;unfold b1
   by_cases h:c.1=(i:Int)
   ·rw[List.filter_cons_of_pos (by simpa using h),ad h,hN];omega
   ·rw[List.filter_cons_of_neg (by simpa using h),ag h];omega
  have F:fj n (λi=>if c.1=(i:Int) then 1 else 0)<=1:=Q8 λi j M ai=>by omega
  rw[e,hN];omega
theorem aEZ {n:Nat}{l:List Nat}(h:∀x∈l,x<n):(D l)<=fj n λi=>l.count i:=by
 induction l with
 |nil=>exact Nat.zero_le _
 |cons a l az =>
  have az:=az λx Q=>h x (gx _ Q);have aP:=h a List.mem_cons_self
  have e:fj n (λi=>(a::l).count i)=fj n (λi=>l.count i)+fj n λi=>if i=a then 1 else 0:=by
   rw[<-Q6];refine MC λi _=>?_;rw[List.count_cons]
   by_cases M:i=a
   ·subst M;rw[ad rfl,ad (by simp)]
   ·rw[ag M,ag (by simpa using λh=>M h.symm)]
  have F:1<=fj n λi=>if i=a then 1 else 0:=by
   have:=aiz (N:=n) (λi=>if i=a then 1 else 0) aP;rw[ad rfl] at this;omega
  rw[e,hN];omega
def C1 (E:List Int)(cs:List aq):List (List Int):=(ax E cs).iQ.map λr=>r.map λi:Nat=>(i:Int)
theorem anP (E:List Int)(cs:List aq):(C1 E cs).flatten=(ax E cs).iQ.flatten.map λi:Nat=>(i:Int):=by
 unfold C1;rw[List.map_flatten]
def hE (E:List Int)(cs:List aq):List Rat:=cs.map λc=>fB cs ((ax E cs).cm c.1.toNat) c
theorem anQ (E:List Int)(cs:List aq):(hE E cs).map au=xQ E cs:=by
 unfold hE xQ;rw[nq];rfl
theorem acW {E:List Int}{cs:List aq}{i:Nat}:gy cs (hE E cs) i=uW E cs i:=by
 unfold hE uW;rw[ay1];refine lY λc H=>?_;rw[(mj.1 H).2,jX]
theorem S7 {E:List Int}{cs:List aq}(X:eI E cs):nd E cs (hE E cs):=by
 have bm:=X.jv;have h8:=X.p7;refine⟨by unfold hE;rw[al],by omega,by omega,λi=>X.own i,λx Q=>?_⟩
 obtain⟨c,H,rfl⟩:=ek.1 Q;have F:=((gd.1 X.right).2.2.2 c H)
 refine kt (aDd (i:=c.1.toNat) X (ek.2 ⟨c,mj.2 ⟨H,by omega⟩,rfl⟩)) (by omega)
theorem S8 {E:List Int}{cs:List aq}(X:eI E cs){i:Nat}(M:i<D E):qa cs (hE E cs) i<10↔(ax E cs).cm i<(ax E cs).bt i 10:=by
 unfold qa;rw[acW];exact aDe X M
theorem aE0 {E:List Int}{cs:List aq}(X:eI E cs):NJ E cs (hE E cs) (C1 E cs):=by
 obtain⟨bG,Hw⟩:=aye X.ok;have kq:(ax E cs).n=D E:=rfl;have aL:=X.jv
 have ay:∀x∈(ax E cs).iQ.flatten,x<D E:=λx Q=>by
  obtain⟨l,ar,tu⟩:=List.mem_flatten.1 Q;exact (bG l ar).2.2 x tu
 have F:=aEZ ay
 have I:fj (D E) (λi=>(ax E cs).iQ.flatten.count i)<=fj (D E) λi=>(b1 cs i).length:=awQ λi M=>by
  have cd:=(Hw i M).1;have c0:=aEh X i 10;have ev:=aEX (b1 cs i);omega
 have af:=aEY cs (D E);have aO:=X.p7
 have lA:(ax E cs).iQ.length<=60:=by
  have:=ach (ax E cs) (10*(ax E cs).n) λ_=>10;unfold Day.iQ;omega
 refine⟨S7 X,by unfold C1;rw[al];omega,λr ab=>?_,?_,λx=>?_⟩
 ·obtain⟨l,ar,rfl⟩:=ek.1 ab;obtain⟨cd,c0,-⟩:=bG l ar;exact⟨by simpa using cd,List.pairwise_map.2 (c0.imp λh=>by omega)⟩
 ·rw[anP,al];omega
 ·rw[anP];unfold iR NC;rw[ek,ek]
  constructor
  ·rintro⟨i,M,rfl⟩;refine⟨i,s9.2 ⟨ha.2 (ay i M),lq ?_⟩,rfl⟩;exact (S8 X (ay i M)).2 (((Hw i (ay i M)).2).2 (anR.2 M))
  ·rintro⟨i,M,rfl⟩;obtain⟨cd,c0⟩:=s9.1 M;have cd:=ha.1 cd;exact⟨i,anR.1 (((Hw i cd).2).1 ((S8 X cd).1 (of_decide_eq_true c0))),rfl⟩
theorem aE1 (E:List Int)(cs:List aq):(C1 E cs).map r2=(ax E cs).iQ.map q4:=by
 unfold C1;rw[nq];refine lY λr _=>?_;unfold q4;show r2 (r.map λi:Nat=>(i:Int))=_;unfold r2;rw[nq]
 rfl
end Go.Mini
namespace Go.Mini
open Classical
theorem aE2 {d:Day}(aa:d.de){C:Nat->Prop}(F:∃i,C i)(I:∀i,C i->i<d.n/\d.cm i<d.bt i 10):¬ d.closed d.hq C:=by
 intro af;obtain⟨g,M,yZ,hle⟩:=It aa;have su:∀i,C i->i<d.n/\d.hq i<10:=λi h=>⟨(I i h).1,((xB aa).2 i (I i h).1).2 (I i h).2⟩;have h5:=Rh aa
 have k:=M.Zz aa F su af (d.q d.hq d.cm) (λk=>d.cm k-d.bt k (d.hq k)) (λk O _=>by have:=h5 k O;grind) λc H _=>by
  have bT:=aa.aE c H;have hw:=aa.p2 H;have aL:=h5 c.aE bT;unfold Day.q
  by_cases fc:c.br<d.hq c.aE
  ·rw[ad fc,ad fc,ag (λh=>by have:=h.2;omega)];grind
  ·rw[ag fc,ag fc]
   by_cases ep:c.br=d.hq c.aE
   ·rw[ad ep,ad ep]
    by_cases gO:C c.aE
    ·rw[ad ⟨gO,ep⟩];unfold Day.cap;rw[ad gO,ep,rR (by grind)];have e:d.bt c.aE (d.hq c.aE)-d.bt c.aE (d.hq c.aE)=0:=by grind
     rw[e,rR gb,Rat.mul_zero,Rat.zero_add];exact gb
    ·rw[ag (λh=>gO h.1),Rat.add_zero];unfold Day.cap;rw[ag gO];exact Cr hw (Zw (by have:=hle c.aE bT;grind))
   ·rw[ag ep,ag ep,ag (λh=>ep h.2)];grind
 have aC:d.gj C (d.eZ (d.q d.hq d.cm))=d.gj C d.cm:=Day.EM λi M _=>(yZ i M).symm;have aD:(d.gj C λi=>d.bt i (d.hq i)+(d.cm i-d.bt i (d.hq i)))=d.gj C d.cm:=Day.EM λi _ _=>by grind
 rw[aC,aD] at k;grind
end Go.Mini
namespace Go.Mini
open Go
def q7 (f:Nat->Int):Nat->Int
 |0=>0
 |k+1=>if q7 f k=0 then f k else q7 f k
theorem anS {f:Nat->Int}{k:Nat}(h:q7 f k=0)(O:f k≠0):∀{n:Nat},k<n->q7 f n=f k
 |0,h=>by omega
 |n+1,aL=>by
  by_cases e:k=n
  ·subst e;rw[q7,ad h]
  ·have:=anS h O (n:=n) (by omega);rw[q7,this,ag O]
theorem aE3 {f:Nat->Int}{n:Nat}(h:q7 f n=0):∀i,i<n->f i=0:=by
 induction n with
 |zero=>intro i M;omega
 |succ n az =>
  rw[q7] at h
  split at h
  ·rename_i ao;intro i M
   by_cases e:i=n
   ·subst e;exact h
   ·exact az ao i (by omega)
  ·rename_i ao;exact absurd h ao
theorem aE4 {f:Nat->Int}{n:Nat}(h:∀i,i<n->f i=0):q7 f n=0:=by
 induction n with
 |zero=>rfl
 |succ n az=>rw[q7,ad (az λi M=>h i (by omega))];exact h n (by omega)
def Jw (E:List Int)(cs:List aq)(aT ps:List Rat):Int :=
 if xS E cs (aT.map au) (ps.map au)=true then
  (if q7 (q6 E cs aT ps) (D E)=0 then (if (iG cs ps (iR cs ps (D E)) (D E)).length=0 then 0 else 24) else q7 (q6 E cs aT ps) (D E))
 else 1
structure S9 (E:List Int) (cs:List aq) (aT ps:List Rat) (aK:List (List Int)):Prop where
 n:(D E)<=1000000
 c:(D cs)<=1000000
 h:gv (aT.map au)
 p:gv (ps.map au)
 sum:xS E cs (aT.map au) (ps.map au)=true->∀i,i<(D E)->NI E cs aT ps i
 Mu:xS E cs (aT.map au) (ps.map au)=true->(∀i,i<(D E)->q6 E cs aT ps i=0)->NJ E cs ps aK
abbrev acX:(List Int)×(List aq)×(List Rat)×(List Rat)×(List (List Int))->List Data:=λ(E,cs,aT,ps,aK)=>[.Y (E.map ae),.Y (cs.map b4),.agg [.Y ((aT.map au).map aH),.Y ((ps.map au).map aH),.Y (aK.map r2)]]
def Ta:=ck acX λ(E,cs,aT,ps,aK)=>cR (S9 E cs aT ps aK) (.same (.int .i64 (Jw E cs aT ps)))
theorem aE5:∀a b,acX a=acX b->a=b:=by
  rintro⟨uK,uL,qG,IC,CI⟩ ⟨uM,n1,BP,ID,CJ⟩ h;simp only[ba,Data.agg.injEq,Data.Y.injEq,and_true] at h;obtain⟨F,I,af,aO,bm⟩:=h;rw[map_inj fp _ _ F,map_inj rZ _ _ I,map_inj (λ_ _ aU=>sR aU) _ _ (map_inj m7 _ _ af),map_inj (λ_ _ aU=>sR aU) _ _ (map_inj m7 _ _ aO),map_inj akL _ _ bm]
@[go_sem] theorem aE6 (E:List Int)(cs:List aq)(aT:List Rat)(ps:List Rat)(aK:List (List Int))(H:S9 E cs aT ps aK):Ta [.Y (E.map ae),.Y (cs.map b4),.agg [.Y ((aT.map au).map aH),.Y ((ps.map au).map aH),.Y (aK.map r2)]]=some (.same (.int .i64 (Jw E cs aT ps))):=(cx aE5 (E,cs,aT,ps,aK)).trans (cW H _)
theorem aE7 (T:bd)(u1:T U3=aW acO)(u2:T U4=aW acQ)(u3:T U5=aW acU)(u4:T U6=aW acC)(E:List Int)(cs:List aq)(aT:List Rat)(ps:List Rat)(aK:List (List Int))(H:S9 E cs aT ps aK):WP T XA (.same (.int .i64 (Jw E cs aT ps))) [.J (.Y (E.map ae)),.J (.Y (cs.map b4)),.J (.agg [.Y ((aT.map au).map aH),.Y ((ps.map au).map aH),.Y (aK.map r2)])]:=by
 refine cy ?_;simp only[XA];have ab:=aEz E cs (aT.map au) (ps.map au) aK ⟨H.n,H.c,H.h,H.p⟩;have pd:=H.sum;have acY:=H.Mu;have aMW:=H.n;clear H;unfold Jw;rcases gE:xS E cs (aT.map au) (ps.map au)
 ·rw[gE] at ab;rw[ag (by decide)];simp only[eU] at ab;generalize aT.map au=HQ at *;generalize ps.map au=AV at *;simp only[go_sem,go_sem_proc,u1,u2,u3,u4,ab,dt];repeat' (first|refine aw ?_ ?_|fail)<;>intro h<;>simp only[h,go_sem,go_sem_proc,u1,u2,u3,u4,ab,dt]
 rw[gE] at ab;rw[ad rfl];have X:=λi M=>aEG E cs aT ps aK i (pd gE i M);have aI:=λh=>aES E cs (aT.map au) ps aK (acY gE h);have jT:=λh=>aEe E cs (aT.map au) ps aK (acY gE h).Fy;clear pd acY;have dv:=λk F I af=>anS (f:=q6 E cs aT ps) (k:=k) F I (n:=D E) af;have ke:=aE3 (f:=q6 E cs aT ps) (n:=D E);have M8:∀k,q7 (q6 E cs aT ps) (k+1)=if q7 (q6 E cs aT ps) k=0 then q6 E cs aT ps k else q7 (q6 E cs aT ps) k:=λk=>rfl;generalize (iG cs ps (iR cs ps (D E)) (D E)).length=aE8 at *;generalize q6 E cs aT ps=Tb at *;generalize aT.map au=HQ at *;generalize ps.map au=AV at *;simp only[eU] at ab X aI jT;simp only[go_sem,go_sem_proc,u1,u2,u3,u4,ab,cK,al];refine dn [7,18] [286007] (λ(k:Nat) tm m=>k<=D E/\tm 19=.J (.int .i64 k)/\q7 Tb k=0) (λk=>D E-k) 0 (by refine⟨by omega,rfl,rfl⟩) ?_;intro vs ms aV aS;simp only[go_sem,go_sem_proc,u1,u2,u3,u4,al] at aV aS;subst aV aS;rintro k tm m O hm ⟨qv,uV,aX⟩;simp only[go_sem,go_sem_proc,u1,u2,u3,u4,ba] at O hm;obtain⟨bR,nG⟩:=O;rcases dA (k<D E) with ay|cj
 ·have d1:decide ((k:Int)<(D E:Int))=true:=di;have bX:=ff (i:=k) (by omega);have X:=X k ay;have anT:=M8 k;rw[ad aX] at anT;rcases q:(Tb k==0)
  ·have bG:Tb k≠0:=ne_of_beq_false q;have F:=dv k aX bG ay;rw[F,ag bG];simp only[go_sem,go_sem_proc,u1,u2,u3,u4,bR,nG,uV,hm,X,d1,q,bne,dt];repeat' (first|refine aw ?_ ?_|fail)<;>intro h<;>simp only[h,go_sem,go_sem_proc,u1,u2,u3,u4,bR,nG,uV,hm,X,d1,q,bne,dt]
  ·have he:Tb k=0:=eq_of_beq q;simp only[go_sem,go_sem_proc,u1,u2,u3,u4,bR,nG,uV,hm,X,d1,bX,q,bne,cK];repeat' (first|refine aw ?_ ?_|fail)<;>intro h<;>simp only[h,go_sem,go_sem_proc,u1,u2,u3,u4,bR,nG,uV,hm,X,d1,bX,q,bne,cK]
   exact⟨k+1,by omega,by omega,rfl,by rw[anT,he]⟩
 ·have d1:decide ((k:Int)<(D E:Int))=false:=c9;obtain rfl:k=D E:=by omega
  have aI:=aI (ke aX);have jT:=jT (ke aX);rw[ad aX];rcases q:decide ((aE8:Int)>0)
  ·rw[ad (by have:=of_decide_eq_false q;omega)];simp only[go_sem,go_sem_proc,u1,u2,u3,u4,bR,nG,uV,hm,aI,jT,d1,q,cK];repeat' (first|refine aw ?_ ?_|fail)<;>intro h<;>simp only[h,go_sem,go_sem_proc,u1,u2,u3,u4,bR,nG,uV,hm,aI,jT,d1,q,cK]
  ·rw[ag (by have:=of_decide_eq_true q;omega)];simp only[go_sem,go_sem_proc,u1,u2,u3,u4,bR,nG,uV,hm,aI,jT,d1,q,cK];repeat' (first|refine aw ?_ ?_|fail)<;>intro h<;>simp only[h,go_sem,go_sem_proc,u1,u2,u3,u4,bR,nG,uV,hm,aI,jT,d1,q,cK]
theorem aE9 {l:List aq}{q:Nat->Rat}{k i:Nat}{c:aq}(M:i<k)(H:l[i]?=some c)(aT:q i<(c.2.2.2:Rat)):ie l q k<=c.2.2.1:=by
 induction k with
 |zero=>omega
 |succ k az =>
  have e:ie l q (k+1)=match l[k]? with|some c=>if q k<(c.2.2.2:Rat) then min (ie l q k) c.2.2.1 else ie l q k|none=>ie l q k:=rfl
  rw[e]
  by_cases he:i=k
  ·subst he;rw[H];dsimp only;rw[ad aT];exact Int.min_le_right ..
  ·have az:=az (by omega)
   split
   ·split
    ·exact Int.le_trans (Int.min_le_left ..) az
    ·exact az
   ·exact az
theorem aFa {l:List aq}{q:Nat->Rat}{k:Nat}(h:ie l q k<10):∃i,i<k/\∃c,l[i]?=some c/\q i<(c.2.2.2:Rat)/\ie l q k=c.2.2.1:=by
 induction k with
 |zero=>exact absurd h (show ¬ (10:Int)<10 by decide)
 |succ k az =>
  have e:ie l q (k+1)=match l[k]? with|some c=>if q k<(c.2.2.2:Rat) then min (ie l q k) c.2.2.1 else ie l q k|none=>ie l q k:=rfl
  rw[e] at h ⊢
  cases O:l[k]? with
  |none =>
   rw[O] at h;obtain⟨i,F,I⟩:=az h;exact⟨i,by omega,I⟩
  |some c =>
   rw[O] at h;dsimp only at h ⊢
   by_cases aT:q k<(c.2.2.2:Rat)
   ·rw[ad aT] at h ⊢
    by_cases hm:ie l q k<c.2.2.1
    ·have aD:min (ie l q k) c.2.2.1=ie l q k:=Int.min_eq_left (by omega);rw[aD] at h ⊢;obtain⟨i,F,I⟩:=az h;exact⟨i,by omega,I⟩
    ·exact⟨k,by omega,c,O,aT,Int.min_eq_right (by omega)⟩
   ·rw[ag aT] at h ⊢;obtain⟨i,F,I⟩:=az h;exact⟨i,by omega,I⟩
theorem aFb {E:List Int}{cs:List aq}(X:eI E cs){i:Nat}(M:i<D E)(h:(ax E cs).cm i<(ax E cs).bt i 10):r3 cs (hE E cs) i=((ax E cs).hq i:Int):=by
 have jV:=(S8 X M).2 h;unfold r3;rw[ad jV];have aa:=X.ok;obtain⟨g,hinv,-,hle⟩:=It aa;have aI:=((xB aa).2 i M).2 h;have hh:=Rh aa i M
 have ue:(ax E cs).cm i<(ax E cs).bt i ((ax E cs).hq i+1):=by
  have F:=hinv.M i M aI;have I:=hle i M;grind
 unfold qa at jV ⊢;rw[acW] at jV ⊢
 have hk:∀(k:Nat) (c:aq),(b1 cs i)[k]?=some c->(uW E cs i).getD k 0=(ax E cs).fA (ax E cs).cm (cC c):=λk c H=>by
  have hm:=ec H;rw[<-SD X hm];unfold uW;rw[dY,bl,H];rfl
 obtain⟨k,O,c,H,aT,he⟩:=aFa jV;have hm:=mj.1 (ec H);have lx:=(gd.1 X.right).2.2.2 c hm.1;have bT:(cC c).aE=i:=by show c.1.toNat=i;omega
 rw[hk k c H] at aT
 have F:¬ (cC c).br<(ax E cs).hq i:=λay=>by
  have mS:(ax E cs).fA (ax E cs).cm (cC c)=(cC c).am:=by
   unfold Day.fA;rw[ad];rw[bT];have:=aa.s7 i (show (cC c).br+1<=(ax E cs).hq i from ay);grind
  rw[mS] at aT;exact absurd aT anU
 have cS:0<(ax E cs).S i ((ax E cs).hq i):=by
  rw[(ax E cs).s6] at ue;grind
 obtain⟨b,ah,dh,eK,kd⟩:=(aj1 aa i _).1 cS;obtain⟨c',lX,rfl⟩:=ek.1 ah;have aMX:=(gd.1 X.right).2.2.2 c' lX;have aMY:c'.1.toNat=i:=dh;have n2:c'∈b1 cs i:=mj.2 ⟨lX,by omega⟩
 obtain⟨k',L8,J8⟩:=List.getElem_of_mem n2;have anV:(b1 cs i)[k']?=some c':=by rw[bx L8,J8]
 have ay:(uW E cs i).getD k' 0<(c'.2.2.2:Rat):=by
  rw[hk k' c' anV];show (ax E cs).fA (ax E cs).cm (cC c')<(cC c').am;unfold Day.fA;rw[dh,eK,ag (by grind)];have hw:=aa.Mo ah kd
  have aMZ:(ax E cs).w (cC c')*(ax E cs).S i ((ax E cs).hq i)=(cC c').am:=by
   have h:=Day.Cq (d:=ax E cs) (c:=cC c') (by rw[dh,eK];exact cS);rw[dh,eK] at h;exact h
  have bK:=Rat.mul_lt_mul_of_pos_left (show (ax E cs).cm i-(ax E cs).bt i ((ax E cs).hq i)<(ax E cs).S i ((ax E cs).hq i) by rw[(ax E cs).s6] at ue;grind) hw;rw[rR (by grind)];grind
 have I:=aE9 (q:=λk=>(uW E cs i).getD k 0) L8 anV ay;have aM0:c'.2.2.1.toNat=(ax E cs).hq i:=eK;have aC:(cC c).br=c.2.2.1.toNat:=rfl;omega
theorem anW {cs:List aq}{ps:List Rat}{set L:List Int}{x:Int}:x∈stay cs ps set L↔x∈L/\qZ cs ps set x=false:=by
 unfold stay;rw[s9,pU]
theorem anX {cs:List aq}{ps:List Rat}{s:List Int}{x:Int}:∀k,x∈iG cs ps s k->x∈s
 |0,h=>h
 |k+1,h=>anX k (anW.1 h).1
theorem anY (cs:List aq)(ps:List Rat)(s:List Int):∀k,stay cs ps (iG cs ps s k) (iG cs ps s k)=iG cs ps s k\/(iG cs ps s k).length+k<=D s
 |0 => .inr (bZ _)
 |k+1=>by
  have e:iG cs ps s (k+1)=stay cs ps (iG cs ps s k) (iG cs ps s k):=rfl;rcases dA (stay cs ps (iG cs ps s k) (iG cs ps s k)=iG cs ps s k) with h|h
  ·left;rw[e,h];exact h
  ·rcases anY cs ps s k with F|F
   ·exact absurd F h
   ·right
    have I:=anA cs ps (iG cs ps s k) (iG cs ps s k);have af:(stay cs ps (iG cs ps s k) (iG cs ps s k)).length≠(iG cs ps s k).length:=λaf=>h (List.Sublist.eq_of_length List.filter_sublist af);rw[e];omega
section
variable {E:List Int} {cs:List aq} (X:eI E cs)
include X
theorem aFc:(iG cs (hE E cs) (iR cs (hE E cs) (D E)) (D E)).length=0:=by
 have gm:∀x,x∈iR cs (hE E cs) (D E)->∃i:Nat,x=(i:Int)/\i<D E/\(ax E cs).cm i<(ax E cs).bt i 10:=λx Q=>by
  unfold iR NC at Q;obtain⟨i,M,rfl⟩:=ek.1 Q;obtain⟨cd,c0⟩:=s9.1 M;have cd:=ha.1 cd;exact⟨i,rfl,cd,(S8 X cd).1 (of_decide_eq_true c0)⟩
 have Dl:=SX cs (hE E cs) (D E);have j0:=λx=>anX (cs:=cs) (ps:=hE E cs) (s:=iR cs (hE E cs) (D E)) (x:=x) (D E);rcases anY cs (hE E cs) (iR cs (hE E cs) (D E)) (D E) with h|h
 ·generalize iG cs (hE E cs) (iR cs (hE E cs) (D E)) (D E)=C at *;rcases C with _|⟨y,C⟩
  ·rfl
  refine absurd ?_ (aE2 X.ok (C:=λi=>(i:Int)∈y::C) ?_ ?_)
  ·intro b ah gO hZ rT;obtain⟨c,H,rfl⟩:=ek.1 ah;have lx:=(gd.1 X.right).2.2.2 c H;have bT:(((cC c).aE:Nat):Int)=c.1:=by show ((c.1.toNat:Nat):Int)=c.1;omega
   rw[bT] at gO;have O:c.1∈stay cs (hE E cs) (y::C) (y::C):=by rw[h];exact gO
   have ar:=(anW.1 O).2;obtain⟨i,aC,aD,b9⟩:=gm c.1 (j0 _ gO);have he:=aFb X aD b9;have M:(cC c).aE=i:=by omega
   rw[M] at hZ;unfold qZ at ar;rw[List.any_eq_false] at ar;have ar:=ar c H;have aFd:(0:Rat)<(c.2.2.2:Rat):=rT;have aFe:0<c.2.2.2:=by exact_mod_cast aFd
   have aM1:c.2.2.1.toNat=(ax E cs).hq i:=hZ;have aX:c.2.2.1=r3 cs (hE E cs) c.1:=by rw[aC,he];omega
   have p9:c.2.1∈y::C:=Decidable.byContradiction λh5=>ar (by
    simp only[beq_self_eq_true,gW,e4,beq_iff_eq,decide_eq_true_eq,pU,decide_eq_false_iff_not];exact⟨aX,aFe,h5⟩)
   obtain⟨j,CP,yh,aBz⟩:=gm c.2.1 (j0 _ p9);exact⟨j,CP,by show (j:Int)∈y::C;rw[<-CP];exact p9⟩
  ·obtain⟨i,aC,aD,b9⟩:=gm y (j0 y (by simp));exact⟨i,by show (i:Int)∈y::C;rw[<-aC];simp⟩
  ·intro i M;obtain⟨j,aC,aD,b9⟩:=gm i (j0 i M);obtain rfl:i=j:=by omega
   exact⟨aD,b9⟩
 ·omega
def zi (E:List Int)(cs:List aq):List Rat:=(dS (D E)).map (ax E cs).cm
omit X in
theorem aFf:(zi E cs).map au=ng E cs:=rfl
omit X in
theorem anZ {i:Nat}(M:i<D E):(zi E cs).getD i 0=(ax E cs).cm i:=y9 (ax E cs).cm 0 M
omit X in
theorem aFg (z:Int)(i:Int)(aQ:aq->Rat)(l:List aq)(a:Option Rat):(l.zip (l.map aQ)).foldl (zh i) a=l.foldl (λa c=>if c.2.1=i then a.bind λs=>if m6 s (aQ c)=true then some (s+aQ c) else none else a) a:=by
 induction l generalizing a with
 |nil=>rfl
 |cons c l az=>rw[eG,List.zip_cons_cons,F9,F9,az];rfl
theorem aFh {i:Nat}(M:i<D E):uZ (E.getD i 0) i (cs.zip (hE E cs))=some ((ax E cs).cm i):=by
 have h:=amB X i M;unfold uZ hE;rw[aFg (E.getD i 0)];exact h
omit X in
theorem aFi {aT ps:List Rat}(ab:hL E cs=true)(dW:(D aT)=D E)(ak:(D ps)=D cs)(jB:∀x∈aT,0<=x/\dj x)(jC:∀x∈ps,0<=x/\dj x):xS E cs (aT.map au) (ps.map au)=true:=by
 obtain⟨F,I,af,aO⟩:=gd.1 ab;unfold hL at ab;simp only[e4] at ab;obtain⟨⟨-,aFj⟩,Jj⟩:=ab
 have wx:∀l:List Rat,(∀x∈l,0<=x/\dj x)->(l.map au).all xR=true:=λl ar=>by
  rw[kG];intro f aI;obtain⟨x,Q,rfl⟩:=ek.1 aI;obtain⟨cd,c0⟩:=ar x Q;unfold xR;rw[Ij c0,gW];have:decide (x<0)=false:=mq (by grind);rw[<-Rt] at this;have ev:=of_decide_eq_false this;exact lq (show x.num.sign>=0 by omega)
 unfold xS;have dZ:E.all fX=true:=aFj;have dh:decide ((D E:Int)>60)=false:=c9;have eK:decide ((D cs:Int)>2000)=false:=c9;rw[al,al,dW,ak,dZ,Jj,wx aT jB,wx ps jC,dh,eK];simp
theorem aFk:xS E cs ((zi E cs).map au) ((hE E cs).map au)=true:=by
 refine aFi X.right (by unfold zi;simp) (by unfold hE;simp) (λx Q=>?_) λx Q=>?_
 ·obtain⟨i,M,rfl⟩:=ek.1 Q;have kn:=ha.1 M;exact⟨Iu X.ok kn,kt (AB X kn) (by omega)⟩
 ·obtain⟨c,H,rfl⟩:=ek.1 Q;rw[<-Ix X.right _ H];exact⟨X.ok.ZB _ (p5 H),kt (aaA X H) (by omega)⟩
theorem aFl {i:Nat}(M:i<D E):NI E cs (zi E cs) (hE E cs) i:=by
 refine⟨S7 X,M,by unfold zi;simp,λx Q=>?_,?_,λx Q he=>?_⟩
 ·obtain⟨j,ai,rfl⟩:=ek.1 Q;exact kt (AB X (ha.1 ai)) (by omega)
 ·have:=X.E i
  constructor<;>omega
 ·rw[he,anZ M];exact⟨X.own i,Iu X.ok M,(AB X M).mono (by omega)⟩
theorem aFm {i:Nat}(M:i<D E):q6 E cs (zi E cs) (hE E cs) i=0:=by
 unfold q6;rw[aFh X M];dsimp only;rw[ad];refine⟨(anZ M).symm,?_⟩;rw[acW];unfold uW;exact lY λc H=>(akB (mj.1 H).2).symm
theorem aFn:S9 E cs (zi E cs) (hE E cs) (C1 E cs):=by
 have aL:=X.jv;have h8:=X.p7
 have I:gv ((hE E cs).map au):=by
  refine⟨by unfold hE;simp;omega,λf aI=>?_⟩
  obtain⟨x,Q,rfl⟩:=ek.1 aI;exact mO ((S7 X).Ay x Q)
 exact⟨by omega,by omega,am8 X,I,λ_ i M=>aFl X M,λ_ _=>aE0 X⟩
theorem aFo:Jw E cs (zi E cs) (hE E cs)=0:=by
 unfold Jw;rw[ad (aFk X),ad (aE4 λi M=>aFm X M),ad (aFc X)]
theorem aFp:Ta [.Y (E.map ae),.Y (cs.map b4),.agg [.Y ((ng E cs).map aH),.Y ((xQ E cs).map aH),.Y ((ax E cs).iQ.map q4)]]=some (.same (.int .i64 0)):=by
 have h:=aE6 E cs (zi E cs) (hE E cs) (C1 E cs) (aFn X);rw[aFf,anQ,aE1,aFo X] at h;exact h
end
theorem aFq {x:Rat}(h:x<0):pos x=0:=uA (by grind)
theorem aFr {x:Rat}(h:¬ x<0):pos x=x:=rR (by grind)
theorem aFs (E:List Int)(cs:List aq)(aG:Nat):((E.map ae).flatten.map R.J)=(bA (D E) (kU E cs aG 0)).map bD:=by
 have e:bA (D E) (kU E cs aG 0)=E:=(Rs rfl λi M=>by
  unfold kU;rw[List.take_zero];show E[i]?=some (E.getD i 0+0);rw[dY,bx M,Int.add_zero];rfl).symm
 rw[e,wz]
 rfl
abbrev acZ:(List Int)×(List aq)×Int->List Data:=λ(E,cs,aG)=>[.Y (E.map ae),.Y (cs.map b4),.int .i64 aG]
def C2:=ck acZ λ(E,cs,aG)=>cR (Ft E cs) (.same (CW E cs aG))
theorem aFt:∀a b,acZ a=acZ b->a=b:=by
  rintro⟨uK,uL,SU⟩ ⟨uM,n1,SV⟩ h;simp only[ba,Data.Y.injEq,Data.int.injEq,and_true,true_and] at h;exact dT (map_inj fp _ _ h.1) (dT (map_inj rZ _ _ h.2.1) h.2.2)
@[go_sem] theorem NK (E:List Int)(cs:List aq)(aG:Int)(H:Ft E cs):C2 [.Y (E.map ae),.Y (cs.map b4),.int .i64 aG]=some (.same (CW E cs aG)):=(cx aFt (E,cs,aG)).trans (cW H _)
theorem aFu (T:bd)(u5:T UW=aW abq)(eN:T sG=aW zT)(u6:T UX=aW acE)(jg:T KS=aW Ny)(hB:T vw=aW B1)(hX:T vx=aW yK)(E:List Int)(cs:List aq)(aG:Int)(H:Ft E cs):WP T MW (.same (CW E cs aG)) [.J (.Y (E.map ae)),.J (.Y (cs.map b4)),.J (.int .i64 aG)]:=by
 refine cy ?_;simp only[MW];obtain⟨iU,nx,oj⟩:=H;have rd:=azO E cs ⟨iU,nx⟩;unfold CW;rcases ab:hL E cs
 ·rw[ag (by simp)];rw[ab] at rd;simp only[go_sem,go_sem_proc,u5,eN,u6,jg,hB,hX,rd,aH,er,cV,dt];repeat' (first|refine aw ?_ ?_|fail)<;>intro h<;>simp only[h,go_sem,go_sem_proc,u5,eN,u6,jg,hB,hX,rd,aH,er,cV,dt]
 rw[ab] at rd;rcases d1:decide (aG<0)
 case true =>
  rw[ag (by have:=of_decide_eq_true d1;omega)];simp only[go_sem,go_sem_proc,u5,eN,u6,jg,hB,hX,rd,d1,aH,er,cV,cK];repeat' (first|refine aw ?_ ?_|fail)<;>intro h<;>simp only[h,go_sem,go_sem_proc,u5,eN,u6,jg,hB,hX,rd,d1,aH,er,cV,cK]
 rcases d2:decide (aG>=(D E:Int))
 case true =>
  rw[ag (by have:=of_decide_eq_true d2;omega)];simp only[go_sem,go_sem_proc,u5,eN,u6,jg,hB,hX,rd,d1,d2,aH,er,cV,al,cK];repeat' (first|refine aw ?_ ?_|fail)<;>intro h<;>simp only[h,go_sem,go_sem_proc,u5,eN,u6,jg,hB,hX,rd,d1,d2,aH,er,cV,al,cK]
 obtain⟨w,rfl⟩:∃w:Nat,aG=(w:Int):=⟨aG.toNat,by have:=of_decide_eq_false d1;omega⟩
 have hw:w<D E:=by have:=of_decide_eq_false d2;omega
 have X:=oj ab;have aL:=X.jv;have h8:=X.p7;rw[ad ⟨rfl,by omega,by omega⟩,jX]
 have cD:=aFs E cs w;have dq:=VY E iU;simp only[go_sem,go_sem_proc,u5,eN,u6,jg,hB,hX,rd,d1,d2,dq,cD,al,cK];refine aEo T E cs X w (some (0,[.J (.int .i64 0),.nil,.J (.int .i64 0),.nil])) 0 _ _ ?_ ?_ ?_ ?_ ?_ ?_ ?_ ?_ ?_ ?_ ?_ ?_
 all_goals first|(intro I3 cO g c0 g5 gN j1 kN rO C3 Jx)|(simp only[eV,dJ,if_false,if_true];done)|(simp only[eV,dJ,if_false,if_true];rfl)|(simp only[a4,dJ,if_false,if_true];done)|(simp only[a4,dJ,if_false,if_true];rfl)|skip
 rw[wz] at C3;have lz:=Js E cs w;have h7:=pM (n:=5) gX C3;have NL:=λ(K:bb->Prop) (st:bb)=>lE (K:=K) (st:=st) gX 8 221034 0 (kB E cs w);have qb:=λ(K:bb->Prop) (st:bb)=>lE (K:=K) (st:=st) AA 10 221048 g (h1 cs w);rw[lz] at h7 NL;have gV:=aEm (kB E cs w) ⟨by omega,by omega⟩
 have xt:=aEl (l:=kB E cs w) (by omega) 1000000000000000;have Dl:(h1 cs w).length<=D cs:=mg _ _;rcases PI:Fz E cs w
 ·have ac0:((kB E cs w).all λx=>decide (x<=1000000000000000))=false:=PI;rw[ac0,dt] at xt;rw[ag (by decide)];generalize kB E cs w=SC at *;simp only[go_sem,go_sem_proc,u5,eN,u6,jg,hB,hX,c0,g5,gN,j1,kN,rO,C3,Jx,h7,gV,xt,Fp,hK,scalar,aH,er,cV];repeat' (first|refine aw ?_ ?_|fail)<;>intro h<;>simp only[h,go_sem,go_sem_proc,u5,eN,u6,jg,hB,hX,c0,g5,gN,j1,kN,rO,C3,Jx,h7,gV,xt,Fp,hK,scalar,aH,er,cV]
 ·have ac0:((kB E cs w).all λx=>decide (x<=1000000000000000))=true:=PI;rw[ac0,cK] at xt;rw[ad rfl];have Il:=anE X PI;have px:=acj (kB E cs w) (h1 cs w) ⟨by omega,by omega,λ_=>Il⟩
  unfold Fu at px;rw[ad Il.right] at px;have hk:(ng (kB E cs w) (h1 cs w))[w]?=some (au ((ax (kB E cs w) (h1 cs w)).cm w)):=uI _ (by omega);rw[S5 X] at hk;have aM2:=acD X (l:=b1 cs w) (λc H=>(mj.1 H).1) (by have:=SB cs w;omega);have V8:dw (nh cs w):=oT (by unfold nh;omega) (by unfold nh;omega);have cT:=acF V8;have iB:dX 54 ((nh cs w:Int):Rat):=xD (by unfold nh;omega);have iZ:=AB Il (i:=w) (by omega);rw[S5 X] at iZ;have c7:=Rk (kt iB (by omega)) (kt iZ (by omega)) (Cx iB (Cy iZ) (by omega));have hle:((nh cs w:Int):Rat)-((ax E cs).saved w).cm w=tn E cs w:=by rw[anF X];rfl
  rw[hle] at c7;have dZ:=acF AD;have xh:(au (tn E cs w)).1.1=(tn E cs w).num.sign:=rfl;have AX:decide ((tn E cs w).num.sign<0)=decide (tn E cs w<0):=Rt;have jB:=@aFq (tn E cs w);have jC:=@aFr (tn E cs w);unfold sd;generalize ng (kB E cs w) (h1 cs w)=HV at *;generalize xQ (kB E cs w) (h1 cs w)=PD at *;generalize (ax (kB E cs w) (h1 cs w)).iQ.map q4=FD at *;generalize kB E cs w=SC at *;generalize tn E cs w=L at *;have aX:au 0=au ((0:Int):Rat):=rfl;have aF:(L<0->au (pos L)=au ((0:Int):Rat))/\(¬ L<0->au (pos L)=au L):=⟨λh=>by rw[jB h,aX],λh=>by rw[jC h]⟩
  generalize au (pos L)=PL at *;generalize au ((0:Int):Rat)=Z at *;generalize au ((nh cs w:Int):Rat)=aZ at *;generalize au (((ax E cs).saved w).cm w)=bL at *;generalize aM3:au L=EL at *;generalize L.num.sign=rJ at *;obtain⟨⟨E2,E3⟩,⟨E4,E5⟩⟩:=aZ;obtain⟨⟨cq,cr⟩,⟨g2,jH⟩⟩:=bL;obtain⟨⟨dW,ak⟩,⟨bJ,b3⟩⟩:=EL;obtain⟨⟨iB,iZ⟩,⟨tg,y6⟩⟩:=Z;dsimp only at xh;subst xh;simp only[aH] at cT c7 dZ;rcases q:decide (L<0)
  ·rw[q] at AX;rw[aF.2 (of_decide_eq_false q)];simp only[go_sem,go_sem_proc,u5,eN,u6,jg,hB,hX,c0,g5,gN,j1,kN,rO,C3,Jx,h7,gV,xt,NL,qb,px,hk,cT,c7,dZ,AX,Fp,hK,scalar,aH,al,bl,bne,beq_self_eq_true,cK];repeat' (first|refine aw ?_ ?_|fail)<;>intro h<;>simp only[h,go_sem,go_sem_proc,u5,eN,u6,jg,hB,hX,c0,g5,gN,j1,kN,rO,C3,Jx,h7,gV,xt,NL,qb,px,hk,cT,c7,dZ,AX,Fp,hK,scalar,aH,al,bl,bne,beq_self_eq_true,cK]
  ·rw[q] at AX;rw[aF.1 (of_decide_eq_true q)];simp only[go_sem,go_sem_proc,u5,eN,u6,jg,hB,hX,c0,g5,gN,j1,kN,rO,C3,Jx,h7,gV,xt,NL,qb,px,hk,cT,c7,dZ,AX,Fp,hK,scalar,aH,al,bl,bne,beq_self_eq_true,cK];repeat' (first|refine aw ?_ ?_|fail)<;>intro h<;>simp only[h,go_sem,go_sem_proc,u5,eN,u6,jg,hB,hX,c0,g5,gN,j1,kN,rO,C3,Jx,h7,gV,xt,NL,qb,px,hk,cT,c7,dZ,AX,Fp,hK,scalar,aH,al,bl,bne,beq_self_eq_true,cK]
theorem NM {n:Int}(h:dw n):Ip [.int .i64 n]=some (.same (.agg (aH (au (n:Rat))))):=axU n h
theorem Tc {x y:Rat}(Q:dj x)(av:dj y):LV [.agg (aH (au x)),.agg (aH (au y))]=some (.same (.bool (decide (x=y)))):=by
 have F:=mO Q;have I:=mO av;have h:=auU (au x).1.1 (au x).1.2 (au x).2.1 (au x).2.2 (au y).1.1 (au y).1.2 (au y).2.1 (au y).2.2 ⟨F.1,F.2,I.1,I.2⟩
 have e:HA (((au x).1.1,(au x).1.2),((au x).2.1,(au x).2.2)) (((au y).1.1,(au y).1.2),((au y).2.1,(au y).2.2))=decide (x=y):=by
  show decide (au x=au y)=_
  by_cases jk:x=y
  ·rw[lq jk,jk];exact lq rfl
  ·rw[mq jk];exact mq λh=>jk (sR h)
 rw[e] at h;exact h
def jx:List aq:=[(0,1,0,30),(1,-1,0,25)]
abbrev Td:Unit->List Data:=λ(_:Unit)=>[]
def ac1:=ck Td λ(_:Unit)=>some (.same (.Y (jx.map b4)))
theorem an0:∀a b,Td a=Td b->a=b:=by
  intro _ _ _;rfl
@[go_sem] theorem aFv :ac1 []=some (.same (.Y (jx.map b4))):=cx an0 ()
theorem aFw (T:bd)  :WP T aap (.same (.Y (jx.map b4))) []:=by
 refine cy ?_;simp only[aap];refine a0 ?_;repeat' (intro h<;>simp only[h,go_sem,go_sem_proc,jx,b4,eG,cV]<;>try refine aw ?_ ?_)
theorem Te {a:Int}(ao:0<=a)(h:a<=100):eI [a,0] jx:=by
 refine⟨gd.2 ⟨by simp,by decide,λx Q=>?_,λc H=>?_⟩,by simp,by decide,by decide⟩
 ·simp at Q;rcases Q with rfl|rfl<;>omega
 ·simp[jx] at H;rcases H with rfl|rfl<;>simp
theorem ac2 {E:List Int}{cs:List aq}(X:eI E cs){w:Nat}(hw:w<D E)(hm:Fz E cs w=true){g:Rat}{q:Int}(a7:(ax (kB E cs w) (h1 cs w)).cm w=g)(aT:pos (((nh cs w:Int):Rat)-g)=(q:Rat)):CW E cs w=.cI [.agg (aH (au (q:Rat))),.int .i64 0]:=by
 unfold CW;rw[ad ⟨X.right,by omega,by omega⟩,jX,ad hm]
 unfold sd tn;rw[<-S5 X,a7,<-anF X,aT]
theorem aFx:C2 [.Y (([10,0]:List Int).map ae),.Y (jx.map b4),.int .i64 0]=some (.same (.cI [.agg (aH (au ((20:Int):Rat))),.int .i64 0])):=by
 have X:=Te (a:=10) (by decide) (by decide);have h:=NK [10,0] jx ((0:Nat):Int) ⟨by decide,by decide,λ_=>X⟩
 have e:ax (kB [10,0] jx 0) (h1 jx 0)=dk:=by
  unfold dk;rw[show kB [10,0] jx 0=[10,30] by decide,show h1 jx 0=[(1,-1,0,25)] by decide]
 rw[ac2 (w:=0) X (by decide) (by decide) (g:=10) (q:=20) (by rw[e];exact aC6) (by rw[show nh jx 0=30 by decide];decide +kernel)] at h;exact h
theorem aFy:C2 [.Y (([10,0]:List Int).map ae),.Y (jx.map b4),.int .i64 1]=some (.same (.cI [.agg (aH (au ((15:Int):Rat))),.int .i64 0])):=by
 have X:=Te (a:=10) (by decide) (by decide);have h:=NK [10,0] jx ((1:Nat):Int) ⟨by decide,by decide,λ_=>X⟩
 have e:ax (kB [10,0] jx 1) (h1 jx 1)=bE:=by
  unfold bE;rw[show kB [10,0] jx 1=[10,0] by decide,show h1 jx 1=[(0,1,0,30)] by decide]
 rw[ac2 (w:=1) X (by decide) (by decide) (g:=10) (q:=15) (by rw[e];exact aC7) (by rw[show nh jx 1=25 by decide];decide +kernel)] at h;exact h
theorem aFz:C2 [.Y (([30,0]:List Int).map ae),.Y (jx.map b4),.int .i64 1]=some (.same (.cI [.agg (aH (au ((0:Int):Rat))),.int .i64 0])):=by
 have X:=Te (a:=30) (by decide) (by decide);have h:=NK [30,0] jx ((1:Nat):Int) ⟨by decide,by decide,λ_=>X⟩
 have e:ax (kB [30,0] jx 1) (h1 jx 1)=bR:=by
  unfold bR;rw[show kB [30,0] jx 1=[30,0] by decide,show h1 jx 1=[(0,1,0,30)] by decide]
 rw[ac2 (w:=1) X (by decide) (by decide) (g:=30) (q:=0) (by rw[e];exact aC8) (by rw[show nh jx 1=25 by decide];decide +kernel)] at h;exact h
theorem aFA:C2 [.Y (([10,0]:List Int).map ae),.Y (jx.map b4),.int .i64 2]=some (.same (.cI [.agg (aH er),.int .i64 1])):=by
 have X:=Te (a:=10) (by decide) (by decide);have h:=NK [10,0] jx 2 ⟨by decide,by decide,λ_=>X⟩
 have e:CW [10,0] jx 2=.cI [.agg (aH er),.int .i64 1]:=ag (by decide);rw[e] at h;exact h
def ac3:=ck Td λ(_:Unit)=>some (.same (.bool true))
@[go_sem] theorem aFB :ac3 []=some (.same (.bool true)):=cx an0 ()
theorem aFC (T:bd)(aFD:T GD=aW ac1)(oy:T Bz=aW C2)(kC:T zN=aW Ip)(AY:T DG=aW LV):WP T aam (.same (.bool true)) []:=by
 refine cy ?_;simp only[aam];have fE:=aFv;have cd:=aFx;have c0:=aFy;have ev:=aFz;have jI:=aFA;have i20:dw 20:=oT (by omega) (by omega);have i15:dw 15:=oT (by omega) (by omega);have hF:=NM i20;have ir:=NM i15;have r9:=NM AD;have s1:=Tc (nM i20) (nM i20);have s2:=Tc (nM i15) (nM i15);have cM:=Tc (nM AD) (nM AD);rw[lq rfl] at s1 s2 cM;generalize au ((20:Int):Rat)=A at *;generalize au ((15:Int):Rat)=B at *;generalize au ((0:Int):Rat)=Z at *;generalize jx=tw at *;obtain⟨⟨cT,c7⟩,⟨dZ,fm⟩⟩:=A;obtain⟨⟨dh,eK⟩,⟨kd,mh⟩⟩:=B;obtain⟨⟨iB,iZ⟩,⟨tg,y6⟩⟩:=Z;simp only[eG,cV,ae,aH,er] at cd c0 ev jI hF ir r9 s1 s2 cM;refine a0 ?_;repeat' (intro h<;>simp only[h,go_sem,go_sem_proc,aFD,oy,kC,AY,fE,cd,c0,ev,jI,hF,ir,r9,s1,s2,cM,beq_self_eq_true]<;>try refine aw ?_ ?_)
def ij (E:List Int)(aG:Nat)(n:Int):List Int:=E.set aG (IntKind.i64.wrap (E.getD aG 0+n))
abbrev ac4:(List Int)×Nat×Int->List Data:=λ(E,aG,n)=>[.Y (E.map ae),.int .i64 (aG:Int),.int .i64 n]
def ac5:=ck ac4 λ(E,aG,n)=>cR (aG<D E/\D E<=1000000) (.same (.Y ((ij E aG n).map ae)))
theorem aFE:∀a b,ac4 a=ac4 b->a=b:=by
  rintro⟨uK,SU,hF⟩ ⟨uM,SV,ir⟩ h;simp only[ba,Data.Y.injEq,Data.int.injEq,and_true,true_and] at h;exact dT (map_inj fp _ _ h.1) (dT (Int.ofNat.inj h.2.1) h.2.2)
@[go_sem] theorem aFF (E:List Int)(aG:Nat)(n:Int)(H:aG<D E/\D E<=1000000):ac5 [.Y (E.map ae),.int .i64 (aG:Int),.int .i64 n]=some (.same (.Y ((ij E aG n).map ae))):=(cx aFE (E,aG,n)).trans (cW H _)
theorem aFG (T:bd)  (E:List Int) (aG:Nat) (n:Int) (H:aG<D E/\D E<=1000000):WP T aan (.same (.Y ((ij E aG n).map ae))) [.J (.Y (E.map ae)),.J (.int .i64 (aG:Int)),.J (.int .i64 n)]:=by
 refine cy ?_;simp only[aan];obtain⟨hw,ar⟩:=H
 have dC:mx 222008 0 1 0 8 (D E) (bc ae E) (some (0,[]))=some (.ref 222008 1 1 0 (D E),some (222008,1,bc ae E)):=by
  have:=Dx gX tR 222008 0 8 [] E (by simp;omega) (by simp;omega)
  simpa [bc] using this
 have t1:List.take 1 (List.drop aG (bc ae E))=[.J (.int .i64 (E.getD aG 0))]:=by
  rw[<-wz];exact wm (f:=bD) (by rw[dY,bx hw];rfl)
 have t2:(bc ae E).length=D E:=by rw[<-wz,al]
 have t3:List.take aG (bc ae E)++[R.J (.int .i64 (IntKind.i64.wrap (E.getD aG 0+n)))]++List.drop (aG+1) (bc ae E)=bc ae (ij E aG n):=by
  unfold ij;rw[<-wz,<-wz,List.map_set,List.set_eq_take_append_cons_drop,ad (by rw[al];exact hw)];simp[bD]
 have mM:(ij E aG n).length=D E:=by unfold ij;rw[hP]
 have ke:=λ(K:bb->Prop) (st:bb)=>lE (K:=K) (st:=st) gX 7 222008 1 (ij E aG n);rw[mM] at ke;have dW:aG+1<=D E:=by omega
 have eR:(E.map ae).flatten.map R.J=bc ae E:=rfl;refine a0 ?_;repeat' (intro h<;>simp only[h,go_sem,go_sem_proc,K8,dC,eR,t1,t2,t3,hw,dW,ke,al,Nat.mul_one]<;>try refine aw ?_ ?_)








theorem aFH {α:Type}{p:α->Bool}{l:List α}{i:Nat}{x:α}(Q:l[i]?=some x)(h:p x=false):l.all p=false:=by
 rw[List.all_eq_false];exact⟨x,ec Q,by rw[h];decide⟩

section
variable {E:List Int} {cs:List aq} (X:eI E cs)
include X
end
def Jy (cs:List aq)(ps:List Rat)(aG:Int):Bool:=(cs.zip ps).all λx => !(x.1.1==aG)||decide (x.2=(x.1.2.2.2:Rat))
abbrev ac6:(List aq)×(List bo)×(List Rat)×(List (List Data))×Int->List Data:=λ(cs,aA,ps,aK,aG)=>[.Y (cs.map b4),.agg [.Y (aA.map aH),.Y ((ps.map au).map aH),.Y aK],.int .i64 aG]
def ac7:=ck ac6 λ(cs,aA,ps,aK,aG)=>cR (D ps=D cs/\D cs<=2000/\(∀x∈ps,dj x)/\∀c∈cs,dw c.2.2.2) (.same (.bool (Jy cs ps aG)))
theorem aFI:∀a b,ac6 a=ac6 b->a=b:=by
  rintro⟨uL,o2,IC,CI,SU⟩ ⟨n1,nX,ID,CJ,SV⟩ h;simp only[ba,Data.Y.injEq,Data.agg.injEq,Data.int.injEq,and_true,true_and] at h;obtain⟨F,⟨I,af,aO⟩,bm⟩:=h;rw[map_inj rZ _ _ F,map_inj m7 _ _ I,map_inj (λ_ _ aU=>sR aU) _ _ (map_inj m7 _ _ af),aO,bm]
@[go_sem] theorem aFJ (cs:List aq)(aA:List bo)(ps:List Rat)(aK:List (List Data))(aG:Int)(H:(D ps)=D cs/\D cs<=2000/\(∀x∈ps,dj x)/\∀c∈cs,dw c.2.2.2):ac7 [.Y (cs.map b4),.agg [.Y (aA.map aH),.Y ((ps.map au).map aH),.Y aK],.int .i64 aG]=some (.same (.bool (Jy cs ps aG))):=(cx aFI (cs,aA,ps,aK,aG)).trans (cW H _)
theorem aFK (T:bd)(kC:T zN=aW Ip)(AY:T DG=aW LV)(cs:List aq)(aA:List bo)(ps:List Rat)(aK:List (List Data))(aG:Int)(H:(D ps)=D cs/\D cs<=2000/\(∀x∈ps,dj x)/\∀c∈cs,dw c.2.2.2):WP T aaq (.same (.bool (Jy cs ps aG))) [.J (.Y (cs.map b4)),.J (.agg [.Y (aA.map aH),.Y ((ps.map au).map aH),.Y aK]),.J (.int .i64 aG)]:=by
 refine cy ?_;simp only[aaq];obtain⟨ar,anJ,kf,rT⟩:=H;have nY:(ps.map au).length=D cs:=by rw[al];exact ar
 have acS:∀k:Nat,(ps.map au)[k]?=(ps[k]?).map au:=λk=>bl;unfold Jy;generalize aEM:ps.map au=AV at *;simp only[go_sem,go_sem_proc,kC,AY,al];refine dn [0,2,4] [267004] (λ(i:Nat) tm m=>i<=D cs/\tm 7=.J (.int .i64 i)/\((cs.zip ps).take i).all (λx => !(x.1.1==aG)||decide (x.2=(x.1.2.2.2:Rat)))=true) (λi=>D cs-i) 0 (by refine⟨by omega,rfl,rfl⟩) ?_;intro vs ms aV aS;simp only[go_sem,go_sem_proc,kC,AY,al] at aV aS;subst aV aS;rintro i tm m O hm ⟨M,bR,aP⟩;simp only[go_sem,go_sem_proc,kC,AY,ba] at O hm;obtain⟨bI,aD,dg⟩:=O;have hle:(((D AV:Nat):Int)==((D cs:Nat):Int))=true:=by rw[nY];exact beq_self_eq_true _
 rcases dA (i<D cs) with ay|cj
 ·have d1:decide ((i:Int)<(D cs:Int))=true:=di;have d2:decide ((i:Int)<(D AV:Int))=true:=di;have bX:=ff (i:=i) (by omega);obtain⟨⟨aJ,c2,c3,c4⟩,Q⟩:∃c,cs[i]?=some c:=⟨_,bx ay⟩;obtain⟨p,aF⟩:∃p,ps[i]?=some p:=⟨_,bx (by omega)⟩;have aX:(cs.zip ps)[i]?=some ((aJ,c2,c3,c4),p):=S6.2 ⟨Q,aF⟩;have pY:AV[i]?=some (au p):=by rw[acS,aF];rfl
  have qD:=rT _ (ec Q);have aL:=NM qD;have oj:=Tc (kf p (ec aF)) (nM qD);dsimp only at aL oj;have hU:i<D AV:=by omega
  generalize au p=P at *;generalize au (c4:Rat)=A at *;obtain⟨⟨jB,jC⟩,⟨s4,v7⟩⟩:=P;obtain⟨⟨cT,c7⟩,⟨dZ,fm⟩⟩:=A;simp only[aH] at aL oj;rcases fl:(aJ==aG)
  ·refine a0 ?_;repeat' (intro h<;>simp only[h,go_sem,go_sem_proc,kC,AY,bI,aD,dg,bR,hm,Q,d1,d2,bX,fl,b4,al,bl]<;>try refine aw ?_ ?_)
   exact⟨i+1,by omega,by omega,rfl,by rw[HB aX,aP,fl];rfl⟩
  rcases e6:decide (p=(c4:Rat))
  ·rw[e6] at oj;rw[aFH aX (by dsimp only;rw[fl,e6];rfl)];refine a0 ?_;repeat' (intro h<;>simp only[h,go_sem,go_sem_proc,kC,AY,bI,aD,dg,bR,hm,Q,pY,hU,aL,oj,d1,d2,fl,b4,aH,al,bl,dt]<;>try refine aw ?_ ?_)
  ·rw[e6] at oj;refine a0 ?_;repeat' (intro h<;>simp only[h,go_sem,go_sem_proc,kC,AY,bI,aD,dg,bR,hm,Q,pY,hU,aL,oj,d1,d2,bX,fl,b4,aH,al,bl,cK]<;>try refine aw ?_ ?_)
   exact⟨i+1,by omega,by omega,rfl,by rw[HB aX,aP,fl,e6];rfl⟩
 have d1:decide ((i:Int)<(D cs:Int))=false:=c9;rw[dy (by rw[anK];omega)] at aP;rw[aP];refine a0 ?_;repeat' (intro h<;>simp only[h,go_sem,go_sem_proc,kC,AY,bI,aD,dg,bR,hm,d1,hle,al]<;>try refine aw ?_ ?_)
section
variable {E:List Int} {cs:List aq}
theorem aFL (X:eI E cs){aG:Nat}(hw:aG<D E):Jy cs (hE E cs) aG=decide ((ax E cs).bt aG 10<=(ax E cs).cm aG):=by
 have Gg:=aj0 X.ok (i:=aG) (x:=(ax E cs).cm) (Iu X.ok hw);rw[Bool.eq_iff_iff,decide_eq_true_iff];unfold Jy;rw[kG]
 constructor
 ·intro h;apply Classical.byContradiction;intro I;obtain⟨b,ah,bT,ay⟩:=Gg.2 (by grind);obtain⟨c,H,rfl⟩:=ek.1 ah;have ab:=(gd.1 X.right).2.2.2 c H;obtain⟨k,O⟩:=qz.1 H;have aF:(hE E cs)[k]?=some (fB cs ((ax E cs).cm c.1.toNat) c):=by unfold hE;rw[bl,O];rfl
  have af:=h (c,fB cs ((ax E cs).cm c.1.toNat) c) (ec (S6.2 ⟨O,aF⟩));have wv:c.1.toNat=aG:=bT;have aO:(c.1==(aG:Int))=true:=by rw[beq_iff_eq];omega
  dsimp only at af;rw[aO,cK,ru,decide_eq_true_iff] at af;rw[Ix X.right _ H,af] at ay;exact absurd ay anU
 ·intro h x Q;obtain⟨k,O⟩:=qz.1 Q;obtain⟨c,p⟩:=x;obtain⟨F,I⟩:=S6.1 O;dsimp only at F I ⊢;unfold hE at I;rw[bl,F,lB,cn] at I;have H:=ec F;have ab:=(gd.1 X.right).2.2.2 c H;rcases q:(c.1==(aG:Int))
  ·rfl
  ·have aT:c.1=(aG:Int):=eq_of_beq q;rw[cK,ru,decide_eq_true_iff,<-I,<-Ix X.right _ H];have hle:=X.ok.QU (ax E cs).cm (p5 H)
   have o5:¬ (ax E cs).fA (ax E cs).cm (cC c)<(cC c).am:=λay=>by
    have:=Gg.1 ⟨cC c,p5 H,by show c.1.toNat=aG;omega,ay⟩
    grind
   show (ax E cs).fA (ax E cs).cm (cC c)=(cC c).am;grind
theorem aFM (X:eI E cs){aG:Nat}{n:Int}(aL:0<=n)(hw:aG<D E)(a7:ij E aG n=E.set aG (E.getD aG 0+n))(hy:eI (ij E aG n) cs):(ax (ij E aG n) cs).bt aG 10<=(ax (ij E aG n) cs).cm aG↔sd E cs aG<=(n:Rat):=by
 have m8:(ax (ij E aG n) cs).bt=(ax E cs).bt:=ajX rfl;have Tu:(0:Rat)<=(n:Rat):=by exact_mod_cast aL
 have H:∀i,(ax (ij E aG n) cs).E i=(ax E cs).E i+if i=aG then (n:Rat) else 0:=λi=>by
  show (((ij E aG n).getD i 0:Int):Rat)=((E.getD i 0:Int):Rat)+_;rw[a7,dY,List.getElem?_set]
  by_cases h:aG=i
  ·subst h;rw[ad rfl,ad hw,ad rfl,Option.getD_some,Rat.intCast_add]
  ·rw[ag h,ag (λe=>h e.symm),<-dY];grind
 have ar:(ij E aG n).length=D E:=by rw[a7,hP]
 have h:=ayi X.ok aG (e:=ax (ij E aG n) cs) hy.ok ar rfl Tu H hw;rw[m8,h];unfold sd tn
 constructor
 ·intro F;unfold pos
  split<;>grind
 ·intro F;have:=Mr ((ax E cs).bt aG 10-((ax E cs).saved aG).cm aG);grind
end
abbrev ac8:(List Int)×(List aq)×Int×Int->List Data:=λ(E,cs,aG,n)=>[.Y (E.map ae),.Y (cs.map b4),.int .i64 aG,.int .i64 n]
def ac9:=ck ac8 λ(E,cs,aG,n)=>some (.same (.bool true))
theorem aFN:∀a b,ac8 a=ac8 b->a=b:=by
  rintro⟨uK,uL,SU,hF⟩ ⟨uM,n1,SV,ir⟩ h;simp only[ba,Data.Y.injEq,Data.int.injEq,and_true,true_and] at h;exact dT (map_inj fp _ _ h.1) (dT (map_inj rZ _ _ h.2.1) (dT h.2.2.1 h.2.2.2))
@[go_sem] theorem aFO (E:List Int)(cs:List aq)(aG:Int)(n:Int):ac9 [.Y (E.map ae),.Y (cs.map b4),.int .i64 aG,.int .i64 n]=some (.same (.bool true)):=cx aFN (E,cs,aG,n)
theorem aFP (T:bd)(pA:T UO=aW ac3)(pB:T UN=aW aas)(oy:T Bz=aW C2)(pC:T UP=aW ac5)(jg:T KS=aW Ny)(pD:T U2=aW Ta)(pE:T U1=aW ac7)(kC:T zN=aW Ip)(dB:T nu=aW sS)(E:List Int)(cs:List aq)(aG:Int)(n:Int):WP T aar (.same (.bool true)) [.J (.Y (E.map ae)),.J (.Y (cs.map b4)),.J (.int .i64 aG),.J (.int .i64 n)]:=by
 refine cy ?_;simp only[aar];have lQ:=aFB;have cq:=axW E cs;rcases aI:y1 E cs
 ·rw[aI] at cq;simp only[go_sem,go_sem_proc,pA,pB,oy,pC,jg,pD,pE,kC,dB,lQ,cq,dt];repeat' (first|refine aw ?_ ?_|fail)<;>intro h<;>simp only[h,go_sem,go_sem_proc,pA,pB,oy,pC,jg,pD,pE,kC,dB,lQ,cq,dt]
 rw[aI] at cq;rcases d1:decide (aG<0)
 case true =>
        simp only[go_sem,go_sem_proc,pA,pB,oy,pC,jg,pD,pE,kC,dB,lQ,cq,d1,cK];repeat' (first|refine aw ?_ ?_|fail)<;>intro h<;>simp only[h,go_sem,go_sem_proc,pA,pB,oy,pC,jg,pD,pE,kC,dB,lQ,cq,d1,cK]
 rcases d2:decide (aG>=(D E:Int))
 case true =>
        simp only[go_sem,go_sem_proc,pA,pB,oy,pC,jg,pD,pE,kC,dB,lQ,cq,d1,d2,al,cK];repeat' (first|refine aw ?_ ?_|fail)<;>intro h<;>simp only[h,go_sem,go_sem_proc,pA,pB,oy,pC,jg,pD,pE,kC,dB,lQ,cq,d1,d2,al,cK]
 rcases d3:decide (n<0)
 case true =>
        simp only[go_sem,go_sem_proc,pA,pB,oy,pC,jg,pD,pE,kC,dB,lQ,cq,d1,d2,d3,al,cK];repeat' (first|refine aw ?_ ?_|fail)<;>intro h<;>simp only[h,go_sem,go_sem_proc,pA,pB,oy,pC,jg,pD,pE,kC,dB,lQ,cq,d1,d2,d3,al,cK]
 rcases d4:decide (n>1000000000000000)
 case true =>
        simp only[go_sem,go_sem_proc,pA,pB,oy,pC,jg,pD,pE,kC,dB,lQ,cq,d1,d2,d3,d4,al,cK];repeat' (first|refine aw ?_ ?_|fail)<;>intro h<;>simp only[h,go_sem,go_sem_proc,pA,pB,oy,pC,jg,pD,pE,kC,dB,lQ,cq,d1,d2,d3,d4,al,cK]
 have iU:=of_decide_eq_false d3;have oC:=of_decide_eq_false d4;obtain⟨w,rfl⟩:∃w:Nat,aG=(w:Int):=⟨aG.toNat,by have:=of_decide_eq_false d1;omega⟩
 have hw:w<D E:=by have:=of_decide_eq_false d2;omega
 have qf:=NK E cs w (aC1 aI);unfold CW at qf;rcases ab:hL E cs
 ·rw[ag (by rw[ab];simp)] at qf;simp only[aH,er,cV] at qf;simp only[go_sem,go_sem_proc,pA,pB,oy,pC,jg,pD,pE,kC,dB,lQ,cq,d1,d2,d3,d4,qf,show ((1:Int)==0)=false from rfl,al,bne,cK,dt];repeat' (first|refine aw ?_ ?_|fail)<;>intro h<;>simp only[h,go_sem,go_sem_proc,pA,pB,oy,pC,jg,pD,pE,kC,dB,lQ,cq,d1,d2,d3,d4,qf,show ((1:Int)==0)=false from rfl,al,bne,cK,dt]
 rw[ad ⟨ab,by omega,by omega⟩,jX] at qf
 have X:=am7 aI ab;rcases hm:Fz E cs w
 ·rw[ag (by rw[hm];decide)] at qf;simp only[aH,er,cV] at qf;simp only[go_sem,go_sem_proc,pA,pB,oy,pC,jg,pD,pE,kC,dB,lQ,cq,d1,d2,d3,d4,qf,show ((6:Int)==0)=false from rfl,al,bne,cK,dt];repeat' (first|refine aw ?_ ?_|fail)<;>intro h<;>simp only[h,go_sem,go_sem_proc,pA,pB,oy,pC,jg,pD,pE,kC,dB,lQ,cq,d1,d2,d3,d4,qf,show ((6:Int)==0)=false from rfl,al,bne,cK,dt]
 rw[ad hm] at qf;have aM4:=X.jv;have h8:=X.p7;have RK:=X.E w
 have aM5:E.getD w 0<=1000000:=by
  have I:E.getD w 0∈E:=by rw[dY,bx hw];exact List.getElem_mem hw
  exact ((am6 aI ab).1 _ I).2
 have Tf:=aFF E w n ⟨hw,by omega⟩
 have a7:ij E w n=E.set w (E.getD w 0+n):=by unfold ij;rw[eS _]
 have mM:(ij E w n).length=D E:=by rw[a7,hP]
 have hy:hL (ij E w n) cs=true->eI (ij E w n) cs:=λh=>⟨h,by omega,h8,X.am⟩
 have px:=acj (ij E w n) cs ⟨by omega,by omega,hy⟩
 unfold Fu at px;obtain⟨-,aFQ,np⟩:=aEk X hw hm
 have xh:decide ((au (sd E cs w)).1.1<0)=false:=by
  show decide ((sd E cs w).num.sign<0)=false;rw[Rt];exact mq (by grind)
 rcases bC:hL (ij E w n) cs
 ·rw[ag (by rw[bC];decide)] at px;generalize ij E w n=GC at *;generalize au (sd E cs w)=L at *;obtain⟨⟨dW,ak⟩,⟨bJ,b3⟩⟩:=L;simp only[aH] at qf;simp only[go_sem,go_sem_proc,pA,pB,oy,pC,jg,pD,pE,kC,dB,lQ,cq,d1,d2,d3,d4,qf,Tf,px,show ((1:Int)==0)=false from rfl,al,bne,beq_self_eq_true,cK,dt];repeat' (first|refine aw ?_ ?_|fail)<;>intro h<;>simp only[h,go_sem,go_sem_proc,pA,pB,oy,pC,jg,pD,pE,kC,dB,lQ,cq,d1,d2,d3,d4,qf,Tf,px,show ((1:Int)==0)=false from rfl,al,bne,beq_self_eq_true,cK,dt]
 rw[ad bC] at px;have hy:=hy bC;have an1:=aFp hy;have cD:dw n:=oT (by omega) (by omega);have ada:=NM cD;have FE:=EX (nM cD) (kt aFQ (by omega));have Z8:decide (lJ ((n:Int):Rat) (sd E cs w)>=0)=decide (sd E cs w<=(n:Rat)):=aaC;have adb:=aFJ cs (ng (ij E w n) cs) (hE (ij E w n) cs) ((ax (ij E w n) cs).iQ.map q4) w ⟨by unfold hE;rw[al],by omega,(S7 hy).Ay,λc H=>by have:=(gd.1 ab).2.2.2 c H;exact oT (by omega) (by omega)⟩
 rw[anQ,aFL hy (by omega),decide_eq_decide.2 (aFM X (by omega) hw a7 hy),<-Z8] at adb;have ar:(((ng (ij E w n) cs).length:Int)==(D E:Int))=true:=by rw[show (ng (ij E w n) cs).length=(ij E w n).length from p6 _ _,mM];exact beq_self_eq_true _
 have iS:∀b:Bool,(b==b)=true:=λb=>by cases b<;>rfl
 generalize (ax (ij E w n) cs).iQ.map q4=FD at *;generalize ng (ij E w n) cs=HV at *;generalize xQ (ij E w n) cs=PD at *;generalize aM6:ij E w n=GC at *;generalize lJ ((n:Int):Rat) (sd E cs w)=aN at *;generalize au ((n:Int):Rat)=N at *;generalize au (sd E cs w)=L at *;obtain⟨⟨dW,ak⟩,⟨bJ,b3⟩⟩:=L;obtain⟨⟨hF,ir⟩,⟨r9,v3⟩⟩:=N;dsimp only at xh;simp only[aH] at qf ada FE;simp only[go_sem,go_sem_proc,pA,pB,oy,pC,jg,pD,pE,kC,dB,lQ,cq,d1,d2,d3,d4,qf,Tf,px,an1,adb,ada,FE,ar,xh,iS,aH,al,bne,beq_self_eq_true,cK,dt];repeat' (first|refine aw ?_ ?_|fail)<;>intro h<;>simp only[h,go_sem,go_sem_proc,pA,pB,oy,pC,jg,pD,pE,kC,dB,lQ,cq,d1,d2,d3,d4,qf,Tf,px,an1,adb,ada,FE,ar,xh,iS,aH,al,bne,beq_self_eq_true,cK,dt]
end Go.Mini
namespace Go.Mini
open Go Go.Proofs
theorem mixed:Tryz.prog.follows .mixedOrders=true:=by kernel_rfl
abbrev ade:Option eL->(eL->Prop)->Prop
 |some r,aN=>aN r
 |none,_=>True
theorem cY {c:Prop}{r:eL}{aN:eL->Prop}(h:c->aN r):ade (cR c r) aN:=by
 by_cases H:c
 ·rw[cW H];exact h H
 ·have:cR c r=none:=ag H;rw[this];trivial
abbrev cz:=tM Tryz.prog
theorem xW (mf : bN)(kb : Nat)(own : List Nat){α : Type}{args : α -> List Data}{res : α -> Option eL}{l : List (FuncId × (List Data -> Option eL))}{e : List (FuncId × (List R -> Mem -> Option gZ))}(ar : ∀ p ∈ l, tM Tryz.prog p.1 p.2)(he : ∀ p ∈ e, kQ Tryz.prog p.1 p.2){f : FuncId}{fn : Func}(aI : Tryz.prog.funcs[f]? = some fn)(h : ∀ a, ade (res a) fun r => Nat.ble (args a).length mf.n = true /\ wp (xo (OG l) (Qq e)) mf.body (zG mf.res r) ⟨km ((args a).map .J), emp⟩)(aL : (fn.name == "runtime.NumGoroutine", sq Tryz.prog kb own fn) = (false, some { mf with body := erase mf.body }) := by kernel_rfl): cz f (ck args res) := aqP (rL (rv ar) (rM he)) mixed aI (congrArg Prod.fst aL) (congrArg Prod.snd aL) fun ds r ab => by
 obtain⟨a,rfl,I⟩:=aq5 ab;have af:=h a;rw[I] at af;exact⟨tp af.1,af.2⟩
theorem cN (mf : bN)(kb : Nat)(own : List Nat){α : Type}{args : α -> List Data}{res : α -> Option eL}{l : List (FuncId × (List Data -> Option eL))}(ar : ∀ p ∈ l, tM Tryz.prog p.1 p.2){f : FuncId}{fn : Func}(aI : Tryz.prog.funcs[f]? = some fn)(h : ∀ a, ade (res a) fun r => Nat.ble (args a).length mf.n = true /\ wp (xo (OG l) (Qq [])) mf.body (zG mf.res r) ⟨km ((args a).map .J), emp⟩)(aL : (fn.name == "runtime.NumGoroutine", sq Tryz.prog kb own fn) = (false, some { mf with body := erase mf.body }) := by kernel_rfl): cz f (ck args res) := xW mf kb own ar lL aI h aL
theorem bg {l0:FuncId->Option (List Data->Option eL)}{sV:FuncId->Option (List R->Mem->Option gZ)}{f:FuncId}{aQ:List Data->Option eL}(F:sV f=none:=by rfl)(I:l0 f=some aQ:=by rfl):xo l0 sV f=aW aQ:=nD F I
theorem Jz:cz qA zR:=cN DT 177000 [] b7 Tryz.func190 λa3=>cY λH=>⟨rfl,arU _  a3 H⟩
theorem JA:kQ Tryz.prog qA (Bt vG):=KG.ahr (afd (mf:=DT) (kb:=177000) (own:=[]) (rL (rv b7) (rM lL)) mixed Tryz.func190 (by kernel_rfl) (by kernel_rfl) λargs mem x h=>by
 obtain⟨a,⟨rfl,hm,ar⟩,rfl⟩:=Up h;exact⟨tp rfl,arV _ a.l a.k a.g mem hm ar⟩)
theorem an2:cz DL O6:=cN VE 184000 [] b7 Tryz.func194 λa3=>⟨rfl,arW _  a3⟩
theorem an3:cz GA O7:=cN VC 174000 [] (a5 an2 b7) Tryz.func159 fun⟨a3,a8⟩=>⟨rfl,arX _ bg a3 a8⟩
theorem aFR:cz UL VX:=cN VD 179000 [] b7 Tryz.func195 λa3=>cY λH=>⟨rfl,arZ _  a3 H⟩
theorem JB:cz sG zT:=cN VL 156000 [5] b7 Tryz.func94 λa3=>cY λH=>⟨rfl,ar0 _  a3 H⟩
theorem AZ:cz k7 wX:=cN Vl 136000 [] b7 Tryz.func146 fun⟨a3,a8⟩=>cY λH=>⟨rfl,ar1 _  a3 a8 H⟩
theorem JC:cz o9 BE:=xW Vu 158000 [] (a5 Jz b7) (oM JA lL) Tryz.func150 fun⟨a3,a8⟩=>cY λH=>⟨rfl,ar3 _ (HC rfl rfl) a3 a8 H⟩
theorem adf:cz DK Lb:=cN VA 175000 [] (a5 an3 b7) Tryz.func160 fun⟨a3,a8⟩=>cY λH=>⟨rfl,ar6 _ bg a3 a8 H⟩
theorem an4:cz KO Pb:=xW Vy 172000 [] (a5 Jz b7) (oM JA lL) Tryz.func157 fun⟨a3,a8⟩=>cY λH=>⟨rfl,ar7 _ (HC rfl rfl) a3 a8 H⟩
theorem an5:cz Gz Pc:=xW Vz 173000 [10] (a5 JB (a5 Jz b7)) (oM JA lL) Tryz.func158 fun⟨a3,a8⟩=>cY λH=>⟨rfl,ar9 _ bg (HC rfl rfl) a3 a8 H⟩
theorem an6:cz Gy Pf:=xW Vx 161000 [] (a5 Jz b7) (oM JA lL) Tryz.func151 fun⟨a3,a8⟩=>cY λH=>⟨rfl,asb _ (HC rfl rfl) a3 a8 H⟩
theorem aFS:cz OQ Wd:=xW VB 176000 [] (a5 Jz b7) (oM JA lL) Tryz.func192 fun⟨a3,a8⟩=>cY λH=>⟨rfl,asd _ (HC rfl rfl) a3 a8 H⟩
theorem aFT:kQ Tryz.prog UK (Bt Lh):=KG.ahr (afd (mf:=OY) (kb:=178000) (own:=[]) (rL (rv b7) (rM lL)) mixed Tryz.func193 (by kernel_rfl) (by kernel_rfl) λargs mem x h=>by
 obtain⟨a,⟨rfl,H⟩,rfl⟩:=Up h;exact⟨tp rfl,asm _ a mem H⟩)
theorem an7:cz KM Pn:=xW Vt 157000 [54] (a5 adf (a5 JB (a5 aFS (a5 Jz (a5 an6 b7))))) (oM JA (oM aFT lL)) Tryz.func156 fun⟨a3,a8⟩=>cY λH=>⟨rfl,asx _ bg bg bg (HC rfl rfl) bg (uo rfl rfl) a3 a8 H⟩
theorem adg:cz vz Ln:=cN Vs 155000 [] b7 Tryz.func149 fun⟨a3,a8,bY⟩=>⟨rfl,as6 _  a3 a8 bY⟩
theorem an8:cz Gx PG:=cN Vp 152000 [] (a5 AZ (a5 JB (a5 JC b7))) Tryz.func91 fun⟨a3,a8⟩=>cY λH=>⟨rfl,as7 _ bg bg bg a3 a8 H⟩
theorem Tg:cz vy Hc:=cN Vn 140000 [] (a5 AZ (a5 an6 (a5 JC (a5 adg b7)))) Tryz.func85 fun⟨a3,a8,bY,c5⟩=>cY λH=>⟨rfl,as8 _ bg bg bg bg a3 a8 bY c5 H⟩
theorem aFU:cz UH WI:=cN Vw 160000 [] (a5 AZ (a5 aFR (a5 an4 (a5 an5 (a5 adf (a5 JC (a5 adg b7))))))) Tryz.func161 fun⟨a3,a8,bY,c5⟩=>cY λH=>⟨rfl,as9 _ bg bg bg bg bg bg bg a3 a8 bY c5 H⟩
theorem aFV:cz UF WJ:=cN Vr 154000 [] (a5 AZ (a5 an3 (a5 adf b7))) Tryz.func89 fun⟨a3,a8,bY,c5⟩=>cY λH=>⟨rfl,ata _ bg bg bg a3 a8 bY c5 H⟩
theorem an9:cz KK PK:=cN Vm 137000 [] (a5 AZ (a5 JB (a5 an7 (a5 JC (a5 adg b7))))) Tryz.func147 fun⟨a3,a8,bY,c5⟩=>cY λH=>⟨rfl,atb _ bg bg bg bg bg a3 a8 bY c5 H⟩
theorem aoa:cz DI PS:=cN Vq 153000 [] (a5 AZ (a5 an7 (a5 an4 (a5 an5 (a5 JC b7))))) Tryz.func88 fun⟨a3,a8,bY,c5⟩=>cY λH=>⟨rfl,atd _ bg bg bg bg bg a3 a8 bY c5 H⟩
theorem aFW:cz ON WU:=cN Vo 150000 [] (a5 JC b7) Tryz.func165 λa3=>cY λH=>⟨rfl,ati _ bg a3 H⟩
theorem aFX:cz UG WV:=cN Vv 159000 [] (a5 AZ b7) Tryz.func189 fun⟨a3,a8⟩=>cY λH=>⟨rfl,atl _ bg a3 a8 H⟩
theorem aFY:cz Uy W8:=cN W3 138000 [] (a5 aFX b7) Tryz.func148 fun⟨a3,a8⟩=>cY λH=>⟨rfl,atq _ bg a3 a8 H⟩
theorem A0:cz l5 vU:=cN WX 116000 [] (a5 AZ (a5 an9 (a5 aFY b7))) Tryz.func84 fun⟨a3,a8,bY,c5⟩=>cY λH=>⟨rfl,ats _ bg bg bg a3 a8 bY c5 H⟩
theorem aob:cz KL P2:=cN W6 149000 [] (a5 AZ (a5 an8 (a5 an9 (a5 aoa b7)))) Tryz.func152 fun⟨a3,a8,bY,c5⟩=>cY λH=>⟨rfl,atu _ bg bg bg bg a3 a8 bY c5 H⟩
theorem NN:cz vw B1:=cN WZ 130000 [] (a5 aFW (a5 aob b7)) Tryz.func96 fun⟨a3,a8⟩=>cY λH=>⟨rfl,atv _ bg bg a3 a8 H⟩
theorem aFZ:cz Uz Xc:=cN W4 139000 [] (a5 Tg (a5 aFU b7)) Tryz.func90 fun⟨a3,a8,bY,c5,ey,iE,lp,ow⟩=>cY λH=>⟨rfl,atI _ bg bg a3 a8 bY c5 ey iE lp ow H⟩
theorem adh:cz DH LA:=cN W5 141000 [] (a5 aob b7) Tryz.func86 fun⟨a3,a8,bY,c5,ey,iE⟩=>cY λH=>⟨rfl,atK _ bg a3 a8 bY c5 ey iE H⟩
theorem Th:cz yo Ac:=cN WY 119000 [] (a5 A0 (a5 aFZ (a5 Tg (a5 adh b7)))) Tryz.func40 fun⟨a3,a8,bY,c5,ey,iE,lp,ow⟩=>cY λH=>⟨rfl,atM _ bg bg bg bg a3 a8 bY c5 ey iE lp ow H⟩
theorem Ti:cz vx yK:=cN W0 132000 [] (a5 A0 (a5 an8 (a5 Th b7))) Tryz.func43 fun⟨a3,a8,bY,c5,ey,iE,lp,ow⟩=>cY λH=>⟨rfl,atO _ bg bg bg a3 a8 bY c5 ey iE lp ow H⟩
theorem adi:cz wS yL:=cN W1 134000 [] (a5 A0 (a5 Tg (a5 adh b7))) Tryz.func36 fun⟨a3,a8,bY,c5,ey,iE,lp,ow⟩=>cY λH=>⟨rfl,atQ _ bg bg bg a3 a8 bY c5 ey iE lp ow H⟩
theorem aoc:cz DJ Ep:=cN W7 169000 [] (a5 A0 (a5 Tg (a5 adh b7))) Tryz.func155 fun⟨a3,a8,bY,c5,ey,iE,lp,ow⟩=>cY λH=>⟨rfl,atT _ bg bg bg a3 a8 bY c5 ey iE lp ow H⟩
theorem C4:cz nu sS:=cN W2 135000 [] (a5 A0 (a5 aoa (a5 aFV b7))) Tryz.func38 fun⟨a3,a8,bY,c5,ey,iE,lp,ow⟩=>cY λH=>⟨rfl,atZ _ bg bg bg a3 a8 bY c5 ey iE lp ow H⟩
theorem aod:cz oJ Qa:=cN Xr 125000 [] (a5 A0 b7) Tryz.func233 fun⟨a3,a8,bY,c5⟩=>cY λH=>⟨rfl,at5 _ bg a3 a8 bY c5 H⟩
theorem aF0:cz wU XY:=cN XI 294000 [] (a5 A0 b7) Tryz.func116 fun⟨a3,a8,bY,c5⟩=>cY λH=>⟨rfl,at7 _ bg a3 a8 bY c5 H⟩
theorem aF1:cz vE X0:=cN XT 309000 [] (a5 aF0 b7) Tryz.func174 fun⟨a3,a8,bY,c5⟩=>cY λH=>⟨rfl,aua _ bg a3 a8 bY c5 H⟩
theorem aF2:cz UC X2:=cN GJ 146000 [] (a5 aod (a5 aF1 b7)) Tryz.func201 fun⟨a3,a8⟩=>cY λH=>⟨rfl,aud _ bg (λh=>absurd h (by decide)) (λ_=>bg) a3 a8 H⟩
theorem aoe:cz KJ LM:=cN VH 128000 [] (a5 aF2 b7) Tryz.func173 fun⟨a3,a8⟩=>cY λH=>⟨rfl,aug _ bg a3 a8 H⟩
theorem aF3:cz Bw X4:=cN Xs 127000 [] (a5 aod (a5 aoe b7)) Tryz.func235 fun⟨a3,a8,bY,c5,ey,iE⟩=>cY λH=>⟨rfl,auj _ bg bg a3 a8 bY c5 ey iE H⟩
theorem aF4:cz UB X5:=cN VJ 145000 [] (a5 aF3 b7) Tryz.func239 fun⟨a3,a8⟩=>cY λH=>⟨rfl,auk _ bg a3 a8 H⟩
theorem aF5:cz Uv X6:=cN VG 126000 [] (a5 aF4 b7) Tryz.func234 fun⟨a3,a8⟩=>cY λH=>⟨rfl,aul _ bg a3 a8 H⟩
theorem aF6:cz Us X7:=cN Xp 108000 [] (a5 aF5 b7) Tryz.func224 fun⟨a3,a8⟩=>cY λH=>⟨rfl,aun _ bg a3 a8 H⟩
theorem aF7:kQ Tryz.prog Bx (Cc Am):=auY (mf:=P8) (kb:=168000) (own:=[]) (rL (rv b7) (rM lL)) mixed Tryz.func241 (by kernel_rfl) (by kernel_rfl) Qs λargs mem r k g i d h=>by
 obtain⟨F,I,af,aO,bm⟩:=auZ _ args mem r k g i d h;exact⟨F,I,af,aO,bm⟩
theorem aF8:cz KN Qr:=cN Xt 167000 [] b7 Tryz.func240 fun⟨a3,a8,bY,c5⟩=>⟨rfl,LX _  a3 a8 bY c5⟩
theorem aF9:kQ Tryz.prog UD (pj Ma):=Ev (mf:=yO) (kb:=148000) (own:=[3000106,3000165,3000169]) (rL (rv (a5 aF8 (a5 aoc (a5 Ti (a5 adi b7))))) (rM (oM aF7 lL))) mixed Tryz.func237 (by kernel_rfl) (by kernel_rfl) λargs mem bU h=>by
 obtain⟨a,rfl,⟨F,I,af,aO,bm,bK,bP⟩,rfl⟩:=avH h;exact⟨tp rfl,avv _ (nD rfl rfl) (uo rfl rfl) (nD rfl rfl) (nD rfl rfl) (nD rfl rfl) a.go a.N a.rows a.r a.c mem F I af aO bm bK bP⟩
theorem aGa:cz OM QD:=cN VK 147000 [5] b7 Tryz.func236 λa3=>cY λH=>⟨rfl,avJ _  a3 H⟩
theorem aGb:cz Uw QI:=xW LI 129000 [29,34] (a5 aGa b7) (oM aF9 lL) Tryz.func225 fun⟨a3,a8,bY⟩=>cY λH=>⟨rfl,avY _ bg (uo rfl rfl) a3 a8 bY H⟩
theorem aGc:cz Ut Za:=cN Xq 109000 [] (a5 aF6 (a5 aGb b7)) Tryz.func215 fun⟨a3,a8⟩=>cY λH=>⟨rfl,av4 _ bg bg a3 a8 H⟩
theorem aGd:cz UJ Zi:=cN Ze 171000 [] b7 Tryz.func232 λa3=>cY λH=>⟨rfl,av8 _  a3 H⟩
theorem aGe:cz UE Zj:=cN Zd 151000 [] (a5 aGd b7) Tryz.func223 λa3=>cY λH=>⟨rfl,av9 _ bg a3 H⟩
theorem aGf:cz Ux Zm:=cN VI 131000 [] (a5 aGe b7) Tryz.func214 fun⟨a3,a8,bY,c5,ey⟩=>cY λH=>⟨rfl,awj _ bg a3 a8 bY c5 ey H⟩
theorem NO:cz tS B8:=cN Yg 183000 [18] b7 Tryz.func188 λa3=>cY λH=>⟨rfl,aup _  a3 H⟩
theorem Tj:cz tT Hr:=cN Yj 187000 [] b7 Tryz.func200 fun⟨a3,a8⟩=>cY λH=>⟨rfl,aus _  a3 a8 H⟩
theorem aGg:cz OR Qh:=cN Yh 185000 [] (a5 Tj b7) Tryz.func182 fun⟨a3,a8⟩=>cY λH=>⟨rfl,auu _ bg a3 a8 H⟩
theorem aGh:cz UM Yo:=cN Ye 181000 [] (a5 Tj (a5 NO b7)) Tryz.func181 fun⟨a3,a8⟩=>cY λH=>⟨rfl,auw _ bg bg a3 a8 H⟩
theorem aof:cz KQ Qi:=cN Yf 182000 [] (a5 Tj (a5 NO b7)) Tryz.func183 fun⟨a3,a8⟩=>cY λH=>⟨rfl,auy _ bg bg a3 a8 H⟩
theorem aGi:cz KR Qj:=cN Yi 186000 [] (a5 Tj (a5 NO b7)) Tryz.func170 fun⟨a3,a8⟩=>cY λH=>⟨rfl,auz _ bg bg a3 a8 H⟩
theorem aog:cz KP Qk:=cN LN 180000 [26] (a5 NO (a5 aGi (a5 aGg (a5 aof b7)))) Tryz.func187 fun⟨a3,a8⟩=>cY λH=>⟨rfl,auG _ bg bg bg bg a3 a8 H⟩
theorem Tk:cz vB Hy:=cN Yd 166000 [] (a5 NO b7) Tryz.func145 fun⟨a3,a8⟩=>cY λH=>⟨rfl,auI _ bg a3 a8 H⟩
theorem Tl:cz vA Hz:=cN X9 162000 [] b7 Tryz.func141 fun⟨a3,a8⟩=>cY λH=>⟨rfl,auJ _  a3 a8 H⟩
theorem aGj:cz OO Yw:=cN Ya 163000 [] (a5 Tl (a5 Tk b7)) Tryz.func142 fun⟨a3,a8⟩=>cY λH=>⟨rfl,auK _ bg bg a3 a8 H⟩
theorem aGk:cz OL Yx:=cN X8 144000 [] (a5 Tk b7) Tryz.func83 λa3=>cY λH=>⟨rfl,auL _ bg a3 H⟩
theorem aGl:cz UI Yy:=cN Yb 164000 [] (a5 Tl (a5 aog (a5 Tk b7))) Tryz.func143 fun⟨a3,a8,bY,c5⟩=>cY λH=>⟨rfl,auN _ bg bg bg a3 a8 bY c5 H⟩
theorem aGm:cz OP Yz:=cN Yc 165000 [] (a5 Tl (a5 aog (a5 aGh (a5 aof (a5 Tk b7))))) Tryz.func144 fun⟨a3,a8,bY,c5⟩=>cY λH=>⟨rfl,auO _ bg bg bg bg bg a3 a8 bY c5 H⟩
theorem aGn:cz UA YE:=cN YD 143000 [] (a5 Tl (a5 aGj (a5 aGl (a5 aGm b7)))) Tryz.func82 fun⟨a3,a8,bY,c5⟩=>cY λH=>⟨rfl,auP _ bg bg bg bg a3 a8 bY c5 H⟩
theorem aGo:cz Uu YF:=cN YB 124000 [] (a5 aGk (a5 aGn b7)) Tryz.func35 fun⟨a3,a8⟩=>cY λH=>⟨rfl,auQ _ bg bg a3 a8 H⟩
theorem aGp:cz OK YG:=cN YC 142000 [] b7 Tryz.func55 fun⟨a3,a8,bY,c5⟩=>cY λH=>⟨rfl,auT _  a3 a8 bY c5 H⟩
theorem aoh:cz DG LV:=cN YA 120000 [] (a5 aGp b7) Tryz.func19 fun⟨a3,a8,bY,c5,ey,iE,lp,ow⟩=>cY λH=>⟨rfl,auV _ bg a3 a8 bY c5 ey iE lp ow H⟩
theorem JD:cz pa wj:=cN Xv 230000 [] (a5 NN b7) Tryz.func78 λa3=>cY λH=>⟨rfl,axR _ bg a3 H⟩
theorem aoi:cz vC Io:=cN aak 241000 [] (a5 NN b7) Tryz.func153 λa3=>cY λH=>⟨rfl,axT _ bg a3 H⟩
theorem adj:cz zN Ip:=cN aao 223000 [] (a5 aGo b7) Tryz.func49 λa3=>cY λH=>⟨rfl,axV _ bg a3 H⟩
theorem aGq:cz UN aas:=cN aah 216000 [] b7 Tryz.func45 fun⟨a3,a8⟩=>⟨rfl,axX _  a3 a8⟩
theorem aoj:cz vD Rw:=cN Xx 243000 [] b7 Tryz.func137 fun⟨a3,a8,bY⟩=>⟨rfl,ayT _  a3 a8 bY⟩
theorem aGr:cz KU aaS:=cN Xy 244000 [] (a5 aoj b7) Tryz.func138 λa3=>⟨rfl,ayW _ bg a3⟩
theorem aGs:cz KV aaV:=cN Xz 245000 [] (a5 aoj b7) Tryz.func139 fun⟨a3,a8,bY,c5,ey⟩=>cY λH=>⟨rfl,ayZ _ bg a3 a8 bY c5 ey H⟩
theorem aGt:cz DM aa4:=cN Xw 232000 [] (a5 JD (a5 C4 b7)) Tryz.func80 fun⟨a3,a8,bY⟩=>cY λH=>⟨rfl,ay6 _ bg bg a3 a8 bY H⟩
theorem aok:cz KX RA:=cN aaP 251000 [] b7 Tryz.func163 λa3=>⟨rfl,ay7 _  a3⟩
theorem aGu:cz BB aa5:=cN aaO 250000 [] (a5 aok b7) Tryz.func162 λa3=>⟨rfl,ay9 _ bg a3⟩
theorem aol:cz DS RB:=cN aaW 355000 [] b7 Tryz.func54 fun⟨a3,a8,bY⟩=>⟨rfl,aza _  a3 a8 bY⟩
theorem aom:cz wW RC:=cN aaX 361000 [] (a5 aol b7) Tryz.func104 λa3=>⟨rfl,azc _ bg a3⟩
theorem aon:cz DP RD:=cN XG 292000 [] b7 Tryz.func114 fun⟨a3,a8,bY⟩=>⟨rfl,azd _  a3 a8 bY⟩
theorem aoo:cz nv RE:=cN XF 291000 [] (a5 aon b7) Tryz.func113 λa3=>⟨rfl,aze _ bg a3⟩
theorem aGv:cz BC aa9:=cN XR 307000 [] (a5 aoo b7) Tryz.func171 λa3=>⟨rfl,azh _ bg a3⟩
theorem aop:cz KY SS:=cN XM 298000 [] b7 Tryz.func120 fun⟨a3,a8,bY,c5,ey,iE⟩=>cY λH=>⟨rfl,aDS _  a3 a8 bY c5 ey iE H⟩
theorem aGw:cz GF abS:=cN aal 253000 [] b7 Tryz.func191 fun⟨a3,a8,bY⟩=>⟨rfl,aBk _  a3 a8 bY⟩
theorem aoq:cz KT Sg:=cN aaj 240000 [] (a5 aGw b7) Tryz.func154 λa3=>cY λH=>⟨rfl,aBm _ bg a3 H⟩
theorem aGx:cz UQ acm:=cN aai 225000 [] (a5 aoq (a5 A0 (a5 aoi (a5 C4 b7)))) Tryz.func184 fun⟨a3,a8⟩=>cY λH=>⟨rfl,aDb _ bg bg bg bg a3 a8 H⟩
theorem aor:cz K1 SY:=cN XV 313000 [] (a5 aop (a5 aGx b7)) Tryz.func135 fun⟨a3,a8,bY,c5,ey,iE⟩=>cY λH=>⟨rfl,aDW _ bg bg a3 a8 bY c5 ey iE H⟩
theorem aGy:cz DO abf:=cN aaQ 252000 [] (a5 aok b7) Tryz.func164 fun⟨a3,a8,bY,c5,ey⟩=>cY λH=>⟨rfl,azs _ bg a3 a8 bY c5 ey H⟩
theorem aGz:cz GG abh:=cN aaY 362000 [] (a5 aol (a5 aom b7)) Tryz.func105 fun⟨a3,a8,bY,c5,ey⟩=>cY λH=>⟨rfl,azv _ bg bg a3 a8 bY c5 ey H⟩
theorem aGA:cz yp abj:=cN XH 293000 [] (a5 aon (a5 aoo b7)) Tryz.func115 fun⟨a3,a8,bY,c5,ey⟩=>cY λH=>⟨rfl,azx _ bg bg a3 a8 bY c5 ey H⟩
theorem aGB:cz DQ abl:=cN XS 308000 [] (a5 aGA b7) Tryz.func172 fun⟨a3,a8,bY,c5,ey⟩=>cY λH=>⟨rfl,azA _ bg a3 a8 bY c5 ey H⟩
theorem aGC:cz Vj acp:=cN VR 327000 [] b7 Tryz.func213 fun⟨a3,a8⟩=>cY λH=>⟨rfl,aDl _  a3 a8 H⟩
theorem aGD:cz Vg acq:=cN VQ 315000 [] (a5 aGC b7) Tryz.func180 fun⟨a3,a8⟩=>cY λH=>⟨rfl,aDn _ bg a3 a8 H⟩
theorem aGE:cz DR abn:=cN XW 314000 [] (a5 aGD b7) Tryz.func179 fun⟨a3,a8,bY,c5,ey,iE,lp⟩=>cY λH=>⟨rfl,aD0 _ bg a3 a8 bY c5 ey iE lp H⟩
theorem aGF:cz UZ abo:=cN K5 254000 [] (a5 aGs (a5 aGy (a5 aGz (a5 aGB (a5 aGE b7))))) Tryz.func167 fun⟨a3,a8⟩=>cY λH=>⟨rfl,azF _ bg (λ_=>bg) (λ_=>bg) (λ_=>bg) (λ_=>bg) a3 a8 H⟩
theorem Tm:cz zP IH:=cN VO 247000 [] (a5 aGF b7) Tryz.func107 fun⟨a3,a8⟩=>cY λH=>⟨rfl,azL _ bg a3 a8 H⟩
theorem aGG:cz Ve acB:=cN XQ 306000 [] (a5 aor (a5 Tm b7)) Tryz.func127 fun⟨a3,a8,bY,c5,ey,iE,lp⟩=>cY λH=>⟨rfl,aD3 _ bg bg a3 a8 bY c5 ey iE lp H⟩
theorem aos:cz tU IB:=cN XP 305000 [] (a5 aGG b7) Tryz.func126 fun⟨a3,a8,bY,c5,ey,iE,lp⟩=>cY λH=>⟨rfl,aD4 _ bg a3 a8 bY c5 ey iE lp H⟩
theorem adk:cz wT AH:=cN K3 231000 [] (a5 aGr (a5 aGu (a5 aom (a5 aGt (a5 aGv (a5 aos b7)))))) Tryz.func79 fun⟨a3,a8⟩=>cY λH=>⟨rfl,azk _ bg (λ_=>bg) (λ_=>bg) (λ_=>bg) (λ_=>bg) (λ_=>bg) a3 a8 H⟩
theorem adl:cz DN MZ:=cN VN 246000 [] (a5 adk b7) Tryz.func106 fun⟨a3,a8⟩=>cY λH=>⟨rfl,azp _ bg a3 a8 H⟩
theorem aot:cz KW Si:=cN EU 249000 [] (a5 A0 (a5 C4 (a5 aoi (a5 aoq (a5 adi (a5 aoc (a5 Ti b7))))))) Tryz.func87 fun⟨a3,a8⟩=>cY λH=>⟨rfl,aBC _ bg bg bg bg bg bg bg a3 a8 H⟩
theorem aGH:cz UR abp:=cN Xu 227000 [] (a5 adl (a5 Tm b7)) Tryz.func75 fun⟨a3,a8⟩=>cY λH=>⟨rfl,azN _ bg bg a3 a8 H⟩
theorem aGI:cz UW abq:=cN aaN 238000 [] (a5 adl (a5 Tm b7)) Tryz.func93 fun⟨a3,a8⟩=>cY λH=>⟨rfl,azP _ bg bg a3 a8 H⟩
theorem aGJ:cz UT Sw:=cN Et 233000 [] (a5 aot b7) Tryz.func81 fun⟨a3,a8⟩=>cY λH=>⟨rfl,aCa _ bg a3 a8 H⟩
theorem aGK:kQ Tryz.prog OT (y4 RJ):=aaD (mf:=P9) (kb:=255000) (own:=[17]) (rL (rv (a5 JD (a5 aGf (a5 NN (a5 Th b7))))) (rM lL)) mixed Tryz.func185 (by kernel_rfl) (by kernel_rfl) (λj=>j/1000=255) λargs mem d h=>by
 obtain⟨a,⟨rfl,aP⟩,rfl⟩:=aaF h;exact⟨tp rfl,aP.no,azS _ (nD rfl rfl) (nD rfl rfl) (nD rfl rfl) (nD rfl rfl) a.1 a.2 mem aP⟩
theorem aGL:kQ Tryz.prog U0 (y4 RP):=aaD (mf:=Hk) (kb:=256000) (own:=[]) (rL (rv (a5 JD (a5 Ti (a5 aGc b7)))) (rM lL)) mixed Tryz.func186 (by kernel_rfl) (by kernel_rfl) (λj=>j/1000=256) λargs mem d h=>by
 obtain⟨a,⟨rfl,aP⟩,rfl⟩:=aaF h;exact⟨tp rfl,aP.no,az0 _ (nD rfl rfl) (nD rfl rfl) (nD rfl rfl) a mem aP⟩
theorem aGM:kQ Tryz.prog UY (y4 abC):=aaD (mf:=vY) (kb:=248000) (own:=[]) (rL (rv (a5 JD (a5 adi (a5 Th b7)))) (rM (oM aGK (oM aGL lL)))) mixed Tryz.func140 (by kernel_rfl) (by kernel_rfl) (λj=>j/1000=248) λargs mem d h=>by
 obtain⟨a,⟨rfl,aP⟩,rfl⟩:=aaF h;exact⟨tp rfl,aP.hF,aAG _ (nD rfl rfl) (uo rfl rfl) (uo rfl rfl) (nD rfl rfl) (nD rfl rfl) a mem aP⟩
theorem aGN:kQ Tryz.prog OS (pj Nd):=Ev (mf:=Hj) (kb:=229000) (own:=[]) (rL (rv (a5 JD (a5 C4 b7))) (rM (oM aGM lL))) mixed Tryz.func77 (by kernel_rfl) (by kernel_rfl) λargs mem bU h=>by
 obtain⟨a,⟨rfl,aP⟩,rfl⟩:=Ey h;exact⟨tp rfl,aAQ _ (uo rfl rfl) (nD rfl rfl) (nD rfl rfl) a mem aP⟩
theorem aGO:kQ Tryz.prog US (pj abQ):=Ev (mf:=B7) (kb:=228000) (own:=[22]) (rL (rv b7) (rM lL)) mixed Tryz.func76 (by kernel_rfl) (by kernel_rfl) λargs mem bU h=>by
 obtain⟨a,⟨rfl,aP⟩,rfl⟩:=Ey h;exact⟨tp rfl,aBa _  a.1 a.2 mem aP⟩
theorem aou:cz KS Ny:=xW Es 217000 [] (a5 aGH (a5 JD (a5 C4 (a5 adk (a5 aGJ b7))))) (oM aGO (oM aGN lL)) Tryz.func33 fun⟨a3,a8⟩=>cY λH=>⟨rfl,aC0 _ bg (uo rfl rfl) (uo rfl rfl) bg bg bg bg a3 a8 H⟩
theorem aGP:cz wV ab3:=cN XU 310000 [] (a5 C4 b7) Tryz.func176 fun⟨a3,a8,bY,c5,ey,iE,lp,ow⟩=>cY λH=>⟨rfl,aCq _ bg a3 a8 bY c5 ey iE lp ow H⟩
theorem aGQ:cz UU ab5:=cN K4 235000 [] (a5 aGP b7) Tryz.func175 fun⟨a3,a8,bY⟩=>cY λH=>⟨rfl,aCt _ (λh=>absurd h (by decide)) (λ_=>bg) a3 a8 bY H⟩
theorem aGR:cz UX acE:=cN VM 239000 [] b7 Tryz.func95 λa3=>cY λH=>⟨rfl,aEn _  a3 H⟩
theorem aov:cz Bz C2:=cN MW 221000 [34] (a5 aGI (a5 JB (a5 aGR (a5 aou (a5 NN (a5 Ti b7)))))) Tryz.func46 fun⟨a3,a8,bY⟩=>cY λH=>⟨rfl,aFu _ bg bg bg bg bg bg a3 a8 bY H⟩
theorem aGS:cz GD ac1:=cN aap 237000 [] b7 Tryz.func92 λ_=>⟨rfl,aFw _⟩
theorem aGT:cz UO ac3:=cN aam 220000 [] (a5 aGS (a5 aov (a5 adj (a5 aoh b7)))) Tryz.func44 λ_=>⟨rfl,aFC _ bg bg bg bg⟩
theorem aGU:cz UP ac5:=cN aan 222000 [8] b7 Tryz.func47 fun⟨a3,a8,bY⟩=>cY λH=>⟨rfl,aFG _  a3 a8 bY H⟩
theorem aGV:cz OV SE:=cN VF 322000 [] (a5 an2 b7) Tryz.func208 fun⟨a3,a8⟩=>⟨rfl,aDg _ bg a3 a8⟩
theorem aGW:cz Vb aco:=cN VP 301000 [] b7 Tryz.func123 fun⟨a3,a8⟩=>cY λH=>⟨rfl,aDj _  a3 a8 H⟩
theorem aGX:cz Vi acs:=cN Zg 326000 [] b7 Tryz.func212 λa3=>cY λH=>⟨rfl,aDw _  a3 H⟩
theorem aGY:cz Vf acu:=cN Zf 312000 [] (a5 aGX b7) Tryz.func178 λa3=>cY λH=>⟨rfl,aDy _ bg a3 H⟩
theorem aow:cz KZ SZ:=cN XO 303000 [] (a5 aor b7) Tryz.func73 fun⟨a3,a8,bY,c5,ey⟩=>cY λH=>⟨rfl,aDZ _ bg a3 a8 bY c5 ey H⟩
theorem aGZ:kQ Tryz.prog Vh (pj SH):=Ev (mf:=O3) (kb:=316000) (own:=[]) (rL (rv (a5 aGV b7)) (rM lL)) mixed Tryz.func202 (by kernel_rfl) (by kernel_rfl) λargs mem bU h=>by
 obtain⟨a,⟨rfl,aP⟩,rfl⟩:=Ey h;exact⟨tp rfl,aDu _ (nD rfl rfl) a mem aP⟩
theorem aG0:kQ Tryz.prog K0 (pj SO):=Ev (mf:=O2) (kb:=311000) (own:=[]) (rL (rv b7) (rM (oM aGZ lL))) mixed Tryz.func177 (by kernel_rfl) (by kernel_rfl) λargs mem bU h=>by
 obtain⟨a,⟨rfl,aP⟩,rfl⟩:=Ey h;exact⟨tp rfl,aDB _ (uo rfl rfl) a mem aP⟩
theorem aG1:kQ Tryz.prog Va (pj SP):=Ev (mf:=OZ) (kb:=300000) (own:=[]) (rL (rv (a5 aGY b7)) (rM (oM aG0 lL))) mixed Tryz.func122 (by kernel_rfl) (by kernel_rfl) λargs mem bU h=>by
 obtain⟨a,⟨rfl,aP⟩,rfl⟩:=Ey h;exact⟨tp rfl,aDE _ (nD rfl rfl) (uo rfl rfl) a mem aP⟩
theorem aG2:kQ Tryz.prog Vc (MR SQ):=ayl (mf:=O0) (kb:=302000) (own:=[]) (rL (rv b7) (rM lL)) mixed Tryz.func124 (by kernel_rfl) (by kernel_rfl) (λ_=>False) λargs mem d k h=>by
 obtain⟨a,⟨rfl,aP⟩,aU⟩:=ayn h
 cases aU;exact⟨tp rfl,λ_ h=>h.elim,λh=>h,aDL _  a mem aP⟩
theorem aG3:cz U5 acU:=xW XD 289000 [1000000000045] (a5 aow (a5 aGW b7)) (oM aG1 (oM aG2 lL)) Tryz.func65 fun⟨a3,a8,bY,c5,ey⟩=>cY λH=>⟨rfl,aET _ (uo rfl rfl) (uo rfl rfl) bg bg a3 a8 bY c5 ey H⟩
theorem aG4:cz U9 ab7:=cN XN 299000 [] (a5 aGQ b7) Tryz.func121 fun⟨a3,a8⟩=>cY λH=>⟨rfl,aCy _ bg a3 a8 H⟩
theorem aG5:kQ Tryz.prog Vd (pj NH):=Ev (mf:=O1) (kb:=304000) (own:=[]) (rL (rv (a5 adk (a5 aos b7))) (rM lL)) mixed Tryz.func125 (by kernel_rfl) (by kernel_rfl) λargs mem bU h=>by
 obtain⟨a,⟨rfl,aP⟩,rfl⟩:=Ey h;exact⟨tp rfl,aEb _ (nD rfl rfl) (nD rfl rfl) a mem aP⟩
theorem aG6:cz U6 acC:=xW XE 290000 [6] (a5 aow (a5 JB b7)) (oM aG5 lL) Tryz.func66 fun⟨a3,a8,bY,c5,ey⟩=>cY λH=>⟨rfl,aEf _ bg bg (uo rfl rfl) a3 a8 bY c5 ey H⟩
theorem aG7:cz U7 acI:=cN XJ 295000 [] (a5 adl b7) Tryz.func117 λa3=>cY λH=>⟨rfl,aEs _ bg a3 H⟩
theorem aG8:cz U8 acK:=cN XK 296000 [] (a5 Tm b7) Tryz.func118 fun⟨a3,a8⟩=>cY λH=>⟨rfl,aEv _ bg a3 a8 H⟩
theorem aG9:cz OU acM:=cN XL 297000 [] (a5 aoe b7) Tryz.func119 λa3=>cY λH=>⟨rfl,aEx _ bg a3 H⟩
theorem aHa:cz U3 acO:=cN XB 287000 [] (a5 aG7 (a5 aG8 (a5 aG9 b7))) Tryz.func63 fun⟨a3,a8,bY,c5,ey⟩=>cY λH=>⟨rfl,aEA _ bg bg bg a3 a8 bY c5 ey H⟩
theorem aHb:cz U4 acQ:=cN XC 288000 [] (a5 NN (a5 Th (a5 C4 (a5 aop (a5 aot (a5 aG4 b7)))))) Tryz.func64 fun⟨a3,a8,bY,c5,ey,iE⟩=>cY λH=>⟨rfl,aEH _ bg bg bg bg bg bg a3 a8 bY c5 ey iE H⟩
theorem aHc:cz U2 Ta:=cN XA 286000 [] (a5 aHa (a5 aHb (a5 aG3 (a5 aG6 b7)))) Tryz.func28 fun⟨a3,a8,bY,c5,ey⟩=>cY λH=>⟨rfl,aE7 _ bg bg bg bg a3 a8 bY c5 ey H⟩
theorem aHd:cz U1 ac7:=cN aaq 267000 [] (a5 adj (a5 aoh b7)) Tryz.func48 fun⟨a3,a8,bY,c5,ey⟩=>cY λH=>⟨rfl,aFK _ bg bg a3 a8 bY c5 ey H⟩
theorem aHe:cz arG ac9:=cN aar 285000 [] (a5 aGT (a5 aGq (a5 aov (a5 aGU (a5 aou (a5 aHc (a5 aHd (a5 adj (a5 C4 b7))))))))) Tryz.func9 fun⟨a3,a8,bY,c5⟩=>⟨rfl,aFP _ bg bg bg bg bg bg bg bg bg a3 a8 bY c5⟩
end Go.Mini
