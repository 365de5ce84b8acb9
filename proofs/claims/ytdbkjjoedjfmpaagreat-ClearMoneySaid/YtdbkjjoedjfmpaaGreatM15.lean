/- A part of the proof. -/
import Derived.Test.YtdbkjjoedjfmpaaGreatM14
import Derived.Test.YtdbkjjoedjfmpaaGreatM11
set_option linter.unusedSimpArgs false
set_option linter.unusedVariables false
open List renaming map_map → aii, map_congr_left → aij, length_map → aim, getElem?_eq_getElem → air, mem_of_getElem? → ais, getElem?_map → ait, take_add_one → aiu, take_of_length_le → aiv, length → aiw, range → aix, map_cons → aiA, map_nil → aiB, map_append → aiC, filter_cons_of_pos → aiD, filter_cons_of_neg → aiE, mem_map_of_mem → aiF, take_zero → aiM, foldl_append → aiO, getD_eq_getElem?_getD → aiP, filter_cons → aiQ, length_take → aiR, filter_append → aiS, filter_nil → aiT, append_nil → aiU, length_append → aiV, take_append_drop → aiX
open Prod renaming ext → aik
open Bool renaming false_eq_true → ail, not_false → ain, not_true → aio
open Nat renaming zero_le → aip, mul_le_mul → aiK, le_refl → aiL, reduceEqDiff → aiY
open Decidable renaming em → aiq
open Rat renaming add_zero → aiy, zero_add → aiz, le_trans → aiG, zero_mul → aiH, le_refl → aiI, natCast_mul → aiJ
open Option renaming toList_some → aiN
open Int renaming toNat_natCast → aiW
namespace Go.Mini
open Go
set_option maxRecDepth 10000
set_option maxHeartbeats 4000000
def js (l:List Int):List Data:=[.sl (l.map aa)]
theorem uk:∀ a b:List Int,js a=js b→a=b:=by
 intro a b h;simp only[js,List.cons.injEq,Data.sl.injEq,and_true] at h;exact af aj _ _ h
def Db (a:List (List Int)):Prop:=a.length≤1000000∧∀ l∈a,l.length≤1000000
theorem Hz (l:List (List Nat)):l.map nW=(l.map fun r=>r.map fun n=>((n:Nat):Int)).map js:=by
 rw[aii];refine aij fun r _=>?_
 simp only[nW,js,Function.comp_apply,aii]
 rfl
theorem r5 {x:Rat} (hx:bX x):eU [.agg (ad (ah x))]=some (.same (.bool true)):=by
 have h1:=dO hx;have:=A7 (ah x).1.1 (ah x).1.2 (ah x).2.1 (ah x).2.2 ⟨h1.1,h1.2⟩;rw[show bb (((ah x).1.1,(ah x).1.2),((ah x).2.1,(ah x).2.2))=true from me hx] at this;exact this
theorem oL {n:Int} (h:bZ n):nT [.int .i64 n]=some (.same (.agg (ad (ah (n:Rat))))):=zG n h
theorem sc (x:Rat):kO x x=0:=cmpQ_zero.2 rfl
noncomputable def lP:List Data→Option PRes:=FF (α:=(List (List Int)) × (List (List Int))) (fun (a,b)=>([.sl (a.map js),.sl (b.map js)]:List Data)) (fun (a,b)=>aG (Db a∧Db b) (.same (.bool (a==b))))
theorem qG:∀ a b:(List (List Int)) × (List (List Int)),(fun (a,b)=>([.sl (a.map js),.sl (b.map js)]:List Data)) a=(fun (a,b)=>([.sl (a.map js),.sl (b.map js)]:List Data)) b→a=b:=by
  rintro⟨a1,b1⟩ ⟨a2,b2⟩ h;simp only[List.cons.injEq,Data.sl.injEq,and_true] at h;exact aik (af uk _ _ h.1) (af uk _ _ h.2)
@[go_sem] theorem se (a:List (List Int)) (b:List (List Int)) (hc:Db a∧Db b):lP [.sl (a.map js),.sl (b.map js)]=some (.same (.bool (a==b))):=(aV qG (a,b)).trans (ak hc _)
theorem vO (T:Tab)  (a:List (List Int)) (b:List (List Int)) (hc:Db a∧Db b) :
  wp T mf_ref20_SameRounds.body (bt mf_ref20_SameRounds.res (.same (.bool (a==b)))) ⟨aw [.dat (.sl (a.map js)),.dat (.sl (b.map js))],emp⟩:=by
 refine ao ?_;simp only[mf_ref20_SameRounds];obtain⟨⟨la,oa⟩,⟨lb,ob⟩⟩:=hc;rcases hl:((a.length:Int)==(b.length:Int))
 ·have hab:(a==b)=false:=by rw[beq_eq_false_iff_ne];rintro rfl;simp at hl
  rw[hab];refine qI ?_
  repeat' (intro h<;>simp only[h,go_sem,go_sem_proc,ail,hl,aim,bne,ain]<;>try refine qS ?_ ?_)
 ·have hle:a.length=b.length:=by have:=eq_of_beq hl;omega
  simp only[go_sem,go_sem_proc,ail,hl,aim,bne,aio];refine ae [0,1] [] (fun (i:Nat) tm mem=>i≤a.length∧a.take i=b.take i∧tm 5 = .dat (.int .i64 i)) (fun i=>a.length-i) 0 (by refine⟨aip _,by simp,rfl⟩) ?_;intro vs ms hvs hms;simp only[go_sem,go_sem_proc,ail,aim] at hvs hms;subst hvs hms;rintro i tm mem hk hm ⟨hi,hall,e5⟩;simp only[go_sem,go_sem_proc,ail,List.cons.injEq] at hk hm;obtain⟨e0,e1⟩:=hk;rcases aiq (i<a.length) with hlt | hge
  ·have d1:decide ((i:Int)<(a.length:Int))=true:=decide_eq_true (by omega)
   have w3:IntKind.i64.wrap ((i:Int)+1)=((i+1:Nat):Int):=by rw[an _ (by omega) (by omega)];omega
   obtain⟨x,hx⟩:∃ x,a[i]?=some x:=⟨_,air hlt⟩;obtain⟨y,hy⟩:∃ x,b[i]?=some x:=⟨_,air (by omega)⟩;have ox:=oa x (ais hx);rcases q:((x.length:Int)==(y.length:Int))
   ·have hab:(a==b)=false:=by rw[beq_eq_false_iff_ne];rintro rfl;rw[hx] at hy;cases hy;simp at q
    rw[hab];refine qI ?_
    repeat' (intro h<;>simp only[h,go_sem,go_sem_proc,ail,e0,e1,e5,hx,hy,d1,q,js,aim,ait,bne,ain]<;>try refine qS ?_ ?_)
   ·have hxy:x.length=y.length:=by have:=eq_of_beq q;omega
    simp only[go_sem,go_sem_proc,ail,e0,e1,e5,hx,hy,d1,q,js,aim,ait,bne,aio];refine ae [0,1,5] [] (fun (k:Nat) tm mem=>k≤x.length∧x.take k=y.take k∧tm 6 = .dat (.int .i64 k)) (fun k=>x.length-k) 0 (by refine⟨aip _,by simp,rfl⟩) ?_;intro vs ms hvs hms;simp only[go_sem,go_sem_proc,ail,e0,e1,e5] at hvs hms;subst hvs hms;clear e0 e1 e5 hm tm mem;rintro k tm mem hk hm ⟨hki,hal2,e6⟩;simp only[go_sem,go_sem_proc,ail,List.cons.injEq] at hk hm;obtain⟨e0,e1,e5⟩:=hk;rcases aiq (k<x.length) with hlk | hgk
    ·have d2:decide ((k:Int)<(x.length:Int))=true:=decide_eq_true (by omega)
     have w4:IntKind.i64.wrap ((k:Int)+1)=((k+1:Nat):Int):=by rw[an _ (by omega) (by omega)];omega
     obtain⟨u,hu⟩:∃ u,x[k]?=some u:=⟨_,air hlk⟩;obtain⟨v,hv⟩:∃ u,y[k]?=some u:=⟨_,air (by omega)⟩;rcases q2:(u==v)
     ·have hab:(a==b)=false:=by
       rw[beq_eq_false_iff_ne];rintro rfl;rw[hx] at hy
       cases hy;rw[hu] at hv
       cases hv;simp at q2
      rw[hab];refine qI ?_
      repeat' (intro h<;>simp only[h,go_sem,go_sem_proc,ail,e0,e1,e5,e6,hx,hy,hu,hv,d2,q2,js,aa,aim,ait,bne,ain]<;>try refine qS ?_ ?_)
     ·have huv:u=v:=by simpa using q2
      refine qI ?_
      repeat' (intro h<;>simp only[h,go_sem,go_sem_proc,ail,e0,e1,e5,e6,hx,hy,hu,hv,d2,w4,q2,js,aa,aim,ait,bne,aio]<;>try refine qS ?_ ?_)
      exact⟨k+1,by omega,by omega,by rw[aiu,aiu,hal2,hu,hv,huv],rfl⟩
    ·have d2:decide ((k:Int)<(x.length:Int))=false:=decide_eq_false (by omega)
     rw[aiv (by omega),aiv (by omega)] at hal2;refine qI ?_
     repeat' (intro h<;>simp only[h,go_sem,go_sem_proc,ail,e0,e1,e5,e6,hx,d2,w3,js,aim,ait]<;>try refine qS ?_ ?_)
     exact⟨i+1,by omega,by omega,by rw[aiu,aiu,hall,hx,hy,hal2],rfl⟩
  ·have d1:decide ((i:Int)<(a.length:Int))=false:=decide_eq_false (by omega)
   rw[aiv (by omega),aiv (by omega)] at hall;have hab:(a==b)=true:=by rw[hall];exact beq_self_eq_true _;rw[hab];refine qI ?_
   repeat' (intro h<;>simp only[h,go_sem,go_sem_proc,ail,e0,e1,e5,d1,aim]<;>try refine qS ?_ ?_)
structure HasOK (cash:List Int) (cs:List ClR) (hv pv:List Int) (fl:List (List Int)):Prop where
 s:SmallD cash cs
 h:iI cash cs=hv.map fun n:Int=>ah (n:Rat)
 p:iy cash cs=pv.map fun n:Int=>ah (n:Rat)
 f:((ab cash cs).frs.map fun r=>r.map fun n=>((n:Nat):Int))=fl
 hi:∀ n∈hv,bZ n
 pi:∀ n∈pv,bZ n
 o:Db fl
theorem HasOK.solve {cash:List Int} {cs:List ClR} {hv pv:List Int} {fl:List (List Int)} (h:HasOK cash cs hv pv fl):lT [.sl (cash.map aa),.sl (cs.map clL)]=some (.same (.tup [.agg [.sl ((hv.map fun n:Int=>ah (n:Rat)).map ad),.sl ((pv.map fun n:Int=>ah (n:Rat)).map ad),.sl (fl.map js)],.int .i64 0])):=by
 have hn:=h.s.n5;have h12:=h.s.c12;have sv:=n8 cash cs ⟨by omega,by omega,fun _=>h.s⟩
 unfold Dl at sv;rw[if_pos h.s.right,h.h,h.p,Hz,h.f] at sv;exact sv
theorem HasOK.fits {cash:List Int} {cs:List ClR} {hv pv:List Int} {fl:List (List Int)} (h:HasOK cash cs hv pv fl):ta [.sl (cash.map aa),.sl (cs.map clL),.sl ((hv.map fun n:Int=>ah (n:Rat)).map ad)]=some (.same (.bool true)):=by
 obtain⟨h1,h2⟩:=Kx h.s;have:=CC cash cs (iI cash cs) h1;rw[h2,h.h] at this;exact this
theorem HasOK.small {cash:List Int} {cs:List ClR} {hv pv:List Int} {fl:List (List Int)} (h:HasOK cash cs hv pv fl):hv.length≤5∧pv.length≤12:=by
 have h1:=congrArg aiw h.h;have h2:=congrArg aiw h.p;unfold iI at h1;unfold iy at h2;rw[cW,aim] at h1;rw[aim,aim] at h2;have hn:=h.s.n5;have h12:=h.s.c12;omega
noncomputable def CH:List Data→Option PRes:=FF (α:=(List Int) × (List ClR) × (List Int) × (List Int) × (List (List Int))) (fun (cash,cs,hv,pv,fl)=>([.sl (cash.map aa),.sl (cs.map clL),.sl (hv.map aa),.sl (pv.map aa),.sl (fl.map js)]:List Data)) (fun (cash,cs,hv,pv,fl)=>aG (HasOK cash cs hv pv fl) (.same (.bool true)))
theorem Ea:∀ a b:(List Int) × (List ClR) × (List Int) × (List Int) × (List (List Int)),(fun (cash,cs,hv,pv,fl)=>([.sl (cash.map aa),.sl (cs.map clL),.sl (hv.map aa),.sl (pv.map aa),.sl (fl.map js)]:List Data)) a=(fun (cash,cs,hv,pv,fl)=>([.sl (cash.map aa),.sl (cs.map clL),.sl (hv.map aa),.sl (pv.map aa),.sl (fl.map js)]:List Data)) b→a=b:=by
  rintro⟨cash1,cs1,hv1,pv1,fl1⟩ ⟨cash2,cs2,hv2,pv2,fl2⟩ h;simp only[List.cons.injEq,Data.sl.injEq,and_true] at h;exact aik (af aj _ _ h.1) (aik (af eS _ _ h.2.1) (aik (af aj _ _ h.2.2.1) (aik (af aj _ _ h.2.2.2.1) (af uk _ _ h.2.2.2.2))))
@[go_sem] theorem oV (cash:List Int) (cs:List ClR) (hv:List Int) (pv:List Int) (fl:List (List Int)) (hc:HasOK cash cs hv pv fl):CH [.sl (cash.map aa),.sl (cs.map clL),.sl (hv.map aa),.sl (pv.map aa),.sl (fl.map js)]=some (.same (.bool true)):=(aV Ea (cash,cs,hv,pv,fl)).trans (ak hc _)
theorem Ox (T:Tab) (cy:T dU=mkE lT) (dz:T gE=mkE lP) (cT:T f5=mkE nT) (av:T aT=mkE dc) (aF:T aQ=mkE eU) (kl:T lB=mkE ta) (cash:List Int) (cs:List ClR) (hv:List Int) (pv:List Int) (fl:List (List Int)) (hc:HasOK cash cs hv pv fl) :
  wp T mf_law20_has.body (bt mf_law20_has.res (.same (.bool true))) ⟨aw [.dat (.sl (cash.map aa)),.dat (.sl (cs.map clL)),.dat (.sl (hv.map aa)),.dat (.sl (pv.map aa)),.dat (.sl (fl.map js))],emp⟩:=by
 refine ao ?_;simp only[mf_law20_has];have sv:=hc.solve;have ft:=hc.fits;have sr:=se fl fl ⟨hc.o,hc.o⟩;rw[beq_self_eq_true] at sr;obtain⟨l1,l2⟩:=hc.small;have hhi:=hc.hi;have hpi:=hc.pi;clear hc;simp only[go_sem,go_sem_proc,ail,cy,dz,cT,av,aF,kl,sv,sr,aim,bne,beq_self_eq_true,aio];refine ae [0,1,2,3,11] [226011] (fun (i:Nat) tm mem=>i≤hv.length∧tm 13 = .dat (.int .i64 i)) (fun i=>hv.length-i) 0 (by refine⟨aip _,rfl⟩) ?_;intro vs ms hvs hms;simp only[go_sem,go_sem_proc,ail,cy,dz,cT,av,aF,kl,aim] at hvs hms;subst hvs hms;rintro i tm mem hk hm ⟨hi,e13⟩;simp only[go_sem,go_sem_proc,ail,cy,dz,cT,av,aF,kl,List.cons.injEq] at hk hm;obtain⟨e0,e1,e2,e3,e11⟩:=hk;rcases aiq (i<hv.length) with hlt | hge
 ·have d1:decide ((i:Int)<(hv.length:Int))=true:=decide_eq_true (by omega)
  have w3:IntKind.i64.wrap ((i:Int)+1)=((i+1:Nat):Int):=by rw[an _ (by omega) (by omega)];omega
  obtain⟨n,hn⟩:∃ n,hv[i]?=some n:=⟨_,air hlt⟩;have hin:=hhi n (ais hn);have hl:=ew hin;have a1:=oL hin;have a2:=fp hl hl;have a3:=r5 hl;rw[sc] at a2;generalize hF:ah ((n:Int):Rat)=F at *;obtain⟨⟨f1,f2⟩,⟨f3,f4⟩⟩:=F;simp only[ad] at a1 a2 a3;refine qI ?_
  repeat' (intro h<;>simp only[h,go_sem,go_sem_proc,ail,cy,dz,cT,av,aF,kl,e0,e1,e2,e3,e11,e13,hm,hn,hF,d1,w3,a1,a2,a3,ad,aa,aim,ait,bne,beq_self_eq_true,aio]<;>try refine qS ?_ ?_)
  exact⟨i+1,by omega,by omega,rfl⟩
 ·have d1:decide ((i:Int)<(hv.length:Int))=false:=decide_eq_false (by omega)
  simp only[go_sem,go_sem_proc,ail,cy,dz,cT,av,aF,kl,e0,e1,e2,e3,e11,e13,hm,d1,aim];refine ae [0,1,3,11] [226011] (fun (i:Nat) tm mem=>i≤pv.length∧tm 14 = .dat (.int .i64 i)) (fun i=>pv.length-i) 0 (by refine⟨aip _,rfl⟩) ?_;intro vs ms hvs hms;simp only[go_sem,go_sem_proc,ail,cy,dz,cT,av,aF,kl,e0,e1,e3,e11,hm,aim] at hvs hms;subst hvs hms;clear e0 e1 e2 e3 e11 e13 hm d1 tm mem;rintro i tm mem hk hm ⟨hi,e14⟩;simp only[go_sem,go_sem_proc,ail,cy,dz,cT,av,aF,kl,List.cons.injEq] at hk hm;obtain⟨e0,e1,e3,e11⟩:=hk;rcases aiq (i<pv.length) with hlt | hge
  ·have d1:decide ((i:Int)<(pv.length:Int))=true:=decide_eq_true (by omega)
   have w3:IntKind.i64.wrap ((i:Int)+1)=((i+1:Nat):Int):=by rw[an _ (by omega) (by omega)];omega
   obtain⟨n,hn⟩:∃ n,pv[i]?=some n:=⟨_,air hlt⟩;have hin:=hpi n (ais hn);have hl:=ew hin;have a1:=oL hin;have a2:=fp hl hl;have a3:=r5 hl;rw[sc] at a2;generalize hF:ah ((n:Int):Rat)=F at *;obtain⟨⟨f1,f2⟩,⟨f3,f4⟩⟩:=F;simp only[ad] at a1 a2 a3;refine qI ?_
   repeat' (intro h<;>simp only[h,go_sem,go_sem_proc,ail,cy,dz,cT,av,aF,kl,e0,e1,e3,e11,e14,hm,hn,hF,d1,w3,a1,a2,a3,ad,aa,aim,ait,bne,beq_self_eq_true,aio]<;>try refine qS ?_ ?_)
   exact⟨i+1,by omega,by omega,rfl⟩
  ·have d1:decide ((i:Int)<(pv.length:Int))=false:=decide_eq_false (by omega)
   refine qI ?_
   repeat' (intro h<;>simp only[h,go_sem,go_sem_proc,ail,cy,dz,cT,av,aF,kl,e0,e1,e3,e11,e14,hm,d1,ft,aim]<;>try refine qS ?_ ?_)
end Go.Mini
namespace Go.Mini
open Classical
theorem u7 {d:Day} {f:Nat→Nat} {l:List Nat} (h:d.falls f=l) (hl:l≠[]) (k:Nat):(d.rounds (k+1) f).1=l::(d.rounds k (d.fallen f (d.top f))).1∧(d.rounds (k+1) f).2=(d.rounds k (d.fallen f (d.top f))).2:=by
 rw[Day.rounds,if_neg (by rw[h];exact hl),h];exact⟨rfl,rfl⟩
theorem pG {d:Day} (hn:d.n=2) (f:Nat→Nat):d.falls f=(if d.top f 0<d.U 0 (f 0) then [0] else [])++if d.top f 1<d.U 1 (f 1) then [1] else []:=by
 unfold Day.falls;rw[hn,show aix 2=[0,1] from rfl]
 by_cases h0:d.top f 0<d.U 0 (f 0)<;>by_cases h1:d.top f 1<d.U 1 (f 1)<;>simp [h0,h1]
theorem IY {d:Day} (hn:d.n=1) (f:Nat→Nat):d.falls f=(if d.top f 0<d.U 0 (f 0) then [0] else []):=by
 unfold Day.falls;rw[hn,show aix 1=[0] from rfl]
 by_cases h0:d.top f 0<d.U 0 (f 0)<;>simp [h0]
theorem oB {d:Day} {f:Nat→Nat} {h:Nat→Rat} {i:Nat} (hh:¬ h i<d.U i (f i)):d.fallen f h i=f i:=if_neg fun x=>hh x.2
theorem ma {d:Day} {f:Nat→Nat} {h:Nat→Rat} {i r:Nat} (hi:i<d.n) (hh:h i<d.U i (f i)) (hr:r<10) (h1:∀ j,j<r→d.U i (j+1)≤h i) (h2:h i<d.U i (r+1)):d.fallen f h i=r:=by
 unfold Day.fallen;rw[if_pos ⟨hi,hh⟩]
 have:∀ k,k≤10→10-k≤r→d.fallRank h i k=r:=by
  intro k
  induction k with
  | zero=>intro _ h;omega
  | succ k ih =>
   intro hk hle;rw[Day.fallRank]
   by_cases he:10-(k+1)=r
   ·rw[if_pos (by rw[he];exact h2),he]
   ·rw[if_neg (by have:=h1 (10-(k+1)) (by omega);grind)]
    exact ih (by omega) (by omega)
 exact this 10 (by omega) (by omega)
theorem fz {d:Day} (hd:d.OK) {f:Nat→Nat} (hr:Reach d f):∀ i,i<d.n→d.top f i=d.into (d.q f (d.top f)) i:=by
 obtain⟨g,h1,h2,h3⟩:=Day.top_spec (hd.hex f hr);exact h2
theorem Q9 {d:Day} (hn:d.n=2) {f1:Nat→Nat} {l:List Nat} (h:d.falls (fun _=>10)=l) (hl:l≠[]) (hf:d.fallen (fun _=>10) (d.top fun _=>10)=f1) (h1:d.falls f1=[]):d.frs=[l]∧d.gr=d.top f1:=by
 have h2:=u7 h hl 19;rw[hf,d.rounds_stop h1] at h2;unfold Day.frs Day.gr Day.fend;rw[hn];exact⟨h2.1,by rw[show 10*2=19+1 from rfl,h2.2]⟩
theorem Rz {d:Day} (hn:d.n=1) {f1:Nat→Nat} {l:List Nat} (h:d.falls (fun _=>10)=l) (hl:l≠[]) (hf:d.fallen (fun _=>10) (d.top fun _=>10)=f1) (h1:d.falls f1=[]):d.frs=[l]∧d.gr=d.top f1:=by
 have h2:=u7 h hl 9;rw[hf,d.rounds_stop h1] at h2;unfold Day.frs Day.gr Day.fend;rw[hn];exact⟨h2.1,by rw[show 10*1=9+1 from rfl,h2.2]⟩
def e1:Day:=ab [5,0] [(0,1,0,10),(1,-1,0,4)]
theorem SM:e1.OK:=lS (by decide)
theorem ut:e1.cl=[⟨0,1,0,10⟩,⟨1,-1,0,4⟩]:=rfl
theorem TO:e1.cash 0=5∧e1.cash 1=0:=⟨rfl,rfl⟩
theorem Rj:e1.gr 0=5∧e1.gr 1=5∧e1.frs=[[0]]:=by
 have hd:=SM;obtain⟨c0,c1⟩:=TO;have r0:=Reach.start hd;have U0:∀ r,0<r→e1.U 0 r=10:=fun r hr=>by simp [ut,Day.U,sumC,aiy,aiz,hr]
 have U1:∀ r,0<r→e1.U 1 r=4:=fun r hr=>by simp [ut,Day.U,sumC,aiy,aiz,hr]
 have S0:e1.S 0 0=10:=by simp [ut,Day.S,sumC,aiy,aiz]
 have w0:e1.w ⟨0,1,0,10⟩=1:=by simp only[Day.w,S0];decide +kernel
 have t0:e1.top (fun _=>10) 0=5:=by rw[fz hd r0 0 (by decide)];simp [ut,Day.into,Day.q,sumC,c0,aiy,aiz]
 have t1:e1.top (fun _=>10) 1=10:=by rw[fz hd r0 1 (by decide)];simp [ut,Day.into,Day.q,sumC,c1,aiy,aiz]
 have f1:e1.falls (fun _=>10)=[0]:=by
  rw[pG rfl,t0,t1,U0 10 (by omega),U1 10 (by omega),if_pos (by decide +kernel),if_neg (by decide +kernel)];rfl
 have r1:=r0.next hd hd.hex;have g0:e1.fallen (fun _=>10) (e1.top fun _=>10) 0=0:=ma (by decide) (by rw[t0,U0 10 (by omega)];decide +kernel) (by omega) (fun j hj=>by omega) (by rw[t0,U0 1 (by omega)];decide +kernel)
 have g1:e1.fallen (fun _=>10) (e1.top fun _=>10) 1=10:=oB (by rw[t1,U1 10 (by omega)];decide +kernel);generalize hF:e1.fallen (fun _=>10) (e1.top fun _=>10)=F at *;have s0:e1.top F 0=5:=by rw[fz hd r1 0 (by decide)];simp [ut,Day.into,Day.q,sumC,c0,aiy,aiz]
 have s1:e1.top F 1=5:=by
  rw[fz hd r1 1 (by decide)];have hp:pos (5-0)=5:=by decide +kernel
  simp [ut,Day.into,Day.q,sumC,c1,g0,g1,w0,s0,e1.U_zero,hp,aiy,aiz]
  try grind
 have f2:e1.falls F=[]:=by
  rw[pG rfl,s0,s1,g0,g1,e1.U_zero,U1 10 (by omega),if_neg (by decide +kernel),if_neg (by decide +kernel)];rfl
 obtain⟨h1,h2⟩:=Q9 rfl f1 (by decide) hF f2;rw[h2];exact⟨s0,s1,h1⟩
def e2:Day:=ab [0,0] [(0,1,1,10),(1,0,1,10)]
theorem Ss:e2.OK:=lS (by decide)
theorem Ev:e2.cl=[⟨0,1,1,10⟩,⟨1,0,1,10⟩]:=rfl
theorem TC:e2.cash 0=0∧e2.cash 1=0:=⟨rfl,rfl⟩
theorem Sh:e2.gr 0=10∧e2.gr 1=10∧e2.frs=[]:=by
 have hd:=Ss;obtain⟨c0,c1⟩:=TC;have r0:=Reach.start hd;have U0:∀ r,1<r→e2.U 0 r=10:=fun r hr=>by simp [Ev,Day.U,sumC,aiy,aiz,hr]
 have U1:∀ r,1<r→e2.U 1 r=10:=fun r hr=>by simp [Ev,Day.U,sumC,aiy,aiz,hr]
 have t0:e2.top (fun _=>10) 0=10:=by rw[fz hd r0 0 (by decide)];simp [Ev,Day.into,Day.q,sumC,c0,aiy,aiz]
 have t1:e2.top (fun _=>10) 1=10:=by rw[fz hd r0 1 (by decide)];simp [Ev,Day.into,Day.q,sumC,c1,aiy,aiz]
 have f1:e2.falls (fun _=>10)=[]:=by
  rw[pG rfl,t0,t1,U0 10 (by omega),U1 10 (by omega),if_neg (by decide +kernel)];rfl
 have h1:=e2.rounds_stop f1 (10*e2.n);unfold Day.gr Day.fend Day.frs;rw[h1];exact⟨t0,t1,rfl⟩
def e4:Day:=ab [9] [(0,-1,0,6),(0,-1,1,2),(0,-1,1,4)]
theorem SO:e4.OK:=lS (by decide)
theorem Fm:e4.cl=[⟨0,-1,0,6⟩,⟨0,-1,1,2⟩,⟨0,-1,1,4⟩]:=rfl
theorem TI:e4.cash 0=9:=rfl
theorem Rt:e4.gr 0=9∧e4.frs=[[0]]:=by
 have hd:=SO;have c0:=TI;have r0:=Reach.start hd;have tt:∀ f,Reach e4 f→e4.top f 0=9:=fun f hr=>by rw[fz hd hr 0 (by decide)];simp [Fm,Day.into,Day.q,sumC,c0,aiy,aiz];have U10:e4.U 0 10=12:=by simp only[Fm,Day.U,sumC];decide +kernel
 have U1:e4.U 0 1=6:=by simp only[Fm,Day.U,sumC];decide +kernel
 have U2:e4.U 0 2=12:=by simp only[Fm,Day.U,sumC];decide +kernel
 have t0:=tt _ r0
 have f1:e4.falls (fun _=>10)=[0]:=by
  rw[IY rfl,t0,U10,if_pos (by decide +kernel)]
 have r1:=r0.next hd hd.hex;have g0:e4.fallen (fun _=>10) (e4.top fun _=>10) 0=1:=ma (by decide) (by rw[t0,U10];decide +kernel) (by omega) (fun j hj=>by rw[show j=0 by omega,t0,U1];decide +kernel) (by rw[t0,U2];decide +kernel)
 generalize hF:e4.fallen (fun _=>10) (e4.top fun _=>10)=F at *;have s0:=tt _ r1
 have f2:e4.falls F=[]:=by
  rw[IY rfl,s0,g0,U1,if_neg (by decide +kernel)]
 obtain⟨h1,h2⟩:=Rz rfl f1 (by decide) hF f2;rw[h2];exact⟨s0,h1⟩
theorem RO {d:Day} (hn:d.n=2) {f1 f2 f3:Nat→Nat} {l1 l2 l3:List Nat} (h1:d.falls (fun _=>10)=l1) (hl1:l1≠[]) (hf1:d.fallen (fun _=>10) (d.top fun _=>10)=f1) (h2:d.falls f1=l2) (hl2:l2≠[]) (hf2:d.fallen f1 (d.top f1)=f2) (h3:d.falls f2=l3) (hl3:l3≠[]) (hf3:d.fallen f2 (d.top f2)=f3) (h4:d.falls f3=[]):d.frs=[l1,l2,l3]∧d.gr=d.top f3:=by
 have k1:=u7 h1 hl1 19;have k2:=u7 h2 hl2 18;have k3:=u7 h3 hl3 17;rw[hf1] at k1;rw[hf2] at k2;rw[hf3,d.rounds_stop h4] at k3;unfold Day.frs Day.gr Day.fend;rw[hn];refine⟨?_,?_⟩
 ·rw[show 10*2=19+1 from rfl,k1.1,show 19=18+1 from rfl,k2.1,show 18=17+1 from rfl,k3.1]
 ·rw[show 10*2=19+1 from rfl,k1.2,show 19=18+1 from rfl,k2.2,show 18=17+1 from rfl,k3.2]
def e3:Day:=ab [0,0] [(0,1,1,10),(1,0,1,10),(0,-1,0,5)]
theorem RJ:e3.OK:=lS (by decide)
theorem kz:e3.cl=[⟨0,1,1,10⟩,⟨1,0,1,10⟩,⟨0,-1,0,5⟩]:=rfl
theorem TK:e3.cash 0=0∧e3.cash 1=0:=⟨rfl,rfl⟩
theorem Jn {x y:Rat} (h:x=pos y):(y≤0∧x=0)∨(0≤y∧x=y):=by
 unfold pos at h
 split at h
 ·left;constructor<;>grind
 ·right;constructor<;>grind
theorem Sx:e3.gr 0=0∧e3.gr 1=0∧e3.frs=[[0],[1],[0]]:=by
 have hd:=RJ;obtain⟨c0,c1⟩:=TK;have r0:=Reach.start hd;have U01:e3.U 0 1=5:=by simp only[kz,Day.U,sumC];decide +kernel
 have U02:e3.U 0 2=15:=by simp only[kz,Day.U,sumC];decide +kernel
 have U0:e3.U 0 10=15:=by simp only[kz,Day.U,sumC];decide +kernel
 have U11:e3.U 1 1=0:=by simp only[kz,Day.U,sumC];decide +kernel
 have U12:e3.U 1 2=10:=by simp only[kz,Day.U,sumC];decide +kernel
 have U1:e3.U 1 10=10:=by simp only[kz,Day.U,sumC];decide +kernel
 have S01:e3.S 0 1=10:=by simp only[kz,Day.S,sumC];decide +kernel
 have S11:e3.S 1 1=10:=by simp only[kz,Day.S,sumC];decide +kernel
 have w0:e3.w ⟨0,1,1,10⟩=1:=by simp only[Day.w,S01];decide +kernel
 have w1:e3.w ⟨1,0,1,10⟩=1:=by simp only[Day.w,S11];decide +kernel
 have t0:e3.top (fun _=>10) 0=10:=by rw[fz hd r0 0 (by decide)];simp [kz,Day.into,Day.q,sumC,c0,aiy,aiz]
 have t1:e3.top (fun _=>10) 1=10:=by rw[fz hd r0 1 (by decide)];simp [kz,Day.into,Day.q,sumC,c1,aiy,aiz]
 have f1:e3.falls (fun _=>10)=[0]:=by
  rw[pG rfl,t0,t1,U0,U1,if_pos (by decide +kernel),if_neg (by decide +kernel)];rfl
 have r1:=r0.next hd hd.hex;have g0:e3.fallen (fun _=>10) (e3.top fun _=>10) 0=1:=ma (by decide) (by rw[t0,U0];decide +kernel) (by omega) (fun j hj=>by rw[show j=0 by omega,t0,U01];decide +kernel) (by rw[t0,U02];decide +kernel)
 have g1:e3.fallen (fun _=>10) (e3.top fun _=>10) 1=10:=oB (by rw[t1,U1];decide +kernel);generalize hF:e3.fallen (fun _=>10) (e3.top fun _=>10)=F at *;have s0:e3.top F 0=10:=by rw[fz hd r1 0 (by decide)];simp [kz,Day.into,Day.q,sumC,c0,g1,aiy,aiz]
 have s1:e3.top F 1=5:=by
  have hp:pos (10-5)=5:=by decide +kernel
  rw[fz hd r1 1 (by decide)];simp [kz,Day.into,Day.q,sumC,c1,g0,w0,s0,U01,hp,aiy,aiz]
  try grind
 have f2:e3.falls F=[1]:=by
  rw[pG rfl,s0,s1,g0,g1,U01,U1,if_neg (by decide +kernel),if_pos (by decide +kernel)];rfl
 have r2:=r1.next hd hd.hex;have k0:e3.fallen F (e3.top F) 0=1:=(oB (by rw[s0,g0,U01];decide +kernel)).trans g0
 have k1:e3.fallen F (e3.top F) 1=1:=ma (by decide) (by rw[s1,g1,U1];decide +kernel) (by omega) (fun j hj=>by rw[show j=0 by omega,s1,U11];decide +kernel) (by rw[s1,U12];decide +kernel);generalize hG:e3.fallen F (e3.top F)=G at *;have x0:=fz hd r2 0 (by decide);have x1:=fz hd r2 1 (by decide);simp [kz,Day.into,Day.q,sumC,c0,c1,k0,k1,w0,w1,U01,U11,aiy,aiz,Rat.one_mul] at x0 x1
 have v:e3.top G 0=0∧e3.top G 1=0:=by
  rcases Jn x0 with ⟨y1,y2⟩ | ⟨y1,y2⟩<;>rcases Jn x1 with ⟨z1,z2⟩ | ⟨z1,z2⟩<;>constructor<;>grind
 obtain⟨v0,v1⟩:=v
 have f3:e3.falls G=[0]:=by
  rw[pG rfl,v0,v1,k0,k1,U01,U11,if_pos (by decide +kernel),if_neg (by decide +kernel)];rfl
 have r3:=r2.next hd hd.hex;have m0:e3.fallen G (e3.top G) 0=0:=ma (by decide) (by rw[v0,k0,U01];decide +kernel) (by omega) (fun j hj=>by omega) (by rw[v0,U01];decide +kernel)
 have m1:e3.fallen G (e3.top G) 1=1:=(oB (by rw[v1,k1,U11];decide +kernel)).trans k1;generalize hH:e3.fallen G (e3.top G)=H at *
 have p1:e3.top H 1=0:=by
  rw[fz hd r3 1 (by decide)];simp [kz,Day.into,Day.q,sumC,c1,m0,aiy,aiz]
 have p0:e3.top H 0=0:=by
  have hp:pos (0-0)=0:=by decide +kernel
  rw[fz hd r3 0 (by decide)];simp [kz,Day.into,Day.q,sumC,c0,m1,w1,p1,U11,hp,aiy,aiz]
 have f4:e3.falls H=[]:=by
  rw[pG rfl,p0,p1,m0,m1,e3.U_zero,U11,if_neg (by decide +kernel)];rfl
 obtain⟨h1,h2⟩:=RO rfl f1 (by decide) hF f2 (by decide) hG f3 (by decide) hH f4;rw[h2];exact⟨p0,p1,h1⟩
def e5:Day:=ab [10,30] [(1,-1,0,25)]
def e6:Day:=ab [10,0] [(0,1,0,30)]
def e7:Day:=ab [30,0] [(0,1,0,30)]
end Go.Mini
namespace Go.Mini
open Go
set_option maxRecDepth 10000
set_option maxHeartbeats 4000000
theorem Tx:HasOK [5,0] [(0,1,0,10),(1,-1,0,4)] [5,5] [5,4] [[0]]:=by
 obtain⟨g0,g1,g2⟩:=Rj;refine⟨⟨by decide,by decide,by decide,by decide⟩,?_,?_,?_,fun n hn=>?_,fun n hn=>?_,by decide,by decide⟩
 ·show [ah (e1.gr 0),ah (e1.gr 1)]=_
  rw[g0,g1];rfl
 ·show [ah (bQ _ (e1.gr 0) _),ah (bQ _ (e1.gr 1) _)]=_
  rw[g0,g1,show bQ [(0,1,0,10),(1,-1,0,4)] 5 (0,1,0,10)=5 by decide +kernel,show bQ [(0,1,0,10),(1,-1,0,4)] 5 (1,-1,0,4)=4 by decide +kernel];rfl
 ·show e1.frs.map _=_
  rw[g2];rfl
 ·simp at hn;subst hn;exact dG (by omega) (by omega)
 ·simp at hn;rcases hn with rfl | rfl<;>exact dG (by omega) (by omega)
theorem To:HasOK [0,0] [(0,1,1,10),(1,0,1,10)] [10,10] [10,10] []:=by
 obtain⟨g0,g1,g2⟩:=Sh;refine⟨⟨by decide,by decide,by decide,by decide⟩,?_,?_,?_,fun n hn=>?_,fun n hn=>?_,by decide,by decide⟩
 ·show [ah (e2.gr 0),ah (e2.gr 1)]=_
  rw[g0,g1];rfl
 ·show [ah (bQ _ (e2.gr 0) _),ah (bQ _ (e2.gr 1) _)]=_
  rw[g0,g1,show bQ [(0,1,1,10),(1,0,1,10)] 10 (0,1,1,10)=10 by decide +kernel,show bQ [(0,1,1,10),(1,0,1,10)] 10 (1,0,1,10)=10 by decide +kernel];rfl
 ·show e2.frs.map _=_
  rw[g2];rfl
 ·simp at hn;subst hn;exact dG (by omega) (by omega)
 ·simp at hn;subst hn;exact dG (by omega) (by omega)
theorem TA:HasOK [0,0] [(0,1,1,10),(1,0,1,10),(0,-1,0,5)] [0,0] [0,0,0] [[0],[1],[0]]:=by
 obtain⟨g0,g1,g2⟩:=Sx;refine⟨⟨by decide,by decide,by decide,by decide⟩,?_,?_,?_,fun n hn=>?_,fun n hn=>?_,by decide,by decide⟩
 ·show [ah (e3.gr 0),ah (e3.gr 1)]=_
  rw[g0,g1];rfl
 ·show [ah (bQ _ (e3.gr 0) _),ah (bQ _ (e3.gr 1) _),ah (bQ _ (e3.gr 0) _)]=_
  rw[g0,g1,show bQ [(0,1,1,10),(1,0,1,10),(0,-1,0,5)] 0 (0,1,1,10)=0 by decide +kernel,show bQ [(0,1,1,10),(1,0,1,10),(0,-1,0,5)] 0 (1,0,1,10)=0 by decide +kernel,show bQ [(0,1,1,10),(1,0,1,10),(0,-1,0,5)] 0 (0,-1,0,5)=0 by decide +kernel];rfl
 ·show e3.frs.map _=_
  rw[g2];rfl
 ·simp at hn;subst hn;exact dG (by omega) (by omega)
 ·simp at hn;subst hn;exact dG (by omega) (by omega)
theorem TG:HasOK [9] [(0,-1,0,6),(0,-1,1,2),(0,-1,1,4)] [9] [6,1,2] [[0]]:=by
 obtain⟨g0,g2⟩:=Rt;refine⟨⟨by decide,by decide,by decide,by decide⟩,?_,?_,?_,fun n hn=>?_,fun n hn=>?_,by decide,by decide⟩
 ·show [ah (e4.gr 0)]=_
  rw[g0];rfl
 ·show [ah (bQ _ (e4.gr 0) _),ah (bQ _ (e4.gr 0) _),ah (bQ _ (e4.gr 0) _)]=_
  rw[g0,show bQ [(0,-1,0,6),(0,-1,1,2),(0,-1,1,4)] 9 (0,-1,0,6)=6 by decide +kernel,show bQ [(0,-1,0,6),(0,-1,1,2),(0,-1,1,4)] 9 (0,-1,1,2)=1 by decide +kernel,show bQ [(0,-1,0,6),(0,-1,1,2),(0,-1,1,4)] 9 (0,-1,1,4)=2 by decide +kernel];rfl
 ·show e4.frs.map _=_
  rw[g2];rfl
 ·simp at hn;subst hn;exact dG (by omega) (by omega)
 ·simp at hn;rcases hn with rfl | rfl | rfl<;>exact dG (by omega) (by omega)
noncomputable def vi:List Data→Option PRes:=FF (α:=Unit) (fun (_:Unit)=>([]:List Data)) (fun (_:Unit)=>some (.same (.bool true)))
theorem zt:∀ a b:Unit,(fun (_:Unit)=>([]:List Data)) a=(fun (_:Unit)=>([]:List Data)) b→a=b:=by
  intro _ _ _;rfl
@[go_sem] theorem A3 :vi []=some (.same (.bool true)):=aV zt ()
theorem Jt (T:Tab) (PK:T gv=mkE CH) (cy:T dU=mkE lT)  :
  wp T mf_law20_small.body (bt mf_law20_small.res (.same (.bool true))) ⟨aw [],emp⟩:=by
 refine ao ?_;simp only[mf_law20_small];have k1:=oV _ _ _ _ _ Tx;have k2:=oV _ _ _ _ _ To;have k3:=oV _ _ _ _ _ TA;have k4:=oV _ _ _ _ _ TG;have k5:=n8 [-1] [] ⟨by decide,by decide,fun h=>absurd h (by decide)⟩
 have k6:Dl [-1] [] = .tup [.agg [.sl [],.sl [],.sl []],.int .i64 1]:=if_neg (by decide);rw[k6] at k5;simp only[aiA,aiB,aa,clL,js] at k1 k2 k3 k4 k5;have hD:toD 6 (ay emp 215019 0 [.dat (.int .i64 0),.dat (.int .i64 1),.dat (.int .i64 1),.dat (.int .i64 10),.dat (.int .i64 1),.dat (.int .i64 0),.dat (.int .i64 1),.dat (.int .i64 10)]) (.ref 215019 0 4 0 2)=some (.sl [[.int .i64 0,.int .i64 1,.int .i64 1,.int .i64 10],[.int .i64 1,.int .i64 0,.int .i64 1,.int .i64 10]]):=rfl;have hap:kY 215019 0 4 2 32 1 [.dat (.int .i64 0),.dat (.int .i64 (-1)),.dat (.int .i64 0),.dat (.int .i64 5)] (some (0,[.dat (.int .i64 0),.dat (.int .i64 1),.dat (.int .i64 1),.dat (.int .i64 10),.dat (.int .i64 1),.dat (.int .i64 0),.dat (.int .i64 1),.dat (.int .i64 10)]))=some (.ref 215019 1 4 0 3,some (215019,1,[.dat (.int .i64 0),.dat (.int .i64 1),.dat (.int .i64 1),.dat (.int .i64 10),.dat (.int .i64 1),.dat (.int .i64 0),.dat (.int .i64 1),.dat (.int .i64 10),.dat (.int .i64 0),.dat (.int .i64 (-1)),.dat (.int .i64 0),.dat (.int .i64 5)])):=cZ li tc 215019 0 32 [(0,1,1,10),(1,0,1,10)] (0,-1,0,5) rfl (by decide) (by decide);have hD2:toD 6 (ay (ay emp 215019 0 [.dat (.int .i64 0),.dat (.int .i64 1),.dat (.int .i64 1),.dat (.int .i64 10),.dat (.int .i64 1),.dat (.int .i64 0),.dat (.int .i64 1),.dat (.int .i64 10)]) 215019 1 [.dat (.int .i64 0),.dat (.int .i64 1),.dat (.int .i64 1),.dat (.int .i64 10),.dat (.int .i64 1),.dat (.int .i64 0),.dat (.int .i64 1),.dat (.int .i64 10),.dat (.int .i64 0),.dat (.int .i64 (-1)),.dat (.int .i64 0),.dat (.int .i64 5)]) (.ref 215019 1 4 0 3)=some (.sl [[.int .i64 0,.int .i64 1,.int .i64 1,.int .i64 10],[.int .i64 1,.int .i64 0,.int .i64 1,.int .i64 10],[.int .i64 0,.int .i64 (-1),.int .i64 0,.int .i64 5]]):=rfl;refine qI ?_
 repeat' (intro h<;>simp only[h,go_sem,go_sem_proc,ail,PK,cy,k1,k2,k3,k4,k5,hD,hap,hD2,pQ,Option.bind_none,scalar,beq_self_eq_true]<;>try refine qS ?_ ?_)
namespace Go.Mini
open Go
set_option maxRecDepth 10000
set_option maxHeartbeats 4000000
namespace Go.Mini
open Classical
section
variable {cash:List Int} {cs:List ClR} (hs:SmallD cash cs)
include hs
noncomputable def dA (cash:List Int) (cs:List ClR) (i:Nat) (l:List ClR):Rat:=(ab cash cs).gr i-sumC (l.map bc) fun c=>(ab cash cs).pay (ab cash cs).gr c
omit hs in
theorem Hk (i:Nat) (l:List ClR) (c:ClR):dA cash cs i (l++[c])=dA cash cs i l-(ab cash cs).pay (ab cash cs).gr (bc c):=by
 unfold dA;rw[aiC,iN]
 show _-(_+((ab cash cs).pay (ab cash cs).gr (bc c)+0))=_;rw[aiy];grind
theorem LY (i:Nat) (F:Cl→Rat):sumC ((ba cs i).map bc) F=sumC (ab cash cs).cl fun c=>if c.fr=i then F c else 0:=by
 have hr:=(rightD_iff.1 hs.right).2.2.2
 have e:∀ l:List ClR,(∀ c∈l,c∈cs)→sumC ((ba l i).map bc) F=sumC (l.map bc) fun c=>if c.fr=i then F c else 0:=by
  intro l
  induction l with
  | nil=>intro _;rfl
  | cons c l ih =>
   intro hm;have h0:=(hr c (hm c List.mem_cons_self)).1;have ih:=ih fun y hy=>hm y (List.mem_cons_of_mem _ hy)
   unfold ba at *
   by_cases hc:c.1=(i:Int)
   ·rw[aiD (by simpa using hc),aiA,aiA,sumC,sumC,ih,if_pos (by show c.1.toNat=i;omega)]
   ·rw[aiE (by simpa using hc),aiA,sumC,ih,if_neg (by show ¬ c.1.toNat=i;omega),aiz]
 exact e cs fun c hc=>hc
theorem AB (i:Nat):dA cash cs i (ba cs i)=(ab cash cs).gr i-sumC (ab cash cs).cl fun c=>if c.fr=i then (ab cash cs).pay (ab cash cs).gr c else 0:=by
 unfold dA;rw[LY hs]
theorem rb {i:Nat} (hi:i<cash.length):dA cash cs i (ba cs i)=if (ab cash cs).U i 10≤(ab cash cs).gr i then (ab cash cs).gr i-(ab cash cs).U i 10 else 0:=by
 rw[AB hs,Jk hs.ok (i:=i) hi (x:=(ab cash cs).gr) (kq hs.ok hi)]
 split<;>grind
theorem lc {i:Nat} (hi:i<cash.length):0≤dA cash cs i (ba cs i):=by
 rw[rb hs hi]
 split<;>grind
theorem Ik {i:Nat} (hi:i<cash.length) (h:0<dA cash cs i (ba cs i)):¬ (ab cash cs).gr i<(ab cash cs).U i 10:=by
 rw[rb hs hi] at h
 split at h<;>grind
theorem LR {i:Nat} (hi:i<cash.length) {l l':List ClR} (hl:ba cs i=l++l'):szR 598 (dA cash cs i l):=by
 obtain⟨M,h1,⟨a,h2,h3⟩,hg,h4⟩:=pN hs;have hm:∀ c∈l++l',c∈cs:=fun c hc=>(own_mem.1 (by rw[hl];exact hc)).1
 have hp:∀ m:List ClR,(∀ c∈m,c∈cs)→0≤sumC (m.map bc) fun c=>(ab cash cs).pay (ab cash cs).gr c:=fun m hm=>dl fun y hy=>by
  obtain⟨c,hc,rfl⟩:=List.mem_map.1 hy;exact hs.ok.pay_nonneg _ (aiF (hm c hc))
 have p1:=hp l fun c hc=>hm c (by simp [hc])
 have p2:=hp l' fun c hc=>hm c (by simp [hc])
 have h0:=lc hs hi
 have hd:DenBy M (dA cash cs i l):=by
  unfold dA;refine (hg i hi).sub (DenBy.sumC fun y hy=>?_);obtain⟨c,hc,rfl⟩:=List.mem_map.1 hy;exact h4 c (hm c (by simp [hc]))
 have hn:0≤dA cash cs i l:=by
  rw[hl] at h0;unfold dA at h0 ⊢;rw[aiC,iN] at h0;grind
 have hle:dA cash cs i l≤(ab cash cs).gr i:=by unfold dA;grind
 exact (hd.sz h1 h3 hn (e:=51) (aiG hle (H5 hs hi))).mono (by omega)
noncomputable def ku (cash:List Int) (cs:List ClR) (n:Nat):Rat:=sumQ n fun i=>dA cash cs i (ba cs i)
omit hs in
theorem tQ (n:Nat):ku cash cs (n+1)=ku cash cs n+dA cash cs n (ba cs n):=rfl
theorem sQ {n:Nat} (hn:n≤cash.length):0≤ku cash cs n:=nN fun k hk=>lc hs (by omega)
theorem BJ:∃ M:Nat,0<M∧(∃ a,a≤402∧M≤2^a)∧∀ i,i<cash.length→DenBy M (dA cash cs i (ba cs i)):=by
 obtain⟨M,h1,h2,h3⟩:=CV hs;refine⟨M,h1,h2,fun i hi=>?_⟩
 rw[rb hs hi]
 split
 ·refine (h3 i hi).sub ?_
  have:=dF hs.right i 10;rw[←this];exact DenBy.int _ _
 ·exact DenBy.zero _
theorem Ez {i:Nat} (hi:i<cash.length):dA cash cs i (ba cs i)≤((2^51:Nat):Rat):=by
 have h1:=H5 hs hi;have h2:=kq hs.ok hi;have h3:=hs.ok.U_mono i (r:=0) (s:=10) (by omega);rw[Day.U_zero] at h3;rw[rb hs hi];generalize ((2^51:Nat):Rat)=B at *
 split<;>grind
theorem MM {n:Nat} (hn:n≤cash.length):ku cash cs n≤((2^54:Nat):Rat):=by
 have h5:=hs.n5
 have h1:∀ n,n≤cash.length→ku cash cs n≤(n:Rat)*((2^51:Nat):Rat):=by
  intro n
  induction n with
  | zero =>
   intro _;rw[show ((0:Nat):Rat)=0 from rfl,aiH];exact aiI
  | succ n ih =>
   intro hn;have:=ih (by omega);have h2:=Ez hs (i:=n) (by omega);rw[tQ];have e:((n+1:Nat):Rat)=(n:Rat)+1:=by push_cast;rfl;rw[e];generalize ((2^51:Nat):Rat)=B at *;grind
 refine aiG (h1 n hn) ?_;rw[←aiJ]
 exact_mod_cast (aiK (show n≤8 by omega) (aiL (2^51)))
theorem MQ {n:Nat} (hn:n≤cash.length):szR 456 (ku cash cs n):=by
 obtain⟨M,h1,⟨a,h2,h3⟩,h4⟩:=BJ hs;have hd:DenBy M (ku cash cs n):=DenBy.sumQ fun k hk=>h4 k (by omega)
 exact (hd.sz h1 h3 (sQ hs hn) (MM hs hn)).mono (by omega)
theorem JB {i:Nat} (hi:i<cash.length):szR 453 (dA cash cs i (ba cs i)):=by
 obtain⟨M,h1,⟨a,h2,h3⟩,h4⟩:=BJ hs;exact ((h4 i hi).sz h1 h3 (lc hs hi) (Ez hs hi)).mono (by omega)
noncomputable def lM (cash:List Int) (cs l:List ClR):Rat:=ku cash cs cash.length+sumC (l.map bc) fun c=>if c.to<0 then (ab cash cs).pay (ab cash cs).gr c else 0
omit hs in
theorem IS:lM cash cs []=ku cash cs cash.length:=by
 unfold lM;rw[aiB,sumC,aiy]
omit hs in
theorem KF (l:List ClR) (c:ClR):lM cash cs (l++[c])=lM cash cs l+if c.2.1<0 then (ab cash cs).pay (ab cash cs).gr (bc c) else 0:=by
 unfold lM;rw[aiC,iN]
 show _+(_+((if (bc c).to<0 then (ab cash cs).pay (ab cash cs).gr (bc c) else 0)+0))=_;have e:(bc c).to=c.2.1:=rfl;rw[e,aiy];grind
theorem EU:lM cash cs cs=sumQ cash.length (ab cash cs).cash:=by
 have h:=money hs.ok;have e:ku cash cs cash.length=sumQ (ab cash cs).n (fun i=>(ab cash cs).gr i-sumC (ab cash cs).cl fun c=>if c.fr=i then (ab cash cs).pay (ab cash cs).gr c else 0):=bA fun i _=>AB hs i
 unfold lM;rw[e];exact h
omit hs in
theorem KL {n:Nat} (hn:n≤cash.length):sumQ n (ab cash cs).cash=(((cash.take n).foldl (·+·) 0:Int):Rat):=by
 induction n with
 | zero=>rw[aiM];rfl
 | succ n ih =>
  have hx:cash[n]?=some cash[n]:=air (by omega);rw[sumQ,ih (by omega),aiu,hx];rw[aiN,aiO,List.foldl_cons,List.foldl_nil,Rat.intCast_add]
  congr 1
  show ((cash.getD n 0:Int):Rat)=_;rw[aiP,hx];rfl
theorem PE {l l':List ClR} (hl:cs=l++l'):szR 601 (lM cash cs l):=by
 obtain⟨M,h1,⟨a,h2,h3⟩,hg,h4⟩:=pN hs;have hm:∀ c∈l++l',c∈cs:=fun c hc=>by rw[hl];exact hc
 have hp:∀ m:List ClR,(∀ c∈m,c∈cs)→0≤sumC (m.map bc) fun c=>if c.to<0 then (ab cash cs).pay (ab cash cs).gr c else 0:=fun m hm=>dl fun y hy=>by
  obtain⟨c,hc,rfl⟩:=List.mem_map.1 hy
  try dsimp only
  split
  ·exact hs.ok.pay_nonneg _ (aiF (hm c hc))
  ·exact aiI
 have p1:=hp l fun c hc=>hm c (by simp [hc])
 have p2:=hp l' fun c hc=>hm c (by simp [hc])
 have hk:=sQ hs (aiL _);have h0:0≤lM cash cs l:=by unfold lM;grind
 have hd:DenBy M (lM cash cs l):=by
  unfold lM;refine DenBy.add (DenBy.sumQ fun k hk=>?_) (DenBy.sumC fun y hy=>?_)
  ·unfold dA
   refine (hg k hk).sub (DenBy.sumC fun y hy=>?_);obtain⟨c,hc,rfl⟩:=List.mem_map.1 hy;exact h4 c (own_mem.1 hc).1
  ·obtain⟨c,hc,rfl⟩:=List.mem_map.1 hy
   split
   ·exact h4 c (hm c (by simp [hc]))
   ·exact DenBy.zero _
 have hle:lM cash cs l≤((2^54:Nat):Rat):=by
  have h5:=EU hs
  have h6:lM cash cs cs=lM cash cs l+sumC (l'.map bc) fun c=>if c.to<0 then (ab cash cs).pay (ab cash cs).gr c else 0:=by
   unfold lM;have:sumC (cs.map bc) (fun c=>if c.to<0 then (ab cash cs).pay (ab cash cs).gr c else 0)=sumC ((l++l').map bc) (fun c=>if c.to<0 then (ab cash cs).pay (ab cash cs).gr c else 0):=by rw[←hl]
   rw[this,aiC,iN];grind
  have h7:sumQ cash.length (ab cash cs).cash≤((2^54:Nat):Rat):=by
   have hb:∀ n,n≤cash.length→sumQ n (ab cash cs).cash≤(n:Rat)*((2^51:Nat):Rat):=by
    intro n
    induction n with
    | zero =>
     intro _;rw[show ((0:Nat):Rat)=0 from rfl,aiH];exact aiI
    | succ n ih =>
     intro hn;have:=ih (by omega)
     have h2:(ab cash cs).cash n≤((2^51:Nat):Rat):=by
      show ((cash.getD n 0:Int):Rat)≤_;have:=(hs.cash n).2;rw[←Rat.intCast_natCast];exact Rat.intCast_le_intCast.2 (by omega)
     rw[sumQ];have e:((n+1:Nat):Rat)=(n:Rat)+1:=by push_cast;rfl;rw[e];generalize ((2^51:Nat):Rat)=B at *;grind
   have hn5:=hs.n5;refine aiG (hb _ (aiL _)) ?_;rw[←aiJ]
   exact_mod_cast (aiK (show cash.length≤8 by omega) (aiL (2^51)))
  rw[←h5,h6] at h7;generalize ((2^54:Nat):Rat)=B at *;grind
 exact (hd.sz h1 h3 h0 hle).mono (by omega)
end
end Go.Mini
namespace Go.Mini
open Go
set_option maxRecDepth 10000
set_option maxHeartbeats 4000000
def kB:List ClR→List aE→Int→List aE
 | c::cs,p::ps,who=>if c.1==who then p::kB cs ps who else kB cs ps who
 | _,_,_=>[]
theorem A5:∀ (cs:List ClR) (ps:List aE) (c:ClR) (p:aE) (who:Int),cs.length=ps.length→kB (cs++[c]) (ps++[p]) who=kB cs ps who++if c.1==who then [p] else []
 | [],[],c,p,who,_=>by simp only[List.nil_append,kB]
 | [],_::_,_,_,_,h=>by simp at h
 | _::_,[],_,_,_,h=>by simp at h
 | a::cs,b::ps,c,p,who,h=>by
  have ih:=A5 cs ps c p who (by simpa using h);simp only[List.cons_append,kB,ih]
  split<;>rfl
theorem La (cs:List ClR) (F:ClR→aE) (who:Int):kB cs (cs.map F) who=(ba cs who).map F:=by
 unfold ba
 induction cs with
 | nil=>rfl
 | cons c cs ih =>
  rw[aiA,kB,ih]
  by_cases h:(c.1==who)=true
  ·rw[if_pos h,aiQ,if_pos h];rfl
  ·rw[if_neg h,aiQ,if_neg h]
theorem Ax:∀ (cs:List ClR) (ps:List aE) (who:Int),(kB cs ps who).length≤cs.length
 | [],_,_=>by simp [kB]
 | _::_,[],_=>by simp [kB]
 | a::cs,b::ps,who=>by
  have ih:=Ax cs ps who;rw[kB]
  split<;>simp<;>omega
noncomputable def xP:List Data→Option PRes:=FF (α:=(List ClR) × (List aE) × Int) (fun (cs,ps,who)=>([.sl (cs.map clL),.sl (ps.map ad),.int .i64 who]:List Data)) (fun (cs,ps,who)=>aG (ps.length=cs.length∧cs.length≤2000) (.same (.tup [.sl ((ba cs who).map clL),.sl ((kB cs ps who).map ad)])))
theorem Eb:∀ a b:(List ClR) × (List aE) × Int,(fun (cs,ps,who)=>([.sl (cs.map clL),.sl (ps.map ad),.int .i64 who]:List Data)) a=(fun (cs,ps,who)=>([.sl (cs.map clL),.sl (ps.map ad),.int .i64 who]:List Data)) b→a=b:=by
  rintro⟨cs1,ps1,who1⟩ ⟨cs2,ps2,who2⟩ h;simp only[List.cons.injEq,Data.sl.injEq,Data.int.injEq,and_true,true_and] at h;exact aik (af eS _ _ h.1) (aik (af cG _ _ h.2.1) h.2.2)
@[go_sem] theorem Hn (cs:List ClR) (ps:List aE) (who:Int) (hc:ps.length=cs.length∧cs.length≤2000):xP [.sl (cs.map clL),.sl (ps.map ad),.int .i64 who]=some (.same (.tup [.sl ((ba cs who).map clL),.sl ((kB cs ps who).map ad)])):=(aV Eb (cs,ps,who)).trans (ak hc _)
theorem Oq (T:Tab)  (cs:List ClR) (ps:List aE) (who:Int) (hc:ps.length=cs.length∧cs.length≤2000) :
  wp T mf_law20_own.body (bt mf_law20_own.res (.same (.tup [.sl ((ba cs who).map clL),.sl ((kB cs ps who).map ad)]))) ⟨aw [.dat (.sl (cs.map clL)),.dat (.sl (ps.map ad)),.dat (.int .i64 who)],emp⟩:=by
 refine ao ?_;simp only[mf_law20_own];obtain⟨hlp,hlen⟩:=hc;simp only[go_sem,go_sem_proc,ail];refine ae [0,1,2] [] (fun ((i,g,g2):Nat × Nat × Nat) tm m=>i≤cs.length∧tm 10 = .dat (.int .i64 i)∧tm 8 = .ref 224030 g 4 0 (ba (cs.take i) who).length∧tm 9 = .ref 224037 g2 4 0 (kB (cs.take i) (ps.take i) who).length∧m 224030=some (g,aC clL (ba (cs.take i) who))∧m 224037=some (g2,aC ad (kB (cs.take i) (ps.take i) who))) (fun (i,_)=>cs.length-i) (0,0,0) (by refine⟨by omega,rfl,rfl,?_,rfl,?_⟩<;>rw[aiM]<;>rfl) ?_
 intro vs ms hvs hms;simp only[go_sem,go_sem_proc,ail] at hvs hms;subst hvs hms;rintro⟨i,g,g2⟩ tm m hk hm ⟨hi,e10,e8,e9,m30,m37⟩;simp only[go_sem,go_sem_proc,ail,List.cons.injEq] at hk hm;obtain⟨e0,e1,e2⟩:=hk;rcases aiq (i<cs.length) with hlt | hge
 ·have d1:decide ((i:Int)<(cs.length:Int))=true:=decide_eq_true (by omega)
  have w3:IntKind.i64.wrap ((i:Int)+1)=((i+1:Nat):Int):=by rw[an _ (by omega) (by omega)];omega
  obtain⟨⟨c1,c2,c3,c4⟩,hx⟩:∃ c,cs[i]?=some c:=⟨_,air hlt⟩;obtain⟨⟨⟨p1,p2⟩,⟨p3,p4⟩⟩,hy⟩:∃ c,ps[i]?=some c:=⟨_,air (by omega)⟩;have htk:cs.take (i+1)=cs.take i++[(c1,c2,c3,c4)]:=by rw[aiu,hx];rfl;have htp:ps.take (i+1)=ps.take i++[((p1,p2),(p3,p4))]:=by rw[aiu,hy];rfl;have htl:(cs.take i).length=(ps.take i).length:=by rw[aiR,aiR];omega
  have hol:(ba (cs.take i) who).length≤2000:=by
   have h1:=yT (cs.take i) who;have h2:(cs.take i).length≤cs.length:=by rw[aiR];omega;omega
  have hol2:(kB (cs.take i) (ps.take i) who).length≤2000:=by
   have h1:=Ax (cs.take i) (ps.take i) who;have h2:(cs.take i).length≤cs.length:=by rw[aiR];omega;omega
  have hpa:=A5 (cs.take i) (ps.take i) (c1,c2,c3,c4) ((p1,p2),(p3,p4)) who htl;rw[←htk,←htp] at hpa;rcases q1:(c1==who)
  ·have hown:ba (cs.take (i+1)) who=ba (cs.take i) who:=by
    unfold ba;rw[htk,aiS,aiE (by simpa using q1),aiT,aiU]
   rw[if_neg (by dsimp only;rw[q1];decide),aiU] at hpa;refine qI ?_
   repeat' (intro h<;>simp only[h,go_sem,go_sem_proc,ail,e0,e1,e2,e8,e9,e10,hx,hy,d1,w3,q1,clL,aim,ait]<;>try refine qS ?_ ?_)
   exact⟨(i+1,g,g2),by dsimp only;omega,by dsimp only;omega,rfl,by rw[hown],by rw[hpa],by rw[hown];exact m30,by rw[hpa];exact m37⟩
  ·have hown:ba (cs.take (i+1)) who=ba (cs.take i) who++[(c1,c2,c3,c4)]:=by
    unfold ba;rw[htk,aiS,aiD (by simpa using q1),aiT]
   rw[if_pos (by dsimp only;exact q1)] at hpa;have hap:=cZ li tc 224030 g 32 (ba (cs.take i) who) (c1,c2,c3,c4) (cs:=[.dat (.int .i64 c1),.dat (.int .i64 c2),.dat (.int .i64 c3),.dat (.int .i64 c4)]) rfl (by omega) (by omega);rw[←hown] at hap;have hap2:=fun cs' hcs=>cZ bT jq 224037 g2 64 (kB (cs.take i) (ps.take i) who) ((p1,p2),(p3,p4)) (cs:=cs') hcs (by omega) (by omega)
   have hap2':=hap2 _ rfl;rw[←hpa] at hap2';have hl1:(ba (cs.take (i+1)) who).length=(ba (cs.take i) who).length+1:=by rw[hown,aiV];rfl;have hl2:(kB (cs.take (i+1)) (ps.take (i+1)) who).length=(kB (cs.take i) (ps.take i) who).length+1:=by rw[hpa,aiV];rfl;simp only[ad,aiA,aiB] at hap2';refine qI ?_
   repeat' (intro h<;>simp only[h,go_sem,go_sem_proc,ail,e0,e1,e2,e8,e9,e10,m30,m37,hx,hy,d1,w3,q1,hap,hap2',clL,ad,aim,ait]<;>try refine qS ?_ ?_)
   exact⟨(i+1,g+1,g2+1),by dsimp only;omega,by dsimp only;omega,rfl,by rw[hl1],by rw[hl2],rfl,rfl⟩
 ·have d1:decide ((i:Int)<(cs.length:Int))=false:=decide_eq_false (by omega)
  rw[aiv (by omega)] at e8 m30;rw[aiv (by omega),aiv (by omega)] at e9 m37;have hfz:=fun (K:St→Prop) (st:St)=>cU (K:=K) (st:=st) li 8 224030 g (ba cs who)
  have hfz2:=fun (K:St→Prop) (st:St)=>cU (K:=K) (st:=st) bT 9 224037 g2 (kB cs ps who)
  refine qI ?_
  repeat' (intro h<;>simp only[h,go_sem,go_sem_proc,ail,e0,e1,e2,e8,e9,e10,m30,m37,d1,hfz,hfz2,aim]<;>try refine qS ?_ ?_)
def eX (l:List ClR) (q:Nat→Rat):Nat→Int
 | 0=>10
 | k+1=>match l[k]? with
  | some c=>if q k<(c.2.2.2:Rat) then min (eX l q k) c.2.2.1 else eX l q k
  | none=>eX l q k
theorem tJ {l:List ClR} {q:Nat→Rat} (h:∀ c∈l,0≤c.2.2.1∧c.2.2.1<10) (k:Nat):0≤eX l q k∧eX l q k≤10:=by
 induction k with
 | zero=>exact⟨show (0:Int)≤10 by decide,show (10:Int)≤10 by decide⟩
 | succ k ih =>
  unfold eX
  split
  ·rename_i c hc
   have:=h c (ais hc)
   split<;>omega
  ·exact ih
theorem DU {l:List ClR} {q:Nat→Rat} (h:∀ c∈l,0≤c.2.2.1∧c.2.2.1<10) (k:Nat):eX l q k<10↔∃ i,i<k∧∃ c,l[i]?=some c∧q i<(c.2.2.2:Rat):=by
 induction k with
 | zero=>exact⟨fun h=>absurd h (show ¬ (10:Int)<10 by decide),fun⟨i,h,_⟩=>by omega⟩
 | succ k ih =>
  unfold eX
  split
  ·rename_i c hc
   have hb:=h c (ais hc);have hk:=tJ (q:=q) h k
   by_cases hq:q k<(c.2.2.2:Rat)
   ·rw[if_pos hq]
    exact⟨fun _=>⟨k,by omega,c,hc,hq⟩,fun _=>by omega⟩
   ·rw[if_neg hq,ih]
    constructor
    ·rintro⟨i,h1,h2⟩;exact⟨i,by omega,h2⟩
    ·rintro⟨i,h1,c',h2,h3⟩
     by_cases hik:i=k
     ·subst hik;rw[hc] at h2;cases h2;exact absurd h3 hq
     ·exact⟨i,by omega,c',h2,h3⟩
  ·rename_i hc
   rw[ih]
   constructor
   ·rintro⟨i,h1,h2⟩;exact⟨i,by omega,h2⟩
   ·rintro⟨i,h1,c',h2,h3⟩
    by_cases hik:i=k
    ·subst hik;rw[hc] at h2;cases h2
    ·exact⟨i,by omega,c',h2,h3⟩
structure ye (l:List ClR) (q:List Rat):Prop where
 own:OwnOK l
 len:q.length=l.length
 lim:∀ x∈q,bX x
noncomputable def ul (l:List ClR) (q:List Rat):Data:=if eX l (fun i=>q.getD i 0) l.length<10 then .tup [.int .i64 (eX l (fun i=>q.getD i 0) l.length),.bool true] else .tup [.int .i64 0,.bool false]
noncomputable def rm:List Data→Option PRes:=FF (α:=(List ClR) × (List Rat)) (fun (l,q)=>([.sl (l.map clL),.sl ((q.map ah).map ad)]:List Data)) (fun (l,q)=>aG (ye l q) (.same (ul l q)))
theorem ze:∀ a b:(List ClR) × (List Rat),(fun (l,q)=>([.sl (l.map clL),.sl ((q.map ah).map ad)]:List Data)) a=(fun (l,q)=>([.sl (l.map clL),.sl ((q.map ah).map ad)]:List Data)) b→a=b:=by
  rintro⟨l1,q1⟩ ⟨l2,q2⟩ h;simp only[List.cons.injEq,Data.sl.injEq,and_true] at h;exact aik (af eS _ _ h.1) (af (fun x y hh=>vz hh) _ _ (af cG _ _ h.2))
@[go_sem] theorem BN (l:List ClR) (q:List Rat) (hc:ye l q):rm [.sl (l.map clL),.sl ((q.map ah).map ad)]=some (.same (ul l q)):=(aV ze (l,q)).trans (ak hc _)
theorem KZ (T:Tab) (dN:T gR=mkE rn) (aF:T aQ=mkE eU) (cS:T cu=mkE lU) (av:T aT=mkE dc) (l:List ClR) (q:List Rat) (hc:ye l q) :
  wp T mf_rank_Short.body (bt mf_rank_Short.res (.same (ul l q))) ⟨aw [.dat (.sl (l.map clL)),.dat (.sl ((q.map ah).map ad))],emp⟩:=by
 refine ao ?_;simp only[mf_rank_Short];obtain⟨how,hlen,hlim⟩:=hc;have h12:=how.len;have hrk:∀ c∈l,0≤c.2.2.1∧c.2.2.1<10:=fun c hc=>by have:=how.c c hc;omega;have hle:((q.length:Int)==(l.length:Int))=true:=by rw[hlen];exact beq_self_eq_true _;simp only[go_sem,go_sem_proc,ail,dN,aF,cS,av,how,hle,aim,bne,aio];refine ae [1,19,20] [] (fun (i:Nat) tm m=>i≤l.length∧tm 21 = .dat (.int .i64 i)∧tm 6 = .dat (.int .i64 (eX l (fun i=>q.getD i 0) i))) (fun i=>l.length-i) 0 (by refine⟨by omega,rfl,rfl⟩) ?_
 intro vs ms hvs hms;simp only[go_sem,go_sem_proc,ail,dN,aF,cS,av,aim] at hvs hms;subst hvs hms;rintro i tm m hk-⟨hi,e21,e6⟩;simp only[go_sem,go_sem_proc,ail,dN,aF,cS,av,List.cons.injEq] at hk;obtain⟨e1,e19,e20⟩:=hk;rcases aiq (i<l.length) with hlt | hge
 ·have d1:decide ((i:Int)<(l.length:Int))=true:=decide_eq_true (by omega)
  have w3:IntKind.i64.wrap ((i:Int)+1)=((i+1:Nat):Int):=by rw[an _ (by omega) (by omega)];omega
  obtain⟨⟨c1,c2,c3,c4⟩,hx⟩:∃ c,l[i]?=some c:=⟨_,air hlt⟩;obtain⟨x,hy⟩:∃ x,q[i]?=some x:=⟨_,air (by omega)⟩;have hc:=how.c _ (ais hx);have hl:=hlim x (ais hy);dsimp only at hc;have hin:bZ c4:=dG (by omega) (by omega);have a1:=r5 hl;have a2:=mD hin;have a3:=fp hl (ew hin);have hn:decide (kO x ((c4:Int):Rat)<0)=decide (x<((c4:Int):Rat)):=qr;have hgd:q.getD i 0=x:=by rw[aiP,hy];rfl
  have hsn:eX l (fun i=>q.getD i 0) (i+1)=if x<((c4:Int):Rat) then min (eX l (fun i=>q.getD i 0) i) c3 else eX l (fun i=>q.getD i 0) i:=by
   rw[eX,hx];dsimp only;rw[hgd]
  have hqg:(q.map ah)[i]?=some (ah x):=by rw[ait,hy];rfl
  generalize q.map ah=QE at *;generalize ah x=F at *;generalize ah ((c4:Int):Rat)=G at *;obtain⟨⟨f1,f2⟩,⟨f3,f4⟩⟩:=F;obtain⟨⟨g1,g2⟩,⟨g3,g4⟩⟩:=G;simp only[ad] at a1 a2 a3;rcases k1:decide (x<((c4:Int):Rat))
  ·rw[k1] at hn
   rw[if_neg (of_decide_eq_false k1)] at hsn;refine qI ?_
   repeat' (intro h<;>simp only[h,go_sem,go_sem_proc,ail,dN,aF,cS,av,e1,e6,e19,e20,e21,hx,hqg,d1,w3,a1,a2,a3,hn,clL,ad,aim,ait,aio]<;>try refine qS ?_ ?_)
   exact⟨i+1,by omega,by omega,rfl,by rw[hsn]⟩
  ·rw[k1] at hn
   rw[if_pos (of_decide_eq_true k1)] at hsn;have hmn:(if c3<eX l (fun i=>q.getD i 0) i then c3 else eX l (fun i=>q.getD i 0) i)=min (eX l (fun i=>q.getD i 0) i) c3:=by rw[Int.min_def];split<;>split<;>omega
   refine qI ?_
   repeat' (intro h<;>simp only[h,go_sem,go_sem_proc,ail,dN,aF,cS,av,e1,e6,e19,e20,e21,hx,hqg,d1,w3,a1,a2,a3,hn,clL,ad,aim,ait,aio]<;>try refine qS ?_ ?_)
   exact⟨i+1,by omega,by omega,rfl,by rw[hsn,hmn]⟩
 ·have d1:decide ((i:Int)<(l.length:Int))=false:=decide_eq_false (by omega)
  obtain rfl:i=l.length:=by omega
  have hb:=tJ (q:=fun i=>q.getD i 0) hrk l.length;unfold ul;generalize eX l (fun i=>q.getD i 0) l.length=s at *;rcases k1:(s==10)
  ·rw[if_pos (by have:=ne_of_beq_false k1;omega)]
   refine qI ?_
   repeat' (intro h<;>simp only[h,go_sem,go_sem_proc,ail,dN,aF,cS,av,e1,e6,e19,e20,e21,d1,k1,aim]<;>try refine qS ?_ ?_)
  ·rw[if_neg (by have:=eq_of_beq k1;omega)]
   refine qI ?_
   repeat' (intro h<;>simp only[h,go_sem,go_sem_proc,ail,dN,aF,cS,av,e1,e6,e19,e20,e21,d1,k1,aim]<;>try refine qS ?_ ?_)
theorem zL (l:List aE):nP l l=true:=by
 unfold nP;simp
noncomputable def ik (cash:List Int) (cs:List ClR) (i:Nat):List Rat:=(ba cs i).map fun c=>bQ cs ((ab cash cs).gr i) c
section
variable {cash:List Int} {cs:List ClR} (hs:SmallD cash cs) {i:Nat}
include hs
omit hs in
theorem Kz (hi:i<cash.length):kB cs (iy cash cs) i=(ik cash cs i).map ah:=by
 unfold iy ik;rw[La,aii];refine aij fun c hc=>?_
 have:=(own_mem.1 hc).2
 show ah (bQ cs ((ab cash cs).gr c.1.toNat) c)=ah (bQ cs ((ab cash cs).gr i) c);rw[this,aiW]
theorem tp {c:ClR} (hc:c∈ba cs i):bQ cs ((ab cash cs).gr i) c=(ab cash cs).pay (ab cash cs).gr (bc c):=by
 obtain⟨h1,h2⟩:=own_mem.1 hc;rw[FJ hs.right _ h1,h2,aiW]
theorem yv {x:Rat} (hx:x∈ik cash cs i):szR 482 x:=by
 obtain⟨c,hc,rfl⟩:=List.mem_map.1 hx;rw[tp hs hc];exact yw hs (own_mem.1 hc).1
theorem Hf (hi:i<cash.length):nS [.agg (ad (ah ((ab cash cs).gr i))),.sl ((ba cs i).map clL)]=some (.same (.tup [.sl (((ik cash cs i).map ah).map ad),.int .i64 0])):=by
 have h:=sC ((ab cash cs).gr i) (ba cs i) ⟨hs.own i,kq hs.ok hi,(Bj hs hi).mono (by omega)⟩;rw[xm] at h;have e:(ik cash cs i).map ah=(ba cs i).map fun c=>ah (bQ cs ((ab cash cs).gr i) c):=by unfold ik;rw[aii];rfl;rw[e];exact h
theorem Gz (hi:i<cash.length):eX (ba cs i) (fun k=>(ik cash cs i).getD k 0) (ba cs i).length<10↔(ab cash cs).gr i<(ab cash cs).U i 10:=by
 have hrk:∀ c∈ba cs i,0≤c.2.2.1∧c.2.2.1<10:=fun c hc=>by have:=(hs.own i).c c hc;omega
 rw[DU hrk,←Hx hs.ok (kq hs.ok hi)]
 constructor
 ·rintro⟨k,hk,c,hc,hlt⟩
  have hm:=ais hc;have e:(ik cash cs i).getD k 0=bQ cs ((ab cash cs).gr i) c:=by unfold ik;rw[aiP,ait,hc];rfl
  try dsimp only at hlt
  rw[e,tp hs hm] at hlt;have h2:=(own_mem.1 hm).2;exact⟨bc c,aiF (own_mem.1 hm).1,by show c.1.toNat=i;omega,hlt⟩
 ·rintro⟨b,hb,hfr,hlt⟩
  obtain⟨c,hc,rfl⟩:=List.mem_map.1 hb;have h1:=((rightD_iff.1 hs.right).2.2.2 c hc).1;have hm:c∈ba cs i:=own_mem.2 ⟨hc,by have:c.1.toNat=i:=hfr;omega⟩
  obtain⟨k,hk,he⟩:=List.getElem_of_mem hm;have hg:(ba cs i)[k]?=some c:=by rw[air hk,he]
  have e:(ik cash cs i).getD k 0=bQ cs ((ab cash cs).gr i) c:=by unfold ik;rw[aiP,ait,hg];rfl
  refine⟨k,hk,c,hg,?_⟩
  try dsimp only
  rw[e,tp hs hm];exact hlt
theorem C7 (hi:i<cash.length):∃ n:Int,rm [.sl ((ba cs i).map clL),.sl (((ik cash cs i).map ah).map ad)]=some (.same (.tup [.int .i64 n,.bool (decide ((ab cash cs).gr i<(ab cash cs).U i 10))])):=by
 have h:=BN (ba cs i) (ik cash cs i) ⟨hs.own i,by unfold ik;rw[aim],fun x hx=>di (yv hs hx) (by omega)⟩
 unfold ul at h;have hiff:=Gz hs hi
 by_cases hq:(ab cash cs).gr i<(ab cash cs).U i 10
 ·rw[if_pos (hiff.2 hq)] at h
  exact⟨_,by rw[decide_eq_true hq];exact h⟩
 ·rw[if_neg fun hh=>hq (hiff.1 hh)] at h
  exact⟨_,by rw[decide_eq_false hq];exact h⟩
theorem Lk:s9 [.sl (((ik cash cs i).map ah).map ad),.sl (((ik cash cs i).map ah).map ad)]=some (.same (.bool true)):=by
 have hok:okL ((ik cash cs i).map ah):=by
  refine⟨?_,fun f hf=>?_⟩
  ·have h1:=yT cs i
   have h2:=hs.c12;unfold ik;rw[aim,aim];omega
  ·obtain⟨x,hx,rfl⟩:=List.mem_map.1 hf
   exact dO (di (yv hs hx) (by omega))
 have h:=DT _ _ ⟨hok,hok⟩;rw[zL] at h;exact h
theorem Ma (hi:i<cash.length):xP [.sl (cs.map clL),.sl ((iy cash cs).map ad),.int .i64 i]=some (.same (.tup [.sl ((ba cs i).map clL),.sl (((ik cash cs i).map ah).map ad)])):=by
 have h12:=hs.c12;have h:=Hn cs (iy cash cs) i ⟨by unfold iy;rw[aim],by omega⟩
 rw[Kz hi] at h;exact h
end
theorem GC (cash:List Int) (cs:List ClR) (i:Nat):dA cash cs i []=(ab cash cs).gr i:=by
 unfold dA;rw[aiB,sumC];grind
theorem Sq (T:Tab) (cz:T cY=mkE kA) {K:bD→St→Prop} {kk:List Todo} (cash:List Int) (cs:List ClR) (hs:SmallD cash cs) (i:Nat) (hi:i<cash.length) (v0 v1 v5 v6 v8 v9 v10 v16:MV) (x6 x9 x21 x24:Option (Nat × List MV)) (g:Nat) (tm:Nat→MV) (m:Mem)
  (e0:tm 0=v0) (e1:tm 1=v1) (e5:tm 5=v5) (e6:tm 6=v6) (e8:tm 8=v8) (e9:tm 9=v9) (e10:tm 10=v10) (e12:tm 12 = .dat (.sl (((ik cash cs i).map ah).map ad))) (e16:tm 16=v16) (e17:tm 17 = .ptr 260017 g 0) (e18:tm 18 = .dat (.int .i64 0))
  (m6:m 260006=x6) (m9:m 260009=x9) (m21:m 260021=x21) (m24:m 260024=x24) (m17:m 260017=some (g,(ad (ah ((ab cash cs).gr i))).map .dat))
  (hK:∀ tm' m',tm' 0=v0→tm' 1=v1→tm' 5=v5→tm' 6=v6→tm' 8=v8→tm' 9=v9→tm' 10=v10→tm' 16=v16→tm' 17 = .ptr 260017 g 0→m' 260006=x6→m' 260009=x9→m' 260021=x21→m' 260024=x24→m' 260017=some (g,(ad (ah (dA cash cs i (ba cs i)))).map .dat)→kont T K kk (.exit 2) ⟨tm',m'⟩) :
  wp T (mf_law20_ClearMoney.body.sub [1,1,1,1,1,1,1,1,0,1,0,0,1,0,0,1,1,1,1,1,1,0,1,0]) (kont T K kk) ⟨tm,m⟩:=by
 simp only[mf_law20_ClearMoney,MCode.sub];have h12:=hs.c12;have hol:=yT cs i;have hql:(ik cash cs i).length=(ba cs i).length:=by unfold ik;rw[aim];refine ae [0,1,5,6,8,9,10,12,16,17] [260006,260009,260021,260024] (fun (k:Nat) tm m=>k≤(ba cs i).length∧tm 18 = .dat (.int .i64 k)∧m 260017=some (g,(ad (ah (dA cash cs i ((ba cs i).take k)))).map .dat)) (fun k=>(ba cs i).length-k) 0 (by refine⟨by omega,e18,?_⟩;rw[aiM,GC];exact m17) ?_
 intro vs ms hvs hms;simp only[go_sem,go_sem_proc,ail,e0,e1,e5,e6,e8,e9,e10,e12,e16,e17,m6,m9,m21,m24] at hvs hms;subst hvs hms;clear e0 e1 e5 e6 e8 e9 e10 e12 e16 e17 e18 m6 m9 m21 m24 m17 tm m;rintro k tm m hk hm ⟨hkn,e18,m17⟩;simp only[go_sem,go_sem_proc,ail,List.cons.injEq] at hk hm;obtain⟨e0,e1,e5,e6,e8,e9,e10,e12,e16,e17⟩:=hk;obtain⟨m6,m9,m21,m24⟩:=hm;rcases aiq (k<(ba cs i).length) with hlt | hge
 ·have d1:decide ((k:Int)<((ik cash cs i).length:Int))=true:=decide_eq_true (by omega)
  have w3:IntKind.i64.wrap ((k:Int)+1)=((k+1:Nat):Int):=by rw[an _ (by omega) (by omega)];omega
  obtain⟨c,hx⟩:∃ c,(ba cs i)[k]?=some c:=⟨_,air hlt⟩;have hcm:=ais hx;have hqx:(ik cash cs i)[k]?=some (bQ cs ((ab cash cs).gr i) c):=by unfold ik;rw[ait,hx];rfl;have hqe:((ik cash cs i).map ah)[k]?=some (ah (bQ cs ((ab cash cs).gr i) c)):=by rw[ait,hqx];rfl;have z1:=LR hs hi (l:=(ba cs i).take k) (l':=(ba cs i).drop k) (aiX k _).symm;have z2:=yv hs (ais hqx);have hsb:=tu (di z1 (by omega)) (di z2 (by omega)) (gS z1 (nt z2) (by omega));have htk:(ba cs i).take (k+1)=(ba cs i).take k++[c]:=by rw[aiu,hx];rfl;have hlf:dA cash cs i ((ba cs i).take (k+1))=dA cash cs i ((ba cs i).take k)-bQ cs ((ab cash cs).gr i) c:=by rw[htk,Hk,tp hs hcm]
  rw[←hlf] at hsb;have hle:((ik cash cs i).map ah).length=(ik cash cs i).length:=aim _;generalize (ik cash cs i).map ah=QE at *;generalize ah (dA cash cs i ((ba cs i).take k))=F at *;generalize hF':ah (dA cash cs i ((ba cs i).take (k+1)))=F' at *;generalize ah (bQ cs ((ab cash cs).gr i) c)=P at *;obtain⟨⟨f1,f2⟩,⟨f3,f4⟩⟩:=F;obtain⟨⟨g1,g2⟩,⟨g3,g4⟩⟩:=F';obtain⟨⟨p1,p2⟩,⟨p3,p4⟩⟩:=P;simp only[ad,aiA,aiB] at hsb m17;refine qI ?_
  repeat' (intro h<;>simp only[h,go_sem,go_sem_proc,ail,cz,e0,e1,e5,e6,e8,e9,e10,e12,e16,e17,e18,m6,m9,m17,m21,m24,hqe,hle,d1,w3,hsb,ad,aim,ait,bne,beq_self_eq_true,aio]<;>try refine qS ?_ ?_)
  exact⟨k+1,by omega,by omega,rfl,by rw[hF']⟩
 ·have d1:decide ((k:Int)<((ik cash cs i).length:Int))=false:=decide_eq_false (by omega)
  rw[aiv (by omega)] at m17;refine qI ?_
  repeat' (intro h<;>simp only[h,go_sem,go_sem_proc,ail,e0,e1,e5,e6,e8,e9,e10,e12,e16,e17,e18,d1,aim]<;>try refine qS ?_ ?_)
  refine hK _ _ ?_ ?_ ?_ ?_ ?_ ?_ ?_ ?_ ?_ m6 m9 m21 m24 m17<;>simp only[aO,aiY,if_false,e0,e1,e5,e6,e8,e9,e10,e16,e17]
theorem RV (T:Tab) (cf:T cB=mkE kL) {K:bD→St→Prop} {kk:List Todo} (cash:List Int) (cs:List ClR) (hs:SmallD cash cs) (v5 v8 fc:MV) (tm:Nat→MV) (m:Mem)
  (e1:tm 1 = .dat (.sl (cs.map clL))) (e5:tm 5=v5) (e6:tm 6 = .ptr 260006 0 0) (e8:tm 8=v8) (e9:tm 9 = .ptr 260009 0 0) (e23:tm 23 = .dat (.int .i64 0))
  (m6:m 260006=some (0,[.dat (.sl ((iI cash cs).map ad)),.dat (.sl ((iy cash cs).map ad)),fc])) (m9:m 260009=some (0,(ad (ah (ku cash cs cash.length))).map .dat))
  (hK:∀ tm' m',tm' 5=v5→tm' 8=v8→tm' 9 = .ptr 260009 0 0→m' 260009=some (0,(ad (ah (lM cash cs cs))).map .dat)→kont T K kk (.exit 4) ⟨tm',m'⟩) :
  wp T (mf_law20_ClearMoney.body.sub [1,1,1,1,1,1,1,1,1,0,1,0]) (kont T K kk) ⟨tm,m⟩:=by
 simp only[mf_law20_ClearMoney,MCode.sub];have h12:=hs.c12;have hpl:(iy cash cs).length=cs.length:=by unfold iy;rw[aim];refine ae [1,5,6,8,9] [260006] (fun (k:Nat) tm m=>k≤cs.length∧tm 23 = .dat (.int .i64 k)∧m 260009=some (0,(ad (ah (lM cash cs (cs.take k)))).map .dat)) (fun k=>cs.length-k) 0 (by refine⟨by omega,e23,?_⟩;rw[aiM,IS];exact m9) ?_
 intro vs ms hvs hms;simp only[go_sem,go_sem_proc,ail,e1,e5,e6,e8,e9,m6] at hvs hms;subst hvs hms;clear e1 e5 e6 e8 e9 e23 m6 m9 tm m;rintro k tm m hk hm ⟨hkn,e23,m9⟩;simp only[go_sem,go_sem_proc,ail,List.cons.injEq] at hk hm;obtain⟨e1,e5,e6,e8,e9⟩:=hk;have m6:=hm;rcases aiq (k<cs.length) with hlt | hge
 ·have d1:decide ((k:Int)<(cs.length:Int))=true:=decide_eq_true (by omega)
  have w3:IntKind.i64.wrap ((k:Int)+1)=((k+1:Nat):Int):=by rw[an _ (by omega) (by omega)];omega
  obtain⟨⟨c1,c2,c3,c4⟩,hx⟩:∃ c,cs[k]?=some c:=⟨_,air hlt⟩;have hcm:=ais hx;have htk:cs.take (k+1)=cs.take k++[(c1,c2,c3,c4)]:=by rw[aiu,hx];rfl;have hoa:=KF (cash:=cash) (cs:=cs) (cs.take k) (c1,c2,c3,c4);rw[←htk] at hoa;rcases q:decide (c2≥0)
  ·have hc2:c2<0:=by have:=of_decide_eq_false q;omega
   rw[if_pos (show (c1,c2,c3,c4).2.1<0 from hc2)] at hoa
   have hpx:(iy cash cs)[k]?=some (ah ((ab cash cs).pay (ab cash cs).gr (bc (c1,c2,c3,c4)))):=by
    unfold iy;rw[ait,hx,Option.map_some,FJ hs.right _ hcm]
   have z1:=PE hs (l:=cs.take k) (l':=cs.drop k) (aiX k _).symm;have z2:=yw hs hcm;have had:=tl (di z1 (by omega)) (di z2 (by omega)) (gS z1 z2 (by omega));rw[←hoa] at had;generalize ah (lM cash cs (cs.take k))=F at *;generalize hF':ah (lM cash cs (cs.take (k+1)))=F' at *;generalize ah ((ab cash cs).pay (ab cash cs).gr (bc (c1,c2,c3,c4)))=P at *;generalize iy cash cs=PD at *;generalize iI cash cs=HV at *;obtain⟨⟨f1,f2⟩,⟨f3,f4⟩⟩:=F;obtain⟨⟨g1,g2⟩,⟨g3,g4⟩⟩:=F';obtain⟨⟨p1,p2⟩,⟨p3,p4⟩⟩:=P;simp only[ad,aiA,aiB] at had m9;refine qI ?_
   repeat' (intro h<;>simp only[h,go_sem,go_sem_proc,ail,cf,e1,e5,e6,e8,e9,e23,m6,m9,hx,hpx,d1,w3,q,had,clL,ad,aim,ait,bne,beq_self_eq_true,aio]<;>try refine qS ?_ ?_)
   exact⟨k+1,by omega,by omega,rfl,by rw[hF']⟩
  ·have hc2:¬ c2<0:=by have:=of_decide_eq_true q;omega
   rw[if_neg (show ¬ (c1,c2,c3,c4).2.1<0 from hc2),aiy] at hoa;refine qI ?_
   repeat' (intro h<;>simp only[h,go_sem,go_sem_proc,ail,e1,e5,e6,e8,e9,e23,m6,hx,d1,w3,q,clL,aim,ait]<;>try refine qS ?_ ?_)
   exact⟨k+1,by omega,by omega,rfl,by rw[hoa];exact m9⟩
 ·have d1:decide ((k:Int)<(cs.length:Int))=false:=decide_eq_false (by omega)
  rw[aiv (by omega)] at m9;refine qI ?_
  repeat' (intro h<;>simp only[h,go_sem,go_sem_proc,ail,e1,e5,e6,e8,e9,e23,d1,aim]<;>try refine qS ?_ ?_)
  refine hK _ _ ?_ ?_ ?_ m9<;>simp only[aO,aiY,if_false,e5,e8,e9]
def o5 (cash:List Int) (i:Nat):Int:=(cash.take i).foldl (·+·) 0
theorem w9 {cash:List Int} {i:Nat} {x:Int} (h:cash[i]?=some x):o5 cash (i+1)=o5 cash i+x:=by
 unfold o5;rw[aiu,h,aiN,aiO];rfl
theorem J3 {cash:List Int} (h:∀ x∈cash,0≤x∧x≤1000000000000000):∀ i:Nat,i≤cash.length→0≤o5 cash i∧o5 cash i≤i*1000000000000000:=by
 intro i
 induction i with
 | zero =>
  intro _;have h0:o5 cash 0=0:=by unfold o5;rw[aiM];rfl;rw[h0];omega
 | succ i ih =>
  intro hi;have hx:cash[i]?=some cash[i]:=air (by omega);have h1:=h _ (ais hx);have h2:=ih (by omega);rw[w9 hx];omega
end Go.Mini
namespace Go.Mini
open Go
set_option maxRecDepth 10000
set_option maxHeartbeats 4000000
theorem Dt {x:Rat}:decide (x.num.sign>0)=decide (0<x):=by
 have h1:decide (x.num.sign≤0)=decide (x≤0):=H4
 by_cases h:x≤0
 ·rw[decide_eq_true h] at h1
  have:=of_decide_eq_true h1;rw[decide_eq_false (show ¬ x.num.sign>0 by omega),decide_eq_false (show ¬ 0<x by grind)]
 ·rw[decide_eq_false h] at h1
  have:=of_decide_eq_false h1;rw[decide_eq_true (show x.num.sign>0 by omega),decide_eq_true (show 0<x by grind)]
theorem J4 {cash:List Int} {cs:List ClR} (hs:SmallD cash cs) {n:Nat} (hn:n≤cash.length):sumQ n (ab cash cs).cash=((o5 cash n:Int):Rat):=KL hn
noncomputable def ur:List Data→Option PRes:=FF (α:=(List Int) × (List ClR)) (fun (cash,cs)=>([.sl (cash.map aa),.sl (cs.map clL)]:List Data)) (fun (cash,cs)=>some (.same (.bool true)))
theorem yr:∀ a b:(List Int) × (List ClR),(fun (cash,cs)=>([.sl (cash.map aa),.sl (cs.map clL)]:List Data)) a=(fun (cash,cs)=>([.sl (cash.map aa),.sl (cs.map clL)]:List Data)) b→a=b:=by
  rintro⟨cash1,cs1⟩ ⟨cash2,cs2⟩ h;simp only[List.cons.injEq,Data.sl.injEq,and_true] at h;exact aik (af aj _ _ h.1) (af eS _ _ h.2)
@[go_sem] theorem Cm (cash:List Int) (cs:List ClR):ur [.sl (cash.map aa),.sl (cs.map clL)]=some (.same (.bool true)):=aV yr (cash,cs)
theorem Ih (T:Tab) (g5:T kW=mkE vi) (lE:T nr=mkE Cz) (cy:T dU=mkE lT) (cT:T f5=mkE nT) (lO:T nb=mkE xP) (cL:T gO=mkE nS) (gY:T lJ=mkE rm) (jt:T lC=mkE s9) (cz:T cY=mkE kA) (cf:T cB=mkE kL) (av:T aT=mkE dc) (cash:List Int) (cs:List ClR) :
  wp T mf_law20_ClearMoney.body (bt mf_law20_ClearMoney.res (.same (.bool true))) ⟨aw [.dat (.sl (cash.map aa)),.dat (.sl (cs.map clL))],emp⟩:=by
 refine ao ?_;simp only[mf_law20_ClearMoney];have sm:=A3;have g1:=Gw cash cs;rcases hf:wc cash cs
 ·rw[hf] at g1
  refine qI ?_
  repeat' (intro h<;>simp only[h,go_sem,go_sem_proc,ail,g5,lE,cy,cT,lO,cL,gY,jt,cz,cf,av,sm,g1,ain]<;>try refine qS ?_ ?_)
 rw[hf] at g1;have sv:=n8 cash cs (ME hf);unfold Dl at sv;rcases hr:c9 cash cs
 ·rw[if_neg (by rw[hr];decide)] at sv
  have w0:IntKind.i64.wrap (0:Int)=0:=by decide
  refine qI ?_
  repeat' (intro h<;>simp only[h,go_sem,go_sem_proc,ail,g5,lE,cy,cT,lO,cL,gY,jt,cz,cf,av,sm,g1,sv,w0,show ((1:Int)==0)=false from rfl,bne,beq_self_eq_true,List.length_nil,Int.natCast_zero,Int.cast_ofNat_Int,Int.add_zero,Int.zero_add,ain,aio]<;>try refine qS ?_ ?_)
 rw[if_pos hr] at sv;have hs:=xk hf hr;have hn5:=hs.n5;have hl:(iI cash cs).length=cash.length:=cW _ _;have hle:(((iI cash cs).length:Int)==(cash.length:Int))=true:=by rw[hl];exact beq_self_eq_true _;have hl2:(iy cash cs).length=cs.length:=by unfold iy;rw[aim];have hle2:(((iy cash cs).length:Int)==(cs.length:Int))=true:=by rw[hl2];exact beq_self_eq_true _;have f0:=oL xy;have hz0:ah (ku cash cs 0)=ah ((0:Int):Rat):=rfl;have hcb:=J3 (rightD_iff.1 hr).2.2.1;generalize ah ((0:Int):Rat)=Z at *;obtain⟨⟨z1,z2⟩,⟨z3,z4⟩⟩:=Z;simp only[ad] at f0;generalize (ab cash cs).frs.map nW=FD at *;simp only[go_sem,go_sem_proc,ail,g5,lE,cy,cT,lO,cL,gY,jt,cz,cf,av,sm,g1,sv,hle,hle2,f0,bne,beq_self_eq_true,aim,ain,aio];refine ae [0,1,5,6,9] [260006] (fun (i:Nat) tm m=>i≤cash.length∧tm 10 = .dat (.int .i64 i)∧tm 8 = .dat (.int .i64 (o5 cash i))∧m 260009=some (0,(ad (ah (ku cash cs i))).map .dat)) (fun i=>cash.length-i) 0 (by refine⟨by omega,rfl,rfl,?_⟩;rw[hz0];rfl) ?_
 intro vs ms hvs hms;simp only[go_sem,go_sem_proc,ail,g5,lE,cy,cT,lO,cL,gY,jt,cz,cf,av,aim] at hvs hms;subst hvs hms;rintro i tm m hk hm ⟨hi,e10,e8,m9⟩;simp only[go_sem,go_sem_proc,ail,g5,lE,cy,cT,lO,cL,gY,jt,cz,cf,av,List.cons.injEq] at hk hm;obtain⟨e0,e1,e5,e6,e9⟩:=hk;have m6:=hm;rcases aiq (i<cash.length) with hlt | hge
 ·have d1:decide ((i:Int)<(cash.length:Int))=true:=decide_eq_true (by omega)
  have w3:IntKind.i64.wrap ((i:Int)+1)=((i+1:Nat):Int):=by rw[an _ (by omega) (by omega)];omega
  obtain⟨y,hy⟩:∃ y,cash[i]?=some y:=⟨_,air hlt⟩;have hb1:=hcb (i+1) (by omega);have hts:=w9 hy;have w4:IntKind.i64.wrap (o5 cash i+y)=o5 cash (i+1):=by rw[an _ (by omega) (by omega)];exact hts.symm;have a1:=Ma hs hlt;have a2:=Hf hs hlt;obtain⟨sn,a3⟩:=C7 hs hlt;have a4:=Lk hs (i:=i);have hget:(iI cash cs)[i]?=some (ah ((ab cash cs).gr i)):=eF _ hlt;have z1:=MQ hs (n:=i) (by omega);have z2:=JB hs hlt;have had:=tl (di z1 (by omega)) (di z2 (by omega)) (gS z1 z2 (by omega));rw[←tQ] at had;have hln:=lc hs hlt;have hlp:=Ik hs hlt;have hs0:decide ((dA cash cs i (ba cs i)).num.sign<0)=false:=by rw[pO];exact decide_eq_false (by grind)
  have hsp:decide ((dA cash cs i (ba cs i)).num.sign>0)=true→decide ((ab cash cs).gr i<(ab cash cs).U i 10)=false:=fun h=>by
   rw[Dt] at h;exact decide_eq_false (hlp (of_decide_eq_true h))
  have hL1:=fun (K:bD→St→Prop) (kk:List Todo) v0 v1 v5 v6 v8 v9 v10 v16 x6 x9 x21 x24 g tm m=>Sq T cz (K:=K) (kk:=kk) cash cs hs i hlt v0 v1 v5 v6 v8 v9 v10 v16 x6 x9 x21 x24 g tm m
  generalize decide ((ab cash cs).gr i<(ab cash cs).U i 10)=b at *;generalize (ik cash cs i).map ah=QE at *;generalize ah ((ab cash cs).gr i)=H at *;generalize hKi:ah (ku cash cs i)=Ki at *;generalize hKn:ah (ku cash cs (i+1))=Kn at *;have hsg:(ah (dA cash cs i (ba cs i))).1.1=(dA cash cs i (ba cs i)).num.sign:=rfl;generalize ah (dA cash cs i (ba cs i))=L at *;generalize (dA cash cs i (ba cs i)).num.sign=sg at *;obtain⟨⟨l1,l2⟩,⟨l3,l4⟩⟩:=L;dsimp only at hsg;subst hsg;obtain⟨⟨h1,h2⟩,⟨h3,h4⟩⟩:=H;obtain⟨⟨k1,k2⟩,⟨k3,k4⟩⟩:=Ki;obtain⟨⟨n1,n2⟩,⟨n3,n4⟩⟩:=Kn;simp only[ad,aiA,aiB] at a2 had m9 hL1;simp only[go_sem,go_sem_proc,ail,g5,lE,cy,cT,lO,cL,gY,jt,cz,cf,av,e0,e1,e5,e6,e8,e9,e10,m6,m9,hy,hget,d1,w4,a1,a2,a3,a4,aa,ad,aim,ait,bne,beq_self_eq_true,aio];refine hL1 _ _ (.dat (.sl (cash.map aa))) (.dat (.sl (cs.map clL))) (.dat (.bool true)) (.ptr 260006 0 0) (.dat (.int .i64 (o5 cash (i+1)))) (.ptr 260009 0 0) (.dat (.int .i64 i)) (.dat (.bool b)) _ _ (m 260021) (m 260024) (cD (m 260017)) _ _ ?_ ?_ ?_ ?_ ?_ ?_ ?_ ?_ ?_ ?_ ?_ (by simp only[ay,aiY,if_false];exact m6) (by simp only[ay,aiY,if_false];exact m9) (by simp only[ay,aiY,if_false]) (by simp only[ay,aiY,if_false]) (by simp only[ay,if_true]) ?_
  all_goals first | (intro tm2 m2 k0 k1 k5 k6 k8 k9 k10 k16 k17 q6 q9 q21 q24 q17) | (simp only[aO,aiY,if_false,if_true,e0,e1,e5,e6,e8,e9,e10];done)
  rcases q:decide (l1>0)
  ·refine qI ?_
   repeat' (intro h<;>simp only[h,go_sem,go_sem_proc,ail,g5,lE,cy,cT,lO,cL,gY,jt,cz,cf,av,k0,k1,k5,k6,k8,k9,k10,k16,k17,q6,q9,q17,w3,had,hs0,q,ad,bne,beq_self_eq_true,aio]<;>try refine qS ?_ ?_)
   exact⟨i+1,by omega,by omega,rfl,rfl,by rw[hKn]⟩
  ·rw[hsp q] at k16
   refine qI ?_
   repeat' (intro h<;>simp only[h,go_sem,go_sem_proc,ail,g5,lE,cy,cT,lO,cL,gY,jt,cz,cf,av,k0,k1,k5,k6,k8,k9,k10,k16,k17,q6,q9,q17,w3,had,hs0,q,ad,bne,beq_self_eq_true,aio]<;>try refine qS ?_ ?_)
   exact⟨i+1,by omega,by omega,rfl,rfl,by rw[hKn]⟩
 ·have d1:decide ((i:Int)<(cash.length:Int))=false:=decide_eq_false (by omega)
  obtain rfl:i=cash.length:=by omega
  simp only[go_sem,go_sem_proc,ail,g5,lE,cy,cT,lO,cL,gY,jt,cz,cf,av,e0,e1,e5,e6,e8,e9,e10,d1,aim];refine RV T cf cash cs hs (.dat (.bool true)) (.dat (.int .i64 (o5 cash cash.length))) (.dat (.sl FD)) _ _ ?_ ?_ ?_ ?_ ?_ ?_ m6 m9 ?_
  all_goals first | (intro tm2 m2 k5 k8 k9 q9) | (simp only[aO,aiY,if_false,if_true,e0,e1,e5,e6,e8,e9,e10];done)
  have hb1:=hcb cash.length (aiL _);have hin:bZ (o5 cash cash.length):=dG (by omega) (by omega);have b1:=oL hin;have ho:lM cash cs cs=((o5 cash cash.length:Int):Rat):=(EU hs).trans (J4 hs (aiL _));rw[ho] at q9;have b2:=fp (ew hin) (ew hin);rw[sc] at b2;generalize ah ((o5 cash cash.length:Int):Rat)=F at *;obtain⟨⟨f1,f2⟩,⟨f3,f4⟩⟩:=F;simp only[ad,aiA,aiB] at b1 b2 q9;refine qI ?_
  repeat' (intro h<;>simp only[h,go_sem,go_sem_proc,ail,g5,lE,cy,cT,lO,cL,gY,jt,cz,cf,av,k5,k8,k9,q9,b1,b2,ad,beq_self_eq_true]<;>try refine qS ?_ ?_)
