/- A part of the proof. -/
import Derived.Test.YtdbkjjoedjfmpaaGreatM14
import Derived.Test.YtdbkjjoedjfmpaaGreatM11
set_option linter.unusedSimpArgs false
set_option linter.unusedVariables false
open List renaming map_map → ain, map_congr_left → aio, length_map → air, getElem?_eq_getElem → aiw, mem_of_getElem? → aix, getElem?_map → aiy, take_add_one → aiz, take_of_length_le → aiA, length → aiB, range → aiC, map_cons → aiF, map_nil → aiG, map_append → aiI, filter_cons_of_pos → aiJ, filter_cons_of_neg → aiK, mem_map_of_mem → aiL, take_zero → aiS, foldl_append → aiU, getD_eq_getElem?_getD → aiV, filter_cons → aiW, length_take → aiX, filter_append → aiY, filter_nil → aiZ, append_nil → ai0, length_append → ai1, take_append_drop → ai3, length_nil → ai5
open Prod renaming ext → aip
open Bool renaming false_eq_true → aiq, not_false → ais, not_true → ait
open Nat renaming zero_le → aiu, mul_le_mul → aiQ, le_refl → aiR, reduceEqDiff → ai4
open Decidable renaming em → aiv
open Rat renaming add_zero → aiD, zero_add → aiE, le_trans → aiM, zero_mul → aiN, le_refl → aiO, natCast_mul → aiP
open Option renaming bind_none → aiH, toList_some → aiT
open Int renaming toNat_natCast → ai2, natCast_zero → ai6, cast_ofNat_Int → ai7, add_zero → ai8, zero_add → ai9
namespace Go.Mini
open Go
set_option maxRecDepth 10000
set_option maxHeartbeats 4000000
def jl (l:List Int):List Data:=[.sl (l.map aa)]
theorem vz:∀ a b:List Int,jl a=jl b→a=b:=by
 intro a b h;simp only[jl,List.cons.injEq,Data.sl.injEq,and_true] at h;exact af aj _ _ h
def Dt (a:List (List Int)):Prop:=a.length≤1000000∧∀ l∈a,l.length≤1000000
theorem HX (l:List (List Nat)):l.map nS=(l.map fun r=>r.map fun n=>((n:Nat):Int)).map jl:=by
 rw[ain];refine aio fun r _=>?_
 simp only[nS,jl,Function.comp_apply,ain]
 rfl
theorem rW {x:Rat} (hx:cr x):fq [.agg (ad (ah x))]=some (.same (.bool true)):=by
 have h1:=d8 hx;have:=Bp (ah x).1.1 (ah x).1.2 (ah x).2.1 (ah x).2.2 ⟨h1.1,h1.2⟩;rw[show bf (((ah x).1.1,(ah x).1.2),((ah x).2.1,(ah x).2.2))=true from mQ hx] at this;exact this
theorem oS {n:Int} (h:ct n):nJ [.int .i64 n]=some (.same (.agg (ad (ah (n:Rat))))):=zY n h
theorem rK (x:Rat):kK x x=0:=cmpQ_zero.2 rfl
noncomputable def lJ:List Data→Option PRes:=FF (α:=(List (List Int)) × (List (List Int))) (fun (a,b)=>([.sl (a.map jl),.sl (b.map jl)]:List Data)) (fun (a,b)=>aH (Dt a∧Dt b) (.same (.bool (a==b))))
theorem rl:∀ a b:(List (List Int)) × (List (List Int)),(fun (a,b)=>([.sl (a.map jl),.sl (b.map jl)]:List Data)) a=(fun (a,b)=>([.sl (a.map jl),.sl (b.map jl)]:List Data)) b→a=b:=by
  rintro⟨a1,b1⟩ ⟨a2,b2⟩ h;simp only[List.cons.injEq,Data.sl.injEq,and_true] at h;exact aip (af vz _ _ h.1) (af vz _ _ h.2)
@[go_sem] theorem rG (a:List (List Int)) (b:List (List Int)) (hc:Dt a∧Dt b):lJ [.sl (a.map jl),.sl (b.map jl)]=some (.same (.bool (a==b))):=(aY rl (a,b)).trans (al hc _)
theorem vQ (T:Tab)  (a:List (List Int)) (b:List (List Int)) (hc:Dt a∧Dt b) :
  wp T mf_ref20_SameRounds.body (bF mf_ref20_SameRounds.res (.same (.bool (a==b)))) ⟨ax [.dat (.sl (a.map jl)),.dat (.sl (b.map jl))],emp⟩:=by
 refine ap ?_;simp only[mf_ref20_SameRounds];obtain⟨⟨la,oa⟩,⟨lb,ob⟩⟩:=hc;rcases hl:((a.length:Int)==(b.length:Int))
 ·have hab:(a==b)=false:=by rw[beq_eq_false_iff_ne];rintro rfl;simp at hl
  rw[hab];refine qI ?_
  repeat' (intro h<;>simp only[h,go_sem,go_sem_proc,aiq,hl,air,bne,ais]<;>try refine qS ?_ ?_)
 ·have hle:a.length=b.length:=by have:=eq_of_beq hl;omega
  simp only[go_sem,go_sem_proc,aiq,hl,air,bne,ait];refine ae [0,1] [] (fun (i:Nat) tm mem=>i≤a.length∧a.take i=b.take i∧tm 5 = .dat (.int .i64 i)) (fun i=>a.length-i) 0 (by refine⟨aiu _,by simp,rfl⟩) ?_;intro vs ms hvs hms;simp only[go_sem,go_sem_proc,aiq,air] at hvs hms;subst hvs hms;rintro i tm mem hk hm ⟨hi,hall,e5⟩;simp only[go_sem,go_sem_proc,aiq,List.cons.injEq] at hk hm;obtain⟨e0,e1⟩:=hk;rcases aiv (i<a.length) with hlt | hge
  ·have d1:decide ((i:Int)<(a.length:Int))=true:=decide_eq_true (by omega)
   have w3:IntKind.i64.wrap ((i:Int)+1)=((i+1:Nat):Int):=by rw[an _ (by omega) (by omega)];omega
   obtain⟨x,hx⟩:∃ x,a[i]?=some x:=⟨_,aiw hlt⟩;obtain⟨y,hy⟩:∃ x,b[i]?=some x:=⟨_,aiw (by omega)⟩;have ox:=oa x (aix hx);rcases q:((x.length:Int)==(y.length:Int))
   ·have hab:(a==b)=false:=by rw[beq_eq_false_iff_ne];rintro rfl;rw[hx] at hy;cases hy;simp at q
    rw[hab];refine qI ?_
    repeat' (intro h<;>simp only[h,go_sem,go_sem_proc,aiq,e0,e1,e5,hx,hy,d1,q,jl,air,aiy,bne,ais]<;>try refine qS ?_ ?_)
   ·have hxy:x.length=y.length:=by have:=eq_of_beq q;omega
    simp only[go_sem,go_sem_proc,aiq,e0,e1,e5,hx,hy,d1,q,jl,air,aiy,bne,ait];refine ae [0,1,5] [] (fun (k:Nat) tm mem=>k≤x.length∧x.take k=y.take k∧tm 6 = .dat (.int .i64 k)) (fun k=>x.length-k) 0 (by refine⟨aiu _,by simp,rfl⟩) ?_;intro vs ms hvs hms;simp only[go_sem,go_sem_proc,aiq,e0,e1,e5] at hvs hms;subst hvs hms;clear e0 e1 e5 hm tm mem;rintro k tm mem hk hm ⟨hki,hal2,e6⟩;simp only[go_sem,go_sem_proc,aiq,List.cons.injEq] at hk hm;obtain⟨e0,e1,e5⟩:=hk;rcases aiv (k<x.length) with hlk | hgk
    ·have d2:decide ((k:Int)<(x.length:Int))=true:=decide_eq_true (by omega)
     have w4:IntKind.i64.wrap ((k:Int)+1)=((k+1:Nat):Int):=by rw[an _ (by omega) (by omega)];omega
     obtain⟨u,hu⟩:∃ u,x[k]?=some u:=⟨_,aiw hlk⟩;obtain⟨v,hv⟩:∃ u,y[k]?=some u:=⟨_,aiw (by omega)⟩;rcases q2:(u==v)
     ·have hab:(a==b)=false:=by
       rw[beq_eq_false_iff_ne];rintro rfl;rw[hx] at hy
       cases hy;rw[hu] at hv
       cases hv;simp at q2
      rw[hab];refine qI ?_
      repeat' (intro h<;>simp only[h,go_sem,go_sem_proc,aiq,e0,e1,e5,e6,hx,hy,hu,hv,d2,q2,jl,aa,air,aiy,bne,ais]<;>try refine qS ?_ ?_)
     ·have huv:u=v:=by simpa using q2
      refine qI ?_
      repeat' (intro h<;>simp only[h,go_sem,go_sem_proc,aiq,e0,e1,e5,e6,hx,hy,hu,hv,d2,w4,q2,jl,aa,air,aiy,bne,ait]<;>try refine qS ?_ ?_)
      exact⟨k+1,by omega,by omega,by rw[aiz,aiz,hal2,hu,hv,huv],rfl⟩
    ·have d2:decide ((k:Int)<(x.length:Int))=false:=decide_eq_false (by omega)
     rw[aiA (by omega),aiA (by omega)] at hal2;refine qI ?_
     repeat' (intro h<;>simp only[h,go_sem,go_sem_proc,aiq,e0,e1,e5,e6,hx,d2,w3,jl,air,aiy]<;>try refine qS ?_ ?_)
     exact⟨i+1,by omega,by omega,by rw[aiz,aiz,hall,hx,hy,hal2],rfl⟩
  ·have d1:decide ((i:Int)<(a.length:Int))=false:=decide_eq_false (by omega)
   rw[aiA (by omega),aiA (by omega)] at hall;have hab:(a==b)=true:=by rw[hall];exact beq_self_eq_true _
   rw[hab];refine qI ?_
   repeat' (intro h<;>simp only[h,go_sem,go_sem_proc,aiq,e0,e1,e5,d1,air]<;>try refine qS ?_ ?_)
structure HasOK (cash:List Int) (cs:List ClR) (hv pv:List Int) (fl:List (List Int)):Prop where
 s:SmallD cash cs
 h:iW cash cs=hv.map fun n:Int=>ah (n:Rat)
 p:iN cash cs=pv.map fun n:Int=>ah (n:Rat)
 f:((ab cash cs).frs.map fun r=>r.map fun n=>((n:Nat):Int))=fl
 hi:∀ n∈hv,ct n
 pi:∀ n∈pv,ct n
 o:Dt fl
theorem HasOK.solve {cash:List Int} {cs:List ClR} {hv pv:List Int} {fl:List (List Int)} (h:HasOK cash cs hv pv fl):mG [.sl (cash.map aa),.sl (cs.map clL)]=some (.same (.tup [.agg [.sl ((hv.map fun n:Int=>ah (n:Rat)).map ad),.sl ((pv.map fun n:Int=>ah (n:Rat)).map ad),.sl (fl.map jl)],.int .i64 0])):=by
 have hn:=h.s.n5;have h12:=h.s.c12;have sv:=oy cash cs ⟨by omega,by omega,fun _=>h.s⟩
 unfold Ek at sv;rw[if_pos h.s.right,h.h,h.p,HX,h.f] at sv;exact sv
theorem HasOK.fits {cash:List Int} {cs:List ClR} {hv pv:List Int} {fl:List (List Int)} (h:HasOK cash cs hv pv fl):tl [.sl (cash.map aa),.sl (cs.map clL),.sl ((hv.map fun n:Int=>ah (n:Rat)).map ad)]=some (.same (.bool true)):=by
 obtain⟨h1,h2⟩:=H0 h.s;have:=Da cash cs (iW cash cs) h1;rw[h2,h.h] at this;exact this
theorem HasOK.small {cash:List Int} {cs:List ClR} {hv pv:List Int} {fl:List (List Int)} (h:HasOK cash cs hv pv fl):hv.length≤5∧pv.length≤12:=by
 have h1:=congrArg aiB h.h;have h2:=congrArg aiB h.p;unfold iW at h1;unfold iN at h2;rw[de,air] at h1;rw[air,air] at h2;have hn:=h.s.n5;have h12:=h.s.c12;omega
noncomputable def C1:List Data→Option PRes:=FF (α:=(List Int) × (List ClR) × (List Int) × (List Int) × (List (List Int))) (fun (cash,cs,hv,pv,fl)=>([.sl (cash.map aa),.sl (cs.map clL),.sl (hv.map aa),.sl (pv.map aa),.sl (fl.map jl)]:List Data)) (fun (cash,cs,hv,pv,fl)=>aH (HasOK cash cs hv pv fl) (.same (.bool true)))
theorem Cx:∀ a b:(List Int) × (List ClR) × (List Int) × (List Int) × (List (List Int)),(fun (cash,cs,hv,pv,fl)=>([.sl (cash.map aa),.sl (cs.map clL),.sl (hv.map aa),.sl (pv.map aa),.sl (fl.map jl)]:List Data)) a=(fun (cash,cs,hv,pv,fl)=>([.sl (cash.map aa),.sl (cs.map clL),.sl (hv.map aa),.sl (pv.map aa),.sl (fl.map jl)]:List Data)) b→a=b:=by
  rintro⟨cash1,cs1,hv1,pv1,fl1⟩ ⟨cash2,cs2,hv2,pv2,fl2⟩ h;simp only[List.cons.injEq,Data.sl.injEq,and_true] at h;exact aip (af aj _ _ h.1) (aip (af fj _ _ h.2.1) (aip (af aj _ _ h.2.2.1) (aip (af aj _ _ h.2.2.2.1) (af vz _ _ h.2.2.2.2))))
@[go_sem] theorem oB (cash:List Int) (cs:List ClR) (hv:List Int) (pv:List Int) (fl:List (List Int)) (hc:HasOK cash cs hv pv fl):C1 [.sl (cash.map aa),.sl (cs.map clL),.sl (hv.map aa),.sl (pv.map aa),.sl (fl.map jl)]=some (.same (.bool true)):=(aY Cx (cash,cs,hv,pv,fl)).trans (al hc _)
theorem PV (T:Tab) (bV:T ew=mkE mG) (dI:T gZ=mkE lJ) (cv:T gy=mkE nJ) (aq:T aW=mkE dt) (aE:T aT=mkE fq) (ky:T lZ=mkE tl) (cash:List Int) (cs:List ClR) (hv:List Int) (pv:List Int) (fl:List (List Int)) (hc:HasOK cash cs hv pv fl) :
  wp T mf_law20_has.body (bF mf_law20_has.res (.same (.bool true))) ⟨ax [.dat (.sl (cash.map aa)),.dat (.sl (cs.map clL)),.dat (.sl (hv.map aa)),.dat (.sl (pv.map aa)),.dat (.sl (fl.map jl))],emp⟩:=by
 refine ap ?_;simp only[mf_law20_has];have sv:=hc.solve;have ft:=hc.fits;have sr:=rG fl fl ⟨hc.o,hc.o⟩;rw[beq_self_eq_true] at sr;obtain⟨l1,l2⟩:=hc.small;have hhi:=hc.hi;have hpi:=hc.pi;clear hc;simp only[go_sem,go_sem_proc,aiq,bV,dI,cv,aq,aE,ky,sv,sr,air,bne,beq_self_eq_true,ait];refine ae [0,1,2,3,11] [226011] (fun (i:Nat) tm mem=>i≤hv.length∧tm 13 = .dat (.int .i64 i)) (fun i=>hv.length-i) 0 (by refine⟨aiu _,rfl⟩) ?_;intro vs ms hvs hms;simp only[go_sem,go_sem_proc,aiq,bV,dI,cv,aq,aE,ky,air] at hvs hms;subst hvs hms;rintro i tm mem hk hm ⟨hi,e13⟩;simp only[go_sem,go_sem_proc,aiq,bV,dI,cv,aq,aE,ky,List.cons.injEq] at hk hm;obtain⟨e0,e1,e2,e3,e11⟩:=hk;rcases aiv (i<hv.length) with hlt | hge
 ·have d1:decide ((i:Int)<(hv.length:Int))=true:=decide_eq_true (by omega)
  have w3:IntKind.i64.wrap ((i:Int)+1)=((i+1:Nat):Int):=by rw[an _ (by omega) (by omega)];omega
  obtain⟨n,hn⟩:∃ n,hv[i]?=some n:=⟨_,aiw hlt⟩;have hin:=hhi n (aix hn);have hl:=eT hin;have a1:=oS hin;have a2:=fJ hl hl;have a3:=rW hl;rw[rK] at a2;generalize hF:ah ((n:Int):Rat)=F at *;obtain⟨⟨f1,f2⟩,⟨f3,f4⟩⟩:=F;simp only[ad] at a1 a2 a3;refine qI ?_
  repeat' (intro h<;>simp only[h,go_sem,go_sem_proc,aiq,bV,dI,cv,aq,aE,ky,e0,e1,e2,e3,e11,e13,hm,hn,hF,d1,w3,a1,a2,a3,ad,aa,air,aiy,bne,beq_self_eq_true,ait]<;>try refine qS ?_ ?_)
  exact⟨i+1,by omega,by omega,rfl⟩
 ·have d1:decide ((i:Int)<(hv.length:Int))=false:=decide_eq_false (by omega)
  simp only[go_sem,go_sem_proc,aiq,bV,dI,cv,aq,aE,ky,e0,e1,e2,e3,e11,e13,hm,d1,air];refine ae [0,1,3,11] [226011] (fun (i:Nat) tm mem=>i≤pv.length∧tm 14 = .dat (.int .i64 i)) (fun i=>pv.length-i) 0 (by refine⟨aiu _,rfl⟩) ?_;intro vs ms hvs hms;simp only[go_sem,go_sem_proc,aiq,bV,dI,cv,aq,aE,ky,e0,e1,e3,e11,hm,air] at hvs hms;subst hvs hms;clear e0 e1 e2 e3 e11 e13 hm d1 tm mem;rintro i tm mem hk hm ⟨hi,e14⟩;simp only[go_sem,go_sem_proc,aiq,bV,dI,cv,aq,aE,ky,List.cons.injEq] at hk hm;obtain⟨e0,e1,e3,e11⟩:=hk;rcases aiv (i<pv.length) with hlt | hge
  ·have d1:decide ((i:Int)<(pv.length:Int))=true:=decide_eq_true (by omega)
   have w3:IntKind.i64.wrap ((i:Int)+1)=((i+1:Nat):Int):=by rw[an _ (by omega) (by omega)];omega
   obtain⟨n,hn⟩:∃ n,pv[i]?=some n:=⟨_,aiw hlt⟩;have hin:=hpi n (aix hn);have hl:=eT hin;have a1:=oS hin;have a2:=fJ hl hl;have a3:=rW hl;rw[rK] at a2;generalize hF:ah ((n:Int):Rat)=F at *;obtain⟨⟨f1,f2⟩,⟨f3,f4⟩⟩:=F;simp only[ad] at a1 a2 a3;refine qI ?_
   repeat' (intro h<;>simp only[h,go_sem,go_sem_proc,aiq,bV,dI,cv,aq,aE,ky,e0,e1,e3,e11,e14,hm,hn,hF,d1,w3,a1,a2,a3,ad,aa,air,aiy,bne,beq_self_eq_true,ait]<;>try refine qS ?_ ?_)
   exact⟨i+1,by omega,by omega,rfl⟩
  ·have d1:decide ((i:Int)<(pv.length:Int))=false:=decide_eq_false (by omega)
   refine qI ?_
   repeat' (intro h<;>simp only[h,go_sem,go_sem_proc,aiq,bV,dI,cv,aq,aE,ky,e0,e1,e3,e11,e14,hm,d1,ft,air]<;>try refine qS ?_ ?_)
end Go.Mini
namespace Go.Mini
open Classical
theorem tV {d:Day} {f:Nat→Nat} {l:List Nat} (h:d.falls f=l) (hl:l≠[]) (k:Nat):(d.rounds (k+1) f).1=l::(d.rounds k (d.fallen f (d.top f))).1∧(d.rounds (k+1) f).2=(d.rounds k (d.fallen f (d.top f))).2:=by
 rw[Day.rounds,if_neg (by rw[h];exact hl),h];exact⟨rfl,rfl⟩
theorem pR {d:Day} (hn:d.n=2) (f:Nat→Nat):d.falls f=(if d.top f 0<d.U 0 (f 0) then [0] else [])++if d.top f 1<d.U 1 (f 1) then [1] else []:=by
 unfold Day.falls;rw[hn,show aiC 2=[0,1] from rfl]
 by_cases h0:d.top f 0<d.U 0 (f 0)<;>by_cases h1:d.top f 1<d.U 1 (f 1)<;>simp [h0,h1]
theorem Id {d:Day} (hn:d.n=1) (f:Nat→Nat):d.falls f=(if d.top f 0<d.U 0 (f 0) then [0] else []):=by
 unfold Day.falls;rw[hn,show aiC 1=[0] from rfl]
 by_cases h0:d.top f 0<d.U 0 (f 0)<;>simp [h0]
theorem oQ {d:Day} {f:Nat→Nat} {h:Nat→Rat} {i:Nat} (hh:¬ h i<d.U i (f i)):d.fallen f h i=f i:=if_neg fun x=>hh x.2
theorem mD {d:Day} {f:Nat→Nat} {h:Nat→Rat} {i r:Nat} (hi:i<d.n) (hh:h i<d.U i (f i)) (hr:r<10) (h1:∀ j,j<r→d.U i (j+1)≤h i) (h2:h i<d.U i (r+1)):d.fallen f h i=r:=by
 unfold Day.fallen;rw[if_pos ⟨hi,hh⟩]
 have:∀ k,k≤10→10-k≤r→d.fallRank h i k=r:=by
  intro k
  induction k with
  | zero=>intro _ h;omega
  | succ k ih =>
   intro hk hle;rw[Day.fallRank]
   by_cases he:10-(k+1)=r
   ·rw[if_pos (by rw[he];exact h2),he]
   ·rw[if_neg (by have:=h1 (10-(k+1)) (by omega);grind)]
    exact ih (by omega) (by omega)
 exact this 10 (by omega) (by omega)
theorem fR {d:Day} (hd:d.OK) {f:Nat→Nat} (hr:Reach d f):∀ i,i<d.n→d.top f i=d.into (d.q f (d.top f)) i:=by
 obtain⟨g,h1,h2,h3⟩:=Day.top_spec (hd.hex f hr);exact h2
theorem Q7 {d:Day} (hn:d.n=2) {f1:Nat→Nat} {l:List Nat} (h:d.falls (fun _=>10)=l) (hl:l≠[]) (hf:d.fallen (fun _=>10) (d.top fun _=>10)=f1) (h1:d.falls f1=[]):d.frs=[l]∧d.gr=d.top f1:=by
 have h2:=tV h hl 19;rw[hf,d.rounds_stop h1] at h2;unfold Day.frs Day.gr Day.fend;rw[hn];exact⟨h2.1,by rw[show 10*2=19+1 from rfl,h2.2]⟩
theorem Q5 {d:Day} (hn:d.n=1) {f1:Nat→Nat} {l:List Nat} (h:d.falls (fun _=>10)=l) (hl:l≠[]) (hf:d.fallen (fun _=>10) (d.top fun _=>10)=f1) (h1:d.falls f1=[]):d.frs=[l]∧d.gr=d.top f1:=by
 have h2:=tV h hl 9;rw[hf,d.rounds_stop h1] at h2;unfold Day.frs Day.gr Day.fend;rw[hn];exact⟨h2.1,by rw[show 10*1=9+1 from rfl,h2.2]⟩
def e1:Day:=ab [5,0] [(0,1,0,10),(1,-1,0,4)]
theorem QW:e1.OK:=ma (by decide)
theorem uy:e1.cl=[⟨0,1,0,10⟩,⟨1,-1,0,4⟩]:=rfl
theorem Tz:e1.cash 0=5∧e1.cash 1=0:=⟨rfl,rfl⟩
theorem RZ:e1.gr 0=5∧e1.gr 1=5∧e1.frs=[[0]]:=by
 have hd:=QW;obtain⟨c0,c1⟩:=Tz;have r0:=Reach.start hd;have U0:∀ r,0<r→e1.U 0 r=10:=fun r hr=>by simp [uy,Day.U,sumC,aiD,aiE,hr]
 have U1:∀ r,0<r→e1.U 1 r=4:=fun r hr=>by simp [uy,Day.U,sumC,aiD,aiE,hr]
 have S0:e1.S 0 0=10:=by simp [uy,Day.S,sumC,aiD,aiE]
 have w0:e1.w ⟨0,1,0,10⟩=1:=by simp only[Day.w,S0];decide +kernel
 have t0:e1.top (fun _=>10) 0=5:=by rw[fR hd r0 0 (by decide)];simp [uy,Day.into,Day.q,sumC,c0,aiD,aiE]
 have t1:e1.top (fun _=>10) 1=10:=by rw[fR hd r0 1 (by decide)];simp [uy,Day.into,Day.q,sumC,c1,aiD,aiE]
 have f1:e1.falls (fun _=>10)=[0]:=by
  rw[pR rfl,t0,t1,U0 10 (by omega),U1 10 (by omega),if_pos (by decide +kernel),if_neg (by decide +kernel)];rfl
 have r1:=r0.next hd hd.hex;have g0:e1.fallen (fun _=>10) (e1.top fun _=>10) 0=0:=mD (by decide) (by rw[t0,U0 10 (by omega)];decide +kernel) (by omega) (fun j hj=>by omega) (by rw[t0,U0 1 (by omega)];decide +kernel);have g1:e1.fallen (fun _=>10) (e1.top fun _=>10) 1=10:=oQ (by rw[t1,U1 10 (by omega)];decide +kernel);generalize hF:e1.fallen (fun _=>10) (e1.top fun _=>10)=F at *;have s0:e1.top F 0=5:=by rw[fR hd r1 0 (by decide)];simp [uy,Day.into,Day.q,sumC,c0,aiD,aiE]
 have s1:e1.top F 1=5:=by
  rw[fR hd r1 1 (by decide)];have hp:pos (5-0)=5:=by decide +kernel
  simp [uy,Day.into,Day.q,sumC,c1,g0,g1,w0,s0,e1.U_zero,hp,aiD,aiE]
  try grind
 have f2:e1.falls F=[]:=by
  rw[pR rfl,s0,s1,g0,g1,e1.U_zero,U1 10 (by omega),if_neg (by decide +kernel),if_neg (by decide +kernel)];rfl
 obtain⟨h1,h2⟩:=Q7 rfl f1 (by decide) hF f2;rw[h2];exact⟨s0,s1,h1⟩
def e2:Day:=ab [0,0] [(0,1,1,10),(1,0,1,10)]
theorem RJ:e2.OK:=ma (by decide)
theorem EN:e2.cl=[⟨0,1,1,10⟩,⟨1,0,1,10⟩]:=rfl
theorem TL:e2.cash 0=0∧e2.cash 1=0:=⟨rfl,rfl⟩
theorem Sg:e2.gr 0=10∧e2.gr 1=10∧e2.frs=[]:=by
 have hd:=RJ;obtain⟨c0,c1⟩:=TL;have r0:=Reach.start hd;have U0:∀ r,1<r→e2.U 0 r=10:=fun r hr=>by simp [EN,Day.U,sumC,aiD,aiE,hr]
 have U1:∀ r,1<r→e2.U 1 r=10:=fun r hr=>by simp [EN,Day.U,sumC,aiD,aiE,hr]
 have t0:e2.top (fun _=>10) 0=10:=by rw[fR hd r0 0 (by decide)];simp [EN,Day.into,Day.q,sumC,c0,aiD,aiE]
 have t1:e2.top (fun _=>10) 1=10:=by rw[fR hd r0 1 (by decide)];simp [EN,Day.into,Day.q,sumC,c1,aiD,aiE]
 have f1:e2.falls (fun _=>10)=[]:=by
  rw[pR rfl,t0,t1,U0 10 (by omega),U1 10 (by omega),if_neg (by decide +kernel)];rfl
 have h1:=e2.rounds_stop f1 (10*e2.n);unfold Day.gr Day.fend Day.frs;rw[h1];exact⟨t0,t1,rfl⟩
def e4:Day:=ab [9] [(0,-1,0,6),(0,-1,1,2),(0,-1,1,4)]
theorem SE:e4.OK:=ma (by decide)
theorem EP:e4.cl=[⟨0,-1,0,6⟩,⟨0,-1,1,2⟩,⟨0,-1,1,4⟩]:=rfl
theorem TM:e4.cash 0=9:=rfl
theorem Rj:e4.gr 0=9∧e4.frs=[[0]]:=by
 have hd:=SE;have c0:=TM;have r0:=Reach.start hd;have tt:∀ f,Reach e4 f→e4.top f 0=9:=fun f hr=>by rw[fR hd hr 0 (by decide)];simp [EP,Day.into,Day.q,sumC,c0,aiD,aiE]
 have U10:e4.U 0 10=12:=by simp only[EP,Day.U,sumC];decide +kernel
 have U1:e4.U 0 1=6:=by simp only[EP,Day.U,sumC];decide +kernel
 have U2:e4.U 0 2=12:=by simp only[EP,Day.U,sumC];decide +kernel
 have t0:=tt _ r0
 have f1:e4.falls (fun _=>10)=[0]:=by
  rw[Id rfl,t0,U10,if_pos (by decide +kernel)]
 have r1:=r0.next hd hd.hex;have g0:e4.fallen (fun _=>10) (e4.top fun _=>10) 0=1:=mD (by decide) (by rw[t0,U10];decide +kernel) (by omega) (fun j hj=>by rw[show j=0 by omega,t0,U1];decide +kernel) (by rw[t0,U2];decide +kernel);generalize hF:e4.fallen (fun _=>10) (e4.top fun _=>10)=F at *;have s0:=tt _ r1
 have f2:e4.falls F=[]:=by
  rw[Id rfl,s0,g0,U1,if_neg (by decide +kernel)]
 obtain⟨h1,h2⟩:=Q5 rfl f1 (by decide) hF f2;rw[h2];exact⟨s0,h1⟩
theorem RY {d:Day} (hn:d.n=2) {f1 f2 f3:Nat→Nat} {l1 l2 l3:List Nat} (h1:d.falls (fun _=>10)=l1) (hl1:l1≠[]) (hf1:d.fallen (fun _=>10) (d.top fun _=>10)=f1) (h2:d.falls f1=l2) (hl2:l2≠[]) (hf2:d.fallen f1 (d.top f1)=f2) (h3:d.falls f2=l3) (hl3:l3≠[]) (hf3:d.fallen f2 (d.top f2)=f3) (h4:d.falls f3=[]):d.frs=[l1,l2,l3]∧d.gr=d.top f3:=by
 have k1:=tV h1 hl1 19;have k2:=tV h2 hl2 18;have k3:=tV h3 hl3 17;rw[hf1] at k1;rw[hf2] at k2;rw[hf3,d.rounds_stop h4] at k3;unfold Day.frs Day.gr Day.fend;rw[hn];refine⟨?_,?_⟩
 ·rw[show 10*2=19+1 from rfl,k1.1,show 19=18+1 from rfl,k2.1,show 18=17+1 from rfl,k3.1]
 ·rw[show 10*2=19+1 from rfl,k1.2,show 19=18+1 from rfl,k2.2,show 18=17+1 from rfl,k3.2]
def e3:Day:=ab [0,0] [(0,1,1,10),(1,0,1,10),(0,-1,0,5)]
theorem Sb:e3.OK:=ma (by decide)
theorem kS:e3.cl=[⟨0,1,1,10⟩,⟨1,0,1,10⟩,⟨0,-1,0,5⟩]:=rfl
theorem Ts:e3.cash 0=0∧e3.cash 1=0:=⟨rfl,rfl⟩
theorem JW {x y:Rat} (h:x=pos y):(y≤0∧x=0)∨(0≤y∧x=y):=by
 unfold pos at h
 split at h
 ·left;constructor<;>grind
 ·right;constructor<;>grind
theorem QU:e3.gr 0=0∧e3.gr 1=0∧e3.frs=[[0],[1],[0]]:=by
 have hd:=Sb;obtain⟨c0,c1⟩:=Ts;have r0:=Reach.start hd;have U01:e3.U 0 1=5:=by simp only[kS,Day.U,sumC];decide +kernel
 have U02:e3.U 0 2=15:=by simp only[kS,Day.U,sumC];decide +kernel
 have U0:e3.U 0 10=15:=by simp only[kS,Day.U,sumC];decide +kernel
 have U11:e3.U 1 1=0:=by simp only[kS,Day.U,sumC];decide +kernel
 have U12:e3.U 1 2=10:=by simp only[kS,Day.U,sumC];decide +kernel
 have U1:e3.U 1 10=10:=by simp only[kS,Day.U,sumC];decide +kernel
 have S01:e3.S 0 1=10:=by simp only[kS,Day.S,sumC];decide +kernel
 have S11:e3.S 1 1=10:=by simp only[kS,Day.S,sumC];decide +kernel
 have w0:e3.w ⟨0,1,1,10⟩=1:=by simp only[Day.w,S01];decide +kernel
 have w1:e3.w ⟨1,0,1,10⟩=1:=by simp only[Day.w,S11];decide +kernel
 have t0:e3.top (fun _=>10) 0=10:=by rw[fR hd r0 0 (by decide)];simp [kS,Day.into,Day.q,sumC,c0,aiD,aiE]
 have t1:e3.top (fun _=>10) 1=10:=by rw[fR hd r0 1 (by decide)];simp [kS,Day.into,Day.q,sumC,c1,aiD,aiE]
 have f1:e3.falls (fun _=>10)=[0]:=by
  rw[pR rfl,t0,t1,U0,U1,if_pos (by decide +kernel),if_neg (by decide +kernel)];rfl
 have r1:=r0.next hd hd.hex;have g0:e3.fallen (fun _=>10) (e3.top fun _=>10) 0=1:=mD (by decide) (by rw[t0,U0];decide +kernel) (by omega) (fun j hj=>by rw[show j=0 by omega,t0,U01];decide +kernel) (by rw[t0,U02];decide +kernel);have g1:e3.fallen (fun _=>10) (e3.top fun _=>10) 1=10:=oQ (by rw[t1,U1];decide +kernel);generalize hF:e3.fallen (fun _=>10) (e3.top fun _=>10)=F at *;have s0:e3.top F 0=10:=by rw[fR hd r1 0 (by decide)];simp [kS,Day.into,Day.q,sumC,c0,g1,aiD,aiE]
 have s1:e3.top F 1=5:=by
  have hp:pos (10-5)=5:=by decide +kernel
  rw[fR hd r1 1 (by decide)];simp [kS,Day.into,Day.q,sumC,c1,g0,w0,s0,U01,hp,aiD,aiE]
  try grind
 have f2:e3.falls F=[1]:=by
  rw[pR rfl,s0,s1,g0,g1,U01,U1,if_neg (by decide +kernel),if_pos (by decide +kernel)];rfl
 have r2:=r1.next hd hd.hex;have k0:e3.fallen F (e3.top F) 0=1:=(oQ (by rw[s0,g0,U01];decide +kernel)).trans g0;have k1:e3.fallen F (e3.top F) 1=1:=mD (by decide) (by rw[s1,g1,U1];decide +kernel) (by omega) (fun j hj=>by rw[show j=0 by omega,s1,U11];decide +kernel) (by rw[s1,U12];decide +kernel);generalize hG:e3.fallen F (e3.top F)=G at *;have x0:=fR hd r2 0 (by decide);have x1:=fR hd r2 1 (by decide);simp [kS,Day.into,Day.q,sumC,c0,c1,k0,k1,w0,w1,U01,U11,aiD,aiE,Rat.one_mul] at x0 x1
 have v:e3.top G 0=0∧e3.top G 1=0:=by
  rcases JW x0 with ⟨y1,y2⟩ | ⟨y1,y2⟩<;>rcases JW x1 with ⟨z1,z2⟩ | ⟨z1,z2⟩<;>constructor<;>grind
 obtain⟨v0,v1⟩:=v
 have f3:e3.falls G=[0]:=by
  rw[pR rfl,v0,v1,k0,k1,U01,U11,if_pos (by decide +kernel),if_neg (by decide +kernel)];rfl
 have r3:=r2.next hd hd.hex;have m0:e3.fallen G (e3.top G) 0=0:=mD (by decide) (by rw[v0,k0,U01];decide +kernel) (by omega) (fun j hj=>by omega) (by rw[v0,U01];decide +kernel);have m1:e3.fallen G (e3.top G) 1=1:=(oQ (by rw[v1,k1,U11];decide +kernel)).trans k1;generalize hH:e3.fallen G (e3.top G)=H at *
 have p1:e3.top H 1=0:=by
  rw[fR hd r3 1 (by decide)];simp [kS,Day.into,Day.q,sumC,c1,m0,aiD,aiE]
 have p0:e3.top H 0=0:=by
  have hp:pos (0-0)=0:=by decide +kernel
  rw[fR hd r3 0 (by decide)];simp [kS,Day.into,Day.q,sumC,c0,m1,w1,p1,U11,hp,aiD,aiE]
 have f4:e3.falls H=[]:=by
  rw[pR rfl,p0,p1,m0,m1,e3.U_zero,U11,if_neg (by decide +kernel)];rfl
 obtain⟨h1,h2⟩:=RY rfl f1 (by decide) hF f2 (by decide) hG f3 (by decide) hH f4;rw[h2];exact⟨p0,p1,h1⟩
def e5:Day:=ab [10,30] [(1,-1,0,25)]
def e6:Day:=ab [10,0] [(0,1,0,30)]
def e7:Day:=ab [30,0] [(0,1,0,30)]
end Go.Mini
namespace Go.Mini
open Go
set_option maxRecDepth 10000
set_option maxHeartbeats 4000000
theorem Tr:HasOK [5,0] [(0,1,0,10),(1,-1,0,4)] [5,5] [5,4] [[0]]:=by
 obtain⟨g0,g1,g2⟩:=RZ;refine⟨⟨by decide,by decide,by decide,by decide⟩,?_,?_,?_,fun n hn=>?_,fun n hn=>?_,by decide,by decide⟩
 ·show [ah (e1.gr 0),ah (e1.gr 1)]=_
  rw[g0,g1];rfl
 ·show [ah (cg _ (e1.gr 0) _),ah (cg _ (e1.gr 1) _)]=_
  rw[g0,g1,show cg [(0,1,0,10),(1,-1,0,4)] 5 (0,1,0,10)=5 by decide +kernel,show cg [(0,1,0,10),(1,-1,0,4)] 5 (1,-1,0,4)=4 by decide +kernel];rfl
 ·show e1.frs.map _=_
  rw[g2];rfl
 ·simp at hn;subst hn;exact dX (by omega) (by omega)
 ·simp at hn;rcases hn with rfl | rfl<;>exact dX (by omega) (by omega)
theorem Tv:HasOK [0,0] [(0,1,1,10),(1,0,1,10)] [10,10] [10,10] []:=by
 obtain⟨g0,g1,g2⟩:=Sg;refine⟨⟨by decide,by decide,by decide,by decide⟩,?_,?_,?_,fun n hn=>?_,fun n hn=>?_,by decide,by decide⟩
 ·show [ah (e2.gr 0),ah (e2.gr 1)]=_
  rw[g0,g1];rfl
 ·show [ah (cg _ (e2.gr 0) _),ah (cg _ (e2.gr 1) _)]=_
  rw[g0,g1,show cg [(0,1,1,10),(1,0,1,10)] 10 (0,1,1,10)=10 by decide +kernel,show cg [(0,1,1,10),(1,0,1,10)] 10 (1,0,1,10)=10 by decide +kernel];rfl
 ·show e2.frs.map _=_
  rw[g2];rfl
 ·simp at hn;subst hn;exact dX (by omega) (by omega)
 ·simp at hn;subst hn;exact dX (by omega) (by omega)
theorem TB:HasOK [0,0] [(0,1,1,10),(1,0,1,10),(0,-1,0,5)] [0,0] [0,0,0] [[0],[1],[0]]:=by
 obtain⟨g0,g1,g2⟩:=QU;refine⟨⟨by decide,by decide,by decide,by decide⟩,?_,?_,?_,fun n hn=>?_,fun n hn=>?_,by decide,by decide⟩
 ·show [ah (e3.gr 0),ah (e3.gr 1)]=_
  rw[g0,g1];rfl
 ·show [ah (cg _ (e3.gr 0) _),ah (cg _ (e3.gr 1) _),ah (cg _ (e3.gr 0) _)]=_
  rw[g0,g1,show cg [(0,1,1,10),(1,0,1,10),(0,-1,0,5)] 0 (0,1,1,10)=0 by decide +kernel,show cg [(0,1,1,10),(1,0,1,10),(0,-1,0,5)] 0 (1,0,1,10)=0 by decide +kernel,show cg [(0,1,1,10),(1,0,1,10),(0,-1,0,5)] 0 (0,-1,0,5)=0 by decide +kernel];rfl
 ·show e3.frs.map _=_
  rw[g2];rfl
 ·simp at hn;subst hn;exact dX (by omega) (by omega)
 ·simp at hn;subst hn;exact dX (by omega) (by omega)
theorem Tt:HasOK [9] [(0,-1,0,6),(0,-1,1,2),(0,-1,1,4)] [9] [6,1,2] [[0]]:=by
 obtain⟨g0,g2⟩:=Rj;refine⟨⟨by decide,by decide,by decide,by decide⟩,?_,?_,?_,fun n hn=>?_,fun n hn=>?_,by decide,by decide⟩
 ·show [ah (e4.gr 0)]=_
  rw[g0];rfl
 ·show [ah (cg _ (e4.gr 0) _),ah (cg _ (e4.gr 0) _),ah (cg _ (e4.gr 0) _)]=_
  rw[g0,show cg [(0,-1,0,6),(0,-1,1,2),(0,-1,1,4)] 9 (0,-1,0,6)=6 by decide +kernel,show cg [(0,-1,0,6),(0,-1,1,2),(0,-1,1,4)] 9 (0,-1,1,2)=1 by decide +kernel,show cg [(0,-1,0,6),(0,-1,1,2),(0,-1,1,4)] 9 (0,-1,1,4)=2 by decide +kernel];rfl
 ·show e4.frs.map _=_
  rw[g2];rfl
 ·simp at hn;subst hn;exact dX (by omega) (by omega)
 ·simp at hn;rcases hn with rfl | rfl | rfl<;>exact dX (by omega) (by omega)
noncomputable def tL:List Data→Option PRes:=FF (α:=Unit) (fun (_:Unit)=>([]:List Data)) (fun (_:Unit)=>some (.same (.bool true)))
theorem zB:∀ a b:Unit,(fun (_:Unit)=>([]:List Data)) a=(fun (_:Unit)=>([]:List Data)) b→a=b:=by
  intro _ _ _;rfl
@[go_sem] theorem A5 :tL []=some (.same (.bool true)):=aY zB ()
theorem H3 (T:Tab) (K3:T gN=mkE C1) (bV:T ew=mkE mG)  :
  wp T mf_law20_small.body (bF mf_law20_small.res (.same (.bool true))) ⟨ax [],emp⟩:=by
 refine ap ?_;simp only[mf_law20_small];have k1:=oB _ _ _ _ _ Tr;have k2:=oB _ _ _ _ _ Tv;have k3:=oB _ _ _ _ _ TB;have k4:=oB _ _ _ _ _ Tt;have k5:=oy [-1] [] ⟨by decide,by decide,fun h=>absurd h (by decide)⟩
 have k6:Ek [-1] [] = .tup [.agg [.sl [],.sl [],.sl []],.int .i64 1]:=if_neg (by decide);rw[k6] at k5;simp only[aiF,aiG,aa,clL,jl] at k1 k2 k3 k4 k5;have hD:toD 6 (ay emp 215019 0 [.dat (.int .i64 0),.dat (.int .i64 1),.dat (.int .i64 1),.dat (.int .i64 10),.dat (.int .i64 1),.dat (.int .i64 0),.dat (.int .i64 1),.dat (.int .i64 10)]) (.ref 215019 0 4 0 2)=some (.sl [[.int .i64 0,.int .i64 1,.int .i64 1,.int .i64 10],[.int .i64 1,.int .i64 0,.int .i64 1,.int .i64 10]]):=rfl;have hap:ln 215019 0 4 2 32 1 [.dat (.int .i64 0),.dat (.int .i64 (-1)),.dat (.int .i64 0),.dat (.int .i64 5)] (some (0,[.dat (.int .i64 0),.dat (.int .i64 1),.dat (.int .i64 1),.dat (.int .i64 10),.dat (.int .i64 1),.dat (.int .i64 0),.dat (.int .i64 1),.dat (.int .i64 10)]))=some (.ref 215019 1 4 0 3,some (215019,1,[.dat (.int .i64 0),.dat (.int .i64 1),.dat (.int .i64 1),.dat (.int .i64 10),.dat (.int .i64 1),.dat (.int .i64 0),.dat (.int .i64 1),.dat (.int .i64 10),.dat (.int .i64 0),.dat (.int .i64 (-1)),.dat (.int .i64 0),.dat (.int .i64 5)])):=dl lH tk 215019 0 32 [(0,1,1,10),(1,0,1,10)] (0,-1,0,5) rfl (by decide) (by decide);have hD2:toD 6 (ay (ay emp 215019 0 [.dat (.int .i64 0),.dat (.int .i64 1),.dat (.int .i64 1),.dat (.int .i64 10),.dat (.int .i64 1),.dat (.int .i64 0),.dat (.int .i64 1),.dat (.int .i64 10)]) 215019 1 [.dat (.int .i64 0),.dat (.int .i64 1),.dat (.int .i64 1),.dat (.int .i64 10),.dat (.int .i64 1),.dat (.int .i64 0),.dat (.int .i64 1),.dat (.int .i64 10),.dat (.int .i64 0),.dat (.int .i64 (-1)),.dat (.int .i64 0),.dat (.int .i64 5)]) (.ref 215019 1 4 0 3)=some (.sl [[.int .i64 0,.int .i64 1,.int .i64 1,.int .i64 10],[.int .i64 1,.int .i64 0,.int .i64 1,.int .i64 10],[.int .i64 0,.int .i64 (-1),.int .i64 0,.int .i64 5]]):=rfl;simp only[go_sem,go_sem_proc,aiq,K3,bV,k1,k2,k3,k4,k5,hD,hap,hD2,lk,aiH,scalar,beq_self_eq_true]
 repeat' (first|refine qS ?_ ?_|fail)<;>intro h<;>simp only[h,go_sem,go_sem_proc,aiq,K3,bV,k1,k2,k3,k4,k5,hD,hap,hD2,lk,aiH,scalar,beq_self_eq_true]

end Go.Mini
namespace Go.Mini
open Classical
section
variable {cash:List Int} {cs:List ClR} (hs:SmallD cash cs)
include hs
noncomputable def dO (cash:List Int) (cs:List ClR) (i:Nat) (l:List ClR):Rat:=(ab cash cs).gr i-sumC (l.map bm) fun c=>(ab cash cs).pay (ab cash cs).gr c
omit hs in
theorem GF (i:Nat) (l:List ClR) (c:ClR):dO cash cs i (l++[c])=dO cash cs i l-(ab cash cs).pay (ab cash cs).gr (bm c):=by
 unfold dO;rw[aiI,jc]
 show _-(_+((ab cash cs).pay (ab cash cs).gr (bm c)+0))=_;rw[aiD];grind
theorem Ng (i:Nat) (F:Cl→Rat):sumC ((bh cs i).map bm) F=sumC (ab cash cs).cl fun c=>if c.fr=i then F c else 0:=by
 have hr:=(rightD_iff.1 hs.right).2.2.2
 have e:∀ l:List ClR,(∀ c∈l,c∈cs)→sumC ((bh l i).map bm) F=sumC (l.map bm) fun c=>if c.fr=i then F c else 0:=by
  intro l
  induction l with
  | nil=>intro _;rfl
  | cons c l ih =>
   intro hm;have h0:=(hr c (hm c List.mem_cons_self)).1;have ih:=ih fun y hy=>hm y (List.mem_cons_of_mem _ hy)
   unfold bh at *
   by_cases hc:c.1=(i:Int)
   ·rw[aiJ (by simpa using hc),aiF,aiF,sumC,sumC,ih,if_pos (by show c.1.toNat=i;omega)]
   ·rw[aiK (by simpa using hc),aiF,sumC,ih,if_neg (by show ¬ c.1.toNat=i;omega),aiE]
 exact e cs fun c hc=>hc
theorem BT (i:Nat):dO cash cs i (bh cs i)=(ab cash cs).gr i-sumC (ab cash cs).cl fun c=>if c.fr=i then (ab cash cs).pay (ab cash cs).gr c else 0:=by
 unfold dO;rw[Ng hs]
theorem rz {i:Nat} (hi:i<cash.length):dO cash cs i (bh cs i)=if (ab cash cs).U i 10≤(ab cash cs).gr i then (ab cash cs).gr i-(ab cash cs).U i 10 else 0:=by
 rw[BT hs,Kt hs.ok (i:=i) hi (x:=(ab cash cs).gr) (kC hs.ok hi)]
 split<;>grind
theorem lu {i:Nat} (hi:i<cash.length):0≤dO cash cs i (bh cs i):=by
 rw[rz hs hi]
 split<;>grind
theorem HZ {i:Nat} (hi:i<cash.length) (h:0<dO cash cs i (bh cs i)):¬ (ab cash cs).gr i<(ab cash cs).U i 10:=by
 rw[rz hs hi] at h
 split at h<;>grind
theorem Me {i:Nat} (hi:i<cash.length) {l l':List ClR} (hl:bh cs i=l++l'):szR 598 (dO cash cs i l):=by
 obtain⟨M,h1,⟨a,h2,h3⟩,hg,h4⟩:=pA hs;have hm:∀ c∈l++l',c∈cs:=fun c hc=>(own_mem.1 (by rw[hl];exact hc)).1
 have hp:∀ m:List ClR,(∀ c∈m,c∈cs)→0≤sumC (m.map bm) fun c=>(ab cash cs).pay (ab cash cs).gr c:=fun m hm=>dA fun y hy=>by
  obtain⟨c,hc,rfl⟩:=List.mem_map.1 hy;exact hs.ok.pay_nonneg _ (aiL (hm c hc))
 have p1:=hp l fun c hc=>hm c (by simp [hc])
 have p2:=hp l' fun c hc=>hm c (by simp [hc])
 have h0:=lu hs hi
 have hd:DenBy M (dO cash cs i l):=by
  unfold dO;refine (hg i hi).sub (DenBy.sumC fun y hy=>?_);obtain⟨c,hc,rfl⟩:=List.mem_map.1 hy;exact h4 c (hm c (by simp [hc]))
 have hn:0≤dO cash cs i l:=by
  rw[hl] at h0;unfold dO at h0 ⊢;rw[aiI,jc] at h0;grind
 have hle:dO cash cs i l≤(ab cash cs).gr i:=by unfold dO;grind
 exact (hd.sz h1 h3 hn (e:=51) (aiM hle (Iq hs hi))).mono (by omega)
noncomputable def kU (cash:List Int) (cs:List ClR) (n:Nat):Rat:=sumQ n fun i=>dO cash cs i (bh cs i)
omit hs in
theorem vj (n:Nat):kU cash cs (n+1)=kU cash cs n+dO cash cs n (bh cs n):=rfl
theorem sN {n:Nat} (hn:n≤cash.length):0≤kU cash cs n:=ov fun k hk=>lu hs (by omega)
theorem BU:∃ M:Nat,0<M∧(∃ a,a≤402∧M≤2^a)∧∀ i,i<cash.length→DenBy M (dO cash cs i (bh cs i)):=by
 obtain⟨M,h1,h2,h3⟩:=Cu hs;refine⟨M,h1,h2,fun i hi=>?_⟩
 rw[rz hs hi]
 split
 ·refine (h3 i hi).sub ?_
  have:=dQ hs.right i 10;rw[←this];exact DenBy.int _ _
 ·exact DenBy.zero _
theorem Fe {i:Nat} (hi:i<cash.length):dO cash cs i (bh cs i)≤((2^51:Nat):Rat):=by
 have h1:=Iq hs hi;have h2:=kC hs.ok hi;have h3:=hs.ok.U_mono i (r:=0) (s:=10) (by omega);rw[Day.U_zero] at h3;rw[rz hs hi];generalize ((2^51:Nat):Rat)=B at *
 split<;>grind
theorem MQ {n:Nat} (hn:n≤cash.length):kU cash cs n≤((2^54:Nat):Rat):=by
 have h5:=hs.n5
 have h1:∀ n,n≤cash.length→kU cash cs n≤(n:Rat)*((2^51:Nat):Rat):=by
  intro n
  induction n with
  | zero =>
   intro _;rw[show ((0:Nat):Rat)=0 from rfl,aiN];exact aiO
  | succ n ih =>
   intro hn;have:=ih (by omega);have h2:=Fe hs (i:=n) (by omega);rw[vj];have e:((n+1:Nat):Rat)=(n:Rat)+1:=by push_cast;rfl
   rw[e];generalize ((2^51:Nat):Rat)=B at *;grind
 refine aiM (h1 n hn) ?_;rw[←aiP]
 exact_mod_cast (aiQ (show n≤8 by omega) (aiR (2^51)))
theorem MZ {n:Nat} (hn:n≤cash.length):szR 456 (kU cash cs n):=by
 obtain⟨M,h1,⟨a,h2,h3⟩,h4⟩:=BU hs;have hd:DenBy M (kU cash cs n):=DenBy.sumQ fun k hk=>h4 k (by omega)
 exact (hd.sz h1 h3 (sN hs hn) (MQ hs hn)).mono (by omega)
theorem IH {i:Nat} (hi:i<cash.length):szR 453 (dO cash cs i (bh cs i)):=by
 obtain⟨M,h1,⟨a,h2,h3⟩,h4⟩:=BU hs;exact ((h4 i hi).sz h1 h3 (lu hs hi) (Fe hs hi)).mono (by omega)
noncomputable def lO (cash:List Int) (cs l:List ClR):Rat:=kU cash cs cash.length+sumC (l.map bm) fun c=>if c.to<0 then (ab cash cs).pay (ab cash cs).gr c else 0
omit hs in
theorem Jr:lO cash cs []=kU cash cs cash.length:=by
 unfold lO;rw[aiG,sumC,aiD]
omit hs in
theorem Kz (l:List ClR) (c:ClR):lO cash cs (l++[c])=lO cash cs l+if c.2.1<0 then (ab cash cs).pay (ab cash cs).gr (bm c) else 0:=by
 unfold lO;rw[aiI,jc]
 show _+(_+((if (bm c).to<0 then (ab cash cs).pay (ab cash cs).gr (bm c) else 0)+0))=_;have e:(bm c).to=c.2.1:=rfl;rw[e,aiD];grind
theorem Ft:lO cash cs cs=sumQ cash.length (ab cash cs).cash:=by
 have h:=money hs.ok;have e:kU cash cs cash.length=sumQ (ab cash cs).n (fun i=>(ab cash cs).gr i-sumC (ab cash cs).cl fun c=>if c.fr=i then (ab cash cs).pay (ab cash cs).gr c else 0):=bI fun i _=>BT hs i
 unfold lO;rw[e];exact h
omit hs in
theorem I9 {n:Nat} (hn:n≤cash.length):sumQ n (ab cash cs).cash=(((cash.take n).foldl (·+·) 0:Int):Rat):=by
 induction n with
 | zero=>rw[aiS];rfl
 | succ n ih =>
  have hx:cash[n]?=some cash[n]:=aiw (by omega);rw[sumQ,ih (by omega),aiz,hx];rw[aiT,aiU,List.foldl_cons,List.foldl_nil,Rat.intCast_add]
  congr 1
  show ((cash.getD n 0:Int):Rat)=_;rw[aiV,hx];rfl
theorem Oi {l l':List ClR} (hl:cs=l++l'):szR 601 (lO cash cs l):=by
 obtain⟨M,h1,⟨a,h2,h3⟩,hg,h4⟩:=pA hs;have hm:∀ c∈l++l',c∈cs:=fun c hc=>by rw[hl];exact hc
 have hp:∀ m:List ClR,(∀ c∈m,c∈cs)→0≤sumC (m.map bm) fun c=>if c.to<0 then (ab cash cs).pay (ab cash cs).gr c else 0:=fun m hm=>dA fun y hy=>by
  obtain⟨c,hc,rfl⟩:=List.mem_map.1 hy
  try dsimp only
  split
  ·exact hs.ok.pay_nonneg _ (aiL (hm c hc))
  ·exact aiO
 have p1:=hp l fun c hc=>hm c (by simp [hc])
 have p2:=hp l' fun c hc=>hm c (by simp [hc])
 have hk:=sN hs (aiR _);have h0:0≤lO cash cs l:=by unfold lO;grind
 have hd:DenBy M (lO cash cs l):=by
  unfold lO;refine DenBy.add (DenBy.sumQ fun k hk=>?_) (DenBy.sumC fun y hy=>?_)
  ·unfold dO
   refine (hg k hk).sub (DenBy.sumC fun y hy=>?_);obtain⟨c,hc,rfl⟩:=List.mem_map.1 hy;exact h4 c (own_mem.1 hc).1
  ·obtain⟨c,hc,rfl⟩:=List.mem_map.1 hy
   split
   ·exact h4 c (hm c (by simp [hc]))
   ·exact DenBy.zero _
 have hle:lO cash cs l≤((2^54:Nat):Rat):=by
  have h5:=Ft hs
  have h6:lO cash cs cs=lO cash cs l+sumC (l'.map bm) fun c=>if c.to<0 then (ab cash cs).pay (ab cash cs).gr c else 0:=by
   unfold lO;have:sumC (cs.map bm) (fun c=>if c.to<0 then (ab cash cs).pay (ab cash cs).gr c else 0)=sumC ((l++l').map bm) (fun c=>if c.to<0 then (ab cash cs).pay (ab cash cs).gr c else 0):=by rw[←hl]
   rw[this,aiI,jc];grind
  have h7:sumQ cash.length (ab cash cs).cash≤((2^54:Nat):Rat):=by
   have hb:∀ n,n≤cash.length→sumQ n (ab cash cs).cash≤(n:Rat)*((2^51:Nat):Rat):=by
    intro n
    induction n with
    | zero =>
     intro _;rw[show ((0:Nat):Rat)=0 from rfl,aiN];exact aiO
    | succ n ih =>
     intro hn;have:=ih (by omega)
     have h2:(ab cash cs).cash n≤((2^51:Nat):Rat):=by
      show ((cash.getD n 0:Int):Rat)≤_;have:=(hs.cash n).2;rw[←Rat.intCast_natCast];exact Rat.intCast_le_intCast.2 (by omega)
     rw[sumQ];have e:((n+1:Nat):Rat)=(n:Rat)+1:=by push_cast;rfl
     rw[e];generalize ((2^51:Nat):Rat)=B at *;grind
   have hn5:=hs.n5;refine aiM (hb _ (aiR _)) ?_;rw[←aiP]
   exact_mod_cast (aiQ (show cash.length≤8 by omega) (aiR (2^51)))
  rw[←h5,h6] at h7;generalize ((2^54:Nat):Rat)=B at *;grind
 exact (hd.sz h1 h3 h0 hle).mono (by omega)
end
end Go.Mini
namespace Go.Mini
open Go
set_option maxRecDepth 10000
set_option maxHeartbeats 4000000
def kX:List ClR→List aG→Int→List aG
 | c::cs,p::ps,who=>if c.1==who then p::kX cs ps who else kX cs ps who
 | _,_,_=>[]
theorem Ap:∀ (cs:List ClR) (ps:List aG) (c:ClR) (p:aG) (who:Int),cs.length=ps.length→kX (cs++[c]) (ps++[p]) who=kX cs ps who++if c.1==who then [p] else []
 | [],[],c,p,who,_=>by simp only[List.nil_append,kX]
 | [],_::_,_,_,_,h=>by simp at h
 | _::_,[],_,_,_,h=>by simp at h
 | a::cs,b::ps,c,p,who,h=>by
  have ih:=Ap cs ps c p who (by simpa using h);simp only[List.cons_append,kX,ih]
  split<;>rfl
theorem Ky (cs:List ClR) (F:ClR→aG) (who:Int):kX cs (cs.map F) who=(bh cs who).map F:=by
 unfold bh
 induction cs with
 | nil=>rfl
 | cons c cs ih =>
  rw[aiF,kX,ih]
  by_cases h:(c.1==who)=true
  ·rw[if_pos h,aiW,if_pos h];rfl
  ·rw[if_neg h,aiW,if_neg h]
theorem BX:∀ (cs:List ClR) (ps:List aG) (who:Int),(kX cs ps who).length≤cs.length
 | [],_,_=>by simp [kX]
 | _::_,[],_=>by simp [kX]
 | a::cs,b::ps,who=>by
  have ih:=BX cs ps who;rw[kX]
  split<;>simp<;>omega
noncomputable def ye:List Data→Option PRes:=FF (α:=(List ClR) × (List aG) × Int) (fun (cs,ps,who)=>([.sl (cs.map clL),.sl (ps.map ad),.int .i64 who]:List Data)) (fun (cs,ps,who)=>aH (ps.length=cs.length∧cs.length≤2000) (.same (.tup [.sl ((bh cs who).map clL),.sl ((kX cs ps who).map ad)])))
theorem Di:∀ a b:(List ClR) × (List aG) × Int,(fun (cs,ps,who)=>([.sl (cs.map clL),.sl (ps.map ad),.int .i64 who]:List Data)) a=(fun (cs,ps,who)=>([.sl (cs.map clL),.sl (ps.map ad),.int .i64 who]:List Data)) b→a=b:=by
  rintro⟨cs1,ps1,who1⟩ ⟨cs2,ps2,who2⟩ h;simp only[List.cons.injEq,Data.sl.injEq,Data.int.injEq,and_true,true_and] at h;exact aip (af fj _ _ h.1) (aip (af cV _ _ h.2.1) h.2.2)
@[go_sem] theorem HG (cs:List ClR) (ps:List aG) (who:Int) (hc:ps.length=cs.length∧cs.length≤2000):ye [.sl (cs.map clL),.sl (ps.map ad),.int .i64 who]=some (.same (.tup [.sl ((bh cs who).map clL),.sl ((kX cs ps who).map ad)])):=(aY Di (cs,ps,who)).trans (al hc _)
theorem Oy (T:Tab)  (cs:List ClR) (ps:List aG) (who:Int) (hc:ps.length=cs.length∧cs.length≤2000) :
  wp T mf_law20_own.body (bF mf_law20_own.res (.same (.tup [.sl ((bh cs who).map clL),.sl ((kX cs ps who).map ad)]))) ⟨ax [.dat (.sl (cs.map clL)),.dat (.sl (ps.map ad)),.dat (.int .i64 who)],emp⟩:=by
 refine ap ?_;simp only[mf_law20_own];obtain⟨hlp,hlen⟩:=hc;simp only[go_sem,go_sem_proc,aiq];refine ae [0,1,2] [] (fun ((i,g,g2):Nat × Nat × Nat) tm m=>i≤cs.length∧tm 10 = .dat (.int .i64 i)∧tm 8 = .ref 224030 g 4 0 (bh (cs.take i) who).length∧tm 9 = .ref 224037 g2 4 0 (kX (cs.take i) (ps.take i) who).length∧m 224030=some (g,aC clL (bh (cs.take i) who))∧m 224037=some (g2,aC ad (kX (cs.take i) (ps.take i) who))) (fun (i,_)=>cs.length-i) (0,0,0) (by refine⟨by omega,rfl,rfl,?_,rfl,?_⟩<;>rw[aiS]<;>rfl) ?_
 intro vs ms hvs hms;simp only[go_sem,go_sem_proc,aiq] at hvs hms;subst hvs hms;rintro⟨i,g,g2⟩ tm m hk hm ⟨hi,e10,e8,e9,m30,m37⟩;simp only[go_sem,go_sem_proc,aiq,List.cons.injEq] at hk hm;obtain⟨e0,e1,e2⟩:=hk;rcases aiv (i<cs.length) with hlt | hge
 ·have d1:decide ((i:Int)<(cs.length:Int))=true:=decide_eq_true (by omega)
  have w3:IntKind.i64.wrap ((i:Int)+1)=((i+1:Nat):Int):=by rw[an _ (by omega) (by omega)];omega
  obtain⟨⟨c1,c2,c3,c4⟩,hx⟩:∃ c,cs[i]?=some c:=⟨_,aiw hlt⟩;obtain⟨⟨⟨p1,p2⟩,⟨p3,p4⟩⟩,hy⟩:∃ c,ps[i]?=some c:=⟨_,aiw (by omega)⟩;have htk:cs.take (i+1)=cs.take i++[(c1,c2,c3,c4)]:=by rw[aiz,hx];rfl
  have htp:ps.take (i+1)=ps.take i++[((p1,p2),(p3,p4))]:=by rw[aiz,hy];rfl
  have htl:(cs.take i).length=(ps.take i).length:=by rw[aiX,aiX];omega
  have hol:(bh (cs.take i) who).length≤2000:=by
   have h1:=xP (cs.take i) who;have h2:(cs.take i).length≤cs.length:=by rw[aiX];omega
   omega
  have hol2:(kX (cs.take i) (ps.take i) who).length≤2000:=by
   have h1:=BX (cs.take i) (ps.take i) who;have h2:(cs.take i).length≤cs.length:=by rw[aiX];omega
   omega
  have hpa:=Ap (cs.take i) (ps.take i) (c1,c2,c3,c4) ((p1,p2),(p3,p4)) who htl;rw[←htk,←htp] at hpa;rcases q1:(c1==who)
  ·have hown:bh (cs.take (i+1)) who=bh (cs.take i) who:=by
    unfold bh;rw[htk,aiY,aiK (by simpa using q1),aiZ,ai0]
   rw[if_neg (by dsimp only;rw[q1];decide),ai0] at hpa;refine qI ?_
   repeat' (intro h<;>simp only[h,go_sem,go_sem_proc,aiq,e0,e1,e2,e8,e9,e10,hx,hy,d1,w3,q1,clL,air,aiy]<;>try refine qS ?_ ?_)
   exact⟨(i+1,g,g2),by dsimp only;omega,by dsimp only;omega,rfl,by rw[hown],by rw[hpa],by rw[hown];exact m30,by rw[hpa];exact m37⟩
  ·have hown:bh (cs.take (i+1)) who=bh (cs.take i) who++[(c1,c2,c3,c4)]:=by
    unfold bh;rw[htk,aiY,aiJ (by simpa using q1),aiZ]
   rw[if_pos (by dsimp only;exact q1)] at hpa;have hap:=dl lH tk 224030 g 32 (bh (cs.take i) who) (c1,c2,c3,c4) (cs:=[.dat (.int .i64 c1),.dat (.int .i64 c2),.dat (.int .i64 c3),.dat (.int .i64 c4)]) rfl (by omega) (by omega);rw[←hown] at hap;have hap2:=fun cs' hcs=>dl ce jz 224037 g2 64 (kX (cs.take i) (ps.take i) who) ((p1,p2),(p3,p4)) (cs:=cs') hcs (by omega) (by omega)
   have hap2':=hap2 _ rfl;rw[←hpa] at hap2';have hl1:(bh (cs.take (i+1)) who).length=(bh (cs.take i) who).length+1:=by rw[hown,ai1];rfl
   have hl2:(kX (cs.take (i+1)) (ps.take (i+1)) who).length=(kX (cs.take i) (ps.take i) who).length+1:=by rw[hpa,ai1];rfl
   simp only[ad,aiF,aiG] at hap2';refine qI ?_
   repeat' (intro h<;>simp only[h,go_sem,go_sem_proc,aiq,e0,e1,e2,e8,e9,e10,m30,m37,hx,hy,d1,w3,q1,hap,hap2',clL,ad,air,aiy]<;>try refine qS ?_ ?_)
   exact⟨(i+1,g+1,g2+1),by dsimp only;omega,by dsimp only;omega,rfl,by rw[hl1],by rw[hl2],rfl,rfl⟩
 ·have d1:decide ((i:Int)<(cs.length:Int))=false:=decide_eq_false (by omega)
  rw[aiA (by omega)] at e8 m30;rw[aiA (by omega),aiA (by omega)] at e9 m37;have hfz:=fun (K:St→Prop) (st:St)=>cp (K:=K) (st:=st) lH 8 224030 g (bh cs who)
  have hfz2:=fun (K:St→Prop) (st:St)=>cp (K:=K) (st:=st) ce 9 224037 g2 (kX cs ps who)
  refine qI ?_
  repeat' (intro h<;>simp only[h,go_sem,go_sem_proc,aiq,e0,e1,e2,e8,e9,e10,m30,m37,d1,hfz,hfz2,air]<;>try refine qS ?_ ?_)
def fF (l:List ClR) (q:Nat→Rat):Nat→Int
 | 0=>10
 | k+1=>match l[k]? with
  | some c=>if q k<(c.2.2.2:Rat) then min (fF l q k) c.2.2.1 else fF l q k
  | none=>fF l q k
theorem uK {l:List ClR} {q:Nat→Rat} (h:∀ c∈l,0≤c.2.2.1∧c.2.2.1<10) (k:Nat):0≤fF l q k∧fF l q k≤10:=by
 induction k with
 | zero=>exact⟨show (0:Int)≤10 by decide,show (10:Int)≤10 by decide⟩
 | succ k ih =>
  unfold fF
  split
  ·rename_i c hc
   have:=h c (aix hc)
   split<;>omega
  ·exact ih
theorem Ef {l:List ClR} {q:Nat→Rat} (h:∀ c∈l,0≤c.2.2.1∧c.2.2.1<10) (k:Nat):fF l q k<10↔∃ i,i<k∧∃ c,l[i]?=some c∧q i<(c.2.2.2:Rat):=by
 induction k with
 | zero=>exact⟨fun h=>absurd h (show ¬ (10:Int)<10 by decide),fun⟨i,h,_⟩=>by omega⟩
 | succ k ih =>
  unfold fF
  split
  ·rename_i c hc
   have hb:=h c (aix hc);have hk:=uK (q:=q) h k
   by_cases hq:q k<(c.2.2.2:Rat)
   ·rw[if_pos hq]
    exact⟨fun _=>⟨k,by omega,c,hc,hq⟩,fun _=>by omega⟩
   ·rw[if_neg hq,ih]
    constructor
    ·rintro⟨i,h1,h2⟩;exact⟨i,by omega,h2⟩
    ·rintro⟨i,h1,c',h2,h3⟩
     by_cases hik:i=k
     ·subst hik;rw[hc] at h2;cases h2;exact absurd h3 hq
     ·exact⟨i,by omega,c',h2,h3⟩
  ·rename_i hc
   rw[ih]
   constructor
   ·rintro⟨i,h1,h2⟩;exact⟨i,by omega,h2⟩
   ·rintro⟨i,h1,c',h2,h3⟩
    by_cases hik:i=k
    ·subst hik;rw[hc] at h2;cases h2
    ·exact⟨i,by omega,c',h2,h3⟩
structure yX (l:List ClR) (q:List Rat):Prop where
 own:OwnOK l
 len:q.length=l.length
 lim:∀ x∈q,cr x
noncomputable def t8 (l:List ClR) (q:List Rat):Data:=if fF l (fun i=>q.getD i 0) l.length<10 then .tup [.int .i64 (fF l (fun i=>q.getD i 0) l.length),.bool true] else .tup [.int .i64 0,.bool false]
noncomputable def rb:List Data→Option PRes:=FF (α:=(List ClR) × (List Rat)) (fun (l,q)=>([.sl (l.map clL),.sl ((q.map ah).map ad)]:List Data)) (fun (l,q)=>aH (yX l q) (.same (t8 l q)))
theorem yr:∀ a b:(List ClR) × (List Rat),(fun (l,q)=>([.sl (l.map clL),.sl ((q.map ah).map ad)]:List Data)) a=(fun (l,q)=>([.sl (l.map clL),.sl ((q.map ah).map ad)]:List Data)) b→a=b:=by
  rintro⟨l1,q1⟩ ⟨l2,q2⟩ h;simp only[List.cons.injEq,Data.sl.injEq,and_true] at h;exact aip (af fj _ _ h.1) (af (fun x y hh=>uk hh) _ _ (af cV _ _ h.2))
@[go_sem] theorem zT (l:List ClR) (q:List Rat) (hc:yX l q):rb [.sl (l.map clL),.sl ((q.map ah).map ad)]=some (.same (t8 l q)):=(aY yr (l,q)).trans (al hc _)
theorem ID (T:Tab) (dw:T ib=mkE qR) (aE:T aT=mkE fq) (cH:T cK=mkE mz) (aq:T aW=mkE dt) (l:List ClR) (q:List Rat) (hc:yX l q) :
  wp T mf_rank_Short.body (bF mf_rank_Short.res (.same (t8 l q))) ⟨ax [.dat (.sl (l.map clL)),.dat (.sl ((q.map ah).map ad))],emp⟩:=by
 refine ap ?_;simp only[mf_rank_Short];obtain⟨how,hlen,hlim⟩:=hc;have h12:=how.len;have hrk:∀ c∈l,0≤c.2.2.1∧c.2.2.1<10:=fun c hc=>by have:=how.c c hc;omega
 have hle:((q.length:Int)==(l.length:Int))=true:=by rw[hlen];exact beq_self_eq_true _
 simp only[go_sem,go_sem_proc,aiq,dw,aE,cH,aq,how,hle,air,bne,ait];refine ae [1,19,20] [] (fun (i:Nat) tm m=>i≤l.length∧tm 21 = .dat (.int .i64 i)∧tm 6 = .dat (.int .i64 (fF l (fun i=>q.getD i 0) i))) (fun i=>l.length-i) 0 (by refine⟨by omega,rfl,rfl⟩) ?_
 intro vs ms hvs hms;simp only[go_sem,go_sem_proc,aiq,dw,aE,cH,aq,air] at hvs hms;subst hvs hms;rintro i tm m hk-⟨hi,e21,e6⟩;simp only[go_sem,go_sem_proc,aiq,dw,aE,cH,aq,List.cons.injEq] at hk;obtain⟨e1,e19,e20⟩:=hk;rcases aiv (i<l.length) with hlt | hge
 ·have d1:decide ((i:Int)<(l.length:Int))=true:=decide_eq_true (by omega)
  have w3:IntKind.i64.wrap ((i:Int)+1)=((i+1:Nat):Int):=by rw[an _ (by omega) (by omega)];omega
  obtain⟨⟨c1,c2,c3,c4⟩,hx⟩:∃ c,l[i]?=some c:=⟨_,aiw hlt⟩;obtain⟨x,hy⟩:∃ x,q[i]?=some x:=⟨_,aiw (by omega)⟩;have hc:=how.c _ (aix hx);have hl:=hlim x (aix hy);dsimp only at hc;have hin:ct c4:=dX (by omega) (by omega);have a1:=rW hl;have a2:=my hin;have a3:=fJ hl (eT hin);have hn:decide (kK x ((c4:Int):Rat)<0)=decide (x<((c4:Int):Rat)):=pX;have hgd:q.getD i 0=x:=by rw[aiV,hy];rfl
  have hsn:fF l (fun i=>q.getD i 0) (i+1)=if x<((c4:Int):Rat) then min (fF l (fun i=>q.getD i 0) i) c3 else fF l (fun i=>q.getD i 0) i:=by
   rw[fF,hx];dsimp only;rw[hgd]
  have hqg:(q.map ah)[i]?=some (ah x):=by rw[aiy,hy];rfl
  generalize q.map ah=QE at *;generalize ah x=F at *;generalize ah ((c4:Int):Rat)=G at *;obtain⟨⟨f1,f2⟩,⟨f3,f4⟩⟩:=F;obtain⟨⟨g1,g2⟩,⟨g3,g4⟩⟩:=G;simp only[ad] at a1 a2 a3;rcases k1:decide (x<((c4:Int):Rat))
  ·rw[k1] at hn
   rw[if_neg (of_decide_eq_false k1)] at hsn;refine qI ?_
   repeat' (intro h<;>simp only[h,go_sem,go_sem_proc,aiq,dw,aE,cH,aq,e1,e6,e19,e20,e21,hx,hqg,d1,w3,a1,a2,a3,hn,clL,ad,air,aiy,ait]<;>try refine qS ?_ ?_)
   exact⟨i+1,by omega,by omega,rfl,by rw[hsn]⟩
  ·rw[k1] at hn
   rw[if_pos (of_decide_eq_true k1)] at hsn;have hmn:(if c3<fF l (fun i=>q.getD i 0) i then c3 else fF l (fun i=>q.getD i 0) i)=min (fF l (fun i=>q.getD i 0) i) c3:=by rw[Int.min_def];split<;>split<;>omega
   refine qI ?_
   repeat' (intro h<;>simp only[h,go_sem,go_sem_proc,aiq,dw,aE,cH,aq,e1,e6,e19,e20,e21,hx,hqg,d1,w3,a1,a2,a3,hn,clL,ad,air,aiy,ait]<;>try refine qS ?_ ?_)
   exact⟨i+1,by omega,by omega,rfl,by rw[hsn,hmn]⟩
 ·have d1:decide ((i:Int)<(l.length:Int))=false:=decide_eq_false (by omega)
  obtain rfl:i=l.length:=by omega
  have hb:=uK (q:=fun i=>q.getD i 0) hrk l.length;unfold t8;generalize fF l (fun i=>q.getD i 0) l.length=s at *;rcases k1:(s==10)
  ·rw[if_pos (by have:=ne_of_beq_false k1;omega)]
   refine qI ?_
   repeat' (intro h<;>simp only[h,go_sem,go_sem_proc,aiq,dw,aE,cH,aq,e1,e6,e19,e20,e21,d1,k1,air]<;>try refine qS ?_ ?_)
  ·rw[if_neg (by have:=eq_of_beq k1;omega)]
   refine qI ?_
   repeat' (intro h<;>simp only[h,go_sem,go_sem_proc,aiq,dw,aE,cH,aq,e1,e6,e19,e20,e21,d1,k1,air]<;>try refine qS ?_ ?_)
theorem A0 (l:List aG):oo l l=true:=by
 unfold oo;simp
noncomputable def iE (cash:List Int) (cs:List ClR) (i:Nat):List Rat:=(bh cs i).map fun c=>cg cs ((ab cash cs).gr i) c
section
variable {cash:List Int} {cs:List ClR} (hs:SmallD cash cs) {i:Nat}
include hs
omit hs in
theorem JY (hi:i<cash.length):kX cs (iN cash cs) i=(iE cash cs i).map ah:=by
 unfold iN iE;rw[Ky,ain];refine aio fun c hc=>?_
 have:=(own_mem.1 hc).2
 show ah (cg cs ((ab cash cs).gr c.1.toNat) c)=ah (cg cs ((ab cash cs).gr i) c);rw[this,ai2]
theorem tc {c:ClR} (hc:c∈bh cs i):cg cs ((ab cash cs).gr i) c=(ab cash cs).pay (ab cash cs).gr (bm c):=by
 obtain⟨h1,h2⟩:=own_mem.1 hc;rw[E9 hs.right _ h1,h2,ai2]
theorem zg {x:Rat} (hx:x∈iE cash cs i):szR 482 x:=by
 obtain⟨c,hc,rfl⟩:=List.mem_map.1 hx;rw[tc hs hc];exact xT hs (own_mem.1 hc).1
theorem Gk (hi:i<cash.length):nK [.agg (ad (ah ((ab cash cs).gr i))),.sl ((bh cs i).map clL)]=some (.same (.tup [.sl (((iE cash cs i).map ah).map ad),.int .i64 0])):=by
 have h:=sR ((ab cash cs).gr i) (bh cs i) ⟨hs.own i,kC hs.ok hi,(AW hs hi).mono (by omega)⟩;rw[wl] at h;have e:(iE cash cs i).map ah=(bh cs i).map fun c=>ah (cg cs ((ab cash cs).gr i) c):=by unfold iE;rw[ain];rfl
 rw[e];exact h
theorem F6 (hi:i<cash.length):fF (bh cs i) (fun k=>(iE cash cs i).getD k 0) (bh cs i).length<10↔(ab cash cs).gr i<(ab cash cs).U i 10:=by
 have hrk:∀ c∈bh cs i,0≤c.2.2.1∧c.2.2.1<10:=fun c hc=>by have:=(hs.own i).c c hc;omega
 rw[Ef hrk,←Gd hs.ok (kC hs.ok hi)]
 constructor
 ·rintro⟨k,hk,c,hc,hlt⟩
  have hm:=aix hc;have e:(iE cash cs i).getD k 0=cg cs ((ab cash cs).gr i) c:=by unfold iE;rw[aiV,aiy,hc];rfl
  try dsimp only at hlt
  rw[e,tc hs hm] at hlt;have h2:=(own_mem.1 hm).2;exact⟨bm c,aiL (own_mem.1 hm).1,by show c.1.toNat=i;omega,hlt⟩
 ·rintro⟨b,hb,hfr,hlt⟩
  obtain⟨c,hc,rfl⟩:=List.mem_map.1 hb;have h1:=((rightD_iff.1 hs.right).2.2.2 c hc).1;have hm:c∈bh cs i:=own_mem.2 ⟨hc,by have:c.1.toNat=i:=hfr;omega⟩
  obtain⟨k,hk,he⟩:=List.getElem_of_mem hm;have hg:(bh cs i)[k]?=some c:=by rw[aiw hk,he]
  have e:(iE cash cs i).getD k 0=cg cs ((ab cash cs).gr i) c:=by unfold iE;rw[aiV,aiy,hg];rfl
  refine⟨k,hk,c,hg,?_⟩
  try dsimp only
  rw[e,tc hs hm];exact hlt
theorem Dj (hi:i<cash.length):∃ n:Int,rb [.sl ((bh cs i).map clL),.sl (((iE cash cs i).map ah).map ad)]=some (.same (.tup [.int .i64 n,.bool (decide ((ab cash cs).gr i<(ab cash cs).U i 10))])):=by
 have h:=zT (bh cs i) (iE cash cs i) ⟨hs.own i,by unfold iE;rw[air],fun x hx=>du (zg hs hx) (by omega)⟩
 unfold t8 at h;have hiff:=F6 hs hi
 by_cases hq:(ab cash cs).gr i<(ab cash cs).U i 10
 ·rw[if_pos (hiff.2 hq)] at h
  exact⟨_,by rw[decide_eq_true hq];exact h⟩
 ·rw[if_neg fun hh=>hq (hiff.1 hh)] at h
  exact⟨_,by rw[decide_eq_false hq];exact h⟩
theorem JL:th [.sl (((iE cash cs i).map ah).map ad),.sl (((iE cash cs i).map ah).map ad)]=some (.same (.bool true)):=by
 have hok:okL ((iE cash cs i).map ah):=by
  refine⟨?_,fun f hf=>?_⟩
  ·have h1:=xP cs i
   have h2:=hs.c12;unfold iE;rw[air,air];omega
  ·obtain⟨x,hx,rfl⟩:=List.mem_map.1 hf
   exact d8 (du (zg hs hx) (by omega))
 have h:=Dc _ _ ⟨hok,hok⟩;rw[A0] at h;exact h
theorem Nu (hi:i<cash.length):ye [.sl (cs.map clL),.sl ((iN cash cs).map ad),.int .i64 i]=some (.same (.tup [.sl ((bh cs i).map clL),.sl (((iE cash cs i).map ah).map ad)])):=by
 have h12:=hs.c12;have h:=HG cs (iN cash cs) i ⟨by unfold iN;rw[air],by omega⟩
 rw[JY hi] at h;exact h
end
theorem Gn (cash:List Int) (cs:List ClR) (i:Nat):dO cash cs i []=(ab cash cs).gr i:=by
 unfold dO;rw[aiG,sumC];grind
theorem RR (T:Tab) (cf:T dh=mkE kQ) {K:bK→St→Prop} {kk:List Todo} (cash:List Int) (cs:List ClR) (hs:SmallD cash cs) (i:Nat) (hi:i<cash.length) (v0 v1 v5 v6 v8 v9 v10 v16:MV) (x6 x9 x21 x24:Option (Nat × List MV)) (g:Nat) (tm:Nat→MV) (m:Mem)
  (e0:tm 0=v0) (e1:tm 1=v1) (e5:tm 5=v5) (e6:tm 6=v6) (e8:tm 8=v8) (e9:tm 9=v9) (e10:tm 10=v10) (e12:tm 12 = .dat (.sl (((iE cash cs i).map ah).map ad))) (e16:tm 16=v16) (e17:tm 17 = .ptr 260017 g 0) (e18:tm 18 = .dat (.int .i64 0))
  (m6:m 260006=x6) (m9:m 260009=x9) (m21:m 260021=x21) (m24:m 260024=x24) (m17:m 260017=some (g,(ad (ah ((ab cash cs).gr i))).map .dat))
  (hK:∀ tm' m',tm' 0=v0→tm' 1=v1→tm' 5=v5→tm' 6=v6→tm' 8=v8→tm' 9=v9→tm' 10=v10→tm' 16=v16→tm' 17 = .ptr 260017 g 0→m' 260006=x6→m' 260009=x9→m' 260021=x21→m' 260024=x24→m' 260017=some (g,(ad (ah (dO cash cs i (bh cs i)))).map .dat)→kont T K kk (.exit 2) ⟨tm',m'⟩) :
  wp T (mf_law20_ClearMoney.body.sub [1,1,1,1,1,1,1,1,0,1,0,0,1,0,0,1,1,1,1,1,1,0,1,0]) (kont T K kk) ⟨tm,m⟩:=by
 simp only[mf_law20_ClearMoney,MCode.sub];have h12:=hs.c12;have hol:=xP cs i;have hql:(iE cash cs i).length=(bh cs i).length:=by unfold iE;rw[air]
 refine ae [0,1,5,6,8,9,10,12,16,17] [260006,260009,260021,260024] (fun (k:Nat) tm m=>k≤(bh cs i).length∧tm 18 = .dat (.int .i64 k)∧m 260017=some (g,(ad (ah (dO cash cs i ((bh cs i).take k)))).map .dat)) (fun k=>(bh cs i).length-k) 0 (by refine⟨by omega,e18,?_⟩;rw[aiS,Gn];exact m17) ?_
 intro vs ms hvs hms;simp only[go_sem,go_sem_proc,aiq,e0,e1,e5,e6,e8,e9,e10,e12,e16,e17,m6,m9,m21,m24] at hvs hms;subst hvs hms;clear e0 e1 e5 e6 e8 e9 e10 e12 e16 e17 e18 m6 m9 m21 m24 m17 tm m;rintro k tm m hk hm ⟨hkn,e18,m17⟩;simp only[go_sem,go_sem_proc,aiq,List.cons.injEq] at hk hm;obtain⟨e0,e1,e5,e6,e8,e9,e10,e12,e16,e17⟩:=hk;obtain⟨m6,m9,m21,m24⟩:=hm;rcases aiv (k<(bh cs i).length) with hlt | hge
 ·have d1:decide ((k:Int)<((iE cash cs i).length:Int))=true:=decide_eq_true (by omega)
  have w3:IntKind.i64.wrap ((k:Int)+1)=((k+1:Nat):Int):=by rw[an _ (by omega) (by omega)];omega
  obtain⟨c,hx⟩:∃ c,(bh cs i)[k]?=some c:=⟨_,aiw hlt⟩;have hcm:=aix hx;have hqx:(iE cash cs i)[k]?=some (cg cs ((ab cash cs).gr i) c):=by unfold iE;rw[aiy,hx];rfl
  have hqe:((iE cash cs i).map ah)[k]?=some (ah (cg cs ((ab cash cs).gr i) c)):=by rw[aiy,hqx];rfl
  have z1:=Me hs hi (l:=(bh cs i).take k) (l':=(bh cs i).drop k) (ai3 k _).symm;have z2:=zg hs (aix hqx);have hsb:=tq (du z1 (by omega)) (du z2 (by omega)) (ig z1 (nu z2) (by omega));have htk:(bh cs i).take (k+1)=(bh cs i).take k++[c]:=by rw[aiz,hx];rfl
  have hlf:dO cash cs i ((bh cs i).take (k+1))=dO cash cs i ((bh cs i).take k)-cg cs ((ab cash cs).gr i) c:=by rw[htk,GF,tc hs hcm]
  rw[←hlf] at hsb;have hle:((iE cash cs i).map ah).length=(iE cash cs i).length:=air _;generalize (iE cash cs i).map ah=QE at *;generalize ah (dO cash cs i ((bh cs i).take k))=F at *;generalize hF':ah (dO cash cs i ((bh cs i).take (k+1)))=F' at *;generalize ah (cg cs ((ab cash cs).gr i) c)=P at *;obtain⟨⟨f1,f2⟩,⟨f3,f4⟩⟩:=F;obtain⟨⟨g1,g2⟩,⟨g3,g4⟩⟩:=F';obtain⟨⟨p1,p2⟩,⟨p3,p4⟩⟩:=P;simp only[ad,aiF,aiG] at hsb m17;refine qI ?_
  repeat' (intro h<;>simp only[h,go_sem,go_sem_proc,aiq,cf,e0,e1,e5,e6,e8,e9,e10,e12,e16,e17,e18,m6,m9,m17,m21,m24,hqe,hle,d1,w3,hsb,ad,air,aiy,bne,beq_self_eq_true,ait]<;>try refine qS ?_ ?_)
  exact⟨k+1,by omega,by omega,rfl,by rw[hF']⟩
 ·have d1:decide ((k:Int)<((iE cash cs i).length:Int))=false:=decide_eq_false (by omega)
  rw[aiA (by omega)] at m17;refine qI ?_
  repeat' (intro h<;>simp only[h,go_sem,go_sem_proc,aiq,e0,e1,e5,e6,e8,e9,e10,e12,e16,e17,e18,d1,air]<;>try refine qS ?_ ?_)
  refine hK _ _ ?_ ?_ ?_ ?_ ?_ ?_ ?_ ?_ ?_ m6 m9 m21 m24 m17<;>simp only[aR,ai4,if_false,e0,e1,e5,e6,e8,e9,e10,e16,e17]
theorem Sj (T:Tab) (bA:T cS=mkE lj) {K:bK→St→Prop} {kk:List Todo} (cash:List Int) (cs:List ClR) (hs:SmallD cash cs) (v5 v8 fc:MV) (tm:Nat→MV) (m:Mem)
  (e1:tm 1 = .dat (.sl (cs.map clL))) (e5:tm 5=v5) (e6:tm 6 = .ptr 260006 0 0) (e8:tm 8=v8) (e9:tm 9 = .ptr 260009 0 0) (e23:tm 23 = .dat (.int .i64 0))
  (m6:m 260006=some (0,[.dat (.sl ((iW cash cs).map ad)),.dat (.sl ((iN cash cs).map ad)),fc])) (m9:m 260009=some (0,(ad (ah (kU cash cs cash.length))).map .dat))
  (hK:∀ tm' m',tm' 5=v5→tm' 8=v8→tm' 9 = .ptr 260009 0 0→m' 260009=some (0,(ad (ah (lO cash cs cs))).map .dat)→kont T K kk (.exit 4) ⟨tm',m'⟩) :
  wp T (mf_law20_ClearMoney.body.sub [1,1,1,1,1,1,1,1,1,0,1,0]) (kont T K kk) ⟨tm,m⟩:=by
 simp only[mf_law20_ClearMoney,MCode.sub];have h12:=hs.c12;have hpl:(iN cash cs).length=cs.length:=by unfold iN;rw[air]
 refine ae [1,5,6,8,9] [260006] (fun (k:Nat) tm m=>k≤cs.length∧tm 23 = .dat (.int .i64 k)∧m 260009=some (0,(ad (ah (lO cash cs (cs.take k)))).map .dat)) (fun k=>cs.length-k) 0 (by refine⟨by omega,e23,?_⟩;rw[aiS,Jr];exact m9) ?_
 intro vs ms hvs hms;simp only[go_sem,go_sem_proc,aiq,e1,e5,e6,e8,e9,m6] at hvs hms;subst hvs hms;clear e1 e5 e6 e8 e9 e23 m6 m9 tm m;rintro k tm m hk hm ⟨hkn,e23,m9⟩;simp only[go_sem,go_sem_proc,aiq,List.cons.injEq] at hk hm;obtain⟨e1,e5,e6,e8,e9⟩:=hk;have m6:=hm;rcases aiv (k<cs.length) with hlt | hge
 ·have d1:decide ((k:Int)<(cs.length:Int))=true:=decide_eq_true (by omega)
  have w3:IntKind.i64.wrap ((k:Int)+1)=((k+1:Nat):Int):=by rw[an _ (by omega) (by omega)];omega
  obtain⟨⟨c1,c2,c3,c4⟩,hx⟩:∃ c,cs[k]?=some c:=⟨_,aiw hlt⟩;have hcm:=aix hx;have htk:cs.take (k+1)=cs.take k++[(c1,c2,c3,c4)]:=by rw[aiz,hx];rfl
  have hoa:=Kz (cash:=cash) (cs:=cs) (cs.take k) (c1,c2,c3,c4);rw[←htk] at hoa;rcases q:decide (c2≥0)
  ·have hc2:c2<0:=by have:=of_decide_eq_false q;omega
   rw[if_pos (show (c1,c2,c3,c4).2.1<0 from hc2)] at hoa
   have hpx:(iN cash cs)[k]?=some (ah ((ab cash cs).pay (ab cash cs).gr (bm (c1,c2,c3,c4)))):=by
    unfold iN;rw[aiy,hx,Option.map_some,E9 hs.right _ hcm]
   have z1:=Oi hs (l:=cs.take k) (l':=cs.drop k) (ai3 k _).symm;have z2:=xT hs hcm;have had:=tf (du z1 (by omega)) (du z2 (by omega)) (ig z1 z2 (by omega));rw[←hoa] at had;generalize ah (lO cash cs (cs.take k))=F at *;generalize hF':ah (lO cash cs (cs.take (k+1)))=F' at *;generalize ah ((ab cash cs).pay (ab cash cs).gr (bm (c1,c2,c3,c4)))=P at *;generalize iN cash cs=PD at *;generalize iW cash cs=HV at *;obtain⟨⟨f1,f2⟩,⟨f3,f4⟩⟩:=F;obtain⟨⟨g1,g2⟩,⟨g3,g4⟩⟩:=F';obtain⟨⟨p1,p2⟩,⟨p3,p4⟩⟩:=P;simp only[ad,aiF,aiG] at had m9;refine qI ?_
   repeat' (intro h<;>simp only[h,go_sem,go_sem_proc,aiq,bA,e1,e5,e6,e8,e9,e23,m6,m9,hx,hpx,d1,w3,q,had,clL,ad,air,aiy,bne,beq_self_eq_true,ait]<;>try refine qS ?_ ?_)
   exact⟨k+1,by omega,by omega,rfl,by rw[hF']⟩
  ·have hc2:¬ c2<0:=by have:=of_decide_eq_true q;omega
   rw[if_neg (show ¬ (c1,c2,c3,c4).2.1<0 from hc2),aiD] at hoa;refine qI ?_
   repeat' (intro h<;>simp only[h,go_sem,go_sem_proc,aiq,e1,e5,e6,e8,e9,e23,m6,hx,d1,w3,q,clL,air,aiy]<;>try refine qS ?_ ?_)
   exact⟨k+1,by omega,by omega,rfl,by rw[hoa];exact m9⟩
 ·have d1:decide ((k:Int)<(cs.length:Int))=false:=decide_eq_false (by omega)
  rw[aiA (by omega)] at m9;refine qI ?_
  repeat' (intro h<;>simp only[h,go_sem,go_sem_proc,aiq,e1,e5,e6,e8,e9,e23,d1,air]<;>try refine qS ?_ ?_)
  refine hK _ _ ?_ ?_ ?_ m9<;>simp only[aR,ai4,if_false,e5,e8,e9]
def o7 (cash:List Int) (i:Nat):Int:=(cash.take i).foldl (·+·) 0
theorem wM {cash:List Int} {i:Nat} {x:Int} (h:cash[i]?=some x):o7 cash (i+1)=o7 cash i+x:=by
 unfold o7;rw[aiz,h,aiT,aiU];rfl
theorem Ls {cash:List Int} (h:∀ x∈cash,0≤x∧x≤1000000000000000):∀ i:Nat,i≤cash.length→0≤o7 cash i∧o7 cash i≤i*1000000000000000:=by
 intro i
 induction i with
 | zero =>
  intro _;have h0:o7 cash 0=0:=by unfold o7;rw[aiS];rfl
  rw[h0];omega
 | succ i ih =>
  intro hi;have hx:cash[i]?=some cash[i]:=aiw (by omega);have h1:=h _ (aix hx);have h2:=ih (by omega);rw[wM hx];omega
theorem CZ {x:Rat}:decide (x.num.sign>0)=decide (0<x):=by
 have h1:decide (x.num.sign≤0)=decide (x≤0):=K1
 by_cases h:x≤0
 ·rw[decide_eq_true h] at h1
  have:=of_decide_eq_true h1;rw[decide_eq_false (show ¬ x.num.sign>0 by omega),decide_eq_false (show ¬ 0<x by grind)]
 ·rw[decide_eq_false h] at h1
  have:=of_decide_eq_false h1;rw[decide_eq_true (show x.num.sign>0 by omega),decide_eq_true (show 0<x by grind)]
theorem Jh {cash:List Int} {cs:List ClR} (hs:SmallD cash cs) {n:Nat} (hn:n≤cash.length):sumQ n (ab cash cs).cash=((o7 cash n:Int):Rat):=I9 hn
noncomputable def vp:List Data→Option PRes:=FF (α:=(List Int) × (List ClR)) (fun (cash,cs)=>([.sl (cash.map aa),.sl (cs.map clL)]:List Data)) (fun (cash,cs)=>some (.same (.bool true)))
theorem ze:∀ a b:(List Int) × (List ClR),(fun (cash,cs)=>([.sl (cash.map aa),.sl (cs.map clL)]:List Data)) a=(fun (cash,cs)=>([.sl (cash.map aa),.sl (cs.map clL)]:List Data)) b→a=b:=by
  rintro⟨cash1,cs1⟩ ⟨cash2,cs2⟩ h;simp only[List.cons.injEq,Data.sl.injEq,and_true] at h;exact aip (af aj _ _ h.1) (af fj _ _ h.2)
@[go_sem] theorem BJ (cash:List Int) (cs:List ClR):vp [.sl (cash.map aa),.sl (cs.map clL)]=some (.same (.bool true)):=aY ze (cash,cs)
theorem J6 (T:Tab) (eB:T ld=mkE tL) (iD:T ne=mkE DH) (bV:T ew=mkE mG) (cv:T gy=mkE nJ) (iK:T nj=mkE ye) (bW:T ic=mkE nK) (et:T lV=mkE rb) (fN:T lK=mkE th) (cf:T dh=mkE kQ) (bA:T cS=mkE lj) (aq:T aW=mkE dt) (cash:List Int) (cs:List ClR) :
  wp T mf_law20_ClearMoney.body (bF mf_law20_ClearMoney.res (.same (.bool true))) ⟨ax [.dat (.sl (cash.map aa)),.dat (.sl (cs.map clL))],emp⟩:=by
 refine ap ?_;simp only[mf_law20_ClearMoney];have sm:=A5;have g1:=Gz cash cs;rcases hf:vR cash cs
 ·rw[hf] at g1
  simp only[go_sem,go_sem_proc,aiq,eB,iD,bV,cv,iK,bW,et,fN,cf,bA,aq,sm,g1,ais]
  repeat' (first|refine qS ?_ ?_|fail)<;>intro h<;>simp only[h,go_sem,go_sem_proc,aiq,eB,iD,bV,cv,iK,bW,et,fN,cf,bA,aq,sm,g1,ais]
 rw[hf] at g1;have sv:=oy cash cs (M3 hf);unfold Ek at sv;rcases hr:dq cash cs
 ·rw[if_neg (by rw[hr];decide)] at sv
  have w0:IntKind.i64.wrap (0:Int)=0:=by decide
  simp only[go_sem,go_sem_proc,aiq,eB,iD,bV,cv,iK,bW,et,fN,cf,bA,aq,sm,g1,sv,w0,show ((1:Int)==0)=false from rfl,bne,beq_self_eq_true,ai5,ai6,ai7,ai8,ai9,ais,ait]
  repeat' (first|refine qS ?_ ?_|fail)<;>intro h<;>simp only[h,go_sem,go_sem_proc,aiq,eB,iD,bV,cv,iK,bW,et,fN,cf,bA,aq,sm,g1,sv,w0,show ((1:Int)==0)=false from rfl,bne,beq_self_eq_true,ai5,ai6,ai7,ai8,ai9,ais,ait]
 rw[if_pos hr] at sv;have hs:=wV hf hr;have hn5:=hs.n5;have hl:(iW cash cs).length=cash.length:=de _ _;have hle:(((iW cash cs).length:Int)==(cash.length:Int))=true:=by rw[hl];exact beq_self_eq_true _
 have hl2:(iN cash cs).length=cs.length:=by unfold iN;rw[air]
 have hle2:(((iN cash cs).length:Int)==(cs.length:Int))=true:=by rw[hl2];exact beq_self_eq_true _
 have f0:=oS xq;have hz0:ah (kU cash cs 0)=ah ((0:Int):Rat):=rfl;have hcb:=Ls (rightD_iff.1 hr).2.2.1;generalize ah ((0:Int):Rat)=Z at *;obtain⟨⟨z1,z2⟩,⟨z3,z4⟩⟩:=Z;simp only[ad] at f0;generalize (ab cash cs).frs.map nS=FD at *;simp only[go_sem,go_sem_proc,aiq,eB,iD,bV,cv,iK,bW,et,fN,cf,bA,aq,sm,g1,sv,hle,hle2,f0,bne,beq_self_eq_true,air,ais,ait];refine ae [0,1,5,6,9] [260006] (fun (i:Nat) tm m=>i≤cash.length∧tm 10 = .dat (.int .i64 i)∧tm 8 = .dat (.int .i64 (o7 cash i))∧m 260009=some (0,(ad (ah (kU cash cs i))).map .dat)) (fun i=>cash.length-i) 0 (by refine⟨by omega,rfl,rfl,?_⟩;rw[hz0];rfl) ?_
 intro vs ms hvs hms;simp only[go_sem,go_sem_proc,aiq,eB,iD,bV,cv,iK,bW,et,fN,cf,bA,aq,air] at hvs hms;subst hvs hms;rintro i tm m hk hm ⟨hi,e10,e8,m9⟩;simp only[go_sem,go_sem_proc,aiq,eB,iD,bV,cv,iK,bW,et,fN,cf,bA,aq,List.cons.injEq] at hk hm;obtain⟨e0,e1,e5,e6,e9⟩:=hk;have m6:=hm;rcases aiv (i<cash.length) with hlt | hge
 ·have d1:decide ((i:Int)<(cash.length:Int))=true:=decide_eq_true (by omega)
  have w3:IntKind.i64.wrap ((i:Int)+1)=((i+1:Nat):Int):=by rw[an _ (by omega) (by omega)];omega
  obtain⟨y,hy⟩:∃ y,cash[i]?=some y:=⟨_,aiw hlt⟩;have hb1:=hcb (i+1) (by omega);have hts:=wM hy;have w4:IntKind.i64.wrap (o7 cash i+y)=o7 cash (i+1):=by rw[an _ (by omega) (by omega)];exact hts.symm
  have a1:=Nu hs hlt;have a2:=Gk hs hlt;obtain⟨sn,a3⟩:=Dj hs hlt;have a4:=JL hs (i:=i);have hget:(iW cash cs)[i]?=some (ah ((ab cash cs).gr i)):=eM _ hlt;have z1:=MZ hs (n:=i) (by omega);have z2:=IH hs hlt;have had:=tf (du z1 (by omega)) (du z2 (by omega)) (ig z1 z2 (by omega));rw[←vj] at had;have hln:=lu hs hlt;have hlp:=HZ hs hlt;have hs0:decide ((dO cash cs i (bh cs i)).num.sign<0)=false:=by rw[pP];exact decide_eq_false (by grind)
  have hsp:decide ((dO cash cs i (bh cs i)).num.sign>0)=true→decide ((ab cash cs).gr i<(ab cash cs).U i 10)=false:=fun h=>by
   rw[CZ] at h;exact decide_eq_false (hlp (of_decide_eq_true h))
  have hL1:=fun (K:bK→St→Prop) (kk:List Todo) v0 v1 v5 v6 v8 v9 v10 v16 x6 x9 x21 x24 g tm m=>RR T cf (K:=K) (kk:=kk) cash cs hs i hlt v0 v1 v5 v6 v8 v9 v10 v16 x6 x9 x21 x24 g tm m
  generalize decide ((ab cash cs).gr i<(ab cash cs).U i 10)=b at *;generalize (iE cash cs i).map ah=QE at *;generalize ah ((ab cash cs).gr i)=H at *;generalize hKi:ah (kU cash cs i)=Ki at *;generalize hKn:ah (kU cash cs (i+1))=Kn at *;have hsg:(ah (dO cash cs i (bh cs i))).1.1=(dO cash cs i (bh cs i)).num.sign:=rfl;generalize ah (dO cash cs i (bh cs i))=L at *;generalize (dO cash cs i (bh cs i)).num.sign=sg at *;obtain⟨⟨l1,l2⟩,⟨l3,l4⟩⟩:=L;dsimp only at hsg;subst hsg;obtain⟨⟨h1,h2⟩,⟨h3,h4⟩⟩:=H;obtain⟨⟨k1,k2⟩,⟨k3,k4⟩⟩:=Ki;obtain⟨⟨n1,n2⟩,⟨n3,n4⟩⟩:=Kn;simp only[ad,aiF,aiG] at a2 had m9 hL1;simp only[go_sem,go_sem_proc,aiq,eB,iD,bV,cv,iK,bW,et,fN,cf,bA,aq,e0,e1,e5,e6,e8,e9,e10,m6,m9,hy,hget,d1,w4,a1,a2,a3,a4,aa,ad,air,aiy,bne,beq_self_eq_true,ait];refine hL1 _ _ (.dat (.sl (cash.map aa))) (.dat (.sl (cs.map clL))) (.dat (.bool true)) (.ptr 260006 0 0) (.dat (.int .i64 (o7 cash (i+1)))) (.ptr 260009 0 0) (.dat (.int .i64 i)) (.dat (.bool b)) _ _ (m 260021) (m 260024) (cT (m 260017)) _ _ ?_ ?_ ?_ ?_ ?_ ?_ ?_ ?_ ?_ ?_ ?_ (by simp only[ay,ai4,if_false];exact m6) (by simp only[ay,ai4,if_false];exact m9) (by simp only[ay,ai4,if_false]) (by simp only[ay,ai4,if_false]) (by simp only[ay,if_true]) ?_
  all_goals first | (intro tm2 m2 k0 k1 k5 k6 k8 k9 k10 k16 k17 q6 q9 q21 q24 q17) | (simp only[aR,ai4,if_false,if_true,e0,e1,e5,e6,e8,e9,e10];done)
  rcases q:decide (l1>0)
  ·simp only[go_sem,go_sem_proc,aiq,eB,iD,bV,cv,iK,bW,et,fN,cf,bA,aq,k0,k1,k5,k6,k8,k9,k10,k16,k17,q6,q9,q17,w3,had,hs0,q,ad,bne,beq_self_eq_true,ait]
   repeat' (first|refine qS ?_ ?_|fail)<;>intro h<;>simp only[h,go_sem,go_sem_proc,aiq,eB,iD,bV,cv,iK,bW,et,fN,cf,bA,aq,k0,k1,k5,k6,k8,k9,k10,k16,k17,q6,q9,q17,w3,had,hs0,q,ad,bne,beq_self_eq_true,ait]
   exact⟨i+1,by omega,by omega,rfl,rfl,by rw[hKn]⟩
  ·rw[hsp q] at k16
   simp only[go_sem,go_sem_proc,aiq,eB,iD,bV,cv,iK,bW,et,fN,cf,bA,aq,k0,k1,k5,k6,k8,k9,k10,k16,k17,q6,q9,q17,w3,had,hs0,q,ad,bne,beq_self_eq_true,ait]
   repeat' (first|refine qS ?_ ?_|fail)<;>intro h<;>simp only[h,go_sem,go_sem_proc,aiq,eB,iD,bV,cv,iK,bW,et,fN,cf,bA,aq,k0,k1,k5,k6,k8,k9,k10,k16,k17,q6,q9,q17,w3,had,hs0,q,ad,bne,beq_self_eq_true,ait]
   exact⟨i+1,by omega,by omega,rfl,rfl,by rw[hKn]⟩
 ·have d1:decide ((i:Int)<(cash.length:Int))=false:=decide_eq_false (by omega)
  obtain rfl:i=cash.length:=by omega
  simp only[go_sem,go_sem_proc,aiq,eB,iD,bV,cv,iK,bW,et,fN,cf,bA,aq,e0,e1,e5,e6,e8,e9,e10,d1,air];refine Sj T bA cash cs hs (.dat (.bool true)) (.dat (.int .i64 (o7 cash cash.length))) (.dat (.sl FD)) _ _ ?_ ?_ ?_ ?_ ?_ ?_ m6 m9 ?_
  all_goals first | (intro tm2 m2 k5 k8 k9 q9) | (simp only[aR,ai4,if_false,if_true,e0,e1,e5,e6,e8,e9,e10];done)
  have hb1:=hcb cash.length (aiR _);have hin:ct (o7 cash cash.length):=dX (by omega) (by omega);have b1:=oS hin;have ho:lO cash cs cs=((o7 cash cash.length:Int):Rat):=(Ft hs).trans (Jh hs (aiR _));rw[ho] at q9;have b2:=fJ (eT hin) (eT hin);rw[rK] at b2;generalize ah ((o7 cash cash.length:Int):Rat)=F at *;obtain⟨⟨f1,f2⟩,⟨f3,f4⟩⟩:=F;simp only[ad,aiF,aiG] at b1 b2 q9;simp only[go_sem,go_sem_proc,aiq,eB,iD,bV,cv,iK,bW,et,fN,cf,bA,aq,k5,k8,k9,q9,b1,b2,ad,beq_self_eq_true]
  repeat' (first|refine qS ?_ ?_|fail)<;>intro h<;>simp only[h,go_sem,go_sem_proc,aiq,eB,iD,bV,cv,iK,bW,et,fN,cf,bA,aq,k5,k8,k9,q9,b1,b2,ad,beq_self_eq_true]
end Go.Mini
