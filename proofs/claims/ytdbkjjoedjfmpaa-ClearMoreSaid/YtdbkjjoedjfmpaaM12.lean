/- A part of the proof. -/
import Derived.Test.YtdbkjjoedjfmpaaM11
set_option linter.unusedSimpArgs false
set_option linter.unusedVariables false
open Prod renaming ext → afd, ext_iff → afk
open List renaming getElem?_eq_getElem → afe, getD_eq_getElem?_getD → aff, mem_of_getElem? → afg, length_map → afi, getElem?_map → afj, take_length → afp, getElem_mem → afq, replicate → afs, map_replicate → aft, length_replicate → afu, length_filter_le → afv, take_zero → afx, take_add_one → afy, take_append_drop → afz, take_of_length_le → afB, range_succ → afC, map_append → afD, take → afE, drop → afF, map_cons → afG, map_nil → afH, set_cons_zero → afI, length_range → afL, range → afM, flatMap_append → afN, flatMap_cons → afO, flatMap_nil → afP, append_nil → afQ, flatMap_def → afR, map_congr_left → afS, filter_append → afT, filter_cons_of_pos → afV, filter_cons_of_neg → afW, range_add → afX, append_assoc → afY, map → afZ, filter_nil → af0
open Bool renaming false_eq_true → afh, not_true → afn, not_false → afo, eq_iff_iff → afr
open Nat renaming zero_le → afl, mul_one → afw, reduceEqDiff → afJ, le_trans → afK
open Decidable renaming em → afm
open Rat renaming add_zero → afA
open Int renaming toNat_natCast → afU
namespace Go.Mini
open Go
set_option maxRecDepth 10000
set_option maxHeartbeats 2000000
noncomputable def rQ:List Data→Option PRes:=FF (α:=Int × (List aM) × Nat) (fun (z,h,i)=>([.int .i64 z,.ptr [.sl (h.map ae)],.ptr [.int .i64 i]]:List Data)) (fun (z,h,i)=>aI (cn z∧i<h.length∧okL h) (.same (.bool (decide (lc (h.getD i cb) (aj (z:Rat))<0)))))
theorem vj:∀ a b:Int × (List aM) × Nat,(fun (z,h,i)=>([.int .i64 z,.ptr [.sl (h.map ae)],.ptr [.int .i64 i]]:List Data)) a=(fun (z,h,i)=>([.int .i64 z,.ptr [.sl (h.map ae)],.ptr [.int .i64 i]]:List Data)) b→a=b:=by
  rintro⟨z1,h1,i1⟩ ⟨z2,h2,i2⟩ h;simp only[List.cons.injEq,Data.int.injEq,Data.ptr.injEq,Data.sl.injEq,and_true,true_and] at h;exact afd h.1 (afd (ah dJ _ _ h.2.1) (by have:=h.2.2;dsimp only;omega))
@[go_sem] theorem yC (z:Int) (h:List aM) (i:Nat) (hc:cn z∧i<h.length∧okL h):rQ [.int .i64 z,.ptr [.sl (h.map ae)],.ptr [.int .i64 i]]=some (.same (.bool (decide (lc (h.getD i cb) (aj (z:Rat))<0)))):=(aZ vj (z,h,i)).trans (ap hc _)
theorem Fp (T:Tab) (aF:T bf=mkE fk) (au:T aV=mkE cV) (z:Int) (h:List aM) (i:Nat) (hc:cn z∧i<h.length∧okL h) :
  wp T mf_clear_Solve_1.body (bG mf_clear_Solve_1.res (.same (.bool (decide (lc (h.getD i cb) (aj (z:Rat))<0))))) ⟨az [.dat (.int .i64 z),.dat (.ptr [.sl (h.map ae)]),.dat (.ptr [.int .i64 i])],emp⟩:=by
 refine aq ?_;simp only[mf_clear_Solve_1];obtain⟨hz,hi,hok⟩:=hc;have hw:=eN z hz;obtain⟨x,hx⟩:∃ x,h[i]?=some x:=⟨_,afe hi⟩;have hxd:h.getD i cb=x:=by rw[aff,hx];rfl
 obtain⟨o1,o2⟩:=hok.2 x (afg hx);obtain⟨o3,o4⟩:=eC (fM hz);rw[hxd];generalize aj (z:Rat)=Z at *;obtain⟨⟨a1,a2⟩,⟨a3,a4⟩⟩:=Z;obtain⟨⟨b1,b2⟩,⟨b3,b4⟩⟩:=x;have hcp:=oV b1 b2 b3 b4 a1 a2 a3 a4 ⟨o1,o2,o3,o4⟩;simp only[ae] at hw;simp only[go_sem,go_sem_proc,afh,aF,au,hw,hx,hcp,ae,afi,afj]
 repeat' (first|refine qS ?_ ?_|fail)<;>intro h<;>simp only[h,go_sem,go_sem_proc,afh,aF,au,hw,hx,hcp,ae,afi,afj]
noncomputable def oo:List Data→Option PRes:=FF (α:=Int) (fun (x:Int)=>([.int .i64 x]:List Data)) (fun (x:Int)=>some (.same (.bool (dN x))))
theorem vf:∀ a b:Int,(fun (x:Int)=>([.int .i64 x]:List Data)) a=(fun (x:Int)=>([.int .i64 x]:List Data)) b→a=b:=by
  intro x1 x2 h;simp only[List.cons.injEq,Data.int.injEq,Data.agg.injEq,Data.sl.injEq,Data.bool.injEq,Data.str.injEq,Data.ptr.injEq,Data.tup.injEq,Prod.mk.injEq,true_and,and_true] at h ⊢
  first | exact h | simpa [afk,and_assoc] using h | grind
@[go_sem] theorem LX (x:Int):oo [.int .i64 x]=some (.same (.bool (dN x))):=aZ vf x
theorem Fq (T:Tab)  (x:Int) :
  wp T mf_rescue_amount.body (bG mf_rescue_amount.res (.same (.bool (dN x)))) ⟨az [.dat (.int .i64 x)],emp⟩:=by
 refine aq ?_;simp only[mf_rescue_amount];unfold dN;rcases c1:decide (0≤x)
 ·have c2:decide (x≥0)=false:=c1
  refine qI ?_
  repeat' (intro h<;>simp only[h,go_sem,go_sem_proc,afh,c1,c2,Bool.false_and]<;>try refine qS ?_ ?_)
 ·have c2:decide (x≥0)=true:=c1
  refine qI ?_
  repeat' (intro h<;>simp only[h,go_sem,go_sem_proc,afh,c1,c2,Bool.true_and]<;>try refine qS ?_ ?_)
noncomputable def yq:List Data→Option PRes:=FF (α:=Int) (fun (x:Int)=>([.int .i64 x]:List Data)) (fun (x:Int)=>some (.same (.bool (!dN x))))
theorem A8:∀ a b:Int,(fun (x:Int)=>([.int .i64 x]:List Data)) a=(fun (x:Int)=>([.int .i64 x]:List Data)) b→a=b:=by
  intro x1 x2 h;simp only[List.cons.injEq,Data.int.injEq,Data.agg.injEq,Data.sl.injEq,Data.bool.injEq,Data.str.injEq,Data.ptr.injEq,Data.tup.injEq,Prod.mk.injEq,true_and,and_true] at h ⊢
  first | exact h | simpa [afk,and_assoc] using h | grind
@[go_sem] theorem Nw (x:Int):yq [.int .i64 x]=some (.same (.bool (!dN x))):=aZ A8 x
theorem LN (T:Tab) (mE:T fD=mkE oo) (x:Int) :
  wp T mf_rescue_day_1.body (bG mf_rescue_day_1.res (.same (.bool (!dN x)))) ⟨az [.dat (.int .i64 x)],emp⟩:=by
 refine aq ?_;simp only[mf_rescue_day_1];refine qI ?_
 repeat' (intro h<;>simp only[h,go_sem,go_sem_proc,afh,mE]<;>try refine qS ?_ ?_)
inductive sH where
 | right
 | day
 | solve (h:List aM) (i:Nat)
def nh:sH→Data
 | .right => .fn fy [.ptr [.fn bn []]]
 | .day => .fn il []
 | .solve h i => .fn fo [.ptr [.sl (h.map ae)],.ptr [.int .i64 i]]
theorem AI:∀ a b:sH,nh a=nh b→a=b:=by
 rintro (_ | _ | ⟨h,i⟩) (_ | _ | ⟨h',i'⟩) e
 all_goals first | rfl | (simp [nh,fy,il,fo] at e;done) | skip
 simp only[nh,Data.fn.injEq,List.cons.injEq,Data.ptr.injEq,Data.sl.injEq,Data.int.injEq,and_true,true_and] at e;rw[ah dJ _ _ e.1,show i=i' by omega]
def pdI:sH→Int→Bool
 | .right,x => !dN x
 | .day,x => !dN x
 | .solve h i,x=>decide (lc (h.getD i cb) (aj (x:Rat))<0)
def okI (l:List Int):sH→Prop
 | .right=>True
 | .day=>True
 | .solve h i=>i<h.length∧okL h∧∀ x∈l,cn x
noncomputable def od:List Data→Option PRes:=FF (α:=(List Int) × sH) (fun (l,c)=>([.sl (l.map aa),nh c]:List Data)) (fun (l,c)=>aI (l.length≤1000000∧okI l c) (.same (.int .i64 (lW (pdI c) l))))
theorem z8:∀ a b:(List Int) × sH,(fun (l,c)=>([.sl (l.map aa),nh c]:List Data)) a=(fun (l,c)=>([.sl (l.map aa),nh c]:List Data)) b→a=b:=by
  rintro⟨l1,c1⟩ ⟨l2,c2⟩ h;simp only[List.cons.injEq,Data.sl.injEq,and_true] at h;exact afd (ah ak _ _ h.1) (AI _ _ h.2)
@[go_sem] theorem Dm (l:List Int) (c:sH) (hc:l.length≤1000000∧okI l c):od [.sl (l.map aa),nh c]=some (.same (.int .i64 (lW (pdI c) l))):=(aZ z8 (l,c)).trans (ap hc _)
theorem LI (T:Tab) (fm:T fy=mkE JG) (cH:T il=mkE yq) (bH:T fo=mkE rQ) (l:List Int) (c:sH) (hc:l.length≤1000000∧okI l c) :
  wp T mf_slices_IndexFunc_int.body (bG mf_slices_IndexFunc_int.res (.same (.int .i64 (lW (pdI c) l)))) ⟨az [.dat (.sl (l.map aa)),.dat (nh c)],emp⟩:=by
 refine aq ?_;simp only[mf_slices_IndexFunc_int];obtain⟨hl,hok⟩:=hc
 cases c with
 | right =>
  simp only[go_sem,go_sem_proc,afh,fm,cH,bH,nh,afi];refine af [0,1,7] [] (fun (i:Nat) tm mem=>i≤l.length∧(∀ x∈l.take i,pdI .right x=false)∧tm 8 = .dat (.int .i64 i)) (fun i=>l.length-i) 0 (by refine⟨afl _,by simp,rfl⟩) ?_;intro vs ms hvs hms;simp only[go_sem,go_sem_proc,afh,fm,cH,bH,afi] at hvs hms;subst hvs hms;rintro i tm mem hk hm ⟨hi,hall,h8⟩;simp only[go_sem,go_sem_proc,afh,fm,cH,bH,List.cons.injEq] at hk hm;obtain⟨h0,h1,h7⟩:=hk;rcases afm (i<l.length) with hlt | hge
  ·have hx:=afe hlt
   have hat:=fun h=>ll (p:=pdI .right) hall hx h
   have hnx:=fun h=>eW (p:=pdI .right) hall hx h
   generalize l[i]=x at *;have hlt':decide ((i:Int)<(l.length:Int))=true:=decide_eq_true (by omega);have hw:IntKind.i64.wrap ((i:Int)+1)=((i+1:Nat):Int):=by rw[al _ (by omega) (by omega)];omega
   rcases hb:pdI .right x
   ·have hr:dN x=true:=by simpa [pdI] using hb
    simp only[go_sem,go_sem_proc,afh,fm,cH,bH,h0,h1,h7,h8,hx,hlt',hw,hr,aa,afi,afj,afn]
    repeat' (first|refine qS ?_ ?_|fail)<;>intro h<;>simp only[h,go_sem,go_sem_proc,afh,fm,cH,bH,h0,h1,h7,h8,hx,hlt',hw,hr,aa,afi,afj,afn]
    exact⟨i+1,by omega,by omega,hnx hb,rfl⟩
   ·have hr:dN x=false:=by simpa [pdI] using hb
    rw[hat hb];simp only[go_sem,go_sem_proc,afh,fm,cH,bH,h0,h1,h7,h8,hx,hlt',hw,hr,aa,afi,afj,afo]
    repeat' (first|refine qS ?_ ?_|fail)<;>intro h<;>simp only[h,go_sem,go_sem_proc,afh,fm,cH,bH,h0,h1,h7,h8,hx,hlt',hw,hr,aa,afi,afj,afo]
  ·have hlt':decide ((i:Int)<(l.length:Int))=false:=decide_eq_false (by omega)
   obtain rfl:i=l.length:=by omega
   rw[afp] at hall;rw[jv hall];simp only[go_sem,go_sem_proc,afh,fm,cH,bH,h0,h1,h7,h8,hlt',afi]
   repeat' (first|refine qS ?_ ?_|fail)<;>intro h<;>simp only[h,go_sem,go_sem_proc,afh,fm,cH,bH,h0,h1,h7,h8,hlt',afi]
 | day =>
  simp only[go_sem,go_sem_proc,afh,fm,cH,bH,nh,afi];refine af [0,1,7] [] (fun (i:Nat) tm mem=>i≤l.length∧(∀ x∈l.take i,pdI .day x=false)∧tm 8 = .dat (.int .i64 i)) (fun i=>l.length-i) 0 (by refine⟨afl _,by simp,rfl⟩) ?_;intro vs ms hvs hms;simp only[go_sem,go_sem_proc,afh,fm,cH,bH,afi] at hvs hms;subst hvs hms;rintro i tm mem hk hm ⟨hi,hall,h8⟩;simp only[go_sem,go_sem_proc,afh,fm,cH,bH,List.cons.injEq] at hk hm;obtain⟨h0,h1,h7⟩:=hk;rcases afm (i<l.length) with hlt | hge
  ·have hx:=afe hlt
   have hat:=fun h=>ll (p:=pdI .day) hall hx h
   have hnx:=fun h=>eW (p:=pdI .day) hall hx h
   generalize l[i]=x at *;have hlt':decide ((i:Int)<(l.length:Int))=true:=decide_eq_true (by omega);have hw:IntKind.i64.wrap ((i:Int)+1)=((i+1:Nat):Int):=by rw[al _ (by omega) (by omega)];omega
   rcases hb:pdI .day x
   ·have hr:dN x=true:=by simpa [pdI] using hb
    simp only[go_sem,go_sem_proc,afh,fm,cH,bH,h0,h1,h7,h8,hx,hlt',hw,hr,aa,afi,afj,afn]
    repeat' (first|refine qS ?_ ?_|fail)<;>intro h<;>simp only[h,go_sem,go_sem_proc,afh,fm,cH,bH,h0,h1,h7,h8,hx,hlt',hw,hr,aa,afi,afj,afn]
    exact⟨i+1,by omega,by omega,hnx hb,rfl⟩
   ·have hr:dN x=false:=by simpa [pdI] using hb
    rw[hat hb];simp only[go_sem,go_sem_proc,afh,fm,cH,bH,h0,h1,h7,h8,hx,hlt',hw,hr,aa,afi,afj,afo]
    repeat' (first|refine qS ?_ ?_|fail)<;>intro h<;>simp only[h,go_sem,go_sem_proc,afh,fm,cH,bH,h0,h1,h7,h8,hx,hlt',hw,hr,aa,afi,afj,afo]
  ·have hlt':decide ((i:Int)<(l.length:Int))=false:=decide_eq_false (by omega)
   obtain rfl:i=l.length:=by omega
   rw[afp] at hall;rw[jv hall];simp only[go_sem,go_sem_proc,afh,fm,cH,bH,h0,h1,h7,h8,hlt',afi]
   repeat' (first|refine qS ?_ ?_|fail)<;>intro h<;>simp only[h,go_sem,go_sem_proc,afh,fm,cH,bH,h0,h1,h7,h8,hlt',afi]
 | solve h k =>
  obtain⟨hk0,hkl,hkz⟩:=hok;simp only[go_sem,go_sem_proc,afh,fm,cH,bH,nh,afi];refine af [0,1,7] [] (fun (i:Nat) tm mem=>i≤l.length∧(∀ x∈l.take i,pdI (.solve h k) x=false)∧tm 8 = .dat (.int .i64 i)) (fun i=>l.length-i) 0 (by refine⟨afl _,by simp,rfl⟩) ?_;intro vs ms hvs hms;simp only[go_sem,go_sem_proc,afh,fm,cH,bH,afi] at hvs hms;subst hvs hms;rintro i tm mem hk hm ⟨hi,hall,h8⟩;simp only[go_sem,go_sem_proc,afh,fm,cH,bH,List.cons.injEq] at hk hm;obtain⟨h0,h1,h7⟩:=hk;rcases afm (i<l.length) with hlt | hge
  ·have hx:=afe hlt
   have hxz:=hkz _ (afq hlt);have hat:=fun hh=>ll (p:=pdI (.solve h k)) hall hx hh
   have hnx:=fun hh=>eW (p:=pdI (.solve h k)) hall hx hh
   generalize l[i]=x at *;have hF:=yC x h k ⟨hxz,hk0,hkl⟩;have hlt':decide ((i:Int)<(l.length:Int))=true:=decide_eq_true (by omega);have hw:IntKind.i64.wrap ((i:Int)+1)=((i+1:Nat):Int):=by rw[al _ (by omega) (by omega)];omega
   rcases hb:pdI (.solve h k) x
   ·have hr:=hb
    simp only[pdI] at hr;rw[hr] at hF;simp only[go_sem,go_sem_proc,afh,fm,cH,bH,h0,h1,h7,h8,hx,hlt',hw,hF,aa,afi,afj]
    repeat' (first|refine qS ?_ ?_|fail)<;>intro h<;>simp only[h,go_sem,go_sem_proc,afh,fm,cH,bH,h0,h1,h7,h8,hx,hlt',hw,hF,aa,afi,afj]
    exact⟨i+1,by omega,by omega,hnx hb,rfl⟩
   ·have hr:=hb
    simp only[pdI] at hr;rw[hr] at hF;rw[hat hb];simp only[go_sem,go_sem_proc,afh,fm,cH,bH,h0,h1,h7,h8,hx,hlt',hw,hF,aa,afi,afj]
    repeat' (first|refine qS ?_ ?_|fail)<;>intro h<;>simp only[h,go_sem,go_sem_proc,afh,fm,cH,bH,h0,h1,h7,h8,hx,hlt',hw,hF,aa,afi,afj]
  ·have hlt':decide ((i:Int)<(l.length:Int))=false:=decide_eq_false (by omega)
   obtain rfl:i=l.length:=by omega
   rw[afp] at hall;rw[jv hall];simp only[go_sem,go_sem_proc,afh,fm,cH,bH,h0,h1,h7,h8,hlt',afi]
   repeat' (first|refine qS ?_ ?_|fail)<;>intro h<;>simp only[h,go_sem,go_sem_proc,afh,fm,cH,bH,h0,h1,h7,h8,hlt',afi]
noncomputable def s9:List Data→Option PRes:=FF (α:=(List Int) × sH) (fun (l,c)=>([.sl (l.map aa),nh c]:List Data)) (fun (l,c)=>aI (l.length≤1000000∧okI l c) (.same (.bool (l.any (pdI c)))))
theorem xJ:∀ a b:(List Int) × sH,(fun (l,c)=>([.sl (l.map aa),nh c]:List Data)) a=(fun (l,c)=>([.sl (l.map aa),nh c]:List Data)) b→a=b:=by
  rintro⟨l1,c1⟩ ⟨l2,c2⟩ h;simp only[List.cons.injEq,Data.sl.injEq,and_true] at h;exact afd (ah ak _ _ h.1) (AI _ _ h.2)
@[go_sem] theorem zV (l:List Int) (c:sH) (hc:l.length≤1000000∧okI l c):s9 [.sl (l.map aa),nh c]=some (.same (.bool (l.any (pdI c)))):=(aZ xJ (l,c)).trans (ap hc _)
theorem JC (T:Tab) (eD:T bX=mkE od) (l:List Int) (c:sH) (hc:l.length≤1000000∧okI l c) :
  wp T mf_slices_ContainsFunc_int.body (bG mf_slices_ContainsFunc_int.res (.same (.bool (l.any (pdI c))))) ⟨az [.dat (.sl (l.map aa)),.dat (nh c)],emp⟩:=by
 refine aq ?_;simp only[mf_slices_ContainsFunc_int];rw[←pW];refine qI ?_
 repeat' (intro h<;>simp only[h,go_sem,go_sem_proc,afh,eD,hc]<;>try refine qS ?_ ?_)
noncomputable def xU:List Data→Option PRes:=FF (α:=Int × Int × Int × Int × (List Int)) (fun (a,b,k,x,cash)=>([.agg [.int .i64 a,.int .i64 b,.int .i64 k,.int .i64 x],.ptr [.sl (cash.map aa)]]:List Data)) (fun (a,b,k,x,cash)=>aI (cash.length≤1000000) (.same (.bool (!eZ cash.length (a,b,k,x)))))
theorem Au:∀ a b:Int × Int × Int × Int × (List Int),(fun (a,b,k,x,cash)=>([.agg [.int .i64 a,.int .i64 b,.int .i64 k,.int .i64 x],.ptr [.sl (cash.map aa)]]:List Data)) a=(fun (a,b,k,x,cash)=>([.agg [.int .i64 a,.int .i64 b,.int .i64 k,.int .i64 x],.ptr [.sl (cash.map aa)]]:List Data)) b→a=b:=by
  rintro⟨a1,b1,k1,x1,cash1⟩ ⟨a2,b2,k2,x2,cash2⟩ h;simp only[List.cons.injEq,Data.agg.injEq,Data.int.injEq,Data.ptr.injEq,Data.sl.injEq,and_true,true_and] at h;obtain⟨⟨h1,h2,h3,h4⟩,h5⟩:=h;rw[h1,h2,h3,h4,ah ak _ _ h5]
@[go_sem] theorem OL (a:Int) (b:Int) (k:Int) (x:Int) (cash:List Int) (hc:cash.length≤1000000):xU [.agg [.int .i64 a,.int .i64 b,.int .i64 k,.int .i64 x],.ptr [.sl (cash.map aa)]]=some (.same (.bool (!eZ cash.length (a,b,k,x)))):=(aZ Au (a,b,k,x,cash)).trans (ap hc _)
theorem MD (T:Tab) (mE:T fD=mkE oo) (a:Int) (b:Int) (k:Int) (x:Int) (cash:List Int) (hc:cash.length≤1000000) :
  wp T mf_rescue_day_2.body (bG mf_rescue_day_2.res (.same (.bool (!eZ cash.length (a,b,k,x))))) ⟨az [.dat (.agg [.int .i64 a,.int .i64 b,.int .i64 k,.int .i64 x]),.dat (.ptr [.sl (cash.map aa)])],emp⟩:=by
 refine aq ?_;simp only[mf_rescue_day_2]
 by_cases hr:eZ cash.length (a,b,k,x)=true
 ·have hr':=rightC_iff.1 hr
  dsimp only at hr';have c1:decide (a<0)=false:=decide_eq_false (by omega);have c2:decide (a≥(cash.length:Int))=false:=decide_eq_false (by omega);have c3:decide (b < -1)=false:=decide_eq_false (by omega);have c4:decide (b≥(cash.length:Int))=false:=decide_eq_false (by omega);have c5:decide (k<0)=false:=decide_eq_false (by omega);have c6:decide (k≥10)=false:=decide_eq_false (by omega);have c7:dN x=true:=rightM_iff.2 (by omega);refine qI ?_
  repeat' (intro h<;>simp only[h,go_sem,go_sem_proc,afh,mE,hr,c1,c2,c3,c4,c5,c6,c7,afi,afn]<;>try refine qS ?_ ?_)
 ·have hf:eZ cash.length (a,b,k,x)=false:=by simpa using hr
  rw[rightC_iff] at hr;dsimp only at hr;rcases c7:dN x
  ·refine qI ?_
   repeat' (intro h<;>simp only[h,go_sem,go_sem_proc,afh,mE,hf,c7,afi,afn,afo]<;>try refine qS ?_ ?_)
  ·have c7':=rightM_iff.1 c7
   refine qI ?_
   repeat' (intro h<;>simp only[h,go_sem,go_sem_proc,afh,mE,hf,c7,afi,afn,afo]<;>try refine qS ?_ ?_)
   all_goals (exfalso;simp only[decide_eq_false_iff_not] at *;omega)
inductive rq where
 | right (n:Int)
 | day (cash:List Int)
def nr:rq→Data
 | .right n => .fn fi [.ptr [.fn bn []],.ptr [.int .i64 n]]
 | .day cash => .fn ij [.ptr [.sl (cash.map aa)]]
theorem BR:∀ a b:rq,nr a=nr b→a=b:=by
 rintro (n | c) (n' | c') e
 all_goals first | (simp [nr,fi,ij] at e;done) | skip
 ·simp only[nr,Data.fn.injEq,List.cons.injEq,Data.ptr.injEq,Data.int.injEq,and_true,true_and] at e
  rw[e]
 ·simp only[nr,Data.fn.injEq,List.cons.injEq,Data.ptr.injEq,Data.sl.injEq,and_true,true_and] at e
  rw[ah ak _ _ e]
def CU:rq→Int
 | .right n=>n
 | .day cash=>cash.length
def pdC (c:rq) (x:ClR):Bool:=!eZ (CU c) x
def okC (c:rq):Prop:=0≤CU c∧CU c≤1000000
noncomputable def rF:List Data→Option PRes:=FF (α:=(List ClR) × rq) (fun (l,c)=>([.sl (l.map clL),nr c]:List Data)) (fun (l,c)=>aI (l.length≤1000000∧okC c) (.same (.int .i64 (lW (pdC c) l))))
theorem vi:∀ a b:(List ClR) × rq,(fun (l,c)=>([.sl (l.map clL),nr c]:List Data)) a=(fun (l,c)=>([.sl (l.map clL),nr c]:List Data)) b→a=b:=by
  rintro⟨l1,c1⟩ ⟨l2,c2⟩ h;simp only[List.cons.injEq,Data.sl.injEq,and_true] at h;exact afd (ah f7 _ _ h.1) (BR _ _ h.2)
@[go_sem] theorem LD (l:List ClR) (c:rq) (hc:l.length≤1000000∧okC c):rF [.sl (l.map clL),nr c]=some (.same (.int .i64 (lW (pdC c) l))):=(aZ vi (l,c)).trans (ap hc _)
theorem Fm (T:Tab) (jd:T fi=mkE JQ) (eE:T ij=mkE xU) (l:List ClR) (c:rq) (hc:l.length≤1000000∧okC c) :
  wp T mf_slices_IndexFunc_Claim.body (bG mf_slices_IndexFunc_Claim.res (.same (.int .i64 (lW (pdC c) l)))) ⟨az [.dat (.sl (l.map clL)),.dat (nr c)],emp⟩:=by
 refine aq ?_;simp only[mf_slices_IndexFunc_Claim];obtain⟨hl,hok⟩:=hc
 cases c with
 | right n =>
  have hn:0≤n∧n≤1000000:=hok;simp only[go_sem,go_sem_proc,afh,jd,eE,nr,afi];refine af [0,1,7] [] (fun (i:Nat) tm mem=>i≤l.length∧(∀ x∈l.take i,pdC (.right n) x=false)∧tm 8 = .dat (.int .i64 i)) (fun i=>l.length-i) 0 (by refine⟨afl _,by simp,rfl⟩) ?_;intro vs ms hvs hms;simp only[go_sem,go_sem_proc,afh,jd,eE,afi] at hvs hms;subst hvs hms;rintro i tm mem hk hm ⟨hi,hall,h8⟩;simp only[go_sem,go_sem_proc,afh,jd,eE,List.cons.injEq] at hk hm;obtain⟨h0,h1,h7⟩:=hk;rcases afm (i<l.length) with hlt | hge
  ·have hx:=afe hlt
   have hat:=fun h=>ll (p:=pdC (.right n)) hall hx h
   have hnx:=fun h=>eW (p:=pdC (.right n)) hall hx h
   generalize l[i]=x at *;obtain⟨a,b,k,z⟩:=x;have hlt':decide ((i:Int)<(l.length:Int))=true:=decide_eq_true (by omega);have hw:IntKind.i64.wrap ((i:Int)+1)=((i+1:Nat):Int):=by rw[al _ (by omega) (by omega)];omega
   rcases hb:pdC (.right n) (a,b,k,z)
   ·have hr:eZ n (a,b,k,z)=true:=by simpa [pdC,CU] using hb
    simp only[go_sem,go_sem_proc,afh,jd,eE,h0,h1,h7,h8,hx,hlt',hw,hr,hn,clL,afi,afj,afn]
    repeat' (first|refine qS ?_ ?_|fail)<;>intro h<;>simp only[h,go_sem,go_sem_proc,afh,jd,eE,h0,h1,h7,h8,hx,hlt',hw,hr,hn,clL,afi,afj,afn]
    exact⟨i+1,by omega,by omega,hnx hb,rfl⟩
   ·have hr:eZ n (a,b,k,z)=false:=by simpa [pdC,CU] using hb
    rw[hat hb];simp only[go_sem,go_sem_proc,afh,jd,eE,h0,h1,h7,h8,hx,hlt',hw,hr,hn,clL,afi,afj,afo]
    repeat' (first|refine qS ?_ ?_|fail)<;>intro h<;>simp only[h,go_sem,go_sem_proc,afh,jd,eE,h0,h1,h7,h8,hx,hlt',hw,hr,hn,clL,afi,afj,afo]
  ·have hlt':decide ((i:Int)<(l.length:Int))=false:=decide_eq_false (by omega)
   obtain rfl:i=l.length:=by omega
   rw[afp] at hall;rw[jv hall];simp only[go_sem,go_sem_proc,afh,jd,eE,h0,h1,h7,h8,hlt',afi]
   repeat' (first|refine qS ?_ ?_|fail)<;>intro h<;>simp only[h,go_sem,go_sem_proc,afh,jd,eE,h0,h1,h7,h8,hlt',afi]
 | day cash =>
  have hn:cash.length≤1000000:=by have h:(cash.length:Int)≤1000000:=hok.2;omega
  simp only[go_sem,go_sem_proc,afh,jd,eE,nr,afi];refine af [0,1,7] [] (fun (i:Nat) tm mem=>i≤l.length∧(∀ x∈l.take i,pdC (.day cash) x=false)∧tm 8 = .dat (.int .i64 i)) (fun i=>l.length-i) 0 (by refine⟨afl _,by simp,rfl⟩) ?_;intro vs ms hvs hms;simp only[go_sem,go_sem_proc,afh,jd,eE,afi] at hvs hms;subst hvs hms;rintro i tm mem hk hm ⟨hi,hall,h8⟩;simp only[go_sem,go_sem_proc,afh,jd,eE,List.cons.injEq] at hk hm;obtain⟨h0,h1,h7⟩:=hk;rcases afm (i<l.length) with hlt | hge
  ·have hx:=afe hlt
   have hat:=fun h=>ll (p:=pdC (.day cash)) hall hx h
   have hnx:=fun h=>eW (p:=pdC (.day cash)) hall hx h
   generalize l[i]=x at *;obtain⟨a,b,k,z⟩:=x;have hlt':decide ((i:Int)<(l.length:Int))=true:=decide_eq_true (by omega);have hw:IntKind.i64.wrap ((i:Int)+1)=((i+1:Nat):Int):=by rw[al _ (by omega) (by omega)];omega
   rcases hb:pdC (.day cash) (a,b,k,z)
   ·have hr:eZ cash.length (a,b,k,z)=true:=by simpa [pdC,CU] using hb
    simp only[go_sem,go_sem_proc,afh,jd,eE,h0,h1,h7,h8,hx,hlt',hw,hr,hn,clL,afi,afj,afn]
    repeat' (first|refine qS ?_ ?_|fail)<;>intro h<;>simp only[h,go_sem,go_sem_proc,afh,jd,eE,h0,h1,h7,h8,hx,hlt',hw,hr,hn,clL,afi,afj,afn]
    exact⟨i+1,by omega,by omega,hnx hb,rfl⟩
   ·have hr:eZ cash.length (a,b,k,z)=false:=by simpa [pdC,CU] using hb
    rw[hat hb];simp only[go_sem,go_sem_proc,afh,jd,eE,h0,h1,h7,h8,hx,hlt',hw,hr,hn,clL,afi,afj,afo]
    repeat' (first|refine qS ?_ ?_|fail)<;>intro h<;>simp only[h,go_sem,go_sem_proc,afh,jd,eE,h0,h1,h7,h8,hx,hlt',hw,hr,hn,clL,afi,afj,afo]
  ·have hlt':decide ((i:Int)<(l.length:Int))=false:=decide_eq_false (by omega)
   obtain rfl:i=l.length:=by omega
   rw[afp] at hall;rw[jv hall];simp only[go_sem,go_sem_proc,afh,jd,eE,h0,h1,h7,h8,hlt',afi]
   repeat' (first|refine qS ?_ ?_|fail)<;>intro h<;>simp only[h,go_sem,go_sem_proc,afh,jd,eE,h0,h1,h7,h8,hlt',afi]
noncomputable def o8:List Data→Option PRes:=FF (α:=(List ClR) × rq) (fun (l,c)=>([.sl (l.map clL),nr c]:List Data)) (fun (l,c)=>aI (l.length≤1000000∧okC c) (.same (.bool (l.any (pdC c)))))
theorem ue:∀ a b:(List ClR) × rq,(fun (l,c)=>([.sl (l.map clL),nr c]:List Data)) a=(fun (l,c)=>([.sl (l.map clL),nr c]:List Data)) b→a=b:=by
  rintro⟨l1,c1⟩ ⟨l2,c2⟩ h;simp only[List.cons.injEq,Data.sl.injEq,and_true] at h;exact afd (ah f7 _ _ h.1) (BR _ _ h.2)
@[go_sem] theorem vq (l:List ClR) (c:rq) (hc:l.length≤1000000∧okC c):o8 [.sl (l.map clL),nr c]=some (.same (.bool (l.any (pdC c)))):=(aZ ue (l,c)).trans (ap hc _)
theorem CG (T:Tab) (Gc:T eG=mkE rF) (l:List ClR) (c:rq) (hc:l.length≤1000000∧okC c) :
  wp T mf_slices_ContainsFunc_Claim.body (bG mf_slices_ContainsFunc_Claim.res (.same (.bool (l.any (pdC c))))) ⟨az [.dat (.sl (l.map clL)),.dat (nr c)],emp⟩:=by
 refine aq ?_;simp only[mf_slices_ContainsFunc_Claim];rw[←pW];refine qI ?_
 repeat' (intro h<;>simp only[h,go_sem,go_sem_proc,afh,Gc,hc]<;>try refine qS ?_ ?_)
theorem Ei {α:Type} (l:List α) (p:α→Bool):l.any (fun x => !p x) = !l.all p:=by
 induction l with
 | nil=>rfl
 | cons a l ih=>rw[List.any_cons,List.all_cons,ih];cases p a<;>rfl
noncomputable def pP:List Data→Option PRes:=FF (α:=(List Int) × (List ClR)) (fun (cash,cs)=>([.sl (cash.map aa),.sl (cs.map clL)]:List Data)) (fun (cash,cs)=>aI (cash.length≤1000000∧cs.length≤1000000) (.same (.bool (dh cash cs))))
theorem xF:∀ a b:(List Int) × (List ClR),(fun (cash,cs)=>([.sl (cash.map aa),.sl (cs.map clL)]:List Data)) a=(fun (cash,cs)=>([.sl (cash.map aa),.sl (cs.map clL)]:List Data)) b→a=b:=by
  rintro⟨cash1,cs1⟩ ⟨cash2,cs2⟩ h;simp only[List.cons.injEq,Data.sl.injEq,and_true] at h;exact afd (ah ak _ _ h.1) (ah f7 _ _ h.2)
@[go_sem] theorem Nq (cash:List Int) (cs:List ClR) (hc:cash.length≤1000000∧cs.length≤1000000):pP [.sl (cash.map aa),.sl (cs.map clL)]=some (.same (.bool (dh cash cs))):=(aZ xF (cash,cs)).trans (ap hc _)
theorem HM (T:Tab) (Hs:T ew=mkE s9) (Cb:T dQ=mkE o8) (cash:List Int) (cs:List ClR) (hc:cash.length≤1000000∧cs.length≤1000000) :
  wp T mf_clear_right.body (bG mf_clear_right.res (.same (.bool (dh cash cs)))) ⟨az [.dat (.sl (cash.map aa)),.dat (.sl (cs.map clL))],emp⟩:=by
 refine aq ?_;simp only[mf_clear_right];obtain⟨h1,h2⟩:=hc;rw[CS];have hA:=zV cash .right ⟨h1,trivial⟩;have hB:=vq cs (.right cash.length) ⟨h2,by show (0:Int)≤(cash.length:Int);omega,by show (cash.length:Int)≤1000000;omega⟩
 have e1:cash.any (pdI .right) = !cash.all dN:=Ei cash dN;have e2:cs.any (pdC (.right cash.length)) = !cs.all (eZ cash.length):=Ei cs _;rw[e1] at hA;rw[e2] at hB;simp only[nh] at hA;simp only[nr] at hB;have d1:decide (cash.length≤60)=decide ((cash.length:Int)≤60):=by rw[afr,decide_eq_true_iff,decide_eq_true_iff];omega
 have d2:decide (cs.length≤2000)=decide ((cs.length:Int)≤2000):=by rw[afr,decide_eq_true_iff,decide_eq_true_iff];omega
 rw[d1,d2];rcases q1:decide ((cash.length:Int)≤60)<;>rcases q2:decide ((cs.length:Int)≤2000)<;>rcases q3:cash.all dN<;>rcases q4:cs.all (eZ cash.length)
 all_goals rw[q3] at hA
 all_goals rw[q4] at hB
 all_goals
      refine qI ?_
      repeat' (intro h<;>simp only[h,go_sem,go_sem_proc,afh,Hs,Cb,hA,hB,q1,q2,afi,afn,afo,Bool.and_true,Bool.and_false,toD,qF,Option.bind_none,scalar]<;>try refine qS ?_ ?_)
set_option maxHeartbeats 4000000
structure DebA.Fine (a:DebA):Prop where
 sm:SmallD a.cash a.cs
 h10:∀ x∈a.fl,0≤x∧x≤10
theorem DebA.f_eq {a:DebA} {m:Mem} (h:a.At m) (hf:a.Fine) {i:Nat} (hi:i<a.cash.length):a.fl.getD i 10=(fOf a.fl i:Int)∧fOf a.fl i≤10:=by
 have hl:=h.fl
 have:a.fl.getD i 10∈a.fl:=by
  rw[aff,afe (by omega)];exact afq _
 have:=hf.h10 _ this;unfold fOf;omega
structure ShQ (x:DebA × Nat) (mem:Mem):Prop where
 at_:x.1.At mem
 no:NoK 255 mem
 fine:x.1.Fine
 lt:x.2<x.1.cash.length
 f10:fOf x.1.fl x.2<10
 S:0<(ab x.1.cash x.1.cs).S x.2 (fOf x.1.fl x.2)
noncomputable def shD (x:DebA × Nat):Data:=.tup [.sl ((bJ x.1.cash.length fun i=>(ab x.1.cash x.1.cs).W (fOf x.1.fl) x.2 i).map ae),.bool true]
noncomputable def oC:List MV→Mem→Option Data:=NN (fun (x:DebA × Nat) args mem=>args=[.ptr (228500+x.2) (x.1.gs.getD x.2 0) 0,.dat (.int .i64 x.1.cash.length)]∧ShQ x mem) shD
theorem xm (a:DebA) (k:Nat) (mem:Mem) (h:ShQ (a,k) mem):oC [.ptr (228500+k) (a.gs.getD k 0) 0,.dat (.int .i64 a.cash.length)] mem=some (shD (a,k)):=by
 refine I2 (a:=(a,k)) ?_ ⟨rfl,h⟩;rintro⟨a,i⟩ ⟨b,j⟩ args mem ⟨e1,e2⟩ ⟨e3,e4⟩;obtain rfl:=DebA.uniq e2.at_ e4.at_;rw[e1] at e3;simp only[List.cons.injEq,MV.ptr.injEq,MV.dat.injEq,Data.int.injEq,true_and,and_true] at e3;have h1:228500+i=228500+j:=e3.1;have:i=j:=by omega
 rw[this]
theorem Iy (N:Nat) (F:aM):(afs N (ae F)).flatten.map MV.dat=ay ae (afs N F):=by
 unfold ay;rw[aft,List.map_flatten,aft]
theorem F9 (T:Tab) (aF:T bf=mkE fk) (Gb:T fX=mkE rh) (r5:T iy=mkE zz) (bI:T dp=mkE lP) (a:DebA) (k:Nat) (mem:Mem) (h:ShQ (a,k) mem) :
  wp T mf_clear_debtor_shares.body (qU mf_clear_debtor_shares.res fun m mem'=>toD 6 emp m=some (shD (a,k))∧FrK 255 mem mem') ⟨az [.ptr (228500+k) (a.gs.getD k 0) 0,.dat (.int .i64 a.cash.length)],mem⟩:=by
 obtain⟨hat,hno,hfi,hk,hf10,hS⟩:=h;dsimp only at *;obtain⟨hs,h10⟩:=hfi;have hn:=hs.n5;have hb0:=hat.blk k hk;have hfe:=(DebA.f_eq hat ⟨hs,h10⟩ hk).1;have hok:=a.deb_ok k;have hlen:=jL hok;have qf:=z5 hok;rw[show (a.deb k).f=(fOf a.fl k:Int) from hfe] at qf;have qc:=JA (x:=a.deb k) (k:=fOf a.fl k) (l:=aX a.cs k (fOf a.fl k)) (cQ _ hf10);have qu:=sX hok (k:=fOf a.fl k) (z:=aP a.cs k (fOf a.fl k:Nat)) (cQ _ (by omega));have qu1:=sX hok (k:=fOf a.fl k+1) (z:=aP a.cs k (fOf a.fl k+1:Nat)) (cQ _ (by omega));have hbig:∀ j,228500+k≠255000+j:=fun j=>by omega
 generalize dH (a.deb k)=DC at *;have hcw:=eN 0 Bj;have hz:bJ a.cash.length (shP (ab a.cash a.cs) [])=afs a.cash.length (aj ((0:Int):Rat)):=(pL afu fun j hj=>by rw[List.getElem?_replicate,if_pos hj,Mv];rfl).symm;generalize hL:aX a.cs k (fOf a.fl k)=L at *;refine aq ?_;simp only[mf_clear_debtor_shares];have hKd:(228500+k) / 1000≠255:=by omega
 have h17:mem 255017=none:=hno 255017 (by decide);have hmem:=fun c (hc:c∈L)=>cell_mem.1 (hL ▸ hc:c∈aX a.cs k (fOf a.fl k))
 have hcw':=fun c (hc:c∈L)=>(yU hs hS (hL ▸ hc:c∈aX a.cs k (fOf a.fl k))).2.2
 have hszs:=fun l i (hl:∃ l',L=l++l')=>NO hs hS (l:=l) (by rw[hL];exact hl) i
 have hWe:=fun i=>Ok hs.right (fOf a.fl) k i
 rw[hL] at hWe
 have hL12:L.length≤12:=by
  have h1:=afv (fun c:ClR=>c.1==(k:Int)&&c.2.2.1==(fOf a.fl k:Int)) a.cs;have h2:=hs.c12;rw[←hL];unfold aX;omega
 have hSI:(0:Int)<SI a.cs k (fOf a.fl k):=by
  have h1:=yA hs.right k (fOf a.fl k);rw[←h1] at hS;have:(0:Int)<aP a.cs k (fOf a.fl k+1:Nat)-aP a.cs k (fOf a.fl k):=by exact_mod_cast hS
  exact this
 have hSI2:SI a.cs k (fOf a.fl k)=aP a.cs k (fOf a.fl k+1:Nat)-aP a.cs k (fOf a.fl k:Nat):=rfl;have hu1:=hs.upto k (fOf a.fl k+1:Nat);have hu0:=hs.upto k (fOf a.fl k:Nat);have hright:=(rightD_iff.1 hs.right).2.2.2;generalize hK:228500+k=KK at *;have hKK:∀ j,KK≠255000+j:=fun j=>by omega
 have n9:(KK=255009)=False:=eq_false (hKK 9);have n10:(KK=255010)=False:=eq_false (hKK 10);have n12:(KK=255012)=False:=eq_false (hKK 12);have n17:(KK=255017)=False:=eq_false (hKK 17);have b9:(KK==255009)=false:=beq_eq_false_iff_ne.2 (hKK 9);have b10:(KK==255010)=false:=beq_eq_false_iff_ne.2 (hKK 10);have b12:(KK==255012)=false:=beq_eq_false_iff_ne.2 (hKK 12);have b17:(KK==255017)=false:=beq_eq_false_iff_ne.2 (hKK 17);have d9:(255009==KK)=false:=beq_eq_false_iff_ne.2 (hKK 9).symm;have d10:(255010==KK)=false:=beq_eq_false_iff_ne.2 (hKK 10).symm;have d12:(255012==KK)=false:=beq_eq_false_iff_ne.2 (hKK 12).symm;have d17:(255017==KK)=false:=beq_eq_false_iff_ne.2 (hKK 17).symm;have l1:fOf a.fl k+1<11:=by omega
 have l2:fOf a.fl k<11:=by omega
 have l3:(1+fOf a.fl k+1≤24)=True:=eq_true (by omega);have l4:(11+fOf a.fl k+1≤24)=True:=eq_true (by omega);have l5:(11+(fOf a.fl k+1)+1≤24)=True:=eq_true (by omega);have wf:IntKind.i64.wrap ((fOf a.fl k:Int)+1)=((fOf a.fl k+1:Nat):Int):=by rw[al _ (by omega) (by omega)];omega
 have hb1:=hb0;generalize hU1:aP a.cs k (fOf a.fl k+1:Nat)=U1 at *;generalize hU0:aP a.cs k (fOf a.fl k:Nat)=U0 at *;generalize hF0:fOf a.fl k=F0 at *;generalize hZ:aj ((0:Int):Rat)=Z at *;obtain⟨⟨z1,z2⟩,⟨z3,z4⟩⟩:=Z;have hrp:=xZ z1 z2 z3 z4 a.cash.length (by omega);have hfold:=Iy a.cash.length ((z1,z2),(z3,z4));simp only[ae] at hcw hrp hfold;have hcl:=Ej L;simp only[go_sem,go_sem_proc,afh] at hcl;simp only[go_sem,go_sem_proc,afh,aF,hcw,Gb,hrp,hfold,hb0,hlen,hf10,qf,qc,n17,l3,h17,iC,afw,hcl,afu]
 refine af [0,6,26,27] [] (fun (j:Nat) tm m=>j≤L.length∧tm 28 = .dat (.int .i64 j)∧tm 7 = .dat (.bool true)∧m 255017=some (0,ay ae (bJ a.cash.length (shP (ab a.cash a.cs) (L.take j))))∧FrK 255 mem m) (fun j=>L.length-j) 0 (by
  refine⟨by omega,rfl,rfl,?_,(FrK.refl _ _).upd (by decide)⟩
  rw[afx,hz];simp [aB,h17,cR]) ?_
 intro vs ms hvs hms;simp only[go_sem,go_sem_proc,afh] at hvs hms;subst hvs hms;clear hcw hrp hfold hb0;rintro j tm m hk-⟨hj,e28,e7,m17,hfr⟩;simp only[go_sem,go_sem_proc,afh,List.cons.injEq] at hk;obtain⟨e0,e6,e26,e27⟩:=hk;have hb:=(hfr KK hKd).trans hb1;rcases afm (j<L.length) with hlt | hge
 ·have d1:decide ((j:Int)<(L.length:Int))=true:=decide_eq_true (by omega)
  have w3:IntKind.i64.wrap ((j:Int)+1)=((j+1:Nat):Int):=by rw[al _ (by omega) (by omega)];omega
  obtain⟨⟨c1,c2,c3,c4⟩,hx⟩:∃ c,L[j]?=some c:=⟨_,afe hlt⟩;have hxm:=afg hx;have hrc:=hright _ (hmem _ hxm).1;dsimp only at hrc;have hia:=EP hx;simp only[go_sem,go_sem_proc,afh] at hia;have htk:L.take (j+1)=L.take j++[(c1,c2,c3,c4)]:=by rw[afy,hx];rfl
  rcases q:decide (c2<0)
  ·have hc2:0≤c2:=by have:=of_decide_eq_false q;omega
   obtain⟨t,rfl⟩:∃ t:Nat,c2=(t:Int):=⟨c2.toNat,by omega⟩
   have hw:=hcw' _ hxm;dsimp only at hw;have hnew:=Jf (p:=c4) (q:=SI a.cs k F0) (dT (by omega) (by omega)) (dT (by omega) (by omega)) (by omega);rw[←hw] at hnew;have hof:=Hr c4 (SI a.cs k F0) ⟨dT (by omega) (by omega),dT (by omega) (by omega)⟩;rw[hnew] at hof;have z1:=hszs (L.take j) t ⟨L.drop j,(afz j L).symm⟩;have z2:=S3 hs (hmem _ hxm).1;have hadd:=yw (du z1 (by omega)) (du z2 (by omega)) (jO z1 z2 (by omega))
   have hvf:bJ a.cash.length (shP (ab a.cash a.cs) (L.take (j+1)))=(bJ a.cash.length (shP (ab a.cash a.cs) (L.take j))).set t (aj (shP (ab a.cash a.cs) (L.take j) t+(ab a.cash a.cs).w (bz (c1,(t:Int),c3,c4)))):=by
    rw[AT];refine jk fun i _=>?_
    rw[htk,El]
    by_cases hi:i=t
    ·rw[if_pos hi,if_pos (by dsimp only;omega),hi]
    ·rw[if_neg hi,if_neg (by dsimp only;omega),afA]
   have wSI:IntKind.i64.wrap (U1-U0)=SI a.cs k F0:=by rw[al _ (by omega) (by omega),hSI2]
   have hRl:(bJ a.cash.length (shP (ab a.cash a.cs) (L.take j))).length=a.cash.length:=cI _ _;have hRg:=dS (N:=a.cash.length) (shP (ab a.cash a.cs) (L.take j)) (k:=t) (by omega);clear z1 z2 hszs hcw' hnew hw;generalize aj (shP (ab a.cash a.cs) (L.take j) t+(ab a.cash a.cs).w (bz (c1,(t:Int),c3,c4)))=F1 at *;generalize aj (shP (ab a.cash a.cs) (L.take j) t)=F2 at *;generalize aj ((ab a.cash a.cs).w (bz (c1,(t:Int),c3,c4)))=F3 at *;generalize bJ a.cash.length (shP (ab a.cash a.cs) (L.take j))=R at *;obtain⟨⟨a1,a2⟩,⟨a3,a4⟩⟩:=F1;obtain⟨⟨f1,f2⟩,⟨f3,f4⟩⟩:=F2;obtain⟨⟨g1,g2⟩,⟨g3,g4⟩⟩:=F3;have t1:=Ai hRg;have t2:=zm (l:=R) (k:=t) (by omega);have t3:=L0 (l:=R) (k:=t) (by omega) a1 a2 a3 a4;have hlc:t<a.cash.length:=by omega
   simp only[ae,bB] at hof hadd;simp only[go_sem,go_sem_proc,afh,r5,bI,e0,e6,e7,e26,e27,e28,hb,m17,hia,hlen,qf,qu,qu1,wf,wSI,d1,w3,q,hof,hadd,t1,t2,t3,hlc,hf10,l1,l2,l3,l4,l5,n9,n10,n12,n17,b9,b10,b12,b17,d9,d10,d12,d17,clL,iC,afw,beq_self_eq_true]
   repeat' (first|refine qS ?_ ?_|fail)<;>intro h<;>simp only[h,go_sem,go_sem_proc,afh,r5,bI,e0,e6,e7,e26,e27,e28,hb,m17,hia,hlen,qf,qu,qu1,wf,wSI,d1,w3,q,hof,hadd,t1,t2,t3,hlc,hf10,l1,l2,l3,l4,l5,n9,n10,n12,n17,b9,b10,b12,b17,d9,d10,d12,d17,clL,iC,afw,beq_self_eq_true]
   refine⟨j+1,by omega,by omega,rfl,by rw[hvf],by repeat first | exact hfr | refine FrK.upd ?_ (by decide)⟩
  ·have hc2:c2<0:=of_decide_eq_true q
   have hvf:bJ a.cash.length (shP (ab a.cash a.cs) (L.take (j+1)))=bJ a.cash.length (shP (ab a.cash a.cs) (L.take j)):=jk fun i _=>by
    rw[htk,El,if_neg (by dsimp only;omega),afA]
   simp only[go_sem,go_sem_proc,afh,e0,e6,e7,e26,e27,e28,hb,m17,hia,d1,w3,q,clL,afw]
   repeat' (first|refine qS ?_ ?_|fail)<;>intro h<;>simp only[h,go_sem,go_sem_proc,afh,e0,e6,e7,e26,e27,e28,hb,m17,hia,d1,w3,q,clL,afw]
   refine⟨j+1,by omega,by omega,rfl,by rw[hvf],by repeat first | exact hfr | refine FrK.upd ?_ (by decide)⟩
 ·have d1:decide ((j:Int)<(L.length:Int))=false:=decide_eq_false (by omega)
  rw[afB (by omega)] at m17;have hvf:bJ a.cash.length (shP (ab a.cash a.cs) L)=bJ a.cash.length fun i=>(ab a.cash a.cs).W (fOf a.fl) k i:=jk fun i _=>hWe i
  rw[hvf] at m17;have hvl:(bJ a.cash.length fun i=>(ab a.cash a.cs).W (fOf a.fl) k i).length=a.cash.length:=cI _ _;have hfz:=fun (K:St→Prop) (st:St)=>cu (K:=K) (st:=st) cr 6 255017 0 (bJ a.cash.length fun i=>(ab a.cash a.cs).W (fOf a.fl) k i)
  rw[hvl] at hfz;simp only[go_sem,go_sem_proc,afh,e0,e6,e7,e26,e27,e28,hb,m17,d1,hfz]
  repeat' (first|refine qS ?_ ?_|fail)<;>intro h<;>simp only[h,go_sem,go_sem_proc,afh,e0,e6,e7,e26,e27,e28,hb,m17,d1,hfz]
  exact⟨_,rfl,rfl,by repeat first | exact hfr | refine FrK.upd ?_ (by decide) | refine FrK.kill ?_ (by decide)⟩
theorem rR (N:Nat) (x:Nat→Rat):bJ (N+1) x=bJ N x++[aj (x N)]:=by
 unfold bJ;rw[afC,afD,afD];rfl
theorem nn {l:List MV} {k:Nat} {y:MV} (h:l[k]?=some y):afE 1 (afF k l)=[y]:=by
 have:=BM (f:=id) h
 rwa [List.map_id] at this
def shL (n:Nat) (W:Nat→Nat→Rat) (k:Nat):List Data:=[.sl ((bJ n (W k)).map ae)]
theorem Q2 (T:Tab) (aF:T bf=mkE fk) (eH:T dY=mkE mI) {K:bP→St→Prop} {kk:List Todo} (mem0:Mem) (n:Nat) (hn:n≤60) (p:List Nat) (hp:p.length≤60) (W:Nat→Nat→Rat) (r i:Nat) (hi:i<n) (hW:∀ k,k<p.length→szR 30 (W (p.getD k 0) i)) (v0 v1 v10 v20 v21 v22:MV) (G gA:Nat) (c1 c2 c3 c4:MV) (x82:Option (Nat × List MV)) (tm:Nat→MV) (m:Mem)
  (e0:tm 0=v0) (e1:tm 1=v1) (e2:tm 2 = .dat (.sl (p.map gJ))) (e3:tm 3 = .dat (.sl (p.map (shL n W)))) (e10:tm 10=v10) (e11:tm 11 = .dat (.int .i64 r)) (e12:tm 12 = .dat (.int .i64 i)) (e13:tm 13 = .ptr 256013 G 0) (e20:tm 20=v20) (e21:tm 21=v21) (e22:tm 22=v22) (e50:tm 50 = .dat (.int .i64 p.length)) (e51:tm 51 = .dat (.int .i64 0)) (m13:m 256013=some (G,[.ref 256076 gA 4 0 0,c1,c2,c3,c4])) (mA:m 256076=some (gA,[])) (m82:m 256082=x82) (hfr:FrK 256 mem0 m)
  (hK:∀ tm' m' gA',tm' 0=v0→tm' 1=v1→tm' 2 = .dat (.sl (p.map gJ))→tm' 3 = .dat (.sl (p.map (shL n W)))→tm' 10=v10→tm' 13 = .ptr 256013 G 0→tm' 20=v20→tm' 21=v21→tm' 22=v22→m' 256013=some (G,[.ref 256076 gA' 4 0 p.length,c1,c2,c3,c4])→m' 256076=some (gA',ay ae (bJ p.length fun k=>(if r=k then 1 else 0)-W (p.getD k 0) i))→m' 256082=x82→FrK 256 mem0 m'→kont T K kk (.exit 2) ⟨tm',m'⟩) :
  wp T (mf_clear_solve.body.sub [1,1,0,1,0,0,0,1,1,0,0,1,1,0,1,0]) (kont T K kk) ⟨tm,m⟩:=by
 simp only[mf_clear_solve,MCode.sub];refine af [0,1,2,3,10,11,12,13,20,21,22,50] [256082] (fun ((k,g):Nat × Nat) tm m=>k≤p.length∧tm 51 = .dat (.int .i64 k)∧m 256013=some (G,[.ref 256076 g 4 0 k,c1,c2,c3,c4])∧m 256076=some (g,ay ae (bJ k fun k=>(if r=k then 1 else 0)-W (p.getD k 0) i))∧FrK 256 mem0 m) (fun (k,_)=>p.length-k) (0,gA) (by refine⟨by omega,e51,m13,mA,hfr⟩) ?_
 intro vs ms hvs hms;simp only[go_sem,go_sem_proc,afh,e0,e1,e2,e3,e10,e11,e12,e13,e20,e21,e22,e50,m82] at hvs hms;subst hvs hms;clear e0 e1 e2 e3 e10 e11 e12 e13 e20 e21 e22 e50 e51 m13 mA m82 hfr tm m;rintro⟨k,g⟩ tm m hk hm ⟨hkn,e51,m13,mA,hfr⟩;simp only[go_sem,go_sem_proc,afh,List.cons.injEq] at hk hm;obtain⟨e0,e1,e2,e3,e10,e11,e12,e13,e20,e21,e22,e50⟩:=hk;rcases afm (k<p.length) with hlt | hge
 ·have d1:decide ((k:Int)<(p.length:Int))=true:=decide_eq_true (by omega)
  have w3:IntKind.i64.wrap ((k:Int)+1)=((k+1:Nat):Int):=by rw[al _ (by omega) (by omega)];omega
  obtain⟨pk,hx⟩:∃ c,p[k]?=some c:=⟨_,afe hlt⟩;have hpk:p.getD k 0=pk:=by rw[aff,hx];rfl
  have hWk:=hW k hlt;have hvs:=rR k fun k=>(if r=k then 1 else 0)-W (p.getD k 0) i
  have hrl:(bJ k fun k=>(if r=k then 1 else 0)-W (p.getD k 0) i).length=k:=cI _ _;have hap:=fun (F:aM) cs hcs=>dw cr kv 256076 g 64 (bJ k fun k=>(if r=k then 1 else 0)-W (p.getD k 0) i) F (cs:=cs) hcs (by omega) (by omega)
  simp only[hrl] at hap;rw[hpk] at hWk hvs;have hg:=dS (W pk) hi;generalize bJ k (fun k=>(if r=k then 1 else 0)-W (p.getD k 0) i)=V at *;generalize hV2:bJ (k+1) (fun k=>(if r=k then 1 else 0)-W (p.getD k 0) i)=V2 at *;clear hK hW;have key:∀ o:Int,(o=0∨o=1)→(if r=k then (1:Rat) else 0)=(o:Rat)→True:=fun _ _ _=>trivial
  rcases q:((k:Int)==(r:Int))
  ·have hrk:¬ r=k:=by have:=ne_of_beq_false q;omega
   have hw:=eN 0 Bj;have hs:=xV (fM Bj) (du hWk (by omega)) (jO (lE (z:=0) (b:=1) (by decide)) (oK hWk) (by omega));rw[if_neg hrk,show (0:Rat)=((0:Int):Rat) from rfl] at hvs;generalize aj ((0:Int):Rat)=Z at *;generalize aj (W pk i)=E at *;generalize aj (((0:Int):Rat)-W pk i)=X at *;obtain⟨⟨z1,z2⟩,⟨z3,z4⟩⟩:=Z;obtain⟨⟨y1,y2⟩,⟨y3,y4⟩⟩:=E;obtain⟨⟨x1,x2⟩,⟨x3,x4⟩⟩:=X;have hap':=hap ((x1,x2),(x3,x4)) _ rfl;rw[←hvs] at hap';simp only[ae,afG,afH] at hap' hw hs;refine qI ?_
   repeat' (intro h<;>simp only[h,go_sem,go_sem_proc,afh,aF,eH,e0,e1,e2,e3,e10,e11,e12,e13,e20,e21,e22,e50,e51,m13,mA,hm,d1,w3,q,hx,shL,hg,hw,hs,hap',ae,afi,afj,bne,beq_self_eq_true,afn,afI]<;>try refine qS ?_ ?_)
   exact⟨(k+1,g+1),by dsimp only;omega,by dsimp only;omega,rfl,rfl,by rw[←hV2],by repeat first | exact hfr | refine FrK.upd ?_ (by decide)⟩
  ·have hrk:r=k:=by have:=eq_of_beq q;omega
   have hw:=eN 1 MY;have hs:=xV (fM MY) (du hWk (by omega)) (jO (lE (z:=1) (b:=1) (by decide)) (oK hWk) (by omega));rw[if_pos hrk,show (1:Rat)=((1:Int):Rat) from rfl] at hvs;generalize aj ((1:Int):Rat)=Z at *;generalize aj (W pk i)=E at *;generalize aj (((1:Int):Rat)-W pk i)=X at *;obtain⟨⟨z1,z2⟩,⟨z3,z4⟩⟩:=Z;obtain⟨⟨y1,y2⟩,⟨y3,y4⟩⟩:=E;obtain⟨⟨x1,x2⟩,⟨x3,x4⟩⟩:=X;have hap':=hap ((x1,x2),(x3,x4)) _ rfl;rw[←hvs] at hap';simp only[ae,afG,afH] at hap' hw hs;refine qI ?_
   repeat' (intro h<;>simp only[h,go_sem,go_sem_proc,afh,aF,eH,e0,e1,e2,e3,e10,e11,e12,e13,e20,e21,e22,e50,e51,m13,mA,hm,d1,w3,q,hx,shL,hg,hw,hs,hap',ae,afi,afj,bne,beq_self_eq_true,afn,afI]<;>try refine qS ?_ ?_)
   exact⟨(k+1,g+1),by dsimp only;omega,by dsimp only;omega,rfl,rfl,by rw[←hV2],by repeat first | exact hfr | refine FrK.upd ?_ (by decide)⟩
 ·have d1:decide ((k:Int)<(p.length:Int))=false:=decide_eq_false (by omega)
  obtain rfl:k=p.length:=by omega
  refine qI ?_
  repeat' (intro h<;>simp only[h,go_sem,go_sem_proc,afh,e0,e1,e2,e3,e10,e11,e12,e13,e20,e21,e22,e50,e51,d1]<;>try refine qS ?_ ?_)
  refine hK _ _ g ?_ ?_ ?_ ?_ ?_ ?_ ?_ ?_ ?_ m13 mA hm hfr<;>simp only[aW,afJ,if_false,e0,e1,e2,e3,e10,e13,e20,e21,e22]
structure SvQ (a:DebA) (mem:Mem):Prop where
 at_:a.At mem
 no:NoK 256 mem
 fine:a.Fine
 pay:PayG (ab a.cash a.cs) (fOf a.fl) (pOf a.P)
noncomputable def DebA.p (a:DebA):List Nat:=payers (pOf a.P) a.cash.length
noncomputable def svA (a:DebA):List MV:=[.ref 228023 a.g 1 0 a.cash.length,.dat (.sl ((fL a.cash.length fun i=>c8 a.cash a.cs (fOf a.fl) i).map aa)),.dat (.sl (a.p.map gJ)),.dat (.sl (a.p.map (shL a.cash.length fun k i=>(ab a.cash a.cs).W (fOf a.fl) k i)))]
noncomputable def DebA.xs (a:DebA):List aM:=bJ a.p.length fun k=>(ab a.cash a.cs).lst (fOf a.fl) (pOf a.P) (a.p.getD k 0)-(ab a.cash a.cs).U (a.p.getD k 0) (fOf a.fl (a.p.getD k 0))
noncomputable def svD (a:DebA):Data:=.tup [.sl (a.xs.map ae),.bool true]
noncomputable def p6:List MV→Mem→Option Data:=NN (fun (a:DebA) args mem=>args=svA a∧SvQ a mem) svD
theorem Bf (a:DebA) (mem:Mem) (h:SvQ a mem):p6 (svA a) mem=some (svD a):=by
 refine I2 (a:=a) ?_ ⟨rfl,h⟩;rintro a b args mem ⟨e1,e2⟩ ⟨e3,e4⟩;rw[DebA.uniq e2.at_ e4.at_]
theorem HL (T:Tab) (aF:T bf=mkE fk) (eH:T dY=mkE mI) (Cm:T jW=mkE pI) (a:DebA) (mem:Mem) (ha:SvQ a mem) :
  wp T mf_clear_solve.body (qU mf_clear_solve.res fun m mem'=>toD 6 emp m=some (svD a)∧FrK 256 mem mem') ⟨az (svA a),mem⟩:=by
 obtain⟨hat,hno,hfi,hpay⟩:=ha;have hfe:=fun i=>DebA.f_eq hat hfi (i:=i)
 obtain⟨hs,h10⟩:=hfi;have hn:=hs.n5;have hpm:=fun k=>gB (P:=pOf a.P) (n:=a.cash.length) (k:=k)
 have hsol:=AK hs hpay;have hsc:=mY hs hpay.S_pos (payers (pOf a.P) a.cash.length) fun k hk=>(gB hk).2
 have hWz:=fun k (hk:pOf a.P k) i=>(Ot hs hpay hk i).1
 have hp5:(payers (pOf a.P) a.cash.length).length≤5:=by
  unfold payers;exact afK (afv _ _) (by rw[afL];exact hn)
 have h82:mem 256082=none:=hno 256082 (by decide);unfold svA svD DebA.xs DebA.p;generalize hp:payers (pOf a.P) a.cash.length=p at *;generalize hA:(ab a.cash a.cs).smallM (fOf a.fl) p=A at *;generalize hSD:(fL a.cash.length fun i=>c8 a.cash a.cs (fOf a.fl) i).map aa=SD at *;have hSD':∀ i,i<a.cash.length→SD[i]?=some [.int .i64 (c8 a.cash a.cs (fOf a.fl) i)]:=fun i hi=>by rw[←hSD,afj,cQ _ hi];rfl
 refine aq ?_;simp only[mf_clear_solve];simp only[go_sem,go_sem_proc,afh,h82,afi];refine af [0,1,2,3,20,21] [] (fun ((r,g):Nat × Nat) tm m=>r≤p.length∧tm 22 = .dat (.int .i64 r)∧tm 10 = .ref 256082 g 5 0 r∧m 256082=some (g,ay fz ((dV p.length A).take r))∧FrK 256 mem m) (fun (r,_)=>p.length-r) (0,0) (by refine⟨by omega,rfl,rfl,rfl,(FrK.refl _ _).upd (by decide)⟩) ?_
 intro vs ms hvs hms;simp only[go_sem,go_sem_proc,afh,afi] at hvs hms;subst hvs hms;rintro⟨r,g⟩ tm m hk hm ⟨hrn,e22,e10,m82,hfr⟩;simp only[go_sem,go_sem_proc,afh,List.cons.injEq] at hk;obtain⟨e0,e1,e2,e3,e20,e21⟩:=hk;rcases afm (r<p.length) with hlt | hge
 ·have d1:decide ((r:Int)<(p.length:Int))=true:=decide_eq_true (by omega)
  have w3:IntKind.i64.wrap ((r:Int)+1)=((r+1:Nat):Int):=by rw[al _ (by omega) (by omega)];omega
  obtain⟨i,hx⟩:∃ c,p[r]?=some c:=⟨_,afe hlt⟩;have hpr:p.getD r 0=i:=by rw[aff,hx];rfl
  obtain⟨hi,hPi⟩:=hpm r hlt;rw[hpr] at hi hPi;obtain⟨hfi,hf10⟩:=hfe i hi;have hrow:=(hfr.at 228023 (by omega)).trans hat.row;have hblk:=(hfr.at (228500+i) (by omega)).trans (hat.blk i hi);have hri:=nn (cQ (fun i=>MV.ptr (228500+i) (a.gs.getD i 0) 0) hi);have hrl:(fL a.cash.length fun i=>MV.ptr (228500+i) (a.gs.getD i 0) 0).length=a.cash.length:=bT _ _;have hok:=a.deb_ok i;have hlen:=jL hok;have qf:=z5 hok;rw[show (a.deb i).f=(fOf a.fl i:Int) from hfi] at qf;have qu:=sX hok (k:=fOf a.fl i) (z:=aP a.cs i (fOf a.fl i:Nat)) (cQ _ (by omega));have hst:=hSD' i hi;have b1:=hs.steady (fOf a.fl) i;have b2:=hs.upto i (fOf a.fl i);have wS:IntKind.i64.wrap (c8 a.cash a.cs (fOf a.fl) i-aP a.cs i (fOf a.fl i:Nat))=c8 a.cash a.cs (fOf a.fl) i-aP a.cs i (fOf a.fl i:Nat):=by rw[al _ (by omega) (by omega)]
  have hw:=eN (c8 a.cash a.cs (fOf a.fl) i-aP a.cs i (fOf a.fl i:Nat)) (dT (by omega) (by omega))
  have hAr:A r p.length=((c8 a.cash a.cs (fOf a.fl) i-aP a.cs i (fOf a.fl i:Nat):Int):Rat):=by
   rw[←hA];unfold Day.smallM;rw[if_neg (by omega),hpr,←qY hs.right,←d7 hs.right,Rat.intCast_sub]
  have hAk:∀ k,k<p.length→A r k=(if r=k then 1 else 0)-(ab a.cash a.cs).W (fOf a.fl) (p.getD k 0) i:=fun k hk=>by
   rw[←hA];unfold Day.smallM;rw[if_pos hk,hpr]
  have l1:i+1≤a.cash.length:=by omega
  have l2:fOf a.fl i<11:=by omega
  have l3:(11+fOf a.fl i+1≤24)=True:=eq_true (by omega);rw[←hAr] at hw;generalize hKd:228500+i=KK at *;generalize dH (a.deb i)=DC at *;generalize (fL a.cash.length fun i=>MV.ptr (228500+i) (a.gs.getD i 0) 0)=RW at *;generalize c8 a.cash a.cs (fOf a.fl) i=S1 at *;generalize aP a.cs i (fOf a.fl i:Nat)=U1 at *;generalize fOf a.fl i=F0 at *;generalize hE:aj (A r p.length)=E at *;obtain⟨⟨y1,y2⟩,⟨y3,y4⟩⟩:=E;simp only[ae] at hw;have n13:(KK==256013)=false:=beq_eq_false_iff_ne.2 (by omega);have n13':(256013==KK)=false:=beq_eq_false_iff_ne.2 (by omega);have n13e:(KK=256013)=False:=eq_false (by omega);simp only[go_sem,go_sem_proc,afh,aF,e0,e1,e2,e3,e10,e20,e21,e22,hrow,hblk,hri,hrl,hlen,qf,qu,hst,wS,hw,hx,d1,w3,hi,l1,l2,l3,n13,n13',n13e,iC,gJ,afw,afi,afj];refine ve (kc:=256013) (g:=cR (m 256013)) (off:=0) (cs:=[.nil,.dat (.int .i64 y1),.dat (.sl (y2.map aa)),.dat (.int .i64 y3),.dat (.sl (y4.map aa))]) ?_ ?_ rfl (by decide) ?_
  ·simp only[go_sem,go_sem_proc,afh]
  ·simp [aB]
  simp only[go_sem,go_sem_proc,afh,e2,afi,afI];refine Q2 T aF eH mem a.cash.length (by omega) p (by omega) (fun k i=>(ab a.cash a.cs).W (fOf a.fl) k i) r i hi (fun k hk=>hWz _ (hpm k hk).2 i) (.ref 228023 a.g 1 0 a.cash.length) (.dat (.sl SD)) (.ref 256082 g 5 0 r) (.dat (.sl (p.map gJ))) (.dat (.int .i64 p.length)) (.dat (.int .i64 r)) (cR (m 256013)) (cR (m 256076)) (.dat (.int .i64 y1)) (.dat (.sl (y2.map aa))) (.dat (.int .i64 y3)) (.dat (.sl (y4.map aa))) (some (g,ay fz ((dV p.length A).take r))) _ _ ?_ ?_ ?_ ?_ ?_ ?_ ?_ ?_ ?_ ?_ ?_ ?_ ?_ ?_ ?_ ?_ ?_ ?_
  ·simp only[aW,afJ,if_false];exact e0
  ·simp only[aW,afJ,if_false];exact e1
  ·simp only[aW,afJ,if_false];exact e2
  ·simp only[aW,afJ,if_false];exact e3
  ·simp only[aW,afJ,if_false];exact e10
  ·simp only[aW,afJ,if_false,if_true]
  ·simp only[aW,afJ,if_false,if_true]
  ·simp only[aW,afJ,if_false,if_true]
  ·simp only[aW,afJ,if_false];exact e20
  ·simp only[aW,afJ,if_false];exact e21
  ·simp only[aW,afJ,if_false];exact e22
  ·simp only[aW,afJ,if_false,if_true]
  ·simp only[aW,afJ,if_false,if_true]
  ·simp [aB]
  ·simp [aB]
  ·simp only[aB,afJ,if_false];exact m82
  ·repeat first | exact hfr | refine FrK.upd ?_ (by decide)
  intro tm m2 gA k0 k1 k2 k3 k10 k13 k20 k21 k22 q13 qA q82 hfr2;have hvA:(bJ p.length fun k=>(if r=k then 1 else 0)-(ab a.cash a.cs).W (fOf a.fl) (p.getD k 0) i)=bJ p.length (A r):=jk fun k hk=>(hAk k hk).symm
  rw[hvA] at qA;clear e0 e1 e2 e3 e10 e20 e21 e22 m82 hrow hblk hri hfr;have hap:=fun cs hcs=>dw zJ FX 256082 g 88 ((dV p.length A).take r) (bJ p.length (A r),aj (A r p.length)) (cs:=cs) hcs
  have htl:((dV p.length A).take r).length=r:=by rw[List.length_take,fc];omega
  have htk:(dV p.length A).take r++[(bJ p.length (A r),aj (A r p.length))]=(dV p.length A).take (r+1):=by
   rw[afy,tA A hlt];rfl
  rw[htl,htk,hE] at hap;have hvl:(bJ p.length (A r)).length=p.length:=cI _ _;generalize bJ p.length (A r)=V at *;have hap':=hap _ rfl (by omega) (by omega);simp only[ae,fz,afG,afH] at hap';simp only[go_sem,go_sem_proc,afh];refine tk (kc:=256013) (gc:=cR (m 256013)) (off:=0) (cc:=[.ref 256076 gA 4 0 p.length,.dat (.int .i64 y1),.dat (.sl (y2.map aa)),.dat (.int .i64 y3),.dat (.sl (y4.map aa))]) (k:=256076) (g:=gA) (sz:=4) (o:=0) (len:=p.length) (cs:=ay ae V) (d:=.sl (V.map ae)) ?_ q13 rfl qA (uv _ _) (by decide) ?_ ?_
  ·exact k13
  ·have:=eS (n:=0) cr qA
   rw[hvl] at this;exact this
  refine qI ?_
  repeat' (intro h<;>simp only[h,go_sem,go_sem_proc,afh,k0,k1,k2,k3,k10,k13,k20,k21,k22,q82,hap',w3,afI]<;>try refine qS ?_ ?_)
  exact⟨(r+1,g+1),by dsimp only;omega,by dsimp only;omega,rfl,rfl,rfl,by repeat first | exact hfr2 | refine FrK.upd ?_ (by decide)⟩
 ·have d1:decide ((r:Int)<(p.length:Int))=false:=decide_eq_false (by omega)
  have hrn:r=p.length:=by omega
  have hlen:=fc p.length A;rw[afB (by rw[hlen];omega)] at m82;obtain⟨b1,b2⟩:=hsol;have hlim:it (dV p.length A):=Gh (by omega) fun i hi k hk=>du (hsc.sz (by omega) hi hk) (by omega)
  have hF:=vB (dV p.length A) p.length hlim;rw[b1] at hF;dsimp only at hF;have hfz:=fun (K:St→Prop) (st:St)=>cu (K:=K) (st:=st) zJ 10 256082 g (dV p.length A)
  rw[hlen] at hfz;subst hrn;refine qI ?_
  repeat' (intro h<;>simp only[h,go_sem,go_sem_proc,afh,Cm,e0,e1,e2,e3,e10,e20,e21,e22,m82,d1,hfz,hF,afi,bne,beq_self_eq_true,afn]<;>try refine qS ?_ ?_)
  exact⟨_,rfl,rfl,by repeat first | exact hfr | refine FrK.upd ?_ (by decide) | refine FrK.kill ?_ (by decide)⟩
end Go.Mini
namespace Go.Mini
open Classical
def qW (cs:List ClR) (f:Nat→Nat) (n:Nat):List ClR:=(afM n).flatMap fun i=>(afM (f i)).flatMap fun k=>aX cs i k
theorem Jg (F:Nat→List ClR) (r n:Nat) (h:r≤n):((afM n).flatMap fun k=>if k<r then F k else [])=(afM r).flatMap F:=by
 induction n with
 | zero=>rw[show r=0 by omega];rfl
 | succ n ih =>
  rw[afC,afN,afO,afP,afQ]
  by_cases hr:r=n+1
  ·subst hr
   rw[if_pos (by omega),afC,afN,afO,afP,afQ]
   congr 1
   rw[afR,afR]
   congr 1
   exact afS fun k hk=>if_pos (by have:=List.mem_range.1 hk;omega)
  ·rw[if_neg (by omega),afQ]
   exact ih (by omega)
theorem sq {α:Type} (l:List α) (F:α→List ClR) (p:ClR→Bool):(l.flatMap F).filter p=l.flatMap fun x=>(F x).filter p:=by
 induction l with
 | nil=>rfl
 | cons a l ih=>rw[afO,afO,afT,ih]
theorem CM {cs:List ClR} {f:Nat→Nat} {n:Nat} (hf:∀ i,i<n→f i≤10):qW cs f n=(aG n cs).filter fun c=>decide (c.2.2.1<(f c.1.toNat:Int)):=by
 unfold qW aG;rw[sq,afR,afR]
 congr 1
 refine afS fun i hi=>?_
 rw[sq,←Jg (fun k=>aX cs i k) (f i) 10 (hf i (List.mem_range.1 hi)),afR,afR]
 congr 1
 refine afS fun k _=>?_
 by_cases h:k<f i
 ·rw[if_pos h]
  refine (List.filter_eq_self.2 fun c hc=>?_).symm;obtain⟨-,h1,h2⟩:=cell_mem.1 hc;rw[h1,h2,afU];exact decide_eq_true (by omega)
 ·rw[if_neg h]
  refine (List.filter_eq_nil_iff.2 fun c hc=>?_).symm;obtain⟨-,h1,h2⟩:=cell_mem.1 hc;rw[h1,h2,afU,decide_eq_true_eq];omega
theorem A4 (cs:List ClR) (p:ClR→Prop) [DecidablePred p] (F:ClR→Int):bt (cs.filter fun c=>decide (p c)) F=bt cs fun c=>if p c then F c else 0:=by
 induction cs with
 | nil=>rfl
 | cons c l ih =>
  by_cases h:p c
  ·rw[afV (by simpa using h)]
   simp only[bt,ih,if_pos h]
  ·rw[afW (by simpa using h),ih]
   simp only[bt,if_neg h];omega
def toI (j:Nat) (c:ClR):Int:=if c.2.1=(j:Int) then c.2.2.2 else 0
theorem uL {cash:List Int} {cs:List ClR} {f:Nat→Nat} (hcan:cs=aG cash.length cs) (hf:∀ i,i<cash.length→f i≤10) (j:Nat):c8 cash cs f j=cash.getD j 0+bt (qW cs f cash.length) (toI j):=by
 rw[CM hf,←hcan,A4 cs (fun c=>c.2.2.1<(f c.1.toNat:Int))];unfold c8
 congr 1
 refine jl fun c _=>?_
 unfold toI
 by_cases h1:c.2.1=(j:Int)
 ·by_cases h2:c.2.2.1<(f c.1.toNat:Int)
  ·rw[if_pos ⟨h1,h2⟩,if_pos h2,if_pos h1]
  ·rw[if_neg fun h=>h2 h.2,if_neg h2]
 ·rw[if_neg fun h=>h1 h.1,if_neg h1]
  split<;>rfl
theorem K3 {cs:List ClR} {f:Nat→Nat} {n:Nat} {c:ClR} (h:c∈qW cs f n):c∈cs:=by
 unfold qW at h;simp only[List.mem_flatMap] at h;obtain⟨i,-,k,-,hc⟩:=h;exact (cell_mem.1 hc).1
def jc (cs:List ClR) (f:Nat→Nat) (i k t:Nat):List ClR:=qW cs f i++(((afM k).flatMap fun k=>aX cs i k)++(aX cs i k).take t)
theorem Hc (cs:List ClR) (f:Nat→Nat):jc cs f 0 0 0=[]:=rfl
theorem I0 (cs:List ClR) (f:Nat→Nat) (i k:Nat):jc cs f i k (aX cs i k).length=jc cs f i (k+1) 0:=by
 unfold jc;rw[afp,afx,afQ,afC,afN,afO,afP,afQ]
theorem JU (cs:List ClR) (f:Nat→Nat) (i:Nat):jc cs f i (f i) 0=jc cs f (i+1) 0 0:=by
 unfold jc qW;rw[afx,afx,afQ,afC,afN,afO,afP,afQ];simp
theorem E3 (cs:List ClR) (f:Nat→Nat) (n:Nat):jc cs f n 0 0=qW cs f n:=by
 unfold jc;simp
theorem wq (cs:List ClR) (f:Nat→Nat) {n i k t:Nat} (hi:i<n) (hk:k<f i):∃ l,qW cs f n=jc cs f i k t++l:=by
 have hn:∃ m,n=i+1+m:=⟨n-(i+1),by omega⟩
 obtain⟨m,rfl⟩:=hn;have hf:∃ r,f i=k+1+r:=⟨f i-(k+1),by omega⟩
 obtain⟨r,hr⟩:=hf;have hra:∀ (a b:Nat) (F:Nat→List ClR),(afM (a+b)).flatMap F=(afM a).flatMap F++((afM b).map (a+·)).flatMap F:=fun a b F=>by rw[afX,afN]
 unfold qW jc;rw[hra,afC,afN,afO,afP,afQ,hr,hra,afC,afN,afO,afP,afQ];refine⟨(aX cs i k).drop t++(((afM r).map (k+1+·)).flatMap (fun k=>aX cs i k)++((afM m).map (i+1+·)).flatMap fun i=>(afM (f i)).flatMap fun k=>aX cs i k),?_⟩;unfold qW;simp only[afY]
 congr 1
 congr 1
 rw[←afY ((aX cs i k).take t),afz]
theorem w7 {cash:List Int} {cs:List ClR} (h:SmallD cash cs) {f:Nat→Nat} (hcan:cs=aG cash.length cs) (hf:∀ i,i<cash.length→f i≤10) (j:Nat) {l l':List ClR} (hl:qW cs f cash.length=l++l'):0≤bt l (toI j)∧bt l (toI j)≤1000000536870912:=by
 have hnn:∀ m:List ClR,(∀ c∈m,c∈cs)→0≤bt m (toI j):=by
  intro m
  induction m with
  | nil=>intro _;exact Int.le_refl _
  | cons c m ih =>
   intro hm;have h1:=ih fun y hy=>hm y (List.mem_cons_of_mem _ hy)
   have h2:=((rightD_iff.1 h.right).2.2.2 c (hm c List.mem_cons_self)).2.2.2.2.2.2.1;simp only[bt,toI] at *
   split<;>omega
 have hm:∀ c∈l++l',c∈cs:=fun c hc=>K3 (by rw[hl];exact hc)
 have h1:=hnn l fun c hc=>hm c (by simp [hc])
 have h2:=hnn l' fun c hc=>hm c (by simp [hc])
 have h3:=uL hcan hf j;rw[hl,jJ] at h3;have h4:=h.steady f j;have h5:=h.cash j;omega
end Go.Mini
namespace Go.Mini
open Go
set_option maxRecDepth 10000
set_option maxHeartbeats 4000000
theorem iset {n c:Nat} (hc:c<n) (q:Nat→Int) (v:Int):afE c (afZ iC (fL n q))++[MV.dat (.int .i64 v)]++afF (c+1) (afZ iC (fL n q))=afZ iC (fL n fun j=>if j=c then v else q j):=by
 rw[←nk,List.map_set,List.set_eq_take_append_cons_drop,if_pos (by rw[afi,bT];exact hc)];simp [iC]
theorem iget {n c:Nat} (hc:c<n) (q:Nat→Int):afE 1 (afF c (afZ iC (fL n q)))=[.dat (.int .i64 (q c))]:=BM (f:=iC) (cQ q hc)
theorem ilen (n:Nat) (q:Nat→Int):(afZ iC (fL n q)).length=n:=by rw[afi,bT]
theorem qD (l:List ClR) (c:ClR) (F:ClR→Int):bt (l++[c]) F=bt l F+F c:=by
 rw[jJ];simp [bt]
theorem RT (T:Tab) {K:bP→St→Prop} {kk:List Todo} (mem0:Mem) (n:Nat) (hn:n≤60) (L:List ClR) (B:Nat→Int) (hB:∀ t j,0≤B j+bt (L.take t) (toI j)∧B j+bt (L.take t) (toI j)≤4000000000000000000) (hL:∀ c∈L,c.2.1<n ∧ -1≤c.2.1) (hLl:L.length≤2000) (v0 v4 v6 v7 v8 v9 v30 v31 v32 v50 v51:MV) (G:Nat) (x94 x98:Option (Nat × List MV)) (tm:Nat→MV) (m:Mem)
  (e0:tm 0=v0) (e4:tm 4=v4) (e5:tm 5 = .ref 248029 G 1 0 n) (e6:tm 6=v6) (e7:tm 7=v7) (e8:tm 8=v8) (e9:tm 9=v9) (e30:tm 30=v30) (e31:tm 31=v31) (e32:tm 32=v32) (e50:tm 50=v50) (e51:tm 51=v51) (e59:tm 59=clM L) (e60:tm 60 = .dat (.int .i64 L.length)) (e61:tm 61 = .dat (.int .i64 0))
  (m29:m 248029=some (G,(fL n B).map iC)) (m94:m 248094=x94) (m98:m 248098=x98) (hfr:FrK 248 mem0 m)
  (hK:∀ tm' m',tm' 0=v0→tm' 4=v4→tm' 5 = .ref 248029 G 1 0 n→tm' 6=v6→tm' 7=v7→tm' 8=v8→tm' 9=v9→tm' 30=v30→tm' 31=v31→tm' 32=v32→tm' 50=v50→tm' 51=v51→m' 248029=some (G,(fL n fun j=>B j+bt L (toI j)).map iC)→m' 248094=x94→m' 248098=x98→FrK 248 mem0 m'→kont T K kk (.exit 4) ⟨tm',m'⟩) :
  wp T (mf_clear_list.body.sub [1,1,1,1,1,0,1,0,0,0,0,1,1,0,0,1,1,0,1,0,0,1,1,0,0,1,1,0]) (kont T K kk) ⟨tm,m⟩:=by
 simp only[mf_clear_list,MCode.sub]
 refine af [0,4,5,6,7,8,9,30,31,32,50,51,59,60] [248094,248098] (fun (t:Nat) tm m=>t≤L.length∧tm 61 = .dat (.int .i64 t)∧m 248029=some (G,(fL n fun j=>B j+bt (L.take t) (toI j)).map iC)∧FrK 248 mem0 m) (fun t=>L.length-t) 0 (by
  refine⟨by omega,e61,?_,hfr⟩
  rw[m29]
  congr 3
  exact bY fun j _=>by rw[afx];simp [bt]) ?_
 intro vs ms hvs hms;simp only[go_sem,go_sem_proc,afh,e0,e4,e5,e6,e7,e8,e9,e30,e31,e32,e50,e51,e59,e60,m94,m98] at hvs hms;subst hvs hms;clear e0 e4 e5 e6 e7 e8 e9 e30 e31 e32 e50 e51 e59 e60 e61 m29 m94 m98 hfr tm m;rintro t tm m hk hm ⟨htn,e61,m29,hfr⟩;simp only[go_sem,go_sem_proc,afh,List.cons.injEq] at hk hm;obtain⟨e0,e4,e5,e6,e7,e8,e9,e30,e31,e32,e50,e51,e59,e60⟩:=hk;obtain⟨m94,m98⟩:=hm;rcases afm (t<L.length) with hlt | hge
 ·have d1:decide ((t:Int)<(L.length:Int))=true:=decide_eq_true (by omega)
  have w3:IntKind.i64.wrap ((t:Int)+1)=((t+1:Nat):Int):=by rw[al _ (by omega) (by omega)];omega
  obtain⟨⟨c1,c2,c3,c4⟩,hx⟩:∃ c,L[t]?=some c:=⟨_,afe hlt⟩;have hrc:=hL _ (afg hx);dsimp only at hrc;have hia:=EP hx;simp only[go_sem,go_sem_proc,afh] at hia;have htk:L.take (t+1)=L.take t++[(c1,c2,c3,c4)]:=by rw[afy,hx];rfl
  rcases q:decide (c2≥0)
  ·have hc2:c2<0:=by have:=of_decide_eq_false q;omega
   have hvf:(fL n fun j=>B j+bt (L.take (t+1)) (toI j))=fL n fun j=>B j+bt (L.take t) (toI j):=bY fun j _=>by
    rw[htk,qD];unfold toI;rw[if_neg (by dsimp only;omega)];omega
   refine qI ?_
   repeat' (intro h<;>simp only[h,go_sem,go_sem_proc,afh,e0,e4,e5,e6,e7,e8,e9,e30,e31,e32,e50,e51,e59,e60,e61,m29,m94,m98,hia,d1,w3,q,clL,afw]<;>try refine qS ?_ ?_)
   refine⟨t+1,by omega,by omega,rfl,by rw[hvf],by repeat first | exact hfr | refine FrK.upd ?_ (by decide)⟩
  ·have hc2:0≤c2:=of_decide_eq_true q
   obtain⟨i,rfl⟩:∃ t:Nat,c2=(t:Int):=⟨c2.toNat,by omega⟩
   have hin:i<n:=by omega
   have hb1:=hB t i;have hb2:=hB (t+1) i;rw[htk,qD] at hb2;have hto:toI i (c1,(i:Int),c3,c4)=c4:=by unfold toI;rw[if_pos rfl]
   rw[hto] at hb2;have wA:IntKind.i64.wrap (B i+bt (L.take t) (toI i)+c4)=B i+bt (L.take t) (toI i)+c4:=by rw[al _ (by omega) (by omega)]
   have hvf:(fL n fun j=>B j+bt (L.take (t+1)) (toI j))=fL n fun j=>if j=i then B i+bt (L.take t) (toI i)+c4 else B j+bt (L.take t) (toI j):=bY fun j _=>by
    rw[htk,qD]
    by_cases hj:j=i
    ·rw[if_pos hj,hj,hto];omega
    ·rw[if_neg hj]
     have:toI j (c1,(i:Int),c3,c4)=0:=by unfold toI;rw[if_neg (by dsimp only;omega)]
     rw[this];omega
   have t1:=iget hin fun j=>B j+bt (L.take t) (toI j)
   have t2:=ilen n fun j=>B j+bt (L.take t) (toI j)
   have t3:=iset hin (fun j=>B j+bt (L.take t) (toI j)) (B i+bt (L.take t) (toI i)+c4);rw[←hvf] at t3;have l1:i+1≤n:=by omega
   generalize hv:(fL n fun j=>B j+bt (L.take t) (toI j)).map iC=R at *;generalize hv2:(fL n fun j=>B j+bt (L.take (t+1)) (toI j)).map iC=R2 at *;generalize B i+bt (L.take t) (toI i)=S1 at *;refine qI ?_
   repeat' (intro h<;>simp only[h,go_sem,go_sem_proc,afh,e0,e4,e5,e6,e7,e8,e9,e30,e31,e32,e50,e51,e59,e60,e61,m29,m94,m98,hia,d1,w3,q,wA,t1,t2,t3,hin,l1,clL,afw]<;>try refine qS ?_ ?_)
   refine⟨t+1,by omega,by omega,rfl,by rw[hv2],by repeat first | exact hfr | refine FrK.upd ?_ (by decide)⟩
 ·have d1:decide ((t:Int)<(L.length:Int))=false:=decide_eq_false (by omega)
  rw[afB (by omega)] at m29;refine qI ?_
  repeat' (intro h<;>simp only[h,go_sem,go_sem_proc,afh,e0,e4,e5,e6,e7,e8,e9,e30,e31,e32,e50,e51,e59,e60,e61,d1]<;>try refine qS ?_ ?_)
  refine hK _ _ ?_ ?_ ?_ ?_ ?_ ?_ ?_ ?_ ?_ ?_ ?_ ?_ m29 m94 m98 hfr<;>simp only[aW,afJ,if_false,e0,e4,e5,e6,e7,e8,e9,e30,e31,e32,e50,e51]
theorem Br (cs:List ClR) (f:Nat→Nat) (i k t:Nat):jc cs f i k t=jc cs f i k 0++(aX cs i k).take t:=by
 unfold jc;simp
theorem Qd (T:Tab) {K:bP→St→Prop} {kk:List Todo} (mem0:Mem) (cash:List Int) (cs:List ClR) (f:Nat→Nat) (hs:SmallD cash cs) (hcan:cs=aG cash.length cs) (hf:∀ i,i<cash.length→f i≤10) (i:Nat) (hi:i<cash.length) (x:DebR) (hx:x.OK) (hcl:∀ k,k<10→x.cl[k]?=some (aX cs i k)) (B:Nat→Int) (hB:∀ j,0≤B j∧B j≤1000000000000000) (KK g:Nat) (hKd:KK / 1000≠248) (hm0:mem0 KK=some (g,dH x)) (v0 v4 v6 v7 v8 v30 v31 v32:MV) (G:Nat) (x94 x98:Option (Nat × List MV)) (tm:Nat→MV) (m:Mem)
  (e0:tm 0=v0) (e4:tm 4=v4) (e5:tm 5 = .ref 248029 G 1 0 cash.length) (e6:tm 6=v6) (e7:tm 7=v7) (e8:tm 8=v8) (e9:tm 9 = .ptr KK g 0) (e30:tm 30=v30) (e31:tm 31=v31) (e32:tm 32=v32) (e50:tm 50 = .dat (.int .i64 (f i))) (e51:tm 51 = .dat (.int .i64 0))
  (m29:m 248029=some (G,(fL cash.length fun j=>B j+bt (jc cs f i 0 0) (toI j)).map iC)) (m94:m 248094=x94) (m98:m 248098=x98) (hfr:FrK 248 mem0 m)
  (hK:∀ tm' m',tm' 0=v0→tm' 4=v4→tm' 5 = .ref 248029 G 1 0 cash.length→tm' 6=v6→tm' 7=v7→tm' 8=v8→tm' 9 = .ptr KK g 0→tm' 30=v30→tm' 31=v31→tm' 32=v32→m' 248029=some (G,(fL cash.length fun j=>B j+bt (jc cs f (i+1) 0 0) (toI j)).map iC)→m' 248094=x94→m' 248098=x98→FrK 248 mem0 m'→kont T K kk (.exit 2) ⟨tm',m'⟩) :
  wp T (mf_clear_list.body.sub [1,1,1,1,1,0,1,0,0,0,0,1,1,0,0,1,1,0,1,0]) (kont T K kk) ⟨tm,m⟩:=by
 simp only[mf_clear_list,MCode.sub];have hfi:=hf i hi;have hn:=hs.n5;refine af [0,4,5,6,7,8,9,30,31,32,50] [248094,248098] (fun (k:Nat) tm m=>k≤f i∧tm 51 = .dat (.int .i64 k)∧m 248029=some (G,(fL cash.length fun j=>B j+bt (jc cs f i k 0) (toI j)).map iC)∧FrK 248 mem0 m) (fun k=>f i-k) 0 (by refine⟨by omega,e51,m29,hfr⟩) ?_
 intro vs ms hvs hms;simp only[go_sem,go_sem_proc,afh,e0,e4,e5,e6,e7,e8,e9,e30,e31,e32,e50,m94,m98] at hvs hms;subst hvs hms;clear e0 e4 e5 e6 e7 e8 e9 e30 e31 e32 e50 e51 m29 m94 m98 hfr tm m;rintro k tm m hk hm ⟨hkn,e51,m29,hfr⟩;simp only[go_sem,go_sem_proc,afh,List.cons.injEq] at hk hm;obtain⟨e0,e4,e5,e6,e7,e8,e9,e30,e31,e32,e50⟩:=hk;obtain⟨m94,m98⟩:=hm;rcases afm (k<f i) with hlt | hge
 ·have d1:decide ((k:Int)<(f i:Int))=true:=decide_eq_true (by omega)
  have w3:IntKind.i64.wrap ((k:Int)+1)=((k+1:Nat):Int):=by rw[al _ (by omega) (by omega)];omega
  have hb:=(hfr KK hKd).trans hm0;have hlen:=jL hx;have qc:=JA (x:=x) (k:=k) (l:=aX cs i k) (hcl k (by omega));have l1:k<10:=by omega
  have l3:(1+k+1≤24)=True:=eq_true (by omega);have hcln:=Ej (aX cs i k);simp only[go_sem,go_sem_proc,afh] at hcln;generalize dH x=DC at *;simp only[go_sem,go_sem_proc,afh,e0,e4,e5,e6,e7,e8,e9,e30,e31,e32,e50,e51,hb,hlen,qc,d1,l1,l3,hcln,afw];refine RT T mem0 cash.length (by omega) (aX cs i k) (fun j=>B j+bt (jc cs f i k 0) (toI j)) (fun t j=>?_) (fun c hc=>?_) ?_ v0 v4 v6 v7 v8 (.ptr KK g 0) v30 v31 v32 (.dat (.int .i64 (f i))) (.dat (.int .i64 k)) G x94 x98 _ _ ?_ ?_ ?_ ?_ ?_ ?_ ?_ ?_ ?_ ?_ ?_ ?_ ?_ ?_ ?_ m29 m94 m98 hfr ?_
  ·obtain⟨l,hl⟩:=wq cs f (n:=cash.length) (t:=t) hi hlt
   have h1:=w7 hs hcan hf j hl;rw[Br,jJ] at h1;have h2:=hB j;omega
  ·have:=(rightD_iff.1 hs.right).2.2.2 c (cell_mem.1 hc).1
   omega
  ·have h1:=afv (fun c:ClR=>c.1==(i:Int)&&c.2.2.1==(k:Int)) cs
   have h2:=hs.c12;unfold aX;omega
  all_goals first | (intro tm' m' k0 k4 k5 k6 k7 k8 k9 k30 k31 k32 k50 k51 q29 q94 q98 hfr') | (simp only[aW,afJ,if_false,if_true,e0,e4,e5,e6,e7,e8,e9,e30,e31,e32,e50,e51])
  have hnx:(fL cash.length fun j=>B j+bt (jc cs f i k 0) (toI j)+bt (aX cs i k) (toI j))=fL cash.length fun j=>B j+bt (jc cs f i (k+1) 0) (toI j):=bY fun j _=>by
   rw[←I0,Br cs f i k (aX cs i k).length,afp,jJ];omega
  rw[hnx] at q29;refine qI ?_
  repeat' (intro h<;>simp only[h,go_sem,go_sem_proc,afh,k0,k4,k5,k6,k7,k8,k9,k30,k31,k32,k50,k51,q94,q98,w3]<;>try refine qS ?_ ?_)
  refine⟨k+1,by omega,by omega,rfl,q29,hfr'⟩
 ·have d1:decide ((k:Int)<(f i:Int))=false:=decide_eq_false (by omega)
  obtain rfl:k=f i:=by omega
  rw[JU] at m29;refine qI ?_
  repeat' (intro h<;>simp only[h,go_sem,go_sem_proc,afh,e0,e4,e5,e6,e7,e8,e9,e30,e31,e32,e50,e51,d1]<;>try refine qS ?_ ?_)
  refine hK _ _ ?_ ?_ ?_ ?_ ?_ ?_ ?_ ?_ ?_ ?_ m29 m94 m98 hfr<;>simp only[aW,afJ,if_false,e0,e4,e5,e6,e7,e8,e9,e30,e31,e32]
structure LsQ (a:DebA) (mem:Mem):Prop where
 at_:a.At mem
 n1:NoK 248 mem
 n2:NoK 255 mem
 n3:NoK 256 mem
 fine:a.Fine
 pay:PayG (ab a.cash a.cs) (fOf a.fl) (pOf a.P)
open Classical in
theorem sc (P:Nat→Prop) (n:Nat):payers P (n+1)=payers P n++(if P n then [n] else []):=by
 unfold payers;rw[afC,afT]
 by_cases h:P n
 ·rw[if_pos h,afV (by simpa using h),af0]
 ·rw[if_neg h,afW (by simpa using h),af0]
theorem uo (P:Nat→Prop) (n:Nat):(payers P n).length≤n:=by
 unfold payers;exact afK (afv _ _) (by rw[afL];exact Nat.le_refl _)
noncomputable def DebA.W (a:DebA) (k i:Nat):Rat:=(ab a.cash a.cs).W (fOf a.fl) k i
theorem EN (n:Nat) (W:Nat→Nat→Rat) (k:Nat):(shL n W k).length=1:=rfl
theorem K9 (n:Nat) (W:Nat→Nat→Rat) (k:Nat):((shL n W k).map MV.dat).all MV.one=true:=rfl
def stI (a:DebA) (i j:Nat):Int:=(if j<i then a.cash.getD j 0 else 0)+bt (jc a.cs (fOf a.fl) i 0 0) (toI j)
theorem Rz (T:Tab) (rC:T dW=mkN oC) {K:bP→St→Prop} {kk:List Todo} (a:DebA) (mem0:Mem) (ha:LsQ a mem0) (v0 v4 v30:MV) (G g6 g7:Nat) (tm:Nat→MV) (m:Mem)
  (e0:tm 0=v0) (e4:tm 4 = .dat (.int .i64 a.cash.length)) (e5:tm 5 = .ref 248029 G 1 0 a.cash.length) (e6:tm 6 = .ref 248094 g6 1 0 0) (e7:tm 7 = .ref 248098 g7 1 0 0) (e30:tm 30 = .ref 228023 a.g 1 0 a.cash.length) (e31:tm 31 = .dat (.int .i64 a.cash.length)) (e32:tm 32 = .dat (.int .i64 0))
  (m29:m 248029=some (G,(fL a.cash.length fun j=>stI a 0 j).map iC)) (m94:m 248094=some (g6,[])) (m98:m 248098=some (g7,[])) (hfr:FrK 248 mem0 m)
  (hK:∀ tm' m' g6' g7',tm' 0=v0→tm' 4 = .dat (.int .i64 a.cash.length)→tm' 5 = .ref 248029 G 1 0 a.cash.length→tm' 6 = .ref 248094 g6' 1 0 a.p.length→tm' 7 = .ref 248098 g7' 1 0 a.p.length→m' 248029=some (G,(fL a.cash.length fun j=>stI a a.cash.length j).map iC)→m' 248094=some (g6',ay gJ a.p)→m' 248098=some (g7',ay (shL a.cash.length a.W) a.p)→FrK 248 mem0 m'→kont T K kk (.exit 0) ⟨tm',m'⟩) :
  wp T (mf_clear_list.body.sub [1,1,1,1,1,0,1,0,0,0]) (kont T K kk) ⟨tm,m⟩:=by
 have ha':=ha;obtain⟨hat,n1,n2,n3,hfine,hpay⟩:=ha;have hfe:=fun i=>DebA.f_eq hat hfine (i:=i)
 obtain⟨hs,h10⟩:=hfine;have hn:=hs.n5;simp only[mf_clear_list,MCode.sub];refine af [0,4,5,30,31] [] (fun ((i,g6,g7):Nat × Nat × Nat) tm m=>i≤a.cash.length∧tm 32 = .dat (.int .i64 i)∧tm 6 = .ref 248094 g6 1 0 (payers (pOf a.P) i).length∧tm 7 = .ref 248098 g7 1 0 (payers (pOf a.P) i).length∧m 248029=some (G,(fL a.cash.length fun j=>stI a i j).map iC)∧m 248094=some (g6,ay gJ (payers (pOf a.P) i))∧m 248098=some (g7,ay (shL a.cash.length a.W) (payers (pOf a.P) i))∧FrK 248 mem0 m) (fun (i,_)=>a.cash.length-i) (0,g6,g7) (by refine⟨by omega,e32,e6,e7,m29,m94,m98,hfr⟩) ?_
 intro vs ms hvs hms;simp only[go_sem,go_sem_proc,afh,e0,e4,e5,e30,e31] at hvs hms;subst hvs hms;clear e0 e4 e5 e6 e7 e30 e31 e32 m29 m94 m98 hfr tm m;rintro⟨i,g6,g7⟩ tm m hk-⟨hin,e32,e6,e7,m29,m94,m98,hfr⟩;simp only[go_sem,go_sem_proc,afh,List.cons.injEq] at hk;obtain⟨e0,e4,e5,e30,e31⟩:=hk;rcases afm (i<a.cash.length) with hi | hge
 ·have d1:decide ((i:Int)<(a.cash.length:Int))=true:=decide_eq_true (by omega)
  have w3:IntKind.i64.wrap ((i:Int)+1)=((i+1:Nat):Int):=by rw[al _ (by omega) (by omega)];omega
  obtain⟨hfi,hf10⟩:=hfe i hi;have hrow:=(hfr.at 228023 (by omega)).trans hat.row;have hb0:=hat.blk i hi;have hblk:=(hfr.at (228500+i) (by omega)).trans hb0;have hri:=nn (cQ (fun i=>MV.ptr (228500+i) (a.gs.getD i 0) 0) hi);have hrl:(fL a.cash.length fun i=>MV.ptr (228500+i) (a.gs.getD i 0) 0).length=a.cash.length:=bT _ _;have hok:=a.deb_ok i;have hlen:=jL hok;have qf:=z5 hok;have qp:=M7 hok;have qca:=JR (x:=a.deb i);rw[show (a.deb i).f=(fOf a.fl i:Int) from hfi] at qf;rw[show (a.deb i).p=a.P.getD i false from rfl] at qp;rw[show (a.deb i).cash=a.cash.getD i 0 from rfl] at qca;have hcash:=hs.cash i;have hsp:=wq a.cs (fOf a.fl) (n:=a.cash.length) (i:=i) (k:=0) (t:=0) hi
  have hsI0:0≤bt (jc a.cs (fOf a.fl) i 0 0) (toI i)∧bt (jc a.cs (fOf a.fl) i 0 0) (toI i)≤1000000536870912:=by
   have:∃ l,qW a.cs (fOf a.fl) a.cash.length=jc a.cs (fOf a.fl) i 0 0++l:=by
    obtain⟨r,hr⟩:∃ r,a.cash.length=i+r:=⟨a.cash.length-i,by omega⟩
    refine⟨((afM r).map (i+·)).flatMap fun i=>(afM (fOf a.fl i)).flatMap fun k=>aX a.cs i k,?_⟩
    rw[E3];unfold qW;rw[hr,afX,afN]
   obtain⟨l,hl⟩:=this;exact w7 hs hat.can (fun i hi=>(hfe i hi).2) i hl
  have hst0:stI a i i=bt (jc a.cs (fOf a.fl) i 0 0) (toI i):=by unfold stI;rw[if_neg (by omega)];omega
  have wC:IntKind.i64.wrap (stI a i i+a.cash.getD i 0)=stI a i i+a.cash.getD i 0:=by rw[al _ (by omega) (by omega)]
  have t1:=iget hi fun j=>stI a i j
  have t2:=ilen a.cash.length fun j=>stI a i j
  have t3:=iset hi (fun j=>stI a i j) (stI a i i+a.cash.getD i 0)
  have hB2:(fL a.cash.length fun j=>if j=i then stI a i i+a.cash.getD i 0 else stI a i j)=fL a.cash.length fun j=>(if j<i+1 then a.cash.getD j 0 else 0)+bt (jc a.cs (fOf a.fl) i 0 0) (toI j):=bY fun j _=>by
   by_cases hj:j=i
   ·rw[if_pos hj,hj,if_pos (by omega),hst0];omega
   ·rw[if_neg hj]
    unfold stI
    by_cases hj2:j<i
    ·rw[if_pos hj2,if_pos (by omega)]
    ·rw[if_neg hj2,if_neg (by omega)]
  rw[hB2] at t3;have l1:i+1≤a.cash.length:=by omega
  have hKd:(228500+i) / 1000≠248:=by omega
  generalize hKK:228500+i=KK at *;have n29:(KK=248029)=False:=eq_false (by omega);have b29:(KK==248029)=false:=beq_eq_false_iff_ne.2 (by omega);have b29':(248029==KK)=false:=beq_eq_false_iff_ne.2 (by omega);have hDC:dH (a.deb i)=dH (a.deb i):=rfl;generalize hR:(fL a.cash.length fun j=>stI a i j).map iC=R at *;generalize hR2:(fL a.cash.length fun j=>(if j<i+1 then a.cash.getD j 0 else 0)+bt (jc a.cs (fOf a.fl) i 0 0) (toI j)).map iC=R2 at *;generalize hRW:(fL a.cash.length fun i=>MV.ptr (228500+i) (a.gs.getD i 0) 0)=RW at *;generalize hDD:dH (a.deb i)=DC at *;simp only[go_sem,go_sem_proc,afh,e0,e4,e5,e6,e7,e30,e31,e32,hrow,hblk,hri,hrl,hlen,qf,qp,qca,m29,t1,t2,t3,wC,d1,hi,l1,n29,b29,b29',iC,bC,afw];refine Qd T mem0 a.cash a.cs (fOf a.fl) hs hat.can (fun i hi=>(hfe i hi).2) i hi (a.deb i) hok (fun k hk=>cQ _ hk) (fun j=>if j<i+1 then a.cash.getD j 0 else 0) (fun j=>?_) KK (a.gs.getD i 0) hKd (by rw[hDD];exact hb0) v0 (.dat (.int .i64 a.cash.length)) (.ref 248094 g6 1 0 (payers (pOf a.P) i).length) (.ref 248098 g7 1 0 (payers (pOf a.P) i).length) (.dat (.int .i64 i)) (.ref 228023 a.g 1 0 a.cash.length) (.dat (.int .i64 a.cash.length)) (.dat (.int .i64 i)) G (some (g6,ay gJ (payers (pOf a.P) i))) (some (g7,ay (shL a.cash.length a.W) (payers (pOf a.P) i))) _ _ ?_ ?_ ?_ ?_ ?_ ?_ ?_ ?_ ?_ ?_ ?_ ?_ ?_ ?_ ?_ (hfr.upd (by decide)) ?_
  ·have:=hs.cash j
   split<;>omega
  all_goals first | (intro tm' m' k0 k4 k5 k6 k7 k8 k9 k30 k31 k32 q29 q94 q98 hfr') | (simp only[aW,afJ,if_false,if_true,e0,e4,e5,e6,e7,e30,e31,e32]) | (simp only[aB,afJ,if_false,if_true,m94,m98]) | skip
  ·rw[←hR2]
  have hnx:(fL a.cash.length fun j=>(if j<i+1 then a.cash.getD j 0 else 0)+bt (jc a.cs (fOf a.fl) (i+1) 0 0) (toI j))=fL a.cash.length fun j=>stI a (i+1) j:=rfl
  rw[hnx] at q29;have hb2:=(hfr' KK hKd).trans hb0;have pl:=uo (pOf a.P) i;rcases q:a.P.getD i false
  ·have hps:payers (pOf a.P) (i+1)=payers (pOf a.P) i:=by
    rw[sc,if_neg (by unfold pOf;rw[q];decide),afQ]
   rw[q] at qp;refine qI ?_
   repeat' (intro h<;>simp only[h,go_sem,go_sem_proc,afh,k0,k4,k5,k6,k7,k8,k9,k30,k31,k32,q94,q98,hb2,hlen,qp,w3,bC,afw]<;>try refine qS ?_ ?_)
   exact⟨(i+1,g6,g7),by dsimp only;omega,by dsimp only;omega,rfl,by rw[hps],by rw[hps],q29,by rw[hps],by rw[hps],hfr'⟩
  ·have hP:pOf a.P i:=q
   have hps:payers (pOf a.P) (i+1)=payers (pOf a.P) i++[i]:=by
    rw[sc,if_pos hP]
   have hf10':fOf a.fl i<10:=by
    obtain⟨h1,g,h2,h3⟩:=hpay;exact (h3.fallen i hP).2
   have hsh:=xm a i m' ⟨hat.fr hfr' (by decide) hn,n2.fr hfr' (by decide),⟨hs,h10⟩,hi,hf10',hpay.S_pos i hP⟩;rw[hKK] at hsh;have hsD:shD (a,i) = .tup [.sl ((bJ a.cash.length (a.W i)).map ae),.bool true]:=rfl;rw[hsD] at hsh;have ha6:=dw ib wy 248094 g6 8 (payers (pOf a.P) i) i (cs:=[.dat (.int .i64 i)]) rfl (by omega) (by omega);have ha7:=dw (EN a.cash.length a.W) (K9 a.cash.length a.W) 248098 g7 24 (payers (pOf a.P) i) i (cs:=[.dat (.sl ((bJ a.cash.length (a.W i)).map ae))]) rfl (by omega) (by omega);have hl1:(payers (pOf a.P) (i+1)).length=(payers (pOf a.P) i).length+1:=by rw[hps,List.length_append];rfl
   rw[←hps] at ha6 ha7;rw[q] at qp;generalize (bJ a.cash.length (a.W i)).map ae=V at *;refine qI ?_
   repeat' (intro h<;>simp only[h,go_sem,go_sem_proc,afh,rC,k0,k4,k5,k6,k7,k8,k9,k30,k31,k32,q94,q98,hb2,hlen,qp,hsh,ha6,ha7,w3,bC,afw,afn]<;>try refine qS ?_ ?_)
   exact⟨(i+1,g6+1,g7+1),by dsimp only;omega,by dsimp only;omega,rfl,by rw[hl1],by rw[hl1],q29,rfl,rfl,by repeat first | exact hfr' | refine FrK.upd ?_ (by decide)⟩
 ·have d1:decide ((i:Int)<(a.cash.length:Int))=false:=decide_eq_false (by omega)
  obtain rfl:i=a.cash.length:=by omega
  refine qI ?_
  repeat' (intro h<;>simp only[h,go_sem,go_sem_proc,afh,e0,e4,e5,e6,e7,e30,e31,e32,d1]<;>try refine qS ?_ ?_)
  refine hK _ _ g6 g7 ?_ ?_ ?_ ?_ ?_ m29 m94 m98 hfr<;>simp only[aW,afJ,if_false,e0,e4,e5,e6,e7,DebA.p]
theorem QJ (T:Tab) (dU:T dI=mkE lS) (bI:T dp=mkE lP) {K:bP→St→Prop} {kk:List Todo} (mem0:Mem) (n:Nat) (p:List Nat) (hp:p.length≤60) (W:Nat→Nat→Rat) (X:Nat→Rat) (i:Nat) (hi:i<n) (s0:Rat) (hz:∀ t,t≤p.length→szR 440 (s0+sumQ t fun k=>W (p.getD k 0) i*X k)) (hT:∀ k,k<p.length→szR 440 (W (p.getD k 0) i*X k)∧szR 30 (W (p.getD k 0) i)∧szR 295 (X k)) (v17 v110 v111 v112:MV) (G:Nat) (x156:Option (Nat × List MV)) (tm:Nat→MV) (m:Mem)
  (e6:tm 6 = .dat (.sl (p.map gJ))) (e7:tm 7 = .dat (.sl (p.map (shL n W)))) (e15:tm 15 = .dat (.sl ((bJ p.length X).map ae))) (e17:tm 17=v17) (e18:tm 18 = .dat (.int .i64 i)) (e20:tm 20 = .ptr 248020 G 0) (e110:tm 110=v110) (e111:tm 111=v111) (e112:tm 112=v112) (e120:tm 120 = .dat (.int .i64 p.length)) (e121:tm 121 = .dat (.int .i64 0))
  (m20:m 248020=some (G,(ae (aj s0)).map .dat)) (m156:m 248156=x156) (hfr:FrK 248 mem0 m)
  (hK:∀ tm' m',tm' 6 = .dat (.sl (p.map gJ))→tm' 7 = .dat (.sl (p.map (shL n W)))→tm' 15 = .dat (.sl ((bJ p.length X).map ae))→tm' 17=v17→tm' 20 = .ptr 248020 G 0→tm' 110=v110→tm' 111=v111→tm' 112=v112→m' 248020=some (G,(ae (aj (s0+sumQ p.length fun k=>W (p.getD k 0) i*X k))).map .dat)→m' 248156=x156→FrK 248 mem0 m'→kont T K kk (.exit 8) ⟨tm',m'⟩) :
  wp T (mf_clear_list.body.sub [1,1,1,1,1,1,1,1,1,0,1,0,0,0,1,1,0,0,1,1,0,1,0]) (kont T K kk) ⟨tm,m⟩:=by
 simp only[mf_clear_list,MCode.sub]
 refine af [6,7,15,17,18,20,110,111,112,120] [248156] (fun (k:Nat) tm m=>k≤p.length∧tm 121 = .dat (.int .i64 k)∧m 248020=some (G,(ae (aj (s0+sumQ k fun k=>W (p.getD k 0) i*X k))).map .dat)∧FrK 248 mem0 m) (fun k=>p.length-k) 0 (by
  refine⟨by omega,e121,?_,hfr⟩
  rw[m20,sumQ,afA]) ?_
 intro vs ms hvs hms;simp only[go_sem,go_sem_proc,afh,e6,e7,e15,e17,e18,e20,e110,e111,e112,e120,m156] at hvs hms;subst hvs hms;clear e6 e7 e15 e17 e18 e20 e110 e111 e112 e120 e121 m20 m156 hfr tm m;rintro k tm m hk hm ⟨hkn,e121,m20,hfr⟩;simp only[go_sem,go_sem_proc,afh,List.cons.injEq] at hk hm;obtain⟨e6,e7,e15,e17,e18,e20,e110,e111,e112,e120⟩:=hk;rcases afm (k<p.length) with hlt | hge
 ·have d1:decide ((k:Int)<(p.length:Int))=true:=decide_eq_true (by omega)
  have w3:IntKind.i64.wrap ((k:Int)+1)=((k+1:Nat):Int):=by rw[al _ (by omega) (by omega)];omega
  obtain⟨pk,hx⟩:∃ c,p[k]?=some c:=⟨_,afe hlt⟩;have hpk:p.getD k 0=pk:=by rw[aff,hx];rfl
  obtain⟨z1,z2,z3⟩:=hT k hlt;have z0:=hz k (by omega);rw[hpk] at z1 z2;have hmul:=Eu (du z2 (by omega)) (du z3 (by omega)) (ud z2 z3 (by omega));have hadd:=yw (du z0 (by omega)) (du z1 (by omega)) (jO z0 z1 (by omega))
  have hs:(s0+sumQ (k+1) fun k=>W (p.getD k 0) i*X k)=s0+sumQ k (fun k=>W (p.getD k 0) i*X k)+W pk i*X k:=by
   rw[sumQ,hpk];grind
  have hg:=dS (W pk) hi;have hgX:=dS X hlt;rw[←hs] at hadd;clear z0 z1 z2 z3 hT hz hs hK;generalize aj (s0+sumQ k fun k=>W (p.getD k 0) i*X k)=F1 at *;generalize hF2:aj (s0+sumQ (k+1) fun k=>W (p.getD k 0) i*X k)=F2 at *;generalize aj (W pk i*X k)=F3 at *;generalize aj (W pk i)=F4 at *;generalize aj (X k)=F5 at *;obtain⟨⟨a1,a2⟩,⟨a3,a4⟩⟩:=F1;obtain⟨⟨b1,b2⟩,⟨b3,b4⟩⟩:=F2;obtain⟨⟨f1,f2⟩,⟨f3,f4⟩⟩:=F3;obtain⟨⟨g1,g2⟩,⟨g3,g4⟩⟩:=F4;obtain⟨⟨k1,k2⟩,⟨k3,k4⟩⟩:=F5;simp only[ae,afG,afH] at hmul hadd m20;refine qI ?_
  repeat' (intro h<;>simp only[h,go_sem,go_sem_proc,afh,dU,bI,e6,e7,e15,e17,e18,e20,e110,e111,e112,e120,e121,m20,hm,d1,w3,hx,shL,hg,hgX,hmul,hadd,ae,afi,afj,bne,beq_self_eq_true,afn]<;>try refine qS ?_ ?_)
  refine⟨k+1,by omega,by omega,rfl,by rw[hF2],by repeat first | exact hfr | refine FrK.upd ?_ (by decide)⟩
 ·have d1:decide ((k:Int)<(p.length:Int))=false:=decide_eq_false (by omega)
  obtain rfl:k=p.length:=by omega
  refine qI ?_
  repeat' (intro h<;>simp only[h,go_sem,go_sem_proc,afh,e6,e7,e15,e17,e18,e20,e110,e111,e112,e120,e121,d1]<;>try refine qS ?_ ?_)
  refine hK _ _ ?_ ?_ ?_ ?_ ?_ ?_ ?_ ?_ m20 hm hfr<;>simp only[aW,afJ,if_false,e6,e7,e15,e17,e20,e110,e111,e112]
noncomputable def lsD (a:DebA):Data:=.tup [.sl ((bJ a.cash.length ((ab a.cash a.cs).lst (fOf a.fl) (pOf a.P))).map ae),.bool true]
noncomputable def yl:List MV→Mem→Option Data:=NN (fun (a:DebA) args mem=>args=[.ref 228023 a.g 1 0 a.cash.length]∧LsQ a mem) lsD
theorem BY (a:DebA) (mem:Mem) (h:LsQ a mem):yl [.ref 228023 a.g 1 0 a.cash.length] mem=some (lsD a):=by
 refine I2 (a:=a) ?_ ⟨rfl,h⟩;rintro a b args mem ⟨e1,e2⟩ ⟨e3,e4⟩;rw[DebA.uniq e2.at_ e4.at_]
theorem HP (l:List Int):l.map iC=ay aa l:=by
 unfold ay
 induction l with
 | nil=>rfl
 | cons a l ih=>rw[afG,afG,List.flatten_cons,afD,←ih];rfl
theorem zrow (n:Nat):(afs n [MV.dat (.int .i64 0)]).flatten=(fL n fun _=>(0:Int)).map iC:=by
 induction n with
 | zero=>rfl
 | succ n ih=>rw[List.replicate_succ',List.flatten_append,ih];simp [fL,afC,iC]
theorem LZ (T:Tab) (aF:T bf=mkE fk) (rC:T dW=mkN oC) (Ig:T kM=mkN p6) (dU:T dI=mkE lS) (bI:T dp=mkE lP) (a:DebA) (mem:Mem) (ha:LsQ a mem) :
  wp T mf_clear_list.body (qU mf_clear_list.res fun m mem'=>toD 6 emp m=some (lsD a)∧FrK 248 mem mem') ⟨az [.ref 228023 a.g 1 0 a.cash.length],mem⟩:=by
 have hat:=ha.at_;have hs:=ha.fine.sm;have hpay:=ha.pay;have hn:=hs.n5;have hmk1:(8*a.cash.length≤140737488355328)=True:=eq_true (by omega);have hmk2:(a.cash.length≤maxLen)=True:=eq_true (by unfold maxLen;omega);have h94:mem 248094=none:=ha.n1 248094 (by decide);have h98:mem 248098=none:=ha.n1 248098 (by decide);have h29:mem 248029=none:=ha.n1 248029 (by decide);have hz:=zrow a.cash.length
 have hz0:(fL a.cash.length fun j=>stI a 0 j)=fL a.cash.length fun _=>(0:Int):=bY fun j _=>by
  unfold stI;rw[if_neg (by omega),Hc];rfl
 refine aq ?_;simp only[mf_clear_list];simp only[go_sem,go_sem_proc,afh,hmk1,hmk2,h94,h98,h29,hz];refine Rz T rC a mem ha (.ref 228023 a.g 1 0 a.cash.length) (.ref 228023 a.g 1 0 a.cash.length) (.ref 228023 a.g 1 0 a.cash.length) 0 0 0 _ _ ?_ ?_ ?_ ?_ ?_ ?_ ?_ ?_ ?_ ?_ ?_ ((((FrK.refl _ _).upd (by decide)).upd (by decide)).upd (by decide)) ?_
 all_goals first | (intro tm m g6 g7 k0 k4 k5 k6 k7 m29 m94 m98 hfr) | (simp only[aW,afJ,if_false,if_true];done) | (simp only[aW,afJ,if_false,if_true];rfl) | (simp only[aB,afJ,if_false,if_true,hz0]) | skip
 have hst:(fL a.cash.length fun j=>stI a a.cash.length j)=fL a.cash.length fun i=>c8 a.cash a.cs (fOf a.fl) i:=bY fun j hj=>by
  unfold stI;rw[if_pos hj,E3,uL hat.can fun i hi=>(DebA.f_eq hat ha.fine hi).2]
 rw[hst,HP] at m29;have hN:∀ mm,FrK 248 mem mm→p6 [.ref 228023 a.g 1 0 a.cash.length,.dat (.sl ((fL a.cash.length fun i=>c8 a.cash a.cs (fOf a.fl) i).map aa)),.dat (.sl (a.p.map gJ)),.dat (.sl (a.p.map (shL a.cash.length a.W)))] mm=some (.tup [.sl (a.xs.map ae),.bool true]):=fun mm h=>Bf a mm ⟨hat.fr h (by decide) hn,ha.n3.fr h (by decide),ha.fine,hpay⟩
 have hSTl:(fL a.cash.length fun i=>c8 a.cash a.cs (fOf a.fl) i).length=a.cash.length:=bT _ _;have hSTg:∀ i,i<a.cash.length→(fL a.cash.length fun i=>c8 a.cash a.cs (fOf a.fl) i)[i]?=some (c8 a.cash a.cs (fOf a.fl) i):=fun i hi=>cQ _ hi
 generalize hSTe:(fL a.cash.length fun i=>c8 a.cash a.cs (fOf a.fl) i)=ST at *;have hf5:=fun (K:St→Prop) (st:St)=>cu (K:=K) (st:=st) bq 5 248029 0 ST
 rw[hSTl] at hf5;have hf6:=fun (K:St→Prop) (st:St)=>cu (K:=K) (st:=st) ib 6 248094 g6 a.p
 have hf7:=fun (K:St→Prop) (st:St)=>cu (K:=K) (st:=st) (EN a.cash.length a.W) 7 248098 g7 a.p
 have hN2:=fun g1 g2 g3 c1 c2 c3=>hN (aB (aB (aB m 248029 g1 c1) 248094 g2 c2) 248098 g3 c3) (((hfr.upd (by decide)).upd (by decide)).upd (by decide))
 simp only[go_sem,go_sem_proc,afh,Ig,k0,k4,k5,k6,k7,m29,m94,m98,hf5,hf6,hf7,hN2,hSTl,afi,afn];have hpl:a.p.length≤a.cash.length:=uo _ _;have hps:=fun i (hi:i<a.cash.length) t (ht:t≤a.p.length)=>Mz hs hpay hi ht
 have hlp:=fun i (hi:i<a.cash.length)=>hpay.good.lst_pay (d:=ab a.cash a.cs) hi
 have hpe:payers (pOf a.P) (ab a.cash a.cs).n=a.p:=rfl;have hpe2:payers (pOf a.P) a.cash.length=a.p:=rfl;have hxs:a.xs=bJ a.p.length fun k=>(ab a.cash a.cs).lst (fOf a.fl) (pOf a.P) (a.p.getD k 0)-(ab a.cash a.cs).U (a.p.getD k 0) (fOf a.fl (a.p.getD k 0)):=rfl
 rw[hpe] at hlp;rw[hpe2] at hps;rw[hxs];generalize hX:(fun k=>(ab a.cash a.cs).lst (fOf a.fl) (pOf a.P) (a.p.getD k 0)-(ab a.cash a.cs).U (a.p.getD k 0) (fOf a.fl (a.p.getD k 0)))=X at *;have hX':∀ k,(ab a.cash a.cs).lst (fOf a.fl) (pOf a.P) (a.p.getD k 0)-(ab a.cash a.cs).U (a.p.getD k 0) (fOf a.fl (a.p.getD k 0))=X k:=fun k=>congrFun hX k
 simp only[hX'] at hps hlp;have hcast:=fun i=>qY hs.right (fOf a.fl) i
 have hsb:=fun i=>hs.steady (fOf a.fl) i
 clear hf5 hf6 hf7 hN hN2 hxs hX hX' k0 k4 k5 k6 k7 m29 m94 m98 h94 h98 h29 hz hz0 hmk1 hmk2
 refine af [6,7,15,110,111] [] (fun ((i,g):Nat × Nat) tm mm=>i≤a.cash.length∧tm 112 = .dat (.int .i64 i)∧tm 17 = .ref 248156 g 4 0 i∧mm 248156=some (g,ay ae (bJ i ((ab a.cash a.cs).lst (fOf a.fl) (pOf a.P))))∧FrK 248 mem mm) (fun (i,_)=>a.cash.length-i) (0,cR (m 248156)) (by
  refine⟨by omega,rfl,rfl,by simp [aB];rfl,by repeat first | exact hfr | refine FrK.upd ?_ (by decide)⟩) ?_
 intro vs ms hvs hms;simp only[go_sem,go_sem_proc,afh] at hvs hms;subst hvs hms;clear hfr m tm;rintro⟨i,g⟩ tm m hk-⟨hin,e112,e17,m156,hfr⟩;simp only[go_sem,go_sem_proc,afh,List.cons.injEq] at hk;obtain⟨e6,e7,e15,e110,e111⟩:=hk;rcases afm (i<a.cash.length) with hi | hge
 ·have d1:decide ((i:Int)<(a.cash.length:Int))=true:=decide_eq_true (by omega)
  have w3:IntKind.i64.wrap ((i:Int)+1)=((i+1:Nat):Int):=by rw[al _ (by omega) (by omega)];omega
  have hgi:=hSTg i hi;have hw:=eN _ (dT (z:=c8 a.cash a.cs (fOf a.fl) i) (by have:=hsb i;omega) (by have:=hsb i;omega));rw[hcast] at hw;have hps':=hps i hi;have hlp':=hlp i hi;generalize hs0:(ab a.cash a.cs).st (fOf a.fl) i=s0 at *;generalize hE:aj s0=E at *;obtain⟨⟨y1,y2⟩,⟨y3,y4⟩⟩:=E;simp only[ae] at hw;simp only[go_sem,go_sem_proc,afh,aF,e6,e7,e15,e17,e110,e111,e112,d1,hgi,hw,aa,afi,afj];refine QJ T dU bI mem a.cash.length a.p (by omega) a.W X i hi s0 (fun t ht=>(hps' t ht).1) (fun k hk=>⟨(hps' 0 (by omega)).2.1 k hk,(Ot hs hpay (gB hk).2 i).1,(hps' 0 (by omega)).2.2 k hk⟩) (.ref 248156 g 4 0 i) (.dat (.sl (ST.map aa))) (.dat (.int .i64 a.cash.length)) (.dat (.int .i64 i)) (cR (m 248020)) (some (g,ay ae (bJ i ((ab a.cash a.cs).lst (fOf a.fl) (pOf a.P))))) _ _ ?_ ?_ ?_ ?_ ?_ ?_ ?_ ?_ ?_ ?_ ?_ ?_ ?_ ((hfr.upd (by decide)).upd (by decide)) ?_
  all_goals first | (intro tm' m' k6 k7 k15 k17 k20 k110 k111 k112 q20 q156 hfr') | (simp only[aW,afJ,if_false,if_true,e6,e7,e15,e17,e110,e111,e112];done) | (simp only[aB,afJ,if_false,if_true,m156];done) | (simp only[aB,if_true];rw[hE];rfl)
  have hlp2:s0+(sumQ a.p.length fun k=>a.W (a.p.getD k 0) i*X k)=(ab a.cash a.cs).lst (fOf a.fl) (pOf a.P) i:=hlp'.symm;rw[hlp2] at q20;have hvs:=rR i ((ab a.cash a.cs).lst (fOf a.fl) (pOf a.P));have hrl:(bJ i ((ab a.cash a.cs).lst (fOf a.fl) (pOf a.P))).length=i:=cI _ _;have hap:=fun (F:aM) cs hcs=>dw cr kv 248156 g 64 (bJ i ((ab a.cash a.cs).lst (fOf a.fl) (pOf a.P))) F (cs:=cs) hcs (by omega) (by omega)
  simp only[hrl] at hap;generalize bJ i ((ab a.cash a.cs).lst (fOf a.fl) (pOf a.P))=V at *;generalize hV2:bJ (i+1) ((ab a.cash a.cs).lst (fOf a.fl) (pOf a.P))=V2 at *;generalize aj ((ab a.cash a.cs).lst (fOf a.fl) (pOf a.P) i)=F at *;obtain⟨⟨a1,a2⟩,⟨a3,a4⟩⟩:=F;have hap':=hap ((a1,a2),(a3,a4)) _ rfl;rw[←hvs] at hap';simp only[ae,afG,afH] at hap' q20;simp only[go_sem,go_sem_proc,afh,k6,k7,k15,k17,k20,k110,k111,k112,q20,q156,hap',w3]
  repeat' (first|refine qS ?_ ?_|fail)<;>intro h<;>simp only[h,go_sem,go_sem_proc,afh,k6,k7,k15,k17,k20,k110,k111,k112,q20,q156,hap',w3]
  exact⟨(i+1,g+1),by dsimp only;omega,by dsimp only;omega,rfl,rfl,by rw[←hV2],by repeat first | exact hfr' | refine FrK.upd ?_ (by decide)⟩
 ·have d1:decide ((i:Int)<(a.cash.length:Int))=false:=decide_eq_false (by omega)
  obtain rfl:i=a.cash.length:=by omega
  have hvl:(bJ a.cash.length ((ab a.cash a.cs).lst (fOf a.fl) (pOf a.P))).length=a.cash.length:=cI _ _;have hfz:=fun (K:St→Prop) (st:St)=>cu (K:=K) (st:=st) cr 17 248156 g (bJ a.cash.length ((ab a.cash a.cs).lst (fOf a.fl) (pOf a.P)))
  rw[hvl] at hfz;simp only[go_sem,go_sem_proc,afh,e6,e7,e15,e17,e110,e111,e112,m156,d1,hfz]
  repeat' (first|refine qS ?_ ?_|fail)<;>intro h<;>simp only[h,go_sem,go_sem_proc,afh,e6,e7,e15,e17,e110,e111,e112,m156,d1,hfz]
  exact⟨_,rfl,rfl,by repeat first | exact hfr | refine FrK.upd ?_ (by decide) | refine FrK.kill ?_ (by decide)⟩
end Go.Mini
