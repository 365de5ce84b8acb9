/- A part of the proof. -/
import Derived.Test.YtdbkjjoedjfmpaaM02
import Derived.LoopN
import Derived.Laws.BitsLemmas
import Derived.ChangeSame
import Derived.Handed
import Derived.JoinedOf
import Derived.JoinedCond
import Derived.OpenShut
import Derived.ProofKit
set_option linter.unusedSimpArgs false
set_option linter.unusedVariables false
open List renaming getD_eq_getElem?_getD → Uj, getElem?_append_left → Uk, getElem?_cons_zero → Uo, getElem?_eq_none → Ur, length_append → Us, all_eq_true → Ux, mem_zipIdx_iff_getElem? → Uy, drop_drop → UA, getElem?_eq_getElem → UB, mapM_cons → UD, getElem?_take_of_lt → UH, getElem?_drop → UI, map_map → UJ, getElem?_set_self → UK, getElem?_set_ne → UL, length_cons → UM, length_drop → UO, length_take → UQ, mem_attach → UR, mem_of_getElem? → US, map_cons → UV, drop_zero → UW, take_zero → UX, mapM_nil → U3, nil_append → U4, flatten_cons → U5, append_nil → U6, length_map → U7, drop_eq_getElem_cons → U8, take_append_drop → U9, drop_append → Va, drop_eq_nil_of_le → Vb, take_left → Vc, drop_left → Vd, take_of_length_le → Ve, mem_map → Vf, length_range → Vg, getElem?_append → Vh, flatMap_cons → Vi, mem_append → Vj, range → Vk, eq_nil_of_length_eq_zero → Vp, mem_range → Vq, mem_flatMap → Vr
open Nat renaming testBit_or → Ul, le_refl → Un, lt_or_ge → Uq, add_assoc → Ut, add_comm → Uu, strongRecOn → Uv, lt_asymm → Uz, zero_le → UP, zero_add → UZ, zero_mul → Vm, add_sub_cancel_left → Vo
open Bool renaming or_eq_true → Um, and_eq_true → Uw, false_eq_true → UN
open Option renaming getD_some → Up, map_eq_some_iff → UC, pure_def → UE, bind_eq_bind → UF, bind_eq_some_iff → UG, bind_some → UY
open Classical renaming choose → UT, choose_spec → UU
namespace Go.Mini
open Go
variable {T:Tab} {conf:Nat→Nat→Bool} {ops:Array Oper} {l:List MI} {K:St→Prop}
def rl (T:Tab) (conf:Nat→Nat→Bool) (ops:Array Oper) (l:List MI) (K:St→Prop):Nat→Array Bool→Rec→St→Prop
 | 0,listed,_,st=>Region.ready .any ops listed=[]∧K st
 | fuel+1,listed,rec,st=>(Region.ready .any ops listed=[]→K st) ∧
  ∀ i∈Region.ready .any ops listed,∃ x rec' st',l[i]?=some x∧Exec T conf i x rec st rec' st'∧rl T conf ops l K fuel (listed.setIfInBounds i true) rec' st'
def Closed (ops:Array Oper) (listed:Array Bool):Prop :=
 listed.size=ops.size∧∀ (j:Nat) (o:Oper),ops[j]?=some o→listed.getD j false=true→∀ e∈o.after,Region.binds .any e=true→listed.getD e.on false=true
theorem Closed.set {listed:Array Bool} {i:Nat} (h:Closed ops listed) (hi:i∈Region.ready .any ops listed):Closed ops (listed.setIfInBounds i true):=by
 refine⟨by simp [h.1],fun j o hj hl e he hb=>?_⟩
 by_cases hji:j=i
 ·subst hji
  obtain⟨_,o',ho,hall⟩:=mem_ready.1 hi;rw[hj] at ho
  cases ho;exact getD_set_true (hall e he hb)
 ·rw[getD_set_ne false (Ne.symm hji)] at hl
  exact getD_set_true (h.2 j o hj hl e he hb)
def Pairs (conf:Nat→Nat→Bool) (ops:Array Oper) (l:List MI):Prop :=
 ∀ (i j:Nat) (x y:MI),i≠j→l[i]?=some x→l[j]?=some y →
  (∀ listed,Closed ops listed→i∈Region.ready .any ops listed→j∈Region.ready .any ops listed→False)∨(lO x y=true∧Passes conf i j x y)
theorem Bd {i k:Nat} {x:MI} {rec rec':Rec} {st st':St} (h:Exec T conf i x rec st rec' st') (hk:k≠i):rec' k=rec k:=by
 rcases h with ⟨_,rfl,_⟩ | ⟨_,_,_,_,_,rfl,_⟩
 ·rfl
 ·simp [sF,hk]
theorem uK {listed:Array Bool} {i k:Nat} (h:(listed.setIfInBounds i true).getD k true=false):k≠i∧listed.getD k true=false:=by
 by_cases hki:i=k
 ·subst hki
  exfalso
  by_cases hlt:i<listed.size
  ·simp [hlt] at h
  ·have:(listed.setIfInBounds i true).size≤i:=by simp;omega
   rw[Array.getD_eq_getD_getElem?,Array.getElem?_eq_none this] at h;simp at h
 ·rw[getD_set_ne true hki] at h
  exact⟨fun h'=>hki h'.symm,h⟩
theorem yO (hp:Pairs conf ops l) (hsym:∀ a b,conf a b=conf b a) {i:Nat} {x:MI} (hi:l[i]?=some x):∀ (fuel:Nat) (listed:Array Bool) (rec:Rec) (st:St) (rec1:Rec) (st1:St),
  Closed ops listed→(∀ k,listed.getD k true=false→rec k=none)→i∈Region.ready .any ops listed→Exec T conf i x rec st rec1 st1 →
  rl T conf ops l K fuel (listed.setIfInBounds i true) rec1 st1→rl T conf ops l K (fuel+1) listed rec st:=by
 intro fuel
 induction fuel with
 | zero =>
  intro listed rec st rec1 st1 hcl hrec hr he H;refine⟨fun h=>(by rw[h] at hr;cases hr),fun j hj=>?_⟩
  by_cases hji:j=i
  ·subst hji;exact⟨x,rec1,st1,hi,he,H⟩
  ·have:=ready_mono hj hji
   rw[H.1] at this
   cases this
 | succ fuel ih =>
  intro listed rec st rec1 st1 hcl hrec hr he H;refine⟨fun h=>(by rw[h] at hr;cases hr),fun j hj=>?_⟩
  by_cases hji:j=i
  ·subst hji;exact⟨x,rec1,st1,hi,he,H⟩
  ·obtain⟨y,rec2,st2,hy,hE,hK⟩:=H.2 j (ready_mono hj hji)
   rcases hp i j x y (Ne.symm hji) hi hy with hno | ⟨hap,hpass⟩
   ·exact (hno listed hcl hr hj).elim
   ·obtain⟨recj,stj,h1,h2⟩:=Exec.comm (Ne.symm hji) hap hpass hsym (hrec i (mem_ready.1 hr).1) he hE
    refine⟨y,recj,stj,hy,h1,ih _ recj stj rec2 st2 (hcl.set hj) (fun k hk=>?_) (ready_mono hr (Ne.symm hji)) h2 ?_⟩
    ·obtain⟨h3,h4⟩:=uK hk
     rw[Bd h1 h3];exact hrec k h4
    ·rw[Array.setIfInBounds_comm _ _ hji]
     exact hK
theorem nY:∀ (r:List Oper) (acc:List Nat) (k:Nat),k<acc.length→(oO r acc).getD k 0=acc.getD k 0
 | [],acc,k,_=>rfl
 | o::r,acc,k,hk=>by
  simp only[oO];rw[nY r _ k (by simp;omega)];simp only[Uj];rw[Uk hk]
theorem Ke {es:List Edge} {acc:List Nat} {i:Nat}:∀ (s:Nat),(es.foldl (fun s e=>if Region.binds .any e=true then s ||| (2^e.on ||| acc.getD e.on 0) else s) s).testBit i=true →
  s.testBit i=true∨∃ e∈es,Region.binds .any e=true∧(e.on=i∨(acc.getD e.on 0).testBit i=true):=by
 induction es with
 | nil=>exact fun s h => .inl h
 | cons e es ih =>
  intro s h;rw[List.foldl_cons] at h;rcases ih _ h with h1 | ⟨e',h1,h2⟩
  ·split at h1
   ·rename_i hb
    rw[Ul,Ul,Um,Um] at h1;rcases h1 with h1 | h1 | h1
    ·exact .inl h1
    ·rw[Nat.testBit_two_pow] at h1
     exact .inr ⟨e,by simp,hb,.inl (by simpa using h1)⟩
    ·exact .inr ⟨e,by simp,hb,.inr h1⟩
   ·exact .inl h1
  ·exact .inr ⟨e',by simp [h1],h2⟩
theorem vO:∀ (r:List Oper) (acc:List Nat) (t:Nat) (o:Oper),r[t]?=some o→∀ i,((oO r acc).getD (acc.length+t) 0).testBit i=true →
  ∃ e∈o.after.toList,Region.binds .any e=true∧(e.on=i∨(e.on<acc.length+t∧((oO r acc).getD e.on 0).testBit i=true))
 | [],_,_,_,h,_,_=>by simp at h
 | o'::r,acc,0,o,h,i,hb=>by
  simp at h;subst h;simp only[oO,Nat.add_zero] at hb ⊢;rw[nY r _ _ (by simp)] at hb;simp only[Uj] at hb;rw[List.getElem?_append_right (Un _)] at hb;simp only[Nat.sub_self,Uo,Up] at hb;rcases Ke (acc:=acc) 0 (by simpa only [Uj] using hb) with h1 | ⟨e,h1,h2,h3⟩
  ·simp at h1
  ·refine⟨e,h1,h2,h3.imp id fun h=>?_⟩
   have hlt:e.on<acc.length:=by
    rcases Uq e.on acc.length with h' | h'
    ·exact h'
    ·rw[Uj,Ur h'] at h
     simp at h
   refine⟨hlt,?_⟩;rw[nY r _ _ (by simp;omega),Uj,Uk hlt,←Uj];exact h
 | o'::r,acc,t+1,o,h,i,hb=>by
  have h':r[t]?=some o:=by simpa using h
  simp only[oO] at hb ⊢
  have:=vO r (acc++[o'.after.toList.foldl (fun s e=>if Region.binds .any e=true then s ||| (2^e.on ||| acc.getD e.on 0) else s) 0]) t o h' i (by
   rw[Us,List.length_singleton,Ut,Uu 1 t];exact hb)
  obtain⟨e,h1,h2,h3⟩:=this;refine⟨e,h1,h2,h3.imp id fun h=>⟨by have:=h.1;simp at this;omega,h.2⟩⟩
theorem C7 {listed:Array Bool} (hcl:Closed ops listed):∀ (j:Nat) (o:Oper),ops[j]?=some o→(∀ e∈o.after,Region.binds .any e=true→listed.getD e.on false=true) →
  ∀ i,((oO ops.toList []).getD j 0).testBit i=true→listed.getD i false=true:=by
 intro j
 induction j using Uv with
 | _ j ih =>
  intro o ho hall i hi;obtain⟨e,he,hb,h⟩:=vO ops.toList [] j o (by simpa using ho) i (by simpa using hi);have hl:=hall e (by simpa using he) hb;rcases h with rfl | ⟨hlt,hbit⟩
  ·exact hl
  ·have hsz:e.on<ops.size:=by
    rw[←hcl.1];rcases Uq e.on listed.size with h' | h'
    ·exact h'
    ·simp [Array.getElem?_eq_none h'] at hl
   have ho':ops[e.on]?=some ops[e.on]:=Array.getElem?_eq_getElem hsz;exact ih e.on (by simpa using hlt) _ ho' (hcl.2 e.on _ ho' hl) i hbit
theorem oP:∀ (cs pre:List MI) (as:List Nat),mp pre cs as=true→∀ (t:Nat) (y:MI),cs[t]?=some y→∀ (i:Nat) (x:MI),(pre++cs)[i]?=some x→i<pre.length+t →
  (as.getD t 0).testBit i=true∨lO x y=true
 | [],_,_,_,_,_,h,_,_,_,_=>by simp at h
 | _::_,_,[],h,_,_,_,_,_,_,_=>by simp [mp] at h
 | c::cs,pre,a::as,h,0,y,hy,i,x,hx,hlt=>by
  simp only[mp,Uw,Ux] at h;simp at hy;subst hy;have hi:i<pre.length:=by simpa using hlt
  rw[Uk hi] at hx;have:=h.1 (x,i) (by rw[Uy];exact hx)
  simpa using this
 | c::cs,pre,a::as,h,t+1,y,hy,i,x,hx,hlt=>by
  simp only[mp,Uw] at h;have:=oP cs (pre++[c]) as h.2 t y (by simpa using hy) i x (by simpa using hx) (by simp;omega)
  simpa using this
theorem ux:∀ (cs pre:List MI) (as:List Nat) (t:Nat) (y:MI),cs[t]?=some y→∀ (i:Nat) (x:MI),(pre++cs)[i]?=some x→i<pre.length+t →
  (as.getD t 0).testBit i=true∨ki (gf x.op) (gf y.op)=true∨i∈(p8 pre cs as).getD t []
 | [],_,_,_,_,h,_,_,_,_=>by simp at h
 | c::cs,pre,as,0,y,hy,i,x,hx,hlt=>by
  simp at hy;subst hy;have hi:i<pre.length:=by simpa using hlt
  rw[Uk hi] at hx;have hmem:(x,i)∈pre.zipIdx:=by rw[Uy];exact hx
  by_cases h1:(as.getD 0 0).testBit i=true
  ·exact .inl h1
  ·by_cases h2:ki (gf x.op) (gf c.op)=true
   ·exact .inr (.inl h2)
   ·refine .inr (.inr ?_)
    simp only[p8,Uj,Uo,Up];refine List.mem_map.2 ⟨(x,i),List.mem_filter.2 ⟨hmem,?_⟩,rfl⟩;have h3:as.headD 0=as.getD 0 0:=by cases as<;>rfl
    simp only[h3];rw[Uj] at h1;simp [h1,h2]
 | c::cs,pre,as,t+1,y,hy,i,x,hx,hlt=>by
  have:=ux cs (pre++[c]) as.tail t y (by simpa using hy) i x (by simpa using hx) (by simp;omega);have h3:as.tail.getD t 0=as.getD (t+1) 0:=by cases as<;>simp
  rw[h3] at this
  simpa [p8] using this
def kD (c:List (List Nat)) (i j:Nat):Bool:=if i<j then (c.getD j []).contains i else if j<i then (c.getD i []).contains j else false
theorem sk (c:List (List Nat)) (i j:Nat):kD c i j=kD c j i:=by
 unfold kD
 by_cases h1:i<j
 ·simp [h1,Uz h1]
 ·by_cases h2:j<i
  ·simp [h2,Uz h2]
  ·simp [h1,h2]
theorem zo {x y:MI} (h:lO x y=true):lO y x=true:=by
 obtain⟨h1,h2,h3⟩:=su h;unfold lO;rw[Uw]
 constructor
 ·cases hy:y.dst with
  | none=>rfl
  | some d =>
   have a:=h3 d hy;have b:x.dst≠some d:=fun hx=>h2 d hx hy
   simp [a,b]
 ·cases hx:x.dst with
  | none=>rfl
  | some d =>
   have a:=h1 d hx;simp [a]
theorem xd (a b:Nat):ki a b=ki b a:=by
 unfold ki
 cases (a==0)<;>cases (b==0)<;>cases (a==1)<;>cases (b==1)<;>rfl
theorem Ip (hd:ro ops l=true):Pairs (kD (p8 [] l (oO ops.toList []))) ops l:=by
 have key:∀ (i j:Nat) (x y:MI),i<j→l[i]?=some x→l[j]?=some y →
   (∀ listed,Closed ops listed→i∈Region.ready .any ops listed→j∈Region.ready .any ops listed→False) ∨
   (lO x y=true∧(kD (p8 [] l (oO ops.toList [])) i j=true∨ki (gf x.op) (gf y.op)=true)):=by
  intro i j x y hij hx hy;unfold ro at hd;rw[Uw] at hd
  by_cases hb:((oO ops.toList []).getD j 0).testBit i=true
  ·refine .inl fun listed hcl hi hj=>?_
   obtain⟨_,o,ho,hall⟩:=mem_ready.1 hj;have h1:=C7 hcl j o ho hall i hb;have h0:=(mem_ready.1 hi).1;rcases Uq i listed.size with h' | h'
   ·simp [h'] at h0 h1;rw[h0] at h1;cases h1
   ·simp [Array.getElem?_eq_none h'] at h1
  ·refine .inr ⟨?_,?_⟩
   ·rcases oP l [] _ hd.2 j y hy i x (by simpa using hx) (by simpa using hij) with h | h
    ·exact absurd h hb
    ·exact h
   ·rcases ux l [] (oO ops.toList []) j y hy i x (by simpa using hx) (by simpa using hij) with h | h | h
    ·exact absurd h hb
    ·exact .inr h
    ·exact .inl (by unfold kD;rw[if_pos hij];exact List.contains_iff_mem.2 h)
 intro i j x y hij hx hy;rcases Nat.lt_or_gt_of_ne hij with h | h
 ·exact key i j x y h hx hy
 ·rcases key j i y x h hy hx with h1 | ⟨h1,h2⟩
  ·exact .inl fun listed hcl hi hj=>h1 listed hcl hj hi
  ·refine .inr ⟨zo h1,?_⟩
   rcases h2 with h2 | h2
   ·exact .inl (by rw[sk];exact h2)
   ·exact .inr (by rw[xd];exact h2)
end Go.Mini
namespace Go.Mini
open Go
variable {P:Program} {T:Tab} {A:Nat→Prop} {w0 w:World} {B0 B:Lay} {mem:Mem} {n kb:Nat} {own:List Nat} {ops:Array Oper} {l:List MI} {K:St→Prop} {Q:Exit→Act→World→Prop}
theorem pJ:∀ (r:List Oper) (m:Nat),oh m r=true→∀ (t:Nat) (o:Oper),r[t]?=some o→∀ e∈o.after,Region.binds .any e=true→e.on<m+t
 | [],_,_,_,_,h,_,_,_=>by simp at h
 | o'::r,m,h,0,o,ho,e,he,hb=>by
  simp only[oh,Uw] at h;simp at ho;subst ho;have:=(Array.all_eq_true_iff_forall_mem.1 h.1) e he
  simpa [hb] using this
 | o'::r,m,h,t+1,o,ho,e,he,hb=>by
  simp only[oh,Uw] at h;have:=pJ r (m+1) h.2 t o (by simpa using ho) e he hb;omega
theorem Ea {c:List (List Nat)} (hp:Pairs (kD c) ops l) (hl:l.length=ops.size) (he:oh 0 ops.toList=true):∀ (r:List MI) (m:Nat) (rec:Rec) (st:St) (listed:Array Bool),l.drop m=r→m+r.length=l.length →
  listed.size=ops.size→(∀ i,i<ops.size→listed.getD i true=decide (i<m))→(∀ k,m≤k→rec k=none)→uS T K m r (c.drop m) rec st→rl T (kD c) ops l K r.length listed rec st
 | [],m,rec,st,listed,hr,hm,hs,hli,hrec,h=>by
  refine⟨List.eq_nil_iff_forall_not_mem.2 fun i hi=>?_,h⟩
  obtain⟨h1,o,ho,_⟩:=mem_ready.1 hi;have hlt:i<ops.size:=(Array.getElem?_eq_some_iff.1 ho).1;rw[hli i hlt] at h1;simp at h1 hm;omega
 | x::r,m,rec,st,listed,hr,hm,hs,hli,hrec,h=>by
  have hlt:m<ops.size:=by simp at hm;omega
  have ho:ops[m]?=some ops[m]:=Array.getElem?_eq_getElem hlt
  have hx:l[m]?=some x:=by
   have:(l.drop m)[0]?=some x:=by rw[hr];rfl
   simpa using this
  have hspec:=fun (j:Nat) (o:Oper) (hj:ops[j]?=some o)=>pJ ops.toList 0 he j o (by simpa using hj)
  have hin:∀ i,i<m→listed.getD i false=true:=fun i hi=>by
   have h1:=hli i (by omega);rw[decide_eq_true hi] at h1;have h2:i<listed.size:=by omega
   simpa [h2] using h1
  have hcl:Closed ops listed:=⟨hs,fun j o hj hjl e hee hb=>by
   have h1:=hspec j o hj e hee hb;have hj':j<ops.size:=(Array.getElem?_eq_some_iff.1 hj).1
   have h2:j<m:=by
    have:=hli j hj';have h3:j<listed.size:=by omega
    simp [h3] at hjl this;rw[hjl] at this
    simpa using this.symm
   exact hin _ (by omega)⟩
  have hready:m∈Region.ready .any ops listed:=mem_ready.2 ⟨by rw[hli m hlt];simp,_,ho,fun e hee hb=>hin _ (by have:=hspec m _ ho e hee hb;omega)⟩
  have hrec':∀ k,listed.getD k true=false→rec k=none:=fun k hk=>hrec k (by
   rcases Uq k ops.size with h' | h'
   ·rw[hli k h'] at hk
    simpa using hk
   ·omega)
  have next:∀ rec1 st1,Exec T (kD c) m x rec st rec1 st1→uS T K (m+1) r (c.drop m).tail rec1 st1→rl T (kD c) ops l K (r.length+1) listed rec st:=by
   intro rec1 st1 hex hk;refine yO hp (sk c) hx _ listed rec st rec1 st1 hcl hrec' hready hex (Ea hp hl he r (m+1) rec1 st1 _ ?_ (by simp at hm;omega) (by simpa using hs) (fun i hi=>?_) (fun k hk=>?_) ?_)
   ·rw[←UA,hr]
    rfl
   ·by_cases him:m=i
    ·subst him
     have:m<listed.size:=by omega
     simp [this]
    ·rw[getD_set_ne true him,hli i hi]
     congr 1
     simp;omega
   ·rw[Bd hex (by omega)]
    exact hrec k (by omega)
   ·rw[List.tail_drop] at hk
    exact hk
  simp only[uS] at h
  split at h
  ·cases h
  ·rename_i g hg
   split at h
   ·rename_i hgt
    subst hgt
    split at h
    ·rename_i mv e hs
     refine next _ _ (.inr ⟨hg,mv,e,hs,fun p q hpm hq=>?_,rfl,rfl⟩) h.2
     have hpl:p<m:=by
      rcases Uq p m with h' | h'
      ·exact h'
      ·rw[hrec p h'] at hq;cases hq
     have hchk:=h.1;unfold Hj at hchk;rw[Ux] at hchk
     have hmem:p∈(c.drop m).headD []:=by
      unfold kD at hpm;rw[if_pos hpl] at hpm
      have:(c.drop m).headD []=c.getD m []:=by
       rw[List.headD_eq_head?_getD,List.head?_drop,Uj]
      rw[this];exact List.contains_iff_mem.1 hpm
     have:=hchk p hmem;rw[hq] at this;exact this
    ·cases h
   ·rename_i hgf
    have hgf':g=false:=by simpa using hgf
    subst hgf';exact next _ _ (.inl ⟨hg,rfl,rfl⟩) h
theorem nZ (h:MemRel A w B mem):MemRel (OA A B) w (fun _=>none) emp :=
 ⟨fun _ _=>rfl,fun _ _ _ _ _ h=>(by cases h),fun b _ ⟨_,_,h,_⟩=>(by cases h),fun b hb=>hb.elim (fun h'=>h.own_lt h') (h.lt b),fun _ _ _ h=>(by cases h)⟩
theorem lg (b:Nat):OA (OA A B) (fun _=>none) b↔OA A B b :=
 ⟨fun h=>h.elim (fun⟨_,_,h,_⟩=>by cases h) id,.inr⟩
theorem Kz {m:MV} {v:Value} (h:VR w (OA A B) B m v):VR w (OA (OA A B) fun _=>none) (fun _=>none) (shut m) v:=by
 cases h with
 | dat h=>exact .dat (h.less fun b hb=>(lg b).1 hb)
 | nil=>exact .nil
 | clo hl hd =>
  rename_i f caps vs
  cases caps with
  | nil=>exact .clo hl fun i d v h=>by simp at h
  | cons c r=>exact .undef
 | agg hl hd =>
  rename_i cs vs
  simp only[shut]
  cases hc:cs.mapM nq with
  | none=>exact .undef
  | some ds =>
   obtain⟨h1,h2⟩:=dk hc;refine .dat (.agg (hl.trans h1.symm) fun i d v hi hv=>?_);have hlt:i<cs.length:=by have:=(List.getElem?_eq_some_iff.1 hi).1;omega
   have hci:=UB hlt;exact (vH (h2 i _ d hci hi) (hd i _ v hci hv)).less fun b hb=>(lg b).1 hb
 | _=>exact .undef
theorem rm {ms:List MV} {vs:List Value} (h:RL w (OA A B) B ms vs):RL w (OA (OA A B) fun _=>none) (fun _=>none) (ms.map shut) vs:=by
 refine⟨by simpa using h.1,fun i m v hm hv=>?_⟩
 rw[List.getElem?_map,UC] at hm;obtain⟨m',hm',rfl⟩:=hm;exact Kz (h.2 i m' v hm' hv)
theorem OwnRes.less {w w':World} {O O':Nat→Prop} {sz:Nat} {es:List (List Data)} {v:Value} (hl:∀ b,O' b→O b) (h:OwnRes w w' O sz es v):OwnRes w w' O' sz es v:=by
 obtain⟨h1,a,cap,h2,h3,h4,h5⟩:=h;refine⟨h1,a,cap,h2,h3,h4,h5.imp id ?_⟩;rintro⟨b,vs,T,h6,h7,h8,h9,h10⟩;exact⟨b,vs,T,h6,h7,h8,h9,fun i d hd=>let ⟨u,hu,hden⟩:=h10 i d hd;⟨u,hu,hden.less fun b' hb'=>hb'.imp (hl b') id⟩⟩
theorem iF {o:Oper} {c:Call} {f:FuncId} {a:Act} (ho:o.op = .call c) (hcal:c.callee = .value (.func f)) (hreal:Real P f):(execOp a.eval o).run P w = .ok (.enter f (c.args.toList.map a.eval).toArray) w:=by
 obtain⟨dst,op,type,pos,after,guard⟩:=o;simp only at ho;subst ho;obtain⟨callee,cargs,ats⟩:=c;simp only at hcal;subst hcal;simp only[execOp,resolve,Deferred.ofValue,Act.eval,invoke,Sem.run_bind,Sem.run_pure,Result.andThen_ok,na hreal];rw[cY cargs];simp
theorem Eh {O:Nat→Prop} {b off c sz len:Nat} {vs:Array Value} {T:TypeId} {ds:List Data} (hh:w.heap[b]?=some (.cells vs T (0,0))) (hO:¬ O b) (hl:ds.length=len*sz) (hlc:len≤c) (hm:len≤maxLen) (hfit:off+len*sz≤vs.size)
  (hd:∀ (i:Nat) (d:Data) (v:Value),ds[i]?=some d→vs[off+i]?=some v→Den w O d v):Den w O (.sl (chunk sz len ds)) (.slice (some ⟨b,off,none⟩) len c):=by
 have hcl:=kl sz len ds
 have h:=Den.sl (w:=w) (O:=O) (es:=chunk sz len ds) (b:=b) (off:=off) (c:=c) (sz:=sz) (fun i=>vs.getD (off+i) undef) (by rw[hcl];exact hlc) (by rw[hcl];exact hm)
  (Array.getElem?_eq_some_iff.1 hh).1 hO (mM sz len ds hl)
  (fun i hi=>by
   rw[hcl] at hi;rw[cell_of_row w b (off+i) vs T (0,0) hh];have:off+i<vs.size:=by omega
   simp [this])
  (fun i d hid=>by
   rw[mW sz len ds hl] at hid;have hlt:i<ds.length:=(List.getElem?_eq_some_iff.1 hid).1;have hlt2:off+i<vs.size:=by omega
   have:vs.getD (off+i) undef=vs[off+i]:=by simp [hlt2]
   simp only[this];exact hd i d _ hid (Array.getElem?_eq_getElem hlt2))
 rw[hcl] at h;exact h
theorem KG {mem:Mem} {k g sz off len:Nat} {cs:List MV} {d:Data} (hm:mem k=some (g,cs)) (h:KC sz off len cs=some d):toD 1 mem (.ref k g sz off len)=some d:=by
 have hz:∀ (m:MV) (d:Data),nq m=some d→toD 0 mem m=some d:=fun m d h=>by
  unfold nq at h
  split at h<;>simp_all [toD]
 have hl:∀ (l:List MV) (ds:List Data),l.mapM nq=some ds→l.mapM (toD 0 mem)=some ds:=by
  intro l
  induction l with
  | nil=>intro ds h;simpa using h
  | cons m l ih =>
   intro ds h;simp only[UD,UE,UF,UG,Option.some.injEq] at h ⊢;obtain⟨x,hx,ds',hds,rfl⟩:=h;exact⟨x,hz m x hx,ds',ih ds' hds,rfl⟩
 unfold KC at h
 split at h
 ·rename_i part hp
  simp only[Dc,UC] at h;obtain⟨ds,hds,rfl⟩:=h;simp only[toD,hm,if_true,hp];rw[hl _ _ hds]
  rfl
 ·cases h
theorem kF {k:Key} {g sz off len:Nat} {cs:List MV} {d:Data} {v:Value} (hmr:MemRel A w B mem) (hk:mem k=some (g,cs)) (hd:toD 1 mem (.ref k g sz off len)=some d) (hv:VR w (OA A B) B (.ref k g sz off len) v) :
  Den w (OA A (eY B k ⟨aC mem k,none,0⟩)) d v:=by
 have hO:∀ b,OA A (eY B k ⟨aC mem k,none,0⟩) b→OA A B b:=fun b h=>h.imp (fun⟨j,e,hj,hx⟩=>by
  by_cases hjk:j=k
  ·subst hjk;rw[ba] at hj;cases hj;cases hx
  ·rw[aQ B _ hjk] at hj;exact⟨j,e,hj,hx⟩) id
 simp only[toD,hk,if_true] at hd
 split at hd
 ·rename_i part hpart
  simp only[UC] at hd;obtain⟨ds,hds,rfl⟩:=hd;obtain⟨hcl,rfl,hpl⟩:=lZ hpart;obtain⟨h1,h2⟩:=dk hds
  cases hv with
  | ref he hgle hr =>
   obtain⟨e,he',hge,hn,hb⟩:=hmr.at_ hk;rw[he'] at he;obtain rfl:=Option.some.inj he;obtain⟨a,cap,rfl,h3,h4,h5⟩:=hr;rcases h5 with h5 | ⟨b,rfl,h6⟩
   ·have:len=0:=by omega
    subst this;simp only[chunk];exact .sl0
   ·obtain⟨h7,h8⟩:=h6 hge.symm
    obtain⟨vs,T,hh,hz,hle,hrl⟩:=hb b h7
    have hnot:¬ OA A (eY B k ⟨aC mem k,none,0⟩) b:=by
     rintro (⟨j,e2,hj,hx⟩ | ha)
     ·by_cases hjk:j=k
      ·subst hjk;rw[ba] at hj;cases hj;cases hx
      ·rw[aQ B _ hjk] at hj
       exact hjk (hmr.inj j k e2 _ b hj he' hx h7)
     ·exact hmr.sep b ha ⟨k,_,he',h7⟩
    refine Eh hh hnot (by omega) h3 (by omega) (by omega) fun i x u hx hu=>?_
    have hlt:i<ds.length:=(List.getElem?_eq_some_iff.1 hx).1;have hlt2:off+i<cs.length:=by omega
    have hci:((cs.drop off).take (len*sz))[i]?=some cs[off+i]:=by
     rw[UH (by omega),UI,UB hlt2]
    have hx':=h2 i _ x hci hx
    have hv':VR w (OA A B) B cs[off+i] u:=hrl.2 (off+i) _ u (UB hlt2) (by
     rw[UH hlt2,Array.getElem?_toList];exact hu)
    generalize cs[off+i]=m at *
    cases m<;>simp only[toD,Option.some.injEq,reduceCtorEq] at hx'
    ·subst hx'
     cases hv' with
     | dat h=>exact h.less hO
    ·subst hx'
     cases hv'
     exact .sl0
 ·cases hd
theorem FH (hT:j8 P T) {a:Act} {st:St} {o:Oper} {i:MI} {m:MV} {e:Option (Key × Nat × List MV)} (h:Sim n A w0 B0 a st w B) (hi:Is P n kb own ops o i)
  (hs:gS T st.mem st.tm i.op=some (m,e)):o.wp P a w (fun a' w'=>∃ B',Sim n A w0 B0 a' ⟨put st.tm i.dst m,gN st.mem e⟩ w' B') Q:=by
 have hop:=hi.op
 have plain:sop st.mem st.tm i.op=some (m,e)→o.wp P a w (fun a' w'=>∃ B',Sim n A w0 B0 a' ⟨put st.tm i.dst m,gN st.mem e⟩ w' B') Q:=by
  intro hs
  have htr:jM P kb own o.dst o.type o.op=some i.op:=getD_some hop (by
   intro hb;rw[hb] at hs
   cases hs)
  obtain⟨nx,v,w',B',hrun,hnx,hst,hv⟩:=Ay h.ok.mr h.rho htr hs;unfold Oper.wp;rw[hrun,hi.dst];have hsim:=h.put hst hv hi.lt;rcases hnx with rfl | ⟨rfl,rfl⟩
  ·exact⟨B',hsim⟩
  ·exact⟨B',hsim⟩
 cases hiop:i.op with
 | call f args =>
  have htr:jM P kb own o.dst o.type o.op=some i.op:=getD_some hop (by rw[hiop];simp);rw[hiop] at htr hs;obtain⟨c,hc,hcal,hargs⟩:=vE htr;have hrl:=rm (fJ h.rho hargs);rw[UJ] at hrl;simp only[gS] at hs
  split at hs
  ·rename_i r hTf
   cases hs;obtain⟨hreal,hspec⟩:=hT f _ _ _ hTf;have hcc:=hspec (OA A B) w (fun _=>none) _ (nZ h.ok.mr) hrl;unfold Oper.wp;rw[iF hc hcal hreal,hi.dst];refine Calls.mono hcc fun e w' he=>?_
   obtain⟨v,rfl,hfr,hd⟩:=he;exact⟨B,h.put (.still h.ok.mr hfr) (.dat (hd.less fun b hb=>(lg b).2 hb)) hi.lt⟩
  ·rename_i sz es hTf
   cases hs;obtain⟨hreal,hspec⟩:=hT f _ _ _ hTf;have hcc:=hspec (OA A B) w (fun _=>none) _ (nZ h.ok.mr) hrl;unfold Oper.wp;rw[iF hc hcal hreal,hi.dst];refine Calls.mono hcc fun e w' he=>?_
   obtain⟨v,rfl,hfr,hd⟩:=he;exact⟨B,h.put (.still h.ok.mr hfr) (.dat ((hd.less fun b hb=>(lg b).2 hb).den fun b hb=>hb.elim (fun h'=>h.ok.mr.own_lt h') (h.ok.mr.lt b))) hi.lt⟩
  ·cases hs
 | callo k sz f args =>
  have htr:jM P kb own o.dst o.type o.op=some i.op:=getD_some hop (by rw[hiop];simp);rw[hiop] at htr hs;obtain⟨c,hc,hcal,hargs⟩:=tg htr;have hrl:=rm (fJ h.rho hargs);rw[UJ] at hrl;simp only[gS] at hs
  split at hs
  ·rename_i sz' es hTf
   split at hs
   ·rename_i hsz
    subst hsz
    cases hs;obtain⟨hreal,hspec⟩:=hT f _ _ _ hTf;have hcc:=hspec (OA A B) w (fun _=>none) _ (nZ h.ok.mr) hrl;unfold Oper.wp;rw[iF hc hcal hreal,hi.dst];refine Calls.mono hcc fun e w' he=>?_
    obtain⟨v,rfl,hfr,hd⟩:=he;obtain⟨B',hst,hv⟩:=zi k h.ok.mr hfr (hd.less fun b hb=>(lg b).2 hb);exact⟨B',h.put hst hv hi.lt⟩
   ·cases hs
  ·cases hs
 | callm lo f args =>
  have htr:jM P kb own o.dst o.type o.op=some i.op:=getD_some hop (by rw[hiop];simp);rw[hiop] at htr hs;obtain⟨c,hc,hcal,hargs⟩:=C3 htr;have hrl:=fJ h.rho hargs;simp only[gS] at hs;obtain⟨r,k,g,ix,cc,cs,hTf,hm,rfl,rfl,hf⟩:=AO hs;obtain⟨hreal,hspec⟩:=hT f _ _ _ hTf;have hcc:=hspec A w B _ h.ok.mr hrl;unfold Oper.wp;rw[iF hc hcal hreal,hi.dst];refine Calls.mono hcc fun e w' he=>?_
  obtain⟨v,B',rfl,hst,hv⟩:=he;refine⟨B',?_⟩;have hcell:fH st.mem k=cs:=by simp only[fH,hm]
  rw[hcell] at hst;exact h.put hst hv hi.lt
 | callz j f args =>
  have htr:jM P kb own o.dst o.type o.op=some i.op:=getD_some hop (by rw[hiop];simp);rw[hiop] at htr hs;obtain⟨c,hc,hcal,hargs⟩:=Dh htr;have hrl0:=fJ h.rho hargs;simp only[gS] at hs;obtain⟨k,g,sz,off,len,cs,d,r,hx,hm,hd,hr,rfl,rfl⟩:=BI hs;have ok:=StepOK.virtual h.ok.mr k
  have hlt:j<(c.args.toList.map a.eval).length:=by
   rw[hrl0.1];exact (List.getElem?_eq_some_iff.1 hx).1
  have hvj:=UB hlt;have hden:=kF h.ok.mr hm (KG hm hd) (hrl0.2 j _ _ hx hvj);have hrl1:=rm (hrl0.keep ok.tr);rw[UJ] at hrl1
  have hrl2:RL w (OA (OA A (eY B k ⟨aC st.mem k,none,0⟩)) fun _=>none) (fun _=>none) ((args.map (shut ∘ ev st.tm)).set j (.dat d)) (c.args.toList.map a.eval):=by
   refine⟨by rw[hrl1.1,List.length_set],fun i m v h1 h2=>?_⟩
   by_cases hji:j=i
   ·subst hji
    rw[hvj] at h2
    cases h2;have hjl:j<(args.map (shut ∘ ev st.tm)).length:=by rw[←hrl1.1];exact hlt
    rw[UK hjl] at h1
    cases h1;exact .dat (hden.less fun b hb=>(lg b).1 hb)
   ·rw[UL hji] at h1
    exact hrl1.2 i m v h1 h2
  unfold LT at hr
  split at hr
  ·rename_i r' hTf
   cases hr;obtain⟨hreal,hspec⟩:=hT f _ _ _ hTf;have hcc:=hspec (OA A (eY B k ⟨aC st.mem k,none,0⟩)) w (fun _=>none) _ (nZ ok.mr) hrl2;unfold Oper.wp;rw[iF hc hcal hreal,hi.dst];refine Calls.mono hcc fun e w' he=>?_
   obtain⟨v,rfl,hfr,hd'⟩:=he;exact⟨_,h.put (ok.trans (.still ok.mr hfr)) (.dat (hd'.less fun b hb=>(lg b).2 hb)) hi.lt⟩
  ·rename_i sz' es hTf
   cases hr;obtain⟨hreal,hspec⟩:=hT f _ _ _ hTf;have hcc:=hspec (OA A (eY B k ⟨aC st.mem k,none,0⟩)) w (fun _=>none) _ (nZ ok.mr) hrl2;unfold Oper.wp;rw[iF hc hcal hreal,hi.dst];refine Calls.mono hcc fun e w' he=>?_
   obtain⟨v,rfl,hfr,hd'⟩:=he;exact⟨_,h.put (ok.trans (.still ok.mr hfr)) (.dat ((hd'.less fun b hb=>(lg b).2 hb).den fun b hb=>hb.elim (fun h'=>ok.mr.own_lt h') (ok.mr.lt b))) hi.lt⟩
  ·cases hr
 | callv f args=>rw[hiop] at hs;cases hs
 | isnil neg x=>rw[hiop] at hs;cases hs
 | _=>exact plain (by rw[hiop] at hs ⊢;exact hs)
theorem Ek {α β:Type} {f:α→Option β} {xs:List α} {ys:List β} (h:xs.mapM f=some ys) {i:Nat} {x:α} (hx:xs[i]?=some x):∃ y,ys[i]?=some y∧f x=some y:=by
 obtain⟨h1,h2⟩:=dk h;have hlt:i<ys.length:=by rw[h1];exact (List.getElem?_eq_some_iff.1 hx).1
 exact⟨_,UB hlt,h2 i x _ hx (UB hlt)⟩
theorem xL (hT:j8 P T) {conf:Nat→Nat→Bool} (htr:ops.toList.mapM (n0 P n kb own ops)=some l) (hQ:∀ st a w B,K st→Sim n A w0 B0 a st w B→Q .normal a w) :
  ∀ (fuel:Nat) (listed:Array Bool) (rec:Rec) (st:St) (a:Act) (w:World) (B:Lay),Sim n A w0 B0 a st w B→rl T conf ops l K fuel listed rec st→wpAny P .any ops Q fuel listed a w
 | 0,_,_,_,_,_,_,hs,h=>⟨h.1,hQ _ _ _ _ h.2 hs⟩
 | fuel+1,listed,rec,st,a,w,B,hs,h=>by
  refine⟨fun h0=>hQ _ _ _ _ (h.1 h0) hs,fun i hi=>?_⟩
  obtain⟨x,rec',st',hx,hex,hk⟩:=h.2 i hi;obtain⟨_,o,ho,_⟩:=mem_ready.1 hi;obtain⟨y,hy,hoy⟩:=Ek htr (i:=i) (x:=o) (by simpa using ho);rw[hx] at hy
  cases hy;have his:=Nu hoy;unfold wpOp;simp only[ho];rcases hex with ⟨hg,rfl,rfl⟩ | ⟨hg,m,e,hsop,_,rfl,rfl⟩
  ·rw[rD hs his.guard hg,if_neg (by simp)]
   exact xL hT htr hQ fuel _ _ _ _ _ B (by rw[his.dst];exact hs.put (.refl hs.ok.mr) .no his.lt) hk
  ·rw[rD hs his.guard hg,if_pos rfl]
   refine .inl (Oper.wp_mono (fun a' w' ⟨B',hs'⟩=>xL hT htr hQ fuel _ _ _ _ _ B' hs' hk) (FH hT hs his hsop))
theorem Sim.drew {a:Act} {st:St} (h:Sim n A w0 B0 a st w B) (d:Nat):Sim n A w0 B0 a st { w with drawn:=d } B:=by
 have hs:StepOK A w B { w with drawn:=d } B st.mem:=.still h.ok.mr ((Fr.refl _ _).drew d);exact⟨h.ok.trans hs,fun s=>(h.tm s).keep hs.tr,h.sz,h.df⟩
theorem JI (hT:j8 P T) (hm:P.follows .mixedOrders=true) {id:Nat} {a:Act} {st:St} (htr:ops.toList.mapM (n0 P n kb own ops)=some l) (hd:ro ops l=true) (hs:Sim n A w0 B0 a st w B)
  (h:uS T K 0 l (p8 [] l (oO ops.toList [])) (fun _=>none) st) (hQ:∀ st a w B,K st→Sim n A w0 B0 a st w B→Q .normal a w):(Code.region id ops true).wp P Q a w:=by
 refine wp_region_any hm ?_
 have hl:l.length=ops.size:=by
  rw[(dk htr).1,Array.length_toList]
 have hany:=Ea (Ip hd) hl (by unfold ro at hd;rw[Uw] at hd;exact hd.1) l 0 (fun _=>none) st (Array.replicate ops.size false) rfl (by simp) (by simp) (fun i hi=>by simp [hi]) (fun _ _=>rfl) h;rw[hl] at hany;exact xL hT htr hQ ops.size _ _ _ _ _ B (hs.drew _) hany
theorem xO (hT:j8 P T) (htr:ops.toList.mapM (n0 P n kb own ops)=some l) (hQ:∀ st a w B,K st→Sim n A w0 B0 a st w B→Q .normal a w) :
  ∀ (r:List MI) (m:Nat) (st:St) (a:Act) (w:World) (B:Lay),l.drop m=r→Sim n A w0 B0 a st w B→wpr T K r st→wpOps P ops Q (List.range' m r.length) a w
 | [],_,_,_,_,_,_,hs,h=>hQ _ _ _ _ h hs
 | x::r,m,st,a,w,B,hr,hs,h=>by
  have hx:l[m]?=some x:=by
   have:(l.drop m)[0]?=some x:=by rw[hr];rfl
   simpa using this
  have hr':l.drop (m+1)=r:=by rw[←UA,hr];rfl
  have hlt:m<ops.size:=by
   have h1:=(dk htr).1;have h2:=(List.getElem?_eq_some_iff.1 hx).1;simp at h1;omega
  have ho:ops[m]?=some ops[m]:=Array.getElem?_eq_getElem hlt;obtain⟨y,hy,hoy⟩:=Ek htr (i:=m) (x:=ops[m]) (by simp);rw[hx] at hy
  cases hy;have his:=Nu hoy;simp only[UM,List.range'_succ];rw[wpOps_cons];unfold wpOp;simp only[ho];simp only[wpr] at h
  split at h
  ·cases h
  ·rename_i g hg
   rw[rD hs his.guard hg]
   cases g with
   | true =>
    simp only[if_true] at h ⊢;exact .inl (Oper.wp_mono (fun a' w' ⟨st',B',hk,hs'⟩=>xO hT htr hQ r (m+1) st' a' w' B' hr' hs' hk) (H9 hT hs his h))
   | false =>
    simp only[UN,if_false] at h ⊢;exact xO hT htr hQ r (m+1) _ _ _ B hr' (hs.put (.refl hs.ok.mr) .no his.lt) (by rw[←his.dst];exact h)
end Go.Mini
namespace Go.Mini
open Go
variable {A:Nat→Prop} {w:World} {B:Lay} {mem:Mem}
theorem EC (hmr:MemRel A w B mem) {O:Nat→Prop} (hO:∀ b,O b→A b) {k:Key} {e:Bk} {b:Nat} (he:B k=some e) (hb:e.blk=some b):¬ O b :=
 fun h=>hmr.sep b (hO b h) ⟨k,e,he,hb⟩
theorem snap (hmr:MemRel A w B mem) {O:Nat→Prop} (hO:∀ b,O b→A b):∀ (d:Nat) (m:MV) (v:Value) (r:Data),toD d mem m=some r→VR w (OA A B) B m v→Den w O r v:=by
 have hdat:∀ (d:Data) (v:Value),VR w (OA A B) B (.dat d) v→Den w O d v:=fun d v h=>by
  cases h with
  | dat h=>exact h.less fun b hb => .inr (hO b hb)
 have hnil:∀ v,VR w (OA A B) B .nil v→Den w O (.sl []) v:=fun v h=>by
  cases h;exact .sl0
 intro d
 induction d with
 | zero =>
  intro m v r h hv
  cases m<;>simp only[toD,Option.some.injEq,reduceCtorEq] at h
  ·subst h;exact hdat _ _ hv
  ·subst h;exact hnil _ hv
 | succ d ih =>
  intro m v r h hv
  have lists:∀ (cs:List MV) (vs:List Value) (ds:List Data),cs.mapM (toD d mem)=some ds→vs.length=cs.length→(∀ (i:Nat) (x:MV) (u:Value),cs[i]?=some x→vs[i]?=some u→VR w (OA A B) B x u) →
    vs.length=ds.length∧∀ (i:Nat) (x:Data) (u:Value),ds[i]?=some x→vs[i]?=some u→Den w O x u:=by
   intro cs vs ds hds hl hr;obtain⟨h1,h2⟩:=dk hds;refine⟨by omega,fun i x u hx hu=>?_⟩
   have hlt:i<cs.length:=by have:=(List.getElem?_eq_some_iff.1 hx).1;omega
   have hci:=UB hlt;exact ih _ u x (h2 i _ x hci hx) (hr i _ u hci hu)
  cases m<;>simp only[toD,Option.some.injEq,UC,reduceCtorEq] at h
  case dat=>subst h;exact hdat _ _ hv
  case nil=>subst h;exact hnil _ hv
  case ref k g sz off len =>
   split at h
   ·rename_i g' cs hk
    split at h
    ·rename_i hg
     subst hg
     split at h
     ·rename_i part hpart
      simp only[UC] at h;obtain⟨ds,hds,rfl⟩:=h;obtain⟨hcl,rfl,hpl⟩:=lZ hpart;obtain⟨h1,h2⟩:=dk hds
      cases hv with
      | ref he hgle hr =>
       obtain⟨e,he',hge,hn,hb⟩:=hmr.at_ hk;rw[he'] at he
       cases he;obtain⟨a,cap,rfl,h3,h4,h5⟩:=hr;rcases h5 with h5 | ⟨b,rfl,h6⟩
       ·have:len=0:=by omega
        subst this;simp only[chunk];exact .sl0
       ·obtain⟨h7,h8⟩:=h6 hge.symm
        obtain⟨vs,T,hh,hz,hle,hrl⟩:=hb b h7;refine Eh hh (EC hmr hO he' h7) (by omega) h3 (by omega) (by omega) fun i x u hx hu=>?_
        have hlt:i<ds.length:=(List.getElem?_eq_some_iff.1 hx).1;have hlt2:off+i<cs.length:=by omega
        have hci:((cs.drop off).take (len*sz))[i]?=some cs[off+i]:=by
         rw[UH (by omega),UI,UB hlt2]
        refine ih _ u x (h2 i _ x hci hx) (hrl.2 (off+i) _ u (UB hlt2) ?_);rw[UH hlt2,Array.getElem?_toList];exact hu
     ·cases h
    ·cases h
   ·cases h
  case ptr k g off =>
   split at h
   ·rename_i g' cs hk
    split at h
    ·rename_i hg
     obtain⟨rfl,hoff⟩:=hg;simp only[UC] at h;obtain⟨ds,hds,rfl⟩:=h;obtain⟨h1,h2⟩:=dk hds
     cases hv with
     | ptr he hgle hr =>
      obtain⟨e,he',hge,hn,hb⟩:=hmr.at_ hk;rw[he'] at he
      cases he;obtain⟨b,rfl,h6⟩:=hr;have h7:=h6 hge.symm;obtain⟨vs,T,hh,hz,hle,hrl⟩:=hb b h7;rw[UO] at h1;refine .ptr (fun i=>vs.getD (off+i) undef) (Array.getElem?_eq_some_iff.1 hh).1 (EC hmr hO he' h7) (fun i hi=>?_) fun i x hx=>?_
      ·rw[cell_of_row w b (off+i) vs T (0,0) hh]
       have:off+i<vs.size:=by omega
       simp [this]
      ·have hlt:i<ds.length:=(List.getElem?_eq_some_iff.1 hx).1
       have hlt2:off+i<cs.length:=by omega
       have hlt3:off+i<vs.size:=by omega
       have hci:(cs.drop off)[i]?=some cs[off+i]:=by
        rw[UI,UB hlt2]
       have hu:vs.getD (off+i) undef=vs[off+i]:=by simp [hlt3]
       rw[hu];refine ih _ _ x (h2 i _ x hci hx) (hrl.2 (off+i) _ _ (UB hlt2) ?_);rw[UH hlt2,Array.getElem?_toList];exact Array.getElem?_eq_getElem hlt3
    ·cases h
   ·cases h
  case clo f cs =>
   obtain⟨ds,hds,rfl⟩:=h
   cases hv with
   | clo hl hd=>obtain⟨h1,h2⟩:=lists _ _ _ hds hl hd;exact .fn h1 h2
  case agg cs =>
   obtain⟨ds,hds,rfl⟩:=h
   cases hv with
   | agg hl hd=>obtain⟨h1,h2⟩:=lists _ _ _ hds hl hd;exact .agg h1 h2
  case tup cs =>
   obtain⟨ds,hds,rfl⟩:=h
   cases hv with
   | tup hl hd=>obtain⟨h1,h2⟩:=lists _ _ _ hds hl hd;exact .tup h1 h2
theorem VR.shift {O O':Nat→Prop} {B':Lay} (hO:∀ b,O' b→O b) (hk:∀ k e,B k=some e→∃ e',B' k=some e'∧(e'=e∨e.g<e'.g)) {m:MV} {v:Value} (h:VR w O B m v):VR w O' B' m v:=by
 induction h with
 | dat h=>exact .dat (h.less hO)
 | nil=>exact .nil
 | @ref k g sz off len e v he hg hv =>
  obtain⟨e',he',hh⟩:=hk k e he;rcases hh with rfl | hh
  ·exact .ref he' hg hv
  ·exact .ref he' (by omega) (hv.later (by omega))
 | @ptr k g off e v he hg hv =>
  obtain⟨e',he',hh⟩:=hk k e he;rcases hh with rfl | hh
  ·exact .ptr he' hg hv
  ·exact .ptr he' (by omega) (hv.later (by omega))
 | clo hl hd ih=>exact .clo hl ih
 | agg hl hd ih=>exact .agg hl ih
 | tup hl hd ih=>exact .tup hl ih
 | no=>exact .no
 | undef=>exact .undef
theorem GX (hmr:MemRel A w B mem) {k:Key} {g:Nat} {cs:List MV} {e:Bk} {b:Nat} (hk:mem k=some (g,cs)) (he:B k=some e) (hb:e.blk=some b) :
  MemRel (fun b'=>A b'∨b'=b) w (eY B k ⟨aC mem k,none,0⟩) (kill mem k)∧(∀ m v,VR w (OA A B) B m v→VR w (OA (fun b'=>A b'∨b'=b) (eY B k ⟨aC mem k,none,0⟩)) (eY B k ⟨aC mem k,none,0⟩) m v):=by
 have hg:=ma hmr k e he
 have hO:∀ b',OA (fun b'=>A b'∨b'=b) (eY B k ⟨aC mem k,none,0⟩) b'→OA A B b':=fun b' h=>by
  rcases h with ⟨j,e2,hj,hx⟩ | h | rfl
  ·by_cases hjk:j=k
   ·subst hjk;rw[ba] at hj;cases hj;cases hx
   ·rw[aQ B _ hjk] at hj;exact .inl ⟨j,e2,hj,hx⟩
  ·exact .inr h
  ·exact .inl ⟨k,e,he,hb⟩
 have hkey:∀ j e2,B j=some e2→∃ e',eY B k ⟨aC mem k,none,0⟩ j=some e'∧(e'=e2∨e2.g<e'.g):=fun j e2 hj=>by
  by_cases hjk:j=k
  ·subst hjk
   rw[he] at hj
   cases hj;exact⟨_,ba _ _ _,.inr hg⟩
  ·exact⟨e2,by rw[aQ B _ hjk];exact hj,.inl rfl⟩
 have shift:∀ m v,VR w (OA A B) B m v→VR w (OA (fun b'=>A b'∨b'=b) (eY B k ⟨aC mem k,none,0⟩)) (eY B k ⟨aC mem k,none,0⟩) m v:=fun m v h=>h.shift hO hkey
 refine⟨⟨fun j hj=>?_,fun j j' e1 e2 b' h1 h2 h3 h4=>?_,fun b' ha ho=>?_,fun b' ha=>?_,fun j g' cs' hj=>?_⟩,shift⟩
 ·by_cases hjk:j=k
  ·subst hjk;simp [kill,aB] at hj
  ·rw[aQ B _ hjk]
   simp only[kill,aB,hjk,if_false] at hj;exact hmr.dom j hj
 ·by_cases hjk:j=k
  ·subst hjk;rw[ba] at h1;cases h1;cases h3
  ·by_cases hjk':j'=k
   ·subst hjk';rw[ba] at h2;cases h2;cases h4
   ·rw[aQ B _ hjk] at h1
    rw[aQ B _ hjk'] at h2;exact hmr.inj j j' e1 e2 b' h1 h2 h3 h4
 ·obtain⟨j,e2,hj,hx⟩:=ho
  by_cases hjk:j=k
  ·subst hjk;rw[ba] at hj;cases hj;cases hx
  ·rw[aQ B _ hjk] at hj
   rcases ha with ha | rfl
   ·exact hmr.sep b' ha ⟨j,e2,hj,hx⟩
   ·exact hjk (hmr.inj j k e2 e b' hj he hx hb)
 ·rcases ha with ha | rfl
  ·exact hmr.lt b' ha
  ·exact hmr.own_lt ⟨k,e,he,hb⟩
 ·by_cases hjk:j=k
  ·subst hjk
   simp only[kill,aB,if_true,Option.some.injEq,Prod.mk.injEq] at hj;obtain⟨rfl,rfl⟩:=hj;exact⟨_,ba _ _ _,rfl,fun _=>rfl,fun b' hb'=>by cases hb'⟩
  ·simp only[kill,aB,hjk,if_false] at hj
   obtain⟨e2,h1,h2,h3,h4⟩:=hmr.blk j g' cs' hj;refine⟨e2,by rw[aQ B _ hjk];exact h1,h2,h3,fun b' hb'=>?_⟩
   obtain⟨vs,T,h5,h6,h7,h8⟩:=h4 b' hb';exact⟨vs,T,h5,h6,h7,fun i m hm=>let ⟨v,hv,hr⟩:=h8 i m hm;⟨v,hv,shift m v hr⟩⟩
end Go.Mini
namespace Go.Mini
open Go
variable {P:Program} {T:Tab} {A:Nat→Prop} {w0 w:World} {B0 B:Lay} {mem:Mem} {n kb:Nat} {own:List Nat} {Q:Exit→Act→World→Prop}
theorem wO {k:Key} {O O':Nat→Prop} {B':Lay} {v:Value} {sz:Nat} {e:Bk} (he:B k=some e) (hv:VR w O B' .nil v):VR w O' B (.ref k e.g sz 0 0) v:=by
 cases hv;exact .ref he (Un _) ⟨_,0,rfl,Un _,UP _,.inl rfl⟩
theorem jq {k:Key} {g i:Nat} {cs:List MV} {m m':MV} {w1:World} (hmr:MemRel A w B mem) (hk:mem k=some (g,cs)) (hi:cs[i]?=some m)
  (hv:∀ e b v,B k=some e→e.blk=some b→w.cell? ⟨b,i,none⟩=some v→VR w (OA A B) B m' v):∃ B',StepOK A w B w B' (aB mem k g (cs.set i m')):=by
 obtain⟨e,he,hge,hn,hb⟩:=hmr.at_ hk
 have ok:=StepOK.change (k:=k) (e':=e) (cs:=cs.set i m') hmr (Fr.refl _ w) (fun e2 he2 => .inl (by rw[he] at he2;cases he2;rfl)) (fun b hb2 => .inr ⟨e,he,hb2⟩) (fun h=>by
  have:=hn h;subst this
  rfl) (fun b hb2=>by
  obtain⟨vs,T,hh,hz,hle,hrl⟩:=hb b hb2;refine⟨vs,T,hh,hz,by simpa using hle,fun j x hx=>?_⟩
  by_cases hij:i=j
  ·subst hij
   have hlt:i<cs.length:=(List.getElem?_eq_some_iff.1 hi).1;rw[UK hlt] at hx
   cases hx;have hv2:i<vs.size:=by omega
   exact⟨vs[i],Array.getElem?_eq_getElem hv2,hv e b _ he hb2 (by rw[cell_of_row w b i vs T (0,0) hh];exact Array.getElem?_eq_getElem hv2)⟩
  ·rw[UL hij] at hx
   obtain⟨v,hvv,hr⟩:=hrl.get hx;refine⟨v,?_,hr⟩;have hlt:j<cs.length:=(List.getElem?_eq_some_iff.1 hx).1;rw[UH hlt,Array.getElem?_toList] at hvv;exact hvv)
 rw[hge] at ok;exact⟨_,ok⟩
theorem StepOK.move {k k':Key} {g:Nat} {cs:List MV} {e:Bk} (h:MemRel A w B mem) (hk:mem k=some (g,cs)) (he:B k=some e) (hne:k'≠k) :
  StepOK A w B w (eY (eY B k ⟨aC mem k,none,0⟩) k' ⟨aC mem k',e.blk,e.size⟩) (aB (aB mem k (aC mem k) []) k' (aC mem k') cs):=by
 have hown:∀ b,Own (eY (eY B k ⟨aC mem k,none,0⟩) k' ⟨aC mem k',e.blk,e.size⟩) b→Own B b:=by
  rintro b ⟨j,e2,hj,hb⟩
  by_cases h1:j=k'
  ·subst h1
   rw[ba] at hj
   cases hj;exact⟨k,e,he,hb⟩
  ·rw[aQ _ _ h1] at hj
   by_cases h2:j=k
   ·subst h2
    rw[ba] at hj
    cases hj
    cases hb
   ·rw[aQ _ _ h2] at hj
    exact⟨j,e2,hj,hb⟩
 have tr:Trans A w B w (eY (eY B k ⟨aC mem k,none,0⟩) k' ⟨aC mem k',e.blk,e.size⟩):=by
  refine⟨Un _,fun b _ hb=>⟨rfl,fun ho=>hb (.inl (hown b ho))⟩,fun j e2 hj=>?_⟩
  by_cases h1:j=k'
  ·subst h1
   exact⟨_,ba _ _ _,.inr (ma h j e2 hj)⟩
  ·rw[aQ _ _ h1]
   by_cases h2:j=k
   ·subst h2
    exact⟨_,ba _ _ _,.inr (ma h j e2 hj)⟩
   ·rw[aQ _ _ h2]
    exact⟨e2,hj,.inl rfl⟩
 refine⟨⟨fun j hj=>?_,fun j j' e1 e2 b h1 h2 hb1 hb2=>?_,fun b ha ho=>h.sep b ha (hown b ho),h.lt,fun j g2 cs2 hj=>?_⟩,tr,Fr.refl _ _,fun b hb => .inl (hown b hb)⟩
 ·simp only[aB] at hj
  by_cases h1:j=k'
  ·simp [h1] at hj
  ·by_cases h2:j=k
   ·rw[if_neg h1,if_pos h2] at hj
    cases hj
   ·simp only[h1,h2,if_false] at hj
    rw[aQ _ _ h1,aQ _ _ h2];exact h.dom j hj
 ·have main:∀ (j:Key) (e1:Bk),eY (eY B k ⟨aC mem k,none,0⟩) k' ⟨aC mem k',e.blk,e.size⟩ j=some e1→e1.blk=some b→(j=k'∧e.blk=some b)∨(j≠k'∧j≠k∧B j=some e1):=by
   intro j e1 hj hb
   by_cases h1:j=k'
   ·subst h1
    rw[ba] at hj
    cases hj;exact .inl ⟨rfl,hb⟩
   ·rw[aQ _ _ h1] at hj
    by_cases h2:j=k
    ·subst h2
     rw[ba] at hj
     cases hj
     cases hb
    ·rw[aQ _ _ h2] at hj
     exact .inr ⟨h1,h2,hj⟩
  rcases main j e1 h1 hb1 with ⟨r1,p1⟩ | ⟨r1,s1,p1⟩<;>rcases main j' e2 h2 hb2 with ⟨r2,p2⟩ | ⟨r2,s2,p2⟩
  ·rw[r1,r2]
  ·exact absurd (h.inj k j' e e2 b he p2 p1 hb2).symm s2
  ·exact absurd (h.inj k j e e1 b he p1 p2 hb1).symm s1
  ·exact h.inj j j' e1 e2 b p1 p2 hb1 hb2
 ·simp only[aB] at hj
  by_cases h1:j=k'
  ·subst h1
   simp only[if_true,Option.some.injEq,Prod.mk.injEq] at hj;obtain⟨rfl,rfl⟩:=hj;obtain⟨e0,he0,hg,hn,hb⟩:=h.blk k g cs hk;rw[he] at he0
   cases he0;refine⟨_,ba _ _ _,rfl,hn,fun b hbb=>?_⟩
   obtain⟨vs,T,h3,h4,h5,h6⟩:=hb b hbb;exact⟨vs,T,h3,h4,h5,fun i m hi=>let ⟨v,hv,hr⟩:=h6 i m hi;⟨v,hv,hr.keep tr⟩⟩
  ·simp only[h1,if_false] at hj
   rw[aQ _ _ h1]
   by_cases h2:j=k
   ·subst h2
    simp only[if_true,Option.some.injEq,Prod.mk.injEq] at hj;obtain⟨rfl,rfl⟩:=hj;exact⟨_,ba _ _ _,rfl,fun _=>rfl,fun b hb=>by cases hb⟩
   ·simp only[h2,if_false] at hj
    rw[aQ _ _ h2];obtain⟨e0,he0,hg,hn,hb⟩:=h.blk j g2 cs2 hj;refine⟨e0,he0,hg,hn,fun b hbb=>?_⟩
    obtain⟨vs,T,h3,h4,h5,h6⟩:=hb b hbb;exact⟨vs,T,h3,h4,h5,fun i m hi=>let ⟨v,hv,hr⟩:=h6 i m hi;⟨v,hv,hr.keep tr⟩⟩
theorem Sim.ghost {a:Act} {st:St} {B':Lay} {mem':Mem} {tm':Nat→MV} (h:Sim n A w0 B0 a st w B) (hs:StepOK A w B w B' mem') (ht:∀ s,tm' s=st.tm s∨VR w (OA A B') B' (tm' s) (a.eval (.tmp s))) :
  Sim n A w0 B0 a ⟨tm',mem'⟩ w B':=by
 refine⟨h.ok.trans hs,fun s=>?_,h.sz,h.df⟩
 rcases ht s with h1 | h1
 ·simp only[h1]
  exact (h.tm s).keep hs.tr
 ·exact h1
theorem GB {K:St→Prop} {a:Act} {st:St} {g:Ghost} (h:Sim n A w0 B0 a st w B) (hk:dP K st g):∃ st' B',K st'∧Sim n A w0 B0 a st' w B':=by
 have hev:∀ x:Opd,∃ v,VR w (OA A B) B (ev st.tm x) v∨∃ m,x = .c m:=fun x=>by
  cases x with
  | t s=>exact⟨_,.inl (h.tm s)⟩
  | c m=>exact⟨undef,.inr ⟨m,rfl⟩⟩
 cases g with
 | adopt s k sz =>
  simp only[dP] at hk
  split at hk
  ·rename_i hs
   have ok:=StepOK.virtual h.ok.mr k;refine⟨_,_,hk,h.ghost ok fun t=>?_⟩
   by_cases hts:t=s
   ·subst hts
    have:=h.tm t;rw[hs] at this;simp only[upd,if_true];exact .inr (wO (e:=⟨aC st.mem k,none,0⟩) (ba _ _ _) this)
   ·exact .inl (by simp [upd,hts])
  ·cases hk
 | freeze s =>
  simp only[dP] at hk
  split at hk
  ·rename_i k g sz off len hs
   split at hk
   ·rename_i g' cs hmem
    split at hk
    ·rename_i hg
     obtain⟨rfl,_⟩:=hg
     split at hk
     ·rename_i d hd
      have ok:=StepOK.virtual h.ok.mr k;refine⟨_,_,hk,h.ghost ok fun t=>?_⟩
      by_cases hts:t=s
      ·subst hts
       have hv:=h.tm t;rw[hs] at hv hd;simp only[upd,if_true];exact .inr (.dat (kF h.ok.mr hmem hd hv))
      ·exact .inl (by simp [upd,hts])
     ·cases hk
    ·cases hk
   ·cases hk
  ·cases hk
 | adoptC x i k sz =>
  simp only[dP] at hk
  split at hk
  ·rename_i kc g off hx
   split at hk
   ·rename_i g' cs hmem
    split at hk
    ·rename_i hg
     subst hg
     split at hk
     ·rename_i hc
      split at hk
      ·rename_i hne
       have ok:=StepOK.virtual h.ok.mr k;have hmem1:aB st.mem k (aC st.mem k) [] kc=some (g',cs):=by simp [aB,Ne.symm hne,hmem]
       obtain⟨e,he,hge,hn,hb⟩:=h.ok.mr.at_ hmem
       obtain⟨B',ok2⟩:=jq (w1:=w) (m':=.ref k (aC st.mem k) sz 0 0) ok.mr hmem1 hc (fun e2 b v he2 hb2 hv=>by
        rw[aQ B _ (Ne.symm hne)] at he2;rw[he] at he2
        cases he2;obtain⟨vs,T,hh,hz,hle,hrl⟩:=hb b hb2;have hlt:off+i<cs.length:=(List.getElem?_eq_some_iff.1 hc).1;rw[cell_of_row w b (off+i) vs T (0,0) hh] at hv;have hr:=hrl.2 (off+i) _ v hc (by rw[UH hlt,Array.getElem?_toList];exact hv);exact wO (e:=⟨aC st.mem k,none,0⟩) (ba _ _ _) hr)
       exact⟨_,B',hk,h.ghost (ok.trans ok2) fun t => .inl rfl⟩
      ·cases hk
     ·cases hk
    ·cases hk
   ·cases hk
  ·cases hk
 | freezeC x i =>
  simp only[dP] at hk
  split at hk
  ·rename_i kc gc off hx
   split at hk
   ·rename_i gc' cc hmemc
    split at hk
    ·rename_i hg
     subst hg
     split at hk
     ·rename_i k g sz o len hc
      split at hk
      ·rename_i g' cs hmem
       split at hk
       ·rename_i hg
        obtain⟨rfl,_,hne⟩:=hg
        split at hk
        ·rename_i d hd
         have ok:=StepOK.virtual h.ok.mr k;have hmem1:aB st.mem k (aC st.mem k) [] kc=some (gc',cc):=by simp [aB,Ne.symm hne,hmemc]
         obtain⟨e,he,hge,hn,hb⟩:=h.ok.mr.at_ hmemc
         obtain⟨B',ok2⟩:=jq (w1:=w) (m':=.dat d) ok.mr hmem1 hc (fun e2 b v he2 hb2 hv=>by
          rw[aQ B _ (Ne.symm hne)] at he2;rw[he] at he2
          cases he2;obtain⟨vs,T,hh,hz,hle,hrl⟩:=hb b hb2;have hlt:off+i<cc.length:=(List.getElem?_eq_some_iff.1 hc).1;rw[cell_of_row w b (off+i) vs T (0,0) hh] at hv;have hr:=hrl.2 (off+i) _ v hc (by rw[UH hlt,Array.getElem?_toList];exact hv);exact .dat (kF h.ok.mr hmem hd hr))
         exact⟨_,B',hk,h.ghost (ok.trans ok2) fun t => .inl rfl⟩
        ·cases hk
       ·cases hk
      ·cases hk
     ·cases hk
    ·cases hk
   ·cases hk
  ·cases hk
 | move =>
  rcases hk with hk | ⟨kx,gx,cx,i,k,g,sz,off,len,cs,k',hmx,hc,hmk,h1,h2,h3,hk⟩ | ⟨kx,gx,cx,i,k,g,sz,off,len,cs,d,hmx,hc,hmem,-,hne,hd,hk⟩
  ·exact⟨st,B,hk,h⟩
  ·obtain⟨e,he,hge,hn,hb⟩:=h.ok.mr.at_ hmk
   have ok:=StepOK.move h.ok.mr hmk he h2;have hmem1:aB (aB st.mem k (aC st.mem k) []) k' (aC st.mem k') cs kx=some (gx,cx):=by simp [aB,Ne.symm h1,Ne.symm h3,hmx]
   obtain⟨ex,hex,hgx,hnx,hbx⟩:=h.ok.mr.at_ hmx
   obtain⟨B',ok2⟩:=jq (w1:=w) (m':=.ref k' (aC st.mem k') sz off len) ok.mr hmem1 hc (fun e2 b v he2 hb2 hv=>by
    rw[aQ _ _ (Ne.symm h3),aQ _ _ (Ne.symm h1)] at he2;rw[hex] at he2
    cases he2;obtain⟨vs,T,hh,hz,hle,hrl⟩:=hbx b hb2;have hlt:i<cx.length:=(List.getElem?_eq_some_iff.1 hc).1;rw[cell_of_row w b i vs T (0,0) hh] at hv;have hr:=hrl.2 i _ v hc (by rw[UH hlt,Array.getElem?_toList];exact hv)
    cases hr with
    | ref he2 hgle hr =>
     rw[he] at he2
     cases he2;obtain⟨a,cap,rfl,h4,h5,h6⟩:=hr;refine .ref (ba _ _ _) (Un _) ⟨a,cap,rfl,h4,h5,h6.imp id ?_⟩;rintro⟨b',rfl,h7⟩;exact⟨b',rfl,fun _=>h7 hge.symm⟩)
   exact⟨_,B',hk,h.ghost (ok.trans ok2) fun t => .inl rfl⟩
  ·have ok:=StepOK.virtual h.ok.mr k
   have hmem1:aB st.mem k (aC st.mem k) [] kx=some (gx,cx):=by simp [aB,Ne.symm hne,hmx]
   obtain⟨e,he,hge,hn,hb⟩:=h.ok.mr.at_ hmx
   obtain⟨B',ok2⟩:=jq (w1:=w) (m':=.dat d) ok.mr hmem1 hc (fun e2 b v he2 hb2 hv=>by
    rw[aQ B _ (Ne.symm hne)] at he2;rw[he] at he2
    cases he2;obtain⟨vs,T,hh,hz,hle,hrl⟩:=hb b hb2;have hlt:i<cx.length:=(List.getElem?_eq_some_iff.1 hc).1;rw[cell_of_row w b i vs T (0,0) hh] at hv;have hr:=hrl.2 i _ v hc (by rw[UH hlt,Array.getElem?_toList];exact hv);exact .dat (kF h.ok.mr hmem hd hr))
   exact⟨_,B',hk,h.ghost (ok.trans ok2) fun t => .inl rfl⟩
 | many =>
  obtain⟨mem',hmv,hk⟩:=hk
  have main:∀ {m0 m1:Mem},Moves m0 m1→∀ B,Sim n A w0 B0 a ⟨st.tm,m0⟩ w B→∃ B',Sim n A w0 B0 a ⟨st.tm,m1⟩ w B':=by
   intro m0 m1 hmv
   induction hmv with
   | refl mem=>exact fun B h=>⟨B,h⟩
   | @step m0 m1 m2 hs _ ih =>
    intro B h
    have one:∃ B',Sim n A w0 B0 a ⟨st.tm,m1⟩ w B':=by
     cases hs with
     | mref kx gx cx i k g sz off len cs k' hmx hc hmk h1 h2 h3 =>
      obtain⟨e,he,hge,hn,hb⟩:=h.ok.mr.at_ hmk;have ok:=StepOK.move h.ok.mr hmk he h2;have hmem1:aB (aB m0 k (aC m0 k) []) k' (aC m0 k') cs kx=some (gx,cx):=by simp [aB,Ne.symm h1,Ne.symm h3,hmx]
      obtain⟨ex,hex,hgx,hnx,hbx⟩:=h.ok.mr.at_ hmx
      obtain⟨B',ok2⟩:=jq (w1:=w) (m':=.ref k' (aC m0 k') sz off len) ok.mr hmem1 hc (fun e2 b v he2 hb2 hv=>by
       rw[aQ _ _ (Ne.symm h3),aQ _ _ (Ne.symm h1)] at he2;rw[hex] at he2
       cases he2;obtain⟨vs,T,hh,hz,hle,hrl⟩:=hbx b hb2;have hlt:i<cx.length:=(List.getElem?_eq_some_iff.1 hc).1;rw[cell_of_row w b i vs T (0,0) hh] at hv;have hr:=hrl.2 i _ v hc (by rw[UH hlt,Array.getElem?_toList];exact hv)
       cases hr with
       | ref he2 hgle hr =>
        rw[he] at he2
        cases he2;obtain⟨a,cap,rfl,h4,h5,h6⟩:=hr;refine .ref (ba _ _ _) (Un _) ⟨a,cap,rfl,h4,h5,h6.imp id ?_⟩;rintro⟨b',rfl,h7⟩;exact⟨b',rfl,fun _=>h7 hge.symm⟩)
      exact⟨B',h.ghost (ok.trans ok2) fun t => .inl rfl⟩
     | mptr kx gx cx i k g off cs k' hmx hc hmk h1 h2 h3 =>
      obtain⟨e,he,hge,hn,hb⟩:=h.ok.mr.at_ hmk;have ok:=StepOK.move h.ok.mr hmk he h2;have hmem1:aB (aB m0 k (aC m0 k) []) k' (aC m0 k') cs kx=some (gx,cx):=by simp [aB,Ne.symm h1,Ne.symm h3,hmx]
      obtain⟨ex,hex,hgx,hnx,hbx⟩:=h.ok.mr.at_ hmx
      obtain⟨B',ok2⟩:=jq (w1:=w) (m':=.ptr k' (aC m0 k') off) ok.mr hmem1 hc (fun e2 b v he2 hb2 hv=>by
       rw[aQ _ _ (Ne.symm h3),aQ _ _ (Ne.symm h1)] at he2;rw[hex] at he2
       cases he2;obtain⟨vs,T,hh,hz,hle,hrl⟩:=hbx b hb2;have hlt:i<cx.length:=(List.getElem?_eq_some_iff.1 hc).1;rw[cell_of_row w b i vs T (0,0) hh] at hv;have hr:=hrl.2 i _ v hc (by rw[UH hlt,Array.getElem?_toList];exact hv)
       cases hr with
       | ptr he2 hgle hr =>
        rw[he] at he2
        cases he2;obtain⟨b',rfl,h7⟩:=hr;exact .ptr (ba _ _ _) (Un _) ⟨b',rfl,fun _=>h7 hge.symm⟩)
      exact⟨B',h.ghost (ok.trans ok2) fun t => .inl rfl⟩
     | mfrz kx gx cx i k g sz off len cs d hmx hc hmem hne hd =>
      have ok:=StepOK.virtual h.ok.mr k;have hmem1:aB m0 k (aC m0 k) [] kx=some (gx,cx):=by simp [aB,Ne.symm hne,hmx]
      obtain⟨e,he,hge,hn,hb⟩:=h.ok.mr.at_ hmx
      obtain⟨B',ok2⟩:=jq (w1:=w) (m':=.dat d) ok.mr hmem1 hc (fun e2 b v he2 hb2 hv=>by
       rw[aQ B _ (Ne.symm hne)] at he2;rw[he] at he2
       cases he2;obtain⟨vs,T,hh,hz,hle,hrl⟩:=hb b hb2;have hlt:i<cx.length:=(List.getElem?_eq_some_iff.1 hc).1;rw[cell_of_row w b i vs T (0,0) hh] at hv;have hr:=hrl.2 i _ v hc (by rw[UH hlt,Array.getElem?_toList];exact hv);exact .dat (kF h.ok.mr hmem hd hr))
      exact⟨B',h.ghost (ok.trans ok2) fun t => .inl rfl⟩
    obtain⟨B',h'⟩:=one;exact ih B' h'
  obtain⟨B',h'⟩:=main hmv B h;exact⟨_,B',hk,h'⟩
def erase:MCode→MCode
 | .skip => .skip
 | .ops l => .ops l
 | .opsD l c => .opsD l c
 | .seq a b => .seq (erase a) (erase b)
 | .cond c a b => .cond c (erase a) (erase b)
 | .block id c => .block id (erase c)
 | .loop c => .loop (erase c)
 | .exit id => .exit id
 | .ret => .ret
 | .ghost _ c=>erase c
def If:bP→Exit
 | .normal => .normal
 | .exit id => .exit id
 | .ret => .ret
def From (P:Program) (n kb:Nat) (own:List Nat) (c:Code):MCode→Prop
 | .skip=>c = .skip
 | .ops l=>∃ id ops,c = .region id ops false∧ops.toList.mapM (n0 P n kb own ops)=some l
 | .opsD l ch=>∃ id ops,c = .region id ops true∧ops.toList.mapM (n0 P n kb own ops)=some l∧ro ops l=true∧ch=p8 [] l (oO ops.toList [])
 | .seq x y=>∃ a b,c = .seq a b∧gZ P n kb own a=some x∧gZ P n kb own b=some y
 | .cond x y z=>∃ x' a b,c = .cond x' a b∧bo x'=some x∧gZ P n kb own a=some y∧gZ P n kb own b=some z
 | .block id x=>∃ a,c = .block id a∧gZ P n kb own a=some x
 | .loop x=>∃ a,c = .loop a∧gZ P n kb own a=some x
 | .exit id=>c = .exit id
 | .ret=>c = .ret
 | .ghost ..=>False
theorem eM {c:Code} {m:MCode} (h:gZ P n kb own c=some m):From P n kb own c m:=by
 cases c<;>simp only[gZ,Option.some.injEq,reduceCtorEq,UC] at h
 case skip=>subst h;rfl
 case region id ops draw =>
  split at h
  ·rename_i l hl
   split at h
   ·rename_i hd
    subst hd
    split at h
    ·rename_i hok
     cases h;exact⟨id,ops,rfl,hl,hok,rfl⟩
    ·cases h
   ·rename_i hd
    cases h;exact⟨id,ops,by rw[Bool.not_eq_true] at hd;rw[hd],hl⟩
  ·cases h
 case seq a b =>
  split at h
  ·rename_i x y hx hy
   cases h;exact⟨a,b,rfl,hx,hy⟩
  ·cases h
 case cond x a b =>
  split at h
  ·rename_i x' y z hx hy hz
   cases h;exact⟨x,a,b,rfl,hx,hy,hz⟩
  ·cases h
 case block id a =>
  obtain⟨x,hx,rfl⟩:=h;exact⟨a,rfl,hx⟩
 case loop a =>
  obtain⟨x,hx,rfl⟩:=h;exact⟨a,rfl,hx⟩
 case exit id=>subst h;rfl
 case ret=>subst h;rfl
theorem jP (hT:j8 P T) (hm:P.follows .mixedOrders=true):∀ (mc:MCode) (c:Code) (K:bP→St→Prop) (Q:Exit→Act→World→Prop) (st:St) (a:Act) (w:World) (B:Lay),
  gZ P n kb own c=some (erase mc)→Sim n A w0 B0 a st w B→wp T mc K st→(∀ e st a w B,K e st→Sim n A w0 B0 a st w B→Q (If e) a w)→c.wp P Q a w
 | .ghost g mc,c,K,Q,st,a,w,B,htr,hs,h,hQ=>by
  obtain⟨st',B',hk,hs'⟩:=GB hs h;exact jP hT hm mc c K Q st' a w B' htr hs' hk hQ
 | .skip,c,K,Q,st,a,w,B,htr,hs,h,hQ=>by
  obtain rfl:=eM htr;exact Go.wp_skip (hQ .normal st a w B h hs)
 | .exit id,c,K,Q,st,a,w,B,htr,hs,h,hQ=>by
  obtain rfl:=eM htr;exact Go.wp_exit (hQ (.exit id) st a w B h hs)
 | .ret,c,K,Q,st,a,w,B,htr,hs,h,hQ=>by
  obtain rfl:=eM htr;exact Go.wp_ret (hQ .ret st a w B h hs)
 | .ops l,c,K,Q,st,a,w,B,htr,hs,h,hQ=>by
  obtain⟨id,ops,rfl,hl⟩:=eM htr;have:=xO (Q:=Q) (K:=K .normal) hT hl (fun st a w B hk hs=>hQ .normal st a w B hk hs) l 0 st a w B rfl hs h;refine Go.wp_region ?_;rw[(dk hl).1,Array.length_toList] at this;rw[List.range_eq_range'];exact this
 | .opsD l ch,c,K,Q,st,a,w,B,htr,hs,h,hQ=>by
  obtain⟨id,ops,rfl,hl,hd,rfl⟩:=eM htr;exact JI hT hm hl hd hs h fun st a w B hk hs=>hQ .normal st a w B hk hs
 | .seq x y,c,K,Q,st,a,w,B,htr,hs,h,hQ=>by
  obtain⟨x',y',rfl,hx,hy⟩:=eM htr;refine Go.wp_seq (jP hT hm x x' _ _ st a w B hx hs h fun e st' a' w' B' hk hs'=>?_)
  cases e with
  | normal=>exact jP hT hm y y' _ _ st' a' w' B' hy hs' hk hQ
  | exit id=>exact hQ (.exit id) st' a' w' B' hk hs'
  | ret=>exact hQ .ret st' a' w' B' hk hs'
 | .cond x y z,c,K,Q,st,a,w,B,htr,hs,h,hQ=>by
  obtain⟨x',y',z',rfl,hx,hy,hz⟩:=eM htr;have hv:=hs.rho x' x hx;simp only[wp] at h
  split at h
  ·rename_i t ht
   rw[ht] at hv;refine Go.wp_cond hv.bool_inv ?_
   cases t with
   | true=>exact jP hT hm y y' _ _ st a w B hy hs h hQ
   | false=>exact jP hT hm z z' _ _ st a w B hz hs h hQ
  ·cases h
 | .block id x,c,K,Q,st,a,w,B,htr,hs,h,hQ=>by
  obtain⟨x',rfl,hx⟩:=eM htr;refine Go.wp_block (jP hT hm x x' _ _ st a w B hx hs h fun e st' a' w' B' hk hs'=>?_)
  cases e with
  | normal=>exact hQ .normal st' a' w' B' hk hs'
  | exit j =>
   simp only[If,Exit.inBlock];simp only at hk
   split
   ·rename_i hj
    rw[if_pos hj] at hk;exact hQ .normal st' a' w' B' hk hs'
   ·rename_i hj
    rw[if_neg hj] at hk;exact hQ (.exit j) st' a' w' B' hk hs'
  | ret=>exact hQ .ret st' a' w' B' hk hs'
 | .loop x,c,K,Q,st,a,w,B,htr,hs,h,hQ=>by
  obtain⟨x',rfl,hx⟩:=eM htr;obtain⟨I,μ,hI,hround⟩:=h
  have key:∀ m (st:St) (a:Act) (w:World) (B:Lay),μ st<m→I st→Sim n A w0 B0 a st w B→Code.rounds P x' Q m a w:=by
   intro m
   induction m with
   | zero=>intro st a w B hm';omega
   | succ m ih =>
    intro st a w B hm' hI hs;refine jP hT hm x x' _ _ st a w B hx hs (hround st hI) fun e st' a' w' B' hk hs'=>?_
    cases e with
    | normal=>exact ih st' a' w' B' (by have:=hk.2;omega) hk.1 hs'
    | exit id=>exact hQ (.exit id) st' a' w' B' hk hs'
    | ret=>exact hQ .ret st' a' w' B' hk hs'
  exact wp_loop_rounds (μ st+1) (key _ st a w B (Nat.lt_succ_self _) hI hs)
end Go.Mini
namespace Go.Mini
open Go
variable {P:Program} {T:Tab} {A:Nat→Prop} {w0 w:World} {B0 B:Lay} {mem:Mem} {n kb:Nat} {own:List Nat}
theorem K6 {a:Act} {st:St} {r:ResultVar} {mr:ns} {m:MV} (hs:Sim n A w0 B0 a st w B) (htr:wd P r=some mr) (h:GF st mr=some m) :
  ∃ v,((match r with
   | .tmp t=>pure (a.tmps.getD t undef)
   | .cell b t=>do loadVar t (←asAddr (a.tmps.getD b undef)):Sem Value)).run P w = .ok v w∧VR w (OA A B) B m v:=by
 cases r with
 | tmp t =>
  simp only[wd,Option.some.injEq] at htr;subst htr;simp only[GF,Option.some.injEq] at h;subst h;exact⟨_,rfl,hs.tm t⟩
 | cell b t =>
  simp only[wd] at htr
  split at htr
  ·rename_i s g hsz hag
   simp only[Option.some.injEq] at htr;subst htr;obtain⟨blk,off,ms,vs,hv,hl,hrl,hat,hr⟩:=Ap hs.ok.mr (hs.tm b) h;obtain⟨u,h1,h2⟩:=vQ (P:=P) hsz hag hl hrl hat hr;refine⟨u,?_,h2⟩;have:a.tmps.getD b undef = .pointer (some ⟨blk,off,none⟩):=hv;simp only[this,asAddr,Sem.run_bind,Sem.run_pure,Result.andThen_ok];exact h1
  ·cases htr
theorem sC {a:Act} {st:St} (hs:Sim n A w0 B0 a st w B):∀ {l:List ResultVar} {rs:List ns} {ms:List MV},l.mapM (wd P)=some rs→rs.mapM (GF st)=some ms →
  ∃ vs:List Value,(l.mapM fun r=>((match r with
   | .tmp t=>pure (a.tmps.getD t undef)
   | .cell b t=>do loadVar t (←asAddr (a.tmps.getD b undef)):Sem Value))).run P w = .ok vs w∧RL w (OA A B) B ms vs
 | [],rs,ms,h1,h2=>by
  simp at h1;subst h1;simp at h2;subst h2;exact⟨[],rfl,RL.nil⟩
 | r::l,rs,ms,h1,h2=>by
  simp only[UD,UE,UF,UG,Option.some.injEq] at h1;obtain⟨x,hx,xs,hxs,rfl⟩:=h1;simp only[UD,UE,UF,UG,Option.some.injEq] at h2;obtain⟨m,hm,ms',hms,rfl⟩:=h2;obtain⟨v,hv,hr⟩:=K6 hs hx hm;obtain⟨vs,hvs,hrl⟩:=sC hs hxs hms;refine⟨v::vs,?_,RL.cons hr hrl⟩;simp only[UD,Sem.run_bind,hv,Result.andThen_ok,hvs,Sem.run_pure]
theorem sB {a:Act} {st:St} {fn:Func} {rs:List ns} {m:MV} (hs:Sim n A w0 B0 a st w B) (htr:fn.results.toList.mapM (wd P)=some rs) (h:gk st rs=some m) :
  ∃ v,(results fn a.tmps).run P w = .ok v w∧VR w (OA A B) B m v:=by
 unfold gk at h
 have main:∀ ms,rs.mapM (GF st)=some ms→∃ vs:List Value,(results fn a.tmps).run P w = .ok (if h:vs.toArray.size=1 then vs.toArray[0] else .tuple vs.toArray) w∧RL w (OA A B) B ms vs:=by
  intro ms hms;obtain⟨vs,h1,h2⟩:=sC hs htr hms;refine⟨vs,?_,h2⟩;unfold results;rw[Array.mapM_eq_mapM_toList,map_eq_pure_bind];simp only[Sem.run_bind,Sem.run_pure];have h1':=h1;generalize hq:(List.mapM _ fn.results.toList:Sem (List Value))=q;have:q.run P w = .ok vs w:=by rw[←hq];exact h1'
  rw[this]
  rfl
 split at h
 ·rename_i x hms
  simp only[Option.some.injEq] at h;subst h;obtain⟨vs,h1,h2⟩:=main _ hms;have hl:=h2.1;simp at hl;obtain⟨v,rfl⟩:=List.length_eq_one_iff.1 hl;exact⟨v,h1,h2.2 0 _ v rfl rfl⟩
 ·rename_i ms hne hms
  simp only[Option.some.injEq] at h;subst h;obtain⟨vs,h1,h2⟩:=main _ hms;have hl:=h2.1;refine⟨_,h1,?_⟩
  have:¬ (vs.toArray.size=1):=fun h=>by
   have h':ms.length=1:=by rw[←hl];simpa using h
   obtain⟨x,rfl⟩:=List.length_eq_one_iff.1 h';exact hne x rfl
  rw[dif_neg this];exact .tup hl h2.2
 ·cases h
def Kw (mf:MFunc) (Post:MV→Mem→Prop):bP→St→Prop
 | .exit _,_=>False
 | _,st=>∃ m,gk st mf.res=some m∧Post m st.mem
theorem kz (hT:j8 P T) (hm:P.follows .mixedOrders=true) {f:FuncId} {fn:Func} {mf:MFunc} (hf:P.funcs[f]?=some fn) (htr:jV P kb own fn=some { mf with body:=erase mf.body }) {args:List MV} (hargs:args.length≤mf.n)
  {Post:MV→Mem→Prop} {K:bP→St→Prop} (hK:∀ e st,K e st→Kw mf Post e st) (h:wp T mf.body K ⟨az args,mem⟩) {A:Nat→Prop} {w:World} {B:Lay} {vs:List Value} (hmr:MemRel A w B mem) (hv:RL w (OA A B) B args vs) :
  Calls P f vs.toArray w fun e w'=>∃ v m mem' B',e = .returned v∧StepOK A w B w' B' mem'∧VR w' (OA A B') B' m v∧Post m mem':=by
 unfold jV at htr
 split at htr
 ·cases htr
 ·rename_i c hb
  split at htr
  ·rename_i b rs hc hrs
   simp only[Option.some.injEq,MFunc.mk.injEq] at htr;obtain⟨hn,hnp,hres,hbody⟩:=htr;have hsz:vs.length=args.length:=hv.1;refine calls_of_wp hf hb ?_;rw[hbody] at hc;refine jP hT hm mf.body c K _ ⟨az args,mem⟩ _ w B hc ⟨.refl hmr,fun s=>?_,?_,rfl⟩ h fun e st a w' B' hk0 hs=>?_
   ·simp only[az,Act.eval,Array.getD_eq_getD_getElem?]
    rcases Uq s vs.length with hlt | hge
    ·have h1:args[s]?=some args[s]:=UB (by omega)
     have h2:(vs.toArray++Array.replicate (fn.ntmps-vs.toArray.size) undef)[s]?=some vs[s]:=by
      rw[Array.getElem?_append_left (by simpa using hlt)];simp [hlt]
     rw[h1,h2];exact hv.2 s _ _ h1 (UB hlt)
    ·rw[Ur (by omega),Array.getElem?_append_right (by simpa using hge)]
     have:((Array.replicate (fn.ntmps-vs.toArray.size) undef)[s-vs.toArray.size]?).getD undef=undef:=by
      cases hq:(Array.replicate (fn.ntmps-vs.toArray.size) undef)[s-vs.toArray.size]? with
      | none=>rfl
      | some u =>
       have:=Array.mem_of_getElem? hq;simp at this;simp [this.2]
     rw[this];exact .no
   ·simp
    omega
   ·have hk:=hK e st hk0
    cases e with
    | exit id=>cases hk
    | normal =>
     obtain⟨m,hm',hp⟩:=hk;obtain⟨v,hrun,hvr⟩:=sB hs hrs (by rw[hres];exact hm');exact⟨hs.df,v,hrun,v,m,_,B',rfl,hs.ok,hvr,hp⟩
    | ret =>
     obtain⟨m,hm',hp⟩:=hk;obtain⟨v,hrun,hvr⟩:=sB hs hrs (by rw[hres];exact hm');exact⟨hs.df,v,hrun,v,m,_,B',rfl,hs.ok,hvr,hp⟩
  ·cases htr
inductive PRes where
 | same (r:Data)
 | own (sz:Nat) (es:List (List Data))
def yL (w:World) (O:Nat→Prop) (ds:List Data) (vs:List Value):Prop:=vs.length=ds.length∧∀ (i:Nat) (d:Data) (v:Value),ds[i]?=some d→vs[i]?=some v→Den w O d v
def Ox (w w':World) (O:Nat→Prop):PRes→Value→Prop
 | .same r,v=>Den w' O r v
 | .own sz es,v=>OwnRes w w' O sz es v
structure aT (P:Program) (f:FuncId) (F:List Data→Option PRes):Prop where
 real:Real P f
 run:∀ ds r,F ds=some r→∀ (A:Nat→Prop) (w:World) (vs:List Value),(∀ b,A b→b<w.heap.size)→yL w A ds vs →
  Calls P f vs.toArray w fun e w'=>∃ v,e = .returned v∧Fr (fun _=>False) w w'∧Ox w w' A r v
def Nc:PRes→MV→Mem→Prop
 | .same r,m,mem=>∃ d,toD d mem m=some r
 | .own sz es,m,mem=>(m = .nil∧es=[])∨∃ k g len cs ds d,m = .ref k g sz 0 len∧mem k=some (g,cs)∧len*sz≤cs.length∧(cs.take (len*sz)).mapM (toD d (kill mem k))=some ds∧es=chunk sz len ds
def rW (sz:Nat) (mem:Mem):MV→Option (List (List Data))
 | .nil=>some []
 | .ref k g sz' off len=>if sz'=sz∧off=0 then (match mem k with
  | some (g',cs)=>if g'=g∧len*sz≤cs.length then ((cs.take (len*sz)).mapM (toD 6 (kill mem k))).map (chunk sz len) else none
  | none=>none) else none
 | _=>none
def xp (res:List ns):PRes→St→Prop
 | .same r,st=>(gk st res).bind (toD 6 st.mem)=some r
 | .own sz es,st=>(gk st res).bind (rW sz st.mem)=some es
def bG (res:List ns) (r:PRes):bP→St→Prop
 | .exit _,_=>False
 | .normal,st=>xp res r st
 | .ret,st=>xp res r st
theorem vZ {mf:MFunc} {r:PRes} {st:St} (h:xp mf.res r st):∃ m,gk st mf.res=some m∧Nc r m st.mem:=by
 cases r with
 | same r =>
  simp only[xp,UG] at h;obtain⟨m,h1,h2⟩:=h;exact⟨m,h1,6,h2⟩
 | own sz es =>
  simp only[xp,UG] at h;obtain⟨m,h1,h2⟩:=h;refine⟨m,h1,?_⟩
  cases m<;>simp only[rW,Option.some.injEq,reduceCtorEq] at h2
  ·exact .inl ⟨rfl,h2.symm⟩
  ·split at h2
   ·rename_i hc
    obtain⟨rfl,rfl⟩:=hc
    split at h2
    ·rename_i g' cs hk
     split at h2
     ·rename_i hg
      obtain⟨rfl,hle⟩:=hg;simp only[UC] at h2;obtain⟨ds,hds,rfl⟩:=h2;exact .inr ⟨_,_,_,cs,ds,6,rfl,hk,hle,hds,rfl⟩
     ·cases h2
    ·cases h2
   ·cases h2
theorem Fj {mf:MFunc} {r:PRes} {e:bP} {st:St} (h:bG mf.res r e st):Kw mf (Nc r) e st:=by
 cases e with
 | exit id=>exact h
 | normal=>exact vZ h
 | ret=>exact vZ h
theorem qw (b:Nat):¬ Own (fun _=>none) b:=fun⟨_,_,h,_⟩=>by cases h
theorem H1 (hT : j8 P T) (hm : P.follows .mixedOrders = true) {f : FuncId} {fn : Func} {mf : MFunc} (hf : P.funcs[f]? = some fn) (hname : (fn.name == "runtime.NumGoroutine") = false) (htr : jV P kb own fn = some { mf with body := erase mf.body })
  {F:List Data→Option PRes} (h:∀ ds r,F ds=some r→ds.length≤mf.n∧wp T mf.body (bG mf.res r) ⟨az (ds.map .dat),emp⟩):aT P f F:=by
 refine⟨?_,fun ds r hF A w vs hlt hden=>?_⟩
 ·cases hb:fn.body with
  | none=>simp [jV,hb] at htr
  | some c=>exact⟨fn,c,hf,hb,hname⟩
 ·obtain⟨hlen,hwp⟩:=h ds r hF
  have hmr:MemRel A w (fun _=>none) emp:=⟨fun _ _=>rfl,fun _ _ _ _ _ h=>(by cases h),fun b _ ho=>qw b ho,hlt,fun _ _ _ h=>(by cases h)⟩
  have hO:∀ b,OA A (fun _=>none) b→A b:=fun b h=>h.elim (fun h=>(qw b h).elim) id
  have hrl:RL w (OA A fun _=>none) (fun _=>none) (ds.map .dat) vs:=RL.dat hden.1 fun i d v h1 h2=>(hden.2 i d v h1 h2).less hO
  refine Calls.mono (kz hT hm hf htr (by simpa using hlen) (fun e st=>Fj) hwp hmr hrl) fun e w' he=>?_
  obtain⟨v,m,mem',B',rfl,hs,hv,hp⟩:=he;refine⟨v,rfl,⟨hs.fr.os,hs.fr.tape,hs.fr.output,hs.fr.size,fun g hg _=>hs.fr.block g hg (qw g)⟩,?_⟩
  cases r with
  | same r =>
   obtain⟨d,hd⟩:=hp;exact snap hs.mr (fun b hb=>hb) d m v r hd hv
  | own sz es =>
   rcases hp with ⟨rfl,rfl⟩ | ⟨k,g,len,cs,ds',d,rfl,hk,hle,hds,rfl⟩
   ·cases hv
    exact⟨by simp,_,0,rfl,Un _,UP _,.inl rfl⟩
   ·obtain⟨h1,h2⟩:=dk hds
    have hdl:ds'.length=len*sz:=by rw[h1,UQ];omega
    refine⟨mM sz len ds' hdl,?_⟩;rw[kl,mW sz len ds' hdl]
    cases hv with
    | ref he hgle hr =>
     obtain⟨e,he',hge,hn,hb⟩:=hs.mr.at_ hk;rw[he'] at he;obtain rfl:=Option.some.inj he;obtain⟨a,cap,rfl,h3,h4,h5⟩:=hr;refine⟨a,cap,rfl,h3,h4,h5.imp id ?_⟩;rintro⟨b,rfl,h6⟩;obtain⟨h7,h8⟩:=h6 hge.symm;obtain⟨vs',T',hh,hz,hle',hrl'⟩:=hb b h7;obtain⟨hmr2,hsh⟩:=GX hs.mr hk he' h7;refine⟨b,vs',T',rfl,?_,hh,by simpa [hz] using h8,fun i x hx=>?_⟩
     ·rcases hs.fresh b ⟨k,_,he',h7⟩ with h | h
      ·exact (qw b h).elim
      ·exact h
     ·have hlt1:i<ds'.length:=(List.getElem?_eq_some_iff.1 hx).1
      have hlt2:i<cs.length:=by omega
      have hci:(cs.take (len*sz))[i]?=some cs[i]:=by
       rw[UH (by omega)];exact UB hlt2
      have hlt3:i<vs'.size:=by omega
      refine⟨vs'[i],Array.getElem?_eq_getElem hlt3,snap hmr2 (fun b hb=>hb) d _ _ x (h2 i _ x hci hx) (hsh _ _ (hrl'.2 i _ _ (UB hlt2) ?_))⟩;rw[UH hlt2,Array.getElem?_toList];exact Array.getElem?_eq_getElem hlt3
def scalar:Data→Bool
 | .int _ _=>true
 | .bool _=>true
 | .str _=>true
 | .nilp=>true
 | .nilf=>true
 | .sl []=>true
 | .tup ds=>ds.attach.all fun⟨d,_⟩=>scalar d
 | .agg ds=>ds.attach.all fun⟨d,_⟩=>scalar d
 | _=>false
theorem tS {O O':Nat→Prop} {d:Data} {v:Value} (h:scalar d=true) (hd:Den w O d v):Den w O' d v:=by
 induction hd with
 | int=>exact .int
 | bool=>exact .bool
 | str=>exact .str
 | nilp=>exact .nilp
 | nilf=>exact .nilf
 | sl0=>exact .sl0
 | @sl es b off c sz val hl hm hb hO hsz hc hd ih =>
  cases es with
  | nil=>exact .sl0
  | cons=>simp [scalar] at h
 | ptr=>simp [scalar] at h
 | fn=>simp [scalar] at h
 | @agg cs vs hl hd ih =>
  simp only[scalar,Ux,UR,true_imp_iff,Subtype.forall] at h;exact .agg hl fun i d v h1 h2=>ih i d v h1 h2 (h d (US h1))
 | @tup cs vs hl hd ih =>
  simp only[scalar,Ux,UR,true_imp_iff,Subtype.forall] at h;exact .tup hl fun i d v h1 h2=>ih i d v h1 h2 (h d (US h1))
theorem rB {O:Nat→Prop}:∀ (d:Nat) (m:MV) (v:Value) (r:Data),toD d emp m=some r→VR w O B m v→Den w O r v:=by
 intro d
 induction d with
 | zero =>
  intro m v r h hv
  cases m<;>simp only[toD,Option.some.injEq,reduceCtorEq] at h
  ·subst h;cases hv with | dat h=>exact h
  ·subst h;cases hv;exact .sl0
 | succ d ih =>
  intro m v r h hv
  have lists:∀ (cs:List MV) (vs:List Value) (ds:List Data),cs.mapM (toD d emp)=some ds→vs.length=cs.length→(∀ (i:Nat) (x:MV) (u:Value),cs[i]?=some x→vs[i]?=some u→VR w O B x u) →
    vs.length=ds.length∧∀ (i:Nat) (x:Data) (u:Value),ds[i]?=some x→vs[i]?=some u→Den w O x u:=by
   intro cs vs ds hds hl hr;obtain⟨h1,h2⟩:=dk hds;refine⟨by omega,fun i x u hx hu=>?_⟩
   have hlt:i<cs.length:=by have:=(List.getElem?_eq_some_iff.1 hx).1;omega
   have hci:=UB hlt;exact ih _ u x (h2 i _ x hci hx) (hr i _ u hci hu)
  cases m<;>simp only[toD,emp,Option.some.injEq,UC,reduceCtorEq] at h
  case dat=>subst h;cases hv with | dat h=>exact h
  case nil=>subst h;cases hv;exact .sl0
  case clo f cs =>
   obtain⟨ds,hds,rfl⟩:=h
   cases hv with
   | clo hl hd=>obtain⟨h1,h2⟩:=lists _ _ _ hds hl hd;exact .fn h1 h2
  case agg cs =>
   obtain⟨ds,hds,rfl⟩:=h
   cases hv with
   | agg hl hd=>obtain⟨h1,h2⟩:=lists _ _ _ hds hl hd;exact .agg h1 h2
  case tup cs =>
   obtain⟨ds,hds,rfl⟩:=h
   cases hv with
   | tup hl hd=>obtain⟨h1,h2⟩:=lists _ _ _ hds hl hd;exact .tup h1 h2
def DS:PRes→Eff
 | .same r => .same r
 | .own sz es => .own sz es
def lent:PRes→Option Eff
 | .same r=>if scalar r=true then some (.same r) else none
 | .own sz es=>if (es.all fun e=>e.all scalar)=true then some (.own sz es) else none
def MC (F:List Data→Option PRes):Option (List Data)→Option Eff
 | some ds=>(F ds).bind lent
 | none=>none
def GE (F:List Data→Option PRes):Option (List Data)→Option (List Data)→Option Eff
 | some ds,_=>(F ds).map DS
 | none,x=>MC F x
def mkE (F:List Data→Option PRes) (args:List MV) (mem:Mem):Option Eff:=GE F (args.mapM (toD 6 emp)) (args.mapM (toD 6 mem))
def mkT (PT:FuncId→Option (List Data→Option PRes)):Tab:=fun f args mem=>match PT f with
 | some F=>mkE F args mem
 | none=>none
theorem DW {O:Nat→Prop} {g:MV→Option Data} {args:List MV} {ds:List Data} {vs:List Value} (h:args.mapM g=some ds) (hv:RL w O B args vs) {O':Nat→Prop} (hd:∀ m v r,g m=some r→VR w O B m v→Den w O' r v):yL w O' ds vs:=by
 obtain⟨h1,h2⟩:=dk h;refine⟨by rw[hv.1,h1],fun i d v hd' hv'=>?_⟩
 have hlt:i<args.length:=by have:=(List.getElem?_eq_some_iff.1 hd').1;omega
 have hai:=UB hlt;exact hd _ v d (h2 i _ d hai hd') (hv.2 i _ v hai hv')
theorem Ia {PT:FuncId→Option (List Data→Option PRes)} (h:∀ f F,PT f=some F→aT P f F):j8 P (mkT PT):=by
 intro f args mem eff hTf;unfold mkT at hTf
 split at hTf
 ·rename_i F hF
  have hspec:=h f F hF;refine⟨hspec.real,fun A w B vs hmr hv=>?_⟩
  unfold mkE at hTf
  cases hds:args.mapM (toD 6 emp) with
  | some ds =>
   rw[hds] at hTf;simp only[GE,UC] at hTf;obtain⟨r,hr,rfl⟩:=hTf;have hc:=hspec.run ds r hr (OA A B) w vs (fun b hb=>hb.elim (fun h=>hmr.own_lt h) (hmr.lt b)) (DW hds hv fun m v r=>rB 6 m v r)
   cases r with
   | same r=>exact hc
   | own sz es=>exact hc
  | none =>
   rw[hds] at hTf;simp only[GE] at hTf
   cases hds:args.mapM (toD 6 mem) with
   | none=>rw[hds] at hTf;cases hTf
   | some ds =>
    rw[hds] at hTf;simp only[MC,UG] at hTf;obtain⟨r,hr,hl⟩:=hTf;have hc:=hspec.run ds r hr (fun _=>False) w vs (fun b hb=>hb.elim) (DW hds hv fun m v r h hv=>snap hmr (fun b hb=>hb.elim) 6 m v r h hv)
    cases r with
    | same r =>
     simp only[lent] at hl
     split at hl
     ·rename_i hs
      cases hl;exact Calls.mono hc fun e w' ⟨v,he,hfr,hd⟩=>⟨v,he,hfr,tS hs hd⟩
     ·cases hl
    | own sz es =>
     simp only[lent] at hl
     split at hl
     ·rename_i hs
      cases hl;refine Calls.mono hc fun e w' ⟨v,he,hfr,hd⟩=>⟨v,he,hfr,?_⟩
      obtain⟨h1,a,cap,h2,h3,h4,h5⟩:=hd;refine⟨h1,a,cap,h2,h3,h4,h5.imp id ?_⟩;rintro⟨b,vs,T,h6,h7,h8,h9,h10⟩;refine⟨b,vs,T,h6,h7,h8,h9,fun i d hd=>?_⟩
      obtain⟨u,hu,hden⟩:=h10 i d hd;refine⟨u,hu,tS ?_ hden⟩;have hm:=US hd;rw[List.mem_flatten] at hm;obtain⟨e,he,hde⟩:=hm;rw[Ux] at hs;have:=hs e he;rw[Ux] at this;exact this d hde
     ·cases hl
 ·cases hTf
end Go.Mini
namespace Go.Mini
open Go
def vV {ι:Type} (T:Tab) (J:ι→St→Prop) (m:ι→Nat) (i:ι) (K:bP→St→Prop) (k:List Todo):bP→St→Prop
 | .normal,st=>∃ i',m i'<m i∧J i' st
 | .exit id,st=>kont T K k (.exit id) st
 | .ret,st=>kont T K k .ret st
@[go_sem] theorem NH {ι:Type} (T:Tab) (J:ι→St→Prop) (m:ι→Nat) (i:ι) (K:bP→St→Prop) (k:List Todo) (id:Nat) (st:St):vV T J m i K k (.exit id) st=kont T K k (.exit id) st:=_root_.id rfl
@[go_sem] theorem PL {ι:Type} (T:Tab) (J:ι→St→Prop) (m:ι→Nat) (i:ι) (K:bP→St→Prop) (k:List Todo) (st:St):vV T J m i K k .ret st=kont T K k .ret st:=_root_.id rfl
@[go_sem] theorem yQ {ι:Type} (T:Tab) (J:ι→St→Prop) (m:ι→Nat) (i:ι) (K:bP→St→Prop) (k:List Todo) (st:St):vV T J m i K k .normal st=∃ i',m i'<m i∧J i' st:=_root_.id rfl
open Classical in
theorem vm {ι:Type} {T:Tab} {K:bP→St→Prop} {k:List Todo} {st:St} {c:MCode} (J:ι→St→Prop) (m:ι→Nat) (i0:ι) (h0:J i0 st) (h:∀ i st,J i st→wp T c (kont T (vV T J m i K k) []) st) :
  wp T (.loop c) (kont T K k) st:=by
 have least:∀ st,(∃ i,J i st)→∃ i,J i st∧∀ j,J j st→m i≤m j:=by
  intro st ⟨i,hi⟩
  have:∀ n i,m i=n→J i st→∃ i,J i st∧∀ j,J j st→m i≤m j:=by
   intro n
   induction n using Uv with
   | _ n ih =>
    intro i hn hi
    by_cases hx:∃ j,J j st∧m j<m i
    ·obtain⟨j,hj,hlt⟩:=hx
     exact ih (m j) (by omega) j rfl hj
    ·refine⟨i,hi,fun j hj=>?_⟩
     rcases Uq (m j) (m i) with h' | h'
     ·exact absurd ⟨j,hj,h'⟩ hx
     ·exact h'
  exact this _ i rfl hi
 refine⟨fun st=>∃ i,J i st,fun st=>if hx:∃ i,J i st then m (UT (least st hx)) else 0,⟨i0,h0⟩,fun st hst=>?_⟩
 have hsp:=UU (least st hst);have:=h _ st hsp.1
 have hk:kont T (vV T J m (UT (least st hst)) K k) []=fun e st'=>match e with
   | .normal=>(∃ i,J i st')∧(if hx:∃ i,J i st' then m (UT (least st' hx)) else 0)<(if hx:∃ i,J i st then m (UT (least st hx)) else 0)
   | e=>kont T K k e st':=by
  funext e st'
  cases e with
  | normal =>
   simp only[IU,yQ];apply propext
   constructor
   ·rintro⟨i',hlt,hj⟩
    have hex:∃ i,J i st':=⟨i',hj⟩;refine⟨hex,?_⟩;rw[dif_pos hex,dif_pos hst];have:=(UU (least st' hex)).2 i' hj;omega
   ·rintro⟨hex,hlt⟩
    rw[dif_pos hex,dif_pos hst] at hlt;exact⟨_,hlt,(UU (least st' hex)).1⟩
  | exit id=>rfl
  | ret=>rfl
 rw[hk] at this;exact this
section
variable {F:List Data→Option PRes} {mem:Mem} {st:St} {res:List ns}
@[go_sem] theorem PH (ds:List Data) (x:Option (List Data)):GE F (some ds) x=(F ds).map DS:=_root_.id rfl
@[go_sem] theorem PU (x:Option (List Data)):GE F none x=MC F x:=_root_.id rfl
@[go_sem] theorem Ph (ds:List Data):MC F (some ds)=(F ds).bind lent:=_root_.id rfl
@[go_sem] theorem OM (r:Data):DS (.same r) = .same r:=_root_.id rfl
@[go_sem] theorem P2 (sz:Nat) (es:List (List Data)):DS (.own sz es) = .own sz es:=_root_.id rfl
@[go_sem] theorem Px (r:Data):lent (.same r)=if scalar r=true then some (.same r) else none:=_root_.id rfl
@[go_sem] theorem sN (n:Nat) (d:Data):toD n mem (.dat d)=some d:=by cases n<;>rfl
@[go_sem] theorem Lv (n:Nat):toD n mem .nil=some (.sl []):=by cases n<;>rfl
@[go_sem] theorem Ss (n:Nat) (cs:List MV):toD (n+1) mem (.agg cs)=(cs.mapM (toD n mem)).map .agg:=_root_.id rfl
@[go_sem] theorem Sc (n:Nat) (cs:List MV):toD (n+1) mem (.tup cs)=(cs.mapM (toD n mem)).map .tup:=_root_.id rfl
@[go_sem] theorem Sd (n:Nat) (f:FuncId) (cs:List MV):toD (n+1) mem (.clo f cs)=(cs.mapM (toD n mem)).map (.fn f):=_root_.id rfl
@[go_sem] theorem Pw (r:PRes) (id:Nat):bG res r (.exit id) st=False:=_root_.id rfl
@[go_sem] theorem Rp (r:PRes):bG res r .ret st=xp res r st:=_root_.id rfl
@[go_sem] theorem Nj (r:PRes):bG res r .normal st=xp res r st:=_root_.id rfl
@[go_sem] theorem Pc (r:Data):xp res (.same r) st=((gk st res).bind (toD 6 st.mem)=some r):=_root_.id rfl
@[go_sem] theorem RO (sz:Nat) (es:List (List Data)):xp res (.own sz es) st=((gk st res).bind (rW sz st.mem)=some es):=_root_.id rfl
end
@[go_sem] theorem Ni (x:Bool):yE (.dat (.bool x)) true=some x:=by cases x<;>rfl
@[go_sem] theorem Li (x:Bool):yE (.dat (.bool x)) false=some (!x):=by cases x<;>rfl
attribute [go_sem] UV List.map_nil Uo List.getElem?_cons_succ UM List.length_nil UW List.take_succ_cons UX UY Option.map_some Option.map_none UZ
 UD U3 UE UF U4 List.cons_append List.drop_succ_cons List.drop_nil List.take_nil Bool.not_true Bool.not_false Bool.or_true Bool.true_or Bool.or_false Bool.false_or Bool.and_true Bool.true_and Bool.and_false Bool.false_and List.all_cons List.all_nil true_and and_true UN bne
section
variable {T:Tab} {K:bP→St→Prop} {k:List Todo} {st:St}
theorem qqA {x:Bool} {i:MI} {r:List MI} (h1:x=false→wpG T K k (some true) i r st) (h2:x=true→wpG T K k (some false) i r st):wpG T K k (some (!x)) i r st:=by
 cases x
 ·exact h1 rfl
 ·exact h2 rfl
theorem qqB {x:Bool} {i:MI} {r:List MI} (h1:x=true→wpG T K k (some true) i r st) (h2:x=false→wpG T K k (some false) i r st):wpG T K k (some x) i r st:=by
 cases x
 ·exact h2 rfl
 ·exact h1 rfl
theorem qqE {x:Bool} {n:Nat} {i:MI} {r:List MI} {c:List (List Nat)} {rec:Rec} (h1:x=false→pn T K k n (some true) i r c rec st) (h2:x=true→pn T K k n (some false) i r c rec st):pn T K k n (some (!x)) i r c rec st:=by
 cases x
 ·exact h1 rfl
 ·exact h2 rfl
theorem qqF {x:Bool} {n:Nat} {i:MI} {r:List MI} {c:List (List Nat)} {rec:Rec} (h1:x=true→pn T K k n (some true) i r c rec st) (h2:x=false→pn T K k n (some false) i r c rec st):pn T K k n (some x) i r c rec st:=by
 cases x
 ·exact h2 rfl
 ·exact h1 rfl
theorem qqC {x:Bool} {a b:MCode} (h1:x=false→wpB T K k (.dat (.bool true)) a b st) (h2:x=true→wpB T K k (.dat (.bool false)) a b st):wpB T K k (.dat (.bool (!x))) a b st:=by
 cases x
 ·exact h1 rfl
 ·exact h2 rfl
theorem qqD {x:Bool} {a b:MCode} (h1:x=true→wpB T K k (.dat (.bool true)) a b st) (h2:x=false→wpB T K k (.dat (.bool false)) a b st):wpB T K k (.dat (.bool x)) a b st:=by
 cases x
 ·exact h2 rfl
 ·exact h1 rfl
end
class Spl (G:Prop) (A B:outParam Prop):Prop where
 go:A→B→G
theorem qS {G A B:Prop} [s:Spl G A B] (a:A) (b:B):G:=s.go a b
theorem qI {G:Prop} (h:True→G):G:=h trivial
instance {T K k i r st} {x:Bool}:Spl (wpG T K k (some x) i r st) (x=true→wpG T K k (some true) i r st) (x=false→wpG T K k (some false) i r st):=⟨qqB⟩
instance {T K k i r st} {x:Bool}:Spl (wpG T K k (some (!x)) i r st) (x=false→wpG T K k (some true) i r st) (x=true→wpG T K k (some false) i r st):=⟨qqA⟩
instance {T K k st a b} {x:Bool}:Spl (wpB T K k (.dat (.bool x)) a b st) (x=true→wpB T K k (.dat (.bool true)) a b st) (x=false→wpB T K k (.dat (.bool false)) a b st):=⟨qqD⟩
instance {T K k st a b} {x:Bool}:Spl (wpB T K k (.dat (.bool (!x))) a b st) (x=false→wpB T K k (.dat (.bool true)) a b st) (x=true→wpB T K k (.dat (.bool false)) a b st):=⟨qqC⟩
instance {T K k n i r c rec st} {x:Bool}:Spl (pn T K k n (some x) i r c rec st) (x=true→pn T K k n (some true) i r c rec st) (x=false→pn T K k n (some false) i r c rec st):=⟨qqF⟩
instance {T K k n i r c rec st} {x:Bool}:Spl (pn T K k n (some (!x)) i r c rec st) (x=false→pn T K k n (some true) i r c rec st) (x=true→pn T K k n (some false) i r c rec st):=⟨qqE⟩
attribute [go_sem] reduceIte Nat.reduceEqDiff Nat.reduceAdd Nat.reduceSub Nat.reduceMul Nat.reduceLeDiff reduceCtorEq Nat.reduceLT Nat.reduceBEq Int.reduceEq
def uq {ι:Type} (T:Tab) (ks:List Nat) (km:List Key) (vs:List MV) (ms:List (Option (Nat × List MV))) (J:ι→(Nat→MV)→Mem→Prop) (m:ι→Nat) (i:ι) (K:bP→St→Prop) (k:List Todo):bP→St→Prop
 | .normal,st=>∃ i',m i'<m i∧ks.map st.tm=vs∧km.map st.mem=ms∧J i' st.tm st.mem
 | .exit id,st=>kont T K k (.exit id) st
 | .ret,st=>kont T K k .ret st
section
variable {ι:Type} (T:Tab) (ks:List Nat) (km:List Key) (vs:List MV) (ms:List (Option (Nat × List MV))) (J:ι→(Nat→MV)→Mem→Prop) (m:ι→Nat) (i:ι) (K:bP→St→Prop) (k:List Todo)
@[go_sem] theorem M6 (id:Nat) (st:St):uq T ks km vs ms J m i K k (.exit id) st=kont T K k (.exit id) st:=_root_.id rfl
@[go_sem] theorem OC (st:St):uq T ks km vs ms J m i K k .ret st=kont T K k .ret st:=_root_.id rfl
@[go_sem] theorem KM (st:St):uq T ks km vs ms J m i K k .normal st=∃ i',m i'<m i∧ks.map st.tm=vs∧km.map st.mem=ms∧J i' st.tm st.mem:=_root_.id rfl
end
theorem af {ι:Type} {T:Tab} {K:bP→St→Prop} {k:List Todo} {tm0:Nat→MV} {mem0:Mem} {c:MCode} (ks:List Nat) (km:List Key) (J:ι→(Nat→MV)→Mem→Prop) (m:ι→Nat) (i0:ι) (h0:J i0 tm0 mem0)
  (h:∀ vs ms,ks.map tm0=vs→km.map mem0=ms→∀ i tm mem,ks.map tm=vs→km.map mem=ms→J i tm mem→wp T c (kont T (uq T ks km vs ms J m i K k) []) ⟨tm,mem⟩) :
  wp T (.loop c) (kont T K k) ⟨tm0,mem0⟩:=by
 refine vm (fun i st=>ks.map st.tm=ks.map tm0∧km.map st.mem=km.map mem0∧J i st.tm st.mem) m i0 ⟨rfl,rfl,h0⟩ ?_;rintro i ⟨tm,mem⟩ ⟨h1,h2,h3⟩;have:=h _ _ rfl rfl i tm mem h1 h2 h3
 have hk:kont T (uq T ks km (ks.map tm0) (km.map mem0) J m i K k) []=kont T (vV T (fun i (st:St)=>ks.map st.tm=ks.map tm0∧km.map st.mem=km.map mem0∧J i st.tm st.mem) m i K k) []:=by
  funext e st'
  cases e<;>rfl
 rw[hk] at this;exact this
theorem wp_mono {T:Tab}:∀ (c:MCode) (K K':bP→St→Prop),(∀ e st,K e st→K' e st)→∀ st,wp T c K st→wp T c K' st:=by
 intro c
 induction c with
 | skip=>exact fun K K' h st=>h _ _
 | ops l =>
  intro K K' h st hw
  have:∀ (l:List MI) (K K':St→Prop),(∀ st,K st→K' st)→∀ st,wpr T K l st→wpr T K' l st:=by
   intro l
   induction l with
   | nil=>exact fun K K' h st=>h st
   | cons i r ih =>
    intro K K' h st hw;unfold wpr at hw ⊢
    split
    ·rename_i hg
     rw[hg] at hw;exact hw
    ·rename_i g hg
     rw[hg] at hw;simp only at hw ⊢
     split
     ·rename_i hgt
      rw[if_pos hgt] at hw
      have hstep:∀ (K K':St→Prop),(∀ st,K st→K' st)→cN T K i st→cN T K' i st:=by
       intro K K' h hw
       have hc:∀ d f args,nm T K st d f args→nm T K' st d f args:=by
        intro d f args hw;unfold nm at hw ⊢
        split
        ·rename_i hh;rw[hh] at hw;exact h _ hw
        ·rename_i hh;rw[hh] at hw;exact h _ hw
        ·rename_i hh;rw[hh] at hw;exact fun r mem' hr=>h _ (hw r mem' hr)
        ·rename_i hh;rw[hh] at hw;exact h _ hw
        ·rename_i hh;rw[hh] at hw;exact hw
       unfold cN at hw ⊢
       split
       ·rename_i hh;rw[hh] at hw;exact hc _ _ _ hw
       ·rename_i hh;rw[hh] at hw
        simp only at hw
        split
        ·rename_i hh2;rw[hh2] at hw
         simp only at hw
         split
         ·rename_i hs;rw[if_pos hs] at hw;exact h _ hw
         ·rename_i hs;rw[if_neg hs] at hw;exact hw
        ·rename_i hh2
         split at hw
         ·rename_i sz' es hh3;exact (hh2 sz' es hh3).elim
         ·exact hw
       ·rename_i hh;rw[hh] at hw
        simp only at hw
        split
        ·rename_i hh2;rw[hh2] at hw;exact hc _ _ _ hw
        ·rename_i hh2;rw[hh2] at hw;exact hc _ _ _ hw
        ·rename_i hh2 hh3
         split at hw
         ·rename_i hh4;exact (hh2 _ _ hh4).elim
         ·rename_i hh4;exact (hh3 _ _ hh4).elim
         ·exact hw
       ·rename_i hh;rw[hh] at hw
        simp only at hw
        split
        ·rename_i hh2;rw[hh2] at hw;exact fun b hb=>h _ (hw b hb)
        ·rename_i hh2;rw[hh2] at hw;exact hw
       ·rename_i h1 h2 h3 h4
        split at hw
        ·rename_i hh;exact (h1 _ _ hh).elim
        ·rename_i hh;exact (h2 _ _ _ _ hh).elim
        ·rename_i hh;exact (h3 _ _ hh).elim
        ·rename_i hh;exact (h4 _ _ hh).elim
        ·split
         ·rename_i hh;rw[hh] at hw;exact h _ hw
         ·rename_i hh;rw[hh] at hw;exact hw
      exact hstep _ _ (ih _ _ h) hw
     ·rename_i hgt
      rw[if_neg hgt] at hw;exact ih _ _ h _ hw
  exact this l _ _ (fun st=>h .normal st) st hw
 | opsD l c =>
  intro K K' h st hw
  have:∀ (l:List MI) (n:Nat) (cs:List (List Nat)) (rec:Rec) (K K':St→Prop),(∀ st,K st→K' st)→∀ st,uS T K n l cs rec st→uS T K' n l cs rec st:=by
   intro l
   induction l with
   | nil=>exact fun n cs rec K K' h st=>h st
   | cons i r ih =>
    intro n cs rec K K' h st hw;unfold uS at hw ⊢
    split
    ·rename_i hg
     rw[hg] at hw;exact hw
    ·rename_i g hg
     rw[hg] at hw;simp only at hw ⊢
     split
     ·rename_i hgt
      rw[if_pos hgt] at hw
      split
      ·rename_i m e hs
       rw[hs] at hw;exact⟨hw.1,ih _ _ _ _ _ h _ hw.2⟩
      ·rename_i hs
       rw[hs] at hw;exact hw
     ·rename_i hgt
      rw[if_neg hgt] at hw;exact ih _ _ _ _ _ h _ hw
  exact this l 0 c _ _ _ (fun st=>h .normal st) st hw
 | seq a b iha ihb =>
  intro K K' h st hw;refine iha _ _ (fun e st' hh=>?_) st hw
  cases e with
  | normal=>exact ihb _ _ h _ hh
  | exit id=>exact h _ _ hh
  | ret=>exact h _ _ hh
 | cond c a b iha ihb =>
  intro K K' h st hw;unfold wp at hw ⊢
  split
  ·rename_i t hc
   rw[hc] at hw;simp only at hw
   split
   ·rename_i ht
    rw[if_pos ht] at hw;exact iha _ _ h _ hw
   ·rename_i ht
    rw[if_neg ht] at hw;exact ihb _ _ h _ hw
  ·rename_i hx
   split at hw
   ·rename_i hc
    exact (hx _ hc).elim
   ·exact hw
 | block id c ih =>
  intro K K' h st hw;refine ih _ _ (fun e st' hh=>?_) st hw
  cases e with
  | normal=>exact h _ _ hh
  | exit j =>
   simp only at hh ⊢
   split
   ·rename_i hj
    rw[if_pos hj] at hh;exact h _ _ hh
   ·rename_i hj
    rw[if_neg hj] at hh;exact h _ _ hh
  | ret=>exact h _ _ hh
 | loop c ih =>
  intro K K' h st hw;obtain⟨I,μ,h0,hI⟩:=hw;refine⟨I,μ,h0,fun st hst=>ih _ _ (fun e st' hh=>?_) _ (hI st hst)⟩
  cases e with
  | normal=>exact hh
  | exit id=>exact h _ _ hh
  | ret=>exact h _ _ hh
 | exit id=>exact fun K K' h st=>h _ _
 | ret=>exact fun K K' h st=>h _ _
 | ghost g c ih =>
  intro K K' h st hw
  have:∀ (K K':St→Prop),(∀ st,K st→K' st)→dP K st g→dP K' st g:=by
   intro K K' h hw;unfold dP at hw
   repeat' split at hw
   all_goals first
    | exact hw.elim
    | exact⟨hw.choose,hw.choose_spec.1,h _ hw.choose_spec.2⟩
    | (
      rcases hw with hw | ⟨kx,gx,cx,i,k,g,sz,off,len,cs,k',h1,h2,h3,h4,h5,h6,hw⟩ | ⟨kx,gx,cx,i,k,g,sz,off,len,cs,d,h1,h2,h3,h4,h5,h6,hw⟩
      ·exact .inl (h _ hw)
      ·exact .inr (.inl ⟨kx,gx,cx,i,k,g,sz,off,len,cs,k',h1,h2,h3,h4,h5,h6,h _ hw⟩)
      ·exact .inr (.inr ⟨kx,gx,cx,i,k,g,sz,off,len,cs,d,h1,h2,h3,h4,h5,h6,h _ hw⟩))
    | (
      have h':=h _ hw;clear hw h;unfold dP
      simp_all)
  exact this _ _ (ih _ _ h) hw
def vR (T:Tab) (K:bP→St→Prop) (k:List Todo) (Q:St→Prop):bP→St→Prop
 | .normal,st=>Q st
 | .exit id,st=>kont T K k (.exit id) st
 | .ret,st=>kont T K k .ret st
@[go_sem] theorem K7 {T:Tab} {K:bP→St→Prop} {k:List Todo} {Q:St→Prop} (st:St):vR T K k Q .normal st=Q st:=_root_.id rfl
@[go_sem] theorem O2 {T:Tab} {K:bP→St→Prop} {k:List Todo} {Q:St→Prop} (id:Nat) (st:St):vR T K k Q (.exit id) st=kont T K k (.exit id) st:=_root_.id rfl
@[go_sem] theorem Po {T:Tab} {K:bP→St→Prop} {k:List Todo} {Q:St→Prop} (st:St):vR T K k Q .ret st=kont T K k .ret st:=_root_.id rfl
theorem E9 {T:Tab} {K:bP→St→Prop} {k:List Todo} {c a:MCode} {st:St} (Q:St→Prop) (ha:wp T a (kont T (vR T K k Q) []) st) (hc:∀ st',Q st'→wp T c (kont T K k) st'):wp T a (kont T K (.code c::k)) st:=by
 refine wp_mono a _ _ (fun e st' hh=>?_) st ha
 cases e with
 | normal=>exact hc st' hh
 | exit id=>exact hh
 | ret=>exact hh
theorem JP {T:Tab} {K:bP→St→Prop} {k:List Todo} {x:Bool} {c a b:MCode} {st:St} (Q:St→Prop) (ha:x=true→wp T a (kont T (vR T K k Q) []) st) (hb:x=false→wp T b (kont T (vR T K k Q) []) st)
  (hc:∀ st',Q st'→wp T c (kont T K k) st'):wpB T K (.code c::k) (.dat (.bool x)) a b st:=by
 cases x
 ·rw[Fl];exact E9 Q (hb rfl) hc
 ·rw[IB];exact E9 Q (ha rfl) hc
attribute [go_sem] beq_true beq_false Bool.true_beq Bool.false_beq U5 List.flatten_nil U6 List.headD_cons List.headD_nil List.tail_cons List.tail_nil List.contains_nil List.contains_cons Bool.not_eq_true'
section
variable {T:Tab} {K:bP→St→Prop} {k:List Todo} {st:St}
@[go_sem] theorem Qt (g:Ghost) (c:MCode):wp T (.ghost g c) (kont T K k) st=dP (wp T c (kont T K k)) st g:=_root_.id rfl
def Ou (K:St→Prop) (st:St) (s k sz:Nat):MV→Prop
 | .nil=>K ⟨upd st.tm s (.ref k (aC st.mem k) sz 0 0),aB st.mem k (aC st.mem k) []⟩
 | _=>False
@[go_sem] theorem KQ (K:St→Prop) (s k sz:Nat):dP K st (.adopt s k sz)=Ou K st s k sz (st.tm s):=by
 unfold dP Ou;rfl
@[go_sem] theorem QI (K:St→Prop) (s k sz:Nat):Ou K st s k sz .nil=K ⟨upd st.tm s (.ref k (aC st.mem k) sz 0 0),aB st.mem k (aC st.mem k) []⟩:=_root_.id rfl
end
section
variable {K:St→Prop} {st:St}
theorem Bx (kx i k k':Nat) {gx:Nat} {cx:List MV} {g sz off len:Nat} {cs:List MV} (h1:st.mem kx=some (gx,cx)) (h2:cx[i]?=some (.ref k g sz off len)) (h3:st.mem k=some (g,cs)) (h4:k≠kx) (h5:k'≠k) (h6:k'≠kx)
  (h:K ⟨st.tm,aB (aB (aB st.mem k (aC st.mem k) []) k' (aC st.mem k') cs) kx gx (cx.set i (.ref k' (aC st.mem k') sz off len))⟩):dP K st .move :=
 .inr (.inl ⟨kx,gx,cx,i,k,g,sz,off,len,cs,k',h1,h2,h3,h4,h5,h6,h⟩)
def BT (K:St→Prop) (st:St) (s k g sz off len:Nat):Option (Nat × List MV)→Prop
 | some (g',cs)=>if g'=g∧lG cs=true then (match cut cs off (len*sz) with
  | some part=>(match part.mapM (toD 0 st.mem) with
   | some ds=>K ⟨upd st.tm s (.dat (.sl (chunk sz len ds))),kill st.mem k⟩
   | none=>False)
  | none=>False) else False
 | none=>False
def NF (K:St→Prop) (st:St) (s:Nat):MV→Prop
 | .ref k g sz off len=>BT K st s k g sz off len (st.mem k)
 | _=>False
@[go_sem] theorem KN (s:Nat):dP K st (.freeze s)=NF K st s (st.tm s):=by
 unfold dP NF;dsimp only
 cases hm:st.tm s with
 | ref k g sz off len=>?_
 | _=>rfl
 dsimp only;unfold BT
 cases hk:st.mem k with
 | none=>rfl
 | some x =>
  obtain⟨g',cs⟩:=x;simp only
  by_cases hc:g'=g∧lG cs=true
  ·rw[if_pos hc,if_pos hc]
   unfold toD;rw[hk];simp only[hc.1,if_true]
   cases hcut:cut cs off (len*sz) with
   | none=>rfl
   | some part =>
    simp only
    cases hp:part.mapM (toD 0 st.mem)<;>rfl
  ·rw[if_neg hc,if_neg hc]
@[go_sem] theorem QU (s k g sz off len:Nat):NF K st s (.ref k g sz off len)=BT K st s k g sz off len (st.mem k):=_root_.id rfl
@[go_sem] theorem R1 (mem:Mem) (k:Key):kill mem k=aB mem k (aC mem k) []:=_root_.id rfl
end
open Classical in
noncomputable def FF {α:Type} (argE:α→List Data) (f:α→Option PRes):List Data→Option PRes:=fun ds=>if h:∃ a,argE a=ds then f (UT h) else none
theorem aZ {α:Type} {argE:α→List Data} {f:α→Option PRes} (inj:∀ a b,argE a=argE b→a=b) (a:α):FF argE f (argE a)=f a:=by
 have h:∃ b,argE b=argE a:=⟨a,rfl⟩;unfold FF;rw[dif_pos h,inj _ _ (UU h)]
theorem NA {α:Type} {argE:α→List Data} {f:α→Option PRes} {ds:List Data} {r:PRes} (h:FF argE f ds=some r):∃ a,ds=argE a∧f a=some r:=by
 unfold FF at h
 split at h
 ·rename_i hx
  exact⟨_,(UU hx).symm,h⟩
 ·cases h
open Classical in
noncomputable def aI (c:Prop) (r:PRes):Option PRes:=if c then some r else none
theorem ap {c:Prop} (h:c) (r:PRes):aI c r=some r:=by unfold aI;rw[if_pos h]
theorem ao {c:Prop} {r r':PRes} (h:aI c r=some r'):c∧r'=r:=by
 unfold aI at h
 split at h
 ·cases h;exact⟨‹_›,rfl⟩
 ·cases h
@[go_sem] theorem SR (F:List Data→Option PRes) (args:List MV) (mem:Mem):mkE F args mem=GE F (args.mapM (toD 6 emp)) (args.mapM (toD 6 mem)):=_root_.id rfl
theorem ah {α β:Type} {f:α→β} (h:∀ a b,f a=f b→a=b):∀ (l l':List α),l.map f=l'.map f→l=l':=by
 intro l
 induction l with
 | nil=>intro l' e;cases l'<;>simp_all
 | cons a r ih =>
  intro l' e
  cases l' with
  | nil=>simp at e
  | cons b r' =>
   simp only[UV,List.cons.injEq] at e;rw[h _ _ e.1,ih _ e.2]
def PTl (l:List (FuncId × (List Data→Option PRes))):FuncId→Option (List Data→Option PRes):=fun f=>(l.find? fun p=>p.1==f).map (·.2)
theorem aD {P:Program} {l:List (FuncId × (List Data→Option PRes))} (h:∀ p∈l,aT P p.1 p.2):∀ f F,PTl l f=some F→aT P f F:=by
 intro f F hf;unfold PTl at hf;rw[UC] at hf;obtain⟨p,hp,rfl⟩:=hf;have h1:=List.mem_of_find?_eq_some hp;have h2:=List.find?_some hp;have h3:p.1=f:=by simpa using h2
 exact h3 ▸ h p h1
theorem ax {P:Program}:∀ p∈([]:List (FuncId × (List Data→Option PRes))),aT P p.1 p.2:=by simp
theorem ac {P:Program} {f:FuncId} {F:List Data→Option PRes} {l:List (FuncId × (List Data→Option PRes))} (h:aT P f F) (hl:∀ p∈l,aT P p.1 p.2):∀ p∈(f,F)::l,aT P p.1 p.2:=by
 intro p hp;rcases List.mem_cons.1 hp with rfl | hp
 ·exact h
 ·exact hl p hp
theorem IH {PT:FuncId→Option (List Data→Option PRes)} {f:FuncId} {F:List Data→Option PRes} (h:PT f=some F):mkT PT f=mkE F:=by
 funext args mem
 unfold mkT;rw[h]
@[go_sem] theorem QX (mem:Mem) (k:Key) (z:List MV) (b m:Nat) (new:List MV):pB mem k z b .nil (some (m,new)) =
  if m*b≤140737488355328∧m≤maxLen∧new.all MV.one=true then some (.ref k (aC mem k) z.length 0 m,some (k,aC mem k,new)) else none:=_root_.id rfl
@[go_sem] theorem QZ (mem:Mem) (k k':Key) (z:List MV) (g sz b len m:Nat) (new:List MV):pB mem k z b (.ref k' g sz 0 len) (some (m,new)) =
  if sz=z.length then jR k' g sz len b m new (mem k') else none:=by
 unfold pB;simp
def ay {α:Type} (enc:α→List Data) (l:List α):List MV:=(l.map enc).flatten.map .dat
section
variable {α:Type} {enc:α→List Data} {sz:Nat}
theorem Kl:ay enc []=[]:=rfl
theorem fW (a:α) (l:List α):ay enc (a::l)=(enc a).map .dat++ay enc l:=by simp [ay]
theorem nw (a b:List α):ay enc (a++b)=ay enc a++ay enc b:=by simp [ay]
theorem di (h:∀ a,(enc a).length=sz) (l:List α):(ay enc l).length=l.length*sz:=by
 induction l with
 | nil=>simp [ay]
 | cons a r ih=>rw[fW,Us,ih,U7,h,UM,Nat.add_mul,Nat.one_mul,Uu]
theorem EQ (h:∀ a,(enc a).length=sz) {l:List α} {i:Nat} {a:α} (hi:l[i]?=some a):∃ p q,ay enc l=p++((enc a).map .dat++q)∧p.length=i*sz∧∀ b,ay enc (l.set i b)=p++((enc b).map .dat++q):=by
 have hlt:=(List.getElem?_eq_some_iff.1 hi).1;have hla:l[i]=a:=(List.getElem?_eq_some_iff.1 hi).2
 have e:l=l.take i++a::l.drop (i+1):=by
  rw[←hla,←U8 hlt,U9]
 refine⟨ay enc (l.take i),ay enc (l.drop (i+1)),?_,?_,fun b=>?_⟩
 ·conv=>lhs;rw[e]
  rw[nw,fW]
 ·rw[di h,UQ];congr 1;omega
 ·rw[List.set_eq_take_append_cons_drop,if_pos hlt,nw,fW]
theorem sY (h:∀ a,(enc a).length=sz) {l:List α} {i:Nat} {a:α} (hi:l[i]?=some a) {f n:Nat} (hf:f+n≤sz):cut (ay enc l) (i*sz+f) n=some ((((enc a).map .dat).drop f).take n):=by
 obtain⟨p,q,e,hp,-⟩:=EQ h hi;have ha:=h a;unfold cut;rw[e,if_pos (by simp only[Us,U7];omega),←hp];rw[Va,Vb (by omega)];rw[show p.length+f-p.length=f by omega,U4,Va,List.take_append]
 have:n-(((enc a).map MV.dat).drop f).length=0:=by simp only[UO,U7];omega
 rw[this,UX,U6]
theorem A9 (h:∀ a,(enc a).length=sz) {l:List α} {i:Nat} (hi:i<l.length) (b:α):splice (ay enc l) (i*sz) ((enc b).map .dat)=ay enc (l.set i b):=by
 obtain⟨p,q,e,hp,hs⟩:=EQ h (UB hi);rw[hs b,e];have ha:=h l[i];have hb:=h b;unfold splice;rw[←hp,Vc,List.append_assoc]
 congr 2
 rw[Va,Vb (by omega),U4,U7,show p.length+(enc b).length-p.length=(enc b).length by omega,hb,←ha,←U7 (f:=MV.dat),Vd]
theorem Il (ho:∀ a,((enc a).map MV.dat).all MV.one=true) (l:List α):(ay enc l).all MV.one=true:=by
 induction l with
 | nil=>rfl
 | cons a r ih=>rw[fW,List.all_append,ho,ih];rfl
theorem jG (h:∀ a,(enc a).length=sz) (ho:∀ a,((enc a).map MV.dat).all MV.one=true) (k g b:Nat) (l new:List α) (hb:(l.length+new.length)*b≤140737488355328) (hm:l.length+new.length≤1000000000) :
  jR k g sz l.length b new.length (ay enc new) (some (g,ay enc l))=some (.ref k (g+1) sz 0 (l.length+new.length),some (k,g+1,ay enc (l++new))):=by
 unfold jR;have hm':l.length+new.length≤maxLen:=Nat.le_trans hm (by decide);dsimp only;rw[if_pos ⟨rfl,by rw[di h];exact Un _,hb,hm',Il ho new⟩,nw,Ve (by rw[di h];exact Un _)]
theorem dw (h:∀ a,(enc a).length=sz) (ho:∀ a,((enc a).map MV.dat).all MV.one=true) (k g b:Nat) (l:List α) (a:α) {cs:List MV} (hc:cs=(enc a).map .dat) (hb:(l.length+1)*b≤140737488355328) (hm:l.length+1≤1000000000) :
  jR k g sz l.length b 1 cs (some (g,ay enc l))=some (.ref k (g+1) sz 0 (l.length+1),some (k,g+1,ay enc (l++[a]))):=by
 have:=jG h ho k g b l [a] hb hm;rw[hc];rw[fW,Kl,U6] at this;exact this
theorem kC (f:MV→Option Data) (hf:∀ d,f (.dat d)=some d) (l:List Data):(l.map MV.dat).mapM f=some l:=by
 induction l with
 | nil=>rfl
 | cons a r ih=>simp [hf,ih]
theorem iG:∀ (l:List (List Data)),(∀ e∈l,e.length=sz)→chunk sz l.length l.flatten=l:=by
 intro l
 induction l with
 | nil=>intro _;rfl
 | cons e r ih =>
  intro h;have he:=h e (by simp);rw[UM,U5,chunk];rw[←he,Vc,Vd,he,ih fun x hx=>h x (by simp [hx])]
theorem eS (h:∀ a,(enc a).length=sz) {n k g:Nat} {mem:Mem} {l:List α} (hm:mem k=some (g,ay enc l)):toD (n+1) mem (.ref k g sz 0 l.length)=some (.sl (l.map enc)):=by
 unfold toD;rw[hm];simp only[if_true];unfold cut;rw[UZ,di h,if_pos (Un _)];simp only[UW];rw[Ve (by rw[di h];exact Un _)];unfold ay;rw[kC _ fun d=>by cases n<;>rfl]
 have:=iG (sz:=sz) (l.map enc) (by simpa using fun a _=>h a);rw[U7] at this;simp [this]
end
theorem uv {α:Type} (enc:α→List Data) (l:List α):lG (ay enc l)=true:=by
 unfold lG ay;rw[Ux];intro m hm;rw[Vf] at hm;obtain⟨d,_,rfl⟩:=hm
 rfl
theorem cu {α:Type} {enc:α→List Data} {sz:Nat} (h:∀ a,(enc a).length=sz) {K:St→Prop} {st:St} (s k g:Nat) (l:List α) :
  BT K st s k g sz 0 l.length (some (g,ay enc l))=K ⟨upd st.tm s (.dat (.sl (l.map enc))),kill st.mem k⟩:=by
 have hr:=eS (n:=0) h (mem:=aB st.mem k g (ay enc l)) (k:=k) (g:=g) (l:=l) (by simp [aB]);unfold BT;dsimp only;rw[if_pos ⟨rfl,uv enc l⟩];unfold cut;rw[UZ,di h,if_pos (Un _)];dsimp only;rw[UW,Ve (by rw[di h];exact Un _)];unfold ay;rw[kC _ fun d=>rfl]
 dsimp only;have:=iG (sz:=sz) (l.map enc) (by simpa using fun a _=>h a);rw[U7] at this;rw[this]
theorem al (x:Int) (h1:-9223372036854775808≤x) (h2:x≤9223372036854775807):IntKind.i64.wrap x=x:=by
 rw[IntKind.wrap_i64];omega
theorem E7 {α:Type} (l:List α) (i:Int) (h0:0≤i) (h:i<l.length):∃ x,l[i.toNat]?=some x∧l.drop i.toNat=x::l.drop (i+1).toNat∧l.take (i+1).toNat=l.take i.toNat++[x]:=by
 have hlt:i.toNat<l.length:=by omega
 have e:(i+1).toNat=i.toNat+1:=by omega
 refine⟨l[i.toNat],UB hlt,?_,?_⟩
 ·rw[e];exact U8 hlt
 ·rw[e];rw[List.take_add_one,UB hlt];rfl
end Go.Mini
namespace Go.Mini
open Go Go.ChangeShapes Go.WideShapes
inductive Sch where
 | int (k:IntKind)
 | bool
 | str
 | sl (e:Sch)
 | st (l:List Sch)
mutual
def Fit:Sch→List Data→Prop
 | .int k,ds=>∃ n,ds=[.int k n]∧(Lit.int k n).wf=true
 | .bool,ds=>∃ b,ds=[.bool b]
 | .str,ds=>∃ s,ds=[.str s]∧s.length≤maxLen
 | .sl e,ds=>∃ es,ds=[.sl es]∧es.length≤maxLen∧∀ x∈es,Fit e x
 | .st l,ds=>Fits l ds
def Fits:List Sch→List Data→Prop
 | [],ds=>ds=[]
 | s::r,ds=>∃ a b,ds=a++b∧Fit s a∧Fits r b
end
def tiles (P:Program):Nat→List Field→Nat→Bool
 | off,[],tot=>off==tot
 | off,f::r,tot=>f.offset==off&&tiles P (off+P.cellsOf f.type) r tot
def uV (g:TypeId→Option Sch):List Field→Option (List Sch)
 | []=>some []
 | f::r=>match g f.type,uV g r with
  | some s,some l=>some (s::l)
  | _,_=>none
def lm (P:Program):Nat→TypeId→Option Sch
 | 0,_=>none
 | n+1,t=>match P.underlying t with
  | some .bool=>some .bool
  | some (.int k)=>some (.int k)
  | some .string=>some .str
  | some (.slice e)=>if 0<P.cellsOf e then (lm P n e).map .sl else none
  | some (.struct fs)=>if tiles P 0 fs.toList (P.cellsOf t)=true then (uV (lm P n) fs.toList).map .st else none
  | _=>none
section
variable {H:Type} {enc:TypeId × Value→H} {P:Program} {w:World} {base:Nat}
def Rd (enc:TypeId × Value→H) (P:Program) (w:World) (base:Nat) (S:Sch) (fuel:Nat) (t:TypeId) (cs:List Value) (x:DataW H × List MemPlace):Prop :=
 (∃ ds,Fit S ds∧yL w (fun _=>False) ds cs)∧(∀ p∈x.2,p.block<w.heap.size) ∧
 ∀ (w':World) (sp:Nat→Bool),(∀ p∈x.2,sp p.block=true)→(∀ b,b<w.heap.size→w'.heap[b]?=w.heap[b]?)→DataW.trod enc P w' base sp true fuel t cs=some x
theorem nK {O:Nat→Prop} {d:Data} {v:Value} (h:Den w O d v):yL w O [d] [v]:=by
 refine⟨rfl,fun i d' v' h1 h2=>?_⟩
 cases i with
 | zero=>cases h1;cases h2;exact h
 | succ i=>simp at h1
theorem we (a:Addr) (i:Nat):(a.add i).block=a.block:=by
 unfold Addr.add
 split<;>rfl
theorem wV (b off i:Nat):(Addr.add ⟨b,off,none⟩ i)=⟨b,off+i,none⟩:=by
 unfold Addr.add
 split
 ·rename_i h;subst h;rfl
 ·rfl
theorem tK {w':World} {a:Addr} {n:Nat} {cs:List Value} (h:w.cells? base a n=some cs) (hk:∀ b,b<w.heap.size→w'.heap[b]?=w.heap[b]?):w'.cells? base a n=some cs:=by
 unfold World.cells? at h ⊢
 split at h
 ·rename_i hb
  rw[if_pos hb,←h]
  by_cases hlt:a.block<w.heap.size
  ·have he:(fun i=>w'.cell? (a.add i))=fun i=>w.cell? (a.add i):=by
    funext i
    exact World.cell?_of_block (a:=a.add i) (hk _ (by rw[we];exact hlt))
   rw[he]
  ·cases n with
   | zero=>rfl
   | succ n =>
    exfalso
    have:w.cell? (a.add 0)=none:=by
     unfold World.cell?;have:w.heap[(a.add 0).block]?=none:=Array.getElem?_eq_none (by rw[we];omega);rw[this]
    rw[List.range_succ_eq_map,UD,this] at h
    cases h
 ·cases h
theorem rL {a:Addr} {n:Nat} {cs:List Value} (h:w.cells? base a n=some cs):cs.length=n∧∀ i,i<n→∃ v,cs[i]?=some v∧w.cell? (a.add i)=some v:=by
 unfold World.cells? at h
 split at h
 ·obtain⟨h1,h2⟩:=dk h
  rw[Vg] at h1;refine⟨h1,fun i hi=>?_⟩
  have hc:=UB (l:=cs) (i:=i) (by omega);exact⟨_,hc,h2 i i _ (by simp [hi]) hc⟩
 ·cases h
theorem LC {a:Addr} {v:Value} (h:w.cell? a=some v):a.block<w.heap.size∧a.spot=none:=by
 unfold World.cell? at h
 split at h
 ·rename_i hb
  refine⟨(Array.getElem?_eq_some_iff.1 hb).1,?_⟩
  cases hs:a.spot with
  | none=>rfl
  | some x=>rw[hs] at h;simp at h
 ·cases h
theorem td {α β:Type} {f g:α→Option β}:∀ {l:List α},(∀ x∈l,f x=g x)→l.mapM f=l.mapM g:=by
 intro l
 induction l with
 | nil=>intro _;rfl
 | cons a r ih =>
  intro h;rw[UD,UD,h a (by simp),ih fun x hx=>h x (by simp [hx])]
theorem Bu {β:Type} (len:Nat) (Q:Nat→β→Prop) (h:∀ i,i<len→∃ y,Q i y):∃ l:List β,l.length=len∧∀ i y,l[i]?=some y→Q i y:=by
 induction len with
 | zero=>exact⟨[],rfl,fun i y h=>by simp at h⟩
 | succ n ih =>
  obtain⟨l,h1,h2⟩:=ih fun i hi=>h i (by omega)
  obtain⟨y,hy⟩:=h n (by omega);refine⟨l++[y],by simp [h1],fun i z hz=>?_⟩
  rw[Vh] at hz
  split at hz
  ·exact h2 i z hz
  ·rename_i hlt
   have:i-l.length=0:=by
    have:=(List.getElem?_eq_some_iff.1 hz).1;simp at this;omega
   rw[this] at hz
   cases hz;have:i=n:=by omega
   subst this;exact hy
theorem Cx {β:Type} {sz:Nat}:∀ (es:List (List β)),(∀ e∈es,e.length=sz)→0<sz→∀ (i:Nat) (d:β),es.flatten[i]?=some d→∃ e,es[i / sz]?=some e∧e[i % sz]?=some d:=by
 intro es
 induction es with
 | nil=>intro _ _ i d h;simp at h
 | cons e r ih =>
  intro h hz i d hd;have he:=h e (by simp);rw[U5,Vh] at hd
  split at hd
  ·rename_i hlt
   rw[he] at hlt;refine⟨e,by rw[Nat.div_eq_of_lt hlt];rfl,by rw[Nat.mod_eq_of_lt hlt];exact hd⟩
  ·rename_i hge
   rw[he] at hd hge;obtain⟨x,h1,h2⟩:=ih (fun y hy=>h y (by simp [hy])) hz _ d hd;have hi:i=(i-sz)+sz:=by omega
   refine⟨x,?_,?_⟩
   ·rw[hi,Nat.add_div_right _ hz]
    simpa using h1
   ·rw[hi,Nat.add_mod_right]
    exact h2
theorem AZ {n fuel:Nat} (ih:∀ t S,lm P n t=some S→∀ (cs:List Value) (x:DataW H × List MemPlace),DataW.trod enc P w base (fun _=>true) true fuel t cs=some x→Rd enc P w base S fuel t cs x) (cs:List Value) :
  ∀ (fs:List Field) (off:Nat) (l:List Sch) (xs:List (DataW H × List MemPlace)),uV (lm P n) fs=some l→tiles P off fs cs.length=true →
   fs.mapM (fun f=>DataW.trod enc P w base (fun _=>true) true fuel f.type ((cs.drop f.offset).take (P.cellsOf f.type)))=some xs →
   (∃ ds,Fits l ds∧yL w (fun _=>False) ds (cs.drop off))∧(∀ p∈xs.flatMap (·.2),p.block<w.heap.size) ∧
   ∀ (w':World) (sp:Nat→Bool),(∀ p∈xs.flatMap (·.2),sp p.block=true)→(∀ b,b<w.heap.size→w'.heap[b]?=w.heap[b]?) →
    fs.mapM (fun f=>DataW.trod enc P w' base sp true fuel f.type ((cs.drop f.offset).take (P.cellsOf f.type)))=some xs:=by
 intro fs
 induction fs with
 | nil =>
  intro off l xs hl ht hx;simp only[uV,Option.some.injEq] at hl;subst hl;simp only[tiles,beq_iff_eq] at ht;simp only[U3,UE,Option.some.injEq] at hx;subst hx;refine⟨⟨[],rfl,?_⟩,by simp,fun _ _ _ _=>rfl⟩
  rw[ht,List.drop_length];exact⟨rfl,fun i d v h=>by simp at h⟩
 | cons f r ihf =>
  intro off l xs hl ht hx;unfold uV at hl
  split at hl
  ·rename_i s l' hs hl'
   cases hl;simp only[tiles,Uw,beq_iff_eq] at ht;obtain⟨hoff,ht⟩:=ht;rw[UD] at hx;simp only[UE,UF,UG,Option.some.injEq] at hx;obtain⟨x,hx1,ys,hys,rfl⟩:=hx;obtain⟨⟨da,ha1,ha2⟩,ha3,ha4⟩:=ih _ _ hs _ _ hx1;obtain⟨⟨db,hb1,hb2⟩,hb3,hb4⟩:=ihf _ _ _ hl' ht hys;refine⟨⟨da++db,⟨da,db,rfl,ha1,hb1⟩,?_⟩,?_,?_⟩
   ·have hsplit:cs.drop off=(cs.drop off).take (P.cellsOf f.type)++cs.drop (off+P.cellsOf f.type):=by
     rw[←UA,U9]
    rw[hoff] at ha2;rw[hsplit];refine⟨by rw[Us,Us,ha2.1,hb2.1],fun i d v h1 h2=>?_⟩
    rw[Vh] at h1 h2;have hlen:=ha2.1
    by_cases hlt:i<da.length
    ·rw[if_pos hlt] at h1
     rw[if_pos (by omega)] at h2;exact ha2.2 i d v h1 h2
    ·rw[if_neg hlt] at h1
     rw[if_neg (by omega),hlen] at h2;exact hb2.2 _ d v h1 h2
   ·intro p hp
    rw[Vi,Vj] at hp;exact hp.elim (ha3 p) (hb3 p)
   ·intro w' sp hsp hk
    rw[UD,ha4 w' sp (fun p hp=>hsp p (by rw[Vi,Vj];exact .inl hp)) hk];have:=hb4 w' sp (fun p hp=>hsp p (by rw[Vi,Vj];exact .inr hp)) hk;simp only[UE,UF,UY];rw[this]
    rfl
  ·cases hl
theorem J2:∀ (n:Nat) (t:TypeId) (S:Sch),lm P n t=some S→∀ (fuel:Nat) (cs:List Value) (x:DataW H × List MemPlace),DataW.trod enc P w base (fun _=>true) true fuel t cs=some x→Rd enc P w base S fuel t cs x:=by
 intro n
 induction n with
 | zero=>intro t S h;simp [lm] at h
 | succ n ih =>
  intro t S hS fuel cs x hx
  cases fuel with
  | zero=>cases hx
  | succ fuel =>
   unfold lm at hS
   split at hS
   ·-- bool
    rename_i hu
    cases hS
    have key:∀ (w':World) (sp:Nat→Bool) (cs:List Value),DataW.trod enc P w' base sp true (fuel+1) t cs=match cs with | [.bool b]=>some (.lit (.bool b),[]) | _=>none:=by
     intro w' sp cs;unfold DataW.trod;rw[hu];clear hx
     split<;>simp_all
    rw[key] at hx
    split at hx
    ·cases hx
     exact⟨⟨_,⟨_,rfl⟩,nK .bool⟩,by simp,fun w' sp _ _=>by rw[key]⟩
    ·cases hx
   ·-- int
    rename_i k hu
    cases hS
    have key:∀ (w':World) (sp:Nat→Bool) (cs:List Value),DataW.trod enc P w' base sp true (fuel+1) t cs=match cs with | [.int k' n]=>if k'=k∧(Lit.int k n).wf=true then some (.lit (.int k n),[]) else none | _=>none:=by
     intro w' sp cs;unfold DataW.trod;rw[hu];clear hx
     split<;>simp_all
    rw[key] at hx
    split at hx
    ·split at hx
     ·rename_i hc
      cases hx;obtain⟨rfl,hwf⟩:=hc;exact⟨⟨_,⟨_,rfl,hwf⟩,nK .int⟩,by simp,fun w' sp _ _=>by rw[key];simp [hwf]⟩
     ·cases hx
    ·cases hx
   ·-- string
    rename_i hu
    cases hS
    have key:∀ (w':World) (sp:Nat→Bool) (cs:List Value),DataW.trod enc P w' base sp true (fuel+1) t cs=match cs with | [.string s]=>if s.size≤maxLen then some (.lit (.string s.data.toList),[]) else none | _=>none:=by
     intro w' sp cs;unfold DataW.trod;rw[hu];clear hx
     split<;>simp_all
    rw[key] at hx
    split at hx
    ·rename_i s
     split at hx
     ·rename_i hc
      cases hx;refine⟨⟨[.str s.data.toList],⟨_,rfl,?_⟩,nK ?_⟩,by simp,fun w' sp _ _=>by rw[key];simp [hc]⟩
      ·rw[Array.length_toList];exact hc
      ·have:Den w (fun _=>False) (.str s.data.toList) (.string ⟨s.data.toList.toArray⟩):=.str
       simpa using this
     ·cases hx
    ·cases hx
   ·-- slice
    rename_i e hu
    split at hS
    ·rename_i hc
     rw[UC] at hS;obtain⟨S,hS,rfl⟩:=hS
     have key:∀ (w':World) (sp:Nat→Bool) (cs:List Value),DataW.trod enc P w' base sp true (fuel+1) t cs=match cs with
      | [.slice none 0 0]=>some (.nil,[])
      | [.slice (some a) len cap] =>
       if base≤a.block∧len≤cap∧cap≤maxLen then
        ((
         Vk len).mapM fun i=>(w'.cells? base (a.add (i*P.cellsOf e)) (P.cellsOf e)).bind (DataW.trod enc P w' base sp true fuel e)).bind fun elems =>
         (if sp a.block then (Vk (cap-len)).mapM fun j=>(w'.cells? base (a.add ((len+j)*P.cellsOf e)) (P.cellsOf e)).bind (DataW.trod enc P w' base sp true fuel e) else some []).map fun rest =>
          (.slice (elems.map (·.1)) (rest.map (·.1)),MemPlace.row a ((elems.length+rest.length)*P.cellsOf e)++(elems++rest).flatMap (·.2))
       else none
      | _=>none:=by
      intro w' sp cs
      conv=>lhs;unfold DataW.trod
      rw[hu];clear hx
      split<;>simp_all
     rw[key] at hx
     split at hx
     ·cases hx
      exact⟨⟨[.sl []],⟨_,rfl,UP _,by simp⟩,nK .sl0⟩,by simp,fun w' sp _ _=>by rw[key];rfl⟩
     ·rename_i a len cap
      split at hx
      ·rename_i hb
       rw[UG] at hx;obtain⟨elems,he,hx⟩:=hx;rw[UC] at hx;obtain⟨rest,hr,rfl⟩:=hx;rw[if_pos rfl] at hr;obtain⟨hel,heg⟩:=dk he;obtain⟨hrl,hrg⟩:=dk hr;rw[Vg] at hel hrl
       -- each place
       have hat:∀ i y,(i<len→elems[i]?=some y)→(¬ i<len→i<cap∧rest[i-len]?=some y)→∃ ci,w.cells? base (a.add (i*P.cellsOf e)) (P.cellsOf e)=some ci∧DataW.trod enc P w base (fun _=>true) true fuel e ci=some y:=by
        intro i y h1 h2
        by_cases hi:i<len
        ·have:=heg i i y (by simp [hi]) (h1 hi)
         rwa [UG] at this
        ·obtain⟨h3,h4⟩:=h2 hi
         have:=hrg (i-len) (i-len) y (List.getElem?_range (by omega)) h4;rw[show len+(i-len)=i by omega,UG] at this
         exact this
       have hblk:0<elems.length+rest.length→a.block<w.heap.size∧a.spot=none:=by
        intro hp;have h0:0<cap:=by omega
        have:∃ y,(0<len→elems[0]?=some y)∧(¬ 0<len→0<cap∧rest[0-len]?=some y):=by
         by_cases hl:0<len
         ·exact⟨elems[0],fun _=>UB _,fun h=>absurd hl h⟩
         ·exact⟨rest[0],fun h=>absurd h hl,fun _=>⟨h0,by rw[Nat.zero_sub];exact UB _⟩⟩
        obtain⟨y,h1,h2⟩:=this;obtain⟨ci,hci,-⟩:=hat 0 y h1 h2;obtain⟨v,-,hv⟩:=(rL hci).2 0 hc;have:=LC hv;rw[Vm] at this;have e0:(a.add 0).add 0=a:=by unfold Addr.add;simp
        rw[e0] at this;exact this
       have hrd:∀ i y,(i<len→elems[i]?=some y)→(¬ i<len→i<cap∧rest[i-len]?=some y)→∃ ci,w.cells? base (a.add (i*P.cellsOf e)) (P.cellsOf e)=some ci∧Rd enc P w base S fuel e ci y:=by
        intro i y h1 h2;obtain⟨ci,h3,h4⟩:=hat i y h1 h2;exact⟨ci,h3,ih e S hS fuel ci y h4⟩
       have hrdE:∀ (i:Nat) y,elems[i]?=some y→∃ ci,w.cells? base (a.add (i*P.cellsOf e)) (P.cellsOf e)=some ci∧Rd enc P w base S fuel e ci y :=
        fun i y hy=>hrd i y (fun _=>hy) (fun h=>absurd (by have:=(List.getElem?_eq_some_iff.1 hy).1;omega) h)
       have hrdR:∀ (j:Nat) y,rest[j]?=some y→∃ ci,w.cells? base (a.add ((len+j)*P.cellsOf e)) (P.cellsOf e)=some ci∧Rd enc P w base S fuel e ci y :=
        fun j y hy=>hrd (len+j) y (fun h=>by omega) (fun _=>⟨by have:=(List.getElem?_eq_some_iff.1 hy).1;omega,by rwa [Vo]⟩)
       refine⟨?_,?_,?_⟩
       ·obtain⟨es,hes,heq⟩:=Bu len (fun i (ds:List Data)=>∃ ci,w.cells? base (a.add (i*P.cellsOf e)) (P.cellsOf e)=some ci∧Fit S ds∧yL w (fun _=>False) ds ci) fun i hi=>by
         obtain⟨ci,h1,⟨ds,h2,h3⟩,-,-⟩:=hrdE i _ (UB (by omega));exact⟨ds,ci,h1,h2,h3⟩
        refine⟨[.sl es],⟨es,rfl,by omega,fun y hy=>?_⟩,nK ?_⟩
        ·obtain⟨i,hi⟩:=List.mem_iff_getElem?.1 hy
         obtain⟨ci,-,h,-⟩:=heq i y hi;exact h
        ·by_cases hl:len=0
         ·rw[hl] at hes ⊢
          rw[Vp hes];exact .sl0
         ·obtain⟨hb1,hb2⟩:=hblk (by omega)
          obtain⟨b,off,spot⟩:=a;simp only at hb1 hb2;subst hb2
          have hsz:∀ y∈es,y.length=P.cellsOf e:=by
           intro y hy;obtain⟨i,hi⟩:=List.mem_iff_getElem?.1 hy;obtain⟨ci,h1,-,h2⟩:=heq i y hi;rw[←h2.1,(rL h1).1]
          have hval:∀ (i:Nat) (d:Data),es.flatten[i]?=some d→∃ v,w.cell? ⟨b,off+i,none⟩=some v∧Den w (fun _=>False) d v:=by
           intro i d hd;obtain⟨y,h1,h2⟩:=Cx es hsz hc i d hd;obtain⟨ci,h3,-,h4⟩:=heq _ y h1;have hm:i % P.cellsOf e<P.cellsOf e:=Nat.mod_lt _ hc;obtain⟨v,h5,h6⟩:=(rL h3).2 _ hm;rw[wV,wV,Ut,Nat.mul_comm,Nat.div_add_mod] at h6;exact⟨v,h6,h4.2 _ d v h2 h5⟩
          rw[←hes];refine .sl (sz:=P.cellsOf e) (fun i=>(w.cell? ⟨b,off+i,none⟩).getD undef) (by omega) (by omega) hb1 (fun h=>h) hsz (fun i hi=>?_) fun i d hd=>?_
          ·have hlt:i<es.flatten.length:=by rw[ja hsz];exact hi
           obtain⟨v,hv,-⟩:=hval i _ (UB hlt);rw[hv]
           rfl
          ·obtain⟨v,hv,hd'⟩:=hval i d hd
           rw[hv];exact hd'
       ·intro p hp
        simp only[Vj] at hp;rcases hp with hp | hp
        ·unfold MemPlace.row at hp
         rw[Vf] at hp;obtain⟨i,hi,rfl⟩:=hp;rw[Vq] at hi
         have:0<elems.length+rest.length:=by
          rcases Nat.eq_zero_or_pos (elems.length+rest.length) with h | h
          ·rw[h,Vm] at hi;omega
          ·exact h
         exact (hblk this).1
        ·rw[Vr] at hp
         obtain⟨y,hy,hp⟩:=hp;rw[Vj] at hy;rcases hy with hy | hy
         ·obtain⟨i,hi⟩:=List.mem_iff_getElem?.1 hy
          obtain⟨ci,-,h⟩:=hrdE i y hi;exact h.2.1 p hp
         ·obtain⟨i,hi⟩:=List.mem_iff_getElem?.1 hy
          obtain⟨ci,-,h⟩:=hrdR i y hi;exact h.2.1 p hp
       ·intro w' sp hsp hk
        rw[key];simp only;rw[if_pos hb]
        have hrow:0<elems.length+rest.length→sp a.block=true:=by
         intro hp
         have:=hsp (.cell a.block (a.off+0)) (by
          rw[Vj]
          left
          unfold MemPlace.row;rw[Vf];exact⟨0,by rw[Vq];exact Nat.mul_pos hp hc,rfl⟩)
         exact this
        have hmE:(Vk len).mapM (fun i=>(w'.cells? base (a.add (i*P.cellsOf e)) (P.cellsOf e)).bind (DataW.trod enc P w' base sp true fuel e))=some elems:=by
         rw[←he];refine td fun i hi=>?_
         rw[Vq] at hi;have hy:=UB (l:=elems) (i:=i) (by omega);obtain⟨ci,h1,h2⟩:=hrdE i _ hy;rw[tK h1 hk,h1];simp only[UY];obtain⟨ci',h3,h4⟩:=hat i _ (fun _=>hy) (fun h=>absurd hi h);rw[h1] at h3
         cases h3;rw[h4]
         exact h2.2.2 w' sp (fun p hp=>hsp p (by
          rw[Vj];right
          rw[Vr];exact⟨_,List.mem_append.2 (.inl (US hy)),hp⟩)) hk
        have hmR:(Vk (cap-len)).mapM (fun j=>(w'.cells? base (a.add ((len+j)*P.cellsOf e)) (P.cellsOf e)).bind (DataW.trod enc P w' base sp true fuel e))=some rest:=by
         rw[←hr];refine td fun j hj=>?_
         rw[Vq] at hj;have hy:=UB (l:=rest) (i:=j) (by omega);obtain⟨ci,h1,h2⟩:=hrdR j _ hy;rw[tK h1 hk,h1];simp only[UY];obtain⟨ci',h3,h4⟩:=hat (len+j) rest[j] (fun h=>by omega) (fun _=>⟨by omega,by rw[Vo];exact hy⟩);rw[h1] at h3
         cases h3;rw[h4]
         exact h2.2.2 w' sp (fun p hp=>hsp p (by
          rw[Vj];right
          rw[Vr];exact⟨_,List.mem_append.2 (.inr (US hy)),hp⟩)) hk
        rw[hmE];simp only[UY]
        cases hs:sp a.block with
        | true=>simp only[if_true];rw[hmR];rfl
        | false =>
         have hz:¬ 0<elems.length+rest.length:=fun h=>by rw[hrow h] at hs;cases hs
         have:rest=[]:=Vp (by omega);subst this
         rfl
      ·cases hx
     ·cases hx
    ·cases hS
   ·-- struct
    rename_i fs hu
    split at hS
    ·rename_i ht
     rw[UC] at hS;obtain⟨l,hl,rfl⟩:=hS
     have key:∀ (w':World) (sp:Nat→Bool),DataW.trod enc P w' base sp true (fuel+1) t cs =
       if cs.length=P.cellsOf t then (fs.toList.mapM fun f=>DataW.trod enc P w' base sp true fuel f.type ((cs.drop f.offset).take (P.cellsOf f.type))).map fun xs=>(.agg (xs.map (·.1)),xs.flatMap (·.2)) else none:=by
      intro w' sp
      conv=>lhs;unfold DataW.trod
      rw[hu]
     rw[key] at hx
     split at hx
     ·rename_i hlen
      rw[UC] at hx;obtain⟨xs,hxs,rfl⟩:=hx;rw[←hlen] at ht;obtain⟨h1,h2,h3⟩:=AZ (fun t S h cs x hx=>ih t S h fuel cs x hx) cs fs.toList 0 l xs hl ht hxs;refine⟨?_,h2,fun w' sp hsp hk=>?_⟩
      ·obtain⟨ds,hf,hd⟩:=h1
       exact⟨ds,hf,by simpa using hd⟩
      ·rw[key,if_pos hlen,h3 w' sp hsp hk]
       rfl
     ·cases hx
    ·cases hS
   ·cases hS
end
end Go.Mini
