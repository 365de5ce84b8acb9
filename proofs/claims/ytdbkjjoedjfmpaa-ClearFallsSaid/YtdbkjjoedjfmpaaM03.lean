/- A part of the proof. -/
import Derived.Test.YtdbkjjoedjfmpaaM02
import Derived.LoopN
import Derived.Laws.BitsLemmas
import Derived.ChangeSame
import Derived.Handed
import Derived.JoinedOf
import Derived.JoinedCond
import Derived.OpenShut
import Derived.ProofKit
set_option linter.unusedSimpArgs false
set_option linter.unusedVariables false
open List renaming getD_eq_getElem?_getD → Um, getElem?_append_left → Un, getElem?_cons_zero → Ur, getElem?_eq_none → Uu, length_append → Uv, all_eq_true → UA, mem_zipIdx_iff_getElem? → UB, drop_drop → UD, getElem?_eq_getElem → UE, map_map → UG, length_cons → UH, getElem?_take_of_lt → UJ, getElem?_drop → UK, length_drop → UL, mapM_cons → UN, length_take → UR, mem_attach → US, mem_of_getElem? → UT, map_cons → UW, drop_zero → UX, take_zero → UY, mapM_nil → U4, nil_append → U5, flatten_cons → U6, append_nil → U7, length_map → U8, drop_eq_getElem_cons → U9, take_append_drop → Va, drop_append → Vb, drop_eq_nil_of_le → Vc, take_left → Vd, drop_left → Ve, take_of_length_le → Vf, mem_map → Vg, length_range → Vh, getElem?_append → Vi, flatMap_cons → Vj, mem_append → Vk, range → Vm, eq_nil_of_length_eq_zero → Vq, mem_range → Vr, mem_flatMap → Vs
open Nat renaming testBit_or → Uo, le_refl → Uq, lt_or_ge → Ut, add_assoc → Uw, add_comm → Ux, strongRecOn → Uy, lt_asymm → UC, zero_le → UM, zero_add → U3, zero_mul → Vo, add_sub_cancel_left → Vp
open Bool renaming or_eq_true → Up, and_eq_true → Uz, false_eq_true → UI
open Option renaming getD_some → Us, map_eq_some_iff → UF, pure_def → UO, bind_eq_bind → UP, bind_eq_some_iff → UQ, bind_some → UZ
open Classical renaming choose → UU, choose_spec → UV
namespace Go.Mini
open Go
variable {T:Tab} {conf:Nat→Nat→Bool} {ops:Array Oper} {l:List MI} {K:St→Prop}
def rm (T:Tab) (conf:Nat→Nat→Bool) (ops:Array Oper) (l:List MI) (K:St→Prop):Nat→Array Bool→Rec→St→Prop
 | 0,listed,_,st=>Region.ready .any ops listed=[]∧K st
 | fuel+1,listed,rec,st=>(Region.ready .any ops listed=[]→K st) ∧
  ∀ i∈Region.ready .any ops listed,∃ x rec' st',l[i]?=some x∧Exec T conf i x rec st rec' st'∧rm T conf ops l K fuel (listed.setIfInBounds i true) rec' st'
def Closed (ops:Array Oper) (listed:Array Bool):Prop :=
 listed.size=ops.size∧∀ (j:Nat) (o:Oper),ops[j]?=some o→listed.getD j false=true→∀ e∈o.after,Region.binds .any e=true→listed.getD e.on false=true
theorem Closed.set {listed:Array Bool} {i:Nat} (h:Closed ops listed) (hi:i∈Region.ready .any ops listed):Closed ops (listed.setIfInBounds i true):=by
 refine⟨by simp [h.1],fun j o hj hl e he hb=>?_⟩
 by_cases hji:j=i
 ·subst hji
  obtain⟨_,o',ho,hall⟩:=mem_ready.1 hi;rw[hj] at ho
  cases ho;exact getD_set_true (hall e he hb)
 ·rw[getD_set_ne false (Ne.symm hji)] at hl
  exact getD_set_true (h.2 j o hj hl e he hb)
def Pairs (conf:Nat→Nat→Bool) (ops:Array Oper) (l:List MI):Prop :=
 ∀ (i j:Nat) (x y:MI),i≠j→l[i]?=some x→l[j]?=some y →
  (∀ listed,Closed ops listed→i∈Region.ready .any ops listed→j∈Region.ready .any ops listed→False)∨(lB x y=true∧Passes conf i j x y)
theorem Ac {i k:Nat} {x:MI} {rec rec':Rec} {st st':St} (h:Exec T conf i x rec st rec' st') (hk:k≠i):rec' k=rec k:=by
 rcases h with ⟨_,rfl,_⟩ | ⟨_,_,_,_,_,rfl,_⟩
 ·rfl
 ·simp [sK,hk]
theorem uU {listed:Array Bool} {i k:Nat} (h:(listed.setIfInBounds i true).getD k true=false):k≠i∧listed.getD k true=false:=by
 by_cases hki:i=k
 ·subst hki
  exfalso
  by_cases hlt:i<listed.size
  ·simp [hlt] at h
  ·have:(listed.setIfInBounds i true).size≤i:=by simp;omega
   rw[Array.getD_eq_getD_getElem?,Array.getElem?_eq_none this] at h;simp at h
 ·rw[getD_set_ne true hki] at h
  exact⟨fun h'=>hki h'.symm,h⟩
theorem xB (hp:Pairs conf ops l) (hsym:∀ a b,conf a b=conf b a) {i:Nat} {x:MI} (hi:l[i]?=some x):∀ (fuel:Nat) (listed:Array Bool) (rec:Rec) (st:St) (rec1:Rec) (st1:St),
  Closed ops listed→(∀ k,listed.getD k true=false→rec k=none)→i∈Region.ready .any ops listed→Exec T conf i x rec st rec1 st1 →
  rm T conf ops l K fuel (listed.setIfInBounds i true) rec1 st1→rm T conf ops l K (fuel+1) listed rec st:=by
 intro fuel
 induction fuel with
 | zero =>
  intro listed rec st rec1 st1 hcl hrec hr he H;refine⟨fun h=>(by rw[h] at hr;cases hr),fun j hj=>?_⟩
  by_cases hji:j=i
  ·subst hji;exact⟨x,rec1,st1,hi,he,H⟩
  ·have:=ready_mono hj hji
   rw[H.1] at this
   cases this
 | succ fuel ih =>
  intro listed rec st rec1 st1 hcl hrec hr he H;refine⟨fun h=>(by rw[h] at hr;cases hr),fun j hj=>?_⟩
  by_cases hji:j=i
  ·subst hji;exact⟨x,rec1,st1,hi,he,H⟩
  ·obtain⟨y,rec2,st2,hy,hE,hK⟩:=H.2 j (ready_mono hj hji)
   rcases hp i j x y (Ne.symm hji) hi hy with hno | ⟨hap,hpass⟩
   ·exact (hno listed hcl hr hj).elim
   ·obtain⟨recj,stj,h1,h2⟩:=Exec.comm (Ne.symm hji) hap hpass hsym (hrec i (mem_ready.1 hr).1) he hE
    refine⟨y,recj,stj,hy,h1,ih _ recj stj rec2 st2 (hcl.set hj) (fun k hk=>?_) (ready_mono hr (Ne.symm hji)) h2 ?_⟩
    ·obtain⟨h3,h4⟩:=uU hk
     rw[Ac h1 h3];exact hrec k h4
    ·rw[Array.setIfInBounds_comm _ _ hji]
     exact hK
theorem nY:∀ (r:List Oper) (acc:List Nat) (k:Nat),k<acc.length→(oJ r acc).getD k 0=acc.getD k 0
 | [],acc,k,_=>rfl
 | o::r,acc,k,hk=>by
  simp only[oJ];rw[nY r _ k (by simp;omega)];simp only[Um];rw[Un hk]
theorem KN {es:List Edge} {acc:List Nat} {i:Nat}:∀ (s:Nat),(es.foldl (fun s e=>if Region.binds .any e=true then s ||| (2^e.on ||| acc.getD e.on 0) else s) s).testBit i=true →
  s.testBit i=true∨∃ e∈es,Region.binds .any e=true∧(e.on=i∨(acc.getD e.on 0).testBit i=true):=by
 induction es with
 | nil=>exact fun s h => .inl h
 | cons e es ih =>
  intro s h;rw[List.foldl_cons] at h;rcases ih _ h with h1 | ⟨e',h1,h2⟩
  ·split at h1
   ·rename_i hb
    rw[Uo,Uo,Up,Up] at h1;rcases h1 with h1 | h1 | h1
    ·exact .inl h1
    ·rw[Nat.testBit_two_pow] at h1
     exact .inr ⟨e,by simp,hb,.inl (by simpa using h1)⟩
    ·exact .inr ⟨e,by simp,hb,.inr h1⟩
   ·exact .inl h1
  ·exact .inr ⟨e',by simp [h1],h2⟩
theorem wT:∀ (r:List Oper) (acc:List Nat) (t:Nat) (o:Oper),r[t]?=some o→∀ i,((oJ r acc).getD (acc.length+t) 0).testBit i=true →
  ∃ e∈o.after.toList,Region.binds .any e=true∧(e.on=i∨(e.on<acc.length+t∧((oJ r acc).getD e.on 0).testBit i=true))
 | [],_,_,_,h,_,_=>by simp at h
 | o'::r,acc,0,o,h,i,hb=>by
  simp at h;subst h;simp only[oJ,Nat.add_zero] at hb ⊢;rw[nY r _ _ (by simp)] at hb;simp only[Um] at hb;rw[List.getElem?_append_right (Uq _)] at hb;simp only[Nat.sub_self,Ur,Us] at hb;rcases KN (acc:=acc) 0 (by simpa only [Um] using hb) with h1 | ⟨e,h1,h2,h3⟩
  ·simp at h1
  ·refine⟨e,h1,h2,h3.imp id fun h=>?_⟩
   have hlt:e.on<acc.length:=by
    rcases Ut e.on acc.length with h' | h'
    ·exact h'
    ·rw[Um,Uu h'] at h
     simp at h
   refine⟨hlt,?_⟩;rw[nY r _ _ (by simp;omega),Um,Un hlt,←Um];exact h
 | o'::r,acc,t+1,o,h,i,hb=>by
  have h':r[t]?=some o:=by simpa using h
  simp only[oJ] at hb ⊢
  have:=wT r (acc++[o'.after.toList.foldl (fun s e=>if Region.binds .any e=true then s ||| (2^e.on ||| acc.getD e.on 0) else s) 0]) t o h' i (by
   rw[Uv,List.length_singleton,Uw,Ux 1 t];exact hb)
  obtain⟨e,h1,h2,h3⟩:=this;refine⟨e,h1,h2,h3.imp id fun h=>⟨by have:=h.1;simp at this;omega,h.2⟩⟩
theorem CQ {listed:Array Bool} (hcl:Closed ops listed):∀ (j:Nat) (o:Oper),ops[j]?=some o→(∀ e∈o.after,Region.binds .any e=true→listed.getD e.on false=true) →
  ∀ i,((oJ ops.toList []).getD j 0).testBit i=true→listed.getD i false=true:=by
 intro j
 induction j using Uy with
 | _ j ih =>
  intro o ho hall i hi;obtain⟨e,he,hb,h⟩:=wT ops.toList [] j o (by simpa using ho) i (by simpa using hi);have hl:=hall e (by simpa using he) hb;rcases h with rfl | ⟨hlt,hbit⟩
  ·exact hl
  ·have hsz:e.on<ops.size:=by
    rw[←hcl.1];rcases Ut e.on listed.size with h' | h'
    ·exact h'
    ·simp [Array.getElem?_eq_none h'] at hl
   have ho':ops[e.on]?=some ops[e.on]:=Array.getElem?_eq_getElem hsz;exact ih e.on (by simpa using hlt) _ ho' (hcl.2 e.on _ ho' hl) i hbit
theorem oT:∀ (cs pre:List MI) (as:List Nat),l9 pre cs as=true→∀ (t:Nat) (y:MI),cs[t]?=some y→∀ (i:Nat) (x:MI),(pre++cs)[i]?=some x→i<pre.length+t →
  (as.getD t 0).testBit i=true∨lB x y=true
 | [],_,_,_,_,_,h,_,_,_,_=>by simp at h
 | _::_,_,[],h,_,_,_,_,_,_,_=>by simp [l9] at h
 | c::cs,pre,a::as,h,0,y,hy,i,x,hx,hlt=>by
  simp only[l9,Uz,UA] at h;simp at hy;subst hy;have hi:i<pre.length:=by simpa using hlt
  rw[Un hi] at hx;have:=h.1 (x,i) (by rw[UB];exact hx)
  simpa using this
 | c::cs,pre,a::as,h,t+1,y,hy,i,x,hx,hlt=>by
  simp only[l9,Uz] at h;have:=oT cs (pre++[c]) as h.2 t y (by simpa using hy) i x (by simpa using hx) (by simp;omega)
  simpa using this
theorem ug:∀ (cs pre:List MI) (as:List Nat) (t:Nat) (y:MI),cs[t]?=some y→∀ (i:Nat) (x:MI),(pre++cs)[i]?=some x→i<pre.length+t →
  (as.getD t 0).testBit i=true∨ke (f9 x.op) (f9 y.op)=true∨i∈(pW pre cs as).getD t []
 | [],_,_,_,_,h,_,_,_,_=>by simp at h
 | c::cs,pre,as,0,y,hy,i,x,hx,hlt=>by
  simp at hy;subst hy;have hi:i<pre.length:=by simpa using hlt
  rw[Un hi] at hx;have hmem:(x,i)∈pre.zipIdx:=by rw[UB];exact hx
  by_cases h1:(as.getD 0 0).testBit i=true
  ·exact .inl h1
  ·by_cases h2:ke (f9 x.op) (f9 c.op)=true
   ·exact .inr (.inl h2)
   ·refine .inr (.inr ?_)
    simp only[pW,Um,Ur,Us];refine List.mem_map.2 ⟨(x,i),List.mem_filter.2 ⟨hmem,?_⟩,rfl⟩;have h3:as.headD 0=as.getD 0 0:=by cases as<;>rfl
    simp only[h3];rw[Um] at h1;simp [h1,h2]
 | c::cs,pre,as,t+1,y,hy,i,x,hx,hlt=>by
  have:=ug cs (pre++[c]) as.tail t y (by simpa using hy) i x (by simpa using hx) (by simp;omega);have h3:as.tail.getD t 0=as.getD (t+1) 0:=by cases as<;>simp
  rw[h3] at this
  simpa [pW] using this
def kM (c:List (List Nat)) (i j:Nat):Bool:=if i<j then (c.getD j []).contains i else if j<i then (c.getD i []).contains j else false
theorem sA (c:List (List Nat)) (i j:Nat):kM c i j=kM c j i:=by
 unfold kM
 by_cases h1:i<j
 ·simp [h1,UC h1]
 ·by_cases h2:j<i
  ·simp [h2,UC h2]
  ·simp [h1,h2]
theorem BL {x y:MI} (h:lB x y=true):lB y x=true:=by
 obtain⟨h1,h2,h3⟩:=sC h;unfold lB;rw[Uz]
 constructor
 ·cases hy:y.dst with
  | none=>rfl
  | some d =>
   have a:=h3 d hy;have b:x.dst≠some d:=fun hx=>h2 d hx hy
   simp [a,b]
 ·cases hx:x.dst with
  | none=>rfl
  | some d =>
   have a:=h1 d hx;simp [a]
theorem xI (a b:Nat):ke a b=ke b a:=by
 unfold ke
 cases (a==0)<;>cases (b==0)<;>cases (a==1)<;>cases (b==1)<;>rfl
theorem Jy (hd:rM ops l=true):Pairs (kM (pW [] l (oJ ops.toList []))) ops l:=by
 have key:∀ (i j:Nat) (x y:MI),i<j→l[i]?=some x→l[j]?=some y →
   (∀ listed,Closed ops listed→i∈Region.ready .any ops listed→j∈Region.ready .any ops listed→False) ∨
   (lB x y=true∧(kM (pW [] l (oJ ops.toList [])) i j=true∨ke (f9 x.op) (f9 y.op)=true)):=by
  intro i j x y hij hx hy;unfold rM at hd;rw[Uz] at hd
  by_cases hb:((oJ ops.toList []).getD j 0).testBit i=true
  ·refine .inl fun listed hcl hi hj=>?_
   obtain⟨_,o,ho,hall⟩:=mem_ready.1 hj;have h1:=CQ hcl j o ho hall i hb;have h0:=(mem_ready.1 hi).1;rcases Ut i listed.size with h' | h'
   ·simp [h'] at h0 h1;rw[h0] at h1;cases h1
   ·simp [Array.getElem?_eq_none h'] at h1
  ·refine .inr ⟨?_,?_⟩
   ·rcases oT l [] _ hd.2 j y hy i x (by simpa using hx) (by simpa using hij) with h | h
    ·exact absurd h hb
    ·exact h
   ·rcases ug l [] (oJ ops.toList []) j y hy i x (by simpa using hx) (by simpa using hij) with h | h | h
    ·exact absurd h hb
    ·exact .inr h
    ·exact .inl (by unfold kM;rw[if_pos hij];exact List.contains_iff_mem.2 h)
 intro i j x y hij hx hy;rcases Nat.lt_or_gt_of_ne hij with h | h
 ·exact key i j x y h hx hy
 ·rcases key j i y x h hy hx with h1 | ⟨h1,h2⟩
  ·exact .inl fun listed hcl hi hj=>h1 listed hcl hj hi
  ·refine .inr ⟨BL h1,?_⟩
   rcases h2 with h2 | h2
   ·exact .inl (by rw[sA];exact h2)
   ·exact .inr (by rw[xI];exact h2)
end Go.Mini
namespace Go.Mini
open Go
variable {P:Program} {T:Tab} {A:Nat→Prop} {w0 w:World} {B0 B:Lay} {mem:Mem} {n kb:Nat} {own:List Nat} {ops:Array Oper} {l:List MI} {K:St→Prop} {Q:Exit→Act→World→Prop}
theorem pK:∀ (r:List Oper) (m:Nat),oB m r=true→∀ (t:Nat) (o:Oper),r[t]?=some o→∀ e∈o.after,Region.binds .any e=true→e.on<m+t
 | [],_,_,_,_,h,_,_,_=>by simp at h
 | o'::r,m,h,0,o,ho,e,he,hb=>by
  simp only[oB,Uz] at h;simp at ho;subst ho;have:=(Array.all_eq_true_iff_forall_mem.1 h.1) e he
  simpa [hb] using this
 | o'::r,m,h,t+1,o,ho,e,he,hb=>by
  simp only[oB,Uz] at h;have:=pK r (m+1) h.2 t o (by simpa using ho) e he hb;omega
theorem ED {c:List (List Nat)} (hp:Pairs (kM c) ops l) (hl:l.length=ops.size) (he:oB 0 ops.toList=true):∀ (r:List MI) (m:Nat) (rec:Rec) (st:St) (listed:Array Bool),l.drop m=r→m+r.length=l.length →
  listed.size=ops.size→(∀ i,i<ops.size→listed.getD i true=decide (i<m))→(∀ k,m≤k→rec k=none)→uM T K m r (c.drop m) rec st→rm T (kM c) ops l K r.length listed rec st
 | [],m,rec,st,listed,hr,hm,hs,hli,hrec,h=>by
  refine⟨List.eq_nil_iff_forall_not_mem.2 fun i hi=>?_,h⟩
  obtain⟨h1,o,ho,_⟩:=mem_ready.1 hi;have hlt:i<ops.size:=(Array.getElem?_eq_some_iff.1 ho).1;rw[hli i hlt] at h1;simp at h1 hm;omega
 | x::r,m,rec,st,listed,hr,hm,hs,hli,hrec,h=>by
  have hlt:m<ops.size:=by simp at hm;omega
  have ho:ops[m]?=some ops[m]:=Array.getElem?_eq_getElem hlt
  have hx:l[m]?=some x:=by
   have:(l.drop m)[0]?=some x:=by rw[hr];rfl
   simpa using this
  have hspec:=fun (j:Nat) (o:Oper) (hj:ops[j]?=some o)=>pK ops.toList 0 he j o (by simpa using hj)
  have hin:∀ i,i<m→listed.getD i false=true:=fun i hi=>by
   have h1:=hli i (by omega);rw[decide_eq_true hi] at h1;have h2:i<listed.size:=by omega
   simpa [h2] using h1
  have hcl:Closed ops listed:=⟨hs,fun j o hj hjl e hee hb=>by
   have h1:=hspec j o hj e hee hb;have hj':j<ops.size:=(Array.getElem?_eq_some_iff.1 hj).1
   have h2:j<m:=by
    have:=hli j hj';have h3:j<listed.size:=by omega
    simp [h3] at hjl this;rw[hjl] at this
    simpa using this.symm
   exact hin _ (by omega)⟩
  have hready:m∈Region.ready .any ops listed:=mem_ready.2 ⟨by rw[hli m hlt];simp,_,ho,fun e hee hb=>hin _ (by have:=hspec m _ ho e hee hb;omega)⟩
  have hrec':∀ k,listed.getD k true=false→rec k=none:=fun k hk=>hrec k (by
   rcases Ut k ops.size with h' | h'
   ·rw[hli k h'] at hk
    simpa using hk
   ·omega)
  have next:∀ rec1 st1,Exec T (kM c) m x rec st rec1 st1→uM T K (m+1) r (c.drop m).tail rec1 st1→rm T (kM c) ops l K (r.length+1) listed rec st:=by
   intro rec1 st1 hex hk;refine xB hp (sA c) hx _ listed rec st rec1 st1 hcl hrec' hready hex (ED hp hl he r (m+1) rec1 st1 _ ?_ (by simp at hm;omega) (by simpa using hs) (fun i hi=>?_) (fun k hk=>?_) ?_)
   ·rw[←UD,hr]
    rfl
   ·by_cases him:m=i
    ·subst him
     have:m<listed.size:=by omega
     simp [this]
    ·rw[getD_set_ne true him,hli i hi]
     congr 1
     simp;omega
   ·rw[Ac hex (by omega)]
    exact hrec k (by omega)
   ·rw[List.tail_drop] at hk
    exact hk
  simp only[uM] at h
  split at h
  ·cases h
  ·rename_i g hg
   split at h
   ·rename_i hgt
    subst hgt
    split at h
    ·rename_i mv e hs
     refine next _ _ (.inr ⟨hg,mv,e,hs,fun p q hpm hq=>?_,rfl,rfl⟩) h.2
     have hpl:p<m:=by
      rcases Ut p m with h' | h'
      ·exact h'
      ·rw[hrec p h'] at hq;cases hq
     have hchk:=h.1;unfold Hh at hchk;rw[UA] at hchk
     have hmem:p∈(c.drop m).headD []:=by
      unfold kM at hpm;rw[if_pos hpl] at hpm
      have:(c.drop m).headD []=c.getD m []:=by
       rw[List.headD_eq_head?_getD,List.head?_drop,Um]
      rw[this];exact List.contains_iff_mem.1 hpm
     have:=hchk p hmem;rw[hq] at this;exact this
    ·cases h
   ·rename_i hgf
    have hgf':g=false:=by simpa using hgf
    subst hgf';exact next _ _ (.inl ⟨hg,rfl,rfl⟩) h
theorem uE (h:MemRel A w B mem):MemRel (OA A B) w (fun _=>none) emp :=
 ⟨fun _ _=>rfl,fun _ _ _ _ _ h=>(by cases h),fun b _ ⟨_,_,h,_⟩=>(by cases h),fun b hb=>hb.elim (fun h'=>h.own_lt h') (h.lt b),fun _ _ _ h=>(by cases h)⟩
theorem qk (b:Nat):OA (OA A B) (fun _=>none) b↔OA A B b :=
 ⟨fun h=>h.elim (fun⟨_,_,h,_⟩=>by cases h) id,.inr⟩
theorem KD {m:MV} {v:Value} (h:VR w (OA A B) B m v):VR w (OA (OA A B) fun _=>none) (fun _=>none) (shut m) v:=by
 cases h with
 | dat h=>exact .dat (h.less fun b hb=>(qk b).1 hb)
 | nil=>exact .nil
 | clo hl hd =>
  rename_i f caps vs
  cases caps with
  | nil=>exact .clo hl fun i d v h=>by simp at h
  | cons c r=>exact .undef
 | agg hl hd =>
  rename_i cs vs
  simp only[shut]
  cases hc:cs.mapM uv with
  | none=>exact .undef
  | some ds =>
   obtain⟨h1,h2⟩:=di hc;refine .dat (.agg (hl.trans h1.symm) fun i d v hi hv=>?_);have hlt:i<cs.length:=by have:=(List.getElem?_eq_some_iff.1 hi).1;omega
   have hci:=UE hlt;exact (vK (h2 i _ d hci hi) (hd i _ v hci hv)).less fun b hb=>(qk b).1 hb
 | _=>exact .undef
theorem vR {ms:List MV} {vs:List Value} (h:RL w (OA A B) B ms vs):RL w (OA (OA A B) fun _=>none) (fun _=>none) (ms.map shut) vs:=by
 refine⟨by simpa using h.1,fun i m v hm hv=>?_⟩
 rw[List.getElem?_map,UF] at hm;obtain⟨m',hm',rfl⟩:=hm;exact KD (h.2 i m' v hm' hv)
theorem OwnRes.less {w w':World} {O O':Nat→Prop} {sz:Nat} {es:List (List Data)} {v:Value} (hl:∀ b,O' b→O b) (h:OwnRes w w' O sz es v):OwnRes w w' O' sz es v:=by
 obtain⟨h1,a,cap,h2,h3,h4,h5⟩:=h;refine⟨h1,a,cap,h2,h3,h4,h5.imp id ?_⟩;rintro⟨b,vs,T,h6,h7,h8,h9,h10⟩;exact⟨b,vs,T,h6,h7,h8,h9,fun i d hd=>let ⟨u,hu,hden⟩:=h10 i d hd;⟨u,hu,hden.less fun b' hb'=>hb'.imp (hl b') id⟩⟩
theorem ln {o:Oper} {c:Call} {f:FuncId} {a:Act} (ho:o.op = .call c) (hcal:c.callee = .value (.func f)) (hreal:Real P f):(execOp a.eval o).run P w = .ok (.enter f (c.args.toList.map a.eval).toArray) w:=by
 obtain⟨dst,op,type,pos,after,guard⟩:=o;simp only at ho;subst ho;obtain⟨callee,cargs,ats⟩:=c;simp only at hcal;subst hcal;simp only[execOp,resolve,Deferred.ofValue,Act.eval,invoke,Sem.run_bind,Sem.run_pure,Result.andThen_ok,mL hreal];rw[cX cargs];simp
theorem FD (hT:jV P T) {a:Act} {st:St} {o:Oper} {i:MI} {m:MV} {e:Option (Key × Nat × List MV)} (h:Sim n A w0 B0 a st w B) (hi:Is P n kb own ops o i)
  (hs:iH T st.mem st.tm i.op=some (m,e)):o.wp P a w (fun a' w'=>∃ B',Sim n A w0 B0 a' ⟨put st.tm i.dst m,ib st.mem e⟩ w' B') Q:=by
 have hop:=hi.op
 have plain:sop st.mem st.tm i.op=some (m,e)→o.wp P a w (fun a' w'=>∃ B',Sim n A w0 B0 a' ⟨put st.tm i.dst m,ib st.mem e⟩ w' B') Q:=by
  intro hs
  have htr:kL P kb own o.dst o.type o.op=some i.op:=getD_some hop (by
   intro hb;rw[hb] at hs
   cases hs)
  obtain⟨nx,v,w',B',hrun,hnx,hst,hv⟩:=zO h.ok.mr h.rho htr hs;unfold Oper.wp;rw[hrun,hi.dst];have hsim:=h.put hst hv hi.lt;rcases hnx with rfl | ⟨rfl,rfl⟩
  ·exact⟨B',hsim⟩
  ·exact⟨B',hsim⟩
 cases hiop:i.op with
 | call f args =>
  have htr:kL P kb own o.dst o.type o.op=some i.op:=getD_some hop (by rw[hiop];simp);rw[hiop] at htr hs;obtain⟨c,hc,hcal,hargs⟩:=vZ htr;have hrl:=vR (gf h.rho hargs);rw[UG] at hrl;simp only[iH] at hs
  split at hs
  ·rename_i r hTf
   cases hs;obtain⟨hreal,hspec⟩:=hT f _ _ _ hTf;have hcc:=hspec (OA A B) w (fun _=>none) _ (uE h.ok.mr) hrl;unfold Oper.wp;rw[ln hc hcal hreal,hi.dst];refine Calls.mono hcc fun e w' he=>?_
   obtain⟨v,rfl,hfr,hd⟩:=he;exact⟨B,h.put (.still h.ok.mr hfr) (.dat (hd.less fun b hb=>(qk b).2 hb)) hi.lt⟩
  ·rename_i sz es hTf
   cases hs;obtain⟨hreal,hspec⟩:=hT f _ _ _ hTf;have hcc:=hspec (OA A B) w (fun _=>none) _ (uE h.ok.mr) hrl;unfold Oper.wp;rw[ln hc hcal hreal,hi.dst];refine Calls.mono hcc fun e w' he=>?_
   obtain⟨v,rfl,hfr,hd⟩:=he;exact⟨B,h.put (.still h.ok.mr hfr) (.dat ((hd.less fun b hb=>(qk b).2 hb).den fun b hb=>hb.elim (fun h'=>h.ok.mr.own_lt h') (h.ok.mr.lt b))) hi.lt⟩
  ·cases hs
 | callo k sz f args =>
  have htr:kL P kb own o.dst o.type o.op=some i.op:=getD_some hop (by rw[hiop];simp);rw[hiop] at htr hs;obtain⟨c,hc,hcal,hargs⟩:=uR htr;have hrl:=vR (gf h.rho hargs);rw[UG] at hrl;simp only[iH] at hs
  split at hs
  ·rename_i sz' es hTf
   split at hs
   ·rename_i hsz
    subst hsz
    cases hs;obtain⟨hreal,hspec⟩:=hT f _ _ _ hTf;have hcc:=hspec (OA A B) w (fun _=>none) _ (uE h.ok.mr) hrl;unfold Oper.wp;rw[ln hc hcal hreal,hi.dst];refine Calls.mono hcc fun e w' he=>?_
    obtain⟨v,rfl,hfr,hd⟩:=he;obtain⟨B',hst,hv⟩:=AW k h.ok.mr hfr (hd.less fun b hb=>(qk b).2 hb);exact⟨B',h.put hst hv hi.lt⟩
   ·cases hs
  ·cases hs
 | callm lo f args =>
  have htr:kL P kb own o.dst o.type o.op=some i.op:=getD_some hop (by rw[hiop];simp);rw[hiop] at htr hs;obtain⟨c,hc,hcal,hargs⟩:=CL htr;have hrl:=gf h.rho hargs;simp only[iH] at hs;obtain⟨r,k,g,ix,cc,cs,hTf,hm,rfl,rfl,hf⟩:=zu hs;obtain⟨hreal,hspec⟩:=hT f _ _ _ hTf;have hcc:=hspec A w B _ h.ok.mr hrl;unfold Oper.wp;rw[ln hc hcal hreal,hi.dst];refine Calls.mono hcc fun e w' he=>?_
  obtain⟨v,B',rfl,hst,hv⟩:=he;refine⟨B',?_⟩;have hcell:fI st.mem k=cs:=by simp only[fI,hm]
  rw[hcell] at hst;exact h.put hst hv hi.lt
 | callv f args=>rw[hiop] at hs;cases hs
 | isnil neg x=>rw[hiop] at hs;cases hs
 | _=>exact plain (by rw[hiop] at hs ⊢;exact hs)
theorem Fc {α β:Type} {f:α→Option β} {xs:List α} {ys:List β} (h:xs.mapM f=some ys) {i:Nat} {x:α} (hx:xs[i]?=some x):∃ y,ys[i]?=some y∧f x=some y:=by
 obtain⟨h1,h2⟩:=di h;have hlt:i<ys.length:=by rw[h1];exact (List.getElem?_eq_some_iff.1 hx).1
 exact⟨_,UE hlt,h2 i x _ hx (UE hlt)⟩
theorem yY (hT:jV P T) {conf:Nat→Nat→Bool} (htr:ops.toList.mapM (nD P n kb own ops)=some l) (hQ:∀ st a w B,K st→Sim n A w0 B0 a st w B→Q .normal a w) :
  ∀ (fuel:Nat) (listed:Array Bool) (rec:Rec) (st:St) (a:Act) (w:World) (B:Lay),Sim n A w0 B0 a st w B→rm T conf ops l K fuel listed rec st→wpAny P .any ops Q fuel listed a w
 | 0,_,_,_,_,_,_,hs,h=>⟨h.1,hQ _ _ _ _ h.2 hs⟩
 | fuel+1,listed,rec,st,a,w,B,hs,h=>by
  refine⟨fun h0=>hQ _ _ _ _ (h.1 h0) hs,fun i hi=>?_⟩
  obtain⟨x,rec',st',hx,hex,hk⟩:=h.2 i hi;obtain⟨_,o,ho,_⟩:=mem_ready.1 hi;obtain⟨y,hy,hoy⟩:=Fc htr (i:=i) (x:=o) (by simpa using ho);rw[hx] at hy
  cases hy;have his:=Nu hoy;unfold wpOp;simp only[ho];rcases hex with ⟨hg,rfl,rfl⟩ | ⟨hg,m,e,hsop,_,rfl,rfl⟩
  ·rw[rN hs his.guard hg,if_neg (by simp)]
   exact yY hT htr hQ fuel _ _ _ _ _ B (by rw[his.dst];exact hs.put (.refl hs.ok.mr) .no his.lt) hk
  ·rw[rN hs his.guard hg,if_pos rfl]
   refine .inl (Oper.wp_mono (fun a' w' ⟨B',hs'⟩=>yY hT htr hQ fuel _ _ _ _ _ B' hs' hk) (FD hT hs his hsop))
theorem Sim.drew {a:Act} {st:St} (h:Sim n A w0 B0 a st w B) (d:Nat):Sim n A w0 B0 a st { w with drawn:=d } B:=by
 have hs:StepOK A w B { w with drawn:=d } B st.mem:=.still h.ok.mr ((Fr.refl _ _).drew d);exact⟨h.ok.trans hs,fun s=>(h.tm s).keep hs.tr,h.sz,h.df⟩
theorem HW (hT:jV P T) (hm:P.follows .mixedOrders=true) {id:Nat} {a:Act} {st:St} (htr:ops.toList.mapM (nD P n kb own ops)=some l) (hd:rM ops l=true) (hs:Sim n A w0 B0 a st w B)
  (h:uM T K 0 l (pW [] l (oJ ops.toList [])) (fun _=>none) st) (hQ:∀ st a w B,K st→Sim n A w0 B0 a st w B→Q .normal a w):(Code.region id ops true).wp P Q a w:=by
 refine wp_region_any hm ?_
 have hl:l.length=ops.size:=by
  rw[(di htr).1,Array.length_toList]
 have hany:=ED (Jy hd) hl (by unfold rM at hd;rw[Uz] at hd;exact hd.1) l 0 (fun _=>none) st (Array.replicate ops.size false) rfl (by simp) (by simp) (fun i hi=>by simp [hi]) (fun _ _=>rfl) h;rw[hl] at hany;exact yY hT htr hQ ops.size _ _ _ _ _ B (hs.drew _) hany
theorem yw (hT:jV P T) (htr:ops.toList.mapM (nD P n kb own ops)=some l) (hQ:∀ st a w B,K st→Sim n A w0 B0 a st w B→Q .normal a w) :
  ∀ (r:List MI) (m:Nat) (st:St) (a:Act) (w:World) (B:Lay),l.drop m=r→Sim n A w0 B0 a st w B→wpr T K r st→wpOps P ops Q (List.range' m r.length) a w
 | [],_,_,_,_,_,_,hs,h=>hQ _ _ _ _ h hs
 | x::r,m,st,a,w,B,hr,hs,h=>by
  have hx:l[m]?=some x:=by
   have:(l.drop m)[0]?=some x:=by rw[hr];rfl
   simpa using this
  have hr':l.drop (m+1)=r:=by rw[←UD,hr];rfl
  have hlt:m<ops.size:=by
   have h1:=(di htr).1;have h2:=(List.getElem?_eq_some_iff.1 hx).1;simp at h1;omega
  have ho:ops[m]?=some ops[m]:=Array.getElem?_eq_getElem hlt;obtain⟨y,hy,hoy⟩:=Fc htr (i:=m) (x:=ops[m]) (by simp);rw[hx] at hy
  cases hy;have his:=Nu hoy;simp only[UH,List.range'_succ];rw[wpOps_cons];unfold wpOp;simp only[ho];simp only[wpr] at h
  split at h
  ·cases h
  ·rename_i g hg
   rw[rN hs his.guard hg]
   cases g with
   | true =>
    simp only[if_true] at h ⊢;exact .inl (Oper.wp_mono (fun a' w' ⟨st',B',hk,hs'⟩=>yw hT htr hQ r (m+1) st' a' w' B' hr' hs' hk) (I8 hT hs his h))
   | false =>
    simp only[UI,if_false] at h ⊢;exact yw hT htr hQ r (m+1) _ _ _ B hr' (hs.put (.refl hs.ok.mr) .no his.lt) (by rw[←his.dst];exact h)
end Go.Mini
namespace Go.Mini
open Go
variable {A:Nat→Prop} {w:World} {B:Lay} {mem:Mem}
theorem En {O:Nat→Prop} {b off c sz len:Nat} {vs:Array Value} {T:TypeId} {ds:List Data} (hh:w.heap[b]?=some (.cells vs T (0,0))) (hO:¬ O b) (hl:ds.length=len*sz) (hlc:len≤c) (hm:len≤maxLen) (hfit:off+len*sz≤vs.size)
  (hd:∀ (i:Nat) (d:Data) (v:Value),ds[i]?=some d→vs[off+i]?=some v→Den w O d v):Den w O (.sl (chunk sz len ds)) (.slice (some ⟨b,off,none⟩) len c):=by
 have hcl:=ki sz len ds
 have h:=Den.sl (w:=w) (O:=O) (es:=chunk sz len ds) (b:=b) (off:=off) (c:=c) (sz:=sz) (fun i=>vs.getD (off+i) undef) (by rw[hcl];exact hlc) (by rw[hcl];exact hm)
  (Array.getElem?_eq_some_iff.1 hh).1 hO (mU sz len ds hl)
  (fun i hi=>by
   rw[hcl] at hi;rw[cell_of_row w b (off+i) vs T (0,0) hh];have:off+i<vs.size:=by omega
   simp [this])
  (fun i d hid=>by
   rw[mR sz len ds hl] at hid;have hlt:i<ds.length:=(List.getElem?_eq_some_iff.1 hid).1;have hlt2:off+i<vs.size:=by omega
   have:vs.getD (off+i) undef=vs[off+i]:=by simp [hlt2]
   simp only[this];exact hd i d _ hid (Array.getElem?_eq_getElem hlt2))
 rw[hcl] at h;exact h
theorem D9 (hmr:MemRel A w B mem) {O:Nat→Prop} (hO:∀ b,O b→A b) {k:Key} {e:Bk} {b:Nat} (he:B k=some e) (hb:e.blk=some b):¬ O b :=
 fun h=>hmr.sep b (hO b h) ⟨k,e,he,hb⟩
theorem snap (hmr:MemRel A w B mem) {O:Nat→Prop} (hO:∀ b,O b→A b):∀ (d:Nat) (m:MV) (v:Value) (r:Data),toD d mem m=some r→VR w (OA A B) B m v→Den w O r v:=by
 have hdat:∀ (d:Data) (v:Value),VR w (OA A B) B (.dat d) v→Den w O d v:=fun d v h=>by
  cases h with
  | dat h=>exact h.less fun b hb => .inr (hO b hb)
 have hnil:∀ v,VR w (OA A B) B .nil v→Den w O (.sl []) v:=fun v h=>by
  cases h;exact .sl0
 intro d
 induction d with
 | zero =>
  intro m v r h hv
  cases m<;>simp only[toD,Option.some.injEq,reduceCtorEq] at h
  ·subst h;exact hdat _ _ hv
  ·subst h;exact hnil _ hv
 | succ d ih =>
  intro m v r h hv
  have lists:∀ (cs:List MV) (vs:List Value) (ds:List Data),cs.mapM (toD d mem)=some ds→vs.length=cs.length→(∀ (i:Nat) (x:MV) (u:Value),cs[i]?=some x→vs[i]?=some u→VR w (OA A B) B x u) →
    vs.length=ds.length∧∀ (i:Nat) (x:Data) (u:Value),ds[i]?=some x→vs[i]?=some u→Den w O x u:=by
   intro cs vs ds hds hl hr;obtain⟨h1,h2⟩:=di hds;refine⟨by omega,fun i x u hx hu=>?_⟩
   have hlt:i<cs.length:=by have:=(List.getElem?_eq_some_iff.1 hx).1;omega
   have hci:=UE hlt;exact ih _ u x (h2 i _ x hci hx) (hr i _ u hci hu)
  cases m<;>simp only[toD,Option.some.injEq,UF,reduceCtorEq] at h
  case dat=>subst h;exact hdat _ _ hv
  case nil=>subst h;exact hnil _ hv
  case ref k g sz off len =>
   split at h
   ·rename_i g' cs hk
    split at h
    ·rename_i hg
     subst hg
     split at h
     ·rename_i part hpart
      simp only[UF] at h;obtain⟨ds,hds,rfl⟩:=h;obtain⟨hcl,rfl,hpl⟩:=mp hpart;obtain⟨h1,h2⟩:=di hds
      cases hv with
      | ref he hgle hr =>
       obtain⟨e,he',hge,hn,hb⟩:=hmr.at_ hk;rw[he'] at he
       cases he;obtain⟨a,cap,rfl,h3,h4,h5⟩:=hr;rcases h5 with h5 | ⟨b,rfl,h6⟩
       ·have:len=0:=by omega
        subst this;simp only[chunk];exact .sl0
       ·obtain⟨h7,h8⟩:=h6 hge.symm
        obtain⟨vs,T,hh,hz,hle,hrl⟩:=hb b h7;refine En hh (D9 hmr hO he' h7) (by omega) h3 (by omega) (by omega) fun i x u hx hu=>?_
        have hlt:i<ds.length:=(List.getElem?_eq_some_iff.1 hx).1;have hlt2:off+i<cs.length:=by omega
        have hci:((cs.drop off).take (len*sz))[i]?=some cs[off+i]:=by
         rw[UJ (by omega),UK,UE hlt2]
        refine ih _ u x (h2 i _ x hci hx) (hrl.2 (off+i) _ u (UE hlt2) ?_);rw[UJ hlt2,Array.getElem?_toList];exact hu
     ·cases h
    ·cases h
   ·cases h
  case ptr k g off =>
   split at h
   ·rename_i g' cs hk
    split at h
    ·rename_i hg
     obtain⟨rfl,hoff⟩:=hg;simp only[UF] at h;obtain⟨ds,hds,rfl⟩:=h;obtain⟨h1,h2⟩:=di hds
     cases hv with
     | ptr he hgle hr =>
      obtain⟨e,he',hge,hn,hb⟩:=hmr.at_ hk;rw[he'] at he
      cases he;obtain⟨b,rfl,h6⟩:=hr;have h7:=h6 hge.symm;obtain⟨vs,T,hh,hz,hle,hrl⟩:=hb b h7;rw[UL] at h1;refine .ptr (fun i=>vs.getD (off+i) undef) (Array.getElem?_eq_some_iff.1 hh).1 (D9 hmr hO he' h7) (fun i hi=>?_) fun i x hx=>?_
      ·rw[cell_of_row w b (off+i) vs T (0,0) hh]
       have:off+i<vs.size:=by omega
       simp [this]
      ·have hlt:i<ds.length:=(List.getElem?_eq_some_iff.1 hx).1
       have hlt2:off+i<cs.length:=by omega
       have hlt3:off+i<vs.size:=by omega
       have hci:(cs.drop off)[i]?=some cs[off+i]:=by
        rw[UK,UE hlt2]
       have hu:vs.getD (off+i) undef=vs[off+i]:=by simp [hlt3]
       rw[hu];refine ih _ _ x (h2 i _ x hci hx) (hrl.2 (off+i) _ _ (UE hlt2) ?_);rw[UJ hlt2,Array.getElem?_toList];exact Array.getElem?_eq_getElem hlt3
    ·cases h
   ·cases h
  case clo f cs =>
   obtain⟨ds,hds,rfl⟩:=h
   cases hv with
   | clo hl hd=>obtain⟨h1,h2⟩:=lists _ _ _ hds hl hd;exact .fn h1 h2
  case agg cs =>
   obtain⟨ds,hds,rfl⟩:=h
   cases hv with
   | agg hl hd=>obtain⟨h1,h2⟩:=lists _ _ _ hds hl hd;exact .agg h1 h2
  case tup cs =>
   obtain⟨ds,hds,rfl⟩:=h
   cases hv with
   | tup hl hd=>obtain⟨h1,h2⟩:=lists _ _ _ hds hl hd;exact .tup h1 h2
theorem VR.shift {O O':Nat→Prop} {B':Lay} (hO:∀ b,O' b→O b) (hk:∀ k e,B k=some e→∃ e',B' k=some e'∧(e'=e∨e.g<e'.g)) {m:MV} {v:Value} (h:VR w O B m v):VR w O' B' m v:=by
 induction h with
 | dat h=>exact .dat (h.less hO)
 | nil=>exact .nil
 | @ref k g sz off len e v he hg hv =>
  obtain⟨e',he',hh⟩:=hk k e he;rcases hh with rfl | hh
  ·exact .ref he' hg hv
  ·exact .ref he' (by omega) (hv.later (by omega))
 | @ptr k g off e v he hg hv =>
  obtain⟨e',he',hh⟩:=hk k e he;rcases hh with rfl | hh
  ·exact .ptr he' hg hv
  ·exact .ptr he' (by omega) (hv.later (by omega))
 | clo hl hd ih=>exact .clo hl ih
 | agg hl hd ih=>exact .agg hl ih
 | tup hl hd ih=>exact .tup hl ih
 | no=>exact .no
 | undef=>exact .undef
theorem GP (hmr:MemRel A w B mem) {k:Key} {g:Nat} {cs:List MV} {e:Bk} {b:Nat} (hk:mem k=some (g,cs)) (he:B k=some e) (hb:e.blk=some b) :
  MemRel (fun b'=>A b'∨b'=b) w (fD B k ⟨aD mem k,none,0⟩) (kill mem k)∧(∀ m v,VR w (OA A B) B m v→VR w (OA (fun b'=>A b'∨b'=b) (fD B k ⟨aD mem k,none,0⟩)) (fD B k ⟨aD mem k,none,0⟩) m v):=by
 have hg:=mg hmr k e he
 have hO:∀ b',OA (fun b'=>A b'∨b'=b) (fD B k ⟨aD mem k,none,0⟩) b'→OA A B b':=fun b' h=>by
  rcases h with ⟨j,e2,hj,hx⟩ | h | rfl
  ·by_cases hjk:j=k
   ·subst hjk;rw[aZ] at hj;cases hj;cases hx
   ·rw[aQ B _ hjk] at hj;exact .inl ⟨j,e2,hj,hx⟩
  ·exact .inr h
  ·exact .inl ⟨k,e,he,hb⟩
 have hkey:∀ j e2,B j=some e2→∃ e',fD B k ⟨aD mem k,none,0⟩ j=some e'∧(e'=e2∨e2.g<e'.g):=fun j e2 hj=>by
  by_cases hjk:j=k
  ·subst hjk
   rw[he] at hj
   cases hj;exact⟨_,aZ _ _ _,.inr hg⟩
  ·exact⟨e2,by rw[aQ B _ hjk];exact hj,.inl rfl⟩
 have shift:∀ m v,VR w (OA A B) B m v→VR w (OA (fun b'=>A b'∨b'=b) (fD B k ⟨aD mem k,none,0⟩)) (fD B k ⟨aD mem k,none,0⟩) m v:=fun m v h=>h.shift hO hkey
 refine⟨⟨fun j hj=>?_,fun j j' e1 e2 b' h1 h2 h3 h4=>?_,fun b' ha ho=>?_,fun b' ha=>?_,fun j g' cs' hj=>?_⟩,shift⟩
 ·by_cases hjk:j=k
  ·subst hjk;simp [kill,az] at hj
  ·rw[aQ B _ hjk]
   simp only[kill,az,hjk,if_false] at hj;exact hmr.dom j hj
 ·by_cases hjk:j=k
  ·subst hjk;rw[aZ] at h1;cases h1;cases h3
  ·by_cases hjk':j'=k
   ·subst hjk';rw[aZ] at h2;cases h2;cases h4
   ·rw[aQ B _ hjk] at h1
    rw[aQ B _ hjk'] at h2;exact hmr.inj j j' e1 e2 b' h1 h2 h3 h4
 ·obtain⟨j,e2,hj,hx⟩:=ho
  by_cases hjk:j=k
  ·subst hjk;rw[aZ] at hj;cases hj;cases hx
  ·rw[aQ B _ hjk] at hj
   rcases ha with ha | rfl
   ·exact hmr.sep b' ha ⟨j,e2,hj,hx⟩
   ·exact hjk (hmr.inj j k e2 e b' hj he hx hb)
 ·rcases ha with ha | rfl
  ·exact hmr.lt b' ha
  ·exact hmr.own_lt ⟨k,e,he,hb⟩
 ·by_cases hjk:j=k
  ·subst hjk
   simp only[kill,az,if_true,Option.some.injEq,Prod.mk.injEq] at hj;obtain⟨rfl,rfl⟩:=hj;exact⟨_,aZ _ _ _,rfl,fun _=>rfl,fun b' hb'=>by cases hb'⟩
  ·simp only[kill,az,hjk,if_false] at hj
   obtain⟨e2,h1,h2,h3,h4⟩:=hmr.blk j g' cs' hj;refine⟨e2,by rw[aQ B _ hjk];exact h1,h2,h3,fun b' hb'=>?_⟩
   obtain⟨vs,T,h5,h6,h7,h8⟩:=h4 b' hb';exact⟨vs,T,h5,h6,h7,fun i m hm=>let ⟨v,hv,hr⟩:=h8 i m hm;⟨v,hv,shift m v hr⟩⟩
end Go.Mini
namespace Go.Mini
open Go
variable {P:Program} {T:Tab} {A:Nat→Prop} {w0 w:World} {B0 B:Lay} {mem:Mem} {n kb:Nat} {own:List Nat} {Q:Exit→Act→World→Prop}
theorem ne {k:Key} {g sz off len:Nat} {cs:List MV} {d:Data} {v:Value} (hmr:MemRel A w B mem) (hk:mem k=some (g,cs)) (hd:toD 1 mem (.ref k g sz off len)=some d) (hv:VR w (OA A B) B (.ref k g sz off len) v) :
  Den w (OA A (fD B k ⟨aD mem k,none,0⟩)) d v:=by
 have hO:∀ b,OA A (fD B k ⟨aD mem k,none,0⟩) b→OA A B b:=fun b h=>h.imp (fun⟨j,e,hj,hx⟩=>by
  by_cases hjk:j=k
  ·subst hjk;rw[aZ] at hj;cases hj;cases hx
  ·rw[aQ B _ hjk] at hj;exact⟨j,e,hj,hx⟩) id
 simp only[toD,hk,if_true] at hd
 split at hd
 ·rename_i part hpart
  simp only[UF] at hd;obtain⟨ds,hds,rfl⟩:=hd;obtain⟨hcl,rfl,hpl⟩:=mp hpart;obtain⟨h1,h2⟩:=di hds
  cases hv with
  | ref he hgle hr =>
   obtain⟨e,he',hge,hn,hb⟩:=hmr.at_ hk;rw[he'] at he;obtain rfl:=Option.some.inj he;obtain⟨a,cap,rfl,h3,h4,h5⟩:=hr;rcases h5 with h5 | ⟨b,rfl,h6⟩
   ·have:len=0:=by omega
    subst this;simp only[chunk];exact .sl0
   ·obtain⟨h7,h8⟩:=h6 hge.symm
    obtain⟨vs,T,hh,hz,hle,hrl⟩:=hb b h7
    have hnot:¬ OA A (fD B k ⟨aD mem k,none,0⟩) b:=by
     rintro (⟨j,e2,hj,hx⟩ | ha)
     ·by_cases hjk:j=k
      ·subst hjk;rw[aZ] at hj;cases hj;cases hx
      ·rw[aQ B _ hjk] at hj
       exact hjk (hmr.inj j k e2 _ b hj he' hx h7)
     ·exact hmr.sep b ha ⟨k,_,he',h7⟩
    refine En hh hnot (by omega) h3 (by omega) (by omega) fun i x u hx hu=>?_
    have hlt:i<ds.length:=(List.getElem?_eq_some_iff.1 hx).1;have hlt2:off+i<cs.length:=by omega
    have hci:((cs.drop off).take (len*sz))[i]?=some cs[off+i]:=by
     rw[UJ (by omega),UK,UE hlt2]
    have hx':=h2 i _ x hci hx
    have hv':VR w (OA A B) B cs[off+i] u:=hrl.2 (off+i) _ u (UE hlt2) (by
     rw[UJ hlt2,Array.getElem?_toList];exact hu)
    generalize cs[off+i]=m at *
    cases m<;>simp only[toD,Option.some.injEq,reduceCtorEq] at hx'
    ·subst hx'
     cases hv' with
     | dat h=>exact h.less hO
    ·subst hx'
     cases hv'
     exact .sl0
 ·cases hd
theorem wJ {k:Key} {O O':Nat→Prop} {B':Lay} {v:Value} {sz:Nat} {e:Bk} (he:B k=some e) (hv:VR w O B' .nil v):VR w O' B (.ref k e.g sz 0 0) v:=by
 cases hv;exact .ref he (Uq _) ⟨_,0,rfl,Uq _,UM _,.inl rfl⟩
theorem jc {k:Key} {g i:Nat} {cs:List MV} {m m':MV} {w1:World} (hmr:MemRel A w B mem) (hk:mem k=some (g,cs)) (hi:cs[i]?=some m)
  (hv:∀ e b v,B k=some e→e.blk=some b→w.cell? ⟨b,i,none⟩=some v→VR w (OA A B) B m' v):∃ B',StepOK A w B w B' (az mem k g (cs.set i m')):=by
 obtain⟨e,he,hge,hn,hb⟩:=hmr.at_ hk
 have ok:=StepOK.change (k:=k) (e':=e) (cs:=cs.set i m') hmr (Fr.refl _ w) (fun e2 he2 => .inl (by rw[he] at he2;cases he2;rfl)) (fun b hb2 => .inr ⟨e,he,hb2⟩) (fun h=>by
  have:=hn h;subst this
  rfl) (fun b hb2=>by
  obtain⟨vs,T,hh,hz,hle,hrl⟩:=hb b hb2;refine⟨vs,T,hh,hz,by simpa using hle,fun j x hx=>?_⟩
  by_cases hij:i=j
  ·subst hij
   have hlt:i<cs.length:=(List.getElem?_eq_some_iff.1 hi).1;rw[List.getElem?_set_self hlt] at hx
   cases hx;have hv2:i<vs.size:=by omega
   exact⟨vs[i],Array.getElem?_eq_getElem hv2,hv e b _ he hb2 (by rw[cell_of_row w b i vs T (0,0) hh];exact Array.getElem?_eq_getElem hv2)⟩
  ·rw[List.getElem?_set_ne hij] at hx
   obtain⟨v,hvv,hr⟩:=hrl.get hx;refine⟨v,?_,hr⟩;have hlt:j<cs.length:=(List.getElem?_eq_some_iff.1 hx).1;rw[UJ hlt,Array.getElem?_toList] at hvv;exact hvv)
 rw[hge] at ok;exact⟨_,ok⟩
theorem StepOK.move {k k':Key} {g:Nat} {cs:List MV} {e:Bk} (h:MemRel A w B mem) (hk:mem k=some (g,cs)) (he:B k=some e) (hne:k'≠k) :
  StepOK A w B w (fD (fD B k ⟨aD mem k,none,0⟩) k' ⟨aD mem k',e.blk,e.size⟩) (az (az mem k (aD mem k) []) k' (aD mem k') cs):=by
 have hown:∀ b,Own (fD (fD B k ⟨aD mem k,none,0⟩) k' ⟨aD mem k',e.blk,e.size⟩) b→Own B b:=by
  rintro b ⟨j,e2,hj,hb⟩
  by_cases h1:j=k'
  ·subst h1
   rw[aZ] at hj
   cases hj;exact⟨k,e,he,hb⟩
  ·rw[aQ _ _ h1] at hj
   by_cases h2:j=k
   ·subst h2
    rw[aZ] at hj
    cases hj
    cases hb
   ·rw[aQ _ _ h2] at hj
    exact⟨j,e2,hj,hb⟩
 have tr:Trans A w B w (fD (fD B k ⟨aD mem k,none,0⟩) k' ⟨aD mem k',e.blk,e.size⟩):=by
  refine⟨Uq _,fun b _ hb=>⟨rfl,fun ho=>hb (.inl (hown b ho))⟩,fun j e2 hj=>?_⟩
  by_cases h1:j=k'
  ·subst h1
   exact⟨_,aZ _ _ _,.inr (mg h j e2 hj)⟩
  ·rw[aQ _ _ h1]
   by_cases h2:j=k
   ·subst h2
    exact⟨_,aZ _ _ _,.inr (mg h j e2 hj)⟩
   ·rw[aQ _ _ h2]
    exact⟨e2,hj,.inl rfl⟩
 refine⟨⟨fun j hj=>?_,fun j j' e1 e2 b h1 h2 hb1 hb2=>?_,fun b ha ho=>h.sep b ha (hown b ho),h.lt,fun j g2 cs2 hj=>?_⟩,tr,Fr.refl _ _,fun b hb => .inl (hown b hb)⟩
 ·simp only[az] at hj
  by_cases h1:j=k'
  ·simp [h1] at hj
  ·by_cases h2:j=k
   ·rw[if_neg h1,if_pos h2] at hj
    cases hj
   ·simp only[h1,h2,if_false] at hj
    rw[aQ _ _ h1,aQ _ _ h2];exact h.dom j hj
 ·have main:∀ (j:Key) (e1:Bk),fD (fD B k ⟨aD mem k,none,0⟩) k' ⟨aD mem k',e.blk,e.size⟩ j=some e1→e1.blk=some b→(j=k'∧e.blk=some b)∨(j≠k'∧j≠k∧B j=some e1):=by
   intro j e1 hj hb
   by_cases h1:j=k'
   ·subst h1
    rw[aZ] at hj
    cases hj;exact .inl ⟨rfl,hb⟩
   ·rw[aQ _ _ h1] at hj
    by_cases h2:j=k
    ·subst h2
     rw[aZ] at hj
     cases hj
     cases hb
    ·rw[aQ _ _ h2] at hj
     exact .inr ⟨h1,h2,hj⟩
  rcases main j e1 h1 hb1 with ⟨r1,p1⟩ | ⟨r1,s1,p1⟩<;>rcases main j' e2 h2 hb2 with ⟨r2,p2⟩ | ⟨r2,s2,p2⟩
  ·rw[r1,r2]
  ·exact absurd (h.inj k j' e e2 b he p2 p1 hb2).symm s2
  ·exact absurd (h.inj k j e e1 b he p1 p2 hb1).symm s1
  ·exact h.inj j j' e1 e2 b p1 p2 hb1 hb2
 ·simp only[az] at hj
  by_cases h1:j=k'
  ·subst h1
   simp only[if_true,Option.some.injEq,Prod.mk.injEq] at hj;obtain⟨rfl,rfl⟩:=hj;obtain⟨e0,he0,hg,hn,hb⟩:=h.blk k g cs hk;rw[he] at he0
   cases he0;refine⟨_,aZ _ _ _,rfl,hn,fun b hbb=>?_⟩
   obtain⟨vs,T,h3,h4,h5,h6⟩:=hb b hbb;exact⟨vs,T,h3,h4,h5,fun i m hi=>let ⟨v,hv,hr⟩:=h6 i m hi;⟨v,hv,hr.keep tr⟩⟩
  ·simp only[h1,if_false] at hj
   rw[aQ _ _ h1]
   by_cases h2:j=k
   ·subst h2
    simp only[if_true,Option.some.injEq,Prod.mk.injEq] at hj;obtain⟨rfl,rfl⟩:=hj;exact⟨_,aZ _ _ _,rfl,fun _=>rfl,fun b hb=>by cases hb⟩
   ·simp only[h2,if_false] at hj
    rw[aQ _ _ h2];obtain⟨e0,he0,hg,hn,hb⟩:=h.blk j g2 cs2 hj;refine⟨e0,he0,hg,hn,fun b hbb=>?_⟩
    obtain⟨vs,T,h3,h4,h5,h6⟩:=hb b hbb;exact⟨vs,T,h3,h4,h5,fun i m hi=>let ⟨v,hv,hr⟩:=h6 i m hi;⟨v,hv,hr.keep tr⟩⟩
theorem Sim.ghost {a:Act} {st:St} {B':Lay} {mem':Mem} {tm':Nat→MV} (h:Sim n A w0 B0 a st w B) (hs:StepOK A w B w B' mem') (ht:∀ s,tm' s=st.tm s∨VR w (OA A B') B' (tm' s) (a.eval (.tmp s))) :
  Sim n A w0 B0 a ⟨tm',mem'⟩ w B':=by
 refine⟨h.ok.trans hs,fun s=>?_,h.sz,h.df⟩
 rcases ht s with h1 | h1
 ·simp only[h1]
  exact (h.tm s).keep hs.tr
 ·exact h1
theorem Fn {K:St→Prop} {a:Act} {st:St} {g:Ghost} (h:Sim n A w0 B0 a st w B) (hk:dN K st g):∃ st' B',K st'∧Sim n A w0 B0 a st' w B':=by
 have hev:∀ x:Opd,∃ v,VR w (OA A B) B (ev st.tm x) v∨∃ m,x = .c m:=fun x=>by
  cases x with
  | t s=>exact⟨_,.inl (h.tm s)⟩
  | c m=>exact⟨undef,.inr ⟨m,rfl⟩⟩
 cases g with
 | adopt s k sz =>
  simp only[dN] at hk
  split at hk
  ·rename_i hs
   have ok:=StepOK.virtual h.ok.mr k;refine⟨_,_,hk,h.ghost ok fun t=>?_⟩
   by_cases hts:t=s
   ·subst hts
    have:=h.tm t;rw[hs] at this;simp only[upd,if_true];exact .inr (wJ (e:=⟨aD st.mem k,none,0⟩) (aZ _ _ _) this)
   ·exact .inl (by simp [upd,hts])
  ·cases hk
 | freeze s =>
  simp only[dN] at hk
  split at hk
  ·rename_i k g sz off len hs
   split at hk
   ·rename_i g' cs hmem
    split at hk
    ·rename_i hg
     obtain⟨rfl,_⟩:=hg
     split at hk
     ·rename_i d hd
      have ok:=StepOK.virtual h.ok.mr k;refine⟨_,_,hk,h.ghost ok fun t=>?_⟩
      by_cases hts:t=s
      ·subst hts
       have hv:=h.tm t;rw[hs] at hv hd;simp only[upd,if_true];exact .inr (.dat (ne h.ok.mr hmem hd hv))
      ·exact .inl (by simp [upd,hts])
     ·cases hk
    ·cases hk
   ·cases hk
  ·cases hk
 | adoptC x i k sz =>
  simp only[dN] at hk
  split at hk
  ·rename_i kc g off hx
   split at hk
   ·rename_i g' cs hmem
    split at hk
    ·rename_i hg
     subst hg
     split at hk
     ·rename_i hc
      split at hk
      ·rename_i hne
       have ok:=StepOK.virtual h.ok.mr k;have hmem1:az st.mem k (aD st.mem k) [] kc=some (g',cs):=by simp [az,Ne.symm hne,hmem]
       obtain⟨e,he,hge,hn,hb⟩:=h.ok.mr.at_ hmem
       obtain⟨B',ok2⟩:=jc (w1:=w) (m':=.ref k (aD st.mem k) sz 0 0) ok.mr hmem1 hc (fun e2 b v he2 hb2 hv=>by
        rw[aQ B _ (Ne.symm hne)] at he2;rw[he] at he2
        cases he2;obtain⟨vs,T,hh,hz,hle,hrl⟩:=hb b hb2;have hlt:off+i<cs.length:=(List.getElem?_eq_some_iff.1 hc).1;rw[cell_of_row w b (off+i) vs T (0,0) hh] at hv;have hr:=hrl.2 (off+i) _ v hc (by rw[UJ hlt,Array.getElem?_toList];exact hv);exact wJ (e:=⟨aD st.mem k,none,0⟩) (aZ _ _ _) hr)
       exact⟨_,B',hk,h.ghost (ok.trans ok2) fun t => .inl rfl⟩
      ·cases hk
     ·cases hk
    ·cases hk
   ·cases hk
  ·cases hk
 | freezeC x i =>
  simp only[dN] at hk
  split at hk
  ·rename_i kc gc off hx
   split at hk
   ·rename_i gc' cc hmemc
    split at hk
    ·rename_i hg
     subst hg
     split at hk
     ·rename_i k g sz o len hc
      split at hk
      ·rename_i g' cs hmem
       split at hk
       ·rename_i hg
        obtain⟨rfl,_,hne⟩:=hg
        split at hk
        ·rename_i d hd
         have ok:=StepOK.virtual h.ok.mr k;have hmem1:az st.mem k (aD st.mem k) [] kc=some (gc',cc):=by simp [az,Ne.symm hne,hmemc]
         obtain⟨e,he,hge,hn,hb⟩:=h.ok.mr.at_ hmemc
         obtain⟨B',ok2⟩:=jc (w1:=w) (m':=.dat d) ok.mr hmem1 hc (fun e2 b v he2 hb2 hv=>by
          rw[aQ B _ (Ne.symm hne)] at he2;rw[he] at he2
          cases he2;obtain⟨vs,T,hh,hz,hle,hrl⟩:=hb b hb2;have hlt:off+i<cc.length:=(List.getElem?_eq_some_iff.1 hc).1;rw[cell_of_row w b (off+i) vs T (0,0) hh] at hv;have hr:=hrl.2 (off+i) _ v hc (by rw[UJ hlt,Array.getElem?_toList];exact hv);exact .dat (ne h.ok.mr hmem hd hr))
         exact⟨_,B',hk,h.ghost (ok.trans ok2) fun t => .inl rfl⟩
        ·cases hk
       ·cases hk
      ·cases hk
     ·cases hk
    ·cases hk
   ·cases hk
  ·cases hk
 | move =>
  rcases hk with hk | ⟨kx,gx,cx,i,k,g,sz,off,len,cs,k',hmx,hc,hmk,h1,h2,h3,hk⟩ | ⟨kx,gx,cx,i,k,g,sz,off,len,cs,d,hmx,hc,hmem,-,hne,hd,hk⟩
  ·exact⟨st,B,hk,h⟩
  ·obtain⟨e,he,hge,hn,hb⟩:=h.ok.mr.at_ hmk
   have ok:=StepOK.move h.ok.mr hmk he h2;have hmem1:az (az st.mem k (aD st.mem k) []) k' (aD st.mem k') cs kx=some (gx,cx):=by simp [az,Ne.symm h1,Ne.symm h3,hmx]
   obtain⟨ex,hex,hgx,hnx,hbx⟩:=h.ok.mr.at_ hmx
   obtain⟨B',ok2⟩:=jc (w1:=w) (m':=.ref k' (aD st.mem k') sz off len) ok.mr hmem1 hc (fun e2 b v he2 hb2 hv=>by
    rw[aQ _ _ (Ne.symm h3),aQ _ _ (Ne.symm h1)] at he2;rw[hex] at he2
    cases he2;obtain⟨vs,T,hh,hz,hle,hrl⟩:=hbx b hb2;have hlt:i<cx.length:=(List.getElem?_eq_some_iff.1 hc).1;rw[cell_of_row w b i vs T (0,0) hh] at hv;have hr:=hrl.2 i _ v hc (by rw[UJ hlt,Array.getElem?_toList];exact hv)
    cases hr with
    | ref he2 hgle hr =>
     rw[he] at he2
     cases he2;obtain⟨a,cap,rfl,h4,h5,h6⟩:=hr;refine .ref (aZ _ _ _) (Uq _) ⟨a,cap,rfl,h4,h5,h6.imp id ?_⟩;rintro⟨b',rfl,h7⟩;exact⟨b',rfl,fun _=>h7 hge.symm⟩)
   exact⟨_,B',hk,h.ghost (ok.trans ok2) fun t => .inl rfl⟩
  ·have ok:=StepOK.virtual h.ok.mr k
   have hmem1:az st.mem k (aD st.mem k) [] kx=some (gx,cx):=by simp [az,Ne.symm hne,hmx]
   obtain⟨e,he,hge,hn,hb⟩:=h.ok.mr.at_ hmx
   obtain⟨B',ok2⟩:=jc (w1:=w) (m':=.dat d) ok.mr hmem1 hc (fun e2 b v he2 hb2 hv=>by
    rw[aQ B _ (Ne.symm hne)] at he2;rw[he] at he2
    cases he2;obtain⟨vs,T,hh,hz,hle,hrl⟩:=hb b hb2;have hlt:i<cx.length:=(List.getElem?_eq_some_iff.1 hc).1;rw[cell_of_row w b i vs T (0,0) hh] at hv;have hr:=hrl.2 i _ v hc (by rw[UJ hlt,Array.getElem?_toList];exact hv);exact .dat (ne h.ok.mr hmem hd hr))
   exact⟨_,B',hk,h.ghost (ok.trans ok2) fun t => .inl rfl⟩
 | many =>
  obtain⟨mem',hmv,hk⟩:=hk
  have main:∀ {m0 m1:Mem},Moves m0 m1→∀ B,Sim n A w0 B0 a ⟨st.tm,m0⟩ w B→∃ B',Sim n A w0 B0 a ⟨st.tm,m1⟩ w B':=by
   intro m0 m1 hmv
   induction hmv with
   | refl mem=>exact fun B h=>⟨B,h⟩
   | @step m0 m1 m2 hs _ ih =>
    intro B h
    have one:∃ B',Sim n A w0 B0 a ⟨st.tm,m1⟩ w B':=by
     cases hs with
     | mref kx gx cx i k g sz off len cs k' hmx hc hmk h1 h2 h3 =>
      obtain⟨e,he,hge,hn,hb⟩:=h.ok.mr.at_ hmk;have ok:=StepOK.move h.ok.mr hmk he h2;have hmem1:az (az m0 k (aD m0 k) []) k' (aD m0 k') cs kx=some (gx,cx):=by simp [az,Ne.symm h1,Ne.symm h3,hmx]
      obtain⟨ex,hex,hgx,hnx,hbx⟩:=h.ok.mr.at_ hmx
      obtain⟨B',ok2⟩:=jc (w1:=w) (m':=.ref k' (aD m0 k') sz off len) ok.mr hmem1 hc (fun e2 b v he2 hb2 hv=>by
       rw[aQ _ _ (Ne.symm h3),aQ _ _ (Ne.symm h1)] at he2;rw[hex] at he2
       cases he2;obtain⟨vs,T,hh,hz,hle,hrl⟩:=hbx b hb2;have hlt:i<cx.length:=(List.getElem?_eq_some_iff.1 hc).1;rw[cell_of_row w b i vs T (0,0) hh] at hv;have hr:=hrl.2 i _ v hc (by rw[UJ hlt,Array.getElem?_toList];exact hv)
       cases hr with
       | ref he2 hgle hr =>
        rw[he] at he2
        cases he2;obtain⟨a,cap,rfl,h4,h5,h6⟩:=hr;refine .ref (aZ _ _ _) (Uq _) ⟨a,cap,rfl,h4,h5,h6.imp id ?_⟩;rintro⟨b',rfl,h7⟩;exact⟨b',rfl,fun _=>h7 hge.symm⟩)
      exact⟨B',h.ghost (ok.trans ok2) fun t => .inl rfl⟩
     | mptr kx gx cx i k g off cs k' hmx hc hmk h1 h2 h3 =>
      obtain⟨e,he,hge,hn,hb⟩:=h.ok.mr.at_ hmk;have ok:=StepOK.move h.ok.mr hmk he h2;have hmem1:az (az m0 k (aD m0 k) []) k' (aD m0 k') cs kx=some (gx,cx):=by simp [az,Ne.symm h1,Ne.symm h3,hmx]
      obtain⟨ex,hex,hgx,hnx,hbx⟩:=h.ok.mr.at_ hmx
      obtain⟨B',ok2⟩:=jc (w1:=w) (m':=.ptr k' (aD m0 k') off) ok.mr hmem1 hc (fun e2 b v he2 hb2 hv=>by
       rw[aQ _ _ (Ne.symm h3),aQ _ _ (Ne.symm h1)] at he2;rw[hex] at he2
       cases he2;obtain⟨vs,T,hh,hz,hle,hrl⟩:=hbx b hb2;have hlt:i<cx.length:=(List.getElem?_eq_some_iff.1 hc).1;rw[cell_of_row w b i vs T (0,0) hh] at hv;have hr:=hrl.2 i _ v hc (by rw[UJ hlt,Array.getElem?_toList];exact hv)
       cases hr with
       | ptr he2 hgle hr =>
        rw[he] at he2
        cases he2;obtain⟨b',rfl,h7⟩:=hr;exact .ptr (aZ _ _ _) (Uq _) ⟨b',rfl,fun _=>h7 hge.symm⟩)
      exact⟨B',h.ghost (ok.trans ok2) fun t => .inl rfl⟩
     | mfrz kx gx cx i k g sz off len cs d hmx hc hmem hne hd =>
      have ok:=StepOK.virtual h.ok.mr k;have hmem1:az m0 k (aD m0 k) [] kx=some (gx,cx):=by simp [az,Ne.symm hne,hmx]
      obtain⟨e,he,hge,hn,hb⟩:=h.ok.mr.at_ hmx
      obtain⟨B',ok2⟩:=jc (w1:=w) (m':=.dat d) ok.mr hmem1 hc (fun e2 b v he2 hb2 hv=>by
       rw[aQ B _ (Ne.symm hne)] at he2;rw[he] at he2
       cases he2;obtain⟨vs,T,hh,hz,hle,hrl⟩:=hb b hb2;have hlt:i<cx.length:=(List.getElem?_eq_some_iff.1 hc).1;rw[cell_of_row w b i vs T (0,0) hh] at hv;have hr:=hrl.2 i _ v hc (by rw[UJ hlt,Array.getElem?_toList];exact hv);exact .dat (ne h.ok.mr hmem hd hr))
      exact⟨B',h.ghost (ok.trans ok2) fun t => .inl rfl⟩
    obtain⟨B',h'⟩:=one;exact ih B' h'
  obtain⟨B',h'⟩:=main hmv B h;exact⟨_,B',hk,h'⟩
def erase:MCode→MCode
 | .skip => .skip
 | .ops l => .ops l
 | .opsD l c => .opsD l c
 | .seq a b => .seq (erase a) (erase b)
 | .cond c a b => .cond c (erase a) (erase b)
 | .block id c => .block id (erase c)
 | .loop c => .loop (erase c)
 | .exit id => .exit id
 | .ret => .ret
 | .ghost _ c=>erase c
def IW:bH→Exit
 | .normal => .normal
 | .exit id => .exit id
 | .ret => .ret
def From (P:Program) (n kb:Nat) (own:List Nat) (c:Code):MCode→Prop
 | .skip=>c = .skip
 | .ops l=>∃ id ops,c = .region id ops false∧ops.toList.mapM (nD P n kb own ops)=some l
 | .opsD l ch=>∃ id ops,c = .region id ops true∧ops.toList.mapM (nD P n kb own ops)=some l∧rM ops l=true∧ch=pW [] l (oJ ops.toList [])
 | .seq x y=>∃ a b,c = .seq a b∧gW P n kb own a=some x∧gW P n kb own b=some y
 | .cond x y z=>∃ x' a b,c = .cond x' a b∧bo x'=some x∧gW P n kb own a=some y∧gW P n kb own b=some z
 | .block id x=>∃ a,c = .block id a∧gW P n kb own a=some x
 | .loop x=>∃ a,c = .loop a∧gW P n kb own a=some x
 | .exit id=>c = .exit id
 | .ret=>c = .ret
 | .ghost ..=>False
theorem eN {c:Code} {m:MCode} (h:gW P n kb own c=some m):From P n kb own c m:=by
 cases c<;>simp only[gW,Option.some.injEq,reduceCtorEq,UF] at h
 case skip=>subst h;rfl
 case region id ops draw =>
  split at h
  ·rename_i l hl
   split at h
   ·rename_i hd
    subst hd
    split at h
    ·rename_i hok
     cases h;exact⟨id,ops,rfl,hl,hok,rfl⟩
    ·cases h
   ·rename_i hd
    cases h;exact⟨id,ops,by rw[Bool.not_eq_true] at hd;rw[hd],hl⟩
  ·cases h
 case seq a b =>
  split at h
  ·rename_i x y hx hy
   cases h;exact⟨a,b,rfl,hx,hy⟩
  ·cases h
 case cond x a b =>
  split at h
  ·rename_i x' y z hx hy hz
   cases h;exact⟨x,a,b,rfl,hx,hy,hz⟩
  ·cases h
 case block id a =>
  obtain⟨x,hx,rfl⟩:=h;exact⟨a,rfl,hx⟩
 case loop a =>
  obtain⟨x,hx,rfl⟩:=h;exact⟨a,rfl,hx⟩
 case exit id=>subst h;rfl
 case ret=>subst h;rfl
theorem jG (hT:jV P T) (hm:P.follows .mixedOrders=true):∀ (mc:MCode) (c:Code) (K:bH→St→Prop) (Q:Exit→Act→World→Prop) (st:St) (a:Act) (w:World) (B:Lay),
  gW P n kb own c=some (erase mc)→Sim n A w0 B0 a st w B→wp T mc K st→(∀ e st a w B,K e st→Sim n A w0 B0 a st w B→Q (IW e) a w)→c.wp P Q a w
 | .ghost g mc,c,K,Q,st,a,w,B,htr,hs,h,hQ=>by
  obtain⟨st',B',hk,hs'⟩:=Fn hs h;exact jG hT hm mc c K Q st' a w B' htr hs' hk hQ
 | .skip,c,K,Q,st,a,w,B,htr,hs,h,hQ=>by
  obtain rfl:=eN htr;exact Go.wp_skip (hQ .normal st a w B h hs)
 | .exit id,c,K,Q,st,a,w,B,htr,hs,h,hQ=>by
  obtain rfl:=eN htr;exact Go.wp_exit (hQ (.exit id) st a w B h hs)
 | .ret,c,K,Q,st,a,w,B,htr,hs,h,hQ=>by
  obtain rfl:=eN htr;exact Go.wp_ret (hQ .ret st a w B h hs)
 | .ops l,c,K,Q,st,a,w,B,htr,hs,h,hQ=>by
  obtain⟨id,ops,rfl,hl⟩:=eN htr;have:=yw (Q:=Q) (K:=K .normal) hT hl (fun st a w B hk hs=>hQ .normal st a w B hk hs) l 0 st a w B rfl hs h;refine Go.wp_region ?_;rw[(di hl).1,Array.length_toList] at this;rw[List.range_eq_range'];exact this
 | .opsD l ch,c,K,Q,st,a,w,B,htr,hs,h,hQ=>by
  obtain⟨id,ops,rfl,hl,hd,rfl⟩:=eN htr;exact HW hT hm hl hd hs h fun st a w B hk hs=>hQ .normal st a w B hk hs
 | .seq x y,c,K,Q,st,a,w,B,htr,hs,h,hQ=>by
  obtain⟨x',y',rfl,hx,hy⟩:=eN htr;refine Go.wp_seq (jG hT hm x x' _ _ st a w B hx hs h fun e st' a' w' B' hk hs'=>?_)
  cases e with
  | normal=>exact jG hT hm y y' _ _ st' a' w' B' hy hs' hk hQ
  | exit id=>exact hQ (.exit id) st' a' w' B' hk hs'
  | ret=>exact hQ .ret st' a' w' B' hk hs'
 | .cond x y z,c,K,Q,st,a,w,B,htr,hs,h,hQ=>by
  obtain⟨x',y',z',rfl,hx,hy,hz⟩:=eN htr;have hv:=hs.rho x' x hx;simp only[wp] at h
  split at h
  ·rename_i t ht
   rw[ht] at hv;refine Go.wp_cond hv.bool_inv ?_
   cases t with
   | true=>exact jG hT hm y y' _ _ st a w B hy hs h hQ
   | false=>exact jG hT hm z z' _ _ st a w B hz hs h hQ
  ·cases h
 | .block id x,c,K,Q,st,a,w,B,htr,hs,h,hQ=>by
  obtain⟨x',rfl,hx⟩:=eN htr;refine Go.wp_block (jG hT hm x x' _ _ st a w B hx hs h fun e st' a' w' B' hk hs'=>?_)
  cases e with
  | normal=>exact hQ .normal st' a' w' B' hk hs'
  | exit j =>
   simp only[IW,Exit.inBlock];simp only at hk
   split
   ·rename_i hj
    rw[if_pos hj] at hk;exact hQ .normal st' a' w' B' hk hs'
   ·rename_i hj
    rw[if_neg hj] at hk;exact hQ (.exit j) st' a' w' B' hk hs'
  | ret=>exact hQ .ret st' a' w' B' hk hs'
 | .loop x,c,K,Q,st,a,w,B,htr,hs,h,hQ=>by
  obtain⟨x',rfl,hx⟩:=eN htr;obtain⟨I,μ,hI,hround⟩:=h
  have key:∀ m (st:St) (a:Act) (w:World) (B:Lay),μ st<m→I st→Sim n A w0 B0 a st w B→Code.rounds P x' Q m a w:=by
   intro m
   induction m with
   | zero=>intro st a w B hm';omega
   | succ m ih =>
    intro st a w B hm' hI hs;refine jG hT hm x x' _ _ st a w B hx hs (hround st hI) fun e st' a' w' B' hk hs'=>?_
    cases e with
    | normal=>exact ih st' a' w' B' (by have:=hk.2;omega) hk.1 hs'
    | exit id=>exact hQ (.exit id) st' a' w' B' hk hs'
    | ret=>exact hQ .ret st' a' w' B' hk hs'
  exact wp_loop_rounds (μ st+1) (key _ st a w B (Nat.lt_succ_self _) hI hs)
end Go.Mini
namespace Go.Mini
open Go
variable {P:Program} {T:Tab} {A:Nat→Prop} {w0 w:World} {B0 B:Lay} {mem:Mem} {n kb:Nat} {own:List Nat}
theorem Lp {a:Act} {st:St} {r:ResultVar} {mr:nq} {m:MV} (hs:Sim n A w0 B0 a st w B) (htr:wd P r=some mr) (h:Gd st mr=some m) :
  ∃ v,((match r with
   | .tmp t=>pure (a.tmps.getD t undef)
   | .cell b t=>do loadVar t (←asAddr (a.tmps.getD b undef)):Sem Value)).run P w = .ok v w∧VR w (OA A B) B m v:=by
 cases r with
 | tmp t =>
  simp only[wd,Option.some.injEq] at htr;subst htr;simp only[Gd,Option.some.injEq] at h;subst h;exact⟨_,rfl,hs.tm t⟩
 | cell b t =>
  simp only[wd] at htr
  split at htr
  ·rename_i s g hsz hag
   simp only[Option.some.injEq] at htr;subst htr;obtain⟨blk,off,ms,vs,hv,hl,hrl,hat,hr⟩:=Bx hs.ok.mr (hs.tm b) h;obtain⟨u,h1,h2⟩:=vL (P:=P) hsz hag hl hrl hat hr;refine⟨u,?_,h2⟩;have:a.tmps.getD b undef = .pointer (some ⟨blk,off,none⟩):=hv;simp only[this,asAddr,Sem.run_bind,Sem.run_pure,Result.andThen_ok];exact h1
  ·cases htr
theorem r9 {a:Act} {st:St} (hs:Sim n A w0 B0 a st w B):∀ {l:List ResultVar} {rs:List nq} {ms:List MV},l.mapM (wd P)=some rs→rs.mapM (Gd st)=some ms →
  ∃ vs:List Value,(l.mapM fun r=>((match r with
   | .tmp t=>pure (a.tmps.getD t undef)
   | .cell b t=>do loadVar t (←asAddr (a.tmps.getD b undef)):Sem Value))).run P w = .ok vs w∧RL w (OA A B) B ms vs
 | [],rs,ms,h1,h2=>by
  simp at h1;subst h1;simp at h2;subst h2;exact⟨[],rfl,RL.nil⟩
 | r::l,rs,ms,h1,h2=>by
  simp only[UN,UO,UP,UQ,Option.some.injEq] at h1;obtain⟨x,hx,xs,hxs,rfl⟩:=h1;simp only[UN,UO,UP,UQ,Option.some.injEq] at h2;obtain⟨m,hm,ms',hms,rfl⟩:=h2;obtain⟨v,hv,hr⟩:=Lp hs hx hm;obtain⟨vs,hvs,hrl⟩:=r9 hs hxs hms;refine⟨v::vs,?_,RL.cons hr hrl⟩;simp only[UN,Sem.run_bind,hv,Result.andThen_ok,hvs,Sem.run_pure]
theorem sb {a:Act} {st:St} {fn:Func} {rs:List nq} {m:MV} (hs:Sim n A w0 B0 a st w B) (htr:fn.results.toList.mapM (wd P)=some rs) (h:gh st rs=some m) :
  ∃ v,(results fn a.tmps).run P w = .ok v w∧VR w (OA A B) B m v:=by
 unfold gh at h
 have main:∀ ms,rs.mapM (Gd st)=some ms→∃ vs:List Value,(results fn a.tmps).run P w = .ok (if h:vs.toArray.size=1 then vs.toArray[0] else .tuple vs.toArray) w∧RL w (OA A B) B ms vs:=by
  intro ms hms;obtain⟨vs,h1,h2⟩:=r9 hs htr hms;refine⟨vs,?_,h2⟩;unfold results;rw[Array.mapM_eq_mapM_toList,map_eq_pure_bind];simp only[Sem.run_bind,Sem.run_pure];have h1':=h1;generalize hq:(List.mapM _ fn.results.toList:Sem (List Value))=q;have:q.run P w = .ok vs w:=by rw[←hq];exact h1'
  rw[this]
  rfl
 split at h
 ·rename_i x hms
  simp only[Option.some.injEq] at h;subst h;obtain⟨vs,h1,h2⟩:=main _ hms;have hl:=h2.1;simp at hl;obtain⟨v,rfl⟩:=List.length_eq_one_iff.1 hl;exact⟨v,h1,h2.2 0 _ v rfl rfl⟩
 ·rename_i ms hne hms
  simp only[Option.some.injEq] at h;subst h;obtain⟨vs,h1,h2⟩:=main _ hms;have hl:=h2.1;refine⟨_,h1,?_⟩
  have:¬ (vs.toArray.size=1):=fun h=>by
   have h':ms.length=1:=by rw[←hl];simpa using h
   obtain⟨x,rfl⟩:=List.length_eq_one_iff.1 h';exact hne x rfl
  rw[dif_neg this];exact .tup hl h2.2
 ·cases h
def I0 (mf:MFunc) (Post:MV→Mem→Prop):bH→St→Prop
 | .exit _,_=>False
 | _,st=>∃ m,gh st mf.res=some m∧Post m st.mem
theorem kF (hT:jV P T) (hm:P.follows .mixedOrders=true) {f:FuncId} {fn:Func} {mf:MFunc} (hf:P.funcs[f]?=some fn) (htr:jO P kb own fn=some { mf with body:=erase mf.body }) {args:List MV} (hargs:args.length≤mf.n)
  {Post:MV→Mem→Prop} {K:bH→St→Prop} (hK:∀ e st,K e st→I0 mf Post e st) (h:wp T mf.body K ⟨ax args,mem⟩) {A:Nat→Prop} {w:World} {B:Lay} {vs:List Value} (hmr:MemRel A w B mem) (hv:RL w (OA A B) B args vs) :
  Calls P f vs.toArray w fun e w'=>∃ v m mem' B',e = .returned v∧StepOK A w B w' B' mem'∧VR w' (OA A B') B' m v∧Post m mem':=by
 unfold jO at htr
 split at htr
 ·cases htr
 ·rename_i c hb
  split at htr
  ·rename_i b rs hc hrs
   simp only[Option.some.injEq,MFunc.mk.injEq] at htr;obtain⟨hn,hnp,hres,hbody⟩:=htr;have hsz:vs.length=args.length:=hv.1;refine calls_of_wp hf hb ?_;rw[hbody] at hc;refine jG hT hm mf.body c K _ ⟨ax args,mem⟩ _ w B hc ⟨.refl hmr,fun s=>?_,?_,rfl⟩ h fun e st a w' B' hk0 hs=>?_
   ·simp only[ax,Act.eval,Array.getD_eq_getD_getElem?]
    rcases Ut s vs.length with hlt | hge
    ·have h1:args[s]?=some args[s]:=UE (by omega)
     have h2:(vs.toArray++Array.replicate (fn.ntmps-vs.toArray.size) undef)[s]?=some vs[s]:=by
      rw[Array.getElem?_append_left (by simpa using hlt)];simp [hlt]
     rw[h1,h2];exact hv.2 s _ _ h1 (UE hlt)
    ·rw[Uu (by omega),Array.getElem?_append_right (by simpa using hge)]
     have:((Array.replicate (fn.ntmps-vs.toArray.size) undef)[s-vs.toArray.size]?).getD undef=undef:=by
      cases hq:(Array.replicate (fn.ntmps-vs.toArray.size) undef)[s-vs.toArray.size]? with
      | none=>rfl
      | some u =>
       have:=Array.mem_of_getElem? hq;simp at this;simp [this.2]
     rw[this];exact .no
   ·simp
    omega
   ·have hk:=hK e st hk0
    cases e with
    | exit id=>cases hk
    | normal =>
     obtain⟨m,hm',hp⟩:=hk;obtain⟨v,hrun,hvr⟩:=sb hs hrs (by rw[hres];exact hm');exact⟨hs.df,v,hrun,v,m,_,B',rfl,hs.ok,hvr,hp⟩
    | ret =>
     obtain⟨m,hm',hp⟩:=hk;obtain⟨v,hrun,hvr⟩:=sb hs hrs (by rw[hres];exact hm');exact⟨hs.df,v,hrun,v,m,_,B',rfl,hs.ok,hvr,hp⟩
  ·cases htr
inductive PRes where
 | same (r:Data)
 | own (sz:Nat) (es:List (List Data))
def xD (w:World) (O:Nat→Prop) (ds:List Data) (vs:List Value):Prop:=vs.length=ds.length∧∀ (i:Nat) (d:Data) (v:Value),ds[i]?=some d→vs[i]?=some v→Den w O d v
def Ok (w w':World) (O:Nat→Prop):PRes→Value→Prop
 | .same r,v=>Den w' O r v
 | .own sz es,v=>OwnRes w w' O sz es v
structure aR (P:Program) (f:FuncId) (F:List Data→Option PRes):Prop where
 real:Real P f
 run:∀ ds r,F ds=some r→∀ (A:Nat→Prop) (w:World) (vs:List Value),(∀ b,A b→b<w.heap.size)→xD w A ds vs →
  Calls P f vs.toArray w fun e w'=>∃ v,e = .returned v∧Fr (fun _=>False) w w'∧Ok w w' A r v
def Nk:PRes→MV→Mem→Prop
 | .same r,m,mem=>∃ d,toD d mem m=some r
 | .own sz es,m,mem=>(m = .nil∧es=[])∨∃ k g len cs ds d,m = .ref k g sz 0 len∧mem k=some (g,cs)∧len*sz≤cs.length∧(cs.take (len*sz)).mapM (toD d (kill mem k))=some ds∧es=chunk sz len ds
def rE (sz:Nat) (mem:Mem):MV→Option (List (List Data))
 | .nil=>some []
 | .ref k g sz' off len=>if sz'=sz∧off=0 then (match mem k with
  | some (g',cs)=>if g'=g∧len*sz≤cs.length then ((cs.take (len*sz)).mapM (toD 6 (kill mem k))).map (chunk sz len) else none
  | none=>none) else none
 | _=>none
def xc (res:List nq):PRes→St→Prop
 | .same r,st=>(gh st res).bind (toD 6 st.mem)=some r
 | .own sz es,st=>(gh st res).bind (rE sz st.mem)=some es
def bF (res:List nq) (r:PRes):bH→St→Prop
 | .exit _,_=>False
 | .normal,st=>xc res r st
 | .ret,st=>xc res r st
theorem wx {mf:MFunc} {r:PRes} {st:St} (h:xc mf.res r st):∃ m,gh st mf.res=some m∧Nk r m st.mem:=by
 cases r with
 | same r =>
  simp only[xc,UQ] at h;obtain⟨m,h1,h2⟩:=h;exact⟨m,h1,6,h2⟩
 | own sz es =>
  simp only[xc,UQ] at h;obtain⟨m,h1,h2⟩:=h;refine⟨m,h1,?_⟩
  cases m<;>simp only[rE,Option.some.injEq,reduceCtorEq] at h2
  ·exact .inl ⟨rfl,h2.symm⟩
  ·split at h2
   ·rename_i hc
    obtain⟨rfl,rfl⟩:=hc
    split at h2
    ·rename_i g' cs hk
     split at h2
     ·rename_i hg
      obtain⟨rfl,hle⟩:=hg;simp only[UF] at h2;obtain⟨ds,hds,rfl⟩:=h2;exact .inr ⟨_,_,_,cs,ds,6,rfl,hk,hle,hds,rfl⟩
     ·cases h2
    ·cases h2
   ·cases h2
theorem Gz {mf:MFunc} {r:PRes} {e:bH} {st:St} (h:bF mf.res r e st):I0 mf (Nk r) e st:=by
 cases e with
 | exit id=>exact h
 | normal=>exact wx h
 | ret=>exact wx h
theorem qR (b:Nat):¬ Own (fun _=>none) b:=fun⟨_,_,h,_⟩=>by cases h
theorem HJ (hT : jV P T) (hm : P.follows .mixedOrders = true) {f : FuncId} {fn : Func} {mf : MFunc} (hf : P.funcs[f]? = some fn) (hname : (fn.name == "runtime.NumGoroutine") = false) (htr : jO P kb own fn = some { mf with body := erase mf.body })
  {F:List Data→Option PRes} (h:∀ ds r,F ds=some r→ds.length≤mf.n∧wp T mf.body (bF mf.res r) ⟨ax (ds.map .dat),emp⟩):aR P f F:=by
 refine⟨?_,fun ds r hF A w vs hlt hden=>?_⟩
 ·cases hb:fn.body with
  | none=>simp [jO,hb] at htr
  | some c=>exact⟨fn,c,hf,hb,hname⟩
 ·obtain⟨hlen,hwp⟩:=h ds r hF
  have hmr:MemRel A w (fun _=>none) emp:=⟨fun _ _=>rfl,fun _ _ _ _ _ h=>(by cases h),fun b _ ho=>qR b ho,hlt,fun _ _ _ h=>(by cases h)⟩
  have hO:∀ b,OA A (fun _=>none) b→A b:=fun b h=>h.elim (fun h=>(qR b h).elim) id
  have hrl:RL w (OA A fun _=>none) (fun _=>none) (ds.map .dat) vs:=RL.dat hden.1 fun i d v h1 h2=>(hden.2 i d v h1 h2).less hO
  refine Calls.mono (kF hT hm hf htr (by simpa using hlen) (fun e st=>Gz) hwp hmr hrl) fun e w' he=>?_
  obtain⟨v,m,mem',B',rfl,hs,hv,hp⟩:=he;refine⟨v,rfl,⟨hs.fr.os,hs.fr.tape,hs.fr.output,hs.fr.size,fun g hg _=>hs.fr.block g hg (qR g)⟩,?_⟩
  cases r with
  | same r =>
   obtain⟨d,hd⟩:=hp;exact snap hs.mr (fun b hb=>hb) d m v r hd hv
  | own sz es =>
   rcases hp with ⟨rfl,rfl⟩ | ⟨k,g,len,cs,ds',d,rfl,hk,hle,hds,rfl⟩
   ·cases hv
    exact⟨by simp,_,0,rfl,Uq _,UM _,.inl rfl⟩
   ·obtain⟨h1,h2⟩:=di hds
    have hdl:ds'.length=len*sz:=by rw[h1,UR];omega
    refine⟨mU sz len ds' hdl,?_⟩;rw[ki,mR sz len ds' hdl]
    cases hv with
    | ref he hgle hr =>
     obtain⟨e,he',hge,hn,hb⟩:=hs.mr.at_ hk;rw[he'] at he;obtain rfl:=Option.some.inj he;obtain⟨a,cap,rfl,h3,h4,h5⟩:=hr;refine⟨a,cap,rfl,h3,h4,h5.imp id ?_⟩;rintro⟨b,rfl,h6⟩;obtain⟨h7,h8⟩:=h6 hge.symm;obtain⟨vs',T',hh,hz,hle',hrl'⟩:=hb b h7;obtain⟨hmr2,hsh⟩:=GP hs.mr hk he' h7;refine⟨b,vs',T',rfl,?_,hh,by simpa [hz] using h8,fun i x hx=>?_⟩
     ·rcases hs.fresh b ⟨k,_,he',h7⟩ with h | h
      ·exact (qR b h).elim
      ·exact h
     ·have hlt1:i<ds'.length:=(List.getElem?_eq_some_iff.1 hx).1
      have hlt2:i<cs.length:=by omega
      have hci:(cs.take (len*sz))[i]?=some cs[i]:=by
       rw[UJ (by omega)];exact UE hlt2
      have hlt3:i<vs'.size:=by omega
      refine⟨vs'[i],Array.getElem?_eq_getElem hlt3,snap hmr2 (fun b hb=>hb) d _ _ x (h2 i _ x hci hx) (hsh _ _ (hrl'.2 i _ _ (UE hlt2) ?_))⟩;rw[UJ hlt2,Array.getElem?_toList];exact Array.getElem?_eq_getElem hlt3
def scalar:Data→Bool
 | .int _ _=>true
 | .bool _=>true
 | .str _=>true
 | .nilp=>true
 | .nilf=>true
 | .sl []=>true
 | .tup ds=>ds.attach.all fun⟨d,_⟩=>scalar d
 | .agg ds=>ds.attach.all fun⟨d,_⟩=>scalar d
 | _=>false
theorem tE {O O':Nat→Prop} {d:Data} {v:Value} (h:scalar d=true) (hd:Den w O d v):Den w O' d v:=by
 induction hd with
 | int=>exact .int
 | bool=>exact .bool
 | str=>exact .str
 | nilp=>exact .nilp
 | nilf=>exact .nilf
 | sl0=>exact .sl0
 | @sl es b off c sz val hl hm hb hO hsz hc hd ih =>
  cases es with
  | nil=>exact .sl0
  | cons=>simp [scalar] at h
 | ptr=>simp [scalar] at h
 | fn=>simp [scalar] at h
 | @agg cs vs hl hd ih =>
  simp only[scalar,UA,US,true_imp_iff,Subtype.forall] at h;exact .agg hl fun i d v h1 h2=>ih i d v h1 h2 (h d (UT h1))
 | @tup cs vs hl hd ih =>
  simp only[scalar,UA,US,true_imp_iff,Subtype.forall] at h;exact .tup hl fun i d v h1 h2=>ih i d v h1 h2 (h d (UT h1))
theorem rZ {O:Nat→Prop}:∀ (d:Nat) (m:MV) (v:Value) (r:Data),toD d emp m=some r→VR w O B m v→Den w O r v:=by
 intro d
 induction d with
 | zero =>
  intro m v r h hv
  cases m<;>simp only[toD,Option.some.injEq,reduceCtorEq] at h
  ·subst h;cases hv with | dat h=>exact h
  ·subst h;cases hv;exact .sl0
 | succ d ih =>
  intro m v r h hv
  have lists:∀ (cs:List MV) (vs:List Value) (ds:List Data),cs.mapM (toD d emp)=some ds→vs.length=cs.length→(∀ (i:Nat) (x:MV) (u:Value),cs[i]?=some x→vs[i]?=some u→VR w O B x u) →
    vs.length=ds.length∧∀ (i:Nat) (x:Data) (u:Value),ds[i]?=some x→vs[i]?=some u→Den w O x u:=by
   intro cs vs ds hds hl hr;obtain⟨h1,h2⟩:=di hds;refine⟨by omega,fun i x u hx hu=>?_⟩
   have hlt:i<cs.length:=by have:=(List.getElem?_eq_some_iff.1 hx).1;omega
   have hci:=UE hlt;exact ih _ u x (h2 i _ x hci hx) (hr i _ u hci hu)
  cases m<;>simp only[toD,emp,Option.some.injEq,UF,reduceCtorEq] at h
  case dat=>subst h;cases hv with | dat h=>exact h
  case nil=>subst h;cases hv;exact .sl0
  case clo f cs =>
   obtain⟨ds,hds,rfl⟩:=h
   cases hv with
   | clo hl hd=>obtain⟨h1,h2⟩:=lists _ _ _ hds hl hd;exact .fn h1 h2
  case agg cs =>
   obtain⟨ds,hds,rfl⟩:=h
   cases hv with
   | agg hl hd=>obtain⟨h1,h2⟩:=lists _ _ _ hds hl hd;exact .agg h1 h2
  case tup cs =>
   obtain⟨ds,hds,rfl⟩:=h
   cases hv with
   | tup hl hd=>obtain⟨h1,h2⟩:=lists _ _ _ hds hl hd;exact .tup h1 h2
def Ei:PRes→Eff
 | .same r => .same r
 | .own sz es => .own sz es
def lent:PRes→Option Eff
 | .same r=>if scalar r=true then some (.same r) else none
 | .own sz es=>if (es.all fun e=>e.all scalar)=true then some (.own sz es) else none
def Lz (F:List Data→Option PRes):Option (List Data)→Option Eff
 | some ds=>(F ds).bind lent
 | none=>none
def Hf (F:List Data→Option PRes):Option (List Data)→Option (List Data)→Option Eff
 | some ds,_=>(F ds).map Ei
 | none,x=>Lz F x
def mkE (F:List Data→Option PRes) (args:List MV) (mem:Mem):Option Eff:=Hf F (args.mapM (toD 6 emp)) (args.mapM (toD 6 mem))
def mkT (PT:FuncId→Option (List Data→Option PRes)):Tab:=fun f args mem=>match PT f with
 | some F=>mkE F args mem
 | none=>none
theorem EF {O:Nat→Prop} {g:MV→Option Data} {args:List MV} {ds:List Data} {vs:List Value} (h:args.mapM g=some ds) (hv:RL w O B args vs) {O':Nat→Prop} (hd:∀ m v r,g m=some r→VR w O B m v→Den w O' r v):xD w O' ds vs:=by
 obtain⟨h1,h2⟩:=di h;refine⟨by rw[hv.1,h1],fun i d v hd' hv'=>?_⟩
 have hlt:i<args.length:=by have:=(List.getElem?_eq_some_iff.1 hd').1;omega
 have hai:=UE hlt;exact hd _ v d (h2 i _ d hai hd') (hv.2 i _ v hai hv')
theorem KF {PT:FuncId→Option (List Data→Option PRes)} (h:∀ f F,PT f=some F→aR P f F):jV P (mkT PT):=by
 intro f args mem eff hTf;unfold mkT at hTf
 split at hTf
 ·rename_i F hF
  have hspec:=h f F hF;refine⟨hspec.real,fun A w B vs hmr hv=>?_⟩
  unfold mkE at hTf
  cases hds:args.mapM (toD 6 emp) with
  | some ds =>
   rw[hds] at hTf;simp only[Hf,UF] at hTf;obtain⟨r,hr,rfl⟩:=hTf;have hc:=hspec.run ds r hr (OA A B) w vs (fun b hb=>hb.elim (fun h=>hmr.own_lt h) (hmr.lt b)) (EF hds hv fun m v r=>rZ 6 m v r)
   cases r with
   | same r=>exact hc
   | own sz es=>exact hc
  | none =>
   rw[hds] at hTf;simp only[Hf] at hTf
   cases hds:args.mapM (toD 6 mem) with
   | none=>rw[hds] at hTf;cases hTf
   | some ds =>
    rw[hds] at hTf;simp only[Lz,UQ] at hTf;obtain⟨r,hr,hl⟩:=hTf;have hc:=hspec.run ds r hr (fun _=>False) w vs (fun b hb=>hb.elim) (EF hds hv fun m v r h hv=>snap hmr (fun b hb=>hb.elim) 6 m v r h hv)
    cases r with
    | same r =>
     simp only[lent] at hl
     split at hl
     ·rename_i hs
      cases hl;exact Calls.mono hc fun e w' ⟨v,he,hfr,hd⟩=>⟨v,he,hfr,tE hs hd⟩
     ·cases hl
    | own sz es =>
     simp only[lent] at hl
     split at hl
     ·rename_i hs
      cases hl;refine Calls.mono hc fun e w' ⟨v,he,hfr,hd⟩=>⟨v,he,hfr,?_⟩
      obtain⟨h1,a,cap,h2,h3,h4,h5⟩:=hd;refine⟨h1,a,cap,h2,h3,h4,h5.imp id ?_⟩;rintro⟨b,vs,T,h6,h7,h8,h9,h10⟩;refine⟨b,vs,T,h6,h7,h8,h9,fun i d hd=>?_⟩
      obtain⟨u,hu,hden⟩:=h10 i d hd;refine⟨u,hu,tE ?_ hden⟩;have hm:=UT hd;rw[List.mem_flatten] at hm;obtain⟨e,he,hde⟩:=hm;rw[UA] at hs;have:=hs e he;rw[UA] at this;exact this d hde
     ·cases hl
 ·cases hTf
end Go.Mini
namespace Go.Mini
open Go
def vT {ι:Type} (T:Tab) (J:ι→St→Prop) (m:ι→Nat) (i:ι) (K:bH→St→Prop) (k:List Todo):bH→St→Prop
 | .normal,st=>∃ i',m i'<m i∧J i' st
 | .exit id,st=>kont T K k (.exit id) st
 | .ret,st=>kont T K k .ret st
@[go_sem] theorem OW {ι:Type} (T:Tab) (J:ι→St→Prop) (m:ι→Nat) (i:ι) (K:bH→St→Prop) (k:List Todo) (id:Nat) (st:St):vT T J m i K k (.exit id) st=kont T K k (.exit id) st:=_root_.id rfl
@[go_sem] theorem PB {ι:Type} (T:Tab) (J:ι→St→Prop) (m:ι→Nat) (i:ι) (K:bH→St→Prop) (k:List Todo) (st:St):vT T J m i K k .ret st=kont T K k .ret st:=_root_.id rfl
@[go_sem] theorem yb {ι:Type} (T:Tab) (J:ι→St→Prop) (m:ι→Nat) (i:ι) (K:bH→St→Prop) (k:List Todo) (st:St):vT T J m i K k .normal st=∃ i',m i'<m i∧J i' st:=_root_.id rfl
open Classical in
theorem vE {ι:Type} {T:Tab} {K:bH→St→Prop} {k:List Todo} {st:St} {c:MCode} (J:ι→St→Prop) (m:ι→Nat) (i0:ι) (h0:J i0 st) (h:∀ i st,J i st→wp T c (kont T (vT T J m i K k) []) st) :
  wp T (.loop c) (kont T K k) st:=by
 have least:∀ st,(∃ i,J i st)→∃ i,J i st∧∀ j,J j st→m i≤m j:=by
  intro st ⟨i,hi⟩
  have:∀ n i,m i=n→J i st→∃ i,J i st∧∀ j,J j st→m i≤m j:=by
   intro n
   induction n using Uy with
   | _ n ih =>
    intro i hn hi
    by_cases hx:∃ j,J j st∧m j<m i
    ·obtain⟨j,hj,hlt⟩:=hx
     exact ih (m j) (by omega) j rfl hj
    ·refine⟨i,hi,fun j hj=>?_⟩
     rcases Ut (m j) (m i) with h' | h'
     ·exact absurd ⟨j,hj,h'⟩ hx
     ·exact h'
  exact this _ i rfl hi
 refine⟨fun st=>∃ i,J i st,fun st=>if hx:∃ i,J i st then m (UU (least st hx)) else 0,⟨i0,h0⟩,fun st hst=>?_⟩
 have hsp:=UV (least st hst);have:=h _ st hsp.1
 have hk:kont T (vT T J m (UU (least st hst)) K k) []=fun e st'=>match e with
   | .normal=>(∃ i,J i st')∧(if hx:∃ i,J i st' then m (UU (least st' hx)) else 0)<(if hx:∃ i,J i st then m (UU (least st hx)) else 0)
   | e=>kont T K k e st':=by
  funext e st'
  cases e with
  | normal =>
   simp only[IU,yb];apply propext
   constructor
   ·rintro⟨i',hlt,hj⟩
    have hex:∃ i,J i st':=⟨i',hj⟩;refine⟨hex,?_⟩;rw[dif_pos hex,dif_pos hst];have:=(UV (least st' hex)).2 i' hj;omega
   ·rintro⟨hex,hlt⟩
    rw[dif_pos hex,dif_pos hst] at hlt;exact⟨_,hlt,(UV (least st' hex)).1⟩
  | exit id=>rfl
  | ret=>rfl
 rw[hk] at this;exact this
section
variable {F:List Data→Option PRes} {mem:Mem} {st:St} {res:List nq}
@[go_sem] theorem Pj (ds:List Data) (x:Option (List Data)):Hf F (some ds) x=(F ds).map Ei:=_root_.id rfl
@[go_sem] theorem PA (x:Option (List Data)):Hf F none x=Lz F x:=_root_.id rfl
@[go_sem] theorem PE (ds:List Data):Lz F (some ds)=(F ds).bind lent:=_root_.id rfl
@[go_sem] theorem Oy (r:Data):Ei (.same r) = .same r:=_root_.id rfl
@[go_sem] theorem PK (sz:Nat) (es:List (List Data)):Ei (.own sz es) = .own sz es:=_root_.id rfl
@[go_sem] theorem Pf (r:Data):lent (.same r)=if scalar r=true then some (.same r) else none:=_root_.id rfl
@[go_sem] theorem sM (n:Nat) (d:Data):toD n mem (.dat d)=some d:=by cases n<;>rfl
@[go_sem] theorem L7 (n:Nat):toD n mem .nil=some (.sl []):=by cases n<;>rfl
@[go_sem] theorem Sg (n:Nat) (cs:List MV):toD (n+1) mem (.agg cs)=(cs.mapM (toD n mem)).map .agg:=_root_.id rfl
@[go_sem] theorem So (n:Nat) (cs:List MV):toD (n+1) mem (.tup cs)=(cs.mapM (toD n mem)).map .tup:=_root_.id rfl
@[go_sem] theorem R7 (n:Nat) (f:FuncId) (cs:List MV):toD (n+1) mem (.clo f cs)=(cs.mapM (toD n mem)).map (.fn f):=_root_.id rfl
@[go_sem] theorem PN (r:PRes) (id:Nat):bF res r (.exit id) st=False:=_root_.id rfl
@[go_sem] theorem Qn (r:PRes):bF res r .ret st=xc res r st:=_root_.id rfl
@[go_sem] theorem M6 (r:PRes):bF res r .normal st=xc res r st:=_root_.id rfl
@[go_sem] theorem Pm (r:Data):xc res (.same r) st=((gh st res).bind (toD 6 st.mem)=some r):=_root_.id rfl
@[go_sem] theorem QM (sz:Nat) (es:List (List Data)):xc res (.own sz es) st=((gh st res).bind (rE sz st.mem)=some es):=_root_.id rfl
end
@[go_sem] theorem Np (x:Bool):yA (.dat (.bool x)) true=some x:=by cases x<;>rfl
@[go_sem] theorem ML (x:Bool):yA (.dat (.bool x)) false=some (!x):=by cases x<;>rfl
attribute [go_sem] UW List.map_nil Ur List.getElem?_cons_succ UH List.length_nil UX List.take_succ_cons UY UZ Option.map_some Option.map_none U3
 UN U4 UO UP U5 List.cons_append List.drop_succ_cons List.drop_nil List.take_nil Bool.not_true Bool.not_false Bool.or_true Bool.true_or Bool.or_false Bool.false_or Bool.and_true Bool.true_and Bool.and_false Bool.false_and List.all_cons List.all_nil true_and and_true UI bne
section
variable {T:Tab} {K:bH→St→Prop} {k:List Todo} {st:St}
theorem qqA {x:Bool} {i:MI} {r:List MI} (h1:x=false→wpG T K k (some true) i r st) (h2:x=true→wpG T K k (some false) i r st):wpG T K k (some (!x)) i r st:=by
 cases x
 ·exact h1 rfl
 ·exact h2 rfl
theorem qqB {x:Bool} {i:MI} {r:List MI} (h1:x=true→wpG T K k (some true) i r st) (h2:x=false→wpG T K k (some false) i r st):wpG T K k (some x) i r st:=by
 cases x
 ·exact h2 rfl
 ·exact h1 rfl
theorem qqE {x:Bool} {n:Nat} {i:MI} {r:List MI} {c:List (List Nat)} {rec:Rec} (h1:x=false→pa T K k n (some true) i r c rec st) (h2:x=true→pa T K k n (some false) i r c rec st):pa T K k n (some (!x)) i r c rec st:=by
 cases x
 ·exact h1 rfl
 ·exact h2 rfl
theorem qqF {x:Bool} {n:Nat} {i:MI} {r:List MI} {c:List (List Nat)} {rec:Rec} (h1:x=true→pa T K k n (some true) i r c rec st) (h2:x=false→pa T K k n (some false) i r c rec st):pa T K k n (some x) i r c rec st:=by
 cases x
 ·exact h2 rfl
 ·exact h1 rfl
theorem qqC {x:Bool} {a b:MCode} (h1:x=false→wpB T K k (.dat (.bool true)) a b st) (h2:x=true→wpB T K k (.dat (.bool false)) a b st):wpB T K k (.dat (.bool (!x))) a b st:=by
 cases x
 ·exact h1 rfl
 ·exact h2 rfl
theorem qqD {x:Bool} {a b:MCode} (h1:x=true→wpB T K k (.dat (.bool true)) a b st) (h2:x=false→wpB T K k (.dat (.bool false)) a b st):wpB T K k (.dat (.bool x)) a b st:=by
 cases x
 ·exact h2 rfl
 ·exact h1 rfl
end
class Spl (G:Prop) (A B:outParam Prop):Prop where
 go:A→B→G
theorem qS {G A B:Prop} [s:Spl G A B] (a:A) (b:B):G:=s.go a b
theorem qI {G:Prop} (h:True→G):G:=h trivial
instance {T K k i r st} {x:Bool}:Spl (wpG T K k (some x) i r st) (x=true→wpG T K k (some true) i r st) (x=false→wpG T K k (some false) i r st):=⟨qqB⟩
instance {T K k i r st} {x:Bool}:Spl (wpG T K k (some (!x)) i r st) (x=false→wpG T K k (some true) i r st) (x=true→wpG T K k (some false) i r st):=⟨qqA⟩
instance {T K k st a b} {x:Bool}:Spl (wpB T K k (.dat (.bool x)) a b st) (x=true→wpB T K k (.dat (.bool true)) a b st) (x=false→wpB T K k (.dat (.bool false)) a b st):=⟨qqD⟩
instance {T K k st a b} {x:Bool}:Spl (wpB T K k (.dat (.bool (!x))) a b st) (x=false→wpB T K k (.dat (.bool true)) a b st) (x=true→wpB T K k (.dat (.bool false)) a b st):=⟨qqC⟩
instance {T K k n i r c rec st} {x:Bool}:Spl (pa T K k n (some x) i r c rec st) (x=true→pa T K k n (some true) i r c rec st) (x=false→pa T K k n (some false) i r c rec st):=⟨qqF⟩
instance {T K k n i r c rec st} {x:Bool}:Spl (pa T K k n (some (!x)) i r c rec st) (x=false→pa T K k n (some true) i r c rec st) (x=true→pa T K k n (some false) i r c rec st):=⟨qqE⟩
attribute [go_sem] reduceIte Nat.reduceEqDiff Nat.reduceAdd Nat.reduceSub Nat.reduceMul Nat.reduceLeDiff reduceCtorEq Nat.reduceLT Nat.reduceBEq Int.reduceEq
def tF {ι:Type} (T:Tab) (ks:List Nat) (km:List Key) (vs:List MV) (ms:List (Option (Nat × List MV))) (J:ι→(Nat→MV)→Mem→Prop) (m:ι→Nat) (i:ι) (K:bH→St→Prop) (k:List Todo):bH→St→Prop
 | .normal,st=>∃ i',m i'<m i∧ks.map st.tm=vs∧km.map st.mem=ms∧J i' st.tm st.mem
 | .exit id,st=>kont T K k (.exit id) st
 | .ret,st=>kont T K k .ret st
section
variable {ι:Type} (T:Tab) (ks:List Nat) (km:List Key) (vs:List MV) (ms:List (Option (Nat × List MV))) (J:ι→(Nat→MV)→Mem→Prop) (m:ι→Nat) (i:ι) (K:bH→St→Prop) (k:List Todo)
@[go_sem] theorem Nd (id:Nat) (st:St):tF T ks km vs ms J m i K k (.exit id) st=kont T K k (.exit id) st:=_root_.id rfl
@[go_sem] theorem OQ (st:St):tF T ks km vs ms J m i K k .ret st=kont T K k .ret st:=_root_.id rfl
@[go_sem] theorem KS (st:St):tF T ks km vs ms J m i K k .normal st=∃ i',m i'<m i∧ks.map st.tm=vs∧km.map st.mem=ms∧J i' st.tm st.mem:=_root_.id rfl
end
theorem ae {ι:Type} {T:Tab} {K:bH→St→Prop} {k:List Todo} {tm0:Nat→MV} {mem0:Mem} {c:MCode} (ks:List Nat) (km:List Key) (J:ι→(Nat→MV)→Mem→Prop) (m:ι→Nat) (i0:ι) (h0:J i0 tm0 mem0)
  (h:∀ vs ms,ks.map tm0=vs→km.map mem0=ms→∀ i tm mem,ks.map tm=vs→km.map mem=ms→J i tm mem→wp T c (kont T (tF T ks km vs ms J m i K k) []) ⟨tm,mem⟩) :
  wp T (.loop c) (kont T K k) ⟨tm0,mem0⟩:=by
 refine vE (fun i st=>ks.map st.tm=ks.map tm0∧km.map st.mem=km.map mem0∧J i st.tm st.mem) m i0 ⟨rfl,rfl,h0⟩ ?_;rintro i ⟨tm,mem⟩ ⟨h1,h2,h3⟩;have:=h _ _ rfl rfl i tm mem h1 h2 h3
 have hk:kont T (tF T ks km (ks.map tm0) (km.map mem0) J m i K k) []=kont T (vT T (fun i (st:St)=>ks.map st.tm=ks.map tm0∧km.map st.mem=km.map mem0∧J i st.tm st.mem) m i K k) []:=by
  funext e st'
  cases e<;>rfl
 rw[hk] at this;exact this
theorem wp_mono {T:Tab}:∀ (c:MCode) (K K':bH→St→Prop),(∀ e st,K e st→K' e st)→∀ st,wp T c K st→wp T c K' st:=by
 intro c
 induction c with
 | skip=>exact fun K K' h st=>h _ _
 | ops l =>
  intro K K' h st hw
  have:∀ (l:List MI) (K K':St→Prop),(∀ st,K st→K' st)→∀ st,wpr T K l st→wpr T K' l st:=by
   intro l
   induction l with
   | nil=>exact fun K K' h st=>h st
   | cons i r ih =>
    intro K K' h st hw;unfold wpr at hw ⊢
    split
    ·rename_i hg
     rw[hg] at hw;exact hw
    ·rename_i g hg
     rw[hg] at hw;simp only at hw ⊢
     split
     ·rename_i hgt
      rw[if_pos hgt] at hw
      have hstep:∀ (K K':St→Prop),(∀ st,K st→K' st)→cR T K i st→cR T K' i st:=by
       intro K K' h hw
       have hc:∀ d f args,nn T K st d f args→nn T K' st d f args:=by
        intro d f args hw;unfold nn at hw ⊢
        split
        ·rename_i hh;rw[hh] at hw;exact h _ hw
        ·rename_i hh;rw[hh] at hw;exact h _ hw
        ·rename_i hh;rw[hh] at hw;exact fun r mem' hr=>h _ (hw r mem' hr)
        ·rename_i hh;rw[hh] at hw;exact h _ hw
        ·rename_i hh;rw[hh] at hw;exact hw
       unfold cR at hw ⊢
       split
       ·rename_i hh;rw[hh] at hw;exact hc _ _ _ hw
       ·rename_i hh;rw[hh] at hw
        simp only at hw
        split
        ·rename_i hh2;rw[hh2] at hw
         simp only at hw
         split
         ·rename_i hs;rw[if_pos hs] at hw;exact h _ hw
         ·rename_i hs;rw[if_neg hs] at hw;exact hw
        ·rename_i hh2
         split at hw
         ·rename_i sz' es hh3;exact (hh2 sz' es hh3).elim
         ·exact hw
       ·rename_i hh;rw[hh] at hw
        simp only at hw
        split
        ·rename_i hh2;rw[hh2] at hw;exact hc _ _ _ hw
        ·rename_i hh2;rw[hh2] at hw;exact hc _ _ _ hw
        ·rename_i hh2 hh3
         split at hw
         ·rename_i hh4;exact (hh2 _ _ hh4).elim
         ·rename_i hh4;exact (hh3 _ _ hh4).elim
         ·exact hw
       ·rename_i hh;rw[hh] at hw
        simp only at hw
        split
        ·rename_i hh2;rw[hh2] at hw;exact fun b hb=>h _ (hw b hb)
        ·rename_i hh2;rw[hh2] at hw;exact hw
       ·rename_i h1 h2 h3 h4
        split at hw
        ·rename_i hh;exact (h1 _ _ hh).elim
        ·rename_i hh;exact (h2 _ _ _ _ hh).elim
        ·rename_i hh;exact (h3 _ _ hh).elim
        ·rename_i hh;exact (h4 _ _ hh).elim
        ·split
         ·rename_i hh;rw[hh] at hw;exact h _ hw
         ·rename_i hh;rw[hh] at hw;exact hw
      exact hstep _ _ (ih _ _ h) hw
     ·rename_i hgt
      rw[if_neg hgt] at hw;exact ih _ _ h _ hw
  exact this l _ _ (fun st=>h .normal st) st hw
 | opsD l c =>
  intro K K' h st hw
  have:∀ (l:List MI) (n:Nat) (cs:List (List Nat)) (rec:Rec) (K K':St→Prop),(∀ st,K st→K' st)→∀ st,uM T K n l cs rec st→uM T K' n l cs rec st:=by
   intro l
   induction l with
   | nil=>exact fun n cs rec K K' h st=>h st
   | cons i r ih =>
    intro n cs rec K K' h st hw;unfold uM at hw ⊢
    split
    ·rename_i hg
     rw[hg] at hw;exact hw
    ·rename_i g hg
     rw[hg] at hw;simp only at hw ⊢
     split
     ·rename_i hgt
      rw[if_pos hgt] at hw
      split
      ·rename_i m e hs
       rw[hs] at hw;exact⟨hw.1,ih _ _ _ _ _ h _ hw.2⟩
      ·rename_i hs
       rw[hs] at hw;exact hw
     ·rename_i hgt
      rw[if_neg hgt] at hw;exact ih _ _ _ _ _ h _ hw
  exact this l 0 c _ _ _ (fun st=>h .normal st) st hw
 | seq a b iha ihb =>
  intro K K' h st hw;refine iha _ _ (fun e st' hh=>?_) st hw
  cases e with
  | normal=>exact ihb _ _ h _ hh
  | exit id=>exact h _ _ hh
  | ret=>exact h _ _ hh
 | cond c a b iha ihb =>
  intro K K' h st hw;unfold wp at hw ⊢
  split
  ·rename_i t hc
   rw[hc] at hw;simp only at hw
   split
   ·rename_i ht
    rw[if_pos ht] at hw;exact iha _ _ h _ hw
   ·rename_i ht
    rw[if_neg ht] at hw;exact ihb _ _ h _ hw
  ·rename_i hx
   split at hw
   ·rename_i hc
    exact (hx _ hc).elim
   ·exact hw
 | block id c ih =>
  intro K K' h st hw;refine ih _ _ (fun e st' hh=>?_) st hw
  cases e with
  | normal=>exact h _ _ hh
  | exit j =>
   simp only at hh ⊢
   split
   ·rename_i hj
    rw[if_pos hj] at hh;exact h _ _ hh
   ·rename_i hj
    rw[if_neg hj] at hh;exact h _ _ hh
  | ret=>exact h _ _ hh
 | loop c ih =>
  intro K K' h st hw;obtain⟨I,μ,h0,hI⟩:=hw;refine⟨I,μ,h0,fun st hst=>ih _ _ (fun e st' hh=>?_) _ (hI st hst)⟩
  cases e with
  | normal=>exact hh
  | exit id=>exact h _ _ hh
  | ret=>exact h _ _ hh
 | exit id=>exact fun K K' h st=>h _ _
 | ret=>exact fun K K' h st=>h _ _
 | ghost g c ih =>
  intro K K' h st hw
  have:∀ (K K':St→Prop),(∀ st,K st→K' st)→dN K st g→dN K' st g:=by
   intro K K' h hw;unfold dN at hw
   repeat' split at hw
   all_goals first
    | exact hw.elim
    | exact⟨hw.choose,hw.choose_spec.1,h _ hw.choose_spec.2⟩
    | (
      rcases hw with hw | ⟨kx,gx,cx,i,k,g,sz,off,len,cs,k',h1,h2,h3,h4,h5,h6,hw⟩ | ⟨kx,gx,cx,i,k,g,sz,off,len,cs,d,h1,h2,h3,h4,h5,h6,hw⟩
      ·exact .inl (h _ hw)
      ·exact .inr (.inl ⟨kx,gx,cx,i,k,g,sz,off,len,cs,k',h1,h2,h3,h4,h5,h6,h _ hw⟩)
      ·exact .inr (.inr ⟨kx,gx,cx,i,k,g,sz,off,len,cs,d,h1,h2,h3,h4,h5,h6,h _ hw⟩))
    | (
      have h':=h _ hw;clear hw h;unfold dN
      simp_all)
  exact this _ _ (ih _ _ h) hw
def wK (T:Tab) (K:bH→St→Prop) (k:List Todo) (Q:St→Prop):bH→St→Prop
 | .normal,st=>Q st
 | .exit id,st=>kont T K k (.exit id) st
 | .ret,st=>kont T K k .ret st
@[go_sem] theorem MN {T:Tab} {K:bH→St→Prop} {k:List Todo} {Q:St→Prop} (st:St):wK T K k Q .normal st=Q st:=_root_.id rfl
@[go_sem] theorem Nz {T:Tab} {K:bH→St→Prop} {k:List Todo} {Q:St→Prop} (id:Nat) (st:St):wK T K k Q (.exit id) st=kont T K k (.exit id) st:=_root_.id rfl
@[go_sem] theorem Pt {T:Tab} {K:bH→St→Prop} {k:List Todo} {Q:St→Prop} (st:St):wK T K k Q .ret st=kont T K k .ret st:=_root_.id rfl
theorem Fa {T:Tab} {K:bH→St→Prop} {k:List Todo} {c a:MCode} {st:St} (Q:St→Prop) (ha:wp T a (kont T (wK T K k Q) []) st) (hc:∀ st',Q st'→wp T c (kont T K k) st'):wp T a (kont T K (.code c::k)) st:=by
 refine wp_mono a _ _ (fun e st' hh=>?_) st ha
 cases e with
 | normal=>exact hc st' hh
 | exit id=>exact hh
 | ret=>exact hh
theorem HT {T:Tab} {K:bH→St→Prop} {k:List Todo} {x:Bool} {c a b:MCode} {st:St} (Q:St→Prop) (ha:x=true→wp T a (kont T (wK T K k Q) []) st) (hb:x=false→wp T b (kont T (wK T K k Q) []) st)
  (hc:∀ st',Q st'→wp T c (kont T K k) st'):wpB T K (.code c::k) (.dat (.bool x)) a b st:=by
 cases x
 ·rw[Gr];exact Fa Q (hb rfl) hc
 ·rw[IQ];exact Fa Q (ha rfl) hc
attribute [go_sem] beq_true beq_false Bool.true_beq Bool.false_beq U6 List.flatten_nil U7 List.headD_cons List.headD_nil List.tail_cons List.tail_nil List.contains_nil List.contains_cons Bool.not_eq_true'
section
variable {T:Tab} {K:bH→St→Prop} {k:List Todo} {st:St}
@[go_sem] theorem Rm (g:Ghost) (c:MCode):wp T (.ghost g c) (kont T K k) st=dN (wp T c (kont T K k)) st g:=_root_.id rfl
def NJ (K:St→Prop) (st:St) (s k sz:Nat):MV→Prop
 | .nil=>K ⟨upd st.tm s (.ref k (aD st.mem k) sz 0 0),az st.mem k (aD st.mem k) []⟩
 | _=>False
@[go_sem] theorem Mm (K:St→Prop) (s k sz:Nat):dN K st (.adopt s k sz)=NJ K st s k sz (st.tm s):=by
 unfold dN NJ;rfl
@[go_sem] theorem Rg (K:St→Prop) (s k sz:Nat):NJ K st s k sz .nil=K ⟨upd st.tm s (.ref k (aD st.mem k) sz 0 0),az st.mem k (aD st.mem k) []⟩:=_root_.id rfl
end
section
variable {K:St→Prop} {st:St}
theorem AO (kx i k k':Nat) {gx:Nat} {cx:List MV} {g sz off len:Nat} {cs:List MV} (h1:st.mem kx=some (gx,cx)) (h2:cx[i]?=some (.ref k g sz off len)) (h3:st.mem k=some (g,cs)) (h4:k≠kx) (h5:k'≠k) (h6:k'≠kx)
  (h:K ⟨st.tm,az (az (az st.mem k (aD st.mem k) []) k' (aD st.mem k') cs) kx gx (cx.set i (.ref k' (aD st.mem k') sz off len))⟩):dN K st .move :=
 .inr (.inl ⟨kx,gx,cx,i,k,g,sz,off,len,cs,k',h1,h2,h3,h4,h5,h6,h⟩)
def BD (K:St→Prop) (st:St) (s k g sz off len:Nat):Option (Nat × List MV)→Prop
 | some (g',cs)=>if g'=g∧lF cs=true then (match cut cs off (len*sz) with
  | some part=>(match part.mapM (toD 0 st.mem) with
   | some ds=>K ⟨upd st.tm s (.dat (.sl (chunk sz len ds))),kill st.mem k⟩
   | none=>False)
  | none=>False) else False
 | none=>False
def NF (K:St→Prop) (st:St) (s:Nat):MV→Prop
 | .ref k g sz off len=>BD K st s k g sz off len (st.mem k)
 | _=>False
@[go_sem] theorem KU (s:Nat):dN K st (.freeze s)=NF K st s (st.tm s):=by
 unfold dN NF;dsimp only
 cases hm:st.tm s with
 | ref k g sz off len=>?_
 | _=>rfl
 dsimp only;unfold BD
 cases hk:st.mem k with
 | none=>rfl
 | some x =>
  obtain⟨g',cs⟩:=x;simp only
  by_cases hc:g'=g∧lF cs=true
  ·rw[if_pos hc,if_pos hc]
   unfold toD;rw[hk];simp only[hc.1,if_true]
   cases hcut:cut cs off (len*sz) with
   | none=>rfl
   | some part =>
    simp only
    cases hp:part.mapM (toD 0 st.mem)<;>rfl
  ·rw[if_neg hc,if_neg hc]
@[go_sem] theorem Ru (s k g sz off len:Nat):NF K st s (.ref k g sz off len)=BD K st s k g sz off len (st.mem k):=_root_.id rfl
@[go_sem] theorem Sl (mem:Mem) (k:Key):kill mem k=az mem k (aD mem k) []:=_root_.id rfl
end
open Classical in
noncomputable def FF {α:Type} (argE:α→List Data) (f:α→Option PRes):List Data→Option PRes:=fun ds=>if h:∃ a,argE a=ds then f (UU h) else none
theorem aX {α:Type} {argE:α→List Data} {f:α→Option PRes} (inj:∀ a b,argE a=argE b→a=b) (a:α):FF argE f (argE a)=f a:=by
 have h:∃ b,argE b=argE a:=⟨a,rfl⟩;unfold FF;rw[dif_pos h,inj _ _ (UV h)]
theorem NX {α:Type} {argE:α→List Data} {f:α→Option PRes} {ds:List Data} {r:PRes} (h:FF argE f ds=some r):∃ a,ds=argE a∧f a=some r:=by
 unfold FF at h
 split at h
 ·rename_i hx
  exact⟨_,(UV hx).symm,h⟩
 ·cases h
open Classical in
noncomputable def aH (c:Prop) (r:PRes):Option PRes:=if c then some r else none
theorem an {c:Prop} (h:c) (r:PRes):aH c r=some r:=by unfold aH;rw[if_pos h]
theorem ao {c:Prop} {r r':PRes} (h:aH c r=some r'):c∧r'=r:=by
 unfold aH at h
 split at h
 ·cases h;exact⟨‹_›,rfl⟩
 ·cases h
@[go_sem] theorem Sz (F:List Data→Option PRes) (args:List MV) (mem:Mem):mkE F args mem=Hf F (args.mapM (toD 6 emp)) (args.mapM (toD 6 mem)):=_root_.id rfl
theorem af {α β:Type} {f:α→β} (h:∀ a b,f a=f b→a=b):∀ (l l':List α),l.map f=l'.map f→l=l':=by
 intro l
 induction l with
 | nil=>intro l' e;cases l'<;>simp_all
 | cons a r ih =>
  intro l' e
  cases l' with
  | nil=>simp at e
  | cons b r' =>
   simp only[UW,List.cons.injEq] at e;rw[h _ _ e.1,ih _ e.2]
def PTl (l:List (FuncId × (List Data→Option PRes))):FuncId→Option (List Data→Option PRes):=fun f=>(l.find? fun p=>p.1==f).map (·.2)
theorem aB {P:Program} {l:List (FuncId × (List Data→Option PRes))} (h:∀ p∈l,aR P p.1 p.2):∀ f F,PTl l f=some F→aR P f F:=by
 intro f F hf;unfold PTl at hf;rw[UF] at hf;obtain⟨p,hp,rfl⟩:=hf;have h1:=List.mem_of_find?_eq_some hp;have h2:=List.find?_some hp;have h3:p.1=f:=by simpa using h2
 exact h3 ▸ h p h1
theorem au {P:Program}:∀ p∈([]:List (FuncId × (List Data→Option PRes))),aR P p.1 p.2:=by simp
theorem ac {P:Program} {f:FuncId} {F:List Data→Option PRes} {l:List (FuncId × (List Data→Option PRes))} (h:aR P f F) (hl:∀ p∈l,aR P p.1 p.2):∀ p∈(f,F)::l,aR P p.1 p.2:=by
 intro p hp;rcases List.mem_cons.1 hp with rfl | hp
 ·exact h
 ·exact hl p hp
theorem I3 {PT:FuncId→Option (List Data→Option PRes)} {f:FuncId} {F:List Data→Option PRes} (h:PT f=some F):mkT PT f=mkE F:=by
 funext args mem
 unfold mkT;rw[h]
@[go_sem] theorem QJ (mem:Mem) (k:Key) (z:List MV) (b m:Nat) (new:List MV):oW mem k z b .nil (some (m,new)) =
  if m*b≤140737488355328∧m≤maxLen∧new.all MV.one=true then some (.ref k (aD mem k) z.length 0 m,some (k,aD mem k,new)) else none:=_root_.id rfl
@[go_sem] theorem Qy (mem:Mem) (k k':Key) (z:List MV) (g sz b len m:Nat) (new:List MV):oW mem k z b (.ref k' g sz 0 len) (some (m,new)) =
  if sz=z.length then kY k' g sz len b m new (mem k') else none:=by
 unfold oW;simp
def aA {α:Type} (enc:α→List Data) (l:List α):List MV:=(l.map enc).flatten.map .dat
section
variable {α:Type} {enc:α→List Data} {sz:Nat}
theorem ID:aA enc []=[]:=rfl
theorem fT (a:α) (l:List α):aA enc (a::l)=(enc a).map .dat++aA enc l:=by simp [aA]
theorem nX (a b:List α):aA enc (a++b)=aA enc a++aA enc b:=by simp [aA]
theorem dr (h:∀ a,(enc a).length=sz) (l:List α):(aA enc l).length=l.length*sz:=by
 induction l with
 | nil=>simp [aA]
 | cons a r ih=>rw[fT,Uv,ih,U8,h,UH,Nat.add_mul,Nat.one_mul,Ux]
theorem Ea (h:∀ a,(enc a).length=sz) {l:List α} {i:Nat} {a:α} (hi:l[i]?=some a):∃ p q,aA enc l=p++((enc a).map .dat++q)∧p.length=i*sz∧∀ b,aA enc (l.set i b)=p++((enc b).map .dat++q):=by
 have hlt:=(List.getElem?_eq_some_iff.1 hi).1;have hla:l[i]=a:=(List.getElem?_eq_some_iff.1 hi).2
 have e:l=l.take i++a::l.drop (i+1):=by
  rw[←hla,←U9 hlt,Va]
 refine⟨aA enc (l.take i),aA enc (l.drop (i+1)),?_,?_,fun b=>?_⟩
 ·conv=>lhs;rw[e]
  rw[nX,fT]
 ·rw[dr h,UR];congr 1;omega
 ·rw[List.set_eq_take_append_cons_drop,if_pos hlt,nX,fT]
theorem tI (h:∀ a,(enc a).length=sz) {l:List α} {i:Nat} {a:α} (hi:l[i]?=some a) {f n:Nat} (hf:f+n≤sz):cut (aA enc l) (i*sz+f) n=some ((((enc a).map .dat).drop f).take n):=by
 obtain⟨p,q,e,hp,-⟩:=Ea h hi;have ha:=h a;unfold cut;rw[e,if_pos (by simp only[Uv,U8];omega),←hp];rw[Vb,Vc (by omega)];rw[show p.length+f-p.length=f by omega,U5,Vb,List.take_append]
 have:n-(((enc a).map MV.dat).drop f).length=0:=by simp only[UL,U8];omega
 rw[this,UY,U7]
theorem zM (h:∀ a,(enc a).length=sz) {l:List α} {i:Nat} (hi:i<l.length) (b:α):splice (aA enc l) (i*sz) ((enc b).map .dat)=aA enc (l.set i b):=by
 obtain⟨p,q,e,hp,hs⟩:=Ea h (UE hi);rw[hs b,e];have ha:=h l[i];have hb:=h b;unfold splice;rw[←hp,Vd,List.append_assoc]
 congr 2
 rw[Vb,Vc (by omega),U5,U8,show p.length+(enc b).length-p.length=(enc b).length by omega,hb,←ha,←U8 (f:=MV.dat),Ve]
theorem HE (ho:∀ a,((enc a).map MV.dat).all MV.one=true) (l:List α):(aA enc l).all MV.one=true:=by
 induction l with
 | nil=>rfl
 | cons a r ih=>rw[fT,List.all_append,ho,ih];rfl
theorem nw (h:∀ a,(enc a).length=sz) (ho:∀ a,((enc a).map MV.dat).all MV.one=true) (k g b:Nat) (l new:List α) (hb:(l.length+new.length)*b≤140737488355328) (hm:l.length+new.length≤1000000000) :
  kY k g sz l.length b new.length (aA enc new) (some (g,aA enc l))=some (.ref k (g+1) sz 0 (l.length+new.length),some (k,g+1,aA enc (l++new))):=by
 unfold kY;have hm':l.length+new.length≤maxLen:=Nat.le_trans hm (by decide);dsimp only;rw[if_pos ⟨rfl,by rw[dr h];exact Uq _,hb,hm',HE ho new⟩,nX,Vf (by rw[dr h];exact Uq _)]
theorem c8 (h:∀ a,(enc a).length=sz) (ho:∀ a,((enc a).map MV.dat).all MV.one=true) (k g b:Nat) (l:List α) (a:α) {cs:List MV} (hc:cs=(enc a).map .dat) (hb:(l.length+1)*b≤140737488355328) (hm:l.length+1≤1000000000) :
  kY k g sz l.length b 1 cs (some (g,aA enc l))=some (.ref k (g+1) sz 0 (l.length+1),some (k,g+1,aA enc (l++[a]))):=by
 have:=nw h ho k g b l [a] hb hm;rw[hc];rw[fT,ID,U7] at this;exact this
theorem lY (f:MV→Option Data) (hf:∀ d,f (.dat d)=some d) (l:List Data):(l.map MV.dat).mapM f=some l:=by
 induction l with
 | nil=>rfl
 | cons a r ih=>simp [hf,ih]
theorem jt:∀ (l:List (List Data)),(∀ e∈l,e.length=sz)→chunk sz l.length l.flatten=l:=by
 intro l
 induction l with
 | nil=>intro _;rfl
 | cons e r ih =>
  intro h;have he:=h e (by simp);rw[UH,U6,chunk];rw[←he,Vd,Ve,he,ih fun x hx=>h x (by simp [hx])]
theorem eM (h:∀ a,(enc a).length=sz) {n k g:Nat} {mem:Mem} {l:List α} (hm:mem k=some (g,aA enc l)):toD (n+1) mem (.ref k g sz 0 l.length)=some (.sl (l.map enc)):=by
 unfold toD;rw[hm];simp only[if_true];unfold cut;rw[U3,dr h,if_pos (Uq _)];simp only[UX];rw[Vf (by rw[dr h];exact Uq _)];unfold aA;rw[lY _ fun d=>by cases n<;>rfl]
 have:=jt (sz:=sz) (l.map enc) (by simpa using fun a _=>h a);rw[U8] at this;simp [this]
end
theorem tD {α:Type} (enc:α→List Data) (l:List α):lF (aA enc l)=true:=by
 unfold lF aA;rw[UA];intro m hm;rw[Vg] at hm;obtain⟨d,_,rfl⟩:=hm
 rfl
theorem ck {α:Type} {enc:α→List Data} {sz:Nat} (h:∀ a,(enc a).length=sz) {K:St→Prop} {st:St} (s k g:Nat) (l:List α) :
  BD K st s k g sz 0 l.length (some (g,aA enc l))=K ⟨upd st.tm s (.dat (.sl (l.map enc))),kill st.mem k⟩:=by
 have hr:=eM (n:=0) h (mem:=az st.mem k g (aA enc l)) (k:=k) (g:=g) (l:=l) (by simp [az]);unfold BD;dsimp only;rw[if_pos ⟨rfl,tD enc l⟩];unfold cut;rw[U3,dr h,if_pos (Uq _)];dsimp only;rw[UX,Vf (by rw[dr h];exact Uq _)];unfold aA;rw[lY _ fun d=>rfl]
 dsimp only;have:=jt (sz:=sz) (l.map enc) (by simpa using fun a _=>h a);rw[U8] at this;rw[this]
theorem ak (x:Int) (h1:-9223372036854775808≤x) (h2:x≤9223372036854775807):IntKind.i64.wrap x=x:=by
 rw[IntKind.wrap_i64];omega
theorem Ez {α:Type} (l:List α) (i:Int) (h0:0≤i) (h:i<l.length):∃ x,l[i.toNat]?=some x∧l.drop i.toNat=x::l.drop (i+1).toNat∧l.take (i+1).toNat=l.take i.toNat++[x]:=by
 have hlt:i.toNat<l.length:=by omega
 have e:(i+1).toNat=i.toNat+1:=by omega
 refine⟨l[i.toNat],UE hlt,?_,?_⟩
 ·rw[e];exact U9 hlt
 ·rw[e];rw[List.take_add_one,UE hlt];rfl
end Go.Mini
namespace Go.Mini
open Go Go.ChangeShapes Go.WideShapes
inductive Sch where
 | int (k:IntKind)
 | bool
 | str
 | sl (e:Sch)
 | st (l:List Sch)
mutual
def Fit:Sch→List Data→Prop
 | .int k,ds=>∃ n,ds=[.int k n]∧(Lit.int k n).wf=true
 | .bool,ds=>∃ b,ds=[.bool b]
 | .str,ds=>∃ s,ds=[.str s]∧s.length≤maxLen
 | .sl e,ds=>∃ es,ds=[.sl es]∧es.length≤maxLen∧∀ x∈es,Fit e x
 | .st l,ds=>Fits l ds
def Fits:List Sch→List Data→Prop
 | [],ds=>ds=[]
 | s::r,ds=>∃ a b,ds=a++b∧Fit s a∧Fits r b
end
def tiles (P:Program):Nat→List Field→Nat→Bool
 | off,[],tot=>off==tot
 | off,f::r,tot=>f.offset==off&&tiles P (off+P.cellsOf f.type) r tot
def tH (g:TypeId→Option Sch):List Field→Option (List Sch)
 | []=>some []
 | f::r=>match g f.type,tH g r with
  | some s,some l=>some (s::l)
  | _,_=>none
def ld (P:Program):Nat→TypeId→Option Sch
 | 0,_=>none
 | n+1,t=>match P.underlying t with
  | some .bool=>some .bool
  | some (.int k)=>some (.int k)
  | some .string=>some .str
  | some (.slice e)=>if 0<P.cellsOf e then (ld P n e).map .sl else none
  | some (.struct fs)=>if tiles P 0 fs.toList (P.cellsOf t)=true then (tH (ld P n) fs.toList).map .st else none
  | _=>none
section
variable {H:Type} {enc:TypeId × Value→H} {P:Program} {w:World} {base:Nat}
def Rd (enc:TypeId × Value→H) (P:Program) (w:World) (base:Nat) (S:Sch) (fuel:Nat) (t:TypeId) (cs:List Value) (x:DataW H × List MemPlace):Prop :=
 (∃ ds,Fit S ds∧xD w (fun _=>False) ds cs)∧(∀ p∈x.2,p.block<w.heap.size) ∧
 ∀ (w':World) (sp:Nat→Bool),(∀ p∈x.2,sp p.block=true)→(∀ b,b<w.heap.size→w'.heap[b]?=w.heap[b]?)→DataW.trod enc P w' base sp true fuel t cs=some x
theorem nW {O:Nat→Prop} {d:Data} {v:Value} (h:Den w O d v):xD w O [d] [v]:=by
 refine⟨rfl,fun i d' v' h1 h2=>?_⟩
 cases i with
 | zero=>cases h1;cases h2;exact h
 | succ i=>simp at h1
theorem wR (a:Addr) (i:Nat):(a.add i).block=a.block:=by
 unfold Addr.add
 split<;>rfl
theorem wQ (b off i:Nat):(Addr.add ⟨b,off,none⟩ i)=⟨b,off+i,none⟩:=by
 unfold Addr.add
 split
 ·rename_i h;subst h;rfl
 ·rfl
theorem tw {w':World} {a:Addr} {n:Nat} {cs:List Value} (h:w.cells? base a n=some cs) (hk:∀ b,b<w.heap.size→w'.heap[b]?=w.heap[b]?):w'.cells? base a n=some cs:=by
 unfold World.cells? at h ⊢
 split at h
 ·rename_i hb
  rw[if_pos hb,←h]
  by_cases hlt:a.block<w.heap.size
  ·have he:(fun i=>w'.cell? (a.add i))=fun i=>w.cell? (a.add i):=by
    funext i
    exact World.cell?_of_block (a:=a.add i) (hk _ (by rw[wR];exact hlt))
   rw[he]
  ·cases n with
   | zero=>rfl
   | succ n =>
    exfalso
    have:w.cell? (a.add 0)=none:=by
     unfold World.cell?;have:w.heap[(a.add 0).block]?=none:=Array.getElem?_eq_none (by rw[wR];omega);rw[this]
    rw[List.range_succ_eq_map,UN,this] at h
    cases h
 ·cases h
theorem rY {a:Addr} {n:Nat} {cs:List Value} (h:w.cells? base a n=some cs):cs.length=n∧∀ i,i<n→∃ v,cs[i]?=some v∧w.cell? (a.add i)=some v:=by
 unfold World.cells? at h
 split at h
 ·obtain⟨h1,h2⟩:=di h
  rw[Vh] at h1;refine⟨h1,fun i hi=>?_⟩
  have hc:=UE (l:=cs) (i:=i) (by omega);exact⟨_,hc,h2 i i _ (by simp [hi]) hc⟩
 ·cases h
theorem LZ {a:Addr} {v:Value} (h:w.cell? a=some v):a.block<w.heap.size∧a.spot=none:=by
 unfold World.cell? at h
 split at h
 ·rename_i hb
  refine⟨(Array.getElem?_eq_some_iff.1 hb).1,?_⟩
  cases hs:a.spot with
  | none=>rfl
  | some x=>rw[hs] at h;simp at h
 ·cases h
theorem ue {α β:Type} {f g:α→Option β}:∀ {l:List α},(∀ x∈l,f x=g x)→l.mapM f=l.mapM g:=by
 intro l
 induction l with
 | nil=>intro _;rfl
 | cons a r ih =>
  intro h;rw[UN,UN,h a (by simp),ih fun x hx=>h x (by simp [hx])]
theorem Aq {β:Type} (len:Nat) (Q:Nat→β→Prop) (h:∀ i,i<len→∃ y,Q i y):∃ l:List β,l.length=len∧∀ i y,l[i]?=some y→Q i y:=by
 induction len with
 | zero=>exact⟨[],rfl,fun i y h=>by simp at h⟩
 | succ n ih =>
  obtain⟨l,h1,h2⟩:=ih fun i hi=>h i (by omega)
  obtain⟨y,hy⟩:=h n (by omega);refine⟨l++[y],by simp [h1],fun i z hz=>?_⟩
  rw[Vi] at hz
  split at hz
  ·exact h2 i z hz
  ·rename_i hlt
   have:i-l.length=0:=by
    have:=(List.getElem?_eq_some_iff.1 hz).1;simp at this;omega
   rw[this] at hz
   cases hz;have:i=n:=by omega
   subst this;exact hy
theorem BW {β:Type} {sz:Nat}:∀ (es:List (List β)),(∀ e∈es,e.length=sz)→0<sz→∀ (i:Nat) (d:β),es.flatten[i]?=some d→∃ e,es[i / sz]?=some e∧e[i % sz]?=some d:=by
 intro es
 induction es with
 | nil=>intro _ _ i d h;simp at h
 | cons e r ih =>
  intro h hz i d hd;have he:=h e (by simp);rw[U6,Vi] at hd
  split at hd
  ·rename_i hlt
   rw[he] at hlt;refine⟨e,by rw[Nat.div_eq_of_lt hlt];rfl,by rw[Nat.mod_eq_of_lt hlt];exact hd⟩
  ·rename_i hge
   rw[he] at hd hge;obtain⟨x,h1,h2⟩:=ih (fun y hy=>h y (by simp [hy])) hz _ d hd;have hi:i=(i-sz)+sz:=by omega
   refine⟨x,?_,?_⟩
   ·rw[hi,Nat.add_div_right _ hz]
    simpa using h1
   ·rw[hi,Nat.add_mod_right]
    exact h2
theorem AB {n fuel:Nat} (ih:∀ t S,ld P n t=some S→∀ (cs:List Value) (x:DataW H × List MemPlace),DataW.trod enc P w base (fun _=>true) true fuel t cs=some x→Rd enc P w base S fuel t cs x) (cs:List Value) :
  ∀ (fs:List Field) (off:Nat) (l:List Sch) (xs:List (DataW H × List MemPlace)),tH (ld P n) fs=some l→tiles P off fs cs.length=true →
   fs.mapM (fun f=>DataW.trod enc P w base (fun _=>true) true fuel f.type ((cs.drop f.offset).take (P.cellsOf f.type)))=some xs →
   (∃ ds,Fits l ds∧xD w (fun _=>False) ds (cs.drop off))∧(∀ p∈xs.flatMap (·.2),p.block<w.heap.size) ∧
   ∀ (w':World) (sp:Nat→Bool),(∀ p∈xs.flatMap (·.2),sp p.block=true)→(∀ b,b<w.heap.size→w'.heap[b]?=w.heap[b]?) →
    fs.mapM (fun f=>DataW.trod enc P w' base sp true fuel f.type ((cs.drop f.offset).take (P.cellsOf f.type)))=some xs:=by
 intro fs
 induction fs with
 | nil =>
  intro off l xs hl ht hx;simp only[tH,Option.some.injEq] at hl;subst hl;simp only[tiles,beq_iff_eq] at ht;simp only[U4,UO,Option.some.injEq] at hx;subst hx;refine⟨⟨[],rfl,?_⟩,by simp,fun _ _ _ _=>rfl⟩
  rw[ht,List.drop_length];exact⟨rfl,fun i d v h=>by simp at h⟩
 | cons f r ihf =>
  intro off l xs hl ht hx;unfold tH at hl
  split at hl
  ·rename_i s l' hs hl'
   cases hl;simp only[tiles,Uz,beq_iff_eq] at ht;obtain⟨hoff,ht⟩:=ht;rw[UN] at hx;simp only[UO,UP,UQ,Option.some.injEq] at hx;obtain⟨x,hx1,ys,hys,rfl⟩:=hx;obtain⟨⟨da,ha1,ha2⟩,ha3,ha4⟩:=ih _ _ hs _ _ hx1;obtain⟨⟨db,hb1,hb2⟩,hb3,hb4⟩:=ihf _ _ _ hl' ht hys;refine⟨⟨da++db,⟨da,db,rfl,ha1,hb1⟩,?_⟩,?_,?_⟩
   ·have hsplit:cs.drop off=(cs.drop off).take (P.cellsOf f.type)++cs.drop (off+P.cellsOf f.type):=by
     rw[←UD,Va]
    rw[hoff] at ha2;rw[hsplit];refine⟨by rw[Uv,Uv,ha2.1,hb2.1],fun i d v h1 h2=>?_⟩
    rw[Vi] at h1 h2;have hlen:=ha2.1
    by_cases hlt:i<da.length
    ·rw[if_pos hlt] at h1
     rw[if_pos (by omega)] at h2;exact ha2.2 i d v h1 h2
    ·rw[if_neg hlt] at h1
     rw[if_neg (by omega),hlen] at h2;exact hb2.2 _ d v h1 h2
   ·intro p hp
    rw[Vj,Vk] at hp;exact hp.elim (ha3 p) (hb3 p)
   ·intro w' sp hsp hk
    rw[UN,ha4 w' sp (fun p hp=>hsp p (by rw[Vj,Vk];exact .inl hp)) hk];have:=hb4 w' sp (fun p hp=>hsp p (by rw[Vj,Vk];exact .inr hp)) hk;simp only[UO,UP,UZ];rw[this]
    rfl
  ·cases hl
theorem HF:∀ (n:Nat) (t:TypeId) (S:Sch),ld P n t=some S→∀ (fuel:Nat) (cs:List Value) (x:DataW H × List MemPlace),DataW.trod enc P w base (fun _=>true) true fuel t cs=some x→Rd enc P w base S fuel t cs x:=by
 intro n
 induction n with
 | zero=>intro t S h;simp [ld] at h
 | succ n ih =>
  intro t S hS fuel cs x hx
  cases fuel with
  | zero=>cases hx
  | succ fuel =>
   unfold ld at hS
   split at hS
   ·-- bool
    rename_i hu
    cases hS
    have key:∀ (w':World) (sp:Nat→Bool) (cs:List Value),DataW.trod enc P w' base sp true (fuel+1) t cs=match cs with | [.bool b]=>some (.lit (.bool b),[]) | _=>none:=by
     intro w' sp cs;unfold DataW.trod;rw[hu];clear hx
     split<;>simp_all
    rw[key] at hx
    split at hx
    ·cases hx
     exact⟨⟨_,⟨_,rfl⟩,nW .bool⟩,by simp,fun w' sp _ _=>by rw[key]⟩
    ·cases hx
   ·-- int
    rename_i k hu
    cases hS
    have key:∀ (w':World) (sp:Nat→Bool) (cs:List Value),DataW.trod enc P w' base sp true (fuel+1) t cs=match cs with | [.int k' n]=>if k'=k∧(Lit.int k n).wf=true then some (.lit (.int k n),[]) else none | _=>none:=by
     intro w' sp cs;unfold DataW.trod;rw[hu];clear hx
     split<;>simp_all
    rw[key] at hx
    split at hx
    ·split at hx
     ·rename_i hc
      cases hx;obtain⟨rfl,hwf⟩:=hc;exact⟨⟨_,⟨_,rfl,hwf⟩,nW .int⟩,by simp,fun w' sp _ _=>by rw[key];simp [hwf]⟩
     ·cases hx
    ·cases hx
   ·-- string
    rename_i hu
    cases hS
    have key:∀ (w':World) (sp:Nat→Bool) (cs:List Value),DataW.trod enc P w' base sp true (fuel+1) t cs=match cs with | [.string s]=>if s.size≤maxLen then some (.lit (.string s.data.toList),[]) else none | _=>none:=by
     intro w' sp cs;unfold DataW.trod;rw[hu];clear hx
     split<;>simp_all
    rw[key] at hx
    split at hx
    ·rename_i s
     split at hx
     ·rename_i hc
      cases hx;refine⟨⟨[.str s.data.toList],⟨_,rfl,?_⟩,nW ?_⟩,by simp,fun w' sp _ _=>by rw[key];simp [hc]⟩
      ·rw[Array.length_toList];exact hc
      ·have:Den w (fun _=>False) (.str s.data.toList) (.string ⟨s.data.toList.toArray⟩):=.str
       simpa using this
     ·cases hx
    ·cases hx
   ·-- slice
    rename_i e hu
    split at hS
    ·rename_i hc
     rw[UF] at hS;obtain⟨S,hS,rfl⟩:=hS
     have key:∀ (w':World) (sp:Nat→Bool) (cs:List Value),DataW.trod enc P w' base sp true (fuel+1) t cs=match cs with
      | [.slice none 0 0]=>some (.nil,[])
      | [.slice (some a) len cap] =>
       if base≤a.block∧len≤cap∧cap≤maxLen then
        ((
         Vm len).mapM fun i=>(w'.cells? base (a.add (i*P.cellsOf e)) (P.cellsOf e)).bind (DataW.trod enc P w' base sp true fuel e)).bind fun elems =>
         (if sp a.block then (Vm (cap-len)).mapM fun j=>(w'.cells? base (a.add ((len+j)*P.cellsOf e)) (P.cellsOf e)).bind (DataW.trod enc P w' base sp true fuel e) else some []).map fun rest =>
          (.slice (elems.map (·.1)) (rest.map (·.1)),MemPlace.row a ((elems.length+rest.length)*P.cellsOf e)++(elems++rest).flatMap (·.2))
       else none
      | _=>none:=by
      intro w' sp cs
      conv=>lhs;unfold DataW.trod
      rw[hu];clear hx
      split<;>simp_all
     rw[key] at hx
     split at hx
     ·cases hx
      exact⟨⟨[.sl []],⟨_,rfl,UM _,by simp⟩,nW .sl0⟩,by simp,fun w' sp _ _=>by rw[key];rfl⟩
     ·rename_i a len cap
      split at hx
      ·rename_i hb
       rw[UQ] at hx;obtain⟨elems,he,hx⟩:=hx;rw[UF] at hx;obtain⟨rest,hr,rfl⟩:=hx;rw[if_pos rfl] at hr;obtain⟨hel,heg⟩:=di he;obtain⟨hrl,hrg⟩:=di hr;rw[Vh] at hel hrl
       -- each place
       have hat:∀ i y,(i<len→elems[i]?=some y)→(¬ i<len→i<cap∧rest[i-len]?=some y)→∃ ci,w.cells? base (a.add (i*P.cellsOf e)) (P.cellsOf e)=some ci∧DataW.trod enc P w base (fun _=>true) true fuel e ci=some y:=by
        intro i y h1 h2
        by_cases hi:i<len
        ·have:=heg i i y (by simp [hi]) (h1 hi)
         rwa [UQ] at this
        ·obtain⟨h3,h4⟩:=h2 hi
         have:=hrg (i-len) (i-len) y (List.getElem?_range (by omega)) h4;rw[show len+(i-len)=i by omega,UQ] at this
         exact this
       have hblk:0<elems.length+rest.length→a.block<w.heap.size∧a.spot=none:=by
        intro hp;have h0:0<cap:=by omega
        have:∃ y,(0<len→elems[0]?=some y)∧(¬ 0<len→0<cap∧rest[0-len]?=some y):=by
         by_cases hl:0<len
         ·exact⟨elems[0],fun _=>UE _,fun h=>absurd hl h⟩
         ·exact⟨rest[0],fun h=>absurd h hl,fun _=>⟨h0,by rw[Nat.zero_sub];exact UE _⟩⟩
        obtain⟨y,h1,h2⟩:=this;obtain⟨ci,hci,-⟩:=hat 0 y h1 h2;obtain⟨v,-,hv⟩:=(rY hci).2 0 hc;have:=LZ hv;rw[Vo] at this;have e0:(a.add 0).add 0=a:=by unfold Addr.add;simp
        rw[e0] at this;exact this
       have hrd:∀ i y,(i<len→elems[i]?=some y)→(¬ i<len→i<cap∧rest[i-len]?=some y)→∃ ci,w.cells? base (a.add (i*P.cellsOf e)) (P.cellsOf e)=some ci∧Rd enc P w base S fuel e ci y:=by
        intro i y h1 h2;obtain⟨ci,h3,h4⟩:=hat i y h1 h2;exact⟨ci,h3,ih e S hS fuel ci y h4⟩
       have hrdE:∀ (i:Nat) y,elems[i]?=some y→∃ ci,w.cells? base (a.add (i*P.cellsOf e)) (P.cellsOf e)=some ci∧Rd enc P w base S fuel e ci y :=
        fun i y hy=>hrd i y (fun _=>hy) (fun h=>absurd (by have:=(List.getElem?_eq_some_iff.1 hy).1;omega) h)
       have hrdR:∀ (j:Nat) y,rest[j]?=some y→∃ ci,w.cells? base (a.add ((len+j)*P.cellsOf e)) (P.cellsOf e)=some ci∧Rd enc P w base S fuel e ci y :=
        fun j y hy=>hrd (len+j) y (fun h=>by omega) (fun _=>⟨by have:=(List.getElem?_eq_some_iff.1 hy).1;omega,by rwa [Vp]⟩)
       refine⟨?_,?_,?_⟩
       ·obtain⟨es,hes,heq⟩:=Aq len (fun i (ds:List Data)=>∃ ci,w.cells? base (a.add (i*P.cellsOf e)) (P.cellsOf e)=some ci∧Fit S ds∧xD w (fun _=>False) ds ci) fun i hi=>by
         obtain⟨ci,h1,⟨ds,h2,h3⟩,-,-⟩:=hrdE i _ (UE (by omega));exact⟨ds,ci,h1,h2,h3⟩
        refine⟨[.sl es],⟨es,rfl,by omega,fun y hy=>?_⟩,nW ?_⟩
        ·obtain⟨i,hi⟩:=List.mem_iff_getElem?.1 hy
         obtain⟨ci,-,h,-⟩:=heq i y hi;exact h
        ·by_cases hl:len=0
         ·rw[hl] at hes ⊢
          rw[Vq hes];exact .sl0
         ·obtain⟨hb1,hb2⟩:=hblk (by omega)
          obtain⟨b,off,spot⟩:=a;simp only at hb1 hb2;subst hb2
          have hsz:∀ y∈es,y.length=P.cellsOf e:=by
           intro y hy;obtain⟨i,hi⟩:=List.mem_iff_getElem?.1 hy;obtain⟨ci,h1,-,h2⟩:=heq i y hi;rw[←h2.1,(rY h1).1]
          have hval:∀ (i:Nat) (d:Data),es.flatten[i]?=some d→∃ v,w.cell? ⟨b,off+i,none⟩=some v∧Den w (fun _=>False) d v:=by
           intro i d hd;obtain⟨y,h1,h2⟩:=BW es hsz hc i d hd;obtain⟨ci,h3,-,h4⟩:=heq _ y h1;have hm:i % P.cellsOf e<P.cellsOf e:=Nat.mod_lt _ hc;obtain⟨v,h5,h6⟩:=(rY h3).2 _ hm;rw[wQ,wQ,Uw,Nat.mul_comm,Nat.div_add_mod] at h6;exact⟨v,h6,h4.2 _ d v h2 h5⟩
          rw[←hes];refine .sl (sz:=P.cellsOf e) (fun i=>(w.cell? ⟨b,off+i,none⟩).getD undef) (by omega) (by omega) hb1 (fun h=>h) hsz (fun i hi=>?_) fun i d hd=>?_
          ·have hlt:i<es.flatten.length:=by rw[iW hsz];exact hi
           obtain⟨v,hv,-⟩:=hval i _ (UE hlt);rw[hv]
           rfl
          ·obtain⟨v,hv,hd'⟩:=hval i d hd
           rw[hv];exact hd'
       ·intro p hp
        simp only[Vk] at hp;rcases hp with hp | hp
        ·unfold MemPlace.row at hp
         rw[Vg] at hp;obtain⟨i,hi,rfl⟩:=hp;rw[Vr] at hi
         have:0<elems.length+rest.length:=by
          rcases Nat.eq_zero_or_pos (elems.length+rest.length) with h | h
          ·rw[h,Vo] at hi;omega
          ·exact h
         exact (hblk this).1
        ·rw[Vs] at hp
         obtain⟨y,hy,hp⟩:=hp;rw[Vk] at hy;rcases hy with hy | hy
         ·obtain⟨i,hi⟩:=List.mem_iff_getElem?.1 hy
          obtain⟨ci,-,h⟩:=hrdE i y hi;exact h.2.1 p hp
         ·obtain⟨i,hi⟩:=List.mem_iff_getElem?.1 hy
          obtain⟨ci,-,h⟩:=hrdR i y hi;exact h.2.1 p hp
       ·intro w' sp hsp hk
        rw[key];simp only;rw[if_pos hb]
        have hrow:0<elems.length+rest.length→sp a.block=true:=by
         intro hp
         have:=hsp (.cell a.block (a.off+0)) (by
          rw[Vk]
          left
          unfold MemPlace.row;rw[Vg];exact⟨0,by rw[Vr];exact Nat.mul_pos hp hc,rfl⟩)
         exact this
        have hmE:(Vm len).mapM (fun i=>(w'.cells? base (a.add (i*P.cellsOf e)) (P.cellsOf e)).bind (DataW.trod enc P w' base sp true fuel e))=some elems:=by
         rw[←he];refine ue fun i hi=>?_
         rw[Vr] at hi;have hy:=UE (l:=elems) (i:=i) (by omega);obtain⟨ci,h1,h2⟩:=hrdE i _ hy;rw[tw h1 hk,h1];simp only[UZ];obtain⟨ci',h3,h4⟩:=hat i _ (fun _=>hy) (fun h=>absurd hi h);rw[h1] at h3
         cases h3;rw[h4]
         exact h2.2.2 w' sp (fun p hp=>hsp p (by
          rw[Vk];right
          rw[Vs];exact⟨_,List.mem_append.2 (.inl (UT hy)),hp⟩)) hk
        have hmR:(Vm (cap-len)).mapM (fun j=>(w'.cells? base (a.add ((len+j)*P.cellsOf e)) (P.cellsOf e)).bind (DataW.trod enc P w' base sp true fuel e))=some rest:=by
         rw[←hr];refine ue fun j hj=>?_
         rw[Vr] at hj;have hy:=UE (l:=rest) (i:=j) (by omega);obtain⟨ci,h1,h2⟩:=hrdR j _ hy;rw[tw h1 hk,h1];simp only[UZ];obtain⟨ci',h3,h4⟩:=hat (len+j) rest[j] (fun h=>by omega) (fun _=>⟨by omega,by rw[Vp];exact hy⟩);rw[h1] at h3
         cases h3;rw[h4]
         exact h2.2.2 w' sp (fun p hp=>hsp p (by
          rw[Vk];right
          rw[Vs];exact⟨_,List.mem_append.2 (.inr (UT hy)),hp⟩)) hk
        rw[hmE];simp only[UZ]
        cases hs:sp a.block with
        | true=>simp only[if_true];rw[hmR];rfl
        | false =>
         have hz:¬ 0<elems.length+rest.length:=fun h=>by rw[hrow h] at hs;cases hs
         have:rest=[]:=Vq (by omega);subst this
         rfl
      ·cases hx
     ·cases hx
    ·cases hS
   ·-- struct
    rename_i fs hu
    split at hS
    ·rename_i ht
     rw[UF] at hS;obtain⟨l,hl,rfl⟩:=hS
     have key:∀ (w':World) (sp:Nat→Bool),DataW.trod enc P w' base sp true (fuel+1) t cs =
       if cs.length=P.cellsOf t then (fs.toList.mapM fun f=>DataW.trod enc P w' base sp true fuel f.type ((cs.drop f.offset).take (P.cellsOf f.type))).map fun xs=>(.agg (xs.map (·.1)),xs.flatMap (·.2)) else none:=by
      intro w' sp
      conv=>lhs;unfold DataW.trod
      rw[hu]
     rw[key] at hx
     split at hx
     ·rename_i hlen
      rw[UF] at hx;obtain⟨xs,hxs,rfl⟩:=hx;rw[←hlen] at ht;obtain⟨h1,h2,h3⟩:=AB (fun t S h cs x hx=>ih t S h fuel cs x hx) cs fs.toList 0 l xs hl ht hxs;refine⟨?_,h2,fun w' sp hsp hk=>?_⟩
      ·obtain⟨ds,hf,hd⟩:=h1
       exact⟨ds,hf,by simpa using hd⟩
      ·rw[key,if_pos hlen,h3 w' sp hsp hk]
       rfl
     ·cases hx
    ·cases hS
   ·cases hS
end
end Go.Mini
