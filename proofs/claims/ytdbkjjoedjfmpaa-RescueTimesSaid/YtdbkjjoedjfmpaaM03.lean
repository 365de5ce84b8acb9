/- A part of the proof. -/
import Derived.Test.YtdbkjjoedjfmpaaM02
import Derived.LoopN
import Derived.Laws.BitsLemmas
import Derived.ChangeSame
import Derived.Handed
import Derived.JoinedOf
import Derived.JoinedCond
import Derived.OpenShut
import Derived.ProofKit
set_option linter.unusedSimpArgs false
set_option linter.unusedVariables false
open List renaming getD_eq_getElem?_getD → Uq, getElem?_append_left → Ur, getElem?_cons_zero → Uv, getElem?_eq_none → Uy, length_append → Uz, all_eq_true → UE, mem_zipIdx_iff_getElem? → UF, drop_drop → UH, getElem?_eq_getElem → UI, map_map → UK, length_cons → UL, getElem?_take_of_lt → UN, getElem?_drop → UO, length_drop → UP, mapM_cons → UR, length_take → UV, mem_attach → UW, mem_of_getElem? → UX, map_cons → U2, drop_zero → U3, take_zero → U4, mapM_nil → U7, nil_append → U8, flatten_cons → U9, append_nil → Va, length_map → Vb, drop_eq_getElem_cons → Vc, take_append_drop → Vd, drop_append → Ve, drop_eq_nil_of_le → Vf, take_left → Vg, drop_left → Vh, take_of_length_le → Vi, mem_map → Vj, length_range → Vk, getElem?_append → Vm, flatMap_cons → Vo, mem_append → Vp, range → Vq, eq_nil_of_length_eq_zero → Vt, mem_range → Vu, mem_flatMap → Vv
open Nat renaming testBit_or → Us, le_refl → Uu, lt_or_ge → Ux, add_assoc → UA, add_comm → UB, strongRecOn → UC, lt_asymm → UG, zero_le → UQ, zero_add → U6, zero_mul → Vr, add_sub_cancel_left → Vs
open Bool renaming or_eq_true → Ut, and_eq_true → UD, false_eq_true → UM
open Option renaming getD_some → Uw, map_eq_some_iff → UJ, pure_def → US, bind_eq_bind → UT, bind_eq_some_iff → UU, bind_some → U5
open Classical renaming choose → UY, choose_spec → UZ
namespace Go.Mini
open Go
variable {T:Tab} {conf:Nat→Nat→Bool} {ops:Array Oper} {l:List MI} {K:St→Prop}
def rE (T:Tab) (conf:Nat→Nat→Bool) (ops:Array Oper) (l:List MI) (K:St→Prop):Nat→Array Bool→Rec→St→Prop
 | 0,listed,_,st=>Region.ready .any ops listed=[]∧K st
 | fuel+1,listed,rec,st=>(Region.ready .any ops listed=[]→K st) ∧
  ∀ i∈Region.ready .any ops listed,∃ x rec' st',l[i]?=some x∧Exec T conf i x rec st rec' st'∧rE T conf ops l K fuel (listed.setIfInBounds i true) rec' st'
def Closed (ops:Array Oper) (listed:Array Bool):Prop :=
 listed.size=ops.size∧∀ (j:Nat) (o:Oper),ops[j]?=some o→listed.getD j false=true→∀ e∈o.after,Region.binds .any e=true→listed.getD e.on false=true
theorem Closed.set {listed:Array Bool} {i:Nat} (h:Closed ops listed) (hi:i∈Region.ready .any ops listed):Closed ops (listed.setIfInBounds i true):=by
 refine⟨by simp [h.1],fun j o hj hl e he hb=>?_⟩
 by_cases hji:j=i
 ·subst hji
  obtain⟨_,o',ho,hall⟩:=mem_ready.1 hi;rw[hj] at ho
  cases ho;exact getD_set_true (hall e he hb)
 ·rw[getD_set_ne false (Ne.symm hji)] at hl
  exact getD_set_true (h.2 j o hj hl e he hb)
def Pairs (conf:Nat→Nat→Bool) (ops:Array Oper) (l:List MI):Prop :=
 ∀ (i j:Nat) (x y:MI),i≠j→l[i]?=some x→l[j]?=some y →
  (∀ listed,Closed ops listed→i∈Region.ready .any ops listed→j∈Region.ready .any ops listed→False)∨(lR x y=true∧Passes conf i j x y)
theorem Aw {i k:Nat} {x:MI} {rec rec':Rec} {st st':St} (h:Exec T conf i x rec st rec' st') (hk:k≠i):rec' k=rec k:=by
 rcases h with ⟨_,rfl,_⟩ | ⟨_,_,_,_,_,rfl,_⟩
 ·rfl
 ·simp [su,hk]
theorem s8 {listed:Array Bool} {i k:Nat} (h:(listed.setIfInBounds i true).getD k true=false):k≠i∧listed.getD k true=false:=by
 by_cases hki:i=k
 ·subst hki
  exfalso
  by_cases hlt:i<listed.size
  ·simp [hlt] at h
  ·have:(listed.setIfInBounds i true).size≤i:=by simp;omega
   rw[Array.getD_eq_getD_getElem?,Array.getElem?_eq_none this] at h;simp at h
 ·rw[getD_set_ne true hki] at h
  exact⟨fun h'=>hki h'.symm,h⟩
theorem yG (hp:Pairs conf ops l) (hsym:∀ a b,conf a b=conf b a) {i:Nat} {x:MI} (hi:l[i]?=some x):∀ (fuel:Nat) (listed:Array Bool) (rec:Rec) (st:St) (rec1:Rec) (st1:St),
  Closed ops listed→(∀ k,listed.getD k true=false→rec k=none)→i∈Region.ready .any ops listed→Exec T conf i x rec st rec1 st1 →
  rE T conf ops l K fuel (listed.setIfInBounds i true) rec1 st1→rE T conf ops l K (fuel+1) listed rec st:=by
 intro fuel
 induction fuel with
 | zero =>
  intro listed rec st rec1 st1 hcl hrec hr he H;refine⟨fun h=>(by rw[h] at hr;cases hr),fun j hj=>?_⟩
  by_cases hji:j=i
  ·subst hji;exact⟨x,rec1,st1,hi,he,H⟩
  ·have:=ready_mono hj hji
   rw[H.1] at this
   cases this
 | succ fuel ih =>
  intro listed rec st rec1 st1 hcl hrec hr he H;refine⟨fun h=>(by rw[h] at hr;cases hr),fun j hj=>?_⟩
  by_cases hji:j=i
  ·subst hji;exact⟨x,rec1,st1,hi,he,H⟩
  ·obtain⟨y,rec2,st2,hy,hE,hK⟩:=H.2 j (ready_mono hj hji)
   rcases hp i j x y (Ne.symm hji) hi hy with hno | ⟨hap,hpass⟩
   ·exact (hno listed hcl hr hj).elim
   ·obtain⟨recj,stj,h1,h2⟩:=Exec.comm (Ne.symm hji) hap hpass hsym (hrec i (mem_ready.1 hr).1) he hE
    refine⟨y,recj,stj,hy,h1,ih _ recj stj rec2 st2 (hcl.set hj) (fun k hk=>?_) (ready_mono hr (Ne.symm hji)) h2 ?_⟩
    ·obtain⟨h3,h4⟩:=s8 hk
     rw[Aw h1 h3];exact hrec k h4
    ·rw[Array.setIfInBounds_comm _ _ hji]
     exact hK
theorem nK:∀ (r:List Oper) (acc:List Nat) (k:Nat),k<acc.length→(oM r acc).getD k 0=acc.getD k 0
 | [],acc,k,_=>rfl
 | o::r,acc,k,hk=>by
  simp only[oM];rw[nK r _ k (by simp;omega)];simp only[Uq];rw[Ur hk]
theorem I5 {es:List Edge} {acc:List Nat} {i:Nat}:∀ (s:Nat),(es.foldl (fun s e=>if Region.binds .any e=true then s ||| (2^e.on ||| acc.getD e.on 0) else s) s).testBit i=true →
  s.testBit i=true∨∃ e∈es,Region.binds .any e=true∧(e.on=i∨(acc.getD e.on 0).testBit i=true):=by
 induction es with
 | nil=>exact fun s h => .inl h
 | cons e es ih =>
  intro s h;rw[List.foldl_cons] at h;rcases ih _ h with h1 | ⟨e',h1,h2⟩
  ·split at h1
   ·rename_i hb
    rw[Us,Us,Ut,Ut] at h1;rcases h1 with h1 | h1 | h1
    ·exact .inl h1
    ·rw[Nat.testBit_two_pow] at h1
     exact .inr ⟨e,by simp,hb,.inl (by simpa using h1)⟩
    ·exact .inr ⟨e,by simp,hb,.inr h1⟩
   ·exact .inl h1
  ·exact .inr ⟨e',by simp [h1],h2⟩
theorem wY:∀ (r:List Oper) (acc:List Nat) (t:Nat) (o:Oper),r[t]?=some o→∀ i,((oM r acc).getD (acc.length+t) 0).testBit i=true →
  ∃ e∈o.after.toList,Region.binds .any e=true∧(e.on=i∨(e.on<acc.length+t∧((oM r acc).getD e.on 0).testBit i=true))
 | [],_,_,_,h,_,_=>by simp at h
 | o'::r,acc,0,o,h,i,hb=>by
  simp at h;subst h;simp only[oM,Nat.add_zero] at hb ⊢;rw[nK r _ _ (by simp)] at hb;simp only[Uq] at hb;rw[List.getElem?_append_right (Uu _)] at hb;simp only[Nat.sub_self,Uv,Uw] at hb;rcases I5 (acc:=acc) 0 (by simpa only [Uq] using hb) with h1 | ⟨e,h1,h2,h3⟩
  ·simp at h1
  ·refine⟨e,h1,h2,h3.imp id fun h=>?_⟩
   have hlt:e.on<acc.length:=by
    rcases Ux e.on acc.length with h' | h'
    ·exact h'
    ·rw[Uq,Uy h'] at h
     simp at h
   refine⟨hlt,?_⟩;rw[nK r _ _ (by simp;omega),Uq,Ur hlt,←Uq];exact h
 | o'::r,acc,t+1,o,h,i,hb=>by
  have h':r[t]?=some o:=by simpa using h
  simp only[oM] at hb ⊢
  have:=wY r (acc++[o'.after.toList.foldl (fun s e=>if Region.binds .any e=true then s ||| (2^e.on ||| acc.getD e.on 0) else s) 0]) t o h' i (by
   rw[Uz,List.length_singleton,UA,UB 1 t];exact hb)
  obtain⟨e,h1,h2,h3⟩:=this;refine⟨e,h1,h2,h3.imp id fun h=>⟨by have:=h.1;simp at this;omega,h.2⟩⟩
theorem BT {listed:Array Bool} (hcl:Closed ops listed):∀ (j:Nat) (o:Oper),ops[j]?=some o→(∀ e∈o.after,Region.binds .any e=true→listed.getD e.on false=true) →
  ∀ i,((oM ops.toList []).getD j 0).testBit i=true→listed.getD i false=true:=by
 intro j
 induction j using UC with
 | _ j ih =>
  intro o ho hall i hi;obtain⟨e,he,hb,h⟩:=wY ops.toList [] j o (by simpa using ho) i (by simpa using hi);have hl:=hall e (by simpa using he) hb;rcases h with rfl | ⟨hlt,hbit⟩
  ·exact hl
  ·have hsz:e.on<ops.size:=by
    rw[←hcl.1];rcases Ux e.on listed.size with h' | h'
    ·exact h'
    ·simp [Array.getElem?_eq_none h'] at hl
   have ho':ops[e.on]?=some ops[e.on]:=Array.getElem?_eq_getElem hsz;exact ih e.on (by simpa using hlt) _ ho' (hcl.2 e.on _ ho' hl) i hbit
theorem oV:∀ (cs pre:List MI) (as:List Nat),mg pre cs as=true→∀ (t:Nat) (y:MI),cs[t]?=some y→∀ (i:Nat) (x:MI),(pre++cs)[i]?=some x→i<pre.length+t →
  (as.getD t 0).testBit i=true∨lR x y=true
 | [],_,_,_,_,_,h,_,_,_,_=>by simp at h
 | _::_,_,[],h,_,_,_,_,_,_,_=>by simp [mg] at h
 | c::cs,pre,a::as,h,0,y,hy,i,x,hx,hlt=>by
  simp only[mg,UD,UE] at h;simp at hy;subst hy;have hi:i<pre.length:=by simpa using hlt
  rw[Ur hi] at hx;have:=h.1 (x,i) (by rw[UF];exact hx)
  simpa using this
 | c::cs,pre,a::as,h,t+1,y,hy,i,x,hx,hlt=>by
  simp only[mg,UD] at h;have:=oV cs (pre++[c]) as h.2 t y (by simpa using hy) i x (by simpa using hx) (by simp;omega)
  simpa using this
theorem vm:∀ (cs pre:List MI) (as:List Nat) (t:Nat) (y:MI),cs[t]?=some y→∀ (i:Nat) (x:MI),(pre++cs)[i]?=some x→i<pre.length+t →
  (as.getD t 0).testBit i=true∨kq (fX x.op) (fX y.op)=true∨i∈(qD pre cs as).getD t []
 | [],_,_,_,_,h,_,_,_,_=>by simp at h
 | c::cs,pre,as,0,y,hy,i,x,hx,hlt=>by
  simp at hy;subst hy;have hi:i<pre.length:=by simpa using hlt
  rw[Ur hi] at hx;have hmem:(x,i)∈pre.zipIdx:=by rw[UF];exact hx
  by_cases h1:(as.getD 0 0).testBit i=true
  ·exact .inl h1
  ·by_cases h2:kq (fX x.op) (fX c.op)=true
   ·exact .inr (.inl h2)
   ·refine .inr (.inr ?_)
    simp only[qD,Uq,Uv,Uw];refine List.mem_map.2 ⟨(x,i),List.mem_filter.2 ⟨hmem,?_⟩,rfl⟩;have h3:as.headD 0=as.getD 0 0:=by cases as<;>rfl
    simp only[h3];rw[Uq] at h1;simp [h1,h2]
 | c::cs,pre,as,t+1,y,hy,i,x,hx,hlt=>by
  have:=vm cs (pre++[c]) as.tail t y (by simpa using hy) i x (by simpa using hx) (by simp;omega);have h3:as.tail.getD t 0=as.getD (t+1) 0:=by cases as<;>simp
  rw[h3] at this
  simpa [qD] using this
def kM (c:List (List Nat)) (i j:Nat):Bool:=if i<j then (c.getD j []).contains i else if j<i then (c.getD i []).contains j else false
theorem sn (c:List (List Nat)) (i j:Nat):kM c i j=kM c j i:=by
 unfold kM
 by_cases h1:i<j
 ·simp [h1,UG h1]
 ·by_cases h2:j<i
  ·simp [h2,UG h2]
  ·simp [h1,h2]
theorem zX {x y:MI} (h:lR x y=true):lR y x=true:=by
 obtain⟨h1,h2,h3⟩:=r3 h;unfold lR;rw[UD]
 constructor
 ·cases hy:y.dst with
  | none=>rfl
  | some d =>
   have a:=h3 d hy;have b:x.dst≠some d:=fun hx=>h2 d hx hy
   simp [a,b]
 ·cases hx:x.dst with
  | none=>rfl
  | some d =>
   have a:=h1 d hx;simp [a]
theorem xy (a b:Nat):kq a b=kq b a:=by
 unfold kq
 cases (a==0)<;>cases (b==0)<;>cases (a==1)<;>cases (b==1)<;>rfl
theorem JK (hd:rD ops l=true):Pairs (kM (qD [] l (oM ops.toList []))) ops l:=by
 have key:∀ (i j:Nat) (x y:MI),i<j→l[i]?=some x→l[j]?=some y →
   (∀ listed,Closed ops listed→i∈Region.ready .any ops listed→j∈Region.ready .any ops listed→False) ∨
   (lR x y=true∧(kM (qD [] l (oM ops.toList [])) i j=true∨kq (fX x.op) (fX y.op)=true)):=by
  intro i j x y hij hx hy;unfold rD at hd;rw[UD] at hd
  by_cases hb:((oM ops.toList []).getD j 0).testBit i=true
  ·refine .inl fun listed hcl hi hj=>?_
   obtain⟨_,o,ho,hall⟩:=mem_ready.1 hj;have h1:=BT hcl j o ho hall i hb;have h0:=(mem_ready.1 hi).1;rcases Ux i listed.size with h' | h'
   ·simp [h'] at h0 h1;rw[h0] at h1;cases h1
   ·simp [Array.getElem?_eq_none h'] at h1
  ·refine .inr ⟨?_,?_⟩
   ·rcases oV l [] _ hd.2 j y hy i x (by simpa using hx) (by simpa using hij) with h | h
    ·exact absurd h hb
    ·exact h
   ·rcases vm l [] (oM ops.toList []) j y hy i x (by simpa using hx) (by simpa using hij) with h | h | h
    ·exact absurd h hb
    ·exact .inr h
    ·exact .inl (by unfold kM;rw[if_pos hij];exact List.contains_iff_mem.2 h)
 intro i j x y hij hx hy;rcases Nat.lt_or_gt_of_ne hij with h | h
 ·exact key i j x y h hx hy
 ·rcases key j i y x h hy hx with h1 | ⟨h1,h2⟩
  ·exact .inl fun listed hcl hi hj=>h1 listed hcl hj hi
  ·refine .inr ⟨zX h1,?_⟩
   rcases h2 with h2 | h2
   ·exact .inl (by rw[sn];exact h2)
   ·exact .inr (by rw[xy];exact h2)
end Go.Mini
namespace Go.Mini
open Go
variable {P:Program} {T:Tab} {A:Nat→Prop} {w0 w:World} {B0 B:Lay} {mem:Mem} {n kb:Nat} {own:List Nat} {ops:Array Oper} {l:List MI} {K:St→Prop} {Q:Exit→Act→World→Prop}
theorem qi:∀ (r:List Oper) (m:Nat),oq m r=true→∀ (t:Nat) (o:Oper),r[t]?=some o→∀ e∈o.after,Region.binds .any e=true→e.on<m+t
 | [],_,_,_,_,h,_,_,_=>by simp at h
 | o'::r,m,h,0,o,ho,e,he,hb=>by
  simp only[oq,UD] at h;simp at ho;subst ho;have:=(Array.all_eq_true_iff_forall_mem.1 h.1) e he
  simpa [hb] using this
 | o'::r,m,h,t+1,o,ho,e,he,hb=>by
  simp only[oq,UD] at h;have:=qi r (m+1) h.2 t o (by simpa using ho) e he hb;omega
theorem Ek {c:List (List Nat)} (hp:Pairs (kM c) ops l) (hl:l.length=ops.size) (he:oq 0 ops.toList=true):∀ (r:List MI) (m:Nat) (rec:Rec) (st:St) (listed:Array Bool),l.drop m=r→m+r.length=l.length →
  listed.size=ops.size→(∀ i,i<ops.size→listed.getD i true=decide (i<m))→(∀ k,m≤k→rec k=none)→tp T K m r (c.drop m) rec st→rE T (kM c) ops l K r.length listed rec st
 | [],m,rec,st,listed,hr,hm,hs,hli,hrec,h=>by
  refine⟨List.eq_nil_iff_forall_not_mem.2 fun i hi=>?_,h⟩
  obtain⟨h1,o,ho,_⟩:=mem_ready.1 hi;have hlt:i<ops.size:=(Array.getElem?_eq_some_iff.1 ho).1;rw[hli i hlt] at h1;simp at h1 hm;omega
 | x::r,m,rec,st,listed,hr,hm,hs,hli,hrec,h=>by
  have hlt:m<ops.size:=by simp at hm;omega
  have ho:ops[m]?=some ops[m]:=Array.getElem?_eq_getElem hlt
  have hx:l[m]?=some x:=by
   have:(l.drop m)[0]?=some x:=by rw[hr];rfl
   simpa using this
  have hspec:=fun (j:Nat) (o:Oper) (hj:ops[j]?=some o)=>qi ops.toList 0 he j o (by simpa using hj)
  have hin:∀ i,i<m→listed.getD i false=true:=fun i hi=>by
   have h1:=hli i (by omega);rw[decide_eq_true hi] at h1;have h2:i<listed.size:=by omega
   simpa [h2] using h1
  have hcl:Closed ops listed:=⟨hs,fun j o hj hjl e hee hb=>by
   have h1:=hspec j o hj e hee hb;have hj':j<ops.size:=(Array.getElem?_eq_some_iff.1 hj).1
   have h2:j<m:=by
    have:=hli j hj';have h3:j<listed.size:=by omega
    simp [h3] at hjl this;rw[hjl] at this
    simpa using this.symm
   exact hin _ (by omega)⟩
  have hready:m∈Region.ready .any ops listed:=mem_ready.2 ⟨by rw[hli m hlt];simp,_,ho,fun e hee hb=>hin _ (by have:=hspec m _ ho e hee hb;omega)⟩
  have hrec':∀ k,listed.getD k true=false→rec k=none:=fun k hk=>hrec k (by
   rcases Ux k ops.size with h' | h'
   ·rw[hli k h'] at hk
    simpa using hk
   ·omega)
  have next:∀ rec1 st1,Exec T (kM c) m x rec st rec1 st1→tp T K (m+1) r (c.drop m).tail rec1 st1→rE T (kM c) ops l K (r.length+1) listed rec st:=by
   intro rec1 st1 hex hk;refine yG hp (sn c) hx _ listed rec st rec1 st1 hcl hrec' hready hex (Ek hp hl he r (m+1) rec1 st1 _ ?_ (by simp at hm;omega) (by simpa using hs) (fun i hi=>?_) (fun k hk=>?_) ?_)
   ·rw[←UH,hr]
    rfl
   ·by_cases him:m=i
    ·subst him
     have:m<listed.size:=by omega
     simp [this]
    ·rw[getD_set_ne true him,hli i hi]
     congr 1
     simp;omega
   ·rw[Aw hex (by omega)]
    exact hrec k (by omega)
   ·rw[List.tail_drop] at hk
    exact hk
  simp only[tp] at h
  split at h
  ·cases h
  ·rename_i g hg
   split at h
   ·rename_i hgt
    subst hgt
    split at h
    ·rename_i mv e hs
     refine next _ _ (.inr ⟨hg,mv,e,hs,fun p q hpm hq=>?_,rfl,rfl⟩) h.2
     have hpl:p<m:=by
      rcases Ux p m with h' | h'
      ·exact h'
      ·rw[hrec p h'] at hq;cases hq
     have hchk:=h.1;unfold Fy at hchk;rw[UE] at hchk
     have hmem:p∈(c.drop m).headD []:=by
      unfold kM at hpm;rw[if_pos hpl] at hpm
      have:(c.drop m).headD []=c.getD m []:=by
       rw[List.headD_eq_head?_getD,List.head?_drop,Uq]
      rw[this];exact List.contains_iff_mem.1 hpm
     have:=hchk p hmem;rw[hq] at this;exact this
    ·cases h
   ·rename_i hgf
    have hgf':g=false:=by simpa using hgf
    subst hgf';exact next _ _ (.inl ⟨hg,rfl,rfl⟩) h
theorem tL (h:MemRel A w B mem):MemRel (OA A B) w (fun _=>none) emp :=
 ⟨fun _ _=>rfl,fun _ _ _ _ _ h=>(by cases h),fun b _ ⟨_,_,h,_⟩=>(by cases h),fun b hb=>hb.elim (fun h'=>h.own_lt h') (h.lt b),fun _ _ _ h=>(by cases h)⟩
theorem qN (b:Nat):OA (OA A B) (fun _=>none) b↔OA A B b :=
 ⟨fun h=>h.elim (fun⟨_,_,h,_⟩=>by cases h) id,.inr⟩
theorem IO {m:MV} {v:Value} (h:VR w (OA A B) B m v):VR w (OA (OA A B) fun _=>none) (fun _=>none) (shut m) v:=by
 cases h with
 | dat h=>exact .dat (h.less fun b hb=>(qN b).1 hb)
 | nil=>exact .nil
 | clo hl hd =>
  rename_i f caps vs
  cases caps with
  | nil=>exact .clo hl fun i d v h=>by simp at h
  | cons c r=>exact .undef
 | agg hl hd =>
  rename_i cs vs
  simp only[shut]
  cases hc:cs.mapM tO with
  | none=>exact .undef
  | some ds =>
   obtain⟨h1,h2⟩:=dh hc;refine .dat (.agg (hl.trans h1.symm) fun i d v hi hv=>?_);have hlt:i<cs.length:=by have:=(List.getElem?_eq_some_iff.1 hi).1;omega
   have hci:=UI hlt;exact (wy (h2 i _ d hci hi) (hd i _ v hci hv)).less fun b hb=>(qN b).1 hb
 | _=>exact .undef
theorem wK {ms:List MV} {vs:List Value} (h:RL w (OA A B) B ms vs):RL w (OA (OA A B) fun _=>none) (fun _=>none) (ms.map shut) vs:=by
 refine⟨by simpa using h.1,fun i m v hm hv=>?_⟩
 rw[List.getElem?_map,UJ] at hm;obtain⟨m',hm',rfl⟩:=hm;exact IO (h.2 i m' v hm' hv)
theorem OwnRes.less {w w':World} {O O':Nat→Prop} {sz:Nat} {es:List (List Data)} {v:Value} (hl:∀ b,O' b→O b) (h:OwnRes w w' O sz es v):OwnRes w w' O' sz es v:=by
 obtain⟨h1,a,cap,h2,h3,h4,h5⟩:=h;refine⟨h1,a,cap,h2,h3,h4,h5.imp id ?_⟩;rintro⟨b,vs,T,h6,h7,h8,h9,h10⟩;exact⟨b,vs,T,h6,h7,h8,h9,fun i d hd=>let ⟨u,hu,hden⟩:=h10 i d hd;⟨u,hu,hden.less fun b' hb'=>hb'.imp (hl b') id⟩⟩
theorem lm {o:Oper} {c:Call} {f:FuncId} {a:Act} (ho:o.op = .call c) (hcal:c.callee = .value (.func f)) (hreal:Real P f):(execOp a.eval o).run P w = .ok (.enter f (c.args.toList.map a.eval).toArray) w:=by
 obtain⟨dst,op,type,pos,after,guard⟩:=o;simp only at ho;subst ho;obtain⟨callee,cargs,ats⟩:=c;simp only at hcal;subst hcal;simp only[execOp,resolve,Deferred.ofValue,Act.eval,invoke,Sem.run_bind,Sem.run_pure,Result.andThen_ok,nh hreal];rw[c9 cargs];simp
theorem Fu (hT:ke P T) {a:Act} {st:St} {o:Oper} {i:MI} {m:MV} {e:Option (Key × Nat × List MV)} (h:Sim n A w0 B0 a st w B) (hi:Is P n kb own ops o i)
  (hs:iK T st.mem st.tm i.op=some (m,e)):o.wp P a w (fun a' w'=>∃ B',Sim n A w0 B0 a' ⟨put st.tm i.dst m,ig st.mem e⟩ w' B') Q:=by
 have hop:=hi.op
 have plain:sop st.mem st.tm i.op=some (m,e)→o.wp P a w (fun a' w'=>∃ B',Sim n A w0 B0 a' ⟨put st.tm i.dst m,ig st.mem e⟩ w' B') Q:=by
  intro hs
  have htr:kL P kb own o.dst o.type o.op=some i.op:=getD_some hop (by
   intro hb;rw[hb] at hs
   cases hs)
  obtain⟨nx,v,w',B',hrun,hnx,hst,hv⟩:=zG h.ok.mr h.rho htr hs;unfold Oper.wp;rw[hrun,hi.dst];have hsim:=h.put hst hv hi.lt;rcases hnx with rfl | ⟨rfl,rfl⟩
  ·exact⟨B',hsim⟩
  ·exact⟨B',hsim⟩
 cases hiop:i.op with
 | call f args =>
  have htr:kL P kb own o.dst o.type o.op=some i.op:=getD_some hop (by rw[hiop];simp);rw[hiop] at htr hs;obtain⟨c,hc,hcal,hargs⟩:=wF htr;have hrl:=wK (gu h.rho hargs);rw[UK] at hrl;simp only[iK] at hs
  split at hs
  ·rename_i r hTf
   cases hs;obtain⟨hreal,hspec⟩:=hT f _ _ _ hTf;have hcc:=hspec (OA A B) w (fun _=>none) _ (tL h.ok.mr) hrl;unfold Oper.wp;rw[lm hc hcal hreal,hi.dst];refine Calls.mono hcc fun e w' he=>?_
   obtain⟨v,rfl,hfr,hd⟩:=he;exact⟨B,h.put (.still h.ok.mr hfr) (.dat (hd.less fun b hb=>(qN b).2 hb)) hi.lt⟩
  ·rename_i sz es hTf
   cases hs;obtain⟨hreal,hspec⟩:=hT f _ _ _ hTf;have hcc:=hspec (OA A B) w (fun _=>none) _ (tL h.ok.mr) hrl;unfold Oper.wp;rw[lm hc hcal hreal,hi.dst];refine Calls.mono hcc fun e w' he=>?_
   obtain⟨v,rfl,hfr,hd⟩:=he;exact⟨B,h.put (.still h.ok.mr hfr) (.dat ((hd.less fun b hb=>(qN b).2 hb).den fun b hb=>hb.elim (fun h'=>h.ok.mr.own_lt h') (h.ok.mr.lt b))) hi.lt⟩
  ·cases hs
 | callo k sz f args =>
  have htr:kL P kb own o.dst o.type o.op=some i.op:=getD_some hop (by rw[hiop];simp);rw[hiop] at htr hs;obtain⟨c,hc,hcal,hargs⟩:=tF htr;have hrl:=wK (gu h.rho hargs);rw[UK] at hrl;simp only[iK] at hs
  split at hs
  ·rename_i sz' es hTf
   split at hs
   ·rename_i hsz
    subst hsz
    cases hs;obtain⟨hreal,hspec⟩:=hT f _ _ _ hTf;have hcc:=hspec (OA A B) w (fun _=>none) _ (tL h.ok.mr) hrl;unfold Oper.wp;rw[lm hc hcal hreal,hi.dst];refine Calls.mono hcc fun e w' he=>?_
    obtain⟨v,rfl,hfr,hd⟩:=he;obtain⟨B',hst,hv⟩:=A4 k h.ok.mr hfr (hd.less fun b hb=>(qN b).2 hb);exact⟨B',h.put hst hv hi.lt⟩
   ·cases hs
  ·cases hs
 | callm lo f args =>
  have htr:kL P kb own o.dst o.type o.op=some i.op:=getD_some hop (by rw[hiop];simp);rw[hiop] at htr hs;obtain⟨c,hc,hcal,hargs⟩:=CX htr;have hrl:=gu h.rho hargs;simp only[iK] at hs;obtain⟨r,k,g,ix,cc,cs,hTf,hm,rfl,rfl,hf⟩:=Ba hs;obtain⟨hreal,hspec⟩:=hT f _ _ _ hTf;have hcc:=hspec A w B _ h.ok.mr hrl;unfold Oper.wp;rw[lm hc hcal hreal,hi.dst];refine Calls.mono hcc fun e w' he=>?_
  obtain⟨v,B',rfl,hst,hv⟩:=he;refine⟨B',?_⟩;have hcell:fG st.mem k=cs:=by simp only[fG,hm]
  rw[hcell] at hst;exact h.put hst hv hi.lt
 | callv f args=>rw[hiop] at hs;cases hs
 | isnil neg x=>rw[hiop] at hs;cases hs
 | _=>exact plain (by rw[hiop] at hs ⊢;exact hs)
theorem En {α β:Type} {f:α→Option β} {xs:List α} {ys:List β} (h:xs.mapM f=some ys) {i:Nat} {x:α} (hx:xs[i]?=some x):∃ y,ys[i]?=some y∧f x=some y:=by
 obtain⟨h1,h2⟩:=dh h;have hlt:i<ys.length:=by rw[h1];exact (List.getElem?_eq_some_iff.1 hx).1
 exact⟨_,UI hlt,h2 i x _ hx (UI hlt)⟩
theorem yD (hT:ke P T) {conf:Nat→Nat→Bool} (htr:ops.toList.mapM (nQ P n kb own ops)=some l) (hQ:∀ st a w B,K st→Sim n A w0 B0 a st w B→Q .normal a w) :
  ∀ (fuel:Nat) (listed:Array Bool) (rec:Rec) (st:St) (a:Act) (w:World) (B:Lay),Sim n A w0 B0 a st w B→rE T conf ops l K fuel listed rec st→wpAny P .any ops Q fuel listed a w
 | 0,_,_,_,_,_,_,hs,h=>⟨h.1,hQ _ _ _ _ h.2 hs⟩
 | fuel+1,listed,rec,st,a,w,B,hs,h=>by
  refine⟨fun h0=>hQ _ _ _ _ (h.1 h0) hs,fun i hi=>?_⟩
  obtain⟨x,rec',st',hx,hex,hk⟩:=h.2 i hi;obtain⟨_,o,ho,_⟩:=mem_ready.1 hi;obtain⟨y,hy,hoy⟩:=En htr (i:=i) (x:=o) (by simpa using ho);rw[hx] at hy
  cases hy;have his:=Nn hoy;unfold wpOp;simp only[ho];rcases hex with ⟨hg,rfl,rfl⟩ | ⟨hg,m,e,hsop,_,rfl,rfl⟩
  ·rw[rT hs his.guard hg,if_neg (by simp)]
   exact yD hT htr hQ fuel _ _ _ _ _ B (by rw[his.dst];exact hs.put (.refl hs.ok.mr) .no his.lt) hk
  ·rw[rT hs his.guard hg,if_pos rfl]
   refine .inl (Oper.wp_mono (fun a' w' ⟨B',hs'⟩=>yD hT htr hQ fuel _ _ _ _ _ B' hs' hk) (Fu hT hs his hsop))
theorem Sim.drew {a:Act} {st:St} (h:Sim n A w0 B0 a st w B) (d:Nat):Sim n A w0 B0 a st { w with drawn:=d } B:=by
 have hs:StepOK A w B { w with drawn:=d } B st.mem:=.still h.ok.mr ((Fr.refl _ _).drew d);exact⟨h.ok.trans hs,fun s=>(h.tm s).keep hs.tr,h.sz,h.df⟩
theorem KB (hT:ke P T) (hm:P.follows .mixedOrders=true) {id:Nat} {a:Act} {st:St} (htr:ops.toList.mapM (nQ P n kb own ops)=some l) (hd:rD ops l=true) (hs:Sim n A w0 B0 a st w B)
  (h:tp T K 0 l (qD [] l (oM ops.toList [])) (fun _=>none) st) (hQ:∀ st a w B,K st→Sim n A w0 B0 a st w B→Q .normal a w):(Code.region id ops true).wp P Q a w:=by
 refine wp_region_any hm ?_
 have hl:l.length=ops.size:=by
  rw[(dh htr).1,Array.length_toList]
 have hany:=Ek (JK hd) hl (by unfold rD at hd;rw[UD] at hd;exact hd.1) l 0 (fun _=>none) st (Array.replicate ops.size false) rfl (by simp) (by simp) (fun i hi=>by simp [hi]) (fun _ _=>rfl) h;rw[hl] at hany;exact yD hT htr hQ ops.size _ _ _ _ _ B (hs.drew _) hany
theorem yq (hT:ke P T) (htr:ops.toList.mapM (nQ P n kb own ops)=some l) (hQ:∀ st a w B,K st→Sim n A w0 B0 a st w B→Q .normal a w) :
  ∀ (r:List MI) (m:Nat) (st:St) (a:Act) (w:World) (B:Lay),l.drop m=r→Sim n A w0 B0 a st w B→wpr T K r st→wpOps P ops Q (List.range' m r.length) a w
 | [],_,_,_,_,_,_,hs,h=>hQ _ _ _ _ h hs
 | x::r,m,st,a,w,B,hr,hs,h=>by
  have hx:l[m]?=some x:=by
   have:(l.drop m)[0]?=some x:=by rw[hr];rfl
   simpa using this
  have hr':l.drop (m+1)=r:=by rw[←UH,hr];rfl
  have hlt:m<ops.size:=by
   have h1:=(dh htr).1;have h2:=(List.getElem?_eq_some_iff.1 hx).1;simp at h1;omega
  have ho:ops[m]?=some ops[m]:=Array.getElem?_eq_getElem hlt;obtain⟨y,hy,hoy⟩:=En htr (i:=m) (x:=ops[m]) (by simp);rw[hx] at hy
  cases hy;have his:=Nn hoy;simp only[UL,List.range'_succ];rw[wpOps_cons];unfold wpOp;simp only[ho];simp only[wpr] at h
  split at h
  ·cases h
  ·rename_i g hg
   rw[rT hs his.guard hg]
   cases g with
   | true =>
    simp only[if_true] at h ⊢;exact .inl (Oper.wp_mono (fun a' w' ⟨st',B',hk,hs'⟩=>yq hT htr hQ r (m+1) st' a' w' B' hr' hs' hk) (JB hT hs his h))
   | false =>
    simp only[UM,if_false] at h ⊢;exact yq hT htr hQ r (m+1) _ _ _ B hr' (hs.put (.refl hs.ok.mr) .no his.lt) (by rw[←his.dst];exact h)
end Go.Mini
namespace Go.Mini
open Go
variable {A:Nat→Prop} {w:World} {B:Lay} {mem:Mem}
theorem DJ {O:Nat→Prop} {b off c sz len:Nat} {vs:Array Value} {T:TypeId} {ds:List Data} (hh:w.heap[b]?=some (.cells vs T (0,0))) (hO:¬ O b) (hl:ds.length=len*sz) (hlc:len≤c) (hm:len≤maxLen) (hfit:off+len*sz≤vs.size)
  (hd:∀ (i:Nat) (d:Data) (v:Value),ds[i]?=some d→vs[off+i]?=some v→Den w O d v):Den w O (.sl (chunk sz len ds)) (.slice (some ⟨b,off,none⟩) len c):=by
 have hcl:=ku sz len ds
 have h:=Den.sl (w:=w) (O:=O) (es:=chunk sz len ds) (b:=b) (off:=off) (c:=c) (sz:=sz) (fun i=>vs.getD (off+i) undef) (by rw[hcl];exact hlc) (by rw[hcl];exact hm)
  (Array.getElem?_eq_some_iff.1 hh).1 hO (mZ sz len ds hl)
  (fun i hi=>by
   rw[hcl] at hi;rw[cell_of_row w b (off+i) vs T (0,0) hh];have:off+i<vs.size:=by omega
   simp [this])
  (fun i d hid=>by
   rw[mS sz len ds hl] at hid;have hlt:i<ds.length:=(List.getElem?_eq_some_iff.1 hid).1;have hlt2:off+i<vs.size:=by omega
   have:vs.getD (off+i) undef=vs[off+i]:=by simp [hlt2]
   simp only[this];exact hd i d _ hid (Array.getElem?_eq_getElem hlt2))
 rw[hcl] at h;exact h
theorem DP (hmr:MemRel A w B mem) {O:Nat→Prop} (hO:∀ b,O b→A b) {k:Key} {e:Bk} {b:Nat} (he:B k=some e) (hb:e.blk=some b):¬ O b :=
 fun h=>hmr.sep b (hO b h) ⟨k,e,he,hb⟩
theorem snap (hmr:MemRel A w B mem) {O:Nat→Prop} (hO:∀ b,O b→A b):∀ (d:Nat) (m:MV) (v:Value) (r:Data),toD d mem m=some r→VR w (OA A B) B m v→Den w O r v:=by
 have hdat:∀ (d:Data) (v:Value),VR w (OA A B) B (.dat d) v→Den w O d v:=fun d v h=>by
  cases h with
  | dat h=>exact h.less fun b hb => .inr (hO b hb)
 have hnil:∀ v,VR w (OA A B) B .nil v→Den w O (.sl []) v:=fun v h=>by
  cases h;exact .sl0
 intro d
 induction d with
 | zero =>
  intro m v r h hv
  cases m<;>simp only[toD,Option.some.injEq,reduceCtorEq] at h
  ·subst h;exact hdat _ _ hv
  ·subst h;exact hnil _ hv
 | succ d ih =>
  intro m v r h hv
  have lists:∀ (cs:List MV) (vs:List Value) (ds:List Data),cs.mapM (toD d mem)=some ds→vs.length=cs.length→(∀ (i:Nat) (x:MV) (u:Value),cs[i]?=some x→vs[i]?=some u→VR w (OA A B) B x u) →
    vs.length=ds.length∧∀ (i:Nat) (x:Data) (u:Value),ds[i]?=some x→vs[i]?=some u→Den w O x u:=by
   intro cs vs ds hds hl hr;obtain⟨h1,h2⟩:=dh hds;refine⟨by omega,fun i x u hx hu=>?_⟩
   have hlt:i<cs.length:=by have:=(List.getElem?_eq_some_iff.1 hx).1;omega
   have hci:=UI hlt;exact ih _ u x (h2 i _ x hci hx) (hr i _ u hci hu)
  cases m<;>simp only[toD,Option.some.injEq,UJ,reduceCtorEq] at h
  case dat=>subst h;exact hdat _ _ hv
  case nil=>subst h;exact hnil _ hv
  case ref k g sz off len =>
   split at h
   ·rename_i g' cs hk
    split at h
    ·rename_i hg
     subst hg
     split at h
     ·rename_i part hpart
      simp only[UJ] at h;obtain⟨ds,hds,rfl⟩:=h;obtain⟨hcl,rfl,hpl⟩:=md hpart;obtain⟨h1,h2⟩:=dh hds
      cases hv with
      | ref he hgle hr =>
       obtain⟨e,he',hge,hn,hb⟩:=hmr.at_ hk;rw[he'] at he
       cases he;obtain⟨a,cap,rfl,h3,h4,h5⟩:=hr;rcases h5 with h5 | ⟨b,rfl,h6⟩
       ·have:len=0:=by omega
        subst this;simp only[chunk];exact .sl0
       ·obtain⟨h7,h8⟩:=h6 hge.symm
        obtain⟨vs,T,hh,hz,hle,hrl⟩:=hb b h7;refine DJ hh (DP hmr hO he' h7) (by omega) h3 (by omega) (by omega) fun i x u hx hu=>?_
        have hlt:i<ds.length:=(List.getElem?_eq_some_iff.1 hx).1;have hlt2:off+i<cs.length:=by omega
        have hci:((cs.drop off).take (len*sz))[i]?=some cs[off+i]:=by
         rw[UN (by omega),UO,UI hlt2]
        refine ih _ u x (h2 i _ x hci hx) (hrl.2 (off+i) _ u (UI hlt2) ?_);rw[UN hlt2,Array.getElem?_toList];exact hu
     ·cases h
    ·cases h
   ·cases h
  case ptr k g off =>
   split at h
   ·rename_i g' cs hk
    split at h
    ·rename_i hg
     obtain⟨rfl,hoff⟩:=hg;simp only[UJ] at h;obtain⟨ds,hds,rfl⟩:=h;obtain⟨h1,h2⟩:=dh hds
     cases hv with
     | ptr he hgle hr =>
      obtain⟨e,he',hge,hn,hb⟩:=hmr.at_ hk;rw[he'] at he
      cases he;obtain⟨b,rfl,h6⟩:=hr;have h7:=h6 hge.symm;obtain⟨vs,T,hh,hz,hle,hrl⟩:=hb b h7;rw[UP] at h1;refine .ptr (fun i=>vs.getD (off+i) undef) (Array.getElem?_eq_some_iff.1 hh).1 (DP hmr hO he' h7) (fun i hi=>?_) fun i x hx=>?_
      ·rw[cell_of_row w b (off+i) vs T (0,0) hh]
       have:off+i<vs.size:=by omega
       simp [this]
      ·have hlt:i<ds.length:=(List.getElem?_eq_some_iff.1 hx).1
       have hlt2:off+i<cs.length:=by omega
       have hlt3:off+i<vs.size:=by omega
       have hci:(cs.drop off)[i]?=some cs[off+i]:=by
        rw[UO,UI hlt2]
       have hu:vs.getD (off+i) undef=vs[off+i]:=by simp [hlt3]
       rw[hu];refine ih _ _ x (h2 i _ x hci hx) (hrl.2 (off+i) _ _ (UI hlt2) ?_);rw[UN hlt2,Array.getElem?_toList];exact Array.getElem?_eq_getElem hlt3
    ·cases h
   ·cases h
  case clo f cs =>
   obtain⟨ds,hds,rfl⟩:=h
   cases hv with
   | clo hl hd=>obtain⟨h1,h2⟩:=lists _ _ _ hds hl hd;exact .fn h1 h2
  case agg cs =>
   obtain⟨ds,hds,rfl⟩:=h
   cases hv with
   | agg hl hd=>obtain⟨h1,h2⟩:=lists _ _ _ hds hl hd;exact .agg h1 h2
  case tup cs =>
   obtain⟨ds,hds,rfl⟩:=h
   cases hv with
   | tup hl hd=>obtain⟨h1,h2⟩:=lists _ _ _ hds hl hd;exact .tup h1 h2
theorem VR.shift {O O':Nat→Prop} {B':Lay} (hO:∀ b,O' b→O b) (hk:∀ k e,B k=some e→∃ e',B' k=some e'∧(e'=e∨e.g<e'.g)) {m:MV} {v:Value} (h:VR w O B m v):VR w O' B' m v:=by
 induction h with
 | dat h=>exact .dat (h.less hO)
 | nil=>exact .nil
 | @ref k g sz off len e v he hg hv =>
  obtain⟨e',he',hh⟩:=hk k e he;rcases hh with rfl | hh
  ·exact .ref he' hg hv
  ·exact .ref he' (by omega) (hv.later (by omega))
 | @ptr k g off e v he hg hv =>
  obtain⟨e',he',hh⟩:=hk k e he;rcases hh with rfl | hh
  ·exact .ptr he' hg hv
  ·exact .ptr he' (by omega) (hv.later (by omega))
 | clo hl hd ih=>exact .clo hl ih
 | agg hl hd ih=>exact .agg hl ih
 | tup hl hd ih=>exact .tup hl ih
 | no=>exact .no
 | undef=>exact .undef
theorem Hk (hmr:MemRel A w B mem) {k:Key} {g:Nat} {cs:List MV} {e:Bk} {b:Nat} (hk:mem k=some (g,cs)) (he:B k=some e) (hb:e.blk=some b) :
  MemRel (fun b'=>A b'∨b'=b) w (fx B k ⟨aD mem k,none,0⟩) (kill mem k)∧(∀ m v,VR w (OA A B) B m v→VR w (OA (fun b'=>A b'∨b'=b) (fx B k ⟨aD mem k,none,0⟩)) (fx B k ⟨aD mem k,none,0⟩) m v):=by
 have hg:=mi hmr k e he
 have hO:∀ b',OA (fun b'=>A b'∨b'=b) (fx B k ⟨aD mem k,none,0⟩) b'→OA A B b':=fun b' h=>by
  rcases h with ⟨j,e2,hj,hx⟩ | h | rfl
  ·by_cases hjk:j=k
   ·subst hjk;rw[aX] at hj;cases hj;cases hx
   ·rw[aL B _ hjk] at hj;exact .inl ⟨j,e2,hj,hx⟩
  ·exact .inr h
  ·exact .inl ⟨k,e,he,hb⟩
 have hkey:∀ j e2,B j=some e2→∃ e',fx B k ⟨aD mem k,none,0⟩ j=some e'∧(e'=e2∨e2.g<e'.g):=fun j e2 hj=>by
  by_cases hjk:j=k
  ·subst hjk
   rw[he] at hj
   cases hj;exact⟨_,aX _ _ _,.inr hg⟩
  ·exact⟨e2,by rw[aL B _ hjk];exact hj,.inl rfl⟩
 have shift:∀ m v,VR w (OA A B) B m v→VR w (OA (fun b'=>A b'∨b'=b) (fx B k ⟨aD mem k,none,0⟩)) (fx B k ⟨aD mem k,none,0⟩) m v:=fun m v h=>h.shift hO hkey
 refine⟨⟨fun j hj=>?_,fun j j' e1 e2 b' h1 h2 h3 h4=>?_,fun b' ha ho=>?_,fun b' ha=>?_,fun j g' cs' hj=>?_⟩,shift⟩
 ·by_cases hjk:j=k
  ·subst hjk;simp [kill,aA] at hj
  ·rw[aL B _ hjk]
   simp only[kill,aA,hjk,if_false] at hj;exact hmr.dom j hj
 ·by_cases hjk:j=k
  ·subst hjk;rw[aX] at h1;cases h1;cases h3
  ·by_cases hjk':j'=k
   ·subst hjk';rw[aX] at h2;cases h2;cases h4
   ·rw[aL B _ hjk] at h1
    rw[aL B _ hjk'] at h2;exact hmr.inj j j' e1 e2 b' h1 h2 h3 h4
 ·obtain⟨j,e2,hj,hx⟩:=ho
  by_cases hjk:j=k
  ·subst hjk;rw[aX] at hj;cases hj;cases hx
  ·rw[aL B _ hjk] at hj
   rcases ha with ha | rfl
   ·exact hmr.sep b' ha ⟨j,e2,hj,hx⟩
   ·exact hjk (hmr.inj j k e2 e b' hj he hx hb)
 ·rcases ha with ha | rfl
  ·exact hmr.lt b' ha
  ·exact hmr.own_lt ⟨k,e,he,hb⟩
 ·by_cases hjk:j=k
  ·subst hjk
   simp only[kill,aA,if_true,Option.some.injEq,Prod.mk.injEq] at hj;obtain⟨rfl,rfl⟩:=hj;exact⟨_,aX _ _ _,rfl,fun _=>rfl,fun b' hb'=>by cases hb'⟩
  ·simp only[kill,aA,hjk,if_false] at hj
   obtain⟨e2,h1,h2,h3,h4⟩:=hmr.blk j g' cs' hj;refine⟨e2,by rw[aL B _ hjk];exact h1,h2,h3,fun b' hb'=>?_⟩
   obtain⟨vs,T,h5,h6,h7,h8⟩:=h4 b' hb';exact⟨vs,T,h5,h6,h7,fun i m hm=>let ⟨v,hv,hr⟩:=h8 i m hm;⟨v,hv,shift m v hr⟩⟩
end Go.Mini
namespace Go.Mini
open Go
variable {P:Program} {T:Tab} {A:Nat→Prop} {w0 w:World} {B0 B:Lay} {mem:Mem} {n kb:Nat} {own:List Nat} {Q:Exit→Act→World→Prop}
theorem mT {k:Key} {g sz off len:Nat} {cs:List MV} {d:Data} {v:Value} (hmr:MemRel A w B mem) (hk:mem k=some (g,cs)) (hd:toD 1 mem (.ref k g sz off len)=some d) (hv:VR w (OA A B) B (.ref k g sz off len) v) :
  Den w (OA A (fx B k ⟨aD mem k,none,0⟩)) d v:=by
 have hO:∀ b,OA A (fx B k ⟨aD mem k,none,0⟩) b→OA A B b:=fun b h=>h.imp (fun⟨j,e,hj,hx⟩=>by
  by_cases hjk:j=k
  ·subst hjk;rw[aX] at hj;cases hj;cases hx
  ·rw[aL B _ hjk] at hj;exact⟨j,e,hj,hx⟩) id
 simp only[toD,hk,if_true] at hd
 split at hd
 ·rename_i part hpart
  simp only[UJ] at hd;obtain⟨ds,hds,rfl⟩:=hd;obtain⟨hcl,rfl,hpl⟩:=md hpart;obtain⟨h1,h2⟩:=dh hds
  cases hv with
  | ref he hgle hr =>
   obtain⟨e,he',hge,hn,hb⟩:=hmr.at_ hk;rw[he'] at he;obtain rfl:=Option.some.inj he;obtain⟨a,cap,rfl,h3,h4,h5⟩:=hr;rcases h5 with h5 | ⟨b,rfl,h6⟩
   ·have:len=0:=by omega
    subst this;simp only[chunk];exact .sl0
   ·obtain⟨h7,h8⟩:=h6 hge.symm
    obtain⟨vs,T,hh,hz,hle,hrl⟩:=hb b h7
    have hnot:¬ OA A (fx B k ⟨aD mem k,none,0⟩) b:=by
     rintro (⟨j,e2,hj,hx⟩ | ha)
     ·by_cases hjk:j=k
      ·subst hjk;rw[aX] at hj;cases hj;cases hx
      ·rw[aL B _ hjk] at hj
       exact hjk (hmr.inj j k e2 _ b hj he' hx h7)
     ·exact hmr.sep b ha ⟨k,_,he',h7⟩
    refine DJ hh hnot (by omega) h3 (by omega) (by omega) fun i x u hx hu=>?_
    have hlt:i<ds.length:=(List.getElem?_eq_some_iff.1 hx).1;have hlt2:off+i<cs.length:=by omega
    have hci:((cs.drop off).take (len*sz))[i]?=some cs[off+i]:=by
     rw[UN (by omega),UO,UI hlt2]
    have hx':=h2 i _ x hci hx
    have hv':VR w (OA A B) B cs[off+i] u:=hrl.2 (off+i) _ u (UI hlt2) (by
     rw[UN hlt2,Array.getElem?_toList];exact hu)
    generalize cs[off+i]=m at *
    cases m<;>simp only[toD,Option.some.injEq,reduceCtorEq] at hx'
    ·subst hx'
     cases hv' with
     | dat h=>exact h.less hO
    ·subst hx'
     cases hv'
     exact .sl0
 ·cases hd
theorem we {k:Key} {O O':Nat→Prop} {B':Lay} {v:Value} {sz:Nat} {e:Bk} (he:B k=some e) (hv:VR w O B' .nil v):VR w O' B (.ref k e.g sz 0 0) v:=by
 cases hv;exact .ref he (Uu _) ⟨_,0,rfl,Uu _,UQ _,.inl rfl⟩
theorem js {k:Key} {g i:Nat} {cs:List MV} {m m':MV} {w1:World} (hmr:MemRel A w B mem) (hk:mem k=some (g,cs)) (hi:cs[i]?=some m)
  (hv:∀ e b v,B k=some e→e.blk=some b→w.cell? ⟨b,i,none⟩=some v→VR w (OA A B) B m' v):∃ B',StepOK A w B w B' (aA mem k g (cs.set i m')):=by
 obtain⟨e,he,hge,hn,hb⟩:=hmr.at_ hk
 have ok:=StepOK.change (k:=k) (e':=e) (cs:=cs.set i m') hmr (Fr.refl _ w) (fun e2 he2 => .inl (by rw[he] at he2;cases he2;rfl)) (fun b hb2 => .inr ⟨e,he,hb2⟩) (fun h=>by
  have:=hn h;subst this
  rfl) (fun b hb2=>by
  obtain⟨vs,T,hh,hz,hle,hrl⟩:=hb b hb2;refine⟨vs,T,hh,hz,by simpa using hle,fun j x hx=>?_⟩
  by_cases hij:i=j
  ·subst hij
   have hlt:i<cs.length:=(List.getElem?_eq_some_iff.1 hi).1;rw[List.getElem?_set_self hlt] at hx
   cases hx;have hv2:i<vs.size:=by omega
   exact⟨vs[i],Array.getElem?_eq_getElem hv2,hv e b _ he hb2 (by rw[cell_of_row w b i vs T (0,0) hh];exact Array.getElem?_eq_getElem hv2)⟩
  ·rw[List.getElem?_set_ne hij] at hx
   obtain⟨v,hvv,hr⟩:=hrl.get hx;refine⟨v,?_,hr⟩;have hlt:j<cs.length:=(List.getElem?_eq_some_iff.1 hx).1;rw[UN hlt,Array.getElem?_toList] at hvv;exact hvv)
 rw[hge] at ok;exact⟨_,ok⟩
theorem StepOK.move {k k':Key} {g:Nat} {cs:List MV} {e:Bk} (h:MemRel A w B mem) (hk:mem k=some (g,cs)) (he:B k=some e) (hne:k'≠k) :
  StepOK A w B w (fx (fx B k ⟨aD mem k,none,0⟩) k' ⟨aD mem k',e.blk,e.size⟩) (aA (aA mem k (aD mem k) []) k' (aD mem k') cs):=by
 have hown:∀ b,Own (fx (fx B k ⟨aD mem k,none,0⟩) k' ⟨aD mem k',e.blk,e.size⟩) b→Own B b:=by
  rintro b ⟨j,e2,hj,hb⟩
  by_cases h1:j=k'
  ·subst h1
   rw[aX] at hj
   cases hj;exact⟨k,e,he,hb⟩
  ·rw[aL _ _ h1] at hj
   by_cases h2:j=k
   ·subst h2
    rw[aX] at hj
    cases hj
    cases hb
   ·rw[aL _ _ h2] at hj
    exact⟨j,e2,hj,hb⟩
 have tr:Trans A w B w (fx (fx B k ⟨aD mem k,none,0⟩) k' ⟨aD mem k',e.blk,e.size⟩):=by
  refine⟨Uu _,fun b _ hb=>⟨rfl,fun ho=>hb (.inl (hown b ho))⟩,fun j e2 hj=>?_⟩
  by_cases h1:j=k'
  ·subst h1
   exact⟨_,aX _ _ _,.inr (mi h j e2 hj)⟩
  ·rw[aL _ _ h1]
   by_cases h2:j=k
   ·subst h2
    exact⟨_,aX _ _ _,.inr (mi h j e2 hj)⟩
   ·rw[aL _ _ h2]
    exact⟨e2,hj,.inl rfl⟩
 refine⟨⟨fun j hj=>?_,fun j j' e1 e2 b h1 h2 hb1 hb2=>?_,fun b ha ho=>h.sep b ha (hown b ho),h.lt,fun j g2 cs2 hj=>?_⟩,tr,Fr.refl _ _,fun b hb => .inl (hown b hb)⟩
 ·simp only[aA] at hj
  by_cases h1:j=k'
  ·simp [h1] at hj
  ·by_cases h2:j=k
   ·rw[if_neg h1,if_pos h2] at hj
    cases hj
   ·simp only[h1,h2,if_false] at hj
    rw[aL _ _ h1,aL _ _ h2];exact h.dom j hj
 ·have main:∀ (j:Key) (e1:Bk),fx (fx B k ⟨aD mem k,none,0⟩) k' ⟨aD mem k',e.blk,e.size⟩ j=some e1→e1.blk=some b→(j=k'∧e.blk=some b)∨(j≠k'∧j≠k∧B j=some e1):=by
   intro j e1 hj hb
   by_cases h1:j=k'
   ·subst h1
    rw[aX] at hj
    cases hj;exact .inl ⟨rfl,hb⟩
   ·rw[aL _ _ h1] at hj
    by_cases h2:j=k
    ·subst h2
     rw[aX] at hj
     cases hj
     cases hb
    ·rw[aL _ _ h2] at hj
     exact .inr ⟨h1,h2,hj⟩
  rcases main j e1 h1 hb1 with ⟨r1,p1⟩ | ⟨r1,s1,p1⟩<;>rcases main j' e2 h2 hb2 with ⟨r2,p2⟩ | ⟨r2,s2,p2⟩
  ·rw[r1,r2]
  ·exact absurd (h.inj k j' e e2 b he p2 p1 hb2).symm s2
  ·exact absurd (h.inj k j e e1 b he p1 p2 hb1).symm s1
  ·exact h.inj j j' e1 e2 b p1 p2 hb1 hb2
 ·simp only[aA] at hj
  by_cases h1:j=k'
  ·subst h1
   simp only[if_true,Option.some.injEq,Prod.mk.injEq] at hj;obtain⟨rfl,rfl⟩:=hj;obtain⟨e0,he0,hg,hn,hb⟩:=h.blk k g cs hk;rw[he] at he0
   cases he0;refine⟨_,aX _ _ _,rfl,hn,fun b hbb=>?_⟩
   obtain⟨vs,T,h3,h4,h5,h6⟩:=hb b hbb;exact⟨vs,T,h3,h4,h5,fun i m hi=>let ⟨v,hv,hr⟩:=h6 i m hi;⟨v,hv,hr.keep tr⟩⟩
  ·simp only[h1,if_false] at hj
   rw[aL _ _ h1]
   by_cases h2:j=k
   ·subst h2
    simp only[if_true,Option.some.injEq,Prod.mk.injEq] at hj;obtain⟨rfl,rfl⟩:=hj;exact⟨_,aX _ _ _,rfl,fun _=>rfl,fun b hb=>by cases hb⟩
   ·simp only[h2,if_false] at hj
    rw[aL _ _ h2];obtain⟨e0,he0,hg,hn,hb⟩:=h.blk j g2 cs2 hj;refine⟨e0,he0,hg,hn,fun b hbb=>?_⟩
    obtain⟨vs,T,h3,h4,h5,h6⟩:=hb b hbb;exact⟨vs,T,h3,h4,h5,fun i m hi=>let ⟨v,hv,hr⟩:=h6 i m hi;⟨v,hv,hr.keep tr⟩⟩
theorem Sim.ghost {a:Act} {st:St} {B':Lay} {mem':Mem} {tm':Nat→MV} (h:Sim n A w0 B0 a st w B) (hs:StepOK A w B w B' mem') (ht:∀ s,tm' s=st.tm s∨VR w (OA A B') B' (tm' s) (a.eval (.tmp s))) :
  Sim n A w0 B0 a ⟨tm',mem'⟩ w B':=by
 refine⟨h.ok.trans hs,fun s=>?_,h.sz,h.df⟩
 rcases ht s with h1 | h1
 ·simp only[h1]
  exact (h.tm s).keep hs.tr
 ·exact h1
theorem F8 {K:St→Prop} {a:Act} {st:St} {g:Ghost} (h:Sim n A w0 B0 a st w B) (hk:dP K st g):∃ st' B',K st'∧Sim n A w0 B0 a st' w B':=by
 have hev:∀ x:Opd,∃ v,VR w (OA A B) B (ev st.tm x) v∨∃ m,x = .c m:=fun x=>by
  cases x with
  | t s=>exact⟨_,.inl (h.tm s)⟩
  | c m=>exact⟨undef,.inr ⟨m,rfl⟩⟩
 cases g with
 | adopt s k sz =>
  simp only[dP] at hk
  split at hk
  ·rename_i hs
   have ok:=StepOK.virtual h.ok.mr k;refine⟨_,_,hk,h.ghost ok fun t=>?_⟩
   by_cases hts:t=s
   ·subst hts
    have:=h.tm t;rw[hs] at this;simp only[upd,if_true];exact .inr (we (e:=⟨aD st.mem k,none,0⟩) (aX _ _ _) this)
   ·exact .inl (by simp [upd,hts])
  ·cases hk
 | freeze s =>
  simp only[dP] at hk
  split at hk
  ·rename_i k g sz off len hs
   split at hk
   ·rename_i g' cs hmem
    split at hk
    ·rename_i hg
     obtain⟨rfl,_⟩:=hg
     split at hk
     ·rename_i d hd
      have ok:=StepOK.virtual h.ok.mr k;refine⟨_,_,hk,h.ghost ok fun t=>?_⟩
      by_cases hts:t=s
      ·subst hts
       have hv:=h.tm t;rw[hs] at hv hd;simp only[upd,if_true];exact .inr (.dat (mT h.ok.mr hmem hd hv))
      ·exact .inl (by simp [upd,hts])
     ·cases hk
    ·cases hk
   ·cases hk
  ·cases hk
 | adoptC x i k sz =>
  simp only[dP] at hk
  split at hk
  ·rename_i kc g off hx
   split at hk
   ·rename_i g' cs hmem
    split at hk
    ·rename_i hg
     subst hg
     split at hk
     ·rename_i hc
      split at hk
      ·rename_i hne
       have ok:=StepOK.virtual h.ok.mr k;have hmem1:aA st.mem k (aD st.mem k) [] kc=some (g',cs):=by simp [aA,Ne.symm hne,hmem]
       obtain⟨e,he,hge,hn,hb⟩:=h.ok.mr.at_ hmem
       obtain⟨B',ok2⟩:=js (w1:=w) (m':=.ref k (aD st.mem k) sz 0 0) ok.mr hmem1 hc (fun e2 b v he2 hb2 hv=>by
        rw[aL B _ (Ne.symm hne)] at he2;rw[he] at he2
        cases he2;obtain⟨vs,T,hh,hz,hle,hrl⟩:=hb b hb2;have hlt:off+i<cs.length:=(List.getElem?_eq_some_iff.1 hc).1;rw[cell_of_row w b (off+i) vs T (0,0) hh] at hv;have hr:=hrl.2 (off+i) _ v hc (by rw[UN hlt,Array.getElem?_toList];exact hv);exact we (e:=⟨aD st.mem k,none,0⟩) (aX _ _ _) hr)
       exact⟨_,B',hk,h.ghost (ok.trans ok2) fun t => .inl rfl⟩
      ·cases hk
     ·cases hk
    ·cases hk
   ·cases hk
  ·cases hk
 | freezeC x i =>
  simp only[dP] at hk
  split at hk
  ·rename_i kc gc off hx
   split at hk
   ·rename_i gc' cc hmemc
    split at hk
    ·rename_i hg
     subst hg
     split at hk
     ·rename_i k g sz o len hc
      split at hk
      ·rename_i g' cs hmem
       split at hk
       ·rename_i hg
        obtain⟨rfl,_,hne⟩:=hg
        split at hk
        ·rename_i d hd
         have ok:=StepOK.virtual h.ok.mr k;have hmem1:aA st.mem k (aD st.mem k) [] kc=some (gc',cc):=by simp [aA,Ne.symm hne,hmemc]
         obtain⟨e,he,hge,hn,hb⟩:=h.ok.mr.at_ hmemc
         obtain⟨B',ok2⟩:=js (w1:=w) (m':=.dat d) ok.mr hmem1 hc (fun e2 b v he2 hb2 hv=>by
          rw[aL B _ (Ne.symm hne)] at he2;rw[he] at he2
          cases he2;obtain⟨vs,T,hh,hz,hle,hrl⟩:=hb b hb2;have hlt:off+i<cc.length:=(List.getElem?_eq_some_iff.1 hc).1;rw[cell_of_row w b (off+i) vs T (0,0) hh] at hv;have hr:=hrl.2 (off+i) _ v hc (by rw[UN hlt,Array.getElem?_toList];exact hv);exact .dat (mT h.ok.mr hmem hd hr))
         exact⟨_,B',hk,h.ghost (ok.trans ok2) fun t => .inl rfl⟩
        ·cases hk
       ·cases hk
      ·cases hk
     ·cases hk
    ·cases hk
   ·cases hk
  ·cases hk
 | move =>
  rcases hk with hk | ⟨kx,gx,cx,i,k,g,sz,off,len,cs,k',hmx,hc,hmk,h1,h2,h3,hk⟩ | ⟨kx,gx,cx,i,k,g,sz,off,len,cs,d,hmx,hc,hmem,-,hne,hd,hk⟩
  ·exact⟨st,B,hk,h⟩
  ·obtain⟨e,he,hge,hn,hb⟩:=h.ok.mr.at_ hmk
   have ok:=StepOK.move h.ok.mr hmk he h2;have hmem1:aA (aA st.mem k (aD st.mem k) []) k' (aD st.mem k') cs kx=some (gx,cx):=by simp [aA,Ne.symm h1,Ne.symm h3,hmx]
   obtain⟨ex,hex,hgx,hnx,hbx⟩:=h.ok.mr.at_ hmx
   obtain⟨B',ok2⟩:=js (w1:=w) (m':=.ref k' (aD st.mem k') sz off len) ok.mr hmem1 hc (fun e2 b v he2 hb2 hv=>by
    rw[aL _ _ (Ne.symm h3),aL _ _ (Ne.symm h1)] at he2;rw[hex] at he2
    cases he2;obtain⟨vs,T,hh,hz,hle,hrl⟩:=hbx b hb2;have hlt:i<cx.length:=(List.getElem?_eq_some_iff.1 hc).1;rw[cell_of_row w b i vs T (0,0) hh] at hv;have hr:=hrl.2 i _ v hc (by rw[UN hlt,Array.getElem?_toList];exact hv)
    cases hr with
    | ref he2 hgle hr =>
     rw[he] at he2
     cases he2;obtain⟨a,cap,rfl,h4,h5,h6⟩:=hr;refine .ref (aX _ _ _) (Uu _) ⟨a,cap,rfl,h4,h5,h6.imp id ?_⟩;rintro⟨b',rfl,h7⟩;exact⟨b',rfl,fun _=>h7 hge.symm⟩)
   exact⟨_,B',hk,h.ghost (ok.trans ok2) fun t => .inl rfl⟩
  ·have ok:=StepOK.virtual h.ok.mr k
   have hmem1:aA st.mem k (aD st.mem k) [] kx=some (gx,cx):=by simp [aA,Ne.symm hne,hmx]
   obtain⟨e,he,hge,hn,hb⟩:=h.ok.mr.at_ hmx
   obtain⟨B',ok2⟩:=js (w1:=w) (m':=.dat d) ok.mr hmem1 hc (fun e2 b v he2 hb2 hv=>by
    rw[aL B _ (Ne.symm hne)] at he2;rw[he] at he2
    cases he2;obtain⟨vs,T,hh,hz,hle,hrl⟩:=hb b hb2;have hlt:i<cx.length:=(List.getElem?_eq_some_iff.1 hc).1;rw[cell_of_row w b i vs T (0,0) hh] at hv;have hr:=hrl.2 i _ v hc (by rw[UN hlt,Array.getElem?_toList];exact hv);exact .dat (mT h.ok.mr hmem hd hr))
   exact⟨_,B',hk,h.ghost (ok.trans ok2) fun t => .inl rfl⟩
 | many =>
  obtain⟨mem',hmv,hk⟩:=hk
  have main:∀ {m0 m1:Mem},Moves m0 m1→∀ B,Sim n A w0 B0 a ⟨st.tm,m0⟩ w B→∃ B',Sim n A w0 B0 a ⟨st.tm,m1⟩ w B':=by
   intro m0 m1 hmv
   induction hmv with
   | refl mem=>exact fun B h=>⟨B,h⟩
   | @step m0 m1 m2 hs _ ih =>
    intro B h
    have one:∃ B',Sim n A w0 B0 a ⟨st.tm,m1⟩ w B':=by
     cases hs with
     | mref kx gx cx i k g sz off len cs k' hmx hc hmk h1 h2 h3 =>
      obtain⟨e,he,hge,hn,hb⟩:=h.ok.mr.at_ hmk;have ok:=StepOK.move h.ok.mr hmk he h2;have hmem1:aA (aA m0 k (aD m0 k) []) k' (aD m0 k') cs kx=some (gx,cx):=by simp [aA,Ne.symm h1,Ne.symm h3,hmx]
      obtain⟨ex,hex,hgx,hnx,hbx⟩:=h.ok.mr.at_ hmx
      obtain⟨B',ok2⟩:=js (w1:=w) (m':=.ref k' (aD m0 k') sz off len) ok.mr hmem1 hc (fun e2 b v he2 hb2 hv=>by
       rw[aL _ _ (Ne.symm h3),aL _ _ (Ne.symm h1)] at he2;rw[hex] at he2
       cases he2;obtain⟨vs,T,hh,hz,hle,hrl⟩:=hbx b hb2;have hlt:i<cx.length:=(List.getElem?_eq_some_iff.1 hc).1;rw[cell_of_row w b i vs T (0,0) hh] at hv;have hr:=hrl.2 i _ v hc (by rw[UN hlt,Array.getElem?_toList];exact hv)
       cases hr with
       | ref he2 hgle hr =>
        rw[he] at he2
        cases he2;obtain⟨a,cap,rfl,h4,h5,h6⟩:=hr;refine .ref (aX _ _ _) (Uu _) ⟨a,cap,rfl,h4,h5,h6.imp id ?_⟩;rintro⟨b',rfl,h7⟩;exact⟨b',rfl,fun _=>h7 hge.symm⟩)
      exact⟨B',h.ghost (ok.trans ok2) fun t => .inl rfl⟩
     | mptr kx gx cx i k g off cs k' hmx hc hmk h1 h2 h3 =>
      obtain⟨e,he,hge,hn,hb⟩:=h.ok.mr.at_ hmk;have ok:=StepOK.move h.ok.mr hmk he h2;have hmem1:aA (aA m0 k (aD m0 k) []) k' (aD m0 k') cs kx=some (gx,cx):=by simp [aA,Ne.symm h1,Ne.symm h3,hmx]
      obtain⟨ex,hex,hgx,hnx,hbx⟩:=h.ok.mr.at_ hmx
      obtain⟨B',ok2⟩:=js (w1:=w) (m':=.ptr k' (aD m0 k') off) ok.mr hmem1 hc (fun e2 b v he2 hb2 hv=>by
       rw[aL _ _ (Ne.symm h3),aL _ _ (Ne.symm h1)] at he2;rw[hex] at he2
       cases he2;obtain⟨vs,T,hh,hz,hle,hrl⟩:=hbx b hb2;have hlt:i<cx.length:=(List.getElem?_eq_some_iff.1 hc).1;rw[cell_of_row w b i vs T (0,0) hh] at hv;have hr:=hrl.2 i _ v hc (by rw[UN hlt,Array.getElem?_toList];exact hv)
       cases hr with
       | ptr he2 hgle hr =>
        rw[he] at he2
        cases he2;obtain⟨b',rfl,h7⟩:=hr;exact .ptr (aX _ _ _) (Uu _) ⟨b',rfl,fun _=>h7 hge.symm⟩)
      exact⟨B',h.ghost (ok.trans ok2) fun t => .inl rfl⟩
     | mfrz kx gx cx i k g sz off len cs d hmx hc hmem hne hd =>
      have ok:=StepOK.virtual h.ok.mr k;have hmem1:aA m0 k (aD m0 k) [] kx=some (gx,cx):=by simp [aA,Ne.symm hne,hmx]
      obtain⟨e,he,hge,hn,hb⟩:=h.ok.mr.at_ hmx
      obtain⟨B',ok2⟩:=js (w1:=w) (m':=.dat d) ok.mr hmem1 hc (fun e2 b v he2 hb2 hv=>by
       rw[aL B _ (Ne.symm hne)] at he2;rw[he] at he2
       cases he2;obtain⟨vs,T,hh,hz,hle,hrl⟩:=hb b hb2;have hlt:i<cx.length:=(List.getElem?_eq_some_iff.1 hc).1;rw[cell_of_row w b i vs T (0,0) hh] at hv;have hr:=hrl.2 i _ v hc (by rw[UN hlt,Array.getElem?_toList];exact hv);exact .dat (mT h.ok.mr hmem hd hr))
      exact⟨B',h.ghost (ok.trans ok2) fun t => .inl rfl⟩
    obtain⟨B',h'⟩:=one;exact ih B' h'
  obtain⟨B',h'⟩:=main hmv B h;exact⟨_,B',hk,h'⟩
def erase:MCode→MCode
 | .skip => .skip
 | .ops l => .ops l
 | .opsD l c => .opsD l c
 | .seq a b => .seq (erase a) (erase b)
 | .cond c a b => .cond c (erase a) (erase b)
 | .block id c => .block id (erase c)
 | .loop c => .loop (erase c)
 | .exit id => .exit id
 | .ret => .ret
 | .ghost _ c=>erase c
def KD:bH→Exit
 | .normal => .normal
 | .exit id => .exit id
 | .ret => .ret
def From (P:Program) (n kb:Nat) (own:List Nat) (c:Code):MCode→Prop
 | .skip=>c = .skip
 | .ops l=>∃ id ops,c = .region id ops false∧ops.toList.mapM (nQ P n kb own ops)=some l
 | .opsD l ch=>∃ id ops,c = .region id ops true∧ops.toList.mapM (nQ P n kb own ops)=some l∧rD ops l=true∧ch=qD [] l (oM ops.toList [])
 | .seq x y=>∃ a b,c = .seq a b∧g5 P n kb own a=some x∧g5 P n kb own b=some y
 | .cond x y z=>∃ x' a b,c = .cond x' a b∧bq x'=some x∧g5 P n kb own a=some y∧g5 P n kb own b=some z
 | .block id x=>∃ a,c = .block id a∧g5 P n kb own a=some x
 | .loop x=>∃ a,c = .loop a∧g5 P n kb own a=some x
 | .exit id=>c = .exit id
 | .ret=>c = .ret
 | .ghost ..=>False
theorem eJ {c:Code} {m:MCode} (h:g5 P n kb own c=some m):From P n kb own c m:=by
 cases c<;>simp only[g5,Option.some.injEq,reduceCtorEq,UJ] at h
 case skip=>subst h;rfl
 case region id ops draw =>
  split at h
  ·rename_i l hl
   split at h
   ·rename_i hd
    subst hd
    split at h
    ·rename_i hok
     cases h;exact⟨id,ops,rfl,hl,hok,rfl⟩
    ·cases h
   ·rename_i hd
    cases h;exact⟨id,ops,by rw[Bool.not_eq_true] at hd;rw[hd],hl⟩
  ·cases h
 case seq a b =>
  split at h
  ·rename_i x y hx hy
   cases h;exact⟨a,b,rfl,hx,hy⟩
  ·cases h
 case cond x a b =>
  split at h
  ·rename_i x' y z hx hy hz
   cases h;exact⟨x,a,b,rfl,hx,hy,hz⟩
  ·cases h
 case block id a =>
  obtain⟨x,hx,rfl⟩:=h;exact⟨a,rfl,hx⟩
 case loop a =>
  obtain⟨x,hx,rfl⟩:=h;exact⟨a,rfl,hx⟩
 case exit id=>subst h;rfl
 case ret=>subst h;rfl
theorem jQ (hT:ke P T) (hm:P.follows .mixedOrders=true):∀ (mc:MCode) (c:Code) (K:bH→St→Prop) (Q:Exit→Act→World→Prop) (st:St) (a:Act) (w:World) (B:Lay),
  g5 P n kb own c=some (erase mc)→Sim n A w0 B0 a st w B→wp T mc K st→(∀ e st a w B,K e st→Sim n A w0 B0 a st w B→Q (KD e) a w)→c.wp P Q a w
 | .ghost g mc,c,K,Q,st,a,w,B,htr,hs,h,hQ=>by
  obtain⟨st',B',hk,hs'⟩:=F8 hs h;exact jQ hT hm mc c K Q st' a w B' htr hs' hk hQ
 | .skip,c,K,Q,st,a,w,B,htr,hs,h,hQ=>by
  obtain rfl:=eJ htr;exact Go.wp_skip (hQ .normal st a w B h hs)
 | .exit id,c,K,Q,st,a,w,B,htr,hs,h,hQ=>by
  obtain rfl:=eJ htr;exact Go.wp_exit (hQ (.exit id) st a w B h hs)
 | .ret,c,K,Q,st,a,w,B,htr,hs,h,hQ=>by
  obtain rfl:=eJ htr;exact Go.wp_ret (hQ .ret st a w B h hs)
 | .ops l,c,K,Q,st,a,w,B,htr,hs,h,hQ=>by
  obtain⟨id,ops,rfl,hl⟩:=eJ htr;have:=yq (Q:=Q) (K:=K .normal) hT hl (fun st a w B hk hs=>hQ .normal st a w B hk hs) l 0 st a w B rfl hs h;refine Go.wp_region ?_;rw[(dh hl).1,Array.length_toList] at this;rw[List.range_eq_range'];exact this
 | .opsD l ch,c,K,Q,st,a,w,B,htr,hs,h,hQ=>by
  obtain⟨id,ops,rfl,hl,hd,rfl⟩:=eJ htr;exact KB hT hm hl hd hs h fun st a w B hk hs=>hQ .normal st a w B hk hs
 | .seq x y,c,K,Q,st,a,w,B,htr,hs,h,hQ=>by
  obtain⟨x',y',rfl,hx,hy⟩:=eJ htr;refine Go.wp_seq (jQ hT hm x x' _ _ st a w B hx hs h fun e st' a' w' B' hk hs'=>?_)
  cases e with
  | normal=>exact jQ hT hm y y' _ _ st' a' w' B' hy hs' hk hQ
  | exit id=>exact hQ (.exit id) st' a' w' B' hk hs'
  | ret=>exact hQ .ret st' a' w' B' hk hs'
 | .cond x y z,c,K,Q,st,a,w,B,htr,hs,h,hQ=>by
  obtain⟨x',y',z',rfl,hx,hy,hz⟩:=eJ htr;have hv:=hs.rho x' x hx;simp only[wp] at h
  split at h
  ·rename_i t ht
   rw[ht] at hv;refine Go.wp_cond hv.bool_inv ?_
   cases t with
   | true=>exact jQ hT hm y y' _ _ st a w B hy hs h hQ
   | false=>exact jQ hT hm z z' _ _ st a w B hz hs h hQ
  ·cases h
 | .block id x,c,K,Q,st,a,w,B,htr,hs,h,hQ=>by
  obtain⟨x',rfl,hx⟩:=eJ htr;refine Go.wp_block (jQ hT hm x x' _ _ st a w B hx hs h fun e st' a' w' B' hk hs'=>?_)
  cases e with
  | normal=>exact hQ .normal st' a' w' B' hk hs'
  | exit j =>
   simp only[KD,Exit.inBlock];simp only at hk
   split
   ·rename_i hj
    rw[if_pos hj] at hk;exact hQ .normal st' a' w' B' hk hs'
   ·rename_i hj
    rw[if_neg hj] at hk;exact hQ (.exit j) st' a' w' B' hk hs'
  | ret=>exact hQ .ret st' a' w' B' hk hs'
 | .loop x,c,K,Q,st,a,w,B,htr,hs,h,hQ=>by
  obtain⟨x',rfl,hx⟩:=eJ htr;obtain⟨I,μ,hI,hround⟩:=h
  have key:∀ m (st:St) (a:Act) (w:World) (B:Lay),μ st<m→I st→Sim n A w0 B0 a st w B→Code.rounds P x' Q m a w:=by
   intro m
   induction m with
   | zero=>intro st a w B hm';omega
   | succ m ih =>
    intro st a w B hm' hI hs;refine jQ hT hm x x' _ _ st a w B hx hs (hround st hI) fun e st' a' w' B' hk hs'=>?_
    cases e with
    | normal=>exact ih st' a' w' B' (by have:=hk.2;omega) hk.1 hs'
    | exit id=>exact hQ (.exit id) st' a' w' B' hk hs'
    | ret=>exact hQ .ret st' a' w' B' hk hs'
  exact wp_loop_rounds (μ st+1) (key _ st a w B (Nat.lt_succ_self _) hI hs)
end Go.Mini
namespace Go.Mini
open Go
variable {P:Program} {T:Tab} {A:Nat→Prop} {w0 w:World} {B0 B:Lay} {mem:Mem} {n kb:Nat} {own:List Nat}
theorem Ln {a:Act} {st:St} {r:ResultVar} {mr:nw} {m:MV} (hs:Sim n A w0 B0 a st w B) (htr:vS P r=some mr) (h:Ha st mr=some m) :
  ∃ v,((match r with
   | .tmp t=>pure (a.tmps.getD t undef)
   | .cell b t=>do loadVar t (←asAddr (a.tmps.getD b undef)):Sem Value)).run P w = .ok v w∧VR w (OA A B) B m v:=by
 cases r with
 | tmp t =>
  simp only[vS,Option.some.injEq] at htr;subst htr;simp only[Ha,Option.some.injEq] at h;subst h;exact⟨_,rfl,hs.tm t⟩
 | cell b t =>
  simp only[vS] at htr
  split at htr
  ·rename_i s g hsz hag
   simp only[Option.some.injEq] at htr;subst htr;obtain⟨blk,off,ms,vs,hv,hl,hrl,hat,hr⟩:=zM hs.ok.mr (hs.tm b) h;obtain⟨u,h1,h2⟩:=wV (P:=P) hsz hag hl hrl hat hr;refine⟨u,?_,h2⟩;have:a.tmps.getD b undef = .pointer (some ⟨blk,off,none⟩):=hv;simp only[this,asAddr,Sem.run_bind,Sem.run_pure,Result.andThen_ok];exact h1
  ·cases htr
theorem r6 {a:Act} {st:St} (hs:Sim n A w0 B0 a st w B):∀ {l:List ResultVar} {rs:List nw} {ms:List MV},l.mapM (vS P)=some rs→rs.mapM (Ha st)=some ms →
  ∃ vs:List Value,(l.mapM fun r=>((match r with
   | .tmp t=>pure (a.tmps.getD t undef)
   | .cell b t=>do loadVar t (←asAddr (a.tmps.getD b undef)):Sem Value))).run P w = .ok vs w∧RL w (OA A B) B ms vs
 | [],rs,ms,h1,h2=>by
  simp at h1;subst h1;simp at h2;subst h2;exact⟨[],rfl,RL.nil⟩
 | r::l,rs,ms,h1,h2=>by
  simp only[UR,US,UT,UU,Option.some.injEq] at h1;obtain⟨x,hx,xs,hxs,rfl⟩:=h1;simp only[UR,US,UT,UU,Option.some.injEq] at h2;obtain⟨m,hm,ms',hms,rfl⟩:=h2;obtain⟨v,hv,hr⟩:=Ln hs hx hm;obtain⟨vs,hvs,hrl⟩:=r6 hs hxs hms;refine⟨v::vs,?_,RL.cons hr hrl⟩;simp only[UR,Sem.run_bind,hv,Result.andThen_ok,hvs,Sem.run_pure]
theorem r9 {a:Act} {st:St} {fn:Func} {rs:List nw} {m:MV} (hs:Sim n A w0 B0 a st w B) (htr:fn.results.toList.mapM (vS P)=some rs) (h:gy st rs=some m) :
  ∃ v,(results fn a.tmps).run P w = .ok v w∧VR w (OA A B) B m v:=by
 unfold gy at h
 have main:∀ ms,rs.mapM (Ha st)=some ms→∃ vs:List Value,(results fn a.tmps).run P w = .ok (if h:vs.toArray.size=1 then vs.toArray[0] else .tuple vs.toArray) w∧RL w (OA A B) B ms vs:=by
  intro ms hms;obtain⟨vs,h1,h2⟩:=r6 hs htr hms;refine⟨vs,?_,h2⟩;unfold results;rw[Array.mapM_eq_mapM_toList,map_eq_pure_bind];simp only[Sem.run_bind,Sem.run_pure];have h1':=h1;generalize hq:(List.mapM _ fn.results.toList:Sem (List Value))=q;have:q.run P w = .ok vs w:=by rw[←hq];exact h1'
  rw[this]
  rfl
 split at h
 ·rename_i x hms
  simp only[Option.some.injEq] at h;subst h;obtain⟨vs,h1,h2⟩:=main _ hms;have hl:=h2.1;simp at hl;obtain⟨v,rfl⟩:=List.length_eq_one_iff.1 hl;exact⟨v,h1,h2.2 0 _ v rfl rfl⟩
 ·rename_i ms hne hms
  simp only[Option.some.injEq] at h;subst h;obtain⟨vs,h1,h2⟩:=main _ hms;have hl:=h2.1;refine⟨_,h1,?_⟩
  have:¬ (vs.toArray.size=1):=fun h=>by
   have h':ms.length=1:=by rw[←hl];simpa using h
   obtain⟨x,rfl⟩:=List.length_eq_one_iff.1 h';exact hne x rfl
  rw[dif_neg this];exact .tup hl h2.2
 ·cases h
def Hu (mf:MFunc) (Post:MV→Mem→Prop):bH→St→Prop
 | .exit _,_=>False
 | _,st=>∃ m,gy st mf.res=some m∧Post m st.mem
theorem la (hT:ke P T) (hm:P.follows .mixedOrders=true) {f:FuncId} {fn:Func} {mf:MFunc} (hf:P.funcs[f]?=some fn) (htr:jW P kb own fn=some { mf with body:=erase mf.body }) {args:List MV} (hargs:args.length≤mf.n)
  {Post:MV→Mem→Prop} {K:bH→St→Prop} (hK:∀ e st,K e st→Hu mf Post e st) (h:wp T mf.body K ⟨ax args,mem⟩) {A:Nat→Prop} {w:World} {B:Lay} {vs:List Value} (hmr:MemRel A w B mem) (hv:RL w (OA A B) B args vs) :
  Calls P f vs.toArray w fun e w'=>∃ v m mem' B',e = .returned v∧StepOK A w B w' B' mem'∧VR w' (OA A B') B' m v∧Post m mem':=by
 unfold jW at htr
 split at htr
 ·cases htr
 ·rename_i c hb
  split at htr
  ·rename_i b rs hc hrs
   simp only[Option.some.injEq,MFunc.mk.injEq] at htr;obtain⟨hn,hnp,hres,hbody⟩:=htr;have hsz:vs.length=args.length:=hv.1;refine calls_of_wp hf hb ?_;rw[hbody] at hc;refine jQ hT hm mf.body c K _ ⟨ax args,mem⟩ _ w B hc ⟨.refl hmr,fun s=>?_,?_,rfl⟩ h fun e st a w' B' hk0 hs=>?_
   ·simp only[ax,Act.eval,Array.getD_eq_getD_getElem?]
    rcases Ux s vs.length with hlt | hge
    ·have h1:args[s]?=some args[s]:=UI (by omega)
     have h2:(vs.toArray++Array.replicate (fn.ntmps-vs.toArray.size) undef)[s]?=some vs[s]:=by
      rw[Array.getElem?_append_left (by simpa using hlt)];simp [hlt]
     rw[h1,h2];exact hv.2 s _ _ h1 (UI hlt)
    ·rw[Uy (by omega),Array.getElem?_append_right (by simpa using hge)]
     have:((Array.replicate (fn.ntmps-vs.toArray.size) undef)[s-vs.toArray.size]?).getD undef=undef:=by
      cases hq:(Array.replicate (fn.ntmps-vs.toArray.size) undef)[s-vs.toArray.size]? with
      | none=>rfl
      | some u =>
       have:=Array.mem_of_getElem? hq;simp at this;simp [this.2]
     rw[this];exact .no
   ·simp
    omega
   ·have hk:=hK e st hk0
    cases e with
    | exit id=>cases hk
    | normal =>
     obtain⟨m,hm',hp⟩:=hk;obtain⟨v,hrun,hvr⟩:=r9 hs hrs (by rw[hres];exact hm');exact⟨hs.df,v,hrun,v,m,_,B',rfl,hs.ok,hvr,hp⟩
    | ret =>
     obtain⟨m,hm',hp⟩:=hk;obtain⟨v,hrun,hvr⟩:=r9 hs hrs (by rw[hres];exact hm');exact⟨hs.df,v,hrun,v,m,_,B',rfl,hs.ok,hvr,hp⟩
  ·cases htr
inductive PRes where
 | same (r:Data)
 | own (sz:Nat) (es:List (List Data))
def xP (w:World) (O:Nat→Prop) (ds:List Data) (vs:List Value):Prop:=vs.length=ds.length∧∀ (i:Nat) (d:Data) (v:Value),ds[i]?=some d→vs[i]?=some v→Den w O d v
def OY (w w':World) (O:Nat→Prop):PRes→Value→Prop
 | .same r,v=>Den w' O r v
 | .own sz es,v=>OwnRes w w' O sz es v
structure aO (P:Program) (f:FuncId) (F:List Data→Option PRes):Prop where
 real:Real P f
 run:∀ ds r,F ds=some r→∀ (A:Nat→Prop) (w:World) (vs:List Value),(∀ b,A b→b<w.heap.size)→xP w A ds vs →
  Calls P f vs.toArray w fun e w'=>∃ v,e = .returned v∧Fr (fun _=>False) w w'∧OY w w' A r v
def Nb:PRes→MV→Mem→Prop
 | .same r,m,mem=>∃ d,toD d mem m=some r
 | .own sz es,m,mem=>(m = .nil∧es=[])∨∃ k g len cs ds d,m = .ref k g sz 0 len∧mem k=some (g,cs)∧len*sz≤cs.length∧(cs.take (len*sz)).mapM (toD d (kill mem k))=some ds∧es=chunk sz len ds
def rJ (sz:Nat) (mem:Mem):MV→Option (List (List Data))
 | .nil=>some []
 | .ref k g sz' off len=>if sz'=sz∧off=0 then (match mem k with
  | some (g',cs)=>if g'=g∧len*sz≤cs.length then ((cs.take (len*sz)).mapM (toD 6 (kill mem k))).map (chunk sz len) else none
  | none=>none) else none
 | _=>none
def xF (res:List nw):PRes→St→Prop
 | .same r,st=>(gy st res).bind (toD 6 st.mem)=some r
 | .own sz es,st=>(gy st res).bind (rJ sz st.mem)=some es
def bG (res:List nw) (r:PRes):bH→St→Prop
 | .exit _,_=>False
 | .normal,st=>xF res r st
 | .ret,st=>xF res r st
theorem wx {mf:MFunc} {r:PRes} {st:St} (h:xF mf.res r st):∃ m,gy st mf.res=some m∧Nb r m st.mem:=by
 cases r with
 | same r =>
  simp only[xF,UU] at h;obtain⟨m,h1,h2⟩:=h;exact⟨m,h1,6,h2⟩
 | own sz es =>
  simp only[xF,UU] at h;obtain⟨m,h1,h2⟩:=h;refine⟨m,h1,?_⟩
  cases m<;>simp only[rJ,Option.some.injEq,reduceCtorEq] at h2
  ·exact .inl ⟨rfl,h2.symm⟩
  ·split at h2
   ·rename_i hc
    obtain⟨rfl,rfl⟩:=hc
    split at h2
    ·rename_i g' cs hk
     split at h2
     ·rename_i hg
      obtain⟨rfl,hle⟩:=hg;simp only[UJ] at h2;obtain⟨ds,hds,rfl⟩:=h2;exact .inr ⟨_,_,_,cs,ds,6,rfl,hk,hle,hds,rfl⟩
     ·cases h2
    ·cases h2
   ·cases h2
theorem Gc {mf:MFunc} {r:PRes} {e:bH} {st:St} (h:bG mf.res r e st):Hu mf (Nb r) e st:=by
 cases e with
 | exit id=>exact h
 | normal=>exact wx h
 | ret=>exact wx h
theorem qz (b:Nat):¬ Own (fun _=>none) b:=fun⟨_,_,h,_⟩=>by cases h
theorem J5 (hT : ke P T) (hm : P.follows .mixedOrders = true) {f : FuncId} {fn : Func} {mf : MFunc} (hf : P.funcs[f]? = some fn) (hname : (fn.name == "runtime.NumGoroutine") = false) (htr : jW P kb own fn = some { mf with body := erase mf.body })
  {F:List Data→Option PRes} (h:∀ ds r,F ds=some r→ds.length≤mf.n∧wp T mf.body (bG mf.res r) ⟨ax (ds.map .dat),emp⟩):aO P f F:=by
 refine⟨?_,fun ds r hF A w vs hlt hden=>?_⟩
 ·cases hb:fn.body with
  | none=>simp [jW,hb] at htr
  | some c=>exact⟨fn,c,hf,hb,hname⟩
 ·obtain⟨hlen,hwp⟩:=h ds r hF
  have hmr:MemRel A w (fun _=>none) emp:=⟨fun _ _=>rfl,fun _ _ _ _ _ h=>(by cases h),fun b _ ho=>qz b ho,hlt,fun _ _ _ h=>(by cases h)⟩
  have hO:∀ b,OA A (fun _=>none) b→A b:=fun b h=>h.elim (fun h=>(qz b h).elim) id
  have hrl:RL w (OA A fun _=>none) (fun _=>none) (ds.map .dat) vs:=RL.dat hden.1 fun i d v h1 h2=>(hden.2 i d v h1 h2).less hO
  refine Calls.mono (la hT hm hf htr (by simpa using hlen) (fun e st=>Gc) hwp hmr hrl) fun e w' he=>?_
  obtain⟨v,m,mem',B',rfl,hs,hv,hp⟩:=he;refine⟨v,rfl,⟨hs.fr.os,hs.fr.tape,hs.fr.output,hs.fr.size,fun g hg _=>hs.fr.block g hg (qz g)⟩,?_⟩
  cases r with
  | same r =>
   obtain⟨d,hd⟩:=hp;exact snap hs.mr (fun b hb=>hb) d m v r hd hv
  | own sz es =>
   rcases hp with ⟨rfl,rfl⟩ | ⟨k,g,len,cs,ds',d,rfl,hk,hle,hds,rfl⟩
   ·cases hv
    exact⟨by simp,_,0,rfl,Uu _,UQ _,.inl rfl⟩
   ·obtain⟨h1,h2⟩:=dh hds
    have hdl:ds'.length=len*sz:=by rw[h1,UV];omega
    refine⟨mZ sz len ds' hdl,?_⟩;rw[ku,mS sz len ds' hdl]
    cases hv with
    | ref he hgle hr =>
     obtain⟨e,he',hge,hn,hb⟩:=hs.mr.at_ hk;rw[he'] at he;obtain rfl:=Option.some.inj he;obtain⟨a,cap,rfl,h3,h4,h5⟩:=hr;refine⟨a,cap,rfl,h3,h4,h5.imp id ?_⟩;rintro⟨b,rfl,h6⟩;obtain⟨h7,h8⟩:=h6 hge.symm;obtain⟨vs',T',hh,hz,hle',hrl'⟩:=hb b h7;obtain⟨hmr2,hsh⟩:=Hk hs.mr hk he' h7;refine⟨b,vs',T',rfl,?_,hh,by simpa [hz] using h8,fun i x hx=>?_⟩
     ·rcases hs.fresh b ⟨k,_,he',h7⟩ with h | h
      ·exact (qz b h).elim
      ·exact h
     ·have hlt1:i<ds'.length:=(List.getElem?_eq_some_iff.1 hx).1
      have hlt2:i<cs.length:=by omega
      have hci:(cs.take (len*sz))[i]?=some cs[i]:=by
       rw[UN (by omega)];exact UI hlt2
      have hlt3:i<vs'.size:=by omega
      refine⟨vs'[i],Array.getElem?_eq_getElem hlt3,snap hmr2 (fun b hb=>hb) d _ _ x (h2 i _ x hci hx) (hsh _ _ (hrl'.2 i _ _ (UI hlt2) ?_))⟩;rw[UN hlt2,Array.getElem?_toList];exact Array.getElem?_eq_getElem hlt3
def scalar:Data→Bool
 | .int _ _=>true
 | .bool _=>true
 | .str _=>true
 | .nilp=>true
 | .nilf=>true
 | .sl []=>true
 | .tup ds=>ds.attach.all fun⟨d,_⟩=>scalar d
 | .agg ds=>ds.attach.all fun⟨d,_⟩=>scalar d
 | _=>false
theorem tE {O O':Nat→Prop} {d:Data} {v:Value} (h:scalar d=true) (hd:Den w O d v):Den w O' d v:=by
 induction hd with
 | int=>exact .int
 | bool=>exact .bool
 | str=>exact .str
 | nilp=>exact .nilp
 | nilf=>exact .nilf
 | sl0=>exact .sl0
 | @sl es b off c sz val hl hm hb hO hsz hc hd ih =>
  cases es with
  | nil=>exact .sl0
  | cons=>simp [scalar] at h
 | ptr=>simp [scalar] at h
 | fn=>simp [scalar] at h
 | @agg cs vs hl hd ih =>
  simp only[scalar,UE,UW,true_imp_iff,Subtype.forall] at h;exact .agg hl fun i d v h1 h2=>ih i d v h1 h2 (h d (UX h1))
 | @tup cs vs hl hd ih =>
  simp only[scalar,UE,UW,true_imp_iff,Subtype.forall] at h;exact .tup hl fun i d v h1 h2=>ih i d v h1 h2 (h d (UX h1))
theorem rj {O:Nat→Prop}:∀ (d:Nat) (m:MV) (v:Value) (r:Data),toD d emp m=some r→VR w O B m v→Den w O r v:=by
 intro d
 induction d with
 | zero =>
  intro m v r h hv
  cases m<;>simp only[toD,Option.some.injEq,reduceCtorEq] at h
  ·subst h;cases hv with | dat h=>exact h
  ·subst h;cases hv;exact .sl0
 | succ d ih =>
  intro m v r h hv
  have lists:∀ (cs:List MV) (vs:List Value) (ds:List Data),cs.mapM (toD d emp)=some ds→vs.length=cs.length→(∀ (i:Nat) (x:MV) (u:Value),cs[i]?=some x→vs[i]?=some u→VR w O B x u) →
    vs.length=ds.length∧∀ (i:Nat) (x:Data) (u:Value),ds[i]?=some x→vs[i]?=some u→Den w O x u:=by
   intro cs vs ds hds hl hr;obtain⟨h1,h2⟩:=dh hds;refine⟨by omega,fun i x u hx hu=>?_⟩
   have hlt:i<cs.length:=by have:=(List.getElem?_eq_some_iff.1 hx).1;omega
   have hci:=UI hlt;exact ih _ u x (h2 i _ x hci hx) (hr i _ u hci hu)
  cases m<;>simp only[toD,emp,Option.some.injEq,UJ,reduceCtorEq] at h
  case dat=>subst h;cases hv with | dat h=>exact h
  case nil=>subst h;cases hv;exact .sl0
  case clo f cs =>
   obtain⟨ds,hds,rfl⟩:=h
   cases hv with
   | clo hl hd=>obtain⟨h1,h2⟩:=lists _ _ _ hds hl hd;exact .fn h1 h2
  case agg cs =>
   obtain⟨ds,hds,rfl⟩:=h
   cases hv with
   | agg hl hd=>obtain⟨h1,h2⟩:=lists _ _ _ hds hl hd;exact .agg h1 h2
  case tup cs =>
   obtain⟨ds,hds,rfl⟩:=h
   cases hv with
   | tup hl hd=>obtain⟨h1,h2⟩:=lists _ _ _ hds hl hd;exact .tup h1 h2
def DK:PRes→Eff
 | .same r => .same r
 | .own sz es => .own sz es
def lent:PRes→Option Eff
 | .same r=>if scalar r=true then some (.same r) else none
 | .own sz es=>if (es.all fun e=>e.all scalar)=true then some (.own sz es) else none
def KX (F:List Data→Option PRes):Option (List Data)→Option Eff
 | some ds=>(F ds).bind lent
 | none=>none
def GI (F:List Data→Option PRes):Option (List Data)→Option (List Data)→Option Eff
 | some ds,_=>(F ds).map DK
 | none,x=>KX F x
def mkE (F:List Data→Option PRes) (args:List MV) (mem:Mem):Option Eff:=GI F (args.mapM (toD 6 emp)) (args.mapM (toD 6 mem))
def mkT (PT:FuncId→Option (List Data→Option PRes)):Tab:=fun f args mem=>match PT f with
 | some F=>mkE F args mem
 | none=>none
theorem EO {O:Nat→Prop} {g:MV→Option Data} {args:List MV} {ds:List Data} {vs:List Value} (h:args.mapM g=some ds) (hv:RL w O B args vs) {O':Nat→Prop} (hd:∀ m v r,g m=some r→VR w O B m v→Den w O' r v):xP w O' ds vs:=by
 obtain⟨h1,h2⟩:=dh h;refine⟨by rw[hv.1,h1],fun i d v hd' hv'=>?_⟩
 have hlt:i<args.length:=by have:=(List.getElem?_eq_some_iff.1 hd').1;omega
 have hai:=UI hlt;exact hd _ v d (h2 i _ d hai hd') (hv.2 i _ v hai hv')
theorem IM {PT:FuncId→Option (List Data→Option PRes)} (h:∀ f F,PT f=some F→aO P f F):ke P (mkT PT):=by
 intro f args mem eff hTf;unfold mkT at hTf
 split at hTf
 ·rename_i F hF
  have hspec:=h f F hF;refine⟨hspec.real,fun A w B vs hmr hv=>?_⟩
  unfold mkE at hTf
  cases hds:args.mapM (toD 6 emp) with
  | some ds =>
   rw[hds] at hTf;simp only[GI,UJ] at hTf;obtain⟨r,hr,rfl⟩:=hTf;have hc:=hspec.run ds r hr (OA A B) w vs (fun b hb=>hb.elim (fun h=>hmr.own_lt h) (hmr.lt b)) (EO hds hv fun m v r=>rj 6 m v r)
   cases r with
   | same r=>exact hc
   | own sz es=>exact hc
  | none =>
   rw[hds] at hTf;simp only[GI] at hTf
   cases hds:args.mapM (toD 6 mem) with
   | none=>rw[hds] at hTf;cases hTf
   | some ds =>
    rw[hds] at hTf;simp only[KX,UU] at hTf;obtain⟨r,hr,hl⟩:=hTf;have hc:=hspec.run ds r hr (fun _=>False) w vs (fun b hb=>hb.elim) (EO hds hv fun m v r h hv=>snap hmr (fun b hb=>hb.elim) 6 m v r h hv)
    cases r with
    | same r =>
     simp only[lent] at hl
     split at hl
     ·rename_i hs
      cases hl;exact Calls.mono hc fun e w' ⟨v,he,hfr,hd⟩=>⟨v,he,hfr,tE hs hd⟩
     ·cases hl
    | own sz es =>
     simp only[lent] at hl
     split at hl
     ·rename_i hs
      cases hl;refine Calls.mono hc fun e w' ⟨v,he,hfr,hd⟩=>⟨v,he,hfr,?_⟩
      obtain⟨h1,a,cap,h2,h3,h4,h5⟩:=hd;refine⟨h1,a,cap,h2,h3,h4,h5.imp id ?_⟩;rintro⟨b,vs,T,h6,h7,h8,h9,h10⟩;refine⟨b,vs,T,h6,h7,h8,h9,fun i d hd=>?_⟩
      obtain⟨u,hu,hden⟩:=h10 i d hd;refine⟨u,hu,tE ?_ hden⟩;have hm:=UX hd;rw[List.mem_flatten] at hm;obtain⟨e,he,hde⟩:=hm;rw[UE] at hs;have:=hs e he;rw[UE] at this;exact this d hde
     ·cases hl
 ·cases hTf
end Go.Mini
namespace Go.Mini
open Go
def wB {ι:Type} (T:Tab) (J:ι→St→Prop) (m:ι→Nat) (i:ι) (K:bH→St→Prop) (k:List Todo):bH→St→Prop
 | .normal,st=>∃ i',m i'<m i∧J i' st
 | .exit id,st=>kont T K k (.exit id) st
 | .ret,st=>kont T K k .ret st
@[go_sem] theorem OT {ι:Type} (T:Tab) (J:ι→St→Prop) (m:ι→Nat) (i:ι) (K:bH→St→Prop) (k:List Todo) (id:Nat) (st:St):wB T J m i K k (.exit id) st=kont T K k (.exit id) st:=_root_.id rfl
@[go_sem] theorem P9 {ι:Type} (T:Tab) (J:ι→St→Prop) (m:ι→Nat) (i:ι) (K:bH→St→Prop) (k:List Todo) (st:St):wB T J m i K k .ret st=kont T K k .ret st:=_root_.id rfl
@[go_sem] theorem yd {ι:Type} (T:Tab) (J:ι→St→Prop) (m:ι→Nat) (i:ι) (K:bH→St→Prop) (k:List Todo) (st:St):wB T J m i K k .normal st=∃ i',m i'<m i∧J i' st:=_root_.id rfl
open Classical in
theorem vz {ι:Type} {T:Tab} {K:bH→St→Prop} {k:List Todo} {st:St} {c:MCode} (J:ι→St→Prop) (m:ι→Nat) (i0:ι) (h0:J i0 st) (h:∀ i st,J i st→wp T c (kont T (wB T J m i K k) []) st) :
  wp T (.loop c) (kont T K k) st:=by
 have least:∀ st,(∃ i,J i st)→∃ i,J i st∧∀ j,J j st→m i≤m j:=by
  intro st ⟨i,hi⟩
  have:∀ n i,m i=n→J i st→∃ i,J i st∧∀ j,J j st→m i≤m j:=by
   intro n
   induction n using UC with
   | _ n ih =>
    intro i hn hi
    by_cases hx:∃ j,J j st∧m j<m i
    ·obtain⟨j,hj,hlt⟩:=hx
     exact ih (m j) (by omega) j rfl hj
    ·refine⟨i,hi,fun j hj=>?_⟩
     rcases Ux (m j) (m i) with h' | h'
     ·exact absurd ⟨j,hj,h'⟩ hx
     ·exact h'
  exact this _ i rfl hi
 refine⟨fun st=>∃ i,J i st,fun st=>if hx:∃ i,J i st then m (UY (least st hx)) else 0,⟨i0,h0⟩,fun st hst=>?_⟩
 have hsp:=UZ (least st hst);have:=h _ st hsp.1
 have hk:kont T (wB T J m (UY (least st hst)) K k) []=fun e st'=>match e with
   | .normal=>(∃ i,J i st')∧(if hx:∃ i,J i st' then m (UY (least st' hx)) else 0)<(if hx:∃ i,J i st then m (UY (least st hx)) else 0)
   | e=>kont T K k e st':=by
  funext e st'
  cases e with
  | normal =>
   simp only[Jh,yd];apply propext
   constructor
   ·rintro⟨i',hlt,hj⟩
    have hex:∃ i,J i st':=⟨i',hj⟩;refine⟨hex,?_⟩;rw[dif_pos hex,dif_pos hst];have:=(UZ (least st' hex)).2 i' hj;omega
   ·rintro⟨hex,hlt⟩
    rw[dif_pos hex,dif_pos hst] at hlt;exact⟨_,hlt,(UZ (least st' hex)).1⟩
  | exit id=>rfl
  | ret=>rfl
 rw[hk] at this;exact this
section
variable {F:List Data→Option PRes} {mem:Mem} {st:St} {res:List nw}
@[go_sem] theorem Px (ds:List Data) (x:Option (List Data)):GI F (some ds) x=(F ds).map DK:=_root_.id rfl
@[go_sem] theorem PQ (x:Option (List Data)):GI F none x=KX F x:=_root_.id rfl
@[go_sem] theorem PA (ds:List Data):KX F (some ds)=(F ds).bind lent:=_root_.id rfl
@[go_sem] theorem O4 (r:Data):DK (.same r) = .same r:=_root_.id rfl
@[go_sem] theorem Qk (sz:Nat) (es:List (List Data)):DK (.own sz es) = .own sz es:=_root_.id rfl
@[go_sem] theorem PF (r:Data):lent (.same r)=if scalar r=true then some (.same r) else none:=_root_.id rfl
@[go_sem] theorem sH (n:Nat) (d:Data):toD n mem (.dat d)=some d:=by cases n<;>rfl
@[go_sem] theorem Lf (n:Nat):toD n mem .nil=some (.sl []):=by cases n<;>rfl
@[go_sem] theorem Sv (n:Nat) (cs:List MV):toD (n+1) mem (.agg cs)=(cs.mapM (toD n mem)).map .agg:=_root_.id rfl
@[go_sem] theorem Sh (n:Nat) (cs:List MV):toD (n+1) mem (.tup cs)=(cs.mapM (toD n mem)).map .tup:=_root_.id rfl
@[go_sem] theorem Sf (n:Nat) (f:FuncId) (cs:List MV):toD (n+1) mem (.clo f cs)=(cs.mapM (toD n mem)).map (.fn f):=_root_.id rfl
@[go_sem] theorem PG (r:PRes) (id:Nat):bG res r (.exit id) st=False:=_root_.id rfl
@[go_sem] theorem Ry (r:PRes):bG res r .ret st=xF res r st:=_root_.id rfl
@[go_sem] theorem Nx (r:PRes):bG res r .normal st=xF res r st:=_root_.id rfl
@[go_sem] theorem Pr (r:Data):xF res (.same r) st=((gy st res).bind (toD 6 st.mem)=some r):=_root_.id rfl
@[go_sem] theorem RB (sz:Nat) (es:List (List Data)):xF res (.own sz es) st=((gy st res).bind (rJ sz st.mem)=some es):=_root_.id rfl
end
@[go_sem] theorem Nk (x:Bool):xW (.dat (.bool x)) true=some x:=by cases x<;>rfl
@[go_sem] theorem LY (x:Bool):xW (.dat (.bool x)) false=some (!x):=by cases x<;>rfl
attribute [go_sem] U2 List.map_nil Uv List.getElem?_cons_succ UL List.length_nil U3 List.take_succ_cons U4 U5 Option.map_some Option.map_none U6
 UR U7 US UT U8 List.cons_append List.drop_succ_cons List.drop_nil List.take_nil Bool.not_true Bool.not_false Bool.or_true Bool.true_or Bool.or_false Bool.false_or Bool.and_true Bool.true_and Bool.and_false Bool.false_and List.all_cons List.all_nil true_and and_true UM bne
section
variable {T:Tab} {K:bH→St→Prop} {k:List Todo} {st:St}
theorem qqA {x:Bool} {i:MI} {r:List MI} (h1:x=false→wpG T K k (some true) i r st) (h2:x=true→wpG T K k (some false) i r st):wpG T K k (some (!x)) i r st:=by
 cases x
 ·exact h1 rfl
 ·exact h2 rfl
theorem qqB {x:Bool} {i:MI} {r:List MI} (h1:x=true→wpG T K k (some true) i r st) (h2:x=false→wpG T K k (some false) i r st):wpG T K k (some x) i r st:=by
 cases x
 ·exact h2 rfl
 ·exact h1 rfl
theorem qqE {x:Bool} {n:Nat} {i:MI} {r:List MI} {c:List (List Nat)} {rec:Rec} (h1:x=false→pq T K k n (some true) i r c rec st) (h2:x=true→pq T K k n (some false) i r c rec st):pq T K k n (some (!x)) i r c rec st:=by
 cases x
 ·exact h1 rfl
 ·exact h2 rfl
theorem qqF {x:Bool} {n:Nat} {i:MI} {r:List MI} {c:List (List Nat)} {rec:Rec} (h1:x=true→pq T K k n (some true) i r c rec st) (h2:x=false→pq T K k n (some false) i r c rec st):pq T K k n (some x) i r c rec st:=by
 cases x
 ·exact h2 rfl
 ·exact h1 rfl
theorem qqC {x:Bool} {a b:MCode} (h1:x=false→wpB T K k (.dat (.bool true)) a b st) (h2:x=true→wpB T K k (.dat (.bool false)) a b st):wpB T K k (.dat (.bool (!x))) a b st:=by
 cases x
 ·exact h1 rfl
 ·exact h2 rfl
theorem qqD {x:Bool} {a b:MCode} (h1:x=true→wpB T K k (.dat (.bool true)) a b st) (h2:x=false→wpB T K k (.dat (.bool false)) a b st):wpB T K k (.dat (.bool x)) a b st:=by
 cases x
 ·exact h2 rfl
 ·exact h1 rfl
end
class Spl (G:Prop) (A B:outParam Prop):Prop where
 go:A→B→G
theorem qS {G A B:Prop} [s:Spl G A B] (a:A) (b:B):G:=s.go a b
theorem qI {G:Prop} (h:True→G):G:=h trivial
instance {T K k i r st} {x:Bool}:Spl (wpG T K k (some x) i r st) (x=true→wpG T K k (some true) i r st) (x=false→wpG T K k (some false) i r st):=⟨qqB⟩
instance {T K k i r st} {x:Bool}:Spl (wpG T K k (some (!x)) i r st) (x=false→wpG T K k (some true) i r st) (x=true→wpG T K k (some false) i r st):=⟨qqA⟩
instance {T K k st a b} {x:Bool}:Spl (wpB T K k (.dat (.bool x)) a b st) (x=true→wpB T K k (.dat (.bool true)) a b st) (x=false→wpB T K k (.dat (.bool false)) a b st):=⟨qqD⟩
instance {T K k st a b} {x:Bool}:Spl (wpB T K k (.dat (.bool (!x))) a b st) (x=false→wpB T K k (.dat (.bool true)) a b st) (x=true→wpB T K k (.dat (.bool false)) a b st):=⟨qqC⟩
instance {T K k n i r c rec st} {x:Bool}:Spl (pq T K k n (some x) i r c rec st) (x=true→pq T K k n (some true) i r c rec st) (x=false→pq T K k n (some false) i r c rec st):=⟨qqF⟩
instance {T K k n i r c rec st} {x:Bool}:Spl (pq T K k n (some (!x)) i r c rec st) (x=false→pq T K k n (some true) i r c rec st) (x=true→pq T K k n (some false) i r c rec st):=⟨qqE⟩
attribute [go_sem] reduceIte Nat.reduceEqDiff Nat.reduceAdd Nat.reduceSub Nat.reduceMul Nat.reduceLeDiff reduceCtorEq Nat.reduceLT Nat.reduceBEq Int.reduceEq
def uw {ι:Type} (T:Tab) (ks:List Nat) (km:List Key) (vs:List MV) (ms:List (Option (Nat × List MV))) (J:ι→(Nat→MV)→Mem→Prop) (m:ι→Nat) (i:ι) (K:bH→St→Prop) (k:List Todo):bH→St→Prop
 | .normal,st=>∃ i',m i'<m i∧ks.map st.tm=vs∧km.map st.mem=ms∧J i' st.tm st.mem
 | .exit id,st=>kont T K k (.exit id) st
 | .ret,st=>kont T K k .ret st
section
variable {ι:Type} (T:Tab) (ks:List Nat) (km:List Key) (vs:List MV) (ms:List (Option (Nat × List MV))) (J:ι→(Nat→MV)→Mem→Prop) (m:ι→Nat) (i:ι) (K:bH→St→Prop) (k:List Todo)
@[go_sem] theorem M7 (id:Nat) (st:St):uw T ks km vs ms J m i K k (.exit id) st=kont T K k (.exit id) st:=_root_.id rfl
@[go_sem] theorem O2 (st:St):uw T ks km vs ms J m i K k .ret st=kont T K k .ret st:=_root_.id rfl
@[go_sem] theorem KM (st:St):uw T ks km vs ms J m i K k .normal st=∃ i',m i'<m i∧ks.map st.tm=vs∧km.map st.mem=ms∧J i' st.tm st.mem:=_root_.id rfl
end
theorem ae {ι:Type} {T:Tab} {K:bH→St→Prop} {k:List Todo} {tm0:Nat→MV} {mem0:Mem} {c:MCode} (ks:List Nat) (km:List Key) (J:ι→(Nat→MV)→Mem→Prop) (m:ι→Nat) (i0:ι) (h0:J i0 tm0 mem0)
  (h:∀ vs ms,ks.map tm0=vs→km.map mem0=ms→∀ i tm mem,ks.map tm=vs→km.map mem=ms→J i tm mem→wp T c (kont T (uw T ks km vs ms J m i K k) []) ⟨tm,mem⟩) :
  wp T (.loop c) (kont T K k) ⟨tm0,mem0⟩:=by
 refine vz (fun i st=>ks.map st.tm=ks.map tm0∧km.map st.mem=km.map mem0∧J i st.tm st.mem) m i0 ⟨rfl,rfl,h0⟩ ?_;rintro i ⟨tm,mem⟩ ⟨h1,h2,h3⟩;have:=h _ _ rfl rfl i tm mem h1 h2 h3
 have hk:kont T (uw T ks km (ks.map tm0) (km.map mem0) J m i K k) []=kont T (wB T (fun i (st:St)=>ks.map st.tm=ks.map tm0∧km.map st.mem=km.map mem0∧J i st.tm st.mem) m i K k) []:=by
  funext e st'
  cases e<;>rfl
 rw[hk] at this;exact this
theorem wp_mono {T:Tab}:∀ (c:MCode) (K K':bH→St→Prop),(∀ e st,K e st→K' e st)→∀ st,wp T c K st→wp T c K' st:=by
 intro c
 induction c with
 | skip=>exact fun K K' h st=>h _ _
 | ops l =>
  intro K K' h st hw
  have:∀ (l:List MI) (K K':St→Prop),(∀ st,K st→K' st)→∀ st,wpr T K l st→wpr T K' l st:=by
   intro l
   induction l with
   | nil=>exact fun K K' h st=>h st
   | cons i r ih =>
    intro K K' h st hw;unfold wpr at hw ⊢
    split
    ·rename_i hg
     rw[hg] at hw;exact hw
    ·rename_i g hg
     rw[hg] at hw;simp only at hw ⊢
     split
     ·rename_i hgt
      rw[if_pos hgt] at hw
      have hstep:∀ (K K':St→Prop),(∀ st,K st→K' st)→cQ T K i st→cQ T K' i st:=by
       intro K K' h hw
       have hc:∀ d f args,nt T K st d f args→nt T K' st d f args:=by
        intro d f args hw;unfold nt at hw ⊢
        split
        ·rename_i hh;rw[hh] at hw;exact h _ hw
        ·rename_i hh;rw[hh] at hw;exact h _ hw
        ·rename_i hh;rw[hh] at hw;exact fun r mem' hr=>h _ (hw r mem' hr)
        ·rename_i hh;rw[hh] at hw;exact h _ hw
        ·rename_i hh;rw[hh] at hw;exact hw
       unfold cQ at hw ⊢
       split
       ·rename_i hh;rw[hh] at hw;exact hc _ _ _ hw
       ·rename_i hh;rw[hh] at hw
        simp only at hw
        split
        ·rename_i hh2;rw[hh2] at hw
         simp only at hw
         split
         ·rename_i hs;rw[if_pos hs] at hw;exact h _ hw
         ·rename_i hs;rw[if_neg hs] at hw;exact hw
        ·rename_i hh2
         split at hw
         ·rename_i sz' es hh3;exact (hh2 sz' es hh3).elim
         ·exact hw
       ·rename_i hh;rw[hh] at hw
        simp only at hw
        split
        ·rename_i hh2;rw[hh2] at hw;exact hc _ _ _ hw
        ·rename_i hh2;rw[hh2] at hw;exact hc _ _ _ hw
        ·rename_i hh2 hh3
         split at hw
         ·rename_i hh4;exact (hh2 _ _ hh4).elim
         ·rename_i hh4;exact (hh3 _ _ hh4).elim
         ·exact hw
       ·rename_i hh;rw[hh] at hw
        simp only at hw
        split
        ·rename_i hh2;rw[hh2] at hw;exact fun b hb=>h _ (hw b hb)
        ·rename_i hh2;rw[hh2] at hw;exact hw
       ·rename_i h1 h2 h3 h4
        split at hw
        ·rename_i hh;exact (h1 _ _ hh).elim
        ·rename_i hh;exact (h2 _ _ _ _ hh).elim
        ·rename_i hh;exact (h3 _ _ hh).elim
        ·rename_i hh;exact (h4 _ _ hh).elim
        ·split
         ·rename_i hh;rw[hh] at hw;exact h _ hw
         ·rename_i hh;rw[hh] at hw;exact hw
      exact hstep _ _ (ih _ _ h) hw
     ·rename_i hgt
      rw[if_neg hgt] at hw;exact ih _ _ h _ hw
  exact this l _ _ (fun st=>h .normal st) st hw
 | opsD l c =>
  intro K K' h st hw
  have:∀ (l:List MI) (n:Nat) (cs:List (List Nat)) (rec:Rec) (K K':St→Prop),(∀ st,K st→K' st)→∀ st,tp T K n l cs rec st→tp T K' n l cs rec st:=by
   intro l
   induction l with
   | nil=>exact fun n cs rec K K' h st=>h st
   | cons i r ih =>
    intro n cs rec K K' h st hw;unfold tp at hw ⊢
    split
    ·rename_i hg
     rw[hg] at hw;exact hw
    ·rename_i g hg
     rw[hg] at hw;simp only at hw ⊢
     split
     ·rename_i hgt
      rw[if_pos hgt] at hw
      split
      ·rename_i m e hs
       rw[hs] at hw;exact⟨hw.1,ih _ _ _ _ _ h _ hw.2⟩
      ·rename_i hs
       rw[hs] at hw;exact hw
     ·rename_i hgt
      rw[if_neg hgt] at hw;exact ih _ _ _ _ _ h _ hw
  exact this l 0 c _ _ _ (fun st=>h .normal st) st hw
 | seq a b iha ihb =>
  intro K K' h st hw;refine iha _ _ (fun e st' hh=>?_) st hw
  cases e with
  | normal=>exact ihb _ _ h _ hh
  | exit id=>exact h _ _ hh
  | ret=>exact h _ _ hh
 | cond c a b iha ihb =>
  intro K K' h st hw;unfold wp at hw ⊢
  split
  ·rename_i t hc
   rw[hc] at hw;simp only at hw
   split
   ·rename_i ht
    rw[if_pos ht] at hw;exact iha _ _ h _ hw
   ·rename_i ht
    rw[if_neg ht] at hw;exact ihb _ _ h _ hw
  ·rename_i hx
   split at hw
   ·rename_i hc
    exact (hx _ hc).elim
   ·exact hw
 | block id c ih =>
  intro K K' h st hw;refine ih _ _ (fun e st' hh=>?_) st hw
  cases e with
  | normal=>exact h _ _ hh
  | exit j =>
   simp only at hh ⊢
   split
   ·rename_i hj
    rw[if_pos hj] at hh;exact h _ _ hh
   ·rename_i hj
    rw[if_neg hj] at hh;exact h _ _ hh
  | ret=>exact h _ _ hh
 | loop c ih =>
  intro K K' h st hw;obtain⟨I,μ,h0,hI⟩:=hw;refine⟨I,μ,h0,fun st hst=>ih _ _ (fun e st' hh=>?_) _ (hI st hst)⟩
  cases e with
  | normal=>exact hh
  | exit id=>exact h _ _ hh
  | ret=>exact h _ _ hh
 | exit id=>exact fun K K' h st=>h _ _
 | ret=>exact fun K K' h st=>h _ _
 | ghost g c ih =>
  intro K K' h st hw
  have:∀ (K K':St→Prop),(∀ st,K st→K' st)→dP K st g→dP K' st g:=by
   intro K K' h hw;unfold dP at hw
   repeat' split at hw
   all_goals first
    | exact hw.elim
    | exact⟨hw.choose,hw.choose_spec.1,h _ hw.choose_spec.2⟩
    | (
      rcases hw with hw | ⟨kx,gx,cx,i,k,g,sz,off,len,cs,k',h1,h2,h3,h4,h5,h6,hw⟩ | ⟨kx,gx,cx,i,k,g,sz,off,len,cs,d,h1,h2,h3,h4,h5,h6,hw⟩
      ·exact .inl (h _ hw)
      ·exact .inr (.inl ⟨kx,gx,cx,i,k,g,sz,off,len,cs,k',h1,h2,h3,h4,h5,h6,h _ hw⟩)
      ·exact .inr (.inr ⟨kx,gx,cx,i,k,g,sz,off,len,cs,d,h1,h2,h3,h4,h5,h6,h _ hw⟩))
    | (
      have h':=h _ hw;clear hw h;unfold dP
      simp_all)
  exact this _ _ (ih _ _ h) hw
def wq (T:Tab) (K:bH→St→Prop) (k:List Todo) (Q:St→Prop):bH→St→Prop
 | .normal,st=>Q st
 | .exit id,st=>kont T K k (.exit id) st
 | .ret,st=>kont T K k .ret st
@[go_sem] theorem Mb {T:Tab} {K:bH→St→Prop} {k:List Todo} {Q:St→Prop} (st:St):wq T K k Q .normal st=Q st:=_root_.id rfl
@[go_sem] theorem OJ {T:Tab} {K:bH→St→Prop} {k:List Todo} {Q:St→Prop} (id:Nat) (st:St):wq T K k Q (.exit id) st=kont T K k (.exit id) st:=_root_.id rfl
@[go_sem] theorem PH {T:Tab} {K:bH→St→Prop} {k:List Todo} {Q:St→Prop} (st:St):wq T K k Q .ret st=kont T K k .ret st:=_root_.id rfl
theorem DO {T:Tab} {K:bH→St→Prop} {k:List Todo} {c a:MCode} {st:St} (Q:St→Prop) (ha:wp T a (kont T (wq T K k Q) []) st) (hc:∀ st',Q st'→wp T c (kont T K k) st'):wp T a (kont T K (.code c::k)) st:=by
 refine wp_mono a _ _ (fun e st' hh=>?_) st ha
 cases e with
 | normal=>exact hc st' hh
 | exit id=>exact hh
 | ret=>exact hh
theorem HH {T:Tab} {K:bH→St→Prop} {k:List Todo} {x:Bool} {c a b:MCode} {st:St} (Q:St→Prop) (ha:x=true→wp T a (kont T (wq T K k Q) []) st) (hb:x=false→wp T b (kont T (wq T K k Q) []) st)
  (hc:∀ st',Q st'→wp T c (kont T K k) st'):wpB T K (.code c::k) (.dat (.bool x)) a b st:=by
 cases x
 ·rw[GW];exact DO Q (hb rfl) hc
 ·rw[H9];exact DO Q (ha rfl) hc
attribute [go_sem] beq_true beq_false Bool.true_beq Bool.false_beq U9 List.flatten_nil Va List.headD_cons List.headD_nil List.tail_cons List.tail_nil List.contains_nil List.contains_cons Bool.not_eq_true'
section
variable {T:Tab} {K:bH→St→Prop} {k:List Todo} {st:St}
@[go_sem] theorem QE (g:Ghost) (c:MCode):wp T (.ghost g c) (kont T K k) st=dP (wp T c (kont T K k)) st g:=_root_.id rfl
def N9 (K:St→Prop) (st:St) (s k sz:Nat):MV→Prop
 | .nil=>K ⟨upd st.tm s (.ref k (aD st.mem k) sz 0 0),aA st.mem k (aD st.mem k) []⟩
 | _=>False
@[go_sem] theorem LN (K:St→Prop) (s k sz:Nat):dP K st (.adopt s k sz)=N9 K st s k sz (st.tm s):=by
 unfold dP N9;rfl
@[go_sem] theorem QF (K:St→Prop) (s k sz:Nat):N9 K st s k sz .nil=K ⟨upd st.tm s (.ref k (aD st.mem k) sz 0 0),aA st.mem k (aD st.mem k) []⟩:=_root_.id rfl
end
section
variable {K:St→Prop} {st:St}
theorem BB (kx i k k':Nat) {gx:Nat} {cx:List MV} {g sz off len:Nat} {cs:List MV} (h1:st.mem kx=some (gx,cx)) (h2:cx[i]?=some (.ref k g sz off len)) (h3:st.mem k=some (g,cs)) (h4:k≠kx) (h5:k'≠k) (h6:k'≠kx)
  (h:K ⟨st.tm,aA (aA (aA st.mem k (aD st.mem k) []) k' (aD st.mem k') cs) kx gx (cx.set i (.ref k' (aD st.mem k') sz off len))⟩):dP K st .move :=
 .inr (.inl ⟨kx,gx,cx,i,k,g,sz,off,len,cs,k',h1,h2,h3,h4,h5,h6,h⟩)
def Bx (K:St→Prop) (st:St) (s k g sz off len:Nat):Option (Nat × List MV)→Prop
 | some (g',cs)=>if g'=g∧lI cs=true then (match cut cs off (len*sz) with
  | some part=>(match part.mapM (toD 0 st.mem) with
   | some ds=>K ⟨upd st.tm s (.dat (.sl (chunk sz len ds))),kill st.mem k⟩
   | none=>False)
  | none=>False) else False
 | none=>False
def ON (K:St→Prop) (st:St) (s:Nat):MV→Prop
 | .ref k g sz off len=>Bx K st s k g sz off len (st.mem k)
 | _=>False
@[go_sem] theorem KH (s:Nat):dP K st (.freeze s)=ON K st s (st.tm s):=by
 unfold dP ON;dsimp only
 cases hm:st.tm s with
 | ref k g sz off len=>?_
 | _=>rfl
 dsimp only;unfold Bx
 cases hk:st.mem k with
 | none=>rfl
 | some x =>
  obtain⟨g',cs⟩:=x;simp only
  by_cases hc:g'=g∧lI cs=true
  ·rw[if_pos hc,if_pos hc]
   unfold toD;rw[hk];simp only[hc.1,if_true]
   cases hcut:cut cs off (len*sz) with
   | none=>rfl
   | some part =>
    simp only
    cases hp:part.mapM (toD 0 st.mem)<;>rfl
  ·rw[if_neg hc,if_neg hc]
@[go_sem] theorem Ri (s k g sz off len:Nat):ON K st s (.ref k g sz off len)=Bx K st s k g sz off len (st.mem k):=_root_.id rfl
@[go_sem] theorem Sz (mem:Mem) (k:Key):kill mem k=aA mem k (aD mem k) []:=_root_.id rfl
end
open Classical in
noncomputable def FF {α:Type} (argE:α→List Data) (f:α→Option PRes):List Data→Option PRes:=fun ds=>if h:∃ a,argE a=ds then f (UY h) else none
theorem aV {α:Type} {argE:α→List Data} {f:α→Option PRes} (inj:∀ a b,argE a=argE b→a=b) (a:α):FF argE f (argE a)=f a:=by
 have h:∃ b,argE b=argE a:=⟨a,rfl⟩;unfold FF;rw[dif_pos h,inj _ _ (UZ h)]
theorem Pn {α:Type} {argE:α→List Data} {f:α→Option PRes} {ds:List Data} {r:PRes} (h:FF argE f ds=some r):∃ a,ds=argE a∧f a=some r:=by
 unfold FF at h
 split at h
 ·rename_i hx
  exact⟨_,(UZ hx).symm,h⟩
 ·cases h
open Classical in
noncomputable def aG (c:Prop) (r:PRes):Option PRes:=if c then some r else none
theorem an {c:Prop} (h:c) (r:PRes):aG c r=some r:=by unfold aG;rw[if_pos h]
theorem ao {c:Prop} {r r':PRes} (h:aG c r=some r'):c∧r'=r:=by
 unfold aG at h
 split at h
 ·cases h;exact⟨‹_›,rfl⟩
 ·cases h
@[go_sem] theorem SY (F:List Data→Option PRes) (args:List MV) (mem:Mem):mkE F args mem=GI F (args.mapM (toD 6 emp)) (args.mapM (toD 6 mem)):=_root_.id rfl
theorem af {α β:Type} {f:α→β} (h:∀ a b,f a=f b→a=b):∀ (l l':List α),l.map f=l'.map f→l=l':=by
 intro l
 induction l with
 | nil=>intro l' e;cases l'<;>simp_all
 | cons a r ih =>
  intro l' e
  cases l' with
  | nil=>simp at e
  | cons b r' =>
   simp only[U2,List.cons.injEq] at e;rw[h _ _ e.1,ih _ e.2]
def PTl (l:List (FuncId × (List Data→Option PRes))):FuncId→Option (List Data→Option PRes):=fun f=>(l.find? fun p=>p.1==f).map (·.2)
theorem aC {P:Program} {l:List (FuncId × (List Data→Option PRes))} (h:∀ p∈l,aO P p.1 p.2):∀ f F,PTl l f=some F→aO P f F:=by
 intro f F hf;unfold PTl at hf;rw[UJ] at hf;obtain⟨p,hp,rfl⟩:=hf;have h1:=List.mem_of_find?_eq_some hp;have h2:=List.find?_some hp;have h3:p.1=f:=by simpa using h2
 exact h3 ▸ h p h1
theorem au {P:Program}:∀ p∈([]:List (FuncId × (List Data→Option PRes))),aO P p.1 p.2:=by simp
theorem ac {P:Program} {f:FuncId} {F:List Data→Option PRes} {l:List (FuncId × (List Data→Option PRes))} (h:aO P f F) (hl:∀ p∈l,aO P p.1 p.2):∀ p∈(f,F)::l,aO P p.1 p.2:=by
 intro p hp;rcases List.mem_cons.1 hp with rfl | hp
 ·exact h
 ·exact hl p hp
theorem Kx {PT:FuncId→Option (List Data→Option PRes)} {f:FuncId} {F:List Data→Option PRes} (h:PT f=some F):mkT PT f=mkE F:=by
 funext args mem
 unfold mkT;rw[h]
@[go_sem] theorem R5 (mem:Mem) (k:Key) (z:List MV) (b m:Nat) (new:List MV):pt mem k z b .nil (some (m,new)) =
  if m*b≤140737488355328∧m≤maxLen∧new.all MV.one=true then some (.ref k (aD mem k) z.length 0 m,some (k,aD mem k,new)) else none:=_root_.id rfl
@[go_sem] theorem Ro (mem:Mem) (k k':Key) (z:List MV) (g sz b len m:Nat) (new:List MV):pt mem k z b (.ref k' g sz 0 len) (some (m,new)) =
  if sz=z.length then lg k' g sz len b m new (mem k') else none:=by
 unfold pt;simp
def ay {α:Type} (enc:α→List Data) (l:List α):List MV:=(l.map enc).flatten.map .dat
section
variable {α:Type} {enc:α→List Data} {sz:Nat}
theorem Jp:ay enc []=[]:=rfl
theorem fR (a:α) (l:List α):ay enc (a::l)=(enc a).map .dat++ay enc l:=by simp [ay]
theorem n7 (a b:List α):ay enc (a++b)=ay enc a++ay enc b:=by simp [ay]
theorem dx (h:∀ a,(enc a).length=sz) (l:List α):(ay enc l).length=l.length*sz:=by
 induction l with
 | nil=>simp [ay]
 | cons a r ih=>rw[fR,Uz,ih,Vb,h,UL,Nat.add_mul,Nat.one_mul,UB]
theorem Ee (h:∀ a,(enc a).length=sz) {l:List α} {i:Nat} {a:α} (hi:l[i]?=some a):∃ p q,ay enc l=p++((enc a).map .dat++q)∧p.length=i*sz∧∀ b,ay enc (l.set i b)=p++((enc b).map .dat++q):=by
 have hlt:=(List.getElem?_eq_some_iff.1 hi).1;have hla:l[i]=a:=(List.getElem?_eq_some_iff.1 hi).2
 have e:l=l.take i++a::l.drop (i+1):=by
  rw[←hla,←Vc hlt,Vd]
 refine⟨ay enc (l.take i),ay enc (l.drop (i+1)),?_,?_,fun b=>?_⟩
 ·conv=>lhs;rw[e]
  rw[n7,fR]
 ·rw[dx h,UV];congr 1;omega
 ·rw[List.set_eq_take_append_cons_drop,if_pos hlt,n7,fR]
theorem tl (h:∀ a,(enc a).length=sz) {l:List α} {i:Nat} {a:α} (hi:l[i]?=some a) {f n:Nat} (hf:f+n≤sz):cut (ay enc l) (i*sz+f) n=some ((((enc a).map .dat).drop f).take n):=by
 obtain⟨p,q,e,hp,-⟩:=Ee h hi;have ha:=h a;unfold cut;rw[e,if_pos (by simp only[Uz,Vb];omega),←hp];rw[Ve,Vf (by omega)];rw[show p.length+f-p.length=f by omega,U8,Ve,List.take_append]
 have:n-(((enc a).map MV.dat).drop f).length=0:=by simp only[UP,Vb];omega
 rw[this,U4,Va]
theorem zi (h:∀ a,(enc a).length=sz) {l:List α} {i:Nat} (hi:i<l.length) (b:α):splice (ay enc l) (i*sz) ((enc b).map .dat)=ay enc (l.set i b):=by
 obtain⟨p,q,e,hp,hs⟩:=Ee h (UI hi);rw[hs b,e];have ha:=h l[i];have hb:=h b;unfold splice;rw[←hp,Vg,List.append_assoc]
 congr 2
 rw[Ve,Vf (by omega),U8,Vb,show p.length+(enc b).length-p.length=(enc b).length by omega,hb,←ha,←Vb (f:=MV.dat),Vh]
theorem JL (ho:∀ a,((enc a).map MV.dat).all MV.one=true) (l:List α):(ay enc l).all MV.one=true:=by
 induction l with
 | nil=>rfl
 | cons a r ih=>rw[fR,List.all_append,ho,ih];rfl
theorem me (h:∀ a,(enc a).length=sz) (ho:∀ a,((enc a).map MV.dat).all MV.one=true) (k g b:Nat) (l new:List α) (hb:(l.length+new.length)*b≤140737488355328) (hm:l.length+new.length≤1000000000) :
  lg k g sz l.length b new.length (ay enc new) (some (g,ay enc l))=some (.ref k (g+1) sz 0 (l.length+new.length),some (k,g+1,ay enc (l++new))):=by
 unfold lg;have hm':l.length+new.length≤maxLen:=Nat.le_trans hm (by decide);dsimp only;rw[if_pos ⟨rfl,by rw[dx h];exact Uu _,hb,hm',JL ho new⟩,n7,Vi (by rw[dx h];exact Uu _)]
theorem dk (h:∀ a,(enc a).length=sz) (ho:∀ a,((enc a).map MV.dat).all MV.one=true) (k g b:Nat) (l:List α) (a:α) {cs:List MV} (hc:cs=(enc a).map .dat) (hb:(l.length+1)*b≤140737488355328) (hm:l.length+1≤1000000000) :
  lg k g sz l.length b 1 cs (some (g,ay enc l))=some (.ref k (g+1) sz 0 (l.length+1),some (k,g+1,ay enc (l++[a]))):=by
 have:=me h ho k g b l [a] hb hm;rw[hc];rw[fR,Jp,Va] at this;exact this
theorem mj (f:MV→Option Data) (hf:∀ d,f (.dat d)=some d) (l:List Data):(l.map MV.dat).mapM f=some l:=by
 induction l with
 | nil=>rfl
 | cons a r ih=>simp [hf,ih]
theorem jd:∀ (l:List (List Data)),(∀ e∈l,e.length=sz)→chunk sz l.length l.flatten=l:=by
 intro l
 induction l with
 | nil=>intro _;rfl
 | cons e r ih =>
  intro h;have he:=h e (by simp);rw[UL,U9,chunk];rw[←he,Vg,Vh,he,ih fun x hx=>h x (by simp [hx])]
theorem eG (h:∀ a,(enc a).length=sz) {n k g:Nat} {mem:Mem} {l:List α} (hm:mem k=some (g,ay enc l)):toD (n+1) mem (.ref k g sz 0 l.length)=some (.sl (l.map enc)):=by
 unfold toD;rw[hm];simp only[if_true];unfold cut;rw[U6,dx h,if_pos (Uu _)];simp only[U3];rw[Vi (by rw[dx h];exact Uu _)];unfold ay;rw[mj _ fun d=>by cases n<;>rfl]
 have:=jd (sz:=sz) (l.map enc) (by simpa using fun a _=>h a);rw[Vb] at this;simp [this]
end
theorem uh {α:Type} (enc:α→List Data) (l:List α):lI (ay enc l)=true:=by
 unfold lI ay;rw[UE];intro m hm;rw[Vj] at hm;obtain⟨d,_,rfl⟩:=hm
 rfl
theorem bO {α:Type} {enc:α→List Data} {sz:Nat} (h:∀ a,(enc a).length=sz) {K:St→Prop} {st:St} (s k g:Nat) (l:List α) :
  Bx K st s k g sz 0 l.length (some (g,ay enc l))=K ⟨upd st.tm s (.dat (.sl (l.map enc))),kill st.mem k⟩:=by
 have hr:=eG (n:=0) h (mem:=aA st.mem k g (ay enc l)) (k:=k) (g:=g) (l:=l) (by simp [aA]);unfold Bx;dsimp only;rw[if_pos ⟨rfl,uh enc l⟩];unfold cut;rw[U6,dx h,if_pos (Uu _)];dsimp only;rw[U3,Vi (by rw[dx h];exact Uu _)];unfold ay;rw[mj _ fun d=>rfl]
 dsimp only;have:=jd (sz:=sz) (l.map enc) (by simpa using fun a _=>h a);rw[Vb] at this;rw[this]
theorem aj (x:Int) (h1:-9223372036854775808≤x) (h2:x≤9223372036854775807):IntKind.i64.wrap x=x:=by
 rw[IntKind.wrap_i64];omega
theorem D0 {α:Type} (l:List α) (i:Int) (h0:0≤i) (h:i<l.length):∃ x,l[i.toNat]?=some x∧l.drop i.toNat=x::l.drop (i+1).toNat∧l.take (i+1).toNat=l.take i.toNat++[x]:=by
 have hlt:i.toNat<l.length:=by omega
 have e:(i+1).toNat=i.toNat+1:=by omega
 refine⟨l[i.toNat],UI hlt,?_,?_⟩
 ·rw[e];exact Vc hlt
 ·rw[e];rw[List.take_add_one,UI hlt];rfl
end Go.Mini
namespace Go.Mini
open Go Go.ChangeShapes Go.WideShapes
inductive Sch where
 | int (k:IntKind)
 | bool
 | str
 | sl (e:Sch)
 | st (l:List Sch)
mutual
def Fit:Sch→List Data→Prop
 | .int k,ds=>∃ n,ds=[.int k n]∧(Lit.int k n).wf=true
 | .bool,ds=>∃ b,ds=[.bool b]
 | .str,ds=>∃ s,ds=[.str s]∧s.length≤maxLen
 | .sl e,ds=>∃ es,ds=[.sl es]∧es.length≤maxLen∧∀ x∈es,Fit e x
 | .st l,ds=>Fits l ds
def Fits:List Sch→List Data→Prop
 | [],ds=>ds=[]
 | s::r,ds=>∃ a b,ds=a++b∧Fit s a∧Fits r b
end
def tiles (P:Program):Nat→List Field→Nat→Bool
 | off,[],tot=>off==tot
 | off,f::r,tot=>f.offset==off&&tiles P (off+P.cellsOf f.type) r tot
def tK (g:TypeId→Option Sch):List Field→Option (List Sch)
 | []=>some []
 | f::r=>match g f.type,tK g r with
  | some s,some l=>some (s::l)
  | _,_=>none
def ln (P:Program):Nat→TypeId→Option Sch
 | 0,_=>none
 | n+1,t=>match P.underlying t with
  | some .bool=>some .bool
  | some (.int k)=>some (.int k)
  | some .string=>some .str
  | some (.slice e)=>if 0<P.cellsOf e then (ln P n e).map .sl else none
  | some (.struct fs)=>if tiles P 0 fs.toList (P.cellsOf t)=true then (tK (ln P n) fs.toList).map .st else none
  | _=>none
section
variable {H:Type} {enc:TypeId × Value→H} {P:Program} {w:World} {base:Nat}
def Rd (enc:TypeId × Value→H) (P:Program) (w:World) (base:Nat) (S:Sch) (fuel:Nat) (t:TypeId) (cs:List Value) (x:DataW H × List MemPlace):Prop :=
 (∃ ds,Fit S ds∧xP w (fun _=>False) ds cs)∧(∀ p∈x.2,p.block<w.heap.size) ∧
 ∀ (w':World) (sp:Nat→Bool),(∀ p∈x.2,sp p.block=true)→(∀ b,b<w.heap.size→w'.heap[b]?=w.heap[b]?)→DataW.trod enc P w' base sp true fuel t cs=some x
theorem ny {O:Nat→Prop} {d:Data} {v:Value} (h:Den w O d v):xP w O [d] [v]:=by
 refine⟨rfl,fun i d' v' h1 h2=>?_⟩
 cases i with
 | zero=>cases h1;cases h2;exact h
 | succ i=>simp at h1
theorem vQ (a:Addr) (i:Nat):(a.add i).block=a.block:=by
 unfold Addr.add
 split<;>rfl
theorem xh (b off i:Nat):(Addr.add ⟨b,off,none⟩ i)=⟨b,off+i,none⟩:=by
 unfold Addr.add
 split
 ·rename_i h;subst h;rfl
 ·rfl
theorem tk {w':World} {a:Addr} {n:Nat} {cs:List Value} (h:w.cells? base a n=some cs) (hk:∀ b,b<w.heap.size→w'.heap[b]?=w.heap[b]?):w'.cells? base a n=some cs:=by
 unfold World.cells? at h ⊢
 split at h
 ·rename_i hb
  rw[if_pos hb,←h]
  by_cases hlt:a.block<w.heap.size
  ·have he:(fun i=>w'.cell? (a.add i))=fun i=>w.cell? (a.add i):=by
    funext i
    exact World.cell?_of_block (a:=a.add i) (hk _ (by rw[vQ];exact hlt))
   rw[he]
  ·cases n with
   | zero=>rfl
   | succ n =>
    exfalso
    have:w.cell? (a.add 0)=none:=by
     unfold World.cell?;have:w.heap[(a.add 0).block]?=none:=Array.getElem?_eq_none (by rw[vQ];omega);rw[this]
    rw[List.range_succ_eq_map,UR,this] at h
    cases h
 ·cases h
theorem rI {a:Addr} {n:Nat} {cs:List Value} (h:w.cells? base a n=some cs):cs.length=n∧∀ i,i<n→∃ v,cs[i]?=some v∧w.cell? (a.add i)=some v:=by
 unfold World.cells? at h
 split at h
 ·obtain⟨h1,h2⟩:=dh h
  rw[Vk] at h1;refine⟨h1,fun i hi=>?_⟩
  have hc:=UI (l:=cs) (i:=i) (by omega);exact⟨_,hc,h2 i i _ (by simp [hi]) hc⟩
 ·cases h
theorem Mq {a:Addr} {v:Value} (h:w.cell? a=some v):a.block<w.heap.size∧a.spot=none:=by
 unfold World.cell? at h
 split at h
 ·rename_i hb
  refine⟨(Array.getElem?_eq_some_iff.1 hb).1,?_⟩
  cases hs:a.spot with
  | none=>rfl
  | some x=>rw[hs] at h;simp at h
 ·cases h
theorem u7 {α β:Type} {f g:α→Option β}:∀ {l:List α},(∀ x∈l,f x=g x)→l.mapM f=l.mapM g:=by
 intro l
 induction l with
 | nil=>intro _;rfl
 | cons a r ih =>
  intro h;rw[UR,UR,h a (by simp),ih fun x hx=>h x (by simp [hx])]
theorem Az {β:Type} (len:Nat) (Q:Nat→β→Prop) (h:∀ i,i<len→∃ y,Q i y):∃ l:List β,l.length=len∧∀ i y,l[i]?=some y→Q i y:=by
 induction len with
 | zero=>exact⟨[],rfl,fun i y h=>by simp at h⟩
 | succ n ih =>
  obtain⟨l,h1,h2⟩:=ih fun i hi=>h i (by omega)
  obtain⟨y,hy⟩:=h n (by omega);refine⟨l++[y],by simp [h1],fun i z hz=>?_⟩
  rw[Vm] at hz
  split at hz
  ·exact h2 i z hz
  ·rename_i hlt
   have:i-l.length=0:=by
    have:=(List.getElem?_eq_some_iff.1 hz).1;simp at this;omega
   rw[this] at hz
   cases hz;have:i=n:=by omega
   subst this;exact hy
theorem CV {β:Type} {sz:Nat}:∀ (es:List (List β)),(∀ e∈es,e.length=sz)→0<sz→∀ (i:Nat) (d:β),es.flatten[i]?=some d→∃ e,es[i / sz]?=some e∧e[i % sz]?=some d:=by
 intro es
 induction es with
 | nil=>intro _ _ i d h;simp at h
 | cons e r ih =>
  intro h hz i d hd;have he:=h e (by simp);rw[U9,Vm] at hd
  split at hd
  ·rename_i hlt
   rw[he] at hlt;refine⟨e,by rw[Nat.div_eq_of_lt hlt];rfl,by rw[Nat.mod_eq_of_lt hlt];exact hd⟩
  ·rename_i hge
   rw[he] at hd hge;obtain⟨x,h1,h2⟩:=ih (fun y hy=>h y (by simp [hy])) hz _ d hd;have hi:i=(i-sz)+sz:=by omega
   refine⟨x,?_,?_⟩
   ·rw[hi,Nat.add_div_right _ hz]
    simpa using h1
   ·rw[hi,Nat.add_mod_right]
    exact h2
theorem zn {n fuel:Nat} (ih:∀ t S,ln P n t=some S→∀ (cs:List Value) (x:DataW H × List MemPlace),DataW.trod enc P w base (fun _=>true) true fuel t cs=some x→Rd enc P w base S fuel t cs x) (cs:List Value) :
  ∀ (fs:List Field) (off:Nat) (l:List Sch) (xs:List (DataW H × List MemPlace)),tK (ln P n) fs=some l→tiles P off fs cs.length=true →
   fs.mapM (fun f=>DataW.trod enc P w base (fun _=>true) true fuel f.type ((cs.drop f.offset).take (P.cellsOf f.type)))=some xs →
   (∃ ds,Fits l ds∧xP w (fun _=>False) ds (cs.drop off))∧(∀ p∈xs.flatMap (·.2),p.block<w.heap.size) ∧
   ∀ (w':World) (sp:Nat→Bool),(∀ p∈xs.flatMap (·.2),sp p.block=true)→(∀ b,b<w.heap.size→w'.heap[b]?=w.heap[b]?) →
    fs.mapM (fun f=>DataW.trod enc P w' base sp true fuel f.type ((cs.drop f.offset).take (P.cellsOf f.type)))=some xs:=by
 intro fs
 induction fs with
 | nil =>
  intro off l xs hl ht hx;simp only[tK,Option.some.injEq] at hl;subst hl;simp only[tiles,beq_iff_eq] at ht;simp only[U7,US,Option.some.injEq] at hx;subst hx;refine⟨⟨[],rfl,?_⟩,by simp,fun _ _ _ _=>rfl⟩
  rw[ht,List.drop_length];exact⟨rfl,fun i d v h=>by simp at h⟩
 | cons f r ihf =>
  intro off l xs hl ht hx;unfold tK at hl
  split at hl
  ·rename_i s l' hs hl'
   cases hl;simp only[tiles,UD,beq_iff_eq] at ht;obtain⟨hoff,ht⟩:=ht;rw[UR] at hx;simp only[US,UT,UU,Option.some.injEq] at hx;obtain⟨x,hx1,ys,hys,rfl⟩:=hx;obtain⟨⟨da,ha1,ha2⟩,ha3,ha4⟩:=ih _ _ hs _ _ hx1;obtain⟨⟨db,hb1,hb2⟩,hb3,hb4⟩:=ihf _ _ _ hl' ht hys;refine⟨⟨da++db,⟨da,db,rfl,ha1,hb1⟩,?_⟩,?_,?_⟩
   ·have hsplit:cs.drop off=(cs.drop off).take (P.cellsOf f.type)++cs.drop (off+P.cellsOf f.type):=by
     rw[←UH,Vd]
    rw[hoff] at ha2;rw[hsplit];refine⟨by rw[Uz,Uz,ha2.1,hb2.1],fun i d v h1 h2=>?_⟩
    rw[Vm] at h1 h2;have hlen:=ha2.1
    by_cases hlt:i<da.length
    ·rw[if_pos hlt] at h1
     rw[if_pos (by omega)] at h2;exact ha2.2 i d v h1 h2
    ·rw[if_neg hlt] at h1
     rw[if_neg (by omega),hlen] at h2;exact hb2.2 _ d v h1 h2
   ·intro p hp
    rw[Vo,Vp] at hp;exact hp.elim (ha3 p) (hb3 p)
   ·intro w' sp hsp hk
    rw[UR,ha4 w' sp (fun p hp=>hsp p (by rw[Vo,Vp];exact .inl hp)) hk];have:=hb4 w' sp (fun p hp=>hsp p (by rw[Vo,Vp];exact .inr hp)) hk;simp only[US,UT,U5];rw[this]
    rfl
  ·cases hl
theorem I6:∀ (n:Nat) (t:TypeId) (S:Sch),ln P n t=some S→∀ (fuel:Nat) (cs:List Value) (x:DataW H × List MemPlace),DataW.trod enc P w base (fun _=>true) true fuel t cs=some x→Rd enc P w base S fuel t cs x:=by
 intro n
 induction n with
 | zero=>intro t S h;simp [ln] at h
 | succ n ih =>
  intro t S hS fuel cs x hx
  cases fuel with
  | zero=>cases hx
  | succ fuel =>
   unfold ln at hS
   split at hS
   ·-- bool
    rename_i hu
    cases hS
    have key:∀ (w':World) (sp:Nat→Bool) (cs:List Value),DataW.trod enc P w' base sp true (fuel+1) t cs=match cs with | [.bool b]=>some (.lit (.bool b),[]) | _=>none:=by
     intro w' sp cs;unfold DataW.trod;rw[hu];clear hx
     split<;>simp_all
    rw[key] at hx
    split at hx
    ·cases hx
     exact⟨⟨_,⟨_,rfl⟩,ny .bool⟩,by simp,fun w' sp _ _=>by rw[key]⟩
    ·cases hx
   ·-- int
    rename_i k hu
    cases hS
    have key:∀ (w':World) (sp:Nat→Bool) (cs:List Value),DataW.trod enc P w' base sp true (fuel+1) t cs=match cs with | [.int k' n]=>if k'=k∧(Lit.int k n).wf=true then some (.lit (.int k n),[]) else none | _=>none:=by
     intro w' sp cs;unfold DataW.trod;rw[hu];clear hx
     split<;>simp_all
    rw[key] at hx
    split at hx
    ·split at hx
     ·rename_i hc
      cases hx;obtain⟨rfl,hwf⟩:=hc;exact⟨⟨_,⟨_,rfl,hwf⟩,ny .int⟩,by simp,fun w' sp _ _=>by rw[key];simp [hwf]⟩
     ·cases hx
    ·cases hx
   ·-- string
    rename_i hu
    cases hS
    have key:∀ (w':World) (sp:Nat→Bool) (cs:List Value),DataW.trod enc P w' base sp true (fuel+1) t cs=match cs with | [.string s]=>if s.size≤maxLen then some (.lit (.string s.data.toList),[]) else none | _=>none:=by
     intro w' sp cs;unfold DataW.trod;rw[hu];clear hx
     split<;>simp_all
    rw[key] at hx
    split at hx
    ·rename_i s
     split at hx
     ·rename_i hc
      cases hx;refine⟨⟨[.str s.data.toList],⟨_,rfl,?_⟩,ny ?_⟩,by simp,fun w' sp _ _=>by rw[key];simp [hc]⟩
      ·rw[Array.length_toList];exact hc
      ·have:Den w (fun _=>False) (.str s.data.toList) (.string ⟨s.data.toList.toArray⟩):=.str
       simpa using this
     ·cases hx
    ·cases hx
   ·-- slice
    rename_i e hu
    split at hS
    ·rename_i hc
     rw[UJ] at hS;obtain⟨S,hS,rfl⟩:=hS
     have key:∀ (w':World) (sp:Nat→Bool) (cs:List Value),DataW.trod enc P w' base sp true (fuel+1) t cs=match cs with
      | [.slice none 0 0]=>some (.nil,[])
      | [.slice (some a) len cap] =>
       if base≤a.block∧len≤cap∧cap≤maxLen then
        ((
         Vq len).mapM fun i=>(w'.cells? base (a.add (i*P.cellsOf e)) (P.cellsOf e)).bind (DataW.trod enc P w' base sp true fuel e)).bind fun elems =>
         (if sp a.block then (Vq (cap-len)).mapM fun j=>(w'.cells? base (a.add ((len+j)*P.cellsOf e)) (P.cellsOf e)).bind (DataW.trod enc P w' base sp true fuel e) else some []).map fun rest =>
          (.slice (elems.map (·.1)) (rest.map (·.1)),MemPlace.row a ((elems.length+rest.length)*P.cellsOf e)++(elems++rest).flatMap (·.2))
       else none
      | _=>none:=by
      intro w' sp cs
      conv=>lhs;unfold DataW.trod
      rw[hu];clear hx
      split<;>simp_all
     rw[key] at hx
     split at hx
     ·cases hx
      exact⟨⟨[.sl []],⟨_,rfl,UQ _,by simp⟩,ny .sl0⟩,by simp,fun w' sp _ _=>by rw[key];rfl⟩
     ·rename_i a len cap
      split at hx
      ·rename_i hb
       rw[UU] at hx;obtain⟨elems,he,hx⟩:=hx;rw[UJ] at hx;obtain⟨rest,hr,rfl⟩:=hx;rw[if_pos rfl] at hr;obtain⟨hel,heg⟩:=dh he;obtain⟨hrl,hrg⟩:=dh hr;rw[Vk] at hel hrl
       -- each place
       have hat:∀ i y,(i<len→elems[i]?=some y)→(¬ i<len→i<cap∧rest[i-len]?=some y)→∃ ci,w.cells? base (a.add (i*P.cellsOf e)) (P.cellsOf e)=some ci∧DataW.trod enc P w base (fun _=>true) true fuel e ci=some y:=by
        intro i y h1 h2
        by_cases hi:i<len
        ·have:=heg i i y (by simp [hi]) (h1 hi)
         rwa [UU] at this
        ·obtain⟨h3,h4⟩:=h2 hi
         have:=hrg (i-len) (i-len) y (List.getElem?_range (by omega)) h4;rw[show len+(i-len)=i by omega,UU] at this
         exact this
       have hblk:0<elems.length+rest.length→a.block<w.heap.size∧a.spot=none:=by
        intro hp;have h0:0<cap:=by omega
        have:∃ y,(0<len→elems[0]?=some y)∧(¬ 0<len→0<cap∧rest[0-len]?=some y):=by
         by_cases hl:0<len
         ·exact⟨elems[0],fun _=>UI _,fun h=>absurd hl h⟩
         ·exact⟨rest[0],fun h=>absurd h hl,fun _=>⟨h0,by rw[Nat.zero_sub];exact UI _⟩⟩
        obtain⟨y,h1,h2⟩:=this;obtain⟨ci,hci,-⟩:=hat 0 y h1 h2;obtain⟨v,-,hv⟩:=(rI hci).2 0 hc;have:=Mq hv;rw[Vr] at this;have e0:(a.add 0).add 0=a:=by unfold Addr.add;simp
        rw[e0] at this;exact this
       have hrd:∀ i y,(i<len→elems[i]?=some y)→(¬ i<len→i<cap∧rest[i-len]?=some y)→∃ ci,w.cells? base (a.add (i*P.cellsOf e)) (P.cellsOf e)=some ci∧Rd enc P w base S fuel e ci y:=by
        intro i y h1 h2;obtain⟨ci,h3,h4⟩:=hat i y h1 h2;exact⟨ci,h3,ih e S hS fuel ci y h4⟩
       have hrdE:∀ (i:Nat) y,elems[i]?=some y→∃ ci,w.cells? base (a.add (i*P.cellsOf e)) (P.cellsOf e)=some ci∧Rd enc P w base S fuel e ci y :=
        fun i y hy=>hrd i y (fun _=>hy) (fun h=>absurd (by have:=(List.getElem?_eq_some_iff.1 hy).1;omega) h)
       have hrdR:∀ (j:Nat) y,rest[j]?=some y→∃ ci,w.cells? base (a.add ((len+j)*P.cellsOf e)) (P.cellsOf e)=some ci∧Rd enc P w base S fuel e ci y :=
        fun j y hy=>hrd (len+j) y (fun h=>by omega) (fun _=>⟨by have:=(List.getElem?_eq_some_iff.1 hy).1;omega,by rwa [Vs]⟩)
       refine⟨?_,?_,?_⟩
       ·obtain⟨es,hes,heq⟩:=Az len (fun i (ds:List Data)=>∃ ci,w.cells? base (a.add (i*P.cellsOf e)) (P.cellsOf e)=some ci∧Fit S ds∧xP w (fun _=>False) ds ci) fun i hi=>by
         obtain⟨ci,h1,⟨ds,h2,h3⟩,-,-⟩:=hrdE i _ (UI (by omega));exact⟨ds,ci,h1,h2,h3⟩
        refine⟨[.sl es],⟨es,rfl,by omega,fun y hy=>?_⟩,ny ?_⟩
        ·obtain⟨i,hi⟩:=List.mem_iff_getElem?.1 hy
         obtain⟨ci,-,h,-⟩:=heq i y hi;exact h
        ·by_cases hl:len=0
         ·rw[hl] at hes ⊢
          rw[Vt hes];exact .sl0
         ·obtain⟨hb1,hb2⟩:=hblk (by omega)
          obtain⟨b,off,spot⟩:=a;simp only at hb1 hb2;subst hb2
          have hsz:∀ y∈es,y.length=P.cellsOf e:=by
           intro y hy;obtain⟨i,hi⟩:=List.mem_iff_getElem?.1 hy;obtain⟨ci,h1,-,h2⟩:=heq i y hi;rw[←h2.1,(rI h1).1]
          have hval:∀ (i:Nat) (d:Data),es.flatten[i]?=some d→∃ v,w.cell? ⟨b,off+i,none⟩=some v∧Den w (fun _=>False) d v:=by
           intro i d hd;obtain⟨y,h1,h2⟩:=CV es hsz hc i d hd;obtain⟨ci,h3,-,h4⟩:=heq _ y h1;have hm:i % P.cellsOf e<P.cellsOf e:=Nat.mod_lt _ hc;obtain⟨v,h5,h6⟩:=(rI h3).2 _ hm;rw[xh,xh,UA,Nat.mul_comm,Nat.div_add_mod] at h6;exact⟨v,h6,h4.2 _ d v h2 h5⟩
          rw[←hes];refine .sl (sz:=P.cellsOf e) (fun i=>(w.cell? ⟨b,off+i,none⟩).getD undef) (by omega) (by omega) hb1 (fun h=>h) hsz (fun i hi=>?_) fun i d hd=>?_
          ·have hlt:i<es.flatten.length:=by rw[iN hsz];exact hi
           obtain⟨v,hv,-⟩:=hval i _ (UI hlt);rw[hv]
           rfl
          ·obtain⟨v,hv,hd'⟩:=hval i d hd
           rw[hv];exact hd'
       ·intro p hp
        simp only[Vp] at hp;rcases hp with hp | hp
        ·unfold MemPlace.row at hp
         rw[Vj] at hp;obtain⟨i,hi,rfl⟩:=hp;rw[Vu] at hi
         have:0<elems.length+rest.length:=by
          rcases Nat.eq_zero_or_pos (elems.length+rest.length) with h | h
          ·rw[h,Vr] at hi;omega
          ·exact h
         exact (hblk this).1
        ·rw[Vv] at hp
         obtain⟨y,hy,hp⟩:=hp;rw[Vp] at hy;rcases hy with hy | hy
         ·obtain⟨i,hi⟩:=List.mem_iff_getElem?.1 hy
          obtain⟨ci,-,h⟩:=hrdE i y hi;exact h.2.1 p hp
         ·obtain⟨i,hi⟩:=List.mem_iff_getElem?.1 hy
          obtain⟨ci,-,h⟩:=hrdR i y hi;exact h.2.1 p hp
       ·intro w' sp hsp hk
        rw[key];simp only;rw[if_pos hb]
        have hrow:0<elems.length+rest.length→sp a.block=true:=by
         intro hp
         have:=hsp (.cell a.block (a.off+0)) (by
          rw[Vp]
          left
          unfold MemPlace.row;rw[Vj];exact⟨0,by rw[Vu];exact Nat.mul_pos hp hc,rfl⟩)
         exact this
        have hmE:(Vq len).mapM (fun i=>(w'.cells? base (a.add (i*P.cellsOf e)) (P.cellsOf e)).bind (DataW.trod enc P w' base sp true fuel e))=some elems:=by
         rw[←he];refine u7 fun i hi=>?_
         rw[Vu] at hi;have hy:=UI (l:=elems) (i:=i) (by omega);obtain⟨ci,h1,h2⟩:=hrdE i _ hy;rw[tk h1 hk,h1];simp only[U5];obtain⟨ci',h3,h4⟩:=hat i _ (fun _=>hy) (fun h=>absurd hi h);rw[h1] at h3
         cases h3;rw[h4]
         exact h2.2.2 w' sp (fun p hp=>hsp p (by
          rw[Vp];right
          rw[Vv];exact⟨_,List.mem_append.2 (.inl (UX hy)),hp⟩)) hk
        have hmR:(Vq (cap-len)).mapM (fun j=>(w'.cells? base (a.add ((len+j)*P.cellsOf e)) (P.cellsOf e)).bind (DataW.trod enc P w' base sp true fuel e))=some rest:=by
         rw[←hr];refine u7 fun j hj=>?_
         rw[Vu] at hj;have hy:=UI (l:=rest) (i:=j) (by omega);obtain⟨ci,h1,h2⟩:=hrdR j _ hy;rw[tk h1 hk,h1];simp only[U5];obtain⟨ci',h3,h4⟩:=hat (len+j) rest[j] (fun h=>by omega) (fun _=>⟨by omega,by rw[Vs];exact hy⟩);rw[h1] at h3
         cases h3;rw[h4]
         exact h2.2.2 w' sp (fun p hp=>hsp p (by
          rw[Vp];right
          rw[Vv];exact⟨_,List.mem_append.2 (.inr (UX hy)),hp⟩)) hk
        rw[hmE];simp only[U5]
        cases hs:sp a.block with
        | true=>simp only[if_true];rw[hmR];rfl
        | false =>
         have hz:¬ 0<elems.length+rest.length:=fun h=>by rw[hrow h] at hs;cases hs
         have:rest=[]:=Vt (by omega);subst this
         rfl
      ·cases hx
     ·cases hx
    ·cases hS
   ·-- struct
    rename_i fs hu
    split at hS
    ·rename_i ht
     rw[UJ] at hS;obtain⟨l,hl,rfl⟩:=hS
     have key:∀ (w':World) (sp:Nat→Bool),DataW.trod enc P w' base sp true (fuel+1) t cs =
       if cs.length=P.cellsOf t then (fs.toList.mapM fun f=>DataW.trod enc P w' base sp true fuel f.type ((cs.drop f.offset).take (P.cellsOf f.type))).map fun xs=>(.agg (xs.map (·.1)),xs.flatMap (·.2)) else none:=by
      intro w' sp
      conv=>lhs;unfold DataW.trod
      rw[hu]
     rw[key] at hx
     split at hx
     ·rename_i hlen
      rw[UJ] at hx;obtain⟨xs,hxs,rfl⟩:=hx;rw[←hlen] at ht;obtain⟨h1,h2,h3⟩:=zn (fun t S h cs x hx=>ih t S h fuel cs x hx) cs fs.toList 0 l xs hl ht hxs;refine⟨?_,h2,fun w' sp hsp hk=>?_⟩
      ·obtain⟨ds,hf,hd⟩:=h1
       exact⟨ds,hf,by simpa using hd⟩
      ·rw[key,if_pos hlen,h3 w' sp hsp hk]
       rfl
     ·cases hx
    ·cases hS
   ·cases hS
end
end Go.Mini
