/- A part of the proof. -/
import Derived.Test.YtdbkjjoedjfmpaaGreatM10
import Derived.Test.YtdbkjjoedjfmpaaGreatM04
import Derived.Test.YtdbkjjoedjfmpaaGreatM09
import Derived.Test.YtdbkjjoedjfmpaaGreatM07
import Derived.Test.YtdbkjjoedjfmpaaGreatM08
set_option linter.unusedSimpArgs false
set_option linter.unusedVariables false
open Rat renaming mul_comm → aef, mul_zero → aeg, add_zero → aeh, zero_add → aei, intCast_add → aeF, intCast_sub → aeG, intCast_mul → aeH, natCast_mul → aeI, intCast_natCast → aeJ, le_refl → ae0, le_trans → ae1, divInt_eq_div → ae4
open Classical renaming choose → aej, choose_spec → aek, byContradiction → aey
open List renaming getD_eq_getElem?_getD → ael, length_append → aem, range → aeo, range_succ → aep, filter_append → aeq, filter_cons_of_pos → aer, filter_nil → aes, filter_cons_of_neg → aet, append_nil → aeu, getElem?_eq_getElem → aev, mem_filter → aew, mem_range → aex, mem_cons_self → aeK, mem_cons_of_mem → aeL, getElem?_map → aeT, getElem?_range → aeU, any_eq_false → aeV, length_filter_le → ae2, length_range → ae3, length_map → ae7, take_of_length_le → afa, flatMap_append → afc, flatMap_cons → afd, flatMap_nil → afe, flatMap_eq_nil_iff → aff, nil_append → afg, flatMap_def → afh, map_congr_left → afi, map_append → afj, map_cons → afk, mem_map → afl, length_cons → afm, mem_map_of_mem → afn, take → afo, drop → afp, take_zero → afq, length_set → afr, getElem?_set → afs, getElem?_eq_none → afu, flatten_cons → afx, ext_getElem? → afy
open Nat renaming le_refl → aen, one_pos → aez, mul_pos → aeA, succ_mul → aeB, pow_add → aeC, mul_le_mul → aeD, mul_comm → aeE, zero_le → aeM, le_trans → aeO, pow_le_pow_right → aeP, mul_le_mul_right → aeQ, one_le_two_pow → aeR, lt_of_le_of_lt → aeS, lt_or_ge → aft
open Int renaming natAbs_natCast → aeN, toNat_natCast → afw
open Bool renaming true_and → aeW, and_eq_true → aeX, not_eq_true' → aeY, not_false → aeZ, false_eq_true → ae6, false_and → ae9, not_true → afb, or_eq_true → afv
open Prod renaming ext_iff → ae5
open Decidable renaming em → ae8
namespace Go.Mini
open Classical
noncomputable def Day.W (d:Day) (f:Nat→Nat) (k i:Nat):Rat:=sumC d.cl fun c=>if c.to=(i:Int)∧c.fr=k∧c.rk=f k then d.w c else 0
noncomputable def Day.st (d:Day) (f:Nat→Nat) (i:Nat):Rat:=d.cash i+sumC d.cl fun c=>if c.to=(i:Int)∧c.rk<f c.fr then c.am else 0
theorem Day.OK.sum_W {d:Day} (hd:d.OK) (f:Nat→Nat) (P:Nat→Prop) (x:Nat→Rat) (i:Nat):(sumC d.cl fun c=>if c.to=(i:Int) then (if c.rk=f c.fr∧P c.fr then d.w c*x c.fr else 0) else 0)=sumQ d.n fun k=>if P k then d.W f k i*x k else 0:=by
 have e:=xY (n:=d.n) hd.fr fun k c=>if c.to=(i:Int) then (if c.rk=f k∧P k then d.w c*x k else 0) else 0
 rw[←e];refine bI fun k hk=>?_
 by_cases hP:P k
 ·rw[if_pos hP,aef]
  unfold Day.W;rw[←ra];refine cI fun c _=>?_
  by_cases h1:c.fr=k
  ·by_cases h2:c.to=(i:Int)
   ·by_cases h3:c.rk=f k
    ·rw[if_pos h1,if_pos h2,if_pos ⟨h3,hP⟩,if_pos ⟨h2,h1,h3⟩,aef]
    ·rw[if_pos h1,if_pos h2,if_neg fun h=>h3 h.1,if_neg fun h=>h3 h.2.2,aeg]
   ·rw[if_pos h1,if_neg h2,if_neg fun h=>h2 h.1,aeg]
  ·rw[if_neg h1,if_neg fun h=>h1 h.2.1,aeg]
 ·rw[if_neg hP]
  refine jy fun c _=>?_
  split
  ·split
   ·rw[if_neg fun h=>hP h.2]
   ·rfl
  ·rfl
theorem Day.OK.into_l {d:Day} (hd:d.OK) (f:Nat→Nat) (P:Nat→Prop) (h:Nat→Rat) (i:Nat):d.into (d.l f P h) i=d.st f i+sumQ d.n fun k=>if P k then d.W f k i*(h k-d.U k (f k)) else 0:=by
 rw[←hd.sum_W f P (fun k=>h k-d.U k (f k)) i];unfold Day.into Day.st;rw[Rat.add_assoc,←mS]
 congr 1
 refine cI fun c _=>?_
 unfold Day.l
 by_cases h1:c.to=(i:Int)
 ·rw[if_pos h1,if_pos h1]
  by_cases h2:c.rk<f c.fr
  ·have h3:c.to=(i:Int)∧c.rk<f c.fr:=⟨h1,h2⟩
   have h4:¬ (c.rk=f c.fr∧P c.fr):=fun h=>by have:=h.1;omega
   rw[if_pos h2,if_pos h3,if_neg h4,aeh]
  ·have h3:¬ (c.to=(i:Int)∧c.rk<f c.fr):=fun h=>h2 h.2
   rw[if_neg h2,if_neg h3,aei]
   by_cases h4:c.rk=f c.fr∧P c.fr
   ·rw[if_pos h4,if_pos h4,h4.1]
   ·rw[if_neg h4,if_neg h4]
 ·have h3:¬ (c.to=(i:Int)∧c.rk<f c.fr):=fun h=>h1 h.1
  rw[if_neg h1,if_neg h3,if_neg h1,aeh]
noncomputable def Day.bigM (d:Day) (f:Nat→Nat) (P:Nat→Prop):Mat:=fun i k=>if k<d.n then (if i=k then 1 else 0)-(if P k then d.W f k i else 0) else d.st f i-sumQ d.n fun k=>if P k then d.W f k i*d.U k (f k) else 0
theorem zb {d:Day} (f:Nat→Nat) (P:Nat→Prop) (x:Nat→Rat) (z:Rat) {i:Nat} (hi:i<d.n):lf d.n (d.bigM f P i) (ext d.n x z)=x i-(sumQ d.n fun k=>if P k then d.W f k i*x k else 0)+(d.st f i-sumQ d.n fun k=>if P k then d.W f k i*d.U k (f k) else 0)*z:=by
 rw[qm]
 congr 1
 ·have e:=im (n:=d.n) (f:=fun k=>if i=k then x k else 0) (j:=i) hi fun k _ hk=>if_neg (Ne.symm hk)
  rw[if_pos rfl] at e;rw[←e,←mw];refine bI fun k hk=>?_
  unfold Day.bigM;rw[if_pos hk]
  split<;>split<;>grind
 ·unfold Day.bigM
  rw[if_neg (by omega)]
theorem Fo {d:Day} (hd:d.OK) (f:Nat→Nat) (P:Nat→Prop) (h:Nat→Rat):Ann d.n (d.bigM f P) (ext d.n h (-1))↔∀ i,i<d.n→h i=d.into (d.l f P h) i:=by
 have e:∀ i,(sumQ d.n fun k=>if P k then d.W f k i*(h k-d.U k (f k)) else 0)=(sumQ d.n fun k=>if P k then d.W f k i*h k else 0)-sumQ d.n fun k=>if P k then d.W f k i*d.U k (f k) else 0:=fun i=>by
  rw[←mw];refine bI fun k _=>?_
  split<;>grind
 unfold Ann
 constructor
 ·intro hA i hi
  have:=hA i hi;rw[zb f P h _ hi] at this;rw[hd.into_l,e];grind
 ·intro hA i hi
  have:=hA i hi;rw[hd.into_l,e] at this;rw[zb f P h _ hi];grind
structure Good (d:Day) (f:Nat→Nat) (P:Nat→Prop):Prop where
 ok:d.OK
 inv:∃ g,Inv d f g
 fallen:∀ i,P i→i<d.n∧f i<10
 open':∀ C:Nat→Prop,(∃ i,C i)→(∀ i,C i→P i)→¬ d.closed f C
theorem Good.hom {d:Day} {f:Nat→Nat} {P:Nat→Prop} (hg:Good d f P) {x:Nat→Rat} (hx:∀ i,i<d.n→x i=sumQ d.n fun k=>if P k then d.W f k i*x k else 0):∀ i,i<d.n→x i=0:=by
 obtain⟨g,hi⟩:=hg.inv;exact B5 hi hg.ok hg.fallen hg.open' x fun i hin=>by rw[hg.ok.sum_W f P x i];exact hx i hin
theorem Good.big {d:Day} {f:Nat→Nat} {P:Nat→Prop} (hg:Good d f P):¬ Sing d.n (d.bigM f P):=by
 rintro⟨y,hy,k,hk,hne⟩;refine hne (hg.hom (x:=y) (fun i hi=>?_) k hk);have:=hy i hi;rw[zb f P y _ hi] at this;grind
theorem Good.ex {d:Day} {f:Nat→Nat} {P:Nat→Prop} (hg:Good d f P):∃ h:Nat→Rat,∀ i,i<d.n→h i=d.into (d.l f P h) i:=by
 obtain⟨x,hx⟩:=Aa hg.big;exact⟨x,(Fo hg.ok f P x).1 hx⟩
theorem Good.uniq {d:Day} {f:Nat→Nat} {P:Nat→Prop} (hg:Good d f P) {h h':Nat→Rat} (e:∀ i,i<d.n→h i=d.into (d.l f P h) i) (e':∀ i,i<d.n→h' i=d.into (d.l f P h') i):∀ i,i<d.n→h i=h' i:=by
 obtain⟨g,hi⟩:=hg.inv;exact CX hi hg.ok hg.fallen hg.open' e e'
noncomputable def Day.lst (d:Day) (f:Nat→Nat) (P:Nat→Prop):Nat→Rat:=if h:∃ x:Nat→Rat,∀ i,i<d.n→x i=d.into (d.l f P x) i then aej h else fun _=>0
theorem Good.lst {d:Day} {f:Nat→Nat} {P:Nat→Prop} (hg:Good d f P):∀ i,i<d.n→d.lst f P i=d.into (d.l f P (d.lst f P)) i:=by
 have h:=hg.ex;unfold Day.lst;rw[dif_pos h];exact aek h
theorem Ac {l:List Nat} {a k:Nat} (h:k<l.length):(l++[a]).getD k 0=l.getD k 0:=by
 rw[ael,ael,List.getElem?_append_left h]
theorem KB (l:List Nat) (a:Nat) (F:Nat→Rat):sumQ (l++[a]).length (fun k=>F ((l++[a]).getD k 0))=sumQ l.length (fun k=>F (l.getD k 0))+F a:=by
 rw[aem,List.length_singleton,sumQ]
 congr 1
 ·refine bI fun k hk=>?_
  rw[Ac hk]
 ·rw[ael,List.getElem?_append_right (aen _),Nat.sub_self];rfl
noncomputable def payers (P:Nat→Prop) (n:Nat):List Nat:=(aeo n).filter fun i=>decide (P i)
theorem tz (P:Nat→Prop) (F:Nat→Rat):∀ n,sumQ (payers P n).length (fun k=>F ((payers P n).getD k 0))=sumQ n fun k=>if P k then F k else 0
 | 0=>rfl
 | n+1=>by
  have ih:=tz P F n;unfold payers at ih ⊢;rw[aep,aeq]
  by_cases hP:P n
  ·rw[aer (by simpa using hP),aes,KB,ih,sumQ,if_pos hP]
  ·rw[aet (by simpa using hP),aes,aeu,ih,sumQ,if_neg hP,aeh]
theorem gB {P:Nat→Prop} {n k:Nat} (h:k<(payers P n).length):(payers P n).getD k 0<n∧P ((payers P n).getD k 0):=by
 have hm:(payers P n).getD k 0∈payers P n:=by
  rw[ael,aev h];exact List.getElem_mem h
 unfold payers at hm ⊢;rw[aew,aex,decide_eq_true_eq] at hm;exact hm
noncomputable def Day.smallM (d:Day) (f:Nat→Nat) (p:List Nat):Mat:=fun i k=>if k<p.length then (if i=k then 1 else 0)-d.W f (p.getD k 0) (p.getD i 0) else d.st f (p.getD i 0)-d.U (p.getD i 0) (f (p.getD i 0))
theorem xb {d:Day} (f:Nat→Nat) (p:List Nat) (x:Nat→Rat) (z:Rat) {i:Nat} (hi:i<p.length):lf p.length (d.smallM f p i) (ext p.length x z)=x i-(sumQ p.length fun k=>d.W f (p.getD k 0) (p.getD i 0)*x k)+(d.st f (p.getD i 0)-d.U (p.getD i 0) (f (p.getD i 0)))*z:=by
 rw[qm]
 congr 1
 ·have e:=im (n:=p.length) (f:=fun k=>if i=k then x k else 0) (j:=i) hi fun k _ hk=>if_neg (Ne.symm hk)
  rw[if_pos rfl] at e;rw[←e,←mw];refine bI fun k hk=>?_
  unfold Day.smallM;rw[if_pos hk]
  split<;>grind
 ·unfold Day.smallM
  rw[if_neg (by omega)]
theorem Good.small {d:Day} {f:Nat→Nat} {P:Nat→Prop} (hg:Good d f P):¬ Sing (payers P d.n).length (d.smallM f (payers P d.n)):=by
 rintro⟨y,hy,k,hk,hne⟩
 have h1:∀ r,r<(payers P d.n).length→y r=sumQ (payers P d.n).length fun k=>d.W f ((payers P d.n).getD k 0) ((payers P d.n).getD r 0)*y k:=fun r hr=>by
  have:=hy r hr;rw[xb f _ y _ hr] at this;grind
 have h2:=hg.hom (x:=fun i=>sumQ (payers P d.n).length fun k=>d.W f ((payers P d.n).getD k 0) i*y k) (fun i hi=>by
  rw[←tz P (fun k=>d.W f k i*sumQ (payers P d.n).length fun k'=>d.W f ((payers P d.n).getD k' 0) k*y k') d.n];exact bI fun r hr=>by rw[h1 r hr]) ((payers P d.n).getD k 0) (gB hk).1
 refine hne ?_;rw[h1 k hk];exact h2
theorem Good.small_sol {d:Day} {f:Nat→Nat} {P:Nat→Prop} (hg:Good d f P):Ann (payers P d.n).length (d.smallM f (payers P d.n)) (ext (payers P d.n).length (fun k=>d.lst f P ((payers P d.n).getD k 0)-d.U ((payers P d.n).getD k 0) (f ((payers P d.n).getD k 0))) (-1)):=by
 intro r hr;rw[xb f _ _ _ hr,tz P (fun k=>d.W f k ((payers P d.n).getD r 0)*(d.lst f P k-d.U k (f k))) d.n];have:=hg.lst _ (gB hr).1;rw[hg.ok.into_l] at this;grind
theorem Good.lst_pay {d:Day} {f:Nat→Nat} {P:Nat→Prop} (hg:Good d f P) {i:Nat} (hi:i<d.n):d.lst f P i=d.st f i+sumQ (payers P d.n).length fun k=>d.W f ((payers P d.n).getD k 0) i*(d.lst f P ((payers P d.n).getD k 0)-d.U ((payers P d.n).getD k 0) (f ((payers P d.n).getD k 0))):=by
 rw[tz P (fun k=>d.W f k i*(d.lst f P k-d.U k (f k))) d.n,←hg.ok.into_l];exact hg.lst i hi
theorem Pay.good {d:Day} (hd:d.OK) {f:Nat→Nat} {g:Nat→Rat} (hi:Inv d f g) {P:Nat→Prop} {h:Nat→Rat} (hp:Pay d f g P h):Good d f P:=⟨hd,⟨g,hi⟩,hp.fallen,hp.open'⟩
theorem Good.none {d:Day} (hd:d.OK) {f:Nat→Nat} {g:Nat→Rat} (hi:Inv d f g):Good d f fun _=>False:=⟨hd,⟨g,hi⟩,fun _ h=>h.elim,fun _ ⟨i,h⟩ h'=>(h' i h).elim⟩
theorem Pay.first {d:Day} (hd:d.OK) {f:Nat→Nat} {g:Nat→Rat} (hi:Inv d f g):Pay d f g (fun _=>False) (d.lst f fun _=>False):=Pay.start hd hi (Good.none hd hi).lst
theorem Pay.succ {d:Day} (hd:d.OK) {f:Nat→Nat} {g:Nat→Rat} (hi:Inv d f g) {P:Nat→Prop} {h:Nat→Rat} (hp:Pay d f g P h):Pay d f g (lA d f P h) (d.lst f (lA d f P h)):=hp.next hd hi (Good.lst ⟨hd,⟨g,hi⟩,hp.next_fallen,hp.next_open hd hi⟩)
noncomputable def idle (d:Day) (P:Nat→Prop):Nat:=kR d.n fun i=>if P i then 0 else 1
theorem Fz {d:Day} {f:Nat→Nat} {P:Nat→Prop} {h:Nat→Rat} {i:Nat} (hi:i<d.n) (hf:f i<10) (hU:d.U i (f i)<h i) (hP:¬ P i):idle d (lA d f P h)<idle d P:=by
 refine yw (j:=i) (fun j _=>?_) hi ?_
 ·by_cases hj:P j
  ·have h1:lA d f P h j:=Or.inl hj
   rw[if_pos h1,if_pos hj];exact aen _
  ·rw[if_neg hj];split<;>omega
 ·have h1:lA d f P h i:=Or.inr ⟨hi,hf,hU⟩
  rw[if_pos h1,if_neg hP];omega
theorem Pay.top {d:Day} (hd:d.OK) {f:Nat→Nat} {g:Nat→Rat} (hi:Inv d f g):∀ m (P:Nat→Prop) (h:Nat→Rat),idle d P≤m→Pay d f g P h→∃ h,IsTop d f h
 | m,P,h,hm,hp=>by
  by_cases hs:∀ i,i<d.n→f i<10→d.U i (f i)<h i→P i
  ·exact⟨h,g,hi,hp.stop hd hi hs,hp.le⟩
  ·have⟨i,h1,h2,h3,h4⟩:∃ i,i<d.n∧f i<10∧d.U i (f i)<h i∧¬ P i:=by
    apply aey;intro hn;exact hs fun i h1 h2 h3=>aey fun h4=>hn ⟨i,h1,h2,h3,h4⟩
   have hlt:=Fz (h:=h) h1 h2 h3 h4
   cases m with
   | zero=>omega
   | succ m=>exact Pay.top hd hi m _ _ (by omega) (hp.succ hd hi)
theorem O9 {d:Day} (hd:d.OK) {f:Nat→Nat} (hr:Reach d f):∃ h,IsTop d f h:=by
 obtain⟨g,hi,-⟩:=hr;exact Pay.top hd hi _ _ _ (aen _) (Pay.first hd hi)
theorem Pay.is_top {d:Day} (hd:d.OK) {f:Nat→Nat} {g:Nat→Rat} (hi:Inv d f g) {P:Nat→Prop} {h:Nat→Rat} (hp:Pay d f g P h) (hs:∀ i,i<d.n→f i<10→d.U i (f i)<h i→P i):∀ i,i<d.n→h i=d.top f i :=
 have ht:IsTop d f h:=⟨g,hi,hp.stop hd hi hs,hp.le⟩
 ht.unique hd (Day.top_spec ⟨h,ht⟩)
end Go.Mini
namespace Go.Mini
open Classical
set_option maxRecDepth 10000
def il:Nat→(Nat→Nat)→Nat
 | 0,_=>1
 | n+1,D=>il n D*D n
theorem rL {n:Nat} {D:Nat→Nat} (h:∀ k,k<n→0<D k):0<il n D:=by
 induction n with
 | zero=>exact aez
 | succ n ih=>exact aeA (ih fun k hk=>h k (by omega)) (h n (by omega))
theorem tO {n b:Nat} {D:Nat→Nat} (h:∀ k,k<n→D k≤2^b):il n D≤2^(n*b):=by
 induction n with
 | zero=>simp [il]
 | succ n ih =>
  rw[aeB,aeC];exact aeD (ih fun k hk=>h k (by omega)) (h n (by omega))
theorem rU {n:Nat} {D:Nat→Nat} {k:Nat} (hk:k<n):∃ m,il n D=D k*m:=by
 induction n with
 | zero=>omega
 | succ n ih =>
  by_cases hkn:k=n
  ·subst hkn;exact⟨il k D,aeE _ _⟩
  ·obtain⟨m,hm⟩:=ih (by omega)
   exact⟨m*D n,by rw[il,hm,Nat.mul_assoc]⟩
def DenBy (M:Nat) (x:Rat):Prop:=∃ z:Int,x*(M:Rat)=(z:Rat)
theorem DenBy.add {M:Nat} {x y:Rat} (hx:DenBy M x) (hy:DenBy M y):DenBy M (x+y):=by
 obtain⟨a,ha⟩:=hx;obtain⟨b,hb⟩:=hy;exact⟨a+b,by rw[aeF,←ha,←hb];grind⟩
theorem DenBy.sub {M:Nat} {x y:Rat} (hx:DenBy M x) (hy:DenBy M y):DenBy M (x-y):=by
 obtain⟨a,ha⟩:=hx;obtain⟨b,hb⟩:=hy;exact⟨a-b,by rw[aeG,←ha,←hb];grind⟩
theorem DenBy.mul {M N:Nat} {x y:Rat} (hx:DenBy M x) (hy:DenBy N y):DenBy (M*N) (x*y):=by
 obtain⟨a,ha⟩:=hx;obtain⟨b,hb⟩:=hy;exact⟨a*b,by rw[aeH,←ha,←hb,aeI];grind⟩
theorem DenBy.int (M:Nat) (z:Int):DenBy M (z:Rat):=⟨z*M,by rw[aeH,aeJ]⟩
theorem DenBy.zero (M:Nat):DenBy M 0:=⟨0,by rw[Rat.zero_mul];rfl⟩
theorem DenBy.more {M:Nat} {x:Rat} (h:DenBy M x) (N:Nat):DenBy (M*N) x:=by
 obtain⟨a,ha⟩:=h;exact⟨a*N,by rw[aeH,←ha,aeI,aeJ];grind⟩
theorem DenBy.of_dvd {M N:Nat} {x:Rat} (h:DenBy M x) (hd:∃ m,N=M*m):DenBy N x:=by
 obtain⟨m,rfl⟩:=hd;exact h.more m
theorem DenBy.sumC {M:Nat} {l:List Cl} {F:Cl→Rat} (h:∀ c∈l,DenBy M (F c)):DenBy M (sumC l F):=by
 induction l with
 | nil=>exact DenBy.zero M
 | cons c l ih=>exact (h c aeK).add (ih fun x hx=>h x (aeL _ hx))
theorem DenBy.sumQ {M n:Nat} {F:Nat→Rat} (h:∀ k,k<n→DenBy M (F k)):DenBy M (sumQ n F):=by
 induction n with
 | zero=>exact DenBy.zero M
 | succ n ih=>exact (ih fun k hk=>h k (by omega)).add (h n (by omega))
theorem DenBy.sz {M a e:Nat} {x:Rat} (h:DenBy M x) (hM:0<M) (hMa:M≤2^a) (h0:0≤x) (hx:x≤((2^e:Nat):Rat)):szR (a+e) x:=by
 obtain⟨z,hz⟩:=h;have hz0:(0:Rat)≤(z:Rat):=by rw[←hz];exact Rat.mul_nonneg h0 (by exact_mod_cast aeM M)
 have hz1:(z:Rat)≤((2^e*M:Nat):Rat):=by
  rw[←hz,aeI];exact Rat.mul_le_mul_of_nonneg_right hx (by exact_mod_cast aeM M)
 have k0:0≤z:=by exact_mod_cast hz0
 have k1:z≤((2^e*M:Nat):Int):=by exact_mod_cast hz1
 obtain⟨f1,f2⟩:=fM (q:=x) (v:=z) (d:=(M:Int)) (by omega) (by rw[aeJ];exact hz);rw[aeN] at f2;have k2:z.natAbs≤2^e*M:=by omega
 refine⟨aeO f1 (aeO k2 ?_),aeO f2 (aeO hMa (aeP (by omega) (by omega)))⟩;rw[aeC,aeE (2^a)];exact Nat.mul_le_mul_left _ hMa
structure SmallD (cash:List Int) (cs:List ClR):Prop where
 right:dq cash cs=true
 n5:cash.length≤5
 c12:cs.length≤12
 am:∀ c∈cs,c.2.2.2≤33554432
theorem SmallD.ok {cash:List Int} {cs:List ClR} (h:SmallD cash cs):(ab cash cs).OK:=ma h.right
theorem SmallD.sum {cash:List Int} {cs:List ClR} (h:SmallD cash cs) (p:ClR→Prop) [DecidablePred p]:0≤bt cs (fun c=>if p c then c.2.2.2 else 0)∧bt cs (fun c=>if p c then c.2.2.2 else 0)≤536870912:=by
 have:=tj (cs:=cs) (F:=fun c=>if p c then c.2.2.2 else 0) (B:=33554432) (by omega) fun c hc=>by
  have h1:=h.am c hc;have h2:=((rightD_iff.1 h.right).2.2.2 c hc).2.2.2.2.2.2.1
  try dsimp only
  split<;>omega
 have h12:=h.c12;omega
theorem SmallD.upto {cash:List Int} {cs:List ClR} (h:SmallD cash cs) (i r:Int):0≤aP cs i r∧aP cs i r≤536870912:=h.sum fun c=>c.1=i∧c.2.2.1<r
theorem Cy {cash:List Int} {cs:List ClR} (h:dq cash cs=true) (i:Int) {r s:Int} (hrs:r≤s):aP cs i r≤aP cs i s:=by
 have h4:=(rightD_iff.1 h).2.2.2
 have:∀ l:List ClR,(∀ c∈l,0≤c.2.2.2)→bt l (fun c=>if c.1=i∧c.2.2.1<r then c.2.2.2 else 0)≤bt l (fun c=>if c.1=i∧c.2.2.1<s then c.2.2.2 else 0):=by
  intro l
  induction l with
  | nil=>intro _;exact Int.le_refl _
  | cons c l ih =>
   intro hl;have h1:=ih fun x hx=>hl x (aeL _ hx)
   have h2:=hl c aeK;simp only[bt]
   split<;>split<;>omega
 exact this cs fun c hc=>(h4 c hc).2.2.2.2.2.2.1
def SN (cs:List ClR) (k r:Nat):Nat:=(aP cs k (r+1:Nat)-aP cs k r).toNat
theorem nt {cash:List Int} {cs:List ClR} (h:dq cash cs=true) (k r:Nat):((SN cs k r:Nat):Rat)=(ab cash cs).S k r:=by
 have h1:=xJ h k r;have h2:=Cy h k (r:=r) (s:=(r+1:Nat)) (by omega);rw[←h1,←aeJ];unfold SN;rw[Int.toNat_of_nonneg (by omega)]
theorem SmallD.SN_le {cash:List Int} {cs:List ClR} (h:SmallD cash cs) (k r:Nat):SN cs k r≤2^29:=by
 have h1:=h.upto k (r+1:Nat);have h2:=h.upto k r;unfold SN;omega
def wI (cs:List ClR) (f:Nat→Nat) (k i:Nat):Int:=bt cs fun c=>if c.2.1=(i:Int)∧c.1=(k:Int)∧c.2.2.1=(f k:Int) then c.2.2.2 else 0
theorem OQ {cash:List Int} {cs:List ClR} (h:dq cash cs=true) (f:Nat→Nat) {k:Nat} (i:Nat) (hS:0<(ab cash cs).S k (f k)):(ab cash cs).W f k i*(ab cash cs).S k (f k)=((wI cs f k i:Int):Rat):=by
 unfold Day.W wI
 rw[oW cs _ (fun c=>if c.to=(i:Int)∧c.fr=k∧c.rk=f k then c.am else 0) fun c hc=>by
  have:=(rightD_iff.1 h).2.2.2 c hc
  show ((if c.2.1=(i:Int)∧c.1=(k:Int)∧c.2.2.1=(f k:Int) then c.2.2.2 else 0:Int):Rat)=if c.2.1=(i:Int)∧c.1.toNat=k∧c.2.2.1.toNat=f k then (c.2.2.2:Rat) else 0
  by_cases h1:c.2.1=(i:Int)∧c.1=(k:Int)∧c.2.2.1=(f k:Int)
  ·rw[if_pos h1,if_pos (by omega)]
  ·rw[if_neg h1,if_neg (by omega)];rfl]
 rw[aef,←ra];refine cI fun c _=>?_
 split
 ·rename_i h1
  rw[aef];have e1:=h1.2.1;have e2:=h1.2.2;subst e1;rw[←e2] at hS ⊢;exact Day.w_S hS
 ·rw[aeg]
theorem qB {cash:List Int} {cs:List ClR} (h:dq cash cs=true) (f:Nat→Nat) (i:Nat):((dk cash cs f i:Int):Rat)=(ab cash cs).st f i:=by
 unfold dk Day.st;rw[aeF]
 congr 1
 refine oW cs _ (fun c=>if c.to=(i:Int)∧c.rk<f c.fr then c.am else 0) fun c hc=>?_
 have:=(rightD_iff.1 h).2.2.2 c hc
 show ((if c.2.1=(i:Int)∧c.2.2.1<(f c.1.toNat:Int) then c.2.2.2 else 0:Int):Rat)=if c.2.1=(i:Int)∧c.2.2.1.toNat<f c.1.toNat then (c.2.2.2:Rat) else 0
 by_cases h1:c.2.1=(i:Int)∧c.2.2.1<(f c.1.toNat:Int)
 ·rw[if_pos h1,if_pos (by omega)]
 ·rw[if_neg h1,if_neg (by omega)];rfl
theorem SmallD.cash {cash:List Int} {cs:List ClR} (h:SmallD cash cs) (i:Nat):0≤cash.getD i 0∧cash.getD i 0≤1000000000000000:=by
 rw[ael]
 cases hi:cash[i]? with
 | none=>simp
 | some x=>exact (rightD_iff.1 h.right).2.2.1 x (List.mem_of_getElem? hi)
theorem SmallD.steady {cash:List Int} {cs:List ClR} (h:SmallD cash cs) (f:Nat→Nat) (i:Nat):0≤dk cash cs f i∧dk cash cs f i≤1000000536870912:=by
 have h1:=h.cash i;have h2:=h.sum fun c=>c.2.1=(i:Int)∧c.2.2.1<(f c.1.toNat:Int)
 unfold dk;omega
theorem IZ.of {z:Int} {B:Nat} (h:z.natAbs≤B):IZ B (z:Rat):=⟨z,rfl,h⟩
theorem IZ.nat {z:Nat} {B:Nat} (h:z≤B):IZ B (z:Rat):=⟨z,(aeJ _).symm,by omega⟩
theorem Pk {N:Nat} (h:N≤5):N^N≤2^12:=by
 match N,h with
 | 0,_ | 1,_ | 2,_ | 3,_ | 4,_ | 5,_=>decide
 | n+6,h=>omega
section
variable {cash:List Int} {cs:List ClR} (hs:SmallD cash cs) {f:Nat→Nat} {P:Nat→Prop} (hS:∀ k,P k→0<(ab cash cs).S k (f k))
include hs hS
theorem za {k:Nat} (hk:P k):0<SN cs k (f k):=by
 have h1:=hS k hk;rw[←nt hs.right] at h1
 exact_mod_cast h1
theorem IC {k:Nat} (hk:P k) (i:Nat):((SN cs k (f k):Nat):Rat)*(ab cash cs).W f k i=((wI cs f k i:Int):Rat):=by
 rw[nt hs.right,aef];exact OQ hs.right f i (hS k hk)
theorem Cp {k:Nat} (hk:P k) (i:Nat) (p:Prop) [Decidable p]:IZ (2^30) (((SN cs k (f k):Nat):Rat)*((if p then 1 else 0)-(ab cash cs).W f k i)):=by
 have e:((SN cs k (f k):Nat):Rat)*((if p then 1 else 0)-(ab cash cs).W f k i)=((if p then SN cs k (f k) else 0:Nat):Rat)-((wI cs f k i:Int):Rat):=by
  rw[←IC hs hS hk i]
  split<;>grind
 have h1:=hs.SN_le k (f k);have h2:=hs.sum fun c=>c.2.1=(i:Int)∧c.1=(k:Int)∧c.2.2.1=(f k:Int)
 rw[e];refine ((IZ.nat (B:=2^29) ?_).sub (IZ.of (B:=2^29) ?_)).mono (by decide)
 ·split<;>omega
 ·unfold wI
  omega
theorem DW:Scaled cash.length ((ab cash cs).bigM f P) 30 210:=by
 let D:Nat→Nat:=fun k=>if P k then SN cs k (f k) else 1
 have hD1:∀ k,0<D k:=fun k=>by
  show 0<if P k then SN cs k (f k) else 1
  split
  ·exact za hs hS (by assumption)
  ·omega
 have hD2:∀ k,D k≤2^29:=fun k=>by
  show (if P k then SN cs k (f k) else 1)≤2^29
  split
  ·exact hs.SN_le k _
  ·decide
 have hn:=hs.n5;have hpr:il cash.length D≤2^145:=aeO (tO fun k _=>hD2 k) (aeP (by omega) (by omega));refine⟨fun k=>if k<cash.length then D k else il cash.length D,fun k hk=>?_⟩
 have hdn:(ab cash cs).n=cash.length:=rfl
 by_cases hkn:k<cash.length
 ·dsimp only
  rw[if_pos hkn,if_pos hkn];refine⟨hD1 k,aeO (hD2 k) (by decide),fun i hi=>?_⟩
  unfold Day.bigM;rw[if_pos (by rw[hdn];exact hkn)]
  by_cases hP:P k
  ·have e:D k=SN cs k (f k):=if_pos hP
   rw[e,if_pos hP];exact Cp hs hS hP i _
  ·have e:D k=1:=if_neg hP
   rw[e,if_neg hP];have:(((1:Nat):Rat)*((if i=k then 1 else 0)-0))=((if i=k then 1 else 0:Nat):Rat):=by split<;>simp<;>grind
   rw[this];exact IZ.nat (by split<;>decide)
 ·dsimp only
  rw[if_neg hkn,if_neg hkn];refine⟨rL fun k _=>hD1 k,aeO hpr (aeP (by omega) (by omega)),fun i hi=>?_⟩
  unfold Day.bigM;rw[if_neg (by rw[hdn];exact hkn),hdn]
  have e:((il cash.length D:Nat):Rat)*((ab cash cs).st f i-sumQ cash.length fun k=>if P k then (ab cash cs).W f k i*(ab cash cs).U k (f k) else 0)=((il cash.length D:Nat):Rat)*(ab cash cs).st f i-sumQ cash.length fun k=>((il cash.length D:Nat):Rat)*(if P k then (ab cash cs).W f k i*(ab cash cs).U k (f k) else 0):=by
   rw[mI];grind
  rw[e]
  have h1:IZ (2^196) (((il cash.length D:Nat):Rat)*(ab cash cs).st f i):=by
   rw[←qB hs.right];have:=hs.steady f i;refine ((IZ.nat hpr).mul (IZ.of (B:=2^51) (by omega))).mono ?_;rw[←aeC];exact aen _
  have h2:∀ k,k<cash.length→IZ (2^203) (((il cash.length D:Nat):Rat)*(if P k then (ab cash cs).W f k i*(ab cash cs).U k (f k) else 0)):=by
   intro k hk
   by_cases hP:P k
   ·rw[if_pos hP]
    obtain⟨m,hm⟩:=rU (D:=D) hk;have hD:D k=SN cs k (f k):=if_pos hP
    have hm2:m≤2^145:=by
     refine aeO ?_ hpr;rw[hm];exact Nat.le_mul_of_pos_left _ (hD1 k)
    have e2:((il cash.length D:Nat):Rat)*((ab cash cs).W f k i*(ab cash cs).U k (f k))=((m:Nat):Rat)*((wI cs f k i:Int):Rat)*((aP cs k (f k):Int):Rat):=by
     rw[hm,hD,←IC hs hS hP i,←dQ hs.right k (f k),aeI];grind
    rw[e2];have h3:=hs.upto k (f k);have h4:=hs.sum fun c=>c.2.1=(i:Int)∧c.1=(k:Int)∧c.2.2.1=(f k:Int)
    refine (((IZ.nat hm2).mul (IZ.of (B:=2^29) (by unfold wI;omega))).mul (IZ.of (B:=2^29) (by omega))).mono ?_;rw[←aeC,←aeC];exact aen _
   ·rw[if_neg hP,aeg];exact IZ.zero
  refine (h1.sub (IZ.sum cash.length h2)).mono ?_;have h5:cash.length*2^203≤2^3*2^203:=aeQ _ (by omega);rw[←aeC] at h5;have h6:2^196≤2^206:=aeP (by omega) (by omega);have h7:2^206+2^206=2^207:=by rw[←Nat.two_mul,Nat.pow_succ,aeE]
  have h8:2^207≤2^210:=aeP (by omega) (by omega);have h9:(3:Nat)+203=206:=rfl;rw[h9] at h5;exact aeO (Nat.add_le_add h6 h5) (by rw[h7];exact h8)
theorem nk (p:List Nat) (hp:∀ k,k<p.length→P (p.getD k 0)):Scaled p.length ((ab cash cs).smallM f p) 30 52:=by
 refine⟨fun k=>if k<p.length then SN cs (p.getD k 0) (f (p.getD k 0)) else 1,fun k hk=>?_⟩
 by_cases hkn:k<p.length
 ·dsimp only
  rw[if_pos hkn,if_pos hkn];refine⟨za hs hS (hp k hkn),aeO (hs.SN_le _ _) (by decide),fun i hi=>?_⟩
  unfold Day.smallM;rw[if_pos hkn];exact Cp hs hS (hp k hkn) _ _
 ·dsimp only
  rw[if_neg hkn,if_neg hkn];refine⟨aez,aeR,fun i hi=>?_⟩
  unfold Day.smallM;rw[if_neg hkn,←qB hs.right,←dQ hs.right];have h1:=hs.steady f (p.getD i 0);have h2:=hs.upto (p.getD i 0:Nat) (f (p.getD i 0))
  have e:((1:Nat):Rat)*(((dk cash cs f (p.getD i 0):Int):Rat)-((aP cs (p.getD i 0:Nat) (f (p.getD i 0)):Int):Rat))=((dk cash cs f (p.getD i 0)-aP cs (p.getD i 0:Nat) (f (p.getD i 0)):Int):Rat):=by
   rw[aeG];have:((1:Nat):Rat)=1:=rfl;rw[this,Rat.one_mul]
  rw[e];exact IZ.of (by omega)
end
end Go.Mini
namespace Go.Mini
open Go Classical
set_option maxRecDepth 10000
theorem du {b:Nat} {q:Rat} (h:szR b q) (hb:b<1200):cr q:=by
 obtain⟨B,hB,hL⟩:=Fy;have:2^b<LIM:=by rw[hL];exact Nat.pow_lt_pow_right (by omega) (by omega)
 exact⟨aeS h.1 this,aeS h.2 this⟩
def eh (N:Nat) (A:Mat):List cL:=(aeo N).map fun i=>(bM N (A i),ah (A i N))
theorem eY (N:Nat) (A:Mat):(eh N A).length=N:=by simp [eh]
theorem ud {N i:Nat} (A:Mat) (h:i<N):(eh N A)[i]?=some (bM N (A i),ah (A i N)):=by
 unfold eh;rw[aeT,aeU h];rfl
theorem Ea {N i k:Nat} (A:Mat) (hi:i<N) (hk:k≤N):kh (eh N A) i k=A i k:=by
 unfold kh;rw[BA (ud A hi),eY]
 by_cases h:k<N
 ·rw[if_pos h,ael,eM _ h,Option.getD_some,kJ]
 ·rw[if_neg h,kJ,show k=N by omega]
theorem mQ {x:Rat} (h:cr x):bf (ah x)=true:=(kO _).2 ⟨x,h,rfl⟩
theorem xQ {N:Nat} {A:Mat} (hN:N≤40) (hl:∀ i,i<N→∀ k,k≤N→cr (A i k)):fu (eh N A) N=true:=by
 unfold fu
 have h3:(eh N A).any (fQ N)=false:=by
  rw[aeV];intro r hr;obtain⟨i,hi,rfl⟩:=List.mem_map.1 hr;have hi:=List.mem_range.1 hi;unfold fQ C9;simp only[de,beq_self_eq_true,aeW,mQ (hl i hi N (aen _))]
  have:(bM N (A i)).any (fun f => !bf f)=false:=by
   rw[aeV];intro f hf;unfold bM at hf;obtain⟨x,hx,rfl⟩:=List.mem_map.1 hf;obtain⟨k,hk,rfl⟩:=List.mem_map.1 hx;rw[mQ (hl i hi k (by have:=List.mem_range.1 hk;omega))]
   decide
  rw[this];decide
 rw[h3,eY];simp only[aeX,aeY,decide_eq_false_iff_not,beq_self_eq_true,aeZ,and_true];omega
theorem G9 {N:Nat} {A:Mat} (hN:N≤40) (hl:∀ i,i<N→∀ k,k≤N→cr (A i k)):iz (eh N A):=by
 refine⟨by rw[eY];omega,fun r hr=>?_⟩
 obtain⟨i,hi,rfl⟩:=List.mem_map.1 hr;have hi:=List.mem_range.1 hi;exact⟨ti hN fun k hk=>hl i hi k (by omega),d8 (hl i hi N (aen _))⟩
theorem wu {N:Nat} {a b y:Nat→Rat} (h:∀ k,k≤N→a k=b k):lf N a y=lf N b y:=bI fun k hk=>by rw[h k (by omega)]
theorem Ann.congr {N:Nat} {A B:Mat} (h:∀ i,i<N→∀ k,k≤N→A i k=B i k) (y:Nat→Rat):Ann N A y↔Ann N B y:=by
 unfold Ann
 constructor
 ·intro hA i hi;rw[←wu (h i hi)];exact hA i hi
 ·intro hA i hi;rw[wu (h i hi)];exact hA i hi
theorem Scaled.congr {N b v:Nat} {A B:Mat} (h:∀ i,i<N→∀ k,k≤N→A i k=B i k) (hs:Scaled N A b v):Scaled N B b v:=by
 obtain⟨D,hD⟩:=hs;exact⟨D,fun k hk=>⟨(hD k hk).1,(hD k hk).2.1,fun i hi=>by rw[←h i hi k hk];exact (hD k hk).2.2 i hi⟩⟩
theorem Scaled.sz {N b v:Nat} {A:Mat} (hs:Scaled N A b v) (hb:b≤v) {i k:Nat} (hi:i<N) (hk:k≤N):szR v (A i k):=by
 obtain⟨D,hD⟩:=hs;obtain⟨h1,h2,h3⟩:=hD k hk;obtain⟨z,hz,hz2⟩:=h3 i hi;have hle:2^(if k<N then b else v)≤2^v:=aeP (by omega) (by split<;>omega);obtain⟨f1,f2⟩:=fM (q:=A i k) (v:=z) (d:=(D k:Int)) (by omega) (by rw[←hz,aeJ,aef]);rw[aeN] at f2;exact⟨aeO f1 (aeO hz2 hle),aeO f2 (aeO h2 hle)⟩
theorem CT {N b v:Nat} {A:Mat} (hN:N≤5) (hs:Scaled N A b v) (hb:b≤30) (hv:v≤210) (hbv:b≤v) (hns:¬ Sing N A) {x:Nat→Rat} (hx:Ann N A (ext N x (-1))) :
  g8 (eh N A) N=(bM N x,0)∧fu (eh N A) N=true∧∀ k,k<N→cr (x k):=by
 have hl:∀ i,i<N→∀ k,k≤N→cr (A i k):=fun i hi k hk=>du (hs.sz hbv hi hk) (by omega)
 have hr:=xQ (by omega) hl;have hc:∀ i,i<N→∀ k,k≤N→A i k=kh (eh N A) i k:=fun i hi k hk=>(Ea A hi hk).symm
 have hs':=hs.congr hc
 have hns':¬ Sing N (kh (eh N A)):=by
  rintro⟨y,hy,h⟩;exact hns ⟨y,(Ann.congr hc _).2 hy,h⟩
 have h1:(N+1)*b≤6*30:=aeD (by omega) hb;have h2:(N+2)*b≤7*30:=aeD (by omega) hb;obtain⟨y,e1,e2,e3⟩:=Dp (rs:=eh N A) (n:=N) (c:=12) (b:=b) (v:=v) hr (by rw[eY];exact Pk hN) (by rw[eY];exact hs') hbv (by rw[eY];omega) (by rw[eY];exact hns');rw[eY] at e1 e2 e3;have hxy:∀ k,k<N→x k=y k:=(e3.1 x).1 ((Ann.congr hc _).1 hx);exact⟨by rw[e1,js fun k hk=>(hxy k hk).symm],hr,fun k hk=>by rw[hxy k hk];exact e2 k hk⟩
structure PayG (d:Day) (f:Nat→Nat) (P:Nat→Prop):Prop where
 ok:d.OK
 ex:∃ g,Inv d f g∧Pay d f g P (d.lst f P)
theorem PayG.good {d:Day} {f:Nat→Nat} {P:Nat→Prop} (h:PayG d f P):Good d f P:=by
 obtain⟨h1,g,h2,h3⟩:=h;exact h3.good h1 h2
theorem PayG.S_pos {d:Day} {f:Nat→Nat} {P:Nat→Prop} (h:PayG d f P):∀ k,P k→0<d.S k (f k):=by
 obtain⟨h1,g,h2,h3⟩:=h;exact fun k hk=>h2.S_pos (h3.fallen k hk).1 (h3.fallen k hk).2
theorem PayG.gt {d:Day} {f:Nat→Nat} {P:Nat→Prop} (h:PayG d f P):∀ k,P k→d.U k (f k)<d.lst f P k:=by
 obtain⟨h1,g,h2,h3⟩:=h;exact h3.ge
theorem Pay.l_range {d:Day} (hd:d.OK) {f:Nat→Nat} {g:Nat→Rat} {P:Nat→Prop} {h:Nat→Rat} (hi:Inv d f g) (hp:Pay d f g P h) {c:Cl} (hc:c∈d.cl):0≤d.l f P h c∧d.l f P h c≤c.am:=by
 have h0:=hd.am c hc
 by_cases h1:c.rk<f c.fr
 ·rw[Day.l_lt h1];exact⟨h0,ae0⟩
 ·by_cases h2:c.rk=f c.fr∧P c.fr
  ·rw[Day.l_eq h2.1 h2.2]
   have e1:=hp.ge _ h2.2;have e2:=hp.le _ (hd.fr c hc);have e3:=hi.hi _ (hd.fr c hc) (hp.fallen _ h2.2).2;rw[d.U_succ] at e3;rw[h2.1];exact⟨dE (hd.w_nonneg hc) (by grind),hd.w_le hc (by rw[h2.1];grind)⟩
  ·rw[Day.l_no h1 h2];exact⟨ae0,h0⟩
theorem PayG.range {d:Day} {f:Nat→Nat} {P:Nat→Prop} (h:PayG d f P) {i:Nat} (hi:i<d.n):0≤d.lst f P i∧d.lst f P i≤d.into (fun c=>c.am) i:=by
 obtain⟨h1,g,h2,h3⟩:=h;rw[h3.sys i hi];exact⟨h1.into_nonneg (fun c hc=>(h3.l_range h1 h2 hc).1) hi,d.into_le (fun c hc=>(h3.l_range h1 h2 hc).2) i⟩
theorem Mi {cash:List Int} {cs:List ClR} (hs:SmallD cash cs) (i:Nat):(ab cash cs).into (fun c=>c.am) i≤((2^51:Nat):Rat):=by
 have e:(ab cash cs).into (fun c=>c.am) i=((cash.getD i 0+bt cs (fun c=>if c.2.1=(i:Int) then c.2.2.2 else 0):Int):Rat):=by
  unfold Day.into;rw[aeF]
  congr 1
  refine (oW cs _ (fun c=>if c.to=(i:Int) then c.am else 0) fun c hc=>?_).symm
  show ((if c.2.1=(i:Int) then c.2.2.2 else 0:Int):Rat)=if c.2.1=(i:Int) then (c.2.2.2:Rat) else 0
  split<;>rfl
 rw[e];have h1:=hs.cash i;have h2:=hs.sum fun c=>c.2.1=(i:Int)
 have:cash.getD i 0+bt cs (fun c=>if c.2.1=(i:Int) then c.2.2.2 else 0)≤((2^51:Nat):Int):=by omega
 rw[←aeJ]
 exact_mod_cast this
theorem Day.OK.W_nonneg {d:Day} (hd:d.OK) (f:Nat→Nat) (k i:Nat):0≤d.W f k i:=dA fun c hc=>by
 split
 ·exact hd.w_nonneg hc
 ·exact ae0
theorem LQ {n t:Nat} {T:Nat→Rat} (h:∀ k,k<n→0≤T k) (ht:t≤n):sumQ t T≤sumQ n T:=by
 induction n with
 | zero=>rw[show t=0 by omega];exact ae0
 | succ n ih =>
  by_cases htn:t=n+1
  ·rw[htn];exact ae0
  ·have h1:=ih (fun k hk=>h k (by omega)) (by omega)
   have h2:=h n (by omega);rw[sumQ];grind
theorem Pd {N t M a e:Nat} {s:Rat} {T:Nat→Rat} (hM:0<M) (hMa:M≤2^a) (hs0:0≤s) (hsd:DenBy M s) (hT0:∀ k,k<N→0≤T k) (hTd:∀ k,k<N→DenBy M (T k)) (hx:s+sumQ N T≤((2^e:Nat):Rat)) (ht:t≤N):szR (a+e) (s+sumQ t T)∧∀ k,k<N→szR (a+e) (T k):=by
 have h1:∀ t,t≤N→0≤sumQ t T∧sumQ t T≤sumQ N T:=fun t ht=>⟨ov fun k hk=>hT0 k (by omega),LQ hT0 ht⟩
 refine⟨(hsd.add (DenBy.sumQ fun k hk=>hTd k (by omega))).sz hM hMa (by have:=(h1 t ht).1;grind) (by have:=(h1 t ht).2;grind),fun k hk=>(hTd k hk).sz hM hMa (hT0 k hk) ?_⟩
 have h2:=(h1 k (by omega)).1;have h3:=(h1 (k+1) (by omega)).2;rw[sumQ] at h3;grind
section
variable {cash:List Int} {cs:List ClR} (hs:SmallD cash cs) {f:Nat→Nat} {P:Nat→Prop} (hp:PayG (ab cash cs) f P)
include hs hp
theorem oK {i:Nat} (hi:i<cash.length):0≤(ab cash cs).lst f P i∧(ab cash cs).lst f P i≤((2^51:Nat):Rat):=by
 have h:=hp.range (d:=ab cash cs) hi;exact⟨h.1,ae1 h.2 (Mi hs i)⟩
theorem Fu:∃ M:Nat,0<M∧(∃ a,a≤402∧M≤2^a)∧∀ i,i<cash.length→DenBy M ((ab cash cs).lst f P i):=by
 obtain⟨M,h1,h2,h3⟩:=KO (N:=cash.length) hp.good.big (Pk hs.n5) (DW hs hp.S_pos) ((Fo hp.ok f P _).2 hp.good.lst);have hn:=hs.n5;have:(cash.length+1)*30≤6*30:=aeQ _ (by omega);exact⟨M,h1,⟨_,by omega,h2⟩,h3⟩
theorem I2 {i:Nat} (hi:i<cash.length):szR 453 ((ab cash cs).lst f P i):=by
 obtain⟨M,h1,⟨a,h0,h2⟩,h3⟩:=Fu hs hp;have h4:=oK hs hp hi;exact ((h3 i hi).sz h1 h2 h4.1 h4.2).mono (by omega)
theorem Ad:g8 (eh (payers P cash.length).length ((ab cash cs).smallM f (payers P cash.length))) (payers P cash.length).length=(bM (payers P cash.length).length (fun k=>(ab cash cs).lst f P ((payers P cash.length).getD k 0)-(ab cash cs).U ((payers P cash.length).getD k 0) (f ((payers P cash.length).getD k 0))),0)∧fu (eh (payers P cash.length).length ((ab cash cs).smallM f (payers P cash.length))) (payers P cash.length).length=true:=by
 have hlen:(payers P cash.length).length≤5:=by
  have:=ae2 (fun i=>decide (P i)) (aeo cash.length);rw[ae3] at this;have:=hs.n5;unfold payers;omega
 have:=CT hlen (nk hs hp.S_pos _ fun k hk=>(gB hk).2) (aen _) (by omega) (by omega) hp.good.small hp.good.small_sol;exact⟨this.1,this.2.1⟩
theorem Hi:∃ M:Nat,0<M∧(∃ a,a≤244∧M≤2^a)∧∀ k,k<(payers P cash.length).length→DenBy M ((ab cash cs).lst f P ((payers P cash.length).getD k 0)-(ab cash cs).U ((payers P cash.length).getD k 0) (f ((payers P cash.length).getD k 0))):=by
 have hlen:(payers P cash.length).length≤5:=by
  have:=ae2 (fun i=>decide (P i)) (aeo cash.length);rw[ae3] at this;have:=hs.n5;unfold payers;omega
 have hpn:payers P (ab cash cs).n=payers P cash.length:=rfl;have hss:=hp.good.small_sol;have hsm:=hp.good.small;rw[hpn] at hss hsm;obtain⟨M,h1,h2,h3⟩:=KO hsm (Pk hlen) (nk hs hp.S_pos _ fun k hk=>(gB hk).2) hss;have:((payers P cash.length).length+1)*30≤6*30:=aeQ _ (by omega);exact⟨M,h1,⟨_,by omega,h2⟩,h3⟩
theorem Pg {k:Nat} (hk:P k) (i:Nat):szR 30 ((ab cash cs).W f k i)∧DenBy (SN cs k (f k)) ((ab cash cs).W f k i):=by
 have e:=IC hs hp.S_pos hk i;have h0:=za hs hp.S_pos hk;have h1:=hs.SN_le k (f k);have h2:=hs.sum fun c=>c.2.1=(i:Int)∧c.1=(k:Int)∧c.2.2.1=(f k:Int)
 obtain⟨f1,f2⟩:=fM (q:=(ab cash cs).W f k i) (v:=wI cs f k i) (d:=(SN cs k (f k):Int)) (by omega) (by rw[←e,aeJ,aef]);rw[aeN] at f2;refine⟨⟨aeO f1 (by unfold wI;omega),aeO f2 (by omega)⟩,wI cs f k i,by rw[←e,aef]⟩
theorem LH {i t:Nat} (hi:i<cash.length) (ht:t≤(payers P cash.length).length) :
  szR 440 ((ab cash cs).st f i+sumQ t fun k=>(ab cash cs).W f ((payers P cash.length).getD k 0) i*((ab cash cs).lst f P ((payers P cash.length).getD k 0)-(ab cash cs).U ((payers P cash.length).getD k 0) (f ((payers P cash.length).getD k 0)))) ∧
  (∀ k,k<(payers P cash.length).length→szR 440 ((ab cash cs).W f ((payers P cash.length).getD k 0) i*((ab cash cs).lst f P ((payers P cash.length).getD k 0)-(ab cash cs).U ((payers P cash.length).getD k 0) (f ((payers P cash.length).getD k 0))))) ∧
  ∀ k,k<(payers P cash.length).length→szR 295 ((ab cash cs).lst f P ((payers P cash.length).getD k 0)-(ab cash cs).U ((payers P cash.length).getD k 0) (f ((payers P cash.length).getD k 0))):=by
 have hlen:(payers P cash.length).length≤5:=by
  have:=ae2 (fun i=>decide (P i)) (aeo cash.length);rw[ae3] at this;have:=hs.n5;unfold payers;omega
 obtain⟨M,m1,⟨a,m0,m2⟩,m3⟩:=Hi hs hp;have hmem:∀ k,k<(payers P cash.length).length→(payers P cash.length).getD k 0<cash.length∧P ((payers P cash.length).getD k 0):=fun k hk=>gB hk
 have hsol:=hp.good.lst_pay (d:=ab cash cs) hi;have hpn:payers P (ab cash cs).n=payers P cash.length:=rfl;rw[hpn] at hsol;generalize hpd:payers P cash.length=p at *
 have hex0:∀ k,k<p.length→0≤(ab cash cs).lst f P (p.getD k 0)-(ab cash cs).U (p.getD k 0) (f (p.getD k 0)):=fun k hk=>by
  have:=hp.gt _ (hmem k hk).2;grind
 have hex1:∀ k,k<p.length→(ab cash cs).lst f P (p.getD k 0)-(ab cash cs).U (p.getD k 0) (f (p.getD k 0))≤((2^51:Nat):Rat):=fun k hk=>by
  have h1:=(oK hs hp (hmem k hk).1).2;have h2:=hp.ok.U_nonneg (p.getD k 0) (f (p.getD k 0));grind
 have hpp:0<il p.length fun k=>SN cs (p.getD k 0) (f (p.getD k 0)):=rL fun k hk=>za hs hp.S_pos (hmem k hk).2
 have hpl:(il p.length fun k=>SN cs (p.getD k 0) (f (p.getD k 0)))≤2^145:=aeO (tO fun k _=>hs.SN_le _ _) (aeP (by omega) (by omega));have hst:=qB hs.right f i;have hst2:=hs.steady f i;have hst0:0≤(ab cash cs).st f i:=by rw[←hst];exact_mod_cast hst2.1
 have hr:=(oK hs hp hi).2;rw[hsol] at hr
 have hpM:(il p.length fun k=>SN cs (p.getD k 0) (f (p.getD k 0)))*M≤2^(145+a):=by
  rw[aeC];exact aeD hpl m2
 have hmain:=Pd (T:=fun k=>(ab cash cs).W f (p.getD k 0) i*((ab cash cs).lst f P (p.getD k 0)-(ab cash cs).U (p.getD k 0) (f (p.getD k 0)))) (aeA hpp m1) hpM hst0 (by rw[←hst];exact DenBy.int _ _) (fun k hk=>dE (hp.ok.W_nonneg f _ _) (hex0 k hk)) (fun k hk=>((Pg hs hp (hmem k hk).2 i).2.of_dvd (rU (D:=fun k=>SN cs (p.getD k 0) (f (p.getD k 0))) hk)).mul (m3 k hk)) hr ht
 exact⟨hmain.1.mono (by omega),fun k hk=>(hmain.2 k hk).mono (by omega),fun k hk=>((m3 k hk).sz m1 m2 (hex0 k hk) (hex1 k hk)).mono (by omega)⟩
end
end Go.Mini
namespace Go.Mini
open Go
def mf_ref20_Few:MFunc :=
 { n:=53,np:=2,res:=[.t 4],body :=
 (.seq (.ops [
 Zb 4 false])
 (.seq (.seq (.ops [
 Zv 7 0,Zn 8 7,Zc 9 .gtr 8 5,Zv 10 9,⟨some 11,some (10,false),.mv (.t 1)⟩,⟨some 12,some (10,false),.len (.t 11)⟩,⟨some 13,some (10,false),.bin .gtr (.t 12) (.c (ZI 12))⟩,Zp 14 10 13])
 (.cond (.t 14)
 (.seq (.ops [
 Zb 4 false])
 .ret)
 .skip))
 (.seq (.seq (.ops [
 Zi 5 0])
 (.block 0
 (.loop
 (.seq (.seq (.ops [
 Zv 15 5,Zv 16 0,Zn 17 16,Zo 18 .lss 15 17])
 (.cond (.t 18)
 .skip
 (.exit 0)))
 (.seq (.block 1
 (.seq (.ops [
 Zv 21 0,Zv 22 5,Za 23 1 21 22,Zl 24 1 23,Zc 25 .gtr 24 1000000,Zv 26 25,⟨some 27,some (26,true),.mv (.t 0)⟩,⟨some 28,some (26,true),.mv (.t 5)⟩,⟨some 29,some (26,true),.iad 1 (.t 27) (.t 28)⟩,⟨some 30,some (26,true),.load 1 false (.t 29)⟩,⟨some 31,some (26,true),.bin .leq (.t 30) (.c (ZI 1000000000000000))⟩,Zq 32 26 31])
 (.cond (.t 32)
 (.seq (.ops [
 Zb 4 false])
 .ret)
 .skip)))
 (.ops [
 Zv 19 5,Zc 20 .add 19 1,Zv 5 20]))))))
 (.seq (.seq (.ops [
 Zi 6 0])
 (.block 2
 (.loop
 (.seq (.seq (.ops [
 Zv 33 6,Zv 34 1,Zn 35 34,Zo 36 .lss 33 35])
 (.cond (.t 36)
 .skip
 (.exit 2)))
 (.seq (.block 3
 (.seq (.ops [
 Zv 39 1,Zv 40 6,Za 41 4 39 40,Zf 42 3 41,Zl 43 1 42,Zc 44 .gtr 43 1000000,Zv 45 44,⟨some 46,some (45,true),.mv (.t 1)⟩,⟨some 47,some (45,true),.mv (.t 6)⟩,⟨some 48,some (45,true),.iad 4 (.t 46) (.t 47)⟩,⟨some 49,some (45,true),.fad 3 (.t 48)⟩,⟨some 50,some (45,true),.load 1 false (.t 49)⟩,⟨some 51,some (45,true),.bin .leq (.t 50) (.c (ZI 1000000000000000))⟩,Zq 52 45 51])
 (.cond (.t 52)
 (.seq (.ops [
 Zb 4 false])
 .ret)
 .skip)))
 (.ops [
 Zv 37 6,Zc 38 .add 37 1,Zv 6 38]))))))
 (.seq (.ops [
 Zb 4 true])
 .ret))))) }
def mf_ref20_SameRounds:MFunc :=
 { n:=53,np:=2,res:=[.t 4],body :=
 (.seq (.ops [
 Zb 4 false])
 (.seq (.seq (.ops [
 Zv 7 0,Zn 8 7,Zv 9 1,Zn 10 9,Zo 11 .neq 8 10])
 (.cond (.t 11)
 (.seq (.ops [
 Zb 4 false])
 .ret)
 .skip))
 (.seq (.seq (.ops [
 Zi 5 0])
 (.block 0
 (.loop
 (.seq (.seq (.ops [
 Zv 12 5,Zv 13 0,Zn 14 13,Zo 15 .lss 12 14])
 (.cond (.t 15)
 .skip
 (.exit 0)))
 (.seq (.block 1
 (.seq (.seq (.opsD [
 Zv 18 0,Zv 19 5,Za 20 1 18 19,Zl 21 1 20,Zn 22 21,Zv 23 1,Zv 24 5,Za 25 1 23 24,Zl 26 1 25,Zn 27 26,Zo 28 .neq 22 27] [[],[],[],[],[],[],[],[],[],[],[]])
 (.cond (.t 28)
 (.seq (.ops [
 Zb 4 false])
 .ret)
 .skip))
 (.seq (.ops [
 Zi 6 0])
 (.block 2
 (.loop
 (.seq (.seq (.ops [
 Zv 29 6,Zv 30 0,Zv 31 5,Za 32 1 30 31,Zl 33 1 32,Zn 34 33,Zo 35 .lss 29 34])
 (.cond (.t 35)
 .skip
 (.exit 2)))
 (.seq (.block 3
 (.seq (.opsD [
 Zv 38 0,Zv 39 5,Za 40 1 38 39,Zl 41 1 40,Zv 42 6,Za 43 1 41 42,Zl 44 1 43,Zv 45 1,Zv 46 5,Za 47 1 45 46,Zl 48 1 47,Zv 49 6,Za 50 1 48 49,Zl 51 1 50,Zo 52 .neq 44 51] [[],[],[],[],[],[],[],[],[],[],[],[],[],[],[]])
 (.cond (.t 52)
 (.seq (.ops [
 Zb 4 false])
 .ret)
 .skip)))
 (.ops [
 Zv 36 6,Zc 37 .add 36 1,Zv 6 37]))))))))
 (.ops [
 Zv 16 5,Zc 17 .add 16 1,Zv 5 17]))))))
 (.seq (.ops [
 Zb 4 true])
 .ret)))) }

def mf_rank_Short:MFunc :=
 { n:=49,np:=2,res:=[.t 4,.t 5],body :=
 (.seq (.ops [
 Zi 4 0,Zb 5 false])
 (.seq (.seq (.ops [
 Zv 9 0,⟨some 10,none,.call ib [(.t 9)]⟩,Zt 11 10,Zv 12 11,⟨some 13,some (12,false),.mv (.t 1)⟩,⟨some 14,some (12,false),.len (.t 13)⟩,⟨some 15,some (12,false),.mv (.t 0)⟩,⟨some 16,some (12,false),.len (.t 15)⟩,⟨some 17,some (12,false),.bin .neq (.t 14) (.t 16)⟩,Zp 18 12 17])
 (.cond (.t 18)
 (.seq (.ops [
 Zi 4 0,Zb 5 false])
 .ret)
 .skip))
 (.seq (.ops [
 Zi 6 10])
 (.seq (.seq (.ops [
 Zv 19 0,Zn 20 19,Zi 21 0])
 (.block 0
 (.loop
 (.seq (.ops [
 Zo 22 .lss 21 20])
 (.seq (.cond (.t 22)
 .skip
 (.exit 0))
 (.seq (.block 1
 (.seq (.ops [
 Zv 23 21,Za 24 4 19 21,Zu 25 4 24,⟨some 8,none,.alloc 225008 [(ZI 0),(ZI 0),(ZI 0),(ZI 0)]⟩,Zv 7 23,Zs 4 8 25])
 (.seq (.seq (.ops [
 Zv 26 1,Zv 27 7,Za 28 4 26 27,Zu 29 4 28,⟨some 30,none,.call aT [(.t 29)]⟩,Zt 31 30])
 (.cond (.t 31)
 (.seq (.ops [
 Zi 4 0,Zb 5 false])
 .ret)
 .skip))
 (.seq (.opsD [
 Zv 32 1,Zv 33 7,Za 34 4 32 33,Zu 35 4 34,Zf 36 3 8,Zl 37 1 36,⟨some 38,none,.call cK [(.t 37)]⟩,⟨some 39,none,.call aW [(.t 35),(.t 38)]⟩,Zc 40 .lss 39 0] [[],[],[],[],[],[],[],[],[]])
 (.cond (.t 40)
 (.ops [
 Zv 41 6,Zf 42 2 8,Zl 43 1 42,⟨some 44,none,.mm false (.t 41) (.t 43)⟩,Zv 6 44])
 .skip)))))
 (.ops [
 Zc 45 .add 21 1,Zv 21 45])))))))
 (.seq (.seq (.ops [
 Zv 46 6,Zc 47 .eql 46 10])
 (.cond (.t 47)
 (.seq (.ops [
 Zi 4 0,Zb 5 false])
 .ret)
 .skip))
 (.seq (.ops [
 Zv 48 6,Zv 4 48,Zb 5 true])
 .ret)))))) }
def mf_rank_right:MFunc :=
 { n:=46,np:=1,res:=[.t 2],body :=
 (.seq (.ops [
 Zb 2 false])
 (.seq (.seq (.ops [
 Zv 5 0,Zn 6 5,Zi 7 0])
 (.block 0
 (.loop
 (.seq (.ops [
 Zo 8 .lss 7 6])
 (.seq (.cond (.t 8)
 .skip
 (.exit 0))
 (.seq (.block 1
 (.seq (.ops [
 Za 9 4 5 7,Zu 10 4 9,⟨some 4,none,.alloc 240004 [(ZI 0),(ZI 0),(ZI 0),(ZI 0)]⟩,Zs 4 4 10])
 (.seq (.opsD [
 Zf 11 0 4,Zl 12 1 11,⟨some 13,none,.call fp [(.t 12),(.c (ZI 0)),(.c (ZI 59))]⟩,Zt 14 13,Zv 15 14,⟨some 16,some (15,false),.fad 1 (.t 4)⟩,⟨some 17,some (15,false),.load 1 false (.t 16)⟩,⟨some 18,some (15,false),.call fp [(.t 17),(.c (.dat (.int .i64 (-1)))),(.c (ZI 59))]⟩,⟨some 19,some (15,false),.un .not (.t 18)⟩,Zp 20 15 19,Zv 21 20,⟨some 22,some (21,false),.fad 2 (.t 4)⟩,⟨some 23,some (21,false),.load 1 false (.t 22)⟩,⟨some 24,some (21,false),.call fp [(.t 23),(.c (ZI 0)),(.c (ZI 9))]⟩,⟨some 25,some (21,false),.un .not (.t 24)⟩,Zp 26 21 25,Zv 27 26,⟨some 28,some (27,false),.fad 3 (.t 4)⟩,⟨some 29,some (27,false),.load 1 false (.t 28)⟩,⟨some 30,some (27,false),.call fp [(.t 29),(.c (ZI 0)),(.c (ZI 1000000000000000))]⟩,⟨some 31,some (27,false),.un .not (.t 30)⟩,Zp 32 27 31,Zv 33 32,⟨some 34,some (33,false),.fad 0 (.t 4)⟩,⟨some 35,some (33,false),.load 1 false (.t 34)⟩,⟨some 36,some (33,false),.mv (.t 0)⟩,⟨some 37,some (33,false),.iad 4 (.t 36) (.c (ZI 0))⟩,⟨some 38,some (33,false),.fad 0 (.t 37)⟩,⟨some 39,some (33,false),.load 1 false (.t 38)⟩,⟨some 40,some (33,false),.bin .neq (.t 35) (.t 39)⟩,Zp 41 33 40] [[],[],[],[],[],[],[],[],[],[],[],[],[],[],[],[],[],[],[],[],[],[],[],[],[],[],[],[],[],[],[]])
 (.cond (.t 41)
 (.seq (.ops [
 Zb 2 false])
 .ret)
 .skip))))
 (.ops [
 Zc 42 .add 7 1,Zv 7 42])))))))
 (.seq (.ops [
 Zv 43 0,Zn 44 43,Zc 45 .leq 44 2000,Zv 2 45])
 .ret))) }
def mf_rank_whole:MFunc :=
 { n:=11,np:=1,res:=[.cell 2 4 true],body :=
 (.seq (.ops [
 ⟨some 2,none,.alloc 241002 [(ZI 0),.nil,(ZI 0),.nil]⟩])
 (.seq (.ops [
 Zv 6 0,⟨some 7,none,.call iJ [(.t 6),(.c (ZI 1))]⟩,Zv 5 7,Zx 8 0 5,Zx 9 1 5,⟨some 3,none,.alloc 241003 [(ZI 0),.nil,(ZI 0),.nil]⟩,Zs 4 3 8,Zv 4 9])
 (.seq (.ops [
 Zu 10 4 3,Zs 4 2 10])
 .ret))) }
def mf_rank_Split:MFunc :=
 { n:=118,np:=2,res:=[.t 4,.t 5],body :=
 (.seq (.ops [
 Zk 2 249002 0,Ze 4,Zi 5 0])
 (.seq (.seq (.opsD [
 Zu 19 4 2,⟨some 20,none,.call aT [(.t 19)]⟩,Zt 21 20,Zv 22 21,⟨some 23,some (22,false),.load 4 true (.t 2)⟩,⟨some 24,some (22,false),.call cK [(.c (ZI 0))]⟩,⟨some 25,some (22,false),.call aW [(.t 23),(.t 24)]⟩,⟨some 26,some (22,false),.bin .lss (.t 25) (.c (ZI 0))⟩,Zp 27 22 26,Zv 28 27,⟨some 29,some (28,false),.mv (.t 1)⟩,⟨some 30,some (28,false),.call ib [(.t 29)]⟩,⟨some 31,some (28,false),.un .not (.t 30)⟩,Zp 32 28 31] [[],[],[],[],[],[],[],[],[],[],[],[],[],[]])
 (.cond (.t 32)
 (.seq (.ops [
 Ze 4,Zi 5 1])
 .ret)
 .skip))
 (.seq (.ops [
 Zv 33 1,Zn 34 33,⟨some 35,none,.mksl 249035 [(ZI 0),.nil,(ZI 0),.nil] 64 (.t 34) (.t 34)⟩,Zv 6 35])
 (.seq (.ops [
 Zu 36 4 2,⟨some 7,none,.alloc 249007 [(ZI 0),.nil,(ZI 0),.nil]⟩,Zs 4 7 36])
 (.seq (.seq (.ops [
 Zi 37 0])
 (.block 0
 (.loop
 (.seq (.ops [
 Zc 38 .lss 37 10])
 (.seq (.cond (.t 38)
 .skip
 (.exit 0))
 (.seq (.block 1
 (.seq (.ops [
 Zv 39 37,Zv 8 39])
 (.seq (.ops [
 Zi 9 0])
 (.seq (.seq (.ops [
 Zv 40 1,Zn 41 40,Zi 42 0])
 (.block 2
 (.loop
 (.seq (.ops [
 Zo 43 .lss 42 41])
 (.seq (.cond (.t 43)
 .skip
 (.exit 2))
 (.seq (.block 3
 (.seq (.ops [
 Za 44 4 40 42,Zu 45 4 44,⟨some 11,none,.alloc 249011 [(ZI 0),(ZI 0),(ZI 0),(ZI 0)]⟩,Zs 4 11 45])
 (.seq (.ops [
 Zf 46 2 11,Zl 47 1 46,Zv 48 8,Zo 49 .eql 47 48])
 (.cond (.t 49)
 (.ops [
 Zv 50 9,Zf 51 3 11,Zl 52 1 51,Zo 53 .add 50 52,Zv 9 53])
 .skip))))
 (.ops [
 Zc 54 .add 42 1,Zv 42 54])))))))
 (.seq (.opsD [
 Zu 55 4 7,Zv 56 9,⟨some 57,none,.call cK [(.t 56)]⟩,⟨some 58,none,.call aW [(.t 55),(.t 57)]⟩,Zc 59 .geq 58 0,Zv 12 59] [[],[],[],[],[],[]])
 (.seq (.seq (.ops [
 Zv 60 1,Zn 61 60,Zi 62 0])
 (.block 4
 (.loop
 (.seq (.ops [
 Zo 63 .lss 62 61])
 (.seq (.cond (.t 63)
 .skip
 (.exit 4))
 (.seq (.block 5
 (.seq (.ops [
 Zv 64 62,Za 65 4 60 62,Zu 66 4 65,⟨some 14,none,.alloc 249014 [(ZI 0),(ZI 0),(ZI 0),(ZI 0)]⟩,Zv 13 64,Zs 4 14 66])
 (.seq (.seq (.ops [
 Zf 67 2 14,Zl 68 1 67,Zv 69 8,Zo 70 .neq 68 69])
 (.cond (.t 70)
 (.exit 5)
 .skip))
 (.seq (.ops [
 Zv 71 6,Zv 72 13,Zf 73 3 14,Zl 74 1 73,⟨some 75,none,.call cK [(.t 74)]⟩,Za 76 4 71 72,Zs 4 76 75])
 (.seq (.seq (.ops [
 Zv 77 12])
 (.cond (.t 77)
 (.exit 5)
 .skip))
 (.seq (.opsD [
 Zf 79 3 14,Zl 80 1 79,⟨some 81,none,.call cK [(.t 80)]⟩,Zu 82 4 7,⟨some 83,none,.call dL [(.t 81),(.t 82)]⟩,Zv 78 83,Zx 84 0 78,Zx 85 1 78,⟨some 15,none,.alloc 249015 [(ZI 0),.nil,(ZI 0),.nil]⟩,Zs 4 15 84,Zv 16 85] [[],[],[],[],[],[],[],[],[1,3],[],[]])
 (.seq (.seq (.ops [
 Zv 86 16,Zc 87 .eql 86 0])
 (.cond (.t 87)
 (.opsD [
 Zv 89 6,Zv 90 13,Zu 91 4 15,Zv 92 9,⟨some 93,none,.call cK [(.t 92)]⟩,⟨some 94,none,.call gq [(.t 91),(.t 93)]⟩,Zv 88 94,Zx 95 0 88,Zx 96 1 88,Za 97 4 89 90,Zs 4 97 95,Zv 16 96] [[],[],[],[],[],[],[],[],[],[],[],[]])
 .skip))
 (.seq (.ops [
 Zv 98 16,Zc 99 .neq 98 0])
 (.cond (.t 99)
 (.seq (.ops [
 Zv 100 16,Ze 4,Zv 5 100])
 .ret)
 .skip)))))))))
 (.ops [
 Zc 101 .add 62 1,Zv 62 101])))))))
 (.seq (.seq (.ops [
 Zv 102 12,Zt 103 102])
 (.cond (.t 103)
 (.seq (.ops [
 ⟨some 104,none,.call cK [(.c (ZI 0))]⟩,Zs 4 7 104])
 (.exit 1))
 .skip))
 (.seq (.opsD [
 Zu 106 4 7,Zv 107 9,⟨some 108,none,.call cK [(.t 107)]⟩,⟨some 109,none,.call dh [(.t 106),(.t 108)]⟩,Zv 105 109,Zx 110 0 105,Zx 111 1 105,⟨some 17,none,.alloc 249017 [(ZI 0),.nil,(ZI 0),.nil]⟩,Zs 4 17 110,Zv 18 111] [[],[],[],[],[],[],[],[0],[],[]])
 (.seq (.seq (.ops [
 Zv 112 18,Zc 113 .neq 112 0])
 (.cond (.t 113)
 (.seq (.ops [
 Zv 114 18,Ze 4,Zv 5 114])
 .ret)
 .skip))
 (.ops [
 Zu 115 4 17,Zs 4 7 115]))))))))))
 (.ops [
 Zc 116 .add 37 1,Zv 37 116])))))))
 (.seq (.ghost (.freeze 6) (.ops [
 Zv 117 6,Zv 4 117,Zi 5 0]))
 .ret)))))) }
def mf_rank_within:MFunc :=
 { n:=15,np:=3,res:=[.t 6],body :=
 (.seq (.ops [
 Zb 6 false])
 (.seq (.ops [
 Zv 7 0,Zv 8 1,Zo 9 .geq 7 8,Zv 10 9,⟨some 11,some (10,true),.mv (.t 0)⟩,⟨some 12,some (10,true),.mv (.t 2)⟩,⟨some 13,some (10,true),.bin .leq (.t 11) (.t 12)⟩,Zq 14 10 13,Zv 6 14])
 .ret)) }
def mf_law20_small:MFunc :=
 { n:=66,np:=0,res:=[.t 0],body :=
 (.seq (.ops [
 Zb 0 false])
 (.seq (.ops [
 ⟨some 8,none,.bsl 215008 false [(ZI 0),(ZI 0)] 1 2 [(0,1,(.c (ZI 5))),(1,1,(.c (ZI 0)))]⟩,⟨some 9,none,.build [(ZI 0),(ZI 0),(ZI 0),(ZI 0)] [(0,1,(.c (ZI 0))),(1,1,(.c (ZI 1))),(3,1,(.c (ZI 10)))]⟩,⟨some 10,none,.build [(ZI 0),(ZI 0),(ZI 0),(ZI 0)] [(0,1,(.c (ZI 1))),(1,1,(.c (.dat (.int .i64 (-1))))),(3,1,(.c (ZI 4)))]⟩,⟨some 11,none,.bsl 215011 false [(ZI 0),(ZI 0),(ZI 0),(ZI 0),(ZI 0),(ZI 0),(ZI 0),(ZI 0)] 4 2 [(0,4,(.t 9)),(4,4,(.t 10))]⟩,⟨some 12,none,.bsl 215012 false [(ZI 0),(ZI 0)] 1 2 [(0,1,(.c (ZI 5))),(1,1,(.c (ZI 5)))]⟩,⟨some 13,none,.bsl 215013 false [(ZI 0),(ZI 0)] 1 2 [(0,1,(.c (ZI 5))),(1,1,(.c (ZI 4)))]⟩,⟨some 14,none,.bsl 215014 false [(ZI 0)] 1 1 [(0,1,(.c (ZI 0)))]⟩,⟨some 15,none,.bsl 215015 false [.nil] 1 1 [(0,1,(.t 14))]⟩,⟨some 16,none,.call gN [(.t 8),(.t 11),(.t 12),(.t 13),(.t 15)]⟩,Zv 1 16])
 (.seq (.ops [
 ⟨some 17,none,.build [(ZI 0),(ZI 0),(ZI 0),(ZI 0)] [(0,1,(.c (ZI 0))),(1,1,(.c (ZI 1))),(2,1,(.c (ZI 1))),(3,1,(.c (ZI 10)))]⟩,⟨some 18,none,.build [(ZI 0),(ZI 0),(ZI 0),(ZI 0)] [(0,1,(.c (ZI 1))),(1,1,(.c (ZI 0))),(2,1,(.c (ZI 1))),(3,1,(.c (ZI 10)))]⟩,⟨some 19,none,.bsl 215019 true [(ZI 0),(ZI 0),(ZI 0),(ZI 0),(ZI 0),(ZI 0),(ZI 0),(ZI 0)] 4 2 [(0,4,(.t 17)),(4,4,(.t 18))]⟩,Zv 2 19])
 (.seq (.ops [
 ⟨some 20,none,.bsl 215020 false [(ZI 0),(ZI 0)] 1 2 [(0,1,(.c (ZI 0))),(1,1,(.c (ZI 0)))]⟩,Zv 21 2,⟨some 22,none,.bsl 215022 false [(ZI 0),(ZI 0)] 1 2 [(0,1,(.c (ZI 10))),(1,1,(.c (ZI 10)))]⟩,⟨some 23,none,.bsl 215023 false [(ZI 0),(ZI 0)] 1 2 [(0,1,(.c (ZI 10))),(1,1,(.c (ZI 10)))]⟩,⟨some 24,none,.call gN [(.t 20),(.t 21),(.t 22),(.t 23),(.c .nil)]⟩,Zv 3 24])
 (.seq (.ops [
 ⟨some 25,none,.bsl 215025 false [(ZI 0),(ZI 0)] 1 2 [(0,1,(.c (ZI 0))),(1,1,(.c (ZI 0)))]⟩,Zv 26 2,⟨some 27,none,.build [(ZI 0),(ZI 0),(ZI 0),(ZI 0)] [(0,1,(.c (ZI 0))),(1,1,(.c (.dat (.int .i64 (-1))))),(3,1,(.c (ZI 5)))]⟩,⟨some 28,none,.bsl 215028 false [(ZI 0),(ZI 0),(ZI 0),(ZI 0)] 4 1 [(0,4,(.t 27))]⟩,⟨some 29,none,.app 215029 [(ZI 0),(ZI 0),(ZI 0),(ZI 0)] 32 (.t 26) (.t 28)⟩,⟨some 30,none,.bsl 215030 false [(ZI 0),(ZI 0)] 1 2 [(0,1,(.c (ZI 0))),(1,1,(.c (ZI 0)))]⟩,⟨some 31,none,.bsl 215031 false [(ZI 0),(ZI 0),(ZI 0)] 1 3 [(0,1,(.c (ZI 0))),(1,1,(.c (ZI 0))),(2,1,(.c (ZI 0)))]⟩,⟨some 32,none,.bsl 215032 false [(ZI 0)] 1 1 [(0,1,(.c (ZI 0)))]⟩,⟨some 33,none,.bsl 215033 false [(ZI 0)] 1 1 [(0,1,(.c (ZI 1)))]⟩,⟨some 34,none,.bsl 215034 false [(ZI 0)] 1 1 [(0,1,(.c (ZI 0)))]⟩,⟨some 35,none,.bsl 215035 false [.nil,.nil,.nil] 1 3 [(0,1,(.t 32)),(1,1,(.t 33)),(2,1,(.t 34))]⟩,⟨some 36,none,.call gN [(.t 25),(.t 29),(.t 30),(.t 31),(.t 35)]⟩,Zv 4 36])
 (.seq (.ops [
 ⟨some 37,none,.bsl 215037 false [(ZI 0)] 1 1 [(0,1,(.c (ZI 9)))]⟩,⟨some 38,none,.build [(ZI 0),(ZI 0),(ZI 0),(ZI 0)] [(1,1,(.c (.dat (.int .i64 (-1))))),(3,1,(.c (ZI 6)))]⟩,⟨some 39,none,.build [(ZI 0),(ZI 0),(ZI 0),(ZI 0)] [(1,1,(.c (.dat (.int .i64 (-1))))),(2,1,(.c (ZI 1))),(3,1,(.c (ZI 2)))]⟩,⟨some 40,none,.build [(ZI 0),(ZI 0),(ZI 0),(ZI 0)] [(1,1,(.c (.dat (.int .i64 (-1))))),(2,1,(.c (ZI 1))),(3,1,(.c (ZI 4)))]⟩,⟨some 41,none,.bsl 215041 false [(ZI 0),(ZI 0),(ZI 0),(ZI 0),(ZI 0),(ZI 0),(ZI 0),(ZI 0),(ZI 0),(ZI 0),(ZI 0),(ZI 0)] 4 3 [(0,4,(.t 38)),(4,4,(.t 39)),(8,4,(.t 40))]⟩,⟨some 42,none,.bsl 215042 false [(ZI 0)] 1 1 [(0,1,(.c (ZI 9)))]⟩,⟨some 43,none,.bsl 215043 false [(ZI 0),(ZI 0),(ZI 0)] 1 3 [(0,1,(.c (ZI 6))),(1,1,(.c (ZI 1))),(2,1,(.c (ZI 2)))]⟩,⟨some 44,none,.bsl 215044 false [(ZI 0)] 1 1 [(0,1,(.c (ZI 0)))]⟩,⟨some 45,none,.bsl 215045 false [.nil] 1 1 [(0,1,(.t 44))]⟩,⟨some 46,none,.call gN [(.t 37),(.t 41),(.t 42),(.t 43),(.t 45)]⟩,Zv 5 46])
 (.seq (.ops [
 ⟨some 48,none,.bsl 215048 false [(ZI 0)] 1 1 [(0,1,(.c (.dat (.int .i64 (-1)))))]⟩,⟨some 49,none,.call ew [(.t 48),(.c .nil)]⟩,Zv 47 49,Zx 50 0 47,Zx 51 1 47,⟨some 6,none,.alloc 215006 [.nil,.nil,.nil]⟩,Zs 3 6 50,Zv 7 51])
 (.seq (.ops [
 Zv 52 1,Zv 53 52,⟨some 54,some (53,true),.mv (.t 3)⟩,Zq 55 53 54,Zv 56 55,⟨some 57,some (56,true),.mv (.t 4)⟩,Zq 58 56 57,Zv 59 58,⟨some 60,some (59,true),.mv (.t 5)⟩,Zq 61 59 60,Zv 62 61,⟨some 63,some (62,true),.mv (.t 7)⟩,⟨some 64,some (62,true),.bin .eql (.t 63) (.c (ZI 1))⟩,Zq 65 62 64,Zv 0 65])
 .ret)))))))) }
def mf_law20_of:MFunc :=
 { n:=11,np:=1,res:=[.cell 2 4 true],body :=
 (.seq (.ops [
 ⟨some 2,none,.alloc 219002 [(ZI 0),.nil,(ZI 0),.nil]⟩])
 (.seq (.ops [
 Zv 6 0,⟨some 7,none,.call nM [(.t 6),(.c (ZI 1))]⟩,Zv 5 7,Zx 8 0 5,Zx 9 1 5,⟨some 3,none,.alloc 219003 [(ZI 0),.nil,(ZI 0),.nil]⟩,Zs 4 3 8,Zv 4 9])
 (.seq (.ops [
 Zu 10 4 3,Zs 4 2 10])
 .ret))) }
def mf_law20_own:MFunc :=
 { n:=40,np:=3,res:=[.t 6,.t 7],body :=
 (.seq (.ops [
 Ze 6,Ze 7])
 (.seq (.ops [
 Ze 8])
 (.seq (.ops [
 Ze 9])
 (.seq (.seq (.ops [
 Zi 10 0])
 (.block 0
 (.ghost (.adopt 8 224030 4) (.ghost (.adopt 9 224037 4) (.loop
 (.seq (.seq (.ops [
 Zv 11 10,Zv 12 0,Zn 13 12,Zo 14 .lss 11 13])
 (.cond (.t 14)
 .skip
 (.exit 0)))
 (.seq (.block 1
 (.seq (.ops [
 Zv 17 0,Zv 18 10,Za 19 4 17 18,Zf 20 0 19,Zl 21 1 20,Zv 22 2,Zo 23 .eql 21 22])
 (.cond (.t 23)
 (.seq (.ops [
 Zv 24 8,Zv 25 0,Zv 26 10,Za 27 4 25 26,Zu 28 4 27,⟨some 29,none,.bsl 224029 false [(ZI 0),(ZI 0),(ZI 0),(ZI 0)] 4 1 [(0,4,(.t 28))]⟩,⟨some 30,none,.app 224030 [(ZI 0),(ZI 0),(ZI 0),(ZI 0)] 32 (.t 24) (.t 29)⟩,Zv 8 30])
 (.ops [
 Zv 31 9,Zv 32 1,Zv 33 10,Za 34 4 32 33,Zu 35 4 34,⟨some 36,none,.bsl 224036 false [(ZI 0),.nil,(ZI 0),.nil] 4 1 [(0,4,(.t 35))]⟩,⟨some 37,none,.app 224037 [(ZI 0),.nil,(ZI 0),.nil] 64 (.t 31) (.t 36)⟩,Zv 9 37]))
 .skip)))
 (.ops [
 Zv 15 10,Zc 16 .add 15 1,Zv 10 16]))))))))
 (.seq (.ghost (.freeze 8) (.ghost (.freeze 9) (.ops [
 Zv 38 8,Zv 39 9,Zv 6 38,Zv 7 39])))
 .ret))))) }
def mf_law20_has:MFunc :=
 { n:=105,np:=5,res:=[.t 10],body :=
 (.seq (.ops [
 Zb 10 false])
 (.seq (.ops [
 Zv 16 0,Zv 17 1,⟨some 18,none,.call ew [(.t 16),(.t 17)]⟩,Zv 15 18,Zx 19 0 15,Zx 20 1 15,⟨some 11,none,.alloc 226011 [.nil,.nil,.nil]⟩,Zs 3 11 19,Zv 12 20])
 (.seq (.seq (.ops [
 Zv 21 12,Zc 22 .neq 21 0,Zv 23 22,⟨some 24,some (23,false),.fad 0 (.t 11)⟩,⟨some 25,some (23,false),.load 1 false (.t 24)⟩,⟨some 26,some (23,false),.len (.t 25)⟩,⟨some 27,some (23,false),.mv (.t 2)⟩,⟨some 28,some (23,false),.len (.t 27)⟩,⟨some 29,some (23,false),.bin .neq (.t 26) (.t 28)⟩,Zp 30 23 29,Zv 31 30,⟨some 32,some (31,false),.fad 1 (.t 11)⟩,⟨some 33,some (31,false),.load 1 false (.t 32)⟩,⟨some 34,some (31,false),.len (.t 33)⟩,⟨some 35,some (31,false),.mv (.t 3)⟩,⟨some 36,some (31,false),.len (.t 35)⟩,⟨some 37,some (31,false),.bin .neq (.t 34) (.t 36)⟩,Zp 38 31 37,Zv 39 38,⟨some 40,some (39,false),.fad 2 (.t 11)⟩,⟨some 41,some (39,false),.load 1 false (.t 40)⟩,⟨some 42,some (39,false),.mv (.t 4)⟩,⟨some 43,some (39,false),.call gZ [(.t 41),(.t 42)]⟩,⟨some 44,some (39,false),.un .not (.t 43)⟩,Zp 45 39 44])
 (.cond (.t 45)
 (.seq (.ops [
 Zb 10 false])
 .ret)
 .skip))
 (.seq (.seq (.ops [
 Zi 13 0])
 (.block 0
 (.loop
 (.seq (.seq (.ops [
 Zv 46 13,Zv 47 2,Zn 48 47,Zo 49 .lss 46 48])
 (.cond (.t 49)
 .skip
 (.exit 0)))
 (.seq (.block 1
 (.seq (.opsD [
 Zf 52 0 11,Zl 53 1 52,Zv 54 13,Za 55 4 53 54,Zu 56 4 55,Zv 57 2,Zv 58 13,Za 59 1 57 58,Zl 60 1 59,⟨some 61,none,.call gy [(.t 60)]⟩,⟨some 62,none,.call aW [(.t 56),(.t 61)]⟩,Zc 63 .neq 62 0,Zv 64 63,⟨some 65,some (64,false),.fad 0 (.t 11)⟩,⟨some 66,some (64,false),.load 1 false (.t 65)⟩,⟨some 67,some (64,false),.mv (.t 13)⟩,⟨some 68,some (64,false),.iad 4 (.t 66) (.t 67)⟩,⟨some 69,some (64,false),.load 4 true (.t 68)⟩,⟨some 70,some (64,false),.call aT [(.t 69)]⟩,⟨some 71,some (64,false),.un .not (.t 70)⟩,Zp 72 64 71] [[],[],[],[],[],[],[],[],[],[],[],[],[],[],[],[],[],[],[],[],[]])
 (.cond (.t 72)
 (.seq (.ops [
 Zb 10 false])
 .ret)
 .skip)))
 (.ops [
 Zv 50 13,Zc 51 .add 50 1,Zv 13 51]))))))
 (.seq (.seq (.ops [
 Zi 14 0])
 (.block 2
 (.loop
 (.seq (.seq (.ops [
 Zv 73 14,Zv 74 3,Zn 75 74,Zo 76 .lss 73 75])
 (.cond (.t 76)
 .skip
 (.exit 2)))
 (.seq (.block 3
 (.seq (.opsD [
 Zf 79 1 11,Zl 80 1 79,Zv 81 14,Za 82 4 80 81,Zu 83 4 82,Zv 84 3,Zv 85 14,Za 86 1 84 85,Zl 87 1 86,⟨some 88,none,.call gy [(.t 87)]⟩,⟨some 89,none,.call aW [(.t 83),(.t 88)]⟩,Zc 90 .neq 89 0,Zv 91 90,⟨some 92,some (91,false),.fad 1 (.t 11)⟩,⟨some 93,some (91,false),.load 1 false (.t 92)⟩,⟨some 94,some (91,false),.mv (.t 14)⟩,⟨some 95,some (91,false),.iad 4 (.t 93) (.t 94)⟩,⟨some 96,some (91,false),.load 4 true (.t 95)⟩,⟨some 97,some (91,false),.call aT [(.t 96)]⟩,⟨some 98,some (91,false),.un .not (.t 97)⟩,Zp 99 91 98] [[],[],[],[],[],[],[],[],[],[],[],[],[],[],[],[],[],[],[],[],[]])
 (.cond (.t 99)
 (.seq (.ops [
 Zb 10 false])
 .ret)
 .skip)))
 (.ops [
 Zv 77 14,Zc 78 .add 77 1,Zv 14 78]))))))
 (.seq (.ops [
 Zv 100 0,Zv 101 1,Zf 102 0 11,Zl 103 1 102,⟨some 104,none,.call lZ [(.t 100),(.t 101),(.t 103)]⟩,Zv 10 104])
 .ret)))))) }
def mf_law20_ClearMoney:MFunc :=
 { n:=194,np:=2,res:=[.t 4],body :=
 (.seq (.ops [
 Zb 4 false])
 (.seq (.ops [
 ⟨some 26,none,.call ld []⟩,Zv 5 26])
 (.seq (.seq (.ops [
 Zv 27 0,Zv 28 1,⟨some 29,none,.call ne [(.t 27),(.t 28)]⟩,Zt 30 29])
 (.cond (.t 30)
 (.seq (.ops [
 Zv 31 5,Zv 4 31])
 .ret)
 .skip))
 (.seq (.ops [
 Zv 33 0,Zv 34 1,⟨some 35,none,.call ew [(.t 33),(.t 34)]⟩,Zv 32 35,Zx 36 0 32,Zx 37 1 32,⟨some 6,none,.alloc 260006 [.nil,.nil,.nil]⟩,Zs 3 6 36,Zv 7 37])
 (.seq (.seq (.ops [
 Zv 38 7,Zc 39 .neq 38 0])
 (.cond (.t 39)
 (.seq (.ops [
 Zv 40 5,Zv 41 40,⟨some 42,some (41,true),.fad 0 (.t 6)⟩,⟨some 43,some (41,true),.load 1 false (.t 42)⟩,⟨some 44,some (41,true),.len (.t 43)⟩,⟨some 45,some (41,true),.fad 1 (.t 6)⟩,⟨some 46,some (41,true),.load 1 false (.t 45)⟩,⟨some 47,some (41,true),.len (.t 46)⟩,⟨some 48,some (41,true),.bin .add (.t 44) (.t 47)⟩,⟨some 49,some (41,true),.fad 2 (.t 6)⟩,⟨some 50,some (41,true),.load 1 false (.t 49)⟩,⟨some 51,some (41,true),.len (.t 50)⟩,⟨some 52,some (41,true),.bin .add (.t 48) (.t 51)⟩,⟨some 53,some (41,true),.bin .eql (.t 52) (.c (ZI 0))⟩,Zq 54 41 53,Zv 4 54])
 .ret)
 .skip))
 (.seq (.seq (.ops [
 Zf 55 1 6,Zl 56 1 55,Zn 57 56,Zv 58 1,Zn 59 58,Zo 60 .neq 57 59,Zv 61 60,⟨some 62,some (61,false),.fad 0 (.t 6)⟩,⟨some 63,some (61,false),.load 1 false (.t 62)⟩,⟨some 64,some (61,false),.len (.t 63)⟩,⟨some 65,some (61,false),.mv (.t 0)⟩,⟨some 66,some (61,false),.len (.t 65)⟩,⟨some 67,some (61,false),.bin .neq (.t 64) (.t 66)⟩,Zp 68 61 67])
 (.cond (.t 68)
 (.seq (.ops [
 Zb 4 false])
 .ret)
 .skip))
 (.seq (.ops [
 Zi 8 0])
 (.seq (.ops [
 ⟨some 69,none,.call gy [(.c (ZI 0))]⟩,⟨some 9,none,.alloc 260009 [(ZI 0),.nil,(ZI 0),.nil]⟩,Zs 4 9 69])
 (.seq (.seq (.ops [
 Zi 10 0])
 (.block 0
 (.loop
 (.seq (.seq (.ops [
 Zv 70 10,Zv 71 0,Zn 72 71,Zo 73 .lss 70 72])
 (.cond (.t 73)
 .skip
 (.exit 0)))
 (.seq (.block 1
 (.seq (.ops [
 Zv 76 8,Zv 77 0,Zv 78 10,Za 79 1 77 78,Zl 80 1 79,Zo 81 .add 76 80,Zv 8 81])
 (.seq (.ops [
 Zv 83 1,Zf 84 1 6,Zl 85 1 84,Zv 86 10,⟨some 87,none,.call nj [(.t 83),(.t 85),(.t 86)]⟩,Zv 82 87,Zx 88 0 82,Zx 89 1 82,Zv 11 88,Zv 12 89])
 (.seq (.ops [
 Zf 91 0 6,Zl 92 1 91,Zv 93 10,Za 94 4 92 93,Zu 95 4 94,Zv 96 11,⟨some 97,none,.call ic [(.t 95),(.t 96)]⟩,Zv 90 97,Zx 98 0 90,Zx 99 1 90,Zv 13 98,Zv 14 99])
 (.seq (.ops [
 Zv 101 11,Zv 102 12,⟨some 103,none,.call lV [(.t 101),(.t 102)]⟩,Zv 100 103,Zx 104 0 100,Zx 105 1 100,Zv 15 104,Zv 16 105])
 (.seq (.seq (.ops [
 Zv 106 14,Zc 107 .neq 106 0,Zv 108 107,⟨some 109,some (108,false),.mv (.t 13)⟩,⟨some 110,some (108,false),.mv (.t 12)⟩,⟨some 111,some (108,false),.call lK [(.t 109),(.t 110)]⟩,⟨some 112,some (108,false),.un .not (.t 111)⟩,Zp 113 108 112])
 (.cond (.t 113)
 (.seq (.ops [
 Zb 4 false])
 .ret)
 .skip))
 (.seq (.ops [
 Zf 114 0 6,Zl 115 1 114,Zv 116 10,Za 117 4 115 116,Zu 118 4 117,⟨some 17,none,.alloc 260017 [(ZI 0),.nil,(ZI 0),.nil]⟩,Zs 4 17 118])
 (.seq (.seq (.ops [
 Zi 18 0])
 (.block 2
 (.loop
 (.seq (.seq (.ops [
 Zv 119 18,Zv 120 12,Zn 121 120,Zo 122 .lss 119 121])
 (.cond (.t 122)
 .skip
 (.exit 2)))
 (.seq (.block 3
 (.seq (.opsD [
 Zu 126 4 17,Zv 127 12,Zv 128 18,Za 129 4 127 128,Zu 130 4 129,⟨some 131,none,.call dh [(.t 126),(.t 130)]⟩,Zv 125 131,Zx 132 0 125,Zx 133 1 125,⟨some 19,none,.alloc 260019 [(ZI 0),.nil,(ZI 0),.nil]⟩,Zs 4 19 132,Zv 20 133] [[],[],[],[],[],[],[],[],[],[0,4],[],[]])
 (.seq (.seq (.ops [
 Zv 134 20,Zc 135 .neq 134 0])
 (.cond (.t 135)
 (.seq (.ops [
 Zb 4 false])
 .ret)
 .skip))
 (.ops [
 Zu 136 4 19,Zs 4 17 136]))))
 (.ops [
 Zv 123 18,Zc 124 .add 123 1,Zv 18 124]))))))
 (.seq (.ops [
 Zu 138 4 9,Zu 139 4 17,⟨some 140,none,.call cS [(.t 138),(.t 139)]⟩,Zv 137 140,Zx 141 0 137,Zx 142 1 137,⟨some 21,none,.alloc 260021 [(ZI 0),.nil,(ZI 0),.nil]⟩,Zs 4 21 141,Zv 22 142])
 (.seq (.seq (.ops [
 Zv 143 22,Zc 144 .neq 143 0,Zv 145 144,⟨some 146,some (145,false),.fad 0 (.t 17)⟩,⟨some 147,some (145,false),.fad 0 (.t 146)⟩,⟨some 148,some (145,false),.load 1 false (.t 147)⟩,⟨some 149,some (145,false),.bin .lss (.t 148) (.c (ZI 0))⟩,Zp 150 145 149,Zv 151 150,⟨some 152,some (151,false),.fad 0 (.t 17)⟩,⟨some 153,some (151,false),.fad 0 (.t 152)⟩,⟨some 154,some (151,false),.load 1 false (.t 153)⟩,⟨some 155,some (151,false),.bin .gtr (.t 154) (.c (ZI 0))⟩,⟨some 156,some (151,false),.mv (.t 155)⟩,⟨some 157,some (156,true),.mv (.t 16)⟩,⟨some 158,some (151,false),.pick (.t 156) (.t 157) (.c (.dat (.bool false)))⟩,Zp 159 151 158])
 (.cond (.t 159)
 (.seq (.ops [
 Zb 4 false])
 .ret)
 .skip))
 (.ops [
 Zu 160 4 21,Zs 4 9 160])))))))))))
 (.ops [
 Zv 74 10,Zc 75 .add 74 1,Zv 10 75]))))))
 (.seq (.seq (.ops [
 Zi 23 0])
 (.block 4
 (.loop
 (.seq (.seq (.ops [
 Zv 161 23,Zv 162 1,Zn 163 162,Zo 164 .lss 161 163])
 (.cond (.t 164)
 .skip
 (.exit 4)))
 (.seq (.block 5
 (.seq (.seq (.ops [
 Zv 167 1,Zv 168 23,Za 169 4 167 168,Zf 170 1 169,Zl 171 1 170,Zc 172 .geq 171 0])
 (.cond (.t 172)
 (.exit 5)
 .skip))
 (.seq (.opsD [
 Zu 174 4 9,Zf 175 1 6,Zl 176 1 175,Zv 177 23,Za 178 4 176 177,Zu 179 4 178,⟨some 180,none,.call cS [(.t 174),(.t 179)]⟩,Zv 173 180,Zx 181 0 173,Zx 182 1 173,⟨some 24,none,.alloc 260024 [(ZI 0),.nil,(ZI 0),.nil]⟩,Zs 4 24 181,Zv 25 182] [[],[],[],[],[],[],[],[],[],[],[0,2,5],[],[]])
 (.seq (.seq (.ops [
 Zv 183 25,Zc 184 .neq 183 0])
 (.cond (.t 184)
 (.seq (.ops [
 Zb 4 false])
 .ret)
 .skip))
 (.ops [
 Zu 185 4 24,Zs 4 9 185])))))
 (.ops [
 Zv 165 23,Zc 166 .add 165 1,Zv 23 166]))))))
 (.seq (.opsD [
 Zv 186 5,Zv 187 186,⟨some 188,some (187,true),.load 4 true (.t 9)⟩,⟨some 189,some (187,true),.mv (.t 8)⟩,⟨some 190,some (187,true),.call gy [(.t 189)]⟩,⟨some 191,some (187,true),.call aW [(.t 188),(.t 190)]⟩,⟨some 192,some (187,true),.bin .eql (.t 191) (.c (ZI 0))⟩,Zq 193 187 192,Zv 4 193] [[],[],[],[],[],[],[],[],[]])
 .ret))))))))))) }

set_option maxRecDepth 10000
set_option maxHeartbeats 4000000
def clL (c:ClR):List Data:=[.int .i64 c.1,.int .i64 c.2.1,.int .i64 c.2.2.1,.int .i64 c.2.2.2]
theorem lH (c:ClR):(clL c).length=4:=rfl
theorem tk (c:ClR):((clL c).map MV.dat).all MV.one=true:=rfl
theorem fj:∀ a b:ClR,clL a=clL b→a=b:=by
 rintro⟨a1,a2,a3,a4⟩ ⟨b1,b2,b3,b4⟩ h;simp only[clL,List.cons.injEq,Data.int.injEq,true_and,and_true] at h;obtain⟨rfl,rfl,rfl,rfl⟩:=h
 rfl
theorem FM {cs:List ClR} {i:Nat} {c:ClR} (h:cs[i]?=some c) (F:ClR→Int):bt (cs.take (i+1)) F=bt (cs.take i) F+F c:=by
 rw[List.take_add_one,h,jW];simp [bt]
def okCs (cs:List ClR):Prop:=cs.length≤2000∧∀ c∈cs,0≤c.2.2.2∧c.2.2.2≤1000000000000000
theorem okCs.sum {cs:List ClR} (h:okCs cs) (p:ClR→Prop) [DecidablePred p] (i:Nat):0≤bt (cs.take i) (fun c=>if p c then c.2.2.2 else 0)∧bt (cs.take i) (fun c=>if p c then c.2.2.2 else 0)≤2000000000000000000:=by
 have h1:=tj (cs:=cs.take i) (F:=fun c=>if p c then c.2.2.2 else 0) (B:=1000000000000000) (by omega) fun c hc=>by
  have:=h.2 c (List.mem_of_mem_take hc)
  try dsimp only
  split<;>omega
 have h2:=h.1;have h3:(cs.take i).length≤cs.length:=by rw[List.length_take];omega
 omega
theorem Fm {cash:List Int} {cs:List ClR} (h:dq cash cs=true):okCs cs :=
 ⟨(rightD_iff.1 h).2.1,fun c hc=>⟨((rightD_iff.1 h).2.2.2 c hc).2.2.2.2.2.2.1,((rightD_iff.1 h).2.2.2 c hc).2.2.2.2.2.2.2⟩⟩
theorem vH {n:Int} (h:ct n):fW (aS n) (aS 1)=(ah (n:Rat),0):=by
 rw[i9 (jI h) (by decide +kernel) (by decide),ae4,show ((1:Int):Rat)=1 from rfl,show (n:Rat) / 1=n by grind]
noncomputable def fx:List Data→Option PRes:=FF (α:=Int) (fun (n:Int)=>([.int .i64 n]:List Data)) (fun (n:Int)=>aH (ct n) (.same (.agg (ad (ah (n:Rat))))))
theorem xS:∀ a b:Int,(fun (n:Int)=>([.int .i64 n]:List Data)) a=(fun (n:Int)=>([.int .i64 n]:List Data)) b→a=b:=by
  intro n1 n2 h;simp only[List.cons.injEq,Data.int.injEq,Data.agg.injEq,Data.sl.injEq,Data.bool.injEq,Data.str.injEq,Data.ptr.injEq,Data.tup.injEq,Prod.mk.injEq,true_and,and_true] at h ⊢
  first | exact h | simpa [ae5,and_assoc] using h | grind
@[go_sem] theorem eP (n:Int) (hc:ct n):fx [.int .i64 n]=some (.same (.agg (ad (ah (n:Rat))))):=(aY xS n).trans (al hc _)
theorem JT (T:Tab) (sQ:T iJ=mkE BW) (n:Int) (hc:ct n) :
  wp T mf_clear_whole.body (bF mf_clear_whole.res (.same (.agg (ad (ah (n:Rat)))))) ⟨ax [.dat (.int .i64 n)],emp⟩:=by
 refine ap ?_;simp only[mf_clear_whole];have h1:ct 1:=by unfold ct;omega
 have h:=vH hc;generalize ah (n:Rat)=F at *;obtain⟨⟨a,b⟩,⟨c,d⟩⟩:=F;simp only[go_sem,go_sem_proc,ae6,sQ,hc,h1,h,bD,ad]
 repeat' (first|refine qS ?_ ?_|fail)<;>intro h<;>simp only[h,go_sem,go_sem_proc,ae6,sQ,hc,h1,h,bD,ad]
noncomputable def mz:List Data→Option PRes:=FF (α:=Int) (fun (n:Int)=>([.int .i64 n]:List Data)) (fun (n:Int)=>aH (ct n) (.same (.agg (ad (ah (n:Rat))))))
theorem xC:∀ a b:Int,(fun (n:Int)=>([.int .i64 n]:List Data)) a=(fun (n:Int)=>([.int .i64 n]:List Data)) b→a=b:=by
  intro n1 n2 h;simp only[List.cons.injEq,Data.int.injEq,Data.agg.injEq,Data.sl.injEq,Data.bool.injEq,Data.str.injEq,Data.ptr.injEq,Data.tup.injEq,Prod.mk.injEq,true_and,and_true] at h ⊢
  first | exact h | simpa [ae5,and_assoc] using h | grind
@[go_sem] theorem Bx (n:Int) (hc:ct n):mz [.int .i64 n]=some (.same (.agg (ad (ah (n:Rat))))):=(aY xC n).trans (al hc _)
theorem Jw (T:Tab) (sQ:T iJ=mkE BW) (n:Int) (hc:ct n) :
  wp T mf_rank_whole.body (bF mf_rank_whole.res (.same (.agg (ad (ah (n:Rat)))))) ⟨ax [.dat (.int .i64 n)],emp⟩:=by
 refine ap ?_;simp only[mf_rank_whole];have h1:ct 1:=by unfold ct;omega
 have h:=vH hc;generalize ah (n:Rat)=F at *;obtain⟨⟨a,b⟩,⟨c,d⟩⟩:=F;simp only[go_sem,go_sem_proc,ae6,sQ,hc,h1,h,bD,ad]
 repeat' (first|refine qS ?_ ?_|fail)<;>intro h<;>simp only[h,go_sem,go_sem_proc,ae6,sQ,hc,h1,h,bD,ad]
noncomputable def nJ:List Data→Option PRes:=FF (α:=Int) (fun (n:Int)=>([.int .i64 n]:List Data)) (fun (n:Int)=>aH (ct n) (.same (.agg (ad (ah (n:Rat))))))
theorem yq:∀ a b:Int,(fun (n:Int)=>([.int .i64 n]:List Data)) a=(fun (n:Int)=>([.int .i64 n]:List Data)) b→a=b:=by
  intro n1 n2 h;simp only[List.cons.injEq,Data.int.injEq,Data.agg.injEq,Data.sl.injEq,Data.bool.injEq,Data.str.injEq,Data.ptr.injEq,Data.tup.injEq,Prod.mk.injEq,true_and,and_true] at h ⊢
  first | exact h | simpa [ae5,and_assoc] using h | grind
@[go_sem] theorem zY (n:Int) (hc:ct n):nJ [.int .i64 n]=some (.same (.agg (ad (ah (n:Rat))))):=(aY yq n).trans (al hc _)
theorem Lm (T:Tab) (Ob:T nM=mkE JC) (n:Int) (hc:ct n) :
  wp T mf_law20_of.body (bF mf_law20_of.res (.same (.agg (ad (ah (n:Rat)))))) ⟨ax [.dat (.int .i64 n)],emp⟩:=by
 refine ap ?_;simp only[mf_law20_of];have h1:ct 1:=by unfold ct;omega
 have h:=vH hc;generalize ah (n:Rat)=F at *;obtain⟨⟨a,b⟩,⟨c,d⟩⟩:=F;simp only[go_sem,go_sem_proc,ae6,Ob,hc,h1,h,bD,ad]
 repeat' (first|refine qS ?_ ?_|fail)<;>intro h<;>simp only[h,go_sem,go_sem_proc,ae6,Ob,hc,h1,h,bD,ad]
def lL (m:Int):Bool:=!(decide (m>1000000)&&decide (m≤1000000000000000))
def vR (cash:List Int) (cs:List ClR):Bool:=!(decide ((cash.length:Int)>5))&&(!(decide ((cs.length:Int)>12))&&(cash.all lL&&cs.all fun c=>lL c.2.2.2))
noncomputable def DH:List Data→Option PRes:=FF (α:=(List Int) × (List ClR)) (fun (cash,cs)=>([.sl (cash.map aa),.sl (cs.map clL)]:List Data)) (fun (cash,cs)=>some (.same (.bool (vR cash cs))))
theorem C6:∀ a b:(List Int) × (List ClR),(fun (cash,cs)=>([.sl (cash.map aa),.sl (cs.map clL)]:List Data)) a=(fun (cash,cs)=>([.sl (cash.map aa),.sl (cs.map clL)]:List Data)) b→a=b:=by
  rintro⟨cash1,cs1⟩ ⟨cash2,cs2⟩ h;simp only[List.cons.injEq,Data.sl.injEq] at h;exact Prod.ext (af aj _ _ h.1) (af fj _ _ h.2.1)
@[go_sem] theorem Gz (cash:List Int) (cs:List ClR):DH [.sl (cash.map aa),.sl (cs.map clL)]=some (.same (.bool (vR cash cs))):=aY C6 (cash,cs)
theorem OW (T:Tab)  (cash:List Int) (cs:List ClR) :
  wp T mf_ref20_Few.body (bF mf_ref20_Few.res (.same (.bool (vR cash cs)))) ⟨ax [.dat (.sl (cash.map aa)),.dat (.sl (cs.map clL))],emp⟩:=by
 refine ap ?_;simp only[mf_ref20_Few];unfold vR;rcases e1:decide ((cash.length:Int)>5)
 ·rcases e2:decide ((cs.length:Int)>12)
  ·have l1:cash.length≤5:=by have:=of_decide_eq_false e1;omega
   have l2:cs.length≤12:=by have:=of_decide_eq_false e2;omega
   simp only[go_sem,go_sem_proc,ae6,e1,e2,ae7];refine ae [0,1] [] (fun (i:Nat) tm mem=>i≤cash.length∧(cash.take i).all lL=true∧tm 5 = .dat (.int .i64 i)) (fun i=>cash.length-i) 0 (by refine⟨by omega,by simp,rfl⟩) ?_;intro vs ms hvs hms;simp only[go_sem,go_sem_proc,ae6,ae7] at hvs hms;subst hvs hms;rintro i tm mem hk hm ⟨hi,hf,h5⟩;simp only[go_sem,go_sem_proc,ae6,List.cons.injEq] at hk;obtain⟨h0,h1⟩:=hk;rcases ae8 (i<cash.length) with hlt | hge
   ·obtain⟨x,hx⟩:∃ c,cash[i]?=some c:=⟨_,aev hlt⟩
    have d1:decide ((i:Int)<(cash.length:Int))=true:=decide_eq_true (by omega);have w3:IntKind.i64.wrap ((i:Int)+1)=((i+1:Nat):Int):=by rw[an _ (by omega) (by omega)];omega
    rcases c1:decide (x>1000000)
    ·have hc:lL x=true:=by unfold lL;rw[c1];rfl
     refine qI ?_
     repeat' (intro h<;>simp only[h,go_sem,go_sem_proc,ae6,h0,h1,h5,hx,d1,w3,c1,aa,ae7,aeT]<;>try refine qS ?_ ?_)
     exact⟨i+1,by omega,by omega,by rw[rq hx,hf,hc];rfl,rfl⟩
    ·rcases c2:decide (x≤1000000000000000)
     ·have hc:lL x=true:=by unfold lL;rw[c1,c2];rfl
      refine qI ?_
      repeat' (intro h<;>simp only[h,go_sem,go_sem_proc,ae6,h0,h1,h5,hx,d1,w3,c1,c2,aa,ae7,aeT]<;>try refine qS ?_ ?_)
      exact⟨i+1,by omega,by omega,by rw[rq hx,hf,hc];rfl,rfl⟩
     ·have hc:lL x=false:=by unfold lL;rw[c1,c2];rfl
      rw[Et hx hc];refine qI ?_
      repeat' (intro h<;>simp only[h,go_sem,go_sem_proc,ae6,h0,h1,h5,hx,d1,w3,c1,c2,aa,ae7,aeT,aeZ,aeW,ae9]<;>try refine qS ?_ ?_)
   ·have d1:decide ((i:Int)<(cash.length:Int))=false:=decide_eq_false (by omega)
    have hca:cash.all lL=true:=by rw[afa (by omega)] at hf;exact hf
    rw[hca];simp only[go_sem,go_sem_proc,ae6,h0,h1,h5,d1,ae7];refine ae [1] [] (fun (i:Nat) tm mem=>i≤cs.length∧(cs.take i).all (fun c=>lL c.2.2.2)=true∧tm 6 = .dat (.int .i64 i)) (fun i=>cs.length-i) 0 (by refine⟨by omega,by simp,rfl⟩) ?_;intro vs ms hvs hms;simp only[go_sem,go_sem_proc,ae6,ae7,h1] at hvs hms;subst hvs hms;clear h0 h1 h5 hm;rintro i tm mem hk hm ⟨hi,hf,h6⟩;simp only[go_sem,go_sem_proc,ae6,List.cons.injEq] at hk;have h1:=hk;rcases ae8 (i<cs.length) with hlt | hge
    ·obtain⟨⟨a,b,k,x⟩,hx⟩:∃ c,cs[i]?=some c:=⟨_,aev hlt⟩
     have d1:decide ((i:Int)<(cs.length:Int))=true:=decide_eq_true (by omega);have w3:IntKind.i64.wrap ((i:Int)+1)=((i+1:Nat):Int):=by rw[an _ (by omega) (by omega)];omega
     rcases c1:decide (x>1000000)
     ·have hc:lL x=true:=by unfold lL;rw[c1];rfl
      refine qI ?_
      repeat' (intro h<;>simp only[h,go_sem,go_sem_proc,ae6,h1,h6,hx,d1,w3,c1,clL,ae7,aeT]<;>try refine qS ?_ ?_)
      exact⟨i+1,by omega,by omega,by rw[rq hx,hf];exact hc,rfl⟩
     ·rcases c2:decide (x≤1000000000000000)
      ·have hc:lL x=true:=by unfold lL;rw[c1,c2];rfl
       refine qI ?_
       repeat' (intro h<;>simp only[h,go_sem,go_sem_proc,ae6,h1,h6,hx,d1,w3,c1,c2,clL,ae7,aeT]<;>try refine qS ?_ ?_)
       exact⟨i+1,by omega,by omega,by rw[rq hx,hf];exact hc,rfl⟩
      ·have hc:lL x=false:=by unfold lL;rw[c1,c2];rfl
       rw[Et (p:=fun c:ClR=>lL c.2.2.2) hx hc];refine qI ?_
       repeat' (intro h<;>simp only[h,go_sem,go_sem_proc,ae6,h1,h6,hx,d1,w3,c1,c2,clL,ae7,aeT,aeZ,aeW]<;>try refine qS ?_ ?_)
    ·have d1:decide ((i:Int)<(cs.length:Int))=false:=decide_eq_false (by omega)
     have hca:cs.all (fun c=>lL c.2.2.2)=true:=by rw[afa (by omega)] at hf;exact hf
     rw[hca];refine qI ?_
     repeat' (intro h<;>simp only[h,go_sem,go_sem_proc,ae6,h1,h6,d1,ae7,aeZ,aeW]<;>try refine qS ?_ ?_)
  ·refine qI ?_
   repeat' (intro h<;>simp only[h,go_sem,go_sem_proc,ae6,e1,e2,ae7,afb,ae9,Bool.and_false]<;>try refine qS ?_ ?_)
 ·refine qI ?_
  repeat' (intro h<;>simp only[h,go_sem,go_sem_proc,ae6,e1,ae7,afb,ae9]<;>try refine qS ?_ ?_)
theorem Ee {x:List Data} (h:Fits [.int .i64,.int .i64,.int .i64,.int .i64] x):∃ c:ClR,x=clL c:=by
 simp only[Fit,Fits] at h;obtain⟨_,_,rfl,⟨a,rfl,-⟩,_,_,rfl,⟨b,rfl,-⟩,_,_,rfl,⟨c,rfl,-⟩,_,_,rfl,⟨d,rfl,-⟩,rfl⟩:=h;exact⟨(a,b,c,d),rfl⟩
theorem Dw {es:List (List Data)} (h:∀ x∈es,Fit (.st [.int .i64,.int .i64,.int .i64,.int .i64]) x):∃ l:List ClR,es=l.map clL:=by
 obtain⟨l,e,-⟩:=u5 (e:=clL) (good:=fun _=>True) fun x hx=>by
  have:=h x hx;unfold Fit at this;obtain⟨c,rfl⟩:=Ee this;exact⟨c,rfl,trivial⟩
 exact⟨l,e⟩
end Go.Mini
namespace Go.Mini
open Classical
structure Alike (d e:Day):Prop where
 n:d.n=e.n
 cash:d.cash=e.cash
 mem:∀ c,c∈d.cl↔c∈e.cl
 sum:∀ F,sumC d.cl F=sumC e.cl F
theorem Alike.symm {d e:Day} (h:Alike d e):Alike e d:=⟨h.n.symm,h.cash.symm,fun c=>(h.mem c).symm,fun F=>(h.sum F).symm⟩
section
variable {d e:Day} (h:Alike d e)
include h
theorem Alike.U:d.U=e.U:=by funext k r;exact h.sum _
theorem Alike.S:d.S=e.S:=by funext k r;exact h.sum _
theorem Alike.w:d.w=e.w:=by funext c;unfold Day.w;rw[h.S]
theorem Alike.q:d.q=e.q:=by funext f x c;unfold Day.q;rw[h.U,h.w]
theorem Alike.l:d.l=e.l:=by funext f P x c;unfold Day.l;rw[h.U,h.w]
theorem Alike.pay:d.pay=e.pay:=by funext x c;unfold Day.pay;rw[h.U,h.w]
theorem Alike.into:d.into=e.into:=by funext a i;unfold Day.into;rw[h.cash,h.sum]
theorem Alike.phi:d.phi=e.phi:=by funext x i;unfold Day.phi;rw[h.into,h.pay]
theorem Alike.sumIn:d.sumIn=e.sumIn:=by funext C x;unfold Day.sumIn;rw[h.n]
theorem Alike.cap:d.cap=e.cap:=by funext f g C k;unfold Day.cap;rw[h.U]
theorem Alike.closed (f:Nat→Nat) (C:Nat→Prop):d.closed f C↔e.closed f C:=by
 unfold Day.closed;exact⟨fun k c hc=>k c ((h.mem c).2 hc),fun k c hc=>k c ((h.mem c).1 hc)⟩
theorem Alike.inv {f:Nat→Nat} {g:Nat→Rat} (a:Inv d f g):Inv e f g:=by
 obtain⟨h1,h2,h3,h4,h5⟩:=a;refine⟨h1,fun i hi=>?_,fun i hi hf=>?_,fun i hi hf=>?_,fun C hC hC2 hC3=>?_⟩
 ·have:=h2 i (by rw[h.n];exact hi)
  rwa [h.into,h.q] at this
 ·have:=h3 i (by rw[h.n];exact hi) hf
  rwa [h.U] at this
 ·have:=h4 i (by rw[h.n];exact hi) hf
  rwa [h.U] at this
 ·have:=h5 C hC (fun i hi=>by rw[h.n];exact hC2 i hi) ((h.closed f C).2 hC3)
  rwa [h.sumIn,h.into,h.q,h.cap,h.U] at this
theorem Alike.ok (a:d.OK):e.OK:=⟨fun c hc=>by rw[←h.n];exact a.fr c ((h.mem c).2 hc),fun c hc=>by rw[←h.n];exact a.to c ((h.mem c).2 hc),fun c hc=>a.rk c ((h.mem c).2 hc),fun c hc=>a.am c ((h.mem c).2 hc),fun i hi=>by rw[←h.cash];exact a.cash i (by rw[h.n];exact hi)⟩
theorem Alike.isTop {f:Nat→Nat} {x:Nat→Rat} (a:IsTop d f x):IsTop e f x:=by
 obtain⟨g,h1,h2,h3⟩:=a;refine⟨g,h.inv h1,fun i hi=>?_,fun i hi=>h3 i (by rw[h.n];exact hi)⟩
 have:=h2 i (by rw[h.n];exact hi)
 rwa [h.into,h.q] at this
theorem Alike.isTop_iff:IsTop d=IsTop e:=by
 funext f x
 exact propext ⟨h.isTop,h.symm.isTop⟩
theorem Alike.top:d.top=e.top:=by
 funext f
 unfold Day.top;rw[h.isTop_iff]
theorem Alike.falls:d.falls=e.falls:=by
 funext f
 unfold Day.falls;rw[h.top,h.U,h.n]
theorem Alike.fallRank:d.fallRank=e.fallRank:=by
 funext x i k
 induction k with
 | zero=>rfl
 | succ k ih=>unfold Day.fallRank;rw[h.U,ih]
theorem Alike.fallen:d.fallen=e.fallen:=by
 funext f x i
 unfold Day.fallen;rw[h.n,h.U,h.fallRank]
theorem Alike.rounds:d.rounds=e.rounds:=by
 funext k
 induction k with
 | zero=>funext f;rfl
 | succ k ih =>
  funext f
  unfold Day.rounds;rw[h.falls,h.fallen,h.top,ih]
end
def aX (cs:List ClR) (i k:Nat):List ClR:=cs.filter fun c=>c.1==(i:Int)&&c.2.2.1==(k:Int)
theorem cell_mem {cs:List ClR} {i k:Nat} {c:ClR}:c∈aX cs i k↔c∈cs∧c.1=(i:Int)∧c.2.2.1=(k:Int):=by
 unfold aX;rw[aew,aeX,beq_iff_eq,beq_iff_eq]
def aI (n:Nat) (cs:List ClR):List ClR:=(aeo n).flatMap fun i=>(aeo 10).flatMap fun k=>aX cs i k
theorem Gf (cs:List ClR) (i k j r:Nat):aX (aX cs i k) j r=if i=j∧k=r then aX cs i k else []:=by
 unfold aX;rw[List.filter_filter]
 by_cases h:i=j∧k=r
 ·obtain⟨rfl,rfl⟩:=h
  rw[if_pos ⟨rfl,rfl⟩]
  congr 1
  funext c
  simp
 ·rw[if_neg h,List.filter_eq_nil_iff]
  intro c _;simp only[aeX,beq_iff_eq];rintro⟨⟨h1,h2⟩,h3,h4⟩;exact h ⟨by omega,by omega⟩
theorem AL {α:Type} {n i:Nat} (hi:i<n) (F:Nat→List α) (h:∀ k,k<n→k≠i→F k=[]):(aeo n).flatMap F=F i:=by
 induction n with
 | zero=>omega
 | succ n ih =>
  rw[aep,afc,afd,afe,aeu]
  by_cases hn:i=n
  ·subst hn
   have:(aeo i).flatMap F=[]:=by
    rw[aff];intro k hk;have:=List.mem_range.1 hk;exact h k (by omega) (by omega)
   rw[this,afg]
  ·rw[ih (by omega) fun k hk=>h k (by omega),h n (by omega) (Ne.symm hn),aeu]
theorem wo {α:Type} (l:List α) (F:α→List ClR) (i k:Nat):aX (l.flatMap F) i k=l.flatMap fun x=>aX (F x) i k:=by
 unfold aX
 induction l with
 | nil=>rfl
 | cons a l ih=>rw[afd,afd,aeq,ih]
theorem vu {n i k:Nat} (cs:List ClR) (hi:i<n) (hk:k<10):aX (aI n cs) i k=aX cs i k:=by
 unfold aI;rw[wo];simp only[wo,Gf];rw[AL hi,AL hk]
 ·rw[if_pos ⟨rfl,rfl⟩]
 ·intro r _ hr
  rw[if_neg fun h=>hr h.2]
 ·intro j _ hj
  rw[aff];intro r _;rw[if_neg fun h=>hj h.1]
theorem qx {n:Nat} {a b:List ClR} (h:∀ i,i<n→∀ k,k<10→aX a i k=aX b i k):aI n a=aI n b:=by
 unfold aI;rw[afh,afh]
 congr 1
 refine afi fun i hi=>?_
 rw[afh,afh]
 congr 1
 exact afi fun k hk=>h i (List.mem_range.1 hi) k (List.mem_range.1 hk)
theorem yd (n:Nat) (cs:List ClR):aI n (aI n cs)=aI n cs:=qx fun _ hi _ hk=>vu cs hi hk
theorem pG {n:Nat} {cs:List ClR} (hr:∀ c∈cs,0≤c.1∧c.1<n∧0≤c.2.2.1∧c.2.2.1<10) {c:ClR}:c∈aI n cs↔c∈cs:=by
 unfold aI;simp only[List.mem_flatMap,aex,cell_mem]
 constructor
 ·rintro⟨i,-,k,-,h,-⟩
  exact h
 ·intro hc
  have:=hr c hc;exact⟨c.1.toNat,by omega,c.2.2.1.toNat,by omega,hc,by omega,by omega⟩
theorem jc (a b:List Cl) (F:Cl→Rat):sumC (a++b) F=sumC a F+sumC b F:=by
 induction a with
 | nil=>simp only[afg,sumC];grind
 | cons c l ih=>rw[List.cons_append,sumC,sumC,ih];grind
theorem vk (F:Nat→List ClR) (G:Cl→Rat) (n:Nat):sumC (((aeo n).flatMap F).map bm) G=sumQ n fun i=>sumC ((F i).map bm) G:=by
 induction n with
 | zero=>rfl
 | succ n ih=>rw[aep,afc,afj,jc,ih,sumQ,afd,afe,aeu]
theorem Hh {l:List Cl} (hl:∀ c∈l,c.rk<10) (b:Nat→Cl→Rat):sumQ 10 (fun k=>sumC l (fun c=>if c.rk=k then b k c else 0))=sumC l (fun c=>b c.rk c):=by
 induction l with
 | nil=>exact gR fun k _=>rfl
 | cons c l ih =>
  rw[sumC,←ih fun x hx=>hl x (aeL _ hx)]
  have e:(fun k:Nat=>sumC (c::l) (fun c=>if c.rk=k then b k c else 0))=fun k=>(if c.rk=k then b k c else 0)+sumC l (fun c=>if c.rk=k then b k c else 0):=rfl
  rw[e,jT]
  congr 1
  rw[im (hl c aeK) fun k _ hk=>if_neg (Ne.symm hk),if_pos rfl]
theorem uL {cs:List ClR} (hr:∀ c∈cs,0≤c.1∧0≤c.2.2.1) (i k:Nat) (G:Cl→Rat):sumC ((aX cs i k).map bm) G=sumC (cs.map bm) fun c=>if c.fr=i∧c.rk=k then G c else 0:=by
 induction cs with
 | nil=>rfl
 | cons c l ih =>
  have h0:=hr c aeK;have ih:=ih fun x hx=>hr x (aeL _ hx)
  unfold aX at ih ⊢;rw[afk,sumC,←ih]
  by_cases h:(bm c).fr=i∧(bm c).rk=k
  ·obtain⟨h1,h2⟩:=h
   have e1:c.1=(i:Int):=by have:c.1.toNat=i:=h1;omega
   have e2:c.2.2.1=(k:Int):=by have:c.2.2.1.toNat=k:=h2;omega
   rw[aer (by simp [e1,e2]),afk,sumC,if_pos ⟨h1,h2⟩]
  ·rw[if_neg h,aet,aei]
   intro hb;rw[aeX,beq_iff_eq,beq_iff_eq] at hb;refine h ⟨?_,?_⟩
   ·show c.1.toNat=i;omega
   ·show c.2.2.1.toNat=k;omega
theorem uG {n:Nat} {cs:List ClR} (hr:∀ c∈cs,0≤c.1∧c.1<n∧0≤c.2.2.1∧c.2.2.1<10) (G:Cl→Rat):sumC ((aI n cs).map bm) G=sumC (cs.map bm) G:=by
 unfold aI;rw[vk]
 have hfr:∀ c∈cs.map bm,c.fr<n:=fun c hc=>by
  obtain⟨x,hx,rfl⟩:=List.mem_map.1 hc;have:=hr x hx
  show x.1.toNat<n;omega
 have hrk:∀ c∈cs.map bm,c.rk<10:=fun c hc=>by
  obtain⟨x,hx,rfl⟩:=List.mem_map.1 hc;have:=hr x hx
  show x.2.2.1.toNat<10;omega
 have e:(fun i=>sumC (((aeo 10).flatMap fun k=>aX cs i k).map bm) G)=fun i=>sumC (cs.map bm) fun c=>if c.fr=i then G c else 0:=by
  funext i
  rw[vk,←Hh hrk fun _ c=>if c.fr=i then G c else 0]
  congr 1
  funext k
  rw[uL fun c hc=>⟨(hr c hc).1,(hr c hc).2.2.1⟩]
  refine cI fun c _=>?_
  by_cases h1:c.rk=k
  ·rw[if_pos h1]
   by_cases h2:c.fr=i
   ·rw[if_pos ⟨h2,h1⟩,if_pos h2]
   ·rw[if_neg fun h=>h2 h.1,if_neg h2]
  ·rw[if_neg h1,if_neg fun h=>h1 h.2]
 rw[e,xY hfr fun _ c=>G c]
theorem qa {cash:List Int} {cs:List ClR} (h:dq cash cs=true):Alike (ab cash cs) (ab cash (aI cash.length cs)):=by
 have hr:∀ c∈cs,0≤c.1∧c.1<cash.length∧0≤c.2.2.1∧c.2.2.1<10:=fun c hc=>by
  have:=(rightD_iff.1 h).2.2.2 c hc;exact⟨this.1,this.2.1,this.2.2.2.2.1,this.2.2.2.2.2.1⟩
 refine⟨rfl,rfl,fun c=>?_,fun F=>(uG hr F).symm⟩
 show c∈cs.map bm↔c∈(aI cash.length cs).map bm;rw[afl,afl];simp only[pG hr]
theorem uY {n:Nat} {cs:List ClR} (hr:∀ c∈cs,0≤c.1∧c.1<n∧0≤c.2.2.1∧c.2.2.1<10):(aI n cs).length=cs.length:=by
 have h1:∀ l:List ClR,sumC (l.map bm) (fun _=>1)=(l.length:Rat):=fun l=>by
  induction l with
  | nil=>rfl
  | cons a l ih=>rw[afk,sumC,ih,afm,Rat.natCast_add,Rat.add_comm];rfl
 have:=uG hr fun _=>1
 rw[h1,h1] at this
 exact_mod_cast this
theorem mV {cash:List Int} {cs:List ClR} (h:SmallD cash cs):SmallD cash (aI cash.length cs):=by
 have hri:=rightD_iff.1 h.right
 have hr:∀ c∈cs,0≤c.1∧c.1<cash.length∧0≤c.2.2.1∧c.2.2.1<10:=fun c hc=>by
  have:=hri.2.2.2 c hc;exact⟨this.1,this.2.1,this.2.2.2.2.1,this.2.2.2.2.2.1⟩
 refine⟨rightD_iff.2 ⟨hri.1,by rw[uY hr];exact hri.2.1,hri.2.2.1,fun c hc=>hri.2.2.2 c ((pG hr).1 hc)⟩,h.n5,by rw[uY hr];exact h.c12,fun c hc=>h.am c ((pG hr).1 hc)⟩
end Go.Mini
namespace Go.Mini
open Classical
noncomputable def Day.fend (d:Day):Nat→Nat:=(d.rounds (10*d.n) fun _=>10).2
noncomputable def Day.frs (d:Day):List (List Nat):=(d.rounds (10*d.n) fun _=>10).1
noncomputable def Day.gr (d:Day):Nat→Rat:=d.top d.fend
theorem tJ (n k:Nat):kR n (fun _=>k)=k*n:=by
 induction n with
 | zero=>rfl
 | succ n ih=>rw[kR,ih,Nat.mul_succ]
section
variable {d:Day} (hd:d.OK)
include hd
theorem Day.OK.hex:∀ f,Reach d f→∃ h,IsTop d f h:=fun _ hr=>O9 hd hr
theorem kF:Reach d d.fend∧d.falls d.fend=[]:=vd hd hd.hex (10*d.n) (fun _=>10) (Reach.start hd) (by rw[tJ];exact aen _)
theorem qy:IsTop d d.fend d.gr:=Day.top_spec (hd.hex _ (kF hd).1)
theorem N5:∀ i,i<d.n→d.U i (d.fend i)≤d.gr i:=by
 intro i hi;apply aey;intro hn;have:i∈d.falls d.fend:=Day.mem_falls.2 ⟨hi,by unfold Day.gr at hn;grind⟩
 rw[(kF hd).2] at this
 cases this
theorem rB:(∀ i,i<d.n→d.gr i=d.phi d.gr i)∧∀ i,i<d.n→(d.fend i<10↔d.gr i<d.U i 10):=by
 obtain⟨g,h1,h2,h3⟩:=qy hd;exact h1.final hd h2 h3 (N5 hd)
theorem kC {i:Nat} (hi:i<d.n):0≤d.gr i:=(qy hd).nonneg hd hi
end
theorem S_nonneg {d:Day} (hd:d.OK) (i k:Nat):0≤d.S i k:=dA fun c hc=>by
 try dsimp only
 split
 ·exact hd.am c hc
 ·exact ae0
end Go.Mini
namespace Go.Mini
open Classical
section
variable {d:Day} (hd:d.OK)
include hd
omit hd in
theorem Gr {i:Nat} {x:Rat} (h0:0≤x):∀ k,x<d.U i k→∃ r,r<k∧d.U i r≤x∧x<d.U i (r+1):=by
 intro k
 induction k with
 | zero=>intro h;rw[d.U_zero] at h;grind
 | succ k ih =>
  intro h
  by_cases h2:x<d.U i k
  ·obtain⟨r,h3,h4⟩:=ih h2
   exact⟨r,by omega,h4⟩
  ·exact⟨k,by omega,by grind,h⟩
theorem Gd {i:Nat} {x:Nat→Rat} (h0:0≤x i):(∃ c∈d.cl,c.fr=i∧d.pay x c<c.am)↔x i<d.U i 10:=by
 constructor
 ·rintro⟨c,hc,rfl,h1⟩
  apply aey;intro h2;have:=hd.U_mono c.fr (r:=c.rk+1) (s:=10) (by have:=hd.rk c hc;omega);unfold Day.pay at h1;rw[if_pos (by grind)] at h1;grind
 ·intro h1
  obtain⟨r,h2,h3,h4⟩:=Gr h0 10 h1;have h5:=d.U_succ i r;have hS:0<d.S i r:=by grind
  obtain⟨c,hc,hp⟩:=rA hS
  by_cases hcc:c.fr=i∧c.rk=r
  ·obtain⟨rfl,rfl⟩:=hcc
   rw[if_pos ⟨rfl,rfl⟩] at hp;refine⟨c,hc,rfl,?_⟩;unfold Day.pay;rw[if_neg (by grind),ka (by grind)];have hw:=hd.w_pos hc hp;have h6:=Day.w_S hS;have h7:=Rat.mul_lt_mul_of_pos_left (show x c.fr-d.U c.fr c.rk<d.S c.fr c.rk by grind) hw;grind
  ·rw[if_neg hcc] at hp
   grind
end
end Go.Mini
namespace Go.Mini
open Classical
section
variable {d:Day} (hd:d.OK) {k:Rat} (hk:0<k)
include hk
end
section
variable {d:Day} (hd:d.OK) (who:Nat)
include hd
end
end Go.Mini
namespace Go.Mini
open Classical
theorem Fl {d:Day} (hd:d.OK) {f:Nat→Nat} {g:Nat→Rat} (hi:Inv d f g):∀ m (P:Nat→Prop),idle d P≤m→Pay d f g P (d.lst f P)→∃ P,PayG d f P∧∀ i,i<d.n→d.lst f P i=d.top f i
 | m,P,hm,hp=>by
  by_cases hs:∀ i,i<d.n→f i<10→d.U i (f i)<d.lst f P i→P i
  ·exact⟨P,⟨hd,g,hi,hp⟩,hp.is_top hd hi hs⟩
  ·have⟨i,h1,h2,h3,h4⟩:∃ i,i<d.n∧f i<10∧d.U i (f i)<d.lst f P i∧¬ P i:=by
    apply aey;intro hn;exact hs fun i h1 h2 h3=>aey fun h4=>hn ⟨i,h1,h2,h3,h4⟩
   have hlt:=Fz (h:=d.lst f P) h1 h2 h3 h4
   cases m with
   | zero=>omega
   | succ m=>exact Fl hd hi m _ (by omega) (hp.succ hd hi)
theorem pB {d:Day} (hd:d.OK) {f:Nat→Nat} (hr:Reach d f):∃ P,PayG d f P∧∀ i,i<d.n→d.lst f P i=d.top f i:=by
 obtain⟨g,hi,-⟩:=hr;exact Fl hd hi _ _ (aen _) (Pay.first hd hi)
section
variable {cash:List Int} {cs:List ClR} (hs:SmallD cash cs)
include hs
theorem Ko {f:Nat→Nat} (hr:Reach (ab cash cs) f) {i:Nat} (hi:i<cash.length):szR 453 ((ab cash cs).top f i):=by
 obtain⟨P,hp,he⟩:=pB hs.ok hr;rw[←he i hi];exact I2 hs hp hi
theorem AW {i:Nat} (hi:i<cash.length):szR 453 ((ab cash cs).gr i):=Ko hs (kF hs.ok).1 hi
theorem Iq {i:Nat} (hi:i<cash.length):(ab cash cs).gr i≤((2^51:Nat):Rat):=by
 obtain⟨P,hp,he⟩:=pB hs.ok (kF hs.ok).1;have:=(oK hs hp hi).2;rw[he i hi] at this;exact this
theorem Cu:∃ M:Nat,0<M∧(∃ a,a≤402∧M≤2^a)∧∀ i,i<cash.length→DenBy M ((ab cash cs).gr i):=by
 obtain⟨P,hp,he⟩:=pB hs.ok (kF hs.ok).1;obtain⟨M,h1,h2,h3⟩:=Fu hs hp;refine⟨M,h1,h2,fun i hi=>?_⟩
 have:=h3 i hi;rw[he i hi] at this;exact this
end
section
variable {d:Day} (hd:d.OK)
include hd
theorem HW {i:Nat} (hi:i<d.n) {x:Nat→Rat} (k:Nat):sumC d.cl (fun c=>if c.fr=i∧c.rk=k then d.pay x c else 0)=if d.U i (k+1)≤x i then d.S i k else pos (x i-d.U i k):=by
 have hU:=d.U_succ i k
 by_cases h:d.U i (k+1)≤x i
 ·rw[if_pos h]
  unfold Day.S;refine cI fun c _=>?_
  by_cases hc:c.fr=i∧c.rk=k
  ·obtain⟨rfl,rfl⟩:=hc
   unfold Day.pay;rw[if_pos h]
  ·rw[if_neg hc,if_neg hc]
 ·rw[if_neg h]
  have e:sumC d.cl (fun c=>if c.fr=i∧c.rk=k then d.pay x c else 0)=sumC d.cl fun c=>if c.fr=i∧c.rk=k then d.w c*pos (x i-d.U i k) else 0:=by
   refine cI fun c _=>?_
   by_cases hc:c.fr=i∧c.rk=k
   ·obtain⟨rfl,rfl⟩:=hc
    rw[if_pos ⟨rfl,rfl⟩,if_pos ⟨rfl,rfl⟩];unfold Day.pay;rw[if_neg h]
   ·rw[if_neg hc,if_neg hc]
  rw[e]
  by_cases hS:0<d.S i k
  ·have:=hd.sum_fr (fun j=>j=i) (fun _=>k) (fun j hj=>by subst hj;exact hS) fun _=>pos (x i-d.U i k)
   rw[im hi (fun j _ hj=>by rw[if_neg hj]),if_pos rfl] at this;refine (cI fun c _=>?_).trans this
   by_cases hc:c.fr=i∧c.rk=k
   ·rw[if_pos hc,if_pos hc]
   ·rw[if_neg hc,if_neg hc]
  ·have h0:=S_nonneg hd i k
   rw[gk (by grind)];exact jy fun c _=>by split<;>grind
theorem Ho {i:Nat} (hi:i<d.n) {x:Nat→Rat} (h0:0≤x i) (k:Nat):sumC d.cl (fun c=>if c.fr=i∧c.rk<k then d.pay x c else 0)=if d.U i k≤x i then d.U i k else x i:=by
 induction k with
 | zero=>rw[d.U_zero,if_pos h0];exact jy fun c _=>if_neg (by omega)
 | succ k ih =>
  have e:sumC d.cl (fun c=>if c.fr=i∧c.rk<k+1 then d.pay x c else 0)=sumC d.cl (fun c=>if c.fr=i∧c.rk<k then d.pay x c else 0)+sumC d.cl fun c=>if c.fr=i∧c.rk=k then d.pay x c else 0:=by
   rw[←mS];refine cI fun c _=>?_
   by_cases h1:c.fr=i
   ·by_cases h2:c.rk<k
    ·rw[if_pos ⟨h1,by omega⟩,if_pos ⟨h1,h2⟩,if_neg (by omega)];grind
    ·by_cases h3:c.rk=k
     ·rw[if_pos ⟨h1,by omega⟩,if_neg (by omega),if_pos ⟨h1,h3⟩];grind
     ·rw[if_neg (by omega),if_neg (by omega),if_neg (by omega)];grind
   ·rw[if_neg fun h=>h1 h.1,if_neg fun h=>h1 h.1,if_neg fun h=>h1 h.1];grind
  rw[e,ih,HW hd hi];have hU:=d.U_succ i k;have hS:=S_nonneg hd i k
  by_cases h1:d.U i (k+1)≤x i
  ·rw[if_pos h1,if_pos h1,if_pos (by grind),hU]
  ·rw[if_neg h1,if_neg h1]
   by_cases h2:d.U i k≤x i
   ·rw[if_pos h2,ka (by grind)];grind
   ·rw[if_neg h2,gk (by grind)];grind
theorem Kt {i:Nat} (hi:i<d.n) {x:Nat→Rat} (h0:0≤x i):sumC d.cl (fun c=>if c.fr=i then d.pay x c else 0)=if d.U i 10≤x i then d.U i 10 else x i:=by
 rw[←Ho hd hi h0 10];refine cI fun c hc=>?_
 have:=hd.rk c hc
 by_cases h1:c.fr=i
 ·rw[if_pos h1,if_pos ⟨h1,this⟩]
 ·rw[if_neg h1,if_neg fun h=>h1 h.1]
theorem money:sumQ d.n (fun i=>d.gr i-sumC d.cl fun c=>if c.fr=i then d.pay d.gr c else 0)+sumC d.cl (fun c=>if c.to<0 then d.pay d.gr c else 0)=sumQ d.n d.cash:=by
 have e1:sumQ d.n (fun i=>sumC d.cl fun c=>if c.fr=i then d.pay d.gr c else 0)=sumC d.cl (d.pay d.gr):=xY hd.fr fun _ c=>d.pay d.gr c
 have e2:sumQ d.n d.gr=sumQ d.n d.cash+sumC d.cl fun c=>if inC (fun i=>i<d.n) c then d.pay d.gr c else 0:=by
  have:sumQ d.n d.gr=sumQ d.n fun i=>d.cash i+sumC d.cl fun c=>if c.to=(i:Int) then d.pay d.gr c else 0:=bI fun i hi=>(rB hd).1 i hi
  rw[this,jT]
  congr 1
  rw[←yy (n:=d.n) (fun i=>i<d.n) (fun _ h=>h)];exact bI fun i hi=>by rw[if_pos hi]
 have e3:sumC d.cl (d.pay d.gr)=sumC d.cl (fun c=>if inC (fun i=>i<d.n) c then d.pay d.gr c else 0)+sumC d.cl fun c=>if c.to<0 then d.pay d.gr c else 0:=by
  rw[←mS];refine cI fun c hc=>?_
  have h1:=hd.to c hc
  by_cases h2:c.to<0
  ·rw[if_pos h2,if_neg]
   ·grind
   ·rintro⟨i,h3,-⟩;omega
  ·rw[if_neg h2,if_pos ⟨c.to.toNat,by omega,by omega⟩];grind
 rw[mw,e1,e2,e3];grind
end
noncomputable def s8 (cash:List Int) (cs:List ClR) (k:Nat):Nat:=if (ab cash cs).fend k<10 then SN cs k ((ab cash cs).fend k) else 1
section
variable {cash:List Int} {cs:List ClR} (hs:SmallD cash cs)
include hs
theorem A8 {k:Nat} (hk:k<cash.length):0<s8 cash cs k:=by
 unfold s8
 split
 ·rename_i h
  obtain⟨g,h1,-⟩:=qy hs.ok;have h2:=h1.S_pos (i:=k) hk h;rw[←nt hs.right] at h2
  exact_mod_cast h2
 ·omega
theorem Fx (k:Nat):s8 cash cs k≤2^29:=by
 unfold s8
 split
 ·exact hs.SN_le _ _
 ·exact aeR
theorem EE {M:Nat} (hM:∀ i,i<cash.length→DenBy M ((ab cash cs).gr i)) {c:ClR} (hc:c∈cs):DenBy (M*s8 cash cs (bm c).fr) ((ab cash cs).pay (ab cash cs).gr (bm c)):=by
 have hd:=hs.ok;have hcm:bm c∈(ab cash cs).cl:=afn hc;have hk:(bm c).fr<cash.length:=hd.fr _ hcm;have ham:∀ N,DenBy N (bm c).am:=fun N=>DenBy.int N c.2.2.2
 have hz:∀ N,DenBy N (0:Rat):=DenBy.zero;have hU:=fun r s=>@Day.OK.U_mono _ hd (bm c).fr r s
 have hrk:=hd.rk _ hcm;have hno:=N5 hd _ hk;unfold Day.pay
 by_cases h1:(ab cash cs).U (bm c).fr ((bm c).rk+1)≤(ab cash cs).gr (bm c).fr
 ·rw[if_pos h1];exact ham _
 ·rw[if_neg h1]
  have hf:(ab cash cs).fend (bm c).fr<10:=by
   refine ((rB hd).2 _ hk).2 ?_;have:=hU ((bm c).rk+1) 10 (by omega);grind
  have hlt:(ab cash cs).gr (bm c).fr<(ab cash cs).U (bm c).fr ((ab cash cs).fend (bm c).fr+1):=by
   obtain⟨g,k1,-,k3⟩:=qy hd;have:=k1.hi _ hk hf;have:=k3 _ hk;grind
  rcases Nat.lt_trichotomy (bm c).rk ((ab cash cs).fend (bm c).fr) with h2 | h2 | h2
  ·have:=hU ((bm c).rk+1) ((ab cash cs).fend (bm c).fr) (by omega)
   exact absurd (ae1 this hno) h1
  ·have hw:DenBy (s8 cash cs (bm c).fr) ((ab cash cs).w (bm c)):=by
    unfold s8;rw[if_pos hf];refine⟨c.2.2.2,?_⟩;rw[nt hs.right,←h2]
    have:0<(ab cash cs).S (bm c).fr (bm c).rk:=by
     have:=(ab cash cs).U_succ (bm c).fr ((ab cash cs).fend (bm c).fr);rw[h2];grind
    exact Day.w_S this
   have hgr:DenBy M ((ab cash cs).gr (bm c).fr-(ab cash cs).U (bm c).fr (bm c).rk):=by
    refine (hM _ hk).sub ?_;rw[←dQ hs.right];exact DenBy.int _ _
   rw[ka (by rw[h2];grind),aeE];exact hw.mul hgr
  ·have:=hU ((ab cash cs).fend (bm c).fr+1) (bm c).rk (by omega)
   rw[gk (by grind),aeg];exact hz _
theorem xT {c:ClR} (hc:c∈cs):szR 482 ((ab cash cs).pay (ab cash cs).gr (bm c)):=by
 obtain⟨M,h1,⟨a,h2,h3⟩,h4⟩:=Cu hs;have hcm:bm c∈(ab cash cs).cl:=afn hc;have hk:(bm c).fr<cash.length:=hs.ok.fr _ hcm;have h5:=EE hs h4 hc;have h6:=A8 hs hk;have h7:=Fx hs (bm c).fr;have h8:M*s8 cash cs (bm c).fr≤2^(a+29):=by rw[aeC];exact aeD h3 h7
 have h9:=hs.ok.pay_nonneg (ab cash cs).gr hcm
 have h10:(ab cash cs).pay (ab cash cs).gr (bm c)≤((2^25:Nat):Rat):=by
  refine ae1 (hs.ok.pay_le _ hcm) ?_;have:=hs.am c hc
  show ((c.2.2.2:Int):Rat)≤_;have:c.2.2.2≤((2^25:Nat):Int):=by omega
  rw[←aeJ];exact Rat.intCast_le_intCast.2 this
 exact (h5.sz (aeA h1 h6) h8 h9 h10).mono (by omega)
end
end Go.Mini
namespace Go.Mini
open Go
set_option maxRecDepth 10000
set_option maxHeartbeats 4000000
theorem rightC_iff {n:Int} {c:ClR}:ff n c=true↔0≤c.1∧c.1<n ∧ -1≤c.2.1∧c.2.1<n∧0≤c.2.2.1∧c.2.2.1<10∧0≤c.2.2.2∧c.2.2.2≤1000000000000000:=by
 unfold ff;simp only[aeX,decide_eq_true_eq,and_assoc]
def dU (x:Int):Bool:=decide (0≤x)&&decide (x≤1000000000000000)
theorem rightM_iff {x:Int}:dU x=true↔0≤x∧x≤1000000000000000:=by
 unfold dU;simp only[aeX,decide_eq_true_eq]
theorem CO (cash:List Int) (cs:List ClR):dq cash cs=(decide (cash.length≤60)&&decide (cs.length≤2000)&&cash.all dU&&cs.all (ff cash.length)):=rfl

theorem tf {x y:Rat} (hx:cr x) (hy:cr y) (h:ia x y=true):lj [.agg (ad (ah x)),.agg (ad (ah y))]=some (.same (.tup [.agg (ad (ah (x+y))),.int .i64 0])):=by
 have h1:=d8 hx;have h2:=d8 hy;have:=xt (ah x).1.1 (ah x).1.2 (ah x).2.1 (ah x).2.2 (ah y).1.1 (ah y).1.2 (ah y).2.1 (ah y).2.2 ⟨h1.1,h1.2,h2.1,h2.2⟩;have e:s9 (ah x) (ah y)=(ah (x+y),0):=by rw[ua hx hy,h];rfl
 exact this.trans (by show some (PRes.same (bD (s9 (ah x) (ah y))))=_;rw[e];rfl)
theorem tq {x y:Rat} (hx:cr x) (hy:cr y) (h:ia x (-y)=true):kQ [.agg (ad (ah x)),.agg (ad (ah y))]=some (.same (.tup [.agg (ad (ah (x-y))),.int .i64 0])):=by
 have h1:=d8 hx;have h2:=d8 hy;have:=HM (ah x).1.1 (ah x).1.2 (ah x).2.1 (ah x).2.2 (ah y).1.1 (ah y).1.2 (ah y).2.1 (ah y).2.2 ⟨h1.1,h1.2,h2.1,h2.2⟩;have e:nH (ah x) (ah y)=(ah (x-y),0):=by rw[rg hx hy,h];rfl
 exact this.trans (by show some (PRes.same (bD (nH (ah x) (ah y))))=_;rw[e];rfl)
theorem EG {x y:Rat} (hx:cr x) (hy:cr y) (h:qM x y=true):l8 [.agg (ad (ah x)),.agg (ad (ah y))]=some (.same (.tup [.agg (ad (ah (x*y))),.int .i64 0])):=by
 have h1:=d8 hx;have h2:=d8 hy;have:=Gv (ah x).1.1 (ah x).1.2 (ah x).2.1 (ah x).2.2 (ah y).1.1 (ah y).1.2 (ah y).2.1 (ah y).2.2 ⟨h1.1,h1.2,h2.1,h2.2⟩;have e:mo (ah x) (ah y)=(ah (x*y),0):=by rw[vf hx hy,h];rfl
 exact this.trans (by show some (PRes.same (bD (mo (ah x) (ah y))))=_;rw[e];rfl)
theorem M6 {x y:Rat} (hx:cr x) (hy:cr y) (h0:y≠0) (h:nZ x y=true):pU [.agg (ad (ah x)),.agg (ad (ah y))]=some (.same (.tup [.agg (ad (ah (x / y))),.int .i64 0])):=by
 have h1:=d8 hx;have h2:=d8 hy;have:=GJ (ah x).1.1 (ah x).1.2 (ah x).2.1 (ah x).2.2 (ah y).1.1 (ah y).1.2 (ah y).2.1 (ah y).2.2 ⟨h1.1,h1.2,h2.1,h2.2⟩;have e:i6 (ah x) (ah y)=(ah (x / y),0):=by rw[qC hx hy h0,h];rfl
 exact this.trans (by show some (PRes.same (bD (i6 (ah x) (ah y))))=_;rw[e];rfl)
theorem fJ {x y:Rat} (hx:cr x) (hy:cr y):dt [.agg (ad (ah x)),.agg (ad (ah y))]=some (.same (.int .i64 (kK x y))):=by
 have h1:=d8 hx;have h2:=d8 hy;have:=pm (ah x).1.1 (ah x).1.2 (ah x).2.1 (ah x).2.2 (ah y).1.1 (ah y).1.2 (ah y).2.1 (ah y).2.2 ⟨h1.1,h1.2,h2.1,h2.2⟩;exact this.trans (by show some (PRes.same (.int .i64 (lm (ah x) (ah y))))=_;rw[qU hx hy])
theorem AU {x y:Rat}:decide (kK x y>0)=decide (y<x):=by
 have h1:kK x y>0↔y<x:=by
  unfold kK;rw[gt_iff_lt,Int.sign_pos_iff,Rat.lt_iff];omega
 rw[decide_eq_decide];exact h1
theorem pX {x y:Rat}:decide (kK x y<0)=decide (x<y):=by
 have h1:kK x y<0↔x<y:=by
  unfold kK;rw[Int.sign_neg_iff,Rat.lt_iff];omega
 rw[decide_eq_decide];exact h1
theorem sS {x y:Rat}:decide (kK x y≥0)=decide (y≤x):=by
 have h1:kK x y≥0↔y≤x:=by
  unfold kK;rw[ge_iff_le,Int.sign_nonneg_iff,Rat.le_iff];omega
 rw[decide_eq_decide];exact h1
end Go.Mini
namespace Go.Mini
open Go
variable {P:Program} {A:Nat→Prop} {w w':World} {B B':Lay} {mem mem':Mem}
def mkN (N:List MV→Mem→Option Data) (args:List MV) (mem:Mem):Option Eff:=(N args mem).map fun d => .rel (isR (.dat d) mem)
@[go_sem] theorem Tq (N:List MV→Mem→Option Data) (args:List MV) (mem:Mem):mkN N args mem=(N args mem).map fun d => .rel (isR (.dat d) mem):=_root_.id rfl
theorem pK {T : Tab} {kb : Nat} {own : List Nat} (hT : kf P T) (hm : P.follows .mixedOrders = true) {f : FuncId} {fn : Func} {mf : MFunc} (hf : P.funcs[f]? = some fn) (hname : (fn.name == "runtime.NumGoroutine") = false) (htr : jZ P kb own fn = some { mf with body := erase mf.body })
  (J:Key→Prop) {N:List MV→Mem→Option Data}
  (h:∀ args mem d,N args mem=some d→args.length≤mf.n∧(∀ j,J j→mem j=none) ∧
   wp T mf.body (rh mf.res fun m mem'=>toD 6 emp m=some d∧∀ j,¬ J j→mem' j=mem j) ⟨ax args,mem⟩):iM P f (mkN N):=by
 refine⟨zu hf hname htr,fun args mem eff hE A w B vs hmr hv=>?_⟩
 unfold mkN at hE;rw[Option.map_eq_some_iff] at hE;obtain⟨d,hU,rfl⟩:=hE;obtain⟨hlen,hJ,hwp⟩:=h args mem d hU;refine Calls.mono (kI (Post:=fun m mem'=>toD 6 emp m=some d∧∀ j,¬ J j→mem' j=mem j) hT hm hf htr hlen (fun e st hk=>sd hk) hwp hmr hv) fun e w' he=>?_
 obtain⟨v,m,mem',B',rfl,hs,hv',hd,hmem⟩:=he;exact⟨v,.dat d,mem,mR J B',rfl,hs.drop hmr hJ hJ (fun j hj=>(hmem j hj).symm) (fun k g cs hk m hm => .inr ⟨k,g,cs,hk,hm⟩),.dat ((rE 6 m v d hd hv').less fun b hb=>hb.imp kA id),rfl,rfl⟩
open Classical in
noncomputable def NN {α:Type} (M:α→List MV→Mem→Prop) (res:α→Data):List MV→Mem→Option Data:=fun args mem=>if h:∃ a,M a args mem then some (res (aej h)) else none
theorem KJ {α:Type} {M:α→List MV→Mem→Prop} {res:α→Data} (uniq:∀ a b args mem,M a args mem→M b args mem→res a=res b) {a:α} {args:List MV} {mem:Mem} (h:M a args mem):NN M res args mem=some (res a):=by
 have hx:∃ b,M b args mem:=⟨a,h⟩;unfold NN;rw[dif_pos hx,uniq _ _ _ _ (aek hx) h]
theorem CH {α:Type} {M:α→List MV→Mem→Prop} {res:α→Data} {args:List MV} {mem:Mem} {d:Data} (h:NN M res args mem=some d):∃ a,M a args mem∧d=res a:=by
 unfold NN at h
 split at h
 ·rename_i hx
  exact⟨_,aek hx,(Option.some.inj h).symm⟩
 ·cases h
theorem Jk {α:Type} {M:α→List MV→Mem→Prop} {R:α→Mem→MV→Mem→Prop} (uniq:∀ a b args mem,M a args mem→M b args mem→R a mem=R b mem) {a:α} {args:List MV} {mem:Mem} (h:M a args mem):QQ M R args mem=some (R a mem):=by
 have hx:∃ b,M b args mem:=⟨a,h⟩;unfold QQ;rw[dif_pos hx,uniq _ _ _ _ (aek hx) h]
theorem vM {K:St→Prop} {st:St} {x:Opd} {i k sz kc g off:Nat} {cs:List MV} (h1:ev st.tm x = .ptr kc g off) (h2:st.mem kc=some (g,cs)) (h3:cs[off+i]?=some .nil) (h4:k≠kc)
  (h:K ⟨st.tm,ay (ay st.mem k (aD st.mem k) []) kc g (cs.set (off+i) (.ref k (aD st.mem k) sz 0 0))⟩):dW K st (.adoptC x i k sz):=by
 simp only[dW,h1,h2,if_true,h3];rw[if_pos h4];exact h
theorem tS {K:St→Prop} {st:St} {x:Opd} {i kc gc off k g sz o len:Nat} {cc cs:List MV} {d:Data} (h1:ev st.tm x = .ptr kc gc off) (h2:st.mem kc=some (gc,cc)) (h3:cc[off+i]?=some (.ref k g sz o len)) (h4:st.mem k=some (g,cs)) (h5:lN cs=true) (h6:k≠kc) (h7:toD 1 st.mem (.ref k g sz o len)=some d)
  (h:K ⟨st.tm,ay (kill st.mem k) kc gc (cc.set (off+i) (.dat d))⟩):dW K st (.freezeC x i):=by
 simp only[dW,h1,h2,if_true,h3,h4];rw[if_pos ⟨trivial,h5,h6⟩,h7];exact h
def FrK (n:Nat) (mem m:Mem):Prop:=∀ k,k / 1000≠n→m k=mem k
theorem FrK.refl (n:Nat) (mem:Mem):FrK n mem mem:=fun _ _=>rfl
theorem FrK.upd {n k g:Nat} {cs:List MV} {mem m:Mem} (h:FrK n mem m) (hk:k / 1000=n):FrK n mem (ay m k g cs):=fun j hj=>by
 have:j≠k:=fun e=>hj (by rw[e];exact hk)
 simp only[ay,this,if_false];exact h j hj
theorem FrK.kill {n k:Nat} {mem m:Mem} (h:FrK n mem m) (hk:k / 1000=n):FrK n mem (kill m k):=h.upd hk
theorem FrK.at {n:Nat} {mem m:Mem} (h:FrK n mem m) (k:Nat) (hk:k / 1000≠n):m k=mem k:=h k hk
def NoK (n:Nat) (mem:Mem):Prop:=∀ k,k / 1000=n→mem k=none
theorem NoK.fr {n n':Nat} {mem m:Mem} (h:NoK n mem) (hf:FrK n' mem m) (hn:n≠n'):NoK n m:=fun k hk=>by rw[hf k (by omega)];exact h k hk
end Go.Mini
namespace Go.Mini
open Go
set_option maxRecDepth 10000
set_option maxHeartbeats 4000000
def iC (x:Int):MV:=.dat (.int .i64 x)
def bC (b:Bool):MV:=.dat (.bool b)
theorem EL {α:Type} {f:α→MV} {l:List α} {k:Nat} {y:α} (h:l[k]?=some y):afo 1 (afp k (l.map f))=[f y]:=by
 obtain⟨hl,rfl⟩:=List.getElem?_eq_some_iff.1 h;rw[←List.map_drop,List.drop_eq_getElem_cons hl,afk,List.take_succ_cons,afq]
structure RoundAt (cash:List Int) (cs:List ClR) (fl:List Int) (P:List Bool) (g gr gp:Nat) (mem:Mem):Prop where
 r:mem 261029=some (g,[.dat (.sl (cash.map aa)),.dat (.sl (cs.map clL)),.ref 261042 gr 1 0 fl.length,.ref 261027 gp 1 0 P.length,.dat (.bool false)])
 f:mem 261042=some (gr,fl.map iC)
 p:mem 261027=some (gp,P.map bC)
theorem RoundAt.fr {cash:List Int} {cs:List ClR} {fl:List Int} {P:List Bool} {g gr gp n:Nat} {mem m:Mem} (h:RoundAt cash cs fl P g gr gp mem) (hf:FrK n mem m) (hn:n≠261):RoundAt cash cs fl P g gr gp m :=
 ⟨(hf.at 261029 (by omega)).trans h.r,(hf.at 261042 (by omega)).trans h.f,(hf.at 261027 (by omega)).trans h.p⟩
theorem Ju {a b:List Int} (h:a.map iC=b.map iC):a=b:=af (fun x y h=>by simpa [iC] using h) _ _ h
theorem Pj {a b:List Bool} (h:a.map bC=b.map bC):a=b:=af (fun x y h=>by simpa [bC] using h) _ _ h
theorem RoundAt.uniq {cash cash':List Int} {cs cs':List ClR} {fl fl':List Int} {P P':List Bool} {g gr gp g' gr' gp':Nat} {mem:Mem} (h:RoundAt cash cs fl P g gr gp mem) (h':RoundAt cash' cs' fl' P' g' gr' gp' mem):cash=cash'∧cs=cs'∧fl=fl'∧P=P'∧g=g'∧gr=gr'∧gp=gp':=by
 have h1:=h.r;rw[h'.r] at h1;simp only[Option.some.injEq,Prod.mk.injEq,List.cons.injEq,MV.dat.injEq,Data.sl.injEq,MV.ref.injEq,true_and,and_true] at h1;obtain⟨e1,e2,e3,⟨e4,-⟩,e6,-⟩:=h1;have h2:=h.f;rw[h'.f] at h2;simp only[Option.some.injEq,Prod.mk.injEq] at h2;have h3:=h.p;rw[h'.p] at h3;simp only[Option.some.injEq,Prod.mk.injEq] at h3;exact⟨(af aj _ _ e2).symm,(af fj _ _ e3).symm,(Ju h2.2).symm,(Pj h3.2).symm,e1.symm,e4.symm,e6.symm⟩
structure RdA where
 cash:List Int
 cs:List ClR
 fl:List Int
 P:List Bool
 g:Nat
 gr:Nat
 gp:Nat
def RdA.At (a:RdA) (mem:Mem):Prop:=RoundAt a.cash a.cs a.fl a.P a.g a.gr a.gp mem
theorem RdA.uniq {a b:RdA} {mem:Mem} (h:a.At mem) (h':b.At mem):a=b:=by
 obtain⟨a1,a2,a3,a4,a5,a6,a7⟩:=a;obtain⟨b1,b2,b3,b4,b5,b6,b7⟩:=b;have:=RoundAt.uniq h h';dsimp only at this;obtain⟨rfl,rfl,rfl,rfl,rfl,rfl,rfl⟩:=this
 rfl
theorem FrK.same {n k g:Nat} {cs:List MV} {mem m:Mem} (h:FrK n mem m) (hm:mem k=some (g,cs)):FrK n mem (ay m k g cs):=fun j hj=>by
 by_cases e:j=k
 ·subst e
  simp only[ay,if_true];exact hm.symm
 ·simp only[ay,e,if_false]
  exact h j hj
theorem dX {z:Int} (h1:-9000000000000000000≤z) (h2:z≤9000000000000000000):ct z:=by unfold ct;omega
theorem okCs.upto {cs:List ClR} (h:okCs cs) (i r:Int):0≤aP cs i r∧aP cs i r≤2000000000000000000:=by
 have:=h.sum (fun c=>c.1=i∧c.2.2.1<r) cs.length;rw[List.take_length] at this;exact this
theorem J8 {p q:Int} (hp:ct p) (hq:ct q) (h0:q≠0):fW (aS p) (aS q)=(ah ((p:Rat) / (q:Rat)),0):=by
 rw[i9 (jI hp) (jI hq) h0,ae4]
def SI (cs:List ClR) (i r:Int):Int:=aP cs i (r+1)-aP cs i r
end Go.Mini
namespace Go.Mini
open Go Classical
set_option maxRecDepth 10000
def fOf (fl:List Int) (i:Nat):Nat:=(fl.getD i 10).toNat
def pOf (P:List Bool) (i:Nat):Prop:=P.getD i false=true
theorem nz {z:Int} {b:Nat} (h:z.natAbs≤2^b):szR b (z:Rat):=⟨by rw[Rat.num_intCast];exact h,by rw[Rat.den_intCast];exact aeR⟩
theorem TF {cash:List Int} {cs:List ClR} (hs:SmallD cash cs) {c:ClR} (hc:c∈cs):szR 29 ((ab cash cs).w (bm c)):=by
 have hr:=(rightD_iff.1 hs.right).2.2.2 c hc;have ham:=hs.am c hc
 by_cases h0:c.2.2.2=0
 ·have:(bm c).am=0:=by show ((c.2.2.2:Int):Rat)=0;rw[h0];rfl
  rw[Day.w_zero this];exact⟨aeM _,aeR⟩
 ·have hS:=nt hs.right (bm c).fr (bm c).rk
  have hle:=(ma hs.right).am_le (c:=bm c) (afn hc);rw[←hS] at hle
  have h1:c.2.2.2≤((SN cs (bm c).fr (bm c).rk:Nat):Int):=by
   have:((c.2.2.2:Int):Rat)≤(((SN cs (bm c).fr (bm c).rk:Nat):Int):Rat):=by rw[aeJ];exact hle
   exact_mod_cast this
  have h2:=hs.SN_le (bm c).fr (bm c).rk
  obtain⟨f1,f2⟩:=fM (q:=(ab cash cs).w (bm c)) (v:=c.2.2.2) (d:=((SN cs (bm c).fr (bm c).rk:Nat):Int)) (by omega) (by
   rw[aeJ,hS];refine Day.w_S ?_;rw[←hS];have:0<SN cs (bm c).fr (bm c).rk:=by omega
   exact_mod_cast this)
  rw[aeN] at f2;exact⟨by omega,by omega⟩
section
variable {cash:List Int} {cs:List ClR} (hs:SmallD cash cs) (f:Nat→Nat) (P:Nat→Prop) (i:Nat)
include hs
end
end Go.Mini
namespace Go.Mini
open Go
set_option maxRecDepth 10000
set_option maxHeartbeats 4000000
theorem xq:ct 0:=by unfold ct;omega
theorem Oh:ct 1:=by unfold ct;omega
theorem AQ {N k:Nat} (x:Nat→Rat) (y:Rat):(bM N x).set k (ah y)=bM N fun j=>if j=k then y else x j:=by
 refine qO (by rw[afr,de]) fun j hj=>?_
 rw[afs]
 by_cases h:k=j
 ·rw[if_pos h,if_pos (by rw[de];omega),if_pos h.symm]
 ·rw[if_neg h,eM _ hj,if_neg (Ne.symm h)]
theorem EQ {α:Type} {l:List α} {k:Nat} {d x:α} (h:l[k]?=some x):l.getD k d=x:=by rw[ael,h];rfl
theorem GN (r:cL):((fk r).map MV.dat).all MV.one=true:=rfl

def bL (n:Nat) (p:Nat→Bool):List Bool:=(aeo n).map p
theorem yE (n:Nat) (p:Nat→Bool):(bL n p).length=n:=by simp [bL]
theorem xV {n i:Nat} (p:Nat→Bool) (h:i<n):(bL n p)[i]?=some (p i):=by
 unfold bL;rw[aeT,aeU h];rfl
theorem Io {n:Nat} {p q:Nat→Bool} (h:∀ i,i<n→p i=q i):bL n p=bL n q:=afi fun i hi=>h i (List.mem_range.1 hi)
theorem pOf_bL {n i:Nat} {p:Nat→Bool}:pOf (bL n p) i↔i<n∧p i=true:=by
 unfold pOf;rcases aft i n with h | h
 ·rw[EQ (xV p h)];exact⟨fun e=>⟨h,e⟩,fun e=>e.2⟩
 ·rw[ael,afu (by rw[yE];exact h)]
  simp;omega
noncomputable def sX (d:Day) (f:Nat→Nat) (h:Nat→Rat) (i:Nat):Bool:=decide (f i<10)&&decide (d.U i (f i)<h i)
noncomputable def iR (d:Day) (f:Nat→Nat) (h:Nat→Rat) (p:Nat→Bool) (i j:Nat):Bool:=p j||(decide (j<i)&&sX d f h j)
noncomputable def pe (d:Day) (f:Nat→Nat) (h:Nat→Rat) (p:Nat→Bool) (i:Nat):Bool:=(aeo i).any fun j => !p j&&sX d f h j
theorem DX (d:Day) (f:Nat→Nat) (h:Nat→Rat) (p:Nat→Bool) (i:Nat):pe d f h p (i+1)=(pe d f h p i||(!p i&&sX d f h i)):=by
 unfold pe;rw[aep,List.any_append];simp
theorem AH (d:Day) (f:Nat→Nat) (h:Nat→Rat) (p:Nat→Bool) (i:Nat):iR d f h p i i=p i:=by
 unfold iR;rw[decide_eq_false (Nat.lt_irrefl i),ae9,Bool.or_false]
theorem uR (d:Day) (f:Nat→Nat) (h:Nat→Rat) (p:Nat→Bool) (i j:Nat):iR d f h p (i+1) j=if j=i then (p i||sX d f h i) else iR d f h p i j:=by
 unfold iR
 by_cases hj:j=i
 ·subst hj
  rw[if_pos rfl,decide_eq_true (Nat.lt_succ_self j),aeW]
 ·rw[if_neg hj]
  congr 2
  rw[decide_eq_decide];omega
theorem GM {d:Day} {f:Nat→Nat} {h:Nat→Rat} {p:Nat→Bool}:pOf (bL d.n (iR d f h p d.n))=lA d f (pOf (bL d.n p)) h:=by
 funext i
 apply propext;rw[pOf_bL];unfold lA iR sX;rw[pOf_bL]
 constructor
 ·rintro⟨h1,h2⟩
  rw[afv] at h2;rcases h2 with h2 | h2
  ·exact .inl ⟨h1,h2⟩
  ·simp only[aeX,decide_eq_true_eq] at h2
   exact .inr ⟨h1,h2.2⟩
 ·rintro (⟨h1,h2⟩ | ⟨h1,h2⟩)
  ·exact⟨h1,by rw[h2];rfl⟩
  ·refine⟨h1,?_⟩
   rw[afv]
   right
   simp only[aeX,decide_eq_true_eq];exact⟨h1,h2⟩
theorem GQ {n:Nat}:pOf (bL n fun _=>false)=fun _=>False:=by
 funext i
 apply propext;rw[pOf_bL];simp
theorem Ma {d:Day} {f:Nat→Nat} {h:Nat→Rat} {p:Nat→Bool} {n:Nat} (hm:pe d f h p n=true):kR n (fun i=>if iR d f h p n i then 0 else 1)<kR n fun i=>if p i then 0 else 1:=by
 unfold pe at hm;rw[List.any_eq_true] at hm;obtain⟨j,hj,h2⟩:=hm;have hj:=List.mem_range.1 hj;simp only[aeX,aeY] at h2;refine yw (j:=j) (fun i hi=>?_) hj ?_
 ·unfold iR
  cases p i
  ·try dsimp only
   split<;>simp
  ·simp
 ·unfold iR
  rw[h2.1,h2.2,decide_eq_true hj]
  decide
theorem Na {d:Day} {f:Nat→Nat} {h:Nat→Rat} {p:Nat→Bool} {n:Nat} (hm:pe d f h p n=false) {i:Nat} (hi:i<n) (h1:f i<10) (h2:d.U i (f i)<h i):p i=true:=by
 unfold pe at hm;rw[aeV] at hm;have:=hm i (List.mem_range.2 hi);unfold sX at this;rw[decide_eq_true h1,decide_eq_true h2] at this
 simpa using this
noncomputable def cg (cs:List ClR) (x:Rat) (c:ClR):Rat:=if ((aP cs c.1 (c.2.2.1+1):Int):Rat)≤x then (c.2.2.2:Rat) else (c.2.2.2:Rat) / ((SI cs c.1 c.2.2.1:Int):Rat)*pos (x-((aP cs c.1 c.2.2.1:Int):Rat))
theorem E9 {cash:List Int} {cs:List ClR} (h:dq cash cs=true) (x:Nat→Rat) {c:ClR} (hc:c∈cs):(ab cash cs).pay x (bm c)=cg cs (x c.1.toNat) c:=by
 have hr:=(rightD_iff.1 h).2.2.2 c hc;obtain⟨c1,c2,c3,c4⟩:=c;dsimp only at hr;obtain⟨c1,rfl⟩:∃ k:Nat,c1=(k:Int):=⟨c1.toNat,by omega⟩
 obtain⟨c3,rfl⟩:∃ k:Nat,c3=(k:Int):=⟨c3.toNat,by omega⟩
 unfold Day.pay cg Day.w;have h1:=dQ h c1 (c3+1);have h2:=dQ h c1 c3;have h3:=xJ h c1 c3;have e1:(bm ((c1:Int),c2,(c3:Int),c4)).fr=c1:=afw c1;have e2:(bm ((c1:Int),c2,(c3:Int),c4)).rk=c3:=afw c3;have e3:(bm ((c1:Int),c2,(c3:Int),c4)).am=(c4:Rat):=rfl;rw[e1,e2,e3,←h1,←h2,←h3]
 rfl
structure OwnOK (l:List ClR):Prop where
 len:l.length≤12
 c:∀ c∈l,0≤c.1∧c.1<60 ∧ -1≤c.2.1∧c.2.1<60∧0≤c.2.2.1∧c.2.2.1<10∧0≤c.2.2.2∧c.2.2.2≤33554432
 one:∀ c∈l,∀ c'∈l,c.1=c'.1
theorem OwnOK.cs {l:List ClR} (h:OwnOK l):okCs l:=⟨by have:=h.len;omega,fun c hc=>by have:=h.c c hc;omega⟩
def kt {α:Type} (enc:α→List MV) (l:List α):List MV:=(l.map enc).flatten
theorem KZ {α:Type} {enc:α→List MV} {sz:Nat} (h:∀ a,(enc a).length=sz) (l:List α):(kt enc l).length=l.length*sz:=by
 unfold kt
 induction l with
 | nil=>simp
 | cons a l ih=>rw[afk,afx,aem,ih,h,afm,aeB];omega
theorem B7 {α:Type} {enc:α→List MV} {sz:Nat} (h:∀ a,(enc a).length=sz):∀ (l:List α) (i:Nat),i<l.length→∀ b,afo (i*sz) (kt enc l)++enc b++afp (i*sz+sz) (kt enc l)=kt enc (l.set i b)
 | [],i,hi,b=>absurd hi (by simp)
 | a::l,0,_,b=>by
  have ha:=h a;unfold kt;simp only[Nat.zero_mul,Nat.zero_add,afq,afg,afk,afx,List.set_cons_zero];rw[←ha,List.drop_left]
 | a::l,i+1,hi,b=>by
  have ha:=h a;have ih:=B7 h l i (by simpa using hi) b;unfold kt at ih ⊢;simp only[afk,afx,List.set_cons_succ];rw[←ih,aeB,List.take_append,List.drop_append,ha];rw[afa (by omega),List.drop_eq_nil_of_le (by omega),afg];rw[show i*sz+sz-sz=i*sz by omega,show i*sz+sz+sz-sz=i*sz+sz by omega]
  simp only[List.append_assoc]
def fL {α:Type} (n:Nat) (q:Nat→α):List α:=(aeo n).map q
theorem bU {α:Type} (n:Nat) (q:Nat→α):(fL n q).length=n:=by simp [fL]
theorem cX {α:Type} {n i:Nat} (q:Nat→α) (h:i<n):(fL n q)[i]?=some (q i):=by
 unfold fL;rw[aeT,aeU h];rfl
theorem Fb {α:Type} {n:Nat} {l:List α} {q:Nat→α} (hl:l.length=n) (h:∀ i,i<n→l[i]?=some (q i)):l=fL n q:=by
 apply afy;intro i;rcases aft i n with hi | hi
 ·rw[h i hi,cX q hi]
 ·rw[afu (by omega),afu (by rw[bU];exact hi)]
theorem nc {α:Type} {n i:Nat} (q:Nat→α) (b:α):(fL n q).set i b=fL n fun j=>if j=i then b else q j:=by
 refine Fb (by rw[afr,bU]) fun j hj=>?_
 rw[afs]
 by_cases h:i=j
 ·rw[if_pos h,if_pos (by rw[bU];omega),if_pos h.symm]
 ·rw[if_neg h,cX _ hj,if_neg (Ne.symm h)]
theorem ca {α:Type} {n:Nat} {p q:Nat→α} (h:∀ i,i<n→p i=q i):fL n p=fL n q:=afi fun i hi=>h i (List.mem_range.1 hi)
def o5:Option aG→List MV
 | none=>[.dat (.int .i64 0),.nil,.dat (.int .i64 0),.nil]
 | some f=>(ad f).map .dat
theorem Am:∀ a,(o5 a).length=4
 | none=>rfl
 | some _=>rfl
theorem wB (n:Nat):(List.replicate n [MV.dat (.int .i64 0),MV.nil,MV.dat (.int .i64 0),MV.nil]).flatten=kt o5 (fL n fun _=>none):=by
 unfold kt fL;rw[List.map_map]
 congr 1
 apply afy;intro i;rw[aeT];rcases aft i n with hi | hi
 ·rw[aeU hi,List.getElem?_replicate,if_pos hi];rfl
 ·rw[afu (by simpa using hi),afu (by simpa using hi)];rfl
theorem AG (l:List aG):kt o5 (l.map some)=aC ad l:=by
 unfold kt aC
 induction l with
 | nil=>rfl
 | cons f l ih =>
  simp only[afk,afx,afj];rw[ih];rfl
theorem C2 {n i:Nat} {q:Nat→Option aG} (h:i<n):(i*4+4≤(kt o5 (fL n q)).length)=True:=eq_true (by rw[KZ Am,bU];omega)
theorem CN {n i:Nat} {q:Nat→Option aG} (h:i<n) (a:Int) (b:List Int) (c:Int) (d:List Int) :
  afo (i*4) (kt o5 (fL n q))++[MV.dat (.int .i64 a),.dat (.sl (b.map aa)),.dat (.int .i64 c),.dat (.sl (d.map aa))]++afp (i*4+4) (kt o5 (fL n q))=kt o5 (fL n fun j=>if j=i then some ((a,b),(c,d)) else q j):=by
 rw[←nc];exact B7 Am (fL n q) i (by rw[bU];exact h) (some ((a,b),(c,d)))
end Go.Mini
