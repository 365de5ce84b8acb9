/- A part of the proof. -/
import Derived.Test.YtdbkjjoedjfmpaaM10
import Derived.Test.YtdbkjjoedjfmpaaM04
import Derived.Test.YtdbkjjoedjfmpaaM09
import Derived.Test.YtdbkjjoedjfmpaaM07
import Derived.Test.YtdbkjjoedjfmpaaM08
set_option linter.unusedSimpArgs false
set_option linter.unusedVariables false
open Nat renaming one_pos → adO, mul_pos → adP, succ_mul → adQ, pow_add → adR, mul_le_mul → adS, mul_comm → adT, zero_le → ad2, le_trans → ad4, pow_le_pow_right → ad5, le_refl → aea, mul_le_mul_right → aeb, one_le_two_pow → aec, lt_of_le_of_lt → aee, lt_or_ge → ae6
open Rat renaming intCast_add → adU, intCast_sub → adV, intCast_mul → adW, natCast_mul → adX, intCast_natCast → adY, mul_nonneg → ad1, mul_comm → ad7, mul_zero → ad8, one_mul → aed, le_refl → aen, le_trans → aeo, divInt_eq_div → aer, div_def → aeS, le_of_lt → aeT, mul_assoc → aeU, lt_iff → aeW, num_intCast → ae2, den_intCast → ae3
open List renaming mem_cons_self → adZ, mem_cons_of_mem → ad0, getD_eq_getElem?_getD → ad9, range → aef, getElem?_map → aeg, getElem?_range → aeh, any_eq_false → aei, length_filter_le → aep, length_range → aeq, length_map → aeu, getElem?_eq_getElem → aew, take_of_length_le → aey, mem_filter → aeA, range_succ → aeB, flatMap_append → aeC, flatMap_cons → aeD, flatMap_nil → aeE, append_nil → aeF, flatMap_eq_nil_iff → aeG, nil_append → aeH, filter_append → aeI, flatMap_def → aeJ, map_congr_left → aeK, map_append → aeL, map_cons → aeM, filter_cons_of_pos → aeN, filter_cons_of_neg → aeO, mem_map → aeP, length_cons → aeQ, mem_map_of_mem → aeV, take → aeZ, drop → ae0, take_zero → ae1, length_set → ae4, getElem?_set → ae5, getElem?_eq_none → ae7, flatten_cons → afa, drop_append → afb, drop_eq_nil_of_le → afc, ext_getElem? → afd, filter_nil → afe, append_inj → aff, drop_succ_cons → afg, drop_append_of_le_length → afh, take_append_of_le_length → afi, length_drop → afj
open Int renaming natAbs_natCast → ad3, le_refl → ad6, sign_neg_iff → aeX, toNat_natCast → ae9
open Bool renaming true_and → aej, and_eq_true → aek, not_eq_true' → ael, not_false → aem, false_eq_true → aet, false_and → aex, not_true → aez, or_eq_true → ae8
open Prod renaming ext_iff → aes
open Decidable renaming em → aev
open Classical renaming byContradiction → aeR, choose_spec → aeY
namespace Go.Mini
open Classical
set_option maxRecDepth 10000
def ij:Nat→(Nat→Nat)→Nat
 | 0,_=>1
 | n+1,D=>ij n D*D n
theorem rq {n:Nat} {D:Nat→Nat} (h:∀ k,k<n→0<D k):0<ij n D:=by
 induction n with
 | zero=>exact adO
 | succ n ih=>exact adP (ih fun k hk=>h k (by omega)) (h n (by omega))
theorem sX {n b:Nat} {D:Nat→Nat} (h:∀ k,k<n→D k≤2^b):ij n D≤2^(n*b):=by
 induction n with
 | zero=>simp [ij]
 | succ n ih =>
  rw[adQ,adR];exact adS (ih fun k hk=>h k (by omega)) (h n (by omega))
theorem rF {n:Nat} {D:Nat→Nat} {k:Nat} (hk:k<n):∃ m,ij n D=D k*m:=by
 induction n with
 | zero=>omega
 | succ n ih =>
  by_cases hkn:k=n
  ·subst hkn;exact⟨ij k D,adT _ _⟩
  ·obtain⟨m,hm⟩:=ih (by omega)
   exact⟨m*D n,by rw[ij,hm,Nat.mul_assoc]⟩
def DenBy (M:Nat) (x:Rat):Prop:=∃ z:Int,x*(M:Rat)=(z:Rat)
theorem DenBy.add {M:Nat} {x y:Rat} (hx:DenBy M x) (hy:DenBy M y):DenBy M (x+y):=by
 obtain⟨a,ha⟩:=hx;obtain⟨b,hb⟩:=hy;exact⟨a+b,by rw[adU,←ha,←hb];grind⟩
theorem DenBy.sub {M:Nat} {x y:Rat} (hx:DenBy M x) (hy:DenBy M y):DenBy M (x-y):=by
 obtain⟨a,ha⟩:=hx;obtain⟨b,hb⟩:=hy;exact⟨a-b,by rw[adV,←ha,←hb];grind⟩
theorem DenBy.mul {M N:Nat} {x y:Rat} (hx:DenBy M x) (hy:DenBy N y):DenBy (M*N) (x*y):=by
 obtain⟨a,ha⟩:=hx;obtain⟨b,hb⟩:=hy;exact⟨a*b,by rw[adW,←ha,←hb,adX];grind⟩
theorem DenBy.int (M:Nat) (z:Int):DenBy M (z:Rat):=⟨z*M,by rw[adW,adY]⟩
theorem DenBy.zero (M:Nat):DenBy M 0:=⟨0,by rw[Rat.zero_mul];rfl⟩
theorem DenBy.more {M:Nat} {x:Rat} (h:DenBy M x) (N:Nat):DenBy (M*N) x:=by
 obtain⟨a,ha⟩:=h;exact⟨a*N,by rw[adW,←ha,adX,adY];grind⟩
theorem DenBy.of_dvd {M N:Nat} {x:Rat} (h:DenBy M x) (hd:∃ m,N=M*m):DenBy N x:=by
 obtain⟨m,rfl⟩:=hd;exact h.more m
theorem DenBy.sumC {M:Nat} {l:List Cl} {F:Cl→Rat} (h:∀ c∈l,DenBy M (F c)):DenBy M (sumC l F):=by
 induction l with
 | nil=>exact DenBy.zero M
 | cons c l ih=>exact (h c adZ).add (ih fun x hx=>h x (ad0 _ hx))
theorem DenBy.sumQ {M n:Nat} {F:Nat→Rat} (h:∀ k,k<n→DenBy M (F k)):DenBy M (sumQ n F):=by
 induction n with
 | zero=>exact DenBy.zero M
 | succ n ih=>exact (ih fun k hk=>h k (by omega)).add (h n (by omega))
theorem DenBy.sz {M a e:Nat} {x:Rat} (h:DenBy M x) (hM:0<M) (hMa:M≤2^a) (h0:0≤x) (hx:x≤((2^e:Nat):Rat)):szR (a+e) x:=by
 obtain⟨z,hz⟩:=h;have hz0:(0:Rat)≤(z:Rat):=by rw[←hz];exact ad1 h0 (by exact_mod_cast ad2 M)
 have hz1:(z:Rat)≤((2^e*M:Nat):Rat):=by
  rw[←hz,adX];exact Rat.mul_le_mul_of_nonneg_right hx (by exact_mod_cast ad2 M)
 have k0:0≤z:=by exact_mod_cast hz0
 have k1:z≤((2^e*M:Nat):Int):=by exact_mod_cast hz1
 obtain⟨f1,f2⟩:=fE (q:=x) (v:=z) (d:=(M:Int)) (by omega) (by rw[adY];exact hz);rw[ad3] at f2;have k2:z.natAbs≤2^e*M:=by omega
 refine⟨ad4 f1 (ad4 k2 ?_),ad4 f2 (ad4 hMa (ad5 (by omega) (by omega)))⟩;rw[adR,adT (2^a)];exact Nat.mul_le_mul_left _ hMa
structure SmallD (cash:List Int) (cs:List ClR):Prop where
 right:cE cash cs=true
 n5:cash.length≤5
 c12:cs.length≤12
 am:∀ c∈cs,c.2.2.2≤33554432
theorem SmallD.ok {cash:List Int} {cs:List ClR} (h:SmallD cash cs):(ab cash cs).OK:=nZ h.right
theorem SmallD.sum {cash:List Int} {cs:List ClR} (h:SmallD cash cs) (p:ClR→Prop) [DecidablePred p]:0≤bh cs (fun c=>if p c then c.2.2.2 else 0)∧bh cs (fun c=>if p c then c.2.2.2 else 0)≤536870912:=by
 have:=qE (cs:=cs) (F:=fun c=>if p c then c.2.2.2 else 0) (B:=33554432) (by omega) fun c hc=>by
  have h1:=h.am c hc;have h2:=((rightD_iff.1 h.right).2.2.2 c hc).2.2.2.2.2.2.1
  try dsimp only
  split<;>omega
 have h12:=h.c12;omega
theorem SmallD.upto {cash:List Int} {cs:List ClR} (h:SmallD cash cs) (i r:Int):0≤aM cs i r∧aM cs i r≤536870912:=h.sum fun c=>c.1=i∧c.2.2.1<r
theorem Ce {cash:List Int} {cs:List ClR} (h:cE cash cs=true) (i:Int) {r s:Int} (hrs:r≤s):aM cs i r≤aM cs i s:=by
 have h4:=(rightD_iff.1 h).2.2.2
 have:∀ l:List ClR,(∀ c∈l,0≤c.2.2.2)→bh l (fun c=>if c.1=i∧c.2.2.1<r then c.2.2.2 else 0)≤bh l (fun c=>if c.1=i∧c.2.2.1<s then c.2.2.2 else 0):=by
  intro l
  induction l with
  | nil=>intro _;exact ad6 _
  | cons c l ih =>
   intro hl;have h1:=ih fun x hx=>hl x (ad0 _ hx)
   have h2:=hl c adZ;simp only[bh]
   split<;>split<;>omega
 exact this cs fun c hc=>(h4 c hc).2.2.2.2.2.2.1
def SN (cs:List ClR) (k r:Nat):Nat:=(aM cs k (r+1:Nat)-aM cs k r).toNat
theorem mV {cash:List Int} {cs:List ClR} (h:cE cash cs=true) (k r:Nat):((SN cs k r:Nat):Rat)=(ab cash cs).S k r:=by
 have h1:=xL h k r;have h2:=Ce h k (r:=r) (s:=(r+1:Nat)) (by omega);rw[←h1,←adY];unfold SN;rw[Int.toNat_of_nonneg (by omega)]
theorem SmallD.SN_le {cash:List Int} {cs:List ClR} (h:SmallD cash cs) (k r:Nat):SN cs k r≤2^29:=by
 have h1:=h.upto k (r+1:Nat);have h2:=h.upto k r;unfold SN;omega
def wI (cs:List ClR) (f:Nat→Nat) (k i:Nat):Int:=bh cs fun c=>if c.2.1=(i:Int)∧c.1=(k:Int)∧c.2.2.1=(f k:Int) then c.2.2.2 else 0
theorem Pq {cash:List Int} {cs:List ClR} (h:cE cash cs=true) (f:Nat→Nat) {k:Nat} (i:Nat) (hS:0<(ab cash cs).S k (f k)):(ab cash cs).W f k i*(ab cash cs).S k (f k)=((wI cs f k i:Int):Rat):=by
 unfold Day.W wI
 rw[mH cs _ (fun c=>if c.to=(i:Int)∧c.fr=k∧c.rk=f k then c.am else 0) fun c hc=>by
  have:=(rightD_iff.1 h).2.2.2 c hc
  show ((if c.2.1=(i:Int)∧c.1=(k:Int)∧c.2.2.1=(f k:Int) then c.2.2.2 else 0:Int):Rat)=if c.2.1=(i:Int)∧c.1.toNat=k∧c.2.2.1.toNat=f k then (c.2.2.2:Rat) else 0
  by_cases h1:c.2.1=(i:Int)∧c.1=(k:Int)∧c.2.2.1=(f k:Int)
  ·rw[if_pos h1,if_pos (by omega)]
  ·rw[if_neg h1,if_neg (by omega)];rfl]
 rw[ad7,←jR];refine cK fun c _=>?_
 split
 ·rename_i h1
  rw[ad7];have e1:=h1.2.1;have e2:=h1.2.2;subst e1;rw[←e2] at hS ⊢;exact Day.w_S hS
 ·rw[ad8]
theorem p7 {cash:List Int} {cs:List ClR} (h:cE cash cs=true) (f:Nat→Nat) (i:Nat):((dc cash cs f i:Int):Rat)=(ab cash cs).st f i:=by
 unfold dc Day.st;rw[adU]
 congr 1
 refine mH cs _ (fun c=>if c.to=(i:Int)∧c.rk<f c.fr then c.am else 0) fun c hc=>?_
 have:=(rightD_iff.1 h).2.2.2 c hc
 show ((if c.2.1=(i:Int)∧c.2.2.1<(f c.1.toNat:Int) then c.2.2.2 else 0:Int):Rat)=if c.2.1=(i:Int)∧c.2.2.1.toNat<f c.1.toNat then (c.2.2.2:Rat) else 0
 by_cases h1:c.2.1=(i:Int)∧c.2.2.1<(f c.1.toNat:Int)
 ·rw[if_pos h1,if_pos (by omega)]
 ·rw[if_neg h1,if_neg (by omega)];rfl
theorem SmallD.cash {cash:List Int} {cs:List ClR} (h:SmallD cash cs) (i:Nat):0≤cash.getD i 0∧cash.getD i 0≤1000000000000000:=by
 rw[ad9]
 cases hi:cash[i]? with
 | none=>simp
 | some x=>exact (rightD_iff.1 h.right).2.2.1 x (List.mem_of_getElem? hi)
theorem SmallD.steady {cash:List Int} {cs:List ClR} (h:SmallD cash cs) (f:Nat→Nat) (i:Nat):0≤dc cash cs f i∧dc cash cs f i≤1000000536870912:=by
 have h1:=h.cash i;have h2:=h.sum fun c=>c.2.1=(i:Int)∧c.2.2.1<(f c.1.toNat:Int)
 unfold dc;omega
theorem IZ.of {z:Int} {B:Nat} (h:z.natAbs≤B):IZ B (z:Rat):=⟨z,rfl,h⟩
theorem IZ.nat {z:Nat} {B:Nat} (h:z≤B):IZ B (z:Rat):=⟨z,(adY _).symm,by omega⟩
theorem OX {N:Nat} (h:N≤5):N^N≤2^12:=by
 match N,h with
 | 0,_ | 1,_ | 2,_ | 3,_ | 4,_ | 5,_=>decide
 | n+6,h=>omega
section
variable {cash:List Int} {cs:List ClR} (hs:SmallD cash cs) {f:Nat→Nat} {P:Nat→Prop} (hS:∀ k,P k→0<(ab cash cs).S k (f k))
include hs hS
theorem xz {k:Nat} (hk:P k):0<SN cs k (f k):=by
 have h1:=hS k hk;rw[←mV hs.right] at h1
 exact_mod_cast h1
theorem J1 {k:Nat} (hk:P k) (i:Nat):((SN cs k (f k):Nat):Rat)*(ab cash cs).W f k i=((wI cs f k i:Int):Rat):=by
 rw[mV hs.right,ad7];exact Pq hs.right f i (hS k hk)
theorem A3 {k:Nat} (hk:P k) (i:Nat) (p:Prop) [Decidable p]:IZ (2^30) (((SN cs k (f k):Nat):Rat)*((if p then 1 else 0)-(ab cash cs).W f k i)):=by
 have e:((SN cs k (f k):Nat):Rat)*((if p then 1 else 0)-(ab cash cs).W f k i)=((if p then SN cs k (f k) else 0:Nat):Rat)-((wI cs f k i:Int):Rat):=by
  rw[←J1 hs hS hk i]
  split<;>grind
 have h1:=hs.SN_le k (f k);have h2:=hs.sum fun c=>c.2.1=(i:Int)∧c.1=(k:Int)∧c.2.2.1=(f k:Int)
 rw[e];refine ((IZ.nat (B:=2^29) ?_).sub (IZ.of (B:=2^29) ?_)).mono (by decide)
 ·split<;>omega
 ·unfold wI
  omega
theorem C7:Scaled cash.length ((ab cash cs).bigM f P) 30 210:=by
 let D:Nat→Nat:=fun k=>if P k then SN cs k (f k) else 1
 have hD1:∀ k,0<D k:=fun k=>by
  show 0<if P k then SN cs k (f k) else 1
  split
  ·exact xz hs hS (by assumption)
  ·omega
 have hD2:∀ k,D k≤2^29:=fun k=>by
  show (if P k then SN cs k (f k) else 1)≤2^29
  split
  ·exact hs.SN_le k _
  ·decide
 have hn:=hs.n5;have hpr:ij cash.length D≤2^145:=ad4 (sX fun k _=>hD2 k) (ad5 (by omega) (by omega));refine⟨fun k=>if k<cash.length then D k else ij cash.length D,fun k hk=>?_⟩
 have hdn:(ab cash cs).n=cash.length:=rfl
 by_cases hkn:k<cash.length
 ·dsimp only
  rw[if_pos hkn,if_pos hkn];refine⟨hD1 k,ad4 (hD2 k) (by decide),fun i hi=>?_⟩
  unfold Day.bigM;rw[if_pos (by rw[hdn];exact hkn)]
  by_cases hP:P k
  ·have e:D k=SN cs k (f k):=if_pos hP
   rw[e,if_pos hP];exact A3 hs hS hP i _
  ·have e:D k=1:=if_neg hP
   rw[e,if_neg hP];have:(((1:Nat):Rat)*((if i=k then 1 else 0)-0))=((if i=k then 1 else 0:Nat):Rat):=by split<;>simp<;>grind
   rw[this];exact IZ.nat (by split<;>decide)
 ·dsimp only
  rw[if_neg hkn,if_neg hkn];refine⟨rq fun k _=>hD1 k,ad4 hpr (ad5 (by omega) (by omega)),fun i hi=>?_⟩
  unfold Day.bigM;rw[if_neg (by rw[hdn];exact hkn),hdn]
  have e:((ij cash.length D:Nat):Rat)*((ab cash cs).st f i-sumQ cash.length fun k=>if P k then (ab cash cs).W f k i*(ab cash cs).U k (f k) else 0)=((ij cash.length D:Nat):Rat)*(ab cash cs).st f i-sumQ cash.length fun k=>((ij cash.length D:Nat):Rat)*(if P k then (ab cash cs).W f k i*(ab cash cs).U k (f k) else 0):=by
   rw[mD];grind
  rw[e]
  have h1:IZ (2^196) (((ij cash.length D:Nat):Rat)*(ab cash cs).st f i):=by
   rw[←p7 hs.right];have:=hs.steady f i;refine ((IZ.nat hpr).mul (IZ.of (B:=2^51) (by omega))).mono ?_;rw[←adR];exact aea _
  have h2:∀ k,k<cash.length→IZ (2^203) (((ij cash.length D:Nat):Rat)*(if P k then (ab cash cs).W f k i*(ab cash cs).U k (f k) else 0)):=by
   intro k hk
   by_cases hP:P k
   ·rw[if_pos hP]
    obtain⟨m,hm⟩:=rF (D:=D) hk;have hD:D k=SN cs k (f k):=if_pos hP
    have hm2:m≤2^145:=by
     refine ad4 ?_ hpr;rw[hm];exact Nat.le_mul_of_pos_left _ (hD1 k)
    have e2:((ij cash.length D:Nat):Rat)*((ab cash cs).W f k i*(ab cash cs).U k (f k))=((m:Nat):Rat)*((wI cs f k i:Int):Rat)*((aM cs k (f k):Int):Rat):=by
     rw[hm,hD,←J1 hs hS hP i,←dA hs.right k (f k),adX];grind
    rw[e2];have h3:=hs.upto k (f k);have h4:=hs.sum fun c=>c.2.1=(i:Int)∧c.1=(k:Int)∧c.2.2.1=(f k:Int)
    refine (((IZ.nat hm2).mul (IZ.of (B:=2^29) (by unfold wI;omega))).mul (IZ.of (B:=2^29) (by omega))).mono ?_;rw[←adR,←adR];exact aea _
   ·rw[if_neg hP,ad8];exact IZ.zero
  refine (h1.sub (IZ.sum cash.length h2)).mono ?_;have h5:cash.length*2^203≤2^3*2^203:=aeb _ (by omega);rw[←adR] at h5;have h6:2^196≤2^206:=ad5 (by omega) (by omega);have h7:2^206+2^206=2^207:=by rw[←Nat.two_mul,Nat.pow_succ,adT]
  have h8:2^207≤2^210:=ad5 (by omega) (by omega);have h9:(3:Nat)+203=206:=rfl;rw[h9] at h5;exact ad4 (Nat.add_le_add h6 h5) (by rw[h7];exact h8)
theorem nn (p:List Nat) (hp:∀ k,k<p.length→P (p.getD k 0)):Scaled p.length ((ab cash cs).smallM f p) 30 52:=by
 refine⟨fun k=>if k<p.length then SN cs (p.getD k 0) (f (p.getD k 0)) else 1,fun k hk=>?_⟩
 by_cases hkn:k<p.length
 ·dsimp only
  rw[if_pos hkn,if_pos hkn];refine⟨xz hs hS (hp k hkn),ad4 (hs.SN_le _ _) (by decide),fun i hi=>?_⟩
  unfold Day.smallM;rw[if_pos hkn];exact A3 hs hS (hp k hkn) _ _
 ·dsimp only
  rw[if_neg hkn,if_neg hkn];refine⟨adO,aec,fun i hi=>?_⟩
  unfold Day.smallM;rw[if_neg hkn,←p7 hs.right,←dA hs.right];have h1:=hs.steady f (p.getD i 0);have h2:=hs.upto (p.getD i 0:Nat) (f (p.getD i 0))
  have e:((1:Nat):Rat)*(((dc cash cs f (p.getD i 0):Int):Rat)-((aM cs (p.getD i 0:Nat) (f (p.getD i 0)):Int):Rat))=((dc cash cs f (p.getD i 0)-aM cs (p.getD i 0:Nat) (f (p.getD i 0)):Int):Rat):=by
   rw[adV];have:((1:Nat):Rat)=1:=rfl;rw[this,aed]
  rw[e];exact IZ.of (by omega)
end
end Go.Mini
namespace Go.Mini
open Go Classical
set_option maxRecDepth 10000
theorem dU {b:Nat} {q:Rat} (h:szR b q) (hb:b<1200):cy q:=by
 obtain⟨B,hB,hL⟩:=Ei;have:2^b<LIM:=by rw[hL];exact Nat.pow_lt_pow_right (by omega) (by omega)
 exact⟨aee h.1 this,aee h.2 this⟩
def dS (N:Nat) (A:Mat):List cG:=(aef N).map fun i=>(bY N (A i),ak (A i N))
theorem eN (N:Nat) (A:Mat):(dS N A).length=N:=by simp [dS]
theorem ta {N i:Nat} (A:Mat) (h:i<N):(dS N A)[i]?=some (bY N (A i),ak (A i N)):=by
 unfold dS;rw[aeg,aeh h];rfl
theorem Cc {N i k:Nat} (A:Mat) (hi:i<N) (hk:k≤N):kf (dS N A) i k=A i k:=by
 unfold kf;rw[AS (ta A hi),eN]
 by_cases h:k<N
 ·rw[if_pos h,ad9,eY _ h,Option.getD_some,kG]
 ·rw[if_neg h,kG,show k=N by omega]
theorem oB {x:Rat} (h:cy x):bf (ak x)=true:=(kN _).2 ⟨x,h,rfl⟩
theorem xt {N:Nat} {A:Mat} (hN:N≤40) (hl:∀ i,i<N→∀ k,k≤N→cy (A i k)):fk (dS N A) N=true:=by
 unfold fk
 have h3:(dS N A).any (fB N)=false:=by
  rw[aei];intro r hr;obtain⟨i,hi,rfl⟩:=List.mem_map.1 hr;have hi:=List.mem_range.1 hi;unfold fB Cq;simp only[dQ,beq_self_eq_true,aej,oB (hl i hi N (aea _))]
  have:(bY N (A i)).any (fun f => !bf f)=false:=by
   rw[aei];intro f hf;unfold bY at hf;obtain⟨x,hx,rfl⟩:=List.mem_map.1 hf;obtain⟨k,hk,rfl⟩:=List.mem_map.1 hx;rw[oB (hl i hi k (by have:=List.mem_range.1 hk;omega))]
   decide
  rw[this];decide
 rw[h3,eN];simp only[aek,ael,decide_eq_false_iff_not,beq_self_eq_true,aem,and_true];omega
theorem FS {N:Nat} {A:Mat} (hN:N≤40) (hl:∀ i,i<N→∀ k,k≤N→cy (A i k)):ip (dS N A):=by
 refine⟨by rw[eN];omega,fun r hr=>?_⟩
 obtain⟨i,hi,rfl⟩:=List.mem_map.1 hr;have hi:=List.mem_range.1 hi;exact⟨yc hN fun k hk=>hl i hi k (by omega),eF (hl i hi N (aea _))⟩
theorem wg {N:Nat} {a b y:Nat→Rat} (h:∀ k,k≤N→a k=b k):kF N a y=kF N b y:=bV fun k hk=>by rw[h k (by omega)]
theorem Ann.congr {N:Nat} {A B:Mat} (h:∀ i,i<N→∀ k,k≤N→A i k=B i k) (y:Nat→Rat):Ann N A y↔Ann N B y:=by
 unfold Ann
 constructor
 ·intro hA i hi;rw[←wg (h i hi)];exact hA i hi
 ·intro hA i hi;rw[wg (h i hi)];exact hA i hi
theorem Scaled.congr {N b v:Nat} {A B:Mat} (h:∀ i,i<N→∀ k,k≤N→A i k=B i k) (hs:Scaled N A b v):Scaled N B b v:=by
 obtain⟨D,hD⟩:=hs;exact⟨D,fun k hk=>⟨(hD k hk).1,(hD k hk).2.1,fun i hi=>by rw[←h i hi k hk];exact (hD k hk).2.2 i hi⟩⟩
theorem Scaled.sz {N b v:Nat} {A:Mat} (hs:Scaled N A b v) (hb:b≤v) {i k:Nat} (hi:i<N) (hk:k≤N):szR v (A i k):=by
 obtain⟨D,hD⟩:=hs;obtain⟨h1,h2,h3⟩:=hD k hk;obtain⟨z,hz,hz2⟩:=h3 i hi;have hle:2^(if k<N then b else v)≤2^v:=ad5 (by omega) (by split<;>omega);obtain⟨f1,f2⟩:=fE (q:=A i k) (v:=z) (d:=(D k:Int)) (by omega) (by rw[←hz,adY,ad7]);rw[ad3] at f2;exact⟨ad4 f1 (ad4 hz2 hle),ad4 f2 (ad4 h2 hle)⟩
theorem Dl {N b v:Nat} {A:Mat} (hN:N≤5) (hs:Scaled N A b v) (hb:b≤30) (hv:v≤210) (hbv:b≤v) (hns:¬ Sing N A) {x:Nat→Rat} (hx:Ann N A (ext N x (-1))) :
  gZ (dS N A) N=(bY N x,0)∧fk (dS N A) N=true∧∀ k,k<N→cy (x k):=by
 have hl:∀ i,i<N→∀ k,k≤N→cy (A i k):=fun i hi k hk=>dU (hs.sz hbv hi hk) (by omega)
 have hr:=xt (by omega) hl;have hc:∀ i,i<N→∀ k,k≤N→A i k=kf (dS N A) i k:=fun i hi k hk=>(Cc A hi hk).symm
 have hs':=hs.congr hc
 have hns':¬ Sing N (kf (dS N A)):=by
  rintro⟨y,hy,h⟩;exact hns ⟨y,(Ann.congr hc _).2 hy,h⟩
 have h1:(N+1)*b≤6*30:=adS (by omega) hb;have h2:(N+2)*b≤7*30:=adS (by omega) hb;obtain⟨y,e1,e2,e3⟩:=Cy (rs:=dS N A) (n:=N) (c:=12) (b:=b) (v:=v) hr (by rw[eN];exact OX hN) (by rw[eN];exact hs') hbv (by rw[eN];omega) (by rw[eN];exact hns');rw[eN] at e1 e2 e3;have hxy:∀ k,k<N→x k=y k:=(e3.1 x).1 ((Ann.congr hc _).1 hx);exact⟨by rw[e1,jp fun k hk=>(hxy k hk).symm],hr,fun k hk=>by rw[hxy k hk];exact e2 k hk⟩
structure PayG (d:Day) (f:Nat→Nat) (P:Nat→Prop):Prop where
 ok:d.OK
 ex:∃ g,Inv d f g∧Pay d f g P (d.lst f P)
theorem PayG.good {d:Day} {f:Nat→Nat} {P:Nat→Prop} (h:PayG d f P):Good d f P:=by
 obtain⟨h1,g,h2,h3⟩:=h;exact h3.good h1 h2
theorem PayG.S_pos {d:Day} {f:Nat→Nat} {P:Nat→Prop} (h:PayG d f P):∀ k,P k→0<d.S k (f k):=by
 obtain⟨h1,g,h2,h3⟩:=h;exact fun k hk=>h2.S_pos (h3.fallen k hk).1 (h3.fallen k hk).2
theorem PayG.gt {d:Day} {f:Nat→Nat} {P:Nat→Prop} (h:PayG d f P):∀ k,P k→d.U k (f k)<d.lst f P k:=by
 obtain⟨h1,g,h2,h3⟩:=h;exact h3.ge
theorem Pay.l_range {d:Day} (hd:d.OK) {f:Nat→Nat} {g:Nat→Rat} {P:Nat→Prop} {h:Nat→Rat} (hi:Inv d f g) (hp:Pay d f g P h) {c:Cl} (hc:c∈d.cl):0≤d.l f P h c∧d.l f P h c≤c.am:=by
 have h0:=hd.am c hc
 by_cases h1:c.rk<f c.fr
 ·rw[Day.l_lt h1];exact⟨h0,aen⟩
 ·by_cases h2:c.rk=f c.fr∧P c.fr
  ·rw[Day.l_eq h2.1 h2.2]
   have e1:=hp.ge _ h2.2;have e2:=hp.le _ (hd.fr c hc);have e3:=hi.hi _ (hd.fr c hc) (hp.fallen _ h2.2).2;rw[d.U_succ] at e3;rw[h2.1];exact⟨dy (hd.w_nonneg hc) (by grind),hd.w_le hc (by rw[h2.1];grind)⟩
  ·rw[Day.l_no h1 h2];exact⟨aen,h0⟩
theorem PayG.range {d:Day} {f:Nat→Nat} {P:Nat→Prop} (h:PayG d f P) {i:Nat} (hi:i<d.n):0≤d.lst f P i∧d.lst f P i≤d.into (fun c=>c.am) i:=by
 obtain⟨h1,g,h2,h3⟩:=h;rw[h3.sys i hi];exact⟨h1.into_nonneg (fun c hc=>(h3.l_range h1 h2 hc).1) hi,d.into_le (fun c hc=>(h3.l_range h1 h2 hc).2) i⟩
theorem M0 {cash:List Int} {cs:List ClR} (hs:SmallD cash cs) (i:Nat):(ab cash cs).into (fun c=>c.am) i≤((2^51:Nat):Rat):=by
 have e:(ab cash cs).into (fun c=>c.am) i=((cash.getD i 0+bh cs (fun c=>if c.2.1=(i:Int) then c.2.2.2 else 0):Int):Rat):=by
  unfold Day.into;rw[adU]
  congr 1
  refine (mH cs _ (fun c=>if c.to=(i:Int) then c.am else 0) fun c hc=>?_).symm
  show ((if c.2.1=(i:Int) then c.2.2.2 else 0:Int):Rat)=if c.2.1=(i:Int) then (c.2.2.2:Rat) else 0
  split<;>rfl
 rw[e];have h1:=hs.cash i;have h2:=hs.sum fun c=>c.2.1=(i:Int)
 have:cash.getD i 0+bh cs (fun c=>if c.2.1=(i:Int) then c.2.2.2 else 0)≤((2^51:Nat):Int):=by omega
 rw[←adY]
 exact_mod_cast this
theorem Day.OK.W_nonneg {d:Day} (hd:d.OK) (f:Nat→Nat) (k i:Nat):0≤d.W f k i:=dF fun c hc=>by
 split
 ·exact hd.w_nonneg hc
 ·exact aen
theorem MY {n t:Nat} {T:Nat→Rat} (h:∀ k,k<n→0≤T k) (ht:t≤n):sumQ t T≤sumQ n T:=by
 induction n with
 | zero=>rw[show t=0 by omega];exact aen
 | succ n ih =>
  by_cases htn:t=n+1
  ·rw[htn];exact aen
  ·have h1:=ih (fun k hk=>h k (by omega)) (by omega)
   have h2:=h n (by omega);rw[sumQ];grind
theorem Ob {N t M a e:Nat} {s:Rat} {T:Nat→Rat} (hM:0<M) (hMa:M≤2^a) (hs0:0≤s) (hsd:DenBy M s) (hT0:∀ k,k<N→0≤T k) (hTd:∀ k,k<N→DenBy M (T k)) (hx:s+sumQ N T≤((2^e:Nat):Rat)) (ht:t≤N):szR (a+e) (s+sumQ t T)∧∀ k,k<N→szR (a+e) (T k):=by
 have h1:∀ t,t≤N→0≤sumQ t T∧sumQ t T≤sumQ N T:=fun t ht=>⟨sa fun k hk=>hT0 k (by omega),MY hT0 ht⟩
 refine⟨(hsd.add (DenBy.sumQ fun k hk=>hTd k (by omega))).sz hM hMa (by have:=(h1 t ht).1;grind) (by have:=(h1 t ht).2;grind),fun k hk=>(hTd k hk).sz hM hMa (hT0 k hk) ?_⟩
 have h2:=(h1 k (by omega)).1;have h3:=(h1 (k+1) (by omega)).2;rw[sumQ] at h3;grind
section
variable {cash:List Int} {cs:List ClR} (hs:SmallD cash cs) {f:Nat→Nat} {P:Nat→Prop} (hp:PayG (ab cash cs) f P)
include hs hp
theorem ou {i:Nat} (hi:i<cash.length):0≤(ab cash cs).lst f P i∧(ab cash cs).lst f P i≤((2^51:Nat):Rat):=by
 have h:=hp.range (d:=ab cash cs) hi;exact⟨h.1,aeo h.2 (M0 hs i)⟩
theorem EB:∃ M:Nat,0<M∧(∃ a,a≤402∧M≤2^a)∧∀ i,i<cash.length→DenBy M ((ab cash cs).lst f P i):=by
 obtain⟨M,h1,h2,h3⟩:=HQ (N:=cash.length) hp.good.big (OX hs.n5) (C7 hs hp.S_pos) ((DS hp.ok f P _).2 hp.good.lst);have hn:=hs.n5;have:(cash.length+1)*30≤6*30:=aeb _ (by omega);exact⟨M,h1,⟨_,by omega,h2⟩,h3⟩
theorem IP {i:Nat} (hi:i<cash.length):szR 453 ((ab cash cs).lst f P i):=by
 obtain⟨M,h1,⟨a,h0,h2⟩,h3⟩:=EB hs hp;have h4:=ou hs hp hi;exact ((h3 i hi).sz h1 h2 h4.1 h4.2).mono (by omega)
theorem zx:gZ (dS (payers P cash.length).length ((ab cash cs).smallM f (payers P cash.length))) (payers P cash.length).length=(bY (payers P cash.length).length (fun k=>(ab cash cs).lst f P ((payers P cash.length).getD k 0)-(ab cash cs).U ((payers P cash.length).getD k 0) (f ((payers P cash.length).getD k 0))),0)∧fk (dS (payers P cash.length).length ((ab cash cs).smallM f (payers P cash.length))) (payers P cash.length).length=true:=by
 have hlen:(payers P cash.length).length≤5:=by
  have:=aep (fun i=>decide (P i)) (aef cash.length);rw[aeq] at this;have:=hs.n5;unfold payers;omega
 have:=Dl hlen (nn hs hp.S_pos _ fun k hk=>(gm hk).2) (aea _) (by omega) (by omega) hp.good.small hp.good.small_sol;exact⟨this.1,this.2.1⟩
theorem FX:∃ M:Nat,0<M∧(∃ a,a≤244∧M≤2^a)∧∀ k,k<(payers P cash.length).length→DenBy M ((ab cash cs).lst f P ((payers P cash.length).getD k 0)-(ab cash cs).U ((payers P cash.length).getD k 0) (f ((payers P cash.length).getD k 0))):=by
 have hlen:(payers P cash.length).length≤5:=by
  have:=aep (fun i=>decide (P i)) (aef cash.length);rw[aeq] at this;have:=hs.n5;unfold payers;omega
 have hpn:payers P (ab cash cs).n=payers P cash.length:=rfl;have hss:=hp.good.small_sol;have hsm:=hp.good.small;rw[hpn] at hss hsm;obtain⟨M,h1,h2,h3⟩:=HQ hsm (OX hlen) (nn hs hp.S_pos _ fun k hk=>(gm hk).2) hss;have:((payers P cash.length).length+1)*30≤6*30:=aeb _ (by omega);exact⟨M,h1,⟨_,by omega,h2⟩,h3⟩
theorem Pf {k:Nat} (hk:P k) (i:Nat):szR 30 ((ab cash cs).W f k i)∧DenBy (SN cs k (f k)) ((ab cash cs).W f k i):=by
 have e:=J1 hs hp.S_pos hk i;have h0:=xz hs hp.S_pos hk;have h1:=hs.SN_le k (f k);have h2:=hs.sum fun c=>c.2.1=(i:Int)∧c.1=(k:Int)∧c.2.2.1=(f k:Int)
 obtain⟨f1,f2⟩:=fE (q:=(ab cash cs).W f k i) (v:=wI cs f k i) (d:=(SN cs k (f k):Int)) (by omega) (by rw[←e,adY,ad7]);rw[ad3] at f2;refine⟨⟨ad4 f1 (by unfold wI;omega),ad4 f2 (by omega)⟩,wI cs f k i,by rw[←e,ad7]⟩
theorem Mx {i t:Nat} (hi:i<cash.length) (ht:t≤(payers P cash.length).length) :
  szR 440 ((ab cash cs).st f i+sumQ t fun k=>(ab cash cs).W f ((payers P cash.length).getD k 0) i*((ab cash cs).lst f P ((payers P cash.length).getD k 0)-(ab cash cs).U ((payers P cash.length).getD k 0) (f ((payers P cash.length).getD k 0)))) ∧
  (∀ k,k<(payers P cash.length).length→szR 440 ((ab cash cs).W f ((payers P cash.length).getD k 0) i*((ab cash cs).lst f P ((payers P cash.length).getD k 0)-(ab cash cs).U ((payers P cash.length).getD k 0) (f ((payers P cash.length).getD k 0))))) ∧
  ∀ k,k<(payers P cash.length).length→szR 295 ((ab cash cs).lst f P ((payers P cash.length).getD k 0)-(ab cash cs).U ((payers P cash.length).getD k 0) (f ((payers P cash.length).getD k 0))):=by
 have hlen:(payers P cash.length).length≤5:=by
  have:=aep (fun i=>decide (P i)) (aef cash.length);rw[aeq] at this;have:=hs.n5;unfold payers;omega
 obtain⟨M,m1,⟨a,m0,m2⟩,m3⟩:=FX hs hp;have hmem:∀ k,k<(payers P cash.length).length→(payers P cash.length).getD k 0<cash.length∧P ((payers P cash.length).getD k 0):=fun k hk=>gm hk
 have hsol:=hp.good.lst_pay (d:=ab cash cs) hi;have hpn:payers P (ab cash cs).n=payers P cash.length:=rfl;rw[hpn] at hsol;generalize hpd:payers P cash.length=p at *
 have hex0:∀ k,k<p.length→0≤(ab cash cs).lst f P (p.getD k 0)-(ab cash cs).U (p.getD k 0) (f (p.getD k 0)):=fun k hk=>by
  have:=hp.gt _ (hmem k hk).2;grind
 have hex1:∀ k,k<p.length→(ab cash cs).lst f P (p.getD k 0)-(ab cash cs).U (p.getD k 0) (f (p.getD k 0))≤((2^51:Nat):Rat):=fun k hk=>by
  have h1:=(ou hs hp (hmem k hk).1).2;have h2:=hp.ok.U_nonneg (p.getD k 0) (f (p.getD k 0));grind
 have hpp:0<ij p.length fun k=>SN cs (p.getD k 0) (f (p.getD k 0)):=rq fun k hk=>xz hs hp.S_pos (hmem k hk).2
 have hpl:(ij p.length fun k=>SN cs (p.getD k 0) (f (p.getD k 0)))≤2^145:=ad4 (sX fun k _=>hs.SN_le _ _) (ad5 (by omega) (by omega));have hst:=p7 hs.right f i;have hst2:=hs.steady f i;have hst0:0≤(ab cash cs).st f i:=by rw[←hst];exact_mod_cast hst2.1
 have hr:=(ou hs hp hi).2;rw[hsol] at hr
 have hpM:(ij p.length fun k=>SN cs (p.getD k 0) (f (p.getD k 0)))*M≤2^(145+a):=by
  rw[adR];exact adS hpl m2
 have hmain:=Ob (T:=fun k=>(ab cash cs).W f (p.getD k 0) i*((ab cash cs).lst f P (p.getD k 0)-(ab cash cs).U (p.getD k 0) (f (p.getD k 0)))) (adP hpp m1) hpM hst0 (by rw[←hst];exact DenBy.int _ _) (fun k hk=>dy (hp.ok.W_nonneg f _ _) (hex0 k hk)) (fun k hk=>((Pf hs hp (hmem k hk).2 i).2.of_dvd (rF (D:=fun k=>SN cs (p.getD k 0) (f (p.getD k 0))) hk)).mul (m3 k hk)) hr ht
 exact⟨hmain.1.mono (by omega),fun k hk=>(hmain.2 k hk).mono (by omega),fun k hk=>((m3 k hk).sz m1 m2 (hex0 k hk) (hex1 k hk)).mono (by omega)⟩
end
end Go.Mini
namespace Go.Mini
open Go
def mf_ref20_Few:MFunc :=
 { n:=53,np:=2,res:=[.t 4],body :=
 (.seq (.ops [
 Zb 4 false])
 (.seq (.seq (.ops [
 Zv 7 0,Zn 8 7,Zc 9 .gtr 8 5,Zv 10 9,⟨some 11,some (10,false),.mv (.t 1)⟩,⟨some 12,some (10,false),.len (.t 11)⟩,⟨some 13,some (10,false),.bin .gtr (.t 12) (.c (ZI 12))⟩,Zp 14 10 13])
 (.cond (.t 14)
 (.seq (.ops [
 Zb 4 false])
 .ret)
 .skip))
 (.seq (.seq (.ops [
 Zi 5 0])
 (.block 0
 (.loop
 (.seq (.seq (.ops [
 Zv 15 5,Zv 16 0,Zn 17 16,Zo 18 .lss 15 17])
 (.cond (.t 18)
 .skip
 (.exit 0)))
 (.seq (.block 1
 (.seq (.ops [
 Zv 21 0,Zv 22 5,Za 23 1 21 22,Zl 24 1 23,Zc 25 .gtr 24 1000000,Zv 26 25,⟨some 27,some (26,true),.mv (.t 0)⟩,⟨some 28,some (26,true),.mv (.t 5)⟩,⟨some 29,some (26,true),.iad 1 (.t 27) (.t 28)⟩,⟨some 30,some (26,true),.load 1 false (.t 29)⟩,⟨some 31,some (26,true),.bin .leq (.t 30) (.c (ZI 1000000000000000))⟩,Zq 32 26 31])
 (.cond (.t 32)
 (.seq (.ops [
 Zb 4 false])
 .ret)
 .skip)))
 (.ops [
 Zv 19 5,Zc 20 .add 19 1,Zv 5 20]))))))
 (.seq (.seq (.ops [
 Zi 6 0])
 (.block 2
 (.loop
 (.seq (.seq (.ops [
 Zv 33 6,Zv 34 1,Zn 35 34,Zo 36 .lss 33 35])
 (.cond (.t 36)
 .skip
 (.exit 2)))
 (.seq (.block 3
 (.seq (.ops [
 Zv 39 1,Zv 40 6,Za 41 4 39 40,Zf 42 3 41,Zl 43 1 42,Zc 44 .gtr 43 1000000,Zv 45 44,⟨some 46,some (45,true),.mv (.t 1)⟩,⟨some 47,some (45,true),.mv (.t 6)⟩,⟨some 48,some (45,true),.iad 4 (.t 46) (.t 47)⟩,⟨some 49,some (45,true),.fad 3 (.t 48)⟩,⟨some 50,some (45,true),.load 1 false (.t 49)⟩,⟨some 51,some (45,true),.bin .leq (.t 50) (.c (ZI 1000000000000000))⟩,Zq 52 45 51])
 (.cond (.t 52)
 (.seq (.ops [
 Zb 4 false])
 .ret)
 .skip)))
 (.ops [
 Zv 37 6,Zc 38 .add 37 1,Zv 6 38]))))))
 (.seq (.ops [
 Zb 4 true])
 .ret))))) }

def mf_rank_right:MFunc :=
 { n:=46,np:=1,res:=[.t 2],body :=
 (.seq (.ops [
 Zb 2 false])
 (.seq (.seq (.ops [
 Zv 5 0,Zn 6 5,Zi 7 0])
 (.block 0
 (.loop
 (.seq (.ops [
 Zo 8 .lss 7 6])
 (.seq (.cond (.t 8)
 .skip
 (.exit 0))
 (.seq (.block 1
 (.seq (.ops [
 Za 9 4 5 7,Zu 10 4 9,⟨some 4,none,.alloc 240004 [(ZI 0),(ZI 0),(ZI 0),(ZI 0)]⟩,Zs 4 4 10])
 (.seq (.opsD [
 Zf 11 0 4,Zl 12 1 11,⟨some 13,none,.call fj [(.t 12),(.c (ZI 0)),(.c (ZI 59))]⟩,Zt 14 13,Zv 15 14,⟨some 16,some (15,false),.fad 1 (.t 4)⟩,⟨some 17,some (15,false),.load 1 false (.t 16)⟩,⟨some 18,some (15,false),.call fj [(.t 17),(.c (.dat (.int .i64 (-1)))),(.c (ZI 59))]⟩,⟨some 19,some (15,false),.un .not (.t 18)⟩,Zp 20 15 19,Zv 21 20,⟨some 22,some (21,false),.fad 2 (.t 4)⟩,⟨some 23,some (21,false),.load 1 false (.t 22)⟩,⟨some 24,some (21,false),.call fj [(.t 23),(.c (ZI 0)),(.c (ZI 9))]⟩,⟨some 25,some (21,false),.un .not (.t 24)⟩,Zp 26 21 25,Zv 27 26,⟨some 28,some (27,false),.fad 3 (.t 4)⟩,⟨some 29,some (27,false),.load 1 false (.t 28)⟩,⟨some 30,some (27,false),.call fj [(.t 29),(.c (ZI 0)),(.c (ZI 1000000000000000))]⟩,⟨some 31,some (27,false),.un .not (.t 30)⟩,Zp 32 27 31,Zv 33 32,⟨some 34,some (33,false),.fad 0 (.t 4)⟩,⟨some 35,some (33,false),.load 1 false (.t 34)⟩,⟨some 36,some (33,false),.mv (.t 0)⟩,⟨some 37,some (33,false),.iad 4 (.t 36) (.c (ZI 0))⟩,⟨some 38,some (33,false),.fad 0 (.t 37)⟩,⟨some 39,some (33,false),.load 1 false (.t 38)⟩,⟨some 40,some (33,false),.bin .neq (.t 35) (.t 39)⟩,Zp 41 33 40] [[],[],[],[],[],[],[],[],[],[],[],[],[],[],[],[],[],[],[],[],[],[],[],[],[],[],[],[],[],[],[]])
 (.cond (.t 41)
 (.seq (.ops [
 Zb 2 false])
 .ret)
 .skip))))
 (.ops [
 Zc 42 .add 7 1,Zv 7 42])))))))
 (.seq (.ops [
 Zv 43 0,Zn 44 43,Zc 45 .leq 44 2000,Zv 2 45])
 .ret))) }
def mf_rank_whole:MFunc :=
 { n:=11,np:=1,res:=[.cell 2 4 true],body :=
 (.seq (.ops [
 ⟨some 2,none,.alloc 241002 [(ZI 0),.nil,(ZI 0),.nil]⟩])
 (.seq (.ops [
 Zv 6 0,⟨some 7,none,.call eQ [(.t 6),(.c (ZI 1))]⟩,Zv 5 7,Zx 8 0 5,Zx 9 1 5,⟨some 3,none,.alloc 241003 [(ZI 0),.nil,(ZI 0),.nil]⟩,Zs 4 3 8,Zv 4 9])
 (.seq (.ops [
 Zu 10 4 3,Zs 4 2 10])
 .ret))) }
def mf_rank_Split:MFunc :=
 { n:=118,np:=2,res:=[.t 4,.t 5],body :=
 (.seq (.ops [
 Zk 2 249002 0,Ze 4,Zi 5 0])
 (.seq (.seq (.opsD [
 Zu 19 4 2,⟨some 20,none,.call bb [(.t 19)]⟩,Zt 21 20,Zv 22 21,⟨some 23,some (22,false),.load 4 true (.t 2)⟩,⟨some 24,some (22,false),.call de [(.c (ZI 0))]⟩,⟨some 25,some (22,false),.call bD [(.t 23),(.t 24)]⟩,⟨some 26,some (22,false),.bin .lss (.t 25) (.c (ZI 0))⟩,Zp 27 22 26,Zv 28 27,⟨some 29,some (28,false),.mv (.t 1)⟩,⟨some 30,some (28,false),.call lU [(.t 29)]⟩,⟨some 31,some (28,false),.un .not (.t 30)⟩,Zp 32 28 31] [[],[],[],[],[],[],[],[],[],[],[],[],[],[]])
 (.cond (.t 32)
 (.seq (.ops [
 Ze 4,Zi 5 1])
 .ret)
 .skip))
 (.seq (.ops [
 Zv 33 1,Zn 34 33,⟨some 35,none,.mksl 249035 [(ZI 0),.nil,(ZI 0),.nil] 64 (.t 34) (.t 34)⟩,Zv 6 35])
 (.seq (.ops [
 Zu 36 4 2,⟨some 7,none,.alloc 249007 [(ZI 0),.nil,(ZI 0),.nil]⟩,Zs 4 7 36])
 (.seq (.seq (.ops [
 Zi 37 0])
 (.block 0
 (.loop
 (.seq (.ops [
 Zc 38 .lss 37 10])
 (.seq (.cond (.t 38)
 .skip
 (.exit 0))
 (.seq (.block 1
 (.seq (.ops [
 Zv 39 37,Zv 8 39])
 (.seq (.ops [
 Zi 9 0])
 (.seq (.seq (.ops [
 Zv 40 1,Zn 41 40,Zi 42 0])
 (.block 2
 (.loop
 (.seq (.ops [
 Zo 43 .lss 42 41])
 (.seq (.cond (.t 43)
 .skip
 (.exit 2))
 (.seq (.block 3
 (.seq (.ops [
 Za 44 4 40 42,Zu 45 4 44,⟨some 11,none,.alloc 249011 [(ZI 0),(ZI 0),(ZI 0),(ZI 0)]⟩,Zs 4 11 45])
 (.seq (.ops [
 Zf 46 2 11,Zl 47 1 46,Zv 48 8,Zo 49 .eql 47 48])
 (.cond (.t 49)
 (.ops [
 Zv 50 9,Zf 51 3 11,Zl 52 1 51,Zo 53 .add 50 52,Zv 9 53])
 .skip))))
 (.ops [
 Zc 54 .add 42 1,Zv 42 54])))))))
 (.seq (.opsD [
 Zu 55 4 7,Zv 56 9,⟨some 57,none,.call de [(.t 56)]⟩,⟨some 58,none,.call bD [(.t 55),(.t 57)]⟩,Zc 59 .geq 58 0,Zv 12 59] [[],[],[],[],[],[]])
 (.seq (.seq (.ops [
 Zv 60 1,Zn 61 60,Zi 62 0])
 (.block 4
 (.loop
 (.seq (.ops [
 Zo 63 .lss 62 61])
 (.seq (.cond (.t 63)
 .skip
 (.exit 4))
 (.seq (.block 5
 (.seq (.ops [
 Zv 64 62,Za 65 4 60 62,Zu 66 4 65,⟨some 14,none,.alloc 249014 [(ZI 0),(ZI 0),(ZI 0),(ZI 0)]⟩,Zv 13 64,Zs 4 14 66])
 (.seq (.seq (.ops [
 Zf 67 2 14,Zl 68 1 67,Zv 69 8,Zo 70 .neq 68 69])
 (.cond (.t 70)
 (.exit 5)
 .skip))
 (.seq (.ops [
 Zv 71 6,Zv 72 13,Zf 73 3 14,Zl 74 1 73,⟨some 75,none,.call de [(.t 74)]⟩,Za 76 4 71 72,Zs 4 76 75])
 (.seq (.seq (.ops [
 Zv 77 12])
 (.cond (.t 77)
 (.exit 5)
 .skip))
 (.seq (.opsD [
 Zf 79 3 14,Zl 80 1 79,⟨some 81,none,.call de [(.t 80)]⟩,Zu 82 4 7,⟨some 83,none,.call cY [(.t 81),(.t 82)]⟩,Zv 78 83,Zx 84 0 78,Zx 85 1 78,⟨some 15,none,.alloc 249015 [(ZI 0),.nil,(ZI 0),.nil]⟩,Zs 4 15 84,Zv 16 85] [[],[],[],[],[],[],[],[],[1,3],[],[]])
 (.seq (.seq (.ops [
 Zv 86 16,Zc 87 .eql 86 0])
 (.cond (.t 87)
 (.opsD [
 Zv 89 6,Zv 90 13,Zu 91 4 15,Zv 92 9,⟨some 93,none,.call de [(.t 92)]⟩,⟨some 94,none,.call gB [(.t 91),(.t 93)]⟩,Zv 88 94,Zx 95 0 88,Zx 96 1 88,Za 97 4 89 90,Zs 4 97 95,Zv 16 96] [[],[],[],[],[],[],[],[],[],[],[],[]])
 .skip))
 (.seq (.ops [
 Zv 98 16,Zc 99 .neq 98 0])
 (.cond (.t 99)
 (.seq (.ops [
 Zv 100 16,Ze 4,Zv 5 100])
 .ret)
 .skip)))))))))
 (.ops [
 Zc 101 .add 62 1,Zv 62 101])))))))
 (.seq (.seq (.ops [
 Zv 102 12,Zt 103 102])
 (.cond (.t 103)
 (.seq (.ops [
 ⟨some 104,none,.call de [(.c (ZI 0))]⟩,Zs 4 7 104])
 (.exit 1))
 .skip))
 (.seq (.opsD [
 Zu 106 4 7,Zv 107 9,⟨some 108,none,.call de [(.t 107)]⟩,⟨some 109,none,.call dm [(.t 106),(.t 108)]⟩,Zv 105 109,Zx 110 0 105,Zx 111 1 105,⟨some 17,none,.alloc 249017 [(ZI 0),.nil,(ZI 0),.nil]⟩,Zs 4 17 110,Zv 18 111] [[],[],[],[],[],[],[],[0],[],[]])
 (.seq (.seq (.ops [
 Zv 112 18,Zc 113 .neq 112 0])
 (.cond (.t 113)
 (.seq (.ops [
 Zv 114 18,Ze 4,Zv 5 114])
 .ret)
 .skip))
 (.ops [
 Zu 115 4 17,Zs 4 7 115]))))))))))
 (.ops [
 Zc 116 .add 37 1,Zv 37 116])))))))
 (.seq (.ghost (.freeze 6) (.ops [
 Zv 117 6,Zv 4 117,Zi 5 0]))
 .ret)))))) }
def mf_rank_within:MFunc :=
 { n:=15,np:=3,res:=[.t 6],body :=
 (.seq (.ops [
 Zb 6 false])
 (.seq (.ops [
 Zv 7 0,Zv 8 1,Zo 9 .geq 7 8,Zv 10 9,⟨some 11,some (10,true),.mv (.t 0)⟩,⟨some 12,some (10,true),.mv (.t 2)⟩,⟨some 13,some (10,true),.bin .leq (.t 11) (.t 12)⟩,Zq 14 10 13,Zv 6 14])
 .ret)) }

def mf_law22_RescueTimes:MFunc :=
 { n:=144,np:=6,res:=[.t 12],body :=
 (.seq (.ops [
 Zb 12 false])
 (.seq (.ops [
 ⟨some 28,none,.call kT []⟩,Zv 13 28])
 (.seq (.seq (.ops [
 Zv 29 0,Zv 30 1,⟨some 31,none,.call nq [(.t 29),(.t 30)]⟩,Zt 32 31,Zv 33 32,⟨some 34,some (33,false),.mv (.t 2)⟩,⟨some 35,some (33,false),.bin .lss (.t 34) (.c (ZI 0))⟩,Zp 36 33 35,Zv 37 36,⟨some 38,some (37,false),.mv (.t 2)⟩,⟨some 39,some (37,false),.mv (.t 0)⟩,⟨some 40,some (37,false),.len (.t 39)⟩,⟨some 41,some (37,false),.bin .geq (.t 38) (.t 40)⟩,Zp 42 37 41])
 (.cond (.t 42)
 (.seq (.ops [
 Zv 43 13,Zv 12 43])
 .ret)
 .skip))
 (.seq (.ops [
 Zv 45 0,Zv 46 1,Zv 47 2,⟨some 48,none,.call cB [(.t 45),(.t 46),(.t 47)]⟩,Zv 44 48,Zx 49 0 44,Zx 50 1 44,⟨some 14,none,.alloc 213014 [(ZI 0),.nil,(ZI 0),.nil]⟩,Zs 4 14 49,Zv 15 50])
 (.seq (.seq (.ops [
 Zv 51 15,Zc 52 .neq 51 0])
 (.cond (.t 52)
 (.seq (.ops [
 Zv 53 13,Zv 12 53])
 .ret)
 .skip))
 (.seq (.ops [
 Zv 54 3,⟨some 55,none,.bin .rem (.t 54) (.c (.dat (.int .u8 20)))⟩,⟨some 56,none,.conv .i64 (.t 55)⟩,⟨some 57,none,.bin .add (.c (ZI 1)) (.t 56)⟩,Zv 16 57])
 (.seq (.ops [
 Ze 17])
 (.seq (.ops [
 Ze 18])
 (.seq (.seq (.ops [
 Zi 19 0])
 (.block 0
 (.ghost (.adopt 17 213072 1) (.loop
 (.seq (.seq (.ops [
 Zv 58 19,Zv 59 0,Zn 60 59,Zo 61 .lss 58 60])
 (.cond (.t 61)
 .skip
 (.exit 0)))
 (.seq (.block 1
 (.ops [
 Zv 64 17,Zv 65 0,Zv 66 19,Za 67 1 65 66,Zl 68 1 67,Zv 69 16,Zo 70 .mul 68 69,⟨some 71,none,.bsl 213071 false [(ZI 0)] 1 1 [(0,1,(.t 70))]⟩,⟨some 72,none,.app 213072 [(ZI 0)] 8 (.t 64) (.t 71)⟩,Zv 17 72]))
 (.ops [
 Zv 62 19,Zc 63 .add 62 1,Zv 19 63])))))))
 (.seq (.seq (.ops [
 Zi 20 0])
 (.block 2
 (.ghost (.adopt 18 213091 4) (.loop
 (.seq (.seq (.ops [
 Zv 73 20,Zv 74 1,Zn 75 74,Zo 76 .lss 73 75])
 (.cond (.t 76)
 .skip
 (.exit 2)))
 (.seq (.block 3
 (.seq (.ops [
 Zv 79 1,Zv 80 20,Za 81 4 79 80,Zu 82 4 81,⟨some 21,none,.alloc 213021 [(ZI 0),(ZI 0),(ZI 0),(ZI 0)]⟩,Zs 4 21 82])
 (.seq (.ops [
 Zf 83 3 21,Zl 84 1 83,Zv 85 16,Zo 86 .mul 84 85,Zf 87 3 21,Zs 1 87 86])
 (.ops [
 Zv 88 18,Zu 89 4 21,⟨some 90,none,.bsl 213090 false [(ZI 0),(ZI 0),(ZI 0),(ZI 0)] 4 1 [(0,4,(.t 89))]⟩,⟨some 91,none,.app 213091 [(ZI 0),(ZI 0),(ZI 0),(ZI 0)] 32 (.t 88) (.t 90)⟩,Zv 18 91]))))
 (.ops [
 Zv 77 20,Zc 78 .add 77 1,Zv 20 78])))))))
 (.seq (.ghost (.freeze 17) (.ghost (.freeze 18) (.ops [
 Zv 93 17,Zv 94 18,Zv 95 2,⟨some 96,none,.call cB [(.t 93),(.t 94),(.t 95)]⟩,Zv 92 96,Zx 97 0 92,Zx 98 1 92,⟨some 22,none,.alloc 213022 [(ZI 0),.nil,(ZI 0),.nil]⟩,Zs 4 22 97,Zv 23 98])))
 (.seq (.ops [
 Zv 100 0,Zv 101 4,⟨some 102,none,.conv .i64 (.t 101)⟩,Zv 103 0,Zn 104 103,Zo 105 .rem 102 104,Zv 106 5,⟨some 107,none,.conv .i64 (.t 106)⟩,⟨some 108,none,.call kJ [(.t 100),(.t 105),(.t 107)]⟩,Zv 109 1,Zv 110 2,⟨some 111,none,.call cB [(.t 108),(.t 109),(.t 110)]⟩,Zv 99 111,Zx 112 0 99,Zx 113 1 99,⟨some 24,none,.alloc 213024 [(ZI 0),.nil,(ZI 0),.nil]⟩,Zs 4 24 112,Zv 25 113])
 (.seq (.opsD [
 Zu 115 4 14,Zv 116 16,⟨some 117,none,.call dM [(.t 116)]⟩,⟨some 118,none,.call cY [(.t 115),(.t 117)]⟩,Zv 114 118,Zx 119 0 114,Zx 120 1 114,⟨some 26,none,.alloc 213026 [(ZI 0),.nil,(ZI 0),.nil]⟩,Zs 4 26 119,Zv 27 120] [[],[],[],[],[],[],[],[0],[],[]])
 (.seq (.seq (.ops [
 Zv 121 23,Zc 122 .eql 121 0,Zv 123 122,⟨some 124,some (123,true),.mv (.t 27)⟩,⟨some 125,some (123,true),.bin .eql (.t 124) (.c (ZI 0))⟩,Zq 126 123 125,Zv 127 126,⟨some 128,some (127,true),.load 4 true (.t 22)⟩,⟨some 129,some (127,true),.load 4 true (.t 26)⟩,⟨some 130,some (127,true),.call eM [(.t 128),(.t 129)]⟩,⟨some 131,some (127,true),.un .not (.t 130)⟩,Zq 132 127 131])
 (.cond (.t 132)
 (.seq (.ops [
 Zb 12 false])
 .ret)
 .skip))
 (.seq (.ops [
 Zv 133 13,Zv 134 133,⟨some 135,some (134,true),.mv (.t 25)⟩,⟨some 136,some (134,true),.bin .neq (.t 135) (.c (ZI 0))⟩,⟨some 137,some (134,true),.mv (.t 136)⟩,⟨some 138,some (137,false),.load 4 true (.t 24)⟩,⟨some 139,some (137,false),.load 4 true (.t 14)⟩,⟨some 140,some (137,false),.call bD [(.t 138),(.t 139)]⟩,⟨some 141,some (137,false),.bin .leq (.t 140) (.c (ZI 0))⟩,⟨some 142,some (134,true),.pick (.t 137) (.c (.dat (.bool true))) (.t 141)⟩,Zq 143 134 142,Zv 12 143])
 .ret))))))))))))))) }
def mf_law22_small:MFunc :=
 { n:=62,np:=0,res:=[.t 0],body :=
 (.seq (.ops [
 Zb 0 false])
 (.seq (.ops [
 ⟨some 10,none,.bsl 220010 false [(ZI 0),(ZI 0)] 1 2 [(0,1,(.c (ZI 10))),(1,1,(.c (ZI 0)))]⟩,⟨some 11,none,.call gJ []⟩,⟨some 12,none,.call cB [(.t 10),(.t 11),(.c (ZI 0))]⟩,Zv 9 12,Zx 13 0 9,Zx 14 1 9,⟨some 1,none,.alloc 220001 [(ZI 0),.nil,(ZI 0),.nil]⟩,Zs 4 1 13,Zv 2 14])
 (.seq (.ops [
 ⟨some 16,none,.bsl 220016 false [(ZI 0),(ZI 0)] 1 2 [(0,1,(.c (ZI 10))),(1,1,(.c (ZI 0)))]⟩,⟨some 17,none,.call gJ []⟩,⟨some 18,none,.call cB [(.t 16),(.t 17),(.c (ZI 1))]⟩,Zv 15 18,Zx 19 0 15,Zx 20 1 15,⟨some 3,none,.alloc 220003 [(ZI 0),.nil,(ZI 0),.nil]⟩,Zs 4 3 19,Zv 4 20])
 (.seq (.ops [
 ⟨some 22,none,.bsl 220022 false [(ZI 0),(ZI 0)] 1 2 [(0,1,(.c (ZI 30))),(1,1,(.c (ZI 0)))]⟩,⟨some 23,none,.call gJ []⟩,⟨some 24,none,.call cB [(.t 22),(.t 23),(.c (ZI 1))]⟩,Zv 21 24,Zx 25 0 21,Zx 26 1 21,⟨some 5,none,.alloc 220005 [(ZI 0),.nil,(ZI 0),.nil]⟩,Zs 4 5 25,Zv 6 26])
 (.seq (.ops [
 ⟨some 28,none,.bsl 220028 false [(ZI 0),(ZI 0)] 1 2 [(0,1,(.c (ZI 10))),(1,1,(.c (ZI 0)))]⟩,⟨some 29,none,.call gJ []⟩,⟨some 30,none,.call cB [(.t 28),(.t 29),(.c (ZI 2))]⟩,Zv 27 30,Zx 31 0 27,Zx 32 1 27,⟨some 7,none,.alloc 220007 [(ZI 0),.nil,(ZI 0),.nil]⟩,Zs 4 7 31,Zv 8 32])
 (.seq (.opsD [
 Zu 33 4 1,⟨some 34,none,.call dM [(.c (ZI 20))]⟩,⟨some 35,none,.call eM [(.t 33),(.t 34)]⟩,Zv 36 35,⟨some 37,some (36,true),.mv (.t 2)⟩,⟨some 38,some (36,true),.bin .eql (.t 37) (.c (ZI 0))⟩,Zq 39 36 38,Zv 40 39,⟨some 41,some (40,true),.load 4 true (.t 3)⟩,⟨some 42,some (40,true),.call dM [(.c (ZI 15))]⟩,⟨some 43,some (40,true),.call eM [(.t 41),(.t 42)]⟩,Zq 44 40 43,Zv 45 44,⟨some 46,some (45,true),.mv (.t 4)⟩,⟨some 47,some (45,true),.bin .eql (.t 46) (.c (ZI 0))⟩,Zq 48 45 47,Zv 49 48,⟨some 50,some (49,true),.load 4 true (.t 5)⟩,⟨some 51,some (49,true),.call dM [(.c (ZI 0))]⟩,⟨some 52,some (49,true),.call eM [(.t 50),(.t 51)]⟩,Zq 53 49 52,Zv 54 53,⟨some 55,some (54,true),.mv (.t 6)⟩,⟨some 56,some (54,true),.bin .eql (.t 55) (.c (ZI 0))⟩,Zq 57 54 56,Zv 58 57,⟨some 59,some (58,true),.mv (.t 8)⟩,⟨some 60,some (58,true),.bin .eql (.t 59) (.c (ZI 1))⟩,Zq 61 58 60,Zv 0 61] [[],[],[],[],[],[],[],[],[],[],[],[],[],[],[],[],[],[],[],[],[],[],[],[],[],[],[],[],[],[]])
 .ret)))))) }
def mf_law22_given:MFunc :=
 { n:=21,np:=3,res:=[.t 6],body :=
 (.seq (.ops [
 Ze 6])
 (.seq (.ops [
 ⟨some 8,none,.bsl 222008 true [] 1 0 []⟩,Zv 9 0,⟨some 10,none,.app 222010 [(ZI 0)] 8 (.t 8) (.t 9)⟩,Zv 7 10])
 (.seq (.ops [
 Zv 11 7,Zv 12 1,Zv 13 7,Zv 14 1,Za 15 1 13 14,Zl 16 1 15,Zv 17 2,Zo 18 .add 16 17,Za 19 1 11 12,Zs 1 19 18])
 (.seq (.ghost (.freeze 7) (.ops [
 Zv 20 7,Zv 6 20]))
 .ret)))) }
def mf_law22_number:MFunc :=
 { n:=11,np:=1,res:=[.cell 2 4 true],body :=
 (.seq (.ops [
 ⟨some 2,none,.alloc 223002 [(ZI 0),.nil,(ZI 0),.nil]⟩])
 (.seq (.ops [
 Zv 6 0,⟨some 7,none,.call nS [(.t 6),(.c (ZI 1))]⟩,Zv 5 7,Zx 8 0 5,Zx 9 1 5,⟨some 3,none,.alloc 223003 [(ZI 0),.nil,(ZI 0),.nil]⟩,Zs 4 3 8,Zv 4 9])
 (.seq (.ops [
 Zu 10 4 3,Zs 4 2 10])
 .ret))) }
def mf_law22_two:MFunc :=
 { n:=4,np:=0,res:=[.t 0],body :=
 (.seq (.ops [
 Ze 0])
 (.seq (.ops [
 ⟨some 1,none,.build [(ZI 0),(ZI 0),(ZI 0),(ZI 0)] [(0,1,(.c (ZI 0))),(1,1,(.c (ZI 1))),(3,1,(.c (ZI 30)))]⟩,⟨some 2,none,.build [(ZI 0),(ZI 0),(ZI 0),(ZI 0)] [(0,1,(.c (ZI 1))),(1,1,(.c (.dat (.int .i64 (-1))))),(3,1,(.c (ZI 25)))]⟩,⟨some 3,none,.bsl 237003 false [(ZI 0),(ZI 0),(ZI 0),(ZI 0),(ZI 0),(ZI 0),(ZI 0),(ZI 0)] 4 2 [(0,4,(.t 1)),(4,4,(.t 2))]⟩,Zv 0 3])
 .ret)) }
set_option maxRecDepth 10000
set_option maxHeartbeats 4000000
def clL (c:ClR):List Data:=[.int .i64 c.1,.int .i64 c.2.1,.int .i64 c.2.2.1,.int .i64 c.2.2.2]
theorem kh (c:ClR):(clL c).length=4:=rfl
theorem sD (c:ClR):((clL c).map MV.dat).all MV.one=true:=rfl
theorem fZ:∀ a b:ClR,clL a=clL b→a=b:=by
 rintro⟨a1,a2,a3,a4⟩ ⟨b1,b2,b3,b4⟩ h;simp only[clL,List.cons.injEq,Data.int.injEq,true_and,and_true] at h;obtain⟨rfl,rfl,rfl,rfl⟩:=h
 rfl
theorem Fm {cs:List ClR} {i:Nat} {c:ClR} (h:cs[i]?=some c) (F:ClR→Int):bh (cs.take (i+1)) F=bh (cs.take i) F+F c:=by
 rw[List.take_add_one,h,jG];simp [bh]
def okCs (cs:List ClR):Prop:=cs.length≤2000∧∀ c∈cs,0≤c.2.2.2∧c.2.2.2≤1000000000000000
theorem okCs.sum {cs:List ClR} (h:okCs cs) (p:ClR→Prop) [DecidablePred p] (i:Nat):0≤bh (cs.take i) (fun c=>if p c then c.2.2.2 else 0)∧bh (cs.take i) (fun c=>if p c then c.2.2.2 else 0)≤2000000000000000000:=by
 have h1:=qE (cs:=cs.take i) (F:=fun c=>if p c then c.2.2.2 else 0) (B:=1000000000000000) (by omega) fun c hc=>by
  have:=h.2 c (List.mem_of_mem_take hc)
  try dsimp only
  split<;>omega
 have h2:=h.1;have h3:(cs.take i).length≤cs.length:=by rw[List.length_take];omega
 omega
theorem DV {cash:List Int} {cs:List ClR} (h:cE cash cs=true):okCs cs :=
 ⟨(rightD_iff.1 h).2.1,fun c hc=>⟨((rightD_iff.1 h).2.2.2 c hc).2.2.2.2.2.2.1,((rightD_iff.1 h).2.2.2 c hc).2.2.2.2.2.2.2⟩⟩
theorem qq {n:Int} (h:ca n):fH (aP n) (aP 1)=(ak (n:Rat),0):=by
 rw[i7 (jz h) (by decide +kernel) (by decide),aer,show ((1:Int):Rat)=1 from rfl,show (n:Rat) / 1=n by grind]
noncomputable def fK:List Data→Option PRes:=FF (α:=Int) (fun (n:Int)=>([.int .i64 n]:List Data)) (fun (n:Int)=>aG (ca n) (.same (.agg (ad (ak (n:Rat))))))
theorem yF:∀ a b:Int,(fun (n:Int)=>([.int .i64 n]:List Data)) a=(fun (n:Int)=>([.int .i64 n]:List Data)) b→a=b:=by
  intro n1 n2 h;simp only[List.cons.injEq,Data.int.injEq,Data.agg.injEq,Data.sl.injEq,Data.bool.injEq,Data.str.injEq,Data.ptr.injEq,Data.tup.injEq,Prod.mk.injEq,true_and,and_true] at h ⊢
  first | exact h | simpa [aes,and_assoc] using h | grind
@[go_sem] theorem fz (n:Int) (hc:ca n):fK [.int .i64 n]=some (.same (.agg (ad (ak (n:Rat))))):=(aV yF n).trans (an hc _)
theorem HZ (T:Tab) (gW:T eQ=mkE ud) (n:Int) (hc:ca n) :
  wp T mf_clear_whole.body (bG mf_clear_whole.res (.same (.agg (ad (ak (n:Rat)))))) ⟨ax [.dat (.int .i64 n)],emp⟩:=by
 refine ap ?_;simp only[mf_clear_whole];have h1:ca 1:=by unfold ca;omega
 have h:=qq hc;generalize ak (n:Rat)=F at *;obtain⟨⟨a,b⟩,⟨c,d⟩⟩:=F;simp only[go_sem,go_sem_proc,aet,gW,hc,h1,h,bE,ad]
 repeat' (first|refine qS ?_ ?_|fail)<;>intro h<;>simp only[h,go_sem,go_sem_proc,aet,gW,hc,h1,h,bE,ad]
noncomputable def oa:List Data→Option PRes:=FF (α:=Int) (fun (n:Int)=>([.int .i64 n]:List Data)) (fun (n:Int)=>aG (ca n) (.same (.agg (ad (ak (n:Rat))))))
theorem xk:∀ a b:Int,(fun (n:Int)=>([.int .i64 n]:List Data)) a=(fun (n:Int)=>([.int .i64 n]:List Data)) b→a=b:=by
  intro n1 n2 h;simp only[List.cons.injEq,Data.int.injEq,Data.agg.injEq,Data.sl.injEq,Data.bool.injEq,Data.str.injEq,Data.ptr.injEq,Data.tup.injEq,Prod.mk.injEq,true_and,and_true] at h ⊢
  first | exact h | simpa [aes,and_assoc] using h | grind
@[go_sem] theorem AF (n:Int) (hc:ca n):oa [.int .i64 n]=some (.same (.agg (ad (ak (n:Rat))))):=(aV xk n).trans (an hc _)
theorem Hx (T:Tab) (gW:T eQ=mkE ud) (n:Int) (hc:ca n) :
  wp T mf_rank_whole.body (bG mf_rank_whole.res (.same (.agg (ad (ak (n:Rat)))))) ⟨ax [.dat (.int .i64 n)],emp⟩:=by
 refine ap ?_;simp only[mf_rank_whole];have h1:ca 1:=by unfold ca;omega
 have h:=qq hc;generalize ak (n:Rat)=F at *;obtain⟨⟨a,b⟩,⟨c,d⟩⟩:=F;simp only[go_sem,go_sem_proc,aet,gW,hc,h1,h,bE,ad]
 repeat' (first|refine qS ?_ ?_|fail)<;>intro h<;>simp only[h,go_sem,go_sem_proc,aet,gW,hc,h1,h,bE,ad]
noncomputable def mF:List Data→Option PRes:=FF (α:=Int) (fun (n:Int)=>([.int .i64 n]:List Data)) (fun (n:Int)=>aG (ca n) (.same (.agg (ad (ak (n:Rat))))))
theorem vr:∀ a b:Int,(fun (n:Int)=>([.int .i64 n]:List Data)) a=(fun (n:Int)=>([.int .i64 n]:List Data)) b→a=b:=by
  intro n1 n2 h;simp only[List.cons.injEq,Data.int.injEq,Data.agg.injEq,Data.sl.injEq,Data.bool.injEq,Data.str.injEq,Data.ptr.injEq,Data.tup.injEq,Prod.mk.injEq,true_and,and_true] at h ⊢
  first | exact h | simpa [aes,and_assoc] using h | grind
@[go_sem] theorem xm (n:Int) (hc:ca n):mF [.int .i64 n]=some (.same (.agg (ad (ak (n:Rat))))):=(aV vr n).trans (an hc _)
theorem FE (T:Tab) (Nv:T nS=mkE IA) (n:Int) (hc:ca n) :
  wp T mf_law22_number.body (bG mf_law22_number.res (.same (.agg (ad (ak (n:Rat)))))) ⟨ax [.dat (.int .i64 n)],emp⟩:=by
 refine ap ?_;simp only[mf_law22_number];have h1:ca 1:=by unfold ca;omega
 have h:=qq hc;generalize ak (n:Rat)=F at *;obtain⟨⟨a,b⟩,⟨c,d⟩⟩:=F;simp only[go_sem,go_sem_proc,aet,Nv,hc,h1,h,bE,ad]
 repeat' (first|refine qS ?_ ?_|fail)<;>intro h<;>simp only[h,go_sem,go_sem_proc,aet,Nv,hc,h1,h,bE,ad]
def lL (m:Int):Bool:=!(decide (m>1000000)&&decide (m≤1000000000000000))
def uq (cash:List Int) (cs:List ClR):Bool:=!(decide ((cash.length:Int)>5))&&(!(decide ((cs.length:Int)>12))&&(cash.all lL&&cs.all fun c=>lL c.2.2.2))
noncomputable def CM:List Data→Option PRes:=FF (α:=(List Int) × (List ClR)) (fun (cash,cs)=>([.sl (cash.map aa),.sl (cs.map clL)]:List Data)) (fun (cash,cs)=>some (.same (.bool (uq cash cs))))
theorem Du:∀ a b:(List Int) × (List ClR),(fun (cash,cs)=>([.sl (cash.map aa),.sl (cs.map clL)]:List Data)) a=(fun (cash,cs)=>([.sl (cash.map aa),.sl (cs.map clL)]:List Data)) b→a=b:=by
  rintro⟨cash1,cs1⟩ ⟨cash2,cs2⟩ h;simp only[List.cons.injEq,Data.sl.injEq] at h;exact Prod.ext (af ai _ _ h.1) (af fZ _ _ h.2.1)
@[go_sem] theorem Ff (cash:List Int) (cs:List ClR):CM [.sl (cash.map aa),.sl (cs.map clL)]=some (.same (.bool (uq cash cs))):=aV Du (cash,cs)
theorem OL (T:Tab)  (cash:List Int) (cs:List ClR) :
  wp T mf_ref20_Few.body (bG mf_ref20_Few.res (.same (.bool (uq cash cs)))) ⟨ax [.dat (.sl (cash.map aa)),.dat (.sl (cs.map clL))],emp⟩:=by
 refine ap ?_;simp only[mf_ref20_Few];unfold uq;rcases e1:decide ((cash.length:Int)>5)
 ·rcases e2:decide ((cs.length:Int)>12)
  ·have l1:cash.length≤5:=by have:=of_decide_eq_false e1;omega
   have l2:cs.length≤12:=by have:=of_decide_eq_false e2;omega
   simp only[go_sem,go_sem_proc,aet,e1,e2,aeu];refine ae [0,1] [] (fun (i:Nat) tm mem=>i≤cash.length∧(cash.take i).all lL=true∧tm 5 = .dat (.int .i64 i)) (fun i=>cash.length-i) 0 (by refine⟨by omega,by simp,rfl⟩) ?_;intro vs ms hvs hms;simp only[go_sem,go_sem_proc,aet,aeu] at hvs hms;subst hvs hms;rintro i tm mem hk hm ⟨hi,hf,h5⟩;simp only[go_sem,go_sem_proc,aet,List.cons.injEq] at hk;obtain⟨h0,h1⟩:=hk;rcases aev (i<cash.length) with hlt | hge
   ·obtain⟨x,hx⟩:∃ c,cash[i]?=some c:=⟨_,aew hlt⟩
    have d1:decide ((i:Int)<(cash.length:Int))=true:=decide_eq_true (by omega);have w3:IntKind.i64.wrap ((i:Int)+1)=((i+1:Nat):Int):=by rw[aj _ (by omega) (by omega)];omega
    rcases c1:decide (x>1000000)
    ·have hc:lL x=true:=by unfold lL;rw[c1];rfl
     refine qI ?_
     repeat' (intro h<;>simp only[h,go_sem,go_sem_proc,aet,h0,h1,h5,hx,d1,w3,c1,aa,aeu,aeg]<;>try refine qS ?_ ?_)
     exact⟨i+1,by omega,by omega,by rw[pS hx,hf,hc];rfl,rfl⟩
    ·rcases c2:decide (x≤1000000000000000)
     ·have hc:lL x=true:=by unfold lL;rw[c1,c2];rfl
      refine qI ?_
      repeat' (intro h<;>simp only[h,go_sem,go_sem_proc,aet,h0,h1,h5,hx,d1,w3,c1,c2,aa,aeu,aeg]<;>try refine qS ?_ ?_)
      exact⟨i+1,by omega,by omega,by rw[pS hx,hf,hc];rfl,rfl⟩
     ·have hc:lL x=false:=by unfold lL;rw[c1,c2];rfl
      rw[DR hx hc];refine qI ?_
      repeat' (intro h<;>simp only[h,go_sem,go_sem_proc,aet,h0,h1,h5,hx,d1,w3,c1,c2,aa,aeu,aeg,aem,aej,aex]<;>try refine qS ?_ ?_)
   ·have d1:decide ((i:Int)<(cash.length:Int))=false:=decide_eq_false (by omega)
    have hca:cash.all lL=true:=by rw[aey (by omega)] at hf;exact hf
    rw[hca];simp only[go_sem,go_sem_proc,aet,h0,h1,h5,d1,aeu];refine ae [1] [] (fun (i:Nat) tm mem=>i≤cs.length∧(cs.take i).all (fun c=>lL c.2.2.2)=true∧tm 6 = .dat (.int .i64 i)) (fun i=>cs.length-i) 0 (by refine⟨by omega,by simp,rfl⟩) ?_;intro vs ms hvs hms;simp only[go_sem,go_sem_proc,aet,aeu,h1] at hvs hms;subst hvs hms;clear h0 h1 h5 hm;rintro i tm mem hk hm ⟨hi,hf,h6⟩;simp only[go_sem,go_sem_proc,aet,List.cons.injEq] at hk;have h1:=hk;rcases aev (i<cs.length) with hlt | hge
    ·obtain⟨⟨a,b,k,x⟩,hx⟩:∃ c,cs[i]?=some c:=⟨_,aew hlt⟩
     have d1:decide ((i:Int)<(cs.length:Int))=true:=decide_eq_true (by omega);have w3:IntKind.i64.wrap ((i:Int)+1)=((i+1:Nat):Int):=by rw[aj _ (by omega) (by omega)];omega
     rcases c1:decide (x>1000000)
     ·have hc:lL x=true:=by unfold lL;rw[c1];rfl
      refine qI ?_
      repeat' (intro h<;>simp only[h,go_sem,go_sem_proc,aet,h1,h6,hx,d1,w3,c1,clL,aeu,aeg]<;>try refine qS ?_ ?_)
      exact⟨i+1,by omega,by omega,by rw[pS hx,hf];exact hc,rfl⟩
     ·rcases c2:decide (x≤1000000000000000)
      ·have hc:lL x=true:=by unfold lL;rw[c1,c2];rfl
       refine qI ?_
       repeat' (intro h<;>simp only[h,go_sem,go_sem_proc,aet,h1,h6,hx,d1,w3,c1,c2,clL,aeu,aeg]<;>try refine qS ?_ ?_)
       exact⟨i+1,by omega,by omega,by rw[pS hx,hf];exact hc,rfl⟩
      ·have hc:lL x=false:=by unfold lL;rw[c1,c2];rfl
       rw[DR (p:=fun c:ClR=>lL c.2.2.2) hx hc];refine qI ?_
       repeat' (intro h<;>simp only[h,go_sem,go_sem_proc,aet,h1,h6,hx,d1,w3,c1,c2,clL,aeu,aeg,aem,aej]<;>try refine qS ?_ ?_)
    ·have d1:decide ((i:Int)<(cs.length:Int))=false:=decide_eq_false (by omega)
     have hca:cs.all (fun c=>lL c.2.2.2)=true:=by rw[aey (by omega)] at hf;exact hf
     rw[hca];refine qI ?_
     repeat' (intro h<;>simp only[h,go_sem,go_sem_proc,aet,h1,h6,d1,aeu,aem,aej]<;>try refine qS ?_ ?_)
  ·refine qI ?_
   repeat' (intro h<;>simp only[h,go_sem,go_sem_proc,aet,e1,e2,aeu,aez,aex,Bool.and_false]<;>try refine qS ?_ ?_)
 ·refine qI ?_
  repeat' (intro h<;>simp only[h,go_sem,go_sem_proc,aet,e1,aeu,aez,aex]<;>try refine qS ?_ ?_)
theorem CT {x:List Data} (h:Fits [.int .i64,.int .i64,.int .i64,.int .i64] x):∃ c:ClR,x=clL c:=by
 simp only[Fit,Fits] at h;obtain⟨_,_,rfl,⟨a,rfl,-⟩,_,_,rfl,⟨b,rfl,-⟩,_,_,rfl,⟨c,rfl,-⟩,_,_,rfl,⟨d,rfl,-⟩,rfl⟩:=h;exact⟨(a,b,c,d),rfl⟩
theorem BV {es:List (List Data)} (h:∀ x∈es,Fit (.st [.int .i64,.int .i64,.int .i64,.int .i64]) x):∃ l:List ClR,es=l.map clL:=by
 obtain⟨l,e,-⟩:=tN (e:=clL) (good:=fun _=>True) fun x hx=>by
  have:=h x hx;unfold Fit at this;obtain⟨c,rfl⟩:=CT this;exact⟨c,rfl,trivial⟩
 exact⟨l,e⟩
theorem Mh {n:Int} (h:(Lit.int .u16 n).wf=true):∃ m:Nat,n=m∧m<65536:=by
 have:0≤n∧n≤65535:=by simpa [Lit.wf,IntKind.min,IntKind.max,IntKind.signed,IntKind.bits] using h
 exact⟨n.toNat,by omega,by omega⟩
end Go.Mini
namespace Go.Mini
open Classical
structure Alike (d e:Day):Prop where
 n:d.n=e.n
 cash:d.cash=e.cash
 mem:∀ c,c∈d.cl↔c∈e.cl
 sum:∀ F,sumC d.cl F=sumC e.cl F
theorem Alike.symm {d e:Day} (h:Alike d e):Alike e d:=⟨h.n.symm,h.cash.symm,fun c=>(h.mem c).symm,fun F=>(h.sum F).symm⟩
section
variable {d e:Day} (h:Alike d e)
include h
theorem Alike.U:d.U=e.U:=by funext k r;exact h.sum _
theorem Alike.S:d.S=e.S:=by funext k r;exact h.sum _
theorem Alike.w:d.w=e.w:=by funext c;unfold Day.w;rw[h.S]
theorem Alike.q:d.q=e.q:=by funext f x c;unfold Day.q;rw[h.U,h.w]
theorem Alike.l:d.l=e.l:=by funext f P x c;unfold Day.l;rw[h.U,h.w]
theorem Alike.pay:d.pay=e.pay:=by funext x c;unfold Day.pay;rw[h.U,h.w]
theorem Alike.into:d.into=e.into:=by funext a i;unfold Day.into;rw[h.cash,h.sum]
theorem Alike.phi:d.phi=e.phi:=by funext x i;unfold Day.phi;rw[h.into,h.pay]
theorem Alike.sumIn:d.sumIn=e.sumIn:=by funext C x;unfold Day.sumIn;rw[h.n]
theorem Alike.cap:d.cap=e.cap:=by funext f g C k;unfold Day.cap;rw[h.U]
theorem Alike.closed (f:Nat→Nat) (C:Nat→Prop):d.closed f C↔e.closed f C:=by
 unfold Day.closed;exact⟨fun k c hc=>k c ((h.mem c).2 hc),fun k c hc=>k c ((h.mem c).1 hc)⟩
theorem Alike.inv {f:Nat→Nat} {g:Nat→Rat} (a:Inv d f g):Inv e f g:=by
 obtain⟨h1,h2,h3,h4,h5⟩:=a;refine⟨h1,fun i hi=>?_,fun i hi hf=>?_,fun i hi hf=>?_,fun C hC hC2 hC3=>?_⟩
 ·have:=h2 i (by rw[h.n];exact hi)
  rwa [h.into,h.q] at this
 ·have:=h3 i (by rw[h.n];exact hi) hf
  rwa [h.U] at this
 ·have:=h4 i (by rw[h.n];exact hi) hf
  rwa [h.U] at this
 ·have:=h5 C hC (fun i hi=>by rw[h.n];exact hC2 i hi) ((h.closed f C).2 hC3)
  rwa [h.sumIn,h.into,h.q,h.cap,h.U] at this
theorem Alike.ok (a:d.OK):e.OK:=⟨fun c hc=>by rw[←h.n];exact a.fr c ((h.mem c).2 hc),fun c hc=>by rw[←h.n];exact a.to c ((h.mem c).2 hc),fun c hc=>a.rk c ((h.mem c).2 hc),fun c hc=>a.am c ((h.mem c).2 hc),fun i hi=>by rw[←h.cash];exact a.cash i (by rw[h.n];exact hi)⟩
theorem Alike.isTop {f:Nat→Nat} {x:Nat→Rat} (a:IsTop d f x):IsTop e f x:=by
 obtain⟨g,h1,h2,h3⟩:=a;refine⟨g,h.inv h1,fun i hi=>?_,fun i hi=>h3 i (by rw[h.n];exact hi)⟩
 have:=h2 i (by rw[h.n];exact hi)
 rwa [h.into,h.q] at this
theorem Alike.isTop_iff:IsTop d=IsTop e:=by
 funext f x
 exact propext ⟨h.isTop,h.symm.isTop⟩
theorem Alike.top:d.top=e.top:=by
 funext f
 unfold Day.top;rw[h.isTop_iff]
theorem Alike.falls:d.falls=e.falls:=by
 funext f
 unfold Day.falls;rw[h.top,h.U,h.n]
theorem Alike.fallRank:d.fallRank=e.fallRank:=by
 funext x i k
 induction k with
 | zero=>rfl
 | succ k ih=>unfold Day.fallRank;rw[h.U,ih]
theorem Alike.fallen:d.fallen=e.fallen:=by
 funext f x i
 unfold Day.fallen;rw[h.n,h.U,h.fallRank]
theorem Alike.rounds:d.rounds=e.rounds:=by
 funext k
 induction k with
 | zero=>funext f;rfl
 | succ k ih =>
  funext f
  unfold Day.rounds;rw[h.falls,h.fallen,h.top,ih]
end
def aT (cs:List ClR) (i k:Nat):List ClR:=cs.filter fun c=>c.1==(i:Int)&&c.2.2.1==(k:Int)
theorem cell_mem {cs:List ClR} {i k:Nat} {c:ClR}:c∈aT cs i k↔c∈cs∧c.1=(i:Int)∧c.2.2.1=(k:Int):=by
 unfold aT;rw[aeA,aek,beq_iff_eq,beq_iff_eq]
def aE (n:Nat) (cs:List ClR):List ClR:=(aef n).flatMap fun i=>(aef 10).flatMap fun k=>aT cs i k
theorem GK (cs:List ClR) (i k j r:Nat):aT (aT cs i k) j r=if i=j∧k=r then aT cs i k else []:=by
 unfold aT;rw[List.filter_filter]
 by_cases h:i=j∧k=r
 ·obtain⟨rfl,rfl⟩:=h
  rw[if_pos ⟨rfl,rfl⟩]
  congr 1
  funext c
  simp
 ·rw[if_neg h,List.filter_eq_nil_iff]
  intro c _;simp only[aek,beq_iff_eq];rintro⟨⟨h1,h2⟩,h3,h4⟩;exact h ⟨by omega,by omega⟩
theorem zP {α:Type} {n i:Nat} (hi:i<n) (F:Nat→List α) (h:∀ k,k<n→k≠i→F k=[]):(aef n).flatMap F=F i:=by
 induction n with
 | zero=>omega
 | succ n ih =>
  rw[aeB,aeC,aeD,aeE,aeF]
  by_cases hn:i=n
  ·subst hn
   have:(aef i).flatMap F=[]:=by
    rw[aeG];intro k hk;have:=List.mem_range.1 hk;exact h k (by omega) (by omega)
   rw[this,aeH]
  ·rw[ih (by omega) fun k hk=>h k (by omega),h n (by omega) (Ne.symm hn),aeF]
theorem wD {α:Type} (l:List α) (F:α→List ClR) (i k:Nat):aT (l.flatMap F) i k=l.flatMap fun x=>aT (F x) i k:=by
 unfold aT
 induction l with
 | nil=>rfl
 | cons a l ih=>rw[aeD,aeD,aeI,ih]
theorem uG {n i k:Nat} (cs:List ClR) (hi:i<n) (hk:k<10):aT (aE n cs) i k=aT cs i k:=by
 unfold aE;rw[wD];simp only[wD,GK];rw[zP hi,zP hk]
 ·rw[if_pos ⟨rfl,rfl⟩]
 ·intro r _ hr
  rw[if_neg fun h=>hr h.2]
 ·intro j _ hj
  rw[aeG];intro r _;rw[if_neg fun h=>hj h.1]
theorem qv {n:Nat} {a b:List ClR} (h:∀ i,i<n→∀ k,k<10→aT a i k=aT b i k):aE n a=aE n b:=by
 unfold aE;rw[aeJ,aeJ]
 congr 1
 refine aeK fun i hi=>?_
 rw[aeJ,aeJ]
 congr 1
 exact aeK fun k hk=>h i (List.mem_range.1 hi) k (List.mem_range.1 hk)
theorem xA (n:Nat) (cs:List ClR):aE n (aE n cs)=aE n cs:=qv fun _ hi _ hk=>uG cs hi hk
theorem o9 {n:Nat} {cs:List ClR} (hr:∀ c∈cs,0≤c.1∧c.1<n∧0≤c.2.2.1∧c.2.2.1<10) {c:ClR}:c∈aE n cs↔c∈cs:=by
 unfold aE;simp only[List.mem_flatMap,List.mem_range,cell_mem]
 constructor
 ·rintro⟨i,-,k,-,h,-⟩
  exact h
 ·intro hc
  have:=hr c hc;exact⟨c.1.toNat,by omega,c.2.2.1.toNat,by omega,hc,by omega,by omega⟩
theorem nU (a b:List Cl) (F:Cl→Rat):sumC (a++b) F=sumC a F+sumC b F:=by
 induction a with
 | nil=>simp only[aeH,sumC];grind
 | cons c l ih=>rw[List.cons_append,sumC,sumC,ih];grind
theorem vk (F:Nat→List ClR) (G:Cl→Rat) (n:Nat):sumC (((aef n).flatMap F).map bs) G=sumQ n fun i=>sumC ((F i).map bs) G:=by
 induction n with
 | zero=>rfl
 | succ n ih=>rw[aeB,aeC,aeL,nU,ih,sumQ,aeD,aeE,aeF]
theorem E5 {l:List Cl} (hl:∀ c∈l,c.rk<10) (b:Nat→Cl→Rat):sumQ 10 (fun k=>sumC l (fun c=>if c.rk=k then b k c else 0))=sumC l (fun c=>b c.rk c):=by
 induction l with
 | nil=>exact gP fun k _=>rfl
 | cons c l ih =>
  rw[sumC,←ih fun x hx=>hl x (ad0 _ hx)]
  have e:(fun k:Nat=>sumC (c::l) (fun c=>if c.rk=k then b k c else 0))=fun k=>(if c.rk=k then b k c else 0)+sumC l (fun c=>if c.rk=k then b k c else 0):=rfl
  rw[e,kW]
  congr 1
  rw[iL (hl c adZ) fun k _ hk=>if_neg (Ne.symm hk),if_pos rfl]
theorem tR {cs:List ClR} (hr:∀ c∈cs,0≤c.1∧0≤c.2.2.1) (i k:Nat) (G:Cl→Rat):sumC ((aT cs i k).map bs) G=sumC (cs.map bs) fun c=>if c.fr=i∧c.rk=k then G c else 0:=by
 induction cs with
 | nil=>rfl
 | cons c l ih =>
  have h0:=hr c adZ;have ih:=ih fun x hx=>hr x (ad0 _ hx)
  unfold aT at ih ⊢;rw[aeM,sumC,←ih]
  by_cases h:(bs c).fr=i∧(bs c).rk=k
  ·obtain⟨h1,h2⟩:=h
   have e1:c.1=(i:Int):=by have:c.1.toNat=i:=h1;omega
   have e2:c.2.2.1=(k:Int):=by have:c.2.2.1.toNat=k:=h2;omega
   rw[aeN (by simp [e1,e2]),aeM,sumC,if_pos ⟨h1,h2⟩]
  ·rw[if_neg h,aeO,Rat.zero_add]
   intro hb;rw[aek,beq_iff_eq,beq_iff_eq] at hb;refine h ⟨?_,?_⟩
   ·show c.1.toNat=i;omega
   ·show c.2.2.1.toNat=k;omega
theorem uX {n:Nat} {cs:List ClR} (hr:∀ c∈cs,0≤c.1∧c.1<n∧0≤c.2.2.1∧c.2.2.1<10) (G:Cl→Rat):sumC ((aE n cs).map bs) G=sumC (cs.map bs) G:=by
 unfold aE;rw[vk]
 have hfr:∀ c∈cs.map bs,c.fr<n:=fun c hc=>by
  obtain⟨x,hx,rfl⟩:=List.mem_map.1 hc;have:=hr x hx
  show x.1.toNat<n;omega
 have hrk:∀ c∈cs.map bs,c.rk<10:=fun c hc=>by
  obtain⟨x,hx,rfl⟩:=List.mem_map.1 hc;have:=hr x hx
  show x.2.2.1.toNat<10;omega
 have e:(fun i=>sumC (((aef 10).flatMap fun k=>aT cs i k).map bs) G)=fun i=>sumC (cs.map bs) fun c=>if c.fr=i then G c else 0:=by
  funext i
  rw[vk,←E5 hrk fun _ c=>if c.fr=i then G c else 0]
  congr 1
  funext k
  rw[tR fun c hc=>⟨(hr c hc).1,(hr c hc).2.2.1⟩]
  refine cK fun c _=>?_
  by_cases h1:c.rk=k
  ·rw[if_pos h1]
   by_cases h2:c.fr=i
   ·rw[if_pos ⟨h2,h1⟩,if_pos h2]
   ·rw[if_neg fun h=>h2 h.1,if_neg h2]
  ·rw[if_neg h1,if_neg fun h=>h1 h.2]
 rw[e,Cm hfr fun _ c=>G c]
theorem qH {cash:List Int} {cs:List ClR} (h:cE cash cs=true):Alike (ab cash cs) (ab cash (aE cash.length cs)):=by
 have hr:∀ c∈cs,0≤c.1∧c.1<cash.length∧0≤c.2.2.1∧c.2.2.1<10:=fun c hc=>by
  have:=(rightD_iff.1 h).2.2.2 c hc;exact⟨this.1,this.2.1,this.2.2.2.2.1,this.2.2.2.2.2.1⟩
 refine⟨rfl,rfl,fun c=>?_,fun F=>(uX hr F).symm⟩
 show c∈cs.map bs↔c∈(aE cash.length cs).map bs;rw[aeP,aeP];simp only[o9 hr]
theorem tP {n:Nat} {cs:List ClR} (hr:∀ c∈cs,0≤c.1∧c.1<n∧0≤c.2.2.1∧c.2.2.1<10):(aE n cs).length=cs.length:=by
 have h1:∀ l:List ClR,sumC (l.map bs) (fun _=>1)=(l.length:Rat):=fun l=>by
  induction l with
  | nil=>rfl
  | cons a l ih=>rw[aeM,sumC,ih,aeQ,Rat.natCast_add,Rat.add_comm];rfl
 have:=uX hr fun _=>1
 rw[h1,h1] at this
 exact_mod_cast this
theorem nm {cash:List Int} {cs:List ClR} (h:SmallD cash cs):SmallD cash (aE cash.length cs):=by
 have hri:=rightD_iff.1 h.right
 have hr:∀ c∈cs,0≤c.1∧c.1<cash.length∧0≤c.2.2.1∧c.2.2.1<10:=fun c hc=>by
  have:=hri.2.2.2 c hc;exact⟨this.1,this.2.1,this.2.2.2.2.1,this.2.2.2.2.2.1⟩
 refine⟨rightD_iff.2 ⟨hri.1,by rw[tP hr];exact hri.2.1,hri.2.2.1,fun c hc=>hri.2.2.2 c ((o9 hr).1 hc)⟩,h.n5,by rw[tP hr];exact h.c12,fun c hc=>h.am c ((o9 hr).1 hc)⟩
end Go.Mini
namespace Go.Mini
open Classical
noncomputable def Day.fend (d:Day):Nat→Nat:=(d.rounds (10*d.n) fun _=>10).2
noncomputable def Day.frs (d:Day):List (List Nat):=(d.rounds (10*d.n) fun _=>10).1
noncomputable def Day.gr (d:Day):Nat→Rat:=d.top d.fend
theorem uK (n k:Nat):kV n (fun _=>k)=k*n:=by
 induction n with
 | zero=>rfl
 | succ n ih=>rw[kV,ih,Nat.mul_succ]
section
variable {d:Day} (hd:d.OK)
include hd
theorem Day.OK.hex:∀ f,Reach d f→∃ h,IsTop d f h:=fun _ hr=>NY hd hr
theorem je:Reach d d.fend∧d.falls d.fend=[]:=uk hd hd.hex (10*d.n) (fun _=>10) (Reach.start hd) (by rw[uK];exact aea _)
theorem qd:IsTop d d.fend d.gr:=Day.top_spec (hd.hex _ (je hd).1)
theorem NA:∀ i,i<d.n→d.U i (d.fend i)≤d.gr i:=by
 intro i hi;apply aeR;intro hn;have:i∈d.falls d.fend:=Day.mem_falls.2 ⟨hi,by unfold Day.gr at hn;grind⟩
 rw[(je hd).2] at this
 cases this
theorem iM:(∀ i,i<d.n→d.gr i=d.phi d.gr i)∧∀ i,i<d.n→(d.fend i<10↔d.gr i<d.U i 10):=by
 obtain⟨g,h1,h2,h3⟩:=qd hd;exact h1.final hd h2 h3 (NA hd)
theorem uu {z:Nat→Rat} (hz:∀ i,i<d.n→z i≤d.phi z i):∀ i,i<d.n→z i≤d.gr i:=wR hd hd.hex (je hd).1 hz
theorem wG {i:Nat} (hi:i<d.n):0≤d.gr i:=(qd hd).nonneg hd hi
end
theorem FG {d e:Day} (hcl:e.cl=d.cl) (a:Cl→Rat) (i:Nat):e.into a i=d.into a i+(e.cash i-d.cash i):=by
 unfold Day.into;rw[hcl];grind
theorem RG {d e:Day} (hcl:e.cl=d.cl):e.U=d.U:=by funext i k;unfold Day.U;rw[hcl]
theorem SS {d e:Day} (hcl:e.cl=d.cl):e.S=d.S:=by funext i k;unfold Day.S;rw[hcl]
theorem S5 {d e:Day} (hcl:e.cl=d.cl):e.w=d.w:=by funext c;unfold Day.w;rw[SS hcl]
theorem Oo {d e:Day} (hcl:e.cl=d.cl):e.pay=d.pay:=by funext h c;unfold Day.pay;rw[RG hcl,S5 hcl]
theorem MA {d e:Day} (hd:d.OK) (he:e.OK) (hn:e.n=d.n) (hcl:e.cl=d.cl) (hc:∀ i,i<d.n→d.cash i≤e.cash i):∀ i,i<d.n→d.gr i+(e.cash i-d.cash i)≤e.gr i:=by
 have key:=uu he (z:=fun i=>d.gr i+(e.cash i-d.cash i)) fun i hi=>by
  rw[hn] at hi;have h1:=(iM hd).1 i hi;unfold Day.phi at h1 ⊢;rw[FG hcl,Oo hcl]
  have h2:=d.into_le (a:=d.pay d.gr) (b:=d.pay fun i=>d.gr i+(e.cash i-d.cash i)) (fun c hcm=>hd.pay_mono hcm (by
   have:=hc _ (hd.fr c hcm);grind)) i
  grind
 intro i hi;exact key i (by rw[hn];exact hi)
theorem S_nonneg {d:Day} (hd:d.OK) (i k:Nat):0≤d.S i k:=dF fun c hc=>by
 try dsimp only
 split
 ·exact hd.am c hc
 ·exact aen
end Go.Mini
namespace Go.Mini
open Classical
section
variable {d:Day} (hd:d.OK)
include hd
end
end Go.Mini
namespace Go.Mini
open Classical
def Day.times (d:Day) (k:Rat):Day:=⟨d.n,fun i=>k*d.cash i,d.cl.map fun c=>⟨c.fr,c.to,c.rk,k*c.am⟩⟩
theorem qV (l:List Cl) (g:Cl→Cl) (F:Cl→Rat):sumC (l.map g) F=sumC l fun c=>F (g c):=by
 induction l with
 | nil=>rfl
 | cons c l ih=>rw[aeM,sumC,sumC,ih]
section
variable {d:Day} (hd:d.OK) {k:Rat} (hk:0<k)
theorem xw (i r:Nat):(d.times k).U i r=k*d.U i r:=by
 unfold Day.U Day.times;rw[qV,←jR];refine cK fun c _=>?_
 dsimp only
 split<;>grind
theorem MH (i r:Nat):(d.times k).S i r=k*d.S i r:=by
 unfold Day.S Day.times;rw[qV,←jR];refine cK fun c _=>?_
 dsimp only
 split<;>grind
include hk
theorem Ja (hd:d.OK):(d.times k).OK:=by
 obtain⟨h1,h2,h3,h4,h5⟩:=hd
 have hm:∀ c∈(d.times k).cl,∃ b∈d.cl,c=⟨b.fr,b.to,b.rk,k*b.am⟩:=fun c hc=>by
  obtain⟨b,hb,rfl⟩:=List.mem_map.1 hc;exact⟨b,hb,rfl⟩
 refine⟨fun c hc=>?_,fun c hc=>?_,fun c hc=>?_,fun c hc=>?_,fun i hi=>?_⟩
 ·obtain⟨b,hb,rfl⟩:=hm c hc;exact h1 b hb
 ·obtain⟨b,hb,rfl⟩:=hm c hc;exact h2 b hb
 ·obtain⟨b,hb,rfl⟩:=hm c hc;exact h3 b hb
 ·obtain⟨b,hb,rfl⟩:=hm c hc;exact ad1 (by grind) (h4 b hb)
 ·exact ad1 (by grind) (h5 i hi)
theorem Lz (c:Cl):(d.times k).w ⟨c.fr,c.to,c.rk,k*c.am⟩=d.w c:=by
 unfold Day.w;rw[MH];dsimp only
 by_cases h:d.S c.fr c.rk=0
 ·rw[h,ad8,aeS,aeS,Rat.inv_zero];grind
 ·grind
theorem wU (x:Rat):pos (k*x)=k*pos x:=by
 unfold pos
 by_cases h:x≤0
 ·have:k*x≤0:=by have:=gH (aeT hk) h;grind
  rw[if_pos h,if_pos this];grind
 ·have:0<k*x:=Rat.mul_pos hk (by grind)
  rw[if_neg h,if_neg (by grind)]
theorem Fz (x:Nat→Rat) (c:Cl):(d.times k).pay (fun i=>k*x i) ⟨c.fr,c.to,c.rk,k*c.am⟩=k*d.pay x c:=by
 unfold Day.pay;rw[xw,xw,Lz hk];dsimp only
 by_cases h:d.U c.fr (c.rk+1)≤x c.fr
 ·rw[if_pos h,if_pos (gH (aeT hk) h)]
 ·have:k*x c.fr<k*d.U c.fr (c.rk+1):=Rat.mul_lt_mul_of_pos_left (by grind) hk
  rw[if_neg h,if_neg (by grind),show k*x c.fr-k*d.U c.fr c.rk=k*(x c.fr-d.U c.fr c.rk) by grind,wU hk]
  grind
theorem wN (x:Nat→Rat) (i:Nat):(d.times k).phi (fun i=>k*x i) i=k*d.phi x i:=by
 unfold Day.phi Day.into
 have e:sumC (d.times k).cl (fun c=>if c.to=(i:Int) then (d.times k).pay (fun i=>k*x i) c else 0)=k*sumC d.cl fun c=>if c.to=(i:Int) then d.pay x c else 0:=by
  rw[←jR]
  show sumC (d.cl.map _) _=_;rw[qV];refine cK fun c _=>?_
  rw[Fz hk];dsimp only
  split<;>grind
 rw[e]
 show k*d.cash i+_=_;grind
theorem HE (hd:d.OK):∀ i,i<d.n→(d.times k).gr i=k*d.gr i:=by
 have hdk:=Ja hk hd;intro i hi
 have h1:=uu hdk (z:=fun i=>k*d.gr i) (fun j hj=>by
  rw[wN hk];rw[←(iM hd).1 j hj];exact aen) i hi
 have hki:k*k⁻¹=1:=Rat.mul_inv_cancel _ (by grind)
 have h2:=uu hd (z:=fun i=>k⁻¹*(d.times k).gr i) (fun j hj=>by
  have h3:=wN hk (d:=d) (fun i=>k⁻¹*(d.times k).gr i) j;have h4:(fun i=>k*(k⁻¹*(d.times k).gr i))=(d.times k).gr:=by funext m;rw[←aeU,hki,aed]
  rw[h4,←(iM hdk).1 j hj] at h3;rw[h3,←aeU,ad7 k⁻¹,hki,aed];exact aen) i hi
 have h5:=gH (aeT hk) h2;rw[←aeU,hki,aed] at h5;grind
end
noncomputable def Day.saved (d:Day) (who:Nat):Day:=⟨d.n,fun i=>d.cash i+sumC d.cl fun c=>if c.fr=who∧c.to=(i:Int) then c.am else 0,d.cl.filter fun c=>decide (c.fr≠who)⟩
theorem vp (d:Day) (who:Nat):(d.saved who).cl=d.cl.filter fun c=>decide (c.fr≠who):=rfl
section
variable {d:Day} (hd:d.OK) (who:Nat)
include hd
theorem tW:(d.saved who).OK:=by
 have hm:∀ c∈(d.saved who).cl,c∈d.cl:=fun c hc=>(List.mem_filter.1 hc).1
 refine⟨fun c hc=>hd.fr c (hm c hc),fun c hc=>hd.to c (hm c hc),fun c hc=>hd.rk c (hm c hc),fun c hc=>hd.am c (hm c hc),fun i hi=>?_⟩
 have h1:=hd.cash i hi
 have h2:0≤sumC d.cl fun c=>if c.fr=who∧c.to=(i:Int) then c.am else 0:=dF fun c hc=>by
  try dsimp only
  split
  ·exact hd.am c hc
  ·exact aen
 show 0≤d.cash i+_;grind
end
end Go.Mini
namespace Go.Mini
open Classical
theorem DT {d:Day} (hd:d.OK) {f:Nat→Nat} {g:Nat→Rat} (hi:Inv d f g):∀ m (P:Nat→Prop),idle d P≤m→Pay d f g P (d.lst f P)→∃ P,PayG d f P∧∀ i,i<d.n→d.lst f P i=d.top f i
 | m,P,hm,hp=>by
  by_cases hs:∀ i,i<d.n→f i<10→d.U i (f i)<d.lst f P i→P i
  ·exact⟨P,⟨hd,g,hi,hp⟩,hp.is_top hd hi hs⟩
  ·have⟨i,h1,h2,h3,h4⟩:∃ i,i<d.n∧f i<10∧d.U i (f i)<d.lst f P i∧¬ P i:=by
    apply aeR;intro hn;exact hs fun i h1 h2 h3=>aeR fun h4=>hn ⟨i,h1,h2,h3,h4⟩
   have hlt:=Eo (h:=d.lst f P) h1 h2 h3 h4
   cases m with
   | zero=>omega
   | succ m=>exact DT hd hi m _ (by omega) (hp.succ hd hi)
theorem pB {d:Day} (hd:d.OK) {f:Nat→Nat} (hr:Reach d f):∃ P,PayG d f P∧∀ i,i<d.n→d.lst f P i=d.top f i:=by
 obtain⟨g,hi,-⟩:=hr;exact DT hd hi _ _ (aea _) (Pay.first hd hi)
section
variable {cash:List Int} {cs:List ClR} (hs:SmallD cash cs)
include hs
theorem HA {f:Nat→Nat} (hr:Reach (ab cash cs) f) {i:Nat} (hi:i<cash.length):szR 453 ((ab cash cs).top f i):=by
 obtain⟨P,hp,he⟩:=pB hs.ok hr;rw[←he i hi];exact IP hs hp hi
theorem wQ {i:Nat} (hi:i<cash.length):szR 453 ((ab cash cs).gr i):=HA hs (je hs.ok).1 hi
theorem RX {i:Nat} (hi:i<cash.length):(ab cash cs).gr i≤((2^51:Nat):Rat):=by
 obtain⟨P,hp,he⟩:=pB hs.ok (je hs.ok).1;have:=(ou hs hp hi).2;rw[he i hi] at this;exact this
theorem Jb:∃ M:Nat,0<M∧(∃ a,a≤402∧M≤2^a)∧∀ i,i<cash.length→DenBy M ((ab cash cs).gr i):=by
 obtain⟨P,hp,he⟩:=pB hs.ok (je hs.ok).1;obtain⟨M,h1,h2,h3⟩:=EB hs hp;refine⟨M,h1,h2,fun i hi=>?_⟩
 have:=h3 i hi;rw[he i hi] at this;exact this
end
section
variable {d:Day} (hd:d.OK)
include hd
end
noncomputable def sr (cash:List Int) (cs:List ClR) (k:Nat):Nat:=if (ab cash cs).fend k<10 then SN cs k ((ab cash cs).fend k) else 1
section
variable {cash:List Int} {cs:List ClR} (hs:SmallD cash cs)
include hs
theorem A7 {k:Nat} (hk:k<cash.length):0<sr cash cs k:=by
 unfold sr
 split
 ·rename_i h
  obtain⟨g,h1,-⟩:=qd hs.ok;have h2:=h1.S_pos (i:=k) hk h;rw[←mV hs.right] at h2
  exact_mod_cast h2
 ·omega
theorem DM (k:Nat):sr cash cs k≤2^29:=by
 unfold sr
 split
 ·exact hs.SN_le _ _
 ·exact aec
theorem Er {M:Nat} (hM:∀ i,i<cash.length→DenBy M ((ab cash cs).gr i)) {c:ClR} (hc:c∈cs):DenBy (M*sr cash cs (bs c).fr) ((ab cash cs).pay (ab cash cs).gr (bs c)):=by
 have hd:=hs.ok;have hcm:bs c∈(ab cash cs).cl:=aeV hc;have hk:(bs c).fr<cash.length:=hd.fr _ hcm;have ham:∀ N,DenBy N (bs c).am:=fun N=>DenBy.int N c.2.2.2
 have hz:∀ N,DenBy N (0:Rat):=DenBy.zero;have hU:=fun r s=>@Day.OK.U_mono _ hd (bs c).fr r s
 have hrk:=hd.rk _ hcm;have hno:=NA hd _ hk;unfold Day.pay
 by_cases h1:(ab cash cs).U (bs c).fr ((bs c).rk+1)≤(ab cash cs).gr (bs c).fr
 ·rw[if_pos h1];exact ham _
 ·rw[if_neg h1]
  have hf:(ab cash cs).fend (bs c).fr<10:=by
   refine ((iM hd).2 _ hk).2 ?_;have:=hU ((bs c).rk+1) 10 (by omega);grind
  have hlt:(ab cash cs).gr (bs c).fr<(ab cash cs).U (bs c).fr ((ab cash cs).fend (bs c).fr+1):=by
   obtain⟨g,k1,-,k3⟩:=qd hd;have:=k1.hi _ hk hf;have:=k3 _ hk;grind
  rcases Nat.lt_trichotomy (bs c).rk ((ab cash cs).fend (bs c).fr) with h2 | h2 | h2
  ·have:=hU ((bs c).rk+1) ((ab cash cs).fend (bs c).fr) (by omega)
   exact absurd (aeo this hno) h1
  ·have hw:DenBy (sr cash cs (bs c).fr) ((ab cash cs).w (bs c)):=by
    unfold sr;rw[if_pos hf];refine⟨c.2.2.2,?_⟩;rw[mV hs.right,←h2]
    have:0<(ab cash cs).S (bs c).fr (bs c).rk:=by
     have:=(ab cash cs).U_succ (bs c).fr ((ab cash cs).fend (bs c).fr);rw[h2];grind
    exact Day.w_S this
   have hgr:DenBy M ((ab cash cs).gr (bs c).fr-(ab cash cs).U (bs c).fr (bs c).rk):=by
    refine (hM _ hk).sub ?_;rw[←dA hs.right];exact DenBy.int _ _
   rw[kQ (by rw[h2];grind),adT];exact hw.mul hgr
  ·have:=hU ((ab cash cs).fend (bs c).fr+1) (bs c).rk (by omega)
   rw[gL (by grind),ad8];exact hz _
theorem LH {c:ClR} (hc:c∈cs):szR 482 ((ab cash cs).pay (ab cash cs).gr (bs c)):=by
 obtain⟨M,h1,⟨a,h2,h3⟩,h4⟩:=Jb hs;have hcm:bs c∈(ab cash cs).cl:=aeV hc;have hk:(bs c).fr<cash.length:=hs.ok.fr _ hcm;have h5:=Er hs h4 hc;have h6:=A7 hs hk;have h7:=DM hs (bs c).fr;have h8:M*sr cash cs (bs c).fr≤2^(a+29):=by rw[adR];exact adS h3 h7
 have h9:=hs.ok.pay_nonneg (ab cash cs).gr hcm
 have h10:(ab cash cs).pay (ab cash cs).gr (bs c)≤((2^25:Nat):Rat):=by
  refine aeo (hs.ok.pay_le _ hcm) ?_;have:=hs.am c hc
  show ((c.2.2.2:Int):Rat)≤_;have:c.2.2.2≤((2^25:Nat):Int):=by omega
  rw[←adY];exact Rat.intCast_le_intCast.2 this
 exact (h5.sz (adP h1 h6) h8 h9 h10).mono (by omega)
end
end Go.Mini
namespace Go.Mini
open Go
set_option maxRecDepth 10000
set_option maxHeartbeats 4000000
theorem rightC_iff {n:Int} {c:ClR}:dW n c=true↔0≤c.1∧c.1<n ∧ -1≤c.2.1∧c.2.1<n∧0≤c.2.2.1∧c.2.2.1<10∧0≤c.2.2.2∧c.2.2.2≤1000000000000000:=by
 unfold dW;simp only[aek,decide_eq_true_eq,and_assoc]
def dt (x:Int):Bool:=decide (0≤x)&&decide (x≤1000000000000000)
theorem rightM_iff {x:Int}:dt x=true↔0≤x∧x≤1000000000000000:=by
 unfold dt;simp only[aek,decide_eq_true_eq]
theorem uz (cash:List Int) (cs:List ClR):cE cash cs=(decide (cash.length≤60)&&decide (cs.length≤2000)&&cash.all dt&&cs.all (dW cash.length)):=rfl

theorem Em {x y:Rat} (hx:cy x) (hy:cy y) (h:jE x y=true):pn [.agg (ad (ak x)),.agg (ad (ak y))]=some (.same (.tup [.agg (ad (ak (x+y))),.int .i64 0])):=by
 have h1:=eF hx;have h2:=eF hy;have:=E8 (ak x).1.1 (ak x).1.2 (ak x).2.1 (ak x).2.2 (ak y).1.1 (ak y).1.2 (ak y).2.1 (ak y).2.2 ⟨h1.1,h1.2,h2.1,h2.2⟩;have e:uA (ak x) (ak y)=(ak (x+y),0):=by rw[A8 hx hy,h];rfl
 exact this.trans (by show some (PRes.same (bE (uA (ak x) (ak y))))=_;rw[e];rfl)
theorem sG {x y:Rat} (hx:cy x) (hy:cy y) (h:jE x (-y)=true):lT [.agg (ad (ak x)),.agg (ad (ak y))]=some (.same (.tup [.agg (ad (ak (x-y))),.int .i64 0])):=by
 have h1:=eF hx;have h2:=eF hy;have:=Gq (ak x).1.1 (ak x).1.2 (ak x).2.1 (ak x).2.2 (ak y).1.1 (ak y).1.2 (ak y).2.1 (ak y).2.2 ⟨h1.1,h1.2,h2.1,h2.2⟩;have e:nv (ak x) (ak y)=(ak (x-y),0):=by rw[pN hx hy,h];rfl
 exact this.trans (by show some (PRes.same (bE (nv (ak x) (ak y))))=_;rw[e];rfl)
theorem yk {x y:Rat} (hx:cy x) (hy:cy y) (h:qh x y=true):kI [.agg (ad (ak x)),.agg (ad (ak y))]=some (.same (.tup [.agg (ad (ak (x*y))),.int .i64 0])):=by
 have h1:=eF hx;have h2:=eF hy;have:=Fn (ak x).1.1 (ak x).1.2 (ak x).2.1 (ak x).2.2 (ak y).1.1 (ak y).1.2 (ak y).2.1 (ak y).2.2 ⟨h1.1,h1.2,h2.1,h2.2⟩;have e:lX (ak x) (ak y)=(ak (x*y),0):=by rw[tv hx hy,h];rfl
 exact this.trans (by show some (PRes.same (bE (lX (ak x) (ak y))))=_;rw[e];rfl)
theorem LL {x y:Rat} (hx:cy x) (hy:cy y) (h0:y≠0) (h:ob x y=true):o6 [.agg (ad (ak x)),.agg (ad (ak y))]=some (.same (.tup [.agg (ad (ak (x / y))),.int .i64 0])):=by
 have h1:=eF hx;have h2:=eF hy;have:=Gp (ak x).1.1 (ak x).1.2 (ak x).2.1 (ak x).2.2 (ak y).1.1 (ak y).1.2 (ak y).2.1 (ak y).2.2 ⟨h1.1,h1.2,h2.1,h2.2⟩;have e:iY (ak x) (ak y)=(ak (x / y),0):=by rw[qY hx hy h0,h];rfl
 exact this.trans (by show some (PRes.same (bE (iY (ak x) (ak y))))=_;rw[e];rfl)
theorem jT {x y:Rat} (hx:cy x) (hy:cy y):d7 [.agg (ad (ak x)),.agg (ad (ak y))]=some (.same (.int .i64 (mM x y))):=by
 have h1:=eF hx;have h2:=eF hy;have:=oU (ak x).1.1 (ak x).1.2 (ak x).2.1 (ak x).2.2 (ak y).1.1 (ak y).1.2 (ak y).2.1 (ak y).2.2 ⟨h1.1,h1.2,h2.1,h2.2⟩;exact this.trans (by show some (PRes.same (.int .i64 (pe (ak x) (ak y))))=_;rw[uJ hx hy])
theorem zd {x y:Rat}:decide (mM x y>0)=decide (y<x):=by
 have h1:mM x y>0↔y<x:=by
  unfold mM;rw[gt_iff_lt,Int.sign_pos_iff,aeW];omega
 rw[decide_eq_decide];exact h1
theorem BK {x y:Rat}:decide (mM x y<0)=decide (x<y):=by
 have h1:mM x y<0↔x<y:=by
  unfold mM;rw[aeX,aeW];omega
 rw[decide_eq_decide];exact h1
theorem sb {x y:Rat}:decide (mM x y≥0)=decide (y≤x):=by
 have h1:mM x y≥0↔y≤x:=by
  unfold mM;rw[ge_iff_le,Int.sign_nonneg_iff,Rat.le_iff];omega
 rw[decide_eq_decide];exact h1
end Go.Mini
namespace Go.Mini
open Go
variable {P:Program} {A:Nat→Prop} {w w':World} {B B':Lay} {mem mem':Mem}
def mkN (N:List MV→Mem→Option Data) (args:List MV) (mem:Mem):Option Eff:=(N args mem).map fun d => .rel (isR (.dat d) mem)
@[go_sem] theorem S8 (N:List MV→Mem→Option Data) (args:List MV) (mem:Mem):mkN N args mem=(N args mem).map fun d => .rel (isR (.dat d) mem):=_root_.id rfl
theorem py {T : Tab} {kb : Nat} {own : List Nat} (hT : ke P T) (hm : P.follows .mixedOrders = true) {f : FuncId} {fn : Func} {mf : MFunc} (hf : P.funcs[f]? = some fn) (hname : (fn.name == "runtime.NumGoroutine") = false) (htr : jW P kb own fn = some { mf with body := erase mf.body })
  (J:Key→Prop) {N:List MV→Mem→Option Data}
  (h:∀ args mem d,N args mem=some d→args.length≤mf.n∧(∀ j,J j→mem j=none) ∧
   wp T mf.body (pH mf.res fun m mem'=>toD 6 emp m=some d∧∀ j,¬ J j→mem' j=mem j) ⟨ax args,mem⟩):iJ P f (mkN N):=by
 refine⟨yY hf hname htr,fun args mem eff hE A w B vs hmr hv=>?_⟩
 unfold mkN at hE;rw[Option.map_eq_some_iff] at hE;obtain⟨d,hU,rfl⟩:=hE;obtain⟨hlen,hJ,hwp⟩:=h args mem d hU;refine Calls.mono (la (Post:=fun m mem'=>toD 6 emp m=some d∧∀ j,¬ J j→mem' j=mem j) hT hm hf htr hlen (fun e st hk=>rp hk) hwp hmr hv) fun e w' he=>?_
 obtain⟨v,m,mem',B',rfl,hs,hv',hd,hmem⟩:=he;exact⟨v,.dat d,mem,lZ J B',rfl,hs.drop hmr hJ hJ (fun j hj=>(hmem j hj).symm) (fun k g cs hk m hm => .inr ⟨k,g,cs,hk,hm⟩),.dat ((rj 6 m v d hd hv').less fun b hb=>hb.imp ky id),rfl,rfl⟩
open Classical in
noncomputable def NN {α:Type} (M:α→List MV→Mem→Prop) (res:α→Data):List MV→Mem→Option Data:=fun args mem=>if h:∃ a,M a args mem then some (res (Classical.choose h)) else none
theorem Hz {α:Type} {M:α→List MV→Mem→Prop} {res:α→Data} (uniq:∀ a b args mem,M a args mem→M b args mem→res a=res b) {a:α} {args:List MV} {mem:Mem} (h:M a args mem):NN M res args mem=some (res a):=by
 have hx:∃ b,M b args mem:=⟨a,h⟩;unfold NN;rw[dif_pos hx,uniq _ _ _ _ (aeY hx) h]
theorem Cr {α:Type} {M:α→List MV→Mem→Prop} {res:α→Data} {args:List MV} {mem:Mem} {d:Data} (h:NN M res args mem=some d):∃ a,M a args mem∧d=res a:=by
 unfold NN at h
 split at h
 ·rename_i hx
  exact⟨_,aeY hx,(Option.some.inj h).symm⟩
 ·cases h
theorem JA {α:Type} {M:α→List MV→Mem→Prop} {R:α→Mem→MV→Mem→Prop} (uniq:∀ a b args mem,M a args mem→M b args mem→R a mem=R b mem) {a:α} {args:List MV} {mem:Mem} (h:M a args mem):QQ M R args mem=some (R a mem):=by
 have hx:∃ b,M b args mem:=⟨a,h⟩;unfold QQ;rw[dif_pos hx,uniq _ _ _ _ (aeY hx) h]
theorem vE {K:St→Prop} {st:St} {x:Opd} {i k sz kc g off:Nat} {cs:List MV} (h1:ev st.tm x = .ptr kc g off) (h2:st.mem kc=some (g,cs)) (h3:cs[off+i]?=some .nil) (h4:k≠kc)
  (h:K ⟨st.tm,aA (aA st.mem k (aD st.mem k) []) kc g (cs.set (off+i) (.ref k (aD st.mem k) sz 0 0))⟩):dP K st (.adoptC x i k sz):=by
 simp only[dP,h1,h2,if_true,h3];rw[if_pos h4];exact h
theorem sY {K:St→Prop} {st:St} {x:Opd} {i kc gc off k g sz o len:Nat} {cc cs:List MV} {d:Data} (h1:ev st.tm x = .ptr kc gc off) (h2:st.mem kc=some (gc,cc)) (h3:cc[off+i]?=some (.ref k g sz o len)) (h4:st.mem k=some (g,cs)) (h5:lI cs=true) (h6:k≠kc) (h7:toD 1 st.mem (.ref k g sz o len)=some d)
  (h:K ⟨st.tm,aA (kill st.mem k) kc gc (cc.set (off+i) (.dat d))⟩):dP K st (.freezeC x i):=by
 simp only[dP,h1,h2,if_true,h3,h4];rw[if_pos ⟨trivial,h5,h6⟩,h7];exact h
def FrK (n:Nat) (mem m:Mem):Prop:=∀ k,k / 1000≠n→m k=mem k
theorem FrK.refl (n:Nat) (mem:Mem):FrK n mem mem:=fun _ _=>rfl
theorem FrK.upd {n k g:Nat} {cs:List MV} {mem m:Mem} (h:FrK n mem m) (hk:k / 1000=n):FrK n mem (aA m k g cs):=fun j hj=>by
 have:j≠k:=fun e=>hj (by rw[e];exact hk)
 simp only[aA,this,if_false];exact h j hj
theorem FrK.kill {n k:Nat} {mem m:Mem} (h:FrK n mem m) (hk:k / 1000=n):FrK n mem (kill m k):=h.upd hk
theorem FrK.at {n:Nat} {mem m:Mem} (h:FrK n mem m) (k:Nat) (hk:k / 1000≠n):m k=mem k:=h k hk
def NoK (n:Nat) (mem:Mem):Prop:=∀ k,k / 1000=n→mem k=none
theorem NoK.fr {n n':Nat} {mem m:Mem} (h:NoK n mem) (hf:FrK n' mem m) (hn:n≠n'):NoK n m:=fun k hk=>by rw[hf k (by omega)];exact h k hk
end Go.Mini
namespace Go.Mini
open Go
set_option maxRecDepth 10000
set_option maxHeartbeats 4000000
def iC (x:Int):MV:=.dat (.int .i64 x)
def bC (b:Bool):MV:=.dat (.bool b)
theorem zY {α:Type} {f:α→MV} {l:List α} {k:Nat} {y:α} (h:l[k]?=some y):aeZ 1 (ae0 k (l.map f))=[f y]:=by
 obtain⟨hl,rfl⟩:=List.getElem?_eq_some_iff.1 h;rw[←List.map_drop,List.drop_eq_getElem_cons hl,aeM,List.take_succ_cons,ae1]
structure RoundAt (cash:List Int) (cs:List ClR) (fl:List Int) (P:List Bool) (g gr gp:Nat) (mem:Mem):Prop where
 r:mem 261029=some (g,[.dat (.sl (cash.map aa)),.dat (.sl (cs.map clL)),.ref 261042 gr 1 0 fl.length,.ref 261027 gp 1 0 P.length,.dat (.bool false)])
 f:mem 261042=some (gr,fl.map iC)
 p:mem 261027=some (gp,P.map bC)
theorem RoundAt.fr {cash:List Int} {cs:List ClR} {fl:List Int} {P:List Bool} {g gr gp n:Nat} {mem m:Mem} (h:RoundAt cash cs fl P g gr gp mem) (hf:FrK n mem m) (hn:n≠261):RoundAt cash cs fl P g gr gp m :=
 ⟨(hf.at 261029 (by omega)).trans h.r,(hf.at 261042 (by omega)).trans h.f,(hf.at 261027 (by omega)).trans h.p⟩
theorem Ky {a b:List Int} (h:a.map iC=b.map iC):a=b:=af (fun x y h=>by simpa [iC] using h) _ _ h
theorem O1 {a b:List Bool} (h:a.map bC=b.map bC):a=b:=af (fun x y h=>by simpa [bC] using h) _ _ h
theorem RoundAt.uniq {cash cash':List Int} {cs cs':List ClR} {fl fl':List Int} {P P':List Bool} {g gr gp g' gr' gp':Nat} {mem:Mem} (h:RoundAt cash cs fl P g gr gp mem) (h':RoundAt cash' cs' fl' P' g' gr' gp' mem):cash=cash'∧cs=cs'∧fl=fl'∧P=P'∧g=g'∧gr=gr'∧gp=gp':=by
 have h1:=h.r;rw[h'.r] at h1;simp only[Option.some.injEq,Prod.mk.injEq,List.cons.injEq,MV.dat.injEq,Data.sl.injEq,MV.ref.injEq,true_and,and_true] at h1;obtain⟨e1,e2,e3,⟨e4,-⟩,e6,-⟩:=h1;have h2:=h.f;rw[h'.f] at h2;simp only[Option.some.injEq,Prod.mk.injEq] at h2;have h3:=h.p;rw[h'.p] at h3;simp only[Option.some.injEq,Prod.mk.injEq] at h3;exact⟨(af ai _ _ e2).symm,(af fZ _ _ e3).symm,(Ky h2.2).symm,(O1 h3.2).symm,e1.symm,e4.symm,e6.symm⟩
structure RdA where
 cash:List Int
 cs:List ClR
 fl:List Int
 P:List Bool
 g:Nat
 gr:Nat
 gp:Nat
def RdA.At (a:RdA) (mem:Mem):Prop:=RoundAt a.cash a.cs a.fl a.P a.g a.gr a.gp mem
theorem RdA.uniq {a b:RdA} {mem:Mem} (h:a.At mem) (h':b.At mem):a=b:=by
 obtain⟨a1,a2,a3,a4,a5,a6,a7⟩:=a;obtain⟨b1,b2,b3,b4,b5,b6,b7⟩:=b;have:=RoundAt.uniq h h';dsimp only at this;obtain⟨rfl,rfl,rfl,rfl,rfl,rfl,rfl⟩:=this
 rfl
theorem FrK.same {n k g:Nat} {cs:List MV} {mem m:Mem} (h:FrK n mem m) (hm:mem k=some (g,cs)):FrK n mem (aA m k g cs):=fun j hj=>by
 by_cases e:j=k
 ·subst e
  simp only[aA,if_true];exact hm.symm
 ·simp only[aA,e,if_false]
  exact h j hj
theorem gw {z:Int} (h1:-9000000000000000000≤z) (h2:z≤9000000000000000000):ca z:=by unfold ca;omega
theorem okCs.upto {cs:List ClR} (h:okCs cs) (i r:Int):0≤aM cs i r∧aM cs i r≤2000000000000000000:=by
 have:=h.sum (fun c=>c.1=i∧c.2.2.1<r) cs.length;rw[List.take_length] at this;exact this
theorem Jj {p q:Int} (hp:ca p) (hq:ca q) (h0:q≠0):fH (aP p) (aP q)=(ak ((p:Rat) / (q:Rat)),0):=by
 rw[i7 (jz hp) (jz hq) h0,aer]
def SI (cs:List ClR) (i r:Int):Int:=aM cs i (r+1)-aM cs i r
end Go.Mini
namespace Go.Mini
open Go Classical
set_option maxRecDepth 10000
def fOf (fl:List Int) (i:Nat):Nat:=(fl.getD i 10).toNat
def pOf (P:List Bool) (i:Nat):Prop:=P.getD i false=true
theorem ng {z:Int} {b:Nat} (h:z.natAbs≤2^b):szR b (z:Rat):=⟨by rw[ae2];exact h,by rw[ae3];exact aec⟩
theorem SR {cash:List Int} {cs:List ClR} (hs:SmallD cash cs) {c:ClR} (hc:c∈cs):szR 29 ((ab cash cs).w (bs c)):=by
 have hr:=(rightD_iff.1 hs.right).2.2.2 c hc;have ham:=hs.am c hc
 by_cases h0:c.2.2.2=0
 ·have:(bs c).am=0:=by show ((c.2.2.2:Int):Rat)=0;rw[h0];rfl
  rw[Day.w_zero this];exact⟨ad2 _,aec⟩
 ·have hS:=mV hs.right (bs c).fr (bs c).rk
  have hle:=(nZ hs.right).am_le (c:=bs c) (aeV hc);rw[←hS] at hle
  have h1:c.2.2.2≤((SN cs (bs c).fr (bs c).rk:Nat):Int):=by
   have:((c.2.2.2:Int):Rat)≤(((SN cs (bs c).fr (bs c).rk:Nat):Int):Rat):=by rw[adY];exact hle
   exact_mod_cast this
  have h2:=hs.SN_le (bs c).fr (bs c).rk
  obtain⟨f1,f2⟩:=fE (q:=(ab cash cs).w (bs c)) (v:=c.2.2.2) (d:=((SN cs (bs c).fr (bs c).rk:Nat):Int)) (by omega) (by
   rw[adY,hS];refine Day.w_S ?_;rw[←hS];have:0<SN cs (bs c).fr (bs c).rk:=by omega
   exact_mod_cast this)
  rw[ad3] at f2;exact⟨by omega,by omega⟩
section
variable {cash:List Int} {cs:List ClR} (hs:SmallD cash cs) (f:Nat→Nat) (P:Nat→Prop) (i:Nat)
include hs
end
end Go.Mini
namespace Go.Mini
open Go
set_option maxRecDepth 10000
set_option maxHeartbeats 4000000
theorem qZ:ca 0:=by unfold ca;omega
theorem Ig:ca 1:=by unfold ca;omega
theorem Hr {N k:Nat} (x:Nat→Rat) (y:Rat):(bY N x).set k (ak y)=bY N fun j=>if j=k then y else x j:=by
 refine qB (by rw[ae4,dQ]) fun j hj=>?_
 rw[ae5]
 by_cases h:k=j
 ·rw[if_pos h,if_pos (by rw[dQ];omega),if_pos h.symm]
 ·rw[if_neg h,eY _ hj,if_neg (Ne.symm h)]
theorem DL {α:Type} {l:List α} {k:Nat} {d x:α} (h:l[k]?=some x):l.getD k d=x:=by rw[ad9,h];rfl
theorem Ft (r:cG):((ft r).map MV.dat).all MV.one=true:=rfl

def bL (n:Nat) (p:Nat→Bool):List Bool:=(aef n).map p
theorem xp (n:Nat) (p:Nat→Bool):(bL n p).length=n:=by simp [bL]
theorem yt {n i:Nat} (p:Nat→Bool) (h:i<n):(bL n p)[i]?=some (p i):=by
 unfold bL;rw[aeg,aeh h];rfl
theorem JF {n:Nat} {p q:Nat→Bool} (h:∀ i,i<n→p i=q i):bL n p=bL n q:=aeK fun i hi=>h i (List.mem_range.1 hi)
theorem pOf_bL {n i:Nat} {p:Nat→Bool}:pOf (bL n p) i↔i<n∧p i=true:=by
 unfold pOf;rcases ae6 i n with h | h
 ·rw[DL (yt p h)];exact⟨fun e=>⟨h,e⟩,fun e=>e.2⟩
 ·rw[ad9,ae7 (by rw[xp];exact h)]
  simp;omega
noncomputable def sA (d:Day) (f:Nat→Nat) (h:Nat→Rat) (i:Nat):Bool:=decide (f i<10)&&decide (d.U i (f i)<h i)
noncomputable def iG (d:Day) (f:Nat→Nat) (h:Nat→Rat) (p:Nat→Bool) (i j:Nat):Bool:=p j||(decide (j<i)&&sA d f h j)
noncomputable def oY (d:Day) (f:Nat→Nat) (h:Nat→Rat) (p:Nat→Bool) (i:Nat):Bool:=(aef i).any fun j => !p j&&sA d f h j
theorem C6 (d:Day) (f:Nat→Nat) (h:Nat→Rat) (p:Nat→Bool) (i:Nat):oY d f h p (i+1)=(oY d f h p i||(!p i&&sA d f h i)):=by
 unfold oY;rw[aeB,List.any_append];simp
theorem Av (d:Day) (f:Nat→Nat) (h:Nat→Rat) (p:Nat→Bool) (i:Nat):iG d f h p i i=p i:=by
 unfold iG;rw[decide_eq_false (Nat.lt_irrefl i),aex,Bool.or_false]
theorem tz (d:Day) (f:Nat→Nat) (h:Nat→Rat) (p:Nat→Bool) (i j:Nat):iG d f h p (i+1) j=if j=i then (p i||sA d f h i) else iG d f h p i j:=by
 unfold iG
 by_cases hj:j=i
 ·subst hj
  rw[if_pos rfl,decide_eq_true (Nat.lt_succ_self j),aej]
 ·rw[if_neg hj]
  congr 2
  rw[decide_eq_decide];omega
theorem GL {d:Day} {f:Nat→Nat} {h:Nat→Rat} {p:Nat→Bool}:pOf (bL d.n (iG d f h p d.n))=ls d f (pOf (bL d.n p)) h:=by
 funext i
 apply propext;rw[pOf_bL];unfold ls iG sA;rw[pOf_bL]
 constructor
 ·rintro⟨h1,h2⟩
  rw[ae8] at h2;rcases h2 with h2 | h2
  ·exact .inl ⟨h1,h2⟩
  ·simp only[aek,decide_eq_true_eq] at h2
   exact .inr ⟨h1,h2.2⟩
 ·rintro (⟨h1,h2⟩ | ⟨h1,h2⟩)
  ·exact⟨h1,by rw[h2];rfl⟩
  ·refine⟨h1,?_⟩
   rw[ae8]
   right
   simp only[aek,decide_eq_true_eq];exact⟨h1,h2⟩
theorem Gy {n:Nat}:pOf (bL n fun _=>false)=fun _=>False:=by
 funext i
 apply propext;rw[pOf_bL];simp
theorem K8 {d:Day} {f:Nat→Nat} {h:Nat→Rat} {p:Nat→Bool} {n:Nat} (hm:oY d f h p n=true):kV n (fun i=>if iG d f h p n i then 0 else 1)<kV n fun i=>if p i then 0 else 1:=by
 unfold oY at hm;rw[List.any_eq_true] at hm;obtain⟨j,hj,h2⟩:=hm;have hj:=List.mem_range.1 hj;simp only[aek,ael] at h2;refine yv (j:=j) (fun i hi=>?_) hj ?_
 ·unfold iG
  cases p i
  ·try dsimp only
   split<;>simp
  ·simp
 ·unfold iG
  rw[h2.1,h2.2,decide_eq_true hj]
  decide
theorem MF {d:Day} {f:Nat→Nat} {h:Nat→Rat} {p:Nat→Bool} {n:Nat} (hm:oY d f h p n=false) {i:Nat} (hi:i<n) (h1:f i<10) (h2:d.U i (f i)<h i):p i=true:=by
 unfold oY at hm;rw[aei] at hm;have:=hm i (List.mem_range.2 hi);unfold sA at this;rw[decide_eq_true h1,decide_eq_true h2] at this
 simpa using this
noncomputable def fP (cs:List ClR) (x:Rat) (c:ClR):Rat:=if ((aM cs c.1 (c.2.2.1+1):Int):Rat)≤x then (c.2.2.2:Rat) else (c.2.2.2:Rat) / ((SI cs c.1 c.2.2.1:Int):Rat)*pos (x-((aM cs c.1 c.2.2.1:Int):Rat))
theorem Ng {cash:List Int} {cs:List ClR} (h:cE cash cs=true) (x:Nat→Rat) {c:ClR} (hc:c∈cs):(ab cash cs).pay x (bs c)=fP cs (x c.1.toNat) c:=by
 have hr:=(rightD_iff.1 h).2.2.2 c hc;obtain⟨c1,c2,c3,c4⟩:=c;dsimp only at hr;obtain⟨c1,rfl⟩:∃ k:Nat,c1=(k:Int):=⟨c1.toNat,by omega⟩
 obtain⟨c3,rfl⟩:∃ k:Nat,c3=(k:Int):=⟨c3.toNat,by omega⟩
 unfold Day.pay fP Day.w;have h1:=dA h c1 (c3+1);have h2:=dA h c1 c3;have h3:=xL h c1 c3;have e1:(bs ((c1:Int),c2,(c3:Int),c4)).fr=c1:=ae9 c1;have e2:(bs ((c1:Int),c2,(c3:Int),c4)).rk=c3:=ae9 c3;have e3:(bs ((c1:Int),c2,(c3:Int),c4)).am=(c4:Rat):=rfl;rw[e1,e2,e3,←h1,←h2,←h3]
 rfl
structure OwnOK (l:List ClR):Prop where
 len:l.length≤12
 c:∀ c∈l,0≤c.1∧c.1<60 ∧ -1≤c.2.1∧c.2.1<60∧0≤c.2.2.1∧c.2.2.1<10∧0≤c.2.2.2∧c.2.2.2≤33554432
 one:∀ c∈l,∀ c'∈l,c.1=c'.1
theorem OwnOK.cs {l:List ClR} (h:OwnOK l):okCs l:=⟨by have:=h.len;omega,fun c hc=>by have:=h.c c hc;omega⟩
def ko {α:Type} (enc:α→List MV) (l:List α):List MV:=(l.map enc).flatten
theorem HS {α:Type} {enc:α→List MV} {sz:Nat} (h:∀ a,(enc a).length=sz) (l:List α):(ko enc l).length=l.length*sz:=by
 unfold ko
 induction l with
 | nil=>simp
 | cons a l ih=>rw[aeM,afa,List.length_append,ih,h,aeQ,adQ];omega
theorem AO {α:Type} {enc:α→List MV} {sz:Nat} (h:∀ a,(enc a).length=sz):∀ (l:List α) (i:Nat),i<l.length→∀ b,aeZ (i*sz) (ko enc l)++enc b++ae0 (i*sz+sz) (ko enc l)=ko enc (l.set i b)
 | [],i,hi,b=>absurd hi (by simp)
 | a::l,0,_,b=>by
  have ha:=h a;unfold ko;simp only[Nat.zero_mul,Nat.zero_add,ae1,aeH,aeM,afa,List.set_cons_zero];rw[←ha,List.drop_left]
 | a::l,i+1,hi,b=>by
  have ha:=h a;have ih:=AO h l i (by simpa using hi) b;unfold ko at ih ⊢;simp only[aeM,afa,List.set_cons_succ];rw[←ih,adQ,List.take_append,afb,ha];rw[aey (by omega),afc (by omega),aeH];rw[show i*sz+sz-sz=i*sz by omega,show i*sz+sz+sz-sz=i*sz+sz by omega]
  simp only[List.append_assoc]
def fL {α:Type} (n:Nat) (q:Nat→α):List α:=(aef n).map q
theorem bT {α:Type} (n:Nat) (q:Nat→α):(fL n q).length=n:=by simp [fL]
theorem cR {α:Type} {n i:Nat} (q:Nat→α) (h:i<n):(fL n q)[i]?=some (q i):=by
 unfold fL;rw[aeg,aeh h];rfl
theorem Ed {α:Type} {n:Nat} {l:List α} {q:Nat→α} (hl:l.length=n) (h:∀ i,i<n→l[i]?=some (q i)):l=fL n q:=by
 apply afd;intro i;rcases ae6 i n with hi | hi
 ·rw[h i hi,cR q hi]
 ·rw[ae7 (by omega),ae7 (by rw[bT];exact hi)]
theorem nr {α:Type} {n i:Nat} (q:Nat→α) (b:α):(fL n q).set i b=fL n fun j=>if j=i then b else q j:=by
 refine Ed (by rw[ae4,bT]) fun j hj=>?_
 rw[ae5]
 by_cases h:i=j
 ·rw[if_pos h,if_pos (by rw[bT];omega),if_pos h.symm]
 ·rw[if_neg h,cR _ hj,if_neg (Ne.symm h)]
theorem bK {α:Type} {n:Nat} {p q:Nat→α} (h:∀ i,i<n→p i=q i):fL n p=fL n q:=aeK fun i hi=>h i (List.mem_range.1 hi)
def oP:Option aU→List MV
 | none=>[.dat (.int .i64 0),.nil,.dat (.int .i64 0),.nil]
 | some f=>(ad f).map .dat
theorem AV:∀ a,(oP a).length=4
 | none=>rfl
 | some _=>rfl
theorem xa (n:Nat):(List.replicate n [MV.dat (.int .i64 0),MV.nil,MV.dat (.int .i64 0),MV.nil]).flatten=ko oP (fL n fun _=>none):=by
 unfold ko fL;rw[List.map_map]
 congr 1
 apply afd;intro i;rw[aeg];rcases ae6 i n with hi | hi
 ·rw[aeh hi,List.getElem?_replicate,if_pos hi];rfl
 ·rw[ae7 (by simpa using hi),ae7 (by simpa using hi)];rfl
theorem zZ (l:List aU):ko oP (l.map some)=ay ad l:=by
 unfold ko ay
 induction l with
 | nil=>rfl
 | cons f l ih =>
  simp only[aeM,afa,aeL];rw[ih];rfl
theorem Cd {n i:Nat} {q:Nat→Option aU} (h:i<n):(i*4+4≤(ko oP (fL n q)).length)=True:=eq_true (by rw[HS AV,bT];omega)
theorem Dx {n i:Nat} {q:Nat→Option aU} (h:i<n) (a:Int) (b:List Int) (c:Int) (d:List Int) :
  aeZ (i*4) (ko oP (fL n q))++[MV.dat (.int .i64 a),.dat (.sl (b.map aa)),.dat (.int .i64 c),.dat (.sl (d.map aa))]++ae0 (i*4+4) (ko oP (fL n q))=ko oP (fL n fun j=>if j=i then some ((a,b),(c,d)) else q j):=by
 rw[←nr];exact AO AV (fL n q) i (by rw[bT];exact h) (some ((a,b),(c,d)))
structure pG (l:List ClR) (x:Rat):Prop where
 own:OwnOK l
 pos:0≤x
 sz:szR 460 x
theorem OwnOK.less {l:List ClR} (h:OwnOK l) {c:ClR} (hc:c∈l) (r:Int):(bh l fun c'=>if c'.2.2.1<r then c'.2.2.2 else 0)=aM l c.1 r:=by
 unfold aM;refine jv fun c' hc'=>?_
 have:=h.one c' hc' c hc
 by_cases h1:c'.2.2.1<r
 ·rw[if_pos h1,if_pos ⟨this,h1⟩]
 ·rw[if_neg h1,if_neg fun h=>h1 h.2]
theorem uO (l:List ClR) (F G:ClR→Int):bh l (fun c=>F c+G c)=bh l F+bh l G:=by
 induction l with
 | nil=>simp [bh]
 | cons c l ih=>simp only[bh,ih];omega
theorem OwnOK.same {l:List ClR} (h:OwnOK l) {c:ClR} (hc:c∈l) (r:Int):(bh l fun c'=>if c'.2.2.1=r then c'.2.2.2 else 0)=SI l c.1 r:=by
 have h1:=h.less hc r;have h2:=h.less hc (r+1)
 have h3:(bh l fun c'=>if c'.2.2.1<r+1 then c'.2.2.2 else 0)=(bh l fun c'=>if c'.2.2.1<r then c'.2.2.2 else 0)+bh l fun c'=>if c'.2.2.1=r then c'.2.2.2 else 0:=by
  rw[←uO];refine jv fun c _=>?_
  by_cases k1:c.2.2.1<r
  ·rw[if_pos (by omega),if_pos k1,if_neg (by omega)];omega
  ·rw[if_neg k1]
   by_cases k2:c.2.2.1=r
   ·rw[if_pos (by omega),if_pos k2];omega
   ·rw[if_neg (by omega),if_neg k2];omega
 unfold SI;omega
theorem OwnOK.bound {l:List ClR} (h:OwnOK l) (p:ClR→Prop) [DecidablePred p]:0≤bh l (fun c=>if p c then c.2.2.2 else 0)∧bh l (fun c=>if p c then c.2.2.2 else 0)≤536870912:=by
 have:=qE (cs:=l) (F:=fun c=>if p c then c.2.2.2 else 0) (B:=33554432) (by omega) fun c hc=>by
  have:=h.c c hc
  try dsimp only
  split<;>omega
 have:=h.len;omega
theorem Pd (cs:List ClR) (i r:Int):SI cs i r=bh cs fun c=>if c.1=i∧c.2.2.1=r then c.2.2.2 else 0:=by
 have h3:aM cs i (r+1)=aM cs i r+bh cs fun c=>if c.1=i∧c.2.2.1=r then c.2.2.2 else 0:=by
  unfold aM;rw[←uO];refine jv fun c _=>?_
  split<;>split<;>split<;>omega
 unfold SI;omega
theorem Mk {cs:List ClR} {F:ClR→Int} (h:∀ c∈cs,0≤F c) {c:ClR} (hc:c∈cs):F c≤bh cs F:=by
 induction cs with
 | nil=>cases hc
 | cons a l ih =>
  simp only[bh];have h0:=h a adZ
  have h1:0≤bh l F:=by
   have:∀ l:List ClR,(∀ c∈l,0≤F c)→0≤bh l F:=by
    intro l
    induction l with
    | nil=>intro _;exact ad6 _
    | cons b l ih2=>intro hh;simp only[bh];have:=hh b adZ;have:=ih2 fun c hc=>hh c (ad0 _ hc);omega
   exact this l fun c hc=>h c (ad0 _ hc)
  rcases List.mem_cons.1 hc with rfl | hc
  ·omega
  ·have:=ih (fun c hc=>h c (ad0 _ hc)) hc
   omega
theorem zq {cs:List ClR} (h:∀ c∈cs,0≤c.2.2.2) {c:ClR} (hc:c∈cs):c.2.2.2≤SI cs c.1 c.2.2.1:=by
 rw[Pd];have:=Mk (F:=fun c'=>if c'.1=c.1∧c'.2.2.1=c.2.2.1 then c'.2.2.2 else 0) (fun c' hc'=>by have:=h c' hc';split<;>omega) hc
 rwa [if_pos ⟨rfl,rfl⟩] at this
section
variable {cs:List ClR} {x:Rat} {c:ClR}
theorem pE (cs:List ClR) (i r:Int):((aM cs i (r+1):Int):Rat)=((aM cs i r:Int):Rat)+((SI cs i r:Int):Rat):=by
 rw[←adU]
 congr 1
 unfold SI;omega
theorem vN (hn:∀ c∈cs,0≤c.2.2.2) (hc:c∈cs) (h:x-((aM cs c.1 c.2.2.1:Int):Rat)≤0):fP cs x c=0:=by
 unfold fP;have h1:=zq hn hc;have h2:=hn c hc;rw[pE]
 split
 ·rename_i h3
  have h4:((SI cs c.1 c.2.2.1:Int):Rat)≤((0:Int):Rat):=by
   have:((0:Int):Rat)=0:=rfl;rw[this];generalize ((aM cs c.1 c.2.2.1:Int):Rat)=u at *;grind
  have h5:SI cs c.1 c.2.2.1≤0:=by exact_mod_cast h4
  rw[show c.2.2.2=0 by omega];rfl
 ·rw[gL h,ad8]
theorem HF (h:((SI cs c.1 c.2.2.1:Int):Rat)≤x-((aM cs c.1 c.2.2.1:Int):Rat)):fP cs x c=(c.2.2.2:Rat):=by
 unfold fP;rw[pE,if_pos];generalize ((aM cs c.1 c.2.2.1:Int):Rat)=u at *;generalize ((SI cs c.1 c.2.2.1:Int):Rat)=s at *;grind
theorem G7 (h0:0≤x-((aM cs c.1 c.2.2.1:Int):Rat)) (h:x-((aM cs c.1 c.2.2.1:Int):Rat)<((SI cs c.1 c.2.2.1:Int):Rat)):fP cs x c=(c.2.2.2:Rat)*(x-((aM cs c.1 c.2.2.1:Int):Rat)) / ((SI cs c.1 c.2.2.1:Int):Rat):=by
 unfold fP;rw[pE,if_neg,kQ h0]
 ·generalize ((aM cs c.1 c.2.2.1:Int):Rat)=u at *
  generalize ((SI cs c.1 c.2.2.1:Int):Rat)=s at *;grind
 ·generalize ((aM cs c.1 c.2.2.1:Int):Rat)=u at *
  generalize ((SI cs c.1 c.2.2.1:Int):Rat)=s at *;grind
end
theorem ez {n:Int} (h:ca n):cy (n:Rat):=⟨by rw[ae2];exact jz h,by rw[ae3];decide +kernel⟩
theorem ul {x:Rat}:decide (x.num.sign<0)=decide (x<0):=by
 have:x.num.sign<0↔x<0:=by
  rw[aeX,aeW,Rat.zero_num,Rat.zero_den];omega
 rw[decide_eq_decide];exact this
def zC:ClR:=(0,0,0,0)
noncomputable def ph (l:List ClR) (x:Rat) (j:Nat):aU:=ak (fP l x (l.getD j zC))
theorem Fx (l:List ClR) (x:Rat):(fL l.length fun j=>some (ph l x j))=(l.map fun c=>ak (fP l x c)).map some:=by
 symm
 refine Ed (by simp) fun i hi=>?_
 rw[aeg,aeg,aew hi];unfold ph;rw[DL (aew hi)];rfl
def bU (cs:List ClR) (who:Int):List ClR:=cs.filter fun c=>c.1==who
theorem IQ (cs:List ClR) (who:Int) (p:ClR→Prop) [DecidablePred p]:bh (bU cs who) (fun c=>if c.1=who∧p c then c.2.2.2 else 0)=bh cs fun c=>if c.1=who∧p c then c.2.2.2 else 0:=by
 unfold bU
 induction cs with
 | nil=>rfl
 | cons c l ih =>
  by_cases h:c.1=who
  ·rw[aeN (by simpa using h)]
   simp only[bh,ih]
  ·rw[aeO (by simpa using h),ih]
   simp only[bh];rw[if_neg fun hh=>h hh.1];omega
theorem zz (cs:List ClR) (who r:Int):aM (bU cs who) who r=aM cs who r:=IQ cs who fun c=>c.2.2.1<r
theorem own_mem {cs:List ClR} {who:Int} {c:ClR}:c∈bU cs who↔c∈cs∧c.1=who:=by
 unfold bU;rw[aeA,beq_iff_eq]
theorem MO {cs:List ClR} {who:Int} {x:Rat} {c:ClR} (h:c.1=who):fP (bU cs who) x c=fP cs x c:=by
 unfold fP SI;rw[h,zz,zz]
theorem GZ (cs:List ClR) (who:Int) (x:Rat):((bU cs who).map fun c=>ak (fP (bU cs who) x c))=(bU cs who).map fun c=>ak (fP cs x c) :=
 aeK fun c hc=>by rw[MO (own_mem.1 hc).2]
theorem SmallD.own {cash:List Int} {cs:List ClR} (h:SmallD cash cs) (who:Int):OwnOK (bU cs who):=by
 have hr:=rightD_iff.1 h.right;have hn:=h.n5;refine⟨?_,fun c hc=>?_,fun c hc c' hc'=>?_⟩
 ·have:=aep (fun c:ClR=>c.1==who) cs
  have:=h.c12;unfold bU;omega
 ·have h1:=hr.2.2.2 c (own_mem.1 hc).1
  have h2:=h.am c (own_mem.1 hc).1;omega
 ·rw[(own_mem.1 hc).2,(own_mem.1 hc').2]
theorem wt (n:Nat):((gS n).map MV.dat).all MV.one=true:=rfl
noncomputable def gU (d:Day) (f:Nat→Nat) (h:Nat→Rat) (i:Nat):List Nat:=(aef i).filter fun j=>decide (h j<d.U j (f j))
theorem xQ (d:Day) (f:Nat→Nat) (h:Nat→Rat) (i:Nat):gU d f h (i+1)=if h i<d.U i (f i) then gU d f h i++[i] else gU d f h i:=by
 unfold gU;rw[aeB,aeI]
 by_cases hh:h i<d.U i (f i)
 ·rw[if_pos hh,aeN (by simpa using hh),afe]
 ·rw[if_neg hh,aeO (by simpa using hh),afe,aeF]
theorem BM (d:Day) (f:Nat→Nat) (h:Nat→Rat) (i:Nat):(gU d f h i).length≤i:=by
 have:=aep (fun j=>decide (h j<d.U j (f j))) (aef i);rw[aeq] at this;exact this
end Go.Mini
namespace Go.Mini
open Classical
noncomputable def shP (d:Day) (l:List ClR) (i:Nat):Rat:=sumC (l.map bs) fun c=>if c.to=(i:Int) then d.w c else 0
theorem Lo (d:Day) (i:Nat):shP d [] i=0:=rfl
theorem EQ (d:Day) (l:List ClR) (c:ClR) (i:Nat):shP d (l++[c]) i=shP d l i+if c.2.1=(i:Int) then d.w (bs c) else 0:=by
 unfold shP;rw[aeL,nU]
 congr 1
 show (if (bs c).to=(i:Int) then d.w (bs c) else 0)+0=_;rw[Rat.add_zero]
 rfl
theorem OD {cash:List Int} {cs:List ClR} (h:cE cash cs=true) (f:Nat→Nat) (k i:Nat):shP (ab cash cs) (aT cs k (f k)) i=(ab cash cs).W f k i:=by
 have hr:=(rightD_iff.1 h).2.2.2;unfold shP Day.W;rw[tR fun c hc=>⟨(hr c hc).1,(hr c hc).2.2.2.2.1⟩]
 refine cK fun c _=>?_
 by_cases h1:c.fr=k∧c.rk=f k
 ·rw[if_pos h1]
  by_cases h2:c.to=(i:Int)
  ·rw[if_pos h2,if_pos ⟨h2,h1⟩]
  ·rw[if_neg h2,if_neg fun h=>h2 h.1]
 ·rw[if_neg h1,if_neg fun h=>h1 h.2]
section
variable {cash:List Int} {cs:List ClR} (hs:SmallD cash cs) {k r:Nat} (hS:0<(ab cash cs).S k r)
include hs hS
theorem y8 {c:ClR} (hc:c∈aT cs k r):DenBy (SN cs k r) ((ab cash cs).w (bs c))∧0≤(ab cash cs).w (bs c)∧(ab cash cs).w (bs c)=(c.2.2.2:Rat) / ((SI cs k r:Int):Rat):=by
 obtain⟨h1,h2,h3⟩:=cell_mem.1 hc;have e1:(bs c).fr=k:=by show c.1.toNat=k;omega
 have e2:(bs c).rk=r:=by show c.2.2.1.toNat=r;omega
 have hm:bs c∈(ab cash cs).cl:=aeV h1;refine⟨⟨c.2.2.2,?_⟩,hs.ok.w_nonneg hm,?_⟩
 ·rw[mV hs.right,←e1,←e2]
  exact Day.w_S (by rw[e1,e2];exact hS)
 ·unfold Day.w SI
  rw[e1,e2];have:=xL hs.right k r;rw[←this]
  rfl
theorem Oq {l:List ClR} (hl:∃ l',aT cs k r=l++l') (i:Nat):szR 29 (shP (ab cash cs) l i):=by
 obtain⟨l',hl⟩:=hl;have hmem:∀ c∈l,c∈aT cs k r:=fun c hc=>by rw[hl];simp [hc]
 have hmem':∀ c∈l',c∈aT cs k r:=fun c hc=>by rw[hl];simp [hc]
 have hd:DenBy (SN cs k r) (shP (ab cash cs) l i):=by
  unfold shP;refine DenBy.sumC fun x hx=>?_
  obtain⟨c,hc,rfl⟩:=List.mem_map.1 hx
  split
  ·exact (y8 hs hS (hmem c hc)).1
  ·exact DenBy.zero _
 have h0:∀ m:List ClR,(∀ c∈m,c∈aT cs k r)→0≤shP (ab cash cs) m i:=fun m hm=>dF fun x hx=>by
  obtain⟨c,hc,rfl⟩:=List.mem_map.1 hx
  try dsimp only
  split
  ·exact (y8 hs hS (hm c hc)).2.1
  ·exact aen
 have h1:shP (ab cash cs) l i≤1:=by
  have e:shP (ab cash cs) (aT cs k r) i=shP (ab cash cs) l i+shP (ab cash cs) l' i:=by
   rw[hl];unfold shP;rw[aeL,nU]
  have e2:shP (ab cash cs) (aT cs k r) i≤sumC ((aT cs k r).map bs) (ab cash cs).w:=na fun x hx=>by
   obtain⟨c,hc,rfl⟩:=List.mem_map.1 hx;have:=(y8 hs hS hc).2.1
   split
   ·exact aen
   ·exact this
  have hr:=(rightD_iff.1 hs.right).2.2.2;rw[tR fun c hc=>⟨(hr c hc).1,(hr c hc).2.2.2.2.1⟩] at e2
  have e3:sumC (cs.map bs) (fun c=>if c.fr=k∧c.rk=r then (ab cash cs).w c else 0)=1:=by
   have hk:k<(ab cash cs).n:=by
    obtain⟨c,hc,hp⟩:=sR hS
    by_cases hcc:c.fr=k∧c.rk=r
    ·rw[←hcc.1];exact hs.ok.fr c hc
    ·rw[if_neg hcc] at hp;grind
   have:=hs.ok.sum_fr (fun j=>j=k) (fun _=>r) (fun j hj=>by subst hj;exact hS) fun _=>1
   rw[iL hk (fun j _ hj=>by rw[if_neg hj]),if_pos rfl] at this;refine (cK fun c _=>?_).trans this
   by_cases hc:c.fr=k∧c.rk=r
   ·rw[if_pos hc,if_pos hc,Rat.mul_one]
   ·rw[if_neg hc,if_neg hc]
  have:=h0 l' hmem';grind
 have hN:0<SN cs k r:=by
  rw[←mV hs.right] at hS
  exact_mod_cast hS
 exact (hd.sz hN (hs.SN_le k r) (h0 l hmem) (e:=0) (by rw[show ((2^0:Nat):Rat)=1 from rfl];exact h1)).mono (by omega)
end
end Go.Mini
namespace Go.Mini
open Go
set_option maxRecDepth 10000
def clM (l:List ClR):MV:=if l=[] then .nil else .dat (.sl (l.map clL))
theorem Mt {a b:List ClR} (h:clM a=clM b):a=b:=by
 unfold clM at h
 by_cases ha:a=[]<;>by_cases hb:b=[]
 ·rw[ha,hb]
 ·rw[if_pos ha,if_neg hb] at h;cases h
 ·rw[if_neg ha,if_pos hb] at h;cases h
 ·rw[if_neg ha,if_neg hb] at h
  exact af fZ _ _ (Data.sl.inj (MV.dat.inj h))
theorem Eq (l:List ClR):oO (clM l)=some l.length:=by
 unfold clM
 split
 ·rename_i h;rw[h];rfl
 ·simp [oO]
theorem Ew {l:List ClR} {n:Nat} {c:ClR} (h:l[n]?=some c):xn 4 n (clM l)=some (.dat (.ptr (clL c))):=by
 unfold clM
 split
 ·rename_i hl;rw[hl] at h;cases h
 ·simp only[xn,aeg,h,Option.map_some]
  rw[if_pos (kh c)]
structure DebR where
 cash:Int
 cl:List (List ClR)
 us:List Int
 f:Int
 p:Bool
def dD (x:DebR):List MV:=iC x.cash::(x.cl.map clM++(x.us.map iC++[iC x.f,bC x.p]))
def DebR.sf (x:DebR) (f:Int):DebR:=⟨x.cash,x.cl,x.us,f,x.p⟩
def DebR.sp (x:DebR) (p:Bool):DebR:=⟨x.cash,x.cl,x.us,x.f,p⟩
structure DebR.OK (x:DebR):Prop where
 cl:x.cl.length=10
 us:x.us.length=11
theorem jL {x:DebR} (h:x.OK):(dD x).length=24:=by
 simp [dD,h.cl,h.us]
theorem HY {x y:DebR} (hx:x.OK) (hy:y.OK) (h:dD x=dD y):x=y:=by
 unfold dD at h;obtain⟨h1,h2⟩:=List.cons.inj h;obtain⟨h3,h4⟩:=aff h2 (by rw[aeu,aeu,hx.cl,hy.cl]);obtain⟨h5,h6⟩:=aff h4 (by rw[aeu,aeu,hx.us,hy.us]);obtain⟨h7,h8⟩:=List.cons.inj h6;obtain⟨h9,-⟩:=List.cons.inj h8;obtain⟨x1,x2,x3,x4,x5⟩:=x;obtain⟨y1,y2,y3,y4,y5⟩:=y;have e2:=af (fun a b h=>Mt h) _ _ h3;have e3:=Ky h5;simp only[iC,bC,MV.dat.injEq,Data.int.injEq,Data.bool.injEq,true_and] at h1 h7 h9;dsimp only at *;rw[h1,e2,e3,h7,h9]
section
variable {x:DebR} (h:x.OK)
include h
omit h in
theorem IH:aeZ 1 (dD x)=[iC x.cash]:=rfl
omit h in
theorem Ik {k:Nat} {l:List ClR} (hk:x.cl[k]?=some l):aeZ 1 (ae0 (1+k) (dD x))=[clM l]:=by
 have hlt:=(List.getElem?_eq_some_iff.1 hk).1;unfold dD;rw[Nat.add_comm,afg,afh (by rw[aeu];omega),afi (by rw[afj,aeu];omega)];exact zY (f:=clM) hk
theorem sT {k:Nat} {z:Int} (hk:x.us[k]?=some z):aeZ 1 (ae0 (11+k) (dD x))=[iC z]:=by
 have hlt:=(List.getElem?_eq_some_iff.1 hk).1;unfold dD;rw[show 11+k=(10+k)+1 by omega,afg,afb,afc (by rw[aeu,h.cl];omega),aeu,h.cl,aeH,show 10+k-10=k by omega,afh (by rw[aeu];omega),afi (by rw[afj,aeu];omega)]
 exact zY (f:=iC) hk
theorem BI:aeZ 1 (ae0 22 (dD x))=[iC x.f]:=by
 unfold dD;rw[afg,afb,afc (by rw[aeu,h.cl];omega),aeu,h.cl,aeH,afb,afc (by rw[aeu,h.us];omega),aeu,h.us]
 rfl
theorem Nt:aeZ 1 (ae0 23 (dD x))=[bC x.p]:=by
 unfold dD;rw[afg,afb,afc (by rw[aeu,h.cl];omega),aeu,h.cl,aeH,afb,afc (by rw[aeu,h.us];omega),aeu,h.us]
 rfl
theorem JH (f:Int):aeZ 22 (dD x)++[MV.dat (.int .i64 f)]++ae0 23 (dD x)=dD (x.sf f):=by
 have e:dD x=(iC x.cash::(x.cl.map clM++x.us.map iC))++[iC x.f,bC x.p]:=by simp [dD]
 have l:(iC x.cash::(x.cl.map clM++x.us.map iC)).length=22:=by simp [h.cl,h.us]
 rw[e,afi (by omega),aey (by omega),afb,afc (by omega),l];simp [dD,DebR.sf,iC]
theorem zR (p:Bool):aeZ 23 (dD x)++[MV.dat (.bool p)]++ae0 24 (dD x)=dD (x.sp p):=by
 have e:dD x=(iC x.cash::(x.cl.map clM++(x.us.map iC++[iC x.f])))++[bC x.p]:=by simp [dD]
 have l:(iC x.cash::(x.cl.map clM++(x.us.map iC++[iC x.f]))).length=23:=by simp [h.cl,h.us]
 rw[e,afi (by omega),aey (by omega),afb,afc (by omega),l];simp [dD,DebR.sp,bC]
end
structure DebA where
 cash:List Int
 cs:List ClR
 fl:List Int
 P:List Bool
 g:Nat
 gs:List Nat
def DebA.deb (a:DebA) (i:Nat):DebR:=⟨a.cash.getD i 0,fL 10 fun k=>aT a.cs i k,fL 11 fun k=>aM a.cs i (k:Nat),a.fl.getD i 10,a.P.getD i false⟩
theorem DebA.deb_ok (a:DebA) (i:Nat):(a.deb i).OK:=⟨bT _ _,bT _ _⟩
structure DebA.At (a:DebA) (m:Mem):Prop where
 can:a.cs=aE a.cash.length a.cs
 fl:a.fl.length=a.cash.length
 pl:a.P.length=a.cash.length
 gl:a.gs.length=a.cash.length
 row:m 228023=some (a.g,fL a.cash.length fun i => .ptr (228500+i) (a.gs.getD i 0) 0)
 blk:∀ i,i<a.cash.length→m (228500+i)=some (a.gs.getD i 0,dD (a.deb i))
theorem iZ {α:Type} {d:α} {n:Nat} {a b:List α} (ha:a.length=n) (hb:b.length=n) (h:∀ i,i<n→a.getD i d=b.getD i d):a=b:=by
 apply afd;intro i;rcases ae6 i n with hi | hi
 ·have:=h i hi
  rw[ad9,ad9,aew (by omega),aew (by omega)] at this;rw[aew (by omega),aew (by omega)];exact congrArg some this
 ·rw[ae7 (by omega),ae7 (by omega)]
theorem IY {α:Type} {n:Nat} {p q:Nat→α} (h:fL n p=fL n q):∀ i,i<n→p i=q i:=fun i hi=>by
 have h1:=cR p hi;rw[h,cR q hi] at h1;exact (Option.some.inj h1).symm
theorem DebA.uniq {a b:DebA} {m:Mem} (h:a.At m) (h':b.At m):a=b:=by
 obtain⟨a1,a2,a3,a4,a5,a6⟩:=a;obtain⟨b1,b2,b3,b4,b5,b6⟩:=b;obtain⟨c1,c2,c3,c4,c5,c6⟩:=h;obtain⟨d1,d2,d3,d4,d5,d6⟩:=h';dsimp only at *;rw[c5,Option.some.injEq,Prod.mk.injEq] at d5;obtain⟨rfl,hrow⟩:=d5
 have hn:a1.length=b1.length:=by
  have:=congrArg List.length hrow
  rwa [bT,bT] at this
 rw[←hn] at hrow d1 d2 d3 d4 d6
 have hg:a6=b6:=iZ (d:=0) c4 d4 fun i hi=>by
  have:=IY hrow i hi;rw[MV.ptr.injEq] at this;exact this.2.1
 subst hg
 have hb:∀ i,i<a1.length→DebA.deb ⟨a1,a2,a3,a4,a5,a6⟩ i=DebA.deb ⟨b1,b2,b3,b4,a5,a6⟩ i:=fun i hi=>by
  have h1:=c6 i hi;rw[d6 i hi,Option.some.injEq,Prod.mk.injEq] at h1;exact (HY (DebA.deb_ok _ _) (DebA.deb_ok _ _) h1.2).symm
 simp only[DebA.deb,DebR.mk.injEq] at hb;have e1:a1=b1:=iZ (d:=0) rfl hn.symm fun i hi=>(hb i hi).1
 subst e1
 have e2:a2=b2:=by
  rw[c1,d1];exact qv fun i hi k hk=>IY (hb i hi).2.1 k hk
 have e3:a3=b3:=iZ (d:=10) c2 d2 fun i hi=>(hb i hi).2.2.2.1
 have e4:a4=b4:=iZ (d:=false) c3 d3 fun i hi=>(hb i hi).2.2.2.2
 rw[e2,e3,e4]
theorem DebA.At.fr {a:DebA} {mem m:Mem} {n:Nat} (h:a.At mem) (hf:FrK n mem m) (hn:n≠228) (h5:a.cash.length≤5):a.At m :=
 ⟨h.can,h.fl,h.pl,h.gl,by rw[hf 228023 (by omega)];exact h.row,fun i hi=>by rw[hf (228500+i) (by omega)];exact h.blk i hi⟩
end Go.Mini
