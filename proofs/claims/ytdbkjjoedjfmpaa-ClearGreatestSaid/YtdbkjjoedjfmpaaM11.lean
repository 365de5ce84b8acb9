/- A part of the proof. -/
import Derived.Test.YtdbkjjoedjfmpaaM10
import Derived.Test.YtdbkjjoedjfmpaaM04
import Derived.Test.YtdbkjjoedjfmpaaM09
import Derived.Test.YtdbkjjoedjfmpaaM07
import Derived.Test.YtdbkjjoedjfmpaaM08
set_option linter.unusedSimpArgs false
set_option linter.unusedVariables false
open Nat renaming one_pos → adi, mul_pos → adj, succ_mul → adk, pow_add → adl, mul_le_mul → adm, mul_comm → adn, zero_le → adv, le_trans → adx, pow_le_pow_right → ady, le_refl → adD, mul_le_mul_right → adE, one_le_two_pow → adF, lt_of_le_of_lt → adG, lt_or_ge → aev
open Rat renaming intCast_add → ado, intCast_sub → adp, intCast_mul → adq, natCast_mul → adr, intCast_natCast → ads, mul_comm → adA, mul_zero → adB, le_refl → adP, le_trans → adQ, divInt_eq_div → adT, lt_iff → ael, num_intCast → aer, den_intCast → aes
open List renaming mem_cons_self → adt, mem_cons_of_mem → adu, getD_eq_getElem?_getD → adC, range → adH, getElem?_map → adI, getElem?_range → adJ, any_eq_false → adK, length_filter_le → adR, length_range → adS, length_map → adW, getElem?_eq_getElem → adY, take_of_length_le → ad0, mem_filter → ad2, range_succ → ad3, flatMap_append → ad4, flatMap_cons → ad5, flatMap_nil → ad6, append_nil → ad7, flatMap_eq_nil_iff → ad8, nil_append → ad9, filter_append → aea, flatMap_def → aeb, map_congr_left → aec, map_append → aed, map_cons → aee, filter_cons_of_pos → aef, filter_cons_of_neg → aeg, mem_map → aeh, length_cons → aei, mem_map_of_mem → aek, take → aeo, drop → aep, take_zero → aeq, length_set → aet, getElem?_set → aeu, getElem?_eq_none → aew, flatten_cons → aez, drop_append → aeA, drop_eq_nil_of_le → aeB, ext_getElem? → aeC, filter_nil → aeD, append_inj → aeE, drop_succ_cons → aeF, drop_append_of_le_length → aeG, take_append_of_le_length → aeH, length_drop → aeI
open Int renaming natAbs_natCast → adw, le_refl → adz, sign_neg_iff → aem, toNat_natCast → aey
open Bool renaming true_and → adL, and_eq_true → adM, not_eq_true' → adN, not_false → adO, false_eq_true → adV, false_and → adZ, not_true → ad1, or_eq_true → aex
open Prod renaming ext_iff → adU
open Decidable renaming em → adX
open Classical renaming byContradiction → aej, choose_spec → aen
namespace Go.Mini
open Classical
set_option maxRecDepth 10000
def g5:Nat→(Nat→Nat)→Nat
 | 0,_=>1
 | n+1,D=>g5 n D*D n
theorem rt {n:Nat} {D:Nat→Nat} (h:∀ k,k<n→0<D k):0<g5 n D:=by
 induction n with
 | zero=>exact adi
 | succ n ih=>exact adj (ih fun k hk=>h k (by omega)) (h n (by omega))
theorem tS {n b:Nat} {D:Nat→Nat} (h:∀ k,k<n→D k≤2^b):g5 n D≤2^(n*b):=by
 induction n with
 | zero=>simp [g5]
 | succ n ih =>
  rw[adk,adl];exact adm (ih fun k hk=>h k (by omega)) (h n (by omega))
theorem rz {n:Nat} {D:Nat→Nat} {k:Nat} (hk:k<n):∃ m,g5 n D=D k*m:=by
 induction n with
 | zero=>omega
 | succ n ih =>
  by_cases hkn:k=n
  ·subst hkn;exact⟨g5 k D,adn _ _⟩
  ·obtain⟨m,hm⟩:=ih (by omega)
   exact⟨m*D n,by rw[g5,hm,Nat.mul_assoc]⟩
def DenBy (M:Nat) (x:Rat):Prop:=∃ z:Int,x*(M:Rat)=(z:Rat)
theorem DenBy.add {M:Nat} {x y:Rat} (hx:DenBy M x) (hy:DenBy M y):DenBy M (x+y):=by
 obtain⟨a,ha⟩:=hx;obtain⟨b,hb⟩:=hy;exact⟨a+b,by rw[ado,←ha,←hb];grind⟩
theorem DenBy.sub {M:Nat} {x y:Rat} (hx:DenBy M x) (hy:DenBy M y):DenBy M (x-y):=by
 obtain⟨a,ha⟩:=hx;obtain⟨b,hb⟩:=hy;exact⟨a-b,by rw[adp,←ha,←hb];grind⟩
theorem DenBy.mul {M N:Nat} {x y:Rat} (hx:DenBy M x) (hy:DenBy N y):DenBy (M*N) (x*y):=by
 obtain⟨a,ha⟩:=hx;obtain⟨b,hb⟩:=hy;exact⟨a*b,by rw[adq,←ha,←hb,adr];grind⟩
theorem DenBy.int (M:Nat) (z:Int):DenBy M (z:Rat):=⟨z*M,by rw[adq,ads]⟩
theorem DenBy.zero (M:Nat):DenBy M 0:=⟨0,by rw[Rat.zero_mul];rfl⟩
theorem DenBy.more {M:Nat} {x:Rat} (h:DenBy M x) (N:Nat):DenBy (M*N) x:=by
 obtain⟨a,ha⟩:=h;exact⟨a*N,by rw[adq,←ha,adr,ads];grind⟩
theorem DenBy.of_dvd {M N:Nat} {x:Rat} (h:DenBy M x) (hd:∃ m,N=M*m):DenBy N x:=by
 obtain⟨m,rfl⟩:=hd;exact h.more m
theorem DenBy.sumC {M:Nat} {l:List Cl} {F:Cl→Rat} (h:∀ c∈l,DenBy M (F c)):DenBy M (sumC l F):=by
 induction l with
 | nil=>exact DenBy.zero M
 | cons c l ih=>exact (h c adt).add (ih fun x hx=>h x (adu _ hx))
theorem DenBy.sumQ {M n:Nat} {F:Nat→Rat} (h:∀ k,k<n→DenBy M (F k)):DenBy M (sumQ n F):=by
 induction n with
 | zero=>exact DenBy.zero M
 | succ n ih=>exact (ih fun k hk=>h k (by omega)).add (h n (by omega))
theorem DenBy.sz {M a e:Nat} {x:Rat} (h:DenBy M x) (hM:0<M) (hMa:M≤2^a) (h0:0≤x) (hx:x≤((2^e:Nat):Rat)):szR (a+e) x:=by
 obtain⟨z,hz⟩:=h;have hz0:(0:Rat)≤(z:Rat):=by rw[←hz];exact Rat.mul_nonneg h0 (by exact_mod_cast adv M)
 have hz1:(z:Rat)≤((2^e*M:Nat):Rat):=by
  rw[←hz,adr];exact Rat.mul_le_mul_of_nonneg_right hx (by exact_mod_cast adv M)
 have k0:0≤z:=by exact_mod_cast hz0
 have k1:z≤((2^e*M:Nat):Int):=by exact_mod_cast hz1
 obtain⟨f1,f2⟩:=fD (q:=x) (v:=z) (d:=(M:Int)) (by omega) (by rw[ads];exact hz);rw[adw] at f2;have k2:z.natAbs≤2^e*M:=by omega
 refine⟨adx f1 (adx k2 ?_),adx f2 (adx hMa (ady (by omega) (by omega)))⟩;rw[adl,adn (2^a)];exact Nat.mul_le_mul_left _ hMa
structure SmallD (cash:List Int) (cs:List ClR):Prop where
 right:cS cash cs=true
 n5:cash.length≤5
 c12:cs.length≤12
 am:∀ c∈cs,c.2.2.2≤33554432
theorem SmallD.ok {cash:List Int} {cs:List ClR} (h:SmallD cash cs):(ac cash cs).OK:=mn h.right
theorem SmallD.sum {cash:List Int} {cs:List ClR} (h:SmallD cash cs) (p:ClR→Prop) [DecidablePred p]:0≤bq cs (fun c=>if p c then c.2.2.2 else 0)∧bq cs (fun c=>if p c then c.2.2.2 else 0)≤536870912:=by
 have:=sH (cs:=cs) (F:=fun c=>if p c then c.2.2.2 else 0) (B:=33554432) (by omega) fun c hc=>by
  have h1:=h.am c hc;have h2:=((rightD_iff.1 h.right).2.2.2 c hc).2.2.2.2.2.2.1
  try dsimp only
  split<;>omega
 have h12:=h.c12;omega
theorem SmallD.upto {cash:List Int} {cs:List ClR} (h:SmallD cash cs) (i r:Int):0≤aO cs i r∧aO cs i r≤536870912:=h.sum fun c=>c.1=i∧c.2.2.1<r
theorem Cw {cash:List Int} {cs:List ClR} (h:cS cash cs=true) (i:Int) {r s:Int} (hrs:r≤s):aO cs i r≤aO cs i s:=by
 have h4:=(rightD_iff.1 h).2.2.2
 have:∀ l:List ClR,(∀ c∈l,0≤c.2.2.2)→bq l (fun c=>if c.1=i∧c.2.2.1<r then c.2.2.2 else 0)≤bq l (fun c=>if c.1=i∧c.2.2.1<s then c.2.2.2 else 0):=by
  intro l
  induction l with
  | nil=>intro _;exact adz _
  | cons c l ih =>
   intro hl;have h1:=ih fun x hx=>hl x (adu _ hx)
   have h2:=hl c adt;simp only[bq]
   split<;>split<;>omega
 exact this cs fun c hc=>(h4 c hc).2.2.2.2.2.2.1
def SN (cs:List ClR) (k r:Nat):Nat:=(aO cs k (r+1:Nat)-aO cs k r).toNat
theorem mN {cash:List Int} {cs:List ClR} (h:cS cash cs=true) (k r:Nat):((SN cs k r:Nat):Rat)=(ac cash cs).S k r:=by
 have h1:=yI h k r;have h2:=Cw h k (r:=r) (s:=(r+1:Nat)) (by omega);rw[←h1,←ads];unfold SN;rw[Int.toNat_of_nonneg (by omega)]
theorem SmallD.SN_le {cash:List Int} {cs:List ClR} (h:SmallD cash cs) (k r:Nat):SN cs k r≤2^29:=by
 have h1:=h.upto k (r+1:Nat);have h2:=h.upto k r;unfold SN;omega
def wI (cs:List ClR) (f:Nat→Nat) (k i:Nat):Int:=bq cs fun c=>if c.2.1=(i:Int)∧c.1=(k:Int)∧c.2.2.1=(f k:Int) then c.2.2.2 else 0
theorem Nn {cash:List Int} {cs:List ClR} (h:cS cash cs=true) (f:Nat→Nat) {k:Nat} (i:Nat) (hS:0<(ac cash cs).S k (f k)):(ac cash cs).W f k i*(ac cash cs).S k (f k)=((wI cs f k i:Int):Rat):=by
 unfold Day.W wI
 rw[oB cs _ (fun c=>if c.to=(i:Int)∧c.fr=k∧c.rk=f k then c.am else 0) fun c hc=>by
  have:=(rightD_iff.1 h).2.2.2 c hc
  show ((if c.2.1=(i:Int)∧c.1=(k:Int)∧c.2.2.1=(f k:Int) then c.2.2.2 else 0:Int):Rat)=if c.2.1=(i:Int)∧c.1.toNat=k∧c.2.2.1.toNat=f k then (c.2.2.2:Rat) else 0
  by_cases h1:c.2.1=(i:Int)∧c.1=(k:Int)∧c.2.2.1=(f k:Int)
  ·rw[if_pos h1,if_pos (by omega)]
  ·rw[if_neg h1,if_neg (by omega)];rfl]
 rw[adA,←pK];refine dV fun c _=>?_
 split
 ·rename_i h1
  rw[adA];have e1:=h1.2.1;have e2:=h1.2.2;subst e1;rw[←e2] at hS ⊢;exact Day.w_S hS
 ·rw[adB]
theorem pS {cash:List Int} {cs:List ClR} (h:cS cash cs=true) (f:Nat→Nat) (i:Nat):((cY cash cs f i:Int):Rat)=(ac cash cs).st f i:=by
 unfold cY Day.st;rw[ado]
 congr 1
 refine oB cs _ (fun c=>if c.to=(i:Int)∧c.rk<f c.fr then c.am else 0) fun c hc=>?_
 have:=(rightD_iff.1 h).2.2.2 c hc
 show ((if c.2.1=(i:Int)∧c.2.2.1<(f c.1.toNat:Int) then c.2.2.2 else 0:Int):Rat)=if c.2.1=(i:Int)∧c.2.2.1.toNat<f c.1.toNat then (c.2.2.2:Rat) else 0
 by_cases h1:c.2.1=(i:Int)∧c.2.2.1<(f c.1.toNat:Int)
 ·rw[if_pos h1,if_pos (by omega)]
 ·rw[if_neg h1,if_neg (by omega)];rfl
theorem SmallD.cash {cash:List Int} {cs:List ClR} (h:SmallD cash cs) (i:Nat):0≤cash.getD i 0∧cash.getD i 0≤1000000000000000:=by
 rw[adC]
 cases hi:cash[i]? with
 | none=>simp
 | some x=>exact (rightD_iff.1 h.right).2.2.1 x (List.mem_of_getElem? hi)
theorem SmallD.steady {cash:List Int} {cs:List ClR} (h:SmallD cash cs) (f:Nat→Nat) (i:Nat):0≤cY cash cs f i∧cY cash cs f i≤1000000536870912:=by
 have h1:=h.cash i;have h2:=h.sum fun c=>c.2.1=(i:Int)∧c.2.2.1<(f c.1.toNat:Int)
 unfold cY;omega
theorem IZ.of {z:Int} {B:Nat} (h:z.natAbs≤B):IZ B (z:Rat):=⟨z,rfl,h⟩
theorem IZ.nat {z:Nat} {B:Nat} (h:z≤B):IZ B (z:Rat):=⟨z,(ads _).symm,by omega⟩
theorem N7 {N:Nat} (h:N≤5):N^N≤2^12:=by
 match N,h with
 | 0,_ | 1,_ | 2,_ | 3,_ | 4,_ | 5,_=>decide
 | n+6,h=>omega
section
variable {cash:List Int} {cs:List ClR} (hs:SmallD cash cs) {f:Nat→Nat} {P:Nat→Prop} (hS:∀ k,P k→0<(ac cash cs).S k (f k))
include hs hS
theorem xS {k:Nat} (hk:P k):0<SN cs k (f k):=by
 have h1:=hS k hk;rw[←mN hs.right] at h1
 exact_mod_cast h1
theorem Ir {k:Nat} (hk:P k) (i:Nat):((SN cs k (f k):Nat):Rat)*(ac cash cs).W f k i=((wI cs f k i:Int):Rat):=by
 rw[mN hs.right,adA];exact Nn hs.right f i (hS k hk)
theorem zP {k:Nat} (hk:P k) (i:Nat) (p:Prop) [Decidable p]:IZ (2^30) (((SN cs k (f k):Nat):Rat)*((if p then 1 else 0)-(ac cash cs).W f k i)):=by
 have e:((SN cs k (f k):Nat):Rat)*((if p then 1 else 0)-(ac cash cs).W f k i)=((if p then SN cs k (f k) else 0:Nat):Rat)-((wI cs f k i:Int):Rat):=by
  rw[←Ir hs hS hk i]
  split<;>grind
 have h1:=hs.SN_le k (f k);have h2:=hs.sum fun c=>c.2.1=(i:Int)∧c.1=(k:Int)∧c.2.2.1=(f k:Int)
 rw[e];refine ((IZ.nat (B:=2^29) ?_).sub (IZ.of (B:=2^29) ?_)).mono (by decide)
 ·split<;>omega
 ·unfold wI
  omega
theorem BV:Scaled cash.length ((ac cash cs).bigM f P) 30 210:=by
 let D:Nat→Nat:=fun k=>if P k then SN cs k (f k) else 1
 have hD1:∀ k,0<D k:=fun k=>by
  show 0<if P k then SN cs k (f k) else 1
  split
  ·exact xS hs hS (by assumption)
  ·omega
 have hD2:∀ k,D k≤2^29:=fun k=>by
  show (if P k then SN cs k (f k) else 1)≤2^29
  split
  ·exact hs.SN_le k _
  ·decide
 have hn:=hs.n5;have hpr:g5 cash.length D≤2^145:=adx (tS fun k _=>hD2 k) (ady (by omega) (by omega));refine⟨fun k=>if k<cash.length then D k else g5 cash.length D,fun k hk=>?_⟩
 have hdn:(ac cash cs).n=cash.length:=rfl
 by_cases hkn:k<cash.length
 ·dsimp only
  rw[if_pos hkn,if_pos hkn];refine⟨hD1 k,adx (hD2 k) (by decide),fun i hi=>?_⟩
  unfold Day.bigM;rw[if_pos (by rw[hdn];exact hkn)]
  by_cases hP:P k
  ·have e:D k=SN cs k (f k):=if_pos hP
   rw[e,if_pos hP];exact zP hs hS hP i _
  ·have e:D k=1:=if_neg hP
   rw[e,if_neg hP];have:(((1:Nat):Rat)*((if i=k then 1 else 0)-0))=((if i=k then 1 else 0:Nat):Rat):=by split<;>simp<;>grind
   rw[this];exact IZ.nat (by split<;>decide)
 ·dsimp only
  rw[if_neg hkn,if_neg hkn];refine⟨rt fun k _=>hD1 k,adx hpr (ady (by omega) (by omega)),fun i hi=>?_⟩
  unfold Day.bigM;rw[if_neg (by rw[hdn];exact hkn),hdn]
  have e:((g5 cash.length D:Nat):Rat)*((ac cash cs).st f i-sumQ cash.length fun k=>if P k then (ac cash cs).W f k i*(ac cash cs).U k (f k) else 0)=((g5 cash.length D:Nat):Rat)*(ac cash cs).st f i-sumQ cash.length fun k=>((g5 cash.length D:Nat):Rat)*(if P k then (ac cash cs).W f k i*(ac cash cs).U k (f k) else 0):=by
   rw[lV];grind
  rw[e]
  have h1:IZ (2^196) (((g5 cash.length D:Nat):Rat)*(ac cash cs).st f i):=by
   rw[←pS hs.right];have:=hs.steady f i;refine ((IZ.nat hpr).mul (IZ.of (B:=2^51) (by omega))).mono ?_;rw[←adl];exact adD _
  have h2:∀ k,k<cash.length→IZ (2^203) (((g5 cash.length D:Nat):Rat)*(if P k then (ac cash cs).W f k i*(ac cash cs).U k (f k) else 0)):=by
   intro k hk
   by_cases hP:P k
   ·rw[if_pos hP]
    obtain⟨m,hm⟩:=rz (D:=D) hk;have hD:D k=SN cs k (f k):=if_pos hP
    have hm2:m≤2^145:=by
     refine adx ?_ hpr;rw[hm];exact Nat.le_mul_of_pos_left _ (hD1 k)
    have e2:((g5 cash.length D:Nat):Rat)*((ac cash cs).W f k i*(ac cash cs).U k (f k))=((m:Nat):Rat)*((wI cs f k i:Int):Rat)*((aO cs k (f k):Int):Rat):=by
     rw[hm,hD,←Ir hs hS hP i,←dU hs.right k (f k),adr];grind
    rw[e2];have h3:=hs.upto k (f k);have h4:=hs.sum fun c=>c.2.1=(i:Int)∧c.1=(k:Int)∧c.2.2.1=(f k:Int)
    refine (((IZ.nat hm2).mul (IZ.of (B:=2^29) (by unfold wI;omega))).mul (IZ.of (B:=2^29) (by omega))).mono ?_;rw[←adl,←adl];exact adD _
   ·rw[if_neg hP,adB];exact IZ.zero
  refine (h1.sub (IZ.sum cash.length h2)).mono ?_;have h5:cash.length*2^203≤2^3*2^203:=adE _ (by omega);rw[←adl] at h5;have h6:2^196≤2^206:=ady (by omega) (by omega);have h7:2^206+2^206=2^207:=by rw[←Nat.two_mul,Nat.pow_succ,adn]
  have h8:2^207≤2^210:=ady (by omega) (by omega);have h9:(3:Nat)+203=206:=rfl;rw[h9] at h5;exact adx (Nat.add_le_add h6 h5) (by rw[h7];exact h8)
theorem mO (p:List Nat) (hp:∀ k,k<p.length→P (p.getD k 0)):Scaled p.length ((ac cash cs).smallM f p) 30 52:=by
 refine⟨fun k=>if k<p.length then SN cs (p.getD k 0) (f (p.getD k 0)) else 1,fun k hk=>?_⟩
 by_cases hkn:k<p.length
 ·dsimp only
  rw[if_pos hkn,if_pos hkn];refine⟨xS hs hS (hp k hkn),adx (hs.SN_le _ _) (by decide),fun i hi=>?_⟩
  unfold Day.smallM;rw[if_pos hkn];exact zP hs hS (hp k hkn) _ _
 ·dsimp only
  rw[if_neg hkn,if_neg hkn];refine⟨adi,adF,fun i hi=>?_⟩
  unfold Day.smallM;rw[if_neg hkn,←pS hs.right,←dU hs.right];have h1:=hs.steady f (p.getD i 0);have h2:=hs.upto (p.getD i 0:Nat) (f (p.getD i 0))
  have e:((1:Nat):Rat)*(((cY cash cs f (p.getD i 0):Int):Rat)-((aO cs (p.getD i 0:Nat) (f (p.getD i 0)):Int):Rat))=((cY cash cs f (p.getD i 0)-aO cs (p.getD i 0:Nat) (f (p.getD i 0)):Int):Rat):=by
   rw[adp];have:((1:Nat):Rat)=1:=rfl;rw[this,Rat.one_mul]
  rw[e];exact IZ.of (by omega)
end
end Go.Mini
namespace Go.Mini
open Go Classical
set_option maxRecDepth 10000
theorem eC {b:Nat} {q:Rat} (h:szR b q) (hb:b<1200):cg q:=by
 obtain⟨B,hB,hL⟩:=EH;have:2^b<LIM:=by rw[hL];exact Nat.pow_lt_pow_right (by omega) (by omega)
 exact⟨adG h.1 this,adG h.2 this⟩
def dO (N:Nat) (A:Mat):List cD:=(adH N).map fun i=>(bH N (A i),aj (A i N))
theorem eQ (N:Nat) (A:Mat):(dO N A).length=N:=by simp [dO]
theorem sY {N i:Nat} (A:Mat) (h:i<N):(dO N A)[i]?=some (bH N (A i),aj (A i N)):=by
 unfold dO;rw[adI,adJ h];rfl
theorem BU {N i k:Nat} (A:Mat) (hi:i<N) (hk:k≤N):jW (dO N A) i k=A i k:=by
 unfold jW;rw[y6 (sY A hi),eQ]
 by_cases h:k<N
 ·rw[if_pos h,adC,eP _ h,Option.getD_some,kE]
 ·rw[if_neg h,kE,show k=N by omega]
theorem ko {x:Rat} (h:cg x):bc (aj x)=true:=(kt _).2 ⟨x,h,rfl⟩
theorem xl {N:Nat} {A:Mat} (hN:N≤40) (hl:∀ i,i<N→∀ k,k≤N→cg (A i k)):fv (dO N A) N=true:=by
 unfold fv
 have h3:(dO N A).any (fJ N)=false:=by
  rw[adK];intro r hr;obtain⟨i,hi,rfl⟩:=List.mem_map.1 hr;have hi:=List.mem_range.1 hi;unfold fJ C0;simp only[cW,beq_self_eq_true,adL,ko (hl i hi N (adD _))]
  have:(bH N (A i)).any (fun f => !bc f)=false:=by
   rw[adK];intro f hf;unfold bH at hf;obtain⟨x,hx,rfl⟩:=List.mem_map.1 hf;obtain⟨k,hk,rfl⟩:=List.mem_map.1 hx;rw[ko (hl i hi k (by have:=List.mem_range.1 hk;omega))]
   decide
  rw[this];decide
 rw[h3,eQ];simp only[adM,adN,decide_eq_false_iff_not,beq_self_eq_true,adO,and_true];omega
theorem Gf {N:Nat} {A:Mat} (hN:N≤40) (hl:∀ i,i<N→∀ k,k≤N→cg (A i k)):ik (dO N A):=by
 refine⟨by rw[eQ];omega,fun r hr=>?_⟩
 obtain⟨i,hi,rfl⟩:=List.mem_map.1 hr;have hi:=List.mem_range.1 hi;exact⟨sJ hN fun k hk=>hl i hi k (by omega),et (hl i hi N (adD _))⟩
theorem ww {N:Nat} {a b y:Nat→Rat} (h:∀ k,k≤N→a k=b k):kA N a y=kA N b y:=bR fun k hk=>by rw[h k (by omega)]
theorem Ann.congr {N:Nat} {A B:Mat} (h:∀ i,i<N→∀ k,k≤N→A i k=B i k) (y:Nat→Rat):Ann N A y↔Ann N B y:=by
 unfold Ann
 constructor
 ·intro hA i hi;rw[←ww (h i hi)];exact hA i hi
 ·intro hA i hi;rw[ww (h i hi)];exact hA i hi
theorem Scaled.congr {N b v:Nat} {A B:Mat} (h:∀ i,i<N→∀ k,k≤N→A i k=B i k) (hs:Scaled N A b v):Scaled N B b v:=by
 obtain⟨D,hD⟩:=hs;exact⟨D,fun k hk=>⟨(hD k hk).1,(hD k hk).2.1,fun i hi=>by rw[←h i hi k hk];exact (hD k hk).2.2 i hi⟩⟩
theorem Scaled.sz {N b v:Nat} {A:Mat} (hs:Scaled N A b v) (hb:b≤v) {i k:Nat} (hi:i<N) (hk:k≤N):szR v (A i k):=by
 obtain⟨D,hD⟩:=hs;obtain⟨h1,h2,h3⟩:=hD k hk;obtain⟨z,hz,hz2⟩:=h3 i hi;have hle:2^(if k<N then b else v)≤2^v:=ady (by omega) (by split<;>omega);obtain⟨f1,f2⟩:=fD (q:=A i k) (v:=z) (d:=(D k:Int)) (by omega) (by rw[←hz,ads,adA]);rw[adw] at f2;exact⟨adx f1 (adx hz2 hle),adx f2 (adx h2 hle)⟩
theorem Cn {N b v:Nat} {A:Mat} (hN:N≤5) (hs:Scaled N A b v) (hb:b≤30) (hv:v≤210) (hbv:b≤v) (hns:¬ Sing N A) {x:Nat→Rat} (hx:Ann N A (ext N x (-1))) :
  gS (dO N A) N=(bH N x,0)∧fv (dO N A) N=true∧∀ k,k<N→cg (x k):=by
 have hl:∀ i,i<N→∀ k,k≤N→cg (A i k):=fun i hi k hk=>eC (hs.sz hbv hi hk) (by omega)
 have hr:=xl (by omega) hl;have hc:∀ i,i<N→∀ k,k≤N→A i k=jW (dO N A) i k:=fun i hi k hk=>(BU A hi hk).symm
 have hs':=hs.congr hc
 have hns':¬ Sing N (jW (dO N A)):=by
  rintro⟨y,hy,h⟩;exact hns ⟨y,(Ann.congr hc _).2 hy,h⟩
 have h1:(N+1)*b≤6*30:=adm (by omega) hb;have h2:(N+2)*b≤7*30:=adm (by omega) hb;obtain⟨y,e1,e2,e3⟩:=CI (rs:=dO N A) (n:=N) (c:=12) (b:=b) (v:=v) hr (by rw[eQ];exact N7 hN) (by rw[eQ];exact hs') hbv (by rw[eQ];omega) (by rw[eQ];exact hns');rw[eQ] at e1 e2 e3;have hxy:∀ k,k<N→x k=y k:=(e3.1 x).1 ((Ann.congr hc _).1 hx);exact⟨by rw[e1,jk fun k hk=>(hxy k hk).symm],hr,fun k hk=>by rw[hxy k hk];exact e2 k hk⟩
structure PayG (d:Day) (f:Nat→Nat) (P:Nat→Prop):Prop where
 ok:d.OK
 ex:∃ g,Inv d f g∧Pay d f g P (d.lst f P)
theorem PayG.good {d:Day} {f:Nat→Nat} {P:Nat→Prop} (h:PayG d f P):Good d f P:=by
 obtain⟨h1,g,h2,h3⟩:=h;exact h3.good h1 h2
theorem PayG.S_pos {d:Day} {f:Nat→Nat} {P:Nat→Prop} (h:PayG d f P):∀ k,P k→0<d.S k (f k):=by
 obtain⟨h1,g,h2,h3⟩:=h;exact fun k hk=>h2.S_pos (h3.fallen k hk).1 (h3.fallen k hk).2
theorem PayG.gt {d:Day} {f:Nat→Nat} {P:Nat→Prop} (h:PayG d f P):∀ k,P k→d.U k (f k)<d.lst f P k:=by
 obtain⟨h1,g,h2,h3⟩:=h;exact h3.ge
theorem Pay.l_range {d:Day} (hd:d.OK) {f:Nat→Nat} {g:Nat→Rat} {P:Nat→Prop} {h:Nat→Rat} (hi:Inv d f g) (hp:Pay d f g P h) {c:Cl} (hc:c∈d.cl):0≤d.l f P h c∧d.l f P h c≤c.am:=by
 have h0:=hd.am c hc
 by_cases h1:c.rk<f c.fr
 ·rw[Day.l_lt h1];exact⟨h0,adP⟩
 ·by_cases h2:c.rk=f c.fr∧P c.fr
  ·rw[Day.l_eq h2.1 h2.2]
   have e1:=hp.ge _ h2.2;have e2:=hp.le _ (hd.fr c hc);have e3:=hi.hi _ (hd.fr c hc) (hp.fallen _ h2.2).2;rw[d.U_succ] at e3;rw[h2.1];exact⟨du (hd.w_nonneg hc) (by grind),hd.w_le hc (by rw[h2.1];grind)⟩
  ·rw[Day.l_no h1 h2];exact⟨adP,h0⟩
theorem PayG.range {d:Day} {f:Nat→Nat} {P:Nat→Prop} (h:PayG d f P) {i:Nat} (hi:i<d.n):0≤d.lst f P i∧d.lst f P i≤d.into (fun c=>c.am) i:=by
 obtain⟨h1,g,h2,h3⟩:=h;rw[h3.sys i hi];exact⟨h1.into_nonneg (fun c hc=>(h3.l_range h1 h2 hc).1) hi,d.into_le (fun c hc=>(h3.l_range h1 h2 hc).2) i⟩
theorem Lm {cash:List Int} {cs:List ClR} (hs:SmallD cash cs) (i:Nat):(ac cash cs).into (fun c=>c.am) i≤((2^51:Nat):Rat):=by
 have e:(ac cash cs).into (fun c=>c.am) i=((cash.getD i 0+bq cs (fun c=>if c.2.1=(i:Int) then c.2.2.2 else 0):Int):Rat):=by
  unfold Day.into;rw[ado]
  congr 1
  refine (oB cs _ (fun c=>if c.to=(i:Int) then c.am else 0) fun c hc=>?_).symm
  show ((if c.2.1=(i:Int) then c.2.2.2 else 0:Int):Rat)=if c.2.1=(i:Int) then (c.2.2.2:Rat) else 0
  split<;>rfl
 rw[e];have h1:=hs.cash i;have h2:=hs.sum fun c=>c.2.1=(i:Int)
 have:cash.getD i 0+bq cs (fun c=>if c.2.1=(i:Int) then c.2.2.2 else 0)≤((2^51:Nat):Int):=by omega
 rw[←ads]
 exact_mod_cast this
theorem Day.OK.W_nonneg {d:Day} (hd:d.OK) (f:Nat→Nat) (k i:Nat):0≤d.W f k i:=dT fun c hc=>by
 split
 ·exact hd.w_nonneg hc
 ·exact adP
theorem KS {n t:Nat} {T:Nat→Rat} (h:∀ k,k<n→0≤T k) (ht:t≤n):sumQ t T≤sumQ n T:=by
 induction n with
 | zero=>rw[show t=0 by omega];exact adP
 | succ n ih =>
  by_cases htn:t=n+1
  ·rw[htn];exact adP
  ·have h1:=ih (fun k hk=>h k (by omega)) (by omega)
   have h2:=h n (by omega);rw[sumQ];grind
theorem Nu {N t M a e:Nat} {s:Rat} {T:Nat→Rat} (hM:0<M) (hMa:M≤2^a) (hs0:0≤s) (hsd:DenBy M s) (hT0:∀ k,k<N→0≤T k) (hTd:∀ k,k<N→DenBy M (T k)) (hx:s+sumQ N T≤((2^e:Nat):Rat)) (ht:t≤N):szR (a+e) (s+sumQ t T)∧∀ k,k<N→szR (a+e) (T k):=by
 have h1:∀ t,t≤N→0≤sumQ t T∧sumQ t T≤sumQ N T:=fun t ht=>⟨sa fun k hk=>hT0 k (by omega),KS hT0 ht⟩
 refine⟨(hsd.add (DenBy.sumQ fun k hk=>hTd k (by omega))).sz hM hMa (by have:=(h1 t ht).1;grind) (by have:=(h1 t ht).2;grind),fun k hk=>(hTd k hk).sz hM hMa (hT0 k hk) ?_⟩
 have h2:=(h1 k (by omega)).1;have h3:=(h1 (k+1) (by omega)).2;rw[sumQ] at h3;grind
section
variable {cash:List Int} {cs:List ClR} (hs:SmallD cash cs) {f:Nat→Nat} {P:Nat→Prop} (hp:PayG (ac cash cs) f P)
include hs hp
theorem ot {i:Nat} (hi:i<cash.length):0≤(ac cash cs).lst f P i∧(ac cash cs).lst f P i≤((2^51:Nat):Rat):=by
 have h:=hp.range (d:=ac cash cs) hi;exact⟨h.1,adQ h.2 (Lm hs i)⟩
theorem Ez:∃ M:Nat,0<M∧(∃ a,a≤402∧M≤2^a)∧∀ i,i<cash.length→DenBy M ((ac cash cs).lst f P i):=by
 obtain⟨M,h1,h2,h3⟩:=IS (N:=cash.length) hp.good.big (N7 hs.n5) (BV hs hp.S_pos) ((EP hp.ok f P _).2 hp.good.lst);have hn:=hs.n5;have:(cash.length+1)*30≤6*30:=adE _ (by omega);exact⟨M,h1,⟨_,by omega,h2⟩,h3⟩
theorem HO {i:Nat} (hi:i<cash.length):szR 453 ((ac cash cs).lst f P i):=by
 obtain⟨M,h1,⟨a,h0,h2⟩,h3⟩:=Ez hs hp;have h4:=ot hs hp hi;exact ((h3 i hi).sz h1 h2 h4.1 h4.2).mono (by omega)
theorem Bn:gS (dO (payers P cash.length).length ((ac cash cs).smallM f (payers P cash.length))) (payers P cash.length).length=(bH (payers P cash.length).length (fun k=>(ac cash cs).lst f P ((payers P cash.length).getD k 0)-(ac cash cs).U ((payers P cash.length).getD k 0) (f ((payers P cash.length).getD k 0))),0)∧fv (dO (payers P cash.length).length ((ac cash cs).smallM f (payers P cash.length))) (payers P cash.length).length=true:=by
 have hlen:(payers P cash.length).length≤5:=by
  have:=adR (fun i=>decide (P i)) (adH cash.length);rw[adS] at this;have:=hs.n5;unfold payers;omega
 have:=Cn hlen (mO hs hp.S_pos _ fun k hk=>(gw hk).2) (adD _) (by omega) (by omega) hp.good.small hp.good.small_sol;exact⟨this.1,this.2.1⟩
theorem FY:∃ M:Nat,0<M∧(∃ a,a≤244∧M≤2^a)∧∀ k,k<(payers P cash.length).length→DenBy M ((ac cash cs).lst f P ((payers P cash.length).getD k 0)-(ac cash cs).U ((payers P cash.length).getD k 0) (f ((payers P cash.length).getD k 0))):=by
 have hlen:(payers P cash.length).length≤5:=by
  have:=adR (fun i=>decide (P i)) (adH cash.length);rw[adS] at this;have:=hs.n5;unfold payers;omega
 have hpn:payers P (ac cash cs).n=payers P cash.length:=rfl;have hss:=hp.good.small_sol;have hsm:=hp.good.small;rw[hpn] at hss hsm;obtain⟨M,h1,h2,h3⟩:=IS hsm (N7 hlen) (mO hs hp.S_pos _ fun k hk=>(gw hk).2) hss;have:((payers P cash.length).length+1)*30≤6*30:=adE _ (by omega);exact⟨M,h1,⟨_,by omega,h2⟩,h3⟩
theorem Ou {k:Nat} (hk:P k) (i:Nat):szR 30 ((ac cash cs).W f k i)∧DenBy (SN cs k (f k)) ((ac cash cs).W f k i):=by
 have e:=Ir hs hp.S_pos hk i;have h0:=xS hs hp.S_pos hk;have h1:=hs.SN_le k (f k);have h2:=hs.sum fun c=>c.2.1=(i:Int)∧c.1=(k:Int)∧c.2.2.1=(f k:Int)
 obtain⟨f1,f2⟩:=fD (q:=(ac cash cs).W f k i) (v:=wI cs f k i) (d:=(SN cs k (f k):Int)) (by omega) (by rw[←e,ads,adA]);rw[adw] at f2;refine⟨⟨adx f1 (by unfold wI;omega),adx f2 (by omega)⟩,wI cs f k i,by rw[←e,adA]⟩
theorem L4 {i t:Nat} (hi:i<cash.length) (ht:t≤(payers P cash.length).length) :
  szR 440 ((ac cash cs).st f i+sumQ t fun k=>(ac cash cs).W f ((payers P cash.length).getD k 0) i*((ac cash cs).lst f P ((payers P cash.length).getD k 0)-(ac cash cs).U ((payers P cash.length).getD k 0) (f ((payers P cash.length).getD k 0)))) ∧
  (∀ k,k<(payers P cash.length).length→szR 440 ((ac cash cs).W f ((payers P cash.length).getD k 0) i*((ac cash cs).lst f P ((payers P cash.length).getD k 0)-(ac cash cs).U ((payers P cash.length).getD k 0) (f ((payers P cash.length).getD k 0))))) ∧
  ∀ k,k<(payers P cash.length).length→szR 295 ((ac cash cs).lst f P ((payers P cash.length).getD k 0)-(ac cash cs).U ((payers P cash.length).getD k 0) (f ((payers P cash.length).getD k 0))):=by
 have hlen:(payers P cash.length).length≤5:=by
  have:=adR (fun i=>decide (P i)) (adH cash.length);rw[adS] at this;have:=hs.n5;unfold payers;omega
 obtain⟨M,m1,⟨a,m0,m2⟩,m3⟩:=FY hs hp;have hmem:∀ k,k<(payers P cash.length).length→(payers P cash.length).getD k 0<cash.length∧P ((payers P cash.length).getD k 0):=fun k hk=>gw hk
 have hsol:=hp.good.lst_pay (d:=ac cash cs) hi;have hpn:payers P (ac cash cs).n=payers P cash.length:=rfl;rw[hpn] at hsol;generalize hpd:payers P cash.length=p at *
 have hex0:∀ k,k<p.length→0≤(ac cash cs).lst f P (p.getD k 0)-(ac cash cs).U (p.getD k 0) (f (p.getD k 0)):=fun k hk=>by
  have:=hp.gt _ (hmem k hk).2;grind
 have hex1:∀ k,k<p.length→(ac cash cs).lst f P (p.getD k 0)-(ac cash cs).U (p.getD k 0) (f (p.getD k 0))≤((2^51:Nat):Rat):=fun k hk=>by
  have h1:=(ot hs hp (hmem k hk).1).2;have h2:=hp.ok.U_nonneg (p.getD k 0) (f (p.getD k 0));grind
 have hpp:0<g5 p.length fun k=>SN cs (p.getD k 0) (f (p.getD k 0)):=rt fun k hk=>xS hs hp.S_pos (hmem k hk).2
 have hpl:(g5 p.length fun k=>SN cs (p.getD k 0) (f (p.getD k 0)))≤2^145:=adx (tS fun k _=>hs.SN_le _ _) (ady (by omega) (by omega));have hst:=pS hs.right f i;have hst2:=hs.steady f i;have hst0:0≤(ac cash cs).st f i:=by rw[←hst];exact_mod_cast hst2.1
 have hr:=(ot hs hp hi).2;rw[hsol] at hr
 have hpM:(g5 p.length fun k=>SN cs (p.getD k 0) (f (p.getD k 0)))*M≤2^(145+a):=by
  rw[adl];exact adm hpl m2
 have hmain:=Nu (T:=fun k=>(ac cash cs).W f (p.getD k 0) i*((ac cash cs).lst f P (p.getD k 0)-(ac cash cs).U (p.getD k 0) (f (p.getD k 0)))) (adj hpp m1) hpM hst0 (by rw[←hst];exact DenBy.int _ _) (fun k hk=>du (hp.ok.W_nonneg f _ _) (hex0 k hk)) (fun k hk=>((Ou hs hp (hmem k hk).2 i).2.of_dvd (rz (D:=fun k=>SN cs (p.getD k 0) (f (p.getD k 0))) hk)).mul (m3 k hk)) hr ht
 exact⟨hmain.1.mono (by omega),fun k hk=>(hmain.2 k hk).mono (by omega),fun k hk=>((m3 k hk).sz m1 m2 (hex0 k hk) (hex1 k hk)).mono (by omega)⟩
end
end Go.Mini
namespace Go.Mini
open Go
def mf_ref20_Few:MFunc :=
 { n:=53,np:=2,res:=[.t 4],body :=
 (.seq (.ops [
 Zb 4 false])
 (.seq (.seq (.ops [
 Zv 7 0,Zn 8 7,Zc 9 .gtr 8 5,Zv 10 9,⟨some 11,some (10,false),.mv (.t 1)⟩,⟨some 12,some (10,false),.len (.t 11)⟩,⟨some 13,some (10,false),.bin .gtr (.t 12) (.c (ZI 12))⟩,Zp 14 10 13])
 (.cond (.t 14)
 (.seq (.ops [
 Zb 4 false])
 .ret)
 .skip))
 (.seq (.seq (.ops [
 Zi 5 0])
 (.block 0
 (.loop
 (.seq (.seq (.ops [
 Zv 15 5,Zv 16 0,Zn 17 16,Zo 18 .lss 15 17])
 (.cond (.t 18)
 .skip
 (.exit 0)))
 (.seq (.block 1
 (.seq (.ops [
 Zv 21 0,Zv 22 5,Za 23 1 21 22,Zl 24 1 23,Zc 25 .gtr 24 1000000,Zv 26 25,⟨some 27,some (26,true),.mv (.t 0)⟩,⟨some 28,some (26,true),.mv (.t 5)⟩,⟨some 29,some (26,true),.iad 1 (.t 27) (.t 28)⟩,⟨some 30,some (26,true),.load 1 false (.t 29)⟩,⟨some 31,some (26,true),.bin .leq (.t 30) (.c (ZI 1000000000000000))⟩,Zq 32 26 31])
 (.cond (.t 32)
 (.seq (.ops [
 Zb 4 false])
 .ret)
 .skip)))
 (.ops [
 Zv 19 5,Zc 20 .add 19 1,Zv 5 20]))))))
 (.seq (.seq (.ops [
 Zi 6 0])
 (.block 2
 (.loop
 (.seq (.seq (.ops [
 Zv 33 6,Zv 34 1,Zn 35 34,Zo 36 .lss 33 35])
 (.cond (.t 36)
 .skip
 (.exit 2)))
 (.seq (.block 3
 (.seq (.ops [
 Zv 39 1,Zv 40 6,Za 41 4 39 40,Zf 42 3 41,Zl 43 1 42,Zc 44 .gtr 43 1000000,Zv 45 44,⟨some 46,some (45,true),.mv (.t 1)⟩,⟨some 47,some (45,true),.mv (.t 6)⟩,⟨some 48,some (45,true),.iad 4 (.t 46) (.t 47)⟩,⟨some 49,some (45,true),.fad 3 (.t 48)⟩,⟨some 50,some (45,true),.load 1 false (.t 49)⟩,⟨some 51,some (45,true),.bin .leq (.t 50) (.c (ZI 1000000000000000))⟩,Zq 52 45 51])
 (.cond (.t 52)
 (.seq (.ops [
 Zb 4 false])
 .ret)
 .skip)))
 (.ops [
 Zv 37 6,Zc 38 .add 37 1,Zv 6 38]))))))
 (.seq (.ops [
 Zb 4 true])
 .ret))))) }
def mf_ref20_SameRounds:MFunc :=
 { n:=53,np:=2,res:=[.t 4],body :=
 (.seq (.ops [
 Zb 4 false])
 (.seq (.seq (.ops [
 Zv 7 0,Zn 8 7,Zv 9 1,Zn 10 9,Zo 11 .neq 8 10])
 (.cond (.t 11)
 (.seq (.ops [
 Zb 4 false])
 .ret)
 .skip))
 (.seq (.seq (.ops [
 Zi 5 0])
 (.block 0
 (.loop
 (.seq (.seq (.ops [
 Zv 12 5,Zv 13 0,Zn 14 13,Zo 15 .lss 12 14])
 (.cond (.t 15)
 .skip
 (.exit 0)))
 (.seq (.block 1
 (.seq (.seq (.opsD [
 Zv 18 0,Zv 19 5,Za 20 1 18 19,Zl 21 1 20,Zn 22 21,Zv 23 1,Zv 24 5,Za 25 1 23 24,Zl 26 1 25,Zn 27 26,Zo 28 .neq 22 27] [[],[],[],[],[],[],[],[],[],[],[]])
 (.cond (.t 28)
 (.seq (.ops [
 Zb 4 false])
 .ret)
 .skip))
 (.seq (.ops [
 Zi 6 0])
 (.block 2
 (.loop
 (.seq (.seq (.ops [
 Zv 29 6,Zv 30 0,Zv 31 5,Za 32 1 30 31,Zl 33 1 32,Zn 34 33,Zo 35 .lss 29 34])
 (.cond (.t 35)
 .skip
 (.exit 2)))
 (.seq (.block 3
 (.seq (.opsD [
 Zv 38 0,Zv 39 5,Za 40 1 38 39,Zl 41 1 40,Zv 42 6,Za 43 1 41 42,Zl 44 1 43,Zv 45 1,Zv 46 5,Za 47 1 45 46,Zl 48 1 47,Zv 49 6,Za 50 1 48 49,Zl 51 1 50,Zo 52 .neq 44 51] [[],[],[],[],[],[],[],[],[],[],[],[],[],[],[]])
 (.cond (.t 52)
 (.seq (.ops [
 Zb 4 false])
 .ret)
 .skip)))
 (.ops [
 Zv 36 6,Zc 37 .add 36 1,Zv 6 37]))))))))
 (.ops [
 Zv 16 5,Zc 17 .add 16 1,Zv 5 17]))))))
 (.seq (.ops [
 Zb 4 true])
 .ret)))) }

def mf_rank_right:MFunc :=
 { n:=46,np:=1,res:=[.t 2],body :=
 (.seq (.ops [
 Zb 2 false])
 (.seq (.seq (.ops [
 Zv 5 0,Zn 6 5,Zi 7 0])
 (.block 0
 (.loop
 (.seq (.ops [
 Zo 8 .lss 7 6])
 (.seq (.cond (.t 8)
 .skip
 (.exit 0))
 (.seq (.block 1
 (.seq (.ops [
 Za 9 4 5 7,Zu 10 4 9,⟨some 4,none,.alloc 240004 [(ZI 0),(ZI 0),(ZI 0),(ZI 0)]⟩,Zs 4 4 10])
 (.seq (.opsD [
 Zf 11 0 4,Zl 12 1 11,⟨some 13,none,.call fq [(.t 12),(.c (ZI 0)),(.c (ZI 59))]⟩,Zt 14 13,Zv 15 14,⟨some 16,some (15,false),.fad 1 (.t 4)⟩,⟨some 17,some (15,false),.load 1 false (.t 16)⟩,⟨some 18,some (15,false),.call fq [(.t 17),(.c (.dat (.int .i64 (-1)))),(.c (ZI 59))]⟩,⟨some 19,some (15,false),.un .not (.t 18)⟩,Zp 20 15 19,Zv 21 20,⟨some 22,some (21,false),.fad 2 (.t 4)⟩,⟨some 23,some (21,false),.load 1 false (.t 22)⟩,⟨some 24,some (21,false),.call fq [(.t 23),(.c (ZI 0)),(.c (ZI 9))]⟩,⟨some 25,some (21,false),.un .not (.t 24)⟩,Zp 26 21 25,Zv 27 26,⟨some 28,some (27,false),.fad 3 (.t 4)⟩,⟨some 29,some (27,false),.load 1 false (.t 28)⟩,⟨some 30,some (27,false),.call fq [(.t 29),(.c (ZI 0)),(.c (ZI 1000000000000000))]⟩,⟨some 31,some (27,false),.un .not (.t 30)⟩,Zp 32 27 31,Zv 33 32,⟨some 34,some (33,false),.fad 0 (.t 4)⟩,⟨some 35,some (33,false),.load 1 false (.t 34)⟩,⟨some 36,some (33,false),.mv (.t 0)⟩,⟨some 37,some (33,false),.iad 4 (.t 36) (.c (ZI 0))⟩,⟨some 38,some (33,false),.fad 0 (.t 37)⟩,⟨some 39,some (33,false),.load 1 false (.t 38)⟩,⟨some 40,some (33,false),.bin .neq (.t 35) (.t 39)⟩,Zp 41 33 40] [[],[],[],[],[],[],[],[],[],[],[],[],[],[],[],[],[],[],[],[],[],[],[],[],[],[],[],[],[],[],[]])
 (.cond (.t 41)
 (.seq (.ops [
 Zb 2 false])
 .ret)
 .skip))))
 (.ops [
 Zc 42 .add 7 1,Zv 7 42])))))))
 (.seq (.ops [
 Zv 43 0,Zn 44 43,Zc 45 .leq 44 2000,Zv 2 45])
 .ret))) }
def mf_rank_whole:MFunc :=
 { n:=11,np:=1,res:=[.cell 2 4 true],body :=
 (.seq (.ops [
 ⟨some 2,none,.alloc 241002 [(ZI 0),.nil,(ZI 0),.nil]⟩])
 (.seq (.ops [
 Zv 6 0,⟨some 7,none,.call ir [(.t 6),(.c (ZI 1))]⟩,Zv 5 7,Zx 8 0 5,Zx 9 1 5,⟨some 3,none,.alloc 241003 [(ZI 0),.nil,(ZI 0),.nil]⟩,Zs 4 3 8,Zv 4 9])
 (.seq (.ops [
 Zu 10 4 3,Zs 4 2 10])
 .ret))) }
def mf_rank_Split:MFunc :=
 { n:=118,np:=2,res:=[.t 4,.t 5],body :=
 (.seq (.ops [
 Zk 2 249002 0,Ze 4,Zi 5 0])
 (.seq (.seq (.opsD [
 Zu 19 4 2,⟨some 20,none,.call aW [(.t 19)]⟩,Zt 21 20,Zv 22 21,⟨some 23,some (22,false),.load 4 true (.t 2)⟩,⟨some 24,some (22,false),.call cZ [(.c (ZI 0))]⟩,⟨some 25,some (22,false),.call a0 [(.t 23),(.t 24)]⟩,⟨some 26,some (22,false),.bin .lss (.t 25) (.c (ZI 0))⟩,Zp 27 22 26,Zv 28 27,⟨some 29,some (28,false),.mv (.t 1)⟩,⟨some 30,some (28,false),.call lm [(.t 29)]⟩,⟨some 31,some (28,false),.un .not (.t 30)⟩,Zp 32 28 31] [[],[],[],[],[],[],[],[],[],[],[],[],[],[]])
 (.cond (.t 32)
 (.seq (.ops [
 Ze 4,Zi 5 1])
 .ret)
 .skip))
 (.seq (.ops [
 Zv 33 1,Zn 34 33,⟨some 35,none,.mksl 249035 [(ZI 0),.nil,(ZI 0),.nil] 64 (.t 34) (.t 34)⟩,Zv 6 35])
 (.seq (.ops [
 Zu 36 4 2,⟨some 7,none,.alloc 249007 [(ZI 0),.nil,(ZI 0),.nil]⟩,Zs 4 7 36])
 (.seq (.seq (.ops [
 Zi 37 0])
 (.block 0
 (.loop
 (.seq (.ops [
 Zc 38 .lss 37 10])
 (.seq (.cond (.t 38)
 .skip
 (.exit 0))
 (.seq (.block 1
 (.seq (.ops [
 Zv 39 37,Zv 8 39])
 (.seq (.ops [
 Zi 9 0])
 (.seq (.seq (.ops [
 Zv 40 1,Zn 41 40,Zi 42 0])
 (.block 2
 (.loop
 (.seq (.ops [
 Zo 43 .lss 42 41])
 (.seq (.cond (.t 43)
 .skip
 (.exit 2))
 (.seq (.block 3
 (.seq (.ops [
 Za 44 4 40 42,Zu 45 4 44,⟨some 11,none,.alloc 249011 [(ZI 0),(ZI 0),(ZI 0),(ZI 0)]⟩,Zs 4 11 45])
 (.seq (.ops [
 Zf 46 2 11,Zl 47 1 46,Zv 48 8,Zo 49 .eql 47 48])
 (.cond (.t 49)
 (.ops [
 Zv 50 9,Zf 51 3 11,Zl 52 1 51,Zo 53 .add 50 52,Zv 9 53])
 .skip))))
 (.ops [
 Zc 54 .add 42 1,Zv 42 54])))))))
 (.seq (.opsD [
 Zu 55 4 7,Zv 56 9,⟨some 57,none,.call cZ [(.t 56)]⟩,⟨some 58,none,.call a0 [(.t 55),(.t 57)]⟩,Zc 59 .geq 58 0,Zv 12 59] [[],[],[],[],[],[]])
 (.seq (.seq (.ops [
 Zv 60 1,Zn 61 60,Zi 62 0])
 (.block 4
 (.loop
 (.seq (.ops [
 Zo 63 .lss 62 61])
 (.seq (.cond (.t 63)
 .skip
 (.exit 4))
 (.seq (.block 5
 (.seq (.ops [
 Zv 64 62,Za 65 4 60 62,Zu 66 4 65,⟨some 14,none,.alloc 249014 [(ZI 0),(ZI 0),(ZI 0),(ZI 0)]⟩,Zv 13 64,Zs 4 14 66])
 (.seq (.seq (.ops [
 Zf 67 2 14,Zl 68 1 67,Zv 69 8,Zo 70 .neq 68 69])
 (.cond (.t 70)
 (.exit 5)
 .skip))
 (.seq (.ops [
 Zv 71 6,Zv 72 13,Zf 73 3 14,Zl 74 1 73,⟨some 75,none,.call cZ [(.t 74)]⟩,Za 76 4 71 72,Zs 4 76 75])
 (.seq (.seq (.ops [
 Zv 77 12])
 (.cond (.t 77)
 (.exit 5)
 .skip))
 (.seq (.opsD [
 Zf 79 3 14,Zl 80 1 79,⟨some 81,none,.call cZ [(.t 80)]⟩,Zu 82 4 7,⟨some 83,none,.call dE [(.t 81),(.t 82)]⟩,Zv 78 83,Zx 84 0 78,Zx 85 1 78,⟨some 15,none,.alloc 249015 [(ZI 0),.nil,(ZI 0),.nil]⟩,Zs 4 15 84,Zv 16 85] [[],[],[],[],[],[],[],[],[1,3],[],[]])
 (.seq (.seq (.ops [
 Zv 86 16,Zc 87 .eql 86 0])
 (.cond (.t 87)
 (.opsD [
 Zv 89 6,Zv 90 13,Zu 91 4 15,Zv 92 9,⟨some 93,none,.call cZ [(.t 92)]⟩,⟨some 94,none,.call gv [(.t 91),(.t 93)]⟩,Zv 88 94,Zx 95 0 88,Zx 96 1 88,Za 97 4 89 90,Zs 4 97 95,Zv 16 96] [[],[],[],[],[],[],[],[],[],[],[],[]])
 .skip))
 (.seq (.ops [
 Zv 98 16,Zc 99 .neq 98 0])
 (.cond (.t 99)
 (.seq (.ops [
 Zv 100 16,Ze 4,Zv 5 100])
 .ret)
 .skip)))))))))
 (.ops [
 Zc 101 .add 62 1,Zv 62 101])))))))
 (.seq (.seq (.ops [
 Zv 102 12,Zt 103 102])
 (.cond (.t 103)
 (.seq (.ops [
 ⟨some 104,none,.call cZ [(.c (ZI 0))]⟩,Zs 4 7 104])
 (.exit 1))
 .skip))
 (.seq (.opsD [
 Zu 106 4 7,Zv 107 9,⟨some 108,none,.call cZ [(.t 107)]⟩,⟨some 109,none,.call dQ [(.t 106),(.t 108)]⟩,Zv 105 109,Zx 110 0 105,Zx 111 1 105,⟨some 17,none,.alloc 249017 [(ZI 0),.nil,(ZI 0),.nil]⟩,Zs 4 17 110,Zv 18 111] [[],[],[],[],[],[],[],[0],[],[]])
 (.seq (.seq (.ops [
 Zv 112 18,Zc 113 .neq 112 0])
 (.cond (.t 113)
 (.seq (.ops [
 Zv 114 18,Ze 4,Zv 5 114])
 .ret)
 .skip))
 (.ops [
 Zu 115 4 17,Zs 4 7 115]))))))))))
 (.ops [
 Zc 116 .add 37 1,Zv 37 116])))))))
 (.seq (.ghost (.freeze 6) (.ops [
 Zv 117 6,Zv 4 117,Zi 5 0]))
 .ret)))))) }
def mf_rank_within:MFunc :=
 { n:=15,np:=3,res:=[.t 6],body :=
 (.seq (.ops [
 Zb 6 false])
 (.seq (.ops [
 Zv 7 0,Zv 8 1,Zo 9 .geq 7 8,Zv 10 9,⟨some 11,some (10,true),.mv (.t 0)⟩,⟨some 12,some (10,true),.mv (.t 2)⟩,⟨some 13,some (10,true),.bin .leq (.t 11) (.t 12)⟩,Zq 14 10 13,Zv 6 14])
 .ret)) }
def mf_law20_ClearGreatest:MFunc :=
 { n:=86,np:=3,res:=[.t 6],body :=
 (.seq (.ops [
 Zb 6 false])
 (.seq (.ops [
 ⟨some 11,none,.call kG []⟩,Zv 7 11])
 (.seq (.seq (.ops [
 Zv 12 0,Zv 13 1,⟨some 14,none,.call mS [(.t 12),(.t 13)]⟩,Zt 15 14,Zv 16 15,⟨some 17,some (16,false),.mv (.t 2)⟩,⟨some 18,some (16,false),.call iP [(.t 17),(.c (ZI 6)),(.c (ZI 2))]⟩,⟨some 19,some (16,false),.un .not (.t 18)⟩,Zp 20 16 19])
 (.cond (.t 20)
 (.seq (.ops [
 Zv 21 7,Zv 6 21])
 .ret)
 .skip))
 (.seq (.ops [
 Zv 23 0,Zv 24 1,⟨some 25,none,.call ei [(.t 23),(.t 24)]⟩,Zv 22 25,Zx 26 0 22,Zx 27 1 22,⟨some 8,none,.alloc 211008 [.nil,.nil,.nil]⟩,Zs 3 8 26,Zv 9 27])
 (.seq (.seq (.ops [
 Zv 28 9,Zc 29 .neq 28 0])
 (.cond (.t 29)
 (.seq (.ops [
 Zv 30 7,Zv 31 30,⟨some 32,some (31,true),.mv (.t 9)⟩,⟨some 33,some (31,true),.bin .eql (.t 32) (.c (ZI 1))⟩,Zq 34 31 33,Zv 35 34,⟨some 36,some (35,true),.mv (.t 0)⟩,⟨some 37,some (35,true),.mv (.t 1)⟩,⟨some 38,some (35,true),.mv (.t 2)⟩,⟨some 39,some (35,true),.call eR [(.t 36),(.t 37),(.t 38)]⟩,⟨some 40,some (35,true),.un .not (.t 39)⟩,Zq 41 35 40,Zv 6 41])
 .ret)
 .skip))
 (.seq (.seq (.ops [
 Zv 42 0,Zv 43 1,Zf 44 0 8,Zl 45 1 44,⟨some 46,none,.call eR [(.t 42),(.t 43),(.t 45)]⟩,Zt 47 46,Zv 48 47,⟨some 49,some (48,false),.fad 0 (.t 8)⟩,⟨some 50,some (48,false),.load 1 false (.t 49)⟩,⟨some 51,some (48,false),.len (.t 50)⟩,⟨some 52,some (48,false),.mv (.t 0)⟩,⟨some 53,some (48,false),.len (.t 52)⟩,⟨some 54,some (48,false),.bin .neq (.t 51) (.t 53)⟩,Zp 55 48 54])
 (.cond (.t 55)
 (.seq (.ops [
 Zb 6 false])
 .ret)
 .skip))
 (.seq (.seq (.ops [
 Zv 56 0,Zv 57 1,Zv 58 2,⟨some 59,none,.call eR [(.t 56),(.t 57),(.t 58)]⟩,Zt 60 59])
 (.cond (.t 60)
 (.seq (.ops [
 Zv 61 7,Zv 6 61])
 .ret)
 .skip))
 (.seq (.seq (.ops [
 Zi 10 0])
 (.block 0
 (.loop
 (.seq (.seq (.ops [
 Zv 62 10,Zv 63 0,Zn 64 63,Zo 65 .lss 62 64,Zv 66 65,⟨some 67,some (66,true),.mv (.t 10)⟩,⟨some 68,some (66,true),.mv (.t 2)⟩,⟨some 69,some (66,true),.len (.t 68)⟩,⟨some 70,some (66,true),.bin .lss (.t 67) (.t 69)⟩,Zq 71 66 70])
 (.cond (.t 71)
 .skip
 (.exit 0)))
 (.seq (.block 1
 (.seq (.opsD [
 Zv 74 2,Zv 75 10,Za 76 4 74 75,Zu 77 4 76,Zf 78 0 8,Zl 79 1 78,Zv 80 10,Za 81 4 79 80,Zu 82 4 81,⟨some 83,none,.call a0 [(.t 77),(.t 82)]⟩,Zc 84 .gtr 83 0] [[],[],[],[],[],[],[],[],[],[],[]])
 (.cond (.t 84)
 (.seq (.ops [
 Zb 6 false])
 .ret)
 .skip)))
 (.ops [
 Zv 72 10,Zc 73 .add 72 1,Zv 10 73]))))))
 (.seq (.ops [
 Zv 85 7,Zv 6 85])
 .ret))))))))) }
def mf_law20_small:MFunc :=
 { n:=66,np:=0,res:=[.t 0],body :=
 (.seq (.ops [
 Zb 0 false])
 (.seq (.ops [
 ⟨some 8,none,.bsl 215008 false [(ZI 0),(ZI 0)] 1 2 [(0,1,(.c (ZI 5))),(1,1,(.c (ZI 0)))]⟩,⟨some 9,none,.build [(ZI 0),(ZI 0),(ZI 0),(ZI 0)] [(0,1,(.c (ZI 0))),(1,1,(.c (ZI 1))),(3,1,(.c (ZI 10)))]⟩,⟨some 10,none,.build [(ZI 0),(ZI 0),(ZI 0),(ZI 0)] [(0,1,(.c (ZI 1))),(1,1,(.c (.dat (.int .i64 (-1))))),(3,1,(.c (ZI 4)))]⟩,⟨some 11,none,.bsl 215011 false [(ZI 0),(ZI 0),(ZI 0),(ZI 0),(ZI 0),(ZI 0),(ZI 0),(ZI 0)] 4 2 [(0,4,(.t 9)),(4,4,(.t 10))]⟩,⟨some 12,none,.bsl 215012 false [(ZI 0),(ZI 0)] 1 2 [(0,1,(.c (ZI 5))),(1,1,(.c (ZI 5)))]⟩,⟨some 13,none,.bsl 215013 false [(ZI 0),(ZI 0)] 1 2 [(0,1,(.c (ZI 5))),(1,1,(.c (ZI 4)))]⟩,⟨some 14,none,.bsl 215014 false [(ZI 0)] 1 1 [(0,1,(.c (ZI 0)))]⟩,⟨some 15,none,.bsl 215015 false [.nil] 1 1 [(0,1,(.t 14))]⟩,⟨some 16,none,.call gL [(.t 8),(.t 11),(.t 12),(.t 13),(.t 15)]⟩,Zv 1 16])
 (.seq (.ops [
 ⟨some 17,none,.build [(ZI 0),(ZI 0),(ZI 0),(ZI 0)] [(0,1,(.c (ZI 0))),(1,1,(.c (ZI 1))),(2,1,(.c (ZI 1))),(3,1,(.c (ZI 10)))]⟩,⟨some 18,none,.build [(ZI 0),(ZI 0),(ZI 0),(ZI 0)] [(0,1,(.c (ZI 1))),(1,1,(.c (ZI 0))),(2,1,(.c (ZI 1))),(3,1,(.c (ZI 10)))]⟩,⟨some 19,none,.bsl 215019 true [(ZI 0),(ZI 0),(ZI 0),(ZI 0),(ZI 0),(ZI 0),(ZI 0),(ZI 0)] 4 2 [(0,4,(.t 17)),(4,4,(.t 18))]⟩,Zv 2 19])
 (.seq (.ops [
 ⟨some 20,none,.bsl 215020 false [(ZI 0),(ZI 0)] 1 2 [(0,1,(.c (ZI 0))),(1,1,(.c (ZI 0)))]⟩,Zv 21 2,⟨some 22,none,.bsl 215022 false [(ZI 0),(ZI 0)] 1 2 [(0,1,(.c (ZI 10))),(1,1,(.c (ZI 10)))]⟩,⟨some 23,none,.bsl 215023 false [(ZI 0),(ZI 0)] 1 2 [(0,1,(.c (ZI 10))),(1,1,(.c (ZI 10)))]⟩,⟨some 24,none,.call gL [(.t 20),(.t 21),(.t 22),(.t 23),(.c .nil)]⟩,Zv 3 24])
 (.seq (.ops [
 ⟨some 25,none,.bsl 215025 false [(ZI 0),(ZI 0)] 1 2 [(0,1,(.c (ZI 0))),(1,1,(.c (ZI 0)))]⟩,Zv 26 2,⟨some 27,none,.build [(ZI 0),(ZI 0),(ZI 0),(ZI 0)] [(0,1,(.c (ZI 0))),(1,1,(.c (.dat (.int .i64 (-1))))),(3,1,(.c (ZI 5)))]⟩,⟨some 28,none,.bsl 215028 false [(ZI 0),(ZI 0),(ZI 0),(ZI 0)] 4 1 [(0,4,(.t 27))]⟩,⟨some 29,none,.app 215029 [(ZI 0),(ZI 0),(ZI 0),(ZI 0)] 32 (.t 26) (.t 28)⟩,⟨some 30,none,.bsl 215030 false [(ZI 0),(ZI 0)] 1 2 [(0,1,(.c (ZI 0))),(1,1,(.c (ZI 0)))]⟩,⟨some 31,none,.bsl 215031 false [(ZI 0),(ZI 0),(ZI 0)] 1 3 [(0,1,(.c (ZI 0))),(1,1,(.c (ZI 0))),(2,1,(.c (ZI 0)))]⟩,⟨some 32,none,.bsl 215032 false [(ZI 0)] 1 1 [(0,1,(.c (ZI 0)))]⟩,⟨some 33,none,.bsl 215033 false [(ZI 0)] 1 1 [(0,1,(.c (ZI 1)))]⟩,⟨some 34,none,.bsl 215034 false [(ZI 0)] 1 1 [(0,1,(.c (ZI 0)))]⟩,⟨some 35,none,.bsl 215035 false [.nil,.nil,.nil] 1 3 [(0,1,(.t 32)),(1,1,(.t 33)),(2,1,(.t 34))]⟩,⟨some 36,none,.call gL [(.t 25),(.t 29),(.t 30),(.t 31),(.t 35)]⟩,Zv 4 36])
 (.seq (.ops [
 ⟨some 37,none,.bsl 215037 false [(ZI 0)] 1 1 [(0,1,(.c (ZI 9)))]⟩,⟨some 38,none,.build [(ZI 0),(ZI 0),(ZI 0),(ZI 0)] [(1,1,(.c (.dat (.int .i64 (-1))))),(3,1,(.c (ZI 6)))]⟩,⟨some 39,none,.build [(ZI 0),(ZI 0),(ZI 0),(ZI 0)] [(1,1,(.c (.dat (.int .i64 (-1))))),(2,1,(.c (ZI 1))),(3,1,(.c (ZI 2)))]⟩,⟨some 40,none,.build [(ZI 0),(ZI 0),(ZI 0),(ZI 0)] [(1,1,(.c (.dat (.int .i64 (-1))))),(2,1,(.c (ZI 1))),(3,1,(.c (ZI 4)))]⟩,⟨some 41,none,.bsl 215041 false [(ZI 0),(ZI 0),(ZI 0),(ZI 0),(ZI 0),(ZI 0),(ZI 0),(ZI 0),(ZI 0),(ZI 0),(ZI 0),(ZI 0)] 4 3 [(0,4,(.t 38)),(4,4,(.t 39)),(8,4,(.t 40))]⟩,⟨some 42,none,.bsl 215042 false [(ZI 0)] 1 1 [(0,1,(.c (ZI 9)))]⟩,⟨some 43,none,.bsl 215043 false [(ZI 0),(ZI 0),(ZI 0)] 1 3 [(0,1,(.c (ZI 6))),(1,1,(.c (ZI 1))),(2,1,(.c (ZI 2)))]⟩,⟨some 44,none,.bsl 215044 false [(ZI 0)] 1 1 [(0,1,(.c (ZI 0)))]⟩,⟨some 45,none,.bsl 215045 false [.nil] 1 1 [(0,1,(.t 44))]⟩,⟨some 46,none,.call gL [(.t 37),(.t 41),(.t 42),(.t 43),(.t 45)]⟩,Zv 5 46])
 (.seq (.ops [
 ⟨some 48,none,.bsl 215048 false [(ZI 0)] 1 1 [(0,1,(.c (.dat (.int .i64 (-1)))))]⟩,⟨some 49,none,.call ei [(.t 48),(.c .nil)]⟩,Zv 47 49,Zx 50 0 47,Zx 51 1 47,⟨some 6,none,.alloc 215006 [.nil,.nil,.nil]⟩,Zs 3 6 50,Zv 7 51])
 (.seq (.ops [
 Zv 52 1,Zv 53 52,⟨some 54,some (53,true),.mv (.t 3)⟩,Zq 55 53 54,Zv 56 55,⟨some 57,some (56,true),.mv (.t 4)⟩,Zq 58 56 57,Zv 59 58,⟨some 60,some (59,true),.mv (.t 5)⟩,Zq 61 59 60,Zv 62 61,⟨some 63,some (62,true),.mv (.t 7)⟩,⟨some 64,some (62,true),.bin .eql (.t 63) (.c (ZI 1))⟩,Zq 65 62 64,Zv 0 65])
 .ret)))))))) }
def mf_law20_of:MFunc :=
 { n:=11,np:=1,res:=[.cell 2 4 true],body :=
 (.seq (.ops [
 ⟨some 2,none,.alloc 219002 [(ZI 0),.nil,(ZI 0),.nil]⟩])
 (.seq (.ops [
 Zv 6 0,⟨some 7,none,.call nE [(.t 6),(.c (ZI 1))]⟩,Zv 5 7,Zx 8 0 5,Zx 9 1 5,⟨some 3,none,.alloc 219003 [(ZI 0),.nil,(ZI 0),.nil]⟩,Zs 4 3 8,Zv 4 9])
 (.seq (.ops [
 Zu 10 4 3,Zs 4 2 10])
 .ret))) }
def mf_law20_has:MFunc :=
 { n:=105,np:=5,res:=[.t 10],body :=
 (.seq (.ops [
 Zb 10 false])
 (.seq (.ops [
 Zv 16 0,Zv 17 1,⟨some 18,none,.call ei [(.t 16),(.t 17)]⟩,Zv 15 18,Zx 19 0 15,Zx 20 1 15,⟨some 11,none,.alloc 226011 [.nil,.nil,.nil]⟩,Zs 3 11 19,Zv 12 20])
 (.seq (.seq (.ops [
 Zv 21 12,Zc 22 .neq 21 0,Zv 23 22,⟨some 24,some (23,false),.fad 0 (.t 11)⟩,⟨some 25,some (23,false),.load 1 false (.t 24)⟩,⟨some 26,some (23,false),.len (.t 25)⟩,⟨some 27,some (23,false),.mv (.t 2)⟩,⟨some 28,some (23,false),.len (.t 27)⟩,⟨some 29,some (23,false),.bin .neq (.t 26) (.t 28)⟩,Zp 30 23 29,Zv 31 30,⟨some 32,some (31,false),.fad 1 (.t 11)⟩,⟨some 33,some (31,false),.load 1 false (.t 32)⟩,⟨some 34,some (31,false),.len (.t 33)⟩,⟨some 35,some (31,false),.mv (.t 3)⟩,⟨some 36,some (31,false),.len (.t 35)⟩,⟨some 37,some (31,false),.bin .neq (.t 34) (.t 36)⟩,Zp 38 31 37,Zv 39 38,⟨some 40,some (39,false),.fad 2 (.t 11)⟩,⟨some 41,some (39,false),.load 1 false (.t 40)⟩,⟨some 42,some (39,false),.mv (.t 4)⟩,⟨some 43,some (39,false),.call gU [(.t 41),(.t 42)]⟩,⟨some 44,some (39,false),.un .not (.t 43)⟩,Zp 45 39 44])
 (.cond (.t 45)
 (.seq (.ops [
 Zb 10 false])
 .ret)
 .skip))
 (.seq (.seq (.ops [
 Zi 13 0])
 (.block 0
 (.loop
 (.seq (.seq (.ops [
 Zv 46 13,Zv 47 2,Zn 48 47,Zo 49 .lss 46 48])
 (.cond (.t 49)
 .skip
 (.exit 0)))
 (.seq (.block 1
 (.seq (.opsD [
 Zf 52 0 11,Zl 53 1 52,Zv 54 13,Za 55 4 53 54,Zu 56 4 55,Zv 57 2,Zv 58 13,Za 59 1 57 58,Zl 60 1 59,⟨some 61,none,.call lk [(.t 60)]⟩,⟨some 62,none,.call a0 [(.t 56),(.t 61)]⟩,Zc 63 .neq 62 0,Zv 64 63,⟨some 65,some (64,false),.fad 0 (.t 11)⟩,⟨some 66,some (64,false),.load 1 false (.t 65)⟩,⟨some 67,some (64,false),.mv (.t 13)⟩,⟨some 68,some (64,false),.iad 4 (.t 66) (.t 67)⟩,⟨some 69,some (64,false),.load 4 true (.t 68)⟩,⟨some 70,some (64,false),.call aW [(.t 69)]⟩,⟨some 71,some (64,false),.un .not (.t 70)⟩,Zp 72 64 71] [[],[],[],[],[],[],[],[],[],[],[],[],[],[],[],[],[],[],[],[],[]])
 (.cond (.t 72)
 (.seq (.ops [
 Zb 10 false])
 .ret)
 .skip)))
 (.ops [
 Zv 50 13,Zc 51 .add 50 1,Zv 13 51]))))))
 (.seq (.seq (.ops [
 Zi 14 0])
 (.block 2
 (.loop
 (.seq (.seq (.ops [
 Zv 73 14,Zv 74 3,Zn 75 74,Zo 76 .lss 73 75])
 (.cond (.t 76)
 .skip
 (.exit 2)))
 (.seq (.block 3
 (.seq (.opsD [
 Zf 79 1 11,Zl 80 1 79,Zv 81 14,Za 82 4 80 81,Zu 83 4 82,Zv 84 3,Zv 85 14,Za 86 1 84 85,Zl 87 1 86,⟨some 88,none,.call lk [(.t 87)]⟩,⟨some 89,none,.call a0 [(.t 83),(.t 88)]⟩,Zc 90 .neq 89 0,Zv 91 90,⟨some 92,some (91,false),.fad 1 (.t 11)⟩,⟨some 93,some (91,false),.load 1 false (.t 92)⟩,⟨some 94,some (91,false),.mv (.t 14)⟩,⟨some 95,some (91,false),.iad 4 (.t 93) (.t 94)⟩,⟨some 96,some (91,false),.load 4 true (.t 95)⟩,⟨some 97,some (91,false),.call aW [(.t 96)]⟩,⟨some 98,some (91,false),.un .not (.t 97)⟩,Zp 99 91 98] [[],[],[],[],[],[],[],[],[],[],[],[],[],[],[],[],[],[],[],[],[]])
 (.cond (.t 99)
 (.seq (.ops [
 Zb 10 false])
 .ret)
 .skip)))
 (.ops [
 Zv 77 14,Zc 78 .add 77 1,Zv 14 78]))))))
 (.seq (.ops [
 Zv 100 0,Zv 101 1,Zf 102 0 11,Zl 103 1 102,⟨some 104,none,.call eR [(.t 100),(.t 101),(.t 103)]⟩,Zv 10 104])
 .ret)))))) }

set_option maxRecDepth 10000
set_option maxHeartbeats 4000000
def clL (c:ClR):List Data:=[.int .i64 c.1,.int .i64 c.2.1,.int .i64 c.2.2.1,.int .i64 c.2.2.2]
theorem oH (c:ClR):(clL c).length=4:=rfl
theorem xm (c:ClR):((clL c).map MV.dat).all MV.one=true:=rfl
theorem f5:∀ a b:ClR,clL a=clL b→a=b:=by
 rintro⟨a1,a2,a3,a4⟩ ⟨b1,b2,b3,b4⟩ h;simp only[clL,List.cons.injEq,Data.int.injEq,true_and,and_true] at h;obtain⟨rfl,rfl,rfl,rfl⟩:=h
 rfl
theorem GA {cs:List ClR} {i:Nat} {c:ClR} (h:cs[i]?=some c) (F:ClR→Int):bq (cs.take (i+1)) F=bq (cs.take i) F+F c:=by
 rw[List.take_add_one,h,jJ];simp [bq]
def okCs (cs:List ClR):Prop:=cs.length≤2000∧∀ c∈cs,0≤c.2.2.2∧c.2.2.2≤1000000000000000
theorem okCs.sum {cs:List ClR} (h:okCs cs) (p:ClR→Prop) [DecidablePred p] (i:Nat):0≤bq (cs.take i) (fun c=>if p c then c.2.2.2 else 0)∧bq (cs.take i) (fun c=>if p c then c.2.2.2 else 0)≤2000000000000000000:=by
 have h1:=sH (cs:=cs.take i) (F:=fun c=>if p c then c.2.2.2 else 0) (B:=1000000000000000) (by omega) fun c hc=>by
  have:=h.2 c (List.mem_of_mem_take hc)
  try dsimp only
  split<;>omega
 have h2:=h.1;have h3:(cs.take i).length≤cs.length:=by rw[List.length_take];omega
 omega
theorem DP {cash:List Int} {cs:List ClR} (h:cS cash cs=true):okCs cs :=
 ⟨(rightD_iff.1 h).2.1,fun c hc=>⟨((rightD_iff.1 h).2.2.2 c hc).2.2.2.2.2.2.1,((rightD_iff.1 h).2.2.2 c hc).2.2.2.2.2.2.2⟩⟩
theorem tg {n:Int} (h:cn n):fM (aR n) (aR 1)=(aj (n:Rat),0):=by
 rw[iN (jx h) (by decide +kernel) (by decide),adT,show ((1:Int):Rat)=1 from rfl,show (n:Rat) / 1=n by grind]
noncomputable def fj:List Data→Option PRes:=FF (α:=Int) (fun (n:Int)=>([.int .i64 n]:List Data)) (fun (n:Int)=>aI (cn n) (.same (.agg (ad (aj (n:Rat))))))
theorem xH:∀ a b:Int,(fun (n:Int)=>([.int .i64 n]:List Data)) a=(fun (n:Int)=>([.int .i64 n]:List Data)) b→a=b:=by
  intro n1 n2 h;simp only[List.cons.injEq,Data.int.injEq,Data.agg.injEq,Data.sl.injEq,Data.bool.injEq,Data.str.injEq,Data.ptr.injEq,Data.tup.injEq,Prod.mk.injEq,true_and,and_true] at h ⊢
  first | exact h | simpa [adU,and_assoc] using h | grind
@[go_sem] theorem eM (n:Int) (hc:cn n):fj [.int .i64 n]=some (.same (.agg (ad (aj (n:Rat))))):=(aX xH n).trans (al hc _)
theorem Jc (T:Tab) (rY:T ir=mkE zX) (n:Int) (hc:cn n) :
  wp T mf_clear_whole.body (bF mf_clear_whole.res (.same (.agg (ad (aj (n:Rat)))))) ⟨ax [.dat (.int .i64 n)],emp⟩:=by
 refine ap ?_;simp only[mf_clear_whole];have h1:cn 1:=by unfold cn;omega
 have h:=tg hc;generalize aj (n:Rat)=F at *;obtain⟨⟨a,b⟩,⟨c,d⟩⟩:=F;simp only[go_sem,go_sem_proc,adV,rY,hc,h1,h,bw,ad]
 repeat' (first|refine qS ?_ ?_|fail)<;>intro h<;>simp only[h,go_sem,go_sem_proc,adV,rY,hc,h1,h,bw,ad]
noncomputable def n0:List Data→Option PRes:=FF (α:=Int) (fun (n:Int)=>([.int .i64 n]:List Data)) (fun (n:Int)=>aI (cn n) (.same (.agg (ad (aj (n:Rat))))))
theorem yy:∀ a b:Int,(fun (n:Int)=>([.int .i64 n]:List Data)) a=(fun (n:Int)=>([.int .i64 n]:List Data)) b→a=b:=by
  intro n1 n2 h;simp only[List.cons.injEq,Data.int.injEq,Data.agg.injEq,Data.sl.injEq,Data.bool.injEq,Data.str.injEq,Data.ptr.injEq,Data.tup.injEq,Prod.mk.injEq,true_and,and_true] at h ⊢
  first | exact h | simpa [adU,and_assoc] using h | grind
@[go_sem] theorem z8 (n:Int) (hc:cn n):n0 [.int .i64 n]=some (.same (.agg (ad (aj (n:Rat))))):=(aX yy n).trans (al hc _)
theorem JA (T:Tab) (rY:T ir=mkE zX) (n:Int) (hc:cn n) :
  wp T mf_rank_whole.body (bF mf_rank_whole.res (.same (.agg (ad (aj (n:Rat)))))) ⟨ax [.dat (.int .i64 n)],emp⟩:=by
 refine ap ?_;simp only[mf_rank_whole];have h1:cn 1:=by unfold cn;omega
 have h:=tg hc;generalize aj (n:Rat)=F at *;obtain⟨⟨a,b⟩,⟨c,d⟩⟩:=F;simp only[go_sem,go_sem_proc,adV,rY,hc,h1,h,bw,ad]
 repeat' (first|refine qS ?_ ?_|fail)<;>intro h<;>simp only[h,go_sem,go_sem_proc,adV,rY,hc,h1,h,bw,ad]
noncomputable def pW:List Data→Option PRes:=FF (α:=Int) (fun (n:Int)=>([.int .i64 n]:List Data)) (fun (n:Int)=>aI (cn n) (.same (.agg (ad (aj (n:Rat))))))
theorem wZ:∀ a b:Int,(fun (n:Int)=>([.int .i64 n]:List Data)) a=(fun (n:Int)=>([.int .i64 n]:List Data)) b→a=b:=by
  intro n1 n2 h;simp only[List.cons.injEq,Data.int.injEq,Data.agg.injEq,Data.sl.injEq,Data.bool.injEq,Data.str.injEq,Data.ptr.injEq,Data.tup.injEq,Prod.mk.injEq,true_and,and_true] at h ⊢
  first | exact h | simpa [adU,and_assoc] using h | grind
@[go_sem] theorem zb (n:Int) (hc:cn n):pW [.int .i64 n]=some (.same (.agg (ad (aj (n:Rat))))):=(aX wZ n).trans (al hc _)
theorem Iu (T:Tab) (Mx:T nE=mkE JF) (n:Int) (hc:cn n) :
  wp T mf_law20_of.body (bF mf_law20_of.res (.same (.agg (ad (aj (n:Rat)))))) ⟨ax [.dat (.int .i64 n)],emp⟩:=by
 refine ap ?_;simp only[mf_law20_of];have h1:cn 1:=by unfold cn;omega
 have h:=tg hc;generalize aj (n:Rat)=F at *;obtain⟨⟨a,b⟩,⟨c,d⟩⟩:=F;simp only[go_sem,go_sem_proc,adV,Mx,hc,h1,h,bw,ad]
 repeat' (first|refine qS ?_ ?_|fail)<;>intro h<;>simp only[h,go_sem,go_sem_proc,adV,Mx,hc,h1,h,bw,ad]
def lE (m:Int):Bool:=!(decide (m>1000000)&&decide (m≤1000000000000000))
def tG (cash:List Int) (cs:List ClR):Bool:=!(decide ((cash.length:Int)>5))&&(!(decide ((cs.length:Int)>12))&&(cash.all lE&&cs.all fun c=>lE c.2.2.2))
noncomputable def Cb:List Data→Option PRes:=FF (α:=(List Int) × (List ClR)) (fun (cash,cs)=>([.sl (cash.map aa),.sl (cs.map clL)]:List Data)) (fun (cash,cs)=>some (.same (.bool (tG cash cs))))
theorem Df:∀ a b:(List Int) × (List ClR),(fun (cash,cs)=>([.sl (cash.map aa),.sl (cs.map clL)]:List Data)) a=(fun (cash,cs)=>([.sl (cash.map aa),.sl (cs.map clL)]:List Data)) b→a=b:=by
  rintro⟨cash1,cs1⟩ ⟨cash2,cs2⟩ h;simp only[List.cons.injEq,Data.sl.injEq] at h;exact Prod.ext (af ai _ _ h.1) (af f5 _ _ h.2.1)
@[go_sem] theorem GP (cash:List Int) (cs:List ClR):Cb [.sl (cash.map aa),.sl (cs.map clL)]=some (.same (.bool (tG cash cs))):=aX Df (cash,cs)
theorem Oi (T:Tab)  (cash:List Int) (cs:List ClR) :
  wp T mf_ref20_Few.body (bF mf_ref20_Few.res (.same (.bool (tG cash cs)))) ⟨ax [.dat (.sl (cash.map aa)),.dat (.sl (cs.map clL))],emp⟩:=by
 refine ap ?_;simp only[mf_ref20_Few];unfold tG;rcases e1:decide ((cash.length:Int)>5)
 ·rcases e2:decide ((cs.length:Int)>12)
  ·have l1:cash.length≤5:=by have:=of_decide_eq_false e1;omega
   have l2:cs.length≤12:=by have:=of_decide_eq_false e2;omega
   simp only[go_sem,go_sem_proc,adV,e1,e2,adW];refine ae [0,1] [] (fun (i:Nat) tm mem=>i≤cash.length∧(cash.take i).all lE=true∧tm 5 = .dat (.int .i64 i)) (fun i=>cash.length-i) 0 (by refine⟨by omega,by simp,rfl⟩) ?_;intro vs ms hvs hms;simp only[go_sem,go_sem_proc,adV,adW] at hvs hms;subst hvs hms;rintro i tm mem hk hm ⟨hi,hf,h5⟩;simp only[go_sem,go_sem_proc,adV,List.cons.injEq] at hk;obtain⟨h0,h1⟩:=hk;rcases adX (i<cash.length) with hlt | hge
   ·obtain⟨x,hx⟩:∃ c,cash[i]?=some c:=⟨_,adY hlt⟩
    have d1:decide ((i:Int)<(cash.length:Int))=true:=decide_eq_true (by omega);have w3:IntKind.i64.wrap ((i:Int)+1)=((i+1:Nat):Int):=by rw[an _ (by omega) (by omega)];omega
    rcases c1:decide (x>1000000)
    ·have hc:lE x=true:=by unfold lE;rw[c1];rfl
     refine qI ?_
     repeat' (intro h<;>simp only[h,go_sem,go_sem_proc,adV,h0,h1,h5,hx,d1,w3,c1,aa,adW,adI]<;>try refine qS ?_ ?_)
     exact⟨i+1,by omega,by omega,by rw[nX hx,hf,hc];rfl,rfl⟩
    ·rcases c2:decide (x≤1000000000000000)
     ·have hc:lE x=true:=by unfold lE;rw[c1,c2];rfl
      refine qI ?_
      repeat' (intro h<;>simp only[h,go_sem,go_sem_proc,adV,h0,h1,h5,hx,d1,w3,c1,c2,aa,adW,adI]<;>try refine qS ?_ ?_)
      exact⟨i+1,by omega,by omega,by rw[nX hx,hf,hc];rfl,rfl⟩
     ·have hc:lE x=false:=by unfold lE;rw[c1,c2];rfl
      rw[yd hx hc];refine qI ?_
      repeat' (intro h<;>simp only[h,go_sem,go_sem_proc,adV,h0,h1,h5,hx,d1,w3,c1,c2,aa,adW,adI,adO,adL,adZ]<;>try refine qS ?_ ?_)
   ·have d1:decide ((i:Int)<(cash.length:Int))=false:=decide_eq_false (by omega)
    have hca:cash.all lE=true:=by rw[ad0 (by omega)] at hf;exact hf
    rw[hca];simp only[go_sem,go_sem_proc,adV,h0,h1,h5,d1,adW];refine ae [1] [] (fun (i:Nat) tm mem=>i≤cs.length∧(cs.take i).all (fun c=>lE c.2.2.2)=true∧tm 6 = .dat (.int .i64 i)) (fun i=>cs.length-i) 0 (by refine⟨by omega,by simp,rfl⟩) ?_;intro vs ms hvs hms;simp only[go_sem,go_sem_proc,adV,adW,h1] at hvs hms;subst hvs hms;clear h0 h1 h5 hm;rintro i tm mem hk hm ⟨hi,hf,h6⟩;simp only[go_sem,go_sem_proc,adV,List.cons.injEq] at hk;have h1:=hk;rcases adX (i<cs.length) with hlt | hge
    ·obtain⟨⟨a,b,k,x⟩,hx⟩:∃ c,cs[i]?=some c:=⟨_,adY hlt⟩
     have d1:decide ((i:Int)<(cs.length:Int))=true:=decide_eq_true (by omega);have w3:IntKind.i64.wrap ((i:Int)+1)=((i+1:Nat):Int):=by rw[an _ (by omega) (by omega)];omega
     rcases c1:decide (x>1000000)
     ·have hc:lE x=true:=by unfold lE;rw[c1];rfl
      refine qI ?_
      repeat' (intro h<;>simp only[h,go_sem,go_sem_proc,adV,h1,h6,hx,d1,w3,c1,clL,adW,adI]<;>try refine qS ?_ ?_)
      exact⟨i+1,by omega,by omega,by rw[nX hx,hf];exact hc,rfl⟩
     ·rcases c2:decide (x≤1000000000000000)
      ·have hc:lE x=true:=by unfold lE;rw[c1,c2];rfl
       refine qI ?_
       repeat' (intro h<;>simp only[h,go_sem,go_sem_proc,adV,h1,h6,hx,d1,w3,c1,c2,clL,adW,adI]<;>try refine qS ?_ ?_)
       exact⟨i+1,by omega,by omega,by rw[nX hx,hf];exact hc,rfl⟩
      ·have hc:lE x=false:=by unfold lE;rw[c1,c2];rfl
       rw[yd (p:=fun c:ClR=>lE c.2.2.2) hx hc];refine qI ?_
       repeat' (intro h<;>simp only[h,go_sem,go_sem_proc,adV,h1,h6,hx,d1,w3,c1,c2,clL,adW,adI,adO,adL]<;>try refine qS ?_ ?_)
    ·have d1:decide ((i:Int)<(cs.length:Int))=false:=decide_eq_false (by omega)
     have hca:cs.all (fun c=>lE c.2.2.2)=true:=by rw[ad0 (by omega)] at hf;exact hf
     rw[hca];refine qI ?_
     repeat' (intro h<;>simp only[h,go_sem,go_sem_proc,adV,h1,h6,d1,adW,adO,adL]<;>try refine qS ?_ ?_)
  ·refine qI ?_
   repeat' (intro h<;>simp only[h,go_sem,go_sem_proc,adV,e1,e2,adW,ad1,adZ,Bool.and_false]<;>try refine qS ?_ ?_)
 ·refine qI ?_
  repeat' (intro h<;>simp only[h,go_sem,go_sem_proc,adV,e1,adW,ad1,adZ]<;>try refine qS ?_ ?_)
theorem Dl {x:List Data} (h:Fits [.int .i64,.int .i64,.int .i64,.int .i64] x):∃ c:ClR,x=clL c:=by
 simp only[Fit,Fits] at h;obtain⟨_,_,rfl,⟨a,rfl,-⟩,_,_,rfl,⟨b,rfl,-⟩,_,_,rfl,⟨c,rfl,-⟩,_,_,rfl,⟨d,rfl,-⟩,rfl⟩:=h;exact⟨(a,b,c,d),rfl⟩
theorem Cj {es:List (List Data)} (h:∀ x∈es,Fit (.st [.int .i64,.int .i64,.int .i64,.int .i64]) x):∃ l:List ClR,es=l.map clL:=by
 obtain⟨l,e,-⟩:=pX (e:=clL) (good:=fun _=>True) fun x hx=>by
  have:=h x hx;unfold Fit at this;obtain⟨c,rfl⟩:=Dl this;exact⟨c,rfl,trivial⟩
 exact⟨l,e⟩
end Go.Mini
namespace Go.Mini
open Classical
structure Alike (d e:Day):Prop where
 n:d.n=e.n
 cash:d.cash=e.cash
 mem:∀ c,c∈d.cl↔c∈e.cl
 sum:∀ F,sumC d.cl F=sumC e.cl F
theorem Alike.symm {d e:Day} (h:Alike d e):Alike e d:=⟨h.n.symm,h.cash.symm,fun c=>(h.mem c).symm,fun F=>(h.sum F).symm⟩
section
variable {d e:Day} (h:Alike d e)
include h
theorem Alike.U:d.U=e.U:=by funext k r;exact h.sum _
theorem Alike.S:d.S=e.S:=by funext k r;exact h.sum _
theorem Alike.w:d.w=e.w:=by funext c;unfold Day.w;rw[h.S]
theorem Alike.q:d.q=e.q:=by funext f x c;unfold Day.q;rw[h.U,h.w]
theorem Alike.l:d.l=e.l:=by funext f P x c;unfold Day.l;rw[h.U,h.w]
theorem Alike.pay:d.pay=e.pay:=by funext x c;unfold Day.pay;rw[h.U,h.w]
theorem Alike.into:d.into=e.into:=by funext a i;unfold Day.into;rw[h.cash,h.sum]
theorem Alike.phi:d.phi=e.phi:=by funext x i;unfold Day.phi;rw[h.into,h.pay]
theorem Alike.sumIn:d.sumIn=e.sumIn:=by funext C x;unfold Day.sumIn;rw[h.n]
theorem Alike.cap:d.cap=e.cap:=by funext f g C k;unfold Day.cap;rw[h.U]
theorem Alike.closed (f:Nat→Nat) (C:Nat→Prop):d.closed f C↔e.closed f C:=by
 unfold Day.closed;exact⟨fun k c hc=>k c ((h.mem c).2 hc),fun k c hc=>k c ((h.mem c).1 hc)⟩
theorem Alike.inv {f:Nat→Nat} {g:Nat→Rat} (a:Inv d f g):Inv e f g:=by
 obtain⟨h1,h2,h3,h4,h5⟩:=a;refine⟨h1,fun i hi=>?_,fun i hi hf=>?_,fun i hi hf=>?_,fun C hC hC2 hC3=>?_⟩
 ·have:=h2 i (by rw[h.n];exact hi)
  rwa [h.into,h.q] at this
 ·have:=h3 i (by rw[h.n];exact hi) hf
  rwa [h.U] at this
 ·have:=h4 i (by rw[h.n];exact hi) hf
  rwa [h.U] at this
 ·have:=h5 C hC (fun i hi=>by rw[h.n];exact hC2 i hi) ((h.closed f C).2 hC3)
  rwa [h.sumIn,h.into,h.q,h.cap,h.U] at this
theorem Alike.ok (a:d.OK):e.OK:=⟨fun c hc=>by rw[←h.n];exact a.fr c ((h.mem c).2 hc),fun c hc=>by rw[←h.n];exact a.to c ((h.mem c).2 hc),fun c hc=>a.rk c ((h.mem c).2 hc),fun c hc=>a.am c ((h.mem c).2 hc),fun i hi=>by rw[←h.cash];exact a.cash i (by rw[h.n];exact hi)⟩
theorem Alike.isTop {f:Nat→Nat} {x:Nat→Rat} (a:IsTop d f x):IsTop e f x:=by
 obtain⟨g,h1,h2,h3⟩:=a;refine⟨g,h.inv h1,fun i hi=>?_,fun i hi=>h3 i (by rw[h.n];exact hi)⟩
 have:=h2 i (by rw[h.n];exact hi)
 rwa [h.into,h.q] at this
theorem Alike.isTop_iff:IsTop d=IsTop e:=by
 funext f x
 exact propext ⟨h.isTop,h.symm.isTop⟩
theorem Alike.top:d.top=e.top:=by
 funext f
 unfold Day.top;rw[h.isTop_iff]
theorem Alike.falls:d.falls=e.falls:=by
 funext f
 unfold Day.falls;rw[h.top,h.U,h.n]
theorem Alike.fallRank:d.fallRank=e.fallRank:=by
 funext x i k
 induction k with
 | zero=>rfl
 | succ k ih=>unfold Day.fallRank;rw[h.U,ih]
theorem Alike.fallen:d.fallen=e.fallen:=by
 funext f x i
 unfold Day.fallen;rw[h.n,h.U,h.fallRank]
theorem Alike.rounds:d.rounds=e.rounds:=by
 funext k
 induction k with
 | zero=>funext f;rfl
 | succ k ih =>
  funext f
  unfold Day.rounds;rw[h.falls,h.fallen,h.top,ih]
end
def aV (cs:List ClR) (i k:Nat):List ClR:=cs.filter fun c=>c.1==(i:Int)&&c.2.2.1==(k:Int)
theorem cell_mem {cs:List ClR} {i k:Nat} {c:ClR}:c∈aV cs i k↔c∈cs∧c.1=(i:Int)∧c.2.2.1=(k:Int):=by
 unfold aV;rw[ad2,adM,beq_iff_eq,beq_iff_eq]
def aG (n:Nat) (cs:List ClR):List ClR:=(adH n).flatMap fun i=>(adH 10).flatMap fun k=>aV cs i k
theorem FO (cs:List ClR) (i k j r:Nat):aV (aV cs i k) j r=if i=j∧k=r then aV cs i k else []:=by
 unfold aV;rw[List.filter_filter]
 by_cases h:i=j∧k=r
 ·obtain⟨rfl,rfl⟩:=h
  rw[if_pos ⟨rfl,rfl⟩]
  congr 1
  funext c
  simp
 ·rw[if_neg h,List.filter_eq_nil_iff]
  intro c _;simp only[adM,beq_iff_eq];rintro⟨⟨h1,h2⟩,h3,h4⟩;exact h ⟨by omega,by omega⟩
theorem Bi {α:Type} {n i:Nat} (hi:i<n) (F:Nat→List α) (h:∀ k,k<n→k≠i→F k=[]):(adH n).flatMap F=F i:=by
 induction n with
 | zero=>omega
 | succ n ih =>
  rw[ad3,ad4,ad5,ad6,ad7]
  by_cases hn:i=n
  ·subst hn
   have:(adH i).flatMap F=[]:=by
    rw[ad8];intro k hk;have:=List.mem_range.1 hk;exact h k (by omega) (by omega)
   rw[this,ad9]
  ·rw[ih (by omega) fun k hk=>h k (by omega),h n (by omega) (Ne.symm hn),ad7]
theorem wv {α:Type} (l:List α) (F:α→List ClR) (i k:Nat):aV (l.flatMap F) i k=l.flatMap fun x=>aV (F x) i k:=by
 unfold aV
 induction l with
 | nil=>rfl
 | cons a l ih=>rw[ad5,ad5,aea,ih]
theorem uN {n i k:Nat} (cs:List ClR) (hi:i<n) (hk:k<10):aV (aG n cs) i k=aV cs i k:=by
 unfold aG;rw[wv];simp only[wv,FO];rw[Bi hi,Bi hk]
 ·rw[if_pos ⟨rfl,rfl⟩]
 ·intro r _ hr
  rw[if_neg fun h=>hr h.2]
 ·intro j _ hj
  rw[ad8];intro r _;rw[if_neg fun h=>hj h.1]
theorem qh {n:Nat} {a b:List ClR} (h:∀ i,i<n→∀ k,k<10→aV a i k=aV b i k):aG n a=aG n b:=by
 unfold aG;rw[aeb,aeb]
 congr 1
 refine aec fun i hi=>?_
 rw[aeb,aeb]
 congr 1
 exact aec fun k hk=>h i (List.mem_range.1 hi) k (List.mem_range.1 hk)
theorem yJ (n:Nat) (cs:List ClR):aG n (aG n cs)=aG n cs:=qh fun _ hi _ hk=>uN cs hi hk
theorem pe {n:Nat} {cs:List ClR} (hr:∀ c∈cs,0≤c.1∧c.1<n∧0≤c.2.2.1∧c.2.2.1<10) {c:ClR}:c∈aG n cs↔c∈cs:=by
 unfold aG;simp only[List.mem_flatMap,List.mem_range,cell_mem]
 constructor
 ·rintro⟨i,-,k,-,h,-⟩
  exact h
 ·intro hc
  have:=hr c hc;exact⟨c.1.toNat,by omega,c.2.2.1.toNat,by omega,hc,by omega,by omega⟩
theorem nn (a b:List Cl) (F:Cl→Rat):sumC (a++b) F=sumC a F+sumC b F:=by
 induction a with
 | nil=>simp only[ad9,sumC];grind
 | cons c l ih=>rw[List.cons_append,sumC,sumC,ih];grind
theorem u7 (F:Nat→List ClR) (G:Cl→Rat) (n:Nat):sumC (((adH n).flatMap F).map bE) G=sumQ n fun i=>sumC ((F i).map bE) G:=by
 induction n with
 | zero=>rfl
 | succ n ih=>rw[ad3,ad4,aed,nn,ih,sumQ,ad5,ad6,ad7]
theorem Gi {l:List Cl} (hl:∀ c∈l,c.rk<10) (b:Nat→Cl→Rat):sumQ 10 (fun k=>sumC l (fun c=>if c.rk=k then b k c else 0))=sumC l (fun c=>b c.rk c):=by
 induction l with
 | nil=>exact gE fun k _=>rfl
 | cons c l ih =>
  rw[sumC,←ih fun x hx=>hl x (adu _ hx)]
  have e:(fun k:Nat=>sumC (c::l) (fun c=>if c.rk=k then b k c else 0))=fun k=>(if c.rk=k then b k c else 0)+sumC l (fun c=>if c.rk=k then b k c else 0):=rfl
  rw[e,kI]
  congr 1
  rw[iW (hl c adt) fun k _ hk=>if_neg (Ne.symm hk),if_pos rfl]
theorem uS {cs:List ClR} (hr:∀ c∈cs,0≤c.1∧0≤c.2.2.1) (i k:Nat) (G:Cl→Rat):sumC ((aV cs i k).map bE) G=sumC (cs.map bE) fun c=>if c.fr=i∧c.rk=k then G c else 0:=by
 induction cs with
 | nil=>rfl
 | cons c l ih =>
  have h0:=hr c adt;have ih:=ih fun x hx=>hr x (adu _ hx)
  unfold aV at ih ⊢;rw[aee,sumC,←ih]
  by_cases h:(bE c).fr=i∧(bE c).rk=k
  ·obtain⟨h1,h2⟩:=h
   have e1:c.1=(i:Int):=by have:c.1.toNat=i:=h1;omega
   have e2:c.2.2.1=(k:Int):=by have:c.2.2.1.toNat=k:=h2;omega
   rw[aef (by simp [e1,e2]),aee,sumC,if_pos ⟨h1,h2⟩]
  ·rw[if_neg h,aeg,Rat.zero_add]
   intro hb;rw[adM,beq_iff_eq,beq_iff_eq] at hb;refine h ⟨?_,?_⟩
   ·show c.1.toNat=i;omega
   ·show c.2.2.1.toNat=k;omega
theorem ut {n:Nat} {cs:List ClR} (hr:∀ c∈cs,0≤c.1∧c.1<n∧0≤c.2.2.1∧c.2.2.1<10) (G:Cl→Rat):sumC ((aG n cs).map bE) G=sumC (cs.map bE) G:=by
 unfold aG;rw[u7]
 have hfr:∀ c∈cs.map bE,c.fr<n:=fun c hc=>by
  obtain⟨x,hx,rfl⟩:=List.mem_map.1 hc;have:=hr x hx
  show x.1.toNat<n;omega
 have hrk:∀ c∈cs.map bE,c.rk<10:=fun c hc=>by
  obtain⟨x,hx,rfl⟩:=List.mem_map.1 hc;have:=hr x hx
  show x.2.2.1.toNat<10;omega
 have e:(fun i=>sumC (((adH 10).flatMap fun k=>aV cs i k).map bE) G)=fun i=>sumC (cs.map bE) fun c=>if c.fr=i then G c else 0:=by
  funext i
  rw[u7,←Gi hrk fun _ c=>if c.fr=i then G c else 0]
  congr 1
  funext k
  rw[uS fun c hc=>⟨(hr c hc).1,(hr c hc).2.2.1⟩]
  refine dV fun c _=>?_
  by_cases h1:c.rk=k
  ·rw[if_pos h1]
   by_cases h2:c.fr=i
   ·rw[if_pos ⟨h2,h1⟩,if_pos h2]
   ·rw[if_neg fun h=>h2 h.1,if_neg h2]
  ·rw[if_neg h1,if_neg fun h=>h1 h.2]
 rw[e,CY hfr fun _ c=>G c]
theorem qj {cash:List Int} {cs:List ClR} (h:cS cash cs=true):Alike (ac cash cs) (ac cash (aG cash.length cs)):=by
 have hr:∀ c∈cs,0≤c.1∧c.1<cash.length∧0≤c.2.2.1∧c.2.2.1<10:=fun c hc=>by
  have:=(rightD_iff.1 h).2.2.2 c hc;exact⟨this.1,this.2.1,this.2.2.2.2.1,this.2.2.2.2.2.1⟩
 refine⟨rfl,rfl,fun c=>?_,fun F=>(ut hr F).symm⟩
 show c∈cs.map bE↔c∈(aG cash.length cs).map bE;rw[aeh,aeh];simp only[pe hr]
theorem ve {n:Nat} {cs:List ClR} (hr:∀ c∈cs,0≤c.1∧c.1<n∧0≤c.2.2.1∧c.2.2.1<10):(aG n cs).length=cs.length:=by
 have h1:∀ l:List ClR,sumC (l.map bE) (fun _=>1)=(l.length:Rat):=fun l=>by
  induction l with
  | nil=>rfl
  | cons a l ih=>rw[aee,sumC,ih,aei,Rat.natCast_add,Rat.add_comm];rfl
 have:=ut hr fun _=>1
 rw[h1,h1] at this
 exact_mod_cast this
theorem mT {cash:List Int} {cs:List ClR} (h:SmallD cash cs):SmallD cash (aG cash.length cs):=by
 have hri:=rightD_iff.1 h.right
 have hr:∀ c∈cs,0≤c.1∧c.1<cash.length∧0≤c.2.2.1∧c.2.2.1<10:=fun c hc=>by
  have:=hri.2.2.2 c hc;exact⟨this.1,this.2.1,this.2.2.2.2.1,this.2.2.2.2.2.1⟩
 refine⟨rightD_iff.2 ⟨hri.1,by rw[ve hr];exact hri.2.1,hri.2.2.1,fun c hc=>hri.2.2.2 c ((pe hr).1 hc)⟩,h.n5,by rw[ve hr];exact h.c12,fun c hc=>h.am c ((pe hr).1 hc)⟩
end Go.Mini
namespace Go.Mini
open Classical
noncomputable def Day.fend (d:Day):Nat→Nat:=(d.rounds (10*d.n) fun _=>10).2
noncomputable def Day.frs (d:Day):List (List Nat):=(d.rounds (10*d.n) fun _=>10).1
noncomputable def Day.gr (d:Day):Nat→Rat:=d.top d.fend
theorem s9 (n k:Nat):kq n (fun _=>k)=k*n:=by
 induction n with
 | zero=>rfl
 | succ n ih=>rw[kq,ih,Nat.mul_succ]
section
variable {d:Day} (hd:d.OK)
include hd
theorem Day.OK.hex:∀ f,Reach d f→∃ h,IsTop d f h:=fun _ hr=>OH hd hr
theorem ja:Reach d d.fend∧d.falls d.fend=[]:=uD hd hd.hex (10*d.n) (fun _=>10) (Reach.start hd) (by rw[s9];exact adD _)
theorem qR:IsTop d d.fend d.gr:=Day.top_spec (hd.hex _ (ja hd).1)
theorem M5:∀ i,i<d.n→d.U i (d.fend i)≤d.gr i:=by
 intro i hi;apply aej;intro hn;have:i∈d.falls d.fend:=Day.mem_falls.2 ⟨hi,by unfold Day.gr at hn;grind⟩
 rw[(ja hd).2] at this
 cases this
theorem ta:(∀ i,i<d.n→d.gr i=d.phi d.gr i)∧∀ i,i<d.n→(d.fend i<10↔d.gr i<d.U i 10):=by
 obtain⟨g,h1,h2,h3⟩:=qR hd;exact h1.final hd h2 h3 (M5 hd)
theorem Im {z:Nat→Rat} (hz:∀ i,i<d.n→z i≤d.phi z i):∀ i,i<d.n→z i≤d.gr i:=vV hd hd.hex (ja hd).1 hz
theorem wH {i:Nat} (hi:i<d.n):0≤d.gr i:=(qR hd).nonneg hd hi
end
theorem S_nonneg {d:Day} (hd:d.OK) (i k:Nat):0≤d.S i k:=dT fun c hc=>by
 try dsimp only
 split
 ·exact hd.am c hc
 ·exact adP
end Go.Mini
namespace Go.Mini
open Classical
section
variable {d:Day} (hd:d.OK)
include hd
end
end Go.Mini
namespace Go.Mini
open Classical
section
variable {d:Day} (hd:d.OK) {k:Rat} (hk:0<k)
include hk
end
section
variable {d:Day} (hd:d.OK) (who:Nat)
include hd
end
end Go.Mini
namespace Go.Mini
open Classical
theorem Ej {d:Day} (hd:d.OK) {f:Nat→Nat} {g:Nat→Rat} (hi:Inv d f g):∀ m (P:Nat→Prop),idle d P≤m→Pay d f g P (d.lst f P)→∃ P,PayG d f P∧∀ i,i<d.n→d.lst f P i=d.top f i
 | m,P,hm,hp=>by
  by_cases hs:∀ i,i<d.n→f i<10→d.U i (f i)<d.lst f P i→P i
  ·exact⟨P,⟨hd,g,hi,hp⟩,hp.is_top hd hi hs⟩
  ·have⟨i,h1,h2,h3,h4⟩:∃ i,i<d.n∧f i<10∧d.U i (f i)<d.lst f P i∧¬ P i:=by
    apply aej;intro hn;exact hs fun i h1 h2 h3=>aej fun h4=>hn ⟨i,h1,h2,h3,h4⟩
   have hlt:=EN (h:=d.lst f P) h1 h2 h3 h4
   cases m with
   | zero=>omega
   | succ m=>exact Ej hd hi m _ (by omega) (hp.succ hd hi)
theorem px {d:Day} (hd:d.OK) {f:Nat→Nat} (hr:Reach d f):∃ P,PayG d f P∧∀ i,i<d.n→d.lst f P i=d.top f i:=by
 obtain⟨g,hi,-⟩:=hr;exact Ej hd hi _ _ (adD _) (Pay.first hd hi)
section
variable {cash:List Int} {cs:List ClR} (hs:SmallD cash cs)
include hs
theorem Hj {f:Nat→Nat} (hr:Reach (ac cash cs) f) {i:Nat} (hi:i<cash.length):szR 453 ((ac cash cs).top f i):=by
 obtain⟨P,hp,he⟩:=px hs.ok hr;rw[←he i hi];exact HO hs hp hi
theorem AF {i:Nat} (hi:i<cash.length):szR 453 ((ac cash cs).gr i):=Hj hs (ja hs.ok).1 hi
theorem Q3 {i:Nat} (hi:i<cash.length):(ac cash cs).gr i≤((2^51:Nat):Rat):=by
 obtain⟨P,hp,he⟩:=px hs.ok (ja hs.ok).1;have:=(ot hs hp hi).2;rw[he i hi] at this;exact this
theorem HB:∃ M:Nat,0<M∧(∃ a,a≤402∧M≤2^a)∧∀ i,i<cash.length→DenBy M ((ac cash cs).gr i):=by
 obtain⟨P,hp,he⟩:=px hs.ok (ja hs.ok).1;obtain⟨M,h1,h2,h3⟩:=Ez hs hp;refine⟨M,h1,h2,fun i hi=>?_⟩
 have:=h3 i hi;rw[he i hi] at this;exact this
end
section
variable {d:Day} (hd:d.OK)
include hd
end
noncomputable def ss (cash:List Int) (cs:List ClR) (k:Nat):Nat:=if (ac cash cs).fend k<10 then SN cs k ((ac cash cs).fend k) else 1
section
variable {cash:List Int} {cs:List ClR} (hs:SmallD cash cs)
include hs
theorem A7 {k:Nat} (hk:k<cash.length):0<ss cash cs k:=by
 unfold ss
 split
 ·rename_i h
  obtain⟨g,h1,-⟩:=qR hs.ok;have h2:=h1.S_pos (i:=k) hk h;rw[←mN hs.right] at h2
  exact_mod_cast h2
 ·omega
theorem D7 (k:Nat):ss cash cs k≤2^29:=by
 unfold ss
 split
 ·exact hs.SN_le _ _
 ·exact adF
theorem DM {M:Nat} (hM:∀ i,i<cash.length→DenBy M ((ac cash cs).gr i)) {c:ClR} (hc:c∈cs):DenBy (M*ss cash cs (bE c).fr) ((ac cash cs).pay (ac cash cs).gr (bE c)):=by
 have hd:=hs.ok;have hcm:bE c∈(ac cash cs).cl:=aek hc;have hk:(bE c).fr<cash.length:=hd.fr _ hcm;have ham:∀ N,DenBy N (bE c).am:=fun N=>DenBy.int N c.2.2.2
 have hz:∀ N,DenBy N (0:Rat):=DenBy.zero;have hU:=fun r s=>@Day.OK.U_mono _ hd (bE c).fr r s
 have hrk:=hd.rk _ hcm;have hno:=M5 hd _ hk;unfold Day.pay
 by_cases h1:(ac cash cs).U (bE c).fr ((bE c).rk+1)≤(ac cash cs).gr (bE c).fr
 ·rw[if_pos h1];exact ham _
 ·rw[if_neg h1]
  have hf:(ac cash cs).fend (bE c).fr<10:=by
   refine ((ta hd).2 _ hk).2 ?_;have:=hU ((bE c).rk+1) 10 (by omega);grind
  have hlt:(ac cash cs).gr (bE c).fr<(ac cash cs).U (bE c).fr ((ac cash cs).fend (bE c).fr+1):=by
   obtain⟨g,k1,-,k3⟩:=qR hd;have:=k1.hi _ hk hf;have:=k3 _ hk;grind
  rcases Nat.lt_trichotomy (bE c).rk ((ac cash cs).fend (bE c).fr) with h2 | h2 | h2
  ·have:=hU ((bE c).rk+1) ((ac cash cs).fend (bE c).fr) (by omega)
   exact absurd (adQ this hno) h1
  ·have hw:DenBy (ss cash cs (bE c).fr) ((ac cash cs).w (bE c)):=by
    unfold ss;rw[if_pos hf];refine⟨c.2.2.2,?_⟩;rw[mN hs.right,←h2]
    have:0<(ac cash cs).S (bE c).fr (bE c).rk:=by
     have:=(ac cash cs).U_succ (bE c).fr ((ac cash cs).fend (bE c).fr);rw[h2];grind
    exact Day.w_S this
   have hgr:DenBy M ((ac cash cs).gr (bE c).fr-(ac cash cs).U (bE c).fr (bE c).rk):=by
    refine (hM _ hk).sub ?_;rw[←dU hs.right];exact DenBy.int _ _
   rw[lA (by rw[h2];grind),adn];exact hw.mul hgr
  ·have:=hU ((ac cash cs).fend (bE c).fr+1) (bE c).rk (by omega)
   rw[ie (by grind),adB];exact hz _
theorem LG {c:ClR} (hc:c∈cs):szR 482 ((ac cash cs).pay (ac cash cs).gr (bE c)):=by
 obtain⟨M,h1,⟨a,h2,h3⟩,h4⟩:=HB hs;have hcm:bE c∈(ac cash cs).cl:=aek hc;have hk:(bE c).fr<cash.length:=hs.ok.fr _ hcm;have h5:=DM hs h4 hc;have h6:=A7 hs hk;have h7:=D7 hs (bE c).fr;have h8:M*ss cash cs (bE c).fr≤2^(a+29):=by rw[adl];exact adm h3 h7
 have h9:=hs.ok.pay_nonneg (ac cash cs).gr hcm
 have h10:(ac cash cs).pay (ac cash cs).gr (bE c)≤((2^25:Nat):Rat):=by
  refine adQ (hs.ok.pay_le _ hcm) ?_;have:=hs.am c hc
  show ((c.2.2.2:Int):Rat)≤_;have:c.2.2.2≤((2^25:Nat):Int):=by omega
  rw[←ads];exact Rat.intCast_le_intCast.2 this
 exact (h5.sz (adj h1 h6) h8 h9 h10).mono (by omega)
end
end Go.Mini
namespace Go.Mini
open Go
set_option maxRecDepth 10000
set_option maxHeartbeats 4000000
theorem rightC_iff {n:Int} {c:ClR}:eX n c=true↔0≤c.1∧c.1<n ∧ -1≤c.2.1∧c.2.1<n∧0≤c.2.2.1∧c.2.2.1<10∧0≤c.2.2.2∧c.2.2.2≤1000000000000000:=by
 unfold eX;simp only[adM,decide_eq_true_eq,and_assoc]
def dJ (x:Int):Bool:=decide (0≤x)&&decide (x≤1000000000000000)
theorem rightM_iff {x:Int}:dJ x=true↔0≤x∧x≤1000000000000000:=by
 unfold dJ;simp only[adM,decide_eq_true_eq]
theorem DB (cash:List Int) (cs:List ClR):cS cash cs=(decide (cash.length≤60)&&decide (cs.length≤2000)&&cash.all dJ&&cs.all (eX cash.length)):=rfl

theorem En {x y:Rat} (hx:cg x) (hy:cg y) (h:gP x y=true):mZ [.agg (ad (aj x)),.agg (ad (aj y))]=some (.same (.tup [.agg (ad (aj (x+y))),.int .i64 0])):=by
 have h1:=et hx;have h2:=et hy;have:=we (aj x).1.1 (aj x).1.2 (aj x).2.1 (aj x).2.2 (aj y).1.1 (aj y).1.2 (aj y).2.1 (aj y).2.2 ⟨h1.1,h1.2,h2.1,h2.2⟩;have e:sq (aj x) (aj y)=(aj (x+y),0):=by rw[uU hx hy,h];rfl
 exact this.trans (by show some (PRes.same (bw (sq (aj x) (aj y))))=_;rw[e];rfl)
theorem yh {x y:Rat} (hx:cg x) (hy:cg y) (h:gP x (-y)=true):mG [.agg (ad (aj x)),.agg (ad (aj y))]=some (.same (.tup [.agg (ad (aj (x-y))),.int .i64 0])):=by
 have h1:=et hx;have h2:=et hy;have:=GD (aj x).1.1 (aj x).1.2 (aj x).2.1 (aj x).2.2 (aj y).1.1 (aj y).1.2 (aj y).2.1 (aj y).2.2 ⟨h1.1,h1.2,h2.1,h2.2⟩;have e:nm (aj x) (aj y)=(aj (x-y),0):=by rw[qw hx hy,h];rfl
 exact this.trans (by show some (PRes.same (bw (nm (aj x) (aj y))))=_;rw[e];rfl)
theorem EO {x y:Rat} (hx:cg x) (hy:cg y) (h:pL x y=true):ll [.agg (ad (aj x)),.agg (ad (aj y))]=some (.same (.tup [.agg (ad (aj (x*y))),.int .i64 0])):=by
 have h1:=et hx;have h2:=et hy;have:=Gm (aj x).1.1 (aj x).1.2 (aj x).2.1 (aj x).2.2 (aj y).1.1 (aj y).1.2 (aj y).2.1 (aj y).2.2 ⟨h1.1,h1.2,h2.1,h2.2⟩;have e:lZ (aj x) (aj y)=(aj (x*y),0):=by rw[ul hx hy,h];rfl
 exact this.trans (by show some (PRes.same (bw (lZ (aj x) (aj y))))=_;rw[e];rfl)
theorem La {x y:Rat} (hx:cg x) (hy:cg y) (h0:y≠0) (h:nG x y=true):o6 [.agg (ad (aj x)),.agg (ad (aj y))]=some (.same (.tup [.agg (ad (aj (x / y))),.int .i64 0])):=by
 have h1:=et hx;have h2:=et hy;have:=Fq (aj x).1.1 (aj x).1.2 (aj x).2.1 (aj x).2.2 (aj y).1.1 (aj y).1.2 (aj y).2.1 (aj y).2.2 ⟨h1.1,h1.2,h2.1,h2.2⟩;have e:iY (aj x) (aj y)=(aj (x / y),0):=by rw[pY hx hy h0,h];rfl
 exact this.trans (by show some (PRes.same (bw (iY (aj x) (aj y))))=_;rw[e];rfl)
theorem iB {x y:Rat} (hx:cg x) (hy:cg y):dr [.agg (ad (aj x)),.agg (ad (aj y))]=some (.same (.int .i64 (kU x y))):=by
 have h1:=et hx;have h2:=et hy;have:=oY (aj x).1.1 (aj x).1.2 (aj x).2.1 (aj x).2.2 (aj y).1.1 (aj y).1.2 (aj y).2.1 (aj y).2.2 ⟨h1.1,h1.2,h2.1,h2.2⟩;exact this.trans (by show some (PRes.same (.int .i64 (kg (aj x) (aj y))))=_;rw[nV hx hy])
theorem tR {x y:Rat}:decide (kU x y>0)=decide (y<x):=by
 have h1:kU x y>0↔y<x:=by
  unfold kU;rw[gt_iff_lt,Int.sign_pos_iff,ael];omega
 rw[decide_eq_decide];exact h1
theorem tN {x y:Rat}:decide (kU x y<0)=decide (x<y):=by
 have h1:kU x y<0↔x<y:=by
  unfold kU;rw[aem,ael];omega
 rw[decide_eq_decide];exact h1
theorem rV {x y:Rat}:decide (kU x y≥0)=decide (y≤x):=by
 have h1:kU x y≥0↔y≤x:=by
  unfold kU;rw[ge_iff_le,Int.sign_nonneg_iff,Rat.le_iff];omega
 rw[decide_eq_decide];exact h1
end Go.Mini
namespace Go.Mini
open Go
variable {P:Program} {A:Nat→Prop} {w w':World} {B B':Lay} {mem mem':Mem}
def mkN (N:List MV→Mem→Option Data) (args:List MV) (mem:Mem):Option Eff:=(N args mem).map fun d => .rel (isR (.dat d) mem)
@[go_sem] theorem Sp (N:List MV→Mem→Option Data) (args:List MV) (mem:Mem):mkN N args mem=(N args mem).map fun d => .rel (isR (.dat d) mem):=_root_.id rfl
theorem pa {T : Tab} {kb : Nat} {own : List Nat} (hT : jR P T) (hm : P.follows .mixedOrders = true) {f : FuncId} {fn : Func} {mf : MFunc} (hf : P.funcs[f]? = some fn) (hname : (fn.name == "runtime.NumGoroutine") = false) (htr : jL P kb own fn = some { mf with body := erase mf.body })
  (J:Key→Prop) {N:List MV→Mem→Option Data}
  (h:∀ args mem d,N args mem=some d→args.length≤mf.n∧(∀ j,J j→mem j=none) ∧
   wp T mf.body (qT mf.res fun m mem'=>toD 6 emp m=some d∧∀ j,¬ J j→mem' j=mem j) ⟨ax args,mem⟩):iD P f (mkN N):=by
 refine⟨xI hf hname htr,fun args mem eff hE A w B vs hmr hv=>?_⟩
 unfold mkN at hE;rw[Option.map_eq_some_iff] at hE;obtain⟨d,hU,rfl⟩:=hE;obtain⟨hlen,hJ,hwp⟩:=h args mem d hU;refine Calls.mono (ky (Post:=fun m mem'=>toD 6 emp m=some d∧∀ j,¬ J j→mem' j=mem j) hT hm hf htr hlen (fun e st hk=>rN hk) hwp hmr hv) fun e w' he=>?_
 obtain⟨v,m,mem',B',rfl,hs,hv',hd,hmem⟩:=he;exact⟨v,.dat d,mem,lT J B',rfl,hs.drop hmr hJ hJ (fun j hj=>(hmem j hj).symm) (fun k g cs hk m hm => .inr ⟨k,g,cs,hk,hm⟩),.dat ((rB 6 m v d hd hv').less fun b hb=>hb.imp ki id),rfl,rfl⟩
open Classical in
noncomputable def NN {α:Type} (M:α→List MV→Mem→Prop) (res:α→Data):List MV→Mem→Option Data:=fun args mem=>if h:∃ a,M a args mem then some (res (Classical.choose h)) else none
theorem Ic {α:Type} {M:α→List MV→Mem→Prop} {res:α→Data} (uniq:∀ a b args mem,M a args mem→M b args mem→res a=res b) {a:α} {args:List MV} {mem:Mem} (h:M a args mem):NN M res args mem=some (res a):=by
 have hx:∃ b,M b args mem:=⟨a,h⟩;unfold NN;rw[dif_pos hx,uniq _ _ _ _ (aen hx) h]
theorem Dq {α:Type} {M:α→List MV→Mem→Prop} {res:α→Data} {args:List MV} {mem:Mem} {d:Data} (h:NN M res args mem=some d):∃ a,M a args mem∧d=res a:=by
 unfold NN at h
 split at h
 ·rename_i hx
  exact⟨_,aen hx,(Option.some.inj h).symm⟩
 ·cases h
theorem Il {α:Type} {M:α→List MV→Mem→Prop} {R:α→Mem→MV→Mem→Prop} (uniq:∀ a b args mem,M a args mem→M b args mem→R a mem=R b mem) {a:α} {args:List MV} {mem:Mem} (h:M a args mem):QQ M R args mem=some (R a mem):=by
 have hx:∃ b,M b args mem:=⟨a,h⟩;unfold QQ;rw[dif_pos hx,uniq _ _ _ _ (aen hx) h]
theorem vu {K:St→Prop} {st:St} {x:Opd} {i k sz kc g off:Nat} {cs:List MV} (h1:ev st.tm x = .ptr kc g off) (h2:st.mem kc=some (g,cs)) (h3:cs[off+i]?=some .nil) (h4:k≠kc)
  (h:K ⟨st.tm,az (az st.mem k (aD st.mem k) []) kc g (cs.set (off+i) (.ref k (aD st.mem k) sz 0 0))⟩):dL K st (.adoptC x i k sz):=by
 simp only[dL,h1,h2,if_true,h3];rw[if_pos h4];exact h
theorem tn {K:St→Prop} {st:St} {x:Opd} {i kc gc off k g sz o len:Nat} {cc cs:List MV} {d:Data} (h1:ev st.tm x = .ptr kc gc off) (h2:st.mem kc=some (gc,cc)) (h3:cc[off+i]?=some (.ref k g sz o len)) (h4:st.mem k=some (g,cs)) (h5:lI cs=true) (h6:k≠kc) (h7:toD 1 st.mem (.ref k g sz o len)=some d)
  (h:K ⟨st.tm,az (kill st.mem k) kc gc (cc.set (off+i) (.dat d))⟩):dL K st (.freezeC x i):=by
 simp only[dL,h1,h2,if_true,h3,h4];rw[if_pos ⟨trivial,h5,h6⟩,h7];exact h
def FrK (n:Nat) (mem m:Mem):Prop:=∀ k,k / 1000≠n→m k=mem k
theorem FrK.refl (n:Nat) (mem:Mem):FrK n mem mem:=fun _ _=>rfl
theorem FrK.upd {n k g:Nat} {cs:List MV} {mem m:Mem} (h:FrK n mem m) (hk:k / 1000=n):FrK n mem (az m k g cs):=fun j hj=>by
 have:j≠k:=fun e=>hj (by rw[e];exact hk)
 simp only[az,this,if_false];exact h j hj
theorem FrK.kill {n k:Nat} {mem m:Mem} (h:FrK n mem m) (hk:k / 1000=n):FrK n mem (kill m k):=h.upd hk
theorem FrK.at {n:Nat} {mem m:Mem} (h:FrK n mem m) (k:Nat) (hk:k / 1000≠n):m k=mem k:=h k hk
def NoK (n:Nat) (mem:Mem):Prop:=∀ k,k / 1000=n→mem k=none
theorem NoK.fr {n n':Nat} {mem m:Mem} (h:NoK n mem) (hf:FrK n' mem m) (hn:n≠n'):NoK n m:=fun k hk=>by rw[hf k (by omega)];exact h k hk
end Go.Mini
namespace Go.Mini
open Go
set_option maxRecDepth 10000
set_option maxHeartbeats 4000000
def iC (x:Int):MV:=.dat (.int .i64 x)
def bC (b:Bool):MV:=.dat (.bool b)
theorem DZ {α:Type} {f:α→MV} {l:List α} {k:Nat} {y:α} (h:l[k]?=some y):aeo 1 (aep k (l.map f))=[f y]:=by
 obtain⟨hl,rfl⟩:=List.getElem?_eq_some_iff.1 h;rw[←List.map_drop,List.drop_eq_getElem_cons hl,aee,List.take_succ_cons,aeq]
structure RoundAt (cash:List Int) (cs:List ClR) (fl:List Int) (P:List Bool) (g gr gp:Nat) (mem:Mem):Prop where
 r:mem 261029=some (g,[.dat (.sl (cash.map aa)),.dat (.sl (cs.map clL)),.ref 261042 gr 1 0 fl.length,.ref 261027 gp 1 0 P.length,.dat (.bool false)])
 f:mem 261042=some (gr,fl.map iC)
 p:mem 261027=some (gp,P.map bC)
theorem RoundAt.fr {cash:List Int} {cs:List ClR} {fl:List Int} {P:List Bool} {g gr gp n:Nat} {mem m:Mem} (h:RoundAt cash cs fl P g gr gp mem) (hf:FrK n mem m) (hn:n≠261):RoundAt cash cs fl P g gr gp m :=
 ⟨(hf.at 261029 (by omega)).trans h.r,(hf.at 261042 (by omega)).trans h.f,(hf.at 261027 (by omega)).trans h.p⟩
theorem JR {a b:List Int} (h:a.map iC=b.map iC):a=b:=af (fun x y h=>by simpa [iC] using h) _ _ h
theorem NC {a b:List Bool} (h:a.map bC=b.map bC):a=b:=af (fun x y h=>by simpa [bC] using h) _ _ h
theorem RoundAt.uniq {cash cash':List Int} {cs cs':List ClR} {fl fl':List Int} {P P':List Bool} {g gr gp g' gr' gp':Nat} {mem:Mem} (h:RoundAt cash cs fl P g gr gp mem) (h':RoundAt cash' cs' fl' P' g' gr' gp' mem):cash=cash'∧cs=cs'∧fl=fl'∧P=P'∧g=g'∧gr=gr'∧gp=gp':=by
 have h1:=h.r;rw[h'.r] at h1;simp only[Option.some.injEq,Prod.mk.injEq,List.cons.injEq,MV.dat.injEq,Data.sl.injEq,MV.ref.injEq,true_and,and_true] at h1;obtain⟨e1,e2,e3,⟨e4,-⟩,e6,-⟩:=h1;have h2:=h.f;rw[h'.f] at h2;simp only[Option.some.injEq,Prod.mk.injEq] at h2;have h3:=h.p;rw[h'.p] at h3;simp only[Option.some.injEq,Prod.mk.injEq] at h3;exact⟨(af ai _ _ e2).symm,(af f5 _ _ e3).symm,(JR h2.2).symm,(NC h3.2).symm,e1.symm,e4.symm,e6.symm⟩
structure RdA where
 cash:List Int
 cs:List ClR
 fl:List Int
 P:List Bool
 g:Nat
 gr:Nat
 gp:Nat
def RdA.At (a:RdA) (mem:Mem):Prop:=RoundAt a.cash a.cs a.fl a.P a.g a.gr a.gp mem
theorem RdA.uniq {a b:RdA} {mem:Mem} (h:a.At mem) (h':b.At mem):a=b:=by
 obtain⟨a1,a2,a3,a4,a5,a6,a7⟩:=a;obtain⟨b1,b2,b3,b4,b5,b6,b7⟩:=b;have:=RoundAt.uniq h h';dsimp only at this;obtain⟨rfl,rfl,rfl,rfl,rfl,rfl,rfl⟩:=this
 rfl
theorem FrK.same {n k g:Nat} {cs:List MV} {mem m:Mem} (h:FrK n mem m) (hm:mem k=some (g,cs)):FrK n mem (az m k g cs):=fun j hj=>by
 by_cases e:j=k
 ·subst e
  simp only[az,if_true];exact hm.symm
 ·simp only[az,e,if_false]
  exact h j hj
theorem d7 {z:Int} (h1:-9000000000000000000≤z) (h2:z≤9000000000000000000):cn z:=by unfold cn;omega
theorem okCs.upto {cs:List ClR} (h:okCs cs) (i r:Int):0≤aO cs i r∧aO cs i r≤2000000000000000000:=by
 have:=h.sum (fun c=>c.1=i∧c.2.2.1<r) cs.length;rw[List.take_length] at this;exact this
theorem Hw {p q:Int} (hp:cn p) (hq:cn q) (h0:q≠0):fM (aR p) (aR q)=(aj ((p:Rat) / (q:Rat)),0):=by
 rw[iN (jx hp) (jx hq) h0,adT]
def SI (cs:List ClR) (i r:Int):Int:=aO cs i (r+1)-aO cs i r
end Go.Mini
namespace Go.Mini
open Go Classical
set_option maxRecDepth 10000
def fOf (fl:List Int) (i:Nat):Nat:=(fl.getD i 10).toNat
def pOf (P:List Bool) (i:Nat):Prop:=P.getD i false=true
theorem nf {z:Int} {b:Nat} (h:z.natAbs≤2^b):szR b (z:Rat):=⟨by rw[aer];exact h,by rw[aes];exact adF⟩
theorem Sq {cash:List Int} {cs:List ClR} (hs:SmallD cash cs) {c:ClR} (hc:c∈cs):szR 29 ((ac cash cs).w (bE c)):=by
 have hr:=(rightD_iff.1 hs.right).2.2.2 c hc;have ham:=hs.am c hc
 by_cases h0:c.2.2.2=0
 ·have:(bE c).am=0:=by show ((c.2.2.2:Int):Rat)=0;rw[h0];rfl
  rw[Day.w_zero this];exact⟨adv _,adF⟩
 ·have hS:=mN hs.right (bE c).fr (bE c).rk
  have hle:=(mn hs.right).am_le (c:=bE c) (aek hc);rw[←hS] at hle
  have h1:c.2.2.2≤((SN cs (bE c).fr (bE c).rk:Nat):Int):=by
   have:((c.2.2.2:Int):Rat)≤(((SN cs (bE c).fr (bE c).rk:Nat):Int):Rat):=by rw[ads];exact hle
   exact_mod_cast this
  have h2:=hs.SN_le (bE c).fr (bE c).rk
  obtain⟨f1,f2⟩:=fD (q:=(ac cash cs).w (bE c)) (v:=c.2.2.2) (d:=((SN cs (bE c).fr (bE c).rk:Nat):Int)) (by omega) (by
   rw[ads,hS];refine Day.w_S ?_;rw[←hS];have:0<SN cs (bE c).fr (bE c).rk:=by omega
   exact_mod_cast this)
  rw[adw] at f2;exact⟨by omega,by omega⟩
section
variable {cash:List Int} {cs:List ClR} (hs:SmallD cash cs) (f:Nat→Nat) (P:Nat→Prop) (i:Nat)
include hs
end
end Go.Mini
namespace Go.Mini
open Go
set_option maxRecDepth 10000
set_option maxHeartbeats 4000000
theorem zg:cn 0:=by unfold cn;omega
theorem MS:cn 1:=by unfold cn;omega
theorem Ay {N k:Nat} (x:Nat→Rat) (y:Rat):(bH N x).set k (aj y)=bH N fun j=>if j=k then y else x j:=by
 refine p7 (by rw[aet,cW]) fun j hj=>?_
 rw[aeu]
 by_cases h:k=j
 ·rw[if_pos h,if_pos (by rw[cW];omega),if_pos h.symm]
 ·rw[if_neg h,eP _ hj,if_neg (Ne.symm h)]
theorem Eh {α:Type} {l:List α} {k:Nat} {d x:α} (h:l[k]?=some x):l.getD k d=x:=by rw[adC,h];rfl
theorem G0 (r:cD):((fu r).map MV.dat).all MV.one=true:=rfl

def bL (n:Nat) (p:Nat→Bool):List Bool:=(adH n).map p
theorem yS (n:Nat) (p:Nat→Bool):(bL n p).length=n:=by simp [bL]
theorem yQ {n i:Nat} (p:Nat→Bool) (h:i<n):(bL n p)[i]?=some (p i):=by
 unfold bL;rw[adI,adJ h];rfl
theorem H1 {n:Nat} {p q:Nat→Bool} (h:∀ i,i<n→p i=q i):bL n p=bL n q:=aec fun i hi=>h i (List.mem_range.1 hi)
theorem pOf_bL {n i:Nat} {p:Nat→Bool}:pOf (bL n p) i↔i<n∧p i=true:=by
 unfold pOf;rcases aev i n with h | h
 ·rw[Eh (yQ p h)];exact⟨fun e=>⟨h,e⟩,fun e=>e.2⟩
 ·rw[adC,aew (by rw[yS];exact h)]
  simp;omega
noncomputable def sD (d:Day) (f:Nat→Nat) (h:Nat→Rat) (i:Nat):Bool:=decide (f i<10)&&decide (d.U i (f i)<h i)
noncomputable def iw (d:Day) (f:Nat→Nat) (h:Nat→Rat) (p:Nat→Bool) (i j:Nat):Bool:=p j||(decide (j<i)&&sD d f h j)
noncomputable def oR (d:Day) (f:Nat→Nat) (h:Nat→Rat) (p:Nat→Bool) (i:Nat):Bool:=(adH i).any fun j => !p j&&sD d f h j
theorem C4 (d:Day) (f:Nat→Nat) (h:Nat→Rat) (p:Nat→Bool) (i:Nat):oR d f h p (i+1)=(oR d f h p i||(!p i&&sD d f h i)):=by
 unfold oR;rw[ad3,List.any_append];simp
theorem zx (d:Day) (f:Nat→Nat) (h:Nat→Rat) (p:Nat→Bool) (i:Nat):iw d f h p i i=p i:=by
 unfold iw;rw[decide_eq_false (Nat.lt_irrefl i),adZ,Bool.or_false]
theorem uT (d:Day) (f:Nat→Nat) (h:Nat→Rat) (p:Nat→Bool) (i j:Nat):iw d f h p (i+1) j=if j=i then (p i||sD d f h i) else iw d f h p i j:=by
 unfold iw
 by_cases hj:j=i
 ·subst hj
  rw[if_pos rfl,decide_eq_true (Nat.lt_succ_self j),adL]
 ·rw[if_neg hj]
  congr 2
  rw[decide_eq_decide];omega
theorem Gx {d:Day} {f:Nat→Nat} {h:Nat→Rat} {p:Nat→Bool}:pOf (bL d.n (iw d f h p d.n))=li d f (pOf (bL d.n p)) h:=by
 funext i
 apply propext;rw[pOf_bL];unfold li iw sD;rw[pOf_bL]
 constructor
 ·rintro⟨h1,h2⟩
  rw[aex] at h2;rcases h2 with h2 | h2
  ·exact .inl ⟨h1,h2⟩
  ·simp only[adM,decide_eq_true_eq] at h2
   exact .inr ⟨h1,h2.2⟩
 ·rintro (⟨h1,h2⟩ | ⟨h1,h2⟩)
  ·exact⟨h1,by rw[h2];rfl⟩
  ·refine⟨h1,?_⟩
   rw[aex]
   right
   simp only[adM,decide_eq_true_eq];exact⟨h1,h2⟩
theorem Fp {n:Nat}:pOf (bL n fun _=>false)=fun _=>False:=by
 funext i
 apply propext;rw[pOf_bL];simp
theorem LY {d:Day} {f:Nat→Nat} {h:Nat→Rat} {p:Nat→Bool} {n:Nat} (hm:oR d f h p n=true):kq n (fun i=>if iw d f h p n i then 0 else 1)<kq n fun i=>if p i then 0 else 1:=by
 unfold oR at hm;rw[List.any_eq_true] at hm;obtain⟨j,hj,h2⟩:=hm;have hj:=List.mem_range.1 hj;simp only[adM,adN] at h2;refine xu (j:=j) (fun i hi=>?_) hj ?_
 ·unfold iw
  cases p i
  ·try dsimp only
   split<;>simp
  ·simp
 ·unfold iw
  rw[h2.1,h2.2,decide_eq_true hj]
  decide
theorem KC {d:Day} {f:Nat→Nat} {h:Nat→Rat} {p:Nat→Bool} {n:Nat} (hm:oR d f h p n=false) {i:Nat} (hi:i<n) (h1:f i<10) (h2:d.U i (f i)<h i):p i=true:=by
 unfold oR at hm;rw[adK] at hm;have:=hm i (List.mem_range.2 hi);unfold sD at this;rw[decide_eq_true h1,decide_eq_true h2] at this
 simpa using this
noncomputable def cv (cs:List ClR) (x:Rat) (c:ClR):Rat:=if ((aO cs c.1 (c.2.2.1+1):Int):Rat)≤x then (c.2.2.2:Rat) else (c.2.2.2:Rat) / ((SI cs c.1 c.2.2.1:Int):Rat)*pos (x-((aO cs c.1 c.2.2.1:Int):Rat))
theorem MN {cash:List Int} {cs:List ClR} (h:cS cash cs=true) (x:Nat→Rat) {c:ClR} (hc:c∈cs):(ac cash cs).pay x (bE c)=cv cs (x c.1.toNat) c:=by
 have hr:=(rightD_iff.1 h).2.2.2 c hc;obtain⟨c1,c2,c3,c4⟩:=c;dsimp only at hr;obtain⟨c1,rfl⟩:∃ k:Nat,c1=(k:Int):=⟨c1.toNat,by omega⟩
 obtain⟨c3,rfl⟩:∃ k:Nat,c3=(k:Int):=⟨c3.toNat,by omega⟩
 unfold Day.pay cv Day.w;have h1:=dU h c1 (c3+1);have h2:=dU h c1 c3;have h3:=yI h c1 c3;have e1:(bE ((c1:Int),c2,(c3:Int),c4)).fr=c1:=aey c1;have e2:(bE ((c1:Int),c2,(c3:Int),c4)).rk=c3:=aey c3;have e3:(bE ((c1:Int),c2,(c3:Int),c4)).am=(c4:Rat):=rfl;rw[e1,e2,e3,←h1,←h2,←h3]
 rfl
structure OwnOK (l:List ClR):Prop where
 len:l.length≤12
 c:∀ c∈l,0≤c.1∧c.1<60 ∧ -1≤c.2.1∧c.2.1<60∧0≤c.2.2.1∧c.2.2.1<10∧0≤c.2.2.2∧c.2.2.2≤33554432
 one:∀ c∈l,∀ c'∈l,c.1=c'.1
theorem OwnOK.cs {l:List ClR} (h:OwnOK l):okCs l:=⟨by have:=h.len;omega,fun c hc=>by have:=h.c c hc;omega⟩
def ke {α:Type} (enc:α→List MV) (l:List α):List MV:=(l.map enc).flatten
theorem HX {α:Type} {enc:α→List MV} {sz:Nat} (h:∀ a,(enc a).length=sz) (l:List α):(ke enc l).length=l.length*sz:=by
 unfold ke
 induction l with
 | nil=>simp
 | cons a l ih=>rw[aee,aez,List.length_append,ih,h,aei,adk];omega
theorem zt {α:Type} {enc:α→List MV} {sz:Nat} (h:∀ a,(enc a).length=sz):∀ (l:List α) (i:Nat),i<l.length→∀ b,aeo (i*sz) (ke enc l)++enc b++aep (i*sz+sz) (ke enc l)=ke enc (l.set i b)
 | [],i,hi,b=>absurd hi (by simp)
 | a::l,0,_,b=>by
  have ha:=h a;unfold ke;simp only[Nat.zero_mul,Nat.zero_add,aeq,ad9,aee,aez,List.set_cons_zero];rw[←ha,List.drop_left]
 | a::l,i+1,hi,b=>by
  have ha:=h a;have ih:=zt h l i (by simpa using hi) b;unfold ke at ih ⊢;simp only[aee,aez,List.set_cons_succ];rw[←ih,adk,List.take_append,aeA,ha];rw[ad0 (by omega),aeB (by omega),ad9];rw[show i*sz+sz-sz=i*sz by omega,show i*sz+sz+sz-sz=i*sz+sz by omega]
  simp only[List.append_assoc]
def fL {α:Type} (n:Nat) (q:Nat→α):List α:=(adH n).map q
theorem bQ {α:Type} (n:Nat) (q:Nat→α):(fL n q).length=n:=by simp [fL]
theorem cP {α:Type} {n i:Nat} (q:Nat→α) (h:i<n):(fL n q)[i]?=some (q i):=by
 unfold fL;rw[adI,adJ h];rfl
theorem EC {α:Type} {n:Nat} {l:List α} {q:Nat→α} (hl:l.length=n) (h:∀ i,i<n→l[i]?=some (q i)):l=fL n q:=by
 apply aeC;intro i;rcases aev i n with hi | hi
 ·rw[h i hi,cP q hi]
 ·rw[aew (by omega),aew (by rw[bQ];exact hi)]
theorem mp {α:Type} {n i:Nat} (q:Nat→α) (b:α):(fL n q).set i b=fL n fun j=>if j=i then b else q j:=by
 refine EC (by rw[aet,bQ]) fun j hj=>?_
 rw[aeu]
 by_cases h:i=j
 ·rw[if_pos h,if_pos (by rw[bQ];omega),if_pos h.symm]
 ·rw[if_neg h,cP _ hj,if_neg (Ne.symm h)]
theorem bW {α:Type} {n:Nat} {p q:Nat→α} (h:∀ i,i<n→p i=q i):fL n p=fL n q:=aec fun i hi=>h i (List.mem_range.1 hi)
def oQ:Option aF→List MV
 | none=>[.dat (.int .i64 0),.nil,.dat (.int .i64 0),.nil]
 | some f=>(ad f).map .dat
theorem Ab:∀ a,(oQ a).length=4
 | none=>rfl
 | some _=>rfl
theorem vZ (n:Nat):(List.replicate n [MV.dat (.int .i64 0),MV.nil,MV.dat (.int .i64 0),MV.nil]).flatten=ke oQ (fL n fun _=>none):=by
 unfold ke fL;rw[List.map_map]
 congr 1
 apply aeC;intro i;rw[adI];rcases aev i n with hi | hi
 ·rw[adJ hi,List.getElem?_replicate,if_pos hi];rfl
 ·rw[aew (by simpa using hi),aew (by simpa using hi)];rfl
theorem Bc (l:List aF):ke oQ (l.map some)=aA ad l:=by
 unfold ke aA
 induction l with
 | nil=>rfl
 | cons f l ih =>
  simp only[aee,aez,aed];rw[ih];rfl
theorem BT {n i:Nat} {q:Nat→Option aF} (h:i<n):(i*4+4≤(ke oQ (fL n q)).length)=True:=eq_true (by rw[HX Ab,bQ];omega)
theorem BQ {n i:Nat} {q:Nat→Option aF} (h:i<n) (a:Int) (b:List Int) (c:Int) (d:List Int) :
  aeo (i*4) (ke oQ (fL n q))++[MV.dat (.int .i64 a),.dat (.sl (b.map aa)),.dat (.int .i64 c),.dat (.sl (d.map aa))]++aep (i*4+4) (ke oQ (fL n q))=ke oQ (fL n fun j=>if j=i then some ((a,b),(c,d)) else q j):=by
 rw[←mp];exact zt Ab (fL n q) i (by rw[bQ];exact h) (some ((a,b),(c,d)))
structure q0 (l:List ClR) (x:Rat):Prop where
 own:OwnOK l
 pos:0≤x
 sz:szR 460 x
theorem OwnOK.less {l:List ClR} (h:OwnOK l) {c:ClR} (hc:c∈l) (r:Int):(bq l fun c'=>if c'.2.2.1<r then c'.2.2.2 else 0)=aO l c.1 r:=by
 unfold aO;refine js fun c' hc'=>?_
 have:=h.one c' hc' c hc
 by_cases h1:c'.2.2.1<r
 ·rw[if_pos h1,if_pos ⟨this,h1⟩]
 ·rw[if_neg h1,if_neg fun h=>h1 h.2]
theorem tP (l:List ClR) (F G:ClR→Int):bq l (fun c=>F c+G c)=bq l F+bq l G:=by
 induction l with
 | nil=>simp [bq]
 | cons c l ih=>simp only[bq,ih];omega
theorem OwnOK.same {l:List ClR} (h:OwnOK l) {c:ClR} (hc:c∈l) (r:Int):(bq l fun c'=>if c'.2.2.1=r then c'.2.2.2 else 0)=SI l c.1 r:=by
 have h1:=h.less hc r;have h2:=h.less hc (r+1)
 have h3:(bq l fun c'=>if c'.2.2.1<r+1 then c'.2.2.2 else 0)=(bq l fun c'=>if c'.2.2.1<r then c'.2.2.2 else 0)+bq l fun c'=>if c'.2.2.1=r then c'.2.2.2 else 0:=by
  rw[←tP];refine js fun c _=>?_
  by_cases k1:c.2.2.1<r
  ·rw[if_pos (by omega),if_pos k1,if_neg (by omega)];omega
  ·rw[if_neg k1]
   by_cases k2:c.2.2.1=r
   ·rw[if_pos (by omega),if_pos k2];omega
   ·rw[if_neg (by omega),if_neg k2];omega
 unfold SI;omega
theorem OwnOK.bound {l:List ClR} (h:OwnOK l) (p:ClR→Prop) [DecidablePred p]:0≤bq l (fun c=>if p c then c.2.2.2 else 0)∧bq l (fun c=>if p c then c.2.2.2 else 0)≤536870912:=by
 have:=sH (cs:=l) (F:=fun c=>if p c then c.2.2.2 else 0) (B:=33554432) (by omega) fun c hc=>by
  have:=h.c c hc
  try dsimp only
  split<;>omega
 have:=h.len;omega
theorem JN (cs:List ClR) (i r:Int):SI cs i r=bq cs fun c=>if c.1=i∧c.2.2.1=r then c.2.2.2 else 0:=by
 have h3:aO cs i (r+1)=aO cs i r+bq cs fun c=>if c.1=i∧c.2.2.1=r then c.2.2.2 else 0:=by
  unfold aO;rw[←tP];refine js fun c _=>?_
  split<;>split<;>split<;>omega
 unfold SI;omega
theorem KG {cs:List ClR} {F:ClR→Int} (h:∀ c∈cs,0≤F c) {c:ClR} (hc:c∈cs):F c≤bq cs F:=by
 induction cs with
 | nil=>cases hc
 | cons a l ih =>
  simp only[bq];have h0:=h a adt
  have h1:0≤bq l F:=by
   have:∀ l:List ClR,(∀ c∈l,0≤F c)→0≤bq l F:=by
    intro l
    induction l with
    | nil=>intro _;exact adz _
    | cons b l ih2=>intro hh;simp only[bq];have:=hh b adt;have:=ih2 fun c hc=>hh c (adu _ hc);omega
   exact this l fun c hc=>h c (adu _ hc)
  rcases List.mem_cons.1 hc with rfl | hc
  ·omega
  ·have:=ih (fun c hc=>h c (adu _ hc)) hc
   omega
theorem As {cs:List ClR} (h:∀ c∈cs,0≤c.2.2.2) {c:ClR} (hc:c∈cs):c.2.2.2≤SI cs c.1 c.2.2.1:=by
 rw[JN];have:=KG (F:=fun c'=>if c'.1=c.1∧c'.2.2.1=c.2.2.1 then c'.2.2.2 else 0) (fun c' hc'=>by have:=h c' hc';split<;>omega) hc
 rwa [if_pos ⟨rfl,rfl⟩] at this
section
variable {cs:List ClR} {x:Rat} {c:ClR}
theorem pt (cs:List ClR) (i r:Int):((aO cs i (r+1):Int):Rat)=((aO cs i r:Int):Rat)+((SI cs i r:Int):Rat):=by
 rw[←ado]
 congr 1
 unfold SI;omega
theorem wn (hn:∀ c∈cs,0≤c.2.2.2) (hc:c∈cs) (h:x-((aO cs c.1 c.2.2.1:Int):Rat)≤0):cv cs x c=0:=by
 unfold cv;have h1:=As hn hc;have h2:=hn c hc;rw[pt]
 split
 ·rename_i h3
  have h4:((SI cs c.1 c.2.2.1:Int):Rat)≤((0:Int):Rat):=by
   have:((0:Int):Rat)=0:=rfl;rw[this];generalize ((aO cs c.1 c.2.2.1:Int):Rat)=u at *;grind
  have h5:SI cs c.1 c.2.2.1≤0:=by exact_mod_cast h4
  rw[show c.2.2.2=0 by omega];rfl
 ·rw[ie h,adB]
theorem Hf (h:((SI cs c.1 c.2.2.1:Int):Rat)≤x-((aO cs c.1 c.2.2.1:Int):Rat)):cv cs x c=(c.2.2.2:Rat):=by
 unfold cv;rw[pt,if_pos];generalize ((aO cs c.1 c.2.2.1:Int):Rat)=u at *;generalize ((SI cs c.1 c.2.2.1:Int):Rat)=s at *;grind
theorem Fv (h0:0≤x-((aO cs c.1 c.2.2.1:Int):Rat)) (h:x-((aO cs c.1 c.2.2.1:Int):Rat)<((SI cs c.1 c.2.2.1:Int):Rat)):cv cs x c=(c.2.2.2:Rat)*(x-((aO cs c.1 c.2.2.1:Int):Rat)) / ((SI cs c.1 c.2.2.1:Int):Rat):=by
 unfold cv;rw[pt,if_neg,lA h0]
 ·generalize ((aO cs c.1 c.2.2.1:Int):Rat)=u at *
  generalize ((SI cs c.1 c.2.2.1:Int):Rat)=s at *;grind
 ·generalize ((aO cs c.1 c.2.2.1:Int):Rat)=u at *
  generalize ((SI cs c.1 c.2.2.1:Int):Rat)=s at *;grind
end
theorem fZ {n:Int} (h:cn n):cg (n:Rat):=⟨by rw[aer];exact jx h,by rw[aes];decide +kernel⟩
theorem uM {x:Rat}:decide (x.num.sign<0)=decide (x<0):=by
 have:x.num.sign<0↔x<0:=by
  rw[aem,ael,Rat.zero_num,Rat.zero_den];omega
 rw[decide_eq_decide];exact this
def zC:ClR:=(0,0,0,0)
noncomputable def o7 (l:List ClR) (x:Rat) (j:Nat):aF:=aj (cv l x (l.getD j zC))
theorem Gj (l:List ClR) (x:Rat):(fL l.length fun j=>some (o7 l x j))=(l.map fun c=>aj (cv l x c)).map some:=by
 symm
 refine EC (by simp) fun i hi=>?_
 rw[adI,adI,adY hi];unfold o7;rw[Eh (adY hi)];rfl
def di (cs:List ClR) (who:Int):List ClR:=cs.filter fun c=>c.1==who
theorem H8 (cs:List ClR) (who:Int) (p:ClR→Prop) [DecidablePred p]:bq (di cs who) (fun c=>if c.1=who∧p c then c.2.2.2 else 0)=bq cs fun c=>if c.1=who∧p c then c.2.2.2 else 0:=by
 unfold di
 induction cs with
 | nil=>rfl
 | cons c l ih =>
  by_cases h:c.1=who
  ·rw[aef (by simpa using h)]
   simp only[bq,ih]
  ·rw[aeg (by simpa using h),ih]
   simp only[bq];rw[if_neg fun hh=>h hh.1];omega
theorem zN (cs:List ClR) (who r:Int):aO (di cs who) who r=aO cs who r:=H8 cs who fun c=>c.2.2.1<r
theorem own_mem {cs:List ClR} {who:Int} {c:ClR}:c∈di cs who↔c∈cs∧c.1=who:=by
 unfold di;rw[ad2,beq_iff_eq]
theorem KB {cs:List ClR} {who:Int} {x:Rat} {c:ClR} (h:c.1=who):cv (di cs who) x c=cv cs x c:=by
 unfold cv SI;rw[h,zN,zN]
theorem GC (cs:List ClR) (who:Int) (x:Rat):((di cs who).map fun c=>aj (cv (di cs who) x c))=(di cs who).map fun c=>aj (cv cs x c) :=
 aec fun c hc=>by rw[KB (own_mem.1 hc).2]
theorem SmallD.own {cash:List Int} {cs:List ClR} (h:SmallD cash cs) (who:Int):OwnOK (di cs who):=by
 have hr:=rightD_iff.1 h.right;have hn:=h.n5;refine⟨?_,fun c hc=>?_,fun c hc c' hc'=>?_⟩
 ·have:=adR (fun c:ClR=>c.1==who) cs
  have:=h.c12;unfold di;omega
 ·have h1:=hr.2.2.2 c (own_mem.1 hc).1
  have h2:=h.am c (own_mem.1 hc).1;omega
 ·rw[(own_mem.1 hc).2,(own_mem.1 hc').2]
theorem wJ (n:Nat):((gJ n).map MV.dat).all MV.one=true:=rfl
noncomputable def gM (d:Day) (f:Nat→Nat) (h:Nat→Rat) (i:Nat):List Nat:=(adH i).filter fun j=>decide (h j<d.U j (f j))
theorem xM (d:Day) (f:Nat→Nat) (h:Nat→Rat) (i:Nat):gM d f h (i+1)=if h i<d.U i (f i) then gM d f h i++[i] else gM d f h i:=by
 unfold gM;rw[ad3,aea]
 by_cases hh:h i<d.U i (f i)
 ·rw[if_pos hh,aef (by simpa using hh),aeD]
 ·rw[if_neg hh,aeg (by simpa using hh),aeD,ad7]
theorem Bq (d:Day) (f:Nat→Nat) (h:Nat→Rat) (i:Nat):(gM d f h i).length≤i:=by
 have:=adR (fun j=>decide (h j<d.U j (f j))) (adH i);rw[adS] at this;exact this
end Go.Mini
namespace Go.Mini
open Classical
noncomputable def shP (d:Day) (l:List ClR) (i:Nat):Rat:=sumC (l.map bE) fun c=>if c.to=(i:Int) then d.w c else 0
theorem K1 (d:Day) (i:Nat):shP d [] i=0:=rfl
theorem ES (d:Day) (l:List ClR) (c:ClR) (i:Nat):shP d (l++[c]) i=shP d l i+if c.2.1=(i:Int) then d.w (bE c) else 0:=by
 unfold shP;rw[aed,nn]
 congr 1
 show (if (bE c).to=(i:Int) then d.w (bE c) else 0)+0=_;rw[Rat.add_zero]
 rfl
theorem Ng {cash:List Int} {cs:List ClR} (h:cS cash cs=true) (f:Nat→Nat) (k i:Nat):shP (ac cash cs) (aV cs k (f k)) i=(ac cash cs).W f k i:=by
 have hr:=(rightD_iff.1 h).2.2.2;unfold shP Day.W;rw[uS fun c hc=>⟨(hr c hc).1,(hr c hc).2.2.2.2.1⟩]
 refine dV fun c _=>?_
 by_cases h1:c.fr=k∧c.rk=f k
 ·rw[if_pos h1]
  by_cases h2:c.to=(i:Int)
  ·rw[if_pos h2,if_pos ⟨h2,h1⟩]
  ·rw[if_neg h2,if_neg fun h=>h2 h.1]
 ·rw[if_neg h1,if_neg fun h=>h1 h.2]
section
variable {cash:List Int} {cs:List ClR} (hs:SmallD cash cs) {k r:Nat} (hS:0<(ac cash cs).S k r)
include hs hS
theorem xO {c:ClR} (hc:c∈aV cs k r):DenBy (SN cs k r) ((ac cash cs).w (bE c))∧0≤(ac cash cs).w (bE c)∧(ac cash cs).w (bE c)=(c.2.2.2:Rat) / ((SI cs k r:Int):Rat):=by
 obtain⟨h1,h2,h3⟩:=cell_mem.1 hc;have e1:(bE c).fr=k:=by show c.1.toNat=k;omega
 have e2:(bE c).rk=r:=by show c.2.2.1.toNat=r;omega
 have hm:bE c∈(ac cash cs).cl:=aek h1;refine⟨⟨c.2.2.2,?_⟩,hs.ok.w_nonneg hm,?_⟩
 ·rw[mN hs.right,←e1,←e2]
  exact Day.w_S (by rw[e1,e2];exact hS)
 ·unfold Day.w SI
  rw[e1,e2];have:=yI hs.right k r;rw[←this]
  rfl
theorem Nh {l:List ClR} (hl:∃ l',aV cs k r=l++l') (i:Nat):szR 29 (shP (ac cash cs) l i):=by
 obtain⟨l',hl⟩:=hl;have hmem:∀ c∈l,c∈aV cs k r:=fun c hc=>by rw[hl];simp [hc]
 have hmem':∀ c∈l',c∈aV cs k r:=fun c hc=>by rw[hl];simp [hc]
 have hd:DenBy (SN cs k r) (shP (ac cash cs) l i):=by
  unfold shP;refine DenBy.sumC fun x hx=>?_
  obtain⟨c,hc,rfl⟩:=List.mem_map.1 hx
  split
  ·exact (xO hs hS (hmem c hc)).1
  ·exact DenBy.zero _
 have h0:∀ m:List ClR,(∀ c∈m,c∈aV cs k r)→0≤shP (ac cash cs) m i:=fun m hm=>dT fun x hx=>by
  obtain⟨c,hc,rfl⟩:=List.mem_map.1 hx
  try dsimp only
  split
  ·exact (xO hs hS (hm c hc)).2.1
  ·exact adP
 have h1:shP (ac cash cs) l i≤1:=by
  have e:shP (ac cash cs) (aV cs k r) i=shP (ac cash cs) l i+shP (ac cash cs) l' i:=by
   rw[hl];unfold shP;rw[aed,nn]
  have e2:shP (ac cash cs) (aV cs k r) i≤sumC ((aV cs k r).map bE) (ac cash cs).w:=mL fun x hx=>by
   obtain⟨c,hc,rfl⟩:=List.mem_map.1 hx;have:=(xO hs hS hc).2.1
   split
   ·exact adP
   ·exact this
  have hr:=(rightD_iff.1 hs.right).2.2.2;rw[uS fun c hc=>⟨(hr c hc).1,(hr c hc).2.2.2.2.1⟩] at e2
  have e3:sumC (cs.map bE) (fun c=>if c.fr=k∧c.rk=r then (ac cash cs).w c else 0)=1:=by
   have hk:k<(ac cash cs).n:=by
    obtain⟨c,hc,hp⟩:=sS hS
    by_cases hcc:c.fr=k∧c.rk=r
    ·rw[←hcc.1];exact hs.ok.fr c hc
    ·rw[if_neg hcc] at hp;grind
   have:=hs.ok.sum_fr (fun j=>j=k) (fun _=>r) (fun j hj=>by subst hj;exact hS) fun _=>1
   rw[iW hk (fun j _ hj=>by rw[if_neg hj]),if_pos rfl] at this;refine (dV fun c _=>?_).trans this
   by_cases hc:c.fr=k∧c.rk=r
   ·rw[if_pos hc,if_pos hc,Rat.mul_one]
   ·rw[if_neg hc,if_neg hc]
  have:=h0 l' hmem';grind
 have hN:0<SN cs k r:=by
  rw[←mN hs.right] at hS
  exact_mod_cast hS
 exact (hd.sz hN (hs.SN_le k r) (h0 l hmem) (e:=0) (by rw[show ((2^0:Nat):Rat)=1 from rfl];exact h1)).mono (by omega)
end
end Go.Mini
namespace Go.Mini
open Go
set_option maxRecDepth 10000
def clM (l:List ClR):MV:=if l=[] then .nil else .dat (.sl (l.map clL))
theorem Mi {a b:List ClR} (h:clM a=clM b):a=b:=by
 unfold clM at h
 by_cases ha:a=[]<;>by_cases hb:b=[]
 ·rw[ha,hb]
 ·rw[if_pos ha,if_neg hb] at h;cases h
 ·rw[if_neg ha,if_pos hb] at h;cases h
 ·rw[if_neg ha,if_neg hb] at h
  exact af f5 _ _ (Data.sl.inj (MV.dat.inj h))
theorem D8 (l:List ClR):oP (clM l)=some l.length:=by
 unfold clM
 split
 ·rename_i h;rw[h];rfl
 ·simp [oP]
theorem DS {l:List ClR} {n:Nat} {c:ClR} (h:l[n]?=some c):xZ 4 n (clM l)=some (.dat (.ptr (clL c))):=by
 unfold clM
 split
 ·rename_i hl;rw[hl] at h;cases h
 ·simp only[xZ,adI,h,Option.map_some]
  rw[if_pos (oH c)]
structure DebR where
 cash:Int
 cl:List (List ClR)
 us:List Int
 f:Int
 p:Bool
def dB (x:DebR):List MV:=iC x.cash::(x.cl.map clM++(x.us.map iC++[iC x.f,bC x.p]))
def DebR.sf (x:DebR) (f:Int):DebR:=⟨x.cash,x.cl,x.us,f,x.p⟩
def DebR.sp (x:DebR) (p:Bool):DebR:=⟨x.cash,x.cl,x.us,x.f,p⟩
structure DebR.OK (x:DebR):Prop where
 cl:x.cl.length=10
 us:x.us.length=11
theorem jI {x:DebR} (h:x.OK):(dB x).length=24:=by
 simp [dB,h.cl,h.us]
theorem Hl {x y:DebR} (hx:x.OK) (hy:y.OK) (h:dB x=dB y):x=y:=by
 unfold dB at h;obtain⟨h1,h2⟩:=List.cons.inj h;obtain⟨h3,h4⟩:=aeE h2 (by rw[adW,adW,hx.cl,hy.cl]);obtain⟨h5,h6⟩:=aeE h4 (by rw[adW,adW,hx.us,hy.us]);obtain⟨h7,h8⟩:=List.cons.inj h6;obtain⟨h9,-⟩:=List.cons.inj h8;obtain⟨x1,x2,x3,x4,x5⟩:=x;obtain⟨y1,y2,y3,y4,y5⟩:=y;have e2:=af (fun a b h=>Mi h) _ _ h3;have e3:=JR h5;simp only[iC,bC,MV.dat.injEq,Data.int.injEq,Data.bool.injEq,true_and] at h1 h7 h9;dsimp only at *;rw[h1,e2,e3,h7,h9]
section
variable {x:DebR} (h:x.OK)
include h
omit h in
theorem JK:aeo 1 (dB x)=[iC x.cash]:=rfl
omit h in
theorem Kb {k:Nat} {l:List ClR} (hk:x.cl[k]?=some l):aeo 1 (aep (1+k) (dB x))=[clM l]:=by
 have hlt:=(List.getElem?_eq_some_iff.1 hk).1;unfold dB;rw[Nat.add_comm,aeF,aeG (by rw[adW];omega),aeH (by rw[aeI,adW];omega)];exact DZ (f:=clM) hk
theorem uk {k:Nat} {z:Int} (hk:x.us[k]?=some z):aeo 1 (aep (11+k) (dB x))=[iC z]:=by
 have hlt:=(List.getElem?_eq_some_iff.1 hk).1;unfold dB;rw[show 11+k=(10+k)+1 by omega,aeF,aeA,aeB (by rw[adW,h.cl];omega),adW,h.cl,ad9,show 10+k-10=k by omega,aeG (by rw[adW];omega),aeH (by rw[aeI,adW];omega)]
 exact DZ (f:=iC) hk
theorem y0:aeo 1 (aep 22 (dB x))=[iC x.f]:=by
 unfold dB;rw[aeF,aeA,aeB (by rw[adW,h.cl];omega),adW,h.cl,ad9,aeA,aeB (by rw[adW,h.us];omega),adW,h.us]
 rfl
theorem MH:aeo 1 (aep 23 (dB x))=[bC x.p]:=by
 unfold dB;rw[aeF,aeA,aeB (by rw[adW,h.cl];omega),adW,h.cl,ad9,aeA,aeB (by rw[adW,h.us];omega),adW,h.us]
 rfl
theorem I9 (f:Int):aeo 22 (dB x)++[MV.dat (.int .i64 f)]++aep 23 (dB x)=dB (x.sf f):=by
 have e:dB x=(iC x.cash::(x.cl.map clM++x.us.map iC))++[iC x.f,bC x.p]:=by simp [dB]
 have l:(iC x.cash::(x.cl.map clM++x.us.map iC)).length=22:=by simp [h.cl,h.us]
 rw[e,aeH (by omega),ad0 (by omega),aeA,aeB (by omega),l];simp [dB,DebR.sf,iC]
theorem BE (p:Bool):aeo 23 (dB x)++[MV.dat (.bool p)]++aep 24 (dB x)=dB (x.sp p):=by
 have e:dB x=(iC x.cash::(x.cl.map clM++(x.us.map iC++[iC x.f])))++[bC x.p]:=by simp [dB]
 have l:(iC x.cash::(x.cl.map clM++(x.us.map iC++[iC x.f]))).length=23:=by simp [h.cl,h.us]
 rw[e,aeH (by omega),ad0 (by omega),aeA,aeB (by omega),l];simp [dB,DebR.sp,bC]
end
structure DebA where
 cash:List Int
 cs:List ClR
 fl:List Int
 P:List Bool
 g:Nat
 gs:List Nat
def DebA.deb (a:DebA) (i:Nat):DebR:=⟨a.cash.getD i 0,fL 10 fun k=>aV a.cs i k,fL 11 fun k=>aO a.cs i (k:Nat),a.fl.getD i 10,a.P.getD i false⟩
theorem DebA.deb_ok (a:DebA) (i:Nat):(a.deb i).OK:=⟨bQ _ _,bQ _ _⟩
structure DebA.At (a:DebA) (m:Mem):Prop where
 can:a.cs=aG a.cash.length a.cs
 fl:a.fl.length=a.cash.length
 pl:a.P.length=a.cash.length
 gl:a.gs.length=a.cash.length
 row:m 228023=some (a.g,fL a.cash.length fun i => .ptr (228500+i) (a.gs.getD i 0) 0)
 blk:∀ i,i<a.cash.length→m (228500+i)=some (a.gs.getD i 0,dB (a.deb i))
theorem i6 {α:Type} {d:α} {n:Nat} {a b:List α} (ha:a.length=n) (hb:b.length=n) (h:∀ i,i<n→a.getD i d=b.getD i d):a=b:=by
 apply aeC;intro i;rcases aev i n with hi | hi
 ·have:=h i hi
  rw[adC,adC,adY (by omega),adY (by omega)] at this;rw[adY (by omega),adY (by omega)];exact congrArg some this
 ·rw[aew (by omega),aew (by omega)]
theorem Ip {α:Type} {n:Nat} {p q:Nat→α} (h:fL n p=fL n q):∀ i,i<n→p i=q i:=fun i hi=>by
 have h1:=cP p hi;rw[h,cP q hi] at h1;exact (Option.some.inj h1).symm
theorem DebA.uniq {a b:DebA} {m:Mem} (h:a.At m) (h':b.At m):a=b:=by
 obtain⟨a1,a2,a3,a4,a5,a6⟩:=a;obtain⟨b1,b2,b3,b4,b5,b6⟩:=b;obtain⟨c1,c2,c3,c4,c5,c6⟩:=h;obtain⟨d1,d2,d3,d4,d5,d6⟩:=h';dsimp only at *;rw[c5,Option.some.injEq,Prod.mk.injEq] at d5;obtain⟨rfl,hrow⟩:=d5
 have hn:a1.length=b1.length:=by
  have:=congrArg List.length hrow
  rwa [bQ,bQ] at this
 rw[←hn] at hrow d1 d2 d3 d4 d6
 have hg:a6=b6:=i6 (d:=0) c4 d4 fun i hi=>by
  have:=Ip hrow i hi;rw[MV.ptr.injEq] at this;exact this.2.1
 subst hg
 have hb:∀ i,i<a1.length→DebA.deb ⟨a1,a2,a3,a4,a5,a6⟩ i=DebA.deb ⟨b1,b2,b3,b4,a5,a6⟩ i:=fun i hi=>by
  have h1:=c6 i hi;rw[d6 i hi,Option.some.injEq,Prod.mk.injEq] at h1;exact (Hl (DebA.deb_ok _ _) (DebA.deb_ok _ _) h1.2).symm
 simp only[DebA.deb,DebR.mk.injEq] at hb;have e1:a1=b1:=i6 (d:=0) rfl hn.symm fun i hi=>(hb i hi).1
 subst e1
 have e2:a2=b2:=by
  rw[c1,d1];exact qh fun i hi k hk=>Ip (hb i hi).2.1 k hk
 have e3:a3=b3:=i6 (d:=10) c2 d2 fun i hi=>(hb i hi).2.2.2.1
 have e4:a4=b4:=i6 (d:=false) c3 d3 fun i hi=>(hb i hi).2.2.2.2
 rw[e2,e3,e4]
theorem DebA.At.fr {a:DebA} {mem m:Mem} {n:Nat} (h:a.At mem) (hf:FrK n mem m) (hn:n≠228) (h5:a.cash.length≤5):a.At m :=
 ⟨h.can,h.fl,h.pl,h.gl,by rw[hf 228023 (by omega)];exact h.row,fun i hi=>by rw[hf (228500+i) (by omega)];exact h.blk i hi⟩
def mf_rescue_day_1:MFunc :=
 { n:=6,np:=1,res:=[.t 2],body :=
 (.seq (.ops [
 Zb 2 false])
 (.seq (.ops [
 Zv 3 0,⟨some 4,none,.call fi [(.t 3)]⟩,Zt 5 4,Zv 2 5])
 .ret)) }
def mf_rescue_amount:MFunc :=
 { n:=9,np:=1,res:=[.t 2],body :=
 (.seq (.ops [
 Zb 2 false])
 (.seq (.ops [
 Zv 3 0,Zc 4 .geq 3 0,Zv 5 4,⟨some 6,some (5,true),.mv (.t 0)⟩,⟨some 7,some (5,true),.bin .leq (.t 6) (.c (ZI 1000000000000000))⟩,Zq 8 5 7,Zv 2 8])
 .ret)) }
def mf_rescue_day_2:MFunc :=
 { n:=42,np:=2,res:=[.t 3],body :=
 (.seq (.ops [
 Zk 2 252002 0,Zb 3 false])
 (.seq (.ops [
 Zf 4 0 2,Zl 5 1 4,Zc 6 .lss 5 0,Zv 7 6,⟨some 8,some (7,false),.fad 0 (.t 2)⟩,⟨some 9,some (7,false),.load 1 false (.t 8)⟩,⟨some 10,some (7,false),.load 1 false (.t 1)⟩,⟨some 11,some (7,false),.len (.t 10)⟩,⟨some 12,some (7,false),.bin .geq (.t 9) (.t 11)⟩,Zp 13 7 12,Zv 14 13,⟨some 15,some (14,false),.fad 1 (.t 2)⟩,⟨some 16,some (14,false),.load 1 false (.t 15)⟩,⟨some 17,some (14,false),.bin .lss (.t 16) (.c (.dat (.int .i64 (-1))))⟩,Zp 18 14 17,Zv 19 18,⟨some 20,some (19,false),.fad 1 (.t 2)⟩,⟨some 21,some (19,false),.load 1 false (.t 20)⟩,⟨some 22,some (19,false),.load 1 false (.t 1)⟩,⟨some 23,some (19,false),.len (.t 22)⟩,⟨some 24,some (19,false),.bin .geq (.t 21) (.t 23)⟩,Zp 25 19 24,Zv 26 25,⟨some 27,some (26,false),.fad 2 (.t 2)⟩,⟨some 28,some (26,false),.load 1 false (.t 27)⟩,⟨some 29,some (26,false),.bin .lss (.t 28) (.c (ZI 0))⟩,Zp 30 26 29,Zv 31 30,⟨some 32,some (31,false),.fad 2 (.t 2)⟩,⟨some 33,some (31,false),.load 1 false (.t 32)⟩,⟨some 34,some (31,false),.bin .geq (.t 33) (.c (ZI 10))⟩,Zp 35 31 34,Zv 36 35,⟨some 37,some (36,false),.fad 3 (.t 2)⟩,⟨some 38,some (36,false),.load 1 false (.t 37)⟩,⟨some 39,some (36,false),.call fi [(.t 38)]⟩,⟨some 40,some (36,false),.un .not (.t 39)⟩,Zp 41 36 40,Zv 3 41])
 .ret)) }
end Go.Mini
