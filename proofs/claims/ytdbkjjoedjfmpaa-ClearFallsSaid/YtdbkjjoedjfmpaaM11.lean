/- A part of the proof. -/
import Derived.Test.YtdbkjjoedjfmpaaM10
import Derived.Test.YtdbkjjoedjfmpaaM04
import Derived.Test.YtdbkjjoedjfmpaaM09
import Derived.Test.YtdbkjjoedjfmpaaM07
import Derived.Test.YtdbkjjoedjfmpaaM08
set_option linter.unusedSimpArgs false
set_option linter.unusedVariables false
open Nat renaming lt_of_le_of_lt → adP, le_refl → adW, pow_le_pow_right → ad0, le_trans → ad4, mul_le_mul → ad5, mul_le_mul_right → ad9, pow_add → aec, mul_pos → aed, one_le_two_pow → aeK, lt_or_ge → aeX, succ_mul → ae1
open List renaming range → adQ, getElem?_map → adR, getElem?_range → adS, getD_eq_getElem?_getD → adT, any_eq_false → adU, length_filter_le → aea, length_range → aeb, length_map → aeh, getElem?_eq_getElem → aej, take_of_length_le → ael, mem_filter → aen, range_succ → aeo, flatMap_append → aep, flatMap_cons → aeq, flatMap_nil → aer, append_nil → aes, flatMap_eq_nil_iff → aet, nil_append → aeu, filter_append → aev, flatMap_def → aew, map_congr_left → aex, map_append → aey, mem_cons_of_mem → aez, mem_cons_self → aeA, map_cons → aeB, filter_cons_of_pos → aeC, filter_cons_of_neg → aeD, mem_map → aeE, length_cons → aeF, length_append → aeH, filter_nil → aeI, flatten_cons → aeJ, mem_map_of_mem → aeL, take → aeQ, drop → aeR, take_zero → aeS, length_set → aeV, getElem?_set → aeW, getElem?_eq_none → aeY, drop_append → ae2, drop_eq_nil_of_le → ae3, ext_getElem? → ae4, append_inj → ae5, drop_succ_cons → ae6, drop_append_of_le_length → ae7, take_append_of_le_length → ae8, length_drop → ae9
open Bool renaming true_and → adV, and_eq_true → adX, not_eq_true' → adY, not_false → adZ, false_eq_true → aeg, false_and → aek, not_true → aem, or_eq_true → aeZ
open Rat renaming intCast_natCast → ad1, mul_comm → ad2, le_refl → ad6, intCast_add → ad7, le_trans → ad8, divInt_eq_div → aee, mul_zero → aeM, lt_iff → aeN, num_intCast → aeT, den_intCast → aeU
open Int renaming natAbs_natCast → ad3, sign_neg_iff → aeO, toNat_natCast → ae0
open Prod renaming ext_iff → aef
open Decidable renaming em → aei
open Classical renaming byContradiction → aeG, choose_spec → aeP
namespace Go.Mini
open Go Classical
set_option maxRecDepth 10000
theorem eE {b:Nat} {q:Rat} (h:szR b q) (hb:b<1200):cn q:=by
 obtain⟨B,hB,hL⟩:=EJ;have:2^b<LIM:=by rw[hL];exact Nat.pow_lt_pow_right (by omega) (by omega)
 exact⟨adP h.1 this,adP h.2 this⟩
def dT (N:Nat) (A:Mat):List cG:=(adQ N).map fun i=>(bJ N (A i),ai (A i N))
theorem eR (N:Nat) (A:Mat):(dT N A).length=N:=by simp [dT]
theorem tX {N i:Nat} (A:Mat) (h:i<N):(dT N A)[i]?=some (bJ N (A i),ai (A i N)):=by
 unfold dT;rw[adR,adS h];rfl
theorem Cw {N i k:Nat} (A:Mat) (hi:i<N) (hk:k≤N):jS (dT N A) i k=A i k:=by
 unfold jS;rw[AE (tX A hi),eR]
 by_cases h:k<N
 ·rw[if_pos h,adT,fu _ h,Option.getD_some,kv]
 ·rw[if_neg h,kv,show k=N by omega]
theorem lU {x:Rat} (h:cn x):bf (ai x)=true:=(kH _).2 ⟨x,h,rfl⟩
theorem yW {N:Nat} {A:Mat} (hN:N≤40) (hl:∀ i,i<N→∀ k,k≤N→cn (A i k)):fB (dT N A) N=true:=by
 unfold fB
 have h3:(dT N A).any (fG N)=false:=by
  rw[adU];intro r hr;obtain⟨i,hi,rfl⟩:=List.mem_map.1 hr;have hi:=List.mem_range.1 hi;unfold fG Dn;simp only[dj,beq_self_eq_true,adV,lU (hl i hi N (adW _))]
  have:(bJ N (A i)).any (fun f => !bf f)=false:=by
   rw[adU];intro f hf;unfold bJ at hf;obtain⟨x,hx,rfl⟩:=List.mem_map.1 hf;obtain⟨k,hk,rfl⟩:=List.mem_map.1 hx;rw[lU (hl i hi k (by have:=List.mem_range.1 hk;omega))]
   decide
  rw[this];decide
 rw[h3,eR];simp only[adX,adY,decide_eq_false_iff_not,beq_self_eq_true,adZ,and_true];omega
theorem Gf {N:Nat} {A:Mat} (hN:N≤40) (hl:∀ i,i<N→∀ k,k≤N→cn (A i k)):im (dT N A):=by
 refine⟨by rw[eR];omega,fun r hr=>?_⟩
 obtain⟨i,hi,rfl⟩:=List.mem_map.1 hr;have hi:=List.mem_range.1 hi;exact⟨sL hN fun k hk=>hl i hi k (by omega),eA (hl i hi N (adW _))⟩
theorem vS {N:Nat} {a b y:Nat→Rat} (h:∀ k,k≤N→a k=b k):kC N a y=kC N b y:=bV fun k hk=>by rw[h k (by omega)]
theorem Ann.congr {N:Nat} {A B:Mat} (h:∀ i,i<N→∀ k,k≤N→A i k=B i k) (y:Nat→Rat):Ann N A y↔Ann N B y:=by
 unfold Ann
 constructor
 ·intro hA i hi;rw[←vS (h i hi)];exact hA i hi
 ·intro hA i hi;rw[vS (h i hi)];exact hA i hi
theorem Scaled.congr {N b v:Nat} {A B:Mat} (h:∀ i,i<N→∀ k,k≤N→A i k=B i k) (hs:Scaled N A b v):Scaled N B b v:=by
 obtain⟨D,hD⟩:=hs;exact⟨D,fun k hk=>⟨(hD k hk).1,(hD k hk).2.1,fun i hi=>by rw[←h i hi k hk];exact (hD k hk).2.2 i hi⟩⟩
theorem Scaled.sz {N b v:Nat} {A:Mat} (hs:Scaled N A b v) (hb:b≤v) {i k:Nat} (hi:i<N) (hk:k≤N):szR v (A i k):=by
 obtain⟨D,hD⟩:=hs;obtain⟨h1,h2,h3⟩:=hD k hk;obtain⟨z,hz,hz2⟩:=h3 i hi;have hle:2^(if k<N then b else v)≤2^v:=ad0 (by omega) (by split<;>omega);obtain⟨f1,f2⟩:=fE (q:=A i k) (v:=z) (d:=(D k:Int)) (by omega) (by rw[←hz,ad1,ad2]);rw[ad3] at f2;exact⟨ad4 f1 (ad4 hz2 hle),ad4 f2 (ad4 h2 hle)⟩
theorem DD {N b v:Nat} {A:Mat} (hN:N≤5) (hs:Scaled N A b v) (hb:b≤30) (hv:v≤210) (hbv:b≤v) (hns:¬ Sing N A) {x:Nat→Rat} (hx:Ann N A (ext N x (-1))) :
  gV (dT N A) N=(bJ N x,0)∧fB (dT N A) N=true∧∀ k,k<N→cn (x k):=by
 have hl:∀ i,i<N→∀ k,k≤N→cn (A i k):=fun i hi k hk=>eE (hs.sz hbv hi hk) (by omega)
 have hr:=yW (by omega) hl;have hc:∀ i,i<N→∀ k,k≤N→A i k=jS (dT N A) i k:=fun i hi k hk=>(Cw A hi hk).symm
 have hs':=hs.congr hc
 have hns':¬ Sing N (jS (dT N A)):=by
  rintro⟨y,hy,h⟩;exact hns ⟨y,(Ann.congr hc _).2 hy,h⟩
 have h1:(N+1)*b≤6*30:=ad5 (by omega) hb;have h2:(N+2)*b≤7*30:=ad5 (by omega) hb;obtain⟨y,e1,e2,e3⟩:=C6 (rs:=dT N A) (n:=N) (c:=12) (b:=b) (v:=v) hr (by rw[eR];exact Od hN) (by rw[eR];exact hs') hbv (by rw[eR];omega) (by rw[eR];exact hns');rw[eR] at e1 e2 e3;have hxy:∀ k,k<N→x k=y k:=(e3.1 x).1 ((Ann.congr hc _).1 hx);exact⟨by rw[e1,jq fun k hk=>(hxy k hk).symm],hr,fun k hk=>by rw[hxy k hk];exact e2 k hk⟩
structure PayG (d:Day) (f:Nat→Nat) (P:Nat→Prop):Prop where
 ok:d.OK
 ex:∃ g,Inv d f g∧Pay d f g P (d.lst f P)
theorem PayG.good {d:Day} {f:Nat→Nat} {P:Nat→Prop} (h:PayG d f P):Good d f P:=by
 obtain⟨h1,g,h2,h3⟩:=h;exact h3.good h1 h2
theorem PayG.S_pos {d:Day} {f:Nat→Nat} {P:Nat→Prop} (h:PayG d f P):∀ k,P k→0<d.S k (f k):=by
 obtain⟨h1,g,h2,h3⟩:=h;exact fun k hk=>h2.S_pos (h3.fallen k hk).1 (h3.fallen k hk).2
theorem PayG.gt {d:Day} {f:Nat→Nat} {P:Nat→Prop} (h:PayG d f P):∀ k,P k→d.U k (f k)<d.lst f P k:=by
 obtain⟨h1,g,h2,h3⟩:=h;exact h3.ge
theorem Pay.l_range {d:Day} (hd:d.OK) {f:Nat→Nat} {g:Nat→Rat} {P:Nat→Prop} {h:Nat→Rat} (hi:Inv d f g) (hp:Pay d f g P h) {c:Cl} (hc:c∈d.cl):0≤d.l f P h c∧d.l f P h c≤c.am:=by
 have h0:=hd.am c hc
 by_cases h1:c.rk<f c.fr
 ·rw[Day.l_lt h1];exact⟨h0,ad6⟩
 ·by_cases h2:c.rk=f c.fr∧P c.fr
  ·rw[Day.l_eq h2.1 h2.2]
   have e1:=hp.ge _ h2.2;have e2:=hp.le _ (hd.fr c hc);have e3:=hi.hi _ (hd.fr c hc) (hp.fallen _ h2.2).2;rw[d.U_succ] at e3;rw[h2.1];exact⟨dy (hd.w_nonneg hc) (by grind),hd.w_le hc (by rw[h2.1];grind)⟩
  ·rw[Day.l_no h1 h2];exact⟨ad6,h0⟩
theorem PayG.range {d:Day} {f:Nat→Nat} {P:Nat→Prop} (h:PayG d f P) {i:Nat} (hi:i<d.n):0≤d.lst f P i∧d.lst f P i≤d.into (fun c=>c.am) i:=by
 obtain⟨h1,g,h2,h3⟩:=h;rw[h3.sys i hi];exact⟨h1.into_nonneg (fun c hc=>(h3.l_range h1 h2 hc).1) hi,d.into_le (fun c hc=>(h3.l_range h1 h2 hc).2) i⟩
theorem Lq {cash:List Int} {cs:List ClR} (hs:SmallD cash cs) (i:Nat):(ab cash cs).into (fun c=>c.am) i≤((2^51:Nat):Rat):=by
 have e:(ab cash cs).into (fun c=>c.am) i=((cash.getD i 0+bq cs (fun c=>if c.2.1=(i:Int) then c.2.2.2 else 0):Int):Rat):=by
  unfold Day.into;rw[ad7]
  congr 1
  refine (oE cs _ (fun c=>if c.to=(i:Int) then c.am else 0) fun c hc=>?_).symm
  show ((if c.2.1=(i:Int) then c.2.2.2 else 0:Int):Rat)=if c.2.1=(i:Int) then (c.2.2.2:Rat) else 0
  split<;>rfl
 rw[e];have h1:=hs.cash i;have h2:=hs.sum fun c=>c.2.1=(i:Int)
 have:cash.getD i 0+bq cs (fun c=>if c.2.1=(i:Int) then c.2.2.2 else 0)≤((2^51:Nat):Int):=by omega
 rw[←ad1]
 exact_mod_cast this
theorem Day.OK.W_nonneg {d:Day} (hd:d.OK) (f:Nat→Nat) (k i:Nat):0≤d.W f k i:=dV fun c hc=>by
 split
 ·exact hd.w_nonneg hc
 ·exact ad6
theorem Ly {n t:Nat} {T:Nat→Rat} (h:∀ k,k<n→0≤T k) (ht:t≤n):sumQ t T≤sumQ n T:=by
 induction n with
 | zero=>rw[show t=0 by omega];exact ad6
 | succ n ih =>
  by_cases htn:t=n+1
  ·rw[htn];exact ad6
  ·have h1:=ih (fun k hk=>h k (by omega)) (by omega)
   have h2:=h n (by omega);rw[sumQ];grind
theorem NZ {N t M a e:Nat} {s:Rat} {T:Nat→Rat} (hM:0<M) (hMa:M≤2^a) (hs0:0≤s) (hsd:DenBy M s) (hT0:∀ k,k<N→0≤T k) (hTd:∀ k,k<N→DenBy M (T k)) (hx:s+sumQ N T≤((2^e:Nat):Rat)) (ht:t≤N):szR (a+e) (s+sumQ t T)∧∀ k,k<N→szR (a+e) (T k):=by
 have h1:∀ t,t≤N→0≤sumQ t T∧sumQ t T≤sumQ N T:=fun t ht=>⟨sc fun k hk=>hT0 k (by omega),Ly hT0 ht⟩
 refine⟨(hsd.add (DenBy.sumQ fun k hk=>hTd k (by omega))).sz hM hMa (by have:=(h1 t ht).1;grind) (by have:=(h1 t ht).2;grind),fun k hk=>(hTd k hk).sz hM hMa (hT0 k hk) ?_⟩
 have h2:=(h1 k (by omega)).1;have h3:=(h1 (k+1) (by omega)).2;rw[sumQ] at h3;grind
section
variable {cash:List Int} {cs:List ClR} (hs:SmallD cash cs) {f:Nat→Nat} {P:Nat→Prop} (hp:PayG (ab cash cs) f P)
include hs hp
theorem oz {i:Nat} (hi:i<cash.length):0≤(ab cash cs).lst f P i∧(ab cash cs).lst f P i≤((2^51:Nat):Rat):=by
 have h:=hp.range (d:=ab cash cs) hi;exact⟨h.1,ad8 h.2 (Lq hs i)⟩
theorem EP:∃ M:Nat,0<M∧(∃ a,a≤402∧M≤2^a)∧∀ i,i<cash.length→DenBy M ((ab cash cs).lst f P i):=by
 obtain⟨M,h1,h2,h3⟩:=Kp (N:=cash.length) hp.good.big (Od hs.n5) (Cn hs hp.S_pos) ((EH hp.ok f P _).2 hp.good.lst);have hn:=hs.n5;have:(cash.length+1)*30≤6*30:=ad9 _ (by omega);exact⟨M,h1,⟨_,by omega,h2⟩,h3⟩
theorem Iu {i:Nat} (hi:i<cash.length):szR 453 ((ab cash cs).lst f P i):=by
 obtain⟨M,h1,⟨a,h0,h2⟩,h3⟩:=EP hs hp;have h4:=oz hs hp hi;exact ((h3 i hi).sz h1 h2 h4.1 h4.2).mono (by omega)
theorem zD:gV (dT (payers P cash.length).length ((ab cash cs).smallM f (payers P cash.length))) (payers P cash.length).length=(bJ (payers P cash.length).length (fun k=>(ab cash cs).lst f P ((payers P cash.length).getD k 0)-(ab cash cs).U ((payers P cash.length).getD k 0) (f ((payers P cash.length).getD k 0))),0)∧fB (dT (payers P cash.length).length ((ab cash cs).smallM f (payers P cash.length))) (payers P cash.length).length=true:=by
 have hlen:(payers P cash.length).length≤5:=by
  have:=aea (fun i=>decide (P i)) (adQ cash.length);rw[aeb] at this;have:=hs.n5;unfold payers;omega
 have:=DD hlen (mX hs hp.S_pos _ fun k hk=>(gC hk).2) (adW _) (by omega) (by omega) hp.good.small hp.good.small_sol;exact⟨this.1,this.2.1⟩
theorem Gt:∃ M:Nat,0<M∧(∃ a,a≤244∧M≤2^a)∧∀ k,k<(payers P cash.length).length→DenBy M ((ab cash cs).lst f P ((payers P cash.length).getD k 0)-(ab cash cs).U ((payers P cash.length).getD k 0) (f ((payers P cash.length).getD k 0))):=by
 have hlen:(payers P cash.length).length≤5:=by
  have:=aea (fun i=>decide (P i)) (adQ cash.length);rw[aeb] at this;have:=hs.n5;unfold payers;omega
 have hpn:payers P (ab cash cs).n=payers P cash.length:=rfl;have hss:=hp.good.small_sol;have hsm:=hp.good.small;rw[hpn] at hss hsm;obtain⟨M,h1,h2,h3⟩:=Kp hsm (Od hlen) (mX hs hp.S_pos _ fun k hk=>(gC hk).2) hss;have:((payers P cash.length).length+1)*30≤6*30:=ad9 _ (by omega);exact⟨M,h1,⟨_,by omega,h2⟩,h3⟩
theorem N8 {k:Nat} (hk:P k) (i:Nat):szR 30 ((ab cash cs).W f k i)∧DenBy (SN cs k (f k)) ((ab cash cs).W f k i):=by
 have e:=JE hs hp.S_pos hk i;have h0:=yX hs hp.S_pos hk;have h1:=hs.SN_le k (f k);have h2:=hs.sum fun c=>c.2.1=(i:Int)∧c.1=(k:Int)∧c.2.2.1=(f k:Int)
 obtain⟨f1,f2⟩:=fE (q:=(ab cash cs).W f k i) (v:=wI cs f k i) (d:=(SN cs k (f k):Int)) (by omega) (by rw[←e,ad1,ad2]);rw[ad3] at f2;refine⟨⟨ad4 f1 (by unfold wI;omega),ad4 f2 (by omega)⟩,wI cs f k i,by rw[←e,ad2]⟩
theorem Mp {i t:Nat} (hi:i<cash.length) (ht:t≤(payers P cash.length).length) :
  szR 440 ((ab cash cs).st f i+sumQ t fun k=>(ab cash cs).W f ((payers P cash.length).getD k 0) i*((ab cash cs).lst f P ((payers P cash.length).getD k 0)-(ab cash cs).U ((payers P cash.length).getD k 0) (f ((payers P cash.length).getD k 0)))) ∧
  (∀ k,k<(payers P cash.length).length→szR 440 ((ab cash cs).W f ((payers P cash.length).getD k 0) i*((ab cash cs).lst f P ((payers P cash.length).getD k 0)-(ab cash cs).U ((payers P cash.length).getD k 0) (f ((payers P cash.length).getD k 0))))) ∧
  ∀ k,k<(payers P cash.length).length→szR 295 ((ab cash cs).lst f P ((payers P cash.length).getD k 0)-(ab cash cs).U ((payers P cash.length).getD k 0) (f ((payers P cash.length).getD k 0))):=by
 have hlen:(payers P cash.length).length≤5:=by
  have:=aea (fun i=>decide (P i)) (adQ cash.length);rw[aeb] at this;have:=hs.n5;unfold payers;omega
 obtain⟨M,m1,⟨a,m0,m2⟩,m3⟩:=Gt hs hp;have hmem:∀ k,k<(payers P cash.length).length→(payers P cash.length).getD k 0<cash.length∧P ((payers P cash.length).getD k 0):=fun k hk=>gC hk
 have hsol:=hp.good.lst_pay (d:=ab cash cs) hi;have hpn:payers P (ab cash cs).n=payers P cash.length:=rfl;rw[hpn] at hsol;generalize hpd:payers P cash.length=p at *
 have hex0:∀ k,k<p.length→0≤(ab cash cs).lst f P (p.getD k 0)-(ab cash cs).U (p.getD k 0) (f (p.getD k 0)):=fun k hk=>by
  have:=hp.gt _ (hmem k hk).2;grind
 have hex1:∀ k,k<p.length→(ab cash cs).lst f P (p.getD k 0)-(ab cash cs).U (p.getD k 0) (f (p.getD k 0))≤((2^51:Nat):Rat):=fun k hk=>by
  have h1:=(oz hs hp (hmem k hk).1).2;have h2:=hp.ok.U_nonneg (p.getD k 0) (f (p.getD k 0));grind
 have hpp:0<ie p.length fun k=>SN cs (p.getD k 0) (f (p.getD k 0)):=ru fun k hk=>yX hs hp.S_pos (hmem k hk).2
 have hpl:(ie p.length fun k=>SN cs (p.getD k 0) (f (p.getD k 0)))≤2^145:=ad4 (uc fun k _=>hs.SN_le _ _) (ad0 (by omega) (by omega));have hst:=qy hs.right f i;have hst2:=hs.steady f i;have hst0:0≤(ab cash cs).st f i:=by rw[←hst];exact_mod_cast hst2.1
 have hr:=(oz hs hp hi).2;rw[hsol] at hr
 have hpM:(ie p.length fun k=>SN cs (p.getD k 0) (f (p.getD k 0)))*M≤2^(145+a):=by
  rw[aec];exact ad5 hpl m2
 have hmain:=NZ (T:=fun k=>(ab cash cs).W f (p.getD k 0) i*((ab cash cs).lst f P (p.getD k 0)-(ab cash cs).U (p.getD k 0) (f (p.getD k 0)))) (aed hpp m1) hpM hst0 (by rw[←hst];exact DenBy.int _ _) (fun k hk=>dy (hp.ok.W_nonneg f _ _) (hex0 k hk)) (fun k hk=>((N8 hs hp (hmem k hk).2 i).2.of_dvd (rz (D:=fun k=>SN cs (p.getD k 0) (f (p.getD k 0))) hk)).mul (m3 k hk)) hr ht
 exact⟨hmain.1.mono (by omega),fun k hk=>(hmain.2 k hk).mono (by omega),fun k hk=>((m3 k hk).sz m1 m2 (hex0 k hk) (hex1 k hk)).mono (by omega)⟩
end
end Go.Mini
namespace Go.Mini
open Go
def mf_ref20_Few:MFunc :=
 { n:=53,np:=2,res:=[.t 4],body :=
 (.seq (.ops [
 Zb 4 false])
 (.seq (.seq (.ops [
 Zv 7 0,Zn 8 7,Zc 9 .gtr 8 5,Zv 10 9,⟨some 11,some (10,false),.mv (.t 1)⟩,⟨some 12,some (10,false),.len (.t 11)⟩,⟨some 13,some (10,false),.bin .gtr (.t 12) (.c (ZI 12))⟩,Zp 14 10 13])
 (.cond (.t 14)
 (.seq (.ops [
 Zb 4 false])
 .ret)
 .skip))
 (.seq (.seq (.ops [
 Zi 5 0])
 (.block 0
 (.loop
 (.seq (.seq (.ops [
 Zv 15 5,Zv 16 0,Zn 17 16,Zo 18 .lss 15 17])
 (.cond (.t 18)
 .skip
 (.exit 0)))
 (.seq (.block 1
 (.seq (.ops [
 Zv 21 0,Zv 22 5,Za 23 1 21 22,Zl 24 1 23,Zc 25 .gtr 24 1000000,Zv 26 25,⟨some 27,some (26,true),.mv (.t 0)⟩,⟨some 28,some (26,true),.mv (.t 5)⟩,⟨some 29,some (26,true),.iad 1 (.t 27) (.t 28)⟩,⟨some 30,some (26,true),.load 1 false (.t 29)⟩,⟨some 31,some (26,true),.bin .leq (.t 30) (.c (ZI 1000000000000000))⟩,Zq 32 26 31])
 (.cond (.t 32)
 (.seq (.ops [
 Zb 4 false])
 .ret)
 .skip)))
 (.ops [
 Zv 19 5,Zc 20 .add 19 1,Zv 5 20]))))))
 (.seq (.seq (.ops [
 Zi 6 0])
 (.block 2
 (.loop
 (.seq (.seq (.ops [
 Zv 33 6,Zv 34 1,Zn 35 34,Zo 36 .lss 33 35])
 (.cond (.t 36)
 .skip
 (.exit 2)))
 (.seq (.block 3
 (.seq (.ops [
 Zv 39 1,Zv 40 6,Za 41 4 39 40,Zf 42 3 41,Zl 43 1 42,Zc 44 .gtr 43 1000000,Zv 45 44,⟨some 46,some (45,true),.mv (.t 1)⟩,⟨some 47,some (45,true),.mv (.t 6)⟩,⟨some 48,some (45,true),.iad 4 (.t 46) (.t 47)⟩,⟨some 49,some (45,true),.fad 3 (.t 48)⟩,⟨some 50,some (45,true),.load 1 false (.t 49)⟩,⟨some 51,some (45,true),.bin .leq (.t 50) (.c (ZI 1000000000000000))⟩,Zq 52 45 51])
 (.cond (.t 52)
 (.seq (.ops [
 Zb 4 false])
 .ret)
 .skip)))
 (.ops [
 Zv 37 6,Zc 38 .add 37 1,Zv 6 38]))))))
 (.seq (.ops [
 Zb 4 true])
 .ret))))) }
def mf_ref20_SameRounds:MFunc :=
 { n:=53,np:=2,res:=[.t 4],body :=
 (.seq (.ops [
 Zb 4 false])
 (.seq (.seq (.ops [
 Zv 7 0,Zn 8 7,Zv 9 1,Zn 10 9,Zo 11 .neq 8 10])
 (.cond (.t 11)
 (.seq (.ops [
 Zb 4 false])
 .ret)
 .skip))
 (.seq (.seq (.ops [
 Zi 5 0])
 (.block 0
 (.loop
 (.seq (.seq (.ops [
 Zv 12 5,Zv 13 0,Zn 14 13,Zo 15 .lss 12 14])
 (.cond (.t 15)
 .skip
 (.exit 0)))
 (.seq (.block 1
 (.seq (.seq (.opsD [
 Zv 18 0,Zv 19 5,Za 20 1 18 19,Zl 21 1 20,Zn 22 21,Zv 23 1,Zv 24 5,Za 25 1 23 24,Zl 26 1 25,Zn 27 26,Zo 28 .neq 22 27] [[],[],[],[],[],[],[],[],[],[],[]])
 (.cond (.t 28)
 (.seq (.ops [
 Zb 4 false])
 .ret)
 .skip))
 (.seq (.ops [
 Zi 6 0])
 (.block 2
 (.loop
 (.seq (.seq (.ops [
 Zv 29 6,Zv 30 0,Zv 31 5,Za 32 1 30 31,Zl 33 1 32,Zn 34 33,Zo 35 .lss 29 34])
 (.cond (.t 35)
 .skip
 (.exit 2)))
 (.seq (.block 3
 (.seq (.opsD [
 Zv 38 0,Zv 39 5,Za 40 1 38 39,Zl 41 1 40,Zv 42 6,Za 43 1 41 42,Zl 44 1 43,Zv 45 1,Zv 46 5,Za 47 1 45 46,Zl 48 1 47,Zv 49 6,Za 50 1 48 49,Zl 51 1 50,Zo 52 .neq 44 51] [[],[],[],[],[],[],[],[],[],[],[],[],[],[],[]])
 (.cond (.t 52)
 (.seq (.ops [
 Zb 4 false])
 .ret)
 .skip)))
 (.ops [
 Zv 36 6,Zc 37 .add 36 1,Zv 6 37]))))))))
 (.ops [
 Zv 16 5,Zc 17 .add 16 1,Zv 5 17]))))))
 (.seq (.ops [
 Zb 4 true])
 .ret)))) }

def mf_rank_Short:MFunc :=
 { n:=49,np:=2,res:=[.t 4,.t 5],body :=
 (.seq (.ops [
 Zi 4 0,Zb 5 false])
 (.seq (.seq (.ops [
 Zv 9 0,⟨some 10,none,.call ia [(.t 9)]⟩,Zt 11 10,Zv 12 11,⟨some 13,some (12,false),.mv (.t 1)⟩,⟨some 14,some (12,false),.len (.t 13)⟩,⟨some 15,some (12,false),.mv (.t 0)⟩,⟨some 16,some (12,false),.len (.t 15)⟩,⟨some 17,some (12,false),.bin .neq (.t 14) (.t 16)⟩,Zp 18 12 17])
 (.cond (.t 18)
 (.seq (.ops [
 Zi 4 0,Zb 5 false])
 .ret)
 .skip))
 (.seq (.ops [
 Zi 6 10])
 (.seq (.seq (.ops [
 Zv 19 0,Zn 20 19,Zi 21 0])
 (.block 0
 (.loop
 (.seq (.ops [
 Zo 22 .lss 21 20])
 (.seq (.cond (.t 22)
 .skip
 (.exit 0))
 (.seq (.block 1
 (.seq (.ops [
 Zv 23 21,Za 24 4 19 21,Zu 25 4 24,⟨some 8,none,.alloc 225008 [(ZI 0),(ZI 0),(ZI 0),(ZI 0)]⟩,Zv 7 23,Zs 4 8 25])
 (.seq (.seq (.ops [
 Zv 26 1,Zv 27 7,Za 28 4 26 27,Zu 29 4 28,⟨some 30,none,.call aT [(.t 29)]⟩,Zt 31 30])
 (.cond (.t 31)
 (.seq (.ops [
 Zi 4 0,Zb 5 false])
 .ret)
 .skip))
 (.seq (.opsD [
 Zv 32 1,Zv 33 7,Za 34 4 32 33,Zu 35 4 34,Zf 36 3 8,Zl 37 1 36,⟨some 38,none,.call cE [(.t 37)]⟩,⟨some 39,none,.call a0 [(.t 35),(.t 38)]⟩,Zc 40 .lss 39 0] [[],[],[],[],[],[],[],[],[]])
 (.cond (.t 40)
 (.ops [
 Zv 41 6,Zf 42 2 8,Zl 43 1 42,⟨some 44,none,.mm false (.t 41) (.t 43)⟩,Zv 6 44])
 .skip)))))
 (.ops [
 Zc 45 .add 21 1,Zv 21 45])))))))
 (.seq (.seq (.ops [
 Zv 46 6,Zc 47 .eql 46 10])
 (.cond (.t 47)
 (.seq (.ops [
 Zi 4 0,Zb 5 false])
 .ret)
 .skip))
 (.seq (.ops [
 Zv 48 6,Zv 4 48,Zb 5 true])
 .ret)))))) }
def mf_rank_right:MFunc :=
 { n:=46,np:=1,res:=[.t 2],body :=
 (.seq (.ops [
 Zb 2 false])
 (.seq (.seq (.ops [
 Zv 5 0,Zn 6 5,Zi 7 0])
 (.block 0
 (.loop
 (.seq (.ops [
 Zo 8 .lss 7 6])
 (.seq (.cond (.t 8)
 .skip
 (.exit 0))
 (.seq (.block 1
 (.seq (.ops [
 Za 9 4 5 7,Zu 10 4 9,⟨some 4,none,.alloc 240004 [(ZI 0),(ZI 0),(ZI 0),(ZI 0)]⟩,Zs 4 4 10])
 (.seq (.opsD [
 Zf 11 0 4,Zl 12 1 11,⟨some 13,none,.call fy [(.t 12),(.c (ZI 0)),(.c (ZI 59))]⟩,Zt 14 13,Zv 15 14,⟨some 16,some (15,false),.fad 1 (.t 4)⟩,⟨some 17,some (15,false),.load 1 false (.t 16)⟩,⟨some 18,some (15,false),.call fy [(.t 17),(.c (.dat (.int .i64 (-1)))),(.c (ZI 59))]⟩,⟨some 19,some (15,false),.un .not (.t 18)⟩,Zp 20 15 19,Zv 21 20,⟨some 22,some (21,false),.fad 2 (.t 4)⟩,⟨some 23,some (21,false),.load 1 false (.t 22)⟩,⟨some 24,some (21,false),.call fy [(.t 23),(.c (ZI 0)),(.c (ZI 9))]⟩,⟨some 25,some (21,false),.un .not (.t 24)⟩,Zp 26 21 25,Zv 27 26,⟨some 28,some (27,false),.fad 3 (.t 4)⟩,⟨some 29,some (27,false),.load 1 false (.t 28)⟩,⟨some 30,some (27,false),.call fy [(.t 29),(.c (ZI 0)),(.c (ZI 1000000000000000))]⟩,⟨some 31,some (27,false),.un .not (.t 30)⟩,Zp 32 27 31,Zv 33 32,⟨some 34,some (33,false),.fad 0 (.t 4)⟩,⟨some 35,some (33,false),.load 1 false (.t 34)⟩,⟨some 36,some (33,false),.mv (.t 0)⟩,⟨some 37,some (33,false),.iad 4 (.t 36) (.c (ZI 0))⟩,⟨some 38,some (33,false),.fad 0 (.t 37)⟩,⟨some 39,some (33,false),.load 1 false (.t 38)⟩,⟨some 40,some (33,false),.bin .neq (.t 35) (.t 39)⟩,Zp 41 33 40] [[],[],[],[],[],[],[],[],[],[],[],[],[],[],[],[],[],[],[],[],[],[],[],[],[],[],[],[],[],[],[]])
 (.cond (.t 41)
 (.seq (.ops [
 Zb 2 false])
 .ret)
 .skip))))
 (.ops [
 Zc 42 .add 7 1,Zv 7 42])))))))
 (.seq (.ops [
 Zv 43 0,Zn 44 43,Zc 45 .leq 44 2000,Zv 2 45])
 .ret))) }
def mf_rank_whole:MFunc :=
 { n:=11,np:=1,res:=[.cell 2 4 true],body :=
 (.seq (.ops [
 ⟨some 2,none,.alloc 241002 [(ZI 0),.nil,(ZI 0),.nil]⟩])
 (.seq (.ops [
 Zv 6 0,⟨some 7,none,.call iy [(.t 6),(.c (ZI 1))]⟩,Zv 5 7,Zx 8 0 5,Zx 9 1 5,⟨some 3,none,.alloc 241003 [(ZI 0),.nil,(ZI 0),.nil]⟩,Zs 4 3 8,Zv 4 9])
 (.seq (.ops [
 Zu 10 4 3,Zs 4 2 10])
 .ret))) }
def mf_rank_Split:MFunc :=
 { n:=118,np:=2,res:=[.t 4,.t 5],body :=
 (.seq (.ops [
 Zk 2 249002 0,Ze 4,Zi 5 0])
 (.seq (.seq (.opsD [
 Zu 19 4 2,⟨some 20,none,.call aT [(.t 19)]⟩,Zt 21 20,Zv 22 21,⟨some 23,some (22,false),.load 4 true (.t 2)⟩,⟨some 24,some (22,false),.call cE [(.c (ZI 0))]⟩,⟨some 25,some (22,false),.call a0 [(.t 23),(.t 24)]⟩,⟨some 26,some (22,false),.bin .lss (.t 25) (.c (ZI 0))⟩,Zp 27 22 26,Zv 28 27,⟨some 29,some (28,false),.mv (.t 1)⟩,⟨some 30,some (28,false),.call ia [(.t 29)]⟩,⟨some 31,some (28,false),.un .not (.t 30)⟩,Zp 32 28 31] [[],[],[],[],[],[],[],[],[],[],[],[],[],[]])
 (.cond (.t 32)
 (.seq (.ops [
 Ze 4,Zi 5 1])
 .ret)
 .skip))
 (.seq (.ops [
 Zv 33 1,Zn 34 33,⟨some 35,none,.mksl 249035 [(ZI 0),.nil,(ZI 0),.nil] 64 (.t 34) (.t 34)⟩,Zv 6 35])
 (.seq (.ops [
 Zu 36 4 2,⟨some 7,none,.alloc 249007 [(ZI 0),.nil,(ZI 0),.nil]⟩,Zs 4 7 36])
 (.seq (.seq (.ops [
 Zi 37 0])
 (.block 0
 (.loop
 (.seq (.ops [
 Zc 38 .lss 37 10])
 (.seq (.cond (.t 38)
 .skip
 (.exit 0))
 (.seq (.block 1
 (.seq (.ops [
 Zv 39 37,Zv 8 39])
 (.seq (.ops [
 Zi 9 0])
 (.seq (.seq (.ops [
 Zv 40 1,Zn 41 40,Zi 42 0])
 (.block 2
 (.loop
 (.seq (.ops [
 Zo 43 .lss 42 41])
 (.seq (.cond (.t 43)
 .skip
 (.exit 2))
 (.seq (.block 3
 (.seq (.ops [
 Za 44 4 40 42,Zu 45 4 44,⟨some 11,none,.alloc 249011 [(ZI 0),(ZI 0),(ZI 0),(ZI 0)]⟩,Zs 4 11 45])
 (.seq (.ops [
 Zf 46 2 11,Zl 47 1 46,Zv 48 8,Zo 49 .eql 47 48])
 (.cond (.t 49)
 (.ops [
 Zv 50 9,Zf 51 3 11,Zl 52 1 51,Zo 53 .add 50 52,Zv 9 53])
 .skip))))
 (.ops [
 Zc 54 .add 42 1,Zv 42 54])))))))
 (.seq (.opsD [
 Zu 55 4 7,Zv 56 9,⟨some 57,none,.call cE [(.t 56)]⟩,⟨some 58,none,.call a0 [(.t 55),(.t 57)]⟩,Zc 59 .geq 58 0,Zv 12 59] [[],[],[],[],[],[]])
 (.seq (.seq (.ops [
 Zv 60 1,Zn 61 60,Zi 62 0])
 (.block 4
 (.loop
 (.seq (.ops [
 Zo 63 .lss 62 61])
 (.seq (.cond (.t 63)
 .skip
 (.exit 4))
 (.seq (.block 5
 (.seq (.ops [
 Zv 64 62,Za 65 4 60 62,Zu 66 4 65,⟨some 14,none,.alloc 249014 [(ZI 0),(ZI 0),(ZI 0),(ZI 0)]⟩,Zv 13 64,Zs 4 14 66])
 (.seq (.seq (.ops [
 Zf 67 2 14,Zl 68 1 67,Zv 69 8,Zo 70 .neq 68 69])
 (.cond (.t 70)
 (.exit 5)
 .skip))
 (.seq (.ops [
 Zv 71 6,Zv 72 13,Zf 73 3 14,Zl 74 1 73,⟨some 75,none,.call cE [(.t 74)]⟩,Za 76 4 71 72,Zs 4 76 75])
 (.seq (.seq (.ops [
 Zv 77 12])
 (.cond (.t 77)
 (.exit 5)
 .skip))
 (.seq (.opsD [
 Zf 79 3 14,Zl 80 1 79,⟨some 81,none,.call cE [(.t 80)]⟩,Zu 82 4 7,⟨some 83,none,.call dI [(.t 81),(.t 82)]⟩,Zv 78 83,Zx 84 0 78,Zx 85 1 78,⟨some 15,none,.alloc 249015 [(ZI 0),.nil,(ZI 0),.nil]⟩,Zs 4 15 84,Zv 16 85] [[],[],[],[],[],[],[],[],[1,3],[],[]])
 (.seq (.seq (.ops [
 Zv 86 16,Zc 87 .eql 86 0])
 (.cond (.t 87)
 (.opsD [
 Zv 89 6,Zv 90 13,Zu 91 4 15,Zv 92 9,⟨some 93,none,.call cE [(.t 92)]⟩,⟨some 94,none,.call gy [(.t 91),(.t 93)]⟩,Zv 88 94,Zx 95 0 88,Zx 96 1 88,Za 97 4 89 90,Zs 4 97 95,Zv 16 96] [[],[],[],[],[],[],[],[],[],[],[],[]])
 .skip))
 (.seq (.ops [
 Zv 98 16,Zc 99 .neq 98 0])
 (.cond (.t 99)
 (.seq (.ops [
 Zv 100 16,Ze 4,Zv 5 100])
 .ret)
 .skip)))))))))
 (.ops [
 Zc 101 .add 62 1,Zv 62 101])))))))
 (.seq (.seq (.ops [
 Zv 102 12,Zt 103 102])
 (.cond (.t 103)
 (.seq (.ops [
 ⟨some 104,none,.call cE [(.c (ZI 0))]⟩,Zs 4 7 104])
 (.exit 1))
 .skip))
 (.seq (.opsD [
 Zu 106 4 7,Zv 107 9,⟨some 108,none,.call cE [(.t 107)]⟩,⟨some 109,none,.call dW [(.t 106),(.t 108)]⟩,Zv 105 109,Zx 110 0 105,Zx 111 1 105,⟨some 17,none,.alloc 249017 [(ZI 0),.nil,(ZI 0),.nil]⟩,Zs 4 17 110,Zv 18 111] [[],[],[],[],[],[],[],[0],[],[]])
 (.seq (.seq (.ops [
 Zv 112 18,Zc 113 .neq 112 0])
 (.cond (.t 113)
 (.seq (.ops [
 Zv 114 18,Ze 4,Zv 5 114])
 .ret)
 .skip))
 (.ops [
 Zu 115 4 17,Zs 4 7 115]))))))))))
 (.ops [
 Zc 116 .add 37 1,Zv 37 116])))))))
 (.seq (.ghost (.freeze 6) (.ops [
 Zv 117 6,Zv 4 117,Zi 5 0]))
 .ret)))))) }
def mf_rank_within:MFunc :=
 { n:=15,np:=3,res:=[.t 6],body :=
 (.seq (.ops [
 Zb 6 false])
 (.seq (.ops [
 Zv 7 0,Zv 8 1,Zo 9 .geq 7 8,Zv 10 9,⟨some 11,some (10,true),.mv (.t 0)⟩,⟨some 12,some (10,true),.mv (.t 2)⟩,⟨some 13,some (10,true),.bin .leq (.t 11) (.t 12)⟩,Zq 14 10 13,Zv 6 14])
 .ret)) }
def mf_law20_ClearFalls:MFunc :=
 { n:=170,np:=2,res:=[.t 4],body :=
 (.seq (.ops [
 Zb 4 false])
 (.seq (.ops [
 ⟨some 20,none,.call kp []⟩,Zv 5 20])
 (.seq (.seq (.ops [
 Zv 21 0,Zv 22 1,⟨some 23,none,.call mM [(.t 21),(.t 22)]⟩,Zt 24 23])
 (.cond (.t 24)
 (.seq (.ops [
 Zv 25 5,Zv 4 25])
 .ret)
 .skip))
 (.seq (.ops [
 Zv 27 0,Zv 28 1,⟨some 29,none,.call en [(.t 27),(.t 28)]⟩,Zv 26 29,Zx 30 0 26,Zx 31 1 26,⟨some 6,none,.alloc 214006 [.nil,.nil,.nil]⟩,Zs 3 6 30,Zv 7 31])
 (.seq (.seq (.ops [
 Zv 32 7,Zc 33 .neq 32 0])
 (.cond (.t 33)
 (.seq (.ops [
 Zv 34 5,Zv 4 34])
 .ret)
 .skip))
 (.seq (.seq (.ops [
 Zf 35 1 6,Zl 36 1 35,Zn 37 36,Zv 38 1,Zn 39 38,Zo 40 .neq 37 39])
 (.cond (.t 40)
 (.seq (.ops [
 Zb 4 false])
 .ret)
 .skip))
 (.seq (.ops [
 Zv 41 0,Zn 42 41,⟨some 43,none,.mksl 214043 [(ZI 0)] 8 (.t 42) (.t 42)⟩,Zv 8 43])
 (.seq (.seq (.ops [
 Zi 9 0])
 (.block 0
 (.loop
 (.seq (.seq (.ops [
 Zv 44 9,Zf 45 2 6,Zl 46 1 45,Zn 47 46,Zo 48 .lss 44 47])
 (.cond (.t 48)
 .skip
 (.exit 0)))
 (.seq (.block 1
 (.seq (.seq (.ops [
 Zf 51 2 6,Zl 52 1 51,Zv 53 9,Za 54 1 52 53,Zl 55 1 54,Zn 56 55,Zc 57 .eql 56 0])
 (.cond (.t 57)
 (.seq (.ops [
 Zb 4 false])
 .ret)
 .skip))
 (.seq (.ops [
 Zi 10 0])
 (.block 2
 (.loop
 (.seq (.seq (.ops [
 Zv 58 10,Zf 59 2 6,Zl 60 1 59,Zv 61 9,Za 62 1 60 61,Zl 63 1 62,Zn 64 63,Zo 65 .lss 58 64])
 (.cond (.t 65)
 .skip
 (.exit 2)))
 (.seq (.block 3
 (.seq (.ops [
 Zf 68 2 6,Zl 69 1 68,Zv 70 9,Za 71 1 69 70,Zl 72 1 71,Zv 73 10,Za 74 1 72 73,Zl 75 1 74,Zv 11 75])
 (.seq (.seq (.ops [
 Zv 76 11,Zc 77 .lss 76 0,Zv 78 77,⟨some 79,some (78,false),.mv (.t 11)⟩,⟨some 80,some (78,false),.mv (.t 0)⟩,⟨some 81,some (78,false),.len (.t 80)⟩,⟨some 82,some (78,false),.bin .geq (.t 79) (.t 81)⟩,Zp 83 78 82,Zv 84 83,⟨some 85,some (84,false),.mv (.t 10)⟩,⟨some 86,some (84,false),.bin .gtr (.t 85) (.c (ZI 0))⟩,⟨some 87,some (84,false),.mv (.t 86)⟩,⟨some 88,some (87,true),.fad 2 (.t 6)⟩,⟨some 89,some (87,true),.load 1 false (.t 88)⟩,⟨some 90,some (87,true),.mv (.t 9)⟩,⟨some 91,some (87,true),.iad 1 (.t 89) (.t 90)⟩,⟨some 92,some (87,true),.load 1 false (.t 91)⟩,⟨some 93,some (87,true),.mv (.t 10)⟩,⟨some 94,some (87,true),.bin .sub (.t 93) (.c (ZI 1))⟩,⟨some 95,some (87,true),.iad 1 (.t 92) (.t 94)⟩,⟨some 96,some (87,true),.load 1 false (.t 95)⟩,⟨some 97,some (87,true),.mv (.t 11)⟩,⟨some 98,some (87,true),.bin .geq (.t 96) (.t 97)⟩,⟨some 99,some (84,false),.pick (.t 87) (.t 98) (.c (.dat (.bool false)))⟩,Zp 100 84 99])
 (.cond (.t 100)
 (.seq (.ops [
 Zb 4 false])
 .ret)
 .skip))
 (.ops [
 Zv 101 8,Zv 102 11,Za 103 1 101 102,Zl 104 1 103,Zc 105 .add 104 1,Za 106 1 101 102,Zs 1 106 105]))))
 (.ops [
 Zv 66 10,Zc 67 .add 66 1,Zv 10 67]))))))))
 (.ops [
 Zv 49 9,Zc 50 .add 49 1,Zv 9 50]))))))
 (.seq (.seq (.ops [
 Zi 12 0])
 (.block 4
 (.loop
 (.seq (.seq (.ops [
 Zv 107 12,Zv 108 0,Zn 109 108,Zo 110 .lss 107 109])
 (.cond (.t 110)
 .skip
 (.exit 4)))
 (.seq (.block 5
 (.seq (.ops [
 Zv 114 1,Zf 115 1 6,Zl 116 1 115,Zv 117 12,⟨some 118,none,.call ni [(.t 114),(.t 116),(.t 117)]⟩,Zv 113 118,Zx 119 0 113,Zx 120 1 113,Zv 13 119,Zv 14 120])
 (.seq (.ops [
 Zv 122 13,Zv 123 14,⟨some 124,none,.call lK [(.t 122),(.t 123)]⟩,Zv 121 124,Zx 125 0 121,Zx 126 1 121,Zv 15 125,Zv 16 126])
 (.seq (.ops [
 Zi 17 0])
 (.seq (.seq (.ops [
 Zi 18 0])
 (.block 6
 (.loop
 (.seq (.seq (.ops [
 Zv 127 18,Zc 128 .lss 127 10])
 (.cond (.t 128)
 .skip
 (.exit 6)))
 (.seq (.block 7
 (.seq (.ops [
 Zi 19 0])
 (.block 8
 (.loop
 (.seq (.seq (.ops [
 Zv 131 19,Zv 132 13,Zn 133 132,Zo 134 .lss 131 133])
 (.cond (.t 134)
 .skip
 (.exit 8)))
 (.seq (.block 9
 (.seq (.ops [
 Zv 137 13,Zv 138 19,Za 139 4 137 138,Zf 140 2 139,Zl 141 1 140,Zv 142 18,Zo 143 .eql 141 142,Zv 144 143,⟨some 145,some (144,true),.mv (.t 13)⟩,⟨some 146,some (144,true),.mv (.t 19)⟩,⟨some 147,some (144,true),.iad 4 (.t 145) (.t 146)⟩,⟨some 148,some (144,true),.fad 3 (.t 147)⟩,⟨some 149,some (144,true),.load 1 false (.t 148)⟩,⟨some 150,some (144,true),.bin .gtr (.t 149) (.c (ZI 0))⟩,Zq 151 144 150])
 (.cond (.t 151)
 (.seq (.ops [
 Zv 152 17,Zc 153 .add 152 1,Zv 17 153])
 (.exit 8))
 .skip)))
 (.ops [
 Zv 135 19,Zc 136 .add 135 1,Zv 19 136])))))))
 (.ops [
 Zv 129 18,Zc 130 .add 129 1,Zv 18 130]))))))
 (.seq (.ops [
 Zv 154 16,Zv 155 8,Zv 156 12,Za 157 1 155 156,Zl 158 1 157,Zc 159 .gtr 158 0,⟨some 160,none,.beq true (.t 154) (.t 159)⟩,Zv 161 160,⟨some 162,some (161,false),.mv (.t 8)⟩,⟨some 163,some (161,false),.mv (.t 12)⟩,⟨some 164,some (161,false),.iad 1 (.t 162) (.t 163)⟩,⟨some 165,some (161,false),.load 1 false (.t 164)⟩,⟨some 166,some (161,false),.mv (.t 17)⟩,⟨some 167,some (161,false),.bin .gtr (.t 165) (.t 166)⟩,Zp 168 161 167])
 (.cond (.t 168)
 (.seq (.ops [
 Zb 4 false])
 .ret)
 .skip)))))))
 (.ops [
 Zv 111 12,Zc 112 .add 111 1,Zv 12 112]))))))
 (.seq (.ops [
 Zv 169 5,Zv 4 169])
 .ret)))))))))) }
def mf_law20_small:MFunc :=
 { n:=66,np:=0,res:=[.t 0],body :=
 (.seq (.ops [
 Zb 0 false])
 (.seq (.ops [
 ⟨some 8,none,.bsl 215008 false [(ZI 0),(ZI 0)] 1 2 [(0,1,(.c (ZI 5))),(1,1,(.c (ZI 0)))]⟩,⟨some 9,none,.build [(ZI 0),(ZI 0),(ZI 0),(ZI 0)] [(0,1,(.c (ZI 0))),(1,1,(.c (ZI 1))),(3,1,(.c (ZI 10)))]⟩,⟨some 10,none,.build [(ZI 0),(ZI 0),(ZI 0),(ZI 0)] [(0,1,(.c (ZI 1))),(1,1,(.c (.dat (.int .i64 (-1))))),(3,1,(.c (ZI 4)))]⟩,⟨some 11,none,.bsl 215011 false [(ZI 0),(ZI 0),(ZI 0),(ZI 0),(ZI 0),(ZI 0),(ZI 0),(ZI 0)] 4 2 [(0,4,(.t 9)),(4,4,(.t 10))]⟩,⟨some 12,none,.bsl 215012 false [(ZI 0),(ZI 0)] 1 2 [(0,1,(.c (ZI 5))),(1,1,(.c (ZI 5)))]⟩,⟨some 13,none,.bsl 215013 false [(ZI 0),(ZI 0)] 1 2 [(0,1,(.c (ZI 5))),(1,1,(.c (ZI 4)))]⟩,⟨some 14,none,.bsl 215014 false [(ZI 0)] 1 1 [(0,1,(.c (ZI 0)))]⟩,⟨some 15,none,.bsl 215015 false [.nil] 1 1 [(0,1,(.t 14))]⟩,⟨some 16,none,.call gM [(.t 8),(.t 11),(.t 12),(.t 13),(.t 15)]⟩,Zv 1 16])
 (.seq (.ops [
 ⟨some 17,none,.build [(ZI 0),(ZI 0),(ZI 0),(ZI 0)] [(0,1,(.c (ZI 0))),(1,1,(.c (ZI 1))),(2,1,(.c (ZI 1))),(3,1,(.c (ZI 10)))]⟩,⟨some 18,none,.build [(ZI 0),(ZI 0),(ZI 0),(ZI 0)] [(0,1,(.c (ZI 1))),(1,1,(.c (ZI 0))),(2,1,(.c (ZI 1))),(3,1,(.c (ZI 10)))]⟩,⟨some 19,none,.bsl 215019 true [(ZI 0),(ZI 0),(ZI 0),(ZI 0),(ZI 0),(ZI 0),(ZI 0),(ZI 0)] 4 2 [(0,4,(.t 17)),(4,4,(.t 18))]⟩,Zv 2 19])
 (.seq (.ops [
 ⟨some 20,none,.bsl 215020 false [(ZI 0),(ZI 0)] 1 2 [(0,1,(.c (ZI 0))),(1,1,(.c (ZI 0)))]⟩,Zv 21 2,⟨some 22,none,.bsl 215022 false [(ZI 0),(ZI 0)] 1 2 [(0,1,(.c (ZI 10))),(1,1,(.c (ZI 10)))]⟩,⟨some 23,none,.bsl 215023 false [(ZI 0),(ZI 0)] 1 2 [(0,1,(.c (ZI 10))),(1,1,(.c (ZI 10)))]⟩,⟨some 24,none,.call gM [(.t 20),(.t 21),(.t 22),(.t 23),(.c .nil)]⟩,Zv 3 24])
 (.seq (.ops [
 ⟨some 25,none,.bsl 215025 false [(ZI 0),(ZI 0)] 1 2 [(0,1,(.c (ZI 0))),(1,1,(.c (ZI 0)))]⟩,Zv 26 2,⟨some 27,none,.build [(ZI 0),(ZI 0),(ZI 0),(ZI 0)] [(0,1,(.c (ZI 0))),(1,1,(.c (.dat (.int .i64 (-1))))),(3,1,(.c (ZI 5)))]⟩,⟨some 28,none,.bsl 215028 false [(ZI 0),(ZI 0),(ZI 0),(ZI 0)] 4 1 [(0,4,(.t 27))]⟩,⟨some 29,none,.app 215029 [(ZI 0),(ZI 0),(ZI 0),(ZI 0)] 32 (.t 26) (.t 28)⟩,⟨some 30,none,.bsl 215030 false [(ZI 0),(ZI 0)] 1 2 [(0,1,(.c (ZI 0))),(1,1,(.c (ZI 0)))]⟩,⟨some 31,none,.bsl 215031 false [(ZI 0),(ZI 0),(ZI 0)] 1 3 [(0,1,(.c (ZI 0))),(1,1,(.c (ZI 0))),(2,1,(.c (ZI 0)))]⟩,⟨some 32,none,.bsl 215032 false [(ZI 0)] 1 1 [(0,1,(.c (ZI 0)))]⟩,⟨some 33,none,.bsl 215033 false [(ZI 0)] 1 1 [(0,1,(.c (ZI 1)))]⟩,⟨some 34,none,.bsl 215034 false [(ZI 0)] 1 1 [(0,1,(.c (ZI 0)))]⟩,⟨some 35,none,.bsl 215035 false [.nil,.nil,.nil] 1 3 [(0,1,(.t 32)),(1,1,(.t 33)),(2,1,(.t 34))]⟩,⟨some 36,none,.call gM [(.t 25),(.t 29),(.t 30),(.t 31),(.t 35)]⟩,Zv 4 36])
 (.seq (.ops [
 ⟨some 37,none,.bsl 215037 false [(ZI 0)] 1 1 [(0,1,(.c (ZI 9)))]⟩,⟨some 38,none,.build [(ZI 0),(ZI 0),(ZI 0),(ZI 0)] [(1,1,(.c (.dat (.int .i64 (-1))))),(3,1,(.c (ZI 6)))]⟩,⟨some 39,none,.build [(ZI 0),(ZI 0),(ZI 0),(ZI 0)] [(1,1,(.c (.dat (.int .i64 (-1))))),(2,1,(.c (ZI 1))),(3,1,(.c (ZI 2)))]⟩,⟨some 40,none,.build [(ZI 0),(ZI 0),(ZI 0),(ZI 0)] [(1,1,(.c (.dat (.int .i64 (-1))))),(2,1,(.c (ZI 1))),(3,1,(.c (ZI 4)))]⟩,⟨some 41,none,.bsl 215041 false [(ZI 0),(ZI 0),(ZI 0),(ZI 0),(ZI 0),(ZI 0),(ZI 0),(ZI 0),(ZI 0),(ZI 0),(ZI 0),(ZI 0)] 4 3 [(0,4,(.t 38)),(4,4,(.t 39)),(8,4,(.t 40))]⟩,⟨some 42,none,.bsl 215042 false [(ZI 0)] 1 1 [(0,1,(.c (ZI 9)))]⟩,⟨some 43,none,.bsl 215043 false [(ZI 0),(ZI 0),(ZI 0)] 1 3 [(0,1,(.c (ZI 6))),(1,1,(.c (ZI 1))),(2,1,(.c (ZI 2)))]⟩,⟨some 44,none,.bsl 215044 false [(ZI 0)] 1 1 [(0,1,(.c (ZI 0)))]⟩,⟨some 45,none,.bsl 215045 false [.nil] 1 1 [(0,1,(.t 44))]⟩,⟨some 46,none,.call gM [(.t 37),(.t 41),(.t 42),(.t 43),(.t 45)]⟩,Zv 5 46])
 (.seq (.ops [
 ⟨some 48,none,.bsl 215048 false [(ZI 0)] 1 1 [(0,1,(.c (.dat (.int .i64 (-1)))))]⟩,⟨some 49,none,.call en [(.t 48),(.c .nil)]⟩,Zv 47 49,Zx 50 0 47,Zx 51 1 47,⟨some 6,none,.alloc 215006 [.nil,.nil,.nil]⟩,Zs 3 6 50,Zv 7 51])
 (.seq (.ops [
 Zv 52 1,Zv 53 52,⟨some 54,some (53,true),.mv (.t 3)⟩,Zq 55 53 54,Zv 56 55,⟨some 57,some (56,true),.mv (.t 4)⟩,Zq 58 56 57,Zv 59 58,⟨some 60,some (59,true),.mv (.t 5)⟩,Zq 61 59 60,Zv 62 61,⟨some 63,some (62,true),.mv (.t 7)⟩,⟨some 64,some (62,true),.bin .eql (.t 63) (.c (ZI 1))⟩,Zq 65 62 64,Zv 0 65])
 .ret)))))))) }
def mf_law20_of:MFunc :=
 { n:=11,np:=1,res:=[.cell 2 4 true],body :=
 (.seq (.ops [
 ⟨some 2,none,.alloc 219002 [(ZI 0),.nil,(ZI 0),.nil]⟩])
 (.seq (.ops [
 Zv 6 0,⟨some 7,none,.call nF [(.t 6),(.c (ZI 1))]⟩,Zv 5 7,Zx 8 0 5,Zx 9 1 5,⟨some 3,none,.alloc 219003 [(ZI 0),.nil,(ZI 0),.nil]⟩,Zs 4 3 8,Zv 4 9])
 (.seq (.ops [
 Zu 10 4 3,Zs 4 2 10])
 .ret))) }
def mf_law20_own:MFunc :=
 { n:=40,np:=3,res:=[.t 6,.t 7],body :=
 (.seq (.ops [
 Ze 6,Ze 7])
 (.seq (.ops [
 Ze 8])
 (.seq (.ops [
 Ze 9])
 (.seq (.seq (.ops [
 Zi 10 0])
 (.block 0
 (.ghost (.adopt 8 224030 4) (.ghost (.adopt 9 224037 4) (.loop
 (.seq (.seq (.ops [
 Zv 11 10,Zv 12 0,Zn 13 12,Zo 14 .lss 11 13])
 (.cond (.t 14)
 .skip
 (.exit 0)))
 (.seq (.block 1
 (.seq (.ops [
 Zv 17 0,Zv 18 10,Za 19 4 17 18,Zf 20 0 19,Zl 21 1 20,Zv 22 2,Zo 23 .eql 21 22])
 (.cond (.t 23)
 (.seq (.ops [
 Zv 24 8,Zv 25 0,Zv 26 10,Za 27 4 25 26,Zu 28 4 27,⟨some 29,none,.bsl 224029 false [(ZI 0),(ZI 0),(ZI 0),(ZI 0)] 4 1 [(0,4,(.t 28))]⟩,⟨some 30,none,.app 224030 [(ZI 0),(ZI 0),(ZI 0),(ZI 0)] 32 (.t 24) (.t 29)⟩,Zv 8 30])
 (.ops [
 Zv 31 9,Zv 32 1,Zv 33 10,Za 34 4 32 33,Zu 35 4 34,⟨some 36,none,.bsl 224036 false [(ZI 0),.nil,(ZI 0),.nil] 4 1 [(0,4,(.t 35))]⟩,⟨some 37,none,.app 224037 [(ZI 0),.nil,(ZI 0),.nil] 64 (.t 31) (.t 36)⟩,Zv 9 37]))
 .skip)))
 (.ops [
 Zv 15 10,Zc 16 .add 15 1,Zv 10 16]))))))))
 (.seq (.ghost (.freeze 8) (.ghost (.freeze 9) (.ops [
 Zv 38 8,Zv 39 9,Zv 6 38,Zv 7 39])))
 .ret))))) }
def mf_law20_has:MFunc :=
 { n:=105,np:=5,res:=[.t 10],body :=
 (.seq (.ops [
 Zb 10 false])
 (.seq (.ops [
 Zv 16 0,Zv 17 1,⟨some 18,none,.call en [(.t 16),(.t 17)]⟩,Zv 15 18,Zx 19 0 15,Zx 20 1 15,⟨some 11,none,.alloc 226011 [.nil,.nil,.nil]⟩,Zs 3 11 19,Zv 12 20])
 (.seq (.seq (.ops [
 Zv 21 12,Zc 22 .neq 21 0,Zv 23 22,⟨some 24,some (23,false),.fad 0 (.t 11)⟩,⟨some 25,some (23,false),.load 1 false (.t 24)⟩,⟨some 26,some (23,false),.len (.t 25)⟩,⟨some 27,some (23,false),.mv (.t 2)⟩,⟨some 28,some (23,false),.len (.t 27)⟩,⟨some 29,some (23,false),.bin .neq (.t 26) (.t 28)⟩,Zp 30 23 29,Zv 31 30,⟨some 32,some (31,false),.fad 1 (.t 11)⟩,⟨some 33,some (31,false),.load 1 false (.t 32)⟩,⟨some 34,some (31,false),.len (.t 33)⟩,⟨some 35,some (31,false),.mv (.t 3)⟩,⟨some 36,some (31,false),.len (.t 35)⟩,⟨some 37,some (31,false),.bin .neq (.t 34) (.t 36)⟩,Zp 38 31 37,Zv 39 38,⟨some 40,some (39,false),.fad 2 (.t 11)⟩,⟨some 41,some (39,false),.load 1 false (.t 40)⟩,⟨some 42,some (39,false),.mv (.t 4)⟩,⟨some 43,some (39,false),.call gT [(.t 41),(.t 42)]⟩,⟨some 44,some (39,false),.un .not (.t 43)⟩,Zp 45 39 44])
 (.cond (.t 45)
 (.seq (.ops [
 Zb 10 false])
 .ret)
 .skip))
 (.seq (.seq (.ops [
 Zi 13 0])
 (.block 0
 (.loop
 (.seq (.seq (.ops [
 Zv 46 13,Zv 47 2,Zn 48 47,Zo 49 .lss 46 48])
 (.cond (.t 49)
 .skip
 (.exit 0)))
 (.seq (.block 1
 (.seq (.opsD [
 Zf 52 0 11,Zl 53 1 52,Zv 54 13,Za 55 4 53 54,Zu 56 4 55,Zv 57 2,Zv 58 13,Za 59 1 57 58,Zl 60 1 59,⟨some 61,none,.call lf [(.t 60)]⟩,⟨some 62,none,.call a0 [(.t 56),(.t 61)]⟩,Zc 63 .neq 62 0,Zv 64 63,⟨some 65,some (64,false),.fad 0 (.t 11)⟩,⟨some 66,some (64,false),.load 1 false (.t 65)⟩,⟨some 67,some (64,false),.mv (.t 13)⟩,⟨some 68,some (64,false),.iad 4 (.t 66) (.t 67)⟩,⟨some 69,some (64,false),.load 4 true (.t 68)⟩,⟨some 70,some (64,false),.call aT [(.t 69)]⟩,⟨some 71,some (64,false),.un .not (.t 70)⟩,Zp 72 64 71] [[],[],[],[],[],[],[],[],[],[],[],[],[],[],[],[],[],[],[],[],[]])
 (.cond (.t 72)
 (.seq (.ops [
 Zb 10 false])
 .ret)
 .skip)))
 (.ops [
 Zv 50 13,Zc 51 .add 50 1,Zv 13 51]))))))
 (.seq (.seq (.ops [
 Zi 14 0])
 (.block 2
 (.loop
 (.seq (.seq (.ops [
 Zv 73 14,Zv 74 3,Zn 75 74,Zo 76 .lss 73 75])
 (.cond (.t 76)
 .skip
 (.exit 2)))
 (.seq (.block 3
 (.seq (.opsD [
 Zf 79 1 11,Zl 80 1 79,Zv 81 14,Za 82 4 80 81,Zu 83 4 82,Zv 84 3,Zv 85 14,Za 86 1 84 85,Zl 87 1 86,⟨some 88,none,.call lf [(.t 87)]⟩,⟨some 89,none,.call a0 [(.t 83),(.t 88)]⟩,Zc 90 .neq 89 0,Zv 91 90,⟨some 92,some (91,false),.fad 1 (.t 11)⟩,⟨some 93,some (91,false),.load 1 false (.t 92)⟩,⟨some 94,some (91,false),.mv (.t 14)⟩,⟨some 95,some (91,false),.iad 4 (.t 93) (.t 94)⟩,⟨some 96,some (91,false),.load 4 true (.t 95)⟩,⟨some 97,some (91,false),.call aT [(.t 96)]⟩,⟨some 98,some (91,false),.un .not (.t 97)⟩,Zp 99 91 98] [[],[],[],[],[],[],[],[],[],[],[],[],[],[],[],[],[],[],[],[],[]])
 (.cond (.t 99)
 (.seq (.ops [
 Zb 10 false])
 .ret)
 .skip)))
 (.ops [
 Zv 77 14,Zc 78 .add 77 1,Zv 14 78]))))))
 (.seq (.ops [
 Zv 100 0,Zv 101 1,Zf 102 0 11,Zl 103 1 102,⟨some 104,none,.call lI [(.t 100),(.t 101),(.t 103)]⟩,Zv 10 104])
 .ret)))))) }

set_option maxRecDepth 10000
set_option maxHeartbeats 4000000
def clL (c:ClR):List Data:=[.int .i64 c.1,.int .i64 c.2.1,.int .i64 c.2.2.1,.int .i64 c.2.2.2]
theorem lu (c:ClR):(clL c).length=4:=rfl
theorem sV (c:ClR):((clL c).map MV.dat).all MV.one=true:=rfl
theorem fb:∀ a b:ClR,clL a=clL b→a=b:=by
 rintro⟨a1,a2,a3,a4⟩ ⟨b1,b2,b3,b4⟩ h;simp only[clL,List.cons.injEq,Data.int.injEq,true_and,and_true] at h;obtain⟨rfl,rfl,rfl,rfl⟩:=h
 rfl
theorem GZ {cs:List ClR} {i:Nat} {c:ClR} (h:cs[i]?=some c) (F:ClR→Int):bq (cs.take (i+1)) F=bq (cs.take i) F+F c:=by
 rw[List.take_add_one,h,jC];simp [bq]
def okCs (cs:List ClR):Prop:=cs.length≤2000∧∀ c∈cs,0≤c.2.2.2∧c.2.2.2≤1000000000000000
theorem okCs.sum {cs:List ClR} (h:okCs cs) (p:ClR→Prop) [DecidablePred p] (i:Nat):0≤bq (cs.take i) (fun c=>if p c then c.2.2.2 else 0)∧bq (cs.take i) (fun c=>if p c then c.2.2.2 else 0)≤2000000000000000000:=by
 have h1:=sQ (cs:=cs.take i) (F:=fun c=>if p c then c.2.2.2 else 0) (B:=1000000000000000) (by omega) fun c hc=>by
  have:=h.2 c (List.mem_of_mem_take hc)
  try dsimp only
  split<;>omega
 have h2:=h.1;have h3:(cs.take i).length≤cs.length:=by rw[List.length_take];omega
 omega
theorem Ep {cash:List Int} {cs:List ClR} (h:c9 cash cs=true):okCs cs :=
 ⟨(rightD_iff.1 h).2.1,fun c hc=>⟨((rightD_iff.1 h).2.2.2 c hc).2.2.2.2.2.2.1,((rightD_iff.1 h).2.2.2 c hc).2.2.2.2.2.2.2⟩⟩
theorem tv {n:Int} (h:ct n):fP (aS n) (aS 1)=(ai (n:Rat),0):=by
 rw[iK (jx h) (by decide +kernel) (by decide),aee,show ((1:Int):Rat)=1 from rfl,show (n:Rat) / 1=n by grind]
noncomputable def fh:List Data→Option PRes:=FF (α:=Int) (fun (n:Int)=>([.int .i64 n]:List Data)) (fun (n:Int)=>aH (ct n) (.same (.agg (ad (ai (n:Rat))))))
theorem ya:∀ a b:Int,(fun (n:Int)=>([.int .i64 n]:List Data)) a=(fun (n:Int)=>([.int .i64 n]:List Data)) b→a=b:=by
  intro n1 n2 h;simp only[List.cons.injEq,Data.int.injEq,Data.agg.injEq,Data.sl.injEq,Data.bool.injEq,Data.str.injEq,Data.ptr.injEq,Data.tup.injEq,Prod.mk.injEq,true_and,and_true] at h ⊢
  first | exact h | simpa [aef,and_assoc] using h | grind
@[go_sem] theorem eK (n:Int) (hc:ct n):fh [.int .i64 n]=some (.same (.agg (ad (ai (n:Rat))))):=(aX ya n).trans (an hc _)
theorem J3 (T:Tab) (se:T iy=mkE Aj) (n:Int) (hc:ct n) :
  wp T mf_clear_whole.body (bF mf_clear_whole.res (.same (.agg (ad (ai (n:Rat)))))) ⟨ax [.dat (.int .i64 n)],emp⟩:=by
 refine ap ?_;simp only[mf_clear_whole];have h1:ct 1:=by unfold ct;omega
 have h:=tv hc;generalize ai (n:Rat)=F at *;obtain⟨⟨a,b⟩,⟨c,d⟩⟩:=F;simp only[go_sem,go_sem_proc,aeg,se,hc,h1,h,bw,ad]
 repeat' (first|refine qS ?_ ?_|fail)<;>intro h<;>simp only[h,go_sem,go_sem_proc,aeg,se,hc,h1,h,bw,ad]
noncomputable def lR:List Data→Option PRes:=FF (α:=Int) (fun (n:Int)=>([.int .i64 n]:List Data)) (fun (n:Int)=>aH (ct n) (.same (.agg (ad (ai (n:Rat))))))
theorem xU:∀ a b:Int,(fun (n:Int)=>([.int .i64 n]:List Data)) a=(fun (n:Int)=>([.int .i64 n]:List Data)) b→a=b:=by
  intro n1 n2 h;simp only[List.cons.injEq,Data.int.injEq,Data.agg.injEq,Data.sl.injEq,Data.bool.injEq,Data.str.injEq,Data.ptr.injEq,Data.tup.injEq,Prod.mk.injEq,true_and,and_true] at h ⊢
  first | exact h | simpa [aef,and_assoc] using h | grind
@[go_sem] theorem zt (n:Int) (hc:ct n):lR [.int .i64 n]=some (.same (.agg (ad (ai (n:Rat))))):=(aX xU n).trans (an hc _)
theorem IF (T:Tab) (se:T iy=mkE Aj) (n:Int) (hc:ct n) :
  wp T mf_rank_whole.body (bF mf_rank_whole.res (.same (.agg (ad (ai (n:Rat)))))) ⟨ax [.dat (.int .i64 n)],emp⟩:=by
 refine ap ?_;simp only[mf_rank_whole];have h1:ct 1:=by unfold ct;omega
 have h:=tv hc;generalize ai (n:Rat)=F at *;obtain⟨⟨a,b⟩,⟨c,d⟩⟩:=F;simp only[go_sem,go_sem_proc,aeg,se,hc,h1,h,bw,ad]
 repeat' (first|refine qS ?_ ?_|fail)<;>intro h<;>simp only[h,go_sem,go_sem_proc,aeg,se,hc,h1,h,bw,ad]
noncomputable def pR:List Data→Option PRes:=FF (α:=Int) (fun (n:Int)=>([.int .i64 n]:List Data)) (fun (n:Int)=>aH (ct n) (.same (.agg (ad (ai (n:Rat))))))
theorem xn:∀ a b:Int,(fun (n:Int)=>([.int .i64 n]:List Data)) a=(fun (n:Int)=>([.int .i64 n]:List Data)) b→a=b:=by
  intro n1 n2 h;simp only[List.cons.injEq,Data.int.injEq,Data.agg.injEq,Data.sl.injEq,Data.bool.injEq,Data.str.injEq,Data.ptr.injEq,Data.tup.injEq,Prod.mk.injEq,true_and,and_true] at h ⊢
  first | exact h | simpa [aef,and_assoc] using h | grind
@[go_sem] theorem zN (n:Int) (hc:ct n):pR [.int .i64 n]=some (.same (.agg (ad (ai (n:Rat))))):=(aX xn n).trans (an hc _)
theorem I5 (T:Tab) (Nj:T nF=mkE Kb) (n:Int) (hc:ct n) :
  wp T mf_law20_of.body (bF mf_law20_of.res (.same (.agg (ad (ai (n:Rat)))))) ⟨ax [.dat (.int .i64 n)],emp⟩:=by
 refine ap ?_;simp only[mf_law20_of];have h1:ct 1:=by unfold ct;omega
 have h:=tv hc;generalize ai (n:Rat)=F at *;obtain⟨⟨a,b⟩,⟨c,d⟩⟩:=F;simp only[go_sem,go_sem_proc,aeg,Nj,hc,h1,h,bw,ad]
 repeat' (first|refine qS ?_ ?_|fail)<;>intro h<;>simp only[h,go_sem,go_sem_proc,aeg,Nj,hc,h1,h,bw,ad]
def lw (m:Int):Bool:=!(decide (m>1000000)&&decide (m≤1000000000000000))
def vJ (cash:List Int) (cs:List ClR):Bool:=!(decide ((cash.length:Int)>5))&&(!(decide ((cs.length:Int)>12))&&(cash.all lw&&cs.all fun c=>lw c.2.2.2))
noncomputable def Ci:List Data→Option PRes:=FF (α:=(List Int) × (List ClR)) (fun (cash,cs)=>([.sl (cash.map aa),.sl (cs.map clL)]:List Data)) (fun (cash,cs)=>some (.same (.bool (vJ cash cs))))
theorem Cb:∀ a b:(List Int) × (List ClR),(fun (cash,cs)=>([.sl (cash.map aa),.sl (cs.map clL)]:List Data)) a=(fun (cash,cs)=>([.sl (cash.map aa),.sl (cs.map clL)]:List Data)) b→a=b:=by
  rintro⟨cash1,cs1⟩ ⟨cash2,cs2⟩ h;simp only[List.cons.injEq,Data.sl.injEq] at h;exact Prod.ext (af aj _ _ h.1) (af fb _ _ h.2.1)
@[go_sem] theorem Fw (cash:List Int) (cs:List ClR):Ci [.sl (cash.map aa),.sl (cs.map clL)]=some (.same (.bool (vJ cash cs))):=aX Cb (cash,cs)
theorem OZ (T:Tab)  (cash:List Int) (cs:List ClR) :
  wp T mf_ref20_Few.body (bF mf_ref20_Few.res (.same (.bool (vJ cash cs)))) ⟨ax [.dat (.sl (cash.map aa)),.dat (.sl (cs.map clL))],emp⟩:=by
 refine ap ?_;simp only[mf_ref20_Few];unfold vJ;rcases e1:decide ((cash.length:Int)>5)
 ·rcases e2:decide ((cs.length:Int)>12)
  ·have l1:cash.length≤5:=by have:=of_decide_eq_false e1;omega
   have l2:cs.length≤12:=by have:=of_decide_eq_false e2;omega
   simp only[go_sem,go_sem_proc,aeg,e1,e2,aeh];refine ae [0,1] [] (fun (i:Nat) tm mem=>i≤cash.length∧(cash.take i).all lw=true∧tm 5 = .dat (.int .i64 i)) (fun i=>cash.length-i) 0 (by refine⟨by omega,by simp,rfl⟩) ?_;intro vs ms hvs hms;simp only[go_sem,go_sem_proc,aeg,aeh] at hvs hms;subst hvs hms;rintro i tm mem hk hm ⟨hi,hf,h5⟩;simp only[go_sem,go_sem_proc,aeg,List.cons.injEq] at hk;obtain⟨h0,h1⟩:=hk;rcases aei (i<cash.length) with hlt | hge
   ·obtain⟨x,hx⟩:∃ c,cash[i]?=some c:=⟨_,aej hlt⟩
    have d1:decide ((i:Int)<(cash.length:Int))=true:=decide_eq_true (by omega);have w3:IntKind.i64.wrap ((i:Int)+1)=((i+1:Nat):Int):=by rw[ak _ (by omega) (by omega)];omega
    rcases c1:decide (x>1000000)
    ·have hc:lw x=true:=by unfold lw;rw[c1];rfl
     refine qI ?_
     repeat' (intro h<;>simp only[h,go_sem,go_sem_proc,aeg,h0,h1,h5,hx,d1,w3,c1,aa,aeh,adR]<;>try refine qS ?_ ?_)
     exact⟨i+1,by omega,by omega,by rw[pJ hx,hf,hc];rfl,rfl⟩
    ·rcases c2:decide (x≤1000000000000000)
     ·have hc:lw x=true:=by unfold lw;rw[c1,c2];rfl
      refine qI ?_
      repeat' (intro h<;>simp only[h,go_sem,go_sem_proc,aeg,h0,h1,h5,hx,d1,w3,c1,c2,aa,aeh,adR]<;>try refine qS ?_ ?_)
      exact⟨i+1,by omega,by omega,by rw[pJ hx,hf,hc];rfl,rfl⟩
     ·have hc:lw x=false:=by unfold lw;rw[c1,c2];rfl
      rw[Eh hx hc];refine qI ?_
      repeat' (intro h<;>simp only[h,go_sem,go_sem_proc,aeg,h0,h1,h5,hx,d1,w3,c1,c2,aa,aeh,adR,adZ,adV,aek]<;>try refine qS ?_ ?_)
   ·have d1:decide ((i:Int)<(cash.length:Int))=false:=decide_eq_false (by omega)
    have hca:cash.all lw=true:=by rw[ael (by omega)] at hf;exact hf
    rw[hca];simp only[go_sem,go_sem_proc,aeg,h0,h1,h5,d1,aeh];refine ae [1] [] (fun (i:Nat) tm mem=>i≤cs.length∧(cs.take i).all (fun c=>lw c.2.2.2)=true∧tm 6 = .dat (.int .i64 i)) (fun i=>cs.length-i) 0 (by refine⟨by omega,by simp,rfl⟩) ?_;intro vs ms hvs hms;simp only[go_sem,go_sem_proc,aeg,aeh,h1] at hvs hms;subst hvs hms;clear h0 h1 h5 hm;rintro i tm mem hk hm ⟨hi,hf,h6⟩;simp only[go_sem,go_sem_proc,aeg,List.cons.injEq] at hk;have h1:=hk;rcases aei (i<cs.length) with hlt | hge
    ·obtain⟨⟨a,b,k,x⟩,hx⟩:∃ c,cs[i]?=some c:=⟨_,aej hlt⟩
     have d1:decide ((i:Int)<(cs.length:Int))=true:=decide_eq_true (by omega);have w3:IntKind.i64.wrap ((i:Int)+1)=((i+1:Nat):Int):=by rw[ak _ (by omega) (by omega)];omega
     rcases c1:decide (x>1000000)
     ·have hc:lw x=true:=by unfold lw;rw[c1];rfl
      refine qI ?_
      repeat' (intro h<;>simp only[h,go_sem,go_sem_proc,aeg,h1,h6,hx,d1,w3,c1,clL,aeh,adR]<;>try refine qS ?_ ?_)
      exact⟨i+1,by omega,by omega,by rw[pJ hx,hf];exact hc,rfl⟩
     ·rcases c2:decide (x≤1000000000000000)
      ·have hc:lw x=true:=by unfold lw;rw[c1,c2];rfl
       refine qI ?_
       repeat' (intro h<;>simp only[h,go_sem,go_sem_proc,aeg,h1,h6,hx,d1,w3,c1,c2,clL,aeh,adR]<;>try refine qS ?_ ?_)
       exact⟨i+1,by omega,by omega,by rw[pJ hx,hf];exact hc,rfl⟩
      ·have hc:lw x=false:=by unfold lw;rw[c1,c2];rfl
       rw[Eh (p:=fun c:ClR=>lw c.2.2.2) hx hc];refine qI ?_
       repeat' (intro h<;>simp only[h,go_sem,go_sem_proc,aeg,h1,h6,hx,d1,w3,c1,c2,clL,aeh,adR,adZ,adV]<;>try refine qS ?_ ?_)
    ·have d1:decide ((i:Int)<(cs.length:Int))=false:=decide_eq_false (by omega)
     have hca:cs.all (fun c=>lw c.2.2.2)=true:=by rw[ael (by omega)] at hf;exact hf
     rw[hca];refine qI ?_
     repeat' (intro h<;>simp only[h,go_sem,go_sem_proc,aeg,h1,h6,d1,aeh,adZ,adV]<;>try refine qS ?_ ?_)
  ·refine qI ?_
   repeat' (intro h<;>simp only[h,go_sem,go_sem_proc,aeg,e1,e2,aeh,aem,aek,Bool.and_false]<;>try refine qS ?_ ?_)
 ·refine qI ?_
  repeat' (intro h<;>simp only[h,go_sem,go_sem_proc,aeg,e1,aeh,aem,aek]<;>try refine qS ?_ ?_)
theorem Dh {x:List Data} (h:Fits [.int .i64,.int .i64,.int .i64,.int .i64] x):∃ c:ClR,x=clL c:=by
 simp only[Fit,Fits] at h;obtain⟨_,_,rfl,⟨a,rfl,-⟩,_,_,rfl,⟨b,rfl,-⟩,_,_,rfl,⟨c,rfl,-⟩,_,_,rfl,⟨d,rfl,-⟩,rfl⟩:=h;exact⟨(a,b,c,d),rfl⟩
theorem Do {es:List (List Data)} (h:∀ x∈es,Fit (.st [.int .i64,.int .i64,.int .i64,.int .i64]) x):∃ l:List ClR,es=l.map clL:=by
 obtain⟨l,e,-⟩:=tQ (e:=clL) (good:=fun _=>True) fun x hx=>by
  have:=h x hx;unfold Fit at this;obtain⟨c,rfl⟩:=Dh this;exact⟨c,rfl,trivial⟩
 exact⟨l,e⟩
end Go.Mini
namespace Go.Mini
open Classical
structure Alike (d e:Day):Prop where
 n:d.n=e.n
 cash:d.cash=e.cash
 mem:∀ c,c∈d.cl↔c∈e.cl
 sum:∀ F,sumC d.cl F=sumC e.cl F
theorem Alike.symm {d e:Day} (h:Alike d e):Alike e d:=⟨h.n.symm,h.cash.symm,fun c=>(h.mem c).symm,fun F=>(h.sum F).symm⟩
section
variable {d e:Day} (h:Alike d e)
include h
theorem Alike.U:d.U=e.U:=by funext k r;exact h.sum _
theorem Alike.S:d.S=e.S:=by funext k r;exact h.sum _
theorem Alike.w:d.w=e.w:=by funext c;unfold Day.w;rw[h.S]
theorem Alike.q:d.q=e.q:=by funext f x c;unfold Day.q;rw[h.U,h.w]
theorem Alike.l:d.l=e.l:=by funext f P x c;unfold Day.l;rw[h.U,h.w]
theorem Alike.pay:d.pay=e.pay:=by funext x c;unfold Day.pay;rw[h.U,h.w]
theorem Alike.into:d.into=e.into:=by funext a i;unfold Day.into;rw[h.cash,h.sum]
theorem Alike.phi:d.phi=e.phi:=by funext x i;unfold Day.phi;rw[h.into,h.pay]
theorem Alike.sumIn:d.sumIn=e.sumIn:=by funext C x;unfold Day.sumIn;rw[h.n]
theorem Alike.cap:d.cap=e.cap:=by funext f g C k;unfold Day.cap;rw[h.U]
theorem Alike.closed (f:Nat→Nat) (C:Nat→Prop):d.closed f C↔e.closed f C:=by
 unfold Day.closed;exact⟨fun k c hc=>k c ((h.mem c).2 hc),fun k c hc=>k c ((h.mem c).1 hc)⟩
theorem Alike.inv {f:Nat→Nat} {g:Nat→Rat} (a:Inv d f g):Inv e f g:=by
 obtain⟨h1,h2,h3,h4,h5⟩:=a;refine⟨h1,fun i hi=>?_,fun i hi hf=>?_,fun i hi hf=>?_,fun C hC hC2 hC3=>?_⟩
 ·have:=h2 i (by rw[h.n];exact hi)
  rwa [h.into,h.q] at this
 ·have:=h3 i (by rw[h.n];exact hi) hf
  rwa [h.U] at this
 ·have:=h4 i (by rw[h.n];exact hi) hf
  rwa [h.U] at this
 ·have:=h5 C hC (fun i hi=>by rw[h.n];exact hC2 i hi) ((h.closed f C).2 hC3)
  rwa [h.sumIn,h.into,h.q,h.cap,h.U] at this
theorem Alike.ok (a:d.OK):e.OK:=⟨fun c hc=>by rw[←h.n];exact a.fr c ((h.mem c).2 hc),fun c hc=>by rw[←h.n];exact a.to c ((h.mem c).2 hc),fun c hc=>a.rk c ((h.mem c).2 hc),fun c hc=>a.am c ((h.mem c).2 hc),fun i hi=>by rw[←h.cash];exact a.cash i (by rw[h.n];exact hi)⟩
theorem Alike.isTop {f:Nat→Nat} {x:Nat→Rat} (a:IsTop d f x):IsTop e f x:=by
 obtain⟨g,h1,h2,h3⟩:=a;refine⟨g,h.inv h1,fun i hi=>?_,fun i hi=>h3 i (by rw[h.n];exact hi)⟩
 have:=h2 i (by rw[h.n];exact hi)
 rwa [h.into,h.q] at this
theorem Alike.isTop_iff:IsTop d=IsTop e:=by
 funext f x
 exact propext ⟨h.isTop,h.symm.isTop⟩
theorem Alike.top:d.top=e.top:=by
 funext f
 unfold Day.top;rw[h.isTop_iff]
theorem Alike.falls:d.falls=e.falls:=by
 funext f
 unfold Day.falls;rw[h.top,h.U,h.n]
theorem Alike.fallRank:d.fallRank=e.fallRank:=by
 funext x i k
 induction k with
 | zero=>rfl
 | succ k ih=>unfold Day.fallRank;rw[h.U,ih]
theorem Alike.fallen:d.fallen=e.fallen:=by
 funext f x i
 unfold Day.fallen;rw[h.n,h.U,h.fallRank]
theorem Alike.rounds:d.rounds=e.rounds:=by
 funext k
 induction k with
 | zero=>funext f;rfl
 | succ k ih =>
  funext f
  unfold Day.rounds;rw[h.falls,h.fallen,h.top,ih]
end
def aW (cs:List ClR) (i k:Nat):List ClR:=cs.filter fun c=>c.1==(i:Int)&&c.2.2.1==(k:Int)
theorem cell_mem {cs:List ClR} {i k:Nat} {c:ClR}:c∈aW cs i k↔c∈cs∧c.1=(i:Int)∧c.2.2.1=(k:Int):=by
 unfold aW;rw[aen,adX,beq_iff_eq,beq_iff_eq]
def aG (n:Nat) (cs:List ClR):List ClR:=(adQ n).flatMap fun i=>(adQ 10).flatMap fun k=>aW cs i k
theorem FX (cs:List ClR) (i k j r:Nat):aW (aW cs i k) j r=if i=j∧k=r then aW cs i k else []:=by
 unfold aW;rw[List.filter_filter]
 by_cases h:i=j∧k=r
 ·obtain⟨rfl,rfl⟩:=h
  rw[if_pos ⟨rfl,rfl⟩]
  congr 1
  funext c
  simp
 ·rw[if_neg h,List.filter_eq_nil_iff]
  intro c _;simp only[adX,beq_iff_eq];rintro⟨⟨h1,h2⟩,h3,h4⟩;exact h ⟨by omega,by omega⟩
theorem By {α:Type} {n i:Nat} (hi:i<n) (F:Nat→List α) (h:∀ k,k<n→k≠i→F k=[]):(adQ n).flatMap F=F i:=by
 induction n with
 | zero=>omega
 | succ n ih =>
  rw[aeo,aep,aeq,aer,aes]
  by_cases hn:i=n
  ·subst hn
   have:(adQ i).flatMap F=[]:=by
    rw[aet];intro k hk;have:=List.mem_range.1 hk;exact h k (by omega) (by omega)
   rw[this,aeu]
  ·rw[ih (by omega) fun k hk=>h k (by omega),h n (by omega) (Ne.symm hn),aes]
theorem wb {α:Type} (l:List α) (F:α→List ClR) (i k:Nat):aW (l.flatMap F) i k=l.flatMap fun x=>aW (F x) i k:=by
 unfold aW
 induction l with
 | nil=>rfl
 | cons a l ih=>rw[aeq,aeq,aev,ih]
theorem uH {n i k:Nat} (cs:List ClR) (hi:i<n) (hk:k<10):aW (aG n cs) i k=aW cs i k:=by
 unfold aG;rw[wb];simp only[wb,FX];rw[By hi,By hk]
 ·rw[if_pos ⟨rfl,rfl⟩]
 ·intro r _ hr
  rw[if_neg fun h=>hr h.2]
 ·intro j _ hj
  rw[aet];intro r _;rw[if_neg fun h=>hj h.1]
theorem pF {n:Nat} {a b:List ClR} (h:∀ i,i<n→∀ k,k<10→aW a i k=aW b i k):aG n a=aG n b:=by
 unfold aG;rw[aew,aew]
 congr 1
 refine aex fun i hi=>?_
 rw[aew,aew]
 congr 1
 exact aex fun k hk=>h i (List.mem_range.1 hi) k (List.mem_range.1 hk)
theorem xw (n:Nat) (cs:List ClR):aG n (aG n cs)=aG n cs:=pF fun _ hi _ hk=>uH cs hi hk
theorem pq {n:Nat} {cs:List ClR} (hr:∀ c∈cs,0≤c.1∧c.1<n∧0≤c.2.2.1∧c.2.2.1<10) {c:ClR}:c∈aG n cs↔c∈cs:=by
 unfold aG;simp only[List.mem_flatMap,List.mem_range,cell_mem]
 constructor
 ·rintro⟨i,-,k,-,h,-⟩
  exact h
 ·intro hc
  have:=hr c hc;exact⟨c.1.toNat,by omega,c.2.2.1.toNat,by omega,hc,by omega,by omega⟩
theorem nP (a b:List Cl) (F:Cl→Rat):sumC (a++b) F=sumC a F+sumC b F:=by
 induction a with
 | nil=>simp only[aeu,sumC];grind
 | cons c l ih=>rw[List.cons_append,sumC,sumC,ih];grind
theorem ux (F:Nat→List ClR) (G:Cl→Rat) (n:Nat):sumC (((adQ n).flatMap F).map bB) G=sumQ n fun i=>sumC ((F i).map bB) G:=by
 induction n with
 | zero=>rfl
 | succ n ih=>rw[aeo,aep,aey,nP,ih,sumQ,aeq,aer,aes]
theorem Fx {l:List Cl} (hl:∀ c∈l,c.rk<10) (b:Nat→Cl→Rat):sumQ 10 (fun k=>sumC l (fun c=>if c.rk=k then b k c else 0))=sumC l (fun c=>b c.rk c):=by
 induction l with
 | nil=>exact gL fun k _=>rfl
 | cons c l ih =>
  rw[sumC,←ih fun x hx=>hl x (aez _ hx)]
  have e:(fun k:Nat=>sumC (c::l) (fun c=>if c.rk=k then b k c else 0))=fun k=>(if c.rk=k then b k c else 0)+sumC l (fun c=>if c.rk=k then b k c else 0):=rfl
  rw[e,kW]
  congr 1
  rw[iO (hl c aeA) fun k _ hk=>if_neg (Ne.symm hk),if_pos rfl]
theorem ub {cs:List ClR} (hr:∀ c∈cs,0≤c.1∧0≤c.2.2.1) (i k:Nat) (G:Cl→Rat):sumC ((aW cs i k).map bB) G=sumC (cs.map bB) fun c=>if c.fr=i∧c.rk=k then G c else 0:=by
 induction cs with
 | nil=>rfl
 | cons c l ih =>
  have h0:=hr c aeA;have ih:=ih fun x hx=>hr x (aez _ hx)
  unfold aW at ih ⊢;rw[aeB,sumC,←ih]
  by_cases h:(bB c).fr=i∧(bB c).rk=k
  ·obtain⟨h1,h2⟩:=h
   have e1:c.1=(i:Int):=by have:c.1.toNat=i:=h1;omega
   have e2:c.2.2.1=(k:Int):=by have:c.2.2.1.toNat=k:=h2;omega
   rw[aeC (by simp [e1,e2]),aeB,sumC,if_pos ⟨h1,h2⟩]
  ·rw[if_neg h,aeD,Rat.zero_add]
   intro hb;rw[adX,beq_iff_eq,beq_iff_eq] at hb;refine h ⟨?_,?_⟩
   ·show c.1.toNat=i;omega
   ·show c.2.2.1.toNat=k;omega
theorem ta {n:Nat} {cs:List ClR} (hr:∀ c∈cs,0≤c.1∧c.1<n∧0≤c.2.2.1∧c.2.2.1<10) (G:Cl→Rat):sumC ((aG n cs).map bB) G=sumC (cs.map bB) G:=by
 unfold aG;rw[ux]
 have hfr:∀ c∈cs.map bB,c.fr<n:=fun c hc=>by
  obtain⟨x,hx,rfl⟩:=List.mem_map.1 hc;have:=hr x hx
  show x.1.toNat<n;omega
 have hrk:∀ c∈cs.map bB,c.rk<10:=fun c hc=>by
  obtain⟨x,hx,rfl⟩:=List.mem_map.1 hc;have:=hr x hx
  show x.2.2.1.toNat<10;omega
 have e:(fun i=>sumC (((adQ 10).flatMap fun k=>aW cs i k).map bB) G)=fun i=>sumC (cs.map bB) fun c=>if c.fr=i then G c else 0:=by
  funext i
  rw[ux,←Fx hrk fun _ c=>if c.fr=i then G c else 0]
  congr 1
  funext k
  rw[ub fun c hc=>⟨(hr c hc).1,(hr c hc).2.2.1⟩]
  refine d8 fun c _=>?_
  by_cases h1:c.rk=k
  ·rw[if_pos h1]
   by_cases h2:c.fr=i
   ·rw[if_pos ⟨h2,h1⟩,if_pos h2]
   ·rw[if_neg fun h=>h2 h.1,if_neg h2]
  ·rw[if_neg h1,if_neg fun h=>h1 h.2]
 rw[e,Cp hfr fun _ c=>G c]
theorem qx {cash:List Int} {cs:List ClR} (h:c9 cash cs=true):Alike (ab cash cs) (ab cash (aG cash.length cs)):=by
 have hr:∀ c∈cs,0≤c.1∧c.1<cash.length∧0≤c.2.2.1∧c.2.2.1<10:=fun c hc=>by
  have:=(rightD_iff.1 h).2.2.2 c hc;exact⟨this.1,this.2.1,this.2.2.2.2.1,this.2.2.2.2.2.1⟩
 refine⟨rfl,rfl,fun c=>?_,fun F=>(ta hr F).symm⟩
 show c∈cs.map bB↔c∈(aG cash.length cs).map bB;rw[aeE,aeE];simp only[pq hr]
theorem uA {n:Nat} {cs:List ClR} (hr:∀ c∈cs,0≤c.1∧c.1<n∧0≤c.2.2.1∧c.2.2.1<10):(aG n cs).length=cs.length:=by
 have h1:∀ l:List ClR,sumC (l.map bB) (fun _=>1)=(l.length:Rat):=fun l=>by
  induction l with
  | nil=>rfl
  | cons a l ih=>rw[aeB,sumC,ih,aeF,Rat.natCast_add,Rat.add_comm];rfl
 have:=ta hr fun _=>1
 rw[h1,h1] at this
 exact_mod_cast this
theorem mQ {cash:List Int} {cs:List ClR} (h:SmallD cash cs):SmallD cash (aG cash.length cs):=by
 have hri:=rightD_iff.1 h.right
 have hr:∀ c∈cs,0≤c.1∧c.1<cash.length∧0≤c.2.2.1∧c.2.2.1<10:=fun c hc=>by
  have:=hri.2.2.2 c hc;exact⟨this.1,this.2.1,this.2.2.2.2.1,this.2.2.2.2.2.1⟩
 refine⟨rightD_iff.2 ⟨hri.1,by rw[uA hr];exact hri.2.1,hri.2.2.1,fun c hc=>hri.2.2.2 c ((pq hr).1 hc)⟩,h.n5,by rw[uA hr];exact h.c12,fun c hc=>h.am c ((pq hr).1 hc)⟩
end Go.Mini
namespace Go.Mini
open Classical
noncomputable def Day.fend (d:Day):Nat→Nat:=(d.rounds (10*d.n) fun _=>10).2
noncomputable def Day.frs (d:Day):List (List Nat):=(d.rounds (10*d.n) fun _=>10).1
noncomputable def Day.gr (d:Day):Nat→Rat:=d.top d.fend
theorem tj (n k:Nat):kG n (fun _=>k)=k*n:=by
 induction n with
 | zero=>rfl
 | succ n ih=>rw[kG,ih,Nat.mul_succ]
section
variable {d:Day} (hd:d.OK)
include hd
theorem Day.OK.hex:∀ f,Reach d f→∃ h,IsTop d f h:=fun _ hr=>NQ hd hr
theorem kq:Reach d d.fend∧d.falls d.fend=[]:=tz hd hd.hex (10*d.n) (fun _=>10) (Reach.start hd) (by rw[tj];exact adW _)
theorem qX:IsTop d d.fend d.gr:=Day.top_spec (hd.hex _ (kq hd).1)
theorem Nl:∀ i,i<d.n→d.U i (d.fend i)≤d.gr i:=by
 intro i hi;apply aeG;intro hn;have:i∈d.falls d.fend:=Day.mem_falls.2 ⟨hi,by unfold Day.gr at hn;grind⟩
 rw[(kq hd).2] at this
 cases this
theorem qL:(∀ i,i<d.n→d.gr i=d.phi d.gr i)∧∀ i,i<d.n→(d.fend i<10↔d.gr i<d.U i 10):=by
 obtain⟨g,h1,h2,h3⟩:=qX hd;exact h1.final hd h2 h3 (Nl hd)
theorem ro {i:Nat} (hi:i<d.n):0≤d.gr i:=(qX hd).nonneg hd hi
end
theorem S_nonneg {d:Day} (hd:d.OK) (i k:Nat):0≤d.S i k:=dV fun c hc=>by
 try dsimp only
 split
 ·exact hd.am c hc
 ·exact ad6
end Go.Mini
namespace Go.Mini
open Classical
noncomputable def Day.ranks (d:Day) (i r:Nat):Nat:=((adQ r).filter fun k=>decide (0<d.S i k)).length
theorem Cu (d:Day) (i:Nat) {r s:Nat} (h:r≤s):d.ranks i r≤d.ranks i s:=by
 induction s with
 | zero =>
      have:r=0:=by omega
      subst this;exact adW _
 | succ s ih =>
  by_cases hr:r=s+1
  ·rw[hr];exact adW _
  ·have:=ih (by omega)
   unfold Day.ranks at *;rw[aeo,aev,aeH];omega
theorem BZ (d:Day) (i:Nat) {r s:Nat} (h:r<s) (hS:0<d.S i r):d.ranks i r+1≤d.ranks i s:=by
 have h1:=Cu d i (r:=r+1) (s:=s) (by omega);unfold Day.ranks at *;rw[aeo,aev,aeH,aeC (by simpa using hS)] at h1;simp only[aeI,aeF,List.length_nil] at h1;omega
theorem qV (d:Day) (f:Nat→Nat):(d.falls f).Pairwise (·<·):=List.Pairwise.filter _ List.pairwise_lt_range
theorem BK (d:Day) (f:Nat→Nat) (i:Nat):(d.falls f).count i=if i∈d.falls f then 1 else 0:=by
 have hnd:(d.falls f).Nodup:=(qV d f).imp fun h=>by omega
 rw[hnd.count]
section
variable {d:Day} (hd:d.OK)
include hd
theorem JL {f:Nat→Nat} (hr:Reach d f) {i:Nat} (hi:i<d.n):(i∈d.falls f→d.fallen f (d.top f) i<f i∧0<d.S i (d.fallen f (d.top f) i))∧(i ∉ d.falls f→d.fallen f (d.top f) i=f i):=by
 have ht:=Day.top_spec (hd.hex f hr);have hle:∀ i,f i≤10:=by obtain⟨g,k1,-⟩:=ht;exact k1.le
 have hf:=rV hd hle (h:=d.top f) fun i hin=>ht.nonneg hd hin
 constructor
 ·intro hm
  obtain⟨h1,h2⟩:=Day.mem_falls.1 hm;have h3:=hf.2.1 i h1 h2;refine⟨h3.1,?_⟩;have h4:=d.U_succ i (d.fallen f (d.top f) i);grind
 ·intro hm
  refine hf.2.2 i hi ?_;apply aeG;intro hn;exact hm (Day.mem_falls.2 ⟨hi,by grind⟩)
theorem sE:∀ k (f:Nat→Nat),Reach d f→(∀ l∈(d.rounds k f).1,l≠[]∧l.Pairwise (·<·)∧∀ i∈l,i<d.n)∧∀ i,i<d.n→(d.rounds k f).1.flatten.count i+d.ranks i ((d.rounds k f).2 i)≤d.ranks i (f i)∧((d.rounds k f).2 i<f i↔0<(d.rounds k f).1.flatten.count i)∧(d.rounds k f).2 i≤f i
 | 0,f,hr=>⟨fun l hl=>(by cases hl),fun i hi=>by simp [Day.rounds]⟩
 | k+1,f,hr=>by
  unfold Day.rounds
  by_cases hne:d.falls f=[]
  ·rw[if_pos hne]
   exact⟨fun l hl=>(by cases hl),fun i hi=>by simp⟩
  ·rw[if_neg hne]
   obtain⟨h1,h2⟩:=sE k _ (hr.next hd hd.hex);refine⟨fun l hl=>?_,fun i hi=>?_⟩
   ·dsimp only at hl
    rcases List.mem_cons.1 hl with rfl | hl
    ·exact⟨hne,qV d f,fun i hi=>(Day.mem_falls.1 hi).1⟩
    ·exact h1 l hl
   ·obtain⟨h3,h4,h5⟩:=h2 i hi
    obtain⟨f1,f2⟩:=JL hd hr hi;dsimp only;rw[aeJ,List.count_append,BK]
    by_cases hm:i∈d.falls f
    ·obtain⟨f3,f4⟩:=f1 hm
     rw[if_pos hm];have:=BZ d i f3 f4;refine⟨by omega,?_,by omega⟩
     constructor<;>intro _<;>omega
    ·have f3:=f2 hm
     rw[f3] at h3 h4 h5;rw[if_neg hm];refine⟨by omega,?_,by omega⟩
     rw[h4];omega
theorem I4:(∀ l∈d.frs,l≠[]∧l.Pairwise (·<·)∧∀ i∈l,i<d.n)∧∀ i,i<d.n→d.frs.flatten.count i≤d.ranks i 10∧(d.gr i<d.U i 10↔0<d.frs.flatten.count i):=by
 obtain⟨h1,h2⟩:=sE hd (10*d.n) (fun _=>10) (Reach.start hd);refine⟨h1,fun i hi=>?_⟩
 obtain⟨h3,h4,h5⟩:=h2 i hi;unfold Day.frs;refine⟨by omega,?_⟩
 rw[←h4,←(qL hd).2 i hi]
 rfl
omit hd in
theorem GW {i:Nat} {x:Rat} (h0:0≤x):∀ k,x<d.U i k→∃ r,r<k∧d.U i r≤x∧x<d.U i (r+1):=by
 intro k
 induction k with
 | zero=>intro h;rw[d.U_zero] at h;grind
 | succ k ih =>
  intro h
  by_cases h2:x<d.U i k
  ·obtain⟨r,h3,h4⟩:=ih h2
   exact⟨r,by omega,h4⟩
  ·exact⟨k,by omega,by grind,h⟩
theorem FI {i:Nat} {x:Nat→Rat} (h0:0≤x i):(∃ c∈d.cl,c.fr=i∧d.pay x c<c.am)↔x i<d.U i 10:=by
 constructor
 ·rintro⟨c,hc,rfl,h1⟩
  apply aeG;intro h2;have:=hd.U_mono c.fr (r:=c.rk+1) (s:=10) (by have:=hd.rk c hc;omega);unfold Day.pay at h1;rw[if_pos (by grind)] at h1;grind
 ·intro h1
  obtain⟨r,h2,h3,h4⟩:=GW h0 10 h1;have h5:=d.U_succ i r;have hS:0<d.S i r:=by grind
  obtain⟨c,hc,hp⟩:=nJ hS
  by_cases hcc:c.fr=i∧c.rk=r
  ·obtain⟨rfl,rfl⟩:=hcc
   rw[if_pos ⟨rfl,rfl⟩] at hp;refine⟨c,hc,rfl,?_⟩;unfold Day.pay;rw[if_neg (by grind),kB (by grind)];have hw:=hd.w_pos hc hp;have h6:=Day.w_S hS;have h7:=Rat.mul_lt_mul_of_pos_left (show x c.fr-d.U c.fr c.rk<d.S c.fr c.rk by grind) hw;grind
  ·rw[if_neg hcc] at hp
   grind
theorem w9 (i:Nat) (k:Nat):0<d.S i k↔∃ c∈d.cl,c.fr=i∧c.rk=k∧0<c.am:=by
 constructor
 ·intro h
  obtain⟨c,hc,hp⟩:=nJ h
  by_cases hcc:c.fr=i∧c.rk=k
  ·rw[if_pos hcc] at hp
   exact⟨c,hc,hcc.1,hcc.2,hp⟩
  ·rw[if_neg hcc] at hp
   grind
 ·rintro⟨c,hc,rfl,rfl,hp⟩
  have:=hd.am_le hc;grind
end
end Go.Mini
namespace Go.Mini
open Classical
section
variable {d:Day} (hd:d.OK) {k:Rat} (hk:0<k)
include hk
end
section
variable {d:Day} (hd:d.OK) (who:Nat)
include hd
end
end Go.Mini
namespace Go.Mini
open Classical
theorem EG {d:Day} (hd:d.OK) {f:Nat→Nat} {g:Nat→Rat} (hi:Inv d f g):∀ m (P:Nat→Prop),idle d P≤m→Pay d f g P (d.lst f P)→∃ P,PayG d f P∧∀ i,i<d.n→d.lst f P i=d.top f i
 | m,P,hm,hp=>by
  by_cases hs:∀ i,i<d.n→f i<10→d.U i (f i)<d.lst f P i→P i
  ·exact⟨P,⟨hd,g,hi,hp⟩,hp.is_top hd hi hs⟩
  ·have⟨i,h1,h2,h3,h4⟩:∃ i,i<d.n∧f i<10∧d.U i (f i)<d.lst f P i∧¬ P i:=by
    apply aeG;intro hn;exact hs fun i h1 h2 h3=>aeG fun h4=>hn ⟨i,h1,h2,h3,h4⟩
   have hlt:=Et (h:=d.lst f P) h1 h2 h3 h4
   cases m with
   | zero=>omega
   | succ m=>exact EG hd hi m _ (by omega) (hp.succ hd hi)
theorem pg {d:Day} (hd:d.OK) {f:Nat→Nat} (hr:Reach d f):∃ P,PayG d f P∧∀ i,i<d.n→d.lst f P i=d.top f i:=by
 obtain⟨g,hi,-⟩:=hr;exact EG hd hi _ _ (adW _) (Pay.first hd hi)
section
variable {cash:List Int} {cs:List ClR} (hs:SmallD cash cs)
include hs
theorem HM {f:Nat→Nat} (hr:Reach (ab cash cs) f) {i:Nat} (hi:i<cash.length):szR 453 ((ab cash cs).top f i):=by
 obtain⟨P,hp,he⟩:=pg hs.ok hr;rw[←he i hi];exact Iu hs hp hi
theorem DT {i:Nat} (hi:i<cash.length):szR 453 ((ab cash cs).gr i):=HM hs (kq hs.ok).1 hi
theorem Rw {i:Nat} (hi:i<cash.length):(ab cash cs).gr i≤((2^51:Nat):Rat):=by
 obtain⟨P,hp,he⟩:=pg hs.ok (kq hs.ok).1;have:=(oz hs hp hi).2;rw[he i hi] at this;exact this
theorem IE:∃ M:Nat,0<M∧(∃ a,a≤402∧M≤2^a)∧∀ i,i<cash.length→DenBy M ((ab cash cs).gr i):=by
 obtain⟨P,hp,he⟩:=pg hs.ok (kq hs.ok).1;obtain⟨M,h1,h2,h3⟩:=EP hs hp;refine⟨M,h1,h2,fun i hi=>?_⟩
 have:=h3 i hi;rw[he i hi] at this;exact this
end
section
variable {d:Day} (hd:d.OK)
include hd
end
noncomputable def sH (cash:List Int) (cs:List ClR) (k:Nat):Nat:=if (ab cash cs).fend k<10 then SN cs k ((ab cash cs).fend k) else 1
section
variable {cash:List Int} {cs:List ClR} (hs:SmallD cash cs)
include hs
theorem zk {k:Nat} (hk:k<cash.length):0<sH cash cs k:=by
 unfold sH
 split
 ·rename_i h
  obtain⟨g,h1,-⟩:=qX hs.ok;have h2:=h1.S_pos (i:=k) hk h;rw[←ng hs.right] at h2
  exact_mod_cast h2
 ·omega
theorem DU (k:Nat):sH cash cs k≤2^29:=by
 unfold sH
 split
 ·exact hs.SN_le _ _
 ·exact aeK
theorem E3 {M:Nat} (hM:∀ i,i<cash.length→DenBy M ((ab cash cs).gr i)) {c:ClR} (hc:c∈cs):DenBy (M*sH cash cs (bB c).fr) ((ab cash cs).pay (ab cash cs).gr (bB c)):=by
 have hd:=hs.ok;have hcm:bB c∈(ab cash cs).cl:=aeL hc;have hk:(bB c).fr<cash.length:=hd.fr _ hcm;have ham:∀ N,DenBy N (bB c).am:=fun N=>DenBy.int N c.2.2.2
 have hz:∀ N,DenBy N (0:Rat):=DenBy.zero;have hU:=fun r s=>@Day.OK.U_mono _ hd (bB c).fr r s
 have hrk:=hd.rk _ hcm;have hno:=Nl hd _ hk;unfold Day.pay
 by_cases h1:(ab cash cs).U (bB c).fr ((bB c).rk+1)≤(ab cash cs).gr (bB c).fr
 ·rw[if_pos h1];exact ham _
 ·rw[if_neg h1]
  have hf:(ab cash cs).fend (bB c).fr<10:=by
   refine ((qL hd).2 _ hk).2 ?_;have:=hU ((bB c).rk+1) 10 (by omega);grind
  have hlt:(ab cash cs).gr (bB c).fr<(ab cash cs).U (bB c).fr ((ab cash cs).fend (bB c).fr+1):=by
   obtain⟨g,k1,-,k3⟩:=qX hd;have:=k1.hi _ hk hf;have:=k3 _ hk;grind
  rcases Nat.lt_trichotomy (bB c).rk ((ab cash cs).fend (bB c).fr) with h2 | h2 | h2
  ·have:=hU ((bB c).rk+1) ((ab cash cs).fend (bB c).fr) (by omega)
   exact absurd (ad8 this hno) h1
  ·have hw:DenBy (sH cash cs (bB c).fr) ((ab cash cs).w (bB c)):=by
    unfold sH;rw[if_pos hf];refine⟨c.2.2.2,?_⟩;rw[ng hs.right,←h2]
    have:0<(ab cash cs).S (bB c).fr (bB c).rk:=by
     have:=(ab cash cs).U_succ (bB c).fr ((ab cash cs).fend (bB c).fr);rw[h2];grind
    exact Day.w_S this
   have hgr:DenBy M ((ab cash cs).gr (bB c).fr-(ab cash cs).U (bB c).fr (bB c).rk):=by
    refine (hM _ hk).sub ?_;rw[←dX hs.right];exact DenBy.int _ _
   rw[kB (by rw[h2];grind),Nat.mul_comm];exact hw.mul hgr
  ·have:=hU ((ab cash cs).fend (bB c).fr+1) (bB c).rk (by omega)
   rw[ig (by grind),aeM];exact hz _
theorem E9 {c:ClR} (hc:c∈cs):szR 482 ((ab cash cs).pay (ab cash cs).gr (bB c)):=by
 obtain⟨M,h1,⟨a,h2,h3⟩,h4⟩:=IE hs;have hcm:bB c∈(ab cash cs).cl:=aeL hc;have hk:(bB c).fr<cash.length:=hs.ok.fr _ hcm;have h5:=E3 hs h4 hc;have h6:=zk hs hk;have h7:=DU hs (bB c).fr;have h8:M*sH cash cs (bB c).fr≤2^(a+29):=by rw[aec];exact ad5 h3 h7
 have h9:=hs.ok.pay_nonneg (ab cash cs).gr hcm
 have h10:(ab cash cs).pay (ab cash cs).gr (bB c)≤((2^25:Nat):Rat):=by
  refine ad8 (hs.ok.pay_le _ hcm) ?_;have:=hs.am c hc
  show ((c.2.2.2:Int):Rat)≤_;have:c.2.2.2≤((2^25:Nat):Int):=by omega
  rw[←ad1];exact Rat.intCast_le_intCast.2 this
 exact (h5.sz (aed h1 h6) h8 h9 h10).mono (by omega)
end
end Go.Mini
namespace Go.Mini
open Go
set_option maxRecDepth 10000
set_option maxHeartbeats 4000000
theorem rightC_iff {n:Int} {c:ClR}:eT n c=true↔0≤c.1∧c.1<n ∧ -1≤c.2.1∧c.2.1<n∧0≤c.2.2.1∧c.2.2.1<10∧0≤c.2.2.2∧c.2.2.2≤1000000000000000:=by
 unfold eT;simp only[adX,decide_eq_true_eq,and_assoc]
def dK (x:Int):Bool:=decide (0≤x)&&decide (x≤1000000000000000)
theorem rightM_iff {x:Int}:dK x=true↔0≤x∧x≤1000000000000000:=by
 unfold dK;simp only[adX,decide_eq_true_eq]
theorem Co (cash:List Int) (cs:List ClR):c9 cash cs=(decide (cash.length≤60)&&decide (cs.length≤2000)&&cash.all dK&&cs.all (eT cash.length)):=rfl

theorem DV {x y:Rat} (hx:cn x) (hy:cn y) (h:gX x y=true):mN [.agg (ad (ai x)),.agg (ad (ai y))]=some (.same (.tup [.agg (ad (ai (x+y))),.int .i64 0])):=by
 have h1:=eA hx;have h2:=eA hy;have:=wV (ai x).1.1 (ai x).1.2 (ai x).2.1 (ai x).2.2 (ai y).1.1 (ai y).1.2 (ai y).2.1 (ai y).2.2 ⟨h1.1,h1.2,h2.1,h2.2⟩;have e:sI (ai x) (ai y)=(ai (x+y),0):=by rw[uk hx hy,h];rfl
 exact this.trans (by show some (PRes.same (bw (sI (ai x) (ai y))))=_;rw[e];rfl)
theorem yB {x y:Rat} (hx:cn x) (hy:cn y) (h:gX x (-y)=true):mE [.agg (ad (ai x)),.agg (ad (ai y))]=some (.same (.tup [.agg (ad (ai (x-y))),.int .i64 0])):=by
 have h1:=eA hx;have h2:=eA hy;have:=Fg (ai x).1.1 (ai x).1.2 (ai x).2.1 (ai x).2.2 (ai y).1.1 (ai y).1.2 (ai y).2.1 (ai y).2.2 ⟨h1.1,h1.2,h2.1,h2.2⟩;have e:nr (ai x) (ai y)=(ai (x-y),0):=by rw[q0 hx hy,h];rfl
 exact this.trans (by show some (PRes.same (bw (nr (ai x) (ai y))))=_;rw[e];rfl)
theorem Ex {x y:Rat} (hx:cn x) (hy:cn y) (h:qU x y=true):lC [.agg (ad (ai x)),.agg (ad (ai y))]=some (.same (.tup [.agg (ad (ai (x*y))),.int .i64 0])):=by
 have h1:=eA hx;have h2:=eA hy;have:=GV (ai x).1.1 (ai x).1.2 (ai x).2.1 (ai x).2.2 (ai y).1.1 (ai y).1.2 (ai y).2.1 (ai y).2.2 ⟨h1.1,h1.2,h2.1,h2.2⟩;have e:mD (ai x) (ai y)=(ai (x*y),0):=by rw[uZ hx hy,h];rfl
 exact this.trans (by show some (PRes.same (bw (mD (ai x) (ai y))))=_;rw[e];rfl)
theorem MC {x y:Rat} (hx:cn x) (hy:cn y) (h0:y≠0) (h:nt x y=true):o5 [.agg (ad (ai x)),.agg (ad (ai y))]=some (.same (.tup [.agg (ad (ai (x / y))),.int .i64 0])):=by
 have h1:=eA hx;have h2:=eA hy;have:=FV (ai x).1.1 (ai x).1.2 (ai x).2.1 (ai x).2.2 (ai y).1.1 (ai y).1.2 (ai y).2.1 (ai y).2.2 ⟨h1.1,h1.2,h2.1,h2.2⟩;have e:iY (ai x) (ai y)=(ai (x / y),0):=by rw[qE hx hy h0,h];rfl
 exact this.trans (by show some (PRes.same (bw (iY (ai x) (ai y))))=_;rw[e];rfl)
theorem gu {x y:Rat} (hx:cn x) (hy:cn y):dx [.agg (ad (ai x)),.agg (ad (ai y))]=some (.same (.int .i64 (kD x y))):=by
 have h1:=eA hx;have h2:=eA hy;have:=oU (ai x).1.1 (ai x).1.2 (ai x).2.1 (ai x).2.2 (ai y).1.1 (ai y).1.2 (ai y).2.1 (ai y).2.2 ⟨h1.1,h1.2,h2.1,h2.2⟩;exact this.trans (by show some (PRes.same (.int .i64 (kX (ai x) (ai y))))=_;rw[p9 hx hy])
theorem z9 {x y:Rat}:decide (kD x y>0)=decide (y<x):=by
 have h1:kD x y>0↔y<x:=by
  unfold kD;rw[gt_iff_lt,Int.sign_pos_iff,aeN];omega
 rw[decide_eq_decide];exact h1
theorem pE {x y:Rat}:decide (kD x y<0)=decide (x<y):=by
 have h1:kD x y<0↔x<y:=by
  unfold kD;rw[aeO,aeN];omega
 rw[decide_eq_decide];exact h1
theorem sd {x y:Rat}:decide (kD x y≥0)=decide (y≤x):=by
 have h1:kD x y≥0↔y≤x:=by
  unfold kD;rw[ge_iff_le,Int.sign_nonneg_iff,Rat.le_iff];omega
 rw[decide_eq_decide];exact h1
end Go.Mini
namespace Go.Mini
open Go
variable {P:Program} {A:Nat→Prop} {w w':World} {B B':Lay} {mem mem':Mem}
def mkN (N:List MV→Mem→Option Data) (args:List MV) (mem:Mem):Option Eff:=(N args mem).map fun d => .rel (isR (.dat d) mem)
@[go_sem] theorem S7 (N:List MV→Mem→Option Data) (args:List MV) (mem:Mem):mkN N args mem=(N args mem).map fun d => .rel (isR (.dat d) mem):=_root_.id rfl
theorem pf {T : Tab} {kb : Nat} {own : List Nat} (hT : jV P T) (hm : P.follows .mixedOrders = true) {f : FuncId} {fn : Func} {mf : MFunc} (hf : P.funcs[f]? = some fn) (hname : (fn.name == "runtime.NumGoroutine") = false) (htr : jO P kb own fn = some { mf with body := erase mf.body })
  (J:Key→Prop) {N:List MV→Mem→Option Data}
  (h:∀ args mem d,N args mem=some d→args.length≤mf.n∧(∀ j,J j→mem j=none) ∧
   wp T mf.body (qq mf.res fun m mem'=>toD 6 emp m=some d∧∀ j,¬ J j→mem' j=mem j) ⟨ax args,mem⟩):iz P f (mkN N):=by
 refine⟨xx hf hname htr,fun args mem eff hE A w B vs hmr hv=>?_⟩
 unfold mkN at hE;rw[Option.map_eq_some_iff] at hE;obtain⟨d,hU,rfl⟩:=hE;obtain⟨hlen,hJ,hwp⟩:=h args mem d hU;refine Calls.mono (kF (Post:=fun m mem'=>toD 6 emp m=some d∧∀ j,¬ J j→mem' j=mem j) hT hm hf htr hlen (fun e st hk=>rK hk) hwp hmr hv) fun e w' he=>?_
 obtain⟨v,m,mem',B',rfl,hs,hv',hd,hmem⟩:=he;exact⟨v,.dat d,mem,md J B',rfl,hs.drop hmr hJ hJ (fun j hj=>(hmem j hj).symm) (fun k g cs hk m hm => .inr ⟨k,g,cs,hk,hm⟩),.dat ((rZ 6 m v d hd hv').less fun b hb=>hb.imp kl id),rfl,rfl⟩
open Classical in
noncomputable def NN {α:Type} (M:α→List MV→Mem→Prop) (res:α→Data):List MV→Mem→Option Data:=fun args mem=>if h:∃ a,M a args mem then some (res (Classical.choose h)) else none
theorem Kv {α:Type} {M:α→List MV→Mem→Prop} {res:α→Data} (uniq:∀ a b args mem,M a args mem→M b args mem→res a=res b) {a:α} {args:List MV} {mem:Mem} (h:M a args mem):NN M res args mem=some (res a):=by
 have hx:∃ b,M b args mem:=⟨a,h⟩;unfold NN;rw[dif_pos hx,uniq _ _ _ _ (aeP hx) h]
theorem DM {α:Type} {M:α→List MV→Mem→Prop} {res:α→Data} {args:List MV} {mem:Mem} {d:Data} (h:NN M res args mem=some d):∃ a,M a args mem∧d=res a:=by
 unfold NN at h
 split at h
 ·rename_i hx
  exact⟨_,aeP hx,(Option.some.inj h).symm⟩
 ·cases h
theorem I6 {α:Type} {M:α→List MV→Mem→Prop} {R:α→Mem→MV→Mem→Prop} (uniq:∀ a b args mem,M a args mem→M b args mem→R a mem=R b mem) {a:α} {args:List MV} {mem:Mem} (h:M a args mem):QQ M R args mem=some (R a mem):=by
 have hx:∃ b,M b args mem:=⟨a,h⟩;unfold QQ;rw[dif_pos hx,uniq _ _ _ _ (aeP hx) h]
theorem vz {K:St→Prop} {st:St} {x:Opd} {i k sz kc g off:Nat} {cs:List MV} (h1:ev st.tm x = .ptr kc g off) (h2:st.mem kc=some (g,cs)) (h3:cs[off+i]?=some .nil) (h4:k≠kc)
  (h:K ⟨st.tm,az (az st.mem k (aD st.mem k) []) kc g (cs.set (off+i) (.ref k (aD st.mem k) sz 0 0))⟩):dN K st (.adoptC x i k sz):=by
 simp only[dN,h1,h2,if_true,h3];rw[if_pos h4];exact h
theorem vh {K:St→Prop} {st:St} {x:Opd} {i kc gc off k g sz o len:Nat} {cc cs:List MV} {d:Data} (h1:ev st.tm x = .ptr kc gc off) (h2:st.mem kc=some (gc,cc)) (h3:cc[off+i]?=some (.ref k g sz o len)) (h4:st.mem k=some (g,cs)) (h5:lF cs=true) (h6:k≠kc) (h7:toD 1 st.mem (.ref k g sz o len)=some d)
  (h:K ⟨st.tm,az (kill st.mem k) kc gc (cc.set (off+i) (.dat d))⟩):dN K st (.freezeC x i):=by
 simp only[dN,h1,h2,if_true,h3,h4];rw[if_pos ⟨trivial,h5,h6⟩,h7];exact h
def FrK (n:Nat) (mem m:Mem):Prop:=∀ k,k / 1000≠n→m k=mem k
theorem FrK.refl (n:Nat) (mem:Mem):FrK n mem mem:=fun _ _=>rfl
theorem FrK.upd {n k g:Nat} {cs:List MV} {mem m:Mem} (h:FrK n mem m) (hk:k / 1000=n):FrK n mem (az m k g cs):=fun j hj=>by
 have:j≠k:=fun e=>hj (by rw[e];exact hk)
 simp only[az,this,if_false];exact h j hj
theorem FrK.kill {n k:Nat} {mem m:Mem} (h:FrK n mem m) (hk:k / 1000=n):FrK n mem (kill m k):=h.upd hk
theorem FrK.at {n:Nat} {mem m:Mem} (h:FrK n mem m) (k:Nat) (hk:k / 1000≠n):m k=mem k:=h k hk
def NoK (n:Nat) (mem:Mem):Prop:=∀ k,k / 1000=n→mem k=none
theorem NoK.fr {n n':Nat} {mem m:Mem} (h:NoK n mem) (hf:FrK n' mem m) (hn:n≠n'):NoK n m:=fun k hk=>by rw[hf k (by omega)];exact h k hk
end Go.Mini
namespace Go.Mini
open Go
set_option maxRecDepth 10000
set_option maxHeartbeats 4000000
def iC (x:Int):MV:=.dat (.int .i64 x)
def bC (b:Bool):MV:=.dat (.bool b)
theorem EE {α:Type} {f:α→MV} {l:List α} {k:Nat} {y:α} (h:l[k]?=some y):aeQ 1 (aeR k (l.map f))=[f y]:=by
 obtain⟨hl,rfl⟩:=List.getElem?_eq_some_iff.1 h;rw[←List.map_drop,List.drop_eq_getElem_cons hl,aeB,List.take_succ_cons,aeS]
structure RoundAt (cash:List Int) (cs:List ClR) (fl:List Int) (P:List Bool) (g gr gp:Nat) (mem:Mem):Prop where
 r:mem 261029=some (g,[.dat (.sl (cash.map aa)),.dat (.sl (cs.map clL)),.ref 261042 gr 1 0 fl.length,.ref 261027 gp 1 0 P.length,.dat (.bool false)])
 f:mem 261042=some (gr,fl.map iC)
 p:mem 261027=some (gp,P.map bC)
theorem RoundAt.fr {cash:List Int} {cs:List ClR} {fl:List Int} {P:List Bool} {g gr gp n:Nat} {mem m:Mem} (h:RoundAt cash cs fl P g gr gp mem) (hf:FrK n mem m) (hn:n≠261):RoundAt cash cs fl P g gr gp m :=
 ⟨(hf.at 261029 (by omega)).trans h.r,(hf.at 261042 (by omega)).trans h.f,(hf.at 261027 (by omega)).trans h.p⟩
theorem Ir {a b:List Int} (h:a.map iC=b.map iC):a=b:=af (fun x y h=>by simpa [iC] using h) _ _ h
theorem OL {a b:List Bool} (h:a.map bC=b.map bC):a=b:=af (fun x y h=>by simpa [bC] using h) _ _ h
theorem RoundAt.uniq {cash cash':List Int} {cs cs':List ClR} {fl fl':List Int} {P P':List Bool} {g gr gp g' gr' gp':Nat} {mem:Mem} (h:RoundAt cash cs fl P g gr gp mem) (h':RoundAt cash' cs' fl' P' g' gr' gp' mem):cash=cash'∧cs=cs'∧fl=fl'∧P=P'∧g=g'∧gr=gr'∧gp=gp':=by
 have h1:=h.r;rw[h'.r] at h1;simp only[Option.some.injEq,Prod.mk.injEq,List.cons.injEq,MV.dat.injEq,Data.sl.injEq,MV.ref.injEq,true_and,and_true] at h1;obtain⟨e1,e2,e3,⟨e4,-⟩,e6,-⟩:=h1;have h2:=h.f;rw[h'.f] at h2;simp only[Option.some.injEq,Prod.mk.injEq] at h2;have h3:=h.p;rw[h'.p] at h3;simp only[Option.some.injEq,Prod.mk.injEq] at h3;exact⟨(af aj _ _ e2).symm,(af fb _ _ e3).symm,(Ir h2.2).symm,(OL h3.2).symm,e1.symm,e4.symm,e6.symm⟩
structure RdA where
 cash:List Int
 cs:List ClR
 fl:List Int
 P:List Bool
 g:Nat
 gr:Nat
 gp:Nat
def RdA.At (a:RdA) (mem:Mem):Prop:=RoundAt a.cash a.cs a.fl a.P a.g a.gr a.gp mem
theorem RdA.uniq {a b:RdA} {mem:Mem} (h:a.At mem) (h':b.At mem):a=b:=by
 obtain⟨a1,a2,a3,a4,a5,a6,a7⟩:=a;obtain⟨b1,b2,b3,b4,b5,b6,b7⟩:=b;have:=RoundAt.uniq h h';dsimp only at this;obtain⟨rfl,rfl,rfl,rfl,rfl,rfl,rfl⟩:=this
 rfl
theorem FrK.same {n k g:Nat} {cs:List MV} {mem m:Mem} (h:FrK n mem m) (hm:mem k=some (g,cs)):FrK n mem (az m k g cs):=fun j hj=>by
 by_cases e:j=k
 ·subst e
  simp only[az,if_true];exact hm.symm
 ·simp only[az,e,if_false]
  exact h j hj
theorem dR {z:Int} (h1:-9000000000000000000≤z) (h2:z≤9000000000000000000):ct z:=by unfold ct;omega
theorem okCs.upto {cs:List ClR} (h:okCs cs) (i r:Int):0≤aP cs i r∧aP cs i r≤2000000000000000000:=by
 have:=h.sum (fun c=>c.1=i∧c.2.2.1<r) cs.length;rw[List.take_length] at this;exact this
theorem JU {p q:Int} (hp:ct p) (hq:ct q) (h0:q≠0):fP (aS p) (aS q)=(ai ((p:Rat) / (q:Rat)),0):=by
 rw[iK (jx hp) (jx hq) h0,aee]
def SI (cs:List ClR) (i r:Int):Int:=aP cs i (r+1)-aP cs i r
end Go.Mini
namespace Go.Mini
open Go Classical
set_option maxRecDepth 10000
def fOf (fl:List Int) (i:Nat):Nat:=(fl.getD i 10).toNat
def pOf (P:List Bool) (i:Nat):Prop:=P.getD i false=true
theorem mG {z:Int} {b:Nat} (h:z.natAbs≤2^b):szR b (z:Rat):=⟨by rw[aeT];exact h,by rw[aeU];exact aeK⟩
theorem SM {cash:List Int} {cs:List ClR} (hs:SmallD cash cs) {c:ClR} (hc:c∈cs):szR 29 ((ab cash cs).w (bB c)):=by
 have hr:=(rightD_iff.1 hs.right).2.2.2 c hc;have ham:=hs.am c hc
 by_cases h0:c.2.2.2=0
 ·have:(bB c).am=0:=by show ((c.2.2.2:Int):Rat)=0;rw[h0];rfl
  rw[Day.w_zero this];exact⟨Nat.zero_le _,aeK⟩
 ·have hS:=ng hs.right (bB c).fr (bB c).rk
  have hle:=(mn hs.right).am_le (c:=bB c) (aeL hc);rw[←hS] at hle
  have h1:c.2.2.2≤((SN cs (bB c).fr (bB c).rk:Nat):Int):=by
   have:((c.2.2.2:Int):Rat)≤(((SN cs (bB c).fr (bB c).rk:Nat):Int):Rat):=by rw[ad1];exact hle
   exact_mod_cast this
  have h2:=hs.SN_le (bB c).fr (bB c).rk
  obtain⟨f1,f2⟩:=fE (q:=(ab cash cs).w (bB c)) (v:=c.2.2.2) (d:=((SN cs (bB c).fr (bB c).rk:Nat):Int)) (by omega) (by
   rw[ad1,hS];refine Day.w_S ?_;rw[←hS];have:0<SN cs (bB c).fr (bB c).rk:=by omega
   exact_mod_cast this)
  rw[ad3] at f2;exact⟨by omega,by omega⟩
section
variable {cash:List Int} {cs:List ClR} (hs:SmallD cash cs) (f:Nat→Nat) (P:Nat→Prop) (i:Nat)
include hs
end
end Go.Mini
namespace Go.Mini
open Go
set_option maxRecDepth 10000
set_option maxHeartbeats 4000000
theorem Bp:ct 0:=by unfold ct;omega
theorem M0:ct 1:=by unfold ct;omega
theorem Ah {N k:Nat} (x:Nat→Rat) (y:Rat):(bJ N x).set k (ai y)=bJ N fun j=>if j=k then y else x j:=by
 refine qJ (by rw[aeV,dj]) fun j hj=>?_
 rw[aeW]
 by_cases h:k=j
 ·rw[if_pos h,if_pos (by rw[dj];omega),if_pos h.symm]
 ·rw[if_neg h,fu _ hj,if_neg (Ne.symm h)]
theorem Ew {α:Type} {l:List α} {k:Nat} {d x:α} (h:l[k]?=some x):l.getD k d=x:=by rw[adT,h];rfl
theorem FP (r:cG):((fe r).map MV.dat).all MV.one=true:=rfl

def bL (n:Nat) (p:Nat→Bool):List Bool:=(adQ n).map p
theorem xH (n:Nat) (p:Nat→Bool):(bL n p).length=n:=by simp [bL]
theorem xv {n i:Nat} (p:Nat→Bool) (h:i<n):(bL n p)[i]?=some (p i):=by
 unfold bL;rw[adR,adS h];rfl
theorem JT {n:Nat} {p q:Nat→Bool} (h:∀ i,i<n→p i=q i):bL n p=bL n q:=aex fun i hi=>h i (List.mem_range.1 hi)
theorem pOf_bL {n i:Nat} {p:Nat→Bool}:pOf (bL n p) i↔i<n∧p i=true:=by
 unfold pOf;rcases aeX i n with h | h
 ·rw[Ew (xv p h)];exact⟨fun e=>⟨h,e⟩,fun e=>e.2⟩
 ·rw[adT,aeY (by rw[xH];exact h)]
  simp;omega
noncomputable def sF (d:Day) (f:Nat→Nat) (h:Nat→Rat) (i:Nat):Bool:=decide (f i<10)&&decide (d.U i (f i)<h i)
noncomputable def iF (d:Day) (f:Nat→Nat) (h:Nat→Rat) (p:Nat→Bool) (i j:Nat):Bool:=p j||(decide (j<i)&&sF d f h j)
noncomputable def oR (d:Day) (f:Nat→Nat) (h:Nat→Rat) (p:Nat→Bool) (i:Nat):Bool:=(adQ i).any fun j => !p j&&sF d f h j
theorem BV (d:Day) (f:Nat→Nat) (h:Nat→Rat) (p:Nat→Bool) (i:Nat):oR d f h p (i+1)=(oR d f h p i||(!p i&&sF d f h i)):=by
 unfold oR;rw[aeo,List.any_append];simp
theorem AN (d:Day) (f:Nat→Nat) (h:Nat→Rat) (p:Nat→Bool) (i:Nat):iF d f h p i i=p i:=by
 unfold iF;rw[decide_eq_false (Nat.lt_irrefl i),aek,Bool.or_false]
theorem tG (d:Day) (f:Nat→Nat) (h:Nat→Rat) (p:Nat→Bool) (i j:Nat):iF d f h p (i+1) j=if j=i then (p i||sF d f h i) else iF d f h p i j:=by
 unfold iF
 by_cases hj:j=i
 ·subst hj
  rw[if_pos rfl,decide_eq_true (Nat.lt_succ_self j),adV]
 ·rw[if_neg hj]
  congr 2
  rw[decide_eq_decide];omega
theorem Fe {d:Day} {f:Nat→Nat} {h:Nat→Rat} {p:Nat→Bool}:pOf (bL d.n (iF d f h p d.n))=ll d f (pOf (bL d.n p)) h:=by
 funext i
 apply propext;rw[pOf_bL];unfold ll iF sF;rw[pOf_bL]
 constructor
 ·rintro⟨h1,h2⟩
  rw[aeZ] at h2;rcases h2 with h2 | h2
  ·exact .inl ⟨h1,h2⟩
  ·simp only[adX,decide_eq_true_eq] at h2
   exact .inr ⟨h1,h2.2⟩
 ·rintro (⟨h1,h2⟩ | ⟨h1,h2⟩)
  ·exact⟨h1,by rw[h2];rfl⟩
  ·refine⟨h1,?_⟩
   rw[aeZ]
   right
   simp only[adX,decide_eq_true_eq];exact⟨h1,h2⟩
theorem Gn {n:Nat}:pOf (bL n fun _=>false)=fun _=>False:=by
 funext i
 apply propext;rw[pOf_bL];simp
theorem Mx {d:Day} {f:Nat→Nat} {h:Nat→Rat} {p:Nat→Bool} {n:Nat} (hm:oR d f h p n=true):kG n (fun i=>if iF d f h p n i then 0 else 1)<kG n fun i=>if p i then 0 else 1:=by
 unfold oR at hm;rw[List.any_eq_true] at hm;obtain⟨j,hj,h2⟩:=hm;have hj:=List.mem_range.1 hj;simp only[adX,adY] at h2;refine yK (j:=j) (fun i hi=>?_) hj ?_
 ·unfold iF
  cases p i
  ·try dsimp only
   split<;>simp
  ·simp
 ·unfold iF
  rw[h2.1,h2.2,decide_eq_true hj]
  decide
theorem Mb {d:Day} {f:Nat→Nat} {h:Nat→Rat} {p:Nat→Bool} {n:Nat} (hm:oR d f h p n=false) {i:Nat} (hi:i<n) (h1:f i<10) (h2:d.U i (f i)<h i):p i=true:=by
 unfold oR at hm;rw[adU] at hm;have:=hm i (List.mem_range.2 hi);unfold sF at this;rw[decide_eq_true h1,decide_eq_true h2] at this
 simpa using this
noncomputable def co (cs:List ClR) (x:Rat) (c:ClR):Rat:=if ((aP cs c.1 (c.2.2.1+1):Int):Rat)≤x then (c.2.2.2:Rat) else (c.2.2.2:Rat) / ((SI cs c.1 c.2.2.1:Int):Rat)*pos (x-((aP cs c.1 c.2.2.1:Int):Rat))
theorem Ii {cash:List Int} {cs:List ClR} (h:c9 cash cs=true) (x:Nat→Rat) {c:ClR} (hc:c∈cs):(ab cash cs).pay x (bB c)=co cs (x c.1.toNat) c:=by
 have hr:=(rightD_iff.1 h).2.2.2 c hc;obtain⟨c1,c2,c3,c4⟩:=c;dsimp only at hr;obtain⟨c1,rfl⟩:∃ k:Nat,c1=(k:Int):=⟨c1.toNat,by omega⟩
 obtain⟨c3,rfl⟩:∃ k:Nat,c3=(k:Int):=⟨c3.toNat,by omega⟩
 unfold Day.pay co Day.w;have h1:=dX h c1 (c3+1);have h2:=dX h c1 c3;have h3:=yd h c1 c3;have e1:(bB ((c1:Int),c2,(c3:Int),c4)).fr=c1:=ae0 c1;have e2:(bB ((c1:Int),c2,(c3:Int),c4)).rk=c3:=ae0 c3;have e3:(bB ((c1:Int),c2,(c3:Int),c4)).am=(c4:Rat):=rfl;rw[e1,e2,e3,←h1,←h2,←h3]
 rfl
structure OwnOK (l:List ClR):Prop where
 len:l.length≤12
 c:∀ c∈l,0≤c.1∧c.1<60 ∧ -1≤c.2.1∧c.2.1<60∧0≤c.2.2.1∧c.2.2.1<10∧0≤c.2.2.2∧c.2.2.2≤33554432
 one:∀ c∈l,∀ c'∈l,c.1=c'.1
theorem OwnOK.cs {l:List ClR} (h:OwnOK l):okCs l:=⟨by have:=h.len;omega,fun c hc=>by have:=h.c c hc;omega⟩
def kd {α:Type} (enc:α→List MV) (l:List α):List MV:=(l.map enc).flatten
theorem IT {α:Type} {enc:α→List MV} {sz:Nat} (h:∀ a,(enc a).length=sz) (l:List α):(kd enc l).length=l.length*sz:=by
 unfold kd
 induction l with
 | nil=>simp
 | cons a l ih=>rw[aeB,aeJ,aeH,ih,h,aeF,ae1];omega
theorem zJ {α:Type} {enc:α→List MV} {sz:Nat} (h:∀ a,(enc a).length=sz):∀ (l:List α) (i:Nat),i<l.length→∀ b,aeQ (i*sz) (kd enc l)++enc b++aeR (i*sz+sz) (kd enc l)=kd enc (l.set i b)
 | [],i,hi,b=>absurd hi (by simp)
 | a::l,0,_,b=>by
  have ha:=h a;unfold kd;simp only[Nat.zero_mul,Nat.zero_add,aeS,aeu,aeB,aeJ,List.set_cons_zero];rw[←ha,List.drop_left]
 | a::l,i+1,hi,b=>by
  have ha:=h a;have ih:=zJ h l i (by simpa using hi) b;unfold kd at ih ⊢;simp only[aeB,aeJ,List.set_cons_succ];rw[←ih,ae1,List.take_append,ae2,ha];rw[ael (by omega),ae3 (by omega),aeu];rw[show i*sz+sz-sz=i*sz by omega,show i*sz+sz+sz-sz=i*sz+sz by omega]
  simp only[List.append_assoc]
def fL {α:Type} (n:Nat) (q:Nat→α):List α:=(adQ n).map q
theorem bU {α:Type} (n:Nat) (q:Nat→α):(fL n q).length=n:=by simp [fL]
theorem cP {α:Type} {n i:Nat} (q:Nat→α) (h:i<n):(fL n q)[i]?=some (q i):=by
 unfold fL;rw[adR,adS h];rfl
theorem E6 {α:Type} {n:Nat} {l:List α} {q:Nat→α} (hl:l.length=n) (h:∀ i,i<n→l[i]?=some (q i)):l=fL n q:=by
 apply ae4;intro i;rcases aeX i n with hi | hi
 ·rw[h i hi,cP q hi]
 ·rw[aeY (by omega),aeY (by rw[bU];exact hi)]
theorem mS {α:Type} {n i:Nat} (q:Nat→α) (b:α):(fL n q).set i b=fL n fun j=>if j=i then b else q j:=by
 refine E6 (by rw[aeV,bU]) fun j hj=>?_
 rw[aeW]
 by_cases h:i=j
 ·rw[if_pos h,if_pos (by rw[bU];omega),if_pos h.symm]
 ·rw[if_neg h,cP _ hj,if_neg (Ne.symm h)]
theorem bQ {α:Type} {n:Nat} {p q:Nat→α} (h:∀ i,i<n→p i=q i):fL n p=fL n q:=aex fun i hi=>h i (List.mem_range.1 hi)
def oH:Option aJ→List MV
 | none=>[.dat (.int .i64 0),.nil,.dat (.int .i64 0),.nil]
 | some f=>(ad f).map .dat
theorem zL:∀ a,(oH a).length=4
 | none=>rfl
 | some _=>rfl
theorem wF (n:Nat):(List.replicate n [MV.dat (.int .i64 0),MV.nil,MV.dat (.int .i64 0),MV.nil]).flatten=kd oH (fL n fun _=>none):=by
 unfold kd fL;rw[List.map_map]
 congr 1
 apply ae4;intro i;rw[adR];rcases aeX i n with hi | hi
 ·rw[adS hi,List.getElem?_replicate,if_pos hi];rfl
 ·rw[aeY (by simpa using hi),aeY (by simpa using hi)];rfl
theorem A9 (l:List aJ):kd oH (l.map some)=aA ad l:=by
 unfold kd aA
 induction l with
 | nil=>rfl
 | cons f l ih =>
  simp only[aeB,aeJ,aey];rw[ih];rfl
theorem B7 {n i:Nat} {q:Nat→Option aJ} (h:i<n):(i*4+4≤(kd oH (fL n q)).length)=True:=eq_true (by rw[IT zL,bU];omega)
theorem Dv {n i:Nat} {q:Nat→Option aJ} (h:i<n) (a:Int) (b:List Int) (c:Int) (d:List Int) :
  aeQ (i*4) (kd oH (fL n q))++[MV.dat (.int .i64 a),.dat (.sl (b.map aa)),.dat (.int .i64 c),.dat (.sl (d.map aa))]++aeR (i*4+4) (kd oH (fL n q))=kd oH (fL n fun j=>if j=i then some ((a,b),(c,d)) else q j):=by
 rw[←mS];exact zJ zL (fL n q) i (by rw[bU];exact h) (some ((a,b),(c,d)))
structure qB (l:List ClR) (x:Rat):Prop where
 own:OwnOK l
 pos:0≤x
 sz:szR 460 x
theorem OwnOK.less {l:List ClR} (h:OwnOK l) {c:ClR} (hc:c∈l) (r:Int):(bq l fun c'=>if c'.2.2.1<r then c'.2.2.2 else 0)=aP l c.1 r:=by
 unfold aP;refine js fun c' hc'=>?_
 have:=h.one c' hc' c hc
 by_cases h1:c'.2.2.1<r
 ·rw[if_pos h1,if_pos ⟨this,h1⟩]
 ·rw[if_neg h1,if_neg fun h=>h1 h.2]
theorem tP (l:List ClR) (F G:ClR→Int):bq l (fun c=>F c+G c)=bq l F+bq l G:=by
 induction l with
 | nil=>simp [bq]
 | cons c l ih=>simp only[bq,ih];omega
theorem OwnOK.same {l:List ClR} (h:OwnOK l) {c:ClR} (hc:c∈l) (r:Int):(bq l fun c'=>if c'.2.2.1=r then c'.2.2.2 else 0)=SI l c.1 r:=by
 have h1:=h.less hc r;have h2:=h.less hc (r+1)
 have h3:(bq l fun c'=>if c'.2.2.1<r+1 then c'.2.2.2 else 0)=(bq l fun c'=>if c'.2.2.1<r then c'.2.2.2 else 0)+bq l fun c'=>if c'.2.2.1=r then c'.2.2.2 else 0:=by
  rw[←tP];refine js fun c _=>?_
  by_cases k1:c.2.2.1<r
  ·rw[if_pos (by omega),if_pos k1,if_neg (by omega)];omega
  ·rw[if_neg k1]
   by_cases k2:c.2.2.1=r
   ·rw[if_pos (by omega),if_pos k2];omega
   ·rw[if_neg (by omega),if_neg k2];omega
 unfold SI;omega
theorem OwnOK.bound {l:List ClR} (h:OwnOK l) (p:ClR→Prop) [DecidablePred p]:0≤bq l (fun c=>if p c then c.2.2.2 else 0)∧bq l (fun c=>if p c then c.2.2.2 else 0)≤536870912:=by
 have:=sQ (cs:=l) (F:=fun c=>if p c then c.2.2.2 else 0) (B:=33554432) (by omega) fun c hc=>by
  have:=h.c c hc
  try dsimp only
  split<;>omega
 have:=h.len;omega
theorem Je (cs:List ClR) (i r:Int):SI cs i r=bq cs fun c=>if c.1=i∧c.2.2.1=r then c.2.2.2 else 0:=by
 have h3:aP cs i (r+1)=aP cs i r+bq cs fun c=>if c.1=i∧c.2.2.1=r then c.2.2.2 else 0:=by
  unfold aP;rw[←tP];refine js fun c _=>?_
  split<;>split<;>split<;>omega
 unfold SI;omega
theorem MA {cs:List ClR} {F:ClR→Int} (h:∀ c∈cs,0≤F c) {c:ClR} (hc:c∈cs):F c≤bq cs F:=by
 induction cs with
 | nil=>cases hc
 | cons a l ih =>
  simp only[bq];have h0:=h a aeA
  have h1:0≤bq l F:=by
   have:∀ l:List ClR,(∀ c∈l,0≤F c)→0≤bq l F:=by
    intro l
    induction l with
    | nil=>intro _;exact Int.le_refl _
    | cons b l ih2=>intro hh;simp only[bq];have:=hh b aeA;have:=ih2 fun c hc=>hh c (aez _ hc);omega
   exact this l fun c hc=>h c (aez _ hc)
  rcases List.mem_cons.1 hc with rfl | hc
  ·omega
  ·have:=ih (fun c hc=>h c (aez _ hc)) hc
   omega
theorem Al {cs:List ClR} (h:∀ c∈cs,0≤c.2.2.2) {c:ClR} (hc:c∈cs):c.2.2.2≤SI cs c.1 c.2.2.1:=by
 rw[Je];have:=MA (F:=fun c'=>if c'.1=c.1∧c'.2.2.1=c.2.2.1 then c'.2.2.2 else 0) (fun c' hc'=>by have:=h c' hc';split<;>omega) hc
 rwa [if_pos ⟨rfl,rfl⟩] at this
section
variable {cs:List ClR} {x:Rat} {c:ClR}
theorem ph (cs:List ClR) (i r:Int):((aP cs i (r+1):Int):Rat)=((aP cs i r:Int):Rat)+((SI cs i r:Int):Rat):=by
 rw[←ad7]
 congr 1
 unfold SI;omega
theorem wy (hn:∀ c∈cs,0≤c.2.2.2) (hc:c∈cs) (h:x-((aP cs c.1 c.2.2.1:Int):Rat)≤0):co cs x c=0:=by
 unfold co;have h1:=Al hn hc;have h2:=hn c hc;rw[ph]
 split
 ·rename_i h3
  have h4:((SI cs c.1 c.2.2.1:Int):Rat)≤((0:Int):Rat):=by
   have:((0:Int):Rat)=0:=rfl;rw[this];generalize ((aP cs c.1 c.2.2.1:Int):Rat)=u at *;grind
  have h5:SI cs c.1 c.2.2.1≤0:=by exact_mod_cast h4
  rw[show c.2.2.2=0 by omega];rfl
 ·rw[ig h,aeM]
theorem HX (h:((SI cs c.1 c.2.2.1:Int):Rat)≤x-((aP cs c.1 c.2.2.1:Int):Rat)):co cs x c=(c.2.2.2:Rat):=by
 unfold co;rw[ph,if_pos];generalize ((aP cs c.1 c.2.2.1:Int):Rat)=u at *;generalize ((SI cs c.1 c.2.2.1:Int):Rat)=s at *;grind
theorem Fl (h0:0≤x-((aP cs c.1 c.2.2.1:Int):Rat)) (h:x-((aP cs c.1 c.2.2.1:Int):Rat)<((SI cs c.1 c.2.2.1:Int):Rat)):co cs x c=(c.2.2.2:Rat)*(x-((aP cs c.1 c.2.2.1:Int):Rat)) / ((SI cs c.1 c.2.2.1:Int):Rat):=by
 unfold co;rw[ph,if_neg,kB h0]
 ·generalize ((aP cs c.1 c.2.2.1:Int):Rat)=u at *
  generalize ((SI cs c.1 c.2.2.1:Int):Rat)=s at *;grind
 ·generalize ((aP cs c.1 c.2.2.1:Int):Rat)=u at *
  generalize ((SI cs c.1 c.2.2.1:Int):Rat)=s at *;grind
end
theorem fK {n:Int} (h:ct n):cn (n:Rat):=⟨by rw[aeT];exact jx h,by rw[aeU];decide +kernel⟩
theorem t8 {x:Rat}:decide (x.num.sign<0)=decide (x<0):=by
 have:x.num.sign<0↔x<0:=by
  rw[aeO,aeN,Rat.zero_num,Rat.zero_den];omega
 rw[decide_eq_decide];exact this
def zC:ClR:=(0,0,0,0)
noncomputable def o9 (l:List ClR) (x:Rat) (j:Nat):aJ:=ai (co l x (l.getD j zC))
theorem GI (l:List ClR) (x:Rat):(fL l.length fun j=>some (o9 l x j))=(l.map fun c=>ai (co l x c)).map some:=by
 symm
 refine E6 (by simp) fun i hi=>?_
 rw[adR,adR,aej hi];unfold o9;rw[Ew (aej hi)];rfl
def bO (cs:List ClR) (who:Int):List ClR:=cs.filter fun c=>c.1==who
theorem KA (cs:List ClR) (who:Int) (p:ClR→Prop) [DecidablePred p]:bq (bO cs who) (fun c=>if c.1=who∧p c then c.2.2.2 else 0)=bq cs fun c=>if c.1=who∧p c then c.2.2.2 else 0:=by
 unfold bO
 induction cs with
 | nil=>rfl
 | cons c l ih =>
  by_cases h:c.1=who
  ·rw[aeC (by simpa using h)]
   simp only[bq,ih]
  ·rw[aeD (by simpa using h),ih]
   simp only[bq];rw[if_neg fun hh=>h hh.1];omega
theorem z6 (cs:List ClR) (who r:Int):aP (bO cs who) who r=aP cs who r:=KA cs who fun c=>c.2.2.1<r
theorem own_mem {cs:List ClR} {who:Int} {c:ClR}:c∈bO cs who↔c∈cs∧c.1=who:=by
 unfold bO;rw[aen,beq_iff_eq]
theorem LD {cs:List ClR} {who:Int} {x:Rat} {c:ClR} (h:c.1=who):co (bO cs who) x c=co cs x c:=by
 unfold co SI;rw[h,z6,z6]
theorem Hq (cs:List ClR) (who:Int) (x:Rat):((bO cs who).map fun c=>ai (co (bO cs who) x c))=(bO cs who).map fun c=>ai (co cs x c) :=
 aex fun c hc=>by rw[LD (own_mem.1 hc).2]
theorem SmallD.own {cash:List Int} {cs:List ClR} (h:SmallD cash cs) (who:Int):OwnOK (bO cs who):=by
 have hr:=rightD_iff.1 h.right;have hn:=h.n5;refine⟨?_,fun c hc=>?_,fun c hc c' hc'=>?_⟩
 ·have:=aea (fun c:ClR=>c.1==who) cs
  have:=h.c12;unfold bO;omega
 ·have h1:=hr.2.2.2 c (own_mem.1 hc).1
  have h2:=h.am c (own_mem.1 hc).1;omega
 ·rw[(own_mem.1 hc).2,(own_mem.1 hc').2]
theorem wL (n:Nat):((fQ n).map MV.dat).all MV.one=true:=rfl
noncomputable def gJ (d:Day) (f:Nat→Nat) (h:Nat→Rat) (i:Nat):List Nat:=(adQ i).filter fun j=>decide (h j<d.U j (f j))
theorem yL (d:Day) (f:Nat→Nat) (h:Nat→Rat) (i:Nat):gJ d f h (i+1)=if h i<d.U i (f i) then gJ d f h i++[i] else gJ d f h i:=by
 unfold gJ;rw[aeo,aev]
 by_cases hh:h i<d.U i (f i)
 ·rw[if_pos hh,aeC (by simpa using hh),aeI]
 ·rw[if_neg hh,aeD (by simpa using hh),aeI,aes]
theorem AC (d:Day) (f:Nat→Nat) (h:Nat→Rat) (i:Nat):(gJ d f h i).length≤i:=by
 have:=aea (fun j=>decide (h j<d.U j (f j))) (adQ i);rw[aeb] at this;exact this
end Go.Mini
namespace Go.Mini
open Classical
noncomputable def shP (d:Day) (l:List ClR) (i:Nat):Rat:=sumC (l.map bB) fun c=>if c.to=(i:Int) then d.w c else 0
theorem LJ (d:Day) (i:Nat):shP d [] i=0:=rfl
theorem ES (d:Day) (l:List ClR) (c:ClR) (i:Nat):shP d (l++[c]) i=shP d l i+if c.2.1=(i:Int) then d.w (bB c) else 0:=by
 unfold shP;rw[aey,nP]
 congr 1
 show (if (bB c).to=(i:Int) then d.w (bB c) else 0)+0=_;rw[Rat.add_zero]
 rfl
theorem Og {cash:List Int} {cs:List ClR} (h:c9 cash cs=true) (f:Nat→Nat) (k i:Nat):shP (ab cash cs) (aW cs k (f k)) i=(ab cash cs).W f k i:=by
 have hr:=(rightD_iff.1 h).2.2.2;unfold shP Day.W;rw[ub fun c hc=>⟨(hr c hc).1,(hr c hc).2.2.2.2.1⟩]
 refine d8 fun c _=>?_
 by_cases h1:c.fr=k∧c.rk=f k
 ·rw[if_pos h1]
  by_cases h2:c.to=(i:Int)
  ·rw[if_pos h2,if_pos ⟨h2,h1⟩]
  ·rw[if_neg h2,if_neg fun h=>h2 h.1]
 ·rw[if_neg h1,if_neg fun h=>h1 h.2]
section
variable {cash:List Int} {cs:List ClR} (hs:SmallD cash cs) {k r:Nat} (hS:0<(ab cash cs).S k r)
include hs hS
theorem yv {c:ClR} (hc:c∈aW cs k r):DenBy (SN cs k r) ((ab cash cs).w (bB c))∧0≤(ab cash cs).w (bB c)∧(ab cash cs).w (bB c)=(c.2.2.2:Rat) / ((SI cs k r:Int):Rat):=by
 obtain⟨h1,h2,h3⟩:=cell_mem.1 hc;have e1:(bB c).fr=k:=by show c.1.toNat=k;omega
 have e2:(bB c).rk=r:=by show c.2.2.1.toNat=r;omega
 have hm:bB c∈(ab cash cs).cl:=aeL h1;refine⟨⟨c.2.2.2,?_⟩,hs.ok.w_nonneg hm,?_⟩
 ·rw[ng hs.right,←e1,←e2]
  exact Day.w_S (by rw[e1,e2];exact hS)
 ·unfold Day.w SI
  rw[e1,e2];have:=yd hs.right k r;rw[←this]
  rfl
theorem N9 {l:List ClR} (hl:∃ l',aW cs k r=l++l') (i:Nat):szR 29 (shP (ab cash cs) l i):=by
 obtain⟨l',hl⟩:=hl;have hmem:∀ c∈l,c∈aW cs k r:=fun c hc=>by rw[hl];simp [hc]
 have hmem':∀ c∈l',c∈aW cs k r:=fun c hc=>by rw[hl];simp [hc]
 have hd:DenBy (SN cs k r) (shP (ab cash cs) l i):=by
  unfold shP;refine DenBy.sumC fun x hx=>?_
  obtain⟨c,hc,rfl⟩:=List.mem_map.1 hx
  split
  ·exact (yv hs hS (hmem c hc)).1
  ·exact DenBy.zero _
 have h0:∀ m:List ClR,(∀ c∈m,c∈aW cs k r)→0≤shP (ab cash cs) m i:=fun m hm=>dV fun x hx=>by
  obtain⟨c,hc,rfl⟩:=List.mem_map.1 hx
  try dsimp only
  split
  ·exact (yv hs hS (hm c hc)).2.1
  ·exact ad6
 have h1:shP (ab cash cs) l i≤1:=by
  have e:shP (ab cash cs) (aW cs k r) i=shP (ab cash cs) l i+shP (ab cash cs) l' i:=by
   rw[hl];unfold shP;rw[aey,nP]
  have e2:shP (ab cash cs) (aW cs k r) i≤sumC ((aW cs k r).map bB) (ab cash cs).w:=na fun x hx=>by
   obtain⟨c,hc,rfl⟩:=List.mem_map.1 hx;have:=(yv hs hS hc).2.1
   split
   ·exact ad6
   ·exact this
  have hr:=(rightD_iff.1 hs.right).2.2.2;rw[ub fun c hc=>⟨(hr c hc).1,(hr c hc).2.2.2.2.1⟩] at e2
  have e3:sumC (cs.map bB) (fun c=>if c.fr=k∧c.rk=r then (ab cash cs).w c else 0)=1:=by
   have hk:k<(ab cash cs).n:=by
    obtain⟨c,hc,hp⟩:=nJ hS
    by_cases hcc:c.fr=k∧c.rk=r
    ·rw[←hcc.1];exact hs.ok.fr c hc
    ·rw[if_neg hcc] at hp;grind
   have:=hs.ok.sum_fr (fun j=>j=k) (fun _=>r) (fun j hj=>by subst hj;exact hS) fun _=>1
   rw[iO hk (fun j _ hj=>by rw[if_neg hj]),if_pos rfl] at this;refine (d8 fun c _=>?_).trans this
   by_cases hc:c.fr=k∧c.rk=r
   ·rw[if_pos hc,if_pos hc,Rat.mul_one]
   ·rw[if_neg hc,if_neg hc]
  have:=h0 l' hmem';grind
 have hN:0<SN cs k r:=by
  rw[←ng hs.right] at hS
  exact_mod_cast hS
 exact (hd.sz hN (hs.SN_le k r) (h0 l hmem) (e:=0) (by rw[show ((2^0:Nat):Rat)=1 from rfl];exact h1)).mono (by omega)
end
end Go.Mini
namespace Go.Mini
open Go
set_option maxRecDepth 10000
def clM (l:List ClR):MV:=if l=[] then .nil else .dat (.sl (l.map clL))
theorem LE {a b:List ClR} (h:clM a=clM b):a=b:=by
 unfold clM at h
 by_cases ha:a=[]<;>by_cases hb:b=[]
 ·rw[ha,hb]
 ·rw[if_pos ha,if_neg hb] at h;cases h
 ·rw[if_neg ha,if_pos hb] at h;cases h
 ·rw[if_neg ha,if_neg hb] at h
  exact af fb _ _ (Data.sl.inj (MV.dat.inj h))
theorem DR (l:List ClR):oL (clM l)=some l.length:=by
 unfold clM
 split
 ·rename_i h;rw[h];rfl
 ·simp [oL]
theorem Eb {l:List ClR} {n:Nat} {c:ClR} (h:l[n]?=some c):yj 4 n (clM l)=some (.dat (.ptr (clL c))):=by
 unfold clM
 split
 ·rename_i hl;rw[hl] at h;cases h
 ·simp only[yj,adR,h,Option.map_some]
  rw[if_pos (lu c)]
structure DebR where
 cash:Int
 cl:List (List ClR)
 us:List Int
 f:Int
 p:Bool
def dG (x:DebR):List MV:=iC x.cash::(x.cl.map clM++(x.us.map iC++[iC x.f,bC x.p]))
def DebR.sf (x:DebR) (f:Int):DebR:=⟨x.cash,x.cl,x.us,f,x.p⟩
def DebR.sp (x:DebR) (p:Bool):DebR:=⟨x.cash,x.cl,x.us,x.f,p⟩
structure DebR.OK (x:DebR):Prop where
 cl:x.cl.length=10
 us:x.us.length=11
theorem jK {x:DebR} (h:x.OK):(dG x).length=24:=by
 simp [dG,h.cl,h.us]
theorem J4 {x y:DebR} (hx:x.OK) (hy:y.OK) (h:dG x=dG y):x=y:=by
 unfold dG at h;obtain⟨h1,h2⟩:=List.cons.inj h;obtain⟨h3,h4⟩:=ae5 h2 (by rw[aeh,aeh,hx.cl,hy.cl]);obtain⟨h5,h6⟩:=ae5 h4 (by rw[aeh,aeh,hx.us,hy.us]);obtain⟨h7,h8⟩:=List.cons.inj h6;obtain⟨h9,-⟩:=List.cons.inj h8;obtain⟨x1,x2,x3,x4,x5⟩:=x;obtain⟨y1,y2,y3,y4,y5⟩:=y;have e2:=af (fun a b h=>LE h) _ _ h3;have e3:=Ir h5;simp only[iC,bC,MV.dat.injEq,Data.int.injEq,Data.bool.injEq,true_and] at h1 h7 h9;dsimp only at *;rw[h1,e2,e3,h7,h9]
section
variable {x:DebR} (h:x.OK)
include h
omit h in
theorem Hv:aeQ 1 (dG x)=[iC x.cash]:=rfl
omit h in
theorem HC {k:Nat} {l:List ClR} (hk:x.cl[k]?=some l):aeQ 1 (aeR (1+k) (dG x))=[clM l]:=by
 have hlt:=(List.getElem?_eq_some_iff.1 hk).1;unfold dG;rw[Nat.add_comm,ae6,ae7 (by rw[aeh];omega),ae8 (by rw[ae9,aeh];omega)];exact EE (f:=clM) hk
theorem uN {k:Nat} {z:Int} (hk:x.us[k]?=some z):aeQ 1 (aeR (11+k) (dG x))=[iC z]:=by
 have hlt:=(List.getElem?_eq_some_iff.1 hk).1;unfold dG;rw[show 11+k=(10+k)+1 by omega,ae6,ae2,ae3 (by rw[aeh,h.cl];omega),aeh,h.cl,aeu,show 10+k-10=k by omega,ae7 (by rw[aeh];omega),ae8 (by rw[ae9,aeh];omega)]
 exact EE (f:=iC) hk
theorem zB:aeQ 1 (aeR 22 (dG x))=[iC x.f]:=by
 unfold dG;rw[ae6,ae2,ae3 (by rw[aeh,h.cl];omega),aeh,h.cl,aeu,ae2,ae3 (by rw[aeh,h.us];omega),aeh,h.us]
 rfl
theorem Nr:aeQ 1 (aeR 23 (dG x))=[bC x.p]:=by
 unfold dG;rw[ae6,ae2,ae3 (by rw[aeh,h.cl];omega),aeh,h.cl,aeu,ae2,ae3 (by rw[aeh,h.us];omega),aeh,h.us]
 rfl
theorem Io (f:Int):aeQ 22 (dG x)++[MV.dat (.int .i64 f)]++aeR 23 (dG x)=dG (x.sf f):=by
 have e:dG x=(iC x.cash::(x.cl.map clM++x.us.map iC))++[iC x.f,bC x.p]:=by simp [dG]
 have l:(iC x.cash::(x.cl.map clM++x.us.map iC)).length=22:=by simp [h.cl,h.us]
 rw[e,ae8 (by omega),ael (by omega),ae2,ae3 (by omega),l];simp [dG,DebR.sf,iC]
theorem BF (p:Bool):aeQ 23 (dG x)++[MV.dat (.bool p)]++aeR 24 (dG x)=dG (x.sp p):=by
 have e:dG x=(iC x.cash::(x.cl.map clM++(x.us.map iC++[iC x.f])))++[bC x.p]:=by simp [dG]
 have l:(iC x.cash::(x.cl.map clM++(x.us.map iC++[iC x.f]))).length=23:=by simp [h.cl,h.us]
 rw[e,ae8 (by omega),ael (by omega),ae2,ae3 (by omega),l];simp [dG,DebR.sp,bC]
end
structure DebA where
 cash:List Int
 cs:List ClR
 fl:List Int
 P:List Bool
 g:Nat
 gs:List Nat
def DebA.deb (a:DebA) (i:Nat):DebR:=⟨a.cash.getD i 0,fL 10 fun k=>aW a.cs i k,fL 11 fun k=>aP a.cs i (k:Nat),a.fl.getD i 10,a.P.getD i false⟩
theorem DebA.deb_ok (a:DebA) (i:Nat):(a.deb i).OK:=⟨bU _ _,bU _ _⟩
structure DebA.At (a:DebA) (m:Mem):Prop where
 can:a.cs=aG a.cash.length a.cs
 fl:a.fl.length=a.cash.length
 pl:a.P.length=a.cash.length
 gl:a.gs.length=a.cash.length
 row:m 228023=some (a.g,fL a.cash.length fun i => .ptr (228500+i) (a.gs.getD i 0) 0)
 blk:∀ i,i<a.cash.length→m (228500+i)=some (a.gs.getD i 0,dG (a.deb i))
theorem iZ {α:Type} {d:α} {n:Nat} {a b:List α} (ha:a.length=n) (hb:b.length=n) (h:∀ i,i<n→a.getD i d=b.getD i d):a=b:=by
 apply ae4;intro i;rcases aeX i n with hi | hi
 ·have:=h i hi
  rw[adT,adT,aej (by omega),aej (by omega)] at this;rw[aej (by omega),aej (by omega)];exact congrArg some this
 ·rw[aeY (by omega),aeY (by omega)]
theorem H8 {α:Type} {n:Nat} {p q:Nat→α} (h:fL n p=fL n q):∀ i,i<n→p i=q i:=fun i hi=>by
 have h1:=cP p hi;rw[h,cP q hi] at h1;exact (Option.some.inj h1).symm
theorem DebA.uniq {a b:DebA} {m:Mem} (h:a.At m) (h':b.At m):a=b:=by
 obtain⟨a1,a2,a3,a4,a5,a6⟩:=a;obtain⟨b1,b2,b3,b4,b5,b6⟩:=b;obtain⟨c1,c2,c3,c4,c5,c6⟩:=h;obtain⟨d1,d2,d3,d4,d5,d6⟩:=h';dsimp only at *;rw[c5,Option.some.injEq,Prod.mk.injEq] at d5;obtain⟨rfl,hrow⟩:=d5
 have hn:a1.length=b1.length:=by
  have:=congrArg List.length hrow
  rwa [bU,bU] at this
 rw[←hn] at hrow d1 d2 d3 d4 d6
 have hg:a6=b6:=iZ (d:=0) c4 d4 fun i hi=>by
  have:=H8 hrow i hi;rw[MV.ptr.injEq] at this;exact this.2.1
 subst hg
 have hb:∀ i,i<a1.length→DebA.deb ⟨a1,a2,a3,a4,a5,a6⟩ i=DebA.deb ⟨b1,b2,b3,b4,a5,a6⟩ i:=fun i hi=>by
  have h1:=c6 i hi;rw[d6 i hi,Option.some.injEq,Prod.mk.injEq] at h1;exact (J4 (DebA.deb_ok _ _) (DebA.deb_ok _ _) h1.2).symm
 simp only[DebA.deb,DebR.mk.injEq] at hb;have e1:a1=b1:=iZ (d:=0) rfl hn.symm fun i hi=>(hb i hi).1
 subst e1
 have e2:a2=b2:=by
  rw[c1,d1];exact pF fun i hi k hk=>H8 (hb i hi).2.1 k hk
 have e3:a3=b3:=iZ (d:=10) c2 d2 fun i hi=>(hb i hi).2.2.2.1
 have e4:a4=b4:=iZ (d:=false) c3 d3 fun i hi=>(hb i hi).2.2.2.2
 rw[e2,e3,e4]
theorem DebA.At.fr {a:DebA} {mem m:Mem} {n:Nat} (h:a.At mem) (hf:FrK n mem m) (hn:n≠228) (h5:a.cash.length≤5):a.At m :=
 ⟨h.can,h.fl,h.pl,h.gl,by rw[hf 228023 (by omega)];exact h.row,fun i hi=>by rw[hf (228500+i) (by omega)];exact h.blk i hi⟩
def mf_rescue_day_1:MFunc :=
 { n:=6,np:=1,res:=[.t 2],body :=
 (.seq (.ops [
 Zb 2 false])
 (.seq (.ops [
 Zv 3 0,⟨some 4,none,.call fk [(.t 3)]⟩,Zt 5 4,Zv 2 5])
 .ret)) }
def mf_rescue_amount:MFunc :=
 { n:=9,np:=1,res:=[.t 2],body :=
 (.seq (.ops [
 Zb 2 false])
 (.seq (.ops [
 Zv 3 0,Zc 4 .geq 3 0,Zv 5 4,⟨some 6,some (5,true),.mv (.t 0)⟩,⟨some 7,some (5,true),.bin .leq (.t 6) (.c (ZI 1000000000000000))⟩,Zq 8 5 7,Zv 2 8])
 .ret)) }
def mf_rescue_day_2:MFunc :=
 { n:=42,np:=2,res:=[.t 3],body :=
 (.seq (.ops [
 Zk 2 252002 0,Zb 3 false])
 (.seq (.ops [
 Zf 4 0 2,Zl 5 1 4,Zc 6 .lss 5 0,Zv 7 6,⟨some 8,some (7,false),.fad 0 (.t 2)⟩,⟨some 9,some (7,false),.load 1 false (.t 8)⟩,⟨some 10,some (7,false),.load 1 false (.t 1)⟩,⟨some 11,some (7,false),.len (.t 10)⟩,⟨some 12,some (7,false),.bin .geq (.t 9) (.t 11)⟩,Zp 13 7 12,Zv 14 13,⟨some 15,some (14,false),.fad 1 (.t 2)⟩,⟨some 16,some (14,false),.load 1 false (.t 15)⟩,⟨some 17,some (14,false),.bin .lss (.t 16) (.c (.dat (.int .i64 (-1))))⟩,Zp 18 14 17,Zv 19 18,⟨some 20,some (19,false),.fad 1 (.t 2)⟩,⟨some 21,some (19,false),.load 1 false (.t 20)⟩,⟨some 22,some (19,false),.load 1 false (.t 1)⟩,⟨some 23,some (19,false),.len (.t 22)⟩,⟨some 24,some (19,false),.bin .geq (.t 21) (.t 23)⟩,Zp 25 19 24,Zv 26 25,⟨some 27,some (26,false),.fad 2 (.t 2)⟩,⟨some 28,some (26,false),.load 1 false (.t 27)⟩,⟨some 29,some (26,false),.bin .lss (.t 28) (.c (ZI 0))⟩,Zp 30 26 29,Zv 31 30,⟨some 32,some (31,false),.fad 2 (.t 2)⟩,⟨some 33,some (31,false),.load 1 false (.t 32)⟩,⟨some 34,some (31,false),.bin .geq (.t 33) (.c (ZI 10))⟩,Zp 35 31 34,Zv 36 35,⟨some 37,some (36,false),.fad 3 (.t 2)⟩,⟨some 38,some (36,false),.load 1 false (.t 37)⟩,⟨some 39,some (36,false),.call fk [(.t 38)]⟩,⟨some 40,some (36,false),.un .not (.t 39)⟩,Zp 41 36 40,Zv 3 41])
 .ret)) }
end Go.Mini
