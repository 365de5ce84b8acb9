/- A part of the proof. -/
import Derived.Test.YtdbkjjoedjfmpaaM10
import Derived.Test.YtdbkjjoedjfmpaaM04
import Derived.Test.YtdbkjjoedjfmpaaM09
import Derived.Test.YtdbkjjoedjfmpaaM07
import Derived.Test.YtdbkjjoedjfmpaaM08
set_option linter.unusedSimpArgs false
set_option linter.unusedVariables false
open Nat renaming lt_of_le_of_lt → adO, le_refl → adV, pow_le_pow_right → adZ, le_trans → ad3, mul_le_mul → ad4, mul_le_mul_right → ad8, pow_add → aeb, mul_pos → aec, one_le_two_pow → aeL, lt_or_ge → aeY, succ_mul → ae3
open List renaming range → adP, getElem?_map → adQ, getElem?_range → adR, getD_eq_getElem?_getD → adS, any_eq_false → adT, length_filter_le → ad9, length_range → aea, length_map → aeg, getElem?_eq_getElem → aei, take_of_length_le → aek, mem_filter → aem, range_succ → aen, flatMap_append → aeo, flatMap_cons → aep, flatMap_nil → aeq, append_nil → aer, flatMap_eq_nil_iff → aes, nil_append → aet, filter_append → aeu, flatMap_def → aev, map_congr_left → aew, map_append → aex, mem_cons_of_mem → aey, mem_cons_self → aez, map_cons → aeA, filter_cons_of_pos → aeB, filter_cons_of_neg → aeC, mem_map → aeD, length_cons → aeE, mem_map_of_mem → aeM, take → aeR, drop → aeS, take_zero → aeT, length_set → aeW, getElem?_set → aeX, getElem?_eq_none → aeZ, flatten_cons → ae2, drop_append → ae4, drop_eq_nil_of_le → ae5, ext_getElem? → ae6, filter_nil → ae7, append_inj → ae8, drop_succ_cons → ae9, drop_append_of_le_length → afa, take_append_of_le_length → afb, length_drop → afc
open Bool renaming true_and → adU, and_eq_true → adW, not_eq_true' → adX, not_false → adY, false_eq_true → aef, false_and → aej, not_true → ael, or_eq_true → ae0
open Rat renaming intCast_natCast → ad0, mul_comm → ad1, le_refl → ad5, intCast_add → ad6, le_trans → ad7, divInt_eq_div → aed, div_def → aeG, mul_inv_cancel → aeH, le_of_lt → aeI, mul_assoc → aeJ, mul_one → aeK, mul_zero → aeN, lt_iff → aeO, num_intCast → aeU, den_intCast → aeV
open Int renaming natAbs_natCast → ad2, sign_neg_iff → aeP, toNat_natCast → ae1
open Prod renaming ext_iff → aee
open Decidable renaming em → aeh
open Classical renaming byContradiction → aeF, choose_spec → aeQ
namespace Go.Mini
open Go Classical
set_option maxRecDepth 10000
theorem du {b:Nat} {q:Rat} (h:szR b q) (hb:b<1200):cm q:=by
 obtain⟨B,hB,hL⟩:=E6;have:2^b<LIM:=by rw[hL];exact Nat.pow_lt_pow_right (by omega) (by omega)
 exact⟨adO h.1 this,adO h.2 this⟩
def dV (N:Nat) (A:Mat):List cG:=(adP N).map fun i=>(bJ N (A i),aj (A i N))
theorem fc (N:Nat) (A:Mat):(dV N A).length=N:=by simp [dV]
theorem tA {N i:Nat} (A:Mat) (h:i<N):(dV N A)[i]?=some (bJ N (A i),aj (A i N)):=by
 unfold dV;rw[adQ,adR h];rfl
theorem Dy {N i k:Nat} (A:Mat) (hi:i<N) (hk:k≤N):ka (dV N A) i k=A i k:=by
 unfold ka;rw[AU (tA A hi),fc]
 by_cases h:k<N
 ·rw[if_pos h,adS,dS _ h,Option.getD_some,kG]
 ·rw[if_neg h,kG,show k=N by omega]
theorem md {x:Rat} (h:cm x):bh (aj x)=true:=(kE _).2 ⟨x,h,rfl⟩
theorem yk {N:Nat} {A:Mat} (hN:N≤40) (hl:∀ i,i<N→∀ k,k≤N→cm (A i k)):fB (dV N A) N=true:=by
 unfold fB
 have h3:(dV N A).any (fG N)=false:=by
  rw[adT];intro r hr;obtain⟨i,hi,rfl⟩:=List.mem_map.1 hr;have hi:=List.mem_range.1 hi;unfold fG Ck;simp only[cI,beq_self_eq_true,adU,md (hl i hi N (adV _))]
  have:(bJ N (A i)).any (fun f => !bh f)=false:=by
   rw[adT];intro f hf;unfold bJ at hf;obtain⟨x,hx,rfl⟩:=List.mem_map.1 hf;obtain⟨k,hk,rfl⟩:=List.mem_map.1 hx;rw[md (hl i hi k (by have:=List.mem_range.1 hk;omega))]
   decide
  rw[this];decide
 rw[h3,fc];simp only[adW,adX,decide_eq_false_iff_not,beq_self_eq_true,adY,and_true];omega
theorem Gh {N:Nat} {A:Mat} (hN:N≤40) (hl:∀ i,i<N→∀ k,k≤N→cm (A i k)):it (dV N A):=by
 refine⟨by rw[fc];omega,fun r hr=>?_⟩
 obtain⟨i,hi,rfl⟩:=List.mem_map.1 hr;have hi:=List.mem_range.1 hi;exact⟨sU hN fun k hk=>hl i hi k (by omega),eC (hl i hi N (adV _))⟩
theorem wJ {N:Nat} {a b y:Nat→Rat} (h:∀ k,k≤N→a k=b k):kJ N a y=kJ N b y:=bU fun k hk=>by rw[h k (by omega)]
theorem Ann.congr {N:Nat} {A B:Mat} (h:∀ i,i<N→∀ k,k≤N→A i k=B i k) (y:Nat→Rat):Ann N A y↔Ann N B y:=by
 unfold Ann
 constructor
 ·intro hA i hi;rw[←wJ (h i hi)];exact hA i hi
 ·intro hA i hi;rw[wJ (h i hi)];exact hA i hi
theorem Scaled.congr {N b v:Nat} {A B:Mat} (h:∀ i,i<N→∀ k,k≤N→A i k=B i k) (hs:Scaled N A b v):Scaled N B b v:=by
 obtain⟨D,hD⟩:=hs;exact⟨D,fun k hk=>⟨(hD k hk).1,(hD k hk).2.1,fun i hi=>by rw[←h i hi k hk];exact (hD k hk).2.2 i hi⟩⟩
theorem Scaled.sz {N b v:Nat} {A:Mat} (hs:Scaled N A b v) (hb:b≤v) {i k:Nat} (hi:i<N) (hk:k≤N):szR v (A i k):=by
 obtain⟨D,hD⟩:=hs;obtain⟨h1,h2,h3⟩:=hD k hk;obtain⟨z,hz,hz2⟩:=h3 i hi;have hle:2^(if k<N then b else v)≤2^v:=adZ (by omega) (by split<;>omega);obtain⟨f1,f2⟩:=fI (q:=A i k) (v:=z) (d:=(D k:Int)) (by omega) (by rw[←hz,ad0,ad1]);rw[ad2] at f2;exact⟨ad3 f1 (ad3 hz2 hle),ad3 f2 (ad3 h2 hle)⟩
theorem CZ {N b v:Nat} {A:Mat} (hN:N≤5) (hs:Scaled N A b v) (hb:b≤30) (hv:v≤210) (hbv:b≤v) (hns:¬ Sing N A) {x:Nat→Rat} (hx:Ann N A (ext N x (-1))) :
  gX (dV N A) N=(bJ N x,0)∧fB (dV N A) N=true∧∀ k,k<N→cm (x k):=by
 have hl:∀ i,i<N→∀ k,k≤N→cm (A i k):=fun i hi k hk=>du (hs.sz hbv hi hk) (by omega)
 have hr:=yk (by omega) hl;have hc:∀ i,i<N→∀ k,k≤N→A i k=ka (dV N A) i k:=fun i hi k hk=>(Dy A hi hk).symm
 have hs':=hs.congr hc
 have hns':¬ Sing N (ka (dV N A)):=by
  rintro⟨y,hy,h⟩;exact hns ⟨y,(Ann.congr hc _).2 hy,h⟩
 have h1:(N+1)*b≤6*30:=ad4 (by omega) hb;have h2:(N+2)*b≤7*30:=ad4 (by omega) hb;obtain⟨y,e1,e2,e3⟩:=C6 (rs:=dV N A) (n:=N) (c:=12) (b:=b) (v:=v) hr (by rw[fc];exact OY hN) (by rw[fc];exact hs') hbv (by rw[fc];omega) (by rw[fc];exact hns');rw[fc] at e1 e2 e3;have hxy:∀ k,k<N→x k=y k:=(e3.1 x).1 ((Ann.congr hc _).1 hx);exact⟨by rw[e1,jk fun k hk=>(hxy k hk).symm],hr,fun k hk=>by rw[hxy k hk];exact e2 k hk⟩
structure PayG (d:Day) (f:Nat→Nat) (P:Nat→Prop):Prop where
 ok:d.OK
 ex:∃ g,Inv d f g∧Pay d f g P (d.lst f P)
theorem PayG.good {d:Day} {f:Nat→Nat} {P:Nat→Prop} (h:PayG d f P):Good d f P:=by
 obtain⟨h1,g,h2,h3⟩:=h;exact h3.good h1 h2
theorem PayG.S_pos {d:Day} {f:Nat→Nat} {P:Nat→Prop} (h:PayG d f P):∀ k,P k→0<d.S k (f k):=by
 obtain⟨h1,g,h2,h3⟩:=h;exact fun k hk=>h2.S_pos (h3.fallen k hk).1 (h3.fallen k hk).2
theorem PayG.gt {d:Day} {f:Nat→Nat} {P:Nat→Prop} (h:PayG d f P):∀ k,P k→d.U k (f k)<d.lst f P k:=by
 obtain⟨h1,g,h2,h3⟩:=h;exact h3.ge
theorem Pay.l_range {d:Day} (hd:d.OK) {f:Nat→Nat} {g:Nat→Rat} {P:Nat→Prop} {h:Nat→Rat} (hi:Inv d f g) (hp:Pay d f g P h) {c:Cl} (hc:c∈d.cl):0≤d.l f P h c∧d.l f P h c≤c.am:=by
 have h0:=hd.am c hc
 by_cases h1:c.rk<f c.fr
 ·rw[Day.l_lt h1];exact⟨h0,ad5⟩
 ·by_cases h2:c.rk=f c.fr∧P c.fr
  ·rw[Day.l_eq h2.1 h2.2]
   have e1:=hp.ge _ h2.2;have e2:=hp.le _ (hd.fr c hc);have e3:=hi.hi _ (hd.fr c hc) (hp.fallen _ h2.2).2;rw[d.U_succ] at e3;rw[h2.1];exact⟨dz (hd.w_nonneg hc) (by grind),hd.w_le hc (by rw[h2.1];grind)⟩
  ·rw[Day.l_no h1 h2];exact⟨ad5,h0⟩
theorem PayG.range {d:Day} {f:Nat→Nat} {P:Nat→Prop} (h:PayG d f P) {i:Nat} (hi:i<d.n):0≤d.lst f P i∧d.lst f P i≤d.into (fun c=>c.am) i:=by
 obtain⟨h1,g,h2,h3⟩:=h;rw[h3.sys i hi];exact⟨h1.into_nonneg (fun c hc=>(h3.l_range h1 h2 hc).1) hi,d.into_le (fun c hc=>(h3.l_range h1 h2 hc).2) i⟩
theorem LR {cash:List Int} {cs:List ClR} (hs:SmallD cash cs) (i:Nat):(ab cash cs).into (fun c=>c.am) i≤((2^51:Nat):Rat):=by
 have e:(ab cash cs).into (fun c=>c.am) i=((cash.getD i 0+bt cs (fun c=>if c.2.1=(i:Int) then c.2.2.2 else 0):Int):Rat):=by
  unfold Day.into;rw[ad6]
  congr 1
  refine (oJ cs _ (fun c=>if c.to=(i:Int) then c.am else 0) fun c hc=>?_).symm
  show ((if c.2.1=(i:Int) then c.2.2.2 else 0:Int):Rat)=if c.2.1=(i:Int) then (c.2.2.2:Rat) else 0
  split<;>rfl
 rw[e];have h1:=hs.cash i;have h2:=hs.sum fun c=>c.2.1=(i:Int)
 have:cash.getD i 0+bt cs (fun c=>if c.2.1=(i:Int) then c.2.2.2 else 0)≤((2^51:Nat):Int):=by omega
 rw[←ad0]
 exact_mod_cast this
theorem Day.OK.W_nonneg {d:Day} (hd:d.OK) (f:Nat→Nat) (k i:Nat):0≤d.W f k i:=dZ fun c hc=>by
 split
 ·exact hd.w_nonneg hc
 ·exact ad5
theorem LJ {n t:Nat} {T:Nat→Rat} (h:∀ k,k<n→0≤T k) (ht:t≤n):sumQ t T≤sumQ n T:=by
 induction n with
 | zero=>rw[show t=0 by omega];exact ad5
 | succ n ih =>
  by_cases htn:t=n+1
  ·rw[htn];exact ad5
  ·have h1:=ih (fun k hk=>h k (by omega)) (by omega)
   have h2:=h n (by omega);rw[sumQ];grind
theorem NS {N t M a e:Nat} {s:Rat} {T:Nat→Rat} (hM:0<M) (hMa:M≤2^a) (hs0:0≤s) (hsd:DenBy M s) (hT0:∀ k,k<N→0≤T k) (hTd:∀ k,k<N→DenBy M (T k)) (hx:s+sumQ N T≤((2^e:Nat):Rat)) (ht:t≤N):szR (a+e) (s+sumQ t T)∧∀ k,k<N→szR (a+e) (T k):=by
 have h1:∀ t,t≤N→0≤sumQ t T∧sumQ t T≤sumQ N T:=fun t ht=>⟨sh fun k hk=>hT0 k (by omega),LJ hT0 ht⟩
 refine⟨(hsd.add (DenBy.sumQ fun k hk=>hTd k (by omega))).sz hM hMa (by have:=(h1 t ht).1;grind) (by have:=(h1 t ht).2;grind),fun k hk=>(hTd k hk).sz hM hMa (hT0 k hk) ?_⟩
 have h2:=(h1 k (by omega)).1;have h3:=(h1 (k+1) (by omega)).2;rw[sumQ] at h3;grind
section
variable {cash:List Int} {cs:List ClR} (hs:SmallD cash cs) {f:Nat→Nat} {P:Nat→Prop} (hp:PayG (ab cash cs) f P)
include hs hp
theorem ou {i:Nat} (hi:i<cash.length):0≤(ab cash cs).lst f P i∧(ab cash cs).lst f P i≤((2^51:Nat):Rat):=by
 have h:=hp.range (d:=ab cash cs) hi;exact⟨h.1,ad7 h.2 (LR hs i)⟩
theorem EF:∃ M:Nat,0<M∧(∃ a,a≤402∧M≤2^a)∧∀ i,i<cash.length→DenBy M ((ab cash cs).lst f P i):=by
 obtain⟨M,h1,h2,h3⟩:=Ih (N:=cash.length) hp.good.big (OY hs.n5) (CA hs hp.S_pos) ((EV hp.ok f P _).2 hp.good.lst);have hn:=hs.n5;have:(cash.length+1)*30≤6*30:=ad8 _ (by omega);exact⟨M,h1,⟨_,by omega,h2⟩,h3⟩
theorem JJ {i:Nat} (hi:i<cash.length):szR 453 ((ab cash cs).lst f P i):=by
 obtain⟨M,h1,⟨a,h0,h2⟩,h3⟩:=EF hs hp;have h4:=ou hs hp hi;exact ((h3 i hi).sz h1 h2 h4.1 h4.2).mono (by omega)
theorem AK:gX (dV (payers P cash.length).length ((ab cash cs).smallM f (payers P cash.length))) (payers P cash.length).length=(bJ (payers P cash.length).length (fun k=>(ab cash cs).lst f P ((payers P cash.length).getD k 0)-(ab cash cs).U ((payers P cash.length).getD k 0) (f ((payers P cash.length).getD k 0))),0)∧fB (dV (payers P cash.length).length ((ab cash cs).smallM f (payers P cash.length))) (payers P cash.length).length=true:=by
 have hlen:(payers P cash.length).length≤5:=by
  have:=ad9 (fun i=>decide (P i)) (adP cash.length);rw[aea] at this;have:=hs.n5;unfold payers;omega
 have:=CZ hlen (mY hs hp.S_pos _ fun k hk=>(gB hk).2) (adV _) (by omega) (by omega) hp.good.small hp.good.small_sol;exact⟨this.1,this.2.1⟩
theorem F7:∃ M:Nat,0<M∧(∃ a,a≤244∧M≤2^a)∧∀ k,k<(payers P cash.length).length→DenBy M ((ab cash cs).lst f P ((payers P cash.length).getD k 0)-(ab cash cs).U ((payers P cash.length).getD k 0) (f ((payers P cash.length).getD k 0))):=by
 have hlen:(payers P cash.length).length≤5:=by
  have:=ad9 (fun i=>decide (P i)) (adP cash.length);rw[aea] at this;have:=hs.n5;unfold payers;omega
 have hpn:payers P (ab cash cs).n=payers P cash.length:=rfl;have hss:=hp.good.small_sol;have hsm:=hp.good.small;rw[hpn] at hss hsm;obtain⟨M,h1,h2,h3⟩:=Ih hsm (OY hlen) (mY hs hp.S_pos _ fun k hk=>(gB hk).2) hss;have:((payers P cash.length).length+1)*30≤6*30:=ad8 _ (by omega);exact⟨M,h1,⟨_,by omega,h2⟩,h3⟩
theorem Ot {k:Nat} (hk:P k) (i:Nat):szR 30 ((ab cash cs).W f k i)∧DenBy (SN cs k (f k)) ((ab cash cs).W f k i):=by
 have e:=Jz hs hp.S_pos hk i;have h0:=xQ hs hp.S_pos hk;have h1:=hs.SN_le k (f k);have h2:=hs.sum fun c=>c.2.1=(i:Int)∧c.1=(k:Int)∧c.2.2.1=(f k:Int)
 obtain⟨f1,f2⟩:=fI (q:=(ab cash cs).W f k i) (v:=wI cs f k i) (d:=(SN cs k (f k):Int)) (by omega) (by rw[←e,ad0,ad1]);rw[ad2] at f2;refine⟨⟨ad3 f1 (by unfold wI;omega),ad3 f2 (by omega)⟩,wI cs f k i,by rw[←e,ad1]⟩
theorem Mz {i t:Nat} (hi:i<cash.length) (ht:t≤(payers P cash.length).length) :
  szR 440 ((ab cash cs).st f i+sumQ t fun k=>(ab cash cs).W f ((payers P cash.length).getD k 0) i*((ab cash cs).lst f P ((payers P cash.length).getD k 0)-(ab cash cs).U ((payers P cash.length).getD k 0) (f ((payers P cash.length).getD k 0)))) ∧
  (∀ k,k<(payers P cash.length).length→szR 440 ((ab cash cs).W f ((payers P cash.length).getD k 0) i*((ab cash cs).lst f P ((payers P cash.length).getD k 0)-(ab cash cs).U ((payers P cash.length).getD k 0) (f ((payers P cash.length).getD k 0))))) ∧
  ∀ k,k<(payers P cash.length).length→szR 295 ((ab cash cs).lst f P ((payers P cash.length).getD k 0)-(ab cash cs).U ((payers P cash.length).getD k 0) (f ((payers P cash.length).getD k 0))):=by
 have hlen:(payers P cash.length).length≤5:=by
  have:=ad9 (fun i=>decide (P i)) (adP cash.length);rw[aea] at this;have:=hs.n5;unfold payers;omega
 obtain⟨M,m1,⟨a,m0,m2⟩,m3⟩:=F7 hs hp;have hmem:∀ k,k<(payers P cash.length).length→(payers P cash.length).getD k 0<cash.length∧P ((payers P cash.length).getD k 0):=fun k hk=>gB hk
 have hsol:=hp.good.lst_pay (d:=ab cash cs) hi;have hpn:payers P (ab cash cs).n=payers P cash.length:=rfl;rw[hpn] at hsol;generalize hpd:payers P cash.length=p at *
 have hex0:∀ k,k<p.length→0≤(ab cash cs).lst f P (p.getD k 0)-(ab cash cs).U (p.getD k 0) (f (p.getD k 0)):=fun k hk=>by
  have:=hp.gt _ (hmem k hk).2;grind
 have hex1:∀ k,k<p.length→(ab cash cs).lst f P (p.getD k 0)-(ab cash cs).U (p.getD k 0) (f (p.getD k 0))≤((2^51:Nat):Rat):=fun k hk=>by
  have h1:=(ou hs hp (hmem k hk).1).2;have h2:=hp.ok.U_nonneg (p.getD k 0) (f (p.getD k 0));grind
 have hpp:0<ii p.length fun k=>SN cs (p.getD k 0) (f (p.getD k 0)):=rt fun k hk=>xQ hs hp.S_pos (hmem k hk).2
 have hpl:(ii p.length fun k=>SN cs (p.getD k 0) (f (p.getD k 0)))≤2^145:=ad3 (ub fun k _=>hs.SN_le _ _) (adZ (by omega) (by omega));have hst:=qY hs.right f i;have hst2:=hs.steady f i;have hst0:0≤(ab cash cs).st f i:=by rw[←hst];exact_mod_cast hst2.1
 have hr:=(ou hs hp hi).2;rw[hsol] at hr
 have hpM:(ii p.length fun k=>SN cs (p.getD k 0) (f (p.getD k 0)))*M≤2^(145+a):=by
  rw[aeb];exact ad4 hpl m2
 have hmain:=NS (T:=fun k=>(ab cash cs).W f (p.getD k 0) i*((ab cash cs).lst f P (p.getD k 0)-(ab cash cs).U (p.getD k 0) (f (p.getD k 0)))) (aec hpp m1) hpM hst0 (by rw[←hst];exact DenBy.int _ _) (fun k hk=>dz (hp.ok.W_nonneg f _ _) (hex0 k hk)) (fun k hk=>((Ot hs hp (hmem k hk).2 i).2.of_dvd (rO (D:=fun k=>SN cs (p.getD k 0) (f (p.getD k 0))) hk)).mul (m3 k hk)) hr ht
 exact⟨hmain.1.mono (by omega),fun k hk=>(hmain.2 k hk).mono (by omega),fun k hk=>((m3 k hk).sz m1 m2 (hex0 k hk) (hex1 k hk)).mono (by omega)⟩
end
end Go.Mini
namespace Go.Mini
open Go
def mf_ref20_Few:MFunc :=
 { n:=53,np:=2,res:=[.t 4],body :=
 (.seq (.ops [
 Zb 4 false])
 (.seq (.seq (.ops [
 Zv 7 0,Zn 8 7,Zc 9 .gtr 8 5,Zv 10 9,⟨some 11,some (10,false),.mv (.t 1)⟩,⟨some 12,some (10,false),.len (.t 11)⟩,⟨some 13,some (10,false),.bin .gtr (.t 12) (.c (ZI 12))⟩,Zp 14 10 13])
 (.cond (.t 14)
 (.seq (.ops [
 Zb 4 false])
 .ret)
 .skip))
 (.seq (.seq (.ops [
 Zi 5 0])
 (.block 0
 (.loop
 (.seq (.seq (.ops [
 Zv 15 5,Zv 16 0,Zn 17 16,Zo 18 .lss 15 17])
 (.cond (.t 18)
 .skip
 (.exit 0)))
 (.seq (.block 1
 (.seq (.ops [
 Zv 21 0,Zv 22 5,Za 23 1 21 22,Zl 24 1 23,Zc 25 .gtr 24 1000000,Zv 26 25,⟨some 27,some (26,true),.mv (.t 0)⟩,⟨some 28,some (26,true),.mv (.t 5)⟩,⟨some 29,some (26,true),.iad 1 (.t 27) (.t 28)⟩,⟨some 30,some (26,true),.load 1 false (.t 29)⟩,⟨some 31,some (26,true),.bin .leq (.t 30) (.c (ZI 1000000000000000))⟩,Zq 32 26 31])
 (.cond (.t 32)
 (.seq (.ops [
 Zb 4 false])
 .ret)
 .skip)))
 (.ops [
 Zv 19 5,Zc 20 .add 19 1,Zv 5 20]))))))
 (.seq (.seq (.ops [
 Zi 6 0])
 (.block 2
 (.loop
 (.seq (.seq (.ops [
 Zv 33 6,Zv 34 1,Zn 35 34,Zo 36 .lss 33 35])
 (.cond (.t 36)
 .skip
 (.exit 2)))
 (.seq (.block 3
 (.seq (.ops [
 Zv 39 1,Zv 40 6,Za 41 4 39 40,Zf 42 3 41,Zl 43 1 42,Zc 44 .gtr 43 1000000,Zv 45 44,⟨some 46,some (45,true),.mv (.t 1)⟩,⟨some 47,some (45,true),.mv (.t 6)⟩,⟨some 48,some (45,true),.iad 4 (.t 46) (.t 47)⟩,⟨some 49,some (45,true),.fad 3 (.t 48)⟩,⟨some 50,some (45,true),.load 1 false (.t 49)⟩,⟨some 51,some (45,true),.bin .leq (.t 50) (.c (ZI 1000000000000000))⟩,Zq 52 45 51])
 (.cond (.t 52)
 (.seq (.ops [
 Zb 4 false])
 .ret)
 .skip)))
 (.ops [
 Zv 37 6,Zc 38 .add 37 1,Zv 6 38]))))))
 (.seq (.ops [
 Zb 4 true])
 .ret))))) }
def mf_ref20_SameRounds:MFunc :=
 { n:=53,np:=2,res:=[.t 4],body :=
 (.seq (.ops [
 Zb 4 false])
 (.seq (.seq (.ops [
 Zv 7 0,Zn 8 7,Zv 9 1,Zn 10 9,Zo 11 .neq 8 10])
 (.cond (.t 11)
 (.seq (.ops [
 Zb 4 false])
 .ret)
 .skip))
 (.seq (.seq (.ops [
 Zi 5 0])
 (.block 0
 (.loop
 (.seq (.seq (.ops [
 Zv 12 5,Zv 13 0,Zn 14 13,Zo 15 .lss 12 14])
 (.cond (.t 15)
 .skip
 (.exit 0)))
 (.seq (.block 1
 (.seq (.seq (.opsD [
 Zv 18 0,Zv 19 5,Za 20 1 18 19,Zl 21 1 20,Zn 22 21,Zv 23 1,Zv 24 5,Za 25 1 23 24,Zl 26 1 25,Zn 27 26,Zo 28 .neq 22 27] [[],[],[],[],[],[],[],[],[],[],[]])
 (.cond (.t 28)
 (.seq (.ops [
 Zb 4 false])
 .ret)
 .skip))
 (.seq (.ops [
 Zi 6 0])
 (.block 2
 (.loop
 (.seq (.seq (.ops [
 Zv 29 6,Zv 30 0,Zv 31 5,Za 32 1 30 31,Zl 33 1 32,Zn 34 33,Zo 35 .lss 29 34])
 (.cond (.t 35)
 .skip
 (.exit 2)))
 (.seq (.block 3
 (.seq (.opsD [
 Zv 38 0,Zv 39 5,Za 40 1 38 39,Zl 41 1 40,Zv 42 6,Za 43 1 41 42,Zl 44 1 43,Zv 45 1,Zv 46 5,Za 47 1 45 46,Zl 48 1 47,Zv 49 6,Za 50 1 48 49,Zl 51 1 50,Zo 52 .neq 44 51] [[],[],[],[],[],[],[],[],[],[],[],[],[],[],[]])
 (.cond (.t 52)
 (.seq (.ops [
 Zb 4 false])
 .ret)
 .skip)))
 (.ops [
 Zv 36 6,Zc 37 .add 36 1,Zv 6 37]))))))))
 (.ops [
 Zv 16 5,Zc 17 .add 16 1,Zv 5 17]))))))
 (.seq (.ops [
 Zb 4 true])
 .ret)))) }

def mf_rank_right:MFunc :=
 { n:=46,np:=1,res:=[.t 2],body :=
 (.seq (.ops [
 Zb 2 false])
 (.seq (.seq (.ops [
 Zv 5 0,Zn 6 5,Zi 7 0])
 (.block 0
 (.loop
 (.seq (.ops [
 Zo 8 .lss 7 6])
 (.seq (.cond (.t 8)
 .skip
 (.exit 0))
 (.seq (.block 1
 (.seq (.ops [
 Za 9 4 5 7,Zu 10 4 9,⟨some 4,none,.alloc 240004 [(ZI 0),(ZI 0),(ZI 0),(ZI 0)]⟩,Zs 4 4 10])
 (.seq (.opsD [
 Zf 11 0 4,Zl 12 1 11,⟨some 13,none,.call fx [(.t 12),(.c (ZI 0)),(.c (ZI 59))]⟩,Zt 14 13,Zv 15 14,⟨some 16,some (15,false),.fad 1 (.t 4)⟩,⟨some 17,some (15,false),.load 1 false (.t 16)⟩,⟨some 18,some (15,false),.call fx [(.t 17),(.c (.dat (.int .i64 (-1)))),(.c (ZI 59))]⟩,⟨some 19,some (15,false),.un .not (.t 18)⟩,Zp 20 15 19,Zv 21 20,⟨some 22,some (21,false),.fad 2 (.t 4)⟩,⟨some 23,some (21,false),.load 1 false (.t 22)⟩,⟨some 24,some (21,false),.call fx [(.t 23),(.c (ZI 0)),(.c (ZI 9))]⟩,⟨some 25,some (21,false),.un .not (.t 24)⟩,Zp 26 21 25,Zv 27 26,⟨some 28,some (27,false),.fad 3 (.t 4)⟩,⟨some 29,some (27,false),.load 1 false (.t 28)⟩,⟨some 30,some (27,false),.call fx [(.t 29),(.c (ZI 0)),(.c (ZI 1000000000000000))]⟩,⟨some 31,some (27,false),.un .not (.t 30)⟩,Zp 32 27 31,Zv 33 32,⟨some 34,some (33,false),.fad 0 (.t 4)⟩,⟨some 35,some (33,false),.load 1 false (.t 34)⟩,⟨some 36,some (33,false),.mv (.t 0)⟩,⟨some 37,some (33,false),.iad 4 (.t 36) (.c (ZI 0))⟩,⟨some 38,some (33,false),.fad 0 (.t 37)⟩,⟨some 39,some (33,false),.load 1 false (.t 38)⟩,⟨some 40,some (33,false),.bin .neq (.t 35) (.t 39)⟩,Zp 41 33 40] [[],[],[],[],[],[],[],[],[],[],[],[],[],[],[],[],[],[],[],[],[],[],[],[],[],[],[],[],[],[],[]])
 (.cond (.t 41)
 (.seq (.ops [
 Zb 2 false])
 .ret)
 .skip))))
 (.ops [
 Zc 42 .add 7 1,Zv 7 42])))))))
 (.seq (.ops [
 Zv 43 0,Zn 44 43,Zc 45 .leq 44 2000,Zv 2 45])
 .ret))) }
def mf_rank_whole:MFunc :=
 { n:=11,np:=1,res:=[.cell 2 4 true],body :=
 (.seq (.ops [
 ⟨some 2,none,.alloc 241002 [(ZI 0),.nil,(ZI 0),.nil]⟩])
 (.seq (.ops [
 Zv 6 0,⟨some 7,none,.call iy [(.t 6),(.c (ZI 1))]⟩,Zv 5 7,Zx 8 0 5,Zx 9 1 5,⟨some 3,none,.alloc 241003 [(ZI 0),.nil,(ZI 0),.nil]⟩,Zs 4 3 8,Zv 4 9])
 (.seq (.ops [
 Zu 10 4 3,Zs 4 2 10])
 .ret))) }
def mf_rank_Split:MFunc :=
 { n:=118,np:=2,res:=[.t 4,.t 5],body :=
 (.seq (.ops [
 Zk 2 249002 0,Ze 4,Zi 5 0])
 (.seq (.seq (.opsD [
 Zu 19 4 2,⟨some 20,none,.call aY [(.t 19)]⟩,Zt 21 20,Zv 22 21,⟨some 23,some (22,false),.load 4 true (.t 2)⟩,⟨some 24,some (22,false),.call c9 [(.c (ZI 0))]⟩,⟨some 25,some (22,false),.call aV [(.t 23),(.t 24)]⟩,⟨some 26,some (22,false),.bin .lss (.t 25) (.c (ZI 0))⟩,Zp 27 22 26,Zv 28 27,⟨some 29,some (28,false),.mv (.t 1)⟩,⟨some 30,some (28,false),.call lw [(.t 29)]⟩,⟨some 31,some (28,false),.un .not (.t 30)⟩,Zp 32 28 31] [[],[],[],[],[],[],[],[],[],[],[],[],[],[]])
 (.cond (.t 32)
 (.seq (.ops [
 Ze 4,Zi 5 1])
 .ret)
 .skip))
 (.seq (.ops [
 Zv 33 1,Zn 34 33,⟨some 35,none,.mksl 249035 [(ZI 0),.nil,(ZI 0),.nil] 64 (.t 34) (.t 34)⟩,Zv 6 35])
 (.seq (.ops [
 Zu 36 4 2,⟨some 7,none,.alloc 249007 [(ZI 0),.nil,(ZI 0),.nil]⟩,Zs 4 7 36])
 (.seq (.seq (.ops [
 Zi 37 0])
 (.block 0
 (.loop
 (.seq (.ops [
 Zc 38 .lss 37 10])
 (.seq (.cond (.t 38)
 .skip
 (.exit 0))
 (.seq (.block 1
 (.seq (.ops [
 Zv 39 37,Zv 8 39])
 (.seq (.ops [
 Zi 9 0])
 (.seq (.seq (.ops [
 Zv 40 1,Zn 41 40,Zi 42 0])
 (.block 2
 (.loop
 (.seq (.ops [
 Zo 43 .lss 42 41])
 (.seq (.cond (.t 43)
 .skip
 (.exit 2))
 (.seq (.block 3
 (.seq (.ops [
 Za 44 4 40 42,Zu 45 4 44,⟨some 11,none,.alloc 249011 [(ZI 0),(ZI 0),(ZI 0),(ZI 0)]⟩,Zs 4 11 45])
 (.seq (.ops [
 Zf 46 2 11,Zl 47 1 46,Zv 48 8,Zo 49 .eql 47 48])
 (.cond (.t 49)
 (.ops [
 Zv 50 9,Zf 51 3 11,Zl 52 1 51,Zo 53 .add 50 52,Zv 9 53])
 .skip))))
 (.ops [
 Zc 54 .add 42 1,Zv 42 54])))))))
 (.seq (.opsD [
 Zu 55 4 7,Zv 56 9,⟨some 57,none,.call c9 [(.t 56)]⟩,⟨some 58,none,.call aV [(.t 55),(.t 57)]⟩,Zc 59 .geq 58 0,Zv 12 59] [[],[],[],[],[],[]])
 (.seq (.seq (.ops [
 Zv 60 1,Zn 61 60,Zi 62 0])
 (.block 4
 (.loop
 (.seq (.ops [
 Zo 63 .lss 62 61])
 (.seq (.cond (.t 63)
 .skip
 (.exit 4))
 (.seq (.block 5
 (.seq (.ops [
 Zv 64 62,Za 65 4 60 62,Zu 66 4 65,⟨some 14,none,.alloc 249014 [(ZI 0),(ZI 0),(ZI 0),(ZI 0)]⟩,Zv 13 64,Zs 4 14 66])
 (.seq (.seq (.ops [
 Zf 67 2 14,Zl 68 1 67,Zv 69 8,Zo 70 .neq 68 69])
 (.cond (.t 70)
 (.exit 5)
 .skip))
 (.seq (.ops [
 Zv 71 6,Zv 72 13,Zf 73 3 14,Zl 74 1 73,⟨some 75,none,.call c9 [(.t 74)]⟩,Za 76 4 71 72,Zs 4 76 75])
 (.seq (.seq (.ops [
 Zv 77 12])
 (.cond (.t 77)
 (.exit 5)
 .skip))
 (.seq (.opsD [
 Zf 79 3 14,Zl 80 1 79,⟨some 81,none,.call c9 [(.t 80)]⟩,Zu 82 4 7,⟨some 83,none,.call dI [(.t 81),(.t 82)]⟩,Zv 78 83,Zx 84 0 78,Zx 85 1 78,⟨some 15,none,.alloc 249015 [(ZI 0),.nil,(ZI 0),.nil]⟩,Zs 4 15 84,Zv 16 85] [[],[],[],[],[],[],[],[],[1,3],[],[]])
 (.seq (.seq (.ops [
 Zv 86 16,Zc 87 .eql 86 0])
 (.cond (.t 87)
 (.opsD [
 Zv 89 6,Zv 90 13,Zu 91 4 15,Zv 92 9,⟨some 93,none,.call c9 [(.t 92)]⟩,⟨some 94,none,.call gC [(.t 91),(.t 93)]⟩,Zv 88 94,Zx 95 0 88,Zx 96 1 88,Za 97 4 89 90,Zs 4 97 95,Zv 16 96] [[],[],[],[],[],[],[],[],[],[],[],[]])
 .skip))
 (.seq (.ops [
 Zv 98 16,Zc 99 .neq 98 0])
 (.cond (.t 99)
 (.seq (.ops [
 Zv 100 16,Ze 4,Zv 5 100])
 .ret)
 .skip)))))))))
 (.ops [
 Zc 101 .add 62 1,Zv 62 101])))))))
 (.seq (.seq (.ops [
 Zv 102 12,Zt 103 102])
 (.cond (.t 103)
 (.seq (.ops [
 ⟨some 104,none,.call c9 [(.c (ZI 0))]⟩,Zs 4 7 104])
 (.exit 1))
 .skip))
 (.seq (.opsD [
 Zu 106 4 7,Zv 107 9,⟨some 108,none,.call c9 [(.t 107)]⟩,⟨some 109,none,.call dY [(.t 106),(.t 108)]⟩,Zv 105 109,Zx 110 0 105,Zx 111 1 105,⟨some 17,none,.alloc 249017 [(ZI 0),.nil,(ZI 0),.nil]⟩,Zs 4 17 110,Zv 18 111] [[],[],[],[],[],[],[],[0],[],[]])
 (.seq (.seq (.ops [
 Zv 112 18,Zc 113 .neq 112 0])
 (.cond (.t 113)
 (.seq (.ops [
 Zv 114 18,Ze 4,Zv 5 114])
 .ret)
 .skip))
 (.ops [
 Zu 115 4 17,Zs 4 7 115]))))))))))
 (.ops [
 Zc 116 .add 37 1,Zv 37 116])))))))
 (.seq (.ghost (.freeze 6) (.ops [
 Zv 117 6,Zv 4 117,Zi 5 0]))
 .ret)))))) }
def mf_rank_within:MFunc :=
 { n:=15,np:=3,res:=[.t 6],body :=
 (.seq (.ops [
 Zb 6 false])
 (.seq (.ops [
 Zv 7 0,Zv 8 1,Zo 9 .geq 7 8,Zv 10 9,⟨some 11,some (10,true),.mv (.t 0)⟩,⟨some 12,some (10,true),.mv (.t 2)⟩,⟨some 13,some (10,true),.bin .leq (.t 11) (.t 12)⟩,Zq 14 10 13,Zv 6 14])
 .ret)) }
def mf_law20_ClearMore:MFunc :=
 { n:=197,np:=5,res:=[.t 10],body :=
 (.seq (.ops [
 Zb 10 false])
 (.seq (.ops [
 ⟨some 26,none,.call kO []⟩,Zv 11 26])
 (.seq (.seq (.ops [
 Zv 27 0,Zv 28 1,⟨some 29,none,.call mX [(.t 27),(.t 28)]⟩,Zt 30 29,Zv 31 30,⟨some 32,some (31,false),.mv (.t 0)⟩,⟨some 33,some (31,false),.len (.t 32)⟩,⟨some 34,some (31,false),.bin .eql (.t 33) (.c (ZI 0))⟩,Zp 35 31 34])
 (.cond (.t 35)
 (.seq (.ops [
 Zv 36 11,Zv 10 36])
 .ret)
 .skip))
 (.seq (.ops [
 Zv 38 0,Zv 39 1,⟨some 40,none,.call de [(.t 38),(.t 39)]⟩,Zv 37 40,Zx 41 0 37,Zx 42 1 37,⟨some 12,none,.alloc 212012 [.nil,.nil,.nil]⟩,Zs 3 12 41,Zv 13 42])
 (.seq (.seq (.ops [
 Zv 43 13,Zc 44 .neq 43 0])
 (.cond (.t 44)
 (.seq (.ops [
 Zv 45 11,Zv 10 45])
 .ret)
 .skip))
 (.seq (.ops [
 Zv 46 2,⟨some 47,none,.conv .i64 (.t 46)⟩,Zv 48 0,Zn 49 48,Zo 50 .rem 47 49,Zv 14 50])
 (.seq (.ops [
 Zv 51 3,⟨some 52,none,.bin .rem (.t 51) (.c (.dat (.int .u16 1000)))⟩,⟨some 53,none,.conv .i64 (.t 52)⟩,Zv 15 53])
 (.seq (.ops [
 ⟨some 54,none,.bsl 212054 true [] 1 0 []⟩,Zv 55 0,⟨some 56,none,.app 212056 [(ZI 0)] 8 (.t 54) (.t 55)⟩,Zv 16 56])
 (.seq (.ops [
 Zv 57 16,Zv 58 14,Zv 59 16,Zv 60 14,Za 61 1 59 60,Zl 62 1 61,Zv 63 15,Zo 64 .add 62 63,Za 65 1 57 58,Zs 1 65 64])
 (.seq (.ghost (.freeze 16) (.ops [
 Zv 67 16,Zv 68 1,⟨some 69,none,.call de [(.t 67),(.t 68)]⟩,Zv 66 69,Zx 70 0 66,Zx 71 1 66,⟨some 17,none,.alloc 212017 [.nil,.nil,.nil]⟩,Zs 3 17 70,Zv 18 71]))
 (.seq (.seq (.ops [
 Zv 72 16,Zv 73 14,Za 74 1 72 73,Zl 75 1 74,Zc 76 .gtr 75 1000000000000000])
 (.cond (.t 76)
 (.seq (.ops [
 Zv 77 11,Zv 10 77])
 .ret)
 .skip))
 (.seq (.seq (.ops [
 Zv 78 18,Zc 79 .neq 78 0,Zv 80 79,⟨some 81,some (80,false),.fad 0 (.t 12)⟩,⟨some 82,some (80,false),.load 1 false (.t 81)⟩,⟨some 83,some (80,false),.len (.t 82)⟩,⟨some 84,some (80,false),.mv (.t 0)⟩,⟨some 85,some (80,false),.len (.t 84)⟩,⟨some 86,some (80,false),.bin .neq (.t 83) (.t 85)⟩,Zp 87 80 86,Zv 88 87,⟨some 89,some (88,false),.fad 0 (.t 17)⟩,⟨some 90,some (88,false),.load 1 false (.t 89)⟩,⟨some 91,some (88,false),.len (.t 90)⟩,⟨some 92,some (88,false),.mv (.t 0)⟩,⟨some 93,some (88,false),.len (.t 92)⟩,⟨some 94,some (88,false),.bin .neq (.t 91) (.t 93)⟩,Zp 95 88 94])
 (.cond (.t 95)
 (.seq (.ops [
 Zb 10 false])
 .ret)
 .skip))
 (.seq (.seq (.ops [
 Zi 19 0])
 (.block 0
 (.loop
 (.seq (.seq (.ops [
 Zv 96 19,Zv 97 0,Zn 98 97,Zo 99 .lss 96 98])
 (.cond (.t 99)
 .skip
 (.exit 0)))
 (.seq (.block 1
 (.seq (.opsD [
 Zf 102 0 17,Zl 103 1 102,Zv 104 19,Za 105 4 103 104,Zu 106 4 105,Zf 107 0 12,Zl 108 1 107,Zv 109 19,Za 110 4 108 109,Zu 111 4 110,⟨some 112,none,.call aV [(.t 106),(.t 111)]⟩,Zc 113 .lss 112 0] [[],[],[],[],[],[],[],[],[],[],[],[]])
 (.cond (.t 113)
 (.seq (.ops [
 Zb 10 false])
 .ret)
 .skip)))
 (.ops [
 Zv 100 19,Zc 101 .add 100 1,Zv 19 101]))))))
 (.seq (.opsD [
 Zf 115 0 12,Zl 116 1 115,Zv 117 14,Za 118 4 116 117,Zu 119 4 118,Zv 120 15,⟨some 121,none,.call iH [(.t 120)]⟩,⟨some 122,none,.call dp [(.t 119),(.t 121)]⟩,Zv 114 122,Zx 123 0 114,Zx 124 1 114,⟨some 20,none,.alloc 212020 [(ZI 0),.nil,(ZI 0),.nil]⟩,Zs 4 20 123,Zv 21 124] [[],[],[],[],[],[],[],[],[],[],[],[1,4],[],[]])
 (.seq (.seq (.opsD [
 Zv 125 21,Zc 126 .neq 125 0,Zv 127 126,⟨some 128,some (127,false),.fad 0 (.t 17)⟩,⟨some 129,some (127,false),.load 1 false (.t 128)⟩,⟨some 130,some (127,false),.mv (.t 14)⟩,⟨some 131,some (127,false),.iad 4 (.t 129) (.t 130)⟩,⟨some 132,some (127,false),.load 4 true (.t 131)⟩,⟨some 133,some (127,false),.load 4 true (.t 20)⟩,⟨some 134,some (127,false),.call aV [(.t 132),(.t 133)]⟩,⟨some 135,some (127,false),.bin .lss (.t 134) (.c (ZI 0))⟩,Zp 136 127 135] [[],[],[],[],[],[],[],[],[],[],[],[]])
 (.cond (.t 136)
 (.seq (.ops [
 Zb 10 false])
 .ret)
 .skip))
 (.seq (.seq (.ops [
 Zv 137 1,Zn 138 137,Zc 139 .eql 138 0])
 (.cond (.t 139)
 (.seq (.ops [
 Zv 140 11,Zv 10 140])
 .ret)
 .skip))
 (.seq (.ops [
 Zv 141 4,⟨some 142,none,.conv .i64 (.t 141)⟩,Zv 143 1,Zn 144 143,Zo 145 .rem 142 144,Zv 22 145])
 (.seq (.seq (.ops [
 Zv 146 1,Zv 147 22,Za 148 4 146 147,Zf 149 1 148,Zl 150 1 149,⟨some 151,none,.bin .neq (.t 150) (.c (.dat (.int .i64 (-1))))⟩])
 (.cond (.t 151)
 (.seq (.ops [
 Zv 152 11,Zv 10 152])
 .ret)
 .skip))
 (.seq (.opsD [
 Zv 154 0,⟨some 155,none,.bsl 212155 true [] 4 0 []⟩,Zv 156 1,Zv 157 22,⟨some 158,none,.slc 4 (.t 156) none (some (.t 157)) none⟩,⟨some 159,none,.app 212159 [(ZI 0),(ZI 0),(ZI 0),(ZI 0)] 32 (.t 155) (.t 158)⟩,Zv 160 1,Zv 161 22,Zc 162 .add 161 1,⟨some 163,none,.slc 4 (.t 160) (some (.t 162)) none none⟩,⟨some 164,none,.app 212164 [(ZI 0),(ZI 0),(ZI 0),(ZI 0)] 32 (.t 159) (.t 163)⟩,⟨some 165,none,.callz 1 de [(.t 154),(.t 164)]⟩,Zv 153 165,Zx 166 0 153,Zx 167 1 153,⟨some 23,none,.alloc 212023 [.nil,.nil,.nil]⟩,Zs 3 23 166,Zv 24 167] [[],[],[],[],[],[],[],[],[],[],[],[],[],[],[],[1,5,10,11],[],[]])
 (.seq (.seq (.ops [
 Zv 168 24,Zc 169 .neq 168 0,Zv 170 169,⟨some 171,some (170,false),.fad 0 (.t 23)⟩,⟨some 172,some (170,false),.load 1 false (.t 171)⟩,⟨some 173,some (170,false),.len (.t 172)⟩,⟨some 174,some (170,false),.mv (.t 0)⟩,⟨some 175,some (170,false),.len (.t 174)⟩,⟨some 176,some (170,false),.bin .neq (.t 173) (.t 175)⟩,Zp 177 170 176])
 (.cond (.t 177)
 (.seq (.ops [
 Zb 10 false])
 .ret)
 .skip))
 (.seq (.seq (.ops [
 Zi 25 0])
 (.block 2
 (.loop
 (.seq (.seq (.ops [
 Zv 178 25,Zv 179 0,Zn 180 179,Zo 181 .lss 178 180])
 (.cond (.t 181)
 .skip
 (.exit 2)))
 (.seq (.block 3
 (.seq (.opsD [
 Zf 184 0 23,Zl 185 1 184,Zv 186 25,Za 187 4 185 186,Zu 188 4 187,Zf 189 0 12,Zl 190 1 189,Zv 191 25,Za 192 4 190 191,Zu 193 4 192,⟨some 194,none,.call aV [(.t 188),(.t 193)]⟩,Zc 195 .lss 194 0] [[],[],[],[],[],[],[],[],[],[],[],[]])
 (.cond (.t 195)
 (.seq (.ops [
 Zb 10 false])
 .ret)
 .skip)))
 (.ops [
 Zv 182 25,Zc 183 .add 182 1,Zv 25 183]))))))
 (.seq (.ops [
 Zv 196 11,Zv 10 196])
 .ret)))))))))))))))))))))) }
def mf_law20_small:MFunc :=
 { n:=66,np:=0,res:=[.t 0],body :=
 (.seq (.ops [
 Zb 0 false])
 (.seq (.ops [
 ⟨some 8,none,.bsl 215008 false [(ZI 0),(ZI 0)] 1 2 [(0,1,(.c (ZI 5))),(1,1,(.c (ZI 0)))]⟩,⟨some 9,none,.build [(ZI 0),(ZI 0),(ZI 0),(ZI 0)] [(0,1,(.c (ZI 0))),(1,1,(.c (ZI 1))),(3,1,(.c (ZI 10)))]⟩,⟨some 10,none,.build [(ZI 0),(ZI 0),(ZI 0),(ZI 0)] [(0,1,(.c (ZI 1))),(1,1,(.c (.dat (.int .i64 (-1))))),(3,1,(.c (ZI 4)))]⟩,⟨some 11,none,.bsl 215011 false [(ZI 0),(ZI 0),(ZI 0),(ZI 0),(ZI 0),(ZI 0),(ZI 0),(ZI 0)] 4 2 [(0,4,(.t 9)),(4,4,(.t 10))]⟩,⟨some 12,none,.bsl 215012 false [(ZI 0),(ZI 0)] 1 2 [(0,1,(.c (ZI 5))),(1,1,(.c (ZI 5)))]⟩,⟨some 13,none,.bsl 215013 false [(ZI 0),(ZI 0)] 1 2 [(0,1,(.c (ZI 5))),(1,1,(.c (ZI 4)))]⟩,⟨some 14,none,.bsl 215014 false [(ZI 0)] 1 1 [(0,1,(.c (ZI 0)))]⟩,⟨some 15,none,.bsl 215015 false [.nil] 1 1 [(0,1,(.t 14))]⟩,⟨some 16,none,.call gV [(.t 8),(.t 11),(.t 12),(.t 13),(.t 15)]⟩,Zv 1 16])
 (.seq (.ops [
 ⟨some 17,none,.build [(ZI 0),(ZI 0),(ZI 0),(ZI 0)] [(0,1,(.c (ZI 0))),(1,1,(.c (ZI 1))),(2,1,(.c (ZI 1))),(3,1,(.c (ZI 10)))]⟩,⟨some 18,none,.build [(ZI 0),(ZI 0),(ZI 0),(ZI 0)] [(0,1,(.c (ZI 1))),(1,1,(.c (ZI 0))),(2,1,(.c (ZI 1))),(3,1,(.c (ZI 10)))]⟩,⟨some 19,none,.bsl 215019 true [(ZI 0),(ZI 0),(ZI 0),(ZI 0),(ZI 0),(ZI 0),(ZI 0),(ZI 0)] 4 2 [(0,4,(.t 17)),(4,4,(.t 18))]⟩,Zv 2 19])
 (.seq (.ops [
 ⟨some 20,none,.bsl 215020 false [(ZI 0),(ZI 0)] 1 2 [(0,1,(.c (ZI 0))),(1,1,(.c (ZI 0)))]⟩,Zv 21 2,⟨some 22,none,.bsl 215022 false [(ZI 0),(ZI 0)] 1 2 [(0,1,(.c (ZI 10))),(1,1,(.c (ZI 10)))]⟩,⟨some 23,none,.bsl 215023 false [(ZI 0),(ZI 0)] 1 2 [(0,1,(.c (ZI 10))),(1,1,(.c (ZI 10)))]⟩,⟨some 24,none,.call gV [(.t 20),(.t 21),(.t 22),(.t 23),(.c .nil)]⟩,Zv 3 24])
 (.seq (.ops [
 ⟨some 25,none,.bsl 215025 false [(ZI 0),(ZI 0)] 1 2 [(0,1,(.c (ZI 0))),(1,1,(.c (ZI 0)))]⟩,Zv 26 2,⟨some 27,none,.build [(ZI 0),(ZI 0),(ZI 0),(ZI 0)] [(0,1,(.c (ZI 0))),(1,1,(.c (.dat (.int .i64 (-1))))),(3,1,(.c (ZI 5)))]⟩,⟨some 28,none,.bsl 215028 false [(ZI 0),(ZI 0),(ZI 0),(ZI 0)] 4 1 [(0,4,(.t 27))]⟩,⟨some 29,none,.app 215029 [(ZI 0),(ZI 0),(ZI 0),(ZI 0)] 32 (.t 26) (.t 28)⟩,⟨some 30,none,.bsl 215030 false [(ZI 0),(ZI 0)] 1 2 [(0,1,(.c (ZI 0))),(1,1,(.c (ZI 0)))]⟩,⟨some 31,none,.bsl 215031 false [(ZI 0),(ZI 0),(ZI 0)] 1 3 [(0,1,(.c (ZI 0))),(1,1,(.c (ZI 0))),(2,1,(.c (ZI 0)))]⟩,⟨some 32,none,.bsl 215032 false [(ZI 0)] 1 1 [(0,1,(.c (ZI 0)))]⟩,⟨some 33,none,.bsl 215033 false [(ZI 0)] 1 1 [(0,1,(.c (ZI 1)))]⟩,⟨some 34,none,.bsl 215034 false [(ZI 0)] 1 1 [(0,1,(.c (ZI 0)))]⟩,⟨some 35,none,.bsl 215035 false [.nil,.nil,.nil] 1 3 [(0,1,(.t 32)),(1,1,(.t 33)),(2,1,(.t 34))]⟩,⟨some 36,none,.call gV [(.t 25),(.t 29),(.t 30),(.t 31),(.t 35)]⟩,Zv 4 36])
 (.seq (.ops [
 ⟨some 37,none,.bsl 215037 false [(ZI 0)] 1 1 [(0,1,(.c (ZI 9)))]⟩,⟨some 38,none,.build [(ZI 0),(ZI 0),(ZI 0),(ZI 0)] [(1,1,(.c (.dat (.int .i64 (-1))))),(3,1,(.c (ZI 6)))]⟩,⟨some 39,none,.build [(ZI 0),(ZI 0),(ZI 0),(ZI 0)] [(1,1,(.c (.dat (.int .i64 (-1))))),(2,1,(.c (ZI 1))),(3,1,(.c (ZI 2)))]⟩,⟨some 40,none,.build [(ZI 0),(ZI 0),(ZI 0),(ZI 0)] [(1,1,(.c (.dat (.int .i64 (-1))))),(2,1,(.c (ZI 1))),(3,1,(.c (ZI 4)))]⟩,⟨some 41,none,.bsl 215041 false [(ZI 0),(ZI 0),(ZI 0),(ZI 0),(ZI 0),(ZI 0),(ZI 0),(ZI 0),(ZI 0),(ZI 0),(ZI 0),(ZI 0)] 4 3 [(0,4,(.t 38)),(4,4,(.t 39)),(8,4,(.t 40))]⟩,⟨some 42,none,.bsl 215042 false [(ZI 0)] 1 1 [(0,1,(.c (ZI 9)))]⟩,⟨some 43,none,.bsl 215043 false [(ZI 0),(ZI 0),(ZI 0)] 1 3 [(0,1,(.c (ZI 6))),(1,1,(.c (ZI 1))),(2,1,(.c (ZI 2)))]⟩,⟨some 44,none,.bsl 215044 false [(ZI 0)] 1 1 [(0,1,(.c (ZI 0)))]⟩,⟨some 45,none,.bsl 215045 false [.nil] 1 1 [(0,1,(.t 44))]⟩,⟨some 46,none,.call gV [(.t 37),(.t 41),(.t 42),(.t 43),(.t 45)]⟩,Zv 5 46])
 (.seq (.ops [
 ⟨some 48,none,.bsl 215048 false [(ZI 0)] 1 1 [(0,1,(.c (.dat (.int .i64 (-1)))))]⟩,⟨some 49,none,.call de [(.t 48),(.c .nil)]⟩,Zv 47 49,Zx 50 0 47,Zx 51 1 47,⟨some 6,none,.alloc 215006 [.nil,.nil,.nil]⟩,Zs 3 6 50,Zv 7 51])
 (.seq (.ops [
 Zv 52 1,Zv 53 52,⟨some 54,some (53,true),.mv (.t 3)⟩,Zq 55 53 54,Zv 56 55,⟨some 57,some (56,true),.mv (.t 4)⟩,Zq 58 56 57,Zv 59 58,⟨some 60,some (59,true),.mv (.t 5)⟩,Zq 61 59 60,Zv 62 61,⟨some 63,some (62,true),.mv (.t 7)⟩,⟨some 64,some (62,true),.bin .eql (.t 63) (.c (ZI 1))⟩,Zq 65 62 64,Zv 0 65])
 .ret)))))))) }
def mf_law20_of:MFunc :=
 { n:=11,np:=1,res:=[.cell 2 4 true],body :=
 (.seq (.ops [
 ⟨some 2,none,.alloc 219002 [(ZI 0),.nil,(ZI 0),.nil]⟩])
 (.seq (.ops [
 Zv 6 0,⟨some 7,none,.call nO [(.t 6),(.c (ZI 1))]⟩,Zv 5 7,Zx 8 0 5,Zx 9 1 5,⟨some 3,none,.alloc 219003 [(ZI 0),.nil,(ZI 0),.nil]⟩,Zs 4 3 8,Zv 4 9])
 (.seq (.ops [
 Zu 10 4 3,Zs 4 2 10])
 .ret))) }
def mf_law20_has:MFunc :=
 { n:=105,np:=5,res:=[.t 10],body :=
 (.seq (.ops [
 Zb 10 false])
 (.seq (.ops [
 Zv 16 0,Zv 17 1,⟨some 18,none,.call de [(.t 16),(.t 17)]⟩,Zv 15 18,Zx 19 0 15,Zx 20 1 15,⟨some 11,none,.alloc 226011 [.nil,.nil,.nil]⟩,Zs 3 11 19,Zv 12 20])
 (.seq (.seq (.ops [
 Zv 21 12,Zc 22 .neq 21 0,Zv 23 22,⟨some 24,some (23,false),.fad 0 (.t 11)⟩,⟨some 25,some (23,false),.load 1 false (.t 24)⟩,⟨some 26,some (23,false),.len (.t 25)⟩,⟨some 27,some (23,false),.mv (.t 2)⟩,⟨some 28,some (23,false),.len (.t 27)⟩,⟨some 29,some (23,false),.bin .neq (.t 26) (.t 28)⟩,Zp 30 23 29,Zv 31 30,⟨some 32,some (31,false),.fad 1 (.t 11)⟩,⟨some 33,some (31,false),.load 1 false (.t 32)⟩,⟨some 34,some (31,false),.len (.t 33)⟩,⟨some 35,some (31,false),.mv (.t 3)⟩,⟨some 36,some (31,false),.len (.t 35)⟩,⟨some 37,some (31,false),.bin .neq (.t 34) (.t 36)⟩,Zp 38 31 37,Zv 39 38,⟨some 40,some (39,false),.fad 2 (.t 11)⟩,⟨some 41,some (39,false),.load 1 false (.t 40)⟩,⟨some 42,some (39,false),.mv (.t 4)⟩,⟨some 43,some (39,false),.call gW [(.t 41),(.t 42)]⟩,⟨some 44,some (39,false),.un .not (.t 43)⟩,Zp 45 39 44])
 (.cond (.t 45)
 (.seq (.ops [
 Zb 10 false])
 .ret)
 .skip))
 (.seq (.seq (.ops [
 Zi 13 0])
 (.block 0
 (.loop
 (.seq (.seq (.ops [
 Zv 46 13,Zv 47 2,Zn 48 47,Zo 49 .lss 46 48])
 (.cond (.t 49)
 .skip
 (.exit 0)))
 (.seq (.block 1
 (.seq (.opsD [
 Zf 52 0 11,Zl 53 1 52,Zv 54 13,Za 55 4 53 54,Zu 56 4 55,Zv 57 2,Zv 58 13,Za 59 1 57 58,Zl 60 1 59,⟨some 61,none,.call iH [(.t 60)]⟩,⟨some 62,none,.call aV [(.t 56),(.t 61)]⟩,Zc 63 .neq 62 0,Zv 64 63,⟨some 65,some (64,false),.fad 0 (.t 11)⟩,⟨some 66,some (64,false),.load 1 false (.t 65)⟩,⟨some 67,some (64,false),.mv (.t 13)⟩,⟨some 68,some (64,false),.iad 4 (.t 66) (.t 67)⟩,⟨some 69,some (64,false),.load 4 true (.t 68)⟩,⟨some 70,some (64,false),.call aY [(.t 69)]⟩,⟨some 71,some (64,false),.un .not (.t 70)⟩,Zp 72 64 71] [[],[],[],[],[],[],[],[],[],[],[],[],[],[],[],[],[],[],[],[],[]])
 (.cond (.t 72)
 (.seq (.ops [
 Zb 10 false])
 .ret)
 .skip)))
 (.ops [
 Zv 50 13,Zc 51 .add 50 1,Zv 13 51]))))))
 (.seq (.seq (.ops [
 Zi 14 0])
 (.block 2
 (.loop
 (.seq (.seq (.ops [
 Zv 73 14,Zv 74 3,Zn 75 74,Zo 76 .lss 73 75])
 (.cond (.t 76)
 .skip
 (.exit 2)))
 (.seq (.block 3
 (.seq (.opsD [
 Zf 79 1 11,Zl 80 1 79,Zv 81 14,Za 82 4 80 81,Zu 83 4 82,Zv 84 3,Zv 85 14,Za 86 1 84 85,Zl 87 1 86,⟨some 88,none,.call iH [(.t 87)]⟩,⟨some 89,none,.call aV [(.t 83),(.t 88)]⟩,Zc 90 .neq 89 0,Zv 91 90,⟨some 92,some (91,false),.fad 1 (.t 11)⟩,⟨some 93,some (91,false),.load 1 false (.t 92)⟩,⟨some 94,some (91,false),.mv (.t 14)⟩,⟨some 95,some (91,false),.iad 4 (.t 93) (.t 94)⟩,⟨some 96,some (91,false),.load 4 true (.t 95)⟩,⟨some 97,some (91,false),.call aY [(.t 96)]⟩,⟨some 98,some (91,false),.un .not (.t 97)⟩,Zp 99 91 98] [[],[],[],[],[],[],[],[],[],[],[],[],[],[],[],[],[],[],[],[],[]])
 (.cond (.t 99)
 (.seq (.ops [
 Zb 10 false])
 .ret)
 .skip)))
 (.ops [
 Zv 77 14,Zc 78 .add 77 1,Zv 14 78]))))))
 (.seq (.ops [
 Zv 100 0,Zv 101 1,Zf 102 0 11,Zl 103 1 102,⟨some 104,none,.call lH [(.t 100),(.t 101),(.t 103)]⟩,Zv 10 104])
 .ret)))))) }

set_option maxRecDepth 10000
set_option maxHeartbeats 4000000
def clL (c:ClR):List Data:=[.int .i64 c.1,.int .i64 c.2.1,.int .i64 c.2.2.1,.int .i64 c.2.2.2]
theorem jz (c:ClR):(clL c).length=4:=rfl
theorem qt (c:ClR):((clL c).map MV.dat).all MV.one=true:=rfl
theorem f7:∀ a b:ClR,clL a=clL b→a=b:=by
 rintro⟨a1,a2,a3,a4⟩ ⟨b1,b2,b3,b4⟩ h;simp only[clL,List.cons.injEq,Data.int.injEq,true_and,and_true] at h;obtain⟨rfl,rfl,rfl,rfl⟩:=h
 rfl
theorem Fv {cs:List ClR} {i:Nat} {c:ClR} (h:cs[i]?=some c) (F:ClR→Int):bt (cs.take (i+1)) F=bt (cs.take i) F+F c:=by
 rw[List.take_add_one,h,jJ];simp [bt]
def okCs (cs:List ClR):Prop:=cs.length≤2000∧∀ c∈cs,0≤c.2.2.2∧c.2.2.2≤1000000000000000
theorem okCs.sum {cs:List ClR} (h:okCs cs) (p:ClR→Prop) [DecidablePred p] (i:Nat):0≤bt (cs.take i) (fun c=>if p c then c.2.2.2 else 0)∧bt (cs.take i) (fun c=>if p c then c.2.2.2 else 0)≤2000000000000000000:=by
 have h1:=sQ (cs:=cs.take i) (F:=fun c=>if p c then c.2.2.2 else 0) (B:=1000000000000000) (by omega) fun c hc=>by
  have:=h.2 c (List.mem_of_mem_take hc)
  try dsimp only
  split<;>omega
 have h2:=h.1;have h3:(cs.take i).length≤cs.length:=by rw[List.length_take];omega
 omega
theorem EH {cash:List Int} {cs:List ClR} (h:dh cash cs=true):okCs cs :=
 ⟨(rightD_iff.1 h).2.1,fun c hc=>⟨((rightD_iff.1 h).2.2.2 c hc).2.2.2.2.2.2.1,((rightD_iff.1 h).2.2.2 c hc).2.2.2.2.2.2.2⟩⟩
theorem tp {n:Int} (h:cn n):fR (aR n) (aR 1)=(aj (n:Rat),0):=by
 rw[iT (jy h) (by decide +kernel) (by decide),aed,show ((1:Int):Rat)=1 from rfl,show (n:Rat) / 1=n by grind]
noncomputable def fk:List Data→Option PRes:=FF (α:=Int) (fun (n:Int)=>([.int .i64 n]:List Data)) (fun (n:Int)=>aI (cn n) (.same (.agg (ae (aj (n:Rat))))))
theorem yV:∀ a b:Int,(fun (n:Int)=>([.int .i64 n]:List Data)) a=(fun (n:Int)=>([.int .i64 n]:List Data)) b→a=b:=by
  intro n1 n2 h;simp only[List.cons.injEq,Data.int.injEq,Data.agg.injEq,Data.sl.injEq,Data.bool.injEq,Data.str.injEq,Data.ptr.injEq,Data.tup.injEq,Prod.mk.injEq,true_and,and_true] at h ⊢
  first | exact h | simpa [aee,and_assoc] using h | grind
@[go_sem] theorem eN (n:Int) (hc:cn n):fk [.int .i64 n]=some (.same (.agg (ae (aj (n:Rat))))):=(aZ yV n).trans (ap hc _)
theorem HF (T:Tab) (r5:T iy=mkE zz) (n:Int) (hc:cn n) :
  wp T mf_clear_whole.body (bG mf_clear_whole.res (.same (.agg (ae (aj (n:Rat)))))) ⟨az [.dat (.int .i64 n)],emp⟩:=by
 refine aq ?_;simp only[mf_clear_whole];have h1:cn 1:=by unfold cn;omega
 have h:=tp hc;generalize aj (n:Rat)=F at *;obtain⟨⟨a,b⟩,⟨c,d⟩⟩:=F;simp only[go_sem,go_sem_proc,aef,r5,hc,h1,h,bB,ae]
 repeat' (first|refine qS ?_ ?_|fail)<;>intro h<;>simp only[h,go_sem,go_sem_proc,aef,r5,hc,h1,h,bB,ae]
noncomputable def n7:List Data→Option PRes:=FF (α:=Int) (fun (n:Int)=>([.int .i64 n]:List Data)) (fun (n:Int)=>aI (cn n) (.same (.agg (ae (aj (n:Rat))))))
theorem yY:∀ a b:Int,(fun (n:Int)=>([.int .i64 n]:List Data)) a=(fun (n:Int)=>([.int .i64 n]:List Data)) b→a=b:=by
  intro n1 n2 h;simp only[List.cons.injEq,Data.int.injEq,Data.agg.injEq,Data.sl.injEq,Data.bool.injEq,Data.str.injEq,Data.ptr.injEq,Data.tup.injEq,Prod.mk.injEq,true_and,and_true] at h ⊢
  first | exact h | simpa [aee,and_assoc] using h | grind
@[go_sem] theorem Bq (n:Int) (hc:cn n):n7 [.int .i64 n]=some (.same (.agg (ae (aj (n:Rat))))):=(aZ yY n).trans (ap hc _)
theorem Ib (T:Tab) (r5:T iy=mkE zz) (n:Int) (hc:cn n) :
  wp T mf_rank_whole.body (bG mf_rank_whole.res (.same (.agg (ae (aj (n:Rat)))))) ⟨az [.dat (.int .i64 n)],emp⟩:=by
 refine aq ?_;simp only[mf_rank_whole];have h1:cn 1:=by unfold cn;omega
 have h:=tp hc;generalize aj (n:Rat)=F at *;obtain⟨⟨a,b⟩,⟨c,d⟩⟩:=F;simp only[go_sem,go_sem_proc,aef,r5,hc,h1,h,bB,ae]
 repeat' (first|refine qS ?_ ?_|fail)<;>intro h<;>simp only[h,go_sem,go_sem_proc,aef,r5,hc,h1,h,bB,ae]
noncomputable def nC:List Data→Option PRes:=FF (α:=Int) (fun (n:Int)=>([.int .i64 n]:List Data)) (fun (n:Int)=>aI (cn n) (.same (.agg (ae (aj (n:Rat))))))
theorem xn:∀ a b:Int,(fun (n:Int)=>([.int .i64 n]:List Data)) a=(fun (n:Int)=>([.int .i64 n]:List Data)) b→a=b:=by
  intro n1 n2 h;simp only[List.cons.injEq,Data.int.injEq,Data.agg.injEq,Data.sl.injEq,Data.bool.injEq,Data.str.injEq,Data.ptr.injEq,Data.tup.injEq,Prod.mk.injEq,true_and,and_true] at h ⊢
  first | exact h | simpa [aee,and_assoc] using h | grind
@[go_sem] theorem sa (n:Int) (hc:cn n):nC [.int .i64 n]=some (.same (.agg (ae (aj (n:Rat))))):=(aZ xn n).trans (ap hc _)
theorem Iw (T:Tab) (Nb:T nO=mkE IE) (n:Int) (hc:cn n) :
  wp T mf_law20_of.body (bG mf_law20_of.res (.same (.agg (ae (aj (n:Rat)))))) ⟨az [.dat (.int .i64 n)],emp⟩:=by
 refine aq ?_;simp only[mf_law20_of];have h1:cn 1:=by unfold cn;omega
 have h:=tp hc;generalize aj (n:Rat)=F at *;obtain⟨⟨a,b⟩,⟨c,d⟩⟩:=F;simp only[go_sem,go_sem_proc,aef,Nb,hc,h1,h,bB,ae]
 repeat' (first|refine qS ?_ ?_|fail)<;>intro h<;>simp only[h,go_sem,go_sem_proc,aef,Nb,hc,h1,h,bB,ae]
def lD (m:Int):Bool:=!(decide (m>1000000)&&decide (m≤1000000000000000))
def vw (cash:List Int) (cs:List ClR):Bool:=!(decide ((cash.length:Int)>5))&&(!(decide ((cs.length:Int)>12))&&(cash.all lD&&cs.all fun c=>lD c.2.2.2))
noncomputable def CE:List Data→Option PRes:=FF (α:=(List Int) × (List ClR)) (fun (cash,cs)=>([.sl (cash.map aa),.sl (cs.map clL)]:List Data)) (fun (cash,cs)=>some (.same (.bool (vw cash cs))))
theorem B9:∀ a b:(List Int) × (List ClR),(fun (cash,cs)=>([.sl (cash.map aa),.sl (cs.map clL)]:List Data)) a=(fun (cash,cs)=>([.sl (cash.map aa),.sl (cs.map clL)]:List Data)) b→a=b:=by
  rintro⟨cash1,cs1⟩ ⟨cash2,cs2⟩ h;simp only[List.cons.injEq,Data.sl.injEq] at h;exact Prod.ext (ah ak _ _ h.1) (ah f7 _ _ h.2.1)
@[go_sem] theorem GI (cash:List Int) (cs:List ClR):CE [.sl (cash.map aa),.sl (cs.map clL)]=some (.same (.bool (vw cash cs))):=aZ B9 (cash,cs)
theorem Nz (T:Tab)  (cash:List Int) (cs:List ClR) :
  wp T mf_ref20_Few.body (bG mf_ref20_Few.res (.same (.bool (vw cash cs)))) ⟨az [.dat (.sl (cash.map aa)),.dat (.sl (cs.map clL))],emp⟩:=by
 refine aq ?_;simp only[mf_ref20_Few];unfold vw;rcases e1:decide ((cash.length:Int)>5)
 ·rcases e2:decide ((cs.length:Int)>12)
  ·have l1:cash.length≤5:=by have:=of_decide_eq_false e1;omega
   have l2:cs.length≤12:=by have:=of_decide_eq_false e2;omega
   simp only[go_sem,go_sem_proc,aef,e1,e2,aeg];refine af [0,1] [] (fun (i:Nat) tm mem=>i≤cash.length∧(cash.take i).all lD=true∧tm 5 = .dat (.int .i64 i)) (fun i=>cash.length-i) 0 (by refine⟨by omega,by simp,rfl⟩) ?_;intro vs ms hvs hms;simp only[go_sem,go_sem_proc,aef,aeg] at hvs hms;subst hvs hms;rintro i tm mem hk hm ⟨hi,hf,h5⟩;simp only[go_sem,go_sem_proc,aef,List.cons.injEq] at hk;obtain⟨h0,h1⟩:=hk;rcases aeh (i<cash.length) with hlt | hge
   ·obtain⟨x,hx⟩:∃ c,cash[i]?=some c:=⟨_,aei hlt⟩
    have d1:decide ((i:Int)<(cash.length:Int))=true:=decide_eq_true (by omega);have w3:IntKind.i64.wrap ((i:Int)+1)=((i+1:Nat):Int):=by rw[al _ (by omega) (by omega)];omega
    rcases c1:decide (x>1000000)
    ·have hc:lD x=true:=by unfold lD;rw[c1];rfl
     refine qI ?_
     repeat' (intro h<;>simp only[h,go_sem,go_sem_proc,aef,h0,h1,h5,hx,d1,w3,c1,aa,aeg,adQ]<;>try refine qS ?_ ?_)
     exact⟨i+1,by omega,by omega,by rw[rb hx,hf,hc];rfl,rfl⟩
    ·rcases c2:decide (x≤1000000000000000)
     ·have hc:lD x=true:=by unfold lD;rw[c1,c2];rfl
      refine qI ?_
      repeat' (intro h<;>simp only[h,go_sem,go_sem_proc,aef,h0,h1,h5,hx,d1,w3,c1,c2,aa,aeg,adQ]<;>try refine qS ?_ ?_)
      exact⟨i+1,by omega,by omega,by rw[rb hx,hf,hc];rfl,rfl⟩
     ·have hc:lD x=false:=by unfold lD;rw[c1,c2];rfl
      rw[Es hx hc];refine qI ?_
      repeat' (intro h<;>simp only[h,go_sem,go_sem_proc,aef,h0,h1,h5,hx,d1,w3,c1,c2,aa,aeg,adQ,adY,adU,aej]<;>try refine qS ?_ ?_)
   ·have d1:decide ((i:Int)<(cash.length:Int))=false:=decide_eq_false (by omega)
    have hca:cash.all lD=true:=by rw[aek (by omega)] at hf;exact hf
    rw[hca];simp only[go_sem,go_sem_proc,aef,h0,h1,h5,d1,aeg];refine af [1] [] (fun (i:Nat) tm mem=>i≤cs.length∧(cs.take i).all (fun c=>lD c.2.2.2)=true∧tm 6 = .dat (.int .i64 i)) (fun i=>cs.length-i) 0 (by refine⟨by omega,by simp,rfl⟩) ?_;intro vs ms hvs hms;simp only[go_sem,go_sem_proc,aef,aeg,h1] at hvs hms;subst hvs hms;clear h0 h1 h5 hm;rintro i tm mem hk hm ⟨hi,hf,h6⟩;simp only[go_sem,go_sem_proc,aef,List.cons.injEq] at hk;have h1:=hk;rcases aeh (i<cs.length) with hlt | hge
    ·obtain⟨⟨a,b,k,x⟩,hx⟩:∃ c,cs[i]?=some c:=⟨_,aei hlt⟩
     have d1:decide ((i:Int)<(cs.length:Int))=true:=decide_eq_true (by omega);have w3:IntKind.i64.wrap ((i:Int)+1)=((i+1:Nat):Int):=by rw[al _ (by omega) (by omega)];omega
     rcases c1:decide (x>1000000)
     ·have hc:lD x=true:=by unfold lD;rw[c1];rfl
      refine qI ?_
      repeat' (intro h<;>simp only[h,go_sem,go_sem_proc,aef,h1,h6,hx,d1,w3,c1,clL,aeg,adQ]<;>try refine qS ?_ ?_)
      exact⟨i+1,by omega,by omega,by rw[rb hx,hf];exact hc,rfl⟩
     ·rcases c2:decide (x≤1000000000000000)
      ·have hc:lD x=true:=by unfold lD;rw[c1,c2];rfl
       refine qI ?_
       repeat' (intro h<;>simp only[h,go_sem,go_sem_proc,aef,h1,h6,hx,d1,w3,c1,c2,clL,aeg,adQ]<;>try refine qS ?_ ?_)
       exact⟨i+1,by omega,by omega,by rw[rb hx,hf];exact hc,rfl⟩
      ·have hc:lD x=false:=by unfold lD;rw[c1,c2];rfl
       rw[Es (p:=fun c:ClR=>lD c.2.2.2) hx hc];refine qI ?_
       repeat' (intro h<;>simp only[h,go_sem,go_sem_proc,aef,h1,h6,hx,d1,w3,c1,c2,clL,aeg,adQ,adY,adU]<;>try refine qS ?_ ?_)
    ·have d1:decide ((i:Int)<(cs.length:Int))=false:=decide_eq_false (by omega)
     have hca:cs.all (fun c=>lD c.2.2.2)=true:=by rw[aek (by omega)] at hf;exact hf
     rw[hca];refine qI ?_
     repeat' (intro h<;>simp only[h,go_sem,go_sem_proc,aef,h1,h6,d1,aeg,adY,adU]<;>try refine qS ?_ ?_)
  ·refine qI ?_
   repeat' (intro h<;>simp only[h,go_sem,go_sem_proc,aef,e1,e2,aeg,ael,aej,Bool.and_false]<;>try refine qS ?_ ?_)
 ·refine qI ?_
  repeat' (intro h<;>simp only[h,go_sem,go_sem_proc,aef,e1,aeg,ael,aej]<;>try refine qS ?_ ?_)
theorem DF {x:List Data} (h:Fits [.int .i64,.int .i64,.int .i64,.int .i64] x):∃ c:ClR,x=clL c:=by
 simp only[Fit,Fits] at h;obtain⟨_,_,rfl,⟨a,rfl,-⟩,_,_,rfl,⟨b,rfl,-⟩,_,_,rfl,⟨c,rfl,-⟩,_,_,rfl,⟨d,rfl,-⟩,rfl⟩:=h;exact⟨(a,b,c,d),rfl⟩
theorem Ch {es:List (List Data)} (h:∀ x∈es,Fit (.st [.int .i64,.int .i64,.int .i64,.int .i64]) x):∃ l:List ClR,es=l.map clL:=by
 obtain⟨l,e,-⟩:=uP (e:=clL) (good:=fun _=>True) fun x hx=>by
  have:=h x hx;unfold Fit at this;obtain⟨c,rfl⟩:=DF this;exact⟨c,rfl,trivial⟩
 exact⟨l,e⟩
theorem L8 {n:Int} (h:(Lit.int .u16 n).wf=true):∃ m:Nat,n=m∧m<65536:=by
 have:0≤n∧n≤65535:=by simpa [Lit.wf,IntKind.min,IntKind.max,IntKind.signed,IntKind.bits] using h
 exact⟨n.toNat,by omega,by omega⟩
end Go.Mini
namespace Go.Mini
open Classical
structure Alike (d e:Day):Prop where
 n:d.n=e.n
 cash:d.cash=e.cash
 mem:∀ c,c∈d.cl↔c∈e.cl
 sum:∀ F,sumC d.cl F=sumC e.cl F
theorem Alike.symm {d e:Day} (h:Alike d e):Alike e d:=⟨h.n.symm,h.cash.symm,fun c=>(h.mem c).symm,fun F=>(h.sum F).symm⟩
section
variable {d e:Day} (h:Alike d e)
include h
theorem Alike.U:d.U=e.U:=by funext k r;exact h.sum _
theorem Alike.S:d.S=e.S:=by funext k r;exact h.sum _
theorem Alike.w:d.w=e.w:=by funext c;unfold Day.w;rw[h.S]
theorem Alike.q:d.q=e.q:=by funext f x c;unfold Day.q;rw[h.U,h.w]
theorem Alike.l:d.l=e.l:=by funext f P x c;unfold Day.l;rw[h.U,h.w]
theorem Alike.pay:d.pay=e.pay:=by funext x c;unfold Day.pay;rw[h.U,h.w]
theorem Alike.into:d.into=e.into:=by funext a i;unfold Day.into;rw[h.cash,h.sum]
theorem Alike.phi:d.phi=e.phi:=by funext x i;unfold Day.phi;rw[h.into,h.pay]
theorem Alike.sumIn:d.sumIn=e.sumIn:=by funext C x;unfold Day.sumIn;rw[h.n]
theorem Alike.cap:d.cap=e.cap:=by funext f g C k;unfold Day.cap;rw[h.U]
theorem Alike.closed (f:Nat→Nat) (C:Nat→Prop):d.closed f C↔e.closed f C:=by
 unfold Day.closed;exact⟨fun k c hc=>k c ((h.mem c).2 hc),fun k c hc=>k c ((h.mem c).1 hc)⟩
theorem Alike.inv {f:Nat→Nat} {g:Nat→Rat} (a:Inv d f g):Inv e f g:=by
 obtain⟨h1,h2,h3,h4,h5⟩:=a;refine⟨h1,fun i hi=>?_,fun i hi hf=>?_,fun i hi hf=>?_,fun C hC hC2 hC3=>?_⟩
 ·have:=h2 i (by rw[h.n];exact hi)
  rwa [h.into,h.q] at this
 ·have:=h3 i (by rw[h.n];exact hi) hf
  rwa [h.U] at this
 ·have:=h4 i (by rw[h.n];exact hi) hf
  rwa [h.U] at this
 ·have:=h5 C hC (fun i hi=>by rw[h.n];exact hC2 i hi) ((h.closed f C).2 hC3)
  rwa [h.sumIn,h.into,h.q,h.cap,h.U] at this
theorem Alike.ok (a:d.OK):e.OK:=⟨fun c hc=>by rw[←h.n];exact a.fr c ((h.mem c).2 hc),fun c hc=>by rw[←h.n];exact a.to c ((h.mem c).2 hc),fun c hc=>a.rk c ((h.mem c).2 hc),fun c hc=>a.am c ((h.mem c).2 hc),fun i hi=>by rw[←h.cash];exact a.cash i (by rw[h.n];exact hi)⟩
theorem Alike.isTop {f:Nat→Nat} {x:Nat→Rat} (a:IsTop d f x):IsTop e f x:=by
 obtain⟨g,h1,h2,h3⟩:=a;refine⟨g,h.inv h1,fun i hi=>?_,fun i hi=>h3 i (by rw[h.n];exact hi)⟩
 have:=h2 i (by rw[h.n];exact hi)
 rwa [h.into,h.q] at this
theorem Alike.isTop_iff:IsTop d=IsTop e:=by
 funext f x
 exact propext ⟨h.isTop,h.symm.isTop⟩
theorem Alike.top:d.top=e.top:=by
 funext f
 unfold Day.top;rw[h.isTop_iff]
theorem Alike.falls:d.falls=e.falls:=by
 funext f
 unfold Day.falls;rw[h.top,h.U,h.n]
theorem Alike.fallRank:d.fallRank=e.fallRank:=by
 funext x i k
 induction k with
 | zero=>rfl
 | succ k ih=>unfold Day.fallRank;rw[h.U,ih]
theorem Alike.fallen:d.fallen=e.fallen:=by
 funext f x i
 unfold Day.fallen;rw[h.n,h.U,h.fallRank]
theorem Alike.rounds:d.rounds=e.rounds:=by
 funext k
 induction k with
 | zero=>funext f;rfl
 | succ k ih =>
  funext f
  unfold Day.rounds;rw[h.falls,h.fallen,h.top,ih]
end
def aX (cs:List ClR) (i k:Nat):List ClR:=cs.filter fun c=>c.1==(i:Int)&&c.2.2.1==(k:Int)
theorem cell_mem {cs:List ClR} {i k:Nat} {c:ClR}:c∈aX cs i k↔c∈cs∧c.1=(i:Int)∧c.2.2.1=(k:Int):=by
 unfold aX;rw[aem,adW,beq_iff_eq,beq_iff_eq]
def aG (n:Nat) (cs:List ClR):List ClR:=(adP n).flatMap fun i=>(adP 10).flatMap fun k=>aX cs i k
theorem FW (cs:List ClR) (i k j r:Nat):aX (aX cs i k) j r=if i=j∧k=r then aX cs i k else []:=by
 unfold aX;rw[List.filter_filter]
 by_cases h:i=j∧k=r
 ·obtain⟨rfl,rfl⟩:=h
  rw[if_pos ⟨rfl,rfl⟩]
  congr 1
  funext c
  simp
 ·rw[if_neg h,List.filter_eq_nil_iff]
  intro c _;simp only[adW,beq_iff_eq];rintro⟨⟨h1,h2⟩,h3,h4⟩;exact h ⟨by omega,by omega⟩
theorem Bg {α:Type} {n i:Nat} (hi:i<n) (F:Nat→List α) (h:∀ k,k<n→k≠i→F k=[]):(adP n).flatMap F=F i:=by
 induction n with
 | zero=>omega
 | succ n ih =>
  rw[aen,aeo,aep,aeq,aer]
  by_cases hn:i=n
  ·subst hn
   have:(adP i).flatMap F=[]:=by
    rw[aes];intro k hk;have:=List.mem_range.1 hk;exact h k (by omega) (by omega)
   rw[this,aet]
  ·rw[ih (by omega) fun k hk=>h k (by omega),h n (by omega) (Ne.symm hn),aer]
theorem vJ {α:Type} (l:List α) (F:α→List ClR) (i k:Nat):aX (l.flatMap F) i k=l.flatMap fun x=>aX (F x) i k:=by
 unfold aX
 induction l with
 | nil=>rfl
 | cons a l ih=>rw[aep,aep,aeu,ih]
theorem sW {n i k:Nat} (cs:List ClR) (hi:i<n) (hk:k<10):aX (aG n cs) i k=aX cs i k:=by
 unfold aG;rw[vJ];simp only[vJ,FW];rw[Bg hi,Bg hk]
 ·rw[if_pos ⟨rfl,rfl⟩]
 ·intro r _ hr
  rw[if_neg fun h=>hr h.2]
 ·intro j _ hj
  rw[aes];intro r _;rw[if_neg fun h=>hj h.1]
theorem qr {n:Nat} {a b:List ClR} (h:∀ i,i<n→∀ k,k<10→aX a i k=aX b i k):aG n a=aG n b:=by
 unfold aG;rw[aev,aev]
 congr 1
 refine aew fun i hi=>?_
 rw[aev,aev]
 congr 1
 exact aew fun k hk=>h i (List.mem_range.1 hi) k (List.mem_range.1 hk)
theorem y8 (n:Nat) (cs:List ClR):aG n (aG n cs)=aG n cs:=qr fun _ hi _ hk=>sW cs hi hk
theorem pH {n:Nat} {cs:List ClR} (hr:∀ c∈cs,0≤c.1∧c.1<n∧0≤c.2.2.1∧c.2.2.1<10) {c:ClR}:c∈aG n cs↔c∈cs:=by
 unfold aG;simp only[List.mem_flatMap,List.mem_range,cell_mem]
 constructor
 ·rintro⟨i,-,k,-,h,-⟩
  exact h
 ·intro hc
  have:=hr c hc;exact⟨c.1.toNat,by omega,c.2.2.1.toNat,by omega,hc,by omega,by omega⟩
theorem kZ (a b:List Cl) (F:Cl→Rat):sumC (a++b) F=sumC a F+sumC b F:=by
 induction a with
 | nil=>simp only[aet,sumC];grind
 | cons c l ih=>rw[List.cons_append,sumC,sumC,ih];grind
theorem tW (F:Nat→List ClR) (G:Cl→Rat) (n:Nat):sumC (((adP n).flatMap F).map bz) G=sumQ n fun i=>sumC ((F i).map bz) G:=by
 induction n with
 | zero=>rfl
 | succ n ih=>rw[aen,aeo,aex,kZ,ih,sumQ,aep,aeq,aer]
theorem G6 {l:List Cl} (hl:∀ c∈l,c.rk<10) (b:Nat→Cl→Rat):sumQ 10 (fun k=>sumC l (fun c=>if c.rk=k then b k c else 0))=sumC l (fun c=>b c.rk c):=by
 induction l with
 | nil=>exact gQ fun k _=>rfl
 | cons c l ih =>
  rw[sumC,←ih fun x hx=>hl x (aey _ hx)]
  have e:(fun k:Nat=>sumC (c::l) (fun c=>if c.rk=k then b k c else 0))=fun k=>(if c.rk=k then b k c else 0)+sumC l (fun c=>if c.rk=k then b k c else 0):=rfl
  rw[e,kH]
  congr 1
  rw[i5 (hl c aez) fun k _ hk=>if_neg (Ne.symm hk),if_pos rfl]
theorem uW {cs:List ClR} (hr:∀ c∈cs,0≤c.1∧0≤c.2.2.1) (i k:Nat) (G:Cl→Rat):sumC ((aX cs i k).map bz) G=sumC (cs.map bz) fun c=>if c.fr=i∧c.rk=k then G c else 0:=by
 induction cs with
 | nil=>rfl
 | cons c l ih =>
  have h0:=hr c aez;have ih:=ih fun x hx=>hr x (aey _ hx)
  unfold aX at ih ⊢;rw[aeA,sumC,←ih]
  by_cases h:(bz c).fr=i∧(bz c).rk=k
  ·obtain⟨h1,h2⟩:=h
   have e1:c.1=(i:Int):=by have:c.1.toNat=i:=h1;omega
   have e2:c.2.2.1=(k:Int):=by have:c.2.2.1.toNat=k:=h2;omega
   rw[aeB (by simp [e1,e2]),aeA,sumC,if_pos ⟨h1,h2⟩]
  ·rw[if_neg h,aeC,Rat.zero_add]
   intro hb;rw[adW,beq_iff_eq,beq_iff_eq] at hb;refine h ⟨?_,?_⟩
   ·show c.1.toNat=i;omega
   ·show c.2.2.1.toNat=k;omega
theorem uD {n:Nat} {cs:List ClR} (hr:∀ c∈cs,0≤c.1∧c.1<n∧0≤c.2.2.1∧c.2.2.1<10) (G:Cl→Rat):sumC ((aG n cs).map bz) G=sumC (cs.map bz) G:=by
 unfold aG;rw[tW]
 have hfr:∀ c∈cs.map bz,c.fr<n:=fun c hc=>by
  obtain⟨x,hx,rfl⟩:=List.mem_map.1 hc;have:=hr x hx
  show x.1.toNat<n;omega
 have hrk:∀ c∈cs.map bz,c.rk<10:=fun c hc=>by
  obtain⟨x,hx,rfl⟩:=List.mem_map.1 hc;have:=hr x hx
  show x.2.2.1.toNat<10;omega
 have e:(fun i=>sumC (((adP 10).flatMap fun k=>aX cs i k).map bz) G)=fun i=>sumC (cs.map bz) fun c=>if c.fr=i then G c else 0:=by
  funext i
  rw[tW,←G6 hrk fun _ c=>if c.fr=i then G c else 0]
  congr 1
  funext k
  rw[uW fun c hc=>⟨(hr c hc).1,(hr c hc).2.2.1⟩]
  refine d8 fun c _=>?_
  by_cases h1:c.rk=k
  ·rw[if_pos h1]
   by_cases h2:c.fr=i
   ·rw[if_pos ⟨h2,h1⟩,if_pos h2]
   ·rw[if_neg fun h=>h2 h.1,if_neg h2]
  ·rw[if_neg h1,if_neg fun h=>h1 h.2]
 rw[e,De hfr fun _ c=>G c]
theorem qy {cash:List Int} {cs:List ClR} (h:dh cash cs=true):Alike (ab cash cs) (ab cash (aG cash.length cs)):=by
 have hr:∀ c∈cs,0≤c.1∧c.1<cash.length∧0≤c.2.2.1∧c.2.2.1<10:=fun c hc=>by
  have:=(rightD_iff.1 h).2.2.2 c hc;exact⟨this.1,this.2.1,this.2.2.2.2.1,this.2.2.2.2.2.1⟩
 refine⟨rfl,rfl,fun c=>?_,fun F=>(uD hr F).symm⟩
 show c∈cs.map bz↔c∈(aG cash.length cs).map bz;rw[aeD,aeD];simp only[pH hr]
theorem uu {n:Nat} {cs:List ClR} (hr:∀ c∈cs,0≤c.1∧c.1<n∧0≤c.2.2.1∧c.2.2.1<10):(aG n cs).length=cs.length:=by
 have h1:∀ l:List ClR,sumC (l.map bz) (fun _=>1)=(l.length:Rat):=fun l=>by
  induction l with
  | nil=>rfl
  | cons a l ih=>rw[aeA,sumC,ih,aeE,Rat.natCast_add,Rat.add_comm];rfl
 have:=uD hr fun _=>1
 rw[h1,h1] at this
 exact_mod_cast this
theorem mV {cash:List Int} {cs:List ClR} (h:SmallD cash cs):SmallD cash (aG cash.length cs):=by
 have hri:=rightD_iff.1 h.right
 have hr:∀ c∈cs,0≤c.1∧c.1<cash.length∧0≤c.2.2.1∧c.2.2.1<10:=fun c hc=>by
  have:=hri.2.2.2 c hc;exact⟨this.1,this.2.1,this.2.2.2.2.1,this.2.2.2.2.2.1⟩
 refine⟨rightD_iff.2 ⟨hri.1,by rw[uu hr];exact hri.2.1,hri.2.2.1,fun c hc=>hri.2.2.2 c ((pH hr).1 hc)⟩,h.n5,by rw[uu hr];exact h.c12,fun c hc=>h.am c ((pH hr).1 hc)⟩
end Go.Mini
namespace Go.Mini
open Classical
noncomputable def Day.fend (d:Day):Nat→Nat:=(d.rounds (10*d.n) fun _=>10).2
noncomputable def Day.frs (d:Day):List (List Nat):=(d.rounds (10*d.n) fun _=>10).1
noncomputable def Day.gr (d:Day):Nat→Rat:=d.top d.fend
theorem ur (n k:Nat):kV n (fun _=>k)=k*n:=by
 induction n with
 | zero=>rfl
 | succ n ih=>rw[kV,ih,Nat.mul_succ]
section
variable {d:Day} (hd:d.OK)
include hd
theorem Day.OK.hex:∀ f,Reach d f→∃ h,IsTop d f h:=fun _ hr=>OF hd hr
theorem jn:Reach d d.fend∧d.falls d.fend=[]:=tX hd hd.hex (10*d.n) (fun _=>10) (Reach.start hd) (by rw[ur];exact adV _)
theorem qH:IsTop d d.fend d.gr:=Day.top_spec (hd.hex _ (jn hd).1)
theorem Nt:∀ i,i<d.n→d.U i (d.fend i)≤d.gr i:=by
 intro i hi;apply aeF;intro hn;have:i∈d.falls d.fend:=Day.mem_falls.2 ⟨hi,by unfold Day.gr at hn;grind⟩
 rw[(jn hd).2] at this
 cases this
theorem nI:(∀ i,i<d.n→d.gr i=d.phi d.gr i)∧∀ i,i<d.n→(d.fend i<10↔d.gr i<d.U i 10):=by
 obtain⟨g,h1,h2,h3⟩:=qH hd;exact h1.final hd h2 h3 (Nt hd)
theorem BC {z:Nat→Rat} (hz:∀ i,i<d.n→z i≤d.phi z i):∀ i,i<d.n→z i≤d.gr i:=w9 hd hd.hex (jn hd).1 hz
theorem wu {i:Nat} (hi:i<d.n):0≤d.gr i:=(qH hd).nonneg hd hi
end
theorem Ha {d e:Day} (hcl:e.cl=d.cl) (a:Cl→Rat) (i:Nat):e.into a i=d.into a i+(e.cash i-d.cash i):=by
 unfold Day.into;rw[hcl];grind
theorem SE {d e:Day} (hcl:e.cl=d.cl):e.U=d.U:=by funext i k;unfold Day.U;rw[hcl]
theorem S4 {d e:Day} (hcl:e.cl=d.cl):e.S=d.S:=by funext i k;unfold Day.S;rw[hcl]
theorem Sv {d e:Day} (hcl:e.cl=d.cl):e.w=d.w:=by funext c;unfold Day.w;rw[S4 hcl]
theorem NU {d e:Day} (hcl:e.cl=d.cl):e.pay=d.pay:=by funext h c;unfold Day.pay;rw[SE hcl,Sv hcl]
theorem Ef {d e:Day} (hd:d.OK) (he:e.OK) (hn:e.n=d.n) (hcl:e.cl=d.cl) (hc:∀ i,i<d.n→d.cash i≤e.cash i):∀ i,i<d.n→d.gr i+(e.cash i-d.cash i)≤e.gr i:=by
 have key:=BC he (z:=fun i=>d.gr i+(e.cash i-d.cash i)) fun i hi=>by
  rw[hn] at hi;have h1:=(nI hd).1 i hi;unfold Day.phi at h1 ⊢;rw[Ha hcl,NU hcl]
  have h2:=d.into_le (a:=d.pay d.gr) (b:=d.pay fun i=>d.gr i+(e.cash i-d.cash i)) (fun c hcm=>hd.pay_mono hcm (by
   have:=hc _ (hd.fr c hcm);grind)) i
  grind
 intro i hi;exact key i (by rw[hn];exact hi)
theorem S_nonneg {d:Day} (hd:d.OK) (i k:Nat):0≤d.S i k:=dZ fun c hc=>by
 try dsimp only
 split
 ·exact hd.am c hc
 ·exact ad5
theorem Lt {d e:Day} (hd:d.OK) (he:e.OK) (hn:e.n=d.n) (hcash:e.cash=d.cash) (a b:List Cl) (c0:Cl) (hcl:d.cl=a++c0::b) (hecl:e.cl=a++b) (hto:c0.to<0):∀ i,i<d.n→d.gr i≤e.gr i:=by
 have hsum:∀ F:Cl→Rat,sumC d.cl F=sumC e.cl F+F c0:=fun F=>by
  rw[hcl,hecl,kZ,kZ,sumC];grind
 have h0:0≤c0.am:=hd.am c0 (by rw[hcl];simp)
 have hmem:∀ c∈e.cl,c∈d.cl:=fun c hc=>by
  rw[hecl] at hc;rw[hcl];rcases List.mem_append.1 hc with h | h<;>simp [h]
 have hS:∀ i k,e.S i k≤d.S i k:=fun i k=>by
  have:=hsum fun c=>if c.fr=i∧c.rk=k then c.am else 0
  unfold Day.S;rw[this]
  split<;>grind
 have hU:∀ i k,e.U i k≤d.U i k:=fun i k=>by
  have:=hsum fun c=>if c.fr=i∧c.rk<k then c.am else 0
  unfold Day.U;rw[this]
  split<;>grind
 have hpay:∀ (x:Nat→Rat) c,c∈e.cl→d.pay x c≤e.pay x c:=by
  intro x c hc;have hcd:=hmem c hc;unfold Day.pay
  by_cases h2:e.U c.fr (c.rk+1)≤x c.fr
  ·rw[if_pos h2]
   exact hd.pay_le x hcd
  ·have h3:=hU c.fr (c.rk+1)
   rw[if_neg h2,if_neg (by grind)];have h4:=hU c.fr c.rk;have h5:=p7 (x:=x c.fr-d.U c.fr c.rk) (y:=x c.fr-e.U c.fr c.rk) (by grind);have h6:=iv (x c.fr-d.U c.fr c.rk)
   by_cases ham:c.am=0
   ·rw[Day.w_zero ham,Day.w_zero ham];grind
   ·have ha:=he.am c hc
    have hse:=he.am_le hc;have hsd:=hS c.fr c.rk
    have hw:d.w c≤e.w c:=by
     unfold Day.w;rw[aeG,aeG];refine fU ha ?_;have hp:0<e.S c.fr c.rk:=by grind
     have hp2:0<d.S c.fr c.rk:=by grind
     have e1:e.S c.fr c.rk*(e.S c.fr c.rk)⁻¹=1:=aeH _ (by grind);have e2:d.S c.fr c.rk*(d.S c.fr c.rk)⁻¹=1:=aeH _ (by grind);have i1:=Rat.inv_pos.2 hp;have i2:=Rat.inv_pos.2 hp2;have h9:=fU (a:=(e.S c.fr c.rk)⁻¹*(d.S c.fr c.rk)⁻¹) (Rat.mul_nonneg (aeI i1) (aeI i2)) hsd;generalize (e.S c.fr c.rk)⁻¹=x1 at *;generalize (d.S c.fr c.rk)⁻¹=x2 at *
     have k1:x1*x2*e.S c.fr c.rk=x2:=by
      rw[ad1 x1,aeJ,ad1 x1,e1,aeK]
     have k2:x1*x2*d.S c.fr c.rk=x1:=by
      rw[aeJ,ad1 x2,e2,aeK]
     rw[k1,k2] at h9;exact h9
    have hw0:=he.w_nonneg hc;have h7:=fU hw0 h5
    have h8:d.w c*pos (x c.fr-d.U c.fr c.rk)≤e.w c*pos (x c.fr-d.U c.fr c.rk):=by
     rw[ad1,ad1 (e.w c)];exact fU h6 hw
    exact ad7 h8 h7
 have key:=BC he (z:=d.gr) fun i hi=>by
  rw[hn] at hi;rw[(nI hd).1 i hi];unfold Day.phi
  have h1:d.into (d.pay d.gr) i=e.into (d.pay d.gr) i:=by
   unfold Day.into;rw[hcash,hsum,if_neg (by omega)];grind
  rw[h1];have hg:d.into (d.pay d.gr)=d.phi d.gr:=rfl;refine e.into_le (fun c hc=>?_) i;exact hpay d.gr c hc
 intro i hi;exact key i (by rw[hn];exact hi)
end Go.Mini
namespace Go.Mini
open Classical
section
variable {d:Day} (hd:d.OK)
include hd
end
end Go.Mini
namespace Go.Mini
open Classical
section
variable {d:Day} (hd:d.OK) {k:Rat} (hk:0<k)
include hk
end
section
variable {d:Day} (hd:d.OK) (who:Nat)
include hd
end
end Go.Mini
namespace Go.Mini
open Classical
theorem En {d:Day} (hd:d.OK) {f:Nat→Nat} {g:Nat→Rat} (hi:Inv d f g):∀ m (P:Nat→Prop),idle d P≤m→Pay d f g P (d.lst f P)→∃ P,PayG d f P∧∀ i,i<d.n→d.lst f P i=d.top f i
 | m,P,hm,hp=>by
  by_cases hs:∀ i,i<d.n→f i<10→d.U i (f i)<d.lst f P i→P i
  ·exact⟨P,⟨hd,g,hi,hp⟩,hp.is_top hd hi hs⟩
  ·have⟨i,h1,h2,h3,h4⟩:∃ i,i<d.n∧f i<10∧d.U i (f i)<d.lst f P i∧¬ P i:=by
    apply aeF;intro hn;exact hs fun i h1 h2 h3=>aeF fun h4=>hn ⟨i,h1,h2,h3,h4⟩
   have hlt:=D4 (h:=d.lst f P) h1 h2 h3 h4
   cases m with
   | zero=>omega
   | succ m=>exact En hd hi m _ (by omega) (hp.succ hd hi)
theorem pt {d:Day} (hd:d.OK) {f:Nat→Nat} (hr:Reach d f):∃ P,PayG d f P∧∀ i,i<d.n→d.lst f P i=d.top f i:=by
 obtain⟨g,hi,-⟩:=hr;exact En hd hi _ _ (adV _) (Pay.first hd hi)
section
variable {cash:List Int} {cs:List ClR} (hs:SmallD cash cs)
include hs
theorem Jy {f:Nat→Nat} (hr:Reach (ab cash cs) f) {i:Nat} (hi:i<cash.length):szR 453 ((ab cash cs).top f i):=by
 obtain⟨P,hp,he⟩:=pt hs.ok hr;rw[←he i hi];exact JJ hs hp hi
theorem ug {i:Nat} (hi:i<cash.length):szR 453 ((ab cash cs).gr i):=Jy hs (jn hs.ok).1 hi
theorem Qb {i:Nat} (hi:i<cash.length):(ab cash cs).gr i≤((2^51:Nat):Rat):=by
 obtain⟨P,hp,he⟩:=pt hs.ok (jn hs.ok).1;have:=(ou hs hp hi).2;rw[he i hi] at this;exact this
theorem IL:∃ M:Nat,0<M∧(∃ a,a≤402∧M≤2^a)∧∀ i,i<cash.length→DenBy M ((ab cash cs).gr i):=by
 obtain⟨P,hp,he⟩:=pt hs.ok (jn hs.ok).1;obtain⟨M,h1,h2,h3⟩:=EF hs hp;refine⟨M,h1,h2,fun i hi=>?_⟩
 have:=h3 i hi;rw[he i hi] at this;exact this
end
section
variable {d:Day} (hd:d.OK)
include hd
end
noncomputable def sE (cash:List Int) (cs:List ClR) (k:Nat):Nat:=if (ab cash cs).fend k<10 then SN cs k ((ab cash cs).fend k) else 1
section
variable {cash:List Int} {cs:List ClR} (hs:SmallD cash cs)
include hs
theorem zD {k:Nat} (hk:k<cash.length):0<sE cash cs k:=by
 unfold sE
 split
 ·rename_i h
  obtain⟨g,h1,-⟩:=qH hs.ok;have h2:=h1.S_pos (i:=k) hk h;rw[←mP hs.right] at h2
  exact_mod_cast h2
 ·omega
theorem Em (k:Nat):sE cash cs k≤2^29:=by
 unfold sE
 split
 ·exact hs.SN_le _ _
 ·exact aeL
theorem Eq {M:Nat} (hM:∀ i,i<cash.length→DenBy M ((ab cash cs).gr i)) {c:ClR} (hc:c∈cs):DenBy (M*sE cash cs (bz c).fr) ((ab cash cs).pay (ab cash cs).gr (bz c)):=by
 have hd:=hs.ok;have hcm:bz c∈(ab cash cs).cl:=aeM hc;have hk:(bz c).fr<cash.length:=hd.fr _ hcm;have ham:∀ N,DenBy N (bz c).am:=fun N=>DenBy.int N c.2.2.2
 have hz:∀ N,DenBy N (0:Rat):=DenBy.zero;have hU:=fun r s=>@Day.OK.U_mono _ hd (bz c).fr r s
 have hrk:=hd.rk _ hcm;have hno:=Nt hd _ hk;unfold Day.pay
 by_cases h1:(ab cash cs).U (bz c).fr ((bz c).rk+1)≤(ab cash cs).gr (bz c).fr
 ·rw[if_pos h1];exact ham _
 ·rw[if_neg h1]
  have hf:(ab cash cs).fend (bz c).fr<10:=by
   refine ((nI hd).2 _ hk).2 ?_;have:=hU ((bz c).rk+1) 10 (by omega);grind
  have hlt:(ab cash cs).gr (bz c).fr<(ab cash cs).U (bz c).fr ((ab cash cs).fend (bz c).fr+1):=by
   obtain⟨g,k1,-,k3⟩:=qH hd;have:=k1.hi _ hk hf;have:=k3 _ hk;grind
  rcases Nat.lt_trichotomy (bz c).rk ((ab cash cs).fend (bz c).fr) with h2 | h2 | h2
  ·have:=hU ((bz c).rk+1) ((ab cash cs).fend (bz c).fr) (by omega)
   exact absurd (ad7 this hno) h1
  ·have hw:DenBy (sE cash cs (bz c).fr) ((ab cash cs).w (bz c)):=by
    unfold sE;rw[if_pos hf];refine⟨c.2.2.2,?_⟩;rw[mP hs.right,←h2]
    have:0<(ab cash cs).S (bz c).fr (bz c).rk:=by
     have:=(ab cash cs).U_succ (bz c).fr ((ab cash cs).fend (bz c).fr);rw[h2];grind
    exact Day.w_S this
   have hgr:DenBy M ((ab cash cs).gr (bz c).fr-(ab cash cs).U (bz c).fr (bz c).rk):=by
    refine (hM _ hk).sub ?_;rw[←d7 hs.right];exact DenBy.int _ _
   rw[lz (by rw[h2];grind),Nat.mul_comm];exact hw.mul hgr
  ·have:=hU ((ab cash cs).fend (bz c).fr+1) (bz c).rk (by omega)
   rw[im (by grind),aeN];exact hz _
theorem LG {c:ClR} (hc:c∈cs):szR 482 ((ab cash cs).pay (ab cash cs).gr (bz c)):=by
 obtain⟨M,h1,⟨a,h2,h3⟩,h4⟩:=IL hs;have hcm:bz c∈(ab cash cs).cl:=aeM hc;have hk:(bz c).fr<cash.length:=hs.ok.fr _ hcm;have h5:=Eq hs h4 hc;have h6:=zD hs hk;have h7:=Em hs (bz c).fr;have h8:M*sE cash cs (bz c).fr≤2^(a+29):=by rw[aeb];exact ad4 h3 h7
 have h9:=hs.ok.pay_nonneg (ab cash cs).gr hcm
 have h10:(ab cash cs).pay (ab cash cs).gr (bz c)≤((2^25:Nat):Rat):=by
  refine ad7 (hs.ok.pay_le _ hcm) ?_;have:=hs.am c hc
  show ((c.2.2.2:Int):Rat)≤_;have:c.2.2.2≤((2^25:Nat):Int):=by omega
  rw[←ad0];exact Rat.intCast_le_intCast.2 this
 exact (h5.sz (aec h1 h6) h8 h9 h10).mono (by omega)
end
end Go.Mini
namespace Go.Mini
open Go
set_option maxRecDepth 10000
set_option maxHeartbeats 4000000
theorem rightC_iff {n:Int} {c:ClR}:eZ n c=true↔0≤c.1∧c.1<n ∧ -1≤c.2.1∧c.2.1<n∧0≤c.2.2.1∧c.2.2.1<10∧0≤c.2.2.2∧c.2.2.2≤1000000000000000:=by
 unfold eZ;simp only[adW,decide_eq_true_eq,and_assoc]
def dN (x:Int):Bool:=decide (0≤x)&&decide (x≤1000000000000000)
theorem rightM_iff {x:Int}:dN x=true↔0≤x∧x≤1000000000000000:=by
 unfold dN;simp only[adW,decide_eq_true_eq]
theorem CS (cash:List Int) (cs:List ClR):dh cash cs=(decide (cash.length≤60)&&decide (cs.length≤2000)&&cash.all dN&&cs.all (eZ cash.length)):=rfl

theorem yw {x y:Rat} (hx:cm x) (hy:cm y) (h:ia x y=true):lP [.agg (ae (aj x)),.agg (ae (aj y))]=some (.same (.tup [.agg (ae (aj (x+y))),.int .i64 0])):=by
 have h1:=eC hx;have h2:=eC hy;have:=vF (aj x).1.1 (aj x).1.2 (aj x).2.1 (aj x).2.2 (aj y).1.1 (aj y).1.2 (aj y).2.1 (aj y).2.2 ⟨h1.1,h1.2,h2.1,h2.2⟩;have e:sG (aj x) (aj y)=(aj (x+y),0):=by rw[tF hx hy,h];rfl
 exact this.trans (by show some (PRes.same (bB (sG (aj x) (aj y))))=_;rw[e];rfl)
theorem xV {x y:Rat} (hx:cm x) (hy:cm y) (h:ia x (-y)=true):mI [.agg (ae (aj x)),.agg (ae (aj y))]=some (.same (.tup [.agg (ae (aj (x-y))),.int .i64 0])):=by
 have h1:=eC hx;have h2:=eC hy;have:=Fo (aj x).1.1 (aj x).1.2 (aj x).2.1 (aj x).2.2 (aj y).1.1 (aj y).1.2 (aj y).2.1 (aj y).2.2 ⟨h1.1,h1.2,h2.1,h2.2⟩;have e:nt (aj x) (aj y)=(aj (x-y),0):=by rw[qL hx hy,h];rfl
 exact this.trans (by show some (PRes.same (bB (nt (aj x) (aj y))))=_;rw[e];rfl)
theorem Eu {x y:Rat} (hx:cm x) (hy:cm y) (h:pQ x y=true):lS [.agg (ae (aj x)),.agg (ae (aj y))]=some (.same (.tup [.agg (ae (aj (x*y))),.int .i64 0])):=by
 have h1:=eC hx;have h2:=eC hy;have:=FU (aj x).1.1 (aj x).1.2 (aj x).2.1 (aj x).2.2 (aj y).1.1 (aj y).1.2 (aj y).2.1 (aj y).2.2 ⟨h1.1,h1.2,h2.1,h2.2⟩;have e:mg (aj x) (aj y)=(aj (x*y),0):=by rw[tz hx hy,h];rfl
 exact this.trans (by show some (PRes.same (bB (mg (aj x) (aj y))))=_;rw[e];rfl)
theorem MO {x y:Rat} (hx:cm x) (hy:cm y) (h0:y≠0) (h:nH x y=true):px [.agg (ae (aj x)),.agg (ae (aj y))]=some (.same (.tup [.agg (ae (aj (x / y))),.int .i64 0])):=by
 have h1:=eC hx;have h2:=eC hy;have:=Gl (aj x).1.1 (aj x).1.2 (aj x).2.1 (aj x).2.2 (aj y).1.1 (aj y).1.2 (aj y).2.1 (aj y).2.2 ⟨h1.1,h1.2,h2.1,h2.2⟩;have e:iY (aj x) (aj y)=(aj (x / y),0):=by rw[qT hx hy h0,h];rfl
 exact this.trans (by show some (PRes.same (bB (iY (aj x) (aj y))))=_;rw[e];rfl)
theorem eT {x y:Rat} (hx:cm x) (hy:cm y):cV [.agg (ae (aj x)),.agg (ae (aj y))]=some (.same (.int .i64 (jp x y))):=by
 have h1:=eC hx;have h2:=eC hy;have:=oV (aj x).1.1 (aj x).1.2 (aj x).2.1 (aj x).2.2 (aj y).1.1 (aj y).1.2 (aj y).2.1 (aj y).2.2 ⟨h1.1,h1.2,h2.1,h2.2⟩;exact this.trans (by show some (PRes.same (.int .i64 (lc (aj x) (aj y))))=_;rw[qb hx hy])
theorem Bi {x y:Rat}:decide (jp x y>0)=decide (y<x):=by
 have h1:jp x y>0↔y<x:=by
  unfold jp;rw[gt_iff_lt,Int.sign_pos_iff,aeO];omega
 rw[decide_eq_decide];exact h1
theorem lU {x y:Rat}:decide (jp x y<0)=decide (x<y):=by
 have h1:jp x y<0↔x<y:=by
  unfold jp;rw[aeP,aeO];omega
 rw[decide_eq_decide];exact h1
theorem sd {x y:Rat}:decide (jp x y≥0)=decide (y≤x):=by
 have h1:jp x y≥0↔y≤x:=by
  unfold jp;rw[ge_iff_le,Int.sign_nonneg_iff,Rat.le_iff];omega
 rw[decide_eq_decide];exact h1
end Go.Mini
namespace Go.Mini
open Go
variable {P:Program} {A:Nat→Prop} {w w':World} {B B':Lay} {mem mem':Mem}
def mkN (N:List MV→Mem→Option Data) (args:List MV) (mem:Mem):Option Eff:=(N args mem).map fun d => .rel (isR (.dat d) mem)
@[go_sem] theorem SW (N:List MV→Mem→Option Data) (args:List MV) (mem:Mem):mkN N args mem=(N args mem).map fun d => .rel (isR (.dat d) mem):=_root_.id rfl
theorem pj {T : Tab} {kb : Nat} {own : List Nat} (hT : j8 P T) (hm : P.follows .mixedOrders = true) {f : FuncId} {fn : Func} {mf : MFunc} (hf : P.funcs[f]? = some fn) (hname : (fn.name == "runtime.NumGoroutine") = false) (htr : jV P kb own fn = some { mf with body := erase mf.body })
  (J:Key→Prop) {N:List MV→Mem→Option Data}
  (h:∀ args mem d,N args mem=some d→args.length≤mf.n∧(∀ j,J j→mem j=none) ∧
   wp T mf.body (qU mf.res fun m mem'=>toD 6 emp m=some d∧∀ j,¬ J j→mem' j=mem j) ⟨az args,mem⟩):iL P f (mkN N):=by
 refine⟨yd hf hname htr,fun args mem eff hE A w B vs hmr hv=>?_⟩
 unfold mkN at hE;rw[Option.map_eq_some_iff] at hE;obtain⟨d,hU,rfl⟩:=hE;obtain⟨hlen,hJ,hwp⟩:=h args mem d hU;refine Calls.mono (kz (Post:=fun m mem'=>toD 6 emp m=some d∧∀ j,¬ J j→mem' j=mem j) hT hm hf htr hlen (fun e st hk=>rp hk) hwp hmr hv) fun e w' he=>?_
 obtain⟨v,m,mem',B',rfl,hs,hv',hd,hmem⟩:=he;exact⟨v,.dat d,mem,my J B',rfl,hs.drop hmr hJ hJ (fun j hj=>(hmem j hj).symm) (fun k g cs hk m hm => .inr ⟨k,g,cs,hk,hm⟩),.dat ((rB 6 m v d hd hv').less fun b hb=>hb.imp kt id),rfl,rfl⟩
open Classical in
noncomputable def NN {α:Type} (M:α→List MV→Mem→Prop) (res:α→Data):List MV→Mem→Option Data:=fun args mem=>if h:∃ a,M a args mem then some (res (Classical.choose h)) else none
theorem I2 {α:Type} {M:α→List MV→Mem→Prop} {res:α→Data} (uniq:∀ a b args mem,M a args mem→M b args mem→res a=res b) {a:α} {args:List MV} {mem:Mem} (h:M a args mem):NN M res args mem=some (res a):=by
 have hx:∃ b,M b args mem:=⟨a,h⟩;unfold NN;rw[dif_pos hx,uniq _ _ _ _ (aeQ hx) h]
theorem B6 {α:Type} {M:α→List MV→Mem→Prop} {res:α→Data} {args:List MV} {mem:Mem} {d:Data} (h:NN M res args mem=some d):∃ a,M a args mem∧d=res a:=by
 unfold NN at h
 split at h
 ·rename_i hx
  exact⟨_,aeQ hx,(Option.some.inj h).symm⟩
 ·cases h
theorem IW {α:Type} {M:α→List MV→Mem→Prop} {R:α→Mem→MV→Mem→Prop} (uniq:∀ a b args mem,M a args mem→M b args mem→R a mem=R b mem) {a:α} {args:List MV} {mem:Mem} (h:M a args mem):QQ M R args mem=some (R a mem):=by
 have hx:∃ b,M b args mem:=⟨a,h⟩;unfold QQ;rw[dif_pos hx,uniq _ _ _ _ (aeQ hx) h]
theorem ve {K:St→Prop} {st:St} {x:Opd} {i k sz kc g off:Nat} {cs:List MV} (h1:ev st.tm x = .ptr kc g off) (h2:st.mem kc=some (g,cs)) (h3:cs[off+i]?=some .nil) (h4:k≠kc)
  (h:K ⟨st.tm,aB (aB st.mem k (aC st.mem k) []) kc g (cs.set (off+i) (.ref k (aC st.mem k) sz 0 0))⟩):dP K st (.adoptC x i k sz):=by
 simp only[dP,h1,h2,if_true,h3];rw[if_pos h4];exact h
theorem tk {K:St→Prop} {st:St} {x:Opd} {i kc gc off k g sz o len:Nat} {cc cs:List MV} {d:Data} (h1:ev st.tm x = .ptr kc gc off) (h2:st.mem kc=some (gc,cc)) (h3:cc[off+i]?=some (.ref k g sz o len)) (h4:st.mem k=some (g,cs)) (h5:lG cs=true) (h6:k≠kc) (h7:toD 1 st.mem (.ref k g sz o len)=some d)
  (h:K ⟨st.tm,aB (kill st.mem k) kc gc (cc.set (off+i) (.dat d))⟩):dP K st (.freezeC x i):=by
 simp only[dP,h1,h2,if_true,h3,h4];rw[if_pos ⟨trivial,h5,h6⟩,h7];exact h
def FrK (n:Nat) (mem m:Mem):Prop:=∀ k,k / 1000≠n→m k=mem k
theorem FrK.refl (n:Nat) (mem:Mem):FrK n mem mem:=fun _ _=>rfl
theorem FrK.upd {n k g:Nat} {cs:List MV} {mem m:Mem} (h:FrK n mem m) (hk:k / 1000=n):FrK n mem (aB m k g cs):=fun j hj=>by
 have:j≠k:=fun e=>hj (by rw[e];exact hk)
 simp only[aB,this,if_false];exact h j hj
theorem FrK.kill {n k:Nat} {mem m:Mem} (h:FrK n mem m) (hk:k / 1000=n):FrK n mem (kill m k):=h.upd hk
theorem FrK.at {n:Nat} {mem m:Mem} (h:FrK n mem m) (k:Nat) (hk:k / 1000≠n):m k=mem k:=h k hk
def NoK (n:Nat) (mem:Mem):Prop:=∀ k,k / 1000=n→mem k=none
theorem NoK.fr {n n':Nat} {mem m:Mem} (h:NoK n mem) (hf:FrK n' mem m) (hn:n≠n'):NoK n m:=fun k hk=>by rw[hf k (by omega)];exact h k hk
end Go.Mini
namespace Go.Mini
open Go
set_option maxRecDepth 10000
set_option maxHeartbeats 4000000
def iC (x:Int):MV:=.dat (.int .i64 x)
def bC (b:Bool):MV:=.dat (.bool b)
theorem BM {α:Type} {f:α→MV} {l:List α} {k:Nat} {y:α} (h:l[k]?=some y):aeR 1 (aeS k (l.map f))=[f y]:=by
 obtain⟨hl,rfl⟩:=List.getElem?_eq_some_iff.1 h;rw[←List.map_drop,List.drop_eq_getElem_cons hl,aeA,List.take_succ_cons,aeT]
structure RoundAt (cash:List Int) (cs:List ClR) (fl:List Int) (P:List Bool) (g gr gp:Nat) (mem:Mem):Prop where
 r:mem 261029=some (g,[.dat (.sl (cash.map aa)),.dat (.sl (cs.map clL)),.ref 261042 gr 1 0 fl.length,.ref 261027 gp 1 0 P.length,.dat (.bool false)])
 f:mem 261042=some (gr,fl.map iC)
 p:mem 261027=some (gp,P.map bC)
theorem RoundAt.fr {cash:List Int} {cs:List ClR} {fl:List Int} {P:List Bool} {g gr gp n:Nat} {mem m:Mem} (h:RoundAt cash cs fl P g gr gp mem) (hf:FrK n mem m) (hn:n≠261):RoundAt cash cs fl P g gr gp m :=
 ⟨(hf.at 261029 (by omega)).trans h.r,(hf.at 261042 (by omega)).trans h.f,(hf.at 261027 (by omega)).trans h.p⟩
theorem IS {a b:List Int} (h:a.map iC=b.map iC):a=b:=ah (fun x y h=>by simpa [iC] using h) _ _ h
theorem Of {a b:List Bool} (h:a.map bC=b.map bC):a=b:=ah (fun x y h=>by simpa [bC] using h) _ _ h
theorem RoundAt.uniq {cash cash':List Int} {cs cs':List ClR} {fl fl':List Int} {P P':List Bool} {g gr gp g' gr' gp':Nat} {mem:Mem} (h:RoundAt cash cs fl P g gr gp mem) (h':RoundAt cash' cs' fl' P' g' gr' gp' mem):cash=cash'∧cs=cs'∧fl=fl'∧P=P'∧g=g'∧gr=gr'∧gp=gp':=by
 have h1:=h.r;rw[h'.r] at h1;simp only[Option.some.injEq,Prod.mk.injEq,List.cons.injEq,MV.dat.injEq,Data.sl.injEq,MV.ref.injEq,true_and,and_true] at h1;obtain⟨e1,e2,e3,⟨e4,-⟩,e6,-⟩:=h1;have h2:=h.f;rw[h'.f] at h2;simp only[Option.some.injEq,Prod.mk.injEq] at h2;have h3:=h.p;rw[h'.p] at h3;simp only[Option.some.injEq,Prod.mk.injEq] at h3;exact⟨(ah ak _ _ e2).symm,(ah f7 _ _ e3).symm,(IS h2.2).symm,(Of h3.2).symm,e1.symm,e4.symm,e6.symm⟩
structure RdA where
 cash:List Int
 cs:List ClR
 fl:List Int
 P:List Bool
 g:Nat
 gr:Nat
 gp:Nat
def RdA.At (a:RdA) (mem:Mem):Prop:=RoundAt a.cash a.cs a.fl a.P a.g a.gr a.gp mem
theorem RdA.uniq {a b:RdA} {mem:Mem} (h:a.At mem) (h':b.At mem):a=b:=by
 obtain⟨a1,a2,a3,a4,a5,a6,a7⟩:=a;obtain⟨b1,b2,b3,b4,b5,b6,b7⟩:=b;have:=RoundAt.uniq h h';dsimp only at this;obtain⟨rfl,rfl,rfl,rfl,rfl,rfl,rfl⟩:=this
 rfl
theorem FrK.same {n k g:Nat} {cs:List MV} {mem m:Mem} (h:FrK n mem m) (hm:mem k=some (g,cs)):FrK n mem (aB m k g cs):=fun j hj=>by
 by_cases e:j=k
 ·subst e
  simp only[aB,if_true];exact hm.symm
 ·simp only[aB,e,if_false]
  exact h j hj
theorem dT {z:Int} (h1:-9000000000000000000≤z) (h2:z≤9000000000000000000):cn z:=by unfold cn;omega
theorem okCs.upto {cs:List ClR} (h:okCs cs) (i r:Int):0≤aP cs i r∧aP cs i r≤2000000000000000000:=by
 have:=h.sum (fun c=>c.1=i∧c.2.2.1<r) cs.length;rw[List.take_length] at this;exact this
theorem Jf {p q:Int} (hp:cn p) (hq:cn q) (h0:q≠0):fR (aR p) (aR q)=(aj ((p:Rat) / (q:Rat)),0):=by
 rw[iT (jy hp) (jy hq) h0,aed]
def SI (cs:List ClR) (i r:Int):Int:=aP cs i (r+1)-aP cs i r
end Go.Mini
namespace Go.Mini
open Go Classical
set_option maxRecDepth 10000
def fOf (fl:List Int) (i:Nat):Nat:=(fl.getD i 10).toNat
def pOf (P:List Bool) (i:Nat):Prop:=P.getD i false=true
theorem lE {z:Int} {b:Nat} (h:z.natAbs≤2^b):szR b (z:Rat):=⟨by rw[aeU];exact h,by rw[aeV];exact aeL⟩
theorem S3 {cash:List Int} {cs:List ClR} (hs:SmallD cash cs) {c:ClR} (hc:c∈cs):szR 29 ((ab cash cs).w (bz c)):=by
 have hr:=(rightD_iff.1 hs.right).2.2.2 c hc;have ham:=hs.am c hc
 by_cases h0:c.2.2.2=0
 ·have:(bz c).am=0:=by show ((c.2.2.2:Int):Rat)=0;rw[h0];rfl
  rw[Day.w_zero this];exact⟨Nat.zero_le _,aeL⟩
 ·have hS:=mP hs.right (bz c).fr (bz c).rk
  have hle:=(mw hs.right).am_le (c:=bz c) (aeM hc);rw[←hS] at hle
  have h1:c.2.2.2≤((SN cs (bz c).fr (bz c).rk:Nat):Int):=by
   have:((c.2.2.2:Int):Rat)≤(((SN cs (bz c).fr (bz c).rk:Nat):Int):Rat):=by rw[ad0];exact hle
   exact_mod_cast this
  have h2:=hs.SN_le (bz c).fr (bz c).rk
  obtain⟨f1,f2⟩:=fI (q:=(ab cash cs).w (bz c)) (v:=c.2.2.2) (d:=((SN cs (bz c).fr (bz c).rk:Nat):Int)) (by omega) (by
   rw[ad0,hS];refine Day.w_S ?_;rw[←hS];have:0<SN cs (bz c).fr (bz c).rk:=by omega
   exact_mod_cast this)
  rw[ad2] at f2;exact⟨by omega,by omega⟩
section
variable {cash:List Int} {cs:List ClR} (hs:SmallD cash cs) (f:Nat→Nat) (P:Nat→Prop) (i:Nat)
include hs
end
end Go.Mini
namespace Go.Mini
open Go
set_option maxRecDepth 10000
set_option maxHeartbeats 4000000
theorem Bj:cn 0:=by unfold cn;omega
theorem MY:cn 1:=by unfold cn;omega
theorem AT {N k:Nat} (x:Nat→Rat) (y:Rat):(bJ N x).set k (aj y)=bJ N fun j=>if j=k then y else x j:=by
 refine pL (by rw[aeW,cI]) fun j hj=>?_
 rw[aeX]
 by_cases h:k=j
 ·rw[if_pos h,if_pos (by rw[cI];omega),if_pos h.symm]
 ·rw[if_neg h,dS _ hj,if_neg (Ne.symm h)]
theorem DT {α:Type} {l:List α} {k:Nat} {d x:α} (h:l[k]?=some x):l.getD k d=x:=by rw[adS,h];rfl
theorem FX (r:cG):((fz r).map MV.dat).all MV.one=true:=rfl

def bL (n:Nat) (p:Nat→Bool):List Bool:=(adP n).map p
theorem xC (n:Nat) (p:Nat→Bool):(bL n p).length=n:=by simp [bL]
theorem yW {n i:Nat} (p:Nat→Bool) (h:i<n):(bL n p)[i]?=some (p i):=by
 unfold bL;rw[adQ,adR h];rfl
theorem HI {n:Nat} {p q:Nat→Bool} (h:∀ i,i<n→p i=q i):bL n p=bL n q:=aew fun i hi=>h i (List.mem_range.1 hi)
theorem pOf_bL {n i:Nat} {p:Nat→Bool}:pOf (bL n p) i↔i<n∧p i=true:=by
 unfold pOf;rcases aeY i n with h | h
 ·rw[DT (yW p h)];exact⟨fun e=>⟨h,e⟩,fun e=>e.2⟩
 ·rw[adS,aeZ (by rw[xC];exact h)]
  simp;omega
noncomputable def sD (d:Day) (f:Nat→Nat) (h:Nat→Rat) (i:Nat):Bool:=decide (f i<10)&&decide (d.U i (f i)<h i)
noncomputable def iM (d:Day) (f:Nat→Nat) (h:Nat→Rat) (p:Nat→Bool) (i j:Nat):Bool:=p j||(decide (j<i)&&sD d f h j)
noncomputable def oW (d:Day) (f:Nat→Nat) (h:Nat→Rat) (p:Nat→Bool) (i:Nat):Bool:=(adP i).any fun j => !p j&&sD d f h j
theorem Ci (d:Day) (f:Nat→Nat) (h:Nat→Rat) (p:Nat→Bool) (i:Nat):oW d f h p (i+1)=(oW d f h p i||(!p i&&sD d f h i)):=by
 unfold oW;rw[aen,List.any_append];simp
theorem Ak (d:Day) (f:Nat→Nat) (h:Nat→Rat) (p:Nat→Bool) (i:Nat):iM d f h p i i=p i:=by
 unfold iM;rw[decide_eq_false (Nat.lt_irrefl i),aej,Bool.or_false]
theorem sZ (d:Day) (f:Nat→Nat) (h:Nat→Rat) (p:Nat→Bool) (i j:Nat):iM d f h p (i+1) j=if j=i then (p i||sD d f h i) else iM d f h p i j:=by
 unfold iM
 by_cases hj:j=i
 ·subst hj
  rw[if_pos rfl,decide_eq_true (Nat.lt_succ_self j),adU]
 ·rw[if_neg hj]
  congr 2
  rw[decide_eq_decide];omega
theorem Gv {d:Day} {f:Nat→Nat} {h:Nat→Rat} {p:Nat→Bool}:pOf (bL d.n (iM d f h p d.n))=lf d f (pOf (bL d.n p)) h:=by
 funext i
 apply propext;rw[pOf_bL];unfold lf iM sD;rw[pOf_bL]
 constructor
 ·rintro⟨h1,h2⟩
  rw[ae0] at h2;rcases h2 with h2 | h2
  ·exact .inl ⟨h1,h2⟩
  ·simp only[adW,decide_eq_true_eq] at h2
   exact .inr ⟨h1,h2.2⟩
 ·rintro (⟨h1,h2⟩ | ⟨h1,h2⟩)
  ·exact⟨h1,by rw[h2];rfl⟩
  ·refine⟨h1,?_⟩
   rw[ae0]
   right
   simp only[adW,decide_eq_true_eq];exact⟨h1,h2⟩
theorem GL {n:Nat}:pOf (bL n fun _=>false)=fun _=>False:=by
 funext i
 apply propext;rw[pOf_bL];simp
theorem L6 {d:Day} {f:Nat→Nat} {h:Nat→Rat} {p:Nat→Bool} {n:Nat} (hm:oW d f h p n=true):kV n (fun i=>if iM d f h p n i then 0 else 1)<kV n fun i=>if p i then 0 else 1:=by
 unfold oW at hm;rw[List.any_eq_true] at hm;obtain⟨j,hj,h2⟩:=hm;have hj:=List.mem_range.1 hj;simp only[adW,adX] at h2;refine yI (j:=j) (fun i hi=>?_) hj ?_
 ·unfold iM
  cases p i
  ·try dsimp only
   split<;>simp
  ·simp
 ·unfold iM
  rw[h2.1,h2.2,decide_eq_true hj]
  decide
theorem LB {d:Day} {f:Nat→Nat} {h:Nat→Rat} {p:Nat→Bool} {n:Nat} (hm:oW d f h p n=false) {i:Nat} (hi:i<n) (h1:f i<10) (h2:d.U i (f i)<h i):p i=true:=by
 unfold oW at hm;rw[adT] at hm;have:=hm i (List.mem_range.2 hi);unfold sD at this;rw[decide_eq_true h1,decide_eq_true h2] at this
 simpa using this
noncomputable def cC (cs:List ClR) (x:Rat) (c:ClR):Rat:=if ((aP cs c.1 (c.2.2.1+1):Int):Rat)≤x then (c.2.2.2:Rat) else (c.2.2.2:Rat) / ((SI cs c.1 c.2.2.1:Int):Rat)*pos (x-((aP cs c.1 c.2.2.1:Int):Rat))
theorem Nf {cash:List Int} {cs:List ClR} (h:dh cash cs=true) (x:Nat→Rat) {c:ClR} (hc:c∈cs):(ab cash cs).pay x (bz c)=cC cs (x c.1.toNat) c:=by
 have hr:=(rightD_iff.1 h).2.2.2 c hc;obtain⟨c1,c2,c3,c4⟩:=c;dsimp only at hr;obtain⟨c1,rfl⟩:∃ k:Nat,c1=(k:Int):=⟨c1.toNat,by omega⟩
 obtain⟨c3,rfl⟩:∃ k:Nat,c3=(k:Int):=⟨c3.toNat,by omega⟩
 unfold Day.pay cC Day.w;have h1:=d7 h c1 (c3+1);have h2:=d7 h c1 c3;have h3:=yA h c1 c3;have e1:(bz ((c1:Int),c2,(c3:Int),c4)).fr=c1:=ae1 c1;have e2:(bz ((c1:Int),c2,(c3:Int),c4)).rk=c3:=ae1 c3;have e3:(bz ((c1:Int),c2,(c3:Int),c4)).am=(c4:Rat):=rfl;rw[e1,e2,e3,←h1,←h2,←h3]
 rfl
structure OwnOK (l:List ClR):Prop where
 len:l.length≤12
 c:∀ c∈l,0≤c.1∧c.1<60 ∧ -1≤c.2.1∧c.2.1<60∧0≤c.2.2.1∧c.2.2.1<10∧0≤c.2.2.2∧c.2.2.2≤33554432
 one:∀ c∈l,∀ c'∈l,c.1=c'.1
theorem OwnOK.cs {l:List ClR} (h:OwnOK l):okCs l:=⟨by have:=h.len;omega,fun c hc=>by have:=h.c c hc;omega⟩
def ko {α:Type} (enc:α→List MV) (l:List α):List MV:=(l.map enc).flatten
theorem Jv {α:Type} {enc:α→List MV} {sz:Nat} (h:∀ a,(enc a).length=sz) (l:List α):(ko enc l).length=l.length*sz:=by
 unfold ko
 induction l with
 | nil=>simp
 | cons a l ih=>rw[aeA,ae2,List.length_append,ih,h,aeE,ae3];omega
theorem zc {α:Type} {enc:α→List MV} {sz:Nat} (h:∀ a,(enc a).length=sz):∀ (l:List α) (i:Nat),i<l.length→∀ b,aeR (i*sz) (ko enc l)++enc b++aeS (i*sz+sz) (ko enc l)=ko enc (l.set i b)
 | [],i,hi,b=>absurd hi (by simp)
 | a::l,0,_,b=>by
  have ha:=h a;unfold ko;simp only[Nat.zero_mul,Nat.zero_add,aeT,aet,aeA,ae2,List.set_cons_zero];rw[←ha,List.drop_left]
 | a::l,i+1,hi,b=>by
  have ha:=h a;have ih:=zc h l i (by simpa using hi) b;unfold ko at ih ⊢;simp only[aeA,ae2,List.set_cons_succ];rw[←ih,ae3,List.take_append,ae4,ha];rw[aek (by omega),ae5 (by omega),aet];rw[show i*sz+sz-sz=i*sz by omega,show i*sz+sz+sz-sz=i*sz+sz by omega]
  simp only[List.append_assoc]
def fL {α:Type} (n:Nat) (q:Nat→α):List α:=(adP n).map q
theorem bT {α:Type} (n:Nat) (q:Nat→α):(fL n q).length=n:=by simp [fL]
theorem cQ {α:Type} {n i:Nat} (q:Nat→α) (h:i<n):(fL n q)[i]?=some (q i):=by
 unfold fL;rw[adQ,adR h];rfl
theorem D3 {α:Type} {n:Nat} {l:List α} {q:Nat→α} (hl:l.length=n) (h:∀ i,i<n→l[i]?=some (q i)):l=fL n q:=by
 apply ae6;intro i;rcases aeY i n with hi | hi
 ·rw[h i hi,cQ q hi]
 ·rw[aeZ (by omega),aeZ (by rw[bT];exact hi)]
theorem nk {α:Type} {n i:Nat} (q:Nat→α) (b:α):(fL n q).set i b=fL n fun j=>if j=i then b else q j:=by
 refine D3 (by rw[aeW,bT]) fun j hj=>?_
 rw[aeX]
 by_cases h:i=j
 ·rw[if_pos h,if_pos (by rw[bT];omega),if_pos h.symm]
 ·rw[if_neg h,cQ _ hj,if_neg (Ne.symm h)]
theorem bY {α:Type} {n:Nat} {p q:Nat→α} (h:∀ i,i<n→p i=q i):fL n p=fL n q:=aew fun i hi=>h i (List.mem_range.1 hi)
def oN:Option aM→List MV
 | none=>[.dat (.int .i64 0),.nil,.dat (.int .i64 0),.nil]
 | some f=>(ae f).map .dat
theorem Bm:∀ a,(oN a).length=4
 | none=>rfl
 | some _=>rfl
theorem vW (n:Nat):(List.replicate n [MV.dat (.int .i64 0),MV.nil,MV.dat (.int .i64 0),MV.nil]).flatten=ko oN (fL n fun _=>none):=by
 unfold ko fL;rw[List.map_map]
 congr 1
 apply ae6;intro i;rw[adQ];rcases aeY i n with hi | hi
 ·rw[adR hi,List.getElem?_replicate,if_pos hi];rfl
 ·rw[aeZ (by simpa using hi),aeZ (by simpa using hi)];rfl
theorem An (l:List aM):ko oN (l.map some)=ay ae l:=by
 unfold ko ay
 induction l with
 | nil=>rfl
 | cons f l ih =>
  simp only[aeA,ae2,aex];rw[ih];rfl
theorem DA {n i:Nat} {q:Nat→Option aM} (h:i<n):(i*4+4≤(ko oN (fL n q)).length)=True:=eq_true (by rw[Jv Bm,bT];omega)
theorem DP {n i:Nat} {q:Nat→Option aM} (h:i<n) (a:Int) (b:List Int) (c:Int) (d:List Int) :
  aeR (i*4) (ko oN (fL n q))++[MV.dat (.int .i64 a),.dat (.sl (b.map aa)),.dat (.int .i64 c),.dat (.sl (d.map aa))]++aeS (i*4+4) (ko oN (fL n q))=ko oN (fL n fun j=>if j=i then some ((a,b),(c,d)) else q j):=by
 rw[←nk];exact zc Bm (fL n q) i (by rw[bT];exact h) (some ((a,b),(c,d)))
structure qi (l:List ClR) (x:Rat):Prop where
 own:OwnOK l
 pos:0≤x
 sz:szR 460 x
theorem OwnOK.less {l:List ClR} (h:OwnOK l) {c:ClR} (hc:c∈l) (r:Int):(bt l fun c'=>if c'.2.2.1<r then c'.2.2.2 else 0)=aP l c.1 r:=by
 unfold aP;refine jl fun c' hc'=>?_
 have:=h.one c' hc' c hc
 by_cases h1:c'.2.2.1<r
 ·rw[if_pos h1,if_pos ⟨this,h1⟩]
 ·rw[if_neg h1,if_neg fun h=>h1 h.2]
theorem uz (l:List ClR) (F G:ClR→Int):bt l (fun c=>F c+G c)=bt l F+bt l G:=by
 induction l with
 | nil=>simp [bt]
 | cons c l ih=>simp only[bt,ih];omega
theorem OwnOK.same {l:List ClR} (h:OwnOK l) {c:ClR} (hc:c∈l) (r:Int):(bt l fun c'=>if c'.2.2.1=r then c'.2.2.2 else 0)=SI l c.1 r:=by
 have h1:=h.less hc r;have h2:=h.less hc (r+1)
 have h3:(bt l fun c'=>if c'.2.2.1<r+1 then c'.2.2.2 else 0)=(bt l fun c'=>if c'.2.2.1<r then c'.2.2.2 else 0)+bt l fun c'=>if c'.2.2.1=r then c'.2.2.2 else 0:=by
  rw[←uz];refine jl fun c _=>?_
  by_cases k1:c.2.2.1<r
  ·rw[if_pos (by omega),if_pos k1,if_neg (by omega)];omega
  ·rw[if_neg k1]
   by_cases k2:c.2.2.1=r
   ·rw[if_pos (by omega),if_pos k2];omega
   ·rw[if_neg (by omega),if_neg k2];omega
 unfold SI;omega
theorem OwnOK.bound {l:List ClR} (h:OwnOK l) (p:ClR→Prop) [DecidablePred p]:0≤bt l (fun c=>if p c then c.2.2.2 else 0)∧bt l (fun c=>if p c then c.2.2.2 else 0)≤536870912:=by
 have:=sQ (cs:=l) (F:=fun c=>if p c then c.2.2.2 else 0) (B:=33554432) (by omega) fun c hc=>by
  have:=h.c c hc
  try dsimp only
  split<;>omega
 have:=h.len;omega
theorem IO (cs:List ClR) (i r:Int):SI cs i r=bt cs fun c=>if c.1=i∧c.2.2.1=r then c.2.2.2 else 0:=by
 have h3:aP cs i (r+1)=aP cs i r+bt cs fun c=>if c.1=i∧c.2.2.1=r then c.2.2.2 else 0:=by
  unfold aP;rw[←uz];refine jl fun c _=>?_
  split<;>split<;>split<;>omega
 unfold SI;omega
theorem Lz {cs:List ClR} {F:ClR→Int} (h:∀ c∈cs,0≤F c) {c:ClR} (hc:c∈cs):F c≤bt cs F:=by
 induction cs with
 | nil=>cases hc
 | cons a l ih =>
  simp only[bt];have h0:=h a aez
  have h1:0≤bt l F:=by
   have:∀ l:List ClR,(∀ c∈l,0≤F c)→0≤bt l F:=by
    intro l
    induction l with
    | nil=>intro _;exact Int.le_refl _
    | cons b l ih2=>intro hh;simp only[bt];have:=hh b aez;have:=ih2 fun c hc=>hh c (aey _ hc);omega
   exact this l fun c hc=>h c (aey _ hc)
  rcases List.mem_cons.1 hc with rfl | hc
  ·omega
  ·have:=ih (fun c hc=>h c (aey _ hc)) hc
   omega
theorem Aj {cs:List ClR} (h:∀ c∈cs,0≤c.2.2.2) {c:ClR} (hc:c∈cs):c.2.2.2≤SI cs c.1 c.2.2.1:=by
 rw[IO];have:=Lz (F:=fun c'=>if c'.1=c.1∧c'.2.2.1=c.2.2.1 then c'.2.2.2 else 0) (fun c' hc'=>by have:=h c' hc';split<;>omega) hc
 rwa [if_pos ⟨rfl,rfl⟩] at this
section
variable {cs:List ClR} {x:Rat} {c:ClR}
theorem pF (cs:List ClR) (i r:Int):((aP cs i (r+1):Int):Rat)=((aP cs i r:Int):Rat)+((SI cs i r:Int):Rat):=by
 rw[←ad6]
 congr 1
 unfold SI;omega
theorem vG (hn:∀ c∈cs,0≤c.2.2.2) (hc:c∈cs) (h:x-((aP cs c.1 c.2.2.1:Int):Rat)≤0):cC cs x c=0:=by
 unfold cC;have h1:=Aj hn hc;have h2:=hn c hc;rw[pF]
 split
 ·rename_i h3
  have h4:((SI cs c.1 c.2.2.1:Int):Rat)≤((0:Int):Rat):=by
   have:((0:Int):Rat)=0:=rfl;rw[this];generalize ((aP cs c.1 c.2.2.1:Int):Rat)=u at *;grind
  have h5:SI cs c.1 c.2.2.1≤0:=by exact_mod_cast h4
  rw[show c.2.2.2=0 by omega];rfl
 ·rw[im h,aeN]
theorem IJ (h:((SI cs c.1 c.2.2.1:Int):Rat)≤x-((aP cs c.1 c.2.2.1:Int):Rat)):cC cs x c=(c.2.2.2:Rat):=by
 unfold cC;rw[pF,if_pos];generalize ((aP cs c.1 c.2.2.1:Int):Rat)=u at *;generalize ((SI cs c.1 c.2.2.1:Int):Rat)=s at *;grind
theorem GZ (h0:0≤x-((aP cs c.1 c.2.2.1:Int):Rat)) (h:x-((aP cs c.1 c.2.2.1:Int):Rat)<((SI cs c.1 c.2.2.1:Int):Rat)):cC cs x c=(c.2.2.2:Rat)*(x-((aP cs c.1 c.2.2.1:Int):Rat)) / ((SI cs c.1 c.2.2.1:Int):Rat):=by
 unfold cC;rw[pF,if_neg,lz h0]
 ·generalize ((aP cs c.1 c.2.2.1:Int):Rat)=u at *
  generalize ((SI cs c.1 c.2.2.1:Int):Rat)=s at *;grind
 ·generalize ((aP cs c.1 c.2.2.1:Int):Rat)=u at *
  generalize ((SI cs c.1 c.2.2.1:Int):Rat)=s at *;grind
end
theorem fM {n:Int} (h:cn n):cm (n:Rat):=⟨by rw[aeU];exact jy h,by rw[aeV];decide +kernel⟩
theorem uj {x:Rat}:decide (x.num.sign<0)=decide (x<0):=by
 have:x.num.sign<0↔x<0:=by
  rw[aeP,aeO,Rat.zero_num,Rat.zero_den];omega
 rw[decide_eq_decide];exact this
def zC:ClR:=(0,0,0,0)
noncomputable def pw (l:List ClR) (x:Rat) (j:Nat):aM:=aj (cC l x (l.getD j zC))
theorem Gm (l:List ClR) (x:Rat):(fL l.length fun j=>some (pw l x j))=(l.map fun c=>aj (cC l x c)).map some:=by
 symm
 refine D3 (by simp) fun i hi=>?_
 rw[adQ,adQ,aei hi];unfold pw;rw[DT (aei hi)];rfl
def dm (cs:List ClR) (who:Int):List ClR:=cs.filter fun c=>c.1==who
theorem JS (cs:List ClR) (who:Int) (p:ClR→Prop) [DecidablePred p]:bt (dm cs who) (fun c=>if c.1=who∧p c then c.2.2.2 else 0)=bt cs fun c=>if c.1=who∧p c then c.2.2.2 else 0:=by
 unfold dm
 induction cs with
 | nil=>rfl
 | cons c l ih =>
  by_cases h:c.1=who
  ·rw[aeB (by simpa using h)]
   simp only[bt,ih]
  ·rw[aeC (by simpa using h),ih]
   simp only[bt];rw[if_neg fun hh=>h hh.1];omega
theorem BD (cs:List ClR) (who r:Int):aP (dm cs who) who r=aP cs who r:=JS cs who fun c=>c.2.2.1<r
theorem own_mem {cs:List ClR} {who:Int} {c:ClR}:c∈dm cs who↔c∈cs∧c.1=who:=by
 unfold dm;rw[aem,beq_iff_eq]
theorem MK {cs:List ClR} {who:Int} {x:Rat} {c:ClR} (h:c.1=who):cC (dm cs who) x c=cC cs x c:=by
 unfold cC SI;rw[h,BD,BD]
theorem Fg (cs:List ClR) (who:Int) (x:Rat):((dm cs who).map fun c=>aj (cC (dm cs who) x c))=(dm cs who).map fun c=>aj (cC cs x c) :=
 aew fun c hc=>by rw[MK (own_mem.1 hc).2]
theorem SmallD.own {cash:List Int} {cs:List ClR} (h:SmallD cash cs) (who:Int):OwnOK (dm cs who):=by
 have hr:=rightD_iff.1 h.right;have hn:=h.n5;refine⟨?_,fun c hc=>?_,fun c hc c' hc'=>?_⟩
 ·have:=ad9 (fun c:ClR=>c.1==who) cs
  have:=h.c12;unfold dm;omega
 ·have h1:=hr.2.2.2 c (own_mem.1 hc).1
  have h2:=h.am c (own_mem.1 hc).1;omega
 ·rw[(own_mem.1 hc).2,(own_mem.1 hc').2]
theorem wy (n:Nat):((gJ n).map MV.dat).all MV.one=true:=rfl
noncomputable def gU (d:Day) (f:Nat→Nat) (h:Nat→Rat) (i:Nat):List Nat:=(adP i).filter fun j=>decide (h j<d.U j (f j))
theorem xv (d:Day) (f:Nat→Nat) (h:Nat→Rat) (i:Nat):gU d f h (i+1)=if h i<d.U i (f i) then gU d f h i++[i] else gU d f h i:=by
 unfold gU;rw[aen,aeu]
 by_cases hh:h i<d.U i (f i)
 ·rw[if_pos hh,aeB (by simpa using hh),ae7]
 ·rw[if_neg hh,aeC (by simpa using hh),ae7,aer]
theorem zG (d:Day) (f:Nat→Nat) (h:Nat→Rat) (i:Nat):(gU d f h i).length≤i:=by
 have:=ad9 (fun j=>decide (h j<d.U j (f j))) (adP i);rw[aea] at this;exact this
end Go.Mini
namespace Go.Mini
open Classical
noncomputable def shP (d:Day) (l:List ClR) (i:Nat):Rat:=sumC (l.map bz) fun c=>if c.to=(i:Int) then d.w c else 0
theorem Mv (d:Day) (i:Nat):shP d [] i=0:=rfl
theorem El (d:Day) (l:List ClR) (c:ClR) (i:Nat):shP d (l++[c]) i=shP d l i+if c.2.1=(i:Int) then d.w (bz c) else 0:=by
 unfold shP;rw[aex,kZ]
 congr 1
 show (if (bz c).to=(i:Int) then d.w (bz c) else 0)+0=_;rw[Rat.add_zero]
 rfl
theorem Ok {cash:List Int} {cs:List ClR} (h:dh cash cs=true) (f:Nat→Nat) (k i:Nat):shP (ab cash cs) (aX cs k (f k)) i=(ab cash cs).W f k i:=by
 have hr:=(rightD_iff.1 h).2.2.2;unfold shP Day.W;rw[uW fun c hc=>⟨(hr c hc).1,(hr c hc).2.2.2.2.1⟩]
 refine d8 fun c _=>?_
 by_cases h1:c.fr=k∧c.rk=f k
 ·rw[if_pos h1]
  by_cases h2:c.to=(i:Int)
  ·rw[if_pos h2,if_pos ⟨h2,h1⟩]
  ·rw[if_neg h2,if_neg fun h=>h2 h.1]
 ·rw[if_neg h1,if_neg fun h=>h1 h.2]
section
variable {cash:List Int} {cs:List ClR} (hs:SmallD cash cs) {k r:Nat} (hS:0<(ab cash cs).S k r)
include hs hS
theorem yU {c:ClR} (hc:c∈aX cs k r):DenBy (SN cs k r) ((ab cash cs).w (bz c))∧0≤(ab cash cs).w (bz c)∧(ab cash cs).w (bz c)=(c.2.2.2:Rat) / ((SI cs k r:Int):Rat):=by
 obtain⟨h1,h2,h3⟩:=cell_mem.1 hc;have e1:(bz c).fr=k:=by show c.1.toNat=k;omega
 have e2:(bz c).rk=r:=by show c.2.2.1.toNat=r;omega
 have hm:bz c∈(ab cash cs).cl:=aeM h1;refine⟨⟨c.2.2.2,?_⟩,hs.ok.w_nonneg hm,?_⟩
 ·rw[mP hs.right,←e1,←e2]
  exact Day.w_S (by rw[e1,e2];exact hS)
 ·unfold Day.w SI
  rw[e1,e2];have:=yA hs.right k r;rw[←this]
  rfl
theorem NO {l:List ClR} (hl:∃ l',aX cs k r=l++l') (i:Nat):szR 29 (shP (ab cash cs) l i):=by
 obtain⟨l',hl⟩:=hl;have hmem:∀ c∈l,c∈aX cs k r:=fun c hc=>by rw[hl];simp [hc]
 have hmem':∀ c∈l',c∈aX cs k r:=fun c hc=>by rw[hl];simp [hc]
 have hd:DenBy (SN cs k r) (shP (ab cash cs) l i):=by
  unfold shP;refine DenBy.sumC fun x hx=>?_
  obtain⟨c,hc,rfl⟩:=List.mem_map.1 hx
  split
  ·exact (yU hs hS (hmem c hc)).1
  ·exact DenBy.zero _
 have h0:∀ m:List ClR,(∀ c∈m,c∈aX cs k r)→0≤shP (ab cash cs) m i:=fun m hm=>dZ fun x hx=>by
  obtain⟨c,hc,rfl⟩:=List.mem_map.1 hx
  try dsimp only
  split
  ·exact (yU hs hS (hm c hc)).2.1
  ·exact ad5
 have h1:shP (ab cash cs) l i≤1:=by
  have e:shP (ab cash cs) (aX cs k r) i=shP (ab cash cs) l i+shP (ab cash cs) l' i:=by
   rw[hl];unfold shP;rw[aex,kZ]
  have e2:shP (ab cash cs) (aX cs k r) i≤sumC ((aX cs k r).map bz) (ab cash cs).w:=nj fun x hx=>by
   obtain⟨c,hc,rfl⟩:=List.mem_map.1 hx;have:=(yU hs hS hc).2.1
   split
   ·exact ad5
   ·exact this
  have hr:=(rightD_iff.1 hs.right).2.2.2;rw[uW fun c hc=>⟨(hr c hc).1,(hr c hc).2.2.2.2.1⟩] at e2
  have e3:sumC (cs.map bz) (fun c=>if c.fr=k∧c.rk=r then (ab cash cs).w c else 0)=1:=by
   have hk:k<(ab cash cs).n:=by
    obtain⟨c,hc,hp⟩:=t9 hS
    by_cases hcc:c.fr=k∧c.rk=r
    ·rw[←hcc.1];exact hs.ok.fr c hc
    ·rw[if_neg hcc] at hp;grind
   have:=hs.ok.sum_fr (fun j=>j=k) (fun _=>r) (fun j hj=>by subst hj;exact hS) fun _=>1
   rw[i5 hk (fun j _ hj=>by rw[if_neg hj]),if_pos rfl] at this;refine (d8 fun c _=>?_).trans this
   by_cases hc:c.fr=k∧c.rk=r
   ·rw[if_pos hc,if_pos hc,aeK]
   ·rw[if_neg hc,if_neg hc]
  have:=h0 l' hmem';grind
 have hN:0<SN cs k r:=by
  rw[←mP hs.right] at hS
  exact_mod_cast hS
 exact (hd.sz hN (hs.SN_le k r) (h0 l hmem) (e:=0) (by rw[show ((2^0:Nat):Rat)=1 from rfl];exact h1)).mono (by omega)
end
end Go.Mini
namespace Go.Mini
open Go
set_option maxRecDepth 10000
def clM (l:List ClR):MV:=if l=[] then .nil else .dat (.sl (l.map clL))
theorem Mm {a b:List ClR} (h:clM a=clM b):a=b:=by
 unfold clM at h
 by_cases ha:a=[]<;>by_cases hb:b=[]
 ·rw[ha,hb]
 ·rw[if_pos ha,if_neg hb] at h;cases h
 ·rw[if_neg ha,if_pos hb] at h;cases h
 ·rw[if_neg ha,if_neg hb] at h
  exact ah f7 _ _ (Data.sl.inj (MV.dat.inj h))
theorem Ej (l:List ClR):oL (clM l)=some l.length:=by
 unfold clM
 split
 ·rename_i h;rw[h];rfl
 ·simp [oL]
theorem EP {l:List ClR} {n:Nat} {c:ClR} (h:l[n]?=some c):xG 4 n (clM l)=some (.dat (.ptr (clL c))):=by
 unfold clM
 split
 ·rename_i hl;rw[hl] at h;cases h
 ·simp only[xG,adQ,h,Option.map_some]
  rw[if_pos (jz c)]
structure DebR where
 cash:Int
 cl:List (List ClR)
 us:List Int
 f:Int
 p:Bool
def dH (x:DebR):List MV:=iC x.cash::(x.cl.map clM++(x.us.map iC++[iC x.f,bC x.p]))
def DebR.sf (x:DebR) (f:Int):DebR:=⟨x.cash,x.cl,x.us,f,x.p⟩
def DebR.sp (x:DebR) (p:Bool):DebR:=⟨x.cash,x.cl,x.us,x.f,p⟩
structure DebR.OK (x:DebR):Prop where
 cl:x.cl.length=10
 us:x.us.length=11
theorem jL {x:DebR} (h:x.OK):(dH x).length=24:=by
 simp [dH,h.cl,h.us]
theorem I9 {x y:DebR} (hx:x.OK) (hy:y.OK) (h:dH x=dH y):x=y:=by
 unfold dH at h;obtain⟨h1,h2⟩:=List.cons.inj h;obtain⟨h3,h4⟩:=ae8 h2 (by rw[aeg,aeg,hx.cl,hy.cl]);obtain⟨h5,h6⟩:=ae8 h4 (by rw[aeg,aeg,hx.us,hy.us]);obtain⟨h7,h8⟩:=List.cons.inj h6;obtain⟨h9,-⟩:=List.cons.inj h8;obtain⟨x1,x2,x3,x4,x5⟩:=x;obtain⟨y1,y2,y3,y4,y5⟩:=y;have e2:=ah (fun a b h=>Mm h) _ _ h3;have e3:=IS h5;simp only[iC,bC,MV.dat.injEq,Data.int.injEq,Data.bool.injEq,true_and] at h1 h7 h9;dsimp only at *;rw[h1,e2,e3,h7,h9]
section
variable {x:DebR} (h:x.OK)
include h
omit h in
theorem JR:aeR 1 (dH x)=[iC x.cash]:=rfl
omit h in
theorem JA {k:Nat} {l:List ClR} (hk:x.cl[k]?=some l):aeR 1 (aeS (1+k) (dH x))=[clM l]:=by
 have hlt:=(List.getElem?_eq_some_iff.1 hk).1;unfold dH;rw[Nat.add_comm,ae9,afa (by rw[aeg];omega),afb (by rw[afc,aeg];omega)];exact BM (f:=clM) hk
theorem sX {k:Nat} {z:Int} (hk:x.us[k]?=some z):aeR 1 (aeS (11+k) (dH x))=[iC z]:=by
 have hlt:=(List.getElem?_eq_some_iff.1 hk).1;unfold dH;rw[show 11+k=(10+k)+1 by omega,ae9,ae4,ae5 (by rw[aeg,h.cl];omega),aeg,h.cl,aet,show 10+k-10=k by omega,afa (by rw[aeg];omega),afb (by rw[afc,aeg];omega)]
 exact BM (f:=iC) hk
theorem z5:aeR 1 (aeS 22 (dH x))=[iC x.f]:=by
 unfold dH;rw[ae9,ae4,ae5 (by rw[aeg,h.cl];omega),aeg,h.cl,aet,ae4,ae5 (by rw[aeg,h.us];omega),aeg,h.us]
 rfl
theorem M7:aeR 1 (aeS 23 (dH x))=[bC x.p]:=by
 unfold dH;rw[ae9,ae4,ae5 (by rw[aeg,h.cl];omega),aeg,h.cl,aet,ae4,ae5 (by rw[aeg,h.us];omega),aeg,h.us]
 rfl
theorem KF (f:Int):aeR 22 (dH x)++[MV.dat (.int .i64 f)]++aeS 23 (dH x)=dH (x.sf f):=by
 have e:dH x=(iC x.cash::(x.cl.map clM++x.us.map iC))++[iC x.f,bC x.p]:=by simp [dH]
 have l:(iC x.cash::(x.cl.map clM++x.us.map iC)).length=22:=by simp [h.cl,h.us]
 rw[e,afb (by omega),aek (by omega),ae4,ae5 (by omega),l];simp [dH,DebR.sf,iC]
theorem zf (p:Bool):aeR 23 (dH x)++[MV.dat (.bool p)]++aeS 24 (dH x)=dH (x.sp p):=by
 have e:dH x=(iC x.cash::(x.cl.map clM++(x.us.map iC++[iC x.f])))++[bC x.p]:=by simp [dH]
 have l:(iC x.cash::(x.cl.map clM++(x.us.map iC++[iC x.f]))).length=23:=by simp [h.cl,h.us]
 rw[e,afb (by omega),aek (by omega),ae4,ae5 (by omega),l];simp [dH,DebR.sp,bC]
end
structure DebA where
 cash:List Int
 cs:List ClR
 fl:List Int
 P:List Bool
 g:Nat
 gs:List Nat
def DebA.deb (a:DebA) (i:Nat):DebR:=⟨a.cash.getD i 0,fL 10 fun k=>aX a.cs i k,fL 11 fun k=>aP a.cs i (k:Nat),a.fl.getD i 10,a.P.getD i false⟩
theorem DebA.deb_ok (a:DebA) (i:Nat):(a.deb i).OK:=⟨bT _ _,bT _ _⟩
structure DebA.At (a:DebA) (m:Mem):Prop where
 can:a.cs=aG a.cash.length a.cs
 fl:a.fl.length=a.cash.length
 pl:a.P.length=a.cash.length
 gl:a.gs.length=a.cash.length
 row:m 228023=some (a.g,fL a.cash.length fun i => .ptr (228500+i) (a.gs.getD i 0) 0)
 blk:∀ i,i<a.cash.length→m (228500+i)=some (a.gs.getD i 0,dH (a.deb i))
theorem i6 {α:Type} {d:α} {n:Nat} {a b:List α} (ha:a.length=n) (hb:b.length=n) (h:∀ i,i<n→a.getD i d=b.getD i d):a=b:=by
 apply ae6;intro i;rcases aeY i n with hi | hi
 ·have:=h i hi
  rw[adS,adS,aei (by omega),aei (by omega)] at this;rw[aei (by omega),aei (by omega)];exact congrArg some this
 ·rw[aeZ (by omega),aeZ (by omega)]
theorem Iq {α:Type} {n:Nat} {p q:Nat→α} (h:fL n p=fL n q):∀ i,i<n→p i=q i:=fun i hi=>by
 have h1:=cQ p hi;rw[h,cQ q hi] at h1;exact (Option.some.inj h1).symm
theorem DebA.uniq {a b:DebA} {m:Mem} (h:a.At m) (h':b.At m):a=b:=by
 obtain⟨a1,a2,a3,a4,a5,a6⟩:=a;obtain⟨b1,b2,b3,b4,b5,b6⟩:=b;obtain⟨c1,c2,c3,c4,c5,c6⟩:=h;obtain⟨d1,d2,d3,d4,d5,d6⟩:=h';dsimp only at *;rw[c5,Option.some.injEq,Prod.mk.injEq] at d5;obtain⟨rfl,hrow⟩:=d5
 have hn:a1.length=b1.length:=by
  have:=congrArg List.length hrow
  rwa [bT,bT] at this
 rw[←hn] at hrow d1 d2 d3 d4 d6
 have hg:a6=b6:=i6 (d:=0) c4 d4 fun i hi=>by
  have:=Iq hrow i hi;rw[MV.ptr.injEq] at this;exact this.2.1
 subst hg
 have hb:∀ i,i<a1.length→DebA.deb ⟨a1,a2,a3,a4,a5,a6⟩ i=DebA.deb ⟨b1,b2,b3,b4,a5,a6⟩ i:=fun i hi=>by
  have h1:=c6 i hi;rw[d6 i hi,Option.some.injEq,Prod.mk.injEq] at h1;exact (I9 (DebA.deb_ok _ _) (DebA.deb_ok _ _) h1.2).symm
 simp only[DebA.deb,DebR.mk.injEq] at hb;have e1:a1=b1:=i6 (d:=0) rfl hn.symm fun i hi=>(hb i hi).1
 subst e1
 have e2:a2=b2:=by
  rw[c1,d1];exact qr fun i hi k hk=>Iq (hb i hi).2.1 k hk
 have e3:a3=b3:=i6 (d:=10) c2 d2 fun i hi=>(hb i hi).2.2.2.1
 have e4:a4=b4:=i6 (d:=false) c3 d3 fun i hi=>(hb i hi).2.2.2.2
 rw[e2,e3,e4]
theorem DebA.At.fr {a:DebA} {mem m:Mem} {n:Nat} (h:a.At mem) (hf:FrK n mem m) (hn:n≠228) (h5:a.cash.length≤5):a.At m :=
 ⟨h.can,h.fl,h.pl,h.gl,by rw[hf 228023 (by omega)];exact h.row,fun i hi=>by rw[hf (228500+i) (by omega)];exact h.blk i hi⟩
def mf_rescue_day_1:MFunc :=
 { n:=6,np:=1,res:=[.t 2],body :=
 (.seq (.ops [
 Zb 2 false])
 (.seq (.ops [
 Zv 3 0,⟨some 4,none,.call fD [(.t 3)]⟩,Zt 5 4,Zv 2 5])
 .ret)) }
def mf_rescue_amount:MFunc :=
 { n:=9,np:=1,res:=[.t 2],body :=
 (.seq (.ops [
 Zb 2 false])
 (.seq (.ops [
 Zv 3 0,Zc 4 .geq 3 0,Zv 5 4,⟨some 6,some (5,true),.mv (.t 0)⟩,⟨some 7,some (5,true),.bin .leq (.t 6) (.c (ZI 1000000000000000))⟩,Zq 8 5 7,Zv 2 8])
 .ret)) }
def mf_rescue_day_2:MFunc :=
 { n:=42,np:=2,res:=[.t 3],body :=
 (.seq (.ops [
 Zk 2 252002 0,Zb 3 false])
 (.seq (.ops [
 Zf 4 0 2,Zl 5 1 4,Zc 6 .lss 5 0,Zv 7 6,⟨some 8,some (7,false),.fad 0 (.t 2)⟩,⟨some 9,some (7,false),.load 1 false (.t 8)⟩,⟨some 10,some (7,false),.load 1 false (.t 1)⟩,⟨some 11,some (7,false),.len (.t 10)⟩,⟨some 12,some (7,false),.bin .geq (.t 9) (.t 11)⟩,Zp 13 7 12,Zv 14 13,⟨some 15,some (14,false),.fad 1 (.t 2)⟩,⟨some 16,some (14,false),.load 1 false (.t 15)⟩,⟨some 17,some (14,false),.bin .lss (.t 16) (.c (.dat (.int .i64 (-1))))⟩,Zp 18 14 17,Zv 19 18,⟨some 20,some (19,false),.fad 1 (.t 2)⟩,⟨some 21,some (19,false),.load 1 false (.t 20)⟩,⟨some 22,some (19,false),.load 1 false (.t 1)⟩,⟨some 23,some (19,false),.len (.t 22)⟩,⟨some 24,some (19,false),.bin .geq (.t 21) (.t 23)⟩,Zp 25 19 24,Zv 26 25,⟨some 27,some (26,false),.fad 2 (.t 2)⟩,⟨some 28,some (26,false),.load 1 false (.t 27)⟩,⟨some 29,some (26,false),.bin .lss (.t 28) (.c (ZI 0))⟩,Zp 30 26 29,Zv 31 30,⟨some 32,some (31,false),.fad 2 (.t 2)⟩,⟨some 33,some (31,false),.load 1 false (.t 32)⟩,⟨some 34,some (31,false),.bin .geq (.t 33) (.c (ZI 10))⟩,Zp 35 31 34,Zv 36 35,⟨some 37,some (36,false),.fad 3 (.t 2)⟩,⟨some 38,some (36,false),.load 1 false (.t 37)⟩,⟨some 39,some (36,false),.call fD [(.t 38)]⟩,⟨some 40,some (36,false),.un .not (.t 39)⟩,Zp 41 36 40,Zv 3 41])
 .ret)) }
set_option maxHeartbeats 2000000
noncomputable def DZ:List Data→Option PRes:=FF (α:=Int × Int × Int) (fun (x,a,b)=>([.int .i64 x,.int .i64 a,.int .i64 b]:List Data)) (fun (x,a,b)=>some (.same (.bool (decide (a≤x)&&decide (x≤b)))))
theorem FG:∀ a b:Int × Int × Int,(fun (x,a,b)=>([.int .i64 x,.int .i64 a,.int .i64 b]:List Data)) a=(fun (x,a,b)=>([.int .i64 x,.int .i64 a,.int .i64 b]:List Data)) b→a=b:=by
  rintro⟨x1,a1,b1⟩ ⟨x2,a2,b2⟩ h;simp only[List.cons.injEq,Data.int.injEq,Data.agg.injEq,Data.sl.injEq,Data.bool.injEq,Data.str.injEq,Data.ptr.injEq,Data.tup.injEq,Prod.mk.injEq,true_and,and_true] at h ⊢
  first | exact h | simpa [aee,and_assoc] using h | grind
@[go_sem] theorem RS (x:Int) (a:Int) (b:Int):DZ [.int .i64 x,.int .i64 a,.int .i64 b]=some (.same (.bool (decide (a≤x)&&decide (x≤b)))):=aZ FG (x,a,b)
theorem Qp (T:Tab)  (x:Int) (a:Int) (b:Int) :
  wp T mf_clear_right_1.body (bG mf_clear_right_1.res (.same (.bool (decide (a≤x)&&decide (x≤b))))) ⟨az [.dat (.int .i64 x),.dat (.int .i64 a),.dat (.int .i64 b)],emp⟩:=by
 refine aq ?_;simp only[mf_clear_right_1];rcases c1:decide (a≤x)
 ·have c2:decide (x≥a)=false:=c1
  refine qI ?_
  repeat' (intro h<;>simp only[h,go_sem,go_sem_proc,aef,c1,c2,aej]<;>try refine qS ?_ ?_)
 ·have c2:decide (x≥a)=true:=c1
  refine qI ?_
  repeat' (intro h<;>simp only[h,go_sem,go_sem_proc,aef,c1,c2,adU]<;>try refine qS ?_ ?_)
noncomputable def JG:List Data→Option PRes:=FF (α:=Int) (fun (x:Int)=>([.int .i64 x,.ptr [.fn bn []]]:List Data)) (fun (x:Int)=>some (.same (.bool (!dN x))))
theorem Gx:∀ a b:Int,(fun (x:Int)=>([.int .i64 x,.ptr [.fn bn []]]:List Data)) a=(fun (x:Int)=>([.int .i64 x,.ptr [.fn bn []]]:List Data)) b→a=b:=by
  intro x1 x2 h;simp only[List.cons.injEq,Data.int.injEq,Data.agg.injEq,Data.sl.injEq,Data.bool.injEq,Data.str.injEq,Data.ptr.injEq,Data.tup.injEq,Prod.mk.injEq,true_and,and_true] at h ⊢
  first | exact h | simpa [aee,and_assoc] using h | grind
@[go_sem] theorem QS (x:Int):JG [.int .i64 x,.ptr [.fn bn []]]=some (.same (.bool (!dN x))):=aZ Gx x
theorem Qz (T:Tab) (Kj:T bn=mkE DZ) (x:Int) :
  wp T mf_clear_right_2.body (bG mf_clear_right_2.res (.same (.bool (!dN x)))) ⟨az [.dat (.int .i64 x),.dat (.ptr [.fn bn []])],emp⟩:=by
 refine aq ?_;simp only[mf_clear_right_2];unfold dN;refine qI ?_
 repeat' (intro h<;>simp only[h,go_sem,go_sem_proc,aef,Kj]<;>try refine qS ?_ ?_)
noncomputable def JQ:List Data→Option PRes:=FF (α:=Int × Int × Int × Int × Int) (fun (a,b,k,x,n)=>([.agg [.int .i64 a,.int .i64 b,.int .i64 k,.int .i64 x],.ptr [.fn bn []],.ptr [.int .i64 n]]:List Data)) (fun (a,b,k,x,n)=>aI (0≤n∧n≤1000000) (.same (.bool (!eZ n (a,b,k,x)))))
theorem Ho:∀ a b:Int × Int × Int × Int × Int,(fun (a,b,k,x,n)=>([.agg [.int .i64 a,.int .i64 b,.int .i64 k,.int .i64 x],.ptr [.fn bn []],.ptr [.int .i64 n]]:List Data)) a=(fun (a,b,k,x,n)=>([.agg [.int .i64 a,.int .i64 b,.int .i64 k,.int .i64 x],.ptr [.fn bn []],.ptr [.int .i64 n]]:List Data)) b→a=b:=by
  rintro⟨a1,b1,k1,x1,n1⟩ ⟨a2,b2,k2,x2,n2⟩ h;simp only[List.cons.injEq,Data.int.injEq,Data.agg.injEq,Data.sl.injEq,Data.bool.injEq,Data.str.injEq,Data.ptr.injEq,Data.tup.injEq,Prod.mk.injEq,true_and,and_true] at h ⊢
  first | exact h | simpa [aee,and_assoc] using h | grind
@[go_sem] theorem Qs (a:Int) (b:Int) (k:Int) (x:Int) (n:Int) (hc:0≤n∧n≤1000000):JQ [.agg [.int .i64 a,.int .i64 b,.int .i64 k,.int .i64 x],.ptr [.fn bn []],.ptr [.int .i64 n]]=some (.same (.bool (!eZ n (a,b,k,x)))):=(aZ Ho (a,b,k,x,n)).trans (ap hc _)
theorem P8 (T:Tab) (Kj:T bn=mkE DZ) (a:Int) (b:Int) (k:Int) (x:Int) (n:Int) (hc:0≤n∧n≤1000000) :
  wp T mf_clear_right_3.body (bG mf_clear_right_3.res (.same (.bool (!eZ n (a,b,k,x))))) ⟨az [.dat (.agg [.int .i64 a,.int .i64 b,.int .i64 k,.int .i64 x]),.dat (.ptr [.fn bn []]),.dat (.ptr [.int .i64 n])],emp⟩:=by
 refine aq ?_;simp only[mf_clear_right_3];have w:IntKind.i64.wrap (n-1)=n-1:=by rw[al _ (by omega) (by omega)]
 have e:eZ n (a,b,k,x)=((decide (0≤a)&&decide (a≤n-1))&&((decide (-1≤b)&&decide (b≤n-1))&&((decide (0≤k)&&decide (k≤9))&&(decide (0≤x)&&decide (x≤1000000000000000))))):=by
  rw[Bool.eq_iff_iff,rightC_iff];simp only[adW,decide_eq_true_eq];omega
 rw[e];rcases c1:(decide (0≤a)&&decide (a≤n-1))<;>rcases c2:(decide (-1≤b)&&decide (b≤n-1))<;>rcases c3:(decide (0≤k)&&decide (k≤9))<;>rcases c4:(decide (0≤x)&&decide (x≤1000000000000000))
 all_goals
      refine qI ?_
      repeat' (intro h<;>simp only[h,go_sem,go_sem_proc,aef,Kj,w,c1,c2,c3,c4]<;>try refine qS ?_ ?_)
end Go.Mini
